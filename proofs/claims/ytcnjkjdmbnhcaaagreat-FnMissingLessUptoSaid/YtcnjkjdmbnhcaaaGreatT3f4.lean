/-
  THE ABSTRACT WALK AND THE WALKS, part 4 of 7: the parts F45, F46, F112, G3, G4, F52, F53, F54, F55, F56, F57, F58, F70, F71, F72, F74, F75, F76, F77, F78, F73, F18, F19, F31, F32.
-/
import Derived.Test.YtcnjkjdmbnhcaaaGreatT3f3
namespace Go.Proofs.YtcnjkjdmbnhcaaaGreat
open Go
set_option linter.unusedSimpArgs false
set_option linter.unusedVariables false
set_option maxRecDepth 100000
set_option maxHeartbeats 2000000
structure VarsOk (l:List Bd) (vs:List Vt):Prop where
 len:l.length=vs.length
 nod:(l.map Bd.var).Nodup
 sub:∀x∈l.map Bd.var,x∈vs.map Vt.var
theorem zlo {f:Pat→Val→List Bd×Bool}{g:Ty→Pat→List Vt}:∀ {a:List Ty}{b:List Pat}{c:List Val}{acc:List Bd},a.length=b.length→b.length=c.length→
  (∀i,i<b.length→(f (nth b i) (nth c i)).2=true→zcg (g (nth a i) (nth b i))=true→VarsOk (f (nth b i) (nth c i)).1 (g (nth a i) (nth b i)))→((za5 g a b).map Vt.var).Nodup→
  (zbo f b c acc).2=true→∃X,(zbo f b c acc).1=acc++X∧VarsOk X (za5 g a b)
 | [],[],[],acc,_,_,_,_,_=>⟨[],by simp[zbo],⟨rfl,by simp,by simp⟩⟩
 |t::a,p::b,v::c,acc,h1,h2,h3,h4,h5=>by
  unfold zbo at h5 ⊢;split at h5
  ·rename_i hok;rw[if_pos hok];simp only[za5,xaf] at h4 ⊢;obtain⟨n1,n2,n3⟩:=List.nodup_append.1 h4;have k0:=h3 0 (by simp) hok (decide_eq_true n1);obtain⟨X,e,k⟩:=zlo (f:=f) (g:=g) (a:=a) (b:=b) (c:=c) (acc:=acc++(f p v).1) (by simpa using h1) (by simpa using h2) (fun i hi=>h3 (i+1) (by simpa using hi)) n2 h5;refine⟨(f p v).1++X,by rw[e,List.append_assoc],⟨?_, ?_, ?_⟩⟩
   ·have:=k0.len;have e0:(f p v).1.length=(g t p).length:=this;rw[xaa,xaa,e0,k.len]
   ·rw[xaf];exact List.nodup_append.2 ⟨k0.nod,k.nod,fun x hx y hy=>n3 x (k0.sub x hx) y (k.sub y hy)⟩
   ·intro x hx;rw[xaf] at hx ⊢;rcases List.mem_append.1 hx with h|h
    ·exact List.mem_append_left _ (k0.sub x h)
    ·exact List.mem_append_right _ (k.sub x h)
  ·exact absurd h5 (by simp)
 | [],_::_,_,_,h,_,_,_,_=>by simp at h
 |_::_,[],_,_,h,_,_,_,_=>by simp at h
 | [],[],_::_,_,_,h,_,_,_=>by simp at h
 |_::_,_::_,[],_,_,h,_,_,_=>by simp at h
theorem zs9 {a b:List Vt} (ha:zcg a=true) (hb:zcg b=true) (h:zdD a b=true):a.length=b.length∧∀x∈b.map Vt.var,x∈a.map Vt.var:=by
 rw[zmb hb] at h;unfold zd1 at h;simp only[xad,decide_eq_true_eq,Bool.not_eq_true',List.any_eq_false,Bool.not_eq_true,decide_eq_false_iff_not,Classical.not_not] at h;have na:=of_decide_eq_true ha;refine⟨h.1,fun x hx=>?_⟩;by_cases hm:x∈a.map Vt.var
 ·exact hm
 ·have:=zkl (a:=x::a.map Vt.var) (b:=b.map Vt.var) (List.nodup_cons.2 ⟨hm,na⟩) (fun y hy=>by
   rcases List.mem_cons.1 hy with rfl|hy
   ·exact hx
   ·obtain⟨z,hz,rfl⟩:=List.mem_map.1 hy;exact List.mem_map.2 ⟨z,h.2 z hz,rfl⟩)
  simp only[xab,xac] at this;omega
theorem zfy {w:List Data}:∀(n m:Nat){t:Ty}{p:Pat}{v:Val},MatchOk w n m t p v→linP w n t p=true→(zaw n p v).2=true→VarsOk (zaw n p v).1 (zaA w n t p)
 |0,m,t,p,v,h,_,_=>by have:=h.shape;simp[zar] at this
 |n+1,m,t,p,v,h,hl,hm=>by
  have hop:=zf4 h.shape;have hnod:=of_decide_eq_true (zeu w (n+1) t p h.shape hl);by_cases h5:p.op=5
  ·obtain⟨hk,k0,k1⟩:=h.two h5;have e1:=zuz (w:=w) (t:=t) h5;obtain⟨x,y,hxy⟩:∃x y,p.kids=[x,y]:=by
    match hp:p.kids,hk with
    | [x,y],_=>exact⟨x,y,rfl⟩
   have ex:nth p.kids 0=x:=by rw[hxy];rfl
   have ey:nth p.kids 1=y:=by rw[hxy];rfl
   simp only[linP,xad,if_pos h5,e1,hxy] at hl;rw[ex] at k0;rw[ey] at k1;have e2:zaA w (n+1) t p=zaA w n t x:=by
    simp only[zaA,zaO,zcP,e1,hxy,if_pos h5];rw[if_neg (by omega)];simp[za5]
   simp only[all2,xad,and_true] at hl;rw[e2];cases hm0:(zaw n (nth p.kids 0) v).2 with
   |true=>
    rw[zhE h5 hm0];rw[ex] at hm0 ⊢;exact zfy n m k0 hl.1.1 hm0
   |false=>
    rw[zhF h5 hm0] at hm ⊢;rw[ey] at hm ⊢;have k:=zfy n m k1 hl.1.2 hm;obtain⟨s1,s2⟩:=zs9 (zeu w n t x k0.shape hl.1.1) (zeu w n t y k1.shape hl.1.2) hl.2;exact⟨by rw[k.len];exact s1.symm,k.nod,fun z hz=>s2 z (k.sub z hz)⟩
  have hv:zcP w t p=zad w t p:=by unfold zcP;rw[if_neg h5]
  by_cases h1:p.op=1
  ·rw[zfW h1];have:zaA w (n+1) t p=[]:=by
    simp only[zaA,zaO,hv];rw[if_neg (by omega)];unfold zad;rw[if_neg (by omega),if_neg (by omega),if_neg (by omega)];simp[za5]
   rw[this];exact⟨rfl,by simp,by simp⟩
  by_cases h2:p.op=2
  ·rw[zhl h2];have:zaA w (n+1) t p=[⟨p.var,t⟩]:=by
    simp only[zaA,zaO,hv];rw[if_pos (by omega)];unfold zad;rw[if_neg (by omega),if_neg (by omega),if_neg (by omega)];simp[za5]
   rw[this];exact⟨rfl,by simp,by simp⟩
  by_cases h3:p.op=3
  ·rw[zfe h3];have:zaA w (n+1) t p=[]:=by
    simp only[zaA,zaO,hv];rw[if_neg (by omega)];unfold zad;rw[if_neg (by omega),if_neg (by omega),if_neg (by omega)];simp[za5]
   rw[this];exact⟨rfl,by simp,by simp⟩
  simp only[linP,if_neg h5,xad] at hl;by_cases h6:p.op=6
  ·obtain⟨hk,k0⟩:=h.one h6;have e1:=zuA (w:=w) (t:=t) h6;obtain⟨x,hx⟩:∃x,p.kids=[x]:=by
    match hp:p.kids,hk with
    | [x],_=>exact⟨x,rfl⟩
   have ex:nth p.kids 0=x:=by rw[hx];rfl
   have e2:zaA w (n+1) t p=⟨p.var,t⟩::zaA w n t x:=by
    simp only[zaA,zaO,hv,e1,hx];rw[if_pos (by omega)];simp[za5]
   rw[zfY h6] at hm ⊢;rw[e1,hx] at hl;simp only[all2,xad,and_true] at hl;rw[ex] at k0 hm ⊢;rw[e2] at hnod ⊢;have k:=zfy n m k0 hl.1 hm;rw[xae] at hnod;have hnod':=List.nodup_cons.1 hnod;refine⟨by simp[k.len], ?_,fun z hz=>?_⟩
   ·rw[xae];exact List.nodup_cons.2 ⟨fun hh=>hnod'.1 (k.sub _ hh),k.nod⟩
   ·rw[xae] at hz ⊢;rcases List.mem_cons.1 hz with h|h
    ·rw[h];exact List.mem_cons_self
    ·exact List.mem_cons_of_mem _ (k.sub z h)
  have h4:p.op=4:=by omega
  by_cases hc:p.ctor=v.ctor
  ·obtain⟨hlen,k,hk⟩:=h.kid h4 hc;rw[zhm h4 hc] at hm ⊢;have e2:zaA w (n+1) t p=za5 (zaA w n) (zad w t p) p.kids:=by
    simp only[zaA,zaO,hv];rw[if_neg (by omega),List.nil_append]
   rw[e2] at hnod ⊢;have hl2:=(zbA h.shape).2;obtain⟨X,e,kx⟩:=zlo (f:=zaw n) (g:=zaA w n) (a:=zad w t p) (acc:=[]) hl2.symm hlen (fun i hi hmi hni=>zfy n k (hk i hi) (zfQ hl2.symm hl.1 i (by omega)) hmi) hnod hm;rw[e,List.nil_append];exact kx
  ·rw[zfX h4 hc] at hm;exact absurd hm (by simp)
theorem zt3 {w:List Data}{m:Nat}{t:Ty}{p:Pat}{v:Val} (h:MatchOk w 10 m t p v) (hp:isP w t p=true) (hm:(zaw 10 p v).2=true):(zaw 10 p v).1.length≤6:=by
 unfold isP at hp;simp only[xad] at hp;have k:=zfy 10 m h hp.2.2 hm;rw[k.len];have e:=(ze7 w 10 t p 0).1;have hw:zbG w 10 t p 0=true:=by
  unfold zbG;rw[hp.1,hp.2.2];have:=of_decide_eq_true hp.2.1;simp;omega
 rw[if_pos hw] at e;have:=zlW w 10 t p 0 _ e;exact zpa this.1 this.2
theorem zgN {w:List Data}:∀(n m:Nat){t:Ty}{p:Pat}{v:Val},MatchOk w n m t p v→(zaw n p v).2=true→
  FnD Tryz.prog 136 [.agg [.d (.i p.op),.d (.i p.ctor),.d (.i p.n),.d (.i p.m),.d (.i p.var),.d (zae p.kids)],.agg [.d (.i v.ctor),.d (.i v.num),.d (zbH v.kids)]] [] (.tup [.gv 9 ((zaw n p v).1.map Bd.c),.d (.bool true)]) [(9,some (.tok ((zaw n p v).1.map Bd.c).length 4))]
 |0,m,t,p,v,h,_=>by have:=h.shape;simp[zar] at this
 |n+1,m,t,p,v,h,hm=>by
  have hop:=zf4 h.shape;have k4:=h.kid;have k5:=h.two;have k6:=h.one;have hsz:=h.psz;have hps:=Pat.size_eq p;have hkl:=((Pat.ok_iff p).1 h.pok).1;have mok:=fun {t:Ty}{q:Pat}{u:Val} (hs:zar w n t q=true) (hu:u.ok)=>zev n hs hu;by_cases h4:p.op=4
  ·have hc:p.ctor=v.ctor:=by
    by_cases hc:p.ctor=v.ctor
    ·exact hc
    ·rw[zfX h4 hc] at hm;exact absurd hm (by simp)
   obtain⟨hl,k,hkm⟩:=k4 h4 hc;have hm4:=zhm (n:=n) h4 hc;have hall:=fun(i:Nat) (hi:i<p.kids.length)=>zmY (f:=zaw n) (a:=p.kids) (b:=v.kids) (acc:=[]) (by rw[←hm4];exact hm) i hi (by omega);refine bd Tryz.f136 105 [10] [] fun w0 F0 own kept hk=>?_;refine bx 3002 ?_;refine bx 3003 ?_;refine evs [10] [] ?_;refine sq ?_ ?_<;>intro h1 h1p h1s;try simp only[Q,Pat.cs_len] at h1p
   exfalso;omega;try simp only[Q,Pat.cs_len] at h1p
   refine sq ?_ ?_<;>intro h2 h2p h2s;try simp only[Q,Pat.cs_len] at h2p
   exfalso;omega;try simp only[Q,Pat.cs_len] at h2p
   refine sq ?_ ?_<;>intro h3 h3p h3s;try simp only[Q,Pat.cs_len] at h3p
   exfalso;omega;try simp only[Q,Pat.cs_len] at h3p
   refine sq ?_ ?_<;>intro h4 h4p h4s;try simp only[Q,Pat.cs_len] at h4p
   exfalso;omega;try simp only[Q,Pat.cs_len] at h4p
   refine sq ?_ ?_<;>intro h5 h5p h5s;try simp only[Q,Pat.cs_len] at h5p
   exfalso;omega;try simp only[Q,Pat.cs_len] at h5p
   refine sq ?_ ?_<;>intro h6 h6p h6s;try simp only[Q,Pat.cs_len] at h6p
   exfalso;omega;try simp only[Q,Pat.cs_len] at h6p
   refine xaE 9 4 .none rfl rfl ?_;refine tv ?_;refine xaj (ι:=Nat×List Bd) hk (fun x=>[(83,.d (.i (x.1:Int))),(10,.gv 9 (x.2.map Bd.c))]) [4,5,11,12,13,14,84,85,86,87,88,89,90,91,92,93,94,95,96,97,98,99,100,101,102,103] (fun x=>[(9,some (.tok ((x.2.map Bd.c)).length 4))]) (fun x=>x.1≤p.kids.length∧zbo (zaw n) (p.kids.drop x.1) (v.kids.drop x.1) x.2=zbo (zaw n) p.kids v.kids []∧x.2.length+Pats.size (p.kids.drop x.1)≤Pats.size p.kids) (fun x=>p.kids.length-x.1) (0,[]) ⟨by simp,rfl,by simp⟩ ⟨⟨_,rfl,xap ?_⟩,⟨⟨_,rfl,LeA.gvg ?_⟩,trivial⟩⟩ ⟨zaa ?_,trivial⟩ (fun x=>rfl) (fun x hg1=>?_);iterate 3 focus (rfl)
   refine evc [10] [] ?_;refine sq ?_ ?_<;>intro h7 h7p h7s;try simp only[Q,Pat.cs_len] at h7p
   refine xaV sl45 .none rfl rfl rfl rfl (zaC (by omega)) rfl ?_;refine evs [10] [] ?_;refine ab 3012 tz56 ?_;refine evs [10] [] ?_;refine so ty56 ?_;refine tv ?_;refine xaV sl49 .none rfl rfl rfl rfl (zoB (by omega)) rfl ?_;refine evd [10] [] ?_;refine wc zel (zcl n k (hkm x.1 (by omega))) rfl rfl ?_;refine evd [10] [] ?_;refine dr ?_;refine sq ?_ ?_<;>intro h8 h8p h8s;try simp only[Q,Pat.cs_len] at h8p
   exfalso;have:=hall x.1 (by omega);simp_all;try simp only[Q,Pat.cs_len] at h8p
   refine xaC sl52 zpW .none rfl rfl rfl rfl (zdk rfl (by rfl)) (by intro x hx;exact zkO _ x hx) (by have:=(mok (hkm x.1 (by omega)).shape (hkm x.1 (by omega)).vok).2;have:=zdW (l:=p.kids) (i:=x.1) (by omega);have:=hg1.2.2;simp;omega) (by have:=(mok (hkm x.1 (by omega)).shape (hkm x.1 (by omega)).vok).2;have:=zdW (l:=p.kids) (i:=x.1) (by omega);have:=hg1.2.2;simp;omega) ?_;refine asg ?_;refine tv ?_;refine ar ?_;refine Exists.intro ((x.1+1,x.2++(zaw n (nth p.kids x.1) (nth v.kids x.1)).1)) ⟨⟨by dsimp only;omega,by dsimp only;rw[←zln (by omega) (by omega) (hall x.1 (by omega))];exact hg1.2.1,by have:=(mok (hkm x.1 (by omega)).shape (hkm x.1 (by omega)).vok).2;have:=zdW (l:=p.kids) (i:=x.1) (by omega);have:=hg1.2.2;dsimp only;rw[xaa];omega⟩,(by dsimp only;omega),sx ⟨⟨_,rfl,xap ?_⟩,⟨⟨_,rfl,LeA.gvg ?_⟩,trivial⟩⟩ ⟨zaa ?_,trivial⟩⟩;iterate 3 focus ((simp;done))
   try simp only[Q,Pat.cs_len] at h7p
   refine rn [(9,some (.tok ((zaw (n+1) p v).1.map Bd.c).length 4))] (r2 rfl rfl) (.tup (.cons (.gvg ?_) (.cons (.eqd ?_) .nil))) ⟨rfl,rfl⟩ (SubH.get ⟨?_,trivial⟩) (zav rfl);rotate_left 3;all_goals (((first|rfl|(rw[hm4,←hg1.2.1,zmZ (by omega)];all_goals rfl));done))
  by_cases h5:p.op=5
  ·obtain⟨hl,k0,k1⟩:=k5 h5;cases hm0:(zaw n (nth p.kids 0) v).2 with
   |true=>
    have e:=zhE (n:=n) h5 hm0;rw[e];refine bd Tryz.f136 105 [] [] fun w0 F0 own kept hk=>?_;refine bx 3002 ?_;refine bx 3003 ?_;refine ev ?_;refine sq ?_ ?_<;>intro h1 h1p h1s;try simp only[Q,Pat.cs_len] at h1p
    exfalso;omega;try simp only[Q,Pat.cs_len] at h1p
    refine sq ?_ ?_<;>intro h2 h2p h2s;try simp only[Q,Pat.cs_len] at h2p
    exfalso;omega;try simp only[Q,Pat.cs_len] at h2p
    refine sq ?_ ?_<;>intro h3 h3p h3s;try simp only[Q,Pat.cs_len] at h3p
    exfalso;omega;try simp only[Q,Pat.cs_len] at h3p
    refine sq ?_ ?_<;>intro h4 h4p h4s;try simp only[Q,Pat.cs_len] at h4p
    refine xaV (i:=0) sl45 .none rfl rfl rfl rfl (zaC (by omega)) rfl ?_;refine evd [] [] ?_;refine Walk.call (cr:=[9]) zel (zgN n m k0 hm0) rfl .none rfl rfl (LeL.refl _) trivial rfl rfl rfl ?_;refine evd [] [] ?_;refine dr ?_;refine sq ?_ ?_<;>intro h5 h5p h5s;try simp only[Q,Pat.cs_len] at h5p
    refine rn [(9,some (.tok ((zaw n (nth p.kids 0) v).1.map Bd.c).length 4))] (r2 rfl rfl) (.tup (.cons (.gvg ?_) (.cons (.eqd ?_) .nil))) ⟨rfl,rfl⟩ (SubH.get ⟨?_,trivial⟩) (zav rfl);rotate_left 3;try simp only[Q,Pat.cs_len] at h5p
    exfalso;simp_all;try simp only[Q,Pat.cs_len] at h4p
    exfalso;omega;all_goals (first|((rfl);done)|(rfl))
   |false=>
    have e:=zhF (n:=n) h5 hm0;rw[e] at hm ⊢;have hf0:=zcl n m k0;rw[hm0] at hf0;refine bd Tryz.f136 105 [] [] fun w0 F0 own kept hk=>?_;refine bx 3002 ?_;refine bx 3003 ?_;refine ev ?_;refine sq ?_ ?_<;>intro h1 h1p h1s;try simp only[Q,Pat.cs_len] at h1p
    exfalso;omega;try simp only[Q,Pat.cs_len] at h1p
    refine sq ?_ ?_<;>intro h2 h2p h2s;try simp only[Q,Pat.cs_len] at h2p
    exfalso;omega;try simp only[Q,Pat.cs_len] at h2p
    refine sq ?_ ?_<;>intro h3 h3p h3s;try simp only[Q,Pat.cs_len] at h3p
    exfalso;omega;try simp only[Q,Pat.cs_len] at h3p
    refine sq ?_ ?_<;>intro h4 h4p h4s;try simp only[Q,Pat.cs_len] at h4p
    refine xaV (i:=0) sl45 .none rfl rfl rfl rfl (zaC (by omega)) rfl ?_;refine evd [] [] ?_;refine wc zel (hf0) rfl rfl ?_;refine evd [] [] ?_;refine dr ?_;refine sq ?_ ?_<;>intro h5 h5p h5s;try simp only[Q,Pat.cs_len] at h5p
    exfalso;simp_all;try simp only[Q,Pat.cs_len] at h5p
    refine xaV (i:=1) sl45 .none rfl rfl rfl rfl (zaC (by omega)) rfl ?_;refine evd [] [] ?_;refine Walk.call (cr:=[9]) zel (zgN n m k1 hm) rfl .none rfl rfl (LeL.refl _) trivial rfl rfl rfl ?_;refine evd [] [] ?_;refine dr ?_;refine rn [(9,some (.tok ((zaw n (nth p.kids 1) v).1.map Bd.c).length 4))] (r2 rfl rfl) (.tup (.cons (.gvg ?_) (.cons (.eqd ?_) .nil))) ⟨rfl,rfl⟩ (SubH.get ⟨?_,trivial⟩) (zav rfl);rotate_left 3;try simp only[Q,Pat.cs_len] at h4p
    exfalso;omega;all_goals (first|((rfl);done)|(rfl))
  ·have hw:p.op=3→zap v.num p.n p.m=true:=fun h3=>by rw[zfe h3] at hm;exact hm
   have h6m:p.op=6→(zaw n (nth p.kids 0) v).2=true:=fun h6=>by rw[zfY h6] at hm;exact hm
   refine bd Tryz.f136 105 [4] [] fun w0 F0 own kept hk=>?_;refine bx 3002 ?_;refine bx 3003 ?_;refine asg ?_;refine evs [4] [] ?_;refine sq ?_ ?_<;>intro h1 h1p h1s;try simp only[Q,Pat.cs_len] at h1p
   refine xaE 9 4 .none rfl rfl ?_;refine evs [4] [] ?_;refine rn [(9,some (.tok ((zaw (n+1) p v).1.map Bd.c).length 4))] (r2 rfl rfl) (.tup (.cons (.gvg ?_) (.cons (.eqd ?_) .nil))) ⟨rfl,rfl⟩ (SubH.get ⟨?_,trivial⟩) (zav rfl);rotate_left 3;try simp only[Q,Pat.cs_len] at h1p
   refine sq ?_ ?_<;>intro h2 h2p h2s;try simp only[Q,Pat.cs_len] at h2p
   refine bu [0,1] [_,_] zpP ?_;refine xbm 9 sl52 znN rfl (by decide) (ks:=[0]) (xs:=[_]) rfl rfl (by decide) (by decide) .none rfl rfl rfl rfl rfl ?_;refine asg ?_;refine evs [4] [] ?_;refine rn [(9,some (.tok ((zaw (n+1) p v).1.map Bd.c).length 4))] (r2 rfl rfl) (.tup (.cons (.gvg ?_) (.cons (.eqd ?_) .nil))) ⟨rfl,rfl⟩ (SubH.get ⟨?_,trivial⟩) (zav rfl);rotate_left 3;try simp only[Q,Pat.cs_len] at h2p
   refine sq ?_ ?_<;>intro h3 h3p h3s;try simp only[Q,Pat.cs_len] at h3p
   refine wc zeb (zbe) rfl rfl ?_;refine xaE 9 4 .none rfl rfl ?_;refine evs [4] [] ?_;refine rn [(9,some (.tok ((zaw (n+1) p v).1.map Bd.c).length 4))] (r2 rfl rfl) (.tup (.cons (.gvg ?_) (.cons (.eqd ?_) .nil))) ⟨rfl,rfl⟩ (SubH.get ⟨?_,trivial⟩) (zav rfl);rotate_left 3;try simp only[Q,Pat.cs_len] at h3p
   refine sq ?_ ?_<;>intro h4 h4p h4s;try simp only[Q,Pat.cs_len] at h4p
   exfalso;omega;try simp only[Q,Pat.cs_len] at h4p
   refine sq ?_ ?_<;>intro h5 h5p h5s;try simp only[Q,Pat.cs_len] at h5p
   refine xaV (i:=0) sl45 .none rfl rfl rfl rfl (zaC (by have:=(k6 (by omega)).1;omega)) rfl ?_;refine evd [4] [] ?_;refine wc zel (zcl n m (k6 (by omega)).2) rfl rfl ?_;refine evd [4] [] ?_;refine dr ?_;refine bu [0,1] [_,_] zpP ?_;refine xbm 9 sl52 znN rfl (by decide) (ks:=[0]) (xs:=[_]) rfl rfl (by decide) (by decide) .none rfl rfl rfl rfl rfl ?_;refine evs [4] [] ?_;refine xaC sl52 zpW .none rfl rfl rfl rfl (zdk rfl (by rfl)) (by intro x hx;exact zkO _ x hx) (by have:=(mok (k6 (by omega)).2.shape h.vok).2;have:=zb6 (l:=p.kids) (i:=0) (by have:=(k6 (by omega)).1;omega);simp;omega) (by have:=(mok (k6 (by omega)).2.shape h.vok).2;have:=zb6 (l:=p.kids) (i:=0) (by have:=(k6 (by omega)).1;omega);simp;omega) ?_;refine evs [4] [] ?_;refine asg ?_;refine evs [4] [] ?_;refine rn [(9,some (.tok ((zaw (n+1) p v).1.map Bd.c).length 4))] (r2 rfl rfl) (.tup (.cons (.gvg ?_) (.cons (.eqd ?_) .nil))) ⟨rfl,rfl⟩ (SubH.get ⟨?_,trivial⟩) (zav rfl);rotate_left 3;try simp only[Q,Pat.cs_len] at h5p
   exfalso;omega;all_goals (first|((first|rfl|(rw[zfW (by omega)];all_goals rfl)|(rw[zhl (by omega)];all_goals rfl)|(rw[zfe (by omega)];all_goals first|rfl|(rw[hw (by omega)];done))|(rw[zfY (by omega)];all_goals first|rfl|(rw[h6m (by omega)];done))|(rw[hw (by omega)];done)|(rw[h6m (by omega)];done));done)|(first|(rw[zfW (by omega)];all_goals rfl)|(rw[zhl (by omega)];all_goals rfl)|(rw[zfe (by omega)];all_goals rfl)|(rw[zfY (by omega)];show some (Res.tok _ _)=some (Res.tok _ _);simp;omega)))
theorem ztF {n:Nat}{S:List Bd} (h:n=S.length):zbK n 4 (bdC S)=some (S.map Bd.c):=by
 rw[h,←xac (f:=Bd.c)];exact zuO S
theorem idsD (l:List D):AV.idsL (l.map AV.d)=[]:=by
 induction l with
 |nil=>rfl
 |cons x r ih=>simpa [AV.idsL,AV.ids] using ih
theorem zmN {w:List Data}{m:Nat}{t:Ty}{p:Pat}{v:Val} (h:MatchOk w 10 m t p v) (hp:isP w t p=true):
  FnD Tryz.prog 81 [.agg [.d (.i p.op),.d (.i p.ctor),.d (.i p.n),.d (.i p.m),.d (.i p.var),.d (zae p.kids)],.agg [.d (.i v.ctor),.d (.i v.num),.d (zbH v.kids)]] [] (.tup [.d (zqq (zfZ 10 p v).1),.d (.bool (zfZ 10 p v).2)]) []:=by
 unfold zfZ;cases hm:(zaw 10 p v).2 with
 |false=>
  have hf:=zcl 10 m h;rw[hm] at hf;rw[if_neg (by simp)];refine bd Tryz.f81 36 [] [] fun w0 F0 own kept hk=>?_;refine bx 3002 ?_;refine bx 3003 ?_;refine ev ?_;refine wc zel (hf) rfl rfl ?_;refine ev ?_;refine sq ?_ ?_<;>intro h1 h1p h1s;try simp only[Q] at h1p
  refine rn0 (r2 rfl rfl) (.tup (.cons (.nild ?_) (.cons (.eqd ?_) .nil)));rotate_left 2;try simp only[Q] at h1p
  exfalso;simp_all;all_goals (rfl)
 |true=>
  have hf:=zgN 10 m h hm;have h6:=zt3 h hp hm;have hbo:=zvn (zev 10 h.shape h.vok).1;have hsl:=zuq (zaw 10 p v).1;have hvs:=h.vsz;rw[if_pos rfl];have hLm:∀L:List Bd,(L.map Bd.c).length=L.length:=fun L=>by simp
  have hLm:=hLm (zaw 10 p v).1;have hso:zdB ((zaw 10 p v).1.length-1) 1 (zaw 10 p v).1=zk1 (zaw 10 p v).1:=rfl;generalize (zaw 10 p v).1=L at *;generalize hS:zk1 L=S at *;have hrow:∀ {i:Nat},i<L.length→(nth S i).val.ok∧(nth S i).val.size≤v.size:=fun hi=>hbo _ (zaf (by omega));refine bd Tryz.f81 36 [26] [4,999999] fun w0 F0 own kept hk=>?_;refine Walk.box (id:=3002) .none rfl rfl rfl (by rfl) (by rfl) (by rfl) (by rfl) ?_;refine Walk.box (id:=3003) .none rfl rfl rfl (by rfl) (by rfl) (by rfl) (by rfl) ?_;refine evs [26] [] ?_;refine Walk.call (cr:=[9]) zel (hf) rfl .none rfl rfl (LeL.refl _) trivial rfl rfl rfl ?_;refine evs [26] [] ?_;refine sq ?_ ?_<;>intro h1 h1p h1s;try simp only[Q,xac] at h1p
  exfalso;simp_all;try simp only[Q,xac] at h1p
  refine CWp.fixV hk 6 9 4 rfl rfl rfl (fun hx2=>?_) (fun hx2=>?_);refine evc [26] [] ?_;refine Walk.call (cr:=[]) zti (zjI) rfl .none rfl rfl (LeL.refl _) trivial rfl (by rfl) (by rfl) ?_;refine tv ?_;refine xaj (ι:=Unit) hk (fun u=>[(22,.d (.i 0))]) [8,9,23,24,25,26,27,28,29,30,31,32,33,34] (fun u=>[]) (fun u=>True) (fun u=>0) () trivial ⟨⟨_,rfl,xap ?_⟩,trivial⟩ trivial (fun x=>rfl) (fun u hg1=>?_);focus (rfl)
  refine evc [26] [4,999999] ?_;refine sq ?_ ?_<;>intro h3 h3p h3s;try simp only[Q,xac] at h3p
  exfalso;simp at h3;try simp only[Q,xac] at h3p
  refine CWp.ret ?_;refine rn0 (r2 rfl rfl) (.tup (.cons (.eqd ?_) (.cons (.eqd ?_) .nil)));rotate_left 2;refine evc [26] [] ?_;refine Walk.call (cr:=[]) zti (zkA (L:=L) (by omega) zw2 (fun a b=>zk6)) rfl .none rfl rfl (.cons (xar (by(simp[xac];done))) (.cons (.refl _) .nil)) ⟨rfl,trivial⟩ rfl zkm rfl ?_;refine tv ?_;refine xaj (ι:=Nat) hk (fun i=>[(22,.d (.i (i:Int)))]) [8,9,23,24,25,26,27,28,29,30,31,32,33,34] (fun i=>[(9,some (.box (bdC S)))]) (fun i=>i≤L.length) (fun i=>L.length-i) 0 (by omega) ⟨⟨_,rfl,xap ?_⟩,trivial⟩ ⟨?_,trivial⟩ (fun x=>rfl) (fun i hg1=>?_);focus (rfl)
  focus ((show some (Res.box _)=some (Res.box _);rw[hso]))
  refine evc [26] [4,999999] ?_;refine sq ?_ ?_<;>intro h4 h4p h4s;try simp only[Q,xac] at h4p
  refine xaZ sl52 .none rfl rfl rfl rfl (by omega) ?_;refine xa2 zii .none rfl rfl rfl ((ziz (by omega))) ?_;refine Walk.alloc (id:=3009) znN rfl .none rfl (by(simp only[zax,occH,occE,Res.ids,xag,List.nil_append,AV.idsL,AV.ids,zah,zag,zaq,zaK,xae,List.map_nil,upC,idsD,ze9];rfl)) (by(simp only[zax,occH,occE,Res.ids,xag,List.nil_append,AV.idsL,AV.ids,zah,zag,zaq,zaK,xae,List.map_nil,upC,idsD,ze9];rfl)) (by(simp only[zax,occH,occE,Res.ids,xag,List.nil_append,AV.idsL,AV.ids,zah,zag,zaq,zaK,xae,List.map_nil,upC,idsD,ze9];rfl)) ?_;refine evs [26] [] ?_;refine so zii ?_;refine tv ?_;refine Walk.call (cr:=[]) zsz (ze5 (nth S i).val.size (Nat.le_refl _) (hrow (by omega)).1) rfl .none rfl rfl (LeL.refl _) trivial rfl (by rfl) (by rfl) ?_;refine xaZ sl52 .none rfl rfl rfl rfl (by omega) ?_;refine evs [26] [] ?_;refine Walk.store ty62 .none rfl rfl rfl rfl rfl rfl (by simp) ((zud (by omega))) ?_;refine tv ?_;refine ar ?_;refine Exists.intro (i+1) ⟨(by omega),(by omega),sx ⟨⟨_,rfl,xap ?_⟩,trivial⟩ ⟨?_,trivial⟩⟩;focus (rfl)
  focus (rfl)
  try simp only[Q,xac] at h4p
  refine CWp.frz hk 4 9 _ _ rfl rfl (ztF (by simp;omega)) rfl ?_;refine CWp.ret ?_;refine rn0 (r2 rfl rfl) (.tup (.cons (.eqd ?_) (.cons (.eqd ?_) .nil)));rotate_left 2;all_goals (first|rfl|(rw[show S=[] from List.eq_nil_of_length_eq_zero (by have hz:L.map Bd.c=[]:=(by assumption);have hz2:=congrArg List.length hz;simp only[xah] at hz2;omega)];rfl))
def zck (w:List Data) (a k:Int) (p:Pat) (v:Val):List Bd×Bool:=if zdV w a k p=true∧isV w ⟨a,k⟩ v=true then zfZ 10 p v else ([],false)
theorem zu4 {w:List Data}{a k:Int}{p:Pat}{v:Val} (h1:isP w ⟨a,k⟩ p=true) (h2:isV w ⟨a,k⟩ v=true) (hp:p.ok) (hv:v.ok):MatchOk w 10 10 ⟨a,k⟩ p v:=by
 unfold isP at h1;unfold isV at h2;simp only[xad,decide_eq_true_eq] at h1 h2;exact⟨h1.1,h2.1,hp,hv,by omega,by omega⟩
theorem zfu {w:List Data} (hs:WSmall w){a k:Int}{p:Pat}{v:Val} (hp:p.ok) (hv:v.ok):
  FnD Tryz.prog 30 [.d (zaj w),.agg [.d (.i a),.d (.i k)],.agg [.d (.i p.op),.d (.i p.ctor),.d (.i p.n),.d (.i p.m),.d (.i p.var),.d (zae p.kids)],.agg [.d (.i v.ctor),.d (.i v.num),.d (zbH v.kids)]] [] (.tup [.d (zqq (zck w a k p v).1),.d (.bool (zck w a k p v).2)]) []:=by
 have hpv:=zjc hs (a:=a) (k:=k) hp;have pv:=pval hs (a:=a) (k:=k) (p:=p);have hpi:zdV w a k p=true→isP w ⟨a,k⟩ p=true:=fun h=>by unfold zdV at h;rw[xad] at h;exact h.2
 refine bd Tryz.f30 27 [] [] fun w0 F0 own kept hk=>?_;refine bx 3005 ?_;refine bx 3006 ?_;refine bx 3007 ?_;refine ev ?_;refine wc zx5 (hpv) rfl rfl ?_;refine ev ?_;refine sq ?_ ?_<;>intro h1 h1p h1s;try simp only[Q] at h1p
 refine sqT ?_;refine rn0 (r2 rfl rfl) (.tup (.cons (.nild ?_) (.cons (.eqd ?_) .nil)));rotate_left 2;try simp only[Q] at h1p
 refine Walk.call (cr:=[]) zx6 (zmS (pv (by assumption)).dp.wt (pv (by assumption)).tin hv) rfl (.some rfl rfl h1) rfl rfl (LeL.refl _) trivial rfl rfl rfl ?_;refine evs [] [(15,false)] ?_ ⟨⟨_,rfl,h1⟩,trivial⟩;refine sq ?_ ?_<;>intro h3 h3p h3s;try simp only[Q] at h3p
 refine rn0 (r2 rfl rfl) (.tup (.cons (.nild ?_) (.cons (.eqd ?_) .nil)));rotate_left 2;try simp only[Q] at h3p
 refine wc zx7 (zmN (zu4 (hpi (by simp_all)) (by simp_all) hp hv) (hpi (by simp_all))) rfl rfl ?_;refine ev ?_;refine rn0 (r2 rfl rfl) (.tup (.cons (.eqd ?_) (.cons (.eqd ?_) .nil)));rotate_left 2;all_goals (unfold zck;first|(rw[if_pos ⟨by simp_all,by simp_all⟩];all_goals rfl)|(rw[if_neg (by intro hh;simp_all)];all_goals rfl))
theorem zg9 {xs:List Pat}{f:Nat} (hs:xs.length≤1000000000000) (hcal:Callee Tryz.prog f)
  (hf:∀p∈xs,FnD Tryz.prog f [.agg [.d (.i p.op),.d (.i p.ctor),.d (.i p.n),.d (.i p.m),.d (.i p.var),.d (zae p.kids)],.agg [.d (.i p.op),.d (.i p.ctor),.d (.i p.n),.d (.i p.m),.d (.i p.var),.d (zae p.kids)]] [] (.d (.bool true)) []):
  FnD Tryz.prog 105 [.d (zae xs),.d (zae xs),.fn f []] [] (.d (.bool true)) []:=by
 refine bd Tryz.f105 32 [] [] fun w0 F0 own kept hk=>?_;refine sq ?_ ?_<;>intro h1 h1p h1s;try simp only[Q,Pat.cs_len] at h1p
 exfalso;simp at h1;try simp only[Q,Pat.cs_len] at h1p
 refine xaj (ι:=List (Pat)×List (Pat)) hk (fun x=>[(17,.d (.i (x.1.length:Int)))]) [6,7,8,9,18,19,20,21,22,23,24,25,26,27,28,29,30,31] (fun x=>[]) (fun x=>x.1++x.2=xs) (fun x=>x.2.length) ([],xs) (by simp) ⟨⟨_,rfl,xap ?_⟩,trivial⟩ trivial (fun x=>rfl) (fun x hg1=>?_);focus ((simp_all;done))
 obtain⟨pre,rest⟩:=x;dsimp only at hg1 ⊢;refine evc [] [] ?_;refine sq ?_ ?_<;>intro h2 h2p h2s;try simp only[Q,Pat.cs_len] at h2p
 rcases rest with _|⟨y,rest⟩
 ·exfalso;simp_all
 refine xaV sl45 .none rfl rfl rfl rfl (Pat.cs_at' hg1) rfl ?_;refine ev ?_;refine ab 3008 tz56 ?_;refine ev ?_;refine so ty56 ?_;refine tv ?_;refine xaV sl45 .none rfl rfl rfl rfl (Pat.cs_at' hg1) rfl ?_;refine ev ?_;refine ab 3009 tz56 ?_;refine so ty56 ?_;refine tv ?_;refine xaI (cr:=[]) hcal (hf y (by rw[←hg1];simp)) rfl .none rfl rfl rfl (LeL.refl _) trivial rfl rfl rfl ?_;refine ev ?_;refine sq ?_ ?_<;>intro h3 h3p h3s;try simp only[Q,Pat.cs_len] at h3p
 exfalso;simp at h3;try simp only[Q,Pat.cs_len] at h3p
 refine ar ?_;refine Exists.intro ((pre++[y],rest)) ⟨(by have hz:=hg1;rw[←hz];simp),(by simp),sx ⟨⟨_,rfl,xap ?_⟩,trivial⟩ trivial⟩;focus ((simp_all;done))
 try simp only[Q,Pat.cs_len] at h2p
 have hrest:rest=[]:=by
  rcases rest with _|⟨a,b⟩
  ·rfl
  ·exfalso;have hz:=congrArg List.length (hg1);simp only[xaa,xab,xac] at hz;omega
 subst hrest;refine rn0 (r1 rfl) (.eqd ?_);rotate_left;all_goals (rfl)
theorem zfd:∀(n:Nat){p:Pat},p.size≤n→p.ok→FnD Tryz.prog 62 [.agg [.d (.i p.op),.d (.i p.ctor),.d (.i p.n),.d (.i p.m),.d (.i p.var),.d (zae p.kids)],.agg [.d (.i p.op),.d (.i p.ctor),.d (.i p.n),.d (.i p.m),.d (.i p.var),.d (zae p.kids)]] [] (.d (.bool true)) []
 |0,p,h,_=>by rw[Pat.size_eq] at h;omega
 |n+1,p,h,hok=>by
  rw[Pat.size_eq] at h;rw[Pat.ok_iff] at hok;refine bd Tryz.f62 45 [] [] fun w0 F0 own kept hk=>?_;refine bx 3002 ?_;refine bx 3003 ?_;refine ev ?_;refine sq ?_ ?_<;>intro h1 h1p h1s;try simp only[Q] at h1p
  refine sq ?_ ?_<;>intro h2 h2p h2s;try simp only[Q] at h2p
  refine sq ?_ ?_<;>intro h3 h3p h3s;try simp only[Q] at h3p
  refine sq ?_ ?_<;>intro h4 h4p h4s;try simp only[Q] at h4p
  refine sq ?_ ?_<;>intro h5 h5p h5s;try simp only[Q] at h5p
  refine Walk.call (cr:=[]) zwI (zg9 hok.1 zvB (fun x hx=>zfd n (by have:=Pats.size_mem hx;omega) (Pats.ok_mem hok.2 x hx))) rfl (.some rfl rfl h5) rfl rfl (LeL.refl _) trivial rfl rfl rfl ?_;refine evs [] [(38,true)] ?_ ⟨⟨_,rfl,h5⟩,trivial⟩;focus (refine rn0 (r1 rfl) (.eqd ?_);all_goals ((simp_all;done)))
  try simp only[Q] at h5p
  focus (refine rn0 (r1 rfl) (.eqd ?_);all_goals ((simp_all;done)))
  try simp only[Q] at h4p
  refine sqF ?_;focus (refine rn0 (r1 rfl) (.eqd ?_);all_goals ((simp_all;done)))
  try simp only[Q] at h3p
  refine sqF ?_;refine sqF ?_;focus (refine rn0 (r1 rfl) (.eqd ?_);all_goals ((simp_all;done)))
  try simp only[Q] at h2p
  refine sqF ?_;refine sqF ?_;refine sqF ?_;focus (refine rn0 (r1 rfl) (.eqd ?_);all_goals ((simp_all;done)))
  try simp only[Q] at h1p
  refine sqF ?_;refine sqF ?_;refine sqF ?_;refine sqF ?_;focus (refine rn0 (r1 rfl) (.eqd ?_);all_goals ((simp_all;done)))
theorem zaz {l:List Pat} (hl:l.length≤1000000000000) (hok:∀p∈l,p.ok):FnD Tryz.prog 28 [.d (zae l),.d (zae l)] [] (.d (.bool true)) []:=by
 refine bd Tryz.f28 27 [] [] fun w0 F0 own kept hk=>?_;refine sq ?_ ?_<;>intro h1 h1p h1s;try simp only[Q,Pat.cs_len] at h1p
 exfalso;simp at h1;try simp only[Q,Pat.cs_len] at h1p
 refine xaj (ι:=List (Pat)×List (Pat)) hk (fun x=>[(5,.d (.i (x.1.length:Int)))]) [4,11,12,13,14,15,16,17,18,19,20,21,22,23,24,25,26] (fun x=>[]) (fun x=>x.1++x.2=l) (fun x=>x.2.length) ([],l) (by simp) ⟨⟨_,rfl,xap ?_⟩,trivial⟩ trivial (fun x=>rfl) (fun x hg1=>?_);focus (first|rfl|(simp;done)|(simp_all;done)|omega)
 obtain⟨pre,rest⟩:=x;dsimp only at hg1 ⊢;refine evc [] [] ?_;refine sq ?_ ?_<;>intro h2 h2p h2s;try simp only[Q,Pat.cs_len] at h2p
 rcases rest with _|⟨y,rest⟩
 ·exfalso;simp_all
 refine xaV sl45 .none rfl rfl rfl rfl (Pat.cs_at' hg1) rfl ?_;refine evd [] [] ?_;refine xaV sl45 .none rfl rfl rfl rfl (Pat.cs_at' hg1) rfl ?_;refine evd [] [] ?_;refine wc zvB (zfd _ (Nat.le_refl _) (hok y (by rw[←hg1];simp))) rfl rfl ?_;refine evd [] [] ?_;refine dr ?_;refine sq ?_ ?_<;>intro h3 h3p h3s;try simp only[Q,Pat.cs_len] at h3p
 exfalso;simp at h3;try simp only[Q,Pat.cs_len] at h3p
 refine ar ?_;refine Exists.intro ((pre++[y],rest)) ⟨(by have hz:=hg1;rw[←hz];simp),(by simp),sx ⟨⟨_,rfl,xap ?_⟩,trivial⟩ trivial⟩;focus (first|rfl|(simp;done)|(simp_all;done)|omega)
 try simp only[Q,Pat.cs_len] at h2p
 have hrest:rest=[]:=by
  rcases rest with _|⟨a,b⟩
  ·rfl
  ·exfalso;have hz:=congrArg List.length (hg1);simp only[xaa,xab,xac] at hz;omega
 subst hrest;refine rn0 (r1 rfl) (.eqd ?_);rotate_left;all_goals (rfl)
theorem zeT {w:List Data} (hs:WSmall w){a k:Int}{l:List Pat}{v:Val} (hl:l.length≤1000000000000) (hok:∀p∈l,p.ok) (hv:v.ok):
  FnD Tryz.prog 31 [.d (zaj w),.agg [.d (.i a),.d (.i k)],.d (zae l),.agg [.d (.i v.ctor),.d (.i v.num),.d (zbH v.kids)]] [] (.d (.i (l.countP (fun p=>(zck w a k p v).2):Nat))) []:=by
 have hc:=fun(r:List Pat)=>List.countP_le_length (p:=fun p=>(zck w a k p v).2) (l:=r);refine bd Tryz.f31 34 [] [] fun w0 F0 own kept hk=>?_;refine bx 3005 ?_;refine bx 3007 ?_;refine ev ?_;refine xaj (ι:=List (Pat)×List (Pat)) hk (fun x=>[(10,.d (.i (x.1.length:Int))),(9,.d (.i (x.1.countP (fun p=>(zck w a k p v).2):Nat)))]) [11,12,13,14,15,16,17,18,19,20,21,22,23,24,25,26,27,28,29,30,31,32] (fun x=>[]) (fun x=>x.1++x.2=l) (fun x=>x.2.length) ([],l) (by simp) ⟨⟨_,rfl,xap ?_⟩,⟨⟨_,rfl,xap ?_⟩,trivial⟩⟩ trivial (fun x=>rfl) (fun x hg1=>?_);iterate 2 focus (first|rfl|(rw[List.countP_append,List.countP_singleton];simp_all;done))
 obtain⟨pre,rest⟩:=x;dsimp only at hg1 ⊢;refine evc [] [] ?_;refine sq ?_ ?_<;>intro h1 h1p h1s;try simp only[Q,Pat.cs_len] at h1p
 rcases rest with _|⟨y,rest⟩
 ·exfalso;simp_all
 refine xaV sl45 .none rfl rfl rfl rfl (Pat.cs_at' hg1) rfl ?_;refine evd [] [] ?_;refine wc zvA (zfu hs (hok y (by rw[←hg1];simp)) hv) rfl rfl ?_;refine evd [] [] ?_;refine dr ?_;refine sq ?_ ?_<;>intro h2 h2p h2s;try simp only[Q,Pat.cs_len] at h2p
 refine ar ?_ (by(have hcp:=hc pre;have hcl:=congrArg List.length hg1;simp only[xaa,xab] at hcl;constructor<;>omega));refine ar ?_ (by(have hcp:=hc pre;have hcl:=congrArg List.length hg1;simp only[xaa,xab] at hcl;constructor<;>omega));refine Exists.intro ((pre++[y],rest)) ⟨(by have hz:=hg1;rw[←hz];simp),(by simp),sx ⟨⟨_,rfl,xap ?_⟩,⟨⟨_,rfl,xap ?_⟩,trivial⟩⟩ trivial⟩;iterate 2 focus (first|(simp;done)|(rw[List.countP_append,List.countP_singleton];simp_all;done))
 try simp only[Q,Pat.cs_len] at h2p
 refine ar ?_ (by(have hcp:=hc pre;have hcl:=congrArg List.length hg1;simp only[xaa,xab] at hcl;constructor<;>omega));refine Exists.intro ((pre++[y],rest)) ⟨(by have hz:=hg1;rw[←hz];simp),(by simp),sx ⟨⟨_,rfl,xap ?_⟩,⟨⟨_,rfl,xap ?_⟩,trivial⟩⟩ trivial⟩;iterate 2 focus (first|(simp;done)|(rw[List.countP_append,List.countP_singleton];simp_all;done))
 try simp only[Q,Pat.cs_len] at h1p
 have hrest:rest=[]:=by
  rcases rest with _|⟨a,b⟩
  ·rfl
  ·exfalso;have hz:=congrArg List.length (hg1);simp only[xaa,xab,xac] at hz;omega
 subst hrest;refine rn0 (r1 rfl) (.eqd ?_);rotate_left;all_goals ((rw[List.append_nil] at hg1;subst hg1;rfl))
end Go.Proofs.YtcnjkjdmbnhcaaaGreat
namespace Go.Proofs.YtcnjkjdmbnhcaaaGreat
open Go
set_option linter.unusedSimpArgs false
set_option linter.unusedVariables false
section
variable {c:Ctx}{all:Array Oper}{chk:List Rec→Prop}{os:List Oper}{recs:List Rec}{env:Env}{hp:Hp}{Q:St→Prop}
variable {ty:Nat}{pos:String}{af:Array Edge}{g:Option (Nat×Bool)}{pg:List (Nat×AV)}{t:TypeId}{x:Operand}
theorem Walk.clearB {id off n k e yb:Nat}{cs cs' zs:List AV} (ht:SlT c.P t e k yb) (hz:TyZ c.P e k zs) (hzk:zs.length=k) (hk:0<k) (h1:ziu zs=true) (hg:GH all env g pg) (hx:opd env x=some (.mo id off n))
  (hb:getH hp id=some (.box cs)) (hput:putC cs off (za7 n zs)=some cs')
  (hn:Walk c all chk os (zan (pg++opF x (.mo id off n)) [(id,.box cs)] [] ⟨none,[(id,some (.box cs'))]⟩::recs) ⟨env,(id,some (.box cs'))::hp⟩ Q):
  Walk c all chk (⟨none,.call ⟨.builtin .clear,#[x],#[t]⟩,ty,pos,af,g⟩::os) recs ⟨env,hp⟩ Q:=by
 refine⟨pg++opF x (.mo id off n),[(id,.box cs)],[],_, ?_,zay hg.facts (za9 hx),hh1 hb,by simp,hn⟩;intro s a w hrel hp' hh _ K Q' hK;obtain⟨G,hr⟩:=hrel;have hbx:=hh1' hh;have e1:=hr.opd (zba hx (fun p hm=>hp' p (by simp[hm])));obtain⟨bl,o,cap,hl,he,hcap,ho⟩:=e1.mo_eq;obtain⟨b',us,et,h2,h3,h4,h5,h6⟩:=hr.heap id _ hbx;obtain rfl:=zc3 hl.1 h2;have hall:PreR G (tokf s.hp) w cs us:=⟨h4,h6⟩;unfold wpO;rw[if_pos (hg.gf.wanted hr (fun p hm=>hp' p (by simp[hm])))];unfold Oper.wp;rcases Nat.eq_zero_or_pos n with hn0|hn0
 ·subst hn0;have hcs:cs'=cs:=by
   simp only[za7] at hput;cases cs<;>simp only[putC,Option.some.injEq] at hput<;>exact hput.symm
  subst hcs;have hrun:(execOp a.eval ⟨none,.call ⟨.builtin .clear,#[x],#[t]⟩,ty,pos,af,g⟩).run c.P w = .ok (.value (.tuple #[])) w:=by
   simp[execOp,resolve,invoke,builtin,he,Builtin.clear_,run_underlying ht.und]
  rw[hrun,Oper.upon_value];refine hK _ _ ⟨G, ?_⟩;have hsame:∀i,getH ((id,some (Res.box cs'))::s.hp) i=getH s.hp i:=fun i=>by
   rw[zal];split
   ·rename_i e;subst e;exact hbx.symm
   ·rfl
  have htk:tokf ((id,some (Res.box cs'))::s.hp)=tokf s.hp:=by funext i;unfold tokf;rw[hsame]
  have:R c G ⟨s.env,(id,some (Res.box cs'))::s.hp⟩ a w:=
   ⟨hr.size,hr.defers,fun i v h=>by rw[htk];exact hr.slots i v h,fun i r h=>by rw[htk];exact hr.heap i r (by rw[←hsame];exact h),
   fun i j h1 h2=>hr.disj i j (by rw[←hsame];exact h1) (by rw[←hsame];exact h2),fun i h=>hr.new i (by rw[←hsame];exact h),hr.frm,hr.top,
   fun i l h'=>by
    show(G.loc i).head?=l.head?∧(getH ((id,some (Res.box cs'))::s.hp) i).isSome∧tokf ((id,some (Res.box cs'))::s.hp) i=none
    rw[hsame,htk];exact hr.kept i l h'⟩
  exact this.putNone
 ·obtain rfl:o=off:=ho.resolve_left (by omega);obtain⟨ie,z,z1,z2,z3,z4⟩:=hz.inf;have hz0:=zbV (G:=G) (T:=tokf s.hp) (w:=w) z4;have hzr:=zfl (by simpa using hz0) n (by omega);have hzs:z.cells.size=k:=by have:=hz0.size;simp at this;omega
  let vl:List Value:=(Builtin.zeroCells z.cells n).toList
  have hvl:vl.toArray=(Array.range (n*zs.length)).map (z.cells[· % z.cells.size]!):=by
   simp only[vl,Builtin.zeroCells,Array.toArray_toList];rw[hzs,hzk]
  have hvr:AllR G (tokf s.hp) w (za7 n zs) vl.toArray:=by rw[hvl];exact hzr
  have hne:za7 n zs≠[]:=fun h=>by
   have:=congrArg List.length h;rw[zeP] at this;have h2:0<n*zs.length:=Nat.mul_pos hn0 (by omega);simp only[xah] at this;omega
  obtain⟨p1,p2,p3⟩:=zdo hput;have p2':=p2.resolve_left hne;have hsz:=hvr.size;have hsv:vl.toArray.size=vl.length:=by simp only[List.size_toArray]
  simp only[List.size_toArray] at hsz;have hzone:∀i (hi:i<zs.length) (hv:i<z.cells.size),z.cells[i].oneCell'=true:=fun i hi hv=>by
   have:=hz0.rel i hi (by simpa using hv);simp only[List.getElem_toArray,Array.getElem_toList] at this;exact this.one (ziU h1 _ (List.getElem_mem hi))
  have hst:=run_storeCells_at c.P bl o et vl 0 us w h3 (by omega) (fun u hu=>by
   simp only[vl,Builtin.zeroCells,Array.toList_map,List.mem_map] at hu;obtain⟨i,_,rfl⟩:=hu;have hm:i % z.cells.size<z.cells.size:=Nat.mod_lt _ (by omega);rw[getElem!_pos z.cells _ hm];exact hzone _ (by omega) hm)
  simp only[Nat.add_zero] at hst;have hrow:PreR G (tokf s.hp) w cs' (us.toList.take o++vl++us.toList.drop (o+vl.length)).toArray:=by
   refine hall.put hvr hput ?_ (fun i=>?_)
   ·simp only[List.size_toArray,xaa,List.length_take,List.length_drop,Array.length_toList];omega
   ·simp only[List.getElem?_toArray];rw[List.append_assoc,List.getElem?_append];simp only[List.length_take,Array.length_toList];by_cases hi:i<o
    ·rw[if_pos (by omega),if_neg (by omega)];simp[hi]
    ·rw[if_neg (by omega),List.getElem?_append];have hm:min o us.size=o:=by omega
     rw[hm];by_cases hi2:i<o+vl.length
     ·rw[if_pos (by omega),if_pos (by omega)]
     ·rw[if_neg (by omega),if_neg (by omega)];rw[List.getElem?_drop,show o+vl.length+(i-o-vl.length)=i by omega];simp
  have hrun:(execOp a.eval ⟨none,.call ⟨.builtin .clear,#[x],#[t]⟩,ty,pos,af,g⟩).run c.P w = .ok (.value (.tuple #[])) (w.setRow bl (us.toList.take o++vl++us.toList.drop (o+vl.length)).toArray):=by
   obtain⟨m,rfl⟩:∃m,n=m+1:=⟨n-1,by omega⟩;have hzv:(zeroValue e).run c.P w = .ok z w:=zlU z1 z3;simp only[vl] at hst;simp[execOp,resolve,invoke,builtin,he,Builtin.clear_,run_underlying ht.und,hzv,hst,vl]
  rw[hrun,Oper.upon_value];exact hK _ _ ⟨G,(hr.setBox hbx h2 h3 h5 hrow).putNone⟩
end
theorem zwh {G G':Gh}{T T':TokF}{w:World}{id n k b:Nat}{us:Array Value}{e:TypeId}{x:Value}{cs:List AV}{es:List (List D)} (hx:RelA G T w (.ms id n) x) (h1:G.loc id=[b]) (h2:w.heap[b]?=some (.cells us e (0,0))) (h3:cs.length≤us.size)
  (h5:∀i (hi:i<cs.length) (hv:i<us.size),RelA G T w cs[i] us[i]) (hFb:G'.F b=us.size) (hcell:∀y o,o<G.F y→o<G'.F y∧w.cell? ⟨y,o,none⟩=w.cell? ⟨y,o,none⟩) (hc:zbK n k (cs.take (n*k))=some es):RelA G' T' w (.d (.sl es)) x:=by
 obtain⟨c1,c2,c3,c4⟩:=zd5 hc;have c3':n*k≤cs.length:=by rw[List.length_take] at c3;omega
 obtain⟨b',cap,hl,he,hcap⟩:=hx.ms_eq;obtain rfl:=(zc3 hl.1 h1).symm;rw[he];refine .d ?_;have hn':n=es.length:=c1.symm;rw[hn'];refine .sl es k b 0 cap (fun x=>us.getD x undef) c2 (by omega) (fun x hx=>?_) (fun i hi j hj=>?_)
 ·have h3':x<cs.length:=by rw[←c1] at c3';omega
  have hxs:x<us.size:=Nat.lt_of_lt_of_le h3' h3;refine⟨by rw[hFb];omega, ?_⟩;simp[World.cell?,h2,hxs]
 ·have hjk:j<k:=by rw[←c2 _ (List.getElem_mem hi)];exact hj
  have hltn:i*k+j<n*k:=by
   rw[←c1];have:(i+1)*k≤es.length*k:=Nat.mul_le_mul_right _ (by omega);rw[Nat.add_mul] at this;omega
  have hlt:i*k+j<cs.length:=by omega
  have hlu:i*k+j<us.size:=by omega
  have h8:=c4 i hi j hj (by rw[List.length_take];omega);rw[List.getElem_take] at h8;have h6:=(h5 _ hlt hlu).toD h8;have h7:us.getD (i*k+j) undef=us[i*k+j]:=by simp[Array.getD,hlu]
  rw[h7];exact h6.mono hcell
def zqx (env:Env) (hp:Hp) (j:Nat):Bool:=
 (match getH hp j with|none=>true|some _=>false)&&(env.all fun x=>match getE env x.1 with|some v=> !za8 j v.ids|none=>true)&&(hp.all fun x=>match getH hp x.1 with|some r=> !za8 j r.ids|none=>true)
theorem zqz:∀ {env:Env}{i:Nat}{v:AV},getE env i=some v→∃u,(i,u)∈env
 |(k,x)::r,i,v,h=>by
  simp only[getE] at h;cases hb:Nat.beq k i with
  |true=>obtain rfl:=Nat.eq_of_beq_eq_true hb;exact⟨x,by simp⟩
  |false=>
   simp only[hb,cond_false] at h;obtain⟨u,hu⟩:=zqz h;exact⟨u,List.mem_cons_of_mem _ hu⟩
theorem zrt {env:Env}{hp:Hp}{j:Nat} (h:zqx env hp j=true):getH hp j=none∧zdn j ⟨env,hp⟩:=by
 simp only[zqx,xad,List.all_eq_true] at h;obtain⟨⟨h1,h2⟩,h3⟩:=h;refine⟨?_,fun i v hv hm=>?_,fun i r hr hm=>?_⟩
 ·cases hg:getH hp j with
  |none=>rfl
  |some x=>simp[hg] at h1
 ·obtain⟨u,hu⟩:=zqz hv;have:=h2 _ hu;rw[show getE env (i,u).1=some v from hv] at this;change (!za8 j v.ids)=true at this
  rw[zaY.2 hm] at this;cases this
 ·obtain⟨u,hu⟩:=zi9 hr;have:=h3 _ hu;rw[show getH hp (i,u).1=some r from hr] at this;change (!za8 j r.ids)=true at this
  rw[zaY.2 hm] at this;cases this
theorem CWp.tokDrop {c:Ctx}{env:Env}{hp:Hp}{K:Kt}{code:Code} (t i:Nat){n k:Nat}{xs:List (List D)} (ht:getE env t=some (.gl i xs)) (hi:getH hp i=some (.tok n k))
  (hn:CWp c code ⟨(t,.d (.sl xs))::env,(i,none)::hp⟩ K):CWp c code ⟨env,hp⟩ K:=by
 rintro a w ⟨G,hr⟩
 have g1:∀x,x≠i→getH ((i,none)::hp) x=getH hp x:=fun x h1=>by rw[zal,if_neg h1]
 have gi:getH ((i,none)::hp) i=none:=by rw[zal,if_pos rfl]
 have Ti:tokf hp i=some (n,k):=zau.2 hi;have Ti':tokf ((i,none)::hp) i=none:=by unfold tokf;rw[gi]
 have hT:Turn c G ⟨env,hp⟩ w G ((i,none)::hp) [i]:=by
  refine⟨fun x hx=>?_,fun x hx=>rfl,fun b _=>rfl,fun b o ho=>ho,hr.top,fun x hx=>?_,fun x hx hs b hb=>?_,fun x hx y hy hxy h1 h2 b hb=>?_,fun x hx l hl=>?_⟩
  ·simp only[List.mem_cons,List.not_mem_nil,or_false] at hx;exact g1 x hx
  ·simp only[List.mem_cons,List.not_mem_nil,or_false] at hx;subst hx;exact .inr ⟨.inl rfl,fun p hp'=>by rw[Ti'] at hp';cases hp'⟩
  ·simp only[List.mem_cons,List.not_mem_nil,or_false] at hx;subst hx;rw[gi] at hs;cases hs
  ·simp only[List.mem_cons,List.not_mem_nil,or_false] at hx hy;exact absurd (hx.trans hy.symm) hxy
  ·have hk:=hr.kept x l hl;simp only[List.mem_cons,List.not_mem_nil,or_false] at hx;subst hx;have:=hk.2.2;rw[show tokf (St.mk env hp).hp x=some (n,k) from Ti] at this;cases this
 have hR:=hT.fin hr (fun x hx r hxr=>by
  simp only[List.mem_cons,List.not_mem_nil,or_false] at hx;subst hx;rw[gi] at hxr;cases hxr)
 refine hn a w ⟨G,hR.slot ?_⟩;have hs:=hr.slots t _ ht;cases hs with
 |gl h h2=>exact .d h
theorem R.tokMove {c:Ctx}{G:Gh}{s:St}{a:Act}{w:World} (hr:R c G s a w) (i j:Nat){n k:Nat} (m:Nat) (hi:getH s.hp i=some (.tok n k)) (h0:getH s.hp j=none) (hocc:zdn j s):
  ∃G':Gh,R c G' ⟨s.env,(j,some (.tok m k))::(i,none)::s.hp⟩ a w∧G'.F=G.F∧G'.loc j=G.loc i∧tokf ((j,some (Res.tok m k))::(i,none)::s.hp) j=some (m,k):=by
 have hji:j≠i:=fun e=>by subst e;rw[h0] at hi;cases hi
 have g1:∀x,x≠j→x≠i→getH ((j,some (Res.tok m k))::(i,none)::s.hp) x=getH s.hp x:=fun x h1 h2=>by
  rw[zal,if_neg h1,zal,if_neg h2]
 have gj:getH ((j,some (Res.tok m k))::(i,none)::s.hp) j=some (.tok m k):=by rw[zal,if_pos rfl]
 have gi:getH ((j,some (Res.tok m k))::(i,none)::s.hp) i=none:=by rw[zal,if_neg (fun e=>hji e.symm),zal,if_pos rfl]
 have Ti:tokf s.hp i=some (n,k):=zau.2 hi;have Tj:tokf ((j,some (Res.tok m k))::(i,none)::s.hp) j=some (m,k):=zau.2 gj;have Ti':tokf ((j,some (Res.tok m k))::(i,none)::s.hp) i=none:=by unfold tokf;rw[gi]
 let G':Gh:={ G with loc:=fun x=>bif Nat.beq x j then G.loc i else G.loc x }
 have lj:G'.loc j=G.loc i:=by simp[G']
 have lo:∀x,x≠j→G'.loc x=G.loc x:=fun x h=>by simp[G',zgm h]
 have hsi:(getH s.hp i).isSome:=by rw[hi];rfl
 have hT:Turn c G s w G' ((j,some (Res.tok m k))::(i,none)::s.hp) [i,j]:=by
  refine⟨fun x hx=>?_,fun x hx=>?_,fun b _=>rfl,fun b o ho=>ho,hr.top,fun x hx=>?_,fun x hx hs b hb=>?_,fun x hx y hy hxy h1 h2 b hb=>?_,fun x hx l hl=>?_⟩
  ·simp only[List.mem_cons,List.not_mem_nil,or_false,not_or] at hx;exact g1 x hx.2 hx.1
  ·simp only[List.mem_cons,List.not_mem_nil,or_false,not_or] at hx;exact lo x hx.2
  ·simp only[List.mem_cons,List.not_mem_nil,or_false] at hx;rcases hx with rfl|rfl
   ·exact .inr ⟨.inl (lo _ (fun e=>hji e.symm)),fun p hp'=>by rw[Ti'] at hp';cases hp'⟩
   ·exact .inl hocc
  ·simp only[List.mem_cons,List.not_mem_nil,or_false] at hx;rcases hx with rfl|rfl
   ·rw[gi] at hs;cases hs
   ·exact⟨i,by simp,hsi,by rw[lj] at hb;exact hb⟩
  ·simp only[List.mem_cons,List.not_mem_nil,or_false] at hx hy;rcases hx with rfl|rfl
   ·rw[gi] at h1;cases h1
   ·rcases hy with rfl|rfl
    ·rw[gi] at h2;cases h2
    ·exact absurd rfl hxy
  ·have hk:=hr.kept x l hl;simp only[List.mem_cons,List.not_mem_nil,or_false] at hx;rcases hx with rfl|rfl
   ·have:=hk.2.2;rw[Ti] at this;cases this
   ·have:=hk.2.1;rw[h0] at this;cases this
 have hR:=hT.fin hr (fun x hx r hxr=>by
  simp only[List.mem_cons,List.not_mem_nil,or_false] at hx;rcases hx with rfl|rfl
  ·rw[gi] at hxr;cases hxr
  ·rw[gj] at hxr;cases hxr;intro b hb;rw[lj] at hb;exact hr.heap i _ hi b hb)
 exact⟨G',hR,rfl,lj,Tj⟩
theorem CWp.tokRen {c:Ctx}{env:Env}{hp:Hp}{K:Kt}{code:Code} (t i j:Nat){n k:Nat}{xs:List (List D)} (ht:getE env t=some (.gl i xs)) (hi:getH hp i=some (.tok n k)) (hf:zqx env hp j=true)
  (hn:CWp c code ⟨(t,.gl j xs)::env,(j,some (.tok n k))::(i,none)::hp⟩ K):CWp c code ⟨env,hp⟩ K:=by
 rintro a w ⟨G,hr⟩
 obtain⟨h0,hocc⟩:=zrt hf;have Ti:tokf hp i=some (n,k):=zau.2 hi;obtain⟨G',hR,hF,lj,Tj⟩:=hr.tokMove i j n hi h0 hocc;refine hn a w ⟨G',hR.slot ?_⟩;have hs:=hr.slots t _ ht;cases hs with
 |gl h h2=>
  refine .gl (by rw[hF];exact h) (fun n' k' hT'=>?_);have hT2:tokf ((j,some (Res.tok n k))::(i,none)::hp) j=some (n',k'):=hT';rw[Tj] at hT2;cases hT2
  obtain⟨q1,q2⟩:=h2 n k Ti;refine⟨q1,fun hn'=>⟨(q2 hn').1, ?_⟩⟩;have:=(q2 hn').2;unfold Tip at this ⊢;rw[lj,hF];exact this
section
variable {c:Ctx}{all:Array Oper}{chk:List Rec→Prop}{os:List Oper}{recs:List Rec}{env:Env}{hp:Hp}{Q:St→Prop}
variable {d ty:Nat}{pos:String}{af:Array Edge}{g:Option (Nat×Bool)}{pg:List (Nat×AV)}{t:TypeId}{x:Operand}
theorem xaO {id e k yb:Nat} (j:Nat){xs:List (List D)}{o:Operand}{kd:IntKind}{n:Int}{b:Nat} (ht:SlT c.P t e k yb) (hg:GH all env g pg) (hd:Nat.blt d c.n=true)
  (hx:opd env x=some (.gv id xs)) (htok:getH hp id=some (.tok xs.length k)) (ho:opd env o=some (.d (.int kd n))) (hi:n = ↑b) (hb:b≤xs.length) (hpos:0<xs.length) (hf:zax env hp [j]=true)
  (hn:Walk c all chk os (zan (pg++(opF x (.gv id xs)++opF o (.d (.int kd n)))) [(id,.tok xs.length k)] [j] ⟨some (d,.gv j (xs.take b)),[(j,some (.tok b k)),(id,none)]⟩::recs)
   ⟨(d,.gv j (xs.take b))::env,(j,some (.tok b k))::(id,none)::hp⟩ Q):
  Walk c all chk (⟨some d,.slice t x none (some o) none,ty,pos,af,g⟩::os) recs ⟨env,hp⟩ Q:=by
 refine⟨pg++(opF x (.gv id xs)++opF o (.d (.int kd n))),[(id,.tok xs.length k)],[j],_, ?_,zay hg.facts (zay (za9 hx) (za9 ho)),hh1 htok,zbq hf,hn⟩;intro s a w hrel hp' hh hcr K Q' hK;obtain⟨G,hr⟩:=hrel;have e1:=hr.opd (zba hx (fun p hm=>hp' p (by simp[hm])));have e2:=hr.opd (zba ho (fun p hm=>hp' p (by simp[hm])));have htk:=hh1' hh;obtain⟨h0,hocc⟩:=hcr j (by simp);obtain⟨⟨ad,cap0,hv0⟩,hcl⟩:=e1.gv_inv;have Ti:tokf s.hp id=some (xs.length,k):=zau.2 htk;obtain⟨hkx,htip⟩:=(hcl _ _ Ti).2 rfl;rcases htip with ⟨_,q2,_⟩|⟨bl,cap,cs,et,q1,q2,q3,q4,q5,q6,q7⟩
 ·omega
 obtain⟨G',hR,hF,lj,Tj⟩:=hr.tokMove id j b htk h0 hocc;unfold wpO;rw[if_pos (hg.gf.wanted hr (fun p hm=>hp' p (by simp[hm])))];unfold Oper.wp;have hbd:=zeN (P:=c.P) (w:=w) true xs.length cap (lo:=none) (hi:=some (.int kd b)) (a:=0) (b:=b) (.inl ⟨rfl,rfl⟩) (.inr ⟨kd,rfl⟩) (Nat.zero_le _) (by omega);have hrun:(execOp a.eval ⟨some d,.slice t x none (some o) none,ty,pos,af,g⟩).run c.P w = .ok (.value (.slice (some ⟨bl,0,none⟩) b cap)) w:=by
  simp only[execOp,e2.int_eq,hi,q2,Option.map_none,Option.map_some,Instr.sliceAt,Sem.run_bind,run_underlying ht.und,Result.andThen_ok,Instr.slice,hbd,ht.run_size,Sem.run_pure,Nat.zero_mul,Nat.sub_zero,zcZ,Nat.zero_add,ite_self]
 rw[hrun,Oper.upon_value];have hl:(xs.take b).length=b:=by rw[List.length_take];omega
 have hA:RelA G' (tokf ((j,some (Res.tok b k))::(id,none)::s.hp)) w (.gv j (xs.take b)) (.slice (some ⟨bl,0,none⟩) b cap):=by
  refine .gv ⟨some ⟨bl,0,none⟩,cap,by rw[hl]⟩ (fun n' k' hT'=>?_);rw[Tj] at hT';cases hT'
  refine⟨by omega,fun _=>⟨fun y hy=>hkx y (List.mem_of_mem_take hy),.inr ⟨bl,cap,cs,et,by rw[lj];exact q1,rfl,by rw[hF];exact q3,q4,q5,by omega,fun i hi' jj hj'=>?_⟩⟩⟩;have hix:i<xs.length:=by rw[hl] at hi';omega
  have h9:=q7 i hix jj (by simpa [List.getElem_take] using hj');rw[hF];simpa [List.getElem_take] using h9
 exact hK _ _ ⟨G',hR.put hA hd⟩
end
theorem FnD.glD {P:Program}{f:FuncId}{i n k:Nat}{args:List AV}{xs:List (List D)} (h:FnD P f args [] (.gl i xs) [(i,some (.tok n k))]):FnD P f args [] (.d (.sl xs)) []:=by
 intro G w vals hok;refine(h G w vals hok).mono ?_;rintro e w' ⟨v,r',hp',G',rfl,⟨rfl,rfl⟩,hret⟩
 refine⟨v,_,_,G',rfl,⟨rfl,rfl⟩, ?_,fun id x hx=>(by cases hx),fun id id' h1=>(by cases h1),fun id h1=>(by cases h1),hret.frm,hret.top,fun id hi=>(by simp[zcb,getH] at hi)⟩;have:=hret.res;cases this with
 |gl h1 h2=>exact .d h1
theorem FnD.gvRen {P:Program}{f:FuncId}{i k:Nat} (j:Nat){args:List AV}{xs:List (List D)} (h:FnD P f args [] (.gv i xs) [(i,some (.tok xs.length k))]):FnD P f args [] (.gv j xs) [(j,some (.tok xs.length k))]:=by
 intro G w vals hok;refine(h G w vals hok).mono ?_;rintro e w' ⟨v,r',hp',G',rfl,⟨rfl,rfl⟩,hret⟩
 have gi:getH ([(i,some (Res.tok xs.length k))]++[]) i=some (.tok xs.length k):=by simp[getH]
 have gj:∀x,(getH ([(j,some (Res.tok xs.length k))]++[]) x).isSome→x=j:=fun x hx=>by
  by_cases e:j=x
  ·exact e.symm
  ·simp[getH,zgm e] at hx
 have Ti:tokf ([(i,some (Res.tok xs.length k))]++[]) i=some (xs.length,k):=zau.2 gi;let G2:Gh:={ G' with loc:=fun x=>G'.loc i }
 refine⟨v,_,_,G2,rfl,⟨rfl,rfl⟩, ?_,fun id x hx=>?_,fun id id' h1 h2 hne=>absurd ((gj id h1).trans (gj id' h2).symm) hne,fun id h1 b hb=>hret.new i (by rw[gi];rfl) b hb,hret.frm,hret.top,fun id hi=>(by simp[zcb,getH] at hi)⟩
 ·have:=hret.res;cases this with
  |gv hv h2=>
   refine .gv hv (fun n' k' hT'=>?_);have hT2:=zau.1 hT';have e1:Res.tok xs.length k=Res.tok n' k':=by simp[getH] at hT2;rw[hT2.1,hT2.2]
   cases e1
   obtain⟨q1,q2⟩:=h2 _ _ Ti;refine⟨q1,fun hn'=>⟨(q2 hn').1, ?_⟩⟩;have:=(q2 hn').2;unfold TipV at this ⊢;exact this
 ·have e1:=gj id (by rw[hx];rfl);subst e1;have e2:x=Res.tok xs.length k:=by simp[getH] at hx;exact hx.symm
  subst e2;intro b hb;exact hret.heap i _ gi b hb
theorem FnD.gvD {P:Program}{f:FuncId}{i k:Nat}{args:List AV}{xs:List (List D)} (h:FnD P f args [] (.gv i xs) [(i,some (.tok xs.length k))]):FnD P f args [] (.d (.sl xs)) []:=by
 intro G w vals hok;refine(h G w vals hok).mono ?_;rintro e w' ⟨v,r',hp',G',rfl,⟨rfl,rfl⟩,hret⟩
 have gi:getH ([(i,some (Res.tok xs.length k))]++[]) i=some (.tok xs.length k):=by simp[getH]
 have Ti:tokf ([(i,some (Res.tok xs.length k))]++[]) i=some (xs.length,k):=zau.2 gi;have hown:∀b,b∉zc6 G []:=fun b hb=>by simp[zc6] at hb
 have hnew:∀b,b∈G'.loc i→w.heap.size≤b:=fun b hb=>(hret.new i (by rw[gi];rfl) b hb).resolve_left (hown b);have hlt:∀b,b∈G'.loc i→b<w'.heap.size:=hret.heap i _ gi;have hres:=hret.res;obtain⟨hv,hcl⟩:=hres.gv_inv;obtain⟨hkx,htip⟩:=(hcl _ _ Ti).2 rfl;rcases htip with ⟨_,q2,q3⟩|⟨bl,cap,cs,et,q1,q2,q3,q4,q5,q6,q7⟩
 ·have hxs:xs=[]:=List.eq_nil_of_length_eq_zero q2;subst hxs;refine⟨v,_,_,G',rfl,⟨rfl,rfl⟩, ?_,fun id x hx=>(by cases hx),fun id id' h1=>(by cases h1),fun id h1=>(by cases h1),hret.frm,hret.top,fun id hi=>(by simp[zcb,getH] at hi)⟩;rw[q3];exact .d .nil
 ·let G2:Gh:={ G' with F:=fun x=>bif Nat.beq x bl then cs.size else G'.F x }
  have hin:G2.F bl=cs.size:=by simp[G2]
  have hout:∀x,x≠bl→G2.F x=G'.F x:=fun x hx=>by simp[G2,zgm hx]
  have hbl:bl∈G'.loc i:=by rw[q1];simp
  have hle:∀b o,o<G'.F b→o<G2.F b:=fun x o ho=>by
   by_cases hx:x=bl
   ·subst hx;rw[q3] at ho;omega
   ·rw[hout x hx];exact ho
  refine⟨v,_,_,G2,rfl,⟨rfl,rfl⟩, ?_,fun id x hx=>(by cases hx),fun id id' h1=>(by cases h1),fun id h1=>(by cases h1), ?_,fun x hx=>?_,fun id hi=>(by simp[zcb,getH] at hi)⟩
  ·rw[q2];have hsz:xs.length*k≤cs.size:=Nat.le_trans (Nat.mul_le_mul_right _ q6) q5;refine .d (.sl xs k bl 0 cap (fun n=>cs.getD n undef) hkx q6 (fun q hq=>⟨by rw[hin];omega, ?_⟩) (fun q hq jj hj=>?_))
   ·have:q<cs.size:=by omega
    simp[World.cell?,q4,this]
   ·exact(q7 q hq jj hj).mono (fun b o ho=>⟨hle b o ho,rfl⟩)
  ·have hf:=hret.frm;exact⟨hf.os,hf.tape,hf.output,hf.size,fun x hx hn=>⟨(hf.block x hx hn).1,by
    rw[hout x (fun e=>by subst e;have:=hnew x hbl;omega)];exact(hf.block x hx hn).2⟩,fun x o ho=>⟨hle x o (hf.cell x o ho).1,(hf.cell x o ho).2⟩⟩
  ·by_cases hx':x=bl
   ·subst hx';have:=hlt x hbl;omega
   ·rw[hout x hx'];exact hret.top x hx
theorem zpu {zs:List AV}:∀ {n i j:Nat},i<n→j<zs.length→(za7 n zs)[i*zs.length+j]?=zs[j]?
 |n+1,0,j,_,hj=>by
  simp only[za7,Nat.zero_mul,Nat.zero_add];rw[List.getElem?_append_left hj]
 |n+1,i+1,j,hi,hj=>by
  simp only[za7];rw[List.getElem?_append_right (by rw[Nat.add_mul];omega),show(i+1)*zs.length+j-zs.length=i*zs.length+j by rw[Nat.add_mul];omega];exact zpu (by omega) hj
section
variable {c:Ctx}
theorem R.freshV {G:Gh}{s:St}{a:Act}{w:World} (hr:R c G s a w){id k nc:Nat}{es:List (List D)}{cells:Array Value}{e:TypeId} (htok:getH s.hp id=some (.tok 0 k)) (hpos:0<es.length)
  (hk:∀x,x∈es→x.length=k) (hcs:cells.size=nc*k) (hn:es.length≤nc)
  (hrow:∀i (hi:i<es.length) j (hj:j<es[i].length),RelD G.F w es[i][j] (cells.getD (i*k+j) undef)):
  ∃G',R c G' { s with hp:=(id,some (.tok es.length k))::s.hp } a (w.drew.alloc (.cells cells e))∧
   RelA G' (tokf ((id,some (.tok es.length k))::s.hp)) (w.drew.alloc (.cells cells e)) (.gv id es) (.slice (some ⟨w.heap.size,0,none⟩) es.length nc):=by
 let G':Gh:={ F:=G.F,loc:=fun j=>bif Nat.beq j id then [w.heap.size] else G.loc j }
 have hlt:∀b o,o<G.F b→b<w.heap.size:=fun b o ho=>by
  rcases Nat.lt_or_ge b w.heap.size with h|h
  ·exact h
  ·rw[hr.top b h] at ho;omega
 have hcell:∀b o,o<G.F b→o<G'.F b∧(w.drew.alloc (.cells cells e)).cell? ⟨b,o,none⟩=w.cell? ⟨b,o,none⟩:=fun b o ho=>by
  have hb:=hlt b o ho;exact⟨ho,by rw[World.cell?_alloc_lt w.drew _ _ hb];rfl⟩
 have hlocne:∀j,j≠id→G'.loc j=G.loc j:=fun j hj=>by
  have:Nat.beq j id=false:=by
   cases h:Nat.beq j id with
   |true=>exact absurd (Nat.eq_of_beq_eq_true h) hj
   |false=>rfl
  simp[G',this]
 have hlocid:G'.loc id=[w.heap.size]:=by simp[G']
 have hT':tokf ((id,some (.tok es.length k))::s.hp) id=some (es.length,k):=zau.2 (by rw[zal,if_pos rfl]);refine⟨G',hr.retok (G':=G') htok hpos hcell hlocne (fun b hb _=>⟨zeU (w:=w.drew) hb,rfl⟩) (fun b hb=>by rw[hlocid] at hb;simp at hb;subst hb;simp)
  (fun b hb=>by rw[hlocid] at hb;simp at hb;exact .inr (by omega)) rfl rfl rfl (by simp) (fun b hb=>?_), ?_⟩
 ·have hb':w.heap.size+1≤b:=by simpa using hb
  exact hr.top b (by omega)
 refine .gv ⟨_,_,rfl⟩ (fun n' k' hm'=>?_);rw[hT'] at hm';cases hm'
 exact⟨Nat.le_refl _,fun _=>⟨hk,.inr ⟨w.heap.size,nc,cells,e,hlocid,rfl,hr.top _ (Nat.le_refl _),ze2 (w:=w.drew),by rw[hcs];exact Nat.le_refl _,hn,fun i hi j hj=>(hrow i hi j hj).mono hcell⟩⟩⟩
end
section
variable {c:Ctx}{all:Array Oper}{chk:List Rec→Prop}{os:List Oper}{recs:List Rec}{env:Env}{hp:Hp}{Q:St→Prop}
variable {d ty:Nat}{pos:String}{af:Array Edge}{g:Option (Nat×Bool)}{pg:List (Nat×AV)}{t:TypeId}{x y:Operand}
theorem RelA.nils_eq {G:Gh}{T:TokF}{w:World}{v:Value} (h:RelA G T w .nils v):v = .slice none 0 0:=by cases h;rfl
theorem Walk.capN {at_ e k yb:Nat} (ht:SlT c.P at_ e k yb) (hg:GH all env g pg) (hd:Nat.blt d c.n=true) (hx:opd env x=some .nils)
  (hn:Walk c all chk os (zan (pg++opF x .nils) [] [] ⟨some (d,.d (.i 0)),[]⟩::recs) ⟨(d,.d (.i 0))::env,hp⟩ Q):
  Walk c all chk (⟨some d,.call ⟨.builtin .cap,#[x],#[at_]⟩,ty,pos,af,g⟩::os) recs ⟨env,hp⟩ Q:=
 xbc hg hd hx (fun a G T w h=>⟨.int .i64 (0:Nat),by
  simp[execOp,resolve,invoke,builtin,h.nils_eq,Builtin.cap_,run_underlying ht.und,goInt],.d (.int _ _)⟩) hn
theorem Walk.cutN_h {e k yb:Nat}{o:Operand}{kd:IntKind} (ht:SlT c.P t e k yb) (hg:GH all env g pg) (hd:Nat.blt d c.n=true)
  (hx:opd env x=some .nils) (ho:opd env o=some (.d (.int kd 0)))
  (hn:Walk c all chk os (zan (pg++(opF x .nils++opF o (.d (.int kd 0)))) [] [] ⟨some (d,.nils),[]⟩::recs) ⟨(d,.nils)::env,hp⟩ Q):
  Walk c all chk (⟨some d,.slice t x none (some o) none,ty,pos,af,g⟩::os) recs ⟨env,hp⟩ Q:=by
 refine xbd hg hd hx ho (fun a G T w h1 h2=>⟨.slice none 0 0, ?_,.nils⟩) hn;have hbd:=zeN (P:=c.P) (w:=w) true 0 0 (lo:=none) (hi:=some (.int kd (0:Nat))) (a:=0) (b:=0) (.inl ⟨rfl,rfl⟩) (.inr ⟨kd,rfl⟩) (Nat.le_refl _) (Nat.le_refl _);have e2:a.eval o = .int kd ((0:Nat):Int):=h2.int_eq;simp only[execOp,e2,h1.nils_eq,Option.map_none,Option.map_some,Instr.sliceAt,Sem.run_bind,run_underlying ht.und,Result.andThen_ok,Instr.slice,hbd,ht.run_size,Sem.run_pure,Nat.zero_mul,Nat.sub_zero,ite_self]
theorem Walk.growZ {e k yb n:Nat} (id:Nat){zs:List AV}{zr:List D}{tn:TypeId}{kn:IntKind}{m:Int} (ht:SlT c.P t e k yb) (htn:c.P.underlying tn=some (.int kn)) (hz:TyZ c.P e k zs) (hzk:zs.length=k) (hk:0<k) (hzr:toDL zs=some zr)
  (hg:GH all env g pg) (hd:Nat.blt d c.n=true) (hx:opd env x=some .nils) (hy:opd env y=some (.d (.i m))) (hm:m = ↑n) (hn0:0<n) (hb:n*yb≤281474976710656) (h63:(n:Int)≤9223372036854775807) (hf:zax env hp [id]=true)
  (hn:Walk c all chk os (zan (pg++(opF x .nils++opF y (.d (.i m)))) [] [id] ⟨some (d,.gv id (List.replicate n zr)),[(id,some (.tok n k)),(id,some (.tok 0 k))]⟩::recs)
   ⟨(d,.gv id (List.replicate n zr))::env,(id,some (.tok n k))::(id,some (.tok 0 k))::hp⟩ Q):
  Walk c all chk (⟨some d,.call ⟨.builtin .append,#[x,y],#[t,tn]⟩,ty,pos,af,g⟩::os) recs ⟨env,hp⟩ Q:=by
 refine⟨pg++(opF x .nils++opF y (.d (.i m))),[],[id],_, ?_,zay hg.facts (zay (za9 hx) (za9 hy)),by simp,zbq hf,hn⟩;intro s a w hrel hp' hh hcr K Q' hK;obtain⟨G,hr⟩:=hrel;have e1:=(hr.opd (zba hx (fun p hm=>hp' p (by simp[hm])))).nils_eq;have e2:=(hr.opd (zba hy (fun p hm=>hp' p (by simp[hm])))).int_eq;obtain⟨h0,hocc⟩:=hcr id (by simp);obtain⟨G1,hr1,_⟩:=hr.mkTokV k h0 hocc;obtain⟨ie,hi1,hi2,hi3⟩:=ht.inf;obtain⟨i',z,z1,z2,z3,z4⟩:=hz.inf;rw[hi1] at z1;cases z1
 have hrun:=Go.Lib.run_append_nil_zeros (P:=c.P) w t tn ty e ie z .i64 kn ht.und htn hi1 z3 n hn0 (by omega) h63 (by rw[hi3];exact hb);have hz0:=zbV (G:=G1) (T:=tokf ((id,some (.tok 0 k))::s.hp)) (w:=w) z4;have hzz:=zfl (by simpa using hz0) n (by omega);obtain⟨c1,c2⟩:=zig hzr;have hsz:z.cells.size=k:=by have:=hz0.1;simp at this;omega
 have hle:n≤grownCap w n 0 e:=by have:=grownCap_ge w n 0 e;omega
 have ez:Builtin.zeroCells z.cells n=(Array.range (n*zs.length)).map (z.cells[· % z.cells.size]!):=by
  unfold Builtin.zeroCells;rw[hsz,hzk]
 rw[←ez] at hzz;have hl:(List.replicate n zr).length=n:=List.length_replicate;have hcs:(Builtin.zeroCells z.cells n++Builtin.zeroCells z.cells (grownCap w n 0 e-n)).size=grownCap w n 0 e*k:=by
  simp only[Array.size_append,size_zeroCells,hsz,←Nat.add_mul];congr 1;omega
 have key:∀i (hi:i<(List.replicate n zr).length) j (hj:j<(List.replicate n zr)[i].length),RelD G1.F w (List.replicate n zr)[i][j] ((Builtin.zeroCells z.cells n++Builtin.zeroCells z.cells (grownCap w n 0 e-n)).getD (i*k+j) undef):=by
  intro i hi j hj;have hi2:i<n:=by simpa using hi
  have hj2:j<zr.length:=by simpa using hj
  have hj3:j<zs.length:=by omega
  have hlt:i*k+j<(Builtin.zeroCells z.cells n).size:=by
   rw[size_zeroCells,hsz];have:(i+1)*k≤n*k:=Nat.mul_le_mul_right _ (by omega);rw[Nat.add_mul] at this;omega
  have hlz:i*k+j<(za7 n zs).length:=by have:=hzz.1;rw[←this];exact hlt
  have h5:=hzz.2 (i*k+j) hlz hlt;have h6:=zpu (zs:=zs) hi2 hj3;rw[hzk,List.getElem?_eq_getElem hlz,List.getElem?_eq_getElem hj3] at h6;rw[Option.some.inj h6] at h5;have h7:=h5.toD (c2 j hj3 hj2);have e5:(Builtin.zeroCells z.cells n++Builtin.zeroCells z.cells (grownCap w n 0 e-n)).getD (i*k+j) undef=(Builtin.zeroCells z.cells n)[i*k+j]:=by
   rw[Array.getD_eq_getD_getElem?,Array.getElem?_append_left hlt,Array.getElem?_eq_getElem hlt];rfl
  rw[e5];simp only[List.getElem_replicate];exact h7
 obtain⟨G',hR,hA⟩:=hr1.freshV (nc:=grownCap w n 0 e) (e:=e) (es:=List.replicate n zr) (by rw[zal,if_pos rfl]) (by rw[hl];exact hn0) (fun y hy=>by obtain⟨_,rfl⟩:=List.mem_replicate.1 hy;omega) hcs (by rw[hl];exact hle) key;rw[hl] at hR hA;unfold wpO;rw[if_pos (hg.gf.wanted hr (fun p hm=>hp' p (by simp[hm])))];unfold Oper.wp;have:(execOp a.eval ⟨some d,.call ⟨.builtin .append,#[x,y],#[t,tn]⟩,ty,pos,af,g⟩).run c.P w = .ok (.value (.slice (some ⟨w.heap.size,0,none⟩) n (grownCap w n 0 e))) (w.drew.alloc (.cells (Builtin.zeroCells z.cells n++Builtin.zeroCells z.cells (grownCap w n 0 e-n)) e)):=by
  simp only[execOp,resolve,invoke,builtin,Sem.run_bind,Sem.run_pure,Result.andThen_ok,List.map_toArray,xae,List.map_nil,e1,e2,hm,hrun]
 rw[this,Oper.upon_value];exact hK _ _ ⟨G',hR.put hA hd⟩
end
end Go.Proofs.YtcnjkjdmbnhcaaaGreat
namespace Go.Proofs.YtcnjkjdmbnhcaaaGreat
open Go
set_option linter.unusedSimpArgs false
set_option linter.unusedVariables false
set_option maxRecDepth 100000
set_option maxHeartbeats 2000000
mutual
def cntE (m:Int):Ex→Int
 | .mk _ _ _ ks=>zeG m 1 ks
def zeG (m n:Int):List Ex→Int
 | []=>n
 |k::r=>if n≤m then zeG m (n+cntE (m-n) k) r else n
end
theorem zsB {m n:Int}{l:List Ex} (h:¬n≤m):zeG m n l=n:=by cases l<;>simp[zeG,h]
mutual
theorem zrR:∀(v:Ex) (m:Int),1≤cntE m v∧cntE m v≤v.size
 | .mk _ _ _ ks,m=>by
  have:=zlx ks m 1 (by omega);simp only[cntE,Ex.size];push_cast;omega
theorem zlx:∀(l:List Ex) (m n:Int),1≤n→1≤zeG m n l∧zeG m n l≤n+Exs.size l
 | [],m,n,h=>by simp[zeG,Exs.size];omega
 |k::r,m,n,h=>by
  have h1:=zrR k (m-n);have h2:=zlx r m (n+cntE (m-n) k) (by omega);simp only[zeG,Exs.size];split
  ·push_cast;omega
  ·push_cast;omega
end
mutual
theorem zuP:∀(v:Ex) (m:Int),(cntE m v≤m↔(v.size:Int)≤m)∧(cntE m v≤m→cntE m v=v.size)
 | .mk _ _ _ ks,m=>by
  have:=zoE ks m 1;simp only[cntE,Ex.size];push_cast;exact this
theorem zoE:∀(l:List Ex) (m n:Int),(zeG m n l≤m↔n+(Exs.size l:Int)≤m)∧(zeG m n l≤m→zeG m n l=n+Exs.size l)
 | [],m,n=>by simp[zeG,Exs.size]
 |k::r,m,n=>by
  have h1:=zuP k (m-n);have h2:=zoE r m (n+cntE (m-n) k);have h3:=zlx r m (n+cntE (m-n) k);have h4:=zrR k (m-n);simp only[zeG,Exs.size];push_cast
  by_cases hn:n≤m
  ·rw[if_pos hn];by_cases h5:cntE (m-n) k≤m-n
   ·have h6:=h1.2 h5;rw[h6] at h2 ⊢;constructor
    ·rw[h2.1];constructor<;>intro h<;>omega
    ·intro h;rw[h2.2 h];omega
   ·have h7:¬(k.size:Int)≤m-n:=fun h=>h5 (h1.1.2 h);have h8:¬n+cntE (m-n) k≤m:=by omega
    rw[zsB h8];constructor
    ·constructor<;>intro h<;>omega
    ·intro h;omega
  ·rw[if_neg hn];constructor
   ·constructor<;>intro h<;>omega
   ·intro h;omega
end
def TyOk (n:Nat) (t:Ty):Prop:=TyIn n t∧(t.data = -1→t.index=0)
def gdOk (g:Gd) (vars:List Vt):Bool:=if g.op=0 then decide (g.var=0∧g.n=0) else decide (1≤g.op∧g.op≤2∧0≤g.n∧g.n≤9)&&decide ((⟨g.var,⟨-1,0⟩⟩:Vt)∈vars)
def zeC (w:List Data) (t:Ty) (p:Pat):List Vt:=zdA (zaP w 10 t p 0).1
def clOk (w:List Data) (t:Ty) (c:Cl):Bool:=isP w t c.pat&&gdOk c.g (zeC w t c.pat)
def zbg (w:List Data) (t:Ty) (l:List Cl):Bool:=zbf w t&&(decide ((l.length:Int)≤8)&& !l.any fun c=> !clOk w t c)
theorem zir {xs:List Cl}{f:Nat}{caps:List AV}{hp:Hp}{p:Cl→Bool} (hs:xs.length≤1000000000000) (hcal:Callee Tryz.prog f)
  (hf:∀t∈xs,FnD Tryz.prog f ([.agg [.d (.i t.pat.op),.d (.i t.pat.ctor),.d (.i t.pat.n),.d (.i t.pat.m),.d (.i t.pat.var),.d (zae t.pat.kids),.d (.i t.g.op),.d (.i t.g.var),.d (.i t.g.n)]]++caps) hp (.d (.bool (p t))) []) (k1:subH hp hp) (k2:zdT hp=true) (k3:za1 hp [] (.d .nilp) []=true):
  FnD Tryz.prog 175 [.d (zbW xs),.fn f caps] hp (.d (.i (idxF p xs 0))) []:=by
 refine bd Tryz.f175 19 [] [] fun w0 F0 own kept hk=>?_;refine xaj (ι:=List (Cl)×List (Cl)) hk (fun x=>[(8,.d (.i (x.1.length:Int)))]) [4,5,9,10,11,12,13,14,15,16,17,18] (fun x=>[]) (fun x=>x.1++x.2=xs∧idxF p x.2 x.1.length=idxF p xs 0) (fun x=>x.2.length) ([],xs) ⟨by simp,rfl⟩ ⟨⟨_,rfl,xap ?_⟩,trivial⟩ trivial (fun x=>zgX hp) (fun x hg1=>?_);focus (first|rfl|(simp;done)|(simp_all;done)|omega)
 obtain⟨pre,rest⟩:=x;dsimp only at hg1 ⊢;refine evc [] [] ?_;refine sq ?_ ?_<;>intro h1 h1p h1s;try simp only[Q] at h1p
 rcases rest with _|⟨y,rest⟩
 ·exfalso;simp_all
 refine xaV sl28 .none rfl rfl rfl rfl (zaE hg1.1) rfl ?_;refine ev ?_;refine xaI (cr:=[]) hcal (hf y (by rw[←hg1.1];simp)) rfl .none rfl rfl rfl (LeL.refl _) k1 k2 (zc5 k3 _) rfl ?_;refine tv ?_;refine sq ?_ ?_<;>intro h2 h2p h2s;try simp only[Q] at h2p
 focus (refine rn [] (r1 rfl) (.eqd ?_) ⟨rfl,rfl⟩ (fun _ _ h=>h) (fun _ h=>h);all_goals (rw[←hg1.2];simp[idxF,h1s,h1p,h2s,h2p]))
 try simp only[Q] at h2p
 refine ar ?_;refine Exists.intro ((pre++[y],rest)) ⟨⟨(by have hz:=hg1.1;rw[←hz];simp),(by rw[←hg1.2];simp[idxF,h2s])⟩,(by simp),Sub.x (by kernel_rfl) (by kernel_rfl) ⟨⟨_,rfl,xap ?_⟩,trivial⟩ (by simp) (by simp[zdF]) trivial⟩;focus (first|rfl|(simp;done)|(simp_all;done)|omega)
 try simp only[Q] at h1p
 have hrest:rest=[]:=by
  rcases rest with _|⟨a,b⟩
  ·rfl
  ·exfalso;have hz:=congrArg List.length (hg1.1);simp only[xaa,xab,xac] at hz;omega
 subst hrest;focus (refine rn [] (r1 rfl) (.eqd ?_) ⟨rfl,rfl⟩ (fun _ _ h=>h) (fun _ h=>h);all_goals (rw[←hg1.2];simp[idxF,h1s,h1p]))
theorem zg6 {xs:List Cl}{f:Nat}{caps:List AV}{hp:Hp}{p:Cl→Bool} (hs:xs.length≤1000000000000) (hcal:Callee Tryz.prog f)
  (hf:∀t∈xs,FnD Tryz.prog f ([.agg [.d (.i t.pat.op),.d (.i t.pat.ctor),.d (.i t.pat.n),.d (.i t.pat.m),.d (.i t.pat.var),.d (zae t.pat.kids),.d (.i t.g.op),.d (.i t.g.var),.d (.i t.g.n)]]++caps) hp (.d (.bool (p t))) []) (k1:subH hp hp) (k2:zdT hp=true) (k3:za1 hp [] (.d .nilp) []=true):
  FnD Tryz.prog 110 [.d (zbW xs),.fn f caps] hp (.d (.bool (xs.any p))) []:=by
 refine bd Tryz.f110 9 [] [] fun w0 F0 own kept hk=>?_;refine Walk.call (cr:=[]) zw8 (zir hs hcal hf k1 k2 k3) rfl .none rfl rfl (LeL.refl _) k1 k2 (zc5 k3 _) rfl ?_;refine ev ?_;refine rn [] (r1 rfl) (.eqd ?_) ⟨rfl,rfl⟩ (fun _ _ h=>h) (fun _ h=>h);rotate_left;all_goals (exact congrArg D.bool (ze4 p xs 0))
theorem zjr (w:List Data) (t:Ty) (p:Pat):(zeC w t p).length≤6:=(zf5 w 10 t p 0).2
theorem zmM {g:Gd}{vars:List Vt} (hv:vars.length≤1000000000000):FnD Tryz.prog 177 [.agg [.d (.i g.op),.d (.i g.var),.d (.i g.n)],.d (zc2 vars)] [] (.d (.bool (gdOk g vars))) []:=by
 refine bd Tryz.f177 27 [10] [] fun w0 F0 own kept hk=>?_;refine bx 3002 ?_;refine evs [10] [] ?_;refine sq ?_ ?_<;>intro h1 h1p h1s;try simp only[Q,zap] at h1p
 refine bu [] [] st58 ?_;refine Walk.eqV eq58 .none rfl rfl rfl rfl rfl ?_;refine evs [10] [] ?_;refine rn0 (r1 rfl) (.eqd ?_);rotate_left;try simp only[Q,zap] at h1p
 refine wc zeb (zbe) rfl rfl ?_;refine evs [10] [] ?_;refine sq ?_ ?_<;>intro h2 h2p h2s;try simp only[Q,zap] at h2p
 refine Walk.call (cr:=[]) zeb (zbe) rfl (.some rfl rfl h2) rfl rfl (LeL.refl _) trivial rfl rfl rfl ?_;refine evs [10] [(14,true)] ?_ ⟨⟨_,rfl,h2⟩,trivial⟩;refine sq ?_ ?_<;>intro h3 h3p h3s;try simp only[Q,zap] at h3p
 refine Walk.build st33 (ks:=[0]) (xs:=[_]) rfl rfl (.some rfl rfl h3) rfl rfl rfl ?_;refine Walk.build zs0 (ks:=[0,1]) (xs:=[_,_]) rfl rfl (.some rfl rfl h3) rfl rfl rfl ?_;refine Walk.call (cr:=[]) ztw (zfj (v:=⟨g.var,⟨-1,0⟩⟩) hv) rfl (.some rfl rfl h3) rfl rfl (LeL.refl _) trivial rfl rfl rfl ?_;refine evs [10] [(19,true)] ?_ ⟨⟨_,rfl,h3⟩,trivial⟩;refine rn0 (r1 rfl) (.eqd ?_);rotate_left;try simp only[Q,zap] at h3p
 refine rn0 (r1 rfl) (.eqd ?_);rotate_left;try simp only[Q,zap] at h2p
 refine sqF ?_;refine rn0 (r1 rfl) (.eqd ?_);rotate_left;all_goals (refine congrArg D.bool ?_;unfold gdOk;first|(rw[if_pos (by omega)];simp_all;done)|(rw[if_neg (by omega)];simp_all[zap];done)|(rw[if_neg (by omega)];simp_all[zap];omega))
theorem zlH {w:List Data} (hw:WT w){t:Ty}{c:Cl} (ht:TyIn w.length t) (hok:c.pat.ok):
  FnD Tryz.prog 112 [.d (zaj w),.agg [.d (.i t.data),.d (.i t.index)],.agg [.d (.i c.pat.op),.d (.i c.pat.ctor),.d (.i c.pat.n),.d (.i c.pat.m),.d (.i c.pat.var),.d (zae c.pat.kids),.d (.i c.g.op),.d (.i c.g.var),.d (.i c.g.n)]] [] (.d (.bool (clOk w t c))) []:=by
 have ht':TyIn w.length ⟨t.data,t.index⟩:=ht;have hvl:=zjr w t c.pat;refine bd Tryz.f112 24 [] [] fun w0 F0 own kept hk=>?_;refine bx 3004 ?_;refine bx 3005 ?_;refine ev ?_;refine wc ztk (zfM hw ht' hok) rfl rfl ?_;refine ev ?_;refine sq ?_ ?_<;>intro h1 h1p h1s;try simp only[Q] at h1p
 refine Walk.call (cr:=[]) zw9 (zmM (g:=c.g) (vars:=zeC w t c.pat) (by omega)) rfl (.some rfl rfl h1) rfl rfl (LeL.refl _) trivial rfl rfl rfl ?_;refine evs [] [(18,true)] ?_ ⟨⟨_,rfl,h1⟩,trivial⟩;refine rn0 (r1 rfl) (.eqd ?_);rotate_left;try simp only[Q] at h1p
 refine rn0 (r1 rfl) (.eqd ?_);rotate_left;all_goals (refine congrArg D.bool ?_;unfold clOk;have hte:(⟨t.data,t.index⟩:Ty)=t:=rfl;(simp_all;done))
theorem zin {w:List Data} (hw:WT w){a k:Int}{c:Cl} (ht:TyIn w.length ⟨a,k⟩) (hok:c.pat.ok):
  FnD Tryz.prog 111 [.agg [.d (.i c.pat.op),.d (.i c.pat.ctor),.d (.i c.pat.n),.d (.i c.pat.m),.d (.i c.pat.var),.d (zae c.pat.kids),.d (.i c.g.op),.d (.i c.g.var),.d (.i c.g.n)],.ref 3003 0,.ref 3004 0] [(3003,some (.box [.d (zaj w)])),(3004,some (.box [.d (.i a),.d (.i k)]))] (.d (.bool (!clOk w ⟨a,k⟩ c))) []:=by
 refine bd Tryz.f111 10 [] [] fun w0 F0 own kept hk=>?_;refine bx 3901 ?_;refine ev ?_;refine wc zwN (zlH (t:=⟨a,k⟩) (c:=c) hw ht hok) rfl rfl ?_;refine ev ?_;refine rn [] (r1 rfl) (.eqd ?_) ⟨rfl,rfl⟩ (SubH.get ⟨rfl,⟨rfl,trivial⟩⟩) (fun _ h=>h);rotate_left;all_goals (rfl)
theorem zjb {w:List Data} (hs:WSmall w){a k:Int}{l:List Cl} (hl:ClsOk l):
  FnD Tryz.prog 67 [.d (zaj w),.agg [.d (.i a),.d (.i k)],.d (zbW l)] [] (.d (.bool (zbg w ⟨a,k⟩ l))) []:=by
 have hll:=hl.1;refine bd Tryz.f67 21 [] [] fun w0 F0 own kept hk=>?_;refine bx 3003 ?_;refine bx 3004 ?_;refine ev ?_;refine wc zsx (zeS hs) rfl rfl ?_;refine ev ?_;refine sq ?_ ?_<;>intro h1 h1p h1s;try simp only[Q] at h1p
 refine sq ?_ ?_<;>intro h2 h2p h2s;try simp only[Q] at h2p
 refine xaK (xs:=[_,_]) rfl (.some rfl rfl h2) rfl rfl ?_;refine Walk.call (cr:=[]) zwL (zg6 (p:=fun c=> !clOk w ⟨a,k⟩ c) hl.1 zwM (fun t htm=>zin (zhS hs (zcu (by assumption)).1) (zcu (by assumption)).2.1 (hl.2 t htm)) ⟨rfl,rfl,trivial⟩ rfl rfl) rfl (.some rfl rfl h2) rfl rfl (LeL.refl _) ⟨rfl,rfl,trivial⟩ rfl rfl rfl ?_;refine evs [] [(15,true)] ?_ ⟨⟨_,rfl,h2⟩,trivial⟩;refine rn0 (r1 rfl) (.eqd ?_);rotate_left;try simp only[Q] at h2p
 refine rn0 (r1 rfl) (.eqd ?_);rotate_left;try simp only[Q] at h1p
 refine sqF ?_;refine rn0 (r1 rfl) (.eqd ?_);rotate_left;all_goals (refine congrArg D.bool ?_;unfold zbg;first|(simp_all;done)|(simp_all;omega))
def AZ (w:List Data):Prop:=∀t c,c∈zam w t→TyIn w.length t→∀u∈zab w t c,u.data = -1→u.index=0
theorem zvw {w:List Data} (hv:za2 w=true):AZ w:=by
 have hW:=(zb8 w).1 hv;rintro ⟨a,k⟩ c hc ht u hu hd
 obtain⟨d,rfl,h1,j,rfl,h3⟩:=zcz ht hc;have hco:=hW.ctor _ (zaf h1) _ (zaf h3);simp only[zbv,xad,decide_eq_true_eq,Bool.not_eq_true',List.any_eq_false,Bool.not_eq_false'] at hco;have hall:=hco.2.2.2;simp only[zab,Int.toNat_natCast] at hu;obtain⟨x,hx,rfl⟩:=List.mem_map.1 hu;have hxo:=hall x hx;simp only[zbJ,zap,Bool.or_eq_true,xad,decide_eq_true_eq,and_true,Bool.not_eq_true',Bool.not_eq_false] at hxo;unfold zcv at hd ⊢;split at hd
 ·rename_i hi;rw[if_pos hi];dsimp only at hd ⊢;omega
 ·rename_i hi;rw[if_neg hi];omega
theorem zuy {n:Nat}{t:Ty} (h:zeB n t=true):TyOk n t:=by
 refine⟨zpp h,fun hd=>?_⟩;simp only[zeB,zap,Bool.or_eq_true,xad,decide_eq_true_eq,and_true] at h;omega
theorem zpr {w:List Data}{t:Ty}{p:Pat} (h:isP w t p=true):zeC w t p=zaA w 10 t p:=by
 unfold isP at h;simp only[xad,decide_eq_true_eq] at h;have e:=(ze7 w 10 t p 0).1;have hw:zbG w 10 t p 0=true:=by
  unfold zbG;rw[h.1,h.2.2,decide_eq_true (by omega)];rfl
 rw[if_pos hw] at e;unfold zeC;rw[e];rfl
theorem zuE {w:List Data}{t:Ty}{p:Pat} (h:isP w t p=true):zcg (zaA w 10 t p)=true:=by
 unfold isP at h;simp only[xad] at h;exact zeu w 10 t p h.1 h.2.2
theorem zro {w:List Data} (hw:WT w) (haz:AZ w):∀(n:Nat){t:Ty}{p:Pat},zar w n t p=true→TyOk w.length t→∀v∈zaA w n t p,TyOk w.length v.ty
 |0,t,p,h,_=>by simp[zar] at h
 |n+1,t,p,h,ht=>by
  obtain⟨ho,hlen⟩:=zbA h;intro v hv;have hto:∀u∈zad w t p,TyOk w.length u:=fun u hu=>by
   refine⟨zgG (a:=t.data) (k:=t.index) hw ht.1 ho u hu,fun hd=>?_⟩;unfold zad at hu;split at hu
   ·rename_i h4;exact haz t p.ctor (zb2 ho h4) ht.1 u hu hd
   ·split at hu
    ·simp only[List.mem_cons,List.not_mem_nil,or_false,or_self] at hu;rw[hu] at hd ⊢;exact ht.2 hd
    ·split at hu
     ·simp only[List.mem_cons,List.not_mem_nil,or_false] at hu;rw[hu] at hd ⊢;exact ht.2 hd
     ·simp at hu
  simp only[zaA,List.mem_append] at hv;rcases hv with hv|hv
  ·unfold zaO at hv;split at hv
   ·simp only[List.mem_cons,List.not_mem_nil,or_false] at hv;rw[hv];exact ht
   ·simp at hv
  ·have key:∀(a:List Ty) (b:List Pat),(∀i,i<a.length→i<b.length→∀v∈zaA w n (nth a i) (nth b i),TyOk w.length v.ty)→∀v∈za5 (zaA w n) a b,TyOk w.length v.ty:=by
    intro a;induction a with
    |nil=>intro b _ v hv;simp[za5] at hv
    |cons x r ih=>
     intro b h v hv;cases b with
     |nil=>simp[za5] at hv
     |cons y s=>
      simp only[za5,List.mem_append] at hv;rcases hv with hv|hv
      ·exact h 0 (by simp) (by simp) v hv
      ·exact ih s (fun i h1 h2=>h (i+1) (by simpa using h1) (by simpa using h2)) v hv
   refine key (zcP w t p) p.kids (fun i h1 h2=>?_) v hv;have hvt:i<(zad w t p).length∧nth (zcP w t p) i=nth (zad w t p) i:=by
    unfold zcP at h1 ⊢;split at h1
    ·rename_i h5;rw[if_pos h5];rw[List.length_take] at h1;refine⟨by omega, ?_⟩;have:i=0:=by omega
     subst this;cases hT:zad w t p with
     |nil=>rfl
     |cons a b=>rfl
    ·rename_i h5;rw[if_neg h5];exact⟨h1,rfl⟩
   rw[hvt.2];exact zro hw haz n (zbz h (by omega)) (hto _ (zaf hvt.1))
def gdS (g:Gd) (vars:List Vt):Bool:=if g.op=0 then decide (g.var=0∧g.n=0) else decide (1≤g.op∧g.op≤2∧0≤g.n∧g.n≤9)&&(decide (0≤zbE vars g.var)&&decide ((nth vars (zbE vars g.var).toNat).ty.data = -1))
theorem zxS {n:Nat}{g:Gd}{vars:List Vt} (hn:zcg vars=true) (hv:∀v∈vars,TyOk n v.ty):gdS g vars=gdOk g vars:=by
 unfold gdS gdOk;split
 ·rfl
 ·congr 1
  have hnod:=of_decide_eq_true hn;rw[Bool.eq_iff_iff];simp only[xad,decide_eq_true_eq];constructor
  ·rintro ⟨h1,h2⟩
   rcases zfr vars g.var with ⟨h3,_⟩|⟨k,h3,h4,h5,_⟩
   ·omega
   ·rw[h3] at h2;simp only[Int.toNat_natCast] at h2;have hm:=zaf h4;have ho:=(hv _ hm).2 h2;have:nth vars k=⟨g.var,⟨-1,0⟩⟩:=by
     generalize nth vars k=z at *;obtain⟨zv,⟨za,zk⟩⟩:=z;dsimp only at h5 h2 ho;rw[h5,h2,ho]
    rw[←this];exact hm
  ·intro hm;rcases zfr vars g.var with ⟨_,h4⟩|⟨k,h3,h4,h5,_⟩
   ·exact absurd rfl (h4 _ hm)
   ·refine⟨by omega, ?_⟩;rw[h3];simp only[Int.toNat_natCast];obtain⟨j,hj,e⟩:=List.getElem_of_mem hm;have ej:nth vars j=⟨g.var,⟨-1,0⟩⟩:=by simp[nth,List.getD,hj,e]
    have:k=j:=zkk hnod h4 hj (by rw[h5,ej]);rw[this,ej]
theorem znB {g:Gd}{vars:List Vt} (hv:vars.length≤1000000000000):FnD Tryz.prog 194 [.agg [.d (.i g.op),.d (.i g.var),.d (.i g.n)],.d (zc2 vars)] [] (.d (.bool (gdS g vars))) []:=by
 have hlt:=fun h=>zlD (l:=vars) (n:=g.var) h;refine bd Tryz.f194 50 [] [3] fun w0 F0 own kept hk=>?_;refine bx 3002 ?_;refine ev ?_;refine sq ?_ ?_<;>intro h1 h1p h1s;try simp only[Q] at h1p
 refine sq ?_ ?_<;>intro h2 h2p h2s;try simp only[Q] at h2p
 refine rn0 (r1 rfl) (.eqd ?_);rotate_left;try simp only[Q] at h2p
 refine rn0 (r1 rfl) (.eqd ?_);rotate_left;try simp only[Q] at h1p
 refine xak ?_;refine xaA 18 [(34,.d (.bool (decide (¬(1≤g.op∧g.op≤2∧0≤g.n∧g.n≤9)))))] [17,18,19,20,21,22,23,24,25,26,27,28,29,30,31,32,33] ?_ ?_;refine ev ?_;refine sq ?_ ?_<;>intro h3 h3p h3s;try simp only[Q] at h3p
 refine sq ?_ ?_<;>intro h4 h4p h4s;try simp only[Q] at h4p
 refine sqT ?_;focus (exact jn rfl (xao (by((rw[Bool.eq_iff_iff];simp_all;omega)))))
 try simp only[Q] at h4p
 refine sq ?_ ?_<;>intro h5 h5p h5s;try simp only[Q] at h5p
 focus (exact jn rfl (xao (by((rw[Bool.eq_iff_iff];simp_all;done)))))
 try simp only[Q] at h5p
 focus (exact jn rfl (xao (by((rw[Bool.eq_iff_iff];simp_all;done)))))
 try simp only[Q] at h3p
 refine sqF ?_;refine sq ?_ ?_<;>intro h6 h6p h6s;try simp only[Q] at h6p
 focus (exact jn rfl (xao (by((rw[Bool.eq_iff_iff];simp_all;done)))))
 try simp only[Q] at h6p
 focus (exact jn rfl (xao (by((rw[Bool.eq_iff_iff];simp_all;done)))))
 refine xaz ?_;refine tv ?_;refine sq ?_ ?_<;>intro h7 h7p h7s;try simp only[Q] at h7p
 refine rn0 (r1 rfl) (.eqd ?_);rotate_left;try simp only[Q] at h7p
 refine wc zqb (zf7 hv) rfl rfl ?_;refine ev ?_;refine sq ?_ ?_<;>intro h8 h8p h8s;try simp only[Q] at h8p
 refine xaV (i:=(zbE vars g.var).toNat) zdb (.some rfl rfl h8) rfl rfl rfl (by have:=hlt (by omega);omega) (zas (by have:=hlt (by omega);omega)) rfl ?_;refine evs [] [(41,true)] ?_ ⟨⟨_,rfl,h8⟩,trivial⟩;refine rn0 (r1 rfl) (.eqd ?_);rotate_left;try simp only[Q] at h8p
 refine rn0 (r1 rfl) (.eqd ?_);rotate_left;all_goals (refine congrArg D.bool ?_;unfold gdS;first|(rw[if_pos (by omega)];simp_all;done)|(rw[if_neg (by omega),decide_eq_false (by omega),Bool.false_and];done)|(rw[if_neg (by omega),decide_eq_true (by omega),Bool.true_and,decide_eq_false (by omega),Bool.false_and];done)|(rw[if_neg (by omega)];simp_all;done))
theorem zq7 {w:List Data} (hw:WT w) (haz:AZ w){t:Ty}{c:Cl} (ht:TyOk w.length t) (hok:c.pat.ok) (hsz:c.pat.size≤1000000000000):
  FnD Tryz.prog 122 [.d (zaj w),.agg [.d (.i t.data),.d (.i t.index)],.agg [.d (.i c.pat.op),.d (.i c.pat.ctor),.d (.i c.pat.n),.d (.i c.pat.m),.d (.i c.pat.var),.d (zae c.pat.kids),.d (.i c.g.op),.d (.i c.g.var),.d (.i c.g.n)]] [] (.d (.bool (clOk w t c))) []:=by
 have ht':TyIn w.length ⟨t.data,t.index⟩:=ht.1;have hcl:clOk w t c=(isP w t c.pat&&gdOk c.g (zeC w t c.pat)):=rfl;cases hp:isP w t c.pat with
 |false=>
  have hpi:=zfI hw ht' hok hsz;have hpi':FnD Tryz.prog 193 [.d (zaj w),.agg [.d (.i t.data),.d (.i t.index)],.agg [.d (.i c.pat.op),.d (.i c.pat.ctor),.d (.i c.pat.n),.d (.i c.pat.m),.d (.i c.pat.var),.d (zae c.pat.kids)]] [] (.d (.bool false)) []:=by rw[←hp];exact hpi
  rw[hcl,hp,Bool.false_and];refine bd Tryz.f122 22 [] [] fun w0 F0 own kept hk=>?_;refine bx 3004 ?_;refine bx 3005 ?_;refine ev ?_;refine wc zmj (hpi') rfl rfl ?_;refine evd [] [] ?_;refine sq ?_ ?_<;>intro h1 h1p h1s;try simp only[Q] at h1p
  exfalso;contradiction;try simp only[Q] at h1p
  refine dr ?_;refine rn0 (r1 rfl) (.eqd ?_);rotate_left;all_goals (rfl)
 |true=>
  have hpi:=zfI hw ht' hok hsz;have hpi':FnD Tryz.prog 193 [.d (zaj w),.agg [.d (.i t.data),.d (.i t.index)],.agg [.d (.i c.pat.op),.d (.i c.pat.ctor),.d (.i c.pat.n),.d (.i c.pat.m),.d (.i c.pat.var),.d (zae c.pat.kids)]] [] (.d (.bool true)) []:=by rw[←hp];exact hpi
  have hsh:zar w 10 ⟨t.data,t.index⟩ c.pat=true:=by
   have:=hp;unfold isP at this;simp only[xad] at this;exact this.1
  have hvl:=zeD w 10 ⟨t.data,t.index⟩ c.pat;have hge:=zxS (g:=c.g) (zuE hp) (zro hw haz 10 hsh ht);have hge':gdS c.g (zaA w 10 ⟨t.data,t.index⟩ c.pat)=gdOk c.g (zeC w t c.pat):=by rw[zpr hp];exact hge
  rw[hcl,hp,Bool.true_and,←hge'];refine bd Tryz.f122 22 [] [] fun w0 F0 own kept hk=>?_;refine bx 3004 ?_;refine bx 3005 ?_;refine ev ?_;refine wc zmj (hpi') rfl rfl ?_;refine evd [] [] ?_;refine sq ?_ ?_<;>intro h1 h1p h1s;try simp only[Q] at h1p
  refine Walk.call (cr:=[]) zhu (zdr hw hsh (by omega) ht' hok hsz) rfl (.some rfl rfl h1) rfl rfl (LeL.refl _) trivial rfl rfl rfl ?_;refine Walk.call (cr:=[]) zxf (znB (g:=c.g) (by omega)) rfl (.some rfl rfl h1) rfl rfl (LeL.refl _) trivial rfl rfl rfl ?_;refine evd [] [(12,true)] ?_ ⟨⟨_,rfl,h1⟩,trivial⟩;refine dr ?_;refine rn0 (r1 rfl) (.eqd ?_);rotate_left;try simp only[Q] at h1p
  exfalso;contradiction;all_goals (rfl)
def ClsSz (l:List Cl):Prop:=∀c∈l,c.pat.size≤1000000000000
theorem zyj {w:List Data}{t:Ty} (h:zbf w t=true):TyOk w.length t:=by
 unfold zbf at h;rw[xad] at h;exact zuy h.2
theorem zxL {w:List Data}{t:Ty}{l:List Cl}{i:Nat} (hi:i<l.length) (h:clOk w t (nth l i)=false):zbg w t l=false:=by
 unfold zbg;have:l.any (fun c=> !clOk w t c)=true:=List.any_eq_true.2 ⟨nth l i,zaf hi,by rw[h];rfl⟩;rw[this];simp
theorem zv7 {w:List Data}{t:Ty}{l:List Cl} (ht:zbf w t=true) (hl:l.length≤8) (h:∀i,i<l.length→clOk w t (nth l i)=true):zbg w t l=true:=by
 unfold zbg;rw[ht,decide_eq_true (by omega),Bool.true_and,Bool.true_and,Bool.not_eq_true',List.any_eq_false];intro c hc;obtain⟨i,hi,rfl⟩:=List.getElem_of_mem hc;have:=h i hi;simp only[nth,List.getD,List.getElem?_eq_getElem hi,Option.getD_some] at this;simp[this]
theorem zv8 {w:List Data}{t:Ty}{l:List Cl} (h:8<l.length):zbg w t l=false:=by
 unfold zbg;rw[decide_eq_false (by omega),Bool.false_and,Bool.and_false]
theorem zxM {w:List Data}{t:Ty}{l:List Cl} (h:zbf w t=false):zbg w t l=false:=by
 unfold zbg;rw[h,Bool.false_and]
theorem zjo {w:List Data} (hs:WSmall w){a k:Int}{l:List Cl} (hl:ClsOk l) (hz:ClsSz l):
  FnD Tryz.prog 72 [.d (zaj w),.agg [.d (.i a),.d (.i k)],.d (zbW l)] [] (.d (.bool (zbg w ⟨a,k⟩ l))) []:=by
 have hll:=hl.1;refine bd Tryz.f72 31 [] [] fun w0 F0 own kept hk=>?_;refine bx 3004 ?_;refine ev ?_;refine wc zwT (zlZ hs) rfl rfl ?_;refine ev ?_;refine sq ?_ ?_<;>intro h1 h1p h1s;try simp only[Q,Int.natCast_inj] at h1p
 refine sqT ?_;refine rn0 (r1 rfl) (.eqd ?_);rotate_left;try simp only[Q,Int.natCast_inj] at h1p
 refine sq ?_ ?_<;>intro h3 h3p h3s;try simp only[Q,Int.natCast_inj] at h3p
 refine rn0 (r1 rfl) (.eqd ?_);rotate_left;try simp only[Q,Int.natCast_inj] at h3p
 refine xaj (ι:=Nat) hk (fun i=>[(7,.d (.i (i:Int)))]) [6,17,18,19,20,21,22,23,24,25,26,27,28,29,30] (fun i=>[]) (fun i=>i≤l.length∧∀i',i'<i→clOk w ⟨a,k⟩ (nth l i')=true) (fun i=>l.length-i) 0 ⟨by omega,fun _ h=>absurd h (by omega)⟩ ⟨⟨_,rfl,xap ?_⟩,trivial⟩ trivial (fun x=>rfl) (fun i hg1=>?_);focus (first|rfl|(simp;done)|(simp_all;done)|omega)
 refine evc [] [] ?_;refine sq ?_ ?_<;>intro h4 h4p h4s;try simp only[Q,Int.natCast_inj] at h4p
 refine xaV sl28 .none rfl rfl rfl rfl (zas (by omega)) rfl ?_;refine evd [] [] ?_;refine wc zwU (zq7 (t:=⟨a,k⟩) (c:=nth l i) (zhS hs (zcu (by assumption)).1) (zvw (zcu (by assumption)).1) (zyj (by assumption)) (hl.2 _ (zaf (by omega))) (hz _ (zaf (by omega)))) rfl rfl ?_;refine evd [] [] ?_;refine dr ?_;refine sq ?_ ?_<;>intro h5 h5p h5s;try simp only[Q,Int.natCast_inj] at h5p
 refine rn0 (r1 rfl) (.eqd ?_);rotate_left;try simp only[Q,Int.natCast_inj] at h5p
 refine ar ?_;refine Exists.intro (i+1) ⟨⟨by omega,za6 hg1.2 (by assumption)⟩,(by omega),sx ⟨⟨_,rfl,xap ?_⟩,trivial⟩ trivial⟩;focus (first|rfl|(simp;done)|(simp_all;done)|omega)
 try simp only[Q,Int.natCast_inj] at h4p
 refine rn0 (r1 rfl) (.eqd ?_);rotate_left;all_goals (refine congrArg D.bool ?_;first|(rw[zxM (by assumption)];done)|(rw[zv8 (by omega)];done)|(rw[zxL (i:=i) (by omega) (by assumption)];done)|(rw[zv7 (by assumption) (by omega) (fun x hx=>hg1.2 x (by omega))];done))
theorem zee {a b c d e:Int}{l:List Pat}:(Pat.mk a b c d e l).op=a:=rfl
theorem zf1 {a b c d e:Int}{l:List Pat}:(Pat.mk a b c d e l).ctor=b:=rfl
theorem mk_n {a b c d e:Int}{l:List Pat}:(Pat.mk a b c d e l).n=c:=rfl
theorem mk_m {a b c d e:Int}{l:List Pat}:(Pat.mk a b c d e l).m=d:=rfl
theorem ziI {a b c d e:Int}{l:List Pat}:(Pat.mk a b c d e l).var=e:=rfl
theorem zcr {a b c d e:Int}{l:List Pat}:(Pat.mk a b c d e l).kids=l:=rfl
abbrev anyQ:Pat:= .mk 1 0 0 0 0 []
abbrev zv2:Pat:= .mk 0 0 0 0 0 []
mutual
def zaF:Pat→Pat
 | .mk op c n m v ks=>if op=2 then anyQ else if op=6∧ks≠[] then zkV ks else .mk op c n m v (zhV ks)
def zkV:List Pat→Pat
 | []=>anyQ
 |k::_=>zaF k
def zhV:List Pat→List Pat
 | []=>[]
 |k::r=>zaF k::zhV r
end
theorem zlw:∀l:List Pat,zhV l=l.map zaF
 | []=>rfl
 |k::r=>by simp[zhV,zlw r]
theorem zc1 (p:Pat):zaF p=if p.op=2 then anyQ else if p.op=6∧p.kids≠[] then zaF (nth p.kids 0) else .mk p.op p.ctor p.n p.m p.var (p.kids.map zaF):=by
 cases p with|mk op c n m v ks=>
 have e:zaF (.mk op c n m v ks)=if op=2 then anyQ else if op=6∧ks≠[] then zkV ks else .mk op c n m v (zhV ks):=by conv=>lhs;unfold zaF
 rw[e,zlw];by_cases h2:op=2
 ·rw[if_pos h2];exact(if_pos (c:=(Pat.mk op c n m v ks).op=2) h2).symm
 ·rw[if_neg h2];refine Eq.trans ?_ (if_neg (c:=(Pat.mk op c n m v ks).op=2) h2).symm;by_cases h6:op=6∧ks≠[]
  ·rw[if_pos h6];refine Eq.trans ?_ (if_pos (c:=(Pat.mk op c n m v ks).op=6∧(Pat.mk op c n m v ks).kids≠[]) h6).symm;cases ks with
   |nil=>exact absurd rfl h6.2
   |cons k r=>rfl
  ·rw[if_neg h6];exact(if_neg (c:=(Pat.mk op c n m v ks).op=6∧(Pat.mk op c n m v ks).kids≠[]) h6).symm
def zbb (out:List (List Pat)) (l:List Pat):List (List Pat):=out.flatMap fun q=>l.map fun c=>q++[c]
def zeM (ls:List (List Pat)):List (List Pat):=ls.foldl zbb [[]]
mutual
def zaB:Pat→List Pat
 | .mk op c n m v ks=>if op=5 then zx0 ks else (zeM (zk2 ks)).map fun l=> .mk op c n m v l
def zx0:List Pat→List Pat
 | []=>[]
 |a::r=>zaB a++zwz r
def zwz:List Pat→List Pat
 | []=>[]
 |b::_=>zaB b
def zk2:List Pat→List (List Pat)
 | []=>[]
 |k::r=>zaB k::zk2 r
end
theorem znI:∀l:List Pat,zk2 l=l.map zaB
 | []=>rfl
 |k::r=>by simp[zk2,znI r]
theorem zdX {p:Pat} (h:p.op≠5):zaB p=(zeM (p.kids.map zaB)).map fun l=> .mk p.op p.ctor p.n p.m p.var l:=by
 cases p with|mk op c n m v ks=>
 have h':¬op=5:=h;conv=>lhs;unfold zaB
 rw[if_neg h',znI];rfl
theorem zga {p:Pat} (h:p.op=5) (hk:p.kids.length=2):zaB p=zaB (nth p.kids 0)++zaB (nth p.kids 1):=by
 cases p with|mk op c n m v ks=>
 have h':op=5:=h;conv=>lhs;unfold zaB
 rw[if_pos h'];have hk':ks.length=2:=hk;match ks,hk' with
 | [a,b],_=>rfl
mutual
def cntS:Pat→Int
 | .mk op _ _ _ _ ks=>if op=5 then cntO ks 0 else cntM ks 1
def cntO:List Pat→Int→Int
 | [],n=>n
 |k::r,n=>cntO r (cap (n+cntS k))
def cntM:List Pat→Int→Int
 | [],n=>n
 |k::r,n=>cntM r (cap (n*cntS k))
end
theorem znY (p:Pat):cntS p=if p.op=5 then cntO p.kids 0 else cntM p.kids 1:=by
 cases p with|mk op c n m v ks=>
 conv=>lhs;unfold cntS
 rfl
mutual
theorem znX:∀p:Pat,0≤cntS p∧cntS p≤401
 | .mk op _ _ _ _ ks=>by
  unfold cntS;split
  ·exact zrU ks 0 (by omega) (by omega)
  ·exact zrS ks 1 (by omega) (by omega)
theorem zrU:∀(l:List Pat) (n:Int),0≤n→n≤401→0≤cntO l n∧cntO l n≤401
 | [],n,h1,h2=>⟨h1,h2⟩
 |k::r,n,h1,h2=>by
  unfold cntO;have h3:=znX k;have h4:=zgr (x:=n+cntS k) (by omega);exact zrU r _ h4.1 h4.2
theorem zrS:∀(l:List Pat) (n:Int),0≤n→n≤401→0≤cntM l n∧cntM l n≤401
 | [],n,h1,h2=>⟨h1,h2⟩
 |k::r,n,h1,h2=>by
  unfold cntM;have h3:=znX k;have h4:=zgr (x:=n*cntS k) (Int.mul_nonneg h1 h3.1);exact zrS r _ h4.1 h4.2
end
theorem ztL {l:List Pat}{i:Nat}{n:Int} (h:i<l.length):cntO (l.drop i) n=cntO (l.drop (i+1)) (cap (n+cntS (nth l i))):=by
 rw[zaG h];rfl
theorem ztK {l:List Pat}{i:Nat}{n:Int} (h:i<l.length):cntM (l.drop i) n=cntM (l.drop (i+1)) (cap (n*cntS (nth l i))):=by
 rw[zaG h];rfl
def binP:Nat→Pat→Bool
 |0,_=>false
 |n+1,p=>decide (p.op=5→p.kids.length=2)&&p.kids.all (binP n)
theorem zeF {n:Nat}{p:Pat} (h:binP (n+1) p=true){i:Nat} (hi:i<p.kids.length):binP n (nth p.kids i)=true:=by
 unfold binP at h;rw[xad,List.all_eq_true] at h;exact h.2 _ (zaf hi)
theorem zkP {n:Nat}{p:Pat} (h:binP (n+1) p=true) (h5:p.op=5):p.kids.length=2:=by
 unfold binP at h;rw[xad] at h;exact(of_decide_eq_true h.1) h5
theorem zp0:∀(n:Nat){p:Pat},binP n p=true→binP (n+1) p=true
 |0,p,h=>by simp[binP] at h
 |n+1,p,h=>by
  have h':=h;unfold binP at h ⊢;rw[xad,List.all_eq_true] at h ⊢;exact⟨h.1,fun k hk=>zp0 n (h.2 k hk)⟩
theorem zh9 {w:List Data}:∀(n:Nat){t:Ty}{p:Pat},zar w n t p=true→binP n (zaF p)=true
 |0,t,p,h=>by simp[zar] at h
 |n+1,t,p,h=>by
  obtain⟨ho,hlen⟩:=zbA h;have hany:binP (n+1) anyQ=true:=by simp[binP,anyQ,Pat.op,Pat.kids]
  rw[zc1];by_cases h2:p.op=2
  ·rw[if_pos h2];exact hany
  rw[if_neg h2];by_cases h6:p.op=6
  ·obtain⟨hl,s0⟩:=zgA h h6;rw[if_pos ⟨h6,fun e=>by rw[e] at hl;simp at hl⟩];exact zp0 n (zh9 n s0)
  rw[if_neg (fun h=>h6 h.1)];unfold binP;rw[xad,List.all_eq_true];refine⟨decide_eq_true (fun h5=>?_),fun k hk=>?_⟩
  ·have:=(zgB h h5).1;simpa [Pat.kids] using this
  ·simp only[Pat.kids,List.mem_map] at hk;obtain⟨x,hx,rfl⟩:=hk;obtain⟨i,hi,rfl⟩:=List.getElem_of_mem hx;have:=zh9 n (zbz h hi);have e:nth p.kids i=p.kids[i]:=za0 hi;rw[e] at this;exact this
theorem zgD (out:List (List Pat)) (l:List Pat):(zbb out l).length=out.length*l.length:=by
 unfold zbb;induction out with
 |nil=>simp
 |cons q r ih=>rw[List.flatMap_cons,xaa,ih,xac,xab,Nat.succ_mul];omega
theorem zsV (ls:List (List Pat)) (l:List Pat):zeM (ls++[l])=zbb (zeM ls) l:=by unfold zeM;rw[List.foldl_append];rfl
theorem zv6 {a b:Nat}:cap (cap (a:Int)*cap (b:Int))=cap ((a*b:Nat):Int):=by
 unfold cap;rcases Nat.eq_zero_or_pos a with rfl|ha
 ·simp
 rcases Nat.eq_zero_or_pos b with rfl|hb
 ·simp
 have h1:a≤a*b:=Nat.le_mul_of_pos_right a hb;have h2:b≤a*b:=Nat.le_mul_of_pos_left b ha;have hab:((a*b:Nat):Int)=(a:Int)*(b:Int):=by push_cast;rfl
 by_cases ca:401<(a:Int)
 ·rw[if_pos ca];by_cases cb:401<(b:Int)
  ·rw[if_pos cb,if_pos (by omega),if_pos (by omega)]
  ·rw[if_neg cb];have h3:(401:Int)*1≤401*(b:Int):=Int.mul_le_mul_of_nonneg_left (by omega) (by omega);rw[if_pos (show 401<((a*b:Nat):Int) by omega)];split<;>omega
 ·rw[if_neg ca];by_cases cb:401<(b:Int)
  ·rw[if_pos cb];have h3:(1:Int)*401≤(a:Int)*401:=Int.mul_le_mul_of_nonneg_right (by omega) (by omega);rw[if_pos (show 401<((a*b:Nat):Int) by omega)];split<;>omega
  ·rw[if_neg cb,hab]
theorem zv4 {a b:Nat}:cap (cap (a:Int)+cap (b:Int))=cap ((a+b:Nat):Int):=by
 unfold cap;push_cast
 split<;>split<;>split<;>(try split)<;>omega
theorem zv5 {x:Int}:cap (cap x)=cap x:=by unfold cap;split<;>(try split)<;>omega
theorem zrT:∀(l:List Pat) (out:List (List Pat)),(∀k∈l,cntS k=cap ((zaB k).length:Int)∧0<(zaB k).length)→cntM l (cap (out.length:Int))=cap (((l.map zaB).foldl zbb out).length:Int)∧(0<out.length→0<((l.map zaB).foldl zbb out).length)
 | [],out,_=>⟨rfl,fun h=>h⟩
 |k::r,out,h=>by
  have hk:=h k (by simp);unfold cntM;rw[hk.1,zv6];have:=zrT r (zbb out (zaB k)) (fun x hx=>h x (by simp[hx]));rw[zgD] at this;rw[xae,List.foldl_cons];exact⟨this.1,fun ho=>this.2 (Nat.mul_pos ho hk.2)⟩
theorem zmv:∀(n:Nat){p:Pat},binP n p=true→cntS p=cap ((zaB p).length:Int)∧0<(zaB p).length
 |0,p,h=>by simp[binP] at h
 |n+1,p,h=>by
  have ih:=fun i (hi:i<p.kids.length)=>zmv n (zeF h hi);rw[znY];by_cases h5:p.op=5
  ·have hl:=zkP h h5;rw[if_pos h5,zga h5 hl,xaa];have k0:=ih 0 (by omega);have k1:=ih 1 (by omega);have e:p.kids=[nth p.kids 0,nth p.kids 1]:=by
    match hk:p.kids,hl with
    | [a,b],_=>rfl
   refine⟨?_,by omega⟩;rw[e];simp only[cntO];rw[Int.zero_add,k0.1,zv5,k1.1];show cap (cap ((zaB (nth p.kids 0)).length:Int)+cap ((zaB (nth p.kids 1)).length:Int))=_
   rw[zv4];rfl
  ·rw[if_neg h5,zdX h5,xac];have:=zrT p.kids [[]] (fun k hk=>by
    obtain⟨i,hi,rfl⟩:=List.getElem_of_mem hk;have:=ih i hi;simpa [nth,List.getD,hi] using this)
   exact⟨this.1,this.2 (by simp)⟩
theorem zhz:∀(ls:List (List Pat)) (out:List (List Pat)),(∀l∈ls,0<l.length)→out.length≤(ls.foldl zbb out).length
 | [],out,_=>Nat.le_refl _
 |l::r,out,h=>by
  rw[List.foldl_cons];have h1:=zhz r (zbb out l) (fun x hx=>h x (by simp[hx]));rw[zgD] at h1;have h2:out.length≤out.length*l.length:=Nat.le_mul_of_pos_right _ (h l (by simp));omega
theorem zjw:∀(ls:List (List Pat)) (out:List (List Pat)),(∀l∈ls,0<l.length)→0<out.length→∀l∈ls,l.length≤(ls.foldl zbb out).length
 | [],out,_,_,l,hl=>by simp at hl
 |x::r,out,h,ho,l,hl=>by
  rw[List.foldl_cons];have hx:=h x (by simp);have hp:0<(zbb out x).length:=by rw[zgD];exact Nat.mul_pos ho hx
  rcases List.mem_cons.1 hl with rfl|hl
  ·have h1:=zhz r (zbb out l) (fun y hy=>h y (by simp[hy]));rw[zgD] at h1;have h2:l.length≤out.length*l.length:=Nat.le_mul_of_pos_left _ ho;omega
  ·exact zjw r (zbb out x) (fun y hy=>h y (by simp[hy])) hp l hl
theorem zif {n:Nat}{p:Pat} (h:binP (n+1) p=true){i:Nat} (hi:i<p.kids.length):(zaB (nth p.kids i)).length≤(zaB p).length:=by
 by_cases h5:p.op=5
 ·have hl:=zkP h h5;rw[zga h5 hl,xaa];have:i=0∨i=1:=by omega
  rcases this with rfl|rfl<;>omega
 ·rw[zdX h5,xac];refine zjw _ [[]] (fun l hl=>?_) (by simp) _ (List.mem_map.2 ⟨_,zaf hi,rfl⟩);obtain⟨k,hk,rfl⟩:=List.mem_map.1 hl;obtain⟨j,hj,rfl⟩:=List.getElem_of_mem hk;have:=(zmv n (zeF h hj)).2;simpa [nth,List.getD,hj] using this
theorem zrH {n:Nat}{p:Pat} (h:binP (n+1) p=true) (h5:p.op≠5) (i:Nat):(zeM ((p.kids.take i).map zaB)).length≤(zaB p).length:=by
 rw[zdX h5,xac];have e:p.kids.map zaB=(p.kids.take i).map zaB++(p.kids.drop i).map zaB:=by rw[←xaf,List.take_append_drop]
 unfold zeM;rw[e,List.foldl_append];refine zhz _ _ (fun l hl=>?_);obtain⟨k,hk,rfl⟩:=List.mem_map.1 hl;obtain⟨j,hj,rfl⟩:=List.getElem_of_mem (List.mem_of_mem_drop hk);have:=(zmv n (zeF h hj)).2;simpa [nth,List.getD,hj] using this
def zai (w:List Data):Nat→Ty→Pat→Bool
 |0,_,_=>false
 |n+1,t,p=>(ownP w t p&&decide (p.op=1∨p.op=3∨p.op=4))&&all2 (zai w n) (zad w t p) p.kids
theorem ziT {α β:Type}{f g:α→β→Bool}:∀ {a:List α}{b:List β},(∀x∈a,∀y∈b,f x y=true→g x y=true)→all2 f a b=true→all2 g a b=true
 | [],[],_,_=>rfl
 |x::r,y::s,h,h2=>by
  simp only[all2,xad] at h2 ⊢;exact⟨h x (by simp) y (by simp) h2.1,ziT (fun a ha b hb=>h a (by simp[ha]) b (by simp[hb])) h2.2⟩
 | [],_::_,_,h2=>by simp[all2] at h2
 |_::_,[],_,h2=>by simp[all2] at h2
theorem zg4 {w:List Data}:∀(n:Nat){t:Ty}{p:Pat},zai w n t p=true→zar w n t p=true
 |0,t,p,h=>by simp[zai] at h
 |n+1,t,p,h=>by
  unfold zai at h;unfold zar;simp only[xad] at h ⊢;exact⟨h.1.1,ziT (fun x _ y _ hh=>zg4 n hh) h.2⟩
theorem zgy {w:List Data}:∀(n:Nat){t:Ty}{p:Pat},zai w n t p=true→zai w (n+1) t p=true
 |0,t,p,h=>by simp[zai] at h
 |n+1,t,p,h=>by
  unfold zai at h ⊢;simp only[xad] at h ⊢;exact⟨h.1,ziT (fun x _ y _ hh=>zgy n hh) h.2⟩
theorem zbw {w:List Data}{n:Nat}{t:Ty}{p:Pat} (h:zai w n t p=true):p.op=1∨p.op=3∨p.op=4:=by
 cases n with
 |zero=>simp[zai] at h
 |succ n=>unfold zai at h;simp only[xad] at h;exact of_decide_eq_true h.1.2
theorem zhH {w:List Data}{n:Nat}{t:Ty}{p:Pat} (h:zai w n t p=true):ownP w t p=true∧p.kids.length=(zad w t p).length:=by
 cases n with
 |zero=>simp[zai] at h
 |succ n=>exact zbA (zg4 _ h)
theorem za4 {w:List Data}{n:Nat}{t:Ty}{p:Pat} (h:zai w (n+1) t p=true){i:Nat} (hi:i<p.kids.length):zai w n (nth (zad w t p) i) (nth p.kids i)=true:=by
 have hl:=(zhH h).2;unfold zai at h;simp only[xad] at h;exact zfQ hl.symm h.2 i (by omega)
theorem zwt {w:List Data}{t:Ty}{p:Pat}{l:List Pat}:ownP w t (.mk p.op p.ctor p.n p.m p.var l)=ownP w t p:=rfl
theorem zuB {w:List Data}{t:Ty}{p:Pat}{l:List Pat}:zad w t (.mk p.op p.ctor p.n p.m p.var l)=zad w t p:=rfl
theorem zkp:∀(ls:List (List Pat)) (out:List (List Pat)) (l:List Pat),l∈ls.foldl zbb out→∃q∈out,∃r:List Pat,l=q++r∧r.length=ls.length∧∀i,i<ls.length→nth r i∈nth ls i
 | [],out,l,h=>⟨l,h,[],by simp,rfl,fun i hi=>by simp at hi⟩
 |x::rs,out,l,h=>by
  rw[List.foldl_cons] at h;obtain⟨q,hq,r,e,hl,hm⟩:=zkp rs (zbb out x) l h;unfold zbb at hq;simp only[List.mem_flatMap,List.mem_map] at hq;obtain⟨q0,hq0,c,hc,rfl⟩:=hq;refine⟨q0,hq0,c::r,by rw[e];simp,by simp[hl],fun i hi=>?_⟩;cases i with
  |zero=>exact hc
  |succ i=>exact hm i (by simpa using hi)
theorem zjL {w:List Data}{n:Nat}{t:Ty}:zai w (n+1) t anyQ=true:=by
 unfold zai;have h1:zad w t anyQ=[]:=by unfold zad;rw[if_neg (by decide),if_neg (by decide),if_neg (by decide)]
 rw[h1];have h2:ownP w t anyQ=true:=by unfold ownP;exact decide_eq_true (by simp[anyQ,Pat.op,Pat.var,Pat.n,Pat.m,Pat.ctor])
 rw[h2];rfl
theorem zmd:zaB anyQ=[anyQ]:=by
 rw[zdX (by decide)];rfl
theorem zjn {w:List Data}{n:Nat}{t:Ty}{p:Pat} (h:zar w (n+1) t p=true) (h4:p.op≠4) (h5:p.op≠5) (h6:p.op≠6):p.kids=[]:=by
 have hl:=(zbA h).2;unfold zad at hl;rw[if_neg h4,if_neg h5,if_neg h6] at hl;exact List.eq_nil_of_length_eq_zero hl
theorem zhI {w:List Data}:∀(n:Nat){t:Ty}{p:Pat},zar w n t p=true→∀x∈zaB (zaF p),zai w n t x=true
 |0,t,p,h=>by simp[zar] at h
 |n+1,t,p,h=>by
  obtain⟨ho,hlen⟩:=zbA h;have hop:=zf4 h;intro x hx;rw[zc1] at hx;by_cases h2:p.op=2
  ·rw[if_pos h2,zmd,List.mem_singleton] at hx;rw[hx];exact zjL
  rw[if_neg h2] at hx;by_cases h6:p.op=6
  ·obtain⟨hl,s0⟩:=zgA h h6;rw[if_pos ⟨h6,fun e=>by rw[e] at hl;simp at hl⟩] at hx;exact zgy n (zhI n s0 x hx)
  rw[if_neg (fun h=>h6 h.1)] at hx;by_cases h5:p.op=5
  ·obtain⟨hl,s0,s1⟩:=zgB h h5;have hl2:(p.kids.map zaF).length=2:=by rw[xac];exact hl
   rw[zga (p:= .mk p.op p.ctor p.n p.m p.var (p.kids.map zaF)) h5 hl2] at hx;have e0:nth (p.kids.map zaF) 0=zaF (nth p.kids 0):=by
    match hk:p.kids,hl with
    | [a,b],_=>rfl
   have e1:nth (p.kids.map zaF) 1=zaF (nth p.kids 1):=by
    match hk:p.kids,hl with
    | [a,b],_=>rfl
   simp only[zcr] at hx;rw[e0,e1] at hx;rcases List.mem_append.1 hx with hx|hx
   ·exact zgy n (zhI n s0 x hx)
   ·exact zgy n (zhI n s1 x hx)
  rw[zdX (p:= .mk p.op p.ctor p.n p.m p.var (p.kids.map zaF)) h5] at hx;simp only[zcr,zee,zf1,mk_n,mk_m,ziI,List.mem_map] at hx;obtain⟨l,hl,rfl⟩:=hx;obtain⟨q,hq,r,e,hlr,hm⟩:=zkp _ _ _ hl;rw[List.mem_singleton] at hq;rw[hq,List.nil_append] at e;subst e;simp only[List.map_map,xac] at hlr hm;unfold zai;rw[zwt,zuB,ho,decide_eq_true (show _∨_∨_ from by rw[zee];omega),Bool.true_and,Bool.true_and];refine zcK (by rw[zcr];omega) (fun i hi=>?_);have hm':=hm i (by omega);have e2:nth (p.kids.map (zaB ∘ zaF)) i=zaB (zaF (nth p.kids i)):=by
   rw[za0 (by simp;omega)];simp[nth,List.getD,show i<p.kids.length by omega]
  rw[e2] at hm';exact zhI n (zbz h (by omega)) _ hm'
theorem Pats.ok_of:∀ {l:List Pat},(∀k∈l,k.ok)→Pats.ok l
 | [],_=>trivial
 |k::r,h=>⟨h k (by simp),Pats.ok_of (fun x hx=>h x (by simp[hx]))⟩
theorem Pats.size_of {m:Nat}:∀ {l:List Pat},(∀k∈l,k.size≤m)→Pats.size l≤l.length*m
 | [],_=>by simp[Pats.size]
 |k::r,h=>by
  have h1:=h k (by simp);have h2:=Pats.size_of (l:=r) (fun x hx=>h x (by simp[hx]));simp only[Pats.size,xab,Nat.succ_mul];omega
mutual
theorem zkN:∀p:Pat,p.ok→(zaF p).ok
 | .mk op c n m v ks,h=>by
  unfold zaF;split
  ·exact⟨by simp,trivial⟩
  ·split
   ·exact zuY ks h.2
   ·exact⟨by rw[zlw,xac];exact h.1,zpZ ks h.2⟩
theorem zuY:∀l:List Pat,Pats.ok l→(zkV l).ok
 | [],_=>⟨by simp,trivial⟩
 |k::r,h=>zkN k h.1
theorem zpZ:∀l:List Pat,Pats.ok l→Pats.ok (zhV l)
 | [],_=>trivial
 |k::r,h=>⟨zkN k h.1,zpZ r h.2⟩
end
mutual
theorem zoC:∀p:Pat,(zaF p).size≤p.size
 | .mk op c n m v ks=>by
  unfold zaF;split
  ·simp[anyQ,Pat.size,Pats.size]
  ·split
   ·have:=zsJ ks;simp only[Pat.size];omega
   ·have:=zmf ks;simp only[Pat.size];omega
theorem zsJ:∀l:List Pat,(zkV l).size≤1+Pats.size l
 | []=>by simp[zkV,anyQ,Pat.size,Pats.size]
 |k::r=>by have:=zoC k;simp only[zkV,Pats.size];omega
theorem zmf:∀l:List Pat,Pats.size (zhV l)≤Pats.size l
 | []=>Nat.le_refl _
 |k::r=>by have:=zoC k;have:=zmf r;simp only[zhV,Pats.size];omega
end
theorem xas (l:List Pat):Pat.cs l=l.map Pat.cc:=by
 rw[Pat.cs_eq];exact List.map_congr_left (fun v _=>Pat.c_eq v)
theorem zch (l:List Pat):∀x∈Pat.cs l,x.length=6:=Pat.cs_rows
theorem zhq (l:List Pat):∀x∈l.map Pat.cc,x.length=6:=fun x hx=>by
 obtain⟨y,_,rfl⟩:=List.mem_map.1 hx;rfl
theorem zrM {p:Pat} (h:p.op=2):zaF p=anyQ:=by rw[zc1,if_pos h]
theorem zrN {p:Pat} (h:p.op=6) (h2:0<p.kids.length):zaF p=zaF (nth p.kids 0):=by
 rw[zc1,if_neg (by omega),if_pos ⟨h,fun e=>by rw[e] at h2;simp at h2⟩]
theorem zrO {p:Pat} (h:p.op≠2) (h2:¬(p.op=6∧0<p.kids.length)):zaF p = .mk p.op p.ctor p.n p.m p.var (p.kids.map zaF):=by
 rw[zc1,if_neg h,if_neg (fun hh=>h2 ⟨hh.1,List.length_pos_iff.2 hh.2⟩)]
theorem zgw:∀(n:Nat){p:Pat},p.size≤n→p.ok→FnD Tryz.prog 100 [.agg [.d (.i p.op),.d (.i p.ctor),.d (.i p.n),.d (.i p.m),.d (.i p.var),.d (zae p.kids)]] [] (.agg [.d (.i p.op),.d (.i p.ctor),.d (.i p.n),.d (.i p.m),.d (.i p.var),.d (zae p.kids)]) []
 |0,p,h,_=>by rw[Pat.size_eq] at h;omega
 |n+1,p,h,hok=>by
  rw[Pat.size_eq] at h;rw[Pat.ok_iff] at hok;have hok1:=hok.1;refine bd Tryz.f100 24 [] [] fun w0 F0 own kept hk=>?_;refine bx 3001 ?_;refine ab 3002 tz56 ?_;refine tv ?_;refine so ty45 ?_;refine tv ?_;refine xam 3001 5 7 6 rfl rfl rfl rfl ?_;refine xaj (ι:=List (Pat)×List (Pat)) hk (fun x=>[(11,.d (.i (x.1.length:Int)))]) [5,12,13,14,15,16,17,18,19,20,21,22] (fun x=>[(3001,some (.box [.d (.i p.op),.d (.i p.ctor),.d (.i p.n),.d (.i p.m),.d (.i p.var),.gl 7 (x.1.map Pat.cc)])),(7,some (.tok (x.1.map Pat.cc).length 6))]) (fun x=>x.1++x.2=p.kids) (fun x=>x.2.length) ([],p.kids) (by simp) ⟨⟨_,rfl,xap ?_⟩,trivial⟩ ⟨?_,⟨zaa ?_,trivial⟩⟩ (fun x=>rfl) (fun x hg1=>?_);focus (rfl)
  focus (first|rfl|(simp[getH];done))
  focus (rfl)
  obtain⟨pre,rest⟩:=x;dsimp only at hg1 ⊢;refine evc [] [] ?_;refine sq ?_ ?_<;>intro h1 h1p h1s;try simp only[Q,Pat.cs_len] at h1p
  rcases rest with _|⟨y,rest⟩
  ·exfalso;simp_all
  refine xaV sl45 .none rfl rfl rfl rfl (Pat.cs_at' hg1) rfl ?_;refine ev ?_;refine ab 3005 tz56 ?_;refine so ty56 ?_;refine tv ?_;refine wc zta (zgw n (p:=y) (by have:=Pats.size_mem (l:=p.kids) (v:=y) (by rw[←hg1];simp);omega) (Pats.ok_mem hok.2 y (by rw[←hg1];simp))) rfl rfl ?_;refine si [0] [_] sl45 tz56 ?_;refine ap sl45 zz56 rfl rfl rfl (by intro x hx;(simp at hx;subst hx;rfl)) (by have:=congrArg List.length hg1;simp at this;simp;omega) ?_;refine evd [] [] ?_;refine so ty45 ?_;refine dr ?_;refine ar ?_;refine Exists.intro ((pre++[y],rest)) ⟨(by have hz:=hg1;rw[←hz];simp),(by simp),sx ⟨⟨_,rfl,xap ?_⟩,trivial⟩ ⟨?_,⟨zaa ?_,trivial⟩⟩⟩;focus ((simp;done))
  focus (first|rfl|(simp[getH];done))
  focus ((simp;done))
  try simp only[Q,Pat.cs_len] at h1p
  have hrest:rest=[]:=by
   rcases rest with _|⟨a,b⟩
   ·rfl
   ·exfalso;have hz:=congrArg List.length (hg1);simp only[xaa,xab,xac] at hz;omega
  subst hrest;refine so ty56 ?_;refine tv ?_;refine rn0 (.cons (.cellA ty56 rfl rfl rfl) .nil) (.agg (.cons (.eqd ?_) (.cons (.eqd ?_) (.cons (.eqd ?_) (.cons (.eqd ?_) (.cons (.eqd ?_) (.cons (.gld ?_) .nil)))))));rotate_left 6;all_goals (first|rfl|(rw[List.append_nil] at hg1;rw[←hg1,xas];done))
theorem zjF {l:List Pat} (h:l.length≤1000000000000) (hok:∀p∈l,p.ok):FnD Tryz.prog 120 [.d (zae l)] [] (.d (zae l)) []:=by
 refine bd Tryz.f120 19 [3] [] fun w0 F0 own kept hk=>?_;refine xaD 1 6 .none rfl rfl ?_;refine tv ?_;refine xaj (ι:=List (Pat)×List (Pat)) hk (fun x=>[(8,.d (.i (x.1.length:Int))),(3,.gl 1 (x.1.map Pat.cc))]) [5,9,10,11,12,13,14,15,16,17] (fun x=>[(1,some (.tok ((x.1.map Pat.cc)).length 6))]) (fun x=>x.1++x.2=l) (fun x=>x.2.length) ([],l) (by simp) ⟨⟨_,rfl,xap ?_⟩,⟨⟨_,rfl,LeA.glg ?_⟩,trivial⟩⟩ ⟨zaa ?_,trivial⟩ (fun x=>rfl) (fun x hg1=>?_);iterate 3 focus (rfl)
 obtain⟨pre,rest⟩:=x;dsimp only at hg1 ⊢;refine evc [3] [] ?_;refine sq ?_ ?_<;>intro h1 h1p h1s;try simp only[Q,Pat.cs_len] at h1p
 rcases rest with _|⟨y,rest⟩
 ·exfalso;simp_all
 refine xaV sl45 .none rfl rfl rfl rfl (Pat.cs_at' hg1) rfl ?_;refine evs [3] [] ?_;refine ab 3005 tz56 ?_;refine so ty56 ?_;refine tv ?_;refine wc zta (zgw _ (Nat.le_refl _) (hok y (by rw[←hg1];simp))) rfl rfl ?_;refine si [0] [_] sl45 tz56 ?_;refine ap sl45 zz56 rfl rfl rfl (by intro x hx;simp at hx;subst hx;rfl) (by have:=congrArg List.length hg1;simp at this;simp;omega) ?_;refine asg ?_;refine tv ?_;refine ar ?_;refine Exists.intro ((pre++[y],rest)) ⟨(by have hz:=hg1;rw[←hz];simp),(by simp),sx ⟨⟨_,rfl,xap ?_⟩,⟨⟨_,rfl,LeA.glg ?_⟩,trivial⟩⟩ ⟨zaa ?_,trivial⟩⟩;iterate 3 focus ((simp;done))
 try simp only[Q,Pat.cs_len] at h1p
 have hrest:rest=[]:=by
  rcases rest with _|⟨a,b⟩
  ·rfl
  ·exfalso;have hz:=congrArg List.length (hg1);simp only[xaa,xab,xac] at hz;omega
 subst hrest;refine rn0 (r1 rfl) (.gld ?_);rotate_left;all_goals ((rw[List.append_nil] at hg1;rw[←hg1,xas];done))
theorem zeq:FnD Tryz.prog 53 [] [] (.agg [.d (.i 1),.d (.i 0),.d (.i 0),.d (.i 0),.d (.i 0),.d (.sl [])]) []:=by
 refine bd Tryz.f53 2 [] [] fun w0 F0 own kept hk=>?_;refine ab 3000 tz56 ?_;refine tv ?_;refine bu [0] [_] st56 ?_;refine so ty56 ?_;refine tv ?_;focus (refine rn0 (.cons (.cellA ty56 rfl rfl rfl) .nil) (.agg (.cons (.eqd ?_) (.cons (.eqd ?_) (.cons (.eqd ?_) (.cons (.eqd ?_) (.cons (.eqd ?_) (.cons (.nild ?_) .nil)))))));all_goals (rfl))
theorem zc8:∀(n:Nat){p:Pat},p.size≤n→p.ok→FnD Tryz.prog 178 [.agg [.d (.i p.op),.d (.i p.ctor),.d (.i p.n),.d (.i p.m),.d (.i p.var),.d (zae p.kids)]] [] (.agg [.d (.i (zaF p).op),.d (.i (zaF p).ctor),.d (.i (zaF p).n),.d (.i (zaF p).m),.d (.i (zaF p).var),.d (zae (zaF p).kids)]) []
 |0,p,h,_=>by rw[Pat.size_eq] at h;omega
 |n+1,p,h,hok=>by
  rw[Pat.size_eq] at h;rw[Pat.ok_iff] at hok;have hok1:=hok.1;by_cases h2:p.op=2
  ·rw[zrM h2];refine bd Tryz.f178 44 [] [] fun w0 F0 own kept hk=>?_;refine bx 3001 ?_;refine ab 3002 tz56 ?_;refine tv ?_;refine sq ?_ ?_<;>intro h1 h1p h1s;try simp only[Q] at h1p
   refine wc zss (zeq) rfl rfl ?_;refine so ty56 ?_;refine tv ?_;refine rn0 (.cons (.cellA ty56 rfl rfl rfl) .nil) (.agg (.cons (.eqd ?_) (.cons (.eqd ?_) (.cons (.eqd ?_) (.cons (.eqd ?_) (.cons (.eqd ?_) (.cons (.eqd ?_) .nil)))))));rotate_left 6;try simp only[Q] at h1p
   exfalso;omega;all_goals (rfl)
  by_cases h6:p.op=6∧0<p.kids.length
  ·rw[zrN h6.1 h6.2];refine bd Tryz.f178 44 [] [] fun w0 F0 own kept hk=>?_;refine bx 3001 ?_;refine ab 3002 tz56 ?_;refine tv ?_;refine sq ?_ ?_<;>intro h1 h1p h1s;try simp only[Q,Pat.cs_len] at h1p
   exfalso;omega;try simp only[Q,Pat.cs_len] at h1p
   refine sq ?_ ?_<;>intro h2 h2p h2s;try simp only[Q,Pat.cs_len] at h2p
   refine sq ?_ ?_<;>intro h3 h3p h3s;try simp only[Q,Pat.cs_len] at h3p
   refine xaV (i:=0) sl45 .none rfl rfl rfl rfl (zaC h6.2) rfl ?_;refine ev ?_;refine wc zjP (zc8 n (p:=nth p.kids 0) (by have:=Pats.size_mem (zaf h6.2);omega) (Pats.ok_mem hok.2 _ (zaf h6.2))) rfl rfl ?_;refine so ty56 ?_;refine tv ?_;refine rn0 (.cons (.cellA ty56 rfl rfl rfl) .nil) (.agg (.cons (.eqd ?_) (.cons (.eqd ?_) (.cons (.eqd ?_) (.cons (.eqd ?_) (.cons (.eqd ?_) (.cons (.eqd ?_) .nil)))))));rotate_left 6;try simp only[Q,Pat.cs_len] at h3p
   focus (exfalso;first|omega|(simp_all;done))
   try simp only[Q,Pat.cs_len] at h2p
   exfalso;omega;all_goals (rfl)
  ·rw[zrO h2 h6];refine bd Tryz.f178 44 [] [] fun w0 F0 own kept hk=>?_;refine bx 3001 ?_;refine ab 3002 tz56 ?_;refine tv ?_;refine sq ?_ ?_<;>intro h1 h1p h1s;try simp only[Q,Pat.cs_len] at h1p
   exfalso;omega;try simp only[Q,Pat.cs_len] at h1p
   refine sq ?_ ?_<;>intro h2 h2p h2s;try simp only[Q,Pat.cs_len] at h2p
   refine sq ?_ ?_<;>intro h3 h3p h3s;try simp only[Q,Pat.cs_len] at h3p
   focus (exfalso;apply h6;first|omega|(simp_all;done))
   try simp only[Q,Pat.cs_len] at h3p
   refine so ty45 ?_;refine tv ?_;refine xam 3001 5 7 6 rfl rfl rfl rfl ?_;refine xaj (ι:=List (Pat)×List (Pat)) hk (fun x=>[(31,.d (.i (x.1.length:Int)))]) [5,32,33,34,35,36,37,38,39,40,41,42] (fun x=>[(3001,some (.box [.d (.i p.op),.d (.i p.ctor),.d (.i p.n),.d (.i p.m),.d (.i p.var),.gl 7 ((x.1.map zaF).map Pat.cc)])),(7,some (.tok ((x.1.map zaF).map Pat.cc).length 6))]) (fun x=>x.1++x.2=p.kids) (fun x=>x.2.length) ([],p.kids) (by simp) ⟨⟨_,rfl,xap ?_⟩,trivial⟩ ⟨?_,⟨zaa ?_,trivial⟩⟩ (fun x=>rfl) (fun x hg1=>?_);focus (rfl)
   focus (first|rfl|(simp[getH];done))
   focus (rfl)
   obtain⟨pre,rest⟩:=x;dsimp only at hg1 ⊢;refine evc [] [] ?_;refine sq ?_ ?_<;>intro h4 h4p h4s;try simp only[Q,Pat.cs_len] at h4p
   rcases rest with _|⟨y,rest⟩
   ·exfalso;simp_all
   refine xaV sl45 .none rfl rfl rfl rfl (Pat.cs_at' hg1) rfl ?_;refine ev ?_;refine ab 3005 tz56 ?_;refine so ty56 ?_;refine tv ?_;refine wc zjP (zc8 n (p:=y) (by have:=Pats.size_mem (l:=p.kids) (v:=y) (by rw[←hg1];simp);omega) (Pats.ok_mem hok.2 y (by rw[←hg1];simp))) rfl rfl ?_;refine si [0] [_] sl45 tz56 ?_;refine ap sl45 zz56 rfl rfl rfl (by intro x hx;(simp at hx;subst hx;rfl)) (by have:=congrArg List.length hg1;simp at this;simp;omega) ?_;refine evd [] [] ?_;refine so ty45 ?_;refine dr ?_;refine ar ?_;refine Exists.intro ((pre++[y],rest)) ⟨(by have hz:=hg1;rw[←hz];simp),(by simp),sx ⟨⟨_,rfl,xap ?_⟩,trivial⟩ ⟨?_,⟨zaa ?_,trivial⟩⟩⟩;focus ((simp;done))
   focus (first|rfl|(simp[getH];done))
   focus ((simp;done))
   try simp only[Q,Pat.cs_len] at h4p
   have hrest:rest=[]:=by
    rcases rest with _|⟨a,b⟩
    ·rfl
    ·exfalso;have hz:=congrArg List.length (hg1);simp only[xaa,xab,xac] at hz;omega
   subst hrest;refine so ty56 ?_;refine tv ?_;refine rn0 (.cons (.cellA ty56 rfl rfl rfl) .nil) (.agg (.cons (.eqd ?_) (.cons (.eqd ?_) (.cons (.eqd ?_) (.cons (.eqd ?_) (.cons (.eqd ?_) (.cons (.gld ?_) .nil)))))));rotate_left 6;try simp only[Q,Pat.cs_len] at h2p
   refine sqF ?_;refine so ty45 ?_;refine tv ?_;refine xam 3001 5 7 6 rfl rfl rfl rfl ?_;refine xaj (ι:=List (Pat)×List (Pat)) hk (fun x=>[(31,.d (.i (x.1.length:Int)))]) [5,32,33,34,35,36,37,38,39,40,41,42] (fun x=>[(3001,some (.box [.d (.i p.op),.d (.i p.ctor),.d (.i p.n),.d (.i p.m),.d (.i p.var),.gl 7 ((x.1.map zaF).map Pat.cc)])),(7,some (.tok ((x.1.map zaF).map Pat.cc).length 6))]) (fun x=>x.1++x.2=p.kids) (fun x=>x.2.length) ([],p.kids) (by simp) ⟨⟨_,rfl,xap ?_⟩,trivial⟩ ⟨?_,⟨zaa ?_,trivial⟩⟩ (fun x=>rfl) (fun x hg1=>?_);focus (rfl)
   focus (first|rfl|(simp[getH];done))
   focus (rfl)
   obtain⟨pre,rest⟩:=x;dsimp only at hg1 ⊢;refine evc [] [] ?_;refine sq ?_ ?_<;>intro h6 h6p h6s;try simp only[Q,Pat.cs_len] at h6p
   rcases rest with _|⟨y,rest⟩
   ·exfalso;simp_all
   refine xaV sl45 .none rfl rfl rfl rfl (Pat.cs_at' hg1) rfl ?_;refine ev ?_;refine ab 3005 tz56 ?_;refine so ty56 ?_;refine tv ?_;refine wc zjP (zc8 n (p:=y) (by have:=Pats.size_mem (l:=p.kids) (v:=y) (by rw[←hg1];simp);omega) (Pats.ok_mem hok.2 y (by rw[←hg1];simp))) rfl rfl ?_;refine si [0] [_] sl45 tz56 ?_;refine ap sl45 zz56 rfl rfl rfl (by intro x hx;(simp at hx;subst hx;rfl)) (by have:=congrArg List.length hg1;simp at this;simp;omega) ?_;refine evd [] [] ?_;refine so ty45 ?_;refine dr ?_;refine ar ?_;refine Exists.intro ((pre++[y],rest)) ⟨(by have hz:=hg1;rw[←hz];simp),(by simp),sx ⟨⟨_,rfl,xap ?_⟩,trivial⟩ ⟨?_,⟨zaa ?_,trivial⟩⟩⟩;focus ((simp;done))
   focus (first|rfl|(simp[getH];done))
   focus ((simp;done))
   try simp only[Q,Pat.cs_len] at h6p
   have hrest:rest=[]:=by
    rcases rest with _|⟨a,b⟩
    ·rfl
    ·exfalso;have hz:=congrArg List.length (hg1);simp only[xaa,xab,xac] at hz;omega
   subst hrest;refine so ty56 ?_;refine tv ?_;refine rn0 (.cons (.cellA ty56 rfl rfl rfl) .nil) (.agg (.cons (.eqd ?_) (.cons (.eqd ?_) (.cons (.eqd ?_) (.cons (.eqd ?_) (.cons (.eqd ?_) (.cons (.gld ?_) .nil)))))));rotate_left 6;all_goals (first|rfl|(rw[List.append_nil] at hg1;subst hg1;rw[←xas];all_goals rfl))
theorem zer:∀(n:Nat){p:Pat},p.size≤n→p.ok→FnD Tryz.prog 179 [.agg [.d (.i p.op),.d (.i p.ctor),.d (.i p.n),.d (.i p.m),.d (.i p.var),.d (zae p.kids)]] [] (.d (.i (cntS p))) []
 |0,p,h,_=>by rw[Pat.size_eq] at h;omega
 |n+1,p,h,hok=>by
  rw[Pat.size_eq] at h;rw[Pat.ok_iff] at hok;have hok1:=hok.1;have hbd:=fun i=>znX (nth p.kids i);by_cases h5:p.op=5
  ·rw[znY,if_pos h5];refine bd Tryz.f179 31 [] [] fun w0 F0 own kept hk=>?_;refine bx 3001 ?_;refine ev ?_;refine sq ?_ ?_<;>intro h1 h1p h1s;try simp only[Q,Pat.cs_len] at h1p
   refine xaj (ι:=Nat×Int) hk (fun x=>[(12,.d (.i (x.1:Int))),(3,.d (.i x.2))]) [5,13,14,15,16,17,18,19,20,21,22,23,24,25,26,27,28,29] (fun x=>[]) (fun x=>x.1≤p.kids.length∧cntO (p.kids.drop x.1) x.2=cntO p.kids 0∧0≤x.2∧x.2≤401) (fun x=>p.kids.length-x.1) (0,0) ⟨by simp,rfl,by simp,by simp⟩ ⟨⟨_,rfl,xap ?_⟩,⟨⟨_,rfl,xap ?_⟩,trivial⟩⟩ trivial (fun x=>rfl) (fun x hg1=>?_);iterate 2 focus (rfl)
   refine evc [] [] ?_;refine sq ?_ ?_<;>intro h2 h2p h2s;try simp only[Q,Pat.cs_len] at h2p
   refine xaV sl45 .none rfl rfl rfl rfl (zaC (by omega)) rfl ?_;refine ev ?_;refine ab 3005 tz56 ?_;refine so ty56 ?_;refine tv ?_;refine sq ?_ ?_<;>intro h3 h3p h3s;try simp only[Q,Pat.cs_len] at h3p
   refine wc zmg (zer n (p:=nth p.kids x.1) (by have:=Pats.size_mem (zaf (l:=p.kids) (i:=x.1) (by omega));omega) (Pats.ok_mem hok.2 _ (zaf (by omega)))) rfl rfl ?_;refine ev ?_;refine ar ?_ (by(have hb:=hbd x.1;constructor<;>omega));refine xa5 .none rfl rfl rfl ?_;refine ev ?_;refine ar ?_ (by(constructor<;>omega));refine Exists.intro ((x.1+1,cap (x.2+cntS (nth p.kids x.1)))) ⟨(by
        have hb:=hbd x.1;have hc:=zgr (x:=x.2+cntS (nth p.kids x.1)) (by omega);exact⟨by dsimp only;omega,by dsimp only;rw[←ztL (by omega)];exact hg1.2.1,hc.1,hc.2⟩),(by dsimp only;omega),sx ⟨⟨_,rfl,xap ?_⟩,⟨⟨_,rfl,xap ?_⟩,trivial⟩⟩ trivial⟩
   iterate 2 focus (rfl)
   try simp only[Q,Pat.cs_len] at h3p
   exfalso;omega;try simp only[Q,Pat.cs_len] at h2p
   refine rn0 (r1 rfl) (.eqd ?_);rotate_left;try simp only[Q,Pat.cs_len] at h1p
   exfalso;omega;all_goals (refine congrArg D.i ?_;rw[←hg1.2.1,List.drop_eq_nil_of_le (by omega)];rfl)
  ·rw[znY,if_neg h5];refine bd Tryz.f179 31 [] [] fun w0 F0 own kept hk=>?_;refine bx 3001 ?_;refine ev ?_;refine sq ?_ ?_<;>intro h1 h1p h1s;try simp only[Q,Pat.cs_len] at h1p
   exfalso;omega;try simp only[Q,Pat.cs_len] at h1p
   refine xaj (ι:=Nat×Int) hk (fun x=>[(12,.d (.i (x.1:Int))),(3,.d (.i x.2))]) [5,13,14,15,16,17,18,19,20,21,22,23,24,25,26,27,28,29] (fun x=>[]) (fun x=>x.1≤p.kids.length∧cntM (p.kids.drop x.1) x.2=cntM p.kids 1∧0≤x.2∧x.2≤401) (fun x=>p.kids.length-x.1) (0,1) ⟨by simp,rfl,by simp,by simp⟩ ⟨⟨_,rfl,xap ?_⟩,⟨⟨_,rfl,xap ?_⟩,trivial⟩⟩ trivial (fun x=>rfl) (fun x hg1=>?_);iterate 2 focus (rfl)
   refine evc [] [] ?_;refine sq ?_ ?_<;>intro h2 h2p h2s;try simp only[Q,Pat.cs_len] at h2p
   refine xaV sl45 .none rfl rfl rfl rfl (zaC (by omega)) rfl ?_;refine ev ?_;refine ab 3005 tz56 ?_;refine so ty56 ?_;refine tv ?_;refine sq ?_ ?_<;>intro h3 h3p h3s;try simp only[Q,Pat.cs_len] at h3p
   exfalso;omega;try simp only[Q,Pat.cs_len] at h3p
   refine wc zmg (zer n (p:=nth p.kids x.1) (by have:=Pats.size_mem (zaf (l:=p.kids) (i:=x.1) (by omega));omega) (Pats.ok_mem hok.2 _ (zaf (by omega)))) rfl rfl ?_;refine ev ?_;refine ar ?_ (by(have hb:=hbd x.1;have h3:=Int.mul_le_mul hg1.2.2.2 hb.2 hb.1 (by omega);have h4:=Int.mul_nonneg hg1.2.2.1 hb.1;constructor<;>omega));refine xa5 .none rfl rfl rfl ?_;refine ev ?_;refine ar ?_ (by(constructor<;>omega));refine Exists.intro ((x.1+1,cap (x.2*cntS (nth p.kids x.1)))) ⟨(by
        have hb:=hbd x.1;have hc:=zgr (x:=x.2*cntS (nth p.kids x.1)) (Int.mul_nonneg hg1.2.2.1 hb.1);exact⟨by dsimp only;omega,by dsimp only;rw[←ztK (by omega)];exact hg1.2.1,hc.1,hc.2⟩),(by dsimp only;omega),sx ⟨⟨_,rfl,xap ?_⟩,⟨⟨_,rfl,xap ?_⟩,trivial⟩⟩ trivial⟩
   iterate 2 focus (rfl)
   try simp only[Q,Pat.cs_len] at h2p
   refine rn0 (r1 rfl) (.eqd ?_);rotate_left;all_goals (refine congrArg D.i ?_;rw[←hg1.2.1,List.drop_eq_nil_of_le (by omega)];rfl)
theorem zfN {xs:List Pat} (hs:xs.length≤1000000000000):FnD Tryz.prog 184 [.d (zae xs)] [] (.gl 77 (Pat.cs xs)) [(77,some (.tok (Pat.cs xs).length 6))]:=by
 refine Fn.body (fn:=Tryz.f184) (n:=8) rfl rfl rfl rfl rfl (fun w0 F0 own kept hk=>?_);refine xal 0 rfl (fun hx0=>?_) ?_;refine evc [2,4] [] ?_;refine asg ?_;refine tv ?_;refine xaT sl45 .none rfl rfl ?_;refine tv ?_;refine sqT ?_;refine xaD 77 6 .none rfl rfl ?_;refine tv ?_;refine rn [(77,some (.tok (Pat.cs xs).length 6))] (r1 rfl) (.glg ?_) ⟨rfl,rfl⟩ (SubH.get ⟨?_,trivial⟩) (zav rfl);rotate_left 2;refine evc [2,4] [] ?_;refine asg ?_;refine tv ?_;refine xaS sl45 .none rfl rfl ?_;refine tv ?_;refine sqF ?_;refine xbj 77 sl45 .none rfl rfl ?_;refine evs [2,4] [] ?_;refine ap sl45 zz56 rfl rfl rfl (by intro y hy;rw[xas] at hy;obtain⟨z,_,rfl⟩:=List.mem_map.1 hy;rfl) (by simp[Pat.cs_len];omega) ?_;refine asg ?_;refine tv ?_;refine rn [(77,some (.tok (Pat.cs xs).length 6))] (r1 rfl) (.glg ?_) ⟨rfl,rfl⟩ (SubH.get ⟨?_,trivial⟩) (zav rfl);rotate_left 2;all_goals (first|((first|rfl|exact hx0.symm|(simp;done));done)|(first|rfl|(simp[hx0];rfl)|(simp;rfl)))
def zdR (C:List Pat) (q:Pat):List Pat:=C.map fun c=> .mk q.op q.ctor q.n q.m q.var (q.kids++[c])
theorem zsI {ls:List (List Pat)}{C:List Pat}{a b c d e:Int}:((zeM ls).map (fun l=>Pat.mk a b c d e l)).flatMap (zdR C)=(zeM (ls++[C])).map (fun l=>Pat.mk a b c d e l):=by
 rw[zsV];unfold zbb zdR;rw[List.flatMap_map,List.map_flatMap];congr 1
 funext q
 simp[zee,zf1,mk_n,mk_m,ziI,zcr]
def zco (p:Pat) (i:Nat):List Pat:=(zeM ((p.kids.take i).map zaB)).map fun l=>Pat.mk p.op p.ctor p.n p.m p.var l
theorem zuV (p:Pat):zco p 0=[.mk p.op p.ctor p.n p.m p.var []]:=by unfold zco;simp[zeM]
theorem zrv {p:Pat}{i:Nat} (h:i<p.kids.length):(zco p i).flatMap (zdR (zaB (nth p.kids i)))=zco p (i+1):=by
 unfold zco;rw[zsI,List.take_succ_eq_append_getElem h,xaf,←za0 h];rfl
theorem zsG {p:Pat}{i:Nat} (h5:p.op≠5) (h:p.kids.length≤i):zco p i=zaB p:=by
 unfold zco;rw[zdX h5,List.take_of_length_le h]
theorem zsH {n:Nat}{p:Pat} (h:binP (n+1) p=true) (h5:p.op≠5) (i:Nat):(zco p i).length≤(zaB p).length:=by
 unfold zco;rw[xac];exact zrH h h5 i
theorem zru {p:Pat}{i:Nat}{q:Pat} (h:q∈zco p i):q.kids.length≤p.kids.length:=by
 unfold zco at h;obtain⟨l,hl,rfl⟩:=List.mem_map.1 h;obtain⟨q0,hq,r,e,hlr,_⟩:=zkp _ _ _ hl;rw[List.mem_singleton] at hq;rw[hq,List.nil_append] at e;rw[zcr,e,hlr];simp;omega
theorem zoO {α β:Type}{f:α→List β}{k:Nat} (hf:∀x,(f x).length≤k):∀l:List α,(l.flatMap f).length≤l.length*k
 | []=>by simp
 |x::r=>by
  rw[List.flatMap_cons,xaa,xab,Nat.succ_mul];have:=hf x;have:=zoO hf r;omega
theorem ze0:∀(n:Nat){p:Pat},binP n p=true→p.ok→(zaB p).length≤40→FnD Tryz.prog 180 [.agg [.d (.i p.op),.d (.i p.ctor),.d (.i p.n),.d (.i p.m),.d (.i p.var),.d (zae p.kids)]] [] (.gl 9 (Pat.cs (zaB p))) [(9,some (.tok (Pat.cs (zaB p)).length 6))]
 |0,p,h,_,_=>by simp[binP] at h
 |n+1,p,h,hok,hlen=>by
  have hok':=(Pat.ok_iff p).1 hok;have hok1:=hok'.1;by_cases h5:p.op=5
  ·have hl:=zkP h h5;have e5:=zga h5 hl;have l0:=zif h (i:=0) (by omega);have l1:=zif h (i:=1) (by omega);have c0:=ze0 n (zeF h (i:=0) (by omega)) (Pats.ok_mem hok'.2 _ (zaf (by omega))) (by omega);have c1:=FnD.glD (ze0 n (zeF h (i:=1) (by omega)) (Pats.ok_mem hok'.2 _ (zaf (by omega))) (by omega));rw[e5];refine bd Tryz.f180 70 [] [] fun w0 F0 own kept hk=>?_;refine bx 3001 ?_;refine ev ?_;refine sq ?_ ?_<;>intro h1 h1p h1s;try simp only[Q,Pat.cs_len] at h1p
   refine xaV (i:=0) sl45 .none rfl rfl rfl rfl (zaC (by omega)) rfl ?_;refine evd [] [] ?_;refine Walk.call (cr:=[9]) zmh (c0) rfl .none rfl rfl (LeL.refl _) trivial rfl rfl rfl ?_;refine evd [] [] ?_;refine xaV (i:=1) sl45 .none rfl rfl rfl rfl (zaC (by omega)) rfl ?_;refine evd [] [] ?_;refine wc zmh (c1) rfl rfl ?_;refine ap sl45 zz56 rfl rfl rfl (by intro x hx;exact zch _ x hx) (by simp[Pat.cs_len];omega) ?_;refine evd [] [] ?_;refine dr ?_;refine rn [(9,some (.tok (Pat.cs (zaB (nth p.kids 0)++zaB (nth p.kids 1))).length 6))] (r1 rfl) (.glg ?_) ⟨rfl,rfl⟩ (SubH.get ⟨?_,trivial⟩) (zav rfl);rotate_left 2;try simp only[Q,Pat.cs_len] at h1p
   exfalso;omega;all_goals (first|((first|rfl|(simp[xas];done));done)|(first|rfl|(simp[xas];rfl)))
  ·have hfl:=zsH h h5;have hfk:=fun(i:Nat) (q:Pat) (hq:q∈zco p i)=>zru hq;have hf0:=zuV p;have hfe:=fun(i:Nat) (hi:p.kids.length≤i)=>zsG h5 hi;have hfn:=fun(i:Nat) (hi:i<p.kids.length)=>zrv hi;have hcal:=fun(i:Nat) (hi:i<p.kids.length)=>FnD.glD (ze0 n (zeF h hi) (Pats.ok_mem hok'.2 _ (zaf hi)) (by have:=zif h hi;omega));have hcl:=fun(i:Nat) (hi:i<p.kids.length)=>zif h hi;have hgl:=fun(C:List Pat) (q:Pat)=>show(zdR C q).length≤C.length from by unfold zdR;simp
   generalize zaB p=SP at *;refine bd Tryz.f180 70 [8] [10,23] fun w0 F0 own kept hk=>?_;refine bx 3001 ?_;refine evs [8] [] ?_;refine sq ?_ ?_<;>intro h1 h1p h1s;try simp only[Q,Pat.cs_len] at h1p
   exfalso;omega;try simp only[Q,Pat.cs_len] at h1p
   refine so ty45 ?_;refine tv ?_;refine xbl 9 sl45 tz56 rfl (by decide) (ks:=[0]) (xs:=[_]) rfl rfl (by decide) (by decide) .none rfl rfl rfl rfl rfl ?_;refine evs [8] [] ?_;refine xaj (ι:=Nat) hk (fun i=>[(35,.d (.i (i:Int))),(4,.gl 9 ((zco p i).map Pat.cc)),(32,.any)]) [6,7,8,10,12,13,36,37,38,39,40,41,42,43,44,45,46,47,48,49,50,51,52,53,54,55,56,57,58,59,60,61,62,63,64,65,66,67,68] (fun i=>[(9,some (.tok (((zco p i).map Pat.cc)).length 6))]) (fun i=>i≤p.kids.length) (fun i=>p.kids.length-i) 0 (by omega) ⟨⟨_,rfl,xap ?_⟩,⟨⟨_,rfl,LeA.glg ?_⟩,⟨⟨_,rfl,.any _⟩,trivial⟩⟩⟩ ⟨zaa ?_,trivial⟩ (fun x=>rfl) (fun i hg1=>?_);iterate 3 focus (rfl)
   refine evc [8] [10,23] ?_;refine sq ?_ ?_<;>intro h2 h2p h2s;try simp only[Q,Pat.cs_len] at h2p
   refine xaV sl45 .none rfl rfl rfl rfl (zaC (by omega)) rfl ?_;refine evs [8] [] ?_;refine ab 3006 tz56 ?_;refine so ty56 ?_;refine tv ?_;refine wc zmh (hcal i (by omega)) rfl rfl ?_;refine evs [8] [] ?_;refine CWp.tokDrop 4 9 rfl rfl ?_;refine evc [8] [] ?_;refine xaD 3 6 .none rfl rfl ?_;refine tv ?_;refine xaj (ι:=List (Pat)×List (Pat)) hk (fun x=>[(43,.d (.i (x.1.length:Int))),(8,.gl 3 ((x.1.flatMap (zdR (zaB (nth p.kids i)))).map Pat.cc))]) [10,12,13,44,45,46,47,48,49,50,51,52,53,54,55,56,57,58,59,60,61,62,63,64,65,66] (fun x=>[(3,some (.tok (((x.1.flatMap (zdR (zaB (nth p.kids i)))).map Pat.cc)).length 6))]) (fun x=>x.1++x.2=zco p i) (fun x=>x.2.length) ([],zco p i) (by simp) ⟨⟨_,rfl,xap ?_⟩,⟨⟨_,rfl,LeA.glg ?_⟩,trivial⟩⟩ ⟨zaa ?_,trivial⟩ (fun x=>rfl) (fun x hg2=>?_);iterate 3 focus (rfl)
   obtain⟨pre2,rest2⟩:=x;dsimp only at hg2 ⊢;refine evc [8] [10,23] ?_;refine sq ?_ ?_<;>intro h3 h3p h3s;try simp only[Q,Pat.cs_len] at h3p
   rcases rest2 with _|⟨q,rest2⟩
   ·exfalso;simp_all
   have hqk:=hfk i q (by rw[←hg2];simp);have hl2:=congrArg List.length hg2;simp only[xaa,xab] at hl2;have hl2b:=hfl i;refine xaV sl45 .none rfl rfl rfl rfl (zaE hg2) rfl ?_;refine evs [8] [] ?_;refine ab 3010 tz56 ?_;refine so ty56 ?_;refine tv ?_;refine xaj (ι:=List (Pat)×List (Pat)) hk (fun x=>[(49,.d (.i (x.1.length:Int))),(8,.gl 3 ((pre2.flatMap (zdR (zaB (nth p.kids i)))++zdR x.1 q).map Pat.cc))]) [12,13,50,51,52,53,54,55,56,57,58,59,60,61,62,63,64,65] (fun x=>[(3,some (.tok (((pre2.flatMap (zdR (zaB (nth p.kids i)))++zdR x.1 q).map Pat.cc)).length 6))]) (fun x=>x.1++x.2=zaB (nth p.kids i)) (fun x=>x.2.length) ([],zaB (nth p.kids i)) (by simp) ⟨⟨_,rfl,xap ?_⟩,⟨⟨_,rfl,LeA.glg ?_⟩,trivial⟩⟩ ⟨zaa ?_,trivial⟩ (fun x=>rfl) (fun x hg3=>?_);iterate 3 focus ((simp[zdR];done))
   obtain⟨pre3,rest3⟩:=x;dsimp only at hg3 ⊢;refine evc [8] [10,23] ?_;refine sq ?_ ?_<;>intro h4 h4p h4s;try simp only[Q,Pat.cs_len] at h4p
   rcases rest3 with _|⟨y,rest3⟩
   ·exfalso;simp_all
   have hl3:=congrArg List.length hg3;simp only[xaa,xab] at hl3;have hl3b:=hcl i (by omega);refine xaV sl45 .none rfl rfl rfl rfl (Pat.cs_at' hg3) rfl ?_;refine evs [8] [] ?_;refine ab 3012 tz56 ?_;refine so ty56 ?_;refine tv ?_;refine ab 3013 tz56 ?_;refine so ty56 ?_;refine tv ?_;refine Walk.call (cr:=[77]) zp5 (zfN (xs:=q.kids) (by omega)) rfl .none rfl rfl (LeL.refl _) trivial rfl rfl rfl ?_;refine evd [8] [] ?_;refine si [0] [_] sl45 tz56 ?_;refine ap sl45 zz56 rfl rfl rfl (by intro x hx;first|(simp at hx;subst hx;rfl)|exact zhq _ x hx) (by first|(simp;omega)|(simp only[Pat.cs_len,xaa,xab,xah];omega)) ?_;refine evd [8] [] ?_;refine so ty45 ?_;refine dr ?_;refine si [0] [_] sl45 tz56 ?_;refine ap sl45 zz56 rfl rfl rfl (by intro x hx;first|(simp at hx;subst hx;rfl)|exact zch _ x hx) (by first|(simp;omega)|(have h10:=hgl pre3 q;have h8:=congrArg List.length hg2;have h9:=congrArg List.length hg3;have h7:=zoO (hgl (zaB (nth p.kids i))) pre2;have h6:=hfl i;have h5:=hcl i (by omega);simp only[xaa,xab,xac,xah] at *;have h4:pre2.length*(zaB (nth p.kids i)).length≤40*40:=Nat.mul_le_mul (by omega) (by omega);omega)) ?_;refine asg ?_;refine tv ?_;refine ar ?_;refine Exists.intro ((pre3++[y],rest3)) ⟨(by have hz:=hg3;rw[←hz];simp),(by simp),sx ⟨⟨_,rfl,xap ?_⟩,⟨⟨_,rfl,LeA.glg ?_⟩,trivial⟩⟩ ⟨zaa ?_,trivial⟩⟩;iterate 3 focus (first|(simp[zdR];omega)|(simp[zdR,zee,zf1,mk_n,mk_m,ziI,zcr,xas];done))
   try simp only[Q,Pat.cs_len] at h4p
   have hrest3:rest3=[]:=by
    rcases rest3 with _|⟨a,b⟩
    ·rfl
    ·exfalso;have hz:=congrArg List.length (hg3);simp only[xaa,xab,xac] at hz;omega
   subst hrest3;refine ar ?_;refine Exists.intro ((pre2++[q],rest2)) ⟨(by have hz:=hg2;rw[←hz];simp),(by simp),sx ⟨⟨_,rfl,xap ?_⟩,⟨⟨_,rfl,LeA.glg ?_⟩,trivial⟩⟩ ⟨zaa ?_,trivial⟩⟩;iterate 3 focus (first|(simp;done)|(rw[List.append_nil] at hg3;rw[List.flatMap_append,xaf];simp[zdR,←hg3];done))
   try simp only[Q,Pat.cs_len] at h3p
   have hrest2:rest2=[]:=by
    rcases rest2 with _|⟨a,b⟩
    ·rfl
    ·exfalso;have hz:=congrArg List.length (hg2);simp only[xaa,xab,xac] at hz;omega
   subst hrest2;refine CWp.tokRen 4 3 9 rfl rfl (by kernel_rfl) ?_;refine evc [8] [] ?_;refine ar ?_;rw[List.append_nil] at hg2;refine Exists.intro (i+1) ⟨(by omega),(by omega),sx ⟨⟨_,rfl,xap ?_⟩,⟨⟨_,rfl,LeA.glg ?_⟩,⟨⟨_,rfl,.any _⟩,trivial⟩⟩⟩ ⟨zaa ?_,trivial⟩⟩;iterate 3 focus (first|rfl|(rw[←hfn i (by omega),←hg2];done))
   try simp only[Q,Pat.cs_len] at h2p
   refine rn [(9,some (.tok (Pat.cs SP).length 6))] (r1 rfl) (.glg ?_) ⟨rfl,rfl⟩ (SubH.get ⟨?_,trivial⟩) (zav rfl);rotate_left 2;all_goals ((((rw[←hfe i (by omega),show Pat.cs (zco p i)=(zco p i).map Pat.cc from xas _];all_goals rfl));done))
def zc7 (p:Pat):List Pat:=if (zaB (zaF p)).length≤40 then zaB (zaF p) else []
def zcH (p:Pat):Bool:=decide ((zaB (zaF p)).length≤40)
theorem zpA {w:List Data}{n:Nat}{t:Ty}{p:Pat} (h:zar w n t p=true) (hok:p.ok):FnD Tryz.prog 113 [.agg [.d (.i p.op),.d (.i p.ctor),.d (.i p.n),.d (.i p.m),.d (.i p.var),.d (zae p.kids)]] [] (.tup [.d (zae (zc7 p)),.d (.bool (zcH p))]) []:=by
 have hb:=zh9 n h;have hbo:=zkN p hok;have hce:=(zmv n hb).1;have hbp:=zc8 _ (Nat.le_refl _) hok;have hcs:=zer _ (Nat.le_refl _) hbo;have hsp:=fun h40=>FnD.glD (ze0 n hb hbo h40);rw[hce] at hcs;unfold zc7 zcH;generalize zaF p=b at *;by_cases h40:(zaB b).length≤40
 ·rw[if_pos h40,decide_eq_true h40];have hc40:cap ((zaB b).length:Int)≤40:=by unfold cap;split<;>omega
  refine bd Tryz.f113 12 [] [] fun w0 F0 own kept hk=>?_;refine bx 3001 ?_;refine ev ?_;refine wc zjP (hbp) rfl rfl ?_;refine ab 3004 tz56 ?_;refine so ty56 ?_;refine tv ?_;refine wc zmg (hcs) rfl rfl ?_;refine ev ?_;refine sq ?_ ?_<;>intro h1 h1p h1s;try simp only[Q] at h1p
  exfalso;omega;try simp only[Q] at h1p
  refine wc zmh (hsp h40) rfl rfl ?_;refine ev ?_;refine rn0 (r2 rfl rfl) (.tup (.cons (.eqd ?_) (.cons (.eqd ?_) .nil)));rotate_left 2;all_goals (rfl)
 ·rw[if_neg h40,decide_eq_false h40];have hc40:¬cap ((zaB b).length:Int)≤40:=by unfold cap;split<;>omega
  refine bd Tryz.f113 12 [] [] fun w0 F0 own kept hk=>?_;refine bx 3001 ?_;refine ev ?_;refine wc zjP (hbp) rfl rfl ?_;refine ab 3004 tz56 ?_;refine so ty56 ?_;refine tv ?_;refine wc zmg (hcs) rfl rfl ?_;refine ev ?_;refine sq ?_ ?_<;>intro h1 h1p h1s;try simp only[Q] at h1p
  refine rn0 (r2 rfl rfl) (.tup (.cons (.nild ?_) (.cons (.eqd ?_) .nil)));rotate_left 2;try simp only[Q] at h1p
  exfalso;omega;all_goals (rfl)
structure Spa (w:List Data):Prop where
 dp:Dp w
 ctors:∀t,InS (w.length*4) t→(zam w t).length≤4∧(zam w t).Nodup
 args:∀t c,InS (w.length*4) t→c∈zam w t→(zab w t c).length≤3
theorem zjY (k:Int):∀(l:List Ctor) (i:Nat),(zaU k i l).Pairwise (· < ·)
 | [],_=>by simp[zaU]
 |x::r,i=>by
  unfold zaU;have ih:=zjY k r (i+1);split
  ·refine List.pairwise_cons.2 ⟨fun y hy=>?_,ih⟩;obtain⟨j,rfl,h1,_⟩:=zgL k r (i+1) y hy;omega
  ·exact ih
theorem zl9 {w:List Data} (hs:WSmall w) (hv:za2 w=true):Spa w:=by
 have hd:=zl8 hs hv;have hW:=(zb8 w).1 hv;refine⟨hd,fun t ht=>?_,fun t c ht hc=>?_⟩
 ·unfold zam;split
  ·simp
  ·rename_i he;refine⟨?_,(zjY _ _ _).imp (fun h=>by omega)⟩;rcases ht with h|⟨h1,h2⟩
   ·exact absurd h he
   ·have:=hd.ct _ h1;rw[h2] at this;exact this
 ·have hti:=zb1 ht;obtain⟨d,h1,h2,j,h3,h4⟩:=zcz (a:=t.data) (k:=t.index) hti hc;have hco:=hW.ctor _ (zaf h2) _ (zaf h4);simp only[zbv,xad,decide_eq_true_eq] at hco;unfold zab;rw[h1,h3];simp only[Int.toNat_natCast,xac];omega
abbrev intQ (n m:Int):Pat:= .mk 3 0 n m 0 []
abbrev zby (c:Int) (l:List Pat):Pat:= .mk 4 c 0 0 0 l
def zbZ (w:List Data) (t:Ty) (c:Int):Pat:=zby c ((zab w t c).map fun _=>anyQ)
def lowQ (p:Pat):Int:=if p.op=1 then 0 else p.n
def zcQ (p:Pat):Int:=if p.op=1 then 9 else p.m
def minQ (a b:Int):Int:=if b<a then b else a
def maxQ (a b:Int):Int:=if a<b then b else a
def zbP (n m:Int):List Pat:=if n≤m then [intQ n m] else []
def zbS (f:Pat→Pat→Option Pat):List Pat→List Pat→List Pat→Option (List Pat)
 |p::r,q::s,acc=>match f p q with
  |none=>none
  |some x=>zbS f r s (acc++[x])
 |_,_,acc=>some acc
def zaM:Nat→Pat→Pat→Option Pat
 |0,_,_=>none
 |n+1,a,b=>if a.op=1 then some b else if b.op=1 then some a else if a.op=3 then (if maxQ a.n b.n≤minQ a.m b.m then some (intQ (maxQ a.n b.n) (minQ a.m b.m)) else none)
  else if a.ctor=b.ctor then (zbS (zaM n) a.kids b.kids []).map (zby a.ctor) else none
def zaQ (f:Ty→Pat→Pat→List Pat) (c:Int):List Ty→List Pat→List Pat→List Pat→List Pat
 |u::r,x::s,y::q,front=>(f u x y).map (fun z=>zby c (front++[z]++s))++(match zaM 11 x y with
  |none=>[]
  |some both=>zaQ f c r s q (front++[both]))
 |_,_,_,_=>[]
def zcN (f:Ty→Pat→Pat→List Pat) (w:List Data) (t:Ty) (a b:Pat):List Pat:=if a.ctor=b.ctor then zaQ f a.ctor (zab w t a.ctor) a.kids b.kids [] else [a]
def zew (a b:Pat):List Pat:=zbP (lowQ a) (minQ (zcQ a) (b.n-1))++zbP (maxQ (lowQ a) (b.m+1)) (zcQ a)
def zat (w:List Data):Nat→Ty→Pat→Pat→List Pat
 |0,_,_,_=>[]
 |n+1,t,a,b=>if b.op=1 then [] else if b.op=3 then zew a b else if a.op=1 then (zam w t).flatMap fun c=>zcN (zat w n) w t (zbZ w t c) b else zcN (zat w n) w t a b
section
variable {w:List Data}{n:Nat}{t:Ty}{a b:Pat}
theorem zhn (h:b.op=1):zat w (n+1) t a b=[]:=by unfold zat;rw[if_pos h]
theorem ziH (h:b.op=3):zat w (n+1) t a b=zew a b:=by unfold zat;rw[if_neg (by omega),if_pos h]
theorem zho (h:b.op=4) (h2:a.op=1):zat w (n+1) t a b=(zam w t).flatMap fun c=>zcN (zat w n) w t (zbZ w t c) b:=by
 conv=>lhs;unfold zat
 rw[if_neg (by omega),if_neg (by omega),if_pos h2]
theorem zd7 (h:b.op=4) (h2:a.op=4):zat w (n+1) t a b=zcN (zat w n) w t a b:=by
 conv=>lhs;unfold zat
 rw[if_neg (by omega),if_neg (by omega),if_neg (by omega)]
theorem zke (h:a.op=1):zaM (n+1) a b=some b:=by unfold zaM;rw[if_pos h]
theorem zkf (h:a.op≠1) (h2:b.op=1):zaM (n+1) a b=some a:=by unfold zaM;rw[if_neg h,if_pos h2]
theorem zkg (h:a.op=3) (h2:b.op≠1):zaM (n+1) a b=if maxQ a.n b.n≤minQ a.m b.m then some (intQ (maxQ a.n b.n) (minQ a.m b.m)) else none:=by
 conv=>lhs;unfold zaM
 rw[if_neg (by omega),if_neg h2,if_pos h]
theorem zkh (h:a.op=4) (h2:b.op≠1) (hc:a.ctor=b.ctor):zaM (n+1) a b=(zbS (zaM n) a.kids b.kids []).map (zby a.ctor):=by
 conv=>lhs;unfold zaM
 rw[if_neg (by omega),if_neg h2,if_neg (by omega),if_pos hc]
theorem ziG (h:a.op=4) (h2:b.op≠1) (hc:¬a.ctor=b.ctor):zaM (n+1) a b=none:=by
 conv=>lhs;unfold zaM
 rw[if_neg (by omega),if_neg h2,if_neg (by omega),if_neg hc]
end
theorem zb3 {w:List Data}{n:Nat}{t:Ty}{p:Pat} (h:zai w n t p=true) (h3:p.op=3):t.data = -1∧0≤p.n∧p.n≤p.m∧p.m≤9:=by
 have ho:=(zhH h).1;unfold ownP at ho;have:=(of_decide_eq_true ho).2.2.2.2;omega
theorem zaN {w:List Data}{n:Nat}{t:Ty}{p:Pat} (h:zai w n t p=true) (h4:p.op=4):p.ctor∈zam w t∧t.data≠ -1∧p.kids.length=(zab w t p.ctor).length∧p=zby p.ctor p.kids:=by
 obtain⟨ho,hl⟩:=zhH h;have hm:=zb2 ho h4;refine⟨hm,fun e=>by unfold zam at hm;rw[if_pos e] at hm;simp at hm,by rw[zbc h4] at hl;exact hl, ?_⟩;unfold ownP at ho;have hh:=of_decide_eq_true ho;have h1:=hh.2.1 (by omega);have h2:=hh.2.2.1 (by omega);obtain⟨op,c,m,k,v,ks⟩:=p;change op=4 at h4
 change v=0 at h1
 change m=0∧k=0 at h2
 rw[h4,h1,h2.1,h2.2];rfl
theorem zoY {w:List Data}{n:Nat}{t:Ty}{a b:Int} (ht:t.data = -1) (h0:0≤a) (h1:a≤b) (h2:b≤9):zai w (n+1) t (intQ a b)=true:=by
 unfold zai;have e:zad w t (intQ a b)=[]:=rfl;rw[e];have ho:ownP w t (intQ a b)=true:=by
  unfold ownP;refine decide_eq_true ⟨fun h=>?_,fun _=>rfl,fun h=>absurd rfl h,fun _=>rfl,.inr (.inr (.inr (.inr (.inl ⟨rfl,ht,h0,h1,h2⟩))))⟩;exfalso;change (3:Int)=2∨(3:Int)=6 at h;omega
 rw[ho];rfl
theorem ziY {w:List Data}{n:Nat}{t:Ty}{c:Int}{l:List Pat} (hc:c∈zam w t) (hl:l.length=(zab w t c).length) (hk:∀i,i<l.length→zai w n (nth (zab w t c) i) (nth l i)=true):zai w (n+1) t (zby c l)=true:=by
 unfold zai;have e:zad w t (zby c l)=zab w t c:=zbc rfl;have ho:ownP w t (zby c l)=true:=by
  unfold ownP;refine decide_eq_true ⟨fun h=>?_,fun _=>rfl,fun _=>⟨rfl,rfl⟩,fun h=>absurd rfl h,.inr (.inr (.inr (.inr (.inr ⟨rfl,hc⟩))))⟩;exfalso;change (4:Int)=2∨(4:Int)=6 at h;omega
 rw[ho,e,zcr];exact zcK hl.symm (fun i hi=>hk i (by omega))
theorem zhp {w:List Data}{n m:Nat} (h:n≤m){t:Ty}{p:Pat} (hp:zai w n t p=true):zai w m t p=true:=by
 induction h with
 |refl=>exact hp
 |step _ ih=>exact zgy _ ih
theorem zcY {w:List Data}{n:Nat}{t:Ty}{c:Int} (hc:c∈zam w t):zai w (n+2) t (zbZ w t c)=true:=by
 unfold zbZ;refine ziY hc (by simp) (fun i hi=>?_);have e:nth ((zab w t c).map fun _=>anyQ) i=anyQ:=by
  rw[za0 hi];simp
 rw[e];exact zjL
theorem zm0 {f:Pat→Pat→Option Pat}{a b:List Pat}{i:Nat}{acc:List Pat} (h1:i<a.length) (h2:i<b.length) (h:f (nth a i) (nth b i)=none):zbS f (a.drop i) (b.drop i) acc=none:=by
 rw[zaG h1,zaG h2,zbS,h]
theorem zm1 {f:Pat→Pat→Option Pat}{a b:List Pat}{i:Nat}{acc:List Pat}{x:Pat} (h1:i<a.length) (h2:i<b.length) (h:f (nth a i) (nth b i)=some x):zbS f (a.drop i) (b.drop i) acc=zbS f (a.drop (i+1)) (b.drop (i+1)) (acc++[x]):=by
 rw[zaG h1,zaG h2,zbS,h]
theorem zff {f:Pat→Pat→Option Pat}{a b:List Pat}{i:Nat}{acc:List Pat} (h1:a.length≤i):zbS f (a.drop i) (b.drop i) acc=some acc:=by
 rw[List.drop_eq_nil_of_le h1];cases b.drop i<;>rfl
theorem zji {f:Pat→Pat→Option Pat}:∀ {a b acc l:List Pat},a.length=b.length→zbS f a b acc=some l→∃r,l=acc++r∧r.length=a.length∧∀i,i<a.length→f (nth a i) (nth b i)=some (nth r i)
 | [],[],acc,l,_,h=>by
  simp only[zbS,Option.some.injEq] at h;exact⟨[],by simp[h],rfl,fun i hi=>by simp at hi⟩
 |p::r,q::s,acc,l,hl,h=>by
  unfold zbS at h;cases hf:f p q with
  |none=>rw[hf] at h;cases h
  |some x=>
   rw[hf] at h;obtain⟨z,e,hz,hm⟩:=zji (a:=r) (b:=s) (by simpa using hl) h;refine⟨x::z,by rw[e];simp,by simp[hz],fun i hi=>?_⟩;cases i with
   |zero=>exact hf
   |succ i=>exact hm i (by simpa using hi)
 | [],_::_,_,_,hl,_=>by simp at hl
 |_::_,[],_,_,hl,_=>by simp at hl
theorem zdh {w:List Data}{n m:Nat}{t:Ty}{a b:Pat} (ha:zai w n t a=true) (hb:zai w m t b=true) (h1:a.op≠1) (h2:b.op≠1):a.op=b.op:=by
 have oa:=zbw ha;have ob:=zbw hb;rcases oa with h|h|h
 ·exact absurd h h1
 ·rcases ob with h' | h' | h'
  ·exact absurd h' h2
  ·omega
  ·exact absurd (zb3 ha h).1 (zaN hb h').2.1
 ·rcases ob with h' | h' | h'
  ·exact absurd h' h2
  ·exact absurd (zb3 hb h').1 (zaN ha h).2.1
  ·omega
theorem zwm (a b:Int):minQ a b≤a∧minQ a b≤b:=by unfold minQ;split<;>omega
theorem zwk (a b:Int):a≤maxQ a b∧b≤maxQ a b:=by unfold maxQ;split<;>omega
theorem zwn (a b:Int):minQ a b=a∨minQ a b=b:=by unfold minQ;split<;>omega
theorem zwl (a b:Int):maxQ a b=a∨maxQ a b=b:=by unfold maxQ;split<;>omega
theorem zo5 {w:List Data}:∀(n m:Nat){t:Ty}{a b x:Pat},zai w m t a=true→zai w m t b=true→zaM n a b=some x→zai w m t x=true
 |0,m,t,a,b,x,_,_,h=>by simp[zaM] at h
 |n+1,0,t,a,b,x,ha,_,_=>by simp[zai] at ha
 |n+1,m+1,t,a,b,x,ha,hb,h=>by
  by_cases h1:a.op=1
  ·rw[zke h1] at h;cases h;exact hb
  by_cases h2:b.op=1
  ·rw[zkf h1 h2] at h;cases h;exact ha
  have hs:=zdh ha hb h1 h2;have oa:=zbw ha;by_cases h3:a.op=3
  ·rw[zkg h3 h2] at h;split at h
   ·cases h
    have ia:=zb3 ha h3;have ib:=zb3 hb (by omega);have q1:=zwn a.m b.m;have q2:=zwl a.n b.n;refine zoY ia.1 (by omega) (by assumption) (by omega)
   ·cases h
  have h4:a.op=4:=by omega
  by_cases hc:a.ctor=b.ctor
  ·rw[zkh h4 h2 hc] at h;obtain⟨m1,m2,m3,m4⟩:=zaN ha h4;obtain⟨n1,n2,n3,n4⟩:=zaN hb (by omega);rw[←hc] at n3;cases hl:zbS (zaM n) a.kids b.kids [] with
   |none=>rw[hl] at h;cases h
   |some l=>
    rw[hl] at h;simp only[Option.map_some,Option.some.injEq] at h;subst h;obtain⟨r,e,hr,hm⟩:=zji (by omega) hl;rw[List.nil_append] at e;subst e;refine ziY m1 (by omega) (fun i hi=>?_);have ka:=za4 ha (i:=i) (by omega);have kb:=za4 hb (i:=i) (by omega);rw[zbc h4] at ka;rw[zbc (by omega),←hc] at kb;exact zo5 n m ka kb (hm i (by omega))
  ·rw[ziG h4 h2 hc] at h;cases h
theorem znf {w:List Data}{n:Nat}{t:Ty}{a b:Int} (ht:t.data = -1) (h0:0≤a) (h2:b≤9):∀x∈zbP a b,zai w (n+1) t x=true:=by
 intro x hx;unfold zbP at hx;split at hx
 ·rename_i h1;rw[List.mem_singleton] at hx;rw[hx];exact zoY ht h0 h1 h2
 ·simp at hx
theorem zlP {w:List Data}{n:Nat}{t:Ty}{a:Pat} (ha:zai w n t a=true) (ht:t.data = -1):0≤lowQ a∧zcQ a≤9∧lowQ a≤zcQ a:=by
 have oa:=zbw ha;unfold lowQ zcQ;by_cases h1:a.op=1
 ·rw[if_pos h1,if_pos h1];omega
 ·rw[if_neg h1,if_neg h1];by_cases h3:a.op=3
  ·have:=zb3 ha h3;omega
  ·exact absurd ht (zaN ha (by omega)).2.1
theorem zsO (a b:Pat):(zew a b).length≤2:=by
 have h:∀x y,(zbP x y).length≤1:=fun x y=>by unfold zbP;split<;>simp
 unfold zew;rw[xaa];have:=h (lowQ a) (minQ (zcQ a) (b.n-1));have:=h (maxQ (lowQ a) (b.m+1)) (zcQ a);omega
theorem zrz {w:List Data}{f:Ty→Pat→Pat→List Pat}{m:Nat}{t:Ty}{c:Int} (hc:c∈zam w t) (hf:∀u x y,zai w m u x=true→zai w m u y=true→∀z∈f u x y,zai w m u z=true):
  ∀(i:Nat){xs bs front:List Pat},front.length=i→xs.length+i=(zab w t c).length→bs.length=xs.length→(∀j,j<i→zai w m (nth (zab w t c) j) (nth front j)=true)→
   (∀j,j<xs.length→zai w m (nth (zab w t c) (i+j)) (nth xs j)=true∧zai w m (nth (zab w t c) (i+j)) (nth bs j)=true)→
   ∀x∈zaQ f c ((zab w t c).drop i) xs bs front,zai w (m+1) t x=true:=by
 intro i xs;induction xs generalizing i with
 |nil=>
  intro bs front _ _ _ _ _ x hx;cases hT:(zab w t c).drop i<;>(rw[hT] at hx;simp[zaQ] at hx)
 |cons a0 s ih=>
  intro bs front hfl hal hbl hfr hab x hx;cases bs with
  |nil=>simp at hbl
  |cons b0 q=>
   have hi:i<(zab w t c).length:=by simp at hal;omega
   rw[zaG hi] at hx;have h0:=hab 0 (by simp);simp only[Nat.add_zero] at h0;have e0:nth (a0::s) 0=a0:=rfl;have e1:nth (b0::q) 0=b0:=rfl;rw[e0,e1] at h0;unfold zaQ at hx;have hpiece:∀z,zai w m (nth (zab w t c) i) z=true→∀j,j<(front++[z]++s).length→zai w m (nth (zab w t c) j) (nth (front++[z]++s) j)=true:=fun z hz j hj=>by
    by_cases hj1:j<i
    ·have e:nth (front++[z]++s) j=nth front j:=by
      simp only[nth,List.getD,List.append_assoc];rw[List.getElem?_append_left (by omega)]
     rw[e];exact hfr j hj1
    ·by_cases hj2:j=i
     ·have e:nth (front++[z]++s) j=z:=by
       simp only[nth,List.getD,List.append_assoc];rw[List.getElem?_append_right (by omega),show j-front.length=0 by omega];rfl
      rw[e,hj2];exact hz
     ·obtain⟨k,rfl⟩:∃k,j=i+1+k:=⟨j-(i+1),by omega⟩;have e:nth (front++[z]++s) (i+1+k)=nth (a0::s) (k+1):=by
       simp only[nth,List.getD,List.append_assoc];rw[List.getElem?_append_right (by omega),show i+1+k-front.length=k+1 by omega];rfl
      rw[e];have:=(hab (k+1) (by simp at hj ⊢;omega)).1;rwa [show i+(k+1)=i+1+k by omega] at this
   rcases List.mem_append.1 hx with hx|hx
   ·obtain⟨z,hz,rfl⟩:=List.mem_map.1 hx;refine ziY hc (by simp at hal ⊢;omega) (hpiece z (hf _ _ _ h0.1 h0.2 z hz))
   ·cases hm:zaM 11 a0 b0 with
    |none=>rw[hm] at hx;simp at hx
    |some both=>
     rw[hm] at hx;have hbp:=zo5 11 m h0.1 h0.2 hm;refine ih (i+1) (bs:=q) (front:=front++[both]) (by simp[hfl]) (by simp at hal ⊢;omega) (by simpa using hbl) (fun j hj=>?_) (fun j hj=>?_) x hx
     ·have:=hpiece both hbp j (by simp;omega);have e:nth (front++[both]++s) j=nth (front++[both]) j:=by
       simp only[nth,List.getD];rw[List.getElem?_append_left (by simp;omega)]
      rwa [e] at this
     ·have:=hab (j+1) (by simpa using hj);rwa [show i+(j+1)=i+1+j by omega] at this
theorem zfA {w:List Data}:∀(n m:Nat){t:Ty}{a b:Pat},n<m→zai w m t a=true→zai w n t b=true→∀x∈zat w n t a b,zai w m t x=true
 |0,m,t,a,b,_,_,hb=>by simp[zai] at hb
 |n+1,0,t,a,b,hn,_,_=>by omega
 |n+1,m+1,t,a,b,hn,ha,hb=>by
  have ob:=zbw hb;have oa:=zbw ha;have hf:∀u x y,zai w m u x=true→zai w n u y=true→∀z∈zat w n u x y,zai w m u z=true:=fun u x y hx hy=>zfA n m (by omega) hx hy;have hcc:∀a,zai w (m+1) t a=true→a.op=4→b.op=4→∀x∈zcN (zat w n) w t a b,zai w (m+1) t x=true:=fun a ha h4 h4b=>by
   obtain⟨m1,m2,m3,m4⟩:=zaN ha h4;obtain⟨n1,n2,n3,n4⟩:=zaN hb h4b;intro x hx;unfold zcN at hx;split at hx
   ·rename_i hc;have key:=zrz (w:=w) (f:=fun u x y=>if zai w m u x=true∧zai w n u y=true then zat w n u x y else []) (m:=m) (t:=t) (c:=a.ctor) m1 (fun u x y hx hy z hz=>by
     split at hz
     ·rename_i hh;exact hf u x y hh.1 hh.2 z hz
     ·simp at hz) 0 (xs:=a.kids) (bs:=b.kids) (front:=[]) rfl (by omega) (by rw[hc] at m3;omega) (fun j hj=>by omega) (fun j hj=>by
      have ka:=za4 ha (i:=j) hj;have kb:=za4 hb (i:=j) (by rw[hc] at m3;omega);rw[zbc h4] at ka;rw[zbc h4b,←hc] at kb;rw[Nat.zero_add];exact⟨ka,zhp (by omega) kb⟩) x
    refine key ?_;have e:∀(ts:List Ty) (xs bs front:List Pat),(∀j,j<ts.length→j<xs.length→j<bs.length→zai w m (nth ts j) (nth xs j)=true∧zai w n (nth ts j) (nth bs j)=true)→
      zaQ (fun u x y=>if zai w m u x=true∧zai w n u y=true then zat w n u x y else []) a.ctor ts xs bs front=zaQ (zat w n) a.ctor ts xs bs front:=by
     intro ts;induction ts with
     |nil=>intro xs bs front _;simp[zaQ]
     |cons u r ih=>
      intro xs bs front h;cases xs with
      |nil=>simp[zaQ]
      |cons x s=>
       cases bs with
       |nil=>simp[zaQ]
       |cons y q=>
        have h0:=h 0 (by simp) (by simp) (by simp);change zai w m u x=true∧zai w n u y=true at h0
        unfold zaQ;rw[if_pos h0];congr 1
        cases hmm:zaM 11 x y with
        |none=>rfl
        |some both=>exact ih s q (front++[both]) (fun j h1 h2 h3=>h (j+1) (by simpa using h1) (by simpa using h2) (by simpa using h3))
    rw[List.drop_zero,e _ _ _ _ (fun j h1 h2 h3=>?_)]
    ·exact hx
    ·have ka:=za4 ha (i:=j) h2;have kb:=za4 hb (i:=j) h3;rw[zbc h4] at ka;rw[zbc h4b,←hc] at kb;exact⟨ka,kb⟩
   ·rw[List.mem_singleton] at hx;rw[hx];exact ha
  rcases ob with h1|h3|h4
  ·rw[zhn h1];simp
  ·rw[ziH h3];intro x hx;have hl:=zlP ha (zb3 hb h3).1;have ib:=zb3 hb h3;have q1:=zwm (zcQ a) (b.n-1);have q2:=zwk (lowQ a) (b.m+1);unfold zew at hx;rcases List.mem_append.1 hx with h|h
   ·exact znf ib.1 (by omega) (by omega) x h
   ·exact znf ib.1 (by omega) (by omega) x h
  ·by_cases ha1:a.op=1
   ·rw[zho h4 ha1];intro x hx;obtain⟨c,hc,hx⟩:=List.mem_flatMap.1 hx;refine hcc _ ?_ rfl h4 x hx;obtain⟨k,rfl⟩:∃k,m=k+1:=⟨m-1,by omega⟩;exact zcY hc
   ·have ha4:a.op=4:=by
     have:=zdh ha hb ha1 (by omega);omega
    rw[zd7 h4 ha4];exact hcc a ha ha4 h4
theorem zf2 {w:List Data} (hs:Spa w):∀(n:Nat){t:Ty}{p:Pat},InS (w.length*4) t→zai w n t p=true→p.ok∧p.size≤4 ^ n
 |0,t,p,_,h=>by simp[zai] at h
 |n+1,t,p,ht,h=>by
  have hk:=fun i (hi:i<p.kids.length)=>za4 h hi;have hl:=(zhH h).2;have op:=zbw h;have hpow:4 ^ (n+1)=4 ^ n*4:=rfl;have hpos:0<4 ^ n:=Nat.pow_pos (by omega);by_cases h4:p.op=4
  ·obtain⟨m1,m2,m3,m4⟩:=zaN h h4;have h3:=hs.args t p.ctor ht m1;rw[zbc h4] at hk;have ih:∀k∈p.kids,k.ok∧k.size≤4 ^ n:=fun k hkm=>by
    obtain⟨i,hi,rfl⟩:=List.getElem_of_mem hkm;have e:nth p.kids i=p.kids[i]:=za0 hi;have:=zf2 hs n (zbx hs.dp ht m1 _ (zaf (i:=i) (by omega))) (hk i hi);rwa [e] at this
   have hz:=Pats.size_of (m:=4 ^ n) (fun k hk=>(ih k hk).2);rw[Pat.ok_iff,Pat.size_eq];refine⟨⟨by omega,Pats.ok_of (fun k hk=>(ih k hk).1)⟩, ?_⟩;have:p.kids.length*4 ^ n≤3*4 ^ n:=Nat.mul_le_mul_right _ (by omega);omega
  ·have hk0:p.kids=[]:=zjn (zg4 _ h) h4 (by omega) (by omega);rw[Pat.ok_iff,Pat.size_eq,hk0];exact⟨⟨by simp,trivial⟩,by simp only[Pats.size];omega⟩
theorem zoQ {α:Type}{g:Int→List α}{c0:Int}{X:Nat}:∀ {cs:List Int},cs.Nodup→(∀c∈cs,c≠c0→(g c).length≤1)→(g c0).length≤X→(cs.flatMap g).length≤cs.length+X
 | [],_,_,_=>by simp
 |c::r,hn,h1,h2=>by
  obtain⟨n1,n2⟩:=List.nodup_cons.1 hn;rw[List.flatMap_cons,xaa,xab];by_cases hc:c=c0
  ·have key:∀l:List Int,c0∉l→(∀x∈l,x≠c0→(g x).length≤1)→(l.flatMap g).length≤l.length:=by
    intro l;induction l with
    |nil=>intro _ _;simp
    |cons y s ih=>
     intro hm hh;rw[List.flatMap_cons,xaa,xab];have a1:=hh y (by simp) (fun e=>hm (by rw[e];simp));have a2:=ih (fun e=>hm (by simp[e])) (fun x hx=>hh x (by simp[hx]));omega
   have:=key r (by rw[←hc];exact n1) (fun x hx=>h1 x (by simp[hx]));rw[hc];omega
  ·have a1:=h1 c (by simp) hc;have a2:=zoQ (X:=X) n2 (fun x hx=>h1 x (by simp[hx])) h2;omega
theorem zm4 {f:Ty→Pat→Pat→List Pat}{c:Int} (L:Pat→Nat):∀(ts:List Ty) (xs bs front:List Pat),(∀i,i<ts.length→i<xs.length→i<bs.length→(f (nth ts i) (nth xs i) (nth bs i)).length≤L (nth bs i))→(zaQ f c ts xs bs front).length≤(bs.map L).sum
 | [],xs,bs,front,_=>by simp[zaQ]
 |_::_,[],bs,front,_=>by simp[zaQ]
 |_::_,_::_,[],front,_=>by simp[zaQ]
 |u::r,x::s,y::q,front,h=>by
  have h0:=h 0 (by simp) (by simp) (by simp);change (f u x y).length≤L y at h0
  unfold zaQ;rw[xaa,xac,xae,List.sum_cons];cases hm:zaM 11 x y with
  |none=>simp;omega
  |some both=>
   have:=zm4 (c:=c) L r s q (front++[both]) (fun i h1 h2 h3=>h (i+1) (by simpa using h1) (by simpa using h2) (by simpa using h3));dsimp only;omega
theorem zsN {w:List Data}{f:Ty→Pat→Pat→List Pat}{t:Ty}{a b:Pat}{L:Pat→Nat} (h:∀i,i<(zab w t a.ctor).length→i<a.kids.length→i<b.kids.length→(f (nth (zab w t a.ctor) i) (nth a.kids i) (nth b.kids i)).length≤L (nth b.kids i)):
  (zcN f w t a b).length≤if a.ctor=b.ctor then (b.kids.map L).sum else 1:=by
 unfold zcN;split
 ·exact zm4 L _ _ _ _ h
 ·simp
theorem sum4:∀l:List Pat,(l.map fun b=>4*b.size).sum=4*Pats.size l
 | []=>rfl
 |k::r=>by simp only[xae,List.sum_cons,Pats.size,sum4 r];omega
theorem zo7 {w:List Data} (hs:Spa w):∀(n m:Nat){t:Ty}{a b:Pat},n<m→InS (w.length*4) t→zai w m t a=true→zai w n t b=true→(zat w n t a b).length≤4*b.size
 |0,m,t,a,b,_,_,_,hb=>by simp[zai] at hb
 |n+1,0,t,a,b,hn,_,_,_=>by omega
 |n+1,m+1,t,a,b,hn,ht,ha,hb=>by
  have ob:=zbw hb;have hz:=Pat.size_eq b;rcases ob with h1|h3|h4
  ·rw[zhn h1];simp
  ·rw[ziH h3];have:=zsO a b;omega
  ·obtain⟨n1,n2,n3,n4⟩:=zaN hb h4;have hcc:∀a,zai w (m+1) t a=true→a.op=4→(zcN (zat w n) w t a b).length≤if a.ctor=b.ctor then 4*Pats.size b.kids else 1:=fun a ha h4a=>by
    obtain⟨m1,m2,m3,m4⟩:=zaN ha h4a;rw[←sum4];by_cases hc:a.ctor=b.ctor
    ·have:=zsN (w:=w) (f:=zat w n) (t:=t) (a:=a) (b:=b) (L:=fun b=>4*b.size) (fun i h1 h2 h3=>by
      have ka:=za4 ha (i:=i) h2;have kb:=za4 hb (i:=i) h3;rw[zbc h4a] at ka;rw[zbc h4,←hc] at kb;exact zo7 hs n m (by omega) (zbx hs.dp ht m1 _ (zaf h1)) ka kb)
     exact this
    ·unfold zcN;rw[if_neg hc,if_neg hc];simp
   by_cases ha1:a.op=1
   ·rw[zho h4 ha1];obtain⟨c1,c2⟩:=hs.ctors t ht;have hw:∀c,c∈zam w t→(zcN (zat w n) w t (zbZ w t c) b).length≤if c=b.ctor then 4*Pats.size b.kids else 1:=fun c hc=>by
     obtain⟨k,rfl⟩:∃k,m=k+1:=⟨m-1,by omega⟩;exact hcc _ (zcY hc) rfl
    have:=zoQ (g:=fun c=>zcN (zat w n) w t (zbZ w t c) b) (c0:=b.ctor) (X:=4*Pats.size b.kids) c2 (fun c hc hne=>by have:=hw c hc;rwa [if_neg hne] at this) (by have:=hw _ n1;rwa [if_pos rfl] at this);omega
   ·have ha4:a.op=4:=by have:=zdh ha hb ha1 (by omega);omega
    rw[zd7 h4 ha4];have:=hcc a ha ha4;split at this<;>omega
theorem zmc {α β:Type} [Inhabited α] [Inhabited β]{f:α→β→Bool}:∀ {a:List α}{b:List β},a.length=b.length→all2 f a b=false→∃i,i<a.length∧f (nth a i) (nth b i)=false
 | [],[],_,h=>by simp[all2] at h
 |x::r,y::s,hl,h=>by
  simp only[all2,Bool.and_eq_false_iff] at h;rcases h with h|h
  ·exact⟨0,by simp,h⟩
  ·obtain⟨i,h1,h2⟩:=zmc (by simpa using hl) h;exact⟨i+1,by simpa using h1,h2⟩
 | [],_::_,hl,_=>by simp at hl
 |_::_,[],hl,_=>by simp at hl
theorem zhi {w:List Data}{f:Nat→Nat}{n:Nat}{t:Ty}{p:Pat} (h:p.op=1):zaZ w f (n+1) t p=decide (dv f t=0):=by rw[zgf,if_pos (.inl h)]
theorem zkU {w:List Data}{f:Nat→Nat}{n m:Nat}{t:Ty}{p:Pat} (hp:zai w m t p=true) (h:p.op=3):zaZ w f (n+1) t p=false:=by
 rw[zgf,if_neg (by omega),if_neg (by omega)];have e:zad w t p=[]:=by unfold zad;rw[if_neg (by omega),if_neg (by omega),if_neg (by omega)]
 have hl:=(zhH hp).2;rw[e] at hl ⊢;rw[List.eq_nil_of_length_eq_zero hl];rfl
theorem znZ {w:List Data}{f:Nat→Nat}{n:Nat}{t:Ty}{p:Pat} (h:p.op=4):zaZ w f (n+1) t p = !(all2 (fun u q=> !zaZ w f n u q) (zab w t p.ctor) p.kids):=by
 rw[zgf,if_neg (by omega),if_neg (by omega),zbc h]
theorem zlA {w:List Data}{f:Nat→Nat}{n m:Nat}{t:Ty}{p:Pat} (hp:zai w m t p=true) (h:p.op=4) (hd:zaZ w f (n+1) t p=true):∃i,i<p.kids.length∧zaZ w f n (nth (zab w t p.ctor) i) (nth p.kids i)=true:=by
 rw[znZ h] at hd;have hl:=(zaN hp h).2.2.1;obtain⟨i,h1,h2⟩:=zmc (a:=zab w t p.ctor) (b:=p.kids) (f:=fun u q=> !zaZ w f n u q) hl.symm (by simpa using hd);exact⟨i,by omega,by simpa using h2⟩
theorem zhD {w:List Data}{f:Nat→Nat}{n:Nat}{t:Ty}{c:Int}{l:List Pat}{i:Nat} (hi:i<l.length) (hl:l.length=(zab w t c).length) (hd:zaZ w f n (nth (zab w t c) i) (nth l i)=true):zaZ w f (n+1) t (zby c l)=true:=by
 rw[znZ rfl];have:=zb4 (f:=fun u q=> !zaZ w f n u q) (a:=zab w t c) (b:=l) (i:=i) (by omega) hl.symm (by rw[hd];rfl);show(!all2 (fun u q=> !zaZ w f n u q) (zab w t c) l)=true
 rw[this];rfl
theorem zxX {w:List Data} (hd:Dp w){t:Ty}{c:Int} (ht:InS (w.length*4) t) (hc:c∈zam w t) (h0:dv (zak w) t=0):∃i,i<(zab w t c).length∧dv (zak w) (nth (zab w t c) i)=0:=by
 by_cases hx:∃i,i<(zab w t c).length∧dv (zak w) (nth (zab w t c) i)=0
 ·exact hx
 ·exfalso;have a:Snd w (zak w)∧Cmp w (w.length*4+1) (zak w):=zdu hd.cl (w.length*4+1);have hdt:t.data≠ -1:=fun e=>by unfold zam at hc;rw[if_pos e] at hc;simp at hc
  have hb:∀u∈zab w t c,Hd w (w.length*4+1) u:=fun u hu=>by
   obtain⟨i,hi,rfl⟩:=List.getElem_of_mem hu;have hpos:0<dv (zak w) (zab w t c)[i]:=by
    have e:nth (zab w t c) i=(zab w t c)[i]:=za0 hi;rcases Nat.eq_zero_or_pos (dv (zak w) (zab w t c)[i]) with h|h
    ·exact absurd ⟨i,hi,by rw[e];exact h⟩ hx
    ·exact h
   have hin:=zbx hd ht hc _ hu;have h1:=zpL a.1 hin hpos;rcases hin with h2|⟨h2,h3⟩
   ·exact .inl h2
   ·rw[←h3] at h1 ⊢;exact zmJ hd.cl h2 h1
  have h2:Hd w (w.length*4+2) t:= .inr ⟨c,zuF hc,hdt,hb⟩;rcases ht with h3|⟨h3,h4⟩
  ·exact hdt h3
  ·rw[←h4] at h2;have h5:=zmJ hd.cl h3 h2;rw[h4] at h5;have:=(zj0 a.2 (.inr ⟨h3,h4⟩) h5).1;omega
section
variable {w:List Data} (hs:Spa w)
include hs
theorem zjZ:∀(n:Nat){t:Ty}{p:Pat},InS (w.length*4) t→zai w n t p=true→dv (zak w) t=0→zaZ w (zak w) n t p=true
 |0,t,p,_,h,_=>by simp[zai] at h
 |n+1,t,p,ht,h,h0=>by
  rcases zbw h with h1|h3|h4
  ·rw[zhi h1];exact decide_eq_true h0
  ·have:=(zb3 h h3).1;unfold dv at h0;rw[if_pos this] at h0;omega
  ·obtain⟨m1,m2,m3,m4⟩:=zaN h h4;obtain⟨i,h5,h6⟩:=zxX hs.dp ht m1 h0;rw[m4];have hk:=za4 h (i:=i) (by omega);rw[zbc h4] at hk;exact zhD (by omega) m3 (zjZ n (zbx hs.dp ht m1 _ (zaf h5)) hk h6)
theorem zo4:∀(n k:Nat){t:Ty}{a b x:Pat},InS (w.length*4) t→zai w n t a=true→zai w n t b=true→zaZ w (zak w) n t a=true→zaM k a b=some x→zaZ w (zak w) n t x=true
 |0,k,t,a,b,x,_,h,_,_,_=>by simp[zai] at h
 |n+1,0,t,a,b,x,_,_,_,_,h=>by simp[zaM] at h
 |n+1,k+1,t,a,b,x,ht,ha,hb,hd,h=>by
  by_cases h1:a.op=1
  ·rw[zke h1] at h;cases h;rw[zhi h1] at hd;exact zjZ hs (n+1) ht hb (of_decide_eq_true hd)
  by_cases h2:b.op=1
  ·rw[zkf h1 h2] at h;cases h;exact hd
  by_cases h3:a.op=3
  ·rw[zkU ha h3] at hd;cases hd
  have h4:a.op=4:=by have:=zbw ha;omega
  have hso:=zdh ha hb h1 h2;by_cases hc:a.ctor=b.ctor
  ·rw[zkh h4 h2 hc] at h;obtain⟨m1,m2,m3,m4⟩:=zaN ha h4;obtain⟨n1,n2,n3,n4⟩:=zaN hb (by omega);rw[←hc] at n3;cases hl:zbS (zaM k) a.kids b.kids [] with
   |none=>rw[hl] at h;cases h
   |some l=>
    rw[hl] at h;simp only[Option.map_some,Option.some.injEq] at h;subst h;obtain⟨r,e,hr,hm⟩:=zji (by omega) hl;rw[List.nil_append] at e;subst e;obtain⟨i,hi,hde⟩:=zlA ha h4 hd;have ka:=za4 ha (i:=i) hi;have kb:=za4 hb (i:=i) (by omega);rw[zbc h4] at ka;rw[zbc (by omega),←hc] at kb;exact zhD (i:=i) (by omega) (by omega) (zo4 n k (zbx hs.dp ht m1 _ (zaf (by omega))) ka kb hde (hm i hi))
  ·rw[ziG h4 h2 hc] at h;cases h
theorem zry {f:Ty→Pat→Pat→List Pat}{m:Nat}{t:Ty}{c:Int} (ht:InS (w.length*4) t) (hc:c∈zam w t):
  ∀(i:Nat){xs bs front:List Pat},front.length=i→xs.length+i=(zab w t c).length→bs.length=xs.length→
   (∀j,j<xs.length→zai w m (nth (zab w t c) (i+j)) (nth xs j)=true∧zai w m (nth (zab w t c) (i+j)) (nth bs j)=true∧(zaZ w (zak w) m (nth (zab w t c) (i+j)) (nth xs j)=true→∀z∈f (nth (zab w t c) (i+j)) (nth xs j) (nth bs j),zaZ w (zak w) m (nth (zab w t c) (i+j)) z=true))→
   ((∃j,j<i∧zaZ w (zak w) m (nth (zab w t c) j) (nth front j)=true)∨∃j,j<xs.length∧zaZ w (zak w) m (nth (zab w t c) (i+j)) (nth xs j)=true)→
   ∀x∈zaQ f c ((zab w t c).drop i) xs bs front,zaZ w (zak w) (m+1) t x=true:=by
 intro i xs;induction xs generalizing i with
 |nil=>
  intro bs front _ _ _ _ _ x hx;cases hT:(zab w t c).drop i<;>(rw[hT] at hx;simp[zaQ] at hx)
 |cons a0 s ih=>
  intro bs front hfl hal hbl hab hde x hx;cases bs with
  |nil=>simp at hbl
  |cons b0 q=>
   have hi:i<(zab w t c).length:=by simp at hal;omega
   rw[zaG hi] at hx;have h0:=hab 0 (by simp);simp only[Nat.add_zero] at h0;have e0:nth (a0::s) 0=a0:=rfl;have e1:nth (b0::q) 0=b0:=rfl;rw[e0,e1] at h0;unfold zaQ at hx;have f1:∀z j,j<i→nth (front++[z]++s) j=nth front j:=fun z j hj=>by
    simp only[nth,List.getD,List.append_assoc];rw[List.getElem?_append_left (by omega)]
   have f2:∀z,nth (front++[z]++s) i=z:=fun z=>by
    simp only[nth,List.getD,List.append_assoc];rw[List.getElem?_append_right (by omega),show i-front.length=0 by omega];rfl
   have f3:∀z k,nth (front++[z]++s) (i+1+k)=nth (a0::s) (k+1):=fun z k=>by
    simp only[nth,List.getD,List.append_assoc];rw[List.getElem?_append_right (by omega),show i+1+k-front.length=k+1 by omega];rfl
   have hfl2:∀z,(front++[z]++s).length=(zab w t c).length:=fun z=>by simp at hal ⊢;omega
   rcases List.mem_append.1 hx with hx|hx
   ·obtain⟨z,hz,rfl⟩:=List.mem_map.1 hx;rcases hde with ⟨j,hj,hd⟩|⟨j,hj,hd⟩
    ·exact zhD (i:=j) (by rw[hfl2];omega) (hfl2 z) (by rw[f1 z j hj];exact hd)
    ·cases j with
     |zero=>exact zhD (i:=i) (by rw[hfl2];omega) (hfl2 z) (by rw[f2 z];exact h0.2.2 hd z hz)
     |succ k=>exact zhD (i:=i+1+k) (by rw[hfl2];simp at hj;simp at hal;omega) (hfl2 z) (by rw[f3 z k,show i+1+k=i+(k+1) by omega];exact hd)
   ·cases hm:zaM 11 a0 b0 with
    |none=>rw[hm] at hx;simp at hx
    |some both=>
     rw[hm] at hx;refine ih (i+1) (bs:=q) (front:=front++[both]) (by simp[hfl]) (by simp at hal ⊢;omega) (by simpa using hbl) (fun j hj=>?_) ?_ x hx
     ·have:=hab (j+1) (by simpa using hj);rwa [show i+(j+1)=i+1+j by omega] at this
     ·rcases hde with ⟨j,hj,hd⟩|⟨j,hj,hd⟩
      ·refine .inl ⟨j,by omega, ?_⟩;have e:nth (front++[both]) j=nth front j:=by
        simp only[nth,List.getD];rw[List.getElem?_append_left (by omega)]
       rw[e];exact hd
      ·cases j with
       |zero=>
        refine .inl ⟨i,by omega, ?_⟩;have e:nth (front++[both]) i=both:=by
         simp only[nth,List.getD];rw[List.getElem?_append_right (by omega),show i-front.length=0 by omega];rfl
        rw[e];exact zo4 hs m 11 (zbx hs.dp ht hc _ (zaf hi)) h0.1 h0.2.1 hd hm
       |succ k=>
        refine .inr ⟨k,by simpa using hj, ?_⟩;rw[show i+1+k=i+(k+1) by omega];exact hd
theorem zm5:∀(n m:Nat){t:Ty}{a b:Pat},n<m→InS (w.length*4) t→zai w m t a=true→zai w n t b=true→zaZ w (zak w) m t a=true→∀x∈zat w n t a b,zaZ w (zak w) m t x=true
 |0,m,t,a,b,_,_,_,hb,_=>by simp[zai] at hb
 |n+1,0,t,a,b,hn,_,_,_,_=>by omega
 |n+1,m+1,t,a,b,hn,ht,ha,hb,hd=>by
  have hcc:∀a,zai w (m+1) t a=true→a.op=4→b.op=4→zaZ w (zak w) (m+1) t a=true→∀x∈zcN (zat w n) w t a b,zaZ w (zak w) (m+1) t x=true:=fun a ha h4 h4b hd=>by
   obtain⟨m1,m2,m3,m4⟩:=zaN ha h4;obtain⟨n1,n2,n3,n4⟩:=zaN hb h4b;intro x hx;unfold zcN at hx;split at hx
   ·rename_i hc;obtain⟨j,hj,hdj⟩:=zlA ha h4 hd;refine zry hs ht m1 0 (xs:=a.kids) (bs:=b.kids) (front:=[]) rfl (by omega) (by rw[hc] at m3;omega) (fun j hj=>?_) (.inr ⟨j,hj,by rw[Nat.zero_add];exact hdj⟩) x hx;have ka:=za4 ha (i:=j) hj;have kb:=za4 hb (i:=j) (by rw[hc] at m3;omega);rw[zbc h4] at ka;rw[zbc h4b,←hc] at kb;rw[Nat.zero_add];exact⟨ka,zhp (by omega) kb,fun hdk z hz=>zm5 n m (by omega) (zbx hs.dp ht m1 _ (zaf (by omega))) ka kb hdk z hz⟩
   ·rw[List.mem_singleton] at hx;rw[hx];exact hd
  rcases zbw hb with h1|h3|h4
  ·rw[zhn h1];simp
  ·have hl:=zlP ha (zb3 hb h3).1;rcases zbw ha with h|h|h
   ·rw[zhi h] at hd;have:=of_decide_eq_true hd;unfold dv at this;rw[if_pos (zb3 hb h3).1] at this;omega
   ·rw[zkU ha h] at hd;cases hd
   ·exact absurd (zb3 hb h3).1 (zaN ha h).2.1
  ·by_cases ha1:a.op=1
   ·rw[zho h4 ha1];rw[zhi ha1] at hd;intro x hx;obtain⟨c,hc,hx⟩:=List.mem_flatMap.1 hx;obtain⟨k,rfl⟩:∃k,m=k+1:=⟨m-1,by omega⟩;exact hcc _ (zcY hc) rfl h4 (zjZ hs _ ht (zcY hc) (of_decide_eq_true hd)) x hx
   ·have ha4:a.op=4:=by have:=zdh ha hb ha1 (by omega);omega
    rw[zd7 h4 ha4];exact hcc a ha ha4 h4 hd
end
def zbt (w:List Data) (t:Ty) (p:Pat):Bool:= !zaZ w (zak w) 11 t p
def zbT (w:List Data) (t:Ty) (l:List Pat) (b:Pat):List Pat:=(l.flatMap fun a=>zat w 10 t a b).filter (zbt w t)
def subL (w:List Data) (t:Ty):List Pat→List Pat→Option (List Pat)
 |l,[]=>some l
 |l,b::r=>if (zbT w t l b).length≤400 then subL w t (zbT w t l b) r else none
def zaI (w:List Data) (t:Ty) (l away:List Pat):Option (List Pat):=subL w t (l.filter (zbt w t)) away
theorem zqS {w:List Data} (hs:Spa w){t:Ty} (ht:InS (w.length*4) t){l:List Pat}{b:Pat} (hl:∀a∈l,zai w 11 t a=true) (hb:zai w 10 t b=true):zbT w t (l.filter (zbt w t)) b=zbT w t l b:=by
 unfold zbT;induction l with
 |nil=>rfl
 |cons a r ih=>
  have ih':=ih (fun x hx=>hl x (by simp[hx]));rw[List.flatMap_cons,List.filter_append];by_cases h:zbt w t a=true
  ·rw[List.filter_cons_of_pos h,List.flatMap_cons,List.filter_append,ih']
  ·rw[List.filter_cons_of_neg h,ih'];have hd:zaZ w (zak w) 11 t a=true:=by unfold zbt at h;simpa using h
   have:(zat w 10 t a b).filter (zbt w t)=[]:=by
    rw[List.filter_eq_nil_iff];intro x hx;have:=zm5 hs 10 11 (by omega) ht (hl a (by simp)) hb hd x hx;unfold zbt;rw[this];simp
   rw[this,List.nil_append]
theorem zlt {w:List Data}{t:Ty}{l:List Pat}{b:Pat}:(zbT w t l b).filter (zbt w t)=zbT w t l b:=by
 unfold zbT;rw[List.filter_filter];simp
theorem znK {w:List Data}{t:Ty}:∀(away:List Pat){l:List Pat},l.filter (zbt w t)=l→(subL w t l away).map (List.filter (zbt w t))=subL w t l away
 | [],l,h=>by simp only[subL,Option.map_some,h]
 |b::r,l,h=>by
  unfold subL;split
  ·exact znK r zlt
  ·rfl
theorem zut {w:List Data} (hs:Spa w){t:Ty} (ht:InS (w.length*4) t){l away:List Pat} (hl:∀a∈l,zai w 11 t a=true) (hb:∀b∈away,zai w 10 t b=true):(subL w t l away).map (List.filter (zbt w t))=zaI w t l away:=by
 unfold zaI;cases away with
 |nil=>rfl
 |cons b r=>
  unfold subL;rw[zqS hs ht hl (hb b (by simp))];split
  ·exact znK r zlt
  ·rfl
theorem zfB {w:List Data}{t:Ty}{l:List Pat}{b:Pat} (hl:∀a∈l,zai w 11 t a=true) (hb:zai w 10 t b=true):∀x∈zbT w t l b,zai w 11 t x=true:=fun x hx=>by
 unfold zbT at hx;obtain⟨a,ha,hx⟩:=List.mem_flatMap.1 (List.mem_filter.1 hx).1;exact zfA 10 11 (by omega) (hl a ha) hb x hx
theorem zlY {n:Nat} (h0:0<n) (hb:n≤1000000):FnD Tryz.prog 242 [.nils,.d (.i (n:Int))] [] (.gv 9 []) [(9,some (.tok 0 6))]:=by
 refine bd Tryz.f242 27 [12,24] [] fun w0 F0 own kept hk=>?_;refine sq ?_ ?_<;>intro h1 h1p h1s;try simp only[Q] at h1p
 exfalso;omega;try simp only[Q] at h1p
 refine Walk.capN sl45 .none rfl rfl ?_;refine evs [12,24] [] ?_;refine Walk.lenN sl45 .none rfl rfl ?_;refine evs [12,24] [] ?_;refine ar ?_;refine ar ?_;refine sq ?_ ?_<;>intro h2 h2p h2s;try simp only[Q] at h2p
 refine Walk.capN sl45 .none rfl rfl ?_;refine Walk.cutN_h sl45 .none rfl rfl rfl ?_;refine evs [12,24] [] ?_;refine Walk.growZ (n:=n) 8 sl45 Tryz.underlying3 tz56 rfl (by decide) rfl .none rfl rfl rfl (by simp) h0 (by omega) (by omega) rfl ?_;refine evs [12,24] [] ?_;refine Walk.lenN sl45 .none rfl rfl ?_;refine xaO 9 (b:=0) sl45 .none rfl rfl (zdk rfl (by(simp;done))) rfl rfl (Nat.zero_le _) (by rw[List.length_replicate];exact h0) rfl ?_;refine evs [12,24] [] ?_;focus (refine rn [(9,some (.tok 0 6))] (r1 rfl) (.gvg ?_) ⟨rfl,rfl⟩ (SubH.get ⟨rfl,trivial⟩) (zav rfl);all_goals (rfl))
 try simp only[Q] at h2p
 focus (exfalso;simp at h2;all_goals omega)
abbrev zvL (ls:List (List Pat)):D:= .sl (ls.map fun l=>[zae l])
theorem zky {ls:List (List Pat)} (hl:ls.length≤1000) (h0:0<ls.flatten.length) (hb:ls.flatten.length≤1000000):FnD Tryz.prog 189 [.d (zvL ls)] [] (.d (zae ls.flatten)) []:=by
 have key:∀ {pre rest:List (List Pat)}{y:List Pat},pre++y::rest=ls→pre.flatten.length+y.length≤ls.flatten.length:=fun h=>by
  rw[←h];simp
 refine FnD.gvD (i:=9) (k:=6) ?_;refine bd Tryz.f189 36 [] [] fun w0 F0 own kept hk=>?_;refine xaj (ι:=List (List Pat)×List (List Pat)) hk (fun x=>[(11,.d (.i (x.1.length:Int))),(3,.d (.i (x.1.flatten.length:Int)))]) [5,12,13,14,15,16,17,18,19,20,21,22] (fun x=>[]) (fun x=>x.1++x.2=ls) (fun x=>x.2.length) ([],ls) (by simp) ⟨⟨_,rfl,xap ?_⟩,⟨⟨_,rfl,xap ?_⟩,trivial⟩⟩ trivial (fun x=>rfl) (fun x hg1=>?_);iterate 2 focus (rfl)
 obtain⟨pre,rest⟩:=x;dsimp only at hg1 ⊢;refine evc [] [] ?_;refine sq ?_ ?_<;>intro h1 h1p h1s;try simp only[Q,Pat.cs_len] at h1p
 rcases rest with _|⟨y,rest⟩
 ·exfalso;simp_all
 refine xaV zef .none rfl rfl rfl rfl (zaE hg1) rfl ?_;refine ev ?_;refine ar ?_ (by(have h9:=key hg1;constructor<;>first|omega|(simp only[Pat.cs_len];omega)));refine sq ?_ ?_<;>intro h2 h2p h2s;try simp only[Q,Pat.cs_len] at h2p
 exfalso;have:=key hg1;omega;try simp only[Q,Pat.cs_len] at h2p
 refine ar ?_ (by(have h9:=key hg1;constructor<;>first|omega|(simp only[Pat.cs_len];omega)));refine Exists.intro ((pre++[y],rest)) ⟨(by have hz:=hg1;rw[←hz];simp),(by simp),sx ⟨⟨_,rfl,xap ?_⟩,⟨⟨_,rfl,xap ?_⟩,trivial⟩⟩ trivial⟩;iterate 2 focus ((simp[Pat.cs_len];done))
 try simp only[Q,Pat.cs_len] at h1p
 have hrest:rest=[]:=by
  rcases rest with _|⟨a,b⟩
  ·rfl
  ·exfalso;have hz:=congrArg List.length (hg1);simp only[xaa,xab,xac] at hz;omega
 subst hrest;refine Walk.call (cr:=[9]) zxq (zlY (n:=pre.flatten.length) (by rw[List.append_nil] at hg1;rw[hg1];exact h0) (by rw[List.append_nil] at hg1;rw[hg1];exact hb)) rfl .none rfl rfl (LeL.refl _) trivial rfl rfl rfl ?_;refine ev ?_;refine xaj (ι:=List (List Pat)×List (List Pat)) hk (fun x=>[(27,.d (.i (x.1.length:Int))),(6,.gv 9 (Pat.cs x.1.flatten))]) [8,28,29,30,31,32,33,34] (fun x=>[(9,some (.tok (Pat.cs x.1.flatten).length 6))]) (fun x=>x.1++x.2=ls) (fun x=>x.2.length) ([],ls) (by simp) ⟨⟨_,rfl,xap ?_⟩,⟨⟨_,rfl,LeA.gvg ?_⟩,trivial⟩⟩ ⟨zaa ?_,trivial⟩ (fun x=>rfl) (fun x hg2=>?_);iterate 3 focus (rfl)
 obtain⟨pre,rest⟩:=x;dsimp only at hg2 ⊢;refine evc [] [] ?_;refine sq ?_ ?_<;>intro h3 h3p h3s;try simp only[Q,Pat.cs_len] at h3p
 rcases rest with _|⟨y,rest⟩
 ·exfalso;simp_all
 refine xaV zef .none rfl rfl rfl rfl (zaE hg2) rfl ?_;refine ev ?_;refine xaC sl45 zz56 .none rfl rfl rfl rfl (zdk rfl (by rfl)) (by exact zch _) (by have:=key hg2;simp only[Pat.cs_len];omega) (by have:=key hg2;simp only[Pat.cs_len];omega) ?_;refine ev ?_;refine ar ?_ (by(constructor<;>omega));refine Exists.intro ((pre++[y],rest)) ⟨(by have hz:=hg2;rw[←hz];simp),(by simp),sx ⟨⟨_,rfl,xap ?_⟩,⟨⟨_,rfl,LeA.gvg ?_⟩,trivial⟩⟩ ⟨zaa ?_,trivial⟩⟩;iterate 3 focus ((simp[xas];done))
 try simp only[Q,Pat.cs_len] at h3p
 have hrest:rest=[]:=by
  rcases rest with _|⟨a,b⟩
  ·rfl
  ·exfalso;have hz:=congrArg List.length (hg2);simp only[xaa,xab,xac] at hz;omega
 subst hrest;refine rn [(9,some (.tok (Pat.cs ls.flatten).length 6))] (r1 rfl) (.gvg ?_) ⟨rfl,rfl⟩ (SubH.get ⟨?_,trivial⟩) (zav rfl);rotate_left 2;all_goals ((rw[List.append_nil] at hg2;subst hg2;rfl))
def zbp (l:List Int):Nat→List Pat
 |0=>[]
 |n+1=>zbp l n++zbP (nth l (2*n)) (nth l (2*n+1))
theorem zkr (l:List Int):∀n,(zbp l n).length≤n
 |0=>by simp[zbp]
 |n+1=>by
  have:=zkr l n;simp only[zbp,zbP,xaa];split<;>simp<;>omega
theorem zks {l:List Int}{n:Nat} (h:nth l (2*n)≤nth l (2*n+1)):zbp l (n+1)=zbp l n++[intQ (nth l (2*n)) (nth l (2*n+1))]:=by simp[zbp,zbP,h]
theorem zrD {l:List Int}{n:Nat} (h:¬nth l (2*n)≤nth l (2*n+1)):zbp l (n+1)=zbp l n:=by simp only[zbp,zbP,if_neg h,List.append_nil]
theorem zq2 (a b:Int):zbp [a,b] 1=zbP a b:=by simp[zbp,nth]
theorem zvi (a b c d:Int):zbp [a,b,c,d] 2=zbP a b++zbP c d:=by simp[zbp,nth]
theorem zmO {p:Pat}:FnD Tryz.prog 186 [.agg [.d (.i p.op),.d (.i p.ctor),.d (.i p.n),.d (.i p.m),.d (.i p.var),.d (zae p.kids)]] [] (.tup [.d (.i (lowQ p)),.d (.i (zcQ p))]) []:=by
 by_cases h:p.op=1
 ·have e1:lowQ p=0:=if_pos h;have e2:zcQ p=9:=if_pos h;rw[e1,e2];refine bd Tryz.f186 11 [] [] fun w0 F0 own kept hk=>?_;refine bx 3001 ?_;refine ev ?_;refine sq ?_ ?_<;>intro h1 h1p h1s;try simp only[Q] at h1p
  focus (refine rn0 (r2 rfl rfl) (.tup (.cons (.eqd ?_) (.cons (.eqd ?_) .nil)));all_goals (rfl))
  try simp only[Q] at h1p
  exfalso;omega
 ·skip
  have e1:lowQ p=p.n:=if_neg h;have e2:zcQ p=p.m:=if_neg h;rw[e1,e2];refine bd Tryz.f186 11 [] [] fun w0 F0 own kept hk=>?_;refine bx 3001 ?_;refine ev ?_;refine sq ?_ ?_<;>intro h1 h1p h1s;try simp only[Q] at h1p
  exfalso;omega;try simp only[Q] at h1p
  refine dr ?_;focus (refine rn0 (r2 rfl rfl) (.tup (.cons (.eqd ?_) (.cons (.eqd ?_) .nil)));all_goals (rfl))
theorem zfV {l:List Int}{n:Nat} (hl:l.length=2*n) (hb:n≤1000):FnD Tryz.prog 187 [.d (zcq l)] [] (.d (zae (zbp l n))) []:=by
 refine bd Tryz.f187 35 [3] [] fun w0 F0 own kept hk=>?_;refine xaD 9 6 .none rfl rfl ?_;refine tv ?_;refine xaj (ι:=Nat) hk (fun i=>[(4,.d (.i ((2*i:Nat):Int))),(3,.gl 9 (Pat.cs (zbp l i)))]) [5,6,7,8,9,10,11,12,13,14,15,16,17,18,19,20,21,22,23,24,25,26,27,28,29,30,31,32,33] (fun i=>[(9,some (.tok ((Pat.cs (zbp l i))).length 6))]) (fun i=>i≤n) (fun i=>n-i) 0 (by omega) ⟨⟨_,rfl,xap ?_⟩,⟨⟨_,rfl,LeA.glg ?_⟩,trivial⟩⟩ ⟨zaa ?_,trivial⟩ (fun x=>rfl) (fun i hg1=>?_);iterate 3 focus (rfl)
 refine evc [3] [] ?_;refine sq ?_ ?_<;>intro h1 h1p h1s;try simp only[Q] at h1p
 refine xaV (i:=2*i) zaW .none rfl rfl rfl rfl (zas (by omega)) rfl ?_;refine evd [3] [] ?_;refine ar ?_;refine xaV (i:=2*i+1) zaW .none rfl rfl rfl rfl (zas (by omega)) rfl ?_;refine evd [3] [] ?_;refine dr ?_;refine sq ?_ ?_<;>intro h2 h2p h2s;try simp only[Q] at h2p
 refine xaV (i:=2*i) zaW .none rfl rfl rfl rfl (zas (by omega)) rfl ?_;refine evd [3] [] ?_;refine ar ?_;refine xaV (i:=2*i+1) zaW .none rfl rfl rfl rfl (zas (by omega)) rfl ?_;refine evd [3] [] ?_;refine bu [0,2,3] [_,_,_] st56 ?_;refine si [0] [_] sl45 tz56 ?_;refine ap sl45 zz56 rfl rfl rfl (by(intro x hx;simp at hx;subst hx;rfl)) (by have:=zkr l i;simp[Pat.cs_len];omega) ?_;refine asg ?_;refine dr ?_;refine ar ?_;refine Exists.intro (i+1) ⟨(by omega),(by omega),sx ⟨⟨_,rfl,xap ?_⟩,⟨⟨_,rfl,LeA.glg ?_⟩,trivial⟩⟩ ⟨zaa ?_,trivial⟩⟩;iterate 3 focus (first|rfl|(rw[zks (by assumption),xas,xas,xaf];rfl)|(rw[zks (by assumption)];simp[Pat.cs_len];done))
 try simp only[Q] at h2p
 refine ar ?_;refine Exists.intro (i+1) ⟨(by omega),(by omega),sx ⟨⟨_,rfl,xap ?_⟩,⟨⟨_,rfl,LeA.glg ?_⟩,trivial⟩⟩ ⟨zaa ?_,trivial⟩⟩;iterate 3 focus (first|rfl|(rw[zrD (by assumption)];done))
 try simp only[Q] at h1p
 refine rn0 (r1 rfl) (.gld ?_);rotate_left;all_goals ((have e:i=n:=(by omega);rw[e]))
theorem zpB {w:List Data} (hw:WT w){f:Nat→Nat}{a k c:Int} (ht:TyIn w.length ⟨a,k⟩) (hc:c∈zam w ⟨a,k⟩) (hl:(zab w ⟨a,k⟩ c).length≤3):FnD Tryz.prog 188 [.d (sPtr w f),.agg [.d (.i a),.d (.i k)],.d (.i c)] []
  (.agg [.d (.i 4),.d (.i c),.d (.i 0),.d (.i 0),.d (.i 0),.d (zae (zbZ w ⟨a,k⟩ c).kids)]) []:=by
 refine bd Tryz.f188 28 [] [] fun w0 F0 own kept hk=>?_;refine bx 3004 ?_;refine ab 3006 tz56 ?_;refine tv ?_;refine bu [0,1] [_,_] st56 ?_;refine ab 3007 tz56 ?_;refine so ty56 ?_;refine tv ?_;refine wc zfo (zdl hw ht hc) rfl rfl ?_;refine evd [] [] ?_;refine dr ?_;refine xam 3007 5 9 6 rfl rfl rfl rfl ?_;refine xaj (ι:=List (Ty)×List (Ty)) hk (fun x=>[(18,.d (.i (x.1.length:Int)))]) [19,20,21,22,23,24,25,26] (fun x=>[(3007,some (.box [.d (.i 4),.d (.i c),.d (.i 0),.d (.i 0),.d (.i 0),.gl 9 ((x.1.map fun _=>anyQ).map Pat.cc)])),(9,some (.tok ((x.1.map fun _=>anyQ).map Pat.cc).length 6))]) (fun x=>x.1++x.2=zab w ⟨a,k⟩ c) (fun x=>x.2.length) ([],zab w ⟨a,k⟩ c) (by simp) ⟨⟨_,rfl,xap ?_⟩,trivial⟩ ⟨?_,⟨zaa ?_,trivial⟩⟩ (fun x=>rfl) (fun x hg1=>?_);focus (rfl)
 focus (rfl)
 focus (rfl)
 obtain⟨pre,rest⟩:=x;dsimp only at hg1 ⊢;refine evc [] [] ?_;refine sq ?_ ?_<;>intro h1 h1p h1s;try simp only[Q] at h1p
 rcases rest with _|⟨y,rest⟩
 ·exfalso;simp_all
 refine wc zss (zeq) rfl rfl ?_;refine si [0] [_] sl45 tz56 ?_;refine ap sl45 zz56 rfl rfl rfl (by intro x hx;(simp at hx;subst hx;rfl)) (by have:=congrArg List.length hg1;simp at this;simp;omega) ?_;refine evd [] [] ?_;refine so ty45 ?_;refine dr ?_;refine ar ?_;refine Exists.intro ((pre++[y],rest)) ⟨(by have hz:=hg1;rw[←hz];simp),(by simp),sx ⟨⟨_,rfl,xap ?_⟩,trivial⟩ ⟨?_,⟨zaa ?_,trivial⟩⟩⟩;focus ((simp;done))
 focus ((simp[getH];exact⟨rfl,rfl,rfl,rfl,rfl,rfl⟩))
 focus ((simp;done))
 try simp only[Q] at h1p
 have hrest:rest=[]:=by
  rcases rest with _|⟨a,b⟩
  ·rfl
  ·exfalso;have hz:=congrArg List.length (hg1);simp only[xaa,xab,xac] at hz;omega
 subst hrest;refine so ty56 ?_;refine tv ?_;refine rn0 (.cons (.cellA ty56 rfl rfl rfl) .nil) (.agg (.cons (.eqd ?_) (.cons (.eqd ?_) (.cons (.eqd ?_) (.cons (.eqd ?_) (.cons (.eqd ?_) (.cons (.gld ?_) .nil)))))));rotate_left 6;all_goals (first|rfl|(rw[List.append_nil] at hg1;subst hg1;rw[←xas];all_goals rfl))
def zcS (n:Nat) (a b:Pat):Pat:=(zaM n a b).getD zv2
theorem zcw {n:Nat}{a b x:Pat} (h:zaM n a b=some x):zcS n a b=x:=by unfold zcS;rw[h];rfl
theorem zfz {n:Nat}{a b:Pat} (h:zaM n a b=none):zcS n a b=zv2:=by unfold zcS;rw[h];rfl
theorem zoc {n:Nat}{a b:Pat} (h:(zaM n a b).isSome=true):zaM n a b=some (zcS n a b):=by
 unfold zcS;cases e:zaM n a b with
 |none=>rw[e] at h;cases h
 |some x=>rfl
theorem zod {n:Nat}{a b:Pat} (h:(zaM n a b).isSome=false):zaM n a b=none:=by
 cases e:zaM n a b with
 |none=>rfl
 |some x=>rw[e] at h;cases h
theorem zj8 {w:List Data} (hs:Spa w){f:Nat→Nat}:∀(n m:Nat){ta tk:Int}{a b:Pat},m≤n→InS (w.length*4) ⟨ta,tk⟩→zai w m ⟨ta,tk⟩ a=true→zai w m ⟨ta,tk⟩ b=true→
  FnD Tryz.prog 190 [.d (sPtr w f),.agg [.d (.i ta),.d (.i tk)],.agg [.d (.i a.op),.d (.i a.ctor),.d (.i a.n),.d (.i a.m),.d (.i a.var),.d (zae a.kids)],.agg [.d (.i b.op),.d (.i b.ctor),.d (.i b.n),.d (.i b.m),.d (.i b.var),.d (zae b.kids)]] []
   (.tup [.agg [.d (.i (zcS n a b).op),.d (.i (zcS n a b).ctor),.d (.i (zcS n a b).n),.d (.i (zcS n a b).m),.d (.i (zcS n a b).var),.d (zae (zcS n a b).kids)],.d (.bool (zaM n a b).isSome)]) []
 |n,0,ta,tk,a,b,_,_,ha,_=>by simp[zai] at ha
 |0,m+1,ta,tk,a,b,h,_,_,_=>by omega
 |n+1,m+1,ta,tk,a,b,hnm,ht,ha,hb=>by
  by_cases h1:a.op=1
  ·have e:=zke (n:=n) (b:=b) h1;rw[zcw e,e];refine bd Tryz.f190 100 [] [] fun w0 F0 own kept hk=>?_;refine bx 3005 ?_;refine bx 3006 ?_;refine bx 3007 ?_;refine ab 3008 tz56 ?_;refine ev ?_;refine sq ?_ ?_<;>intro h1 h1p h1s;try simp only[Q] at h1p
   refine so ty56 ?_;refine ev ?_;refine rn0 (.cons (.cellA ty56 rfl rfl rfl) (.cons (.tmp rfl) .nil)) (.tup (.cons (.agg (.cons (.eqd ?_) (.cons (.eqd ?_) (.cons (.eqd ?_) (.cons (.eqd ?_) (.cons (.eqd ?_) (.cons (.eqd ?_) .nil))))))) (.cons (.eqd ?_) .nil)));rotate_left 7;try simp only[Q] at h1p
   exfalso;omega;all_goals (rfl)
  by_cases h2:b.op=1
  ·have e:=zkf (n:=n) h1 h2;rw[zcw e,e];refine bd Tryz.f190 100 [] [] fun w0 F0 own kept hk=>?_;refine bx 3005 ?_;refine bx 3006 ?_;refine bx 3007 ?_;refine ab 3008 tz56 ?_;refine ev ?_;refine sq ?_ ?_<;>intro h1 h1p h1s;try simp only[Q] at h1p
   exfalso;omega;try simp only[Q] at h1p
   refine sq ?_ ?_<;>intro h2 h2p h2s;try simp only[Q] at h2p
   refine so ty56 ?_;refine ev ?_;refine rn0 (.cons (.cellA ty56 rfl rfl rfl) (.cons (.tmp rfl) .nil)) (.tup (.cons (.agg (.cons (.eqd ?_) (.cons (.eqd ?_) (.cons (.eqd ?_) (.cons (.eqd ?_) (.cons (.eqd ?_) (.cons (.eqd ?_) .nil))))))) (.cons (.eqd ?_) .nil)));rotate_left 7;try simp only[Q] at h2p
   exfalso;omega;all_goals (rfl)
  by_cases h3:a.op=3
  ·have e:=zkg (n:=n) h3 h2;by_cases hr:maxQ a.n b.n≤minQ a.m b.m
   ·rw[if_pos hr] at e;have er:zbp [maxQ a.n b.n,minQ a.m b.m] 1=[intQ (maxQ a.n b.n) (minQ a.m b.m)]:=by rw[zq2];exact if_pos hr
    have hrg:=zfV (l:=[maxQ a.n b.n,minQ a.m b.m]) (n:=1) rfl (by omega);rw[er] at hrg;rw[zcw e,e];refine bd Tryz.f190 100 [] [] fun w0 F0 own kept hk=>?_;refine bx 3005 ?_;refine bx 3006 ?_;refine bx 3007 ?_;refine ab 3008 tz56 ?_;refine ev ?_;refine sq ?_ ?_<;>intro h1 h1p h1s;try simp only[Q,Pat.cs_len] at h1p
    exfalso;omega;try simp only[Q,Pat.cs_len] at h1p
    refine sq ?_ ?_<;>intro h2 h2p h2s;try simp only[Q,Pat.cs_len] at h2p
    exfalso;omega;try simp only[Q,Pat.cs_len] at h2p
    refine sq ?_ ?_<;>intro h3 h3p h3s;try simp only[Q,Pat.cs_len] at h3p
    refine xa4 .none rfl rfl rfl ?_;refine ev ?_;refine xa5 .none rfl rfl rfl ?_;refine si [0,1] [_,_] zaW tz3 ?_;refine wc zp6 (hrg) rfl rfl ?_;refine ev ?_;refine sq ?_ ?_<;>intro h4 h4p h4s;try simp only[Q,Pat.cs_len] at h4p
    exfalso;simp[Pat.cs_len] at h4;try simp only[Q,Pat.cs_len] at h4p
    refine xaV (i:=0) sl45 .none rfl rfl rfl rfl (rfl) rfl ?_;refine ev ?_;refine so ty56 ?_;refine ev ?_;refine rn0 (.cons (.cellA ty56 rfl rfl rfl) (.cons (.tmp rfl) .nil)) (.tup (.cons (.agg (.cons (.eqd ?_) (.cons (.eqd ?_) (.cons (.eqd ?_) (.cons (.eqd ?_) (.cons (.eqd ?_) (.cons (.eqd ?_) .nil))))))) (.cons (.eqd ?_) .nil)));rotate_left 7;try simp only[Q,Pat.cs_len] at h3p
    exfalso;omega;all_goals (rfl)
   ·skip
    rw[if_neg hr] at e;have er:zbp [maxQ a.n b.n,minQ a.m b.m] 1=[]:=by rw[zq2];exact if_neg hr
    have hrg:=zfV (l:=[maxQ a.n b.n,minQ a.m b.m]) (n:=1) rfl (by omega);rw[er] at hrg;rw[zfz e,e];refine bd Tryz.f190 100 [] [] fun w0 F0 own kept hk=>?_;refine bx 3005 ?_;refine bx 3006 ?_;refine bx 3007 ?_;refine ab 3008 tz56 ?_;refine ev ?_;refine sq ?_ ?_<;>intro h1 h1p h1s;try simp only[Q,Pat.cs_len] at h1p
    exfalso;omega;try simp only[Q,Pat.cs_len] at h1p
    refine sq ?_ ?_<;>intro h2 h2p h2s;try simp only[Q,Pat.cs_len] at h2p
    exfalso;omega;try simp only[Q,Pat.cs_len] at h2p
    refine sq ?_ ?_<;>intro h3 h3p h3s;try simp only[Q,Pat.cs_len] at h3p
    refine xa4 .none rfl rfl rfl ?_;refine ev ?_;refine xa5 .none rfl rfl rfl ?_;refine si [0,1] [_,_] zaW tz3 ?_;refine wc zp6 (hrg) rfl rfl ?_;refine ev ?_;refine sq ?_ ?_<;>intro h4 h4p h4s;try simp only[Q,Pat.cs_len] at h4p
    refine bu [] [] st56 ?_;refine so ty56 ?_;refine ev ?_;refine rn0 (.cons (.cellA ty56 rfl rfl rfl) (.cons (.tmp rfl) .nil)) (.tup (.cons (.agg (.cons (.eqd ?_) (.cons (.eqd ?_) (.cons (.eqd ?_) (.cons (.eqd ?_) (.cons (.eqd ?_) (.cons (.nild ?_) .nil))))))) (.cons (.eqd ?_) .nil)));rotate_left 7;try simp only[Q,Pat.cs_len] at h4p
    exfalso;simp[Pat.cs] at h4;try simp only[Q,Pat.cs_len] at h3p
    exfalso;omega;all_goals (rfl)
  have oa:=zbw ha;have h4:a.op=4:=by omega
  have h4b:b.op=4:=by have:=zdh ha hb h1 h2;omega
  by_cases hc:a.ctor=b.ctor
  ·obtain⟨c1,c2,c3,c4⟩:=zaN ha h4;obtain⟨d1,d2,d3,d4⟩:=zaN hb h4b;rw[←hc] at d3;have h3l:=hs.args ⟨ta,tk⟩ a.ctor ht c1;have ka:=fun i (hi:i<a.kids.length)=>za4 ha hi;have kb:=fun i (hi:i<b.kids.length)=>za4 hb hi;rw[zbc h4] at ka;rw[zbc h4b,←hc] at kb;have e:=zkh (n:=n) h4 h2 hc;have hlen:a.kids.length=b.kids.length:=by omega
   have ih:=fun i (hi:i<(zab w ⟨ta,tk⟩ a.ctor).length)=>zj8 hs n m (f:=f) (ta:=(nth (zab w ⟨ta,tk⟩ a.ctor) i).data) (tk:=(nth (zab w ⟨ta,tk⟩ a.ctor) i).index) (a:=nth a.kids i) (b:=nth b.kids i) (by omega) (zbx hs.dp ht c1 _ (zaf hi)) (ka i (by omega)) (kb i (by omega));refine bd Tryz.f190 100 [] [] fun w0 F0 own kept hk=>?_;refine bx 3005 ?_;refine bx 3006 ?_;refine bx 3007 ?_;refine ab 3008 tz56 ?_;refine ev ?_;refine sq ?_ ?_<;>intro h1 h1p h1s;try simp only[Q,Pat.cs_len] at h1p
   exfalso;omega;try simp only[Q,Pat.cs_len] at h1p
   refine sq ?_ ?_<;>intro h2 h2p h2s;try simp only[Q,Pat.cs_len] at h2p
   exfalso;omega;try simp only[Q,Pat.cs_len] at h2p
   refine sq ?_ ?_<;>intro h3 h3p h3s;try simp only[Q,Pat.cs_len] at h3p
   exfalso;omega;try simp only[Q,Pat.cs_len] at h3p
   refine sq ?_ ?_<;>intro h4 h4p h4s;try simp only[Q,Pat.cs_len] at h4p
   exfalso;omega;try simp only[Q,Pat.cs_len] at h4p
   refine bu [0,1] [_,_] st56 ?_;refine ab 3011 tz56 ?_;refine so ty56 ?_;refine tv ?_;refine wc zfo (zdl hs.dp.wt (zb1 ht) c1) rfl rfl ?_;refine evd [] [] ?_;refine dr ?_;refine xam 3011 5 9 6 rfl rfl rfl rfl ?_;refine xaj (ι:=Nat×List Pat) hk (fun x=>[(68,.d (.i (x.1:Int)))]) [9,12,13,14,15,69,70,71,72,73,74,75,76,77,78,79,80,81,82,83,84,85,86,87,88,89,90,91,92,93,94,95,96,97,98] (fun x=>[(3011,some (.box [.d (.i 4),.d (.i a.ctor),.d (.i 0),.d (.i 0),.d (.i 0),.gl 9 (x.2.map Pat.cc)])),(9,some (.tok (x.2.map Pat.cc).length 6))]) (fun x=>x.1≤a.kids.length∧x.2.length=x.1∧zbS (zaM n) (a.kids.drop x.1) (b.kids.drop x.1) x.2=zbS (zaM n) a.kids b.kids []) (fun x=>a.kids.length-x.1) (0,[]) ⟨by simp,rfl,rfl⟩ ⟨⟨_,rfl,xap ?_⟩,trivial⟩ ⟨?_,⟨zaa ?_,trivial⟩⟩ (fun x=>rfl) (fun x hg1=>?_);focus (rfl)
   focus (first|rfl|(simp[getH];done))
   focus (rfl)
   refine evc [] [] ?_;refine sq ?_ ?_<;>intro h5 h5p h5s;try simp only[Q,Pat.cs_len] at h5p
   refine xaV zaT .none rfl rfl rfl rfl (zas (by omega)) rfl ?_;refine ev ?_;refine ab 3013 tz33 ?_;refine ev ?_;refine so ty33 ?_;refine tv ?_;refine xaV sl45 .none rfl rfl rfl rfl (zaC (by omega)) rfl ?_;refine evd [] [] ?_;refine xaV sl45 .none rfl rfl rfl rfl (zaC (by omega)) rfl ?_;refine evd [] [] ?_;refine wc ztn (ih x.1 (by omega)) rfl rfl ?_;refine evd [] [] ?_;refine ab 3014 tz56 ?_;refine so ty56 ?_;refine evd [] [] ?_;refine dr ?_;refine sq ?_ ?_<;>intro h6 h6p h6s;try simp only[Q,Pat.cs_len] at h6p
   refine bu [] [] st56 ?_;refine so ty56 ?_;refine ev ?_;refine rn0 (.cons (.cellA ty56 rfl rfl rfl) (.cons (.tmp rfl) .nil)) (.tup (.cons (.agg (.cons (.eqd ?_) (.cons (.eqd ?_) (.cons (.eqd ?_) (.cons (.eqd ?_) (.cons (.eqd ?_) (.cons (.nild ?_) .nil))))))) (.cons (.eqd ?_) .nil)));rotate_left 7;try simp only[Q,Pat.cs_len] at h6p
   refine si [0] [_] sl45 tz56 ?_;refine ap sl45 zz56 rfl rfl rfl (by intro x hx;(simp at hx;subst hx;rfl)) (by simp;omega) ?_;refine ev ?_;refine so ty45 ?_;refine tv ?_;refine ar ?_;refine Exists.intro ((x.1+1,x.2++[zcS n (nth a.kids x.1) (nth b.kids x.1)])) ⟨⟨by dsimp only;omega,by dsimp only;rw[xaa,hg1.2.1];rfl,by dsimp only;rw[←zm1 (by omega) (by omega) (zoc (by assumption))];exact hg1.2.2⟩,(by dsimp only;omega),sx ⟨⟨_,rfl,xap ?_⟩,trivial⟩ ⟨?_,⟨zaa ?_,trivial⟩⟩⟩;focus (rfl)
   focus (first|rfl|(simp[getH];done))
   focus ((simp;done))
   try simp only[Q,Pat.cs_len] at h5p
   refine so ty56 ?_;refine ev ?_;refine rn0 (.cons (.cellA ty56 rfl rfl rfl) (.cons (.tmp rfl) .nil)) (.tup (.cons (.agg (.cons (.eqd ?_) (.cons (.eqd ?_) (.cons (.eqd ?_) (.cons (.eqd ?_) (.cons (.eqd ?_) (.cons (.gld ?_) .nil))))))) (.cons (.eqd ?_) .nil)));rotate_left 7;all_goals (first|(have e2:zaM (n+1) a b=none:=(by rw[e,←hg1.2.2,zm0 (by omega) (by omega) (zod (by assumption))];rfl);(first|rw[zfz e2]|rw[e2]);all_goals rfl)|(have e2:zaM (n+1) a b=some (zby a.ctor x.2):=(by rw[e,←hg1.2.2,zff (by omega)];rfl);rw[zcw e2,xas];all_goals rfl)|(have e2:zaM (n+1) a b=some (zby a.ctor x.2):=(by rw[e,←hg1.2.2,zff (by omega)];rfl);rw[zcw e2];all_goals rfl)|(have e2:zaM (n+1) a b=some (zby a.ctor x.2):=(by rw[e,←hg1.2.2,zff (by omega)];rfl);rw[e2];all_goals rfl))
  ·skip
   have e:=ziG (n:=n) h4 h2 hc;rw[zfz e,e];refine bd Tryz.f190 100 [] [] fun w0 F0 own kept hk=>?_;refine bx 3005 ?_;refine bx 3006 ?_;refine bx 3007 ?_;refine ab 3008 tz56 ?_;refine ev ?_;refine sq ?_ ?_<;>intro h1 h1p h1s;try simp only[Q] at h1p
   exfalso;omega;try simp only[Q] at h1p
   refine sq ?_ ?_<;>intro h2 h2p h2s;try simp only[Q] at h2p
   exfalso;omega;try simp only[Q] at h2p
   refine sq ?_ ?_<;>intro h3 h3p h3s;try simp only[Q] at h3p
   exfalso;omega;try simp only[Q] at h3p
   refine sq ?_ ?_<;>intro h4 h4p h4s;try simp only[Q] at h4p
   refine bu [] [] st56 ?_;refine so ty56 ?_;refine ev ?_;refine rn0 (.cons (.cellA ty56 rfl rfl rfl) (.cons (.tmp rfl) .nil)) (.tup (.cons (.agg (.cons (.eqd ?_) (.cons (.eqd ?_) (.cons (.eqd ?_) (.cons (.eqd ?_) (.cons (.eqd ?_) (.cons (.nild ?_) .nil))))))) (.cons (.eqd ?_) .nil)));rotate_left 7;try simp only[Q] at h4p
   exfalso;omega;all_goals (rfl)
theorem zh3 {f:Ty→Pat→Pat→List Pat}{c:Int}{ts:List Ty}{xs bs front:List Pat}{i:Nat} (h1:i<ts.length) (h2:i<xs.length) (h3:i<bs.length):
  zaQ f c (ts.drop i) (xs.drop i) (bs.drop i) front=(f (nth ts i) (nth xs i) (nth bs i)).map (fun z=>zby c (front++[z]++xs.drop (i+1)))++(match zaM 11 (nth xs i) (nth bs i) with
   |none=>[]
   |some both=>zaQ f c (ts.drop (i+1)) (xs.drop (i+1)) (bs.drop (i+1)) (front++[both])):=by
 rw[zaG h1,zaG h2,zaG h3,zaQ];all_goals (cases zaM 11 (nth xs i) (nth bs i)<;>rfl)
theorem zls {f:Ty→Pat→Pat→List Pat}{c:Int}{ts:List Ty}{xs bs front:List Pat}{i:Nat} (h1:i<ts.length) (h2:i<xs.length) (h3:i<bs.length) (h:(zaM 11 (nth xs i) (nth bs i)).isSome=true):
  zaQ f c (ts.drop i) (xs.drop i) (bs.drop i) front=(f (nth ts i) (nth xs i) (nth bs i)).map (fun z=>zby c (front++[z]++xs.drop (i+1)))++zaQ f c (ts.drop (i+1)) (xs.drop (i+1)) (bs.drop (i+1)) (front++[zcS 11 (nth xs i) (nth bs i)]):=by
 rw[zh3 h1 h2 h3,zoc h]
theorem zlr {f:Ty→Pat→Pat→List Pat}{c:Int}{ts:List Ty}{xs bs front:List Pat}{i:Nat} (h1:i<ts.length) (h2:i<xs.length) (h3:i<bs.length) (h:(zaM 11 (nth xs i) (nth bs i)).isSome=false):
  zaQ f c (ts.drop i) (xs.drop i) (bs.drop i) front=(f (nth ts i) (nth xs i) (nth bs i)).map (fun z=>zby c (front++[z]++xs.drop (i+1))):=by
 rw[zh3 h1 h2 h3,zod h,List.append_nil]
theorem zm3 {f:Ty→Pat→Pat→List Pat}{c:Int}{ts:List Ty}{xs bs front:List Pat}{i:Nat} (h1:ts.length≤i):zaQ f c (ts.drop i) (xs.drop i) (bs.drop i) front=[]:=by
 rw[List.drop_eq_nil_of_le h1];rfl
theorem zqW {n:Nat} (h:n≤11):4 ^ n≤4194304:=Nat.le_trans (Nat.pow_le_pow_right (by omega) h) (by decide)
theorem zf0 {w:List Data} (hs:Spa w){n m:Nat}{t:Ty}{a b:Pat} (h:n<m) (h10:n≤10) (ht:InS (w.length*4) t) (ha:zai w m t a=true) (hb:zai w n t b=true):(zat w n t a b).length≤20000000:=by
 have h1:=zo7 hs n m h ht ha hb;have h2:=(zf2 hs n ht hb).2;have h3:=zqW (n:=n) (by omega);omega
theorem zwb {A B:List Pat}{y:Pat}{xs:List (List D)} (hx:xs=Pat.cs B) (hb:A.length+1+B.length≤1000):
  FnD Tryz.prog 189 [.d (.sl [[.sl (A.map Pat.cc)],[.sl [Pat.cc y]],[.sl xs]])] [] (.d (zae (A++[y]++B))) []:=by
 have h:=zky (ls:=[A,[y],B]) (by simp) (by simp;omega) (by simp;omega);have e:[A,[y],B].flatten=A++[y]++B:=by simp
 rw[e] at h;subst hx;have e2:zvL [A,[y],B] = .sl [[.sl (A.map Pat.cc)],[.sl [Pat.cc y]],[.sl (Pat.cs B)]]:=by
  show D.sl [[.sl (Pat.cs A)],[.sl (Pat.cs [y])],[.sl (Pat.cs B)]]=_
  rw[xas A,xas [y]];rfl
 rw[e2] at h;exact h
section
variable {w:List Data}{f:Nat→Nat}
abbrev MinusFn (w:List Data) (f:Nat→Nat) (n:Nat) (ta tk:Int) (a b:Pat):Prop:=
 FnD Tryz.prog 116 [.d (sPtr w f),.agg [.d (.i ta),.d (.i tk)],.agg [.d (.i a.op),.d (.i a.ctor),.d (.i a.n),.d (.i a.m),.d (.i a.var),.d (zae a.kids)],.agg [.d (.i b.op),.d (.i b.ctor),.d (.i b.n),.d (.i b.m),.d (.i b.var),.d (zae b.kids)]] [] (.d (zae (zat w n ⟨ta,tk⟩ a b))) []
theorem zqD {n:Nat}{ta tk:Int}{a b:Pat} (h:b.op=1):MinusFn w f (n+1) ta tk a b:=by
 unfold MinusFn;rw[zhn h];refine bd Tryz.f116 159 [] [] fun w0 F0 own kept hk=>?_;refine bx 3005 ?_;refine bx 3006 ?_;refine bx 3007 ?_;refine ev ?_;refine sq ?_ ?_<;>intro h1 h1p h1s;try simp only[Q] at h1p
 refine rn0 (r1 rfl) (.nild ?_);rotate_left;try simp only[Q] at h1p
 exfalso;omega;all_goals (rfl)
theorem zqE {n:Nat}{ta tk:Int}{a b:Pat} (h:b.op=3) (hbn:0≤b.n∧b.n≤9) (hbm:0≤b.m∧b.m≤9):MinusFn w f (n+1) ta tk a b:=by
 unfold MinusFn;rw[ziH h];have er:zbp [lowQ a,minQ (zcQ a) (b.n-1),maxQ (lowQ a) (b.m+1),zcQ a] 2=zew a b:=zvi _ _ _ _;have hrg:=zfV (l:=[lowQ a,minQ (zcQ a) (b.n-1),maxQ (lowQ a) (b.m+1),zcQ a]) (n:=2) rfl (by omega);rw[er] at hrg;refine bd Tryz.f116 159 [] [] fun w0 F0 own kept hk=>?_;refine bx 3005 ?_;refine bx 3006 ?_;refine bx 3007 ?_;refine ev ?_;refine sq ?_ ?_<;>intro h1 h1p h1s;try simp only[Q] at h1p
 exfalso;omega;try simp only[Q] at h1p
 refine sq ?_ ?_<;>intro h2 h2p h2s;try simp only[Q] at h2p
 refine wc zxb (zmO) rfl rfl ?_;refine ev ?_;refine ar ?_;refine xa5 .none rfl rfl rfl ?_;refine ev ?_;refine ar ?_;refine xa4 .none rfl rfl rfl ?_;refine ev ?_;refine si [0,1,2,3] [_,_,_,_] zaW tz3 ?_;refine wc zp6 (hrg) rfl rfl ?_;refine ev ?_;focus (refine rn0 (r1 rfl) (.eqd ?_);all_goals (rfl))
 try simp only[Q] at h2p
 exfalso;omega
theorem zqH {n:Nat}{ta tk:Int}{a b:Pat} (h4:a.op=4) (h4b:b.op=4) (hc:¬a.ctor=b.ctor):MinusFn w f (n+1) ta tk a b:=by
 unfold MinusFn;have e:zat w (n+1) ⟨ta,tk⟩ a b=[a]:=by rw[zd7 h4b h4];exact if_neg hc
 rw[e];refine bd Tryz.f116 159 [] [] fun w0 F0 own kept hk=>?_;refine bx 3005 ?_;refine bx 3006 ?_;refine bx 3007 ?_;refine ev ?_;refine sq ?_ ?_<;>intro h1 h1p h1s;try simp only[Q] at h1p
 exfalso;omega;try simp only[Q] at h1p
 refine sq ?_ ?_<;>intro h2 h2p h2s;try simp only[Q] at h2p
 exfalso;omega;try simp only[Q] at h2p
 refine sq ?_ ?_<;>intro h3 h3p h3s;try simp only[Q] at h3p
 exfalso;omega;try simp only[Q] at h3p
 refine sq ?_ ?_<;>intro h4 h4p h4s;try simp only[Q] at h4p
 refine si [0] [_] sl45 tz56 ?_;refine ev ?_;refine rn0 (r1 rfl) (.eqd ?_);rotate_left;try simp only[Q] at h4p
 exfalso;omega;all_goals (first|rfl|(cases a;rfl))
theorem zqG (hs:Spa w){n m:Nat} (hn:n+1≤10) (hm:m+1≤11) (hnm:n<m)
  (ih:∀ {ta tk:Int}{a b:Pat},InS (w.length*4) ⟨ta,tk⟩→zai w m ⟨ta,tk⟩ a=true→zai w n ⟨ta,tk⟩ b=true→MinusFn w f n ta tk a b)
  {ta tk:Int}{a b:Pat} (ht:InS (w.length*4) ⟨ta,tk⟩) (ha:zai w (m+1) ⟨ta,tk⟩ a=true) (hb:zai w (n+1) ⟨ta,tk⟩ b=true) (h4:a.op=4) (h4b:b.op=4) (hc:a.ctor=b.ctor):MinusFn w f (n+1) ta tk a b:=by
 obtain⟨c1,c2,c3,-⟩:=zaN ha h4;obtain⟨d1,d2,d3,-⟩:=zaN hb h4b;rw[←hc] at d3;have h3l:=hs.args ⟨ta,tk⟩ a.ctor ht c1;have ka:=fun i (hi:i<a.kids.length)=>za4 ha hi;have kb:=fun i (hi:i<b.kids.length)=>za4 hb hi;rw[zbc h4] at ka;rw[zbc h4b,←hc] at kb;have hbd:=zf0 hs (n:=n+1) (m:=m+1) (by omega) hn ht ha hb;have e:zat w (n+1) ⟨ta,tk⟩ a b=zaQ (zat w n) a.ctor (zab w ⟨ta,tk⟩ a.ctor) a.kids b.kids []:=by rw[zd7 h4b h4];exact if_pos hc
 have hins:=fun i (hi:i<(zab w ⟨ta,tk⟩ a.ctor).length)=>zbx hs.dp ht c1 _ (zaf hi);have hmi:∀i,i<(zab w ⟨ta,tk⟩ a.ctor).length→FnD Tryz.prog 116 [.d (sPtr w f),.agg [.d (.i (nth (zab w ⟨ta,tk⟩ a.ctor) i).data),.d (.i (nth (zab w ⟨ta,tk⟩ a.ctor) i).index)],.agg [.d (.i (nth a.kids i).op),.d (.i (nth a.kids i).ctor),.d (.i (nth a.kids i).n),.d (.i (nth a.kids i).m),.d (.i (nth a.kids i).var),.d (zae (nth a.kids i).kids)],.agg [.d (.i (nth b.kids i).op),.d (.i (nth b.kids i).ctor),.d (.i (nth b.kids i).n),.d (.i (nth b.kids i).m),.d (.i (nth b.kids i).var),.d (zae (nth b.kids i).kids)]] [] (.d (zae (zat w n (nth (zab w ⟨ta,tk⟩ a.ctor) i) (nth a.kids i) (nth b.kids i)))) []:=fun i hi=>ih (ta:=(nth (zab w ⟨ta,tk⟩ a.ctor) i).data) (tk:=(nth (zab w ⟨ta,tk⟩ a.ctor) i).index) (hins i hi) (ka i (by omega)) (kb i (by omega));have hme:=fun i (hi:i<(zab w ⟨ta,tk⟩ a.ctor).length)=>zj8 hs 11 m (f:=f) (ta:=(nth (zab w ⟨ta,tk⟩ a.ctor) i).data) (tk:=(nth (zab w ⟨ta,tk⟩ a.ctor) i).index) (by omega) (hins i hi) (ka i (by omega)) (zhp (by omega) (kb i (by omega)));unfold MinusFn;rw[e] at hbd ⊢;have hT:∀i out front,i<(zab w ⟨ta,tk⟩ a.ctor).length→out++zaQ (zat w n) a.ctor ((zab w ⟨ta,tk⟩ a.ctor).drop i) (a.kids.drop i) (b.kids.drop i) front=zaQ (zat w n) a.ctor (zab w ⟨ta,tk⟩ a.ctor) a.kids b.kids []→
   out.length+(zat w n (nth (zab w ⟨ta,tk⟩ a.ctor) i) (nth a.kids i) (nth b.kids i)).length≤20000000:=fun i out front hi h=>by
  rw[zh3 hi (by omega) (by omega)] at h;have:=congrArg List.length h;simp only[xaa,xac] at this;omega
 refine bd Tryz.f116 159 [14,15] [] fun w0 F0 own kept hk=>?_;refine bx 3005 ?_;refine bx 3006 ?_;refine bx 3007 ?_;refine evs [14,15] [] ?_;refine sq ?_ ?_<;>intro h1 h1p h1s;try simp only[Q,Pat.cs_len] at h1p
 exfalso;omega;try simp only[Q,Pat.cs_len] at h1p
 refine sq ?_ ?_<;>intro h2 h2p h2s;try simp only[Q,Pat.cs_len] at h2p
 exfalso;omega;try simp only[Q,Pat.cs_len] at h2p
 refine sq ?_ ?_<;>intro h3 h3p h3s;try simp only[Q,Pat.cs_len] at h3p
 exfalso;omega;try simp only[Q,Pat.cs_len] at h3p
 refine sq ?_ ?_<;>intro h4 h4p h4s;try simp only[Q,Pat.cs_len] at h4p
 exfalso;omega;try simp only[Q,Pat.cs_len] at h4p
 refine xaD 9 6 .none rfl rfl ?_;refine xaD 8 6 .none rfl rfl ?_;refine tv ?_;refine wc zfo (zdl hs.dp.wt (zb1 ht) c1) rfl rfl ?_;refine evd [14,15] [] ?_;refine dr ?_;refine xaj (ι:=Nat×List Pat×List Pat) hk (fun s=>[(94,.d (.i (s.1:Int))),(14,.gl 9 (s.2.1.map Pat.cc)),(15,.gl 8 (s.2.2.map Pat.cc))]) [16,17,19,20,21,22,95,96,97,98,99,100,101,102,103,104,105,106,107,108,109,110,111,112,113,114,115,116,117,118,119,120,121,122,123,124,125,126,127,128,129,130,131,132,133,134,135,136,137,138,139,140,141,142,143,144,145,146,147,148,149,150,151,152,153,154,155,156,157] (fun s=>[(9,some (.tok ((s.2.1.map Pat.cc)).length 6)),(8,some (.tok ((s.2.2.map Pat.cc)).length 6))]) (fun s=>s.1≤a.kids.length∧s.2.2.length=s.1∧s.2.1++zaQ (zat w n) a.ctor ((zab w ⟨ta,tk⟩ a.ctor).drop s.1) (a.kids.drop s.1) (b.kids.drop s.1) s.2.2=zaQ (zat w n) a.ctor (zab w ⟨ta,tk⟩ a.ctor) a.kids b.kids []) (fun s=>a.kids.length-s.1) (0,[],[]) ⟨by simp,rfl,rfl⟩ ⟨⟨_,rfl,xap ?_⟩,⟨⟨_,rfl,LeA.glg ?_⟩,⟨⟨_,rfl,LeA.glg ?_⟩,trivial⟩⟩⟩ ⟨zaa ?_,⟨zaa ?_,trivial⟩⟩ (fun x=>rfl) (fun s hg2=>?_);iterate 5 focus (rfl)
 refine evc [14,15] [] ?_;refine sq ?_ ?_<;>intro h5 h5p h5s;try simp only[Q,Pat.cs_len] at h5p
 refine xaV zaT .none rfl rfl rfl rfl (zas (by omega)) rfl ?_;refine evs [14,15] [] ?_;refine ab 3017 tz33 ?_;refine evs [14,15] [] ?_;refine so ty33 ?_;refine tv ?_;refine xaV sl45 .none rfl rfl rfl rfl (zaC (by omega)) rfl ?_;refine evd [14,15] [] ?_;refine xaV sl45 .none rfl rfl rfl rfl (zaC (by omega)) rfl ?_;refine evd [14,15] [] ?_;refine wc zp3 (hmi s.1 (by omega)) rfl rfl ?_;refine evd [14,15] [] ?_;refine dr ?_;refine xaj (ι:=List (Pat)×List (Pat)) hk (fun x=>[(113,.d (.i (x.1.length:Int))),(14,.gl 9 ((s.2.1++x.1.map (fun z=>zby a.ctor (s.2.2++[z]++a.kids.drop (s.1+1)))).map Pat.cc))]) [19,20,114,115,116,117,118,119,120,121,122,123,124,125,126,127,128,129,130,131,132,133,134] (fun x=>[(9,some (.tok (((s.2.1++x.1.map (fun z=>zby a.ctor (s.2.2++[z]++a.kids.drop (s.1+1)))).map Pat.cc)).length 6))]) (fun x=>x.1++x.2=(zat w n (nth (zab w ⟨ta,tk⟩ a.ctor) s.1) (nth a.kids s.1) (nth b.kids s.1))) (fun x=>x.2.length) ([],(zat w n (nth (zab w ⟨ta,tk⟩ a.ctor) s.1) (nth a.kids s.1) (nth b.kids s.1))) (by simp) ⟨⟨_,rfl,xap ?_⟩,⟨⟨_,rfl,LeA.glg ?_⟩,trivial⟩⟩ ⟨zaa ?_,trivial⟩ (fun x=>rfl) (fun x hg3=>?_);iterate 3 focus ((simp;done))
 obtain⟨pre,rest⟩:=x;dsimp only at hg3 ⊢;refine evc [14,15] [] ?_;refine sq ?_ ?_<;>intro h6 h6p h6s;try simp only[Q,Pat.cs_len] at h6p
 rcases rest with _|⟨y,rest⟩
 ·exfalso;simp_all
 refine xaV sl45 .none rfl rfl rfl rfl (Pat.cs_at' hg3) rfl ?_;refine evs [14,15] [] ?_;refine ab 3019 tz56 ?_;refine so ty56 ?_;refine tv ?_;refine si [0] [_] sl45 tz56 ?_;refine evd [14,15] [] ?_;refine ar ?_ (by(constructor<;>omega));refine xaQ (b:=s.1+1) sl45 .none rfl rfl rfl (by intro x hx;exact zch _ x hx) rfl rfl (by simp only[Pat.cs_len];omega) ?_;refine si [0,1,2] [_,_,_] zef tz45 ?_;refine wc zxd (zwb (A:=s.2.2) (y:=y) (xs:=(Pat.cs a.kids).drop (s.1+1)) (B:=a.kids.drop (s.1+1)) (by rw[xas,xas,List.map_drop]) (by rw[List.length_drop];omega)) rfl rfl ?_;refine evd [14,15] [] ?_;refine dr ?_;refine bu [0,1,5] [_,_,_] st56 ?_;refine si [0] [_] sl45 tz56 ?_;refine ap sl45 zz56 rfl rfl rfl (by intro x hx;(simp at hx;subst hx;rfl)) (by(have h9:=hT s.1 s.2.1 s.2.2 (by omega) hg2.2.2;have h8:=congrArg List.length hg3;simp at h8 ⊢;omega)) ?_;refine asg ?_;refine tv ?_;refine ar ?_ (by(have h9:=hT s.1 s.2.1 s.2.2 (by omega) hg2.2.2;have h8:=congrArg List.length hg3;simp only[xaa,xab] at h8;constructor<;>omega));refine Exists.intro ((pre++[y],rest)) ⟨(by have hz:=hg3;rw[←hz];simp),(by simp),sx ⟨⟨_,rfl,xap ?_⟩,⟨⟨_,rfl,LeA.glg ?_⟩,trivial⟩⟩ ⟨zaa ?_,trivial⟩⟩;iterate 3 focus (first|(simp;done)|(simp only[xaf,List.append_assoc,xae,List.map_nil];rfl)|(simp;omega))
 try simp only[Q,Pat.cs_len] at h6p
 have hrest:rest=[]:=by
  rcases rest with _|⟨a,b⟩
  ·rfl
  ·exfalso;have hz:=congrArg List.length (hg3);simp only[xaa,xab,xac] at hz;omega
 subst hrest;refine xaV sl45 .none rfl rfl rfl rfl (zaC (by omega)) rfl ?_;refine evd [14,15] [] ?_;refine xaV sl45 .none rfl rfl rfl rfl (zaC (by omega)) rfl ?_;refine evd [14,15] [] ?_;refine wc ztn (hme s.1 (by omega)) rfl rfl ?_;refine evd [14,15] [] ?_;refine ab 3021 tz56 ?_;refine so ty56 ?_;refine evd [14,15] [] ?_;refine dr ?_;refine sq ?_ ?_<;>intro h7 h7p h7s;try simp only[Q,Pat.cs_len] at h7p
 refine rn0 (r1 rfl) (.gld ?_);rotate_left;try simp only[Q,Pat.cs_len] at h7p
 refine si [0] [_] sl45 tz56 ?_;refine ap sl45 zz56 rfl rfl rfl (by intro x hx;(simp at hx;subst hx;rfl)) (by(have h9:=hT s.1 s.2.1 s.2.2 (by omega) hg2.2.2;have h8:=congrArg List.length hg3;simp at h8 ⊢;omega)) ?_;refine asg ?_;refine tv ?_;refine ar ?_ (by(constructor<;>omega));refine Exists.intro ((s.1+1,s.2.1++(zat w n (nth (zab w ⟨ta,tk⟩ a.ctor) s.1) (nth a.kids s.1) (nth b.kids s.1)).map (fun z=>zby a.ctor (s.2.2++[z]++a.kids.drop (s.1+1))),s.2.2++[zcS 11 (nth a.kids s.1) (nth b.kids s.1)])) ⟨⟨by dsimp only;omega,by dsimp only;rw[xaa,hg2.2.1];rfl,by dsimp only;rw[List.append_assoc,←zls (by omega) (by omega) (by omega) (by assumption)];exact hg2.2.2⟩,(by dsimp only;omega),sx ⟨⟨_,rfl,xap ?_⟩,⟨⟨_,rfl,LeA.glg ?_⟩,⟨⟨_,rfl,LeA.glg ?_⟩,trivial⟩⟩⟩ ⟨zaa ?_,⟨zaa ?_,trivial⟩⟩⟩;iterate 5 focus ((simp_all;done))
 try simp only[Q,Pat.cs_len] at h5p
 refine rn0 (r1 rfl) (.gld ?_);rotate_left;all_goals (first|(rw[←hg2.2.2,zm3 (by omega),List.append_nil,xas];done)|(rw[List.append_nil] at hg3;rw[←hg2.2.2,zlr (by omega) (by omega) (by omega) (by assumption),←hg3,xas];all_goals rfl))
theorem zqF (hs:Spa w){n:Nat}{ta tk:Int}{a b:Pat} (ht:InS (w.length*4) ⟨ta,tk⟩) (h1:a.op=1) (h4b:b.op=4) (hbd:(zat w (n+1) ⟨ta,tk⟩ a b).length≤20000000)
  (hC:∀c∈zam w ⟨ta,tk⟩,MinusFn w f (n+1) ta tk (zbZ w ⟨ta,tk⟩ c) b):MinusFn w f (n+1) ta tk a b:=by
 have e:zat w (n+1) ⟨ta,tk⟩ a b=(zam w ⟨ta,tk⟩).flatMap fun c=>zat w (n+1) ⟨ta,tk⟩ (zbZ w ⟨ta,tk⟩ c) b:=by
  rw[zho h4b h1];exact congrArg (fun g=>(zam w ⟨ta,tk⟩).flatMap g) (funext fun c=>(zd7 h4b rfl).symm)
 unfold MinusFn;rw[e] at hbd ⊢;have hcl:=(hs.ctors _ ht).1;have hpre:∀ {pre rest:List Int}{y:Int},pre++y::rest=zam w ⟨ta,tk⟩→(pre.flatMap fun c=>zat w (n+1) ⟨ta,tk⟩ (zbZ w ⟨ta,tk⟩ c) b).length+(zat w (n+1) ⟨ta,tk⟩ (zbZ w ⟨ta,tk⟩ y) b).length≤20000000:=fun h=>by
  rw[←h,List.flatMap_append,List.flatMap_cons] at hbd;simp only[xaa] at hbd;omega
 have hmem:∀ {pre rest:List Int}{y:Int},pre++y::rest=zam w ⟨ta,tk⟩→y∈zam w ⟨ta,tk⟩:=fun h=>by rw[←h];simp
 refine bd Tryz.f116 159 [11] [] fun w0 F0 own kept hk=>?_;refine bx 3005 ?_;refine bx 3006 ?_;refine bx 3007 ?_;refine evs [11] [] ?_;refine sq ?_ ?_<;>intro h1 h1p h1s;try simp only[Q,Pat.cs_len] at h1p
 exfalso;omega;try simp only[Q,Pat.cs_len] at h1p
 refine sq ?_ ?_<;>intro h2 h2p h2s;try simp only[Q,Pat.cs_len] at h2p
 exfalso;omega;try simp only[Q,Pat.cs_len] at h2p
 refine sq ?_ ?_<;>intro h3 h3p h3s;try simp only[Q,Pat.cs_len] at h3p
 refine xaD 9 6 .none rfl rfl ?_;refine tv ?_;refine wc zfn (zeJ hs.dp.wt (zb1 ht)) rfl rfl ?_;refine evd [11] [] ?_;refine dr ?_;refine xaj (ι:=List (Int)×List (Int)) hk (fun x=>[(61,.d (.i (x.1.length:Int))),(11,.gl 9 (Pat.cs (x.1.flatMap fun c=>zat w (n+1) ⟨ta,tk⟩ (zbZ w ⟨ta,tk⟩ c) b)))]) [13,62,63,64,65,66,67,68,69,70,71,72,73,74,75] (fun x=>[(9,some (.tok ((Pat.cs (x.1.flatMap fun c=>zat w (n+1) ⟨ta,tk⟩ (zbZ w ⟨ta,tk⟩ c) b))).length 6))]) (fun x=>x.1++x.2=zam w ⟨ta,tk⟩) (fun x=>x.2.length) ([],zam w ⟨ta,tk⟩) (by simp) ⟨⟨_,rfl,xap ?_⟩,⟨⟨_,rfl,LeA.glg ?_⟩,trivial⟩⟩ ⟨zaa ?_,trivial⟩ (fun x=>rfl) (fun x hg1=>?_);iterate 3 focus (rfl)
 obtain⟨pre,rest⟩:=x;dsimp only at hg1 ⊢;refine evc [11] [] ?_;refine sq ?_ ?_<;>intro h4 h4p h4s;try simp only[Q,Pat.cs_len] at h4p
 rcases rest with _|⟨y,rest⟩
 ·exfalso;simp_all
 refine xaV zaW .none rfl rfl rfl rfl (zaE hg1) rfl ?_;refine evs [11] [] ?_;refine wc zxc (zpB hs.dp.wt (f:=f) (zb1 ht) (hmem hg1) (hs.args _ _ ht (hmem hg1))) rfl rfl ?_;refine evd [11] [] ?_;refine wc zp3 (hC y (hmem hg1)) rfl rfl ?_;refine ap sl45 zz56 rfl rfl rfl (by exact zch _) (by have h9:=hpre hg1;simp only[Pat.cs_len];omega) ?_;refine asg ?_;refine dr ?_;refine ar ?_;refine Exists.intro ((pre++[y],rest)) ⟨(by have hz:=hg1;rw[←hz];simp),(by simp),sx ⟨⟨_,rfl,xap ?_⟩,⟨⟨_,rfl,LeA.glg ?_⟩,trivial⟩⟩ ⟨zaa ?_,trivial⟩⟩;iterate 3 focus (first|(rw[List.flatMap_append,xas,xas,xas,xaf];simp;done)|(simp[Pat.cs_len];done))
 try simp only[Q,Pat.cs_len] at h4p
 have hrest:rest=[]:=by
  rcases rest with _|⟨a,b⟩
  ·rfl
  ·exfalso;have hz:=congrArg List.length (hg1);simp only[xaa,xab,xac] at hz;omega
 subst hrest;refine rn0 (r1 rfl) (.gld ?_);rotate_left;try simp only[Q,Pat.cs_len] at h3p
 exfalso;omega;all_goals ((rw[List.append_nil] at hg1;rw[hg1];done))
theorem zjx (hs:Spa w):∀(n m:Nat){ta tk:Int}{a b:Pat},n<m→n≤10→m≤11→InS (w.length*4) ⟨ta,tk⟩→zai w m ⟨ta,tk⟩ a=true→zai w n ⟨ta,tk⟩ b=true→MinusFn w f n ta tk a b
 |0,m,ta,tk,a,b,_,_,_,_,_,hb=>by simp[zai] at hb
 |n+1,0,ta,tk,a,b,h,_,_,_,_,_=>by omega
 |n+1,m+1,ta,tk,a,b,h,hn,hm,ht,ha,hb=>by
  have hC:∀ {a:Pat},zai w (m+1) ⟨ta,tk⟩ a=true→a.op=4→b.op=4→MinusFn w f (n+1) ta tk a b:=fun {a} ha h4 h4b=>by
   by_cases hc:a.ctor=b.ctor
   ·exact zqG hs hn hm (by omega) (fun h1 h2 h3=>zjx hs n m (by omega) (by omega) (by omega) h1 h2 h3) ht ha hb h4 h4b hc
   ·exact zqH h4 h4b hc
  rcases zbw hb with h1|h3|h4b
  ·exact zqD h1
  ·have:=zb3 hb h3;exact zqE h3 ⟨by omega,by omega⟩ ⟨by omega,by omega⟩
  ·by_cases h1:a.op=1
   ·obtain⟨m',rfl⟩:∃m',m=m'+1:=⟨m-1,by omega⟩;exact zqF hs ht h1 h4b (zf0 hs h hn ht ha hb) (fun c hc=>hC (zcY hc) rfl h4b)
   ·exact hC ha (by have:=zdh ha hb h1 (by omega);omega) h4b
end
abbrev zhZ (o:List Pat):List D:=[.sl (Pat.cs o)]
abbrev zi3 (ls:List (List Pat)):D:= .sl (ls.map zhZ)
theorem zs2 {N:Nat} (acc:List (List Pat)) (l:List Pat):(zbb (acc.take N) l).take N=(zbb acc l).take N:=by
 by_cases h:acc.length≤N
 ·rw[List.take_of_length_le h]
 have e0:∀a:List (List Pat),zbb a []=[]:=fun a=>by unfold zbb;simp
 cases l with
 |nil=>rw[e0,e0]
 |cons c r=>
  have e:zbb acc (c::r)=zbb (acc.take N) (c::r)++zbb (acc.drop N) (c::r):=by
   unfold zbb;rw[←List.flatMap_append,List.take_append_drop]
  rw[e,zeA];rw[zgD,List.length_take,Nat.min_eq_left (by omega),xab];exact Nat.le_mul_of_pos_right _ (by omega)
theorem zs3 {N:Nat} (acc:List (List Pat)) (l:List Pat):(zbb acc (l.take N)).take N=(zbb acc l).take N:=by
 by_cases h:l.length≤N
 ·rw[List.take_of_length_le h]
 cases acc with
 |nil=>rfl
 |cons q r=>
  have e:∀l:List Pat,zbb (q::r) l=l.map (fun c=>q++[c])++zbb r l:=fun l=>by unfold zbb;rw[List.flatMap_cons]
  rw[e,e,zeA (by rw[xac,List.length_take];omega),zeA (by rw[xac];omega),List.map_take,List.take_take,Nat.min_self]
def tupQ (m:Nat) (ls:List (List Pat)):List (List Pat):=ls.foldl (fun acc l=>(zbb acc l).take (m+1)) [[]]
theorem zkJ (m:Nat) (ls:List (List Pat)) (l:List Pat):tupQ m (ls++[l])=(zbb (tupQ m ls) l).take (m+1):=by
 unfold tupQ;rw[List.foldl_append];rfl
theorem zrk (m:Nat):∀(ls:List (List Pat)) (acc:List (List Pat)),(ls.map (List.take (m+1))).foldl (fun acc l=>(zbb acc l).take (m+1)) (acc.take (m+1))=(ls.foldl zbb acc).take (m+1)
 | [],acc=>rfl
 |l::r,acc=>by
  rw[xae,List.foldl_cons,List.foldl_cons,zs3,zs2];exact zrk m r (zbb acc l)
theorem zwD (m:Nat) (ls:List (List Pat)):tupQ m (ls.map (List.take (m+1)))=(zeM ls).take (m+1):=by
 have h:=zrk m ls [[]];have e:([[]]:List (List Pat)).take (m+1)=[[]]:=by simp
 rw[e] at h;exact h
theorem zri (m:Nat) (ls:List (List Pat)):(tupQ m ls).length≤m+1:=by
 have key:∀(ls acc:List (List Pat)),acc.length≤m+1→(ls.foldl (fun acc l=>(zbb acc l).take (m+1)) acc).length≤m+1:=by
  intro ls;induction ls with
  |nil=>intro acc h;exact h
  |cons l r ih=>intro acc h;exact ih _ (by rw[List.length_take];omega)
 exact key ls [[]] (by simp)
theorem zrj (m:Nat){ls:List (List Pat)}{o:List Pat} (h:o∈tupQ m ls):o.length=ls.length:=by
 have key:∀(ls acc:List (List Pat)) (n:Nat),(∀o∈acc,o.length=n)→∀o∈ls.foldl (fun acc l=>(zbb acc l).take (m+1)) acc,o.length=n+ls.length:=by
  intro ls;induction ls with
  |nil=>intro acc n h o ho;exact h o ho
  |cons l r ih=>
   intro acc n h o ho;have:=ih _ (n+1) (fun o' ho'=>by
    have ho':=List.mem_of_mem_take ho';unfold zbb at ho';simp only[List.mem_flatMap,List.mem_map] at ho';obtain⟨p,hp,q,_,rfl⟩:=ho';simp[h p hp]) o ho
   simp only[xab];omega
 have:=key ls [[]] 0 (by simp) o h;simpa using this
def zk3 (l:List Pat) (o:List Pat):List (List Pat):=l.map fun y=>o++[y]
theorem zoA (acc:List (List Pat)) (l:List Pat):zbb acc l=acc.flatMap (zk3 l):=rfl
theorem zrg {X:List (List Pat)}{l:List Pat}{o:List Pat}{j m:Nat} (hc:¬j<l.length∨¬((X++(l.take j).map fun y=>o++[y]).take (m+1)).length≤m):
  (X++(l.take j).map fun y=>o++[y]).take (m+1)=(X++zk3 l o).take (m+1):=zwB hc
theorem zvt {α:Type}{N:Nat} (a b:List α):(a.take N++b.take N).take N=(a++b).take N:=by
 by_cases h:a.length≤N
 ·rw[List.take_of_length_le h,List.take_append,List.take_append,List.take_take,Nat.min_eq_left (by omega)]
 ·rw[zeA (by rw[List.length_take];omega),zeA (by omega),List.take_take,Nat.min_self]
def za3 (p:Pat):List Pat:=(zaB p).take 401
theorem zvo {p:Pat} (h:p.op=5) (hk:p.kids.length=2):za3 p=(za3 (nth p.kids 0)++za3 (nth p.kids 1)).take 401:=by
 unfold za3;rw[zga h hk,zvt]
theorem zvp {p:Pat} (h:p.op≠5):za3 p=(tupQ 400 (p.kids.map za3)).map fun l=> .mk p.op p.ctor p.n p.m p.var l:=by
 unfold za3;rw[zdX h,←List.map_take];congr 1
 have:=zwD 400 (p.kids.map zaB);rw[List.map_map] at this;exact this.symm
theorem zha (p:Pat):(za3 p).length≤401:=by unfold za3;rw[List.length_take];omega
theorem zdc:∀(n:Nat){p:Pat},p.size≤n→p.ok→FnD Tryz.prog 249 [.agg [.d (.i p.op),.d (.i p.ctor),.d (.i p.n),.d (.i p.m),.d (.i p.var),.d (zae p.kids)]] [] (.agg [.d (.i (zaF p).op),.d (.i (zaF p).ctor),.d (.i (zaF p).n),.d (.i (zaF p).m),.d (.i (zaF p).var),.d (zae (zaF p).kids)]) []
 |0,p,h,_=>by rw[Pat.size_eq] at h;omega
 |n+1,p,h,hok=>by
  rw[Pat.size_eq] at h;rw[Pat.ok_iff] at hok;have hok1:=hok.1;by_cases h2:p.op=2
  ·rw[zrM h2];refine bd Tryz.f249 42 [] [] fun w0 F0 own kept hk=>?_;refine bx 3001 ?_;refine ab 3002 tz56 ?_;refine tv ?_;refine sq ?_ ?_<;>intro h1 h1p h1s;try simp only[Q] at h1p
   refine bu [0] [_] st56 ?_;refine so ty56 ?_;refine tv ?_;refine rn0 (.cons (.cellA ty56 rfl rfl rfl) .nil) (.agg (.cons (.eqd ?_) (.cons (.eqd ?_) (.cons (.eqd ?_) (.cons (.eqd ?_) (.cons (.eqd ?_) (.cons (.nild ?_) .nil)))))));rotate_left 6;try simp only[Q] at h1p
   exfalso;omega;all_goals (rfl)
  by_cases h6:p.op=6∧0<p.kids.length
  ·rw[zrN h6.1 h6.2];refine bd Tryz.f249 42 [] [] fun w0 F0 own kept hk=>?_;refine bx 3001 ?_;refine ab 3002 tz56 ?_;refine tv ?_;refine sq ?_ ?_<;>intro h1 h1p h1s;try simp only[Q,Pat.cs_len] at h1p
   exfalso;omega;try simp only[Q,Pat.cs_len] at h1p
   refine sq ?_ ?_<;>intro h2 h2p h2s;try simp only[Q,Pat.cs_len] at h2p
   refine sq ?_ ?_<;>intro h3 h3p h3s;try simp only[Q,Pat.cs_len] at h3p
   refine xaV (i:=0) sl45 .none rfl rfl rfl rfl (zaC h6.2) rfl ?_;refine ev ?_;refine wc zmm (zdc n (p:=nth p.kids 0) (by have:=Pats.size_mem (zaf h6.2);omega) (Pats.ok_mem hok.2 _ (zaf h6.2))) rfl rfl ?_;refine so ty56 ?_;refine tv ?_;refine rn0 (.cons (.cellA ty56 rfl rfl rfl) .nil) (.agg (.cons (.eqd ?_) (.cons (.eqd ?_) (.cons (.eqd ?_) (.cons (.eqd ?_) (.cons (.eqd ?_) (.cons (.eqd ?_) .nil)))))));rotate_left 6;try simp only[Q,Pat.cs_len] at h3p
   exfalso;omega;try simp only[Q,Pat.cs_len] at h2p
   exfalso;omega;all_goals (rfl)
  ·rw[zrO h2 h6];refine bd Tryz.f249 42 [] [] fun w0 F0 own kept hk=>?_;refine bx 3001 ?_;refine ab 3002 tz56 ?_;refine tv ?_;refine sq ?_ ?_<;>intro h1 h1p h1s;try simp only[Q,Pat.cs_len] at h1p
   exfalso;omega;try simp only[Q,Pat.cs_len] at h1p
   refine sq ?_ ?_<;>intro h2 h2p h2s;try simp only[Q,Pat.cs_len] at h2p
   refine sq ?_ ?_<;>intro h3 h3p h3s;try simp only[Q,Pat.cs_len] at h3p
   exfalso;apply h6;exact⟨by omega,by omega⟩;try simp only[Q,Pat.cs_len] at h3p
   refine ab 3003 tz56 ?_;refine so ty56 ?_;refine tv ?_;refine so ty45 ?_;refine tv ?_;refine xam 3003 5 7 6 rfl rfl rfl rfl ?_;refine xaj (ι:=List (Pat)×List (Pat)) hk (fun x=>[(4,.d (.i (x.1.length:Int)))]) [23,24,25,26,27,28,29,30,31,32,33,34,35,36,37,38,39,40] (fun x=>[(3003,some (.box [.d (.i p.op),.d (.i p.ctor),.d (.i p.n),.d (.i p.m),.d (.i p.var),.gl 7 ((x.1.map zaF).map Pat.cc)])),(7,some (.tok ((x.1.map zaF).map Pat.cc).length 6))]) (fun x=>x.1++x.2=p.kids) (fun x=>x.2.length) ([],p.kids) (by simp) ⟨⟨_,rfl,xap ?_⟩,trivial⟩ ⟨?_,⟨zaa ?_,trivial⟩⟩ (fun x=>rfl) (fun x hg1=>?_);focus ((simp;done))
   focus (first|rfl|(simp[getH];done))
   focus ((simp;done))
   obtain⟨pre,rest⟩:=x;dsimp only at hg1 ⊢;refine evc [] [] ?_;refine sq ?_ ?_<;>intro h4 h4p h4s;try simp only[Q,Pat.cs_len] at h4p
   rcases rest with _|⟨y,rest⟩
   ·exfalso;simp_all
   refine xaV sl45 .none rfl rfl rfl rfl (Pat.cs_at' hg1) rfl ?_;refine evd [] [] ?_;refine wc zmm (zdc n (p:=y) (by have:=Pats.size_mem (l:=p.kids) (v:=y) (by rw[←hg1];simp);omega) (Pats.ok_mem hok.2 y (by rw[←hg1];simp))) rfl rfl ?_;refine si [0] [_] sl45 tz56 ?_;refine ap sl45 zz56 rfl rfl rfl (by intro x hx;first|(simp at hx;subst hx;rfl)|exact zhq _ x hx) (by have:=congrArg List.length hg1;simp at this;simp;omega) ?_;refine evd [] [] ?_;refine so ty45 ?_;refine dr ?_;refine ar ?_;refine Exists.intro ((pre++[y],rest)) ⟨(by have hz:=hg1;rw[←hz];simp),(by simp),sx ⟨⟨_,rfl,xap ?_⟩,trivial⟩ ⟨?_,⟨zaa ?_,trivial⟩⟩⟩;focus ((simp;done))
   focus (first|rfl|(simp[getH];done))
   focus ((simp;done))
   try simp only[Q,Pat.cs_len] at h4p
   have hrest:rest=[]:=by
    rcases rest with _|⟨a,b⟩
    ·rfl
    ·exfalso;have hz:=congrArg List.length (hg1);simp only[xaa,xab,xac] at hz;omega
   subst hrest;refine so ty56 ?_;refine tv ?_;refine rn0 (.cons (.cellA ty56 rfl rfl rfl) .nil) (.agg (.cons (.eqd ?_) (.cons (.eqd ?_) (.cons (.eqd ?_) (.cons (.eqd ?_) (.cons (.eqd ?_) (.cons (.gld ?_) .nil)))))));rotate_left 6;try simp only[Q,Pat.cs_len] at h2p
   refine ab 3003 tz56 ?_;refine so ty56 ?_;refine tv ?_;refine so ty45 ?_;refine tv ?_;refine xam 3003 5 7 6 rfl rfl rfl rfl ?_;refine xaj (ι:=List (Pat)×List (Pat)) hk (fun x=>[(4,.d (.i (x.1.length:Int)))]) [23,24,25,26,27,28,29,30,31,32,33,34,35,36,37,38,39,40] (fun x=>[(3003,some (.box [.d (.i p.op),.d (.i p.ctor),.d (.i p.n),.d (.i p.m),.d (.i p.var),.gl 7 ((x.1.map zaF).map Pat.cc)])),(7,some (.tok ((x.1.map zaF).map Pat.cc).length 6))]) (fun x=>x.1++x.2=p.kids) (fun x=>x.2.length) ([],p.kids) (by simp) ⟨⟨_,rfl,xap ?_⟩,trivial⟩ ⟨?_,⟨zaa ?_,trivial⟩⟩ (fun x=>rfl) (fun x hg1=>?_);focus ((simp;done))
   focus (first|rfl|(simp[getH];done))
   focus ((simp;done))
   obtain⟨pre,rest⟩:=x;dsimp only at hg1 ⊢;refine evc [] [] ?_;refine sq ?_ ?_<;>intro h5 h5p h5s;try simp only[Q,Pat.cs_len] at h5p
   rcases rest with _|⟨y,rest⟩
   ·exfalso;simp_all
   refine xaV sl45 .none rfl rfl rfl rfl (Pat.cs_at' hg1) rfl ?_;refine evd [] [] ?_;refine wc zmm (zdc n (p:=y) (by have:=Pats.size_mem (l:=p.kids) (v:=y) (by rw[←hg1];simp);omega) (Pats.ok_mem hok.2 y (by rw[←hg1];simp))) rfl rfl ?_;refine si [0] [_] sl45 tz56 ?_;refine ap sl45 zz56 rfl rfl rfl (by intro x hx;first|(simp at hx;subst hx;rfl)|exact zhq _ x hx) (by have:=congrArg List.length hg1;simp at this;simp;omega) ?_;refine evd [] [] ?_;refine so ty45 ?_;refine dr ?_;refine ar ?_;refine Exists.intro ((pre++[y],rest)) ⟨(by have hz:=hg1;rw[←hz];simp),(by simp),sx ⟨⟨_,rfl,xap ?_⟩,trivial⟩ ⟨?_,⟨zaa ?_,trivial⟩⟩⟩;focus ((simp;done))
   focus (first|rfl|(simp[getH];done))
   focus ((simp;done))
   try simp only[Q,Pat.cs_len] at h5p
   have hrest:rest=[]:=by
    rcases rest with _|⟨a,b⟩
    ·rfl
    ·exfalso;have hz:=congrArg List.length (hg1);simp only[xaa,xab,xac] at hz;omega
   subst hrest;refine so ty56 ?_;refine tv ?_;refine rn0 (.cons (.cellA ty56 rfl rfl rfl) .nil) (.agg (.cons (.eqd ?_) (.cons (.eqd ?_) (.cons (.eqd ?_) (.cons (.eqd ?_) (.cons (.eqd ?_) (.cons (.gld ?_) .nil)))))));rotate_left 6;all_goals (first|rfl|(rw[List.append_nil] at hg1;rw[←hg1,xas];done)|(rw[List.append_nil] at hg1;subst hg1;rw[←xas];all_goals rfl))
theorem zl1 {ls:List (List Pat)} (hl:ls.length≤1000000000000) (hls:∀l∈ls,l.length≤1000000000000):FnD Tryz.prog 292 [.d (zi3 ls)] [] (.d (zi3 (tupQ 400 ls))) []:=by
 refine bd Tryz.f292 62 [] [] fun w0 F0 own kept hk=>?_;refine xbi sl45 .none rfl ?_;refine si [0] [_] zef tz45 ?_;refine ev ?_;refine xaj (ι:=List (List Pat)×List (List Pat)) hk (fun x=>[(4,.d (.i (x.1.length:Int))),(3,.d (.sl ((tupQ 400 x.1).map zhZ)))]) [5,6,7,10,11,12,13,14,15,16,17,18,19,20,21,22,23,24,25,26,27,28,29,30,31,32,33,34,35,36,37,38,39,40,41,42,43,44,45,46,47,48,49,50,51,52,53,54,55,56,57,58,59,60] (fun x=>[]) (fun x=>x.1++x.2=ls) (fun x=>x.2.length) ([],ls) (by simp) ⟨⟨_,rfl,xap ?_⟩,⟨⟨_,rfl, ?_⟩,trivial⟩⟩ trivial (fun x=>rfl) (fun x hg1=>?_);focus (first|rfl|(simp;done))
 focus (first|exact LeA.refl _|((first|refine LeA.gld ?_|refine LeA.nild ?_);first|rfl|(simp;done)|(rw[zkJ,zoA,zn2 (by omega)])))
 obtain⟨pre,rest⟩:=x;dsimp only at hg1 ⊢;refine evc [] [] ?_;refine sq ?_ ?_<;>intro h1 h1p h1s;try simp only[Q,Pat.cs_len,Int.ofNat_lt,Int.ofNat_le] at h1p
 rcases rest with _|⟨l,rest⟩
 ·exfalso;simp_all
 have hll:=hls l (by rw[←hg1];simp);have htl:=zri 400 pre;refine xbj 3 zef .none rfl rfl ?_;refine ev ?_;refine xaj (ι:=Nat) hk (fun k=>[(6,.d (.i (k:Int))),(5,.gl 3 (((((tupQ 400 pre).take k).flatMap (zk3 l)).take (400+1)).map zhZ))]) [7,17,18,19,20,21,22,23,24,25,26,27,28,29,30,31,32,33,34,35,36,37,38,39,40,41,42,43,44,45,46,47,48,49,50,51,52,53,54,55,56,57,58,59] (fun k=>[(3,some (.tok ((((((tupQ 400 pre).take k).flatMap (zk3 l)).take (400+1)).map zhZ)).length 1))]) (fun k=>k≤(tupQ 400 pre).length) (fun k=>(tupQ 400 pre).length-k) 0 (by simp) ⟨⟨_,rfl,xap ?_⟩,⟨⟨_,rfl,LeA.glg ?_⟩,trivial⟩⟩ ⟨zaa ?_,trivial⟩ (fun x=>rfl) (fun k hg2=>?_);iterate 3 focus (first|rfl|(simp;done))
 refine evc [] [] ?_;refine sq ?_ ?_<;>intro h2 h2p h2s;try simp only[Q,Pat.cs_len,Int.ofNat_lt,Int.ofNat_le] at h2p
 refine sq ?_ ?_<;>intro h3 h3p h3s;try simp only[Q,Pat.cs_len,Int.ofNat_lt,Int.ofNat_le] at h3p
 refine xaj (ι:=Nat) hk (fun j=>[(7,.d (.i (j:Int))),(5,.gl 3 (((((tupQ 400 pre).take k).flatMap (zk3 l)++(l.take j).map (fun y=>nth (tupQ 400 pre) k++[y])).take (400+1)).map zhZ))]) [28,29,30,31,32,33,34,35,36,37,38,39,40,41,42,43,44,45,46,47,48,49,50,51,52,53,54,55,56,57,58,59] (fun j=>[(3,some (.tok ((((((tupQ 400 pre).take k).flatMap (zk3 l)++(l.take j).map (fun y=>nth (tupQ 400 pre) k++[y])).take (400+1)).map zhZ)).length 1))]) (fun j=>j≤l.length) (fun j=>l.length-j) 0 (by simp) ⟨⟨_,rfl,xap ?_⟩,⟨⟨_,rfl,LeA.glg ?_⟩,trivial⟩⟩ ⟨zaa ?_,trivial⟩ (fun x=>rfl) (fun j hg3=>?_);iterate 3 focus (first|rfl|(simp;done))
 have hol:=zrj 400 (zaf (l:=tupQ 400 pre) (i:=k) (by omega));refine evc [] [] ?_;refine xaV zef .none rfl rfl rfl rfl (by first|exact zaE hg1|exact zas (by omega)) rfl ?_;refine ev ?_;refine sq ?_ ?_<;>intro h4 h4p h4s;try simp only[Q,Pat.cs_len,Int.ofNat_lt,Int.ofNat_le] at h4p
 refine sq ?_ ?_<;>intro h5 h5p h5s;try simp only[Q,Pat.cs_len,Int.ofNat_lt,Int.ofNat_le] at h5p
 refine xbj 5 sl45 .none rfl rfl ?_;refine evd [] [] ?_;refine xaV zef .none rfl rfl rfl rfl (by first|exact zaE hg1|exact zas (by omega)) rfl ?_;refine evd [] [] ?_;refine ap sl45 zz56 rfl rfl rfl (by intro z hz;first|(rw[xas] at hz;obtain⟨_,_,rfl⟩:=List.mem_map.1 hz;rfl)|(simp at hz;rw[hz];rfl)) (by first|(simp only[xac,xaa,xab,xah,Pat.cs_len] at *;omega)) ?_;refine evd [] [] ?_;refine xaV zef .none rfl rfl rfl rfl (by first|exact zaE hg1|exact zas (by omega)) rfl ?_;refine evd [] [] ?_;refine xaV sl45 .none rfl rfl rfl rfl (zaC (by omega)) rfl ?_;refine evd [] [] ?_;refine si [0] [_] sl45 tz56 ?_;refine ap sl45 zz56 rfl rfl rfl (by intro z hz;first|(rw[xas] at hz;obtain⟨_,_,rfl⟩:=List.mem_map.1 hz;rfl)|(simp at hz;rw[hz];rfl)) (by first|(simp only[xac,xaa,xab,xah,Pat.cs_len] at *;omega)) ?_;refine si [0] [_] zef tz45 ?_;refine ap zef zz45 rfl rfl rfl (by intro z hz;first|(rw[xas] at hz;obtain⟨_,_,rfl⟩:=List.mem_map.1 hz;rfl)|(simp at hz;rw[hz];rfl)) (by first|(simp only[xac,xaa,xab,xah,Pat.cs_len] at *;omega)) ?_;refine evd [] [] ?_;refine dr ?_;refine ar ?_;refine Exists.intro (j+1) ⟨?_, ?_,sx ⟨⟨_,rfl,xap ?_⟩,⟨⟨_,rfl,LeA.glg ?_⟩,trivial⟩⟩ ⟨zaa ?_,trivial⟩⟩;iterate 2 focus (first|omega|(simp_all;done))
 iterate 3 focus (first|rfl|(simp;done)|(rw[zwC (by omega) (by omega),xaf];simp[xas];done))
 try simp only[Q,Pat.cs_len,Int.ofNat_lt,Int.ofNat_le] at h5p
 refine ar ?_;refine Exists.intro (k+1) ⟨?_, ?_,sx ⟨⟨_,rfl,xap ?_⟩,⟨⟨_,rfl,LeA.glg ?_⟩,trivial⟩⟩ ⟨zaa ?_,trivial⟩⟩;iterate 2 focus (first|omega|(simp_all;done))
 iterate 3 focus (first|rfl|(simp;done)|(rw[zr5 (by omega),zrg (by omega)]))
 try simp only[Q,Pat.cs_len,Int.ofNat_lt,Int.ofNat_le] at h4p
 refine sqF ?_;refine ar ?_;refine Exists.intro (k+1) ⟨?_, ?_,sx ⟨⟨_,rfl,xap ?_⟩,⟨⟨_,rfl,LeA.glg ?_⟩,trivial⟩⟩ ⟨zaa ?_,trivial⟩⟩;iterate 2 focus (first|omega|(simp_all;done))
 iterate 3 focus (first|rfl|(simp;done)|(rw[zr5 (by omega),zrg (by omega)]))
 try simp only[Q,Pat.cs_len,Int.ofNat_lt,Int.ofNat_le] at h3p
 refine ar ?_;refine Exists.intro ((pre++[l],rest)) ⟨(by have hz:=hg1;rw[←hz];simp),(by simp),sx ⟨⟨_,rfl,xap ?_⟩,⟨⟨_,rfl, ?_⟩,trivial⟩⟩ trivial⟩;focus (first|rfl|(simp;done))
 focus (first|exact LeA.refl _|((first|refine LeA.gld ?_|refine LeA.nild ?_);first|rfl|(simp;done)|(rw[zkJ,zoA,zn2 (by omega)])))
 try simp only[Q,Pat.cs_len,Int.ofNat_lt,Int.ofNat_le] at h2p
 refine sqF ?_;refine ar ?_;refine Exists.intro ((pre++[l],rest)) ⟨(by have hz:=hg1;rw[←hz];simp),(by simp),sx ⟨⟨_,rfl,xap ?_⟩,⟨⟨_,rfl, ?_⟩,trivial⟩⟩ trivial⟩;focus (first|rfl|(simp;done))
 focus (first|exact LeA.refl _|((first|refine LeA.gld ?_|refine LeA.nild ?_);first|rfl|(simp;done)|(rw[zkJ,zoA,zn2 (by omega)])))
 try simp only[Q,Pat.cs_len,Int.ofNat_lt,Int.ofNat_le] at h1p
 have hrest:rest=[]:=by
  rcases rest with _|⟨a,b⟩
  ·rfl
  ·exfalso;have hz:=congrArg List.length (hg1);simp only[xaa,xab,xac] at hz;omega
 subst hrest;refine rn0 (r1 rfl) (.eqd ?_);rotate_left;all_goals ((rw[List.append_nil] at hg1);subst hg1;rfl)
theorem zei:∀(n:Nat){p:Pat},binP n p=true→p.ok→FnD Tryz.prog 248 [.agg [.d (.i p.op),.d (.i p.ctor),.d (.i p.n),.d (.i p.m),.d (.i p.var),.d (zae p.kids)]] [] (.gv 9 (Pat.cs (za3 p))) [(9,some (.tok (Pat.cs (za3 p)).length 6))]
 |0,p,h,_=>by simp[binP] at h
 |n+1,p,h,hok=>by
  have hok':=(Pat.ok_iff p).1 hok;have hok1:=hok'.1;by_cases h5:p.op=5
  ·have hl:=zkP h h5;have e5:=zvo h5 hl;have l0:=zha (nth p.kids 0);have l1:=zha (nth p.kids 1);have c0:=zei n (zeF h (i:=0) (by omega)) (Pats.ok_mem hok'.2 _ (zaf (by omega)));have c1:=FnD.gvD (zei n (zeF h (i:=1) (by omega)) (Pats.ok_mem hok'.2 _ (zaf (by omega))));rw[e5];generalize za3 (nth p.kids 0)=A at *;generalize za3 (nth p.kids 1)=C at *;by_cases hlen:(A++C).length≤401
   ·rw[List.take_of_length_le hlen];rw[xaa] at hlen;refine bd Tryz.f248 67 [25] [] fun w0 F0 own kept hk=>?_;refine bx 3001 ?_;refine evs [25] [] ?_;refine sq ?_ ?_<;>intro h1 h1p h1s;try simp only[Q,Pat.cs_len,xaa] at h1p
    refine xaV (i:=0) sl45 .none rfl rfl rfl rfl (zaC (by omega)) rfl ?_;refine evd [25] [] ?_;refine Walk.call (cr:=[9]) ziw (c0) rfl .none rfl rfl (LeL.refl _) trivial rfl rfl rfl ?_;refine evd [25] [] ?_;refine xaV (i:=1) sl45 .none rfl rfl rfl rfl (zaC (by omega)) rfl ?_;refine evd [25] [] ?_;refine wc ziw (c1) rfl rfl ?_;refine xaC sl45 zz56 .none rfl rfl rfl rfl (zdk rfl (by(simp;done))) (by intro x hx;exact zch _ x hx) (by simp[Pat.cs_len];omega) (by simp[Pat.cs_len];omega) ?_;refine evd [25] [] ?_;refine dr ?_;refine Walk.lenV sl45 .none rfl rfl ?_;refine evs [25] [] ?_;refine sq ?_ ?_<;>intro h2 h2p h2s;try simp only[Q,Pat.cs_len,xaa] at h2p
    exfalso;omega;try simp only[Q,Pat.cs_len,xaa] at h2p
    refine rn [(9,some (.tok (Pat.cs (A++C)).length 6))] (r1 rfl) (.gvg ?_) ⟨rfl,rfl⟩ (SubH.get ⟨?_,trivial⟩) (zav rfl);rotate_left 2;try simp only[Q,Pat.cs_len,xaa] at h1p
    exfalso;omega;all_goals (first|((first|rfl|(simp[xas];done));done)|(first|rfl|(simp[xas];rfl)))
   ·have c8:=FnD.gvRen 8 c0;rw[xaa] at hlen;refine bd Tryz.f248 67 [25] [] fun w0 F0 own kept hk=>?_;refine bx 3001 ?_;refine evs [25] [] ?_;refine sq ?_ ?_<;>intro h1 h1p h1s;try simp only[Q,Pat.cs_len,xaa] at h1p
    refine xaV (i:=0) sl45 .none rfl rfl rfl rfl (zaC (by omega)) rfl ?_;refine evd [25] [] ?_;refine Walk.call (cr:=[8]) ziw (c8) rfl .none rfl rfl (LeL.refl _) trivial rfl rfl rfl ?_;refine evd [25] [] ?_;refine xaV (i:=1) sl45 .none rfl rfl rfl rfl (zaC (by omega)) rfl ?_;refine evd [25] [] ?_;refine wc ziw (c1) rfl rfl ?_;refine xaC sl45 zz56 .none rfl rfl rfl rfl (zdk rfl (by(simp;done))) (by intro x hx;exact zch _ x hx) (by simp[Pat.cs_len];omega) (by simp[Pat.cs_len];omega) ?_;refine evd [25] [] ?_;refine dr ?_;refine Walk.lenV sl45 .none rfl rfl ?_;refine evs [25] [] ?_;refine sq ?_ ?_<;>intro h2 h2p h2s;try simp only[Q,Pat.cs_len,xaa] at h2p
    refine xaO 9 (b:=401) sl45 .none rfl rfl (zdk rfl (by(simp;done))) rfl rfl (by simp[Pat.cs_len];omega) (by simp[Pat.cs_len];omega) rfl ?_;refine evs [25] [] ?_;refine rn [(9,some (.tok (Pat.cs ((A++C).take 401)).length 6))] (r1 rfl) (.gvg ?_) ⟨rfl,rfl⟩ (SubH.get ⟨?_,trivial⟩) (zav rfl);rotate_left 2;try simp only[Q,Pat.cs_len,xaa] at h2p
    exfalso;omega;try simp only[Q,Pat.cs_len,xaa] at h1p
    exfalso;omega;all_goals (first|((first|rfl|(simp[xas];done));done)|(first|rfl|(show some (Res.tok _ _)=some (Res.tok _ _);simp[Pat.cs_len];omega)))
  ·have hts:=zri 400 (p.kids.map za3);have htm:=fun(i:Nat) (hi:i<(tupQ 400 (p.kids.map za3)).length)=>zrj 400 (zaf hi);have ht3:=zl1 (ls:=p.kids.map za3) (by rw[xac];omega) (fun l hl=>by obtain⟨x,_,rfl⟩:=List.mem_map.1 hl;have:=zha x;omega);have hcal:=fun(i:Nat) (hi:i<p.kids.length)=>FnD.gvD (zei n (zeF h hi) (Pats.ok_mem hok'.2 _ (zaf hi)));have hpl:=fun(y:Pat) (pre rest:List Pat) (e:pre++y::rest=p.kids)=>(show pre.length<p.kids.length∧nth p.kids pre.length=y from⟨by have:=congrArg List.length e;simp at this;omega,zxY e⟩);have hcal2:=fun(y:Pat) (pre rest:List Pat) (e:pre++y::rest=p.kids)=>show FnD Tryz.prog 248 [.agg [.d (.i y.op),.d (.i y.ctor),.d (.i y.n),.d (.i y.m),.d (.i y.var),.d (zae y.kids)]] [] (.d (.sl (Pat.cs (za3 y)))) [] from by
    have hq:=hcal pre.length (hpl y pre rest e).1;rw[(hpl y pre rest e).2] at hq;exact hq
   have ht3':=fun(pre:List Pat) (e:pre++[]=p.kids)=>show FnD Tryz.prog 292 [.d (zi3 (pre.map za3))] [] (.d (zi3 (tupQ 400 (p.kids.map za3)))) [] from by
    rw[List.append_nil] at e;rw[e];exact ht3
   rw[zvp h5];refine bd Tryz.f248 67 [] [] fun w0 F0 own kept hk=>?_;refine bx 3001 ?_;refine ev ?_;refine sq ?_ ?_<;>intro h1 h1p h1s;try simp only[Q,Pat.cs_len] at h1p
   exfalso;omega;try simp only[Q,Pat.cs_len] at h1p
   refine xbj 4 zef .none rfl rfl ?_;refine ev ?_;refine xaj (ι:=List (Pat)×List (Pat)) hk (fun x=>[(5,.d (.i (x.1.length:Int))),(4,.gl 4 ((x.1.map za3).map zhZ))]) [31,32,33,34,35,36,37,38,39,40,41,42,43,44,45,46] (fun x=>[(4,some (.tok (((x.1.map za3).map zhZ)).length 1))]) (fun x=>x.1++x.2=p.kids) (fun x=>x.2.length) ([],p.kids) (by simp) ⟨⟨_,rfl,xap ?_⟩,⟨⟨_,rfl,LeA.glg ?_⟩,trivial⟩⟩ ⟨zaa ?_,trivial⟩ (fun x=>rfl) (fun x hg1=>?_);iterate 3 focus ((simp;done))
   obtain⟨pre,rest⟩:=x;dsimp only at hg1 ⊢;refine evc [] [] ?_;refine sq ?_ ?_<;>intro h2 h2p h2s;try simp only[Q,Pat.cs_len] at h2p
   rcases rest with _|⟨y,rest⟩
   ·exfalso;simp_all
   refine xaV sl45 .none rfl rfl rfl rfl (Pat.cs_at' hg1) rfl ?_;refine ev ?_;refine wc ziw (hcal2 y pre rest hg1) rfl rfl ?_;refine si [0] [_] zef tz45 ?_;refine ap zef zz45 rfl rfl rfl (by intro x hx;first|(simp at hx;subst hx;rfl)|exact zhq _ x hx) (by first|(have:=congrArg List.length hg1;simp at this;simp;omega)|(simp;omega)) ?_;refine ev ?_;refine ar ?_;refine Exists.intro ((pre++[y],rest)) ⟨(by have hz:=hg1;rw[←hz];simp),(by simp),sx ⟨⟨_,rfl,xap ?_⟩,⟨⟨_,rfl,LeA.glg ?_⟩,trivial⟩⟩ ⟨zaa ?_,trivial⟩⟩;iterate 3 focus ((simp;done))
   try simp only[Q,Pat.cs_len] at h2p
   have hrest:rest=[]:=by
    rcases rest with _|⟨a,b⟩
    ·rfl
    ·exfalso;have hz:=congrArg List.length (hg1);simp only[xaa,xab,xac] at hz;omega
   subst hrest;refine Walk.call (cr:=[]) zxE (ht3' pre hg1) rfl .none rfl rfl (.cons (.gl _ _) .nil) trivial rfl rfl rfl ?_;refine ev ?_;refine xbk 9 sl45 .none rfl rfl ?_;refine ev ?_;refine xaj (ι:=Nat) hk (fun k=>[(8,.d (.i (k:Int))),(7,.gv 9 ((((tupQ 400 (p.kids.map za3)).take k).map fun l=>Pat.mk p.op p.ctor p.n p.m p.var l).map Pat.cc))]) [9,50,51,52,53,54,55,56,57,58,59,60,61,62,63,64,65] (fun k=>[(9,some (.tok (((((tupQ 400 (p.kids.map za3)).take k).map fun l=>Pat.mk p.op p.ctor p.n p.m p.var l).map Pat.cc)).length 6))]) (fun k=>k≤(tupQ 400 (p.kids.map za3)).length) (fun k=>(tupQ 400 (p.kids.map za3)).length-k) 0 (by omega) ⟨⟨_,rfl,xap ?_⟩,⟨⟨_,rfl,LeA.gvg ?_⟩,trivial⟩⟩ ⟨zaa ?_,trivial⟩ (fun x=>rfl) (fun k hg2=>?_);iterate 3 focus ((simp;done))
   refine evc [] [] ?_;refine sq ?_ ?_<;>intro h3 h3p h3s;try simp only[Q,Pat.cs_len] at h3p
   refine ab 3009 tz56 ?_;refine so ty56 ?_;refine tv ?_;refine xaV zef .none rfl rfl rfl rfl (zas (by omega)) rfl ?_;refine ev ?_;refine so ty45 ?_;refine tv ?_;refine si [0] [_] sl45 tz56 ?_;refine xaC sl45 zz56 .none rfl rfl rfl rfl (zdk rfl (by first|rfl|(simp;done))) (by intro x hx;first|(simp at hx;subst hx;rfl)|exact zhq _ x hx) (by first|(have:=congrArg List.length hg1;simp at this;simp;omega)|(simp;omega)) (by first|(have:=congrArg List.length hg1;simp at this;simp;omega)|(simp;omega)) ?_;refine ev ?_;refine ar ?_;refine Exists.intro (k+1) ⟨(by omega),(by omega),sx ⟨⟨_,rfl,xap ?_⟩,⟨⟨_,rfl,LeA.gvg ?_⟩,trivial⟩⟩ ⟨zaa ?_,trivial⟩⟩;iterate 3 focus (first|(simp;done)|(rw[List.take_succ_eq_append_getElem (by omega),←za0 (by omega)];simp[zee,zf1,mk_n,mk_m,ziI,zcr];done))
   try simp only[Q,Pat.cs_len] at h3p
   refine rn [(9,some (.tok (Pat.cs ((tupQ 400 (p.kids.map za3)).map fun l=>Pat.mk p.op p.ctor p.n p.m p.var l)).length 6))] (r1 rfl) (.gvg ?_) ⟨rfl,rfl⟩ (SubH.get ⟨?_,trivial⟩) (zav rfl);rotate_left 2;all_goals (first|((first|rfl|(obtain rfl:k=(tupQ 400 (p.kids.map za3)).length:=(by omega);rw[List.take_length,show Pat.cs ((tupQ 400 (p.kids.map za3)).map fun l=>Pat.mk p.op p.ctor p.n p.m p.var l)=((tupQ 400 (p.kids.map za3)).map fun l=>Pat.mk p.op p.ctor p.n p.m p.var l).map Pat.cc from xas _];done));done)|(first|rfl|(obtain rfl:k=(tupQ 400 (p.kids.map za3)).length:=(by omega);rw[List.take_length];simp[xas];rfl)|(obtain rfl:k=(tupQ 400 (p.kids.map za3)).length:=(by omega);rw[List.take_length,show Pat.cs ((tupQ 400 (p.kids.map za3)).map fun l=>Pat.mk p.op p.ctor p.n p.m p.var l)=((tupQ 400 (p.kids.map za3)).map fun l=>Pat.mk p.op p.ctor p.n p.m p.var l).map Pat.cc from xas _];rfl)))
theorem znF {w:List Data}{n:Nat}{t:Ty}{p:Pat} (h:zar w n t p=true) (hok:p.ok):FnD Tryz.prog 196 [.agg [.d (.i p.op),.d (.i p.ctor),.d (.i p.n),.d (.i p.m),.d (.i p.var),.d (zae p.kids)]] [] (.d (zae (za3 (zaF p)))) []:=by
 have hbp:=zdc _ (Nat.le_refl _) hok;have hsp:=FnD.gvD (zei n (zh9 n h) (zkN p hok));generalize zaF p=b at *;refine bd Tryz.f196 6 [] [] fun w0 F0 own kept hk=>?_;refine bx 3001 ?_;refine ev ?_;refine wc zmm (hbp) rfl rfl ?_;refine wc ziw (hsp) rfl rfl ?_;refine ev ?_;refine rn0 (r1 rfl) (.eqd ?_);rotate_left;all_goals (rfl)
abbrev zcE (x:UInt8):List D:=[.int .u8 (x.toNat:Int)]
abbrev zb0 (b:Str):D:= .sl (b.map zcE)
abbrev rdB (b:Str) (p:Nat):Res:= .box [.d (zb0 b),.d (.i p)]
theorem znT (u:UInt8):0≤IntKind.i64.wrap (u.toNat:Int)∧IntKind.i64.wrap (u.toNat:Int)≤255:=by
 have h:u.toNat<256:=u.toNat_lt;rw[zdY (by omega)];omega
def zh6 (b:Str) (p:Nat):Int:=
 IntKind.i64.wrap ((nth b (p % b.length)).toNat:Int)*131+IntKind.i64.wrap ((nth b ((p*7+3) % b.length)).toNat:Int)*1117+((p:Int)+1-1)*29+((p:Int)+1-1) / ((b.map zcE).length:Int)*53
def zao (b:Str) (p:Nat) (n:Int):Int:=
 if n<1∨b.length=0 then 0
 else if p<b.length then IntKind.i64.wrap ((nth b p).toNat:Int) % n
 else xorV (zh6 b p) (zh6 b p / 64) % n
theorem zcM {b:Str}{p:Nat}{n:Int} (h:1≤n):0≤zao b p n∧zao b p n<n:=by
 unfold zao;split
 ·omega
 ·split
  ·exact⟨Int.emod_nonneg _ (by omega),Int.emod_lt_of_pos _ (by omega)⟩
  ·exact⟨Int.emod_nonneg _ (by omega),Int.emod_lt_of_pos _ (by omega)⟩
theorem zaR {b:Str}{p:Nat}{n:Int} (hb:b.length≤2000) (hp:p≤1000000000000) (hn:n≤1000000000000):
  FnD Tryz.prog 65 [.ref 900 0,.d (.i n)] [(900,some (rdB b p))] (.d (.i (zao b p n))) [(900,some (rdB b (p+1)))]:=by
 have w1:=znT (nth b (p % b.length));have w2:=znT (nth b ((p*7+3) % b.length));have w3:=znT (nth b p);have hlen:((b.map zcE).length:Int)=b.length:=by simp
 have d1:0≤((p:Int)+1-1) / ((b.map zcE).length:Int):=Int.ediv_nonneg (by omega) (by omega);have d2:((p:Int)+1-1) / ((b.map zcE).length:Int)≤(p:Int)+1-1:=Int.ediv_le_self _ (by omega);have hx:0≤zh6 b p∧zh6 b p≤100*1000000000000:=by unfold zh6;omega
 have hx2:=zwH (m:=zh6 b p) (n:=zh6 b p / 64) (by omega) (by omega);have k1:(p:Int)+1-1=(p:Int):=by omega
 have hx3:=hx2;have hx4:=hx;unfold zh6 at hx3 hx4;refine bd Tryz.f65 99 [46,57,74,89,94,95,98] [] fun w0 F0 own kept hk=>?_;refine ar ?_;refine so ty3 ?_;refine tv ?_;refine sq ?_ ?_<;>intro h1 h1p h1s;try simp only[Q] at h1p
 refine sqT ?_;refine rn [(900,some (rdB b (p+1)))] (r1 rfl) (.eqd ?_) ⟨rfl,rfl⟩ (SubO.get ⟨.inr ?_,⟨.inl rfl,trivial⟩⟩) (zav rfl);rotate_left 2;try simp only[Q] at h1p
 refine sq ?_ ?_<;>intro h3 h3p h3s;try simp only[Q] at h3p
 refine rn [(900,some (rdB b (p+1)))] (r1 rfl) (.eqd ?_) ⟨rfl,rfl⟩ (SubO.get ⟨.inr ?_,⟨.inl rfl,trivial⟩⟩) (zav rfl);rotate_left 2;try simp only[Q] at h3p
 refine ar ?_;refine sq ?_ ?_<;>intro h4 h4p h4s;try simp only[Q] at h4p
 refine xaV (i:=p) sl41 .none rfl rfl rfl (by omega) (zas (by omega)) rfl ?_;refine evs [46,57,74,89,94,95,98] [] ?_;refine xaL (by rw[un5];rfl) un3 .none rfl rfl ?_;refine evs [46,57,74,89,94,95,98] [] ?_;refine xbh .none rfl rfl rfl (by omega) ?_;refine evs [46,57,74,89,94,95,98] [] ?_;refine rn [(900,some (rdB b (p+1)))] (r1 rfl) (.eqd ?_) ⟨rfl,rfl⟩ (SubO.get ⟨.inr ?_,⟨.inl rfl,trivial⟩⟩) (zav rfl);rotate_left 2;try simp only[Q] at h4p
 refine xbh .none rfl rfl rfl (by omega) ?_;refine xaV (i:=p % b.length) sl41 .none rfl rfl rfl (by rw[k1,hlen];rfl) (zas (Nat.mod_lt _ (by omega))) rfl ?_;refine evd [46,57,74,89,94,95,98] [] ?_;refine xaL (by rw[un5];rfl) un3 .none rfl rfl ?_;refine evd [46,57,74,89,94,95,98] [] ?_;refine ar ?_;refine ar ?_;refine ar ?_;refine xbh .none rfl rfl rfl (by omega) ?_;refine xaV (i:=(p*7+3) % b.length) sl41 .none rfl rfl rfl (by rw[k1,hlen];rfl) (zas (Nat.mod_lt _ (by omega))) rfl ?_;refine evd [46,57,74,89,94,95,98] [] ?_;refine xaL (by rw[un5];rfl) un3 .none rfl rfl ?_;refine evd [46,57,74,89,94,95,98] [] ?_;refine ar ?_;refine ar ?_;refine ar ?_;refine ar ?_;refine xbf .none rfl rfl rfl (by omega) ?_;refine evd [46,57,74,89,94,95,98] [] ?_;refine ar ?_;refine ar ?_;refine dr ?_;refine xbf .none rfl rfl rfl (by omega) ?_;refine Walk.xorI .none rfl rfl rfl ?_;refine evs [46,57,74,89,94,95,98] [] ?_;refine xbh .none rfl rfl rfl (by omega) ?_;refine evs [46,57,74,89,94,95,98] [] ?_;refine rn [(900,some (rdB b (p+1)))] (r1 rfl) (.eqd ?_) ⟨rfl,rfl⟩ (SubO.get ⟨.inr ?_,⟨.inl rfl,trivial⟩⟩) (zav rfl);rotate_left 2;all_goals (first|((refine congrArg D.i ?_;unfold zao;first|(rw[if_pos (by omega)];done)|(rw[if_neg (by omega),if_pos (by omega)];done)|(rw[if_neg (by omega),if_neg (by omega)];rfl));done)|(rfl))
def numV (b:Str) (p:Nat) (l:List Int):Int:=nth l (zao b p l.length).toNat
theorem zbN {b:Str}{p:Nat}{l:List Int} (hb:b.length≤2000) (hp:p≤1000000000000) (hl:1≤l.length) (hl2:l.length≤1000):
  FnD Tryz.prog 108 [.ref 900 0,.d (zcq l)] [(900,some (rdB b p))] (.d (.i (numV b p l))) [(900,some (rdB b (p+1)))]:=by
 have hv:=zcM (b:=b) (p:=p) (n:=((l.map fun n=>[D.i n]).length:Int)) (by simp;omega);have hlen:((l.map fun n=>[D.i n]).length:Int)=l.length:=by simp
 refine bd Tryz.f108 12 [] [] fun w0 F0 own kept hk=>?_;refine wc zb9 (zaR hb hp (by simp;omega)) rfl rfl ?_;refine xaV (i:=(zao b p ((l.map fun n=>[D.i n]).length:Int)).toNat) zaW .none rfl rfl rfl (by omega) (zas (by omega)) rfl ?_;refine ev ?_;refine rn [(900,some (rdB b (p+1)))] (r1 rfl) (.eqd ?_) ⟨rfl,rfl⟩ (SubO.get ⟨.inr ?_,⟨.inl rfl,trivial⟩⟩) (zav rfl);rotate_left 2;all_goals (first|((refine congrArg D.i ?_;unfold numV;rw[hlen]);done)|(rfl))
theorem znp {b:Str} (hb:b.length≤1000000000000):FnD Tryz.prog 63 [.d (zb0 b)] [] (.ref 900 0) [(900,some (rdB (b.take 2000) 0))]:=by
 refine bd Tryz.f63 11 [] [] fun w0 F0 own kept hk=>?_;refine sq ?_ ?_<;>intro h1 h1p h1s;try simp only[Q] at h1p
 refine xaP (b:=2000) sl41 .none rfl rfl rfl (by intro x hx;obtain⟨y,_,rfl⟩:=List.mem_map.1 hx;rfl) rfl rfl (by simp at *;omega) ?_;refine ev ?_;refine bu [0] [_] zvW ?_;refine bx 900 ?_;refine ev ?_;focus (refine rn [(900,some (rdB (b.take 2000) 0))] (r1 rfl) (.refl _) ⟨rfl,rfl⟩ (SubH.get ⟨(by first|(simp[getH,rdB,zb0,List.map_take];done)|(show some (Res.box _)=some (Res.box _);rw[List.take_of_length_le (by simp at *;omega)];rfl)),trivial⟩) (zav rfl);all_goals (first|rfl|(simp[h1s,h1p];done)|(simp_all;done)|(simp_all;omega)|omega))
 try simp only[Q] at h1p
 refine bu [0] [_] zvW ?_;refine bx 900 ?_;refine ev ?_;focus (refine rn [(900,some (rdB (b.take 2000) 0))] (r1 rfl) (.refl _) ⟨rfl,rfl⟩ (SubH.get ⟨(by first|(simp[getH,rdB,zb0,List.map_take];done)|(show some (Res.box _)=some (Res.box _);rw[List.take_of_length_le (by simp at *;omega)];rfl)),trivial⟩) (zav rfl);all_goals (first|rfl|(simp[h1s,h1p];done)|(simp_all;done)|(simp_all;omega)|omega))
def cutL (c:UInt8):Str→Str→List Str
 |cur,[]=>[cur]
 |cur,x::r=>if x=c then cur::cutL c [] r else cutL c (cur++[x]) r
theorem zeo (c:UInt8):∀(s cur:Str),(cutL c cur s).length≤s.length+1
 | [],cur=>by simp[cutL]
 |x::r,cur=>by
  simp only[cutL];split
  ·have:=zeo c r [];simp only[xab];omega
  ·have:=zeo c r (cur++[x]);simp only[xab];omega
theorem zi0 (c:UInt8):∀(s cur:Str),1≤(cutL c cur s).length
 | [],cur=>by simp[cutL]
 |x::r,cur=>by
  simp only[cutL];split
  ·simp
  ·exact zi0 c r (cur++[x])
theorem ziZ (c:UInt8):∀(s cur:Str) (t:Str),t∈cutL c cur s→t.length≤cur.length+s.length
 | [],cur,t,h=>by simp only[cutL,List.mem_singleton] at h;subst h;simp
 |x::r,cur,t,h=>by
  simp only[cutL] at h;split at h
  ·rcases List.mem_cons.1 h with rfl|h
   ·simp
   ·have:=ziZ c r [] t h;simp only[xab,xah] at this ⊢;omega
  ·have:=ziZ c r (cur++[x]) t h;simp only[xaa,xab,xah] at this ⊢;omega
theorem zhP {s:Str}{i:Nat} (h:i<s.length):s[i]?=some (nth s i):=by rw[za0 h];exact List.getElem?_eq_getElem h
theorem zlz {s:Str}{f i:Nat} (hf:f≤i) (h:i<s.length):(s.take (i+1)).drop f=(s.take i).drop f++[nth s i]:=by
 rw[List.take_add_one,List.getElem?_eq_getElem h,List.drop_append_of_le_length (by simp;omega),za0 h];rfl
theorem zqn {s:Str}{f i:Nat}:(s.drop f).take (i-f)=(s.take i).drop f:=by rw[List.drop_take]
theorem zct {s:Str}{c:UInt8} (hs:s.length≤1000000000000):FnD Tryz.prog 208 [.d (.str s),.d (.int .u8 (c.toNat:Int))] [] (.d (zfc (cutL c [] s))) []:=by
 have hu:∀a:UInt8,((a.toNat:Int)=(c.toNat:Int))↔a=c:=fun a=>by rw[Int.natCast_inj];exact UInt8.toNat_inj
 refine bd Tryz.f208 36 [] [] fun w0 F0 own kept hk=>?_;refine xbj 1 zbO .none rfl rfl ?_;refine ev ?_;refine xaj (ι:=Nat×Nat×List Str) hk (fun x=>[(7,.d (.i (x.1:Int))),(6,.d (.i (x.2.1:Int))),(5,.gl 1 (x.2.2.map fun n=>[D.str n]))]) [9,10,11,12,13,14,15,16,17,18,19,20,21,22,23,24,25,26,27,28,29,30,31,32,33,34] (fun x=>[(1,some (.tok ((x.2.2.map fun n=>[D.str n])).length 1))]) (fun x=>x.1≤s.length+1∧x.2.2.length≤x.1∧if x.1=s.length+1 then x.2.2=cutL c [] s else x.2.1≤x.1∧x.2.2++cutL c ((s.take x.1).drop x.2.1) (s.drop x.1)=cutL c [] s) (fun x=>s.length+1-x.1) (0,0,[]) ⟨by simp,by simp,by rw[if_neg (by simp)];simp⟩ ⟨⟨_,rfl,xap ?_⟩,⟨⟨_,rfl,xap ?_⟩,⟨⟨_,rfl,LeA.glg ?_⟩,trivial⟩⟩⟩ ⟨zaa ?_,trivial⟩ (fun x=>rfl) (fun x hg1=>?_);iterate 4 focus (rfl)
 refine evc [] [] ?_;refine sq ?_ ?_<;>intro h1 h1p h1s;try simp only[Q,hu] at h1p
 have hne:¬x.1=s.length+1:=(by omega);have hcond:=hg1.2.2;rw[if_neg hne] at hcond;have hle:=hcond.1;refine sq ?_ ?_<;>intro h2 h2p h2s;try simp only[Q,hu] at h2p
 refine sqT ?_;refine xaN un9 .none rfl rfl rfl rfl rfl rfl (by omega) (by omega) ?_;refine si [0] [_] zbO tz9 ?_;refine ap zbO zz9 rfl rfl rfl (by simp) (by simp;omega) ?_;refine ev ?_;refine ar ?_;refine ar ?_;refine Exists.intro (if x.1=s.length∨nth s x.1=c then (x.1+1,x.1+1,x.2.2++[(s.take x.1).drop x.2.1]) else (x.1+1,x.2.1,x.2.2)) ⟨(by
    have hne:¬x.1=s.length+1:=by omega
    rw[if_neg hne] at hg1;obtain⟨g1,g2,g3,g4⟩:=hg1;by_cases he:x.1=s.length
    ·rw[if_pos (.inl he)];refine⟨by dsimp only;omega,by simp;omega, ?_⟩;dsimp only;rw[if_pos (by omega),←g4,he,List.drop_length];rfl
    ·have hlt:x.1<s.length:=by omega
     rw[zaG hlt] at g4;by_cases hc:nth s x.1=c
     ·rw[if_pos (.inr hc)];refine⟨by dsimp only;omega,by simp;omega, ?_⟩;dsimp only;rw[if_neg (by omega)];refine⟨by omega, ?_⟩;rw[←g4,cutL,if_pos hc,List.append_assoc];simp
     ·rw[if_neg (by simp[he,hc])];refine⟨by dsimp only;omega,by dsimp only;omega, ?_⟩;dsimp only;rw[if_neg (by omega)];refine⟨by omega, ?_⟩;rw[←g4,cutL,if_neg hc,zlz g3 hlt]),(by split<;>(dsimp only;omega)),sx ⟨⟨_,rfl,xap ?_⟩,⟨⟨_,rfl,xap ?_⟩,⟨⟨_,rfl,LeA.glg ?_⟩,trivial⟩⟩⟩ ⟨zaa ?_,trivial⟩⟩
 iterate 4 focus ((split<;>first|(simp[zqn];done)|(simp;done)|(exfalso;simp_all;done)|(exfalso;simp_all;omega)))
 try simp only[Q,hu] at h2p
 refine xa0 un9 (.some rfl rfl h2) rfl rfl rfl rfl (zhP (by omega)) ?_;refine evs [] [(19,false)] ?_ ⟨⟨_,rfl,h2⟩,trivial⟩;refine sq ?_ ?_<;>intro h4 h4p h4s;try simp only[Q,hu] at h4p
 refine xaN un9 .none rfl rfl rfl rfl rfl rfl (by omega) (by omega) ?_;refine si [0] [_] zbO tz9 ?_;refine ap zbO zz9 rfl rfl rfl (by simp) (by simp;omega) ?_;refine ev ?_;refine ar ?_;refine ar ?_;refine Exists.intro (if x.1=s.length∨nth s x.1=c then (x.1+1,x.1+1,x.2.2++[(s.take x.1).drop x.2.1]) else (x.1+1,x.2.1,x.2.2)) ⟨(by
    have hne:¬x.1=s.length+1:=by omega
    rw[if_neg hne] at hg1;obtain⟨g1,g2,g3,g4⟩:=hg1;by_cases he:x.1=s.length
    ·rw[if_pos (.inl he)];refine⟨by dsimp only;omega,by simp;omega, ?_⟩;dsimp only;rw[if_pos (by omega),←g4,he,List.drop_length];rfl
    ·have hlt:x.1<s.length:=by omega
     rw[zaG hlt] at g4;by_cases hc:nth s x.1=c
     ·rw[if_pos (.inr hc)];refine⟨by dsimp only;omega,by simp;omega, ?_⟩;dsimp only;rw[if_neg (by omega)];refine⟨by omega, ?_⟩;rw[←g4,cutL,if_pos hc,List.append_assoc];simp
     ·rw[if_neg (by simp[he,hc])];refine⟨by dsimp only;omega,by dsimp only;omega, ?_⟩;dsimp only;rw[if_neg (by omega)];refine⟨by omega, ?_⟩;rw[←g4,cutL,if_neg hc,zlz g3 hlt]),(by split<;>(dsimp only;omega)),sx ⟨⟨_,rfl,xap ?_⟩,⟨⟨_,rfl,xap ?_⟩,⟨⟨_,rfl,LeA.glg ?_⟩,trivial⟩⟩⟩ ⟨zaa ?_,trivial⟩⟩
 iterate 4 focus ((split<;>first|(simp[zqn];done)|(simp;done)|(exfalso;simp_all;done)|(exfalso;simp_all;omega)))
 try simp only[Q,hu] at h4p
 refine ar ?_;refine Exists.intro (if x.1=s.length∨nth s x.1=c then (x.1+1,x.1+1,x.2.2++[(s.take x.1).drop x.2.1]) else (x.1+1,x.2.1,x.2.2)) ⟨(by
    have hne:¬x.1=s.length+1:=by omega
    rw[if_neg hne] at hg1;obtain⟨g1,g2,g3,g4⟩:=hg1;by_cases he:x.1=s.length
    ·rw[if_pos (.inl he)];refine⟨by dsimp only;omega,by simp;omega, ?_⟩;dsimp only;rw[if_pos (by omega),←g4,he,List.drop_length];rfl
    ·have hlt:x.1<s.length:=by omega
     rw[zaG hlt] at g4;by_cases hc:nth s x.1=c
     ·rw[if_pos (.inr hc)];refine⟨by dsimp only;omega,by simp;omega, ?_⟩;dsimp only;rw[if_neg (by omega)];refine⟨by omega, ?_⟩;rw[←g4,cutL,if_pos hc,List.append_assoc];simp
     ·rw[if_neg (by simp[he,hc])];refine⟨by dsimp only;omega,by dsimp only;omega, ?_⟩;dsimp only;rw[if_neg (by omega)];refine⟨by omega, ?_⟩;rw[←g4,cutL,if_neg hc,zlz g3 hlt]),(by split<;>(dsimp only;omega)),sx ⟨⟨_,rfl,xap ?_⟩,⟨⟨_,rfl,xap ?_⟩,⟨⟨_,rfl,LeA.glg ?_⟩,trivial⟩⟩⟩ ⟨zaa ?_,trivial⟩⟩
 iterate 4 focus ((split<;>first|rfl|(exfalso;simp_all;done)|(exfalso;simp_all;omega)))
 try simp only[Q,hu] at h1p
 refine rn0 (r1 rfl) (.gld ?_);rotate_left;all_goals (have e:x.1=s.length+1:=(by omega);rw[if_pos e] at hg1;rw[hg1.2.2])
def zsF (names:List Str) (s:Str):Int:=if s=[73] then -1 else if s∈names then idxF (fun n=>decide (n=s)) names 0 else -2
theorem zoq {names:List Str}{s:Str} (hn:names.length≤1000000000000):FnD Tryz.prog 298 [.d (zfc names),.d (.str s)] [] (.d (.i (zsF names s))) []:=by
 refine bd Tryz.f298 21 [] [] fun w0 F0 own kept hk=>?_;refine sq ?_ ?_<;>intro h1 h1p h1s;try simp only[Q] at h1p
 refine rn0 (r1 rfl) (.eqd ?_);rotate_left;try simp only[Q] at h1p
 refine xaj (ι:=List (Str)×List (Str)) hk (fun x=>[(5,.d (.i (x.1.length:Int)))]) [4,8,9,10,11,12,13,14,15,16,17,18,19,20] (fun x=>[]) (fun x=>x.1++x.2=names∧s∉x.1∧idxF (fun n=>decide (n=s)) x.2 x.1.length=idxF (fun n=>decide (n=s)) names 0) (fun x=>x.2.length) ([],names) ⟨by simp,by simp,rfl⟩ ⟨⟨_,rfl,xap ?_⟩,trivial⟩ trivial (fun x=>rfl) (fun x hg1=>?_);focus (rfl)
 obtain⟨pre,rest⟩:=x;dsimp only at hg1 ⊢;refine evc [] [] ?_;refine sq ?_ ?_<;>intro h2 h2p h2s;try simp only[Q] at h2p
 rcases rest with _|⟨y,rest⟩
 ·exfalso;simp_all
 refine xaV zbO .none rfl rfl rfl rfl (zaE hg1.1) rfl ?_;refine ev ?_;refine sq ?_ ?_<;>intro h3 h3p h3s;try simp only[Q] at h3p
 refine rn0 (r1 rfl) (.eqd ?_);rotate_left;try simp only[Q] at h3p
 refine ar ?_;refine Exists.intro ((pre++[y],rest)) ⟨⟨(by have hz:=hg1.1;rw[←hz];simp),⟨(by have h1:=hg1.2.1;simp_all[eq_comm]),(by rw[←hg1.2.2];simp_all[idxF])⟩⟩,(by simp),sx ⟨⟨_,rfl,xap ?_⟩,trivial⟩ trivial⟩;focus ((simp;done))
 try simp only[Q] at h2p
 have hrest:rest=[]:=by
  rcases rest with _|⟨a,b⟩
  ·rfl
  ·exfalso;have hz:=congrArg List.length (hg1.1);simp only[xaa,xab,xac] at hz;omega
 subst hrest;refine rn0 (r1 rfl) (.eqd ?_);rotate_left;all_goals (refine congrArg D.i ?_;unfold zsF;by_cases hz:s=[73]<;>by_cases hm:s∈names<;>simp only[hz,hm,if_true,if_false];all_goals first|(exfalso;simp_all;done)|(exfalso;apply hm;subst h3p;rw[←hg1.1];simp;done)|(exfalso;apply hg1.2.1;rw[←hg1.1,List.append_nil] at hm;exact hm)|(rw[←hg1.2.2];simp_all[idxF];done))
def zfh (names:List Str) (s:Str):Ty:=
 if s=[] then ⟨-2,0⟩
 else ⟨zsF names (s.take 1),if s.drop 1=[42] then -1 else if s.length=2∧48≤(nth s 1).toNat∧(nth s 1).toNat≤57 then ((nth s 1).toNat:Int)-48 else 0⟩
theorem zsD {b:UInt8} (h1:48≤b.toNat) (h2:b.toNat≤57):IntKind.i64.wrap (IntKind.u8.wrap ((b.toNat:Int)-48))=(b.toNat:Int)-48:=by
 rw[zwE,zdY (by omega)];omega
theorem zfO {names:List Str}{s:Str} (hn:names.length≤1000000000000) (hs:s.length≤1000000000000):
  FnD Tryz.prog 269 [.d (zfc names),.d (.str s)] [] (.agg [.d (.i (zfh names s).data),.d (.i (zfh names s).index)]) []:=by
 have hlen:s≠[]→1≤s.length:=fun h=>by rcases s with _|⟨a,r⟩;exact absurd rfl h;simp
 refine bd Tryz.f269 39 [35] [] fun w0 F0 own kept hk=>?_;refine ab 3004 tz33 ?_;refine tv ?_;refine sq ?_ ?_<;>intro h1 h1p h1s;try simp only[Q] at h1p
 refine bu [0] [_] st33 ?_;refine so ty33 ?_;refine tv ?_;refine rn0 (.cons (.cellA ty33 rfl rfl rfl) .nil) (.agg (.cons (.eqd ?_) (.cons (.eqd ?_) .nil)));rotate_left 2;try simp only[Q] at h1p
 refine xaM (b:=1) un9 .none rfl rfl rfl rfl (by have:=hlen (by simp_all);omega) ?_;refine wc zxF (zoq (names:=names) (s:=s.take 1) hn) rfl rfl ?_;refine bu [0] [_] st33 ?_;refine ab 3005 tz33 ?_;refine so ty33 ?_;refine tv ?_;refine Walk.cutS_l (b:=1) un9 .none rfl rfl rfl rfl (by have:=hlen (by simp_all);omega) ?_;refine evs [35] [] ?_;refine sq ?_ ?_<;>intro h2 h2p h2s;try simp only[Q] at h2p
 refine so ty3 ?_;refine tv ?_;refine so ty33 ?_;refine tv ?_;refine rn0 (.cons (.cellA ty33 rfl rfl rfl) .nil) (.agg (.cons (.eqd ?_) (.cons (.eqd ?_) .nil)));rotate_left 2;try simp only[Q] at h2p
 refine sq ?_ ?_<;>intro h3 h3p h3s;try simp only[Q] at h3p
 refine xa0 (i:=1) un9 (.some rfl rfl h3) rfl rfl rfl rfl (zhP (by simp_all;omega)) ?_;refine evs [35] [(23,true)] ?_ ⟨⟨_,rfl,h3⟩,trivial⟩;refine sq ?_ ?_<;>intro h4 h4p h4s;try simp only[Q] at h4p
 refine xa0 (i:=1) un9 (.some rfl rfl h4) rfl rfl rfl rfl (zhP (by simp_all;omega)) ?_;refine evs [35] [(28,true)] ?_ ⟨⟨_,rfl,h4⟩,trivial⟩;refine sq ?_ ?_<;>intro h5 h5p h5s;try simp only[Q] at h5p
 refine xa0 (i:=1) un9 .none rfl rfl rfl rfl (zhP (by simp_all;omega)) ?_;refine Walk.subW .none rfl rfl rfl ?_;refine xaL (by rw[un5];rfl) un3 .none rfl rfl ?_;refine evs [35] [] ?_;refine so ty3 ?_;refine tv ?_;refine so ty33 ?_;refine tv ?_;refine rn0 (.cons (.cellA ty33 rfl rfl rfl) .nil) (.agg (.cons (.eqd ?_) (.cons (.eqd ?_) .nil)));rotate_left 2;try simp only[Q] at h5p
 refine so ty33 ?_;refine tv ?_;refine rn0 (.cons (.cellA ty33 rfl rfl rfl) .nil) (.agg (.cons (.eqd ?_) (.cons (.eqd ?_) .nil)));rotate_left 2;try simp only[Q] at h4p
 refine sqF ?_;refine so ty33 ?_;refine tv ?_;refine rn0 (.cons (.cellA ty33 rfl rfl rfl) .nil) (.agg (.cons (.eqd ?_) (.cons (.eqd ?_) .nil)));rotate_left 2;try simp only[Q] at h3p
 refine sqF ?_;refine sqF ?_;refine so ty33 ?_;refine tv ?_;refine rn0 (.cons (.cellA ty33 rfl rfl rfl) .nil) (.agg (.cons (.eqd ?_) (.cons (.eqd ?_) .nil)));rotate_left 2;all_goals (unfold zfh;first|(rw[zsD (b:=nth s 1) (by omega) (by omega),if_neg h1p];dsimp only;rw[if_neg h2p,if_pos ⟨by omega,by omega,by omega⟩];done)|(rw[if_pos h1p];done)|(rw[if_neg h1p];done)|(rw[if_neg h1p];dsimp only;rw[if_pos h2p];done)|(rw[if_neg h1p];dsimp only;rw[if_neg h2p,if_neg (fun hh=>by omega)];done))
def zqr (s:Str):Prop:=2<s.length∧nth s (s.length-2)=58
instance (s:Str):Decidable (zqr s):=inferInstanceAs (Decidable (_∧_))
def zhw (names:List Str) (ix:Int) (s:Str):Ctor:=
 let parts:=cutL 40 [] s
 ⟨nth parts 0,if parts.length<2∨(nth parts 1).length=0 then [] else ((cutL 44 [] ((nth parts 1).take ((nth parts 1).length-1))).take 4).map (zfh names),ix⟩
def zcB (names:List Str) (s:Str):Ctor:=
 if zqr s then zhw names (((nth s (s.length-1)).toNat:Int)-48) (s.take (s.length-2)) else zhw names 0 s
theorem zgO {α β:Type} [Inhabited α]{f:α→β}{l:List α}{i:Nat} (h:i<l.length):(l.map f).take (i+1)=(l.map f).take i++[f (nth l i)]:=by
 rw[List.take_add_one,List.getElem?_map,List.getElem?_eq_getElem h];simp[nth,List.getD,h]
theorem zpm {α:Type}{l:List α}{i:Nat} (h:i=4∨(i≤4∧l.length≤i)):l.take i=l.take 4:=by
 rcases h with rfl|⟨h1,h2⟩
 ·rfl
 ·rw[List.take_of_length_le h2,List.take_of_length_le (by omega)]
theorem zyl {a b:UInt8}:((a.toNat:Int)=(b.toNat:Int))↔a=b:=by rw[Int.natCast_inj];exact UInt8.toNat_inj
theorem zuI (a:UInt8):IntKind.i64.wrap (a.toNat:Int)=(a.toNat:Int):=by have:=a.toNat_lt;exact zdY (by omega)
theorem zep {c:UInt8}{s:Str}{i:Nat} (h:i<(cutL c [] s).length):(nth (cutL c [] s) i).length≤s.length:=by
 have:=ziZ c s [] _ (zaf h);simpa using this
theorem zjK {names:List Str}{s:Str} (hn:names.length≤1000000000000) (hs:s.length≤1000000):
  FnD Tryz.prog 209 [.d (zfc names),.d (.str s)] [] (.agg [.d (.str (zcB names s).name),.d (zcn (zcB names s).args),.d (.i (zcB names s).index)]) []:=by
 have hwb:=zuI (nth s (s.length-1));have hwl:=(nth s (s.length-1)).toNat_lt;by_cases hc:zqr s
 ·have hc1:=hc.1;have hct:(s.take (s.length-2)).length=s.length-2:=by rw[List.length_take];omega
  have hcl:=zeo 40 (s.take (s.length-2)) [];have hcp:=zi0 40 (s.take (s.length-2)) [];have hn1:=fun h=>zep (c:=40) (s:=s.take (s.length-2)) (i:=1) h;have hal:=zeo 44 ((nth (cutL 40 [] (s.take (s.length-2))) 1).take ((nth (cutL 40 [] (s.take (s.length-2))) 1).length-1)) [];refine bd Tryz.f209 83 [] [2,7] fun w0 F0 own kept hk=>?_;refine ab 3004 zhe ?_;refine tv ?_;refine bu [] [] zvV ?_;refine ab 3005 zhe ?_;refine so zdd ?_;refine tv ?_;refine xak ?_;refine xaA 11 [(20,.d (.bool (true)))] [10,11,12,13,14,15,16,17,18,19] ?_ ?_;refine ev ?_;refine sq ?_ ?_<;>intro h1 h1p h1s;try simp only[Q,List.length_take] at h1p
  refine ar ?_;refine xa0 (i:=s.length-2) un9 (.some rfl rfl h1) rfl rfl rfl (by omega) (zhP (by omega)) ?_;refine evs [] [(13,true)] ?_ ⟨⟨_,rfl,h1⟩,trivial⟩;exact jn rfl (xao (by(exact decide_eq_true (congrArg (fun z:UInt8=>(z.toNat:Int)) hc.2))));try simp only[Q,List.length_take] at h1p
  exact jn rfl (xao (by(exfalso;omega)));refine xaz ?_;refine tv ?_;refine sq ?_ ?_<;>intro h2 h2p h2s;try simp only[Q,List.length_take] at h2p
  refine ar ?_;refine xa0 (i:=s.length-1) un9 .none rfl rfl rfl (by omega) (zhP (by omega)) ?_;refine xaL (by rw[un5];rfl) un3 .none rfl rfl ?_;refine ev ?_;refine ar ?_;refine so ty3 ?_;refine tv ?_;refine ar ?_;refine xaM (b:=s.length-2) un9 .none rfl rfl rfl (by omega) (by omega) ?_;refine ev ?_;refine wc zgp (zct (s:=s.take (s.length-2)) (c:=40) (by first|omega|(simp;omega))) rfl rfl ?_;refine ev ?_;refine xaV (i:=0) zbO .none rfl rfl rfl rfl (zas (by omega)) rfl ?_;refine ev ?_;refine so ty9 ?_;refine tv ?_;refine xak ?_;refine xaA 10 [(49,.d (.bool (decide ((cutL 40 [] (s.take (s.length-2))).length<2∨(nth (cutL 40 [] (s.take (s.length-2))) 1).length=0))))] [40,41,42,43,44,45,46,47,48] ?_ ?_;refine ev ?_;refine sq ?_ ?_<;>intro h3 h3p h3s;try simp only[Q,List.length_take] at h3p
  exact jn rfl (xao (by(refine(decide_eq_true ?_).symm;omega)));try simp only[Q,List.length_take] at h3p
  refine xaV (i:=1) zbO (.some rfl rfl h3) rfl rfl rfl rfl (zas (by omega)) rfl ?_;refine evs [] [(43,false)] ?_ ⟨⟨_,rfl,h3⟩,trivial⟩;exact jn rfl (xao (by(refine decide_eq_decide.2 ?_;omega)));refine xaz ?_;refine tv ?_;refine sq ?_ ?_<;>intro h4 h4p h4s;try simp only[Q,List.length_take] at h4p
  refine so zdd ?_;refine tv ?_;refine rn0 (.cons (.cellA zdd rfl rfl rfl) .nil) (.agg (.cons (.eqd ?_) (.cons (.nild ?_) (.cons (.eqd ?_) .nil))));rotate_left 3;try simp only[Q,List.length_take] at h4p
  refine xaV (i:=1) zbO .none rfl rfl rfl rfl (zas (by omega)) rfl ?_;refine evd [] [] ?_;refine xaV (i:=1) zbO .none rfl rfl rfl rfl (zas (by omega)) rfl ?_;refine evd [] [] ?_;refine ar ?_;refine xaM (b:=(nth (cutL 40 [] (s.take (s.length-2))) 1).length-1) un9 .none rfl rfl rfl (by omega) (by omega) ?_;refine wc zgp (zct (s:=(nth (cutL 40 [] (s.take (s.length-2))) 1).take ((nth (cutL 40 [] (s.take (s.length-2))) 1).length-1)) (c:=44) (by simp;omega)) rfl rfl ?_;refine evd [] [] ?_;refine dr ?_;refine xam 3005 1 1 2 rfl rfl rfl rfl ?_;refine xaj (ι:=Nat) hk (fun i=>[(8,.d (.i (i:Int)))]) [61,62,63,64,65,66,67,68,69,70,71,72,73,74,75,76,77,78,79,80,81] (fun i=>[(3005,some (.box [.d (.str (nth (cutL 40 [] (s.take (s.length-2))) 0)),.gl 1 (((((cutL 44 [] ((nth (cutL 40 [] (s.take (s.length-2))) 1).take ((nth (cutL 40 [] (s.take (s.length-2))) 1).length-1))).map (zfh names)).take i)).map Ty.c),.d (.i (((nth s (s.length-1)).toNat:Int)-48))])),(1,some (.tok (((((cutL 44 [] ((nth (cutL 40 [] (s.take (s.length-2))) 1).take ((nth (cutL 40 [] (s.take (s.length-2))) 1).length-1))).map (zfh names)).take i)).map Ty.c).length 2))]) (fun i=>i≤4∧i≤(cutL 44 [] ((nth (cutL 40 [] (s.take (s.length-2))) 1).take ((nth (cutL 40 [] (s.take (s.length-2))) 1).length-1))).length) (fun i=>4-i) 0 ⟨by omega,by omega⟩ ⟨⟨_,rfl,xap ?_⟩,trivial⟩ ⟨?_,⟨zaa ?_,trivial⟩⟩ (fun x=>rfl) (fun i hg1=>?_);focus (rfl)
  focus ((show some (Res.box _)=some (Res.box _);rw[hwb];rfl))
  focus (rfl)
  refine evc [] [2,7] ?_;refine sq ?_ ?_<;>intro h5 h5p h5s;try simp only[Q,List.length_take] at h5p
  refine sq ?_ ?_<;>intro h6 h6p h6s;try simp only[Q,List.length_take] at h6p
  refine xaV zbO .none rfl rfl rfl rfl (zas (by omega)) rfl ?_;refine evd [] [] ?_;refine wc ztB (zfO (names:=names) (s:=nth (cutL 44 [] ((nth (cutL 40 [] (s.take (s.length-2))) 1).take ((nth (cutL 40 [] (s.take (s.length-2))) 1).length-1))) i) hn (by have:=zep (c:=44) (s:=(nth (cutL 40 [] (s.take (s.length-2))) 1).take ((nth (cutL 40 [] (s.take (s.length-2))) 1).length-1)) (i:=i) (by omega);simp at this;omega)) rfl rfl ?_;refine si [0] [_] zaT tz33 ?_;refine ap zaT zz33 rfl rfl rfl (by simp) (by simp;omega) ?_;refine evd [] [] ?_;refine so zvY ?_;refine dr ?_;refine ar ?_;refine Exists.intro (i+1) ⟨⟨by omega,by omega⟩,(by omega),sx ⟨⟨_,rfl,xap ?_⟩,trivial⟩ ⟨?_,⟨zaa ?_,trivial⟩⟩⟩;focus (rfl)
  focus ((show some (Res.box _)=some (Res.box _);rw[zgO (by omega)];simp;done))
  focus ((simp;omega))
  try simp only[Q,List.length_take] at h6p
  refine so zdd ?_;refine tv ?_;refine rn0 (.cons (.cellA zdd rfl rfl rfl) .nil) (.agg (.cons (.eqd ?_) (.cons (.gld ?_) (.cons (.eqd ?_) .nil))));rotate_left 3;try simp only[Q,List.length_take] at h5p
  refine sqF ?_;refine so zdd ?_;refine tv ?_;refine rn0 (.cons (.cellA zdd rfl rfl rfl) .nil) (.agg (.cons (.eqd ?_) (.cons (.gld ?_) (.cons (.eqd ?_) .nil))));rotate_left 3;try simp only[Q,List.length_take] at h2p
  exact absurd h2 (by simp);all_goals (unfold zcB;rw[if_pos hc];first|rfl|(rw[hwb];rfl)|(unfold zhw;dsimp only;by_cases hq:(cutL 40 [] (s.take (s.length-2))).length<2∨(nth (cutL 40 [] (s.take (s.length-2))) 1).length=0;all_goals first|(exfalso;exact(of_decide_eq_false h4) hq)|(exfalso;exact hq (of_decide_eq_true h4))|(rw[if_pos hq];done)|(rw[if_pos hq];rfl)|(rw[if_neg hq,←List.map_take,zpm (by omega)];done)))
 ·skip
  have hcl:=zeo 40 (s) [];have hcp:=zi0 40 (s) [];have hn1:=fun h=>zep (c:=40) (s:=s) (i:=1) h;have hal:=zeo 44 ((nth (cutL 40 [] (s)) 1).take ((nth (cutL 40 [] (s)) 1).length-1)) [];refine bd Tryz.f209 83 [] [2,7] fun w0 F0 own kept hk=>?_;refine ab 3004 zhe ?_;refine tv ?_;refine bu [] [] zvV ?_;refine ab 3005 zhe ?_;refine so zdd ?_;refine tv ?_;refine xak ?_;refine xaA 11 [(20,.d (.bool (false)))] [10,11,12,13,14,15,16,17,18,19] ?_ ?_;refine ev ?_;refine sq ?_ ?_<;>intro h1 h1p h1s;try simp only[Q,List.length_take] at h1p
  refine ar ?_;refine xa0 (i:=s.length-2) un9 (.some rfl rfl h1) rfl rfl rfl (by omega) (zhP (by omega)) ?_;refine evs [] [(13,true)] ?_ ⟨⟨_,rfl,h1⟩,trivial⟩;exact jn rfl (xao (by(exact decide_eq_false (fun hh=>hc ⟨by omega,(zyl (b:=58)).1 hh⟩))));try simp only[Q,List.length_take] at h1p
  exact jn rfl (xao (by rfl));refine xaz ?_;refine tv ?_;refine sq ?_ ?_<;>intro h2 h2p h2s;try simp only[Q,List.length_take] at h2p
  exact absurd h2 (by simp);try simp only[Q,List.length_take] at h2p
  refine wc zgp (zct (s:=s) (c:=40) (by first|omega|(simp;omega))) rfl rfl ?_;refine ev ?_;refine xaV (i:=0) zbO .none rfl rfl rfl rfl (zas (by omega)) rfl ?_;refine ev ?_;refine so ty9 ?_;refine tv ?_;refine xak ?_;refine xaA 10 [(49,.d (.bool (decide ((cutL 40 [] (s)).length<2∨(nth (cutL 40 [] (s)) 1).length=0))))] [40,41,42,43,44,45,46,47,48] ?_ ?_;refine ev ?_;refine sq ?_ ?_<;>intro h3 h3p h3s;try simp only[Q,List.length_take] at h3p
  exact jn rfl (xao (by(refine(decide_eq_true ?_).symm;omega)));try simp only[Q,List.length_take] at h3p
  refine xaV (i:=1) zbO (.some rfl rfl h3) rfl rfl rfl rfl (zas (by omega)) rfl ?_;refine evs [] [(43,false)] ?_ ⟨⟨_,rfl,h3⟩,trivial⟩;exact jn rfl (xao (by(refine decide_eq_decide.2 ?_;omega)));refine xaz ?_;refine tv ?_;refine sq ?_ ?_<;>intro h4 h4p h4s;try simp only[Q,List.length_take] at h4p
  refine so zdd ?_;refine tv ?_;refine rn0 (.cons (.cellA zdd rfl rfl rfl) .nil) (.agg (.cons (.eqd ?_) (.cons (.nild ?_) (.cons (.eqd ?_) .nil))));rotate_left 3;try simp only[Q,List.length_take] at h4p
  refine xaV (i:=1) zbO .none rfl rfl rfl rfl (zas (by omega)) rfl ?_;refine evd [] [] ?_;refine xaV (i:=1) zbO .none rfl rfl rfl rfl (zas (by omega)) rfl ?_;refine evd [] [] ?_;refine ar ?_;refine xaM (b:=(nth (cutL 40 [] (s)) 1).length-1) un9 .none rfl rfl rfl (by omega) (by omega) ?_;refine wc zgp (zct (s:=(nth (cutL 40 [] (s)) 1).take ((nth (cutL 40 [] (s)) 1).length-1)) (c:=44) (by simp;omega)) rfl rfl ?_;refine evd [] [] ?_;refine dr ?_;refine xam 3005 1 1 2 rfl rfl rfl rfl ?_;refine xaj (ι:=Nat) hk (fun i=>[(8,.d (.i (i:Int)))]) [61,62,63,64,65,66,67,68,69,70,71,72,73,74,75,76,77,78,79,80,81] (fun i=>[(3005,some (.box [.d (.str (nth (cutL 40 [] (s)) 0)),.gl 1 (((((cutL 44 [] ((nth (cutL 40 [] (s)) 1).take ((nth (cutL 40 [] (s)) 1).length-1))).map (zfh names)).take i)).map Ty.c),.d (.i (0))])),(1,some (.tok (((((cutL 44 [] ((nth (cutL 40 [] (s)) 1).take ((nth (cutL 40 [] (s)) 1).length-1))).map (zfh names)).take i)).map Ty.c).length 2))]) (fun i=>i≤4∧i≤(cutL 44 [] ((nth (cutL 40 [] (s)) 1).take ((nth (cutL 40 [] (s)) 1).length-1))).length) (fun i=>4-i) 0 ⟨by omega,by omega⟩ ⟨⟨_,rfl,xap ?_⟩,trivial⟩ ⟨?_,⟨zaa ?_,trivial⟩⟩ (fun x=>rfl) (fun i hg1=>?_);focus (rfl)
  focus (rfl)
  focus (rfl)
  refine evc [] [2,7] ?_;refine sq ?_ ?_<;>intro h5 h5p h5s;try simp only[Q,List.length_take] at h5p
  refine sq ?_ ?_<;>intro h6 h6p h6s;try simp only[Q,List.length_take] at h6p
  refine xaV zbO .none rfl rfl rfl rfl (zas (by omega)) rfl ?_;refine evd [] [] ?_;refine wc ztB (zfO (names:=names) (s:=nth (cutL 44 [] ((nth (cutL 40 [] (s)) 1).take ((nth (cutL 40 [] (s)) 1).length-1))) i) hn (by have:=zep (c:=44) (s:=(nth (cutL 40 [] (s)) 1).take ((nth (cutL 40 [] (s)) 1).length-1)) (i:=i) (by omega);simp at this;omega)) rfl rfl ?_;refine si [0] [_] zaT tz33 ?_;refine ap zaT zz33 rfl rfl rfl (by simp) (by simp;omega) ?_;refine evd [] [] ?_;refine so zvY ?_;refine dr ?_;refine ar ?_;refine Exists.intro (i+1) ⟨⟨by omega,by omega⟩,(by omega),sx ⟨⟨_,rfl,xap ?_⟩,trivial⟩ ⟨?_,⟨zaa ?_,trivial⟩⟩⟩;focus (rfl)
  focus ((show some (Res.box _)=some (Res.box _);rw[zgO (by omega)];simp;done))
  focus ((simp;omega))
  try simp only[Q,List.length_take] at h6p
  refine so zdd ?_;refine tv ?_;refine rn0 (.cons (.cellA zdd rfl rfl rfl) .nil) (.agg (.cons (.eqd ?_) (.cons (.gld ?_) (.cons (.eqd ?_) .nil))));rotate_left 3;try simp only[Q,List.length_take] at h5p
  refine sqF ?_;refine so zdd ?_;refine tv ?_;refine rn0 (.cons (.cellA zdd rfl rfl rfl) .nil) (.agg (.cons (.eqd ?_) (.cons (.gld ?_) (.cons (.eqd ?_) .nil))));rotate_left 3;all_goals (unfold zcB;rw[if_neg hc];first|rfl|(unfold zhw;dsimp only;by_cases hq:(cutL 40 [] (s)).length<2∨(nth (cutL 40 [] (s)) 1).length=0;all_goals first|(exfalso;exact(of_decide_eq_false h4) hq)|(exfalso;exact hq (of_decide_eq_true h4))|(rw[if_pos hq];done)|(rw[if_pos hq];rfl)|(rw[if_neg hq,←List.map_take,zpm (by omega)];done)))
def decV (n:Int):Str:=strN [IntKind.u8.wrap (48+n)]
theorem zlB (n:Int):(decV n).length=1:=rfl
def zka (n:Int):Str:=if n=0 then [] else if n = -1 then [42] else decV n
theorem zmU (n:Int):(zka n).length≤1:=by unfold zka;split;simp;split;simp;rw[zlB];omega
def zgF (w:List Data) (t:Ty):Str:=if t.data = -1 then [73] else (nth w t.data.toNat).name++zka t.index
def zds (w:List Data):Bool→List Ty→Str
 |_,[]=>[]
 |b,t::r=>((if b then [40] else [44])++zgF w t)++zds w false r
def zcp (w:List Data) (c:Ctor):Str:=
 let o:=c.name++zds w true c.args
 let p:=if 0<c.args.length then o++[41] else o
 if 0<c.index then (p++[58])++decV c.index else p
def zb5 (w:List Data):Bool→List Ctor→Str
 |_,[]=>[]
 |b,c::r=>((if b then [] else [124])++zcp w c)++zb5 w false r
def ziA (w:List Data):Bool→List Data→Str
 |_,[]=>[]
 |b,d::r=>((if b then [] else [59])++(d.name++[61])++zb5 w true d.ctors)++ziA w false r
def zfk (w:List Data):Str:=ziA w true w
structure TB (w:List Data):Prop where
 len:w.length≤4
 dn:∀d∈w,d.name.length≤1∧d.ctors.length≤4
 cn:∀d∈w,∀c∈d.ctors,c.name.length≤5∧c.args.length≤3∧0≤c.index∧c.index≤3
 ar:∀d∈w,∀c∈d.ctors,∀t∈c.args,(t.data = -1∨(0≤t.data∧t.data.toNat<w.length))∧ -1≤t.index∧t.index≤3
theorem zvx {w:List Data} (hv:za2 w=true):TB w:=by
 have hW:=(zb8 w).1 hv;refine⟨hW.len,fun d hd=>?_,fun d hd c hc=>?_,fun d hd c hc t ht=>?_⟩
 ·have h:=hW.data d hd;have h1:=h.1;simp only[zbj,xad,decide_eq_true_eq] at h1;omega
 ·have h:=hW.ctor d hd c hc;simp only[zbv,zdm,zap,xad,decide_eq_true_eq] at h;omega
 ·have h:=hW.ctor d hd c hc;simp only[zbv,xad,Bool.not_eq_true',List.any_eq_false] at h;have hax:zbJ w.length t=true:=by
   have:=h.2.2.2 t ht;cases h:zbJ w.length t with
   |true=>rfl
   |false=>rw[h] at this;exact absurd rfl this
  simp only[zbJ,zap,Bool.or_eq_true,xad,decide_eq_true_eq,and_true] at hax;omega
theorem zhc {w:List Data} (hb:TB w){t:Ty} (ht:t.data = -1∨(0≤t.data∧t.data.toNat<w.length)):(zgF w t).length≤2:=by
 unfold zgF;split
 ·simp
 ·rename_i h;have h1:=(hb.dn _ (zaf (l:=w) (i:=t.data.toNat) (by omega))).1;have h2:=zmU t.index;simp only[xaa];omega
theorem zhr {w:List Data} (hb:TB w):∀(l:List Ty) (b:Bool),(∀t∈l,t.data = -1∨(0≤t.data∧t.data.toNat<w.length))→(zds w b l).length≤3*l.length
 | [],_,_=>by simp[zds]
 |t::r,b,h=>by
  have h1:=zhc hb (h t (by simp));have h2:=zhr hb r false (fun x hx=>h x (by simp[hx]));simp only[zds,xaa,xab];have h3:(if b=true then [(40:UInt8)] else [44]).length=1:=by split<;>rfl
  omega
theorem zqm {w:List Data} (hb:TB w){c:Ctor} (h1:c.name.length≤5∧c.args.length≤3) (h2:∀t∈c.args,t.data = -1∨(0≤t.data∧t.data.toNat<w.length)):(zcp w c).length≤20:=by
 have h3:=zhr hb c.args true h2;unfold zcp;dsimp only;have h4:=zlB c.index;split<;>split<;>simp only[xaa,xab,xah]<;>omega
theorem zli {w:List Data}:∀(l:List Ctor) (b:Bool),(∀c∈l,(zcp w c).length≤20)→(zb5 w b l).length≤21*l.length
 | [],_,_=>by simp[zb5]
 |c::r,b,h=>by
  have h1:=h c (by simp);have h2:=zli r false (fun x hx=>h x (by simp[hx]));simp only[zb5,xaa,xab];have h3:(if b=true then ([]:Str) else [124]).length≤1:=by split<;>simp
  omega
theorem zf6 {n:Int} (h0:0≤n) (h9:n≤9):FnD Tryz.prog 300 [.d (.i n)] [] (.d (.str (decV n))) []:=by
 refine bd Tryz.f300 31 [30] [] fun w0 F0 own kept hk=>?_;refine sq ?_ ?_<;>intro h1 h1p h1s;try simp only[Q] at h1p
 exfalso;omega;try simp only[Q] at h1p
 refine sq ?_ ?_<;>intro h2 h2p h2s;try simp only[Q] at h2p
 exfalso;omega;try simp only[Q] at h2p
 refine xaj (ι:=Unit) hk (fun x=>[(0,.d (.i n)),(3,.d (.str []))]) [12,13,14,15,16,17,18,19,20,21,22,23] (fun x=>[]) (fun x=>True) (fun x=>0) () trivial ⟨⟨_,rfl,xap ?_⟩,⟨⟨_,rfl,xaq ?_⟩,trivial⟩⟩ trivial (fun x=>rfl) (fun x hg1=>?_);iterate 2 focus (first|rfl|omega)
 refine evc [30] [] ?_;refine sq ?_ ?_<;>intro h3 h3p h3s;try simp only[Q] at h3p
 exfalso;omega;try simp only[Q] at h3p
 refine ar ?_;refine xaL (by rw[un3];rfl) un5 .none rfl rfl ?_;refine si [0] [_] sl41 tz5 ?_;refine Walk.bytesStr sl41 un9 (by kernel_rfl) .none rfl rfl rfl (by first|rfl|exact zpc _) ?_;refine evs [30] [] ?_;refine xaJ .none rfl rfl rfl (by simp[strN]) ?_;refine evs [30] [] ?_;refine rn0 (r1 rfl) (.eqd ?_);rotate_left;all_goals (rfl)
theorem znt {n:Int} (h0 : -1≤n) (h9:n≤9):FnD Tryz.prog 315 [.d (.i n)] [] (.d (.str (zka n))) []:=by
 refine bd Tryz.f315 10 [] [] fun w0 F0 own kept hk=>?_;refine sq ?_ ?_<;>intro h1 h1p h1s;try simp only[Q] at h1p
 refine rn0 (r1 rfl) (.eqd ?_);rotate_left;try simp only[Q] at h1p
 refine sq ?_ ?_<;>intro h2 h2p h2s;try simp only[Q] at h2p
 refine rn0 (r1 rfl) (.eqd ?_);rotate_left;try simp only[Q] at h2p
 refine wc zqf (zf6 (by omega) (by omega)) rfl rfl ?_;refine ev ?_;refine rn0 (r1 rfl) (.eqd ?_);rotate_left;all_goals (refine congrArg D.str ?_;unfold zka;first|(rw[if_pos (by omega)];done)|(rw[if_neg (by omega),if_pos (by omega)];done)|(rw[if_neg (by omega),if_neg (by omega)];done)|(rw[if_pos (by omega)];rfl))
theorem ziN {w:List Data} (hb:TB w){a k:Int} (ha:a = -1∨(0≤a∧a.toNat<w.length)) (hk : -1≤k∧k≤3):FnD Tryz.prog 299 [.d (zaj w),.agg [.d (.i a),.d (.i k)]] [] (.d (.str (zgF w ⟨a,k⟩))) []:=by
 have hl:=zmU k;have hdn:a≠ -1→(nth w a.toNat).name.length≤1:=fun h=>(hb.dn _ (zaf (l:=w) (i:=a.toNat) (by omega))).1;refine bd Tryz.f299 18 [17] [] fun w0 F0 own kept hk=>?_;refine bx 3003 ?_;refine evs [17] [] ?_;refine sq ?_ ?_<;>intro h1 h1p h1s;try simp only[Q] at h1p
 refine rn0 (r1 rfl) (.eqd ?_);rotate_left;try simp only[Q] at h1p
 refine xaV (i:=a.toNat) sl31 .none rfl rfl rfl (by omega) (zas (by omega)) rfl ?_;refine evd [17] [] ?_;refine wc zxI (znt (by omega) (by omega)) rfl rfl ?_;refine xaJ .none rfl rfl rfl (by have:=hdn h1p;omega) ?_;refine evd [17] [] ?_;refine dr ?_;refine rn0 (r1 rfl) (.eqd ?_);rotate_left;all_goals (refine congrArg D.str ?_;unfold zgF;first|(rw[if_pos (by assumption)];done)|(rw[if_neg (by assumption)];done))
theorem zdp {w:List Data} (hb:TB w){s:Str}{l:List Ty}{k:Int} (hs:s.length≤5) (hl:l.length≤3) (hk:0≤k∧k≤3)
  (hl2:∀t∈l,(t.data = -1∨(0≤t.data∧t.data.toNat<w.length))∧ -1≤t.index∧t.index≤3):
  FnD Tryz.prog 270 [.d (zaj w),.agg [.d (.str s),.d (zcn l),.d (.i k)]] [] (.d (.str (zcp w ⟨s,l,k⟩))) []:=by
 have hall:=zhr hb l true (fun t ht=>(hl2 t ht).1);have hdl:=zlB k;refine bd Tryz.f270 47 [19,21,30,36,41,45] [] fun w0 F0 own kept hk=>?_;refine bx 3003 ?_;refine evs [19,21,30,36,41,45] [] ?_;refine xaj (ι:=List (Ty)×List (Ty)×(Str)) hk (fun x=>[(6,.d (.i (x.1.length:Int))),(5,.d (.str x.2.2))]) [9,10,11,12,13,14,15,16,17,18,19,20,21,22,23,24,25,26,27,28,29,30] (fun x=>[]) (fun x=>x.1++x.2.1=l∧x.2.2.length≤5+3*x.1.length∧x.2.2++zds w (decide (x.1.length=0)) x.2.1=s++zds w true l) (fun x=>x.2.1.length) ([],l,s) ⟨by simp,by simp;omega,by simp⟩ ⟨⟨_,rfl,xap ?_⟩,⟨⟨_,rfl,xaq ?_⟩,trivial⟩⟩ trivial (fun x=>rfl) (fun x hg1=>?_);iterate 2 focus (first|rfl|(dsimp only;rw[if_pos (by omega),List.append_assoc];done))
 obtain⟨pre,rest,o⟩:=x;dsimp only at hg1 ⊢;refine evc [19,21,30,36,41,45] [] ?_;refine sq ?_ ?_<;>intro h1 h1p h1s;try simp only[Q] at h1p
 rcases rest with _|⟨y,rest⟩
 ·exfalso;simp_all
 have hq:(zgF w ⟨y.data,y.index⟩).length≤2:=zhc hb (hl2 y (by rw[←hg1.1];simp)).1;refine sq ?_ ?_<;>intro h2 h2p h2s;try simp only[Q] at h2p
 refine xaJ .none rfl rfl rfl (by have hz:=congrArg List.length hg1.1;simp only[xaa,xab,xah] at hz ⊢;omega) ?_;refine evs [19,21,30,36,41,45] [] ?_;refine xaV zaT .none rfl rfl rfl rfl (zaE hg1.1) rfl ?_;refine evs [19,21,30,36,41,45] [] ?_;refine wc ztE (ziN hb (a:=y.data) (k:=y.index) (hl2 y (by rw[←hg1.1];simp)).1 (hl2 y (by rw[←hg1.1];simp)).2) rfl rfl ?_;refine xaJ .none rfl rfl rfl (by have hz:=congrArg List.length hg1.1;simp only[xaa,xab,xah] at hz ⊢;omega) ?_;refine evs [19,21,30,36,41,45] [] ?_;refine ar ?_;refine Exists.intro ((pre++[y],rest,o++((if pre.length=0 then [40] else [44])++zgF w y))) ⟨⟨(by have hz:=hg1.1;rw[←hz];simp),⟨(by have hq:=zhc hb (hl2 y (by rw[←hg1.1];simp)).1;have h3:(if pre.length=0 then [(40:UInt8)] else [44]).length=1:=(by split<;>rfl);simp only[xaa,xab,xah];omega),(by rw[←hg1.2.2];simp[zds])⟩⟩,(by simp),sx ⟨⟨_,rfl,xap ?_⟩,⟨⟨_,rfl,xaq ?_⟩,trivial⟩⟩ trivial⟩;iterate 2 focus (first|(simp;done)|(dsimp only;rw[if_pos (by omega),List.append_assoc];done))
 try simp only[Q] at h2p
 refine xaJ .none rfl rfl rfl (by have hz:=congrArg List.length hg1.1;simp only[xaa,xab,xah] at hz ⊢;omega) ?_;refine evs [19,21,30,36,41,45] [] ?_;refine xaV zaT .none rfl rfl rfl rfl (zaE hg1.1) rfl ?_;refine evs [19,21,30,36,41,45] [] ?_;refine wc ztE (ziN hb (a:=y.data) (k:=y.index) (hl2 y (by rw[←hg1.1];simp)).1 (hl2 y (by rw[←hg1.1];simp)).2) rfl rfl ?_;refine xaJ .none rfl rfl rfl (by have hz:=congrArg List.length hg1.1;simp only[xaa,xab,xah] at hz ⊢;omega) ?_;refine evs [19,21,30,36,41,45] [] ?_;refine ar ?_;refine Exists.intro ((pre++[y],rest,o++((if pre.length=0 then [40] else [44])++zgF w y))) ⟨⟨(by have hz:=hg1.1;rw[←hz];simp),⟨(by have hq:=zhc hb (hl2 y (by rw[←hg1.1];simp)).1;have h3:(if pre.length=0 then [(40:UInt8)] else [44]).length=1:=(by split<;>rfl);simp only[xaa,xab,xah];omega),(by rw[←hg1.2.2];simp[zds])⟩⟩,(by simp),sx ⟨⟨_,rfl,xap ?_⟩,⟨⟨_,rfl,xaq ?_⟩,trivial⟩⟩ trivial⟩;iterate 2 focus (first|(simp;done)|(dsimp only;rw[if_pos (by omega),List.append_assoc];done)|(dsimp only;rw[if_neg (by omega),List.append_assoc];done))
 try simp only[Q] at h1p
 have hrest:rest=[]:=by
  rcases rest with _|⟨a,b⟩
  ·rfl
  ·exfalso;have hz:=congrArg List.length (hg1.1);simp only[xaa,xab,xac] at hz;omega
 subst hrest;refine sq ?_ ?_<;>intro h3 h3p h3s;try simp only[Q] at h3p
 refine xaJ .none rfl rfl rfl (by have hz:=congrArg List.length hg1.1;simp only[xaa,xab,xah] at hz ⊢;omega) ?_;refine evs [19,21,30,36,41,45] [] ?_;refine sq ?_ ?_<;>intro h4 h4p h4s;try simp only[Q] at h4p
 refine xaJ .none rfl rfl rfl (by have hz:=congrArg List.length hg1.1;simp only[xaa,xab,xah] at hz ⊢;omega) ?_;refine evs [19,21,30,36,41,45] [] ?_;refine wc zqf (zf6 (by omega) (by omega)) rfl rfl ?_;refine xaJ .none rfl rfl rfl (by have hz:=congrArg List.length hg1.1;simp only[xaa,xab,xah] at hz ⊢;omega) ?_;refine evs [19,21,30,36,41,45] [] ?_;refine rn0 (r1 rfl) (.eqd ?_);rotate_left;try simp only[Q] at h4p
 refine rn0 (r1 rfl) (.eqd ?_);rotate_left;try simp only[Q] at h3p
 refine sq ?_ ?_<;>intro h5 h5p h5s;try simp only[Q] at h5p
 refine xaJ .none rfl rfl rfl (by have hz:=congrArg List.length hg1.1;simp only[xaa,xab,xah] at hz ⊢;omega) ?_;refine evs [19,21,30,36,41,45] [] ?_;refine wc zqf (zf6 (by omega) (by omega)) rfl rfl ?_;refine xaJ .none rfl rfl rfl (by have hz:=congrArg List.length hg1.1;simp only[xaa,xab,xah] at hz ⊢;omega) ?_;refine evs [19,21,30,36,41,45] [] ?_;refine rn0 (r1 rfl) (.eqd ?_);rotate_left;try simp only[Q] at h5p
 refine rn0 (r1 rfl) (.eqd ?_);rotate_left;all_goals (refine congrArg D.str ?_;have hfin:=hg1.2.2;simp only[zds,List.append_nil] at hfin;unfold zcp;dsimp only;rw[←hfin];first|(rw[if_pos (by omega),if_pos (by simp at *;omega)];done)|(rw[if_pos (by omega),if_neg (by simp at *;omega)];done)|(rw[if_neg (by omega),if_pos (by simp at *;omega)];done)|(rw[if_neg (by omega),if_neg (by simp at *;omega)];done))
theorem zou {w:List Data} (hb:TB w):FnD Tryz.prog 210 [.d (zaj w)] [] (.d (.str (zfk w))) []:=by
 have hwl:=hb.len;have hct:∀d∈w,∀c∈d.ctors,(zcp w c).length≤20:=fun d hd c hc=>zqm hb ⟨(hb.cn d hd c hc).1,(hb.cn d hd c hc).2.1⟩ (fun t ht=>(hb.ar d hd c hc t ht).1);refine bd Tryz.f210 51 [15,22,23,37,49] [] fun w0 F0 own kept hk=>?_;refine xaj (ι:=List (Data)×List (Data)×(Str)) hk (fun x=>[(4,.d (.i (x.1.length:Int))),(3,.d (.str x.2.2))]) [5,6,7,8,9,10,11,12,13,14,15,16,17,18,19,20,21,22,23,24,25,26,27,28,29,30,31,32,33,34,35,36,37,38,39,40,41,42,43,44,45,46,47,48,49] (fun x=>[]) (fun x=>x.1++x.2.1=w∧x.2.2.length≤100*x.1.length∧x.2.2++ziA w (decide (x.1.length=0)) x.2.1=zfk w) (fun x=>x.2.1.length) ([],w,[]) ⟨by simp,by simp,by simp[zfk]⟩ ⟨⟨_,rfl,xap ?_⟩,⟨⟨_,rfl,xaq ?_⟩,trivial⟩⟩ trivial (fun x=>rfl) (fun x hg1=>?_);iterate 2 focus (first|rfl|(rw[hfin];simp;done))
 obtain⟨pre,rest,o⟩:=x;dsimp only at hg1 ⊢;refine evc [15,22,23,37,49] [] ?_;refine sq ?_ ?_<;>intro h1 h1p h1s;try simp only[Q] at h1p
 rcases rest with _|⟨y,rest⟩
 ·exfalso;simp_all
 have hym:y∈w:=(by rw[←hg1.1];simp);have hyd:=hb.dn y hym;have hpl:pre.length<4:=(by omega);have hcl:=zli (w:=w) y.ctors true (hct y hym);refine sq ?_ ?_<;>intro h2 h2p h2s;try simp only[Q] at h2p
 refine xaJ .none rfl rfl rfl (by(try simp only[xaa,xab,xah]);omega) ?_;refine evs [15,22,23,37,49] [] ?_;refine xaV sl31 .none rfl rfl rfl rfl (zaE hg1.1) rfl ?_;refine evs [15,22,23,37,49] [] ?_;refine xaJ .none rfl rfl rfl (by(try simp only[xaa,xab,xah]);omega) ?_;refine xaJ .none rfl rfl rfl (by(try simp only[xaa,xab,xah]);omega) ?_;refine evs [15,22,23,37,49] [] ?_;refine xaj (ι:=List (Ctor)×List (Ctor)×(Str)) hk (fun x=>[(5,.d (.i (x.1.length:Int))),(3,.d (.str x.2.2))]) [24,25,26,27,28,29,30,31,32,33,34,35,36,37,38,39,40,41,42,43,44,45,46,47,48,49] (fun x=>[]) (fun x=>x.1++x.2.1=y.ctors∧x.2.2.length≤100*pre.length+4+21*x.1.length∧x.2.2++zb5 w (decide (x.1.length=0)) x.2.1=(o++((if pre.length=0 then [] else [59])++(y.name++[61])))++zb5 w true y.ctors) (fun x=>x.2.1.length) ([],y.ctors,o++((if pre.length=0 then [] else [59])++(y.name++[61]))) ⟨by simp,(by have h3:(if pre.length=0 then ([]:Str) else [59]).length≤1:=(by split<;>simp);simp only[xaa,xab,xah];omega),by simp⟩ ⟨⟨_,rfl,xap ?_⟩,⟨⟨_,rfl,xaq ?_⟩,trivial⟩⟩ trivial (fun x=>rfl) (fun x hg2=>?_);iterate 2 focus (first|rfl|(rw[if_neg (by omega)];simp;done))
 obtain⟨pre2,rest2,q⟩:=x;dsimp only at hg2 ⊢;refine evc [15,22,23,37,49] [] ?_;refine xaV sl31 .none rfl rfl rfl rfl (zaE hg1.1) rfl ?_;refine evs [15,22,23,37,49] [] ?_;refine sq ?_ ?_<;>intro h3 h3p h3s;try simp only[Q] at h3p
 rcases rest2 with _|⟨c,rest2⟩
 ·exfalso;simp_all
 have hcm:=hct y hym c (by rw[←hg2.1];simp);have hce:(zcp w ⟨c.name,c.args,c.index⟩).length≤20:=hcm;have hp2:=congrArg List.length hg2.1;simp only[xaa,xab] at hp2;refine sq ?_ ?_<;>intro h4 h4p h4s;try simp only[Q] at h4p
 refine xaJ .none rfl rfl rfl (by(try simp only[xaa,xab,xah]);omega) ?_;refine evs [15,22,23,37,49] [] ?_;refine xaV sl31 .none rfl rfl rfl rfl (zaE hg1.1) rfl ?_;refine evs [15,22,23,37,49] [] ?_;refine xaV sl95 .none rfl rfl rfl rfl (zaE hg2.1) rfl ?_;refine evs [15,22,23,37,49] [] ?_;refine wc zmp (zdp hb (s:=c.name) (l:=c.args) (k:=c.index) (hb.cn y hym c (by rw[←hg2.1];simp)).1 (hb.cn y hym c (by rw[←hg2.1];simp)).2.1 (hb.cn y hym c (by rw[←hg2.1];simp)).2.2 (hb.ar y hym c (by rw[←hg2.1];simp))) rfl rfl ?_;refine xaJ .none rfl rfl rfl (by(try simp only[xaa,xab,xah]);omega) ?_;refine evs [15,22,23,37,49] [] ?_;refine ar ?_;refine Exists.intro ((pre2++[c],rest2,q++((if pre2.length=0 then [] else [124])++zcp w c))) ⟨⟨(by have hz:=hg2.1;rw[←hz];simp),⟨(by have h3:(if pre2.length=0 then ([]:Str) else [124]).length≤1:=(by split<;>simp);simp only[xaa,xab,xah];omega),(by rw[←hg2.2.2];simp[zb5])⟩⟩,(by simp),sx ⟨⟨_,rfl,xap ?_⟩,⟨⟨_,rfl,xaq ?_⟩,trivial⟩⟩ trivial⟩;iterate 2 focus (first|rfl|(rw[if_neg (by omega)];simp;done))
 try simp only[Q] at h4p
 refine xaV sl31 .none rfl rfl rfl rfl (zaE hg1.1) rfl ?_;refine evs [15,22,23,37,49] [] ?_;refine xaV sl95 .none rfl rfl rfl rfl (zaE hg2.1) rfl ?_;refine evs [15,22,23,37,49] [] ?_;refine wc zmp (zdp hb (s:=c.name) (l:=c.args) (k:=c.index) (hb.cn y hym c (by rw[←hg2.1];simp)).1 (hb.cn y hym c (by rw[←hg2.1];simp)).2.1 (hb.cn y hym c (by rw[←hg2.1];simp)).2.2 (hb.ar y hym c (by rw[←hg2.1];simp))) rfl rfl ?_;refine xaJ .none rfl rfl rfl (by(try simp only[xaa,xab,xah]);omega) ?_;refine evs [15,22,23,37,49] [] ?_;refine ar ?_;refine Exists.intro ((pre2++[c],rest2,q++((if pre2.length=0 then [] else [124])++zcp w c))) ⟨⟨(by have hz:=hg2.1;rw[←hz];simp),⟨(by have h3:(if pre2.length=0 then ([]:Str) else [124]).length≤1:=(by split<;>simp);simp only[xaa,xab,xah];omega),(by rw[←hg2.2.2];simp[zb5])⟩⟩,(by simp),sx ⟨⟨_,rfl,xap ?_⟩,⟨⟨_,rfl,xaq ?_⟩,trivial⟩⟩ trivial⟩;iterate 2 focus (first|rfl|(rw[if_neg (by omega)];simp;done)|(rw[if_pos (by omega)];simp;done))
 try simp only[Q] at h3p
 have hrest2:rest2=[]:=by
  rcases rest2 with _|⟨a,b⟩
  ·rfl
  ·exfalso;have hz:=congrArg List.length (hg2.1);simp only[xaa,xab,xac] at hz;omega
 subst hrest2;refine ar ?_;have hfin:=hg2.2.2;simp only[zb5,List.append_nil] at hfin;refine Exists.intro ((pre++[y],rest,o++((if pre.length=0 then [] else [59])++(y.name++[61])++zb5 w true y.ctors))) ⟨⟨(by have hz:=hg1.1;rw[←hz];simp),⟨(by have h3:(if pre.length=0 then ([]:Str) else [59]).length≤1:=(by split<;>simp);simp only[xaa,xab,xah];omega),(by rw[←hg1.2.2];simp[ziA])⟩⟩,(by simp),sx ⟨⟨_,rfl,xap ?_⟩,⟨⟨_,rfl,xaq ?_⟩,trivial⟩⟩ trivial⟩;iterate 2 focus (first|rfl|(simp;done)|(rw[hfin];simp;done))
 try simp only[Q] at h2p
 refine xaV sl31 .none rfl rfl rfl rfl (zaE hg1.1) rfl ?_;refine evs [15,22,23,37,49] [] ?_;refine xaJ .none rfl rfl rfl (by(try simp only[xaa,xab,xah]);omega) ?_;refine xaJ .none rfl rfl rfl (by(try simp only[xaa,xab,xah]);omega) ?_;refine evs [15,22,23,37,49] [] ?_;refine xaj (ι:=List (Ctor)×List (Ctor)×(Str)) hk (fun x=>[(5,.d (.i (x.1.length:Int))),(3,.d (.str x.2.2))]) [24,25,26,27,28,29,30,31,32,33,34,35,36,37,38,39,40,41,42,43,44,45,46,47,48,49] (fun x=>[]) (fun x=>x.1++x.2.1=y.ctors∧x.2.2.length≤100*pre.length+4+21*x.1.length∧x.2.2++zb5 w (decide (x.1.length=0)) x.2.1=(o++((if pre.length=0 then [] else [59])++(y.name++[61])))++zb5 w true y.ctors) (fun x=>x.2.1.length) ([],y.ctors,o++((if pre.length=0 then [] else [59])++(y.name++[61]))) ⟨by simp,(by have h3:(if pre.length=0 then ([]:Str) else [59]).length≤1:=(by split<;>simp);simp only[xaa,xab,xah];omega),by simp⟩ ⟨⟨_,rfl,xap ?_⟩,⟨⟨_,rfl,xaq ?_⟩,trivial⟩⟩ trivial (fun x=>rfl) (fun x hg2=>?_);iterate 2 focus (first|rfl|(rw[if_neg (by omega)];simp;done)|(rw[if_pos (by omega)];simp;done))
 obtain⟨pre2,rest2,q⟩:=x;dsimp only at hg2 ⊢;refine evc [15,22,23,37,49] [] ?_;refine xaV sl31 .none rfl rfl rfl rfl (zaE hg1.1) rfl ?_;refine evs [15,22,23,37,49] [] ?_;refine sq ?_ ?_<;>intro h5 h5p h5s;try simp only[Q] at h5p
 rcases rest2 with _|⟨c,rest2⟩
 ·exfalso;simp_all
 have hcm:=hct y hym c (by rw[←hg2.1];simp);have hce:(zcp w ⟨c.name,c.args,c.index⟩).length≤20:=hcm;have hp2:=congrArg List.length hg2.1;simp only[xaa,xab] at hp2;refine sq ?_ ?_<;>intro h6 h6p h6s;try simp only[Q] at h6p
 refine xaJ .none rfl rfl rfl (by(try simp only[xaa,xab,xah]);omega) ?_;refine evs [15,22,23,37,49] [] ?_;refine xaV sl31 .none rfl rfl rfl rfl (zaE hg1.1) rfl ?_;refine evs [15,22,23,37,49] [] ?_;refine xaV sl95 .none rfl rfl rfl rfl (zaE hg2.1) rfl ?_;refine evs [15,22,23,37,49] [] ?_;refine wc zmp (zdp hb (s:=c.name) (l:=c.args) (k:=c.index) (hb.cn y hym c (by rw[←hg2.1];simp)).1 (hb.cn y hym c (by rw[←hg2.1];simp)).2.1 (hb.cn y hym c (by rw[←hg2.1];simp)).2.2 (hb.ar y hym c (by rw[←hg2.1];simp))) rfl rfl ?_;refine xaJ .none rfl rfl rfl (by(try simp only[xaa,xab,xah]);omega) ?_;refine evs [15,22,23,37,49] [] ?_;refine ar ?_;refine Exists.intro ((pre2++[c],rest2,q++((if pre2.length=0 then [] else [124])++zcp w c))) ⟨⟨(by have hz:=hg2.1;rw[←hz];simp),⟨(by have h3:(if pre2.length=0 then ([]:Str) else [124]).length≤1:=(by split<;>simp);simp only[xaa,xab,xah];omega),(by rw[←hg2.2.2];simp[zb5])⟩⟩,(by simp),sx ⟨⟨_,rfl,xap ?_⟩,⟨⟨_,rfl,xaq ?_⟩,trivial⟩⟩ trivial⟩;iterate 2 focus (first|rfl|(rw[if_neg (by omega)];simp;done))
 try simp only[Q] at h6p
 refine xaV sl31 .none rfl rfl rfl rfl (zaE hg1.1) rfl ?_;refine evs [15,22,23,37,49] [] ?_;refine xaV sl95 .none rfl rfl rfl rfl (zaE hg2.1) rfl ?_;refine evs [15,22,23,37,49] [] ?_;refine wc zmp (zdp hb (s:=c.name) (l:=c.args) (k:=c.index) (hb.cn y hym c (by rw[←hg2.1];simp)).1 (hb.cn y hym c (by rw[←hg2.1];simp)).2.1 (hb.cn y hym c (by rw[←hg2.1];simp)).2.2 (hb.ar y hym c (by rw[←hg2.1];simp))) rfl rfl ?_;refine xaJ .none rfl rfl rfl (by(try simp only[xaa,xab,xah]);omega) ?_;refine evs [15,22,23,37,49] [] ?_;refine ar ?_;refine Exists.intro ((pre2++[c],rest2,q++((if pre2.length=0 then [] else [124])++zcp w c))) ⟨⟨(by have hz:=hg2.1;rw[←hz];simp),⟨(by have h3:(if pre2.length=0 then ([]:Str) else [124]).length≤1:=(by split<;>simp);simp only[xaa,xab,xah];omega),(by rw[←hg2.2.2];simp[zb5])⟩⟩,(by simp),sx ⟨⟨_,rfl,xap ?_⟩,⟨⟨_,rfl,xaq ?_⟩,trivial⟩⟩ trivial⟩;iterate 2 focus (first|rfl|(rw[if_neg (by omega)];simp;done)|(rw[if_pos (by omega)];simp;done))
 try simp only[Q] at h5p
 have hrest2:rest2=[]:=by
  rcases rest2 with _|⟨a,b⟩
  ·rfl
  ·exfalso;have hz:=congrArg List.length (hg2.1);simp only[xaa,xab,xac] at hz;omega
 subst hrest2;refine ar ?_;have hfin:=hg2.2.2;simp only[zb5,List.append_nil] at hfin;refine Exists.intro ((pre++[y],rest,o++((if pre.length=0 then [] else [59])++(y.name++[61])++zb5 w true y.ctors))) ⟨⟨(by have hz:=hg1.1;rw[←hz];simp),⟨(by have h3:(if pre.length=0 then ([]:Str) else [59]).length≤1:=(by split<;>simp);simp only[xaa,xab,xah];omega),(by rw[←hg1.2.2];simp[ziA])⟩⟩,(by simp),sx ⟨⟨_,rfl,xap ?_⟩,⟨⟨_,rfl,xaq ?_⟩,trivial⟩⟩ trivial⟩;iterate 2 focus (first|rfl|(simp;done)|(rw[hfin];simp;done))
 try simp only[Q] at h1p
 have hrest:rest=[]:=by
  rcases rest with _|⟨a,b⟩
  ·rfl
  ·exfalso;have hz:=congrArg List.length (hg1.1);simp only[xaa,xab,xac] at hz;omega
 subst hrest;refine rn0 (r1 rfl) (.eqd ?_);rotate_left;all_goals (refine congrArg D.str ?_;have hfin:=hg1.2.2;simp only[ziA,List.append_nil] at hfin;exact hfin)
end Go.Proofs.YtcnjkjdmbnhcaaaGreat
