/-
  THE ABSTRACT WALK AND THE WALKS, part 4 of 5: the parts F8, Wu, F9, F71, F72, F74, F75, F76, F77, F78, F10, F73, F18, F19, F31, F32, F33, F34, F35, F36, F37, F82, F83, F38, F79, F59, F80, F11, F17, F43.
-/
import Derived.Test.YtpgdedpljcedpaaGreatT503
namespace Go.Proofs.YtpgdedpljcedpaaGreat
open Go
set_option linter.unusedSimpArgs false
set_option linter.unusedVariables false
set_option maxRecDepth 100000
set_option maxHeartbeats 2000000
def zeN (w:List Data) (n:Nat) (t:Ty) (c:Int):List Val:=(zb1 ((zab w t c).map (zaJ w n))).map (Val.mk c 0)
theorem zjq (w:List Data) (n:Nat) (t:Ty) (c:Int):(zb1 ((zab w t c).map (zaJ w n))).length=(zeN w n t c).length:=by unfold zeN;simp
theorem zkP {w:List Data}{n:Nat}{t:Ty} (ht:t.data≠ -1):zaJ w (n+1) t=(zaM w t).flatMap (zeN w n t):=by rw[zaJ,if_neg ht];rfl
theorem zrt {w:List Data}{n:Nat}{t:Ty}{c:Int} (h:((zab w t c).any fun a=>decide (zbu w n a=0))=true):zeN w n t c=[]:=by
 unfold zeN;rw[zs1 h];rfl
theorem zvr {w:List Data}{n:Nat}{t:Ty} (ht:t.data≠ -1) (hc:zbu w (n+1) t<=400){pre rest:List Int}{c:Int} (he:pre++c::rest=zaM w t):
  (pre.flatMap (zeN w n t)).length+(zeN w n t c).length<=400:=by
 have h:=zec hc;rw[zkP ht,<-he] at h;simp at h;have h2:(pre.flatMap (zeN w n t)).length=(pre.map fun a=>(zeN w n t a).length).sum:=zkO _ _;omega
theorem zoi:∀ {ls:List (List Val)}{o:List Val},o∈zb1 ls->o.length=ls.length:=by
 intro ls;have key:∀(ls acc:List (List Val)) (m:Nat),(∀o∈acc,o.length=m)->∀o∈ls.foldl (fun acc l=>acc.flatMap fun o=>l.map fun y=>o++[y]) acc,o.length=m+ls.length:=by
  intro ls;induction ls with
  |nil=>intro acc m h o ho;exact h o ho
  |cons l r ih=>
   intro acc m h o ho;have:=ih _ (m+1) (fun o' ho'=>by
    simp only[List.mem_flatMap,List.mem_map] at ho';obtain⟨p,hp,q,_,rfl⟩:=ho';simp[h p hp]) o ho
   simp only[xab];omega
 intro o ho;have:=key ls [[]] 0 (by simp) o ho;simpa using this
theorem ztM {c:Int}{ls:List (List Val)}{v:Val} (h:v∈(zb1 ls).map (Val.mk c 0)):v.kids.length=ls.length:=by
 obtain⟨o,ho,rfl⟩:=List.mem_map.1 h;exact zoi ho
def zeO (c:Int) (kids:List Val) (v:Val):List Val:=kids.map fun q=>Val.mk c 0 (v.kids++[q])
theorem zjw (c:Int) (ls:List (List Val)) (l:List Val):((zb1 ls).map (Val.mk c 0)).flatMap (zeO c l)=(zb1 (ls++[l])).map (Val.mk c 0):=by
 unfold zb1;rw[List.foldl_append];generalize ls.foldl (fun acc l=>acc.flatMap fun o=>l.map fun y=>o++[y]) [[]]=acc;simp only[List.foldl_cons,List.foldl_nil,List.flatMap_map,List.map_flatMap,List.map_map];rfl
theorem ztP {c:Int}{L K pre3 rest3 pre4 rest4:List Val}{v q:Val}{N:Nat} (h3:pre3++v::rest3=L) (h4:pre4++q::rest4=K) (hN:(L.flatMap (zeO c K)).length<=N):
  (pre3.flatMap (zeO c K)++pre4.map fun q=>Val.mk c 0 (v.kids++[q])).length+1<=N:=by
 subst h3;have e:((pre3++v::rest3).flatMap (zeO c K)).length=(pre3.flatMap (zeO c K)).length+(K.length+(rest3.flatMap (zeO c K)).length):=by simp[zeO]
 have e2:K.length=pre4.length+(rest4.length+1):=by rw[<-h4];simp
 simp only[xaa,xac] at *;omega
theorem zle {w:List Data} (hw:WT w){n:Nat}{m:Int} (hm:m=n+1) (hn:n<=1000){a k:Int} (ht:TyIn w.length ⟨a,k⟩):
  FnD Tryz.prog 109 [.agg [.d (.i a),.d (.i k)],.ref 3003 0,.ref 3005 0] [(3003,some (.box [.d (zan w)])),(3005,some (.box [.d (.i m)]))] (.d (.bool (decide (zbu w n ⟨a,k⟩=0)))) []:=by
 refine bd Tryz.f109 11 [] [] fun w0 F0 own kept hk=>?_;refine bx 3103 ?_;refine ev ?_;refine ar ?_;refine wc zro (zdV hw n (by omega) hn ht) rfl rfl ?_;refine ev ?_;focus (refine rn [] (r1 rfl) (.eqd ?_) ⟨rfl,rfl⟩ (SubH.get ⟨rfl,⟨rfl,trivial⟩⟩) (fun _ h=>h);all_goals ((simp[];done)))
theorem zh5 {w:List Data} (hw:WT w):∀(n:Nat){a k m:Int},m=n->n<=1000->TyIn w.length ⟨a,k⟩->zbu w n ⟨a,k⟩<=400->
  FnD Tryz.prog 62 [.d (zan w),.agg [.d (.i a),.d (.i k)],.d (.i m)] [] (.d (zbG (zaJ w n ⟨a,k⟩))) []
 |0,a,k,m,hm,_,_,_=>by
  refine bd Tryz.f62 97 [7] [] fun w0 F0 own kept hk=>?_;refine bx 3003 ?_;refine bx 3004 ?_;refine bx 3005 ?_;refine evs [7] [] ?_;refine xaF 1 3 .none rfl rfl ?_;refine tv ?_;refine sq ?_ ?_<;>intro h1 h1p h1s<;>(try simp only[Q] at h1p);refine rn0 (r1 rfl) (.nild ?_);rotate_left;exfalso;simp at h1;omega;all_goals (rfl)
 |n+1,a,k,m,hm,hn,ht,hc=>by
  rcases ht with ha|⟨d,hd,hlt⟩
  ·have ha':a = -1:=ha;subst ha';refine bd Tryz.f62 97 [7] [] fun w0 F0 own kept hk=>?_;refine bx 3003 ?_;refine bx 3004 ?_;refine bx 3005 ?_;refine evs [7] [] ?_;refine xaF 1 3 .none rfl rfl ?_;refine tv ?_;refine sq ?_ ?_<;>intro h1 h1p h1s<;>(try simp only[Q] at h1p);exfalso;simp at h1;omega;refine sq ?_ ?_<;>intro h2 h2p h2s<;>(try simp only[Q] at h2p);refine xak (ι:=Nat) hk (fun i=>[(26,.d (.i (i:Int))),(7,.gl 1 (((List.range i).map fun(n:Nat)=>Val.mk (-1) n []).map Val.cc))]) [8,27,28,29,30,31,32,33,34] (fun i=>[(1,some (.tok ((((List.range i).map fun(n:Nat)=>Val.mk (-1) n []).map Val.cc)).length 3))]) (fun i=>i<=10) (fun i=>10-i) 0 (by simp) ⟨⟨_,rfl,xar ?_⟩,⟨⟨_,rfl,LeA.glg ?_⟩,trivial⟩⟩ ⟨zaa ?_,trivial⟩ (fun x=>rfl) (fun i hg1=>?_);iterate 3 focus ((simp[List.range_succ,Val.ctor,Val.num,Val.kids];done))
   refine evc [7] [] ?_;refine sq ?_ ?_<;>intro h3 h3p h3s<;>(try simp only[Q] at h3p);refine wc zvK (znk) rfl rfl ?_;refine si [0] [_] sl37 tz44 ?_;refine ap sl37 zz44 rfl rfl rfl (by simp) (by simp;omega) ?_;refine asg ?_;refine tv ?_;refine ar ?_;refine xah (i+1) ⟨?_, ?_,sx ⟨⟨_,rfl,xar ?_⟩,⟨⟨_,rfl,LeA.glg ?_⟩,trivial⟩⟩ ⟨zaa ?_,trivial⟩⟩;iterate 2 focus (first|omega|(simp_all;done))
   iterate 3 focus ((simp[List.range_succ,Val.ctor,Val.num,Val.kids];done))
   refine rn0 (r1 rfl) (.gld ?_);rotate_left;exact absurd h2 (by simp);all_goals (have e:i=10:=(by omega);subst e;rw[zaJ,if_pos rfl,Val.cs_cc];rfl)
  have hd':a=(d:Int):=hd;subst hd';have hne:(⟨d,k⟩:Ty).data≠ -1:=by show(d:Int)≠ -1;omega
  have hcl:=zfW hw (d:=d) (k:=k);refine bd Tryz.f62 97 [7,16] [] fun w0 F0 own kept hk=>?_;refine bx 3003 ?_;refine bx 3004 ?_;refine bx 3005 ?_;refine evs [7,16] [] ?_;refine xaF 1 3 .none rfl rfl ?_;refine tv ?_;refine sq ?_ ?_<;>intro h1 h1p h1s<;>(try simp only[Q,Val.cs_len,Ty.eta] at h1p);exfalso;simp at h1;omega;refine sq ?_ ?_<;>intro h2 h2p h2s<;>(try simp only[Q,Val.cs_len,Ty.eta] at h2p);exfalso;simp at h2<;>omega;refine wc zfe (zct hw hlt) rfl rfl ?_;refine evs [7,16] [] ?_;refine xak (ι:=List (Int)×List (Int)) hk (fun x=>[(40,.d (.i (x.1.length:Int))),(7,.gl 1 ((x.1.flatMap (zeN w n ⟨d,k⟩)).map Val.cc))]) [10,11,12,14,15,16,18,20,41,42,43,44,45,46,47,48,49,50,51,52,53,54,55,56,57,58,59,60,61,62,63,64,65,66,67,68,69,70,71,72,73,74,75,76,77,78,79,80,81,82,83,84,85,86,87,88,89,90,91,92,93,94,95] (fun x=>[(1,some (.tok (((x.1.flatMap (zeN w n ⟨d,k⟩)).map Val.cc)).length 3))]) (fun x=>x.1++x.2=zaM w ⟨d,k⟩) (fun x=>x.2.length) ([],zaM w ⟨d,k⟩) (by simp) ⟨⟨_,rfl,xar ?_⟩,⟨⟨_,rfl,LeA.glg ?_⟩,trivial⟩⟩ ⟨zaa ?_,trivial⟩ (fun x=>rfl) (fun x hg2=>?_);iterate 3 focus ((simp;done))
  obtain⟨pre,rest⟩:=x;dsimp only at hg2 ⊢;refine evc [7,16] [] ?_;refine sq ?_ ?_<;>intro h3 h3p h3s<;>(try simp only[Q,Val.cs_len,Ty.eta] at h3p);rcases rest with _|⟨c,rest⟩
  ·exfalso;simp_all
  have hal:=zdG hw hlt (k:=k) (zb0 (k:=k) (c:=c) (by rw[<-hg2];simp));have hpre:=zvr hne hc hg2;refine xaU sl62 .none rfl rfl rfl rfl (zaE hg2) rfl ?_;refine evs [7,16] [] ?_;refine wc zff (zcN hw hlt (zb0 (k:=k) (c:=c) (by rw[<-hg2];simp))) rfl rfl ?_;refine evs [7,16] [] ?_;refine xaM (xs:=[_,_]) rfl .none rfl rfl ?_;refine Walk.call (cr:=[]) zr4 (zd1 (p:=fun t=>decide (zbu w n t=0)) hal zvL (fun t ht=>zle hw (n:=n) (by omega) (by omega) (zd4 hw hlt (k:=k) (zb0 (k:=k) (c:=c) (by rw[<-hg2];simp)) ht)) ⟨rfl,rfl,trivial⟩ rfl rfl) rfl .none rfl rfl (LeL.refl _) ⟨rfl,rfl,trivial⟩ rfl rfl rfl ?_;refine tv ?_;refine sq ?_ ?_<;>intro h4 h4p h4s<;>(try simp only[Q,Val.cs_len,Ty.eta] at h4p);refine ar ?_;refine xah ((pre++[c],rest)) ⟨(by have hz:=hg2;rw[<-hz];simp),(by simp),sx ⟨⟨_,rfl,xar ?_⟩,⟨⟨_,rfl,LeA.glg ?_⟩,trivial⟩⟩ ⟨zaa ?_,trivial⟩⟩;iterate 3 focus (first|(simp;done)|(rw[List.flatMap_append,xaf];simp[zrt,h1s,h1p,h2s,h2p,h3s,h3p,h4s,h4p];done))
  refine bu [0] [_] st44 ?_;refine xbm 2 sl37 tz44 rfl (by decide) (ks:=[0]) (xs:=[_]) rfl rfl (by decide) (by decide) .none rfl rfl rfl rfl rfl ?_;refine evs [7,16] [] ?_;refine xak (ι:=List (Ty)×List (Ty)) hk (fun x=>[(56,.d (.i (x.1.length:Int))),(12,.d (.sl (((zb1 (x.1.map (zaJ w n))).map (Val.mk c 0)).map Val.cc)))]) [14,15,16,18,20,57,58,59,60,61,62,63,64,65,66,67,68,69,70,71,72,73,74,75,76,77,78,79,80,81,82,83,84,85,86,87,88,89,90,91] (fun x=>[]) (fun x=>x.1++x.2=zab w ⟨d,k⟩ c) (fun x=>x.2.length) ([],zab w ⟨d,k⟩ c) (by simp) ⟨⟨_,rfl,xar ?_⟩,⟨⟨_,rfl, ?_⟩,trivial⟩⟩ trivial (fun x=>rfl) (fun x hg3=>?_);focus ((simp;done))
  focus (((first|refine LeA.gld ?_|refine LeA.nild ?_);first|rfl|(simp;done)|(rw[List.append_nil] at hg4;rw[hg4,zjw,xaf];rfl)))
  obtain⟨pre2,rest2⟩:=x;dsimp only at hg3 ⊢;refine evc [7,16] [] ?_;refine sq ?_ ?_<;>intro h5 h5p h5s<;>(try simp only[Q,Val.cs_len,Ty.eta] at h5p);rcases rest2 with _|⟨y,rest2⟩
  ·exfalso;simp_all
  have hpl:=ztV hne hc (c:=c) (by rw[<-hg2];simp) hg3 (by assumption);refine xaU zaT .none rfl rfl rfl rfl (zaE hg3) rfl ?_;refine evs [7,16] [] ?_;refine ab 3014 tz25 ?_;refine so ty25 ?_;refine tv ?_;refine ar ?_;refine wc zuo (zh5 hw n (a:=y.data) (k:=y.index) (by omega) (by omega) (zd4 hw hlt (k:=k) (zb0 (k:=k) (c:=c) (by rw[<-hg2];simp)) (t:=y) (by rw[<-hg3];simp)) (by have e:=zec (w:=w) (n:=n) (t:=y);have e2:=zhu w n y;have h3:=hpl.2.1;unfold capN at e2;split at e2<;>simp only[Ty.eta] at * <;>omega)) rfl rfl ?_;refine evs [7,16] [] ?_;refine xaF 3 3 .none rfl rfl ?_;refine tv ?_;refine xak (ι:=List (Val)×List (Val)) hk (fun x=>[(67,.d (.i (x.1.length:Int))),(16,.gl 3 ((x.1.flatMap (zeO c (zaJ w n y))).map Val.cc))]) [18,20,68,69,70,71,72,73,74,75,76,77,78,79,80,81,82,83,84,85,86,87,88,89] (fun x=>[(3,some (.tok (((x.1.flatMap (zeO c (zaJ w n y))).map Val.cc)).length 3))]) (fun x=>x.1++x.2=(zb1 (pre2.map (zaJ w n))).map (Val.mk c 0)) (fun x=>x.2.length) ([],(zb1 (pre2.map (zaJ w n))).map (Val.mk c 0)) (by simp) ⟨⟨_,rfl,xar ?_⟩,⟨⟨_,rfl,LeA.glg ?_⟩,trivial⟩⟩ ⟨zaa ?_,trivial⟩ (fun x=>rfl) (fun x hg4=>?_);iterate 3 focus ((simp;done))
  obtain⟨pre3,rest3⟩:=x;dsimp only at hg4 ⊢;refine evc [7,16] [] ?_;refine sq ?_ ?_<;>intro h6 h6p h6s<;>(try simp only[Q,Val.cs_len,Ty.eta] at h6p);rcases rest3 with _|⟨v,rest3⟩
  ·exfalso;simp_all
  have hvk:=ztM (v:=v) (by rw[<-hg4];simp);rw[xac] at hvk;refine xaU sl37 .none rfl rfl rfl rfl (zaE hg4) rfl ?_;refine evs [7,16] [] ?_;refine ab 3018 tz44 ?_;refine so ty44 ?_;refine tv ?_;refine xak (ι:=List (Val)×List (Val)) hk (fun x=>[(73,.d (.i (x.1.length:Int))),(16,.gl 3 ((pre3.flatMap (zeO c (zaJ w n y))++x.1.map fun q=>Val.mk c 0 (v.kids++[q])).map Val.cc))]) [20,74,75,76,77,78,79,80,81,82,83,84,85,86,87,88] (fun x=>[(3,some (.tok (((pre3.flatMap (zeO c (zaJ w n y))++x.1.map fun q=>Val.mk c 0 (v.kids++[q])).map Val.cc)).length 3))]) (fun x=>x.1++x.2=zaJ w n y) (fun x=>x.2.length) ([],zaJ w n y) (by simp) ⟨⟨_,rfl,xar ?_⟩,⟨⟨_,rfl,LeA.glg ?_⟩,trivial⟩⟩ ⟨zaa ?_,trivial⟩ (fun x=>rfl) (fun x hg5=>?_);iterate 3 focus ((simp;done))
  obtain⟨pre4,rest4⟩:=x;dsimp only at hg5 ⊢;refine evc [7,16] [] ?_;refine sq ?_ ?_<;>intro h7 h7p h7s<;>(try simp only[Q,Val.cs_len,Ty.eta] at h7p);rcases rest4 with _|⟨q,rest4⟩
  ·exfalso;simp_all
  have hml:=ztP hg4 hg5 (N:=400) (by rw[zjw,xac];have:=hpl.1;rwa [xaf] at this);refine xaU sl37 .none rfl rfl rfl rfl (Val.cs_at hg5) rfl ?_;refine evs [7,16] [] ?_;refine ab 3020 tz44 ?_;refine so ty44 ?_;refine tv ?_;refine Walk.call (cr:=[77]) zvM (zja (xs:=v.kids) (by omega)) rfl .none rfl rfl (LeL.refl _) trivial rfl rfl rfl ?_;refine evd [7,16] [] ?_;refine si [0] [_] sl37 tz44 ?_;refine ap sl37 zz44 rfl rfl rfl (by intro z hz;first|(obtain⟨_,_,rfl⟩:=List.mem_map.1 hz;rfl)|(simp at hz;rw[hz];rfl)) (by first|(simp only[xac,xaa,xab,xai,Val.cs_len] at *;omega)|(rw[List.append_nil] at hg3;rw[hg3];have h10:=zjq w n ⟨d,k⟩ c;simp only[xac];omega)) ?_;refine bu [0,2] [_,_] st44 ?_;refine si [0] [_] sl37 tz44 ?_;refine ap sl37 zz44 rfl rfl rfl (by intro z hz;first|(obtain⟨_,_,rfl⟩:=List.mem_map.1 hz;rfl)|(simp at hz;rw[hz];rfl)) (by first|(simp only[xac,xaa,xab,xai,Val.cs_len] at *;omega)|(rw[List.append_nil] at hg3;rw[hg3];have h10:=zjq w n ⟨d,k⟩ c;simp only[xac];omega)) ?_;refine asg ?_;refine dr ?_;refine ar ?_;refine xah ((pre4++[q],rest4)) ⟨(by have hz:=hg5;rw[<-hz];simp),(by simp),sx ⟨⟨_,rfl,xar ?_⟩,⟨⟨_,rfl,LeA.glg ?_⟩,trivial⟩⟩ ⟨zaa ?_,trivial⟩⟩;iterate 3 focus (first|(simp;done)|(simp[Val.ctor,Val.num,Val.kids,Val.cs_cc];done)|(simp;omega))
  have hrest4:rest4=[]:=by
   rcases rest4 with _|⟨a,b⟩
   ·rfl
   ·exfalso;have hz:=congrArg List.length (hg5);simp only[xaa,xab,xac] at hz;omega
  subst hrest4;refine ar ?_;refine xah ((pre3++[v],rest3)) ⟨(by have hz:=hg4;rw[<-hz];simp),(by simp),sx ⟨⟨_,rfl,xar ?_⟩,⟨⟨_,rfl,LeA.glg ?_⟩,trivial⟩⟩ ⟨zaa ?_,trivial⟩⟩;iterate 3 focus (first|(simp;done)|(rw[List.append_nil] at hg5;rw[<-hg5];simp[zeO];done))
  have hrest3:rest3=[]:=by
   rcases rest3 with _|⟨a,b⟩
   ·rfl
   ·exfalso;have hz:=congrArg List.length (hg4);simp only[xaa,xab,xac] at hz;omega
  subst hrest3;refine ar ?_;refine xah ((pre2++[y],rest2)) ⟨(by have hz:=hg3;rw[<-hz];simp),(by simp),sx ⟨⟨_,rfl,xar ?_⟩,⟨⟨_,rfl, ?_⟩,trivial⟩⟩ trivial⟩;focus ((simp;done))
  focus (((first|refine LeA.gld ?_|refine LeA.nild ?_);first|rfl|(simp;done)|(rw[List.append_nil] at hg4;rw[hg4,zjw,xaf];rfl)))
  have hrest2:rest2=[]:=by
   rcases rest2 with _|⟨a,b⟩
   ·rfl
   ·exfalso;have hz:=congrArg List.length (hg3);simp only[xaa,xab,xac] at hz;omega
  subst hrest2;refine ap sl37 zz44 rfl rfl rfl (by intro z hz;first|(obtain⟨_,_,rfl⟩:=List.mem_map.1 hz;rfl)|(simp at hz;rw[hz];rfl)) (by first|(simp only[xac,xaa,xab,xai,Val.cs_len] at *;omega)|(rw[List.append_nil] at hg3;rw[hg3];have h10:=zjq w n ⟨d,k⟩ c;simp only[xac];omega)) ?_;refine asg ?_;refine tv ?_;refine ar ?_;refine xah ((pre++[c],rest)) ⟨(by have hz:=hg2;rw[<-hz];simp),(by simp),sx ⟨⟨_,rfl,xar ?_⟩,⟨⟨_,rfl,LeA.glg ?_⟩,trivial⟩⟩ ⟨zaa ?_,trivial⟩⟩;iterate 3 focus (first|(simp;done)|(rw[List.append_nil] at hg3;rw[List.flatMap_append,xaf,hg3];simp[zeN];done))
  have hrest:rest=[]:=by
   rcases rest with _|⟨a,b⟩
   ·rfl
   ·exfalso;have hz:=congrArg List.length (hg2);simp only[xaa,xab,xac] at hz;omega
  subst hrest;refine rn0 (r1 rfl) (.gld ?_);rotate_left;all_goals (rw[List.append_nil] at hg2;subst hg2;rw[zkP hne,Val.cs_cc])
end Go.Proofs.YtpgdedpljcedpaaGreat
namespace Go.Proofs.YtpgdedpljcedpaaGreat
open Go
set_option linter.unusedSimpArgs false
set_option linter.unusedVariables false
theorem ztY:∀ {ls:List (List Val)}{o:List Val},o∈zb1 ls->∀x∈o,∃l∈ls,x∈l:=by
 intro ls;have key:∀(ls acc:List (List Val)) (Q:Val->Prop),(∀o∈acc,∀x∈o,Q x)->(∀l∈ls,∀x∈l,Q x)->∀o∈ls.foldl (fun acc l=>acc.flatMap fun o=>l.map fun y=>o++[y]) acc,∀x∈o,Q x:=by
  intro ls;induction ls with
  |nil=>intro acc Q h _ o ho;exact h o ho
  |cons l r ih=>
   intro acc Q h h2 o ho;refine ih _ Q (fun o' ho' x hx=>?_) (fun l' hl'=>h2 l' (List.mem_cons_of_mem _ hl')) o ho;simp only[List.mem_flatMap,List.mem_map] at ho';obtain⟨p,hp,q,hq,rfl⟩:=ho';simp only[List.mem_append,List.mem_singleton] at hx;rcases hx with hx|hx
   ·exact h p hp x hx
   ·subst hx;exact h2 l (by simp) x hq
 intro o ho;exact key ls [[]] (fun x=>∃l∈ls,x∈l) (by simp) (fun l hl x hx=>⟨l,hl,hx⟩) o ho
theorem Vals.ok_of:∀ {l:List Val},(∀v∈l,v.ok)->Vals.ok l
 | [],_=>trivial
 |v::r,h=>⟨h v (by simp),Vals.ok_of (fun x hx=>h x (List.mem_cons_of_mem _ hx))⟩
theorem zk6 {w:List Data} (hw:WT w):∀(n:Nat){t:Ty},TyIn w.length t->∀v∈zaJ w n t,v.ok
 |0,t,_,v,h=>by simp[zaJ] at h
 |n+1,t,ht,v,h=>by
  unfold zaJ at h;split at h
  ·simp only[zlR,List.mem_map] at h;obtain⟨i,_,rfl⟩:=h;exact⟨by simp,trivial⟩
  ·rename_i hne;obtain⟨c,hc,hv⟩:=List.mem_flatMap.1 h;obtain⟨o,ho,rfl⟩:=List.mem_map.1 hv;rcases ht with h0|⟨d,hd,hlt⟩
   ·exact absurd h0 hne
   obtain⟨a,k⟩:=t;have hd':a=(d:Int):=hd;subst hd';have hp:=zb0 hc;refine⟨?_,Vals.ok_of (fun x hx=>?_)⟩
   ·rw[zoi ho,xac];exact zdG hw hlt hp
   ·obtain⟨l,hl,hxl⟩:=ztY ho x hx;obtain⟨y,hy,rfl⟩:=List.mem_map.1 hl;exact zk6 hw n (zd4 hw hlt hp hy) x hxl
end Go.Proofs.YtpgdedpljcedpaaGreat
namespace Go.Proofs.YtpgdedpljcedpaaGreat
open Go
set_option linter.unusedSimpArgs false
set_option linter.unusedVariables false
set_option maxRecDepth 100000
set_option maxHeartbeats 2000000
def vut (w:List Data) (t:Ty) (m:Int):List Val×Bool:=if zbm w t&&(zar m 0 4&&decide (zbu w m.toNat t<=400)) then (zaJ w m.toNat t,true) else ([],false)
theorem zvC (w:List Data) (t:Ty) (m:Int):(vut w t m).1.length<=400:=by
 unfold vut;split
 ·rename_i h;simp only[xad,decide_eq_true_eq] at h;have:=zec h.2.2;simp only;omega
 ·simp
theorem zwI {w:List Data} (hs:WSmall w) (t:Ty) (m:Int):∀v∈(vut w t m).1,v.ok:=by
 unfold vut;split
 ·rename_i h;rw[xad] at h;exact zk6 (zoX hs h.1) _ (zoW h.1)
 ·simp
theorem zjz {w:List Data} (hs:WSmall w){a k m:Int}:FnD Tryz.prog 22 [.d (zan w),.agg [.d (.i a),.d (.i k)],.d (.i m)] [] (.tup [.d (zbG (vut w ⟨a,k⟩ m).1),.d (.bool (vut w ⟨a,k⟩ m).2)]) []:=by
 refine bd Tryz.f22 43 [8] [] fun w0 F0 own kept hk=>?_;refine bx 3004 ?_;refine evs [8] [] ?_;refine wc zun (zgs hs) rfl rfl ?_;refine evs [8] [] ?_;refine sq ?_ ?_<;>intro h1 h1p h1s;refine sqT ?_;refine sqT ?_;focus (refine rn0 (r2 rfl rfl) (.tup (.cons (.nild ?_) (.cons (.eqd ?_) .nil)));all_goals ((simp[vut,Val.cs,h1s,h1p];done)))
 refine Walk.call (cr:=[]) zeM (zbj) rfl (.some rfl rfl h1) rfl rfl (LeL.refl _) trivial rfl rfl rfl ?_;refine evs [8] [(15,false)] ?_ ⟨⟨_,rfl,h1⟩,trivial⟩;refine sq ?_ ?_<;>intro h3 h3p h3s;refine sqT ?_;focus (refine rn0 (r2 rfl rfl) (.tup (.cons (.nild ?_) (.cons (.eqd ?_) .nil)));all_goals ((simp[vut,Val.cs,h1s,h1p,h3s,h3p];done)))
 try simp only[Q,zar,Val.cs_len] at h3p
 refine Walk.call (cr:=[]) zro (zdV (zoX hs (by assumption)) m.toNat (by omega) (by omega) (zoW (by assumption))) rfl (.some rfl rfl h3) rfl rfl (LeL.refl _) trivial rfl rfl rfl ?_;refine evs [8] [(20,false)] ?_ ⟨⟨_,rfl,h3⟩,trivial⟩;refine sq ?_ ?_<;>intro h5 h5p h5s<;>(try simp only[Q,zar,Val.cs_len] at h5p);focus (refine rn0 (r2 rfl rfl) (.tup (.cons (.nild ?_) (.cons (.eqd ?_) .nil)));all_goals (first|(simp only[vut];rw[if_neg (by intro hh;simp[zar] at hh;omega)];rfl)|(simp only[vut];rw[if_neg (by intro hh;simp[zar] at hh;omega)];done)))
 refine xaF 1 3 .none rfl rfl ?_;refine tv ?_;refine wc zuo (zh5 (zoX hs (by assumption)) m.toNat (by omega) (by omega) (zoW (by assumption)) (by omega)) rfl rfl ?_;refine evs [8] [] ?_;refine xak (ι:=List (Val)×List (Val)) hk (fun x=>[(32,.d (.i (x.1.length:Int))),(8,.gl 1 (x.1.map Val.cc))]) [10,33,34,35,36,37,38,39,40,41] (fun x=>[(1,some (.tok ((x.1.map Val.cc)).length 3))]) (fun x=>x.1++x.2=zaJ w m.toNat ⟨a,k⟩) (fun x=>x.2.length) ([],zaJ w m.toNat ⟨a,k⟩) (by simp) ⟨⟨_,rfl,xar ?_⟩,⟨⟨_,rfl,LeA.glg ?_⟩,trivial⟩⟩ ⟨zaa ?_,trivial⟩ (fun x=>rfl) (fun x hg1=>?_);iterate 3 focus (rfl)
 obtain⟨pre,rest⟩:=x;dsimp only at hg1 ⊢;have hlen:=zec (w:=w) (n:=m.toNat) (t:=⟨a,k⟩) (by omega);refine evc [8] [] ?_;refine sq ?_ ?_<;>intro h6 h6p h6s<;>(try simp only[Q,zar,Val.cs_len] at h6p);rcases rest with _|⟨y,rest⟩
 ·exfalso;simp_all
 refine xaU sl37 .none rfl rfl rfl rfl (Val.cs_at hg1) rfl ?_;refine evs [8] [] ?_;refine ab 3010 tz44 ?_;refine so ty44 ?_;refine tv ?_;refine wc zrp (zeW y.size (Nat.le_refl _) (zk6 (zoX hs (by assumption)) m.toNat (zoW (t:=⟨a,k⟩) (by assumption)) y (by rw[<-hg1];simp))) rfl rfl ?_;refine si [0] [_] sl37 tz44 ?_;refine ap sl37 zz44 rfl rfl rfl (by simp) (by have h9:=congrArg List.length hg1;simp at h9;simp;omega) ?_;refine asg ?_;refine tv ?_;refine ar ?_;refine xah ((pre++[y],rest)) ⟨(by have hz:=hg1;rw[<-hz];simp),(by simp),sx ⟨⟨_,rfl,xar ?_⟩,⟨⟨_,rfl,LeA.glg ?_⟩,trivial⟩⟩ ⟨zaa ?_,trivial⟩⟩;iterate 3 focus ((simp;done))
 have hrest:rest=[]:=by
  rcases rest with _|⟨a,b⟩
  ·rfl
  ·exfalso;have hz:=congrArg List.length (hg1);simp only[xaa,xab,xac] at hz;omega
 subst hrest;focus (refine rn0 (r2 rfl rfl) (.tup (.cons (.gld ?_) (.cons (.eqd ?_) .nil)));all_goals (first|(rw[List.append_nil] at hg1;subst hg1;simp only[vut];rw[if_pos (by simp[zar,h1s,h1p,h3s,h3p,h5s,h5p,h6s,h6p];omega),Val.cs_cc];done)|(simp only[vut];rw[if_pos (by simp[zar,h1s,h1p,h3s,h3p,h5s,h5p,h6s,h6p];omega)];done)))
theorem xav (l:List Pat):Pat.cs l=l.map Pat.cc:=by
 rw[Pat.cs_eq];exact List.map_congr_left (fun v _=>Pat.c_eq v)
theorem zee (l:List Pat):∀x∈Pat.cs l,x.length=6:=Pat.cs_rows
theorem zvp (l:List Pat):∀x∈l.map Pat.cc,x.length=6:=fun x hx=>by
 obtain⟨y,_,rfl⟩:=List.mem_map.1 hx;rfl
theorem zuY {p:Pat} (h:p.op=2):zaO p=anyQ:=by rw[zcL,if_pos h]
theorem zuZ {p:Pat} (h:p.op=6) (h2:0<p.kids.length):zaO p=zaO (nth p.kids 0):=by
 rw[zcL,if_neg (by omega),if_pos ⟨h,fun e=>by rw[e] at h2;simp at h2⟩]
theorem zu0 {p:Pat} (h:p.op≠2) (h2:¬(p.op=6/\0<p.kids.length)):zaO p = .mk p.op p.ctor p.n p.m p.var (p.kids.map zaO):=by
 rw[zcL,if_neg h,if_neg (fun hh=>h2 ⟨hh.1,List.length_pos_iff.2 hh.2⟩)]
theorem zf8:∀(n:Nat){p:Pat},p.size<=n->p.ok->FnD Tryz.prog 153 [.agg [.d (.i p.op),.d (.i p.ctor),.d (.i p.n),.d (.i p.m),.d (.i p.var),.d (zaj p.kids)]] [] (.agg [.d (.i p.op),.d (.i p.ctor),.d (.i p.n),.d (.i p.m),.d (.i p.var),.d (zaj p.kids)]) []
 |0,p,h,_=>by rw[Pat.size_eq] at h;omega
 |n+1,p,h,hok=>by
  rw[Pat.size_eq] at h;rw[Pat.ok_iff] at hok;have hok1:=hok.1;refine bd Tryz.f153 24 [] [] fun w0 F0 own kept hk=>?_;refine bx 3001 ?_;refine ab 3002 tz28 ?_;refine tv ?_;refine so ty26 ?_;refine tv ?_;refine xao 3001 5 7 6 rfl rfl rfl rfl ?_;refine xak (ι:=List (Pat)×List (Pat)) hk (fun x=>[(11,.d (.i (x.1.length:Int)))]) [5,12,13,14,15,16,17,18,19,20,21,22] (fun x=>[(3001,some (.box [.d (.i p.op),.d (.i p.ctor),.d (.i p.n),.d (.i p.m),.d (.i p.var),.gl 7 (x.1.map Pat.cc)])),(7,some (.tok (x.1.map Pat.cc).length 6))]) (fun x=>x.1++x.2=p.kids) (fun x=>x.2.length) ([],p.kids) (by simp) ⟨⟨_,rfl,xar ?_⟩,trivial⟩ ⟨?_,⟨zaa ?_,trivial⟩⟩ (fun x=>rfl) (fun x hg1=>?_);focus (rfl)
  focus (first|rfl|(simp[getH];done))
  focus (rfl)
  obtain⟨pre,rest⟩:=x;dsimp only at hg1 ⊢;refine evc [] [] ?_;refine sq ?_ ?_<;>intro h1 h1p h1s<;>(try simp only[Q,Pat.cs_len] at h1p);rcases rest with _|⟨y,rest⟩
  ·exfalso;simp_all
  refine xaU sl26 .none rfl rfl rfl rfl (Pat.cs_at' hg1) rfl ?_;refine ev ?_;refine ab 3005 tz28 ?_;refine so ty28 ?_;refine tv ?_;refine wc zsc (zf8 n (p:=y) (by have:=Pats.size_mem (l:=p.kids) (v:=y) (by rw[<-hg1];simp);omega) (Pats.ok_mem hok.2 y (by rw[<-hg1];simp))) rfl rfl ?_;refine si [0] [_] sl26 tz28 ?_;refine ap sl26 zz28 rfl rfl rfl (by intro x hx;(simp at hx;subst hx;rfl)) (by have:=congrArg List.length hg1;simp at this;simp;omega) ?_;refine evd [] [] ?_;refine so ty26 ?_;refine dr ?_;refine ar ?_;refine xah ((pre++[y],rest)) ⟨(by have hz:=hg1;rw[<-hz];simp),(by simp),sx ⟨⟨_,rfl,xar ?_⟩,trivial⟩ ⟨?_,⟨zaa ?_,trivial⟩⟩⟩;focus ((simp;done))
  focus (first|rfl|(simp[getH];done))
  focus ((simp;done))
  have hrest:rest=[]:=by
   rcases rest with _|⟨a,b⟩
   ·rfl
   ·exfalso;have hz:=congrArg List.length (hg1);simp only[xaa,xab,xac] at hz;omega
  subst hrest;refine so ty28 ?_;refine tv ?_;refine rn0 (.cons (.cellA ty28 rfl rfl rfl) .nil) (.agg (.cons (.eqd ?_) (.cons (.eqd ?_) (.cons (.eqd ?_) (.cons (.eqd ?_) (.cons (.eqd ?_) (.cons (.gld ?_) .nil)))))));rotate_left 6;all_goals (first|rfl|(rw[List.append_nil] at hg1;rw[<-hg1,xav];done))
theorem zi8 {l:List Pat} (h:l.length<=1000000000000) (hok:∀p∈l,p.ok):FnD Tryz.prog 96 [.d (zaj l)] [] (.d (zaj l)) []:=by
 refine bd Tryz.f96 19 [3] [] fun w0 F0 own kept hk=>?_;refine xaF 1 6 .none rfl rfl ?_;refine tv ?_;refine xak (ι:=List (Pat)×List (Pat)) hk (fun x=>[(8,.d (.i (x.1.length:Int))),(3,.gl 1 (x.1.map Pat.cc))]) [5,9,10,11,12,13,14,15,16,17] (fun x=>[(1,some (.tok ((x.1.map Pat.cc)).length 6))]) (fun x=>x.1++x.2=l) (fun x=>x.2.length) ([],l) (by simp) ⟨⟨_,rfl,xar ?_⟩,⟨⟨_,rfl,LeA.glg ?_⟩,trivial⟩⟩ ⟨zaa ?_,trivial⟩ (fun x=>rfl) (fun x hg1=>?_);iterate 3 focus (rfl)
 obtain⟨pre,rest⟩:=x;dsimp only at hg1 ⊢;refine evc [3] [] ?_;refine sq ?_ ?_<;>intro h1 h1p h1s<;>(try simp only[Q,Pat.cs_len] at h1p);rcases rest with _|⟨y,rest⟩
 ·exfalso;simp_all
 refine xaU sl26 .none rfl rfl rfl rfl (Pat.cs_at' hg1) rfl ?_;refine evs [3] [] ?_;refine ab 3005 tz28 ?_;refine so ty28 ?_;refine tv ?_;refine wc zsc (zf8 _ (Nat.le_refl _) (hok y (by rw[<-hg1];simp))) rfl rfl ?_;refine si [0] [_] sl26 tz28 ?_;refine ap sl26 zz28 rfl rfl rfl (by intro x hx;simp at hx;subst hx;rfl) (by have:=congrArg List.length hg1;simp at this;simp;omega) ?_;refine asg ?_;refine tv ?_;refine ar ?_;refine xah ((pre++[y],rest)) ⟨(by have hz:=hg1;rw[<-hz];simp),(by simp),sx ⟨⟨_,rfl,xar ?_⟩,⟨⟨_,rfl,LeA.glg ?_⟩,trivial⟩⟩ ⟨zaa ?_,trivial⟩⟩;iterate 3 focus ((simp;done))
 have hrest:rest=[]:=by
  rcases rest with _|⟨a,b⟩
  ·rfl
  ·exfalso;have hz:=congrArg List.length (hg1);simp only[xaa,xab,xac] at hz;omega
 subst hrest;refine rn0 (r1 rfl) (.gld ?_);rotate_left;all_goals ((rw[List.append_nil] at hg1;rw[<-hg1,xav];done))
theorem zf7:FnD Tryz.prog 186 [] [] (.agg [.d (.i 1),.d (.i 0),.d (.i 0),.d (.i 0),.d (.i 0),.d (.sl [])]) []:=by
 refine bd Tryz.f186 2 [] [] fun w0 F0 own kept hk=>?_;refine ab 3000 tz28 ?_;refine tv ?_;refine bu [0] [_] st28 ?_;refine so ty28 ?_;refine tv ?_;focus (refine rn0 (.cons (.cellA ty28 rfl rfl rfl) .nil) (.agg (.cons (.eqd ?_) (.cons (.eqd ?_) (.cons (.eqd ?_) (.cons (.eqd ?_) (.cons (.eqd ?_) (.cons (.nild ?_) .nil)))))));all_goals (rfl))
theorem zcU:∀(n:Nat){p:Pat},p.size<=n->p.ok->FnD Tryz.prog 139 [.agg [.d (.i p.op),.d (.i p.ctor),.d (.i p.n),.d (.i p.m),.d (.i p.var),.d (zaj p.kids)]] [] (.agg [.d (.i (zaO p).op),.d (.i (zaO p).ctor),.d (.i (zaO p).n),.d (.i (zaO p).m),.d (.i (zaO p).var),.d (zaj (zaO p).kids)]) []
 |0,p,h,_=>by rw[Pat.size_eq] at h;omega
 |n+1,p,h,hok=>by
  rw[Pat.size_eq] at h;rw[Pat.ok_iff] at hok;have hok1:=hok.1;by_cases h2:p.op=2
  ·rw[zuY h2];refine bd Tryz.f139 44 [] [] fun w0 F0 own kept hk=>?_;refine bx 3001 ?_;refine ab 3002 tz28 ?_;refine tv ?_;refine sq ?_ ?_<;>intro h1 h1p h1s;refine wc zsk (zf7) rfl rfl ?_;refine so ty28 ?_;refine tv ?_;refine rn0 (.cons (.cellA ty28 rfl rfl rfl) .nil) (.agg (.cons (.eqd ?_) (.cons (.eqd ?_) (.cons (.eqd ?_) (.cons (.eqd ?_) (.cons (.eqd ?_) (.cons (.eqd ?_) .nil)))))));rotate_left 6;try simp only[Q] at h1p
   exfalso;omega;all_goals (rfl)
  by_cases h6:p.op=6/\0<p.kids.length
  ·rw[zuZ h6.1 h6.2];refine bd Tryz.f139 44 [] [] fun w0 F0 own kept hk=>?_;refine bx 3001 ?_;refine ab 3002 tz28 ?_;refine tv ?_;refine sq ?_ ?_<;>intro h1 h1p h1s;try simp only[Q,Pat.cs_len] at h1p
   exfalso;omega;refine sq ?_ ?_<;>intro h2 h2p h2s;refine sq ?_ ?_<;>intro h3 h3p h3s;refine xaU (i:=0) sl26 .none rfl rfl rfl rfl (zaH h6.2) rfl ?_;refine ev ?_;refine wc zjj (zcU n (p:=nth p.kids 0) (by have:=Pats.size_mem (zah h6.2);omega) (Pats.ok_mem hok.2 _ (zah h6.2))) rfl rfl ?_;refine so ty28 ?_;refine tv ?_;refine rn0 (.cons (.cellA ty28 rfl rfl rfl) .nil) (.agg (.cons (.eqd ?_) (.cons (.eqd ?_) (.cons (.eqd ?_) (.cons (.eqd ?_) (.cons (.eqd ?_) (.cons (.eqd ?_) .nil)))))));rotate_left 6;try simp only[Q,Pat.cs_len] at h3p
   focus (exfalso;first|omega|(simp_all;done))
   try simp only[Q,Pat.cs_len] at h2p
   exfalso;omega;all_goals (rfl)
  ·rw[zu0 h2 h6];refine bd Tryz.f139 44 [] [] fun w0 F0 own kept hk=>?_;refine bx 3001 ?_;refine ab 3002 tz28 ?_;refine tv ?_;refine sq ?_ ?_<;>intro h1 h1p h1s;try simp only[Q,Pat.cs_len] at h1p
   exfalso;omega;refine sq ?_ ?_<;>intro h2 h2p h2s;refine sq ?_ ?_<;>intro h3 h3p h3s;try simp only[Q,Pat.cs_len] at h3p
   focus (exfalso;apply h6;first|omega|(simp_all;done))
   refine so ty26 ?_;refine tv ?_;refine xao 3001 5 7 6 rfl rfl rfl rfl ?_;refine xak (ι:=List (Pat)×List (Pat)) hk (fun x=>[(31,.d (.i (x.1.length:Int)))]) [5,32,33,34,35,36,37,38,39,40,41,42] (fun x=>[(3001,some (.box [.d (.i p.op),.d (.i p.ctor),.d (.i p.n),.d (.i p.m),.d (.i p.var),.gl 7 ((x.1.map zaO).map Pat.cc)])),(7,some (.tok ((x.1.map zaO).map Pat.cc).length 6))]) (fun x=>x.1++x.2=p.kids) (fun x=>x.2.length) ([],p.kids) (by simp) ⟨⟨_,rfl,xar ?_⟩,trivial⟩ ⟨?_,⟨zaa ?_,trivial⟩⟩ (fun x=>rfl) (fun x hg1=>?_);focus (rfl)
   focus (first|rfl|(simp[getH];done))
   focus (rfl)
   obtain⟨pre,rest⟩:=x;dsimp only at hg1 ⊢;refine evc [] [] ?_;refine sq ?_ ?_<;>intro h4 h4p h4s<;>(try simp only[Q,Pat.cs_len] at h4p);rcases rest with _|⟨y,rest⟩
   ·exfalso;simp_all
   refine xaU sl26 .none rfl rfl rfl rfl (Pat.cs_at' hg1) rfl ?_;refine ev ?_;refine ab 3005 tz28 ?_;refine so ty28 ?_;refine tv ?_;refine wc zjj (zcU n (p:=y) (by have:=Pats.size_mem (l:=p.kids) (v:=y) (by rw[<-hg1];simp);omega) (Pats.ok_mem hok.2 y (by rw[<-hg1];simp))) rfl rfl ?_;refine si [0] [_] sl26 tz28 ?_;refine ap sl26 zz28 rfl rfl rfl (by intro x hx;(simp at hx;subst hx;rfl)) (by have:=congrArg List.length hg1;simp at this;simp;omega) ?_;refine evd [] [] ?_;refine so ty26 ?_;refine dr ?_;refine ar ?_;refine xah ((pre++[y],rest)) ⟨(by have hz:=hg1;rw[<-hz];simp),(by simp),sx ⟨⟨_,rfl,xar ?_⟩,trivial⟩ ⟨?_,⟨zaa ?_,trivial⟩⟩⟩;focus ((simp;done))
   focus (first|rfl|(simp[getH];done))
   focus ((simp;done))
   have hrest:rest=[]:=by
    rcases rest with _|⟨a,b⟩
    ·rfl
    ·exfalso;have hz:=congrArg List.length (hg1);simp only[xaa,xab,xac] at hz;omega
   subst hrest;refine so ty28 ?_;refine tv ?_;refine rn0 (.cons (.cellA ty28 rfl rfl rfl) .nil) (.agg (.cons (.eqd ?_) (.cons (.eqd ?_) (.cons (.eqd ?_) (.cons (.eqd ?_) (.cons (.eqd ?_) (.cons (.gld ?_) .nil)))))));rotate_left 6;refine sqF ?_;refine so ty26 ?_;refine tv ?_;refine xao 3001 5 7 6 rfl rfl rfl rfl ?_;refine xak (ι:=List (Pat)×List (Pat)) hk (fun x=>[(31,.d (.i (x.1.length:Int)))]) [5,32,33,34,35,36,37,38,39,40,41,42] (fun x=>[(3001,some (.box [.d (.i p.op),.d (.i p.ctor),.d (.i p.n),.d (.i p.m),.d (.i p.var),.gl 7 ((x.1.map zaO).map Pat.cc)])),(7,some (.tok ((x.1.map zaO).map Pat.cc).length 6))]) (fun x=>x.1++x.2=p.kids) (fun x=>x.2.length) ([],p.kids) (by simp) ⟨⟨_,rfl,xar ?_⟩,trivial⟩ ⟨?_,⟨zaa ?_,trivial⟩⟩ (fun x=>rfl) (fun x hg1=>?_);focus (rfl)
   focus (first|rfl|(simp[getH];done))
   focus (rfl)
   obtain⟨pre,rest⟩:=x;dsimp only at hg1 ⊢;refine evc [] [] ?_;refine sq ?_ ?_<;>intro h6 h6p h6s<;>(try simp only[Q,Pat.cs_len] at h6p);rcases rest with _|⟨y,rest⟩
   ·exfalso;simp_all
   refine xaU sl26 .none rfl rfl rfl rfl (Pat.cs_at' hg1) rfl ?_;refine ev ?_;refine ab 3005 tz28 ?_;refine so ty28 ?_;refine tv ?_;refine wc zjj (zcU n (p:=y) (by have:=Pats.size_mem (l:=p.kids) (v:=y) (by rw[<-hg1];simp);omega) (Pats.ok_mem hok.2 y (by rw[<-hg1];simp))) rfl rfl ?_;refine si [0] [_] sl26 tz28 ?_;refine ap sl26 zz28 rfl rfl rfl (by intro x hx;(simp at hx;subst hx;rfl)) (by have:=congrArg List.length hg1;simp at this;simp;omega) ?_;refine evd [] [] ?_;refine so ty26 ?_;refine dr ?_;refine ar ?_;refine xah ((pre++[y],rest)) ⟨(by have hz:=hg1;rw[<-hz];simp),(by simp),sx ⟨⟨_,rfl,xar ?_⟩,trivial⟩ ⟨?_,⟨zaa ?_,trivial⟩⟩⟩;focus ((simp;done))
   focus (first|rfl|(simp[getH];done))
   focus ((simp;done))
   have hrest:rest=[]:=by
    rcases rest with _|⟨a,b⟩
    ·rfl
    ·exfalso;have hz:=congrArg List.length (hg1);simp only[xaa,xab,xac] at hz;omega
   subst hrest;refine so ty28 ?_;refine tv ?_;refine rn0 (.cons (.cellA ty28 rfl rfl rfl) .nil) (.agg (.cons (.eqd ?_) (.cons (.eqd ?_) (.cons (.eqd ?_) (.cons (.eqd ?_) (.cons (.eqd ?_) (.cons (.gld ?_) .nil)))))));rotate_left 6;all_goals (first|rfl|(rw[List.append_nil] at hg1;subst hg1;rw[<-xav];all_goals rfl))
theorem zea:∀(n:Nat){p:Pat},p.size<=n->p.ok->FnD Tryz.prog 140 [.agg [.d (.i p.op),.d (.i p.ctor),.d (.i p.n),.d (.i p.m),.d (.i p.var),.d (zaj p.kids)]] [] (.d (.i (cntS p))) []
 |0,p,h,_=>by rw[Pat.size_eq] at h;omega
 |n+1,p,h,hok=>by
  rw[Pat.size_eq] at h;rw[Pat.ok_iff] at hok;have hok1:=hok.1;have hbd:=fun i=>zm9 (nth p.kids i);by_cases h5:p.op=5
  ·rw[zna,if_pos h5];refine bd Tryz.f140 31 [] [] fun w0 F0 own kept hk=>?_;refine bx 3001 ?_;refine ev ?_;refine sq ?_ ?_<;>intro h1 h1p h1s;refine xak (ι:=Nat×Int) hk (fun x=>[(12,.d (.i (x.1:Int))),(3,.d (.i x.2))]) [5,13,14,15,16,17,18,19,20,21,22,23,24,25,26,27,28,29] (fun x=>[]) (fun x=>x.1<=p.kids.length/\cntO (p.kids.drop x.1) x.2=cntO p.kids 0/\0<=x.2/\x.2<=401) (fun x=>p.kids.length-x.1) (0,0) ⟨by simp,rfl,by simp,by simp⟩ ⟨⟨_,rfl,xar ?_⟩,⟨⟨_,rfl,xar ?_⟩,trivial⟩⟩ trivial (fun x=>rfl) (fun x hg1=>?_);iterate 2 focus (rfl)
   refine evc [] [] ?_;refine sq ?_ ?_<;>intro h2 h2p h2s<;>(try simp only[Q,Pat.cs_len] at h2p);refine xaU sl26 .none rfl rfl rfl rfl (zaH (by omega)) rfl ?_;refine ev ?_;refine ab 3005 tz28 ?_;refine so ty28 ?_;refine tv ?_;refine sq ?_ ?_<;>intro h3 h3p h3s<;>(try simp only[Q,Pat.cs_len] at h3p);refine wc zlE (zea n (p:=nth p.kids x.1) (by have:=Pats.size_mem (zah (l:=p.kids) (i:=x.1) (by omega));omega) (Pats.ok_mem hok.2 _ (zah (by omega)))) rfl rfl ?_;refine ev ?_;refine ar ?_ (by(have hb:=hbd x.1;constructor<;>omega));refine xa5 .none rfl rfl rfl ?_;refine ev ?_;refine ar ?_ (by(constructor<;>omega));refine xah ((x.1+1,cap (x.2+cntS (nth p.kids x.1)))) ⟨(by
        have hb:=hbd x.1;have hc:=zf4 (x:=x.2+cntS (nth p.kids x.1)) (by omega);exact⟨by dsimp only;omega,by dsimp only;rw[<-zsv (by omega)];exact hg1.2.1,hc.1,hc.2⟩),(by dsimp only;omega),sx ⟨⟨_,rfl,xar ?_⟩,⟨⟨_,rfl,xar ?_⟩,trivial⟩⟩ trivial⟩
   iterate 2 focus (rfl)
   exfalso;omega;refine rq ?_;rotate_left;try simp only[Q,Pat.cs_len] at h1p
   exfalso;omega;all_goals (refine congrArg D.i ?_;rw[<-hg1.2.1,List.drop_eq_nil_of_le (by omega)];rfl)
  ·rw[zna,if_neg h5];refine bd Tryz.f140 31 [] [] fun w0 F0 own kept hk=>?_;refine bx 3001 ?_;refine ev ?_;refine sq ?_ ?_<;>intro h1 h1p h1s;try simp only[Q,Pat.cs_len] at h1p
   exfalso;omega;refine xak (ι:=Nat×Int) hk (fun x=>[(12,.d (.i (x.1:Int))),(3,.d (.i x.2))]) [5,13,14,15,16,17,18,19,20,21,22,23,24,25,26,27,28,29] (fun x=>[]) (fun x=>x.1<=p.kids.length/\cntM (p.kids.drop x.1) x.2=cntM p.kids 1/\0<=x.2/\x.2<=401) (fun x=>p.kids.length-x.1) (0,1) ⟨by simp,rfl,by simp,by simp⟩ ⟨⟨_,rfl,xar ?_⟩,⟨⟨_,rfl,xar ?_⟩,trivial⟩⟩ trivial (fun x=>rfl) (fun x hg1=>?_);iterate 2 focus (rfl)
   refine evc [] [] ?_;refine sq ?_ ?_<;>intro h2 h2p h2s<;>(try simp only[Q,Pat.cs_len] at h2p);refine xaU sl26 .none rfl rfl rfl rfl (zaH (by omega)) rfl ?_;refine ev ?_;refine ab 3005 tz28 ?_;refine so ty28 ?_;refine tv ?_;refine sq ?_ ?_<;>intro h3 h3p h3s;try simp only[Q,Pat.cs_len] at h3p
   exfalso;omega;refine wc zlE (zea n (p:=nth p.kids x.1) (by have:=Pats.size_mem (zah (l:=p.kids) (i:=x.1) (by omega));omega) (Pats.ok_mem hok.2 _ (zah (by omega)))) rfl rfl ?_;refine ev ?_;refine ar ?_ (by(have hb:=hbd x.1;have h3:=Int.mul_le_mul hg1.2.2.2 hb.2 hb.1 (by omega);have h4:=Int.mul_nonneg hg1.2.2.1 hb.1;constructor<;>omega));refine xa5 .none rfl rfl rfl ?_;refine ev ?_;refine ar ?_ (by(constructor<;>omega));refine xah ((x.1+1,cap (x.2*cntS (nth p.kids x.1)))) ⟨(by
        have hb:=hbd x.1;have hc:=zf4 (x:=x.2*cntS (nth p.kids x.1)) (Int.mul_nonneg hg1.2.2.1 hb.1);exact⟨by dsimp only;omega,by dsimp only;rw[<-zsu (by omega)];exact hg1.2.1,hc.1,hc.2⟩),(by dsimp only;omega),sx ⟨⟨_,rfl,xar ?_⟩,⟨⟨_,rfl,xar ?_⟩,trivial⟩⟩ trivial⟩
   iterate 2 focus (rfl)
   refine rq ?_;rotate_left;all_goals (refine congrArg D.i ?_;rw[<-hg1.2.1,List.drop_eq_nil_of_le (by omega)];rfl)
theorem zfA {xs:List Pat} (hs:xs.length<=1000000000000):FnD Tryz.prog 147 [.d (zaj xs)] [] (.gl 77 (Pat.cs xs)) [(77,some (.tok (Pat.cs xs).length 6))]:=by
 refine Fn.body (fn:=Tryz.f147) (n:=8) rfl rfl rfl rfl rfl (fun w0 F0 own kept hk=>?_);refine xan 0 rfl (fun hx0=>?_) ?_;refine evc [2,4] [] ?_;refine asg ?_;refine tv ?_;refine xaS sl26 .none rfl rfl ?_;refine tv ?_;refine sqT ?_;refine xaF 77 6 .none rfl rfl ?_;refine tv ?_;refine rn [(77,some (.tok (Pat.cs xs).length 6))] (r1 rfl) (.glg ?_) ⟨rfl,rfl⟩ (SubH.get ⟨?_,trivial⟩) (zax rfl);rotate_left 2;refine evc [2,4] [] ?_;refine asg ?_;refine tv ?_;refine xaR sl26 .none rfl rfl ?_;refine tv ?_;refine sqF ?_;refine xbi 77 sl26 .none rfl rfl ?_;refine evs [2,4] [] ?_;refine ap sl26 zz28 rfl rfl rfl (by intro y hy;rw[xav] at hy;obtain⟨z,_,rfl⟩:=List.mem_map.1 hy;rfl) (by simp[Pat.cs_len];omega) ?_;refine asg ?_;refine tv ?_;refine rn [(77,some (.tok (Pat.cs xs).length 6))] (r1 rfl) (.glg ?_) ⟨rfl,rfl⟩ (SubH.get ⟨?_,trivial⟩) (zax rfl);rotate_left 2;all_goals (first|((first|rfl|exact hx0.symm|(simp;done));done)|(first|rfl|(simp[hx0];rfl)|(simp;rfl)))
def zdJ (C:List Pat) (q:Pat):List Pat:=C.map fun c=> .mk q.op q.ctor q.n q.m q.var (q.kids++[c])
theorem zrz {ls:List (List Pat)}{C:List Pat}{a b c d e:Int}:((zeS ls).map (fun l=>Pat.mk a b c d e l)).flatMap (zdJ C)=(zeS (ls++[C])).map (fun l=>Pat.mk a b c d e l):=by
 rw[zrQ];unfold zb8 zdJ;rw[List.flatMap_map,List.map_flatMap];congr 1
 funext q
 simp[zeR,zh6,mk_n,mk_m,zmj,zcK]
def zca (p:Pat) (i:Nat):List Pat:=(zeS ((p.kids.take i).map zaz)).map fun l=>Pat.mk p.op p.ctor p.n p.m p.var l
theorem ztE (p:Pat):zca p 0=[.mk p.op p.ctor p.n p.m p.var []]:=by unfold zca;simp[zeS]
theorem zqm {p:Pat}{i:Nat} (h:i<p.kids.length):(zca p i).flatMap (zdJ (zaz (nth p.kids i)))=zca p (i+1):=by
 unfold zca;rw[zrz,List.take_succ_eq_append_getElem h,xaf,<-za5 h];rfl
theorem zrx {p:Pat}{i:Nat} (h5:p.op≠5) (h:p.kids.length<=i):zca p i=zaz p:=by
 unfold zca;rw[zek h5,List.take_of_length_le h]
theorem zry {n:Nat}{p:Pat} (h:binP (n+1) p=true) (h5:p.op≠5) (i:Nat):(zca p i).length<=(zaz p).length:=by
 unfold zca;rw[xac];exact zqw h h5 i
theorem zql {p:Pat}{i:Nat}{q:Pat} (h:q∈zca p i):q.kids.length<=p.kids.length:=by
 unfold zca at h;obtain⟨l,hl,rfl⟩:=List.mem_map.1 h;obtain⟨q0,hq,r,e,hlr,_⟩:=zjR _ _ _ hl;rw[List.mem_singleton] at hq;rw[hq,List.nil_append] at e;rw[zcK,e,hlr];simp;omega
theorem zhw {α β:Type}{f:α->List β}{k:Nat} (hf:∀x,(f x).length<=k):∀l:List α,(l.flatMap f).length<=l.length*k
 | []=>by simp
 |x::r=>by
  rw[List.flatMap_cons,xaa,xab,Nat.succ_mul];have:=hf x;have:=zhw hf r;omega
theorem zeQ:∀(n:Nat){p:Pat},binP n p=true->p.ok->(zaz p).length<=40->FnD Tryz.prog 141 [.agg [.d (.i p.op),.d (.i p.ctor),.d (.i p.n),.d (.i p.m),.d (.i p.var),.d (zaj p.kids)]] [] (.gl 9 (Pat.cs (zaz p))) [(9,some (.tok (Pat.cs (zaz p)).length 6))]
 |0,p,h,_,_=>by simp[binP] at h
 |n+1,p,h,hok,hlen=>by
  have hok':=(Pat.ok_iff p).1 hok;have hok1:=hok'.1;by_cases h5:p.op=5
  ·have hl:=zm5 h h5;have e5:=zhm h5 hl;have l0:=zhI h (i:=0) (by omega);have l1:=zhI h (i:=1) (by omega);have c0:=zeQ n (zgT h (i:=0) (by omega)) (Pats.ok_mem hok'.2 _ (zah (by omega))) (by omega);have c1:=FnD.glD (zeQ n (zgT h (i:=1) (by omega)) (Pats.ok_mem hok'.2 _ (zah (by omega))) (by omega));rw[e5];refine bd Tryz.f141 70 [] [] fun w0 F0 own kept hk=>?_;refine bx 3001 ?_;refine ev ?_;refine sq ?_ ?_<;>intro h1 h1p h1s<;>(try simp only[Q,Pat.cs_len] at h1p);refine xaU (i:=0) sl26 .none rfl rfl rfl rfl (zaH (by omega)) rfl ?_;refine evd [] [] ?_;refine Walk.call (cr:=[9]) zlF (c0) rfl .none rfl rfl (LeL.refl _) trivial rfl rfl rfl ?_;refine evd [] [] ?_;refine xaU (i:=1) sl26 .none rfl rfl rfl rfl (zaH (by omega)) rfl ?_;refine evd [] [] ?_;refine wc zlF (c1) rfl rfl ?_;refine ap sl26 zz28 rfl rfl rfl (by intro x hx;exact zee _ x hx) (by simp[Pat.cs_len];omega) ?_;refine evd [] [] ?_;refine dr ?_;refine rn [(9,some (.tok (Pat.cs (zaz (nth p.kids 0)++zaz (nth p.kids 1))).length 6))] (r1 rfl) (.glg ?_) ⟨rfl,rfl⟩ (SubH.get ⟨?_,trivial⟩) (zax rfl);rotate_left 2;exfalso;omega;all_goals (first|((first|rfl|(simp[xav];done));done)|(first|rfl|(simp[xav];rfl)))
  ·have hfl:=zry h h5;have hfk:=fun(i:Nat) (q:Pat) (hq:q∈zca p i)=>zql hq;have hf0:=ztE p;have hfe:=fun(i:Nat) (hi:p.kids.length<=i)=>zrx h5 hi;have hfn:=fun(i:Nat) (hi:i<p.kids.length)=>zqm hi;have hcal:=fun(i:Nat) (hi:i<p.kids.length)=>FnD.glD (zeQ n (zgT h hi) (Pats.ok_mem hok'.2 _ (zah hi)) (by have:=zhI h hi;omega));have hcl:=fun(i:Nat) (hi:i<p.kids.length)=>zhI h hi;have hgl:=fun(C:List Pat) (q:Pat)=>show(zdJ C q).length<=C.length from by unfold zdJ;simp
   generalize zaz p=SP at *;refine bd Tryz.f141 70 [8] [10,23] fun w0 F0 own kept hk=>?_;refine bx 3001 ?_;refine evs [8] [] ?_;refine sq ?_ ?_<;>intro h1 h1p h1s<;>(try simp only[Q,Pat.cs_len] at h1p);exfalso;omega;refine so ty26 ?_;refine tv ?_;refine xbm 9 sl26 tz28 rfl (by decide) (ks:=[0]) (xs:=[_]) rfl rfl (by decide) (by decide) .none rfl rfl rfl rfl rfl ?_;refine evs [8] [] ?_;refine xak (ι:=Nat) hk (fun i=>[(35,.d (.i (i:Int))),(4,.gl 9 ((zca p i).map Pat.cc)),(32,.any)]) [6,7,8,10,12,13,36,37,38,39,40,41,42,43,44,45,46,47,48,49,50,51,52,53,54,55,56,57,58,59,60,61,62,63,64,65,66,67,68] (fun i=>[(9,some (.tok (((zca p i).map Pat.cc)).length 6))]) (fun i=>i<=p.kids.length) (fun i=>p.kids.length-i) 0 (by omega) ⟨⟨_,rfl,xar ?_⟩,⟨⟨_,rfl,LeA.glg ?_⟩,⟨⟨_,rfl,.any _⟩,trivial⟩⟩⟩ ⟨zaa ?_,trivial⟩ (fun x=>rfl) (fun i hg1=>?_);iterate 3 focus (rfl)
   refine evc [8] [10,23] ?_;refine sq ?_ ?_<;>intro h2 h2p h2s<;>(try simp only[Q,Pat.cs_len] at h2p);refine xaU sl26 .none rfl rfl rfl rfl (zaH (by omega)) rfl ?_;refine evs [8] [] ?_;refine ab 3006 tz28 ?_;refine so ty28 ?_;refine tv ?_;refine wc zlF (hcal i (by omega)) rfl rfl ?_;refine evs [8] [] ?_;refine CWp.tokDrop 4 9 rfl rfl ?_;refine evc [8] [] ?_;refine xaF 3 6 .none rfl rfl ?_;refine tv ?_;refine xak (ι:=List (Pat)×List (Pat)) hk (fun x=>[(43,.d (.i (x.1.length:Int))),(8,.gl 3 ((x.1.flatMap (zdJ (zaz (nth p.kids i)))).map Pat.cc))]) [10,12,13,44,45,46,47,48,49,50,51,52,53,54,55,56,57,58,59,60,61,62,63,64,65,66] (fun x=>[(3,some (.tok (((x.1.flatMap (zdJ (zaz (nth p.kids i)))).map Pat.cc)).length 6))]) (fun x=>x.1++x.2=zca p i) (fun x=>x.2.length) ([],zca p i) (by simp) ⟨⟨_,rfl,xar ?_⟩,⟨⟨_,rfl,LeA.glg ?_⟩,trivial⟩⟩ ⟨zaa ?_,trivial⟩ (fun x=>rfl) (fun x hg2=>?_);iterate 3 focus (rfl)
   obtain⟨pre2,rest2⟩:=x;dsimp only at hg2 ⊢;refine evc [8] [10,23] ?_;refine sq ?_ ?_<;>intro h3 h3p h3s<;>(try simp only[Q,Pat.cs_len] at h3p);rcases rest2 with _|⟨q,rest2⟩
   ·exfalso;simp_all
   have hqk:=hfk i q (by rw[<-hg2];simp);have hl2:=congrArg List.length hg2;simp only[xaa,xab] at hl2;have hl2b:=hfl i;refine xaU sl26 .none rfl rfl rfl rfl (zaE hg2) rfl ?_;refine evs [8] [] ?_;refine ab 3010 tz28 ?_;refine so ty28 ?_;refine tv ?_;refine xak (ι:=List (Pat)×List (Pat)) hk (fun x=>[(49,.d (.i (x.1.length:Int))),(8,.gl 3 ((pre2.flatMap (zdJ (zaz (nth p.kids i)))++zdJ x.1 q).map Pat.cc))]) [12,13,50,51,52,53,54,55,56,57,58,59,60,61,62,63,64,65] (fun x=>[(3,some (.tok (((pre2.flatMap (zdJ (zaz (nth p.kids i)))++zdJ x.1 q).map Pat.cc)).length 6))]) (fun x=>x.1++x.2=zaz (nth p.kids i)) (fun x=>x.2.length) ([],zaz (nth p.kids i)) (by simp) ⟨⟨_,rfl,xar ?_⟩,⟨⟨_,rfl,LeA.glg ?_⟩,trivial⟩⟩ ⟨zaa ?_,trivial⟩ (fun x=>rfl) (fun x hg3=>?_);iterate 3 focus ((simp[zdJ];done))
   obtain⟨pre3,rest3⟩:=x;dsimp only at hg3 ⊢;refine evc [8] [10,23] ?_;refine sq ?_ ?_<;>intro h4 h4p h4s<;>(try simp only[Q,Pat.cs_len] at h4p);rcases rest3 with _|⟨y,rest3⟩
   ·exfalso;simp_all
   have hl3:=congrArg List.length hg3;simp only[xaa,xab] at hl3;have hl3b:=hcl i (by omega);refine xaU sl26 .none rfl rfl rfl rfl (Pat.cs_at' hg3) rfl ?_;refine evs [8] [] ?_;refine ab 3012 tz28 ?_;refine so ty28 ?_;refine tv ?_;refine ab 3013 tz28 ?_;refine so ty28 ?_;refine tv ?_;refine Walk.call (cr:=[77]) zpa (zfA (xs:=q.kids) (by omega)) rfl .none rfl rfl (LeL.refl _) trivial rfl rfl rfl ?_;refine evd [8] [] ?_;refine si [0] [_] sl26 tz28 ?_;refine ap sl26 zz28 rfl rfl rfl (by intro x hx;first|(simp at hx;subst hx;rfl)|exact zvp _ x hx) (by first|(simp;omega)|(simp only[Pat.cs_len,xaa,xab,xai];omega)) ?_;refine evd [8] [] ?_;refine so ty26 ?_;refine dr ?_;refine si [0] [_] sl26 tz28 ?_;refine ap sl26 zz28 rfl rfl rfl (by intro x hx;first|(simp at hx;subst hx;rfl)|exact zee _ x hx) (by first|(simp;omega)|(have h10:=hgl pre3 q;have h8:=congrArg List.length hg2;have h9:=congrArg List.length hg3;have h7:=zhw (hgl (zaz (nth p.kids i))) pre2;have h6:=hfl i;have h5:=hcl i (by omega);simp only[xaa,xab,xac,xai] at *;have h4:pre2.length*(zaz (nth p.kids i)).length<=40*40:=Nat.mul_le_mul (by omega) (by omega);omega)) ?_;refine asg ?_;refine tv ?_;refine ar ?_;refine xah ((pre3++[y],rest3)) ⟨(by have hz:=hg3;rw[<-hz];simp),(by simp),sx ⟨⟨_,rfl,xar ?_⟩,⟨⟨_,rfl,LeA.glg ?_⟩,trivial⟩⟩ ⟨zaa ?_,trivial⟩⟩;iterate 3 focus (first|(simp[zdJ];omega)|(simp[zdJ,zeR,zh6,mk_n,mk_m,zmj,zcK,xav];done))
   have hrest3:rest3=[]:=by
    rcases rest3 with _|⟨a,b⟩
    ·rfl
    ·exfalso;have hz:=congrArg List.length (hg3);simp only[xaa,xab,xac] at hz;omega
   subst hrest3;refine ar ?_;refine xah ((pre2++[q],rest2)) ⟨(by have hz:=hg2;rw[<-hz];simp),(by simp),sx ⟨⟨_,rfl,xar ?_⟩,⟨⟨_,rfl,LeA.glg ?_⟩,trivial⟩⟩ ⟨zaa ?_,trivial⟩⟩;iterate 3 focus (first|(simp;done)|(rw[List.append_nil] at hg3;rw[List.flatMap_append,xaf];simp[zdJ,<-hg3];done))
   have hrest2:rest2=[]:=by
    rcases rest2 with _|⟨a,b⟩
    ·rfl
    ·exfalso;have hz:=congrArg List.length (hg2);simp only[xaa,xab,xac] at hz;omega
   subst hrest2;refine CWp.tokRen 4 3 9 rfl rfl (by kernel_rfl) ?_;refine evc [8] [] ?_;refine ar ?_;rw[List.append_nil] at hg2;refine xah (i+1) ⟨(by omega),(by omega),sx ⟨⟨_,rfl,xar ?_⟩,⟨⟨_,rfl,LeA.glg ?_⟩,⟨⟨_,rfl,.any _⟩,trivial⟩⟩⟩ ⟨zaa ?_,trivial⟩⟩;iterate 3 focus (first|rfl|(rw[<-hfn i (by omega),<-hg2];done))
   refine rn [(9,some (.tok (Pat.cs SP).length 6))] (r1 rfl) (.glg ?_) ⟨rfl,rfl⟩ (SubH.get ⟨?_,trivial⟩) (zax rfl);rotate_left 2;all_goals ((((rw[<-hfe i (by omega),show Pat.cs (zca p i)=(zca p i).map Pat.cc from xav _];all_goals rfl));done))
def za0 (p:Pat):List Pat:=if (zaz (zaO p)).length<=40 then zaz (zaO p) else []
def zh8 (p:Pat):Bool:=decide ((zaz (zaO p)).length<=40)
theorem ziZ {w:List Data}{n:Nat}{t:Ty}{p:Pat} (h:zas w n t p=true) (hok:p.ok):FnD Tryz.prog 85 [.agg [.d (.i p.op),.d (.i p.ctor),.d (.i p.n),.d (.i p.m),.d (.i p.var),.d (zaj p.kids)]] [] (.tup [.d (zaj (za0 p)),.d (.bool (zh8 p))]) []:=by
 have hb:=zjZ n h;have hbo:=zm4 p hok;have hce:=(zlO n hb).1;have hbp:=zcU _ (Nat.le_refl _) hok;have hcs:=zea _ (Nat.le_refl _) hbo;have hsp:=fun h40=>FnD.glD (zeQ n hb hbo h40);rw[hce] at hcs;unfold za0 zh8;generalize zaO p=b at *;by_cases h40:(zaz b).length<=40
 ·rw[if_pos h40,decide_eq_true h40];have hc40:cap ((zaz b).length:Int)<=40:=by unfold cap;split<;>omega
  refine bd Tryz.f85 12 [] [] fun w0 F0 own kept hk=>?_;refine bx 3001 ?_;refine ev ?_;refine wc zjj (hbp) rfl rfl ?_;refine ab 3004 tz28 ?_;refine so ty28 ?_;refine tv ?_;refine wc zlE (hcs) rfl rfl ?_;refine ev ?_;refine sq ?_ ?_<;>intro h1 h1p h1s<;>(try simp only[Q] at h1p);exfalso;omega;refine wc zlF (hsp h40) rfl rfl ?_;refine ev ?_;refine rn0 (r2 rfl rfl) (.tup (.cons (.eqd ?_) (.cons (.eqd ?_) .nil)));rotate_left 2;all_goals (rfl)
 ·rw[if_neg h40,decide_eq_false h40];have hc40:¬cap ((zaz b).length:Int)<=40:=by unfold cap;split<;>omega
  refine bd Tryz.f85 12 [] [] fun w0 F0 own kept hk=>?_;refine bx 3001 ?_;refine ev ?_;refine wc zjj (hbp) rfl rfl ?_;refine ab 3004 tz28 ?_;refine so ty28 ?_;refine tv ?_;refine wc zlE (hcs) rfl rfl ?_;refine ev ?_;refine sq ?_ ?_<;>intro h1 h1p h1s<;>(try simp only[Q] at h1p);refine rn0 (r2 rfl rfl) (.tup (.cons (.nild ?_) (.cons (.eqd ?_) .nil)));rotate_left 2;exfalso;omega;all_goals (rfl)
structure Spa (w:List Data):Prop where
 dp:Dp w
 ctors:∀t,InS (w.length*4) t->(zap w t).length<=4/\(zap w t).Nodup
 args:∀t c,InS (w.length*4) t->c∈zap w t->(zab w t c).length<=3
theorem zjr (k:Int):∀(l:List Ctor) (i:Nat),(zaX k i l).Pairwise (· < ·)
 | [],_=>by simp[zaX]
 |x::r,i=>by
  unfold zaX;have ih:=zjr k r (i+1);split
  ·refine List.pairwise_cons.2 ⟨fun y hy=>?_,ih⟩;obtain⟨j,rfl,h1,_⟩:=zgk k r (i+1) y hy;omega
  ·exact ih
theorem ziS {w:List Data} (hs:WSmall w) (hv:za1 w=true):Spa w:=by
 have hd:=ziR hs hv;have hW:=(zci w).1 hv;refine⟨hd,fun t ht=>?_,fun t c ht hc=>?_⟩
 ·unfold zap;split
  ·simp
  ·rename_i he;refine⟨?_,(zjr _ _ _).imp (fun h=>by omega)⟩;rcases ht with h|⟨h1,h2⟩
   ·exact absurd h he
   ·have:=hd.ct _ h1;rw[h2] at this;exact this
 ·have hti:=zcO ht;obtain⟨d,h1,h2,j,h3,h4⟩:=zcI (a:=t.data) (k:=t.index) hti hc;have hco:=hW.ctor _ (zah h2) _ (zah h4);simp only[zbx,xad,decide_eq_true_eq] at hco;unfold zab;rw[h1,h3];simp only[Int.toNat_natCast,xac];omega
abbrev intQ (n m:Int):Pat:= .mk 3 0 n m 0 []
abbrev zbW (c:Int) (l:List Pat):Pat:= .mk 4 c 0 0 0 l
def zdc (w:List Data) (t:Ty) (c:Int):Pat:=zbW c ((zab w t c).map fun _=>anyQ)
def lowQ (p:Pat):Int:=if p.op=1 then 0 else p.n
def zc3 (p:Pat):Int:=if p.op=1 then 9 else p.m
def minQ (a b:Int):Int:=if b<a then b else a
def maxQ (a b:Int):Int:=if a<b then b else a
def zcS (n m:Int):List Pat:=if n<=m then [intQ n m] else []
def zcj (f:Pat->Pat->Option Pat):List Pat->List Pat->List Pat->Option (List Pat)
 |p::r,q::s,acc=>match f p q with
  |none=>none
  |some x=>zcj f r s (acc++[x])
 |_,_,acc=>some acc
def zaK:Nat->Pat->Pat->Option Pat
 |0,_,_=>none
 |n+1,a,b=>if a.op=1 then some b else if b.op=1 then some a else if a.op=3 then (if maxQ a.n b.n<=minQ a.m b.m then some (intQ (maxQ a.n b.n) (minQ a.m b.m)) else none)
  else if a.ctor=b.ctor then (zcj (zaK n) a.kids b.kids []).map (zbW a.ctor) else none
def za4 (f:Ty->Pat->Pat->List Pat) (c:Int):List Ty->List Pat->List Pat->List Pat->List Pat
 |u::r,x::s,y::q,front=>(f u x y).map (fun z=>zbW c (front++[z]++s))++(match zaK 11 x y with
  |none=>[]
  |some both=>za4 f c r s q (front++[both]))
 |_,_,_,_=>[]
def zc6 (f:Ty->Pat->Pat->List Pat) (w:List Data) (t:Ty) (a b:Pat):List Pat:=if a.ctor=b.ctor then za4 f a.ctor (zab w t a.ctor) a.kids b.kids [] else [a]
def zhc (a b:Pat):List Pat:=zcS (lowQ a) (minQ (zc3 a) (b.n-1))++zcS (maxQ (lowQ a) (b.m+1)) (zc3 a)
def zaB (w:List Data):Nat->Ty->Pat->Pat->List Pat
 |0,_,_,_=>[]
 |n+1,t,a,b=>if b.op=1 then [] else if b.op=3 then zhc a b else if a.op=1 then (zap w t).flatMap fun c=>zc6 (zaB w n) w t (zdc w t c) b else zc6 (zaB w n) w t a b
section
variable {w:List Data}{n:Nat}{t:Ty}{a b:Pat}
theorem zkp (h:b.op=1):zaB w (n+1) t a b=[]:=by unfold zaB;rw[if_pos h]
theorem zkq (h:b.op=3):zaB w (n+1) t a b=zhc a b:=by unfold zaB;rw[if_neg (by omega),if_pos h]
theorem zkr (h:b.op=4) (h2:a.op=1):zaB w (n+1) t a b=(zap w t).flatMap fun c=>zc6 (zaB w n) w t (zdc w t c) b:=by
 conv=>lhs;unfold zaB
 rw[if_neg (by omega),if_neg (by omega),if_pos h2]
theorem zgX (h:b.op=4) (h2:a.op=4):zaB w (n+1) t a b=zc6 (zaB w n) w t a b:=by
 conv=>lhs;unfold zaB
 rw[if_neg (by omega),if_neg (by omega),if_neg (by omega)]
theorem zpL (h:a.op=1):zaK (n+1) a b=some b:=by unfold zaK;rw[if_pos h]
theorem zpM (h:a.op≠1) (h2:b.op=1):zaK (n+1) a b=some a:=by unfold zaK;rw[if_neg h,if_pos h2]
theorem zpN (h:a.op=3) (h2:b.op≠1):zaK (n+1) a b=if maxQ a.n b.n<=minQ a.m b.m then some (intQ (maxQ a.n b.n) (minQ a.m b.m)) else none:=by
 conv=>lhs;unfold zaK
 rw[if_neg (by omega),if_neg h2,if_pos h]
theorem zpO (h:a.op=4) (h2:b.op≠1) (hc:a.ctor=b.ctor):zaK (n+1) a b=(zcj (zaK n) a.kids b.kids []).map (zbW a.ctor):=by
 conv=>lhs;unfold zaK
 rw[if_neg (by omega),if_neg h2,if_neg (by omega),if_pos hc]
theorem zno (h:a.op=4) (h2:b.op≠1) (hc:¬a.ctor=b.ctor):zaK (n+1) a b=none:=by
 conv=>lhs;unfold zaK
 rw[if_neg (by omega),if_neg h2,if_neg (by omega),if_neg hc]
end
theorem zcR {w:List Data}{n:Nat}{t:Ty}{p:Pat} (h:zak w n t p=true) (h3:p.op=3):t.data = -1/\0<=p.n/\p.n<=p.m/\p.m<=9:=by
 have ho:=(zhd h).1;unfold ownP at ho;have:=(of_decide_eq_true ho).2.2.2.2;omega
theorem za9 {w:List Data}{n:Nat}{t:Ty}{p:Pat} (h:zak w n t p=true) (h4:p.op=4):p.ctor∈zap w t/\t.data≠ -1/\p.kids.length=(zab w t p.ctor).length/\p=zbW p.ctor p.kids:=by
 obtain⟨ho,hl⟩:=zhd h;have hm:=zbK ho h4;refine⟨hm,fun e=>by unfold zap at hm;rw[if_pos e] at hm;simp at hm,by rw[zbh h4] at hl;exact hl, ?_⟩;unfold ownP at ho;have hh:=of_decide_eq_true ho;have h1:=hh.2.1 (by omega);have h2:=hh.2.2.1 (by omega);obtain⟨op,c,m,k,v,ks⟩:=p;change op=4 at h4
 change v=0 at h1
 change m=0/\k=0 at h2
 rw[h4,h1,h2.1,h2.2];rfl
theorem zn4 {w:List Data}{n:Nat}{t:Ty}{a b:Int} (ht:t.data = -1) (h0:0<=a) (h1:a<=b) (h2:b<=9):zak w (n+1) t (intQ a b)=true:=by
 unfold zak;have e:zad w t (intQ a b)=[]:=rfl;rw[e];have ho:ownP w t (intQ a b)=true:=by
  unfold ownP;refine decide_eq_true ⟨fun h=>?_,fun _=>rfl,fun h=>absurd rfl h,fun _=>rfl,.inr (.inr (.inr (.inr (.inl ⟨rfl,ht,h0,h1,h2⟩))))⟩;exfalso;change (3:Int)=2\/(3:Int)=6 at h;omega
 rw[ho];rfl
theorem zio {w:List Data}{n:Nat}{t:Ty}{c:Int}{l:List Pat} (hc:c∈zap w t) (hl:l.length=(zab w t c).length) (hk:∀i,i<l.length->zak w n (nth (zab w t c) i) (nth l i)=true):zak w (n+1) t (zbW c l)=true:=by
 unfold zak;have e:zad w t (zbW c l)=zab w t c:=zbh rfl;have ho:ownP w t (zbW c l)=true:=by
  unfold ownP;refine decide_eq_true ⟨fun h=>?_,fun _=>rfl,fun _=>⟨rfl,rfl⟩,fun h=>absurd rfl h,.inr (.inr (.inr (.inr (.inr ⟨rfl,hc⟩))))⟩;exfalso;change (4:Int)=2\/(4:Int)=6 at h;omega
 rw[ho,e,zcK];exact zb4 hl.symm (fun i hi=>hk i (by omega))
theorem zez {w:List Data}{n m:Nat} (h:n<=m){t:Ty}{p:Pat} (hp:zak w n t p=true):zak w m t p=true:=by
 induction h with
 |refl=>exact hp
 |step _ ih=>exact zga _ ih
theorem zeL {w:List Data}{n:Nat}{t:Ty}{c:Int} (hc:c∈zap w t):zak w (n+2) t (zdc w t c)=true:=by
 unfold zdc;refine zio hc (by simp) (fun i hi=>?_);have e:nth ((zab w t c).map fun _=>anyQ) i=anyQ:=by
  rw[za5 hi];simp
 rw[e];exact znI
theorem zrF {f:Pat->Pat->Option Pat}{a b:List Pat}{i:Nat}{acc:List Pat} (h1:i<a.length) (h2:i<b.length) (h:f (nth a i) (nth b i)=none):zcj f (a.drop i) (b.drop i) acc=none:=by
 rw[zaN h1,zaN h2,zcj,h]
theorem zrG {f:Pat->Pat->Option Pat}{a b:List Pat}{i:Nat}{acc:List Pat}{x:Pat} (h1:i<a.length) (h2:i<b.length) (h:f (nth a i) (nth b i)=some x):zcj f (a.drop i) (b.drop i) acc=zcj f (a.drop (i+1)) (b.drop (i+1)) (acc++[x]):=by
 rw[zaN h1,zaN h2,zcj,h]
theorem zjH {f:Pat->Pat->Option Pat}{a b:List Pat}{i:Nat}{acc:List Pat} (h1:a.length<=i):zcj f (a.drop i) (b.drop i) acc=some acc:=by
 rw[List.drop_eq_nil_of_le h1];cases b.drop i<;>rfl
theorem zmg {f:Pat->Pat->Option Pat}:∀ {a b acc l:List Pat},a.length=b.length->zcj f a b acc=some l->∃r,l=acc++r/\r.length=a.length/\∀i,i<a.length->f (nth a i) (nth b i)=some (nth r i)
 | [],[],acc,l,_,h=>by
  simp only[zcj,Option.some.injEq] at h;exact⟨[],by simp[h],rfl,fun i hi=>by simp at hi⟩
 |p::r,q::s,acc,l,hl,h=>by
  unfold zcj at h;cases hf:f p q with
  |none=>rw[hf] at h;cases h
  |some x=>
   rw[hf] at h;obtain⟨z,e,hz,hm⟩:=zmg (a:=r) (b:=s) (by simpa using hl) h;refine⟨x::z,by rw[e];simp,by simp[hz],fun i hi=>?_⟩;cases i with
   |zero=>exact hf
   |succ i=>exact hm i (by simpa using hi)
 | [],_::_,_,_,hl,_=>by simp at hl
 |_::_,[],_,_,hl,_=>by simp at hl
theorem zfR {w:List Data}{n m:Nat}{t:Ty}{a b:Pat} (ha:zak w n t a=true) (hb:zak w m t b=true) (h1:a.op≠1) (h2:b.op≠1):a.op=b.op:=by
 have oa:=zce ha;have ob:=zce hb;rcases oa with h|h|h
 ·exact absurd h h1
 ·rcases ob with h' | h' | h'
  ·exact absurd h' h2
  ·omega
  ·exact absurd (zcR ha h).1 (za9 hb h').2.1
 ·rcases ob with h' | h' | h'
  ·exact absurd h' h2
  ·exact absurd (zcR hb h').1 (za9 ha h).2.1
  ·omega
theorem zvh (a b:Int):minQ a b<=a/\minQ a b<=b:=by unfold minQ;split<;>omega
theorem zvf (a b:Int):a<=maxQ a b/\b<=maxQ a b:=by unfold maxQ;split<;>omega
theorem zvi (a b:Int):minQ a b=a\/minQ a b=b:=by unfold minQ;split<;>omega
theorem zvg (a b:Int):maxQ a b=a\/maxQ a b=b:=by unfold maxQ;split<;>omega
theorem zjI {w:List Data}:∀(n m:Nat){t:Ty}{a b x:Pat},zak w m t a=true->zak w m t b=true->zaK n a b=some x->zak w m t x=true
 |0,m,t,a,b,x,_,_,h=>by simp[zaK] at h
 |n+1,0,t,a,b,x,ha,_,_=>by simp[zak] at ha
 |n+1,m+1,t,a,b,x,ha,hb,h=>by
  by_cases h1:a.op=1
  ·rw[zpL h1] at h;cases h;exact hb
  by_cases h2:b.op=1
  ·rw[zpM h1 h2] at h;cases h;exact ha
  have hs:=zfR ha hb h1 h2;have oa:=zce ha;by_cases h3:a.op=3
  ·rw[zpN h3 h2] at h;split at h
   ·cases h
    have ia:=zcR ha h3;have ib:=zcR hb (by omega);have q1:=zvi a.m b.m;have q2:=zvg a.n b.n;refine zn4 ia.1 (by omega) (by assumption) (by omega)
   ·cases h
  have h4:a.op=4:=by omega
  by_cases hc:a.ctor=b.ctor
  ·rw[zpO h4 h2 hc] at h;obtain⟨m1,m2,m3,m4⟩:=za9 ha h4;obtain⟨n1,n2,n3,n4⟩:=za9 hb (by omega);rw[<-hc] at n3;cases hl:zcj (zaK n) a.kids b.kids [] with
   |none=>rw[hl] at h;cases h
   |some l=>
    rw[hl] at h;simp only[Option.map_some,Option.some.injEq] at h;subst h;obtain⟨r,e,hr,hm⟩:=zmg (by omega) hl;rw[List.nil_append] at e;subst e;refine zio m1 (by omega) (fun i hi=>?_);have ka:=zbv ha (i:=i) (by omega);have kb:=zbv hb (i:=i) (by omega);rw[zbh h4] at ka;rw[zbh (by omega),<-hc] at kb;exact zjI n m ka kb (hm i (by omega))
  ·rw[zno h4 h2 hc] at h;cases h
theorem zmt {w:List Data}{n:Nat}{t:Ty}{a b:Int} (ht:t.data = -1) (h0:0<=a) (h2:b<=9):∀x∈zcS a b,zak w (n+1) t x=true:=by
 intro x hx;unfold zcS at hx;split at hx
 ·rename_i h1;rw[List.mem_singleton] at hx;rw[hx];exact zn4 ht h0 h1 h2
 ·simp at hx
theorem zpK {w:List Data}{n:Nat}{t:Ty}{a:Pat} (ha:zak w n t a=true) (ht:t.data = -1):0<=lowQ a/\zc3 a<=9/\lowQ a<=zc3 a:=by
 have oa:=zce ha;unfold lowQ zc3;by_cases h1:a.op=1
 ·rw[if_pos h1,if_pos h1];omega
 ·rw[if_neg h1,if_neg h1];by_cases h3:a.op=3
  ·have:=zcR ha h3;omega
  ·exact absurd ht (za9 ha (by omega)).2.1
theorem zrI (a b:Pat):(zhc a b).length<=2:=by
 have h:∀x y,(zcS x y).length<=1:=fun x y=>by unfold zcS;split<;>simp
 unfold zhc;rw[xaa];have:=h (lowQ a) (minQ (zc3 a) (b.n-1));have:=h (maxQ (lowQ a) (b.m+1)) (zc3 a);omega
theorem zqq {w:List Data}{f:Ty->Pat->Pat->List Pat}{m:Nat}{t:Ty}{c:Int} (hc:c∈zap w t) (hf:∀u x y,zak w m u x=true->zak w m u y=true->∀z∈f u x y,zak w m u z=true):
  ∀(i:Nat){xs bs front:List Pat},front.length=i->xs.length+i=(zab w t c).length->bs.length=xs.length->(∀j,j<i->zak w m (nth (zab w t c) j) (nth front j)=true)->
   (∀j,j<xs.length->zak w m (nth (zab w t c) (i+j)) (nth xs j)=true/\zak w m (nth (zab w t c) (i+j)) (nth bs j)=true)->
   ∀x∈za4 f c ((zab w t c).drop i) xs bs front,zak w (m+1) t x=true:=by
 intro i xs;induction xs generalizing i with
 |nil=>
  intro bs front _ _ _ _ _ x hx;cases hT:(zab w t c).drop i<;>(rw[hT] at hx;simp[za4] at hx)
 |cons a0 s ih=>
  intro bs front hfl hal hbl hfr hab x hx;cases bs with
  |nil=>simp at hbl
  |cons b0 q=>
   have hi:i<(zab w t c).length:=by simp at hal;omega
   rw[zaN hi] at hx;have h0:=hab 0 (by simp);simp only[Nat.add_zero] at h0;have e0:nth (a0::s) 0=a0:=rfl;have e1:nth (b0::q) 0=b0:=rfl;rw[e0,e1] at h0;unfold za4 at hx;have hpiece:∀z,zak w m (nth (zab w t c) i) z=true->∀j,j<(front++[z]++s).length->zak w m (nth (zab w t c) j) (nth (front++[z]++s) j)=true:=fun z hz j hj=>by
    by_cases hj1:j<i
    ·have e:nth (front++[z]++s) j=nth front j:=by
      simp only[nth,List.getD,List.append_assoc];rw[List.getElem?_append_left (by omega)]
     rw[e];exact hfr j hj1
    ·by_cases hj2:j=i
     ·have e:nth (front++[z]++s) j=z:=by
       simp only[nth,List.getD,List.append_assoc];rw[List.getElem?_append_right (by omega),show j-front.length=0 by omega];rfl
      rw[e,hj2];exact hz
     ·obtain⟨k,rfl⟩:∃k,j=i+1+k:=⟨j-(i+1),by omega⟩;have e:nth (front++[z]++s) (i+1+k)=nth (a0::s) (k+1):=by
       simp only[nth,List.getD,List.append_assoc];rw[List.getElem?_append_right (by omega),show i+1+k-front.length=k+1 by omega];rfl
      rw[e];have:=(hab (k+1) (by simp at hj ⊢;omega)).1;rwa [show i+(k+1)=i+1+k by omega] at this
   rcases List.mem_append.1 hx with hx|hx
   ·obtain⟨z,hz,rfl⟩:=List.mem_map.1 hx;refine zio hc (by simp at hal ⊢;omega) (hpiece z (hf _ _ _ h0.1 h0.2 z hz))
   ·cases hm:zaK 11 a0 b0 with
    |none=>rw[hm] at hx;simp at hx
    |some both=>
     rw[hm] at hx;have hbp:=zjI 11 m h0.1 h0.2 hm;refine ih (i+1) (bs:=q) (front:=front++[both]) (by simp[hfl]) (by simp at hal ⊢;omega) (by simpa using hbl) (fun j hj=>?_) (fun j hj=>?_) x hx
     ·have:=hpiece both hbp j (by simp;omega);have e:nth (front++[both]++s) j=nth (front++[both]) j:=by
       simp only[nth,List.getD];rw[List.getElem?_append_left (by simp;omega)]
      rwa [e] at this
     ·have:=hab (j+1) (by simpa using hj);rwa [show i+(j+1)=i+1+j by omega] at this
theorem zgE {w:List Data}:∀(n m:Nat){t:Ty}{a b:Pat},n<m->zak w m t a=true->zak w n t b=true->∀x∈zaB w n t a b,zak w m t x=true
 |0,m,t,a,b,_,_,hb=>by simp[zak] at hb
 |n+1,0,t,a,b,hn,_,_=>by omega
 |n+1,m+1,t,a,b,hn,ha,hb=>by
  have ob:=zce hb;have oa:=zce ha;have hf:∀u x y,zak w m u x=true->zak w n u y=true->∀z∈zaB w n u x y,zak w m u z=true:=fun u x y hx hy=>zgE n m (by omega) hx hy;have hcc:∀a,zak w (m+1) t a=true->a.op=4->b.op=4->∀x∈zc6 (zaB w n) w t a b,zak w (m+1) t x=true:=fun a ha h4 h4b=>by
   obtain⟨m1,m2,m3,m4⟩:=za9 ha h4;obtain⟨n1,n2,n3,n4⟩:=za9 hb h4b;intro x hx;unfold zc6 at hx;split at hx
   ·rename_i hc;have key:=zqq (w:=w) (f:=fun u x y=>if zak w m u x=true/\zak w n u y=true then zaB w n u x y else []) (m:=m) (t:=t) (c:=a.ctor) m1 (fun u x y hx hy z hz=>by
     split at hz
     ·rename_i hh;exact hf u x y hh.1 hh.2 z hz
     ·simp at hz) 0 (xs:=a.kids) (bs:=b.kids) (front:=[]) rfl (by omega) (by rw[hc] at m3;omega) (fun j hj=>by omega) (fun j hj=>by
      have ka:=zbv ha (i:=j) hj;have kb:=zbv hb (i:=j) (by rw[hc] at m3;omega);rw[zbh h4] at ka;rw[zbh h4b,<-hc] at kb;rw[Nat.zero_add];exact⟨ka,zez (by omega) kb⟩) x
    refine key ?_;have e:∀(ts:List Ty) (xs bs front:List Pat),(∀j,j<ts.length->j<xs.length->j<bs.length->zak w m (nth ts j) (nth xs j)=true/\zak w n (nth ts j) (nth bs j)=true)->
      za4 (fun u x y=>if zak w m u x=true/\zak w n u y=true then zaB w n u x y else []) a.ctor ts xs bs front=za4 (zaB w n) a.ctor ts xs bs front:=by
     intro ts;induction ts with
     |nil=>intro xs bs front _;simp[za4]
     |cons u r ih=>
      intro xs bs front h;cases xs with
      |nil=>simp[za4]
      |cons x s=>
       cases bs with
       |nil=>simp[za4]
       |cons y q=>
        have h0:=h 0 (by simp) (by simp) (by simp);change zak w m u x=true/\zak w n u y=true at h0
        unfold za4;rw[if_pos h0];congr 1
        cases hmm:zaK 11 x y with
        |none=>rfl
        |some both=>exact ih s q (front++[both]) (fun j h1 h2 h3=>h (j+1) (by simpa using h1) (by simpa using h2) (by simpa using h3))
    rw[List.drop_zero,e _ _ _ _ (fun j h1 h2 h3=>?_)]
    ·exact hx
    ·have ka:=zbv ha (i:=j) h2;have kb:=zbv hb (i:=j) h3;rw[zbh h4] at ka;rw[zbh h4b,<-hc] at kb;exact⟨ka,kb⟩
   ·rw[List.mem_singleton] at hx;rw[hx];exact ha
  rcases ob with h1|h3|h4
  ·rw[zkp h1];simp
  ·rw[zkq h3];intro x hx;have hl:=zpK ha (zcR hb h3).1;have ib:=zcR hb h3;have q1:=zvh (zc3 a) (b.n-1);have q2:=zvf (lowQ a) (b.m+1);unfold zhc at hx;rcases List.mem_append.1 hx with h|h
   ·exact zmt ib.1 (by omega) (by omega) x h
   ·exact zmt ib.1 (by omega) (by omega) x h
  ·by_cases ha1:a.op=1
   ·rw[zkr h4 ha1];intro x hx;obtain⟨c,hc,hx⟩:=List.mem_flatMap.1 hx;refine hcc _ ?_ rfl h4 x hx;obtain⟨k,rfl⟩:∃k,m=k+1:=⟨m-1,by omega⟩;exact zeL hc
   ·have ha4:a.op=4:=by
     have:=zfR ha hb ha1 (by omega);omega
    rw[zgX h4 ha4];exact hcc a ha ha4 h4
theorem zks {w:List Data} (hs:Spa w):∀(n:Nat){t:Ty}{p:Pat},InS (w.length*4) t->zak w n t p=true->p.ok/\p.size<=4 ^ n
 |0,t,p,_,h=>by simp[zak] at h
 |n+1,t,p,ht,h=>by
  have hk:=fun i (hi:i<p.kids.length)=>zbv h hi;have hl:=(zhd h).2;have op:=zce h;have hpow:4 ^ (n+1)=4 ^ n*4:=rfl;have hpos:0<4 ^ n:=Nat.pow_pos (by omega);by_cases h4:p.op=4
  ·obtain⟨m1,m2,m3,m4⟩:=za9 h h4;have h3:=hs.args t p.ctor ht m1;rw[zbh h4] at hk;have ih:∀k∈p.kids,k.ok/\k.size<=4 ^ n:=fun k hkm=>by
    obtain⟨i,hi,rfl⟩:=List.getElem_of_mem hkm;have e:nth p.kids i=p.kids[i]:=za5 hi;have:=zks hs n (zbR hs.dp ht m1 _ (zah (i:=i) (by omega))) (hk i hi);rwa [e] at this
   have hz:=Pats.size_of (m:=4 ^ n) (fun k hk=>(ih k hk).2);rw[Pat.ok_iff,Pat.size_eq];refine⟨⟨by omega,Pats.ok_of (fun k hk=>(ih k hk).1)⟩, ?_⟩;have:p.kids.length*4 ^ n<=3*4 ^ n:=Nat.mul_le_mul_right _ (by omega);omega
  ·have hk0:p.kids=[]:=zfr (zgI _ h) h4 (by omega) (by omega);rw[Pat.ok_iff,Pat.size_eq,hk0];exact⟨⟨by simp,trivial⟩,by simp only[Pats.size];omega⟩
theorem znV {α:Type}{g:Int->List α}{c0:Int}{X:Nat}:∀ {cs:List Int},cs.Nodup->(∀c∈cs,c≠c0->(g c).length<=1)->(g c0).length<=X->(cs.flatMap g).length<=cs.length+X
 | [],_,_,_=>by simp
 |c::r,hn,h1,h2=>by
  obtain⟨n1,n2⟩:=List.nodup_cons.1 hn;rw[List.flatMap_cons,xaa,xab];by_cases hc:c=c0
  ·have key:∀l:List Int,c0∉l->(∀x∈l,x≠c0->(g x).length<=1)->(l.flatMap g).length<=l.length:=by
    intro l;induction l with
    |nil=>intro _ _;simp
    |cons y s ih=>
     intro hm hh;rw[List.flatMap_cons,xaa,xab];have a1:=hh y (by simp) (fun e=>hm (by rw[e];simp));have a2:=ih (fun e=>hm (by simp[e])) (fun x hx=>hh x (by simp[hx]));omega
   have:=key r (by rw[<-hc];exact n1) (fun x hx=>h1 x (by simp[hx]));rw[hc];omega
  ·have a1:=h1 c (by simp) hc;have a2:=znV (X:=X) n2 (fun x hx=>h1 x (by simp[hx])) h2;omega
theorem zmi {f:Ty->Pat->Pat->List Pat}{c:Int} (L:Pat->Nat):∀(ts:List Ty) (xs bs front:List Pat),(∀i,i<ts.length->i<xs.length->i<bs.length->(f (nth ts i) (nth xs i) (nth bs i)).length<=L (nth bs i))->(za4 f c ts xs bs front).length<=(bs.map L).sum
 | [],xs,bs,front,_=>by simp[za4]
 |_::_,[],bs,front,_=>by simp[za4]
 |_::_,_::_,[],front,_=>by simp[za4]
 |u::r,x::s,y::q,front,h=>by
  have h0:=h 0 (by simp) (by simp) (by simp);change (f u x y).length<=L y at h0
  unfold za4;rw[xaa,xac,xae,List.sum_cons];cases hm:zaK 11 x y with
  |none=>simp;omega
  |some both=>
   have:=zmi (c:=c) L r s q (front++[both]) (fun i h1 h2 h3=>h (i+1) (by simpa using h1) (by simpa using h2) (by simpa using h3));dsimp only;omega
theorem zrH {w:List Data}{f:Ty->Pat->Pat->List Pat}{t:Ty}{a b:Pat}{L:Pat->Nat} (h:∀i,i<(zab w t a.ctor).length->i<a.kids.length->i<b.kids.length->(f (nth (zab w t a.ctor) i) (nth a.kids i) (nth b.kids i)).length<=L (nth b.kids i)):
  (zc6 f w t a b).length<=if a.ctor=b.ctor then (b.kids.map L).sum else 1:=by
 unfold zc6;split
 ·exact zmi L _ _ _ _ h
 ·simp
theorem sum4:∀l:List Pat,(l.map fun b=>4*b.size).sum=4*Pats.size l
 | []=>rfl
 |k::r=>by simp only[xae,List.sum_cons,Pats.size,sum4 r];omega
theorem zn9 {w:List Data} (hs:Spa w):∀(n m:Nat){t:Ty}{a b:Pat},n<m->InS (w.length*4) t->zak w m t a=true->zak w n t b=true->(zaB w n t a b).length<=4*b.size
 |0,m,t,a,b,_,_,_,hb=>by simp[zak] at hb
 |n+1,0,t,a,b,hn,_,_,_=>by omega
 |n+1,m+1,t,a,b,hn,ht,ha,hb=>by
  have ob:=zce hb;have hz:=Pat.size_eq b;rcases ob with h1|h3|h4
  ·rw[zkp h1];simp
  ·rw[zkq h3];have:=zrI a b;omega
  ·obtain⟨n1,n2,n3,n4⟩:=za9 hb h4;have hcc:∀a,zak w (m+1) t a=true->a.op=4->(zc6 (zaB w n) w t a b).length<=if a.ctor=b.ctor then 4*Pats.size b.kids else 1:=fun a ha h4a=>by
    obtain⟨m1,m2,m3,m4⟩:=za9 ha h4a;rw[<-sum4];by_cases hc:a.ctor=b.ctor
    ·have:=zrH (w:=w) (f:=zaB w n) (t:=t) (a:=a) (b:=b) (L:=fun b=>4*b.size) (fun i h1 h2 h3=>by
      have ka:=zbv ha (i:=i) h2;have kb:=zbv hb (i:=i) h3;rw[zbh h4a] at ka;rw[zbh h4,<-hc] at kb;exact zn9 hs n m (by omega) (zbR hs.dp ht m1 _ (zah h1)) ka kb)
     exact this
    ·unfold zc6;rw[if_neg hc,if_neg hc];simp
   by_cases ha1:a.op=1
   ·rw[zkr h4 ha1];obtain⟨c1,c2⟩:=hs.ctors t ht;have hw:∀c,c∈zap w t->(zc6 (zaB w n) w t (zdc w t c) b).length<=if c=b.ctor then 4*Pats.size b.kids else 1:=fun c hc=>by
     obtain⟨k,rfl⟩:∃k,m=k+1:=⟨m-1,by omega⟩;exact hcc _ (zeL hc) rfl
    have:=znV (g:=fun c=>zc6 (zaB w n) w t (zdc w t c) b) (c0:=b.ctor) (X:=4*Pats.size b.kids) c2 (fun c hc hne=>by have:=hw c hc;rwa [if_neg hne] at this) (by have:=hw _ n1;rwa [if_pos rfl] at this);omega
   ·have ha4:a.op=4:=by have:=zfR ha hb ha1 (by omega);omega
    rw[zgX h4 ha4];have:=hcc a ha ha4;split at this<;>omega
theorem zlz {α β:Type} [Inhabited α] [Inhabited β]{f:α->β->Bool}:∀ {a:List α}{b:List β},a.length=b.length->all2 f a b=false->∃i,i<a.length/\f (nth a i) (nth b i)=false
 | [],[],_,h=>by simp[all2] at h
 |x::r,y::s,hl,h=>by
  simp only[all2,Bool.and_eq_false_iff] at h;rcases h with h|h
  ·exact⟨0,by simp,h⟩
  ·obtain⟨i,h1,h2⟩:=zlz (by simpa using hl) h;exact⟨i+1,by simpa using h1,h2⟩
 | [],_::_,hl,_=>by simp at hl
 |_::_,[],hl,_=>by simp at hl
theorem zqS {w:List Data}{f:Nat->Nat}{n:Nat}{t:Ty}{p:Pat} (h:p.op=1):zaQ w f (n+1) t p=decide (dv f t=0):=by rw[zbe,if_pos (.inl h)]
theorem zva {w:List Data}{f:Nat->Nat}{n m:Nat}{t:Ty}{p:Pat} (hp:zak w m t p=true) (h:p.op=3):zaQ w f (n+1) t p=false:=by
 rw[zbe,if_neg (by omega),if_neg (by omega)];have e:zad w t p=[]:=by unfold zad;rw[if_neg (by omega),if_neg (by omega),if_neg (by omega)]
 have hl:=(zhd hp).2;rw[e] at hl ⊢;rw[List.eq_nil_of_length_eq_zero hl];rfl
theorem zqT {w:List Data}{f:Nat->Nat}{n:Nat}{t:Ty}{p:Pat} (h:p.op=4):zaQ w f (n+1) t p = !(all2 (fun u q=> !zaQ w f n u q) (zab w t p.ctor) p.kids):=by
 rw[zbe,if_neg (by omega),if_neg (by omega),zbh h]
theorem ztB {w:List Data}{f:Nat->Nat}{n m:Nat}{t:Ty}{p:Pat} (hp:zak w m t p=true) (h:p.op=4) (hd:zaQ w f (n+1) t p=true):∃i,i<p.kids.length/\zaQ w f n (nth (zab w t p.ctor) i) (nth p.kids i)=true:=by
 rw[zqT h] at hd;have hl:=(za9 hp h).2.2.1;obtain⟨i,h1,h2⟩:=zlz (a:=zab w t p.ctor) (b:=p.kids) (f:=fun u q=> !zaQ w f n u q) hl.symm (by simpa using hd);exact⟨i,by omega,by simpa using h2⟩
section
variable {w:List Data} (hs:Spa w)
include hs
end
def zcz (w:List Data) (t:Ty) (p:Pat):Bool:= !zaQ w (zai w) 11 t p
def zew (w:List Data) (t:Ty) (l:List Pat) (b:Pat):List Pat:=(l.flatMap fun a=>zaB w 10 t a b).filter (zcz w t)
def subL (w:List Data) (t:Ty):List Pat->List Pat->Option (List Pat)
 |l,[]=>some l
 |l,b::r=>if (zew w t l b).length<=400 then subL w t (zew w t l b) r else none
def zbc (w:List Data) (t:Ty) (l away:List Pat):Option (List Pat):=subL w t (l.filter (zcz w t)) away
theorem zgF {w:List Data}{t:Ty}{l:List Pat}{b:Pat} (hl:∀a∈l,zak w 11 t a=true) (hb:zak w 10 t b=true):∀x∈zew w t l b,zak w 11 t x=true:=fun x hx=>by
 unfold zew at hx;obtain⟨a,ha,hx⟩:=List.mem_flatMap.1 (List.mem_filter.1 hx).1;exact zgE 10 11 (by omega) (hl a ha) hb x hx
theorem zlo {n:Nat} (h0:0<n) (hb:n<=1000000):FnD Tryz.prog 190 [.nils,.d (.i (n:Int))] [] (.gv 9 []) [(9,some (.tok 0 6))]:=by
 refine bd Tryz.f190 27 [12,24] [] fun w0 F0 own kept hk=>?_;refine sq ?_ ?_<;>intro h1 h1p h1s<;>(try simp only[Q] at h1p);exfalso;omega;refine Walk.capN sl26 .none rfl rfl ?_;refine evs [12,24] [] ?_;refine Walk.lenN sl26 .none rfl rfl ?_;refine evs [12,24] [] ?_;refine ar ?_;refine ar ?_;refine sq ?_ ?_<;>intro h2 h2p h2s<;>(try simp only[Q] at h2p);refine Walk.capN sl26 .none rfl rfl ?_;refine Walk.cutN_h sl26 .none rfl rfl rfl ?_;refine evs [12,24] [] ?_;refine Walk.growZ (n:=n) 8 sl26 Tryz.underlying3 tz28 rfl (by decide) rfl .none rfl rfl rfl (by simp) h0 (by omega) (by omega) rfl ?_;refine evs [12,24] [] ?_;refine Walk.lenN sl26 .none rfl rfl ?_;refine Walk.cutV_h 9 (b:=0) sl26 .none rfl rfl (zfk rfl (by(simp;done))) rfl rfl (Nat.zero_le _) (by rw[List.length_replicate];exact h0) rfl ?_;refine evs [12,24] [] ?_;focus (refine rn [(9,some (.tok 0 6))] (r1 rfl) (.gvg ?_) ⟨rfl,rfl⟩ (SubH.get ⟨rfl,trivial⟩) (zax rfl);all_goals (rfl))
 focus (exfalso;simp at h2;all_goals omega)
abbrev zuB (ls:List (List Pat)):D:= .sl (ls.map fun l=>[zaj l])
theorem zj2 {ls:List (List Pat)} (hl:ls.length<=1000) (h0:0<ls.flatten.length) (hb:ls.flatten.length<=1000000):FnD Tryz.prog 151 [.d (zuB ls)] [] (.d (zaj ls.flatten)) []:=by
 have key:∀ {pre rest:List (List Pat)}{y:List Pat},pre++y::rest=ls->pre.flatten.length+y.length<=ls.flatten.length:=fun h=>by
  rw[<-h];simp
 refine FnD.gvD (i:=9) (k:=6) ?_;refine bd Tryz.f151 36 [] [] fun w0 F0 own kept hk=>?_;refine xak (ι:=List (List Pat)×List (List Pat)) hk (fun x=>[(11,.d (.i (x.1.length:Int))),(3,.d (.i (x.1.flatten.length:Int)))]) [5,12,13,14,15,16,17,18,19,20,21,22] (fun x=>[]) (fun x=>x.1++x.2=ls) (fun x=>x.2.length) ([],ls) (by simp) ⟨⟨_,rfl,xar ?_⟩,⟨⟨_,rfl,xar ?_⟩,trivial⟩⟩ trivial (fun x=>rfl) (fun x hg1=>?_);iterate 2 focus (rfl)
 obtain⟨pre,rest⟩:=x;dsimp only at hg1 ⊢;refine evc [] [] ?_;refine sq ?_ ?_<;>intro h1 h1p h1s<;>(try simp only[Q,Pat.cs_len] at h1p);rcases rest with _|⟨y,rest⟩
 ·exfalso;simp_all
 refine xaU zrU .none rfl rfl rfl rfl (zaE hg1) rfl ?_;refine ev ?_;refine ar ?_ (by(have h9:=key hg1;constructor<;>first|omega|(simp only[Pat.cs_len];omega)));refine sq ?_ ?_<;>intro h2 h2p h2s<;>(try simp only[Q,Pat.cs_len] at h2p);exfalso;have:=key hg1;omega;refine ar ?_ (by(have h9:=key hg1;constructor<;>first|omega|(simp only[Pat.cs_len];omega)));refine xah ((pre++[y],rest)) ⟨(by have hz:=hg1;rw[<-hz];simp),(by simp),sx ⟨⟨_,rfl,xar ?_⟩,⟨⟨_,rfl,xar ?_⟩,trivial⟩⟩ trivial⟩;iterate 2 focus ((simp[Pat.cs_len];done))
 have hrest:rest=[]:=by
  rcases rest with _|⟨a,b⟩
  ·rfl
  ·exfalso;have hz:=congrArg List.length (hg1);simp only[xaa,xab,xac] at hz;omega
 subst hrest;refine Walk.call (cr:=[9]) zv8 (zlo (n:=pre.flatten.length) (by rw[List.append_nil] at hg1;rw[hg1];exact h0) (by rw[List.append_nil] at hg1;rw[hg1];exact hb)) rfl .none rfl rfl (LeL.refl _) trivial rfl rfl rfl ?_;refine ev ?_;refine xak (ι:=List (List Pat)×List (List Pat)) hk (fun x=>[(27,.d (.i (x.1.length:Int))),(6,.gv 9 (Pat.cs x.1.flatten))]) [8,28,29,30,31,32,33,34] (fun x=>[(9,some (.tok (Pat.cs x.1.flatten).length 6))]) (fun x=>x.1++x.2=ls) (fun x=>x.2.length) ([],ls) (by simp) ⟨⟨_,rfl,xar ?_⟩,⟨⟨_,rfl,LeA.gvg ?_⟩,trivial⟩⟩ ⟨zaa ?_,trivial⟩ (fun x=>rfl) (fun x hg2=>?_);iterate 3 focus (rfl)
 obtain⟨pre,rest⟩:=x;dsimp only at hg2 ⊢;refine evc [] [] ?_;refine sq ?_ ?_<;>intro h3 h3p h3s<;>(try simp only[Q,Pat.cs_len] at h3p);rcases rest with _|⟨y,rest⟩
 ·exfalso;simp_all
 refine xaU zrU .none rfl rfl rfl rfl (zaE hg2) rfl ?_;refine ev ?_;refine xaE sl26 zz28 .none rfl rfl rfl rfl (zfk rfl (by rfl)) (by exact zee _) (by have:=key hg2;simp only[Pat.cs_len];omega) (by have:=key hg2;simp only[Pat.cs_len];omega) ?_;refine ev ?_;refine ar ?_ (by(constructor<;>omega));refine xah ((pre++[y],rest)) ⟨(by have hz:=hg2;rw[<-hz];simp),(by simp),sx ⟨⟨_,rfl,xar ?_⟩,⟨⟨_,rfl,LeA.gvg ?_⟩,trivial⟩⟩ ⟨zaa ?_,trivial⟩⟩;iterate 3 focus ((simp[xav];done))
 have hrest:rest=[]:=by
  rcases rest with _|⟨a,b⟩
  ·rfl
  ·exfalso;have hz:=congrArg List.length (hg2);simp only[xaa,xab,xac] at hz;omega
 subst hrest;refine rn [(9,some (.tok (Pat.cs ls.flatten).length 6))] (r1 rfl) (.gvg ?_) ⟨rfl,rfl⟩ (SubH.get ⟨?_,trivial⟩) (zax rfl);rotate_left 2;all_goals ((rw[List.append_nil] at hg2;subst hg2;rfl))
def zbp (l:List Int):Nat->List Pat
 |0=>[]
 |n+1=>zbp l n++zcS (nth l (2*n)) (nth l (2*n+1))
theorem zjT (l:List Int):∀n,(zbp l n).length<=n
 |0=>by simp[zbp]
 |n+1=>by
  have:=zjT l n;simp only[zbp,zcS,xaa];split<;>simp<;>omega
theorem zjU {l:List Int}{n:Nat} (h:nth l (2*n)<=nth l (2*n+1)):zbp l (n+1)=zbp l n++[intQ (nth l (2*n)) (nth l (2*n+1))]:=by simp[zbp,zcS,h]
theorem zqt {l:List Int}{n:Nat} (h:¬nth l (2*n)<=nth l (2*n+1)):zbp l (n+1)=zbp l n:=by simp only[zbp,zcS,if_neg h,List.append_nil]
theorem zp2 (a b:Int):zbp [a,b] 1=zcS a b:=by simp[zbp,nth]
theorem zt0 (a b c d:Int):zbp [a,b,c,d] 2=zcS a b++zcS c d:=by simp[zbp,nth]
theorem zl4 {p:Pat}:FnD Tryz.prog 149 [.agg [.d (.i p.op),.d (.i p.ctor),.d (.i p.n),.d (.i p.m),.d (.i p.var),.d (zaj p.kids)]] [] (.tup [.d (.i (lowQ p)),.d (.i (zc3 p))]) []:=by
 by_cases h:p.op=1
 ·have e1:lowQ p=0:=if_pos h;have e2:zc3 p=9:=if_pos h;rw[e1,e2];refine bd Tryz.f149 11 [] [] fun w0 F0 own kept hk=>?_;refine bx 3001 ?_;refine ev ?_;refine sq ?_ ?_<;>intro h1 h1p h1s<;>(try simp only[Q] at h1p);focus (refine rn0 (r2 rfl rfl) (.tup (.cons (.eqd ?_) (.cons (.eqd ?_) .nil)));all_goals (rfl))
  exfalso;omega
 ·skip
  have e1:lowQ p=p.n:=if_neg h;have e2:zc3 p=p.m:=if_neg h;rw[e1,e2];refine bd Tryz.f149 11 [] [] fun w0 F0 own kept hk=>?_;refine bx 3001 ?_;refine ev ?_;refine sq ?_ ?_<;>intro h1 h1p h1s<;>(try simp only[Q] at h1p);exfalso;omega;refine dr ?_;focus (refine rn0 (r2 rfl rfl) (.tup (.cons (.eqd ?_) (.cons (.eqd ?_) .nil)));all_goals (rfl))
theorem zfI {l:List Int}{n:Nat} (hl:l.length=2*n) (hb:n<=1000):FnD Tryz.prog 116 [.d (zcd l)] [] (.d (zaj (zbp l n))) []:=by
 refine bd Tryz.f116 35 [3] [] fun w0 F0 own kept hk=>?_;refine xaF 9 6 .none rfl rfl ?_;refine tv ?_;refine xak (ι:=Nat) hk (fun i=>[(4,.d (.i ((2*i:Nat):Int))),(3,.gl 9 (Pat.cs (zbp l i)))]) [5,6,7,8,9,10,11,12,13,14,15,16,17,18,19,20,21,22,23,24,25,26,27,28,29,30,31,32,33] (fun i=>[(9,some (.tok ((Pat.cs (zbp l i))).length 6))]) (fun i=>i<=n) (fun i=>n-i) 0 (by omega) ⟨⟨_,rfl,xar ?_⟩,⟨⟨_,rfl,LeA.glg ?_⟩,trivial⟩⟩ ⟨zaa ?_,trivial⟩ (fun x=>rfl) (fun i hg1=>?_);iterate 3 focus (rfl)
 refine evc [3] [] ?_;refine sq ?_ ?_<;>intro h1 h1p h1s<;>(try simp only[Q] at h1p);refine xaU (i:=2*i) sl62 .none rfl rfl rfl rfl (zat (by omega)) rfl ?_;refine evd [3] [] ?_;refine ar ?_;refine xaU (i:=2*i+1) sl62 .none rfl rfl rfl rfl (zat (by omega)) rfl ?_;refine evd [3] [] ?_;refine dr ?_;refine sq ?_ ?_<;>intro h2 h2p h2s<;>(try simp only[Q] at h2p);refine xaU (i:=2*i) sl62 .none rfl rfl rfl rfl (zat (by omega)) rfl ?_;refine evd [3] [] ?_;refine ar ?_;refine xaU (i:=2*i+1) sl62 .none rfl rfl rfl rfl (zat (by omega)) rfl ?_;refine evd [3] [] ?_;refine bu [0,2,3] [_,_,_] st28 ?_;refine si [0] [_] sl26 tz28 ?_;refine ap sl26 zz28 rfl rfl rfl (by(intro x hx;simp at hx;subst hx;rfl)) (by have:=zjT l i;simp[Pat.cs_len];omega) ?_;refine asg ?_;refine dr ?_;refine ar ?_;refine xah (i+1) ⟨(by omega),(by omega),sx ⟨⟨_,rfl,xar ?_⟩,⟨⟨_,rfl,LeA.glg ?_⟩,trivial⟩⟩ ⟨zaa ?_,trivial⟩⟩;iterate 3 focus (first|rfl|(rw[zjU (by assumption),xav,xav,xaf];rfl)|(rw[zjU (by assumption)];simp[Pat.cs_len];done))
 refine ar ?_;refine xah (i+1) ⟨(by omega),(by omega),sx ⟨⟨_,rfl,xar ?_⟩,⟨⟨_,rfl,LeA.glg ?_⟩,trivial⟩⟩ ⟨zaa ?_,trivial⟩⟩;iterate 3 focus (first|rfl|(rw[zqt (by assumption)];done))
 refine rn0 (r1 rfl) (.gld ?_);rotate_left;all_goals ((have e:i=n:=(by omega);rw[e]))
theorem zoF {w:List Data} (hw:WT w){f:Nat->Nat}{a k c:Int} (ht:TyIn w.length ⟨a,k⟩) (hc:c∈zap w ⟨a,k⟩) (hl:(zab w ⟨a,k⟩ c).length<=3):FnD Tryz.prog 150 [.d (sPtr w f),.agg [.d (.i a),.d (.i k)],.d (.i c)] []
  (.agg [.d (.i 4),.d (.i c),.d (.i 0),.d (.i 0),.d (.i 0),.d (zaj (zdc w ⟨a,k⟩ c).kids)]) []:=by
 refine bd Tryz.f150 28 [] [] fun w0 F0 own kept hk=>?_;refine bx 3004 ?_;refine ab 3006 tz28 ?_;refine tv ?_;refine bu [0,1] [_,_] st28 ?_;refine ab 3007 tz28 ?_;refine so ty28 ?_;refine tv ?_;refine wc zff (zc4 hw ht hc) rfl rfl ?_;refine evd [] [] ?_;refine dr ?_;refine xao 3007 5 9 6 rfl rfl rfl rfl ?_;refine xak (ι:=List (Ty)×List (Ty)) hk (fun x=>[(18,.d (.i (x.1.length:Int)))]) [19,20,21,22,23,24,25,26] (fun x=>[(3007,some (.box [.d (.i 4),.d (.i c),.d (.i 0),.d (.i 0),.d (.i 0),.gl 9 ((x.1.map fun _=>anyQ).map Pat.cc)])),(9,some (.tok ((x.1.map fun _=>anyQ).map Pat.cc).length 6))]) (fun x=>x.1++x.2=zab w ⟨a,k⟩ c) (fun x=>x.2.length) ([],zab w ⟨a,k⟩ c) (by simp) ⟨⟨_,rfl,xar ?_⟩,trivial⟩ ⟨?_,⟨zaa ?_,trivial⟩⟩ (fun x=>rfl) (fun x hg1=>?_);focus (rfl)
 focus (rfl)
 focus (rfl)
 obtain⟨pre,rest⟩:=x;dsimp only at hg1 ⊢;refine evc [] [] ?_;refine sq ?_ ?_<;>intro h1 h1p h1s<;>(try simp only[Q] at h1p);rcases rest with _|⟨y,rest⟩
 ·exfalso;simp_all
 refine wc zsk (zf7) rfl rfl ?_;refine si [0] [_] sl26 tz28 ?_;refine ap sl26 zz28 rfl rfl rfl (by intro x hx;(simp at hx;subst hx;rfl)) (by have:=congrArg List.length hg1;simp at this;simp;omega) ?_;refine evd [] [] ?_;refine so ty26 ?_;refine dr ?_;refine ar ?_;refine xah ((pre++[y],rest)) ⟨(by have hz:=hg1;rw[<-hz];simp),(by simp),sx ⟨⟨_,rfl,xar ?_⟩,trivial⟩ ⟨?_,⟨zaa ?_,trivial⟩⟩⟩;focus ((simp;done))
 focus ((simp[getH];exact⟨rfl,rfl,rfl,rfl,rfl,rfl⟩))
 focus ((simp;done))
 have hrest:rest=[]:=by
  rcases rest with _|⟨a,b⟩
  ·rfl
  ·exfalso;have hz:=congrArg List.length (hg1);simp only[xaa,xab,xac] at hz;omega
 subst hrest;refine so ty28 ?_;refine tv ?_;refine rn0 (.cons (.cellA ty28 rfl rfl rfl) .nil) (.agg (.cons (.eqd ?_) (.cons (.eqd ?_) (.cons (.eqd ?_) (.cons (.eqd ?_) (.cons (.eqd ?_) (.cons (.gld ?_) .nil)))))));rotate_left 6;all_goals (first|rfl|(rw[List.append_nil] at hg1;subst hg1;rw[<-xav];all_goals rfl))
def zdK (n:Nat) (a b:Pat):Pat:=(zaK n a b).getD zuV
theorem zfp {n:Nat}{a b x:Pat} (h:zaK n a b=some x):zdK n a b=x:=by unfold zdK;rw[h];rfl
theorem ziG {n:Nat}{a b:Pat} (h:zaK n a b=none):zdK n a b=zuV:=by unfold zdK;rw[h];rfl
theorem zgW {n:Nat}{a b:Pat} (h:(zaK n a b).isSome=true):zaK n a b=some (zdK n a b):=by
 unfold zdK;cases e:zaK n a b with
 |none=>rw[e] at h;cases h
 |some x=>rfl
theorem zko {n:Nat}{a b:Pat} (h:(zaK n a b).isSome=false):zaK n a b=none:=by
 cases e:zaK n a b with
 |none=>rfl
 |some x=>rw[e] at h;cases h
theorem zha {w:List Data} (hs:Spa w){f:Nat->Nat}:∀(n m:Nat){ta tk:Int}{a b:Pat},m<=n->InS (w.length*4) ⟨ta,tk⟩->zak w m ⟨ta,tk⟩ a=true->zak w m ⟨ta,tk⟩ b=true->
  FnD Tryz.prog 66 [.d (sPtr w f),.agg [.d (.i ta),.d (.i tk)],.agg [.d (.i a.op),.d (.i a.ctor),.d (.i a.n),.d (.i a.m),.d (.i a.var),.d (zaj a.kids)],.agg [.d (.i b.op),.d (.i b.ctor),.d (.i b.n),.d (.i b.m),.d (.i b.var),.d (zaj b.kids)]] []
   (.tup [.agg [.d (.i (zdK n a b).op),.d (.i (zdK n a b).ctor),.d (.i (zdK n a b).n),.d (.i (zdK n a b).m),.d (.i (zdK n a b).var),.d (zaj (zdK n a b).kids)],.d (.bool (zaK n a b).isSome)]) []
 |n,0,ta,tk,a,b,_,_,ha,_=>by simp[zak] at ha
 |0,m+1,ta,tk,a,b,h,_,_,_=>by omega
 |n+1,m+1,ta,tk,a,b,hnm,ht,ha,hb=>by
  by_cases h1:a.op=1
  ·have e:=zpL (n:=n) (b:=b) h1;rw[zfp e,e];refine bd Tryz.f66 100 [] [] fun w0 F0 own kept hk=>?_;refine bx 3005 ?_;refine bx 3006 ?_;refine bx 3007 ?_;refine ab 3008 tz28 ?_;refine ev ?_;refine sq ?_ ?_<;>intro h1 h1p h1s;refine so ty28 ?_;refine ev ?_;refine rn0 (.cons (.cellA ty28 rfl rfl rfl) (.cons (.tmp rfl) .nil)) (.tup (.cons (.agg (.cons (.eqd ?_) (.cons (.eqd ?_) (.cons (.eqd ?_) (.cons (.eqd ?_) (.cons (.eqd ?_) (.cons (.eqd ?_) .nil))))))) (.cons (.eqd ?_) .nil)));rotate_left 7;try simp only[Q] at h1p
   exfalso;omega;all_goals (rfl)
  by_cases h2:b.op=1
  ·have e:=zpM (n:=n) h1 h2;rw[zfp e,e];refine bd Tryz.f66 100 [] [] fun w0 F0 own kept hk=>?_;refine bx 3005 ?_;refine bx 3006 ?_;refine bx 3007 ?_;refine ab 3008 tz28 ?_;refine ev ?_;refine sq ?_ ?_<;>intro h1 h1p h1s;try simp only[Q] at h1p
   exfalso;omega;refine sq ?_ ?_<;>intro h2 h2p h2s;refine so ty28 ?_;refine ev ?_;refine rn0 (.cons (.cellA ty28 rfl rfl rfl) (.cons (.tmp rfl) .nil)) (.tup (.cons (.agg (.cons (.eqd ?_) (.cons (.eqd ?_) (.cons (.eqd ?_) (.cons (.eqd ?_) (.cons (.eqd ?_) (.cons (.eqd ?_) .nil))))))) (.cons (.eqd ?_) .nil)));rotate_left 7;try simp only[Q] at h2p
   exfalso;omega;all_goals (rfl)
  by_cases h3:a.op=3
  ·have e:=zpN (n:=n) h3 h2;by_cases hr:maxQ a.n b.n<=minQ a.m b.m
   ·rw[if_pos hr] at e;have er:zbp [maxQ a.n b.n,minQ a.m b.m] 1=[intQ (maxQ a.n b.n) (minQ a.m b.m)]:=by rw[zp2];exact if_pos hr
    have hrg:=zfI (l:=[maxQ a.n b.n,minQ a.m b.m]) (n:=1) rfl (by omega);rw[er] at hrg;rw[zfp e,e];refine bd Tryz.f66 100 [] [] fun w0 F0 own kept hk=>?_;refine bx 3005 ?_;refine bx 3006 ?_;refine bx 3007 ?_;refine ab 3008 tz28 ?_;refine ev ?_;refine sq ?_ ?_<;>intro h1 h1p h1s;try simp only[Q,Pat.cs_len] at h1p
    exfalso;omega;refine sq ?_ ?_<;>intro h2 h2p h2s;try simp only[Q,Pat.cs_len] at h2p
    exfalso;omega;refine sq ?_ ?_<;>intro h3 h3p h3s;refine xa4 .none rfl rfl rfl ?_;refine ev ?_;refine xa5 .none rfl rfl rfl ?_;refine si [0,1] [_,_] sl62 tz3 ?_;refine wc zo8 (hrg) rfl rfl ?_;refine ev ?_;refine sq ?_ ?_<;>intro h4 h4p h4s;exfalso;simp[Pat.cs_len] at h4;refine xaU (i:=0) sl26 .none rfl rfl rfl rfl (rfl) rfl ?_;refine ev ?_;refine so ty28 ?_;refine ev ?_;refine rn0 (.cons (.cellA ty28 rfl rfl rfl) (.cons (.tmp rfl) .nil)) (.tup (.cons (.agg (.cons (.eqd ?_) (.cons (.eqd ?_) (.cons (.eqd ?_) (.cons (.eqd ?_) (.cons (.eqd ?_) (.cons (.eqd ?_) .nil))))))) (.cons (.eqd ?_) .nil)));rotate_left 7;try simp only[Q,Pat.cs_len] at h3p
    exfalso;omega;all_goals (rfl)
   ·skip
    rw[if_neg hr] at e;have er:zbp [maxQ a.n b.n,minQ a.m b.m] 1=[]:=by rw[zp2];exact if_neg hr
    have hrg:=zfI (l:=[maxQ a.n b.n,minQ a.m b.m]) (n:=1) rfl (by omega);rw[er] at hrg;rw[ziG e,e];refine bd Tryz.f66 100 [] [] fun w0 F0 own kept hk=>?_;refine bx 3005 ?_;refine bx 3006 ?_;refine bx 3007 ?_;refine ab 3008 tz28 ?_;refine ev ?_;refine sq ?_ ?_<;>intro h1 h1p h1s;try simp only[Q,Pat.cs_len] at h1p
    exfalso;omega;refine sq ?_ ?_<;>intro h2 h2p h2s;try simp only[Q,Pat.cs_len] at h2p
    exfalso;omega;refine sq ?_ ?_<;>intro h3 h3p h3s;refine xa4 .none rfl rfl rfl ?_;refine ev ?_;refine xa5 .none rfl rfl rfl ?_;refine si [0,1] [_,_] sl62 tz3 ?_;refine wc zo8 (hrg) rfl rfl ?_;refine ev ?_;refine sq ?_ ?_<;>intro h4 h4p h4s;refine bu [] [] st28 ?_;refine so ty28 ?_;refine ev ?_;refine rn0 (.cons (.cellA ty28 rfl rfl rfl) (.cons (.tmp rfl) .nil)) (.tup (.cons (.agg (.cons (.eqd ?_) (.cons (.eqd ?_) (.cons (.eqd ?_) (.cons (.eqd ?_) (.cons (.eqd ?_) (.cons (.nild ?_) .nil))))))) (.cons (.eqd ?_) .nil)));rotate_left 7;exfalso;simp[Pat.cs] at h4;try simp only[Q,Pat.cs_len] at h3p
    exfalso;omega;all_goals (rfl)
  have oa:=zce ha;have h4:a.op=4:=by omega
  have h4b:b.op=4:=by have:=zfR ha hb h1 h2;omega
  by_cases hc:a.ctor=b.ctor
  ·obtain⟨c1,c2,c3,c4⟩:=za9 ha h4;obtain⟨d1,d2,d3,d4⟩:=za9 hb h4b;rw[<-hc] at d3;have h3l:=hs.args ⟨ta,tk⟩ a.ctor ht c1;have ka:=fun i (hi:i<a.kids.length)=>zbv ha hi;have kb:=fun i (hi:i<b.kids.length)=>zbv hb hi;rw[zbh h4] at ka;rw[zbh h4b,<-hc] at kb;have e:=zpO (n:=n) h4 h2 hc;have hlen:a.kids.length=b.kids.length:=by omega
   have ih:=fun i (hi:i<(zab w ⟨ta,tk⟩ a.ctor).length)=>zha hs n m (f:=f) (ta:=(nth (zab w ⟨ta,tk⟩ a.ctor) i).data) (tk:=(nth (zab w ⟨ta,tk⟩ a.ctor) i).index) (a:=nth a.kids i) (b:=nth b.kids i) (by omega) (zbR hs.dp ht c1 _ (zah hi)) (ka i (by omega)) (kb i (by omega));refine bd Tryz.f66 100 [] [] fun w0 F0 own kept hk=>?_;refine bx 3005 ?_;refine bx 3006 ?_;refine bx 3007 ?_;refine ab 3008 tz28 ?_;refine ev ?_;refine sq ?_ ?_<;>intro h1 h1p h1s;try simp only[Q,Pat.cs_len] at h1p
   exfalso;omega;refine sq ?_ ?_<;>intro h2 h2p h2s;try simp only[Q,Pat.cs_len] at h2p
   exfalso;omega;refine sq ?_ ?_<;>intro h3 h3p h3s;try simp only[Q,Pat.cs_len] at h3p
   exfalso;omega;refine sq ?_ ?_<;>intro h4 h4p h4s;try simp only[Q,Pat.cs_len] at h4p
   exfalso;omega;refine bu [0,1] [_,_] st28 ?_;refine ab 3011 tz28 ?_;refine so ty28 ?_;refine tv ?_;refine wc zff (zc4 hs.dp.wt (zcO ht) c1) rfl rfl ?_;refine evd [] [] ?_;refine dr ?_;refine xao 3011 5 9 6 rfl rfl rfl rfl ?_;refine xak (ι:=Nat×List Pat) hk (fun x=>[(68,.d (.i (x.1:Int)))]) [9,12,13,14,15,69,70,71,72,73,74,75,76,77,78,79,80,81,82,83,84,85,86,87,88,89,90,91,92,93,94,95,96,97,98] (fun x=>[(3011,some (.box [.d (.i 4),.d (.i a.ctor),.d (.i 0),.d (.i 0),.d (.i 0),.gl 9 (x.2.map Pat.cc)])),(9,some (.tok (x.2.map Pat.cc).length 6))]) (fun x=>x.1<=a.kids.length/\x.2.length=x.1/\zcj (zaK n) (a.kids.drop x.1) (b.kids.drop x.1) x.2=zcj (zaK n) a.kids b.kids []) (fun x=>a.kids.length-x.1) (0,[]) ⟨by simp,rfl,rfl⟩ ⟨⟨_,rfl,xar ?_⟩,trivial⟩ ⟨?_,⟨zaa ?_,trivial⟩⟩ (fun x=>rfl) (fun x hg1=>?_);focus (rfl)
   focus (first|rfl|(simp[getH];done))
   focus (rfl)
   refine evc [] [] ?_;refine sq ?_ ?_<;>intro h5 h5p h5s<;>(try simp only[Q,Pat.cs_len] at h5p);refine xaU zaT .none rfl rfl rfl rfl (zat (by omega)) rfl ?_;refine ev ?_;refine ab 3013 tz25 ?_;refine ev ?_;refine so ty25 ?_;refine tv ?_;refine xaU sl26 .none rfl rfl rfl rfl (zaH (by omega)) rfl ?_;refine evd [] [] ?_;refine xaU sl26 .none rfl rfl rfl rfl (zaH (by omega)) rfl ?_;refine evd [] [] ?_;refine wc zoM (ih x.1 (by omega)) rfl rfl ?_;refine evd [] [] ?_;refine ab 3014 tz28 ?_;refine so ty28 ?_;refine evd [] [] ?_;refine dr ?_;refine sq ?_ ?_<;>intro h6 h6p h6s;refine bu [] [] st28 ?_;refine so ty28 ?_;refine ev ?_;refine rn0 (.cons (.cellA ty28 rfl rfl rfl) (.cons (.tmp rfl) .nil)) (.tup (.cons (.agg (.cons (.eqd ?_) (.cons (.eqd ?_) (.cons (.eqd ?_) (.cons (.eqd ?_) (.cons (.eqd ?_) (.cons (.nild ?_) .nil))))))) (.cons (.eqd ?_) .nil)));rotate_left 7;try simp only[Q,Pat.cs_len] at h6p
   refine si [0] [_] sl26 tz28 ?_;refine ap sl26 zz28 rfl rfl rfl (by intro x hx;(simp at hx;subst hx;rfl)) (by simp;omega) ?_;refine ev ?_;refine so ty26 ?_;refine tv ?_;refine ar ?_;refine xah ((x.1+1,x.2++[zdK n (nth a.kids x.1) (nth b.kids x.1)])) ⟨⟨by dsimp only;omega,by dsimp only;rw[xaa,hg1.2.1];rfl,by dsimp only;rw[<-zrG (by omega) (by omega) (zgW (by assumption))];exact hg1.2.2⟩,(by dsimp only;omega),sx ⟨⟨_,rfl,xar ?_⟩,trivial⟩ ⟨?_,⟨zaa ?_,trivial⟩⟩⟩;focus (rfl)
   focus (first|rfl|(simp[getH];done))
   focus ((simp;done))
   refine so ty28 ?_;refine ev ?_;refine rn0 (.cons (.cellA ty28 rfl rfl rfl) (.cons (.tmp rfl) .nil)) (.tup (.cons (.agg (.cons (.eqd ?_) (.cons (.eqd ?_) (.cons (.eqd ?_) (.cons (.eqd ?_) (.cons (.eqd ?_) (.cons (.gld ?_) .nil))))))) (.cons (.eqd ?_) .nil)));rotate_left 7;all_goals (first|(have e2:zaK (n+1) a b=none:=(by rw[e,<-hg1.2.2,zrF (by omega) (by omega) (zko (by assumption))];rfl);(first|rw[ziG e2]|rw[e2]);all_goals rfl)|(have e2:zaK (n+1) a b=some (zbW a.ctor x.2):=(by rw[e,<-hg1.2.2,zjH (by omega)];rfl);rw[zfp e2,xav];all_goals rfl)|(have e2:zaK (n+1) a b=some (zbW a.ctor x.2):=(by rw[e,<-hg1.2.2,zjH (by omega)];rfl);rw[zfp e2];all_goals rfl)|(have e2:zaK (n+1) a b=some (zbW a.ctor x.2):=(by rw[e,<-hg1.2.2,zjH (by omega)];rfl);rw[e2];all_goals rfl))
  ·skip
   have e:=zno (n:=n) h4 h2 hc;rw[ziG e,e];refine bd Tryz.f66 100 [] [] fun w0 F0 own kept hk=>?_;refine bx 3005 ?_;refine bx 3006 ?_;refine bx 3007 ?_;refine ab 3008 tz28 ?_;refine ev ?_;refine sq ?_ ?_<;>intro h1 h1p h1s;try simp only[Q] at h1p
   exfalso;omega;refine sq ?_ ?_<;>intro h2 h2p h2s;try simp only[Q] at h2p
   exfalso;omega;refine sq ?_ ?_<;>intro h3 h3p h3s;try simp only[Q] at h3p
   exfalso;omega;refine sq ?_ ?_<;>intro h4 h4p h4s;refine bu [] [] st28 ?_;refine so ty28 ?_;refine ev ?_;refine rn0 (.cons (.cellA ty28 rfl rfl rfl) (.cons (.tmp rfl) .nil)) (.tup (.cons (.agg (.cons (.eqd ?_) (.cons (.eqd ?_) (.cons (.eqd ?_) (.cons (.eqd ?_) (.cons (.eqd ?_) (.cons (.nild ?_) .nil))))))) (.cons (.eqd ?_) .nil)));rotate_left 7;try simp only[Q] at h4p
   exfalso;omega;all_goals (rfl)
theorem zjK {f:Ty->Pat->Pat->List Pat}{c:Int}{ts:List Ty}{xs bs front:List Pat}{i:Nat} (h1:i<ts.length) (h2:i<xs.length) (h3:i<bs.length):
  za4 f c (ts.drop i) (xs.drop i) (bs.drop i) front=(f (nth ts i) (nth xs i) (nth bs i)).map (fun z=>zbW c (front++[z]++xs.drop (i+1)))++(match zaK 11 (nth xs i) (nth bs i) with
   |none=>[]
   |some both=>za4 f c (ts.drop (i+1)) (xs.drop (i+1)) (bs.drop (i+1)) (front++[both])):=by
 rw[zaN h1,zaN h2,zaN h3,za4];all_goals (cases zaK 11 (nth xs i) (nth bs i)<;>rfl)
theorem zqr {f:Ty->Pat->Pat->List Pat}{c:Int}{ts:List Ty}{xs bs front:List Pat}{i:Nat} (h1:i<ts.length) (h2:i<xs.length) (h3:i<bs.length) (h:(zaK 11 (nth xs i) (nth bs i)).isSome=true):
  za4 f c (ts.drop i) (xs.drop i) (bs.drop i) front=(f (nth ts i) (nth xs i) (nth bs i)).map (fun z=>zbW c (front++[z]++xs.drop (i+1)))++za4 f c (ts.drop (i+1)) (xs.drop (i+1)) (bs.drop (i+1)) (front++[zdK 11 (nth xs i) (nth bs i)]):=by
 rw[zjK h1 h2 h3,zgW h]
theorem zqp {f:Ty->Pat->Pat->List Pat}{c:Int}{ts:List Ty}{xs bs front:List Pat}{i:Nat} (h1:i<ts.length) (h2:i<xs.length) (h3:i<bs.length) (h:(zaK 11 (nth xs i) (nth bs i)).isSome=false):
  za4 f c (ts.drop i) (xs.drop i) (bs.drop i) front=(f (nth ts i) (nth xs i) (nth bs i)).map (fun z=>zbW c (front++[z]++xs.drop (i+1))):=by
 rw[zjK h1 h2 h3,zko h,List.append_nil]
theorem zrJ {f:Ty->Pat->Pat->List Pat}{c:Int}{ts:List Ty}{xs bs front:List Pat}{i:Nat} (h1:ts.length<=i):za4 f c (ts.drop i) (xs.drop i) (bs.drop i) front=[]:=by
 rw[List.drop_eq_nil_of_le h1];rfl
theorem ztX {n:Nat} (h:n<=11):4 ^ n<=4194304:=Nat.le_trans (Nat.pow_le_pow_right (by omega) h) (by decide)
theorem zlg {w:List Data} (hs:Spa w){n m:Nat}{t:Ty}{a b:Pat} (h:n<m) (h10:n<=10) (ht:InS (w.length*4) t) (ha:zak w m t a=true) (hb:zak w n t b=true):(zaB w n t a b).length<=20000000:=by
 have h1:=zn9 hs n m h ht ha hb;have h2:=(zks hs n ht hb).2;have h3:=ztX (n:=n) (by omega);omega
theorem zu5 {A B:List Pat}{y:Pat}{xs:List (List D)} (hx:xs=Pat.cs B) (hb:A.length+1+B.length<=1000):
  FnD Tryz.prog 151 [.d (.sl [[.sl (A.map Pat.cc)],[.sl [Pat.cc y]],[.sl xs]])] [] (.d (zaj (A++[y]++B))) []:=by
 have h:=zj2 (ls:=[A,[y],B]) (by simp) (by simp;omega) (by simp;omega);have e:[A,[y],B].flatten=A++[y]++B:=by simp
 rw[e] at h;subst hx;have e2:zuB [A,[y],B] = .sl [[.sl (A.map Pat.cc)],[.sl [Pat.cc y]],[.sl (Pat.cs B)]]:=by
  show D.sl [[.sl (Pat.cs A)],[.sl (Pat.cs [y])],[.sl (Pat.cs B)]]=_
  rw[xav A,xav [y]];rfl
 rw[e2] at h;exact h
section
variable {w:List Data}{f:Nat->Nat}
abbrev MinusFn (w:List Data) (f:Nat->Nat) (n:Nat) (ta tk:Int) (a b:Pat):Prop:=
 FnD Tryz.prog 93 [.d (sPtr w f),.agg [.d (.i ta),.d (.i tk)],.agg [.d (.i a.op),.d (.i a.ctor),.d (.i a.n),.d (.i a.m),.d (.i a.var),.d (zaj a.kids)],.agg [.d (.i b.op),.d (.i b.ctor),.d (.i b.n),.d (.i b.m),.d (.i b.var),.d (zaj b.kids)]] [] (.d (zaj (zaB w n ⟨ta,tk⟩ a b))) []
theorem zpE {n:Nat}{ta tk:Int}{a b:Pat} (h:b.op=1):MinusFn w f (n+1) ta tk a b:=by
 unfold MinusFn;rw[zkp h];refine bd Tryz.f93 159 [] [] fun w0 F0 own kept hk=>?_;refine bx 3005 ?_;refine bx 3006 ?_;refine bx 3007 ?_;refine ev ?_;refine sq ?_ ?_<;>intro h1 h1p h1s;refine rn0 (r1 rfl) (.nild ?_);rotate_left;try simp only[Q] at h1p
 exfalso;omega;all_goals (rfl)
theorem zpF {n:Nat}{ta tk:Int}{a b:Pat} (h:b.op=3) (hbn:0<=b.n/\b.n<=9) (hbm:0<=b.m/\b.m<=9):MinusFn w f (n+1) ta tk a b:=by
 unfold MinusFn;rw[zkq h];have er:zbp [lowQ a,minQ (zc3 a) (b.n-1),maxQ (lowQ a) (b.m+1),zc3 a] 2=zhc a b:=zt0 _ _ _ _;have hrg:=zfI (l:=[lowQ a,minQ (zc3 a) (b.n-1),maxQ (lowQ a) (b.m+1),zc3 a]) (n:=2) rfl (by omega);rw[er] at hrg;refine bd Tryz.f93 159 [] [] fun w0 F0 own kept hk=>?_;refine bx 3005 ?_;refine bx 3006 ?_;refine bx 3007 ?_;refine ev ?_;refine sq ?_ ?_<;>intro h1 h1p h1s;try simp only[Q] at h1p
 exfalso;omega;refine sq ?_ ?_<;>intro h2 h2p h2s;refine wc zvW (zl4) rfl rfl ?_;refine ev ?_;refine ar ?_;refine xa5 .none rfl rfl rfl ?_;refine ev ?_;refine ar ?_;refine xa4 .none rfl rfl rfl ?_;refine ev ?_;refine si [0,1,2,3] [_,_,_,_] sl62 tz3 ?_;refine wc zo8 (hrg) rfl rfl ?_;refine ev ?_;focus (refine rq ?_;all_goals (rfl))
 try simp only[Q] at h2p
 exfalso;omega
theorem zpI {n:Nat}{ta tk:Int}{a b:Pat} (h4:a.op=4) (h4b:b.op=4) (hc:¬a.ctor=b.ctor):MinusFn w f (n+1) ta tk a b:=by
 unfold MinusFn;have e:zaB w (n+1) ⟨ta,tk⟩ a b=[a]:=by rw[zgX h4b h4];exact if_neg hc
 rw[e];refine bd Tryz.f93 159 [] [] fun w0 F0 own kept hk=>?_;refine bx 3005 ?_;refine bx 3006 ?_;refine bx 3007 ?_;refine ev ?_;refine sq ?_ ?_<;>intro h1 h1p h1s;try simp only[Q] at h1p
 exfalso;omega;refine sq ?_ ?_<;>intro h2 h2p h2s;try simp only[Q] at h2p
 exfalso;omega;refine sq ?_ ?_<;>intro h3 h3p h3s;try simp only[Q] at h3p
 exfalso;omega;refine sq ?_ ?_<;>intro h4 h4p h4s;refine si [0] [_] sl26 tz28 ?_;refine ev ?_;refine rq ?_;rotate_left;try simp only[Q] at h4p
 exfalso;omega;all_goals (first|rfl|(cases a;rfl))
theorem zpH (hs:Spa w){n m:Nat} (hn:n+1<=10) (hm:m+1<=11) (hnm:n<m)
  (ih:∀ {ta tk:Int}{a b:Pat},InS (w.length*4) ⟨ta,tk⟩->zak w m ⟨ta,tk⟩ a=true->zak w n ⟨ta,tk⟩ b=true->MinusFn w f n ta tk a b)
  {ta tk:Int}{a b:Pat} (ht:InS (w.length*4) ⟨ta,tk⟩) (ha:zak w (m+1) ⟨ta,tk⟩ a=true) (hb:zak w (n+1) ⟨ta,tk⟩ b=true) (h4:a.op=4) (h4b:b.op=4) (hc:a.ctor=b.ctor):MinusFn w f (n+1) ta tk a b:=by
 obtain⟨c1,c2,c3,-⟩:=za9 ha h4;obtain⟨d1,d2,d3,-⟩:=za9 hb h4b;rw[<-hc] at d3;have h3l:=hs.args ⟨ta,tk⟩ a.ctor ht c1;have ka:=fun i (hi:i<a.kids.length)=>zbv ha hi;have kb:=fun i (hi:i<b.kids.length)=>zbv hb hi;rw[zbh h4] at ka;rw[zbh h4b,<-hc] at kb;have hbd:=zlg hs (n:=n+1) (m:=m+1) (by omega) hn ht ha hb;have e:zaB w (n+1) ⟨ta,tk⟩ a b=za4 (zaB w n) a.ctor (zab w ⟨ta,tk⟩ a.ctor) a.kids b.kids []:=by rw[zgX h4b h4];exact if_pos hc
 have hins:=fun i (hi:i<(zab w ⟨ta,tk⟩ a.ctor).length)=>zbR hs.dp ht c1 _ (zah hi);have hmi:∀i,i<(zab w ⟨ta,tk⟩ a.ctor).length->FnD Tryz.prog 93 [.d (sPtr w f),.agg [.d (.i (nth (zab w ⟨ta,tk⟩ a.ctor) i).data),.d (.i (nth (zab w ⟨ta,tk⟩ a.ctor) i).index)],.agg [.d (.i (nth a.kids i).op),.d (.i (nth a.kids i).ctor),.d (.i (nth a.kids i).n),.d (.i (nth a.kids i).m),.d (.i (nth a.kids i).var),.d (zaj (nth a.kids i).kids)],.agg [.d (.i (nth b.kids i).op),.d (.i (nth b.kids i).ctor),.d (.i (nth b.kids i).n),.d (.i (nth b.kids i).m),.d (.i (nth b.kids i).var),.d (zaj (nth b.kids i).kids)]] [] (.d (zaj (zaB w n (nth (zab w ⟨ta,tk⟩ a.ctor) i) (nth a.kids i) (nth b.kids i)))) []:=fun i hi=>ih (ta:=(nth (zab w ⟨ta,tk⟩ a.ctor) i).data) (tk:=(nth (zab w ⟨ta,tk⟩ a.ctor) i).index) (hins i hi) (ka i (by omega)) (kb i (by omega));have hme:=fun i (hi:i<(zab w ⟨ta,tk⟩ a.ctor).length)=>zha hs 11 m (f:=f) (ta:=(nth (zab w ⟨ta,tk⟩ a.ctor) i).data) (tk:=(nth (zab w ⟨ta,tk⟩ a.ctor) i).index) (by omega) (hins i hi) (ka i (by omega)) (zez (by omega) (kb i (by omega)));unfold MinusFn;rw[e] at hbd ⊢;have hT:∀i out front,i<(zab w ⟨ta,tk⟩ a.ctor).length->out++za4 (zaB w n) a.ctor ((zab w ⟨ta,tk⟩ a.ctor).drop i) (a.kids.drop i) (b.kids.drop i) front=za4 (zaB w n) a.ctor (zab w ⟨ta,tk⟩ a.ctor) a.kids b.kids []->
   out.length+(zaB w n (nth (zab w ⟨ta,tk⟩ a.ctor) i) (nth a.kids i) (nth b.kids i)).length<=20000000:=fun i out front hi h=>by
  rw[zjK hi (by omega) (by omega)] at h;have:=congrArg List.length h;simp only[xaa,xac] at this;omega
 refine bd Tryz.f93 159 [14,15] [] fun w0 F0 own kept hk=>?_;refine bx 3005 ?_;refine bx 3006 ?_;refine bx 3007 ?_;refine evs [14,15] [] ?_;refine sq ?_ ?_<;>intro h1 h1p h1s;try simp only[Q,Pat.cs_len] at h1p
 exfalso;omega;refine sq ?_ ?_<;>intro h2 h2p h2s;try simp only[Q,Pat.cs_len] at h2p
 exfalso;omega;refine sq ?_ ?_<;>intro h3 h3p h3s;try simp only[Q,Pat.cs_len] at h3p
 exfalso;omega;refine sq ?_ ?_<;>intro h4 h4p h4s;try simp only[Q,Pat.cs_len] at h4p
 exfalso;omega;refine xaF 9 6 .none rfl rfl ?_;refine xaF 8 6 .none rfl rfl ?_;refine tv ?_;refine wc zff (zc4 hs.dp.wt (zcO ht) c1) rfl rfl ?_;refine evd [14,15] [] ?_;refine dr ?_;refine xak (ι:=Nat×List Pat×List Pat) hk (fun s=>[(94,.d (.i (s.1:Int))),(14,.gl 9 (s.2.1.map Pat.cc)),(15,.gl 8 (s.2.2.map Pat.cc))]) [16,17,19,20,21,22,95,96,97,98,99,100,101,102,103,104,105,106,107,108,109,110,111,112,113,114,115,116,117,118,119,120,121,122,123,124,125,126,127,128,129,130,131,132,133,134,135,136,137,138,139,140,141,142,143,144,145,146,147,148,149,150,151,152,153,154,155,156,157] (fun s=>[(9,some (.tok ((s.2.1.map Pat.cc)).length 6)),(8,some (.tok ((s.2.2.map Pat.cc)).length 6))]) (fun s=>s.1<=a.kids.length/\s.2.2.length=s.1/\s.2.1++za4 (zaB w n) a.ctor ((zab w ⟨ta,tk⟩ a.ctor).drop s.1) (a.kids.drop s.1) (b.kids.drop s.1) s.2.2=za4 (zaB w n) a.ctor (zab w ⟨ta,tk⟩ a.ctor) a.kids b.kids []) (fun s=>a.kids.length-s.1) (0,[],[]) ⟨by simp,rfl,rfl⟩ ⟨⟨_,rfl,xar ?_⟩,⟨⟨_,rfl,LeA.glg ?_⟩,⟨⟨_,rfl,LeA.glg ?_⟩,trivial⟩⟩⟩ ⟨zaa ?_,⟨zaa ?_,trivial⟩⟩ (fun x=>rfl) (fun s hg2=>?_);iterate 5 focus (rfl)
 refine evc [14,15] [] ?_;refine sq ?_ ?_<;>intro h5 h5p h5s<;>(try simp only[Q,Pat.cs_len] at h5p);refine xaU zaT .none rfl rfl rfl rfl (zat (by omega)) rfl ?_;refine evs [14,15] [] ?_;refine ab 3017 tz25 ?_;refine evs [14,15] [] ?_;refine so ty25 ?_;refine tv ?_;refine xaU sl26 .none rfl rfl rfl rfl (zaH (by omega)) rfl ?_;refine evd [14,15] [] ?_;refine xaU sl26 .none rfl rfl rfl rfl (zaH (by omega)) rfl ?_;refine evd [14,15] [] ?_;refine wc zrq (hmi s.1 (by omega)) rfl rfl ?_;refine evd [14,15] [] ?_;refine dr ?_;refine xak (ι:=List (Pat)×List (Pat)) hk (fun x=>[(113,.d (.i (x.1.length:Int))),(14,.gl 9 ((s.2.1++x.1.map (fun z=>zbW a.ctor (s.2.2++[z]++a.kids.drop (s.1+1)))).map Pat.cc))]) [19,20,114,115,116,117,118,119,120,121,122,123,124,125,126,127,128,129,130,131,132,133,134] (fun x=>[(9,some (.tok (((s.2.1++x.1.map (fun z=>zbW a.ctor (s.2.2++[z]++a.kids.drop (s.1+1)))).map Pat.cc)).length 6))]) (fun x=>x.1++x.2=(zaB w n (nth (zab w ⟨ta,tk⟩ a.ctor) s.1) (nth a.kids s.1) (nth b.kids s.1))) (fun x=>x.2.length) ([],(zaB w n (nth (zab w ⟨ta,tk⟩ a.ctor) s.1) (nth a.kids s.1) (nth b.kids s.1))) (by simp) ⟨⟨_,rfl,xar ?_⟩,⟨⟨_,rfl,LeA.glg ?_⟩,trivial⟩⟩ ⟨zaa ?_,trivial⟩ (fun x=>rfl) (fun x hg3=>?_);iterate 3 focus ((simp;done))
 obtain⟨pre,rest⟩:=x;dsimp only at hg3 ⊢;refine evc [14,15] [] ?_;refine sq ?_ ?_<;>intro h6 h6p h6s<;>(try simp only[Q,Pat.cs_len] at h6p);rcases rest with _|⟨y,rest⟩
 ·exfalso;simp_all
 refine xaU sl26 .none rfl rfl rfl rfl (Pat.cs_at' hg3) rfl ?_;refine evs [14,15] [] ?_;refine ab 3019 tz28 ?_;refine so ty28 ?_;refine tv ?_;refine si [0] [_] sl26 tz28 ?_;refine evd [14,15] [] ?_;refine ar ?_ (by(constructor<;>omega));refine Walk.cut_l (b:=s.1+1) sl26 .none rfl rfl rfl (by intro x hx;exact zee _ x hx) rfl rfl (by simp only[Pat.cs_len];omega) ?_;refine si [0,1,2] [_,_,_] zrU tz26 ?_;refine wc zvY (zu5 (A:=s.2.2) (y:=y) (xs:=(Pat.cs a.kids).drop (s.1+1)) (B:=a.kids.drop (s.1+1)) (by rw[xav,xav,List.map_drop]) (by rw[List.length_drop];omega)) rfl rfl ?_;refine evd [14,15] [] ?_;refine dr ?_;refine bu [0,1,5] [_,_,_] st28 ?_;refine si [0] [_] sl26 tz28 ?_;refine ap sl26 zz28 rfl rfl rfl (by intro x hx;(simp at hx;subst hx;rfl)) (by(have h9:=hT s.1 s.2.1 s.2.2 (by omega) hg2.2.2;have h8:=congrArg List.length hg3;simp at h8 ⊢;omega)) ?_;refine asg ?_;refine tv ?_;refine ar ?_ (by(have h9:=hT s.1 s.2.1 s.2.2 (by omega) hg2.2.2;have h8:=congrArg List.length hg3;simp only[xaa,xab] at h8;constructor<;>omega));refine xah ((pre++[y],rest)) ⟨(by have hz:=hg3;rw[<-hz];simp),(by simp),sx ⟨⟨_,rfl,xar ?_⟩,⟨⟨_,rfl,LeA.glg ?_⟩,trivial⟩⟩ ⟨zaa ?_,trivial⟩⟩;iterate 3 focus (first|(simp;done)|(simp only[xaf,List.append_assoc,xae,List.map_nil];rfl)|(simp;omega))
 have hrest:rest=[]:=by
  rcases rest with _|⟨a,b⟩
  ·rfl
  ·exfalso;have hz:=congrArg List.length (hg3);simp only[xaa,xab,xac] at hz;omega
 subst hrest;refine xaU sl26 .none rfl rfl rfl rfl (zaH (by omega)) rfl ?_;refine evd [14,15] [] ?_;refine xaU sl26 .none rfl rfl rfl rfl (zaH (by omega)) rfl ?_;refine evd [14,15] [] ?_;refine wc zoM (hme s.1 (by omega)) rfl rfl ?_;refine evd [14,15] [] ?_;refine ab 3021 tz28 ?_;refine so ty28 ?_;refine evd [14,15] [] ?_;refine dr ?_;refine sq ?_ ?_<;>intro h7 h7p h7s;refine rn0 (r1 rfl) (.gld ?_);rotate_left;try simp only[Q,Pat.cs_len] at h7p
 refine si [0] [_] sl26 tz28 ?_;refine ap sl26 zz28 rfl rfl rfl (by intro x hx;(simp at hx;subst hx;rfl)) (by(have h9:=hT s.1 s.2.1 s.2.2 (by omega) hg2.2.2;have h8:=congrArg List.length hg3;simp at h8 ⊢;omega)) ?_;refine asg ?_;refine tv ?_;refine ar ?_ (by(constructor<;>omega));refine xah ((s.1+1,s.2.1++(zaB w n (nth (zab w ⟨ta,tk⟩ a.ctor) s.1) (nth a.kids s.1) (nth b.kids s.1)).map (fun z=>zbW a.ctor (s.2.2++[z]++a.kids.drop (s.1+1))),s.2.2++[zdK 11 (nth a.kids s.1) (nth b.kids s.1)])) ⟨⟨by dsimp only;omega,by dsimp only;rw[xaa,hg2.2.1];rfl,by dsimp only;rw[List.append_assoc,<-zqr (by omega) (by omega) (by omega) (by assumption)];exact hg2.2.2⟩,(by dsimp only;omega),sx ⟨⟨_,rfl,xar ?_⟩,⟨⟨_,rfl,LeA.glg ?_⟩,⟨⟨_,rfl,LeA.glg ?_⟩,trivial⟩⟩⟩ ⟨zaa ?_,⟨zaa ?_,trivial⟩⟩⟩;iterate 5 focus ((simp_all;done))
 refine rn0 (r1 rfl) (.gld ?_);rotate_left;all_goals (first|(rw[<-hg2.2.2,zrJ (by omega),List.append_nil,xav];done)|(rw[List.append_nil] at hg3;rw[<-hg2.2.2,zqp (by omega) (by omega) (by omega) (by assumption),<-hg3,xav];all_goals rfl))
theorem zpG (hs:Spa w){n:Nat}{ta tk:Int}{a b:Pat} (ht:InS (w.length*4) ⟨ta,tk⟩) (h1:a.op=1) (h4b:b.op=4) (hbd:(zaB w (n+1) ⟨ta,tk⟩ a b).length<=20000000)
  (hC:∀c∈zap w ⟨ta,tk⟩,MinusFn w f (n+1) ta tk (zdc w ⟨ta,tk⟩ c) b):MinusFn w f (n+1) ta tk a b:=by
 have e:zaB w (n+1) ⟨ta,tk⟩ a b=(zap w ⟨ta,tk⟩).flatMap fun c=>zaB w (n+1) ⟨ta,tk⟩ (zdc w ⟨ta,tk⟩ c) b:=by
  rw[zkr h4b h1];exact congrArg (fun g=>(zap w ⟨ta,tk⟩).flatMap g) (funext fun c=>(zgX h4b rfl).symm)
 unfold MinusFn;rw[e] at hbd ⊢;have hcl:=(hs.ctors _ ht).1;have hpre:∀ {pre rest:List Int}{y:Int},pre++y::rest=zap w ⟨ta,tk⟩->(pre.flatMap fun c=>zaB w (n+1) ⟨ta,tk⟩ (zdc w ⟨ta,tk⟩ c) b).length+(zaB w (n+1) ⟨ta,tk⟩ (zdc w ⟨ta,tk⟩ y) b).length<=20000000:=fun h=>by
  rw[<-h,List.flatMap_append,List.flatMap_cons] at hbd;simp only[xaa] at hbd;omega
 have hmem:∀ {pre rest:List Int}{y:Int},pre++y::rest=zap w ⟨ta,tk⟩->y∈zap w ⟨ta,tk⟩:=fun h=>by rw[<-h];simp
 refine bd Tryz.f93 159 [11] [] fun w0 F0 own kept hk=>?_;refine bx 3005 ?_;refine bx 3006 ?_;refine bx 3007 ?_;refine evs [11] [] ?_;refine sq ?_ ?_<;>intro h1 h1p h1s;try simp only[Q,Pat.cs_len] at h1p
 exfalso;omega;refine sq ?_ ?_<;>intro h2 h2p h2s;try simp only[Q,Pat.cs_len] at h2p
 exfalso;omega;refine sq ?_ ?_<;>intro h3 h3p h3s;refine xaF 9 6 .none rfl rfl ?_;refine tv ?_;refine wc zfe (zet hs.dp.wt (zcO ht)) rfl rfl ?_;refine evd [11] [] ?_;refine dr ?_;refine xak (ι:=List (Int)×List (Int)) hk (fun x=>[(61,.d (.i (x.1.length:Int))),(11,.gl 9 (Pat.cs (x.1.flatMap fun c=>zaB w (n+1) ⟨ta,tk⟩ (zdc w ⟨ta,tk⟩ c) b)))]) [13,62,63,64,65,66,67,68,69,70,71,72,73,74,75] (fun x=>[(9,some (.tok ((Pat.cs (x.1.flatMap fun c=>zaB w (n+1) ⟨ta,tk⟩ (zdc w ⟨ta,tk⟩ c) b))).length 6))]) (fun x=>x.1++x.2=zap w ⟨ta,tk⟩) (fun x=>x.2.length) ([],zap w ⟨ta,tk⟩) (by simp) ⟨⟨_,rfl,xar ?_⟩,⟨⟨_,rfl,LeA.glg ?_⟩,trivial⟩⟩ ⟨zaa ?_,trivial⟩ (fun x=>rfl) (fun x hg1=>?_);iterate 3 focus (rfl)
 obtain⟨pre,rest⟩:=x;dsimp only at hg1 ⊢;refine evc [11] [] ?_;refine sq ?_ ?_<;>intro h4 h4p h4s<;>(try simp only[Q,Pat.cs_len] at h4p);rcases rest with _|⟨y,rest⟩
 ·exfalso;simp_all
 refine xaU sl62 .none rfl rfl rfl rfl (zaE hg1) rfl ?_;refine evs [11] [] ?_;refine wc zvX (zoF hs.dp.wt (f:=f) (zcO ht) (hmem hg1) (hs.args _ _ ht (hmem hg1))) rfl rfl ?_;refine evd [11] [] ?_;refine wc zrq (hC y (hmem hg1)) rfl rfl ?_;refine ap sl26 zz28 rfl rfl rfl (by exact zee _) (by have h9:=hpre hg1;simp only[Pat.cs_len];omega) ?_;refine asg ?_;refine dr ?_;refine ar ?_;refine xah ((pre++[y],rest)) ⟨(by have hz:=hg1;rw[<-hz];simp),(by simp),sx ⟨⟨_,rfl,xar ?_⟩,⟨⟨_,rfl,LeA.glg ?_⟩,trivial⟩⟩ ⟨zaa ?_,trivial⟩⟩;iterate 3 focus (first|(rw[List.flatMap_append,xav,xav,xav,xaf];simp;done)|(simp[Pat.cs_len];done))
 have hrest:rest=[]:=by
  rcases rest with _|⟨a,b⟩
  ·rfl
  ·exfalso;have hz:=congrArg List.length (hg1);simp only[xaa,xab,xac] at hz;omega
 subst hrest;refine rn0 (r1 rfl) (.gld ?_);rotate_left;try simp only[Q,Pat.cs_len] at h3p
 exfalso;omega;all_goals ((rw[List.append_nil] at hg1;rw[hg1];done))
theorem ziY (hs:Spa w):∀(n m:Nat){ta tk:Int}{a b:Pat},n<m->n<=10->m<=11->InS (w.length*4) ⟨ta,tk⟩->zak w m ⟨ta,tk⟩ a=true->zak w n ⟨ta,tk⟩ b=true->MinusFn w f n ta tk a b
 |0,m,ta,tk,a,b,_,_,_,_,_,hb=>by simp[zak] at hb
 |n+1,0,ta,tk,a,b,h,_,_,_,_,_=>by omega
 |n+1,m+1,ta,tk,a,b,h,hn,hm,ht,ha,hb=>by
  have hC:∀ {a:Pat},zak w (m+1) ⟨ta,tk⟩ a=true->a.op=4->b.op=4->MinusFn w f (n+1) ta tk a b:=fun {a} ha h4 h4b=>by
   by_cases hc:a.ctor=b.ctor
   ·exact zpH hs hn hm (by omega) (fun h1 h2 h3=>ziY hs n m (by omega) (by omega) (by omega) h1 h2 h3) ht ha hb h4 h4b hc
   ·exact zpI h4 h4b hc
  rcases zce hb with h1|h3|h4b
  ·exact zpE h1
  ·have:=zcR hb h3;exact zpF h3 ⟨by omega,by omega⟩ ⟨by omega,by omega⟩
  ·by_cases h1:a.op=1
   ·obtain⟨m',rfl⟩:∃m',m=m'+1:=⟨m-1,by omega⟩;exact zpG hs ht h1 h4b (zlg hs h hn ht ha hb) (fun c hc=>hC (zeL hc) rfl h4b)
   ·exact hC ha (by have:=zfR ha hb h1 (by omega);omega) h4b
end
abbrev zlC (x:UInt8):List D:=[.int .u8 (x.toNat:Int)]
abbrev zdi (b:Str):D:= .sl (b.map zlC)
abbrev rdB (b:Str) (p:Nat):Res:= .box [.d (zdi b),.d (.i p)]
theorem zm6 (u:UInt8):0<=IntKind.i64.wrap (u.toNat:Int)/\IntKind.i64.wrap (u.toNat:Int)<=255:=by
 have h:u.toNat<256:=u.toNat_lt;rw[zdR (by omega)];omega
def zhB (b:Str) (p:Nat):Int:=
 IntKind.i64.wrap ((nth b (p % b.length)).toNat:Int)*131+IntKind.i64.wrap ((nth b ((p*7+3) % b.length)).toNat:Int)*1117+((p:Int)+1-1)*29+((p:Int)+1-1) / ((b.map zlC).length:Int)*53
def zal (b:Str) (p:Nat) (n:Int):Int:=
 if n<1\/b.length=0 then 0
 else if p<b.length then IntKind.i64.wrap ((nth b p).toNat:Int) % n
 else xorV (zhB b p) (zhB b p / 64) % n
theorem zbS {b:Str}{p:Nat}{n:Int} (h:1<=n):0<=zal b p n/\zal b p n<n:=by
 unfold zal;split
 ·omega
 ·split
  ·exact⟨Int.emod_nonneg _ (by omega),Int.emod_lt_of_pos _ (by omega)⟩
  ·exact⟨Int.emod_nonneg _ (by omega),Int.emod_lt_of_pos _ (by omega)⟩
theorem zaI {b:Str}{p:Nat}{n:Int} (hb:b.length<=2000) (hp:p<=1000000000000) (hn:n<=1000000000000):
  FnD Tryz.prog 57 [.ref 900 0,.d (.i n)] [(900,some (rdB b p))] (.d (.i (zal b p n))) [(900,some (rdB b (p+1)))]:=by
 have w1:=zm6 (nth b (p % b.length));have w2:=zm6 (nth b ((p*7+3) % b.length));have w3:=zm6 (nth b p);have hlen:((b.map zlC).length:Int)=b.length:=by simp
 have d1:0<=((p:Int)+1-1) / ((b.map zlC).length:Int):=Int.ediv_nonneg (by omega) (by omega);have d2:((p:Int)+1-1) / ((b.map zlC).length:Int)<=(p:Int)+1-1:=Int.ediv_le_self _ (by omega);have hx:0<=zhB b p/\zhB b p<=100*1000000000000:=by unfold zhB;omega
 have hx2:=zvG (m:=zhB b p) (n:=zhB b p / 64) (by omega) (by omega);have k1:(p:Int)+1-1=(p:Int):=by omega
 have hx3:=hx2;have hx4:=hx;unfold zhB at hx3 hx4;refine bd Tryz.f57 99 [46,57,74,89,94,95,98] [] fun w0 F0 own kept hk=>?_;refine ar ?_;refine so ty3 ?_;refine tv ?_;refine sq ?_ ?_<;>intro h1 h1p h1s<;>(try simp only[Q] at h1p);refine sqT ?_;refine rn [(900,some (rdB b (p+1)))] (r1 rfl) (.eqd ?_) ⟨rfl,rfl⟩ (SubO.get ⟨.inr ?_,⟨.inl rfl,trivial⟩⟩) (zax rfl);rotate_left 2;refine sq ?_ ?_<;>intro h3 h3p h3s<;>(try simp only[Q] at h3p);refine rn [(900,some (rdB b (p+1)))] (r1 rfl) (.eqd ?_) ⟨rfl,rfl⟩ (SubO.get ⟨.inr ?_,⟨.inl rfl,trivial⟩⟩) (zax rfl);rotate_left 2;refine ar ?_;refine sq ?_ ?_<;>intro h4 h4p h4s<;>(try simp only[Q] at h4p);refine xaU (i:=p) sl22 .none rfl rfl rfl (by omega) (zat (by omega)) rfl ?_;refine evs [46,57,74,89,94,95,98] [] ?_;refine xaN (by rw[un5];rfl) un3 .none rfl rfl ?_;refine evs [46,57,74,89,94,95,98] [] ?_;refine xbg .none rfl rfl rfl (by omega) ?_;refine evs [46,57,74,89,94,95,98] [] ?_;refine rn [(900,some (rdB b (p+1)))] (r1 rfl) (.eqd ?_) ⟨rfl,rfl⟩ (SubO.get ⟨.inr ?_,⟨.inl rfl,trivial⟩⟩) (zax rfl);rotate_left 2;refine xbg .none rfl rfl rfl (by omega) ?_;refine xaU (i:=p % b.length) sl22 .none rfl rfl rfl (by rw[k1,hlen];rfl) (zat (Nat.mod_lt _ (by omega))) rfl ?_;refine evd [46,57,74,89,94,95,98] [] ?_;refine xaN (by rw[un5];rfl) un3 .none rfl rfl ?_;refine evd [46,57,74,89,94,95,98] [] ?_;refine ar ?_;refine ar ?_;refine ar ?_;refine xbg .none rfl rfl rfl (by omega) ?_;refine xaU (i:=(p*7+3) % b.length) sl22 .none rfl rfl rfl (by rw[k1,hlen];rfl) (zat (Nat.mod_lt _ (by omega))) rfl ?_;refine evd [46,57,74,89,94,95,98] [] ?_;refine xaN (by rw[un5];rfl) un3 .none rfl rfl ?_;refine evd [46,57,74,89,94,95,98] [] ?_;refine ar ?_;refine ar ?_;refine ar ?_;refine ar ?_;refine xbe .none rfl rfl rfl (by omega) ?_;refine evd [46,57,74,89,94,95,98] [] ?_;refine ar ?_;refine ar ?_;refine dr ?_;refine xbe .none rfl rfl rfl (by omega) ?_;refine Walk.xorI .none rfl rfl rfl ?_;refine evs [46,57,74,89,94,95,98] [] ?_;refine xbg .none rfl rfl rfl (by omega) ?_;refine evs [46,57,74,89,94,95,98] [] ?_;refine rn [(900,some (rdB b (p+1)))] (r1 rfl) (.eqd ?_) ⟨rfl,rfl⟩ (SubO.get ⟨.inr ?_,⟨.inl rfl,trivial⟩⟩) (zax rfl);rotate_left 2;all_goals (first|((refine congrArg D.i ?_;unfold zal;first|(rw[if_pos (by omega)];done)|(rw[if_neg (by omega),if_pos (by omega)];done)|(rw[if_neg (by omega),if_neg (by omega)];rfl));done)|(rfl))
def numV (b:Str) (p:Nat) (l:List Int):Int:=nth l (zal b p l.length).toNat
theorem zbs {b:Str}{p:Nat}{l:List Int} (hb:b.length<=2000) (hp:p<=1000000000000) (hl:1<=l.length) (hl2:l.length<=1000):
  FnD Tryz.prog 84 [.ref 900 0,.d (zcd l)] [(900,some (rdB b p))] (.d (.i (numV b p l))) [(900,some (rdB b (p+1)))]:=by
 have hv:=zbS (b:=b) (p:=p) (n:=((l.map fun n=>[D.i n]).length:Int)) (by simp;omega);have hlen:((l.map fun n=>[D.i n]).length:Int)=l.length:=by simp
 refine bd Tryz.f84 12 [] [] fun w0 F0 own kept hk=>?_;refine wc zbB (zaI hb hp (by simp;omega)) rfl rfl ?_;refine xaU (i:=(zal b p ((l.map fun n=>[D.i n]).length:Int)).toNat) sl62 .none rfl rfl rfl (by omega) (zat (by omega)) rfl ?_;refine ev ?_;refine rn [(900,some (rdB b (p+1)))] (r1 rfl) (.eqd ?_) ⟨rfl,rfl⟩ (SubO.get ⟨.inr ?_,⟨.inl rfl,trivial⟩⟩) (zax rfl);rotate_left 2;all_goals (first|((refine congrArg D.i ?_;unfold numV;rw[hlen]);done)|(rfl))
def ofV (b:Str) (p:Nat) (l:List Str):Str:=nth l (zal b p l.length).toNat
theorem zmQ {b:Str}{p:Nat}{l:List Str} (hb:b.length<=2000) (hp:p<=1000000000000) (hl:1<=l.length) (hl2:l.length<=1000):
  FnD Tryz.prog 179 [.ref 900 0,.d (zeq l)] [(900,some (rdB b p))] (.d (.str (ofV b p l))) [(900,some (rdB b (p+1)))]:=by
 have hv:=zbS (b:=b) (p:=p) (n:=((l.map fun n=>[D.str n]).length:Int)) (by simp;omega);have hlen:((l.map fun n=>[D.str n]).length:Int)=l.length:=by simp
 refine bd Tryz.f179 12 [] [] fun w0 F0 own kept hk=>?_;refine wc zbB (zaI hb hp (by simp;omega)) rfl rfl ?_;refine xaU (i:=(zal b p ((l.map fun n=>[D.str n]).length:Int)).toNat) sl99 .none rfl rfl rfl (by omega) (zat (by omega)) rfl ?_;refine ev ?_;refine rn [(900,some (rdB b (p+1)))] (r1 rfl) (.eqd ?_) ⟨rfl,rfl⟩ (SubO.get ⟨.inr ?_,⟨.inl rfl,trivial⟩⟩) (zax rfl);rotate_left 2;all_goals (first|((refine congrArg D.str ?_;unfold ofV;rw[hlen]);done)|(rfl))
theorem zhF {b:Str} (hb:b.length<=1000000000000):FnD Tryz.prog 56 [.d (zdi b)] [] (.ref 900 0) [(900,some (rdB (b.take 2000) 0))]:=by
 refine bd Tryz.f56 11 [] [] fun w0 F0 own kept hk=>?_;refine sq ?_ ?_<;>intro h1 h1p h1s<;>(try simp only[Q] at h1p);refine xaQ (b:=2000) sl22 .none rfl rfl rfl (by intro x hx;obtain⟨y,_,rfl⟩:=List.mem_map.1 hx;rfl) rfl rfl (by simp at *;omega) ?_;refine ev ?_;refine bu [0] [_] zuN ?_;refine bx 900 ?_;refine ev ?_;focus (refine rn [(900,some (rdB (b.take 2000) 0))] (r1 rfl) (.refl _) ⟨rfl,rfl⟩ (SubH.get ⟨(by(simp[getH,rdB,zdi,List.map_take];done)),trivial⟩) (zax rfl);all_goals (rfl))
 refine bu [0] [_] zuN ?_;refine bx 900 ?_;refine ev ?_;focus (refine rn [(900,some (rdB (b.take 2000) 0))] (r1 rfl) (.refl _) ⟨rfl,rfl⟩ (SubH.get ⟨(by(show some (Res.box _)=some (Res.box _);rw[List.take_of_length_le (by simp at *;omega)];rfl)),trivial⟩) (zax rfl);all_goals ((simp[h1s,h1p];done)))
def cutL (c:UInt8):Str->Str->List Str
 |cur,[]=>[cur]
 |cur,x::r=>if x=c then cur::cutL c [] r else cutL c (cur++[x]) r
theorem zd8 (c:UInt8):∀(s cur:Str),(cutL c cur s).length<=s.length+1
 | [],cur=>by simp[cutL]
 |x::r,cur=>by
  simp only[cutL];split
  ·have:=zd8 c r [];simp only[xab];omega
  ·have:=zd8 c r (cur++[x]);simp only[xab];omega
theorem zir (c:UInt8):∀(s cur:Str),1<=(cutL c cur s).length
 | [],cur=>by simp[cutL]
 |x::r,cur=>by
  simp only[cutL];split
  ·simp
  ·exact zir c r (cur++[x])
theorem ziq (c:UInt8):∀(s cur:Str) (t:Str),t∈cutL c cur s->t.length<=cur.length+s.length
 | [],cur,t,h=>by simp only[cutL,List.mem_singleton] at h;subst h;simp
 |x::r,cur,t,h=>by
  simp only[cutL] at h;split at h
  ·rcases List.mem_cons.1 h with rfl|h
   ·simp
   ·have:=ziq c r [] t h;simp only[xab,xai] at this ⊢;omega
  ·have:=ziq c r (cur++[x]) t h;simp only[xaa,xab,xai] at this ⊢;omega
theorem zhn {s:Str}{i:Nat} (h:i<s.length):s[i]?=some (nth s i):=by rw[za5 h];exact List.getElem?_eq_getElem h
theorem zk2 {s:Str}{f i:Nat} (hf:f<=i) (h:i<s.length):(s.take (i+1)).drop f=(s.take i).drop f++[nth s i]:=by
 rw[List.take_add_one,List.getElem?_eq_getElem h,List.drop_append_of_le_length (by simp;omega),za5 h];rfl
theorem zpm {s:Str}{f i:Nat}:(s.drop f).take (i-f)=(s.take i).drop f:=by rw[List.drop_take]
theorem zcg {s:Str}{c:UInt8} (hs:s.length<=1000000000000):FnD Tryz.prog 120 [.d (.str s),.d (.int .u8 (c.toNat:Int))] [] (.d (zeq (cutL c [] s))) []:=by
 have hu:∀a:UInt8,((a.toNat:Int)=(c.toNat:Int))↔a=c:=fun a=>by rw[Int.natCast_inj];exact UInt8.toNat_inj
 refine bd Tryz.f120 36 [] [] fun w0 F0 own kept hk=>?_;refine xbi 1 sl99 .none rfl rfl ?_;refine ev ?_;refine xak (ι:=Nat×Nat×List Str) hk (fun x=>[(7,.d (.i (x.1:Int))),(6,.d (.i (x.2.1:Int))),(5,.gl 1 (x.2.2.map fun n=>[D.str n]))]) [9,10,11,12,13,14,15,16,17,18,19,20,21,22,23,24,25,26,27,28,29,30,31,32,33,34] (fun x=>[(1,some (.tok ((x.2.2.map fun n=>[D.str n])).length 1))]) (fun x=>x.1<=s.length+1/\x.2.2.length<=x.1/\if x.1=s.length+1 then x.2.2=cutL c [] s else x.2.1<=x.1/\x.2.2++cutL c ((s.take x.1).drop x.2.1) (s.drop x.1)=cutL c [] s) (fun x=>s.length+1-x.1) (0,0,[]) ⟨by simp,by simp,by rw[if_neg (by simp)];simp⟩ ⟨⟨_,rfl,xar ?_⟩,⟨⟨_,rfl,xar ?_⟩,⟨⟨_,rfl,LeA.glg ?_⟩,trivial⟩⟩⟩ ⟨zaa ?_,trivial⟩ (fun x=>rfl) (fun x hg1=>?_);iterate 4 focus (rfl)
 refine evc [] [] ?_;refine sq ?_ ?_<;>intro h1 h1p h1s<;>(try simp only[Q,hu] at h1p);have hne:¬x.1=s.length+1:=(by omega);have hcond:=hg1.2.2;rw[if_neg hne] at hcond;have hle:=hcond.1;refine sq ?_ ?_<;>intro h2 h2p h2s<;>(try simp only[Q,hu] at h2p);refine sqT ?_;refine xaP un9 .none rfl rfl rfl rfl rfl rfl (by omega) (by omega) ?_;refine si [0] [_] sl99 tz9 ?_;refine ap sl99 zz9 rfl rfl rfl (by simp) (by simp;omega) ?_;refine ev ?_;refine ar ?_;refine ar ?_;refine xah (if x.1=s.length\/nth s x.1=c then (x.1+1,x.1+1,x.2.2++[(s.take x.1).drop x.2.1]) else (x.1+1,x.2.1,x.2.2)) ⟨(by
    have hne:¬x.1=s.length+1:=by omega
    rw[if_neg hne] at hg1;obtain⟨g1,g2,g3,g4⟩:=hg1;by_cases he:x.1=s.length
    ·rw[if_pos (.inl he)];refine⟨by dsimp only;omega,by simp;omega, ?_⟩;dsimp only;rw[if_pos (by omega),<-g4,he,List.drop_length];rfl
    ·have hlt:x.1<s.length:=by omega
     rw[zaN hlt] at g4;by_cases hc:nth s x.1=c
     ·rw[if_pos (.inr hc)];refine⟨by dsimp only;omega,by simp;omega, ?_⟩;dsimp only;rw[if_neg (by omega)];refine⟨by omega, ?_⟩;rw[<-g4,cutL,if_pos hc,List.append_assoc];simp
     ·rw[if_neg (by simp[he,hc])];refine⟨by dsimp only;omega,by dsimp only;omega, ?_⟩;dsimp only;rw[if_neg (by omega)];refine⟨by omega, ?_⟩;rw[<-g4,cutL,if_neg hc,zk2 g3 hlt]),(by split<;>(dsimp only;omega)),sx ⟨⟨_,rfl,xar ?_⟩,⟨⟨_,rfl,xar ?_⟩,⟨⟨_,rfl,LeA.glg ?_⟩,trivial⟩⟩⟩ ⟨zaa ?_,trivial⟩⟩
 iterate 4 focus ((split<;>first|(simp[zpm];done)|(simp;done)|(exfalso;simp_all;done)|(exfalso;simp_all;omega)))
 refine xaZ un9 (.some rfl rfl h2) rfl rfl rfl rfl (zhn (by omega)) ?_;refine evs [] [(19,false)] ?_ ⟨⟨_,rfl,h2⟩,trivial⟩;refine sq ?_ ?_<;>intro h4 h4p h4s<;>(try simp only[Q,hu] at h4p);refine xaP un9 .none rfl rfl rfl rfl rfl rfl (by omega) (by omega) ?_;refine si [0] [_] sl99 tz9 ?_;refine ap sl99 zz9 rfl rfl rfl (by simp) (by simp;omega) ?_;refine ev ?_;refine ar ?_;refine ar ?_;refine xah (if x.1=s.length\/nth s x.1=c then (x.1+1,x.1+1,x.2.2++[(s.take x.1).drop x.2.1]) else (x.1+1,x.2.1,x.2.2)) ⟨(by
    have hne:¬x.1=s.length+1:=by omega
    rw[if_neg hne] at hg1;obtain⟨g1,g2,g3,g4⟩:=hg1;by_cases he:x.1=s.length
    ·rw[if_pos (.inl he)];refine⟨by dsimp only;omega,by simp;omega, ?_⟩;dsimp only;rw[if_pos (by omega),<-g4,he,List.drop_length];rfl
    ·have hlt:x.1<s.length:=by omega
     rw[zaN hlt] at g4;by_cases hc:nth s x.1=c
     ·rw[if_pos (.inr hc)];refine⟨by dsimp only;omega,by simp;omega, ?_⟩;dsimp only;rw[if_neg (by omega)];refine⟨by omega, ?_⟩;rw[<-g4,cutL,if_pos hc,List.append_assoc];simp
     ·rw[if_neg (by simp[he,hc])];refine⟨by dsimp only;omega,by dsimp only;omega, ?_⟩;dsimp only;rw[if_neg (by omega)];refine⟨by omega, ?_⟩;rw[<-g4,cutL,if_neg hc,zk2 g3 hlt]),(by split<;>(dsimp only;omega)),sx ⟨⟨_,rfl,xar ?_⟩,⟨⟨_,rfl,xar ?_⟩,⟨⟨_,rfl,LeA.glg ?_⟩,trivial⟩⟩⟩ ⟨zaa ?_,trivial⟩⟩
 iterate 4 focus ((split<;>first|(simp[zpm];done)|(simp;done)|(exfalso;simp_all;done)|(exfalso;simp_all;omega)))
 refine ar ?_;refine xah (if x.1=s.length\/nth s x.1=c then (x.1+1,x.1+1,x.2.2++[(s.take x.1).drop x.2.1]) else (x.1+1,x.2.1,x.2.2)) ⟨(by
    have hne:¬x.1=s.length+1:=by omega
    rw[if_neg hne] at hg1;obtain⟨g1,g2,g3,g4⟩:=hg1;by_cases he:x.1=s.length
    ·rw[if_pos (.inl he)];refine⟨by dsimp only;omega,by simp;omega, ?_⟩;dsimp only;rw[if_pos (by omega),<-g4,he,List.drop_length];rfl
    ·have hlt:x.1<s.length:=by omega
     rw[zaN hlt] at g4;by_cases hc:nth s x.1=c
     ·rw[if_pos (.inr hc)];refine⟨by dsimp only;omega,by simp;omega, ?_⟩;dsimp only;rw[if_neg (by omega)];refine⟨by omega, ?_⟩;rw[<-g4,cutL,if_pos hc,List.append_assoc];simp
     ·rw[if_neg (by simp[he,hc])];refine⟨by dsimp only;omega,by dsimp only;omega, ?_⟩;dsimp only;rw[if_neg (by omega)];refine⟨by omega, ?_⟩;rw[<-g4,cutL,if_neg hc,zk2 g3 hlt]),(by split<;>(dsimp only;omega)),sx ⟨⟨_,rfl,xar ?_⟩,⟨⟨_,rfl,xar ?_⟩,⟨⟨_,rfl,LeA.glg ?_⟩,trivial⟩⟩⟩ ⟨zaa ?_,trivial⟩⟩
 iterate 4 focus ((split<;>first|rfl|(exfalso;simp_all;done)|(exfalso;simp_all;omega)))
 refine rn0 (r1 rfl) (.gld ?_);rotate_left;all_goals (have e:x.1=s.length+1:=(by omega);rw[if_pos e] at hg1;rw[hg1.2.2])
def zrw (names:List Str) (s:Str):Int:=if s=[73] then -1 else if s∈names then idxF (fun n=>decide (n=s)) names 0 else -2
theorem znx {names:List Str}{s:Str} (hn:names.length<=1000000000000):FnD Tryz.prog 211 [.d (zeq names),.d (.str s)] [] (.d (.i (zrw names s))) []:=by
 refine bd Tryz.f211 21 [] [] fun w0 F0 own kept hk=>?_;refine sq ?_ ?_<;>intro h1 h1p h1s<;>(try simp only[Q] at h1p);refine rq ?_;rotate_left;refine xak (ι:=List (Str)×List (Str)) hk (fun x=>[(5,.d (.i (x.1.length:Int)))]) [4,8,9,10,11,12,13,14,15,16,17,18,19,20] (fun x=>[]) (fun x=>x.1++x.2=names/\s∉x.1/\idxF (fun n=>decide (n=s)) x.2 x.1.length=idxF (fun n=>decide (n=s)) names 0) (fun x=>x.2.length) ([],names) ⟨by simp,by simp,rfl⟩ ⟨⟨_,rfl,xar ?_⟩,trivial⟩ trivial (fun x=>rfl) (fun x hg1=>?_);focus (rfl)
 obtain⟨pre,rest⟩:=x;dsimp only at hg1 ⊢;refine evc [] [] ?_;refine sq ?_ ?_<;>intro h2 h2p h2s<;>(try simp only[Q] at h2p);rcases rest with _|⟨y,rest⟩
 ·exfalso;simp_all
 refine xaU sl99 .none rfl rfl rfl rfl (zaE hg1.1) rfl ?_;refine ev ?_;refine sq ?_ ?_<;>intro h3 h3p h3s<;>(try simp only[Q] at h3p);refine rq ?_;rotate_left;refine ar ?_;refine xah ((pre++[y],rest)) ⟨⟨(by have hz:=hg1.1;rw[<-hz];simp),⟨(by have h1:=hg1.2.1;simp_all[eq_comm]),(by rw[<-hg1.2.2];simp_all[idxF])⟩⟩,(by simp),sx ⟨⟨_,rfl,xar ?_⟩,trivial⟩ trivial⟩;focus ((simp;done))
 have hrest:rest=[]:=by
  rcases rest with _|⟨a,b⟩
  ·rfl
  ·exfalso;have hz:=congrArg List.length (hg1.1);simp only[xaa,xab,xac] at hz;omega
 subst hrest;refine rq ?_;rotate_left;all_goals (refine congrArg D.i ?_;unfold zrw;by_cases hz:s=[73]<;>by_cases hm:s∈names<;>simp only[hz,hm,if_true,if_false];all_goals first|(exfalso;simp_all;done)|(exfalso;apply hm;subst h3p;rw[<-hg1.1];simp;done)|(exfalso;apply hg1.2.1;rw[<-hg1.1,List.append_nil] at hm;exact hm)|(rw[<-hg1.2.2];simp_all[idxF];done))
def ze8 (names:List Str) (s:Str):Ty:=
 if s=[] then ⟨-2,0⟩
 else ⟨zrw names (s.take 1),if s.drop 1=[42] then -1 else if s.length=2/\48<=(nth s 1).toNat/\(nth s 1).toNat<=57 then ((nth s 1).toNat:Int)-48 else 0⟩
theorem zru {b:UInt8} (h1:48<=b.toNat) (h2:b.toNat<=57):IntKind.i64.wrap (IntKind.u8.wrap ((b.toNat:Int)-48))=(b.toNat:Int)-48:=by
 rw[zvD,zdR (by omega)];omega
theorem zfB {names:List Str}{s:Str} (hn:names.length<=1000000000000) (hs:s.length<=1000000000000):
  FnD Tryz.prog 173 [.d (zeq names),.d (.str s)] [] (.agg [.d (.i (ze8 names s).data),.d (.i (ze8 names s).index)]) []:=by
 have hlen:s≠[]->1<=s.length:=fun h=>by rcases s with _|⟨a,r⟩;exact absurd rfl h;simp
 refine bd Tryz.f173 39 [35] [] fun w0 F0 own kept hk=>?_;refine ab 3004 tz25 ?_;refine tv ?_;refine sq ?_ ?_<;>intro h1 h1p h1s<;>(try simp only[Q] at h1p);refine bu [0] [_] st25 ?_;refine so ty25 ?_;refine tv ?_;refine rn0 (.cons (.cellA ty25 rfl rfl rfl) .nil) (.agg (.cons (.eqd ?_) (.cons (.eqd ?_) .nil)));rotate_left 2;refine xaO (b:=1) un9 .none rfl rfl rfl rfl (by have:=hlen (by simp_all);omega) ?_;refine wc zwg (znx (names:=names) (s:=s.take 1) hn) rfl rfl ?_;refine bu [0] [_] st25 ?_;refine ab 3005 tz25 ?_;refine so ty25 ?_;refine tv ?_;refine Walk.cutS_l (b:=1) un9 .none rfl rfl rfl rfl (by have:=hlen (by simp_all);omega) ?_;refine evs [35] [] ?_;refine sq ?_ ?_<;>intro h2 h2p h2s<;>(try simp only[Q] at h2p);refine so ty3 ?_;refine tv ?_;refine so ty25 ?_;refine tv ?_;refine rn0 (.cons (.cellA ty25 rfl rfl rfl) .nil) (.agg (.cons (.eqd ?_) (.cons (.eqd ?_) .nil)));rotate_left 2;refine sq ?_ ?_<;>intro h3 h3p h3s<;>(try simp only[Q] at h3p);refine xaZ (i:=1) un9 (.some rfl rfl h3) rfl rfl rfl rfl (zhn (by simp_all;omega)) ?_;refine evs [35] [(23,true)] ?_ ⟨⟨_,rfl,h3⟩,trivial⟩;refine sq ?_ ?_<;>intro h4 h4p h4s<;>(try simp only[Q] at h4p);refine xaZ (i:=1) un9 (.some rfl rfl h4) rfl rfl rfl rfl (zhn (by simp_all;omega)) ?_;refine evs [35] [(28,true)] ?_ ⟨⟨_,rfl,h4⟩,trivial⟩;refine sq ?_ ?_<;>intro h5 h5p h5s<;>(try simp only[Q] at h5p);refine xaZ (i:=1) un9 .none rfl rfl rfl rfl (zhn (by simp_all;omega)) ?_;refine Walk.subW .none rfl rfl rfl ?_;refine xaN (by rw[un5];rfl) un3 .none rfl rfl ?_;refine evs [35] [] ?_;refine so ty3 ?_;refine tv ?_;refine so ty25 ?_;refine tv ?_;refine rn0 (.cons (.cellA ty25 rfl rfl rfl) .nil) (.agg (.cons (.eqd ?_) (.cons (.eqd ?_) .nil)));rotate_left 2;refine so ty25 ?_;refine tv ?_;refine rn0 (.cons (.cellA ty25 rfl rfl rfl) .nil) (.agg (.cons (.eqd ?_) (.cons (.eqd ?_) .nil)));rotate_left 2;refine sqF ?_;refine so ty25 ?_;refine tv ?_;refine rn0 (.cons (.cellA ty25 rfl rfl rfl) .nil) (.agg (.cons (.eqd ?_) (.cons (.eqd ?_) .nil)));rotate_left 2;refine sqF ?_;refine sqF ?_;refine so ty25 ?_;refine tv ?_;refine rn0 (.cons (.cellA ty25 rfl rfl rfl) .nil) (.agg (.cons (.eqd ?_) (.cons (.eqd ?_) .nil)));rotate_left 2;all_goals (unfold ze8;first|(rw[zru (b:=nth s 1) (by omega) (by omega),if_neg h1p];dsimp only;rw[if_neg h2p,if_pos ⟨by omega,by omega,by omega⟩];done)|(rw[if_pos h1p];done)|(rw[if_neg h1p];done)|(rw[if_neg h1p];dsimp only;rw[if_pos h2p];done)|(rw[if_neg h1p];dsimp only;rw[if_neg h2p,if_neg (fun hh=>by omega)];done))
def zpr (s:Str):Prop:=2<s.length/\nth s (s.length-2)=58
instance (s:Str):Decidable (zpr s):=inferInstanceAs (Decidable (_/\_))
def zg3 (names:List Str) (ix:Int) (s:Str):Ctor:=
 let parts:=cutL 40 [] s
 ⟨nth parts 0,if parts.length<2\/(nth parts 1).length=0 then [] else ((cutL 44 [] ((nth parts 1).take ((nth parts 1).length-1))).take 4).map (ze8 names),ix⟩
def zcq (names:List Str) (s:Str):Ctor:=
 if zpr s then zg3 names (((nth s (s.length-1)).toNat:Int)-48) (s.take (s.length-2)) else zg3 names 0 s
theorem zgo {α β:Type} [Inhabited α]{f:α->β}{l:List α}{i:Nat} (h:i<l.length):(l.map f).take (i+1)=(l.map f).take i++[f (nth l i)]:=by
 rw[List.take_add_one,List.getElem?_map,List.getElem?_eq_getElem h];simp[nth,List.getD,h]
theorem zor {α:Type}{l:List α}{i:Nat} (h:i=4\/(i<=4/\l.length<=i)):l.take i=l.take 4:=by
 rcases h with rfl|⟨h1,h2⟩
 ·rfl
 ·rw[List.take_of_length_le h2,List.take_of_length_le (by omega)]
theorem zw5 {a b:UInt8}:((a.toNat:Int)=(b.toNat:Int))↔a=b:=by rw[Int.natCast_inj];exact UInt8.toNat_inj
theorem ztr (a:UInt8):IntKind.i64.wrap (a.toNat:Int)=(a.toNat:Int):=by have:=a.toNat_lt;exact zdR (by omega)
theorem zd9 {c:UInt8}{s:Str}{i:Nat} (h:i<(cutL c [] s).length):(nth (cutL c [] s) i).length<=s.length:=by
 have:=ziq c s [] _ (zah h);simpa using this
theorem zje {names:List Str}{s:Str} (hn:names.length<=1000000000000) (hs:s.length<=1000000):
  FnD Tryz.prog 121 [.d (zeq names),.d (.str s)] [] (.agg [.d (.str (zcq names s).name),.d (zb9 (zcq names s).args),.d (.i (zcq names s).index)]) []:=by
 have hwb:=ztr (nth s (s.length-1));have hwl:=(nth s (s.length-1)).toNat_lt;by_cases hc:zpr s
 ·have hc1:=hc.1;have hct:(s.take (s.length-2)).length=s.length-2:=by rw[List.length_take];omega
  have hcl:=zd8 40 (s.take (s.length-2)) [];have hcp:=zir 40 (s.take (s.length-2)) [];have hn1:=fun h=>zd9 (c:=40) (s:=s.take (s.length-2)) (i:=1) h;have hal:=zd8 44 ((nth (cutL 40 [] (s.take (s.length-2))) 1).take ((nth (cutL 40 [] (s.take (s.length-2))) 1).length-1)) [];refine bd Tryz.f121 83 [] [2,7] fun w0 F0 own kept hk=>?_;refine ab 3004 zfx ?_;refine tv ?_;refine bu [] [] zuP ?_;refine ab 3005 zfx ?_;refine so zcG ?_;refine tv ?_;refine xam ?_;refine xaA 11 [(20,.d (.bool (true)))] [10,11,12,13,14,15,16,17,18,19] ?_ ?_;refine ev ?_;refine sq ?_ ?_<;>intro h1 h1p h1s;refine ar ?_;refine xaZ (i:=s.length-2) un9 (.some rfl rfl h1) rfl rfl rfl (by omega) (zhn (by omega)) ?_;refine evs [] [(13,true)] ?_ ⟨⟨_,rfl,h1⟩,trivial⟩;exact jn rfl (xaq (by(exact decide_eq_true (congrArg (fun z:UInt8=>(z.toNat:Int)) hc.2))));try simp only[Q,List.length_take] at h1p
  exact jn rfl (xaq (by(exfalso;omega)));refine xaz ?_;refine tv ?_;refine sq ?_ ?_<;>intro h2 h2p h2s;refine ar ?_;refine xaZ (i:=s.length-1) un9 .none rfl rfl rfl (by omega) (zhn (by omega)) ?_;refine xaN (by rw[un5];rfl) un3 .none rfl rfl ?_;refine ev ?_;refine ar ?_;refine so ty3 ?_;refine tv ?_;refine ar ?_;refine xaO (b:=s.length-2) un9 .none rfl rfl rfl (by omega) (by omega) ?_;refine ev ?_;refine wc zf3 (zcg (s:=s.take (s.length-2)) (c:=40) (by first|omega|(simp;omega))) rfl rfl ?_;refine ev ?_;refine xaU (i:=0) sl99 .none rfl rfl rfl rfl (zat (by omega)) rfl ?_;refine ev ?_;refine so ty9 ?_;refine tv ?_;refine xam ?_;refine xaA 10 [(49,.d (.bool (decide ((cutL 40 [] (s.take (s.length-2))).length<2\/(nth (cutL 40 [] (s.take (s.length-2))) 1).length=0))))] [40,41,42,43,44,45,46,47,48] ?_ ?_;refine ev ?_;refine sq ?_ ?_<;>intro h3 h3p h3s<;>(try simp only[Q,List.length_take] at h3p);exact jn rfl (xaq (by(refine(decide_eq_true ?_).symm;omega)));refine xaU (i:=1) sl99 (.some rfl rfl h3) rfl rfl rfl rfl (zat (by omega)) rfl ?_;refine evs [] [(43,false)] ?_ ⟨⟨_,rfl,h3⟩,trivial⟩;exact jn rfl (xaq (by(refine decide_eq_decide.2 ?_;omega)));refine xaz ?_;refine tv ?_;refine sq ?_ ?_<;>intro h4 h4p h4s;refine so zcG ?_;refine tv ?_;refine rn0 (.cons (.cellA zcG rfl rfl rfl) .nil) (.agg (.cons (.eqd ?_) (.cons (.nild ?_) (.cons (.eqd ?_) .nil))));rotate_left 3;try simp only[Q,List.length_take] at h4p
  refine xaU (i:=1) sl99 .none rfl rfl rfl rfl (zat (by omega)) rfl ?_;refine evd [] [] ?_;refine xaU (i:=1) sl99 .none rfl rfl rfl rfl (zat (by omega)) rfl ?_;refine evd [] [] ?_;refine ar ?_;refine xaO (b:=(nth (cutL 40 [] (s.take (s.length-2))) 1).length-1) un9 .none rfl rfl rfl (by omega) (by omega) ?_;refine wc zf3 (zcg (s:=(nth (cutL 40 [] (s.take (s.length-2))) 1).take ((nth (cutL 40 [] (s.take (s.length-2))) 1).length-1)) (c:=44) (by simp;omega)) rfl rfl ?_;refine evd [] [] ?_;refine dr ?_;refine xao 3005 1 1 2 rfl rfl rfl rfl ?_;refine xak (ι:=Nat) hk (fun i=>[(8,.d (.i (i:Int)))]) [61,62,63,64,65,66,67,68,69,70,71,72,73,74,75,76,77,78,79,80,81] (fun i=>[(3005,some (.box [.d (.str (nth (cutL 40 [] (s.take (s.length-2))) 0)),.gl 1 (((((cutL 44 [] ((nth (cutL 40 [] (s.take (s.length-2))) 1).take ((nth (cutL 40 [] (s.take (s.length-2))) 1).length-1))).map (ze8 names)).take i)).map Ty.c),.d (.i (((nth s (s.length-1)).toNat:Int)-48))])),(1,some (.tok (((((cutL 44 [] ((nth (cutL 40 [] (s.take (s.length-2))) 1).take ((nth (cutL 40 [] (s.take (s.length-2))) 1).length-1))).map (ze8 names)).take i)).map Ty.c).length 2))]) (fun i=>i<=4/\i<=(cutL 44 [] ((nth (cutL 40 [] (s.take (s.length-2))) 1).take ((nth (cutL 40 [] (s.take (s.length-2))) 1).length-1))).length) (fun i=>4-i) 0 ⟨by omega,by omega⟩ ⟨⟨_,rfl,xar ?_⟩,trivial⟩ ⟨?_,⟨zaa ?_,trivial⟩⟩ (fun x=>rfl) (fun i hg1=>?_);focus (rfl)
  focus ((show some (Res.box _)=some (Res.box _);rw[hwb];rfl))
  focus (rfl)
  refine evc [] [2,7] ?_;refine sq ?_ ?_<;>intro h5 h5p h5s<;>(try simp only[Q,List.length_take] at h5p);refine sq ?_ ?_<;>intro h6 h6p h6s<;>(try simp only[Q,List.length_take] at h6p);refine xaU sl99 .none rfl rfl rfl rfl (zat (by omega)) rfl ?_;refine evd [] [] ?_;refine wc zsg (zfB (names:=names) (s:=nth (cutL 44 [] ((nth (cutL 40 [] (s.take (s.length-2))) 1).take ((nth (cutL 40 [] (s.take (s.length-2))) 1).length-1))) i) hn (by have:=zd9 (c:=44) (s:=(nth (cutL 40 [] (s.take (s.length-2))) 1).take ((nth (cutL 40 [] (s.take (s.length-2))) 1).length-1)) (i:=i) (by omega);simp at this;omega)) rfl rfl ?_;refine si [0] [_] zaT tz25 ?_;refine ap zaT zz25 rfl rfl rfl (by simp) (by simp;omega) ?_;refine evd [] [] ?_;refine so zmV ?_;refine dr ?_;refine ar ?_;refine xah (i+1) ⟨⟨by omega,by omega⟩,(by omega),sx ⟨⟨_,rfl,xar ?_⟩,trivial⟩ ⟨?_,⟨zaa ?_,trivial⟩⟩⟩;focus (rfl)
  focus ((show some (Res.box _)=some (Res.box _);rw[zgo (by omega)];simp;done))
  focus ((simp;omega))
  refine so zcG ?_;refine tv ?_;refine rn0 (.cons (.cellA zcG rfl rfl rfl) .nil) (.agg (.cons (.eqd ?_) (.cons (.gld ?_) (.cons (.eqd ?_) .nil))));rotate_left 3;refine sqF ?_;refine so zcG ?_;refine tv ?_;refine rn0 (.cons (.cellA zcG rfl rfl rfl) .nil) (.agg (.cons (.eqd ?_) (.cons (.gld ?_) (.cons (.eqd ?_) .nil))));rotate_left 3;try simp only[Q,List.length_take] at h2p
  exact absurd h2 (by simp);all_goals (unfold zcq;rw[if_pos hc];first|rfl|(rw[hwb];rfl)|(unfold zg3;dsimp only;by_cases hq:(cutL 40 [] (s.take (s.length-2))).length<2\/(nth (cutL 40 [] (s.take (s.length-2))) 1).length=0;all_goals first|(exfalso;exact(of_decide_eq_false h4) hq)|(exfalso;exact hq (of_decide_eq_true h4))|(rw[if_pos hq];done)|(rw[if_pos hq];rfl)|(rw[if_neg hq,<-List.map_take,zor (by omega)];done)))
 ·skip
  have hcl:=zd8 40 (s) [];have hcp:=zir 40 (s) [];have hn1:=fun h=>zd9 (c:=40) (s:=s) (i:=1) h;have hal:=zd8 44 ((nth (cutL 40 [] (s)) 1).take ((nth (cutL 40 [] (s)) 1).length-1)) [];refine bd Tryz.f121 83 [] [2,7] fun w0 F0 own kept hk=>?_;refine ab 3004 zfx ?_;refine tv ?_;refine bu [] [] zuP ?_;refine ab 3005 zfx ?_;refine so zcG ?_;refine tv ?_;refine xam ?_;refine xaA 11 [(20,.d (.bool (false)))] [10,11,12,13,14,15,16,17,18,19] ?_ ?_;refine ev ?_;refine sq ?_ ?_<;>intro h1 h1p h1s;try simp only[Q,List.length_take] at h1p
  refine ar ?_;refine xaZ (i:=s.length-2) un9 (.some rfl rfl h1) rfl rfl rfl (by omega) (zhn (by omega)) ?_;refine evs [] [(13,true)] ?_ ⟨⟨_,rfl,h1⟩,trivial⟩;exact jn rfl (xaq (by(exact decide_eq_false (fun hh=>hc ⟨by omega,(zw5 (b:=58)).1 hh⟩))));exact jn rfl (xaq (by rfl));refine xaz ?_;refine tv ?_;refine sq ?_ ?_<;>intro h2 h2p h2s;exact absurd h2 (by simp);refine wc zf3 (zcg (s:=s) (c:=40) (by first|omega|(simp;omega))) rfl rfl ?_;refine ev ?_;refine xaU (i:=0) sl99 .none rfl rfl rfl rfl (zat (by omega)) rfl ?_;refine ev ?_;refine so ty9 ?_;refine tv ?_;refine xam ?_;refine xaA 10 [(49,.d (.bool (decide ((cutL 40 [] (s)).length<2\/(nth (cutL 40 [] (s)) 1).length=0))))] [40,41,42,43,44,45,46,47,48] ?_ ?_;refine ev ?_;refine sq ?_ ?_<;>intro h3 h3p h3s<;>(try simp only[Q,List.length_take] at h3p);exact jn rfl (xaq (by(refine(decide_eq_true ?_).symm;omega)));refine xaU (i:=1) sl99 (.some rfl rfl h3) rfl rfl rfl rfl (zat (by omega)) rfl ?_;refine evs [] [(43,false)] ?_ ⟨⟨_,rfl,h3⟩,trivial⟩;exact jn rfl (xaq (by(refine decide_eq_decide.2 ?_;omega)));refine xaz ?_;refine tv ?_;refine sq ?_ ?_<;>intro h4 h4p h4s;refine so zcG ?_;refine tv ?_;refine rn0 (.cons (.cellA zcG rfl rfl rfl) .nil) (.agg (.cons (.eqd ?_) (.cons (.nild ?_) (.cons (.eqd ?_) .nil))));rotate_left 3;try simp only[Q,List.length_take] at h4p
  refine xaU (i:=1) sl99 .none rfl rfl rfl rfl (zat (by omega)) rfl ?_;refine evd [] [] ?_;refine xaU (i:=1) sl99 .none rfl rfl rfl rfl (zat (by omega)) rfl ?_;refine evd [] [] ?_;refine ar ?_;refine xaO (b:=(nth (cutL 40 [] (s)) 1).length-1) un9 .none rfl rfl rfl (by omega) (by omega) ?_;refine wc zf3 (zcg (s:=(nth (cutL 40 [] (s)) 1).take ((nth (cutL 40 [] (s)) 1).length-1)) (c:=44) (by simp;omega)) rfl rfl ?_;refine evd [] [] ?_;refine dr ?_;refine xao 3005 1 1 2 rfl rfl rfl rfl ?_;refine xak (ι:=Nat) hk (fun i=>[(8,.d (.i (i:Int)))]) [61,62,63,64,65,66,67,68,69,70,71,72,73,74,75,76,77,78,79,80,81] (fun i=>[(3005,some (.box [.d (.str (nth (cutL 40 [] (s)) 0)),.gl 1 (((((cutL 44 [] ((nth (cutL 40 [] (s)) 1).take ((nth (cutL 40 [] (s)) 1).length-1))).map (ze8 names)).take i)).map Ty.c),.d (.i (0))])),(1,some (.tok (((((cutL 44 [] ((nth (cutL 40 [] (s)) 1).take ((nth (cutL 40 [] (s)) 1).length-1))).map (ze8 names)).take i)).map Ty.c).length 2))]) (fun i=>i<=4/\i<=(cutL 44 [] ((nth (cutL 40 [] (s)) 1).take ((nth (cutL 40 [] (s)) 1).length-1))).length) (fun i=>4-i) 0 ⟨by omega,by omega⟩ ⟨⟨_,rfl,xar ?_⟩,trivial⟩ ⟨?_,⟨zaa ?_,trivial⟩⟩ (fun x=>rfl) (fun i hg1=>?_);focus (rfl)
  focus (rfl)
  focus (rfl)
  refine evc [] [2,7] ?_;refine sq ?_ ?_<;>intro h5 h5p h5s<;>(try simp only[Q,List.length_take] at h5p);refine sq ?_ ?_<;>intro h6 h6p h6s<;>(try simp only[Q,List.length_take] at h6p);refine xaU sl99 .none rfl rfl rfl rfl (zat (by omega)) rfl ?_;refine evd [] [] ?_;refine wc zsg (zfB (names:=names) (s:=nth (cutL 44 [] ((nth (cutL 40 [] (s)) 1).take ((nth (cutL 40 [] (s)) 1).length-1))) i) hn (by have:=zd9 (c:=44) (s:=(nth (cutL 40 [] (s)) 1).take ((nth (cutL 40 [] (s)) 1).length-1)) (i:=i) (by omega);simp at this;omega)) rfl rfl ?_;refine si [0] [_] zaT tz25 ?_;refine ap zaT zz25 rfl rfl rfl (by simp) (by simp;omega) ?_;refine evd [] [] ?_;refine so zmV ?_;refine dr ?_;refine ar ?_;refine xah (i+1) ⟨⟨by omega,by omega⟩,(by omega),sx ⟨⟨_,rfl,xar ?_⟩,trivial⟩ ⟨?_,⟨zaa ?_,trivial⟩⟩⟩;focus (rfl)
  focus ((show some (Res.box _)=some (Res.box _);rw[zgo (by omega)];simp;done))
  focus ((simp;omega))
  refine so zcG ?_;refine tv ?_;refine rn0 (.cons (.cellA zcG rfl rfl rfl) .nil) (.agg (.cons (.eqd ?_) (.cons (.gld ?_) (.cons (.eqd ?_) .nil))));rotate_left 3;refine sqF ?_;refine so zcG ?_;refine tv ?_;refine rn0 (.cons (.cellA zcG rfl rfl rfl) .nil) (.agg (.cons (.eqd ?_) (.cons (.gld ?_) (.cons (.eqd ?_) .nil))));rotate_left 3;all_goals (unfold zcq;rw[if_neg hc];first|rfl|(unfold zg3;dsimp only;by_cases hq:(cutL 40 [] (s)).length<2\/(nth (cutL 40 [] (s)) 1).length=0;all_goals first|(exfalso;exact(of_decide_eq_false h4) hq)|(exfalso;exact hq (of_decide_eq_true h4))|(rw[if_pos hq];done)|(rw[if_pos hq];rfl)|(rw[if_neg hq,<-List.map_take,zor (by omega)];done)))
def decV (n:Int):Str:=strN [IntKind.u8.wrap (48+n)]
theorem zk3 (n:Int):(decV n).length=1:=rfl
def zjD (n:Int):Str:=if n=0 then [] else if n = -1 then [42] else decV n
theorem zma (n:Int):(zjD n).length<=1:=by unfold zjD;split;simp;split;simp;rw[zk3];omega
def zgf (w:List Data) (t:Ty):Str:=if t.data = -1 then [73] else (nth w t.data.toNat).name++zjD t.index
def zde (w:List Data):Bool->List Ty->Str
 |_,[]=>[]
 |b,t::r=>((if b then [40] else [44])++zgf w t)++zde w false r
def zcc (w:List Data) (c:Ctor):Str:=
 let o:=c.name++zde w true c.args
 let p:=if 0<c.args.length then o++[41] else o
 if 0<c.index then (p++[58])++decV c.index else p
def zbT (w:List Data):Bool->List Ctor->Str
 |_,[]=>[]
 |b,c::r=>((if b then [] else [124])++zcc w c)++zbT w false r
def zh0 (w:List Data):Bool->List Data->Str
 |_,[]=>[]
 |b,d::r=>((if b then [] else [59])++(d.name++[61])++zbT w true d.ctors)++zh0 w false r
def zfc (w:List Data):Str:=zh0 w true w
structure TB (w:List Data):Prop where
 len:w.length<=4
 dn:∀d∈w,d.name.length<=1/\d.ctors.length<=4
 cn:∀d∈w,∀c∈d.ctors,c.name.length<=5/\c.args.length<=3/\0<=c.index/\c.index<=3
 ar:∀d∈w,∀c∈d.ctors,∀t∈c.args,(t.data = -1\/(0<=t.data/\t.data.toNat<w.length))/\ -1<=t.index/\t.index<=3
theorem zuf {w:List Data} (hv:za1 w=true):TB w:=by
 have hW:=(zci w).1 hv;refine⟨hW.len,fun d hd=>?_,fun d hd c hc=>?_,fun d hd c hc t ht=>?_⟩
 ·have h:=hW.data d hd;have h1:=h.1;simp only[zbf,xad,decide_eq_true_eq] at h1;omega
 ·have h:=hW.ctor d hd c hc;simp only[zbx,zc7,zar,xad,decide_eq_true_eq] at h;omega
 ·have h:=hW.ctor d hd c hc;simp only[zbx,xad,Bool.not_eq_true',List.any_eq_false] at h;have hax:zbF w.length t=true:=by
   have:=h.2.2.2 t ht;cases h:zbF w.length t with
   |true=>rfl
   |false=>rw[h] at this;exact absurd rfl this
  simp only[zbF,zar,Bool.or_eq_true,xad,decide_eq_true_eq,and_true] at hax;omega
theorem zgP {w:List Data} (hb:TB w){t:Ty} (ht:t.data = -1\/(0<=t.data/\t.data.toNat<w.length)):(zgf w t).length<=2:=by
 unfold zgf;split
 ·simp
 ·rename_i h;have h1:=(hb.dn _ (zah (l:=w) (i:=t.data.toNat) (by omega))).1;have h2:=zma t.index;simp only[xaa];omega
theorem zgZ {w:List Data} (hb:TB w):∀(l:List Ty) (b:Bool),(∀t∈l,t.data = -1\/(0<=t.data/\t.data.toNat<w.length))->(zde w b l).length<=3*l.length
 | [],_,_=>by simp[zde]
 |t::r,b,h=>by
  have h1:=zgP hb (h t (by simp));have h2:=zgZ hb r false (fun x hx=>h x (by simp[hx]));simp only[zde,xaa,xab];have h3:(if b=true then [(40:UInt8)] else [44]).length=1:=by split<;>rfl
  omega
theorem zpl {w:List Data} (hb:TB w){c:Ctor} (h1:c.name.length<=5/\c.args.length<=3) (h2:∀t∈c.args,t.data = -1\/(0<=t.data/\t.data.toNat<w.length)):(zcc w c).length<=20:=by
 have h3:=zgZ hb c.args true h2;unfold zcc;dsimp only;have h4:=zk3 c.index;split<;>split<;>simp only[xaa,xab,xai]<;>omega
theorem zkM {w:List Data}:∀(l:List Ctor) (b:Bool),(∀c∈l,(zcc w c).length<=20)->(zbT w b l).length<=21*l.length
 | [],_,_=>by simp[zbT]
 |c::r,b,h=>by
  have h1:=h c (by simp);have h2:=zkM r false (fun x hx=>h x (by simp[hx]));simp only[zbT,xaa,xab];have h3:(if b=true then ([]:Str) else [124]).length<=1:=by split<;>simp
  omega
theorem zfT {n:Int} (h0:0<=n) (h9:n<=9):FnD Tryz.prog 215 [.d (.i n)] [] (.d (.str (decV n))) []:=by
 refine bd Tryz.f215 31 [30] [] fun w0 F0 own kept hk=>?_;refine sq ?_ ?_<;>intro h1 h1p h1s<;>(try simp only[Q] at h1p);exfalso;omega;refine sq ?_ ?_<;>intro h2 h2p h2s<;>(try simp only[Q] at h2p);exfalso;omega;refine xak (ι:=Unit) hk (fun x=>[(0,.d (.i n)),(3,.d (.str []))]) [12,13,14,15,16,17,18,19,20,21,22,23] (fun x=>[]) (fun x=>True) (fun x=>0) () trivial ⟨⟨_,rfl,xar ?_⟩,⟨⟨_,rfl,xas ?_⟩,trivial⟩⟩ trivial (fun x=>rfl) (fun x hg1=>?_);iterate 2 focus (first|rfl|omega)
 refine evc [30] [] ?_;refine sq ?_ ?_<;>intro h3 h3p h3s<;>(try simp only[Q] at h3p);exfalso;omega;refine ar ?_;refine xaN (by rw[un3];rfl) un5 .none rfl rfl ?_;refine si [0] [_] sl22 tz5 ?_;refine Walk.bytesStr sl22 un9 (by kernel_rfl) .none rfl rfl rfl (by first|rfl|exact zog _) ?_;refine evs [30] [] ?_;refine xaL .none rfl rfl rfl (by simp[strN]) ?_;refine evs [30] [] ?_;refine rq ?_;rotate_left;all_goals (rfl)
theorem zmG {n:Int} (h0 : -1<=n) (h9:n<=9):FnD Tryz.prog 228 [.d (.i n)] [] (.d (.str (zjD n))) []:=by
 refine bd Tryz.f228 10 [] [] fun w0 F0 own kept hk=>?_;refine sq ?_ ?_<;>intro h1 h1p h1s<;>(try simp only[Q] at h1p);refine rq ?_;rotate_left;refine sq ?_ ?_<;>intro h2 h2p h2s<;>(try simp only[Q] at h2p);refine rq ?_;rotate_left;refine wc zph (zfT (by omega) (by omega)) rfl rfl ?_;refine ev ?_;refine rq ?_;rotate_left;all_goals (refine congrArg D.str ?_;unfold zjD;first|(rw[if_pos (by omega)];done)|(rw[if_neg (by omega),if_pos (by omega)];done)|(rw[if_neg (by omega),if_neg (by omega)];done)|(rw[if_pos (by omega)];rfl))
theorem zif {w:List Data} (hb:TB w){a k:Int} (ha:a = -1\/(0<=a/\a.toNat<w.length)) (hk : -1<=k/\k<=3):FnD Tryz.prog 214 [.d (zan w),.agg [.d (.i a),.d (.i k)]] [] (.d (.str (zgf w ⟨a,k⟩))) []:=by
 have hl:=zma k;have hdn:a≠ -1->(nth w a.toNat).name.length<=1:=fun h=>(hb.dn _ (zah (l:=w) (i:=a.toNat) (by omega))).1;refine bd Tryz.f214 18 [17] [] fun w0 F0 own kept hk=>?_;refine bx 3003 ?_;refine evs [17] [] ?_;refine sq ?_ ?_<;>intro h1 h1p h1s<;>(try simp only[Q] at h1p);refine rq ?_;rotate_left;refine xaU (i:=a.toNat) sl23 .none rfl rfl rfl (by omega) (zat (by omega)) rfl ?_;refine evd [17] [] ?_;refine wc zwk (zmG (by omega) (by omega)) rfl rfl ?_;refine xaL .none rfl rfl rfl (by have:=hdn h1p;omega) ?_;refine evd [17] [] ?_;refine dr ?_;refine rq ?_;rotate_left;all_goals (refine congrArg D.str ?_;unfold zgf;first|(rw[if_pos (by assumption)];done)|(rw[if_neg (by assumption)];done))
theorem zda {w:List Data} (hb:TB w){s:Str}{l:List Ty}{k:Int} (hs:s.length<=5) (hl:l.length<=3) (hk:0<=k/\k<=3)
  (hl2:∀t∈l,(t.data = -1\/(0<=t.data/\t.data.toNat<w.length))/\ -1<=t.index/\t.index<=3):
  FnD Tryz.prog 177 [.d (zan w),.agg [.d (.str s),.d (zb9 l),.d (.i k)]] [] (.d (.str (zcc w ⟨s,l,k⟩))) []:=by
 have hall:=zgZ hb l true (fun t ht=>(hl2 t ht).1);have hdl:=zk3 k;refine bd Tryz.f177 47 [19,21,30,36,41,45] [] fun w0 F0 own kept hk=>?_;refine bx 3003 ?_;refine evs [19,21,30,36,41,45] [] ?_;refine xak (ι:=List (Ty)×List (Ty)×(Str)) hk (fun x=>[(6,.d (.i (x.1.length:Int))),(5,.d (.str x.2.2))]) [9,10,11,12,13,14,15,16,17,18,19,20,21,22,23,24,25,26,27,28,29,30] (fun x=>[]) (fun x=>x.1++x.2.1=l/\x.2.2.length<=5+3*x.1.length/\x.2.2++zde w (decide (x.1.length=0)) x.2.1=s++zde w true l) (fun x=>x.2.1.length) ([],l,s) ⟨by simp,by simp;omega,by simp⟩ ⟨⟨_,rfl,xar ?_⟩,⟨⟨_,rfl,xas ?_⟩,trivial⟩⟩ trivial (fun x=>rfl) (fun x hg1=>?_);iterate 2 focus (first|rfl|(dsimp only;rw[if_pos (by omega),List.append_assoc];done))
 obtain⟨pre,rest,o⟩:=x;dsimp only at hg1 ⊢;refine evc [19,21,30,36,41,45] [] ?_;refine sq ?_ ?_<;>intro h1 h1p h1s<;>(try simp only[Q] at h1p);rcases rest with _|⟨y,rest⟩
 ·exfalso;simp_all
 have hq:(zgf w ⟨y.data,y.index⟩).length<=2:=zgP hb (hl2 y (by rw[<-hg1.1];simp)).1;refine sq ?_ ?_<;>intro h2 h2p h2s<;>(try simp only[Q] at h2p);refine xaL .none rfl rfl rfl (by have hz:=congrArg List.length hg1.1;simp only[xaa,xab,xai] at hz ⊢;omega) ?_;refine evs [19,21,30,36,41,45] [] ?_;refine xaU zaT .none rfl rfl rfl rfl (zaE hg1.1) rfl ?_;refine evs [19,21,30,36,41,45] [] ?_;refine wc zsp (zif hb (a:=y.data) (k:=y.index) (hl2 y (by rw[<-hg1.1];simp)).1 (hl2 y (by rw[<-hg1.1];simp)).2) rfl rfl ?_;refine xaL .none rfl rfl rfl (by have hz:=congrArg List.length hg1.1;simp only[xaa,xab,xai] at hz ⊢;omega) ?_;refine evs [19,21,30,36,41,45] [] ?_;refine ar ?_;refine xah ((pre++[y],rest,o++((if pre.length=0 then [40] else [44])++zgf w y))) ⟨⟨(by have hz:=hg1.1;rw[<-hz];simp),⟨(by have hq:=zgP hb (hl2 y (by rw[<-hg1.1];simp)).1;have h3:(if pre.length=0 then [(40:UInt8)] else [44]).length=1:=(by split<;>rfl);simp only[xaa,xab,xai];omega),(by rw[<-hg1.2.2];simp[zde])⟩⟩,(by simp),sx ⟨⟨_,rfl,xar ?_⟩,⟨⟨_,rfl,xas ?_⟩,trivial⟩⟩ trivial⟩;iterate 2 focus (first|(simp;done)|(dsimp only;rw[if_pos (by omega),List.append_assoc];done))
 refine xaL .none rfl rfl rfl (by have hz:=congrArg List.length hg1.1;simp only[xaa,xab,xai] at hz ⊢;omega) ?_;refine evs [19,21,30,36,41,45] [] ?_;refine xaU zaT .none rfl rfl rfl rfl (zaE hg1.1) rfl ?_;refine evs [19,21,30,36,41,45] [] ?_;refine wc zsp (zif hb (a:=y.data) (k:=y.index) (hl2 y (by rw[<-hg1.1];simp)).1 (hl2 y (by rw[<-hg1.1];simp)).2) rfl rfl ?_;refine xaL .none rfl rfl rfl (by have hz:=congrArg List.length hg1.1;simp only[xaa,xab,xai] at hz ⊢;omega) ?_;refine evs [19,21,30,36,41,45] [] ?_;refine ar ?_;refine xah ((pre++[y],rest,o++((if pre.length=0 then [40] else [44])++zgf w y))) ⟨⟨(by have hz:=hg1.1;rw[<-hz];simp),⟨(by have hq:=zgP hb (hl2 y (by rw[<-hg1.1];simp)).1;have h3:(if pre.length=0 then [(40:UInt8)] else [44]).length=1:=(by split<;>rfl);simp only[xaa,xab,xai];omega),(by rw[<-hg1.2.2];simp[zde])⟩⟩,(by simp),sx ⟨⟨_,rfl,xar ?_⟩,⟨⟨_,rfl,xas ?_⟩,trivial⟩⟩ trivial⟩;iterate 2 focus (first|(simp;done)|(dsimp only;rw[if_pos (by omega),List.append_assoc];done)|(dsimp only;rw[if_neg (by omega),List.append_assoc];done))
 have hrest:rest=[]:=by
  rcases rest with _|⟨a,b⟩
  ·rfl
  ·exfalso;have hz:=congrArg List.length (hg1.1);simp only[xaa,xab,xac] at hz;omega
 subst hrest;refine sq ?_ ?_<;>intro h3 h3p h3s<;>(try simp only[Q] at h3p);refine xaL .none rfl rfl rfl (by have hz:=congrArg List.length hg1.1;simp only[xaa,xab,xai] at hz ⊢;omega) ?_;refine evs [19,21,30,36,41,45] [] ?_;refine sq ?_ ?_<;>intro h4 h4p h4s<;>(try simp only[Q] at h4p);refine xaL .none rfl rfl rfl (by have hz:=congrArg List.length hg1.1;simp only[xaa,xab,xai] at hz ⊢;omega) ?_;refine evs [19,21,30,36,41,45] [] ?_;refine wc zph (zfT (by omega) (by omega)) rfl rfl ?_;refine xaL .none rfl rfl rfl (by have hz:=congrArg List.length hg1.1;simp only[xaa,xab,xai] at hz ⊢;omega) ?_;refine evs [19,21,30,36,41,45] [] ?_;refine rq ?_;rotate_left;refine rq ?_;rotate_left;refine sq ?_ ?_<;>intro h5 h5p h5s<;>(try simp only[Q] at h5p);refine xaL .none rfl rfl rfl (by have hz:=congrArg List.length hg1.1;simp only[xaa,xab,xai] at hz ⊢;omega) ?_;refine evs [19,21,30,36,41,45] [] ?_;refine wc zph (zfT (by omega) (by omega)) rfl rfl ?_;refine xaL .none rfl rfl rfl (by have hz:=congrArg List.length hg1.1;simp only[xaa,xab,xai] at hz ⊢;omega) ?_;refine evs [19,21,30,36,41,45] [] ?_;refine rq ?_;rotate_left;refine rq ?_;rotate_left;all_goals (refine congrArg D.str ?_;have hfin:=hg1.2.2;simp only[zde,List.append_nil] at hfin;unfold zcc;dsimp only;rw[<-hfin];first|(rw[if_pos (by omega),if_pos (by simp at *;omega)];done)|(rw[if_pos (by omega),if_neg (by simp at *;omega)];done)|(rw[if_neg (by omega),if_pos (by simp at *;omega)];done)|(rw[if_neg (by omega),if_neg (by simp at *;omega)];done))
theorem znC {w:List Data} (hb:TB w):FnD Tryz.prog 123 [.d (zan w)] [] (.d (.str (zfc w))) []:=by
 have hwl:=hb.len;have hct:∀d∈w,∀c∈d.ctors,(zcc w c).length<=20:=fun d hd c hc=>zpl hb ⟨(hb.cn d hd c hc).1,(hb.cn d hd c hc).2.1⟩ (fun t ht=>(hb.ar d hd c hc t ht).1);refine bd Tryz.f123 51 [15,22,23,37,49] [] fun w0 F0 own kept hk=>?_;refine xak (ι:=List (Data)×List (Data)×(Str)) hk (fun x=>[(4,.d (.i (x.1.length:Int))),(3,.d (.str x.2.2))]) [5,6,7,8,9,10,11,12,13,14,15,16,17,18,19,20,21,22,23,24,25,26,27,28,29,30,31,32,33,34,35,36,37,38,39,40,41,42,43,44,45,46,47,48,49] (fun x=>[]) (fun x=>x.1++x.2.1=w/\x.2.2.length<=100*x.1.length/\x.2.2++zh0 w (decide (x.1.length=0)) x.2.1=zfc w) (fun x=>x.2.1.length) ([],w,[]) ⟨by simp,by simp,by simp[zfc]⟩ ⟨⟨_,rfl,xar ?_⟩,⟨⟨_,rfl,xas ?_⟩,trivial⟩⟩ trivial (fun x=>rfl) (fun x hg1=>?_);iterate 2 focus (first|rfl|(rw[hfin];simp;done))
 obtain⟨pre,rest,o⟩:=x;dsimp only at hg1 ⊢;refine evc [15,22,23,37,49] [] ?_;refine sq ?_ ?_<;>intro h1 h1p h1s<;>(try simp only[Q] at h1p);rcases rest with _|⟨y,rest⟩
 ·exfalso;simp_all
 have hym:y∈w:=(by rw[<-hg1.1];simp);have hyd:=hb.dn y hym;have hpl:pre.length<4:=(by omega);have hcl:=zkM (w:=w) y.ctors true (hct y hym);refine sq ?_ ?_<;>intro h2 h2p h2s<;>(try simp only[Q] at h2p);refine xaL .none rfl rfl rfl (by(try simp only[xaa,xab,xai]);omega) ?_;refine evs [15,22,23,37,49] [] ?_;refine xaU sl23 .none rfl rfl rfl rfl (zaE hg1.1) rfl ?_;refine evs [15,22,23,37,49] [] ?_;refine xaL .none rfl rfl rfl (by(try simp only[xaa,xab,xai]);omega) ?_;refine xaL .none rfl rfl rfl (by(try simp only[xaa,xab,xai]);omega) ?_;refine evs [15,22,23,37,49] [] ?_;refine xak (ι:=List (Ctor)×List (Ctor)×(Str)) hk (fun x=>[(5,.d (.i (x.1.length:Int))),(3,.d (.str x.2.2))]) [24,25,26,27,28,29,30,31,32,33,34,35,36,37,38,39,40,41,42,43,44,45,46,47,48,49] (fun x=>[]) (fun x=>x.1++x.2.1=y.ctors/\x.2.2.length<=100*pre.length+4+21*x.1.length/\x.2.2++zbT w (decide (x.1.length=0)) x.2.1=(o++((if pre.length=0 then [] else [59])++(y.name++[61])))++zbT w true y.ctors) (fun x=>x.2.1.length) ([],y.ctors,o++((if pre.length=0 then [] else [59])++(y.name++[61]))) ⟨by simp,(by have h3:(if pre.length=0 then ([]:Str) else [59]).length<=1:=(by split<;>simp);simp only[xaa,xab,xai];omega),by simp⟩ ⟨⟨_,rfl,xar ?_⟩,⟨⟨_,rfl,xas ?_⟩,trivial⟩⟩ trivial (fun x=>rfl) (fun x hg2=>?_);iterate 2 focus (first|rfl|(rw[if_neg (by omega)];simp;done))
 obtain⟨pre2,rest2,q⟩:=x;dsimp only at hg2 ⊢;refine evc [15,22,23,37,49] [] ?_;refine xaU sl23 .none rfl rfl rfl rfl (zaE hg1.1) rfl ?_;refine evs [15,22,23,37,49] [] ?_;refine sq ?_ ?_<;>intro h3 h3p h3s<;>(try simp only[Q] at h3p);rcases rest2 with _|⟨c,rest2⟩
 ·exfalso;simp_all
 have hcm:=hct y hym c (by rw[<-hg2.1];simp);have hce:(zcc w ⟨c.name,c.args,c.index⟩).length<=20:=hcm;have hp2:=congrArg List.length hg2.1;simp only[xaa,xab] at hp2;refine sq ?_ ?_<;>intro h4 h4p h4s<;>(try simp only[Q] at h4p);refine xaL .none rfl rfl rfl (by(try simp only[xaa,xab,xai]);omega) ?_;refine evs [15,22,23,37,49] [] ?_;refine xaU sl23 .none rfl rfl rfl rfl (zaE hg1.1) rfl ?_;refine evs [15,22,23,37,49] [] ?_;refine xaU zbC .none rfl rfl rfl rfl (zaE hg2.1) rfl ?_;refine evs [15,22,23,37,49] [] ?_;refine wc zlI (zda hb (s:=c.name) (l:=c.args) (k:=c.index) (hb.cn y hym c (by rw[<-hg2.1];simp)).1 (hb.cn y hym c (by rw[<-hg2.1];simp)).2.1 (hb.cn y hym c (by rw[<-hg2.1];simp)).2.2 (hb.ar y hym c (by rw[<-hg2.1];simp))) rfl rfl ?_;refine xaL .none rfl rfl rfl (by(try simp only[xaa,xab,xai]);omega) ?_;refine evs [15,22,23,37,49] [] ?_;refine ar ?_;refine xah ((pre2++[c],rest2,q++((if pre2.length=0 then [] else [124])++zcc w c))) ⟨⟨(by have hz:=hg2.1;rw[<-hz];simp),⟨(by have h3:(if pre2.length=0 then ([]:Str) else [124]).length<=1:=(by split<;>simp);simp only[xaa,xab,xai];omega),(by rw[<-hg2.2.2];simp[zbT])⟩⟩,(by simp),sx ⟨⟨_,rfl,xar ?_⟩,⟨⟨_,rfl,xas ?_⟩,trivial⟩⟩ trivial⟩;iterate 2 focus (first|rfl|(rw[if_neg (by omega)];simp;done))
 refine xaU sl23 .none rfl rfl rfl rfl (zaE hg1.1) rfl ?_;refine evs [15,22,23,37,49] [] ?_;refine xaU zbC .none rfl rfl rfl rfl (zaE hg2.1) rfl ?_;refine evs [15,22,23,37,49] [] ?_;refine wc zlI (zda hb (s:=c.name) (l:=c.args) (k:=c.index) (hb.cn y hym c (by rw[<-hg2.1];simp)).1 (hb.cn y hym c (by rw[<-hg2.1];simp)).2.1 (hb.cn y hym c (by rw[<-hg2.1];simp)).2.2 (hb.ar y hym c (by rw[<-hg2.1];simp))) rfl rfl ?_;refine xaL .none rfl rfl rfl (by(try simp only[xaa,xab,xai]);omega) ?_;refine evs [15,22,23,37,49] [] ?_;refine ar ?_;refine xah ((pre2++[c],rest2,q++((if pre2.length=0 then [] else [124])++zcc w c))) ⟨⟨(by have hz:=hg2.1;rw[<-hz];simp),⟨(by have h3:(if pre2.length=0 then ([]:Str) else [124]).length<=1:=(by split<;>simp);simp only[xaa,xab,xai];omega),(by rw[<-hg2.2.2];simp[zbT])⟩⟩,(by simp),sx ⟨⟨_,rfl,xar ?_⟩,⟨⟨_,rfl,xas ?_⟩,trivial⟩⟩ trivial⟩;iterate 2 focus (first|rfl|(rw[if_neg (by omega)];simp;done)|(rw[if_pos (by omega)];simp;done))
 have hrest2:rest2=[]:=by
  rcases rest2 with _|⟨a,b⟩
  ·rfl
  ·exfalso;have hz:=congrArg List.length (hg2.1);simp only[xaa,xab,xac] at hz;omega
 subst hrest2;refine ar ?_;have hfin:=hg2.2.2;simp only[zbT,List.append_nil] at hfin;refine xah ((pre++[y],rest,o++((if pre.length=0 then [] else [59])++(y.name++[61])++zbT w true y.ctors))) ⟨⟨(by have hz:=hg1.1;rw[<-hz];simp),⟨(by have h3:(if pre.length=0 then ([]:Str) else [59]).length<=1:=(by split<;>simp);simp only[xaa,xab,xai];omega),(by rw[<-hg1.2.2];simp[zh0])⟩⟩,(by simp),sx ⟨⟨_,rfl,xar ?_⟩,⟨⟨_,rfl,xas ?_⟩,trivial⟩⟩ trivial⟩;iterate 2 focus (first|rfl|(simp;done)|(rw[hfin];simp;done))
 refine xaU sl23 .none rfl rfl rfl rfl (zaE hg1.1) rfl ?_;refine evs [15,22,23,37,49] [] ?_;refine xaL .none rfl rfl rfl (by(try simp only[xaa,xab,xai]);omega) ?_;refine xaL .none rfl rfl rfl (by(try simp only[xaa,xab,xai]);omega) ?_;refine evs [15,22,23,37,49] [] ?_;refine xak (ι:=List (Ctor)×List (Ctor)×(Str)) hk (fun x=>[(5,.d (.i (x.1.length:Int))),(3,.d (.str x.2.2))]) [24,25,26,27,28,29,30,31,32,33,34,35,36,37,38,39,40,41,42,43,44,45,46,47,48,49] (fun x=>[]) (fun x=>x.1++x.2.1=y.ctors/\x.2.2.length<=100*pre.length+4+21*x.1.length/\x.2.2++zbT w (decide (x.1.length=0)) x.2.1=(o++((if pre.length=0 then [] else [59])++(y.name++[61])))++zbT w true y.ctors) (fun x=>x.2.1.length) ([],y.ctors,o++((if pre.length=0 then [] else [59])++(y.name++[61]))) ⟨by simp,(by have h3:(if pre.length=0 then ([]:Str) else [59]).length<=1:=(by split<;>simp);simp only[xaa,xab,xai];omega),by simp⟩ ⟨⟨_,rfl,xar ?_⟩,⟨⟨_,rfl,xas ?_⟩,trivial⟩⟩ trivial (fun x=>rfl) (fun x hg2=>?_);iterate 2 focus (first|rfl|(rw[if_neg (by omega)];simp;done)|(rw[if_pos (by omega)];simp;done))
 obtain⟨pre2,rest2,q⟩:=x;dsimp only at hg2 ⊢;refine evc [15,22,23,37,49] [] ?_;refine xaU sl23 .none rfl rfl rfl rfl (zaE hg1.1) rfl ?_;refine evs [15,22,23,37,49] [] ?_;refine sq ?_ ?_<;>intro h5 h5p h5s<;>(try simp only[Q] at h5p);rcases rest2 with _|⟨c,rest2⟩
 ·exfalso;simp_all
 have hcm:=hct y hym c (by rw[<-hg2.1];simp);have hce:(zcc w ⟨c.name,c.args,c.index⟩).length<=20:=hcm;have hp2:=congrArg List.length hg2.1;simp only[xaa,xab] at hp2;refine sq ?_ ?_<;>intro h6 h6p h6s<;>(try simp only[Q] at h6p);refine xaL .none rfl rfl rfl (by(try simp only[xaa,xab,xai]);omega) ?_;refine evs [15,22,23,37,49] [] ?_;refine xaU sl23 .none rfl rfl rfl rfl (zaE hg1.1) rfl ?_;refine evs [15,22,23,37,49] [] ?_;refine xaU zbC .none rfl rfl rfl rfl (zaE hg2.1) rfl ?_;refine evs [15,22,23,37,49] [] ?_;refine wc zlI (zda hb (s:=c.name) (l:=c.args) (k:=c.index) (hb.cn y hym c (by rw[<-hg2.1];simp)).1 (hb.cn y hym c (by rw[<-hg2.1];simp)).2.1 (hb.cn y hym c (by rw[<-hg2.1];simp)).2.2 (hb.ar y hym c (by rw[<-hg2.1];simp))) rfl rfl ?_;refine xaL .none rfl rfl rfl (by(try simp only[xaa,xab,xai]);omega) ?_;refine evs [15,22,23,37,49] [] ?_;refine ar ?_;refine xah ((pre2++[c],rest2,q++((if pre2.length=0 then [] else [124])++zcc w c))) ⟨⟨(by have hz:=hg2.1;rw[<-hz];simp),⟨(by have h3:(if pre2.length=0 then ([]:Str) else [124]).length<=1:=(by split<;>simp);simp only[xaa,xab,xai];omega),(by rw[<-hg2.2.2];simp[zbT])⟩⟩,(by simp),sx ⟨⟨_,rfl,xar ?_⟩,⟨⟨_,rfl,xas ?_⟩,trivial⟩⟩ trivial⟩;iterate 2 focus (first|rfl|(rw[if_neg (by omega)];simp;done))
 refine xaU sl23 .none rfl rfl rfl rfl (zaE hg1.1) rfl ?_;refine evs [15,22,23,37,49] [] ?_;refine xaU zbC .none rfl rfl rfl rfl (zaE hg2.1) rfl ?_;refine evs [15,22,23,37,49] [] ?_;refine wc zlI (zda hb (s:=c.name) (l:=c.args) (k:=c.index) (hb.cn y hym c (by rw[<-hg2.1];simp)).1 (hb.cn y hym c (by rw[<-hg2.1];simp)).2.1 (hb.cn y hym c (by rw[<-hg2.1];simp)).2.2 (hb.ar y hym c (by rw[<-hg2.1];simp))) rfl rfl ?_;refine xaL .none rfl rfl rfl (by(try simp only[xaa,xab,xai]);omega) ?_;refine evs [15,22,23,37,49] [] ?_;refine ar ?_;refine xah ((pre2++[c],rest2,q++((if pre2.length=0 then [] else [124])++zcc w c))) ⟨⟨(by have hz:=hg2.1;rw[<-hz];simp),⟨(by have h3:(if pre2.length=0 then ([]:Str) else [124]).length<=1:=(by split<;>simp);simp only[xaa,xab,xai];omega),(by rw[<-hg2.2.2];simp[zbT])⟩⟩,(by simp),sx ⟨⟨_,rfl,xar ?_⟩,⟨⟨_,rfl,xas ?_⟩,trivial⟩⟩ trivial⟩;iterate 2 focus (first|rfl|(rw[if_neg (by omega)];simp;done)|(rw[if_pos (by omega)];simp;done))
 have hrest2:rest2=[]:=by
  rcases rest2 with _|⟨a,b⟩
  ·rfl
  ·exfalso;have hz:=congrArg List.length (hg2.1);simp only[xaa,xab,xac] at hz;omega
 subst hrest2;refine ar ?_;have hfin:=hg2.2.2;simp only[zbT,List.append_nil] at hfin;refine xah ((pre++[y],rest,o++((if pre.length=0 then [] else [59])++(y.name++[61])++zbT w true y.ctors))) ⟨⟨(by have hz:=hg1.1;rw[<-hz];simp),⟨(by have h3:(if pre.length=0 then ([]:Str) else [59]).length<=1:=(by split<;>simp);simp only[xaa,xab,xai];omega),(by rw[<-hg1.2.2];simp[zh0])⟩⟩,(by simp),sx ⟨⟨_,rfl,xar ?_⟩,⟨⟨_,rfl,xas ?_⟩,trivial⟩⟩ trivial⟩;iterate 2 focus (first|rfl|(simp;done)|(rw[hfin];simp;done))
 have hrest:rest=[]:=by
  rcases rest with _|⟨a,b⟩
  ·rfl
  ·exfalso;have hz:=congrArg List.length (hg1.1);simp only[xaa,xab,xac] at hz;omega
 subst hrest;refine rq ?_;rotate_left;all_goals (refine congrArg D.str ?_;have hfin:=hg1.2.2;simp only[zh0,List.append_nil] at hfin;exact hfin)
def pwL (s:Str):List Str:=cutL 59 [] s
def pwP (s:Str) (i:Nat):List Str:=cutL 61 [] (nth (pwL s) i)
def pwC (s:Str) (i:Nat):List Str:=cutL 124 [] (nth (pwP s i) 1)
def zbr (s:Str):Nat:=if s=[] then 0 else min (pwL s).length 5
def zcu (s:Str) (n:Nat):List Str:=(List.range n).map fun i=>nth (pwP s i) 0
def zjS (s:Str) (i:Nat):Data:=⟨nth (pwP s i) 0,((pwC s i).take 5).map (zcq (zcu s (zbr s)))⟩
def zcE (s:Str) (n:Nat):List Data:=(List.range n).map (zjS s)
def zhf (s:Str):Bool:=(List.range (zbr s)).all (fun i=>decide ((pwP s i).length=2))&&(za1 (zcE s (zbr s))&&decide (zfc (zcE s (zbr s))=s))
def zcQ (s:Str):List Data×Bool:=if zhf s then (zcE s (zbr s),true) else ([],false)
theorem zp0 (s:Str):zbr s<=(pwL s).length/\zbr s<=5:=by unfold zbr;split<;>omega
theorem zef {s:Str}{i:Nat}:i<zbr s↔(i<(pwL s).length/\i<=4)/\s≠[]:=by
 unfold zbr;split
 ·rename_i h;simp[h]
 ·rename_i h;simp only[h,ne_eq,not_false_eq_true,and_true];omega
theorem zaZ (s:Str) (n:Nat):(zcu s n).length=n:=by simp[zcu]
theorem zp1 (s:Str) (n:Nat):zcu s (n+1)=zcu s n++[nth (pwP s n) 0]:=by unfold zcu;rw[List.range_succ,xaf];rfl
theorem zms (s:Str) (n:Nat):zcE s (n+1)=zcE s n++[zjS s n]:=by unfold zcE;rw[List.range_succ,xaf];rfl
theorem zvl {s:Str}{n m:Nat} (h:m<n):((zcu s n).map fun n=>[D.str n])[m]?=some [D.str (nth (pwP s m) 0)]:=by
 simp[zcu,h]
theorem zq7 {s:Str}{i:Nat} (h:i<(pwL s).length):(nth (pwL s) i).length<=s.length:=zd9 h
theorem zkt {s:Str}{i j:Nat} (h:i<(pwL s).length) (hj:j<(pwP s i).length):(nth (pwP s i) j).length<=s.length:=Nat.le_trans (zd9 hj) (zq7 h)
theorem zvt {s:Str}{i k:Nat} (h:k<(pwC s i).length):(nth (pwC s i) k).length<=(nth (pwP s i) 1).length:=zd9 h
theorem zti {α:Type}{l:List α}{i:Nat} (h:i=5\/(i<=5/\l.length<=i)):l.take i=l.take 5:=by
 rcases h with rfl|⟨h1,h2⟩
 ·rfl
 ·rw[List.take_of_length_le h2,List.take_of_length_le (by omega)]
theorem zrL {c:UInt8}{s:Str}:(nth (cutL c [] s) 0).length<=s.length:=zd9 (zir c s [])
theorem zpV {names:List Str}{s:Str}:(zcq names s).name.length<=s.length/\(zcq names s).args.length<=4:=by
 have key:∀(ix:Int) (t:Str),(zg3 names ix t).name.length<=t.length/\(zg3 names ix t).args.length<=4:=by
  intro ix t;refine⟨zrL, ?_⟩;unfold zg3;dsimp only;split
  ·simp
  ·simp only[xac,List.length_take];omega
 unfold zcq;split
 ·have:=key (((nth s (s.length-1)).toNat:Int)-48) (s.take (s.length-2));rw[List.length_take] at this;omega
 ·exact key 0 s
theorem zs6 {s:Str} (hs:s.length<=1000000) (h2:∀j,j<zbr s->(pwP s j).length=2):WSmall (zcE s (zbr s)):=by
 have hl:=zp0 s;have hd:∀d∈zcE s (zbr s),∃i,i<zbr s/\d=zjS s i:=fun d hd=>by
  obtain⟨i,hi,rfl⟩:=List.mem_map.1 hd;exact⟨i,List.mem_range.1 hi,rfl⟩
 refine⟨by simp only[zcE,xac,List.length_range];omega,fun d hd'=>?_,fun d hd' c hc=>?_⟩
 ·obtain⟨i,hi,rfl⟩:=hd d hd';have:=zkt (s:=s) (i:=i) (j:=0) (by omega) (by rw[h2 i hi];omega);refine⟨?_, ?_⟩
  ·show(nth (pwP s i) 0).length<=_;omega
  ·simp only[zjS,xac,List.length_take];omega
 ·obtain⟨i,hi,rfl⟩:=hd d hd';obtain⟨t,ht,rfl⟩:=List.mem_map.1 hc;have h3:=zkt (s:=s) (i:=i) (j:=1) (by omega) (by rw[h2 i hi];omega);have h4:t.length<=(nth (pwP s i) 1).length:=by simpa using ziq 124 (nth (pwP s i) 1) [] t (List.mem_of_mem_take ht)
  have h5:=zpV (names:=zcu s (zbr s)) (s:=t);omega
theorem zwZ {s:Str} (hs:s.length<=1000000):FnD Tryz.prog 120 [.d (.str s),.d (.int .u8 59)] [] (.d (zeq (pwL s))) []:=zcg (s:=s) (c:=59) (by omega)
theorem zuw {s:Str}{i:Nat} (hs:s.length<=1000000) (h:i<(pwL s).length):FnD Tryz.prog 120 [.d (.str (nth (pwL s) i)),.d (.int .u8 61)] [] (.d (zeq (pwP s i))) []:=zcg (s:=nth (pwL s) i) (c:=61) (by have:=zq7 h;omega)
theorem zwY {s:Str}{i:Nat} (hs:s.length<=1000000) (h:i<(pwL s).length) (h2:(pwP s i).length=2):FnD Tryz.prog 120 [.d (.str (nth (pwP s i) 1)),.d (.int .u8 124)] [] (.d (zeq (pwC s i))) []:=
 zcg (s:=nth (pwP s i) 1) (c:=124) (by have:=zkt (j:=1) h (by omega);omega)
theorem zkF {w:List Data} (hs:WSmall w):FnD Tryz.prog 122 [.d (zan w)] [] (.d (.bool (za1 w))) []:=by
 rw[<-zgw];exact zgd hs
theorem zqV {s:Str} (h:zhf s=false):zcQ s=([],false):=by unfold zcQ;rw[if_neg (by rw[h];simp)]
theorem ztG {s:Str} (h:zhf s=true):zcQ s=(zcE s (zbr s),true):=by unfold zcQ;rw[if_pos h]
theorem ztF {s:Str}{i:Nat} (h:i<zbr s) (h2:¬(pwP s i).length=2):zhf s=false:=by
 unfold zhf;rw[zc1 h (by simpa using h2),Bool.false_and]
theorem zn1 {s:Str} (h:∀j,j<zbr s->(pwP s j).length=2):zhf s=(za1 (zcE s (zbr s))&&decide (zfc (zcE s (zbr s))=s)):=by
 unfold zhf;rw[zdt (fun i hi=>by simpa using h i hi),Bool.true_and]
theorem zgc {s:Str} (hs:s.length<=100000):FnD Tryz.prog 70 [.d (.str s)] [] (.tup [.d (zan (zcQ s).1),.d (.bool (zcQ s).2)]) []:=by
 have hl:=zp0 s;have hcl:(pwL s).length<=s.length+1:=zd8 59 s [];have hccl:∀i,(pwC s i).length<=(nth (pwP s i) 1).length+1:=fun i=>zd8 124 _ [];have hnl:=zaZ s;refine bd Tryz.f70 101 [] [5,17,21] fun w0 F0 own kept hk=>?_;refine xbi 1 sl23 .none rfl rfl ?_;refine ev ?_;refine xbi 2 sl99 .none rfl rfl ?_;refine ev ?_;refine wc zf3 (zwZ (s:=s) (by omega)) rfl rfl ?_;refine ev ?_;refine xak (ι:=Nat) hk (fun i=>[(7,.d (.i (i:Int))),(5,.gl 2 ((zcu s i).map fun n=>[D.str n]))]) [2,3,8,17,18,19,20,21,22,23,24,25,26,27,28,29,30,31,32,33,34,35,36,37,38,39,40,41,42,43,44,45] (fun i=>[(2,some (.tok (((zcu s i).map fun n=>[D.str n])).length 1))]) (fun i=>i<=zbr s/\∀j,j<i->(pwP s j).length=2) (fun i=>zbr s-i) 0 ⟨by omega,fun j h=>absurd h (by omega)⟩ ⟨⟨_,rfl,xar ?_⟩,⟨⟨_,rfl,LeA.glg ?_⟩,trivial⟩⟩ ⟨zaa ?_,trivial⟩ (fun x=>rfl) (fun i hg1=>?_);iterate 3 focus (rfl)
 refine evc [] [5,17,21] ?_;refine xam ?_;refine xaA 12 [(28,.d (.bool (decide (i<zbr s))))] [17,18,19,20,21,22,23,24,25,26,27] ?_ ?_;refine ev ?_;refine sq ?_ ?_<;>intro h1 h1p h1s<;>(try simp only[Q,zaZ] at h1p);refine sq ?_ ?_<;>intro h2 h2p h2s<;>(try simp only[Q,zaZ] at h2p);focus (exact jn rfl (xaq (by(rw[Bool.eq_iff_iff];simp_all[zef];omega))))
 focus (exact jn rfl (xaq (by(rw[Bool.eq_iff_iff];simp_all[zef];omega))))
 refine sqF ?_;focus (exact jn rfl (xaq (by(rw[Bool.eq_iff_iff];simp_all[zef];omega))))
 refine xaz ?_;refine tv ?_;refine sq ?_ ?_<;>intro h3 h3p h3s<;>(try simp only[Q,zaZ] at h3p);refine xaU sl99 .none rfl rfl rfl rfl (zat (by omega)) rfl ?_;refine ev ?_;refine wc zf3 (zuw (s:=s) (i:=i) (by omega) (by omega)) rfl rfl ?_;refine ev ?_;refine sq ?_ ?_<;>intro h4 h4p h4s<;>(try simp only[Q,zaZ] at h4p);refine xbh sl23 .none rfl ?_;refine ev ?_;refine rn0 (r2 rfl rfl) (.tup (.cons (.eqd ?_) (.cons (.eqd ?_) .nil)));rotate_left 2;refine xaU (i:=0) sl99 .none rfl rfl rfl rfl (zat (by omega)) rfl ?_;refine ev ?_;refine si [0] [_] sl99 tz9 ?_;refine ap sl99 zz9 rfl rfl rfl (by simp) (by simp[zaZ,zcE];omega) ?_;refine ev ?_;refine ar ?_;refine xah (i+1) ⟨⟨by omega,za7 hg1.2 (by omega)⟩,(by omega),sx ⟨⟨_,rfl,xar ?_⟩,⟨⟨_,rfl,LeA.glg ?_⟩,trivial⟩⟩ ⟨zaa ?_,trivial⟩⟩;iterate 3 focus (first|rfl|(rw[zp1];simp;done))
 obtain rfl:i=zbr s:=(by omega);refine xak (ι:=Nat) hk (fun m=>[(9,.d (.i (m:Int))),(4,.gl 1 ((zcE s m).map Data.c))]) [10,11,12,46,47,48,49,50,51,52,53,54,55,56,57,58,59,60,61,62,63,64,65,66,67,68,69,70,71,72,73,74,75,76,77,78,79,80,81,82,83,84,85,86,87,88,89] (fun m=>[(1,some (.tok (((zcE s m).map Data.c)).length 2))]) (fun m=>m<=zbr s) (fun m=>zbr s-m) 0 (by omega) ⟨⟨_,rfl,xar ?_⟩,⟨⟨_,rfl,LeA.glg ?_⟩,trivial⟩⟩ ⟨zaa ?_,trivial⟩ (fun x=>rfl) (fun m hg2=>?_);iterate 3 focus (rfl)
 refine evc [] [5,17,21] ?_;refine sq ?_ ?_<;>intro h5 h5p h5s<;>(try simp only[Q,zaZ] at h5p);refine xaU sl99 .none rfl rfl rfl rfl (zat (by omega)) rfl ?_;refine ev ?_;refine wc zf3 (zuw (s:=s) (i:=m) (by omega) (by omega)) rfl rfl ?_;refine xaU (i:=1) sl99 .none rfl rfl rfl rfl (zat (by(rw[hg1.2 m (by omega)];omega))) rfl ?_;refine ev ?_;refine wc zf3 (zwY (s:=s) (i:=m) (by omega) (by omega) (hg1.2 m (by omega))) rfl rfl ?_;refine ev ?_;refine xaX sl99 .none rfl rfl rfl rfl (zvl (by omega)) rfl ?_;refine ev ?_;refine bu [0] [_] zuO ?_;refine ab 3011 zky ?_;refine so zrX ?_;refine tv ?_;refine xao 3011 1 3 3 rfl rfl rfl rfl ?_;refine xak (ι:=Nat) hk (fun k=>[(12,.d (.i (k:Int)))]) [65,66,67,68,69,70,71,72,73,74,75,76,77,78,79,80,81,82,83,84,85] (fun k=>[(3011,some (.box [.d (.str (nth (pwP s m) 0)),.gl 3 ((((pwC s m).map (zcq (zcu s (zbr s)))).take k).map Ctor.c)])),(3,some (.tok ((((pwC s m).map (zcq (zcu s (zbr s)))).take k).map Ctor.c).length 3))]) (fun k=>k<=5/\k<=(pwC s m).length) (fun k=>5-k) 0 ⟨by omega,by omega⟩ ⟨⟨_,rfl,xar ?_⟩,trivial⟩ ⟨?_,⟨zaa ?_,trivial⟩⟩ (fun x=>rfl) (fun k hg3=>?_);focus (rfl)
 focus (rfl)
 focus (rfl)
 refine evc [] [5,17,21] ?_;refine xam ?_;refine xaA 8 [(72,.d (.bool (decide (k<(pwC s m).length/\k<=4))))] [65,66,67,68,69,70,71] ?_ ?_;refine ev ?_;refine sq ?_ ?_<;>intro h6 h6p h6s<;>(try simp only[Q,zaZ] at h6p);focus (exact jn rfl (xaq (by(rw[Bool.eq_iff_iff];simp_all[zef];omega))))
 focus (exact jn rfl (xaq (by(rw[Bool.eq_iff_iff];simp_all[zef];omega))))
 refine xaz ?_;refine tv ?_;refine sq ?_ ?_<;>intro h7 h7p h7s<;>(try simp only[Q,zaZ] at h7p);refine xaU sl99 .none rfl rfl rfl rfl (zat (by omega)) rfl ?_;refine evd [] [] ?_;refine Walk.call (cr:=[]) zvQ (zje (names:=zcu s (zbr s)) (s:=nth (pwC s m) k) (by rw[hnl];omega) (by have h1:=zkt (s:=s) (i:=m) (j:=1) (by omega) (by rw[hg1.2 m (by omega)];omega);have h2:=zvt (s:=s) (i:=m) (k:=k) (by omega);omega)) rfl .none rfl rfl (.cons (.gl _ _) (.cons (.refl _) .nil)) trivial rfl rfl rfl ?_;refine si [0] [_] zbC zfx ?_;refine ap zbC zuW rfl rfl rfl (by simp) (by simp[zaZ,zcE];omega) ?_;refine evd [] [] ?_;refine so zhN ?_;refine dr ?_;refine ar ?_;refine xah (k+1) ⟨⟨by omega,by omega⟩,(by omega),sx ⟨⟨_,rfl,xar ?_⟩,trivial⟩ ⟨?_,⟨zaa ?_,trivial⟩⟩⟩;focus (rfl)
 focus ((show some (Res.box _)=some (Res.box _);rw[zgo (by omega)];simp;done))
 focus ((simp;omega))
 refine si [0] [_] sl23 zky ?_;refine ap sl23 zr1 rfl rfl rfl (by simp) (by simp[zaZ,zcE];omega) ?_;refine ev ?_;refine ar ?_;refine xah (m+1) ⟨(by omega),(by omega),sx ⟨⟨_,rfl,xar ?_⟩,⟨⟨_,rfl,LeA.glg ?_⟩,trivial⟩⟩ ⟨zaa ?_,trivial⟩⟩;iterate 3 focus (first|rfl|(rw[zms];simp;done)|(rw[zms,xaf];simp only[xae,List.map_nil,zjS,Data.c];rw[<-List.map_take,zti (by omega)];done))
 obtain rfl:m=zbr s:=(by omega);refine xam ?_;refine xaA 9 [(98,.d (.bool (!(za1 (zcE s (zbr s))&&decide (zfc (zcE s (zbr s))=s)))))] [90,91,92,93,94,95,96,97] ?_ ?_;refine ev ?_;refine Walk.call (cr:=[]) zr7 (zkF (zs6 (by omega) hg1.2)) rfl .none rfl rfl (.cons (.gl _ _) .nil) trivial rfl rfl rfl ?_;refine ev ?_;refine sq ?_ ?_<;>intro h8 h8p h8s<;>(try simp only[Q,zaZ] at h8p);focus (exact jn rfl (xaq (by(rw[Bool.eq_iff_iff];simp_all[zef];done))))
 refine Walk.call (cr:=[]) zvR (znC (zuf (by assumption))) rfl (.some rfl rfl h8) rfl rfl (.cons (.gl _ _) .nil) trivial rfl rfl rfl ?_;refine evs [] [(93,false)] ?_ ⟨⟨_,rfl,h8⟩,trivial⟩;focus (exact jn rfl (xaq (by(rw[Bool.eq_iff_iff];simp_all[zef];done))))
 refine xaz ?_;refine tv ?_;refine sq ?_ ?_<;>intro h9 h9p h9s<;>(try simp only[Q,zaZ] at h9p);refine xbh sl23 .none rfl ?_;refine ev ?_;refine rn0 (r2 rfl rfl) (.tup (.cons (.eqd ?_) (.cons (.eqd ?_) .nil)));rotate_left 2;refine rn0 (r2 rfl rfl) (.tup (.cons (.gld ?_) (.cons (.eqd ?_) .nil)));rotate_left 2;all_goals (first|(have hq:=ztF (s:=s) (i:=i) h3p (fun h=>h4p (by omega));rw[zqV hq];all_goals rfl)|(have hr:=zn1 hg1.2;rw[h9s] at hr;rw[zqV hr];all_goals rfl)|(have hr:=zn1 hg1.2;rw[h9s] at hr;rw[ztG hr];all_goals rfl))
def zcT:List Str:=[[76,61,78,105,108,124,67,111,110,115,40,73,44,76,41],
 [66,61,84,114,117,124,70,108,115,59,84,61,76,101,97,102,124,78,111,100,101,40,84,44,66,44,84,41],
 [69,61,78,117,109,40,73,41,58,49,124,66,111,108,40,66,41,58,50,124,65,100,100,40,69,49,44,69,49,41,58,49,124,73,102,40,69,50,44,69,42,44,69,42,41,59,66,61,84,114,117,124,70,108,115],
 [79,61,78,111,110,124,83,111,109,40,73,41,59,80,61,80,97,105,114,40,79,44,79,41],
 [86,61,69,110,100,58,49,124,83,111,109,101,40,73,44,86,49,41,58,50,124,84,119,111,40,86,42,41],
 [78,61,78,101,118,101,114,40,78,41,59,66,61,84,114,117,124,70,108,115,124,77,97,121,40,78,41],
 [83,61,82,101,100,124,71,114,101,101,110,124,66,108,117,101,124,77,105,120,40,83,44,83,41],
 []]
theorem zgO:zcT.length=8:=rfl
theorem zqb:∀t∈zcT,t.length<=100:=by decide
theorem zmT {i:Nat} (h:i<8):(nth zcT i).length<=100:=zqb _ (zah h)
def za6 (b:Str) (p:Nat):List Data:=(zcQ (nth zcT (zal b p 7).toNat)).1
theorem zrO (b:Str) (p:Nat):(zal b p 7).toNat<7:=by have:=zbS (b:=b) (p:=p) (n:=7) (by omega);omega
def zd2 (b:Str) (p:Nat) (n:Int):Ty×Nat:=
 if zal b p 16=0 then (⟨numV b (p+1) [-1,-2,9,0],numV b (p+2) [0,1,-1,4]⟩,p+3)
 else if zal b (p+1) 8=0 then (⟨-1,0⟩,p+2)
 else (⟨zal b (p+2) n,numV b (p+3) [0,0,1,2,0,3]⟩,p+4)
theorem zt7 (b:Str) (p:Nat) (n:Int):(zd2 b p n).2<=p+4:=by
 unfold zd2;split
 ·dsimp only;omega
 ·split<;>dsimp only<;>omega
theorem zhH:FnD Tryz.prog 71 [] [] (.d (zeq zcT)) []:=by
 refine bd Tryz.f71 2 [] [] fun w0 F0 own kept hk=>?_;refine si [0,1,2,3,4,5,6,7] [_,_,_,_,_,_,_,_] sl99 tz9 ?_;refine ev ?_;refine rq ?_;rotate_left;all_goals (rfl)
theorem zmK {b:Str}{p:Nat} (hb:b.length<=2000) (hp:p<=1000000):
  FnD Tryz.prog 188 [.ref 900 0] [(900,some (rdB b p))] (.d (zan (za6 b p))) [(900,some (rdB b (p+1)))]:=by
 have h7:=zrO b p;have ht8:=zgO;have hv:=zbS (b:=b) (p:=p) (n:=7) (by omega);have hts:=zmT (i:=(zal b p 7).toNat) (by omega);refine bd Tryz.f188 20 [] [] fun w0 F0 own kept hk=>?_;refine wc zuq (zhH) rfl rfl ?_;refine ev ?_;refine ar ?_;refine wd zbB (zaI (n:=7) hb (by omega) (by omega)) rfl rfl ⟨rfl,trivial⟩ ?_;refine xaU (i:=(zal b p 7).toNat) sl99 .none rfl rfl rfl (by omega) (zat (by rw[zgO];omega)) rfl ?_;refine ev ?_;refine wc zup (zgc (s:=nth zcT (zal b p 7).toNat) (by omega)) rfl rfl ?_;refine ev ?_;refine rn [(900,some (rdB b (p+1)))] (r1 rfl) (.eqd ?_) ⟨rfl,rfl⟩ (SubO.get ⟨.inr ?_,⟨.inl rfl,trivial⟩⟩) (zax rfl);rotate_left 2;all_goals (first|((rfl);done)|(rfl))
theorem znB {b:Str}{p:Nat}{w:List Data} (hb:b.length<=2000) (hp:p<=1000000) (hw:w.length<=1000000000000):
  FnD Tryz.prog 126 [.ref 900 0,.d (zan w)] [(900,some (rdB b p))] (.agg [.d (.i (zd2 b p w.length).1.data),.d (.i (zd2 b p w.length).1.index)]) [(900,some (rdB b (zd2 b p w.length).2))]:=by
 have hlw:((w.map Data.c).length:Int)=w.length:=by simp
 refine bd Tryz.f126 27 [] [] fun w0 F0 own kept hk=>?_;refine ab 3004 tz25 ?_;refine tv ?_;refine wd zbB (zaI (p:=p) (n:=16) hb (by omega) (by omega)) rfl rfl ⟨rfl,trivial⟩ ?_;refine ev ?_;refine sq ?_ ?_<;>intro h1 h1p h1s<;>(try simp only[Q] at h1p);refine si [0,1,2,3] [_,_,_,_] sl62 tz3 ?_;refine wd zdX (zbs (p:=p+1) (l:=[-1,-2,9,0]) hb (by omega) (by simp) (by simp)) rfl rfl ⟨rfl,trivial⟩ ?_;refine ev ?_;refine si [0,1,2,3] [_,_,_,_] sl62 tz3 ?_;refine wd zdX (zbs (p:=p+2) (l:=[0,1,-1,4]) hb (by omega) (by simp) (by simp)) rfl rfl ⟨rfl,trivial⟩ ?_;refine bu [0,1] [_,_] st25 ?_;refine so ty25 ?_;refine tv ?_;refine rn [(900,some (rdB b (zd2 b p w.length).2))] (.cons (.cellA ty25 rfl rfl rfl) .nil) (.agg (.cons (.eqd ?_) (.cons (.eqd ?_) .nil))) ⟨rfl,rfl⟩ (SubO.get ⟨.inr ?_,⟨.inl rfl,trivial⟩⟩) (zax rfl);rotate_left 3;refine wd zbB (zaI (p:=p+1) (n:=8) hb (by omega) (by omega)) rfl rfl ⟨rfl,trivial⟩ ?_;refine ev ?_;refine sq ?_ ?_<;>intro h2 h2p h2s<;>(try simp only[Q] at h2p);refine bu [0] [_] st25 ?_;refine so ty25 ?_;refine tv ?_;refine rn [(900,some (rdB b (zd2 b p w.length).2))] (.cons (.cellA ty25 rfl rfl rfl) .nil) (.agg (.cons (.eqd ?_) (.cons (.eqd ?_) .nil))) ⟨rfl,rfl⟩ (SubO.get ⟨.inr ?_,⟨.inl rfl,trivial⟩⟩) (zax rfl);rotate_left 3;refine wd zbB (zaI (p:=p+2) (n:=((w.map Data.c).length:Int)) hb (by omega) (by omega)) rfl rfl ⟨rfl,trivial⟩ ?_;refine ev ?_;refine si [0,1,2,3,4,5] [_,_,_,_,_,_] sl62 tz3 ?_;refine wd zdX (zbs (p:=p+3) (l:=[0,0,1,2,0,3]) hb (by omega) (by simp) (by simp)) rfl rfl ⟨rfl,trivial⟩ ?_;refine bu [0,1] [_,_] st25 ?_;refine so ty25 ?_;refine tv ?_;refine rn [(900,some (rdB b (zd2 b p w.length).2))] (.cons (.cellA ty25 rfl rfl rfl) .nil) (.agg (.cons (.eqd ?_) (.cons (.eqd ?_) .nil))) ⟨rfl,rfl⟩ (SubO.get ⟨.inr ?_,⟨.inl rfl,trivial⟩⟩) (zax rfl);rotate_left 3;all_goals (first|((unfold zd2;first|(rw[if_pos h1p];all_goals rfl)|(rw[if_neg h1p,if_pos h2p];all_goals rfl)|(rw[if_neg h1p,if_neg h2p,<-hlw];all_goals rfl)|(rw[if_neg h1p,if_neg h2p];all_goals rfl));done)|(unfold zd2;first|(rw[if_pos h1p];done)|(rw[if_pos h1p];rfl)|(rw[if_neg h1p,if_pos h2p];done)|(rw[if_neg h1p,if_pos h2p];rfl)|(rw[if_neg h1p,if_neg h2p];done)|(rw[if_neg h1p,if_neg h2p];rfl)))
def anyP:Pat:=⟨1,0,0,0,0,[]⟩
def dA (f:Ty->Nat->Pat×Nat):List Ty->Nat->List Pat×Nat
 | [],q=>([],q)
 |t::r,q=>((f t q).1::(dA f r (f t q).2).1,(dA f r (f t q).2).2)
def zaG (b:Str) (w:List Data):Nat->Ty->Nat->Pat×Nat
 |0,_,p=>(anyP,p)
 |d+1,t,p=>
  if d=0 then (anyP,p)
  else if zal b p 4=0 then (anyP,p+1)
  else if zal b (p+1) 6=0 then (⟨5,0,0,0,0,[(zaG b w d t (p+2)).1,(zaG b w d t (zaG b w d t (p+2)).2).1]⟩,(zaG b w d t (zaG b w d t (p+2)).2).2)
  else if t.data = -1 then (⟨3,0,zal b (p+2) 10,zal b (p+2) 10+zal b (p+3) (10-zal b (p+2) 10)*zal b (p+4) 2,0,[]⟩,p+5)
  else if (zap w t).length=0 then (anyP,p+2)
  else (⟨4,nth (zap w t) (zal b (p+2) (zap w t).length).toNat,0,0,0,(dA (zaG b w d) (zab w t (nth (zap w t) (zal b (p+2) (zap w t).length).toNat)) (p+3)).1⟩,
   (dA (zaG b w d) (zab w t (nth (zap w t) (zal b (p+2) (zap w t).length).toNat)) (p+3)).2)
def bdP:Nat->Nat
 |0=>0
 |d+1=>5+3*bdP d
def Few (w:List Data):Prop:=∀t c,c∈zap w t->TyIn w.length t->(zab w t c).length<=3/\∀u∈zab w t c,TyIn w.length u
theorem zux {f:Ty->Nat->Pat×Nat}{k:Nat}:∀(l:List Ty) (q:Nat),(∀t∈l,∀q,(f t q).2<=q+k)->(dA f l q).2<=q+l.length*k
 | [],q,_=>by simp[dA]
 |t::r,q,h=>by
  have h1:=h t (by simp) q;have h2:=zux r (f t q).2 (fun x hx=>h x (by simp[hx]));simp only[dA,xab,Nat.add_mul];omega
theorem zsz {f:Ty->Nat->Pat×Nat}:∀(l:List Ty) (q:Nat),(dA f l q).1.length=l.length
 | [],q=>rfl
 |t::r,q=>by simp only[dA,xab,zsz r]
theorem ziK {l:List Int}{b:Str}{p:Nat} (h:¬l.length=0):nth l (zal b p l.length).toNat∈l:=by
 have:=zbS (b:=b) (p:=p) (n:=(l.length:Int)) (by omega);exact zah (by omega)
theorem zis {b:Str}{w:List Data} (hf:Few w):∀(d:Nat) (t:Ty) (p:Nat),TyIn w.length t->(zaG b w d t p).2<=p+bdP d
 |0,t,p,_=>by simp[zaG,bdP]
 |d+1,t,p,ht=>by
  have ih:=fun t p ht=>zis (b:=b) hf d t p ht;unfold zaG bdP;split
  ·dsimp only;omega
  ·split
   ·dsimp only;omega
   ·split
    ·dsimp only;have h1:=ih t (p+2) ht;have h2:=ih t (zaG b w d t (p+2)).2 ht;omega
    ·split
     ·dsimp only;omega
     ·split
      ·dsimp only;omega
      ·rename_i h5;dsimp only;have hm:=ziK (b:=b) (p:=p+2) h5;have h3:=hf t _ hm ht;have h1:=zux (f:=zaG b w d) (k:=bdP d) (zab w t (nth (zap w t) (zal b (p+2) (zap w t).length).toNat)) (p+3) (fun u hu q=>ih u q (h3.2 u hu));have h4:(zab w t (nth (zap w t) (zal b (p+2) (zap w t).length).toNat)).length*bdP d<=3*bdP d:=Nat.mul_le_mul_right _ h3.1;omega
theorem zkd {w:List Data} (hs:WSmall w) (hv:za1 w=true):Few w:=by
 have hw:=zhp hs hv;have hW:=(zci w).1 hv;rintro ⟨a,k⟩ c hc ht
 obtain⟨d,rfl,h1,j,rfl,h3⟩:=zcI ht hc;refine⟨?_,fun u hu=>zd4 hw h1 ⟨j,rfl,h3⟩ hu⟩;have hco:=hW.ctor _ (zah h1) _ (zah h3);simp only[zbx,xad,decide_eq_true_eq] at hco;simp only[zab,Int.toNat_natCast,xac];omega
theorem Pat.cs_cc (l:List Pat):Pat.cs l=l.map Pat.cc:=by
 rw[Pat.cs_eq];exact List.map_congr_left (fun v _=>Pat.c_eq v)
section
variable {b:Str}{w:List Data}{d p:Nat}{a k:Int}
theorem zqL (h:d=0):zaG b w (d+1) ⟨a,k⟩ p=(anyP,p):=by simp only[zaG];rw[if_pos h]
theorem zqM (h:¬d=0) (h2:zal b p 4=0):zaG b w (d+1) ⟨a,k⟩ p=(anyP,p+1):=by simp only[zaG];rw[if_neg h,if_pos h2]
theorem zqN (h:¬d=0) (h2:¬zal b p 4=0) (h3:zal b (p+1) 6=0):zaG b w (d+1) ⟨a,k⟩ p =
  (⟨5,0,0,0,0,[(zaG b w d ⟨a,k⟩ (p+2)).1,(zaG b w d ⟨a,k⟩ (zaG b w d ⟨a,k⟩ (p+2)).2).1]⟩,(zaG b w d ⟨a,k⟩ (zaG b w d ⟨a,k⟩ (p+2)).2).2):=by
 simp only[zaG];rw[if_neg h,if_neg h2,if_pos h3]
theorem zqO (h:¬d=0) (h2:¬zal b p 4=0) (h3:¬zal b (p+1) 6=0) (h4:a = -1):zaG b w (d+1) ⟨a,k⟩ p =
  (⟨3,0,zal b (p+2) 10,zal b (p+2) 10+zal b (p+3) (10-zal b (p+2) 10)*zal b (p+4) 2,0,[]⟩,p+5):=by
 simp only[zaG];rw[if_neg h,if_neg h2,if_neg h3,if_pos h4]
theorem zqP (h:¬d=0) (h2:¬zal b p 4=0) (h3:¬zal b (p+1) 6=0) (h4:¬a = -1) (h5:(zap w ⟨a,k⟩).length=0):zaG b w (d+1) ⟨a,k⟩ p=(anyP,p+2):=by
 simp only[zaG];rw[if_neg h,if_neg h2,if_neg h3,if_neg h4,if_pos h5]
theorem zqQ (h:¬d=0) (h2:¬zal b p 4=0) (h3:¬zal b (p+1) 6=0) (h4:¬a = -1) (h5:¬(zap w ⟨a,k⟩).length=0){cc:Int} (hc:nth (zap w ⟨a,k⟩) (zal b (p+2) (zap w ⟨a,k⟩).length).toNat=cc):zaG b w (d+1) ⟨a,k⟩ p =
  (⟨4,cc,0,0,0,(dA (zaG b w d) (zab w ⟨a,k⟩ cc) (p+3)).1⟩,(dA (zaG b w d) (zab w ⟨a,k⟩ cc) (p+3)).2):=by
 simp only[zaG];rw[if_neg h,if_neg h2,if_neg h3,if_neg h4,if_neg h5,hc]
end
theorem zeC {b:Str}{w:List Data} (hb:b.length<=2000) (hw:WT w) (hf:Few w):∀(d:Nat){a k m:Int}{p:Nat},m=d->d<=4->1<=d->p+bdP d<=1000000->TyIn w.length ⟨a,k⟩->
  FnD Tryz.prog 125 [.ref 900 0,.d (zan w),.agg [.d (.i a),.d (.i k)],.d (.i m)] [(900,some (rdB b p))]
   (.agg [.d (.i (zaG b w d ⟨a,k⟩ p).1.op),.d (.i (zaG b w d ⟨a,k⟩ p).1.ctor),.d (.i (zaG b w d ⟨a,k⟩ p).1.n),.d (.i (zaG b w d ⟨a,k⟩ p).1.m),.d (.i (zaG b w d ⟨a,k⟩ p).1.var),.d (zaj (zaG b w d ⟨a,k⟩ p).1.kids)]) [(900,some (rdB b (zaG b w d ⟨a,k⟩ p).2))]
 |0,a,k,m,p,_,_,h1,_,_=>by omega
 |d+1,a,k,m,p,hm,hd4,_,hp,ht=>by
  have hcl:=zgS hw ht;have hbd:bdP (d+1)=5+3*bdP d:=rfl;have ih:=fun(t:Ty) (q:Nat) (ht:TyIn w.length t)=>zis (b:=b) hf d t q ht;have v10:=zbS (b:=b) (p:=p+2) (n:=10) (by omega);have v11:=zbS (b:=b) (p:=p+3) (n:=10-zal b (p+2) 10) (by omega);have v12:=zbS (b:=b) (p:=p+4) (n:=2) (by omega);have v13:0<=zal b (p+3) (10-zal b (p+2) 10)*zal b (p+4) 2/\zal b (p+3) (10-zal b (p+2) 10)*zal b (p+4) 2<=10:=by
   have h:zal b (p+4) 2=0\/zal b (p+4) 2=1:=by omega
   rcases h with h|h<;>rw[h]<;>omega
  have hvl:((((zap w ⟨a,k⟩).map fun n=>[D.i n]).length:Nat):Int)=(zap w ⟨a,k⟩).length:=by simp
  have v14:=fun h=>zbS (b:=b) (p:=p+2) (n:=((zap w ⟨a,k⟩).length:Int)) h;have hmem:=fun h=>ziK (l:=zap w ⟨a,k⟩) (b:=b) (p:=p+2) h;generalize hcc:nth (zap w ⟨a,k⟩) (zal b (p+2) (zap w ⟨a,k⟩).length).toNat=cc at *;have hfw:=fun h=>hf ⟨a,k⟩ cc (hmem h) ht;have hat:¬(zap w ⟨a,k⟩).length=0->((zap w ⟨a,k⟩).map fun n=>[D.i n])[(zal b (p+2) (zap w ⟨a,k⟩).length).toNat]?=some [D.i cc]:=fun h=>by
   rw[<-hcc];exact zat (by have:=v14 (by omega);omega)
  refine bd Tryz.f125 96 [] [] fun w0 F0 own kept hk=>?_;refine bx 3006 ?_;refine ab 3008 tz28 ?_;refine tv ?_;refine sq ?_ ?_<;>intro h1 h1p h1s<;>(try simp only[Q] at h1p);refine sqT ?_;refine bu [0] [_] st28 ?_;refine so ty28 ?_;refine tv ?_;refine rn [(900,some (rdB b (zaG b w (d+1) ⟨a,k⟩ p).2))] (.cons (.cellA ty28 rfl rfl rfl) .nil) (.agg (.cons (.eqd ?_) (.cons (.eqd ?_) (.cons (.eqd ?_) (.cons (.eqd ?_) (.cons (.eqd ?_) (.cons (.nild ?_) .nil))))))) ⟨rfl,rfl⟩ (SubO.get ⟨.inr ?_,⟨.inl rfl,trivial⟩⟩) (zax rfl);rotate_left 7;refine Walk.call (cr:=[]) zbB (zaI (p:=p) (n:=4) hb (by omega) (by omega)) rfl (.some rfl rfl h1) rfl rfl (LeL.refl _) ⟨rfl,trivial⟩ rfl rfl rfl ?_;refine evs [] [(16,false)] ?_ ⟨⟨_,rfl,h1⟩,trivial⟩;refine sq ?_ ?_<;>intro h3 h3p h3s<;>(try simp only[Q] at h3p);refine bu [0] [_] st28 ?_;refine so ty28 ?_;refine tv ?_;refine rn [(900,some (rdB b (zaG b w (d+1) ⟨a,k⟩ p).2))] (.cons (.cellA ty28 rfl rfl rfl) .nil) (.agg (.cons (.eqd ?_) (.cons (.eqd ?_) (.cons (.eqd ?_) (.cons (.eqd ?_) (.cons (.eqd ?_) (.cons (.nild ?_) .nil))))))) ⟨rfl,rfl⟩ (SubO.get ⟨.inr ?_,⟨.inl rfl,trivial⟩⟩) (zax rfl);rotate_left 7;refine wd zbB (zaI (p:=p+1) (n:=6) hb (by omega) (by omega)) rfl rfl ⟨rfl,trivial⟩ ?_;refine ev ?_;refine sq ?_ ?_<;>intro h4 h4p h4s<;>(try simp only[Q] at h4p);refine ar ?_;refine wd zlD (zeC hb hw hf d (p:=p+2) (by omega) (by omega) (by omega) (by omega) ht) rfl rfl ⟨rfl,trivial⟩ ?_;refine evd [] [] ?_;refine ar ?_;refine wd zlD (zeC hb hw hf d (p:=(zaG b w d ⟨a,k⟩ (p+2)).2) (by omega) (by omega) (by omega) (by have:=ih ⟨a,k⟩ (p+2) ht;omega) ht) rfl rfl ⟨rfl,trivial⟩ ?_;refine si [0,1] [_,_] sl26 tz28 ?_;refine bu [0,5] [_,_] st28 ?_;refine so ty28 ?_;refine dr ?_;refine rn [(900,some (rdB b (zaG b w (d+1) ⟨a,k⟩ p).2))] (.cons (.cellA ty28 rfl rfl rfl) .nil) (.agg (.cons (.eqd ?_) (.cons (.eqd ?_) (.cons (.eqd ?_) (.cons (.eqd ?_) (.cons (.eqd ?_) (.cons (.eqd ?_) .nil))))))) ⟨rfl,rfl⟩ (SubO.get ⟨.inr ?_,⟨.inl rfl,trivial⟩⟩) (zax rfl);rotate_left 7;refine sq ?_ ?_<;>intro h5 h5p h5s<;>(try simp only[Q] at h5p);refine wd zbB (zaI (p:=p+2) (n:=10) hb (by omega) (by omega)) rfl rfl ⟨rfl,trivial⟩ ?_;refine ev ?_;refine ar ?_;refine wd zbB (zaI (p:=p+3) (n:=10-zal b (p+2) 10) hb (by omega) (by omega)) rfl rfl ⟨rfl,trivial⟩ ?_;refine ev ?_;refine wd zbB (zaI (p:=p+4) (n:=2) hb (by omega) (by omega)) rfl rfl ⟨rfl,trivial⟩ ?_;refine ev ?_;refine ar ?_;refine ar ?_;refine bu [0,2,3] [_,_,_] st28 ?_;refine so ty28 ?_;refine tv ?_;refine rn [(900,some (rdB b (zaG b w (d+1) ⟨a,k⟩ p).2))] (.cons (.cellA ty28 rfl rfl rfl) .nil) (.agg (.cons (.eqd ?_) (.cons (.eqd ?_) (.cons (.eqd ?_) (.cons (.eqd ?_) (.cons (.eqd ?_) (.cons (.nild ?_) .nil))))))) ⟨rfl,rfl⟩ (SubO.get ⟨.inr ?_,⟨.inl rfl,trivial⟩⟩) (zax rfl);rotate_left 7;refine wc zim (zch hw ht) rfl rfl ?_;refine ev ?_;refine sq ?_ ?_<;>intro h6 h6p h6s<;>(try simp only[Q] at h6p);refine bu [0] [_] st28 ?_;refine so ty28 ?_;refine tv ?_;refine rn [(900,some (rdB b (zaG b w (d+1) ⟨a,k⟩ p).2))] (.cons (.cellA ty28 rfl rfl rfl) .nil) (.agg (.cons (.eqd ?_) (.cons (.eqd ?_) (.cons (.eqd ?_) (.cons (.eqd ?_) (.cons (.eqd ?_) (.cons (.nild ?_) .nil))))))) ⟨rfl,rfl⟩ (SubO.get ⟨.inr ?_,⟨.inl rfl,trivial⟩⟩) (zax rfl);rotate_left 7;refine wd zbB (zaI (p:=p+2) (n:=((((zap w ⟨a,k⟩).map fun n=>[D.i n]).length:Nat):Int)) hb (by omega) (by omega)) rfl rfl ⟨rfl,trivial⟩ ?_;refine xaU (i:=(zal b (p+2) (zap w ⟨a,k⟩).length).toNat) sl62 .none rfl rfl rfl (by rw[hvl];have:=v14 (by omega);omega) (hat (by omega)) rfl ?_;refine ev ?_;refine bu [0,1] [_,_] st28 ?_;refine ab 3011 tz28 ?_;refine so ty28 ?_;refine tv ?_;refine wc zg1 (zcy hw ht (hmem (by omega))) rfl rfl ?_;refine ev ?_;refine xao 3011 5 1 6 rfl rfl rfl rfl ?_;refine xak (ι:=List (Ty)×List (Ty)×(Nat)×(List Pat)) hk (fun x=>[(13,.d (.i (x.1.length:Int)))]) [75,76,77,78,79,80,81,82,83,84,85,86,87,88,89,90,91,92,93,94] (fun x=>[(900,some (.box [.d (zdi b),.d (.i (x.2.2.1:Int))])),(3011,some (.box [.d (.i 4),.d (.i cc),.d (.i 0),.d (.i 0),.d (.i 0),.gl 1 (x.2.2.2.map Pat.cc)])),(1,some (.tok (x.2.2.2.map Pat.cc).length 6))]) (fun x=>x.1++x.2.1=zab w ⟨a,k⟩ cc/\x.2.2.1<=p+3+x.1.length*bdP d/\x.2.2.2.length=x.1.length/\(x.2.2.2++(dA (zaG b w d) x.2.1 x.2.2.1).1,(dA (zaG b w d) x.2.1 x.2.2.1).2)=dA (zaG b w d) (zab w ⟨a,k⟩ cc) (p+3)) (fun x=>x.2.1.length) ([],zab w ⟨a,k⟩ cc,p+3,[]) ⟨by simp,by simp,by simp,by simp⟩ ⟨⟨_,rfl,xar ?_⟩,trivial⟩ ⟨?_,⟨?_,⟨zaa ?_,trivial⟩⟩⟩ (fun x=>rfl) (fun x hg1=>?_);focus (rfl)
  iterate 2 focus (first|rfl|(simp[getH];done))
  focus (rfl)
  obtain⟨pre,rest,q,ks⟩:=x;dsimp only at hg1 ⊢;refine evc [] [] ?_;refine sq ?_ ?_<;>intro h7 h7p h7s<;>(try simp only[Q] at h7p);rcases rest with _|⟨y,rest⟩
  ·exfalso;simp_all
  have hpm:pre.length*bdP d<=2*bdP d:=Nat.mul_le_mul_right _ (by have:=(hfw (by omega)).1;omega);refine xaU zaT .none rfl rfl rfl rfl (zaE hg1.1) rfl ?_;refine evd [] [] ?_;refine ar ?_;refine wd zlD (zeC hb hw hf d (a:=y.data) (k:=y.index) (p:=q) (by omega) (by omega) (by omega) (by omega) ((hfw (by omega)).2 y (by rw[<-hg1.1];simp))) rfl rfl ⟨rfl,trivial⟩ ?_;refine si [0] [_] sl26 tz28 ?_;refine ap sl26 zz28 rfl rfl rfl (by simp) (by have hz:=congrArg List.length hg1.1;have:=(hfw (by omega)).1;simp at hz ⊢;omega) ?_;refine evd [] [] ?_;refine so ty26 ?_;refine dr ?_;refine ar ?_;refine xah ((pre++[y],rest,(zaG b w d y q).2,ks++[(zaG b w d y q).1])) ⟨⟨(by have hz:=hg1.1;rw[<-hz];simp),⟨(by have:=ih y q ((hfw (by omega)).2 y (by rw[<-hg1.1];simp));simp only[xaa,xab,xai,Nat.add_mul];omega),(by simp[hg1.2.2.1]),(by rw[<-hg1.2.2.2];simp[dA])⟩⟩,(by simp),sx ⟨⟨_,rfl,xar ?_⟩,trivial⟩ ⟨?_,⟨?_,⟨zaa ?_,trivial⟩⟩⟩⟩;focus ((simp;done))
  iterate 2 focus (first|rfl|(simp[getH];done))
  focus ((simp;done))
  have hrest:rest=[]:=by
   rcases rest with _|⟨a,b⟩
   ·rfl
   ·exfalso;have hz:=congrArg List.length (hg1.1);simp only[xaa,xab,xac] at hz;omega
  subst hrest;refine so ty28 ?_;refine tv ?_;refine rn [(900,some (rdB b (zaG b w (d+1) ⟨a,k⟩ p).2))] (.cons (.cellA ty28 rfl rfl rfl) .nil) (.agg (.cons (.eqd ?_) (.cons (.eqd ?_) (.cons (.eqd ?_) (.cons (.eqd ?_) (.cons (.eqd ?_) (.cons (.gld ?_) .nil))))))) ⟨rfl,rfl⟩ (SubO.get ⟨.inr ?_,⟨.inl rfl,trivial⟩⟩) (zax rfl);rotate_left 7;all_goals (((first|(rw[zqL (by omega)];all_goals first|rfl|(show _=D.sl (Pat.cs _);rw[Pat.cs_cc];all_goals rfl)|(show _=Pat.cs _;rw[Pat.cs_cc];all_goals rfl))|(rw[zqM (by omega) (by omega)];all_goals first|rfl|(show _=D.sl (Pat.cs _);rw[Pat.cs_cc];all_goals rfl)|(show _=Pat.cs _;rw[Pat.cs_cc];all_goals rfl))|(rw[zqN (by omega) (by omega) (by omega)];all_goals first|rfl|(show _=D.sl (Pat.cs _);rw[Pat.cs_cc];all_goals rfl)|(show _=Pat.cs _;rw[Pat.cs_cc];all_goals rfl))|(rw[zqO (by omega) (by omega) (by omega) (by omega)];all_goals first|rfl|(show _=D.sl (Pat.cs _);rw[Pat.cs_cc];all_goals rfl)|(show _=Pat.cs _;rw[Pat.cs_cc];all_goals rfl))|(rw[zqP (by omega) (by omega) (by omega) (by omega) (by omega)];all_goals first|rfl|(show _=D.sl (Pat.cs _);rw[Pat.cs_cc];all_goals rfl)|(show _=Pat.cs _;rw[Pat.cs_cc];all_goals rfl))|(rw[zqQ (by omega) (by omega) (by omega) (by omega) (by omega) hcc];have hfin:=hg1.2.2.2;simp only[dA,List.append_nil] at hfin;rw[<-hfin];all_goals first|rfl|(show _=D.sl (Pat.cs _);rw[Pat.cs_cc];all_goals rfl)|(show _=Pat.cs _;rw[Pat.cs_cc];all_goals rfl)));done))
def namL (f:Pat->Int->Nat->Pat×Int×Nat):List Pat->Int->Nat->List Pat×Int×Nat
 | [],m,q=>([],m,q)
 |x::r,m,q=>((f x m q).1::(namL f r (f x m q).2.1 (f x m q).2.2).1,(namL f r (f x m q).2.1 (f x m q).2.2).2)
def namP (b:Str):Nat->Pat->Int->Nat->Pat×Int×Nat
 |0,p,m,q=>(p,m,q)
 |n+1,p,m,q=>
  if 5<m\/p.op=5\/p.op=3 then (p,m,q)
  else if p.op=1/\zal b q 2=0 then (⟨2,0,0,0,m,[]⟩,m+1,q+1)
  else if (namL (namP b n) p.kids m (if p.op=1 then q+1 else q)).2.1<=5 then
   (if zal b (namL (namP b n) p.kids m (if p.op=1 then q+1 else q)).2.2 6=0 then
    (⟨6,0,0,0,(namL (namP b n) p.kids m (if p.op=1 then q+1 else q)).2.1,[⟨p.op,p.ctor,p.n,p.m,p.var,(namL (namP b n) p.kids m (if p.op=1 then q+1 else q)).1⟩]⟩,
     (namL (namP b n) p.kids m (if p.op=1 then q+1 else q)).2.1+1,(namL (namP b n) p.kids m (if p.op=1 then q+1 else q)).2.2+1)
   else (⟨p.op,p.ctor,p.n,p.m,p.var,(namL (namP b n) p.kids m (if p.op=1 then q+1 else q)).1⟩,(namL (namP b n) p.kids m (if p.op=1 then q+1 else q)).2.1,(namL (namP b n) p.kids m (if p.op=1 then q+1 else q)).2.2+1))
  else (⟨p.op,p.ctor,p.n,p.m,p.var,(namL (namP b n) p.kids m (if p.op=1 then q+1 else q)).1⟩,(namL (namP b n) p.kids m (if p.op=1 then q+1 else q)).2.1,(namL (namP b n) p.kids m (if p.op=1 then q+1 else q)).2.2)
section
variable {b:Str}{n:Nat}{p:Pat}{m:Int}{q:Nat}{ks:List Pat}{zm:Int}{zq:Nat}
theorem zuG (h:5<m\/p.op=5\/p.op=3):namP b (n+1) p m q=(p,m,q):=by simp only[namP];rw[if_pos h]
theorem zuH (h:¬(5<m\/p.op=5\/p.op=3)) (h2:p.op=1/\zal b q 2=0):namP b (n+1) p m q=(⟨2,0,0,0,m,[]⟩,m+1,q+1):=by simp only[namP];rw[if_neg h,if_pos h2]
theorem zuI (h:¬(5<m\/p.op=5\/p.op=3)) (h2:¬(p.op=1/\zal b q 2=0)) (hz:(ks,zm,zq)=namL (namP b n) p.kids m (if p.op=1 then q+1 else q)) (h3:zm<=5) (h4:zal b zq 6=0):
  namP b (n+1) p m q=(⟨6,0,0,0,zm,[⟨p.op,p.ctor,p.n,p.m,p.var,ks⟩]⟩,zm+1,zq+1):=by
 simp only[namP];rw[if_neg h,if_neg h2,<-hz];dsimp only;rw[if_pos h3,if_pos h4]
theorem zuJ (h:¬(5<m\/p.op=5\/p.op=3)) (h2:¬(p.op=1/\zal b q 2=0)) (hz:(ks,zm,zq)=namL (namP b n) p.kids m (if p.op=1 then q+1 else q)) (h3:zm<=5) (h4:¬zal b zq 6=0):
  namP b (n+1) p m q=(⟨p.op,p.ctor,p.n,p.m,p.var,ks⟩,zm,zq+1):=by
 simp only[namP];rw[if_neg h,if_neg h2,<-hz];dsimp only;rw[if_pos h3,if_neg h4]
theorem zuK (h:¬(5<m\/p.op=5\/p.op=3)) (h2:¬(p.op=1/\zal b q 2=0)) (hz:(ks,zm,zq)=namL (namP b n) p.kids m (if p.op=1 then q+1 else q)) (h3:¬zm<=5):
  namP b (n+1) p m q=(⟨p.op,p.ctor,p.n,p.m,p.var,ks⟩,zm,zq):=by
 simp only[namP];rw[if_neg h,if_neg h2,<-hz];dsimp only;rw[if_neg h3]
end
def NamOk (p:Pat) (m:Int) (q:Nat) (r:Pat×Int×Nat):Prop:=m<=r.2.1/\r.2.1<=6/\r.2.2<=q+2*p.size/\r.1.size<=2*p.size/\(p.ok->r.1.ok)
theorem zq3 {f:Pat->Int->Nat->Pat×Int×Nat}:∀(l:List Pat) (m:Int) (q:Nat),(∀x∈l,∀m q,0<=m->m<=6->NamOk x m q (f x m q))->0<=m->m<=6->
  m<=(namL f l m q).2.1/\(namL f l m q).2.1<=6/\(namL f l m q).2.2<=q+2*Pats.size l/\Pats.size (namL f l m q).1<=2*Pats.size l/\(namL f l m q).1.length=l.length/\(Pats.ok l->Pats.ok (namL f l m q).1)
 | [],m,q,_,_,h6=>by simp[namL,Pats.size,h6]
 |x::r,m,q,h,h0,h6=>by
  obtain⟨a1,a2,a3,a4,a5⟩:=h x (by simp) m q h0 h6;obtain⟨b1,b2,b3,b4,b5,b6⟩:=zq3 r (f x m q).2.1 (f x m q).2.2 (fun y hy=>h y (by simp[hy])) (by omega) a2;simp only[namL,Pats.size,xab];refine⟨by omega,by omega,by omega,by omega,by omega,fun ho=>?_⟩;exact⟨a5 ho.1,b6 ho.2⟩
theorem znp {b:Str}:∀(n:Nat) (p:Pat) (m:Int) (q:Nat),0<=m->m<=6->NamOk p m q (namP b n p m q)
 |0,p,m,q,h0,h6=>⟨by simp[namP],by simp[namP,h6],by simp[namP],by simp[namP];omega,fun h=>h⟩
 |n+1,p,m,q,h0,h6=>by
  have hs:=Pat.size_eq p;by_cases h:5<m\/p.op=5\/p.op=3
  ·rw[zuG h];exact⟨Int.le_refl _,h6,by dsimp only;omega,by dsimp only;omega,fun h=>h⟩
  ·by_cases h2:p.op=1/\zal b q 2=0
   ·rw[zuH h h2];refine⟨by dsimp only;omega,by dsimp only;omega,by dsimp only;omega, ?_,fun _=>?_⟩
    ·show(Pat.mk 2 0 0 0 m []).size<=_;rw[Pat.size_eq];simp only[Pat.kids,Pats.size];omega
    ·show(Pat.mk 2 0 0 0 m []).ok;rw[Pat.ok_iff];exact⟨by simp[Pat.kids],trivial⟩
   ·generalize hz:namL (namP b n) p.kids m (if p.op=1 then q+1 else q)=z;obtain⟨ks,zm,zq⟩:=z;have hq:(if p.op=1 then q+1 else q)<=q+1:=by split<;>omega
    obtain⟨b1,b2,b3,b4,b5,b6⟩:=zq3 (f:=namP b n) p.kids m (if p.op=1 then q+1 else q) (fun x _ m q h0 h6=>znp n x m q h0 h6) h0 h6;rw[hz] at b1 b2 b3 b4 b5 b6;dsimp only at b1 b2 b3 b4 b5 b6;have so:(Pat.mk p.op p.ctor p.n p.m p.var ks).size=1+Pats.size ks:=by rw[Pat.size_eq];rfl
    have ko:p.ok->(Pat.mk p.op p.ctor p.n p.m p.var ks).ok:=fun h=>by
     rw[Pat.ok_iff] at h ⊢;exact⟨by show ks.length<=_;rw[b5];exact h.1,b6 h.2⟩
    by_cases h3:zm<=5
    ·by_cases h4:zal b zq 6=0
     ·rw[zuI h h2 hz.symm h3 h4];refine⟨by dsimp only;omega,by dsimp only;omega,by dsimp only;omega, ?_,fun hk=>?_⟩
      ·dsimp only;rw[Pat.size_eq];simp only[Pat.kids,Pats.size];rw[so];omega
      ·dsimp only;rw[Pat.ok_iff];exact⟨by simp[Pat.kids],ko hk,trivial⟩
     ·rw[zuJ h h2 hz.symm h3 h4];exact⟨b1,b2,by dsimp only;omega,by dsimp only;rw[so];omega,ko⟩
    ·rw[zuK h h2 hz.symm h3];exact⟨b1,b2,by dsimp only;omega,by dsimp only;rw[so];omega,ko⟩
theorem zlh {f:Pat->Int->Nat->Pat×Int×Nat}{ks:List Pat}{zm:Int}{zq:Nat}{z:List Pat×Int×Nat} (h:(ks++(namL f [] zm zq).1,(namL f [] zm zq).2)=z):(ks,zm,zq)=z:=by
 rw[<-h];simp[namL]
theorem xax {l:List Pat}{y:Pat}:Pats.size (l++[y])=Pats.size l+y.size:=by
 have:=Pats.size_split (pre:=l) (rest:=[]) (y:=y) rfl;simpa [Pats.size] using this
theorem zfU {b:Str} (hb:b.length<=2000):∀(n:Nat){p:Pat}{m:Int}{q:Nat},p.size<=n->p.ok->0<=m->m<=6->q+2*p.size<=1000000->
  FnD Tryz.prog 124 [.ref 900 0,.agg [.d (.i p.op),.d (.i p.ctor),.d (.i p.n),.d (.i p.m),.d (.i p.var),.d (zaj p.kids)],.d (.i m)] [(900,some (rdB b q))] (.tup [.agg [.d (.i (namP b n p m q).1.op),.d (.i (namP b n p m q).1.ctor),.d (.i (namP b n p m q).1.n),.d (.i (namP b n p m q).1.m),.d (.i (namP b n p m q).1.var),.d (zaj (namP b n p m q).1.kids)],.d (.i (namP b n p m q).2.1)]) [(900,some (rdB b (namP b n p m q).2.2))]
 |0,p,m,q,h,_,_,_,_=>by rw[Pat.size_eq] at h;omega
 |n+1,p,m,q,kn,hok,k0,k6,hq=>by
  have hs:=Pat.size_eq p;have hok':=hok;rw[Pat.ok_iff] at hok';have ih:=fun(x:Pat) (m:Int) (q:Nat) (h0:0<=m) (h6:m<=6)=>znp (b:=b) n x m q h0 h6;have hysz:∀ {pre rest:List Pat}{y:Pat},pre++y::rest=p.kids->y.size+Pats.size pre+Pats.size rest=Pats.size p.kids:=fun h=>by have:=Pats.size_split h;omega
  have hq1:(if p.op=1 then q+1 else q)<=q+1:=by split<;>omega
  generalize hqq:(if p.op=1 then q+1 else q)=q1 at hq1;have hqa:p.op=1->q1=q+1:=fun h=>by rw[<-hqq,if_pos h]
  have hqb:¬p.op=1->q1=q:=fun h=>by rw[<-hqq,if_neg h]
  refine bd Tryz.f124 82 [] [] fun w0 F0 own kept hk=>?_;refine bx 3004 ?_;refine ab 3006 tz28 ?_;refine ev ?_;refine sq ?_ ?_<;>intro h1 h1p h1s<;>(try simp only[Q,Pat.cs_len] at h1p);refine sqT ?_;refine sqT ?_;refine so ty28 ?_;refine ev ?_;refine rn [(900,some (rdB b (namP b (n+1) p m q).2.2))] (.cons (.cellA ty28 rfl rfl rfl) (.cons (.tmp rfl) .nil)) (.tup (.cons (.agg (.cons (.eqd ?_) (.cons (.eqd ?_) (.cons (.eqd ?_) (.cons (.eqd ?_) (.cons (.eqd ?_) (.cons (.eqd ?_) .nil))))))) (.cons (.eqd ?_) .nil))) ⟨rfl,rfl⟩ (SubO.get ⟨.inr ?_,⟨.inl rfl,trivial⟩⟩) (zax rfl);rotate_left 8;refine sq ?_ ?_<;>intro h3 h3p h3s<;>(try simp only[Q,Pat.cs_len] at h3p);refine sqT ?_;refine so ty28 ?_;refine ev ?_;refine rn [(900,some (rdB b (namP b (n+1) p m q).2.2))] (.cons (.cellA ty28 rfl rfl rfl) (.cons (.tmp rfl) .nil)) (.tup (.cons (.agg (.cons (.eqd ?_) (.cons (.eqd ?_) (.cons (.eqd ?_) (.cons (.eqd ?_) (.cons (.eqd ?_) (.cons (.eqd ?_) .nil))))))) (.cons (.eqd ?_) .nil))) ⟨rfl,rfl⟩ (SubO.get ⟨.inr ?_,⟨.inl rfl,trivial⟩⟩) (zax rfl);rotate_left 8;refine sq ?_ ?_<;>intro h5 h5p h5s<;>(try simp only[Q,Pat.cs_len] at h5p);refine so ty28 ?_;refine ev ?_;refine rn [(900,some (rdB b (namP b (n+1) p m q).2.2))] (.cons (.cellA ty28 rfl rfl rfl) (.cons (.tmp rfl) .nil)) (.tup (.cons (.agg (.cons (.eqd ?_) (.cons (.eqd ?_) (.cons (.eqd ?_) (.cons (.eqd ?_) (.cons (.eqd ?_) (.cons (.eqd ?_) .nil))))))) (.cons (.eqd ?_) .nil))) ⟨rfl,rfl⟩ (SubO.get ⟨.inr ?_,⟨.inl rfl,trivial⟩⟩) (zax rfl);rotate_left 8;refine sq ?_ ?_<;>intro h6 h6p h6s<;>(try simp only[Q,Pat.cs_len] at h6p);refine Walk.call (cr:=[]) zbB (zaI (p:=q) (n:=2) hb (by omega) (by omega)) rfl (.some rfl rfl h6) rfl rfl (LeL.refl _) ⟨rfl,trivial⟩ rfl rfl rfl ?_;refine evs [] [(30,true)] ?_ ⟨⟨_,rfl,h6⟩,trivial⟩;refine sq ?_ ?_<;>intro h7 h7p h7s<;>(try simp only[Q,Pat.cs_len] at h7p);refine bu [0,4] [_,_] st28 ?_;refine ev ?_;refine ar ?_;refine so ty28 ?_;refine ev ?_;refine rn [(900,some (rdB b (namP b (n+1) p m q).2.2))] (.cons (.cellA ty28 rfl rfl rfl) (.cons (.tmp rfl) .nil)) (.tup (.cons (.agg (.cons (.eqd ?_) (.cons (.eqd ?_) (.cons (.eqd ?_) (.cons (.eqd ?_) (.cons (.eqd ?_) (.cons (.nild ?_) .nil))))))) (.cons (.eqd ?_) .nil))) ⟨rfl,rfl⟩ (SubO.get ⟨.inr ?_,⟨.inl rfl,trivial⟩⟩) (zax rfl);rotate_left 8;refine ab 3008 tz28 ?_;refine so ty28 ?_;refine tv ?_;refine so ty26 ?_;refine tv ?_;refine xao 3008 5 1 6 rfl rfl rfl rfl ?_;refine xak (ι:=List (Pat)×List (Pat)×(Int)×(Nat)×(List Pat)) hk (fun x=>[(10,.d (.i (x.1.length:Int))),(9,.d (.i x.2.2.1))]) [11,12,42,43,44,45,46,47,48,49,50,51,52,53,54,55,56,57,58,59,60,61,62,63,64,65,66] (fun x=>[(900,some (.box [.d (zdi b),.d (.i (x.2.2.2.1:Int))])),(3008,some (.box [.d (.i p.op),.d (.i p.ctor),.d (.i p.n),.d (.i p.m),.d (.i p.var),.gl 1 (x.2.2.2.2.map Pat.cc)])),(1,some (.tok (x.2.2.2.2.map Pat.cc).length 6))]) (fun x=>x.1++x.2.1=p.kids/\0<=x.2.2.1/\x.2.2.1<=6/\x.2.2.2.1<=q1+2*Pats.size x.1/\x.2.2.2.2.length=x.1.length/\(x.2.2.2.2++(namL (namP b n) x.2.1 x.2.2.1 x.2.2.2.1).1,(namL (namP b n) x.2.1 x.2.2.1 x.2.2.2.1).2)=namL (namP b n) p.kids m q1) (fun x=>x.2.1.length) ([],p.kids,m,q1,[]) ⟨by simp,by simpa using k0,by simpa using k6,by simp[Pats.size],by simp,by simp⟩ ⟨⟨_,rfl,xar ?_⟩,⟨⟨_,rfl,xar ?_⟩,trivial⟩⟩ ⟨?_,⟨?_,⟨zaa ?_,trivial⟩⟩⟩ (fun x=>rfl) (fun x hg1=>?_);iterate 2 focus ((simp;done))
  iterate 2 focus (first|(simp[getH];done)|(show some (Res.box _)=some (Res.box _);rw[hqa (by omega)];all_goals rfl))
  focus ((simp;done))
  obtain⟨pre,rest,zm,zq,ks⟩:=x;dsimp only at hg1 ⊢;refine evc [] [] ?_;refine sq ?_ ?_<;>intro h8 h8p h8s<;>(try simp only[Q,Pat.cs_len] at h8p);rcases rest with _|⟨y,rest⟩
  ·exfalso;simp_all
  have hni:=ih y zm zq hg1.2.1 hg1.2.2.1;have hn1:=hni.1;have hn2:=hni.2.1;have hn3:=hni.2.2.1;refine xaU sl26 .none rfl rfl rfl rfl (Pat.cs_at' hg1.1) rfl ?_;refine ev ?_;refine wd zo9 (zfU hb n (p:=y) (m:=zm) (q:=zq) (by have:=hysz hg1.1;omega) (Pats.ok_mem hok'.2 y (by rw[<-hg1.1];simp)) (by omega) (by omega) (by have:=hysz hg1.1;omega)) rfl rfl ⟨rfl,trivial⟩ ?_;refine ev ?_;refine ab 3011 tz28 ?_;refine so ty28 ?_;refine ev ?_;refine si [0] [_] sl26 tz28 ?_;refine ap sl26 zz28 rfl rfl rfl (by simp) (by have hz:=congrArg List.length hg1.1;simp at hz ⊢;omega) ?_;refine ev ?_;refine so ty26 ?_;refine tv ?_;refine ar ?_;refine xah ((pre++[y],rest,(namP b n y zm zq).2.1,(namP b n y zm zq).2.2,ks++[(namP b n y zm zq).1])) ⟨⟨(by have hz:=hg1.1;rw[<-hz];simp),⟨by dsimp only;omega,by dsimp only;omega,(by rw[xax];dsimp only;omega),(by simp[hg1.2.2.2.2.1]),(by rw[<-hg1.2.2.2.2.2];simp[namL])⟩⟩,(by simp),sx ⟨⟨_,rfl,xar ?_⟩,⟨⟨_,rfl,xar ?_⟩,trivial⟩⟩ ⟨?_,⟨?_,⟨zaa ?_,trivial⟩⟩⟩⟩;iterate 2 focus ((simp;done))
  iterate 2 focus (first|rfl|(simp[getH];done))
  focus ((simp;done))
  have hrest:rest=[]:=by
   rcases rest with _|⟨a,b⟩
   ·rfl
   ·exfalso;have hz:=congrArg List.length (hg1.1);simp only[xaa,xab,xac] at hz;omega
  subst hrest;refine sq ?_ ?_<;>intro h9 h9p h9s<;>(try simp only[Q,Pat.cs_len] at h9p);refine Walk.call (cr:=[]) zbB (zaI (p:=zq) (n:=6) hb (by have e:=hg1.1;rw[List.append_nil] at e;rw[<-e] at hs;omega) (by omega)) rfl (.some rfl rfl h9) rfl rfl (LeL.refl _) ⟨rfl,trivial⟩ rfl rfl rfl ?_;refine evs [] [(69,true)] ?_ ⟨⟨_,rfl,h9⟩,trivial⟩;refine sq ?_ ?_<;>intro h10 h10p h10s<;>(try simp only[Q,Pat.cs_len] at h10p);refine si [0] [_] sl26 tz28 ?_;refine bu [0,4,5] [_,_,_] st28 ?_;refine ev ?_;refine ar ?_;refine so ty28 ?_;refine ev ?_;refine rn [(900,some (rdB b (namP b (n+1) p m q).2.2))] (.cons (.cellA ty28 rfl rfl rfl) (.cons (.tmp rfl) .nil)) (.tup (.cons (.agg (.cons (.eqd ?_) (.cons (.eqd ?_) (.cons (.eqd ?_) (.cons (.eqd ?_) (.cons (.eqd ?_) (.cons (.eqd ?_) .nil))))))) (.cons (.eqd ?_) .nil))) ⟨rfl,rfl⟩ (SubO.get ⟨.inr ?_,⟨.inl rfl,trivial⟩⟩) (zax rfl);rotate_left 8;refine so ty28 ?_;refine ev ?_;refine rn [(900,some (rdB b (namP b (n+1) p m q).2.2))] (.cons (.cellA ty28 rfl rfl rfl) (.cons (.tmp rfl) .nil)) (.tup (.cons (.agg (.cons (.eqd ?_) (.cons (.eqd ?_) (.cons (.eqd ?_) (.cons (.eqd ?_) (.cons (.eqd ?_) (.cons (.gld ?_) .nil))))))) (.cons (.eqd ?_) .nil))) ⟨rfl,rfl⟩ (SubO.get ⟨.inr ?_,⟨.inl rfl,trivial⟩⟩) (zax rfl);rotate_left 8;refine sqF ?_;refine so ty28 ?_;refine ev ?_;refine rn [(900,some (rdB b (namP b (n+1) p m q).2.2))] (.cons (.cellA ty28 rfl rfl rfl) (.cons (.tmp rfl) .nil)) (.tup (.cons (.agg (.cons (.eqd ?_) (.cons (.eqd ?_) (.cons (.eqd ?_) (.cons (.eqd ?_) (.cons (.eqd ?_) (.cons (.gld ?_) .nil))))))) (.cons (.eqd ?_) .nil))) ⟨rfl,rfl⟩ (SubO.get ⟨.inr ?_,⟨.inl rfl,trivial⟩⟩) (zax rfl);rotate_left 8;refine sqF ?_;refine ab 3008 tz28 ?_;refine so ty28 ?_;refine tv ?_;refine so ty26 ?_;refine tv ?_;refine xao 3008 5 1 6 rfl rfl rfl rfl ?_;refine xak (ι:=List (Pat)×List (Pat)×(Int)×(Nat)×(List Pat)) hk (fun x=>[(10,.d (.i (x.1.length:Int))),(9,.d (.i x.2.2.1))]) [11,12,42,43,44,45,46,47,48,49,50,51,52,53,54,55,56,57,58,59,60,61,62,63,64,65,66] (fun x=>[(900,some (.box [.d (zdi b),.d (.i (x.2.2.2.1:Int))])),(3008,some (.box [.d (.i p.op),.d (.i p.ctor),.d (.i p.n),.d (.i p.m),.d (.i p.var),.gl 1 (x.2.2.2.2.map Pat.cc)])),(1,some (.tok (x.2.2.2.2.map Pat.cc).length 6))]) (fun x=>x.1++x.2.1=p.kids/\0<=x.2.2.1/\x.2.2.1<=6/\x.2.2.2.1<=q1+2*Pats.size x.1/\x.2.2.2.2.length=x.1.length/\(x.2.2.2.2++(namL (namP b n) x.2.1 x.2.2.1 x.2.2.2.1).1,(namL (namP b n) x.2.1 x.2.2.1 x.2.2.2.1).2)=namL (namP b n) p.kids m q1) (fun x=>x.2.1.length) ([],p.kids,m,q1,[]) ⟨by simp,by simpa using k0,by simpa using k6,by simp[Pats.size],by simp,by simp⟩ ⟨⟨_,rfl,xar ?_⟩,⟨⟨_,rfl,xar ?_⟩,trivial⟩⟩ ⟨?_,⟨?_,⟨zaa ?_,trivial⟩⟩⟩ (fun x=>rfl) (fun x hg1=>?_);iterate 2 focus ((simp;done))
  iterate 2 focus (first|(simp[getH];done)|(show some (Res.box _)=some (Res.box _);rw[hqb (by omega)];all_goals rfl))
  focus ((simp;done))
  obtain⟨pre,rest,zm,zq,ks⟩:=x;dsimp only at hg1 ⊢;refine evc [] [] ?_;refine sq ?_ ?_<;>intro h13 h13p h13s<;>(try simp only[Q,Pat.cs_len] at h13p);rcases rest with _|⟨y,rest⟩
  ·exfalso;simp_all
  have hni:=ih y zm zq hg1.2.1 hg1.2.2.1;have hn1:=hni.1;have hn2:=hni.2.1;have hn3:=hni.2.2.1;refine xaU sl26 .none rfl rfl rfl rfl (Pat.cs_at' hg1.1) rfl ?_;refine ev ?_;refine wd zo9 (zfU hb n (p:=y) (m:=zm) (q:=zq) (by have:=hysz hg1.1;omega) (Pats.ok_mem hok'.2 y (by rw[<-hg1.1];simp)) (by omega) (by omega) (by have:=hysz hg1.1;omega)) rfl rfl ⟨rfl,trivial⟩ ?_;refine ev ?_;refine ab 3011 tz28 ?_;refine so ty28 ?_;refine ev ?_;refine si [0] [_] sl26 tz28 ?_;refine ap sl26 zz28 rfl rfl rfl (by simp) (by have hz:=congrArg List.length hg1.1;simp at hz ⊢;omega) ?_;refine ev ?_;refine so ty26 ?_;refine tv ?_;refine ar ?_;refine xah ((pre++[y],rest,(namP b n y zm zq).2.1,(namP b n y zm zq).2.2,ks++[(namP b n y zm zq).1])) ⟨⟨(by have hz:=hg1.1;rw[<-hz];simp),⟨by dsimp only;omega,by dsimp only;omega,(by rw[xax];dsimp only;omega),(by simp[hg1.2.2.2.2.1]),(by rw[<-hg1.2.2.2.2.2];simp[namL])⟩⟩,(by simp),sx ⟨⟨_,rfl,xar ?_⟩,⟨⟨_,rfl,xar ?_⟩,trivial⟩⟩ ⟨?_,⟨?_,⟨zaa ?_,trivial⟩⟩⟩⟩;iterate 2 focus ((simp;done))
  iterate 2 focus (first|rfl|(simp[getH];done))
  focus ((simp;done))
  have hrest:rest=[]:=by
   rcases rest with _|⟨a,b⟩
   ·rfl
   ·exfalso;have hz:=congrArg List.length (hg1.1);simp only[xaa,xab,xac] at hz;omega
  subst hrest;refine sq ?_ ?_<;>intro h14 h14p h14s<;>(try simp only[Q,Pat.cs_len] at h14p);refine Walk.call (cr:=[]) zbB (zaI (p:=zq) (n:=6) hb (by have e:=hg1.1;rw[List.append_nil] at e;rw[<-e] at hs;omega) (by omega)) rfl (.some rfl rfl h14) rfl rfl (LeL.refl _) ⟨rfl,trivial⟩ rfl rfl rfl ?_;refine evs [] [(69,true)] ?_ ⟨⟨_,rfl,h14⟩,trivial⟩;refine sq ?_ ?_<;>intro h15 h15p h15s<;>(try simp only[Q,Pat.cs_len] at h15p);refine si [0] [_] sl26 tz28 ?_;refine bu [0,4,5] [_,_,_] st28 ?_;refine ev ?_;refine ar ?_;refine so ty28 ?_;refine ev ?_;refine rn [(900,some (rdB b (namP b (n+1) p m q).2.2))] (.cons (.cellA ty28 rfl rfl rfl) (.cons (.tmp rfl) .nil)) (.tup (.cons (.agg (.cons (.eqd ?_) (.cons (.eqd ?_) (.cons (.eqd ?_) (.cons (.eqd ?_) (.cons (.eqd ?_) (.cons (.eqd ?_) .nil))))))) (.cons (.eqd ?_) .nil))) ⟨rfl,rfl⟩ (SubO.get ⟨.inr ?_,⟨.inl rfl,trivial⟩⟩) (zax rfl);rotate_left 8;refine so ty28 ?_;refine ev ?_;refine rn [(900,some (rdB b (namP b (n+1) p m q).2.2))] (.cons (.cellA ty28 rfl rfl rfl) (.cons (.tmp rfl) .nil)) (.tup (.cons (.agg (.cons (.eqd ?_) (.cons (.eqd ?_) (.cons (.eqd ?_) (.cons (.eqd ?_) (.cons (.eqd ?_) (.cons (.gld ?_) .nil))))))) (.cons (.eqd ?_) .nil))) ⟨rfl,rfl⟩ (SubO.get ⟨.inr ?_,⟨.inl rfl,trivial⟩⟩) (zax rfl);rotate_left 8;refine sqF ?_;refine so ty28 ?_;refine ev ?_;refine rn [(900,some (rdB b (namP b (n+1) p m q).2.2))] (.cons (.cellA ty28 rfl rfl rfl) (.cons (.tmp rfl) .nil)) (.tup (.cons (.agg (.cons (.eqd ?_) (.cons (.eqd ?_) (.cons (.eqd ?_) (.cons (.eqd ?_) (.cons (.eqd ?_) (.cons (.gld ?_) .nil))))))) (.cons (.eqd ?_) .nil))) ⟨rfl,rfl⟩ (SubO.get ⟨.inr ?_,⟨.inl rfl,trivial⟩⟩) (zax rfl);rotate_left 8;all_goals ((first|(rw[zuG (by omega)];all_goals first|rfl|(show _=D.sl (Pat.cs _);rw[Pat.cs_cc];all_goals rfl)|(show _=Pat.cs _;rw[Pat.cs_cc];all_goals rfl)|(show _=D.sl [[D.i _,D.i _,D.i _,D.i _,D.i _,D.sl (Pat.cs _)]];rw[Pat.cs_cc];all_goals rfl))|(rw[zuH (by omega) ⟨by omega,by omega⟩];all_goals first|rfl|(show _=D.sl (Pat.cs _);rw[Pat.cs_cc];all_goals rfl)|(show _=Pat.cs _;rw[Pat.cs_cc];all_goals rfl)|(show _=D.sl [[D.i _,D.i _,D.i _,D.i _,D.i _,D.sl (Pat.cs _)]];rw[Pat.cs_cc];all_goals rfl))|(have hz:(ks,zm,zq)=namL (namP b n) p.kids m (if p.op=1 then q+1 else q):=(by rw[hqq];exact zlh hg1.2.2.2.2.2);rw[zuI (by omega) (fun hh=>by omega) hz (by omega) (by omega)];all_goals first|rfl|(show _=D.sl (Pat.cs _);rw[Pat.cs_cc];all_goals rfl)|(show _=Pat.cs _;rw[Pat.cs_cc];all_goals rfl)|(show _=D.sl [[D.i _,D.i _,D.i _,D.i _,D.i _,D.sl (Pat.cs _)]];rw[Pat.cs_cc];all_goals rfl))|(have hz:(ks,zm,zq)=namL (namP b n) p.kids m (if p.op=1 then q+1 else q):=(by rw[hqq];exact zlh hg1.2.2.2.2.2);rw[zuJ (by omega) (fun hh=>by omega) hz (by omega) (by omega)];all_goals first|rfl|(show _=D.sl (Pat.cs _);rw[Pat.cs_cc];all_goals rfl)|(show _=Pat.cs _;rw[Pat.cs_cc];all_goals rfl)|(show _=D.sl [[D.i _,D.i _,D.i _,D.i _,D.i _,D.sl (Pat.cs _)]];rw[Pat.cs_cc];all_goals rfl))|(have hz:(ks,zm,zq)=namL (namP b n) p.kids m (if p.op=1 then q+1 else q):=(by rw[hqq];exact zlh hg1.2.2.2.2.2);rw[zuK (by omega) (fun hh=>by omega) hz (by omega)];all_goals first|rfl|(show _=D.sl (Pat.cs _);rw[Pat.cs_cc];all_goals rfl)|(show _=Pat.cs _;rw[Pat.cs_cc];all_goals rfl)|(show _=D.sl [[D.i _,D.i _,D.i _,D.i _,D.i _,D.sl (Pat.cs _)]];rw[Pat.cs_cc];all_goals rfl))))
def szP:Nat->Nat
 |0=>1
 |d+1=>1+3*szP d
theorem zvA (d:Nat):1<=szP d:=by cases d<;>simp only[szP]<;>omega
theorem zm3:anyP.size=1/\anyP.ok:=⟨by rw[Pat.size_eq];rfl,by rw[Pat.ok_iff];exact⟨by simp[anyP,Pat.kids],trivial⟩⟩
theorem zuy {f:Ty->Nat->Pat×Nat}{k:Nat}:∀(l:List Ty) (q:Nat),(∀t∈l,∀q,(f t q).1.size<=k/\(f t q).1.ok)->Pats.size (dA f l q).1<=l.length*k/\Pats.ok (dA f l q).1
 | [],q,_=>by simp[dA,Pats.size,Pats.ok]
 |t::r,q,h=>by
  have h1:=h t (by simp) q;have h2:=zuy r (f t q).2 (fun x hx=>h x (by simp[hx]));simp only[dA,xab,Nat.add_mul,Pats.size];exact⟨by omega,h1.2,h2.2⟩
theorem zk4 {b:Str}{w:List Data} (hf:Few w):∀(d:Nat) (t:Ty) (p:Nat),TyIn w.length t->(zaG b w d t p).1.size<=szP d/\(zaG b w d t p).1.ok
 |0,t,p,_=>by simp only[zaG,szP];have:=zm3;exact⟨by omega,this.2⟩
 |d+1,⟨a,k⟩,p,ht=>by
  have ih:=fun t p ht=>zk4 (b:=b) hf d t p ht;have ha:=zm3;have hp:=zvA d;simp only[szP];by_cases c1:d=0
  ·rw[zqL c1];exact⟨by dsimp only;omega,ha.2⟩
  by_cases c2:zal b p 4=0
  ·rw[zqM c1 c2];exact⟨by dsimp only;omega,ha.2⟩
  by_cases c3:zal b (p+1) 6=0
  ·rw[zqN c1 c2 c3];have h1:=ih ⟨a,k⟩ (p+2) ht;have h2:=ih ⟨a,k⟩ (zaG b w d ⟨a,k⟩ (p+2)).2 ht;refine⟨?_, ?_⟩
   ·dsimp only;rw[Pat.size_eq];simp only[Pat.kids,Pats.size];omega
   ·dsimp only;rw[Pat.ok_iff];exact⟨by simp[Pat.kids],h1.2,h2.2,trivial⟩
  by_cases c4:a = -1
  ·rw[zqO c1 c2 c3 c4];refine⟨?_, ?_⟩
   ·dsimp only;rw[Pat.size_eq];simp only[Pat.kids,Pats.size];omega
   ·dsimp only;rw[Pat.ok_iff];exact⟨by simp[Pat.kids],trivial⟩
  by_cases c5:(zap w ⟨a,k⟩).length=0
  ·rw[zqP c1 c2 c3 c4 c5];exact⟨by dsimp only;omega,ha.2⟩
  ·rw[zqQ c1 c2 c3 c4 c5 rfl];have hm:=ziK (b:=b) (p:=p+2) c5;have h3:=hf ⟨a,k⟩ _ hm ht;have h1:=zuy (f:=zaG b w d) (k:=szP d) _ (p+3) (fun u hu q=>ih u q (h3.2 u hu));have h2:=zsz (f:=zaG b w d) (zab w ⟨a,k⟩ (nth (zap w ⟨a,k⟩) (zal b (p+2) (zap w ⟨a,k⟩).length).toNat)) (p+3);have h4:(zab w ⟨a,k⟩ (nth (zap w ⟨a,k⟩) (zal b (p+2) (zap w ⟨a,k⟩).length).toNat)).length*szP d<=3*szP d:=Nat.mul_le_mul_right _ h3.1;refine⟨?_, ?_⟩
   ·dsimp only;rw[Pat.size_eq];simp only[Pat.kids];omega
   ·dsimp only;rw[Pat.ok_iff];exact⟨by simp only[Pat.kids];omega,h1.2⟩
theorem zpS {b:Str}{p:Nat}{l:List Int} (h:1<=l.length):numV b p l∈l:=by
 have:=zbS (b:=b) (p:=p) (n:=(l.length:Int)) (by omega);exact zah (by omega)
theorem num4 (b:Str) (p:Nat):1<=numV b p [3,2,4,1]/\numV b p [3,2,4,1]<=4:=by
 have:=zpS (b:=b) (p:=p) (l:=[3,2,4,1]) (by simp);simp only[List.mem_cons,List.not_mem_nil,or_false] at this;omega
theorem zqa {d:Nat} (h:d<=4):szP d<=121/\bdP d<=200:=by
 have:d=0\/d=1\/d=2\/d=3\/d=4:=by omega
 rcases this with rfl|rfl|rfl|rfl|rfl<;>decide
def zc8 (b:Str) (w:List Data) (t:Ty) (p:Nat):Pat×Int×Nat:=
 namP b (zaG b w (numV b p [3,2,4,1]).toNat t (p+1)).1.size (zaG b w (numV b p [3,2,4,1]).toNat t (p+1)).1 0 (zaG b w (numV b p [3,2,4,1]).toNat t (p+1)).2
def zcw (b:Str) (w:List Data) (t:Ty) (p:Nat):Pat:=if isP w t (zc8 b w t p).1 then (zc8 b w t p).1 else anyP
theorem zjV {b:Str}{w:List Data} (hf:Few w){t:Ty} (ht:TyIn w.length t) (p:Nat):(zc8 b w t p).2.2<=p+500/\(zc8 b w t p).1.size<=242/\(zc8 b w t p).1.ok:=by
 have h4:=num4 b p;have hs:=zqa (d:=(numV b p [3,2,4,1]).toNat) (by omega);have h1:=zk4 (b:=b) hf (numV b p [3,2,4,1]).toNat t (p+1) ht;have h2:=zis (b:=b) hf (numV b p [3,2,4,1]).toNat t (p+1) ht;have h3:=znp (b:=b) (zaG b w (numV b p [3,2,4,1]).toNat t (p+1)).1.size (zaG b w (numV b p [3,2,4,1]).toNat t (p+1)).1 0 (zaG b w (numV b p [3,2,4,1]).toNat t (p+1)).2 (by omega) (by omega);obtain⟨_,_,n3,n4,n5⟩:=h3;exact⟨by unfold zc8;omega,by unfold zc8;omega,n5 h1.2⟩
theorem zmz {b:Str}{w:List Data} (hf:Few w){t:Ty} (ht:TyIn w.length t) (p:Nat):(zcw b w t p).size<=242/\(zcw b w t p).ok:=by
 have h:=zjV (b:=b) hf ht p;have ha:=zm3;unfold zcw;split
 ·exact⟨h.2.1,h.2.2⟩
 ·exact⟨by omega,ha.2⟩
theorem zii {b:Str}{w:List Data} (hb:b.length<=2000) (hw:WT w) (hf:Few w){a k:Int}{p:Nat} (hp:p<=100000) (ht:TyIn w.length ⟨a,k⟩):
  FnD Tryz.prog 72 [.ref 900 0,.d (zan w),.agg [.d (.i a),.d (.i k)]] [(900,some (rdB b p))]
   (.agg [.d (.i (zcw b w ⟨a,k⟩ p).op),.d (.i (zcw b w ⟨a,k⟩ p).ctor),.d (.i (zcw b w ⟨a,k⟩ p).n),.d (.i (zcw b w ⟨a,k⟩ p).m),.d (.i (zcw b w ⟨a,k⟩ p).var),.d (zaj (zcw b w ⟨a,k⟩ p).kids)]) [(900,some (rdB b (zc8 b w ⟨a,k⟩ p).2.2))]:=by
 have h4:=num4 b p;have hs:=zqa (d:=(numV b p [3,2,4,1]).toNat) (by omega);have h1:=zk4 (b:=b) hf (numV b p [3,2,4,1]).toNat ⟨a,k⟩ (p+1) ht;have h2:=zis (b:=b) hf (numV b p [3,2,4,1]).toNat ⟨a,k⟩ (p+1) ht;have hr:=zjV (b:=b) hf ht p;have hnum:=zbs (b:=b) (p:=p) (l:=[3,2,4,1]) hb (by omega) (by simp) (by simp);have hdr:=zeC hb hw hf (numV b p [3,2,4,1]).toNat (a:=a) (k:=k) (m:=numV b p [3,2,4,1]) (p:=p+1) (by omega) (by omega) (by omega) (by omega) ht;have hnm:=zfU hb (zaG b w (numV b p [3,2,4,1]).toNat ⟨a,k⟩ (p+1)).1.size (m:=0) (q:=(zaG b w (numV b p [3,2,4,1]).toNat ⟨a,k⟩ (p+1)).2) (Nat.le_refl _) h1.2 (by omega) (by omega) (by omega);have hsp:zcw b w ⟨a,k⟩ p=if isP w ⟨a,k⟩ (zc8 b w ⟨a,k⟩ p).1 then (zc8 b w ⟨a,k⟩ p).1 else anyP:=rfl
 rw[show namP b (zaG b w (numV b p [3,2,4,1]).toNat ⟨a,k⟩ (p+1)).1.size (zaG b w (numV b p [3,2,4,1]).toNat ⟨a,k⟩ (p+1)).1 0 (zaG b w (numV b p [3,2,4,1]).toNat ⟨a,k⟩ (p+1)).2=zc8 b w ⟨a,k⟩ p from rfl] at hnm;generalize numV b p [3,2,4,1]=m at *;refine bd Tryz.f72 28 [] [] fun w0 F0 own kept hk=>?_;refine bx 3005 ?_;refine ab 3006 tz28 ?_;refine tv ?_;refine si [0,1,2,3] [_,_,_,_] sl62 tz3 ?_;refine wd zdX (hnum) rfl rfl ⟨rfl,trivial⟩ ?_;refine wd zlD (hdr) rfl rfl ⟨rfl,trivial⟩ ?_;refine wd zo9 (hnm) rfl rfl ⟨rfl,trivial⟩ ?_;refine evd [] [] ?_;refine ab 3007 tz28 ?_;refine so ty28 ?_;refine evd [] [] ?_;refine dr ?_;refine wc zr3 (zj9 hw ht hr.2.2 (by omega)) rfl rfl ?_;refine ev ?_;refine sq ?_ ?_<;>intro h1 h1p h1s<;>(try simp only[Q] at h1p);refine bu [0] [_] st28 ?_;refine so ty28 ?_;refine tv ?_;refine rn [(900,some (rdB b (zc8 b w ⟨a,k⟩ p).2.2))] (.cons (.cellA ty28 rfl rfl rfl) .nil) (.agg (.cons (.eqd ?_) (.cons (.eqd ?_) (.cons (.eqd ?_) (.cons (.eqd ?_) (.cons (.eqd ?_) (.cons (.nild ?_) .nil))))))) ⟨rfl,rfl⟩ (SubO.get ⟨.inr ?_,⟨.inl rfl,trivial⟩⟩) (zax rfl);rotate_left 7;refine so ty28 ?_;refine tv ?_;refine rn [(900,some (rdB b (zc8 b w ⟨a,k⟩ p).2.2))] (.cons (.cellA ty28 rfl rfl rfl) .nil) (.agg (.cons (.eqd ?_) (.cons (.eqd ?_) (.cons (.eqd ?_) (.cons (.eqd ?_) (.cons (.eqd ?_) (.cons (.eqd ?_) .nil))))))) ⟨rfl,rfl⟩ (SubO.get ⟨.inr ?_,⟨.inl rfl,trivial⟩⟩) (zax rfl);rotate_left 7;all_goals (first|((first|(rw[hsp,if_neg (by rw[h1s];simp)];all_goals rfl)|(rw[hsp,if_pos h1s];all_goals rfl));done)|(rfl))
section
variable {c:Ctx}{all:Array Oper}{chk:List Rec->Prop}{os:List Oper}{recs:List Rec}{env:Env}{hp:Hp}{Q:St->Prop}
variable {d ty:Nat}{pos:String}{af:Array Edge}{g:Option (Nat×Bool)}{pg:List (Nat×AV)}{t yt:TypeId}{x y:Operand}
theorem xaB {id k e yb:Nat}{xs ys:List (List D)}{vy:AV}{ids:List Nat} (hkp:KeptIn c.kept ids) (hid:zaP id ids=false) (hne:xs++ys≠[]) (ht:SlT c.P t e k yb) (hz:ZeroT c.P e k) (hg:GH all env g pg) (hd:Nat.blt d c.n=true)
  (hx:opd env x=some (.gv id xs)) (hy:opd env y=some vy) (hyd:vy.toD=some (.sl ys)) (htok:getH hp id=some (.tok xs.length k)) (hky:∀y,y∈ys->y.length=k)
  (hb:(xs.length+ys.length)*yb<=140737488355328) (hm:xs.length+ys.length<=9223372036854775807)
  (hn:Walk c all chk os (zam (pg++(opF x (.gv id xs)++opF y vy)) [(id,.tok xs.length k)] [] ⟨some (d,.ms id (xs++ys).length),[(id,some (.box ((xs++ys).flatten.map .d)))]⟩::recs)
   ⟨(d,.ms id (xs++ys).length)::env,(id,some (.box ((xs++ys).flatten.map .d)))::hp⟩ Q):
  Walk c all chk (⟨some d,.call ⟨.builtin .append,#[x,y],#[t,t]⟩,ty,pos,af,g⟩::os) recs ⟨env,hp⟩ Q:=by
 refine⟨pg++(opF x (.gv id xs)++opF y vy),[(id,.tok xs.length k)],[],_, ?_,zau hg.facts (zau (zaU hx) (zaU hy)),hh1 htok,by simp,hn⟩;intro s a w hrel hp' hh _ K Q' hK;obtain⟨G,hr⟩:=hrel;have e1:=hr.opd (zaV hx (fun p hm=>hp' p (by simp[hm])));have e2:=hr.opd (zaV hy (fun p hm=>hp' p (by simp[hm])));obtain⟨i,z,z1,z2,z3⟩:=hz.out;obtain⟨v',w',G',hrun,hR,hA⟩:=zjg hr ht ⟨i,z1,z2,z3⟩ (hh1' hh) e1 (e2.toD hyd) hky hb hm ty;unfold wpO;rw[if_pos (hg.gf.wanted hr (fun p hm=>hp' p (by simp[hm])))];unfold Oper.wp;have:(execOp a.eval ⟨some d,.call ⟨.builtin .append,#[x,y],#[t,t]⟩,ty,pos,af,g⟩).run c.P w = .ok (.value v') w':=by
  simp only[execOp,resolve,invoke,builtin,Sem.run_bind,Sem.run_pure,Result.andThen_ok,List.map_toArray,xae,List.map_nil,hrun]
 rw[this,Oper.upon_value];have hV:Rel c ⟨(d,.gv id (xs++ys))::s.env,(id,some (.tok (xs.length+ys.length) k))::s.hp⟩ (a.put (some d) v') w':=⟨G',hR.put hA hd⟩;rcases Rel.fixV hkp d id k (xs:=xs++ys) (by simp[getE]) (by rw[zac,if_pos rfl,xaa]) hid hV with ⟨h,_⟩|⟨_,h⟩
 ·exact absurd h hne
 ·refine hK _ _ (h.congr (fun j=>?_) (fun j=>?_))
  ·show getE ((d,_)::s.env) j=getE ((d,_)::(d,_)::s.env) j
   simp only[getE];cases Nat.beq d j<;>rfl
  ·show getH ((id,_)::s.hp) j=getH ((id,_)::(id,_)::s.hp) j
   rw[zac,zac,zac];by_cases hj:j=id
   ·rw[if_pos hj,if_pos hj]
   ·rw[if_neg hj,if_neg hj,if_neg hj]
end
def zcY:Pat:=⟨2,0,0,0,0,[]⟩
def mutP (b:Str) (p:Pat) (q:Nat):Pat×Nat:=
 if zal b q 30=0 then (⟨numV b (q+1) [0,7,1,2,5],p.ctor,p.n,p.m,p.var,p.kids⟩,q+2)
 else if zal b q 30=1 then (⟨p.op,p.ctor,p.n,p.m,numV b (q+1) [6,-1,1],p.kids⟩,q+2)
 else if zal b q 30=2 then (⟨p.op,numV b (q+1) [9,-1,1],p.n,p.m,p.var,p.kids⟩,q+2)
 else if zal b q 30=3 then (⟨p.op,p.ctor,p.n,p.m,p.var,p.kids++[zcY]⟩,q+1)
 else if zal b q 30=4 then (⟨p.op,p.ctor,p.n,p.m,p.var,p.kids.set 0 zcY⟩,q+1)
 else if zal b q 30=5 then (⟨p.op,p.ctor,numV b (q+1) [10,-1,5],p.m,p.var,p.kids⟩,q+2)
 else (⟨p.op,p.ctor,p.n,p.m,p.var,p.kids⟩,q+1)
theorem put0 {l:List (List D)}{x:List D}{r:List (List D)}{v:List AV} (h:l=x::r) (hx:x.length=v.length):putC (l.flatten.map .d) 0 v=some (v++r.flatten.map .d):=by
 subst h;rw[List.flatten_cons,xaf];have key:∀(a b:List AV),a.length=b.length->∀(c:List AV),putC (a++c) 0 b=some (b++c):=by
  intro a;induction a with
  |nil=>intro b h c;cases b with
   |nil=>cases c<;>rfl
   |cons=>simp at h
  |cons y a ih=>intro b h c;cases b with
   |nil=>simp at h
   |cons z b=>
    have:=ih b (by simpa using h) c;simp only[xag,putC,this]
 exact key _ _ (by simpa using hx) _
theorem zwo {k:Nat}{v:List AV}{vd:List D}{r:List (List D)} (hv:toDL v=some vd) (hk:v.length=k) (hr:∀x∈r,x.length=k):zbt (r.length+1) k (v++r.flatten.map .d)=some (vd::r):=by
 have h1:cutC (v++r.flatten.map .d) 0 k=some v:=znR hk;have h2:(v++r.flatten.map AV.d).drop k=r.flatten.map .d:=by rw[<-hk];simp
 have h3:=zdf (f:=fun x:List D=>x) (k:=k) (l:=r) hr;have h4:(r.flatMap fun x=>x.map AV.d)=r.flatten.map .d:=by rw[List.map_flatten];rfl
 rw[h4,List.map_id'] at h3;simp only[zbt,h1,hv,h2,h3]
theorem xau (a b:List Pat):Pat.cs (a++b)=Pat.cs a++Pat.cs b:=by
 rw[Pat.cs_cc,Pat.cs_cc,Pat.cs_cc,xaf]
theorem zmN {b:Str} (hb:b.length<=2000){p:Pat}{q:Nat} (hq:q<=1000000) (hok:p.ok) (hc4:¬(zal b q 30=4/\p.kids≠[])):
  FnD Tryz.prog 90 [.ref 900 0,.agg [.d (.i p.op),.d (.i p.ctor),.d (.i p.n),.d (.i p.m),.d (.i p.var),.d (zaj p.kids)]] [(900,some (rdB b q))]
   (.agg [.d (.i (mutP b p q).1.op),.d (.i (mutP b p q).1.ctor),.d (.i (mutP b p q).1.n),.d (.i (mutP b p q).1.m),.d (.i (mutP b p q).1.var),.d (zaj (mutP b p q).1.kids)]) [(900,some (rdB b (mutP b p q).2))]:=by
 rw[Pat.ok_iff] at hok;have hkl:=Pat.cs_len p.kids;refine bd Tryz.f90 57 [] [] fun w0 F0 own kept hk=>?_;refine bx 3003 ?_;refine ab 3004 tz28 ?_;refine tv ?_;refine ab 3005 tz28 ?_;refine so ty28 ?_;refine tv ?_;refine xbi 1 sl26 .none rfl rfl ?_;refine ev ?_;refine ap sl26 zz28 rfl rfl rfl (by(intro x hx;exact Pat.cs_rows x hx)) (by simp[Pat.cs_len];omega) ?_;refine ev ?_;refine so ty26 ?_;refine tv ?_;refine wd zbB (zaI (p:=q) (n:=30) hb (by omega) (by omega)) rfl rfl ⟨rfl,trivial⟩ ?_;refine tv ?_;refine sq ?_ ?_<;>intro h1 h1p h1s<;>(try simp only[Q,Pat.cs_len] at h1p);refine si [0,1,2,3,4] [_,_,_,_,_] sl62 tz3 ?_;refine wd zdX (zbs (p:=q+1) (l:=[0,7,1,2,5]) hb (by omega) (by simp) (by simp)) rfl rfl ⟨rfl,trivial⟩ ?_;refine ev ?_;refine so ty3 ?_;refine tv ?_;refine so ty28 ?_;refine tv ?_;refine rn [(900,some (rdB b (mutP b p q).2))] (.cons (.cellA ty28 rfl rfl rfl) .nil) (.agg (.cons (.eqd ?_) (.cons (.eqd ?_) (.cons (.eqd ?_) (.cons (.eqd ?_) (.cons (.eqd ?_) (.cons (.gld ?_) .nil))))))) ⟨rfl,rfl⟩ (SubO.get ⟨.inr ?_,⟨.inl rfl,trivial⟩⟩) (zax rfl);rotate_left 7;refine sq ?_ ?_<;>intro h2 h2p h2s<;>(try simp only[Q,Pat.cs_len] at h2p);refine si [0,1,2] [_,_,_] sl62 tz3 ?_;refine wd zdX (zbs (p:=q+1) (l:=[6,-1,1]) hb (by omega) (by simp) (by simp)) rfl rfl ⟨rfl,trivial⟩ ?_;refine ev ?_;refine so ty3 ?_;refine tv ?_;refine so ty28 ?_;refine tv ?_;refine rn [(900,some (rdB b (mutP b p q).2))] (.cons (.cellA ty28 rfl rfl rfl) .nil) (.agg (.cons (.eqd ?_) (.cons (.eqd ?_) (.cons (.eqd ?_) (.cons (.eqd ?_) (.cons (.eqd ?_) (.cons (.gld ?_) .nil))))))) ⟨rfl,rfl⟩ (SubO.get ⟨.inr ?_,⟨.inl rfl,trivial⟩⟩) (zax rfl);rotate_left 7;refine sq ?_ ?_<;>intro h3 h3p h3s<;>(try simp only[Q,Pat.cs_len] at h3p);refine si [0,1,2] [_,_,_] sl62 tz3 ?_;refine wd zdX (zbs (p:=q+1) (l:=[9,-1,1]) hb (by omega) (by simp) (by simp)) rfl rfl ⟨rfl,trivial⟩ ?_;refine ev ?_;refine so ty3 ?_;refine tv ?_;refine so ty28 ?_;refine tv ?_;refine rn [(900,some (rdB b (mutP b p q).2))] (.cons (.cellA ty28 rfl rfl rfl) .nil) (.agg (.cons (.eqd ?_) (.cons (.eqd ?_) (.cons (.eqd ?_) (.cons (.eqd ?_) (.cons (.eqd ?_) (.cons (.gld ?_) .nil))))))) ⟨rfl,rfl⟩ (SubO.get ⟨.inr ?_,⟨.inl rfl,trivial⟩⟩) (zax rfl);rotate_left 7;refine sq ?_ ?_<;>intro h4 h4p h4s<;>(try simp only[Q,Pat.cs_len] at h4p);refine bu [0] [_] st28 ?_;refine si [0] [_] sl26 tz28 ?_;refine ap sl26 zz28 rfl rfl rfl (by(intro x hx;simp only[List.mem_singleton] at hx;subst hx;rfl)) (by simp[Pat.cs_len];omega) ?_;refine ev ?_;refine so ty26 ?_;refine tv ?_;refine so ty28 ?_;refine tv ?_;refine rn [(900,some (rdB b (mutP b p q).2))] (.cons (.cellA ty28 rfl rfl rfl) .nil) (.agg (.cons (.eqd ?_) (.cons (.eqd ?_) (.cons (.eqd ?_) (.cons (.eqd ?_) (.cons (.eqd ?_) (.cons (.gld ?_) .nil))))))) ⟨rfl,rfl⟩ (SubO.get ⟨.inr ?_,⟨.inl rfl,trivial⟩⟩) (zax rfl);rotate_left 7;refine sq ?_ ?_<;>intro h5 h5p h5s<;>(try simp only[Q,Pat.cs_len] at h5p);refine sq ?_ ?_<;>intro h6 h6p h6s<;>(try simp only[Q,Pat.cs_len] at h6p);exfalso;apply hc4;refine⟨by omega,fun hh=>?_⟩;rw[hh] at h6p;exact absurd h6p (by decide);refine so ty28 ?_;refine tv ?_;refine rn [(900,some (rdB b (mutP b p q).2))] (.cons (.cellA ty28 rfl rfl rfl) .nil) (.agg (.cons (.eqd ?_) (.cons (.eqd ?_) (.cons (.eqd ?_) (.cons (.eqd ?_) (.cons (.eqd ?_) (.cons (.gld ?_) .nil))))))) ⟨rfl,rfl⟩ (SubO.get ⟨.inr ?_,⟨.inl rfl,trivial⟩⟩) (zax rfl);rotate_left 7;refine sq ?_ ?_<;>intro h7 h7p h7s<;>(try simp only[Q,Pat.cs_len] at h7p);refine si [0,1,2] [_,_,_] sl62 tz3 ?_;refine wd zdX (zbs (p:=q+1) (l:=[10,-1,5]) hb (by omega) (by simp) (by simp)) rfl rfl ⟨rfl,trivial⟩ ?_;refine ev ?_;refine so ty3 ?_;refine tv ?_;refine so ty28 ?_;refine tv ?_;refine rn [(900,some (rdB b (mutP b p q).2))] (.cons (.cellA ty28 rfl rfl rfl) .nil) (.agg (.cons (.eqd ?_) (.cons (.eqd ?_) (.cons (.eqd ?_) (.cons (.eqd ?_) (.cons (.eqd ?_) (.cons (.gld ?_) .nil))))))) ⟨rfl,rfl⟩ (SubO.get ⟨.inr ?_,⟨.inl rfl,trivial⟩⟩) (zax rfl);rotate_left 7;refine so ty28 ?_;refine tv ?_;refine rn [(900,some (rdB b (mutP b p q).2))] (.cons (.cellA ty28 rfl rfl rfl) .nil) (.agg (.cons (.eqd ?_) (.cons (.eqd ?_) (.cons (.eqd ?_) (.cons (.eqd ?_) (.cons (.eqd ?_) (.cons (.gld ?_) .nil))))))) ⟨rfl,rfl⟩ (SubO.get ⟨.inr ?_,⟨.inl rfl,trivial⟩⟩) (zax rfl);rotate_left 7;all_goals (((unfold mutP;first|(rw[if_pos (by omega)];all_goals first|rfl|(show _=Pat.cs (p.kids++[zcY]);rw[xau];all_goals rfl))|(rw[if_neg (by omega),if_pos (by omega)];all_goals first|rfl|(show _=Pat.cs (p.kids++[zcY]);rw[xau];all_goals rfl))|(rw[if_neg (by omega),if_neg (by omega),if_pos (by omega)];all_goals first|rfl|(show _=Pat.cs (p.kids++[zcY]);rw[xau];all_goals rfl))|(rw[if_neg (by omega),if_neg (by omega),if_neg (by omega),if_pos (by omega)];all_goals first|rfl|(show _=Pat.cs (p.kids++[zcY]);rw[xau];all_goals rfl))|(have hnk:p.kids=[]:=(by rcases hke:p.kids with _|⟨y,r⟩;rfl;exact absurd ⟨by omega,by rw[hke];simp⟩ hc4);rw[if_neg (by omega),if_neg (by omega),if_neg (by omega),if_neg (by omega),if_pos (by omega),hnk];all_goals rfl)|(rw[if_neg (by omega),if_neg (by omega),if_neg (by omega),if_neg (by omega),if_pos (by omega)];all_goals first|rfl|(show _=Pat.cs (p.kids++[zcY]);rw[xau];all_goals rfl))|(rw[if_neg (by omega),if_neg (by omega),if_neg (by omega),if_neg (by omega),if_neg (by omega),if_pos (by omega)];all_goals first|rfl|(show _=Pat.cs (p.kids++[zcY]);rw[xau];all_goals rfl))|(rw[if_neg (by omega),if_neg (by omega),if_neg (by omega),if_neg (by omega),if_neg (by omega),if_neg (by omega)];all_goals first|rfl|(show _=Pat.cs (p.kids++[zcY]);rw[xau];all_goals rfl)));done))
theorem zmO {b:Str} (hb:b.length<=2000){p:Pat}{q:Nat} (hq:q<=1000000) (hok:p.ok) (hc4:zal b q 30=4){y:Pat}{r:List Pat} (hk4:p.kids=y::r):
  FnD Tryz.prog 90 [.ref 900 0,.agg [.d (.i p.op),.d (.i p.ctor),.d (.i p.n),.d (.i p.m),.d (.i p.var),.d (zaj p.kids)]] [(900,some (rdB b q))]
   (.agg [.d (.i (mutP b p q).1.op),.d (.i (mutP b p q).1.ctor),.d (.i (mutP b p q).1.n),.d (.i (mutP b p q).1.m),.d (.i (mutP b p q).1.var),.d (zaj (mutP b p q).1.kids)]) [(900,some (rdB b (mutP b p q).2))]:=by
 rw[Pat.ok_iff] at hok;have hkl:=Pat.cs_len p.kids;have hcs:Pat.cs p.kids=y.cc::Pat.cs r:=by rw[Pat.cs_cc,hk4,xae,<-Pat.cs_cc]
 have hrl:(Pat.cs p.kids).length=(Pat.cs r).length+1:=by rw[hcs];rfl
 have hmu:mutP b p q=(⟨p.op,p.ctor,p.n,p.m,p.var,zcY::r⟩,q+1):=by
  unfold mutP;rw[if_neg (by omega),if_neg (by omega),if_neg (by omega),if_neg (by omega),if_pos hc4,hk4];rfl
 refine bd Tryz.f90 57 [] [17] fun w0 F0 own kept hk=>?_;refine bx 3003 ?_;refine ab 3004 tz28 ?_;refine tv ?_;refine ab 3005 tz28 ?_;refine so ty28 ?_;refine tv ?_;refine xbk 1 sl26 .none rfl rfl ?_;refine ev ?_;refine xaB hk rfl (by rw[hcs];simp) sl26 zz28 .none rfl rfl rfl rfl (zfk rfl (by rfl)) (by intro x hx;exact Pat.cs_rows x hx) (by simp[Pat.cs_len];omega) (by simp[Pat.cs_len];omega) ?_;refine ev ?_;refine so ty26 ?_;refine tv ?_;refine wd zbB (zaI (p:=q) (n:=30) hb (by omega) (by omega)) rfl rfl ⟨rfl,trivial⟩ ?_;refine tv ?_;refine sq ?_ ?_<;>intro h1 h1p h1s<;>(try simp only[Q,Pat.cs_len] at h1p);exfalso;omega;refine sq ?_ ?_<;>intro h2 h2p h2s<;>(try simp only[Q,Pat.cs_len] at h2p);exfalso;omega;refine sq ?_ ?_<;>intro h3 h3p h3s<;>(try simp only[Q,Pat.cs_len] at h3p);exfalso;omega;refine sq ?_ ?_<;>intro h4 h4p h4s<;>(try simp only[Q,Pat.cs_len] at h4p);exfalso;omega;refine sq ?_ ?_<;>intro h5 h5p h5s<;>(try simp only[Q,Pat.cs_len] at h5p);refine sq ?_ ?_<;>intro h6 h6p h6s<;>(try simp only[Q,Pat.cs_len] at h6p);refine bu [0] [_] st28 ?_;refine xaY (i:=0) sl26 .none rfl rfl rfl rfl (by simp;omega) ?_;refine Walk.store ty28 .none rfl rfl rfl rfl rfl rfl (by simp) ((put0 hcs rfl)) ?_;refine tv ?_;refine CWp.frzC hk 3005 5 1 _ 6 rfl rfl rfl rfl rfl (by rw[List.nil_append,hrl];exact zwo rfl rfl (fun x hx=>Pat.cs_rows x hx)) rfl ?_;refine evc [] [] ?_;refine so ty28 ?_;refine tv ?_;refine rn [(900,some (rdB b (mutP b p q).2))] (.cons (.cellA ty28 rfl rfl rfl) .nil) (.agg (.cons (.eqd ?_) (.cons (.eqd ?_) (.cons (.eqd ?_) (.cons (.eqd ?_) (.cons (.eqd ?_) (.cons (.eqd ?_) .nil))))))) ⟨rfl,rfl⟩ (SubO.get ⟨.inr ?_,⟨.inl rfl,trivial⟩⟩) (zax rfl);rotate_left 7;exfalso;rw[List.nil_append,hrl] at h6p;omega;exfalso;omega;all_goals (((rw[hmu];all_goals rfl);done))
theorem zls {b:Str} (hb:b.length<=2000){p:Pat}{q:Nat} (hq:q<=1000000) (hok:p.ok):
  FnD Tryz.prog 90 [.ref 900 0,.agg [.d (.i p.op),.d (.i p.ctor),.d (.i p.n),.d (.i p.m),.d (.i p.var),.d (zaj p.kids)]] [(900,some (rdB b q))]
   (.agg [.d (.i (mutP b p q).1.op),.d (.i (mutP b p q).1.ctor),.d (.i (mutP b p q).1.n),.d (.i (mutP b p q).1.m),.d (.i (mutP b p q).1.var),.d (zaj (mutP b p q).1.kids)]) [(900,some (rdB b (mutP b p q).2))]:=by
 by_cases h:zal b q 30=4/\p.kids≠[]
 ·cases hk:p.kids with
  |nil=>exact absurd hk h.2
  |cons y r=>rw[<-hk];exact zmO hb hq hok h.1 hk
 ·exact zmN hb hq hok h
theorem FnD.boxD {P:Program}{f:FuncId}{i n k:Nat}{args:List AV}{cs:List AV}{es:List (List D)} (hc:zbt n k (cs.take (n*k))=some es) (h:FnD P f args [] (.ms i n) [(i,some (.box cs))]):FnD P f args [] (.d (.sl es)) []:=by
 intro G w vals hok;refine(h G w vals hok).mono ?_;rintro e w' ⟨v,r',hp',G',rfl,⟨rfl,rfl⟩,hret⟩
 have gi:getH ([(i,some (Res.box cs))]++[]) i=some (.box cs):=by simp[getH]
 obtain⟨b,us,et,q1,q2,q3,q4,q5⟩:=hret.heap i _ gi;have hown:∀b,b∉zcP G []:=fun b hb=>by simp[zcP] at hb
 have hnew:w.heap.size<=b:=(hret.new i (by rw[gi];rfl) b (by rw[q1];simp)).resolve_left (hown b);have hlt:b<w'.heap.size:=by
  rcases Nat.lt_or_ge b w'.heap.size with h|h
  ·exact h
  ·rw[Array.getElem?_eq_none h] at q2;cases q2
 let G2:Gh:={ G' with F:=fun x=>bif Nat.beq x b then us.size else G'.F x }
 have hin:G2.F b=us.size:=by simp[G2]
 have hout:∀x,x≠b->G2.F x=G'.F x:=fun x hx=>by
  have:Nat.beq x b=false:=by
   cases h:Nat.beq x b with
   |true=>exact absurd (Nat.eq_of_beq_eq_true h) hx
   |false=>rfl
  simp[G2,this]
 have hle:∀x o,o<G'.F x->o<G2.F x:=fun x o ho=>by
  by_cases hx:x=b
  ·subst hx;rw[q4] at ho;omega
  ·rw[hout x hx];exact ho
 refine⟨v,_,_,G2,rfl,⟨rfl,rfl⟩,zve hret.res q1 q2 q3 q5 hin (fun y o ho=>⟨hle y o ho,rfl⟩) hc,fun id x hx=>(by cases hx),fun id id' h1=>(by cases h1),fun id h1=>(by cases h1), ?_,fun x hx=>?_,fun id hi=>(by simp[zbY,getH] at hi)⟩
 ·have hf:=hret.frm;exact⟨hf.os,hf.tape,hf.output,hf.size,fun x hx hn=>⟨(hf.block x hx hn).1,by rw[hout x (by omega)];exact(hf.block x hx hn).2⟩,fun x o ho=>⟨hle x o (hf.cell x o ho).1,(hf.cell x o ho).2⟩⟩
 ·rw[hout x (by omega)];exact hret.top x hx
def pd (s:List Pat):List AV:=(s.map Pat.cc).flatten.map .d
theorem ze9 (a b:List Pat):pd (a++b)=pd a++pd b:=by simp[pd]
theorem zmr (x:Pat):pd [x]=[.d (.i x.op),.d (.i x.ctor),.d (.i x.n),.d (.i x.m),.d (.i x.var),.d (zaj x.kids)]:=rfl
theorem zia (s:List Pat):(pd s).length=s.length*6:=by
 induction s with
 |nil=>rfl
 |cons x r ih=>rw[show x::r=[x]++r from rfl,ze9,xaa,ih,zmr];simp;omega
theorem zpW {s:List Pat}{i:Nat} (h:i<s.length):pd s=pd (s.take i)++(pd [nth s i]++pd (s.drop (i+1))):=by
 rw[<-ze9,<-ze9];congr 1
 rw[show [nth s i]++s.drop (i+1)=nth s i::s.drop (i+1) from rfl,<-zaN h,List.take_append_drop]
theorem zh9 (s:List Pat):AV.idsL (pd s)=[]:=by
 unfold pd;induction (s.map Pat.cc).flatten with
 |nil=>rfl
 |cons x r ih=>rw[xae,AV.idsL,ih];rfl
theorem zsZ {s:List Pat}{i:Nat} (h:i<s.length):cutC (pd s) (i*6) 6=some [.d (.i (nth s i).op),.d (.i (nth s i).ctor),.d (.i (nth s i).n),.d (.i (nth s i).m),.d (.i (nth s i).var),.d (zaj (nth s i).kids)]:=by
 rw[zpW h,zsy (by rw[zia,List.length_take];omega) (r:=pd [nth s i])]
 ·rfl
 ·rw[zmr];first|exact zu6|(simp[cutC];done)
theorem zwD {s:List Pat}{i:Nat} (h:i<s.length){t:Pat}:putC (pd s) (i*6) [.d (.i t.op),.d (.i t.ctor),.d (.i t.n),.d (.i t.m),.d (.i t.var),.d (zaj t.kids)]=some (pd (s.set i t)):=by
 rw[zpW h,zs2 (by rw[zia,List.length_take];omega) (B':=pd [t]++pd (s.drop (i+1))) (by rw[zmr,zmr];simp[putC])];rw[List.set_eq_take_append_cons_drop,if_pos h,<-ze9,<-ze9];rfl
abbrev z6:List AV:=[.d (.i 0),.d (.i 0),.d (.i 0),.d (.i 0),.d (.i 0),.nils]
theorem zvq {s:List Pat}{i n:Nat} (hn:s.length=n) (h:i<=n):putC (pd s) (i*6) (za3 (n-i) z6)=some (pd (s.take i)++za3 (n-i) z6):=by
 subst hn;have e:pd s=pd (s.take i)++(pd (s.drop i)++[]):=by
  rw[List.append_nil,<-ze9,List.take_append_drop]
 have e2:putC (pd (s.take i)++(pd (s.drop i)++[])) (i*6) (za3 (s.length-i) z6)=some (pd (s.take i)++(za3 (s.length-i) z6++[])):=by
  rw[ztZ (by rw[zia,List.length_take];omega) ?_];rw[zia,List.length_drop,zeD];rfl
 rw[<-e,List.append_nil] at e2;exact e2
theorem ztW {s:List Pat}{tl:List AV}:zbt s.length 6 ((pd s++tl).take (s.length*6))=some (s.map Pat.cc):=by
 rw[List.take_append_of_le_length (by rw[zia];exact Nat.le_refl _),List.take_of_length_le (by rw[zia];exact Nat.le_refl _)];have:=zdf (f:=Pat.cc) (k:=6) (l:=s) (fun _ _=>rfl);rw[<-this];congr 1
 unfold pd;induction s with
 |nil=>rfl
 |cons x r ih=>
  simp only[xae,List.flatten_cons,xaf,List.flatMap_cons];exact congrArg (_++·) (ih (zdf (fun _ _=>rfl)))
theorem Pat.cs_ccs (l:List Pat):Pat.cs l=l.map Pat.cc:=by
 rw[Pat.cs_eq];exact List.map_congr_left (fun v _=>Pat.c_eq v)
theorem Ex.cs_ccs (l:List Ex):Ex.cs l=l.map Ex.cc:=by
 rw[Ex.cs_eq];exact List.map_congr_left (fun v _=>Ex.c_eq v)
theorem zeE {xs:List Pat}{f:Nat}{caps:List AV}{hp:Hp}{p:Pat->Bool} (hs:xs.length<=1000000000000) (hcal:Callee Tryz.prog f)
  (hf:∀t∈xs,FnD Tryz.prog f ([.agg [.d (.i t.op),.d (.i t.ctor),.d (.i t.n),.d (.i t.m),.d (.i t.var),.d (zaj t.kids)]]++caps) hp (.d (.bool (p t))) []) (k1:subH hp hp) (k2:zex hp=true) (k3:za2 hp [] (.d .nilp) []=true):
  FnD Tryz.prog 152 [.d (zaj xs),.fn f caps] hp (.d (.i (idxF p xs 0))) []:=by
 rw[show zaj xs=D.sl (xs.map Pat.cc) by show D.sl (Pat.cs xs)=_;rw[Pat.cs_ccs]];refine bd Tryz.f152 19 [] [] fun w0 F0 own kept hk=>?_;refine xak (ι:=List (Pat)×List (Pat)) hk (fun x=>[(8,.d (.i (x.1.length:Int)))]) [4,5,9,10,11,12,13,14,15,16,17,18] (fun x=>[]) (fun x=>x.1++x.2=xs/\idxF p x.2 x.1.length=idxF p xs 0) (fun x=>x.2.length) ([],xs) ⟨by simp,rfl⟩ ⟨⟨_,rfl,xar ?_⟩,trivial⟩ trivial (fun x=>zik hp) (fun x hg1=>?_);focus (first|rfl|(simp;done)|(simp_all;done)|omega)
 obtain⟨pre,rest⟩:=x;dsimp only at hg1 ⊢;refine evc [] [] ?_;refine sq ?_ ?_<;>intro h1 h1p h1s<;>(try simp only[Q] at h1p);rcases rest with _|⟨y,rest⟩
 ·exfalso;simp_all
 refine xaU sl26 .none rfl rfl rfl rfl (zaE hg1.1) rfl ?_;refine ev ?_;refine xaK (cr:=[]) hcal (hf y (by rw[<-hg1.1];simp)) rfl .none rfl rfl rfl (LeL.refl _) k1 k2 (zdL k3 _) rfl ?_;refine tv ?_;refine sq ?_ ?_<;>intro h2 h2p h2s<;>(try simp only[Q] at h2p);focus (refine rn [] (r1 rfl) (.eqd ?_) ⟨rfl,rfl⟩ (fun _ _ h=>h) (fun _ h=>h);all_goals (rw[<-hg1.2];simp[idxF,h1s,h1p,h2s,h2p]))
 refine ar ?_;refine xah ((pre++[y],rest)) ⟨⟨(by have hz:=hg1.1;rw[<-hz];simp),(by rw[<-hg1.2];simp[idxF,h2s])⟩,(by simp),Sub.x (by kernel_rfl) (by kernel_rfl) ⟨⟨_,rfl,xar ?_⟩,trivial⟩ (by simp) (by simp[zdS]) trivial⟩;focus (first|rfl|(simp;done)|(simp_all;done)|omega)
 have hrest:rest=[]:=by
  rcases rest with _|⟨a,b⟩
  ·rfl
  ·exfalso;have hz:=congrArg List.length (hg1.1);simp only[xaa,xab,xac] at hz;omega
 subst hrest;focus (refine rn [] (r1 rfl) (.eqd ?_) ⟨rfl,rfl⟩ (fun _ _ h=>h) (fun _ h=>h);all_goals (rw[<-hg1.2];simp[idxF,h1s,h1p]))
theorem zgp {xs:List Pat}{f:Nat}{caps:List AV}{hp:Hp}{p:Pat->Bool} (hs:xs.length<=1000000000000) (hcal:Callee Tryz.prog f)
  (hf:∀t∈xs,FnD Tryz.prog f ([.agg [.d (.i t.op),.d (.i t.ctor),.d (.i t.n),.d (.i t.m),.d (.i t.var),.d (zaj t.kids)]]++caps) hp (.d (.bool (p t))) []) (k1:subH hp hp) (k2:zex hp=true) (k3:za2 hp [] (.d .nilp) []=true):
  FnD Tryz.prog 94 [.d (zaj xs),.fn f caps] hp (.d (.bool (xs.any p))) []:=by
 refine bd Tryz.f94 9 [] [] fun w0 F0 own kept hk=>?_;refine Walk.call (cr:=[]) zlG (zeE hs hcal hf k1 k2 k3) rfl .none rfl rfl (LeL.refl _) k1 k2 (zdL k3 _) rfl ?_;refine ev ?_;refine rn [] (r1 rfl) (.eqd ?_) ⟨rfl,rfl⟩ (fun _ _ h=>h) (fun _ h=>h);rotate_left;all_goals (exact congrArg D.bool (zfH p xs 0))
theorem zeK {xs:List Pat}{f:Nat}{B2 B3:List AV}{p:Pat->Bool} (hs:xs.length<=1000000000000) (hcal:Callee Tryz.prog f) (hB2:AV.idsL B2=[]) (hB3:AV.idsL B3=[])
  (hf:∀t∈xs,FnD Tryz.prog f [.agg [.d (.i t.op),.d (.i t.ctor),.d (.i t.n),.d (.i t.m),.d (.i t.var),.d (zaj t.kids)],.ref 3003 0,.ref 3004 0] [(3003,some (.box B2)),(3004,some (.box B3))] (.d (.bool (p t))) []):
  FnD Tryz.prog 152 [.ms 1 xs.length,.fn f [.ref 3003 0,.ref 3004 0]] [(1,some (.box (pd xs))),(3003,some (.box B2)),(3004,some (.box B3))] (.d (.i (idxF p xs 0))) []:=by
 refine bd Tryz.f152 19 [15] [] fun w0 F0 own kept hk=>?_;refine xak (ι:=Nat) hk (fun i=>[(8,.d (.i (i:Int)))]) [4,5,9,10,11,12,13,14,15,16,17,18] (fun i=>[]) (fun i=>i<=xs.length/\idxF p (xs.drop i) i=idxF p xs 0) (fun i=>xs.length-i) 0 ⟨by omega,rfl⟩ ⟨⟨_,rfl,xar ?_⟩,trivial⟩ trivial (fun x=>rfl) (fun i hg1=>?_);focus (rfl)
 refine evc [15] [] ?_;refine sq ?_ ?_<;>intro h1 h1p h1s<;>(try simp only[Q] at h1p);refine xaY sl26 .none rfl rfl rfl rfl (by first|omega|(simp ;omega)) ?_;refine xa1 ty28 .none rfl rfl rfl ((zsZ (by omega))) ?_;refine xaK (cr:=[]) hcal (hf (nth xs i) (zah (by omega))) rfl .none rfl rfl rfl (LeL.refl _) ⟨rfl,rfl,trivial⟩ rfl (by simp only[za2,List.all_cons,List.all_nil,zbQ,zbz,AV.idsL,AV.ids,hB2,hB3,xae,List.map_nil];rfl) rfl ?_;refine tv ?_;refine sq ?_ ?_<;>intro h2 h2p h2s<;>(try simp only[Q] at h2p);focus (refine rn [] (r1 rfl) (.eqd ?_) ⟨rfl,rfl⟩ (SubH.get ⟨rfl,⟨rfl,⟨rfl,trivial⟩⟩⟩) (fun _ h=>h);all_goals ((rw[<-hg1.2,zaN (by omega)];simp[idxF,h1s,h1p,h2s,h2p];done)))
 refine ar ?_;refine xah (i+1) ⟨⟨by omega,(by rw[<-hg1.2,zaN (l:=xs) (i:=i) (by omega)];simp_all[idxF])⟩,(by omega),sx ⟨⟨_,rfl,xar ?_⟩,trivial⟩ trivial⟩;focus (rfl)
 focus (refine rn [] (r1 rfl) (.eqd ?_) ⟨rfl,rfl⟩ (SubH.get ⟨rfl,⟨rfl,⟨rfl,trivial⟩⟩⟩) (fun _ h=>h);all_goals ((rw[<-hg1.2,List.drop_eq_nil_of_le (by omega)];rfl)))
theorem zhq {xs:List Pat}{f:Nat}{B2 B3:List AV}{p:Pat->Bool} (hs:xs.length<=1000000000000) (hcal:Callee Tryz.prog f) (hB2:AV.idsL B2=[]) (hB3:AV.idsL B3=[])
  (hf:∀t∈xs,FnD Tryz.prog f [.agg [.d (.i t.op),.d (.i t.ctor),.d (.i t.n),.d (.i t.m),.d (.i t.var),.d (zaj t.kids)],.ref 3003 0,.ref 3004 0] [(3003,some (.box B2)),(3004,some (.box B3))] (.d (.bool (p t))) []):
  ∃tl:List AV,AV.idsL tl=[]/\FnD Tryz.prog 146 [.ms 1 xs.length,.fn f [.ref 3003 0,.ref 3004 0]] [(1,some (.box (pd xs))),(3003,some (.box B2)),(3004,some (.box B3))]
   (.ms 1 (xs.filter fun t=> !p t).length) [(1,some (.box (pd (xs.filter fun t=> !p t)++tl)))]:=by
 have hok3:za2 [(1,some (.box (pd xs))),(3003,some (.box B2)),(3004,some (.box B3))] [] (.d .nilp) []=true:=by
  simp only[za2,List.all_cons,List.all_nil,zbQ,zbz,AV.idsL,AV.ids,zh9,hB2,hB3,xae,List.map_nil];rfl
 rcases zn3 p xs 0 with ⟨hi,hall⟩|⟨k,hi,hk1,hk2⟩
 ·have hfil:(xs.filter fun t=> !p t)=xs:=List.filter_eq_self.2 (fun x hx=>by simp[hall x hx]);refine⟨[],rfl, ?_⟩;rw[hfil,List.append_nil];refine bd Tryz.f146 42 [] [] fun w0 F0 own kept hk=>?_;refine Walk.call (cr:=[]) zlG (zeK hs hcal hB2 hB3 hf) rfl .none rfl rfl (.cons (xat (by first|rfl|(simp;done))) (.cons (.refl _) .nil)) ⟨rfl,rfl,rfl,trivial⟩ rfl (zdL hok3 _) rfl ?_;refine ev ?_;refine sq ?_ ?_<;>intro h1 h1p h1s<;>(try simp only[Q] at h1p);refine rn [(1,some (.box (pd xs)))] (r1 rfl) (.refl _) ⟨rfl,rfl⟩ (SubO.get ⟨.inr ?_,⟨.inl rfl,⟨.inr rfl,⟨.inr rfl,trivial⟩⟩⟩⟩) (zax rfl);rotate_left;exfalso;simp[hi] at h1;all_goals (((first|rfl|(simp;done));done))
 ·skip
  have hlen:(xs.filter fun t=> !p t).length<=xs.length:=List.length_filter_le _ _;refine⟨za3 (xs.length-(xs.filter fun t=> !p t).length) z6,ziV rfl, ?_⟩;refine bd Tryz.f146 42 [25] [] fun w0 F0 own kept hk=>?_;refine Walk.call (cr:=[]) zlG (zeK hs hcal hB2 hB3 hf) rfl .none rfl rfl (.cons (xat (by first|rfl|(simp;done))) (.cons (.refl _) .nil)) ⟨rfl,rfl,rfl,trivial⟩ rfl (zdL hok3 _) rfl ?_;refine evs [25] [] ?_;refine sq ?_ ?_<;>intro h1 h1p h1s<;>(try simp only[Q] at h1p);exfalso;simp[hi] at h1<;>omega;refine ar ?_;refine xak (ι:=List Pat×Nat×Nat) hk (fun x=>[(6,.d (.i (x.2.1:Int))),(5,.d (.i (x.2.2:Int)))]) [7,16,17,18,19,20,21,22,23,24,25,26,27,28,29,30,31,32,33,34,35] (fun x=>[(1,some (.box (pd x.1)))]) (fun x=>x.1.length=xs.length/\x.2.1<=xs.length/\x.2.2<=x.2.1/\x.1.take x.2.2=(xs.take x.2.1).filter (fun t=> !p t)/\x.1.drop x.2.1=xs.drop x.2.1) (fun x=>xs.length-x.2.1) (xs,k+1,k) ⟨rfl,by dsimp only;omega,by dsimp only;omega,hk2.symm,rfl⟩ ⟨⟨_,rfl,xar ?_⟩,⟨⟨_,rfl,xar ?_⟩,trivial⟩⟩ ⟨?_,trivial⟩ (fun x=>rfl) (fun x hg1=>?_);iterate 2 focus ((simp_all;done))
  focus (rfl)
  refine evc [25] [] ?_;refine sq ?_ ?_<;>intro h2 h2p h2s<;>(try simp only[Q] at h2p);refine xaY sl26 .none rfl rfl rfl rfl (by first|omega|(simp ;omega)) ?_;refine xa1 ty28 .none rfl rfl rfl (((zsZ (s:=x.1) (by omega)).trans (by rw[zqs hg1.2.2.2.2 hg1.1 (by omega)]))) ?_;refine Walk.alloc (id:=3007) tz28 rfl .none rfl (by(simp only[zaw,occH,occE,Res.ids,xag,List.nil_append,AV.idsL,AV.ids,zag,zaf,zaq,zaF,xae,List.map_nil,upC,hB2,hB3,zh9];rfl)) (by(simp only[zaw,occH,occE,Res.ids,xag,List.nil_append,AV.idsL,AV.ids,zag,zaf,zaq,zaF,xae,List.map_nil,upC,hB2,hB3,zh9];rfl)) (by(simp only[zaw,occH,occE,Res.ids,xag,List.nil_append,AV.idsL,AV.ids,zag,zaf,zaq,zaF,xae,List.map_nil,upC,hB2,hB3,zh9];rfl)) ?_;refine so ty28 ?_;refine tv ?_;refine xaK (cr:=[]) hcal (hf (nth xs x.2.1) (zah (by omega))) rfl .none rfl rfl rfl (LeL.refl _) ⟨rfl,rfl,trivial⟩ rfl (by simp only[za2,List.all_cons,List.all_nil,zbQ,zbz,AV.idsL,AV.ids,hB2,hB3,xae,List.map_nil];rfl) rfl ?_;refine evs [25] [] ?_;refine sq ?_ ?_<;>intro h3 h3p h3s<;>(try simp only[Q] at h3p);refine xaY sl26 .none rfl rfl rfl rfl (by first|omega|(simp ;omega)) ?_;refine Walk.store ty28 .none rfl rfl rfl rfl rfl rfl (by simp) ((zwD (by omega))) ?_;refine tv ?_;refine ar ?_;refine ar ?_;refine xah ((if p (nth xs x.2.1) then x.1 else x.1.set x.2.2 (nth xs x.2.1),x.2.1+1,if p (nth xs x.2.1) then x.2.2 else x.2.2+1)) ⟨(by
      obtain⟨g1,g2,g3,g4,g5⟩:=hg1;have hlt:x.2.1<xs.length:=by omega
      have h7:=zg5 (p:=fun t=> !p t) hlt;refine⟨by dsimp only;split<;>simp[g1],by dsimp only;omega,by dsimp only;split<;>omega, ?_, ?_⟩
      ·dsimp only;rw[h7,<-g4];cases hp:p (nth xs x.2.1) with
       |true=>simp
       |false=>simp only[Bool.false_eq_true,if_false,Bool.not_false,if_true];rw[zi5 (by omega)]
      ·dsimp only;split
       ·exact zhv g5
       ·(rw[zoC g3];exact zhv g5)),(by dsimp only;omega),sx ⟨⟨_,rfl,xar ?_⟩,⟨⟨_,rfl,xar ?_⟩,trivial⟩⟩ ⟨?_,trivial⟩⟩
  iterate 2 focus ((simp_all;done))
  focus ((show some (Res.box _)=some (Res.box _);dsimp only;split<;>first|rfl|(exfalso;simp_all;done)))
  refine ar ?_;refine xah ((if p (nth xs x.2.1) then x.1 else x.1.set x.2.2 (nth xs x.2.1),x.2.1+1,if p (nth xs x.2.1) then x.2.2 else x.2.2+1)) ⟨(by
      obtain⟨g1,g2,g3,g4,g5⟩:=hg1;have hlt:x.2.1<xs.length:=by omega
      have h7:=zg5 (p:=fun t=> !p t) hlt;refine⟨by dsimp only;split<;>simp[g1],by dsimp only;omega,by dsimp only;split<;>omega, ?_, ?_⟩
      ·dsimp only;rw[h7,<-g4];cases hp:p (nth xs x.2.1) with
       |true=>simp
       |false=>simp only[Bool.false_eq_true,if_false,Bool.not_false,if_true];rw[zi5 (by omega)]
      ·dsimp only;split
       ·exact zhv g5
       ·exact zhv g5),(by dsimp only;omega),sx ⟨⟨_,rfl,xar ?_⟩,⟨⟨_,rfl,xar ?_⟩,trivial⟩⟩ ⟨?_,trivial⟩⟩
  iterate 2 focus ((simp_all;done))
  focus ((show some (Res.box _)=some (Res.box _);dsimp only;split<;>first|rfl|(exfalso;simp_all;done)))
  refine Walk.cutM_l sl26 .none rfl rfl rfl rfl (by omega) ?_;refine Walk.clearB sl26 tz28 rfl (by decide) rfl .none rfl rfl (zvq hg1.1 (by omega)) ?_;refine tv ?_;refine Walk.cutM_h sl26 .none rfl rfl rfl rfl (by omega) ?_;refine evs [25] [] ?_;refine rn [(1,some (.box (pd (xs.filter fun t=> !p t)++za3 (xs.length-(xs.filter fun t=> !p t).length) z6)))] (r1 rfl) (xat ?_) ⟨rfl,rfl⟩ (SubO.get ⟨.inr ?_,⟨.inl rfl,⟨.inr rfl,⟨.inr rfl,trivial⟩⟩⟩⟩) (zax rfl);rotate_left 2;all_goals (first|((first|rfl|(obtain⟨g1,g2,g3,g4,g5⟩:=hg1;have e:x.2.1=xs.length:=(by omega);rw[e,List.take_length] at g4;rw[<-g4,List.length_take];omega));done)|((obtain⟨g1,g2,g3,g4,g5⟩:=hg1;have e:x.2.1=xs.length:=(by omega);rw[e,List.take_length] at g4;have e2:(xs.filter fun t=> !p t).length=x.2.2:=(by rw[<-g4,List.length_take];omega);rw[e2,<-g4];rfl)))
theorem zgM {f:Nat}{caps:List AV}{hp:Hp} (hcal:Callee Tryz.prog f) (k1:subH hp hp) (k2:zex hp=true) (k3:za2 hp [] (.d .nilp) []=true):
  FnD Tryz.prog 146 [.d (.sl []),.fn f caps] hp (.d (.sl [])) []:=by
 have hz:=zeE (xs:=[]) (p:=fun _=>false) (f:=f) (caps:=caps) (hp:=hp) (by simp) hcal (fun t ht=>by simp at ht) k1 k2 k3;refine bd Tryz.f146 42 [] [] fun w0 F0 own kept hk=>?_;refine Walk.call (cr:=[]) zlG (hz) rfl .none rfl rfl (LeL.refl _) k1 k2 (zdL k3 _) rfl ?_;refine ev ?_;refine sq ?_ ?_<;>intro h1 h1p h1s<;>(try simp only[Q] at h1p);focus (refine rn [] (r1 rfl) (.eqd ?_) ⟨rfl,rfl⟩ (fun _ _ h=>h) (fun _ h=>h);all_goals (rfl))
 exfalso;simp[idxF] at h1
theorem zj1 {xs:List Pat} (hs:xs.length<=1000000000000) (hne:xs≠[]):FnD Tryz.prog 147 [.d (zaj xs)] [] (.ms 1 xs.length) [(1,some (.box (pd xs)))]:=by
 have hcs:Pat.cs xs≠[]:=fun h=>hne ((Pat.cs_nil xs).1 h);refine Fn.body (fn:=Tryz.f147) (n:=8) rfl rfl rfl rfl rfl (fun w0 F0 own kept hk=>?_);refine xan 0 rfl (fun hx0=>?_) ?_;refine evc [4] [] ?_;refine xaS sl26 .none rfl rfl ?_;refine tv ?_;refine sqT ?_;exfalso;exact hcs hx0;refine evc [4] [] ?_;refine xaR sl26 .none rfl rfl ?_;refine tv ?_;refine sqF ?_;refine xbk 1 sl26 .none rfl rfl ?_;refine evs [4] [] ?_;refine xaB hk rfl (by simp[hcs]) sl26 zz28 .none rfl rfl rfl rfl (zfk rfl (by rfl)) (by intro y hy;rw[xav] at hy;obtain⟨z,_,rfl⟩:=List.mem_map.1 hy;rfl) (by simp[Pat.cs_len];omega) (by simp[Pat.cs_len];omega) ?_;refine evs [4] [] ?_;refine rn [(1,some (.box (pd xs)))] (r1 rfl) (xat ?_) ⟨rfl,rfl⟩ (SubH.get ⟨?_,trivial⟩) (zax rfl);rotate_left 2;all_goals (first|((first|rfl|(simp[Pat.cs_len];done));done)|(first|rfl|(show some (Res.box _)=some (Res.box _);unfold pd;rw[<-xav];rfl)))
theorem zla {w:List Data} (hs:Spa w){ta tk:Int} (ht:InS (w.length*4) ⟨ta,tk⟩){p:Pat} (hp:zak w 11 ⟨ta,tk⟩ p=true):
  FnD Tryz.prog 148 [.agg [.d (.i p.op),.d (.i p.ctor),.d (.i p.n),.d (.i p.m),.d (.i p.var),.d (zaj p.kids)],.ref 3003 0,.ref 3004 0] [(3003,some (.box [.d (sPtr w (zai w))])),(3004,some (.box [.d (.i ta),.d (.i tk)]))] (.d (.bool (zaQ w (zai w) 11 ⟨ta,tk⟩ p))) []:=by
 refine bd Tryz.f148 9 [] [] fun w0 F0 own kept hk=>?_;refine bx 3001 ?_;refine ev ?_;refine wc zht (zb5 hs.dp 11 (zgI _ hp) ht (zks hs 11 ht hp).1) rfl rfl ?_;refine ev ?_;focus (refine rn [] (r1 rfl) (.eqd ?_) ⟨rfl,rfl⟩ (SubH.get ⟨rfl,⟨rfl,trivial⟩⟩) (fun _ h=>h);all_goals (rfl))
theorem zh3 {w:List Data} (hs:Spa w){ta tk:Int} (ht:InS (w.length*4) ⟨ta,tk⟩){l:List Pat} (hl:∀a∈l,zak w 11 ⟨ta,tk⟩ a=true) (hb:l.length<=1000000000000):
  FnD Tryz.prog 92 [.d (sPtr w (zai w)),.agg [.d (.i ta),.d (.i tk)],.d (zaj l)] [] (.d (zaj (l.filter (zcz w ⟨ta,tk⟩)))) []:=by
 by_cases hne:l=[]
 ·subst hne;have hcl:FnD Tryz.prog 147 [.d (.sl [])] [] (.d (.sl [])) []:=(zfA (xs:=[]) (by simp)).glD;refine bd Tryz.f92 11 [] [] fun w0 F0 own kept hk=>?_;refine bx 3003 ?_;refine bx 3004 ?_;refine ev ?_;refine wc zpa (hcl) rfl rfl ?_;refine xaM (xs:=[_,_]) rfl .none rfl rfl ?_;refine Walk.call (cr:=[]) zsa (zgM (hp:=[(3003,some (.box [.d (sPtr w (zai w))])),(3004,some (.box [.d (.i ta),.d (.i tk)]))]) zsb ⟨rfl,rfl,trivial⟩ rfl rfl) rfl .none rfl rfl (LeL.refl _) ⟨rfl,rfl,trivial⟩ rfl rfl rfl ?_;refine ev ?_;focus (refine rq ?_;all_goals (rfl))
 ·obtain⟨tl,htl,hdel⟩:=zhq (xs:=l) (p:=fun a=>zaQ w (zai w) 11 ⟨ta,tk⟩ a) hb zsb (B2:=[.d (sPtr w (zai w))]) (B3:=[.d (.i ta),.d (.i tk)]) rfl rfl (fun a ha=>zla hs ht (hl a ha));have key:FnD Tryz.prog 92 [.d (sPtr w (zai w)),.agg [.d (.i ta),.d (.i tk)],.d (zaj l)] [] (.ms 1 (l.filter (zcz w ⟨ta,tk⟩)).length) [(1,some (.box (pd (l.filter (zcz w ⟨ta,tk⟩))++tl)))]:=by
   refine bd Tryz.f92 11 [] [] fun w0 F0 own kept hk=>?_;refine bx 3003 ?_;refine bx 3004 ?_;refine ev ?_;refine Walk.call (cr:=[1]) zpa (zj1 hb hne) rfl .none rfl rfl (LeL.refl _) trivial rfl (by simp only[za2,List.all_cons,List.all_nil,zbQ,zbz,AV.idsL,AV.ids,zh9,zag,htl,xae,List.map_nil];rfl) rfl ?_;refine xaM (xs:=[_,_]) rfl .none rfl rfl ?_;refine Walk.call (cr:=[]) zsa (hdel) rfl .none rfl rfl (.cons (xat (by first|rfl|(simp;done))) (.cons (.refl _) .nil)) ⟨rfl,rfl,rfl,trivial⟩ rfl (by simp only[za2,List.all_cons,List.all_nil,zbQ,zbz,AV.idsL,AV.ids,zh9,zag,htl,xae,List.map_nil];rfl) rfl ?_;refine ev ?_;refine rn [(1,some (.box (pd (l.filter (zcz w ⟨ta,tk⟩))++tl)))] (r1 rfl) (xat ?_) ⟨rfl,rfl⟩ (SubH.get ⟨?_,trivial⟩) (zax rfl);rotate_left 2;all_goals (first|((rfl);done)|(rfl))
  have h2:=key.boxD (k:=6) ztW;rw[<-xav] at h2;exact h2
abbrev bdA (b:Bd):List AV:=[.d (.i b.var),.d (.i b.val.ctor),.d (.i b.val.num),.d (zbG b.val.kids)]
def bdC (L:List Bd):List AV:=((L.map Bd.c).flatten).map AV.d
theorem zhZ:∀ {L:List Bd}{i:Nat},i<L.length->cutC (bdC L) (i*4) 4=some (bdA (nth L i))
 |x::r,0,_=>by simp[cutC,nth,bdC,Bd.c]
 |x::r,i+1,h=>by
  have:=zhZ (L:=r) (i:=i) (by simpa using h);rw[show(i+1)*4=i*4+1+1+1+1 by omega];exact this
theorem zpZ:∀ {L:List Bd}{i:Nat}{e:Bd},i<L.length->putC (bdC L) (i*4) (bdA e)=some (bdC (L.set i e))
 |x::r,0,e,_=>by simp[putC,bdC,Bd.c]
 |x::r,i+1,e,h=>by
  have:=zpZ (L:=r) (i:=i) (e:=e) (by simpa using h);rw[show(i+1)*4=i*4+1+1+1+1 by omega];show putC (.d _:: .d _:: .d _:: .d _::bdC r) (i*4+1+1+1+1) (bdA e)=_
  simp only[putC,this];rfl
theorem zs3:∀ {L:List Bd}{i:Nat},i<L.length->putC (bdC L) (i*4+1) [.d (.i (nth L i).val.ctor),.d (.i (nth L i).val.num),.d (zbG (nth L i).val.kids)]=some (bdC L)
 |x::r,0,_=>by simp[putC,nth,bdC,Bd.c]
 |x::r,i+1,h=>by
  have:=zs3 (L:=r) (i:=i) (by simpa using h);rw[show(i+1)*4+1=i*4+1+1+1+1+1 by omega];show putC (.d _:: .d _:: .d _:: .d _::bdC r) (i*4+1+1+1+1+1) [.d (.i (nth r i).val.ctor),.d (.i (nth r i).val.num),.d (zbG (nth r i).val.kids)]=_
  simp only[putC,this];rfl
theorem ztx (L:List Bd):zbt (L.map Bd.c).length 4 (bdC L)=some (L.map Bd.c):=by
 have:=zdf (f:=Bd.c) (k:=4) (l:=L) (fun _ _=>rfl);rw[xac,<-this];congr 1
 unfold bdC;rw[List.map_flatten,List.flatMap_def,List.map_map];rfl
def zf1 (L:List Bd) (j:Nat):List Bd:=(L.set (j+1) (nth L j)).set j (nth L (j+1))
theorem zkb {L:List Bd}{j:Nat}:(zf1 L j).length=L.length:=by simp[zf1]
def zcX:Nat->List Bd->List Bd
 |0,L=>L
 |j+1,L=>if (nth L (j+1)).var<(nth L j).var then zcX j (zf1 L j) else L
theorem zvx {j:Nat}{L:List Bd} (h:(nth L (j+1)).var<(nth L j).var):zcX (j+1) L=zcX j (zf1 L j):=by
 conv=>lhs;unfold zcX
 rw[if_pos h]
theorem ztd {j:Nat}{L:List Bd} (h:¬(nth L (j+1)).var<(nth L j).var):zcX (j+1) L=L:=by
 unfold zcX;rw[if_neg h]
theorem zhE:∀(j:Nat) (L:List Bd),(zcX j L).length=L.length
 |0,_=>rfl
 |j+1,L=>by
  unfold zcX;split
  ·rw[zhE j,zkb]
  ·rfl
def zdq:Nat->Nat->List Bd->List Bd
 |0,_,L=>L
 |k+1,i,L=>zdq k (i+1) (zcX i L)
theorem zmB {n i:Nat}{L:List Bd} (h:i<n):zdq (n-i) i L=zdq (n-(i+1)) (i+1) (zcX i L):=by
 obtain⟨k,rfl⟩:∃k,n=i+1+k:=⟨n-(i+1),by omega⟩;rw[show i+1+k-i=k+1 by omega,show i+1+k-(i+1)=k by omega];rfl
theorem ztg {n i:Nat}{L:List Bd} (h:n<=i):zdq (n-i) i L=L:=by
 rw[show n-i=0 by omega];rfl
theorem ze2 (L:List Bd):AV.idsL (bdC L)=[]:=by
 unfold bdC;generalize (L.map Bd.c).flatten=l;induction l with
 |nil=>rfl
 |cons x r ih=>simpa [AV.idsL,AV.ids] using ih
theorem zwX (b:UInt8):0<=IntKind.i64.wrap (b.toNat:Int)/\IntKind.i64.wrap (b.toNat:Int)<=255:=by
 have h:b.toNat<256:=b.toNat_lt;rw[zdR ⟨by omega,by omega⟩];omega
theorem ar8 (b:UInt8):I64 (0+IntKind.i64.wrap (b.toNat:Int)):=by
 have:=zwX b;constructor<;>omega
theorem zj0 {j:Nat}{L:List Bd} (h:j=0\/¬(nth L j).var<(nth L (j-1)).var):zcX j L=L:=by
 cases j with
 |zero=>rfl
 |succ j=>exact ztd (h.resolve_left (by omega))
theorem zjO {L L':List Bd}:za2 [(9,some (.box (bdC L)))] [(9,some (.box (bdC L')))] (AV.tup []) []=true:=by
 simp only[za2,List.all_cons,List.all_nil,zbQ,zbz,AV.idsL,AV.ids,zag,ze2,xae,List.map_nil];rfl
section
variable {c:Ctx}{env:Env}{hp:Hp}{K:Kt}
theorem CWp.condF {x y:Code} (hn:CWp c y ⟨env,hp⟩ K):CWp c (.cond (.const (.bool false)) x y) ⟨env,hp⟩ K:=by
 intro a w hr;have he:a.eval (.const (.bool false)) = .bool false:=rfl;exact wp_cond_split he (fun h=>by cases h) (fun _=>hn a w hr)
end
def cmpV (x y:Int):Int:=if x<y then -1 else if y<x then 1 else 0
theorem zin {x y:Int}:cmpV x y<0↔x<y:=by
 unfold cmpV;split
 ·omega
 ·split<;>omega
theorem ztp {n:Int} (h:0<=n) (h2:n<=12):IntKind.u64.wrap n=n:=by
 obtain⟨k,rfl⟩:=Int.eq_ofNat_of_zero_le h;have:k<=12:=by omega
 have h3:k=0\/k=1\/k=2\/k=3\/k=4\/k=5\/k=6\/k=7\/k=8\/k=9\/k=10\/k=11\/k=12:=by omega
 rcases h3 with rfl|rfl|rfl|rfl|rfl|rfl|rfl|rfl|rfl|rfl|rfl|rfl|rfl<;>rfl
theorem zue {n:Int} (h:0<=n) (h2:n<=12):IntKind.u8.wrap n=n:=by
 obtain⟨k,rfl⟩:=Int.eq_ofNat_of_zero_le h;have:k<=12:=by omega
 have h3:k=0\/k=1\/k=2\/k=3\/k=4\/k=5\/k=6\/k=7\/k=8\/k=9\/k=10\/k=11\/k=12:=by omega
 rcases h3 with rfl|rfl|rfl|rfl|rfl|rfl|rfl|rfl|rfl|rfl|rfl|rfl|rfl<;>rfl
theorem zjp {x:Int}:FnD Tryz.prog 168 [.d (.i x)] [] (.d (.bool false)) []:=by
 refine bd Tryz.f168 6 [] [] fun w0 F0 own kept hk=>?_;refine rq ?_;rotate_left;all_goals ((refine congrArg D.bool ?_;simp;done))
theorem zm7 {x y:Int}:FnD Tryz.prog 115 [.d (.i x),.d (.i y)] [] (.d (.i (cmpV x y))) []:=by
 refine bd Tryz.f115 20 [] [] fun w0 F0 own kept hk=>?_;refine wc zsf (zjp) rfl rfl ?_;refine ev ?_;refine wc zsf (zjp) rfl rfl ?_;refine ev ?_;refine sq ?_ ?_<;>intro h1 h1p h1s<;>(try simp only[Q] at h1p);refine sq ?_ ?_<;>intro h2 h2p h2s<;>(try simp only[Q] at h2p);refine rq ?_;rotate_left;refine rq ?_;rotate_left;refine sq ?_ ?_<;>intro h3 h3p h3s<;>(try simp only[Q] at h3p);refine rq ?_;rotate_left;refine sq ?_ ?_<;>intro h4 h4p h4s<;>(try simp only[Q] at h4p);refine rq ?_;rotate_left;refine sq ?_ ?_<;>intro h5 h5p h5s<;>(try simp only[Q] at h5p);refine rq ?_;rotate_left;refine rq ?_;rotate_left;all_goals (refine congrArg D.i ?_;unfold cmpV;first|(simp_all;done)|(rw[if_pos (by omega)];done)|(rw[if_neg (by omega),if_neg (by omega)];done))
theorem zkB {a b:Bd}:FnD Tryz.prog 114 [.agg (bdA a),.agg (bdA b)] [] (.d (.i (cmpV a.var b.var))) []:=by
 refine bd Tryz.f114 10 [] [] fun w0 F0 own kept hk=>?_;refine bx 3002 ?_;refine bx 3003 ?_;refine ev ?_;refine wc zvO (zm7) rfl rfl ?_;refine ev ?_;refine rq ?_;rotate_left;all_goals (rfl)
theorem zoB {m:Int} (h0:0<=m) (h12:m<=12):FnD Tryz.prog 208 [.d (.int .u64 m)] [] .any []:=by
 have hu:=zue h0 h12;refine bd Tryz.f208 25 [4,8,14] [] fun w0 F0 own kept hk=>?_;refine xaT .none rfl rfl rfl ?_;refine tv ?_;refine sq ?_ ?_<;>intro h1 h1p h1s<;>(try simp only[Q] at h1p);exfalso;omega;refine xaT .none rfl rfl rfl ?_;refine tv ?_;refine sq ?_ ?_<;>intro h2 h2p h2s<;>(try simp only[Q] at h2p);exfalso;omega;refine xaT .none rfl rfl rfl ?_;refine tv ?_;refine sq ?_ ?_<;>intro h3 h3p h3s<;>(try simp only[Q] at h3p);exfalso;omega;refine xaN (k':= .u8) (by kernel_rfl) (by kernel_rfl) .none rfl rfl ?_;refine xaZ (i:=m.toNat) un9 .none rfl rfl rfl (by rw[hu];omega) (List.getElem?_eq_getElem (by first|omega|(simp;omega))) ?_;refine xaN (by rw[un5];rfl) un3 .none rfl rfl ?_;refine evs [4,8,14] [] ?_;refine ar ?_ (ar8 _);refine rn0 (r1 rfl) (.any _)
theorem zwe:Callee Tryz.prog 208:=⟨fun args w=>zae (fn:=Tryz.f208) rfl rfl (by decide) args w⟩
theorem zkG {m:Int} (h0:0<=m) (h12:m<=12):FnD Tryz.prog 167 [.d (.int .u64 m)] [] .any []:=by
 refine Fn.body (fn:=Tryz.f167) (n:=8) rfl rfl rfl rfl rfl (fun w0 F0 own kept hk=>?_);refine sr ?_;refine asg ?_;refine tv ?_;refine CWp.seq ?_;refine CWp.condF ?_;refine CWp.skip ?_;refine sr ?_;refine mv ?_;refine wc zwe (zoB h0 h12) rfl rfl ?_;refine asg ?_;refine tv ?_;refine CWp.ret ?_;refine⟨_,_,[],(.cons (.tmp rfl) .nil),(.any _),⟨rfl,rfl⟩,HSub.nil,zuL⟩
theorem zhr {L:List Bd}{f:Nat} (hn:L.length<=12) (hcal:Callee Tryz.prog f) (hf:∀a b:Bd,FnD Tryz.prog f ([.agg (bdA a),.agg (bdA b)]++[]) [] (.d (.i (cmpV a.var b.var))) []):
  FnD Tryz.prog 199 [.ms 9 L.length,.d (.i 0),.d (.i L.length),.fn f []] [(9,some (.box (bdC L)))] (.tup []) [(9,some (.box (bdC (zdq (L.length-1) 1 L))))]:=by
 refine bd Tryz.f199 53 [26,31,46,50] [] fun w0 F0 own kept hk=>?_;refine ar ?_;refine xak (ι:=Nat×List Bd) hk (fun x=>[(8,.d (.i (x.1:Int)))]) [9,12,13,14,15,16,17,18,19,20,21,22,23,24,25,26,27,28,29,30,31,32,33,34,35,36,37,38,39,40,41,42,43,44,45,46,47,48,49,50,51,52] (fun x=>[(9,some (.box (bdC x.2)))]) (fun x=>1<=x.1/\x.1<=L.length+1/\x.2.length=L.length/\zdq (L.length-x.1) x.1 x.2=zdq (L.length-1) 1 L) (fun x=>L.length-x.1) (1,L) ⟨by simp,by simp,rfl,rfl⟩ ⟨⟨_,rfl,xar ?_⟩,trivial⟩ ⟨?_,trivial⟩ (fun x=>rfl) (fun x hg1=>?_);focus (first|rfl|omega)
 focus (first|rfl|(show some (Res.box _)=some (Res.box _);rw[<-hg2.2.2,zj0 (by first|(left;omega)|(right;rw[<-zin];assumption))]))
 refine evc [26,31,46,50] [] ?_;refine sq ?_ ?_<;>intro h1 h1p h1s<;>(try simp only[Q] at h1p);refine xak (ι:=Nat×List Bd) hk (fun y=>[(9,.d (.i (y.1:Int)))]) [18,19,20,21,22,23,24,25,26,27,28,29,30,31,32,33,34,35,36,37,38,39,40,41,42,43,44,45,46,47,48,49,50,51,52] (fun y=>[(9,some (.box (bdC y.2)))]) (fun y=>y.1<=x.1/\y.2.length=L.length/\zcX y.1 y.2=zcX x.1 x.2) (fun y=>y.1) (x.1,x.2) ⟨Nat.le_refl _,hg1.2.2.1,rfl⟩ ⟨⟨_,rfl,xar ?_⟩,trivial⟩ ⟨?_,trivial⟩ (fun x=>rfl) (fun y hg2=>?_);focus (first|rfl|omega)
 focus (first|rfl|(show some (Res.box _)=some (Res.box _);unfold zf1;rw[show y.1-1+1=y.1 by omega]))
 refine evc [26,31,46,50] [] ?_;refine sq ?_ ?_<;>intro h2 h2p h2s<;>(try simp only[Q] at h2p);refine xaY sl40 (.some rfl rfl h2) rfl rfl rfl rfl (by omega) ?_;refine xa1 zhM (.some rfl rfl h2) rfl rfl rfl ((zhZ (by omega))) ?_;refine evd [26,31,46,50] [(21,true)] ?_ ⟨⟨_,rfl,h2⟩,trivial⟩;refine ar ?_;refine xaY (i:=y.1-1) sl40 (.some rfl rfl h2) rfl rfl rfl (by omega) (by omega) ?_;refine xa1 zhM (.some rfl rfl h2) rfl rfl rfl ((zhZ (by omega))) ?_;refine xaK (cr:=[]) hcal (hf _ _) rfl (.some rfl rfl h2) rfl rfl rfl (LeL.refl _) trivial rfl (by first|rfl|(simp only[za2,List.all_cons,List.all_nil,zbQ,zbz,AV.idsL,AV.ids,zag,zaf,xae,List.map_nil,ze2];rfl)) (by first|rfl|(simp only[zaw,occH,occE,Res.ids,xag,List.nil_append,AV.idsL,AV.ids,zag,zaf,zaq,zaF,xae,List.map_nil,upC,ze2];rfl)) ?_;refine evd [26,31,46,50] [(21,true)] ?_ ⟨⟨_,rfl,h2⟩,trivial⟩;refine dr ?_;refine sq ?_ ?_<;>intro h3 h3p h3s<;>(try simp only[Q] at h3p);refine ar ?_;refine ar ?_;refine xaY (i:=y.1-1) sl40 .none rfl rfl rfl (by omega) (by omega) ?_;refine xa1 zhM .none rfl rfl rfl ((zhZ (by omega))) ?_;refine evd [26,31,46,50] [] ?_;refine xaY sl40 .none rfl rfl rfl rfl (by omega) ?_;refine xa1 zhM .none rfl rfl rfl ((zhZ (by omega))) ?_;refine xaY sl40 .none rfl rfl rfl rfl (by omega) ?_;refine Walk.store zhM .none rfl rfl rfl rfl rfl rfl (by simp) ((zpZ (by first|omega|(simp;omega)))) ?_;refine xaY (i:=y.1-1) sl40 .none rfl rfl rfl (by omega) (by omega) ?_;refine Walk.store zhM .none rfl rfl rfl rfl rfl rfl (by simp) ((zpZ (by first|omega|(simp;omega)))) ?_;refine dr ?_;refine ar ?_;refine xah ((y.1-1,zf1 y.2 (y.1-1))) ⟨⟨by dsimp only;omega,by dsimp only;rw[zkb];exact hg2.2.1,by have hlt:(nth y.2 (y.1-1+1)).var<(nth y.2 (y.1-1)).var:=(by rw[show y.1-1+1=y.1 by omega];exact zin.1 (by assumption));have hk:=zvx hlt;rw[show y.1-1+1=y.1 by omega] at hk;dsimp only;rw[<-hk];exact hg2.2.2⟩,(by dsimp only;omega),sx ⟨⟨_,rfl,xar ?_⟩,trivial⟩ ⟨?_,trivial⟩⟩;focus (first|rfl|omega)
 focus (first|rfl|(show some (Res.box _)=some (Res.box _);unfold zf1;rw[show y.1-1+1=y.1 by omega]))
 refine ar ?_;refine xah ((x.1+1,zcX x.1 x.2)) ⟨⟨by dsimp only;omega,by dsimp only;omega,by dsimp only;rw[zhE];exact hg1.2.2.1,by dsimp only;rw[<-zmB (by omega)];exact hg1.2.2.2⟩,(by dsimp only;omega),sx ⟨⟨_,rfl,xar ?_⟩,trivial⟩ ⟨?_,trivial⟩⟩;focus (first|rfl|omega)
 focus (first|rfl|(show some (Res.box _)=some (Res.box _);rw[<-hg2.2.2,zj0 (by first|(left;omega)|(right;rw[<-zin];assumption))]))
 refine dr ?_;refine sqF ?_;refine ar ?_;refine xah ((x.1+1,zcX x.1 x.2)) ⟨⟨by dsimp only;omega,by dsimp only;omega,by dsimp only;rw[zhE];exact hg1.2.2.1,by dsimp only;rw[<-zmB (by omega)];exact hg1.2.2.2⟩,(by dsimp only;omega),sx ⟨⟨_,rfl,xar ?_⟩,trivial⟩ ⟨?_,trivial⟩⟩;focus (first|rfl|omega)
 focus (first|rfl|(show some (Res.box _)=some (Res.box _);rw[<-hg2.2.2,zj0 (by first|(left;omega)|(right;rw[<-zin];assumption))]))
 refine rn [(9,some (.box (bdC (zdq (L.length-1) 1 L))))] .nil (.refl _) ⟨rfl,rfl⟩ (SubO.get ⟨.inr ?_,⟨.inl rfl,trivial⟩⟩) (zax rfl);rotate_left;all_goals (first|((rfl);done)|(show some (Res.box _)=some (Res.box _);rw[<-hg1.2.2.2,ztg (by omega)]))
theorem zhh {f:Nat}:FnD Tryz.prog 199 [.d (.sl []),.d (.i 0),.d (.i 0),.fn f []] [] (.tup []) []:=by
 refine bd Tryz.f199 53 [] [] fun w0 F0 own kept hk=>?_;refine ar ?_;refine xak (ι:=Unit) hk (fun u=>[(8,.d (.i 1))]) [9,12,13,14,15,16,17,18,19,20,21,22,23,24,25,26,27,28,29,30,31,32,33,34,35,36,37,38,39,40,41,42,43,44,45,46,47,48,49,50,51,52] (fun u=>[]) (fun u=>True) (fun u=>0) () trivial ⟨⟨_,rfl,xar ?_⟩,trivial⟩ trivial (fun x=>rfl) (fun u hg1=>?_);focus ((simp;done))
 refine evc [] [] ?_;refine sq ?_ ?_<;>intro h1 h1p h1s<;>(try simp only[Q] at h1p);exfalso;simp at h1;refine rn0 .nil (.refl _)
theorem zkC {L:List Bd}{f:Nat} (hn:L.length<=12) (hcal:Callee Tryz.prog f) (hf:∀a b:Bd,FnD Tryz.prog f ([.agg (bdA a),.agg (bdA b)]++[]) [] (.d (.i (cmpV a.var b.var))) []):
  FnD Tryz.prog 166 [.ms 9 L.length,.d (.i 0),.d (.i L.length),.any,.fn f []] [(9,some (.box (bdC L)))] (.tup []) [(9,some (.box (bdC (zdq (L.length-1) 1 L))))]:=by
 refine bd Tryz.f166 148 [] [] fun w0 F0 own kept hk=>?_;refine xak (ι:=Unit) hk (fun u=>[(1,.d (.i 0)),(2,.d (.i (L.length:Int)))]) [3,10,11,12,13,14,15,16,17,18,19,20,21,22,23,24,25,26,27,28,29,30,31,32,33,34,35,36,37,38,39,40,41,42,43,44,45,46,47,48,49,50,51,52,53,54,55,56,57,58,59,60,61,62,63,64,65,66,67,68,69,70,71,72,73,74,75,76,77,78,79,80,81,82,83,84,85,86,87,88,89,90,91,92,93,94,95,96,97,98,99,100,101,102,103,104,105,106,107,108,109,110,111,112,113,114,115,116,117,118,119,120,121,122,123,124,125,126,127,128,129,130,131,132,133,134,135,136,137,138,139,140,141,142,143,144,145,146,147] (fun u=>[(9,some (.box (bdC L)))]) (fun u=>True) (fun u=>0) () trivial ⟨⟨_,rfl,xar ?_⟩,⟨⟨_,rfl,xar ?_⟩,trivial⟩⟩ ⟨?_,trivial⟩ (fun x=>rfl) (fun u hg1=>?_);iterate 2 focus ((simp;done))
 focus (first|rfl|(simp[getH];done))
 refine evc [] [] ?_;refine ar ?_;refine sq ?_ ?_<;>intro h1 h1p h1s<;>(try simp only[Q] at h1p);refine Walk.call (cr:=[]) zsm (zhr hn hcal hf) rfl .none rfl rfl (.cons (xat (by first|rfl|(simp;done))) (.cons (.refl _) (.cons (.refl _) (.cons (.refl _) .nil)))) ⟨rfl,trivial⟩ rfl zjO rfl ?_;refine tv ?_;refine rn [(9,some (.box (bdC (zdq (L.length-1) 1 L))))] .nil (.refl _) ⟨rfl,rfl⟩ (SubO.get ⟨.inr ?_,⟨.inl rfl,trivial⟩⟩) (zax rfl);rotate_left;exfalso;omega;all_goals (first|((rfl);done)|(rfl))
theorem zj5 {f:Nat}:FnD Tryz.prog 166 [.d (.sl []),.d (.i 0),.d (.i 0),.any,.fn f []] [] (.tup []) []:=by
 refine bd Tryz.f166 148 [] [] fun w0 F0 own kept hk=>?_;refine xak (ι:=Unit) hk (fun u=>[(1,.d (.i 0)),(2,.d (.i 0))]) [3,10,11,12,13,14,15,16,17,18,19,20,21,22,23,24,25,26,27,28,29,30,31,32,33,34,35,36,37,38,39,40,41,42,43,44,45,46,47,48,49,50,51,52,53,54,55,56,57,58,59,60,61,62,63,64,65,66,67,68,69,70,71,72,73,74,75,76,77,78,79,80,81,82,83,84,85,86,87,88,89,90,91,92,93,94,95,96,97,98,99,100,101,102,103,104,105,106,107,108,109,110,111,112,113,114,115,116,117,118,119,120,121,122,123,124,125,126,127,128,129,130,131,132,133,134,135,136,137,138,139,140,141,142,143,144,145,146,147] (fun u=>[]) (fun u=>True) (fun u=>0) () trivial ⟨⟨_,rfl,xar ?_⟩,⟨⟨_,rfl,xar ?_⟩,trivial⟩⟩ trivial (fun x=>rfl) (fun u hg1=>?_);iterate 2 focus ((simp;done))
 refine evc [] [] ?_;refine ar ?_;refine sq ?_ ?_<;>intro h1 h1p h1s<;>(try simp only[Q] at h1p);refine wc zsm (zhh) rfl rfl ?_;refine tv ?_;refine rn0 .nil (.refl _);exfalso;simp at h1
theorem zj4 {L:List Bd}{f:Nat} (hn:L.length<=12) (hcal:Callee Tryz.prog f) (hf:∀a b:Bd,FnD Tryz.prog f ([.agg (bdA a),.agg (bdA b)]++[]) [] (.d (.i (cmpV a.var b.var))) []):
  FnD Tryz.prog 113 [.ms 9 L.length,.fn f []] [(9,some (.box (bdC L)))] (.tup []) [(9,some (.box (bdC (zdq (L.length-1) 1 L))))]:=by
 have hu:=ztp (n:=(L.length:Int)) (by omega) (by omega);refine bd Tryz.f113 14 [] [] fun w0 F0 own kept hk=>?_;refine xaN (k':= .u64) (by kernel_rfl) (by kernel_rfl) .none rfl rfl ?_;refine Walk.call (cr:=[]) zse (zkG (by rw[hu];omega) (by rw[hu];omega)) rfl .none rfl rfl (LeL.refl _) trivial rfl (by first|rfl|(simp only[za2,List.all_cons,List.all_nil,zbQ,zbz,AV.idsL,AV.ids,zag,zaf,xae,List.map_nil,ze2];rfl)) (by first|rfl|(simp only[zaw,occH,occE,Res.ids,xag,List.nil_append,AV.idsL,AV.ids,zag,zaf,zaq,zaF,xae,List.map_nil,upC,ze2];rfl)) ?_;refine ev ?_;refine Walk.call (cr:=[]) zsd (zkC hn hcal hf) rfl .none rfl rfl (.cons (xat (by first|rfl|(simp;done))) (.cons (.refl _) (.cons (.refl _) (.cons (.refl _) (.cons (.refl _) .nil))))) ⟨rfl,trivial⟩ rfl zjO rfl ?_;refine tv ?_;refine rn [(9,some (.box (bdC (zdq (L.length-1) 1 L))))] .nil (.refl _) ⟨rfl,rfl⟩ (SubO.get ⟨.inr ?_,⟨.inl rfl,trivial⟩⟩) (zax rfl);rotate_left;all_goals (first|((rfl);done)|(rfl))
theorem zjc {f:Nat}:FnD Tryz.prog 113 [.d (.sl []),.fn f []] [] (.tup []) []:=by
 refine bd Tryz.f113 14 [] [] fun w0 F0 own kept hk=>?_;refine xaN (k':= .u64) (by kernel_rfl) (by kernel_rfl) .none rfl rfl ?_;refine wc zse (zkG (m:=IntKind.u64.wrap 0) (by decide) (by decide)) rfl rfl ?_;refine ev ?_;refine wc zsd (zj5) rfl rfl ?_;refine tv ?_;refine rn0 .nil (.refl _)
end Go.Proofs.YtpgdedpljcedpaaGreat
