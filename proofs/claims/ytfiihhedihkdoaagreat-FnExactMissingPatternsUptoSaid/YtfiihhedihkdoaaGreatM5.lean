/-
  THE ABSTRACT WALK AND THE WALKS, part 5 of 6: the parts F76, F77, F78, F10, F73, F18, F19, F31, F32, F33, F34, F35, F36, F37, F82, F83, F38, F79, F59, F80, F11, F17, F43, F44, F45, F46, F60, F61, F30, F63, F81, F84.
-/
import Derived.Test.YtfiihhedihkdoaaGreatM4
namespace Go.Proofs.YtfiihhedihkdoaaGreat
open Go
set_option linter.unusedSimpArgs false
set_option linter.unusedVariables false
set_option maxRecDepth 100000
set_option maxHeartbeats 2000000
theorem zkD {n:Nat} (h0:0<n) (hb:n≤1000000):FnD Tryz.prog 179 [.nils,.d (.i (n:Int))] [] (.gv 9 []) [(9,some (.tok 0 6))]:=by
 refine bd Tryz.f179 27 [12,24] [] fun w0 F0 own kept hk=>?_
 refine sq (fun h1 h1p h1s=>?_) fun h1 h1p h1s=>?_
 ·try simp only[Q] at h1p
  exfalso;omega
 ·try simp only[Q] at h1p
  refine Walk.capN sl28 .none rfl rfl ?_
  refine evs [12,24] [] ?_
  refine Walk.lenN sl28 .none rfl rfl ?_
  refine evs [12,24] [] ?_
  refine ar ?_
  refine ar ?_
  refine sq (fun h2 h2p h2s=>?_) fun h2 h2p h2s=>?_
  ·try simp only[Q] at h2p
   refine Walk.capN sl28 .none rfl rfl ?_
   refine Walk.cutN_h sl28 .none rfl rfl rfl ?_
   refine evs [12,24] [] ?_
   refine Walk.growZ (n:=n) 8 sl28 Tryz.underlying3 tz77 rfl (by decide) rfl .none rfl rfl rfl (by simp) h0 (by omega) (by omega) rfl ?_
   refine evs [12,24] [] ?_
   refine Walk.lenN sl28 .none rfl rfl ?_
   refine Walk.cutV_h 9 (b:=0) sl28 .none rfl rfl (zaG rfl (by first|rfl|(simp;done)|(simp;omega))) rfl rfl (Nat.zero_le _) (by rw[List.length_replicate];exact h0) rfl ?_
   refine evs [12,24] [] ?_
   refine rn [(9,some (.tok 0 6))] (r1 rfl) (.gvg ?_) ⟨rfl,rfl⟩ (SubH.get ⟨rfl,trivial⟩) (zbj rfl)
   all_goals (first|rfl|(simp[h1s,h1p,h2s,h2p];done)|(simp_all;done)|(simp_all;omega)|omega)
  ·try simp only[Q] at h2p
   exfalso;simp at h2;all_goals omega
abbrev zsc (ls:List (List Pat)):D:= .sl (ls.map fun l=>[zad l])
theorem zjq {ls:List (List Pat)} (hl:ls.length≤1000) (h0:0<ls.flatten.length) (hb:ls.flatten.length≤1000000):FnD Tryz.prog 133 [.d (zsc ls)] [] (.d (zad ls.flatten)) []:=by
 have key:∀ {pre rest:List (List Pat)}{y:List Pat},pre++y::rest=ls→pre.flatten.length+y.length≤ls.flatten.length:=fun h=>by
  rw[←h];simp
 refine FnD.gvD (i:=9) (k:=6) ?_
 refine bd Tryz.f133 36 [] [] fun w0 F0 own kept hk=>?_
 refine CWp.loopX (ι:=List (List Pat)×List (List Pat)) hk (fun x=>[(11,.d (.i (x.1.length:Int))),(3,.d (.i (x.1.flatten.length:Int)))]) [5,12,13,14,15,16,17,18,19,20,21,22] (fun x=>[]) (fun x=>x.1++x.2=ls) (fun x=>x.2.length) ([],ls) (by simp) ⟨⟨_,rfl,(LeA.eqi (by first|rfl|(simp[Pat.cs_len];done)|omega))⟩,⟨⟨_,rfl,(LeA.eqi (by first|rfl|(simp[Pat.cs_len];done)|omega))⟩,trivial⟩⟩ trivial (fun x=>rfl) (fun x hg1=>?_)
 obtain⟨pre,rest⟩:=x
 dsimp only at hg1 ⊢
 refine evc [] [] ?_
 refine sq (fun h1 h1p h1s=>?_) fun h1 h1p h1s=>?_
 ·try simp only[Q,Pat.cs_len] at h1p
  rcases rest with _|⟨y,rest⟩
  ·exfalso;simp_all
  refine Walk.idx zd3 .none rfl rfl rfl rfl (za0 hg1) rfl ?_
  refine ev ?_
  refine ar ?_ (by first|(have h9:=key hg1;constructor<;>first|omega|(simp only[Pat.cs_len];omega))|(constructor<;>omega))
  refine sq (fun h2 h2p h2s=>?_) fun h2 h2p h2s=>?_
  ·try simp only[Q,Pat.cs_len] at h2p
   exfalso;have:=key hg1;omega
  ·try simp only[Q,Pat.cs_len] at h2p
   refine ar ?_ (by first|(have h9:=key hg1;constructor<;>first|omega|(simp only[Pat.cs_len];omega))|(constructor<;>omega))
   refine Exists.intro ((pre++[y],rest)) ⟨(by have hz:=hg1;rw[←hz];simp),(by simp),Sub.x (by kernel_rfl) (by kernel_rfl) ⟨⟨_,rfl,(LeA.eqi (by first|rfl|(simp[Pat.cs_len];done)|omega))⟩,⟨⟨_,rfl,(LeA.eqi (by first|rfl|(simp[Pat.cs_len];done)|omega))⟩,trivial⟩⟩ (by kernel_rfl) (by kernel_rfl) trivial⟩
 ·try simp only[Q,Pat.cs_len] at h1p
  have hrest:rest=[]:=by
   rcases rest with _|⟨a,b⟩
   ·rfl
   ·exfalso;have hz:=congrArg List.length (hg1);simp only[List.length_append,List.length_cons,List.length_map] at hz;omega
  subst hrest
  refine Walk.call (cr:=[9]) zta (zkD (n:=pre.flatten.length) (by rw[List.append_nil] at hg1;rw[hg1];exact h0) (by rw[List.append_nil] at hg1;rw[hg1];exact hb)) rfl .none rfl rfl (LeL.refl _) trivial rfl rfl rfl ?_
  refine ev ?_
  refine CWp.loopX (ι:=List (List Pat)×List (List Pat)) hk (fun x=>[(27,.d (.i (x.1.length:Int))),(6,.gv 9 (Pat.cs x.1.flatten))]) [8,28,29,30,31,32,33,34] (fun x=>[(9,some (.tok (Pat.cs x.1.flatten).length 6))]) (fun x=>x.1++x.2=ls) (fun x=>x.2.length) ([],ls) (by simp) ⟨⟨_,rfl,(LeA.eqi (by first|rfl|(simp[Pat.cs_cd];done)|omega))⟩,⟨⟨_,rfl,(LeA.gvg (by first|rfl|(simp[Pat.cs_cd];done)|omega))⟩,trivial⟩⟩ ⟨zae (by first|rfl|(simp;done)|(simp;omega)|(first|rfl|(simp[Pat.cs_cd];done)|omega)),trivial⟩ (fun x=>rfl) (fun x hg2=>?_)
  obtain⟨pre,rest⟩:=x
  dsimp only at hg2 ⊢
  refine evc [] [] ?_
  refine sq (fun h3 h3p h3s=>?_) fun h3 h3p h3s=>?_
  ·try simp only[Q,Pat.cs_len] at h3p
   rcases rest with _|⟨y,rest⟩
   ·exfalso;simp_all
   refine Walk.idx zd3 .none rfl rfl rfl rfl (za0 hg2) rfl ?_
   refine ev ?_
   refine Walk.appendV sl28 zz77 .none rfl rfl rfl rfl (zaG rfl (by first|rfl|(simp;done)|(simp;omega))) (by exact zbm _) (by have:=key hg2;simp only[Pat.cs_len];omega) (by have:=key hg2;simp only[Pat.cs_len];omega) ?_
   refine ev ?_
   refine ar ?_ (by first|(have h9:=key hg1;constructor<;>first|omega|(simp only[Pat.cs_len];omega))|(constructor<;>omega))
   refine Exists.intro ((pre++[y],rest)) ⟨(by have hz:=hg2;rw[←hz];simp),(by simp),Sub.x (by kernel_rfl) (by kernel_rfl) ⟨⟨_,rfl,(LeA.eqi (by first|rfl|(simp[Pat.cs_cd];done)|omega))⟩,⟨⟨_,rfl,(LeA.gvg (by first|rfl|(simp[Pat.cs_cd];done)|omega))⟩,trivial⟩⟩ (by kernel_rfl) (by kernel_rfl) ⟨zae (by first|rfl|(simp;done)|(simp;omega)|(first|rfl|(simp[Pat.cs_cd];done)|omega)),trivial⟩⟩
  ·try simp only[Q,Pat.cs_len] at h3p
   have hrest:rest=[]:=by
    rcases rest with _|⟨a,b⟩
    ·rfl
    ·exfalso;have hz:=congrArg List.length (hg2);simp only[List.length_append,List.length_cons,List.length_map] at hz;omega
   subst hrest
   refine rn [(9,some (.tok (Pat.cs ls.flatten).length 6))] (r1 rfl) (.gvg ?_) ⟨rfl,rfl⟩ (SubH.get ⟨(by rw[List.append_nil] at hg2;subst hg2;rfl),trivial⟩) (zbj rfl)
   all_goals (first|rfl|(rw[List.append_nil] at hg2;rw[hg2]))
def zbJ (l:List Int):Nat→List Pat
 |0=>[]
 |n+1=>zbJ l n++zcm (nth l (2*n)) (nth l (2*n+1))
theorem zgW (l:List Int):∀n,(zbJ l n).length≤n
 |0=>by simp[zbJ]
 |n+1=>by
  have:=zgW l n
  simp only[zbJ,zcm,List.length_append]
  split<;>simp<;>omega
theorem zaL {l:List Int}{n:Nat} (h:nth l (2*n)≤nth l (2*n+1)):zbJ l (n+1)=zbJ l n++[intQ (nth l (2*n)) (nth l (2*n+1))]:=by simp[zbJ,zcm,h]
theorem zbr {l:List Int}{n:Nat} (h:¬nth l (2*n)≤nth l (2*n+1)):zbJ l (n+1)=zbJ l n:=by simp only[zbJ,zcm,if_neg h,List.append_nil]
theorem zoI (a b:Int):zbJ [a,b] 1=zcm a b:=by simp[zbJ,nth]
theorem zrx (a b c d:Int):zbJ [a,b,c,d] 2=zcm a b++zcm c d:=by simp[zbJ,nth]
theorem zld {p:Pat}:FnD Tryz.prog 129 [.agg [.d (.i p.op),.d (.i p.ctor),.d (.i p.n),.d (.i p.m),.d (.i p.var),.d (zad p.kids)]] [] (.tup [.d (.i (lowQ p)),.d (.i (zdc p))]) []:=by
 by_cases h:p.op=1
 ·have e1:lowQ p=0:=if_pos h
  have e2:zdc p=9:=if_pos h
  rw[e1,e2]
  refine bd Tryz.f129 11 [] [] fun w0 F0 own kept hk=>?_
  refine Walk.box (id:=3001) .none rfl rfl rfl rfl rfl rfl rfl ?_
  refine ev ?_
  refine sq (fun h1 h1p h1s=>?_) fun h1 h1p h1s=>?_
  ·try simp only[Q] at h1p
   refine rn0 (r2 rfl rfl) (.tup (.cons (.eqd ?_) (.cons (.eqd ?_) .nil)))
   all_goals (first|rfl|(simp[h1s,h1p];done)|(simp_all;done)|(simp_all;omega)|omega)
  ·try simp only[Q] at h1p
   exfalso;omega
 ·skip
  have e1:lowQ p=p.n:=if_neg h
  have e2:zdc p=p.m:=if_neg h
  rw[e1,e2]
  refine bd Tryz.f129 11 [] [] fun w0 F0 own kept hk=>?_
  refine Walk.box (id:=3001) .none rfl rfl rfl rfl rfl rfl rfl ?_
  refine ev ?_
  refine sq (fun h1 h1p h1s=>?_) fun h1 h1p h1s=>?_
  ·try simp only[Q] at h1p
   exfalso;omega
  ·try simp only[Q] at h1p
   refine dr ?_
   refine rn0 (r2 rfl rfl) (.tup (.cons (.eqd ?_) (.cons (.eqd ?_) .nil)))
   all_goals (first|rfl|(simp[h1s,h1p];done)|(simp_all;done)|(simp_all;omega)|omega)
theorem zfz {l:List Int}{n:Nat} (hl:l.length=2*n) (hb:n≤1000):FnD Tryz.prog 130 [.d (zcL l)] [] (.d (zad (zbJ l n))) []:=by
 refine bd Tryz.f130 35 [3] [] fun w0 F0 own kept hk=>?_
 refine Walk.assignNil 9 6 .none rfl rfl ?_
 refine tv ?_
 refine CWp.loopX (ι:=Nat) hk (fun i=>[(4,.d (.i ((2*i:Nat):Int))),(3,.gl 9 (Pat.cs (zbJ l i)))]) [5,6,7,8,9,10,11,12,13,14,15,16,17,18,19,20,21,22,23,24,25,26,27,28,29,30,31,32,33] (fun i=>[(9,some (.tok ((Pat.cs (zbJ l i))).length 6))]) (fun i=>i≤n) (fun i=>n-i) 0 (by omega) ⟨⟨_,rfl,(LeA.eqi (by first|rfl|(simp;done)|(rw[zaL (by assumption),Pat.cs_cd,Pat.cs_cd,List.map_append];rfl)|(rw[zbr (by assumption)];done)|(rw[zbr (by omega)];done)|(rw[zaL (by assumption)];simp[Pat.cs_len];done)|(rw[zaL (by omega)];simp[Pat.cs_len];done)|omega))⟩,⟨⟨_,rfl,(LeA.glg (by first|rfl|(simp;done)|(rw[zaL (by assumption),Pat.cs_cd,Pat.cs_cd,List.map_append];rfl)|(rw[zbr (by assumption)];done)|(rw[zbr (by omega)];done)|(rw[zaL (by assumption)];simp[Pat.cs_len];done)|(rw[zaL (by omega)];simp[Pat.cs_len];done)|omega))⟩,trivial⟩⟩ ⟨zae (by first|rfl|(simp;done)|(simp;omega)|(first|rfl|(simp;done)|(rw[zaL (by assumption),Pat.cs_cd,Pat.cs_cd,List.map_append];rfl)|(rw[zbr (by assumption)];done)|(rw[zbr (by omega)];done)|(rw[zaL (by assumption)];simp[Pat.cs_len];done)|(rw[zaL (by omega)];simp[Pat.cs_len];done)|omega)),trivial⟩ (fun x=>rfl) (fun i hg1=>?_)
 refine evc [3] [] ?_
 refine sq (fun h1 h1p h1s=>?_) fun h1 h1p h1s=>?_
 ·try simp only[Q] at h1p
  refine Walk.idx (i:=2*i) zbU .none rfl rfl rfl rfl (zay (by omega)) rfl ?_
  refine evd [3] [] ?_
  refine ar ?_
  refine Walk.idx (i:=2*i+1) zbU .none rfl rfl rfl rfl (zay (by omega)) rfl ?_
  refine evd [3] [] ?_
  refine dr ?_
  refine sq (fun h2 h2p h2s=>?_) fun h2 h2p h2s=>?_
  ·try simp only[Q] at h2p
   refine Walk.idx (i:=2*i) zbU .none rfl rfl rfl rfl (zay (by omega)) rfl ?_
   refine evd [3] [] ?_
   refine ar ?_
   refine Walk.idx (i:=2*i+1) zbU .none rfl rfl rfl rfl (zay (by omega)) rfl ?_
   refine evd [3] [] ?_
   refine Walk.build st77 (ks:=[0,2,3]) (xs:=[_,_,_]) rfl rfl .none rfl rfl rfl ?_
   refine Walk.sliceLit sl28 tz77 rfl (by decide) (ks:=[0]) (xs:=[_]) rfl rfl (by decide) (by decide) .none rfl rfl rfl rfl ?_
   refine Walk.append sl28 zz77 rfl .none rfl rfl rfl rfl (zaG rfl (by first|rfl|(simp;done)|(simp;omega))) (by first|exact zbm _|(intro x hx;simp at hx;subst hx;rfl)) (by have:=zgW l i;simp[Pat.cs_len];omega) (by have:=zgW l i;simp[Pat.cs_len];omega) ?_
   refine asg ?_
   refine dr ?_
   refine ar ?_
   refine Exists.intro (i+1) ⟨(by omega),(by omega),Sub.x (by kernel_rfl) (by kernel_rfl) ⟨⟨_,rfl,(LeA.eqi (by first|rfl|(simp;done)|(rw[zaL (by assumption),Pat.cs_cd,Pat.cs_cd,List.map_append];rfl)|(rw[zbr (by assumption)];done)|(rw[zbr (by omega)];done)|(rw[zaL (by assumption)];simp[Pat.cs_len];done)|(rw[zaL (by omega)];simp[Pat.cs_len];done)|omega))⟩,⟨⟨_,rfl,(LeA.glg (by first|rfl|(simp;done)|(rw[zaL (by assumption),Pat.cs_cd,Pat.cs_cd,List.map_append];rfl)|(rw[zbr (by assumption)];done)|(rw[zbr (by omega)];done)|(rw[zaL (by assumption)];simp[Pat.cs_len];done)|(rw[zaL (by omega)];simp[Pat.cs_len];done)|omega))⟩,trivial⟩⟩ (by kernel_rfl) (by kernel_rfl) ⟨zae (by first|rfl|(simp;done)|(simp;omega)|(first|rfl|(simp;done)|(rw[zaL (by assumption),Pat.cs_cd,Pat.cs_cd,List.map_append];rfl)|(rw[zbr (by assumption)];done)|(rw[zbr (by omega)];done)|(rw[zaL (by assumption)];simp[Pat.cs_len];done)|(rw[zaL (by omega)];simp[Pat.cs_len];done)|omega)),trivial⟩⟩
  ·try simp only[Q] at h2p
   refine ar ?_
   refine Exists.intro (i+1) ⟨(by omega),(by omega),Sub.x (by kernel_rfl) (by kernel_rfl) ⟨⟨_,rfl,(LeA.eqi (by first|rfl|(simp;done)|(rw[zaL (by assumption),Pat.cs_cd,Pat.cs_cd,List.map_append];rfl)|(rw[zbr (by assumption)];done)|(rw[zbr (by omega)];done)|(rw[zaL (by assumption)];simp[Pat.cs_len];done)|(rw[zaL (by omega)];simp[Pat.cs_len];done)|omega))⟩,⟨⟨_,rfl,(LeA.glg (by first|rfl|(simp;done)|(rw[zaL (by assumption),Pat.cs_cd,Pat.cs_cd,List.map_append];rfl)|(rw[zbr (by assumption)];done)|(rw[zbr (by omega)];done)|(rw[zaL (by assumption)];simp[Pat.cs_len];done)|(rw[zaL (by omega)];simp[Pat.cs_len];done)|omega))⟩,trivial⟩⟩ (by kernel_rfl) (by kernel_rfl) ⟨zae (by first|rfl|(simp;done)|(simp;omega)|(first|rfl|(simp;done)|(rw[zaL (by assumption),Pat.cs_cd,Pat.cs_cd,List.map_append];rfl)|(rw[zbr (by assumption)];done)|(rw[zbr (by omega)];done)|(rw[zaL (by assumption)];simp[Pat.cs_len];done)|(rw[zaL (by omega)];simp[Pat.cs_len];done)|omega)),trivial⟩⟩
 ·try simp only[Q] at h1p
  refine rn0 (r1 rfl) (.gld ?_)
  all_goals (first|rfl|(have e:i=n:=(by omega);rw[e]))
theorem znA {w:List Data} (hw:WT w){f:Nat→Nat}{a k c:Int} (ht:TyIn w.length ⟨a,k⟩) (hc:c∈zaA w ⟨a,k⟩) (hl:(zaj w ⟨a,k⟩ c).length≤3):FnD Tryz.prog 131 [.d (sPtr w f),.agg [.d (.i a),.d (.i k)],.d (.i c)] []
  (.agg [.d (.i 4),.d (.i c),.d (.i 0),.d (.i 0),.d (.i 0),.d (zad (zcn w ⟨a,k⟩ c).kids)]) []:=by
 refine bd Tryz.f131 28 [] [] fun w0 F0 own kept hk=>?_
 refine Walk.box (id:=3004) .none rfl rfl rfl rfl rfl rfl rfl ?_
 refine Walk.alloc (id:=3006) tz77 rfl .none rfl rfl rfl rfl ?_
 refine tv ?_
 refine Walk.build st77 (ks:=[0,1]) (xs:=[_,_]) rfl rfl .none rfl rfl rfl ?_
 refine Walk.alloc (id:=3007) tz77 rfl .none rfl rfl rfl rfl ?_
 refine Walk.store ty77 .none rfl rfl rfl rfl rfl rfl (by simp) rfl ?_
 refine tv ?_
 refine Walk.call (cr:=[]) ziU (zde hw ht hc) rfl .none rfl rfl (LeL.refl _) trivial rfl rfl rfl ?_
 refine evd [] [] ?_
 refine dr ?_
 refine CWp.tokB 3007 5 9 6 rfl rfl rfl rfl ?_
 refine CWp.loopX (ι:=List (Ty)×List (Ty)) hk (fun x=>[(18,.d (.i (x.1.length:Int)))]) [19,20,21,22,23,24,25,26] (fun x=>[(3007,some (.box [.d (.i 4),.d (.i c),.d (.i 0),.d (.i 0),.d (.i 0),.gl 9 ((x.1.map fun _=>anyQ).map Pat.cc)])),(9,some (.tok ((x.1.map fun _=>anyQ).map Pat.cc).length 6))]) (fun x=>x.1++x.2=zaj w ⟨a,k⟩ c) (fun x=>x.2.length) ([],zaj w ⟨a,k⟩ c) (by simp) ⟨⟨_,rfl,(LeA.eqi (by first|rfl|(simp;done)|(simp;exact⟨rfl,rfl,rfl,rfl,rfl,rfl⟩)|omega))⟩,trivial⟩ ⟨(by first|rfl|(simp[getH];done)|(simp[getH];exact⟨rfl,rfl,rfl,rfl,rfl,rfl⟩)),⟨zae (by first|rfl|(simp;done)|(simp;omega)|(first|rfl|(simp;done)|(simp;exact⟨rfl,rfl,rfl,rfl,rfl,rfl⟩)|omega)),trivial⟩⟩ (fun x=>rfl) (fun x hg1=>?_)
 obtain⟨pre,rest⟩:=x
 dsimp only at hg1 ⊢
 refine evc [] [] ?_
 refine sq (fun h1 h1p h1s=>?_) fun h1 h1p h1s=>?_
 ·try simp only[Q] at h1p
  rcases rest with _|⟨y,rest⟩
  ·exfalso;simp_all
  refine Walk.call (cr:=[]) znL (zdd) rfl .none rfl rfl (LeL.refl _) trivial rfl rfl rfl ?_
  refine Walk.sliceLit sl28 tz77 rfl (by decide) (ks:=[0]) (xs:=[_]) rfl rfl (by decide) (by decide) .none rfl rfl rfl rfl ?_
  refine Walk.append sl28 zz77 rfl .none rfl rfl rfl rfl (zaG rfl (by first|rfl|(simp;done)|(simp;omega))) (by intro x hx;first|(simp at hx;subst hx;rfl)|exact zbI _ x hx) (by have:=congrArg List.length hg1;simp at this;simp;omega) (by have:=congrArg List.length hg1;simp at this;simp;omega) ?_
  refine evd [] [] ?_
  refine Walk.store ty28 .none rfl rfl rfl rfl rfl rfl (by simp) rfl ?_
  refine dr ?_
  refine ar ?_
  refine Exists.intro ((pre++[y],rest)) ⟨(by have hz:=hg1;rw[←hz];simp),(by simp),Sub.x (by kernel_rfl) (by kernel_rfl) ⟨⟨_,rfl,(LeA.eqi (by first|rfl|(simp;done)|(simp;exact⟨rfl,rfl,rfl,rfl,rfl,rfl⟩)|omega))⟩,trivial⟩ (by kernel_rfl) (by kernel_rfl) ⟨(by first|rfl|(simp[getH];done)|(simp[getH];exact⟨rfl,rfl,rfl,rfl,rfl,rfl⟩)),⟨zae (by first|rfl|(simp;done)|(simp;omega)|(first|rfl|(simp;done)|(simp;exact⟨rfl,rfl,rfl,rfl,rfl,rfl⟩)|omega)),trivial⟩⟩⟩
 ·try simp only[Q] at h1p
  have hrest:rest=[]:=by
   rcases rest with _|⟨a,b⟩
   ·rfl
   ·exfalso;have hz:=congrArg List.length (hg1);simp only[List.length_append,List.length_cons,List.length_map] at hz;omega
  subst hrest
  refine Walk.store ty77 .none rfl rfl rfl rfl rfl rfl (by simp) rfl ?_
  refine tv ?_
  refine rn0 (.cons (.cellA ty77 rfl rfl rfl) .nil) (.agg (.cons (.eqd ?_) (.cons (.eqd ?_) (.cons (.eqd ?_) (.cons (.eqd ?_) (.cons (.eqd ?_) (.cons (.gld ?_) .nil)))))))
  all_goals (first|rfl|(rw[List.append_nil] at hg1;subst hg1;rw[←Pat.cs_cd];all_goals rfl))
def zcV (n:Nat) (a b:Pat):Pat:=(zaW n a b).getD zsl
theorem zcF {n:Nat}{a b x:Pat} (h:zaW n a b=some x):zcV n a b=x:=by unfold zcV;rw[h];rfl
theorem zfk {n:Nat}{a b:Pat} (h:zaW n a b=none):zcV n a b=zsl:=by unfold zcV;rw[h];rfl
theorem zmz {n:Nat}{a b:Pat} (h:(zaW n a b).isSome=true):zaW n a b=some (zcV n a b):=by
 unfold zcV
 cases e:zaW n a b with
 |none=>rw[e] at h;cases h
 |some x=>rfl
theorem zmA {n:Nat}{a b:Pat} (h:(zaW n a b).isSome=false):zaW n a b=none:=by
 cases e:zaW n a b with
 |none=>rfl
 |some x=>rw[e] at h;cases h
theorem zi7 {w:List Data} (hs:Spa w){f:Nat→Nat}:∀(n m:Nat){ta tk:Int}{a b:Pat},m≤n→InS (w.length*4) ⟨ta,tk⟩→zam w m ⟨ta,tk⟩ a=true→zam w m ⟨ta,tk⟩ b=true→
  FnD Tryz.prog 134 [.d (sPtr w f),.agg [.d (.i ta),.d (.i tk)],.agg [.d (.i a.op),.d (.i a.ctor),.d (.i a.n),.d (.i a.m),.d (.i a.var),.d (zad a.kids)],.agg [.d (.i b.op),.d (.i b.ctor),.d (.i b.n),.d (.i b.m),.d (.i b.var),.d (zad b.kids)]] []
   (.tup [.agg [.d (.i (zcV n a b).op),.d (.i (zcV n a b).ctor),.d (.i (zcV n a b).n),.d (.i (zcV n a b).m),.d (.i (zcV n a b).var),.d (zad (zcV n a b).kids)],.d (.bool (zaW n a b).isSome)]) []
 |n,0,ta,tk,a,b,_,_,ha,_=>by simp[zam] at ha
 |0,m+1,ta,tk,a,b,h,_,_,_=>by omega
 |n+1,m+1,ta,tk,a,b,hnm,ht,ha,hb=>by
  by_cases h1:a.op=1
  ·have e:=zlv (n:=n) (b:=b) h1
   rw[zcF e,e]
   refine bd Tryz.f134 100 [] [] fun w0 F0 own kept hk=>?_
   refine Walk.box (id:=3005) .none rfl rfl rfl rfl rfl rfl rfl ?_
   refine Walk.box (id:=3006) .none rfl rfl rfl rfl rfl rfl rfl ?_
   refine Walk.box (id:=3007) .none rfl rfl rfl rfl rfl rfl rfl ?_
   refine Walk.alloc (id:=3008) tz77 rfl .none rfl rfl rfl rfl ?_
   refine ev ?_
   refine sq (fun h1 h1p h1s=>?_) fun h1 h1p h1s=>?_
   try simp only[Q] at h1p
   refine Walk.store ty77 .none rfl rfl rfl rfl rfl rfl (by simp) rfl ?_
   refine ev ?_
   refine rn0 (.cons (.cellA ty77 rfl rfl rfl) (.cons (.tmp rfl) .nil)) (.tup (.cons (.agg (.cons (.eqd ?_) (.cons (.eqd ?_) (.cons (.eqd ?_) (.cons (.eqd ?_) (.cons (.eqd ?_) (.cons (.eqd ?_) .nil))))))) (.cons (.eqd ?_) .nil)))
   rotate_left 7
   try simp only[Q] at h1p
   exfalso;omega
   all_goals (rfl)
  by_cases h2:b.op=1
  ·have e:=zlw (n:=n) h1 h2
   rw[zcF e,e]
   refine bd Tryz.f134 100 [] [] fun w0 F0 own kept hk=>?_
   refine Walk.box (id:=3005) .none rfl rfl rfl rfl rfl rfl rfl ?_
   refine Walk.box (id:=3006) .none rfl rfl rfl rfl rfl rfl rfl ?_
   refine Walk.box (id:=3007) .none rfl rfl rfl rfl rfl rfl rfl ?_
   refine Walk.alloc (id:=3008) tz77 rfl .none rfl rfl rfl rfl ?_
   refine ev ?_
   refine sq (fun h1 h1p h1s=>?_) fun h1 h1p h1s=>?_
   try simp only[Q] at h1p
   exfalso;omega
   try simp only[Q] at h1p
   refine sq (fun h2 h2p h2s=>?_) fun h2 h2p h2s=>?_
   try simp only[Q] at h2p
   refine Walk.store ty77 .none rfl rfl rfl rfl rfl rfl (by simp) rfl ?_
   refine ev ?_
   refine rn0 (.cons (.cellA ty77 rfl rfl rfl) (.cons (.tmp rfl) .nil)) (.tup (.cons (.agg (.cons (.eqd ?_) (.cons (.eqd ?_) (.cons (.eqd ?_) (.cons (.eqd ?_) (.cons (.eqd ?_) (.cons (.eqd ?_) .nil))))))) (.cons (.eqd ?_) .nil)))
   rotate_left 7
   try simp only[Q] at h2p
   exfalso;omega
   all_goals (rfl)
  by_cases h3:a.op=3
  ·have e:=zlx (n:=n) h3 h2
   by_cases hr:maxQ a.n b.n≤minQ a.m b.m
   ·rw[if_pos hr] at e
    have er:zbJ [maxQ a.n b.n,minQ a.m b.m] 1=[intQ (maxQ a.n b.n) (minQ a.m b.m)]:=by rw[zoI];exact if_pos hr
    have hrg:=zfz (l:=[maxQ a.n b.n,minQ a.m b.m]) (n:=1) rfl (by omega)
    rw[er] at hrg
    rw[zcF e,e]
    refine bd Tryz.f134 100 [] [] fun w0 F0 own kept hk=>?_
    refine Walk.box (id:=3005) .none rfl rfl rfl rfl rfl rfl rfl ?_
    refine Walk.box (id:=3006) .none rfl rfl rfl rfl rfl rfl rfl ?_
    refine Walk.box (id:=3007) .none rfl rfl rfl rfl rfl rfl rfl ?_
    refine Walk.alloc (id:=3008) tz77 rfl .none rfl rfl rfl rfl ?_
    refine ev ?_
    refine sq (fun h1 h1p h1s=>?_) fun h1 h1p h1s=>?_
    try simp only[Q,Pat.cs_len] at h1p
    exfalso;omega
    try simp only[Q,Pat.cs_len] at h1p
    refine sq (fun h2 h2p h2s=>?_) fun h2 h2p h2s=>?_
    try simp only[Q,Pat.cs_len] at h2p
    exfalso;omega
    try simp only[Q,Pat.cs_len] at h2p
    refine sq (fun h3 h3p h3s=>?_) fun h3 h3p h3s=>?_
    try simp only[Q,Pat.cs_len] at h3p
    refine Walk.maxI .none rfl rfl rfl ?_
    refine ev ?_
    refine Walk.minI .none rfl rfl rfl ?_
    refine Walk.sliceLit zbU tz3 rfl (by decide) (ks:=[0,1]) (xs:=[_,_]) rfl rfl (by decide) (by decide) .none rfl rfl rfl rfl ?_
    refine Walk.call (cr:=[]) zn2 (hrg) rfl .none rfl rfl (LeL.refl _) trivial rfl rfl rfl ?_
    refine ev ?_
    refine sq (fun h4 h4p h4s=>?_) fun h4 h4p h4s=>?_
    try simp only[Q,Pat.cs_len] at h4p
    exfalso;simp[Pat.cs_len] at h4
    try simp only[Q,Pat.cs_len] at h4p
    refine Walk.idx (i:=0) sl28 .none rfl rfl rfl rfl (rfl) rfl ?_
    refine ev ?_
    refine Walk.store ty77 .none rfl rfl rfl rfl rfl rfl (by simp) rfl ?_
    refine ev ?_
    refine rn0 (.cons (.cellA ty77 rfl rfl rfl) (.cons (.tmp rfl) .nil)) (.tup (.cons (.agg (.cons (.eqd ?_) (.cons (.eqd ?_) (.cons (.eqd ?_) (.cons (.eqd ?_) (.cons (.eqd ?_) (.cons (.eqd ?_) .nil))))))) (.cons (.eqd ?_) .nil)))
    rotate_left 7
    try simp only[Q,Pat.cs_len] at h3p
    exfalso;omega
    all_goals (rfl)
   ·skip
    rw[if_neg hr] at e
    have er:zbJ [maxQ a.n b.n,minQ a.m b.m] 1=[]:=by rw[zoI];exact if_neg hr
    have hrg:=zfz (l:=[maxQ a.n b.n,minQ a.m b.m]) (n:=1) rfl (by omega)
    rw[er] at hrg
    rw[zfk e,e]
    refine bd Tryz.f134 100 [] [] fun w0 F0 own kept hk=>?_
    refine Walk.box (id:=3005) .none rfl rfl rfl rfl rfl rfl rfl ?_
    refine Walk.box (id:=3006) .none rfl rfl rfl rfl rfl rfl rfl ?_
    refine Walk.box (id:=3007) .none rfl rfl rfl rfl rfl rfl rfl ?_
    refine Walk.alloc (id:=3008) tz77 rfl .none rfl rfl rfl rfl ?_
    refine ev ?_
    refine sq (fun h1 h1p h1s=>?_) fun h1 h1p h1s=>?_
    try simp only[Q,Pat.cs_len] at h1p
    exfalso;omega
    try simp only[Q,Pat.cs_len] at h1p
    refine sq (fun h2 h2p h2s=>?_) fun h2 h2p h2s=>?_
    try simp only[Q,Pat.cs_len] at h2p
    exfalso;omega
    try simp only[Q,Pat.cs_len] at h2p
    refine sq (fun h3 h3p h3s=>?_) fun h3 h3p h3s=>?_
    try simp only[Q,Pat.cs_len] at h3p
    refine Walk.maxI .none rfl rfl rfl ?_
    refine ev ?_
    refine Walk.minI .none rfl rfl rfl ?_
    refine Walk.sliceLit zbU tz3 rfl (by decide) (ks:=[0,1]) (xs:=[_,_]) rfl rfl (by decide) (by decide) .none rfl rfl rfl rfl ?_
    refine Walk.call (cr:=[]) zn2 (hrg) rfl .none rfl rfl (LeL.refl _) trivial rfl rfl rfl ?_
    refine ev ?_
    refine sq (fun h4 h4p h4s=>?_) fun h4 h4p h4s=>?_
    try simp only[Q,Pat.cs_len] at h4p
    refine Walk.build st77 (ks:=[]) (xs:=[]) rfl rfl .none rfl rfl rfl ?_
    refine Walk.store ty77 .none rfl rfl rfl rfl rfl rfl (by simp) rfl ?_
    refine ev ?_
    refine rn0 (.cons (.cellA ty77 rfl rfl rfl) (.cons (.tmp rfl) .nil)) (.tup (.cons (.agg (.cons (.eqd ?_) (.cons (.eqd ?_) (.cons (.eqd ?_) (.cons (.eqd ?_) (.cons (.eqd ?_) (.cons (.nild ?_) .nil))))))) (.cons (.eqd ?_) .nil)))
    rotate_left 7
    try simp only[Q,Pat.cs_len] at h4p
    exfalso;simp[Pat.cs] at h4
    try simp only[Q,Pat.cs_len] at h3p
    exfalso;omega
    all_goals (rfl)
  have oa:=zck ha
  have h4:a.op=4:=by omega
  have h4b:b.op=4:=by have:=zdV ha hb h1 h2;omega
  by_cases hc:a.ctor=b.ctor
  ·obtain⟨c1,c2,c3,c4⟩:=zbh ha h4
   obtain⟨d1,d2,d3,d4⟩:=zbh hb h4b
   rw[←hc] at d3
   have h3l:=hs.args ⟨ta,tk⟩ a.ctor ht c1
   have ka:=fun i (hi:i<a.kids.length)=>zbw ha hi
   have kb:=fun i (hi:i<b.kids.length)=>zbw hb hi
   rw[zbK h4] at ka
   rw[zbK h4b,←hc] at kb
   have e:=zly (n:=n) h4 h2 hc
   have hlen:a.kids.length=b.kids.length:=by omega
   have ih:=fun i (hi:i<(zaj w ⟨ta,tk⟩ a.ctor).length)=>zi7 hs n m (f:=f) (ta:=(nth (zaj w ⟨ta,tk⟩ a.ctor) i).data) (tk:=(nth (zaj w ⟨ta,tk⟩ a.ctor) i).index) (a:=nth a.kids i) (b:=nth b.kids i) (by omega) (zcz hs.dp ht c1 _ (zal hi)) (ka i (by omega)) (kb i (by omega))
   refine bd Tryz.f134 100 [] [] fun w0 F0 own kept hk=>?_
   refine Walk.box (id:=3005) .none rfl rfl rfl rfl rfl rfl rfl ?_
   refine Walk.box (id:=3006) .none rfl rfl rfl rfl rfl rfl rfl ?_
   refine Walk.box (id:=3007) .none rfl rfl rfl rfl rfl rfl rfl ?_
   refine Walk.alloc (id:=3008) tz77 rfl .none rfl rfl rfl rfl ?_
   refine ev ?_
   refine sq (fun h1 h1p h1s=>?_) fun h1 h1p h1s=>?_
   try simp only[Q,Pat.cs_len] at h1p
   exfalso;omega
   try simp only[Q,Pat.cs_len] at h1p
   refine sq (fun h2 h2p h2s=>?_) fun h2 h2p h2s=>?_
   try simp only[Q,Pat.cs_len] at h2p
   exfalso;omega
   try simp only[Q,Pat.cs_len] at h2p
   refine sq (fun h3 h3p h3s=>?_) fun h3 h3p h3s=>?_
   try simp only[Q,Pat.cs_len] at h3p
   exfalso;omega
   try simp only[Q,Pat.cs_len] at h3p
   refine sq (fun h4 h4p h4s=>?_) fun h4 h4p h4s=>?_
   try simp only[Q,Pat.cs_len] at h4p
   exfalso;omega
   try simp only[Q,Pat.cs_len] at h4p
   refine Walk.build st77 (ks:=[0,1]) (xs:=[_,_]) rfl rfl .none rfl rfl rfl ?_
   refine Walk.alloc (id:=3011) tz77 rfl .none rfl rfl rfl rfl ?_
   refine Walk.store ty77 .none rfl rfl rfl rfl rfl rfl (by simp) rfl ?_
   refine tv ?_
   refine Walk.call (cr:=[]) ziU (zde hs.dp.wt (zcR ht) c1) rfl .none rfl rfl (LeL.refl _) trivial rfl rfl rfl ?_
   refine evd [] [] ?_
   refine dr ?_
   refine CWp.tokB 3011 5 9 6 rfl rfl rfl rfl ?_
   refine CWp.loopX (ι:=Nat×List Pat) hk (fun x=>[(68,.d (.i (x.1:Int)))]) [9,12,13,14,15,69,70,71,72,73,74,75,76,77,78,79,80,81,82,83,84,85,86,87,88,89,90,91,92,93,94,95,96,97,98] (fun x=>[(3011,some (.box [.d (.i 4),.d (.i a.ctor),.d (.i 0),.d (.i 0),.d (.i 0),.gl 9 (x.2.map Pat.cc)])),(9,some (.tok (x.2.map Pat.cc).length 6))]) (fun x=>x.1≤a.kids.length∧x.2.length=x.1∧zcN (zaW n) (a.kids.drop x.1) (b.kids.drop x.1) x.2=zcN (zaW n) a.kids b.kids []) (fun x=>a.kids.length-x.1) (0,[]) ⟨by simp,rfl,rfl⟩ ⟨⟨_,rfl,(LeA.eqi (by first|rfl|(simp;done)|(simp_all;done)|omega))⟩,trivial⟩ ⟨(by first|rfl|(simp[getH];done)),⟨zae (by first|rfl|(simp;done)|(simp;omega)|(first|rfl|(simp;done)|(simp_all;done)|omega)),trivial⟩⟩ (fun x=>rfl) (fun x hg1=>?_)
   refine evc [] [] ?_
   refine sq (fun h5 h5p h5s=>?_) fun h5 h5p h5s=>?_
   try simp only[Q,Pat.cs_len] at h5p
   refine Walk.idx zbf .none rfl rfl rfl rfl (zay (by omega)) rfl ?_
   refine ev ?_
   refine Walk.alloc (id:=3013) tz33 rfl .none rfl rfl rfl rfl ?_
   refine ev ?_
   refine Walk.store ty33 .none rfl rfl rfl rfl rfl rfl (by simp) rfl ?_
   refine tv ?_
   refine Walk.idx sl28 .none rfl rfl rfl rfl (zaK (by omega)) rfl ?_
   refine evd [] [] ?_
   refine Walk.idx sl28 .none rfl rfl rfl rfl (zaK (by omega)) rfl ?_
   refine evd [] [] ?_
   refine Walk.call (cr:=[]) zqh (ih x.1 (by omega)) rfl .none rfl rfl (LeL.refl _) trivial rfl rfl rfl ?_
   refine evd [] [] ?_
   refine Walk.alloc (id:=3014) tz77 rfl .none rfl rfl rfl rfl ?_
   refine Walk.store ty77 .none rfl rfl rfl rfl rfl rfl (by simp) rfl ?_
   refine evd [] [] ?_
   refine dr ?_
   refine sq (fun h6 h6p h6s=>?_) fun h6 h6p h6s=>?_
   try simp only[Q,Pat.cs_len] at h6p
   refine Walk.build st77 (ks:=[]) (xs:=[]) rfl rfl .none rfl rfl rfl ?_
   refine Walk.store ty77 .none rfl rfl rfl rfl rfl rfl (by simp) rfl ?_
   refine ev ?_
   refine rn0 (.cons (.cellA ty77 rfl rfl rfl) (.cons (.tmp rfl) .nil)) (.tup (.cons (.agg (.cons (.eqd ?_) (.cons (.eqd ?_) (.cons (.eqd ?_) (.cons (.eqd ?_) (.cons (.eqd ?_) (.cons (.nild ?_) .nil))))))) (.cons (.eqd ?_) .nil)))
   rotate_left 7
   try simp only[Q,Pat.cs_len] at h6p
   refine Walk.sliceLit sl28 tz77 rfl (by decide) (ks:=[0]) (xs:=[_]) rfl rfl (by decide) (by decide) .none rfl rfl rfl rfl ?_
   refine Walk.append sl28 zz77 rfl .none rfl rfl rfl rfl (zaG rfl (by first|rfl|(simp;done)|(simp;omega))) (by intro x hx;first|(simp at hx;subst hx;rfl)|exact zbI _ x hx) (by simp;omega) (by simp;omega) ?_
   refine ev ?_
   refine Walk.store ty28 .none rfl rfl rfl rfl rfl rfl (by simp) rfl ?_
   refine tv ?_
   refine ar ?_
   refine Exists.intro ((x.1+1,x.2++[zcV n (nth a.kids x.1) (nth b.kids x.1)])) ⟨⟨by dsimp only;omega,by dsimp only;rw[List.length_append,hg1.2.1];rfl,by dsimp only;rw[←zlu (by omega) (by omega) (zmz (by assumption))];exact hg1.2.2⟩,(by dsimp only;omega),Sub.x (by kernel_rfl) (by kernel_rfl) ⟨⟨_,rfl,(LeA.eqi (by first|rfl|(simp;done)|(simp_all;done)|omega))⟩,trivial⟩ (by kernel_rfl) (by kernel_rfl) ⟨(by first|rfl|(simp[getH];done)),⟨zae (by first|rfl|(simp;done)|(simp;omega)|(first|rfl|(simp;done)|(simp_all;done)|omega)),trivial⟩⟩⟩
   try simp only[Q,Pat.cs_len] at h5p
   refine Walk.store ty77 .none rfl rfl rfl rfl rfl rfl (by simp) rfl ?_
   refine ev ?_
   refine rn0 (.cons (.cellA ty77 rfl rfl rfl) (.cons (.tmp rfl) .nil)) (.tup (.cons (.agg (.cons (.eqd ?_) (.cons (.eqd ?_) (.cons (.eqd ?_) (.cons (.eqd ?_) (.cons (.eqd ?_) (.cons (.gld ?_) .nil))))))) (.cons (.eqd ?_) .nil)))
   rotate_left 7
   all_goals (first|(have e2:zaW (n+1) a b=none:=(by rw[e,←hg1.2.2,zlt (by omega) (by omega) (zmA (by assumption))];rfl);(first|rw[zfk e2]|rw[e2]);all_goals rfl)|(have e2:zaW (n+1) a b=some (zb8 a.ctor x.2):=(by rw[e,←hg1.2.2,zeX (by omega)];rfl);rw[zcF e2,Pat.cs_cd];all_goals rfl)|(have e2:zaW (n+1) a b=some (zb8 a.ctor x.2):=(by rw[e,←hg1.2.2,zeX (by omega)];rfl);rw[zcF e2];all_goals rfl)|(have e2:zaW (n+1) a b=some (zb8 a.ctor x.2):=(by rw[e,←hg1.2.2,zeX (by omega)];rfl);rw[e2];all_goals rfl))
  ·skip
   have e:=zjK (n:=n) h4 h2 hc
   rw[zfk e,e]
   refine bd Tryz.f134 100 [] [] fun w0 F0 own kept hk=>?_
   refine Walk.box (id:=3005) .none rfl rfl rfl rfl rfl rfl rfl ?_
   refine Walk.box (id:=3006) .none rfl rfl rfl rfl rfl rfl rfl ?_
   refine Walk.box (id:=3007) .none rfl rfl rfl rfl rfl rfl rfl ?_
   refine Walk.alloc (id:=3008) tz77 rfl .none rfl rfl rfl rfl ?_
   refine ev ?_
   refine sq (fun h1 h1p h1s=>?_) fun h1 h1p h1s=>?_
   try simp only[Q] at h1p
   exfalso;omega
   try simp only[Q] at h1p
   refine sq (fun h2 h2p h2s=>?_) fun h2 h2p h2s=>?_
   try simp only[Q] at h2p
   exfalso;omega
   try simp only[Q] at h2p
   refine sq (fun h3 h3p h3s=>?_) fun h3 h3p h3s=>?_
   try simp only[Q] at h3p
   exfalso;omega
   try simp only[Q] at h3p
   refine sq (fun h4 h4p h4s=>?_) fun h4 h4p h4s=>?_
   try simp only[Q] at h4p
   refine Walk.build st77 (ks:=[]) (xs:=[]) rfl rfl .none rfl rfl rfl ?_
   refine Walk.store ty77 .none rfl rfl rfl rfl rfl rfl (by simp) rfl ?_
   refine ev ?_
   refine rn0 (.cons (.cellA ty77 rfl rfl rfl) (.cons (.tmp rfl) .nil)) (.tup (.cons (.agg (.cons (.eqd ?_) (.cons (.eqd ?_) (.cons (.eqd ?_) (.cons (.eqd ?_) (.cons (.eqd ?_) (.cons (.nild ?_) .nil))))))) (.cons (.eqd ?_) .nil)))
   rotate_left 7
   try simp only[Q] at h4p
   exfalso;omega
   all_goals (rfl)
theorem zhl {f:Ty→Pat→Pat→List Pat}{c:Int}{ts:List Ty}{xs bs front:List Pat}{i:Nat} (h1:i<ts.length) (h2:i<xs.length) (h3:i<bs.length):
  zbk f c (ts.drop i) (xs.drop i) (bs.drop i) front=(f (nth ts i) (nth xs i) (nth bs i)).map (fun z=>zb8 c (front++[z]++xs.drop (i+1)))++(match zaW 11 (nth xs i) (nth bs i) with
   |none=>[]
   |some both=>zbk f c (ts.drop (i+1)) (xs.drop (i+1)) (bs.drop (i+1)) (front++[both])):=by
 rw[zbc h1,zbc h2,zbc h3,zbk]
 all_goals (cases zaW 11 (nth xs i) (nth bs i)<;>rfl)
theorem zkb {f:Ty→Pat→Pat→List Pat}{c:Int}{ts:List Ty}{xs bs front:List Pat}{i:Nat} (h1:i<ts.length) (h2:i<xs.length) (h3:i<bs.length) (h:(zaW 11 (nth xs i) (nth bs i)).isSome=true):
  zbk f c (ts.drop i) (xs.drop i) (bs.drop i) front=(f (nth ts i) (nth xs i) (nth bs i)).map (fun z=>zb8 c (front++[z]++xs.drop (i+1)))++zbk f c (ts.drop (i+1)) (xs.drop (i+1)) (bs.drop (i+1)) (front++[zcV 11 (nth xs i) (nth bs i)]):=by
 rw[zhl h1 h2 h3,zmz h]
theorem zka {f:Ty→Pat→Pat→List Pat}{c:Int}{ts:List Ty}{xs bs front:List Pat}{i:Nat} (h1:i<ts.length) (h2:i<xs.length) (h3:i<bs.length) (h:(zaW 11 (nth xs i) (nth bs i)).isSome=false):
  zbk f c (ts.drop i) (xs.drop i) (bs.drop i) front=(f (nth ts i) (nth xs i) (nth bs i)).map (fun z=>zb8 c (front++[z]++xs.drop (i+1))):=by
 rw[zhl h1 h2 h3,zmA h,List.append_nil]
theorem zlz {f:Ty→Pat→Pat→List Pat}{c:Int}{ts:List Ty}{xs bs front:List Pat}{i:Nat} (h1:ts.length≤i):zbk f c (ts.drop i) (xs.drop i) (bs.drop i) front=[]:=by
 rw[List.drop_eq_nil_of_le h1];rfl
theorem zoF {n:Nat} (h:n≤11):4 ^ n≤4194304:=Nat.le_trans (Nat.pow_le_pow_right (by omega) h) (by decide)
theorem zfB {w:List Data} (hs:Spa w){n m:Nat}{t:Ty}{a b:Pat} (h:n<m) (h10:n≤10) (ht:InS (w.length*4) t) (ha:zam w m t a=true) (hb:zam w n t b=true):(zav w n t a b).length≤20000000:=by
 have h1:=zm9 hs n m h ht ha hb
 have h2:=(zfC hs n ht hb).2
 have h3:=zoF (n:=n) (by omega)
 omega
theorem zst {A B:List Pat}{y:Pat}{xs:List (List D)} (hx:xs=Pat.cs B) (hb:A.length+1+B.length≤1000):
  FnD Tryz.prog 133 [.d (.sl [[.sl (A.map Pat.cc)],[.sl [Pat.cc y]],[.sl xs]])] [] (.d (zad (A++[y]++B))) []:=by
 have h:=zjq (ls:=[A,[y],B]) (by simp) (by simp;omega) (by simp;omega)
 have e:[A,[y],B].flatten=A++[y]++B:=by simp
 rw[e] at h
 subst hx
 have e2:zsc [A,[y],B] = .sl [[.sl (A.map Pat.cc)],[.sl [Pat.cc y]],[.sl (Pat.cs B)]]:=by
  show D.sl [[.sl (Pat.cs A)],[.sl (Pat.cs [y])],[.sl (Pat.cs B)]]=_
  rw[Pat.cs_cd A,Pat.cs_cd [y]];rfl
 rw[e2] at h
 exact h
section
variable {w:List Data}{f:Nat→Nat}
abbrev MinusFn (w:List Data) (f:Nat→Nat) (n:Nat) (ta tk:Int) (a b:Pat):Prop:=
 FnD Tryz.prog 72 [.d (sPtr w f),.agg [.d (.i ta),.d (.i tk)],.agg [.d (.i a.op),.d (.i a.ctor),.d (.i a.n),.d (.i a.m),.d (.i a.var),.d (zad a.kids)],.agg [.d (.i b.op),.d (.i b.ctor),.d (.i b.n),.d (.i b.m),.d (.i b.var),.d (zad b.kids)]] [] (.d (zad (zav w n ⟨ta,tk⟩ a b))) []
theorem zom {n:Nat}{ta tk:Int}{a b:Pat} (h:b.op=1):MinusFn w f (n+1) ta tk a b:=by
 unfold MinusFn
 rw[zhS h]
 refine bd Tryz.f72 159 [] [] fun w0 F0 own kept hk=>?_
 refine Walk.box (id:=3005) .none rfl rfl rfl rfl rfl rfl rfl ?_
 refine Walk.box (id:=3006) .none rfl rfl rfl rfl rfl rfl rfl ?_
 refine Walk.box (id:=3007) .none rfl rfl rfl rfl rfl rfl rfl ?_
 refine ev ?_
 refine sq (fun h1 h1p h1s=>?_) fun h1 h1p h1s=>?_
 try simp only[Q] at h1p
 refine rn0 (r1 rfl) (.nild ?_)
 rotate_left
 try simp only[Q] at h1p
 exfalso;omega
 all_goals (rfl)
theorem zon {n:Nat}{ta tk:Int}{a b:Pat} (h:b.op=3) (hbn:0≤b.n∧b.n≤9) (hbm:0≤b.m∧b.m≤9):MinusFn w f (n+1) ta tk a b:=by
 unfold MinusFn
 rw[zjL h]
 have er:zbJ [lowQ a,minQ (zdc a) (b.n-1),maxQ (lowQ a) (b.m+1),zdc a] 2=zeD a b:=zrx _ _ _ _
 have hrg:=zfz (l:=[lowQ a,minQ (zdc a) (b.n-1),maxQ (lowQ a) (b.m+1),zdc a]) (n:=2) rfl (by omega)
 rw[er] at hrg
 refine bd Tryz.f72 159 [] [] fun w0 F0 own kept hk=>?_
 refine Walk.box (id:=3005) .none rfl rfl rfl rfl rfl rfl rfl ?_
 refine Walk.box (id:=3006) .none rfl rfl rfl rfl rfl rfl rfl ?_
 refine Walk.box (id:=3007) .none rfl rfl rfl rfl rfl rfl rfl ?_
 refine ev ?_
 refine sq (fun h1 h1p h1s=>?_) fun h1 h1p h1s=>?_
 try simp only[Q] at h1p
 exfalso;omega
 try simp only[Q] at h1p
 refine sq (fun h2 h2p h2s=>?_) fun h2 h2p h2s=>?_
 try simp only[Q] at h2p
 refine Walk.call (cr:=[]) zsX (zld) rfl .none rfl rfl (LeL.refl _) trivial rfl rfl rfl ?_
 refine ev ?_
 refine ar ?_
 refine Walk.minI .none rfl rfl rfl ?_
 refine ev ?_
 refine ar ?_
 refine Walk.maxI .none rfl rfl rfl ?_
 refine ev ?_
 refine Walk.sliceLit zbU tz3 rfl (by decide) (ks:=[0,1,2,3]) (xs:=[_,_,_,_]) rfl rfl (by decide) (by decide) .none rfl rfl rfl rfl ?_
 refine Walk.call (cr:=[]) zn2 (hrg) rfl .none rfl rfl (LeL.refl _) trivial rfl rfl rfl ?_
 refine ev ?_
 focus (refine rn0 (r1 rfl) (.eqd ?_);all_goals (first|rfl|(simp[h1s,h1p,h2s,h2p];done)|(simp_all;done)|(simp_all;omega)|omega))
 try simp only[Q] at h2p
 exfalso;omega
theorem zoq {n:Nat}{ta tk:Int}{a b:Pat} (h4:a.op=4) (h4b:b.op=4) (hc:¬a.ctor=b.ctor):MinusFn w f (n+1) ta tk a b:=by
 unfold MinusFn
 have e:zav w (n+1) ⟨ta,tk⟩ a b=[a]:=by rw[zen h4b h4];exact if_neg hc
 rw[e]
 refine bd Tryz.f72 159 [] [] fun w0 F0 own kept hk=>?_
 refine Walk.box (id:=3005) .none rfl rfl rfl rfl rfl rfl rfl ?_
 refine Walk.box (id:=3006) .none rfl rfl rfl rfl rfl rfl rfl ?_
 refine Walk.box (id:=3007) .none rfl rfl rfl rfl rfl rfl rfl ?_
 refine ev ?_
 refine sq (fun h1 h1p h1s=>?_) fun h1 h1p h1s=>?_
 try simp only[Q] at h1p
 exfalso;omega
 try simp only[Q] at h1p
 refine sq (fun h2 h2p h2s=>?_) fun h2 h2p h2s=>?_
 try simp only[Q] at h2p
 exfalso;omega
 try simp only[Q] at h2p
 refine sq (fun h3 h3p h3s=>?_) fun h3 h3p h3s=>?_
 try simp only[Q] at h3p
 exfalso;omega
 try simp only[Q] at h3p
 refine sq (fun h4 h4p h4s=>?_) fun h4 h4p h4s=>?_
 try simp only[Q] at h4p
 refine Walk.sliceLit sl28 tz77 rfl (by decide) (ks:=[0]) (xs:=[_]) rfl rfl (by decide) (by decide) .none rfl rfl rfl rfl ?_
 refine ev ?_
 refine rn0 (r1 rfl) (.eqd ?_)
 rotate_left
 try simp only[Q] at h4p
 exfalso;omega
 all_goals (first|rfl|(cases a;rfl))
theorem zop (hs:Spa w){n m:Nat} (hn:n+1≤10) (hm:m+1≤11) (hnm:n<m)
  (ih:∀ {ta tk:Int}{a b:Pat},InS (w.length*4) ⟨ta,tk⟩→zam w m ⟨ta,tk⟩ a=true→zam w n ⟨ta,tk⟩ b=true→MinusFn w f n ta tk a b)
  {ta tk:Int}{a b:Pat} (ht:InS (w.length*4) ⟨ta,tk⟩) (ha:zam w (m+1) ⟨ta,tk⟩ a=true) (hb:zam w (n+1) ⟨ta,tk⟩ b=true) (h4:a.op=4) (h4b:b.op=4) (hc:a.ctor=b.ctor):MinusFn w f (n+1) ta tk a b:=by
 obtain⟨c1,c2,c3,-⟩:=zbh ha h4
 obtain⟨d1,d2,d3,-⟩:=zbh hb h4b
 rw[←hc] at d3
 have h3l:=hs.args ⟨ta,tk⟩ a.ctor ht c1
 have ka:=fun i (hi:i<a.kids.length)=>zbw ha hi
 have kb:=fun i (hi:i<b.kids.length)=>zbw hb hi
 rw[zbK h4] at ka
 rw[zbK h4b,←hc] at kb
 have hbd:=zfB hs (n:=n+1) (m:=m+1) (by omega) hn ht ha hb
 have e:zav w (n+1) ⟨ta,tk⟩ a b=zbk (zav w n) a.ctor (zaj w ⟨ta,tk⟩ a.ctor) a.kids b.kids []:=by rw[zen h4b h4];exact if_pos hc
 have hins:=fun i (hi:i<(zaj w ⟨ta,tk⟩ a.ctor).length)=>zcz hs.dp ht c1 _ (zal hi)
 have hmi:∀i,i<(zaj w ⟨ta,tk⟩ a.ctor).length→FnD Tryz.prog 72 [.d (sPtr w f),.agg [.d (.i (nth (zaj w ⟨ta,tk⟩ a.ctor) i).data),.d (.i (nth (zaj w ⟨ta,tk⟩ a.ctor) i).index)],.agg [.d (.i (nth a.kids i).op),.d (.i (nth a.kids i).ctor),.d (.i (nth a.kids i).n),.d (.i (nth a.kids i).m),.d (.i (nth a.kids i).var),.d (zad (nth a.kids i).kids)],.agg [.d (.i (nth b.kids i).op),.d (.i (nth b.kids i).ctor),.d (.i (nth b.kids i).n),.d (.i (nth b.kids i).m),.d (.i (nth b.kids i).var),.d (zad (nth b.kids i).kids)]] [] (.d (zad (zav w n (nth (zaj w ⟨ta,tk⟩ a.ctor) i) (nth a.kids i) (nth b.kids i)))) []:=fun i hi=>ih (ta:=(nth (zaj w ⟨ta,tk⟩ a.ctor) i).data) (tk:=(nth (zaj w ⟨ta,tk⟩ a.ctor) i).index) (hins i hi) (ka i (by omega)) (kb i (by omega))
 have hme:=fun i (hi:i<(zaj w ⟨ta,tk⟩ a.ctor).length)=>zi7 hs 11 m (f:=f) (ta:=(nth (zaj w ⟨ta,tk⟩ a.ctor) i).data) (tk:=(nth (zaj w ⟨ta,tk⟩ a.ctor) i).index) (by omega) (hins i hi) (ka i (by omega)) (zjM (by omega) (kb i (by omega)))
 unfold MinusFn
 rw[e] at hbd ⊢
 have hT:∀i out front,i<(zaj w ⟨ta,tk⟩ a.ctor).length→out++zbk (zav w n) a.ctor ((zaj w ⟨ta,tk⟩ a.ctor).drop i) (a.kids.drop i) (b.kids.drop i) front=zbk (zav w n) a.ctor (zaj w ⟨ta,tk⟩ a.ctor) a.kids b.kids []→
   out.length+(zav w n (nth (zaj w ⟨ta,tk⟩ a.ctor) i) (nth a.kids i) (nth b.kids i)).length≤20000000:=fun i out front hi h=>by
  rw[zhl hi (by omega) (by omega)] at h
  have:=congrArg List.length h
  simp only[List.length_append,List.length_map] at this
  omega
 refine bd Tryz.f72 159 [14,15] [] fun w0 F0 own kept hk=>?_
 refine Walk.box (id:=3005) .none rfl rfl rfl rfl rfl rfl rfl ?_
 refine Walk.box (id:=3006) .none rfl rfl rfl rfl rfl rfl rfl ?_
 refine Walk.box (id:=3007) .none rfl rfl rfl rfl rfl rfl rfl ?_
 refine evs [14,15] [] ?_
 refine sq (fun h1 h1p h1s=>?_) fun h1 h1p h1s=>?_
 try simp only[Q,Pat.cs_len] at h1p
 exfalso;omega
 try simp only[Q,Pat.cs_len] at h1p
 refine sq (fun h2 h2p h2s=>?_) fun h2 h2p h2s=>?_
 try simp only[Q,Pat.cs_len] at h2p
 exfalso;omega
 try simp only[Q,Pat.cs_len] at h2p
 refine sq (fun h3 h3p h3s=>?_) fun h3 h3p h3s=>?_
 try simp only[Q,Pat.cs_len] at h3p
 exfalso;omega
 try simp only[Q,Pat.cs_len] at h3p
 refine sq (fun h4 h4p h4s=>?_) fun h4 h4p h4s=>?_
 try simp only[Q,Pat.cs_len] at h4p
 exfalso;omega
 try simp only[Q,Pat.cs_len] at h4p
 refine Walk.assignNil 9 6 .none rfl rfl ?_
 refine Walk.assignNil 8 6 .none rfl rfl ?_
 refine tv ?_
 refine Walk.call (cr:=[]) ziU (zde hs.dp.wt (zcR ht) c1) rfl .none rfl rfl (LeL.refl _) trivial rfl rfl rfl ?_
 refine evd [14,15] [] ?_
 refine dr ?_
 refine CWp.loopX (ι:=Nat×List Pat×List Pat) hk (fun s=>[(94,.d (.i (s.1:Int))),(14,.gl 9 (s.2.1.map Pat.cc)),(15,.gl 8 (s.2.2.map Pat.cc))]) [16,17,19,20,21,22,95,96,97,98,99,100,101,102,103,104,105,106,107,108,109,110,111,112,113,114,115,116,117,118,119,120,121,122,123,124,125,126,127,128,129,130,131,132,133,134,135,136,137,138,139,140,141,142,143,144,145,146,147,148,149,150,151,152,153,154,155,156,157] (fun s=>[(9,some (.tok ((s.2.1.map Pat.cc)).length 6)),(8,some (.tok ((s.2.2.map Pat.cc)).length 6))]) (fun s=>s.1≤a.kids.length∧s.2.2.length=s.1∧s.2.1++zbk (zav w n) a.ctor ((zaj w ⟨ta,tk⟩ a.ctor).drop s.1) (a.kids.drop s.1) (b.kids.drop s.1) s.2.2=zbk (zav w n) a.ctor (zaj w ⟨ta,tk⟩ a.ctor) a.kids b.kids []) (fun s=>a.kids.length-s.1) (0,[],[]) ⟨by simp,rfl,rfl⟩ ⟨⟨_,rfl,(LeA.eqi (by first|rfl|(simp;done)|(simp_all;done)|omega))⟩,⟨⟨_,rfl,(LeA.glg (by first|rfl|(simp;done)|(simp_all;done)|omega))⟩,⟨⟨_,rfl,(LeA.glg (by first|rfl|(simp;done)|(simp_all;done)|omega))⟩,trivial⟩⟩⟩ ⟨zae (by first|rfl|(simp;done)|(simp;omega)|(first|rfl|(simp;done)|(simp_all;done)|omega)),⟨zae (by first|rfl|(simp;done)|(simp;omega)|(first|rfl|(simp;done)|(simp_all;done)|omega)),trivial⟩⟩ (fun x=>rfl) (fun s hg2=>?_)
 refine evc [14,15] [] ?_
 refine sq (fun h5 h5p h5s=>?_) fun h5 h5p h5s=>?_
 try simp only[Q,Pat.cs_len] at h5p
 refine Walk.idx zbf .none rfl rfl rfl rfl (zay (by omega)) rfl ?_
 refine evs [14,15] [] ?_
 refine Walk.alloc (id:=3017) tz33 rfl .none rfl rfl rfl rfl ?_
 refine evs [14,15] [] ?_
 refine Walk.store ty33 .none rfl rfl rfl rfl rfl rfl (by simp) rfl ?_
 refine tv ?_
 refine Walk.idx sl28 .none rfl rfl rfl rfl (zaK (by omega)) rfl ?_
 refine evd [14,15] [] ?_
 refine Walk.idx sl28 .none rfl rfl rfl rfl (zaK (by omega)) rfl ?_
 refine evd [14,15] [] ?_
 refine Walk.call (cr:=[]) zpM (hmi s.1 (by omega)) rfl .none rfl rfl (LeL.refl _) trivial rfl rfl rfl ?_
 refine evd [14,15] [] ?_
 refine dr ?_
 refine CWp.loopX (ι:=List (Pat)×List (Pat)) hk (fun x=>[(113,.d (.i (x.1.length:Int))),(14,.gl 9 ((s.2.1++x.1.map (fun z=>zb8 a.ctor (s.2.2++[z]++a.kids.drop (s.1+1)))).map Pat.cc))]) [19,20,114,115,116,117,118,119,120,121,122,123,124,125,126,127,128,129,130,131,132,133,134] (fun x=>[(9,some (.tok (((s.2.1++x.1.map (fun z=>zb8 a.ctor (s.2.2++[z]++a.kids.drop (s.1+1)))).map Pat.cc)).length 6))]) (fun x=>x.1++x.2=(zav w n (nth (zaj w ⟨ta,tk⟩ a.ctor) s.1) (nth a.kids s.1) (nth b.kids s.1))) (fun x=>x.2.length) ([],(zav w n (nth (zaj w ⟨ta,tk⟩ a.ctor) s.1) (nth a.kids s.1) (nth b.kids s.1))) (by simp) ⟨⟨_,rfl,(LeA.eqi (by first|rfl|(simp;done)|(simp only[List.map_append,List.append_assoc,List.map_cons,List.map_nil];done)|(simp only[List.map_append,List.append_assoc,List.map_cons,List.map_nil];rfl)|(rw[List.append_nil] at hg3;rw[hg3];done)|omega))⟩,⟨⟨_,rfl,(LeA.glg (by first|rfl|(simp;done)|(simp only[List.map_append,List.append_assoc,List.map_cons,List.map_nil];done)|(simp only[List.map_append,List.append_assoc,List.map_cons,List.map_nil];rfl)|(rw[List.append_nil] at hg3;rw[hg3];done)|omega))⟩,trivial⟩⟩ ⟨zae (by first|rfl|(simp;done)|(simp;omega)|(first|rfl|(simp;done)|(simp only[List.map_append,List.append_assoc,List.map_cons,List.map_nil];done)|(simp only[List.map_append,List.append_assoc,List.map_cons,List.map_nil];rfl)|(rw[List.append_nil] at hg3;rw[hg3];done)|omega)),trivial⟩ (fun x=>rfl) (fun x hg3=>?_)
 obtain⟨pre,rest⟩:=x
 dsimp only at hg3 ⊢
 refine evc [14,15] [] ?_
 refine sq (fun h6 h6p h6s=>?_) fun h6 h6p h6s=>?_
 try simp only[Q,Pat.cs_len] at h6p
 rcases rest with _|⟨y,rest⟩
 ·exfalso;simp_all
 refine Walk.idx sl28 .none rfl rfl rfl rfl (Pat.cs_at' hg3) rfl ?_
 refine evs [14,15] [] ?_
 refine Walk.alloc (id:=3019) tz77 rfl .none rfl rfl rfl rfl ?_
 refine Walk.store ty77 .none rfl rfl rfl rfl rfl rfl (by simp) rfl ?_
 refine tv ?_
 refine Walk.sliceLit sl28 tz77 rfl (by decide) (ks:=[0]) (xs:=[_]) rfl rfl (by decide) (by decide) .none rfl rfl rfl rfl ?_
 refine evd [14,15] [] ?_
 refine ar ?_ (by first|(constructor<;>omega)|(have h9:=hT s.1 s.2.1 s.2.2 (by omega) hg2.2.2;have h8:=congrArg List.length hg3;simp only[List.length_append,List.length_cons] at h8;constructor<;>omega))
 refine Walk.cut_l (b:=s.1+1) sl28 .none rfl rfl rfl (by intro x hx;first|(simp at hx;subst hx;rfl)|exact zbI _ x hx|exact zbm _ x hx) rfl rfl (by simp only[Pat.cs_len];omega) ?_
 refine Walk.sliceLit zd3 tz28 rfl (by decide) (ks:=[0,1,2]) (xs:=[_,_,_]) rfl rfl (by decide) (by decide) .none rfl rfl rfl rfl ?_
 refine Walk.call (cr:=[]) zsZ (zst (A:=s.2.2) (y:=y) (xs:=(Pat.cs a.kids).drop (s.1+1)) (B:=a.kids.drop (s.1+1)) (by rw[Pat.cs_cd,Pat.cs_cd,List.map_drop]) (by rw[List.length_drop];omega)) rfl .none rfl rfl (LeL.refl _) trivial rfl rfl rfl ?_
 refine evd [14,15] [] ?_
 refine dr ?_
 refine Walk.build st77 (ks:=[0,1,5]) (xs:=[_,_,_]) rfl rfl .none rfl rfl rfl ?_
 refine Walk.sliceLit sl28 tz77 rfl (by decide) (ks:=[0]) (xs:=[_]) rfl rfl (by decide) (by decide) .none rfl rfl rfl rfl ?_
 refine Walk.append sl28 zz77 rfl .none rfl rfl rfl rfl (zaG rfl (by first|rfl|(simp;done)|(simp;omega))) (by intro x hx;first|(simp at hx;subst hx;rfl)|exact zbI _ x hx|exact zbm _ x hx) (by first|(have h9:=hT s.1 s.2.1 s.2.2 (by omega) hg2.2.2;have h8:=congrArg List.length hg3;simp at h8 ⊢;omega)|(simp;omega)) (by first|(have h9:=hT s.1 s.2.1 s.2.2 (by omega) hg2.2.2;have h8:=congrArg List.length hg3;simp at h8 ⊢;omega)|(simp;omega)) ?_
 refine asg ?_
 refine tv ?_
 refine ar ?_ (by first|(constructor<;>omega)|(have h9:=hT s.1 s.2.1 s.2.2 (by omega) hg2.2.2;have h8:=congrArg List.length hg3;simp only[List.length_append,List.length_cons] at h8;constructor<;>omega))
 refine Exists.intro ((pre++[y],rest)) ⟨(by have hz:=hg3;rw[←hz];simp),(by simp),Sub.x (by kernel_rfl) (by kernel_rfl) ⟨⟨_,rfl,(LeA.eqi (by first|rfl|(simp;done)|(simp only[List.map_append,List.append_assoc,List.map_cons,List.map_nil];done)|(simp only[List.map_append,List.append_assoc,List.map_cons,List.map_nil];rfl)|(rw[List.append_nil] at hg3;rw[hg3];done)|omega))⟩,⟨⟨_,rfl,(LeA.glg (by first|rfl|(simp;done)|(simp only[List.map_append,List.append_assoc,List.map_cons,List.map_nil];done)|(simp only[List.map_append,List.append_assoc,List.map_cons,List.map_nil];rfl)|(rw[List.append_nil] at hg3;rw[hg3];done)|omega))⟩,trivial⟩⟩ (by kernel_rfl) (by kernel_rfl) ⟨zae (by first|rfl|(simp;done)|(simp;omega)|(first|rfl|(simp;done)|(simp only[List.map_append,List.append_assoc,List.map_cons,List.map_nil];done)|(simp only[List.map_append,List.append_assoc,List.map_cons,List.map_nil];rfl)|(rw[List.append_nil] at hg3;rw[hg3];done)|omega)),trivial⟩⟩
 try simp only[Q,Pat.cs_len] at h6p
 have hrest:rest=[]:=by
  rcases rest with _|⟨a,b⟩
  ·rfl
  ·exfalso;have hz:=congrArg List.length (hg3);simp only[List.length_append,List.length_cons,List.length_map] at hz;omega
 subst hrest
 refine Walk.idx sl28 .none rfl rfl rfl rfl (zaK (by omega)) rfl ?_
 refine evd [14,15] [] ?_
 refine Walk.idx sl28 .none rfl rfl rfl rfl (zaK (by omega)) rfl ?_
 refine evd [14,15] [] ?_
 refine Walk.call (cr:=[]) zqh (hme s.1 (by omega)) rfl .none rfl rfl (LeL.refl _) trivial rfl rfl rfl ?_
 refine evd [14,15] [] ?_
 refine Walk.alloc (id:=3021) tz77 rfl .none rfl rfl rfl rfl ?_
 refine Walk.store ty77 .none rfl rfl rfl rfl rfl rfl (by simp) rfl ?_
 refine evd [14,15] [] ?_
 refine dr ?_
 refine sq (fun h7 h7p h7s=>?_) fun h7 h7p h7s=>?_
 try simp only[Q,Pat.cs_len] at h7p
 refine rn0 (r1 rfl) (.gld ?_)
 rotate_left
 try simp only[Q,Pat.cs_len] at h7p
 refine Walk.sliceLit sl28 tz77 rfl (by decide) (ks:=[0]) (xs:=[_]) rfl rfl (by decide) (by decide) .none rfl rfl rfl rfl ?_
 refine Walk.append sl28 zz77 rfl .none rfl rfl rfl rfl (zaG rfl (by first|rfl|(simp;done)|(simp;omega))) (by intro x hx;first|(simp at hx;subst hx;rfl)|exact zbI _ x hx|exact zbm _ x hx) (by first|(have h9:=hT s.1 s.2.1 s.2.2 (by omega) hg2.2.2;have h8:=congrArg List.length hg3;simp at h8 ⊢;omega)|(simp;omega)) (by first|(have h9:=hT s.1 s.2.1 s.2.2 (by omega) hg2.2.2;have h8:=congrArg List.length hg3;simp at h8 ⊢;omega)|(simp;omega)) ?_
 refine asg ?_
 refine tv ?_
 refine ar ?_ (by first|(constructor<;>omega)|(have h9:=hT s.1 s.2.1 s.2.2 (by omega) hg2.2.2;have h8:=congrArg List.length hg3;simp only[List.length_append,List.length_cons] at h8;constructor<;>omega))
 refine Exists.intro ((s.1+1,s.2.1++(zav w n (nth (zaj w ⟨ta,tk⟩ a.ctor) s.1) (nth a.kids s.1) (nth b.kids s.1)).map (fun z=>zb8 a.ctor (s.2.2++[z]++a.kids.drop (s.1+1))),s.2.2++[zcV 11 (nth a.kids s.1) (nth b.kids s.1)])) ⟨⟨by dsimp only;omega,by dsimp only;rw[List.length_append,hg2.2.1];rfl,by dsimp only;rw[List.append_assoc,←zkb (by omega) (by omega) (by omega) (by assumption)];exact hg2.2.2⟩,(by dsimp only;omega),Sub.x (by kernel_rfl) (by kernel_rfl) ⟨⟨_,rfl,(LeA.eqi (by first|rfl|(simp;done)|(simp_all;done)|omega))⟩,⟨⟨_,rfl,(LeA.glg (by first|rfl|(simp;done)|(simp_all;done)|omega))⟩,⟨⟨_,rfl,(LeA.glg (by first|rfl|(simp;done)|(simp_all;done)|omega))⟩,trivial⟩⟩⟩ (by kernel_rfl) (by kernel_rfl) ⟨zae (by first|rfl|(simp;done)|(simp;omega)|(first|rfl|(simp;done)|(simp_all;done)|omega)),⟨zae (by first|rfl|(simp;done)|(simp;omega)|(first|rfl|(simp;done)|(simp_all;done)|omega)),trivial⟩⟩⟩
 try simp only[Q,Pat.cs_len] at h5p
 refine rn0 (r1 rfl) (.gld ?_)
 rotate_left
 all_goals (first|rfl|(rw[←hg2.2.2,zlz (by omega),List.append_nil,Pat.cs_cd];done)|(rw[List.append_nil] at hg3;rw[←hg2.2.2,zka (by omega) (by omega) (by omega) (by assumption),←hg3,Pat.cs_cd];all_goals rfl))
theorem zoo (hs:Spa w){n:Nat}{ta tk:Int}{a b:Pat} (ht:InS (w.length*4) ⟨ta,tk⟩) (h1:a.op=1) (h4b:b.op=4) (hbd:(zav w (n+1) ⟨ta,tk⟩ a b).length≤20000000)
  (hC:∀c∈zaA w ⟨ta,tk⟩,MinusFn w f (n+1) ta tk (zcn w ⟨ta,tk⟩ c) b):MinusFn w f (n+1) ta tk a b:=by
 have e:zav w (n+1) ⟨ta,tk⟩ a b=(zaA w ⟨ta,tk⟩).flatMap fun c=>zav w (n+1) ⟨ta,tk⟩ (zcn w ⟨ta,tk⟩ c) b:=by
  rw[zhT h4b h1]
  exact congrArg (fun g=>(zaA w ⟨ta,tk⟩).flatMap g) (funext fun c=>(zen h4b rfl).symm)
 unfold MinusFn
 rw[e] at hbd ⊢
 have hcl:=(hs.ctors _ ht).1
 have hpre:∀ {pre rest:List Int}{y:Int},pre++y::rest=zaA w ⟨ta,tk⟩→(pre.flatMap fun c=>zav w (n+1) ⟨ta,tk⟩ (zcn w ⟨ta,tk⟩ c) b).length+(zav w (n+1) ⟨ta,tk⟩ (zcn w ⟨ta,tk⟩ y) b).length≤20000000:=fun h=>by
  rw[←h,List.flatMap_append,List.flatMap_cons] at hbd
  simp only[List.length_append] at hbd
  omega
 have hmem:∀ {pre rest:List Int}{y:Int},pre++y::rest=zaA w ⟨ta,tk⟩→y∈zaA w ⟨ta,tk⟩:=fun h=>by rw[←h];simp
 refine bd Tryz.f72 159 [11] [] fun w0 F0 own kept hk=>?_
 refine Walk.box (id:=3005) .none rfl rfl rfl rfl rfl rfl rfl ?_
 refine Walk.box (id:=3006) .none rfl rfl rfl rfl rfl rfl rfl ?_
 refine Walk.box (id:=3007) .none rfl rfl rfl rfl rfl rfl rfl ?_
 refine evs [11] [] ?_
 refine sq (fun h1 h1p h1s=>?_) fun h1 h1p h1s=>?_
 try simp only[Q,Pat.cs_len] at h1p
 exfalso;omega
 try simp only[Q,Pat.cs_len] at h1p
 refine sq (fun h2 h2p h2s=>?_) fun h2 h2p h2s=>?_
 try simp only[Q,Pat.cs_len] at h2p
 exfalso;omega
 try simp only[Q,Pat.cs_len] at h2p
 refine sq (fun h3 h3p h3s=>?_) fun h3 h3p h3s=>?_
 try simp only[Q,Pat.cs_len] at h3p
 refine Walk.assignNil 9 6 .none rfl rfl ?_
 refine tv ?_
 refine Walk.call (cr:=[]) zkS (zem hs.dp.wt (zcR ht)) rfl .none rfl rfl (LeL.refl _) trivial rfl rfl rfl ?_
 refine evd [11] [] ?_
 refine dr ?_
 refine CWp.loopX (ι:=List (Int)×List (Int)) hk (fun x=>[(61,.d (.i (x.1.length:Int))),(11,.gl 9 (Pat.cs (x.1.flatMap fun c=>zav w (n+1) ⟨ta,tk⟩ (zcn w ⟨ta,tk⟩ c) b)))]) [13,62,63,64,65,66,67,68,69,70,71,72,73,74,75] (fun x=>[(9,some (.tok ((Pat.cs (x.1.flatMap fun c=>zav w (n+1) ⟨ta,tk⟩ (zcn w ⟨ta,tk⟩ c) b))).length 6))]) (fun x=>x.1++x.2=zaA w ⟨ta,tk⟩) (fun x=>x.2.length) ([],zaA w ⟨ta,tk⟩) (by simp) ⟨⟨_,rfl,(LeA.eqi (by first|rfl|(rw[List.flatMap_append,Pat.cs_cd,Pat.cs_cd,Pat.cs_cd,List.map_append];simp;done)|(simp[Pat.cs_len];done)|omega))⟩,⟨⟨_,rfl,(LeA.glg (by first|rfl|(rw[List.flatMap_append,Pat.cs_cd,Pat.cs_cd,Pat.cs_cd,List.map_append];simp;done)|(simp[Pat.cs_len];done)|omega))⟩,trivial⟩⟩ ⟨zae (by first|rfl|(simp;done)|(simp;omega)|(first|rfl|(rw[List.flatMap_append,Pat.cs_cd,Pat.cs_cd,Pat.cs_cd,List.map_append];simp;done)|(simp[Pat.cs_len];done)|omega)),trivial⟩ (fun x=>rfl) (fun x hg1=>?_)
 obtain⟨pre,rest⟩:=x
 dsimp only at hg1 ⊢
 refine evc [11] [] ?_
 refine sq (fun h4 h4p h4s=>?_) fun h4 h4p h4s=>?_
 try simp only[Q,Pat.cs_len] at h4p
 rcases rest with _|⟨y,rest⟩
 ·exfalso;simp_all
 refine Walk.idx zbU .none rfl rfl rfl rfl (za0 hg1) rfl ?_
 refine evs [11] [] ?_
 refine Walk.call (cr:=[]) zsY (znA hs.dp.wt (f:=f) (zcR ht) (hmem hg1) (hs.args _ _ ht (hmem hg1))) rfl .none rfl rfl (LeL.refl _) trivial rfl rfl rfl ?_
 refine evd [11] [] ?_
 refine Walk.call (cr:=[]) zpM (hC y (hmem hg1)) rfl .none rfl rfl (LeL.refl _) trivial rfl rfl rfl ?_
 refine Walk.append sl28 zz77 rfl .none rfl rfl rfl rfl (zaG rfl (by first|rfl|(simp;done)|(simp;omega))) (by exact zbm _) (by have h9:=hpre hg1;simp only[Pat.cs_len];omega) (by have h9:=hpre hg1;simp only[Pat.cs_len];omega) ?_
 refine asg ?_
 refine dr ?_
 refine ar ?_
 refine Exists.intro ((pre++[y],rest)) ⟨(by have hz:=hg1;rw[←hz];simp),(by simp),Sub.x (by kernel_rfl) (by kernel_rfl) ⟨⟨_,rfl,(LeA.eqi (by first|rfl|(rw[List.flatMap_append,Pat.cs_cd,Pat.cs_cd,Pat.cs_cd,List.map_append];simp;done)|(simp[Pat.cs_len];done)|omega))⟩,⟨⟨_,rfl,(LeA.glg (by first|rfl|(rw[List.flatMap_append,Pat.cs_cd,Pat.cs_cd,Pat.cs_cd,List.map_append];simp;done)|(simp[Pat.cs_len];done)|omega))⟩,trivial⟩⟩ (by kernel_rfl) (by kernel_rfl) ⟨zae (by first|rfl|(simp;done)|(simp;omega)|(first|rfl|(rw[List.flatMap_append,Pat.cs_cd,Pat.cs_cd,Pat.cs_cd,List.map_append];simp;done)|(simp[Pat.cs_len];done)|omega)),trivial⟩⟩
 try simp only[Q,Pat.cs_len] at h4p
 have hrest:rest=[]:=by
  rcases rest with _|⟨a,b⟩
  ·rfl
  ·exfalso;have hz:=congrArg List.length (hg1);simp only[List.length_append,List.length_cons,List.length_map] at hz;omega
 subst hrest
 refine rn0 (r1 rfl) (.gld ?_)
 rotate_left
 try simp only[Q,Pat.cs_len] at h3p
 exfalso;omega
 all_goals (first|rfl|(rw[List.append_nil] at hg1;rw[hg1];done))
theorem ziA (hs:Spa w):∀(n m:Nat){ta tk:Int}{a b:Pat},n<m→n≤10→m≤11→InS (w.length*4) ⟨ta,tk⟩→zam w m ⟨ta,tk⟩ a=true→zam w n ⟨ta,tk⟩ b=true→MinusFn w f n ta tk a b
 |0,m,ta,tk,a,b,_,_,_,_,_,hb=>by simp[zam] at hb
 |n+1,0,ta,tk,a,b,h,_,_,_,_,_=>by omega
 |n+1,m+1,ta,tk,a,b,h,hn,hm,ht,ha,hb=>by
  have hC:∀ {a:Pat},zam w (m+1) ⟨ta,tk⟩ a=true→a.op=4→b.op=4→MinusFn w f (n+1) ta tk a b:=fun {a} ha h4 h4b=>by
   by_cases hc:a.ctor=b.ctor
   ·exact zop hs hn hm (by omega) (fun h1 h2 h3=>ziA hs n m (by omega) (by omega) (by omega) h1 h2 h3) ht ha hb h4 h4b hc
   ·exact zoq h4 h4b hc
  rcases zck hb with h1|h3|h4b
  ·exact zom h1
  ·have:=zcD hb h3
   exact zon h3 ⟨by omega,by omega⟩ ⟨by omega,by omega⟩
  ·by_cases h1:a.op=1
   ·obtain⟨m',rfl⟩:∃m',m=m'+1:=⟨m-1,by omega⟩
    exact zoo hs ht h1 h4b (zfB hs h hn ht ha hb) (fun c hc=>hC (zdW hc) rfl h4b)
   ·exact hC ha (by have:=zdV ha hb h1 (by omega);omega) h4b
end
theorem zef {α:Type}{N:Nat}{X Y:List α} (h:N≤X.length):(X++Y).take N=X.take N:=by
 rw[List.take_append,(by omega:N-X.length=0)];simp
theorem zgE {α β:Type} [Inhabited β]{X:List α}{l:List β}{h:β→α}{j m:Nat} (hj:j<l.length) (hl:((X++(l.take j).map h).take (m+1)).length≤m):
  (X++(l.take (j+1)).map h).take (m+1)=(X++(l.take j).map h).take (m+1)++[h (nth l j)]:=by
 have e1:l.take (j+1)=l.take j++[nth l j]:=by rw[List.take_succ_eq_append_getElem hj,za9 hj]
 rw[List.length_take] at hl
 have h2:(X++(l.take j).map h).length≤m:=by omega
 rw[e1,List.map_append,←List.append_assoc,List.take_of_length_le (by simp at h2 ⊢;omega),List.take_of_length_le (l:=X++(l.take j).map h) (by omega)]
 rfl
theorem zsJ {α β:Type}{X:List α}{l:List β}{h:β→α}{j m:Nat} (hc:¬j<l.length∨¬((X++(l.take j).map h).take (m+1)).length≤m):
  (X++(l.take j).map h).take (m+1)=(X++l.map h).take (m+1):=by
 rcases hc with hc|hc
 ·rw[List.take_of_length_le (l:=l) (by omega)]
 ·rw[List.length_take] at hc
  have e:l.map h=(l.take j).map h++(l.drop j).map h:=by rw[←List.map_append,List.take_append_drop]
  rw[e,←List.append_assoc,zef (X:=X++(l.take j).map h) (by omega)]
theorem zel {α β:Type} [Inhabited β]{l:List β}{g:β→List α}{j:Nat} (hj:j<l.length):(l.take (j+1)).flatMap g=(l.take j).flatMap g++g (nth l j):=by
 rw[List.take_succ_eq_append_getElem hj,List.flatMap_append,za9 hj];simp
theorem zcA {α β:Type}{l:List β}{g:β→List α}{j m:Nat} (hc:¬j<l.length∨¬(((l.take j).flatMap g).take (m+1)).length≤m):
  ((l.take j).flatMap g).take (m+1)=(l.flatMap g).take (m+1):=by
 rcases hc with hc|hc
 ·rw[List.take_of_length_le (l:=l) (by omega)]
 ·rw[List.length_take] at hc
  have e:l.flatMap g=(l.take j).flatMap g++(l.drop j).flatMap g:=by rw[←List.flatMap_append,List.take_append_drop]
  rw[e,zef (X:=(l.take j).flatMap g) (by omega)]
abbrev zha (o:List Pat):List D:=[.sl (Pat.cs o)]
abbrev zia (ls:List (List Pat)):D:= .sl (ls.map zha)
theorem zp5 {N:Nat} (acc:List (List Pat)) (l:List Pat):(zbs (acc.take N) l).take N=(zbs acc l).take N:=by
 by_cases h:acc.length≤N
 ·rw[List.take_of_length_le h]
 have e0:∀a:List (List Pat),zbs a []=[]:=fun a=>by unfold zbs;simp
 cases l with
 |nil=>rw[e0,e0]
 |cons c r=>
  have e:zbs acc (c::r)=zbs (acc.take N) (c::r)++zbs (acc.drop N) (c::r):=by
   unfold zbs;rw[←List.flatMap_append,List.take_append_drop]
  rw[e,zef]
  rw[zf3,List.length_take,Nat.min_eq_left (by omega),List.length_cons]
  exact Nat.le_mul_of_pos_right _ (by omega)
theorem zp6 {N:Nat} (acc:List (List Pat)) (l:List Pat):(zbs acc (l.take N)).take N=(zbs acc l).take N:=by
 by_cases h:l.length≤N
 ·rw[List.take_of_length_le h]
 cases acc with
 |nil=>rfl
 |cons q r=>
  have e:∀l:List Pat,zbs (q::r) l=l.map (fun c=>q++[c])++zbs r l:=fun l=>by unfold zbs;rw[List.flatMap_cons]
  rw[e,e,zef (by rw[List.length_map,List.length_take];omega),zef (by rw[List.length_map];omega),List.map_take,List.take_take,Nat.min_self]
def tupQ (m:Nat) (ls:List (List Pat)):List (List Pat):=ls.foldl (fun acc l=>(zbs acc l).take (m+1)) [[]]
theorem zbY (m:Nat) (ls:List (List Pat)) (l:List Pat):tupQ m (ls++[l])=(zbs (tupQ m ls) l).take (m+1):=by
 unfold tupQ;rw[List.foldl_append];rfl
theorem zoX (m:Nat):∀(ls:List (List Pat)) (acc:List (List Pat)),(ls.map (List.take (m+1))).foldl (fun acc l=>(zbs acc l).take (m+1)) (acc.take (m+1))=(ls.foldl zbs acc).take (m+1)
 | [],acc=>rfl
 |l::r,acc=>by
  rw[List.map_cons,List.foldl_cons,List.foldl_cons,zp6,zp5]
  exact zoX m r (zbs acc l)
theorem zsK (m:Nat) (ls:List (List Pat)):tupQ m (ls.map (List.take (m+1)))=(zeK ls).take (m+1):=by
 have h:=zoX m ls [[]]
 have e:([[]]:List (List Pat)).take (m+1)=[[]]:=by simp
 rw[e] at h
 exact h
theorem zoV (m:Nat) (ls:List (List Pat)):(tupQ m ls).length≤m+1:=by
 have key:∀(ls acc:List (List Pat)),acc.length≤m+1→(ls.foldl (fun acc l=>(zbs acc l).take (m+1)) acc).length≤m+1:=by
  intro ls
  induction ls with
  |nil=>intro acc h;exact h
  |cons l r ih=>intro acc h;exact ih _ (by rw[List.length_take];omega)
 exact key ls [[]] (by simp)
theorem zoW (m:Nat){ls:List (List Pat)}{o:List Pat} (h:o∈tupQ m ls):o.length=ls.length:=by
 have key:∀(ls acc:List (List Pat)) (n:Nat),(∀o∈acc,o.length=n)→∀o∈ls.foldl (fun acc l=>(zbs acc l).take (m+1)) acc,o.length=n+ls.length:=by
  intro ls
  induction ls with
  |nil=>intro acc n h o ho;exact h o ho
  |cons l r ih=>
   intro acc n h o ho
   have:=ih _ (n+1) (fun o' ho'=>by
    have ho':=List.mem_of_mem_take ho'
    unfold zbs at ho'
    simp only[List.mem_flatMap,List.mem_map] at ho'
    obtain⟨p,hp,q,_,rfl⟩:=ho'
    simp[h p hp]) o ho
   simp only[List.length_cons];omega
 have:=key ls [[]] 0 (by simp) o h
 simpa using this
def zjR (l:List Pat) (o:List Pat):List (List Pat):=l.map fun y=>o++[y]
theorem zcE (acc:List (List Pat)) (l:List Pat):zbs acc l=acc.flatMap (zjR l):=rfl
theorem zdL {X:List (List Pat)}{l:List Pat}{o:List Pat}{j m:Nat} (hc:¬j<l.length∨¬((X++(l.take j).map fun y=>o++[y]).take (m+1)).length≤m):
  (X++(l.take j).map fun y=>o++[y]).take (m+1)=(X++zjR l o).take (m+1):=zsJ hc
theorem zrG {α:Type}{N:Nat} (a b:List α):(a.take N++b.take N).take N=(a++b).take N:=by
 by_cases h:a.length≤N
 ·rw[List.take_of_length_le h,List.take_append,List.take_append,List.take_take,Nat.min_eq_left (by omega)]
 ·rw[zef (by rw[List.length_take];omega),zef (by omega),List.take_take,Nat.min_self]
def zbe (p:Pat):List Pat:=(zaC p).take 401
theorem zrC {p:Pat} (h:p.op=5) (hk:p.kids.length=2):zbe p=(zbe (nth p.kids 0)++zbe (nth p.kids 1)).take 401:=by
 unfold zbe;rw[zgZ h hk,zrG]
theorem zrD {p:Pat} (h:p.op≠5):zbe p=(tupQ 400 (p.kids.map zbe)).map fun l=> .mk p.op p.ctor p.n p.m p.var l:=by
 unfold zbe
 rw[zeS h,←List.map_take]
 congr 1
 have:=zsK 400 (p.kids.map zaC)
 rw[List.map_map] at this
 exact this.symm
theorem zgx (p:Pat):(zbe p).length≤401:=by unfold zbe;rw[List.length_take];omega
theorem zc8:∀(n:Nat){p:Pat},p.size≤n→p.ok→FnD Tryz.prog 166 [.agg [.d (.i p.op),.d (.i p.ctor),.d (.i p.n),.d (.i p.m),.d (.i p.var),.d (zad p.kids)]] [] (.agg [.d (.i (zaQ p).op),.d (.i (zaQ p).ctor),.d (.i (zaQ p).n),.d (.i (zaQ p).m),.d (.i (zaQ p).var),.d (zad (zaQ p).kids)]) []
 |0,p,h,_=>by rw[Pat.size_eq] at h;omega
 |n+1,p,h,hok=>by
  rw[Pat.size_eq] at h
  rw[Pat.ok_iff] at hok
  have hok1:=hok.1
  by_cases h2:p.op=2
  ·rw[zpg h2]
   refine bd Tryz.f166 42 [] [] fun w0 F0 own kept hk=>?_
   refine Walk.box (id:=3001) .none rfl rfl rfl rfl rfl rfl rfl ?_
   refine Walk.alloc (id:=3002) tz77 rfl .none rfl rfl rfl rfl ?_
   refine tv ?_
   refine sq (fun h1 h1p h1s=>?_) fun h1 h1p h1s=>?_
   try simp only[Q] at h1p
   refine Walk.build st77 (ks:=[0]) (xs:=[_]) rfl rfl .none rfl rfl rfl ?_
   refine Walk.store ty77 .none rfl rfl rfl rfl rfl rfl (by simp) rfl ?_
   refine tv ?_
   refine rn0 (.cons (.cellA ty77 rfl rfl rfl) .nil) (.agg (.cons (.eqd ?_) (.cons (.eqd ?_) (.cons (.eqd ?_) (.cons (.eqd ?_) (.cons (.eqd ?_) (.cons (.nild ?_) .nil)))))))
   rotate_left 6
   try simp only[Q] at h1p
   exfalso;omega
   all_goals (rfl)
  by_cases h6:p.op=6∧0<p.kids.length
  ·rw[zph h6.1 h6.2]
   refine bd Tryz.f166 42 [] [] fun w0 F0 own kept hk=>?_
   refine Walk.box (id:=3001) .none rfl rfl rfl rfl rfl rfl rfl ?_
   refine Walk.alloc (id:=3002) tz77 rfl .none rfl rfl rfl rfl ?_
   refine tv ?_
   refine sq (fun h1 h1p h1s=>?_) fun h1 h1p h1s=>?_
   try simp only[Q,Pat.cs_len] at h1p
   exfalso;omega
   try simp only[Q,Pat.cs_len] at h1p
   refine sq (fun h2 h2p h2s=>?_) fun h2 h2p h2s=>?_
   try simp only[Q,Pat.cs_len] at h2p
   refine sq (fun h3 h3p h3s=>?_) fun h3 h3p h3s=>?_
   try simp only[Q,Pat.cs_len] at h3p
   refine Walk.idx (i:=0) sl28 .none rfl rfl rfl rfl (zaK h6.2) rfl ?_
   refine ev ?_
   refine Walk.call (cr:=[]) zkW (zc8 n (p:=nth p.kids 0) (by have:=Pats.size_mem (zal h6.2);omega) (Pats.ok_mem hok.2 _ (zal h6.2))) rfl .none rfl rfl (LeL.refl _) trivial rfl rfl rfl ?_
   refine Walk.store ty77 .none rfl rfl rfl rfl rfl rfl (by simp) rfl ?_
   refine tv ?_
   refine rn0 (.cons (.cellA ty77 rfl rfl rfl) .nil) (.agg (.cons (.eqd ?_) (.cons (.eqd ?_) (.cons (.eqd ?_) (.cons (.eqd ?_) (.cons (.eqd ?_) (.cons (.eqd ?_) .nil)))))))
   rotate_left 6
   try simp only[Q,Pat.cs_len] at h3p
   exfalso;omega
   try simp only[Q,Pat.cs_len] at h2p
   exfalso;omega
   all_goals (rfl)
  ·rw[zpi h2 h6]
   refine bd Tryz.f166 42 [] [] fun w0 F0 own kept hk=>?_
   refine Walk.box (id:=3001) .none rfl rfl rfl rfl rfl rfl rfl ?_
   refine Walk.alloc (id:=3002) tz77 rfl .none rfl rfl rfl rfl ?_
   refine tv ?_
   refine sq (fun h1 h1p h1s=>?_) fun h1 h1p h1s=>?_
   try simp only[Q,Pat.cs_len] at h1p
   exfalso;omega
   try simp only[Q,Pat.cs_len] at h1p
   refine sq (fun h2 h2p h2s=>?_) fun h2 h2p h2s=>?_
   try simp only[Q,Pat.cs_len] at h2p
   refine sq (fun h3 h3p h3s=>?_) fun h3 h3p h3s=>?_
   try simp only[Q,Pat.cs_len] at h3p
   exfalso;apply h6;exact⟨by omega,by omega⟩
   try simp only[Q,Pat.cs_len] at h3p
   refine Walk.alloc (id:=3003) tz77 rfl .none rfl rfl rfl rfl ?_
   refine Walk.store ty77 .none rfl rfl rfl rfl rfl rfl (by simp) rfl ?_
   refine tv ?_
   refine Walk.store ty28 .none rfl rfl rfl rfl rfl rfl (by simp) rfl ?_
   refine tv ?_
   refine CWp.tokB 3003 5 7 6 rfl rfl rfl rfl ?_
   refine CWp.loopX (ι:=List (Pat)×List (Pat)) hk (fun x=>[(4,.d (.i (x.1.length:Int)))]) [23,24,25,26,27,28,29,30,31,32,33,34,35,36,37,38,39,40] (fun x=>[(3003,some (.box [.d (.i p.op),.d (.i p.ctor),.d (.i p.n),.d (.i p.m),.d (.i p.var),.gl 7 ((x.1.map zaQ).map Pat.cc)])),(7,some (.tok ((x.1.map zaQ).map Pat.cc).length 6))]) (fun x=>x.1++x.2=p.kids) (fun x=>x.2.length) ([],p.kids) (by simp) ⟨⟨_,rfl,(LeA.eqi (by first|rfl|(simp;done)|(simp_all;done)|omega))⟩,trivial⟩ ⟨(by first|rfl|(simp[getH];done)),⟨zae (by first|rfl|(simp;done)|(simp;omega)|(first|rfl|(simp;done)|(simp_all;done)|omega)),trivial⟩⟩ (fun x=>rfl) (fun x hg1=>?_)
   obtain⟨pre,rest⟩:=x
   dsimp only at hg1 ⊢
   refine evc [] [] ?_
   refine sq (fun h4 h4p h4s=>?_) fun h4 h4p h4s=>?_
   try simp only[Q,Pat.cs_len] at h4p
   rcases rest with _|⟨y,rest⟩
   ·exfalso;simp_all
   refine Walk.idx sl28 .none rfl rfl rfl rfl (Pat.cs_at' hg1) rfl ?_
   refine evd [] [] ?_
   refine Walk.call (cr:=[]) zkW (zc8 n (p:=y) (by have:=Pats.size_mem (l:=p.kids) (v:=y) (by rw[←hg1];simp);omega) (Pats.ok_mem hok.2 y (by rw[←hg1];simp))) rfl .none rfl rfl (LeL.refl _) trivial rfl rfl rfl ?_
   refine Walk.sliceLit sl28 tz77 rfl (by decide) (ks:=[0]) (xs:=[_]) rfl rfl (by decide) (by decide) .none rfl rfl rfl rfl ?_
   refine Walk.append sl28 zz77 rfl .none rfl rfl rfl rfl (zaG rfl (by first|rfl|(simp;done)|(simp;omega))) (by intro x hx;first|(simp at hx;subst hx;rfl)|exact zbI _ x hx) (by have:=congrArg List.length hg1;simp at this;simp;omega) (by have:=congrArg List.length hg1;simp at this;simp;omega) ?_
   refine evd [] [] ?_
   refine Walk.store ty28 .none rfl rfl rfl rfl rfl rfl (by simp) rfl ?_
   refine dr ?_
   refine ar ?_
   refine Exists.intro ((pre++[y],rest)) ⟨(by have hz:=hg1;rw[←hz];simp),(by simp),Sub.x (by kernel_rfl) (by kernel_rfl) ⟨⟨_,rfl,(LeA.eqi (by first|rfl|(simp;done)|(simp_all;done)|omega))⟩,trivial⟩ (by kernel_rfl) (by kernel_rfl) ⟨(by first|rfl|(simp[getH];done)),⟨zae (by first|rfl|(simp;done)|(simp;omega)|(first|rfl|(simp;done)|(simp_all;done)|omega)),trivial⟩⟩⟩
   try simp only[Q,Pat.cs_len] at h4p
   have hrest:rest=[]:=by
    rcases rest with _|⟨a,b⟩
    ·rfl
    ·exfalso;have hz:=congrArg List.length (hg1);simp only[List.length_append,List.length_cons,List.length_map] at hz;omega
   subst hrest
   refine Walk.store ty77 .none rfl rfl rfl rfl rfl rfl (by simp) rfl ?_
   refine tv ?_
   refine rn0 (.cons (.cellA ty77 rfl rfl rfl) .nil) (.agg (.cons (.eqd ?_) (.cons (.eqd ?_) (.cons (.eqd ?_) (.cons (.eqd ?_) (.cons (.eqd ?_) (.cons (.gld ?_) .nil)))))))
   rotate_left 6
   try simp only[Q,Pat.cs_len] at h2p
   refine Walk.alloc (id:=3003) tz77 rfl .none rfl rfl rfl rfl ?_
   refine Walk.store ty77 .none rfl rfl rfl rfl rfl rfl (by simp) rfl ?_
   refine tv ?_
   refine Walk.store ty28 .none rfl rfl rfl rfl rfl rfl (by simp) rfl ?_
   refine tv ?_
   refine CWp.tokB 3003 5 7 6 rfl rfl rfl rfl ?_
   refine CWp.loopX (ι:=List (Pat)×List (Pat)) hk (fun x=>[(4,.d (.i (x.1.length:Int)))]) [23,24,25,26,27,28,29,30,31,32,33,34,35,36,37,38,39,40] (fun x=>[(3003,some (.box [.d (.i p.op),.d (.i p.ctor),.d (.i p.n),.d (.i p.m),.d (.i p.var),.gl 7 ((x.1.map zaQ).map Pat.cc)])),(7,some (.tok ((x.1.map zaQ).map Pat.cc).length 6))]) (fun x=>x.1++x.2=p.kids) (fun x=>x.2.length) ([],p.kids) (by simp) ⟨⟨_,rfl,(LeA.eqi (by first|rfl|(simp;done)|(simp_all;done)|omega))⟩,trivial⟩ ⟨(by first|rfl|(simp[getH];done)),⟨zae (by first|rfl|(simp;done)|(simp;omega)|(first|rfl|(simp;done)|(simp_all;done)|omega)),trivial⟩⟩ (fun x=>rfl) (fun x hg1=>?_)
   obtain⟨pre,rest⟩:=x
   dsimp only at hg1 ⊢
   refine evc [] [] ?_
   refine sq (fun h5 h5p h5s=>?_) fun h5 h5p h5s=>?_
   try simp only[Q,Pat.cs_len] at h5p
   rcases rest with _|⟨y,rest⟩
   ·exfalso;simp_all
   refine Walk.idx sl28 .none rfl rfl rfl rfl (Pat.cs_at' hg1) rfl ?_
   refine evd [] [] ?_
   refine Walk.call (cr:=[]) zkW (zc8 n (p:=y) (by have:=Pats.size_mem (l:=p.kids) (v:=y) (by rw[←hg1];simp);omega) (Pats.ok_mem hok.2 y (by rw[←hg1];simp))) rfl .none rfl rfl (LeL.refl _) trivial rfl rfl rfl ?_
   refine Walk.sliceLit sl28 tz77 rfl (by decide) (ks:=[0]) (xs:=[_]) rfl rfl (by decide) (by decide) .none rfl rfl rfl rfl ?_
   refine Walk.append sl28 zz77 rfl .none rfl rfl rfl rfl (zaG rfl (by first|rfl|(simp;done)|(simp;omega))) (by intro x hx;first|(simp at hx;subst hx;rfl)|exact zbI _ x hx) (by have:=congrArg List.length hg1;simp at this;simp;omega) (by have:=congrArg List.length hg1;simp at this;simp;omega) ?_
   refine evd [] [] ?_
   refine Walk.store ty28 .none rfl rfl rfl rfl rfl rfl (by simp) rfl ?_
   refine dr ?_
   refine ar ?_
   refine Exists.intro ((pre++[y],rest)) ⟨(by have hz:=hg1;rw[←hz];simp),(by simp),Sub.x (by kernel_rfl) (by kernel_rfl) ⟨⟨_,rfl,(LeA.eqi (by first|rfl|(simp;done)|(simp_all;done)|omega))⟩,trivial⟩ (by kernel_rfl) (by kernel_rfl) ⟨(by first|rfl|(simp[getH];done)),⟨zae (by first|rfl|(simp;done)|(simp;omega)|(first|rfl|(simp;done)|(simp_all;done)|omega)),trivial⟩⟩⟩
   try simp only[Q,Pat.cs_len] at h5p
   have hrest:rest=[]:=by
    rcases rest with _|⟨a,b⟩
    ·rfl
    ·exfalso;have hz:=congrArg List.length (hg1);simp only[List.length_append,List.length_cons,List.length_map] at hz;omega
   subst hrest
   refine Walk.store ty77 .none rfl rfl rfl rfl rfl rfl (by simp) rfl ?_
   refine tv ?_
   refine rn0 (.cons (.cellA ty77 rfl rfl rfl) .nil) (.agg (.cons (.eqd ?_) (.cons (.eqd ?_) (.cons (.eqd ?_) (.cons (.eqd ?_) (.cons (.eqd ?_) (.cons (.gld ?_) .nil)))))))
   rotate_left 6
   all_goals (first|rfl|(rw[List.append_nil] at hg1;rw[←hg1,Pat.cs_cd];done)|(rw[List.append_nil] at hg1;subst hg1;rw[←Pat.cs_cd];all_goals rfl))
theorem zkG {ls:List (List Pat)} (hl:ls.length≤1000000000000) (hls:∀l∈ls,l.length≤1000000000000):FnD Tryz.prog 200 [.d (zia ls)] [] (.d (zia (tupQ 400 ls))) []:=by
 refine bd Tryz.f200 62 [] [] fun w0 F0 own kept hk=>?_
 refine Walk.sliceEmpty sl28 .none rfl ?_
 refine Walk.sliceLit zd3 tz28 rfl (by decide) (ks:=[0]) (xs:=[_]) rfl rfl (by decide) (by decide) .none rfl rfl rfl rfl ?_
 refine ev ?_
 refine CWp.loopX (ι:=List (List Pat)×List (List Pat)) hk (fun x=>[(4,.d (.i (x.1.length:Int))),(3,.d (.sl ((tupQ 400 x.1).map zha)))]) [5,6,7,10,11,12,13,14,15,16,17,18,19,20,21,22,23,24,25,26,27,28,29,30,31,32,33,34,35,36,37,38,39,40,41,42,43,44,45,46,47,48,49,50,51,52,53,54,55,56,57,58,59,60] (fun x=>[]) (fun x=>x.1++x.2=ls) (fun x=>x.2.length) ([],ls) (by simp) ⟨⟨_,rfl,(LeA.eqi (by first|rfl|(simp;done)|(rw[zbY,zcE,zcA (by omega)])))⟩,⟨⟨_,rfl,(by first|exact LeA.refl _|exact LeA.gld (by first|rfl|(simp;done)|(rw[zbY,zcE,zcA (by omega)]))|exact LeA.nild (by first|rfl|(simp;done)|(rw[zbY,zcE,zcA (by omega)]))|exact LeA.eqsl (by first|rfl|(simp;done)|(rw[zbY,zcE,zcA (by omega)]))|exact LeA.eqd (by first|rfl|(simp;done)|(rw[zbY,zcE,zcA (by omega)])))⟩,trivial⟩⟩ trivial (fun x=>rfl) (fun x hg1=>?_)
 obtain⟨pre,rest⟩:=x
 dsimp only at hg1 ⊢
 refine evc [] [] ?_
 refine sq (fun h1 h1p h1s=>?_) fun h1 h1p h1s=>?_
 try simp only[Q,Pat.cs_len,Int.ofNat_lt,Int.ofNat_le] at h1p
 rcases rest with _|⟨l,rest⟩
 ·exfalso;simp_all
 have hll:=hls l (by rw[←hg1];simp);have htl:=zoV 400 pre
 refine Walk.sliceEmptyG 3 zd3 .none rfl rfl ?_
 refine ev ?_
 refine CWp.loopX (ι:=Nat) hk (fun k=>[(6,.d (.i (k:Int))),(5,.gl 3 (((((tupQ 400 pre).take k).flatMap (zjR l)).take (400+1)).map zha))]) [7,17,18,19,20,21,22,23,24,25,26,27,28,29,30,31,32,33,34,35,36,37,38,39,40,41,42,43,44,45,46,47,48,49,50,51,52,53,54,55,56,57,58,59] (fun k=>[(3,some (.tok ((((((tupQ 400 pre).take k).flatMap (zjR l)).take (400+1)).map zha)).length 1))]) (fun k=>k≤(tupQ 400 pre).length) (fun k=>(tupQ 400 pre).length-k) 0 (by simp) ⟨⟨_,rfl,(LeA.eqi (by first|rfl|(simp;done)|(rw[zel (by omega),zdL (by omega)])))⟩,⟨⟨_,rfl,(LeA.glg (by first|rfl|(simp;done)|(rw[zel (by omega),zdL (by omega)])))⟩,trivial⟩⟩ ⟨zae (by first|rfl|(simp;done)|(simp;omega)|(first|rfl|(simp;done)|(rw[zel (by omega),zdL (by omega)]))),trivial⟩ (fun x=>rfl) (fun k hg2=>?_)
 refine evc [] [] ?_
 refine sq (fun h2 h2p h2s=>?_) fun h2 h2p h2s=>?_
 try simp only[Q,Pat.cs_len,Int.ofNat_lt,Int.ofNat_le] at h2p
 refine sq (fun h3 h3p h3s=>?_) fun h3 h3p h3s=>?_
 try simp only[Q,Pat.cs_len,Int.ofNat_lt,Int.ofNat_le] at h3p
 refine CWp.loopX (ι:=Nat) hk (fun j=>[(7,.d (.i (j:Int))),(5,.gl 3 (((((tupQ 400 pre).take k).flatMap (zjR l)++(l.take j).map (fun y=>nth (tupQ 400 pre) k++[y])).take (400+1)).map zha))]) [28,29,30,31,32,33,34,35,36,37,38,39,40,41,42,43,44,45,46,47,48,49,50,51,52,53,54,55,56,57,58,59] (fun j=>[(3,some (.tok ((((((tupQ 400 pre).take k).flatMap (zjR l)++(l.take j).map (fun y=>nth (tupQ 400 pre) k++[y])).take (400+1)).map zha)).length 1))]) (fun j=>j≤l.length) (fun j=>l.length-j) 0 (by simp) ⟨⟨_,rfl,(LeA.eqi (by first|rfl|(simp;done)|(rw[zgE (by omega) (by omega),List.map_append];simp[Pat.cs_cd];done)))⟩,⟨⟨_,rfl,(LeA.glg (by first|rfl|(simp;done)|(rw[zgE (by omega) (by omega),List.map_append];simp[Pat.cs_cd];done)))⟩,trivial⟩⟩ ⟨zae (by first|rfl|(simp;done)|(simp;omega)|(first|rfl|(simp;done)|(rw[zgE (by omega) (by omega),List.map_append];simp[Pat.cs_cd];done))),trivial⟩ (fun x=>rfl) (fun j hg3=>?_)
 have hol:=zoW 400 (zal (l:=tupQ 400 pre) (i:=k) (by omega))
 refine evc [] [] ?_
 refine Walk.idx zd3 .none rfl rfl rfl rfl (by first|exact za0 hg1|exact zay (by omega)) rfl ?_
 refine ev ?_
 refine sq (fun h4 h4p h4s=>?_) fun h4 h4p h4s=>?_
 try simp only[Q,Pat.cs_len,Int.ofNat_lt,Int.ofNat_le] at h4p
 refine sq (fun h5 h5p h5s=>?_) fun h5 h5p h5s=>?_
 try simp only[Q,Pat.cs_len,Int.ofNat_lt,Int.ofNat_le] at h5p
 refine Walk.sliceEmptyG 5 sl28 .none rfl rfl ?_
 refine evd [] [] ?_
 refine Walk.idx zd3 .none rfl rfl rfl rfl (by first|exact za0 hg1|exact zay (by omega)) rfl ?_
 refine evd [] [] ?_
 refine Walk.append sl28 zz77 rfl .none rfl rfl rfl rfl (zaG rfl (by first|rfl|(simp;done)|(simp;omega))) (by intro z hz;first|(rw[Pat.cs_cd] at hz;obtain⟨_,_,rfl⟩:=List.mem_map.1 hz;rfl)|(simp at hz;rw[hz];rfl)) (by first|(simp only[List.length_map,List.length_append,List.length_cons,List.length_nil,Pat.cs_len] at *;omega)) (by first|(simp only[List.length_map,List.length_append,List.length_cons,List.length_nil,Pat.cs_len] at *;omega)) ?_
 refine evd [] [] ?_
 refine Walk.idx zd3 .none rfl rfl rfl rfl (by first|exact za0 hg1|exact zay (by omega)) rfl ?_
 refine evd [] [] ?_
 refine Walk.idx sl28 .none rfl rfl rfl rfl (zaK (by omega)) rfl ?_
 refine evd [] [] ?_
 refine Walk.sliceLit sl28 tz77 rfl (by decide) (ks:=[0]) (xs:=[_]) rfl rfl (by decide) (by decide) .none rfl rfl rfl rfl ?_
 refine Walk.append sl28 zz77 rfl .none rfl rfl rfl rfl (zaG rfl (by first|rfl|(simp;done)|(simp;omega))) (by intro z hz;first|(rw[Pat.cs_cd] at hz;obtain⟨_,_,rfl⟩:=List.mem_map.1 hz;rfl)|(simp at hz;rw[hz];rfl)) (by first|(simp only[List.length_map,List.length_append,List.length_cons,List.length_nil,Pat.cs_len] at *;omega)) (by first|(simp only[List.length_map,List.length_append,List.length_cons,List.length_nil,Pat.cs_len] at *;omega)) ?_
 refine Walk.sliceLit zd3 tz28 rfl (by decide) (ks:=[0]) (xs:=[_]) rfl rfl (by decide) (by decide) .none rfl rfl rfl rfl ?_
 refine Walk.append zd3 zz28 rfl .none rfl rfl rfl rfl (zaG rfl (by first|rfl|(simp;done)|(simp;omega))) (by intro z hz;first|(rw[Pat.cs_cd] at hz;obtain⟨_,_,rfl⟩:=List.mem_map.1 hz;rfl)|(simp at hz;rw[hz];rfl)) (by first|(simp only[List.length_map,List.length_append,List.length_cons,List.length_nil,Pat.cs_len] at *;omega)) (by first|(simp only[List.length_map,List.length_append,List.length_cons,List.length_nil,Pat.cs_len] at *;omega)) ?_
 refine evd [] [] ?_
 refine dr ?_
 refine ar ?_
 focus (refine Exists.intro (j+1) ⟨?_, ?_,Sub.x (by kernel_rfl) (by kernel_rfl) ⟨⟨_,rfl,(LeA.eqi (by first|rfl|(simp;done)|(rw[zgE (by omega) (by omega),List.map_append];simp[Pat.cs_cd];done)))⟩,⟨⟨_,rfl,(LeA.glg (by first|rfl|(simp;done)|(rw[zgE (by omega) (by omega),List.map_append];simp[Pat.cs_cd];done)))⟩,trivial⟩⟩ (by kernel_rfl) (by kernel_rfl) ⟨zae (by first|rfl|(simp;done)|(simp;omega)|(first|rfl|(simp;done)|(rw[zgE (by omega) (by omega),List.map_append];simp[Pat.cs_cd];done))),trivial⟩⟩;all_goals first|omega|(simp_all;done)|(simp_all;omega))
 try simp only[Q,Pat.cs_len,Int.ofNat_lt,Int.ofNat_le] at h5p
 refine ar ?_
 focus (refine Exists.intro (k+1) ⟨?_, ?_,Sub.x (by kernel_rfl) (by kernel_rfl) ⟨⟨_,rfl,(LeA.eqi (by first|rfl|(simp;done)|(rw[zel (by omega),zdL (by omega)])))⟩,⟨⟨_,rfl,(LeA.glg (by first|rfl|(simp;done)|(rw[zel (by omega),zdL (by omega)])))⟩,trivial⟩⟩ (by kernel_rfl) (by kernel_rfl) ⟨zae (by first|rfl|(simp;done)|(simp;omega)|(first|rfl|(simp;done)|(rw[zel (by omega),zdL (by omega)]))),trivial⟩⟩;all_goals first|omega|(simp_all;done)|(simp_all;omega))
 try simp only[Q,Pat.cs_len,Int.ofNat_lt,Int.ofNat_le] at h4p
 refine sqF ?_
 refine ar ?_
 focus (refine Exists.intro (k+1) ⟨?_, ?_,Sub.x (by kernel_rfl) (by kernel_rfl) ⟨⟨_,rfl,(LeA.eqi (by first|rfl|(simp;done)|(rw[zel (by omega),zdL (by omega)])))⟩,⟨⟨_,rfl,(LeA.glg (by first|rfl|(simp;done)|(rw[zel (by omega),zdL (by omega)])))⟩,trivial⟩⟩ (by kernel_rfl) (by kernel_rfl) ⟨zae (by first|rfl|(simp;done)|(simp;omega)|(first|rfl|(simp;done)|(rw[zel (by omega),zdL (by omega)]))),trivial⟩⟩;all_goals first|omega|(simp_all;done)|(simp_all;omega))
 try simp only[Q,Pat.cs_len,Int.ofNat_lt,Int.ofNat_le] at h3p
 refine ar ?_
 refine Exists.intro ((pre++[l],rest)) ⟨(by have hz:=hg1;rw[←hz];simp),(by simp),Sub.x (by kernel_rfl) (by kernel_rfl) ⟨⟨_,rfl,(LeA.eqi (by first|rfl|(simp;done)|(rw[zbY,zcE,zcA (by omega)])))⟩,⟨⟨_,rfl,(by first|exact LeA.refl _|exact LeA.gld (by first|rfl|(simp;done)|(rw[zbY,zcE,zcA (by omega)]))|exact LeA.nild (by first|rfl|(simp;done)|(rw[zbY,zcE,zcA (by omega)]))|exact LeA.eqsl (by first|rfl|(simp;done)|(rw[zbY,zcE,zcA (by omega)]))|exact LeA.eqd (by first|rfl|(simp;done)|(rw[zbY,zcE,zcA (by omega)])))⟩,trivial⟩⟩ (by kernel_rfl) (by kernel_rfl) trivial⟩
 try simp only[Q,Pat.cs_len,Int.ofNat_lt,Int.ofNat_le] at h2p
 refine sqF ?_
 refine ar ?_
 refine Exists.intro ((pre++[l],rest)) ⟨(by have hz:=hg1;rw[←hz];simp),(by simp),Sub.x (by kernel_rfl) (by kernel_rfl) ⟨⟨_,rfl,(LeA.eqi (by first|rfl|(simp;done)|(rw[zbY,zcE,zcA (by omega)])))⟩,⟨⟨_,rfl,(by first|exact LeA.refl _|exact LeA.gld (by first|rfl|(simp;done)|(rw[zbY,zcE,zcA (by omega)]))|exact LeA.nild (by first|rfl|(simp;done)|(rw[zbY,zcE,zcA (by omega)]))|exact LeA.eqsl (by first|rfl|(simp;done)|(rw[zbY,zcE,zcA (by omega)]))|exact LeA.eqd (by first|rfl|(simp;done)|(rw[zbY,zcE,zcA (by omega)])))⟩,trivial⟩⟩ (by kernel_rfl) (by kernel_rfl) trivial⟩
 try simp only[Q,Pat.cs_len,Int.ofNat_lt,Int.ofNat_le] at h1p
 have hrest:rest=[]:=by
  rcases rest with _|⟨a,b⟩
  ·rfl
  ·exfalso;have hz:=congrArg List.length (hg1);simp only[List.length_append,List.length_cons,List.length_map] at hz;omega
 subst hrest
 refine rn0 (r1 rfl) (.eqd ?_)
 rotate_left
 all_goals ((rw[List.append_nil] at hg1);subst hg1;rfl)
theorem zd4:∀(n:Nat){p:Pat},binP n p=true→p.ok→FnD Tryz.prog 165 [.agg [.d (.i p.op),.d (.i p.ctor),.d (.i p.n),.d (.i p.m),.d (.i p.var),.d (zad p.kids)]] [] (.gv 9 (Pat.cs (zbe p))) [(9,some (.tok (Pat.cs (zbe p)).length 6))]
 |0,p,h,_=>by simp[binP] at h
 |n+1,p,h,hok=>by
  have hok':=(Pat.ok_iff p).1 hok
  have hok1:=hok'.1
  by_cases h5:p.op=5
  ·have hl:=zjC h h5
   have e5:=zrC h5 hl
   have l0:=zgx (nth p.kids 0)
   have l1:=zgx (nth p.kids 1)
   have c0:=zd4 n (zei h (i:=0) (by omega)) (Pats.ok_mem hok'.2 _ (zal (by omega)))
   have c1:=FnD.gvD (zd4 n (zei h (i:=1) (by omega)) (Pats.ok_mem hok'.2 _ (zal (by omega))))
   rw[e5]
   generalize zbe (nth p.kids 0)=A at *
   generalize zbe (nth p.kids 1)=C at *
   by_cases hlen:(A++C).length≤401
   ·rw[List.take_of_length_le hlen]
    rw[List.length_append] at hlen
    refine bd Tryz.f165 67 [25] [] fun w0 F0 own kept hk=>?_
    refine Walk.box (id:=3001) .none rfl rfl rfl rfl rfl rfl rfl ?_
    refine evs [25] [] ?_
    refine sq (fun h1 h1p h1s=>?_) fun h1 h1p h1s=>?_
    try simp only[Q,Pat.cs_len,List.length_append] at h1p
    refine Walk.idx (i:=0) sl28 .none rfl rfl rfl rfl (zaK (by omega)) rfl ?_
    refine evd [25] [] ?_
    refine Walk.call (cr:=[9]) zhJ (c0) rfl .none rfl rfl (LeL.refl _) trivial rfl rfl rfl ?_
    refine evd [25] [] ?_
    refine Walk.idx (i:=1) sl28 .none rfl rfl rfl rfl (zaK (by omega)) rfl ?_
    refine evd [25] [] ?_
    refine Walk.call (cr:=[]) zhJ (c1) rfl .none rfl rfl (LeL.refl _) trivial rfl rfl rfl ?_
    refine Walk.appendV sl28 zz77 .none rfl rfl rfl rfl (zaG rfl (by first|rfl|(simp;done)|(simp;omega))) (by intro x hx;exact zbm _ x hx) (by simp[Pat.cs_len];omega) (by simp[Pat.cs_len];omega) ?_
    refine evd [25] [] ?_
    refine dr ?_
    refine Walk.lenV sl28 .none rfl rfl ?_
    refine evs [25] [] ?_
    refine sq (fun h2 h2p h2s=>?_) fun h2 h2p h2s=>?_
    try simp only[Q,Pat.cs_len,List.length_append] at h2p
    exfalso;omega
    try simp only[Q,Pat.cs_len,List.length_append] at h2p
    refine rn [(9,some (.tok (Pat.cs (A++C)).length 6))] (r1 rfl) (.gvg ?_) ⟨rfl,rfl⟩ (SubH.get ⟨?_,trivial⟩) (zbj rfl)
    rotate_left 2
    try simp only[Q,Pat.cs_len,List.length_append] at h1p
    exfalso;omega
    all_goals (first|((first|rfl|(simp[Pat.cs_cd];done));done)|(first|rfl|(simp[Pat.cs_cd];rfl)))
   ·have c8:=FnD.gvRen 8 c0
    rw[List.length_append] at hlen
    refine bd Tryz.f165 67 [25] [] fun w0 F0 own kept hk=>?_
    refine Walk.box (id:=3001) .none rfl rfl rfl rfl rfl rfl rfl ?_
    refine evs [25] [] ?_
    refine sq (fun h1 h1p h1s=>?_) fun h1 h1p h1s=>?_
    try simp only[Q,Pat.cs_len,List.length_append] at h1p
    refine Walk.idx (i:=0) sl28 .none rfl rfl rfl rfl (zaK (by omega)) rfl ?_
    refine evd [25] [] ?_
    refine Walk.call (cr:=[8]) zhJ (c8) rfl .none rfl rfl (LeL.refl _) trivial rfl rfl rfl ?_
    refine evd [25] [] ?_
    refine Walk.idx (i:=1) sl28 .none rfl rfl rfl rfl (zaK (by omega)) rfl ?_
    refine evd [25] [] ?_
    refine Walk.call (cr:=[]) zhJ (c1) rfl .none rfl rfl (LeL.refl _) trivial rfl rfl rfl ?_
    refine Walk.appendV sl28 zz77 .none rfl rfl rfl rfl (zaG rfl (by first|rfl|(simp;done)|(simp;omega))) (by intro x hx;exact zbm _ x hx) (by simp[Pat.cs_len];omega) (by simp[Pat.cs_len];omega) ?_
    refine evd [25] [] ?_
    refine dr ?_
    refine Walk.lenV sl28 .none rfl rfl ?_
    refine evs [25] [] ?_
    refine sq (fun h2 h2p h2s=>?_) fun h2 h2p h2s=>?_
    try simp only[Q,Pat.cs_len,List.length_append] at h2p
    refine Walk.cutV_h 9 (b:=401) sl28 .none rfl rfl (zaG rfl (by first|rfl|(simp;done)|(simp;omega))) rfl rfl (by simp[Pat.cs_len];omega) (by simp[Pat.cs_len];omega) rfl ?_
    refine evs [25] [] ?_
    refine rn [(9,some (.tok (Pat.cs ((A++C).take 401)).length 6))] (r1 rfl) (.gvg ?_) ⟨rfl,rfl⟩ (SubH.get ⟨?_,trivial⟩) (zbj rfl)
    rotate_left 2
    try simp only[Q,Pat.cs_len,List.length_append] at h2p
    exfalso;omega
    try simp only[Q,Pat.cs_len,List.length_append] at h1p
    exfalso;omega
    all_goals (first|((first|rfl|(simp[Pat.cs_cd];done));done)|(first|rfl|(show some (Res.tok _ _)=some (Res.tok _ _);simp[Pat.cs_len];omega)))
  ·have hts:=zoV 400 (p.kids.map zbe)
   have htm:=fun(i:Nat) (hi:i<(tupQ 400 (p.kids.map zbe)).length)=>zoW 400 (zal hi)
   have ht3:=zkG (ls:=p.kids.map zbe) (by rw[List.length_map];omega) (fun l hl=>by obtain⟨x,_,rfl⟩:=List.mem_map.1 hl;have:=zgx x;omega)
   have hcal:=fun(i:Nat) (hi:i<p.kids.length)=>FnD.gvD (zd4 n (zei h hi) (Pats.ok_mem hok'.2 _ (zal hi)))
   have hpl:=fun(y:Pat) (pre rest:List Pat) (e:pre++y::rest=p.kids)=>(show pre.length<p.kids.length∧nth p.kids pre.length=y from⟨by have:=congrArg List.length e;simp at this;omega,ztD e⟩)
   have hcal2:=fun(y:Pat) (pre rest:List Pat) (e:pre++y::rest=p.kids)=>show FnD Tryz.prog 165 [.agg [.d (.i y.op),.d (.i y.ctor),.d (.i y.n),.d (.i y.m),.d (.i y.var),.d (zad y.kids)]] [] (.d (.sl (Pat.cs (zbe y)))) [] from by
    have hq:=hcal pre.length (hpl y pre rest e).1
    rw[(hpl y pre rest e).2] at hq
    exact hq
   have ht3':=fun(pre:List Pat) (e:pre++[]=p.kids)=>show FnD Tryz.prog 200 [.d (zia (pre.map zbe))] [] (.d (zia (tupQ 400 (p.kids.map zbe)))) [] from by
    rw[List.append_nil] at e
    rw[e];exact ht3
   rw[zrD h5]
   refine bd Tryz.f165 67 [] [] fun w0 F0 own kept hk=>?_
   refine Walk.box (id:=3001) .none rfl rfl rfl rfl rfl rfl rfl ?_
   refine ev ?_
   refine sq (fun h1 h1p h1s=>?_) fun h1 h1p h1s=>?_
   try simp only[Q,Pat.cs_len] at h1p
   exfalso;omega
   try simp only[Q,Pat.cs_len] at h1p
   refine Walk.sliceEmptyG 4 zd3 .none rfl rfl ?_
   refine ev ?_
   refine CWp.loopX (ι:=List (Pat)×List (Pat)) hk (fun x=>[(5,.d (.i (x.1.length:Int))),(4,.gl 4 ((x.1.map zbe).map zha))]) [31,32,33,34,35,36,37,38,39,40,41,42,43,44,45,46] (fun x=>[(4,some (.tok (((x.1.map zbe).map zha)).length 1))]) (fun x=>x.1++x.2=p.kids) (fun x=>x.2.length) ([],p.kids) (by simp) ⟨⟨_,rfl,(LeA.eqi (by first|rfl|(simp;done)))⟩,⟨⟨_,rfl,(LeA.glg (by first|rfl|(simp;done)))⟩,trivial⟩⟩ ⟨zae (by first|rfl|(simp;done)|(simp;omega)|(first|rfl|(simp;done))),trivial⟩ (fun x=>rfl) (fun x hg1=>?_)
   obtain⟨pre,rest⟩:=x
   dsimp only at hg1 ⊢
   refine evc [] [] ?_
   refine sq (fun h2 h2p h2s=>?_) fun h2 h2p h2s=>?_
   try simp only[Q,Pat.cs_len] at h2p
   rcases rest with _|⟨y,rest⟩
   ·exfalso;simp_all
   refine Walk.idx sl28 .none rfl rfl rfl rfl (Pat.cs_at' hg1) rfl ?_
   refine ev ?_
   refine Walk.call (cr:=[]) zhJ (hcal2 y pre rest hg1) rfl .none rfl rfl (LeL.refl _) trivial rfl rfl rfl ?_
   refine Walk.sliceLit zd3 tz28 rfl (by decide) (ks:=[0]) (xs:=[_]) rfl rfl (by decide) (by decide) .none rfl rfl rfl rfl ?_
   refine Walk.append zd3 zz28 rfl .none rfl rfl rfl rfl (zaG rfl (by first|rfl|(simp;done)|(simp;omega))) (by intro x hx;first|(simp at hx;subst hx;rfl)|exact zbI _ x hx) (by first|(have:=congrArg List.length hg1;simp at this;simp;omega)|(simp;omega)) (by first|(have:=congrArg List.length hg1;simp at this;simp;omega)|(simp;omega)) ?_
   refine ev ?_
   refine ar ?_
   refine Exists.intro ((pre++[y],rest)) ⟨(by have hz:=hg1;rw[←hz];simp),(by simp),Sub.x (by kernel_rfl) (by kernel_rfl) ⟨⟨_,rfl,(LeA.eqi (by first|rfl|(simp;done)))⟩,⟨⟨_,rfl,(LeA.glg (by first|rfl|(simp;done)))⟩,trivial⟩⟩ (by kernel_rfl) (by kernel_rfl) ⟨zae (by first|rfl|(simp;done)|(simp;omega)|(first|rfl|(simp;done))),trivial⟩⟩
   try simp only[Q,Pat.cs_len] at h2p
   have hrest:rest=[]:=by
    rcases rest with _|⟨a,b⟩
    ·rfl
    ·exfalso;have hz:=congrArg List.length (hg1);simp only[List.length_append,List.length_cons,List.length_map] at hz;omega
   subst hrest
   refine Walk.call (cr:=[]) ztj (ht3' pre hg1) rfl .none rfl rfl (.cons (.gl _ _) .nil) trivial rfl rfl rfl ?_
   refine ev ?_
   refine Walk.sliceEmptyGV 9 sl28 .none rfl rfl ?_
   refine ev ?_
   refine CWp.loopX (ι:=Nat) hk (fun k=>[(8,.d (.i (k:Int))),(7,.gv 9 ((((tupQ 400 (p.kids.map zbe)).take k).map fun l=>Pat.mk p.op p.ctor p.n p.m p.var l).map Pat.cc))]) [9,50,51,52,53,54,55,56,57,58,59,60,61,62,63,64,65] (fun k=>[(9,some (.tok (((((tupQ 400 (p.kids.map zbe)).take k).map fun l=>Pat.mk p.op p.ctor p.n p.m p.var l).map Pat.cc)).length 6))]) (fun k=>k≤(tupQ 400 (p.kids.map zbe)).length) (fun k=>(tupQ 400 (p.kids.map zbe)).length-k) 0 (by omega) ⟨⟨_,rfl,(LeA.eqi (by first|rfl|(simp;done)|(rw[List.take_succ_eq_append_getElem (by omega),←za9 (by omega)];simp[zds,zcB,mk_n,mk_m,zc4,zb1];done)|omega))⟩,⟨⟨_,rfl,(LeA.gvg (by first|rfl|(simp;done)|(rw[List.take_succ_eq_append_getElem (by omega),←za9 (by omega)];simp[zds,zcB,mk_n,mk_m,zc4,zb1];done)|omega))⟩,trivial⟩⟩ ⟨zae (by first|rfl|(simp;done)|(simp;omega)|(first|rfl|(simp;done)|(rw[List.take_succ_eq_append_getElem (by omega),←za9 (by omega)];simp[zds,zcB,mk_n,mk_m,zc4,zb1];done)|omega)),trivial⟩ (fun x=>rfl) (fun k hg2=>?_)
   refine evc [] [] ?_
   refine sq (fun h3 h3p h3s=>?_) fun h3 h3p h3s=>?_
   try simp only[Q,Pat.cs_len] at h3p
   refine Walk.alloc (id:=3009) tz77 rfl .none rfl rfl rfl rfl ?_
   refine Walk.store ty77 .none rfl rfl rfl rfl rfl rfl (by simp) rfl ?_
   refine tv ?_
   refine Walk.idx zd3 .none rfl rfl rfl rfl (zay (by omega)) rfl ?_
   refine ev ?_
   refine Walk.store ty28 .none rfl rfl rfl rfl rfl rfl (by simp) rfl ?_
   refine tv ?_
   refine Walk.sliceLit sl28 tz77 rfl (by decide) (ks:=[0]) (xs:=[_]) rfl rfl (by decide) (by decide) .none rfl rfl rfl rfl ?_
   refine Walk.appendV sl28 zz77 .none rfl rfl rfl rfl (zaG rfl (by first|rfl|(simp;done)|(simp;omega))) (by intro x hx;first|(simp at hx;subst hx;rfl)|exact zbI _ x hx) (by first|(have:=congrArg List.length hg1;simp at this;simp;omega)|(simp;omega)) (by first|(have:=congrArg List.length hg1;simp at this;simp;omega)|(simp;omega)) ?_
   refine ev ?_
   refine ar ?_
   refine Exists.intro (k+1) ⟨(by omega),(by omega),Sub.x (by kernel_rfl) (by kernel_rfl) ⟨⟨_,rfl,(LeA.eqi (by first|rfl|(simp;done)|(rw[List.take_succ_eq_append_getElem (by omega),←za9 (by omega)];simp[zds,zcB,mk_n,mk_m,zc4,zb1];done)|omega))⟩,⟨⟨_,rfl,(LeA.gvg (by first|rfl|(simp;done)|(rw[List.take_succ_eq_append_getElem (by omega),←za9 (by omega)];simp[zds,zcB,mk_n,mk_m,zc4,zb1];done)|omega))⟩,trivial⟩⟩ (by kernel_rfl) (by kernel_rfl) ⟨zae (by first|rfl|(simp;done)|(simp;omega)|(first|rfl|(simp;done)|(rw[List.take_succ_eq_append_getElem (by omega),←za9 (by omega)];simp[zds,zcB,mk_n,mk_m,zc4,zb1];done)|omega)),trivial⟩⟩
   try simp only[Q,Pat.cs_len] at h3p
   refine rn [(9,some (.tok (Pat.cs ((tupQ 400 (p.kids.map zbe)).map fun l=>Pat.mk p.op p.ctor p.n p.m p.var l)).length 6))] (r1 rfl) (.gvg ?_) ⟨rfl,rfl⟩ (SubH.get ⟨?_,trivial⟩) (zbj rfl)
   rotate_left 2
   all_goals (first|((first|rfl|(obtain rfl:k=(tupQ 400 (p.kids.map zbe)).length:=(by omega);rw[List.take_length,show Pat.cs ((tupQ 400 (p.kids.map zbe)).map fun l=>Pat.mk p.op p.ctor p.n p.m p.var l)=((tupQ 400 (p.kids.map zbe)).map fun l=>Pat.mk p.op p.ctor p.n p.m p.var l).map Pat.cc from Pat.cs_cd _];done));done)|(first|rfl|(obtain rfl:k=(tupQ 400 (p.kids.map zbe)).length:=(by omega);rw[List.take_length];simp[Pat.cs_cd];rfl)|(obtain rfl:k=(tupQ 400 (p.kids.map zbe)).length:=(by omega);rw[List.take_length,show Pat.cs ((tupQ 400 (p.kids.map zbe)).map fun l=>Pat.mk p.op p.ctor p.n p.m p.var l)=((tupQ 400 (p.kids.map zbe)).map fun l=>Pat.mk p.op p.ctor p.n p.m p.var l).map Pat.cc from Pat.cs_cd _];rfl)))
theorem zlW {w:List Data}{n:Nat}{t:Ty}{p:Pat} (h:zaw w n t p=true) (hok:p.ok):FnD Tryz.prog 107 [.agg [.d (.i p.op),.d (.i p.ctor),.d (.i p.n),.d (.i p.m),.d (.i p.var),.d (zad p.kids)]] [] (.d (zad (zbe (zaQ p)))) []:=by
 have hbp:=zc8 _ (Nat.le_refl _) hok
 have hsp:=FnD.gvD (zd4 n (zhr n h) (zjB p hok))
 generalize zaQ p=b at *
 refine bd Tryz.f107 6 [] [] fun w0 F0 own kept hk=>?_
 refine Walk.box (id:=3001) .none rfl rfl rfl rfl rfl rfl rfl ?_
 refine ev ?_
 refine Walk.call (cr:=[]) zkW (hbp) rfl .none rfl rfl (LeL.refl _) trivial rfl rfl rfl ?_
 refine Walk.call (cr:=[]) zhJ (hsp) rfl .none rfl rfl (LeL.refl _) trivial rfl rfl rfl ?_
 refine ev ?_
 refine rn0 (r1 rfl) (.eqd ?_)
 rotate_left
 all_goals (rfl)
def ztx (s:Str):Prop:=2<s.length∧nth s (s.length-2)=58
instance (s:Str):Decidable (ztx s):=inferInstanceAs (Decidable (_∧_))
structure TB (w:List Data):Prop where
 len:w.length≤4
 dn:∀d∈w,d.name.length≤1∧d.ctors.length≤4
 cn:∀d∈w,∀c∈d.ctors,c.name.length≤5∧c.args.length≤3∧0≤c.index∧c.index≤3
 ar:∀d∈w,∀c∈d.ctors,∀t∈c.args,(t.data = -1∨(0≤t.data∧t.data.toNat<w.length))∧ -1≤t.index∧t.index≤3
theorem Pat.cs_cc (l:List Pat):Pat.cs l=l.map Pat.cc:=by
 rw[Pat.cs_eq];exact List.map_congr_left (fun v _=>Pat.c_eq v)
theorem ziF:FnD Tryz.prog 31 [] [] (.agg [.d (.i 1),.d (.i 0),.d (.i 0),.d (.i 0),.d (.i 0),.d (.sl [])]) []:=by
 refine bd Tryz.f31 2 [] [] fun w0 F0 own kept hk=>?_
 refine Walk.alloc (id:=3000) tz77 rfl .none rfl rfl rfl rfl ?_
 refine tv ?_
 refine Walk.build st77 (ks:=[0]) (xs:=[_]) rfl rfl .none rfl rfl rfl ?_
 refine Walk.store ty77 .none rfl rfl rfl rfl rfl rfl (by simp) rfl ?_
 refine tv ?_
 focus (refine rn0 (.cons (.cellA ty77 rfl rfl rfl) .nil) (.agg (.cons (.eqd ?_) (.cons (.eqd ?_) (.cons (.eqd ?_) (.cons (.eqd ?_) (.cons (.eqd ?_) (.cons (.nild ?_) .nil)))))));all_goals (first|rfl|(simp[];done)|(simp_all;done)|(simp_all;omega)|omega))
theorem zgY {a b:Pat} (hn:0≤b.n∧b.n≤9) (hm:0≤b.m∧b.m≤9):FnD Tryz.prog 168 [.agg [.d (.i (a).op),.d (.i (a).ctor),.d (.i (a).n),.d (.i (a).m),.d (.i (a).var),.d (zad (a).kids)],.agg [.d (.i (b).op),.d (.i (b).ctor),.d (.i (b).n),.d (.i (b).m),.d (.i (b).var),.d (zad (b).kids)]] [] (.d (zad (zcm a.n (minQ a.m (b.n-1))++zcm (maxQ a.n (b.m+1)) a.m))) []:=by
 refine bd Tryz.f168 58 [] [] fun w0 F0 own kept hk=>?_
 refine Walk.box (id:=3002) .none rfl rfl rfl rfl rfl rfl rfl ?_
 refine Walk.box (id:=3003) .none rfl rfl rfl rfl rfl rfl rfl ?_
 refine ev ?_
 refine Walk.sliceEmptyG 9 sl28 .none rfl rfl ?_
 refine ev ?_
 refine Walk.build st77 (ks:=[0,2,3]) (xs:=[_,_,_]) rfl rfl .none rfl rfl rfl ?_
 refine Walk.alloc (id:=3006) tz77 rfl .none rfl rfl rfl rfl ?_
 refine Walk.store ty77 .none rfl rfl rfl rfl rfl rfl (by simp) rfl ?_
 refine tv ?_
 refine ar ?_
 refine sq (fun h1 h1p h1s=>?_) fun h1 h1p h1s=>?_
 try simp only[Q] at h1p
 refine ar ?_
 refine Walk.store ty3 .none rfl rfl rfl rfl rfl rfl (by simp) rfl ?_
 refine tv ?_
 refine sq (fun h2 h2p h2s=>?_) fun h2 h2p h2s=>?_
 try simp only[Q] at h2p
 refine Walk.sliceLit sl28 tz77 rfl (by decide) (ks:=[0]) (xs:=[_]) rfl rfl (by decide) (by decide) .none rfl rfl rfl rfl ?_
 refine Walk.append sl28 zz77 rfl .none rfl rfl rfl rfl (zaG rfl (by first|rfl|(simp;done)|(simp;omega))) (by intro x hx;simp at hx;subst hx;rfl) (by simp) (by simp) ?_
 refine ev ?_
 refine Walk.build st77 (ks:=[0,2,3]) (xs:=[_,_,_]) rfl rfl .none rfl rfl rfl ?_
 refine Walk.alloc (id:=3007) tz77 rfl .none rfl rfl rfl rfl ?_
 refine Walk.store ty77 .none rfl rfl rfl rfl rfl rfl (by simp) rfl ?_
 refine tv ?_
 refine ar ?_
 refine sq (fun h3 h3p h3s=>?_) fun h3 h3p h3s=>?_
 try simp only[Q] at h3p
 refine ar ?_
 refine Walk.store ty3 .none rfl rfl rfl rfl rfl rfl (by simp) rfl ?_
 refine tv ?_
 refine sq (fun h4 h4p h4s=>?_) fun h4 h4p h4s=>?_
 try simp only[Q] at h4p
 refine Walk.sliceLit sl28 tz77 rfl (by decide) (ks:=[0]) (xs:=[_]) rfl rfl (by decide) (by decide) .none rfl rfl rfl rfl ?_
 refine Walk.append sl28 zz77 rfl .none rfl rfl rfl rfl (zaG rfl (by first|rfl|(simp;done)|(simp;omega))) (by intro x hx;simp at hx;subst hx;rfl) (by simp) (by simp) ?_
 refine ev ?_
 refine rn0 (r1 rfl) (.gld ?_)
 rotate_left
 try simp only[Q] at h4p
 refine rn0 (r1 rfl) (.gld ?_)
 rotate_left
 try simp only[Q] at h3p
 refine sq (fun h5 h5p h5s=>?_) fun h5 h5p h5s=>?_
 try simp only[Q] at h5p
 refine Walk.sliceLit sl28 tz77 rfl (by decide) (ks:=[0]) (xs:=[_]) rfl rfl (by decide) (by decide) .none rfl rfl rfl rfl ?_
 refine Walk.append sl28 zz77 rfl .none rfl rfl rfl rfl (zaG rfl (by first|rfl|(simp;done)|(simp;omega))) (by intro x hx;simp at hx;subst hx;rfl) (by simp) (by simp) ?_
 refine ev ?_
 refine rn0 (r1 rfl) (.gld ?_)
 rotate_left
 try simp only[Q] at h5p
 refine rn0 (r1 rfl) (.gld ?_)
 rotate_left
 try simp only[Q] at h2p
 refine Walk.build st77 (ks:=[0,2,3]) (xs:=[_,_,_]) rfl rfl .none rfl rfl rfl ?_
 refine Walk.alloc (id:=3007) tz77 rfl .none rfl rfl rfl rfl ?_
 refine Walk.store ty77 .none rfl rfl rfl rfl rfl rfl (by simp) rfl ?_
 refine tv ?_
 refine ar ?_
 refine sq (fun h6 h6p h6s=>?_) fun h6 h6p h6s=>?_
 try simp only[Q] at h6p
 refine ar ?_
 refine Walk.store ty3 .none rfl rfl rfl rfl rfl rfl (by simp) rfl ?_
 refine tv ?_
 refine sq (fun h7 h7p h7s=>?_) fun h7 h7p h7s=>?_
 try simp only[Q] at h7p
 refine Walk.sliceLit sl28 tz77 rfl (by decide) (ks:=[0]) (xs:=[_]) rfl rfl (by decide) (by decide) .none rfl rfl rfl rfl ?_
 refine Walk.append sl28 zz77 rfl .none rfl rfl rfl rfl (zaG rfl (by first|rfl|(simp;done)|(simp;omega))) (by intro x hx;simp at hx;subst hx;rfl) (by simp) (by simp) ?_
 refine ev ?_
 refine rn0 (r1 rfl) (.gld ?_)
 rotate_left
 try simp only[Q] at h7p
 refine rn0 (r1 rfl) (.gld ?_)
 rotate_left
 try simp only[Q] at h6p
 refine sq (fun h8 h8p h8s=>?_) fun h8 h8p h8s=>?_
 try simp only[Q] at h8p
 refine Walk.sliceLit sl28 tz77 rfl (by decide) (ks:=[0]) (xs:=[_]) rfl rfl (by decide) (by decide) .none rfl rfl rfl rfl ?_
 refine Walk.append sl28 zz77 rfl .none rfl rfl rfl rfl (zaG rfl (by first|rfl|(simp;done)|(simp;omega))) (by intro x hx;simp at hx;subst hx;rfl) (by simp) (by simp) ?_
 refine ev ?_
 refine rn0 (r1 rfl) (.gld ?_)
 rotate_left
 try simp only[Q] at h8p
 refine rn0 (r1 rfl) (.gld ?_)
 rotate_left
 try simp only[Q] at h1p
 refine sq (fun h9 h9p h9s=>?_) fun h9 h9p h9s=>?_
 try simp only[Q] at h9p
 refine Walk.sliceLit sl28 tz77 rfl (by decide) (ks:=[0]) (xs:=[_]) rfl rfl (by decide) (by decide) .none rfl rfl rfl rfl ?_
 refine Walk.append sl28 zz77 rfl .none rfl rfl rfl rfl (zaG rfl (by first|rfl|(simp;done)|(simp;omega))) (by intro x hx;simp at hx;subst hx;rfl) (by simp) (by simp) ?_
 refine ev ?_
 refine Walk.build st77 (ks:=[0,2,3]) (xs:=[_,_,_]) rfl rfl .none rfl rfl rfl ?_
 refine Walk.alloc (id:=3007) tz77 rfl .none rfl rfl rfl rfl ?_
 refine Walk.store ty77 .none rfl rfl rfl rfl rfl rfl (by simp) rfl ?_
 refine tv ?_
 refine ar ?_
 refine sq (fun h10 h10p h10s=>?_) fun h10 h10p h10s=>?_
 try simp only[Q] at h10p
 refine ar ?_
 refine Walk.store ty3 .none rfl rfl rfl rfl rfl rfl (by simp) rfl ?_
 refine tv ?_
 refine sq (fun h11 h11p h11s=>?_) fun h11 h11p h11s=>?_
 try simp only[Q] at h11p
 refine Walk.sliceLit sl28 tz77 rfl (by decide) (ks:=[0]) (xs:=[_]) rfl rfl (by decide) (by decide) .none rfl rfl rfl rfl ?_
 refine Walk.append sl28 zz77 rfl .none rfl rfl rfl rfl (zaG rfl (by first|rfl|(simp;done)|(simp;omega))) (by intro x hx;simp at hx;subst hx;rfl) (by simp) (by simp) ?_
 refine ev ?_
 refine rn0 (r1 rfl) (.gld ?_)
 rotate_left
 try simp only[Q] at h11p
 refine rn0 (r1 rfl) (.gld ?_)
 rotate_left
 try simp only[Q] at h10p
 refine sq (fun h12 h12p h12s=>?_) fun h12 h12p h12s=>?_
 try simp only[Q] at h12p
 refine Walk.sliceLit sl28 tz77 rfl (by decide) (ks:=[0]) (xs:=[_]) rfl rfl (by decide) (by decide) .none rfl rfl rfl rfl ?_
 refine Walk.append sl28 zz77 rfl .none rfl rfl rfl rfl (zaG rfl (by first|rfl|(simp;done)|(simp;omega))) (by intro x hx;simp at hx;subst hx;rfl) (by simp) (by simp) ?_
 refine ev ?_
 refine rn0 (r1 rfl) (.gld ?_)
 rotate_left
 try simp only[Q] at h12p
 refine rn0 (r1 rfl) (.gld ?_)
 rotate_left
 try simp only[Q] at h9p
 refine Walk.build st77 (ks:=[0,2,3]) (xs:=[_,_,_]) rfl rfl .none rfl rfl rfl ?_
 refine Walk.alloc (id:=3007) tz77 rfl .none rfl rfl rfl rfl ?_
 refine Walk.store ty77 .none rfl rfl rfl rfl rfl rfl (by simp) rfl ?_
 refine tv ?_
 refine ar ?_
 refine sq (fun h13 h13p h13s=>?_) fun h13 h13p h13s=>?_
 try simp only[Q] at h13p
 refine ar ?_
 refine Walk.store ty3 .none rfl rfl rfl rfl rfl rfl (by simp) rfl ?_
 refine tv ?_
 refine sq (fun h14 h14p h14s=>?_) fun h14 h14p h14s=>?_
 try simp only[Q] at h14p
 refine Walk.sliceLit sl28 tz77 rfl (by decide) (ks:=[0]) (xs:=[_]) rfl rfl (by decide) (by decide) .none rfl rfl rfl rfl ?_
 refine Walk.append sl28 zz77 rfl .none rfl rfl rfl rfl (zaG rfl (by first|rfl|(simp;done)|(simp;omega))) (by intro x hx;simp at hx;subst hx;rfl) (by simp) (by simp) ?_
 refine ev ?_
 refine rn0 (r1 rfl) (.gld ?_)
 rotate_left
 try simp only[Q] at h14p
 refine rn0 (r1 rfl) (.gld ?_)
 rotate_left
 try simp only[Q] at h13p
 refine sq (fun h15 h15p h15s=>?_) fun h15 h15p h15s=>?_
 try simp only[Q] at h15p
 refine Walk.sliceLit sl28 tz77 rfl (by decide) (ks:=[0]) (xs:=[_]) rfl rfl (by decide) (by decide) .none rfl rfl rfl rfl ?_
 refine Walk.append sl28 zz77 rfl .none rfl rfl rfl rfl (zaG rfl (by first|rfl|(simp;done)|(simp;omega))) (by intro x hx;simp at hx;subst hx;rfl) (by simp) (by simp) ?_
 refine ev ?_
 refine rn0 (r1 rfl) (.gld ?_)
 rotate_left
 try simp only[Q] at h15p
 refine rn0 (r1 rfl) (.gld ?_)
 rotate_left
 all_goals (unfold minQ maxQ zcm;(repeat' split)<;>first|rfl|(exfalso;omega))
theorem znG {w:List Data} (hw:WT w){a k c:Int} (ht:TyIn w.length ⟨a,k⟩) (hc:c∈zaA w ⟨a,k⟩) (hl:(zaj w ⟨a,k⟩ c).length≤3):FnD Tryz.prog 170 [.d (zao w),.agg [.d (.i a),.d (.i k)],.d (.i c)] []
  (.agg [.d (.i 4),.d (.i c),.d (.i 0),.d (.i 0),.d (.i 0),.d (zad (zcn w ⟨a,k⟩ c).kids)]) []:=by
 refine bd Tryz.f170 29 [] [] fun w0 F0 own kept hk=>?_
 refine Walk.box (id:=3004) .none rfl rfl rfl rfl rfl rfl rfl ?_
 refine Walk.alloc (id:=3006) tz77 rfl .none rfl rfl rfl rfl ?_
 refine tv ?_
 refine Walk.build st77 (ks:=[0,1]) (xs:=[_,_]) rfl rfl .none rfl rfl rfl ?_
 refine Walk.alloc (id:=3007) tz77 rfl .none rfl rfl rfl rfl ?_
 refine Walk.store ty77 .none rfl rfl rfl rfl rfl rfl (by simp) rfl ?_
 refine tv ?_
 refine Walk.call (cr:=[]) ziX (zdR hw ht hc) rfl .none rfl rfl (LeL.refl _) trivial rfl rfl rfl ?_
 refine ev ?_
 refine CWp.tokB 3007 5 9 6 rfl rfl rfl rfl ?_
 refine CWp.loopX (ι:=List (Ty)×List (Ty)) hk (fun x=>[(9,.d (.i (x.1.length:Int)))]) [16,17,18,19,20,21,22,23,24,25,26,27] (fun x=>[(3007,some (.box [.d (.i 4),.d (.i c),.d (.i 0),.d (.i 0),.d (.i 0),.gl 9 ((x.1.map fun _=>anyQ).map Pat.cc)])),(9,some (.tok ((x.1.map fun _=>anyQ).map Pat.cc).length 6))]) (fun x=>x.1++x.2=zaj w ⟨a,k⟩ c) (fun x=>x.2.length) ([],zaj w ⟨a,k⟩ c) (by simp) ⟨⟨_,rfl,(LeA.eqi (by first|rfl|(simp;done)|(simp;exact⟨rfl,rfl,rfl,rfl,rfl,rfl⟩)|omega))⟩,trivial⟩ ⟨(by first|rfl|(simp[getH];done)|(simp[getH];exact⟨rfl,rfl,rfl,rfl,rfl,rfl⟩)),⟨zae (by first|rfl|(simp;done)|(simp;omega)|(first|rfl|(simp;done)|(simp;exact⟨rfl,rfl,rfl,rfl,rfl,rfl⟩)|omega)),trivial⟩⟩ (fun x=>rfl) (fun x hg1=>?_)
 obtain⟨pre,rest⟩:=x
 dsimp only at hg1 ⊢
 refine evc [] [] ?_
 refine sq (fun h1 h1p h1s=>?_) fun h1 h1p h1s=>?_
 try simp only[Q] at h1p
 rcases rest with _|⟨y,rest⟩
 ·exfalso;simp_all
 refine Walk.call (cr:=[]) zrQ (ziF) rfl .none rfl rfl (LeL.refl _) trivial rfl rfl rfl ?_
 refine Walk.sliceLit sl28 tz77 rfl (by decide) (ks:=[0]) (xs:=[_]) rfl rfl (by decide) (by decide) .none rfl rfl rfl rfl ?_
 refine Walk.append sl28 zz77 rfl .none rfl rfl rfl rfl (zaG rfl (by first|rfl|(simp;done)|(simp;omega))) (by intro x hx;first|(simp at hx;subst hx;rfl)|exact zbI _ x hx) (by have:=congrArg List.length hg1;simp at this;simp;omega) (by have:=congrArg List.length hg1;simp at this;simp;omega) ?_
 refine evd [] [] ?_
 refine Walk.store ty28 .none rfl rfl rfl rfl rfl rfl (by simp) rfl ?_
 refine dr ?_
 refine ar ?_
 refine Exists.intro ((pre++[y],rest)) ⟨(by have hz:=hg1;rw[←hz];simp),(by simp),Sub.x (by kernel_rfl) (by kernel_rfl) ⟨⟨_,rfl,(LeA.eqi (by first|rfl|(simp;done)|(simp;exact⟨rfl,rfl,rfl,rfl,rfl,rfl⟩)|omega))⟩,trivial⟩ (by kernel_rfl) (by kernel_rfl) ⟨(by first|rfl|(simp[getH];done)|(simp[getH];exact⟨rfl,rfl,rfl,rfl,rfl,rfl⟩)),⟨zae (by first|rfl|(simp;done)|(simp;omega)|(first|rfl|(simp;done)|(simp;exact⟨rfl,rfl,rfl,rfl,rfl,rfl⟩)|omega)),trivial⟩⟩⟩
 try simp only[Q] at h1p
 have hrest:rest=[]:=by
  rcases rest with _|⟨a,b⟩
  ·rfl
  ·exfalso;have hz:=congrArg List.length (hg1);simp only[List.length_append,List.length_cons,List.length_map] at hz;omega
 subst hrest
 refine Walk.store ty77 .none rfl rfl rfl rfl rfl rfl (by simp) rfl ?_
 refine tv ?_
 refine rn0 (.cons (.cellA ty77 rfl rfl rfl) .nil) (.agg (.cons (.eqd ?_) (.cons (.eqd ?_) (.cons (.eqd ?_) (.cons (.eqd ?_) (.cons (.eqd ?_) (.cons (.gld ?_) .nil)))))))
 rotate_left 6
 all_goals (first|rfl|(rw[List.append_nil] at hg1;subst hg1;rw[←Pat.cs_cd];all_goals rfl))
def zdK (n:Nat) (a b:Pat):Pat:=if a.op=3∧b.op≠1 then intQ (maxQ a.n b.n) (minQ a.m b.m) else zcV n a b
theorem zmy {n:Nat}{a b:Pat} (h:¬(a.op=3∧b.op≠1)):zdK n a b=zcV n a b:=if_neg h
theorem zou {n:Nat}{a b:Pat} (h:(zaW n a b).isSome=true):zdK n a b=zcV n a b:=by
 unfold zdK
 split
 ·rename_i h3
  cases n with
  |zero=>simp[zaW] at h
  |succ n=>
   have e:=zlx (n:=n) h3.1 h3.2
   rw[e] at h
   split at h
   ·rename_i hr
    rw[if_pos hr] at e
    exact(zcF e).symm
   ·cases h
 ·rfl
theorem zh2 {w:List Data} (hs:Spa w):∀(n m:Nat){t:Ty}{a b:Pat},m≤n→InS (w.length*4) t→zam w m t a=true→zam w m t b=true→
  FnD Tryz.prog 201 [.agg [.d (.i (a).op),.d (.i (a).ctor),.d (.i (a).n),.d (.i (a).m),.d (.i (a).var),.d (zad (a).kids)],.agg [.d (.i (b).op),.d (.i (b).ctor),.d (.i (b).n),.d (.i (b).m),.d (.i (b).var),.d (zad (b).kids)]] [] (.tup [.agg [.d (.i (zdK n a b).op),.d (.i (zdK n a b).ctor),.d (.i (zdK n a b).n),.d (.i (zdK n a b).m),.d (.i (zdK n a b).var),.d (zad (zdK n a b).kids)],.d (.bool (zaW n a b).isSome)]) []
 |n,0,t,a,b,_,_,ha,_=>by simp[zam] at ha
 |0,m+1,t,a,b,h,_,_,_=>by omega
 |n+1,m+1,t,a,b,hnm,ht,ha,hb=>by
  by_cases h1:a.op=1
  ·have e:=zlv (n:=n) (b:=b) h1
   rw[zmy (fun h=>by omega),zcF e,e]
   refine bd Tryz.f201 89 [] [] fun w0 F0 own kept hk=>?_
   refine Walk.box (id:=3002) .none rfl rfl rfl rfl rfl rfl rfl ?_
   refine Walk.box (id:=3003) .none rfl rfl rfl rfl rfl rfl rfl ?_
   refine Walk.alloc (id:=3004) tz77 rfl .none rfl rfl rfl rfl ?_
   refine ev ?_
   refine sq (fun h1 h1p h1s=>?_) fun h1 h1p h1s=>?_
   try simp only[Q] at h1p
   refine Walk.store ty77 .none rfl rfl rfl rfl rfl rfl (by simp) rfl ?_
   refine ev ?_
   refine rn0 (.cons (.cellA ty77 rfl rfl rfl) (.cons (.tmp rfl) .nil)) (.tup (.cons (.agg (.cons (.eqd ?_) (.cons (.eqd ?_) (.cons (.eqd ?_) (.cons (.eqd ?_) (.cons (.eqd ?_) (.cons (.eqd ?_) .nil))))))) (.cons (.eqd ?_) .nil)))
   rotate_left 7
   try simp only[Q] at h1p
   exfalso;omega
   all_goals (rfl)
  by_cases h2:b.op=1
  ·have e:=zlw (n:=n) h1 h2
   rw[zmy (fun h=>h.2 h2),zcF e,e]
   refine bd Tryz.f201 89 [] [] fun w0 F0 own kept hk=>?_
   refine Walk.box (id:=3002) .none rfl rfl rfl rfl rfl rfl rfl ?_
   refine Walk.box (id:=3003) .none rfl rfl rfl rfl rfl rfl rfl ?_
   refine Walk.alloc (id:=3004) tz77 rfl .none rfl rfl rfl rfl ?_
   refine ev ?_
   refine sq (fun h1 h1p h1s=>?_) fun h1 h1p h1s=>?_
   try simp only[Q] at h1p
   exfalso;omega
   try simp only[Q] at h1p
   refine sq (fun h2 h2p h2s=>?_) fun h2 h2p h2s=>?_
   try simp only[Q] at h2p
   refine Walk.store ty77 .none rfl rfl rfl rfl rfl rfl (by simp) rfl ?_
   refine ev ?_
   refine rn0 (.cons (.cellA ty77 rfl rfl rfl) (.cons (.tmp rfl) .nil)) (.tup (.cons (.agg (.cons (.eqd ?_) (.cons (.eqd ?_) (.cons (.eqd ?_) (.cons (.eqd ?_) (.cons (.eqd ?_) (.cons (.eqd ?_) .nil))))))) (.cons (.eqd ?_) .nil)))
   rotate_left 7
   try simp only[Q] at h2p
   exfalso;omega
   all_goals (rfl)
  by_cases h3:a.op=3
  ·have e:=zlx (n:=n) h3 h2
   have ez:zdK (n+1) a b=intQ (maxQ a.n b.n) (minQ a.m b.m):=if_pos ⟨h3,h2⟩
   have eb:(zaW (n+1) a b).isSome=decide (maxQ a.n b.n≤minQ a.m b.m):=by
    rw[e]
    by_cases hr:maxQ a.n b.n≤minQ a.m b.m
    ·rw[if_pos hr,decide_eq_true hr];rfl
    ·rw[if_neg hr,decide_eq_false hr];rfl
   rw[ez,eb]
   refine bd Tryz.f201 89 [] [] fun w0 F0 own kept hk=>?_
   refine Walk.box (id:=3002) .none rfl rfl rfl rfl rfl rfl rfl ?_
   refine Walk.box (id:=3003) .none rfl rfl rfl rfl rfl rfl rfl ?_
   refine Walk.alloc (id:=3004) tz77 rfl .none rfl rfl rfl rfl ?_
   refine ev ?_
   refine sq (fun h1 h1p h1s=>?_) fun h1 h1p h1s=>?_
   try simp only[Q] at h1p
   exfalso;omega
   try simp only[Q] at h1p
   refine sq (fun h2 h2p h2s=>?_) fun h2 h2p h2s=>?_
   try simp only[Q] at h2p
   exfalso;omega
   try simp only[Q] at h2p
   refine sq (fun h3 h3p h3s=>?_) fun h3 h3p h3s=>?_
   try simp only[Q] at h3p
   refine sq (fun h4 h4p h4s=>?_) fun h4 h4p h4s=>?_
   try simp only[Q] at h4p
   refine sq (fun h5 h5p h5s=>?_) fun h5 h5p h5s=>?_
   try simp only[Q] at h5p
   refine Walk.build st77 (ks:=[0,2,3]) (xs:=[_,_,_]) rfl rfl .none rfl rfl rfl ?_
   refine ev ?_
   refine Walk.store ty77 .none rfl rfl rfl rfl rfl rfl (by simp) rfl ?_
   refine ev ?_
   refine rn0 (.cons (.cellA ty77 rfl rfl rfl) (.cons (.tmp rfl) .nil)) (.tup (.cons (.agg (.cons (.eqd ?_) (.cons (.eqd ?_) (.cons (.eqd ?_) (.cons (.eqd ?_) (.cons (.eqd ?_) (.cons (.nild ?_) .nil))))))) (.cons (.eqd ?_) .nil)))
   rotate_left 7
   try simp only[Q] at h5p
   refine Walk.build st77 (ks:=[0,2,3]) (xs:=[_,_,_]) rfl rfl .none rfl rfl rfl ?_
   refine ev ?_
   refine Walk.store ty77 .none rfl rfl rfl rfl rfl rfl (by simp) rfl ?_
   refine ev ?_
   refine rn0 (.cons (.cellA ty77 rfl rfl rfl) (.cons (.tmp rfl) .nil)) (.tup (.cons (.agg (.cons (.eqd ?_) (.cons (.eqd ?_) (.cons (.eqd ?_) (.cons (.eqd ?_) (.cons (.eqd ?_) (.cons (.nild ?_) .nil))))))) (.cons (.eqd ?_) .nil)))
   rotate_left 7
   try simp only[Q] at h4p
   refine sq (fun h6 h6p h6s=>?_) fun h6 h6p h6s=>?_
   try simp only[Q] at h6p
   refine Walk.build st77 (ks:=[0,2,3]) (xs:=[_,_,_]) rfl rfl .none rfl rfl rfl ?_
   refine ev ?_
   refine Walk.store ty77 .none rfl rfl rfl rfl rfl rfl (by simp) rfl ?_
   refine ev ?_
   refine rn0 (.cons (.cellA ty77 rfl rfl rfl) (.cons (.tmp rfl) .nil)) (.tup (.cons (.agg (.cons (.eqd ?_) (.cons (.eqd ?_) (.cons (.eqd ?_) (.cons (.eqd ?_) (.cons (.eqd ?_) (.cons (.nild ?_) .nil))))))) (.cons (.eqd ?_) .nil)))
   rotate_left 7
   try simp only[Q] at h6p
   refine Walk.build st77 (ks:=[0,2,3]) (xs:=[_,_,_]) rfl rfl .none rfl rfl rfl ?_
   refine ev ?_
   refine Walk.store ty77 .none rfl rfl rfl rfl rfl rfl (by simp) rfl ?_
   refine ev ?_
   refine rn0 (.cons (.cellA ty77 rfl rfl rfl) (.cons (.tmp rfl) .nil)) (.tup (.cons (.agg (.cons (.eqd ?_) (.cons (.eqd ?_) (.cons (.eqd ?_) (.cons (.eqd ?_) (.cons (.eqd ?_) (.cons (.nild ?_) .nil))))))) (.cons (.eqd ?_) .nil)))
   rotate_left 7
   try simp only[Q] at h3p
   exfalso;omega
   all_goals (first|rfl|((try simp only[zds,zcB,mk_n,mk_m,zc4,zb1]);simp only[minQ,maxQ];(repeat' split)<;>first|rfl|(exfalso;omega)))
  have oa:=zck ha
  have h4:a.op=4:=by omega
  have h4b:b.op=4:=by have:=zdV ha hb h1 h2;omega
  have ez:zdK (n+1) a b=zcV (n+1) a b:=zmy (fun h=>h3 h.1)
  by_cases hc:a.ctor=b.ctor
  ·obtain⟨c1,c2,c3,-⟩:=zbh ha h4
   obtain⟨d1,d2,d3,-⟩:=zbh hb h4b
   rw[←hc] at d3
   have h3l:=hs.args t a.ctor ht c1
   have ka:=fun i (hi:i<a.kids.length)=>zbw ha hi
   have kb:=fun i (hi:i<b.kids.length)=>zbw hb hi
   rw[zbK h4] at ka
   rw[zbK h4b,←hc] at kb
   have e:=zly (n:=n) h4 h2 hc
   have hlen:a.kids.length=b.kids.length:=by omega
   have ih:=fun i (hi:i<a.kids.length)=>zh2 hs n m (t:=nth (zaj w t a.ctor) i) (a:=nth a.kids i) (b:=nth b.kids i) (by omega) (zcz hs.dp ht c1 _ (zal (by omega))) (ka i (by omega)) (kb i (by omega))
   have key:∀(i:Nat) (acc:List Pat),i<a.kids.length→(zaW n (nth a.kids i) (nth b.kids i)).isSome=true→zcN (zaW n) (a.kids.drop i) (b.kids.drop i) acc=zcN (zaW n) (a.kids.drop (i+1)) (b.kids.drop (i+1)) (acc++[zdK n (nth a.kids i) (nth b.kids i)]):=fun i acc hi h=>by
    rw[zou h];exact zlu hi (by omega) (zmz h)
   rw[ez]
   refine bd Tryz.f201 89 [] [] fun w0 F0 own kept hk=>?_
   refine Walk.box (id:=3002) .none rfl rfl rfl rfl rfl rfl rfl ?_
   refine Walk.box (id:=3003) .none rfl rfl rfl rfl rfl rfl rfl ?_
   refine Walk.alloc (id:=3004) tz77 rfl .none rfl rfl rfl rfl ?_
   refine ev ?_
   refine sq (fun h1 h1p h1s=>?_) fun h1 h1p h1s=>?_
   try simp only[Q,Pat.cs_len] at h1p
   exfalso;omega
   try simp only[Q,Pat.cs_len] at h1p
   refine sq (fun h2 h2p h2s=>?_) fun h2 h2p h2s=>?_
   try simp only[Q,Pat.cs_len] at h2p
   exfalso;omega
   try simp only[Q,Pat.cs_len] at h2p
   refine sq (fun h3 h3p h3s=>?_) fun h3 h3p h3s=>?_
   try simp only[Q,Pat.cs_len] at h3p
   exfalso;omega
   try simp only[Q,Pat.cs_len] at h3p
   refine sq (fun h4 h4p h4s=>?_) fun h4 h4p h4s=>?_
   try simp only[Q,Pat.cs_len] at h4p
   exfalso;omega
   try simp only[Q,Pat.cs_len] at h4p
   refine Walk.build st77 (ks:=[0,1]) (xs:=[_,_]) rfl rfl .none rfl rfl rfl ?_
   refine Walk.alloc (id:=3008) tz77 rfl .none rfl rfl rfl rfl ?_
   refine Walk.store ty77 .none rfl rfl rfl rfl rfl rfl (by simp) rfl ?_
   refine tv ?_
   refine CWp.tokB 3008 5 9 6 rfl rfl rfl rfl ?_
   refine CWp.loopX (ι:=Nat×List Pat) hk (fun x=>[(9,.d (.i (x.1:Int)))]) [5,10,11,58,59,60,61,62,63,64,65,66,67,68,69,70,71,72,73,74,75,76,77,78,79,80,81,82,83,84,85,86,87] (fun x=>[(3008,some (.box [.d (.i 4),.d (.i a.ctor),.d (.i 0),.d (.i 0),.d (.i 0),.gl 9 (x.2.map Pat.cc)])),(9,some (.tok (x.2.map Pat.cc).length 6))]) (fun x=>x.1≤a.kids.length∧x.2.length=x.1∧zcN (zaW n) (a.kids.drop x.1) (b.kids.drop x.1) x.2=zcN (zaW n) a.kids b.kids []) (fun x=>a.kids.length-x.1) (0,[]) ⟨by simp,rfl,rfl⟩ ⟨⟨_,rfl,(LeA.eqi (by first|rfl|(simp;done)|(simp_all;done)|omega))⟩,trivial⟩ ⟨(by first|rfl|(simp[getH];done)),⟨zae (by first|rfl|(simp;done)|(simp;omega)|(first|rfl|(simp;done)|(simp_all;done)|omega)),trivial⟩⟩ (fun x=>rfl) (fun x hg1=>?_)
   refine evc [] [] ?_
   refine sq (fun h5 h5p h5s=>?_) fun h5 h5p h5s=>?_
   try simp only[Q,Pat.cs_len] at h5p
   refine Walk.idx sl28 .none rfl rfl rfl rfl (zaK (by omega)) rfl ?_
   refine evd [] [] ?_
   refine Walk.idx sl28 .none rfl rfl rfl rfl (zaK (by omega)) rfl ?_
   refine evd [] [] ?_
   refine Walk.call (cr:=[]) zqr (ih x.1 (by omega)) rfl .none rfl rfl (LeL.refl _) trivial rfl rfl rfl ?_
   refine evd [] [] ?_
   refine Walk.alloc (id:=3010) tz77 rfl .none rfl rfl rfl rfl ?_
   refine Walk.store ty77 .none rfl rfl rfl rfl rfl rfl (by simp) rfl ?_
   refine evd [] [] ?_
   refine dr ?_
   refine sq (fun h6 h6p h6s=>?_) fun h6 h6p h6s=>?_
   try simp only[Q,Pat.cs_len] at h6p
   refine Walk.build st77 (ks:=[]) (xs:=[]) rfl rfl .none rfl rfl rfl ?_
   refine Walk.store ty77 .none rfl rfl rfl rfl rfl rfl (by simp) rfl ?_
   refine ev ?_
   refine rn0 (.cons (.cellA ty77 rfl rfl rfl) (.cons (.tmp rfl) .nil)) (.tup (.cons (.agg (.cons (.eqd ?_) (.cons (.eqd ?_) (.cons (.eqd ?_) (.cons (.eqd ?_) (.cons (.eqd ?_) (.cons (.nild ?_) .nil))))))) (.cons (.eqd ?_) .nil)))
   rotate_left 7
   try simp only[Q,Pat.cs_len] at h6p
   refine Walk.sliceLit sl28 tz77 rfl (by decide) (ks:=[0]) (xs:=[_]) rfl rfl (by decide) (by decide) .none rfl rfl rfl rfl ?_
   refine Walk.append sl28 zz77 rfl .none rfl rfl rfl rfl (zaG rfl (by first|rfl|(simp;done)|(simp;omega))) (by intro x hx;first|(simp at hx;subst hx;rfl)|exact zbI _ x hx) (by simp;omega) (by simp;omega) ?_
   refine ev ?_
   refine Walk.store ty28 .none rfl rfl rfl rfl rfl rfl (by simp) rfl ?_
   refine tv ?_
   refine ar ?_
   refine Exists.intro ((x.1+1,x.2++[zdK n (nth a.kids x.1) (nth b.kids x.1)])) ⟨⟨by dsimp only;omega,by dsimp only;rw[List.length_append,hg1.2.1];rfl,by dsimp only;rw[←key x.1 x.2 (by omega) (by assumption)];exact hg1.2.2⟩,(by dsimp only;omega),Sub.x (by kernel_rfl) (by kernel_rfl) ⟨⟨_,rfl,(LeA.eqi (by first|rfl|(simp;done)|(simp_all;done)|omega))⟩,trivial⟩ (by kernel_rfl) (by kernel_rfl) ⟨(by first|rfl|(simp[getH];done)),⟨zae (by first|rfl|(simp;done)|(simp;omega)|(first|rfl|(simp;done)|(simp_all;done)|omega)),trivial⟩⟩⟩
   try simp only[Q,Pat.cs_len] at h5p
   refine Walk.store ty77 .none rfl rfl rfl rfl rfl rfl (by simp) rfl ?_
   refine ev ?_
   refine rn0 (.cons (.cellA ty77 rfl rfl rfl) (.cons (.tmp rfl) .nil)) (.tup (.cons (.agg (.cons (.eqd ?_) (.cons (.eqd ?_) (.cons (.eqd ?_) (.cons (.eqd ?_) (.cons (.eqd ?_) (.cons (.gld ?_) .nil))))))) (.cons (.eqd ?_) .nil)))
   rotate_left 7
   all_goals (first|(have e2:zaW (n+1) a b=none:=(by rw[e,←hg1.2.2,zlt (by omega) (by omega) (zmA (by assumption))];rfl);(first|rw[zfk e2]|rw[e2]);all_goals rfl)|(have e2:zaW (n+1) a b=some (zb8 a.ctor x.2):=(by rw[e,←hg1.2.2,zeX (by omega)];rfl);rw[zcF e2,Pat.cs_cd];all_goals rfl)|(have e2:zaW (n+1) a b=some (zb8 a.ctor x.2):=(by rw[e,←hg1.2.2,zeX (by omega)];rfl);rw[zcF e2];all_goals rfl)|(have e2:zaW (n+1) a b=some (zb8 a.ctor x.2):=(by rw[e,←hg1.2.2,zeX (by omega)];rfl);rw[e2];all_goals rfl))
  ·skip
   have e:=zjK (n:=n) h4 h2 hc
   rw[ez,zfk e,e]
   refine bd Tryz.f201 89 [] [] fun w0 F0 own kept hk=>?_
   refine Walk.box (id:=3002) .none rfl rfl rfl rfl rfl rfl rfl ?_
   refine Walk.box (id:=3003) .none rfl rfl rfl rfl rfl rfl rfl ?_
   refine Walk.alloc (id:=3004) tz77 rfl .none rfl rfl rfl rfl ?_
   refine ev ?_
   refine sq (fun h1 h1p h1s=>?_) fun h1 h1p h1s=>?_
   try simp only[Q] at h1p
   exfalso;omega
   try simp only[Q] at h1p
   refine sq (fun h2 h2p h2s=>?_) fun h2 h2p h2s=>?_
   try simp only[Q] at h2p
   exfalso;omega
   try simp only[Q] at h2p
   refine sq (fun h3 h3p h3s=>?_) fun h3 h3p h3s=>?_
   try simp only[Q] at h3p
   exfalso;omega
   try simp only[Q] at h3p
   refine sq (fun h4 h4p h4s=>?_) fun h4 h4p h4s=>?_
   try simp only[Q] at h4p
   refine Walk.build st77 (ks:=[]) (xs:=[]) rfl rfl .none rfl rfl rfl ?_
   refine Walk.store ty77 .none rfl rfl rfl rfl rfl rfl (by simp) rfl ?_
   refine ev ?_
   refine rn0 (.cons (.cellA ty77 rfl rfl rfl) (.cons (.tmp rfl) .nil)) (.tup (.cons (.agg (.cons (.eqd ?_) (.cons (.eqd ?_) (.cons (.eqd ?_) (.cons (.eqd ?_) (.cons (.eqd ?_) (.cons (.nild ?_) .nil))))))) (.cons (.eqd ?_) .nil)))
   rotate_left 7
   try simp only[Q] at h4p
   exfalso;omega
   all_goals (rfl)
theorem zox {f:Ty→Pat→Pat→List Pat}{c:Int}{ts:List Ty}{xs bs front:List Pat}{i:Nat} (h1:i<ts.length) (h2:i<xs.length) (h3:i<bs.length) (h:(zaW 11 (nth xs i) (nth bs i)).isSome=true):
  zbk f c (ts.drop i) (xs.drop i) (bs.drop i) front=(f (nth ts i) (nth xs i) (nth bs i)).map (fun z=>zb8 c (front++[z]++xs.drop (i+1)))++zbk f c (ts.drop (i+1)) (xs.drop (i+1)) (bs.drop (i+1)) (front++[zdK 11 (nth xs i) (nth bs i)]):=by
 rw[zou h];exact zkb h1 h2 h3 h
theorem zcO (c:Int) (L:List Pat):Pat.cc (zb8 c L)=[D.i 4,D.i c,D.i 0,D.i 0,D.i 0,D.sl (L.map Pat.cc)]:=by
 show [D.i 4,D.i c,D.i 0,D.i 0,D.i 0,D.sl (Pat.cs L)]=_
 rw[Pat.cs_cd]
section
variable {w:List Data}
abbrev MinusSp (w:List Data) (n:Nat) (ta tk:Int) (a b:Pat):Prop:=
 FnD Tryz.prog 109 [.d (zao w),.agg [.d (.i ta),.d (.i tk)],.agg [.d (.i (a).op),.d (.i (a).ctor),.d (.i (a).n),.d (.i (a).m),.d (.i (a).var),.d (zad (a).kids)],.agg [.d (.i (b).op),.d (.i (b).ctor),.d (.i (b).n),.d (.i (b).m),.d (.i (b).var),.d (zad (b).kids)]] [] (.d (zad (zav w n ⟨ta,tk⟩ a b))) []
theorem zmK (hs:Spa w){n m:Nat} (hn:n+1≤10) (hm:m+1≤11) (hnm:n<m)
  (ih:∀ {ta tk:Int}{a b:Pat},InS (w.length*4) ⟨ta,tk⟩→zam w m ⟨ta,tk⟩ a=true→zam w n ⟨ta,tk⟩ b=true→MinusSp w n ta tk a b)
  {ta tk:Int}{a b:Pat} (ht:InS (w.length*4) ⟨ta,tk⟩) (ha:zam w (m+1) ⟨ta,tk⟩ a=true) (hb:zam w (n+1) ⟨ta,tk⟩ b=true) (h4:a.op=4) (h4b:b.op=4) (hc:a.ctor=b.ctor):
  FnD Tryz.prog 169 [.d (zao w),.agg [.d (.i ta),.d (.i tk)],.agg [.d (.i (a).op),.d (.i (a).ctor),.d (.i (a).n),.d (.i (a).m),.d (.i (a).var),.d (zad (a).kids)],.agg [.d (.i (b).op),.d (.i (b).ctor),.d (.i (b).n),.d (.i (b).m),.d (.i (b).var),.d (zad (b).kids)]] [] (.d (zad (zav w (n+1) ⟨ta,tk⟩ a b))) []:=by
 obtain⟨c1,c2,c3,-⟩:=zbh ha h4
 obtain⟨d1,d2,d3,-⟩:=zbh hb h4b
 rw[←hc] at d3
 have h3l:=hs.args ⟨ta,tk⟩ a.ctor ht c1
 have ka:=fun i (hi:i<a.kids.length)=>zbw ha hi
 have kb:=fun i (hi:i<b.kids.length)=>zbw hb hi
 rw[zbK h4] at ka
 rw[zbK h4b,←hc] at kb
 have hbd:=zfB hs (n:=n+1) (m:=m+1) (by omega) hn ht ha hb
 have e:zav w (n+1) ⟨ta,tk⟩ a b=zbk (zav w n) a.ctor (zaj w ⟨ta,tk⟩ a.ctor) a.kids b.kids []:=by rw[zen h4b h4];exact if_pos hc
 have hins:=fun i (hi:i<(zaj w ⟨ta,tk⟩ a.ctor).length)=>zcz hs.dp ht c1 _ (zal hi)
 have hmi:∀i,i<(zaj w ⟨ta,tk⟩ a.ctor).length→FnD Tryz.prog 109 [.d (zao w),.agg [.d (.i (nth (zaj w ⟨ta,tk⟩ a.ctor) i).data),.d (.i (nth (zaj w ⟨ta,tk⟩ a.ctor) i).index)],.agg [.d (.i (nth a.kids i).op),.d (.i (nth a.kids i).ctor),.d (.i (nth a.kids i).n),.d (.i (nth a.kids i).m),.d (.i (nth a.kids i).var),.d (zad (nth a.kids i).kids)],.agg [.d (.i (nth b.kids i).op),.d (.i (nth b.kids i).ctor),.d (.i (nth b.kids i).n),.d (.i (nth b.kids i).m),.d (.i (nth b.kids i).var),.d (zad (nth b.kids i).kids)]] [] (.d (zad (zav w n (nth (zaj w ⟨ta,tk⟩ a.ctor) i) (nth a.kids i) (nth b.kids i)))) []:=fun i hi=>ih (ta:=(nth (zaj w ⟨ta,tk⟩ a.ctor) i).data) (tk:=(nth (zaj w ⟨ta,tk⟩ a.ctor) i).index) (hins i hi) (ka i (by omega)) (kb i (by omega))
 have hme:=fun i (hi:i<(zaj w ⟨ta,tk⟩ a.ctor).length)=>zh2 hs 11 m (t:=nth (zaj w ⟨ta,tk⟩ a.ctor) i) (by omega) (hins i hi) (ka i (by omega)) (zjM (by omega) (kb i (by omega)))
 rw[e] at hbd ⊢
 have hT:∀i out front,i<(zaj w ⟨ta,tk⟩ a.ctor).length→out++zbk (zav w n) a.ctor ((zaj w ⟨ta,tk⟩ a.ctor).drop i) (a.kids.drop i) (b.kids.drop i) front=zbk (zav w n) a.ctor (zaj w ⟨ta,tk⟩ a.ctor) a.kids b.kids []→
   out.length+(zav w n (nth (zaj w ⟨ta,tk⟩ a.ctor) i) (nth a.kids i) (nth b.kids i)).length≤20000000:=fun i out front hi h=>by
  rw[zhl hi (by omega) (by omega)] at h
  have:=congrArg List.length h
  simp only[List.length_append,List.length_map] at this
  omega
 refine bd Tryz.f169 100 [] [] fun w0 F0 own kept hk=>?_
 refine Walk.box (id:=3005) .none rfl rfl rfl rfl rfl rfl rfl ?_
 refine Walk.box (id:=3006) .none rfl rfl rfl rfl rfl rfl rfl ?_
 refine Walk.box (id:=3007) .none rfl rfl rfl rfl rfl rfl rfl ?_
 refine ev ?_
 refine Walk.sliceEmptyG 9 sl28 .none rfl rfl ?_
 refine ev ?_
 refine Walk.call (cr:=[]) ziX (zdR hs.dp.wt (zcR ht) c1) rfl .none rfl rfl (LeL.refl _) trivial rfl rfl rfl ?_
 refine ev ?_
 refine Walk.sliceEmptyG 8 sl28 .none rfl rfl ?_
 refine ev ?_
 refine CWp.loopX (ι:=Nat×List Pat×List Pat) hk (fun s=>[(12,.d (.i (s.1:Int))),(9,.gl 9 (s.2.1.map Pat.cc)),(11,.gl 8 (s.2.2.map Pat.cc))]) [8,13,14,15,16,17,25,26,27,28,29,30,31,32,33,34,35,36,37,38,39,40,41,42,43,44,45,46,47,48,49,50,51,52,53,54,55,56,57,58,59,60,61,62,63,64,65,66,67,68,69,70,71,72,73,74,75,76,77,78,79,80,81,82,83,84,85,86,87,88,89,90,91,92,93,94,95,96,97,98] (fun s=>[(9,some (.tok ((s.2.1.map Pat.cc)).length 6)),(8,some (.tok ((s.2.2.map Pat.cc)).length 6))]) (fun s=>s.1≤a.kids.length∧s.2.2.length=s.1∧s.2.1++zbk (zav w n) a.ctor ((zaj w ⟨ta,tk⟩ a.ctor).drop s.1) (a.kids.drop s.1) (b.kids.drop s.1) s.2.2=zbk (zav w n) a.ctor (zaj w ⟨ta,tk⟩ a.ctor) a.kids b.kids []) (fun s=>a.kids.length-s.1) (0,[],[]) ⟨by simp,rfl,rfl⟩ ⟨⟨_,rfl,(LeA.eqi (by first|rfl|(simp;done)|(simp_all;done)|omega))⟩,⟨⟨_,rfl,(LeA.glg (by first|rfl|(simp;done)|(simp_all;done)|omega))⟩,⟨⟨_,rfl,(LeA.glg (by first|rfl|(simp;done)|(simp_all;done)|omega))⟩,trivial⟩⟩⟩ ⟨zae (by first|rfl|(simp;done)|(simp;omega)|(first|rfl|(simp;done)|(simp_all;done)|omega)),⟨zae (by first|rfl|(simp;done)|(simp;omega)|(first|rfl|(simp;done)|(simp_all;done)|omega)),trivial⟩⟩ (fun x=>rfl) (fun s hg1=>?_)
 refine evc [] [] ?_
 refine sq (fun h1 h1p h1s=>?_) fun h1 h1p h1s=>?_
 try simp only[Q,Pat.cs_len] at h1p
 refine Walk.idx zbf .none rfl rfl rfl rfl (zay (by omega)) rfl ?_
 refine evd [] [] ?_
 refine Walk.idx sl28 .none rfl rfl rfl rfl (zaK (by omega)) rfl ?_
 refine evd [] [] ?_
 refine Walk.idx sl28 .none rfl rfl rfl rfl (zaK (by omega)) rfl ?_
 refine evd [] [] ?_
 refine Walk.call (cr:=[]) zn0 (hmi s.1 (by omega)) rfl .none rfl rfl (LeL.refl _) trivial rfl rfl rfl ?_
 refine evd [] [] ?_
 refine dr ?_
 refine CWp.loopX (ι:=List (Pat)×List (Pat)) hk (fun x=>[(14,.d (.i (x.1.length:Int))),(9,.gl 9 ((s.2.1++x.1.map (fun z=>zb8 a.ctor (s.2.2++[z]++a.kids.drop (s.1+1)))).map Pat.cc))]) [15,47,48,49,50,51,52,53,54,55,56,57,58,59,60,61,62,63,64,65,66,67,68,69,70,71,72,73,74,75,76,77] (fun x=>[(9,some (.tok (((s.2.1++x.1.map (fun z=>zb8 a.ctor (s.2.2++[z]++a.kids.drop (s.1+1)))).map Pat.cc)).length 6))]) (fun x=>x.1++x.2=(zav w n (nth (zaj w ⟨ta,tk⟩ a.ctor) s.1) (nth a.kids s.1) (nth b.kids s.1))) (fun x=>x.2.length) ([],(zav w n (nth (zaj w ⟨ta,tk⟩ a.ctor) s.1) (nth a.kids s.1) (nth b.kids s.1))) (by simp) ⟨⟨_,rfl,(LeA.eqi (by first|rfl|(simp;done)|(simp only[List.map_append,List.append_assoc,List.map_cons,List.map_nil,zcO,Pat.cs_cd a.kids,List.map_drop,List.nil_append,List.cons_append];done)|(simp only[List.map_append,List.append_assoc,List.map_cons,List.map_nil,zcO,Pat.cs_cd a.kids,List.map_drop,List.nil_append,List.cons_append];rfl)|(rw[List.append_nil] at hg2;rw[hg2];done)|omega))⟩,⟨⟨_,rfl,(LeA.glg (by first|rfl|(simp;done)|(simp only[List.map_append,List.append_assoc,List.map_cons,List.map_nil,zcO,Pat.cs_cd a.kids,List.map_drop,List.nil_append,List.cons_append];done)|(simp only[List.map_append,List.append_assoc,List.map_cons,List.map_nil,zcO,Pat.cs_cd a.kids,List.map_drop,List.nil_append,List.cons_append];rfl)|(rw[List.append_nil] at hg2;rw[hg2];done)|omega))⟩,trivial⟩⟩ ⟨zae (by first|rfl|(simp;done)|(simp;omega)|(first|rfl|(simp;done)|(simp only[List.map_append,List.append_assoc,List.map_cons,List.map_nil,zcO,Pat.cs_cd a.kids,List.map_drop,List.nil_append,List.cons_append];done)|(simp only[List.map_append,List.append_assoc,List.map_cons,List.map_nil,zcO,Pat.cs_cd a.kids,List.map_drop,List.nil_append,List.cons_append];rfl)|(rw[List.append_nil] at hg2;rw[hg2];done)|omega)),trivial⟩ (fun x=>rfl) (fun x hg2=>?_)
 obtain⟨pre,rest⟩:=x
 dsimp only at hg2 ⊢
 refine evc [] [] ?_
 refine sq (fun h2 h2p h2s=>?_) fun h2 h2p h2s=>?_
 try simp only[Q,Pat.cs_len] at h2p
 rcases rest with _|⟨y,rest⟩
 ·exfalso;simp_all
 refine Walk.sliceEmptyG 7 sl28 .none rfl rfl ?_
 refine evd [] [] ?_
 refine Walk.append sl28 zz77 rfl .none rfl rfl rfl rfl (zaG rfl (by first|rfl|(simp;done)|(simp;omega))) (by intro x hx;first|(simp at hx;subst hx;rfl)|exact zbI _ x hx|exact zbm _ x hx|exact zbm _ x (List.mem_of_mem_drop hx)) (by first|(have h9:=hT s.1 s.2.1 s.2.2 (by omega) hg1.2.2;have h8:=congrArg List.length hg2;simp[Pat.cs_len] at h8 ⊢;omega)|(simp[Pat.cs_len];omega)) (by first|(have h9:=hT s.1 s.2.1 s.2.2 (by omega) hg1.2.2;have h8:=congrArg List.length hg2;simp[Pat.cs_len] at h8 ⊢;omega)|(simp[Pat.cs_len];omega)) ?_
 refine evd [] [] ?_
 refine Walk.idx sl28 .none rfl rfl rfl rfl (Pat.cs_at' hg2) rfl ?_
 refine evd [] [] ?_
 refine Walk.sliceLit sl28 tz77 rfl (by decide) (ks:=[0]) (xs:=[_]) rfl rfl (by decide) (by decide) .none rfl rfl rfl rfl ?_
 refine Walk.append sl28 zz77 rfl .none rfl rfl rfl rfl (zaG rfl (by first|rfl|(simp;done)|(simp;omega))) (by intro x hx;first|(simp at hx;subst hx;rfl)|exact zbI _ x hx|exact zbm _ x hx|exact zbm _ x (List.mem_of_mem_drop hx)) (by first|(have h9:=hT s.1 s.2.1 s.2.2 (by omega) hg1.2.2;have h8:=congrArg List.length hg2;simp[Pat.cs_len] at h8 ⊢;omega)|(simp[Pat.cs_len];omega)) (by first|(have h9:=hT s.1 s.2.1 s.2.2 (by omega) hg1.2.2;have h8:=congrArg List.length hg2;simp[Pat.cs_len] at h8 ⊢;omega)|(simp[Pat.cs_len];omega)) ?_
 refine Walk.build st77 (ks:=[0,1,5]) (xs:=[_,_,_]) rfl rfl .none rfl rfl rfl ?_
 refine Walk.alloc (id:=3015) tz77 rfl .none rfl rfl rfl rfl ?_
 refine Walk.store ty77 .none rfl rfl rfl rfl rfl rfl (by simp) rfl ?_
 refine dr ?_
 refine ar ?_ (by first|(constructor<;>omega)|(have h9:=hT s.1 s.2.1 s.2.2 (by omega) hg1.2.2;have h8:=congrArg List.length hg2;simp only[List.length_append,List.length_cons] at h8;constructor<;>omega))
 refine Walk.cut_l (b:=s.1+1) sl28 .none rfl rfl rfl (by intro x hx;first|(simp at hx;subst hx;rfl)|exact zbI _ x hx|exact zbm _ x hx|exact zbm _ x (List.mem_of_mem_drop hx)) rfl rfl (by simp only[Pat.cs_len];omega) ?_
 refine Walk.append sl28 zz77 rfl .none rfl rfl rfl rfl (zaG rfl (by first|rfl|(simp;done)|(simp;omega))) (by intro x hx;first|(simp at hx;subst hx;rfl)|exact zbI _ x hx|exact zbm _ x hx|exact zbm _ x (List.mem_of_mem_drop hx)) (by first|(have h9:=hT s.1 s.2.1 s.2.2 (by omega) hg1.2.2;have h8:=congrArg List.length hg2;simp[Pat.cs_len] at h8 ⊢;omega)|(simp[Pat.cs_len];omega)) (by first|(have h9:=hT s.1 s.2.1 s.2.2 (by omega) hg1.2.2;have h8:=congrArg List.length hg2;simp[Pat.cs_len] at h8 ⊢;omega)|(simp[Pat.cs_len];omega)) ?_
 refine evd [] [] ?_
 refine Walk.store ty28 .none rfl rfl rfl rfl rfl rfl (by simp) rfl ?_
 refine dr ?_
 refine Walk.sliceLit sl28 tz77 rfl (by decide) (ks:=[0]) (xs:=[_]) rfl rfl (by decide) (by decide) .none rfl rfl rfl rfl ?_
 refine Walk.append sl28 zz77 rfl .none rfl rfl rfl rfl (zaG rfl (by first|rfl|(simp;done)|(simp;omega))) (by intro x hx;first|(simp at hx;subst hx;rfl)|exact zbI _ x hx|exact zbm _ x hx|exact zbm _ x (List.mem_of_mem_drop hx)) (by first|(have h9:=hT s.1 s.2.1 s.2.2 (by omega) hg1.2.2;have h8:=congrArg List.length hg2;simp[Pat.cs_len] at h8 ⊢;omega)|(simp[Pat.cs_len];omega)) (by first|(have h9:=hT s.1 s.2.1 s.2.2 (by omega) hg1.2.2;have h8:=congrArg List.length hg2;simp[Pat.cs_len] at h8 ⊢;omega)|(simp[Pat.cs_len];omega)) ?_
 refine ev ?_
 refine ar ?_ (by first|(constructor<;>omega)|(have h9:=hT s.1 s.2.1 s.2.2 (by omega) hg1.2.2;have h8:=congrArg List.length hg2;simp only[List.length_append,List.length_cons] at h8;constructor<;>omega))
 refine Exists.intro ((pre++[y],rest)) ⟨(by have hz:=hg2;rw[←hz];simp),(by simp),Sub.x (by kernel_rfl) (by kernel_rfl) ⟨⟨_,rfl,(LeA.eqi (by first|rfl|(simp;done)|(simp only[List.map_append,List.append_assoc,List.map_cons,List.map_nil,zcO,Pat.cs_cd a.kids,List.map_drop,List.nil_append,List.cons_append];done)|(simp only[List.map_append,List.append_assoc,List.map_cons,List.map_nil,zcO,Pat.cs_cd a.kids,List.map_drop,List.nil_append,List.cons_append];rfl)|(rw[List.append_nil] at hg2;rw[hg2];done)|omega))⟩,⟨⟨_,rfl,(LeA.glg (by first|rfl|(simp;done)|(simp only[List.map_append,List.append_assoc,List.map_cons,List.map_nil,zcO,Pat.cs_cd a.kids,List.map_drop,List.nil_append,List.cons_append];done)|(simp only[List.map_append,List.append_assoc,List.map_cons,List.map_nil,zcO,Pat.cs_cd a.kids,List.map_drop,List.nil_append,List.cons_append];rfl)|(rw[List.append_nil] at hg2;rw[hg2];done)|omega))⟩,trivial⟩⟩ (by kernel_rfl) (by kernel_rfl) ⟨zae (by first|rfl|(simp;done)|(simp;omega)|(first|rfl|(simp;done)|(simp only[List.map_append,List.append_assoc,List.map_cons,List.map_nil,zcO,Pat.cs_cd a.kids,List.map_drop,List.nil_append,List.cons_append];done)|(simp only[List.map_append,List.append_assoc,List.map_cons,List.map_nil,zcO,Pat.cs_cd a.kids,List.map_drop,List.nil_append,List.cons_append];rfl)|(rw[List.append_nil] at hg2;rw[hg2];done)|omega)),trivial⟩⟩
 try simp only[Q,Pat.cs_len] at h2p
 have hrest:rest=[]:=by
  rcases rest with _|⟨a,b⟩
  ·rfl
  ·exfalso;have hz:=congrArg List.length (hg2);simp only[List.length_append,List.length_cons,List.length_map] at hz;omega
 subst hrest
 refine Walk.idx sl28 .none rfl rfl rfl rfl (zaK (by omega)) rfl ?_
 refine evd [] [] ?_
 refine Walk.idx sl28 .none rfl rfl rfl rfl (zaK (by omega)) rfl ?_
 refine evd [] [] ?_
 refine Walk.call (cr:=[]) zqr (hme s.1 (by omega)) rfl .none rfl rfl (LeL.refl _) trivial rfl rfl rfl ?_
 refine evd [] [] ?_
 refine Walk.alloc (id:=3016) tz77 rfl .none rfl rfl rfl rfl ?_
 refine Walk.store ty77 .none rfl rfl rfl rfl rfl rfl (by simp) rfl ?_
 refine evd [] [] ?_
 refine dr ?_
 refine sq (fun h3 h3p h3s=>?_) fun h3 h3p h3s=>?_
 try simp only[Q,Pat.cs_len] at h3p
 refine rn0 (r1 rfl) (.gld ?_)
 rotate_left
 try simp only[Q,Pat.cs_len] at h3p
 refine Walk.sliceLit sl28 tz77 rfl (by decide) (ks:=[0]) (xs:=[_]) rfl rfl (by decide) (by decide) .none rfl rfl rfl rfl ?_
 refine Walk.append sl28 zz77 rfl .none rfl rfl rfl rfl (zaG rfl (by first|rfl|(simp;done)|(simp;omega))) (by intro x hx;first|(simp at hx;subst hx;rfl)|exact zbI _ x hx|exact zbm _ x hx|exact zbm _ x (List.mem_of_mem_drop hx)) (by first|(have h9:=hT s.1 s.2.1 s.2.2 (by omega) hg1.2.2;have h8:=congrArg List.length hg2;simp[Pat.cs_len] at h8 ⊢;omega)|(simp[Pat.cs_len];omega)) (by first|(have h9:=hT s.1 s.2.1 s.2.2 (by omega) hg1.2.2;have h8:=congrArg List.length hg2;simp[Pat.cs_len] at h8 ⊢;omega)|(simp[Pat.cs_len];omega)) ?_
 refine ev ?_
 refine ar ?_ (by first|(constructor<;>omega)|(have h9:=hT s.1 s.2.1 s.2.2 (by omega) hg1.2.2;have h8:=congrArg List.length hg2;simp only[List.length_append,List.length_cons] at h8;constructor<;>omega))
 refine Exists.intro ((s.1+1,s.2.1++(zav w n (nth (zaj w ⟨ta,tk⟩ a.ctor) s.1) (nth a.kids s.1) (nth b.kids s.1)).map (fun z=>zb8 a.ctor (s.2.2++[z]++a.kids.drop (s.1+1))),s.2.2++[zdK 11 (nth a.kids s.1) (nth b.kids s.1)])) ⟨⟨by dsimp only;omega,by dsimp only;rw[List.length_append,hg1.2.1];rfl,by dsimp only;rw[List.append_assoc,←zox (by omega) (by omega) (by omega) (by assumption)];exact hg1.2.2⟩,(by dsimp only;omega),Sub.x (by kernel_rfl) (by kernel_rfl) ⟨⟨_,rfl,(LeA.eqi (by first|rfl|(simp;done)|(simp_all;done)|omega))⟩,⟨⟨_,rfl,(LeA.glg (by first|rfl|(simp;done)|(simp_all;done)|omega))⟩,⟨⟨_,rfl,(LeA.glg (by first|rfl|(simp;done)|(simp_all;done)|omega))⟩,trivial⟩⟩⟩ (by kernel_rfl) (by kernel_rfl) ⟨zae (by first|rfl|(simp;done)|(simp;omega)|(first|rfl|(simp;done)|(simp_all;done)|omega)),⟨zae (by first|rfl|(simp;done)|(simp;omega)|(first|rfl|(simp;done)|(simp_all;done)|omega)),trivial⟩⟩⟩
 try simp only[Q,Pat.cs_len] at h1p
 refine rn0 (r1 rfl) (.gld ?_)
 rotate_left
 all_goals (first|rfl|(rw[←hg1.2.2,zlz (by omega),List.append_nil,Pat.cs_cd];done)|(rw[List.append_nil] at hg2;rw[←hg1.2.2,zka (by omega) (by omega) (by omega) (by assumption),←hg2,Pat.cs_cd];all_goals rfl))
theorem zoO {n:Nat}{ta tk:Int}{a b:Pat} (h:b.op=1):MinusSp w (n+1) ta tk a b:=by
 unfold MinusSp
 rw[zhS h]
 refine bd Tryz.f109 82 [] [] fun w0 F0 own kept hk=>?_
 refine Walk.box (id:=3005) .none rfl rfl rfl rfl rfl rfl rfl ?_
 refine Walk.box (id:=3006) .none rfl rfl rfl rfl rfl rfl rfl ?_
 refine Walk.box (id:=3007) .none rfl rfl rfl rfl rfl rfl rfl ?_
 refine ev ?_
 refine sq (fun h1 h1p h1s=>?_) fun h1 h1p h1s=>?_
 try simp only[Q] at h1p
 refine Walk.sliceEmpty sl28 .none rfl ?_
 refine ev ?_
 refine rn0 (r1 rfl) (.eqd ?_)
 rotate_left
 try simp only[Q] at h1p
 exfalso;omega
 all_goals (rfl)
theorem zoP {n:Nat}{ta tk:Int}{a b:Pat} (h:b.op=3) (ha:a.op=1∨a.op=3) (hbn:0≤b.n∧b.n≤9) (hbm:0≤b.m∧b.m≤9):MinusSp w (n+1) ta tk a b:=by
 unfold MinusSp
 rw[zjL h]
 by_cases h1:a.op=1
 ·have e:zeD a b=zcm 0 (minQ 9 (b.n-1))++zcm (maxQ 0 (b.m+1)) 9:=by
   have e1:lowQ a=0:=if_pos h1
   have e2:zdc a=9:=if_pos h1
   unfold zeD;rw[e1,e2]
  have hr:=zgY (a:=intQ 0 9) hbn hbm
  rw[e]
  refine bd Tryz.f109 82 [] [] fun w0 F0 own kept hk=>?_
  refine Walk.box (id:=3005) .none rfl rfl rfl rfl rfl rfl rfl ?_
  refine Walk.box (id:=3006) .none rfl rfl rfl rfl rfl rfl rfl ?_
  refine Walk.box (id:=3007) .none rfl rfl rfl rfl rfl rfl rfl ?_
  refine ev ?_
  refine sq (fun h1 h1p h1s=>?_) fun h1 h1p h1s=>?_
  try simp only[Q] at h1p
  exfalso;omega
  try simp only[Q] at h1p
  refine sq (fun h2 h2p h2s=>?_) fun h2 h2p h2s=>?_
  try simp only[Q] at h2p
  refine sq (fun h3 h3p h3s=>?_) fun h3 h3p h3s=>?_
  try simp only[Q] at h3p
  refine Walk.build st77 (ks:=[0,3]) (xs:=[_,_]) rfl rfl .none rfl rfl rfl ?_
  refine ev ?_
  refine Walk.call (cr:=[]) zqk (hr) rfl .none rfl rfl (.cons (.agg (.cons (.refl _) (.cons (.refl _) (.cons (.refl _) (.cons (.refl _) (.cons (.refl _) (.cons .nil .nil))))))) (.cons (.refl _) .nil)) trivial rfl rfl rfl ?_
  refine ev ?_
  focus (refine rn0 (r1 rfl) (.eqd ?_);all_goals (first|rfl|(simp[h1s,h1p,h2s,h2p,h3s,h3p];done)|(simp_all;done)|(simp_all;omega)|omega))
  try simp only[Q] at h3p
  exfalso;first|omega|(simp_all;done)
  try simp only[Q] at h2p
  exfalso;omega
 ·have e:zeD a b=zcm a.n (minQ a.m (b.n-1))++zcm (maxQ a.n (b.m+1)) a.m:=by
   have e1:lowQ a=a.n:=if_neg h1
   have e2:zdc a=a.m:=if_neg h1
   unfold zeD;rw[e1,e2]
  have hr:=zgY (a:=a) hbn hbm
  rw[e]
  refine bd Tryz.f109 82 [] [] fun w0 F0 own kept hk=>?_
  refine Walk.box (id:=3005) .none rfl rfl rfl rfl rfl rfl rfl ?_
  refine Walk.box (id:=3006) .none rfl rfl rfl rfl rfl rfl rfl ?_
  refine Walk.box (id:=3007) .none rfl rfl rfl rfl rfl rfl rfl ?_
  refine ev ?_
  refine sq (fun h1 h1p h1s=>?_) fun h1 h1p h1s=>?_
  try simp only[Q] at h1p
  exfalso;omega
  try simp only[Q] at h1p
  refine sq (fun h2 h2p h2s=>?_) fun h2 h2p h2s=>?_
  try simp only[Q] at h2p
  refine sq (fun h3 h3p h3s=>?_) fun h3 h3p h3s=>?_
  try simp only[Q] at h3p
  exfalso;first|omega|(simp_all;done)
  try simp only[Q] at h3p
  refine sq (fun h4 h4p h4s=>?_) fun h4 h4p h4s=>?_
  try simp only[Q] at h4p
  refine Walk.call (cr:=[]) zqk (hr) rfl .none rfl rfl (LeL.refl _) trivial rfl rfl rfl ?_
  refine ev ?_
  focus (refine rn0 (r1 rfl) (.eqd ?_);all_goals (first|rfl|(simp[h1s,h1p,h2s,h2p,h3s,h3p,h4s,h4p];done)|(simp_all;done)|(simp_all;omega)|omega))
  try simp only[Q] at h4p
  exfalso;omega
  try simp only[Q] at h2p
  exfalso;omega
theorem zoS {n:Nat}{ta tk:Int}{a b:Pat} (h4:a.op=4) (h4b:b.op=4) (hc:¬a.ctor=b.ctor):MinusSp w (n+1) ta tk a b:=by
 unfold MinusSp
 have e:zav w (n+1) ⟨ta,tk⟩ a b=[a]:=by rw[zen h4b h4];exact if_neg hc
 rw[e]
 refine bd Tryz.f109 82 [] [] fun w0 F0 own kept hk=>?_
 refine Walk.box (id:=3005) .none rfl rfl rfl rfl rfl rfl rfl ?_
 refine Walk.box (id:=3006) .none rfl rfl rfl rfl rfl rfl rfl ?_
 refine Walk.box (id:=3007) .none rfl rfl rfl rfl rfl rfl rfl ?_
 refine ev ?_
 refine sq (fun h1 h1p h1s=>?_) fun h1 h1p h1s=>?_
 try simp only[Q] at h1p
 exfalso;omega
 try simp only[Q] at h1p
 refine sq (fun h2 h2p h2s=>?_) fun h2 h2p h2s=>?_
 try simp only[Q] at h2p
 exfalso;omega
 try simp only[Q] at h2p
 refine sqF ?_
 refine sq (fun h4 h4p h4s=>?_) fun h4 h4p h4s=>?_
 try simp only[Q] at h4p
 exfalso;omega
 try simp only[Q] at h4p
 refine sq (fun h5 h5p h5s=>?_) fun h5 h5p h5s=>?_
 try simp only[Q] at h5p
 refine sq (fun h6 h6p h6s=>?_) fun h6 h6p h6s=>?_
 try simp only[Q] at h6p
 refine Walk.sliceLit sl28 tz77 rfl (by decide) (ks:=[0]) (xs:=[_]) rfl rfl (by decide) (by decide) .none rfl rfl rfl rfl ?_
 refine ev ?_
 refine rn0 (r1 rfl) (.eqd ?_)
 rotate_left
 try simp only[Q] at h6p
 exfalso;first|omega|(simp_all;done)
 try simp only[Q] at h5p
 exfalso;omega
 all_goals (first|rfl|(cases a;rfl))
theorem zoR (hs:Spa w){n m:Nat} (hn:n+1≤10) (hm:m+1≤11) (hnm:n<m)
  (ih:∀ {ta tk:Int}{a b:Pat},InS (w.length*4) ⟨ta,tk⟩→zam w m ⟨ta,tk⟩ a=true→zam w n ⟨ta,tk⟩ b=true→MinusSp w n ta tk a b)
  {ta tk:Int}{a b:Pat} (ht:InS (w.length*4) ⟨ta,tk⟩) (ha:zam w (m+1) ⟨ta,tk⟩ a=true) (hb:zam w (n+1) ⟨ta,tk⟩ b=true) (h4:a.op=4) (h4b:b.op=4) (hc:a.ctor=b.ctor):MinusSp w (n+1) ta tk a b:=by
 have hki:=zmK hs hn hm hnm ih ht ha hb h4 h4b hc
 clear ih
 unfold MinusSp
 refine bd Tryz.f109 82 [] [] fun w0 F0 own kept hk=>?_
 refine Walk.box (id:=3005) .none rfl rfl rfl rfl rfl rfl rfl ?_
 refine Walk.box (id:=3006) .none rfl rfl rfl rfl rfl rfl rfl ?_
 refine Walk.box (id:=3007) .none rfl rfl rfl rfl rfl rfl rfl ?_
 refine ev ?_
 refine sq (fun h1 h1p h1s=>?_) fun h1 h1p h1s=>?_
 try simp only[Q] at h1p
 exfalso;omega
 try simp only[Q] at h1p
 refine sq (fun h2 h2p h2s=>?_) fun h2 h2p h2s=>?_
 try simp only[Q] at h2p
 exfalso;omega
 try simp only[Q] at h2p
 refine sqF ?_
 refine sq (fun h4 h4p h4s=>?_) fun h4 h4p h4s=>?_
 try simp only[Q] at h4p
 exfalso;omega
 try simp only[Q] at h4p
 refine sq (fun h5 h5p h5s=>?_) fun h5 h5p h5s=>?_
 try simp only[Q] at h5p
 refine sq (fun h6 h6p h6s=>?_) fun h6 h6p h6s=>?_
 try simp only[Q] at h6p
 exfalso;first|omega|(simp_all;done)
 try simp only[Q] at h6p
 refine sq (fun h7 h7p h7s=>?_) fun h7 h7p h7s=>?_
 try simp only[Q] at h7p
 refine Walk.call (cr:=[]) zs7 (hki) rfl .none rfl rfl (LeL.refl _) trivial rfl rfl rfl ?_
 refine ev ?_
 focus (refine rn0 (r1 rfl) (.eqd ?_);all_goals (first|rfl|(simp[h1s,h1p,h2s,h2p,h4s,h4p,h5s,h5p,h6s,h6p,h7s,h7p];done)|(simp_all;done)|(simp_all;omega)|omega))
 try simp only[Q] at h7p
 exfalso;omega
 try simp only[Q] at h5p
 exfalso;omega
theorem zoQ (hs:Spa w){n:Nat}{ta tk:Int}{a b:Pat} (ht:InS (w.length*4) ⟨ta,tk⟩) (h1:a.op=1) (h4b:b.op=4) (hbd:(zav w (n+1) ⟨ta,tk⟩ a b).length≤20000000)
  (hC:∀c∈zaA w ⟨ta,tk⟩,MinusSp w (n+1) ta tk (zcn w ⟨ta,tk⟩ c) b):MinusSp w (n+1) ta tk a b:=by
 have e:zav w (n+1) ⟨ta,tk⟩ a b=(zaA w ⟨ta,tk⟩).flatMap fun c=>zav w (n+1) ⟨ta,tk⟩ (zcn w ⟨ta,tk⟩ c) b:=by
  rw[zhT h4b h1]
  exact congrArg (fun g=>(zaA w ⟨ta,tk⟩).flatMap g) (funext fun c=>(zen h4b rfl).symm)
 unfold MinusSp
 rw[e] at hbd ⊢
 have hcl:=(hs.ctors _ ht).1
 have hpre:∀ {pre rest:List Int}{y:Int},pre++y::rest=zaA w ⟨ta,tk⟩→(pre.flatMap fun c=>zav w (n+1) ⟨ta,tk⟩ (zcn w ⟨ta,tk⟩ c) b).length+(zav w (n+1) ⟨ta,tk⟩ (zcn w ⟨ta,tk⟩ y) b).length≤20000000:=fun h=>by
  rw[←h,List.flatMap_append,List.flatMap_cons] at hbd
  simp only[List.length_append] at hbd
  omega
 have hmem:∀ {pre rest:List Int}{y:Int},pre++y::rest=zaA w ⟨ta,tk⟩→y∈zaA w ⟨ta,tk⟩:=fun h=>by rw[←h];simp
 refine bd Tryz.f109 82 [] [] fun w0 F0 own kept hk=>?_
 refine Walk.box (id:=3005) .none rfl rfl rfl rfl rfl rfl rfl ?_
 refine Walk.box (id:=3006) .none rfl rfl rfl rfl rfl rfl rfl ?_
 refine Walk.box (id:=3007) .none rfl rfl rfl rfl rfl rfl rfl ?_
 refine ev ?_
 refine sq (fun h1 h1p h1s=>?_) fun h1 h1p h1s=>?_
 try simp only[Q,Pat.cs_len] at h1p
 exfalso;omega
 try simp only[Q,Pat.cs_len] at h1p
 refine sq (fun h2 h2p h2s=>?_) fun h2 h2p h2s=>?_
 try simp only[Q,Pat.cs_len] at h2p
 exfalso;omega
 try simp only[Q,Pat.cs_len] at h2p
 refine sqF ?_
 refine sq (fun h4 h4p h4s=>?_) fun h4 h4p h4s=>?_
 try simp only[Q,Pat.cs_len] at h4p
 exfalso;omega
 try simp only[Q,Pat.cs_len] at h4p
 refine sq (fun h5 h5p h5s=>?_) fun h5 h5p h5s=>?_
 try simp only[Q,Pat.cs_len] at h5p
 exfalso;omega
 try simp only[Q,Pat.cs_len] at h5p
 refine sqF ?_
 refine sq (fun h7 h7p h7s=>?_) fun h7 h7p h7s=>?_
 try simp only[Q,Pat.cs_len] at h7p
 exfalso;omega
 try simp only[Q,Pat.cs_len] at h7p
 refine Walk.sliceEmptyG 9 sl28 .none rfl rfl ?_
 refine ev ?_
 refine Walk.call (cr:=[]) zhI (zc2 hs.dp.wt (zcR ht)) rfl .none rfl rfl (LeL.refl _) trivial rfl rfl rfl ?_
 refine ev ?_
 refine CWp.loopX (ι:=List (Int)×List (Int)) hk (fun x=>[(11,.d (.i (x.1.length:Int))),(9,.gl 9 (Pat.cs (x.1.flatMap fun c=>zav w (n+1) ⟨ta,tk⟩ (zcn w ⟨ta,tk⟩ c) b)))]) [62,63,64,65,66,67,68,69,70,71,72,73,74,75,76,77,78,79,80] (fun x=>[(9,some (.tok ((Pat.cs (x.1.flatMap fun c=>zav w (n+1) ⟨ta,tk⟩ (zcn w ⟨ta,tk⟩ c) b))).length 6))]) (fun x=>x.1++x.2=zaA w ⟨ta,tk⟩) (fun x=>x.2.length) ([],zaA w ⟨ta,tk⟩) (by simp) ⟨⟨_,rfl,(LeA.eqi (by first|rfl|(rw[List.flatMap_append,Pat.cs_cd,Pat.cs_cd,Pat.cs_cd,List.map_append];simp;done)|(simp[Pat.cs_len];done)|omega))⟩,⟨⟨_,rfl,(LeA.glg (by first|rfl|(rw[List.flatMap_append,Pat.cs_cd,Pat.cs_cd,Pat.cs_cd,List.map_append];simp;done)|(simp[Pat.cs_len];done)|omega))⟩,trivial⟩⟩ ⟨zae (by first|rfl|(simp;done)|(simp;omega)|(first|rfl|(rw[List.flatMap_append,Pat.cs_cd,Pat.cs_cd,Pat.cs_cd,List.map_append];simp;done)|(simp[Pat.cs_len];done)|omega)),trivial⟩ (fun x=>rfl) (fun x hg1=>?_)
 obtain⟨pre,rest⟩:=x
 dsimp only at hg1 ⊢
 refine evc [] [] ?_
 refine sq (fun h8 h8p h8s=>?_) fun h8 h8p h8s=>?_
 try simp only[Q,Pat.cs_len] at h8p
 rcases rest with _|⟨y,rest⟩
 ·exfalso;simp_all
 refine Walk.idx zbU .none rfl rfl rfl rfl (za0 hg1) rfl ?_
 refine evd [] [] ?_
 refine Walk.call (cr:=[]) zs8 (znG hs.dp.wt (zcR ht) (hmem hg1) (hs.args _ _ ht (hmem hg1))) rfl .none rfl rfl (LeL.refl _) trivial rfl rfl rfl ?_
 refine evd [] [] ?_
 refine Walk.call (cr:=[]) zn0 (hC y (hmem hg1)) rfl .none rfl rfl (LeL.refl _) trivial rfl rfl rfl ?_
 refine Walk.append sl28 zz77 rfl .none rfl rfl rfl rfl (zaG rfl (by first|rfl|(simp;done)|(simp;omega))) (by exact zbm _) (by have h9:=hpre hg1;simp only[Pat.cs_len];omega) (by have h9:=hpre hg1;simp only[Pat.cs_len];omega) ?_
 refine evd [] [] ?_
 refine dr ?_
 refine ar ?_
 refine Exists.intro ((pre++[y],rest)) ⟨(by have hz:=hg1;rw[←hz];simp),(by simp),Sub.x (by kernel_rfl) (by kernel_rfl) ⟨⟨_,rfl,(LeA.eqi (by first|rfl|(rw[List.flatMap_append,Pat.cs_cd,Pat.cs_cd,Pat.cs_cd,List.map_append];simp;done)|(simp[Pat.cs_len];done)|omega))⟩,⟨⟨_,rfl,(LeA.glg (by first|rfl|(rw[List.flatMap_append,Pat.cs_cd,Pat.cs_cd,Pat.cs_cd,List.map_append];simp;done)|(simp[Pat.cs_len];done)|omega))⟩,trivial⟩⟩ (by kernel_rfl) (by kernel_rfl) ⟨zae (by first|rfl|(simp;done)|(simp;omega)|(first|rfl|(rw[List.flatMap_append,Pat.cs_cd,Pat.cs_cd,Pat.cs_cd,List.map_append];simp;done)|(simp[Pat.cs_len];done)|omega)),trivial⟩⟩
 try simp only[Q,Pat.cs_len] at h8p
 have hrest:rest=[]:=by
  rcases rest with _|⟨a,b⟩
  ·rfl
  ·exfalso;have hz:=congrArg List.length (hg1);simp only[List.length_append,List.length_cons,List.length_map] at hz;omega
 subst hrest
 refine rn0 (r1 rfl) (.gld ?_)
 rotate_left
 all_goals (first|rfl|(rw[List.append_nil] at hg1;rw[hg1];done))
theorem zht (hs:Spa w):∀(n m:Nat){ta tk:Int}{a b:Pat},n<m→n≤10→m≤11→InS (w.length*4) ⟨ta,tk⟩→zam w m ⟨ta,tk⟩ a=true→zam w n ⟨ta,tk⟩ b=true→MinusSp w n ta tk a b
 |0,m,ta,tk,a,b,_,_,_,_,_,hb=>by simp[zam] at hb
 |n+1,0,ta,tk,a,b,h,_,_,_,_,_=>by omega
 |n+1,m+1,ta,tk,a,b,h,hn,hm,ht,ha,hb=>by
  have hC:∀ {a:Pat},zam w (m+1) ⟨ta,tk⟩ a=true→a.op=4→b.op=4→MinusSp w (n+1) ta tk a b:=fun {a} ha h4 h4b=>by
   by_cases hc:a.ctor=b.ctor
   ·exact zoR hs hn hm (by omega) (fun h1 h2 h3=>zht hs n m (by omega) (by omega) (by omega) h1 h2 h3) ht ha hb h4 h4b hc
   ·exact zoS h4 h4b hc
  rcases zck hb with h1|h3|h4b
  ·exact zoO h1
  ·have:=zcD hb h3
   refine zoP h3 ?_ ⟨by omega,by omega⟩ ⟨by omega,by omega⟩
   by_cases h1:a.op=1
   ·exact .inl h1
   ·exact .inr (by have:=zdV ha hb h1 (by omega);omega)
  ·by_cases h1:a.op=1
   ·obtain⟨m',rfl⟩:∃m',m=m'+1:=⟨m-1,by omega⟩
    exact zoQ hs ht h1 h4b (zfB hs h hn ht ha hb) (fun c hc=>hC (zdW hc) rfl h4b)
   ·exact hC ha (by have:=zdV ha hb h1 (by omega);omega) h4b
end
section
variable {c:Ctx}{all:Array Oper}{chk:List Rec→Prop}{os:List Oper}{recs:List Rec}{env:Env}{hp:Hp}{Q:St→Prop}
variable {d ty:Nat}{pos:String}{af:Array Edge}{g:Option (Nat×Bool)}{pg:List (Nat×AV)}{t yt:TypeId}{x y:Operand}
theorem Walk.appendM {id k e yb:Nat}{xs ys:List (List D)}{vy:AV}{ids:List Nat} (hkp:KeptIn c.kept ids) (hid:zaM id ids=false) (hne:xs++ys≠[]) (ht:SlT c.P t e k yb) (hz:ZeroT c.P e k) (hg:GH all env g pg) (hd:Nat.blt d c.n=true)
  (hx:opd env x=some (.gv id xs)) (hy:opd env y=some vy) (hyd:vy.toD=some (.sl ys)) (htok:getH hp id=some (.tok xs.length k)) (hky:∀y,y∈ys→y.length=k)
  (hb:(xs.length+ys.length)*yb≤140737488355328) (hm:xs.length+ys.length≤9223372036854775807)
  (hn:Walk c all chk os (zaq (pg++(opF x (.gv id xs)++opF y vy)) [(id,.tok xs.length k)] [] ⟨some (d,.ms id (xs++ys).length),[(id,some (.box ((xs++ys).flatten.map .d)))]⟩::recs)
   ⟨(d,.ms id (xs++ys).length)::env,(id,some (.box ((xs++ys).flatten.map .d)))::hp⟩ Q):
  Walk c all chk (⟨some d,.call ⟨.builtin .append,#[x,y],#[t,t]⟩,ty,pos,af,g⟩::os) recs ⟨env,hp⟩ Q:=by
 refine⟨pg++(opF x (.gv id xs)++opF y vy),[(id,.tok xs.length k)],[],_, ?_,zax hg.facts (zax (za4 hx) (za4 hy)),hh1 htok,by simp,hn⟩
 intro s a w hrel hp' hh _ K Q' hK
 obtain⟨G,hr⟩:=hrel
 have e1:=hr.opd (za5 hx (fun p hm=>hp' p (by simp[hm])))
 have e2:=hr.opd (za5 hy (fun p hm=>hp' p (by simp[hm])))
 obtain⟨i,z,z1,z2,z3⟩:=hz.out
 obtain⟨v',w',G',hrun,hR,hA⟩:=ziP hr ht ⟨i,z1,z2,z3⟩ (hh1' hh) e1 (e2.toD hyd) hky hb hm ty
 unfold wpO
 rw[if_pos (hg.gf.wanted hr (fun p hm=>hp' p (by simp[hm])))]
 unfold Oper.wp
 have:(execOp a.eval ⟨some d,.call ⟨.builtin .append,#[x,y],#[t,t]⟩,ty,pos,af,g⟩).run c.P w = .ok (.value v') w':=by
  simp only[execOp,resolve,invoke,builtin,Sem.run_bind,Sem.run_pure,Result.andThen_ok,List.map_toArray,List.map_cons,List.map_nil,hrun]
 rw[this,Oper.upon_value]
 have hV:Rel c ⟨(d,.gv id (xs++ys))::s.env,(id,some (.tok (xs.length+ys.length) k))::s.hp⟩ (a.put (some d) v') w':=⟨G',hR.put hA hd⟩
 rcases Rel.fixV hkp d id k (xs:=xs++ys) (by simp[getE]) (by rw[zai,if_pos rfl,List.length_append]) hid hV with ⟨h,_⟩|⟨_,h⟩
 ·exact absurd h hne
 ·refine hK _ _ (h.congr (fun j=>?_) (fun j=>?_))
  ·show getE ((d,_)::s.env) j=getE ((d,_)::(d,_)::s.env) j
   simp only[getE]
   cases Nat.beq d j<;>rfl
  ·show getH ((id,_)::s.hp) j=getH ((id,_)::(id,_)::s.hp) j
   rw[zai,zai,zai]
   by_cases hj:j=id
   ·rw[if_pos hj,if_pos hj]
   ·rw[if_neg hj,if_neg hj,if_neg hj]
end
theorem FnD.boxD {P:Program}{f:FuncId}{i n k:Nat}{args:List AV}{cs:List AV}{es:List (List D)} (hc:zcp n k (cs.take (n*k))=some es) (h:FnD P f args [] (.ms i n) [(i,some (.box cs))]):FnD P f args [] (.d (.sl es)) []:=by
 intro G w vals hok
 refine(h G w vals hok).mono ?_
 rintro e w' ⟨v,r',hp',G',rfl,⟨rfl,rfl⟩,hret⟩
 have gi:getH ([(i,some (Res.box cs))]++[]) i=some (.box cs):=by simp[getH]
 obtain⟨b,us,et,q1,q2,q3,q4,q5⟩:=hret.heap i _ gi
 have hown:∀b,b∉zbW G []:=fun b hb=>by simp[zbW] at hb
 have hnew:w.heap.size≤b:=(hret.new i (by rw[gi];rfl) b (by rw[q1];simp)).resolve_left (hown b)
 have hlt:b<w'.heap.size:=by
  rcases Nat.lt_or_ge b w'.heap.size with h|h
  ·exact h
  ·rw[Array.getElem?_eq_none h] at q2;cases q2
 let G2:Gh:={ G' with F:=fun x=>bif Nat.beq x b then us.size else G'.F x }
 have hin:G2.F b=us.size:=by simp[G2]
 have hout:∀x,x≠b→G2.F x=G'.F x:=fun x hx=>by
  have:Nat.beq x b=false:=by
   cases h:Nat.beq x b with
   |true=>exact absurd (Nat.eq_of_beq_eq_true h) hx
   |false=>rfl
  simp[G2,this]
 have hle:∀x o,o<G'.F x→o<G2.F x:=fun x o ho=>by
  by_cases hx:x=b
  ·subst hx;rw[q4] at ho;omega
  ·rw[hout x hx];exact ho
 refine⟨v,_,_,G2,rfl,⟨rfl,rfl⟩,zsy hret.res q1 q2 q3 q5 hin (fun y o ho=>⟨hle y o ho,rfl⟩) hc,fun id x hx=>(by cases hx),fun id id' h1=>(by cases h1),fun id h1=>(by cases h1), ?_,fun x hx=>?_,fun id hi=>(by simp[zbS,getH] at hi)⟩
 ·have hf:=hret.frm
  exact⟨hf.os,hf.tape,hf.output,hf.size,fun x hx hn=>⟨(hf.block x hx hn).1,by rw[hout x (by omega)];exact(hf.block x hx hn).2⟩,fun x o ho=>⟨hle x o (hf.cell x o ho).1,(hf.cell x o ho).2⟩⟩
 ·rw[hout x (by omega)];exact hret.top x hx
def pd (s:List Pat):List AV:=(s.map Pat.cc).flatten.map .d
theorem zeZ (a b:List Pat):pd (a++b)=pd a++pd b:=by simp[pd]
theorem zlL (x:Pat):pd [x]=[.d (.i x.op),.d (.i x.ctor),.d (.i x.n),.d (.i x.m),.d (.i x.var),.d (zad x.kids)]:=rfl
theorem zhW (s:List Pat):(pd s).length=s.length*6:=by
 induction s with
 |nil=>rfl
 |cons x r ih=>rw[show x::r=[x]++r from rfl,zeZ,List.length_append,ih,zlL];simp;omega
theorem zoD {s:List Pat}{i:Nat} (h:i<s.length):pd s=pd (s.take i)++(pd [nth s i]++pd (s.drop (i+1))):=by
 rw[←zeZ,←zeZ]
 congr 1
 rw[show [nth s i]++s.drop (i+1)=nth s i::s.drop (i+1) from rfl,←zbc h,List.take_append_drop]
theorem zhV (s:List Pat):AV.idsL (pd s)=[]:=by
 unfold pd
 induction (s.map Pat.cc).flatten with
 |nil=>rfl
 |cons x r ih=>rw[List.map_cons,AV.idsL,ih];rfl
theorem zqV {s:List Pat}{i:Nat} (h:i<s.length):cutC (pd s) (i*6) 6=some [.d (.i (nth s i).op),.d (.i (nth s i).ctor),.d (.i (nth s i).n),.d (.i (nth s i).m),.d (.i (nth s i).var),.d (zad (nth s i).kids)]:=by
 rw[zoD h,zqC (by rw[zhW,List.length_take];omega) (r:=pd [nth s i])]
 ·rfl
 ·rw[zlL];first|exact zsu|(simp[cutC];done)
theorem ztE {s:List Pat}{i:Nat} (h:i<s.length){t:Pat}:putC (pd s) (i*6) [.d (.i t.op),.d (.i t.ctor),.d (.i t.n),.d (.i t.m),.d (.i t.var),.d (zad t.kids)]=some (pd (s.set i t)):=by
 rw[zoD h,zni (by rw[zhW,List.length_take];omega) (B':=pd [t]++pd (s.drop (i+1))) (by rw[zlL,zlL];simp[putC])]
 rw[List.set_eq_take_append_cons_drop,if_pos h,←zeZ,←zeZ]
 rfl
abbrev z6:List AV:=[.d (.i 0),.d (.i 0),.d (.i 0),.d (.i 0),.d (.i 0),.nils]
theorem zsG {s:List Pat}{i n:Nat} (hn:s.length=n) (h:i≤n):putC (pd s) (i*6) (zaD (n-i) z6)=some (pd (s.take i)++zaD (n-i) z6):=by
 subst hn
 have e:pd s=pd (s.take i)++(pd (s.drop i)++[]):=by
  rw[List.append_nil,←zeZ,List.take_append_drop]
 have e2:putC (pd (s.take i)++(pd (s.drop i)++[])) (i*6) (zaD (s.length-i) z6)=some (pd (s.take i)++(zaD (s.length-i) z6++[])):=by
  rw[zoH (by rw[zhW,List.length_take];omega) ?_]
  rw[zhW,List.length_drop,zes];rfl
 rw[←e,List.append_nil] at e2
 exact e2
theorem zrw {s:List Pat}{tl:List AV}:zcp s.length 6 ((pd s++tl).take (s.length*6))=some (s.map Pat.cc):=by
 rw[List.take_append_of_le_length (by rw[zhW];exact Nat.le_refl _),List.take_of_length_le (by rw[zhW];exact Nat.le_refl _)]
 have:=zez (f:=Pat.cc) (k:=6) (l:=s) (fun _ _=>rfl)
 rw[←this]
 congr 1
 unfold pd
 induction s with
 |nil=>rfl
 |cons x r ih=>
  simp only[List.map_cons,List.flatten_cons,List.map_append,List.flatMap_cons]
  exact congrArg (_++·) (ih (zez (fun _ _=>rfl)))
theorem Pat.cs_ccs (l:List Pat):Pat.cs l=l.map Pat.cc:=by
 rw[Pat.cs_eq];exact List.map_congr_left (fun v _=>Pat.c_eq v)
theorem Ex.cs_ccs (l:List Ex):Ex.cs l=l.map Ex.cc:=by
 rw[Ex.cs_eq];exact List.map_congr_left (fun v _=>Ex.c_eq v)
theorem zeu {xs:List Pat}{f:Nat}{caps:List AV}{hp:Hp}{p:Pat→Bool} (hs:xs.length≤1000000000000) (hcal:Callee Tryz.prog f)
  (hf:∀t∈xs,FnD Tryz.prog f ([.agg [.d (.i t.op),.d (.i t.ctor),.d (.i t.n),.d (.i t.m),.d (.i t.var),.d (zad t.kids)]]++caps) hp (.d (.bool (p t))) []) (k1:subH hp hp) (k2:zeo hp=true) (k3:zat hp [] (.d .nilp) []=true):
  FnD Tryz.prog 135 [.d (zad xs),.fn f caps] hp (.d (.i (idxF p xs 0))) []:=by
 rw[show zad xs=D.sl (xs.map Pat.cc) by show D.sl (Pat.cs xs)=_;rw[Pat.cs_ccs]]
 refine bd Tryz.f135 19 [] [] fun w0 F0 own kept hk=>?_
 refine CWp.loopX (ι:=List (Pat)×List (Pat)) hk (fun x=>[(8,.d (.i (x.1.length:Int)))]) [4,5,9,10,11,12,13,14,15,16,17,18] (fun x=>[]) (fun x=>x.1++x.2=xs∧idxF p x.2 x.1.length=idxF p xs 0) (fun x=>x.2.length) ([],xs) ⟨by simp,rfl⟩ ⟨⟨_,rfl,(LeA.eqi (by first|rfl|(simp;done)|(simp_all;done)|omega))⟩,trivial⟩ trivial (fun x=>zgi hp) (fun x hg1=>?_)
 obtain⟨pre,rest⟩:=x
 dsimp only at hg1 ⊢
 refine evc [] [] ?_
 refine sq (fun h1 h1p h1s=>?_) fun h1 h1p h1s=>?_
 try simp only[Q] at h1p
 rcases rest with _|⟨y,rest⟩
 ·exfalso;simp_all
 refine Walk.idx sl28 .none rfl rfl rfl rfl (za0 hg1.1) rfl ?_
 refine ev ?_
 refine Walk.callV (cr:=[]) hcal (hf y (by rw[←hg1.1];simp)) rfl .none rfl rfl rfl (LeL.refl _) k1 k2 (zc5 k3 _) rfl ?_
 refine tv ?_
 refine sq (fun h2 h2p h2s=>?_) fun h2 h2p h2s=>?_
 try simp only[Q] at h2p
 focus (refine rn [] (r1 rfl) (.eqd ?_) ⟨rfl,rfl⟩ (fun _ _ h=>h) (fun _ h=>h);all_goals (rw[←hg1.2];simp[idxF,h1s,h1p,h2s,h2p]))
 try simp only[Q] at h2p
 refine ar ?_
 refine Exists.intro ((pre++[y],rest)) ⟨⟨(by have hz:=hg1.1;rw[←hz];simp),(by rw[←hg1.2];simp[idxF,h2s])⟩,(by simp),Sub.x (by kernel_rfl) (by kernel_rfl) ⟨⟨_,rfl,(LeA.eqi (by first|rfl|(simp;done)|(simp_all;done)|omega))⟩,trivial⟩ (by simp) (by simp[zdN]) trivial⟩
 try simp only[Q] at h1p
 have hrest:rest=[]:=by
  rcases rest with _|⟨a,b⟩
  ·rfl
  ·exfalso;have hz:=congrArg List.length (hg1.1);simp only[List.length_append,List.length_cons,List.length_map] at hz;omega
 subst hrest
 focus (refine rn [] (r1 rfl) (.eqd ?_) ⟨rfl,rfl⟩ (fun _ _ h=>h) (fun _ h=>h);all_goals (rw[←hg1.2];simp[idxF,h1s,h1p]))
theorem zdQ {xs:List Pat}{f:Nat}{caps:List AV}{hp:Hp}{p:Pat→Bool} (hs:xs.length≤1000000000000) (hcal:Callee Tryz.prog f)
  (hf:∀t∈xs,FnD Tryz.prog f ([.agg [.d (.i t.op),.d (.i t.ctor),.d (.i t.n),.d (.i t.m),.d (.i t.var),.d (zad t.kids)]]++caps) hp (.d (.bool (p t))) []) (k1:subH hp hp) (k2:zeo hp=true) (k3:zat hp [] (.d .nilp) []=true):
  FnD Tryz.prog 73 [.d (zad xs),.fn f caps] hp (.d (.bool (xs.any p))) []:=by
 refine bd Tryz.f73 9 [] [] fun w0 F0 own kept hk=>?_
 refine Walk.call (cr:=[]) zkT (zeu hs hcal hf k1 k2 k3) rfl .none rfl rfl (LeL.refl _) k1 k2 (zc5 k3 _) rfl ?_
 refine ev ?_
 refine rn [] (r1 rfl) (.eqd ?_) ⟨rfl,rfl⟩ (fun _ _ h=>h) (fun _ h=>h)
 rotate_left
 all_goals (exact congrArg D.bool (zeN p xs 0))
theorem zeF {xs:List Pat}{f:Nat}{B2 B3:List AV}{p:Pat→Bool} (hs:xs.length≤1000000000000) (hcal:Callee Tryz.prog f) (hB2:AV.idsL B2=[]) (hB3:AV.idsL B3=[])
  (hf:∀t∈xs,FnD Tryz.prog f [.agg [.d (.i t.op),.d (.i t.ctor),.d (.i t.n),.d (.i t.m),.d (.i t.var),.d (zad t.kids)],.ref 3003 0,.ref 3004 0] [(3003,some (.box B2)),(3004,some (.box B3))] (.d (.bool (p t))) []):
  FnD Tryz.prog 135 [.ms 1 xs.length,.fn f [.ref 3003 0,.ref 3004 0]] [(1,some (.box (pd xs))),(3003,some (.box B2)),(3004,some (.box B3))] (.d (.i (idxF p xs 0))) []:=by
 refine bd Tryz.f135 19 [15] [] fun w0 F0 own kept hk=>?_
 refine CWp.loopX (ι:=Nat) hk (fun i=>[(8,.d (.i (i:Int)))]) [4,5,9,10,11,12,13,14,15,16,17,18] (fun i=>[]) (fun i=>i≤xs.length∧idxF p (xs.drop i) i=idxF p xs 0) (fun i=>xs.length-i) 0 ⟨by omega,rfl⟩ ⟨⟨_,rfl,(LeA.eqi (by first|rfl|(simp;done)|(simp_all;done)|omega))⟩,trivial⟩ trivial (fun x=>rfl) (fun i hg1=>?_)
 refine evc [15] [] ?_
 refine sq (fun h1 h1p h1s=>?_) fun h1 h1p h1s=>?_
 try simp only[Q] at h1p
 refine Walk.idxM sl28 .none rfl rfl rfl rfl (by first|omega|(simp ;omega)) ?_
 refine Walk.loadBA ty77 .none rfl rfl rfl ((zqV (by omega))) ?_
 refine Walk.callV (cr:=[]) hcal (hf (nth xs i) (zal (by omega))) rfl .none rfl rfl rfl (LeL.refl _) ⟨rfl,rfl,trivial⟩ rfl (by simp only[zat,List.all_cons,List.all_nil,zaE,zaz,AV.idsL,AV.ids,hB2,hB3,List.map_cons,List.map_nil];rfl) rfl ?_
 refine tv ?_
 refine sq (fun h2 h2p h2s=>?_) fun h2 h2p h2s=>?_
 try simp only[Q] at h2p
 focus (refine rn [] (r1 rfl) (.eqd ?_) ⟨rfl,rfl⟩ (SubH.get ⟨rfl,⟨rfl,⟨rfl,trivial⟩⟩⟩) (fun _ h=>h);all_goals (first|(rw[←hg1.2,zbc (by omega)];simp[idxF,h1s,h1p,h2s,h2p];done)|(rw[←hg1.2,List.drop_eq_nil_of_le (by omega)];rfl)))
 try simp only[Q] at h2p
 refine ar ?_
 refine Exists.intro (i+1) ⟨⟨by omega,(by rw[←hg1.2,zbc (l:=xs) (i:=i) (by omega)];simp_all[idxF])⟩,(by omega),Sub.x (by kernel_rfl) (by kernel_rfl) ⟨⟨_,rfl,(LeA.eqi (by first|rfl|(simp;done)|(simp_all;done)|omega))⟩,trivial⟩ (by kernel_rfl) (by kernel_rfl) trivial⟩
 try simp only[Q] at h1p
 focus (refine rn [] (r1 rfl) (.eqd ?_) ⟨rfl,rfl⟩ (SubH.get ⟨rfl,⟨rfl,⟨rfl,trivial⟩⟩⟩) (fun _ h=>h);all_goals (first|(rw[←hg1.2,zbc (by omega)];simp[idxF,h1s,h1p];done)|(rw[←hg1.2,List.drop_eq_nil_of_le (by omega)];rfl)))
theorem zg4 {xs:List Pat}{f:Nat}{B2 B3:List AV}{p:Pat→Bool} (hs:xs.length≤1000000000000) (hcal:Callee Tryz.prog f) (hB2:AV.idsL B2=[]) (hB3:AV.idsL B3=[])
  (hf:∀t∈xs,FnD Tryz.prog f [.agg [.d (.i t.op),.d (.i t.ctor),.d (.i t.n),.d (.i t.m),.d (.i t.var),.d (zad t.kids)],.ref 3003 0,.ref 3004 0] [(3003,some (.box B2)),(3004,some (.box B3))] (.d (.bool (p t))) []):
  ∃tl:List AV,AV.idsL tl=[]∧FnD Tryz.prog 125 [.ms 1 xs.length,.fn f [.ref 3003 0,.ref 3004 0]] [(1,some (.box (pd xs))),(3003,some (.box B2)),(3004,some (.box B3))]
   (.ms 1 (xs.filter fun t=> !p t).length) [(1,some (.box (pd (xs.filter fun t=> !p t)++tl)))]:=by
 have hok3:zat [(1,some (.box (pd xs))),(3003,some (.box B2)),(3004,some (.box B3))] [] (.d .nilp) []=true:=by
  simp only[zat,List.all_cons,List.all_nil,zaE,zaz,AV.idsL,AV.ids,zhV,hB2,hB3,List.map_cons,List.map_nil];rfl
 rcases zm3 p xs 0 with ⟨hi,hall⟩|⟨k,hi,hk1,hk2⟩
 ·have hfil:(xs.filter fun t=> !p t)=xs:=List.filter_eq_self.2 (fun x hx=>by simp[hall x hx])
  refine⟨[],rfl, ?_⟩
  rw[hfil,List.append_nil]
  refine bd Tryz.f125 42 [] [] fun w0 F0 own kept hk=>?_
  refine Walk.call (cr:=[]) zkT (zeF hs hcal hB2 hB3 hf) rfl .none rfl rfl (.cons (LeA.msn (by first|rfl|(simp;done))) (.cons (.refl _) .nil)) ⟨rfl,rfl,rfl,trivial⟩ rfl (zc5 hok3 _) rfl ?_
  refine ev ?_
  refine sq (fun h1 h1p h1s=>?_) fun h1 h1p h1s=>?_
  try simp only[Q] at h1p
  refine rn [(1,some (.box (pd xs)))] (r1 rfl) (.refl _) ⟨rfl,rfl⟩ (SubO.get ⟨.inr ?_,⟨.inl rfl,⟨.inr rfl,⟨.inr rfl,trivial⟩⟩⟩⟩) (zbj rfl)
  rotate_left
  try simp only[Q] at h1p
  exfalso;simp[hi] at h1
  all_goals (first|((first|rfl|(simp;done));done)|(rfl))
 ·skip
  have hlen:(xs.filter fun t=> !p t).length≤xs.length:=List.length_filter_le _ _
  refine⟨zaD (xs.length-(xs.filter fun t=> !p t).length) z6,zce rfl, ?_⟩
  refine bd Tryz.f125 42 [25] [] fun w0 F0 own kept hk=>?_
  refine Walk.call (cr:=[]) zkT (zeF hs hcal hB2 hB3 hf) rfl .none rfl rfl (.cons (LeA.msn (by first|rfl|(simp;done))) (.cons (.refl _) .nil)) ⟨rfl,rfl,rfl,trivial⟩ rfl (zc5 hok3 _) rfl ?_
  refine evs [25] [] ?_
  refine sq (fun h1 h1p h1s=>?_) fun h1 h1p h1s=>?_
  try simp only[Q] at h1p
  exfalso;simp[hi] at h1<;>omega
  try simp only[Q] at h1p
  refine ar ?_
  refine CWp.loopX (ι:=List Pat×Nat×Nat) hk (fun x=>[(6,.d (.i (x.2.1:Int))),(5,.d (.i (x.2.2:Int)))]) [7,16,17,18,19,20,21,22,23,24,25,26,27,28,29,30,31,32,33,34,35] (fun x=>[(1,some (.box (pd x.1)))]) (fun x=>x.1.length=xs.length∧x.2.1≤xs.length∧x.2.2≤x.2.1∧x.1.take x.2.2=(xs.take x.2.1).filter (fun t=> !p t)∧x.1.drop x.2.1=xs.drop x.2.1) (fun x=>xs.length-x.2.1) (xs,k+1,k) ⟨rfl,by dsimp only;omega,by dsimp only;omega,hk2.symm,rfl⟩ ⟨⟨_,rfl,(LeA.eqi (by first|rfl|(simp;done)|(dsimp only;simp[hi];omega)|(simp_all;done)))⟩,⟨⟨_,rfl,(LeA.eqi (by first|rfl|(simp;done)|(dsimp only;simp[hi];omega)|(simp_all;done)))⟩,trivial⟩⟩ ⟨(by first|rfl|(show some (Res.box _)=some (Res.box _);dsimp only;split<;>first|rfl|(exfalso;simp_all;done))),trivial⟩ (fun x=>rfl) (fun x hg1=>?_)
  refine evc [25] [] ?_
  refine sq (fun h2 h2p h2s=>?_) fun h2 h2p h2s=>?_
  try simp only[Q] at h2p
  refine Walk.idxM sl28 .none rfl rfl rfl rfl (by first|omega|(simp ;omega)) ?_
  refine Walk.loadBA ty77 .none rfl rfl rfl (((zqV (s:=x.1) (by omega)).trans (by rw[zpa hg1.2.2.2.2 hg1.1 (by omega)]))) ?_
  refine Walk.alloc (id:=3007) tz77 rfl .none rfl (by first|rfl|(simp only[zak,occH,occE,Res.ids,List.cons_append,List.nil_append,AV.idsL,AV.ids,zab,zaa,zac,zan,List.map_cons,List.map_nil,upC,hB2,hB3,zhV];rfl)) (by first|rfl|(simp only[zak,occH,occE,Res.ids,List.cons_append,List.nil_append,AV.idsL,AV.ids,zab,zaa,zac,zan,List.map_cons,List.map_nil,upC,hB2,hB3,zhV];rfl)) (by first|rfl|(simp only[zak,occH,occE,Res.ids,List.cons_append,List.nil_append,AV.idsL,AV.ids,zab,zaa,zac,zan,List.map_cons,List.map_nil,upC,hB2,hB3,zhV];rfl)) ?_
  refine Walk.store ty77 .none rfl rfl rfl rfl rfl rfl (by simp) rfl ?_
  refine tv ?_
  refine Walk.callV (cr:=[]) hcal (hf (nth xs x.2.1) (zal (by omega))) rfl .none rfl rfl rfl (LeL.refl _) ⟨rfl,rfl,trivial⟩ rfl (by simp only[zat,List.all_cons,List.all_nil,zaE,zaz,AV.idsL,AV.ids,hB2,hB3,List.map_cons,List.map_nil];rfl) rfl ?_
  refine evs [25] [] ?_
  refine sq (fun h3 h3p h3s=>?_) fun h3 h3p h3s=>?_
  try simp only[Q] at h3p
  refine Walk.idxM sl28 .none rfl rfl rfl rfl (by first|omega|(simp ;omega)) ?_
  refine Walk.store ty77 .none rfl rfl rfl rfl rfl rfl (by simp) ((ztE (by omega))) ?_
  refine tv ?_
  refine ar ?_
  refine ar ?_
  refine Exists.intro ((if p (nth xs x.2.1) then x.1 else x.1.set x.2.2 (nth xs x.2.1),x.2.1+1,if p (nth xs x.2.1) then x.2.2 else x.2.2+1)) ⟨(by
      obtain⟨g1,g2,g3,g4,g5⟩:=hg1
      have hlt:x.2.1<xs.length:=by omega
      have h7:=zgK (p:=fun t=> !p t) hlt
      refine⟨by dsimp only;split<;>simp[g1],by dsimp only;omega,by dsimp only;split<;>omega, ?_, ?_⟩
      ·dsimp only
       rw[h7,←g4]
       cases hp:p (nth xs x.2.1) with
       |true=>simp
       |false=>simp only[Bool.false_eq_true,if_false,Bool.not_false,if_true];rw[ziG (by omega)]
      ·dsimp only
       split
       ·exact zeW g5
       ·first|(rw[ziw g3];exact zeW g5)|exact zeW g5),(by dsimp only;omega),Sub.x (by kernel_rfl) (by kernel_rfl) ⟨⟨_,rfl,(LeA.eqi (by first|rfl|(simp;done)|(dsimp only;simp[hi];omega)|(simp_all;done)))⟩,⟨⟨_,rfl,(LeA.eqi (by first|rfl|(simp;done)|(dsimp only;simp[hi];omega)|(simp_all;done)))⟩,trivial⟩⟩ (by kernel_rfl) (by kernel_rfl) ⟨(by first|rfl|(show some (Res.box _)=some (Res.box _);dsimp only;split<;>first|rfl|(exfalso;simp_all;done))),trivial⟩⟩
  try simp only[Q] at h3p
  refine ar ?_
  refine Exists.intro ((if p (nth xs x.2.1) then x.1 else x.1.set x.2.2 (nth xs x.2.1),x.2.1+1,if p (nth xs x.2.1) then x.2.2 else x.2.2+1)) ⟨(by
      obtain⟨g1,g2,g3,g4,g5⟩:=hg1
      have hlt:x.2.1<xs.length:=by omega
      have h7:=zgK (p:=fun t=> !p t) hlt
      refine⟨by dsimp only;split<;>simp[g1],by dsimp only;omega,by dsimp only;split<;>omega, ?_, ?_⟩
      ·dsimp only
       rw[h7,←g4]
       cases hp:p (nth xs x.2.1) with
       |true=>simp
       |false=>simp only[Bool.false_eq_true,if_false,Bool.not_false,if_true];rw[ziG (by omega)]
      ·dsimp only
       split
       ·exact zeW g5
       ·first|(rw[ziw g3];exact zeW g5)|exact zeW g5),(by dsimp only;omega),Sub.x (by kernel_rfl) (by kernel_rfl) ⟨⟨_,rfl,(LeA.eqi (by first|rfl|(simp;done)|(dsimp only;simp[hi];omega)|(simp_all;done)))⟩,⟨⟨_,rfl,(LeA.eqi (by first|rfl|(simp;done)|(dsimp only;simp[hi];omega)|(simp_all;done)))⟩,trivial⟩⟩ (by kernel_rfl) (by kernel_rfl) ⟨(by first|rfl|(show some (Res.box _)=some (Res.box _);dsimp only;split<;>first|rfl|(exfalso;simp_all;done))),trivial⟩⟩
  try simp only[Q] at h2p
  refine Walk.cutM_l sl28 .none rfl rfl rfl rfl (by omega) ?_
  refine Walk.clearB sl28 tz77 rfl (by decide) rfl .none rfl rfl (zsG hg1.1 (by omega)) ?_
  refine tv ?_
  refine Walk.cutM_h sl28 .none rfl rfl rfl rfl (by omega) ?_
  refine evs [25] [] ?_
  refine rn [(1,some (.box (pd (xs.filter fun t=> !p t)++zaD (xs.length-(xs.filter fun t=> !p t).length) z6)))] (r1 rfl) (LeA.msn ?_) ⟨rfl,rfl⟩ (SubO.get ⟨.inr ?_,⟨.inl rfl,⟨.inr rfl,⟨.inr rfl,trivial⟩⟩⟩⟩) (zbj rfl)
  rotate_left 2
  all_goals (first|((first|rfl|(obtain⟨g1,g2,g3,g4,g5⟩:=hg1;have e:x.2.1=xs.length:=(by omega);rw[e,List.take_length] at g4;rw[←g4,List.length_take];omega));done)|((obtain⟨g1,g2,g3,g4,g5⟩:=hg1;have e:x.2.1=xs.length:=(by omega);rw[e,List.take_length] at g4;have e2:(xs.filter fun t=> !p t).length=x.2.2:=(by rw[←g4,List.length_take];omega);rw[e2,←g4];rfl)))
theorem zgw {f:Nat}{caps:List AV}{hp:Hp} (hcal:Callee Tryz.prog f) (k1:subH hp hp) (k2:zeo hp=true) (k3:zat hp [] (.d .nilp) []=true):
  FnD Tryz.prog 125 [.d (.sl []),.fn f caps] hp (.d (.sl [])) []:=by
 have hz:=zeu (xs:=[]) (p:=fun _=>false) (f:=f) (caps:=caps) (hp:=hp) (by simp) hcal (fun t ht=>by simp at ht) k1 k2 k3
 refine bd Tryz.f125 42 [] [] fun w0 F0 own kept hk=>?_
 refine Walk.call (cr:=[]) zkT (hz) rfl .none rfl rfl (LeL.refl _) k1 k2 (zc5 k3 _) rfl ?_
 refine ev ?_
 refine sq (fun h1 h1p h1s=>?_) fun h1 h1p h1s=>?_
 try simp only[Q] at h1p
 focus (refine rn [] (r1 rfl) (.eqd ?_) ⟨rfl,rfl⟩ (fun _ _ h=>h) (fun _ h=>h);all_goals (first|rfl|(simp[h1s,h1p];done)|(simp_all;done)|(simp_all;omega)|omega))
 try simp only[Q] at h1p
 exfalso;simp[idxF] at h1
theorem zjp {xs:List Pat} (hs:xs.length≤1000000000000) (hne:xs≠[]):FnD Tryz.prog 126 [.d (zad xs)] [] (.ms 1 xs.length) [(1,some (.box (pd xs)))]:=by
 have hcs:Pat.cs xs≠[]:=fun h=>hne ((Pat.cs_nil xs).1 h)
 refine Fn.body (fn:=Tryz.f126) (n:=8) rfl rfl rfl rfl rfl (fun w0 F0 own kept hk=>?_)
 refine CWp.splitNil 0 rfl (fun hx0=>?_) ?_
 refine evc [4] [] ?_
 refine Walk.eqNilT sl28 .none rfl rfl ?_
 refine tv ?_
 refine sqT ?_
 exfalso;exact hcs hx0
 refine evc [4] [] ?_
 refine Walk.eqNilF sl28 .none rfl rfl ?_
 refine tv ?_
 refine sqF ?_
 refine Walk.sliceEmptyGV 1 sl28 .none rfl rfl ?_
 refine evs [4] [] ?_
 refine Walk.appendM hk rfl (by simp[hcs]) sl28 zz77 .none rfl rfl rfl rfl (zaG rfl (by first|rfl|(simp;done)|(simp;omega))) (by intro y hy;rw[Pat.cs_cd] at hy;obtain⟨z,_,rfl⟩:=List.mem_map.1 hy;rfl) (by simp[Pat.cs_len];omega) (by simp[Pat.cs_len];omega) ?_
 refine evs [4] [] ?_
 refine rn [(1,some (.box (pd xs)))] (r1 rfl) (LeA.msn ?_) ⟨rfl,rfl⟩ (SubH.get ⟨?_,trivial⟩) (zbj rfl)
 rotate_left 2
 all_goals (first|((first|rfl|(simp[Pat.cs_len];done));done)|(first|rfl|(show some (Res.box _)=some (Res.box _);unfold pd;rw[←Pat.cs_cd];rfl)))
theorem zkp {w:List Data} (hs:Spa w){ta tk:Int} (ht:InS (w.length*4) ⟨ta,tk⟩){p:Pat} (hp:zam w 11 ⟨ta,tk⟩ p=true):
  FnD Tryz.prog 127 [.agg [.d (.i p.op),.d (.i p.ctor),.d (.i p.n),.d (.i p.m),.d (.i p.var),.d (zad p.kids)],.ref 3003 0,.ref 3004 0] [(3003,some (.box [.d (sPtr w (zaZ w))])),(3004,some (.box [.d (.i ta),.d (.i tk)]))] (.d (.bool (zbi w (zaZ w) 11 ⟨ta,tk⟩ p))) []:=by
 refine bd Tryz.f127 9 [] [] fun w0 F0 own kept hk=>?_
 refine Walk.box (id:=3001) .none rfl rfl rfl rfl rfl rfl rfl ?_
 refine ev ?_
 refine Walk.call (cr:=[]) zgH (zcQ hs.dp 11 (zgq _ hp) ht (zfC hs 11 ht hp).1) rfl .none rfl rfl (LeL.refl _) trivial rfl rfl rfl ?_
 refine ev ?_
 focus (refine rn [] (r1 rfl) (.eqd ?_) ⟨rfl,rfl⟩ (SubH.get ⟨rfl,⟨rfl,trivial⟩⟩) (fun _ h=>h);all_goals (first|rfl|(simp[];done)|(simp_all;done)|(simp_all;omega)|omega))
theorem zhR {w:List Data} (hs:Spa w){ta tk:Int} (ht:InS (w.length*4) ⟨ta,tk⟩){l:List Pat} (hl:∀a∈l,zam w 11 ⟨ta,tk⟩ a=true) (hb:l.length≤1000000000000):
  FnD Tryz.prog 71 [.d (sPtr w (zaZ w)),.agg [.d (.i ta),.d (.i tk)],.d (zad l)] [] (.d (zad (l.filter (zbP w ⟨ta,tk⟩)))) []:=by
 by_cases hne:l=[]
 ·subst hne
  have hcl:FnD Tryz.prog 126 [.d (.sl [])] [] (.d (.sl [])) []:=(zfu (xs:=[]) (by simp)).glD
  refine bd Tryz.f71 11 [] [] fun w0 F0 own kept hk=>?_
  refine Walk.box (id:=3003) .none rfl rfl rfl rfl rfl rfl rfl ?_
  refine Walk.box (id:=3004) .none rfl rfl rfl rfl rfl rfl rfl ?_
  refine ev ?_
  refine Walk.call (cr:=[]) zn1 (hcl) rfl .none rfl rfl (LeL.refl _) trivial rfl rfl rfl ?_
  refine Walk.closure (xs:=[_,_]) rfl .none rfl rfl ?_
  refine Walk.call (cr:=[]) zqf (zgw (hp:=[(3003,some (.box [.d (sPtr w (zaZ w))])),(3004,some (.box [.d (.i ta),.d (.i tk)]))]) zqg ⟨rfl,rfl,trivial⟩ rfl rfl) rfl .none rfl rfl (LeL.refl _) ⟨rfl,rfl,trivial⟩ rfl rfl rfl ?_
  refine ev ?_
  focus (refine rn0 (r1 rfl) (.eqd ?_);all_goals (first|rfl|(simp[];done)|(simp_all;done)|(simp_all;omega)|omega))
 ·obtain⟨tl,htl,hdel⟩:=zg4 (xs:=l) (p:=fun a=>zbi w (zaZ w) 11 ⟨ta,tk⟩ a) hb zqg (B2:=[.d (sPtr w (zaZ w))]) (B3:=[.d (.i ta),.d (.i tk)]) rfl rfl (fun a ha=>zkp hs ht (hl a ha))
  have key:FnD Tryz.prog 71 [.d (sPtr w (zaZ w)),.agg [.d (.i ta),.d (.i tk)],.d (zad l)] [] (.ms 1 (l.filter (zbP w ⟨ta,tk⟩)).length) [(1,some (.box (pd (l.filter (zbP w ⟨ta,tk⟩))++tl)))]:=by
   refine bd Tryz.f71 11 [] [] fun w0 F0 own kept hk=>?_
   refine Walk.box (id:=3003) .none rfl rfl rfl rfl rfl rfl rfl ?_
   refine Walk.box (id:=3004) .none rfl rfl rfl rfl rfl rfl rfl ?_
   refine ev ?_
   refine Walk.call (cr:=[1]) zn1 (zjp hb hne) rfl .none rfl rfl (LeL.refl _) trivial rfl (by simp only[zat,List.all_cons,List.all_nil,zaE,zaz,AV.idsL,AV.ids,zhV,zab,htl,List.map_cons,List.map_nil];rfl) rfl ?_
   refine Walk.closure (xs:=[_,_]) rfl .none rfl rfl ?_
   refine Walk.call (cr:=[]) zqf (hdel) rfl .none rfl rfl (.cons (LeA.msn (by first|rfl|(simp;done))) (.cons (.refl _) .nil)) ⟨rfl,rfl,rfl,trivial⟩ rfl (by simp only[zat,List.all_cons,List.all_nil,zaE,zaz,AV.idsL,AV.ids,zhV,zab,htl,List.map_cons,List.map_nil];rfl) rfl ?_
   refine ev ?_
   refine rn [(1,some (.box (pd (l.filter (zbP w ⟨ta,tk⟩))++tl)))] (r1 rfl) (LeA.msn ?_) ⟨rfl,rfl⟩ (SubH.get ⟨?_,trivial⟩) (zbj rfl)
   rotate_left 2
   all_goals (first|((rfl);done)|(rfl))
  have h2:=key.boxD (k:=6) zrw
  rw[←Pat.cs_cd] at h2
  exact h2
structure MatchOk (w:List Data) (n m:Nat) (t:Ty) (p:Pat) (v:Val):Prop where
 shape:zaw w n t p=true
 fits:zsd w m t v=true
 pok:p.ok
 vok:v.ok
 psz:p.size≤100
 vsz:v.size≤100
theorem MatchOk.two {w:List Data}{n m:Nat}{t:Ty}{p:Pat}{v:Val} (h:MatchOk w (n+1) m t p v) (h5:p.op=5):
  p.kids.length=2∧MatchOk w n m t (nth p.kids 0) v∧MatchOk w n m t (nth p.kids 1) v:=by
 obtain⟨hl,s0,s1⟩:=zjo h.shape h5
 have hpk:=(Pat.ok_iff p).1 h.pok
 have hps:=Pat.size_eq p
 have z0:=ze0 (l:=p.kids) (i:=0) (by omega)
 have z1:=ze0 (l:=p.kids) (i:=1) (by omega)
 have hs:=h.psz
 exact⟨hl,⟨s0,h.fits,Pats.ok_mem hpk.2 _ (zal (by omega)),h.vok,by omega,h.vsz⟩,⟨s1,h.fits,Pats.ok_mem hpk.2 _ (zal (by omega)),h.vok,by omega,h.vsz⟩⟩
theorem MatchOk.one {w:List Data}{n m:Nat}{t:Ty}{p:Pat}{v:Val} (h:MatchOk w (n+1) m t p v) (h6:p.op=6):
  p.kids.length=1∧MatchOk w n m t (nth p.kids 0) v:=by
 obtain⟨hl,s0⟩:=zjn h.shape h6
 have hpk:=(Pat.ok_iff p).1 h.pok
 have hps:=Pat.size_eq p
 have z0:=ze0 (l:=p.kids) (i:=0) (by omega)
 have hs:=h.psz
 exact⟨hl,⟨s0,h.fits,Pats.ok_mem hpk.2 _ (zal (by omega)),h.vok,by omega,h.vsz⟩⟩
structure VarsOk (l:List Bd) (vs:List Vt):Prop where
 len:l.length=vs.length
 nod:(l.map Bd.var).Nodup
 sub:∀x∈l.map Bd.var,x∈vs.map Vt.var
theorem zl8 {w:List Data}{a k:Int}{l:List Cl} (h:zbD w ⟨a,k⟩ l=true):zbH w ⟨a,k⟩=true∧l.length≤8:=by
 unfold zbD at h
 simp only[Bool.and_eq_true,decide_eq_true_eq] at h
 exact⟨h.1,by omega⟩
theorem zmg {α β:Type}{g:α→List β}{K:Nat}:∀(l:List α),(∀x∈l,(g x).length≤K)→(l.flatMap g).length≤l.length*K
 | [],_=>by simp
 |x::r,h=>by
  have h1:=h x (by simp)
  have h2:=zmg r (fun y hy=>h y (by simp[hy]))
  rw[List.flatMap_cons,List.length_append,List.length_cons,Nat.add_mul];omega
theorem ze3 {w:List Data}{t:Ty}{l away:List Pat}{i:Nat} (h:i<away.length):subL w t l (away.drop i)=if (zco w t l (nth away i)).length≤400 then subL w t (zco w t l (nth away i)) (away.drop (i+1)) else none:=by
 rw[zbc h,subL]
theorem zoT {w:List Data}{t:Ty}{l away:List Pat}{i:Nat} (h:away.length≤i):subL w t l (away.drop i)=some l:=by
 rw[List.drop_eq_nil_of_le h,subL]
def zbG:List Cl→List Pat→Option (List Pat)
 | [],out=>some out
 |c::r,out=>if c.g.op=0 then (if zc1 c.pat=true then zbG r (out++zdP c.pat) else none) else zbG r out
theorem zfL {l:List Cl}{out:List Pat}{i:Nat} (h:i<l.length) (hg:¬(nth l i).g.op=0):zbG (l.drop i) out=zbG (l.drop (i+1)) out:=by
 rw[zbc h,zbG,if_neg hg]
theorem zfK {l:List Cl}{out:List Pat}{i:Nat} (h:i<l.length) (hg:(nth l i).g.op=0) (hp:zc1 (nth l i).pat=true):zbG (l.drop i) out=zbG (l.drop (i+1)) (out++zdP (nth l i).pat):=by
 rw[zbc h,zbG,if_pos hg,if_pos hp]
theorem zk4 {l:List Cl}{out:List Pat}{i:Nat} (h:i<l.length) (hg:(nth l i).g.op=0) (hp:zc1 (nth l i).pat=false):zbG (l.drop i) out=none:=by
 rw[zbc h,zbG,if_pos hg,if_neg (by rw[hp];simp)]
theorem zk5 {l:List Cl}{out:List Pat}{i:Nat} (h:l.length≤i):zbG (l.drop i) out=some out:=by
 rw[List.drop_eq_nil_of_le h,zbG]
theorem zgr (p:Pat):(zdP p).length≤40:=by unfold zdP;split;assumption;simp
theorem zpb {w:List Data}{t:Ty}{p:Pat} (h:zaw w 10 t p=true):∀x∈zdP p,zam w 10 t x=true:=fun x hx=>by
 unfold zdP at hx
 split at hx
 ·exact zgV 10 h x hx
 ·simp at hx
theorem zeA {w:List Data}{t:Ty}:∀(l:List Cl) (out r:List Pat),(∀c∈l,zaw w 10 t c.pat=true)→(∀x∈out,zam w 10 t x=true)→zbG l out=some r→r.length≤out.length+40*l.length∧∀x∈r,zam w 10 t x=true
 | [],out,r,_,ho,h=>by rw[zbG] at h;cases h;exact⟨by simp,ho⟩
 |c::l,out,r,hc,ho,h=>by
  rw[zbG] at h
  split at h
  ·split at h
   ·have:=zeA l _ r (fun x hx=>hc x (by simp[hx])) (fun x hx=>by
     rcases List.mem_append.1 hx with hx|hx
     ·exact ho x hx
     ·exact zpb (hc c (by simp)) x hx) h
    have hl:=zgr c.pat
    rw[List.length_append] at this
    exact⟨by rw[List.length_cons];omega,this.2⟩
   ·cases h
  ·have:=zeA l _ r (fun x hx=>hc x (by simp[hx])) ho h
   exact⟨by rw[List.length_cons];omega,this.2⟩
def zd1 (w:List Data) (t:Ty) (l:List Cl):Option (List Pat):=match zbG l [] with
 |none=>none
 |some away=>match zaN w t [anyQ] away with
  |none=>none
  |some r=>if r.all (isP w t)=true then some r else none
def zdr (w:List Data) (t:Ty) (l:List Cl):Option (List Pat):=if zbD w t l=true then zd1 w t l else none
theorem zeM {w:List Data}{t:Ty}:∀(away l r:List Pat),(∀a∈l,zam w 11 t a=true)→l.length≤400→(∀b∈away,zam w 10 t b=true)→subL w t l away=some r→r.length≤400∧∀x∈r,zam w 11 t x=true
 | [],l,r,hl,hn,_,h=>by rw[subL] at h;cases h;exact⟨hn,hl⟩
 |b::away,l,r,hl,hn,hb,h=>by
  rw[subL] at h
  split at h
  ·rename_i h4
   exact zeM away _ r (zgo hl (hb b (by simp))) h4 (fun x hx=>hb x (by simp[hx])) h
  ·cases h
theorem zhd {w:List Data} (hs:Spa w){ta tk:Int} (ht:InS (w.length*4) ⟨ta,tk⟩){l away:List Pat} (hl:∀a∈l,zam w 11 ⟨ta,tk⟩ a=true) (hb:∀b∈away,zam w 10 ⟨ta,tk⟩ b=true) (hll:l.length≤400) (hal:away.length≤1000):
  FnD Tryz.prog 37 [.d (sPtr w (zaZ w)),.agg [.d (.i ta),.d (.i tk)],.d (zad l),.d (zad away)] [] (.tup [.d (zad ((zaN w ⟨ta,tk⟩ l away).getD [])),.d (.bool (zaN w ⟨ta,tk⟩ l away).isSome)]) []:=by
 have hlf:(l.filter (zbP w ⟨ta,tk⟩)).length≤l.length:=List.length_filter_le _ _
 have hmb:∀(c:List Pat) (i:Nat),(∀a∈c,zam w 11 ⟨ta,tk⟩ a=true)→i<away.length→∀x∈c,(zav w 10 ⟨ta,tk⟩ x (nth away i)).length≤20000000:=fun c i hc hi x hx=>zfB hs (by omega) (by omega) ht (hc x hx) (hb _ (zal hi))
 have hnp:∀(c:List Pat) (i:Nat),(∀a∈c,zam w 11 ⟨ta,tk⟩ a=true)→i<away.length→∀x∈(c.flatMap fun a=>zav w 10 ⟨ta,tk⟩ a (nth away i)),zam w 11 ⟨ta,tk⟩ x=true:=fun c i hc hi x hx=>by
  obtain⟨a,ha,hx⟩:=List.mem_flatMap.1 hx
  exact zgn 10 11 (by omega) (hc a ha) (hb _ (zal hi)) x hx
 have hpre:∀ {pre rest c:List Pat}{y:Pat} (i:Nat),(∀a∈c,zam w 11 ⟨ta,tk⟩ a=true)→c.length≤400→i<away.length→pre++y::rest=c→(pre.flatMap fun a=>zav w 10 ⟨ta,tk⟩ a (nth away i)).length≤8000000000∧(zav w 10 ⟨ta,tk⟩ y (nth away i)).length≤20000000:=fun {pre rest c y} i hc h4 hi h=>by
  have h1:=zmg (g:=fun a=>zav w 10 ⟨ta,tk⟩ a (nth away i)) (K:=20000000) pre (fun x hx=>hmb c i hc hi x (by rw[←h];simp[hx]))
  have h2:=hmb c i hc hi y (by rw[←h];simp)
  have h3:=congrArg List.length h
  simp only[List.length_append,List.length_cons] at h3
  exact⟨by omega,h2⟩
 refine bd Tryz.f37 48 [12] [11] fun w0 F0 own kept hk=>?_
 refine Walk.box (id:=3005) .none rfl rfl rfl rfl rfl rfl rfl ?_
 refine evs [12] [] ?_
 refine Walk.call (cr:=[]) zr3 (zhR hs ht hl (by omega)) rfl .none rfl rfl (LeL.refl _) trivial rfl rfl rfl ?_
 refine evs [12] [] ?_
 refine CWp.loopX (ι:=Nat×List Pat) hk (fun s=>[(21,.d (.i (s.1:Int))),(2,.d (zad s.2))]) [8,9,11,12,14,22,23,24,25,26,27,28,29,30,31,32,33,34,35,36,37,38,39,40,41,42,43,44,45,46] (fun s=>[]) (fun s=>s.1≤away.length∧subL w ⟨ta,tk⟩ s.2 (away.drop s.1)=zaN w ⟨ta,tk⟩ l away∧(∀a∈s.2,zam w 11 ⟨ta,tk⟩ a=true)∧s.2.length≤400) (fun s=>away.length-s.1) (0,l.filter (zbP w ⟨ta,tk⟩)) ⟨by simp,rfl,fun a ha=>hl a (List.mem_filter.1 ha).1,by dsimp only;omega⟩ ⟨⟨_,rfl,(LeA.eqi (by first|rfl|(simp;done)|(simp_all;done)|omega))⟩,⟨⟨_,rfl,(by first|exact LeA.refl _|exact LeA.gld (by first|rfl|(simp;done)|(simp_all;done)|omega)|exact LeA.nild (by first|rfl|(simp;done)|(simp_all;done)|omega)|exact LeA.eqsl (by first|rfl|(simp;done)|(simp_all;done)|omega)|exact LeA.eqd (by first|rfl|(simp;done)|(simp_all;done)|omega))⟩,trivial⟩⟩ trivial (fun x=>rfl) (fun s hg1=>?_)
 refine evc [12] [11] ?_
 refine sq (fun h1 h1p h1s=>?_) fun h1 h1p h1s=>?_
 try simp only[Q,Pat.cs_len] at h1p
 refine Walk.idx sl28 .none rfl rfl rfl rfl (zaK (by omega)) rfl ?_
 refine evs [12] [] ?_
 refine Walk.alloc (id:=3011) tz77 rfl .none rfl rfl rfl rfl ?_
 refine Walk.store ty77 .none rfl rfl rfl rfl rfl rfl (by simp) rfl ?_
 refine tv ?_
 refine Walk.assignNil 9 6 .none rfl rfl ?_
 refine tv ?_
 refine CWp.loopX (ι:=List (Pat)×List (Pat)) hk (fun x=>[(27,.d (.i (x.1.length:Int))),(12,.gl 9 (Pat.cs (x.1.flatMap fun a=>zav w 10 ⟨ta,tk⟩ a (nth away s.1))))]) [14,28,29,30,31,32,33,34,35,36,37,38] (fun x=>[(9,some (.tok ((Pat.cs (x.1.flatMap fun a=>zav w 10 ⟨ta,tk⟩ a (nth away s.1)))).length 6))]) (fun x=>x.1++x.2=s.2) (fun x=>x.2.length) ([],s.2) (by simp) ⟨⟨_,rfl,(LeA.eqi (by first|rfl|(rw[List.flatMap_append,Pat.cs_cd,Pat.cs_cd,Pat.cs_cd,List.map_append];simp;done)|(simp[Pat.cs_len];done)|omega))⟩,⟨⟨_,rfl,(LeA.glg (by first|rfl|(rw[List.flatMap_append,Pat.cs_cd,Pat.cs_cd,Pat.cs_cd,List.map_append];simp;done)|(simp[Pat.cs_len];done)|omega))⟩,trivial⟩⟩ ⟨zae (by first|rfl|(simp;done)|(simp;omega)|(first|rfl|(rw[List.flatMap_append,Pat.cs_cd,Pat.cs_cd,Pat.cs_cd,List.map_append];simp;done)|(simp[Pat.cs_len];done)|omega)),trivial⟩ (fun x=>rfl) (fun x hg2=>?_)
 obtain⟨pre,rest⟩:=x
 dsimp only at hg2 ⊢
 refine evc [12] [11] ?_
 refine sq (fun h2 h2p h2s=>?_) fun h2 h2p h2s=>?_
 try simp only[Q,Pat.cs_len] at h2p
 rcases rest with _|⟨y,rest⟩
 ·exfalso;simp_all
 refine Walk.idx sl28 .none rfl rfl rfl rfl (Pat.cs_at' hg2) rfl ?_
 refine evs [12] [] ?_
 refine Walk.alloc (id:=3014) tz77 rfl .none rfl rfl rfl rfl ?_
 refine Walk.store ty77 .none rfl rfl rfl rfl rfl rfl (by simp) rfl ?_
 refine tv ?_
 refine Walk.call (cr:=[]) zpM (ziA hs 10 11 (by omega) (by omega) (by omega) ht (hg1.2.2.1 y (by rw[←hg2];simp)) (hb _ (zal (by omega)))) rfl .none rfl rfl (LeL.refl _) trivial rfl rfl rfl ?_
 refine Walk.append sl28 zz77 rfl .none rfl rfl rfl rfl (zaG rfl (by first|rfl|(simp;done)|(simp;omega))) (by exact zbm _) (by have h9:=hpre s.1 hg1.2.2.1 hg1.2.2.2 (by omega) hg2;simp only[Pat.cs_len];omega) (by have h9:=hpre s.1 hg1.2.2.1 hg1.2.2.2 (by omega) hg2;simp only[Pat.cs_len];omega) ?_
 refine asg ?_
 refine tv ?_
 refine ar ?_
 refine Exists.intro ((pre++[y],rest)) ⟨(by have hz:=hg2;rw[←hz];simp),(by simp),Sub.x (by kernel_rfl) (by kernel_rfl) ⟨⟨_,rfl,(LeA.eqi (by first|rfl|(rw[List.flatMap_append,Pat.cs_cd,Pat.cs_cd,Pat.cs_cd,List.map_append];simp;done)|(simp[Pat.cs_len];done)|omega))⟩,⟨⟨_,rfl,(LeA.glg (by first|rfl|(rw[List.flatMap_append,Pat.cs_cd,Pat.cs_cd,Pat.cs_cd,List.map_append];simp;done)|(simp[Pat.cs_len];done)|omega))⟩,trivial⟩⟩ (by kernel_rfl) (by kernel_rfl) ⟨zae (by first|rfl|(simp;done)|(simp;omega)|(first|rfl|(rw[List.flatMap_append,Pat.cs_cd,Pat.cs_cd,Pat.cs_cd,List.map_append];simp;done)|(simp[Pat.cs_len];done)|omega)),trivial⟩⟩
 try simp only[Q,Pat.cs_len] at h2p
 have hrest:rest=[]:=by
  rcases rest with _|⟨a,b⟩
  ·rfl
  ·exfalso;have hz:=congrArg List.length (hg2);simp only[List.length_append,List.length_cons,List.length_map] at hz;omega
 subst hrest
 obtain rfl:pre=s.2:=(by simpa using hg2)
 refine evc [12] [] ?_
 refine Walk.call (cr:=[]) zr3 (zhR hs ht (l:=s.2.flatMap fun a=>zav w 10 ⟨ta,tk⟩ a (nth away s.1)) (hnp s.2 s.1 hg1.2.2.1 (by omega)) (by have:=zmg (g:=fun a=>zav w 10 ⟨ta,tk⟩ a (nth away s.1)) (K:=20000000) s.2 (hmb s.2 s.1 hg1.2.2.1 (by omega));omega)) rfl .none rfl rfl (.cons (.refl _) (.cons (.refl _) (.cons (.gl _ _) .nil))) trivial rfl rfl rfl ?_
 refine evs [12] [] ?_
 refine sq (fun h3 h3p h3s=>?_) fun h3 h3p h3s=>?_
 try simp only[Q,Pat.cs_len] at h3p
 refine rn0 (r2 rfl rfl) (.tup (.cons (.nild ?_) (.cons (.eqd ?_) .nil)))
 rotate_left 2
 try simp only[Q,Pat.cs_len] at h3p
 refine ar ?_
 refine Exists.intro ((s.1+1,zco w ⟨ta,tk⟩ s.2 (nth away s.1))) ⟨(by
    have h4:(zco w ⟨ta,tk⟩ s.2 (nth away s.1)).length≤400:=by unfold zco;omega
    refine⟨by dsimp only;omega, ?_,zgo hg1.2.2.1 (hb _ (zal (by omega))),h4⟩
    have e:=ze3 (w:=w) (t:=⟨ta,tk⟩) (l:=s.2) (away:=away) (i:=s.1) (by omega)
    rw[if_pos h4] at e
    dsimp only
    rw[←e];exact hg1.2.1),(by dsimp only;omega),Sub.x (by kernel_rfl) (by kernel_rfl) ⟨⟨_,rfl,(LeA.eqi (by first|rfl|(simp;done)|(simp_all;done)|omega))⟩,⟨⟨_,rfl,(by first|exact LeA.refl _|exact LeA.gld (by first|rfl|(simp;done)|(simp_all;done)|omega)|exact LeA.nild (by first|rfl|(simp;done)|(simp_all;done)|omega)|exact LeA.eqsl (by first|rfl|(simp;done)|(simp_all;done)|omega)|exact LeA.eqd (by first|rfl|(simp;done)|(simp_all;done)|omega))⟩,trivial⟩⟩ (by kernel_rfl) (by kernel_rfl) trivial⟩
 try simp only[Q,Pat.cs_len] at h1p
 refine rn0 (r2 rfl rfl) (.tup (.cons (.eqd ?_) (.cons (.eqd ?_) .nil)))
 rotate_left 2
 all_goals (first|rfl|(rw[←hg1.2.1,ze3 (by omega),if_neg (by assumption)];rfl)|(rw[←hg1.2.1,ze3 (by omega),if_neg (by unfold zco;omega)];rfl)|(rw[←hg1.2.1,zoT (by omega)];rfl))
theorem zgP {w:List Data}{t:Ty}{l:List Cl} (hl:l.length≤8) (hc:∀c∈l,zaw w 10 t c.pat=true∧c.pat.ok):
  FnD Tryz.prog 35 [.d (zbM l)] [] (.tup [.d (zad ((zbG l []).getD [])),.d (.bool (zbG l []).isSome)]) []:=by
 have hpl:=fun(i:Nat)=>zgr (nth l i).pat
 refine bd Tryz.f35 32 [4] [] fun w0 F0 own kept hk=>?_
 refine Walk.assignNil 9 6 .none rfl rfl ?_
 refine tv ?_
 refine CWp.loopX (ι:=Nat×List Pat) hk (fun s=>[(11,.d (.i (s.1:Int))),(4,.gl 9 (Pat.cs s.2))]) [2,3,6,7,8,12,13,14,15,16,17,18,19,20,21,22,23,24,25,26,27,28,29,30] (fun s=>[(9,some (.tok ((Pat.cs s.2)).length 6))]) (fun s=>s.1≤l.length∧zbG (l.drop s.1) s.2=zbG l []∧s.2.length≤40*s.1) (fun s=>l.length-s.1) (0,[]) ⟨by simp,rfl,by simp⟩ ⟨⟨_,rfl,(LeA.eqi (by first|rfl|(rw[if_pos (by assumption),Pat.cs_cd,Pat.cs_cd,Pat.cs_cd,List.map_append];done)|(rw[if_neg (by assumption)];done)|(rw[if_pos (by assumption)];simp[Pat.cs_len];done)|(rw[if_neg (by assumption)];simp[Pat.cs_len];done)|(simp;done)|omega))⟩,⟨⟨_,rfl,(LeA.glg (by first|rfl|(rw[if_pos (by assumption),Pat.cs_cd,Pat.cs_cd,Pat.cs_cd,List.map_append];done)|(rw[if_neg (by assumption)];done)|(rw[if_pos (by assumption)];simp[Pat.cs_len];done)|(rw[if_neg (by assumption)];simp[Pat.cs_len];done)|(simp;done)|omega))⟩,trivial⟩⟩ ⟨zae (by first|rfl|(simp;done)|(simp;omega)|(first|rfl|(rw[if_pos (by assumption),Pat.cs_cd,Pat.cs_cd,Pat.cs_cd,List.map_append];done)|(rw[if_neg (by assumption)];done)|(rw[if_pos (by assumption)];simp[Pat.cs_len];done)|(rw[if_neg (by assumption)];simp[Pat.cs_len];done)|(simp;done)|omega)),trivial⟩ (fun x=>rfl) (fun s hg1=>?_)
 refine evc [4] [] ?_
 refine sq (fun h1 h1p h1s=>?_) fun h1 h1p h1s=>?_
 try simp only[Q,Pat.cs_len] at h1p
 refine Walk.idx sl35 .none rfl rfl rfl rfl (zay (by omega)) rfl ?_
 refine evs [4] [] ?_
 refine Walk.alloc (id:=3006) tz85 rfl .none rfl rfl rfl rfl ?_
 refine Walk.store ty85 .none rfl rfl rfl rfl rfl rfl (by simp) rfl ?_
 refine tv ?_
 refine sq (fun h2 h2p h2s=>?_) fun h2 h2p h2s=>?_
 try simp only[Q,Pat.cs_len] at h2p
 refine ar ?_
 refine Exists.intro ((s.1+1,if (nth l s.1).g.op=0 then s.2++zdP (nth l s.1).pat else s.2)) ⟨(by
    have h9:=hpl s.1
    by_cases hz:(nth l s.1).g.op=0
    ·refine⟨by dsimp only;omega, ?_, ?_⟩
     ·dsimp only
      rw[if_pos hz,←zfK (out:=s.2) (by omega) hz (by simp_all)];exact hg1.2.1
     ·dsimp only
      rw[if_pos hz,List.length_append];omega
    ·refine⟨by dsimp only;omega, ?_, ?_⟩
     ·dsimp only
      rw[if_neg hz,←zfL (out:=s.2) (by omega) hz];exact hg1.2.1
     ·dsimp only
      rw[if_neg hz];omega),(by dsimp only;omega),Sub.x (by kernel_rfl) (by kernel_rfl) ⟨⟨_,rfl,(LeA.eqi (by first|rfl|(rw[if_pos (by assumption),Pat.cs_cd,Pat.cs_cd,Pat.cs_cd,List.map_append];done)|(rw[if_neg (by assumption)];done)|(rw[if_pos (by assumption)];simp[Pat.cs_len];done)|(rw[if_neg (by assumption)];simp[Pat.cs_len];done)|(simp;done)|omega))⟩,⟨⟨_,rfl,(LeA.glg (by first|rfl|(rw[if_pos (by assumption),Pat.cs_cd,Pat.cs_cd,Pat.cs_cd,List.map_append];done)|(rw[if_neg (by assumption)];done)|(rw[if_pos (by assumption)];simp[Pat.cs_len];done)|(rw[if_neg (by assumption)];simp[Pat.cs_len];done)|(simp;done)|omega))⟩,trivial⟩⟩ (by kernel_rfl) (by kernel_rfl) ⟨zae (by first|rfl|(simp;done)|(simp;omega)|(first|rfl|(rw[if_pos (by assumption),Pat.cs_cd,Pat.cs_cd,Pat.cs_cd,List.map_append];done)|(rw[if_neg (by assumption)];done)|(rw[if_pos (by assumption)];simp[Pat.cs_len];done)|(rw[if_neg (by assumption)];simp[Pat.cs_len];done)|(simp;done)|omega)),trivial⟩⟩
 try simp only[Q,Pat.cs_len] at h2p
 refine Walk.call (cr:=[]) ztX (znz (hc _ (zal (i:=s.1) (by omega))).1 (hc _ (zal (by omega))).2) rfl .none rfl rfl (LeL.refl _) trivial rfl rfl rfl ?_
 refine evs [4] [] ?_
 refine sq (fun h3 h3p h3s=>?_) fun h3 h3p h3s=>?_
 try simp only[Q,Pat.cs_len] at h3p
 refine rn0 (r2 rfl rfl) (.tup (.cons (.nild ?_) (.cons (.eqd ?_) .nil)))
 rotate_left 2
 try simp only[Q,Pat.cs_len] at h3p
 refine Walk.append sl28 zz77 rfl .none rfl rfl rfl rfl (zaG rfl (by first|rfl|(simp;done)|(simp;omega))) (by exact zbm _) (by have:=hpl s.1;simp only[Pat.cs_len];omega) (by have:=hpl s.1;simp only[Pat.cs_len];omega) ?_
 refine asg ?_
 refine tv ?_
 refine ar ?_
 refine Exists.intro ((s.1+1,if (nth l s.1).g.op=0 then s.2++zdP (nth l s.1).pat else s.2)) ⟨(by
    have h9:=hpl s.1
    by_cases hz:(nth l s.1).g.op=0
    ·refine⟨by dsimp only;omega, ?_, ?_⟩
     ·dsimp only
      rw[if_pos hz,←zfK (out:=s.2) (by omega) hz (by simp_all)];exact hg1.2.1
     ·dsimp only
      rw[if_pos hz,List.length_append];omega
    ·refine⟨by dsimp only;omega, ?_, ?_⟩
     ·dsimp only
      rw[if_neg hz,←zfL (out:=s.2) (by omega) hz];exact hg1.2.1
     ·dsimp only
      rw[if_neg hz];omega),(by dsimp only;omega),Sub.x (by kernel_rfl) (by kernel_rfl) ⟨⟨_,rfl,(LeA.eqi (by first|rfl|(rw[if_pos (by assumption),Pat.cs_cd,Pat.cs_cd,Pat.cs_cd,List.map_append];done)|(rw[if_neg (by assumption)];done)|(rw[if_pos (by assumption)];simp[Pat.cs_len];done)|(rw[if_neg (by assumption)];simp[Pat.cs_len];done)|(simp;done)|omega))⟩,⟨⟨_,rfl,(LeA.glg (by first|rfl|(rw[if_pos (by assumption),Pat.cs_cd,Pat.cs_cd,Pat.cs_cd,List.map_append];done)|(rw[if_neg (by assumption)];done)|(rw[if_pos (by assumption)];simp[Pat.cs_len];done)|(rw[if_neg (by assumption)];simp[Pat.cs_len];done)|(simp;done)|omega))⟩,trivial⟩⟩ (by kernel_rfl) (by kernel_rfl) ⟨zae (by first|rfl|(simp;done)|(simp;omega)|(first|rfl|(rw[if_pos (by assumption),Pat.cs_cd,Pat.cs_cd,Pat.cs_cd,List.map_append];done)|(rw[if_neg (by assumption)];done)|(rw[if_pos (by assumption)];simp[Pat.cs_len];done)|(rw[if_neg (by assumption)];simp[Pat.cs_len];done)|(simp;done)|omega)),trivial⟩⟩
 try simp only[Q,Pat.cs_len] at h1p
 refine rn0 (r2 rfl rfl) (.tup (.cons (.gld ?_) (.cons (.eqd ?_) .nil)))
 rotate_left 2
 all_goals (first|rfl|(rw[←hg1.2.1,zk4 (by omega) (by first|assumption|(simp_all;done)) (by assumption)];rfl)|(rw[←hg1.2.1,zk5 (by omega)];rfl))
theorem zgQ {w:List Data} (hs:Spa w){f:Nat→Nat}{ta tk:Int} (ht:InS (w.length*4) ⟨ta,tk⟩){p:Pat} (hp:p.ok):
  FnD Tryz.prog 74 [.agg [.d (.i p.op),.d (.i p.ctor),.d (.i p.n),.d (.i p.m),.d (.i p.var),.d (zad p.kids)],.ref 3004 0,.ref 3005 0] [(3004,some (.box [.d (sPtr w f)])),(3005,some (.box [.d (.i ta),.d (.i tk)]))] (.d (.bool (!isP w ⟨ta,tk⟩ p))) []:=by
 refine bd Tryz.f74 13 [] [] fun w0 F0 own kept hk=>?_
 refine Walk.box (id:=3001) .none rfl rfl rfl rfl rfl rfl rfl ?_
 refine ev ?_
 refine Walk.call (cr:=[]) ztZ (zjV hs.dp.wt (zcR ht) hp) rfl .none rfl rfl (LeL.refl _) trivial rfl rfl rfl ?_
 refine evd [] [] ?_
 refine dr ?_
 refine rn [] (r1 rfl) (.eqd ?_) ⟨rfl,rfl⟩ (SubH.get ⟨rfl,⟨rfl,trivial⟩⟩) (fun _ h=>h)
 rotate_left
 all_goals (rfl)
theorem zmk {w:List Data} (hs:Spa w){f:Nat→Nat}{ta tk:Int} (ht:InS (w.length*4) ⟨ta,tk⟩){l:List Pat}{ok:Bool} (hl:∀a∈l,a.ok) (hb:l.length≤1000000000000):
  FnD Tryz.prog 39 [.d (sPtr w f),.agg [.d (.i ta),.d (.i tk)],.d (zad l),.d (.bool ok)] [] (.tup [.d (zad (if (ok&&l.all (isP w ⟨ta,tk⟩))=true then l else [])),.d (.bool (ok&&l.all (isP w ⟨ta,tk⟩)))]) []:=by
 have hall:(l.any fun p=> !isP w ⟨ta,tk⟩ p) = !(l.all (isP w ⟨ta,tk⟩)):=by
  induction l with
  |nil=>rfl
  |cons x r ih=>rw[List.any_cons,List.all_cons,ih (fun a ha=>hl a (by simp[ha])) (by simp at hb;omega),Bool.not_and]
 have hcf:=zdQ (xs:=l) (p:=fun p=> !isP w ⟨ta,tk⟩ p) (caps:=[.ref 3004 0,.ref 3005 0]) (hp:=[(3004,some (.box [.d (sPtr w f)])),(3005,some (.box [.d (.i ta),.d (.i tk)]))]) hb zr5 (fun q hq=>zgQ hs ht (hl q hq)) ⟨rfl,rfl,trivial⟩ rfl rfl
 rw[hall] at hcf
 clear hall
 generalize l.all (isP w ⟨ta,tk⟩)=q at hcf ⊢
 refine bd Tryz.f39 19 [] [] fun w0 F0 own kept hk=>?_
 refine Walk.box (id:=3004) .none rfl rfl rfl rfl rfl rfl rfl ?_
 refine Walk.box (id:=3005) .none rfl rfl rfl rfl rfl rfl rfl ?_
 refine ev ?_
 refine sq (fun h1 h1p h1s=>?_) fun h1 h1p h1s=>?_
 try simp only[Q] at h1p
 refine sqT ?_
 refine rn0 (r2 rfl rfl) (.tup (.cons (.nild ?_) (.cons (.eqd ?_) .nil)))
 rotate_left 2
 try simp only[Q] at h1p
 refine Walk.closure (xs:=[_,_]) rfl (.some rfl rfl h1) rfl rfl ?_
 refine Walk.call (cr:=[]) zr4 (hcf) rfl (.some rfl rfl h1) rfl rfl (LeL.refl _) ⟨rfl,rfl,trivial⟩ rfl rfl rfl ?_
 refine evs [] [(12,false)] ?_ ⟨⟨_,rfl,h1⟩,trivial⟩
 refine sq (fun h3 h3p h3s=>?_) fun h3 h3p h3s=>?_
 try simp only[Q] at h3p
 refine rn0 (r2 rfl rfl) (.tup (.cons (.nild ?_) (.cons (.eqd ?_) .nil)))
 rotate_left 2
 try simp only[Q] at h3p
 refine Walk.call (cr:=[]) zr6 (ziJ hb hl) rfl .none rfl rfl (LeL.refl _) trivial rfl rfl rfl ?_
 refine ev ?_
 refine rn0 (r2 rfl rfl) (.tup (.cons (.eqd ?_) (.cons (.eqd ?_) .nil)))
 rotate_left 2
 all_goals (first|rfl|(cases ok<;>cases q<;>first|rfl|(exfalso;simp_all;done)))
theorem zi0 {w:List Data}{t:Ty}{l:List Cl} (h:zbD w t l=true) (hl:ClsOk l):∀c∈l,zaw w 10 t c.pat=true∧c.pat.ok:=fun c hc=>by
 unfold zbD at h
 simp only[Bool.and_eq_true,Bool.not_eq_true',List.any_eq_false,Bool.not_eq_true] at h
 have h4:clOk w t c=true:=by simpa using h.2.2 c hc
 unfold clOk isP at h4
 simp only[Bool.and_eq_true] at h4
 exact⟨h4.1.1,hl.2 c hc⟩
theorem zeU {w:List Data}{t:Ty}:∀a∈[anyQ],zam w 11 t a=true:=fun a ha=>by
 rw[List.mem_singleton.1 ha];exact ziO
theorem zg3 {w:List Data} (hs:WSmall w){a k:Int}{l:List Cl} (hl:ClsOk l):
  FnD Tryz.prog 12 [.d (zao w),.agg [.d (.i a),.d (.i k)],.d (zbM l)] [] (.tup [.d (zad ((zdr w ⟨a,k⟩ l).getD [])),.d (.bool (zdr w ⟨a,k⟩ l).isSome)]) []:=by
 have hcv:=zfb hs (a:=a) (k:=k) hl
 by_cases hv:zbD w ⟨a,k⟩ l=true
 ·have hm:zdr w ⟨a,k⟩ l=zd1 w ⟨a,k⟩ l:=by unfold zdr;rw[if_pos hv]
  rw[hm]
  have htv:=zl8 hv
  have hsp:=zkK hs (zdo htv.1).1
  have hsh:=zi0 hv hl
  have hin:InS (w.length*4) ⟨a,k⟩:=by
   obtain⟨_,_,h3⟩:=zdo htv.1
   by_cases ha:a = -1
   ·exact .inl ha
   ·obtain⟨h4,h5,h6,h7⟩:=h3 ha
    have:=zor (n:=w.length) h5 (j:=k.toNat) (by omega)
    rwa [Int.toNat_of_nonneg h4,Int.toNat_of_nonneg h6] at this
  have hco:=zgP (w:=w) (t:=⟨a,k⟩) htv.2 hsh
  cases hq:zbG l [] with
  |none=>
   have e:zd1 w ⟨a,k⟩ l=none:=by unfold zd1;rw[hq]
   rw[hq] at hco
   rw[e]
   refine bd Tryz.f12 42 [] [] fun w0 F0 own kept hk=>?_
   refine Walk.box (id:=3004) .none rfl rfl rfl rfl rfl rfl rfl ?_
   refine ev ?_
   refine Walk.call (cr:=[]) znK (hcv) rfl .none rfl rfl (LeL.refl _) trivial rfl rfl rfl ?_
   refine ev ?_
   refine sq (fun h1 h1p h1s=>?_) fun h1 h1p h1s=>?_
   try simp only[Q] at h1p
   exfalso;rw[hv] at h1;exact absurd h1 (by simp)
   try simp only[Q] at h1p
   refine Walk.call (cr:=[]) zpK (hco) rfl .none rfl rfl (LeL.refl _) trivial rfl rfl rfl ?_
   refine ev ?_
   refine sq (fun h2 h2p h2s=>?_) fun h2 h2p h2s=>?_
   try simp only[Q] at h2p
   refine rn0 (r2 rfl rfl) (.tup (.cons (.nild ?_) (.cons (.eqd ?_) .nil)))
   rotate_left 2
   try simp only[Q] at h2p
   exfalso;exact absurd h2 (by simp)
   all_goals (rfl)
  |some away=>
   rw[hq] at hco
   obtain⟨p1,p2⟩:=zeA l [] away (fun c hc=>(hsh c hc).1) (by simp) hq
   have hwo:=zhd hsp hin (l:=[anyQ]) (away:=away) zeU p2 (by simp) (by simp at p1;omega)
   have hrl:(zaN w ⟨a,k⟩ [anyQ] away).isSome=true→((zaN w ⟨a,k⟩ [anyQ] away).getD []).length≤400∧∀x∈(zaN w ⟨a,k⟩ [anyQ] away).getD [],zam w 11 ⟨a,k⟩ x=true:=fun h=>by
    cases hw:zaN w ⟨a,k⟩ [anyQ] away with
    |none=>rw[hw] at h;cases h
    |some r=>exact zeM away _ r (fun x hx=>zeU x (List.mem_filter.1 hx).1) (Nat.le_trans (List.length_filter_le _ _) (by simp)) p2 hw
   have hrl2:((zaN w ⟨a,k⟩ [anyQ] away).getD []).length≤400∧∀x∈(zaN w ⟨a,k⟩ [anyQ] away).getD [],x.ok:=by
    cases hw:zaN w ⟨a,k⟩ [anyQ] away with
    |none=>exact⟨by simp,by simp⟩
    |some r=>
     have:=hrl (by rw[hw];rfl)
     rw[hw] at this
     exact⟨this.1,fun x hx=>(zfC hsp 11 hin (this.2 x hx)).1⟩
   have hre:=zmk hsp (f:=zaZ w) hin (l:=(zaN w ⟨a,k⟩ [anyQ] away).getD []) (ok:=(zaN w ⟨a,k⟩ [anyQ] away).isSome) hrl2.2 (by omega)
   have e:zd1 w ⟨a,k⟩ l=if ((zaN w ⟨a,k⟩ [anyQ] away).isSome&&((zaN w ⟨a,k⟩ [anyQ] away).getD []).all (isP w ⟨a,k⟩))=true then some ((zaN w ⟨a,k⟩ [anyQ] away).getD []) else none:=by
    unfold zd1
    rw[hq]
    cases hw:zaN w ⟨a,k⟩ [anyQ] away with
    |none=>simp[hw]
    |some r=>simp[hw]
   rw[e]
   generalize ((zaN w ⟨a,k⟩ [anyQ] away).isSome&&((zaN w ⟨a,k⟩ [anyQ] away).getD []).all (isP w ⟨a,k⟩))=q at hre ⊢
   refine bd Tryz.f12 42 [] [] fun w0 F0 own kept hk=>?_
   refine Walk.box (id:=3004) .none rfl rfl rfl rfl rfl rfl rfl ?_
   refine ev ?_
   refine Walk.call (cr:=[]) znK (hcv) rfl .none rfl rfl (LeL.refl _) trivial rfl rfl rfl ?_
   refine ev ?_
   refine sq (fun h1 h1p h1s=>?_) fun h1 h1p h1s=>?_
   try simp only[Q] at h1p
   exfalso;rw[hv] at h1;exact absurd h1 (by simp)
   try simp only[Q] at h1p
   refine Walk.call (cr:=[]) zpK (hco) rfl .none rfl rfl (LeL.refl _) trivial rfl rfl rfl ?_
   refine ev ?_
   refine sq (fun h2 h2p h2s=>?_) fun h2 h2p h2s=>?_
   try simp only[Q] at h2p
   exfalso;exact absurd h2 (by simp)
   try simp only[Q] at h2p
   refine Walk.call (cr:=[]) zrT (zga hsp.dp) rfl .none rfl rfl (LeL.refl _) trivial rfl rfl rfl ?_
   refine ev ?_
   refine Walk.call (cr:=[]) znL (zdd) rfl .none rfl rfl (LeL.refl _) trivial rfl rfl rfl ?_
   refine Walk.sliceLit sl28 tz77 rfl (by decide) (ks:=[0]) (xs:=[_]) rfl rfl (by decide) (by decide) .none rfl rfl rfl rfl ?_
   refine evd [] [] ?_
   refine Walk.call (cr:=[]) zrU (hwo) rfl .none rfl rfl (LeL.refl _) trivial rfl rfl rfl ?_
   refine evd [] [] ?_
   refine dr ?_
   refine Walk.call (cr:=[]) zrV (hre) rfl .none rfl rfl (LeL.refl _) trivial rfl rfl rfl ?_
   refine ev ?_
   refine rn0 (r2 rfl rfl) (.tup (.cons (.eqd ?_) (.cons (.eqd ?_) .nil)))
   rotate_left 2
   all_goals (first|rfl|(cases q<;>rfl))
 ·have hv':zbD w ⟨a,k⟩ l=false:=by simpa using hv
  have hm:zdr w ⟨a,k⟩ l=none:=by unfold zdr;rw[if_neg hv]
  rw[hm]
  rw[hv'] at hcv
  refine bd Tryz.f12 42 [] [] fun w0 F0 own kept hk=>?_
  refine Walk.box (id:=3004) .none rfl rfl rfl rfl rfl rfl rfl ?_
  refine ev ?_
  refine Walk.call (cr:=[]) znK (hcv) rfl .none rfl rfl (LeL.refl _) trivial rfl rfl rfl ?_
  refine ev ?_
  refine sq (fun h1 h1p h1s=>?_) fun h1 h1p h1s=>?_
  try simp only[Q] at h1p
  refine rn0 (r2 rfl rfl) (.tup (.cons (.nild ?_) (.cons (.eqd ?_) .nil)))
  rotate_left 2
  try simp only[Q] at h1p
  exfalso;exact absurd h1 (by simp)
  all_goals (rfl)
def zlh (w:List Data) (t:Ty) (b a:Pat):List Pat:=(zav w 10 t a b).filter (zbP w t)
def zdt (w:List Data) (t:Ty) (l:List Pat) (b:Pat) (k:Nat):List Pat:=(l.take k).flatMap (zlh w t b)
theorem zlC {w:List Data}{t:Ty}{l:List Pat}{b:Pat}:zco w t l b=l.flatMap (zlh w t b):=by
 unfold zco
 induction l with
 |nil=>rfl
 |cons x r ih=>rw[List.flatMap_cons,List.filter_append,List.flatMap_cons,ih];rfl
theorem zaT {w:List Data}{t:Ty}{l:List Pat}{b:Pat}{k:Nat} (h:l.length≤k):zdt w t l b k=zco w t l b:=by
 rw[zlC,zdt,List.take_of_length_le h]
theorem zcd {w:List Data}{t:Ty}{l:List Pat}{b:Pat}{k:Nat} (h:k<l.length):zdt w t l b (k+1)=zdt w t l b k++zlh w t b (nth l k):=by
 unfold zdt
 have e:l[k]?=some (nth l k):=by simpa using zay (f:=id) h
 rw[List.take_add_one,e,List.flatMap_append]
 simp
theorem zrt {w:List Data}{t:Ty}{l:List Pat}{b:Pat} (k:Nat):(zdt w t l b k).length≤(zco w t l b).length:=by
 rw[zlC,zdt]
 conv=>rhs;rw[←List.take_append_drop k l,List.flatMap_append]
 rw[List.length_append];omega
theorem zhs {w:List Data} (hs:Spa w):∀(n:Nat){ta tk:Int}{p:Pat},InS (w.length*4) ⟨ta,tk⟩→zam w n ⟨ta,tk⟩ p=true→
  FnD Tryz.prog 167 [.d (zao w),.d (zhM (w.length*4) (zaZ w)),.agg [.d (.i ta),.d (.i tk)],.agg [.d (.i (p).op),.d (.i (p).ctor),.d (.i (p).n),.d (.i (p).m),.d (.i (p).var),.d (zad (p).kids)]] [] (.d (.bool (!zbi w (zaZ w) n ⟨ta,tk⟩ p))) []
 |0,ta,tk,p,_,h=>by simp[zam] at h
 |n+1,ta,tk,p,ht,h=>by
  have hdp:=zlQ (f:=zaZ w) ht (by have:=hs.dp.four;omega)
  by_cases h1:p.op=1
  ·rw[zhL h1]
   refine bd Tryz.f167 45 [] [] fun w0 F0 own kept hk=>?_
   refine Walk.box (id:=3006) .none rfl rfl rfl rfl rfl rfl rfl ?_
   refine Walk.box (id:=3007) .none rfl rfl rfl rfl rfl rfl rfl ?_
   refine ev ?_
   refine sq (fun h1 h1p h1s=>?_) fun h1 h1p h1s=>?_
   try simp only[Q] at h1p
   refine Walk.call (cr:=[]) zql (hdp) rfl .none rfl rfl (LeL.refl _) trivial rfl rfl rfl ?_
   refine ev ?_
   refine rn0 (r1 rfl) (.eqd ?_)
   rotate_left
   try simp only[Q] at h1p
   exfalso;omega
   all_goals (refine congrArg D.bool ?_;rw[Bool.eq_iff_iff];simp;omega)
  by_cases h3:p.op=3
  ·rw[zmc h h3]
   refine bd Tryz.f167 45 [] [] fun w0 F0 own kept hk=>?_
   refine Walk.box (id:=3006) .none rfl rfl rfl rfl rfl rfl rfl ?_
   refine Walk.box (id:=3007) .none rfl rfl rfl rfl rfl rfl rfl ?_
   refine ev ?_
   refine sq (fun h1 h1p h1s=>?_) fun h1 h1p h1s=>?_
   try simp only[Q] at h1p
   exfalso;omega
   try simp only[Q] at h1p
   refine sq (fun h2 h2p h2s=>?_) fun h2 h2p h2s=>?_
   try simp only[Q] at h2p
   refine rn0 (r1 rfl) (.eqd ?_)
   rotate_left
   try simp only[Q] at h2p
   exfalso;omega
   all_goals (rfl)
  have h4:p.op=4:=by have:=zck h;omega
  obtain⟨c1,c2,c3,-⟩:=zbh h h4
  have h3l:=hs.args ⟨ta,tk⟩ p.ctor ht c1
  have hk:=fun i (hi:i<p.kids.length)=>zbw h hi
  rw[zbK h4] at hk
  rw[zmd h4,Bool.not_not]
  have ih:=fun i (hi:i<p.kids.length)=>zhs hs n (ta:=(nth (zaj w ⟨ta,tk⟩ p.ctor) i).data) (tk:=(nth (zaj w ⟨ta,tk⟩ p.ctor) i).index) (p:=nth p.kids i) (zcz hs.dp ht c1 _ (zal (by omega))) (hk i hi)
  refine bd Tryz.f167 45 [] [] fun w0 F0 own kept hk=>?_
  refine Walk.box (id:=3006) .none rfl rfl rfl rfl rfl rfl rfl ?_
  refine Walk.box (id:=3007) .none rfl rfl rfl rfl rfl rfl rfl ?_
  refine ev ?_
  refine sq (fun h1 h1p h1s=>?_) fun h1 h1p h1s=>?_
  try simp only[Q,Pat.cs_len] at h1p
  exfalso;omega
  try simp only[Q,Pat.cs_len] at h1p
  refine sq (fun h2 h2p h2s=>?_) fun h2 h2p h2s=>?_
  try simp only[Q,Pat.cs_len] at h2p
  exfalso;omega
  try simp only[Q,Pat.cs_len] at h2p
  refine Walk.call (cr:=[]) ziX (zdR hs.dp.wt (zcR ht) c1) rfl .none rfl rfl (LeL.refl _) trivial rfl rfl rfl ?_
  refine ev ?_
  refine CWp.loopX (ι:=Nat) hk (fun i=>[(10,.d (.i (i:Int)))]) [8,26,27,28,29,30,31,32,33,34,35,36,37,38,39,40,41,42,43,44] (fun i=>[]) (fun i=>i≤(zaj w ⟨ta,tk⟩ p.ctor).length∧∀i',i'<i→(!zbi w (zaZ w) n (nth (zaj w ⟨ta,tk⟩ p.ctor) i') (nth p.kids i'))=true) (fun i=>(zaj w ⟨ta,tk⟩ p.ctor).length-i) 0 ⟨by omega,fun _ h=>absurd h (by omega)⟩ ⟨⟨_,rfl,(LeA.eqi (by first|rfl|(simp;done)|(simp_all;done)|omega))⟩,trivial⟩ trivial (fun x=>rfl) (fun i hg1=>?_)
  refine evc [] [] ?_
  refine sq (fun h3 h3p h3s=>?_) fun h3 h3p h3s=>?_
  try simp only[Q,Pat.cs_len] at h3p
  refine Walk.idx zbf .none rfl rfl rfl rfl (zay (by omega)) rfl ?_
  refine evd [] [] ?_
  refine Walk.idx sl28 .none rfl rfl rfl rfl (zaK (by omega)) rfl ?_
  refine evd [] [] ?_
  refine Walk.call (cr:=[]) zqj (ih i (by omega)) rfl .none rfl rfl (LeL.refl _) trivial rfl rfl rfl ?_
  refine evd [] [] ?_
  refine dr ?_
  refine sq (fun h4 h4p h4s=>?_) fun h4 h4p h4s=>?_
  try simp only[Q,Pat.cs_len] at h4p
  refine rn0 (r1 rfl) (.eqd ?_)
  rotate_left
  try simp only[Q,Pat.cs_len] at h4p
  refine ar ?_
  refine Exists.intro (i+1) ⟨⟨by omega,za2 hg1.2 (by first|assumption|(simp;assumption)|(simp_all;done))⟩,(by omega),Sub.x (by kernel_rfl) (by kernel_rfl) ⟨⟨_,rfl,(LeA.eqi (by first|rfl|(simp;done)|(simp_all;done)|omega))⟩,trivial⟩ (by kernel_rfl) (by kernel_rfl) trivial⟩
  try simp only[Q,Pat.cs_len] at h3p
  refine rn0 (r1 rfl) (.eqd ?_)
  rotate_left
  all_goals (refine congrArg D.bool ?_;first|(rw[zbZ (i:=i) (by omega) (by omega) (by first|assumption|(simp;assumption)|(simp_all;done))];done)|(rw[zcv (by omega) (fun x hx=>hg1.2 x (by omega))];done))
theorem zh1 {w:List Data} (hs:Spa w){ta tk:Int} (ht:InS (w.length*4) ⟨ta,tk⟩){l:List Pat} (hl:∀a∈l,zam w 11 ⟨ta,tk⟩ a=true) (hb:l.length≤20000000):
  FnD Tryz.prog 108 [.d (zao w),.d (zhM (w.length*4) (zaZ w)),.agg [.d (.i ta),.d (.i tk)],.d (zad l)] [] (.d (zad (l.filter (zbP w ⟨ta,tk⟩)))) []:=by
 have hal:∀a∈l,FnD Tryz.prog 167 [.d (zao w),.d (zhM (w.length*4) (zaZ w)),.agg [.d (.i ta),.d (.i tk)],.agg [.d (.i (a).op),.d (.i (a).ctor),.d (.i (a).n),.d (.i (a).m),.d (.i (a).var),.d (zad (a).kids)]] [] (.d (.bool (zbP w ⟨ta,tk⟩ a))) []:=fun a ha=>zhs hs 11 ht (hl a ha)
 have hle:∀ {pre rest:List Pat}{y:Pat},pre++y::rest=l→(pre.filter (zbP w ⟨ta,tk⟩)).length+1≤l.length:=fun {pre rest y} h=>by
  have h1:=List.length_filter_le (zbP w ⟨ta,tk⟩) pre
  have h2:=congrArg List.length h
  simp only[List.length_append,List.length_cons] at h2
  omega
 refine bd Tryz.f108 34 [] [] fun w0 F0 own kept hk=>?_
 refine Walk.box (id:=3006) .none rfl rfl rfl rfl rfl rfl rfl ?_
 refine ev ?_
 refine Walk.sliceEmptyG 9 sl28 .none rfl rfl ?_
 refine ev ?_
 refine CWp.loopX (ι:=List (Pat)×List (Pat)) hk (fun x=>[(10,.d (.i (x.1.length:Int))),(9,.gl 9 (Pat.cs (x.1.filter (zbP w ⟨ta,tk⟩))))]) [12,13,14,15,16,17,18,19,20,21,22,23,24,25,26,27,28,29,30,31,32] (fun x=>[(9,some (.tok ((Pat.cs (x.1.filter (zbP w ⟨ta,tk⟩)))).length 6))]) (fun x=>x.1++x.2=l) (fun x=>x.2.length) ([],l) (by simp) ⟨⟨_,rfl,(LeA.eqi (by first|rfl|(dsimp only;rw[List.filter_append,List.filter_cons_of_pos (by assumption),List.filter_nil,Pat.cs_cd (List.filter _ _),Pat.cs_cd (_++_),List.map_append];rfl)|(dsimp only;rw[List.filter_append,List.filter_cons_of_neg (by simp_all),List.filter_nil,List.append_nil];done)|(dsimp only;rw[List.filter_append,List.filter_cons_of_pos (by assumption),List.filter_nil];simp[Pat.cs_len];done)|(simp;done)|omega))⟩,⟨⟨_,rfl,(LeA.glg (by first|rfl|(dsimp only;rw[List.filter_append,List.filter_cons_of_pos (by assumption),List.filter_nil,Pat.cs_cd (List.filter _ _),Pat.cs_cd (_++_),List.map_append];rfl)|(dsimp only;rw[List.filter_append,List.filter_cons_of_neg (by simp_all),List.filter_nil,List.append_nil];done)|(dsimp only;rw[List.filter_append,List.filter_cons_of_pos (by assumption),List.filter_nil];simp[Pat.cs_len];done)|(simp;done)|omega))⟩,trivial⟩⟩ ⟨zae (by first|rfl|(simp;done)|(simp;omega)|(first|rfl|(dsimp only;rw[List.filter_append,List.filter_cons_of_pos (by assumption),List.filter_nil,Pat.cs_cd (List.filter _ _),Pat.cs_cd (_++_),List.map_append];rfl)|(dsimp only;rw[List.filter_append,List.filter_cons_of_neg (by simp_all),List.filter_nil,List.append_nil];done)|(dsimp only;rw[List.filter_append,List.filter_cons_of_pos (by assumption),List.filter_nil];simp[Pat.cs_len];done)|(simp;done)|omega)),trivial⟩ (fun x=>rfl) (fun x hg1=>?_)
 obtain⟨pre,rest⟩:=x
 dsimp only at hg1 ⊢
 refine evc [] [] ?_
 refine sq (fun h1 h1p h1s=>?_) fun h1 h1p h1s=>?_
 try simp only[Q,Pat.cs_len] at h1p
 rcases rest with _|⟨y,rest⟩
 ·exfalso;simp_all
 refine Walk.idx sl28 .none rfl rfl rfl rfl (Pat.cs_at' hg1) rfl ?_
 refine evd [] [] ?_
 refine Walk.call (cr:=[]) zqj (hal y (by rw[←hg1];simp)) rfl .none rfl rfl (LeL.refl _) trivial rfl rfl rfl ?_
 refine dr ?_
 refine sq (fun h2 h2p h2s=>?_) fun h2 h2p h2s=>?_
 try simp only[Q,Pat.cs_len] at h2p
 refine Walk.idx sl28 .none rfl rfl rfl rfl (Pat.cs_at' hg1) rfl ?_
 refine ev ?_
 refine Walk.sliceLit sl28 tz77 rfl (by decide) (ks:=[0]) (xs:=[_]) rfl rfl (by decide) (by decide) .none rfl rfl rfl rfl ?_
 refine Walk.append sl28 zz77 rfl .none rfl rfl rfl rfl (zaG rfl (by first|rfl|(simp;done)|(simp;omega))) (by intro x hx;simp at hx;subst hx;rfl) (by have h9:=hle hg1;simp[Pat.cs_len];omega) (by have h9:=hle hg1;simp[Pat.cs_len];omega) ?_
 refine ev ?_
 refine ar ?_
 refine Exists.intro ((pre++[y],rest)) ⟨(by have hz:=hg1;rw[←hz];simp),(by simp),Sub.x (by kernel_rfl) (by kernel_rfl) ⟨⟨_,rfl,(LeA.eqi (by first|rfl|(dsimp only;rw[List.filter_append,List.filter_cons_of_pos (by assumption),List.filter_nil,Pat.cs_cd (List.filter _ _),Pat.cs_cd (_++_),List.map_append];rfl)|(dsimp only;rw[List.filter_append,List.filter_cons_of_neg (by simp_all),List.filter_nil,List.append_nil];done)|(dsimp only;rw[List.filter_append,List.filter_cons_of_pos (by assumption),List.filter_nil];simp[Pat.cs_len];done)|(simp;done)|omega))⟩,⟨⟨_,rfl,(LeA.glg (by first|rfl|(dsimp only;rw[List.filter_append,List.filter_cons_of_pos (by assumption),List.filter_nil,Pat.cs_cd (List.filter _ _),Pat.cs_cd (_++_),List.map_append];rfl)|(dsimp only;rw[List.filter_append,List.filter_cons_of_neg (by simp_all),List.filter_nil,List.append_nil];done)|(dsimp only;rw[List.filter_append,List.filter_cons_of_pos (by assumption),List.filter_nil];simp[Pat.cs_len];done)|(simp;done)|omega))⟩,trivial⟩⟩ (by kernel_rfl) (by kernel_rfl) ⟨zae (by first|rfl|(simp;done)|(simp;omega)|(first|rfl|(dsimp only;rw[List.filter_append,List.filter_cons_of_pos (by assumption),List.filter_nil,Pat.cs_cd (List.filter _ _),Pat.cs_cd (_++_),List.map_append];rfl)|(dsimp only;rw[List.filter_append,List.filter_cons_of_neg (by simp_all),List.filter_nil,List.append_nil];done)|(dsimp only;rw[List.filter_append,List.filter_cons_of_pos (by assumption),List.filter_nil];simp[Pat.cs_len];done)|(simp;done)|omega)),trivial⟩⟩
 try simp only[Q,Pat.cs_len] at h2p
 refine ar ?_
 refine Exists.intro ((pre++[y],rest)) ⟨(by have hz:=hg1;rw[←hz];simp),(by simp),Sub.x (by kernel_rfl) (by kernel_rfl) ⟨⟨_,rfl,(LeA.eqi (by first|rfl|(dsimp only;rw[List.filter_append,List.filter_cons_of_pos (by assumption),List.filter_nil,Pat.cs_cd (List.filter _ _),Pat.cs_cd (_++_),List.map_append];rfl)|(dsimp only;rw[List.filter_append,List.filter_cons_of_neg (by simp_all),List.filter_nil,List.append_nil];done)|(dsimp only;rw[List.filter_append,List.filter_cons_of_pos (by assumption),List.filter_nil];simp[Pat.cs_len];done)|(simp;done)|omega))⟩,⟨⟨_,rfl,(LeA.glg (by first|rfl|(dsimp only;rw[List.filter_append,List.filter_cons_of_pos (by assumption),List.filter_nil,Pat.cs_cd (List.filter _ _),Pat.cs_cd (_++_),List.map_append];rfl)|(dsimp only;rw[List.filter_append,List.filter_cons_of_neg (by simp_all),List.filter_nil,List.append_nil];done)|(dsimp only;rw[List.filter_append,List.filter_cons_of_pos (by assumption),List.filter_nil];simp[Pat.cs_len];done)|(simp;done)|omega))⟩,trivial⟩⟩ (by kernel_rfl) (by kernel_rfl) ⟨zae (by first|rfl|(simp;done)|(simp;omega)|(first|rfl|(dsimp only;rw[List.filter_append,List.filter_cons_of_pos (by assumption),List.filter_nil,Pat.cs_cd (List.filter _ _),Pat.cs_cd (_++_),List.map_append];rfl)|(dsimp only;rw[List.filter_append,List.filter_cons_of_neg (by simp_all),List.filter_nil,List.append_nil];done)|(dsimp only;rw[List.filter_append,List.filter_cons_of_pos (by assumption),List.filter_nil];simp[Pat.cs_len];done)|(simp;done)|omega)),trivial⟩⟩
 try simp only[Q,Pat.cs_len] at h1p
 have hrest:rest=[]:=by
  rcases rest with _|⟨a,b⟩
  ·rfl
  ·exfalso;have hz:=congrArg List.length (hg1);simp only[List.length_append,List.length_cons,List.length_map] at hz;omega
 subst hrest
 refine rn0 (r1 rfl) (.gld ?_)
 rotate_left
 all_goals (first|rfl|(rw[List.append_nil] at hg1;rw[hg1];done))
theorem zjw {w:List Data} (hs:Spa w){ta tk:Int} (ht:InS (w.length*4) ⟨ta,tk⟩){l away:List Pat} (hl:∀a∈l,zam w 11 ⟨ta,tk⟩ a=true) (hb:∀b∈away,zam w 10 ⟨ta,tk⟩ b=true) (hll:l.length≤400) (hal:away.length≤1000):
  FnD Tryz.prog 59 [.d (zao w),.d (zhM (w.length*4) (zaZ w)),.agg [.d (.i ta),.d (.i tk)],.d (zad l),.d (zad away)] [] (.tup [.d (zad ((zaN w ⟨ta,tk⟩ l away).getD [])),.d (.bool (zaN w ⟨ta,tk⟩ l away).isSome)]) []:=by
 have hke:=zq3 hs ht hl hb
 have hmi:∀(c:List Pat) (i k:Nat),(∀a∈c,zam w 11 ⟨ta,tk⟩ a=true)→i<away.length→k<c.length→(zav w 10 ⟨ta,tk⟩ (nth c k) (nth away i)).length≤20000000:=fun c i k hc hi hk=>zfB hs (by omega) (by omega) ht (hc _ (zal hk)) (hb _ (zal hi))
 have hkb:∀(c:List Pat) (i k:Nat),(∀a∈c,zam w 11 ⟨ta,tk⟩ a=true)→i<away.length→k<c.length→(zlh w ⟨ta,tk⟩ (nth away i) (nth c k)).length≤20000000:=fun c i k hc hi hk=>Nat.le_trans (List.length_filter_le _ _) (hmi c i k hc hi hk)
 rw[←hke]
 have hno:∀(c:List Pat) (i k:Nat),i<away.length→400<(zdt w ⟨ta,tk⟩ c (nth away i) k).length→subL w ⟨ta,tk⟩ c (away.drop i)=none:=fun c i k hi h=>by
  have:=zrt (w:=w) (t:=⟨ta,tk⟩) (l:=c) (b:=nth away i) k
  rw[ze3 hi,if_neg (by omega)]
 refine bd Tryz.f59 60 [] [] fun w0 F0 own kept hk=>?_
 refine Walk.box (id:=3007) .none rfl rfl rfl rfl rfl rfl rfl ?_
 refine ev ?_
 refine CWp.loopX (ι:=Nat×List Pat) hk (fun s=>[(12,.d (.i (s.1:Int))),(3,.d (zad s.2))]) [10,11,13,14,15,16,17,18,19,20,21,22,23,24,25,26,27,28,29,30,31,32,33,34,35,36,37,38,39,40,41,42,43,44,45,46,47,48,49,50,51,52,53,54] (fun s=>[]) (fun s=>s.1≤away.length∧subL w ⟨ta,tk⟩ s.2 (away.drop s.1)=subL w ⟨ta,tk⟩ l away∧(∀a∈s.2,zam w 11 ⟨ta,tk⟩ a=true)∧s.2.length≤400) (fun s=>away.length-s.1) (0,l) ⟨by simp,rfl,hl,hll⟩ ⟨⟨_,rfl,(LeA.eqi (by first|rfl|(rw[zaT (by omega)];done)|(dsimp only;rw[zaT (by omega)];done)|(simp;done)|omega))⟩,⟨⟨_,rfl,(by first|exact LeA.refl _|exact LeA.gld (by first|rfl|(rw[zaT (by omega)];done)|(dsimp only;rw[zaT (by omega)];done)|(simp;done)|omega)|exact LeA.nild (by first|rfl|(rw[zaT (by omega)];done)|(dsimp only;rw[zaT (by omega)];done)|(simp;done)|omega)|exact LeA.eqsl (by first|rfl|(rw[zaT (by omega)];done)|(dsimp only;rw[zaT (by omega)];done)|(simp;done)|omega)|exact LeA.eqd (by first|rfl|(rw[zaT (by omega)];done)|(dsimp only;rw[zaT (by omega)];done)|(simp;done)|omega))⟩,trivial⟩⟩ trivial (fun x=>rfl) (fun s hg1=>?_)
 refine evc [] [] ?_
 refine sq (fun h1 h1p h1s=>?_) fun h1 h1p h1s=>?_
 try simp only[Q,Pat.cs_len] at h1p
 refine Walk.sliceEmptyG 9 sl28 .none rfl rfl ?_
 refine ev ?_
 refine CWp.loopX (ι:=Nat) hk (fun k=>[(14,.d (.i (k:Int))),(13,.gl 9 (Pat.cs (zdt w ⟨ta,tk⟩ s.2 (nth away s.1) k)))]) [22,23,24,25,26,27,28,29,30,31,32,33,34,35,36,37,38,39,40,41,42,43,44,45,46,47,48,49] (fun k=>[(9,some (.tok ((Pat.cs (zdt w ⟨ta,tk⟩ s.2 (nth away s.1) k))).length 6))]) (fun k=>k≤s.2.length) (fun k=>s.2.length-k) 0 (by omega) ⟨⟨_,rfl,(LeA.eqi (by first|rfl|(simp[zdt];done)|(rw[zcd (by omega),Pat.cs_cd,Pat.cs_cd,Pat.cs_cd,List.map_append];done)|(rw[zcd (by omega)];simp[Pat.cs_len];done)|omega))⟩,⟨⟨_,rfl,(LeA.glg (by first|rfl|(simp[zdt];done)|(rw[zcd (by omega),Pat.cs_cd,Pat.cs_cd,Pat.cs_cd,List.map_append];done)|(rw[zcd (by omega)];simp[Pat.cs_len];done)|omega))⟩,trivial⟩⟩ ⟨zae (by first|rfl|(simp;done)|(simp;omega)|(first|rfl|(simp[zdt];done)|(rw[zcd (by omega),Pat.cs_cd,Pat.cs_cd,Pat.cs_cd,List.map_append];done)|(rw[zcd (by omega)];simp[Pat.cs_len];done)|omega)),trivial⟩ (fun x=>rfl) (fun k hg2=>?_)
 refine evc [] [] ?_
 refine sq (fun h2 h2p h2s=>?_) fun h2 h2p h2s=>?_
 try simp only[Q,Pat.cs_len] at h2p
 refine sq (fun h3 h3p h3s=>?_) fun h3 h3p h3s=>?_
 try simp only[Q,Pat.cs_len] at h3p
 refine Walk.idx sl28 .none rfl rfl rfl rfl (zaK (by omega)) rfl ?_
 refine evd [] [] ?_
 refine Walk.idx sl28 .none rfl rfl rfl rfl (zaK (by omega)) rfl ?_
 refine evd [] [] ?_
 refine Walk.call (cr:=[]) zn0 (zht hs 10 11 (by omega) (by omega) (by omega) ht (hg1.2.2.1 _ (zal (by omega))) (hb _ (zal (by omega)))) rfl .none rfl rfl (LeL.refl _) trivial rfl rfl rfl ?_
 refine Walk.call (cr:=[]) zqc (show FnD _ _ _ _ (.d (zad (zlh w ⟨ta,tk⟩ (nth away s.1) (nth s.2 k)))) _ from zh1 hs ht (zgn 10 11 (by omega) (hg1.2.2.1 _ (zal (by omega))) (hb _ (zal (by omega)))) (hmi s.2 s.1 k hg1.2.2.1 (by omega) (by omega))) rfl .none rfl rfl (LeL.refl _) trivial rfl rfl rfl ?_
 refine Walk.append sl28 zz77 rfl .none rfl rfl rfl rfl (zaG rfl (by first|rfl|(simp;done)|(simp;omega))) (by exact zbm _) (by have h9:=hkb s.2 s.1 k hg1.2.2.1 (by omega) (by omega);simp only[Pat.cs_len];omega) (by have h9:=hkb s.2 s.1 k hg1.2.2.1 (by omega) (by omega);simp only[Pat.cs_len];omega) ?_
 refine evd [] [] ?_
 refine dr ?_
 refine ar ?_
 refine Exists.intro (k+1) ⟨(by omega),(by omega),Sub.x (by kernel_rfl) (by kernel_rfl) ⟨⟨_,rfl,(LeA.eqi (by first|rfl|(simp[zdt];done)|(rw[zcd (by omega),Pat.cs_cd,Pat.cs_cd,Pat.cs_cd,List.map_append];done)|(rw[zcd (by omega)];simp[Pat.cs_len];done)|omega))⟩,⟨⟨_,rfl,(LeA.glg (by first|rfl|(simp[zdt];done)|(rw[zcd (by omega),Pat.cs_cd,Pat.cs_cd,Pat.cs_cd,List.map_append];done)|(rw[zcd (by omega)];simp[Pat.cs_len];done)|omega))⟩,trivial⟩⟩ (by kernel_rfl) (by kernel_rfl) ⟨zae (by first|rfl|(simp;done)|(simp;omega)|(first|rfl|(simp[zdt];done)|(rw[zcd (by omega),Pat.cs_cd,Pat.cs_cd,Pat.cs_cd,List.map_append];done)|(rw[zcd (by omega)];simp[Pat.cs_len];done)|omega)),trivial⟩⟩
 try simp only[Q,Pat.cs_len] at h3p
 refine sq (fun h4 h4p h4s=>?_) fun h4 h4p h4s=>?_
 try simp only[Q,Pat.cs_len] at h4p
 refine Walk.sliceEmpty sl28 .none rfl ?_
 refine ev ?_
 refine rn0 (r2 rfl rfl) (.tup (.cons (.eqd ?_) (.cons (.eqd ?_) .nil)))
 rotate_left 2
 try simp only[Q,Pat.cs_len] at h4p
 refine ar ?_
 refine Exists.intro ((s.1+1,zco w ⟨ta,tk⟩ s.2 (nth away s.1))) ⟨(by
    have hk:s.2.length≤k:=by omega
    have h4:(zco w ⟨ta,tk⟩ s.2 (nth away s.1)).length≤400:=by rw[←zaT hk];omega
    have e:=ze3 (w:=w) (t:=⟨ta,tk⟩) (l:=s.2) (away:=away) (i:=s.1) (by omega)
    rw[if_pos h4] at e
    refine⟨by dsimp only;omega, ?_,zgo hg1.2.2.1 (hb _ (zal (by omega))),h4⟩
    dsimp only
    rw[←e];exact hg1.2.1),(by dsimp only;omega),Sub.x (by kernel_rfl) (by kernel_rfl) ⟨⟨_,rfl,(LeA.eqi (by first|rfl|(rw[zaT (by omega)];done)|(dsimp only;rw[zaT (by omega)];done)|(simp;done)|omega))⟩,⟨⟨_,rfl,(by first|exact LeA.refl _|exact LeA.gld (by first|rfl|(rw[zaT (by omega)];done)|(dsimp only;rw[zaT (by omega)];done)|(simp;done)|omega)|exact LeA.nild (by first|rfl|(rw[zaT (by omega)];done)|(dsimp only;rw[zaT (by omega)];done)|(simp;done)|omega)|exact LeA.eqsl (by first|rfl|(rw[zaT (by omega)];done)|(dsimp only;rw[zaT (by omega)];done)|(simp;done)|omega)|exact LeA.eqd (by first|rfl|(rw[zaT (by omega)];done)|(dsimp only;rw[zaT (by omega)];done)|(simp;done)|omega))⟩,trivial⟩⟩ (by kernel_rfl) (by kernel_rfl) trivial⟩
 try simp only[Q,Pat.cs_len] at h2p
 refine sqF ?_
 refine sq (fun h6 h6p h6s=>?_) fun h6 h6p h6s=>?_
 try simp only[Q,Pat.cs_len] at h6p
 refine Walk.sliceEmpty sl28 .none rfl ?_
 refine ev ?_
 refine rn0 (r2 rfl rfl) (.tup (.cons (.eqd ?_) (.cons (.eqd ?_) .nil)))
 rotate_left 2
 try simp only[Q,Pat.cs_len] at h6p
 refine ar ?_
 refine Exists.intro ((s.1+1,zco w ⟨ta,tk⟩ s.2 (nth away s.1))) ⟨(by
    have hk:s.2.length≤k:=by omega
    have h4:(zco w ⟨ta,tk⟩ s.2 (nth away s.1)).length≤400:=by rw[←zaT hk];omega
    have e:=ze3 (w:=w) (t:=⟨ta,tk⟩) (l:=s.2) (away:=away) (i:=s.1) (by omega)
    rw[if_pos h4] at e
    refine⟨by dsimp only;omega, ?_,zgo hg1.2.2.1 (hb _ (zal (by omega))),h4⟩
    dsimp only
    rw[←e];exact hg1.2.1),(by dsimp only;omega),Sub.x (by kernel_rfl) (by kernel_rfl) ⟨⟨_,rfl,(LeA.eqi (by first|rfl|(rw[zaT (by omega)];done)|(dsimp only;rw[zaT (by omega)];done)|(simp;done)|omega))⟩,⟨⟨_,rfl,(by first|exact LeA.refl _|exact LeA.gld (by first|rfl|(rw[zaT (by omega)];done)|(dsimp only;rw[zaT (by omega)];done)|(simp;done)|omega)|exact LeA.nild (by first|rfl|(rw[zaT (by omega)];done)|(dsimp only;rw[zaT (by omega)];done)|(simp;done)|omega)|exact LeA.eqsl (by first|rfl|(rw[zaT (by omega)];done)|(dsimp only;rw[zaT (by omega)];done)|(simp;done)|omega)|exact LeA.eqd (by first|rfl|(rw[zaT (by omega)];done)|(dsimp only;rw[zaT (by omega)];done)|(simp;done)|omega))⟩,trivial⟩⟩ (by kernel_rfl) (by kernel_rfl) trivial⟩
 try simp only[Q,Pat.cs_len] at h1p
 refine Walk.call (cr:=[]) zqc (zh1 hs ht hg1.2.2.1 (by omega)) rfl .none rfl rfl (LeL.refl _) trivial rfl rfl rfl ?_
 refine ev ?_
 refine rn0 (r2 rfl rfl) (.tup (.cons (.eqd ?_) (.cons (.eqd ?_) .nil)))
 rotate_left 2
 all_goals (first|rfl|(rw[←hg1.2.1,hno s.2 s.1 k (by omega) (by omega)];rfl)|(rw[←hg1.2.1,zoT (by omega)];rfl))
theorem zh0:∀(n:Nat){p:Pat},p.size≤n→p.ok→FnD Tryz.prog 174 [.agg [.d (.i (p).op),.d (.i (p).ctor),.d (.i (p).n),.d (.i (p).m),.d (.i (p).var),.d (zad (p).kids)]] [] (.agg [.d (.i (p).op),.d (.i (p).ctor),.d (.i (p).n),.d (.i (p).m),.d (.i (p).var),.d (zad (p).kids)]) []
 |0,p,h,_=>by rw[Pat.size_eq] at h;omega
 |n+1,p,h,hok=>by
  rw[Pat.size_eq] at h
  rw[Pat.ok_iff] at hok
  have hok1:=hok.1
  refine bd Tryz.f174 26 [] [] fun w0 F0 own kept hk=>?_
  refine Walk.box (id:=3001) .none rfl rfl rfl rfl rfl rfl rfl ?_
  refine Walk.alloc (id:=3002) tz77 rfl .none rfl rfl rfl rfl ?_
  refine tv ?_
  refine Walk.alloc (id:=3003) tz77 rfl .none rfl rfl rfl rfl ?_
  refine Walk.store ty77 .none rfl rfl rfl rfl rfl rfl (by simp) rfl ?_
  refine tv ?_
  refine Walk.store ty28 .none rfl rfl rfl rfl rfl rfl (by simp) rfl ?_
  refine tv ?_
  refine CWp.tokB 3003 5 7 6 rfl rfl rfl rfl ?_
  refine CWp.loopX (ι:=List (Pat)×List (Pat)) hk (fun x=>[(4,.d (.i (x.1.length:Int)))]) [7,8,9,10,11,12,13,14,15,16,17,18,19,20,21,22,23,24] (fun x=>[(3003,some (.box [.d (.i p.op),.d (.i p.ctor),.d (.i p.n),.d (.i p.m),.d (.i p.var),.gl 7 (x.1.map Pat.cc)])),(7,some (.tok (x.1.map Pat.cc).length 6))]) (fun x=>x.1++x.2=p.kids) (fun x=>x.2.length) ([],p.kids) (by simp) ⟨⟨_,rfl,(LeA.eqi (by first|rfl|(simp;done)|(simp_all;done)|omega))⟩,trivial⟩ ⟨(by first|rfl|(simp[getH];done)),⟨zae (by first|rfl|(simp;done)|(simp;omega)|(first|rfl|(simp;done)|(simp_all;done)|omega)),trivial⟩⟩ (fun x=>rfl) (fun x hg1=>?_)
  obtain⟨pre,rest⟩:=x
  dsimp only at hg1 ⊢
  refine evc [] [] ?_
  refine sq (fun h1 h1p h1s=>?_) fun h1 h1p h1s=>?_
  try simp only[Q,Pat.cs_len] at h1p
  rcases rest with _|⟨y,rest⟩
  ·exfalso;simp_all
  refine Walk.idx sl28 .none rfl rfl rfl rfl (Pat.cs_at' hg1) rfl ?_
  refine evd [] [] ?_
  refine Walk.call (cr:=[]) zqm (zh0 n (p:=y) (by have:=Pats.size_mem (l:=p.kids) (v:=y) (by rw[←hg1];simp);omega) (Pats.ok_mem hok.2 y (by rw[←hg1];simp))) rfl .none rfl rfl (LeL.refl _) trivial rfl rfl rfl ?_
  refine Walk.sliceLit sl28 tz77 rfl (by decide) (ks:=[0]) (xs:=[_]) rfl rfl (by decide) (by decide) .none rfl rfl rfl rfl ?_
  refine Walk.append sl28 zz77 rfl .none rfl rfl rfl rfl (zaG rfl (by first|rfl|(simp;done)|(simp;omega))) (by intro x hx;first|(simp at hx;subst hx;rfl)|exact zbI _ x hx) (by have:=congrArg List.length hg1;simp at this;simp;omega) (by have:=congrArg List.length hg1;simp at this;simp;omega) ?_
  refine evd [] [] ?_
  refine Walk.store ty28 .none rfl rfl rfl rfl rfl rfl (by simp) rfl ?_
  refine dr ?_
  refine ar ?_
  refine Exists.intro ((pre++[y],rest)) ⟨(by have hz:=hg1;rw[←hz];simp),(by simp),Sub.x (by kernel_rfl) (by kernel_rfl) ⟨⟨_,rfl,(LeA.eqi (by first|rfl|(simp;done)|(simp_all;done)|omega))⟩,trivial⟩ (by kernel_rfl) (by kernel_rfl) ⟨(by first|rfl|(simp[getH];done)),⟨zae (by first|rfl|(simp;done)|(simp;omega)|(first|rfl|(simp;done)|(simp_all;done)|omega)),trivial⟩⟩⟩
  try simp only[Q,Pat.cs_len] at h1p
  have hrest:rest=[]:=by
   rcases rest with _|⟨a,b⟩
   ·rfl
   ·exfalso;have hz:=congrArg List.length (hg1);simp only[List.length_append,List.length_cons,List.length_map] at hz;omega
  subst hrest
  refine Walk.store ty77 .none rfl rfl rfl rfl rfl rfl (by simp) rfl ?_
  refine tv ?_
  refine rn0 (.cons (.cellA ty77 rfl rfl rfl) .nil) (.agg (.cons (.eqd ?_) (.cons (.eqd ?_) (.cons (.eqd ?_) (.cons (.eqd ?_) (.cons (.eqd ?_) (.cons (.gld ?_) .nil)))))))
  rotate_left 6
  all_goals (first|rfl|(rw[List.append_nil] at hg1;rw[←hg1,Pat.cs_cd];done))
theorem znF {l:List Pat} (h:l.length≤1000000000000) (hok:∀p∈l,p.ok):FnD Tryz.prog 112 [.d (zad l)] [] (.d (zad l)) []:=by
 refine bd Tryz.f112 21 [] [] fun w0 F0 own kept hk=>?_
 refine Walk.sliceEmptyG 1 sl28 .none rfl rfl ?_
 refine ev ?_
 refine CWp.loopX (ι:=List (Pat)×List (Pat)) hk (fun x=>[(4,.d (.i (x.1.length:Int))),(3,.gl 1 (x.1.map Pat.cc))]) [6,7,8,9,10,11,12,13,14,15,16,17,18,19] (fun x=>[(1,some (.tok ((x.1.map Pat.cc)).length 6))]) (fun x=>x.1++x.2=l) (fun x=>x.2.length) ([],l) (by simp) ⟨⟨_,rfl,(LeA.eqi (by first|rfl|(simp;done)|(simp_all;done)|omega))⟩,⟨⟨_,rfl,(LeA.glg (by first|rfl|(simp;done)|(simp_all;done)|omega))⟩,trivial⟩⟩ ⟨zae (by first|rfl|(simp;done)|(simp;omega)|(first|rfl|(simp;done)|(simp_all;done)|omega)),trivial⟩ (fun x=>rfl) (fun x hg1=>?_)
 obtain⟨pre,rest⟩:=x
 dsimp only at hg1 ⊢
 refine evc [] [] ?_
 refine sq (fun h1 h1p h1s=>?_) fun h1 h1p h1s=>?_
 try simp only[Q,Pat.cs_len] at h1p
 rcases rest with _|⟨y,rest⟩
 ·exfalso;simp_all
 refine Walk.idx sl28 .none rfl rfl rfl rfl (Pat.cs_at' hg1) rfl ?_
 refine ev ?_
 refine Walk.call (cr:=[]) zqm (zh0 _ (Nat.le_refl _) (hok y (by rw[←hg1];simp))) rfl .none rfl rfl (LeL.refl _) trivial rfl rfl rfl ?_
 refine Walk.sliceLit sl28 tz77 rfl (by decide) (ks:=[0]) (xs:=[_]) rfl rfl (by decide) (by decide) .none rfl rfl rfl rfl ?_
 refine Walk.append sl28 zz77 rfl .none rfl rfl rfl rfl (zaG rfl (by first|rfl|(simp;done)|(simp;omega))) (by intro x hx;simp at hx;subst hx;rfl) (by have:=congrArg List.length hg1;simp at this;simp;omega) (by have:=congrArg List.length hg1;simp at this;simp;omega) ?_
 refine ev ?_
 refine ar ?_
 refine Exists.intro ((pre++[y],rest)) ⟨(by have hz:=hg1;rw[←hz];simp),(by simp),Sub.x (by kernel_rfl) (by kernel_rfl) ⟨⟨_,rfl,(LeA.eqi (by first|rfl|(simp;done)|(simp_all;done)|omega))⟩,⟨⟨_,rfl,(LeA.glg (by first|rfl|(simp;done)|(simp_all;done)|omega))⟩,trivial⟩⟩ (by kernel_rfl) (by kernel_rfl) ⟨zae (by first|rfl|(simp;done)|(simp;omega)|(first|rfl|(simp;done)|(simp_all;done)|omega)),trivial⟩⟩
 try simp only[Q,Pat.cs_len] at h1p
 have hrest:rest=[]:=by
  rcases rest with _|⟨a,b⟩
  ·rfl
  ·exfalso;have hz:=congrArg List.length (hg1);simp only[List.length_append,List.length_cons,List.length_map] at hz;omega
 subst hrest
 refine rn0 (r1 rfl) (.gld ?_)
 rotate_left
 all_goals (first|rfl|(rw[List.append_nil] at hg1;rw[←hg1,Pat.cs_cd];done))
theorem znl {p:Pat} (h:zc1 p=true):zbe (zaQ p)=zdP p:=by
 unfold zc1 at h
 have h40:=of_decide_eq_true h
 unfold zbe zdP
 rw[if_pos h40,List.take_of_length_le (by omega)]
theorem zq2 {p:Pat}:((40:Int)<((zbe (zaQ p)).length:Int))↔zc1 p=false:=by
 unfold zc1 zbe
 rw[List.length_take,decide_eq_false_iff_not]
 omega
theorem zlY {w:List Data}{t:Ty}{l:List Cl} (hl:l.length≤8) (hc:∀c∈l,zaw w 10 t c.pat=true∧c.pat.ok):
  FnD Tryz.prog 58 [.d (zbM l),.d (.i (l.length:Int))] [] (.tup [.d (zad ((zbG l []).getD [])),.d (.bool (zbG l []).isSome)]) []:=by
 have hpl:=fun(i:Nat)=>zgx (zaQ (nth l i).pat)
 have hge:=fun(i:Nat)=>zq2 (p:=(nth l i).pat)
 refine bd Tryz.f58 35 [] [] fun w0 F0 own kept hk=>?_
 refine Walk.sliceEmptyG 9 sl28 .none rfl rfl ?_
 refine ev ?_
 refine CWp.loopX (ι:=Nat×List Pat) hk (fun s=>[(7,.d (.i (s.1:Int))),(6,.gl 9 (Pat.cs s.2))]) [4,5,8,10,11,12,13,14,15,16,17,18,19,20,21,22,23,24,25,26,27,28,29,30,31,32,33] (fun s=>[(9,some (.tok ((Pat.cs s.2)).length 6))]) (fun s=>s.1≤l.length∧zbG (l.drop s.1) s.2=zbG l []∧s.2.length≤40*s.1) (fun s=>l.length-s.1) (0,[]) ⟨by simp,rfl,by simp⟩ ⟨⟨_,rfl,(LeA.eqi (by first|rfl|(dsimp only;rw[if_pos (by assumption),Pat.cs_cd,Pat.cs_cd,Pat.cs_cd,List.map_append];done)|(dsimp only;rw[if_neg (by assumption)];done)|(dsimp only;rw[if_pos (by assumption)];simp[Pat.cs_len];done)|(dsimp only;rw[if_neg (by assumption)];simp[Pat.cs_len];done)|(simp;done)|omega))⟩,⟨⟨_,rfl,(LeA.glg (by first|rfl|(dsimp only;rw[if_pos (by assumption),Pat.cs_cd,Pat.cs_cd,Pat.cs_cd,List.map_append];done)|(dsimp only;rw[if_neg (by assumption)];done)|(dsimp only;rw[if_pos (by assumption)];simp[Pat.cs_len];done)|(dsimp only;rw[if_neg (by assumption)];simp[Pat.cs_len];done)|(simp;done)|omega))⟩,trivial⟩⟩ ⟨zae (by first|rfl|(simp;done)|(simp;omega)|(first|rfl|(dsimp only;rw[if_pos (by assumption),Pat.cs_cd,Pat.cs_cd,Pat.cs_cd,List.map_append];done)|(dsimp only;rw[if_neg (by assumption)];done)|(dsimp only;rw[if_pos (by assumption)];simp[Pat.cs_len];done)|(dsimp only;rw[if_neg (by assumption)];simp[Pat.cs_len];done)|(simp;done)|omega)),trivial⟩ (fun x=>rfl) (fun s hg1=>?_)
 refine evc [] [] ?_
 refine sq (fun h1 h1p h1s=>?_) fun h1 h1p h1s=>?_
 try simp only[Q,Pat.cs_len,Int.natCast_inj] at h1p
 refine Walk.idx sl35 .none rfl rfl rfl rfl (zay (by omega)) rfl ?_
 refine ev ?_
 refine sq (fun h2 h2p h2s=>?_) fun h2 h2p h2s=>?_
 try simp only[Q,Pat.cs_len,Int.natCast_inj] at h2p
 refine ar ?_
 refine Exists.intro ((s.1+1,if (nth l s.1).g.op=0 then s.2++zbe (zaQ (nth l s.1).pat) else s.2)) ⟨(by
    by_cases hz:(nth l s.1).g.op=0
    ·have hp:zc1 (nth l s.1).pat=true:=by
      cases hp:zc1 (nth l s.1).pat with
      |true=>rfl
      |false=>have:=(hge s.1).2 hp;exfalso;first|omega|contradiction
     have h9:=zgr (nth l s.1).pat
     have e:=znl hp
     refine⟨by dsimp only;omega, ?_, ?_⟩
     ·dsimp only
      rw[if_pos hz,e,←zfK (out:=s.2) (by omega) hz hp];exact hg1.2.1
     ·dsimp only
      rw[if_pos hz,e,List.length_append];omega
    ·refine⟨by dsimp only;omega, ?_, ?_⟩
     ·dsimp only
      rw[if_neg hz,←zfL (out:=s.2) (by omega) hz];exact hg1.2.1
     ·dsimp only
      rw[if_neg hz];omega),(by dsimp only;omega),Sub.x (by kernel_rfl) (by kernel_rfl) ⟨⟨_,rfl,(LeA.eqi (by first|rfl|(dsimp only;rw[if_pos (by assumption),Pat.cs_cd,Pat.cs_cd,Pat.cs_cd,List.map_append];done)|(dsimp only;rw[if_neg (by assumption)];done)|(dsimp only;rw[if_pos (by assumption)];simp[Pat.cs_len];done)|(dsimp only;rw[if_neg (by assumption)];simp[Pat.cs_len];done)|(simp;done)|omega))⟩,⟨⟨_,rfl,(LeA.glg (by first|rfl|(dsimp only;rw[if_pos (by assumption),Pat.cs_cd,Pat.cs_cd,Pat.cs_cd,List.map_append];done)|(dsimp only;rw[if_neg (by assumption)];done)|(dsimp only;rw[if_pos (by assumption)];simp[Pat.cs_len];done)|(dsimp only;rw[if_neg (by assumption)];simp[Pat.cs_len];done)|(simp;done)|omega))⟩,trivial⟩⟩ (by kernel_rfl) (by kernel_rfl) ⟨zae (by first|rfl|(simp;done)|(simp;omega)|(first|rfl|(dsimp only;rw[if_pos (by assumption),Pat.cs_cd,Pat.cs_cd,Pat.cs_cd,List.map_append];done)|(dsimp only;rw[if_neg (by assumption)];done)|(dsimp only;rw[if_pos (by assumption)];simp[Pat.cs_len];done)|(dsimp only;rw[if_neg (by assumption)];simp[Pat.cs_len];done)|(simp;done)|omega)),trivial⟩⟩
 try simp only[Q,Pat.cs_len,Int.natCast_inj] at h2p
 refine Walk.idx sl35 .none rfl rfl rfl rfl (zay (by omega)) rfl ?_
 refine ev ?_
 refine Walk.call (cr:=[]) zsP (zlW (hc _ (zal (i:=s.1) (by omega))).1 (hc _ (zal (by omega))).2) rfl .none rfl rfl (LeL.refl _) trivial rfl rfl rfl ?_
 refine ev ?_
 refine sq (fun h3 h3p h3s=>?_) fun h3 h3p h3s=>?_
 try simp only[Q,Pat.cs_len,Int.natCast_inj] at h3p
 refine rn0 (r2 rfl rfl) (.tup (.cons (.nild ?_) (.cons (.eqd ?_) .nil)))
 rotate_left 2
 try simp only[Q,Pat.cs_len,Int.natCast_inj] at h3p
 refine Walk.append sl28 zz77 rfl .none rfl rfl rfl rfl (zaG rfl (by first|rfl|(simp;done)|(simp;omega))) (by exact zbm _) (by have:=hpl s.1;simp only[Pat.cs_len];omega) (by have:=hpl s.1;simp only[Pat.cs_len];omega) ?_
 refine ev ?_
 refine ar ?_
 refine Exists.intro ((s.1+1,if (nth l s.1).g.op=0 then s.2++zbe (zaQ (nth l s.1).pat) else s.2)) ⟨(by
    by_cases hz:(nth l s.1).g.op=0
    ·have hp:zc1 (nth l s.1).pat=true:=by
      cases hp:zc1 (nth l s.1).pat with
      |true=>rfl
      |false=>have:=(hge s.1).2 hp;exfalso;first|omega|contradiction
     have h9:=zgr (nth l s.1).pat
     have e:=znl hp
     refine⟨by dsimp only;omega, ?_, ?_⟩
     ·dsimp only
      rw[if_pos hz,e,←zfK (out:=s.2) (by omega) hz hp];exact hg1.2.1
     ·dsimp only
      rw[if_pos hz,e,List.length_append];omega
    ·refine⟨by dsimp only;omega, ?_, ?_⟩
     ·dsimp only
      rw[if_neg hz,←zfL (out:=s.2) (by omega) hz];exact hg1.2.1
     ·dsimp only
      rw[if_neg hz];omega),(by dsimp only;omega),Sub.x (by kernel_rfl) (by kernel_rfl) ⟨⟨_,rfl,(LeA.eqi (by first|rfl|(dsimp only;rw[if_pos (by assumption),Pat.cs_cd,Pat.cs_cd,Pat.cs_cd,List.map_append];done)|(dsimp only;rw[if_neg (by assumption)];done)|(dsimp only;rw[if_pos (by assumption)];simp[Pat.cs_len];done)|(dsimp only;rw[if_neg (by assumption)];simp[Pat.cs_len];done)|(simp;done)|omega))⟩,⟨⟨_,rfl,(LeA.glg (by first|rfl|(dsimp only;rw[if_pos (by assumption),Pat.cs_cd,Pat.cs_cd,Pat.cs_cd,List.map_append];done)|(dsimp only;rw[if_neg (by assumption)];done)|(dsimp only;rw[if_pos (by assumption)];simp[Pat.cs_len];done)|(dsimp only;rw[if_neg (by assumption)];simp[Pat.cs_len];done)|(simp;done)|omega))⟩,trivial⟩⟩ (by kernel_rfl) (by kernel_rfl) ⟨zae (by first|rfl|(simp;done)|(simp;omega)|(first|rfl|(dsimp only;rw[if_pos (by assumption),Pat.cs_cd,Pat.cs_cd,Pat.cs_cd,List.map_append];done)|(dsimp only;rw[if_neg (by assumption)];done)|(dsimp only;rw[if_pos (by assumption)];simp[Pat.cs_len];done)|(dsimp only;rw[if_neg (by assumption)];simp[Pat.cs_len];done)|(simp;done)|omega)),trivial⟩⟩
 try simp only[Q,Pat.cs_len,Int.natCast_inj] at h1p
 refine rn0 (r2 rfl rfl) (.tup (.cons (.gld ?_) (.cons (.eqd ?_) .nil)))
 rotate_left 2
 all_goals (first|rfl|(rw[←hg1.2.1,zk4 (by omega) (by assumption) ((hge s.1).1 (by omega))];rfl)|(rw[←hg1.2.1,zk5 (by omega)];rfl))
theorem zlX {w:List Data} (hs:Spa w){ta tk:Int} (ht:InS (w.length*4) ⟨ta,tk⟩){l:List Pat}{ok:Bool} (hl:∀a∈l,a.ok∧a.size≤1000000000000) (hb:l.length≤1000000000000):
  FnD Tryz.prog 61 [.d (zao w),.agg [.d (.i ta),.d (.i tk)],.d (zad l),.d (.bool ok)] [] (.tup [.d (zad (if l.all (isP w ⟨ta,tk⟩)=true then l else [])),.d (.bool (l.all (isP w ⟨ta,tk⟩)&&ok))]) []:=by
 have hbad:∀i,i<l.length→isP w ⟨ta,tk⟩ (nth l i)=false→l.all (isP w ⟨ta,tk⟩)=false:=fun i hi h=>by
  cases hq:l.all (isP w ⟨ta,tk⟩) with
  |false=>rfl
  |true=>have:=List.all_eq_true.1 hq _ (zal hi);rw[h] at this;cases this
 have hgood:(∀i,i<l.length→isP w ⟨ta,tk⟩ (nth l i)=true)→l.all (isP w ⟨ta,tk⟩)=true:=fun h=>List.all_eq_true.2 fun x hx=>by
  obtain⟨i,hi,rfl⟩:=List.getElem_of_mem hx
  have:=h i hi
  rwa [za9 hi] at this
 refine bd Tryz.f61 29 [] [] fun w0 F0 own kept hk=>?_
 refine Walk.box (id:=3005) .none rfl rfl rfl rfl rfl rfl rfl ?_
 refine ev ?_
 refine CWp.loopX (ι:=Nat) hk (fun i=>[(10,.d (.i (i:Int)))]) [8,9,11,12,13,14,15,16,17,18,19,20,21,22,23,24,25] (fun i=>[]) (fun i=>i≤l.length∧∀i',i'<i→isP w ⟨ta,tk⟩ (nth l i')=true) (fun i=>l.length-i) 0 ⟨by omega,fun _ h=>absurd h (by omega)⟩ ⟨⟨_,rfl,(LeA.eqi (by first|rfl|(simp;done)|(simp_all;done)|omega))⟩,trivial⟩ trivial (fun x=>rfl) (fun i hg1=>?_)
 refine evc [] [] ?_
 refine sq (fun h1 h1p h1s=>?_) fun h1 h1p h1s=>?_
 try simp only[Q,Pat.cs_len] at h1p
 refine Walk.idx sl28 .none rfl rfl rfl rfl (zaK (by omega)) rfl ?_
 refine evd [] [] ?_
 refine Walk.call (cr:=[]) znZ (zgX hs.dp.wt (zcR ht) (hl _ (zal (i:=i) (by omega))).1 (hl _ (zal (by omega))).2) rfl .none rfl rfl (LeL.refl _) trivial rfl rfl rfl ?_
 refine evd [] [] ?_
 refine dr ?_
 refine sq (fun h2 h2p h2s=>?_) fun h2 h2p h2s=>?_
 try simp only[Q,Pat.cs_len] at h2p
 refine Walk.sliceEmpty sl28 .none rfl ?_
 refine ev ?_
 refine rn0 (r2 rfl rfl) (.tup (.cons (.eqd ?_) (.cons (.eqd ?_) .nil)))
 rotate_left 2
 try simp only[Q,Pat.cs_len] at h2p
 refine ar ?_
 refine Exists.intro (i+1) ⟨⟨by omega,za2 hg1.2 (by assumption)⟩,(by omega),Sub.x (by kernel_rfl) (by kernel_rfl) ⟨⟨_,rfl,(LeA.eqi (by first|rfl|(simp;done)|(simp_all;done)|omega))⟩,trivial⟩ (by kernel_rfl) (by kernel_rfl) trivial⟩
 try simp only[Q,Pat.cs_len] at h1p
 refine Walk.call (cr:=[]) zsR (znF hb (fun p hp=>(hl p hp).1)) rfl .none rfl rfl (LeL.refl _) trivial rfl rfl rfl ?_
 refine ev ?_
 refine rn0 (r2 rfl rfl) (.tup (.cons (.eqd ?_) (.cons (.eqd ?_) .nil)))
 rotate_left 2
 all_goals (first|rfl|(rw[hbad i (by omega) (by assumption)];rfl)|(rw[hgood (fun x hx=>hg1.2 x (by omega))];rfl)|(rw[hgood (fun x hx=>hg1.2 x (by omega))];simp;done))
theorem zmL {w:List Data} (hsp:Spa w){a k:Int} (hin:InS (w.length*4) ⟨a,k⟩){l:List Cl} (h8:l.length≤8) (hsh:∀c∈l,zaw w 10 ⟨a,k⟩ c.pat=true∧c.pat.ok):
  FnD Tryz.prog 30 [.d (zao w),.agg [.d (.i a),.d (.i k)],.d (zad [anyQ]),.d (zbM l),.d (.i (l.length:Int))] [] (.tup [.d (zad ((zd1 w ⟨a,k⟩ l).getD [])),.d (.bool (zd1 w ⟨a,k⟩ l).isSome)]) []:=by
 have hco:=zlY (w:=w) (t:=⟨a,k⟩) h8 hsh
 cases hq:zbG l [] with
 |none=>
  have e:zd1 w ⟨a,k⟩ l=none:=by unfold zd1;rw[hq]
  rw[hq] at hco
  rw[e]
  refine bd Tryz.f30 42 [] [] fun w0 F0 own kept hk=>?_
  refine Walk.box (id:=3006) .none rfl rfl rfl rfl rfl rfl rfl ?_
  refine ev ?_
  refine Walk.call (cr:=[]) zr0 (hco) rfl .none rfl rfl (LeL.refl _) trivial rfl rfl rfl ?_
  refine ev ?_
  refine sq (fun h1 h1p h1s=>?_) fun h1 h1p h1s=>?_
  try simp only[Q] at h1p
  refine Walk.sliceEmpty sl28 .none rfl ?_
  refine ev ?_
  refine rn0 (r2 rfl rfl) (.tup (.cons (.eqd ?_) (.cons (.eqd ?_) .nil)))
  rotate_left 2
  try simp only[Q] at h1p
  exfalso;exact absurd h1 (by simp)
  all_goals (rfl)
 |some away=>
  rw[hq] at hco
  obtain⟨p1,p2⟩:=zeA l [] away (fun c hc=>(hsh c hc).1) (by simp) hq
  have hwo:=zjw hsp hin (l:=[anyQ]) (away:=away) zeU p2 (by simp) (by simp at p1;omega)
  have hrl2:((zaN w ⟨a,k⟩ [anyQ] away).getD []).length≤400∧∀x∈(zaN w ⟨a,k⟩ [anyQ] away).getD [],x.ok∧x.size≤1000000000000:=by
   cases hw:zaN w ⟨a,k⟩ [anyQ] away with
   |none=>exact⟨by simp,by simp⟩
   |some r=>
    have:=zeM away _ r (fun x hx=>zeU x (List.mem_filter.1 hx).1) (Nat.le_trans (List.length_filter_le _ _) (by simp)) p2 hw
    exact⟨this.1,fun x hx=>⟨(zfC hsp 11 hin (this.2 x hx)).1,by have:=(zfC hsp 11 hin (this.2 x hx)).2;have:=zoF (n:=11) (by omega);omega⟩⟩
  have hre:=zlX hsp hin (l:=(zaN w ⟨a,k⟩ [anyQ] away).getD []) (ok:=(zaN w ⟨a,k⟩ [anyQ] away).isSome) hrl2.2 (by omega)
  have hem:(zaN w ⟨a,k⟩ [anyQ] away).isSome=false→(zaN w ⟨a,k⟩ [anyQ] away).getD []=[]:=fun h=>by
   cases hw:zaN w ⟨a,k⟩ [anyQ] away with
   |none=>rfl
   |some r=>rw[hw] at h;cases h
  have e:zd1 w ⟨a,k⟩ l=if (((zaN w ⟨a,k⟩ [anyQ] away).getD []).all (isP w ⟨a,k⟩)&&(zaN w ⟨a,k⟩ [anyQ] away).isSome)=true then some ((zaN w ⟨a,k⟩ [anyQ] away).getD []) else none:=by
   unfold zd1
   rw[hq]
   cases hw:zaN w ⟨a,k⟩ [anyQ] away with
   |none=>simp[hw]
   |some r=>simp[hw]
  rw[e]
  generalize ((zaN w ⟨a,k⟩ [anyQ] away).getD []).all (isP w ⟨a,k⟩)=q at hre ⊢
  generalize (zaN w ⟨a,k⟩ [anyQ] away).isSome=q2 at hre hwo hem ⊢
  refine bd Tryz.f30 42 [] [] fun w0 F0 own kept hk=>?_
  refine Walk.box (id:=3006) .none rfl rfl rfl rfl rfl rfl rfl ?_
  refine ev ?_
  refine Walk.call (cr:=[]) zr0 (hco) rfl .none rfl rfl (LeL.refl _) trivial rfl rfl rfl ?_
  refine ev ?_
  refine sq (fun h1 h1p h1s=>?_) fun h1 h1p h1s=>?_
  try simp only[Q] at h1p
  exfalso;exact absurd h1 (by simp)
  try simp only[Q] at h1p
  refine Walk.call (cr:=[]) ztR (zlS hsp.dp) rfl .none rfl rfl (LeL.refl _) trivial rfl rfl rfl ?_
  refine evd [] [] ?_
  refine Walk.call (cr:=[]) ztQ (hwo) rfl .none rfl rfl (LeL.refl _) trivial rfl rfl rfl ?_
  refine evd [] [] ?_
  refine dr ?_
  refine Walk.call (cr:=[]) ztS (hre) rfl .none rfl rfl (LeL.refl _) trivial rfl rfl rfl ?_
  refine ev ?_
  refine rn0 (r2 rfl rfl) (.tup (.cons (.eqd ?_) (.cons (.eqd ?_) .nil)))
  rotate_left 2
  all_goals (first|rfl|(cases q<;>cases q2<;>first|rfl|(rw[hem rfl];rfl)))
theorem zg5 {w:List Data} (hs:WSmall w){a k:Int}{l:List Cl} (hl:ClsOk l) (hz:ClsSz l):
  FnD Tryz.prog 8 [.d (zao w),.agg [.d (.i a),.d (.i k)],.d (zbM l)] [] (.tup [.d (zad ((zdr w ⟨a,k⟩ l).getD [])),.d (.bool (zdr w ⟨a,k⟩ l).isSome)]) []:=by
 have hcv:=ziq hs (a:=a) (k:=k) hl hz
 by_cases hv:zbD w ⟨a,k⟩ l=true
 ·have hm:zdr w ⟨a,k⟩ l=zd1 w ⟨a,k⟩ l:=by unfold zdr;rw[if_pos hv]
  rw[hm]
  have htv:=zl8 hv
  have hsp:=zkK hs (zdo htv.1).1
  have hin:InS (w.length*4) ⟨a,k⟩:=by
   obtain⟨_,_,h3⟩:=zdo htv.1
   by_cases ha:a = -1
   ·exact .inl ha
   ·obtain⟨h4,h5,h6,h7⟩:=h3 ha
    have:=zor (n:=w.length) h5 (j:=k.toNat) (by omega)
    rwa [Int.toNat_of_nonneg h4,Int.toNat_of_nonneg h6] at this
  have hre:=zmL hsp hin htv.2 (zi0 hv hl)
  have e1:zad [anyQ]=D.sl [[D.i 1,D.i 0,D.i 0,D.i 0,D.i 0,D.sl []]]:=rfl
  rw[e1] at hre
  rw[←List.length_map (f:=Cl.c)] at hre
  refine bd Tryz.f8 24 [] [] fun w0 F0 own kept hk=>?_
  refine Walk.box (id:=3004) .none rfl rfl rfl rfl rfl rfl rfl ?_
  refine ev ?_
  refine Walk.call (cr:=[]) zrP (hcv) rfl .none rfl rfl (LeL.refl _) trivial rfl rfl rfl ?_
  refine ev ?_
  refine sq (fun h1 h1p h1s=>?_) fun h1 h1p h1s=>?_
  try simp only[Q] at h1p
  exfalso;rw[hv] at h1;exact absurd h1 (by simp)
  try simp only[Q] at h1p
  refine Walk.call (cr:=[]) zrQ (ziF) rfl .none rfl rfl (LeL.refl _) trivial rfl rfl rfl ?_
  refine Walk.sliceLit sl28 tz77 rfl (by decide) (ks:=[0]) (xs:=[_]) rfl rfl (by decide) (by decide) .none rfl rfl rfl rfl ?_
  refine evd [] [] ?_
  refine Walk.call (cr:=[]) ztK (hre) rfl .none rfl rfl (LeL.refl _) trivial rfl rfl rfl ?_
  refine evd [] [] ?_
  refine dr ?_
  refine rn0 (r2 rfl rfl) (.tup (.cons (.eqd ?_) (.cons (.eqd ?_) .nil)))
  rotate_left 2
  all_goals (rfl)
 ·have hv':zbD w ⟨a,k⟩ l=false:=by simpa using hv
  have hm:zdr w ⟨a,k⟩ l=none:=by unfold zdr;rw[if_neg hv]
  rw[hm]
  rw[hv'] at hcv
  refine bd Tryz.f8 24 [] [] fun w0 F0 own kept hk=>?_
  refine Walk.box (id:=3004) .none rfl rfl rfl rfl rfl rfl rfl ?_
  refine ev ?_
  refine Walk.call (cr:=[]) zrP (hcv) rfl .none rfl rfl (LeL.refl _) trivial rfl rfl rfl ?_
  refine ev ?_
  refine sq (fun h1 h1p h1s=>?_) fun h1 h1p h1s=>?_
  try simp only[Q] at h1p
  refine Walk.sliceEmpty sl28 .none rfl ?_
  refine ev ?_
  refine rn0 (r2 rfl rfl) (.tup (.cons (.eqd ?_) (.cons (.eqd ?_) .nil)))
  rotate_left 2
  try simp only[Q] at h1p
  exfalso;exact absurd h1 (by simp)
  all_goals (rfl)
end Go.Proofs.YtfiihhedihkdoaaGreat
