/-
  THE LAW FnExactTotalFuns: whatever the arguments of bulk at most 1048576 are, the call returns true, and the arguments read as before.
  Conditions: the bulk alone.
-/
import Derived.Test.YtfiihhedihkdoaaGreatT5
namespace Go.Proofs.YtfiihhedihkdoaaGreat
open Go
set_option linter.unusedSimpArgs false
set_option linter.unusedVariables false
set_option maxRecDepth 100000
set_option maxHeartbeats 2000000
theorem zep {xs:List Pat}{f:Nat}{B2 B3:List AV}{p:Pat→Bool} (hs:xs.length≤1000000000000) (hcal:Callee Tryz.prog f) (hB2:AV.idsL B2=[]) (hB3:AV.idsL B3=[])
  (hf:∀t∈xs,FnD Tryz.prog f [.agg [.d (.i t.op),.d (.i t.ctor),.d (.i t.n),.d (.i t.m),.d (.i t.var),.d (zad t.kids)],.ref 3003 0,.ref 3004 0] [(3003,some (.box B2)),(3004,some (.box B3))] (.d (.bool (p t))) []):
  FnD Tryz.prog 135 [.ms 1 xs.length,.fn f [.ref 3003 0,.ref 3004 0]] [(1,some (.box (pd xs))),(3003,some (.box B2)),(3004,some (.box B3))] (.d (.i (idxF p xs 0))) []:=by
 refine bd Tryz.f135 19 [15] [] fun w0 F0 own kept hk=>?_
 refine CWp.loopX (ι:=Nat) hk (fun i=>[(8,.d (.i (i:Int)))]) [4,5,9,10,11,12,13,14,15,16,17,18] (fun i=>[]) (fun i=>i≤xs.length∧idxF p (xs.drop i) i=idxF p xs 0) (fun i=>xs.length-i) 0 ⟨by omega,rfl⟩ ⟨⟨_,rfl,(LeA.eqi (by first|rfl|(simp;done)|(simp_all;done)|omega))⟩,trivial⟩ trivial (fun x=>rfl) (fun i hg1=>?_)
 refine evc [15] [] ?_
 refine sq (fun h1 h1p h1s=>?_) fun h1 h1p h1s=>?_
 try simp only[Q] at h1p
 refine Walk.idxM sl28 .none rfl rfl rfl rfl (by first|omega|(simp ;omega)) ?_
 refine Walk.loadBA ty77 .none rfl rfl rfl ((zrf (by omega))) ?_
 refine Walk.callV (cr:=[]) hcal (hf (nth xs i) (zae (by omega))) rfl .none rfl rfl rfl (LeL.refl _) ⟨rfl,rfl,trivial⟩ rfl (by simp only[zbg,List.all_cons,List.all_nil,zcm,zb5,AV.idsL,AV.ids,hB2,hB3,List.map_cons,List.map_nil];rfl) rfl ?_
 refine tv ?_
 refine sq (fun h2 h2p h2s=>?_) fun h2 h2p h2s=>?_
 try simp only[Q] at h2p
 focus (refine rn [] (r1 rfl) (.eqd ?_) ⟨rfl,rfl⟩ (SubH.get ⟨rfl,⟨rfl,⟨rfl,trivial⟩⟩⟩) (fun _ h=>h);all_goals (first|(rw[←hg1.2,zaP (by omega)];simp[idxF,h1s,h1p,h2s,h2p];done)|(rw[←hg1.2,List.drop_eq_nil_of_le (by omega)];rfl)))
 try simp only[Q] at h2p
 refine ar ?_
 refine Exists.intro (i+1) ⟨⟨by omega,(by rw[←hg1.2,zaP (l:=xs) (i:=i) (by omega)];simp_all[idxF])⟩,(by omega),Sub.x (by kernel_rfl) (by kernel_rfl) ⟨⟨_,rfl,(LeA.eqi (by first|rfl|(simp;done)|(simp_all;done)|omega))⟩,trivial⟩ (by kernel_rfl) (by kernel_rfl) trivial⟩
 try simp only[Q] at h1p
 focus (refine rn [] (r1 rfl) (.eqd ?_) ⟨rfl,rfl⟩ (SubH.get ⟨rfl,⟨rfl,⟨rfl,trivial⟩⟩⟩) (fun _ h=>h);all_goals (first|(rw[←hg1.2,zaP (by omega)];simp[idxF,h1s,h1p];done)|(rw[←hg1.2,List.drop_eq_nil_of_le (by omega)];rfl)))
theorem zgW {xs:List Pat}{f:Nat}{B2 B3:List AV}{p:Pat→Bool} (hs:xs.length≤1000000000000) (hcal:Callee Tryz.prog f) (hB2:AV.idsL B2=[]) (hB3:AV.idsL B3=[])
  (hf:∀t∈xs,FnD Tryz.prog f [.agg [.d (.i t.op),.d (.i t.ctor),.d (.i t.n),.d (.i t.m),.d (.i t.var),.d (zad t.kids)],.ref 3003 0,.ref 3004 0] [(3003,some (.box B2)),(3004,some (.box B3))] (.d (.bool (p t))) []):
  ∃tl:List AV,AV.idsL tl=[]∧FnD Tryz.prog 125 [.ms 1 xs.length,.fn f [.ref 3003 0,.ref 3004 0]] [(1,some (.box (pd xs))),(3003,some (.box B2)),(3004,some (.box B3))]
   (.ms 1 (xs.filter fun t=> !p t).length) [(1,some (.box (pd (xs.filter fun t=> !p t)++tl)))]:=by
 have hok3:zbg [(1,some (.box (pd xs))),(3003,some (.box B2)),(3004,some (.box B3))] [] (.d .nilp) []=true:=by
  simp only[zbg,List.all_cons,List.all_nil,zcm,zb5,AV.idsL,AV.ids,zhI,hB2,hB3,List.map_cons,List.map_nil];rfl
 rcases zm8 p xs 0 with ⟨hi,hall⟩|⟨k,hi,hk1,hk2⟩
 ·have hfil:(xs.filter fun t=> !p t)=xs:=List.filter_eq_self.2 (fun x hx=>by simp[hall x hx])
  refine⟨[],rfl, ?_⟩
  rw[hfil,List.append_nil]
  refine bd Tryz.f125 42 [] [] fun w0 F0 own kept hk=>?_
  refine Walk.call (cr:=[]) zkL (zep hs hcal hB2 hB3 hf) rfl .none rfl rfl (.cons (LeA.msn (by first|rfl|(simp;done))) (.cons (.refl _) .nil)) ⟨rfl,rfl,rfl,trivial⟩ rfl (zcr hok3 _) rfl ?_
  refine ev ?_
  refine sq (fun h1 h1p h1s=>?_) fun h1 h1p h1s=>?_
  try simp only[Q] at h1p
  refine rn [(1,some (.box (pd xs)))] (r1 rfl) (.refl _) ⟨rfl,rfl⟩ (SubO.get ⟨.inr ?_,⟨.inl rfl,⟨.inr rfl,⟨.inr rfl,trivial⟩⟩⟩⟩) (zbv rfl)
  rotate_left
  try simp only[Q] at h1p
  exfalso;simp[hi] at h1
  all_goals (first|((first|rfl|(simp;done));done)|(rfl))
 ·skip
  have hlen:(xs.filter fun t=> !p t).length≤xs.length:=List.length_filter_le _ _
  refine⟨zaE (xs.length-(xs.filter fun t=> !p t).length) z6,zcy rfl, ?_⟩
  refine bd Tryz.f125 42 [25] [] fun w0 F0 own kept hk=>?_
  refine Walk.call (cr:=[]) zkL (zep hs hcal hB2 hB3 hf) rfl .none rfl rfl (.cons (LeA.msn (by first|rfl|(simp;done))) (.cons (.refl _) .nil)) ⟨rfl,rfl,rfl,trivial⟩ rfl (zcr hok3 _) rfl ?_
  refine evs [25] [] ?_
  refine sq (fun h1 h1p h1s=>?_) fun h1 h1p h1s=>?_
  try simp only[Q] at h1p
  exfalso;simp[hi] at h1<;>omega
  try simp only[Q] at h1p
  refine ar ?_
  refine CWp.loopX (ι:=List Pat×Nat×Nat) hk (fun x=>[(6,.d (.i (x.2.1:Int))),(5,.d (.i (x.2.2:Int)))]) [7,16,17,18,19,20,21,22,23,24,25,26,27,28,29,30,31,32,33,34,35] (fun x=>[(1,some (.box (pd x.1)))]) (fun x=>x.1.length=xs.length∧x.2.1≤xs.length∧x.2.2≤x.2.1∧x.1.take x.2.2=(xs.take x.2.1).filter (fun t=> !p t)∧x.1.drop x.2.1=xs.drop x.2.1) (fun x=>xs.length-x.2.1) (xs,k+1,k) ⟨rfl,by dsimp only;omega,by dsimp only;omega,hk2.symm,rfl⟩ ⟨⟨_,rfl,(LeA.eqi (by first|rfl|(simp;done)|(dsimp only;simp[hi];omega)|(simp_all;done)))⟩,⟨⟨_,rfl,(LeA.eqi (by first|rfl|(simp;done)|(dsimp only;simp[hi];omega)|(simp_all;done)))⟩,trivial⟩⟩ ⟨(by first|rfl|(show some (Res.box _)=some (Res.box _);dsimp only;split<;>first|rfl|(exfalso;simp_all;done))),trivial⟩ (fun x=>rfl) (fun x hg1=>?_)
  refine evc [25] [] ?_
  refine sq (fun h2 h2p h2s=>?_) fun h2 h2p h2s=>?_
  try simp only[Q] at h2p
  refine Walk.idxM sl28 .none rfl rfl rfl rfl (by first|omega|(simp ;omega)) ?_
  refine Walk.loadBA ty77 .none rfl rfl rfl (((zrf (s:=x.1) (by omega)).trans (by rw[zpn hg1.2.2.2.2 hg1.1 (by omega)]))) ?_
  refine Walk.alloc (id:=3007) tz77 rfl .none rfl (by first|rfl|(simp only[zav,occH,occE,Res.ids,List.cons_append,List.nil_append,AV.idsL,AV.ids,zaj,zai,zao,zaK,List.map_cons,List.map_nil,upC,hB2,hB3,zhI];rfl)) (by first|rfl|(simp only[zav,occH,occE,Res.ids,List.cons_append,List.nil_append,AV.idsL,AV.ids,zaj,zai,zao,zaK,List.map_cons,List.map_nil,upC,hB2,hB3,zhI];rfl)) (by first|rfl|(simp only[zav,occH,occE,Res.ids,List.cons_append,List.nil_append,AV.idsL,AV.ids,zaj,zai,zao,zaK,List.map_cons,List.map_nil,upC,hB2,hB3,zhI];rfl)) ?_
  refine Walk.store ty77 .none rfl rfl rfl rfl rfl rfl (by simp) rfl ?_
  refine tv ?_
  refine Walk.callV (cr:=[]) hcal (hf (nth xs x.2.1) (zae (by omega))) rfl .none rfl rfl rfl (LeL.refl _) ⟨rfl,rfl,trivial⟩ rfl (by simp only[zbg,List.all_cons,List.all_nil,zcm,zb5,AV.idsL,AV.ids,hB2,hB3,List.map_cons,List.map_nil];rfl) rfl ?_
  refine evs [25] [] ?_
  refine sq (fun h3 h3p h3s=>?_) fun h3 h3p h3s=>?_
  try simp only[Q] at h3p
  refine Walk.idxM sl28 .none rfl rfl rfl rfl (by first|omega|(simp ;omega)) ?_
  refine Walk.store ty77 .none rfl rfl rfl rfl rfl rfl (by simp) ((ztW (by omega))) ?_
  refine tv ?_
  refine ar ?_
  refine ar ?_
  refine Exists.intro ((if p (nth xs x.2.1) then x.1 else x.1.set x.2.2 (nth xs x.2.1),x.2.1+1,if p (nth xs x.2.1) then x.2.2 else x.2.2+1)) ⟨(by
      obtain⟨g1,g2,g3,g4,g5⟩:=hg1
      have hlt:x.2.1<xs.length:=by omega
      have h7:=zgD (p:=fun t=> !p t) hlt
      refine⟨by dsimp only;split<;>simp[g1],by dsimp only;omega,by dsimp only;split<;>omega, ?_, ?_⟩
      ·dsimp only
       rw[h7,←g4]
       cases hp:p (nth xs x.2.1) with
       |true=>simp
       |false=>simp only[Bool.false_eq_true,if_false,Bool.not_false,if_true];rw[zit (by omega)]
      ·dsimp only
       split
       ·exact zeH g5
       ·first|(rw[zih g3];exact zeH g5)|exact zeH g5),(by dsimp only;omega),Sub.x (by kernel_rfl) (by kernel_rfl) ⟨⟨_,rfl,(LeA.eqi (by first|rfl|(simp;done)|(dsimp only;simp[hi];omega)|(simp_all;done)))⟩,⟨⟨_,rfl,(LeA.eqi (by first|rfl|(simp;done)|(dsimp only;simp[hi];omega)|(simp_all;done)))⟩,trivial⟩⟩ (by kernel_rfl) (by kernel_rfl) ⟨(by first|rfl|(show some (Res.box _)=some (Res.box _);dsimp only;split<;>first|rfl|(exfalso;simp_all;done))),trivial⟩⟩
  try simp only[Q] at h3p
  refine ar ?_
  refine Exists.intro ((if p (nth xs x.2.1) then x.1 else x.1.set x.2.2 (nth xs x.2.1),x.2.1+1,if p (nth xs x.2.1) then x.2.2 else x.2.2+1)) ⟨(by
      obtain⟨g1,g2,g3,g4,g5⟩:=hg1
      have hlt:x.2.1<xs.length:=by omega
      have h7:=zgD (p:=fun t=> !p t) hlt
      refine⟨by dsimp only;split<;>simp[g1],by dsimp only;omega,by dsimp only;split<;>omega, ?_, ?_⟩
      ·dsimp only
       rw[h7,←g4]
       cases hp:p (nth xs x.2.1) with
       |true=>simp
       |false=>simp only[Bool.false_eq_true,if_false,Bool.not_false,if_true];rw[zit (by omega)]
      ·dsimp only
       split
       ·exact zeH g5
       ·first|(rw[zih g3];exact zeH g5)|exact zeH g5),(by dsimp only;omega),Sub.x (by kernel_rfl) (by kernel_rfl) ⟨⟨_,rfl,(LeA.eqi (by first|rfl|(simp;done)|(dsimp only;simp[hi];omega)|(simp_all;done)))⟩,⟨⟨_,rfl,(LeA.eqi (by first|rfl|(simp;done)|(dsimp only;simp[hi];omega)|(simp_all;done)))⟩,trivial⟩⟩ (by kernel_rfl) (by kernel_rfl) ⟨(by first|rfl|(show some (Res.box _)=some (Res.box _);dsimp only;split<;>first|rfl|(exfalso;simp_all;done))),trivial⟩⟩
  try simp only[Q] at h2p
  refine Walk.cutM_l sl28 .none rfl rfl rfl rfl (by omega) ?_
  refine Walk.clearB sl28 tz77 rfl (by decide) rfl .none rfl rfl (zsR hg1.1 (by omega)) ?_
  refine tv ?_
  refine Walk.cutM_h sl28 .none rfl rfl rfl rfl (by omega) ?_
  refine evs [25] [] ?_
  refine rn [(1,some (.box (pd (xs.filter fun t=> !p t)++zaE (xs.length-(xs.filter fun t=> !p t).length) z6)))] (r1 rfl) (LeA.msn ?_) ⟨rfl,rfl⟩ (SubO.get ⟨.inr ?_,⟨.inl rfl,⟨.inr rfl,⟨.inr rfl,trivial⟩⟩⟩⟩) (zbv rfl)
  rotate_left 2
  all_goals (first|((first|rfl|(obtain⟨g1,g2,g3,g4,g5⟩:=hg1;have e:x.2.1=xs.length:=(by omega);rw[e,List.take_length] at g4;rw[←g4,List.length_take];omega));done)|((obtain⟨g1,g2,g3,g4,g5⟩:=hg1;have e:x.2.1=xs.length:=(by omega);rw[e,List.take_length] at g4;have e2:(xs.filter fun t=> !p t).length=x.2.2:=(by rw[←g4,List.length_take];omega);rw[e2,←g4];rfl)))
theorem zgk {f:Nat}{caps:List AV}{hp:Hp} (hcal:Callee Tryz.prog f) (k1:subH hp hp) (k2:zdF hp=true) (k3:zbg hp [] (.d .nilp) []=true):
  FnD Tryz.prog 125 [.d (.sl []),.fn f caps] hp (.d (.sl [])) []:=by
 have hz:=zej (xs:=[]) (p:=fun _=>false) (f:=f) (caps:=caps) (hp:=hp) (by simp) hcal (fun t ht=>by simp at ht) k1 k2 k3
 refine bd Tryz.f125 42 [] [] fun w0 F0 own kept hk=>?_
 refine Walk.call (cr:=[]) zkL (hz) rfl .none rfl rfl (LeL.refl _) k1 k2 (zcr k3 _) rfl ?_
 refine ev ?_
 refine sq (fun h1 h1p h1s=>?_) fun h1 h1p h1s=>?_
 try simp only[Q] at h1p
 focus (refine rn [] (r1 rfl) (.eqd ?_) ⟨rfl,rfl⟩ (fun _ _ h=>h) (fun _ h=>h);all_goals (first|rfl|(simp[h1s,h1p];done)|(simp_all;done)|(simp_all;omega)|omega))
 try simp only[Q] at h1p
 exfalso;simp[idxF] at h1
theorem zjc {xs:List Pat} (hs:xs.length≤1000000000000) (hne:xs≠[]):FnD Tryz.prog 126 [.d (zad xs)] [] (.ms 1 xs.length) [(1,some (.box (pd xs)))]:=by
 have hcs:Pat.cs xs≠[]:=fun h=>hne ((Pat.cs_nil xs).1 h)
 refine Fn.body (fn:=Tryz.f126) (n:=8) rfl rfl rfl rfl rfl (fun w0 F0 own kept hk=>?_)
 refine CWp.splitNil 0 rfl (fun hx0=>?_) ?_
 refine evc [4] [] ?_
 refine Walk.eqNilT sl28 .none rfl rfl ?_
 refine tv ?_
 refine sqT ?_
 exfalso;exact hcs hx0
 refine evc [4] [] ?_
 refine Walk.eqNilF sl28 .none rfl rfl ?_
 refine tv ?_
 refine sqF ?_
 refine Walk.sliceEmptyGV 1 sl28 .none rfl rfl ?_
 refine evs [4] [] ?_
 refine Walk.appendM hk rfl (by simp[hcs]) sl28 zz77 .none rfl rfl rfl rfl (zaz rfl (by first|rfl|(simp;done)|(simp;omega))) (by intro y hy;rw[Pat.cs_cd] at hy;obtain⟨z,_,rfl⟩:=List.mem_map.1 hy;rfl) (by simp[Pat.cs_len];omega) (by simp[Pat.cs_len];omega) ?_
 refine evs [4] [] ?_
 refine rn [(1,some (.box (pd xs)))] (r1 rfl) (LeA.msn ?_) ⟨rfl,rfl⟩ (SubH.get ⟨?_,trivial⟩) (zbv rfl)
 rotate_left 2
 all_goals (first|((first|rfl|(simp[Pat.cs_len];done));done)|(first|rfl|(show some (Res.box _)=some (Res.box _);unfold pd;rw[←Pat.cs_cd];rfl)))
theorem zkg {w:List Data} (hs:Spa w){ta tk:Int} (ht:InS (w.length*4) ⟨ta,tk⟩){p:Pat} (hp:zal w 11 ⟨ta,tk⟩ p=true):
  FnD Tryz.prog 127 [.agg [.d (.i p.op),.d (.i p.ctor),.d (.i p.n),.d (.i p.m),.d (.i p.var),.d (zad p.kids)],.ref 3003 0,.ref 3004 0] [(3003,some (.box [.d (sPtr w (zaX w))])),(3004,some (.box [.d (.i ta),.d (.i tk)]))] (.d (.bool (zbb w (zaX w) 11 ⟨ta,tk⟩ p))) []:=by
 refine bd Tryz.f127 9 [] [] fun w0 F0 own kept hk=>?_
 refine Walk.box (id:=3001) .none rfl rfl rfl rfl rfl rfl rfl ?_
 refine ev ?_
 refine Walk.call (cr:=[]) zgz (zcH hs.dp 11 (zgc _ hp) ht (zgv hs 11 ht hp).1) rfl .none rfl rfl (LeL.refl _) trivial rfl rfl rfl ?_
 refine ev ?_
 focus (refine rn [] (r1 rfl) (.eqd ?_) ⟨rfl,rfl⟩ (SubH.get ⟨rfl,⟨rfl,trivial⟩⟩) (fun _ h=>h);all_goals (first|rfl|(simp[];done)|(simp_all;done)|(simp_all;omega)|omega))
theorem zhD {w:List Data} (hs:Spa w){ta tk:Int} (ht:InS (w.length*4) ⟨ta,tk⟩){l:List Pat} (hl:∀a∈l,zal w 11 ⟨ta,tk⟩ a=true) (hb:l.length≤1000000000000):
  FnD Tryz.prog 71 [.d (sPtr w (zaX w)),.agg [.d (.i ta),.d (.i tk)],.d (zad l)] [] (.d (zad (l.filter (zbM w ⟨ta,tk⟩)))) []:=by
 by_cases hne:l=[]
 ·subst hne
  have hcl:FnD Tryz.prog 126 [.d (.sl [])] [] (.d (.sl [])) []:=(ze9 (xs:=[]) (by simp)).glD
  refine bd Tryz.f71 11 [] [] fun w0 F0 own kept hk=>?_
  refine Walk.box (id:=3003) .none rfl rfl rfl rfl rfl rfl rfl ?_
  refine Walk.box (id:=3004) .none rfl rfl rfl rfl rfl rfl rfl ?_
  refine ev ?_
  refine Walk.call (cr:=[]) zn6 (hcl) rfl .none rfl rfl (LeL.refl _) trivial rfl rfl rfl ?_
  refine Walk.closure (xs:=[_,_]) rfl .none rfl rfl ?_
  refine Walk.call (cr:=[]) zqs (zgk (hp:=[(3003,some (.box [.d (sPtr w (zaX w))])),(3004,some (.box [.d (.i ta),.d (.i tk)]))]) zqt ⟨rfl,rfl,trivial⟩ rfl rfl) rfl .none rfl rfl (LeL.refl _) ⟨rfl,rfl,trivial⟩ rfl rfl rfl ?_
  refine ev ?_
  focus (refine rn0 (r1 rfl) (.eqd ?_);all_goals (first|rfl|(simp[];done)|(simp_all;done)|(simp_all;omega)|omega))
 ·obtain⟨tl,htl,hdel⟩:=zgW (xs:=l) (p:=fun a=>zbb w (zaX w) 11 ⟨ta,tk⟩ a) hb zqt (B2:=[.d (sPtr w (zaX w))]) (B3:=[.d (.i ta),.d (.i tk)]) rfl rfl (fun a ha=>zkg hs ht (hl a ha))
  have key:FnD Tryz.prog 71 [.d (sPtr w (zaX w)),.agg [.d (.i ta),.d (.i tk)],.d (zad l)] [] (.ms 1 (l.filter (zbM w ⟨ta,tk⟩)).length) [(1,some (.box (pd (l.filter (zbM w ⟨ta,tk⟩))++tl)))]:=by
   refine bd Tryz.f71 11 [] [] fun w0 F0 own kept hk=>?_
   refine Walk.box (id:=3003) .none rfl rfl rfl rfl rfl rfl rfl ?_
   refine Walk.box (id:=3004) .none rfl rfl rfl rfl rfl rfl rfl ?_
   refine ev ?_
   refine Walk.call (cr:=[1]) zn6 (zjc hb hne) rfl .none rfl rfl (LeL.refl _) trivial rfl (by simp only[zbg,List.all_cons,List.all_nil,zcm,zb5,AV.idsL,AV.ids,zhI,zaj,htl,List.map_cons,List.map_nil];rfl) rfl ?_
   refine Walk.closure (xs:=[_,_]) rfl .none rfl rfl ?_
   refine Walk.call (cr:=[]) zqs (hdel) rfl .none rfl rfl (.cons (LeA.msn (by first|rfl|(simp;done))) (.cons (.refl _) .nil)) ⟨rfl,rfl,rfl,trivial⟩ rfl (by simp only[zbg,List.all_cons,List.all_nil,zcm,zb5,AV.idsL,AV.ids,zhI,zaj,htl,List.map_cons,List.map_nil];rfl) rfl ?_
   refine ev ?_
   refine rn [(1,some (.box (pd (l.filter (zbM w ⟨ta,tk⟩))++tl)))] (r1 rfl) (LeA.msn ?_) ⟨rfl,rfl⟩ (SubH.get ⟨?_,trivial⟩) (zbv rfl)
   rotate_left 2
   all_goals (first|((rfl);done)|(rfl))
  have h2:=key.boxD (k:=6) zrO
  rw[←Pat.cs_cd] at h2
  exact h2
structure MatchOk (w:List Data) (n m:Nat) (t:Ty) (p:Pat) (v:Val):Prop where
 shape:zar w n t p=true
 fits:zsi w m t v=true
 pok:p.ok
 vok:v.ok
 psz:p.size≤100
 vsz:v.size≤100
theorem MatchOk.two {w:List Data}{n m:Nat}{t:Ty}{p:Pat}{v:Val} (h:MatchOk w (n+1) m t p v) (h5:p.op=5):
  p.kids.length=2∧MatchOk w n m t (nth p.kids 0) v∧MatchOk w n m t (nth p.kids 1) v:=by
 obtain⟨hl,s0,s1⟩:=zjb h.shape h5
 have hpk:=(Pat.ok_iff p).1 h.pok
 have hps:=Pat.size_eq p
 have z0:=zeK (l:=p.kids) (i:=0) (by omega)
 have z1:=zeK (l:=p.kids) (i:=1) (by omega)
 have hs:=h.psz
 exact⟨hl,⟨s0,h.fits,Pats.ok_mem hpk.2 _ (zae (by omega)),h.vok,by omega,h.vsz⟩,⟨s1,h.fits,Pats.ok_mem hpk.2 _ (zae (by omega)),h.vok,by omega,h.vsz⟩⟩
theorem MatchOk.one {w:List Data}{n m:Nat}{t:Ty}{p:Pat}{v:Val} (h:MatchOk w (n+1) m t p v) (h6:p.op=6):
  p.kids.length=1∧MatchOk w n m t (nth p.kids 0) v:=by
 obtain⟨hl,s0⟩:=zja h.shape h6
 have hpk:=(Pat.ok_iff p).1 h.pok
 have hps:=Pat.size_eq p
 have z0:=zeK (l:=p.kids) (i:=0) (by omega)
 have hs:=h.psz
 exact⟨hl,⟨s0,h.fits,Pats.ok_mem hpk.2 _ (zae (by omega)),h.vok,by omega,h.vsz⟩⟩
structure VarsOk (l:List Bd) (vs:List Vt):Prop where
 len:l.length=vs.length
 nod:(l.map Bd.var).Nodup
 sub:∀x∈l.map Bd.var,x∈vs.map Vt.var
theorem zpx {w:List Data}{a k:Int}{l:List Cl} (h:zbe w ⟨a,k⟩ l=true):zbA w ⟨a,k⟩=true∧l.length≤8:=by
 unfold zbe at h
 simp only[Bool.and_eq_true,decide_eq_true_eq] at h
 exact⟨h.1,by omega⟩
theorem zmm {α β:Type}{g:α→List β}{K:Nat}:∀(l:List α),(∀x∈l,(g x).length≤K)→(l.flatMap g).length≤l.length*K
 | [],_=>by simp
 |x::r,h=>by
  have h1:=h x (by simp)
  have h2:=zmm r (fun y hy=>h y (by simp[hy]))
  rw[List.flatMap_cons,List.length_append,List.length_cons,Nat.add_mul];omega
theorem zeN {w:List Data}{t:Ty}{l away:List Pat}{i:Nat} (h:i<away.length):subL w t l (away.drop i)=if (zcg w t l (nth away i)).length≤400 then subL w t (zcg w t l (nth away i)) (away.drop (i+1)) else none:=by
 rw[zaP h,subL]
theorem zo2 {w:List Data}{t:Ty}{l away:List Pat}{i:Nat} (h:away.length≤i):subL w t l (away.drop i)=some l:=by
 rw[List.drop_eq_nil_of_le h,subL]
def zbH:List Cl→List Pat→Option (List Pat)
 | [],out=>some out
 |c::r,out=>if c.g.op=0 then (if zcW c.pat=true then zbH r (out++zdM c.pat) else none) else zbH r out
theorem zfs {l:List Cl}{out:List Pat}{i:Nat} (h:i<l.length) (hg:¬(nth l i).g.op=0):zbH (l.drop i) out=zbH (l.drop (i+1)) out:=by
 rw[zaP h,zbH,if_neg hg]
theorem zfq {l:List Cl}{out:List Pat}{i:Nat} (h:i<l.length) (hg:(nth l i).g.op=0) (hp:zcW (nth l i).pat=true):zbH (l.drop i) out=zbH (l.drop (i+1)) (out++zdM (nth l i).pat):=by
 rw[zaP h,zbH,if_pos hg,if_pos hp]
theorem zkX {l:List Cl}{out:List Pat}{i:Nat} (h:i<l.length) (hg:(nth l i).g.op=0) (hp:zcW (nth l i).pat=false):zbH (l.drop i) out=none:=by
 rw[zaP h,zbH,if_pos hg,if_neg (by rw[hp];simp)]
theorem zkY {l:List Cl}{out:List Pat}{i:Nat} (h:l.length≤i):zbH (l.drop i) out=some out:=by
 rw[List.drop_eq_nil_of_le h,zbH]
theorem zgd (p:Pat):(zdM p).length≤40:=by unfold zdM;split;assumption;simp
theorem zpo {w:List Data}{t:Ty}{p:Pat} (h:zar w 10 t p=true):∀x∈zdM p,zal w 10 t x=true:=fun x hx=>by
 unfold zdM at hx
 split at hx
 ·exact zgM 10 h x hx
 ·simp at hx
theorem zfr {w:List Data}{t:Ty}:∀(l:List Cl) (out r:List Pat),(∀c∈l,zar w 10 t c.pat=true)→(∀x∈out,zal w 10 t x=true)→zbH l out=some r→r.length≤out.length+40*l.length∧∀x∈r,zal w 10 t x=true
 | [],out,r,_,ho,h=>by rw[zbH] at h;cases h;exact⟨by simp,ho⟩
 |c::l,out,r,hc,ho,h=>by
  rw[zbH] at h
  split at h
  ·split at h
   ·have:=zfr l _ r (fun x hx=>hc x (by simp[hx])) (fun x hx=>by
     rcases List.mem_append.1 hx with hx|hx
     ·exact ho x hx
     ·exact zpo (hc c (by simp)) x hx) h
    have hl:=zgd c.pat
    rw[List.length_append] at this
    exact⟨by rw[List.length_cons];omega,this.2⟩
   ·cases h
  ·have:=zfr l _ r (fun x hx=>hc x (by simp[hx])) ho h
   exact⟨by rw[List.length_cons];omega,this.2⟩
def zef (w:List Data) (t:Ty) (l:List Cl):Option (List Pat):=match zbH l [] with
 |none=>none
 |some away=>match zaL w t [anyQ] away with
  |none=>none
  |some r=>if r.all (isP w t)=true then some r else none
def zcw (w:List Data) (t:Ty) (l:List Cl):Option (List Pat):=if zbe w t l=true then zef w t l else none
theorem zfV {w:List Data}{t:Ty}:∀(away l r:List Pat),(∀a∈l,zal w 11 t a=true)→l.length≤400→(∀b∈away,zal w 10 t b=true)→subL w t l away=some r→r.length≤400∧∀x∈r,zal w 11 t x=true
 | [],l,r,hl,hn,_,h=>by rw[subL] at h;cases h;exact⟨hn,hl⟩
 |b::away,l,r,hl,hn,hb,h=>by
  rw[subL] at h
  split at h
  ·rename_i h4
   exact zfV away _ r (zga hl (hb b (by simp))) h4 (fun x hx=>hb x (by simp[hx])) h
  ·cases h
theorem zld {w:List Data} (hs:Spa w){ta tk:Int} (ht:InS (w.length*4) ⟨ta,tk⟩){l away:List Pat} (hl:∀a∈l,zal w 11 ⟨ta,tk⟩ a=true) (hb:∀b∈away,zal w 10 ⟨ta,tk⟩ b=true) (hll:l.length≤400) (hal:away.length≤1000):
  FnD Tryz.prog 37 [.d (sPtr w (zaX w)),.agg [.d (.i ta),.d (.i tk)],.d (zad l),.d (zad away)] [] (.tup [.d (zad ((zaL w ⟨ta,tk⟩ l away).getD [])),.d (.bool (zaL w ⟨ta,tk⟩ l away).isSome)]) []:=by
 have hlf:(l.filter (zbM w ⟨ta,tk⟩)).length≤l.length:=List.length_filter_le _ _
 have hmb:∀(c:List Pat) (i:Nat),(∀a∈c,zal w 11 ⟨ta,tk⟩ a=true)→i<away.length→∀x∈c,(zas w 10 ⟨ta,tk⟩ x (nth away i)).length≤20000000:=fun c i hc hi x hx=>zfk hs (by omega) (by omega) ht (hc x hx) (hb _ (zae hi))
 have hnp:∀(c:List Pat) (i:Nat),(∀a∈c,zal w 11 ⟨ta,tk⟩ a=true)→i<away.length→∀x∈(c.flatMap fun a=>zas w 10 ⟨ta,tk⟩ a (nth away i)),zal w 11 ⟨ta,tk⟩ x=true:=fun c i hc hi x hx=>by
  obtain⟨a,ha,hx⟩:=List.mem_flatMap.1 hx
  exact zf9 10 11 (by omega) (hc a ha) (hb _ (zae hi)) x hx
 have hpre:∀ {pre rest c:List Pat}{y:Pat} (i:Nat),(∀a∈c,zal w 11 ⟨ta,tk⟩ a=true)→c.length≤400→i<away.length→pre++y::rest=c→(pre.flatMap fun a=>zas w 10 ⟨ta,tk⟩ a (nth away i)).length≤8000000000∧(zas w 10 ⟨ta,tk⟩ y (nth away i)).length≤20000000:=fun {pre rest c y} i hc h4 hi h=>by
  have h1:=zmm (g:=fun a=>zas w 10 ⟨ta,tk⟩ a (nth away i)) (K:=20000000) pre (fun x hx=>hmb c i hc hi x (by rw[←h];simp[hx]))
  have h2:=hmb c i hc hi y (by rw[←h];simp)
  have h3:=congrArg List.length h
  simp only[List.length_append,List.length_cons] at h3
  exact⟨by omega,h2⟩
 refine bd Tryz.f37 48 [12] [11] fun w0 F0 own kept hk=>?_
 refine Walk.box (id:=3005) .none rfl rfl rfl rfl rfl rfl rfl ?_
 refine evs [12] [] ?_
 refine Walk.call (cr:=[]) zr9 (zhD hs ht hl (by omega)) rfl .none rfl rfl (LeL.refl _) trivial rfl rfl rfl ?_
 refine evs [12] [] ?_
 refine CWp.loopX (ι:=Nat×List Pat) hk (fun s=>[(21,.d (.i (s.1:Int))),(2,.d (zad s.2))]) [8,9,11,12,14,22,23,24,25,26,27,28,29,30,31,32,33,34,35,36,37,38,39,40,41,42,43,44,45,46] (fun s=>[]) (fun s=>s.1≤away.length∧subL w ⟨ta,tk⟩ s.2 (away.drop s.1)=zaL w ⟨ta,tk⟩ l away∧(∀a∈s.2,zal w 11 ⟨ta,tk⟩ a=true)∧s.2.length≤400) (fun s=>away.length-s.1) (0,l.filter (zbM w ⟨ta,tk⟩)) ⟨by simp,rfl,fun a ha=>hl a (List.mem_filter.1 ha).1,by dsimp only;omega⟩ ⟨⟨_,rfl,(LeA.eqi (by first|rfl|(simp;done)|(simp_all;done)|omega))⟩,⟨⟨_,rfl,(by first|exact LeA.refl _|exact LeA.gld (by first|rfl|(simp;done)|(simp_all;done)|omega)|exact LeA.nild (by first|rfl|(simp;done)|(simp_all;done)|omega)|exact LeA.eqsl (by first|rfl|(simp;done)|(simp_all;done)|omega)|exact LeA.eqd (by first|rfl|(simp;done)|(simp_all;done)|omega))⟩,trivial⟩⟩ trivial (fun x=>rfl) (fun s hg1=>?_)
 refine evc [12] [11] ?_
 refine sq (fun h1 h1p h1s=>?_) fun h1 h1p h1s=>?_
 try simp only[Q,Pat.cs_len] at h1p
 refine Walk.idx sl28 .none rfl rfl rfl rfl (zaC (by omega)) rfl ?_
 refine evs [12] [] ?_
 refine Walk.alloc (id:=3011) tz77 rfl .none rfl rfl rfl rfl ?_
 refine Walk.store ty77 .none rfl rfl rfl rfl rfl rfl (by simp) rfl ?_
 refine tv ?_
 refine Walk.assignNil 9 6 .none rfl rfl ?_
 refine tv ?_
 refine CWp.loopX (ι:=List (Pat)×List (Pat)) hk (fun x=>[(27,.d (.i (x.1.length:Int))),(12,.gl 9 (Pat.cs (x.1.flatMap fun a=>zas w 10 ⟨ta,tk⟩ a (nth away s.1))))]) [14,28,29,30,31,32,33,34,35,36,37,38] (fun x=>[(9,some (.tok ((Pat.cs (x.1.flatMap fun a=>zas w 10 ⟨ta,tk⟩ a (nth away s.1)))).length 6))]) (fun x=>x.1++x.2=s.2) (fun x=>x.2.length) ([],s.2) (by simp) ⟨⟨_,rfl,(LeA.eqi (by first|rfl|(rw[List.flatMap_append,Pat.cs_cd,Pat.cs_cd,Pat.cs_cd,List.map_append];simp;done)|(simp[Pat.cs_len];done)|omega))⟩,⟨⟨_,rfl,(LeA.glg (by first|rfl|(rw[List.flatMap_append,Pat.cs_cd,Pat.cs_cd,Pat.cs_cd,List.map_append];simp;done)|(simp[Pat.cs_len];done)|omega))⟩,trivial⟩⟩ ⟨zab (by first|rfl|(simp;done)|(simp;omega)|(first|rfl|(rw[List.flatMap_append,Pat.cs_cd,Pat.cs_cd,Pat.cs_cd,List.map_append];simp;done)|(simp[Pat.cs_len];done)|omega)),trivial⟩ (fun x=>rfl) (fun x hg2=>?_)
 obtain⟨pre,rest⟩:=x
 dsimp only at hg2 ⊢
 refine evc [12] [11] ?_
 refine sq (fun h2 h2p h2s=>?_) fun h2 h2p h2s=>?_
 try simp only[Q,Pat.cs_len] at h2p
 rcases rest with _|⟨y,rest⟩
 ·exfalso;simp_all
 refine Walk.idx sl28 .none rfl rfl rfl rfl (Pat.cs_at' hg2) rfl ?_
 refine evs [12] [] ?_
 refine Walk.alloc (id:=3014) tz77 rfl .none rfl rfl rfl rfl ?_
 refine Walk.store ty77 .none rfl rfl rfl rfl rfl rfl (by simp) rfl ?_
 refine tv ?_
 refine Walk.call (cr:=[]) zpX (zil hs 10 11 (by omega) (by omega) (by omega) ht (hg1.2.2.1 y (by rw[←hg2];simp)) (hb _ (zae (by omega)))) rfl .none rfl rfl (LeL.refl _) trivial rfl rfl rfl ?_
 refine Walk.append sl28 zz77 rfl .none rfl rfl rfl rfl (zaz rfl (by first|rfl|(simp;done)|(simp;omega))) (by exact zbd _) (by have h9:=hpre s.1 hg1.2.2.1 hg1.2.2.2 (by omega) hg2;simp only[Pat.cs_len];omega) (by have h9:=hpre s.1 hg1.2.2.1 hg1.2.2.2 (by omega) hg2;simp only[Pat.cs_len];omega) ?_
 refine asg ?_
 refine tv ?_
 refine ar ?_
 refine Exists.intro ((pre++[y],rest)) ⟨(by have hz:=hg2;rw[←hz];simp),(by simp),Sub.x (by kernel_rfl) (by kernel_rfl) ⟨⟨_,rfl,(LeA.eqi (by first|rfl|(rw[List.flatMap_append,Pat.cs_cd,Pat.cs_cd,Pat.cs_cd,List.map_append];simp;done)|(simp[Pat.cs_len];done)|omega))⟩,⟨⟨_,rfl,(LeA.glg (by first|rfl|(rw[List.flatMap_append,Pat.cs_cd,Pat.cs_cd,Pat.cs_cd,List.map_append];simp;done)|(simp[Pat.cs_len];done)|omega))⟩,trivial⟩⟩ (by kernel_rfl) (by kernel_rfl) ⟨zab (by first|rfl|(simp;done)|(simp;omega)|(first|rfl|(rw[List.flatMap_append,Pat.cs_cd,Pat.cs_cd,Pat.cs_cd,List.map_append];simp;done)|(simp[Pat.cs_len];done)|omega)),trivial⟩⟩
 try simp only[Q,Pat.cs_len] at h2p
 have hrest:rest=[]:=by
  rcases rest with _|⟨a,b⟩
  ·rfl
  ·exfalso;have hz:=congrArg List.length (hg2);simp only[List.length_append,List.length_cons,List.length_map] at hz;omega
 subst hrest
 obtain rfl:pre=s.2:=(by simpa using hg2)
 refine evc [12] [] ?_
 refine Walk.call (cr:=[]) zr9 (zhD hs ht (l:=s.2.flatMap fun a=>zas w 10 ⟨ta,tk⟩ a (nth away s.1)) (hnp s.2 s.1 hg1.2.2.1 (by omega)) (by have:=zmm (g:=fun a=>zas w 10 ⟨ta,tk⟩ a (nth away s.1)) (K:=20000000) s.2 (hmb s.2 s.1 hg1.2.2.1 (by omega));omega)) rfl .none rfl rfl (.cons (.refl _) (.cons (.refl _) (.cons (.gl _ _) .nil))) trivial rfl rfl rfl ?_
 refine evs [12] [] ?_
 refine sq (fun h3 h3p h3s=>?_) fun h3 h3p h3s=>?_
 try simp only[Q,Pat.cs_len] at h3p
 refine rn0 (r2 rfl rfl) (.tup (.cons (.nild ?_) (.cons (.eqd ?_) .nil)))
 rotate_left 2
 try simp only[Q,Pat.cs_len] at h3p
 refine ar ?_
 refine Exists.intro ((s.1+1,zcg w ⟨ta,tk⟩ s.2 (nth away s.1))) ⟨(by
    have h4:(zcg w ⟨ta,tk⟩ s.2 (nth away s.1)).length≤400:=by unfold zcg;omega
    refine⟨by dsimp only;omega, ?_,zga hg1.2.2.1 (hb _ (zae (by omega))),h4⟩
    have e:=zeN (w:=w) (t:=⟨ta,tk⟩) (l:=s.2) (away:=away) (i:=s.1) (by omega)
    rw[if_pos h4] at e
    dsimp only
    rw[←e];exact hg1.2.1),(by dsimp only;omega),Sub.x (by kernel_rfl) (by kernel_rfl) ⟨⟨_,rfl,(LeA.eqi (by first|rfl|(simp;done)|(simp_all;done)|omega))⟩,⟨⟨_,rfl,(by first|exact LeA.refl _|exact LeA.gld (by first|rfl|(simp;done)|(simp_all;done)|omega)|exact LeA.nild (by first|rfl|(simp;done)|(simp_all;done)|omega)|exact LeA.eqsl (by first|rfl|(simp;done)|(simp_all;done)|omega)|exact LeA.eqd (by first|rfl|(simp;done)|(simp_all;done)|omega))⟩,trivial⟩⟩ (by kernel_rfl) (by kernel_rfl) trivial⟩
 try simp only[Q,Pat.cs_len] at h1p
 refine rn0 (r2 rfl rfl) (.tup (.cons (.eqd ?_) (.cons (.eqd ?_) .nil)))
 rotate_left 2
 all_goals (first|rfl|(rw[←hg1.2.1,zeN (by omega),if_neg (by assumption)];rfl)|(rw[←hg1.2.1,zeN (by omega),if_neg (by unfold zcg;omega)];rfl)|(rw[←hg1.2.1,zo2 (by omega)];rfl))
theorem zkd {w:List Data}{t:Ty}{l:List Cl} (hl:l.length≤8) (hc:∀c∈l,zar w 10 t c.pat=true∧c.pat.ok):
  FnD Tryz.prog 35 [.d (zbO l)] [] (.tup [.d (zad ((zbH l []).getD [])),.d (.bool (zbH l []).isSome)]) []:=by
 have hpl:=fun(i:Nat)=>zgd (nth l i).pat
 refine bd Tryz.f35 32 [4] [] fun w0 F0 own kept hk=>?_
 refine Walk.assignNil 9 6 .none rfl rfl ?_
 refine tv ?_
 refine CWp.loopX (ι:=Nat×List Pat) hk (fun s=>[(11,.d (.i (s.1:Int))),(4,.gl 9 (Pat.cs s.2))]) [2,3,6,7,8,12,13,14,15,16,17,18,19,20,21,22,23,24,25,26,27,28,29,30] (fun s=>[(9,some (.tok ((Pat.cs s.2)).length 6))]) (fun s=>s.1≤l.length∧zbH (l.drop s.1) s.2=zbH l []∧s.2.length≤40*s.1) (fun s=>l.length-s.1) (0,[]) ⟨by simp,rfl,by simp⟩ ⟨⟨_,rfl,(LeA.eqi (by first|rfl|(rw[if_pos (by assumption),Pat.cs_cd,Pat.cs_cd,Pat.cs_cd,List.map_append];done)|(rw[if_neg (by assumption)];done)|(rw[if_pos (by assumption)];simp[Pat.cs_len];done)|(rw[if_neg (by assumption)];simp[Pat.cs_len];done)|(simp;done)|omega))⟩,⟨⟨_,rfl,(LeA.glg (by first|rfl|(rw[if_pos (by assumption),Pat.cs_cd,Pat.cs_cd,Pat.cs_cd,List.map_append];done)|(rw[if_neg (by assumption)];done)|(rw[if_pos (by assumption)];simp[Pat.cs_len];done)|(rw[if_neg (by assumption)];simp[Pat.cs_len];done)|(simp;done)|omega))⟩,trivial⟩⟩ ⟨zab (by first|rfl|(simp;done)|(simp;omega)|(first|rfl|(rw[if_pos (by assumption),Pat.cs_cd,Pat.cs_cd,Pat.cs_cd,List.map_append];done)|(rw[if_neg (by assumption)];done)|(rw[if_pos (by assumption)];simp[Pat.cs_len];done)|(rw[if_neg (by assumption)];simp[Pat.cs_len];done)|(simp;done)|omega)),trivial⟩ (fun x=>rfl) (fun s hg1=>?_)
 refine evc [4] [] ?_
 refine sq (fun h1 h1p h1s=>?_) fun h1 h1p h1s=>?_
 try simp only[Q,Pat.cs_len] at h1p
 refine Walk.idx sl35 .none rfl rfl rfl rfl (zam (by omega)) rfl ?_
 refine evs [4] [] ?_
 refine Walk.alloc (id:=3006) tz85 rfl .none rfl rfl rfl rfl ?_
 refine Walk.store ty85 .none rfl rfl rfl rfl rfl rfl (by simp) rfl ?_
 refine tv ?_
 refine sq (fun h2 h2p h2s=>?_) fun h2 h2p h2s=>?_
 try simp only[Q,Pat.cs_len] at h2p
 refine ar ?_
 refine Exists.intro ((s.1+1,if (nth l s.1).g.op=0 then s.2++zdM (nth l s.1).pat else s.2)) ⟨(by
    have h9:=hpl s.1
    by_cases hz:(nth l s.1).g.op=0
    ·refine⟨by dsimp only;omega, ?_, ?_⟩
     ·dsimp only
      rw[if_pos hz,←zfq (out:=s.2) (by omega) hz (by simp_all)];exact hg1.2.1
     ·dsimp only
      rw[if_pos hz,List.length_append];omega
    ·refine⟨by dsimp only;omega, ?_, ?_⟩
     ·dsimp only
      rw[if_neg hz,←zfs (out:=s.2) (by omega) hz];exact hg1.2.1
     ·dsimp only
      rw[if_neg hz];omega),(by dsimp only;omega),Sub.x (by kernel_rfl) (by kernel_rfl) ⟨⟨_,rfl,(LeA.eqi (by first|rfl|(rw[if_pos (by assumption),Pat.cs_cd,Pat.cs_cd,Pat.cs_cd,List.map_append];done)|(rw[if_neg (by assumption)];done)|(rw[if_pos (by assumption)];simp[Pat.cs_len];done)|(rw[if_neg (by assumption)];simp[Pat.cs_len];done)|(simp;done)|omega))⟩,⟨⟨_,rfl,(LeA.glg (by first|rfl|(rw[if_pos (by assumption),Pat.cs_cd,Pat.cs_cd,Pat.cs_cd,List.map_append];done)|(rw[if_neg (by assumption)];done)|(rw[if_pos (by assumption)];simp[Pat.cs_len];done)|(rw[if_neg (by assumption)];simp[Pat.cs_len];done)|(simp;done)|omega))⟩,trivial⟩⟩ (by kernel_rfl) (by kernel_rfl) ⟨zab (by first|rfl|(simp;done)|(simp;omega)|(first|rfl|(rw[if_pos (by assumption),Pat.cs_cd,Pat.cs_cd,Pat.cs_cd,List.map_append];done)|(rw[if_neg (by assumption)];done)|(rw[if_pos (by assumption)];simp[Pat.cs_len];done)|(rw[if_neg (by assumption)];simp[Pat.cs_len];done)|(simp;done)|omega)),trivial⟩⟩
 try simp only[Q,Pat.cs_len] at h2p
 refine Walk.call (cr:=[]) zuD (znD (hc _ (zae (i:=s.1) (by omega))).1 (hc _ (zae (by omega))).2) rfl .none rfl rfl (LeL.refl _) trivial rfl rfl rfl ?_
 refine evs [4] [] ?_
 refine sq (fun h3 h3p h3s=>?_) fun h3 h3p h3s=>?_
 try simp only[Q,Pat.cs_len] at h3p
 refine rn0 (r2 rfl rfl) (.tup (.cons (.nild ?_) (.cons (.eqd ?_) .nil)))
 rotate_left 2
 try simp only[Q,Pat.cs_len] at h3p
 refine Walk.append sl28 zz77 rfl .none rfl rfl rfl rfl (zaz rfl (by first|rfl|(simp;done)|(simp;omega))) (by exact zbd _) (by have:=hpl s.1;simp only[Pat.cs_len];omega) (by have:=hpl s.1;simp only[Pat.cs_len];omega) ?_
 refine asg ?_
 refine tv ?_
 refine ar ?_
 refine Exists.intro ((s.1+1,if (nth l s.1).g.op=0 then s.2++zdM (nth l s.1).pat else s.2)) ⟨(by
    have h9:=hpl s.1
    by_cases hz:(nth l s.1).g.op=0
    ·refine⟨by dsimp only;omega, ?_, ?_⟩
     ·dsimp only
      rw[if_pos hz,←zfq (out:=s.2) (by omega) hz (by simp_all)];exact hg1.2.1
     ·dsimp only
      rw[if_pos hz,List.length_append];omega
    ·refine⟨by dsimp only;omega, ?_, ?_⟩
     ·dsimp only
      rw[if_neg hz,←zfs (out:=s.2) (by omega) hz];exact hg1.2.1
     ·dsimp only
      rw[if_neg hz];omega),(by dsimp only;omega),Sub.x (by kernel_rfl) (by kernel_rfl) ⟨⟨_,rfl,(LeA.eqi (by first|rfl|(rw[if_pos (by assumption),Pat.cs_cd,Pat.cs_cd,Pat.cs_cd,List.map_append];done)|(rw[if_neg (by assumption)];done)|(rw[if_pos (by assumption)];simp[Pat.cs_len];done)|(rw[if_neg (by assumption)];simp[Pat.cs_len];done)|(simp;done)|omega))⟩,⟨⟨_,rfl,(LeA.glg (by first|rfl|(rw[if_pos (by assumption),Pat.cs_cd,Pat.cs_cd,Pat.cs_cd,List.map_append];done)|(rw[if_neg (by assumption)];done)|(rw[if_pos (by assumption)];simp[Pat.cs_len];done)|(rw[if_neg (by assumption)];simp[Pat.cs_len];done)|(simp;done)|omega))⟩,trivial⟩⟩ (by kernel_rfl) (by kernel_rfl) ⟨zab (by first|rfl|(simp;done)|(simp;omega)|(first|rfl|(rw[if_pos (by assumption),Pat.cs_cd,Pat.cs_cd,Pat.cs_cd,List.map_append];done)|(rw[if_neg (by assumption)];done)|(rw[if_pos (by assumption)];simp[Pat.cs_len];done)|(rw[if_neg (by assumption)];simp[Pat.cs_len];done)|(simp;done)|omega)),trivial⟩⟩
 try simp only[Q,Pat.cs_len] at h1p
 refine rn0 (r2 rfl rfl) (.tup (.cons (.gld ?_) (.cons (.eqd ?_) .nil)))
 rotate_left 2
 all_goals (first|rfl|(rw[←hg1.2.1,zkX (by omega) (by first|assumption|(simp_all;done)) (by assumption)];rfl)|(rw[←hg1.2.1,zkY (by omega)];rfl))
theorem zkj {w:List Data} (hs:Spa w){f:Nat→Nat}{ta tk:Int} (ht:InS (w.length*4) ⟨ta,tk⟩){p:Pat} (hp:p.ok):
  FnD Tryz.prog 74 [.agg [.d (.i p.op),.d (.i p.ctor),.d (.i p.n),.d (.i p.m),.d (.i p.var),.d (zad p.kids)],.ref 3004 0,.ref 3005 0] [(3004,some (.box [.d (sPtr w f)])),(3005,some (.box [.d (.i ta),.d (.i tk)]))] (.d (.bool (!isP w ⟨ta,tk⟩ p))) []:=by
 refine bd Tryz.f74 13 [] [] fun w0 F0 own kept hk=>?_
 refine Walk.box (id:=3001) .none rfl rfl rfl rfl rfl rfl rfl ?_
 refine ev ?_
 refine Walk.call (cr:=[]) zuH (zjI hs.dp.wt (zcI ht) hp) rfl .none rfl rfl (LeL.refl _) trivial rfl rfl rfl ?_
 refine evd [] [] ?_
 refine dr ?_
 refine rn [] (r1 rfl) (.eqd ?_) ⟨rfl,rfl⟩ (SubH.get ⟨rfl,⟨rfl,trivial⟩⟩) (fun _ h=>h)
 rotate_left
 all_goals (rfl)
theorem zmq {w:List Data} (hs:Spa w){f:Nat→Nat}{ta tk:Int} (ht:InS (w.length*4) ⟨ta,tk⟩){l:List Pat}{ok:Bool} (hl:∀a∈l,a.ok) (hb:l.length≤1000000000000):
  FnD Tryz.prog 39 [.d (sPtr w f),.agg [.d (.i ta),.d (.i tk)],.d (zad l),.d (.bool ok)] [] (.tup [.d (zad (if (ok&&l.all (isP w ⟨ta,tk⟩))=true then l else [])),.d (.bool (ok&&l.all (isP w ⟨ta,tk⟩)))]) []:=by
 have hall:(l.any fun p=> !isP w ⟨ta,tk⟩ p) = !(l.all (isP w ⟨ta,tk⟩)):=by
  induction l with
  |nil=>rfl
  |cons x r ih=>rw[List.any_cons,List.all_cons,ih (fun a ha=>hl a (by simp[ha])) (by simp at hb;omega),Bool.not_and]
 have hcf:=zfT (xs:=l) (p:=fun p=> !isP w ⟨ta,tk⟩ p) (caps:=[.ref 3004 0,.ref 3005 0]) (hp:=[(3004,some (.box [.d (sPtr w f)])),(3005,some (.box [.d (.i ta),.d (.i tk)]))]) hb zuG (fun q hq=>zkj hs ht (hl q hq)) ⟨rfl,rfl,trivial⟩ rfl rfl
 rw[hall] at hcf
 clear hall
 generalize l.all (isP w ⟨ta,tk⟩)=q at hcf ⊢
 refine bd Tryz.f39 19 [] [] fun w0 F0 own kept hk=>?_
 refine Walk.box (id:=3004) .none rfl rfl rfl rfl rfl rfl rfl ?_
 refine Walk.box (id:=3005) .none rfl rfl rfl rfl rfl rfl rfl ?_
 refine ev ?_
 refine sq (fun h1 h1p h1s=>?_) fun h1 h1p h1s=>?_
 try simp only[Q] at h1p
 refine sqT ?_
 refine rn0 (r2 rfl rfl) (.tup (.cons (.nild ?_) (.cons (.eqd ?_) .nil)))
 rotate_left 2
 try simp only[Q] at h1p
 refine Walk.closure (xs:=[_,_]) rfl (.some rfl rfl h1) rfl rfl ?_
 refine Walk.call (cr:=[]) zuF (hcf) rfl (.some rfl rfl h1) rfl rfl (LeL.refl _) ⟨rfl,rfl,trivial⟩ rfl rfl rfl ?_
 refine evs [] [(12,false)] ?_ ⟨⟨_,rfl,h1⟩,trivial⟩
 refine sq (fun h3 h3p h3s=>?_) fun h3 h3p h3s=>?_
 try simp only[Q] at h3p
 refine rn0 (r2 rfl rfl) (.tup (.cons (.nild ?_) (.cons (.eqd ?_) .nil)))
 rotate_left 2
 try simp only[Q] at h3p
 refine Walk.call (cr:=[]) zuI (ziw hb hl) rfl .none rfl rfl (LeL.refl _) trivial rfl rfl rfl ?_
 refine ev ?_
 refine rn0 (r2 rfl rfl) (.tup (.cons (.eqd ?_) (.cons (.eqd ?_) .nil)))
 rotate_left 2
 all_goals (first|rfl|(cases ok<;>cases q<;>first|rfl|(exfalso;simp_all;done)))
theorem zmT {w:List Data}{t:Ty}{l:List Cl} (h:zbe w t l=true) (hl:ClsOk l):∀c∈l,zar w 10 t c.pat=true∧c.pat.ok:=fun c hc=>by
 unfold zbe at h
 simp only[Bool.and_eq_true,Bool.not_eq_true',List.any_eq_false,Bool.not_eq_true] at h
 have h4:clOk w t c=true:=by simpa using h.2.2 c hc
 unfold clOk isP at h4
 simp only[Bool.and_eq_true] at h4
 exact⟨h4.1.1,hl.2 c hc⟩
theorem zgY {w:List Data}{t:Ty}:∀a∈[anyQ],zal w 11 t a=true:=fun a ha=>by
 rw[List.mem_singleton.1 ha];exact ziB
theorem zgV {w:List Data} (hs:WSmall w){a k:Int}{l:List Cl} (hl:ClsOk l):
  FnD Tryz.prog 12 [.d (zak w),.agg [.d (.i a),.d (.i k)],.d (zbO l)] [] (.tup [.d (zad ((zcw w ⟨a,k⟩ l).getD [])),.d (.bool (zcw w ⟨a,k⟩ l).isSome)]) []:=by
 have hcv:=zeS hs (a:=a) (k:=k) hl
 by_cases hv:zbe w ⟨a,k⟩ l=true
 ·have hm:zcw w ⟨a,k⟩ l=zef w ⟨a,k⟩ l:=by unfold zcw;rw[if_pos hv]
  rw[hm]
  have htv:=zpx hv
  have hsp:=zpa hs (zdJ htv.1).1
  have hsh:=zmT hv hl
  have hin:InS (w.length*4) ⟨a,k⟩:=by
   obtain⟨_,_,h3⟩:=zdJ htv.1
   by_cases ha:a = -1
   ·exact .inl ha
   ·obtain⟨h4,h5,h6,h7⟩:=h3 ha
    have:=zq8 (n:=w.length) h5 (j:=k.toNat) (by omega)
    rwa [Int.toNat_of_nonneg h4,Int.toNat_of_nonneg h6] at this
  have hco:=zkd (w:=w) (t:=⟨a,k⟩) htv.2 hsh
  cases hq:zbH l [] with
  |none=>
   have e:zef w ⟨a,k⟩ l=none:=by unfold zef;rw[hq]
   rw[hq] at hco
   rw[e]
   refine bd Tryz.f12 42 [] [] fun w0 F0 own kept hk=>?_
   refine Walk.box (id:=3004) .none rfl rfl rfl rfl rfl rfl rfl ?_
   refine ev ?_
   refine Walk.call (cr:=[]) znS (hcv) rfl .none rfl rfl (LeL.refl _) trivial rfl rfl rfl ?_
   refine ev ?_
   refine sq (fun h1 h1p h1s=>?_) fun h1 h1p h1s=>?_
   try simp only[Q] at h1p
   exfalso;rw[hv] at h1;exact absurd h1 (by simp)
   try simp only[Q] at h1p
   refine Walk.call (cr:=[]) zr4 (hco) rfl .none rfl rfl (LeL.refl _) trivial rfl rfl rfl ?_
   refine ev ?_
   refine sq (fun h2 h2p h2s=>?_) fun h2 h2p h2s=>?_
   try simp only[Q] at h2p
   refine rn0 (r2 rfl rfl) (.tup (.cons (.nild ?_) (.cons (.eqd ?_) .nil)))
   rotate_left 2
   try simp only[Q] at h2p
   exfalso;exact absurd h2 (by simp)
   all_goals (rfl)
  |some away=>
   rw[hq] at hco
   obtain⟨p1,p2⟩:=zfr l [] away (fun c hc=>(hsh c hc).1) (by simp) hq
   have hwo:=zld hsp hin (l:=[anyQ]) (away:=away) zgY p2 (by simp) (by simp at p1;omega)
   have hrl:(zaL w ⟨a,k⟩ [anyQ] away).isSome=true→((zaL w ⟨a,k⟩ [anyQ] away).getD []).length≤400∧∀x∈(zaL w ⟨a,k⟩ [anyQ] away).getD [],zal w 11 ⟨a,k⟩ x=true:=fun h=>by
    cases hw:zaL w ⟨a,k⟩ [anyQ] away with
    |none=>rw[hw] at h;cases h
    |some r=>exact zfV away _ r (fun x hx=>zgY x (List.mem_filter.1 hx).1) (Nat.le_trans (List.length_filter_le _ _) (by simp)) p2 hw
   have hrl2:((zaL w ⟨a,k⟩ [anyQ] away).getD []).length≤400∧∀x∈(zaL w ⟨a,k⟩ [anyQ] away).getD [],x.ok:=by
    cases hw:zaL w ⟨a,k⟩ [anyQ] away with
    |none=>exact⟨by simp,by simp⟩
    |some r=>
     have:=hrl (by rw[hw];rfl)
     rw[hw] at this
     exact⟨this.1,fun x hx=>(zgv hsp 11 hin (this.2 x hx)).1⟩
   have hre:=zmq hsp (f:=zaX w) hin (l:=(zaL w ⟨a,k⟩ [anyQ] away).getD []) (ok:=(zaL w ⟨a,k⟩ [anyQ] away).isSome) hrl2.2 (by omega)
   have e:zef w ⟨a,k⟩ l=if ((zaL w ⟨a,k⟩ [anyQ] away).isSome&&((zaL w ⟨a,k⟩ [anyQ] away).getD []).all (isP w ⟨a,k⟩))=true then some ((zaL w ⟨a,k⟩ [anyQ] away).getD []) else none:=by
    unfold zef
    rw[hq]
    cases hw:zaL w ⟨a,k⟩ [anyQ] away with
    |none=>simp[hw]
    |some r=>simp[hw]
   rw[e]
   generalize ((zaL w ⟨a,k⟩ [anyQ] away).isSome&&((zaL w ⟨a,k⟩ [anyQ] away).getD []).all (isP w ⟨a,k⟩))=q at hre ⊢
   refine bd Tryz.f12 42 [] [] fun w0 F0 own kept hk=>?_
   refine Walk.box (id:=3004) .none rfl rfl rfl rfl rfl rfl rfl ?_
   refine ev ?_
   refine Walk.call (cr:=[]) znS (hcv) rfl .none rfl rfl (LeL.refl _) trivial rfl rfl rfl ?_
   refine ev ?_
   refine sq (fun h1 h1p h1s=>?_) fun h1 h1p h1s=>?_
   try simp only[Q] at h1p
   exfalso;rw[hv] at h1;exact absurd h1 (by simp)
   try simp only[Q] at h1p
   refine Walk.call (cr:=[]) zr4 (hco) rfl .none rfl rfl (LeL.refl _) trivial rfl rfl rfl ?_
   refine ev ?_
   refine sq (fun h2 h2p h2s=>?_) fun h2 h2p h2s=>?_
   try simp only[Q] at h2p
   exfalso;exact absurd h2 (by simp)
   try simp only[Q] at h2p
   refine Walk.call (cr:=[]) zug (zjH hsp.dp) rfl .none rfl rfl (LeL.refl _) trivial rfl rfl rfl ?_
   refine ev ?_
   refine Walk.call (cr:=[]) zpW (zd2) rfl .none rfl rfl (LeL.refl _) trivial rfl rfl rfl ?_
   refine Walk.sliceLit sl28 tz77 rfl (by decide) (ks:=[0]) (xs:=[_]) rfl rfl (by decide) (by decide) .none rfl rfl rfl rfl ?_
   refine evd [] [] ?_
   refine Walk.call (cr:=[]) zuh (hwo) rfl .none rfl rfl (LeL.refl _) trivial rfl rfl rfl ?_
   refine evd [] [] ?_
   refine dr ?_
   refine Walk.call (cr:=[]) zui (hre) rfl .none rfl rfl (LeL.refl _) trivial rfl rfl rfl ?_
   refine ev ?_
   refine rn0 (r2 rfl rfl) (.tup (.cons (.eqd ?_) (.cons (.eqd ?_) .nil)))
   rotate_left 2
   all_goals (first|rfl|(cases q<;>rfl))
 ·have hv':zbe w ⟨a,k⟩ l=false:=by simpa using hv
  have hm:zcw w ⟨a,k⟩ l=none:=by unfold zcw;rw[if_neg hv]
  rw[hm]
  rw[hv'] at hcv
  refine bd Tryz.f12 42 [] [] fun w0 F0 own kept hk=>?_
  refine Walk.box (id:=3004) .none rfl rfl rfl rfl rfl rfl rfl ?_
  refine ev ?_
  refine Walk.call (cr:=[]) znS (hcv) rfl .none rfl rfl (LeL.refl _) trivial rfl rfl rfl ?_
  refine ev ?_
  refine sq (fun h1 h1p h1s=>?_) fun h1 h1p h1s=>?_
  try simp only[Q] at h1p
  refine rn0 (r2 rfl rfl) (.tup (.cons (.nild ?_) (.cons (.eqd ?_) .nil)))
  rotate_left 2
  try simp only[Q] at h1p
  exfalso;exact absurd h1 (by simp)
  all_goals (rfl)
def exhQ (w:List Data) (t:Ty) (l:List Cl):Bool:=(zcw w t l).isSome&&decide (((zcw w t l).getD []).length=0)
theorem ziR {w:List Data} (hs:WSmall w){a k:Int}{l:List Cl} (hl:ClsOk l):
  FnD Tryz.prog 26 [.d (zak w),.agg [.d (.i a),.d (.i k)],.d (zbO l)] [] (.tup [.d (.bool (exhQ w ⟨a,k⟩ l)),.d (.bool (zcw w ⟨a,k⟩ l).isSome)]) []:=by
 have hmp:=zgV hs (a:=a) (k:=k) hl
 unfold exhQ
 generalize zcw w ⟨a,k⟩ l=m at *
 refine bd Tryz.f26 24 [] [] fun w0 F0 own kept hk=>?_
 refine Walk.box (id:=3004) .none rfl rfl rfl rfl rfl rfl rfl ?_
 refine ev ?_
 refine Walk.call (cr:=[]) zt2 (hmp) rfl .none rfl rfl (LeL.refl _) trivial rfl rfl rfl ?_
 refine ev ?_
 refine sq (fun h1 h1p h1s=>?_) fun h1 h1p h1s=>?_
 try simp only[Q,Pat.cs_len,Int.natCast_inj] at h1p
 refine rn0 (r2 rfl rfl) (.tup (.cons (.eqd ?_) (.cons (.eqd ?_) .nil)))
 rotate_left 2
 try simp only[Q,Pat.cs_len,Int.natCast_inj] at h1p
 refine rn0 (r2 rfl rfl) (.tup (.cons (.eqd ?_) (.cons (.eqd ?_) .nil)))
 rotate_left 2
 all_goals (first|rfl|(simp_all[Pat.cs_len];done)|(cases m<;>simp_all[Pat.cs_len];done)|(cases m<;>simp[Pat.cs_len] at *;done))
def zle (w:List Data) (t:Ty) (b a:Pat):List Pat:=(zas w 10 t a b).filter (zbM w t)
def zdn (w:List Data) (t:Ty) (l:List Pat) (b:Pat) (k:Nat):List Pat:=(l.take k).flatMap (zle w t b)
theorem zlD {w:List Data}{t:Ty}{l:List Pat}{b:Pat}:zcg w t l b=l.flatMap (zle w t b):=by
 unfold zcg
 induction l with
 |nil=>rfl
 |cons x r ih=>rw[List.flatMap_cons,List.filter_append,List.flatMap_cons,ih];rfl
theorem zaO {w:List Data}{t:Ty}{l:List Pat}{b:Pat}{k:Nat} (h:l.length≤k):zdn w t l b k=zcg w t l b:=by
 rw[zlD,zdn,List.take_of_length_le h]
theorem zb8 {w:List Data}{t:Ty}{l:List Pat}{b:Pat}{k:Nat} (h:k<l.length):zdn w t l b (k+1)=zdn w t l b k++zle w t b (nth l k):=by
 unfold zdn
 have e:l[k]?=some (nth l k):=by simpa using zam (f:=id) h
 rw[List.take_add_one,e,List.flatMap_append]
 simp
theorem zrL {w:List Data}{t:Ty}{l:List Pat}{b:Pat} (k:Nat):(zdn w t l b k).length≤(zcg w t l b).length:=by
 rw[zlD,zdn]
 conv=>rhs;rw[←List.take_append_drop k l,List.flatMap_append]
 rw[List.length_append];omega
theorem zhb {w:List Data} (hs:Spa w):∀(n:Nat){ta tk:Int}{p:Pat},InS (w.length*4) ⟨ta,tk⟩→zal w n ⟨ta,tk⟩ p=true→
  FnD Tryz.prog 167 [.d (zak w),.d (zhz (w.length*4) (zaX w)),.agg [.d (.i ta),.d (.i tk)],.agg [.d (.i (p).op),.d (.i (p).ctor),.d (.i (p).n),.d (.i (p).m),.d (.i (p).var),.d (zad (p).kids)]] [] (.d (.bool (!zbb w (zaX w) n ⟨ta,tk⟩ p))) []
 |0,ta,tk,p,_,h=>by simp[zal] at h
 |n+1,ta,tk,p,ht,h=>by
  have hdp:=zlU (f:=zaX w) ht (by have:=hs.dp.four;omega)
  by_cases h1:p.op=1
  ·rw[zhy h1]
   refine bd Tryz.f167 45 [] [] fun w0 F0 own kept hk=>?_
   refine Walk.box (id:=3006) .none rfl rfl rfl rfl rfl rfl rfl ?_
   refine Walk.box (id:=3007) .none rfl rfl rfl rfl rfl rfl rfl ?_
   refine ev ?_
   refine sq (fun h1 h1p h1s=>?_) fun h1 h1p h1s=>?_
   try simp only[Q] at h1p
   refine Walk.call (cr:=[]) zqA (hdp) rfl .none rfl rfl (LeL.refl _) trivial rfl rfl rfl ?_
   refine ev ?_
   refine rn0 (r1 rfl) (.eqd ?_)
   rotate_left
   try simp only[Q] at h1p
   exfalso;omega
   all_goals (refine congrArg D.bool ?_;rw[Bool.eq_iff_iff];simp;omega)
  by_cases h3:p.op=3
  ·rw[zmh h h3]
   refine bd Tryz.f167 45 [] [] fun w0 F0 own kept hk=>?_
   refine Walk.box (id:=3006) .none rfl rfl rfl rfl rfl rfl rfl ?_
   refine Walk.box (id:=3007) .none rfl rfl rfl rfl rfl rfl rfl ?_
   refine ev ?_
   refine sq (fun h1 h1p h1s=>?_) fun h1 h1p h1s=>?_
   try simp only[Q] at h1p
   exfalso;omega
   try simp only[Q] at h1p
   refine sq (fun h2 h2p h2s=>?_) fun h2 h2p h2s=>?_
   try simp only[Q] at h2p
   refine rn0 (r1 rfl) (.eqd ?_)
   rotate_left
   try simp only[Q] at h2p
   exfalso;omega
   all_goals (rfl)
  have h4:p.op=4:=by have:=zcc h;omega
  obtain⟨c1,c2,c3,-⟩:=zba h h4
  have h3l:=hs.args ⟨ta,tk⟩ p.ctor ht c1
  have hk:=fun i (hi:i<p.kids.length)=>zbt h hi
  rw[zbI h4] at hk
  rw[zmi h4,Bool.not_not]
  have ih:=fun i (hi:i<p.kids.length)=>zhb hs n (ta:=(nth (zag w ⟨ta,tk⟩ p.ctor) i).data) (tk:=(nth (zag w ⟨ta,tk⟩ p.ctor) i).index) (p:=nth p.kids i) (zco hs.dp ht c1 _ (zae (by omega))) (hk i hi)
  refine bd Tryz.f167 45 [] [] fun w0 F0 own kept hk=>?_
  refine Walk.box (id:=3006) .none rfl rfl rfl rfl rfl rfl rfl ?_
  refine Walk.box (id:=3007) .none rfl rfl rfl rfl rfl rfl rfl ?_
  refine ev ?_
  refine sq (fun h1 h1p h1s=>?_) fun h1 h1p h1s=>?_
  try simp only[Q,Pat.cs_len] at h1p
  exfalso;omega
  try simp only[Q,Pat.cs_len] at h1p
  refine sq (fun h2 h2p h2s=>?_) fun h2 h2p h2s=>?_
  try simp only[Q,Pat.cs_len] at h2p
  exfalso;omega
  try simp only[Q,Pat.cs_len] at h2p
  refine Walk.call (cr:=[]) zhv (zc4 hs.dp.wt (zcI ht) c1) rfl .none rfl rfl (LeL.refl _) trivial rfl rfl rfl ?_
  refine ev ?_
  refine CWp.loopX (ι:=Nat) hk (fun i=>[(10,.d (.i (i:Int)))]) [8,26,27,28,29,30,31,32,33,34,35,36,37,38,39,40,41,42,43,44] (fun i=>[]) (fun i=>i≤(zag w ⟨ta,tk⟩ p.ctor).length∧∀i',i'<i→(!zbb w (zaX w) n (nth (zag w ⟨ta,tk⟩ p.ctor) i') (nth p.kids i'))=true) (fun i=>(zag w ⟨ta,tk⟩ p.ctor).length-i) 0 ⟨by omega,fun _ h=>absurd h (by omega)⟩ ⟨⟨_,rfl,(LeA.eqi (by first|rfl|(simp;done)|(simp_all;done)|omega))⟩,trivial⟩ trivial (fun x=>rfl) (fun i hg1=>?_)
  refine evc [] [] ?_
  refine sq (fun h3 h3p h3s=>?_) fun h3 h3p h3s=>?_
  try simp only[Q,Pat.cs_len] at h3p
  refine Walk.idx zaS .none rfl rfl rfl rfl (zam (by omega)) rfl ?_
  refine evd [] [] ?_
  refine Walk.idx sl28 .none rfl rfl rfl rfl (zaC (by omega)) rfl ?_
  refine evd [] [] ?_
  refine Walk.call (cr:=[]) zqy (ih i (by omega)) rfl .none rfl rfl (LeL.refl _) trivial rfl rfl rfl ?_
  refine evd [] [] ?_
  refine dr ?_
  refine sq (fun h4 h4p h4s=>?_) fun h4 h4p h4s=>?_
  try simp only[Q,Pat.cs_len] at h4p
  refine rn0 (r1 rfl) (.eqd ?_)
  rotate_left
  try simp only[Q,Pat.cs_len] at h4p
  refine ar ?_
  refine Exists.intro (i+1) ⟨⟨by omega,zaF hg1.2 (by first|assumption|(simp;assumption)|(simp_all;done))⟩,(by omega),Sub.x (by kernel_rfl) (by kernel_rfl) ⟨⟨_,rfl,(LeA.eqi (by first|rfl|(simp;done)|(simp_all;done)|omega))⟩,trivial⟩ (by kernel_rfl) (by kernel_rfl) trivial⟩
  try simp only[Q,Pat.cs_len] at h3p
  refine rn0 (r1 rfl) (.eqd ?_)
  rotate_left
  all_goals (refine congrArg D.bool ?_;first|(rw[zbq (i:=i) (by omega) (by omega) (by first|assumption|(simp;assumption)|(simp_all;done))];done)|(rw[zbE (by omega) (fun x hx=>hg1.2 x (by omega))];done))
theorem zhN {w:List Data} (hs:Spa w){ta tk:Int} (ht:InS (w.length*4) ⟨ta,tk⟩){l:List Pat} (hl:∀a∈l,zal w 11 ⟨ta,tk⟩ a=true) (hb:l.length≤20000000):
  FnD Tryz.prog 108 [.d (zak w),.d (zhz (w.length*4) (zaX w)),.agg [.d (.i ta),.d (.i tk)],.d (zad l)] [] (.d (zad (l.filter (zbM w ⟨ta,tk⟩)))) []:=by
 have hal:∀a∈l,FnD Tryz.prog 167 [.d (zak w),.d (zhz (w.length*4) (zaX w)),.agg [.d (.i ta),.d (.i tk)],.agg [.d (.i (a).op),.d (.i (a).ctor),.d (.i (a).n),.d (.i (a).m),.d (.i (a).var),.d (zad (a).kids)]] [] (.d (.bool (zbM w ⟨ta,tk⟩ a))) []:=fun a ha=>zhb hs 11 ht (hl a ha)
 have hle:∀ {pre rest:List Pat}{y:Pat},pre++y::rest=l→(pre.filter (zbM w ⟨ta,tk⟩)).length+1≤l.length:=fun {pre rest y} h=>by
  have h1:=List.length_filter_le (zbM w ⟨ta,tk⟩) pre
  have h2:=congrArg List.length h
  simp only[List.length_append,List.length_cons] at h2
  omega
 refine bd Tryz.f108 34 [] [] fun w0 F0 own kept hk=>?_
 refine Walk.box (id:=3006) .none rfl rfl rfl rfl rfl rfl rfl ?_
 refine ev ?_
 refine Walk.sliceEmptyG 9 sl28 .none rfl rfl ?_
 refine ev ?_
 refine CWp.loopX (ι:=List (Pat)×List (Pat)) hk (fun x=>[(10,.d (.i (x.1.length:Int))),(9,.gl 9 (Pat.cs (x.1.filter (zbM w ⟨ta,tk⟩))))]) [12,13,14,15,16,17,18,19,20,21,22,23,24,25,26,27,28,29,30,31,32] (fun x=>[(9,some (.tok ((Pat.cs (x.1.filter (zbM w ⟨ta,tk⟩)))).length 6))]) (fun x=>x.1++x.2=l) (fun x=>x.2.length) ([],l) (by simp) ⟨⟨_,rfl,(LeA.eqi (by first|rfl|(dsimp only;rw[List.filter_append,List.filter_cons_of_pos (by assumption),List.filter_nil,Pat.cs_cd (List.filter _ _),Pat.cs_cd (_++_),List.map_append];rfl)|(dsimp only;rw[List.filter_append,List.filter_cons_of_neg (by simp_all),List.filter_nil,List.append_nil];done)|(dsimp only;rw[List.filter_append,List.filter_cons_of_pos (by assumption),List.filter_nil];simp[Pat.cs_len];done)|(simp;done)|omega))⟩,⟨⟨_,rfl,(LeA.glg (by first|rfl|(dsimp only;rw[List.filter_append,List.filter_cons_of_pos (by assumption),List.filter_nil,Pat.cs_cd (List.filter _ _),Pat.cs_cd (_++_),List.map_append];rfl)|(dsimp only;rw[List.filter_append,List.filter_cons_of_neg (by simp_all),List.filter_nil,List.append_nil];done)|(dsimp only;rw[List.filter_append,List.filter_cons_of_pos (by assumption),List.filter_nil];simp[Pat.cs_len];done)|(simp;done)|omega))⟩,trivial⟩⟩ ⟨zab (by first|rfl|(simp;done)|(simp;omega)|(first|rfl|(dsimp only;rw[List.filter_append,List.filter_cons_of_pos (by assumption),List.filter_nil,Pat.cs_cd (List.filter _ _),Pat.cs_cd (_++_),List.map_append];rfl)|(dsimp only;rw[List.filter_append,List.filter_cons_of_neg (by simp_all),List.filter_nil,List.append_nil];done)|(dsimp only;rw[List.filter_append,List.filter_cons_of_pos (by assumption),List.filter_nil];simp[Pat.cs_len];done)|(simp;done)|omega)),trivial⟩ (fun x=>rfl) (fun x hg1=>?_)
 obtain⟨pre,rest⟩:=x
 dsimp only at hg1 ⊢
 refine evc [] [] ?_
 refine sq (fun h1 h1p h1s=>?_) fun h1 h1p h1s=>?_
 try simp only[Q,Pat.cs_len] at h1p
 rcases rest with _|⟨y,rest⟩
 ·exfalso;simp_all
 refine Walk.idx sl28 .none rfl rfl rfl rfl (Pat.cs_at' hg1) rfl ?_
 refine evd [] [] ?_
 refine Walk.call (cr:=[]) zqy (hal y (by rw[←hg1];simp)) rfl .none rfl rfl (LeL.refl _) trivial rfl rfl rfl ?_
 refine dr ?_
 refine sq (fun h2 h2p h2s=>?_) fun h2 h2p h2s=>?_
 try simp only[Q,Pat.cs_len] at h2p
 refine Walk.idx sl28 .none rfl rfl rfl rfl (Pat.cs_at' hg1) rfl ?_
 refine ev ?_
 refine Walk.sliceLit sl28 tz77 rfl (by decide) (ks:=[0]) (xs:=[_]) rfl rfl (by decide) (by decide) .none rfl rfl rfl rfl ?_
 refine Walk.append sl28 zz77 rfl .none rfl rfl rfl rfl (zaz rfl (by first|rfl|(simp;done)|(simp;omega))) (by intro x hx;simp at hx;subst hx;rfl) (by have h9:=hle hg1;simp[Pat.cs_len];omega) (by have h9:=hle hg1;simp[Pat.cs_len];omega) ?_
 refine ev ?_
 refine ar ?_
 refine Exists.intro ((pre++[y],rest)) ⟨(by have hz:=hg1;rw[←hz];simp),(by simp),Sub.x (by kernel_rfl) (by kernel_rfl) ⟨⟨_,rfl,(LeA.eqi (by first|rfl|(dsimp only;rw[List.filter_append,List.filter_cons_of_pos (by assumption),List.filter_nil,Pat.cs_cd (List.filter _ _),Pat.cs_cd (_++_),List.map_append];rfl)|(dsimp only;rw[List.filter_append,List.filter_cons_of_neg (by simp_all),List.filter_nil,List.append_nil];done)|(dsimp only;rw[List.filter_append,List.filter_cons_of_pos (by assumption),List.filter_nil];simp[Pat.cs_len];done)|(simp;done)|omega))⟩,⟨⟨_,rfl,(LeA.glg (by first|rfl|(dsimp only;rw[List.filter_append,List.filter_cons_of_pos (by assumption),List.filter_nil,Pat.cs_cd (List.filter _ _),Pat.cs_cd (_++_),List.map_append];rfl)|(dsimp only;rw[List.filter_append,List.filter_cons_of_neg (by simp_all),List.filter_nil,List.append_nil];done)|(dsimp only;rw[List.filter_append,List.filter_cons_of_pos (by assumption),List.filter_nil];simp[Pat.cs_len];done)|(simp;done)|omega))⟩,trivial⟩⟩ (by kernel_rfl) (by kernel_rfl) ⟨zab (by first|rfl|(simp;done)|(simp;omega)|(first|rfl|(dsimp only;rw[List.filter_append,List.filter_cons_of_pos (by assumption),List.filter_nil,Pat.cs_cd (List.filter _ _),Pat.cs_cd (_++_),List.map_append];rfl)|(dsimp only;rw[List.filter_append,List.filter_cons_of_neg (by simp_all),List.filter_nil,List.append_nil];done)|(dsimp only;rw[List.filter_append,List.filter_cons_of_pos (by assumption),List.filter_nil];simp[Pat.cs_len];done)|(simp;done)|omega)),trivial⟩⟩
 try simp only[Q,Pat.cs_len] at h2p
 refine ar ?_
 refine Exists.intro ((pre++[y],rest)) ⟨(by have hz:=hg1;rw[←hz];simp),(by simp),Sub.x (by kernel_rfl) (by kernel_rfl) ⟨⟨_,rfl,(LeA.eqi (by first|rfl|(dsimp only;rw[List.filter_append,List.filter_cons_of_pos (by assumption),List.filter_nil,Pat.cs_cd (List.filter _ _),Pat.cs_cd (_++_),List.map_append];rfl)|(dsimp only;rw[List.filter_append,List.filter_cons_of_neg (by simp_all),List.filter_nil,List.append_nil];done)|(dsimp only;rw[List.filter_append,List.filter_cons_of_pos (by assumption),List.filter_nil];simp[Pat.cs_len];done)|(simp;done)|omega))⟩,⟨⟨_,rfl,(LeA.glg (by first|rfl|(dsimp only;rw[List.filter_append,List.filter_cons_of_pos (by assumption),List.filter_nil,Pat.cs_cd (List.filter _ _),Pat.cs_cd (_++_),List.map_append];rfl)|(dsimp only;rw[List.filter_append,List.filter_cons_of_neg (by simp_all),List.filter_nil,List.append_nil];done)|(dsimp only;rw[List.filter_append,List.filter_cons_of_pos (by assumption),List.filter_nil];simp[Pat.cs_len];done)|(simp;done)|omega))⟩,trivial⟩⟩ (by kernel_rfl) (by kernel_rfl) ⟨zab (by first|rfl|(simp;done)|(simp;omega)|(first|rfl|(dsimp only;rw[List.filter_append,List.filter_cons_of_pos (by assumption),List.filter_nil,Pat.cs_cd (List.filter _ _),Pat.cs_cd (_++_),List.map_append];rfl)|(dsimp only;rw[List.filter_append,List.filter_cons_of_neg (by simp_all),List.filter_nil,List.append_nil];done)|(dsimp only;rw[List.filter_append,List.filter_cons_of_pos (by assumption),List.filter_nil];simp[Pat.cs_len];done)|(simp;done)|omega)),trivial⟩⟩
 try simp only[Q,Pat.cs_len] at h1p
 have hrest:rest=[]:=by
  rcases rest with _|⟨a,b⟩
  ·rfl
  ·exfalso;have hz:=congrArg List.length (hg1);simp only[List.length_append,List.length_cons,List.length_map] at hz;omega
 subst hrest
 refine rn0 (r1 rfl) (.gld ?_)
 rotate_left
 all_goals (first|rfl|(rw[List.append_nil] at hg1;rw[hg1];done))
theorem zjk {w:List Data} (hs:Spa w){ta tk:Int} (ht:InS (w.length*4) ⟨ta,tk⟩){l away:List Pat} (hl:∀a∈l,zal w 11 ⟨ta,tk⟩ a=true) (hb:∀b∈away,zal w 10 ⟨ta,tk⟩ b=true) (hll:l.length≤400) (hal:away.length≤1000):
  FnD Tryz.prog 59 [.d (zak w),.d (zhz (w.length*4) (zaX w)),.agg [.d (.i ta),.d (.i tk)],.d (zad l),.d (zad away)] [] (.tup [.d (zad ((zaL w ⟨ta,tk⟩ l away).getD [])),.d (.bool (zaL w ⟨ta,tk⟩ l away).isSome)]) []:=by
 have hke:=zro hs ht hl hb
 have hmi:∀(c:List Pat) (i k:Nat),(∀a∈c,zal w 11 ⟨ta,tk⟩ a=true)→i<away.length→k<c.length→(zas w 10 ⟨ta,tk⟩ (nth c k) (nth away i)).length≤20000000:=fun c i k hc hi hk=>zfk hs (by omega) (by omega) ht (hc _ (zae hk)) (hb _ (zae hi))
 have hkb:∀(c:List Pat) (i k:Nat),(∀a∈c,zal w 11 ⟨ta,tk⟩ a=true)→i<away.length→k<c.length→(zle w ⟨ta,tk⟩ (nth away i) (nth c k)).length≤20000000:=fun c i k hc hi hk=>Nat.le_trans (List.length_filter_le _ _) (hmi c i k hc hi hk)
 rw[←hke]
 have hno:∀(c:List Pat) (i k:Nat),i<away.length→400<(zdn w ⟨ta,tk⟩ c (nth away i) k).length→subL w ⟨ta,tk⟩ c (away.drop i)=none:=fun c i k hi h=>by
  have:=zrL (w:=w) (t:=⟨ta,tk⟩) (l:=c) (b:=nth away i) k
  rw[zeN hi,if_neg (by omega)]
 refine bd Tryz.f59 60 [] [] fun w0 F0 own kept hk=>?_
 refine Walk.box (id:=3007) .none rfl rfl rfl rfl rfl rfl rfl ?_
 refine ev ?_
 refine CWp.loopX (ι:=Nat×List Pat) hk (fun s=>[(12,.d (.i (s.1:Int))),(3,.d (zad s.2))]) [10,11,13,14,15,16,17,18,19,20,21,22,23,24,25,26,27,28,29,30,31,32,33,34,35,36,37,38,39,40,41,42,43,44,45,46,47,48,49,50,51,52,53,54] (fun s=>[]) (fun s=>s.1≤away.length∧subL w ⟨ta,tk⟩ s.2 (away.drop s.1)=subL w ⟨ta,tk⟩ l away∧(∀a∈s.2,zal w 11 ⟨ta,tk⟩ a=true)∧s.2.length≤400) (fun s=>away.length-s.1) (0,l) ⟨by simp,rfl,hl,hll⟩ ⟨⟨_,rfl,(LeA.eqi (by first|rfl|(rw[zaO (by omega)];done)|(dsimp only;rw[zaO (by omega)];done)|(simp;done)|omega))⟩,⟨⟨_,rfl,(by first|exact LeA.refl _|exact LeA.gld (by first|rfl|(rw[zaO (by omega)];done)|(dsimp only;rw[zaO (by omega)];done)|(simp;done)|omega)|exact LeA.nild (by first|rfl|(rw[zaO (by omega)];done)|(dsimp only;rw[zaO (by omega)];done)|(simp;done)|omega)|exact LeA.eqsl (by first|rfl|(rw[zaO (by omega)];done)|(dsimp only;rw[zaO (by omega)];done)|(simp;done)|omega)|exact LeA.eqd (by first|rfl|(rw[zaO (by omega)];done)|(dsimp only;rw[zaO (by omega)];done)|(simp;done)|omega))⟩,trivial⟩⟩ trivial (fun x=>rfl) (fun s hg1=>?_)
 refine evc [] [] ?_
 refine sq (fun h1 h1p h1s=>?_) fun h1 h1p h1s=>?_
 try simp only[Q,Pat.cs_len] at h1p
 refine Walk.sliceEmptyG 9 sl28 .none rfl rfl ?_
 refine ev ?_
 refine CWp.loopX (ι:=Nat) hk (fun k=>[(14,.d (.i (k:Int))),(13,.gl 9 (Pat.cs (zdn w ⟨ta,tk⟩ s.2 (nth away s.1) k)))]) [22,23,24,25,26,27,28,29,30,31,32,33,34,35,36,37,38,39,40,41,42,43,44,45,46,47,48,49] (fun k=>[(9,some (.tok ((Pat.cs (zdn w ⟨ta,tk⟩ s.2 (nth away s.1) k))).length 6))]) (fun k=>k≤s.2.length) (fun k=>s.2.length-k) 0 (by omega) ⟨⟨_,rfl,(LeA.eqi (by first|rfl|(simp[zdn];done)|(rw[zb8 (by omega),Pat.cs_cd,Pat.cs_cd,Pat.cs_cd,List.map_append];done)|(rw[zb8 (by omega)];simp[Pat.cs_len];done)|omega))⟩,⟨⟨_,rfl,(LeA.glg (by first|rfl|(simp[zdn];done)|(rw[zb8 (by omega),Pat.cs_cd,Pat.cs_cd,Pat.cs_cd,List.map_append];done)|(rw[zb8 (by omega)];simp[Pat.cs_len];done)|omega))⟩,trivial⟩⟩ ⟨zab (by first|rfl|(simp;done)|(simp;omega)|(first|rfl|(simp[zdn];done)|(rw[zb8 (by omega),Pat.cs_cd,Pat.cs_cd,Pat.cs_cd,List.map_append];done)|(rw[zb8 (by omega)];simp[Pat.cs_len];done)|omega)),trivial⟩ (fun x=>rfl) (fun k hg2=>?_)
 refine evc [] [] ?_
 refine sq (fun h2 h2p h2s=>?_) fun h2 h2p h2s=>?_
 try simp only[Q,Pat.cs_len] at h2p
 refine sq (fun h3 h3p h3s=>?_) fun h3 h3p h3s=>?_
 try simp only[Q,Pat.cs_len] at h3p
 refine Walk.idx sl28 .none rfl rfl rfl rfl (zaC (by omega)) rfl ?_
 refine evd [] [] ?_
 refine Walk.idx sl28 .none rfl rfl rfl rfl (zaC (by omega)) rfl ?_
 refine evd [] [] ?_
 refine Walk.call (cr:=[]) zn3 (zhc hs 10 11 (by omega) (by omega) (by omega) ht (hg1.2.2.1 _ (zae (by omega))) (hb _ (zae (by omega)))) rfl .none rfl rfl (LeL.refl _) trivial rfl rfl rfl ?_
 refine Walk.call (cr:=[]) zqr (show FnD _ _ _ _ (.d (zad (zle w ⟨ta,tk⟩ (nth away s.1) (nth s.2 k)))) _ from zhN hs ht (zf9 10 11 (by omega) (hg1.2.2.1 _ (zae (by omega))) (hb _ (zae (by omega)))) (hmi s.2 s.1 k hg1.2.2.1 (by omega) (by omega))) rfl .none rfl rfl (LeL.refl _) trivial rfl rfl rfl ?_
 refine Walk.append sl28 zz77 rfl .none rfl rfl rfl rfl (zaz rfl (by first|rfl|(simp;done)|(simp;omega))) (by exact zbd _) (by have h9:=hkb s.2 s.1 k hg1.2.2.1 (by omega) (by omega);simp only[Pat.cs_len];omega) (by have h9:=hkb s.2 s.1 k hg1.2.2.1 (by omega) (by omega);simp only[Pat.cs_len];omega) ?_
 refine evd [] [] ?_
 refine dr ?_
 refine ar ?_
 refine Exists.intro (k+1) ⟨(by omega),(by omega),Sub.x (by kernel_rfl) (by kernel_rfl) ⟨⟨_,rfl,(LeA.eqi (by first|rfl|(simp[zdn];done)|(rw[zb8 (by omega),Pat.cs_cd,Pat.cs_cd,Pat.cs_cd,List.map_append];done)|(rw[zb8 (by omega)];simp[Pat.cs_len];done)|omega))⟩,⟨⟨_,rfl,(LeA.glg (by first|rfl|(simp[zdn];done)|(rw[zb8 (by omega),Pat.cs_cd,Pat.cs_cd,Pat.cs_cd,List.map_append];done)|(rw[zb8 (by omega)];simp[Pat.cs_len];done)|omega))⟩,trivial⟩⟩ (by kernel_rfl) (by kernel_rfl) ⟨zab (by first|rfl|(simp;done)|(simp;omega)|(first|rfl|(simp[zdn];done)|(rw[zb8 (by omega),Pat.cs_cd,Pat.cs_cd,Pat.cs_cd,List.map_append];done)|(rw[zb8 (by omega)];simp[Pat.cs_len];done)|omega)),trivial⟩⟩
 try simp only[Q,Pat.cs_len] at h3p
 refine sq (fun h4 h4p h4s=>?_) fun h4 h4p h4s=>?_
 try simp only[Q,Pat.cs_len] at h4p
 refine Walk.sliceEmpty sl28 .none rfl ?_
 refine ev ?_
 refine rn0 (r2 rfl rfl) (.tup (.cons (.eqd ?_) (.cons (.eqd ?_) .nil)))
 rotate_left 2
 try simp only[Q,Pat.cs_len] at h4p
 refine ar ?_
 refine Exists.intro ((s.1+1,zcg w ⟨ta,tk⟩ s.2 (nth away s.1))) ⟨(by
    have hk:s.2.length≤k:=by omega
    have h4:(zcg w ⟨ta,tk⟩ s.2 (nth away s.1)).length≤400:=by rw[←zaO hk];omega
    have e:=zeN (w:=w) (t:=⟨ta,tk⟩) (l:=s.2) (away:=away) (i:=s.1) (by omega)
    rw[if_pos h4] at e
    refine⟨by dsimp only;omega, ?_,zga hg1.2.2.1 (hb _ (zae (by omega))),h4⟩
    dsimp only
    rw[←e];exact hg1.2.1),(by dsimp only;omega),Sub.x (by kernel_rfl) (by kernel_rfl) ⟨⟨_,rfl,(LeA.eqi (by first|rfl|(rw[zaO (by omega)];done)|(dsimp only;rw[zaO (by omega)];done)|(simp;done)|omega))⟩,⟨⟨_,rfl,(by first|exact LeA.refl _|exact LeA.gld (by first|rfl|(rw[zaO (by omega)];done)|(dsimp only;rw[zaO (by omega)];done)|(simp;done)|omega)|exact LeA.nild (by first|rfl|(rw[zaO (by omega)];done)|(dsimp only;rw[zaO (by omega)];done)|(simp;done)|omega)|exact LeA.eqsl (by first|rfl|(rw[zaO (by omega)];done)|(dsimp only;rw[zaO (by omega)];done)|(simp;done)|omega)|exact LeA.eqd (by first|rfl|(rw[zaO (by omega)];done)|(dsimp only;rw[zaO (by omega)];done)|(simp;done)|omega))⟩,trivial⟩⟩ (by kernel_rfl) (by kernel_rfl) trivial⟩
 try simp only[Q,Pat.cs_len] at h2p
 refine sqF ?_
 refine sq (fun h6 h6p h6s=>?_) fun h6 h6p h6s=>?_
 try simp only[Q,Pat.cs_len] at h6p
 refine Walk.sliceEmpty sl28 .none rfl ?_
 refine ev ?_
 refine rn0 (r2 rfl rfl) (.tup (.cons (.eqd ?_) (.cons (.eqd ?_) .nil)))
 rotate_left 2
 try simp only[Q,Pat.cs_len] at h6p
 refine ar ?_
 refine Exists.intro ((s.1+1,zcg w ⟨ta,tk⟩ s.2 (nth away s.1))) ⟨(by
    have hk:s.2.length≤k:=by omega
    have h4:(zcg w ⟨ta,tk⟩ s.2 (nth away s.1)).length≤400:=by rw[←zaO hk];omega
    have e:=zeN (w:=w) (t:=⟨ta,tk⟩) (l:=s.2) (away:=away) (i:=s.1) (by omega)
    rw[if_pos h4] at e
    refine⟨by dsimp only;omega, ?_,zga hg1.2.2.1 (hb _ (zae (by omega))),h4⟩
    dsimp only
    rw[←e];exact hg1.2.1),(by dsimp only;omega),Sub.x (by kernel_rfl) (by kernel_rfl) ⟨⟨_,rfl,(LeA.eqi (by first|rfl|(rw[zaO (by omega)];done)|(dsimp only;rw[zaO (by omega)];done)|(simp;done)|omega))⟩,⟨⟨_,rfl,(by first|exact LeA.refl _|exact LeA.gld (by first|rfl|(rw[zaO (by omega)];done)|(dsimp only;rw[zaO (by omega)];done)|(simp;done)|omega)|exact LeA.nild (by first|rfl|(rw[zaO (by omega)];done)|(dsimp only;rw[zaO (by omega)];done)|(simp;done)|omega)|exact LeA.eqsl (by first|rfl|(rw[zaO (by omega)];done)|(dsimp only;rw[zaO (by omega)];done)|(simp;done)|omega)|exact LeA.eqd (by first|rfl|(rw[zaO (by omega)];done)|(dsimp only;rw[zaO (by omega)];done)|(simp;done)|omega))⟩,trivial⟩⟩ (by kernel_rfl) (by kernel_rfl) trivial⟩
 try simp only[Q,Pat.cs_len] at h1p
 refine Walk.call (cr:=[]) zqr (zhN hs ht hg1.2.2.1 (by omega)) rfl .none rfl rfl (LeL.refl _) trivial rfl rfl rfl ?_
 refine ev ?_
 refine rn0 (r2 rfl rfl) (.tup (.cons (.eqd ?_) (.cons (.eqd ?_) .nil)))
 rotate_left 2
 all_goals (first|rfl|(rw[←hg1.2.1,hno s.2 s.1 k (by omega) (by omega)];rfl)|(rw[←hg1.2.1,zo2 (by omega)];rfl))
theorem zhM:∀(n:Nat){p:Pat},p.size≤n→p.ok→FnD Tryz.prog 174 [.agg [.d (.i (p).op),.d (.i (p).ctor),.d (.i (p).n),.d (.i (p).m),.d (.i (p).var),.d (zad (p).kids)]] [] (.agg [.d (.i (p).op),.d (.i (p).ctor),.d (.i (p).n),.d (.i (p).m),.d (.i (p).var),.d (zad (p).kids)]) []
 |0,p,h,_=>by rw[Pat.size_eq] at h;omega
 |n+1,p,h,hok=>by
  rw[Pat.size_eq] at h
  rw[Pat.ok_iff] at hok
  have hok1:=hok.1
  refine bd Tryz.f174 26 [] [] fun w0 F0 own kept hk=>?_
  refine Walk.box (id:=3001) .none rfl rfl rfl rfl rfl rfl rfl ?_
  refine Walk.alloc (id:=3002) tz77 rfl .none rfl rfl rfl rfl ?_
  refine tv ?_
  refine Walk.alloc (id:=3003) tz77 rfl .none rfl rfl rfl rfl ?_
  refine Walk.store ty77 .none rfl rfl rfl rfl rfl rfl (by simp) rfl ?_
  refine tv ?_
  refine Walk.store ty28 .none rfl rfl rfl rfl rfl rfl (by simp) rfl ?_
  refine tv ?_
  refine CWp.tokB 3003 5 7 6 rfl rfl rfl rfl ?_
  refine CWp.loopX (ι:=List (Pat)×List (Pat)) hk (fun x=>[(4,.d (.i (x.1.length:Int)))]) [7,8,9,10,11,12,13,14,15,16,17,18,19,20,21,22,23,24] (fun x=>[(3003,some (.box [.d (.i p.op),.d (.i p.ctor),.d (.i p.n),.d (.i p.m),.d (.i p.var),.gl 7 (x.1.map Pat.cc)])),(7,some (.tok (x.1.map Pat.cc).length 6))]) (fun x=>x.1++x.2=p.kids) (fun x=>x.2.length) ([],p.kids) (by simp) ⟨⟨_,rfl,(LeA.eqi (by first|rfl|(simp;done)|(simp_all;done)|omega))⟩,trivial⟩ ⟨(by first|rfl|(simp[getH];done)),⟨zab (by first|rfl|(simp;done)|(simp;omega)|(first|rfl|(simp;done)|(simp_all;done)|omega)),trivial⟩⟩ (fun x=>rfl) (fun x hg1=>?_)
  obtain⟨pre,rest⟩:=x
  dsimp only at hg1 ⊢
  refine evc [] [] ?_
  refine sq (fun h1 h1p h1s=>?_) fun h1 h1p h1s=>?_
  try simp only[Q,Pat.cs_len] at h1p
  rcases rest with _|⟨y,rest⟩
  ·exfalso;simp_all
  refine Walk.idx sl28 .none rfl rfl rfl rfl (Pat.cs_at' hg1) rfl ?_
  refine evd [] [] ?_
  refine Walk.call (cr:=[]) zqB (zhM n (p:=y) (by have:=Pats.size_mem (l:=p.kids) (v:=y) (by rw[←hg1];simp);omega) (Pats.ok_mem hok.2 y (by rw[←hg1];simp))) rfl .none rfl rfl (LeL.refl _) trivial rfl rfl rfl ?_
  refine Walk.sliceLit sl28 tz77 rfl (by decide) (ks:=[0]) (xs:=[_]) rfl rfl (by decide) (by decide) .none rfl rfl rfl rfl ?_
  refine Walk.append sl28 zz77 rfl .none rfl rfl rfl rfl (zaz rfl (by first|rfl|(simp;done)|(simp;omega))) (by intro x hx;first|(simp at hx;subst hx;rfl)|exact zbF _ x hx) (by have:=congrArg List.length hg1;simp at this;simp;omega) (by have:=congrArg List.length hg1;simp at this;simp;omega) ?_
  refine evd [] [] ?_
  refine Walk.store ty28 .none rfl rfl rfl rfl rfl rfl (by simp) rfl ?_
  refine dr ?_
  refine ar ?_
  refine Exists.intro ((pre++[y],rest)) ⟨(by have hz:=hg1;rw[←hz];simp),(by simp),Sub.x (by kernel_rfl) (by kernel_rfl) ⟨⟨_,rfl,(LeA.eqi (by first|rfl|(simp;done)|(simp_all;done)|omega))⟩,trivial⟩ (by kernel_rfl) (by kernel_rfl) ⟨(by first|rfl|(simp[getH];done)),⟨zab (by first|rfl|(simp;done)|(simp;omega)|(first|rfl|(simp;done)|(simp_all;done)|omega)),trivial⟩⟩⟩
  try simp only[Q,Pat.cs_len] at h1p
  have hrest:rest=[]:=by
   rcases rest with _|⟨a,b⟩
   ·rfl
   ·exfalso;have hz:=congrArg List.length (hg1);simp only[List.length_append,List.length_cons,List.length_map] at hz;omega
  subst hrest
  refine Walk.store ty77 .none rfl rfl rfl rfl rfl rfl (by simp) rfl ?_
  refine tv ?_
  refine rn0 (.cons (.cellA ty77 rfl rfl rfl) .nil) (.agg (.cons (.eqd ?_) (.cons (.eqd ?_) (.cons (.eqd ?_) (.cons (.eqd ?_) (.cons (.eqd ?_) (.cons (.gld ?_) .nil)))))))
  rotate_left 6
  all_goals (first|rfl|(rw[List.append_nil] at hg1;rw[←hg1,Pat.cs_cd];done))
theorem znN {l:List Pat} (h:l.length≤1000000000000) (hok:∀p∈l,p.ok):FnD Tryz.prog 112 [.d (zad l)] [] (.d (zad l)) []:=by
 refine bd Tryz.f112 21 [] [] fun w0 F0 own kept hk=>?_
 refine Walk.sliceEmptyG 1 sl28 .none rfl rfl ?_
 refine ev ?_
 refine CWp.loopX (ι:=List (Pat)×List (Pat)) hk (fun x=>[(4,.d (.i (x.1.length:Int))),(3,.gl 1 (x.1.map Pat.cc))]) [6,7,8,9,10,11,12,13,14,15,16,17,18,19] (fun x=>[(1,some (.tok ((x.1.map Pat.cc)).length 6))]) (fun x=>x.1++x.2=l) (fun x=>x.2.length) ([],l) (by simp) ⟨⟨_,rfl,(LeA.eqi (by first|rfl|(simp;done)|(simp_all;done)|omega))⟩,⟨⟨_,rfl,(LeA.glg (by first|rfl|(simp;done)|(simp_all;done)|omega))⟩,trivial⟩⟩ ⟨zab (by first|rfl|(simp;done)|(simp;omega)|(first|rfl|(simp;done)|(simp_all;done)|omega)),trivial⟩ (fun x=>rfl) (fun x hg1=>?_)
 obtain⟨pre,rest⟩:=x
 dsimp only at hg1 ⊢
 refine evc [] [] ?_
 refine sq (fun h1 h1p h1s=>?_) fun h1 h1p h1s=>?_
 try simp only[Q,Pat.cs_len] at h1p
 rcases rest with _|⟨y,rest⟩
 ·exfalso;simp_all
 refine Walk.idx sl28 .none rfl rfl rfl rfl (Pat.cs_at' hg1) rfl ?_
 refine ev ?_
 refine Walk.call (cr:=[]) zqB (zhM _ (Nat.le_refl _) (hok y (by rw[←hg1];simp))) rfl .none rfl rfl (LeL.refl _) trivial rfl rfl rfl ?_
 refine Walk.sliceLit sl28 tz77 rfl (by decide) (ks:=[0]) (xs:=[_]) rfl rfl (by decide) (by decide) .none rfl rfl rfl rfl ?_
 refine Walk.append sl28 zz77 rfl .none rfl rfl rfl rfl (zaz rfl (by first|rfl|(simp;done)|(simp;omega))) (by intro x hx;simp at hx;subst hx;rfl) (by have:=congrArg List.length hg1;simp at this;simp;omega) (by have:=congrArg List.length hg1;simp at this;simp;omega) ?_
 refine ev ?_
 refine ar ?_
 refine Exists.intro ((pre++[y],rest)) ⟨(by have hz:=hg1;rw[←hz];simp),(by simp),Sub.x (by kernel_rfl) (by kernel_rfl) ⟨⟨_,rfl,(LeA.eqi (by first|rfl|(simp;done)|(simp_all;done)|omega))⟩,⟨⟨_,rfl,(LeA.glg (by first|rfl|(simp;done)|(simp_all;done)|omega))⟩,trivial⟩⟩ (by kernel_rfl) (by kernel_rfl) ⟨zab (by first|rfl|(simp;done)|(simp;omega)|(first|rfl|(simp;done)|(simp_all;done)|omega)),trivial⟩⟩
 try simp only[Q,Pat.cs_len] at h1p
 have hrest:rest=[]:=by
  rcases rest with _|⟨a,b⟩
  ·rfl
  ·exfalso;have hz:=congrArg List.length (hg1);simp only[List.length_append,List.length_cons,List.length_map] at hz;omega
 subst hrest
 refine rn0 (r1 rfl) (.gld ?_)
 rotate_left
 all_goals (first|rfl|(rw[List.append_nil] at hg1;rw[←hg1,Pat.cs_cd];done))
theorem znn {p:Pat} (h:zcW p=true):za6 (zaM p)=zdM p:=by
 unfold zcW at h
 have h40:=of_decide_eq_true h
 unfold za6 zdM
 rw[if_pos h40,List.take_of_length_le (by omega)]
theorem zrn {p:Pat}:((40:Int)<((za6 (zaM p)).length:Int))↔zcW p=false:=by
 unfold zcW za6
 rw[List.length_take,decide_eq_false_iff_not]
 omega
theorem zl2 {w:List Data}{t:Ty}{l:List Cl} (hl:l.length≤8) (hc:∀c∈l,zar w 10 t c.pat=true∧c.pat.ok):
  FnD Tryz.prog 58 [.d (zbO l),.d (.i (l.length:Int))] [] (.tup [.d (zad ((zbH l []).getD [])),.d (.bool (zbH l []).isSome)]) []:=by
 have hpl:=fun(i:Nat)=>zgl (zaM (nth l i).pat)
 have hge:=fun(i:Nat)=>zrn (p:=(nth l i).pat)
 refine bd Tryz.f58 35 [] [] fun w0 F0 own kept hk=>?_
 refine Walk.sliceEmptyG 9 sl28 .none rfl rfl ?_
 refine ev ?_
 refine CWp.loopX (ι:=Nat×List Pat) hk (fun s=>[(7,.d (.i (s.1:Int))),(6,.gl 9 (Pat.cs s.2))]) [4,5,8,10,11,12,13,14,15,16,17,18,19,20,21,22,23,24,25,26,27,28,29,30,31,32,33] (fun s=>[(9,some (.tok ((Pat.cs s.2)).length 6))]) (fun s=>s.1≤l.length∧zbH (l.drop s.1) s.2=zbH l []∧s.2.length≤40*s.1) (fun s=>l.length-s.1) (0,[]) ⟨by simp,rfl,by simp⟩ ⟨⟨_,rfl,(LeA.eqi (by first|rfl|(dsimp only;rw[if_pos (by assumption),Pat.cs_cd,Pat.cs_cd,Pat.cs_cd,List.map_append];done)|(dsimp only;rw[if_neg (by assumption)];done)|(dsimp only;rw[if_pos (by assumption)];simp[Pat.cs_len];done)|(dsimp only;rw[if_neg (by assumption)];simp[Pat.cs_len];done)|(simp;done)|omega))⟩,⟨⟨_,rfl,(LeA.glg (by first|rfl|(dsimp only;rw[if_pos (by assumption),Pat.cs_cd,Pat.cs_cd,Pat.cs_cd,List.map_append];done)|(dsimp only;rw[if_neg (by assumption)];done)|(dsimp only;rw[if_pos (by assumption)];simp[Pat.cs_len];done)|(dsimp only;rw[if_neg (by assumption)];simp[Pat.cs_len];done)|(simp;done)|omega))⟩,trivial⟩⟩ ⟨zab (by first|rfl|(simp;done)|(simp;omega)|(first|rfl|(dsimp only;rw[if_pos (by assumption),Pat.cs_cd,Pat.cs_cd,Pat.cs_cd,List.map_append];done)|(dsimp only;rw[if_neg (by assumption)];done)|(dsimp only;rw[if_pos (by assumption)];simp[Pat.cs_len];done)|(dsimp only;rw[if_neg (by assumption)];simp[Pat.cs_len];done)|(simp;done)|omega)),trivial⟩ (fun x=>rfl) (fun s hg1=>?_)
 refine evc [] [] ?_
 refine sq (fun h1 h1p h1s=>?_) fun h1 h1p h1s=>?_
 try simp only[Q,Pat.cs_len,Int.natCast_inj] at h1p
 refine Walk.idx sl35 .none rfl rfl rfl rfl (zam (by omega)) rfl ?_
 refine ev ?_
 refine sq (fun h2 h2p h2s=>?_) fun h2 h2p h2s=>?_
 try simp only[Q,Pat.cs_len,Int.natCast_inj] at h2p
 refine ar ?_
 refine Exists.intro ((s.1+1,if (nth l s.1).g.op=0 then s.2++za6 (zaM (nth l s.1).pat) else s.2)) ⟨(by
    by_cases hz:(nth l s.1).g.op=0
    ·have hp:zcW (nth l s.1).pat=true:=by
      cases hp:zcW (nth l s.1).pat with
      |true=>rfl
      |false=>have:=(hge s.1).2 hp;exfalso;first|omega|contradiction
     have h9:=zgd (nth l s.1).pat
     have e:=znn hp
     refine⟨by dsimp only;omega, ?_, ?_⟩
     ·dsimp only
      rw[if_pos hz,e,←zfq (out:=s.2) (by omega) hz hp];exact hg1.2.1
     ·dsimp only
      rw[if_pos hz,e,List.length_append];omega
    ·refine⟨by dsimp only;omega, ?_, ?_⟩
     ·dsimp only
      rw[if_neg hz,←zfs (out:=s.2) (by omega) hz];exact hg1.2.1
     ·dsimp only
      rw[if_neg hz];omega),(by dsimp only;omega),Sub.x (by kernel_rfl) (by kernel_rfl) ⟨⟨_,rfl,(LeA.eqi (by first|rfl|(dsimp only;rw[if_pos (by assumption),Pat.cs_cd,Pat.cs_cd,Pat.cs_cd,List.map_append];done)|(dsimp only;rw[if_neg (by assumption)];done)|(dsimp only;rw[if_pos (by assumption)];simp[Pat.cs_len];done)|(dsimp only;rw[if_neg (by assumption)];simp[Pat.cs_len];done)|(simp;done)|omega))⟩,⟨⟨_,rfl,(LeA.glg (by first|rfl|(dsimp only;rw[if_pos (by assumption),Pat.cs_cd,Pat.cs_cd,Pat.cs_cd,List.map_append];done)|(dsimp only;rw[if_neg (by assumption)];done)|(dsimp only;rw[if_pos (by assumption)];simp[Pat.cs_len];done)|(dsimp only;rw[if_neg (by assumption)];simp[Pat.cs_len];done)|(simp;done)|omega))⟩,trivial⟩⟩ (by kernel_rfl) (by kernel_rfl) ⟨zab (by first|rfl|(simp;done)|(simp;omega)|(first|rfl|(dsimp only;rw[if_pos (by assumption),Pat.cs_cd,Pat.cs_cd,Pat.cs_cd,List.map_append];done)|(dsimp only;rw[if_neg (by assumption)];done)|(dsimp only;rw[if_pos (by assumption)];simp[Pat.cs_len];done)|(dsimp only;rw[if_neg (by assumption)];simp[Pat.cs_len];done)|(simp;done)|omega)),trivial⟩⟩
 try simp only[Q,Pat.cs_len,Int.natCast_inj] at h2p
 refine Walk.idx sl35 .none rfl rfl rfl rfl (zam (by omega)) rfl ?_
 refine ev ?_
 refine Walk.call (cr:=[]) zsZ (zl0 (hc _ (zae (i:=s.1) (by omega))).1 (hc _ (zae (by omega))).2) rfl .none rfl rfl (LeL.refl _) trivial rfl rfl rfl ?_
 refine ev ?_
 refine sq (fun h3 h3p h3s=>?_) fun h3 h3p h3s=>?_
 try simp only[Q,Pat.cs_len,Int.natCast_inj] at h3p
 refine rn0 (r2 rfl rfl) (.tup (.cons (.nild ?_) (.cons (.eqd ?_) .nil)))
 rotate_left 2
 try simp only[Q,Pat.cs_len,Int.natCast_inj] at h3p
 refine Walk.append sl28 zz77 rfl .none rfl rfl rfl rfl (zaz rfl (by first|rfl|(simp;done)|(simp;omega))) (by exact zbd _) (by have:=hpl s.1;simp only[Pat.cs_len];omega) (by have:=hpl s.1;simp only[Pat.cs_len];omega) ?_
 refine ev ?_
 refine ar ?_
 refine Exists.intro ((s.1+1,if (nth l s.1).g.op=0 then s.2++za6 (zaM (nth l s.1).pat) else s.2)) ⟨(by
    by_cases hz:(nth l s.1).g.op=0
    ·have hp:zcW (nth l s.1).pat=true:=by
      cases hp:zcW (nth l s.1).pat with
      |true=>rfl
      |false=>have:=(hge s.1).2 hp;exfalso;first|omega|contradiction
     have h9:=zgd (nth l s.1).pat
     have e:=znn hp
     refine⟨by dsimp only;omega, ?_, ?_⟩
     ·dsimp only
      rw[if_pos hz,e,←zfq (out:=s.2) (by omega) hz hp];exact hg1.2.1
     ·dsimp only
      rw[if_pos hz,e,List.length_append];omega
    ·refine⟨by dsimp only;omega, ?_, ?_⟩
     ·dsimp only
      rw[if_neg hz,←zfs (out:=s.2) (by omega) hz];exact hg1.2.1
     ·dsimp only
      rw[if_neg hz];omega),(by dsimp only;omega),Sub.x (by kernel_rfl) (by kernel_rfl) ⟨⟨_,rfl,(LeA.eqi (by first|rfl|(dsimp only;rw[if_pos (by assumption),Pat.cs_cd,Pat.cs_cd,Pat.cs_cd,List.map_append];done)|(dsimp only;rw[if_neg (by assumption)];done)|(dsimp only;rw[if_pos (by assumption)];simp[Pat.cs_len];done)|(dsimp only;rw[if_neg (by assumption)];simp[Pat.cs_len];done)|(simp;done)|omega))⟩,⟨⟨_,rfl,(LeA.glg (by first|rfl|(dsimp only;rw[if_pos (by assumption),Pat.cs_cd,Pat.cs_cd,Pat.cs_cd,List.map_append];done)|(dsimp only;rw[if_neg (by assumption)];done)|(dsimp only;rw[if_pos (by assumption)];simp[Pat.cs_len];done)|(dsimp only;rw[if_neg (by assumption)];simp[Pat.cs_len];done)|(simp;done)|omega))⟩,trivial⟩⟩ (by kernel_rfl) (by kernel_rfl) ⟨zab (by first|rfl|(simp;done)|(simp;omega)|(first|rfl|(dsimp only;rw[if_pos (by assumption),Pat.cs_cd,Pat.cs_cd,Pat.cs_cd,List.map_append];done)|(dsimp only;rw[if_neg (by assumption)];done)|(dsimp only;rw[if_pos (by assumption)];simp[Pat.cs_len];done)|(dsimp only;rw[if_neg (by assumption)];simp[Pat.cs_len];done)|(simp;done)|omega)),trivial⟩⟩
 try simp only[Q,Pat.cs_len,Int.natCast_inj] at h1p
 refine rn0 (r2 rfl rfl) (.tup (.cons (.gld ?_) (.cons (.eqd ?_) .nil)))
 rotate_left 2
 all_goals (first|rfl|(rw[←hg1.2.1,zkX (by omega) (by assumption) ((hge s.1).1 (by omega))];rfl)|(rw[←hg1.2.1,zkY (by omega)];rfl))
theorem zl1 {w:List Data} (hs:Spa w){ta tk:Int} (ht:InS (w.length*4) ⟨ta,tk⟩){l:List Pat}{ok:Bool} (hl:∀a∈l,a.ok∧a.size≤1000000000000) (hb:l.length≤1000000000000):
  FnD Tryz.prog 61 [.d (zak w),.agg [.d (.i ta),.d (.i tk)],.d (zad l),.d (.bool ok)] [] (.tup [.d (zad (if l.all (isP w ⟨ta,tk⟩)=true then l else [])),.d (.bool (l.all (isP w ⟨ta,tk⟩)&&ok))]) []:=by
 have hbad:∀i,i<l.length→isP w ⟨ta,tk⟩ (nth l i)=false→l.all (isP w ⟨ta,tk⟩)=false:=fun i hi h=>by
  cases hq:l.all (isP w ⟨ta,tk⟩) with
  |false=>rfl
  |true=>have:=List.all_eq_true.1 hq _ (zae hi);rw[h] at this;cases this
 have hgood:(∀i,i<l.length→isP w ⟨ta,tk⟩ (nth l i)=true)→l.all (isP w ⟨ta,tk⟩)=true:=fun h=>List.all_eq_true.2 fun x hx=>by
  obtain⟨i,hi,rfl⟩:=List.getElem_of_mem hx
  have:=h i hi
  rwa [za3 hi] at this
 refine bd Tryz.f61 29 [] [] fun w0 F0 own kept hk=>?_
 refine Walk.box (id:=3005) .none rfl rfl rfl rfl rfl rfl rfl ?_
 refine ev ?_
 refine CWp.loopX (ι:=Nat) hk (fun i=>[(10,.d (.i (i:Int)))]) [8,9,11,12,13,14,15,16,17,18,19,20,21,22,23,24,25] (fun i=>[]) (fun i=>i≤l.length∧∀i',i'<i→isP w ⟨ta,tk⟩ (nth l i')=true) (fun i=>l.length-i) 0 ⟨by omega,fun _ h=>absurd h (by omega)⟩ ⟨⟨_,rfl,(LeA.eqi (by first|rfl|(simp;done)|(simp_all;done)|omega))⟩,trivial⟩ trivial (fun x=>rfl) (fun i hg1=>?_)
 refine evc [] [] ?_
 refine sq (fun h1 h1p h1s=>?_) fun h1 h1p h1s=>?_
 try simp only[Q,Pat.cs_len] at h1p
 refine Walk.idx sl28 .none rfl rfl rfl rfl (zaC (by omega)) rfl ?_
 refine evd [] [] ?_
 refine Walk.call (cr:=[]) zn2 (zgR hs.dp.wt (zcI ht) (hl _ (zae (i:=i) (by omega))).1 (hl _ (zae (by omega))).2) rfl .none rfl rfl (LeL.refl _) trivial rfl rfl rfl ?_
 refine evd [] [] ?_
 refine dr ?_
 refine sq (fun h2 h2p h2s=>?_) fun h2 h2p h2s=>?_
 try simp only[Q,Pat.cs_len] at h2p
 refine Walk.sliceEmpty sl28 .none rfl ?_
 refine ev ?_
 refine rn0 (r2 rfl rfl) (.tup (.cons (.eqd ?_) (.cons (.eqd ?_) .nil)))
 rotate_left 2
 try simp only[Q,Pat.cs_len] at h2p
 refine ar ?_
 refine Exists.intro (i+1) ⟨⟨by omega,zaF hg1.2 (by assumption)⟩,(by omega),Sub.x (by kernel_rfl) (by kernel_rfl) ⟨⟨_,rfl,(LeA.eqi (by first|rfl|(simp;done)|(simp_all;done)|omega))⟩,trivial⟩ (by kernel_rfl) (by kernel_rfl) trivial⟩
 try simp only[Q,Pat.cs_len] at h1p
 refine Walk.call (cr:=[]) zs1 (znN hb (fun p hp=>(hl p hp).1)) rfl .none rfl rfl (LeL.refl _) trivial rfl rfl rfl ?_
 refine ev ?_
 refine rn0 (r2 rfl rfl) (.tup (.cons (.eqd ?_) (.cons (.eqd ?_) .nil)))
 rotate_left 2
 all_goals (first|rfl|(rw[hbad i (by omega) (by assumption)];rfl)|(rw[hgood (fun x hx=>hg1.2 x (by omega))];rfl)|(rw[hgood (fun x hx=>hg1.2 x (by omega))];simp;done))
theorem zmN {w:List Data} (hsp:Spa w){a k:Int} (hin:InS (w.length*4) ⟨a,k⟩){l:List Cl} (h8:l.length≤8) (hsh:∀c∈l,zar w 10 ⟨a,k⟩ c.pat=true∧c.pat.ok):
  FnD Tryz.prog 30 [.d (zak w),.agg [.d (.i a),.d (.i k)],.d (zad [anyQ]),.d (zbO l),.d (.i (l.length:Int))] [] (.tup [.d (zad ((zef w ⟨a,k⟩ l).getD [])),.d (.bool (zef w ⟨a,k⟩ l).isSome)]) []:=by
 have hco:=zl2 (w:=w) (t:=⟨a,k⟩) h8 hsh
 cases hq:zbH l [] with
 |none=>
  have e:zef w ⟨a,k⟩ l=none:=by unfold zef;rw[hq]
  rw[hq] at hco
  rw[e]
  refine bd Tryz.f30 42 [] [] fun w0 F0 own kept hk=>?_
  refine Walk.box (id:=3006) .none rfl rfl rfl rfl rfl rfl rfl ?_
  refine ev ?_
  refine Walk.call (cr:=[]) zr7 (hco) rfl .none rfl rfl (LeL.refl _) trivial rfl rfl rfl ?_
  refine ev ?_
  refine sq (fun h1 h1p h1s=>?_) fun h1 h1p h1s=>?_
  try simp only[Q] at h1p
  refine Walk.sliceEmpty sl28 .none rfl ?_
  refine ev ?_
  refine rn0 (r2 rfl rfl) (.tup (.cons (.eqd ?_) (.cons (.eqd ?_) .nil)))
  rotate_left 2
  try simp only[Q] at h1p
  exfalso;exact absurd h1 (by simp)
  all_goals (rfl)
 |some away=>
  rw[hq] at hco
  obtain⟨p1,p2⟩:=zfr l [] away (fun c hc=>(hsh c hc).1) (by simp) hq
  have hwo:=zjk hsp hin (l:=[anyQ]) (away:=away) zgY p2 (by simp) (by simp at p1;omega)
  have hrl2:((zaL w ⟨a,k⟩ [anyQ] away).getD []).length≤400∧∀x∈(zaL w ⟨a,k⟩ [anyQ] away).getD [],x.ok∧x.size≤1000000000000:=by
   cases hw:zaL w ⟨a,k⟩ [anyQ] away with
   |none=>exact⟨by simp,by simp⟩
   |some r=>
    have:=zfV away _ r (fun x hx=>zgY x (List.mem_filter.1 hx).1) (Nat.le_trans (List.length_filter_le _ _) (by simp)) p2 hw
    exact⟨this.1,fun x hx=>⟨(zgv hsp 11 hin (this.2 x hx)).1,by have:=(zgv hsp 11 hin (this.2 x hx)).2;have:=zoM (n:=11) (by omega);omega⟩⟩
  have hre:=zl1 hsp hin (l:=(zaL w ⟨a,k⟩ [anyQ] away).getD []) (ok:=(zaL w ⟨a,k⟩ [anyQ] away).isSome) hrl2.2 (by omega)
  have hem:(zaL w ⟨a,k⟩ [anyQ] away).isSome=false→(zaL w ⟨a,k⟩ [anyQ] away).getD []=[]:=fun h=>by
   cases hw:zaL w ⟨a,k⟩ [anyQ] away with
   |none=>rfl
   |some r=>rw[hw] at h;cases h
  have e:zef w ⟨a,k⟩ l=if (((zaL w ⟨a,k⟩ [anyQ] away).getD []).all (isP w ⟨a,k⟩)&&(zaL w ⟨a,k⟩ [anyQ] away).isSome)=true then some ((zaL w ⟨a,k⟩ [anyQ] away).getD []) else none:=by
   unfold zef
   rw[hq]
   cases hw:zaL w ⟨a,k⟩ [anyQ] away with
   |none=>simp[hw]
   |some r=>simp[hw]
  rw[e]
  generalize ((zaL w ⟨a,k⟩ [anyQ] away).getD []).all (isP w ⟨a,k⟩)=q at hre ⊢
  generalize (zaL w ⟨a,k⟩ [anyQ] away).isSome=q2 at hre hwo hem ⊢
  refine bd Tryz.f30 42 [] [] fun w0 F0 own kept hk=>?_
  refine Walk.box (id:=3006) .none rfl rfl rfl rfl rfl rfl rfl ?_
  refine ev ?_
  refine Walk.call (cr:=[]) zr7 (hco) rfl .none rfl rfl (LeL.refl _) trivial rfl rfl rfl ?_
  refine ev ?_
  refine sq (fun h1 h1p h1s=>?_) fun h1 h1p h1s=>?_
  try simp only[Q] at h1p
  exfalso;exact absurd h1 (by simp)
  try simp only[Q] at h1p
  refine Walk.call (cr:=[]) zuv (zlW hsp.dp) rfl .none rfl rfl (LeL.refl _) trivial rfl rfl rfl ?_
  refine evd [] [] ?_
  refine Walk.call (cr:=[]) zuu (hwo) rfl .none rfl rfl (LeL.refl _) trivial rfl rfl rfl ?_
  refine evd [] [] ?_
  refine dr ?_
  refine Walk.call (cr:=[]) zuw (hre) rfl .none rfl rfl (LeL.refl _) trivial rfl rfl rfl ?_
  refine ev ?_
  refine rn0 (r2 rfl rfl) (.tup (.cons (.eqd ?_) (.cons (.eqd ?_) .nil)))
  rotate_left 2
  all_goals (first|rfl|(cases q<;>cases q2<;>first|rfl|(rw[hem rfl];rfl)))
theorem zgX {w:List Data} (hs:WSmall w){a k:Int}{l:List Cl} (hl:ClsOk l) (hz:ClsSz l):
  FnD Tryz.prog 8 [.d (zak w),.agg [.d (.i a),.d (.i k)],.d (zbO l)] [] (.tup [.d (zad ((zcw w ⟨a,k⟩ l).getD [])),.d (.bool (zcw w ⟨a,k⟩ l).isSome)]) []:=by
 have hcv:=zdH hs (a:=a) (k:=k) hl hz
 by_cases hv:zbe w ⟨a,k⟩ l=true
 ·have hm:zcw w ⟨a,k⟩ l=zef w ⟨a,k⟩ l:=by unfold zcw;rw[if_pos hv]
  rw[hm]
  have htv:=zpx hv
  have hsp:=zpa hs (zdJ htv.1).1
  have hin:InS (w.length*4) ⟨a,k⟩:=by
   obtain⟨_,_,h3⟩:=zdJ htv.1
   by_cases ha:a = -1
   ·exact .inl ha
   ·obtain⟨h4,h5,h6,h7⟩:=h3 ha
    have:=zq8 (n:=w.length) h5 (j:=k.toNat) (by omega)
    rwa [Int.toNat_of_nonneg h4,Int.toNat_of_nonneg h6] at this
  have hre:=zmN hsp hin htv.2 (zmT hv hl)
  have e1:zad [anyQ]=D.sl [[D.i 1,D.i 0,D.i 0,D.i 0,D.i 0,D.sl []]]:=rfl
  rw[e1] at hre
  rw[←List.length_map (f:=Cl.c)] at hre
  refine bd Tryz.f8 24 [] [] fun w0 F0 own kept hk=>?_
  refine Walk.box (id:=3004) .none rfl rfl rfl rfl rfl rfl rfl ?_
  refine ev ?_
  refine Walk.call (cr:=[]) znR (hcv) rfl .none rfl rfl (LeL.refl _) trivial rfl rfl rfl ?_
  refine ev ?_
  refine sq (fun h1 h1p h1s=>?_) fun h1 h1p h1s=>?_
  try simp only[Q] at h1p
  exfalso;rw[hv] at h1;exact absurd h1 (by simp)
  try simp only[Q] at h1p
  refine Walk.call (cr:=[]) zr3 (zis) rfl .none rfl rfl (LeL.refl _) trivial rfl rfl rfl ?_
  refine Walk.sliceLit sl28 tz77 rfl (by decide) (ks:=[0]) (xs:=[_]) rfl rfl (by decide) (by decide) .none rfl rfl rfl rfl ?_
  refine evd [] [] ?_
  refine Walk.call (cr:=[]) zud (hre) rfl .none rfl rfl (LeL.refl _) trivial rfl rfl rfl ?_
  refine evd [] [] ?_
  refine dr ?_
  refine rn0 (r2 rfl rfl) (.tup (.cons (.eqd ?_) (.cons (.eqd ?_) .nil)))
  rotate_left 2
  all_goals (rfl)
 ·have hv':zbe w ⟨a,k⟩ l=false:=by simpa using hv
  have hm:zcw w ⟨a,k⟩ l=none:=by unfold zcw;rw[if_neg hv]
  rw[hm]
  rw[hv'] at hcv
  refine bd Tryz.f8 24 [] [] fun w0 F0 own kept hk=>?_
  refine Walk.box (id:=3004) .none rfl rfl rfl rfl rfl rfl rfl ?_
  refine ev ?_
  refine Walk.call (cr:=[]) znR (hcv) rfl .none rfl rfl (LeL.refl _) trivial rfl rfl rfl ?_
  refine ev ?_
  refine sq (fun h1 h1p h1s=>?_) fun h1 h1p h1s=>?_
  try simp only[Q] at h1p
  refine Walk.sliceEmpty sl28 .none rfl ?_
  refine ev ?_
  refine rn0 (r2 rfl rfl) (.tup (.cons (.eqd ?_) (.cons (.eqd ?_) .nil)))
  rotate_left 2
  try simp only[Q] at h1p
  exfalso;exact absurd h1 (by simp)
  all_goals (rfl)
theorem zji {w:List Data} (hs:WSmall w){a k:Int}{l:List Cl} (hl:ClsOk l) (hz:ClsSz l):
  FnD Tryz.prog 47 [.d (zak w),.agg [.d (.i a),.d (.i k)],.d (zbO l)] [] (.tup [.d (.bool (exhQ w ⟨a,k⟩ l)),.d (.bool (zcw w ⟨a,k⟩ l).isSome)]) []:=by
 have hmp:=zgX hs (a:=a) (k:=k) hl hz
 unfold exhQ
 generalize zcw w ⟨a,k⟩ l=m at *
 refine bd Tryz.f47 24 [] [] fun w0 F0 own kept hk=>?_
 refine Walk.box (id:=3004) .none rfl rfl rfl rfl rfl rfl rfl ?_
 refine ev ?_
 refine Walk.call (cr:=[]) cal8 (hmp) rfl .none rfl rfl (LeL.refl _) trivial rfl rfl rfl ?_
 refine ev ?_
 refine sq (fun h1 h1p h1s=>?_) fun h1 h1p h1s=>?_
 try simp only[Q,Pat.cs_len,Int.natCast_inj] at h1p
 refine rn0 (r2 rfl rfl) (.tup (.cons (.eqd ?_) (.cons (.eqd ?_) .nil)))
 rotate_left 2
 try simp only[Q,Pat.cs_len,Int.natCast_inj] at h1p
 refine rn0 (r2 rfl rfl) (.tup (.cons (.eqd ?_) (.cons (.eqd ?_) .nil)))
 rotate_left 2
 all_goals (first|rfl|(simp_all[Pat.cs_len];done)|(cases m<;>simp_all[Pat.cs_len];done)|(cases m<;>simp[Pat.cs_len] at *;done))
def totL (w:List Data):List Fu→Bool→Bool×Bool
 | [],acc=>(acc,true)
 |f::r,acc=>if (zcw w f.ty.arg f.cls).isSome=true then totL w r (acc&&exhQ w f.ty.arg f.cls) else (false,false)
def totV (w:List Data) (l:List Fu):Bool×Bool:=if zez w l=true then totL w l true else (false,false)
theorem zhg {w:List Data}{f:Fu}{r:List Fu}{acc:Bool} (h:(zcw w f.ty.arg f.cls).isSome=true):totL w (f::r) acc=totL w r (acc&&exhQ w f.ty.arg f.cls):=by
 conv=>lhs;unfold totL
 rw[if_pos h]
theorem zo4 {w:List Data}{f:Fu}{r:List Fu}{acc:Bool} (h:(zcw w f.ty.arg f.cls).isSome=false):totL w (f::r) acc=(false,false):=by
 unfold totL;rw[if_neg (by rw[h];simp)]
theorem zo5 {w:List Data}{l:List Fu} (h:zez w l=true):totV w l=totL w l true:=by unfold totV;rw[if_pos h]
theorem zpP {w:List Data}{l:List Fu} (h:zez w l=false):totV w l=(false,false):=by unfold totV;rw[if_neg (by rw[h];simp)]
theorem zjF {w:List Data} (hs:WSmall w){l:List Fu} (hl:FusOk l):FnD Tryz.prog 23 [.d (zak w),.d (zdL l)] [] (.tup [.d (.bool (totV w l).1),.d (.bool (totV w l).2)]) []:=by
 have hll:=hl.1
 have hno:=zpP (w:=w) (l:=l)
 have hyes:=zo5 (w:=w) (l:=l)
 refine bd Tryz.f23 39 [] [] fun w0 F0 own kept hk=>?_
 refine Walk.call (cr:=[]) zup (zjD hs hl) rfl .none rfl rfl (LeL.refl _) trivial rfl rfl rfl ?_
 refine ev ?_
 refine sq (fun h1 h1p h1s=>?_) fun h1 h1p h1s=>?_
 try simp only[Q] at h1p
 refine rn0 (r2 rfl rfl) (.tup (.cons (.eqd ?_) (.cons (.eqd ?_) .nil)))
 rotate_left 2
 try simp only[Q] at h1p
 refine CWp.loopX (ι:=List (Fu)×List (Fu)×(Bool)) hk (fun x=>[(17,.d (.i (x.1.length:Int))),(6,.d (.bool x.2.2))]) [4,5,8,9,10,18,19,20,21,22,23,24,25,26,27,28,29,30,31,32,33,34,35,36,37] (fun x=>[]) (fun x=>x.1++x.2.1=l∧totL w x.2.1 x.2.2=totL w l true) (fun x=>x.2.1.length) ([],l,true) ⟨by simp,rfl⟩ ⟨⟨_,rfl,(LeA.eqi (by first|rfl|(simp;done)|omega|(cases acc<;>first|rfl|contradiction)))⟩,⟨⟨_,rfl,(LeA.eqb (by first|rfl|(simp;done)|omega|(cases acc<;>first|rfl|contradiction)))⟩,trivial⟩⟩ trivial (fun x=>rfl) (fun x hg1=>?_)
 obtain⟨pre,rest,acc⟩:=x
 dsimp only at hg1 ⊢
 refine evc [] [] ?_
 refine sq (fun h2 h2p h2s=>?_) fun h2 h2p h2s=>?_
 try simp only[Q] at h2p
 rcases rest with _|⟨y,rest⟩
 ·exfalso;simp_all
 refine Walk.idx sl48 .none rfl rfl rfl rfl (zaG hg1.1) rfl ?_
 refine ev ?_
 refine Walk.alloc (id:=3008) tz60 rfl .none rfl rfl rfl rfl ?_
 refine Walk.store ty60 .none rfl rfl rfl rfl rfl rfl (by simp) rfl ?_
 refine tv ?_
 refine Walk.call (cr:=[]) zua (ziR hs (a:=y.ty.arg.data) (k:=y.ty.arg.index) (hl.2 y (by rw[←hg1.1];simp)).1) rfl .none rfl rfl (LeL.refl _) trivial rfl rfl rfl ?_
 refine ev ?_
 refine sq (fun h3 h3p h3s=>?_) fun h3 h3p h3s=>?_
 try simp only[Q] at h3p
 refine rn0 (r2 rfl rfl) (.tup (.cons (.eqd ?_) (.cons (.eqd ?_) .nil)))
 rotate_left 2
 try simp only[Q] at h3p
 refine sq (fun h4 h4p h4s=>?_) fun h4 h4p h4s=>?_
 try simp only[Q] at h4p
 refine ar ?_
 refine Exists.intro ((pre++[y],rest,acc&&exhQ w y.ty.arg y.cls)) ⟨⟨(by have hz:=hg1.1;rw[←hz];simp),(by rw[←hg1.2,zhg (by assumption)])⟩,(by simp),Sub.x (by kernel_rfl) (by kernel_rfl) ⟨⟨_,rfl,(LeA.eqi (by first|rfl|(simp;done)|omega|(cases acc<;>first|rfl|contradiction)))⟩,⟨⟨_,rfl,(LeA.eqb (by first|rfl|(simp;done)|omega|(cases acc<;>first|rfl|contradiction)))⟩,trivial⟩⟩ (by kernel_rfl) (by kernel_rfl) trivial⟩
 try simp only[Q] at h4p
 refine ar ?_
 refine Exists.intro ((pre++[y],rest,acc&&exhQ w y.ty.arg y.cls)) ⟨⟨(by have hz:=hg1.1;rw[←hz];simp),(by rw[←hg1.2,zhg (by assumption)])⟩,(by simp),Sub.x (by kernel_rfl) (by kernel_rfl) ⟨⟨_,rfl,(LeA.eqi (by first|rfl|(simp;done)|omega|(cases acc<;>first|rfl|contradiction)))⟩,⟨⟨_,rfl,(LeA.eqb (by first|rfl|(simp;done)|omega|(cases acc<;>first|rfl|contradiction)))⟩,trivial⟩⟩ (by kernel_rfl) (by kernel_rfl) trivial⟩
 try simp only[Q] at h2p
 have hrest:rest=[]:=by
  rcases rest with _|⟨a,b⟩
  ·rfl
  ·exfalso;have hz:=congrArg List.length (hg1.1);simp only[List.length_append,List.length_cons,List.length_map] at hz;omega
 subst hrest
 refine rn0 (r2 rfl rfl) (.tup (.cons (.eqd ?_) (.cons (.eqd ?_) .nil)))
 rotate_left 2
 all_goals (first|(rw[hno (by assumption)];all_goals rfl)|(rw[hyes (by assumption),←hg1.2,zo4 (by assumption)];all_goals rfl)|(rw[hyes (by assumption),←hg1.2];all_goals rfl))
theorem zjR {w:List Data} (hs:WSmall w){l:List Fu} (hl:FusOk l) (hz:FusSz l):FnD Tryz.prog 21 [.d (zak w),.d (zdL l)] [] (.tup [.d (.bool (totV w l).1),.d (.bool (totV w l).2)]) []:=by
 have hll:=hl.1
 have hno:=zpP (w:=w) (l:=l)
 have hyes:=zo5 (w:=w) (l:=l)
 refine bd Tryz.f21 43 [] [] fun w0 F0 own kept hk=>?_
 refine Walk.call (cr:=[]) zum (zjP hs hl hz) rfl .none rfl rfl (LeL.refl _) trivial rfl rfl rfl ?_
 refine ev ?_
 refine sq (fun h1 h1p h1s=>?_) fun h1 h1p h1s=>?_
 try simp only[Q] at h1p
 refine rn0 (r2 rfl rfl) (.tup (.cons (.eqd ?_) (.cons (.eqd ?_) .nil)))
 rotate_left 2
 try simp only[Q] at h1p
 refine CWp.loopX (ι:=List (Fu)×List (Fu)×(Bool)) hk (fun x=>[(7,.d (.i (x.1.length:Int))),(6,.d (.bool x.2.2))]) [4,5,8,9,14,15,16,17,18,19,20,21,22,23,24,25,26,27,28,29,30,31,32,33,34,35,36,37,38,39,40,41] (fun x=>[]) (fun x=>x.1++x.2.1=l∧totL w x.2.1 x.2.2=totL w l true) (fun x=>x.2.1.length) ([],l,true) ⟨by simp,rfl⟩ ⟨⟨_,rfl,(LeA.eqi (by first|rfl|(simp;done)|omega|(cases acc<;>first|rfl|contradiction)))⟩,⟨⟨_,rfl,(LeA.eqb (by first|rfl|(simp;done)|omega|(cases acc<;>first|rfl|contradiction)))⟩,trivial⟩⟩ trivial (fun x=>rfl) (fun x hg1=>?_)
 obtain⟨pre,rest,acc⟩:=x
 dsimp only at hg1 ⊢
 refine evc [] [] ?_
 refine sq (fun h2 h2p h2s=>?_) fun h2 h2p h2s=>?_
 try simp only[Q] at h2p
 rcases rest with _|⟨y,rest⟩
 ·exfalso;simp_all
 refine Walk.idx sl48 .none rfl rfl rfl rfl (zaG hg1.1) rfl ?_
 refine evd [] [] ?_
 refine Walk.idx sl48 .none rfl rfl rfl rfl (zaG hg1.1) rfl ?_
 refine evd [] [] ?_
 refine Walk.call (cr:=[]) zun (zji hs (a:=y.ty.arg.data) (k:=y.ty.arg.index) (hl.2 y (by rw[←hg1.1];simp)).1 (hz y (by rw[←hg1.1];simp)).1) rfl .none rfl rfl (LeL.refl _) trivial rfl rfl rfl ?_
 refine evd [] [] ?_
 refine dr ?_
 refine sq (fun h3 h3p h3s=>?_) fun h3 h3p h3s=>?_
 try simp only[Q] at h3p
 refine rn0 (r2 rfl rfl) (.tup (.cons (.eqd ?_) (.cons (.eqd ?_) .nil)))
 rotate_left 2
 try simp only[Q] at h3p
 refine sq (fun h4 h4p h4s=>?_) fun h4 h4p h4s=>?_
 try simp only[Q] at h4p
 refine ar ?_
 refine Exists.intro ((pre++[y],rest,acc&&exhQ w y.ty.arg y.cls)) ⟨⟨(by have hz:=hg1.1;rw[←hz];simp),(by rw[←hg1.2,zhg (by assumption)])⟩,(by simp),Sub.x (by kernel_rfl) (by kernel_rfl) ⟨⟨_,rfl,(LeA.eqi (by first|rfl|(simp;done)|omega|(cases acc<;>first|rfl|contradiction)))⟩,⟨⟨_,rfl,(LeA.eqb (by first|rfl|(simp;done)|omega|(cases acc<;>first|rfl|contradiction)))⟩,trivial⟩⟩ (by kernel_rfl) (by kernel_rfl) trivial⟩
 try simp only[Q] at h4p
 refine ar ?_
 refine Exists.intro ((pre++[y],rest,acc&&exhQ w y.ty.arg y.cls)) ⟨⟨(by have hz:=hg1.1;rw[←hz];simp),(by rw[←hg1.2,zhg (by assumption)])⟩,(by simp),Sub.x (by kernel_rfl) (by kernel_rfl) ⟨⟨_,rfl,(LeA.eqi (by first|rfl|(simp;done)|omega|(cases acc<;>first|rfl|contradiction)))⟩,⟨⟨_,rfl,(LeA.eqb (by first|rfl|(simp;done)|omega|(cases acc<;>first|rfl|contradiction)))⟩,trivial⟩⟩ (by kernel_rfl) (by kernel_rfl) trivial⟩
 try simp only[Q] at h2p
 have hrest:rest=[]:=by
  rcases rest with _|⟨a,b⟩
  ·rfl
  ·exfalso;have hz:=congrArg List.length (hg1.1);simp only[List.length_append,List.length_cons,List.length_map] at hz;omega
 subst hrest
 refine rn0 (r2 rfl rfl) (.tup (.cons (.eqd ?_) (.cons (.eqd ?_) .nil)))
 rotate_left 2
 all_goals (first|(rw[hno (by assumption)];all_goals rfl)|(rw[hyes (by assumption),←hg1.2,zo4 (by assumption)];all_goals rfl)|(rw[hyes (by assumption),←hg1.2];all_goals rfl))
theorem zgJ {w:List Data} (hs:WSmall w){l:List Fu} (hok:FusOk l) (hsz:FusSz l):FnD Tryz.prog 4 [.d (zak w),.d (zdL l)] [] (.d (.bool true)) []:=by
 have z:=zbu (left:=1048576) (zls w)
 have hspec:=zjR hs hok hsz
 have himp:=zjF hs hok
 generalize totV w l=q at hspec himp
 obtain⟨q1,q2⟩:=q
 dsimp only at hspec himp
 refine bd Tryz.f4 58 [42,46] [] fun w0 F0 own kept hk=>?_
 refine Walk.call (cr:=[]) cal6 (zll hs (by omega) (by omega)) rfl .none rfl rfl (LeL.refl _) trivial rfl rfl rfl ?_
 refine evs [42,46] [] ?_
 refine sq (fun h1 h1p h1s=>?_) fun h1 h1p h1s=>?_
 try simp only[Q] at h1p
 refine rn0 (r1 rfl) (.eqd ?_)
 rotate_left
 try simp only[Q] at h1p
 refine Walk.call (cr:=[]) zt6 (zmx hok (by omega) (by omega)) rfl .none rfl rfl (LeL.refl _) trivial rfl rfl rfl ?_
 refine evs [42,46] [] ?_
 refine sq (fun h2 h2p h2s=>?_) fun h2 h2p h2s=>?_
 try simp only[Q] at h2p
 refine rn0 (r1 rfl) (.eqd ?_)
 rotate_left
 try simp only[Q] at h2p
 refine Walk.call (cr:=[]) cal9 (zeW hs) rfl .none rfl rfl (LeL.refl _) trivial rfl rfl rfl ?_
 refine evs [42,46] [] ?_
 refine Walk.call (cr:=[]) zpV (zfi hok) rfl .none rfl rfl (LeL.refl _) trivial rfl rfl rfl ?_
 refine Walk.call (cr:=[]) zt7 (hspec) rfl .none rfl rfl (LeL.refl _) trivial rfl rfl rfl ?_
 refine evs [42,46] [] ?_
 refine Walk.call (cr:=[]) cal9 (zeW hs) rfl .none rfl rfl (LeL.refl _) trivial rfl rfl rfl ?_
 refine evs [42,46] [] ?_
 refine Walk.call (cr:=[]) zpV (zfi hok) rfl .none rfl rfl (LeL.refl _) trivial rfl rfl rfl ?_
 refine evs [42,46] [] ?_
 refine Walk.call (cr:=[]) zt8 (himp) rfl .none rfl rfl (LeL.refl _) trivial rfl rfl rfl ?_
 refine evs [42,46] [] ?_
 refine Walk.neB un4 .none rfl rfl rfl ?_
 refine evs [42,46] [] ?_
 refine sq (fun h3 h3p h3s=>?_) fun h3 h3p h3s=>?_
 try simp only[Q] at h3p
 refine sqT ?_
 refine rn0 (r1 rfl) (.eqd ?_)
 rotate_left
 try simp only[Q] at h3p
 refine Walk.neB un4 (.some rfl rfl h3) rfl rfl rfl ?_
 refine evs [42,46] [(43,false)] ?_ ⟨⟨_,rfl,h3⟩,trivial⟩
 refine sq (fun h5 h5p h5s=>?_) fun h5 h5p h5s=>?_
 try simp only[Q] at h5p
 refine rn0 (r1 rfl) (.eqd ?_)
 rotate_left
 try simp only[Q] at h5p
 refine Walk.call (cr:=[]) cal9 (zeW hs) rfl .none rfl rfl (LeL.refl _) trivial rfl rfl rfl ?_
 refine Walk.call (cr:=[]) zt4 (zlg hs) rfl .none rfl rfl (LeL.refl _) trivial rfl rfl rfl ?_
 refine evs [42,46] [] ?_
 refine sq (fun h6 h6p h6s=>?_) fun h6 h6p h6s=>?_
 try simp only[Q] at h6p
 refine rn0 (r1 rfl) (.eqd ?_)
 rotate_left
 try simp only[Q] at h6p
 refine Walk.call (cr:=[]) zpV (zfi hok) rfl .none rfl rfl (LeL.refl _) trivial rfl rfl rfl ?_
 refine Walk.call (cr:=[]) zt9 (zmu hok) rfl .none rfl rfl (LeL.refl _) trivial rfl rfl rfl ?_
 refine evs [42,46] [] ?_
 refine sq (fun h7 h7p h7s=>?_) fun h7 h7p h7s=>?_
 try simp only[Q] at h7p
 refine rn0 (r1 rfl) (.eqd ?_)
 rotate_left
 try simp only[Q] at h7p
 refine rn0 (r1 rfl) (.eqd ?_)
 rotate_left
 all_goals (first|rfl|(exfalso;simp_all[zk3];done)|(exfalso;simp[zk3] at *;done))
end Go.Proofs.YtfiihhedihkdoaaGreat
namespace Go.Proofs.YtfiihhedihkdoaaGreat
open Go Go.ChangeShapes Go.WideShapes Go.ChangeAt Go.RowKit
set_option linter.unusedSimpArgs false
set_option linter.unusedVariables false
set_option linter.unusedVariables false
def FW (W:World) (b:Nat):Nat:=match W.heap[b]? with
 |some (.cells cs _ _)=>cs.size
 |_=>0
theorem FW_cell {W:World}{b o:Nat}{v:Value} (h:W.cell? ⟨b,o,none⟩=some v):o<FW W b:=by
 unfold World.cell? at h
 unfold FW
 simp only at h
 split at h
 ·rename_i c t fr hb
  simp only[hb]
  simp only[Option.isSome_none,Bool.false_eq_true,if_false] at h
  exact(Array.getElem?_eq_some_iff.1 h).1
 ·cases h
theorem FW_top {W:World}{b:Nat} (h:W.heap.size≤b):FW W b=0:=by
 unfold FW
 rw[Array.getElem?_eq_none h]
structure RelL (W:World) (xs:List D) (cs:List Value):Prop where
 len:xs.length=cs.length
 rel:∀i (h1:i<xs.length) (h2:i<cs.length),RelD (FW W) W xs[i] cs[i]
theorem RelL.append {W:World}{xs ys:List D}{cs ds:List Value} (h:RelL W xs cs) (k:RelL W ys ds):RelL W (xs++ys) (cs++ds):=by
 refine⟨by simp[h.len,k.len],fun i h1 h2=>?_⟩
 by_cases hi:i<xs.length
 ·rw[List.getElem_append_left hi,List.getElem_append_left (by rw[←h.len];exact hi)]
  exact h.rel i hi (by rw[←h.len];exact hi)
 ·have hl:=h.len
  rw[List.getElem_append_right (by omega),List.getElem_append_right (by omega)]
  have e:i-xs.length=i-cs.length:=by omega
  have h1':i-xs.length<ys.length:=by simp only[List.length_append] at h1;omega
  have h2':i-cs.length<ds.length:=by simp only[List.length_append] at h2;omega
  have:=k.rel (i-xs.length) h1' (by omega)
  simp only[e] at this ⊢
  exact this
def Dec (P:Program) (W:World) (n:Nat) (t:TypeId){α:Type} (f:α→List D) (m:α→Nat) (R:α→Prop):Prop:=
 ∀(H:Type) (enc:TypeId×Value→H) (cs:List Value) (x:DataW H×List MemPlace),DataW.trod enc P W 0 (fun _=>true) true n t cs=some x→
  ∃a,RelL W (f a) cs∧m a+1≤Rows.uptoBulk x.1∧R a
section
variable {P:Program}{W:World}{n:Nat}{t:TypeId}
theorem Dec.zero {α:Type}{f:α→List D}{m:α→Nat}{R:α→Prop}:Dec P W 0 t f m R:=fun H enc cs x h=>by simp[DataW.trod] at h
theorem Dec.map {α β:Type}{f:α→List D}{m:α→Nat}{R:α→Prop}{f':β→List D}{m':β→Nat}{R':β→Prop} (g:α→β) (h:Dec P W n t f m R)
  (h1:∀a,f' (g a)=f a) (h2:∀a,m' (g a)≤m a) (h3:∀a,R a→R' (g a)):Dec P W n t f' m' R':=fun H enc cs x hx=>by
 obtain⟨a,q1,q2,q3⟩:=h H enc cs x hx
 exact⟨g a,by rw[h1];exact q1,by have:=h2 a;omega,h3 a q3⟩
theorem RelL.one {x:D}{v:Value} (h:RelD (FW W) W x v):RelL W [x] [v]:=
 ⟨rfl,fun i h1 h2=>by
  have:i=0:=by simp at h1;omega
  subst this
  exact h⟩
theorem Dec.int {k:IntKind} (ht:P.underlying t=some (.int k)):Dec P W n t (fun z:Int=>[.int k z]) (fun _=>0) (fun z=>(Lit.int k z).wf=true):=fun H enc cs x h=>by
 obtain⟨z,rfl,rfl,hw⟩:=DataW.trod_int ht h
 exact⟨z,.one (.int k z),by simp[Rows.uptoBulk],hw⟩
theorem Dec.bool (ht:P.underlying t=some .bool):Dec P W n t (fun z:Bool=>[.bool z]) (fun _=>0) (fun _=>True):=fun H enc cs x h=>by
 obtain⟨z,rfl,rfl⟩:=DataW.trod_bool ht h
 exact⟨z,.one (.bool z),by simp[Rows.uptoBulk],trivial⟩
theorem Dec.str (ht:P.underlying t=some .string):Dec P W n t (fun s:Str=>[.str s]) (fun s=>s.length) (fun _=>True):=fun H enc cs x h=>by
 obtain⟨s,rfl,rfl,hw⟩:=DataW.trod_string ht h
 exact⟨s.data.toList,.one (by have:=RelD.str (F:=FW W) (w:=W) s.data.toList;simpa using this),by simp[Rows.uptoBulk],trivial⟩
def sumM {α:Type} (m:α→Nat):List α→Nat
 | []=>0
 |a::r=>m a+1+sumM m r
theorem zfo {α:Type} (m:α→Nat):∀l:List α,l.length≤sumM m l
 | []=>by simp[sumM]
 |a::r=>by have:=zfo m r;simp only[sumM,List.length_cons];omega
theorem zeE {α:Type}{m:α→Nat}:∀ {l:List α}{a:α},a∈l→m a+1≤sumM m l
 |b::r,a,h=>by
  simp only[sumM]
  rcases List.mem_cons.1 h with rfl|h
  ·omega
  ·have:=zeE (m:=m) h;omega
theorem zjT {α β:Type}{Q:Nat→α→β→Prop}:∀(l:List β) (o:Nat),(∀i (h:i<l.length),∃a,Q (o+i) a l[i])→∃zs:List α,zs.length=l.length∧∀i (h:i<l.length) (h':i<zs.length),Q (o+i) zs[i] l[i]
 | [],o,_=>⟨[],rfl,fun i h=>by simp at h⟩
 |b::r,o,h=>by
  obtain⟨a,ha⟩:=h 0 (by simp)
  obtain⟨zs,h1,h2⟩:=zjT (Q:=Q) r (o+1) (fun i hi=>by
   have:=h (i+1) (by simp;omega)
   rw[show o+1+i=o+(i+1) by omega]
   simpa using this)
  refine⟨a::zs,by simp[h1],fun i hi hi'=>?_⟩
  cases i with
  |zero=>exact ha
  |succ i=>
   have:=h2 i (by simpa using hi) (by simpa using hi')
   rw[show o+1+i=o+(i+1) by omega] at this
   simpa using this
theorem zn0 {H α:Type}{m:α→Nat}:∀ {zs:List α}{xs:List (DataW H)},zs.length=xs.length→(∀i (h:i<zs.length) (h':i<xs.length),m zs[i]+1≤Rows.uptoBulk xs[i])→sumM m zs≤Rows.uptoBulkAll xs
 | [],[],_,_=>by simp[sumM,Rows.uptoBulkAll]
 |a::zs,x::xs,hl,h=>by
  have h0:=h 0 (by simp) (by simp)
  have ih:=zn0 (m:=m) (zs:=zs) (xs:=xs) (by simpa using hl) (fun i h1 h2=>by
   have:=h (i+1) (by simp;omega) (by simp;omega)
   simpa using this)
  simp only[sumM,Rows.uptoBulkAll]
  simp only[List.getElem_cons_zero] at h0
  omega
 | [],_::_,hl,_=>by simp at hl
 |_::_,[],hl,_=>by simp at hl
theorem Dec.sl {α:Type}{f:α→List D}{m:α→Nat}{R:α→Prop}{e:TypeId}{k:Nat} (ht:P.underlying t=some (.slice e)) (hc:P.cellsOf e=k+1) (hk:∀a,(f a).length=k+1) (he:Dec P W n e f m R):
  Dec P W (n+1) t (fun l:List α=>[.sl (l.map f)]) (fun l=>sumM m l) (fun l=>∀a∈l,R a):=fun H enc cs x h=>by
 rcases DataW.trod_slice ht h with ⟨rfl,rfl⟩|⟨a,len,cap,elems,rest,n',hn,rfl,rfl,_,hcap,_,hlen,hel,_,_⟩
 ·exact⟨[],.one .nil,by simp[sumM,Rows.uptoBulk],fun a h=>by simp at h⟩
 obtain rfl:n=n':=by omega
 have each:∀i (hi:i<elems.length),∃y,(∃cs,W.cells? 0 (a.add (i*(k+1))) (k+1)=some cs∧RelL W (f y) cs)∧m y+1≤Rows.uptoBulk (elems[i]).1∧R y:=by
  intro i hi
  have:=hel i (by omega)
  rw[hc,List.getElem?_eq_getElem hi,Option.bind_eq_some_iff] at this
  obtain⟨cs,h1,h2⟩:=this
  obtain⟨y,h3,h4,h5⟩:=he H enc cs _ h2
  exact⟨y,⟨cs,h1,h3⟩,h4,h5⟩
 obtain⟨zs,hal,has⟩:=zjT (Q:=fun i y (el:DataW H×List MemPlace)=>(∃cs,W.cells? 0 (a.add (i*(k+1))) (k+1)=some cs∧RelL W (f y) cs)∧m y+1≤Rows.uptoBulk el.1∧R y) elems 0 (fun i hi=>by simpa using each i hi)
 refine⟨zs,.one ?_, ?_,fun y hy=>?_⟩
 ·by_cases h0:zs=[]
  ·subst h0
   have hz:len=0:=by simp at hal;omega
   subst hz
   obtain⟨b,o,s⟩:=a
   cases s with
   |none=>exact .sl [] 0 b o cap (fun _=>undef) (by simp) (by simp) (fun n hn=>by simp at hn) (fun i hi=>by simp at hi)
   |some s=>exact .emp b o s cap
  ·have hpos:0<zs.length:=List.length_pos_iff.2 h0
   obtain⟨⟨cs0,hc0,hr0⟩,_⟩:=has 0 (by omega) hpos
   have hspot:a.spot=none:=by
    have h1:=(World.cells?_some hc0).2.2 0 (by omega)
    have h2:0<cs0.length:=by have:=(World.cells?_some hc0).2.1;omega
    simp only[Nat.add_zero,Nat.zero_mul,Addr.add,if_true,List.getElem?_eq_getElem h2] at h1
    unfold World.cell? at h1
    split at h1
    ·cases hs:a.spot with
     |none=>rfl
     |some s=>simp[hs] at h1
    ·cases h1
   obtain⟨b,o,s⟩:=a
   simp only at hspot
   subst hspot
   have hlen':(zs.map f).length=len:=by simp;omega
   have hmulk:∀i j,i<zs.length→j<k+1→i*(k+1)+j<zs.length*(k+1):=fun i j hi hj=>by
    have:(i+1)*(k+1)≤zs.length*(k+1):=Nat.mul_le_mul_right _ (by omega)
    rw[Nat.add_mul,Nat.one_mul] at this
    omega
   have cellAt:∀i (hi:i<zs.length) j (hj:j<(f zs[i]).length),∃v,W.cell? ⟨b,o+(i*(k+1)+j),none⟩=some v∧RelD (FW W) W ((f zs[i])[j]) v:=fun i hi j hj=>by
    obtain⟨⟨cs,hc1,hr1⟩,_⟩:=has i (by omega) hi
    have hjk:j<k+1:=by have:=hk zs[i];omega
    obtain⟨_,q1,q2⟩:=World.cells?_some hc1
    have q3:=q2 j hjk
    rw[List.getElem?_eq_getElem (by omega)] at q3
    refine⟨cs[j], ?_,hr1.rel j hj (by omega)⟩
    rw[←q3]
    congr 1
    simp only[Nat.zero_add,Addr.add]
    split<;>split<;>simp_all<;>omega
   have hv:((zs.map f).length,cap)=(len,cap):=by rw[hlen']
   have goal:RelD (FW W) W (.sl (zs.map f)) (.slice (some ⟨b,o,none⟩) (zs.map f).length cap):=by
    refine .sl _ (k+1) b o cap (fun q=>(W.cell? ⟨b,o+q,none⟩).getD undef) (fun y hy=>?_) (by omega) (fun q hq=>?_) (fun i hi j hj=>?_)
    ·obtain⟨y',_,rfl⟩:=List.mem_map.1 hy;exact hk y'
    ·have hq':q<zs.length*(k+1):=by simpa using hq
     have hi:q / (k+1)<zs.length:=Nat.div_lt_of_lt_mul (by rw[Nat.mul_comm];exact hq')
     have hj:q % (k+1)<k+1:=Nat.mod_lt _ (by omega)
     obtain⟨v,h1,_⟩:=cellAt _ hi (q % (k+1)) (by rw[hk];exact hj)
     rw[Nat.div_add_mod'] at h1
     exact⟨FW_cell h1,by rw[h1];rfl⟩
    ·have hi':i<zs.length:=by simpa using hi
     simp only[List.getElem_map] at hj ⊢
     obtain⟨v,h1,h2⟩:=cellAt i hi' j hj
     show RelD (FW W) W _ ((W.cell? ⟨b,o+(i*(k+1)+j),none⟩).getD undef)
     rw[h1]
     exact h2
   rw[hlen'] at goal
   exact goal
 ·have:=zn0 (m:=m) (zs:=zs) (xs:=elems.map (·.1)) (by simp[hal]) (fun i h1 h2=>by
   have:=(has i (by simpa using h2) h1).2.1
   simpa using this)
  simp only[Rows.uptoBulk]
  omega
 ·obtain⟨i,hi,rfl⟩:=List.getElem_of_mem hy
  exact(has i (by omega) hi).2.2
def DecF (P:Program) (W:World) (n o K:Nat) (fs:List Field){α:Type} (f:α→List D) (m:α→Nat) (R:α→Prop):Prop:=
 ∀(H:Type) (enc:TypeId×Value→H) (cs:List Value) (xs:List (DataW H×List MemPlace)),cs.length=K→xs.length=fs.length→
  (∀(i:Nat) (fd:Field),fs[i]?=some fd→DataW.trod enc P W 0 (fun _=>true) true n fd.type ((cs.drop fd.offset).take (P.cellsOf fd.type))=xs[i]?)→
  ∃a,RelL W (f a) (cs.drop o)∧m a≤Rows.uptoBulkAll (xs.map (·.1))∧R a
theorem DecF.nil {K:Nat}:DecF P W n K K [] (fun _:Unit=>[]) (fun _=>0) (fun _=>True):=fun H enc cs xs h1 h2 _=>
 ⟨(),by rw[List.drop_of_length_le (by omega)];exact⟨rfl,fun i h=>by simp at h⟩,by simp,trivial⟩
theorem DecF.cons {α β:Type}{f:α→List D}{m:α→Nat}{R:α→Prop}{f2:β→List D}{m2:β→Nat}{R2:β→Prop}{o K k:Nat}{fd:Field}{fs:List Field}
  (h1:Dec P W n fd.type f m R) (ho:fd.offset=o) (hc:P.cellsOf fd.type=k) (h2:DecF P W n (o+k) K fs f2 m2 R2):
  DecF P W n o K (fd::fs) (fun p:α×β=>f p.1++f2 p.2) (fun p=>m p.1+1+m2 p.2) (fun p=>R p.1∧R2 p.2):=fun H enc cs xs hK hl hx=>by
 cases xs with
 |nil=>simp at hl
 |cons y ys=>
  have h0:=hx 0 fd (by simp)
  simp only[List.getElem?_cons_zero] at h0
  rw[ho,hc] at h0
  obtain⟨a,q1,q2,q3⟩:=h1 H enc _ _ h0
  obtain⟨b,r1,r2,r3⟩:=h2 H enc cs ys hK (by simpa using hl) (fun i fd' hi=>by
   have:=hx (i+1) fd' (by simpa using hi)
   simpa using this)
  refine⟨(a,b), ?_, ?_,q3,r3⟩
  ·have:cs.drop o=(cs.drop o).take k++cs.drop (o+k):=by
    rw[←List.drop_drop,List.take_append_drop]
   rw[this]
   exact q1.append r1
  ·simp only[List.map_cons,Rows.uptoBulkAll]
   omega
theorem Dec.struct {α:Type}{f:α→List D}{m:α→Nat}{R:α→Prop}{fs:Array Field} (ht:P.underlying t=some (.struct fs)){K:Nat} (hK:P.cellsOf t=K) (h:DecF P W n 0 K fs.toList f m R):
  Dec P W (n+1) t f m R:=fun H enc cs x hx=>by
 obtain⟨xs,n',hn,rfl,hl,hxl,hf⟩:=DataW.trod_struct ht hx
 obtain rfl:n=n':=by omega
 obtain⟨a,q1,q2,q3⟩:=h H enc cs xs (by omega) (by simpa using hxl) (fun i fd hi=>hf i fd (by simpa using hi))
 refine⟨a,by simpa using q1, ?_,q3⟩
 simp only[Rows.uptoBulk]
 omega
end
section
variable {P:Program}{W:World}{base:Nat}{t:TypeId}{v:Value}{H:Type}{enc:TypeId×Value→H}{d:DataW H}{ps:List MemPlace}
theorem zqq {α:Type}{e:TypeId}{f:α→List D}{m:α→Nat}{R:α→Prop}{k:Nat} (ht:P.underlying t=some (.slice e)) (hc:P.cellsOf e=k+1) (hk:∀a,(f a).length=k+1) (hd:∀n,Dec P W n e f m R)
  (hval:Value.okWide P W .any base t v) (h:DataW.Trod enc P W 0 (fun _=>true) true t v d ps):
  ∃l:List α,(∀G T,G.F=FW W→RelA G T W (.d (.sl (l.map f))) v)∧sumM m l+1≤Rows.uptoBulk d∧∀a∈l,R a:=by
 obtain⟨n,hn⟩:=h
 cases n with
 |zero=>simp[DataW.trod] at hn
 |succ n=>
  obtain⟨l,h1,h2,h3⟩:=Dec.sl ht hc hk (hd n) H enc _ _ hn
  have hcells:v.cells.toList=[v]:=by
   cases v with
   |agg cs=>simp only[Value.okWide,ht,Cell.okWide,Cell.ok] at hval
   |_=>rfl
  rw[hcells] at h1
  exact⟨l,fun G T hG=> .d (by rw[hG];simpa using h1.rel 0 (by simp) (by simp)),h2,h3⟩
end
section
variable {P:Program}{H:Type}{enc:TypeId×Value→H}
theorem ziu (hl:laidOutB P=true){W W':World} (hb:Below W.heap.size W W'):∀ {ts:List TypeId}{vs:List Value}{ds:List (DataW H)}{ps:List MemPlace},
  (∀t∈ts,P.readableRec t=true∧t<P.types.size)→DataW.TrodAll enc P W 0 (fun _=>true) true ts vs ds ps→(∀x∈ps,x.block<W.heap.size)→
  DataW.TrodAll enc P W' 0 (fun b=>decide (b<W.heap.size)) true ts vs ds ps
 | [],[],[],ps,_,h,_=>h
 |t::ts,v::vs,d::ds,ps,hr,h,hlt=>by
  obtain⟨p,q,h1,h2,rfl⟩:=h
  exact⟨p,q,Below.trod hl (hr t (by simp)).1 (hr t (by simp)).2 h1 hb (fun x hx=>hlt x (by simp[hx])),
   ziu hl hb (fun t ht=>hr t (by simp[ht])) h2 (fun x hx=>hlt x (by simp[hx])),rfl⟩
theorem zrK {f:Func}{s:ChangeSpec}{W W':World}{args:Array Value}{ds gs:List (DataW H)}{before:List MemPlace}{tb:TypeId}
  (hW:DataW.Whole enc P f.params.toList s.vars false W args.toList ds gs before) (hvars:s.vars=[]) (hrt:f.resultTypes = #[tb]) (htb:P.underlying tb=some .bool)
  (hs:s.fn H (ds++gs)={ results:=[.lit (.bool true)],args:=ds }) (hl:laidOutB P=true) (hr:∀t∈f.params.toList,P.readableRec t=true∧t<P.types.size)
  (hb:Below W.heap.size W W'):s.post enc P f false true false false W args (.bool true) W':=by
 have hlt:∀p∈before,p.block<W.heap.size:=fun p hp=>hW.lt p hp
 have hW0:=hW
 obtain⟨p,q,hA,hV,rfl,hfz,_⟩:=hW
 rw[hvars] at hV
 cases gs with
 |cons g gs=>exact hV.elim
 |nil=>
  have hq:q=[]:=hV
  subst hq
  simp only[List.append_nil] at *
  refine⟨ds,[],p,[],p,[],by simpa [hvars] using hW0, ?_, ?_, ?_,World.keptBut_mono (fun x hx=>⟨hx,.inr (.inl hx)⟩) (hb.frame (·∈p)),fun h=>by cases h⟩
  ·simp only[List.append_nil,hs,hrt]
   exact trodAll_cons_mk (shut_bool htb _) trodAll_mk0
  ·simp only[List.append_nil,hs]
   exact ziu hl hb hr hA hlt
  ·simp only[hvars,List.append_nil,hs]
   rfl
theorem zq9 {f:FuncId}{avs:List AV}{W:World}{args:Array Value}{r:AV} (hf:FnD P f avs [] r [])
  (hargs:∀G T,G.F=FW W→AllR G T W avs args):Calls P f args W fun e W'=>∃v G',e = .returned v∧RelA G' (fun _=>none) W' r v∧Below W.heap.size W W':=by
 let G:Gh:={ F:=FW W,loc:=fun _=>[] }
 refine(hf G W args ⟨hargs G _ rfl,fun id r h=>(by simp[getH] at h),fun id id' h=>(by simp[getH] at h),fun b hb=>FW_top hb⟩).mono ?_
 rintro e W' ⟨v,r',hp',G',rfl,⟨rfl,rfl⟩,h⟩
 exact⟨v,G',rfl,h.res,⟨h.frm.os,h.frm.tape,h.frm.output,h.frm.size,fun b hb=>(h.frm.block b hb (by simp[zb7])).1⟩⟩
theorem RelA.bool_true {G:Gh}{T:TokF}{w:World}{v:Value} (h:RelA G T w (.d (.bool true)) v):v = .bool true:=by
 cases h with|d h=>cases h;rfl
theorem zrC {H:Type}{l:List (DataW H)} (hk:Rows.uptoSmall H l=true):Rows.uptoBulkAll l≤1048576:=of_decide_eq_true hk
end
end Go.Proofs.YtfiihhedihkdoaaGreat
namespace Go.Proofs.YtfiihhedihkdoaaGreat
open Go Go.ChangeShapes Go.WideShapes Go.ChangeAt Go.RowKit
set_option linter.unusedSimpArgs false
set_option linter.unusedVariables false
set_option maxRecDepth 100000
theorem zc9 (W:World) (n:Nat):Dec Tryz.prog W n 3 (fun z:Int=>[.i z]) (fun _=>0) (fun _=>True):=Dec.map (f:=fun z:Int=>[D.i z]) (R:=fun z=>(Lit.int .i64 z).wf=true) id (Dec.int Tryz.underlying3) (fun _=>rfl) (fun _=>Nat.le_refl _) (fun _ _=>trivial)
theorem zqX (W:World) (n:Nat):Dec Tryz.prog W n 9 (fun s:Str=>[.str s]) (fun s=>s.length) (fun _=>True):=Dec.str Tryz.underlying9
theorem zp1 (W:World):∀n,Dec Tryz.prog W n 24 Ty.c (fun _=>0) (fun _=>True)
 |0=>Dec.zero
 |n+1=>Dec.map (fun p:Int×Int×Unit=>(⟨p.1,p.2.1⟩:Ty)) (Dec.struct Tryz.underlying24 (by kernel_rfl) (DecF.cons (k:=1) (zc9 W n) rfl (by kernel_rfl) (DecF.cons (k:=1) (zc9 W n) rfl (by kernel_rfl) DecF.nil))) (fun _=>rfl) (fun _=>Nat.zero_le _) (fun _ _=>trivial)
theorem ztO (W:World):∀n,Dec Tryz.prog W n 173 (fun l:List Ty=>[zby l]) (fun l=>l.length) (fun _=>True)
 |0=>Dec.zero
 |n+1=>Dec.map id (Dec.sl (k:=1) Tryz.underlying173 (by kernel_rfl) (fun _=>rfl) (zp1 W n)) (fun _=>rfl) (fun l=>zfo _ l) (fun _ _=>trivial)
def zhS (c:Ctor):Nat:=c.name.length+c.args.length
theorem zsG (W:World):∀n,Dec Tryz.prog W n 175 Ctor.c zhS (fun _=>True)
 |0=>Dec.zero
 |n+1=>Dec.map (fun p:Str×List Ty×Int×Unit=>(⟨p.1,p.2.1,p.2.2.1⟩:Ctor)) (Dec.struct Tryz.underlying175 (by kernel_rfl) (DecF.cons (k:=1) (zqX W n) rfl (by kernel_rfl) (DecF.cons (k:=1) (ztO W n) rfl (by kernel_rfl) (DecF.cons (k:=1) (zc9 W n) rfl (by kernel_rfl) DecF.nil))))
   (fun _=>rfl) (fun p=>by simp only[zhS];omega) (fun _ _=>trivial)
theorem zrG (W:World):∀n,Dec Tryz.prog W n 63 (fun l:List Ctor=>[zcG l]) (fun l=>sumM zhS l) (fun _=>True)
 |0=>Dec.zero
 |n+1=>Dec.map id (Dec.sl (k:=2) Tryz.underlying63 (by kernel_rfl) (fun _=>rfl) (zsG W n)) (fun _=>rfl) (fun l=>Nat.le_refl _) (fun _ _=>trivial)
def zgZ (d:Data):Nat:=d.name.length+sumM zhS d.ctors
theorem zsH (W:World):∀n,Dec Tryz.prog W n 65 Data.c zgZ (fun _=>True)
 |0=>Dec.zero
 |n+1=>Dec.map (fun p:Str×List Ctor×Unit=>(⟨p.1,p.2.1⟩:Data)) (Dec.struct Tryz.underlying65 (by kernel_rfl) (DecF.cons (k:=1) (zqX W n) rfl (by kernel_rfl) (DecF.cons (k:=1) (zrG W n) rfl (by kernel_rfl) DecF.nil)))
   (fun _=>rfl) (fun p=>by simp only[zgZ];omega) (fun _ _=>trivial)
theorem zry {w:List Data}{N:Nat} (h:sumM zgZ w+1≤N) (hN:N≤1048576):WSmall w:=by
 refine⟨by have:=zfo zgZ w;omega,fun d hd=>?_,fun d hd c hc=>?_⟩
 ·have h1:=zeE (m:=zgZ) hd
  have h2:=zfo zhS d.ctors
  simp only[zgZ] at h1
  omega
 ·have h1:=zeE (m:=zgZ) hd
  have h2:=zeE (m:=zhS) hc
  simp only[zgZ] at h1
  simp only[zhS] at h2
  omega
theorem ztN (W:World):∀n,Dec Tryz.prog W n 69 Pat.cc (fun v=>Pats.size v.kids) (fun _=>True):=by
 intro n
 induction n using Nat.strongRecOn with
 |_ n ih=>
  cases n with
  |zero=>exact Dec.zero
  |succ n=>
   have hk:Dec Tryz.prog W n 67 (fun l:List Pat=>[.sl (l.map Pat.cc)]) (fun l=>Pats.size l) (fun _=>True):=by
    cases n with
    |zero=>exact Dec.zero
    |succ n=>
     refine Dec.map id (Dec.sl (k:=5) Tryz.underlying67 (by kernel_rfl) (fun _=>rfl) (ih n (by omega))) (fun _=>rfl) (fun l=>?_) (fun _ _=>trivial)
     have:∀l:List Pat,Pats.size l≤sumM (fun v=>Pats.size v.kids) l:=by
      intro l
      induction l with
      |nil=>simp[Pats.size,sumM]
      |cons a r ih2=>simp only[Pats.size,sumM,Pat.size_eq];omega
     exact this l
   refine Dec.map (fun p:Int×Int×Int×Int×Int×List Pat×Unit=>Pat.mk p.1 p.2.1 p.2.2.1 p.2.2.2.1 p.2.2.2.2.1 p.2.2.2.2.2.1) (Dec.struct Tryz.underlying69 (by kernel_rfl) (DecF.cons (k:=1) (zc9 W n) rfl (by kernel_rfl) (DecF.cons (k:=1) (zc9 W n) rfl (by kernel_rfl) (DecF.cons (k:=1) (zc9 W n) rfl (by kernel_rfl) (DecF.cons (k:=1) (zc9 W n) rfl (by kernel_rfl) (DecF.cons (k:=1) (zc9 W n) rfl (by kernel_rfl) (DecF.cons (k:=1) hk rfl (by kernel_rfl) DecF.nil))))))) (fun p=>?_) (fun p=>?_) (fun _ _=>trivial)
   ·show [D.i _,D.i _,D.i _,D.i _,D.i _,D.sl (Pat.cs _)]=_
    rw[show Pat.cs (Pat.mk p.1 p.2.1 p.2.2.1 p.2.2.2.1 p.2.2.2.2.1 p.2.2.2.2.2.1).kids=p.2.2.2.2.2.1.map Pat.cc by rw[Pat.cs_eq];exact List.map_congr_left (fun v _=>Pat.c_eq v)]
    rfl
   ·show Pats.size p.2.2.2.2.2.1≤0+1+(0+1+(0+1+(0+1+(0+1+(Pats.size p.2.2.2.2.2.1+1+0)))))
    omega
theorem Pats.ok_size:∀(n:Nat) (l:List Pat),Pats.size l≤n→n≤1048576→l.length≤1048576∧Pats.ok l:=by
 intro n
 induction n with
 |zero=>
  intro l h hn
  cases l with
  |nil=>exact⟨by simp,trivial⟩
  |cons x r=>simp only[Pats.size,Pat.size_eq] at h;omega
 |succ n ih=>
  intro l
  induction l with
  |nil=>intro _ _;exact⟨by simp,trivial⟩
  |cons x r ihr=>
   intro h hn
   simp only[Pats.size] at h
   have hx:=Pat.size_eq x
   have h1:=ih x.kids (by omega) (by omega)
   have h2:=ih r (by omega) (by omega)
   refine⟨?_,(Pat.ok_iff x).2 ⟨by have:=h1.1;omega,h1.2⟩,h2.2⟩
   have:∀l:List Pat,l.length≤Pats.size l:=by
    intro l
    induction l with
    |nil=>simp
    |cons y s ihs=>simp only[Pats.size,List.length_cons,Pat.size_eq];omega
   have:=this r
   simp only[List.length_cons];omega
theorem zre {v:Pat} (h:Pats.size v.kids≤1048576):v.ok:=by
 have:=Pats.ok_size _ _ (Nat.le_refl _) h
 exact(Pat.ok_iff v).2 ⟨by omega,this.2⟩
def bCl (c:Cl):Nat:=Pats.size c.pat.kids
theorem zuY (W:World):∀n,Dec Tryz.prog W n 71 (fun g:Gd=>[.i g.op,.i g.var,.i g.n]) (fun _=>0) (fun _=>True)
 |0=>Dec.zero
 |n+1=>Dec.map (fun p:Int×Int×Int×Unit=>(⟨p.1,p.2.1,p.2.2.1⟩:Gd)) (Dec.struct Tryz.underlying71 (by kernel_rfl) (DecF.cons (k:=1) (zc9 W n) rfl (by kernel_rfl) (DecF.cons (k:=1) (zc9 W n) rfl (by kernel_rfl) (DecF.cons (k:=1) (zc9 W n) rfl (by kernel_rfl) DecF.nil)))) (fun _=>rfl) (fun _=>Nat.zero_le _) (fun _ _=>trivial)
theorem zuU (W:World):∀n,Dec Tryz.prog W n 73 Cl.c bCl (fun _=>True)
 |0=>Dec.zero
 |n+1=>Dec.map (fun p:Pat×Gd×Unit=>(⟨p.1,p.2.1⟩:Cl)) (Dec.struct Tryz.underlying73 (by kernel_rfl) (DecF.cons (k:=6) (ztN W n) rfl (by kernel_rfl) (DecF.cons (k:=3) (zuY W n) rfl (by kernel_rfl) DecF.nil))) (fun _=>rfl) (fun p=>by simp only[bCl];omega) (fun _ _=>trivial)
theorem ztL (W:World):∀n,Dec Tryz.prog W n 25 (fun l:List Cl=>[zbO l]) (fun l=>sumM bCl l) (fun _=>True)
 |0=>Dec.zero
 |n+1=>Dec.map id (Dec.sl (k:=8) Tryz.underlying25 (by kernel_rfl) (fun _=>rfl) (zuU W n)) (fun _=>rfl) (fun l=>Nat.le_refl _) (fun _ _=>trivial)
theorem zmS {l:List Cl} (h:sumM bCl l≤1048576):ClsOk l∧ClsSz l:=by
 refine⟨⟨by have:=zfo bCl l;omega,fun c hc=>?_⟩,fun c hc=>?_⟩
 ·have h1:=zeE (m:=bCl) hc
  simp only[bCl] at h1
  exact zre (by omega)
 ·have h1:=zeE (m:=bCl) hc
  simp only[bCl] at h1
  rw[Pat.size_eq];omega
theorem zuV (W:World):∀n,Dec Tryz.prog W n 210 Ex.cc (fun v=>Exs.size v.kids) (fun _=>True):=by
 intro n
 induction n using Nat.strongRecOn with
 |_ n ih=>
  cases n with
  |zero=>exact Dec.zero
  |succ n=>
   have hk:Dec Tryz.prog W n 100 (fun l:List Ex=>[.sl (l.map Ex.cc)]) (fun l=>Exs.size l) (fun _=>True):=by
    cases n with
    |zero=>exact Dec.zero
    |succ n=>
     refine Dec.map id (Dec.sl (k:=3) Tryz.underlying100 (by kernel_rfl) (fun _=>rfl) (ih n (by omega))) (fun _=>rfl) (fun l=>?_) (fun _ _=>trivial)
     have:∀l:List Ex,Exs.size l≤sumM (fun v=>Exs.size v.kids) l:=by
      intro l
      induction l with
      |nil=>simp[Exs.size,sumM]
      |cons a r ih2=>simp only[Exs.size,sumM,Ex.size_eq];omega
     exact this l
   refine Dec.map (fun p:Int×Int×Int×List Ex×Unit=>Ex.mk p.1 p.2.1 p.2.2.1 p.2.2.2.1) (Dec.struct Tryz.underlying210 (by kernel_rfl) (DecF.cons (k:=1) (zc9 W n) rfl (by kernel_rfl) (DecF.cons (k:=1) (zc9 W n) rfl (by kernel_rfl) (DecF.cons (k:=1) (zc9 W n) rfl (by kernel_rfl) (DecF.cons (k:=1) hk rfl (by kernel_rfl) DecF.nil))))) (fun p=>?_) (fun p=>?_) (fun _ _=>trivial)
   ·show [D.i _,D.i _,D.i _,D.sl (Ex.cs _)]=_
    rw[show Ex.cs (Ex.mk p.1 p.2.1 p.2.2.1 p.2.2.2.1).kids=p.2.2.2.1.map Ex.cc by rw[Ex.cs_eq];exact List.map_congr_left (fun v _=>Ex.c_eq v)]
    rfl
   ·show Exs.size p.2.2.2.1≤0+1+(0+1+(0+1+(Exs.size p.2.2.2.1+1+0)))
    omega
theorem ztM (W:World):∀n,Dec Tryz.prog W n 100 (fun l:List Ex=>[zbi l]) (fun l=>Exs.size l) (fun _=>True)
 |0=>Dec.zero
 |n+1=>Dec.map id (Dec.sl (k:=3) Tryz.underlying100 (by kernel_rfl) (fun _=>rfl) (zuV W n)) (fun l=>by
   show [D.sl (Ex.cs l)]=_
   rw[show Ex.cs l=l.map Ex.cc by rw[Ex.cs_eq];exact List.map_congr_left (fun v _=>Ex.c_eq v)]) (fun l=>by
     have:∀l:List Ex,Exs.size l≤sumM (fun v=>Exs.size v.kids) l:=by
      intro l
      induction l with
      |nil=>simp[Exs.size,sumM]
      |cons a r ih2=>simp only[Exs.size,sumM,Ex.size_eq];omega
     exact this l) (fun _ _=>trivial)
theorem Exs.ok_size:∀(n:Nat) (l:List Ex),Exs.size l≤n→n≤1048576→l.length≤1048576∧Exs.ok l:=by
 intro n
 induction n with
 |zero=>
  intro l h hn
  cases l with
  |nil=>exact⟨by simp,trivial⟩
  |cons x r=>simp only[Exs.size,Ex.size_eq] at h;omega
 |succ n ih=>
  intro l
  induction l with
  |nil=>intro _ _;exact⟨by simp,trivial⟩
  |cons x r ihr=>
   intro h hn
   simp only[Exs.size] at h
   have hx:=Ex.size_eq x
   have h1:=ih x.kids (by omega) (by omega)
   have h2:=ih r (by omega) (by omega)
   refine⟨?_,(Ex.ok_iff x).2 ⟨by have:=h1.1;omega,h1.2⟩,h2.2⟩
   have:∀l:List Ex,l.length≤Exs.size l:=by
    intro l
    induction l with
    |nil=>simp
    |cons y s ihs=>simp only[Exs.size,List.length_cons,Ex.size_eq];omega
   have:=this r
   simp only[List.length_cons];omega
theorem ziP {e:Ex}:∀ {l:List Ex},e∈l→e.size≤Exs.size l
 |a::r,h=>by
  simp only[Exs.size]
  rcases List.mem_cons.1 h with rfl|h
  ·omega
  ·have:=ziP h;omega
def bFu (f:Fu):Nat:=sumM bCl f.cls+Exs.size f.bodies
theorem zuW (W:World):∀n,Dec Tryz.prog W n 99 Ft.c (fun _=>0) (fun _=>True)
 |0=>Dec.zero
 |n+1=>Dec.map (fun p:Ty×Ty×Unit=>(⟨p.1,p.2.1⟩:Ft)) (Dec.struct Tryz.underlying99 (by kernel_rfl) (DecF.cons (k:=2) (zp1 W n) rfl (by kernel_rfl) (DecF.cons (k:=2) (zp1 W n) rfl (by kernel_rfl) DecF.nil))) (fun _=>rfl) (fun _=>Nat.zero_le _) (fun _ _=>trivial)
theorem zuX (W:World):∀n,Dec Tryz.prog W n 102 Fu.c bFu (fun _=>True)
 |0=>Dec.zero
 |n+1=>Dec.map (fun p:Ft×List Cl×List Ex×Unit=>(⟨p.1,p.2.1,p.2.2.1⟩:Fu)) (Dec.struct Tryz.underlying102 (by kernel_rfl) (DecF.cons (k:=4) (zuW W n) rfl (by kernel_rfl) (DecF.cons (k:=1) (ztL W n) rfl (by kernel_rfl) (DecF.cons (k:=1) (ztM W n) rfl (by kernel_rfl) DecF.nil)))) (fun _=>rfl) (fun p=>by simp only[bFu];omega) (fun _ _=>trivial)
theorem zq7 {l:List Fu}{N:Nat} (h:sumM bFu l≤N) (hN:N≤1048576):FusOk l∧FusSz l:=by
 have key:∀f∈l,sumM bCl f.cls≤1048576∧Exs.size f.bodies≤1048576:=fun f hf=>by
  have h1:=zeE (m:=bFu) hf
  simp only[bFu] at h1
  omega
 refine⟨⟨by have:=zfo bFu l;omega,fun f hf=>?_⟩,fun f hf=>?_⟩
 ·have h1:=key f hf
  have h2:=Exs.ok_size _ _ h1.2 (Nat.le_refl _)
  exact⟨(zmS h1.1).1,by omega,h2.2⟩
 ·have h1:=key f hf
  exact⟨(zmS h1.1).2,fun e he=>by have:=ziP he;omega⟩
end Go.Proofs.YtfiihhedihkdoaaGreat
namespace Go.Proofs.YtfiihhedihkdoaaGreat.fnExactTotalFuns
open Go Go.ChangeShapes Go.WideShapes Go.ChangeAt Go.RowKit
set_option linter.unusedSimpArgs false
set_option linter.unusedVariables false
theorem own:ownKnob Tryz.prog.godebug=none:=by kernel_rfl
theorem laidOut:laidOutB Tryz.prog=true:=by kernel_rfl
set_option maxRecDepth 100000 in
theorem contract (H:Type) (enc:TypeId×Value→H) (W:World) (base:Nat) (args:Array Value) (ds gs:List (DataW H)) (before:List MemPlace)
  (hval:∀(j:Nat) t v,Tryz.f4.params[j]?=some t→args[j]?=some v→Value.okWide Tryz.prog W .any base t v)
  (hW:DataW.Whole enc Tryz.prog Tryz.f4.params.toList Rows.fnExactTotalFunsSpec.vars false W args.toList ds gs before) (hk:Rows.uptoSmall H (ds++gs)=true):
  Calls Tryz.prog 4 args W fun e W'=>∃v,e = .returned v∧Rows.fnExactTotalFunsSpec.post enc Tryz.prog Tryz.f4 false true false false W args v W':=by
 have hb:=zrC hk
 have hW':=hW
 obtain⟨p,q,hA0,hV,rfl,hfz,hnd⟩:=hW
 have hA:DataW.TrodAll enc Tryz.prog W 0 (fun _=>true) true Tryz.f4.params.toList args.toList ds p:=hA0
 rw[Tryz.params4] at hA hval
 obtain⟨v0,vs0,d0,ds0,p0,q0,hargs,rfl,rfl,h0,r0⟩:=trodAll_cons hA
 obtain⟨v1,vs1,d1,ds1,p1,q1,rfl,rfl,rfl,h1,r1⟩:=trodAll_cons r0
 obtain⟨rfl,rfl,rfl⟩:=trodAll_nil r1
 obtain rfl:args = #[v0,v1]:=by cases args;simp_all
 obtain⟨rfl,rfl⟩:=trodVars_none hV
 simp only[List.append_nil,Rows.uptoBulkAll] at hb
 obtain⟨w,a0,b0,_⟩:=zqq (k:=1) Tryz.underlying22 (by kernel_rfl) (fun _=>rfl) (zsH W) (hval 0 _ v0 rfl rfl) h0
 obtain⟨l,a1,b1,_⟩:=zqq (k:=5) Tryz.underlying44 (by kernel_rfl) (fun _=>rfl) (zuX W) (hval 1 _ v1 rfl rfl) h1
 have hs:WSmall w:=zry b0 (by omega)
 obtain⟨ok_l,sz_l⟩:=zq7 (l:=l) (N:=1048576) (by omega) (Nat.le_refl _)
 refine(zq9 ((zgJ hs ok_l sz_l)) (W:=W) (args:=#[v0,v1]) (fun G T hG=>⟨rfl,fun i hi hv=>?_⟩)).mono ?_
 ·match i,hi with
  |0,_=>exact a0 G T hG
  |1,_=>exact a1 G T hG
 ·rintro e W' ⟨v,G',rfl,hr,hbelow⟩
  obtain rfl:=hr.bool_true
  exact⟨_,rfl,zrK hW' rfl rfl Tryz.underlying4 rfl laidOut (fun t ht=>by
   simp only[Tryz.params4,List.mem_cons,List.not_mem_nil,or_false] at ht
   rcases ht with rfl|rfl<;>exact⟨by kernel_rfl,of_decide_eq_true (by kernel_rfl)⟩) hbelow⟩
set_option maxRecDepth 100000 in
theorem lifted (os:Os) (started:os.Started) (H:Type) (enc:TypeId×Value→H) (F:Stop.Interp):
  ReturnsInHanded {} Tryz.checked os 4 .any ((Rows.OpenSpec.upto Rows.fnExactTotalFunsSpec).pre6 enc Tryz.prog Tryz.f4 Rows.fnExactTotalFunsUptoRow.domain false) (((Rows.OpenSpec.upto Rows.fnExactTotalFunsSpec).at F).post enc Tryz.prog Tryz.f4 false true false false):=by
 refine returnsInHanded_of_cond (C:=Tryz.checked) (s:=Rows.OpenSpec.upto Rows.fnExactTotalFunsSpec) (k:=Rows.uptoSmall) rfl own started (by kernel_rfl) Tryz.func4
  (OpenSpec.witness (enc:=enc) (C:=Tryz.checked) (s:=Rows.OpenSpec.upto Rows.fnExactTotalFunsSpec) (k:=Rows.uptoSmall) rfl false ⟨#[],#[.slice none 0 0,.slice none 0 0],[]⟩ 8 (by kernel_rfl) (by kernel_rfl) (by kernel_rfl)
   (x:=([.nil,.nil],[],[])) (by kernel_rfl) rfl (by kernel_rfl)) ?_
 intro W base args ds gs before hval hW _ hk _
 exact contract H enc W base args ds gs before hval hW hk
theorem kf1:(Rows.fnExactTotalFunsUptoRow.inPlace == Tryz.pinned.checked.prog.inPlace 4)=true:=by kernel_rfl
theorem kf2:(Rows.fnExactTotalFunsUptoRow.unfollowed == Tryz.pinned.checked.prog.unfollowed 4)=true:=by kernel_rfl
theorem kf3:(Rows.fnExactTotalFunsUptoRow.recurses == Tryz.pinned.checked.prog.recurses 4)=true:=by kernel_rfl
theorem kf4:(Rows.fnExactTotalFunsUptoRow.named == Tryz.pinned.checked.prog.varsNamed 4)=true:=by kernel_rfl
theorem kf5:laidOutB Tryz.pinned.checked.prog=true:=by kernel_rfl
theorem kf6:mapsRowed Tryz.pinned.checked.prog=true:=by kernel_rfl
theorem kf7:Tryz.pinned.checked.prog.stopsHeard=true:=by kernel_rfl
theorem kf8:Tryz.pinned.checked.prog.mayEnter=true:=by kernel_rfl
theorem kf9:(Rows.fnExactTotalFunsUptoRow.lifted == Tryz.pinned.checked.prog.liftsFinal)=true:=by kernel_rfl
theorem kf0:(Rows.fnExactTotalFunsUptoRow.plainKeys == Tryz.pinned.checked.prog.plainKeys)=true:=by kernel_rfl
theorem facts:joinedFacts Tryz.pinned.checked.prog 4 Tryz.f4 (Rows.OpenSpec.upto Rows.fnExactTotalFunsSpec).bare Rows.fnExactTotalFunsUptoRow=true:=by
 unfold joinedFacts
 rw[kf1,kf2,kf3,kf4,kf5,kf6,kf7,kf8,kf9,kf0]
 kernel_rfl
theorem named:Tryz.pinned.checked.prog.funcNamed Rows.fnExactTotalFunsUptoRow.func=some 4:=by kernel_rfl
theorem over:Rows.fnExactTotalFunsUptoRow.holds Tryz.pinned (Rows.OpenSpec.upto Rows.fnExactTotalFunsSpec):=
 OpenClaim.holds_of_cond 4 Tryz.f4 rfl rfl rfl rfl rfl rfl rfl ⟨rfl,rfl,rfl,rfl,rfl⟩ rfl rfl rfl rfl rfl named Tryz.func4 facts
  (of_decide_eq_true (by as_aux_lemma=>kernel_rfl)) (by as_aux_lemma=>unfold Func.isWrapper;first|(rw[if_pos (by decide +kernel)];kernel_rfl)|(rw[if_neg (by decide +kernel)];exact⟨rfl,rfl⟩))
  (fun os started H enc _ F=>lifted os started H enc F)
theorem proved:Rows.FnExactTotalFunsUptoSaid:=over
end Go.Proofs.YtfiihhedihkdoaaGreat.fnExactTotalFuns
