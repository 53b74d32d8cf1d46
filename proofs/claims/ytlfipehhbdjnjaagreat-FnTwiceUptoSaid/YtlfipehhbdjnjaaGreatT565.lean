/-
  THE ABSTRACT WALK AND THE WALKS, part 5 of 6: the parts F80, F81, F110, F113, F120, F73, F82, F83, F84, G5, F122, F130, F123, F121, F126, F115, F132, F129, F133, F131, F134, F112, F135, L9, L10, L56.
-/
import Derived.Test.YtlfipehhbdjnjaaGreatT564
namespace Go.Proofs.YtlfipehhbdjnjaaGreat
open Go
set_option linter.unusedSimpArgs false
set_option linter.unusedVariables false
set_option maxRecDepth 100000
set_option maxHeartbeats 2000000
theorem zey {xs:List Pat}{f:Nat}{B2 B3:List AV}{p:Pat->Bool} (hs:xs.length<=1000000000000) (hcal:Callee Tryz.prog f) (hB2:AV.idsL B2=[]) (hB3:AV.idsL B3=[])
  (hf:∀t∈xs,FnD Tryz.prog f [.agg [.d (.i t.op),.d (.i t.ctor),.d (.i t.n),.d (.i t.m),.d (.i t.var),.d (zad t.kids)],.ref 3003 0,.ref 3004 0] [(3003,some (.box B2)),(3004,some (.box B3))] (.d (.bool (p t))) []):
  FnD Tryz.prog 249 [.ms 1 xs.length,.fn f [.ref 3003 0,.ref 3004 0]] [(1,some (.box (pd xs))),(3003,some (.box B2)),(3004,some (.box B3))] (.d (.i (idxF p xs 0))) []:=by
 refine bd Tryz.f249 19 [15] [] fun w0 F0 own kept hk=>?_;refine xak (ι:=Nat) hk (fun i=>[(8,.d (.i (i:Int)))]) [4,5,9,10,11,12,13,14,15,16,17,18] (fun i=>[]) (fun i=>i<=xs.length/\idxF p (xs.drop i) i=idxF p xs 0) (fun i=>xs.length-i) 0 ⟨by omega,rfl⟩ ⟨⟨_,rfl,xaq ?_⟩,trivial⟩ trivial (fun x=>rfl) (fun i hg1=>?_);focus (rfl)
 refine evc [15] [] ?_;refine sq ?_ ?_<;>intro h1 h1p h1s<;>(try simp only[Q] at h1p);refine xaW sl34 .none rfl rfl rfl rfl (by first|omega|(simp ;omega)) ?_;refine xa1 ty36 .none rfl rfl rfl ((ztE (by omega))) ?_;refine xaH (cr:=[]) hcal (hf (nth xs i) (zac (by omega))) rfl .none rfl rfl rfl (LeL.refl _) ⟨rfl,rfl,trivial⟩ rfl (by simp only[zaV,List.all_cons,List.all_nil,zbG,zbs,AV.idsL,AV.ids,hB2,hB3,xae,List.map_nil];rfl) rfl ?_;refine tv ?_;refine sq ?_ ?_<;>intro h2 h2p h2s<;>(try simp only[Q] at h2p);focus (refine rn [] (r1 rfl) (.eqd ?_) ⟨rfl,rfl⟩ (SubH.get ⟨rfl,⟨rfl,⟨rfl,trivial⟩⟩⟩) (fun _ h=>h);all_goals ((rw[<-hg1.2,zaS (by omega)];simp[idxF,h1s,h1p,h2s,h2p];done)))
 refine ar ?_;refine xah (i+1) ⟨⟨by omega,(by rw[<-hg1.2,zaS (l:=xs) (i:=i) (by omega)];simp_all[idxF])⟩,(by omega),sx ⟨⟨_,rfl,xaq ?_⟩,trivial⟩ trivial⟩;focus (rfl)
 focus (refine rn [] (r1 rfl) (.eqd ?_) ⟨rfl,rfl⟩ (SubH.get ⟨rfl,⟨rfl,⟨rfl,trivial⟩⟩⟩) (fun _ h=>h);all_goals ((rw[<-hg1.2,List.drop_eq_nil_of_le (by omega)];rfl)))
theorem zhh {xs:List Pat}{f:Nat}{B2 B3:List AV}{p:Pat->Bool} (hs:xs.length<=1000000000000) (hcal:Callee Tryz.prog f) (hB2:AV.idsL B2=[]) (hB3:AV.idsL B3=[])
  (hf:∀t∈xs,FnD Tryz.prog f [.agg [.d (.i t.op),.d (.i t.ctor),.d (.i t.n),.d (.i t.m),.d (.i t.var),.d (zad t.kids)],.ref 3003 0,.ref 3004 0] [(3003,some (.box B2)),(3004,some (.box B3))] (.d (.bool (p t))) []):
  ∃tl:List AV,AV.idsL tl=[]/\FnD Tryz.prog 241 [.ms 1 xs.length,.fn f [.ref 3003 0,.ref 3004 0]] [(1,some (.box (pd xs))),(3003,some (.box B2)),(3004,some (.box B3))]
   (.ms 1 (xs.filter fun t=> !p t).length) [(1,some (.box (pd (xs.filter fun t=> !p t)++tl)))]:=by
 have hok3:zaV [(1,some (.box (pd xs))),(3003,some (.box B2)),(3004,some (.box B3))] [] (.d .nilp) []=true:=by
  simp only[zaV,List.all_cons,List.all_nil,zbG,zbs,AV.idsL,AV.ids,zie,hB2,hB3,xae,List.map_nil];rfl
 rcases zoj p xs 0 with ⟨hi,hall⟩|⟨k,hi,hk1,hk2⟩
 ·have hfil:(xs.filter fun t=> !p t)=xs:=List.filter_eq_self.2 (fun x hx=>by simp[hall x hx]);refine⟨[],rfl, ?_⟩;rw[hfil,List.append_nil];refine bd Tryz.f241 42 [] [] fun w0 F0 own kept hk=>?_;refine Walk.call (cr:=[]) zlM (zey hs hcal hB2 hB3 hf) rfl .none rfl rfl (.cons (xas (by first|rfl|(simp;done))) (.cons (.refl _) .nil)) ⟨rfl,rfl,rfl,trivial⟩ rfl (zcS hok3 _) rfl ?_;refine ev ?_;refine sq ?_ ?_<;>intro h1 h1p h1s<;>(try simp only[Q] at h1p);refine rn [(1,some (.box (pd xs)))] (r1 rfl) (.refl _) ⟨rfl,rfl⟩ (SubO.get ⟨.inr ?_,⟨.inl rfl,⟨.inr rfl,⟨.inr rfl,trivial⟩⟩⟩⟩) (zaC rfl);rotate_left;exfalso;simp[hi] at h1;all_goals (((first|rfl|(simp;done));done))
 ·skip
  have hlen:(xs.filter fun t=> !p t).length<=xs.length:=List.length_filter_le _ _;refine⟨zbb (xs.length-(xs.filter fun t=> !p t).length) z6,ziY rfl, ?_⟩;refine bd Tryz.f241 42 [25] [] fun w0 F0 own kept hk=>?_;refine Walk.call (cr:=[]) zlM (zey hs hcal hB2 hB3 hf) rfl .none rfl rfl (.cons (xas (by first|rfl|(simp;done))) (.cons (.refl _) .nil)) ⟨rfl,rfl,rfl,trivial⟩ rfl (zcS hok3 _) rfl ?_;refine evs [25] [] ?_;refine sq ?_ ?_<;>intro h1 h1p h1s<;>(try simp only[Q] at h1p);exfalso;simp[hi] at h1<;>omega;refine ar ?_;refine xak (ι:=List Pat×Nat×Nat) hk (fun x=>[(6,.d (.i (x.2.1:Int))),(5,.d (.i (x.2.2:Int)))]) [7,16,17,18,19,20,21,22,23,24,25,26,27,28,29,30,31,32,33,34,35] (fun x=>[(1,some (.box (pd x.1)))]) (fun x=>x.1.length=xs.length/\x.2.1<=xs.length/\x.2.2<=x.2.1/\x.1.take x.2.2=(xs.take x.2.1).filter (fun t=> !p t)/\x.1.drop x.2.1=xs.drop x.2.1) (fun x=>xs.length-x.2.1) (xs,k+1,k) ⟨rfl,by dsimp only;omega,by dsimp only;omega,hk2.symm,rfl⟩ ⟨⟨_,rfl,xaq ?_⟩,⟨⟨_,rfl,xaq ?_⟩,trivial⟩⟩ ⟨?_,trivial⟩ (fun x=>rfl) (fun x hg1=>?_);iterate 2 focus ((simp_all;done))
  focus (rfl)
  refine evc [25] [] ?_;refine sq ?_ ?_<;>intro h2 h2p h2s<;>(try simp only[Q] at h2p);refine xaW sl34 .none rfl rfl rfl rfl (by first|omega|(simp ;omega)) ?_;refine xa1 ty36 .none rfl rfl rfl (((ztE (s:=x.1) (by omega)).trans (by rw[zq2 hg1.2.2.2.2 hg1.1 (by omega)]))) ?_;refine Walk.alloc (id:=3007) tz36 rfl .none rfl (by(simp only[zax,occH,occE,Res.ids,xag,List.nil_append,AV.idsL,AV.ids,zah,zai,zaq,zaJ,xae,List.map_nil,upC,hB2,hB3,zie];rfl)) (by(simp only[zax,occH,occE,Res.ids,xag,List.nil_append,AV.idsL,AV.ids,zah,zai,zaq,zaJ,xae,List.map_nil,upC,hB2,hB3,zie];rfl)) (by(simp only[zax,occH,occE,Res.ids,xag,List.nil_append,AV.idsL,AV.ids,zah,zai,zaq,zaJ,xae,List.map_nil,upC,hB2,hB3,zie];rfl)) ?_;refine so ty36 ?_;refine tv ?_;refine xaH (cr:=[]) hcal (hf (nth xs x.2.1) (zac (by omega))) rfl .none rfl rfl rfl (LeL.refl _) ⟨rfl,rfl,trivial⟩ rfl (by simp only[zaV,List.all_cons,List.all_nil,zbG,zbs,AV.idsL,AV.ids,hB2,hB3,xae,List.map_nil];rfl) rfl ?_;refine evs [25] [] ?_;refine sq ?_ ?_<;>intro h3 h3p h3s<;>(try simp only[Q] at h3p);refine xaW sl34 .none rfl rfl rfl rfl (by first|omega|(simp ;omega)) ?_;refine Walk.store ty36 .none rfl rfl rfl rfl rfl rfl (by simp) ((zxy (by omega))) ?_;refine tv ?_;refine ar ?_;refine ar ?_;refine xah ((if p (nth xs x.2.1) then x.1 else x.1.set x.2.2 (nth xs x.2.1),x.2.1+1,if p (nth xs x.2.1) then x.2.2 else x.2.2+1)) ⟨(by
      obtain⟨g1,g2,g3,g4,g5⟩:=hg1;have hlt:x.2.1<xs.length:=by omega
      have h7:=zgV (p:=fun t=> !p t) hlt;refine⟨by dsimp only;split<;>simp[g1],by dsimp only;omega,by dsimp only;split<;>omega, ?_, ?_⟩
      ·dsimp only;rw[h7,<-g4];cases hp:p (nth xs x.2.1) with
       |true=>simp
       |false=>simp only[Bool.false_eq_true,if_false,Bool.not_false,if_true];rw[zi9 (by omega)]
      ·dsimp only;split
       ·exact zhl g5
       ·(rw[zoP g3];exact zhl g5)),(by dsimp only;omega),sx ⟨⟨_,rfl,xaq ?_⟩,⟨⟨_,rfl,xaq ?_⟩,trivial⟩⟩ ⟨?_,trivial⟩⟩
  iterate 2 focus ((simp_all;done))
  focus ((show some (Res.box _)=some (Res.box _);dsimp only;split<;>first|rfl|(exfalso;simp_all;done)))
  refine ar ?_;refine xah ((if p (nth xs x.2.1) then x.1 else x.1.set x.2.2 (nth xs x.2.1),x.2.1+1,if p (nth xs x.2.1) then x.2.2 else x.2.2+1)) ⟨(by
      obtain⟨g1,g2,g3,g4,g5⟩:=hg1;have hlt:x.2.1<xs.length:=by omega
      have h7:=zgV (p:=fun t=> !p t) hlt;refine⟨by dsimp only;split<;>simp[g1],by dsimp only;omega,by dsimp only;split<;>omega, ?_, ?_⟩
      ·dsimp only;rw[h7,<-g4];cases hp:p (nth xs x.2.1) with
       |true=>simp
       |false=>simp only[Bool.false_eq_true,if_false,Bool.not_false,if_true];rw[zi9 (by omega)]
      ·dsimp only;split
       ·exact zhl g5
       ·exact zhl g5),(by dsimp only;omega),sx ⟨⟨_,rfl,xaq ?_⟩,⟨⟨_,rfl,xaq ?_⟩,trivial⟩⟩ ⟨?_,trivial⟩⟩
  iterate 2 focus ((simp_all;done))
  focus ((show some (Res.box _)=some (Res.box _);dsimp only;split<;>first|rfl|(exfalso;simp_all;done)))
  refine Walk.cutM_l sl34 .none rfl rfl rfl rfl (by omega) ?_;refine Walk.clearB sl34 tz36 rfl (by decide) rfl .none rfl rfl (zv4 hg1.1 (by omega)) ?_;refine tv ?_;refine Walk.cutM_h sl34 .none rfl rfl rfl rfl (by omega) ?_;refine evs [25] [] ?_;refine rn [(1,some (.box (pd (xs.filter fun t=> !p t)++zbb (xs.length-(xs.filter fun t=> !p t).length) z6)))] (r1 rfl) (xas ?_) ⟨rfl,rfl⟩ (SubO.get ⟨.inr ?_,⟨.inl rfl,⟨.inr rfl,⟨.inr rfl,trivial⟩⟩⟩⟩) (zaC rfl);rotate_left 2;all_goals (first|((first|rfl|(obtain⟨g1,g2,g3,g4,g5⟩:=hg1;have e:x.2.1=xs.length:=(by omega);rw[e,List.take_length] at g4;rw[<-g4,List.length_take];omega));done)|((obtain⟨g1,g2,g3,g4,g5⟩:=hg1;have e:x.2.1=xs.length:=(by omega);rw[e,List.take_length] at g4;have e2:(xs.filter fun t=> !p t).length=x.2.2:=(by rw[<-g4,List.length_take];omega);rw[e2,<-g4];rfl)))
theorem zgx {f:Nat}{caps:List AV}{hp:Hp} (hcal:Callee Tryz.prog f) (k1:subH hp hp) (k2:zdH hp=true) (k3:zaV hp [] (.d .nilp) []=true):
  FnD Tryz.prog 241 [.d (.sl []),.fn f caps] hp (.d (.sl [])) []:=by
 have hz:=zep (xs:=[]) (p:=fun _=>false) (f:=f) (caps:=caps) (hp:=hp) (by simp) hcal (fun t ht=>by simp at ht) k1 k2 k3;refine bd Tryz.f241 42 [] [] fun w0 F0 own kept hk=>?_;refine Walk.call (cr:=[]) zlM (hz) rfl .none rfl rfl (LeL.refl _) k1 k2 (zcS k3 _) rfl ?_;refine ev ?_;refine sq ?_ ?_<;>intro h1 h1p h1s<;>(try simp only[Q] at h1p);focus (refine rn [] (r1 rfl) (.eqd ?_) ⟨rfl,rfl⟩ (fun _ _ h=>h) (fun _ h=>h);all_goals (rfl))
 exfalso;simp[idxF] at h1
theorem zjY {xs:List Pat} (hs:xs.length<=1000000000000) (hne:xs≠[]):FnD Tryz.prog 242 [.d (zad xs)] [] (.ms 1 xs.length) [(1,some (.box (pd xs)))]:=by
 have hcs:Pat.cs xs≠[]:=fun h=>hne ((Pat.cs_nil xs).1 h);refine Fn.body (fn:=Tryz.f242) (n:=8) rfl rfl rfl rfl rfl (fun w0 F0 own kept hk=>?_);refine xam 0 rfl (fun hx0=>?_) ?_;refine evc [4] [] ?_;refine xaR sl34 .none rfl rfl ?_;refine tv ?_;refine sqT ?_;exfalso;exact hcs hx0;refine evc [4] [] ?_;refine xaQ sl34 .none rfl rfl ?_;refine tv ?_;refine sqF ?_;refine xbh 1 sl34 .none rfl rfl ?_;refine evs [4] [] ?_;refine xaB hk rfl (by simp[hcs]) sl34 zz36 .none rfl rfl rfl rfl (zcW rfl (by rfl)) (by intro y hy;rw[xat] at hy;obtain⟨z,_,rfl⟩:=List.mem_map.1 hy;rfl) (by simp[Pat.cs_len];omega) (by simp[Pat.cs_len];omega) ?_;refine evs [4] [] ?_;refine rn [(1,some (.box (pd xs)))] (r1 rfl) (xas ?_) ⟨rfl,rfl⟩ (SubH.get ⟨?_,trivial⟩) (zaC rfl);rotate_left 2;all_goals (first|((first|rfl|(simp[Pat.cs_len];done));done)|(first|rfl|(show some (Res.box _)=some (Res.box _);unfold pd;rw[<-xat];rfl)))
theorem zlc {w:List Data} (hs:Spa w){ta tk:Int} (ht:InS (w.length*4) ⟨ta,tk⟩){p:Pat} (hp:zae w 11 ⟨ta,tk⟩ p=true):
  FnD Tryz.prog 243 [.agg [.d (.i p.op),.d (.i p.ctor),.d (.i p.n),.d (.i p.m),.d (.i p.var),.d (zad p.kids)],.ref 3003 0,.ref 3004 0] [(3003,some (.box [.d (sPtr w (zal w))])),(3004,some (.box [.d (.i ta),.d (.i tk)]))] (.d (.bool (zaQ w (zal w) 11 ⟨ta,tk⟩ p))) []:=by
 refine bd Tryz.f243 9 [] [] fun w0 F0 own kept hk=>?_;refine bx 3001 ?_;refine ev ?_;refine wc zis (zcC hs.dp 11 (zgs _ hp) ht (zid hs 11 ht hp).1) rfl rfl ?_;refine ev ?_;focus (refine rn [] (r1 rfl) (.eqd ?_) ⟨rfl,rfl⟩ (SubH.get ⟨rfl,⟨rfl,trivial⟩⟩) (fun _ h=>h);all_goals (rfl))
theorem zh7 {w:List Data} (hs:Spa w){ta tk:Int} (ht:InS (w.length*4) ⟨ta,tk⟩){l:List Pat} (hl:∀a∈l,zae w 11 ⟨ta,tk⟩ a=true) (hb:l.length<=1000000000000):
  FnD Tryz.prog 151 [.d (sPtr w (zal w)),.agg [.d (.i ta),.d (.i tk)],.d (zad l)] [] (.d (zad (l.filter (zbh w ⟨ta,tk⟩)))) []:=by
 by_cases hne:l=[]
 ·subst hne;have hcl:FnD Tryz.prog 242 [.d (.sl [])] [] (.d (.sl [])) []:=(zfs (xs:=[]) (by simp)).glD;refine bd Tryz.f151 11 [] [] fun w0 F0 own kept hk=>?_;refine bx 3003 ?_;refine bx 3004 ?_;refine ev ?_;refine wc zpo (hcl) rfl rfl ?_;refine xaJ (xs:=[_,_]) rfl .none rfl rfl ?_;refine Walk.call (cr:=[]) zsQ (zgx (hp:=[(3003,some (.box [.d (sPtr w (zal w))])),(3004,some (.box [.d (.i ta),.d (.i tk)]))]) zsR ⟨rfl,rfl,trivial⟩ rfl rfl) rfl .none rfl rfl (LeL.refl _) ⟨rfl,rfl,trivial⟩ rfl rfl rfl ?_;refine ev ?_;focus (refine rq ?_;all_goals (rfl))
 ·obtain⟨tl,htl,hdel⟩:=zhh (xs:=l) (p:=fun a=>zaQ w (zal w) 11 ⟨ta,tk⟩ a) hb zsR (B2:=[.d (sPtr w (zal w))]) (B3:=[.d (.i ta),.d (.i tk)]) rfl rfl (fun a ha=>zlc hs ht (hl a ha));have key:FnD Tryz.prog 151 [.d (sPtr w (zal w)),.agg [.d (.i ta),.d (.i tk)],.d (zad l)] [] (.ms 1 (l.filter (zbh w ⟨ta,tk⟩)).length) [(1,some (.box (pd (l.filter (zbh w ⟨ta,tk⟩))++tl)))]:=by
   refine bd Tryz.f151 11 [] [] fun w0 F0 own kept hk=>?_;refine bx 3003 ?_;refine bx 3004 ?_;refine ev ?_;refine Walk.call (cr:=[1]) zpo (zjY hb hne) rfl .none rfl rfl (LeL.refl _) trivial rfl (by simp only[zaV,List.all_cons,List.all_nil,zbG,zbs,AV.idsL,AV.ids,zie,zah,htl,xae,List.map_nil];rfl) rfl ?_;refine xaJ (xs:=[_,_]) rfl .none rfl rfl ?_;refine Walk.call (cr:=[]) zsQ (hdel) rfl .none rfl rfl (.cons (xas (by first|rfl|(simp;done))) (.cons (.refl _) .nil)) ⟨rfl,rfl,rfl,trivial⟩ rfl (by simp only[zaV,List.all_cons,List.all_nil,zbG,zbs,AV.idsL,AV.ids,zie,zah,htl,xae,List.map_nil];rfl) rfl ?_;refine ev ?_;refine rn [(1,some (.box (pd (l.filter (zbh w ⟨ta,tk⟩))++tl)))] (r1 rfl) (xas ?_) ⟨rfl,rfl⟩ (SubH.get ⟨?_,trivial⟩) (zaC rfl);rotate_left 2;all_goals (first|((rfl);done)|(rfl))
  have h2:=key.boxD (k:=6) zuC;rw[<-xat] at h2;exact h2
theorem znn {α β:Type}{g:α->List β}{K:Nat}:∀(l:List α),(∀x∈l,(g x).length<=K)->(l.flatMap g).length<=l.length*K
 | [],_=>by simp
 |x::r,h=>by
  have h1:=h x (by simp);have h2:=znn r (fun y hy=>h y (by simp[hy]));rw[List.flatMap_cons,xaa,xab,Nat.add_mul];omega
theorem zf6 {w:List Data}{t:Ty}{l away:List Pat}{i:Nat} (h:i<away.length):subL w t l (away.drop i)=if (zbR w t l (nth away i)).length<=400 then subL w t (zbR w t l (nth away i)) (away.drop (i+1)) else none:=by
 rw[zaS h,subL]
theorem zqC {w:List Data}{t:Ty}{l away:List Pat}{i:Nat} (h:away.length<=i):subL w t l (away.drop i)=some l:=by
 rw[List.drop_eq_nil_of_le h,subL]
def za1:List Cl->List Pat->Option (List Pat)
 | [],out=>some out
 |c::r,out=>if c.g.op=0 then (if zbi c.pat=true then za1 r (out++zbk c.pat) else none) else za1 r out
theorem zhP {l:List Cl}{out:List Pat}{i:Nat} (h:i<l.length) (hg:¬(nth l i).g.op=0):za1 (l.drop i) out=za1 (l.drop (i+1)) out:=by
 rw[zaS h,za1,if_neg hg]
theorem zhO {l:List Cl}{out:List Pat}{i:Nat} (h:i<l.length) (hg:(nth l i).g.op=0) (hp:zbi (nth l i).pat=true):za1 (l.drop i) out=za1 (l.drop (i+1)) (out++zbk (nth l i).pat):=by
 rw[zaS h,za1,if_pos hg,if_pos hp]
theorem zlW {l:List Cl}{out:List Pat}{i:Nat} (h:i<l.length) (hg:(nth l i).g.op=0) (hp:zbi (nth l i).pat=false):za1 (l.drop i) out=none:=by
 rw[zaS h,za1,if_pos hg,if_neg (by rw[hp];simp)]
theorem zlX {l:List Cl}{out:List Pat}{i:Nat} (h:l.length<=i):za1 (l.drop i) out=some out:=by
 rw[List.drop_eq_nil_of_le h,za1]
theorem zek (p:Pat):(zbk p).length<=40:=by unfold zbk;split;assumption;simp
theorem zew {w:List Data}{t:Ty}{p:Pat} (h:zas w 10 t p=true):∀x∈zbk p,zae w 10 t x=true:=fun x hx=>by
 unfold zbk at hx;split at hx
 ·exact zfC 10 h x hx
 ·simp at hx
theorem zeu {w:List Data}{t:Ty}:∀(l:List Cl) (out r:List Pat),(∀c∈l,zas w 10 t c.pat=true)->(∀x∈out,zae w 10 t x=true)->za1 l out=some r->r.length<=out.length+40*l.length/\∀x∈r,zae w 10 t x=true
 | [],out,r,_,ho,h=>by rw[za1] at h;cases h;exact⟨by simp,ho⟩
 |c::l,out,r,hc,ho,h=>by
  rw[za1] at h;split at h
  ·split at h
   ·have:=zeu l _ r (fun x hx=>hc x (by simp[hx])) (fun x hx=>by
     rcases List.mem_append.1 hx with hx|hx
     ·exact ho x hx
     ·exact zew (hc c (by simp)) x hx) h
    have hl:=zek c.pat;rw[xaa] at this;exact⟨by rw[xab];omega,this.2⟩
   ·cases h
  ·have:=zeu l _ r (fun x hx=>hc x (by simp[hx])) ho h;exact⟨by rw[xab];omega,this.2⟩
theorem zeC {w:List Data}{t:Ty}:∀(away l r:List Pat),(∀a∈l,zae w 11 t a=true)->l.length<=400->(∀b∈away,zae w 10 t b=true)->subL w t l away=some r->r.length<=400/\∀x∈r,zae w 11 t x=true
 | [],l,r,hl,hn,_,h=>by rw[subL] at h;cases h;exact⟨hn,hl⟩
 |b::away,l,r,hl,hn,hb,h=>by
  rw[subL] at h;split at h
  ·rename_i h4;exact zeC away _ r (zei hl (hb b (by simp))) h4 (fun x hx=>hb x (by simp[hx])) h
  ·cases h
theorem zhs {w:List Data} (hs:Spa w){ta tk:Int} (ht:InS (w.length*4) ⟨ta,tk⟩){l away:List Pat} (hl:∀a∈l,zae w 11 ⟨ta,tk⟩ a=true) (hb:∀b∈away,zae w 10 ⟨ta,tk⟩ b=true) (hll:l.length<=400) (hal:away.length<=2000):
  FnD Tryz.prog 75 [.d (sPtr w (zal w)),.agg [.d (.i ta),.d (.i tk)],.d (zad l),.d (zad away)] [] (.tup [.d (zad ((zay w ⟨ta,tk⟩ l away).getD [])),.d (.bool (zay w ⟨ta,tk⟩ l away).isSome)]) []:=by
 have hlf:(l.filter (zbh w ⟨ta,tk⟩)).length<=l.length:=List.length_filter_le _ _;have hmb:∀(c:List Pat) (i:Nat),(∀a∈c,zae w 11 ⟨ta,tk⟩ a=true)->i<away.length->∀x∈c,(zat w 10 ⟨ta,tk⟩ x (nth away i)).length<=20000000:=fun c i hc hi x hx=>zfA hs (by omega) (by omega) ht (hc x hx) (hb _ (zac hi));have hnp:∀(c:List Pat) (i:Nat),(∀a∈c,zae w 11 ⟨ta,tk⟩ a=true)->i<away.length->∀x∈(c.flatMap fun a=>zat w 10 ⟨ta,tk⟩ a (nth away i)),zae w 11 ⟨ta,tk⟩ x=true:=fun c i hc hi x hx=>by
  obtain⟨a,ha,hx⟩:=List.mem_flatMap.1 hx;exact zfd 10 11 (by omega) (hc a ha) (hb _ (zac hi)) x hx
 have hpre:∀ {pre rest c:List Pat}{y:Pat} (i:Nat),(∀a∈c,zae w 11 ⟨ta,tk⟩ a=true)->c.length<=400->i<away.length->pre++y::rest=c->(pre.flatMap fun a=>zat w 10 ⟨ta,tk⟩ a (nth away i)).length<=8000000000/\(zat w 10 ⟨ta,tk⟩ y (nth away i)).length<=20000000:=fun {pre rest c y} i hc h4 hi h=>by
  have h1:=znn (g:=fun a=>zat w 10 ⟨ta,tk⟩ a (nth away i)) (K:=20000000) pre (fun x hx=>hmb c i hc hi x (by rw[<-h];simp[hx]));have h2:=hmb c i hc hi y (by rw[<-h];simp);have h3:=congrArg List.length h;simp only[xaa,xab] at h3;exact⟨by omega,h2⟩
 refine bd Tryz.f75 48 [12] [11] fun w0 F0 own kept hk=>?_;refine bx 3005 ?_;refine evs [12] [] ?_;refine wc zsG (zh7 hs ht hl (by omega)) rfl rfl ?_;refine evs [12] [] ?_;refine xak (ι:=Nat×List Pat) hk (fun s=>[(21,.d (.i (s.1:Int))),(2,.d (zad s.2))]) [8,9,11,12,14,22,23,24,25,26,27,28,29,30,31,32,33,34,35,36,37,38,39,40,41,42,43,44,45,46] (fun s=>[]) (fun s=>s.1<=away.length/\subL w ⟨ta,tk⟩ s.2 (away.drop s.1)=zay w ⟨ta,tk⟩ l away/\(∀a∈s.2,zae w 11 ⟨ta,tk⟩ a=true)/\s.2.length<=400) (fun s=>away.length-s.1) (0,l.filter (zbh w ⟨ta,tk⟩)) ⟨by simp,rfl,fun a ha=>hl a (List.mem_filter.1 ha).1,by dsimp only;omega⟩ ⟨⟨_,rfl,xaq ?_⟩,⟨⟨_,rfl, ?_⟩,trivial⟩⟩ trivial (fun x=>rfl) (fun s hg1=>?_);focus (rfl)
 focus (exact LeA.refl _)
 refine evc [12] [11] ?_;refine sq ?_ ?_<;>intro h1 h1p h1s<;>(try simp only[Q,Pat.cs_len] at h1p);refine xaS sl34 .none rfl rfl rfl rfl (zaH (by omega)) rfl ?_;refine evs [12] [] ?_;refine ab 3011 tz36 ?_;refine so ty36 ?_;refine tv ?_;refine xaD 9 6 .none rfl rfl ?_;refine tv ?_;refine xak (ι:=List (Pat)×List (Pat)) hk (fun x=>[(27,.d (.i (x.1.length:Int))),(12,.gl 9 (Pat.cs (x.1.flatMap fun a=>zat w 10 ⟨ta,tk⟩ a (nth away s.1))))]) [14,28,29,30,31,32,33,34,35,36,37,38] (fun x=>[(9,some (.tok ((Pat.cs (x.1.flatMap fun a=>zat w 10 ⟨ta,tk⟩ a (nth away s.1)))).length 6))]) (fun x=>x.1++x.2=s.2) (fun x=>x.2.length) ([],s.2) (by simp) ⟨⟨_,rfl,xaq ?_⟩,⟨⟨_,rfl,LeA.glg ?_⟩,trivial⟩⟩ ⟨zab ?_,trivial⟩ (fun x=>rfl) (fun x hg2=>?_);iterate 3 focus (rfl)
 obtain⟨pre,rest⟩:=x;dsimp only at hg2 ⊢;refine evc [12] [11] ?_;refine sq ?_ ?_<;>intro h2 h2p h2s<;>(try simp only[Q,Pat.cs_len] at h2p);rcases rest with _|⟨y,rest⟩
 ·exfalso;simp_all
 refine xaS sl34 .none rfl rfl rfl rfl (Pat.cs_at' hg2) rfl ?_;refine evs [12] [] ?_;refine ab 3014 tz36 ?_;refine so ty36 ?_;refine tv ?_;refine wc zpk (zi2 hs 10 11 (by omega) (by omega) (by omega) ht (hg1.2.2.1 y (by rw[<-hg2];simp)) (hb _ (zac (by omega)))) rfl rfl ?_;refine ap sl34 zz36 rfl rfl rfl (by exact zbD _) (by have h9:=hpre s.1 hg1.2.2.1 hg1.2.2.2 (by omega) hg2;simp only[Pat.cs_len];omega) ?_;refine asg ?_;refine tv ?_;refine ar ?_;refine xah ((pre++[y],rest)) ⟨(by have hz:=hg2;rw[<-hz];simp),(by simp),sx ⟨⟨_,rfl,xaq ?_⟩,⟨⟨_,rfl,LeA.glg ?_⟩,trivial⟩⟩ ⟨zab ?_,trivial⟩⟩;iterate 3 focus (first|(rw[List.flatMap_append,xat,xat,xat,xaf];simp;done)|(simp[Pat.cs_len];done))
 have hrest:rest=[]:=by
  rcases rest with _|⟨a,b⟩
  ·rfl
  ·exfalso;have hz:=congrArg List.length (hg2);simp only[xaa,xab,xac] at hz;omega
 subst hrest;obtain rfl:pre=s.2:=(by simpa using hg2);refine evc [12] [] ?_;refine Walk.call (cr:=[]) zsG (zh7 hs ht (l:=s.2.flatMap fun a=>zat w 10 ⟨ta,tk⟩ a (nth away s.1)) (hnp s.2 s.1 hg1.2.2.1 (by omega)) (by have:=znn (g:=fun a=>zat w 10 ⟨ta,tk⟩ a (nth away s.1)) (K:=20000000) s.2 (hmb s.2 s.1 hg1.2.2.1 (by omega));omega)) rfl .none rfl rfl (.cons (.refl _) (.cons (.refl _) (.cons (.gl _ _) .nil))) trivial rfl rfl rfl ?_;refine evs [12] [] ?_;refine sq ?_ ?_<;>intro h3 h3p h3s<;>(try simp only[Q,Pat.cs_len] at h3p);refine rn0 (r2 rfl rfl) (.tup (.cons (.nild ?_) (.cons (.eqd ?_) .nil)));rotate_left 2;refine ar ?_;refine xah ((s.1+1,zbR w ⟨ta,tk⟩ s.2 (nth away s.1))) ⟨(by
    have h4:(zbR w ⟨ta,tk⟩ s.2 (nth away s.1)).length<=400:=by unfold zbR;omega
    refine⟨by dsimp only;omega, ?_,zei hg1.2.2.1 (hb _ (zac (by omega))),h4⟩;have e:=zf6 (w:=w) (t:=⟨ta,tk⟩) (l:=s.2) (away:=away) (i:=s.1) (by omega);rw[if_pos h4] at e;dsimp only;rw[<-e];exact hg1.2.1),(by dsimp only;omega),sx ⟨⟨_,rfl,xaq ?_⟩,⟨⟨_,rfl, ?_⟩,trivial⟩⟩ trivial⟩
 focus (rfl)
 focus (exact LeA.refl _)
 refine rn0 (r2 rfl rfl) (.tup (.cons (.eqd ?_) (.cons (.eqd ?_) .nil)));rotate_left 2;all_goals (first|(rw[<-hg1.2.1,zf6 (by omega),if_neg (by unfold zbR;omega)];rfl)|(rw[<-hg1.2.1,zqC (by omega)];rfl))
theorem zk9 {w:List Data}{t:Ty}{l:List Cl} (hl:l.length<=8) (hc:∀c∈l,zas w 10 t c.pat=true/\c.pat.ok):
  FnD Tryz.prog 125 [.d (zb4 l)] [] (.tup [.d (zad ((za1 l []).getD [])),.d (.bool (za1 l []).isSome)]) []:=by
 have hpl:=fun(i:Nat)=>zek (nth l i).pat;refine bd Tryz.f125 32 [4] [] fun w0 F0 own kept hk=>?_;refine xaD 9 6 .none rfl rfl ?_;refine tv ?_;refine xak (ι:=Nat×List Pat) hk (fun s=>[(11,.d (.i (s.1:Int))),(4,.gl 9 (Pat.cs s.2))]) [2,3,6,7,8,12,13,14,15,16,17,18,19,20,21,22,23,24,25,26,27,28,29,30] (fun s=>[(9,some (.tok ((Pat.cs s.2)).length 6))]) (fun s=>s.1<=l.length/\za1 (l.drop s.1) s.2=za1 l []/\s.2.length<=40*s.1) (fun s=>l.length-s.1) (0,[]) ⟨by simp,rfl,by simp⟩ ⟨⟨_,rfl,xaq ?_⟩,⟨⟨_,rfl,LeA.glg ?_⟩,trivial⟩⟩ ⟨zab ?_,trivial⟩ (fun x=>rfl) (fun s hg1=>?_);iterate 3 focus (rfl)
 refine evc [4] [] ?_;refine sq ?_ ?_<;>intro h1 h1p h1s<;>(try simp only[Q,Pat.cs_len] at h1p);refine xaS sl26 .none rfl rfl rfl rfl (zap (by omega)) rfl ?_;refine evs [4] [] ?_;refine ab 3006 tz40 ?_;refine so ty40 ?_;refine tv ?_;refine sq ?_ ?_<;>intro h2 h2p h2s<;>(try simp only[Q,Pat.cs_len] at h2p);refine ar ?_;refine xah ((s.1+1,if (nth l s.1).g.op=0 then s.2++zbk (nth l s.1).pat else s.2)) ⟨(by
    have h9:=hpl s.1;by_cases hz:(nth l s.1).g.op=0
    ·refine⟨by dsimp only;omega, ?_, ?_⟩
     ·dsimp only;rw[if_pos hz,<-zhO (out:=s.2) (by omega) hz (by simp_all)];exact hg1.2.1
     ·dsimp only;rw[if_pos hz,xaa];omega
    ·refine⟨by dsimp only;omega, ?_, ?_⟩
     ·dsimp only;rw[if_neg hz,<-zhP (out:=s.2) (by omega) hz];exact hg1.2.1
     ·dsimp only;rw[if_neg hz];omega),(by dsimp only;omega),sx ⟨⟨_,rfl,xaq ?_⟩,⟨⟨_,rfl,LeA.glg ?_⟩,trivial⟩⟩ ⟨zab ?_,trivial⟩⟩
 iterate 3 focus (first|rfl|(rw[if_neg (by assumption)];done))
 refine wc zjk (zi3 (hc _ (zac (i:=s.1) (by omega))).1 (hc _ (zac (by omega))).2) rfl rfl ?_;refine evs [4] [] ?_;refine sq ?_ ?_<;>intro h3 h3p h3s<;>(try simp only[Q,Pat.cs_len] at h3p);refine rn0 (r2 rfl rfl) (.tup (.cons (.nild ?_) (.cons (.eqd ?_) .nil)));rotate_left 2;refine ap sl34 zz36 rfl rfl rfl (by exact zbD _) (by have:=hpl s.1;simp only[Pat.cs_len];omega) ?_;refine asg ?_;refine tv ?_;refine ar ?_;refine xah ((s.1+1,if (nth l s.1).g.op=0 then s.2++zbk (nth l s.1).pat else s.2)) ⟨(by
    have h9:=hpl s.1;by_cases hz:(nth l s.1).g.op=0
    ·refine⟨by dsimp only;omega, ?_, ?_⟩
     ·dsimp only;rw[if_pos hz,<-zhO (out:=s.2) (by omega) hz (by simp_all)];exact hg1.2.1
     ·dsimp only;rw[if_pos hz,xaa];omega
    ·refine⟨by dsimp only;omega, ?_, ?_⟩
     ·dsimp only;rw[if_neg hz,<-zhP (out:=s.2) (by omega) hz];exact hg1.2.1
     ·dsimp only;rw[if_neg hz];omega),(by dsimp only;omega),sx ⟨⟨_,rfl,xaq ?_⟩,⟨⟨_,rfl,LeA.glg ?_⟩,trivial⟩⟩ ⟨zab ?_,trivial⟩⟩
 iterate 3 focus (first|(rw[if_pos (by assumption),xat,xat,xat,xaf];done)|(rw[if_pos (by assumption)];simp[Pat.cs_len];done))
 refine rn0 (r2 rfl rfl) (.tup (.cons (.gld ?_) (.cons (.eqd ?_) .nil)));rotate_left 2;all_goals (first|(rw[<-hg1.2.1,zlW (by omega) (by first|assumption|(simp_all;done)) (by assumption)];rfl)|(rw[<-hg1.2.1,zlX (by omega)];rfl))
theorem zle {w:List Data} (hs:Spa w){f:Nat->Nat}{ta tk:Int} (ht:InS (w.length*4) ⟨ta,tk⟩){p:Pat} (hp:p.ok):
  FnD Tryz.prog 154 [.agg [.d (.i p.op),.d (.i p.ctor),.d (.i p.n),.d (.i p.m),.d (.i p.var),.d (zad p.kids)],.ref 3004 0,.ref 3005 0] [(3004,some (.box [.d (sPtr w f)])),(3005,some (.box [.d (.i ta),.d (.i tk)]))] (.d (.bool (!isP w ⟨ta,tk⟩ p))) []:=by
 refine bd Tryz.f154 13 [] [] fun w0 F0 own kept hk=>?_;refine bx 3001 ?_;refine ev ?_;refine wc zws (zkz hs.dp.wt (zb0 ht) hp) rfl rfl ?_;refine evd [] [] ?_;refine dr ?_;refine rn [] (r1 rfl) (.eqd ?_) ⟨rfl,rfl⟩ (SubH.get ⟨rfl,⟨rfl,trivial⟩⟩) (fun _ h=>h);rotate_left;all_goals (rfl)
theorem zh8 {w:List Data} (hs:Spa w){f:Nat->Nat}{ta tk:Int} (ht:InS (w.length*4) ⟨ta,tk⟩){l:List Pat}{ok:Bool} (hl:∀a∈l,a.ok) (hb:l.length<=1000000000000):
  FnD Tryz.prog 76 [.d (sPtr w f),.agg [.d (.i ta),.d (.i tk)],.d (zad l),.d (.bool ok)] [] (.tup [.d (zad (if (ok&&l.all (isP w ⟨ta,tk⟩))=true then l else [])),.d (.bool (ok&&l.all (isP w ⟨ta,tk⟩)))]) []:=by
 have hall:(l.any fun p=> !isP w ⟨ta,tk⟩ p) = !(l.all (isP w ⟨ta,tk⟩)):=by
  induction l with
  |nil=>rfl
  |cons x r ih=>rw[List.any_cons,List.all_cons,ih (fun a ha=>hl a (by simp[ha])) (by simp at hb;omega),Bool.not_and]
 have hcf:=zgg (xs:=l) (p:=fun p=> !isP w ⟨ta,tk⟩ p) (caps:=[.ref 3004 0,.ref 3005 0]) (hp:=[(3004,some (.box [.d (sPtr w f)])),(3005,some (.box [.d (.i ta),.d (.i tk)]))]) hb zwv (fun q hq=>zle hs ht (hl q hq)) ⟨rfl,rfl,trivial⟩ rfl rfl;rw[hall] at hcf;clear hall;generalize l.all (isP w ⟨ta,tk⟩)=q at hcf ⊢;refine bd Tryz.f76 19 [] [] fun w0 F0 own kept hk=>?_;refine bx 3004 ?_;refine bx 3005 ?_;refine ev ?_;refine sq ?_ ?_<;>intro h1 h1p h1s<;>(try simp only[Q] at h1p);refine sqT ?_;refine rn0 (r2 rfl rfl) (.tup (.cons (.nild ?_) (.cons (.eqd ?_) .nil)));rotate_left 2;refine xaJ (xs:=[_,_]) rfl (.some rfl rfl h1) rfl rfl ?_;refine Walk.call (cr:=[]) zwu (hcf) rfl (.some rfl rfl h1) rfl rfl (LeL.refl _) ⟨rfl,rfl,trivial⟩ rfl rfl rfl ?_;refine evs [] [(12,false)] ?_ ⟨⟨_,rfl,h1⟩,trivial⟩;refine sq ?_ ?_<;>intro h3 h3p h3s<;>(try simp only[Q] at h3p);refine rn0 (r2 rfl rfl) (.tup (.cons (.nild ?_) (.cons (.eqd ?_) .nil)));rotate_left 2;refine wc zww (zjc hb hl) rfl rfl ?_;refine ev ?_;refine rn0 (r2 rfl rfl) (.tup (.cons (.eqd ?_) (.cons (.eqd ?_) .nil)));rotate_left 2;all_goals ((cases ok<;>cases q<;>first|rfl|(exfalso;simp_all;done)))
theorem zs6 {w:List Data}{t:Ty}{l:List Cl} (h:zaR w t l=true) (hl:ClsOk l):∀c∈l,zas w 10 t c.pat=true/\c.pat.ok:=fun c hc=>by
 unfold zaR at h;simp only[xad,Bool.not_eq_true',List.any_eq_false,Bool.not_eq_true] at h;have h4:clOk w t c=true:=by simpa using h.2.2 c hc
 unfold clOk isP at h4;simp only[xad] at h4;exact⟨h4.1.1,hl.2 c hc⟩
mutual
def hitP:Pat->Val->Bool
 | .mk op c n m _ ks,v=>if op=3 then zar v.num n m else if op=4 then decide (c=v.ctor)&&hitL ks v.kids else true
def hitL:List Pat->List Val->Bool
 |p::r,v::s=>hitP p v&&hitL r s
 |_,_=>true
end
theorem znr (p:Pat) (v:Val):hitP p v=if p.op=3 then zar v.num p.n p.m else if p.op=4 then decide (p.ctor=v.ctor)&&hitL p.kids v.kids else true:=by
 cases p;unfold hitP;rfl
theorem ze6 {p:Pat}{v:Val} (h:p.op=1):hitP p v=true:=by rw[znr,if_neg (by omega),if_neg (by omega)]
theorem zhr {p:Pat}{v:Val} (h:p.op=3):hitP p v=zar v.num p.n p.m:=by rw[znr,if_pos h]
theorem zcV {p:Pat}{v:Val} (h:p.op=4):hitP p v=(decide (p.ctor=v.ctor)&&hitL p.kids v.kids):=by rw[znr,if_neg (by omega),if_pos h]
theorem zk5:∀ {l:List Pat}{s:List Val},l.length=s.length->(hitL l s=true↔∀i,i<l.length->hitP (nth l i) (nth s i)=true)
 | [],[],_=>by simp[hitL]
 |p::r,v::s,h=>by
  have ih:=zk5 (l:=r) (s:=s) (by simpa using h);simp only[hitL,xad,ih];constructor
  ·rintro ⟨h1,h2⟩ i hi
   cases i with
   |zero=>exact h1
   |succ i=>exact h2 i (by simpa using hi)
  ·intro h1;exact⟨h1 0 (by simp),fun i hi=>h1 (i+1) (by simpa using hi)⟩
 | [],_::_,h=>by simp at h
 |_::_,[],h=>by simp at h
theorem zk4 {α:Type}:∀(l:List α) (s:List Val),hitL (l.map fun _=>anyQ) s=true
 | [],_=>by simp[hitL]
 |_::_,[]=>by simp[hitL]
 |_::r,v::s=>by simp only[xae,hitL,zk4 r s,Bool.and_true];exact ze6 rfl
theorem zfW:∀(l:List Pat) (s:List Val) (p:Pat) (v:Val),l.length=s.length->hitL (l++[p]) (s++[v])=(hitL l s&&hitP p v)
 | [],[],p,v,_=>by simp[hitL]
 |q::r,x::s,p,v,h=>by
  simp only[xag,hitL,zfW r s p v (by simpa using h),Bool.and_assoc]
 | [],_::_,_,_,h=>by simp at h
 |_::_,[],_,_,h=>by simp at h
theorem zpT:∀(l:List Pat) (s:List Val) (r:List Pat) (q:List Val),l.length=s.length->hitL (l++r) (s++q)=(hitL l s&&hitL r q)
 | [],[],r,q,_=>by simp[hitL]
 |p::l,x::s,r,q,h=>by
  simp only[xag,hitL,zpT l s r q (by simpa using h),Bool.and_assoc]
 | [],_::_,_,_,h=>by simp at h
 |_::_,[],_,_,h=>by simp at h
theorem zul {w:List Data}{m:Nat}{t:Ty}{v:Val} (h:zaP w m t v=true) (ht:t.data = -1):0<=v.num/\v.num<=9:=by
 cases m with
 |zero=>simp[zaP] at h
 |succ m=>
  unfold zaP at h;rw[if_pos ht] at h;simp only[xad,decide_eq_true_eq] at h;omega
theorem zqj:∀(ls:List (List Pat)) (vs:List Val) (out:List (List Pat)) (v0:List Val),ls.length=vs.length->(∀q∈out,q.length=v0.length)->
  ((∃l∈ls.foldl za6 out,hitL l (v0++vs)=true)↔(∃q∈out,hitL q v0=true)/\∀i,i<ls.length->∃x∈nth ls i,hitP x (nth vs i)=true)
 | [],[],out,v0,_,_=>by simp
 |l::r,v::s,out,v0,h,ho=>by
  have ih:=zqj r s (za6 out l) (v0++[v]) (by simpa using h) (fun q hq=>by
   unfold za6 at hq;obtain⟨q0,h1,h2⟩:=List.mem_flatMap.1 hq;obtain⟨c,h3,rfl⟩:=List.mem_map.1 h2;simp[ho q0 h1])
  rw[List.append_assoc] at ih;rw[List.foldl_cons,show v0++v::s=v0++([v]++s) from rfl,ih];constructor
  ·rintro ⟨⟨q,hq,hh⟩,h2⟩
   unfold za6 at hq;obtain⟨q0,h3,h4⟩:=List.mem_flatMap.1 hq;obtain⟨c,h5,rfl⟩:=List.mem_map.1 h4;rw[zfW q0 v0 c v (ho q0 h3),xad] at hh;refine⟨⟨q0,h3,hh.1⟩,fun i hi=>?_⟩;cases i with
   |zero=>exact⟨c,h5,hh.2⟩
   |succ i=>exact h2 i (by simpa using hi)
  ·rintro ⟨⟨q,hq,hh⟩,h2⟩
   obtain⟨c,h5,h6⟩:=h2 0 (by simp);refine⟨⟨q++[c], ?_, ?_⟩,fun i hi=>h2 (i+1) (by simpa using hi)⟩
   ·unfold za6;exact List.mem_flatMap.2 ⟨q,hq,List.mem_map.2 ⟨c,h5,rfl⟩⟩
   ·rw[zfW q v0 c v (ho q hq),hh];exact h6
 | [],_::_,_,_,h,_=>by simp at h
 |_::_,[],_,_,h,_=>by simp at h
theorem zmn {f:Pat->Val->List Bd×Bool}:∀ {a:List Pat}{b:List Val}{acc:List Bd},a.length=b.length->((zh9 f a b acc).2=true↔∀i,i<a.length->(f (nth a i) (nth b i)).2=true)
 | [],[],acc,_=>by simp[zh9]
 |p::r,v::s,acc,h=>by
  unfold zh9;by_cases hp:(f p v).2=true
  ·rw[if_pos hp,zmn (a:=r) (b:=s) (by simpa using h)];constructor
   ·intro h1 i hi;cases i with
    |zero=>exact hp
    |succ i=>exact h1 i (by simpa using hi)
   ·intro h1 i hi;exact h1 (i+1) (by simpa using hi)
  ·rw[if_neg hp];constructor
   ·intro h1;cases h1
   ·intro h1;exact absurd (h1 0 (by simp)) hp
 | [],_::_,_,h=>by simp at h
 |_::_,[],_,h=>by simp at h
theorem zdg {p:Pat} (h5:p.op≠5) (hk:p.kids=[]):zau p=[p]:=by
 rw[zcU h5,hk];cases p
 simp only[zaF] at hk;subst hk;simp[zdS,zbu,zeT,mk_n,mk_m,zg4]
theorem zdO {w:List Data}:∀(n m:Nat){t:Ty}{p:Pat}{v:Val},zas w n t p=true->zaP w m t v=true->((za7 n p v).2=true↔∃x∈zau (zav p),hitP x v=true)
 |0,m,t,p,v,h,_=>by simp[zas] at h
 |n+1,0,t,p,v,_,h=>by simp[zaP] at h
 |n+1,m+1,t,p,v,h,hv=>by
  rcases zeH h with h1|h2|h3|h4|h5|h6
  ·have hk:=zdK h (by omega) (by omega) (by omega);rw[zvP h1,zbd,if_neg (by omega),if_neg (by omega),zdg (by rw[zbu];omega) (by rw[zaF,hk];rfl)];simp only[List.mem_singleton,exists_eq_left,true_iff];exact ze6 h1
  ·rw[zvQ h2,zbd,if_pos h2,zb8];simp only[List.mem_singleton,exists_eq_left,true_iff];exact ze6 rfl
  ·have hk:=zdK h (by omega) (by omega) (by omega);rw[zvR h3,zbd,if_neg (by omega),if_neg (by omega),zdg (by rw[zbu];omega) (by rw[zaF,hk];rfl)];simp only[List.mem_singleton,exists_eq_left];rw[zhr (p:= .mk p.op p.ctor p.n p.m p.var (p.kids.map zav)) h3];exact Iff.rfl
  ·have hs:=h;unfold zas at hs;rw[xad,za5 h4] at hs;have hl:=zhN hs.2;rw[zbd,if_neg (by omega),if_neg (by omega),zcU (by rw[zbu];omega)];have hd:t.data≠ -1:=fun e=>by
    have:=zcc hs.1 h4;unfold zaj at this;rw[if_pos e] at this;simp at this
   obtain⟨f1,f2,f3⟩:=zeP hv hd;by_cases hc:p.ctor=v.ctor
   ·rw[zvS h4 hc];rw[hc] at hl hs;have hlen:p.kids.length=v.kids.length:=by omega
    rw[zmn hlen];have hp:=zqj ((p.kids.map zav).map zau) v.kids [[]] [] (by simp[hlen]) (by simp);simp only[List.nil_append,List.mem_singleton,exists_eq_left,hitL,true_and,xac] at hp;have hih:∀i,i<p.kids.length->((za7 n (nth p.kids i) (nth v.kids i)).2=true↔∃x∈nth ((p.kids.map zav).map zau) i,hitP x (nth v.kids i)=true):=fun i hi=>by
     rw[zdO n m (zfu hl hs.2 i (by omega)) (f3 i (by omega))];have e:nth ((p.kids.map zav).map zau) i=zau (zav (nth p.kids i)):=by
      rw[zaI (by simpa using hi),zaI hi];simp
     rw[e]
    constructor
    ·intro h1;obtain⟨l,hl2,hh⟩:=hp.2 (fun i hi=>(hih i hi).1 (h1 i hi));refine⟨_,List.mem_map.2 ⟨l,hl2,rfl⟩, ?_⟩;rw[zcV (by rw[zbu];exact h4)];simp only[zeT,zaF,hc,hh,decide_true,Bool.and_self]
    ·rintro ⟨x,hx,hh⟩ i hi
     obtain⟨l,hl2,rfl⟩:=List.mem_map.1 hx;rw[zcV (by rw[zbu];exact h4),xad] at hh;exact(hih i hi).2 (hp.1 ⟨l,hl2,hh.2⟩ i hi)
   ·rw[zuv h4 hc];constructor
    ·intro h1;cases h1
    ·rintro ⟨x,hx,hh⟩
     obtain⟨l,hl2,rfl⟩:=List.mem_map.1 hx;rw[zcV (by rw[zbu];exact h4),xad] at hh;exact absurd (of_decide_eq_true hh.1) hc
  ·obtain⟨l2,s0,s1⟩:=zd5 h h5;have ee:p.kids.map zav=[zav (nth p.kids 0),zav (nth p.kids 1)]:=by
    match hk:p.kids,l2 with
    | [a,b],_=>rfl
   rw[zbd,if_neg (by omega),if_neg (by omega),zdn (by rw[zbu];exact h5) (by rw[zaF];simpa using l2),zaF,ee];have i0:=zdO n (m+1) s0 hv;have i1:=zdO n (m+1) s1 hv;have e0:nth [zav (nth p.kids 0),zav (nth p.kids 1)] 0=zav (nth p.kids 0):=rfl;have e1:nth [zav (nth p.kids 0),zav (nth p.kids 1)] 1=zav (nth p.kids 1):=rfl;rw[e0,e1];by_cases hm:(za7 n (nth p.kids 0) v).2=true
   ·rw[zuw h5 hm];obtain⟨x,hx,hh⟩:=i0.1 hm;simp only[true_iff];exact⟨x,List.mem_append_left _ hx,hh⟩
   ·rw[zux h5 (by simpa using hm),i1];constructor
    ·rintro ⟨x,hx,hh⟩
     exact⟨x,List.mem_append_right _ hx,hh⟩
    ·rintro ⟨x,hx,hh⟩
     rcases List.mem_append.1 hx with hx|hx
     ·exact absurd (i0.2 ⟨x,hx,hh⟩) hm
     ·exact⟨x,hx,hh⟩
  ·obtain⟨l1,s0⟩:=zdB h h6;rw[zvT h6,zbd,if_neg (by omega),if_pos ⟨h6,fun e=>by rw[e] at l1;simp at l1⟩];exact zdO n (m+1) s0 hv
theorem zom {f:Pat->Pat->Option Pat}:∀ {a b:List Pat}{acc:List Pat}{s q:List Val},a.length=b.length->a.length=s.length->acc.length=q.length->
  (∀i,i<a.length->match f (nth a i) (nth b i) with
   |none=>(hitP (nth a i) (nth s i)&&hitP (nth b i) (nth s i))=false
   |some x=>hitP x (nth s i)=(hitP (nth a i) (nth s i)&&hitP (nth b i) (nth s i)))->
  match zbL f a b acc with
   |none=>(hitL a s&&hitL b s)=false
   |some l=>hitL l (q++s)=(hitL acc q&&(hitL a s&&hitL b s))
 | [],[],acc,[],q,_,_,ha,_=>by simp[zbL,hitL]
 |p::r,p2::r2,acc,v::s,q,h1,h2,ha,hf=>by
  have h0:=hf 0 (by simp);have e1:nth (p::r) 0=p:=rfl;have e2:nth (p2::r2) 0=p2:=rfl;have e3:nth (v::s) 0=v:=rfl;rw[e1,e2,e3] at h0;unfold zbL;cases hx:f p p2 with
  |none=>
   rw[hx] at h0;simp only[hitL];dsimp only at h0;cases ha1:hitP p v<;>cases hb1:hitP p2 v<;>simp_all
  |some x=>
   rw[hx] at h0;dsimp only at h0 ⊢;have ih:=zom (f:=f) (a:=r) (b:=r2) (acc:=acc++[x]) (s:=s) (q:=q++[v]) (by simpa using h1) (by simpa using h2) (by simp[ha]) (fun i hi=>hf (i+1) (by simpa using hi));cases hm:zbL f r r2 (acc++[x]) with
   |none=>
    rw[hm] at ih;dsimp only at ih ⊢;simp only[hitL];cases ha1:hitP p v<;>cases hb1:hitP p2 v<;>simp_all
   |some l=>
    rw[hm] at ih;dsimp only at ih ⊢;rw[show q++v::s=q++[v]++s by simp,ih,zfW acc q x v ha,h0];simp only[hitL];cases hitL acc q<;>cases hitP p v<;>cases hitP p2 v<;>cases hitL r s<;>cases hitL r2 s<;>rfl
 | [],_::_,_,_,_,h,_,_,_=>by simp at h
 |_::_,[],_,_,_,h,_,_,_=>by simp at h
 | [],[],_,_::_,_,_,h,_,_=>by simp at h
 |_::_,_::_,_,[],_,_,h,_,_=>by simp at h
theorem zra {x a b c d:Int}:zar x (maxQ a c) (minQ b d)=(zar x a b&&zar x c d):=by
 unfold zar maxQ minQ;rw[Bool.eq_iff_iff];simp only[xad,decide_eq_true_eq];split<;>split<;>omega
theorem zp2 {w:List Data}:∀(k m:Nat){t:Ty}{a b:Pat}{v:Val},zae w k t a=true->zae w k t b=true->zaP w m t v=true->∀n,k<=n->match zaE n a b with
  |none=>(hitP a v&&hitP b v)=false
  |some x=>hitP x v=(hitP a v&&hitP b v)
 |0,m,t,a,b,v,ha,_,_,_,_=>by simp[zae] at ha
 |k+1,0,t,a,b,v,_,_,hv,_,_=>by simp[zaP] at hv
 |k+1,m+1,t,a,b,v,_,_,_,0,h=>by omega
 |k+1,m+1,t,a,b,v,ha,hb,hv,n+1,hn=>by
  by_cases h1:a.op=1
  ·rw[zg2 h1];dsimp only;rw[ze6 h1,Bool.true_and]
  by_cases h2:b.op=1
  ·rw[zia h1 h2];dsimp only;rw[ze6 h2,Bool.and_true]
  have hs:=zc5 ha hb h1 h2;have oa:=zbn ha;by_cases h3:a.op=3
  ·rw[zib h3 h2,zhr h3,zhr (p:=b) (by omega),<-zra];split
   ·rename_i x hx;split at hx
    ·cases hx
    ·unfold zar;simp only[Bool.and_eq_false_iff,decide_eq_false_iff_not];omega
   ·rename_i x hx;split at hx
    ·cases hx;rfl
    ·cases hx
  have h4:a.op=4:=by omega
  have hb4:b.op=4:=by omega
  rw[zcV h4,zcV hb4];obtain⟨m1,m2,m3,m4⟩:=zaA ha h4;obtain⟨n1,n2,n3,n4⟩:=zaA hb hb4;obtain⟨f1,f2,f3⟩:=zeP hv m2;by_cases hc:a.ctor=b.ctor
  ·rw[zg3 h4 h2 hc];rw[<-hc] at n3 ⊢;by_cases hcv:a.ctor=v.ctor
   ·rw[decide_eq_true hcv];have hl:=zom (f:=zaE n) (a:=a.kids) (b:=b.kids) (acc:=[]) (s:=v.kids) (q:=[]) (by omega) (by rw[hcv] at m3;omega) rfl (fun i hi=>by
     have ka:=zaN ha (i:=i) hi;have kb:=zaN hb (i:=i) (by omega);rw[za5 h4,hcv] at ka;rw[za5 hb4,<-hc,hcv] at kb;exact zp2 k m ka kb (f3 i (by rw[hcv] at m3;omega)) n (by omega))
    cases hx:zbL (zaE n) a.kids b.kids [] with
    |none=>
     rw[hx] at hl;dsimp only[Option.map_none] at hl ⊢;rw[Bool.true_and,Bool.true_and];exact hl
    |some l=>
     rw[hx] at hl;dsimp only[Option.map_some] at hl ⊢;rw[zcV (by rfl)];show(decide (a.ctor=v.ctor)&&hitL l v.kids)=_
     rw[decide_eq_true hcv];simpa [hitL] using hl
   ·rw[decide_eq_false hcv];cases hx:zbL (zaE n) a.kids b.kids [] with
    |none=>rfl
    |some l=>
     dsimp only[Option.map_some];rw[zcV (by rfl)];show(decide (a.ctor=v.ctor)&&hitL l v.kids)=_
     rw[decide_eq_false hcv];rfl
  ·rw[zgJ h4 h2 hc];dsimp only;by_cases hcv:a.ctor=v.ctor
   ·rw[decide_eq_false (p:=b.ctor=v.ctor) (by omega)];simp
   ·rw[decide_eq_false hcv];simp
def one (b:Bool):Nat:=if b=true then 1 else 0
theorem zn3 {a b:Int}{v:Val}:(zbO a b).countP (fun x=>hitP x v)=one (zar v.num a b):=by
 unfold zbO one;split
 ·rw[List.countP_singleton,zhr rfl];rfl
 ·rename_i h;have:zar v.num a b=false:=by unfold zar;simp only[Bool.and_eq_false_iff,decide_eq_false_iff_not];omega
  rw[this];rfl
theorem zta {c:Int}{pre:List Pat}{s:List Pat}{v0:Val}{vf vs:List Val}{v:Val} (hv:v.kids=vf++v0::vs) (hl:pre.length=vf.length) (l:List Pat):
  (l.map (fun z=>za8 c (pre++[z]++s))).countP (fun x=>hitP x v)=one (decide (c=v.ctor)&&(hitL pre vf&&hitL s vs))*l.countP (fun z=>hitP z v0):=by
 rw[List.countP_map];have hz:∀z,hitP (za8 c (pre++[z]++s)) v=((decide (c=v.ctor)&&(hitL pre vf&&hitL s vs))&&hitP z v0):=fun z=>by
  rw[zcV rfl];show(decide (c=v.ctor)&&hitL (pre++[z]++s) v.kids)=_
  rw[hv,show vf++v0::vs=vf++([v0]++vs) by simp,List.append_assoc,zpT pre vf _ _ hl];show(decide (c=v.ctor)&&(hitL pre vf&&(hitP z v0&&hitL s vs)))=_
  cases decide (c=v.ctor)<;>cases hitL pre vf<;>cases hitP z v0<;>cases hitL s vs<;>rfl
 cases hb:(decide (c=v.ctor)&&(hitL pre vf&&hitL s vs)) with
 |true=>
  rw[show one true=1 from rfl,Nat.one_mul];congr 1
  funext z
  show hitP (za8 c (pre++[z]++s)) v=_
  rw[hz,hb,Bool.true_and]
 |false=>
  rw[show one false=0 from rfl,Nat.zero_mul];rw[List.countP_eq_zero];intro z _;show ¬hitP (za8 c (pre++[z]++s)) v=true
  rw[hz,hb];simp
theorem zut:∀d f x y s b:Bool,one (d&&(f&&s))*one (x&& !y)+one (d&&((f&&(x&&y))&&(s&& !b)))=one (d&&(f&&((x&&s)&& !(y&&b)))):=by decide
theorem zus:∀d f x y s b:Bool,(x&&y)=false->one (d&&(f&&s))*one (x&& !y)+0=one (d&&(f&&((x&&s)&& !(y&&b)))):=by decide
theorem ztC {x la ha bn bm:Int} (h:bn<=bm):one (zar x la (minQ ha (bn-1)))+one (zar x (maxQ la (bm+1)) ha)=one (zar x la ha&& !zar x bn bm):=by
 have e1:zar x la (minQ ha (bn-1))=(zar x la ha&&decide (x<bn)):=by
  unfold zar minQ;rw[Bool.eq_iff_iff];simp only[xad,decide_eq_true_eq];split<;>omega
 have e2:zar x (maxQ la (bm+1)) ha=(zar x la ha&&decide (bm<x)):=by
  unfold zar maxQ;rw[Bool.eq_iff_iff];simp only[xad,decide_eq_true_eq];split<;>omega
 have e3:zar x bn bm=(!decide (x<bn)&& !decide (bm<x)):=by
  unfold zar;rw[Bool.eq_iff_iff];simp only[xad,Bool.not_eq_true',decide_eq_true_eq,decide_eq_false_iff_not];omega
 have key:∀q u v:Bool,(u&&v)=false->one (q&&u)+one (q&&v)=one (q&& !(!u&& !v)):=by decide
 rw[e1,e2,e3];refine key _ _ _ ?_;rw[Bool.and_eq_false_iff,decide_eq_false_iff_not,decide_eq_false_iff_not];omega
theorem zmr {w:List Data}{f:Ty->Pat->Pat->List Pat}{m:Nat}{c:Int}{v:Val}:
  ∀ {us:List Ty}{xs bs front:List Pat}{vf vs:List Val},v.kids=vf++vs->front.length=vf.length->us.length=xs.length->bs.length=xs.length->vs.length=xs.length->
   (∀j,j<xs.length->zae w 11 (nth us j) (nth xs j)=true/\zae w 11 (nth us j) (nth bs j)=true/\zaP w m (nth us j) (nth vs j)=true/\(f (nth us j) (nth xs j) (nth bs j)).countP (fun x=>hitP x (nth vs j))=one (hitP (nth xs j) (nth vs j)&& !hitP (nth bs j) (nth vs j)))->
   (zaL f c us xs bs front).countP (fun x=>hitP x v)=one (decide (c=v.ctor)&&(hitL front vf&&(hitL xs vs&& !hitL bs vs)))
 | [],[],[],front,vf,[],_,_,_,_,_,_=>by
  simp only[zaL,List.countP_nil,hitL];cases decide (c=v.ctor)<;>cases hitL front vf<;>rfl
 |u::us,x::xs,y::bs,front,vf,v0::vs,hv,hfl,h1,h2,h3,hf=>by
  have h0:=hf 0 (by simp);have e0:nth (u::us) 0=u:=rfl;have e1:nth (x::xs) 0=x:=rfl;have e2:nth (y::bs) 0=y:=rfl;have e3:nth (v0::vs) 0=v0:=rfl;rw[e0,e1,e2,e3] at h0;unfold zaL;rw[List.countP_append,zta hv hfl,h0.2.2.2];have hm:=zp2 11 m h0.1 h0.2.1 h0.2.2.1 11 (Nat.le_refl _);cases hq:zaE 11 x y with
  |none=>
   rw[hq] at hm;dsimp only at hm ⊢;simp only[List.countP_nil,hitL];exact zus _ _ _ _ _ _ hm
  |some both=>
   rw[hq] at hm;dsimp only at hm ⊢;have ih:=zmr (w:=w) (f:=f) (m:=m) (c:=c) (v:=v) (us:=us) (xs:=xs) (bs:=bs) (front:=front++[both]) (vf:=vf++[v0]) (vs:=vs) (by rw[hv];simp) (by simp[hfl]) (by simpa using h1) (by simpa using h2) (by simpa using h3) (fun j hj=>hf (j+1) (by simpa using hj));rw[ih,zfW front vf both v0 hfl,hm];simp only[hitL];exact zut _ _ _ _ _ _
 | [],_::_,_,_,_,_,_,_,h,_,_,_=>by simp at h
 |_::_,[],_,_,_,_,_,_,h,_,_,_=>by simp at h
 |_,[],_::_,_,_,_,_,_,_,h,_,_=>by simp at h
 |_,_::_,[],_,_,_,_,_,_,h,_,_=>by simp at h
 |_,[],_,_,_,_::_,_,_,_,_,h,_=>by simp at h
 |_,_::_,_,_,_,[],_,_,_,_,h,_=>by simp at h
theorem zkK {f:Ty->Pat->Pat->List Pat}{c:Int}{x:Pat}:∀ {us:List Ty}{xs bs front:List Pat},x∈zaL f c us xs bs front->∃l,x=za8 c l
 |u::us,a::xs,y::bs,front,h=>by
  unfold zaL at h;rcases List.mem_append.1 h with h|h
  ·obtain⟨z,_,rfl⟩:=List.mem_map.1 h;exact⟨_,rfl⟩
  ·cases hq:zaE 11 a y with
   |none=>rw[hq] at h;simp at h
   |some b=>rw[hq] at h;exact zkK h
 | [],_,_,_,h=>by simp[zaL] at h
 |_::_,[],_,_,h=>by simp[zaL] at h
 |_::_,_::_,[],_,h=>by simp[zaL] at h
theorem zn2 {c0:Int}{g:Int->List Pat}{v:Val}{k:Nat}:∀ {l:List Int},l.Nodup->c0∈l->(∀c∈l,c≠c0->(g c).countP (fun x=>hitP x v)=0)->(g c0).countP (fun x=>hitP x v)=k->(l.flatMap g).countP (fun x=>hitP x v)=k
 | [],_,h,_,_=>by simp at h
 |a::r,hn,hm,hz,hk=>by
  rw[List.flatMap_cons,List.countP_append];have hn':=List.nodup_cons.1 hn;by_cases ha:a=c0
  ·subst ha;have h0:(r.flatMap g).countP (fun x=>hitP x v)=0:=by
    rw[List.countP_eq_zero];intro x hx;obtain⟨c,hc,hx⟩:=List.mem_flatMap.1 hx;have:=hz c (by simp[hc]) (fun e=>hn'.1 (e ▸ hc));rw[List.countP_eq_zero] at this;exact this x hx
   omega
  ·have h1:=hz a (by simp) ha;have h2:=zn2 (g:=g) (v:=v) (k:=k) hn'.2 (by simpa [Ne.symm ha] using hm) (fun c hc=>hz c (by simp[hc])) hk;omega
section
variable {w:List Data} (hs:Spa w)
include hs
theorem zop:∀(n m k:Nat){t:Ty}{a b:Pat}{v:Val},n<m->m<=12->InS (w.length*4) t->zae w m t a=true->zae w n t b=true->zaP w k t v=true->(zat w n t a b).countP (fun x=>hitP x v)=one (hitP a v&& !hitP b v)
 |0,m,k,t,a,b,v,_,_,_,_,hb,_=>by simp[zae] at hb
 |n+1,0,k,t,a,b,v,hn,_,_,_,_,_=>by omega
 |n+1,m+1,0,t,a,b,v,_,_,_,_,_,hv=>by simp[zaP] at hv
 |n+1,m+1,k+1,t,a,b,v,hn,h12,ht,ha,hb,hv=>by
  have hcc:∀a,zae w (m+1) t a=true->a.op=4->b.op=4->(zbZ (zat w n) w t a b).countP (fun x=>hitP x v)=one (hitP a v&& !hitP b v):=fun a ha h4 h4b=>by
   obtain⟨m1,m2,m3,m4⟩:=zaA ha h4;obtain⟨n1,n2,n3,n4⟩:=zaA hb h4b;obtain⟨f1,f2,f3⟩:=zeP hv m2;rw[zcV h4,zcV h4b];unfold zbZ;split
   ·rename_i hc;by_cases hcv:a.ctor=v.ctor
    ·have:=zmr (w:=w) (f:=zat w n) (m:=k) (c:=a.ctor) (v:=v) (us:=zaa w t a.ctor) (xs:=a.kids) (bs:=b.kids) (front:=[]) (vf:=[]) (vs:=v.kids) rfl rfl m3.symm (by rw[<-hc] at n3;omega) (by rw[hcv] at m3;omega) (fun j hj=>by
      have ka:=zaN ha (i:=j) hj;have kb:=zaN hb (i:=j) (by rw[<-hc] at n3;omega);rw[za5 h4] at ka;rw[za5 h4b,<-hc] at kb;have kv:=f3 j (by rw[hcv] at m3;omega);rw[<-hcv] at kv;exact⟨zc4 (by omega) ka,zc4 (by omega) kb,kv,zop n m k (by omega) (by omega) (zbp hs.dp ht m1 _ (zac (by omega))) ka kb kv⟩)
     rw[this,<-hc];simp only[hitL,one];cases decide (a.ctor=v.ctor)<;>cases hitL a.kids v.kids<;>cases hitL b.kids v.kids<;>rfl
    ·have hz:(zaL (zat w n) a.ctor (zaa w t a.ctor) a.kids b.kids []).countP (fun x=>hitP x v)=0:=by
      rw[List.countP_eq_zero];intro x hx;obtain⟨l,rfl⟩:=zkK hx;rw[zcV rfl];show ¬(decide (a.ctor=v.ctor)&&hitL l v.kids)=true
      rw[decide_eq_false hcv];simp
     rw[hz,decide_eq_false hcv];rfl
   ·rename_i hc;rw[List.countP_singleton,zcV h4];by_cases hcv:a.ctor=v.ctor
    ·rw[decide_eq_false (p:=b.ctor=v.ctor) (by omega)];simp only[Bool.false_and,Bool.not_false,Bool.and_true,one]
    ·rw[decide_eq_false hcv];rfl
  rcases zbn hb with h1|h3|h4
  ·rw[zeS h1,ze6 h1];simp[one]
  ·have hd:=(zbC hb h3).1;have hl:=zlg ha hd;have ib:=zbC hb h3;have fn:=zul hv hd;rw[zgK h3,zdM,List.countP_append,zn3,zn3,zhr h3];have hav:hitP a v=zar v.num (lowQ a) (zch a):=by
    unfold lowQ zch;rcases zbn ha with h|h|h
    ·rw[ze6 h,if_pos h,if_pos h];unfold zar;rw[decide_eq_true (p:=0<=v.num) (by omega),decide_eq_true (p:=v.num<=9) (by omega)];rfl
    ·rw[zhr h,if_neg (by omega),if_neg (by omega)]
    ·exact absurd hd (zaA ha h).2.1
   rw[hav];exact ztC ib.2.2.1
  ·by_cases ha1:a.op=1
   ·rw[zfz h4 ha1,ze6 ha1,Bool.true_and];have hdt:=(zaA hb h4).2.1;obtain⟨f1,f2,f3⟩:=zeP hv hdt;obtain⟨q,rfl⟩:∃q,m=q+1:=⟨m-1,by omega⟩;refine zn2 (c0:=v.ctor) (hs.ctors t ht).2 f1 (fun c hc hne=>?_) ?_
    ·rw[hcc _ (zcu hc) rfl h4,zcV rfl];show one ((decide (c=v.ctor)&&_)&&_)=0
     rw[decide_eq_false hne];rfl
    ·rw[hcc _ (zcu f1) rfl h4,zcV (p:=zbJ w t v.ctor) rfl];show one ((decide (v.ctor=v.ctor)&&hitL ((zaa w t v.ctor).map fun _=>anyQ) v.kids)&& !hitP b v)=_
     rw[zk4,decide_eq_true rfl];rfl
   ·have ha4:a.op=4:=by have:=zc5 ha hb ha1 (by omega);omega
    rw[zcN h4 ha4];exact hcc a ha ha4 h4
theorem zjC:∀(n m:Nat){t:Ty}{p:Pat}{v:Val},InS (w.length*4) t->zae w n t p=true->zaP w m t v=true->hitP p v=true->zaQ w (zal w) n t p=false
 |0,m,t,p,v,_,h,_,_=>by simp[zae] at h
 |n+1,0,t,p,v,_,_,h,_=>by simp[zaP] at h
 |n+1,m+1,t,p,v,ht,hp,hv,hh=>by
  rcases zbn hp with h1|h3|h4
  ·rw[zeN h1];have:=zvL hs.dp ht hv;exact decide_eq_false (by omega)
  ·exact zkj hp h3
  ·cases he:zaQ w (zal w) (n+1) t p with
   |false=>rfl
   |true=>
    exfalso;obtain⟨i,hi,hd⟩:=zkY hp h4 he;obtain⟨m1,m2,m3,m4⟩:=zaA hp h4;obtain⟨f1,f2,f3⟩:=zeP hv m2;rw[zcV h4,xad] at hh;have hc:=of_decide_eq_true hh.1;rw[hc] at m3;have hk:=(zk5 (by omega)).1 hh.2 i hi;have hpk:=zaN hp hi;rw[za5 h4] at hpk;have:=zjC n m (zbp hs.dp ht m1 _ (zac (by rw[hc];omega))) hpk (by rw[hc];exact f3 i (by omega)) hk;rw[this] at hd;cases hd
theorem zlV {t:Ty}{v:Val}{m:Nat} (ht:InS (w.length*4) t) (hv:zaP w m t v=true){l:List Pat} (hl:∀a∈l,zae w 11 t a=true):(l.filter (zbh w t)).countP (fun x=>hitP x v)=l.countP (fun x=>hitP x v):=by
 rw[List.countP_filter];refine List.countP_congr (fun x hx=>?_);simp only[xad];constructor
 ·exact fun h=>h.1
 ·intro h;refine⟨h, ?_⟩;unfold zbh;rw[zjC hs 11 m ht (hl x hx) hv h];rfl
theorem zuA {t:Ty}{v:Val}{m:Nat} (ht:InS (w.length*4) t) (hv:zaP w m t v=true){b:Pat} (hb:zae w 10 t b=true){l:List Pat} (hl:∀a∈l,zae w 11 t a=true):
  (zbR w t l b).countP (fun x=>hitP x v)=if hitP b v=true then 0 else l.countP (fun x=>hitP x v):=by
 unfold zbR;rw[zlV hs ht hv (fun x hx=>by
  obtain⟨a,ha,hx⟩:=List.mem_flatMap.1 hx;exact zfd 10 11 (by omega) (hl a ha) hb x hx)]
 induction l with
 |nil=>simp
 |cons a r ih=>
  rw[List.flatMap_cons,List.countP_append,ih (fun x hx=>hl x (by simp[hx])),zop hs 10 11 m (by omega) (by omega) ht (hl a (by simp)) hb hv,List.countP_cons];unfold one;cases hitP b v<;>cases hitP a v<;>simp<;>omega
theorem zrV {t:Ty}{v:Val}{m:Nat} (ht:InS (w.length*4) t) (hv:zaP w m t v=true):∀ {away l r:List Pat},(∀b∈away,zae w 10 t b=true)->(∀a∈l,zae w 11 t a=true)->subL w t l away=some r->
  r.countP (fun x=>hitP x v)=if away.any (fun b=>hitP b v)=true then 0 else l.countP (fun x=>hitP x v)
 | [],l,r,_,_,h=>by rw[subL] at h;cases h;simp
 |b::away,l,r,hb,hl,h=>by
  rw[subL] at h;split at h
  ·rw[zrV ht hv (fun x hx=>hb x (by simp[hx])) (zei hl (hb b (by simp))) h,zuA hs ht hv (hb b (by simp)) hl,List.any_cons];cases hitP b v<;>cases away.any (fun b=>hitP b v)<;>simp
  ·cases h
theorem zkR {t:Ty}{v:Val}{m:Nat} (ht:InS (w.length*4) t) (hv:zaP w m t v=true){away l r:List Pat} (hb:∀b∈away,zae w 10 t b=true) (hl:∀a∈l,zae w 11 t a=true) (h:zay w t l away=some r):
  r.countP (fun x=>hitP x v)=if away.any (fun b=>hitP b v)=true then 0 else l.countP (fun x=>hitP x v):=by
 unfold zay at h;rw[zrV hs ht hv hb (fun a ha=>hl a (List.mem_filter.1 ha).1) h,zlV hs ht hv hl]
end
def zeL (l:List Cl) (v:Val):Bool:=l.any fun c=>decide (c.g.op=0)&&(za7 10 c.pat v).2
theorem zju {w:List Data}{t:Ty}{v:Val}{m:Nat} (hv:zaP w m t v=true):∀(l:List Cl) (out r:List Pat),(∀c∈l,zas w 10 t c.pat=true)->za1 l out=some r->(r.any fun b=>hitP b v)=(out.any (fun b=>hitP b v)||zeL l v)
 | [],out,r,_,h=>by rw[za1] at h;cases h;simp[zeL]
 |c::l,out,r,hc,h=>by
  rw[za1] at h;have hm:=zdO 10 m (hc c (by simp)) hv;split at h
  ·rename_i hg;split at h
   ·rename_i hp;rw[zju hv l _ r (fun x hx=>hc x (by simp[hx])) h,List.any_append];have e:(zbk c.pat).any (fun b=>hitP b v)=(za7 10 c.pat v).2:=by
     have e1:zbk c.pat=zau (zav c.pat):=by unfold zbk;unfold zbi at hp;rw[if_pos (of_decide_eq_true hp)]
     rw[e1,Bool.eq_iff_iff,hm,List.any_eq_true]
    rw[e];unfold zeL;rw[List.any_cons,decide_eq_true hg,Bool.true_and,Bool.or_assoc]
   ·cases h
  ·rename_i hg;rw[zju hv l _ r (fun x hx=>hc x (by simp[hx])) h];unfold zeL;rw[List.any_cons,decide_eq_false hg,Bool.false_and,Bool.false_or]
theorem zl6 {w:List Data}{g:Ty->Val->Bool}{F:Ty->List Val} (hF:∀u x,x∈F u->g u x=true):∀(us:List Ty) (vs:List Ty) (acc:List (List Val)),(∀l∈acc,all2 g vs l=true)->
  ∀l∈(us.map F).foldl (fun acc l=>acc.flatMap fun o=>l.map fun y=>o++[y]) acc,all2 g (vs++us) l=true
 | [],vs,acc,h,l,hl=>by rw[List.append_nil];exact h l hl
 |u::us,vs,acc,h,l,hl=>by
  rw[show vs++u::us=vs++[u]++us by simp];refine zl6 (w:=w) hF us (vs++[u]) _ (fun q hq=>?_) l hl;obtain⟨o,h1,h2⟩:=List.mem_flatMap.1 hq;obtain⟨y,h3,rfl⟩:=List.mem_map.1 h2;have ho:=h o h1;have hy:=hF u y h3;clear hl hq h2 h1 h;induction vs generalizing o with
  |nil=>
   cases o with
   |nil=>simp[all2,hy]
   |cons a r=>simp[all2] at ho
  |cons b s ih=>
   cases o with
   |nil=>simp[all2] at ho
   |cons a r=>
    simp only[all2,xad,xag] at ho ⊢;exact⟨ho.1,ih r ho.2⟩
theorem zl7 {w:List Data}:∀(n:Nat){t:Ty}{v:Val},v∈zkm w n t->zaP w n t v=true
 |0,t,v,h=>by simp[zkm] at h
 |n+1,t,v,h=>by
  unfold zkm at h;unfold zaP;by_cases ht:t.data = -1
  ·rw[if_pos ht] at h ⊢;unfold ze2 at h;obtain⟨i,hi,rfl⟩:=List.mem_map.1 h;rw[List.mem_range] at hi;simp only[xad,decide_eq_true_eq];exact⟨rfl,by show(0:Int)<=(i:Int);omega,by show(i:Int)<=9;omega,rfl⟩
  ·rw[if_neg ht] at h ⊢;obtain⟨c,hc,h⟩:=List.mem_flatMap.1 h;obtain⟨l,hl,rfl⟩:=List.mem_map.1 h;rw[if_pos ⟨rfl,hc⟩];have:=zl6 (w:=w) (g:=zaP w n) (F:=zkm w n) (fun u x hx=>zl7 n hx) (zaa w t c) [] [[]] (by simp[all2]) l hl;exact(by simpa using this:all2 (zaP w n) (zaa w t c) l=true)
theorem zl4 {w:List Data}:∀(n:Nat){t:Ty}{v:Val},zaP w n t v=true->zaP w (n+1) t v=true
 |0,t,v,h=>by simp[zaP] at h
 |n+1,t,v,h=>by
  rw[zaP] at h ⊢;split
  ·rename_i hd;rw[if_pos hd] at h;exact h
  ·rename_i hd;rw[if_neg hd] at h;split at h
   ·rename_i hc;rw[if_pos hc];exact zgN (fun x _ y _ hxy=>zl4 n hxy) h
   ·cases h
theorem ziB {w:List Data}{n m:Nat} (h:n<=m){t:Ty}{v:Val} (hv:zaP w n t v=true):zaP w m t v=true:=by
 induction h with
 |refl=>exact hv
 |step _ ih=>exact zl4 _ ih
theorem Vals.size_of {m:Nat}:∀ {l:List Val},(∀k∈l,k.size<=m)->Vals.size l<=l.length*m
 | [],_=>by simp[Vals.size]
 |x::r,h=>by
  have h1:=h x (by simp);have h2:=Vals.size_of (l:=r) (fun y hy=>h y (by simp[hy]));simp only[Vals.size,xab,Nat.succ_mul];omega
theorem zrc {α β:Type}{f:α->β->Bool}:∀ {l:List α},(∀u∈l,∃v,f u v=true)->∃r,all2 f l r=true
 | [],_=>⟨[],rfl⟩
 |u::s,h=>by
  obtain⟨v,hv⟩:=h u (by simp);obtain⟨r,hr⟩:=zrc (l:=s) (fun x hx=>h x (by simp[hx]));exact⟨v::r,by simp[all2,hv,hr]⟩
theorem zrA {w:List Data}:∀(m:Nat){t:Ty},Hd w m t->∃v,zaP w m t v=true
 |0,_,h=>h.elim
 |m+1,t,h=>by
  by_cases hd:t.data = -1
  ·exact⟨⟨-1,0,[]⟩,by unfold zaP;rw[if_pos hd];rfl⟩
  ·rcases h with h|⟨c,hc,hn,hh⟩
   ·exact absurd h hd
   ·obtain⟨l,hl⟩:=zrc (f:=zaP w m) (l:=zaa w t c) (fun u hu=>zrA m (hh u hu));exact⟨⟨c,0,l⟩,by unfold zaP;rw[if_neg hn,if_pos ⟨rfl,hc⟩];exact hl⟩
theorem zrv {w:List Data} (hd:Dp w){t:Ty} (ht:InS (w.length*4) t) (h:0<dv (zal w) t):∃m v,zaP w m t v=true:=by
 have a:Snd w (zal w)/\Cmp w (w.length*4+1) (zal w):=zcQ hd.cl (w.length*4+1);exact⟨_,zrA _ (zlZ a.1 ht h)⟩
theorem zpZ {w:List Data}:∀ {us:List Ty}{ps:List Pat},us.length=ps.length->(∀i,i<ps.length->∃m v,zaP w m (nth us i) v=true/\hitP (nth ps i) v=true)->∃m l,all2 (zaP w m) us l=true/\hitL ps l=true
 | [],[],_,_=>⟨0,[],rfl,rfl⟩
 |u::us,p::ps,hl,h=>by
  obtain⟨m1,v,h1,h2⟩:=h 0 (by simp);obtain⟨m2,l,h3,h4⟩:=zpZ (us:=us) (ps:=ps) (by simpa using hl) (fun i hi=>h (i+1) (by simpa using hi));refine⟨max m1 m2,v::l, ?_, ?_⟩
  ·simp only[all2,xad];exact⟨ziB (Nat.le_max_left _ _) h1,zgN (fun x _ y _ hxy=>ziB (Nat.le_max_right _ _) hxy) h3⟩
  ·simp only[hitL,xad];exact⟨h2,h4⟩
 | [],_::_,h,_=>by simp at h
 |_::_,[],h,_=>by simp at h
theorem zjg {w:List Data} (hs:Spa w):∀(n:Nat){t:Ty}{p:Pat},InS (w.length*4) t->zae w n t p=true->zaQ w (zal w) n t p=false->∃m v,zaP w m t v=true/\hitP p v=true
 |0,t,p,_,h,_=>by simp[zae] at h
 |n+1,t,p,ht,hp,he=>by
  rcases zbn hp with h1|h3|h4
  ·rw[zeN h1] at he;have:=of_decide_eq_false he;obtain⟨m,v,hv⟩:=zrv hs.dp ht (by omega);exact⟨m,v,hv,ze6 h1⟩
  ·have hi:=zbC hp h3;refine⟨1,⟨-1,p.n,[]⟩, ?_, ?_⟩
   ·unfold zaP;rw[if_pos hi.1];simp only[xad,decide_eq_true_eq];exact⟨rfl,hi.2.1,by show p.n<=9;omega,rfl⟩
   ·rw[zhr h3];show zar p.n p.n p.m=true
    unfold zar;rw[xad,decide_eq_true_eq,decide_eq_true_eq];omega
  ·obtain⟨m1,m2,m3,m4⟩:=zaA hp h4;rw[zh3 h4] at he;have ha:all2 (fun u q=> !zaQ w (zal w) n u q) (zaa w t p.ctor) p.kids=true:=by simpa using he
   obtain⟨m,l,h5,h6⟩:=zpZ (us:=zaa w t p.ctor) (ps:=p.kids) m3.symm (fun i hi=>by
    have hk:=zaN hp hi;rw[za5 h4] at hk;have h7:=zfu m3.symm ha i (by omega);exact zjg hs n (zbp hs.dp ht m1 _ (zac (by omega))) hk (by simpa using h7))
   refine⟨m+1,⟨p.ctor,0,l⟩, ?_, ?_⟩
   ·unfold zaP;rw[if_neg m2,if_pos ⟨rfl,zkb m1⟩];exact h5
   ·rw[zcV h4,xad];exact⟨decide_eq_true rfl,h6⟩
theorem zxx {w:List Data}{n:Nat}{t:Ty}{p:Pat} (h:zae w n t p=true) (h3:p.op=3):p=intQ p.n p.m:=by
 obtain⟨ho,hl⟩:=zfB h;have e:zag w t p=[]:=by unfold zag;rw[if_neg (by omega),if_neg (by omega),if_neg (by omega)]
 rw[e] at hl;have hk:=List.eq_nil_of_length_eq_zero hl;unfold ownP at ho;have hh:=of_decide_eq_true ho;have h1:=hh.2.1 (by omega);have h2:=hh.2.2.2.1 (by omega);obtain⟨op,c,m,k,v,ks⟩:=p;change op=3 at h3
 change v=0 at h1
 change c=0 at h2
 change ks=[] at hk
 rw[h3,h1,h2,hk];rfl
theorem zjL {w:List Data}:∀(k n:Nat){t:Ty}{x z:Pat},zae w k t x=true->zaE n x x=some z->z=x
 |0,n,t,x,z,h,_=>by simp[zae] at h
 |k+1,0,t,x,z,_,h=>by simp[zaE] at h
 |k+1,n+1,t,x,z,hp,h=>by
  rcases zbn hp with h1|h3|h4
  ·rw[zg2 h1] at h;cases h;rfl
  ·rw[zib h3 (by omega)] at h;split at h
   ·cases h
    have e1:maxQ x.n x.n=x.n:=by unfold maxQ;split<;>rfl
    have e2:minQ x.m x.m=x.m:=by unfold minQ;split<;>rfl
    rw[e1,e2];exact(zxx hp h3).symm
   ·cases h
  ·obtain⟨m1,m2,m3,m4⟩:=zaA hp h4;rw[zg3 h4 (by omega) rfl] at h;cases hl:zbL (zaE n) x.kids x.kids [] with
   |none=>rw[hl] at h;cases h
   |some l=>
    rw[hl] at h;simp only[Option.map_some,Option.some.injEq] at h;subst h;obtain⟨r,e,hr,hm⟩:=zfb rfl hl;rw[List.nil_append] at e;subst e;have:l=x.kids:=zh6 (by omega) (fun i hi=>by
     have hk:=zaN hp (i:=i) (by omega);rw[za5 h4] at hk;exact zjL k n hk (hm i (by omega)))
    rw[this];exact m4.symm
theorem zkM {f:Ty->Pat->Pat->List Pat}{c:Int}:∀ {us:List Ty}{xs front:List Pat},us.length=xs.length->(∀j,j<xs.length->f (nth us j) (nth xs j) (nth xs j)=[])->zaL f c us xs xs front=[]
 | [],[],_,_,_=>rfl
 |u::us,x::xs,front,hl,h=>by
  unfold zaL;have h0:=h 0 (by simp);rw[show f u x x=[] from h0,List.map_nil,List.nil_append];split
  ·rfl
  ·exact zkM (by simpa using hl) (fun j hj=>h (j+1) (by simpa using hj))
 | [],_::_,_,h,_=>by simp at h
 |_::_,[],_,h,_=>by simp at h
theorem ziK {w:List Data}:∀(k n:Nat){t:Ty}{x:Pat},zae w k t x=true->zat w n t x x=[]
 |0,n,t,x,h=>by simp[zae] at h
 |k+1,0,t,x,_=>rfl
 |k+1,n+1,t,x,hp=>by
  rcases zbn hp with h1|h3|h4
  ·exact zeS h1
  ·rw[zgK h3];have e1:lowQ x=x.n:=by unfold lowQ;rw[if_neg (by omega)]
   have e2:zch x=x.m:=by unfold zch;rw[if_neg (by omega)]
   have q1:=zrG (zch x) (x.n-1);have q2:=zrF (lowQ x) (x.m+1);unfold zdM zbO;rw[if_neg (by omega),if_neg (by omega)];rfl
  ·obtain⟨m1,m2,m3,m4⟩:=zaA hp h4;rw[zcN h4 h4];unfold zbZ;rw[if_pos rfl];exact zkM m3.symm (fun j hj=>by
    have hk:=zaN hp (i:=j) hj;rw[za5 h4] at hk;exact ziK k n hk)
structure Grid (w:List Data) (t:Ty) (S:Pat->Prop) (V:List Val):Prop where
 meet:∀n a b z,S a->S b->zaE n a b=some z->S z
 minus:∀n a b x,S a->S b->x∈zat w n t a b->S x
 hit:∀n p,S p->zae w n t p=true->zaQ w (zal w) n t p=false->∃v∈V,hitP p v=true
 fits:∃m,∀v∈V,zaP w m t v=true
theorem zoh {w:List Data} (hs:Spa w){t:Ty} (ht:InS (w.length*4) t){k:Nat}{x:Pat} (hx:zae w k t x=true):∃V,V.length<=1/\Grid w t (fun p=>p=x) V:=by
 by_cases hex:∃m v,zaP w m t v=true/\hitP x v=true
 ·obtain⟨m,v,h1,h2⟩:=hex;refine⟨[v],by simp,⟨fun n a b z ha hb h=>by subst ha;subst hb;exact zjL k n hx h,fun n a b z ha hb h=>by subst ha;subst hb;rw[ziK k n hx] at h;simp at h,fun n p hp _ _=>⟨v,by simp,by rw[hp];exact h2⟩,⟨m,fun y hy=>by rw[List.mem_singleton.1 hy];exact h1⟩⟩⟩
 ·refine⟨[],by simp,⟨fun n a b z ha hb h=>by subst ha;subst hb;exact zjL k n hx h,fun n a b z ha hb h=>by subst ha;subst hb;rw[ziK k n hx] at h;simp at h,fun n p hp h1 h2=>?_,⟨0,fun y hy=>by simp at hy⟩⟩⟩;subst hp;exact absurd (zjg hs n ht h1 h2) hex
theorem zpS {w:List Data}{t:Ty} (ht:t.data = -1):Grid w t (fun _=>True) ze2:=by
 refine⟨fun _ _ _ _ _ _ _=>trivial,fun _ _ _ _ _ _ _=>trivial,fun n p _ hp _=>?_,1,fun v hv=>zl7 1 (by unfold zkm;rw[if_pos ht];exact hv)⟩;have hd:∀i:Nat,i<10->(⟨-1,(i:Int),[]⟩:Val)∈ze2:=fun i hi=>by unfold ze2;exact List.mem_map.2 ⟨i,List.mem_range.2 hi,rfl⟩
 rcases zbn hp with h1|h3|h4
 ·exact⟨_,hd 0 (by omega),ze6 h1⟩
 ·have hi:=zbC hp h3;refine⟨_,hd p.n.toNat (by omega), ?_⟩;rw[zhr h3];show zar ((p.n.toNat:Nat):Int) p.n p.m=true
  unfold zar;rw[xad,decide_eq_true_eq,decide_eq_true_eq];omega
 ·exact absurd ht (zaA hp h4).2.1
def CSat (Ss:Nat->Pat->Prop) (c:Int) (k:Nat) (p:Pat):Prop:=∃l,p=za8 c l/\l.length=k/\∀j,j<k->Ss j (nth l j)
theorem zmu {f:Ty->Pat->Pat->List Pat}{c:Int}{Ss:Nat->Pat->Prop}:∀ {us:List Ty}{xs bs front:List Pat},us.length=xs.length->bs.length=xs.length->(∀j,j<front.length->Ss j (nth front j))->
  (∀j,j<xs.length->Ss (front.length+j) (nth xs j)/\(∀z∈f (nth us j) (nth xs j) (nth bs j),Ss (front.length+j) z)/\(∀z,zaE 11 (nth xs j) (nth bs j)=some z->Ss (front.length+j) z))->
  ∀x∈zaL f c us xs bs front,CSat Ss c (front.length+xs.length) x
 | [],[],_,front,_,_,_,_,x,hx=>by simp[zaL] at hx
 |u::us,a0::s,b0::q,front,h1,h2,hfr,hab,x,hx=>by
  have h0:=hab 0 (by simp);have e0:nth (a0::s) 0=a0:=rfl;have e1:nth (b0::q) 0=b0:=rfl;have e2:nth (u::us) 0=u:=rfl;rw[e0,e1,e2,Nat.add_zero] at h0;unfold zaL at hx;rcases List.mem_append.1 hx with hx|hx
  ·obtain⟨z,hz,rfl⟩:=List.mem_map.1 hx;refine⟨front++[z]++s,rfl,by simp only[xaa,xab,xai];omega,fun j hj=>?_⟩;simp only[xab] at hj;by_cases hj1:j<front.length
   ·have e:nth (front++[z]++s) j=nth front j:=by
     simp only[nth,List.getD,List.append_assoc];rw[List.getElem?_append_left (by omega)]
    rw[e];exact hfr j hj1
   ·by_cases hj2:j=front.length
    ·subst hj2;have e:nth (front++[z]++s) front.length=z:=by
      simp only[nth,List.getD,List.append_assoc];rw[List.getElem?_append_right (by omega),Nat.sub_self];all_goals rfl
     rw[e];exact h0.2.1 z hz
    ·obtain⟨i,rfl⟩:∃i,j=front.length+1+i:=⟨j-front.length-1,by omega⟩;have e:nth (front++[z]++s) (front.length+1+i)=nth (a0::s) (i+1):=by
      simp only[nth,List.getD,List.append_assoc];rw[List.getElem?_append_right (by omega),show front.length+1+i-front.length=i+1 by omega];all_goals rfl
     rw[e];have:=(hab (i+1) (by simp;omega)).1;rwa [show front.length+(i+1)=front.length+1+i by omega] at this
  ·cases hm:zaE 11 a0 b0 with
   |none=>rw[hm] at hx;simp at hx
   |some both=>
    rw[hm] at hx;have:=zmu (f:=f) (c:=c) (Ss:=Ss) (us:=us) (xs:=s) (bs:=q) (front:=front++[both]) (by simpa using h1) (by simpa using h2) (fun j hj=>?_) (fun j hj=>?_) x hx
    ·rw[xaa,List.length_singleton,show front.length+1+s.length=front.length+(a0::s).length by simp;omega] at this;exact this
    ·by_cases hj1:j<front.length
     ·have e:nth (front++[both]) j=nth front j:=by
       simp only[nth,List.getD];rw[List.getElem?_append_left (by omega)]
      rw[e];exact hfr j hj1
     ·have hj2:j=front.length:=by simp at hj;omega
      subst hj2;have e:nth (front++[both]) front.length=both:=by
       simp only[nth,List.getD];rw[List.getElem?_append_right (by omega),Nat.sub_self];all_goals rfl
      rw[e];exact h0.2.2 both hm
    ·have:=hab (j+1) (by simpa using hj);rw[xaa,List.length_singleton,show front.length+1+j=front.length+(j+1) by omega];exact this
 | [],_::_,_,_,h,_,_,_,_,_=>by simp at h
 |_::_,[],_,_,h,_,_,_,_,_=>by simp at h
 |_::_,_::_,[],_,_,h,_,_,_,_=>by simp at h
theorem zpM:∀(Vs:List (List Val)) (vs:List Val) (acc:List (List Val)) (q:List Val),Vs.length=vs.length->q∈acc->(∀j,j<Vs.length->nth vs j∈nth Vs j)->q++vs∈Vs.foldl (fun acc l=>acc.flatMap fun o=>l.map fun y=>o++[y]) acc
 | [],[],acc,q,_,h,_=>by simpa using h
 |l::r,v::s,acc,q,hl,h,hm=>by
  rw[List.foldl_cons,show q++v::s=q++[v]++s by simp];refine zpM r s _ (q++[v]) (by simpa using hl) ?_ (fun j hj=>hm (j+1) (by simpa using hj));exact List.mem_flatMap.2 ⟨q,h,List.mem_map.2 ⟨v,hm 0 (by simp),rfl⟩⟩
 | [],_::_,_,_,h,_,_=>by simp at h
 |_::_,[],_,_,h,_,_=>by simp at h
theorem zpL:∀(Vs:List (List Val)) (acc:List (List Val)) (l:List Val),l∈Vs.foldl (fun acc l=>acc.flatMap fun o=>l.map fun y=>o++[y]) acc->∃q∈acc,∃vs,l=q++vs/\vs.length=Vs.length/\∀j,j<Vs.length->nth vs j∈nth Vs j
 | [],acc,l,h=>⟨l,h,[],by simp,rfl,fun j hj=>by simp at hj⟩
 |x::r,acc,l,h=>by
  rw[List.foldl_cons] at h;obtain⟨q,hq,vs,e,h1,h2⟩:=zpL r _ l h;obtain⟨o,ho,hq⟩:=List.mem_flatMap.1 hq;obtain⟨y,hy,rfl⟩:=List.mem_map.1 hq;refine⟨o,ho,y::vs,by rw[e];simp,by simp[h1],fun j hj=>?_⟩;cases j with
  |zero=>exact hy
  |succ j=>exact h2 j (by simpa using hj)
def zgB (c:Int) (k:Nat) (Vs:Nat->List Val):List Val:=(zmJ ((List.range k).map Vs)).map (Val.mk c 0)
theorem zjQ {α:Type} [Inhabited α]{k j:Nat} (f:Nat->α) (h:j<k):nth ((List.range k).map f) j=f j:=by
 rw[zaI (by simpa using h)];simp
theorem zuW (c:Int) (k:Nat) (Vs:Nat->List Val):(zgB c k Vs).length=zdJ ((List.range k).map fun j=>(Vs j).length):=by
 unfold zgB;rw[xac,ztF,List.map_map];rfl
theorem zk1 {P:Nat->Nat->Prop} (hm:∀j m n,m<=n->P j m->P j n):∀(k:Nat),(∀j,j<k->∃m,P j m)->∃m,∀j,j<k->P j m
 |0,_=>⟨0,fun j hj=>by omega⟩
 |k+1,h=>by
  obtain⟨m1,h1⟩:=zk1 hm k (fun j hj=>h j (by omega));obtain⟨m2,h2⟩:=h k (by omega);refine⟨max m1 m2,fun j hj=>?_⟩;by_cases hk:j=k
  ·subst hk;exact hm _ _ _ (Nat.le_max_right _ _) h2
  ·exact hm _ _ _ (Nat.le_max_left _ _) (h1 j (by omega))
theorem zjr {Q:Nat->Val->Prop}:∀(k:Nat),(∀j,j<k->∃v,Q j v)->∃l:List Val,l.length=k/\∀j,j<k->Q j (nth l j)
 |0,_=>⟨[],rfl,fun j hj=>by omega⟩
 |k+1,h=>by
  obtain⟨l,h1,h2⟩:=zjr k (fun j hj=>h j (by omega));obtain⟨v,hv⟩:=h k (by omega);refine⟨l++[v],by simp[h1],fun j hj=>?_⟩;by_cases hk:j=k
  ·subst hk;have e:nth (l++[v]) j=v:=by
    simp only[nth,List.getD];rw[List.getElem?_append_right (by omega),h1,Nat.sub_self];all_goals rfl
   rw[e];exact hv
  ·have e:nth (l++[v]) j=nth l j:=by
    simp only[nth,List.getD];rw[List.getElem?_append_left (by omega)]
   rw[e];exact h2 j (by omega)
theorem zn6 {c:Int}{Ss:Nat->Pat->Prop}{k n:Nat}{a b z:Pat} (hm:∀j,j<k->∀n a b z,Ss j a->Ss j b->zaE n a b=some z->Ss j z) (ha:CSat Ss c k a) (hb:CSat Ss c k b) (h:zaE n a b=some z):CSat Ss c k z:=by
 obtain⟨la,rfl,h1,h2⟩:=ha;obtain⟨lb,rfl,h3,h4⟩:=hb;cases n with
 |zero=>simp[zaE] at h
 |succ n=>
  rw[zg3 (a:=za8 c la) (b:=za8 c lb) rfl (by show ¬(4:Int)=1;decide) rfl] at h;cases hl:zbL (zaE n) (za8 c la).kids (za8 c lb).kids [] with
  |none=>rw[hl] at h;cases h
  |some l=>
   rw[hl] at h;simp only[Option.map_some,Option.some.injEq] at h;subst h;have hll:(za8 c la).kids.length=(za8 c lb).kids.length:=by show la.length=lb.length;omega
   obtain⟨r,e,hr,hi⟩:=zfb hll hl;rw[List.nil_append] at e;subst e;have hk:(za8 c la).kids.length=k:=h1;refine⟨l,rfl,by omega,fun j hj=>hm j hj n _ _ _ (h2 j hj) (h4 j hj) (hi j (by omega))⟩
theorem zlY {w:List Data}{t:Ty}{c:Int}{Ss:Nat->Pat->Prop}{n:Nat}{a b x:Pat} (hm:∀j,j<(zaa w t c).length->∀n a b z,Ss j a->Ss j b->zaE n a b=some z->Ss j z)
  (hn:∀j,j<(zaa w t c).length->∀n a b x,Ss j a->Ss j b->x∈zat w n (nth (zaa w t c) j) a b->Ss j x) (ha:CSat Ss c (zaa w t c).length a) (hb:CSat Ss c (zaa w t c).length b) (h:x∈zbZ (zat w n) w t a b):
  CSat Ss c (zaa w t c).length x:=by
 obtain⟨la,rfl,h1,h2⟩:=ha;obtain⟨lb,rfl,h3,h4⟩:=hb;unfold zbZ at h;rw[if_pos (show(za8 c la).ctor=(za8 c lb).ctor from rfl)] at h;have:=zmu (f:=zat w n) (c:=c) (Ss:=Ss) (us:=zaa w t c) (xs:=la) (bs:=lb) (front:=[]) (by omega) (by omega) (fun j hj=>by simp at hj) (fun j hj=>by
  rw[xai,Nat.zero_add];exact⟨h2 j (by omega),fun z hz=>hn j (by omega) n _ _ z (h2 j (by omega)) (h4 j (by omega)) hz,fun z hz=>hm j (by omega) 11 _ _ z (h2 j (by omega)) (h4 j (by omega)) hz⟩) x h
 rw[xai,Nat.zero_add,h1] at this;exact this
theorem zhq {w:List Data}{t:Ty}{c:Int} (hc:c∈zaj w t){Ss:Nat->Pat->Prop}{Vs:Nat->List Val} (hg:∀j,j<(zaa w t c).length->Grid w (nth (zaa w t c) j) (Ss j) (Vs j)):
  Grid w t (CSat Ss c (zaa w t c).length) (zgB c (zaa w t c).length Vs):=by
 have hdt:t.data≠ -1:=fun e=>by unfold zaj at hc;rw[if_pos e] at hc;simp at hc
 refine⟨fun n a b z ha hb h=>zn6 (fun j hj=>(hg j hj).meet) ha hb h,fun n a b x ha hb h=>?_,fun n p hp h1 h2=>?_, ?_⟩
 ·cases n with
  |zero=>simp[zat] at h
  |succ n=>
   have ha4:a.op=4:=by obtain⟨l,rfl,_⟩:=ha;rfl
   have hb4:b.op=4:=by obtain⟨l,rfl,_⟩:=hb;rfl
   rw[zcN hb4 ha4] at h;exact zlY (fun j hj=>(hg j hj).meet) (fun j hj=>(hg j hj).minus) ha hb h
 ·obtain⟨l,rfl,h3,h4⟩:=hp;cases n with
  |zero=>simp[zae] at h1
  |succ n=>
   rw[zh3 rfl] at h2;have ha:all2 (fun u q=> !zaQ w (zal w) n u q) (zaa w t c) l=true:=(by simpa using h2:all2 (fun u q=> !zaQ w (zal w) n u q) (zaa w t (za8 c l).ctor) (za8 c l).kids=true);obtain⟨vs,h5,h6⟩:=zjr (Q:=fun j v=>v∈Vs j/\hitP (nth l j) v=true) (zaa w t c).length (fun j hj=>by
    have hk:=zaN h1 (i:=j) (by show j<l.length;omega);rw[za5 rfl] at hk;have h7:=zfu h3.symm ha j hj;exact(hg j hj).hit n (nth l j) (h4 j hj) hk (by simpa using h7))
   refine⟨⟨c,0,vs⟩, ?_, ?_⟩
   ·unfold zgB;refine List.mem_map.2 ⟨vs, ?_,rfl⟩;have:=zpM ((List.range (zaa w t c).length).map Vs) vs [[]] [] (by simp[h5]) (by simp) (fun j hj=>by
     rw[xac,List.length_range] at hj;rw[zjQ Vs hj];exact(h6 j hj).1)
    simpa [zmJ] using this
   ·rw[zcV rfl,xad];refine⟨decide_eq_true rfl, ?_⟩;show hitL l vs=true
    rw[zk5 (by omega)];exact fun j hj=>(h6 j (by omega)).2
 ·obtain⟨m,hm⟩:=zk1 (P:=fun j m=>∀v∈Vs j,zaP w m (nth (zaa w t c) j) v=true) (fun j m n hmn h v hv=>ziB hmn (h v hv)) (zaa w t c).length (fun j hj=>(hg j hj).fits);refine⟨m+1,fun v hv=>?_⟩;unfold zgB at hv;obtain⟨l,hl,rfl⟩:=List.mem_map.1 hv;obtain⟨q,hq,vs,e,h1,h2⟩:=zpL _ _ l hl;rw[List.mem_singleton] at hq;rw[hq,List.nil_append] at e;subst e;unfold zaP;rw[if_neg hdt,if_pos ⟨rfl,zkb hc⟩];rw[xac,List.length_range] at h1;refine zcf (by show(zaa w t c).length=l.length;omega) (fun j hj=>?_);have hj:j<(zaa w t c).length:=hj;have:=h2 j (by simpa using hj);rw[zjQ Vs hj] at this;exact hm j hj _ this
section
variable {w:List Data} (hs:Spa w){t:Ty} (ht:InS (w.length*4) t)
include hs ht
theorem zoi (hdt:t.data≠ -1){Ss:Int->Nat->Pat->Prop}{Vs:Int->Nat->List Val} (hg:∀c∈zaj w t,∀j,j<(zaa w t c).length->Grid w (nth (zaa w t c) j) (Ss c j) (Vs c j)) (hany:∀c∈zaj w t,∀j,Ss c j anyQ):
  Grid w t (fun p=>p.op=1\/∃c∈zaj w t,CSat (Ss c) c (zaa w t c).length p) ((zaj w t).flatMap fun c=>zgB c (zaa w t c).length (Vs c)):=by
 have hw:∀c∈zaj w t,CSat (Ss c) c (zaa w t c).length (zbJ w t c):=fun c hc=>by
  refine⟨_,rfl,by simp,fun j hj=>?_⟩;have e:nth ((zaa w t c).map fun _=>anyQ) j=anyQ:=by rw[zaI (by simpa using hj)];simp
  rw[e];exact hany c hc j
 have h4:∀ {c:Int}{k:Nat}{S:Nat->Pat->Prop}{p:Pat},CSat S c k p->p.op=4/\p.ctor=c:=fun h=>by obtain⟨l,rfl,_⟩:=h;exact⟨rfl,rfl⟩
 refine⟨fun n a b z ha hb h=>?_,fun n a b x ha hb h=>?_,fun n p hp h1 h2=>?_, ?_⟩
 ·cases n with
  |zero=>simp[zaE] at h
  |succ n=>
   rcases ha with ha|⟨c,hc,ha⟩
   ·rw[zg2 ha] at h;cases h;exact hb
   ·rcases hb with hb|⟨c',hc',hb⟩
    ·rw[zia (by have:=(h4 ha).1;omega) hb] at h;cases h;exact .inr ⟨c,hc,ha⟩
    ·by_cases e:c=c'
     ·subst e;exact .inr ⟨c,hc,zn6 (fun j hj=>(hg c hc j hj).meet) ha hb h⟩
     ·rw[zgJ (h4 ha).1 (by have:=(h4 hb).1;omega) (by rw[(h4 ha).2,(h4 hb).2];exact e)] at h;cases h
 ·cases n with
  |zero=>simp[zat] at h
  |succ n=>
   rcases hb with hb|⟨c',hc',hb⟩
   ·rw[zeS hb] at h;simp at h
   ·have key:∀c∈zaj w t,∀a,CSat (Ss c) c (zaa w t c).length a->x∈zbZ (zat w n) w t a b->x.op=1\/∃c∈zaj w t,CSat (Ss c) c (zaa w t c).length x:=fun c hc a ha h=>by
     by_cases e:c=c'
     ·subst e;exact .inr ⟨c,hc,zlY (fun j hj=>(hg c hc j hj).meet) (fun j hj=>(hg c hc j hj).minus) ha hb h⟩
     ·unfold zbZ at h;rw[if_neg (by rw[(h4 ha).2,(h4 hb).2];exact e),List.mem_singleton] at h;rw[h];exact .inr ⟨c,hc,ha⟩
    rcases ha with ha|⟨c,hc,ha⟩
    ·rw[zfz (h4 hb).1 ha] at h;obtain⟨c,hc,h⟩:=List.mem_flatMap.1 h;exact key c hc _ (hw c hc) h
    ·rw[zcN (h4 hb).1 (h4 ha).1] at h;exact key c hc a ha h
 ·rcases hp with hp|⟨c,hc,hp⟩
  ·cases n with
   |zero=>simp[zae] at h1
   |succ n=>
    rw[zeN hp] at h2;have h0:=of_decide_eq_false h2;obtain⟨m,v,hv⟩:=zrv hs.dp ht (by omega);cases m with
    |zero=>simp[zaP] at hv
    |succ m=>
     obtain⟨f1,f2,f3⟩:=zeP hv hdt;have hh:hitP (zbJ w t v.ctor) v=true:=by
      rw[zcV rfl];show(decide (v.ctor=v.ctor)&&hitL ((zaa w t v.ctor).map fun _=>anyQ) v.kids)=true
      rw[zk4,decide_eq_true rfl];rfl
     have hwp:zae w 2 t (zbJ w t v.ctor)=true:=zcu f1;obtain⟨v',h5,_⟩:=(zhq f1 (fun j hj=>hg v.ctor f1 j hj)).hit 2 _ (hw _ f1) hwp (zjC hs 2 (m+1) ht hwp hv hh);exact⟨v',List.mem_flatMap.2 ⟨_,f1,h5⟩,ze6 hp⟩
  ·obtain⟨v',h5,h6⟩:=(zhq hc (fun j hj=>hg c hc j hj)).hit n p hp h1 h2;exact⟨v',List.mem_flatMap.2 ⟨c,hc,h5⟩,h6⟩
 ·obtain⟨m,hm⟩:=zk1 (P:=fun i m=>∀v∈zgB (nth (zaj w t) i) (zaa w t (nth (zaj w t) i)).length (Vs (nth (zaj w t) i)),zaP w m t v=true) (fun j m n hmn h v hv=>ziB hmn (h v hv)) (zaj w t).length
   (fun i hi=>(zhq (zac hi) (fun j hj=>hg _ (zac hi) j hj)).fits)
  refine⟨m,fun v hv=>?_⟩;obtain⟨c,hc,hv⟩:=List.mem_flatMap.1 hv;obtain⟨i,hi,rfl⟩:=List.getElem_of_mem hc;rw[<-zaI hi] at hv;exact hm i hi v hv
end
theorem ztm:∀(V:List Val) (l:List Pat),(∀x∈l,∃v∈V,hitP x v=true)->(∀v∈V,l.countP (fun x=>hitP x v)<=1)->l.length<=V.length
 | [],l,h,_=>by
  cases l with
  |nil=>simp
  |cons x r=>obtain⟨v,hv,_⟩:=h x (by simp);simp at hv
 |v::V,l,h,hc=>by
  have h1:=hc v (by simp);have h2:=ztm V (l.filter fun x=> !hitP x v) (fun x hx=>by
   obtain⟨h3,h4⟩:=List.mem_filter.1 hx;obtain⟨u,hu,h5⟩:=h x h3;rcases List.mem_cons.1 hu with rfl|hu
   ·rw[h5] at h4;simp at h4
   ·exact⟨u,hu,h5⟩) (fun u hu=>Nat.le_trans (List.Sublist.countP_le List.filter_sublist) (hc u (by simp[hu])))
  have h3:l.length=l.countP (fun x=>hitP x v)+(l.filter fun x=> !hitP x v).length:=by
   rw[<-List.countP_eq_length_filter];have:=List.length_eq_countP_add_countP (fun x=>hitP x v) (l:=l);rw[this];congr 1
   refine List.countP_congr (fun x _=>?_);simp
  simp only[xab];omega
def sepQ (w:List Data) (t:Ty):List Pat->List Pat->List Pat->Option (List Pat)
 |_,[],out=>some out
 |front,p::r,out=>match zay w t [p] front with
  |none=>none
  |some m=>sepQ w t (front++[p]) r (out++m)
theorem zrW {w:List Data}{t:Ty}{S:Pat->Prop} (hmin:∀a b x,S a->S b->x∈zat w 10 t a b->S x):∀(away l r:List Pat),(∀b∈away,zae w 10 t b=true/\S b)->(∀a∈l,zae w 11 t a=true/\S a/\zbh w t a=true)->subL w t l away=some r->∀x∈r,zae w 11 t x=true/\S x/\zbh w t x=true
 | [],l,r,_,hl,h=>by rw[subL] at h;cases h;exact hl
 |b::away,l,r,hb,hl,h=>by
  rw[subL] at h;split at h
  ·refine zrW hmin away _ r (fun x hx=>hb x (by simp[hx])) (fun x hx=>?_) h;have h1:=zei (fun a ha=>(hl a ha).1) (hb b (by simp)).1 x hx;unfold zbR at hx;obtain⟨h2,h3⟩:=List.mem_filter.1 hx;obtain⟨a,ha,h4⟩:=List.mem_flatMap.1 h2;exact⟨h1,hmin a b x (hl a ha).2.1 (hb b (by simp)).2 h4,h3⟩
  ·cases h
theorem zkS {w:List Data}{t:Ty}{S:Pat->Prop} (hmin:∀a b x,S a->S b->x∈zat w 10 t a b->S x){away l r:List Pat} (hb:∀b∈away,zae w 10 t b=true/\S b) (hl:∀a∈l,zae w 11 t a=true/\S a) (h:zay w t l away=some r):∀x∈r,zae w 11 t x=true/\S x/\zbh w t x=true:=by
 unfold zay at h;exact zrW hmin away _ r hb (fun a ha=>⟨(hl a (List.mem_filter.1 ha).1).1,(hl a (List.mem_filter.1 ha).1).2,(List.mem_filter.1 ha).2⟩) h
theorem zrS {w:List Data}{t:Ty}{S:Pat->Prop} (hmin:∀a b x,S a->S b->x∈zat w 10 t a b->S x):∀(r front out:List Pat){res:List Pat},(∀b∈front,zae w 10 t b=true/\S b)->(∀b∈r,zae w 10 t b=true/\S b)->(∀x∈out,zae w 11 t x=true/\S x/\zbh w t x=true)->
  sepQ w t front r out=some res->∀x∈res,zae w 11 t x=true/\S x/\zbh w t x=true
 | [],front,out,res,_,_,ho,h=>by rw[sepQ] at h;cases h;exact ho
 |p::r,front,out,res,hf,hr,ho,h=>by
  rw[sepQ] at h;cases hw:zay w t [p] front with
  |none=>rw[hw] at h;cases h
  |some m=>
   rw[hw] at h;have hp:=hr p (by simp);have h1:=zkS hmin hf (fun a ha=>by rw[List.mem_singleton.1 ha];exact⟨zc4 (by omega) hp.1,hp.2⟩) hw;refine zrS hmin r (front++[p]) (out++m) (fun b hb=>?_) (fun b hb=>hr b (by simp[hb])) (fun x hx=>?_) h
   ·rcases List.mem_append.1 hb with hb|hb
    ·exact hf b hb
    ·rw[List.mem_singleton.1 hb];exact hp
   ·rcases List.mem_append.1 hx with hx|hx
    ·exact ho x hx
    ·exact h1 x hx
theorem zv2 (n:Nat):∀f p r:Bool,(n+if f=true then 0 else one p)+(if (f||p)=true then 0 else one r)=n+if f=true then 0 else one (p||r):=by
 intro f p r;cases f<;>cases p<;>cases r<;>simp[one]
theorem zxw:∀b:Bool,one b<=1:=by decide
section
variable {w:List Data} (hs:Spa w){t:Ty} (ht:InS (w.length*4) t)
include hs ht
theorem znD {v:Val}{k:Nat} (hv:zaP w k t v=true):∀(r front out:List Pat){res:List Pat},(∀b∈front,zae w 10 t b=true)->(∀b∈r,zae w 10 t b=true)->sepQ w t front r out=some res->
  res.countP (fun x=>hitP x v)=out.countP (fun x=>hitP x v)+if front.any (fun x=>hitP x v)=true then 0 else one (r.any fun x=>hitP x v)
 | [],front,out,res,_,_,h=>by
  rw[sepQ] at h;cases h;simp[one]
 |p::r,front,out,res,hf,hr,h=>by
  rw[sepQ] at h;cases hw:zay w t [p] front with
  |none=>rw[hw] at h;cases h
  |some m=>
   rw[hw] at h;have hp:=hr p (by simp);have h1:=zkR hs ht hv hf (fun a ha=>by rw[List.mem_singleton.1 ha];exact zc4 (by omega) hp) hw;have h2:=znD hv r (front++[p]) (out++m) (fun b hb=>by
    rcases List.mem_append.1 hb with hb|hb
    ·exact hf b hb
    ·rw[List.mem_singleton.1 hb];exact hp) (fun b hb=>hr b (by simp[hb])) h
   rw[h2,List.countP_append,h1,List.any_append,List.any_cons,List.countP_singleton];simp only[List.any_cons,List.any_nil,Bool.or_false];exact zv2 _ _ _ _
theorem zrR {S:Pat->Prop}{V:List Val} (hg:Grid w t S V){l res:List Pat} (hl:∀b∈l,zae w 10 t b=true/\S b) (h:sepQ w t [] l []=some res):res.length<=V.length:=by
 obtain⟨m,hm⟩:=hg.fits;have h1:=zrS (hg.minus 10) l [] [] (by simp) hl (by simp) h;refine ztm V res (fun x hx=>?_) (fun v hv=>?_)
 ·obtain⟨h2,h3,h4⟩:=h1 x hx;exact hg.hit 11 x h3 h2 (by unfold zbh at h4;simpa using h4)
 ·have:=znD hs ht (hm v hv) l [] [] (by simp) (fun b hb=>(hl b hb).1) h;rw[this];simp only[List.countP_nil,List.any_nil,Nat.zero_add];exact zxw _
end
abbrev zhm (o:List Pat):List D:=[.sl (Pat.cs o)]
abbrev ziz (ls:List (List Pat)):D:= .sl (ls.map zhm)
theorem zss {N:Nat} (acc:List (List Pat)) (l:List Pat):(za6 (acc.take N) l).take N=(za6 acc l).take N:=by
 by_cases h:acc.length<=N
 ·rw[List.take_of_length_le h]
 have e0:∀a:List (List Pat),za6 a []=[]:=fun a=>by unfold za6;simp
 cases l with
 |nil=>rw[e0,e0]
 |cons c r=>
  have e:za6 acc (c::r)=za6 (acc.take N) (c::r)++za6 (acc.drop N) (c::r):=by
   unfold za6;rw[<-List.flatMap_append,List.take_append_drop]
  rw[e,zd7];rw[zf5,List.length_take,Nat.min_eq_left (by omega),xab];exact Nat.le_mul_of_pos_right _ (by omega)
theorem zst {N:Nat} (acc:List (List Pat)) (l:List Pat):(za6 acc (l.take N)).take N=(za6 acc l).take N:=by
 by_cases h:l.length<=N
 ·rw[List.take_of_length_le h]
 cases acc with
 |nil=>rfl
 |cons q r=>
  have e:∀l:List Pat,za6 (q::r) l=l.map (fun c=>q++[c])++za6 r l:=fun l=>by unfold za6;rw[List.flatMap_cons]
  rw[e,e,zd7 (by rw[xac,List.length_take];omega),zd7 (by rw[xac];omega),List.map_take,List.take_take,Nat.min_self]
def tupQ (m:Nat) (ls:List (List Pat)):List (List Pat):=ls.foldl (fun acc l=>(za6 acc l).take (m+1)) [[]]
theorem zj7 (m:Nat) (ls:List (List Pat)) (l:List Pat):tupQ m (ls++[l])=(za6 (tupQ m ls) l).take (m+1):=by
 unfold tupQ;rw[List.foldl_append];rfl
theorem zqL (m:Nat):∀(ls:List (List Pat)) (acc:List (List Pat)),(ls.map (List.take (m+1))).foldl (fun acc l=>(za6 acc l).take (m+1)) (acc.take (m+1))=(ls.foldl za6 acc).take (m+1)
 | [],acc=>rfl
 |l::r,acc=>by
  rw[xae,List.foldl_cons,List.foldl_cons,zst,zss];exact zqL m r (za6 acc l)
theorem zwc (m:Nat) (ls:List (List Pat)):tupQ m (ls.map (List.take (m+1)))=(zdS ls).take (m+1):=by
 have h:=zqL m ls [[]];have e:([[]]:List (List Pat)).take (m+1)=[[]]:=by simp
 rw[e] at h;exact h
theorem zqJ (m:Nat) (ls:List (List Pat)):(tupQ m ls).length<=m+1:=by
 have key:∀(ls acc:List (List Pat)),acc.length<=m+1->(ls.foldl (fun acc l=>(za6 acc l).take (m+1)) acc).length<=m+1:=by
  intro ls;induction ls with
  |nil=>intro acc h;exact h
  |cons l r ih=>intro acc h;exact ih _ (by rw[List.length_take];omega)
 exact key ls [[]] (by simp)
theorem zqK (m:Nat){ls:List (List Pat)}{o:List Pat} (h:o∈tupQ m ls):o.length=ls.length:=by
 have key:∀(ls acc:List (List Pat)) (n:Nat),(∀o∈acc,o.length=n)->∀o∈ls.foldl (fun acc l=>(za6 acc l).take (m+1)) acc,o.length=n+ls.length:=by
  intro ls;induction ls with
  |nil=>intro acc n h o ho;exact h o ho
  |cons l r ih=>
   intro acc n h o ho;have:=ih _ (n+1) (fun o' ho'=>by
    have ho':=List.mem_of_mem_take ho';unfold za6 at ho';simp only[List.mem_flatMap,List.mem_map] at ho';obtain⟨p,hp,q,_,rfl⟩:=ho';simp[h p hp]) o ho
   simp only[xab];omega
 have:=key ls [[]] 0 (by simp) o h;simpa using this
def zku (l:List Pat) (o:List Pat):List (List Pat):=l.map fun y=>o++[y]
theorem znU (acc:List (List Pat)) (l:List Pat):za6 acc l=acc.flatMap (zku l):=rfl
theorem zqH {X:List (List Pat)}{l:List Pat}{o:List Pat}{j m:Nat} (hc:¬j<l.length\/¬((X++(l.take j).map fun y=>o++[y]).take (m+1)).length<=m):
  (X++(l.take j).map fun y=>o++[y]).take (m+1)=(X++zku l o).take (m+1):=zwa hc
theorem zuU {α:Type}{N:Nat} (a b:List α):(a.take N++b.take N).take N=(a++b).take N:=by
 by_cases h:a.length<=N
 ·rw[List.take_of_length_le h,List.take_append,List.take_append,List.take_take,Nat.min_eq_left (by omega)]
 ·rw[zd7 (by rw[List.length_take];omega),zd7 (by omega),List.take_take,Nat.min_self]
def za2 (p:Pat):List Pat:=(zau p).take 401
theorem zuP {p:Pat} (h:p.op=5) (hk:p.kids.length=2):za2 p=(za2 (nth p.kids 0)++za2 (nth p.kids 1)).take 401:=by
 unfold za2;rw[zdn h hk,zuU]
theorem zuQ {p:Pat} (h:p.op≠5):za2 p=(tupQ 400 (p.kids.map za2)).map fun l=> .mk p.op p.ctor p.n p.m p.var l:=by
 unfold za2;rw[zcU h,<-List.map_take];congr 1
 have:=zwc 400 (p.kids.map zau);rw[List.map_map] at this;exact this.symm
theorem zgz (p:Pat):(za2 p).length<=401:=by unfold za2;rw[List.length_take];omega
theorem zc0:∀(n:Nat){p:Pat},p.size<=n->p.ok->FnD Tryz.prog 64 [.agg [.d (.i p.op),.d (.i p.ctor),.d (.i p.n),.d (.i p.m),.d (.i p.var),.d (zad p.kids)]] [] (.agg [.d (.i (zav p).op),.d (.i (zav p).ctor),.d (.i (zav p).n),.d (.i (zav p).m),.d (.i (zav p).var),.d (zad (zav p).kids)]) []
 |0,p,h,_=>by rw[Pat.size_eq] at h;omega
 |n+1,p,h,hok=>by
  rw[Pat.size_eq] at h;rw[Pat.ok_iff] at hok;have hok1:=hok.1;by_cases h2:p.op=2
  ·rw[zre h2];refine bd Tryz.f64 42 [] [] fun w0 F0 own kept hk=>?_;refine bx 3001 ?_;refine ab 3002 tz36 ?_;refine tv ?_;refine sq ?_ ?_<;>intro h1 h1p h1s<;>(try simp only[Q] at h1p);refine bu [0] [_] st36 ?_;refine so ty36 ?_;refine tv ?_;refine rn0 (.cons (.cellA ty36 rfl rfl rfl) .nil) (.agg (.cons (.eqd ?_) (.cons (.eqd ?_) (.cons (.eqd ?_) (.cons (.eqd ?_) (.cons (.eqd ?_) (.cons (.nild ?_) .nil)))))));rotate_left 6;exfalso;omega;all_goals (rfl)
  by_cases h6:p.op=6/\0<p.kids.length
  ·rw[zrf h6.1 h6.2];refine bd Tryz.f64 42 [] [] fun w0 F0 own kept hk=>?_;refine bx 3001 ?_;refine ab 3002 tz36 ?_;refine tv ?_;refine sq ?_ ?_<;>intro h1 h1p h1s<;>(try simp only[Q,Pat.cs_len] at h1p);exfalso;omega;refine sq ?_ ?_<;>intro h2 h2p h2s<;>(try simp only[Q,Pat.cs_len] at h2p);refine sq ?_ ?_<;>intro h3 h3p h3s<;>(try simp only[Q,Pat.cs_len] at h3p);refine xaS (i:=0) sl34 .none rfl rfl rfl rfl (zaH h6.2) rfl ?_;refine ev ?_;refine wc zo4 (zc0 n (p:=nth p.kids 0) (by have:=Pats.size_mem (zac h6.2);omega) (Pats.ok_mem hok.2 _ (zac h6.2))) rfl rfl ?_;refine so ty36 ?_;refine tv ?_;refine rn0 (.cons (.cellA ty36 rfl rfl rfl) .nil) (.agg (.cons (.eqd ?_) (.cons (.eqd ?_) (.cons (.eqd ?_) (.cons (.eqd ?_) (.cons (.eqd ?_) (.cons (.eqd ?_) .nil)))))));rotate_left 6;exfalso;omega;exfalso;omega;all_goals (rfl)
  ·rw[zrg h2 h6];refine bd Tryz.f64 42 [] [] fun w0 F0 own kept hk=>?_;refine bx 3001 ?_;refine ab 3002 tz36 ?_;refine tv ?_;refine sq ?_ ?_<;>intro h1 h1p h1s<;>(try simp only[Q,Pat.cs_len] at h1p);exfalso;omega;refine sq ?_ ?_<;>intro h2 h2p h2s<;>(try simp only[Q,Pat.cs_len] at h2p);refine sq ?_ ?_<;>intro h3 h3p h3s<;>(try simp only[Q,Pat.cs_len] at h3p);exfalso;apply h6;exact⟨by omega,by omega⟩;refine ab 3003 tz36 ?_;refine so ty36 ?_;refine tv ?_;refine so ty34 ?_;refine tv ?_;refine xan 3003 5 7 6 rfl rfl rfl rfl ?_;refine xak (ι:=List (Pat)×List (Pat)) hk (fun x=>[(4,.d (.i (x.1.length:Int)))]) [23,24,25,26,27,28,29,30,31,32,33,34,35,36,37,38,39,40] (fun x=>[(3003,some (.box [.d (.i p.op),.d (.i p.ctor),.d (.i p.n),.d (.i p.m),.d (.i p.var),.gl 7 ((x.1.map zav).map Pat.cc)])),(7,some (.tok ((x.1.map zav).map Pat.cc).length 6))]) (fun x=>x.1++x.2=p.kids) (fun x=>x.2.length) ([],p.kids) (by simp) ⟨⟨_,rfl,xaq ?_⟩,trivial⟩ ⟨?_,⟨zab ?_,trivial⟩⟩ (fun x=>rfl) (fun x hg1=>?_);focus ((simp;done))
   focus (first|rfl|(simp[getH];done))
   focus ((simp;done))
   obtain⟨pre,rest⟩:=x;dsimp only at hg1 ⊢;refine evc [] [] ?_;refine sq ?_ ?_<;>intro h4 h4p h4s<;>(try simp only[Q,Pat.cs_len] at h4p);rcases rest with _|⟨y,rest⟩
   ·exfalso;simp_all
   refine xaS sl34 .none rfl rfl rfl rfl (Pat.cs_at' hg1) rfl ?_;refine evd [] [] ?_;refine wc zo4 (zc0 n (p:=y) (by have:=Pats.size_mem (l:=p.kids) (v:=y) (by rw[<-hg1];simp);omega) (Pats.ok_mem hok.2 y (by rw[<-hg1];simp))) rfl rfl ?_;refine si [0] [_] sl34 tz36 ?_;refine ap sl34 zz36 rfl rfl rfl (by intro x hx;first|(simp at hx;subst hx;rfl)|exact zgM _ x hx) (by have:=congrArg List.length hg1;simp at this;simp;omega) ?_;refine evd [] [] ?_;refine so ty34 ?_;refine dr ?_;refine ar ?_;refine xah ((pre++[y],rest)) ⟨(by have hz:=hg1;rw[<-hz];simp),(by simp),sx ⟨⟨_,rfl,xaq ?_⟩,trivial⟩ ⟨?_,⟨zab ?_,trivial⟩⟩⟩;focus ((simp;done))
   focus (first|rfl|(simp[getH];done))
   focus ((simp;done))
   have hrest:rest=[]:=by
    rcases rest with _|⟨a,b⟩
    ·rfl
    ·exfalso;have hz:=congrArg List.length (hg1);simp only[xaa,xab,xac] at hz;omega
   subst hrest;refine so ty36 ?_;refine tv ?_;refine rn0 (.cons (.cellA ty36 rfl rfl rfl) .nil) (.agg (.cons (.eqd ?_) (.cons (.eqd ?_) (.cons (.eqd ?_) (.cons (.eqd ?_) (.cons (.eqd ?_) (.cons (.gld ?_) .nil)))))));rotate_left 6;refine ab 3003 tz36 ?_;refine so ty36 ?_;refine tv ?_;refine so ty34 ?_;refine tv ?_;refine xan 3003 5 7 6 rfl rfl rfl rfl ?_;refine xak (ι:=List (Pat)×List (Pat)) hk (fun x=>[(4,.d (.i (x.1.length:Int)))]) [23,24,25,26,27,28,29,30,31,32,33,34,35,36,37,38,39,40] (fun x=>[(3003,some (.box [.d (.i p.op),.d (.i p.ctor),.d (.i p.n),.d (.i p.m),.d (.i p.var),.gl 7 ((x.1.map zav).map Pat.cc)])),(7,some (.tok ((x.1.map zav).map Pat.cc).length 6))]) (fun x=>x.1++x.2=p.kids) (fun x=>x.2.length) ([],p.kids) (by simp) ⟨⟨_,rfl,xaq ?_⟩,trivial⟩ ⟨?_,⟨zab ?_,trivial⟩⟩ (fun x=>rfl) (fun x hg1=>?_);focus ((simp;done))
   focus (first|rfl|(simp[getH];done))
   focus ((simp;done))
   obtain⟨pre,rest⟩:=x;dsimp only at hg1 ⊢;refine evc [] [] ?_;refine sq ?_ ?_<;>intro h5 h5p h5s<;>(try simp only[Q,Pat.cs_len] at h5p);rcases rest with _|⟨y,rest⟩
   ·exfalso;simp_all
   refine xaS sl34 .none rfl rfl rfl rfl (Pat.cs_at' hg1) rfl ?_;refine evd [] [] ?_;refine wc zo4 (zc0 n (p:=y) (by have:=Pats.size_mem (l:=p.kids) (v:=y) (by rw[<-hg1];simp);omega) (Pats.ok_mem hok.2 y (by rw[<-hg1];simp))) rfl rfl ?_;refine si [0] [_] sl34 tz36 ?_;refine ap sl34 zz36 rfl rfl rfl (by intro x hx;first|(simp at hx;subst hx;rfl)|exact zgM _ x hx) (by have:=congrArg List.length hg1;simp at this;simp;omega) ?_;refine evd [] [] ?_;refine so ty34 ?_;refine dr ?_;refine ar ?_;refine xah ((pre++[y],rest)) ⟨(by have hz:=hg1;rw[<-hz];simp),(by simp),sx ⟨⟨_,rfl,xaq ?_⟩,trivial⟩ ⟨?_,⟨zab ?_,trivial⟩⟩⟩;focus ((simp;done))
   focus (first|rfl|(simp[getH];done))
   focus ((simp;done))
   have hrest:rest=[]:=by
    rcases rest with _|⟨a,b⟩
    ·rfl
    ·exfalso;have hz:=congrArg List.length (hg1);simp only[xaa,xab,xac] at hz;omega
   subst hrest;refine so ty36 ?_;refine tv ?_;refine rn0 (.cons (.cellA ty36 rfl rfl rfl) .nil) (.agg (.cons (.eqd ?_) (.cons (.eqd ?_) (.cons (.eqd ?_) (.cons (.eqd ?_) (.cons (.eqd ?_) (.cons (.gld ?_) .nil)))))));rotate_left 6;all_goals (first|rfl|(rw[List.append_nil] at hg1;rw[<-hg1,xat];done)|(rw[List.append_nil] at hg1;subst hg1;rw[<-xat];all_goals rfl))
theorem zlq {ls:List (List Pat)} (hl:ls.length<=1000000000000) (hls:∀l∈ls,l.length<=1000000000000):FnD Tryz.prog 280 [.d (ziz ls)] [] (.d (ziz (tupQ 400 ls))) []:=by
 refine bd Tryz.f280 62 [] [] fun w0 F0 own kept hk=>?_;refine xbf sl34 .none rfl ?_;refine si [0] [_] zdT tz34 ?_;refine ev ?_;refine xak (ι:=List (List Pat)×List (List Pat)) hk (fun x=>[(4,.d (.i (x.1.length:Int))),(3,.d (.sl ((tupQ 400 x.1).map zhm)))]) [5,6,7,10,11,12,13,14,15,16,17,18,19,20,21,22,23,24,25,26,27,28,29,30,31,32,33,34,35,36,37,38,39,40,41,42,43,44,45,46,47,48,49,50,51,52,53,54,55,56,57,58,59,60] (fun x=>[]) (fun x=>x.1++x.2=ls) (fun x=>x.2.length) ([],ls) (by simp) ⟨⟨_,rfl,xaq ?_⟩,⟨⟨_,rfl, ?_⟩,trivial⟩⟩ trivial (fun x=>rfl) (fun x hg1=>?_);focus (first|rfl|(simp;done))
 focus (first|exact LeA.refl _|((first|refine LeA.gld ?_|refine LeA.nild ?_);first|rfl|(simp;done)|(rw[zj7,znU,zno (by omega)])))
 obtain⟨pre,rest⟩:=x;dsimp only at hg1 ⊢;refine evc [] [] ?_;refine sq ?_ ?_<;>intro h1 h1p h1s<;>(try simp only[Q,Pat.cs_len,Int.ofNat_lt,Int.ofNat_le] at h1p);rcases rest with _|⟨l,rest⟩
 ·exfalso;simp_all
 have hll:=hls l (by rw[<-hg1];simp);have htl:=zqJ 400 pre;refine xbg 3 zdT .none rfl rfl ?_;refine ev ?_;refine xak (ι:=Nat) hk (fun k=>[(6,.d (.i (k:Int))),(5,.gl 3 (((((tupQ 400 pre).take k).flatMap (zku l)).take (400+1)).map zhm))]) [7,17,18,19,20,21,22,23,24,25,26,27,28,29,30,31,32,33,34,35,36,37,38,39,40,41,42,43,44,45,46,47,48,49,50,51,52,53,54,55,56,57,58,59] (fun k=>[(3,some (.tok ((((((tupQ 400 pre).take k).flatMap (zku l)).take (400+1)).map zhm)).length 1))]) (fun k=>k<=(tupQ 400 pre).length) (fun k=>(tupQ 400 pre).length-k) 0 (by simp) ⟨⟨_,rfl,xaq ?_⟩,⟨⟨_,rfl,LeA.glg ?_⟩,trivial⟩⟩ ⟨zab ?_,trivial⟩ (fun x=>rfl) (fun k hg2=>?_);iterate 3 focus (first|rfl|(simp;done))
 refine evc [] [] ?_;refine sq ?_ ?_<;>intro h2 h2p h2s<;>(try simp only[Q,Pat.cs_len,Int.ofNat_lt,Int.ofNat_le] at h2p);refine sq ?_ ?_<;>intro h3 h3p h3s<;>(try simp only[Q,Pat.cs_len,Int.ofNat_lt,Int.ofNat_le] at h3p);refine xak (ι:=Nat) hk (fun j=>[(7,.d (.i (j:Int))),(5,.gl 3 (((((tupQ 400 pre).take k).flatMap (zku l)++(l.take j).map (fun y=>nth (tupQ 400 pre) k++[y])).take (400+1)).map zhm))]) [28,29,30,31,32,33,34,35,36,37,38,39,40,41,42,43,44,45,46,47,48,49,50,51,52,53,54,55,56,57,58,59] (fun j=>[(3,some (.tok ((((((tupQ 400 pre).take k).flatMap (zku l)++(l.take j).map (fun y=>nth (tupQ 400 pre) k++[y])).take (400+1)).map zhm)).length 1))]) (fun j=>j<=l.length) (fun j=>l.length-j) 0 (by simp) ⟨⟨_,rfl,xaq ?_⟩,⟨⟨_,rfl,LeA.glg ?_⟩,trivial⟩⟩ ⟨zab ?_,trivial⟩ (fun x=>rfl) (fun j hg3=>?_);iterate 3 focus (first|rfl|(simp;done))
 have hol:=zqK 400 (zac (l:=tupQ 400 pre) (i:=k) (by omega));refine evc [] [] ?_;refine xaS zdT .none rfl rfl rfl rfl (by first|exact zaK hg1|exact zap (by omega)) rfl ?_;refine ev ?_;refine sq ?_ ?_<;>intro h4 h4p h4s<;>(try simp only[Q,Pat.cs_len,Int.ofNat_lt,Int.ofNat_le] at h4p);refine sq ?_ ?_<;>intro h5 h5p h5s<;>(try simp only[Q,Pat.cs_len,Int.ofNat_lt,Int.ofNat_le] at h5p);refine xbg 5 sl34 .none rfl rfl ?_;refine evd [] [] ?_;refine xaS zdT .none rfl rfl rfl rfl (by first|exact zaK hg1|exact zap (by omega)) rfl ?_;refine evd [] [] ?_;refine ap sl34 zz36 rfl rfl rfl (by intro z hz;first|(rw[xat] at hz;obtain⟨_,_,rfl⟩:=List.mem_map.1 hz;rfl)|(simp at hz;rw[hz];rfl)) (by first|(simp only[xac,xaa,xab,xai,Pat.cs_len] at *;omega)) ?_;refine evd [] [] ?_;refine xaS zdT .none rfl rfl rfl rfl (by first|exact zaK hg1|exact zap (by omega)) rfl ?_;refine evd [] [] ?_;refine xaS sl34 .none rfl rfl rfl rfl (zaH (by omega)) rfl ?_;refine evd [] [] ?_;refine si [0] [_] sl34 tz36 ?_;refine ap sl34 zz36 rfl rfl rfl (by intro z hz;first|(rw[xat] at hz;obtain⟨_,_,rfl⟩:=List.mem_map.1 hz;rfl)|(simp at hz;rw[hz];rfl)) (by first|(simp only[xac,xaa,xab,xai,Pat.cs_len] at *;omega)) ?_;refine si [0] [_] zdT tz34 ?_;refine ap zdT zz34 rfl rfl rfl (by intro z hz;first|(rw[xat] at hz;obtain⟨_,_,rfl⟩:=List.mem_map.1 hz;rfl)|(simp at hz;rw[hz];rfl)) (by first|(simp only[xac,xaa,xab,xai,Pat.cs_len] at *;omega)) ?_;refine evd [] [] ?_;refine dr ?_;refine ar ?_;refine xah (j+1) ⟨?_, ?_,sx ⟨⟨_,rfl,xaq ?_⟩,⟨⟨_,rfl,LeA.glg ?_⟩,trivial⟩⟩ ⟨zab ?_,trivial⟩⟩;iterate 2 focus (first|omega|(simp_all;done))
 iterate 3 focus (first|rfl|(simp;done)|(rw[zwb (by omega) (by omega),xaf];simp[xat];done))
 refine ar ?_;refine xah (k+1) ⟨?_, ?_,sx ⟨⟨_,rfl,xaq ?_⟩,⟨⟨_,rfl,LeA.glg ?_⟩,trivial⟩⟩ ⟨zab ?_,trivial⟩⟩;iterate 2 focus (first|omega|(simp_all;done))
 iterate 3 focus (first|rfl|(simp;done)|(rw[zry (by omega),zqH (by omega)]))
 refine sqF ?_;refine ar ?_;refine xah (k+1) ⟨?_, ?_,sx ⟨⟨_,rfl,xaq ?_⟩,⟨⟨_,rfl,LeA.glg ?_⟩,trivial⟩⟩ ⟨zab ?_,trivial⟩⟩;iterate 2 focus (first|omega|(simp_all;done))
 iterate 3 focus (first|rfl|(simp;done)|(rw[zry (by omega),zqH (by omega)]))
 refine ar ?_;refine xah ((pre++[l],rest)) ⟨(by have hz:=hg1;rw[<-hz];simp),(by simp),sx ⟨⟨_,rfl,xaq ?_⟩,⟨⟨_,rfl, ?_⟩,trivial⟩⟩ trivial⟩;focus (first|rfl|(simp;done))
 focus (first|exact LeA.refl _|((first|refine LeA.gld ?_|refine LeA.nild ?_);first|rfl|(simp;done)|(rw[zj7,znU,zno (by omega)])))
 refine sqF ?_;refine ar ?_;refine xah ((pre++[l],rest)) ⟨(by have hz:=hg1;rw[<-hz];simp),(by simp),sx ⟨⟨_,rfl,xaq ?_⟩,⟨⟨_,rfl, ?_⟩,trivial⟩⟩ trivial⟩;focus (first|rfl|(simp;done))
 focus (first|exact LeA.refl _|((first|refine LeA.gld ?_|refine LeA.nild ?_);first|rfl|(simp;done)|(rw[zj7,znU,zno (by omega)])))
 have hrest:rest=[]:=by
  rcases rest with _|⟨a,b⟩
  ·rfl
  ·exfalso;have hz:=congrArg List.length (hg1);simp only[xaa,xab,xac] at hz;omega
 subst hrest;refine rq ?_;rotate_left;all_goals ((rw[List.append_nil] at hg1);subst hg1;rfl)
theorem zdV:∀(n:Nat){p:Pat},binP n p=true->p.ok->FnD Tryz.prog 197 [.agg [.d (.i p.op),.d (.i p.ctor),.d (.i p.n),.d (.i p.m),.d (.i p.var),.d (zad p.kids)]] [] (.gv 9 (Pat.cs (za2 p))) [(9,some (.tok (Pat.cs (za2 p)).length 6))]
 |0,p,h,_=>by simp[binP] at h
 |n+1,p,h,hok=>by
  have hok':=(Pat.ok_iff p).1 hok;have hok1:=hok'.1;by_cases h5:p.op=5
  ·have hl:=zkd h h5;have e5:=zuP h5 hl;have l0:=zgz (nth p.kids 0);have l1:=zgz (nth p.kids 1);have c0:=zdV n (zdN h (i:=0) (by omega)) (Pats.ok_mem hok'.2 _ (zac (by omega)));have c1:=FnD.gvD (zdV n (zdN h (i:=1) (by omega)) (Pats.ok_mem hok'.2 _ (zac (by omega))));rw[e5];generalize za2 (nth p.kids 0)=A at *;generalize za2 (nth p.kids 1)=C at *;by_cases hlen:(A++C).length<=401
   ·rw[List.take_of_length_le hlen];rw[xaa] at hlen;refine bd Tryz.f197 67 [25] [] fun w0 F0 own kept hk=>?_;refine bx 3001 ?_;refine evs [25] [] ?_;refine sq ?_ ?_<;>intro h1 h1p h1s<;>(try simp only[Q,Pat.cs_len,xaa] at h1p);refine xaS (i:=0) sl34 .none rfl rfl rfl rfl (zaH (by omega)) rfl ?_;refine evd [25] [] ?_;refine Walk.call (cr:=[9]) zh0 (c0) rfl .none rfl rfl (LeL.refl _) trivial rfl rfl rfl ?_;refine evd [25] [] ?_;refine xaS (i:=1) sl34 .none rfl rfl rfl rfl (zaH (by omega)) rfl ?_;refine evd [25] [] ?_;refine wc zh0 (c1) rfl rfl ?_;refine xaC sl34 zz36 .none rfl rfl rfl rfl (zcW rfl (by(simp;done))) (by intro x hx;exact zbD _ x hx) (by simp[Pat.cs_len];omega) (by simp[Pat.cs_len];omega) ?_;refine evd [25] [] ?_;refine dr ?_;refine xaZ sl34 .none rfl rfl ?_;refine evs [25] [] ?_;refine sq ?_ ?_<;>intro h2 h2p h2s<;>(try simp only[Q,Pat.cs_len,xaa] at h2p);exfalso;omega;refine rn [(9,some (.tok (Pat.cs (A++C)).length 6))] (r1 rfl) (.gvg ?_) ⟨rfl,rfl⟩ (SubH.get ⟨?_,trivial⟩) (zaC rfl);rotate_left 2;exfalso;omega;all_goals (first|((first|rfl|(simp[xat];done));done)|(first|rfl|(simp[xat];rfl)))
   ·have c8:=FnD.gvRen 8 c0;rw[xaa] at hlen;refine bd Tryz.f197 67 [25] [] fun w0 F0 own kept hk=>?_;refine bx 3001 ?_;refine evs [25] [] ?_;refine sq ?_ ?_<;>intro h1 h1p h1s<;>(try simp only[Q,Pat.cs_len,xaa] at h1p);refine xaS (i:=0) sl34 .none rfl rfl rfl rfl (zaH (by omega)) rfl ?_;refine evd [25] [] ?_;refine Walk.call (cr:=[8]) zh0 (c8) rfl .none rfl rfl (LeL.refl _) trivial rfl rfl rfl ?_;refine evd [25] [] ?_;refine xaS (i:=1) sl34 .none rfl rfl rfl rfl (zaH (by omega)) rfl ?_;refine evd [25] [] ?_;refine wc zh0 (c1) rfl rfl ?_;refine xaC sl34 zz36 .none rfl rfl rfl rfl (zcW rfl (by(simp;done))) (by intro x hx;exact zbD _ x hx) (by simp[Pat.cs_len];omega) (by simp[Pat.cs_len];omega) ?_;refine evd [25] [] ?_;refine dr ?_;refine xaZ sl34 .none rfl rfl ?_;refine evs [25] [] ?_;refine sq ?_ ?_<;>intro h2 h2p h2s<;>(try simp only[Q,Pat.cs_len,xaa] at h2p);refine xaN 9 (b:=401) sl34 .none rfl rfl (zcW rfl (by(simp;done))) rfl rfl (by simp[Pat.cs_len];omega) (by simp[Pat.cs_len];omega) rfl ?_;refine evs [25] [] ?_;refine rn [(9,some (.tok (Pat.cs ((A++C).take 401)).length 6))] (r1 rfl) (.gvg ?_) ⟨rfl,rfl⟩ (SubH.get ⟨?_,trivial⟩) (zaC rfl);rotate_left 2;exfalso;omega;exfalso;omega;all_goals (first|((first|rfl|(simp[xat];done));done)|(first|rfl|(show some (Res.tok _ _)=some (Res.tok _ _);simp[Pat.cs_len];omega)))
  ·have hts:=zqJ 400 (p.kids.map za2);have htm:=fun(i:Nat) (hi:i<(tupQ 400 (p.kids.map za2)).length)=>zqK 400 (zac hi);have ht3:=zlq (ls:=p.kids.map za2) (by rw[xac];omega) (fun l hl=>by obtain⟨x,_,rfl⟩:=List.mem_map.1 hl;have:=zgz x;omega);have hcal:=fun(i:Nat) (hi:i<p.kids.length)=>FnD.gvD (zdV n (zdN h hi) (Pats.ok_mem hok'.2 _ (zac hi)));have hpl:=fun(y:Pat) (pre rest:List Pat) (e:pre++y::rest=p.kids)=>(show pre.length<p.kids.length/\nth p.kids pre.length=y from⟨by have:=congrArg List.length e;simp at this;omega,zxv e⟩);have hcal2:=fun(y:Pat) (pre rest:List Pat) (e:pre++y::rest=p.kids)=>show FnD Tryz.prog 197 [.agg [.d (.i y.op),.d (.i y.ctor),.d (.i y.n),.d (.i y.m),.d (.i y.var),.d (zad y.kids)]] [] (.d (.sl (Pat.cs (za2 y)))) [] from by
    have hq:=hcal pre.length (hpl y pre rest e).1;rw[(hpl y pre rest e).2] at hq;exact hq
   have ht3':=fun(pre:List Pat) (e:pre++[]=p.kids)=>show FnD Tryz.prog 280 [.d (ziz (pre.map za2))] [] (.d (ziz (tupQ 400 (p.kids.map za2)))) [] from by
    rw[List.append_nil] at e;rw[e];exact ht3
   rw[zuQ h5];refine bd Tryz.f197 67 [] [] fun w0 F0 own kept hk=>?_;refine bx 3001 ?_;refine ev ?_;refine sq ?_ ?_<;>intro h1 h1p h1s<;>(try simp only[Q,Pat.cs_len] at h1p);exfalso;omega;refine xbg 4 zdT .none rfl rfl ?_;refine ev ?_;refine xak (ι:=List (Pat)×List (Pat)) hk (fun x=>[(5,.d (.i (x.1.length:Int))),(4,.gl 4 ((x.1.map za2).map zhm))]) [31,32,33,34,35,36,37,38,39,40,41,42,43,44,45,46] (fun x=>[(4,some (.tok (((x.1.map za2).map zhm)).length 1))]) (fun x=>x.1++x.2=p.kids) (fun x=>x.2.length) ([],p.kids) (by simp) ⟨⟨_,rfl,xaq ?_⟩,⟨⟨_,rfl,LeA.glg ?_⟩,trivial⟩⟩ ⟨zab ?_,trivial⟩ (fun x=>rfl) (fun x hg1=>?_);iterate 3 focus ((simp;done))
   obtain⟨pre,rest⟩:=x;dsimp only at hg1 ⊢;refine evc [] [] ?_;refine sq ?_ ?_<;>intro h2 h2p h2s<;>(try simp only[Q,Pat.cs_len] at h2p);rcases rest with _|⟨y,rest⟩
   ·exfalso;simp_all
   refine xaS sl34 .none rfl rfl rfl rfl (Pat.cs_at' hg1) rfl ?_;refine ev ?_;refine wc zh0 (hcal2 y pre rest hg1) rfl rfl ?_;refine si [0] [_] zdT tz34 ?_;refine ap zdT zz34 rfl rfl rfl (by intro x hx;first|(simp at hx;subst hx;rfl)|exact zgM _ x hx) (by first|(have:=congrArg List.length hg1;simp at this;simp;omega)|(simp;omega)) ?_;refine ev ?_;refine ar ?_;refine xah ((pre++[y],rest)) ⟨(by have hz:=hg1;rw[<-hz];simp),(by simp),sx ⟨⟨_,rfl,xaq ?_⟩,⟨⟨_,rfl,LeA.glg ?_⟩,trivial⟩⟩ ⟨zab ?_,trivial⟩⟩;iterate 3 focus ((simp;done))
   have hrest:rest=[]:=by
    rcases rest with _|⟨a,b⟩
    ·rfl
    ·exfalso;have hz:=congrArg List.length (hg1);simp only[xaa,xab,xac] at hz;omega
   subst hrest;refine Walk.call (cr:=[]) zwS (ht3' pre hg1) rfl .none rfl rfl (.cons (.gl _ _) .nil) trivial rfl rfl rfl ?_;refine ev ?_;refine xbh 9 sl34 .none rfl rfl ?_;refine ev ?_;refine xak (ι:=Nat) hk (fun k=>[(8,.d (.i (k:Int))),(7,.gv 9 ((((tupQ 400 (p.kids.map za2)).take k).map fun l=>Pat.mk p.op p.ctor p.n p.m p.var l).map Pat.cc))]) [9,50,51,52,53,54,55,56,57,58,59,60,61,62,63,64,65] (fun k=>[(9,some (.tok (((((tupQ 400 (p.kids.map za2)).take k).map fun l=>Pat.mk p.op p.ctor p.n p.m p.var l).map Pat.cc)).length 6))]) (fun k=>k<=(tupQ 400 (p.kids.map za2)).length) (fun k=>(tupQ 400 (p.kids.map za2)).length-k) 0 (by omega) ⟨⟨_,rfl,xaq ?_⟩,⟨⟨_,rfl,LeA.gvg ?_⟩,trivial⟩⟩ ⟨zab ?_,trivial⟩ (fun x=>rfl) (fun k hg2=>?_);iterate 3 focus ((simp;done))
   refine evc [] [] ?_;refine sq ?_ ?_<;>intro h3 h3p h3s<;>(try simp only[Q,Pat.cs_len] at h3p);refine ab 3009 tz36 ?_;refine so ty36 ?_;refine tv ?_;refine xaS zdT .none rfl rfl rfl rfl (zap (by omega)) rfl ?_;refine ev ?_;refine so ty34 ?_;refine tv ?_;refine si [0] [_] sl34 tz36 ?_;refine xaC sl34 zz36 .none rfl rfl rfl rfl (zcW rfl (by first|rfl|(simp;done))) (by intro x hx;first|(simp at hx;subst hx;rfl)|exact zgM _ x hx) (by first|(have:=congrArg List.length hg1;simp at this;simp;omega)|(simp;omega)) (by first|(have:=congrArg List.length hg1;simp at this;simp;omega)|(simp;omega)) ?_;refine ev ?_;refine ar ?_;refine xah (k+1) ⟨(by omega),(by omega),sx ⟨⟨_,rfl,xaq ?_⟩,⟨⟨_,rfl,LeA.gvg ?_⟩,trivial⟩⟩ ⟨zab ?_,trivial⟩⟩;iterate 3 focus (first|(simp;done)|(rw[List.take_succ_eq_append_getElem (by omega),<-zaI (by omega)];simp[zbu,zeT,mk_n,mk_m,zg4,zaF];done))
   refine rn [(9,some (.tok (Pat.cs ((tupQ 400 (p.kids.map za2)).map fun l=>Pat.mk p.op p.ctor p.n p.m p.var l)).length 6))] (r1 rfl) (.gvg ?_) ⟨rfl,rfl⟩ (SubH.get ⟨?_,trivial⟩) (zaC rfl);rotate_left 2;all_goals (first|((first|rfl|(obtain rfl:k=(tupQ 400 (p.kids.map za2)).length:=(by omega);rw[List.take_length,show Pat.cs ((tupQ 400 (p.kids.map za2)).map fun l=>Pat.mk p.op p.ctor p.n p.m p.var l)=((tupQ 400 (p.kids.map za2)).map fun l=>Pat.mk p.op p.ctor p.n p.m p.var l).map Pat.cc from xat _];done));done)|(first|rfl|(obtain rfl:k=(tupQ 400 (p.kids.map za2)).length:=(by omega);rw[List.take_length];simp[xat];rfl)|(obtain rfl:k=(tupQ 400 (p.kids.map za2)).length:=(by omega);rw[List.take_length,show Pat.cs ((tupQ 400 (p.kids.map za2)).map fun l=>Pat.mk p.op p.ctor p.n p.m p.var l)=((tupQ 400 (p.kids.map za2)).map fun l=>Pat.mk p.op p.ctor p.n p.m p.var l).map Pat.cc from xat _];rfl)))
theorem zhH {w:List Data}{n:Nat}{t:Ty}{p:Pat} (h:zas w n t p=true) (hok:p.ok):FnD Tryz.prog 128 [.agg [.d (.i p.op),.d (.i p.ctor),.d (.i p.n),.d (.i p.m),.d (.i p.var),.d (zad p.kids)]] [] (.d (zad (za2 (zav p)))) []:=by
 have hbp:=zc0 _ (Nat.le_refl _) hok;have hsp:=FnD.gvD (zdV n (zf1 n h) (zkc p hok));generalize zav p=b at *;refine bd Tryz.f128 6 [] [] fun w0 F0 own kept hk=>?_;refine bx 3001 ?_;refine ev ?_;refine wc zo4 (hbp) rfl rfl ?_;refine wc zh0 (hsp) rfl rfl ?_;refine ev ?_;refine rq ?_;rotate_left;all_goals (rfl)
theorem zhd {a b:Pat} (hn:0<=b.n/\b.n<=9) (hm:0<=b.m/\b.m<=9):FnD Tryz.prog 302 [.agg [.d (.i (a).op),.d (.i (a).ctor),.d (.i (a).n),.d (.i (a).m),.d (.i (a).var),.d (zad (a).kids)],.agg [.d (.i (b).op),.d (.i (b).ctor),.d (.i (b).n),.d (.i (b).m),.d (.i (b).var),.d (zad (b).kids)]] [] (.d (zad (zbO a.n (minQ a.m (b.n-1))++zbO (maxQ a.n (b.m+1)) a.m))) []:=by
 refine bd Tryz.f302 58 [] [] fun w0 F0 own kept hk=>?_;refine bx 3002 ?_;refine bx 3003 ?_;refine ev ?_;refine xbg 9 sl34 .none rfl rfl ?_;refine ev ?_;refine bu [0,2,3] [_,_,_] st36 ?_;refine ab 3006 tz36 ?_;refine so ty36 ?_;refine tv ?_;refine ar ?_;refine sq ?_ ?_<;>intro h1 h1p h1s<;>(try simp only[Q] at h1p);refine ar ?_;refine so ty3 ?_;refine tv ?_;refine sq ?_ ?_<;>intro h2 h2p h2s<;>(try simp only[Q] at h2p);refine si [0] [_] sl34 tz36 ?_;refine ap sl34 zz36 rfl rfl rfl (by intro x hx;simp at hx;subst hx;rfl) (by simp) ?_;refine ev ?_;refine bu [0,2,3] [_,_,_] st36 ?_;refine ab 3007 tz36 ?_;refine so ty36 ?_;refine tv ?_;refine ar ?_;refine sq ?_ ?_<;>intro h3 h3p h3s<;>(try simp only[Q] at h3p);refine ar ?_;refine so ty3 ?_;refine tv ?_;refine sq ?_ ?_<;>intro h4 h4p h4s<;>(try simp only[Q] at h4p);refine si [0] [_] sl34 tz36 ?_;refine ap sl34 zz36 rfl rfl rfl (by intro x hx;simp at hx;subst hx;rfl) (by simp) ?_;refine ev ?_;refine rn0 (r1 rfl) (.gld ?_);rotate_left;refine rn0 (r1 rfl) (.gld ?_);rotate_left;refine sq ?_ ?_<;>intro h5 h5p h5s<;>(try simp only[Q] at h5p);refine si [0] [_] sl34 tz36 ?_;refine ap sl34 zz36 rfl rfl rfl (by intro x hx;simp at hx;subst hx;rfl) (by simp) ?_;refine ev ?_;refine rn0 (r1 rfl) (.gld ?_);rotate_left;refine rn0 (r1 rfl) (.gld ?_);rotate_left;refine bu [0,2,3] [_,_,_] st36 ?_;refine ab 3007 tz36 ?_;refine so ty36 ?_;refine tv ?_;refine ar ?_;refine sq ?_ ?_<;>intro h6 h6p h6s<;>(try simp only[Q] at h6p);refine ar ?_;refine so ty3 ?_;refine tv ?_;refine sq ?_ ?_<;>intro h7 h7p h7s<;>(try simp only[Q] at h7p);refine si [0] [_] sl34 tz36 ?_;refine ap sl34 zz36 rfl rfl rfl (by intro x hx;simp at hx;subst hx;rfl) (by simp) ?_;refine ev ?_;refine rn0 (r1 rfl) (.gld ?_);rotate_left;refine rn0 (r1 rfl) (.gld ?_);rotate_left;refine sq ?_ ?_<;>intro h8 h8p h8s<;>(try simp only[Q] at h8p);refine si [0] [_] sl34 tz36 ?_;refine ap sl34 zz36 rfl rfl rfl (by intro x hx;simp at hx;subst hx;rfl) (by simp) ?_;refine ev ?_;refine rn0 (r1 rfl) (.gld ?_);rotate_left;refine rn0 (r1 rfl) (.gld ?_);rotate_left;refine sq ?_ ?_<;>intro h9 h9p h9s<;>(try simp only[Q] at h9p);refine si [0] [_] sl34 tz36 ?_;refine ap sl34 zz36 rfl rfl rfl (by intro x hx;simp at hx;subst hx;rfl) (by simp) ?_;refine ev ?_;refine bu [0,2,3] [_,_,_] st36 ?_;refine ab 3007 tz36 ?_;refine so ty36 ?_;refine tv ?_;refine ar ?_;refine sq ?_ ?_<;>intro h10 h10p h10s<;>(try simp only[Q] at h10p);refine ar ?_;refine so ty3 ?_;refine tv ?_;refine sq ?_ ?_<;>intro h11 h11p h11s<;>(try simp only[Q] at h11p);refine si [0] [_] sl34 tz36 ?_;refine ap sl34 zz36 rfl rfl rfl (by intro x hx;simp at hx;subst hx;rfl) (by simp) ?_;refine ev ?_;refine rn0 (r1 rfl) (.gld ?_);rotate_left;refine rn0 (r1 rfl) (.gld ?_);rotate_left;refine sq ?_ ?_<;>intro h12 h12p h12s<;>(try simp only[Q] at h12p);refine si [0] [_] sl34 tz36 ?_;refine ap sl34 zz36 rfl rfl rfl (by intro x hx;simp at hx;subst hx;rfl) (by simp) ?_;refine ev ?_;refine rn0 (r1 rfl) (.gld ?_);rotate_left;refine rn0 (r1 rfl) (.gld ?_);rotate_left;refine bu [0,2,3] [_,_,_] st36 ?_;refine ab 3007 tz36 ?_;refine so ty36 ?_;refine tv ?_;refine ar ?_;refine sq ?_ ?_<;>intro h13 h13p h13s<;>(try simp only[Q] at h13p);refine ar ?_;refine so ty3 ?_;refine tv ?_;refine sq ?_ ?_<;>intro h14 h14p h14s<;>(try simp only[Q] at h14p);refine si [0] [_] sl34 tz36 ?_;refine ap sl34 zz36 rfl rfl rfl (by intro x hx;simp at hx;subst hx;rfl) (by simp) ?_;refine ev ?_;refine rn0 (r1 rfl) (.gld ?_);rotate_left;refine rn0 (r1 rfl) (.gld ?_);rotate_left;refine sq ?_ ?_<;>intro h15 h15p h15s<;>(try simp only[Q] at h15p);refine si [0] [_] sl34 tz36 ?_;refine ap sl34 zz36 rfl rfl rfl (by intro x hx;simp at hx;subst hx;rfl) (by simp) ?_;refine ev ?_;refine rn0 (r1 rfl) (.gld ?_);rotate_left;refine rn0 (r1 rfl) (.gld ?_);rotate_left;all_goals (unfold minQ maxQ zbO;(repeat' split)<;>first|rfl|(exfalso;omega))
theorem zoY {w:List Data} (hw:WT w){a k c:Int} (ht:TyIn w.length ⟨a,k⟩) (hc:c∈zaj w ⟨a,k⟩) (hl:(zaa w ⟨a,k⟩ c).length<=3):FnD Tryz.prog 304 [.d (zam w),.agg [.d (.i a),.d (.i k)],.d (.i c)] []
  (.agg [.d (.i 4),.d (.i c),.d (.i 0),.d (.i 0),.d (.i 0),.d (zad (zbJ w ⟨a,k⟩ c).kids)]) []:=by
 refine bd Tryz.f304 29 [] [] fun w0 F0 own kept hk=>?_;refine bx 3004 ?_;refine ab 3006 tz36 ?_;refine tv ?_;refine bu [0,1] [_,_] st36 ?_;refine ab 3007 tz36 ?_;refine so ty36 ?_;refine tv ?_;refine wc zfU (zcg hw ht hc) rfl rfl ?_;refine ev ?_;refine xan 3007 5 9 6 rfl rfl rfl rfl ?_;refine xak (ι:=List (Ty)×List (Ty)) hk (fun x=>[(9,.d (.i (x.1.length:Int)))]) [16,17,18,19,20,21,22,23,24,25,26,27] (fun x=>[(3007,some (.box [.d (.i 4),.d (.i c),.d (.i 0),.d (.i 0),.d (.i 0),.gl 9 ((x.1.map fun _=>anyQ).map Pat.cc)])),(9,some (.tok ((x.1.map fun _=>anyQ).map Pat.cc).length 6))]) (fun x=>x.1++x.2=zaa w ⟨a,k⟩ c) (fun x=>x.2.length) ([],zaa w ⟨a,k⟩ c) (by simp) ⟨⟨_,rfl,xaq ?_⟩,trivial⟩ ⟨?_,⟨zab ?_,trivial⟩⟩ (fun x=>rfl) (fun x hg1=>?_);focus (rfl)
 focus (rfl)
 focus (rfl)
 obtain⟨pre,rest⟩:=x;dsimp only at hg1 ⊢;refine evc [] [] ?_;refine sq ?_ ?_<;>intro h1 h1p h1s<;>(try simp only[Q] at h1p);rcases rest with _|⟨y,rest⟩
 ·exfalso;simp_all
 refine wc zsB (zi8) rfl rfl ?_;refine si [0] [_] sl34 tz36 ?_;refine ap sl34 zz36 rfl rfl rfl (by intro x hx;(simp at hx;subst hx;rfl)) (by have:=congrArg List.length hg1;simp at this;simp;omega) ?_;refine evd [] [] ?_;refine so ty34 ?_;refine dr ?_;refine ar ?_;refine xah ((pre++[y],rest)) ⟨(by have hz:=hg1;rw[<-hz];simp),(by simp),sx ⟨⟨_,rfl,xaq ?_⟩,trivial⟩ ⟨?_,⟨zab ?_,trivial⟩⟩⟩;focus ((simp;done))
 focus ((simp[getH];exact⟨rfl,rfl,rfl,rfl,rfl,rfl⟩))
 focus ((simp;done))
 have hrest:rest=[]:=by
  rcases rest with _|⟨a,b⟩
  ·rfl
  ·exfalso;have hz:=congrArg List.length (hg1);simp only[xaa,xab,xac] at hz;omega
 subst hrest;refine so ty36 ?_;refine tv ?_;refine rn0 (.cons (.cellA ty36 rfl rfl rfl) .nil) (.agg (.cons (.eqd ?_) (.cons (.eqd ?_) (.cons (.eqd ?_) (.cons (.eqd ?_) (.cons (.eqd ?_) (.cons (.gld ?_) .nil)))))));rotate_left 6;all_goals (first|rfl|(rw[List.append_nil] at hg1;subst hg1;rw[<-xat];all_goals rfl))
def zdG (n:Nat) (a b:Pat):Pat:=if a.op=3/\b.op≠1 then intQ (maxQ a.n b.n) (minQ a.m b.m) else zcG n a b
theorem znw {n:Nat}{a b:Pat} (h:¬(a.op=3/\b.op≠1)):zdG n a b=zcG n a b:=if_neg h
theorem zp1 {n:Nat}{a b:Pat} (h:(zaE n a b).isSome=true):zdG n a b=zcG n a b:=by
 unfold zdG;split
 ·rename_i h3;cases n with
  |zero=>simp[zaE] at h
  |succ n=>
   have e:=zib (n:=n) h3.1 h3.2;rw[e] at h;split at h
   ·rename_i hr;rw[if_pos hr] at e;exact(zcq e).symm
   ·cases h
 ·rfl
theorem zim {w:List Data} (hs:Spa w):∀(n m:Nat){t:Ty}{a b:Pat},m<=n->InS (w.length*4) t->zae w m t a=true->zae w m t b=true->
  FnD Tryz.prog 276 [.agg [.d (.i (a).op),.d (.i (a).ctor),.d (.i (a).n),.d (.i (a).m),.d (.i (a).var),.d (zad (a).kids)],.agg [.d (.i (b).op),.d (.i (b).ctor),.d (.i (b).n),.d (.i (b).m),.d (.i (b).var),.d (zad (b).kids)]] [] (.tup [.agg [.d (.i (zdG n a b).op),.d (.i (zdG n a b).ctor),.d (.i (zdG n a b).n),.d (.i (zdG n a b).m),.d (.i (zdG n a b).var),.d (zad (zdG n a b).kids)],.d (.bool (zaE n a b).isSome)]) []
 |n,0,t,a,b,_,_,ha,_=>by simp[zae] at ha
 |0,m+1,t,a,b,h,_,_,_=>by omega
 |n+1,m+1,t,a,b,hnm,ht,ha,hb=>by
  by_cases h1:a.op=1
  ·have e:=zg2 (n:=n) (b:=b) h1;rw[znw (fun h=>by omega),zcq e,e];refine bd Tryz.f276 89 [] [] fun w0 F0 own kept hk=>?_;refine bx 3002 ?_;refine bx 3003 ?_;refine ab 3004 tz36 ?_;refine ev ?_;refine sq ?_ ?_<;>intro h1 h1p h1s<;>(try simp only[Q] at h1p);refine so ty36 ?_;refine ev ?_;refine rn0 (.cons (.cellA ty36 rfl rfl rfl) (.cons (.tmp rfl) .nil)) (.tup (.cons (.agg (.cons (.eqd ?_) (.cons (.eqd ?_) (.cons (.eqd ?_) (.cons (.eqd ?_) (.cons (.eqd ?_) (.cons (.eqd ?_) .nil))))))) (.cons (.eqd ?_) .nil)));rotate_left 7;exfalso;omega;all_goals (rfl)
  by_cases h2:b.op=1
  ·have e:=zia (n:=n) h1 h2;rw[znw (fun h=>h.2 h2),zcq e,e];refine bd Tryz.f276 89 [] [] fun w0 F0 own kept hk=>?_;refine bx 3002 ?_;refine bx 3003 ?_;refine ab 3004 tz36 ?_;refine ev ?_;refine sq ?_ ?_<;>intro h1 h1p h1s<;>(try simp only[Q] at h1p);exfalso;omega;refine sq ?_ ?_<;>intro h2 h2p h2s<;>(try simp only[Q] at h2p);refine so ty36 ?_;refine ev ?_;refine rn0 (.cons (.cellA ty36 rfl rfl rfl) (.cons (.tmp rfl) .nil)) (.tup (.cons (.agg (.cons (.eqd ?_) (.cons (.eqd ?_) (.cons (.eqd ?_) (.cons (.eqd ?_) (.cons (.eqd ?_) (.cons (.eqd ?_) .nil))))))) (.cons (.eqd ?_) .nil)));rotate_left 7;exfalso;omega;all_goals (rfl)
  by_cases h3:a.op=3
  ·have e:=zib (n:=n) h3 h2;have ez:zdG (n+1) a b=intQ (maxQ a.n b.n) (minQ a.m b.m):=if_pos ⟨h3,h2⟩;have eb:(zaE (n+1) a b).isSome=decide (maxQ a.n b.n<=minQ a.m b.m):=by
    rw[e];by_cases hr:maxQ a.n b.n<=minQ a.m b.m
    ·rw[if_pos hr,decide_eq_true hr];rfl
    ·rw[if_neg hr,decide_eq_false hr];rfl
   rw[ez,eb];refine bd Tryz.f276 89 [] [] fun w0 F0 own kept hk=>?_;refine bx 3002 ?_;refine bx 3003 ?_;refine ab 3004 tz36 ?_;refine ev ?_;refine sq ?_ ?_<;>intro h1 h1p h1s<;>(try simp only[Q] at h1p);exfalso;omega;refine sq ?_ ?_<;>intro h2 h2p h2s<;>(try simp only[Q] at h2p);exfalso;omega;refine sq ?_ ?_<;>intro h3 h3p h3s<;>(try simp only[Q] at h3p);refine sq ?_ ?_<;>intro h4 h4p h4s<;>(try simp only[Q] at h4p);refine sq ?_ ?_<;>intro h5 h5p h5s<;>(try simp only[Q] at h5p);refine bu [0,2,3] [_,_,_] st36 ?_;refine ev ?_;refine so ty36 ?_;refine ev ?_;refine rn0 (.cons (.cellA ty36 rfl rfl rfl) (.cons (.tmp rfl) .nil)) (.tup (.cons (.agg (.cons (.eqd ?_) (.cons (.eqd ?_) (.cons (.eqd ?_) (.cons (.eqd ?_) (.cons (.eqd ?_) (.cons (.nild ?_) .nil))))))) (.cons (.eqd ?_) .nil)));rotate_left 7;refine bu [0,2,3] [_,_,_] st36 ?_;refine ev ?_;refine so ty36 ?_;refine ev ?_;refine rn0 (.cons (.cellA ty36 rfl rfl rfl) (.cons (.tmp rfl) .nil)) (.tup (.cons (.agg (.cons (.eqd ?_) (.cons (.eqd ?_) (.cons (.eqd ?_) (.cons (.eqd ?_) (.cons (.eqd ?_) (.cons (.nild ?_) .nil))))))) (.cons (.eqd ?_) .nil)));rotate_left 7;refine sq ?_ ?_<;>intro h6 h6p h6s<;>(try simp only[Q] at h6p);refine bu [0,2,3] [_,_,_] st36 ?_;refine ev ?_;refine so ty36 ?_;refine ev ?_;refine rn0 (.cons (.cellA ty36 rfl rfl rfl) (.cons (.tmp rfl) .nil)) (.tup (.cons (.agg (.cons (.eqd ?_) (.cons (.eqd ?_) (.cons (.eqd ?_) (.cons (.eqd ?_) (.cons (.eqd ?_) (.cons (.nild ?_) .nil))))))) (.cons (.eqd ?_) .nil)));rotate_left 7;refine bu [0,2,3] [_,_,_] st36 ?_;refine ev ?_;refine so ty36 ?_;refine ev ?_;refine rn0 (.cons (.cellA ty36 rfl rfl rfl) (.cons (.tmp rfl) .nil)) (.tup (.cons (.agg (.cons (.eqd ?_) (.cons (.eqd ?_) (.cons (.eqd ?_) (.cons (.eqd ?_) (.cons (.eqd ?_) (.cons (.nild ?_) .nil))))))) (.cons (.eqd ?_) .nil)));rotate_left 7;exfalso;omega;all_goals (first|rfl|((try simp only[zbu,zeT,mk_n,mk_m,zg4,zaF]);simp only[minQ,maxQ];(repeat' split)<;>first|rfl|(exfalso;omega)))
  have oa:=zbn ha;have h4:a.op=4:=by omega
  have h4b:b.op=4:=by have:=zc5 ha hb h1 h2;omega
  have ez:zdG (n+1) a b=zcG (n+1) a b:=znw (fun h=>h3 h.1);by_cases hc:a.ctor=b.ctor
  ·obtain⟨c1,c2,c3,-⟩:=zaA ha h4;obtain⟨d1,d2,d3,-⟩:=zaA hb h4b;rw[<-hc] at d3;have h3l:=hs.args t a.ctor ht c1;have ka:=fun i (hi:i<a.kids.length)=>zaN ha hi;have kb:=fun i (hi:i<b.kids.length)=>zaN hb hi;rw[za5 h4] at ka;rw[za5 h4b,<-hc] at kb;have e:=zg3 (n:=n) h4 h2 hc;have hlen:a.kids.length=b.kids.length:=by omega
   have ih:=fun i (hi:i<a.kids.length)=>zim hs n m (t:=nth (zaa w t a.ctor) i) (a:=nth a.kids i) (b:=nth b.kids i) (by omega) (zbp hs.dp ht c1 _ (zac (by omega))) (ka i (by omega)) (kb i (by omega));have key:∀(i:Nat) (acc:List Pat),i<a.kids.length->(zaE n (nth a.kids i) (nth b.kids i)).isSome=true->zbL (zaE n) (a.kids.drop i) (b.kids.drop i) acc=zbL (zaE n) (a.kids.drop (i+1)) (b.kids.drop (i+1)) (acc++[zdG n (nth a.kids i) (nth b.kids i)]):=fun i acc hi h=>by
    rw[zp1 h];exact zmp hi (by omega) (znx h)
   rw[ez];refine bd Tryz.f276 89 [] [] fun w0 F0 own kept hk=>?_;refine bx 3002 ?_;refine bx 3003 ?_;refine ab 3004 tz36 ?_;refine ev ?_;refine sq ?_ ?_<;>intro h1 h1p h1s<;>(try simp only[Q,Pat.cs_len] at h1p);exfalso;omega;refine sq ?_ ?_<;>intro h2 h2p h2s<;>(try simp only[Q,Pat.cs_len] at h2p);exfalso;omega;refine sq ?_ ?_<;>intro h3 h3p h3s<;>(try simp only[Q,Pat.cs_len] at h3p);exfalso;omega;refine sq ?_ ?_<;>intro h4 h4p h4s<;>(try simp only[Q,Pat.cs_len] at h4p);exfalso;omega;refine bu [0,1] [_,_] st36 ?_;refine ab 3008 tz36 ?_;refine so ty36 ?_;refine tv ?_;refine xan 3008 5 9 6 rfl rfl rfl rfl ?_;refine xak (ι:=Nat×List Pat) hk (fun x=>[(9,.d (.i (x.1:Int)))]) [5,10,11,58,59,60,61,62,63,64,65,66,67,68,69,70,71,72,73,74,75,76,77,78,79,80,81,82,83,84,85,86,87] (fun x=>[(3008,some (.box [.d (.i 4),.d (.i a.ctor),.d (.i 0),.d (.i 0),.d (.i 0),.gl 9 (x.2.map Pat.cc)])),(9,some (.tok (x.2.map Pat.cc).length 6))]) (fun x=>x.1<=a.kids.length/\x.2.length=x.1/\zbL (zaE n) (a.kids.drop x.1) (b.kids.drop x.1) x.2=zbL (zaE n) a.kids b.kids []) (fun x=>a.kids.length-x.1) (0,[]) ⟨by simp,rfl,rfl⟩ ⟨⟨_,rfl,xaq ?_⟩,trivial⟩ ⟨?_,⟨zab ?_,trivial⟩⟩ (fun x=>rfl) (fun x hg1=>?_);focus (rfl)
   focus (first|rfl|(simp[getH];done))
   focus (rfl)
   refine evc [] [] ?_;refine sq ?_ ?_<;>intro h5 h5p h5s<;>(try simp only[Q,Pat.cs_len] at h5p);refine xaS sl34 .none rfl rfl rfl rfl (zaH (by omega)) rfl ?_;refine evd [] [] ?_;refine xaS sl34 .none rfl rfl rfl rfl (zaH (by omega)) rfl ?_;refine evd [] [] ?_;refine wc zsT (ih x.1 (by omega)) rfl rfl ?_;refine evd [] [] ?_;refine ab 3010 tz36 ?_;refine so ty36 ?_;refine evd [] [] ?_;refine dr ?_;refine sq ?_ ?_<;>intro h6 h6p h6s<;>(try simp only[Q,Pat.cs_len] at h6p);refine bu [] [] st36 ?_;refine so ty36 ?_;refine ev ?_;refine rn0 (.cons (.cellA ty36 rfl rfl rfl) (.cons (.tmp rfl) .nil)) (.tup (.cons (.agg (.cons (.eqd ?_) (.cons (.eqd ?_) (.cons (.eqd ?_) (.cons (.eqd ?_) (.cons (.eqd ?_) (.cons (.nild ?_) .nil))))))) (.cons (.eqd ?_) .nil)));rotate_left 7;refine si [0] [_] sl34 tz36 ?_;refine ap sl34 zz36 rfl rfl rfl (by intro x hx;(simp at hx;subst hx;rfl)) (by simp;omega) ?_;refine ev ?_;refine so ty34 ?_;refine tv ?_;refine ar ?_;refine xah ((x.1+1,x.2++[zdG n (nth a.kids x.1) (nth b.kids x.1)])) ⟨⟨by dsimp only;omega,by dsimp only;rw[xaa,hg1.2.1];rfl,by dsimp only;rw[<-key x.1 x.2 (by omega) (by assumption)];exact hg1.2.2⟩,(by dsimp only;omega),sx ⟨⟨_,rfl,xaq ?_⟩,trivial⟩ ⟨?_,⟨zab ?_,trivial⟩⟩⟩;focus (rfl)
   focus (first|rfl|(simp[getH];done))
   focus ((simp;done))
   refine so ty36 ?_;refine ev ?_;refine rn0 (.cons (.cellA ty36 rfl rfl rfl) (.cons (.tmp rfl) .nil)) (.tup (.cons (.agg (.cons (.eqd ?_) (.cons (.eqd ?_) (.cons (.eqd ?_) (.cons (.eqd ?_) (.cons (.eqd ?_) (.cons (.gld ?_) .nil))))))) (.cons (.eqd ?_) .nil)));rotate_left 7;all_goals (first|(have e2:zaE (n+1) a b=none:=(by rw[e,<-hg1.2.2,zmo (by omega) (by omega) (zny (by assumption))];rfl);(first|rw[zfc e2]|rw[e2]);all_goals rfl)|(have e2:zaE (n+1) a b=some (za8 a.ctor x.2):=(by rw[e,<-hg1.2.2,zeR (by omega)];rfl);rw[zcq e2,xat];all_goals rfl)|(have e2:zaE (n+1) a b=some (za8 a.ctor x.2):=(by rw[e,<-hg1.2.2,zeR (by omega)];rfl);rw[zcq e2];all_goals rfl)|(have e2:zaE (n+1) a b=some (za8 a.ctor x.2):=(by rw[e,<-hg1.2.2,zeR (by omega)];rfl);rw[e2];all_goals rfl))
  ·skip
   have e:=zgJ (n:=n) h4 h2 hc;rw[ez,zfc e,e];refine bd Tryz.f276 89 [] [] fun w0 F0 own kept hk=>?_;refine bx 3002 ?_;refine bx 3003 ?_;refine ab 3004 tz36 ?_;refine ev ?_;refine sq ?_ ?_<;>intro h1 h1p h1s<;>(try simp only[Q] at h1p);exfalso;omega;refine sq ?_ ?_<;>intro h2 h2p h2s<;>(try simp only[Q] at h2p);exfalso;omega;refine sq ?_ ?_<;>intro h3 h3p h3s<;>(try simp only[Q] at h3p);exfalso;omega;refine sq ?_ ?_<;>intro h4 h4p h4s<;>(try simp only[Q] at h4p);refine bu [] [] st36 ?_;refine so ty36 ?_;refine ev ?_;refine rn0 (.cons (.cellA ty36 rfl rfl rfl) (.cons (.tmp rfl) .nil)) (.tup (.cons (.agg (.cons (.eqd ?_) (.cons (.eqd ?_) (.cons (.eqd ?_) (.cons (.eqd ?_) (.cons (.eqd ?_) (.cons (.nild ?_) .nil))))))) (.cons (.eqd ?_) .nil)));rotate_left 7;exfalso;omega;all_goals (rfl)
theorem zp5 {f:Ty->Pat->Pat->List Pat}{c:Int}{ts:List Ty}{xs bs front:List Pat}{i:Nat} (h1:i<ts.length) (h2:i<xs.length) (h3:i<bs.length) (h:(zaE 11 (nth xs i) (nth bs i)).isSome=true):
  zaL f c (ts.drop i) (xs.drop i) (bs.drop i) front=(f (nth ts i) (nth xs i) (nth bs i)).map (fun z=>za8 c (front++[z]++xs.drop (i+1)))++zaL f c (ts.drop (i+1)) (xs.drop (i+1)) (bs.drop (i+1)) (front++[zdG 11 (nth xs i) (nth bs i)]):=by
 rw[zp1 h];exact zkN h1 h2 h3 h
theorem zud (c:Int) (L:List Pat):Pat.cc (za8 c L)=[D.i 4,D.i c,D.i 0,D.i 0,D.i 0,D.sl (L.map Pat.cc)]:=by
 show [D.i 4,D.i c,D.i 0,D.i 0,D.i 0,D.sl (Pat.cs L)]=_
 rw[xat]
section
variable {w:List Data}
abbrev MinusSp (w:List Data) (n:Nat) (ta tk:Int) (a b:Pat):Prop:=
 FnD Tryz.prog 232 [.d (zam w),.agg [.d (.i ta),.d (.i tk)],.agg [.d (.i (a).op),.d (.i (a).ctor),.d (.i (a).n),.d (.i (a).m),.d (.i (a).var),.d (zad (a).kids)],.agg [.d (.i (b).op),.d (.i (b).ctor),.d (.i (b).n),.d (.i (b).m),.d (.i (b).var),.d (zad (b).kids)]] [] (.d (zad (zat w n ⟨ta,tk⟩ a b))) []
theorem znS (hs:Spa w){n m:Nat} (hn:n+1<=10) (hm:m+1<=11) (hnm:n<m)
  (ih:∀ {ta tk:Int}{a b:Pat},InS (w.length*4) ⟨ta,tk⟩->zae w m ⟨ta,tk⟩ a=true->zae w n ⟨ta,tk⟩ b=true->MinusSp w n ta tk a b)
  {ta tk:Int}{a b:Pat} (ht:InS (w.length*4) ⟨ta,tk⟩) (ha:zae w (m+1) ⟨ta,tk⟩ a=true) (hb:zae w (n+1) ⟨ta,tk⟩ b=true) (h4:a.op=4) (h4b:b.op=4) (hc:a.ctor=b.ctor):
  FnD Tryz.prog 303 [.d (zam w),.agg [.d (.i ta),.d (.i tk)],.agg [.d (.i (a).op),.d (.i (a).ctor),.d (.i (a).n),.d (.i (a).m),.d (.i (a).var),.d (zad (a).kids)],.agg [.d (.i (b).op),.d (.i (b).ctor),.d (.i (b).n),.d (.i (b).m),.d (.i (b).var),.d (zad (b).kids)]] [] (.d (zad (zat w (n+1) ⟨ta,tk⟩ a b))) []:=by
 obtain⟨c1,c2,c3,-⟩:=zaA ha h4;obtain⟨d1,d2,d3,-⟩:=zaA hb h4b;rw[<-hc] at d3;have h3l:=hs.args ⟨ta,tk⟩ a.ctor ht c1;have ka:=fun i (hi:i<a.kids.length)=>zaN ha hi;have kb:=fun i (hi:i<b.kids.length)=>zaN hb hi;rw[za5 h4] at ka;rw[za5 h4b,<-hc] at kb;have hbd:=zfA hs (n:=n+1) (m:=m+1) (by omega) hn ht ha hb;have e:zat w (n+1) ⟨ta,tk⟩ a b=zaL (zat w n) a.ctor (zaa w ⟨ta,tk⟩ a.ctor) a.kids b.kids []:=by rw[zcN h4b h4];exact if_pos hc
 have hins:=fun i (hi:i<(zaa w ⟨ta,tk⟩ a.ctor).length)=>zbp hs.dp ht c1 _ (zac hi);have hmi:∀i,i<(zaa w ⟨ta,tk⟩ a.ctor).length->FnD Tryz.prog 232 [.d (zam w),.agg [.d (.i (nth (zaa w ⟨ta,tk⟩ a.ctor) i).data),.d (.i (nth (zaa w ⟨ta,tk⟩ a.ctor) i).index)],.agg [.d (.i (nth a.kids i).op),.d (.i (nth a.kids i).ctor),.d (.i (nth a.kids i).n),.d (.i (nth a.kids i).m),.d (.i (nth a.kids i).var),.d (zad (nth a.kids i).kids)],.agg [.d (.i (nth b.kids i).op),.d (.i (nth b.kids i).ctor),.d (.i (nth b.kids i).n),.d (.i (nth b.kids i).m),.d (.i (nth b.kids i).var),.d (zad (nth b.kids i).kids)]] [] (.d (zad (zat w n (nth (zaa w ⟨ta,tk⟩ a.ctor) i) (nth a.kids i) (nth b.kids i)))) []:=fun i hi=>ih (ta:=(nth (zaa w ⟨ta,tk⟩ a.ctor) i).data) (tk:=(nth (zaa w ⟨ta,tk⟩ a.ctor) i).index) (hins i hi) (ka i (by omega)) (kb i (by omega));have hme:=fun i (hi:i<(zaa w ⟨ta,tk⟩ a.ctor).length)=>zim hs 11 m (t:=nth (zaa w ⟨ta,tk⟩ a.ctor) i) (by omega) (hins i hi) (ka i (by omega)) (zc4 (by omega) (kb i (by omega)));rw[e] at hbd ⊢;have hT:∀i out front,i<(zaa w ⟨ta,tk⟩ a.ctor).length->out++zaL (zat w n) a.ctor ((zaa w ⟨ta,tk⟩ a.ctor).drop i) (a.kids.drop i) (b.kids.drop i) front=zaL (zat w n) a.ctor (zaa w ⟨ta,tk⟩ a.ctor) a.kids b.kids []->
   out.length+(zat w n (nth (zaa w ⟨ta,tk⟩ a.ctor) i) (nth a.kids i) (nth b.kids i)).length<=20000000:=fun i out front hi h=>by
  rw[zhv hi (by omega) (by omega)] at h;have:=congrArg List.length h;simp only[xaa,xac] at this;omega
 refine bd Tryz.f303 100 [] [] fun w0 F0 own kept hk=>?_;refine bx 3005 ?_;refine bx 3006 ?_;refine bx 3007 ?_;refine ev ?_;refine xbg 9 sl34 .none rfl rfl ?_;refine ev ?_;refine wc zfU (zcg hs.dp.wt (zb0 ht) c1) rfl rfl ?_;refine ev ?_;refine xbg 8 sl34 .none rfl rfl ?_;refine ev ?_;refine xak (ι:=Nat×List Pat×List Pat) hk (fun s=>[(12,.d (.i (s.1:Int))),(9,.gl 9 (s.2.1.map Pat.cc)),(11,.gl 8 (s.2.2.map Pat.cc))]) [8,13,14,15,16,17,25,26,27,28,29,30,31,32,33,34,35,36,37,38,39,40,41,42,43,44,45,46,47,48,49,50,51,52,53,54,55,56,57,58,59,60,61,62,63,64,65,66,67,68,69,70,71,72,73,74,75,76,77,78,79,80,81,82,83,84,85,86,87,88,89,90,91,92,93,94,95,96,97,98] (fun s=>[(9,some (.tok ((s.2.1.map Pat.cc)).length 6)),(8,some (.tok ((s.2.2.map Pat.cc)).length 6))]) (fun s=>s.1<=a.kids.length/\s.2.2.length=s.1/\s.2.1++zaL (zat w n) a.ctor ((zaa w ⟨ta,tk⟩ a.ctor).drop s.1) (a.kids.drop s.1) (b.kids.drop s.1) s.2.2=zaL (zat w n) a.ctor (zaa w ⟨ta,tk⟩ a.ctor) a.kids b.kids []) (fun s=>a.kids.length-s.1) (0,[],[]) ⟨by simp,rfl,rfl⟩ ⟨⟨_,rfl,xaq ?_⟩,⟨⟨_,rfl,LeA.glg ?_⟩,⟨⟨_,rfl,LeA.glg ?_⟩,trivial⟩⟩⟩ ⟨zab ?_,⟨zab ?_,trivial⟩⟩ (fun x=>rfl) (fun s hg1=>?_);iterate 5 focus (rfl)
 refine evc [] [] ?_;refine sq ?_ ?_<;>intro h1 h1p h1s<;>(try simp only[Q,Pat.cs_len] at h1p);refine xaS zaZ .none rfl rfl rfl rfl (zap (by omega)) rfl ?_;refine evd [] [] ?_;refine xaS sl34 .none rfl rfl rfl rfl (zaH (by omega)) rfl ?_;refine evd [] [] ?_;refine xaS sl34 .none rfl rfl rfl rfl (zaH (by omega)) rfl ?_;refine evd [] [] ?_;refine wc zpm (hmi s.1 (by omega)) rfl rfl ?_;refine evd [] [] ?_;refine dr ?_;refine xak (ι:=List (Pat)×List (Pat)) hk (fun x=>[(14,.d (.i (x.1.length:Int))),(9,.gl 9 ((s.2.1++x.1.map (fun z=>za8 a.ctor (s.2.2++[z]++a.kids.drop (s.1+1)))).map Pat.cc))]) [15,47,48,49,50,51,52,53,54,55,56,57,58,59,60,61,62,63,64,65,66,67,68,69,70,71,72,73,74,75,76,77] (fun x=>[(9,some (.tok (((s.2.1++x.1.map (fun z=>za8 a.ctor (s.2.2++[z]++a.kids.drop (s.1+1)))).map Pat.cc)).length 6))]) (fun x=>x.1++x.2=(zat w n (nth (zaa w ⟨ta,tk⟩ a.ctor) s.1) (nth a.kids s.1) (nth b.kids s.1))) (fun x=>x.2.length) ([],(zat w n (nth (zaa w ⟨ta,tk⟩ a.ctor) s.1) (nth a.kids s.1) (nth b.kids s.1))) (by simp) ⟨⟨_,rfl,xaq ?_⟩,⟨⟨_,rfl,LeA.glg ?_⟩,trivial⟩⟩ ⟨zab ?_,trivial⟩ (fun x=>rfl) (fun x hg2=>?_);iterate 3 focus ((simp;done))
 obtain⟨pre,rest⟩:=x;dsimp only at hg2 ⊢;refine evc [] [] ?_;refine sq ?_ ?_<;>intro h2 h2p h2s<;>(try simp only[Q,Pat.cs_len] at h2p);rcases rest with _|⟨y,rest⟩
 ·exfalso;simp_all
 refine xbg 7 sl34 .none rfl rfl ?_;refine evd [] [] ?_;refine ap sl34 zz36 rfl rfl rfl (by intro x hx;exact zgM _ x hx) (by(simp[Pat.cs_len];omega)) ?_;refine evd [] [] ?_;refine xaS sl34 .none rfl rfl rfl rfl (Pat.cs_at' hg2) rfl ?_;refine evd [] [] ?_;refine si [0] [_] sl34 tz36 ?_;refine ap sl34 zz36 rfl rfl rfl (by intro x hx;(simp at hx;subst hx;rfl)) (by(have h9:=hT s.1 s.2.1 s.2.2 (by omega) hg1.2.2;have h8:=congrArg List.length hg2;simp[Pat.cs_len] at h8 ⊢;omega)) ?_;refine bu [0,1,5] [_,_,_] st36 ?_;refine ab 3015 tz36 ?_;refine so ty36 ?_;refine dr ?_;refine ar ?_ (by(constructor<;>omega));refine xaP (b:=s.1+1) sl34 .none rfl rfl rfl (by intro x hx;exact zbD _ x hx) rfl rfl (by simp only[Pat.cs_len];omega) ?_;refine ap sl34 zz36 rfl rfl rfl (by intro x hx;exact zbD _ x (List.mem_of_mem_drop hx)) (by(have h9:=hT s.1 s.2.1 s.2.2 (by omega) hg1.2.2;have h8:=congrArg List.length hg2;simp[Pat.cs_len] at h8 ⊢;omega)) ?_;refine evd [] [] ?_;refine so ty34 ?_;refine dr ?_;refine si [0] [_] sl34 tz36 ?_;refine ap sl34 zz36 rfl rfl rfl (by intro x hx;(simp at hx;subst hx;rfl)) (by(have h9:=hT s.1 s.2.1 s.2.2 (by omega) hg1.2.2;have h8:=congrArg List.length hg2;simp[Pat.cs_len] at h8 ⊢;omega)) ?_;refine ev ?_;refine ar ?_ (by(have h9:=hT s.1 s.2.1 s.2.2 (by omega) hg1.2.2;have h8:=congrArg List.length hg2;simp only[xaa,xab] at h8;constructor<;>omega));refine xah ((pre++[y],rest)) ⟨(by have hz:=hg2;rw[<-hz];simp),(by simp),sx ⟨⟨_,rfl,xaq ?_⟩,⟨⟨_,rfl,LeA.glg ?_⟩,trivial⟩⟩ ⟨zab ?_,trivial⟩⟩;iterate 3 focus (first|(simp;done)|(simp only[xaf,List.append_assoc,xae,List.map_nil,zud,xat a.kids,List.map_drop,List.nil_append,xag];done)|(simp;omega))
 have hrest:rest=[]:=by
  rcases rest with _|⟨a,b⟩
  ·rfl
  ·exfalso;have hz:=congrArg List.length (hg2);simp only[xaa,xab,xac] at hz;omega
 subst hrest;refine xaS sl34 .none rfl rfl rfl rfl (zaH (by omega)) rfl ?_;refine evd [] [] ?_;refine xaS sl34 .none rfl rfl rfl rfl (zaH (by omega)) rfl ?_;refine evd [] [] ?_;refine wc zsT (hme s.1 (by omega)) rfl rfl ?_;refine evd [] [] ?_;refine ab 3016 tz36 ?_;refine so ty36 ?_;refine evd [] [] ?_;refine dr ?_;refine sq ?_ ?_<;>intro h3 h3p h3s;refine rn0 (r1 rfl) (.gld ?_);rotate_left;try simp only[Q,Pat.cs_len] at h3p
 refine si [0] [_] sl34 tz36 ?_;refine ap sl34 zz36 rfl rfl rfl (by intro x hx;(simp at hx;subst hx;rfl)) (by(have h9:=hT s.1 s.2.1 s.2.2 (by omega) hg1.2.2;have h8:=congrArg List.length hg2;simp[Pat.cs_len] at h8 ⊢;omega)) ?_;refine ev ?_;refine ar ?_ (by(constructor<;>omega));refine xah ((s.1+1,s.2.1++(zat w n (nth (zaa w ⟨ta,tk⟩ a.ctor) s.1) (nth a.kids s.1) (nth b.kids s.1)).map (fun z=>za8 a.ctor (s.2.2++[z]++a.kids.drop (s.1+1))),s.2.2++[zdG 11 (nth a.kids s.1) (nth b.kids s.1)])) ⟨⟨by dsimp only;omega,by dsimp only;rw[xaa,hg1.2.1];rfl,by dsimp only;rw[List.append_assoc,<-zp5 (by omega) (by omega) (by omega) (by assumption)];exact hg1.2.2⟩,(by dsimp only;omega),sx ⟨⟨_,rfl,xaq ?_⟩,⟨⟨_,rfl,LeA.glg ?_⟩,⟨⟨_,rfl,LeA.glg ?_⟩,trivial⟩⟩⟩ ⟨zab ?_,⟨zab ?_,trivial⟩⟩⟩;iterate 5 focus ((simp_all;done))
 refine rn0 (r1 rfl) (.gld ?_);rotate_left;all_goals (first|(rw[<-hg1.2.2,zms (by omega),List.append_nil,xat];done)|(rw[List.append_nil] at hg2;rw[<-hg1.2.2,zkL (by omega) (by omega) (by omega) (by assumption),<-hg2,xat];all_goals rfl))
theorem zqx {n:Nat}{ta tk:Int}{a b:Pat} (h:b.op=1):MinusSp w (n+1) ta tk a b:=by
 unfold MinusSp;rw[zeS h];refine bd Tryz.f232 82 [] [] fun w0 F0 own kept hk=>?_;refine bx 3005 ?_;refine bx 3006 ?_;refine bx 3007 ?_;refine ev ?_;refine sq ?_ ?_<;>intro h1 h1p h1s;refine xbf sl34 .none rfl ?_;refine ev ?_;refine rq ?_;rotate_left;try simp only[Q] at h1p
 exfalso;omega;all_goals (rfl)
theorem zqy {n:Nat}{ta tk:Int}{a b:Pat} (h:b.op=3) (ha:a.op=1\/a.op=3) (hbn:0<=b.n/\b.n<=9) (hbm:0<=b.m/\b.m<=9):MinusSp w (n+1) ta tk a b:=by
 unfold MinusSp;rw[zgK h];by_cases h1:a.op=1
 ·have e:zdM a b=zbO 0 (minQ 9 (b.n-1))++zbO (maxQ 0 (b.m+1)) 9:=by
   have e1:lowQ a=0:=if_pos h1;have e2:zch a=9:=if_pos h1;unfold zdM;rw[e1,e2]
  have hr:=zhd (a:=intQ 0 9) hbn hbm;rw[e];refine bd Tryz.f232 82 [] [] fun w0 F0 own kept hk=>?_;refine bx 3005 ?_;refine bx 3006 ?_;refine bx 3007 ?_;refine ev ?_;refine sq ?_ ?_<;>intro h1 h1p h1s;try simp only[Q] at h1p
  exfalso;omega;refine sq ?_ ?_<;>intro h2 h2p h2s;refine sq ?_ ?_<;>intro h3 h3p h3s;refine bu [0,3] [_,_] st36 ?_;refine ev ?_;refine Walk.call (cr:=[]) zsX (hr) rfl .none rfl rfl (.cons (.agg (.cons (.refl _) (.cons (.refl _) (.cons (.refl _) (.cons (.refl _) (.cons (.refl _) (.cons .nil .nil))))))) (.cons (.refl _) .nil)) trivial rfl rfl rfl ?_;refine ev ?_;focus (refine rq ?_;all_goals (rfl))
  focus (exfalso;first|omega|(simp_all;done))
  try simp only[Q] at h2p
  exfalso;omega
 ·have e:zdM a b=zbO a.n (minQ a.m (b.n-1))++zbO (maxQ a.n (b.m+1)) a.m:=by
   have e1:lowQ a=a.n:=if_neg h1;have e2:zch a=a.m:=if_neg h1;unfold zdM;rw[e1,e2]
  have hr:=zhd (a:=a) hbn hbm;rw[e];refine bd Tryz.f232 82 [] [] fun w0 F0 own kept hk=>?_;refine bx 3005 ?_;refine bx 3006 ?_;refine bx 3007 ?_;refine ev ?_;refine sq ?_ ?_<;>intro h1 h1p h1s;try simp only[Q] at h1p
  exfalso;omega;refine sq ?_ ?_<;>intro h2 h2p h2s;refine sq ?_ ?_<;>intro h3 h3p h3s;focus (exfalso;first|omega|(simp_all;done))
  refine sq ?_ ?_<;>intro h4 h4p h4s;refine wc zsX (hr) rfl rfl ?_;refine ev ?_;focus (refine rq ?_;all_goals (rfl))
  try simp only[Q] at h4p
  exfalso;omega;try simp only[Q] at h2p
  exfalso;omega
theorem zqB {n:Nat}{ta tk:Int}{a b:Pat} (h4:a.op=4) (h4b:b.op=4) (hc:¬a.ctor=b.ctor):MinusSp w (n+1) ta tk a b:=by
 unfold MinusSp;have e:zat w (n+1) ⟨ta,tk⟩ a b=[a]:=by rw[zcN h4b h4];exact if_neg hc
 rw[e];refine bd Tryz.f232 82 [] [] fun w0 F0 own kept hk=>?_;refine bx 3005 ?_;refine bx 3006 ?_;refine bx 3007 ?_;refine ev ?_;refine sq ?_ ?_<;>intro h1 h1p h1s;try simp only[Q] at h1p
 exfalso;omega;refine sq ?_ ?_<;>intro h2 h2p h2s;try simp only[Q] at h2p
 exfalso;omega;refine sqF ?_;refine sq ?_ ?_<;>intro h4 h4p h4s;try simp only[Q] at h4p
 exfalso;omega;refine sq ?_ ?_<;>intro h5 h5p h5s;refine sq ?_ ?_<;>intro h6 h6p h6s;refine si [0] [_] sl34 tz36 ?_;refine ev ?_;refine rq ?_;rotate_left;focus (exfalso;first|omega|(simp_all;done))
 try simp only[Q] at h5p
 exfalso;omega;all_goals (first|rfl|(cases a;rfl))
theorem zqA (hs:Spa w){n m:Nat} (hn:n+1<=10) (hm:m+1<=11) (hnm:n<m)
  (ih:∀ {ta tk:Int}{a b:Pat},InS (w.length*4) ⟨ta,tk⟩->zae w m ⟨ta,tk⟩ a=true->zae w n ⟨ta,tk⟩ b=true->MinusSp w n ta tk a b)
  {ta tk:Int}{a b:Pat} (ht:InS (w.length*4) ⟨ta,tk⟩) (ha:zae w (m+1) ⟨ta,tk⟩ a=true) (hb:zae w (n+1) ⟨ta,tk⟩ b=true) (h4:a.op=4) (h4b:b.op=4) (hc:a.ctor=b.ctor):MinusSp w (n+1) ta tk a b:=by
 have hki:=znS hs hn hm hnm ih ht ha hb h4 h4b hc;clear ih;unfold MinusSp;refine bd Tryz.f232 82 [] [] fun w0 F0 own kept hk=>?_;refine bx 3005 ?_;refine bx 3006 ?_;refine bx 3007 ?_;refine ev ?_;refine sq ?_ ?_<;>intro h1 h1p h1s;try simp only[Q] at h1p
 exfalso;omega;refine sq ?_ ?_<;>intro h2 h2p h2s;try simp only[Q] at h2p
 exfalso;omega;refine sqF ?_;refine sq ?_ ?_<;>intro h4 h4p h4s;try simp only[Q] at h4p
 exfalso;omega;refine sq ?_ ?_<;>intro h5 h5p h5s;refine sq ?_ ?_<;>intro h6 h6p h6s;focus (exfalso;first|omega|(simp_all;done))
 refine sq ?_ ?_<;>intro h7 h7p h7s;refine wc zwX (hki) rfl rfl ?_;refine ev ?_;focus (refine rq ?_;all_goals (rfl))
 try simp only[Q] at h7p
 exfalso;omega;try simp only[Q] at h5p
 exfalso;omega
theorem zqz (hs:Spa w){n:Nat}{ta tk:Int}{a b:Pat} (ht:InS (w.length*4) ⟨ta,tk⟩) (h1:a.op=1) (h4b:b.op=4) (hbd:(zat w (n+1) ⟨ta,tk⟩ a b).length<=20000000)
  (hC:∀c∈zaj w ⟨ta,tk⟩,MinusSp w (n+1) ta tk (zbJ w ⟨ta,tk⟩ c) b):MinusSp w (n+1) ta tk a b:=by
 have e:zat w (n+1) ⟨ta,tk⟩ a b=(zaj w ⟨ta,tk⟩).flatMap fun c=>zat w (n+1) ⟨ta,tk⟩ (zbJ w ⟨ta,tk⟩ c) b:=by
  rw[zfz h4b h1];exact congrArg (fun g=>(zaj w ⟨ta,tk⟩).flatMap g) (funext fun c=>(zcN h4b rfl).symm)
 unfold MinusSp;rw[e] at hbd ⊢;have hcl:=(hs.ctors _ ht).1;have hpre:∀ {pre rest:List Int}{y:Int},pre++y::rest=zaj w ⟨ta,tk⟩->(pre.flatMap fun c=>zat w (n+1) ⟨ta,tk⟩ (zbJ w ⟨ta,tk⟩ c) b).length+(zat w (n+1) ⟨ta,tk⟩ (zbJ w ⟨ta,tk⟩ y) b).length<=20000000:=fun h=>by
  rw[<-h,List.flatMap_append,List.flatMap_cons] at hbd;simp only[xaa] at hbd;omega
 have hmem:∀ {pre rest:List Int}{y:Int},pre++y::rest=zaj w ⟨ta,tk⟩->y∈zaj w ⟨ta,tk⟩:=fun h=>by rw[<-h];simp
 refine bd Tryz.f232 82 [] [] fun w0 F0 own kept hk=>?_;refine bx 3005 ?_;refine bx 3006 ?_;refine bx 3007 ?_;refine ev ?_;refine sq ?_ ?_<;>intro h1 h1p h1s;try simp only[Q,Pat.cs_len] at h1p
 exfalso;omega;refine sq ?_ ?_<;>intro h2 h2p h2s;try simp only[Q,Pat.cs_len] at h2p
 exfalso;omega;refine sqF ?_;refine sq ?_ ?_<;>intro h4 h4p h4s;try simp only[Q,Pat.cs_len] at h4p
 exfalso;omega;refine sq ?_ ?_<;>intro h5 h5p h5s;try simp only[Q,Pat.cs_len] at h5p
 exfalso;omega;refine sqF ?_;refine sq ?_ ?_<;>intro h7 h7p h7s;try simp only[Q,Pat.cs_len] at h7p
 exfalso;omega;refine xbg 9 sl34 .none rfl rfl ?_;refine ev ?_;refine wc zfT (zb5 hs.dp.wt (zb0 ht)) rfl rfl ?_;refine ev ?_;refine xak (ι:=List (Int)×List (Int)) hk (fun x=>[(11,.d (.i (x.1.length:Int))),(9,.gl 9 (Pat.cs (x.1.flatMap fun c=>zat w (n+1) ⟨ta,tk⟩ (zbJ w ⟨ta,tk⟩ c) b)))]) [62,63,64,65,66,67,68,69,70,71,72,73,74,75,76,77,78,79,80] (fun x=>[(9,some (.tok ((Pat.cs (x.1.flatMap fun c=>zat w (n+1) ⟨ta,tk⟩ (zbJ w ⟨ta,tk⟩ c) b))).length 6))]) (fun x=>x.1++x.2=zaj w ⟨ta,tk⟩) (fun x=>x.2.length) ([],zaj w ⟨ta,tk⟩) (by simp) ⟨⟨_,rfl,xaq ?_⟩,⟨⟨_,rfl,LeA.glg ?_⟩,trivial⟩⟩ ⟨zab ?_,trivial⟩ (fun x=>rfl) (fun x hg1=>?_);iterate 3 focus (rfl)
 obtain⟨pre,rest⟩:=x;dsimp only at hg1 ⊢;refine evc [] [] ?_;refine sq ?_ ?_<;>intro h8 h8p h8s<;>(try simp only[Q,Pat.cs_len] at h8p);rcases rest with _|⟨y,rest⟩
 ·exfalso;simp_all
 refine xaS sl29 .none rfl rfl rfl rfl (zaK hg1) rfl ?_;refine evd [] [] ?_;refine wc zwY (zoY hs.dp.wt (zb0 ht) (hmem hg1) (hs.args _ _ ht (hmem hg1))) rfl rfl ?_;refine evd [] [] ?_;refine wc zpm (hC y (hmem hg1)) rfl rfl ?_;refine ap sl34 zz36 rfl rfl rfl (by exact zbD _) (by have h9:=hpre hg1;simp only[Pat.cs_len];omega) ?_;refine evd [] [] ?_;refine dr ?_;refine ar ?_;refine xah ((pre++[y],rest)) ⟨(by have hz:=hg1;rw[<-hz];simp),(by simp),sx ⟨⟨_,rfl,xaq ?_⟩,⟨⟨_,rfl,LeA.glg ?_⟩,trivial⟩⟩ ⟨zab ?_,trivial⟩⟩;iterate 3 focus (first|(rw[List.flatMap_append,xat,xat,xat,xaf];simp;done)|(simp[Pat.cs_len];done))
 have hrest:rest=[]:=by
  rcases rest with _|⟨a,b⟩
  ·rfl
  ·exfalso;have hz:=congrArg List.length (hg1);simp only[xaa,xab,xac] at hz;omega
 subst hrest;refine rn0 (r1 rfl) (.gld ?_);rotate_left;all_goals ((rw[List.append_nil] at hg1;rw[hg1];done))
theorem zhG (hs:Spa w):∀(n m:Nat){ta tk:Int}{a b:Pat},n<m->n<=10->m<=11->InS (w.length*4) ⟨ta,tk⟩->zae w m ⟨ta,tk⟩ a=true->zae w n ⟨ta,tk⟩ b=true->MinusSp w n ta tk a b
 |0,m,ta,tk,a,b,_,_,_,_,_,hb=>by simp[zae] at hb
 |n+1,0,ta,tk,a,b,h,_,_,_,_,_=>by omega
 |n+1,m+1,ta,tk,a,b,h,hn,hm,ht,ha,hb=>by
  have hC:∀ {a:Pat},zae w (m+1) ⟨ta,tk⟩ a=true->a.op=4->b.op=4->MinusSp w (n+1) ta tk a b:=fun {a} ha h4 h4b=>by
   by_cases hc:a.ctor=b.ctor
   ·exact zqA hs hn hm (by omega) (fun h1 h2 h3=>zhG hs n m (by omega) (by omega) (by omega) h1 h2 h3) ht ha hb h4 h4b hc
   ·exact zqB h4 h4b hc
  rcases zbn hb with h1|h3|h4b
  ·exact zqx h1
  ·have:=zbC hb h3;refine zqy h3 ?_ ⟨by omega,by omega⟩ ⟨by omega,by omega⟩;by_cases h1:a.op=1
   ·exact .inl h1
   ·exact .inr (by have:=zc5 ha hb h1 (by omega);omega)
  ·by_cases h1:a.op=1
   ·obtain⟨m',rfl⟩:∃m',m=m'+1:=⟨m-1,by omega⟩;exact zqz hs ht h1 h4b (zfA hs h hn ht ha hb) (fun c hc=>hC (zcu hc) rfl h4b)
   ·exact hC ha (by have:=zc5 ha hb h1 (by omega);omega) h4b
end
def zmj (w:List Data) (t:Ty) (b a:Pat):List Pat:=(zat w 10 t a b).filter (zbh w t)
def zfQ (w:List Data) (t:Ty) (l:List Pat) (b:Pat) (k:Nat):List Pat:=(l.take k).flatMap (zmj w t b)
theorem zmB {w:List Data}{t:Ty}{l:List Pat}{b:Pat}:zbR w t l b=l.flatMap (zmj w t b):=by
 unfold zbR;induction l with
 |nil=>rfl
 |cons x r ih=>rw[List.flatMap_cons,List.filter_append,List.flatMap_cons,ih];rfl
theorem zeU {w:List Data}{t:Ty}{l:List Pat}{b:Pat}{k:Nat} (h:l.length<=k):zfQ w t l b k=zbR w t l b:=by
 rw[zmB,zfQ,List.take_of_length_le h]
theorem zmC {w:List Data}{t:Ty}{l:List Pat}{b:Pat}{k:Nat} (h:k<l.length):zfQ w t l b (k+1)=zfQ w t l b k++zmj w t b (nth l k):=by
 unfold zfQ;have e:l[k]?=some (nth l k):=by simpa using zap (f:=id) h
 rw[List.take_add_one,e,List.flatMap_append];simp
theorem zuz {w:List Data}{t:Ty}{l:List Pat}{b:Pat} (k:Nat):(zfQ w t l b k).length<=(zbR w t l b).length:=by
 rw[zmB,zfQ];conv=>rhs;rw[<-List.take_append_drop k l,List.flatMap_append]
 rw[xaa];omega
theorem zhF {w:List Data} (hs:Spa w):∀(n:Nat){ta tk:Int}{p:Pat},InS (w.length*4) ⟨ta,tk⟩->zae w n ⟨ta,tk⟩ p=true->
  FnD Tryz.prog 301 [.d (zam w),.d (zev (w.length*4) (zal w)),.agg [.d (.i ta),.d (.i tk)],.agg [.d (.i (p).op),.d (.i (p).ctor),.d (.i (p).n),.d (.i (p).m),.d (.i (p).var),.d (zad (p).kids)]] [] (.d (.bool (!zaQ w (zal w) n ⟨ta,tk⟩ p))) []
 |0,ta,tk,p,_,h=>by simp[zae] at h
 |n+1,ta,tk,p,ht,h=>by
  have hdp:=zdU (f:=zal w) ht (by have:=hs.dp.four;omega);by_cases h1:p.op=1
  ·rw[zeN h1];refine bd Tryz.f301 45 [] [] fun w0 F0 own kept hk=>?_;refine bx 3006 ?_;refine bx 3007 ?_;refine ev ?_;refine sq ?_ ?_<;>intro h1 h1p h1s;refine wc zjo (hdp) rfl rfl ?_;refine ev ?_;refine rq ?_;rotate_left;try simp only[Q] at h1p
   exfalso;omega;all_goals (refine congrArg D.bool ?_;rw[Bool.eq_iff_iff];simp;omega)
  by_cases h3:p.op=3
  ·rw[zkj h h3];refine bd Tryz.f301 45 [] [] fun w0 F0 own kept hk=>?_;refine bx 3006 ?_;refine bx 3007 ?_;refine ev ?_;refine sq ?_ ?_<;>intro h1 h1p h1s;try simp only[Q] at h1p
   exfalso;omega;refine sq ?_ ?_<;>intro h2 h2p h2s;refine rq ?_;rotate_left;try simp only[Q] at h2p
   exfalso;omega;all_goals (rfl)
  have h4:p.op=4:=by have:=zbn h;omega
  obtain⟨c1,c2,c3,-⟩:=zaA h h4;have h3l:=hs.args ⟨ta,tk⟩ p.ctor ht c1;have hk:=fun i (hi:i<p.kids.length)=>zaN h hi;rw[za5 h4] at hk;rw[zh3 h4,Bool.not_not];have ih:=fun i (hi:i<p.kids.length)=>zhF hs n (ta:=(nth (zaa w ⟨ta,tk⟩ p.ctor) i).data) (tk:=(nth (zaa w ⟨ta,tk⟩ p.ctor) i).index) (p:=nth p.kids i) (zbp hs.dp ht c1 _ (zac (by omega))) (hk i hi);refine bd Tryz.f301 45 [] [] fun w0 F0 own kept hk=>?_;refine bx 3006 ?_;refine bx 3007 ?_;refine ev ?_;refine sq ?_ ?_<;>intro h1 h1p h1s;try simp only[Q,Pat.cs_len] at h1p
  exfalso;omega;refine sq ?_ ?_<;>intro h2 h2p h2s;try simp only[Q,Pat.cs_len] at h2p
  exfalso;omega;refine wc zfU (zcg hs.dp.wt (zb0 ht) c1) rfl rfl ?_;refine ev ?_;refine xak (ι:=Nat) hk (fun i=>[(10,.d (.i (i:Int)))]) [8,26,27,28,29,30,31,32,33,34,35,36,37,38,39,40,41,42,43,44] (fun i=>[]) (fun i=>i<=(zaa w ⟨ta,tk⟩ p.ctor).length/\∀i',i'<i->(!zaQ w (zal w) n (nth (zaa w ⟨ta,tk⟩ p.ctor) i') (nth p.kids i'))=true) (fun i=>(zaa w ⟨ta,tk⟩ p.ctor).length-i) 0 ⟨by omega,fun _ h=>absurd h (by omega)⟩ ⟨⟨_,rfl,xaq ?_⟩,trivial⟩ trivial (fun x=>rfl) (fun i hg1=>?_);focus (rfl)
  refine evc [] [] ?_;refine sq ?_ ?_<;>intro h3 h3p h3s<;>(try simp only[Q,Pat.cs_len] at h3p);refine xaS zaZ .none rfl rfl rfl rfl (zap (by omega)) rfl ?_;refine evd [] [] ?_;refine xaS sl34 .none rfl rfl rfl rfl (zaH (by omega)) rfl ?_;refine evd [] [] ?_;refine wc zsW (ih i (by omega)) rfl rfl ?_;refine evd [] [] ?_;refine dr ?_;refine sq ?_ ?_<;>intro h4 h4p h4s;refine rq ?_;rotate_left;try simp only[Q,Pat.cs_len] at h4p
  refine ar ?_;refine xah (i+1) ⟨⟨by omega,zaX hg1.2 (by(simp;assumption))⟩,(by omega),sx ⟨⟨_,rfl,xaq ?_⟩,trivial⟩ trivial⟩;focus (rfl)
  refine rq ?_;rotate_left;all_goals (refine congrArg D.bool ?_;first|(rw[zb1 (i:=i) (by omega) (by omega) (by first|assumption|(simp;assumption)|(simp_all;done))];done)|(rw[zcf (by omega) (fun x hx=>hg1.2 x (by omega))];done))
theorem zil {w:List Data} (hs:Spa w){ta tk:Int} (ht:InS (w.length*4) ⟨ta,tk⟩){l:List Pat} (hl:∀a∈l,zae w 11 ⟨ta,tk⟩ a=true) (hb:l.length<=20000000):
  FnD Tryz.prog 231 [.d (zam w),.d (zev (w.length*4) (zal w)),.agg [.d (.i ta),.d (.i tk)],.d (zad l)] [] (.d (zad (l.filter (zbh w ⟨ta,tk⟩)))) []:=by
 have hal:∀a∈l,FnD Tryz.prog 301 [.d (zam w),.d (zev (w.length*4) (zal w)),.agg [.d (.i ta),.d (.i tk)],.agg [.d (.i (a).op),.d (.i (a).ctor),.d (.i (a).n),.d (.i (a).m),.d (.i (a).var),.d (zad (a).kids)]] [] (.d (.bool (zbh w ⟨ta,tk⟩ a))) []:=fun a ha=>zhF hs 11 ht (hl a ha);have hle:∀ {pre rest:List Pat}{y:Pat},pre++y::rest=l->(pre.filter (zbh w ⟨ta,tk⟩)).length+1<=l.length:=fun {pre rest y} h=>by
  have h1:=List.length_filter_le (zbh w ⟨ta,tk⟩) pre;have h2:=congrArg List.length h;simp only[xaa,xab] at h2;omega
 refine bd Tryz.f231 34 [] [] fun w0 F0 own kept hk=>?_;refine bx 3006 ?_;refine ev ?_;refine xbg 9 sl34 .none rfl rfl ?_;refine ev ?_;refine xak (ι:=List (Pat)×List (Pat)) hk (fun x=>[(10,.d (.i (x.1.length:Int))),(9,.gl 9 (Pat.cs (x.1.filter (zbh w ⟨ta,tk⟩))))]) [12,13,14,15,16,17,18,19,20,21,22,23,24,25,26,27,28,29,30,31,32] (fun x=>[(9,some (.tok ((Pat.cs (x.1.filter (zbh w ⟨ta,tk⟩)))).length 6))]) (fun x=>x.1++x.2=l) (fun x=>x.2.length) ([],l) (by simp) ⟨⟨_,rfl,xaq ?_⟩,⟨⟨_,rfl,LeA.glg ?_⟩,trivial⟩⟩ ⟨zab ?_,trivial⟩ (fun x=>rfl) (fun x hg1=>?_);iterate 3 focus (rfl)
 obtain⟨pre,rest⟩:=x;dsimp only at hg1 ⊢;refine evc [] [] ?_;refine sq ?_ ?_<;>intro h1 h1p h1s<;>(try simp only[Q,Pat.cs_len] at h1p);rcases rest with _|⟨y,rest⟩
 ·exfalso;simp_all
 refine xaS sl34 .none rfl rfl rfl rfl (Pat.cs_at' hg1) rfl ?_;refine evd [] [] ?_;refine wc zsW (hal y (by rw[<-hg1];simp)) rfl rfl ?_;refine dr ?_;refine sq ?_ ?_<;>intro h2 h2p h2s<;>(try simp only[Q,Pat.cs_len] at h2p);refine xaS sl34 .none rfl rfl rfl rfl (Pat.cs_at' hg1) rfl ?_;refine ev ?_;refine si [0] [_] sl34 tz36 ?_;refine ap sl34 zz36 rfl rfl rfl (by intro x hx;simp at hx;subst hx;rfl) (by have h9:=hle hg1;simp[Pat.cs_len];omega) ?_;refine ev ?_;refine ar ?_;refine xah ((pre++[y],rest)) ⟨(by have hz:=hg1;rw[<-hz];simp),(by simp),sx ⟨⟨_,rfl,xaq ?_⟩,⟨⟨_,rfl,LeA.glg ?_⟩,trivial⟩⟩ ⟨zab ?_,trivial⟩⟩;iterate 3 focus (first|(dsimp only;rw[List.filter_append,List.filter_cons_of_pos (by assumption),List.filter_nil,xat (List.filter _ _),xat (_++_),xaf];rfl)|(dsimp only;rw[List.filter_append,List.filter_cons_of_pos (by assumption),List.filter_nil];simp[Pat.cs_len];done)|(simp;done))
 refine ar ?_;refine xah ((pre++[y],rest)) ⟨(by have hz:=hg1;rw[<-hz];simp),(by simp),sx ⟨⟨_,rfl,xaq ?_⟩,⟨⟨_,rfl,LeA.glg ?_⟩,trivial⟩⟩ ⟨zab ?_,trivial⟩⟩;iterate 3 focus (first|(dsimp only;rw[List.filter_append,List.filter_cons_of_neg (by simp_all),List.filter_nil,List.append_nil];done)|(simp;done))
 have hrest:rest=[]:=by
  rcases rest with _|⟨a,b⟩
  ·rfl
  ·exfalso;have hz:=congrArg List.length (hg1);simp only[xaa,xab,xac] at hz;omega
 subst hrest;refine rn0 (r1 rfl) (.gld ?_);rotate_left;all_goals ((rw[List.append_nil] at hg1;rw[hg1];done))
theorem zf4 {w:List Data} (hs:Spa w){ta tk:Int} (ht:InS (w.length*4) ⟨ta,tk⟩){l away:List Pat} (hl:∀a∈l,zae w 11 ⟨ta,tk⟩ a=true) (hb:∀b∈away,zae w 10 ⟨ta,tk⟩ b=true) (hll:l.length<=400) (hal:away.length<=2000):
  FnD Tryz.prog 136 [.d (zam w),.d (zev (w.length*4) (zal w)),.agg [.d (.i ta),.d (.i tk)],.d (zad l),.d (zad away)] [] (.tup [.d (zad ((zay w ⟨ta,tk⟩ l away).getD [])),.d (.bool (zay w ⟨ta,tk⟩ l away).isSome)]) []:=by
 have hke:=ztX hs ht hl hb;have hmi:∀(c:List Pat) (i k:Nat),(∀a∈c,zae w 11 ⟨ta,tk⟩ a=true)->i<away.length->k<c.length->(zat w 10 ⟨ta,tk⟩ (nth c k) (nth away i)).length<=20000000:=fun c i k hc hi hk=>zfA hs (by omega) (by omega) ht (hc _ (zac hk)) (hb _ (zac hi));have hkb:∀(c:List Pat) (i k:Nat),(∀a∈c,zae w 11 ⟨ta,tk⟩ a=true)->i<away.length->k<c.length->(zmj w ⟨ta,tk⟩ (nth away i) (nth c k)).length<=20000000:=fun c i k hc hi hk=>Nat.le_trans (List.length_filter_le _ _) (hmi c i k hc hi hk);rw[<-hke];have hno:∀(c:List Pat) (i k:Nat),i<away.length->400<(zfQ w ⟨ta,tk⟩ c (nth away i) k).length->subL w ⟨ta,tk⟩ c (away.drop i)=none:=fun c i k hi h=>by
  have:=zuz (w:=w) (t:=⟨ta,tk⟩) (l:=c) (b:=nth away i) k;rw[zf6 hi,if_neg (by omega)]
 refine bd Tryz.f136 60 [] [] fun w0 F0 own kept hk=>?_;refine bx 3007 ?_;refine ev ?_;refine xak (ι:=Nat×List Pat) hk (fun s=>[(12,.d (.i (s.1:Int))),(3,.d (zad s.2))]) [10,11,13,14,15,16,17,18,19,20,21,22,23,24,25,26,27,28,29,30,31,32,33,34,35,36,37,38,39,40,41,42,43,44,45,46,47,48,49,50,51,52,53,54] (fun s=>[]) (fun s=>s.1<=away.length/\subL w ⟨ta,tk⟩ s.2 (away.drop s.1)=subL w ⟨ta,tk⟩ l away/\(∀a∈s.2,zae w 11 ⟨ta,tk⟩ a=true)/\s.2.length<=400) (fun s=>away.length-s.1) (0,l) ⟨by simp,rfl,hl,hll⟩ ⟨⟨_,rfl,xaq ?_⟩,⟨⟨_,rfl, ?_⟩,trivial⟩⟩ trivial (fun x=>rfl) (fun s hg1=>?_);focus (rfl)
 focus (exact LeA.refl _)
 refine evc [] [] ?_;refine sq ?_ ?_<;>intro h1 h1p h1s<;>(try simp only[Q,Pat.cs_len] at h1p);refine xbg 9 sl34 .none rfl rfl ?_;refine ev ?_;refine xak (ι:=Nat) hk (fun k=>[(14,.d (.i (k:Int))),(13,.gl 9 (Pat.cs (zfQ w ⟨ta,tk⟩ s.2 (nth away s.1) k)))]) [22,23,24,25,26,27,28,29,30,31,32,33,34,35,36,37,38,39,40,41,42,43,44,45,46,47,48,49] (fun k=>[(9,some (.tok ((Pat.cs (zfQ w ⟨ta,tk⟩ s.2 (nth away s.1) k))).length 6))]) (fun k=>k<=s.2.length) (fun k=>s.2.length-k) 0 (by omega) ⟨⟨_,rfl,xaq ?_⟩,⟨⟨_,rfl,LeA.glg ?_⟩,trivial⟩⟩ ⟨zab ?_,trivial⟩ (fun x=>rfl) (fun k hg2=>?_);iterate 3 focus (rfl)
 refine evc [] [] ?_;refine sq ?_ ?_<;>intro h2 h2p h2s<;>(try simp only[Q,Pat.cs_len] at h2p);refine sq ?_ ?_<;>intro h3 h3p h3s<;>(try simp only[Q,Pat.cs_len] at h3p);refine xaS sl34 .none rfl rfl rfl rfl (zaH (by omega)) rfl ?_;refine evd [] [] ?_;refine xaS sl34 .none rfl rfl rfl rfl (zaH (by omega)) rfl ?_;refine evd [] [] ?_;refine wc zpm (zhG hs 10 11 (by omega) (by omega) (by omega) ht (hg1.2.2.1 _ (zac (by omega))) (hb _ (zac (by omega)))) rfl rfl ?_;refine wc zsO (show FnD _ _ _ _ (.d (zad (zmj w ⟨ta,tk⟩ (nth away s.1) (nth s.2 k)))) _ from zil hs ht (zfd 10 11 (by omega) (hg1.2.2.1 _ (zac (by omega))) (hb _ (zac (by omega)))) (hmi s.2 s.1 k hg1.2.2.1 (by omega) (by omega))) rfl rfl ?_;refine ap sl34 zz36 rfl rfl rfl (by exact zbD _) (by have h9:=hkb s.2 s.1 k hg1.2.2.1 (by omega) (by omega);simp only[Pat.cs_len];omega) ?_;refine evd [] [] ?_;refine dr ?_;refine ar ?_;refine xah (k+1) ⟨(by omega),(by omega),sx ⟨⟨_,rfl,xaq ?_⟩,⟨⟨_,rfl,LeA.glg ?_⟩,trivial⟩⟩ ⟨zab ?_,trivial⟩⟩;iterate 3 focus (first|rfl|(rw[zmC (by omega),xat,xat,xat,xaf];done)|(rw[zmC (by omega)];simp[Pat.cs_len];done))
 refine sq ?_ ?_<;>intro h4 h4p h4s<;>(try simp only[Q,Pat.cs_len] at h4p);refine xbf sl34 .none rfl ?_;refine ev ?_;refine rn0 (r2 rfl rfl) (.tup (.cons (.eqd ?_) (.cons (.eqd ?_) .nil)));rotate_left 2;refine ar ?_;refine xah ((s.1+1,zbR w ⟨ta,tk⟩ s.2 (nth away s.1))) ⟨(by
    have hk:s.2.length<=k:=by omega
    have h4:(zbR w ⟨ta,tk⟩ s.2 (nth away s.1)).length<=400:=by rw[<-zeU hk];omega
    have e:=zf6 (w:=w) (t:=⟨ta,tk⟩) (l:=s.2) (away:=away) (i:=s.1) (by omega);rw[if_pos h4] at e;refine⟨by dsimp only;omega, ?_,zei hg1.2.2.1 (hb _ (zac (by omega))),h4⟩;dsimp only;rw[<-e];exact hg1.2.1),(by dsimp only;omega),sx ⟨⟨_,rfl,xaq ?_⟩,⟨⟨_,rfl, ?_⟩,trivial⟩⟩ trivial⟩
 focus (rfl)
 focus (((first|refine LeA.gld ?_|refine LeA.nild ?_);first|rfl|(rw[zeU (by omega)];done)|(dsimp only;rw[zeU (by omega)];done)|(simp;done)|omega))
 refine sqF ?_;refine sq ?_ ?_<;>intro h6 h6p h6s<;>(try simp only[Q,Pat.cs_len] at h6p);refine xbf sl34 .none rfl ?_;refine ev ?_;refine rn0 (r2 rfl rfl) (.tup (.cons (.eqd ?_) (.cons (.eqd ?_) .nil)));rotate_left 2;refine ar ?_;refine xah ((s.1+1,zbR w ⟨ta,tk⟩ s.2 (nth away s.1))) ⟨(by
    have hk:s.2.length<=k:=by omega
    have h4:(zbR w ⟨ta,tk⟩ s.2 (nth away s.1)).length<=400:=by rw[<-zeU hk];omega
    have e:=zf6 (w:=w) (t:=⟨ta,tk⟩) (l:=s.2) (away:=away) (i:=s.1) (by omega);rw[if_pos h4] at e;refine⟨by dsimp only;omega, ?_,zei hg1.2.2.1 (hb _ (zac (by omega))),h4⟩;dsimp only;rw[<-e];exact hg1.2.1),(by dsimp only;omega),sx ⟨⟨_,rfl,xaq ?_⟩,⟨⟨_,rfl, ?_⟩,trivial⟩⟩ trivial⟩
 focus (rfl)
 focus (((first|refine LeA.gld ?_|refine LeA.nild ?_);first|rfl|(rw[zeU (by omega)];done)|(dsimp only;rw[zeU (by omega)];done)|(simp;done)|omega))
 refine wc zsO (zil hs ht hg1.2.2.1 (by omega)) rfl rfl ?_;refine ev ?_;refine rn0 (r2 rfl rfl) (.tup (.cons (.eqd ?_) (.cons (.eqd ?_) .nil)));rotate_left 2;all_goals (first|(rw[<-hg1.2.1,hno s.2 s.1 k (by omega) (by omega)];rfl)|(rw[<-hg1.2.1,zqC (by omega)];rfl))
theorem zik:∀(n:Nat){p:Pat},p.size<=n->p.ok->FnD Tryz.prog 187 [.agg [.d (.i (p).op),.d (.i (p).ctor),.d (.i (p).n),.d (.i (p).m),.d (.i (p).var),.d (zad (p).kids)]] [] (.agg [.d (.i (p).op),.d (.i (p).ctor),.d (.i (p).n),.d (.i (p).m),.d (.i (p).var),.d (zad (p).kids)]) []
 |0,p,h,_=>by rw[Pat.size_eq] at h;omega
 |n+1,p,h,hok=>by
  rw[Pat.size_eq] at h;rw[Pat.ok_iff] at hok;have hok1:=hok.1;refine bd Tryz.f187 26 [] [] fun w0 F0 own kept hk=>?_;refine bx 3001 ?_;refine ab 3002 tz36 ?_;refine tv ?_;refine ab 3003 tz36 ?_;refine so ty36 ?_;refine tv ?_;refine so ty34 ?_;refine tv ?_;refine xan 3003 5 7 6 rfl rfl rfl rfl ?_;refine xak (ι:=List (Pat)×List (Pat)) hk (fun x=>[(4,.d (.i (x.1.length:Int)))]) [7,8,9,10,11,12,13,14,15,16,17,18,19,20,21,22,23,24] (fun x=>[(3003,some (.box [.d (.i p.op),.d (.i p.ctor),.d (.i p.n),.d (.i p.m),.d (.i p.var),.gl 7 (x.1.map Pat.cc)])),(7,some (.tok (x.1.map Pat.cc).length 6))]) (fun x=>x.1++x.2=p.kids) (fun x=>x.2.length) ([],p.kids) (by simp) ⟨⟨_,rfl,xaq ?_⟩,trivial⟩ ⟨?_,⟨zab ?_,trivial⟩⟩ (fun x=>rfl) (fun x hg1=>?_);focus (rfl)
  focus (first|rfl|(simp[getH];done))
  focus (rfl)
  obtain⟨pre,rest⟩:=x;dsimp only at hg1 ⊢;refine evc [] [] ?_;refine sq ?_ ?_<;>intro h1 h1p h1s<;>(try simp only[Q,Pat.cs_len] at h1p);rcases rest with _|⟨y,rest⟩
  ·exfalso;simp_all
  refine xaS sl34 .none rfl rfl rfl rfl (Pat.cs_at' hg1) rfl ?_;refine evd [] [] ?_;refine wc zsJ (zik n (p:=y) (by have:=Pats.size_mem (l:=p.kids) (v:=y) (by rw[<-hg1];simp);omega) (Pats.ok_mem hok.2 y (by rw[<-hg1];simp))) rfl rfl ?_;refine si [0] [_] sl34 tz36 ?_;refine ap sl34 zz36 rfl rfl rfl (by intro x hx;(simp at hx;subst hx;rfl)) (by have:=congrArg List.length hg1;simp at this;simp;omega) ?_;refine evd [] [] ?_;refine so ty34 ?_;refine dr ?_;refine ar ?_;refine xah ((pre++[y],rest)) ⟨(by have hz:=hg1;rw[<-hz];simp),(by simp),sx ⟨⟨_,rfl,xaq ?_⟩,trivial⟩ ⟨?_,⟨zab ?_,trivial⟩⟩⟩;focus ((simp;done))
  focus (first|rfl|(simp[getH];done))
  focus ((simp;done))
  have hrest:rest=[]:=by
   rcases rest with _|⟨a,b⟩
   ·rfl
   ·exfalso;have hz:=congrArg List.length (hg1);simp only[xaa,xab,xac] at hz;omega
  subst hrest;refine so ty36 ?_;refine tv ?_;refine rn0 (.cons (.cellA ty36 rfl rfl rfl) .nil) (.agg (.cons (.eqd ?_) (.cons (.eqd ?_) (.cons (.eqd ?_) (.cons (.eqd ?_) (.cons (.eqd ?_) (.cons (.gld ?_) .nil)))))));rotate_left 6;all_goals (first|rfl|(rw[List.append_nil] at hg1;rw[<-hg1,xat];done))
theorem zoX {l:List Pat} (h:l.length<=1000000000000) (hok:∀p∈l,p.ok):FnD Tryz.prog 233 [.d (zad l)] [] (.d (zad l)) []:=by
 refine bd Tryz.f233 21 [] [] fun w0 F0 own kept hk=>?_;refine xbg 1 sl34 .none rfl rfl ?_;refine ev ?_;refine xak (ι:=List (Pat)×List (Pat)) hk (fun x=>[(4,.d (.i (x.1.length:Int))),(3,.gl 1 (x.1.map Pat.cc))]) [6,7,8,9,10,11,12,13,14,15,16,17,18,19] (fun x=>[(1,some (.tok ((x.1.map Pat.cc)).length 6))]) (fun x=>x.1++x.2=l) (fun x=>x.2.length) ([],l) (by simp) ⟨⟨_,rfl,xaq ?_⟩,⟨⟨_,rfl,LeA.glg ?_⟩,trivial⟩⟩ ⟨zab ?_,trivial⟩ (fun x=>rfl) (fun x hg1=>?_);iterate 3 focus (rfl)
 obtain⟨pre,rest⟩:=x;dsimp only at hg1 ⊢;refine evc [] [] ?_;refine sq ?_ ?_<;>intro h1 h1p h1s<;>(try simp only[Q,Pat.cs_len] at h1p);rcases rest with _|⟨y,rest⟩
 ·exfalso;simp_all
 refine xaS sl34 .none rfl rfl rfl rfl (Pat.cs_at' hg1) rfl ?_;refine ev ?_;refine wc zsJ (zik _ (Nat.le_refl _) (hok y (by rw[<-hg1];simp))) rfl rfl ?_;refine si [0] [_] sl34 tz36 ?_;refine ap sl34 zz36 rfl rfl rfl (by intro x hx;simp at hx;subst hx;rfl) (by have:=congrArg List.length hg1;simp at this;simp;omega) ?_;refine ev ?_;refine ar ?_;refine xah ((pre++[y],rest)) ⟨(by have hz:=hg1;rw[<-hz];simp),(by simp),sx ⟨⟨_,rfl,xaq ?_⟩,⟨⟨_,rfl,LeA.glg ?_⟩,trivial⟩⟩ ⟨zab ?_,trivial⟩⟩;iterate 3 focus ((simp;done))
 have hrest:rest=[]:=by
  rcases rest with _|⟨a,b⟩
  ·rfl
  ·exfalso;have hz:=congrArg List.length (hg1);simp only[xaa,xab,xac] at hz;omega
 subst hrest;refine rn0 (r1 rfl) (.gld ?_);rotate_left;all_goals ((rw[List.append_nil] at hg1;rw[<-hg1,xat];done))
theorem zj5 {p:Pat} (h:zbi p=true):za2 (zav p)=zbk p:=by
 unfold zbi at h;have h40:=of_decide_eq_true h;unfold za2 zbk;rw[if_pos h40,List.take_of_length_le (by omega)]
theorem zoC {p:Pat}:((40:Int)<((za2 (zav p)).length:Int))↔zbi p=false:=by
 unfold zbi za2;rw[List.length_take,decide_eq_false_iff_not];omega
theorem zm4 {w:List Data} (hs:Spa w){ta tk:Int} (ht:InS (w.length*4) ⟨ta,tk⟩){l:List Pat}{ok:Bool} (hl:∀a∈l,a.ok/\a.size<=1000000000000) (hb:l.length<=1000000000000):
  FnD Tryz.prog 137 [.d (zam w),.agg [.d (.i ta),.d (.i tk)],.d (zad l),.d (.bool ok)] [] (.tup [.d (zad (if l.all (isP w ⟨ta,tk⟩)=true then l else [])),.d (.bool (l.all (isP w ⟨ta,tk⟩)&&ok))]) []:=by
 have hbad:∀i,i<l.length->isP w ⟨ta,tk⟩ (nth l i)=false->l.all (isP w ⟨ta,tk⟩)=false:=fun i hi h=>by
  cases hq:l.all (isP w ⟨ta,tk⟩) with
  |false=>rfl
  |true=>have:=List.all_eq_true.1 hq _ (zac hi);rw[h] at this;cases this
 have hgood:(∀i,i<l.length->isP w ⟨ta,tk⟩ (nth l i)=true)->l.all (isP w ⟨ta,tk⟩)=true:=fun h=>List.all_eq_true.2 fun x hx=>by
  obtain⟨i,hi,rfl⟩:=List.getElem_of_mem hx;have:=h i hi;rwa [zaI hi] at this
 refine bd Tryz.f137 29 [] [] fun w0 F0 own kept hk=>?_;refine bx 3005 ?_;refine ev ?_;refine xak (ι:=Nat) hk (fun i=>[(10,.d (.i (i:Int)))]) [8,9,11,12,13,14,15,16,17,18,19,20,21,22,23,24,25] (fun i=>[]) (fun i=>i<=l.length/\∀i',i'<i->isP w ⟨ta,tk⟩ (nth l i')=true) (fun i=>l.length-i) 0 ⟨by omega,fun _ h=>absurd h (by omega)⟩ ⟨⟨_,rfl,xaq ?_⟩,trivial⟩ trivial (fun x=>rfl) (fun i hg1=>?_);focus (rfl)
 refine evc [] [] ?_;refine sq ?_ ?_<;>intro h1 h1p h1s<;>(try simp only[Q,Pat.cs_len] at h1p);refine xaS sl34 .none rfl rfl rfl rfl (zaH (by omega)) rfl ?_;refine evd [] [] ?_;refine wc zlJ (zfm hs.dp.wt (zb0 ht) (hl _ (zac (i:=i) (by omega))).1 (hl _ (zac (by omega))).2) rfl rfl ?_;refine evd [] [] ?_;refine dr ?_;refine sq ?_ ?_<;>intro h2 h2p h2s;refine xbf sl34 .none rfl ?_;refine ev ?_;refine rn0 (r2 rfl rfl) (.tup (.cons (.eqd ?_) (.cons (.eqd ?_) .nil)));rotate_left 2;try simp only[Q,Pat.cs_len] at h2p
 refine ar ?_;refine xah (i+1) ⟨⟨by omega,zaX hg1.2 (by assumption)⟩,(by omega),sx ⟨⟨_,rfl,xaq ?_⟩,trivial⟩ trivial⟩;focus (rfl)
 refine wc zwH (zoX hb (fun p hp=>(hl p hp).1)) rfl rfl ?_;refine ev ?_;refine rn0 (r2 rfl rfl) (.tup (.cons (.eqd ?_) (.cons (.eqd ?_) .nil)));rotate_left 2;all_goals (first|(rw[hbad i (by omega) (by assumption)];rfl)|(rw[hgood (fun x hx=>hg1.2 x (by omega))];rfl))
end Go.Proofs.YtlfipehhbdjnjaaGreat
namespace Go.Proofs.YtlfipehhbdjnjaaGreat
open Go
set_option linter.unusedSimpArgs false
set_option linter.unusedVariables false
section
variable {c:Ctx}{all:Array Oper}{chk:List Rec->Prop}{os:List Oper}{recs:List Rec}{env:Env}{hp:Hp}{Q:St->Prop}
variable {d ty:Nat}{pos:String}{af:Array Edge}{g:Option (Nat×Bool)}{pg:List (Nat×AV)}{t yt:TypeId}{x y:Operand}
theorem Walk.cut_lh {e k yb:Nat}{xs:List (List D)}{vx:AV}{o o2:Operand}{kd kd2:IntKind}{n n2:Int}{a b:Nat} (ht:SlT c.P t e k yb) (hg:GH all env g pg) (hd:Nat.blt d c.n=true)
  (hx:opd env x=some vx) (hxd:vx.toD=some (.sl xs)) (hk:∀x,x∈xs->x.length=k) (ho:opd env o=some (.d (.int kd n))) (ho2:opd env o2=some (.d (.int kd2 n2))) (hi:n = ↑a) (hi2:n2 = ↑b) (hab:a<=b) (hb:b<=xs.length)
  (hn:Walk c all chk os (zao (pg++opFL [x,o,o2] [vx,.d (.int kd n),.d (.int kd2 n2)]) [] [] ⟨some (d,.d (.sl ((xs.drop a).take (b-a)))),[]⟩::recs) ⟨(d,.d (.sl ((xs.drop a).take (b-a))))::env,hp⟩ Q):
  Walk c all chk (⟨some d,.slice t x (some o) (some o2) none,ty,pos,af,g⟩::os) recs ⟨env,hp⟩ Q:=
 xbb hg hd (by simp[opdL,hx,ho,ho2]) (fun ac G T w h=>by
  have h0:=h.2 0 (by simp) (by simp);have h1:=h.2 1 (by simp) (by simp);have h2:=h.2 2 (by simp) (by simp);simp only[List.getElem_cons_zero,List.getElem_cons_succ] at h0 h1 h2;obtain⟨u,h3,h4⟩:=ziQ (P:=c.P) (w:=w) ht (h0.toD hxd) hk (lo:=some (.int kd a)) (hi:=some (.int kd2 b)) (a:=a) (b:=b) (.inr ⟨kd,rfl⟩) (.inr ⟨kd2,rfl⟩) hab hb;exact⟨u,by simp only[execOp,h1.int_eq,h2.int_eq,hi,hi2,Option.map_none,Option.map_some,Sem.run_bind,h3,Result.andThen_ok,Sem.run_pure],.d h4⟩) hn
end
end Go.Proofs.YtlfipehhbdjnjaaGreat
namespace Go.Proofs.YtlfipehhbdjnjaaGreat
open Go
set_option linter.unusedSimpArgs false
set_option linter.unusedVariables false
set_option maxRecDepth 100000
set_option maxHeartbeats 2000000
abbrev sepV (w:List Data) (t:Ty) (l:List Pat):Option (List Pat):=sepQ w t [] l []
theorem zqt {w:List Data}{t:Ty}{l o:List Pat}{i:Nat} (h:i<l.length):sepQ w t (l.take i) (l.drop i) o=match zay w t [nth l i] (l.take i) with
  |none=>none
  |some m=>sepQ w t (l.take (i+1)) (l.drop (i+1)) (o++m):=by
 rw[zaS h,sepQ];have e:l.take i++[nth l i]=l.take (i+1):=by rw[List.take_succ_eq_append_getElem h,zaI h]
 rw[e];all_goals (cases zay w t [nth l i] (l.take i)<;>rfl)
theorem zrQ {w:List Data}{t:Ty}{l o:List Pat}{i:Nat} (h:l.length<=i):sepQ w t (l.take i) (l.drop i) o=some o:=by
 rw[List.drop_eq_nil_of_le h,sepQ]
theorem zqs {w:List Data}{t:Ty}{l o m:List Pat}{i:Nat} (h:i<l.length) (hw:zay w t [nth l i] (l.take i)=some m):sepQ w t (l.take i) (l.drop i) o=sepQ w t (l.take (i+1)) (l.drop (i+1)) (o++m):=by
 rw[zqt h,hw]
theorem zrP {w:List Data}{t:Ty}{l o:List Pat}{i:Nat} (h:i<l.length) (hw:zay w t [nth l i] (l.take i)=none):sepQ w t (l.take i) (l.drop i) o=none:=by
 rw[zqt h,hw]
theorem ztS {w:List Data}{t:Ty}:∀(r front o:List Pat){res:List Pat},sepQ w t front r o=some res->o.length<=res.length
 | [],_,o,res,h=>by rw[sepQ] at h;cases h;exact Nat.le_refl _
 |p::r,front,o,res,h=>by
  rw[sepQ] at h;cases hw:zay w t [p] front with
  |none=>rw[hw] at h;cases h
  |some m=>
   rw[hw] at h;have:=ztS r _ _ h;rw[xaa] at this;omega
theorem zhD {w:List Data}{t:Ty}:∀(r front o:List Pat){res:List Pat},(∀b∈front,zae w 10 t b=true)->(∀b∈r,zae w 10 t b=true)->(∀b∈o,zae w 11 t b=true)->sepQ w t front r o=some res->∀x∈res,zae w 11 t x=true
 | [],_,o,res,_,_,ho,h=>by rw[sepQ] at h;cases h;exact ho
 |p::r,front,o,res,hf,hr,ho,h=>by
  rw[sepQ] at h;cases hw:zay w t [p] front with
  |none=>rw[hw] at h;cases h
  |some m=>
   rw[hw] at h;have hp:=hr p (by simp);have h1:=zeC front _ m (fun a ha=>by rw[List.mem_singleton.1 (List.mem_filter.1 ha).1];exact zc4 (by omega) hp) (Nat.le_trans (List.length_filter_le _ _) (by simp)) hf hw;refine zhD r _ _ (fun b hb=>?_) (fun b hb=>hr b (by simp[hb])) (fun b hb=>?_) h
   ·rcases List.mem_append.1 hb with hb|hb
    ·exact hf b hb
    ·rw[List.mem_singleton.1 hb];exact hp
   ·rcases List.mem_append.1 hb with hb|hb
    ·exact ho b hb
    ·exact h1.2 b hb
def FewQ (w:List Data) (t:Ty) (l:List Pat):Prop:=∀res,sepV w t l=some res->res.length<=400
theorem zoz {w:List Data}{ta tk:Int}{l:List Pat} (hl:∀a∈l,zae w 10 ⟨ta,tk⟩ a=true) (i:Nat):((zay w ⟨ta,tk⟩ [nth l i] (l.take i)).getD []).length<=400:=by
 cases hw:zay w ⟨ta,tk⟩ [nth l i] (l.take i) with
 |none=>simp
 |some m=>
  by_cases hi:i<l.length
  ·exact(zeC (l.take i) _ m (fun a ha=>by rw[List.mem_singleton.1 (List.mem_filter.1 ha).1];exact zc4 (by omega) (hl _ (zac hi))) (Nat.le_trans (List.length_filter_le _ _) (by simp)) (fun b hb=>hl b (List.mem_of_mem_take hb)) hw).1
  ·rw[List.take_of_length_le (by omega)] at hw;have e:nth l i=default:=by simp[nth,List.getD,List.getElem?_eq_none (by omega:l.length<=i)]
   rw[e] at hw;unfold zay at hw;have hlen:∀(away c r:List Pat),c.length<=400->subL w ⟨ta,tk⟩ c away=some r->r.length<=400:=fun away=>by
    induction away with
    |nil=>intro c r hc h;rw[subL] at h;cases h;exact hc
    |cons b away ih=>
     intro c r hc h;rw[subL] at h;split at h
     ·rename_i h4;exact ih _ _ h4 h
     ·cases h
   exact hlen _ _ _ (Nat.le_trans (List.length_filter_le _ _) (by simp)) hw
theorem zrw {l:List Pat} (i:Nat) (hi:i<l.length):zad [nth l i] = .sl [(nth l i).cc]/\zad (l.take i) = .sl ((Pat.cs l).take i)/\zad [nth l i] = .sl (((Pat.cs l).drop i).take (i+1-i)):=by
 have e1:zad [nth l i] = .sl [(nth l i).cc]:=by show D.sl (Pat.cs [nth l i])=_;rw[xat];rfl
 refine⟨e1, ?_, ?_⟩
 ·show D.sl (Pat.cs (l.take i))=_;rw[xat,xat,List.map_take]
 ·rw[e1,xat,<-List.map_drop,zaS hi,show i+1-i=1 by omega];rfl
section
variable {w:List Data} (hs:Spa w){ta tk:Int} (ht:InS (w.length*4) ⟨ta,tk⟩){l:List Pat} (hl:∀a∈l,zae w 10 ⟨ta,tk⟩ a=true) (hb:l.length<=1600)
include hs ht hl hb
theorem zlf:FnD Tryz.prog 74 [.d (sPtr w (zal w)),.agg [.d (.i ta),.d (.i tk)],.d (zad l)] [] (.tup [.d (zad ((sepV w ⟨ta,tk⟩ l).getD [])),.d (.bool (sepV w ⟨ta,tk⟩ l).isSome)]) []:=by
 have hml:=zoz hl;have hc:∀i,i<l.length->FnD Tryz.prog 75 [.d (sPtr w (zal w)),.agg [.d (.i ta),.d (.i tk)],.d (.sl [(nth l i).cc]),.d (.sl ((Pat.cs l).take i))] [] (.tup [.d (zad ((zay w ⟨ta,tk⟩ [nth l i] (l.take i)).getD [])),.d (.bool (zay w ⟨ta,tk⟩ [nth l i] (l.take i)).isSome)]) []:=fun i hi=>by
  have h:=zhs hs ht (l:=[nth l i]) (away:=l.take i) (fun a ha=>by rw[List.mem_singleton.1 ha];exact zc4 (by omega) (hl _ (zac hi))) (fun b hb=>hl b (List.mem_of_mem_take hb)) (by simp) (by rw[List.length_take];omega);obtain⟨e1,e2,_⟩:=zrw i hi;rw[e1,e2] at h;exact h
 have hbad:∀i o,i<l.length->(zay w ⟨ta,tk⟩ [nth l i] (l.take i)).isSome=false->sepQ w ⟨ta,tk⟩ (l.take i) (l.drop i) o=none:=fun i o hi h=>zrP hi (by simpa using h);have hgood:∀i o,i<l.length->(zay w ⟨ta,tk⟩ [nth l i] (l.take i)).isSome=true->sepQ w ⟨ta,tk⟩ (l.take i) (l.drop i) o=sepQ w ⟨ta,tk⟩ (l.take (i+1)) (l.drop (i+1)) (o++(zay w ⟨ta,tk⟩ [nth l i] (l.take i)).getD []):=fun i o hi h=>by
  obtain⟨m,hm⟩:=Option.isSome_iff_exists.1 h;rw[zqs hi hm,hm];rfl
 refine bd Tryz.f74 38 [8] [] fun w0 F0 own kept hk=>?_;refine bx 3004 ?_;refine evs [8] [] ?_;refine xaD 9 6 .none rfl rfl ?_;refine tv ?_;refine xak (ι:=Nat×List Pat) hk (fun s=>[(15,.d (.i (s.1:Int))),(8,.gl 9 (Pat.cs s.2))]) [6,7,9,10,11,12,16,17,18,19,20,21,22,23,24,25,26,27,28,29,30,31,32,33,34,35,36] (fun s=>[(9,some (.tok ((Pat.cs s.2)).length 6))]) (fun s=>s.1<=l.length/\sepQ w ⟨ta,tk⟩ (l.take s.1) (l.drop s.1) s.2=sepV w ⟨ta,tk⟩ l/\s.2.length<=400*s.1) (fun s=>l.length-s.1) (0,[]) ⟨by simp,by simp,by simp⟩ ⟨⟨_,rfl,xaq ?_⟩,⟨⟨_,rfl,LeA.glg ?_⟩,trivial⟩⟩ ⟨zab ?_,trivial⟩ (fun x=>rfl) (fun s hg1=>?_);iterate 3 focus (rfl)
 refine evc [8] [] ?_;refine sq ?_ ?_<;>intro h1 h1p h1s<;>(try simp only[Q,Pat.cs_len] at h1p);refine xaS sl34 .none rfl rfl rfl rfl (zaH (by omega)) rfl ?_;refine evs [8] [] ?_;refine ab 3010 tz36 ?_;refine evs [8] [] ?_;refine so ty36 ?_;refine tv ?_;refine si [0] [_] sl34 tz36 ?_;refine evd [8] [] ?_;refine xaO (b:=s.1) sl34 .none rfl rfl rfl (by exact zbD _) rfl rfl (by simp only[Pat.cs_len];omega) ?_;refine wc zu8 (hc s.1 (by omega)) rfl rfl ?_;refine evd [8] [] ?_;refine dr ?_;refine sq ?_ ?_<;>intro h2 h2p h2s<;>(try simp only[Q,Pat.cs_len] at h2p);refine rn0 (r2 rfl rfl) (.tup (.cons (.nild ?_) (.cons (.eqd ?_) .nil)));rotate_left 2;refine ap sl34 zz36 rfl rfl rfl (by exact zbD _) (by have h9:=hml s.1;simp only[Pat.cs_len];omega) ?_;refine asg ?_;refine tv ?_;refine ar ?_;refine xah ((s.1+1,s.2++(zay w ⟨ta,tk⟩ [nth l s.1] (l.take s.1)).getD [])) ⟨(by
    refine⟨by dsimp only;omega, ?_, ?_⟩
    ·dsimp only;rw[<-hgood s.1 s.2 (by omega) (by first|assumption|simpa using h2p)];exact hg1.2.1
    ·have:=hml s.1;dsimp only;rw[xaa];omega),(by dsimp only;omega),sx ⟨⟨_,rfl,xaq ?_⟩,⟨⟨_,rfl,LeA.glg ?_⟩,trivial⟩⟩ ⟨zab ?_,trivial⟩⟩
 iterate 3 focus (first|(dsimp only;rw[xat,xat,xat,xaf];done)|(simp[Pat.cs_len];done))
 refine rn0 (r2 rfl rfl) (.tup (.cons (.gld ?_) (.cons (.eqd ?_) .nil)));rotate_left 2;all_goals (first|(rw[show sepV w ⟨ta,tk⟩ l=none from by rw[<-hg1.2.1];exact hbad s.1 s.2 (by omega) (by first|assumption|simpa using h2p)];rfl)|(rw[show sepV w ⟨ta,tk⟩ l=some s.2 from by rw[<-hg1.2.1];exact zrQ (by omega)];rfl))
theorem zm3 (hfew:FewQ w ⟨ta,tk⟩ l):FnD Tryz.prog 129 [.d (zam w),.d (zev (w.length*4) (zal w)),.agg [.d (.i ta),.d (.i tk)],.d (zad l)] [] (.tup [.d (zad ((sepV w ⟨ta,tk⟩ l).getD [])),.d (.bool (sepV w ⟨ta,tk⟩ l).isSome)]) []:=by
 have hml:=zoz hl;have hc:∀i,i<l.length->FnD Tryz.prog 136 [.d (zam w),.d (zev (w.length*4) (zal w)),.agg [.d (.i ta),.d (.i tk)],.d (.sl (((Pat.cs l).drop i).take (i+1-i))),.d (.sl ((Pat.cs l).take i))] [] (.tup [.d (zad ((zay w ⟨ta,tk⟩ [nth l i] (l.take i)).getD [])),.d (.bool (zay w ⟨ta,tk⟩ [nth l i] (l.take i)).isSome)]) []:=fun i hi=>by
  have h:=zf4 hs ht (l:=[nth l i]) (away:=l.take i) (fun a ha=>by rw[List.mem_singleton.1 ha];exact zc4 (by omega) (hl _ (zac hi))) (fun b hb=>hl b (List.mem_of_mem_take hb)) (by simp) (by rw[List.length_take];omega);obtain⟨_,e2,e3⟩:=zrw i hi;rw[e3,e2] at h;exact h
 have hbad:∀i o,i<l.length->(zay w ⟨ta,tk⟩ [nth l i] (l.take i)).isSome=false->sepQ w ⟨ta,tk⟩ (l.take i) (l.drop i) o=none:=fun i o hi h=>zrP hi (by simpa using h);have hgood:∀i o,i<l.length->(zay w ⟨ta,tk⟩ [nth l i] (l.take i)).isSome=true->sepQ w ⟨ta,tk⟩ (l.take i) (l.drop i) o=sepQ w ⟨ta,tk⟩ (l.take (i+1)) (l.drop (i+1)) (o++(zay w ⟨ta,tk⟩ [nth l i] (l.take i)).getD []):=fun i o hi h=>by
  obtain⟨m,hm⟩:=Option.isSome_iff_exists.1 h;rw[zqs hi hm,hm];rfl
 have hmany:∀i o,i<l.length->(zay w ⟨ta,tk⟩ [nth l i] (l.take i)).isSome=true->sepQ w ⟨ta,tk⟩ (l.take i) (l.drop i) o=sepV w ⟨ta,tk⟩ l->(400:Int)<(o.length:Int)+(((zay w ⟨ta,tk⟩ [nth l i] (l.take i)).getD []).length:Int)->sepV w ⟨ta,tk⟩ l=none:=fun i o hi h e h4=>by
  cases hv:sepV w ⟨ta,tk⟩ l with
  |none=>rfl
  |some res=>
   exfalso;have h1:=hfew res hv;rw[hv,hgood i o hi h] at e;have h2:=ztS _ _ _ e;rw[xaa] at h2;omega
 refine bd Tryz.f129 51 [] [] fun w0 F0 own kept hk=>?_;refine bx 3006 ?_;refine ev ?_;refine xbg 9 sl34 .none rfl rfl ?_;refine ev ?_;refine xak (ι:=Nat×List Pat) hk (fun s=>[(11,.d (.i (s.1:Int))),(10,.gl 9 (Pat.cs s.2))]) [8,9,12,13,15,16,17,18,19,20,21,22,23,24,25,26,27,28,29,30,31,32,33,34,35,36,37,38,39,40,41,42,43,44,45,46,47,48,49] (fun s=>[(9,some (.tok ((Pat.cs s.2)).length 6))]) (fun s=>s.1<=l.length/\sepQ w ⟨ta,tk⟩ (l.take s.1) (l.drop s.1) s.2=sepV w ⟨ta,tk⟩ l/\s.2.length<=400*s.1) (fun s=>l.length-s.1) (0,[]) ⟨by simp,by simp,by simp⟩ ⟨⟨_,rfl,xaq ?_⟩,⟨⟨_,rfl,LeA.glg ?_⟩,trivial⟩⟩ ⟨zab ?_,trivial⟩ (fun x=>rfl) (fun s hg1=>?_);iterate 3 focus (rfl)
 refine evc [] [] ?_;refine sq ?_ ?_<;>intro h1 h1p h1s<;>(try simp only[Q,Pat.cs_len] at h1p);refine ar ?_ (by(have h9:=hml s.1;(try simp only[Pat.cs_len]);constructor<;>omega));refine Walk.cut_lh (a:=s.1) (b:=(s.1+1)) sl34 .none rfl rfl rfl (by exact zbD _) rfl rfl rfl (by simp) (by omega) (by simp only[Pat.cs_len];omega) ?_;refine evd [] [] ?_;refine xaO (b:=s.1) sl34 .none rfl rfl rfl (by exact zbD _) rfl rfl (by(simp only[Pat.cs_len];omega)) ?_;refine wc zsE (hc s.1 (by omega)) rfl rfl ?_;refine evd [] [] ?_;refine dr ?_;refine sq ?_ ?_<;>intro h2 h2p h2s<;>(try simp only[Q,Pat.cs_len] at h2p);refine sqT ?_;refine xbf sl34 .none rfl ?_;refine ev ?_;refine rn0 (r2 rfl rfl) (.tup (.cons (.eqd ?_) (.cons (.eqd ?_) .nil)));rotate_left 2;refine ar ?_ (by(have h9:=hml s.1;(try simp only[Pat.cs_len]);constructor<;>omega));refine sq ?_ ?_<;>intro h4 h4p h4s<;>(try simp only[Q,Pat.cs_len] at h4p);refine xbf sl34 .none rfl ?_;refine ev ?_;refine rn0 (r2 rfl rfl) (.tup (.cons (.eqd ?_) (.cons (.eqd ?_) .nil)));rotate_left 2;refine ap sl34 zz36 rfl rfl rfl (by exact zbD _) (by have h9:=hml s.1;simp only[Pat.cs_len];omega) ?_;refine ev ?_;refine ar ?_ (by(have h9:=hml s.1;(try simp only[Pat.cs_len]);constructor<;>omega));refine xah ((s.1+1,s.2++(zay w ⟨ta,tk⟩ [nth l s.1] (l.take s.1)).getD [])) ⟨(by
    refine⟨by dsimp only;omega, ?_, ?_⟩
    ·dsimp only;rw[<-hgood s.1 s.2 (by omega) (by first|assumption|simpa using h2p)];exact hg1.2.1
    ·have:=hml s.1;dsimp only;rw[xaa];omega),(by dsimp only;omega),sx ⟨⟨_,rfl,xaq ?_⟩,⟨⟨_,rfl,LeA.glg ?_⟩,trivial⟩⟩ ⟨zab ?_,trivial⟩⟩
 iterate 3 focus (first|(dsimp only;rw[xat,xat,xat,xaf];done)|(simp[Pat.cs_len];done))
 refine rn0 (r2 rfl rfl) (.tup (.cons (.gld ?_) (.cons (.eqd ?_) .nil)));rotate_left 2;all_goals (first|(rw[show sepV w ⟨ta,tk⟩ l=none from by rw[<-hg1.2.1];exact hbad s.1 s.2 (by omega) (by first|assumption|simpa using h2p)];rfl)|(rw[hmany s.1 s.2 (by omega) (by first|assumption|simpa using h2p) hg1.2.1 (by omega)];rfl)|(rw[show sepV w ⟨ta,tk⟩ l=some s.2 from by rw[<-hg1.2.1];exact zrQ (by omega)];rfl))
end
def zgt (w:List Data) (t:Ty) (mine:List Pat) (l:List Cl):Option (List Pat):=match za1 l [] with
  |none=>none
  |some away=>match zay w t mine away with
   |none=>none
   |some r=>if r.all (isP w t)=true then some r else none
def zd2 (w:List Data) (t:Ty) (l:List Cl) (i:Nat):Option (List Pat):=if zbi (nth l i).pat=true then (match sepV w t (zbk (nth l i).pat) with
  |none=>none
  |some mine=>zgt w t mine (l.take i)) else none
def zbl (w:List Data) (a k:Int) (l:List Cl) (i:Int):Option (List Pat):=if zaR w ⟨a,k⟩ l=true/\0<=i/\i<(l.length:Int) then zd2 w ⟨a,k⟩ l i.toNat else none
theorem zlk {w:List Data}{t:Ty}{l:List Cl}{i:Nat} (h:zbi (nth l i).pat=false):zd2 w t l i=none:=by unfold zd2;rw[if_neg (by rw[h];simp)]
theorem ziM {w:List Data}{t:Ty}{l:List Cl}{i:Nat} (h:zbi (nth l i).pat=true) (h2:sepV w t (zbk (nth l i).pat)=none):zd2 w t l i=none:=by unfold zd2;rw[if_pos h,h2]
theorem ziN {w:List Data}{t:Ty}{l:List Cl}{i:Nat}{mine:List Pat} (h:zbi (nth l i).pat=true) (h2:sepV w t (zbk (nth l i).pat)=some mine):zd2 w t l i=zgt w t mine (l.take i):=by unfold zd2;rw[if_pos h,h2]
theorem zrL {w:List Data}{t:Ty}{l:List Cl}{m:List Pat} (h:za1 l []=none):zgt w t m l=none:=by unfold zgt;rw[h]
theorem zqo {w:List Data}{t:Ty}{l:List Cl}{m away:List Pat} (h:za1 l []=some away):zgt w t m l=if (((zay w t m away).getD []).all (isP w t)&&(zay w t m away).isSome)=true then some ((zay w t m away).getD []) else none:=by
 unfold zgt;rw[h];cases hw:zay w t m away with
 |none=>simp[hw]
 |some r=>simp[hw]
def FewC (w:List Data) (t:Ty) (l:List Cl):Prop:=∀c∈l,isP w t c.pat=true->FewQ w t (zbk c.pat)
theorem zfR {w:List Data} (hs:WSmall w){a k:Int}{l:List Cl} (hl:ClsOk l) (hv:zaR w ⟨a,k⟩ l=true):Spa w/\InS (w.length*4) ⟨a,k⟩/\(∀c∈l,zas w 10 ⟨a,k⟩ c.pat=true/\c.pat.ok)/\l.length<=8/\(∀c∈l,isP w ⟨a,k⟩ c.pat=true)/\zbF w ⟨a,k⟩=true:=by
 have htv:=zvA hv;have hin:InS (w.length*4) ⟨a,k⟩:=by
  obtain⟨_,_,h3⟩:=zfL htv.1;by_cases ha:a = -1
  ·exact .inl ha
  ·obtain⟨h4,h5,h6,h7⟩:=h3 ha;have:=zxq (n:=w.length) h5 (j:=k.toNat) (by omega);rwa [Int.toNat_of_nonneg h4,Int.toNat_of_nonneg h6] at this
 refine⟨zuY hs (zfL htv.1).1,hin,zs6 hv hl,htv.2,fun c hc=>?_,htv.1⟩;unfold zaR at hv;simp only[xad,Bool.not_eq_true',List.any_eq_false,Bool.not_eq_true] at hv;have h4:clOk w ⟨a,k⟩ c=true:=by simpa using hv.2.2 c hc
 unfold clOk at h4;rw[xad] at h4;exact h4.1
theorem zne {w:List Data} (hs:Spa w){t:Ty} (ht:InS (w.length*4) t){m away:List Pat} (hm:∀x∈m,zae w 11 t x=true) (h4:m.length<=400) (ha:∀x∈away,zae w 10 t x=true):((zay w t m away).getD []).length<=400/\∀x∈(zay w t m away).getD [],x.ok/\x.size<=1000000000000:=by
 cases hw:zay w t m away with
 |none=>exact⟨by simp,by simp⟩
 |some r=>
  have:=zeC away _ r (fun x hx=>hm x (List.mem_filter.1 hx).1) (Nat.le_trans (List.length_filter_le _ _) h4) ha hw;exact⟨this.1,fun x hx=>⟨(zid hs 11 ht (this.2 x hx)).1,by have:=(zid hs 11 ht (this.2 x hx)).2;have:=zqg (n:=11) (by omega);omega⟩⟩
theorem zqR {w:List Data}{t:Ty}{m away:List Pat} (h:(zay w t m away).isSome=false):(zay w t m away).getD []=[]:=by
 cases hw:zay w t m away with
 |none=>rfl
 |some r=>rw[hw] at h;cases h
theorem zue {l:List Cl}{n:Nat}:zb4 (l.take n) = .sl ((l.map Cl.c).take n):=by show D.sl ((l.take n).map Cl.c)=_;rw[List.map_take]
theorem zhg {w:List Data} (hs:WSmall w){a k:Int}{l:List Cl}{i:Int} (hl:ClsOk l) (hfew:zaR w ⟨a,k⟩ l=true->FewC w ⟨a,k⟩ l):
  FnD Tryz.prog 59 [.d (zam w),.agg [.d (.i a),.d (.i k)],.d (zb4 l),.d (.i i)] [] (.tup [.d (zad ((zbl w a k l i).getD [])),.d (.bool (zbl w a k l i).isSome)]) []:=by
 have hcv:=ze7 hs (a:=a) (k:=k) hl;have hwi:=zbv (n:=i) (lo:=0) (hi:=((l.map Cl.c).length:Int)-1);have hwt:zar i 0 (((l.map Cl.c).length:Int)-1)=true↔0<=i/\i<(l.length:Int):=by unfold zar;simp only[xac,xad,decide_eq_true_eq];omega
 have h8:=hl.1;by_cases hv:zaR w ⟨a,k⟩ l=true/\0<=i/\i<(l.length:Int)
 ·have hm:zbl w a k l i=zd2 w ⟨a,k⟩ l i.toNat:=by unfold zbl;rw[if_pos hv]
  rw[hm];rw[hwt.2 hv.2] at hwi;obtain⟨hv,h0,h1⟩:=hv;obtain⟨n,rfl⟩:=Int.eq_ofNat_of_zero_le h0;clear hm h0 hwt;rw[show((n:Int)).toNat=n from rfl];have hn:n<l.length:=by omega
  obtain⟨hsp,hin,hsh,h8,hip,_⟩:=zfR hs hl hv;rw[hv] at hcv;have hpa:=zi3 (hsh _ (zac hn)).1 (hsh _ (zac hn)).2;have hco:=zk9 (w:=w) (t:=⟨a,k⟩) (l:=l.take n) (by rw[List.length_take];omega) (fun c hc=>hsh c (List.mem_of_mem_take hc));rw[zue] at hco;have hns:=zky hsp.dp;cases hp:zbi (nth l n).pat with
  |false=>
   rw[zlk hp];rw[hp] at hpa;generalize (za1 (l.take n) []).isSome=cb at hco;refine bd Tryz.f59 77 [] [] fun w0 F0 own kept hk=>?_;refine bx 3005 ?_;refine ev ?_;refine wc zir (hcv) rfl rfl ?_;refine ev ?_;refine sq ?_ ?_<;>intro h1 h1p h1s;refine sqT ?_;focus (exfalso;contradiction)
   refine ar ?_ (by simp only[xac];constructor<;>omega);refine Walk.call (cr:=[]) zcO (hwi) rfl (.some rfl rfl h1) rfl rfl (LeL.refl _) trivial rfl rfl rfl ?_;refine evs [] [(22,false)] ?_ ⟨⟨_,rfl,h1⟩,trivial⟩;refine sq ?_ ?_<;>intro h3 h3p h3s;focus (exfalso;contradiction)
   refine xaS (i:=n) sl26 .none rfl rfl rfl rfl (zap hn) rfl ?_;refine ev ?_;refine wc zjk (hpa) rfl rfl ?_;refine ev ?_;refine xaO (b:=n) sl26 .none rfl rfl rfl (by simp) rfl rfl (by simp only[xac];omega) ?_;refine wc zlD (hco) rfl rfl ?_;refine ev ?_;refine sq ?_ ?_<;>intro h4 h4p h4s;refine sqT ?_;refine rn0 (r2 rfl rfl) (.tup (.cons (.nild ?_) (.cons (.eqd ?_) .nil)));rotate_left 2;refine sq ?_ ?_<;>intro h6 h6p h6s;refine rn0 (r2 rfl rfl) (.tup (.cons (.nild ?_) (.cons (.eqd ?_) .nil)));rotate_left 2;focus (exfalso;contradiction)
   all_goals (rfl)
  |true=>
   rw[hp] at hpa;cases hq:za1 (l.take n) [] with
   |none=>
    rw[show zd2 w ⟨a,k⟩ l n=none from by unfold zd2;rw[if_pos hp];split;rfl;exact zrL hq];rw[hq] at hco;refine bd Tryz.f59 77 [] [] fun w0 F0 own kept hk=>?_;refine bx 3005 ?_;refine ev ?_;refine wc zir (hcv) rfl rfl ?_;refine ev ?_;refine sq ?_ ?_<;>intro h1 h1p h1s;refine sqT ?_;focus (exfalso;contradiction)
    refine ar ?_ (by simp only[xac];constructor<;>omega);refine Walk.call (cr:=[]) zcO (hwi) rfl (.some rfl rfl h1) rfl rfl (LeL.refl _) trivial rfl rfl rfl ?_;refine evs [] [(22,false)] ?_ ⟨⟨_,rfl,h1⟩,trivial⟩;refine sq ?_ ?_<;>intro h3 h3p h3s;focus (exfalso;contradiction)
    refine xaS (i:=n) sl26 .none rfl rfl rfl rfl (zap hn) rfl ?_;refine ev ?_;refine wc zjk (hpa) rfl rfl ?_;refine ev ?_;refine xaO (b:=n) sl26 .none rfl rfl rfl (by simp) rfl rfl (by simp only[xac];omega) ?_;refine wc zlD (hco) rfl rfl ?_;refine ev ?_;refine sq ?_ ?_<;>intro h4 h4p h4s;refine sqT ?_;refine rn0 (r2 rfl rfl) (.tup (.cons (.nild ?_) (.cons (.eqd ?_) .nil)));rotate_left 2;refine sq ?_ ?_<;>intro h6 h6p h6s;refine rn0 (r2 rfl rfl) (.tup (.cons (.nild ?_) (.cons (.eqd ?_) .nil)));rotate_left 2;focus (exfalso;contradiction)
    all_goals (rfl)
   |some away=>
    rw[hq] at hco;obtain⟨p1,p2⟩:=zeu (l.take n) [] away (fun c hc=>(hsh c (List.mem_of_mem_take hc)).1) (by simp) hq;have hpp:=zew (hsh _ (zac hn)).1;have hpl:=zek (nth l n).pat;have hse:=zlf hsp hin hpp (by omega);cases hz:sepV w ⟨a,k⟩ (zbk (nth l n).pat) with
    |none=>
     rw[ziM hp hz];rw[hz] at hse;have hre:=zh8 hsp (f:=zal w) hin (l:=[]) (ok:=false) (by simp) (by simp);refine bd Tryz.f59 77 [] [] fun w0 F0 own kept hk=>?_;refine bx 3005 ?_;refine ev ?_;refine wc zir (hcv) rfl rfl ?_;refine ev ?_;refine sq ?_ ?_<;>intro h1 h1p h1s;refine sqT ?_;focus (exfalso;contradiction)
     refine ar ?_ (by simp only[xac];constructor<;>omega);refine Walk.call (cr:=[]) zcO (hwi) rfl (.some rfl rfl h1) rfl rfl (LeL.refl _) trivial rfl rfl rfl ?_;refine evs [] [(22,false)] ?_ ⟨⟨_,rfl,h1⟩,trivial⟩;refine sq ?_ ?_<;>intro h3 h3p h3s;focus (exfalso;contradiction)
     refine xaS (i:=n) sl26 .none rfl rfl rfl rfl (zap hn) rfl ?_;refine ev ?_;refine wc zjk (hpa) rfl rfl ?_;refine ev ?_;refine xaO (b:=n) sl26 .none rfl rfl rfl (by simp) rfl rfl (by simp only[xac];omega) ?_;refine wc zlD (hco) rfl rfl ?_;refine ev ?_;refine sq ?_ ?_<;>intro h4 h4p h4s;refine sqT ?_;focus (exfalso;contradiction)
     refine sq ?_ ?_<;>intro h6 h6p h6s;focus (exfalso;contradiction)
     refine wc zu6 (hns) rfl rfl ?_;refine ev ?_;refine wc zu7 (hse) rfl rfl ?_;refine ev ?_;refine sq ?_ ?_<;>intro h7 h7p h7s;focus (exfalso;contradiction)
     refine wc zu9 (hre) rfl rfl ?_;refine ev ?_;refine rn0 (r2 rfl rfl) (.tup (.cons (.eqd ?_) (.cons (.eqd ?_) .nil)));rotate_left 2;all_goals (rfl)
    |some mine=>
     rw[ziN hp hz,zqo hq];rw[hz] at hse;have hmp:=zhD _ [] [] (by simp) hpp (by simp) hz;have hm4:mine.length<=400:=hfew hv _ (zac hn) (hip _ (zac hn)) mine hz;have hwo:=zhs hsp hin (l:=mine) (away:=away) hmp p2 hm4 (by rw[List.length_take] at p1;simp at p1;omega);have hok:=zne hsp hin hmp hm4 p2;have hre:=zh8 hsp (f:=zal w) hin (l:=(zay w ⟨a,k⟩ mine away).getD []) (ok:=(zay w ⟨a,k⟩ mine away).isSome) (fun x hx=>(hok.2 x hx).1) (by omega);rw[Bool.and_comm] at hre;generalize (((zay w ⟨a,k⟩ mine away).getD []).all (isP w ⟨a,k⟩)&&(zay w ⟨a,k⟩ mine away).isSome)=q at hre ⊢;refine bd Tryz.f59 77 [] [] fun w0 F0 own kept hk=>?_;refine bx 3005 ?_;refine ev ?_;refine wc zir (hcv) rfl rfl ?_;refine ev ?_;refine sq ?_ ?_<;>intro h1 h1p h1s;refine sqT ?_;focus (exfalso;contradiction)
     refine ar ?_ (by simp only[xac];constructor<;>omega);refine Walk.call (cr:=[]) zcO (hwi) rfl (.some rfl rfl h1) rfl rfl (LeL.refl _) trivial rfl rfl rfl ?_;refine evs [] [(22,false)] ?_ ⟨⟨_,rfl,h1⟩,trivial⟩;refine sq ?_ ?_<;>intro h3 h3p h3s;focus (exfalso;contradiction)
     refine xaS (i:=n) sl26 .none rfl rfl rfl rfl (zap hn) rfl ?_;refine ev ?_;refine wc zjk (hpa) rfl rfl ?_;refine ev ?_;refine xaO (b:=n) sl26 .none rfl rfl rfl (by simp) rfl rfl (by simp only[xac];omega) ?_;refine wc zlD (hco) rfl rfl ?_;refine ev ?_;refine sq ?_ ?_<;>intro h4 h4p h4s;refine sqT ?_;focus (exfalso;contradiction)
     refine sq ?_ ?_<;>intro h6 h6p h6s;focus (exfalso;contradiction)
     refine wc zu6 (hns) rfl rfl ?_;refine ev ?_;refine wc zu7 (hse) rfl rfl ?_;refine ev ?_;refine sq ?_ ?_<;>intro h7 h7p h7s;refine wc zu8 (hwo) rfl rfl ?_;refine ev ?_;refine wc zu9 (hre) rfl rfl ?_;refine ev ?_;refine rn0 (r2 rfl rfl) (.tup (.cons (.eqd ?_) (.cons (.eqd ?_) .nil)));rotate_left 2;focus (exfalso;contradiction)
     all_goals (first|rfl|(cases q<;>rfl))
 ·have hm:zbl w a k l i=none:=by unfold zbl;rw[if_neg hv]
  rw[hm];have hno:zaR w ⟨a,k⟩ l=true->zar i 0 (((l.map Cl.c).length:Int)-1)=false:=fun h=>by
   cases hx:zar i 0 (((l.map Cl.c).length:Int)-1) with
   |false=>rfl
   |true=>exact absurd ⟨h,hwt.1 hx⟩ hv
  clear hwt hm hv;generalize zar i 0 (((l.map Cl.c).length:Int)-1)=b1 at *;generalize zaR w ⟨a,k⟩ l=b2 at *;refine bd Tryz.f59 77 [] [] fun w0 F0 own kept hk=>?_;refine bx 3005 ?_;refine ev ?_;refine wc zir (hcv) rfl rfl ?_;refine ev ?_;refine sq ?_ ?_<;>intro h1 h1p h1s;refine sqT ?_;refine rn0 (r2 rfl rfl) (.tup (.cons (.nild ?_) (.cons (.eqd ?_) .nil)));rotate_left 2;refine ar ?_ (by simp only[xac];constructor<;>omega);refine Walk.call (cr:=[]) zcO (hwi) rfl (.some rfl rfl h1) rfl rfl (LeL.refl _) trivial rfl rfl rfl ?_;refine evs [] [(22,false)] ?_ ⟨⟨_,rfl,h1⟩,trivial⟩;refine sq ?_ ?_<;>intro h3 h3p h3s;refine rn0 (r2 rfl rfl) (.tup (.cons (.nild ?_) (.cons (.eqd ?_) .nil)));rotate_left 2;focus (exfalso;cases b1<;>cases b2<;>contradiction)
  all_goals (rfl)
def wid (w:List Data) (u:Ty):Nat:=if u.data = -1 then 10 else (zaj w u).length
def zgL (w:List Data):Bool:=(List.range (w.length*4)).all fun s=>decide (((zaj w (tyS s)).map fun c=>zdJ ((zaa w (tyS s) c).map fun u=>max 1 (wid w u))).sum<=400)
theorem zo1:((List.range 7).all fun i=>zgL (zdb (nth zdv i)).1)=true:=by kernel_rfl
theorem zot {w:List Data} (h:zgL w=true){t:Ty} (ht:InS (w.length*4) t) (hd:t.data≠ -1):((zaj w t).map fun c=>zdJ ((zaa w t c).map fun u=>max 1 (wid w u))).sum<=400:=by
 rcases ht with h1|⟨h1,h2⟩
 ·exact absurd h1 hd
 ·have:=List.all_eq_true.1 h _ (List.mem_range.2 h1);rw[h2] at this;exact of_decide_eq_true this
theorem zo0 (b:Str) (p:Nat):zgL (zbt b p)=true:=List.all_eq_true.1 zo1 (zan b p 7).toNat (List.mem_range.2 (zo9 b p))
def shal (p:Pat):Prop:=p.op=1\/p.op=3\/∃c l,p=za8 c l/\∀k∈l,k=anyQ
def ziR (p:Pat):Prop:=p.op=1\/p.op=3\/∃c l,p=za8 c l/\∀k∈l,shal k
def PosP (K:Pat->Prop):Prop:=(∀k,K k->shal k)\/∃x,ziR x/\¬shal x/\∀k,K k->k=x
def FormA (L:List Pat):Prop:=∀p∈L,ziR p
def FormB (L:List Pat):Prop:=∃(c:Int) (m:Nat) (K:Nat->Pat->Prop),(∀j,j<m->PosP (K j))/\∀p∈L,CSat K c m p
def Form (L:List Pat):Prop:=FormA L\/FormB L
theorem zqu:shal anyQ:= .inl rfl
theorem zxA {p:Pat} (h:shal p):ziR p:=by
 rcases h with h|h|⟨c,l,h1,h2⟩
 ·exact .inl h
 ·exact .inr (.inl h)
 ·exact .inr (.inr ⟨c,l,h1,fun k hk=>by rw[h2 k hk];exact zqu⟩)
theorem PosP.two {K:Pat->Prop} (h:PosP K){k:Pat} (hk:K k):ziR k:=by
 rcases h with h|⟨x,h1,_,h2⟩
 ·exact zxA (h k hk)
 ·rw[h2 k hk];exact h1
theorem PosP.one {K:Pat->Prop} (h:∀k k',K k->K k'->k=k') (h2:∀k,K k->ziR k):PosP K:=by
 by_cases hx:∃k,K k/\¬shal k
 ·obtain⟨k,h3,h4⟩:=hx;exact .inr ⟨k,h2 k h3,h4,fun k' h5=>h k' k h5 h3⟩
 ·exact .inl fun k hk=>Classical.byContradiction fun h3=>hx ⟨k,hk,h3⟩
theorem zsl {α:Type} [Inhabited α]{P:Int->Nat->Prop}{Q:Int->Nat->α->Prop} (h:∀c j,P c j->∃x,Q c j x):∃f:Int->Nat->α,∀c j,P c j->Q c j (f c j):=by
 classical
 exact⟨fun c j=>if hp:P c j then Classical.choose (h c j hp) else default,fun c j hp=>by simp only[dif_pos hp];exact Classical.choose_spec (h c j hp)⟩
theorem zqi:∀ {a b:List Nat},a.length=b.length->(∀i,i<a.length->nth a i<=nth b i)->zdJ a<=zdJ b
 | [],[],_,_=>Nat.le_refl _
 |x::a,y::b,h,hi=>Nat.mul_le_mul (hi 0 (by simp)) (zqi (a:=a) (b:=b) (by simpa using h) (fun i hi'=>hi (i+1) (by simpa using hi')))
 | [],_::_,h,_=>by simp at h
 |_::_,[],h,_=>by simp at h
theorem znV {w:List Data}{c:Int}{us:List Ty}{Vs:Nat->List Val}{g:Ty->Nat} (h:∀j,j<us.length->(Vs j).length<=g (nth us j)):(zgB c us.length Vs).length<=zdJ (us.map g):=by
 rw[zuW];refine zqi (by simp) (fun i hi=>?_);rw[xac,List.length_range] at hi;rw[zjQ _ hi,zaI (by simpa using hi),List.getElem_map,<-zaI hi];exact h i hi
theorem zqE {α:Type}{f g:α->Nat}:∀ {l:List α},(∀x∈l,f x<=g x)->(l.map f).sum<=(l.map g).sum
 | [],_=>Nat.le_refl _
 |x::r,h=>by
  simp only[xae,List.sum_cons];exact Nat.add_le_add (h x (by simp)) (zqE (fun y hy=>h y (by simp[hy])))
theorem zmq {x:Nat}:∀ {l:List Nat},x∈l->x<=l.sum
 |a::r,h=>by
  rw[List.sum_cons];rcases List.mem_cons.1 h with rfl|h
  ·omega
  ·have:=zmq h;omega
theorem zk3 {α β:Type}{f:α->List β}:∀ {l:List α},(l.flatMap f).length=(l.map fun x=>(f x).length).sum
 | []=>rfl
 |x::r=>by rw[List.flatMap_cons,xaa,xae,List.sum_cons,zk3]
section
variable {w:List Data} (hs:Spa w)
include hs
theorem zrU {t:Ty} (ht:InS (w.length*4) t):∃S V,V.length<=max 1 (wid w t)/\Grid w t S V/\(∀n p,zae w n t p=true->shal p->S p)/\S anyQ:=by
 by_cases hd:t.data = -1
 ·refine⟨fun _=>True,ze2, ?_,zpS hd,fun _ _ _ _=>trivial,trivial⟩;unfold wid;rw[if_pos hd];simp[ze2]
 ·obtain⟨Vs,hV⟩:=zsl (P:=fun c j=>c∈zaj w t/\j<(zaa w t c).length) (Q:=fun c j V=>V.length<=1/\Grid w (nth (zaa w t c) j) (fun p=>p=anyQ) V)
   (fun c j h=>zoh hs (zbp hs.dp ht h.1 _ (zac h.2)) (zjh (n:=0)))
  refine⟨_,_, ?_,zoi hs ht hd (Ss:=fun _ _ p=>p=anyQ) (Vs:=Vs) (fun c hc j hj=>(hV c j ⟨hc,hj⟩).2) (fun _ _ _=>rfl),fun n p hp hsh=>?_,.inl rfl⟩
  ·rw[zk3];have h1:((zaj w t).map fun c=>(zgB c (zaa w t c).length (Vs c)).length).sum<=((zaj w t).map fun _=>1).sum:=zqE (fun c hc=>by
    have:=znV (w:=w) (c:=c) (us:=zaa w t c) (Vs:=Vs c) (g:=fun _=>1) (fun j hj=>(hV c j ⟨hc,hj⟩).1);refine Nat.le_trans this ?_;generalize zaa w t c=us;induction us with
    |nil=>simp[zdJ]
    |cons x r ih=>simp only[xae,zdJ,Nat.one_mul];exact ih)
   have h2:((zaj w t).map fun _=>1).sum=(zaj w t).length:=by
    generalize zaj w t=l;induction l with
    |nil=>rfl
    |cons x r ih=>rw[xae,List.sum_cons,ih,xab];omega
   unfold wid;rw[if_neg hd];omega
  ·rcases hsh with h|h|⟨c,l,rfl,h2⟩
   ·exact .inl h
   ·exact absurd (zbC hp h).1 hd
   ·obtain⟨m1,m2,m3,m4⟩:=zaA hp rfl;exact .inr ⟨c,m1,l,rfl,m3,fun j hj=>h2 _ (zac (by have e:l.length=(zaa w t c).length:=m3;omega))⟩
theorem zuO (hn:zgL w=true){t:Ty} (ht:InS (w.length*4) t):∃S V,V.length<=400/\Grid w t S V/\∀n p,zae w n t p=true->ziR p->S p:=by
 by_cases hd:t.data = -1
 ·exact⟨fun _=>True,ze2,by simp[ze2],zpS hd,fun _ _ _ _=>trivial⟩
 ·obtain⟨F,hF⟩:=zsl (P:=fun c j=>c∈zaj w t/\j<(zaa w t c).length) (Q:=fun c j (SV:(Pat->Prop)×List Val)=>SV.2.length<=max 1 (wid w (nth (zaa w t c) j))/\Grid w (nth (zaa w t c) j) SV.1 SV.2/\(∀n p,zae w n (nth (zaa w t c) j) p=true->shal p->SV.1 p)/\SV.1 anyQ)
   (fun c j h=>by
    obtain⟨S,V,h1,h2,h3,h4⟩:=zrU hs (t:=nth (zaa w t c) j) (zbp hs.dp ht h.1 _ (zac h.2));exact⟨(S,V),h1,h2,h3,h4⟩)
  refine⟨_,_, ?_,zoi hs ht hd (Ss:=fun c j p=>(c∈zaj w t/\j<(zaa w t c).length)->(F c j).1 p) (Vs:=fun c j=>(F c j).2) (fun c hc j hj=>?_) (fun c hc j h=>(hF c j h).2.2.2),fun n p hp hsh=>?_⟩
  ·rw[zk3];exact Nat.le_trans (zqE (fun c hc=>znV (w:=w) (g:=fun u=>max 1 (wid w u)) (fun j hj=>(hF c j ⟨hc,hj⟩).1))) (zot hn ht hd)
  ·have hg:=(hF c j ⟨hc,hj⟩).2.1;exact⟨fun n a b z ha hb h _=>hg.meet n a b z (ha ⟨hc,hj⟩) (hb ⟨hc,hj⟩) h,fun n a b x ha hb h _=>hg.minus n a b x (ha ⟨hc,hj⟩) (hb ⟨hc,hj⟩) h,fun n p hp=>hg.hit n p (hp ⟨hc,hj⟩),hg.fits⟩
  ·cases n with
   |zero=>simp[zae] at hp
   |succ n=>
    rcases hsh with h|h|⟨c,l,rfl,h2⟩
    ·exact .inl h
    ·exact absurd (zbC hp h).1 hd
    ·obtain⟨m1,m2,m3,m4⟩:=zaA hp rfl;have e:l.length=(zaa w t c).length:=m3;refine .inr ⟨c,m1,l,rfl,m3,fun j hj h=>?_⟩;have hk:=zaN hp (i:=j) (by show j<l.length;omega);rw[za5 rfl] at hk;exact(hF c j h).2.2.1 n _ hk (h2 _ (zac (by omega)))
theorem zuD {t:Ty} (ht:InS (w.length*4) t){K:Pat->Prop} (hK:PosP K):∃S V,V.length<=max 1 (wid w t)/\Grid w t S V/\∀n p,zae w n t p=true->K p->S p:=by
 by_cases hx:∃n x,zae w n t x=true/\¬shal x/\∀k,K k->k=x
 ·obtain⟨n,x,h1,_,h2⟩:=hx;obtain⟨V,h3,h4⟩:=zoh hs ht h1;exact⟨_,V,by omega,h4,fun n p _ hp=>h2 p hp⟩
 ·obtain⟨S,V,h1,h2,h3,_⟩:=zrU hs ht;refine⟨S,V,h1,h2,fun n p hp hk=>?_⟩;rcases hK with h|⟨x,h4,h5,h6⟩
  ·exact h3 n p hp (h p hk)
  ·exact absurd ⟨n,x,by rw[<-h6 p hk];exact hp,h5,h6⟩ hx
theorem zum (hn:zgL w=true){t:Ty} (ht:InS (w.length*4) t){l res:List Pat} (hf:Form l) (hl:∀b∈l,zae w 10 t b=true) (h:sepQ w t [] l []=some res):res.length<=400:=by
 rcases hf with hf|⟨c,m,K,hK,hf⟩
 ·obtain⟨S,V,h1,h2,h3⟩:=zuO hs hn ht;exact Nat.le_trans (zrR hs ht h2 (fun b hb=>⟨hl b hb,h3 10 b (hl b hb) (hf b hb)⟩) h) h1
 ·cases l with
  |nil=>rw[sepQ] at h;cases h;simp
  |cons p0 r=>
   obtain⟨l0,e0,e1,_⟩:=hf p0 (by simp);have hp0:=hl p0 (by simp);have hc:=zaA hp0 (by rw[e0];rfl);rw[e0] at hc;have hcc:c∈zaj w t:=hc.1;have hm:m=(zaa w t c).length:=by rw[<-e1];exact hc.2.2.1
   subst hm;obtain⟨F,hF⟩:=zsl (P:=fun c' j=>c'=c/\j<(zaa w t c).length) (Q:=fun _ j (SV:(Pat->Prop)×List Val)=>SV.2.length<=max 1 (wid w (nth (zaa w t c) j))/\Grid w (nth (zaa w t c) j) SV.1 SV.2/\∀n p,zae w n (nth (zaa w t c) j) p=true->K j p->SV.1 p)
    (fun c' j h=>by
     obtain⟨S,V,h1,h2,h3⟩:=zuD hs (t:=nth (zaa w t c) j) (zbp hs.dp ht hcc _ (zac h.2)) (hK j h.2);exact⟨(S,V),h1,h2,h3⟩)
   have hg:=zhq hcc (Ss:=fun j=>(F c j).1) (Vs:=fun j=>(F c j).2) (fun j hj=>(hF c j ⟨rfl,hj⟩).2.1);refine Nat.le_trans (zrR hs ht hg (fun b hb=>⟨hl b hb, ?_⟩) h) ?_
   ·obtain⟨lb,rfl,h1,h2⟩:=hf b hb;refine⟨lb,rfl,h1,fun j hj=>?_⟩;have hk:=zaN (hl _ hb) (i:=j) (by show j<lb.length;omega);rw[za5 rfl] at hk;exact(hF c j ⟨rfl,hj⟩).2.2 9 _ hk (h2 j hj)
   ·have h1:=znV (w:=w) (c:=c) (us:=zaa w t c) (Vs:=fun j=>(F c j).2) (g:=fun u=>max 1 (wid w u)) (fun j hj=>(hF c j ⟨rfl,hj⟩).1);have h2:=zot hn ht hc.2.1;have h3:zdJ ((zaa w t c).map fun u=>max 1 (wid w u))<=((zaj w t).map fun c=>zdJ ((zaa w t c).map fun u=>max 1 (wid w u))).sum:=zmq (List.mem_map.2 ⟨c,hcc,rfl⟩);omega
end
def Dr:Nat->Pat->Prop
 |0,p=>p=anyQ
 |n+1,p=>p=anyQ\/(p.op=3/\p.kids=[])\/(p.op=5/\p.kids.length=2/\∀k∈p.kids,Dr n k)\/(p.op=4/\∀k∈p.kids,Dr n k)
theorem Dr.any (n:Nat):Dr n anyQ:=by cases n<;>simp[Dr]
theorem Dr.up:∀(n:Nat){p:Pat},Dr n p->Dr (n+1) p
 |0,p,h=> .inl h
 |n+1,p,h=>by
  rcases h with h|h|⟨h1,h2,h3⟩|⟨h1,h2⟩
  ·exact .inl h
  ·exact .inr (.inl h)
  ·exact .inr (.inr (.inl ⟨h1,h2,fun k hk=>Dr.up n (h3 k hk)⟩))
  ·exact .inr (.inr (.inr ⟨h1,fun k hk=>Dr.up n (h2 k hk)⟩))
theorem Dr.le {n m:Nat} (h:n<=m){p:Pat} (hp:Dr n p):Dr m p:=by
 induction h with
 |refl=>exact hp
 |step _ ih=>exact Dr.up _ ih
theorem zte {f:Ty->Nat->Pat×Nat}{P:Pat->Prop} (h:∀t q,P (f t q).1):∀(l:List Ty) (q:Nat),∀k∈(dA f l q).1,P k
 | [],q,k,hk=>by simp[dA] at hk
 |t::r,q,k,hk=>by
  simp only[dA,List.mem_cons] at hk;rcases hk with rfl|hk
  ·exact h t q
  ·exact zte h r _ k hk
theorem znl {b:Str}{w:List Data}:∀(d:Nat) (t:Ty) (p:Nat),Dr d (zaB b w (d+1) t p).1/\Dr 0 (zaB b w 0 t p).1
 |0,t,p=>by
  refine⟨?_,rfl⟩;unfold zaB;rw[if_pos rfl];rfl
 |d+1,t,p=>by
  refine⟨?_,rfl⟩;have ih:=fun t p=>(znl (b:=b) (w:=w) d t p).1;rw[zaB,if_neg (by omega)];split
  ·exact Dr.any _
  ·split
   ·refine .inr (.inr (.inl ⟨rfl,rfl,fun k hk=>?_⟩));simp only[Pat.kids,List.mem_cons,List.not_mem_nil,or_false] at hk;rcases hk with rfl|rfl
    ·exact ih _ _
    ·exact ih _ _
   ·split
    ·exact .inr (.inl ⟨rfl,rfl⟩)
    ·split
     ·exact Dr.any _
     ·refine .inr (.inr (.inr ⟨rfl,fun k hk=>?_⟩));exact zte (P:=Dr d) ih _ _ k hk
theorem zeJ:∀(n:Nat){p:Pat},Dr n p->zav p=p
 |0,p,h=>by
  rw[show p=anyQ from h,zbd,if_neg (by decide),if_neg (by decide)];rfl
 |n+1,p,h=>by
  have map_id:∀l:List Pat,(∀k∈l,zav k=k)->l.map zav=l:=fun l hl=>by
   induction l with
   |nil=>rfl
   |cons x r ih=>rw[xae,hl x (by simp),ih (fun k hk=>hl k (by simp[hk]))]
  have key:p.op≠2->p.op≠6->(∀k∈p.kids,zav k=k)->zav p=p:=fun h2 h6 hk=>by
   rw[zbd,if_neg h2,if_neg (fun hh=>h6 hh.1),map_id p.kids hk];cases p;rfl
  rcases h with h|⟨h1,h2⟩|⟨h1,h2,h3⟩|⟨h1,h2⟩
  ·exact zeJ 0 h
  ·exact key (by omega) (by omega) (by rw[h2];simp)
  ·exact key (by omega) (by omega) (fun k hk=>zeJ n (h3 k hk))
  ·exact key (by omega) (by omega) (fun k hk=>zeJ n (h2 k hk))
theorem zor {f:Pat->Int->Nat->Pat×Int×Nat}:∀(l:List Pat) (m:Int) (q:Nat),(∀x∈l,∀m q,zav (f x m q).1=x)->(namL f l m q).1.map zav=l/\∀y∈(namL f l m q).1,zav y∈l
 | [],m,q,_=>by simp[namL]
 |x::r,m,q,h=>by
  have h1:=h x (by simp) m q;have h2:=zor r (f x m q).2.1 (f x m q).2.2 (fun y hy=>h y (by simp[hy]));simp only[namL];refine⟨by rw[xae,h1,h2.1],fun y hy=>?_⟩;rcases List.mem_cons.1 hy with rfl|hy
  ·rw[h1];simp
  ·exact List.mem_cons_of_mem _ (h2.2 y hy)
structure NamB (p r:Pat):Prop where
 bare:zav r=p
 kids:(∀k∈r.kids,zav k∈p.kids)\/(r.op=6/\r.kids.length=1)
theorem zp9 {b:Str}:∀(n:Nat) (d:Nat){p:Pat} (m:Int) (q:Nat),Dr d p->NamB p (namP b n p m q).1
 |0,d,p,m,q,h=>⟨zeJ d h,.inl fun k hk=>by
  have:zav k=k:=by
   cases d with
   |zero=>rw[show p=anyQ from h] at hk;simp[namP,zaF] at hk
   |succ d=>
    rcases h with h|⟨h1,h2⟩|⟨h1,h2,h3⟩|⟨h1,h2⟩
    ·subst h;simp[namP,zaF] at hk
    ·have hk':k∈p.kids:=hk;rw[h2] at hk';simp at hk'
    ·exact zeJ d (h3 k hk)
    ·exact zeJ d (h2 k hk)
  rw[this];exact hk⟩
 |n+1,d,p,m,q,h=>by
  have hkid:∀k∈p.kids,∃e,Dr e k:=fun k hk=>by
   cases d with
   |zero=>rw[show p=anyQ from h] at hk;simp[zaF] at hk
   |succ d=>
    rcases h with h|⟨h1,h2⟩|⟨h1,h2,h3⟩|⟨h1,h2⟩
    ·subst h;simp[zaF] at hk
    ·rw[h2] at hk;simp at hk
    ·exact⟨d,h3 k hk⟩
    ·exact⟨d,h2 k hk⟩
  have hb:=zeJ d h;have hop:p.op≠2/\p.op≠6:=by
   cases d with
   |zero=>rw[show p=anyQ from h];exact⟨by decide,by decide⟩
   |succ d=>
    rcases h with h|⟨h1,h2⟩|⟨h1,h2,h3⟩|⟨h1,h2⟩
    ·rw[h];exact⟨by decide,by decide⟩
    ·omega
    ·omega
    ·omega
  by_cases c1:5<m\/p.op=5\/p.op=3
  ·rw[zmw c1];exact⟨hb,.inl fun k hk=>by obtain⟨e,he⟩:=hkid k hk;rw[zeJ e he];exact hk⟩
  by_cases c2:p.op=1/\zan b q 2=0
  ·rw[zmx c1 c2];have hp:p=anyQ:=by
    cases d with
    |zero=>exact h
    |succ d=>
     rcases h with h|⟨h1,h2⟩|⟨h1,h2,h3⟩|⟨h1,h2⟩
     ·exact h
     ·omega
     ·omega
     ·omega
   exact⟨by rw[hp];exact(zbd _).trans (if_pos rfl),.inl fun k hk=>by simp[zaF] at hk⟩
  have hL:=zor (f:=namP b n) p.kids m (if p.op=1 then q+1 else q) (fun x hx m q=>by obtain⟨e,he⟩:=hkid x hx;exact(zp9 n e m q he).bare);generalize hz:namL (namP b n) p.kids m (if p.op=1 then q+1 else q)=z at hL;obtain⟨ks,zm,zq⟩:=z;dsimp only at hL;have hmk:zav (.mk p.op p.ctor p.n p.m p.var ks)=p:=by
   rw[zbd,if_neg (by rw[zbu];exact hop.1),if_neg (by rw[zbu];exact fun hh=>hop.2 hh.1)];simp only[zbu,zeT,mk_n,mk_m,zg4,zaF];rw[hL.1];cases p;rfl
  by_cases c3:zm<=5
  ·by_cases c4:zan b zq 6=0
   ·rw[zmy c1 c2 hz.symm c3 c4];refine⟨?_,.inr ⟨rfl,rfl⟩⟩;rw[zbd,if_neg (by rw[zbu];decide),if_pos ⟨rfl,by rw[zaF];simp⟩];exact hmk
   ·rw[zmz c1 c2 hz.symm c3 c4];exact⟨hmk,.inl fun k hk=>hL.2 k hk⟩
  ·rw[zmA c1 c2 hz.symm c3];exact⟨hmk,.inl fun k hk=>hL.2 k hk⟩
theorem zdh {p:Pat} (h5:p.op≠5){y:Pat} (hy:y∈zau p):∃l,y = .mk p.op p.ctor p.n p.m p.var l/\l.length=p.kids.length/\∀i,i<p.kids.length->nth l i∈zau (nth p.kids i):=by
 rw[zcU h5] at hy;obtain⟨l,hl,rfl⟩:=List.mem_map.1 hy;obtain⟨q,hq,r,e,h1,h2⟩:=zhz _ _ _ hl;rw[List.mem_singleton] at hq;rw[hq,List.nil_append] at e;subst e;rw[xac] at h1;refine⟨l,rfl,h1,fun i hi=>?_⟩;have:=h2 i (by simpa using hi);rwa [zaI (l:=p.kids.map zau) (by simpa using hi),List.getElem_map,<-zaI hi] at this
theorem dr_1 {p:Pat} (h:Dr 1 p):∃x,∀y∈zau p,y=x:=by
 rcases h with h|⟨h1,h2⟩|⟨h1,h2,h3⟩|⟨h1,h2⟩
 ·rw[h,zb8];exact⟨anyQ,fun y hy=>List.mem_singleton.1 hy⟩
 ·rw[zdg (by omega) h2];exact⟨p,fun y hy=>List.mem_singleton.1 hy⟩
 ·rw[zdn h1 h2,show nth p.kids 0=anyQ from h3 _ (zac (by omega)),show nth p.kids 1=anyQ from h3 _ (zac (by omega)),zb8];exact⟨anyQ,fun y hy=>by simpa using hy⟩
 ·refine⟨p,fun y hy=>?_⟩;obtain⟨l,rfl,h3,h4⟩:=zdh (by omega) hy;have:l=p.kids:=zh6 h3 (fun i hi=>by
   have h5:=h4 i (by omega);have h6:nth p.kids i=anyQ:=h2 _ (zac (by omega));rw[h6,zb8] at h5;rw[h6];exact List.mem_singleton.1 h5)
  rw[this];cases p;rfl
section
variable {w:List Data}{n:Nat}{t:Ty}
theorem zr7 {p:Pat} (h:Dr 1 p) (hp:∀y∈zau p,zae w n t y=true):∀y∈zau p,shal y:=by
 intro y hy;have hpy:=hp y hy;rcases zbn hpy with o|o|o
 ·exact .inl o
 ·exact .inr (.inl o)
 ·refine .inr (.inr ⟨y.ctor,y.kids,(zaA hpy o).2.2.2, ?_⟩);rcases h with h|⟨h1,h2⟩|⟨h1,h2,h3⟩|⟨h1,h2⟩
  ·rw[h,zb8,List.mem_singleton] at hy;rw[hy];simp[zaF]
  ·rw[zdg (by omega) h2,List.mem_singleton] at hy;rw[hy,h2];simp
  ·rw[zdn h1 h2,show nth p.kids 0=anyQ from h3 _ (zac (by omega)),show nth p.kids 1=anyQ from h3 _ (zac (by omega)),zb8] at hy;have:y=anyQ:=by simpa using hy
   rw[this];simp[zaF]
  ·obtain⟨l,rfl,h3,h4⟩:=zdh (by omega) hy;intro k hk;rw[zaF] at hk;obtain⟨i,hi,rfl⟩:=List.getElem_of_mem hk;have h5:=h4 i (by omega);rw[show nth p.kids i=anyQ from h2 _ (zac (by omega)),zb8,List.mem_singleton,zaI hi] at h5;exact h5
theorem dr_2 {p:Pat} (h:Dr 2 p) (hp:∀y∈zau p,zae w n t y=true):PosP (fun y=>y∈zau p):=by
 have leaf:∀y,y.op=4->y∈zau p->p.op≠5->p.op=4:=fun y o hy h5=>by
  obtain⟨l,rfl,_,_⟩:=zdh h5 hy;exact o
 rcases h with h|⟨h1,h2⟩|⟨h1,h2,h3⟩|⟨h1,h2⟩
 ·rw[h,zb8];exact .inl fun k hk=>by rw[List.mem_singleton.1 hk];exact zqu
 ·rw[zdg (by omega) h2];exact .inl fun k hk=>by rw[List.mem_singleton.1 hk];exact .inr (.inl h1)
 ·refine .inl fun y hy=>?_;rw[zdn h1 h2] at hy hp;rcases List.mem_append.1 hy with hy|hy
  ·exact zr7 (w:=w) (n:=n) (t:=t) (h3 _ (zac (by omega))) (fun z hz=>hp z (List.mem_append_left _ hz)) y hy
  ·exact zr7 (w:=w) (n:=n) (t:=t) (h3 _ (zac (by omega))) (fun z hz=>hp z (List.mem_append_right _ hz)) y hy
 ·refine PosP.one (fun y y' hy hy'=>?_) (fun y hy=>?_)
  ·obtain⟨l,rfl,h3,h4⟩:=zdh (by omega) hy;obtain⟨l',rfl,h5,h6⟩:=zdh (by omega) hy';have:l=l':=zh6 (by omega) (fun i hi=>by
    obtain⟨x,hx⟩:=dr_1 (h2 _ (zac (i:=i) (by omega)));rw[hx _ (h4 i (by omega)),hx _ (h6 i (by omega))])
   rw[this]
  ·have hpy:=hp y hy;have h4p:y.op=4:=by obtain⟨l,rfl,_,_⟩:=zdh (by omega) hy;exact h1
   refine .inr (.inr ⟨y.ctor,y.kids,(zaA hpy h4p).2.2.2,fun k hk=>?_⟩);obtain⟨l,e,h3,h4⟩:=zdh (by omega) hy;have hkl:y.kids=l:=by rw[e];rfl
   rw[hkl] at hk;obtain⟨i,hi,rfl⟩:=List.getElem_of_mem hk;have hmi:=h4 i (by omega);have hd1:=h2 _ (zac (l:=p.kids) (i:=i) (by omega));obtain⟨x,hx⟩:=dr_1 hd1;cases n with
   |zero=>simp[zae] at hpy
   |succ n=>
    have hk2:=zaN hpy (i:=i) (by rw[hkl];omega);rw[hkl] at hk2;rw[<-zaI hi];exact zr7 (w:=w) (n:=n) (t:=nth (zag w t y) i) hd1 (fun z hz=>by rw[hx z hz,<-hx _ hmi];exact hk2) _ hmi
theorem zvf {p:Pat} (h:Dr 2 p) (hp:∀y∈zau p,zae w n t y=true):∀y∈zau p,ziR y:=fun y hy=>(dr_2 h hp).two hy
end
theorem zm6 {n:Nat}{p:Pat} (hb:binP (n+1) p=true) (h5:p.op≠5){i:Nat} (hi:i<p.kids.length){z:Pat} (hz:z∈zau (nth p.kids i)):∃y∈zau p,nth y.kids i=z/\y.op=p.op/\y.ctor=p.ctor/\y.kids.length=p.kids.length:=by
 have hne:∀j,j<p.kids.length->∃x,x∈zau (nth p.kids j):=fun j hj=>by
  have:=(zjt n (zdN hb hj)).2;exact List.exists_mem_of_length_pos this
 have hch:∃l:List Pat,l.length=p.kids.length/\(∀j,j<p.kids.length->nth l j∈zau (nth p.kids j))/\nth l i=z:=by
  have:∀k,k<=p.kids.length->∃l:List Pat,l.length=k/\(∀j,j<k->nth l j∈zau (nth p.kids j))/\(i<k->nth l i=z):=fun k=>by
   induction k with
   |zero=>exact fun _=>⟨[],rfl,fun j hj=>by omega,fun h=>by omega⟩
   |succ k ih=>
    intro hk;obtain⟨l,h1,h2,h3⟩:=ih (by omega);have hx:∃x,x∈zau (nth p.kids k)/\(i=k->x=z):=by
     by_cases e:i=k
     ·exact⟨z,e ▸ hz,fun _=>rfl⟩
     ·obtain⟨x,hx⟩:=hne k (by omega);exact⟨x,hx,fun h=>absurd h e⟩
    obtain⟨x,hx,hxz⟩:=hx;have e1:nth (l++[x]) k=x:=by
     simp only[nth,List.getD];rw[List.getElem?_append_right (by omega),h1,Nat.sub_self];all_goals rfl
    have e2:∀j,j<k->nth (l++[x]) j=nth l j:=fun j hj=>by
     simp only[nth,List.getD];rw[List.getElem?_append_left (by omega)]
    refine⟨l++[x],by simp[h1],fun j hj=>?_,fun h=>?_⟩
    ·by_cases e:j=k
     ·subst e;rw[e1];exact hx
     ·rw[e2 j (by omega)];exact h2 j (by omega)
    ·by_cases e:i=k
     ·rw[e,e1];exact hxz e
     ·rw[e2 i (by omega)];exact h3 (by omega)
  obtain⟨l,h1,h2,h3⟩:=this p.kids.length (Nat.le_refl _);exact⟨l,h1,h2,h3 hi⟩
 obtain⟨l,h1,h2,h3⟩:=hch;refine⟨.mk p.op p.ctor p.n p.m p.var l, ?_,h3,rfl,rfl,h1⟩;rw[zcU h5];refine List.mem_map.2 ⟨l, ?_,rfl⟩;have key:∀(ls:List (List Pat)) (r:List Pat) (out:List (List Pat)) (q:List Pat),r.length=ls.length->q∈out->(∀j,j<ls.length->nth r j∈nth ls j)->q++r∈ls.foldl za6 out:=fun ls=>by
  induction ls with
  |nil=>intro r out q hr hq _;rw[List.eq_nil_of_length_eq_zero hr,List.append_nil];exact hq
  |cons a s ih=>
   intro r out q hr hq hm;cases r with
   |nil=>simp at hr
   |cons x r=>
    rw[List.foldl_cons,show q++x::r=q++[x]++r by simp];refine ih r _ (q++[x]) (by simpa using hr) ?_ (fun j hj=>hm (j+1) (by simpa using hj));unfold za6;exact List.mem_flatMap.2 ⟨q,hq,List.mem_map.2 ⟨x,hm 0 (by simp),rfl⟩⟩
 have:=key (p.kids.map zau) l [[]] [] (by simp[h1]) (by simp) (fun j hj=>by
  rw[xac] at hj;rw[zaI (l:=p.kids.map zau) (by simpa using hj),List.getElem_map,<-zaI hj];exact h2 j hj)
 simpa [zdS] using this
section
variable {w:List Data}{n:Nat}{t:Ty}
theorem zob {p:Pat} (hb:binP 20 p=true) (h4:p.op=4) (hk:∀k∈p.kids,Dr 2 k) (hp:∀y∈zau p,zae w n t y=true):FormB (zau p):=by
 refine⟨p.ctor,p.kids.length,fun j y=>y∈zau (nth p.kids j),fun j hj=>?_,fun y hy=>?_⟩
 ·cases n with
  |zero=>
   refine .inl fun k hz=>?_;obtain⟨y,hy,_⟩:=zm6 hb (by omega) hj hz;have:=hp y hy;simp[zae] at this
  |succ n=>
   refine dr_2 (w:=w) (n:=n) (t:=nth (zaa w t p.ctor) j) (hk _ (zac hj)) (fun z hz=>?_);obtain⟨y,hy,h1,h2,h3,h5⟩:=zm6 hb (by omega) hj hz;have:=zaN (hp y hy) (i:=j) (by omega);rw[za5 (by omega),h1,h3] at this;exact this
 ·obtain⟨l,e,h1,h2⟩:=zdh (by omega) hy;refine⟨l, ?_,h1,h2⟩;have hpy:=hp y hy;have:=(zaA hpy (by rw[e];exact h4)).2.2.2;rw[this,e];rfl
theorem znk {p:Pat} (h:Dr 3 p) (hb:binP 20 p=true) (hp:∀y∈zau p,zae w n t y=true):Form (zau p):=by
 rcases h with h|⟨h1,h2⟩|⟨h1,h2,h3⟩|⟨h1,h2⟩
 ·rw[h,zb8];exact .inl fun k hk=>by rw[List.mem_singleton.1 hk];exact .inl rfl
 ·rw[zdg (by omega) h2];exact .inl fun k hk=>by rw[List.mem_singleton.1 hk];exact .inr (.inl h1)
 ·refine .inl fun y hy=>?_;rw[zdn h1 h2] at hy hp;rcases List.mem_append.1 hy with hy|hy
  ·exact zvf (w:=w) (n:=n) (t:=t) (h3 _ (zac (by omega))) (fun z hz=>hp z (List.mem_append_left _ hz)) y hy
  ·exact zvf (w:=w) (n:=n) (t:=t) (h3 _ (zac (by omega))) (fun z hz=>hp z (List.mem_append_right _ hz)) y hy
 ·exact .inr (zob hb h1 h2 hp)
def RootOk (p:Pat):Prop:=(∀k∈p.kids,Dr 2 (zav k))\/(p.op=6/\p.kids.length=1/\Dr 3 (zav (nth p.kids 0)))
theorem zwi {m k:Nat} (h:m<=k){p:Pat} (hp:binP m p=true):binP k p=true:=by
 induction h with
 |refl=>exact hp
 |step _ ih=>exact zkU _ ih
theorem ztP {p:Pat} (hr:RootOk p) (hs:zas w 10 t p=true):Form (zau (zav p)):=by
 have hpt:=zfC 10 hs;have hb:=zwi (k:=20) (by omega) (zf1 10 hs);rcases hr with hr|⟨h6,h1,h2⟩
 ·rcases zeH hs with o|o|o|o|o|o
  ·have hk:=zdK hs (by omega) (by omega) (by omega);rw[zbd,if_neg (by omega),if_neg (by omega),zdg (by rw[zbu];omega) (by rw[zaF,hk];rfl)];exact .inl fun k hk=>by rw[List.mem_singleton.1 hk];exact .inl o
  ·rw[zbd,if_pos o,zb8];exact .inl fun k hk=>by rw[List.mem_singleton.1 hk];exact .inl rfl
  ·have hk:=zdK hs (by omega) (by omega) (by omega);rw[zbd,if_neg (by omega),if_neg (by omega),zdg (by rw[zbu];omega) (by rw[zaF,hk];rfl)];exact .inl fun k hk=>by rw[List.mem_singleton.1 hk];exact .inr (.inl o)
  ·have e:zav p = .mk p.op p.ctor p.n p.m p.var (p.kids.map zav):=by rw[zbd,if_neg (by omega),if_neg (by omega)]
   rw[e] at hpt hb ⊢;refine .inr (zob hb (by rw[zbu];exact o) (fun k hk=>?_) hpt);rw[zaF] at hk;obtain⟨k0,h3,rfl⟩:=List.mem_map.1 hk;exact hr k0 h3
  ·have e:zav p = .mk p.op p.ctor p.n p.m p.var (p.kids.map zav):=by rw[zbd,if_neg (by omega),if_neg (by omega)]
   rw[e] at hpt hb ⊢;obtain⟨l2,_,_⟩:=zd5 hs o;refine znk (w:=w) (n:=10) (t:=t) (.inr (.inr (.inl ⟨by rw[zbu];exact o,by rw[zaF];simpa using l2,fun k hk=>?_⟩))) hb hpt;rw[zaF] at hk;obtain⟨k0,h3,rfl⟩:=List.mem_map.1 hk;exact hr k0 h3
  ·obtain⟨l1,_⟩:=zdB hs o;have e:zav p=zav (nth p.kids 0):=by rw[zbd,if_neg (by omega),if_pos ⟨o,fun e=>by rw[e] at l1;simp at l1⟩]
   rw[e] at hpt hb ⊢;exact znk (Dr.up 2 (hr _ (zac (by omega)))) hb hpt
 ·have e:zav p=zav (nth p.kids 0):=by rw[zbd,if_neg (by omega),if_pos ⟨h6,fun e=>by rw[e] at h1;simp at h1⟩]
  rw[e] at hpt hb ⊢;exact znk h2 hb hpt
theorem ztV (b:Str) (w:List Data) (t:Ty) (q:Nat):RootOk (zbg b w t q):=by
 unfold zbg;split
 ·have h4:=num4 b q;have hd:Dr 3 (zaB b w (numV b q [3,2,4,1]).toNat t (q+1)).1:=by
   rcases hn:(numV b q [3,2,4,1]).toNat with _|d
   ·exact Dr.any 3
   ·exact Dr.le (by omega) (znl (b:=b) (w:=w) d t (q+1)).1
  unfold zce;have hnb:=zp9 (b:=b) (zaB b w (numV b q [3,2,4,1]).toNat t (q+1)).1.size 3 0 (zaB b w (numV b q [3,2,4,1]).toNat t (q+1)).2 hd;rcases hnb.kids with h|⟨h1,h2⟩
  ·refine .inl fun k hk=>?_;have hm:=h k hk;generalize (zaB b w (numV b q [3,2,4,1]).toNat t (q+1)).1=p0 at *;rcases hd with h|⟨h1,h2⟩|⟨h1,h2,h3⟩|⟨h1,h2⟩
   ·rw[h] at hm;simp[zaF] at hm
   ·rw[h2] at hm;simp at hm
   ·exact h3 _ hm
   ·exact h2 _ hm
  ·refine .inr ⟨h1,h2, ?_⟩;have:=hnb.bare;rw[zbd,if_neg (by omega),if_pos ⟨h1,fun e=>by rw[e] at h2;simp at h2⟩] at this;rw[this];exact hd
 ·exact .inl fun k hk=>by simp[anyP,Pat.kids] at hk
theorem zuy {b:Str}{p:Pat}{q:Nat} (hr:RootOk p) (hs:zas w 10 t (mutP b p q).1=true):RootOk (mutP b p q).1:=by
 have hv:zav zbj=anyQ:=(zbd _).trans (if_pos rfl);have two:∀ {x:Pat},zas w 10 t x=true->(x.op=1\/x.op=2\/x.op=3)->x.kids=[]:=fun h ho=>zdK h (by omega) (by omega) (by omega);rcases hr with hr|⟨h6,h1,h2⟩
 ·refine .inl ?_;unfold mutP;split;exact hr
  split;exact hr
  split;exact hr
  split
  ·intro k hk;rw[zaF] at hk;rcases List.mem_append.1 hk with hk|hk
   ·exact hr k hk
   ·rw[List.mem_singleton.1 hk,hv];exact Dr.any 2
  split
  ·intro k hk;rw[zaF] at hk;rcases List.mem_or_eq_of_mem_set hk with hk|rfl
   ·exact hr k hk
   ·rw[hv];exact Dr.any 2
  split;exact hr
  exact hr
 ·have keep:∀c n m v:Int,RootOk (.mk p.op c n m v p.kids):=fun c n m v=> .inr ⟨h6,h1,h2⟩;unfold mutP at hs ⊢;split
  ·rename_i e;rw[if_pos e] at hs;have hm:=zeG (b:=b) (p:=q+1) (l:=[0,7,1,2,5]) (by simp);simp only[List.mem_cons,List.not_mem_nil,or_false] at hm;exfalso;have hs:zas w 10 t (.mk (numV b (q+1) [0,7,1,2,5]) p.ctor p.n p.m p.var p.kids)=true:=hs;have ho:=zeH hs;have hk:(Pat.mk (numV b (q+1) [0,7,1,2,5]) p.ctor p.n p.m p.var p.kids).kids.length=1:=h1;by_cases h5:(Pat.mk (numV b (q+1) [0,7,1,2,5]) p.ctor p.n p.m p.var p.kids).op=5
   ·have:=(zd5 hs h5).1;omega
   ·rw[zbu] at ho h5;have ho2:(Pat.mk (numV b (q+1) [0,7,1,2,5]) p.ctor p.n p.m p.var p.kids).op=numV b (q+1) [0,7,1,2,5]:=rfl;have:=two hs (by omega);rw[this] at hk;simp at hk
  rename_i e0;rw[if_neg e0] at hs;split;exact keep _ _ _ _
  rename_i e1;rw[if_neg e1] at hs;split;exact keep _ _ _ _
  rename_i e2;rw[if_neg e2] at hs;split
  ·rename_i e3;rw[if_pos e3] at hs;exfalso;have:=(zdB hs (by rw[zbu];exact h6)).1;rw[zaF,xaa,List.length_singleton] at this;omega
  split
  ·refine .inl fun k hk=>?_;rw[zaF] at hk;match hkk:p.kids,h1 with
   | [a],_=>
    rw[hkk] at hk;simp at hk;rw[hk,hv];exact Dr.any 2
  split;exact keep _ _ _ _
  exact keep _ _ _ _
end
theorem zoU {w:List Data}{t:Ty}{p:Pat}{v:Val}{m:Nat} (h:zas w 10 t p=true) (hv:zaP w m t v=true) (e:zbk p=zau (zav p)):(zbk p).any (fun x=>hitP x v)=(za7 10 p v).2:=by
 rw[e,Bool.eq_iff_iff,zdO 10 m h hv,List.any_eq_true]
section
variable {w:List Data} (hs:WSmall w){a k:Int}{l:List Cl}{i:Int}{ps:List Pat} (hl:ClsOk l)
theorem zoB (h:zbl w a k l i=some ps):zaR w ⟨a,k⟩ l=true/\0<=i/\i<(l.length:Int)/\∃mine away,sepV w ⟨a,k⟩ (zbk (nth l i.toNat).pat)=some mine/\za1 (l.take i.toNat) []=some away/\zay w ⟨a,k⟩ mine away=some ps/\ps.all (isP w ⟨a,k⟩)=true/\zbi (nth l i.toNat).pat=true:=by
 unfold zbl at h;split at h
 ·rename_i hv;refine⟨hv.1,hv.2.1,hv.2.2, ?_⟩;cases hp:zbi (nth l i.toNat).pat with
  |false=>rw[zlk hp] at h;cases h
  |true=>
   cases hz:sepV w ⟨a,k⟩ (zbk (nth l i.toNat).pat) with
   |none=>rw[ziM hp hz] at h;cases h
   |some mine=>
    rw[ziN hp hz] at h;unfold zgt at h;cases hq:za1 (l.take i.toNat) [] with
    |none=>rw[hq] at h;cases h
    |some away=>
     rw[hq] at h;dsimp only at h;cases hw:zay w ⟨a,k⟩ mine away with
     |none=>rw[hw] at h;cases h
     |some r=>
      rw[hw] at h;dsimp only at h;split at h
      ·rename_i hall;cases h
       exact⟨mine,away,rfl,rfl,hw,hall,rfl⟩
      ·cases h
 ·cases h
include hs hl
theorem zq5 (h:zbl w a k l i=some ps):Spa w/\InS (w.length*4) ⟨a,k⟩/\zbF w ⟨a,k⟩=true/\isP w ⟨a,k⟩ (nth l i.toNat).pat=true/\(∀c∈l,isP w ⟨a,k⟩ c.pat=true)/\(∀x∈ps,zae w 11 ⟨a,k⟩ x=true/\isP w ⟨a,k⟩ x=true/\∃m v,zaP w m ⟨a,k⟩ v=true/\hitP x v=true)/\
  ∀ {m:Nat}{v:Val},zaP w m ⟨a,k⟩ v=true->ps.countP (fun x=>hitP x v)=one ((za7 10 (nth l i.toNat).pat v).2&& !zeL (l.take i.toNat) v):=by
 obtain⟨hv,h0,h1,mine,away,hz,hq,hw,hall,hp⟩:=zoB h;obtain⟨hsp,hin,hsh,h8,hip,tv⟩:=zfR hs hl hv;have hn:i.toNat<l.length:=by omega
 have hsh1:=(hsh _ (zac hn)).1;have t1:=zew hsh1;obtain⟨_,p2⟩:=zeu (l.take i.toNat) [] away (fun c hc=>(hsh c (List.mem_of_mem_take hc)).1) (by simp) hq;have hrp:=zhD _ [] [] (by simp) t1 (by simp) hz;refine⟨hsp,hin,tv,hip _ (zac hn),hip,fun x hx=>?_,fun {m v} hf=>?_⟩
 ·obtain⟨q1,_,q2⟩:=zkS (S:=fun _=>True) (fun _ _ _ _ _ _=>trivial) (fun b hb=>⟨p2 b hb,trivial⟩) (fun a ha=>⟨hrp a ha,trivial⟩) hw x hx;obtain⟨m,v,h6,h7⟩:=zjg hsp 11 hin q1 (by unfold zbh at q2;simpa using q2);exact⟨q1,List.all_eq_true.1 hall x hx,m,v,h6,h7⟩
 ·have e1:zbk (nth l i.toNat).pat=zau (zav (nth l i.toNat).pat):=by unfold zbk;rw[if_pos (by unfold zbi at hp;exact of_decide_eq_true hp)]
  rw[zkR hsp hin hf p2 hrp hw,znD hsp hin hf _ [] [] (by simp) t1 hz,zoU hsh1 hf e1,zju hf (l.take i.toNat) [] away (fun c hc=>(hsh c (List.mem_of_mem_take hc)).1) hq];simp only[List.countP_nil,List.any_nil,Nat.zero_add,Bool.false_or,one];cases (za7 10 (nth l i.toNat).pat v).2<;>cases zeL (l.take i.toNat) v<;>rfl
theorem zt0 {j:Nat} (h:zbl w a k l i=some ps) (hij:(j:Int)<i) (hg:(nth l j).g.op=0) (hsame:(nth l i.toNat).pat=(nth l j).pat):ps=[]:=by
 obtain⟨hsp,hin,tv,hip,hips,hal,hc⟩:=zq5 hs hl h;obtain⟨_,h0,h1,_⟩:=zoB h;cases ps with
 |nil=>rfl
 |cons x r=>
  exfalso;obtain⟨_,_,m,v,h2,h3⟩:=hal x (by simp);have h4:=hc h2;have h5:0<(x::r).countP (fun y=>hitP y v):=List.countP_pos_iff.2 ⟨x,by simp,h3⟩;rw[h4] at h5;cases hm:(za7 10 (nth l i.toNat).pat v).2 with
  |false=>rw[hm] at h5;simp[one] at h5
  |true=>
   have:zeL (l.take i.toNat) v=true:=by
    unfold zeL;refine List.any_eq_true.2 ⟨nth l j, ?_,by rw[<-hsame,hm,decide_eq_true hg];rfl⟩;have e:nth (l.take i.toNat) j=nth l j:=by rw[zaI (by rw[List.length_take];omega),zaI (by omega),List.getElem_take]
    rw[<-e];exact zac (by rw[List.length_take];omega)
   rw[hm,this] at h5;simp[one] at h5
end
theorem zjN {f:Pat->Int->Nat->Pat×Int×Nat}:∀(l:List Pat) (m:Int) (q:Nat),(∀x∈l,∀m q,0<=m->m<=6->m<=(f x m q).2.1/\(f x m q).2.1<=6/\((f x m q).2.1=m->(f x m q).1=x))->0<=m->m<=6->m<=(namL f l m q).2.1/\((namL f l m q).2.1=m->(namL f l m q).1=l)
 | [],m,q,_,_,_=>⟨Int.le_refl _,fun _=>rfl⟩
 |x::r,m,q,h,h0,h6=>by
  obtain⟨a1,a2,a3⟩:=h x (by simp) m q h0 h6;obtain⟨b1,b2⟩:=zjN r (f x m q).2.1 (f x m q).2.2 (fun y hy=>h y (by simp[hy])) (by omega) a2;simp only[namL];refine⟨by omega,fun e=>?_⟩;rw[a3 (by omega),b2 (by omega)]
theorem zqa {b:Str}:∀(n:Nat) (p:Pat) (m:Int) (q:Nat),0<=m->m<=6->(namP b n p m q).2.1=m->(namP b n p m q).1=p
 |0,p,m,q,_,_,_=>rfl
 |n+1,p,m,q,h0,h6,e=>by
  by_cases c1:5<m\/p.op=5\/p.op=3
  ·rw[zmw c1]
  by_cases c2:p.op=1/\zan b q 2=0
  ·rw[zmx c1 c2] at e;dsimp only at e;omega
  have hL:=zjN (f:=namP b n) p.kids m (if p.op=1 then q+1 else q) (fun x _ m q h0 h6=>by
   have h:=zic (b:=b) n x m q h0 h6;exact⟨h.1,h.2.1,zqa n x m q h0 h6⟩) h0 h6
  generalize hz:namL (namP b n) p.kids m (if p.op=1 then q+1 else q)=z at hL;obtain⟨ks,zm,zq⟩:=z;dsimp only at hL;by_cases c3:zm<=5
  ·by_cases c4:zan b zq 6=0
   ·rw[zmy c1 c2 hz.symm c3 c4] at e;dsimp only at e;omega
   ·rw[zmz c1 c2 hz.symm c3 c4] at e ⊢;dsimp only at e ⊢;rw[hL.2 e];cases p;rfl
  ·rw[zmA c1 c2 hz.symm c3] at e ⊢;dsimp only at e ⊢;rw[hL.2 e];cases p;rfl
theorem zvg {d:Nat}{p:Pat} (h:Dr d p):p.op≠2/\p.op≠6/\∀k∈p.kids,∃e,Dr e k:=by
 cases d with
 |zero=>rw[show p=anyQ from h];exact⟨by decide,by decide,fun k hk=>by simp[zaF] at hk⟩
 |succ d=>
  rcases h with h|⟨h1,h2⟩|⟨h1,h2,h3⟩|⟨h1,h2⟩
  ·rw[h];exact⟨by decide,by decide,fun k hk=>by simp[zaF] at hk⟩
  ·exact⟨by omega,by omega,fun k hk=>by rw[h2] at hk;simp at hk⟩
  ·exact⟨by omega,by omega,fun k hk=>⟨d,h3 k hk⟩⟩
  ·exact⟨by omega,by omega,fun k hk=>⟨d,h2 k hk⟩⟩
theorem ziV {f:Ty->Pat->List Vt}:∀(a:List Ty) (b:List Pat),(∀t,∀k∈b,f t k=[])->zbc f a b=[]
 | [],_,_=>by simp[zbc]
 |_::_,[],_=>by simp[zbc]
 |t::a,k::b,h=>by
  rw[zbc,h t k (by simp),ziV a b (fun t x hx=>h t x (by simp[hx])),List.nil_append]
theorem zro {w:List Data}:∀(n:Nat){d:Nat}{t:Ty}{p:Pat},Dr d p->zaG w n t p=[]
 |0,_,_,_,_=>rfl
 |n+1,d,t,p,h=>by
  obtain⟨h1,h2,h3⟩:=zvg h;rw[zaG,ziV _ _ (fun t k hk=>by obtain⟨e,he⟩:=h3 k hk;exact zro n he)];unfold zaT;rw[if_neg (by omega)];rfl
theorem ztW (b:Str) (w:List Data) (t:Ty) (q:Nat) (h6:(zbg b w t q).op=6) (h0:(zbg b w t q).var=0):∃d,Dr d (nth (zbg b w t q).kids 0):=by
 unfold zbg at *;split at h6
 ·rename_i hp;rw[if_pos hp] at h0;rw[if_pos hp];have h4:=num4 b q;have hd:Dr 3 (zaB b w (numV b q [3,2,4,1]).toNat t (q+1)).1:=by
   rcases hn:(numV b q [3,2,4,1]).toNat with _|d
   ·exact Dr.any 3
   ·exact Dr.le (by omega) (znl (b:=b) (w:=w) d t (q+1)).1
  clear hp;unfold zce at *;generalize (zaB b w (numV b q [3,2,4,1]).toNat t (q+1))=z0 at *;obtain⟨p0,q0⟩:=z0;dsimp only at *;have hop:=zvg hd;have hs:=Pat.size_eq p0;obtain⟨n,hn⟩:∃n,p0.size=n+1:=⟨p0.size-1,by omega⟩;rw[hn] at h6 h0 ⊢;by_cases c1:5<(0:Int)\/p0.op=5\/p0.op=3
  ·rw[zmw c1] at h6;exact absurd h6 hop.2.1
  by_cases c2:p0.op=1/\zan b q0 2=0
  ·rw[zmx c1 c2] at h6;exact absurd h6 (by show ¬(2:Int)=6;decide)
  have hL:=zjN (f:=namP b n) p0.kids 0 (if p0.op=1 then q0+1 else q0) (fun x _ m q h0 h6=>by
   have h:=zic (b:=b) n x m q h0 h6;exact⟨h.1,h.2.1,zqa n x m q h0 h6⟩) (by omega) (by omega)
  generalize hz:namL (namP b n) p0.kids 0 (if p0.op=1 then q0+1 else q0)=z at hL;obtain⟨ks,zm,zq⟩:=z;dsimp only at hL;by_cases c3:zm<=5
  ·by_cases c4:zan b zq 6=0
   ·rw[zmy c1 c2 hz.symm c3 c4] at h0 ⊢;have e:zm=0:=h0;refine⟨3, ?_⟩;show Dr 3 (.mk p0.op p0.ctor p0.n p0.m p0.var ks)
    rw[hL.2 e];have:Pat.mk p0.op p0.ctor p0.n p0.m p0.var p0.kids=p0:=by cases p0;rfl
    rw[this];exact hd
   ·rw[zmz c1 c2 hz.symm c3 c4] at h6;exact absurd h6 hop.2.1
  ·rw[zmA c1 c2 hz.symm c3] at h6;exact absurd h6 hop.2.1
 ·exact absurd h6 (by show ¬(1:Int)=6;decide)
theorem ztD {w:List Data}{t:Ty}{c n m v:Int}{k:Pat} (h:isP w t (.mk 5 c n m v [k,zbj])=true) (hz:v=0->∃d,Dr d k):False:=by
 unfold isP at h;simp only[xad] at h;obtain⟨h1,_,h3⟩:=h;unfold zas at h1;rw[xad] at h1;have ho:=h1.1;unfold ownP at ho;have hv:v=0:=(of_decide_eq_true ho).2.1 (by show ¬((5:Int)=2\/(5:Int)=6);omega);obtain⟨d,hd⟩:=hz hv;unfold linP at h3;rw[xad,if_pos (show(Pat.mk 5 c n m v [k,zbj]).op=5 from rfl)] at h3;have h4:=h3.2;have e1:zaG w 9 t (nth (Pat.mk 5 c n m v [k,zbj]).kids 0)=[]:=zro 9 hd;have e2:zaG w 9 t (nth (Pat.mk 5 c n m v [k,zbj]).kids 1)=[⟨0,t⟩]:=by
  show zaG w 9 t zbj=_
  rw[zaG,show zbc (zaG w 8) (zdi w t zbj) zbj.kids=[] from ziV _ _ (fun t k hk=>by simp[zbj,Pat.kids] at hk)];rfl
 rw[e1,e2] at h4;simp[zds] at h4
section
variable {w:List Data}{t:Ty}
theorem zvZ {b:Str}{p:Pat}{q q2:Nat} (hr:RootOk p) (hz:p.op=6->p.var=0->∃d,Dr d (nth p.kids 0)) (hv:isP w t (mutP b (mutP b p q).1 q2).1=true):RootOk (mutP b (mutP b p q).1 q2).1:=by
 have hs:zas w 10 t (mutP b (mutP b p q).1 q2).1=true:=by unfold isP at hv;rw[xad] at hv;exact hv.1
 have hva:zav zbj=anyQ:=(zbd _).trans (if_pos rfl);have two:∀ {x:Pat},zas w 10 t x=true->(x.op=1\/x.op=2\/x.op=3)->x.kids=[]:=fun h ho=>zdK h (by omega) (by omega) (by omega);have one1:∀ {x:Pat},(∀k∈x.kids,Dr 2 (zav k))->∀k∈(mutP b x q2).1.kids,Dr 2 (zav k):=fun {x} hx=>by
  unfold mutP;split;exact hx
  split;exact hx
  split;exact hx
  split
  ·intro k hk;rw[zaF] at hk;rcases List.mem_append.1 hk with hk|hk
   ·exact hx k hk
   ·rw[List.mem_singleton.1 hk,hva];exact Dr.any 2
  split
  ·intro k hk;rw[zaF] at hk;rcases List.mem_or_eq_of_mem_set hk with hk|rfl
   ·exact hx k hk
   ·rw[hva];exact Dr.any 2
  split;exact hx
  exact hx
 have one0:∀ {x:Pat} {q},(∀k∈x.kids,Dr 2 (zav k))->∀k∈(mutP b x q).1.kids,Dr 2 (zav k):=fun {x q} hx=>by
  unfold mutP;split;exact hx
  split;exact hx
  split;exact hx
  split
  ·intro k hk;rw[zaF] at hk;rcases List.mem_append.1 hk with hk|hk
   ·exact hx k hk
   ·rw[List.mem_singleton.1 hk,hva];exact Dr.any 2
  split
  ·intro k hk;rw[zaF] at hk;rcases List.mem_or_eq_of_mem_set hk with hk|rfl
   ·exact hx k hk
   ·rw[hva];exact Dr.any 2
  split;exact hx
  exact hx
 rcases hr with hr|⟨h6,h1,h2⟩
 ·exact .inl (one1 (one0 hr))
 ·have keep:∀c n m v:Int,RootOk (.mk p.op c n m v p.kids):=fun c n m v=> .inr ⟨h6,h1,h2⟩;match hkk:p.kids,h1 with
  | [k],_=>
  have hk0:nth p.kids 0=k:=by rw[hkk];rfl
  rw[hk0] at hz;have vset:∀(l:List Pat) (x:Pat),(∀y∈l,y=zbj)->∀y∈l,Dr 2 (zav y):=fun l x h y hy=>by rw[h y hy,hva];exact Dr.any 2
  have set1:∀y∈[k].set 0 zbj,y=zbj:=fun y hy=>by simpa using hy

  have first:RootOk (mutP b p q).1/\(∀x∈(mutP b p q).1.kids,Dr 2 (zav x))\/((mutP b p q).1.op=6/\(mutP b p q).1.kids=[k]/\RootOk (mutP b p q).1)\/
    ((mutP b p q).1.kids=[k]/\(mutP b p q).1.var=p.var/\((mutP b p q).1.op=0\/(mutP b p q).1.op=7\/(mutP b p q).1.op=1\/(mutP b p q).1.op=2\/(mutP b p q).1.op=5))\/
    ((mutP b p q).1.op=6/\(mutP b p q).1.kids=[k,zbj]/\(mutP b p q).1.var=p.var):=by
   have hm:=zeG (b:=b) (p:=q+1) (l:=[0,7,1,2,5]) (by simp);simp only[List.mem_cons,List.not_mem_nil,or_false] at hm;unfold mutP;split
   ·exact .inr (.inr (.inl ⟨hkk,rfl,by simp only[zbu];exact hm⟩))
   split;exact .inr (.inl ⟨h6,hkk,keep _ _ _ _⟩)
   split;exact .inr (.inl ⟨h6,hkk,keep _ _ _ _⟩)
   split
   ·exact .inr (.inr (.inr ⟨h6,by simp only[zaF];rw[hkk];rfl,rfl⟩))
   split
   ·have hall:∀x∈p.kids.set 0 zbj,Dr 2 (zav x):=by rw[hkk];exact vset _ k set1
    exact .inl ⟨.inl hall,hall⟩
   split;exact .inr (.inl ⟨h6,hkk,keep _ _ _ _⟩)
   exact .inr (.inl ⟨h6,hkk,keep _ _ _ _⟩)
  generalize (mutP b p q).1=p1 at *;rcases first with ⟨_,hall⟩|⟨_,_,hro⟩|⟨a1,a2,a3⟩|⟨a1,a2,a3⟩
  ·exact .inl (one1 hall)
  ·exact zuy hro hs
  ·unfold mutP at hs hv ⊢;have kill1:∀o c n m v:Int,(o=0\/o=7\/o=1\/o=2\/o=5)->zas w 10 t (.mk o c n m v p1.kids)=true->False:=fun o c n m v ho h=>by
    have hop:=zeH h;rw[zbu] at hop;by_cases h5:o=5
    ·have:=(zd5 h h5).1;rw[zaF,a1] at this;simp at this
    ·have:=two h (by rw[zbu];omega);rw[zaF,a1] at this;simp at this
   have hm:=zeG (b:=b) (p:=q2+1) (l:=[0,7,1,2,5]) (by simp);simp only[List.mem_cons,List.not_mem_nil,or_false] at hm;split
   ·rename_i e;rw[if_pos e] at hs;exact(kill1 _ _ _ _ _ hm hs).elim
   rename_i e0;rw[if_neg e0] at hs hv;split
   ·rename_i e;rw[if_pos e] at hs;exact(kill1 _ _ _ _ _ a3 hs).elim
   rename_i e1;rw[if_neg e1] at hs hv;split
   ·rename_i e;rw[if_pos e] at hs;exact(kill1 _ _ _ _ _ a3 hs).elim
   rename_i e2;rw[if_neg e2] at hs hv;split
   ·rename_i e;rw[if_pos e] at hs hv;exfalso;have hop:=zeH hs;rw[zbu] at hop;by_cases h5:p1.op=5
    ·rw[h5,a1,a2] at hv;exact ztD hv (fun h0=>hz h6 h0)
    ·have:=two hs (by rw[zbu];omega);rw[zaF,a1] at this;simp at this
   rename_i e3;rw[if_neg e3] at hs hv;split
   ·exact .inl (by rw[zaF,a1];exact vset _ k set1)
   rename_i e4;rw[if_neg e4] at hs hv;split
   ·rename_i e;rw[if_pos e] at hs;exact(kill1 _ _ _ _ _ a3 hs).elim
   rename_i e5;rw[if_neg e5] at hs hv;exact(kill1 _ _ _ _ _ a3 hs).elim
  ·unfold mutP at hs hv ⊢;have kill6:∀c n m v:Int,zas w 10 t (.mk p1.op c n m v p1.kids)=true->False:=fun c n m v h=>by
    have:=(zdB h (by rw[zbu];exact a1)).1;rw[zaF,a2] at this;simp at this
   have hm:=zeG (b:=b) (p:=q2+1) (l:=[0,7,1,2,5]) (by simp);simp only[List.mem_cons,List.not_mem_nil,or_false] at hm;split
   ·rename_i e;rw[if_pos e] at hs hv;exfalso;have hop:=zeH hs;rw[zbu] at hop;by_cases h5:numV b (q2+1) [0,7,1,2,5]=5
    ·rw[h5,a2,a3] at hv;exact ztD hv (fun h0=>hz h6 h0)
    ·have:=two hs (by rw[zbu];omega);rw[zaF,a2] at this;simp at this
   rename_i e0;rw[if_neg e0] at hs hv;split
   ·rename_i e;rw[if_pos e] at hs;exact(kill6 _ _ _ _ hs).elim
   rename_i e1;rw[if_neg e1] at hs hv;split
   ·rename_i e;rw[if_pos e] at hs;exact(kill6 _ _ _ _ hs).elim
   rename_i e2;rw[if_neg e2] at hs hv;split
   ·rename_i e;rw[if_pos e] at hs;exfalso;have:=(zdB hs (by rw[zbu];exact a1)).1;rw[zaF,a2] at this;simp at this
   rename_i e3;rw[if_neg e3] at hs hv;split
   ·exact .inl (by rw[zaF,a2];exact vset _ k (fun y hy=>by simpa using hy))
   rename_i e4;rw[if_neg e4] at hs hv;split
   ·rename_i e;rw[if_pos e] at hs;exact(kill6 _ _ _ _ hs).elim
   rename_i e5;rw[if_neg e5] at hs hv;exact(kill6 _ _ _ _ hs).elim
end
theorem zpx {b:Str}{w:List Data}{t:Ty}:∀(n q:Nat),∀c∈(clL b w t n q).1,∃q',c.pat=zbg b w t q'
 |0,q,c,hc=>by simp[clL] at hc
 |n+1,q,c,hc=>by
  unfold clL at hc;rcases List.mem_cons.1 hc with rfl|hc
  ·exact⟨q,rfl⟩
  ·exact zpx n _ c hc
theorem zuL (b:Str):∀c∈(rnL b).1,∃q',c.pat=zbg b (zbt b 0) (typT b 0) q':=fun c hc=>by
 unfold rnL clS at hc;exact zpx _ _ c hc
def RootZ (p:Pat):Prop:=RootOk p/\(p.op=6->p.var=0->∃d,Dr d (nth p.kids 0))
theorem zsq (b:Str) (w:List Data) (t:Ty) (q:Nat):RootZ (zbg b w t q):=⟨ztV _ _ _ _,fun h6 h0=>ztW b w t q h6 h0⟩
theorem znW:RootZ anyC.pat:=⟨.inl fun k hk=>by simp[anyC,Pat.kids] at hk,fun h=>absurd h (by decide)⟩
theorem zuj (b:Str):∀c∈(dmL b).1,RootZ c.pat:=by
 have h:∀c∈(rnL b).1,RootZ c.pat:=fun c hc=>by
  obtain⟨q,e⟩:=zuL b c hc;rw[e];exact zsq _ _ _ _
 unfold dmL;split
 ·exact h
 ·split
  ·intro c hc;rcases List.mem_append.1 hc with hc|hc
   ·exact h c hc
   ·rw[List.mem_singleton.1 hc];exact znW
  ·exact h
theorem zui (b:Str){w:List Data}{t:Ty}:∀c∈dmC b,isP w t c.pat=true->RootOk c.pat:=by
 have h:=zuj b;unfold dmC;generalize (dmL b).1=l at *;generalize (dmL b).2=q;unfold mutC;split
 ·cases l with
  |nil=>intro c hc;simp at hc
  |cons y r=>
   intro c hc _;rcases List.mem_cons.1 hc with rfl|hc
   ·exact(h y (by simp)).1
   ·exact(h c (by simp[hc])).1
 split
 ·cases l with
  |nil=>intro c hc;simp at hc
  |cons y r=>
   intro c hc hp;rcases List.mem_cons.1 hc with rfl|hc
   ·exact zvZ (h y (by simp)).1 (h y (by simp)).2 hp
   ·exact(h c (by simp[hc])).1
 split
 ·intro c hc _;rcases List.mem_append.1 hc with hc|hc
  ·exact(h c hc).1
  ·rw[List.eq_of_mem_replicate hc];exact znW.1
 ·exact fun c hc _=>(h c hc).1
theorem zvJ {w:List Data} (hs:WSmall w) (hn:zgL w=true){a k:Int}{l:List Cl} (hl:ClsOk l) (hr:∀c∈l,isP w ⟨a,k⟩ c.pat=true->RootOk c.pat) (hv:zaR w ⟨a,k⟩ l=true):FewC w ⟨a,k⟩ l:=fun c hc hp res h=>by
 obtain⟨hsp,hin,hsh,_⟩:=zfR hs hl hv;have h1:=(hsh c hc).1;cases ho:zbi c.pat with
 |true=>
  have e1:zbk c.pat=zau (zav c.pat):=by unfold zbk;rw[if_pos (by unfold zbi at ho;exact of_decide_eq_true ho)]
  have h2:=zew h1;rw[e1] at h h2;exact zum hsp hn hin (ztP (hr c hc hp) h1) h2 h
 |false=>
  have e1:zbk c.pat=[]:=by unfold zbk;rw[if_neg (by unfold zbi at ho;exact of_decide_eq_false ho)]
  rw[e1] at h;rw[sepV,sepQ] at h;cases h;simp
theorem znT {w:List Data}{t:Ty}{l:List Cl}{n:Nat} (hl:l.length<=8) (hn:n<=l.length) (hc:∀c∈l,zas w 10 t c.pat=true/\c.pat.ok):
  FnD Tryz.prog 228 [.d (zb4 l),.d (.i (n:Int))] [] (.tup [.d (zad ((za1 (l.take n) []).getD [])),.d (.bool (za1 (l.take n) []).isSome)]) []:=by
 have hpl:=fun(i:Nat)=>zgz (zav (nth l i).pat);have hge:=fun(i:Nat)=>zoC (p:=(nth l i).pat);have htl:(l.take n).length=n:=by rw[List.length_take];omega
 have hnt:∀i,i<n->nth (l.take n) i=nth l i:=fun i hi=>by
  rw[zaI (l:=l.take n) (by omega),zaI (l:=l) (by omega),List.getElem_take]
 have hbad:∀i o,i<n->(nth l i).g.op=0->zbi (nth l i).pat=false->za1 ((l.take n).drop i) o=none:=fun i o hi h1 h2=>zlW (by omega) (by rw[hnt i hi];exact h1) (by rw[hnt i hi];exact h2);have hmore:∀i o,i<n->(nth l i).g.op=0->zbi (nth l i).pat=true->za1 ((l.take n).drop i) o=za1 ((l.take n).drop (i+1)) (o++zbk (nth l i).pat):=fun i o hi h1 h2=>by
  have:=zhO (l:=l.take n) (out:=o) (i:=i) (by omega) (by rw[hnt i hi];exact h1) (by rw[hnt i hi];exact h2);rw[hnt i hi] at this;exact this
 have hskip:∀i o,i<n->¬(nth l i).g.op=0->za1 ((l.take n).drop i) o=za1 ((l.take n).drop (i+1)) o:=fun i o hi h1=>zhP (by omega) (by rw[hnt i hi];exact h1);have hend:∀i o,n<=i->za1 ((l.take n).drop i) o=some o:=fun i o hi=>zlX (by omega);refine bd Tryz.f228 35 [] [] fun w0 F0 own kept hk=>?_;refine xbg 9 sl34 .none rfl rfl ?_;refine ev ?_;refine xak (ι:=Nat×List Pat) hk (fun s=>[(7,.d (.i (s.1:Int))),(6,.gl 9 (Pat.cs s.2))]) [4,5,8,10,11,12,13,14,15,16,17,18,19,20,21,22,23,24,25,26,27,28,29,30,31,32,33] (fun s=>[(9,some (.tok ((Pat.cs s.2)).length 6))]) (fun s=>s.1<=n/\za1 ((l.take n).drop s.1) s.2=za1 (l.take n) []/\s.2.length<=40*s.1) (fun s=>n-s.1) (0,[]) ⟨by simp,rfl,by simp⟩ ⟨⟨_,rfl,xaq ?_⟩,⟨⟨_,rfl,LeA.glg ?_⟩,trivial⟩⟩ ⟨zab ?_,trivial⟩ (fun x=>rfl) (fun s hg1=>?_);iterate 3 focus (rfl)
 refine evc [] [] ?_;refine sq ?_ ?_<;>intro h1 h1p h1s<;>(try simp only[Q,Pat.cs_len,Int.natCast_inj] at h1p);refine xaS sl26 .none rfl rfl rfl rfl (zap (by omega)) rfl ?_;refine ev ?_;refine sq ?_ ?_<;>intro h2 h2p h2s<;>(try simp only[Q,Pat.cs_len,Int.natCast_inj] at h2p);refine ar ?_;refine xah ((s.1+1,if (nth l s.1).g.op=0 then s.2++za2 (zav (nth l s.1).pat) else s.2)) ⟨(by
    by_cases hz:(nth l s.1).g.op=0
    ·have hp:zbi (nth l s.1).pat=true:=by
      cases hp:zbi (nth l s.1).pat with
      |true=>rfl
      |false=>have:=(hge s.1).2 hp;exfalso;first|omega|contradiction
     have h9:=zek (nth l s.1).pat;have e:=zj5 hp;refine⟨by dsimp only;omega, ?_, ?_⟩
     ·dsimp only;rw[if_pos hz,e,<-hmore s.1 s.2 (by omega) hz hp];exact hg1.2.1
     ·dsimp only;rw[if_pos hz,e,xaa];omega
    ·refine⟨by dsimp only;omega, ?_, ?_⟩
     ·dsimp only;rw[if_neg hz,<-hskip s.1 s.2 (by omega) hz];exact hg1.2.1
     ·dsimp only;rw[if_neg hz];omega),(by dsimp only;omega),sx ⟨⟨_,rfl,xaq ?_⟩,⟨⟨_,rfl,LeA.glg ?_⟩,trivial⟩⟩ ⟨zab ?_,trivial⟩⟩
 iterate 3 focus (first|rfl|(dsimp only;rw[if_neg (by assumption)];done))
 refine xaS sl26 .none rfl rfl rfl rfl (zap (by omega)) rfl ?_;refine ev ?_;refine wc zlE (zhH (hc _ (zac (i:=s.1) (by omega))).1 (hc _ (zac (by omega))).2) rfl rfl ?_;refine ev ?_;refine sq ?_ ?_<;>intro h3 h3p h3s<;>(try simp only[Q,Pat.cs_len,Int.natCast_inj] at h3p);refine rn0 (r2 rfl rfl) (.tup (.cons (.nild ?_) (.cons (.eqd ?_) .nil)));rotate_left 2;refine ap sl34 zz36 rfl rfl rfl (by exact zbD _) (by have:=hpl s.1;simp only[Pat.cs_len];omega) ?_;refine ev ?_;refine ar ?_;refine xah ((s.1+1,if (nth l s.1).g.op=0 then s.2++za2 (zav (nth l s.1).pat) else s.2)) ⟨(by
    by_cases hz:(nth l s.1).g.op=0
    ·have hp:zbi (nth l s.1).pat=true:=by
      cases hp:zbi (nth l s.1).pat with
      |true=>rfl
      |false=>have:=(hge s.1).2 hp;exfalso;first|omega|contradiction
     have h9:=zek (nth l s.1).pat;have e:=zj5 hp;refine⟨by dsimp only;omega, ?_, ?_⟩
     ·dsimp only;rw[if_pos hz,e,<-hmore s.1 s.2 (by omega) hz hp];exact hg1.2.1
     ·dsimp only;rw[if_pos hz,e,xaa];omega
    ·refine⟨by dsimp only;omega, ?_, ?_⟩
     ·dsimp only;rw[if_neg hz,<-hskip s.1 s.2 (by omega) hz];exact hg1.2.1
     ·dsimp only;rw[if_neg hz];omega),(by dsimp only;omega),sx ⟨⟨_,rfl,xaq ?_⟩,⟨⟨_,rfl,LeA.glg ?_⟩,trivial⟩⟩ ⟨zab ?_,trivial⟩⟩
 iterate 3 focus (first|rfl|(dsimp only;rw[if_pos (by assumption),xat,xat,xat,xaf];done)|(dsimp only;rw[if_pos (by assumption)];simp[Pat.cs_len];done))
 refine rn0 (r2 rfl rfl) (.tup (.cons (.gld ?_) (.cons (.eqd ?_) .nil)));rotate_left 2;all_goals (first|(rw[<-hg1.2.1,hbad s.1 s.2 (by omega) (by assumption) ((hge s.1).1 (by omega))];rfl)|(rw[<-hg1.2.1,hend s.1 s.2 (by omega)];rfl))
theorem zoZ {w:List Data} (hsp:Spa w){a k:Int} (hin:InS (w.length*4) ⟨a,k⟩){l:List Cl}{n:Nat}{mine:List Pat} (h8:l.length<=8) (hn:n<=l.length) (hsh:∀c∈l,zas w 10 ⟨a,k⟩ c.pat=true/\c.pat.ok)
  (hmp:∀x∈mine,zae w 11 ⟨a,k⟩ x=true) (hm4:mine.length<=400):
  FnD Tryz.prog 131 [.d (zam w),.agg [.d (.i a),.d (.i k)],.d (zad mine),.d (zb4 l),.d (.i (n:Int))] [] (.tup [.d (zad ((zgt w ⟨a,k⟩ mine (l.take n)).getD [])),.d (.bool (zgt w ⟨a,k⟩ mine (l.take n)).isSome)]) []:=by
 have hco:=znT (w:=w) (t:=⟨a,k⟩) h8 hn hsh;cases hq:za1 (l.take n) [] with
 |none=>
  rw[hq] at hco;rw[zrL hq];refine bd Tryz.f131 42 [] [] fun w0 F0 own kept hk=>?_;refine bx 3006 ?_;refine ev ?_;refine wc zsN (hco) rfl rfl ?_;refine ev ?_;refine sq ?_ ?_<;>intro h1 h1p h1s;refine xbf sl34 .none rfl ?_;refine ev ?_;refine rn0 (r2 rfl rfl) (.tup (.cons (.eqd ?_) (.cons (.eqd ?_) .nil)));rotate_left 2;exfalso;exact absurd h1 (by simp);all_goals (rfl)
 |some away=>
  rw[hq] at hco;rw[zqo hq];obtain⟨p1,p2⟩:=zeu (l.take n) [] away (fun c hc=>(hsh c (List.mem_of_mem_take hc)).1) (by simp) hq;have hwo:=zf4 hsp hin (l:=mine) (away:=away) hmp p2 hm4 (by rw[List.length_take] at p1;simp at p1;omega);have hok:=zne hsp hin hmp hm4 p2;have hre:=zm4 hsp hin (l:=(zay w ⟨a,k⟩ mine away).getD []) (ok:=(zay w ⟨a,k⟩ mine away).isSome) hok.2 (by omega);have hem:=zqR (w:=w) (t:=⟨a,k⟩) (m:=mine) (away:=away);generalize ((zay w ⟨a,k⟩ mine away).getD []).all (isP w ⟨a,k⟩)=q at hre ⊢;generalize (zay w ⟨a,k⟩ mine away).isSome=q2 at hre hwo hem ⊢;refine bd Tryz.f131 42 [] [] fun w0 F0 own kept hk=>?_;refine bx 3006 ?_;refine ev ?_;refine wc zsN (hco) rfl rfl ?_;refine ev ?_;refine sq ?_ ?_<;>intro h1 h1p h1s;exfalso;exact absurd h1 (by simp);refine wc zlF (zfk hsp.dp) rfl rfl ?_;refine evd [] [] ?_;refine wc zsE (hwo) rfl rfl ?_;refine evd [] [] ?_;refine dr ?_;refine wc zwr (hre) rfl rfl ?_;refine ev ?_;refine rn0 (r2 rfl rfl) (.tup (.cons (.eqd ?_) (.cons (.eqd ?_) .nil)));rotate_left 2;all_goals ((cases q<;>cases q2<;>first|rfl|(rw[hem rfl];rfl)))
theorem zhj {w:List Data} (hs:WSmall w){a k:Int}{l:List Cl}{i:Int} (hl:ClsOk l) (hz:ClsSz l) (hfew:zaR w ⟨a,k⟩ l=true->FewC w ⟨a,k⟩ l):
  FnD Tryz.prog 61 [.d (zam w),.agg [.d (.i a),.d (.i k)],.d (zb4 l),.d (.i i)] [] (.tup [.d (zad ((zbl w a k l i).getD [])),.d (.bool (zbl w a k l i).isSome)]) []:=by
 have hcv:=zfj hs (a:=a) (k:=k) hl hz;by_cases hv:zaR w ⟨a,k⟩ l=true/\0<=i/\i<(l.length:Int)
 ·have hm:zbl w a k l i=zd2 w ⟨a,k⟩ l i.toNat:=by unfold zbl;rw[if_pos hv]
  rw[hm];obtain⟨hv,h0,h1⟩:=hv;obtain⟨n,rfl⟩:=Int.eq_ofNat_of_zero_le h0;clear hm h0;rw[show((n:Int)).toNat=n from rfl];have hn:n<l.length:=by omega
  obtain⟨hsp,hin,hsh,h8,hip,_⟩:=zfR hs hl hv;rw[hv] at hcv;have hpa:=zhH (hsh _ (zac hn)).1 (hsh _ (zac hn)).2;have hta:=zfk hsp.dp;cases hp:zbi (nth l n).pat with
  |false=>
   rw[zlk hp];have hge:=zoC.2 hp;refine bd Tryz.f61 59 [] [] fun w0 F0 own kept hk=>?_;refine bx 3005 ?_;refine ev ?_;refine wc zkf (hcv) rfl rfl ?_;refine ev ?_;refine sq ?_ ?_<;>intro h1 h1p h1s;refine sqT ?_;refine sqT ?_;exfalso;contradiction;refine sq ?_ ?_<;>intro h3 h3p h3s;refine sqT ?_;exfalso;contradiction;refine sq ?_ ?_<;>intro h5 h5p h5s;try simp only[Q,xac,Pat.cs_len] at h5p
   exfalso;omega;refine xaS (i:=n) sl26 .none rfl rfl rfl rfl (zap hn) rfl ?_;refine ev ?_;refine wc zlE (hpa) rfl rfl ?_;refine ev ?_;refine sq ?_ ?_<;>intro h6 h6p h6s;refine xbf sl34 .none rfl ?_;refine ev ?_;refine rn0 (r2 rfl rfl) (.tup (.cons (.eqd ?_) (.cons (.eqd ?_) .nil)));rotate_left 2;try simp only[Q,xac,Pat.cs_len] at h6p
   exfalso;contradiction;all_goals (rfl)
  |true=>
   rw[zj5 hp] at hpa;have hpp:=zew (hsh _ (zac hn)).1;have hpl:=zek (nth l n).pat;have hse:=zm3 hsp hin hpp (by omega) (hfew hv _ (zac hn) (hip _ (zac hn)));cases hz2:sepV w ⟨a,k⟩ (zbk (nth l n).pat) with
   |none=>
    rw[ziM hp hz2];rw[hz2] at hse;refine bd Tryz.f61 59 [] [] fun w0 F0 own kept hk=>?_;refine bx 3005 ?_;refine ev ?_;refine wc zkf (hcv) rfl rfl ?_;refine ev ?_;refine sq ?_ ?_<;>intro h1 h1p h1s;refine sqT ?_;refine sqT ?_;exfalso;contradiction;refine sq ?_ ?_<;>intro h3 h3p h3s;refine sqT ?_;exfalso;contradiction;refine sq ?_ ?_<;>intro h5 h5p h5s;try simp only[Q,xac,Pat.cs_len] at h5p
    exfalso;omega;refine xaS (i:=n) sl26 .none rfl rfl rfl rfl (zap hn) rfl ?_;refine ev ?_;refine wc zlE (hpa) rfl rfl ?_;refine ev ?_;refine sq ?_ ?_<;>intro h6 h6p h6s;try simp only[Q,xac,Pat.cs_len] at h6p
    exfalso;omega;refine wc zlF (hta) rfl rfl ?_;refine evd [] [] ?_;refine wc zsC (hse) rfl rfl ?_;refine evd [] [] ?_;refine dr ?_;refine sq ?_ ?_<;>intro h7 h7p h7s;refine xbf sl34 .none rfl ?_;refine ev ?_;refine rn0 (r2 rfl rfl) (.tup (.cons (.eqd ?_) (.cons (.eqd ?_) .nil)));rotate_left 2;focus (exfalso;contradiction)
    all_goals (rfl)
   |some mine=>
    rw[ziN hp hz2];rw[hz2] at hse;have hmp:=zhD _ [] [] (by simp) hpp (by simp) hz2;have hm4:mine.length<=400:=hfew hv _ (zac hn) (hip _ (zac hn)) mine hz2;have hre:=zoZ hsp hin (n:=n) h8 (by omega) hsh hmp hm4;refine bd Tryz.f61 59 [] [] fun w0 F0 own kept hk=>?_;refine bx 3005 ?_;refine ev ?_;refine wc zkf (hcv) rfl rfl ?_;refine ev ?_;refine sq ?_ ?_<;>intro h1 h1p h1s;refine sqT ?_;refine sqT ?_;exfalso;contradiction;refine sq ?_ ?_<;>intro h3 h3p h3s;refine sqT ?_;exfalso;contradiction;refine sq ?_ ?_<;>intro h5 h5p h5s;try simp only[Q,xac,Pat.cs_len] at h5p
    exfalso;omega;refine xaS (i:=n) sl26 .none rfl rfl rfl rfl (zap hn) rfl ?_;refine ev ?_;refine wc zlE (hpa) rfl rfl ?_;refine ev ?_;refine sq ?_ ?_<;>intro h6 h6p h6s;try simp only[Q,xac,Pat.cs_len] at h6p
    exfalso;omega;refine wc zlF (hta) rfl rfl ?_;refine evd [] [] ?_;refine wc zsC (hse) rfl rfl ?_;refine evd [] [] ?_;refine dr ?_;refine sq ?_ ?_<;>intro h7 h7p h7s;focus (exfalso;contradiction)
    refine wc zwp (hre) rfl rfl ?_;refine ev ?_;refine rn0 (r2 rfl rfl) (.tup (.cons (.eqd ?_) (.cons (.eqd ?_) .nil)));rotate_left 2;all_goals (rfl)
 ·have hm:zbl w a k l i=none:=by unfold zbl;rw[if_neg hv]
  rw[hm];generalize zaR w ⟨a,k⟩ l=b2 at *;refine bd Tryz.f61 59 [] [] fun w0 F0 own kept hk=>?_;refine bx 3005 ?_;refine ev ?_;refine wc zkf (hcv) rfl rfl ?_;refine ev ?_;refine sq ?_ ?_<;>intro h1 h1p h1s;refine sqT ?_;refine sqT ?_;refine xbf sl34 .none rfl ?_;refine ev ?_;refine rn0 (r2 rfl rfl) (.tup (.cons (.eqd ?_) (.cons (.eqd ?_) .nil)));rotate_left 2;refine sq ?_ ?_<;>intro h3 h3p h3s;refine sqT ?_;refine xbf sl34 .none rfl ?_;refine ev ?_;refine rn0 (r2 rfl rfl) (.tup (.cons (.eqd ?_) (.cons (.eqd ?_) .nil)));rotate_left 2;refine sq ?_ ?_<;>intro h5 h5p h5s;refine xbf sl34 .none rfl ?_;refine ev ?_;refine rn0 (r2 rfl rfl) (.tup (.cons (.eqd ?_) (.cons (.eqd ?_) .nil)));rotate_left 2;exfalso;cases b2<;>first|contradiction|(simp at *;omega)
  all_goals (rfl)
def redN (w:List Data) (a k:Int) (l:List Cl):Nat->Option (List Int)
 |0=>some []
 |n+1=>match redN w a k l n with
  |none=>none
  |some r=>match zbl w a k l (n:Int) with
   |none=>none
   |some ps=>some (if ps.length=0 then r++[(n:Int)] else r)
def redV (w:List Data) (a k:Int) (l:List Cl):Option (List Int):=if zaR w ⟨a,k⟩ l=true then redN w a k l l.length else none
section
variable {w:List Data}{a k:Int}{l:List Cl}
theorem zhB {i:Nat}{r:List Int} (h:redN w a k l i=some r) (h2:(zbl w a k l (i:Int)).isSome=true):redN w a k l (i+1)=some (if ((zbl w a k l (i:Int)).getD []).length=0 then r++[(i:Int)] else r):=by
 obtain⟨ps,hp⟩:=Option.isSome_iff_exists.1 h2;rw[redN,h,hp];rfl
theorem ziO {i:Nat} (h2:(zbl w a k l (i:Int)).isSome=false):∀ {n:Nat},i<n->redN w a k l n=none
 |0,h=>by omega
 |n+1,h=>by
  rw[redN];cases hr:redN w a k l n with
  |none=>rfl
  |some r=>
   by_cases e:i=n
   ·subst e;have hp:zbl w a k l (i:Int)=none:=by simpa using h2
    rw[hp]
   ·rw[ziO h2 (show i<n by omega)] at hr;cases hr
theorem zfD:∀ {n:Nat}{r:List Int},redN w a k l n=some r->r.length<=n
 |0,r,h=>by rw[redN] at h;cases h;simp
 |n+1,r,h=>by
  rw[redN] at h;cases hr:redN w a k l n with
  |none=>rw[hr] at h;cases h
  |some r0=>
   have h0:=zfD hr;rw[hr] at h;dsimp only at h;cases hp:zbl w a k l (n:Int) with
   |none=>rw[hp] at h;cases h
   |some ps=>
    rw[hp] at h;dsimp only at h;cases h
    split
    ·simp;omega
    ·omega
theorem zqn:∀ {n:Nat}{r:List Int}{i:Nat},redN w a k l n=some r->i<n->zbl w a k l (i:Int)=some []->(i:Int)∈r
 |0,r,i,_,h,_=>by omega
 |n+1,r,i,h,hi,hp0=>by
  rw[redN] at h;cases hr:redN w a k l n with
  |none=>rw[hr] at h;cases h
  |some r0=>
   rw[hr] at h;dsimp only at h;cases hp:zbl w a k l (n:Int) with
   |none=>rw[hp] at h;cases h
   |some ps=>
    rw[hp] at h;dsimp only at h;cases h
    by_cases e:i=n
    ·subst e;rw[hp] at hp0;cases hp0;simp
    ·have:=zqn hr (show i<n by omega) hp0;split
     ·exact List.mem_append_left _ this
     ·exact this
theorem ztJ:∀ {n:Nat}{r:List Int}{i:Nat},redN w a k l n=some r->i<n->∃ps,zbl w a k l (i:Int)=some ps:=fun {n r i} h hi=>by
 cases hp:zbl w a k l (i:Int) with
 |some ps=>exact⟨ps,rfl⟩
 |none=>rw[ziO (by rw[hp];rfl) hi] at h;cases h
theorem zgZ (hs:WSmall w) (hl:ClsOk l) (hfew:zaR w ⟨a,k⟩ l=true->FewC w ⟨a,k⟩ l):
  FnD Tryz.prog 12 [.d (zam w),.agg [.d (.i a),.d (.i k)],.d (zb4 l)] [] (.tup [.d (zbB ((redV w a k l).getD [])),.d (.bool (redV w a k l).isSome)]) []:=by
 have hcv:=ze7 hs (a:=a) (k:=k) hl;have hi:=fun i:Int=>zhg hs (a:=a) (k:=k) (i:=i) hl hfew;have hl1:=hl.1;by_cases hv:zaR w ⟨a,k⟩ l=true
 ·have hm:redV w a k l=redN w a k l l.length:=by unfold redV;rw[if_pos hv]
  rw[hm];rw[hv] at hcv;clear hm hfew;have hbad:∀i:Nat,i<l.length->(zbl w a k l (i:Int)).isSome=false->redN w a k l l.length=none:=fun i hi h=>ziO h hi;refine bd Tryz.f12 41 [8] [] fun w0 F0 own kept hk=>?_;refine bx 3004 ?_;refine evs [8] [] ?_;refine wc zir (hcv) rfl rfl ?_;refine evs [8] [] ?_;refine sq ?_ ?_<;>intro h1 h1p h1s<;>(try simp only[Q,Pat.cs_len,Int.natCast_inj,xac] at h1p);focus (exfalso;first|contradiction|(simp at *;done))
  refine xaD 1 1 .none rfl rfl ?_;refine tv ?_;refine xak (ι:=Nat×List Int) hk (fun s=>[(19,.d (.i (s.1:Int))),(8,.gl 1 (s.2.map fun n=>[D.i n]))]) [6,7,9,10,11,20,21,22,23,24,25,26,27,28,29,30,31,32,33,34,35,36,37,38,39] (fun s=>[(1,some (.tok ((s.2.map fun n=>[D.i n])).length 1))]) (fun s=>s.1<=l.length/\redN w a k l s.1=some s.2/\s.2.length<=s.1) (fun s=>l.length-s.1) (0,[]) ⟨by simp,rfl,by simp⟩ ⟨⟨_,rfl,xaq ?_⟩,⟨⟨_,rfl,LeA.glg ?_⟩,trivial⟩⟩ ⟨zab ?_,trivial⟩ (fun x=>rfl) (fun s hg1=>?_);iterate 3 focus (first|rfl|(dsimp only;rw[if_pos (by omega),xaf];done)|(dsimp only;rw[if_neg (by omega)];done)|(dsimp only;rw[if_pos (by omega)];simp;done)|(simp;done)|omega|(simp;omega))
  refine evc [8] [] ?_;refine sq ?_ ?_<;>intro h2 h2p h2s<;>(try simp only[Q,Pat.cs_len,Int.natCast_inj,xac] at h2p);refine wc zxF (hi (s.1:Int)) rfl rfl ?_;refine evs [8] [] ?_;refine sq ?_ ?_<;>intro h3 h3p h3s<;>(try simp only[Q,Pat.cs_len,Int.natCast_inj,xac] at h3p);refine rn0 (r2 rfl rfl) (.tup (.cons (.nild ?_) (.cons (.eqd ?_) .nil)));rotate_left 2;refine sq ?_ ?_<;>intro h4 h4p h4s<;>(try simp only[Q,Pat.cs_len,Int.natCast_inj,xac] at h4p);refine si [0] [_] sl29 tz3 ?_;refine ap sl29 zz3 rfl rfl rfl (by intro x hx;simp at hx;subst hx;rfl) (by simp;omega) ?_;refine asg ?_;refine tv ?_;refine ar ?_;refine xah ((s.1+1,if ((zbl w a k l (s.1:Int)).getD []).length=0 then s.2++[(s.1:Int)] else s.2)) ⟨(by
      have e:=zhB hg1.2.1 (by first|assumption|simpa using h3p);exact⟨by dsimp only;omega,e,zfD e⟩),(by dsimp only;omega),sx ⟨⟨_,rfl,xaq ?_⟩,⟨⟨_,rfl,LeA.glg ?_⟩,trivial⟩⟩ ⟨zab ?_,trivial⟩⟩
  iterate 3 focus (first|rfl|(dsimp only;rw[if_pos (by omega),xaf];done)|(dsimp only;rw[if_neg (by omega)];done)|(dsimp only;rw[if_pos (by omega)];simp;done)|(simp;done)|omega|(simp;omega))
  refine ar ?_;refine xah ((s.1+1,if ((zbl w a k l (s.1:Int)).getD []).length=0 then s.2++[(s.1:Int)] else s.2)) ⟨(by
      have e:=zhB hg1.2.1 (by first|assumption|simpa using h3p);exact⟨by dsimp only;omega,e,zfD e⟩),(by dsimp only;omega),sx ⟨⟨_,rfl,xaq ?_⟩,⟨⟨_,rfl,LeA.glg ?_⟩,trivial⟩⟩ ⟨zab ?_,trivial⟩⟩
  iterate 3 focus (first|rfl|(dsimp only;rw[if_pos (by omega),xaf];done)|(dsimp only;rw[if_neg (by omega)];done)|(dsimp only;rw[if_pos (by omega)];simp;done)|(simp;done)|omega|(simp;omega))
  refine rn0 (r2 rfl rfl) (.tup (.cons (.gld ?_) (.cons (.eqd ?_) .nil)));rotate_left 2;all_goals (first|rfl|(rw[hbad s.1 (by omega) (by first|assumption|simpa using h3p)];rfl)|(rw[show l.length=s.1 by omega,hg1.2.1];rfl))
 ·have hm:redV w a k l=none:=by unfold redV;rw[if_neg hv]
  have hv':zaR w ⟨a,k⟩ l=false:=by simpa using hv
  rw[hm];rw[hv'] at hcv;refine bd Tryz.f12 41 [] [] fun w0 F0 own kept hk=>?_;refine bx 3004 ?_;refine ev ?_;refine wc zir (hcv) rfl rfl ?_;refine ev ?_;refine sq ?_ ?_<;>intro h1 h1p h1s<;>(try simp only[Q] at h1p);refine rn0 (r2 rfl rfl) (.tup (.cons (.nild ?_) (.cons (.eqd ?_) .nil)));rotate_left 2;focus (exfalso;first|contradiction|(simp at *;done))
  all_goals (rfl)
theorem zha (hs:WSmall w) (hl:ClsOk l) (hz:ClsSz l) (hfew:zaR w ⟨a,k⟩ l=true->FewC w ⟨a,k⟩ l):
  FnD Tryz.prog 13 [.d (zam w),.agg [.d (.i a),.d (.i k)],.d (zb4 l)] [] (.tup [.d (zbB ((redV w a k l).getD [])),.d (.bool (redV w a k l).isSome)]) []:=by
 have hcv:=zfj hs (a:=a) (k:=k) hl hz;have hi:=fun i:Int=>zhj hs (a:=a) (k:=k) (i:=i) hl hz hfew;have hl1:=hl.1;by_cases hv:zaR w ⟨a,k⟩ l=true
 ·have hm:redV w a k l=redN w a k l l.length:=by unfold redV;rw[if_pos hv]
  rw[hm];rw[hv] at hcv;clear hm hfew;have hbad:∀i:Nat,i<l.length->(zbl w a k l (i:Int)).isSome=false->redN w a k l l.length=none:=fun i hi h=>ziO h hi;refine bd Tryz.f13 44 [] [] fun w0 F0 own kept hk=>?_;refine bx 3004 ?_;refine ev ?_;refine xbg 1 sl29 .none rfl rfl ?_;refine ev ?_;refine wc zkf (hcv) rfl rfl ?_;refine ev ?_;refine sq ?_ ?_<;>intro h1 h1p h1s<;>(try simp only[Q,Pat.cs_len,Int.natCast_inj,xac] at h1p);focus (exfalso;first|contradiction|(simp at *;done))
  refine xak (ι:=Nat×List Int) hk (fun s=>[(9,.d (.i (s.1:Int))),(8,.gl 1 (s.2.map fun n=>[D.i n]))]) [6,7,10,11,19,20,21,22,23,24,25,26,27,28,29,30,31,32,33,34,35,36,37,38,39,40,41,42] (fun s=>[(1,some (.tok ((s.2.map fun n=>[D.i n])).length 1))]) (fun s=>s.1<=l.length/\redN w a k l s.1=some s.2/\s.2.length<=s.1) (fun s=>l.length-s.1) (0,[]) ⟨by simp,rfl,by simp⟩ ⟨⟨_,rfl,xaq ?_⟩,⟨⟨_,rfl,LeA.glg ?_⟩,trivial⟩⟩ ⟨zab ?_,trivial⟩ (fun x=>rfl) (fun s hg1=>?_);iterate 3 focus (first|rfl|(dsimp only;rw[if_pos (by omega),xaf];done)|(dsimp only;rw[if_neg (by omega)];done)|(dsimp only;rw[if_pos (by omega)];simp;done)|(simp;done)|omega|(simp;omega))
  refine evc [] [] ?_;refine sq ?_ ?_<;>intro h2 h2p h2s<;>(try simp only[Q,Pat.cs_len,Int.natCast_inj,xac] at h2p);refine wc zxG (hi (s.1:Int)) rfl rfl ?_;refine ev ?_;refine sq ?_ ?_<;>intro h3 h3p h3s<;>(try simp only[Q,Pat.cs_len,Int.natCast_inj,xac] at h3p);refine xbf sl29 .none rfl ?_;refine ev ?_;refine rn0 (r2 rfl rfl) (.tup (.cons (.eqd ?_) (.cons (.eqd ?_) .nil)));rotate_left 2;refine sq ?_ ?_<;>intro h4 h4p h4s<;>(try simp only[Q,Pat.cs_len,Int.natCast_inj,xac] at h4p);refine si [0] [_] sl29 tz3 ?_;refine ap sl29 zz3 rfl rfl rfl (by intro x hx;simp at hx;subst hx;rfl) (by simp;omega) ?_;refine ev ?_;refine ar ?_;refine xah ((s.1+1,if ((zbl w a k l (s.1:Int)).getD []).length=0 then s.2++[(s.1:Int)] else s.2)) ⟨(by
      have e:=zhB hg1.2.1 (by first|assumption|simpa using h3p);exact⟨by dsimp only;omega,e,zfD e⟩),(by dsimp only;omega),sx ⟨⟨_,rfl,xaq ?_⟩,⟨⟨_,rfl,LeA.glg ?_⟩,trivial⟩⟩ ⟨zab ?_,trivial⟩⟩
  iterate 3 focus (first|rfl|(dsimp only;rw[if_pos (by omega),xaf];done)|(dsimp only;rw[if_neg (by omega)];done)|(dsimp only;rw[if_pos (by omega)];simp;done)|(simp;done)|omega|(simp;omega))
  refine ar ?_;refine xah ((s.1+1,if ((zbl w a k l (s.1:Int)).getD []).length=0 then s.2++[(s.1:Int)] else s.2)) ⟨(by
      have e:=zhB hg1.2.1 (by first|assumption|simpa using h3p);exact⟨by dsimp only;omega,e,zfD e⟩),(by dsimp only;omega),sx ⟨⟨_,rfl,xaq ?_⟩,⟨⟨_,rfl,LeA.glg ?_⟩,trivial⟩⟩ ⟨zab ?_,trivial⟩⟩
  iterate 3 focus (first|rfl|(dsimp only;rw[if_pos (by omega),xaf];done)|(dsimp only;rw[if_neg (by omega)];done)|(dsimp only;rw[if_pos (by omega)];simp;done)|(simp;done)|omega|(simp;omega))
  refine rn0 (r2 rfl rfl) (.tup (.cons (.gld ?_) (.cons (.eqd ?_) .nil)));rotate_left 2;all_goals (first|rfl|(rw[hbad s.1 (by omega) (by first|assumption|simpa using h3p)];rfl)|(rw[show l.length=s.1 by omega,hg1.2.1];rfl))
 ·have hm:redV w a k l=none:=by unfold redV;rw[if_neg hv]
  have hv':zaR w ⟨a,k⟩ l=false:=by simpa using hv
  rw[hm];rw[hv'] at hcv;refine bd Tryz.f13 44 [] [] fun w0 F0 own kept hk=>?_;refine bx 3004 ?_;refine ev ?_;refine xbg 1 sl29 .none rfl rfl ?_;refine ev ?_;refine wc zkf (hcv) rfl rfl ?_;refine ev ?_;refine sq ?_ ?_<;>intro h1 h1p h1s<;>(try simp only[Q] at h1p);refine rn0 (r2 rfl rfl) (.tup (.cons (.gld ?_) (.cons (.eqd ?_) .nil)));rotate_left 2;focus (exfalso;first|contradiction|(simp at *;done))
  all_goals (rfl)
end
theorem zgy {xs:List Pat}{f:Nat} (hs:xs.length<=1000000000000) (hcal:Callee Tryz.prog f)
  (hf:∀p∈xs,FnD Tryz.prog f [.agg [.d (.i p.op),.d (.i p.ctor),.d (.i p.n),.d (.i p.m),.d (.i p.var),.d (zad p.kids)],.agg [.d (.i p.op),.d (.i p.ctor),.d (.i p.n),.d (.i p.m),.d (.i p.var),.d (zad p.kids)]] [] (.d (.bool true)) []):
  FnD Tryz.prog 62 [.d (zad xs),.d (zad xs),.fn f []] [] (.d (.bool true)) []:=by
 refine bd Tryz.f62 32 [] [] fun w0 F0 own kept hk=>?_;refine sq ?_ ?_<;>intro h1 h1p h1s<;>(try simp only[Q,Pat.cs_len] at h1p);exfalso;simp at h1;refine xak (ι:=List (Pat)×List (Pat)) hk (fun x=>[(17,.d (.i (x.1.length:Int)))]) [6,7,8,9,18,19,20,21,22,23,24,25,26,27,28,29,30,31] (fun x=>[]) (fun x=>x.1++x.2=xs) (fun x=>x.2.length) ([],xs) (by simp) ⟨⟨_,rfl,xaq ?_⟩,trivial⟩ trivial (fun x=>rfl) (fun x hg1=>?_);focus ((simp_all;done))
 obtain⟨pre,rest⟩:=x;dsimp only at hg1 ⊢;refine evc [] [] ?_;refine sq ?_ ?_<;>intro h2 h2p h2s<;>(try simp only[Q,Pat.cs_len] at h2p);rcases rest with _|⟨y,rest⟩
 ·exfalso;simp_all
 refine xaS sl34 .none rfl rfl rfl rfl (Pat.cs_at' hg1) rfl ?_;refine ev ?_;refine ab 3008 tz36 ?_;refine ev ?_;refine so ty36 ?_;refine tv ?_;refine xaS sl34 .none rfl rfl rfl rfl (Pat.cs_at' hg1) rfl ?_;refine ev ?_;refine ab 3009 tz36 ?_;refine so ty36 ?_;refine tv ?_;refine xaH (cr:=[]) hcal (hf y (by rw[<-hg1];simp)) rfl .none rfl rfl rfl (LeL.refl _) trivial rfl rfl rfl ?_;refine ev ?_;refine sq ?_ ?_<;>intro h3 h3p h3s<;>(try simp only[Q,Pat.cs_len] at h3p);exfalso;simp at h3;refine ar ?_;refine xah ((pre++[y],rest)) ⟨(by have hz:=hg1;rw[<-hz];simp),(by simp),sx ⟨⟨_,rfl,xaq ?_⟩,trivial⟩ trivial⟩;focus ((simp_all;done))
 have hrest:rest=[]:=by
  rcases rest with _|⟨a,b⟩
  ·rfl
  ·exfalso;have hz:=congrArg List.length (hg1);simp only[xaa,xab,xac] at hz;omega
 subst hrest;refine rq ?_;rotate_left;all_goals (rfl)
theorem zeQ:∀(n:Nat){p:Pat},p.size<=n->p.ok->FnD Tryz.prog 15 [.agg [.d (.i p.op),.d (.i p.ctor),.d (.i p.n),.d (.i p.m),.d (.i p.var),.d (zad p.kids)],.agg [.d (.i p.op),.d (.i p.ctor),.d (.i p.n),.d (.i p.m),.d (.i p.var),.d (zad p.kids)]] [] (.d (.bool true)) []
 |0,p,h,_=>by rw[Pat.size_eq] at h;omega
 |n+1,p,h,hok=>by
  rw[Pat.size_eq] at h;rw[Pat.ok_iff] at hok;refine bd Tryz.f15 45 [] [] fun w0 F0 own kept hk=>?_;refine bx 3002 ?_;refine bx 3003 ?_;refine ev ?_;refine sq ?_ ?_<;>intro h1 h1p h1s<;>(try simp only[Q] at h1p);refine sq ?_ ?_<;>intro h2 h2p h2s<;>(try simp only[Q] at h2p);refine sq ?_ ?_<;>intro h3 h3p h3s<;>(try simp only[Q] at h3p);refine sq ?_ ?_<;>intro h4 h4p h4s<;>(try simp only[Q] at h4p);refine sq ?_ ?_<;>intro h5 h5p h5s<;>(try simp only[Q] at h5p);refine Walk.call (cr:=[]) zu5 (zgy hok.1 zr2 (fun x hx=>zeQ n (by have:=Pats.size_mem hx;omega) (Pats.ok_mem hok.2 x hx))) rfl (.some rfl rfl h5) rfl rfl (LeL.refl _) trivial rfl rfl rfl ?_;refine evs [] [(38,true)] ?_ ⟨⟨_,rfl,h5⟩,trivial⟩;focus (refine rq ?_;all_goals ((simp_all;done)))
  focus (refine rq ?_;all_goals ((simp_all;done)))
  refine sqF ?_;focus (refine rq ?_;all_goals ((simp_all;done)))
  refine sqF ?_;refine sqF ?_;focus (refine rq ?_;all_goals ((simp_all;done)))
  refine sqF ?_;refine sqF ?_;refine sqF ?_;focus (refine rq ?_;all_goals ((simp_all;done)))
  refine sqF ?_;refine sqF ?_;refine sqF ?_;refine sqF ?_;focus (refine rq ?_;all_goals ((simp_all;done)))
noncomputable def eqB {α:Type} (x y:α):Bool:=@decide (x=y) (Classical.propDecidable _)
theorem zkl {α:Type}{x y:α}:eqB x y=true↔x=y:=by unfold eqB;exact @decide_eq_true_iff _ (Classical.propDecidable _)
theorem zpG {α:Type}{x y:α} (h:x=y):eqB x y=true:=zkl.2 h
theorem zl2 {α:Type}{x y:α} (h:¬x=y):eqB x y=false:=by cases e:eqB x y;rfl;exact absurd (zkl.1 e) h
theorem zhi {xs ys:List Pat}{f:Nat} (hx:xs.length<=1000000000000) (hy:ys.length<=1000000000000) (hcal:Callee Tryz.prog f)
  (hf:∀p∈xs,∀q∈ys,FnD Tryz.prog f [.agg [.d (.i p.op),.d (.i p.ctor),.d (.i p.n),.d (.i p.m),.d (.i p.var),.d (zad p.kids)],.agg [.d (.i q.op),.d (.i q.ctor),.d (.i q.n),.d (.i q.m),.d (.i q.var),.d (zad q.kids)]] [] (.d (.bool (eqB p q))) []):
  FnD Tryz.prog 62 [.d (zad xs),.d (zad ys),.fn f []] [] (.d (.bool (eqB xs ys))) []:=by
 refine bd Tryz.f62 32 [] [] fun w0 F0 own kept hk=>?_;refine sq ?_ ?_<;>intro h1 h1p h1s<;>(try simp only[Q,Pat.cs_len,Int.natCast_inj] at h1p);refine rq ?_;rotate_left;refine xak (ι:=Nat) hk (fun i=>[(17,.d (.i (i:Int)))]) [6,7,8,9,18,19,20,21,22,23,24,25,26,27,28,29,30,31] (fun i=>[]) (fun i=>i<=xs.length/\xs.length=ys.length/\∀j,j<i->nth xs j=nth ys j) (fun i=>xs.length-i) 0 ⟨by omega,by omega,fun _ h=>absurd h (by omega)⟩ ⟨⟨_,rfl,xaq ?_⟩,trivial⟩ trivial (fun x=>rfl) (fun i hg1=>?_);focus (first|rfl|(simp;done)|(simp_all;done)|omega)
 refine evc [] [] ?_;refine sq ?_ ?_<;>intro h2 h2p h2s<;>(try simp only[Q,Pat.cs_len,Int.natCast_inj] at h2p);refine xaS sl34 .none rfl rfl rfl rfl (zaH (by omega)) rfl ?_;refine ev ?_;refine ab 3008 tz36 ?_;refine ev ?_;refine so ty36 ?_;refine tv ?_;refine xaS sl34 .none rfl rfl rfl rfl (zaH (by omega)) rfl ?_;refine ev ?_;refine ab 3009 tz36 ?_;refine so ty36 ?_;refine tv ?_;refine xaH (cr:=[]) hcal (hf _ (zac (i:=i) (by omega)) _ (zac (i:=i) (by omega))) rfl .none rfl rfl rfl (LeL.refl _) trivial rfl rfl rfl ?_;refine ev ?_;refine sq ?_ ?_<;>intro h3 h3p h3s<;>(try simp only[Q,Pat.cs_len,Int.natCast_inj] at h3p);refine rq ?_;rotate_left;refine ar ?_;refine xah (i+1) ⟨⟨by omega,hg1.2.1,zaX hg1.2.2 (zkl.1 (by first|assumption|simpa using h3p))⟩,(by omega),sx ⟨⟨_,rfl,xaq ?_⟩,trivial⟩ trivial⟩;focus (first|rfl|(simp;done)|(simp_all;done)|omega)
 refine rq ?_;rotate_left;all_goals (refine congrArg D.bool ?_;first|(refine(zl2 (fun e=>?_)).symm;subst e;omega)|(refine(zl2 (fun e=>?_)).symm;have h9:=zpG (congrArg (fun l=>nth l i) e);simp_all;done)|(refine(zpG (zh6 (by omega) (fun j hj=>hg1.2.2 j (by omega)))).symm))
theorem zfq:∀(n:Nat){p q:Pat},p.size<=n->p.ok->q.ok->FnD Tryz.prog 15 [.agg [.d (.i p.op),.d (.i p.ctor),.d (.i p.n),.d (.i p.m),.d (.i p.var),.d (zad p.kids)],.agg [.d (.i q.op),.d (.i q.ctor),.d (.i q.n),.d (.i q.m),.d (.i q.var),.d (zad q.kids)]] [] (.d (.bool (eqB p q))) []
 |0,p,q,h,_,_=>by rw[Pat.size_eq] at h;omega
 |n+1,p,q,h,hp,hq=>by
  by_cases e:p=q
  ·subst e;rw[zpG rfl];exact zeQ _ (Nat.le_refl _) hp
  ·rw[zl2 e];rw[Pat.size_eq] at h;rw[Pat.ok_iff] at hp hq;have he:=zhi hp.1 hq.1 zr2 (fun x hx y hy=>zfq n (p:=x) (q:=y) (by have:=Pats.size_mem hx;omega) (Pats.ok_mem hp.2 x hx) (Pats.ok_mem hq.2 y hy));have hne:p.op=q.op->p.ctor=q.ctor->p.n=q.n->p.m=q.m->p.var=q.var->eqB p.kids q.kids=false:=fun a1 a2 a3 a4 a5=>zl2 (fun a6=>e (by cases p;cases q;simp only[Pat.op,Pat.ctor,Pat.n,Pat.m,Pat.var,Pat.kids] at *;subst a1 a2 a3 a4 a5 a6;rfl));refine bd Tryz.f15 45 [] [] fun w0 F0 own kept hk=>?_;refine bx 3002 ?_;refine bx 3003 ?_;refine ev ?_;refine sq ?_ ?_<;>intro h1 h1p h1s<;>(try simp only[Q] at h1p);refine sq ?_ ?_<;>intro h2 h2p h2s<;>(try simp only[Q] at h2p);refine sq ?_ ?_<;>intro h3 h3p h3s<;>(try simp only[Q] at h3p);refine sq ?_ ?_<;>intro h4 h4p h4s<;>(try simp only[Q] at h4p);refine sq ?_ ?_<;>intro h5 h5p h5s<;>(try simp only[Q] at h5p);refine Walk.call (cr:=[]) zu5 (he) rfl (.some rfl rfl h5) rfl rfl (LeL.refl _) trivial rfl rfl rfl ?_;refine evs [] [(38,true)] ?_ ⟨⟨_,rfl,h5⟩,trivial⟩;refine rq ?_;rotate_left;refine rq ?_;rotate_left;refine sqF ?_;refine rq ?_;rotate_left;refine sqF ?_;refine sqF ?_;refine rq ?_;rotate_left;refine sqF ?_;refine sqF ?_;refine sqF ?_;refine rq ?_;rotate_left;refine sqF ?_;refine sqF ?_;refine sqF ?_;refine sqF ?_;refine rq ?_;rotate_left;all_goals (first|rfl|(refine congrArg D.bool ?_;first|(simp_all;done)|(rw[hne (by assumption) (by assumption) (by assumption) (by assumption) (by assumption)];done)))
theorem znv {l m:List Int} (h:l.length<=1000000000000) (h2:m.length<=1000000000000):FnD Tryz.prog 14 [.d (zbB l),.d (zbB m)] [] (.d (.bool (decide (l=m)))) []:=by
 refine bd Tryz.f14 26 [] [] fun w0 F0 own kept hk=>?_;refine sq ?_ ?_<;>intro h1 h1p h1s<;>(try simp only[Q,Int.natCast_inj] at h1p);refine rq ?_;rotate_left;refine xak (ι:=Nat) hk (fun i=>[(5,.d (.i (i:Int)))]) [4,11,12,13,14,15,16,17,18,19,20,21,22,23,24,25] (fun i=>[]) (fun i=>i<=l.length/\∀i',i'<i->nth l i'=nth m i') (fun i=>l.length-i) 0 ⟨by omega,fun _ h=>absurd h (by omega)⟩ ⟨⟨_,rfl,xaq ?_⟩,trivial⟩ trivial (fun x=>rfl) (fun i hg1=>?_);focus (first|rfl|(simp;done)|(simp_all;done)|omega)
 refine evc [] [] ?_;refine sq ?_ ?_<;>intro h2 h2p h2s<;>(try simp only[Q,Int.natCast_inj] at h2p);refine xaS sl29 .none rfl rfl rfl rfl (zap (by omega)) rfl ?_;refine evd [] [] ?_;refine xaS sl29 .none rfl rfl rfl rfl (zap (by omega)) rfl ?_;refine evd [] [] ?_;refine dr ?_;refine sq ?_ ?_<;>intro h3 h3p h3s<;>(try simp only[Q,Int.natCast_inj] at h3p);refine rq ?_;rotate_left;refine ar ?_;refine xah (i+1) ⟨⟨by omega,zaX hg1.2 (by simp_all)⟩,(by omega),sx ⟨⟨_,rfl,xaq ?_⟩,trivial⟩ trivial⟩;focus (first|rfl|(simp;done)|(simp_all;done)|omega)
 refine rq ?_;rotate_left;all_goals (refine congrArg D.bool ?_;first|(refine(decide_eq_false (fun e=>?_)).symm;subst e;omega)|(refine(decide_eq_false (fun e=>?_)).symm;subst e;simp_all;done)|(refine(decide_eq_true (zh6 (by omega) (fun x hx=>hg1.2 x (by omega)))).symm))
theorem zp0 {l:List Int}{n:Int} (h:l.length<=1000000000000):FnD Tryz.prog 16 [.d (zbB l),.d (.i n)] [] (.d (.bool (decide (n∈l)))) []:=by
 refine bd Tryz.f16 18 [] [] fun w0 F0 own kept hk=>?_;refine xak (ι:=Nat) hk (fun i=>[(5,.d (.i (i:Int)))]) [4,6,7,8,9,10,11,12,13,14,15,16,17] (fun i=>[]) (fun i=>i<=l.length/\∀i',i'<i->¬nth l i'=n) (fun i=>l.length-i) 0 ⟨by omega,fun _ h=>absurd h (by omega)⟩ ⟨⟨_,rfl,xaq ?_⟩,trivial⟩ trivial (fun x=>rfl) (fun i hg1=>?_);focus (first|rfl|(simp;done)|(simp_all;done)|omega)
 refine evc [] [] ?_;refine sq ?_ ?_<;>intro h1 h1p h1s<;>(try simp only[Q] at h1p);refine xaS sl29 .none rfl rfl rfl rfl (zap (by omega)) rfl ?_;refine ev ?_;refine sq ?_ ?_<;>intro h2 h2p h2s<;>(try simp only[Q] at h2p);refine rq ?_;rotate_left;refine ar ?_;refine xah (i+1) ⟨⟨by omega,zaX hg1.2 (by assumption)⟩,(by omega),sx ⟨⟨_,rfl,xaq ?_⟩,trivial⟩ trivial⟩;focus (first|rfl|(simp;done)|(simp_all;done)|omega)
 refine rq ?_;rotate_left;all_goals (refine congrArg D.bool ?_;first|(refine(decide_eq_true ?_).symm;have h9:=zac (l:=l) (i:=i) (by omega);simp_all;done)|(refine(decide_eq_false (fun hm=>?_)).symm;obtain⟨j,hj,e⟩:=List.getElem_of_mem hm;have:=hg1.2 j (by omega);simp_all[nth,List.getD];done))
theorem zcR {l:List Int} (h:l.length<=1000000000000):FnD Tryz.prog 14 [.d (zbB l),.d (zbB l)] [] (.d (.bool true)) []:=by
 have h1:=znv h h;rwa [decide_eq_true rfl] at h1
theorem zuI (b:Str){w:List Data}{t:Ty}:∀c∈rdL b,isP w t c.pat=true->RootOk c.pat:=fun c hc=>zui b c ((zrK b).2 c hc)
theorem zuJ {w:List Data}{a k:Int}{l:List Cl}{z:List Int} (h:redV w a k l=some z):redN w a k l l.length=some z:=by
 unfold redV at h;split at h
 ·exact h
 ·cases h
theorem zmk {b:Str} (hb:b.length<=1000000000000):FnD Tryz.prog 3 [.d (zcl b)] [] (.d (.bool true)) []:=by
 have hdr:=zfG hb;have hs:WSmall (rcW (b.take 2000)):=(zhM (b.take 2000) 0).small;have hn:=zo0 (b.take 2000) 0;rw[show zbt (b.take 2000) 0=rcW (b.take 2000) from rfl] at hn;have hl:=zv6 (b.take 2000);have hfew:=zvJ hs hn (a:=(rcT (b.take 2000)).data) (k:=(rcT (b.take 2000)).index) hl.1 (zuI (b.take 2000));generalize rcW (b.take 2000)=w at *;generalize (rcT (b.take 2000)).data=a at *;generalize (rcT (b.take 2000)).index=k at *;generalize rdL (b.take 2000)=l at *;have hi:=zgZ hs (a:=a) (k:=k) hl.1 hfew;have hsp:=zha hs (a:=a) (k:=k) hl.1 hl.2 hfew;cases hm:redV w a k l with
 |none=>
  rw[hm] at hi hsp;refine bd Tryz.f3 93 [37,50] [] fun w0 F0 own kept hk=>?_;refine sq ?_ ?_<;>intro h1 h1p h1s<;>(try simp only[Q] at h1p);refine rq ?_;rotate_left;refine wc zu2 (hdr) rfl rfl ?_;refine evs [37,50] [] ?_;refine ab 3004 tz25 ?_;refine evs [37,50] [] ?_;refine so ty25 ?_;refine evs [37,50] [] ?_;refine wc zu3 (hi) rfl rfl ?_;refine evs [37,50] [] ?_;refine wc zu4 (hsp) rfl rfl ?_;refine evs [37,50] [] ?_;refine Walk.neB un4 .none rfl rfl rfl ?_;refine evs [37,50] [] ?_;refine sq ?_ ?_<;>intro h2 h2p h2s<;>(try simp only[Q] at h2p);refine sqT ?_;refine sqT ?_;refine Walk.eqB un4 .none rfl rfl rfl ?_;refine evs [37,50] [] ?_;refine sq ?_ ?_<;>intro h4 h4p h4s<;>(try simp only[Q] at h4p);refine Walk.call (cr:=[]) zlG (zcR (l:=[]) (by simp)) rfl (.some rfl rfl h4) rfl rfl (LeL.refl _) trivial rfl rfl rfl ?_;refine evs [37,50] [(51,true)] ?_ ⟨⟨_,rfl,h4⟩,trivial⟩;refine rq ?_;rotate_left;refine rq ?_;rotate_left;refine Walk.call (cr:=[]) zlG (zcR (l:=[]) (by simp)) rfl (.some rfl rfl h2) rfl rfl (LeL.refl _) trivial rfl rfl rfl ?_;refine evs [37,50] [(38,false)] ?_ ⟨⟨_,rfl,h2⟩,trivial⟩;refine sq ?_ ?_<;>intro h5 h5p h5s<;>(try simp only[Q] at h5p);refine sqT ?_;refine Walk.eqB un4 .none rfl rfl rfl ?_;refine evs [37,50] [] ?_;refine sq ?_ ?_<;>intro h7 h7p h7s<;>(try simp only[Q] at h7p);refine Walk.call (cr:=[]) zlG (zcR (l:=[]) (by simp)) rfl (.some rfl rfl h7) rfl rfl (LeL.refl _) trivial rfl rfl rfl ?_;refine evs [37,50] [(51,true)] ?_ ⟨⟨_,rfl,h7⟩,trivial⟩;refine rq ?_;rotate_left;refine rq ?_;rotate_left;refine sq ?_ ?_<;>intro h8 h8p h8s<;>(try simp only[Q] at h8p);refine Walk.eqB un4 .none rfl rfl rfl ?_;refine evs [37,50] [] ?_;refine sq ?_ ?_<;>intro h9 h9p h9s<;>(try simp only[Q] at h9p);refine Walk.call (cr:=[]) zlG (zcR (l:=[]) (by simp)) rfl (.some rfl rfl h9) rfl rfl (LeL.refl _) trivial rfl rfl rfl ?_;refine evs [37,50] [(51,true)] ?_ ⟨⟨_,rfl,h9⟩,trivial⟩;refine rq ?_;rotate_left;refine rq ?_;rotate_left;focus (exfalso;first|contradiction|(simp at *;done))
  all_goals (first|rfl|contradiction|(exfalso;simp at *;done))
 |some z=>
  have hz:=zuJ hm;have hl1:=hl.1.1;have hzl:=zfD hz;have hlaw:∀s j:Nat,j<s->s<l.length->eqB (nth l s).pat (nth l j).pat=true->(nth l j).g.op=0->decide ((s:Int)∈z)=true:=fun s j hj hsl he hg=>by
   obtain⟨ps,hps⟩:=ztJ hz hsl;have:=zt0 hs hl.1 hps (j:=j) (by omega) hg (by rw[show((s:Int)).toNat=s from rfl];exact zkl.1 he);subst this;exact decide_eq_true (zqn hz hsl hps)
  rw[hm] at hi hsp;clear hm hz hfew hn;refine bd Tryz.f3 93 [37] [] fun w0 F0 own kept hk=>?_;refine sq ?_ ?_<;>intro h1 h1p h1s<;>(try simp only[Q,Int.natCast_inj,Pat.cs_len] at h1p);refine rq ?_;rotate_left;refine wc zu2 (hdr) rfl rfl ?_;refine evs [37] [] ?_;refine ab 3004 tz25 ?_;refine evs [37] [] ?_;refine so ty25 ?_;refine evs [37] [] ?_;refine wc zu3 (hi) rfl rfl ?_;refine evs [37] [] ?_;refine wc zu4 (hsp) rfl rfl ?_;refine evs [37] [] ?_;refine Walk.neB un4 .none rfl rfl rfl ?_;refine evs [37] [] ?_;refine sq ?_ ?_<;>intro h2 h2p h2s<;>(try simp only[Q,Int.natCast_inj,Pat.cs_len] at h2p);refine sqT ?_;refine sqT ?_;focus (exfalso;first|contradiction|(simp at *;done))
  refine Walk.call (cr:=[]) zlG (zcR (l:=z) (by omega)) rfl (.some rfl rfl h2) rfl rfl (LeL.refl _) trivial rfl rfl rfl ?_;refine evs [37] [(38,false)] ?_ ⟨⟨_,rfl,h2⟩,trivial⟩;refine sq ?_ ?_<;>intro h4 h4p h4s<;>(try simp only[Q,Int.natCast_inj,Pat.cs_len] at h4p);refine sqT ?_;focus (exfalso;first|contradiction|(simp at *;done))
  refine sq ?_ ?_<;>intro h6 h6p h6s<;>(try simp only[Q,Int.natCast_inj,Pat.cs_len] at h6p);focus (exfalso;first|contradiction|(simp at *;done))
  refine xak (ι:=Nat) hk (fun s=>[(10,.d (.i (s:Int)))]) [2,11,56,57,58,59,60,61,62,63,64,65,66,67,68,69,70,71,72,73,74,75,76,77,78,79,80,81,82,83,84,85,86,87,88,89,90,91,92] (fun s=>[]) (fun s=>s<=l.length) (fun s=>l.length-s) 0 (by omega) ⟨⟨_,rfl,xaq ?_⟩,trivial⟩ trivial (fun x=>rfl) (fun s hg1=>?_);focus (first|rfl|(simp;done)|omega)
  refine evc [37] [] ?_;refine sq ?_ ?_<;>intro h7 h7p h7s<;>(try simp only[Q,Int.natCast_inj,Pat.cs_len] at h7p);refine xak (ι:=Nat) hk (fun j=>[(11,.d (.i (j:Int)))]) [2,62,63,64,65,66,67,68,69,70,71,72,73,74,75,76,77,78,79,80,81,82,83,84,85,86,87,88,89,90,91,92] (fun j=>[]) (fun j=>j<=s) (fun j=>s-j) 0 (by omega) ⟨⟨_,rfl,xaq ?_⟩,trivial⟩ trivial (fun x=>rfl) (fun j hg2=>?_);focus (first|rfl|(simp;done)|omega)
  refine evc [37] [] ?_;refine sq ?_ ?_<;>intro h8 h8p h8s<;>(try simp only[Q,Int.natCast_inj,Pat.cs_len] at h8p);refine xaS sl26 .none rfl rfl rfl rfl (zap (by omega)) rfl ?_;refine evd [37] [] ?_;refine xaS sl26 .none rfl rfl rfl rfl (zap (by omega)) rfl ?_;refine evd [37] [] ?_;refine wc zr2 (zfq _ (Nat.le_refl _) (hl.1.2 _ (zac (i:=s) (by omega))) (hl.1.2 _ (zac (i:=j) (by omega)))) rfl rfl ?_;refine evd [37] [] ?_;refine sq ?_ ?_<;>intro h9 h9p h9s<;>(try simp only[Q,Int.natCast_inj,Pat.cs_len] at h9p);refine xaS sl26 (.some rfl rfl h9) rfl rfl rfl rfl (zap (by omega)) rfl ?_;refine evd [37] [(78,true)] ?_ ⟨⟨_,rfl,h9⟩,trivial⟩;refine sq ?_ ?_<;>intro h10 h10p h10s<;>(try simp only[Q,Int.natCast_inj,Pat.cs_len] at h10p);refine Walk.call (cr:=[]) zxE (zp0 (l:=z) (n:=(s:Int)) (by omega)) rfl (.some rfl rfl h10) rfl rfl (LeL.refl _) trivial rfl rfl rfl ?_;refine evd [37] [(87,true)] ?_ ⟨⟨_,rfl,h10⟩,trivial⟩;refine dr ?_;refine sq ?_ ?_<;>intro h11 h11p h11s<;>(try simp only[Q,Int.natCast_inj,Pat.cs_len] at h11p);exfalso;have hlw:=hlaw s j (by omega) (by omega);simp_all;refine ar ?_;refine xah (j+1) ⟨(by omega),(by omega),sx ⟨⟨_,rfl,xaq ?_⟩,trivial⟩ trivial⟩;focus (first|rfl|(simp;done)|omega)
  refine dr ?_;refine sqF ?_;refine ar ?_;refine xah (j+1) ⟨(by omega),(by omega),sx ⟨⟨_,rfl,xaq ?_⟩,trivial⟩ trivial⟩;focus (first|rfl|(simp;done)|omega)
  refine sqF ?_;refine dr ?_;refine sqF ?_;refine ar ?_;refine xah (j+1) ⟨(by omega),(by omega),sx ⟨⟨_,rfl,xaq ?_⟩,trivial⟩ trivial⟩;focus (first|rfl|(simp;done)|omega)
  refine ar ?_;refine xah (s+1) ⟨(by omega),(by omega),sx ⟨⟨_,rfl,xaq ?_⟩,trivial⟩ trivial⟩;focus (first|rfl|(simp;done)|omega)
  refine rq ?_;rotate_left;all_goals (first|rfl|contradiction|(exfalso;simp at *;done))
end Go.Proofs.YtlfipehhbdjnjaaGreat
