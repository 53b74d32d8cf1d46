/-
  THE ABSTRACT WALK AND THE WALKS, part 4 of 6: the parts F26, F23, F27, F35, F28, F29, F36, F37, F92, F93, F40, G3, G4, F14, F16, F42, F50, F51, F52, F53, F54, F55, F56, F57, F58, F70, Val, F7, F8, Wu, F9, F71, F72, F74, F75, F76, F77, F78, F10.
-/
import Derived.Test.YtlfipehhbdjnjaaGreatT553
namespace Go.Proofs.YtlfipehhbdjnjaaGreat
open Go
set_option linter.unusedSimpArgs false
set_option linter.unusedVariables false
set_option maxRecDepth 100000
set_option maxHeartbeats 2000000
abbrev dPtr (f:Nat->Nat):D:= .ptr (tabD 16 f) 0
abbrev sPtr (w:List Data) (f:Nat->Nat):D:= .ptr [zao w,dPtr f] 0
theorem zlq {n:Nat}{f:Nat->Nat}{a k:Int} (h:InS n ⟨a,k⟩) (hn:n<=16):
  FnD Tryz.prog 140 [.ref 71 0,.agg [.d (.i a),.d (.i k)]] [(71,some (.box (tabC 16 f)))] (.d (.i (dv f ⟨a,k⟩))) []:=by
 have hs:=h.facts;refine bd Tryz.f140 17 [16] [] fun w0 F0 own kept hk=>?_;refine Walk.box (id:=3003) .none rfl rfl rfl (by first|rfl|(simp only[zak,occH,occE,Res.ids,xag,List.nil_append,AV.idsL,AV.ids,zab,zaa,zac,zal,xae,List.map_nil,upC,zaH];rfl)) (by first|rfl|(simp only[zak,occH,occE,Res.ids,xag,List.nil_append,AV.idsL,AV.ids,zab,zaa,zac,zal,xae,List.map_nil,upC,zaH];rfl)) (by first|rfl|(simp only[zak,occH,occE,Res.ids,xag,List.nil_append,AV.idsL,AV.ids,zab,zaa,zac,zal,xae,List.map_nil,upC,zaH];rfl)) (by first|rfl|(simp only[zak,occH,occE,Res.ids,xag,List.nil_append,AV.idsL,AV.ids,zab,zaa,zac,zal,xae,List.map_nil,upC,zaH];rfl)) ?_;refine evs [16] [] ?_;refine sq ?_ ?_<;>intro h1 h1p h1s<;>(try simp only[Q] at h1p);refine rn [] (r1 rfl) (.eqd ?_) ⟨rfl,rfl⟩ (SubH.get ⟨rfl,trivial⟩) (fun _ h=>h);rotate_left;refine xaQ (i:=a.toNat) zpm .none rfl rfl rfl (by have:=hs h1p;omega) (by have:=hs h1p;omega) ?_;refine xaQ (i:=k.toNat) zrW .none rfl rfl rfl (by have:=hs h1p;omega) (by have:=hs h1p;omega) ?_;refine xaV ty3 .none rfl rfl rfl ((zlb (s:=zcW ⟨a,k⟩) (by have:=hs h1p;omega) (by have:=hs h1p;omega))) ?_;refine evd [16] [] ?_;refine dr ?_;refine rn [] (r1 rfl) (.eqd ?_) ⟨rfl,rfl⟩ (SubH.get ⟨rfl,trivial⟩) (fun _ h=>h);rotate_left;all_goals (first|(rw[zmu (by assumption)];rfl)|(rw[zmt (by assumption)]))
theorem zdI {n:Nat}{f:Nat->Nat}{a k:Int} (h:InS n ⟨a,k⟩) (hn:n<=16):
  FnD Tryz.prog 140 [.d (dPtr f),.agg [.d (.i a),.d (.i k)]] [] (.d (.i (dv f ⟨a,k⟩))) []:=by
 have hs:=h.facts;refine bd Tryz.f140 17 [16] [] fun w0 F0 own kept hk=>?_;refine bx 3003 ?_;refine evs [16] [] ?_;refine sq ?_ ?_<;>intro h1 h1p h1s<;>(try simp only[Q] at h1p);refine rq ?_;rotate_left;refine xaR (i:=a.toNat) zpm .none rfl rfl rfl (by have:=hs h1p;omega) (by have:=hs h1p;omega) ?_;refine xaR (i:=k.toNat) zrW .none rfl rfl rfl (by have:=hs h1p;omega) (by have:=hs h1p;omega) ?_;refine xaX ty3 .none rfl rfl (zt6 (s:=zcW ⟨a,k⟩) (by have:=hs h1p;omega) (by have:=hs h1p;omega)) ?_;refine evd [16] [] ?_;refine dr ?_;refine rq ?_;rotate_left;all_goals (first|(rw[zmu (by assumption)];rfl)|(rw[zmt (by assumption)]))
theorem zmC {w:List Data} (hw:WT w){n:Nat}{f:Nat->Nat}{a k c:Int} (ht:TyIn w.length ⟨a,k⟩) (hc:c∈zaA w ⟨a,k⟩) (hn:n<=16) (hb:∀s,f s<=100000) (hin:∀u∈zad w ⟨a,k⟩ c,InS n u):
  FnD Tryz.prog 235 [.ref 71 0,.d (zao w),.agg [.d (.i a),.d (.i k)],.d (.i c)] [(71,some (.box (tabC 16 f)))] (.d (.i (most w f ⟨a,k⟩ c))) []:=by
 have hl:=zfj hw ht hc;have hd:=zpy hb (by omega);refine bd Tryz.f235 33 [] [] fun w0 F0 own kept hk=>?_;refine Walk.box (id:=3006) .none rfl rfl rfl (by first|rfl|(simp only[zak,occH,occE,Res.ids,xag,List.nil_append,AV.idsL,AV.ids,zab,zaa,zac,zal,xae,List.map_nil,upC,zaH];rfl)) (by first|rfl|(simp only[zak,occH,occE,Res.ids,xag,List.nil_append,AV.idsL,AV.ids,zab,zaa,zac,zal,xae,List.map_nil,upC,zaH];rfl)) (by first|rfl|(simp only[zak,occH,occE,Res.ids,xag,List.nil_append,AV.idsL,AV.ids,zab,zaa,zac,zal,xae,List.map_nil,upC,zaH];rfl)) (by first|rfl|(simp only[zak,occH,occE,Res.ids,xag,List.nil_append,AV.idsL,AV.ids,zab,zaa,zac,zal,xae,List.map_nil,upC,zaH];rfl)) ?_;refine ev ?_;refine Walk.call (cr:=[]) zdf (zbp hw ht hc) rfl .none rfl rfl (LeL.refl _) trivial rfl (by first|rfl|(simp only[zar,List.all_cons,List.all_nil,zaC,zay,AV.idsL,AV.ids,zab,zaa,xae,List.map_nil,zaH];rfl)) (by first|rfl|(simp only[zak,occH,occE,Res.ids,xag,List.nil_append,AV.idsL,AV.ids,zab,zaa,zac,zal,xae,List.map_nil,upC,zaH];rfl)) ?_;refine ev ?_;refine xam (ι:=List (Ty)×List (Ty)×(Nat)) hk (fun x=>[(18,.d (.i (x.1.length:Int))),(9,.d (.i (x.2.2:Int)))]) [8,11,12,19,20,21,22,23,24,25,26,27,28,29,30] (fun x=>[]) (fun x=>x.1++x.2.1=zad w ⟨a,k⟩ c/\x.2.2<=100000/\zbu f x.2.2 x.2.1=zbu f 0 (zad w ⟨a,k⟩ c)) (fun x=>x.2.1.length) ([],zad w ⟨a,k⟩ c,0) ⟨by simp,by simp,rfl⟩ ⟨⟨_,rfl,xax ?_⟩,⟨⟨_,rfl,xax ?_⟩,trivial⟩⟩ trivial (fun x=>rfl) (fun x hg1=>?_);iterate 2 focus (first|rfl|(simp;done))
 obtain⟨pre,rest,m⟩:=x;dsimp only at hg1 ⊢;refine evc [] [] ?_;refine sq ?_ ?_<;>intro h1 h1p h1s<;>(try simp only[Q] at h1p);rcases rest with _|⟨y,rest⟩
 ·exfalso;simp_all
 have hdy:=hd y;have hye:dv f ⟨y.data,y.index⟩=dv f y:=rfl;refine xaP zaK .none rfl rfl rfl rfl (zaN hg1.1) rfl ?_;refine ev ?_;refine Walk.alloc (id:=3011) tz25 rfl .none rfl (by first|rfl|(simp only[zak,occH,occE,Res.ids,xag,List.nil_append,AV.idsL,AV.ids,zab,zaa,zac,zal,xae,List.map_nil,upC,zaH];rfl)) (by first|rfl|(simp only[zak,occH,occE,Res.ids,xag,List.nil_append,AV.idsL,AV.ids,zab,zaa,zac,zal,xae,List.map_nil,upC,zaH];rfl)) (by first|rfl|(simp only[zak,occH,occE,Res.ids,xag,List.nil_append,AV.idsL,AV.ids,zab,zaa,zac,zal,xae,List.map_nil,upC,zaH];rfl)) ?_;refine so ty25 ?_;refine tv ?_;refine Walk.call (cr:=[]) zeK (zlq (f:=f) (a:=y.data) (k:=y.index) (hin y (by rw[<-hg1.1];simp)) hn) rfl .none rfl rfl (LeL.refl _) ⟨rfl,trivial⟩ rfl (by first|rfl|(simp only[zar,List.all_cons,List.all_nil,zaC,zay,AV.idsL,AV.ids,zab,zaa,xae,List.map_nil,zaH];rfl)) (by first|rfl|(simp only[zak,occH,occE,Res.ids,xag,List.nil_append,AV.idsL,AV.ids,zab,zaa,zac,zal,xae,List.map_nil,upC,zaH];rfl)) ?_;refine ev ?_;refine sq ?_ ?_<;>intro h2 h2p h2s<;>(try simp only[Q] at h2p);refine rn [] (r1 rfl) (.eqd ?_) ⟨rfl,rfl⟩ (SubH.get ⟨rfl,trivial⟩) (fun _ h=>h);rotate_left;refine xa0 .none rfl rfl rfl ?_;refine ev ?_;refine ar ?_;refine xah ((pre++[y],rest,max m (dv f y))) ⟨⟨(by have hz:=hg1.1;rw[<-hz];simp),⟨(by have:=hd y;dsimp only;omega),(by rw[<-hg1.2.2];simp only[zbu];rw[if_neg (by have:=hd y;omega)])⟩⟩,(by simp),sx ⟨⟨_,rfl,xax ?_⟩,⟨⟨_,rfl,xax ?_⟩,trivial⟩⟩ trivial⟩;iterate 2 focus (first|rfl|(simp;done)|(dsimp only;omega))
 have hrest:rest=[]:=by
  rcases rest with _|⟨a,b⟩
  ·rfl
  ·exfalso;have hz:=congrArg List.length (hg1.1);simp only[xaa,xab,xac] at hz;omega
 subst hrest;refine ar ?_;refine rn [] (r1 rfl) (.eqd ?_) ⟨rfl,rfl⟩ (SubH.get ⟨rfl,trivial⟩) (fun _ h=>h);rotate_left;all_goals (refine congrArg D.i ?_;unfold most;rw[<-hg1.2.2];first|(simp only[zbu];rw[if_pos (by omega)];rfl)|(simp only[zbu];omega))
theorem ziW {i j:Nat} (h:j<4):tyS (i*4+j)=⟨(i:Int),(j:Int)⟩:=by
 unfold tyS;rw[show(i*4+j) / 4=i by omega,show(i*4+j) % 4=j by omega]
theorem zru {w:List Data}{k s:Nat}{pre:List Int}:Bet (zbf w k) (rowT w k s pre):=(zoW _ _).trans (zn5 _ _)
theorem zkM {w:List Data}{g f:Nat->Nat}{s:Nat}{c:Int} (hB:Bet g f)
  (h:decide ((0:Int)<(most w f (tyS s) c:Int)/\((f s:Int)=0\/(most w f (tyS s) c:Int)<(f s:Int)))=true):Strict g (zbS w s f c):=by
 rw[zei h];rw[decide_eq_true_eq] at h;refine⟨s,by unfold updF;rw[if_pos rfl];omega, ?_⟩;unfold updF;rw[if_pos rfl];rcases Nat.eq_zero_or_pos (g s) with h0|h0
 ·exact .inl h0
 ·have:=hB s h0;right;omega
theorem zmz {w:List Data} (hw:WT w){i j:Nat} (hi:i<w.length) (hj:j<4):FnD Tryz.prog 234 [.d (zao w),.agg [.d (.i (i:Int)),.d (.i (j:Int))]] [] (.d (zcJ (za5 w (tyS (i*4+j))))) []:=by
 rw[<-zjz,ziW hj];exact zc0 hw (.inr ⟨i,rfl,hi⟩)
theorem zmD {w:List Data}{f:Nat->Nat}{i j:Nat} (hi:i<w.length) (h4:w.length<=4) (hj:j<4):
  FnD Tryz.prog 140 [.ref 71 0,.agg [.d (.i (i:Int)),.d (.i (j:Int))]] [(71,some (.box (tabC 16 f)))] (.d (.i (f (i*4+j)))) []:=by
 have h:=zlq (n:=w.length*4) (f:=f) (a:=(i:Int)) (k:=(j:Int)) (.inr ⟨by simp only[zcW,Int.toNat_natCast];omega,by simp only[zcW,Int.toNat_natCast];exact ziW hj⟩) (by omega);have e:zcW ⟨(i:Int),(j:Int)⟩=i*4+j:=by simp only[zcW,Int.toNat_natCast]
 rwa [zmt (by omega),e] at h
theorem znL {w:List Data} (hd:Dp w){f:Nat->Nat}{i j:Nat}{c:Int} (hi:i<w.length) (hj:j<4) (hc:c∈za5 w (tyS (i*4+j))) (hb:∀s,f s<=100000):
  FnD Tryz.prog 235 [.ref 71 0,.d (zao w),.agg [.d (.i (i:Int)),.d (.i (j:Int))],.d (.i c)] [(71,some (.box (tabC 16 f)))] (.d (.i (most w f (tyS (i*4+j)) c))) []:=by
 have h4:=hd.four;have hcl:=hd.cl (i*4+j) (by omega) c hc;rw[<-zjz,ziW hj] at hc;rw[ziW hj] at hcl ⊢;exact zmC hd.wt (.inr ⟨i,rfl,hi⟩) hc (n:=w.length*4) (by omega) hb hcl
theorem zlJ {w:List Data} (hd:Dp w):FnD Tryz.prog 139 [.d (zao w)] [] (.d (dPtr (zam w))) []:=by
 have hw:=hd.wt;have hw4:=hd.four;have hlw:((w.map Data.c).length:Int)=w.length:=by simp
 refine bd Tryz.f139 64 [] [16,20] fun w0 F0 own kept hk=>?_;refine Walk.buildZ zwG zpm .none rfl ?_;refine Walk.box (id:=71) .none rfl rfl rfl (by first|rfl|(simp only[zak,occH,occE,Res.ids,xag,List.nil_append,AV.idsL,AV.ids,zab,zaa,zac,zal,xae,List.map_nil,upC,zaH];rfl)) (by first|rfl|(simp only[zak,occH,occE,Res.ids,xag,List.nil_append,AV.idsL,AV.ids,zab,zaa,zac,zal,xae,List.map_nil,upC,zaH];rfl)) (by first|rfl|(simp only[zak,occH,occE,Res.ids,xag,List.nil_append,AV.idsL,AV.ids,zab,zaa,zac,zal,xae,List.map_nil,upC,zaH];rfl)) (by first|rfl|(simp only[zak,occH,occE,Res.ids,xag,List.nil_append,AV.idsL,AV.ids,zab,zaa,zac,zal,xae,List.map_nil,upC,zaH];rfl)) ?_;refine ev ?_;refine xam (ι:=Nat×Bool) hk (fun o=>[(4,.d (.bool o.2))]) [5,6,7,9,10,13,14,15,16,17,18,19,20,21,22,23,24,25,26,27,28,29,30,31,32,33,34,35,36,37,38,39,40,41,42,43,44,45,46,47,48,49,50,51,52,53,54,55,56,57,58,59,60,61,62] (fun o=>[(71,some (.box (tabC 16 (zbf w o.1))))]) (fun o=>(o.2=false->zbf w o.1=zam w)/\(o.2=true->o.1<=w.length*4+1)) (fun o=>if o.2 then w.length*4+2-o.1 else 0) (0,true) ⟨by simp,by simp⟩ ⟨⟨_,rfl,xaw ?_⟩,trivial⟩ ⟨?_,trivial⟩ (fun x=>rfl) (fun o hg1=>?_);focus (first|rfl|(simp;done))
 focus (first|rfl|(have e:y.1=w.length:=(by omega);rw[e];rfl))
 refine evc [] [16,20] ?_;refine sq ?_ ?_<;>intro h1 h1p h1s<;>(try simp only[Q] at h1p);refine xam (ι:=Nat×Bool) hk (fun y=>[(16,.d (.i (y.1:Int))),(4,.d (.bool y.2))]) [5,6,7,9,10,17,18,19,20,21,22,23,24,25,26,27,28,29,30,31,32,33,34,35,36,37,38,39,40,41,42,43,44,45,46,47,48,49,50,51,52,53,54,55,56,57,58,59,60,61,62] (fun y=>[(71,some (.box (tabC 16 (midT w o.1 (y.1*4)))))]) (fun y=>y.1<=w.length/\(y.2=false->midT w o.1 (y.1*4)=zbf w o.1)/\(y.2=true->Strict (zbf w o.1) (midT w o.1 (y.1*4)))) (fun y=>w.length-y.1) (0,false) ⟨by simp,fun _=>rfl,by simp⟩ ⟨⟨_,rfl,xax ?_⟩,⟨⟨_,rfl,xaw ?_⟩,trivial⟩⟩ ⟨?_,trivial⟩ (fun x=>rfl) (fun y hg2=>?_);iterate 2 focus (first|rfl|(simp;done))
 focus (first|rfl|(have e:z.1=4:=(by omega);rw[e,<-Nat.succ_mul];rfl))
 have ho:=hg1.2 h1s;refine evc [] [16,20] ?_;refine sq ?_ ?_<;>intro h2 h2p h2s<;>(try simp only[Q] at h2p);refine xam (ι:=Nat×Bool) hk (fun z=>[(6,.d (.i (z.1:Int))),(4,.d (.bool z.2))]) [7,9,10,19,20,21,22,23,24,25,26,27,28,29,30,31,32,33,34,35,36,37,38,39,40,41,42,43,44,45,46,47,48,49,50,51,52,53,54,55,56,57,58,59,60,61] (fun z=>[(71,some (.box (tabC 16 (midT w o.1 (y.1*4+z.1)))))]) (fun z=>z.1<=4/\(z.2=false->midT w o.1 (y.1*4+z.1)=zbf w o.1)/\(z.2=true->Strict (zbf w o.1) (midT w o.1 (y.1*4+z.1)))) (fun z=>4-z.1) (0,y.2) ⟨by simp,hg2.2⟩ ⟨⟨_,rfl,xax ?_⟩,⟨⟨_,rfl,xaw ?_⟩,trivial⟩⟩ ⟨?_,trivial⟩ (fun x=>rfl) (fun z hg3=>?_);iterate 2 focus (first|rfl|(simp;done))
 focus (first|rfl|(show some (Res.box _)=some (Res.box _);rw[<-hg4.1,List.append_nil] at *;done))
 refine evc [] [16,20] ?_;refine sq ?_ ?_<;>intro h3 h3p h3s<;>(try simp only[Q] at h3p);refine bu [0,1] [_,_] st25 ?_;refine Walk.alloc (id:=3007) tz25 rfl .none rfl (by first|rfl|(simp only[zak,occH,occE,Res.ids,xag,List.nil_append,AV.idsL,AV.ids,zab,zaa,zac,zal,xae,List.map_nil,upC,zaH];rfl)) (by first|rfl|(simp only[zak,occH,occE,Res.ids,xag,List.nil_append,AV.idsL,AV.ids,zab,zaa,zac,zal,xae,List.map_nil,upC,zaH];rfl)) (by first|rfl|(simp only[zak,occH,occE,Res.ids,xag,List.nil_append,AV.idsL,AV.ids,zab,zaa,zac,zal,xae,List.map_nil,upC,zaH];rfl)) ?_;refine so ty25 ?_;refine tv ?_;refine Walk.call (cr:=[]) zfm (zmz hw (i:=y.1) (j:=z.1) (by omega) (by omega)) rfl .none rfl rfl (LeL.refl _) trivial rfl (by first|rfl|(simp only[zar,List.all_cons,List.all_nil,zaC,zay,AV.idsL,AV.ids,zab,zaa,xae,List.map_nil,zaH];rfl)) (by first|rfl|(simp only[zak,occH,occE,Res.ids,xag,List.nil_append,AV.idsL,AV.ids,zab,zaa,zac,zal,xae,List.map_nil,upC,zaH];rfl)) ?_;refine ev ?_;refine xam (ι:=List (Int)×List (Int)×(Bool)) hk (fun x=>[(30,.d (.i (x.1.length:Int))),(4,.d (.bool x.2.2))]) [9,10,31,32,33,34,35,36,37,38,39,40,41,42,43,44,45,46,47,48,49,50,51,52,53,54,55,56,57,58,59,60,61] (fun x=>[(71,some (.box (tabC 16 (rowT w o.1 (y.1*4+z.1) x.1))))]) (fun x=>x.1++x.2.1=za5 w (tyS (y.1*4+z.1))/\(x.2.2=false->rowT w o.1 (y.1*4+z.1) x.1=zbf w o.1)/\(x.2.2=true->Strict (zbf w o.1) (rowT w o.1 (y.1*4+z.1) x.1))) (fun x=>x.2.1.length) ([],za5 w (tyS (y.1*4+z.1)),z.2) ⟨by simp,hg3.2⟩ ⟨⟨_,rfl,xax ?_⟩,⟨⟨_,rfl,xaw ?_⟩,trivial⟩⟩ ⟨?_,trivial⟩ (fun x=>rfl) (fun x hg4=>?_);iterate 2 focus (first|rfl|(simp;done))
 focus (first|rfl|(show some (Res.box _)=some (Res.box _);rw[zdD];first|(rw[zei (by assumption)];done)|(rw[zdC (by assumption)];done)))
 obtain⟨pre,rest,b⟩:=x;dsimp only at hg4 ⊢;have hct:=hd.ct (y.1*4+z.1) (by omega);refine evc [] [16,20] ?_;refine sq ?_ ?_<;>intro h4 h4p h4s<;>(try simp only[Q] at h4p);rcases rest with _|⟨c,rest⟩
 ·exfalso;simp_all
 refine xaP sl29 .none rfl rfl rfl rfl (zaN hg4.1) rfl ?_;refine ev ?_;refine Walk.call (cr:=[]) zpU (znL hd (f:=rowT w o.1 (y.1*4+z.1) pre) (i:=y.1) (j:=z.1) (c:=c) (by omega) (by omega) (by rw[<-hg4.1];simp) (zn4 hd (by omega) (by omega) (by have hz:=congrArg List.length hg4.1;simp at hz;omega))) rfl .none rfl rfl (LeL.refl _) ⟨rfl,trivial⟩ rfl (by first|rfl|(simp only[zar,List.all_cons,List.all_nil,zaC,zay,AV.idsL,AV.ids,zab,zaa,xae,List.map_nil,zaH];rfl)) (by first|rfl|(simp only[zak,occH,occE,Res.ids,xag,List.nil_append,AV.idsL,AV.ids,zab,zaa,zac,zal,xae,List.map_nil,upC,zaH];rfl)) ?_;refine ev ?_;refine xap ?_;refine xaC 15 [(53,.d (.bool (decide ((0:Int)<(most w (rowT w o.1 (y.1*4+z.1) pre) (tyS (y.1*4+z.1)) c:Int)/\((rowT w o.1 (y.1*4+z.1) pre (y.1*4+z.1):Int)=0\/(most w (rowT w o.1 (y.1*4+z.1) pre) (tyS (y.1*4+z.1)) c:Int)<(rowT w o.1 (y.1*4+z.1) pre (y.1*4+z.1):Int))))))] [39,40,41,42,43,44,45,46,47,48,49,50,51,52] ?_ ?_;refine ev ?_;refine sq ?_ ?_<;>intro h5 h5p h5s<;>(try simp only[Q] at h5p);refine Walk.call (cr:=[]) zeK (zmD (w:=w) (f:=rowT w o.1 (y.1*4+z.1) pre) (i:=y.1) (j:=z.1) (by omega) hw4 (by omega)) rfl (.some rfl rfl h5) rfl rfl (LeL.refl _) ⟨rfl,trivial⟩ rfl (by first|rfl|(simp only[zar,List.all_cons,List.all_nil,zaC,zay,AV.idsL,AV.ids,zab,zaa,xae,List.map_nil,zaH];rfl)) (by first|rfl|(simp only[zak,occH,occE,Res.ids,xag,List.nil_append,AV.idsL,AV.ids,zab,zaa,zac,zal,xae,List.map_nil,upC,zaH];rfl)) ?_;refine evs [] [(41,true)] ?_ ⟨⟨_,rfl,h5⟩,trivial⟩;refine sq ?_ ?_<;>intro h6 h6p h6s<;>(try simp only[Q] at h6p);exact jnb rfl;refine Walk.call (cr:=[]) zeK (zmD (w:=w) (f:=rowT w o.1 (y.1*4+z.1) pre) (i:=y.1) (j:=z.1) (by omega) hw4 (by omega)) rfl (.some rfl rfl h6) rfl rfl (LeL.refl _) ⟨rfl,trivial⟩ rfl (by first|rfl|(simp only[zar,List.all_cons,List.all_nil,zaC,zay,AV.idsL,AV.ids,zab,zaa,xae,List.map_nil,zaH];rfl)) (by first|rfl|(simp only[zak,occH,occE,Res.ids,xag,List.nil_append,AV.idsL,AV.ids,zab,zaa,zac,zal,xae,List.map_nil,upC,zaH];rfl)) ?_;refine evs [] [(41,true),(46,false)] ?_ ⟨⟨_,rfl,h5⟩,⟨_,rfl,h6⟩,trivial⟩;exact jnb rfl;exact jnb rfl;refine xaB ?_;refine tv ?_;refine sq ?_ ?_<;>intro h7 h7p h7s<;>(try simp only[Q] at h7p);refine xaQ (i:=y.1) zpm .none rfl rfl rfl rfl (by omega) ?_;refine xaQ (i:=z.1) zrW .none rfl rfl rfl rfl (by omega) ?_;refine Walk.store ty3 .none rfl rfl rfl rfl rfl rfl (by simp) ((zrS (s:=y.1*4+z.1) (v:=most w (rowT w o.1 (y.1*4+z.1) pre) (tyS (y.1*4+z.1)) c) (by omega) (by omega) rfl)) ?_;refine ev ?_;refine ar ?_;refine xah ((pre++[c],rest,(decide ((0:Int)<(most w (rowT w o.1 (y.1*4+z.1) pre) (tyS (y.1*4+z.1)) c:Int)/\((rowT w o.1 (y.1*4+z.1) pre (y.1*4+z.1):Int)=0\/(most w (rowT w o.1 (y.1*4+z.1) pre) (tyS (y.1*4+z.1)) c:Int)<(rowT w o.1 (y.1*4+z.1) pre (y.1*4+z.1):Int))))||b)) ⟨⟨(by have hz:=hg4.1;rw[<-hz];simp),(by
    dsimp only;rw[zdD];cases hq:decide ((0:Int)<(most w (rowT w o.1 (y.1*4+z.1) pre) (tyS (y.1*4+z.1)) c:Int)/\((rowT w o.1 (y.1*4+z.1) pre (y.1*4+z.1):Int)=0\/(most w (rowT w o.1 (y.1*4+z.1) pre) (tyS (y.1*4+z.1)) c:Int)<(rowT w o.1 (y.1*4+z.1) pre (y.1*4+z.1):Int))) with
    |true=>exact⟨fun h=>by simp at h,fun _=>zkM zru hq⟩
    |false=>rw[zdC hq];exact hg4.2)⟩,(by simp),sx ⟨⟨_,rfl,xax ?_⟩,⟨⟨_,rfl,xaw ?_⟩,trivial⟩⟩ ⟨?_,trivial⟩⟩
 iterate 2 focus (first|rfl|(simp;done)|(rw[h7];rfl))
 focus (first|rfl|(show some (Res.box _)=some (Res.box _);rw[zdD];first|(rw[zei (by assumption)];done)|(rw[zdC (by assumption)];done)))
 refine ar ?_;refine xah ((pre++[c],rest,(decide ((0:Int)<(most w (rowT w o.1 (y.1*4+z.1) pre) (tyS (y.1*4+z.1)) c:Int)/\((rowT w o.1 (y.1*4+z.1) pre (y.1*4+z.1):Int)=0\/(most w (rowT w o.1 (y.1*4+z.1) pre) (tyS (y.1*4+z.1)) c:Int)<(rowT w o.1 (y.1*4+z.1) pre (y.1*4+z.1):Int))))||b)) ⟨⟨(by have hz:=hg4.1;rw[<-hz];simp),(by
    dsimp only;rw[zdD];cases hq:decide ((0:Int)<(most w (rowT w o.1 (y.1*4+z.1) pre) (tyS (y.1*4+z.1)) c:Int)/\((rowT w o.1 (y.1*4+z.1) pre (y.1*4+z.1):Int)=0\/(most w (rowT w o.1 (y.1*4+z.1) pre) (tyS (y.1*4+z.1)) c:Int)<(rowT w o.1 (y.1*4+z.1) pre (y.1*4+z.1):Int))) with
    |true=>exact⟨fun h=>by simp at h,fun _=>zkM zru hq⟩
    |false=>rw[zdC hq];exact hg4.2)⟩,(by simp),sx ⟨⟨_,rfl,xax ?_⟩,⟨⟨_,rfl,xaw ?_⟩,trivial⟩⟩ ⟨?_,trivial⟩⟩
 iterate 2 focus (first|rfl|(simp;done)|(rw[h7];rfl))
 focus (first|rfl|(show some (Res.box _)=some (Res.box _);rw[zdD];first|(rw[zei (by assumption)];done)|(rw[zdC (by assumption)];done)))
 have hrest:rest=[]:=by
  rcases rest with _|⟨a,b⟩
  ·rfl
  ·exfalso;have hz:=congrArg List.length (hg4.1);simp only[xaa,xab,xac] at hz;omega
 subst hrest;refine ar ?_;refine xah ((z.1+1,b)) ⟨(by
    obtain⟨p1,p2⟩:=hg4;rw[List.append_nil] at p1;rw[p1,zhY,Nat.add_assoc] at p2;exact⟨by dsimp only;omega,p2⟩),(by dsimp only;omega),sx ⟨⟨_,rfl,xax ?_⟩,⟨⟨_,rfl,xaw ?_⟩,trivial⟩⟩ ⟨?_,trivial⟩⟩
 iterate 2 focus (first|rfl|(simp;done))
 focus (first|rfl|(show some (Res.box _)=some (Res.box _);rw[<-hg4.1,List.append_nil] at *;done)|(show some (Res.box _)=some (Res.box _);rw[<-Nat.add_assoc,<-zhY,<-hg4.1,List.append_nil]))
 refine ar ?_;refine xah ((y.1+1,z.2)) ⟨(by
    have e:z.1=4:=by omega
    obtain⟨_,q1,q2⟩:=hg3;rw[e,<-Nat.succ_mul] at q1 q2;exact⟨by dsimp only;omega,q1,q2⟩),(by dsimp only;omega),sx ⟨⟨_,rfl,xax ?_⟩,⟨⟨_,rfl,xaw ?_⟩,trivial⟩⟩ ⟨?_,trivial⟩⟩
 iterate 2 focus (first|rfl|(simp;done))
 focus (first|rfl|(have e:z.1=4:=(by omega);rw[e,<-Nat.succ_mul];rfl))
 refine xah ((o.1+1,y.2)) ⟨⟨(fun h=>by
    have e:y.1=w.length:=by omega
    have h1:=hg2.2.1 h;rw[e] at h1;have h2:zbf w (o.1+1)=zbf w o.1:=h1;rw[h2];exact ztO hd.cl h2),(fun h=>by
    have e:y.1=w.length:=by omega
    have h1:=hg2.2.2 h;rw[e] at h1;have h3:=hg1.2 h1s;show o.1+1<=w.length*4+1
    rcases Nat.lt_or_ge o.1 (w.length*4+1) with h4|h4
    ·omega
    ·refine absurd ?_ (Strict.ne h1);rw[zk0 hd.cl h4];exact(zk0 hd.cl (k:=o.1+1) (by omega)).symm)⟩,(by have h3:=hg1.2 h1s;rw[h1s];dsimp only;simp only[if_true];split<;>omega),sx ⟨⟨_,rfl,xaw ?_⟩,trivial⟩ ⟨?_,trivial⟩⟩
 focus (first|rfl|(simp;done))
 focus (first|rfl|(have e:y.1=w.length:=(by omega);rw[e];rfl))
 refine CWp.frzB hk 3 71 0 rfl rfl zt8 rfl ?_;refine evc [] [] ?_;refine rq ?_;rotate_left;all_goals (rw[hg1.1 h1s])
end Go.Proofs.YtlfipehhbdjnjaaGreat
namespace Go.Proofs.YtlfipehhbdjnjaaGreat
open Go
set_option linter.unusedSimpArgs false
set_option linter.unusedVariables false
set_option maxRecDepth 100000
set_option maxHeartbeats 4000000
theorem zwD (w:List Data) (t:Ty) (p:Pat):(zaV w 10 t p 0).1.isSome=isP w t p:=by
 have h:=(zf5 w 10 t p 0).1;rw[h];unfold zb3 isP;rw[Int.zero_add];split
 ·rename_i hz;rw[hz];rfl
 ·rename_i hz;cases hc:(zau w 10 t p&&(decide ((p.size:Int)<=60)&&linP w 10 t p)) with
  |true=>exact absurd hc hz
  |false=>rfl
theorem zfS {w:List Data} (hw:WT w){a k:Int}{p:Pat} (ht:TyIn w.length ⟨a,k⟩) (hok:p.ok):
  FnD Tryz.prog 217 [.d (zao w),.agg [.d (.i a),.d (.i k)],.agg [.d (.i p.op),.d (.i p.ctor),.d (.i p.n),.d (.i p.m),.d (.i p.var),.d (zaj p.kids)]] [] (.tup [.d (zc3 (zds (zaV w 10 ⟨a,k⟩ p 0).1)),.d (.bool (isP w ⟨a,k⟩ p))]) []:=by
 rw[<-zwD];refine bd Tryz.f217 15 [] [] fun w0 F0 own kept hk=>?_;refine bx 3004 ?_;refine bx 3005 ?_;refine ev ?_;refine ab 950 tz3 ?_;refine so ty3 ?_;refine tv ?_;refine wd zpZ (zdU hw 10 (c:=0) (by omega) (by omega) ht hok (by omega) (by omega)) rfl rfl ⟨rfl,trivial⟩ ?_;refine ev ?_;refine rn0 (r2 rfl rfl) (.tup (.cons (.eqd ?_) (.cons (.eqd ?_) .nil)));rotate_left 2;all_goals (rfl)
theorem zgJ {w:List Data} (hw:WT w){a k:Int}{p:Pat} (ht:TyIn w.length ⟨a,k⟩) (hok:p.ok):
  FnD Tryz.prog 138 [.d (zao w),.agg [.d (.i a),.d (.i k)],.agg [.d (.i p.op),.d (.i p.ctor),.d (.i p.n),.d (.i p.m),.d (.i p.var),.d (zaj p.kids)]] [] (.d (.bool (isP w ⟨a,k⟩ p))) []:=by
 refine bd Tryz.f138 17 [] [] fun w0 F0 own kept hk=>?_;refine bx 3004 ?_;refine bx 3005 ?_;refine ev ?_;refine wc zsE (zfS hw ht hok) rfl rfl ?_;refine ev ?_;refine rq ?_;rotate_left;all_goals (rfl)
end Go.Proofs.YtlfipehhbdjnjaaGreat
namespace Go.Proofs.YtlfipehhbdjnjaaGreat
open Go
set_option linter.unusedSimpArgs false
set_option linter.unusedVariables false
set_option maxRecDepth 100000
set_option maxHeartbeats 2000000
theorem zq6 {w:List Data} (hs:WSmall w) (hv:zbC w=true):Dp w:=by
 have hw:=zeo hs hv;have hW:=(zdz w).1 hv;refine⟨hw,fun s hs c hc u hu=>?_,hW.len,fun s hs=>?_⟩
 ·obtain⟨j,rfl,hj⟩:=zdL (d:=s / 4) (k:=((s % 4:Nat):Int)) hc;have hu':u∈zad w ⟨((s / 4:Nat):Int),((s % 4:Nat):Int)⟩ (j:Int):=hu;simp only[zad,Int.toNat_natCast,List.mem_map] at hu';obtain⟨x,hx,rfl⟩:=hu';have hco:=hW.ctor _ (zai (l:=w) (i:=s / 4) (by omega)) _ (zai hj);simp only[zbW,xad,Bool.not_eq_true',List.any_eq_false] at hco;have hax:zb8 w.length x=true:=by
   have:=hco.2.2.2 x hx;cases h:zb8 w.length x with
   |true=>rfl
   |false=>rw[h] at this;exact absurd rfl this
  have hci:=hco.2.2.1;simp only[zb8,zaF,Bool.or_eq_true,xad,decide_eq_true_eq,and_true] at hax hci;have key:∀y:Ty,(y.data = -1\/(0<=y.data/\y.data<w.length/\0<=y.index/\y.index<=3))->InS (w.length*4) y:=by
   rintro ⟨a,k⟩ h
   rcases h with h|⟨h1,h2,h3,h4⟩
   ·exact .inl h
   ·refine .inr ⟨?_, ?_⟩
    ·simp only[zcW] at *;omega
    ·obtain⟨i,rfl⟩:=Int.eq_ofNat_of_zero_le h1;obtain⟨m,rfl⟩:=Int.eq_ofNat_of_zero_le h3;simp only[zcW,Int.toNat_natCast];exact ziW (by simp only at h4;omega)
  refine key _ ?_;unfold zcB zcM;split
  ·dsimp only;rcases hax with h|h
   ·omega
   ·right
    refine⟨by omega,by omega, ?_⟩;split<;>omega
  ·rcases hax with h|h
   ·exact .inl h.1
   ·right;omega
 ·have h1:=zgC (tyS s).index (nth w (tyS s).data.toNat).ctors 0;have h2:=(hW.data _ (zai (l:=w) (i:=s / 4) (by omega))).2.2;show(za1 (tyS s).index 0 (nth w (tyS s).data.toNat).ctors).length<=4
  have e:(tyS s).data.toNat=s / 4:=by simp only[tyS,Int.toNat_natCast]
  rw[e] at h1 ⊢;omega
theorem zbE {n:Nat}{t:Ty} (h:InS (n*4) t):TyIn n t:=by
 rcases h with h|⟨h1,h2⟩
 ·exact .inl h
 ·refine .inr ⟨zcW t / 4, ?_,by omega⟩;have:=congrArg Ty.data h2;exact this.symm
theorem zbh {w:List Data} (hd:Dp w){t:Ty}{c:Int} (ht:InS (w.length*4) t) (hc:c∈zaA w t):∀u∈zad w t c,InS (w.length*4) u:=by
 rcases ht with h|⟨h1,h2⟩
 ·unfold zaA at hc;rw[if_pos h] at hc;simp at hc
 ·have hx:=hd.cl _ h1;rw[h2] at hx;have:c∈za5 w t:=by
   unfold zaA at hc;split at hc
   ·simp at hc
   ·exact hc
  exact hx c this
theorem zjZ {w:List Data}{a k k' c:Int}:(zad w ⟨a,k⟩ c).length=(zad w ⟨a,k'⟩ c).length/\∀i,(nth (zad w ⟨a,k⟩ c) i).data=(nth (zad w ⟨a,k'⟩ c) i).data:=by
 have hd:∀(k:Int) (t:Ty),(zcB k t).data=t.data:=fun k t=>by unfold zcB;split<;>rfl
 refine⟨by simp[zad],fun i=>?_⟩;unfold zad;dsimp only;generalize nth (nth w a.toNat).ctors c.toNat=q;simp only[nth,List.getD_eq_getElem?_getD,List.getElem?_map];cases q.args[i]? with
 |none=>rfl
 |some x=>simp only[Option.map_some,Option.getD_some,hd]
structure PKids (w:List Data) (n:Nat) (a k k':Int) (p:Pat):Prop where
 len5:p.op=5->p.kids.length=2
 len6:p.op=6->p.kids.length=1
 len4:p.op=4->p.kids.length=(zad w ⟨a,k⟩ p.ctor).length
 one:p.op=5\/p.op=6->zau w n ⟨a,k'⟩ (nth p.kids 0)=true
 two:p.op=5->zau w n ⟨a,k'⟩ (nth p.kids 1)=true
 arg:p.op=4->∀i,i<(zad w ⟨a,k⟩ p.ctor).length->zau w n ⟨(nth (zad w ⟨a,k⟩ p.ctor) i).data,(nth (zad w ⟨a,k'⟩ p.ctor) i).index⟩ (nth p.kids i)=true
 mem:p.op=4->p.ctor∈zaA w ⟨a,k'⟩
 ops:p.op=1\/p.op=2\/(p.op=3/\a = -1)\/p.op=4\/p.op=5\/p.op=6
theorem zh2 {w:List Data}{n:Nat}{a k k':Int}{p:Pat} (h:zau w (n+1) ⟨a,k'⟩ p=true):PKids w n a k k' p:=by
 obtain⟨ho,hl⟩:=zbg h;have hk:=fun i (hi:i<p.kids.length)=>zbj h hi;have ht4:p.op=4->zah w ⟨a,k'⟩ p=zad w ⟨a,k'⟩ p.ctor:=fun h=>by unfold zah;rw[if_pos h]
 have ht5:p.op=5->zah w ⟨a,k'⟩ p=[⟨a,k'⟩,⟨a,k'⟩]:=fun h=>by unfold zah;rw[if_neg (by omega),if_pos h]
 have ht6:p.op=6->zah w ⟨a,k'⟩ p=[⟨a,k'⟩]:=fun h=>by unfold zah;rw[if_neg (by omega),if_neg (by omega),if_pos h]
 have l5:p.op=5->p.kids.length=2:=fun h=>by rw[hl,ht5 h];rfl
 have l6:p.op=6->p.kids.length=1:=fun h=>by rw[hl,ht6 h];rfl
 refine⟨l5,l6,fun h=>by rw[hl,ht4 h,zjZ.1],fun h=>?_,fun h=>?_,fun h i hi=>?_,zck ho, ?_⟩
 ·rcases h with h|h
  ·have:=hk 0 (by rw[l5 h];omega);rwa [ht5 h] at this
  ·have:=hk 0 (by rw[l6 h];omega);rwa [ht6 h] at this
 ·have:=hk 1 (by rw[l5 h];omega);rwa [ht5 h] at this
 ·rw[(zjZ (k':=k')).1] at hi;have:=hk i (by rw[hl,ht4 h];exact hi);rw[ht4 h] at this;rw[(zjZ (k':=k')).2];exact this
 ·unfold ownP at ho;have:=of_decide_eq_true ho;obtain⟨_,_,_,_,q⟩:=this;simp only at q;omega
def Few (w:List Data):Prop:=∀t c,c∈zaA w t->TyIn w.length t->(zad w t c).length<=3/\∀u∈zad w t c,TyIn w.length u
theorem Pat.cs_cc (l:List Pat):Pat.cs l=l.map Pat.cc:=by
 rw[Pat.cs_eq];exact List.map_congr_left (fun v _=>Pat.c_eq v)
theorem zeG {w:List Data} (hd:Dp w):FnD Tryz.prog 67 [.d (zao w)] [] (.d (sPtr w (zam w))) []:=by
 refine bd Tryz.f67 8 [] [999999] fun w0 F0 own kept hk=>?_;refine wc zvm (zlJ hd) rfl rfl ?_;refine bu [0,1] [_,_] zwE ?_;refine bx 3007 ?_;refine ev ?_;refine CWp.frzB hk 2 3007 0 rfl rfl rfl rfl ?_;refine CWp.ret ?_;focus (refine rn0 (r1 rfl) (.refl _);all_goals (first|rfl|(simp[];done)|(simp_all;done)|(simp_all;omega)|omega))
theorem zbl {w:List Data}{a k:Int} (h:zbJ w ⟨a,k⟩=true):zbC w=true/\TyIn w.length ⟨a,k⟩/\(a≠ -1->0<=a/\a.toNat<w.length/\0<=k/\k<=3):=by
 unfold zbJ at h;rw[xad] at h;obtain⟨h1,h2⟩:=h;simp only[zen,zaF,Bool.or_eq_true,xad,decide_eq_true_eq,and_true] at h2;refine⟨h1, ?_,fun ha=>by omega⟩;rcases h2 with h|h
 ·exact .inl h.1
 ·exact .inr ⟨a.toNat,by simp only;omega,by omega⟩
theorem zkf {n d j:Nat} (hd:d<n) (hj:j<4):InS (n*4) ⟨(d:Int),(j:Int)⟩:=
 .inr ⟨by simp only[zcW,Int.toNat_natCast];omega,by simp only[zcW,Int.toNat_natCast];exact ziW hj⟩
def zbP (w:List Data) (a k:Int) (p:Pat):Bool:=zbJ w ⟨a,k⟩&&isP w ⟨a,k⟩ p
structure PVal (w:List Data) (a k:Int) (p:Pat):Prop where
 dp:Dp w
 tin:TyIn w.length ⟨a,k⟩
 shape:zau w 10 ⟨a,k⟩ p=true
 rng:a≠ -1->0<=a/\a.toNat<w.length/\0<=k/\k<=3
theorem pval {w:List Data} (hs:WSmall w){a k:Int}{p:Pat} (h:zbP w a k p=true):PVal w a k p:=by
 unfold zbP at h;rw[xad] at h;obtain⟨h1,h2,h3⟩:=zbl h.1;have h4:=h.2;unfold isP at h4;simp only[xad] at h4;exact⟨zq6 hs h1,h2,h4.1,h3⟩
theorem zft {w:List Data} (hs:WSmall w){a k:Int}{p:Pat} (hok:p.ok):
  FnD Tryz.prog 66 [.d (zao w),.agg [.d (.i a),.d (.i k)],.agg [.d (.i p.op),.d (.i p.ctor),.d (.i p.n),.d (.i p.m),.d (.i p.var),.d (zaj p.kids)]] [] (.d (.bool (zbP w a k p))) []:=by
 refine bd Tryz.f66 16 [] [] fun w0 F0 own kept hk=>?_;refine bx 3004 ?_;refine bx 3005 ?_;refine ev ?_;refine wc zso (zgI hs) rfl rfl ?_;refine ev ?_;refine sq ?_ ?_<;>intro h1 h1p h1s;refine Walk.call (cr:=[]) zsr (zgJ (zeo hs (zbl h1s).1) (zbl h1s).2.1 hok) rfl (.some rfl rfl h1) rfl rfl (LeL.refl _) trivial rfl rfl rfl ?_;refine evs [] [(10,true)] ?_ ⟨⟨_,rfl,h1⟩,trivial⟩;refine rq ?_;rotate_left;refine rq ?_;rotate_left;all_goals (refine congrArg D.bool ?_;unfold zbP;simp_all)
theorem zhy {w:List Data}{a b:Int} (hs:WSmall w):FnD Tryz.prog 126 [.d (zao w),.agg [.d (.i a),.d (.i b)]] [] (.d (.bool (zbJ w ⟨a,b⟩))) []:=by
 rw[<-zu5];exact zlk hs
theorem zfJ {w:List Data} (hs:WSmall w){a k:Int}{p:Pat} (hok:p.ok) (hb:p.size<=1000000000000):
  FnD Tryz.prog 157 [.d (zao w),.agg [.d (.i a),.d (.i k)],.agg [.d (.i p.op),.d (.i p.ctor),.d (.i p.n),.d (.i p.m),.d (.i p.var),.d (zaj p.kids)]] [] (.d (.bool (zbP w a k p))) []:=by
 refine bd Tryz.f157 16 [] [] fun w0 F0 own kept hk=>?_;refine bx 3004 ?_;refine bx 3005 ?_;refine ev ?_;refine wc zsq (zhy hs) rfl rfl ?_;refine ev ?_;refine sq ?_ ?_<;>intro h1 h1p h1s;refine Walk.call (cr:=[]) zmg (zfO (zeo hs (zbl h1s).1) (zbl h1s).2.1 hok hb) rfl (.some rfl rfl h1) rfl rfl (LeL.refl _) trivial rfl rfl rfl ?_;refine evs [] [(10,true)] ?_ ⟨⟨_,rfl,h1⟩,trivial⟩;refine rq ?_;rotate_left;refine rq ?_;rotate_left;all_goals (refine congrArg D.bool ?_;unfold zbP;simp_all)
theorem zjL:FnD Tryz.prog 118 [] [] (.agg [.d (.i 1),.d (.i 0),.d (.i 0),.d (.i 0),.d (.i 0),.d (.sl [])]) []:=by
 refine bd Tryz.f118 2 [] [] fun w0 F0 own kept hk=>?_;refine ab 3000 tz36 ?_;refine tv ?_;refine bu [0] [_] st36 ?_;refine so ty36 ?_;refine tv ?_;focus (refine rn0 (.cons (.cellA ty36 rfl rfl rfl) .nil) (.agg (.cons (.eqd ?_) (.cons (.eqd ?_) (.cons (.eqd ?_) (.cons (.eqd ?_) (.cons (.eqd ?_) (.cons (.nild ?_) .nil)))))));all_goals (rfl))
structure Sm (n:Nat) (w:List Data):Prop where
 len:w.length<=n
 data:∀d∈w,d.name.length<=n/\d.ctors.length<=n
 ctor:∀d∈w,∀c∈d.ctors,c.name.length<=n/\c.args.length<=n
theorem Sm.small {n:Nat}{w:List Data} (h:Sm n w) (hn:n<=1000000000000):WSmall w:=
 ⟨Nat.le_trans h.len hn,fun d hd=>⟨Nat.le_trans (h.data d hd).1 hn,Nat.le_trans (h.data d hd).2 hn⟩,fun d hd c hc=>⟨Nat.le_trans (h.ctor d hd c hc).1 hn,Nat.le_trans (h.ctor d hd c hc).2 hn⟩⟩
structure WorldD (w:List Data):Prop where
 sm:Sm 10 w
 small:WSmall w
 valid:zbC w=true
 one:1<=w.length
theorem zob {w:List Data} (hw:WT w){n:Nat}{f:Nat->Nat}{a k c:Int} (ht:TyIn w.length ⟨a,k⟩) (hc:c∈zaA w ⟨a,k⟩) (hn:n<=100) (hb:∀s,f s<=100000) (hin:∀u∈zad w ⟨a,k⟩ c,InS n u):
  FnD Tryz.prog 227 [.d (zao w),.d (zec n f),.agg [.d (.i a),.d (.i k)],.d (.i c)] [] (.d (.i (most w f ⟨a,k⟩ c))) []:=by
 have hl:=zfj hw ht hc;have hd:=zpy hb (by omega);refine bd Tryz.f227 37 [] [] fun w0 F0 own kept hk=>?_;refine bx 3006 ?_;refine ev ?_;refine wc zdO (zbM hw ht hc) rfl rfl ?_;refine ev ?_;refine xam (ι:=List (Ty)×List (Ty)×(Nat)) hk (fun x=>[(11,.d (.i (x.1.length:Int))),(10,.d (.i (x.2.2:Int)))]) [8,12,17,18,19,20,21,22,23,24,25,26,27,28,29,30,31,32,33,34] (fun x=>[]) (fun x=>x.1++x.2.1=zad w ⟨a,k⟩ c/\x.2.2<=100000/\zbu f x.2.2 x.2.1=zbu f 0 (zad w ⟨a,k⟩ c)) (fun x=>x.2.1.length) ([],zad w ⟨a,k⟩ c,0) ⟨by simp,by simp,rfl⟩ ⟨⟨_,rfl,xax ?_⟩,⟨⟨_,rfl,xax ?_⟩,trivial⟩⟩ trivial (fun x=>rfl) (fun x hg1=>?_);iterate 2 focus (first|rfl|(simp;done)|omega|(dsimp only;omega))
 obtain⟨pre,rest,m⟩:=x;dsimp only at hg1 ⊢;refine evc [] [] ?_;refine sq ?_ ?_<;>intro h1 h1p h1s<;>(try simp only[Q] at h1p);rcases rest with _|⟨y,rest⟩
 ·exfalso;simp_all
 have hdy:=hd y;have hye:dv f ⟨y.data,y.index⟩=dv f y:=rfl;refine xaP zaK .none rfl rfl rfl rfl (zaN hg1.1) rfl ?_;refine ev ?_;refine wc zgp (zcN (f:=f) (a:=y.data) (k:=y.index) (hin y (by rw[<-hg1.1];simp)) hn) rfl rfl ?_;refine ev ?_;refine sq ?_ ?_<;>intro h2 h2p h2s<;>(try simp only[Q] at h2p);refine rq ?_;rotate_left;refine sq ?_ ?_<;>intro h3 h3p h3s<;>(try simp only[Q] at h3p);refine ar ?_;refine xah ((pre++[y],rest,max m (dv f y))) ⟨⟨(by have hz:=hg1.1;rw[<-hz];simp),⟨(by have:=hd y;dsimp only;omega),(by rw[<-hg1.2.2];simp only[zbu];rw[if_neg (by have:=hd y;omega)])⟩⟩,(by simp),sx ⟨⟨_,rfl,xax ?_⟩,⟨⟨_,rfl,xax ?_⟩,trivial⟩⟩ trivial⟩;iterate 2 focus (first|rfl|(simp;done)|omega|(dsimp only;omega))
 refine ar ?_;refine xah ((pre++[y],rest,max m (dv f y))) ⟨⟨(by have hz:=hg1.1;rw[<-hz];simp),⟨(by have:=hd y;dsimp only;omega),(by rw[<-hg1.2.2];simp only[zbu];rw[if_neg (by have:=hd y;omega)])⟩⟩,(by simp),sx ⟨⟨_,rfl,xax ?_⟩,⟨⟨_,rfl,xax ?_⟩,trivial⟩⟩ trivial⟩;iterate 2 focus (first|rfl|(simp;done)|omega|(dsimp only;omega))
 have hrest:rest=[]:=by
  rcases rest with _|⟨a,b⟩
  ·rfl
  ·exfalso;have hz:=congrArg List.length (hg1.1);simp only[xaa,xab,xac] at hz;omega
 subst hrest;refine ar ?_;refine rq ?_;rotate_left;all_goals (refine congrArg D.i ?_;unfold most;rw[<-hg1.2.2];first|(simp only[zbu];rw[if_pos (by omega)];rfl)|(simp only[zbu];omega))
def Low (w:List Data):Prop:=∀s,zam w s<=3
structure WorldL (w:List Data):Prop where
 dp:Dp w
 low:Low w
 few:Few w
theorem ztf {w:List Data} (hd:Dp w){t:Ty} (ht:InS (w.length*4) t) (hne:¬t.data = -1) (h:0<dv (zam w) t):∃c∈zaA w t,0<most w (zam w) t c/\most w (zam w) t c=dv (zam w) t:=by
 obtain⟨h1,h2⟩:Snd w (zam w)/\Cmp w (w.length*4+1) (zam w):=zeg hd.cl (w.length*4+1);have hcmp:∀k,Cmp w k (zam w):=fun k=>by
  have h3:=(zeg hd.cl (max k (w.length*4+1))).2;rw[zk0 hd.cl (Nat.le_max_right _ _)] at h3;exact fun s hs d hdk hh=>h3 s hs d (by omega) hh
 have hv:zaA w t=za5 w t:=by unfold zaA;rw[if_neg hne]
 have hh:Hd w (dv (zam w) t) t:=zpz h1 ht h;rcases hd0:dv (zam w) t with _|e
 ·omega
 rw[hd0] at hh;rcases hh with hh|⟨c,hc,_,hu⟩
 ·exact absurd hh hne
 have hin:=zbh hd ht (c:=c) (by rw[hv];exact hc);have hp:=zks (f:=zam w) (l:=zad w t c) (m:=0) (k:=e) (Nat.zero_le _) (fun u hu'=>zms (hcmp e) (hin u hu') (hu u hu'));refine⟨c,by rw[hv];exact hc,hp.1, ?_⟩;have hle:most w (zam w) t c<=e+1:=hp.2;have hpos:0<most w (zam w) t c:=hp.1

 have hsn:=zh0 (f:=zam w) (l:=zad w t c) (m:=0) hp.1;have hH:Hd w (most w (zam w) t c) t:=by
  obtain⟨q,hq⟩:∃q,most w (zam w) t c=q+1:=⟨most w (zam w) t c-1,by omega⟩;rw[hq];refine .inr ⟨c,hc,hne,fun u hu'=>?_⟩;have hx:=hsn.2 u hu';have hlt:dv (zam w) u<most w (zam w) t c:=hx.2;exact Hd_le (by omega) (zpz h1 (hin u hu') hx.1)
 have hge:=(zms (hcmp _) ht hH).2;omega
structure Deep (w:List Data) (n:Nat) (t:Ty) (m:Int):Prop where
 ins:InS (w.length*4) t
 pos:0<dv (zam w) t
 le:dv (zam w) t<=n
 ml:m<=n
def zax (w:List Data) (f:Nat->Nat):Nat->Ty->Pat->Bool
 |0,_,_=>true
 |n+1,t,p=>
  if p.op=1\/p.op=2 then decide (dv f t=0)
  else if p.op=5 then zax w f n t (nth p.kids 0)&&zax w f n t (nth p.kids 1)
  else !(all2 (fun u q=> !zax w f n u q) (zah w t p) p.kids)
theorem za6 {w:List Data}{f:Nat->Nat}{n:Nat}{t:Ty}{p:Pat}:zax w f (n+1) t p=if p.op=1\/p.op=2 then decide (dv f t=0)
  else if p.op=5 then zax w f n t (nth p.kids 0)&&zax w f n t (nth p.kids 1)
  else !(all2 (fun u q=> !zax w f n u q) (zah w t p) p.kids):=rfl
theorem zd6 {α β:Type} [Inhabited α] [Inhabited β]{f:α->β->Bool}{a:List α}{b:List β} (hl:a.length=b.length) (h:all2 f a b=true):∀i,i<a.length->f (nth a i) (nth b i)=true:=fun i hi=>by
 cases hf:f (nth a i) (nth b i) with
 |true=>rfl
 |false=>rw[zbm hi hl hf] at h;exact absurd h (by simp)
theorem zo4 {w:List Data}{t:Ty}{c:Int} (h:c∈zaA w t):c∈za5 w t:=by
 unfold zaA at h;split at h
 ·simp at h
 ·exact h
def zqc (w:List Data) (a k:Int) (p:Pat):Bool:=zbP w a k p&&zax w (zam w) 10 ⟨a,k⟩ p
theorem zhr {w:List Data} (hw:WT w){a k:Int}{p:Pat} (ht:TyIn w.length ⟨a,k⟩):
  FnD Tryz.prog 141 [.d (zao w),.agg [.d (.i a),.d (.i k)],.agg [.d (.i p.op),.d (.i p.ctor),.d (.i p.n),.d (.i p.m),.d (.i p.var),.d (zaj p.kids)]] [] (.d (zbw (zcu w ⟨a,k⟩ p))) []:=by
 have hsh:=zjG hw (p:=p) ht;refine bd Tryz.f141 17 [] [] fun w0 F0 own kept hk=>?_;refine bx 3004 ?_;refine bx 3005 ?_;refine ev ?_;refine wc zpV (hsh) rfl rfl ?_;refine ev ?_;refine rq ?_;rotate_left;all_goals (rfl)
theorem zbz {w:List Data} (hd:Dp w){f:Nat->Nat}:∀(n:Nat){a k:Int}{p:Pat},zau w n ⟨a,k⟩ p=true->InS (w.length*4) ⟨a,k⟩->p.ok->
  FnD Tryz.prog 68 [.d (sPtr w f),.agg [.d (.i a),.d (.i k)],.agg [.d (.i p.op),.d (.i p.ctor),.d (.i p.n),.d (.i p.m),.d (.i p.var),.d (zaj p.kids)]] [] (.d (.bool (zax w f n ⟨a,k⟩ p))) []
 |0,a,k,p,h,_,_=>by simp[zau] at h
 |n+1,a,k,p,h,hi,hok=>by
  rw[Pat.ok_iff] at hok;have hw:=hd.wt;have hw4:=hd.four;have ht:=zbE hi;have pk:=zh2 (k:=k) h;obtain⟨ho,hlen⟩:=zbg h;have hkid:=fun i (hi:i<p.kids.length)=>zbj h hi;have hops:=pk.ops;have l5:=pk.len5;have hk1:=pk.one;have hk2:=pk.two;have hsT:zcu w ⟨a,k⟩ p=zah w ⟨a,k⟩ p:=by
   unfold zcu;rw[if_neg (fun h=>h.2 (pk.mem h.1))]
  have hkt:=zhr hw (p:=p) ht;rw[hsT] at hkt;have hins:∀i,i<(zah w ⟨a,k⟩ p).length->InS (w.length*4) (nth (zah w ⟨a,k⟩ p) i):=fun i hl=>by
   have hm:=zai hl;unfold zah at hm ⊢;split
   ·rename_i h4;rw[if_pos h4] at hm;exact zbh hd hi (pk.mem h4) _ hm
   ·rename_i h4;rw[if_neg h4] at hm;split
    ·rename_i h5;rw[if_pos h5] at hm;simp only[List.mem_cons,List.not_mem_nil,or_false,or_self] at hm;rw[hm];exact hi
    ·rename_i h5;rw[if_neg h5] at hm;split
     ·rename_i h6;rw[if_pos h6] at hm;simp only[List.mem_cons,List.not_mem_nil,or_false] at hm;rw[hm];exact hi
     ·rename_i h6;rw[if_neg h6] at hm;simp at hm
  have htl:(zah w ⟨a,k⟩ p).length<=1000000000000:=by have:=hok.1;omega
  refine bd Tryz.f68 61 [] [] fun w0 F0 own kept hk=>?_;refine bx 3004 ?_;refine bx 3005 ?_;refine ev ?_;refine sq ?_ ?_<;>intro h1 h1p h1s<;>(try simp only[Q,Pat.cs_len] at h1p);refine sq ?_ ?_<;>intro h2 h2p h2s<;>(try simp only[Q,Pat.cs_len] at h2p);refine wc zeK (zdI (n:=w.length*4) (f:=f) hi (by omega)) rfl rfl ?_;refine evd [] [] ?_;refine dr ?_;refine rq ?_;rotate_left;refine sq ?_ ?_<;>intro h3 h3p h3s<;>(try simp only[Q,Pat.cs_len] at h3p);refine xaP (i:=0) sl34 .none rfl rfl rfl rfl (zas (by omega)) rfl ?_;refine evd [] [] ?_;refine wc zdW (zbz hd n (hk1 (by omega)) hi (Pats.ok_mem hok.2 _ (zai (i:=0) (by omega)))) rfl rfl ?_;refine evd [] [] ?_;refine sq ?_ ?_<;>intro h4 h4p h4s<;>(try simp only[Q,Pat.cs_len] at h4p);refine xaP (i:=1) sl34 (.some rfl rfl h4) rfl rfl rfl rfl (zas (by omega)) rfl ?_;refine evd [] [(30,true)] ?_ ⟨⟨_,rfl,h4⟩,trivial⟩;refine Walk.call (cr:=[]) zdW (zbz hd n (hk2 (by omega)) hi (Pats.ok_mem hok.2 _ (zai (i:=1) (by omega)))) rfl (.some rfl rfl h4) rfl rfl (LeL.refl _) trivial rfl rfl rfl ?_;refine evd [] [(30,true)] ?_ ⟨⟨_,rfl,h4⟩,trivial⟩;refine dr ?_;refine rq ?_;rotate_left;refine dr ?_;refine rq ?_;rotate_left;refine wc zpO (hkt) rfl rfl ?_;refine evd [] [] ?_;refine dr ?_;refine xam (ι:=Nat) hk (fun i=>[(47,.d (.i (i:Int)))]) [6,7,8,48,49,50,51,52,53,54,55,56,57,58,59,60] (fun i=>[]) (fun i=>i<=(zah w ⟨a,k⟩ p).length/\∀i',i'<i->zax w f n (nth (zah w ⟨a,k⟩ p) i') (nth p.kids i')=false) (fun i=>(zah w ⟨a,k⟩ p).length-i) 0 ⟨by omega,fun _ h=>absurd h (by omega)⟩ ⟨⟨_,rfl,xax ?_⟩,trivial⟩ trivial (fun x=>rfl) (fun i hg1=>?_);focus (rfl)
  refine evc [] [] ?_;refine sq ?_ ?_<;>intro h5 h5p h5s<;>(try simp only[Q,Pat.cs_len] at h5p);refine xaP zaK .none rfl rfl rfl rfl (zaz (by omega)) rfl ?_;refine ev ?_;refine ab 3008 tz25 ?_;refine ev ?_;refine so ty25 ?_;refine tv ?_;refine xaP sl34 .none rfl rfl rfl rfl (zas (by omega)) rfl ?_;refine evd [] [] ?_;refine wc zdW (zbz hd n (hkid i (by omega)) (hins i (by omega)) (Pats.ok_mem hok.2 _ (zai (by omega)))) rfl rfl ?_;refine dr ?_;refine sq ?_ ?_<;>intro h6 h6p h6s<;>(try simp only[Q,Pat.cs_len] at h6p);refine rq ?_;rotate_left;refine ar ?_;refine xah (i+1) ⟨⟨by omega,zaM hg1.2 (by assumption)⟩,(by omega),sx ⟨⟨_,rfl,xax ?_⟩,trivial⟩ trivial⟩;focus (rfl)
  refine rq ?_;rotate_left;refine sq ?_ ?_<;>intro h7 h7p h7s<;>(try simp only[Q,Pat.cs_len] at h7p);refine wc zeK (zdI (n:=w.length*4) (f:=f) hi (by omega)) rfl rfl ?_;refine evd [] [] ?_;refine dr ?_;refine rq ?_;rotate_left;refine sq ?_ ?_<;>intro h8 h8p h8s<;>(try simp only[Q,Pat.cs_len] at h8p);refine xaP (i:=0) sl34 .none rfl rfl rfl rfl (zas (by omega)) rfl ?_;refine evd [] [] ?_;refine wc zdW (zbz hd n (hk1 (by omega)) hi (Pats.ok_mem hok.2 _ (zai (i:=0) (by omega)))) rfl rfl ?_;refine evd [] [] ?_;refine sq ?_ ?_<;>intro h9 h9p h9s<;>(try simp only[Q,Pat.cs_len] at h9p);refine xaP (i:=1) sl34 (.some rfl rfl h9) rfl rfl rfl rfl (zas (by omega)) rfl ?_;refine evd [] [(30,true)] ?_ ⟨⟨_,rfl,h9⟩,trivial⟩;refine Walk.call (cr:=[]) zdW (zbz hd n (hk2 (by omega)) hi (Pats.ok_mem hok.2 _ (zai (i:=1) (by omega)))) rfl (.some rfl rfl h9) rfl rfl (LeL.refl _) trivial rfl rfl rfl ?_;refine evd [] [(30,true)] ?_ ⟨⟨_,rfl,h9⟩,trivial⟩;refine dr ?_;refine rq ?_;rotate_left;refine dr ?_;refine rq ?_;rotate_left;refine wc zpO (hkt) rfl rfl ?_;refine evd [] [] ?_;refine dr ?_;refine xam (ι:=Nat) hk (fun i=>[(47,.d (.i (i:Int)))]) [6,7,8,48,49,50,51,52,53,54,55,56,57,58,59,60] (fun i=>[]) (fun i=>i<=(zah w ⟨a,k⟩ p).length/\∀i',i'<i->zax w f n (nth (zah w ⟨a,k⟩ p) i') (nth p.kids i')=false) (fun i=>(zah w ⟨a,k⟩ p).length-i) 0 ⟨by omega,fun _ h=>absurd h (by omega)⟩ ⟨⟨_,rfl,xax ?_⟩,trivial⟩ trivial (fun x=>rfl) (fun i hg1=>?_);focus (rfl)
  refine evc [] [] ?_;refine sq ?_ ?_<;>intro h10 h10p h10s<;>(try simp only[Q,Pat.cs_len] at h10p);refine xaP zaK .none rfl rfl rfl rfl (zaz (by omega)) rfl ?_;refine ev ?_;refine ab 3008 tz25 ?_;refine ev ?_;refine so ty25 ?_;refine tv ?_;refine xaP sl34 .none rfl rfl rfl rfl (zas (by omega)) rfl ?_;refine evd [] [] ?_;refine wc zdW (zbz hd n (hkid i (by omega)) (hins i (by omega)) (Pats.ok_mem hok.2 _ (zai (by omega)))) rfl rfl ?_;refine dr ?_;refine sq ?_ ?_<;>intro h11 h11p h11s<;>(try simp only[Q,Pat.cs_len] at h11p);refine rq ?_;rotate_left;refine ar ?_;refine xah (i+1) ⟨⟨by omega,zaM hg1.2 (by assumption)⟩,(by omega),sx ⟨⟨_,rfl,xax ?_⟩,trivial⟩ trivial⟩;focus (rfl)
  refine rq ?_;rotate_left;all_goals (refine congrArg D.bool ?_;rw[za6];first|(rw[if_pos (by omega)];exact decide_eq_decide.2 (by omega))|(rw[if_neg (by omega),if_pos (by omega)];first|rfl|(simp_all;done))|(rw[if_neg (by omega),if_neg (by omega)];first|(rw[zbm (i:=i) (by omega) (by omega) (by show(!_)=false;rw[Bool.not_eq_false'];assumption)];rfl)|(rw[zbn (by omega) (fun x hx=>by have:=hg1.2 x (by omega);simp_all)];rfl)))
end Go.Proofs.YtlfipehhbdjnjaaGreat
namespace Go.Proofs.YtlfipehhbdjnjaaGreat
open Go
set_option linter.unusedSimpArgs false
set_option linter.unusedVariables false
section
variable {c:Ctx}{all:Array Oper}{chk:List Rec->Prop}{os:List Oper}{recs:List Rec}{env:Env}{hp:Hp}{Q:St->Prop}
variable {ty:Nat}{pos:String}{af:Array Edge}{g:Option (Nat×Bool)}{pg:List (Nat×AV)}{t:TypeId}{x:Operand}
theorem Walk.clearB {id off n k e yb:Nat}{cs cs' zs:List AV} (ht:SlT c.P t e k yb) (hz:TyZ c.P e k zs) (hzk:zs.length=k) (hk:0<k) (h1:zhi zs=true) (hg:GH all env g pg) (hx:opd env x=some (.mo id off n))
  (hb:getH hp id=some (.box cs)) (hput:putC cs off (zaI n zs)=some cs')
  (hn:Walk c all chk os (zat (pg++opF x (.mo id off n)) [(id,.box cs)] [] ⟨none,[(id,some (.box cs'))]⟩::recs) ⟨env,(id,some (.box cs'))::hp⟩ Q):
  Walk c all chk (⟨none,.call ⟨.builtin .clear,#[x],#[t]⟩,ty,pos,af,g⟩::os) recs ⟨env,hp⟩ Q:=by
 refine⟨pg++opF x (.mo id off n),[(id,.box cs)],[],_, ?_,zaD hg.facts (za2 hx),hh1 hb,by simp,hn⟩;intro s a w hrel hp' hh _ K Q' hK;obtain⟨G,hr⟩:=hrel;have hbx:=hh1' hh;have e1:=hr.opd (za3 hx (fun p hm=>hp' p (by simp[hm])));obtain⟨bl,o,cap,hl,he,hcap,ho⟩:=e1.mo_eq;obtain⟨b',us,et,h2,h3,h4,h5,h6⟩:=hr.heap id _ hbx;obtain rfl:=zcP hl.1 h2;have hall:PreR G (tokf s.hp) w cs us:=⟨h4,h6⟩;unfold wpO;rw[if_pos (hg.gf.wanted hr (fun p hm=>hp' p (by simp[hm])))];unfold Oper.wp;rcases Nat.eq_zero_or_pos n with hn0|hn0
 ·subst hn0;have hcs:cs'=cs:=by
   simp only[zaI] at hput;cases cs<;>simp only[putC,Option.some.injEq] at hput<;>exact hput.symm
  subst hcs;have hrun:(execOp a.eval ⟨none,.call ⟨.builtin .clear,#[x],#[t]⟩,ty,pos,af,g⟩).run c.P w = .ok (.value (.tuple #[])) w:=by
   simp[execOp,resolve,invoke,builtin,he,Builtin.clear_,run_underlying ht.und]
  rw[hrun,Oper.upon_value];refine hK _ _ ⟨G, ?_⟩;have hsame:∀i,getH ((id,some (Res.box cs'))::s.hp) i=getH s.hp i:=fun i=>by
   rw[zan];split
   ·rename_i e;subst e;exact hbx.symm
   ·rfl
  have htk:tokf ((id,some (Res.box cs'))::s.hp)=tokf s.hp:=by funext i;unfold tokf;rw[hsame]
  have:R c G ⟨s.env,(id,some (Res.box cs'))::s.hp⟩ a w:=
   ⟨hr.size,hr.defers,fun i v h=>by rw[htk];exact hr.slots i v h,fun i r h=>by rw[htk];exact hr.heap i r (by rw[<-hsame];exact h),
   fun i j h1 h2=>hr.disj i j (by rw[<-hsame];exact h1) (by rw[<-hsame];exact h2),fun i h=>hr.new i (by rw[<-hsame];exact h),hr.frm,hr.top,
   fun i l h'=>by
    show(G.loc i).head?=l.head?/\(getH ((id,some (Res.box cs'))::s.hp) i).isSome/\tokf ((id,some (Res.box cs'))::s.hp) i=none
    rw[hsame,htk];exact hr.kept i l h'⟩
  exact this.putNone
 ·obtain rfl:o=off:=ho.resolve_left (by omega);obtain⟨ie,z,z1,z2,z3,z4⟩:=hz.inf;have hz0:=zb5 (G:=G) (T:=tokf s.hp) (w:=w) z4;have hzr:=zfg (by simpa using hz0) n (by omega);have hzs:z.cells.size=k:=by have:=hz0.size;simp at this;omega
  let vl:List Value:=(Builtin.zeroCells z.cells n).toList
  have hvl:vl.toArray=(Array.range (n*zs.length)).map (z.cells[· % z.cells.size]!):=by
   simp only[vl,Builtin.zeroCells,Array.toArray_toList];rw[hzs,hzk]
  have hvr:AllR G (tokf s.hp) w (zaI n zs) vl.toArray:=by rw[hvl];exact hzr
  have hne:zaI n zs≠[]:=fun h=>by
   have:=congrArg List.length h;rw[zeC] at this;have h2:0<n*zs.length:=Nat.mul_pos hn0 (by omega);simp only[xai] at this;omega
  obtain⟨p1,p2,p3⟩:=zce hput;have p2':=p2.resolve_left hne;have hsz:=hvr.size;have hsv:vl.toArray.size=vl.length:=by simp only[List.size_toArray]
  simp only[List.size_toArray] at hsz;have hzone:∀i (hi:i<zs.length) (hv:i<z.cells.size),z.cells[i].oneCell'=true:=fun i hi hv=>by
   have:=hz0.rel i hi (by simpa using hv);simp only[List.getElem_toArray,Array.getElem_toList] at this;exact this.one (zgS h1 _ (List.getElem_mem hi))
  have hst:=run_storeCells_at c.P bl o et vl 0 us w h3 (by omega) (fun u hu=>by
   simp only[vl,Builtin.zeroCells,Array.toList_map,List.mem_map] at hu;obtain⟨i,_,rfl⟩:=hu;have hm:i % z.cells.size<z.cells.size:=Nat.mod_lt _ (by omega);rw[getElem!_pos z.cells _ hm];exact hzone _ (by omega) hm)
  simp only[Nat.add_zero] at hst;have hrow:PreR G (tokf s.hp) w cs' (us.toList.take o++vl++us.toList.drop (o+vl.length)).toArray:=by
   refine hall.put hvr hput ?_ (fun i=>?_)
   ·simp only[List.size_toArray,xaa,List.length_take,List.length_drop,Array.length_toList];omega
   ·simp only[List.getElem?_toArray];rw[List.append_assoc,List.getElem?_append];simp only[List.length_take,Array.length_toList];by_cases hi:i<o
    ·rw[if_pos (by omega),if_neg (by omega)];simp[hi]
    ·rw[if_neg (by omega),List.getElem?_append];have hm:min o us.size=o:=by omega
     rw[hm];by_cases hi2:i<o+vl.length
     ·rw[if_pos (by omega),if_pos (by omega)]
     ·rw[if_neg (by omega),if_neg (by omega)];rw[List.getElem?_drop,show o+vl.length+(i-o-vl.length)=i by omega];simp
  have hrun:(execOp a.eval ⟨none,.call ⟨.builtin .clear,#[x],#[t]⟩,ty,pos,af,g⟩).run c.P w = .ok (.value (.tuple #[])) (w.setRow bl (us.toList.take o++vl++us.toList.drop (o+vl.length)).toArray):=by
   obtain⟨m,rfl⟩:∃m,n=m+1:=⟨n-1,by omega⟩;have hzv:(zeroValue e).run c.P w = .ok z w:=zlZ z1 z3;simp only[vl] at hst;simp[execOp,resolve,invoke,builtin,he,Builtin.clear_,run_underlying ht.und,hzv,hst,vl]
  rw[hrun,Oper.upon_value];exact hK _ _ ⟨G,(hr.setBox hbx h2 h3 h5 hrow).putNone⟩
end
theorem zuR {G G':Gh}{T T':TokF}{w:World}{id n k b:Nat}{us:Array Value}{e:TypeId}{x:Value}{cs:List AV}{es:List (List D)} (hx:RelA G T w (.ms id n) x) (h1:G.loc id=[b]) (h2:w.heap[b]?=some (.cells us e (0,0))) (h3:cs.length<=us.size)
  (h5:∀i (hi:i<cs.length) (hv:i<us.size),RelA G T w cs[i] us[i]) (hFb:G'.F b=us.size) (hcell:∀y o,o<G.F y->o<G'.F y/\w.cell? ⟨y,o,none⟩=w.cell? ⟨y,o,none⟩) (hc:zcr n k (cs.take (n*k))=some es):RelA G' T' w (.d (.sl es)) x:=by
 obtain⟨c1,c2,c3,c4⟩:=zeM hc;have c3':n*k<=cs.length:=by rw[List.length_take] at c3;omega
 obtain⟨b',cap,hl,he,hcap⟩:=hx.ms_eq;obtain rfl:=(zcP hl.1 h1).symm;rw[he];refine .d ?_;have hn':n=es.length:=c1.symm;rw[hn'];refine .sl es k b 0 cap (fun x=>us.getD x undef) c2 (by omega) (fun x hx=>?_) (fun i hi j hj=>?_)
 ·have h3':x<cs.length:=by rw[<-c1] at c3';omega
  have hxs:x<us.size:=Nat.lt_of_lt_of_le h3' h3;refine⟨by rw[hFb];omega, ?_⟩;simp[World.cell?,h2,hxs]
 ·have hjk:j<k:=by rw[<-c2 _ (List.getElem_mem hi)];exact hj
  have hltn:i*k+j<n*k:=by
   rw[<-c1];have:(i+1)*k<=es.length*k:=Nat.mul_le_mul_right _ (by omega);rw[Nat.add_mul] at this;omega
  have hlt:i*k+j<cs.length:=by omega
  have hlu:i*k+j<us.size:=by omega
  have h8:=c4 i hi j hj (by rw[List.length_take];omega);rw[List.getElem_take] at h8;have h6:=(h5 _ hlt hlu).toD h8;have h7:us.getD (i*k+j) undef=us[i*k+j]:=by simp[Array.getD,hlu]
  rw[h7];exact h6.mono hcell
def zqh (env:Env) (hp:Hp) (j:Nat):Bool:=
 (match getH hp j with|none=>true|some _=>false)&&(env.all fun x=>match getE env x.1 with|some v=> !zaZ j v.ids|none=>true)&&(hp.all fun x=>match getH hp x.1 with|some r=> !zaZ j r.ids|none=>true)
theorem zqi:∀ {env:Env}{i:Nat}{v:AV},getE env i=some v->∃u,(i,u)∈env
 |(k,x)::r,i,v,h=>by
  simp only[getE] at h;cases hb:Nat.beq k i with
  |true=>obtain rfl:=Nat.eq_of_beq_eq_true hb;exact⟨x,by simp⟩
  |false=>
   simp only[hb,cond_false] at h;obtain⟨u,hu⟩:=zqi h;exact⟨u,List.mem_cons_of_mem _ hu⟩
theorem zrc {env:Env}{hp:Hp}{j:Nat} (h:zqh env hp j=true):getH hp j=none/\zcU j ⟨env,hp⟩:=by
 simp only[zqh,xad,List.all_eq_true] at h;obtain⟨⟨h1,h2⟩,h3⟩:=h;refine⟨?_,fun i v hv hm=>?_,fun i r hr hm=>?_⟩
 ·cases hg:getH hp j with
  |none=>rfl
  |some x=>simp[hg] at h1
 ·obtain⟨u,hu⟩:=zqi hv;have:=h2 _ hu;rw[show getE env (i,u).1=some v from hv] at this;change (!zaZ j v.ids)=true at this
  rw[zaP.2 hm] at this;cases this
 ·obtain⟨u,hu⟩:=zi6 hr;have:=h3 _ hu;rw[show getH hp (i,u).1=some r from hr] at this;change (!zaZ j r.ids)=true at this
  rw[zaP.2 hm] at this;cases this
theorem CWp.tokDrop {c:Ctx}{env:Env}{hp:Hp}{K:Kt}{code:Code} (t i:Nat){n k:Nat}{xs:List (List D)} (ht:getE env t=some (.gl i xs)) (hi:getH hp i=some (.tok n k))
  (hn:CWp c code ⟨(t,.d (.sl xs))::env,(i,none)::hp⟩ K):CWp c code ⟨env,hp⟩ K:=by
 rintro a w ⟨G,hr⟩
 have g1:∀x,x≠i->getH ((i,none)::hp) x=getH hp x:=fun x h1=>by rw[zan,if_neg h1]
 have gi:getH ((i,none)::hp) i=none:=by rw[zan,if_pos rfl]
 have Ti:tokf hp i=some (n,k):=zav.2 hi;have Ti':tokf ((i,none)::hp) i=none:=by unfold tokf;rw[gi]
 have hT:Turn c G ⟨env,hp⟩ w G ((i,none)::hp) [i]:=by
  refine⟨fun x hx=>?_,fun x hx=>rfl,fun b _=>rfl,fun b o ho=>ho,hr.top,fun x hx=>?_,fun x hx hs b hb=>?_,fun x hx y hy hxy h1 h2 b hb=>?_,fun x hx l hl=>?_⟩
  ·simp only[List.mem_cons,List.not_mem_nil,or_false] at hx;exact g1 x hx
  ·simp only[List.mem_cons,List.not_mem_nil,or_false] at hx;subst hx;exact .inr ⟨.inl rfl,fun p hp'=>by rw[Ti'] at hp';cases hp'⟩
  ·simp only[List.mem_cons,List.not_mem_nil,or_false] at hx;subst hx;rw[gi] at hs;cases hs
  ·simp only[List.mem_cons,List.not_mem_nil,or_false] at hx hy;exact absurd (hx.trans hy.symm) hxy
  ·have hk:=hr.kept x l hl;simp only[List.mem_cons,List.not_mem_nil,or_false] at hx;subst hx;have:=hk.2.2;rw[show tokf (St.mk env hp).hp x=some (n,k) from Ti] at this;cases this
 have hR:=hT.fin hr (fun x hx r hxr=>by
  simp only[List.mem_cons,List.not_mem_nil,or_false] at hx;subst hx;rw[gi] at hxr;cases hxr)
 refine hn a w ⟨G,hR.slot ?_⟩;have hs:=hr.slots t _ ht;cases hs with
 |gl h h2=>exact .d h
theorem R.tokMove {c:Ctx}{G:Gh}{s:St}{a:Act}{w:World} (hr:R c G s a w) (i j:Nat){n k:Nat} (m:Nat) (hi:getH s.hp i=some (.tok n k)) (h0:getH s.hp j=none) (hocc:zcU j s):
  ∃G':Gh,R c G' ⟨s.env,(j,some (.tok m k))::(i,none)::s.hp⟩ a w/\G'.F=G.F/\G'.loc j=G.loc i/\tokf ((j,some (Res.tok m k))::(i,none)::s.hp) j=some (m,k):=by
 have hji:j≠i:=fun e=>by subst e;rw[h0] at hi;cases hi
 have g1:∀x,x≠j->x≠i->getH ((j,some (Res.tok m k))::(i,none)::s.hp) x=getH s.hp x:=fun x h1 h2=>by
  rw[zan,if_neg h1,zan,if_neg h2]
 have gj:getH ((j,some (Res.tok m k))::(i,none)::s.hp) j=some (.tok m k):=by rw[zan,if_pos rfl]
 have gi:getH ((j,some (Res.tok m k))::(i,none)::s.hp) i=none:=by rw[zan,if_neg (fun e=>hji e.symm),zan,if_pos rfl]
 have Ti:tokf s.hp i=some (n,k):=zav.2 hi;have Tj:tokf ((j,some (Res.tok m k))::(i,none)::s.hp) j=some (m,k):=zav.2 gj;have Ti':tokf ((j,some (Res.tok m k))::(i,none)::s.hp) i=none:=by unfold tokf;rw[gi]
 let G':Gh:={ G with loc:=fun x=>bif Nat.beq x j then G.loc i else G.loc x }
 have lj:G'.loc j=G.loc i:=by simp[G']
 have lo:∀x,x≠j->G'.loc x=G.loc x:=fun x h=>by simp[G',zdu h]
 have hsi:(getH s.hp i).isSome:=by rw[hi];rfl
 have hT:Turn c G s w G' ((j,some (Res.tok m k))::(i,none)::s.hp) [i,j]:=by
  refine⟨fun x hx=>?_,fun x hx=>?_,fun b _=>rfl,fun b o ho=>ho,hr.top,fun x hx=>?_,fun x hx hs b hb=>?_,fun x hx y hy hxy h1 h2 b hb=>?_,fun x hx l hl=>?_⟩
  ·simp only[List.mem_cons,List.not_mem_nil,or_false,not_or] at hx;exact g1 x hx.2 hx.1
  ·simp only[List.mem_cons,List.not_mem_nil,or_false,not_or] at hx;exact lo x hx.2
  ·simp only[List.mem_cons,List.not_mem_nil,or_false] at hx;rcases hx with rfl|rfl
   ·exact .inr ⟨.inl (lo _ (fun e=>hji e.symm)),fun p hp'=>by rw[Ti'] at hp';cases hp'⟩
   ·exact .inl hocc
  ·simp only[List.mem_cons,List.not_mem_nil,or_false] at hx;rcases hx with rfl|rfl
   ·rw[gi] at hs;cases hs
   ·exact⟨i,by simp,hsi,by rw[lj] at hb;exact hb⟩
  ·simp only[List.mem_cons,List.not_mem_nil,or_false] at hx hy;rcases hx with rfl|rfl
   ·rw[gi] at h1;cases h1
   ·rcases hy with rfl|rfl
    ·rw[gi] at h2;cases h2
    ·exact absurd rfl hxy
  ·have hk:=hr.kept x l hl;simp only[List.mem_cons,List.not_mem_nil,or_false] at hx;rcases hx with rfl|rfl
   ·have:=hk.2.2;rw[Ti] at this;cases this
   ·have:=hk.2.1;rw[h0] at this;cases this
 have hR:=hT.fin hr (fun x hx r hxr=>by
  simp only[List.mem_cons,List.not_mem_nil,or_false] at hx;rcases hx with rfl|rfl
  ·rw[gi] at hxr;cases hxr
  ·rw[gj] at hxr;cases hxr;intro b hb;rw[lj] at hb;exact hr.heap i _ hi b hb)
 exact⟨G',hR,rfl,lj,Tj⟩
theorem CWp.tokRen {c:Ctx}{env:Env}{hp:Hp}{K:Kt}{code:Code} (t i j:Nat){n k:Nat}{xs:List (List D)} (ht:getE env t=some (.gl i xs)) (hi:getH hp i=some (.tok n k)) (hf:zqh env hp j=true)
  (hn:CWp c code ⟨(t,.gl j xs)::env,(j,some (.tok n k))::(i,none)::hp⟩ K):CWp c code ⟨env,hp⟩ K:=by
 rintro a w ⟨G,hr⟩
 obtain⟨h0,hocc⟩:=zrc hf;have Ti:tokf hp i=some (n,k):=zav.2 hi;obtain⟨G',hR,hF,lj,Tj⟩:=hr.tokMove i j n hi h0 hocc;refine hn a w ⟨G',hR.slot ?_⟩;have hs:=hr.slots t _ ht;cases hs with
 |gl h h2=>
  refine .gl (by rw[hF];exact h) (fun n' k' hT'=>?_);have hT2:tokf ((j,some (Res.tok n k))::(i,none)::hp) j=some (n',k'):=hT';rw[Tj] at hT2;cases hT2
  obtain⟨q1,q2⟩:=h2 n k Ti;refine⟨q1,fun hn'=>⟨(q2 hn').1, ?_⟩⟩;have:=(q2 hn').2;unfold Tip at this ⊢;rw[lj,hF];exact this
section
variable {c:Ctx}{all:Array Oper}{chk:List Rec->Prop}{os:List Oper}{recs:List Rec}{env:Env}{hp:Hp}{Q:St->Prop}
variable {d ty:Nat}{pos:String}{af:Array Edge}{g:Option (Nat×Bool)}{pg:List (Nat×AV)}{t:TypeId}{x:Operand}
theorem xaL {id e k yb:Nat} (j:Nat){xs:List (List D)}{o:Operand}{kd:IntKind}{n:Int}{b:Nat} (ht:SlT c.P t e k yb) (hg:GH all env g pg) (hd:Nat.blt d c.n=true)
  (hx:opd env x=some (.gv id xs)) (htok:getH hp id=some (.tok xs.length k)) (ho:opd env o=some (.d (.int kd n))) (hi:n = ↑b) (hb:b<=xs.length) (hpos:0<xs.length) (hf:zak env hp [j]=true)
  (hn:Walk c all chk os (zat (pg++(opF x (.gv id xs)++opF o (.d (.int kd n)))) [(id,.tok xs.length k)] [j] ⟨some (d,.gv j (xs.take b)),[(j,some (.tok b k)),(id,none)]⟩::recs)
   ⟨(d,.gv j (xs.take b))::env,(j,some (.tok b k))::(id,none)::hp⟩ Q):
  Walk c all chk (⟨some d,.slice t x none (some o) none,ty,pos,af,g⟩::os) recs ⟨env,hp⟩ Q:=by
 refine⟨pg++(opF x (.gv id xs)++opF o (.d (.int kd n))),[(id,.tok xs.length k)],[j],_, ?_,zaD hg.facts (zaD (za2 hx) (za2 ho)),hh1 htok,zbD hf,hn⟩;intro s a w hrel hp' hh hcr K Q' hK;obtain⟨G,hr⟩:=hrel;have e1:=hr.opd (za3 hx (fun p hm=>hp' p (by simp[hm])));have e2:=hr.opd (za3 ho (fun p hm=>hp' p (by simp[hm])));have htk:=hh1' hh;obtain⟨h0,hocc⟩:=hcr j (by simp);obtain⟨⟨ad,cap0,hv0⟩,hcl⟩:=e1.gv_inv;have Ti:tokf s.hp id=some (xs.length,k):=zav.2 htk;obtain⟨hkx,htip⟩:=(hcl _ _ Ti).2 rfl;rcases htip with ⟨_,q2,_⟩|⟨bl,cap,cs,et,q1,q2,q3,q4,q5,q6,q7⟩
 ·omega
 obtain⟨G',hR,hF,lj,Tj⟩:=hr.tokMove id j b htk h0 hocc;unfold wpO;rw[if_pos (hg.gf.wanted hr (fun p hm=>hp' p (by simp[hm])))];unfold Oper.wp;have hbd:=zfE (P:=c.P) (w:=w) true xs.length cap (lo:=none) (hi:=some (.int kd b)) (a:=0) (b:=b) (.inl ⟨rfl,rfl⟩) (.inr ⟨kd,rfl⟩) (Nat.zero_le _) (by omega);have hrun:(execOp a.eval ⟨some d,.slice t x none (some o) none,ty,pos,af,g⟩).run c.P w = .ok (.value (.slice (some ⟨bl,0,none⟩) b cap)) w:=by
  simp only[execOp,e2.int_eq,hi,q2,Option.map_none,Option.map_some,Instr.sliceAt,Sem.run_bind,run_underlying ht.und,Result.andThen_ok,Instr.slice,hbd,ht.run_size,Sem.run_pure,Nat.zero_mul,Nat.sub_zero,zcw,Nat.zero_add,ite_self]
 rw[hrun,Oper.upon_value];have hl:(xs.take b).length=b:=by rw[List.length_take];omega
 have hA:RelA G' (tokf ((j,some (Res.tok b k))::(id,none)::s.hp)) w (.gv j (xs.take b)) (.slice (some ⟨bl,0,none⟩) b cap):=by
  refine .gv ⟨some ⟨bl,0,none⟩,cap,by rw[hl]⟩ (fun n' k' hT'=>?_);rw[Tj] at hT';cases hT'
  refine⟨by omega,fun _=>⟨fun y hy=>hkx y (List.mem_of_mem_take hy),.inr ⟨bl,cap,cs,et,by rw[lj];exact q1,rfl,by rw[hF];exact q3,q4,q5,by omega,fun i hi' jj hj'=>?_⟩⟩⟩;have hix:i<xs.length:=by rw[hl] at hi';omega
  have h9:=q7 i hix jj (by simpa [List.getElem_take] using hj');rw[hF];simpa [List.getElem_take] using h9
 exact hK _ _ ⟨G',hR.put hA hd⟩
end
theorem FnD.glD {P:Program}{f:FuncId}{i n k:Nat}{args:List AV}{xs:List (List D)} (h:FnD P f args [] (.gl i xs) [(i,some (.tok n k))]):FnD P f args [] (.d (.sl xs)) []:=by
 intro G w vals hok;refine(h G w vals hok).mono ?_;rintro e w' ⟨v,r',hp',G',rfl,⟨rfl,rfl⟩,hret⟩
 refine⟨v,_,_,G',rfl,⟨rfl,rfl⟩, ?_,fun id x hx=>(by cases hx),fun id id' h1=>(by cases h1),fun id h1=>(by cases h1),hret.frm,hret.top,fun id hi=>(by simp[zbK,getH] at hi)⟩;have:=hret.res;cases this with
 |gl h1 h2=>exact .d h1
theorem FnD.gvRen {P:Program}{f:FuncId}{i k:Nat} (j:Nat){args:List AV}{xs:List (List D)} (h:FnD P f args [] (.gv i xs) [(i,some (.tok xs.length k))]):FnD P f args [] (.gv j xs) [(j,some (.tok xs.length k))]:=by
 intro G w vals hok;refine(h G w vals hok).mono ?_;rintro e w' ⟨v,r',hp',G',rfl,⟨rfl,rfl⟩,hret⟩
 have gi:getH ([(i,some (Res.tok xs.length k))]++[]) i=some (.tok xs.length k):=by simp[getH]
 have gj:∀x,(getH ([(j,some (Res.tok xs.length k))]++[]) x).isSome->x=j:=fun x hx=>by
  by_cases e:j=x
  ·exact e.symm
  ·simp[getH,zdu e] at hx
 have Ti:tokf ([(i,some (Res.tok xs.length k))]++[]) i=some (xs.length,k):=zav.2 gi;let G2:Gh:={ G' with loc:=fun x=>G'.loc i }
 refine⟨v,_,_,G2,rfl,⟨rfl,rfl⟩, ?_,fun id x hx=>?_,fun id id' h1 h2 hne=>absurd ((gj id h1).trans (gj id' h2).symm) hne,fun id h1 b hb=>hret.new i (by rw[gi];rfl) b hb,hret.frm,hret.top,fun id hi=>(by simp[zbK,getH] at hi)⟩
 ·have:=hret.res;cases this with
  |gv hv h2=>
   refine .gv hv (fun n' k' hT'=>?_);have hT2:=zav.1 hT';have e1:Res.tok xs.length k=Res.tok n' k':=by simp[getH] at hT2;rw[hT2.1,hT2.2]
   cases e1
   obtain⟨q1,q2⟩:=h2 _ _ Ti;refine⟨q1,fun hn'=>⟨(q2 hn').1, ?_⟩⟩;have:=(q2 hn').2;unfold TipV at this ⊢;exact this
 ·have e1:=gj id (by rw[hx];rfl);subst e1;have e2:x=Res.tok xs.length k:=by simp[getH] at hx;exact hx.symm
  subst e2;intro b hb;exact hret.heap i _ gi b hb
theorem FnD.gvD {P:Program}{f:FuncId}{i k:Nat}{args:List AV}{xs:List (List D)} (h:FnD P f args [] (.gv i xs) [(i,some (.tok xs.length k))]):FnD P f args [] (.d (.sl xs)) []:=by
 intro G w vals hok;refine(h G w vals hok).mono ?_;rintro e w' ⟨v,r',hp',G',rfl,⟨rfl,rfl⟩,hret⟩
 have gi:getH ([(i,some (Res.tok xs.length k))]++[]) i=some (.tok xs.length k):=by simp[getH]
 have Ti:tokf ([(i,some (Res.tok xs.length k))]++[]) i=some (xs.length,k):=zav.2 gi;have hown:∀b,b∉zb0 G []:=fun b hb=>by simp[zb0] at hb
 have hnew:∀b,b∈G'.loc i->w.heap.size<=b:=fun b hb=>(hret.new i (by rw[gi];rfl) b hb).resolve_left (hown b);have hlt:∀b,b∈G'.loc i->b<w'.heap.size:=hret.heap i _ gi;have hres:=hret.res;obtain⟨hv,hcl⟩:=hres.gv_inv;obtain⟨hkx,htip⟩:=(hcl _ _ Ti).2 rfl;rcases htip with ⟨_,q2,q3⟩|⟨bl,cap,cs,et,q1,q2,q3,q4,q5,q6,q7⟩
 ·have hxs:xs=[]:=List.eq_nil_of_length_eq_zero q2;subst hxs;refine⟨v,_,_,G',rfl,⟨rfl,rfl⟩, ?_,fun id x hx=>(by cases hx),fun id id' h1=>(by cases h1),fun id h1=>(by cases h1),hret.frm,hret.top,fun id hi=>(by simp[zbK,getH] at hi)⟩;rw[q3];exact .d .nil
 ·let G2:Gh:={ G' with F:=fun x=>bif Nat.beq x bl then cs.size else G'.F x }
  have hin:G2.F bl=cs.size:=by simp[G2]
  have hout:∀x,x≠bl->G2.F x=G'.F x:=fun x hx=>by simp[G2,zdu hx]
  have hbl:bl∈G'.loc i:=by rw[q1];simp
  have hle:∀b o,o<G'.F b->o<G2.F b:=fun x o ho=>by
   by_cases hx:x=bl
   ·subst hx;rw[q3] at ho;omega
   ·rw[hout x hx];exact ho
  refine⟨v,_,_,G2,rfl,⟨rfl,rfl⟩, ?_,fun id x hx=>(by cases hx),fun id id' h1=>(by cases h1),fun id h1=>(by cases h1), ?_,fun x hx=>?_,fun id hi=>(by simp[zbK,getH] at hi)⟩
  ·rw[q2];have hsz:xs.length*k<=cs.size:=Nat.le_trans (Nat.mul_le_mul_right _ q6) q5;refine .d (.sl xs k bl 0 cap (fun n=>cs.getD n undef) hkx q6 (fun q hq=>⟨by rw[hin];omega, ?_⟩) (fun q hq jj hj=>?_))
   ·have:q<cs.size:=by omega
    simp[World.cell?,q4,this]
   ·exact(q7 q hq jj hj).mono (fun b o ho=>⟨hle b o ho,rfl⟩)
  ·have hf:=hret.frm;exact⟨hf.os,hf.tape,hf.output,hf.size,fun x hx hn=>⟨(hf.block x hx hn).1,by
    rw[hout x (fun e=>by subst e;have:=hnew x hbl;omega)];exact(hf.block x hx hn).2⟩,fun x o ho=>⟨hle x o (hf.cell x o ho).1,(hf.cell x o ho).2⟩⟩
  ·by_cases hx':x=bl
   ·subst hx';have:=hlt x hbl;omega
   ·rw[hout x hx'];exact hret.top x hx
theorem zo7 {zs:List AV}:∀ {n i j:Nat},i<n->j<zs.length->(zaI n zs)[i*zs.length+j]?=zs[j]?
 |n+1,0,j,_,hj=>by
  simp only[zaI,Nat.zero_mul,Nat.zero_add];rw[List.getElem?_append_left hj]
 |n+1,i+1,j,hi,hj=>by
  simp only[zaI];rw[List.getElem?_append_right (by rw[Nat.add_mul];omega),show(i+1)*zs.length+j-zs.length=i*zs.length+j by rw[Nat.add_mul];omega];exact zo7 (by omega) hj
section
variable {c:Ctx}
theorem R.freshV {G:Gh}{s:St}{a:Act}{w:World} (hr:R c G s a w){id k nc:Nat}{es:List (List D)}{cells:Array Value}{e:TypeId} (htok:getH s.hp id=some (.tok 0 k)) (hpos:0<es.length)
  (hk:∀x,x∈es->x.length=k) (hcs:cells.size=nc*k) (hn:es.length<=nc)
  (hrow:∀i (hi:i<es.length) j (hj:j<es[i].length),RelD G.F w es[i][j] (cells.getD (i*k+j) undef)):
  ∃G',R c G' { s with hp:=(id,some (.tok es.length k))::s.hp } a (w.drew.alloc (.cells cells e))/\
   RelA G' (tokf ((id,some (.tok es.length k))::s.hp)) (w.drew.alloc (.cells cells e)) (.gv id es) (.slice (some ⟨w.heap.size,0,none⟩) es.length nc):=by
 let G':Gh:={ F:=G.F,loc:=fun j=>bif Nat.beq j id then [w.heap.size] else G.loc j }
 have hlt:∀b o,o<G.F b->b<w.heap.size:=fun b o ho=>by
  rcases Nat.lt_or_ge b w.heap.size with h|h
  ·exact h
  ·rw[hr.top b h] at ho;omega
 have hcell:∀b o,o<G.F b->o<G'.F b/\(w.drew.alloc (.cells cells e)).cell? ⟨b,o,none⟩=w.cell? ⟨b,o,none⟩:=fun b o ho=>by
  have hb:=hlt b o ho;exact⟨ho,by rw[World.cell?_alloc_lt w.drew _ _ hb];rfl⟩
 have hlocne:∀j,j≠id->G'.loc j=G.loc j:=fun j hj=>by
  have:Nat.beq j id=false:=by
   cases h:Nat.beq j id with
   |true=>exact absurd (Nat.eq_of_beq_eq_true h) hj
   |false=>rfl
  simp[G',this]
 have hlocid:G'.loc id=[w.heap.size]:=by simp[G']
 have hT':tokf ((id,some (.tok es.length k))::s.hp) id=some (es.length,k):=zav.2 (by rw[zan,if_pos rfl]);refine⟨G',hr.retok (G':=G') htok hpos hcell hlocne (fun b hb _=>⟨zdl (w:=w.drew) hb,rfl⟩) (fun b hb=>by rw[hlocid] at hb;simp at hb;subst hb;simp)
  (fun b hb=>by rw[hlocid] at hb;simp at hb;exact .inr (by omega)) rfl rfl rfl (by simp) (fun b hb=>?_), ?_⟩
 ·have hb':w.heap.size+1<=b:=by simpa using hb
  exact hr.top b (by omega)
 refine .gv ⟨_,_,rfl⟩ (fun n' k' hm'=>?_);rw[hT'] at hm';cases hm'
 exact⟨Nat.le_refl _,fun _=>⟨hk,.inr ⟨w.heap.size,nc,cells,e,hlocid,rfl,hr.top _ (Nat.le_refl _),zd7 (w:=w.drew),by rw[hcs];exact Nat.le_refl _,hn,fun i hi j hj=>(hrow i hi j hj).mono hcell⟩⟩⟩
end
section
variable {c:Ctx}{all:Array Oper}{chk:List Rec->Prop}{os:List Oper}{recs:List Rec}{env:Env}{hp:Hp}{Q:St->Prop}
variable {d ty:Nat}{pos:String}{af:Array Edge}{g:Option (Nat×Bool)}{pg:List (Nat×AV)}{t:TypeId}{x y:Operand}
theorem RelA.nils_eq {G:Gh}{T:TokF}{w:World}{v:Value} (h:RelA G T w .nils v):v = .slice none 0 0:=by cases h;rfl
theorem Walk.capN {at_ e k yb:Nat} (ht:SlT c.P at_ e k yb) (hg:GH all env g pg) (hd:Nat.blt d c.n=true) (hx:opd env x=some .nils)
  (hn:Walk c all chk os (zat (pg++opF x .nils) [] [] ⟨some (d,.d (.i 0)),[]⟩::recs) ⟨(d,.d (.i 0))::env,hp⟩ Q):
  Walk c all chk (⟨some d,.call ⟨.builtin .cap,#[x],#[at_]⟩,ty,pos,af,g⟩::os) recs ⟨env,hp⟩ Q:=
 xa7 hg hd hx (fun a G T w h=>⟨.int .i64 (0:Nat),by
  simp[execOp,resolve,invoke,builtin,h.nils_eq,Builtin.cap_,run_underlying ht.und,goInt],.d (.int _ _)⟩) hn
theorem Walk.cutN_h {e k yb:Nat}{o:Operand}{kd:IntKind} (ht:SlT c.P t e k yb) (hg:GH all env g pg) (hd:Nat.blt d c.n=true)
  (hx:opd env x=some .nils) (ho:opd env o=some (.d (.int kd 0)))
  (hn:Walk c all chk os (zat (pg++(opF x .nils++opF o (.d (.int kd 0)))) [] [] ⟨some (d,.nils),[]⟩::recs) ⟨(d,.nils)::env,hp⟩ Q):
  Walk c all chk (⟨some d,.slice t x none (some o) none,ty,pos,af,g⟩::os) recs ⟨env,hp⟩ Q:=by
 refine xa8 hg hd hx ho (fun a G T w h1 h2=>⟨.slice none 0 0, ?_,.nils⟩) hn;have hbd:=zfE (P:=c.P) (w:=w) true 0 0 (lo:=none) (hi:=some (.int kd (0:Nat))) (a:=0) (b:=0) (.inl ⟨rfl,rfl⟩) (.inr ⟨kd,rfl⟩) (Nat.le_refl _) (Nat.le_refl _);have e2:a.eval o = .int kd ((0:Nat):Int):=h2.int_eq;simp only[execOp,e2,h1.nils_eq,Option.map_none,Option.map_some,Instr.sliceAt,Sem.run_bind,run_underlying ht.und,Result.andThen_ok,Instr.slice,hbd,ht.run_size,Sem.run_pure,Nat.zero_mul,Nat.sub_zero,ite_self]
theorem Walk.growZ {e k yb n:Nat} (id:Nat){zs:List AV}{zr:List D}{tn:TypeId}{kn:IntKind}{m:Int} (ht:SlT c.P t e k yb) (htn:c.P.underlying tn=some (.int kn)) (hz:TyZ c.P e k zs) (hzk:zs.length=k) (hk:0<k) (hzr:toDL zs=some zr)
  (hg:GH all env g pg) (hd:Nat.blt d c.n=true) (hx:opd env x=some .nils) (hy:opd env y=some (.d (.i m))) (hm:m = ↑n) (hn0:0<n) (hb:n*yb<=281474976710656) (h63:(n:Int)<=9223372036854775807) (hf:zak env hp [id]=true)
  (hn:Walk c all chk os (zat (pg++(opF x .nils++opF y (.d (.i m)))) [] [id] ⟨some (d,.gv id (List.replicate n zr)),[(id,some (.tok n k)),(id,some (.tok 0 k))]⟩::recs)
   ⟨(d,.gv id (List.replicate n zr))::env,(id,some (.tok n k))::(id,some (.tok 0 k))::hp⟩ Q):
  Walk c all chk (⟨some d,.call ⟨.builtin .append,#[x,y],#[t,tn]⟩,ty,pos,af,g⟩::os) recs ⟨env,hp⟩ Q:=by
 refine⟨pg++(opF x .nils++opF y (.d (.i m))),[],[id],_, ?_,zaD hg.facts (zaD (za2 hx) (za2 hy)),by simp,zbD hf,hn⟩;intro s a w hrel hp' hh hcr K Q' hK;obtain⟨G,hr⟩:=hrel;have e1:=(hr.opd (za3 hx (fun p hm=>hp' p (by simp[hm])))).nils_eq;have e2:=(hr.opd (za3 hy (fun p hm=>hp' p (by simp[hm])))).int_eq;obtain⟨h0,hocc⟩:=hcr id (by simp);obtain⟨G1,hr1,_⟩:=hr.mkTokV k h0 hocc;obtain⟨ie,hi1,hi2,hi3⟩:=ht.inf;obtain⟨i',z,z1,z2,z3,z4⟩:=hz.inf;rw[hi1] at z1;cases z1
 have hrun:=Go.Lib.run_append_nil_zeros (P:=c.P) w t tn ty e ie z .i64 kn ht.und htn hi1 z3 n hn0 (by omega) h63 (by rw[hi3];exact hb);have hz0:=zb5 (G:=G1) (T:=tokf ((id,some (.tok 0 k))::s.hp)) (w:=w) z4;have hzz:=zfg (by simpa using hz0) n (by omega);obtain⟨c1,c2⟩:=zif hzr;have hsz:z.cells.size=k:=by have:=hz0.1;simp at this;omega
 have hle:n<=grownCap w n 0 e:=by have:=grownCap_ge w n 0 e;omega
 have ez:Builtin.zeroCells z.cells n=(Array.range (n*zs.length)).map (z.cells[· % z.cells.size]!):=by
  unfold Builtin.zeroCells;rw[hsz,hzk]
 rw[<-ez] at hzz;have hl:(List.replicate n zr).length=n:=List.length_replicate;have hcs:(Builtin.zeroCells z.cells n++Builtin.zeroCells z.cells (grownCap w n 0 e-n)).size=grownCap w n 0 e*k:=by
  simp only[Array.size_append,size_zeroCells,hsz,<-Nat.add_mul];congr 1;omega
 have key:∀i (hi:i<(List.replicate n zr).length) j (hj:j<(List.replicate n zr)[i].length),RelD G1.F w (List.replicate n zr)[i][j] ((Builtin.zeroCells z.cells n++Builtin.zeroCells z.cells (grownCap w n 0 e-n)).getD (i*k+j) undef):=by
  intro i hi j hj;have hi2:i<n:=by simpa using hi
  have hj2:j<zr.length:=by simpa using hj
  have hj3:j<zs.length:=by omega
  have hlt:i*k+j<(Builtin.zeroCells z.cells n).size:=by
   rw[size_zeroCells,hsz];have:(i+1)*k<=n*k:=Nat.mul_le_mul_right _ (by omega);rw[Nat.add_mul] at this;omega
  have hlz:i*k+j<(zaI n zs).length:=by have:=hzz.1;rw[<-this];exact hlt
  have h5:=hzz.2 (i*k+j) hlz hlt;have h6:=zo7 (zs:=zs) hi2 hj3;rw[hzk,List.getElem?_eq_getElem hlz,List.getElem?_eq_getElem hj3] at h6;rw[Option.some.inj h6] at h5;have h7:=h5.toD (c2 j hj3 hj2);have e5:(Builtin.zeroCells z.cells n++Builtin.zeroCells z.cells (grownCap w n 0 e-n)).getD (i*k+j) undef=(Builtin.zeroCells z.cells n)[i*k+j]:=by
   rw[Array.getD_eq_getD_getElem?,Array.getElem?_append_left hlt,Array.getElem?_eq_getElem hlt];rfl
  rw[e5];simp only[List.getElem_replicate];exact h7
 obtain⟨G',hR,hA⟩:=hr1.freshV (nc:=grownCap w n 0 e) (e:=e) (es:=List.replicate n zr) (by rw[zan,if_pos rfl]) (by rw[hl];exact hn0) (fun y hy=>by obtain⟨_,rfl⟩:=List.mem_replicate.1 hy;omega) hcs (by rw[hl];exact hle) key;rw[hl] at hR hA;unfold wpO;rw[if_pos (hg.gf.wanted hr (fun p hm=>hp' p (by simp[hm])))];unfold Oper.wp;have:(execOp a.eval ⟨some d,.call ⟨.builtin .append,#[x,y],#[t,tn]⟩,ty,pos,af,g⟩).run c.P w = .ok (.value (.slice (some ⟨w.heap.size,0,none⟩) n (grownCap w n 0 e))) (w.drew.alloc (.cells (Builtin.zeroCells z.cells n++Builtin.zeroCells z.cells (grownCap w n 0 e-n)) e)):=by
  simp only[execOp,resolve,invoke,builtin,Sem.run_bind,Sem.run_pure,Result.andThen_ok,List.map_toArray,xae,List.map_nil,e1,e2,hm,hrun]
 rw[this,Oper.upon_value];exact hK _ _ ⟨G',hR.put hA hd⟩
end
end Go.Proofs.YtlfipehhbdjnjaaGreat
namespace Go.Proofs.YtlfipehhbdjnjaaGreat
open Go
set_option linter.unusedSimpArgs false
set_option linter.unusedVariables false
set_option maxRecDepth 100000
set_option maxHeartbeats 2000000
mutual
theorem zdM:∀v:Val,zhb v v=true
 | .mk _ _ ks=>by simp[zhb,zlx ks]
theorem zlx:∀l:List Val,zcv l l=true
 | []=>rfl
 |v::r=>by simp[zcv,zdM v,zlx r]
end
theorem zph (m:Bool) (y:Val) (rest:List Val):zaf m (Val.cs (y::rest)) = .d (.i y.ctor):: .d (.i y.num):: .own m (za9 y.kids)::zaf m (Val.cs rest):=by
 cases y;rfl
theorem zgF (m:Bool) (l:List Val) (y:Val):zaf m (Val.cs (l++[y]))=zaf m (Val.cs l)++[.d (.i y.ctor),.d (.i y.num),.own m (za9 y.kids)]:=by
 rw[Val.cs_eq,xaf,<-Val.cs_eq,zfC];congr 1
 cases y;rfl
theorem Val.c_len (v:Val):v.c.length=3:=by cases v;rfl
theorem Val.cs_rows {l:List Val}:∀x,x∈Val.cs l->x.length=3:=by
 intro x hx;rw[Val.cs_eq] at hx;obtain⟨y,_,rfl⟩:=List.mem_map.1 hx;exact y.c_len
theorem Val.cs_nil (l:List Val):Val.cs l=[]↔l=[]:=by rw[Val.cs_eq];simp
theorem zbL (m:Bool) (l:List Val):(zaf m (Val.cs l)).length=l.length*3:=by
 rw[zbZ (k:=3) Val.cs_rows,Val.cs_len]
mutual
def mVal:Val->Nat
 | .mk _ _ ks=>zmP ks
def zmP:List Val->Nat
 | []=>0
 |v::r=>1+mVal v+zmP r
end
theorem zlO {l m:List Val} (h:l.length<=1000000000000)
  (hf:∀a∈l,∀b:Val,FnD Tryz.prog 33 [.agg [.d (.i a.ctor),.d (.i a.num),.d (za9 a.kids)],.agg [.d (.i b.ctor),.d (.i b.num),.d (za9 b.kids)]] [] (.d (.bool (zhb a b))) []):
  FnD Tryz.prog 85 [.d (za9 l),.d (za9 m)] [] (.d (.bool (zcv l m))) []:=by
 refine bd Tryz.f85 27 [] [] fun w0 F0 own kept hk=>?_;refine sq ?_ ?_<;>intro h1 h1p h1s<;>(try simp only[Q,Int.natCast_inj,Val.cs_len] at h1p);refine rq ?_;rotate_left;refine xam (ι:=Nat) hk (fun i=>[(5,.d (.i (i:Int)))]) [4,11,12,13,14,15,16,17,18,19,20,21,22,23,24,25,26] (fun i=>[]) (fun i=>i<=l.length/\∀i',i'<i->zhb (nth l i') (nth m i')=true) (fun i=>l.length-i) 0 ⟨by omega,fun _ h=>absurd h (by omega)⟩ ⟨⟨_,rfl,xax ?_⟩,trivial⟩ trivial (fun x=>rfl) (fun i hg1=>?_);focus (first|rfl|(simp;done)|(simp_all;done)|omega)
 refine evc [] [] ?_;refine sq ?_ ?_<;>intro h2 h2p h2s<;>(try simp only[Q,Int.natCast_inj,Val.cs_len] at h2p);refine xaP sl47 .none rfl rfl rfl rfl (ziX (by omega)) rfl ?_;refine evd [] [] ?_;refine xaP sl47 .none rfl rfl rfl rfl (ziX (by omega)) rfl ?_;refine evd [] [] ?_;refine wc zi1 (hf _ (zai (by omega)) _) rfl rfl ?_;refine evd [] [] ?_;refine dr ?_;refine sq ?_ ?_<;>intro h3 h3p h3s<;>(try simp only[Q,Int.natCast_inj,Val.cs_len] at h3p);refine rq ?_;rotate_left;refine ar ?_;refine xah (i+1) ⟨⟨by omega,zaM hg1.2 (by assumption)⟩,(by omega),sx ⟨⟨_,rfl,xax ?_⟩,trivial⟩ trivial⟩;focus (first|rfl|(simp;done)|(simp_all;done)|omega)
 refine rq ?_;rotate_left;all_goals (refine congrArg D.bool ?_;first|(refine(znt ?_).symm;omega)|(refine(znu (by omega) (fun x hx=>hg1.2 x (by omega))).symm)|(refine(zl8 (i:=i) (by omega) ?_).symm;assumption))
theorem zdi:∀(n:Nat){a b:Val},a.size<=n->a.ok->FnD Tryz.prog 33 [.agg [.d (.i a.ctor),.d (.i a.num),.d (za9 a.kids)],.agg [.d (.i b.ctor),.d (.i b.num),.d (za9 b.kids)]] [] (.d (.bool (zhb a b))) []
 |0,a,b,h,_=>by rw[Val.size_eq] at h;omega
 |n+1,a,b,h,hok=>by
  rw[Val.size_eq] at h;rw[Val.ok_iff] at hok;rw[zt9];refine bd Tryz.f33 21 [] [] fun w0 F0 own kept hk=>?_;refine bx 3002 ?_;refine bx 3003 ?_;refine ev ?_;refine sq ?_ ?_<;>intro h1 h1p h1s<;>(try simp only[Q] at h1p);focus (refine rq ?_;all_goals (refine congrArg D.bool ?_;simp[h1s,h1p]))
  refine sq ?_ ?_<;>intro h2 h2p h2s<;>(try simp only[Q] at h2p);focus (refine rq ?_;all_goals (refine congrArg D.bool ?_;simp[h1s,h1p,h2s,h2p]))
  refine wc zww (zlO hok.1 (fun x hx y=>zdi n (by have:=Vals.size_mem hx;omega) (Vals.ok_mem hok.2 x hx))) rfl rfl ?_;refine ev ?_;refine sq ?_ ?_<;>intro h3 h3p h3s<;>(try simp only[Q] at h3p);focus (refine rq ?_;all_goals (refine congrArg D.bool ?_;simp[h1s,h1p,h2s,h2p,h3s,h3p]))
  focus (refine rq ?_;all_goals (refine congrArg D.bool ?_;simp[h1s,h1p,h2s,h2p,h3s,h3p]))
mutual
def Val.szM:Val->Int
 | .mk _ _ ks=>2+Vals.szM ks
def Vals.szM:List Val->Int
 | []=>0
 |v::r=>v.szM+Vals.szM r
end
mutual
def Val.one (k:Int):Val->Val
 | .mk _ _ ks=> .mk k (k+1) (Vals.one (k+1+1) ks)
def Vals.one (k:Int):List Val->List Val
 | []=>[]
 |v::r=>v.one k::Vals.one (k+v.szM) r
end
theorem Vals.szM_eq:∀l:List Val,Vals.szM l=szL Val.szM l
 | []=>rfl
 |v::r=>by simp only[Vals.szM,szL,Vals.szM_eq r]
theorem Vals.one_eq:∀(l:List Val) (k:Int),Vals.one k l=mkL Val.one Val.szM k l
 | [],_=>rfl
 |v::r,k=>by simp only[Vals.one,mkL,Vals.one_eq r]
theorem Val.szM_kids (v:Val):v.szM=2+szL Val.szM v.kids:=by cases v;simp only[Val.szM,Val.kids,Vals.szM_eq]
theorem Val.one_kids (v:Val) (k:Int):(v.one k).kids=mkL Val.one Val.szM (k+1+1) v.kids:=by cases v;simp only[Val.one,Val.kids,Vals.one_eq]
theorem Val.one_sc (v:Val) (k:Int):(Val.one k v).ctor=k/\(Val.one k v).num=k+1:=by cases v;exact⟨rfl,rfl⟩
mutual
theorem Val.szM_nn:∀v:Val,0<=v.szM
 | .mk _ _ ks=>by have:=Vals.szM_nn ks;simp only[Val.szM];omega
theorem Vals.szM_nn:∀l:List Val,0<=Vals.szM l
 | []=>by simp[Vals.szM]
 |v::r=>by have:=Val.szM_nn v;have:=Vals.szM_nn r;simp only[Vals.szM];omega
end
mutual
theorem Val.szM_le:∀v:Val,v.szM<=2+2*(mVal v:Int)
 | .mk _ _ ks=>by have:=Vals.szM_le ks;simp only[Val.szM,mVal];omega
theorem Vals.szM_le:∀l:List Val,Vals.szM l<=2*(zmP l:Int)
 | []=>by simp[Vals.szM,zmP]
 |v::r=>by have:=Val.szM_le v;have:=Vals.szM_le r;simp only[Vals.szM,zmP];omega
end
theorem zfU {l:List Val}{k:Int} (hl:l=[]):FnD Tryz.prog 91 [.d (.sl []),.d (.i k)] [] (.d (.i (k+szL Val.szM l))) []:=by
 subst hl;refine bd Tryz.f91 34 [] [] fun w0 F0 own kept hk=>?_;refine xam (ι:=Unit) hk (fun x=>[(5,.d (.i 0)),(1,.d (.i k))]) [6,7,8,9,10,11,12,13,14,15,16,17,18,19,20,21,22,23,24,25,26,27,28,29,30,31,32] (fun x=>[]) (fun x=>True) (fun x=>0) () trivial ⟨⟨_,rfl,xax ?_⟩,⟨⟨_,rfl,xax ?_⟩,trivial⟩⟩ trivial (fun x=>rfl) (fun x hg1=>?_);iterate 2 focus (first|rfl|(simp;done)|(simp_all;done)|omega)
 refine evc [] [] ?_;refine sq ?_ ?_<;>intro h1 h1p h1s<;>(try simp only[Q] at h1p);exfalso;revert h1;simp;refine rq ?_;rotate_left;all_goals (first|rfl|(simp[szL];done))
theorem znZ {m:Bool}{n:Nat}{k:Int}{r:D}{xs ys:List (List D)} (h:FnD Tryz.prog 91 [.ms 44 n,.d (.i k)] [(44,some (.tree (zaf m xs)))] (.d r) [(44,some (.tree (zaf false ys)))]):
  FnD Tryz.prog 91 [.ms 45 n,.d (.i k)] [(45,some (.tree (zaf m xs)))] (.d r) [(45,some (.tree (zaf false ys)))]:=FnD.ren rfl (zaa _ _) (zaa _ _) h 45
theorem zkm:∀(n:Nat){m:Bool}{l:List Val}{k:Int},Vals.size l<=n->0<k->k+szL Val.szM l<=1000000000000->l.length<=1000000000000->Vals.ok l->FnD Tryz.prog 91 [.ms 44 l.length,.d (.i k)] [(44,some (.tree (zaf m (Val.cs l))))]
  (.d (.i (k+szL Val.szM l))) [(44,some (.tree (zaf false (Val.cs (mkL Val.one Val.szM k l)))))]:=by
 intro n;induction n with
 |zero=>
  intro m l k h h0 h1 hl hok;have hl0:l=[]:=by
   cases l with
   |nil=>rfl
   |cons v r=>simp only[Vals.size,Val.size_eq] at h;omega
  subst hl0;refine bd Tryz.f91 34 [] [] fun w0 F0 own kept hk=>?_;refine xam (ι:=Unit) hk (fun x=>[(5,.d (.i 0)),(1,.d (.i k))]) [6,7,8,9,10,11,12,13,14,15,16,17,18,19,20,21,22,23,24,25,26,27,28,29,30,31,32] (fun x=>[]) (fun x=>True) (fun x=>0) () trivial ⟨⟨_,rfl,xax ?_⟩,⟨⟨_,rfl,xax ?_⟩,trivial⟩⟩ trivial (fun x=>rfl) (fun x hg1=>?_);iterate 2 focus (first|rfl|(simp;done)|(simp_all;done)|omega)
  refine evc [] [] ?_;refine sq ?_ ?_<;>intro h1 h1p h1s<;>(try simp only[Q] at h1p);exfalso;revert h1;simp;refine rn [(44,some (.tree (zaf false (Val.cs (mkL Val.one Val.szM k []))))) ] (r1 rfl) (.eqd ?_) ⟨rfl,rfl⟩ (SubO.get ⟨.inr ?_,⟨.inl rfl,trivial⟩⟩) (zaE rfl);rotate_left 2;all_goals (first|((first|rfl|(simp[szL];done));done)|(rfl))
 |succ n ih=>
  intro m l k h h0 h1 hl hok;refine bd Tryz.f91 34 [30] [3,8,1000009] fun w0 F0 own kept hk=>?_;refine xam (ι:=List (Val)×List (Val)×(Int)) hk (fun x=>[(5,.d (.i (x.1.length:Int))),(1,.d (.i x.2.2))]) [6,7,8,9,10,11,12,13,14,15,16,17,18,19,20,21,22,23,24,25,26,27,28,29,30,31,32] (fun x=>[(44,some (.tree (zaf false (Val.cs (mkL Val.one Val.szM k x.1))++zaf m (Val.cs x.2.1))))]) (fun x=>x.1++x.2.1=l/\x.2.2=k+szL Val.szM x.1) (fun x=>x.2.1.length) ([],l,k) ⟨by simp,by simp[szL]⟩ ⟨⟨_,rfl,xax ?_⟩,⟨⟨_,rfl,xax ?_⟩,trivial⟩⟩ ⟨?_,trivial⟩ (fun x=>rfl) (fun x hg1=>?_);iterate 2 focus (first|rfl|(simp;done)|omega|(refine Eq.trans (b:=v+Val.szM y) ?_ rfl;omega))
  focus (first|rfl|(show some (Res.tree _)=some (Res.tree _);rw[zbY,zgF,<-hg1.2,Val.one_kids];simp only[Val.one_sc y v,List.append_assoc,xag,List.nil_append]))
  obtain⟨pre,rest,v⟩:=x;dsimp only at hg1 ⊢;refine evc [30] [3,8,1000009] ?_;refine cq (fun h1 h1p h1s=>?_) fun h1 h1p h1s=>?_;try simp only[Q] at h1p
  rcases rest with _|⟨y,rest⟩
  ·exfalso;simp_all
  have hsp:=zel (sz:=Val.szM) hg1.1;have hnn:=zaS (l:=rest) Val.szM_nn;have hnp:=zaS (l:=pre) Val.szM_nn;have hys:=Val.szM_kids y;have hya:=zaS (l:=y.kids) Val.szM_nn;have hv:=hg1.2;refine xao 44 (zaf false (Val.cs (mkL Val.one Val.szM k pre))++(.d (.i y.ctor):: .d (.i y.num):: .own m (za9 y.kids)::zaf m (Val.cs rest))) rfl (by rw[zph]) ?_;refine evc [30] [3,8,1000009] ?_;refine xaS sl47 .none rfl rfl rfl rfl (by first|omega|(simp[Val.cs_nil,Val.cs_len,Val.cs];omega)) ?_;refine evs [30] [] ?_;refine xbg ty3 .none rfl rfl rfl rfl rfl rfl (by simp) ((zaG ((zbL false _).trans (by rw[zaw])) zhh)) ?_;refine tv ?_;refine ar ?_;refine xaS sl47 .none rfl rfl rfl rfl (by first|omega|(simp[Val.cs_nil,Val.cs_len,Val.cs];omega)) ?_;refine evs [30] [] ?_;refine xbg ty3 .none rfl rfl rfl rfl rfl rfl (by simp) ((zaG ((zbL false _).trans (by rw[zaw])) zdd)) ?_;refine tv ?_;refine ar ?_;by_cases hs2:y.kids=[]
  refine xak 44 (pre.length*3+2) rfl (zaX ((zbL false _).trans (by rw[zaw])) rfl) (by simp[hs2,Val.cs_nil,Val.cs_len,Val.cs]) (zaG ((zbL false _).trans (by rw[zaw])) zfc) ?_;refine evc [30] [] ?_;refine xaS sl47 .none rfl rfl rfl rfl (by first|omega|(simp[Val.cs_nil,Val.cs_len,Val.cs];omega)) ?_;refine evs [30] [] ?_;refine xaY ty47 .none rfl rfl rfl ((by rw[zaX ((zbL false _).trans (by rw[zaw])) rfl];rfl)) ?_;refine evs [30] [] ?_;refine Walk.call (cr:=[]) zpw (zfU hs2) rfl .none rfl rfl (LeL.refl _) trivial rfl (by first|rfl|(simp only[zar,List.all_cons,List.all_nil,zaC,zay,AV.idsL,AV.ids,zab,zaa,xae,List.map_nil];rfl)) (by first|rfl|(simp only[zak,occH,occE,Res.ids,xag,List.nil_append,AV.idsL,AV.ids,zab,zaa,zac,zal,xae,List.map_nil,upC];rfl)) ?_;refine evs [30] [] ?_;refine xal 44 (pre.length*3+2) false rfl (xs:=Val.cs (mkL Val.one Val.szM (v+1+1) y.kids)) rfl (zaX ((zbL false _).trans (by rw[zaw])) rfl) (by simp[hs2,mkL,Val.cs]) (zaG ((zbL false _).trans (by rw[zaw])) zfc) ?_;refine evc [30] [] ?_;refine ar ?_;refine xah ((pre++[y],rest,v+Val.szM y)) ⟨⟨(by have hz:=hg1.1;rw[<-hz];simp),(by show v+Val.szM y=_;rw[zcQ,hg1.2];omega)⟩,(by simp),sx ⟨⟨_,rfl,xax ?_⟩,⟨⟨_,rfl,xax ?_⟩,trivial⟩⟩ ⟨?_,trivial⟩⟩;iterate 2 focus (first|rfl|(simp;done)|omega|(refine Eq.trans (b:=v+Val.szM y) ?_ rfl;omega))
  focus (first|rfl|(show some (Res.tree _)=some (Res.tree _);rw[zbY,zgF,<-hg1.2,Val.one_kids];simp only[Val.one_sc y v,List.append_assoc,xag,List.nil_append]))
  refine CWp.split 44 (pre.length*3+2) 45 rfl (zaX ((zbL false _).trans (by rw[zaw])) rfl) (by simp[hs2,Val.cs_nil,Val.cs_len,Val.cs]) (by first|rfl|(simp only[zak,occH,occE,Res.ids,xag,List.nil_append,AV.idsL,AV.ids,zab,zaa,zac,zal,xae,List.map_nil,upC];rfl)) (zaG ((zbL false _).trans (by rw[zaw])) zfc) ?_;refine evc [30] [] ?_;refine xaS sl47 .none rfl rfl rfl rfl (by first|omega|(simp[Val.cs_nil,Val.cs_len,Val.cs];omega)) ?_;refine evs [30] [] ?_;refine xaY ty47 .none rfl rfl rfl ((by rw[zaX ((zbL false _).trans (by rw[zaw])) rfl];rfl)) ?_;refine evs [30] [] ?_;refine Walk.call (cr:=[]) zpw (znZ (ih (l:=y.kids) (k:=v+1+1) (by have hm:=Vals.size_mem (v:=y) (l:=l) (by rw[<-hg1.1];simp);rw[Val.size_eq] at hm;omega) (by omega) (by omega) ((Val.ok_iff y).1 (Vals.ok_mem hok y (by rw[<-hg1.1];simp))).1 ((Val.ok_iff y).1 (Vals.ok_mem hok y (by rw[<-hg1.1];simp))).2)) rfl .none rfl rfl (.cons (xay (by first|rfl|(simp[Val.cs_nil,Val.cs_len,Val.cs];done))) (.cons (.refl _) .nil)) ⟨by first|rfl|(simp;rfl),trivial⟩ rfl (by first|rfl|(simp only[zar,List.all_cons,List.all_nil,zaC,zay,AV.idsL,AV.ids,zab,zaa,xae,List.map_nil];rfl)) (by first|rfl|(simp only[zak,occH,occE,Res.ids,xag,List.nil_append,AV.idsL,AV.ids,zab,zaa,zac,zal,xae,List.map_nil,upC];rfl)) ?_;refine evs [30] [] ?_;refine CWp.merge hk 44 (pre.length*3+2) 45 3 _ rfl (zaX ((zbL false _).trans (by rw[zaw])) rfl) (by simp[zaw,Val.cs_nil,Val.cs_len,Val.cs]) rfl Val.cs_rows rfl rfl (zaG ((zbL false _).trans (by rw[zaw])) zfc) ?_;refine evc [30] [] ?_;refine ar ?_;refine xah ((pre++[y],rest,v+Val.szM y)) ⟨⟨(by have hz:=hg1.1;rw[<-hz];simp),(by show v+Val.szM y=_;rw[zcQ,hg1.2];omega)⟩,(by simp),sx ⟨⟨_,rfl,xax ?_⟩,⟨⟨_,rfl,xax ?_⟩,trivial⟩⟩ ⟨?_,trivial⟩⟩;iterate 2 focus (first|rfl|(simp;done)|omega|(refine Eq.trans (b:=v+Val.szM y) ?_ rfl;omega))
  focus (first|rfl|(show some (Res.tree _)=some (Res.tree _);rw[zbY,zgF,<-hg1.2,Val.one_kids];simp only[Val.one_sc y v,List.append_assoc,xag,List.nil_append]))
  try simp only[Q] at h1p
  have hrest:rest=[]:=by
   rcases rest with _|⟨a,b⟩
   ·rfl
   ·exfalso;have hz:=congrArg List.length (hg1.1);simp only[xaa,xab,xac] at hz;omega
  subst hrest;refine evc [30] [3,8,1000009] ?_;refine rn [(44,some (.tree (zaf false (Val.cs (mkL Val.one Val.szM k l)))))] (r1 rfl) (.eqd ?_) ⟨rfl,rfl⟩ (SubO.get ⟨.inr ?_,⟨.inl rfl,trivial⟩⟩) (zaE rfl);rotate_left 2;all_goals (first|((first|rfl|(obtain⟨hg1,hv⟩:=hg1;rw[List.append_nil] at hg1;subst hg1;rw[hv]));done)|(first|rfl|(obtain⟨hg1,_⟩:=hg1;rw[List.append_nil] at hg1;subst hg1;show some (Res.tree _)=some (Res.tree _);simp[zbi,Val.cs];done)))
theorem zlg {m:Bool}{v:Val}{k:Int} (h0:0<k) (h1:k+szL Val.szM v.kids<=1000000000000) (hok:v.ok):FnD Tryz.prog 38 [.agg [.d (.i v.ctor),.d (.i v.num),.ms 44 v.kids.length],.d (.i k)] [(44,some (.tree (zaf m (Val.cs v.kids))))]
  (.d (.i (k+szL Val.szM v.kids))) [(44,some (.tree (zaf false (Val.cs (mkL Val.one Val.szM k v.kids)))))]:=by
 rw[Val.ok_iff] at hok;refine bd Tryz.f38 10 [] [] fun w0 F0 own kept hk=>?_;refine Walk.box (id:=3002) .none rfl rfl rfl (by first|rfl|(simp only[zak,occH,occE,Res.ids,xag,List.nil_append,AV.idsL,AV.ids,zab,zaa,zac,zal,xae,List.map_nil,upC];rfl)) (by first|rfl|(simp only[zak,occH,occE,Res.ids,xag,List.nil_append,AV.idsL,AV.ids,zab,zaa,zac,zal,xae,List.map_nil,upC];rfl)) (by first|rfl|(simp only[zak,occH,occE,Res.ids,xag,List.nil_append,AV.idsL,AV.ids,zab,zaa,zac,zal,xae,List.map_nil,upC];rfl)) (by first|rfl|(simp only[zak,occH,occE,Res.ids,xag,List.nil_append,AV.idsL,AV.ids,zab,zaa,zac,zal,xae,List.map_nil,upC];rfl)) ?_;refine ev ?_;refine Walk.call (cr:=[]) zpw (zkm _ (Nat.le_refl _) h0 h1 hok.1 hok.2) rfl .none rfl rfl (.cons (xay (by first|rfl|(simp;done))) (.cons (.refl _) .nil)) ⟨rfl,trivial⟩ rfl (by first|rfl|(simp only[zar,List.all_cons,List.all_nil,zaC,zay,AV.idsL,AV.ids,zab,zaa,xae,List.map_nil];rfl)) (by first|rfl|(simp only[zak,occH,occE,Res.ids,xag,List.nil_append,AV.idsL,AV.ids,zab,zaa,zac,zal,xae,List.map_nil,upC];rfl)) ?_;refine ev ?_;focus (refine rn [(44,some (.tree (zaf false (Val.cs (mkL Val.one Val.szM k v.kids)))))] (r1 rfl) (.eqd ?_) ⟨rfl,rfl⟩ (SubO.get ⟨.inr (by rfl),⟨.inl rfl,trivial⟩⟩) (zaE rfl);all_goals (first|rfl|(simp[];done)|(simp_all;done)|(simp_all;omega)|omega))
def zbt (w:List Data):Nat->Ty->Val->Bool
 |0,_,_=>false
 |n+1,t,v=>if t.data = -1 then decide (v.ctor = -1)&&(decide (0<=v.num)&&(decide (v.num<=9)&&decide (v.kids.length=0)))
   else if v.num=0/\v.ctor∈za5 w t then all2 (zbt w n) (zad w t v.ctor) v.kids else false
def zcV (g:Ty->Val->Int->Bool×Int):List Ty->List Val->Int->Bool×Int
 |a::r,b::s,c=>if (g a b c).1 then zcV g r s (g a b c).2 else (false,(g a b c).2)
 |_,_,c=>(true,c)
def za4 (w:List Data):Nat->Ty->Val->Int->Bool×Int
 |0,_,_,c=>(false,c+1)
 |n+1,t,v,c=>if 60<c+1 then (false,c+1)
   else if t.data = -1 then (decide (v.ctor = -1)&&(decide (0<=v.num)&&(decide (v.num<=9)&&decide (v.kids.length=0))),c+1)
   else if v.num=0/\v.ctor∈za5 w t then (if (zad w t v.ctor).length=v.kids.length then zcV (za4 w n) (zad w t v.ctor) v.kids (c+1) else (false,c+1))
   else (false,c+1)
theorem zqO {w:List Data}{n:Nat} (ih:∀t v c,(za4 w n t v c).1=(zbt w n t v&&decide (c+(v.size:Int)<=60))/\((za4 w n t v c).1=true->(za4 w n t v c).2=c+v.size)):
  ∀(a:List Ty) (b:List Val) (c:Int),a.length=b.length->c<=60->(zcV (za4 w n) a b c).1=(all2 (zbt w n) a b&&decide (c+(Vals.size b:Int)<=60))/\((zcV (za4 w n) a b c).1=true->(zcV (za4 w n) a b c).2=c+Vals.size b)
 | [],[],c,_,hc=>by simp[zcV,all2,Vals.size,hc]
 |x::r,y::s,c,hl,hc=>by
  obtain⟨h1,h2⟩:=ih x y c;simp only[zcV,all2,Vals.size];cases hh:(za4 w n x y c).1 with
  |true=>
   have h3:=h2 hh;rw[hh] at h1;have h4:=h1.symm;simp only[xad,decide_eq_true_eq] at h4;obtain⟨h5,h6⟩:=zqO ih r s (za4 w n x y c).2 (by simpa using hl) (by omega);simp only[if_true];rw[h5];refine⟨?_,fun hx=>?_⟩
   ·rw[h4.1,h3,Bool.true_and];congr 1
    exact decide_eq_decide.2 (by push_cast;omega)
   ·rw[<-h5] at hx;rw[h6 hx,h3];push_cast;omega
  |false=>
   rw[hh] at h1;simp only[Bool.false_eq_true,if_false,false_implies,and_true];have h4:=h1.symm;simp only[Bool.and_eq_false_imp,decide_eq_false_iff_not] at h4;symm
   cases hf:zbt w n x y with
   |false=>simp
   |true=>
    have:=h4 hf;have h7:¬(c+((y.size+Vals.size s:Nat):Int)<=60):=by push_cast;omega
    simp only[Bool.and_eq_false_imp];intro _;exact decide_eq_false h7
 | [],_::_,_,hl,_=>by simp at hl
 |_::_,[],_,hl,_=>by simp at hl
theorem xaA {l:List Val} (h:l.length=0):Vals.size l=0:=by
 cases l with
 |nil=>rfl
 |cons x r=>simp at h
theorem zl1 (w:List Data):∀(n:Nat) (t:Ty) (v:Val) (c:Int),(za4 w n t v c).1=(zbt w n t v&&decide (c+(v.size:Int)<=60))/\((za4 w n t v c).1=true->(za4 w n t v c).2=c+v.size)
 |0,t,v,c=>by simp[za4,zbt]
 |n+1,t,v,c=>by
  have hsz:=Val.size_eq v;unfold za4 zbt;by_cases h1:60<c+1
  ·rw[if_pos h1];simp only[Bool.false_eq_true,false_implies,and_true];symm
   simp only[Bool.and_eq_false_imp,decide_eq_false_iff_not];intro _;omega
  ·rw[if_neg h1];by_cases h2:t.data = -1
   ·rw[if_pos h2,if_pos h2];refine⟨?_,fun hx=>?_⟩
    ·by_cases hk:v.kids.length=0
     ·have:=xaA hk;have h3:decide (c+(v.size:Int)<=60)=true:=decide_eq_true (by omega);rw[h3,Bool.and_true]
     ·simp[hk]
    ·simp only[xad,decide_eq_true_eq] at hx;have:=xaA hx.2.2.2;simp only;omega
   ·rw[if_neg h2,if_neg h2];by_cases h3:v.num=0/\v.ctor∈za5 w t
    ·rw[if_pos h3,if_pos h3];by_cases h4:(zad w t v.ctor).length=v.kids.length
     ·rw[if_pos h4];obtain⟨h5,h6⟩:=zqO (fun t v c=>zl1 w n t v c) (zad w t v.ctor) v.kids (c+1) h4 (by omega);refine⟨?_,fun hx=>?_⟩
      ·rw[h5];congr 1
       exact decide_eq_decide.2 (by omega)
      ·rw[h6 hx];omega
     ·rw[if_neg h4,zd5 h4];simp
    ·rw[if_neg h3,if_neg h3];simp
mutual
def cntV (m:Int):Val->Int
 | .mk _ _ ks=>cntL m 1 ks
def cntL (m n:Int):List Val->Int
 | []=>n
 |k::r=>if n<=m then cntL m (n+cntV (m-n) k) r else n
end
theorem zuM (m:Int) (v:Val):cntV m v=cntL m 1 v.kids:=by cases v;rfl
theorem zom {m n:Int}{l:List Val} (h:¬n<=m):cntL m n l=n:=by cases l<;>simp[cntL,h]
mutual
theorem zhd:∀(v:Val) (m:Int),1<=cntV m v/\cntV m v<=v.size
 | .mk _ _ ks,m=>by
  have:=znz ks m 1 (by omega);simp only[cntV,Val.size];push_cast;omega
theorem znz:∀(l:List Val) (m n:Int),1<=n->1<=cntL m n l/\cntL m n l<=n+Vals.size l
 | [],m,n,h=>by simp[cntL,Vals.size];omega
 |k::r,m,n,h=>by
  have h1:=zhd k (m-n);have h2:=znz r m (n+cntV (m-n) k) (by omega);simp only[cntL,Vals.size];split
  ·push_cast;omega
  ·push_cast;omega
end
mutual
theorem zp6:∀(v:Val) (m:Int),(cntV m v<=m↔(v.size:Int)<=m)/\(cntV m v<=m->cntV m v=v.size)
 | .mk _ _ ks,m=>by
  have:=zp4 ks m 1;simp only[cntV,Val.size];push_cast;exact this
theorem zp4:∀(l:List Val) (m n:Int),(cntL m n l<=m↔n+(Vals.size l:Int)<=m)/\(cntL m n l<=m->cntL m n l=n+Vals.size l)
 | [],m,n=>by simp[cntL,Vals.size]
 |k::r,m,n=>by
  have h1:=zp6 k (m-n);have h2:=zp4 r m (n+cntV (m-n) k);have h3:=znz r m (n+cntV (m-n) k);have h4:=zhd k (m-n);simp only[cntL,Vals.size];push_cast
  by_cases hn:n<=m
  ·rw[if_pos hn];by_cases h5:cntV (m-n) k<=m-n
   ·have h6:=h1.2 h5;rw[h6] at h2 ⊢;constructor
    ·rw[h2.1];constructor<;>intro h<;>omega
    ·intro h;rw[h2.2 h];omega
   ·have h7:¬(k.size:Int)<=m-n:=fun h=>h5 (h1.1.2 h);have h8:¬n+cntV (m-n) k<=m:=by omega
    rw[zom h8];constructor
    ·constructor<;>intro h<;>omega
    ·intro h;omega
  ·rw[if_neg hn];constructor
   ·constructor<;>intro h<;>omega
   ·intro h;omega
end
theorem Vals.size_split {pre rest l:List Val}{y:Val} (h:pre++y::rest=l):Vals.size l=Vals.size pre+y.size+Vals.size rest:=by
 subst h;induction pre with
 |nil=>simp[Vals.size]
 |cons x r ih=>simp only[xag,Vals.size,ih];omega
theorem zqA {l:List Val}{i:Nat} (h:i<l.length):(nth l i).size<=Vals.size l:=Vals.size_mem (zai h)
theorem zia {l:List Val}{i:Nat} (h:i<l.length):Vals.size (l.drop i)=(nth l i).size+Vals.size (l.drop (i+1)):=by
 rw[zaW h];rfl
theorem zib:∀(n:Nat){v:Val}{m:Int},v.size<=n->v.size<=1000000000000->v.ok->0<=m->m<=1000000000000->FnD Tryz.prog 192 [.agg [.d (.i v.ctor),.d (.i v.num),.d (za9 v.kids)],.d (.i m)] [] (.d (.i (cntV m v))) []
 |0,v,m,h,_,_,_,_=>by rw[Val.size_eq] at h;omega
 |n+1,v,m,h,hb,hok,m0,m1=>by
  rw[Val.size_eq] at h hb;rw[Val.ok_iff] at hok;rw[zuM];refine bd Tryz.f192 31 [] [] fun w0 F0 own kept hk=>?_;refine bx 3002 ?_;refine ev ?_;refine xam (ι:=Nat×Int) hk (fun x=>[(6,.d (.i (x.1:Int))),(5,.d (.i x.2))]) [7,8,9,10,11,12,13,14,15,16,17,18,19,20,21,22,23,24,25,26,27,28,29] (fun x=>[]) (fun x=>x.1<=v.kids.length/\cntL m x.2 (v.kids.drop x.1)=cntL m 1 v.kids/\1<=x.2/\x.2+Vals.size (v.kids.drop x.1)<=1+Vals.size v.kids) (fun x=>v.kids.length-x.1) (0,1) ⟨by simp,by simp,by simp,by simp⟩ ⟨⟨_,rfl,xax ?_⟩,⟨⟨_,rfl,xax ?_⟩,trivial⟩⟩ trivial (fun x=>rfl) (fun x hg1=>?_);iterate 2 focus (first|rfl|(simp;done)|(dsimp only;omega))
  refine evc [] [] ?_;refine sq ?_ ?_<;>intro h1 h1p h1s<;>(try simp only[Q,Val.cs_len] at h1p);refine sq ?_ ?_<;>intro h2 h2p h2s<;>(try simp only[Q,Val.cs_len] at h2p);refine xaP sl47 .none rfl rfl rfl rfl (ziX (by omega)) rfl ?_;refine ev ?_;refine ar ?_ (by first|(constructor<;>omega)|(have hz:=zhd (nth v.kids x.1) (m-x.2);have hs:=zia (l:=v.kids) (i:=x.1) (by omega);constructor<;>omega)|(constructor<;>simp[Val.cs_len]<;>omega));refine wc zsD (zib n (v:=nth v.kids x.1) (by have:=zqA (l:=v.kids) (i:=x.1) (by omega);omega) (by have:=zqA (l:=v.kids) (i:=x.1) (by omega);omega) (Vals.ok_mem hok.2 _ (zai (by omega))) (by omega) (by omega)) rfl rfl ?_;refine ev ?_;refine ar ?_ (by first|(constructor<;>omega)|(have hz:=zhd (nth v.kids x.1) (m-x.2);have hs:=zia (l:=v.kids) (i:=x.1) (by omega);constructor<;>omega)|(constructor<;>simp[Val.cs_len]<;>omega));refine ar ?_ (by first|(constructor<;>omega)|(have hz:=zhd (nth v.kids x.1) (m-x.2);have hs:=zia (l:=v.kids) (i:=x.1) (by omega);constructor<;>omega)|(constructor<;>simp[Val.cs_len]<;>omega));refine xah ((x.1+1,x.2+cntV (m-x.2) (nth v.kids x.1))) ⟨(by
      have hz:=zhd (nth v.kids x.1) (m-x.2);have hs:=zia (l:=v.kids) (i:=x.1) (by omega);refine⟨by dsimp only;omega, ?_,by dsimp only;omega,by dsimp only;omega⟩;rw[<-hg1.2.1,zaW (l:=v.kids) (i:=x.1) (by omega),cntL,if_pos (by omega)]),(by dsimp only;omega),sx ⟨⟨_,rfl,xax ?_⟩,⟨⟨_,rfl,xax ?_⟩,trivial⟩⟩ trivial⟩
  iterate 2 focus (first|rfl|(simp;done)|(dsimp only;omega))
  refine rq ?_;rotate_left;refine sqF ?_;refine rq ?_;rotate_left;all_goals (refine congrArg D.i ?_;rw[<-hg1.2.1];first|(rw[List.drop_eq_nil_of_le (by omega)];rfl)|(rw[zom (by omega)]))
theorem ziS {w:List Data} (hw:WT w):∀(n:Nat){a k m:Int}{v:Val},m=n->n<=1000->TyIn w.length ⟨a,k⟩->v.ok->
  FnD Tryz.prog 191 [.d (zao w),.agg [.d (.i a),.d (.i k)],.agg [.d (.i v.ctor),.d (.i v.num),.d (za9 v.kids)],.d (.i m)] [] (.d (.bool (zbt w n ⟨a,k⟩ v))) []
 |0,a,k,m,v,hm,_,_,_=>by
  refine bd Tryz.f191 78 [] [] fun w0 F0 own kept hk=>?_;refine bx 3005 ?_;refine bx 3006 ?_;refine ev ?_;refine sq ?_ ?_<;>intro h1 h1p h1s<;>(try simp only[Q] at h1p);refine rq ?_;rotate_left;exfalso;simp at h1;omega;all_goals (rfl)
 |n+1,a,k,m,v,hm,hn,ht,hok=>by
  rcases ht with ha|⟨d,hd,hlt⟩
  ·have ha':a = -1:=ha;subst ha';refine bd Tryz.f191 78 [] [] fun w0 F0 own kept hk=>?_;refine bx 3005 ?_;refine bx 3006 ?_;refine ev ?_;refine sq ?_ ?_<;>intro h1 h1p h1s<;>(try simp only[Q] at h1p);exfalso;simp at h1;omega;refine sq ?_ ?_<;>intro h2 h2p h2s<;>(try simp only[Q] at h2p);refine sq ?_ ?_<;>intro h3 h3p h3s<;>(try simp only[Q] at h3p);refine sq ?_ ?_<;>intro h4 h4p h4s<;>(try simp only[Q] at h4p);refine sq ?_ ?_<;>intro h5 h5p h5s<;>(try simp only[Q] at h5p);focus (refine rq ?_;all_goals (refine congrArg D.bool ?_;simp[zbt,Val.cs_len,h1s,h1p,h2s,h2p,h3s,h3p,h4s,h4p,h5s,h5p]))
   focus (refine rq ?_;all_goals (refine congrArg D.bool ?_;simp[zbt,Val.cs_len,h1s,h1p,h2s,h2p,h3s,h3p,h4s,h4p,h5s,h5p]))
   refine sqF ?_;focus (refine rq ?_;all_goals (refine congrArg D.bool ?_;simp[zbt,Val.cs_len,h1s,h1p,h2s,h2p,h3s,h3p,h4s,h4p]))
   refine sqF ?_;refine sqF ?_;focus (refine rq ?_;all_goals (refine congrArg D.bool ?_;simp[zbt,Val.cs_len,h1s,h1p,h2s,h2p,h3s,h3p]))
   exact absurd h2 (by simp)
  have hd':a=(d:Int):=hd;subst hd';have hok':=hok;rw[Val.ok_iff] at hok;have hcl:=zii hw (d:=d) (k:=k);have hdn:¬(d:Int) = -1:=by omega
  by_cases hv:v.num=0/\v.ctor∈za5 w ⟨d,k⟩
  ·have hal:=zfi hw hlt (k:=k) (zdL (k:=k) (c:=v.ctor) hv.2);refine bd Tryz.f191 78 [] [] fun w0 F0 own kept hk=>?_;refine bx 3005 ?_;refine bx 3006 ?_;refine ev ?_;refine sq ?_ ?_<;>intro h1 h1p h1s<;>(try simp only[Q,Val.cs_len] at h1p);exfalso;simp at h1;omega;refine sq ?_ ?_<;>intro h2 h2p h2s<;>(try simp only[Q,Val.cs_len] at h2p);exfalso;simp at h2<;>omega;refine sq ?_ ?_<;>intro h3 h3p h3s<;>(try simp only[Q,Val.cs_len] at h3p);refine dr ?_;refine sqT ?_;exfalso;have e1:=hv.1;have e2:=hv.2;simp_all;refine Walk.call (cr:=[]) zfl (zfK hw hlt) rfl (.some rfl rfl h3) rfl rfl (LeL.refl _) trivial rfl rfl rfl ?_;refine evd [] [(38,false)] ?_ ⟨⟨_,rfl,h3⟩,trivial⟩;refine Walk.call (cr:=[]) zix (zde hcl) rfl (.some rfl rfl h3) rfl rfl (LeL.refl _) trivial rfl rfl rfl ?_;refine evd [] [(38,false)] ?_ ⟨⟨_,rfl,h3⟩,trivial⟩;refine dr ?_;refine sq ?_ ?_<;>intro h5 h5p h5s<;>(try simp only[Q,Val.cs_len] at h5p);exfalso;have e1:=hv.1;have e2:=hv.2;simp_all;refine wc zdO (ziQ hw hlt (zdL (k:=k) (c:=v.ctor) hv.2)) rfl rfl ?_;refine ev ?_;refine sq ?_ ?_<;>intro h6 h6p h6s<;>(try simp only[Q,Val.cs_len] at h6p);refine rq ?_;rotate_left;refine xam (ι:=Nat) hk (fun i=>[(10,.d (.i (i:Int)))]) [8,58,59,60,61,62,63,64,65,66,67,68,69,70,71,72,73,74,75,76,77] (fun i=>[]) (fun i=>i<=(zad w ⟨d,k⟩ v.ctor).length/\∀i',i'<i->zbt w n (nth (zad w ⟨d,k⟩ v.ctor) i') (nth v.kids i')=true) (fun i=>(zad w ⟨d,k⟩ v.ctor).length-i) 0 ⟨by omega,fun _ h=>absurd h (by omega)⟩ ⟨⟨_,rfl,xax ?_⟩,trivial⟩ trivial (fun x=>rfl) (fun i hg1=>?_);focus (first|rfl|(simp;done)|(simp_all;done)|omega)
   refine evc [] [] ?_;refine sq ?_ ?_<;>intro h7 h7p h7s<;>(try simp only[Q,Val.cs_len] at h7p);refine xaP zaK .none rfl rfl rfl rfl (zaz (by omega)) rfl ?_;refine evd [] [] ?_;refine xaP sl47 .none rfl rfl rfl rfl (ziX (by omega)) rfl ?_;refine evd [] [] ?_;refine ar ?_ (by first|(constructor<;>omega)|(constructor<;>simp[Val.cs_len]<;>omega));refine wc zsC (ziS hw n (by omega) (by omega) (zjY hw hlt (k:=k) (zdL (k:=k) (c:=v.ctor) hv.2) (zai (by omega))) (Vals.ok_mem hok.2 _ (zai (by omega)))) rfl rfl ?_;refine evd [] [] ?_;refine dr ?_;refine sq ?_ ?_<;>intro h8 h8p h8s<;>(try simp only[Q,Val.cs_len] at h8p);refine rq ?_;rotate_left;refine ar ?_ (by first|(constructor<;>omega)|(constructor<;>simp[Val.cs_len]<;>omega));refine xah (i+1) ⟨⟨by omega,zaM hg1.2 (by assumption)⟩,(by omega),sx ⟨⟨_,rfl,xax ?_⟩,trivial⟩ trivial⟩;focus (first|rfl|(simp;done)|(simp_all;done)|omega)
   refine rq ?_;rotate_left;all_goals (refine congrArg D.bool ?_;unfold zbt;rw[if_neg hdn,if_pos hv];first|(rw[zd5 (by simp[Val.cs_len] at *;omega)])|(rw[zbn (by simp[Val.cs_len] at *;omega) (fun x hx=>hg1.2 x (by simp[Val.cs_len] at *;omega))])|(rw[zbm (i:=i) (by simp[Val.cs_len] at *;omega) (by simp[Val.cs_len] at *;omega) (by assumption)]))
  ·skip
   refine bd Tryz.f191 78 [] [] fun w0 F0 own kept hk=>?_;refine bx 3005 ?_;refine bx 3006 ?_;refine ev ?_;refine sq ?_ ?_<;>intro h1 h1p h1s<;>(try simp only[Q] at h1p);exfalso;simp at h1;omega;refine sq ?_ ?_<;>intro h2 h2p h2s<;>(try simp only[Q] at h2p);exfalso;simp at h2<;>omega;refine sq ?_ ?_<;>intro h3 h3p h3s<;>(try simp only[Q] at h3p);refine dr ?_;refine sqT ?_;refine rq ?_;rotate_left;refine Walk.call (cr:=[]) zfl (zfK hw hlt) rfl (.some rfl rfl h3) rfl rfl (LeL.refl _) trivial rfl rfl rfl ?_;refine evd [] [(38,false)] ?_ ⟨⟨_,rfl,h3⟩,trivial⟩;refine Walk.call (cr:=[]) zix (zde hcl) rfl (.some rfl rfl h3) rfl rfl (LeL.refl _) trivial rfl rfl rfl ?_;refine evd [] [(38,false)] ?_ ⟨⟨_,rfl,h3⟩,trivial⟩;refine dr ?_;refine sq ?_ ?_<;>intro h5 h5p h5s<;>(try simp only[Q] at h5p);refine rq ?_;rotate_left;exfalso;simp_all;all_goals (refine congrArg D.bool ?_;unfold zbt;rw[if_neg hdn,if_neg hv])
def isV (w:List Data) (t:Ty) (v:Val):Bool:=zbt w 10 t v&&decide ((v.size:Int)<=60)
theorem zqS {w:List Data} (hw:WT w){a k:Int}{v:Val} (ht:TyIn w.length ⟨a,k⟩) (hok:v.ok) (hb:v.size<=1000000000000):
  FnD Tryz.prog 105 [.d (zao w),.agg [.d (.i a),.d (.i k)],.agg [.d (.i v.ctor),.d (.i v.num),.d (za9 v.kids)]] [] (.d (.bool (isV w ⟨a,k⟩ v))) []:=by
 have hc:=zp6 v 60;refine bd Tryz.f105 16 [] [] fun w0 F0 own kept hk=>?_;refine bx 3004 ?_;refine bx 3005 ?_;refine ev ?_;refine wc zsC (ziS hw 10 (by omega) (by omega) ht hok) rfl rfl ?_;refine ev ?_;refine sq ?_ ?_<;>intro h1 h1p h1s<;>(try simp only[Q] at h1p);refine Walk.call (cr:=[]) zsD (zib _ (Nat.le_refl _) hb hok (by omega) (by omega)) rfl (.some rfl rfl h1) rfl rfl (LeL.refl _) trivial rfl rfl rfl ?_;refine evs [] [(11,true)] ?_ ⟨⟨_,rfl,h1⟩,trivial⟩;focus (refine rq ?_;all_goals (refine congrArg D.bool ?_;unfold isV;simp only[h1s,h1p];first|rfl|(simp only[Bool.true_and];exact decide_eq_decide.2 hc.1)|(simp;done)))
 focus (refine rq ?_;all_goals (refine congrArg D.bool ?_;unfold isV;simp only[h1s,h1p];first|rfl|(simp only[Bool.true_and];exact decide_eq_decide.2 hc.1)|(simp;done)))
theorem znf {w:List Data}{n:Nat}{a:List Ty}{b:List Val}{i:Nat}{c:Int} (ha:i<a.length) (hl:a.length=b.length) (h:(za4 w n (nth a i) (nth b i) c).1=false):
  zcV (za4 w n) (a.drop i) (b.drop i) c=(false,(za4 w n (nth a i) (nth b i) c).2):=by
 rw[zaW ha,zaW (l:=b) (by omega),zcV,if_neg (by rw[h];simp)]
theorem zsf {w:List Data}{n:Nat}{a:List Ty}{b:List Val}{i:Nat}{c:Int} (ha:i<a.length) (hl:a.length=b.length) (h:(za4 w n (nth a i) (nth b i) c).1=true):
  zcV (za4 w n) (a.drop i) (b.drop i) c=zcV (za4 w n) (a.drop (i+1)) (b.drop (i+1)) (za4 w n (nth a i) (nth b i) c).2:=by
 rw[zaW ha,zaW (l:=b) (by omega),zcV,if_pos h]
theorem zoS {w:List Data}{n:Nat}{a:List Ty}{b:List Val}{i:Nat}{c:Int} (ha:a.length<=i):zcV (za4 w n) (a.drop i) (b.drop i) c=(true,c):=by
 rw[List.drop_eq_nil_of_le ha,zcV];simp
theorem zt1 (w:List Data) (n:Nat) (t:Ty) (v:Val) (c:Int) (h:(za4 w n t v c).1=true):c<=(za4 w n t v c).2/\(za4 w n t v c).2<=60:=by
 have h1:=(zl1 w n t v c);have h2:=h1.2 h;rw[h1.1] at h;simp only[xad,decide_eq_true_eq] at h;omega
theorem zgK {w:List Data} (hw:WT w):∀(n:Nat){a k d c:Int}{v:Val},d+n=11->n<=10->TyIn w.length ⟨a,k⟩->v.ok->0<=c->c<=1000000000000->
  FnD Tryz.prog 145 [.d (zao w),.agg [.d (.i a),.d (.i k)],.agg [.d (.i v.ctor),.d (.i v.num),.d (za9 v.kids)],.d (.i d),.d (.bool false),.ref 950 0] [(950,some (.box [.d (.i c)]))]
   (.d (.bool (za4 w n ⟨a,k⟩ v c).1)) [(950,some (.box [.d (.i (za4 w n ⟨a,k⟩ v c).2)]))]
 |0,a,k,d,c,v,hd,_,_,_,c0,c1=>by
  refine bd Tryz.f145 108 [] [] fun w0 F0 own kept hk=>?_;refine bx 3007 ?_;refine bx 3008 ?_;refine ev ?_;refine ar ?_;refine so ty3 ?_;refine tv ?_;refine sq ?_ ?_<;>intro h1 h1p h1s<;>(try simp only[Q] at h1p);refine sqT ?_;refine rn [(950,some (.box [.d (.i (za4 w 0 ⟨a,k⟩ v c).2)]))] (r1 rfl) (.eqd ?_) ⟨rfl,rfl⟩ (SubO.get ⟨.inr ?_,⟨.inl rfl,trivial⟩⟩) (zaE rfl);rotate_left 2;refine sq ?_ ?_<;>intro h3 h3p h3s<;>(try simp only[Q] at h3p);refine rn [(950,some (.box [.d (.i (za4 w 0 ⟨a,k⟩ v c).2)]))] (r1 rfl) (.eqd ?_) ⟨rfl,rfl⟩ (SubO.get ⟨.inr ?_,⟨.inl rfl,trivial⟩⟩) (zaE rfl);rotate_left 2;exfalso;simp at *;omega;all_goals (first|((rfl);done)|(rfl))
 |n+1,a,k,d,c,v,hd,hn,ht,hok,c0,c1=>by
  by_cases h60:60<c+1
  ·skip
   refine bd Tryz.f145 108 [] [] fun w0 F0 own kept hk=>?_;refine bx 3007 ?_;refine bx 3008 ?_;refine ev ?_;refine ar ?_;refine so ty3 ?_;refine tv ?_;refine sq ?_ ?_<;>intro h1 h1p h1s<;>(try simp only[Q] at h1p);refine sqT ?_;refine rn [(950,some (.box [.d (.i (za4 w (n+1) ⟨a,k⟩ v c).2)]))] (r1 rfl) (.eqd ?_) ⟨rfl,rfl⟩ (SubO.get ⟨.inr ?_,⟨.inl rfl,trivial⟩⟩) (zaE rfl);rotate_left 2;refine sq ?_ ?_<;>intro h3 h3p h3s<;>(try simp only[Q] at h3p);refine rn [(950,some (.box [.d (.i (za4 w (n+1) ⟨a,k⟩ v c).2)]))] (r1 rfl) (.eqd ?_) ⟨rfl,rfl⟩ (SubO.get ⟨.inr ?_,⟨.inl rfl,trivial⟩⟩) (zaE rfl);rotate_left 2;exfalso;simp at *;omega;all_goals (first|((unfold za4;rw[if_pos h60]);done)|((unfold za4;rw[if_pos h60];rfl)))
  rcases ht with ha|⟨e,he,hlt⟩
  ·have ha':a = -1:=ha;subst ha';refine bd Tryz.f145 108 [] [] fun w0 F0 own kept hk=>?_;refine bx 3007 ?_;refine bx 3008 ?_;refine ev ?_;refine ar ?_;refine so ty3 ?_;refine tv ?_;refine sq ?_ ?_<;>intro h1 h1p h1s<;>(try simp only[Q] at h1p);refine sqT ?_;exfalso;simp at *;omega;refine sq ?_ ?_<;>intro h3 h3p h3s<;>(try simp only[Q] at h3p);exfalso;simp at *;omega;refine sqF ?_;refine sqF ?_;refine sq ?_ ?_<;>intro h5 h5p h5s<;>(try simp only[Q] at h5p);refine sq ?_ ?_<;>intro h6 h6p h6s<;>(try simp only[Q] at h6p);refine Walk.call (cr:=[]) zd8 (zbH) rfl (.some rfl rfl h6) rfl rfl (LeL.refl _) trivial rfl rfl rfl ?_;refine evs [] [(52,true)] ?_ ⟨⟨_,rfl,h6⟩,trivial⟩;refine sq ?_ ?_<;>intro h7 h7p h7s<;>(try simp only[Q] at h7p);refine rn [(950,some (.box [.d (.i (za4 w (n+1) ⟨-1,k⟩ v c).2)]))] (r1 rfl) (.eqd ?_) ⟨rfl,rfl⟩ (SubO.get ⟨.inr ?_,⟨.inl rfl,trivial⟩⟩) (zaE rfl);rotate_left 2;refine rn [(950,some (.box [.d (.i (za4 w (n+1) ⟨-1,k⟩ v c).2)]))] (r1 rfl) (.eqd ?_) ⟨rfl,rfl⟩ (SubO.get ⟨.inr ?_,⟨.inl rfl,trivial⟩⟩) (zaE rfl);rotate_left 2;refine sqF ?_;refine rn [(950,some (.box [.d (.i (za4 w (n+1) ⟨-1,k⟩ v c).2)]))] (r1 rfl) (.eqd ?_) ⟨rfl,rfl⟩ (SubO.get ⟨.inr ?_,⟨.inl rfl,trivial⟩⟩) (zaE rfl);rotate_left 2;exact absurd h5 (by simp);all_goals (first|((refine congrArg D.bool ?_;unfold za4;rw[if_neg h60,if_pos rfl];simp only[zaF] at *;first|(simp_all[Val.cs_len];done)|(simp_all[Val.cs_len];intro h1 h2;omega));done)|((unfold za4;rw[if_neg h60,if_pos rfl];rfl)))
  have he':a=(e:Int):=he;subst he';have hok':=hok;rw[Val.ok_iff] at hok;have hcl:=zii hw (d:=e) (k:=k);have hdn:¬(e:Int) = -1:=by omega
  by_cases hv:v.num=0/\v.ctor∈za5 w ⟨e,k⟩
  ·have hal:=zfi hw hlt (k:=k) (zdL (k:=k) (c:=v.ctor) hv.2);by_cases hlen:(zad w ⟨e,k⟩ v.ctor).length=v.kids.length
   ·have hsc:za4 w (n+1) ⟨e,k⟩ v c=zcV (za4 w n) (zad w ⟨e,k⟩ v.ctor) v.kids (c+1):=by
     conv=>lhs;unfold za4
     rw[if_neg h60,if_neg hdn,if_pos hv,if_pos hlen]
    rw[hsc];refine bd Tryz.f145 108 [] [] fun w0 F0 own kept hk=>?_;refine bx 3007 ?_;refine bx 3008 ?_;refine ev ?_;refine ar ?_ (by(constructor<;>omega));refine so ty3 ?_;refine tv ?_;refine sq ?_ ?_<;>intro h1 h1p h1s<;>(try simp only[Q,Val.cs_len,Ty.eta] at h1p);refine sqT ?_;exfalso;simp at *;omega;refine sq ?_ ?_<;>intro h3 h3p h3s<;>(try simp only[Q,Val.cs_len,Ty.eta] at h3p);exfalso;simp at *;omega;refine sqF ?_;refine sqF ?_;refine sq ?_ ?_<;>intro h5 h5p h5s<;>(try simp only[Q,Val.cs_len,Ty.eta] at h5p);exfalso;simp at * <;>omega;refine sq ?_ ?_<;>intro h6 h6p h6s<;>(try simp only[Q,Val.cs_len,Ty.eta] at h6p);refine dr ?_;refine sqT ?_;exfalso;have e1:=hv.1;have e2:=hv.2;simp_all;refine Walk.call (cr:=[]) zfm (zdZ hw hlt) rfl (.some rfl rfl h6) rfl rfl (LeL.refl _) trivial rfl rfl rfl ?_;refine evd [] [(67,false)] ?_ ⟨⟨_,rfl,h6⟩,trivial⟩;refine Walk.call (cr:=[]) zj2 (zb7 hcl) rfl (.some rfl rfl h6) rfl rfl (LeL.refl _) trivial rfl rfl rfl ?_;refine evd [] [(67,false)] ?_ ⟨⟨_,rfl,h6⟩,trivial⟩;refine dr ?_;refine sq ?_ ?_<;>intro h8 h8p h8s<;>(try simp only[Q,Val.cs_len,Ty.eta] at h8p);exfalso;have e1:=hv.1;have e2:=hv.2;simp_all;refine wc zdf (zeY hw hlt (zdL (k:=k) (c:=v.ctor) hv.2)) rfl rfl ?_;refine ev ?_;refine sq ?_ ?_<;>intro h9 h9p h9s<;>(try simp only[Q,Val.cs_len,Ty.eta] at h9p);exfalso;simp[Val.cs_len,hlen] at h9;refine xam (ι:=Nat×Int) hk (fun x=>[(90,.d (.i (x.1:Int)))]) [12,14,15,91,92,93,94,95,96,97,98,99,100,101,102,103,104,105,106,107] (fun x=>[(950,some (.box [.d (.i x.2)]))]) (fun x=>x.1<=v.kids.length/\zcV (za4 w n) ((zad w ⟨e,k⟩ v.ctor).drop x.1) (v.kids.drop x.1) x.2=zcV (za4 w n) (zad w ⟨e,k⟩ v.ctor) v.kids (c+1)/\0<=x.2/\x.2<=60) (fun x=>v.kids.length-x.1) (0,c+1) ⟨by simp,by simp,by dsimp only;omega,by dsimp only;omega⟩ ⟨⟨_,rfl,xax ?_⟩,trivial⟩ ⟨?_,trivial⟩ (fun x=>rfl) (fun x hg1=>?_);focus (rfl)
    focus (first|rfl|(simp[getH];done))
    refine evc [] [] ?_;refine sq ?_ ?_<;>intro h10 h10p h10s<;>(try simp only[Q,Val.cs_len,Ty.eta] at h10p);refine xaP sl47 .none rfl rfl rfl rfl (ziX (by omega)) rfl ?_;refine ev ?_;refine ab 3015 tz49 ?_;refine ev ?_;refine so ty49 ?_;refine tv ?_;refine xaP zaK .none rfl rfl rfl rfl (zaz (by omega)) rfl ?_;refine evd [] [] ?_;refine ar ?_ (by(constructor<;>omega));refine wd zss (zgK hw n (a:=(nth (zad w ⟨e,k⟩ v.ctor) x.1).data) (k:=(nth (zad w ⟨e,k⟩ v.ctor) x.1).index) (c:=x.2) (by omega) (by omega) (zjY hw hlt (k:=k) (zdL (k:=k) (c:=v.ctor) hv.2) (zai (by omega))) (Vals.ok_mem hok.2 _ (zai (by omega))) (by omega) (by omega)) rfl rfl ⟨rfl,trivial⟩ ?_;refine evd [] [] ?_;refine dr ?_;refine sq ?_ ?_<;>intro h11 h11p h11s<;>(try simp only[Q,Val.cs_len,Ty.eta] at h11p);refine rn [(950,some (.box [.d (.i (zcV (za4 w n) (zad w ⟨e,k⟩ v.ctor) v.kids (c+1)).2)]))] (r1 rfl) (.eqd ?_) ⟨rfl,rfl⟩ (SubO.get ⟨.inr ?_,⟨.inl rfl,trivial⟩⟩) (zaE rfl);rotate_left 2;refine ar ?_ (by(constructor<;>omega));refine xah ((x.1+1,(za4 w n (nth (zad w ⟨e,k⟩ v.ctor) x.1) (nth v.kids x.1) x.2).2)) ⟨(by
          have hz:(za4 w n (nth (zad w ⟨e,k⟩ v.ctor) x.1) (nth v.kids x.1) x.2).1=true:=by simp_all
          have hb:=zt1 w n _ _ _ hz;obtain⟨h1,h2,h3,h4⟩:=hg1;refine⟨by dsimp only;omega, ?_,by dsimp only;omega,by dsimp only;omega⟩;rw[<-h2,zsf (i:=x.1) (by omega) hlen hz]),(by dsimp only;omega),sx ⟨⟨_,rfl,xax ?_⟩,trivial⟩ ⟨?_,trivial⟩⟩
    focus (rfl)
    focus (first|rfl|(simp[getH];done))
    refine rn [(950,some (.box [.d (.i (zcV (za4 w n) (zad w ⟨e,k⟩ v.ctor) v.kids (c+1)).2)]))] (r1 rfl) (.eqd ?_) ⟨rfl,rfl⟩ (SubO.get ⟨.inr ?_,⟨.inl rfl,trivial⟩⟩) (zaE rfl);rotate_left 2;all_goals (first|((refine congrArg D.bool ?_;first|(obtain⟨h1,h2,h3,h4⟩:=hg1;rw[<-h2,zoS (by simp[Val.cs_len] at *;omega)])|(obtain⟨h1,h2,h3,h4⟩:=hg1;rw[<-h2,znf (by simp[Val.cs_len] at *;omega) hlen (by simp_all)]));done)|(first|(obtain⟨h1,h2,h3,h4⟩:=hg1;show some (Res.box _)=some (Res.box _);rw[<-h2,zoS (by simp[Val.cs_len] at *;omega)])|(obtain⟨h1,h2,h3,h4⟩:=hg1;show some (Res.box _)=some (Res.box _);rw[<-h2,znf (by simp[Val.cs_len] at *;omega) hlen (by simp_all)])))
   ·have hsc:za4 w (n+1) ⟨e,k⟩ v c=(false,c+1):=by
     conv=>lhs;unfold za4
     rw[if_neg h60,if_neg hdn,if_pos hv,if_neg hlen]
    rw[hsc];refine bd Tryz.f145 108 [] [] fun w0 F0 own kept hk=>?_;refine bx 3007 ?_;refine bx 3008 ?_;refine ev ?_;refine ar ?_;refine so ty3 ?_;refine tv ?_;refine sq ?_ ?_<;>intro h1 h1p h1s<;>(try simp only[Q,Val.cs_len] at h1p);refine sqT ?_;exfalso;simp at *;omega;refine sq ?_ ?_<;>intro h3 h3p h3s<;>(try simp only[Q,Val.cs_len] at h3p);exfalso;simp at *;omega;refine sqF ?_;refine sqF ?_;refine sq ?_ ?_<;>intro h5 h5p h5s<;>(try simp only[Q,Val.cs_len] at h5p);exfalso;simp at * <;>omega;refine sq ?_ ?_<;>intro h6 h6p h6s<;>(try simp only[Q,Val.cs_len] at h6p);refine dr ?_;refine sqT ?_;exfalso;have e1:=hv.1;have e2:=hv.2;simp_all;refine Walk.call (cr:=[]) zfm (zdZ hw hlt) rfl (.some rfl rfl h6) rfl rfl (LeL.refl _) trivial rfl rfl rfl ?_;refine evd [] [(67,false)] ?_ ⟨⟨_,rfl,h6⟩,trivial⟩;refine Walk.call (cr:=[]) zj2 (zb7 hcl) rfl (.some rfl rfl h6) rfl rfl (LeL.refl _) trivial rfl rfl rfl ?_;refine evd [] [(67,false)] ?_ ⟨⟨_,rfl,h6⟩,trivial⟩;refine dr ?_;refine sq ?_ ?_<;>intro h8 h8p h8s<;>(try simp only[Q,Val.cs_len] at h8p);exfalso;have e1:=hv.1;have e2:=hv.2;simp_all;refine wc zdf (zeY hw hlt (zdL (k:=k) (c:=v.ctor) hv.2)) rfl rfl ?_;refine ev ?_;refine sq ?_ ?_<;>intro h9 h9p h9s<;>(try simp only[Q,Val.cs_len] at h9p);refine rn [(950,some (.box [.d (.i (c+1))]))] (r1 rfl) (.eqd ?_) ⟨rfl,rfl⟩ (SubO.get ⟨.inr ?_,⟨.inl rfl,trivial⟩⟩) (zaE rfl);rotate_left 2;exfalso;simp[Val.cs_len] at h9;omega;all_goals (first|((rfl);done)|(rfl))
  ·have hsc:za4 w (n+1) ⟨e,k⟩ v c=(false,c+1):=by
    conv=>lhs;unfold za4
    rw[if_neg h60,if_neg hdn,if_neg hv]
   rw[hsc];refine bd Tryz.f145 108 [] [] fun w0 F0 own kept hk=>?_;refine bx 3007 ?_;refine bx 3008 ?_;refine ev ?_;refine ar ?_;refine so ty3 ?_;refine tv ?_;refine sq ?_ ?_<;>intro h1 h1p h1s<;>(try simp only[Q] at h1p);refine sqT ?_;exfalso;simp at *;omega;refine sq ?_ ?_<;>intro h3 h3p h3s<;>(try simp only[Q] at h3p);exfalso;simp at *;omega;refine sqF ?_;refine sqF ?_;refine sq ?_ ?_<;>intro h5 h5p h5s<;>(try simp only[Q] at h5p);exfalso;simp at * <;>omega;refine sq ?_ ?_<;>intro h6 h6p h6s<;>(try simp only[Q] at h6p);refine dr ?_;refine sqT ?_;refine rn [(950,some (.box [.d (.i (c+1))]))] (r1 rfl) (.eqd ?_) ⟨rfl,rfl⟩ (SubO.get ⟨.inr ?_,⟨.inl rfl,trivial⟩⟩) (zaE rfl);rotate_left 2;refine Walk.call (cr:=[]) zfm (zdZ hw hlt) rfl (.some rfl rfl h6) rfl rfl (LeL.refl _) trivial rfl rfl rfl ?_;refine evd [] [(67,false)] ?_ ⟨⟨_,rfl,h6⟩,trivial⟩;refine Walk.call (cr:=[]) zj2 (zb7 hcl) rfl (.some rfl rfl h6) rfl rfl (LeL.refl _) trivial rfl rfl rfl ?_;refine evd [] [(67,false)] ?_ ⟨⟨_,rfl,h6⟩,trivial⟩;refine dr ?_;refine sq ?_ ?_<;>intro h8 h8p h8s<;>(try simp only[Q] at h8p);refine rn [(950,some (.box [.d (.i (c+1))]))] (r1 rfl) (.eqd ?_) ⟨rfl,rfl⟩ (SubO.get ⟨.inr ?_,⟨.inl rfl,trivial⟩⟩) (zaE rfl);rotate_left 2;exfalso;simp_all;all_goals (first|((rfl);done)|(rfl))
theorem zhP {w:List Data} (hw:WT w){a k:Int}{v:Val} (ht:TyIn w.length ⟨a,k⟩) (hok:v.ok):
  FnD Tryz.prog 71 [.d (zao w),.agg [.d (.i a),.d (.i k)],.agg [.d (.i v.ctor),.d (.i v.num),.d (za9 v.kids)]] [] (.d (.bool (isV w ⟨a,k⟩ v))) []:=by
 have hz:=(zl1 w 10 ⟨a,k⟩ v 0).1;rw[Int.zero_add] at hz;refine bd Tryz.f71 12 [] [] fun w0 F0 own kept hk=>?_;refine bx 3004 ?_;refine bx 3005 ?_;refine ev ?_;refine ab 950 tz3 ?_;refine so ty3 ?_;refine tv ?_;refine wd zss (zgK hw 10 (c:=0) (by omega) (by omega) ht hok (by omega) (by omega)) rfl rfl ⟨rfl,trivial⟩ ?_;refine ev ?_;refine rq ?_;rotate_left;all_goals (rw[hz];rfl)
theorem zll {α β:Type}{f:α->β->Bool}{a:List α}{b:List β} (h:all2 f a b=true):a.length=b.length:=by
 by_cases e:a.length=b.length
 ·exact e
 ·rw[zd5 e] at h;exact absurd h (by simp)
structure Bd where
 var:Int
 val:Val
def Bd.c (b:Bd):List D:=[.i b.var,.i b.val.ctor,.i b.val.num,za9 b.val.kids]
instance:Inhabited Bd:=⟨⟨0,default⟩⟩
def ziI (f:Pat->Val->List Bd×Bool):List Pat->List Val->List Bd->List Bd×Bool
 |p::r,v::s,acc=>if (f p v).2=true then ziI f r s (acc++(f p v).1) else ([],false)
 |_,_,acc=>(acc,true)
def zbr:Nat->Pat->Val->List Bd×Bool
 |0,_,_=>([],false)
 |n+1,p,v=>
  if p.op=1 then ([],true)
  else if p.op=2 then ([⟨p.var,v⟩],true)
  else if p.op=3 then ([],zaF v.num p.n p.m)
  else if p.op=5 then (if (zbr n (nth p.kids 0) v).2=true then ((zbr n (nth p.kids 0) v).1,true) else zbr n (nth p.kids 1) v)
  else if p.op=6 then (⟨p.var,v⟩::(zbr n (nth p.kids 0) v).1,(zbr n (nth p.kids 0) v).2)
  else if p.ctor=v.ctor then ziI (zbr n) p.kids v.kids [] else ([],false)
section
variable {n:Nat}{p:Pat}{v:Val}
theorem zuT (h:p.op=1):zbr (n+1) p v=([],true):=by unfold zbr;rw[if_pos h]
theorem zuU (h:p.op=2):zbr (n+1) p v=([⟨p.var,v⟩],true):=by unfold zbr;rw[if_neg (by omega),if_pos h]
theorem zuV (h:p.op=3):zbr (n+1) p v=([],zaF v.num p.n p.m):=by unfold zbr;rw[if_neg (by omega),if_neg (by omega),if_pos h]
theorem zqs (h:p.op=5) (h2:(zbr n (nth p.kids 0) v).2=true):zbr (n+1) p v=((zbr n (nth p.kids 0) v).1,true):=by
 conv=>lhs;unfold zbr
 rw[if_neg (by omega),if_neg (by omega),if_neg (by omega),if_pos h,if_pos h2]
theorem ztS (h:p.op=5) (h2:(zbr n (nth p.kids 0) v).2=false):zbr (n+1) p v=zbr n (nth p.kids 1) v:=by
 conv=>lhs;unfold zbr
 rw[if_neg (by omega),if_neg (by omega),if_neg (by omega),if_pos h,if_neg (by rw[h2];simp)]
theorem zuX (h:p.op=6):zbr (n+1) p v=(⟨p.var,v⟩::(zbr n (nth p.kids 0) v).1,(zbr n (nth p.kids 0) v).2):=by
 conv=>lhs;unfold zbr
 rw[if_neg (by omega),if_neg (by omega),if_neg (by omega),if_neg (by omega),if_pos h]
theorem zuW (h:p.op=4) (h2:p.ctor=v.ctor):zbr (n+1) p v=ziI (zbr n) p.kids v.kids []:=by
 conv=>lhs;unfold zbr
 rw[if_neg (by omega),if_neg (by omega),if_neg (by omega),if_neg (by omega),if_neg (by omega),if_pos h2]
end
def BdOk (m:Nat) (l:List Bd):Prop:=∀x∈l,x.val.ok/\x.val.size<=m
theorem BdOk.app {m:Nat}{a b:List Bd} (h1:BdOk m a) (h2:BdOk m b):BdOk m (a++b):=fun x hx=>by
 rcases List.mem_append.1 hx with h|h
 ·exact h1 x h
 ·exact h2 x h
theorem BdOk.mono {m k:Nat}{a:List Bd} (h:BdOk m a) (hk:m<=k):BdOk k a:=fun x hx=>⟨(h x hx).1,Nat.le_trans (h x hx).2 hk⟩
theorem zwp {w:List Data}{t:Ty}{p:Pat} (h:p.op=5):zah w t p=[t,t]:=by unfold zah;rw[if_neg (by omega),if_pos h]
theorem zwq {w:List Data}{t:Ty}{p:Pat} (h:p.op=6):zah w t p=[t]:=by unfold zah;rw[if_neg (by omega),if_neg (by omega),if_pos h]
theorem zbe {w:List Data}{t:Ty}{p:Pat} (h:p.op=4):zah w t p=zad w t p.ctor:=by unfold zah;rw[if_pos h]
theorem zqQ {w:List Data}{n:Nat}{t:Ty}{p:Pat} (h:zau w (n+1) t p=true):p.op=1\/p.op=2\/p.op=3\/p.op=4\/p.op=5\/p.op=6:=by
 have h1:=(zbg h).1;unfold ownP at h1;have h2:=(of_decide_eq_true h1).2.2.2.2;omega
theorem zh9 {w:List Data}{n:Nat}{t:Ty}{p:Pat} (h:zau w (n+1) t p=true) (h5:p.op=5):p.kids.length=2/\zau w n t (nth p.kids 0)=true/\zau w n t (nth p.kids 1)=true:=by
 have hl:=(zbg h).2;have h0:=fun i hi=>zbj h (i:=i) hi;rw[zwp h5] at hl h0;have hl':p.kids.length=2:=hl;exact⟨hl',h0 0 (by omega),h0 1 (by omega)⟩
theorem zcq {w:List Data}{n:Nat}{t:Ty}{p:Pat} (h:zau w (n+1) t p=true) (h6:p.op=6):p.kids.length=1/\zau w n t (nth p.kids 0)=true:=by
 have hl:=(zbg h).2;have h0:=fun i hi=>zbj h (i:=i) hi;rw[zwq h6] at hl h0;have hl':p.kids.length=1:=hl;exact⟨hl',h0 0 (by omega)⟩
theorem zs9 {w:List Data}{m:Nat}{t:Ty}{v:Val} (h:zbt w (m+1) t v=true) (hd:t.data≠ -1):v.ctor∈zaA w t/\(zad w t v.ctor).length=v.kids.length/\∀i,i<v.kids.length->zbt w m (nth (zad w t v.ctor) i) (nth v.kids i)=true:=by
 unfold zbt at h;rw[if_neg hd] at h;split at h
 ·rename_i hc;have hl:=zll h;exact⟨by unfold zaA;rw[if_neg hd];exact hc.2,hl,fun i hi=>zd6 hl h i (by omega)⟩
 ·exact absurd h (by simp)
inductive Ex where
 |mk (op n ctor:Int) (kids:List Ex)
 deriving Inhabited
mutual
def Ex.c:Ex->List D
 | .mk op n ctor kids=>[.i op,.i n,.i ctor,.sl (Ex.cs kids)]
def Ex.cs:List Ex->List (List D)
 | []=>[]
 |v::r=>v.c::Ex.cs r
end
abbrev zwe (l:List Ex):D:= .sl (Ex.cs l)
theorem Ex.cs_eq:∀l:List Ex,Ex.cs l=l.map Ex.c
 | []=>rfl
 |v::r=>by simp[Ex.cs,Ex.cs_eq r]
theorem Ex.cs_len (l:List Ex):(Ex.cs l).length=l.length:=by simp[Ex.cs_eq]
def Ex.op:Ex->Int | .mk a0 _ _ _=>a0
def Ex.n:Ex->Int | .mk _ a1 _ _=>a1
def Ex.ctor:Ex->Int | .mk _ _ a2 _=>a2
def Ex.kids:Ex->List Ex | .mk _ _ _ k=>k
abbrev Ex.cc (v:Ex):List D:=[.i v.op,.i v.n,.i v.ctor,.sl (Ex.cs v.kids)]
theorem Ex.c_eq (v:Ex):v.c=v.cc:=by cases v;rfl
theorem Ex.eta (v:Ex):Ex.mk v.op v.n v.ctor v.kids=v:=by cases v;rfl
theorem Ex.cs_at' {pre:List Ex}{x:Ex}{rest xs:List Ex} (h:pre++x::rest=xs):(Ex.cs xs)[pre.length]?=some x.cc:=by rw[Ex.cs_eq,<-Ex.c_eq];exact zaN h
mutual
def exEq:Ex->Ex->Bool
 | .mk a0 a1 a2 ks,.mk b0 b1 b2 ls=>decide (a0=b0)&&(decide (a1=b1)&&(decide (a2=b2)&&zpA ks ls))
def zpA:List Ex->List Ex->Bool
 | [],[]=>true
 |x::r,y::s=>exEq x y&&zpA r s
 |_,_=>false
end
mutual
def Ex.ok:Ex->Prop
 | .mk _ _ _ ks=>ks.length<=1000000000000/\Exs.ok ks
def Exs.ok:List Ex->Prop
 | []=>True
 |v::r=>v.ok/\Exs.ok r
end
theorem Exs.ok_mem:∀ {l:List Ex},Exs.ok l->∀v,v∈l->v.ok
 |x::r,h,v,hv=>by
  simp only[Exs.ok] at h;rcases List.mem_cons.1 hv with rfl|hv
  ·exact h.1
  ·exact Exs.ok_mem h.2 v hv
mutual
def Ex.size:Ex->Nat
 | .mk _ _ _ ks=>1+Exs.size ks
def Exs.size:List Ex->Nat
 | []=>0
 |v::r=>v.size+Exs.size r
end
theorem Exs.size_mem:∀ {l:List Ex}{v:Ex},v∈l->v.size<=Exs.size l
 |x::r,v,hv=>by
  simp only[Exs.size];rcases List.mem_cons.1 hv with rfl|hv
  ·omega
  ·have:=Exs.size_mem hv;omega
theorem Ex.ok_iff (v:Ex):v.ok↔v.kids.length<=1000000000000/\Exs.ok v.kids:=by cases v;rfl
theorem Ex.size_eq (v:Ex):v.size=1+Exs.size v.kids:=by cases v;rfl
mutual
theorem zs8:∀v:Ex,exEq v v=true
 | .mk _ _ _ ks=>by simp[exEq,zmv ks]
theorem zmv:∀l:List Ex,zpA l l=true
 | []=>rfl
 |v::r=>by simp[zpA,zs8 v,zmv r]
end
theorem Ex.cs_cc (l:List Ex):Ex.cs l=l.map Ex.cc:=by
 rw[Ex.cs_eq];exact List.map_congr_left (fun v _=>Ex.c_eq v)
mutual
def mEx:Ex->Nat
 | .mk _ _ _ ks=>mExs ks
def mExs:List Ex->Nat
 | []=>0
 |v::r=>1+mEx v+mExs r
end
structure Gd where
 op:Int
 var:Int
 n:Int
 deriving Inhabited
structure Cl where
 pat:Pat
 g:Gd
 deriving Inhabited
structure Ft where
 arg:Ty
 res:Ty
 deriving Inhabited
structure Fu where
 ty:Ft
 cls:List Cl
 bodies:List Ex
 deriving Inhabited
abbrev Cl.c (x:Cl):List D:=[.i x.pat.op,.i x.pat.ctor,.i x.pat.n,.i x.pat.m,.i x.pat.var,.sl (Pat.cs x.pat.kids),.i x.g.op,.i x.g.var,.i x.g.n]
abbrev zbG (l:List Cl):D:= .sl (l.map Cl.c)
abbrev Ft.c (x:Ft):List D:=[.i x.arg.data,.i x.arg.index,.i x.res.data,.i x.res.index]
abbrev Fu.c (x:Fu):List D:=[.i x.ty.arg.data,.i x.ty.arg.index,.i x.ty.res.data,.i x.ty.res.index,zbG x.cls,zwe x.bodies]
def ClsOk (l:List Cl):Prop:=l.length<=1000000000000/\∀c∈l,c.pat.ok
def mCl (c:Cl):Nat:=mPat c.pat
def mCls (l:List Cl):Nat:=l.length+(l.map mCl).sum
def gdEq (a b:Gd):Bool:=decide (a.op=b.op)&&(decide (a.var=b.var)&&decide (a.n=b.n))
def clEq (a b:Cl):Bool:=zgk a.pat b.pat&&gdEq a.g b.g
def zut (a b:List Cl):Bool:=all2 clEq a b
theorem zoi {α:Type}{f:α->α->Bool} (h:∀x,f x x=true):∀l:List α,all2 f l l=true
 | []=>rfl
 |x::r=>by simp[all2,h x,zoi h r]
theorem zsW (a:Cl):clEq a a=true:=by simp[clEq,gdEq,zm8]
theorem zgV (l:List Cl):zut l l=true:=zoi zsW l
theorem zlQ {c:Cl}{left:Int} (hok:c.pat.ok) (k0:0<=left) (k1:left<=1000000000000):
  FnD Tryz.prog 82 [.agg [.d (.i c.pat.op),.d (.i c.pat.ctor),.d (.i c.pat.n),.d (.i c.pat.m),.d (.i c.pat.var),.d (zaj c.pat.kids),.d (.i c.g.op),.d (.i c.g.var),.d (.i c.g.n)],.d (.i left)] [] (.d (.i (szr left (mCl c)))) []:=by
 have z:=zb2 (left:=left) (mCl c);refine bd Tryz.f82 12 [] [] fun w0 F0 own kept hk=>?_;refine bx 3002 ?_;refine ev ?_;refine wc zsv (zgO _ (Nat.le_refl _) hok k0 k1) rfl rfl ?_;refine ev ?_;refine sq ?_ ?_<;>intro h1 h1p h1s<;>(try simp only[Q] at h1p);refine rq ?_;rotate_left;refine rq ?_;rotate_left;all_goals (refine congrArg D.i ?_;unfold mCl at *;omega)
theorem zgN {l:List Cl}{left:Int} (hs:ClsOk l) (k0:0<=left) (k1:left<=1000000000000):FnD Tryz.prog 29 [.d (zbG l),.d (.i left)] [] (.d (.i (szr left (mCls l)))) []:=by
 have h:=hs.1;have z:=zb2 (left:=left) (mCls l);simp only[mCls] at z ⊢;refine bd Tryz.f29 27 [] [] fun w0 F0 own kept hk=>?_;refine ar ?_;refine sq ?_ ?_<;>intro h1 h1p h1s<;>(try simp only[Q] at h1p);refine rq ?_;rotate_left;refine xam (ι:=List (Cl)×List (Cl)×(Int)) hk (fun x=>[(5,.d (.i (x.1.length:Int))),(1,.d (.i x.2.2))]) [4,12,13,14,15,16,17,18,19,20,21,22,23,24,25] (fun x=>[]) (fun x=>x.1++x.2.1=l/\x.2.2=left-l.length-(x.1.map mCl).sum/\0<=x.2.2) (fun x=>x.2.1.length) ([],l,left-l.length) ⟨by simp,by simp,by simp at *;omega⟩ ⟨⟨_,rfl,xax ?_⟩,⟨⟨_,rfl,xax ?_⟩,trivial⟩⟩ trivial (fun x=>rfl) (fun x hg1=>?_);iterate 2 focus (first|rfl|(simp;done))
 obtain⟨pre,rest,v⟩:=x;dsimp only at hg1 ⊢;refine evc [] [] ?_;refine sq ?_ ?_<;>intro h2 h2p h2s<;>(try simp only[Q] at h2p);rcases rest with _|⟨y,rest⟩
 ·exfalso;simp_all
 refine xaP sl62 .none rfl rfl rfl rfl (zaN hg1.1) rfl ?_;refine ev ?_;refine wc zwv (zlQ (c:=y) (hs.2 y (by rw[<-hg1.1];simp)) (by omega) (by omega)) rfl rfl ?_;refine ev ?_;refine sq ?_ ?_<;>intro h3 h3p h3s<;>(try simp only[Q] at h3p);refine rq ?_;rotate_left;refine ar ?_;refine xah ((pre++[y],rest,szr v (mCl y))) ⟨⟨(by have hz:=hg1.1;rw[<-hz];simp),(by have e:=zdE (f:=mCl) hg1.1;have z3:=zb2 (left:=v) (mCl y);simp;omega)⟩,(by simp),sx ⟨⟨_,rfl,xax ?_⟩,⟨⟨_,rfl,xax ?_⟩,trivial⟩⟩ trivial⟩;iterate 2 focus (first|rfl|(simp;done))
 have hrest:rest=[]:=by
  rcases rest with _|⟨a,b⟩
  ·rfl
  ·exfalso;have hz:=congrArg List.length (hg1.1);simp only[xaa,xab,xac] at hz;omega
 subst hrest;refine rq ?_;rotate_left;all_goals (refine congrArg D.i ?_;first|omega|(have e:=zdE (f:=mCl) hg1.1;have z3:=zb2 (left:=v) (mCl y);omega)|(rw[List.append_nil] at hg1;rw[hg1.1] at hg1;omega))
theorem zhU {a b c:Int}:FnD Tryz.prog 165 [.agg [.d (.i a),.d (.i b),.d (.i c)]] [] (.agg [.d (.i a),.d (.i b),.d (.i c)]) []:=by
 refine bd Tryz.f165 14 [] [] fun w0 F0 own kept hk=>?_;refine bx 3001 ?_;refine ab 3002 tz38 ?_;refine tv ?_;refine ab 3003 tz38 ?_;refine tv ?_;refine so ty3 ?_;refine tv ?_;refine so ty3 ?_;refine tv ?_;refine so ty3 ?_;refine tv ?_;refine so ty38 ?_;refine tv ?_;focus (refine rn0 (.cons (.cellA ty38 rfl rfl rfl) .nil) (.agg (.cons (.eqd ?_) (.cons (.eqd ?_) (.cons (.eqd ?_) .nil))));all_goals (first|rfl|(simp[];done)|(simp_all;done)|(simp_all;omega)|omega))
theorem zlR {c:Cl} (hok:c.pat.ok):
  FnD Tryz.prog 84 [.agg [.d (.i c.pat.op),.d (.i c.pat.ctor),.d (.i c.pat.n),.d (.i c.pat.m),.d (.i c.pat.var),.d (zaj c.pat.kids),.d (.i c.g.op),.d (.i c.g.var),.d (.i c.g.n)]] [] (.agg [.d (.i c.pat.op),.d (.i c.pat.ctor),.d (.i c.pat.n),.d (.i c.pat.m),.d (.i c.pat.var),.d (zaj c.pat.kids),.d (.i c.g.op),.d (.i c.g.var),.d (.i c.g.n)]) []:=by
 refine bd Tryz.f84 13 [] [] fun w0 F0 own kept hk=>?_;refine bx 3001 ?_;refine ab 3002 tz40 ?_;refine tv ?_;refine ab 3003 tz40 ?_;refine tv ?_;refine wc zpS (zlh hok) rfl rfl ?_;refine ev ?_;refine so ty36 ?_;refine tv ?_;refine wc zsx (zhU) rfl rfl ?_;refine ev ?_;refine so ty38 ?_;refine tv ?_;refine so ty40 ?_;refine tv ?_;focus (refine rn0 (.cons (.cellA ty40 rfl rfl rfl) .nil) (.agg (.cons (.eqd ?_) (.cons (.eqd ?_) (.cons (.eqd ?_) (.cons (.eqd ?_) (.cons (.eqd ?_) (.cons (.eqd ?_) (.cons (.eqd ?_) (.cons (.eqd ?_) (.cons (.eqd ?_) .nil))))))))));all_goals (first|rfl|(simp[];done)|(simp_all;done)|(simp_all;omega)|omega))
theorem zco {l:List Cl} (hs:ClsOk l):FnD Tryz.prog 32 [.d (zbG l)] [] (.d (zbG l)) []:=by
 have h:=hs.1;refine bd Tryz.f32 23 [] [999999] fun w0 F0 own kept hk=>?_;refine xaZ (id:=3007) sl26 tz40 rfl (by decide) (zca rfl) .none rfl rfl rfl (by simp;omega) (by simp;omega) rfl rfl rfl ?_;refine ev ?_;refine xam (ι:=List (Cl)×List (Cl)) hk (fun x=>[(4,.d (.i (x.1.length:Int)))]) [8,9,10,11,12,13,14,15,16,17,18,19,20,21] (fun x=>[(3007,some (.box ((x.1.flatMap fun x=>(Cl.c x).map AV.d)++zaI x.2.length [.d (.i 0),.d (.i 0),.d (.i 0),.d (.i 0),.d (.i 0),.nils,.d (.i 0),.d (.i 0),.d (.i 0)])))]) (fun x=>x.1++x.2=l) (fun x=>x.2.length) ([],l) (by simp) ⟨⟨_,rfl,xax ?_⟩,trivial⟩ ⟨?_,trivial⟩ (fun x=>rfl) (fun x hg1=>?_);focus (first|rfl|(simp;done)|(simp_all;done)|omega)
 focus (first|rfl|(show some (Res.box _)=some (Res.box _);simp;done))
 obtain⟨pre,rest⟩:=x;dsimp only at hg1 ⊢;refine evc [] [999999] ?_;refine sq ?_ ?_<;>intro h1 h1p h1s<;>(try simp only[Q] at h1p);rcases rest with _|⟨y,rest⟩
 ·exfalso;simp_all
 refine xaP sl62 .none rfl rfl rfl rfl (zaN hg1) rfl ?_;refine ev ?_;refine wc zup (zlR (c:=y) (hs.2 y (by rw[<-hg1];simp))) rfl rfl ?_;refine xaS sl26 .none rfl rfl rfl rfl (by first|omega|(simp ;omega)) ?_;refine Walk.store ty40 .none rfl rfl rfl rfl rfl rfl (by simp) ((zh3 (k:=9) (by intro x _;rfl) (by first|rfl|simp) rfl)) ?_;refine tv ?_;refine ar ?_;refine xah ((pre++[y],rest)) ⟨(by have hz:=hg1;rw[<-hz];simp),(by simp),sx ⟨⟨_,rfl,xax ?_⟩,trivial⟩ ⟨?_,trivial⟩⟩;focus (first|rfl|(simp;done)|(simp_all;done)|omega)
 focus (first|rfl|(show some (Res.box _)=some (Res.box _);simp;done))
 have hrest:rest=[]:=by
  rcases rest with _|⟨a,b⟩
  ·rfl
  ·exfalso;have hz:=congrArg List.length (hg1);simp only[xaa,xab,xac] at hz;omega
 subst hrest;refine CWp.frz hk 2 3007 _ _ rfl rfl (zga (f:=Cl.c) (k:=9) hg1 (by simp) (by intro x _;rfl)) rfl ?_;refine CWp.ret ?_;focus (refine rq ?_;all_goals (first|rfl|(simp[h1s,h1p];done)|(simp_all;done)|(simp_all;omega)|omega))
theorem zmH {a b:Gd}:FnD Tryz.prog 168 [.agg [.d (.i a.op),.d (.i a.var),.d (.i a.n)],.agg [.d (.i b.op),.d (.i b.var),.d (.i b.n)]] [] (.d (.bool (gdEq a b))) []:=by
 refine bd Tryz.f168 20 [] [] fun w0 F0 own kept hk=>?_;refine bx 3002 ?_;refine bx 3003 ?_;refine ev ?_;refine sq ?_ ?_<;>intro h1 h1p h1s<;>(try simp only[Q] at h1p);focus (refine rq ?_;all_goals (refine congrArg D.bool ?_;simp[gdEq,h1s,h1p]))
 refine sq ?_ ?_<;>intro h2 h2p h2s<;>(try simp only[Q] at h2p);focus (refine rq ?_;all_goals (refine congrArg D.bool ?_;simp[gdEq,h1s,h1p,h2s,h2p]))
 refine sq ?_ ?_<;>intro h3 h3p h3s<;>(try simp only[Q] at h3p);focus (refine rq ?_;all_goals (refine congrArg D.bool ?_;simp[gdEq,h1s,h1p,h2s,h2p,h3s,h3p]))
 focus (refine rq ?_;all_goals (refine congrArg D.bool ?_;simp[gdEq,h1s,h1p,h2s,h2p,h3s,h3p]))
theorem zlN {a b:Cl} (hok:a.pat.ok):
  FnD Tryz.prog 87 [.agg [.d (.i a.pat.op),.d (.i a.pat.ctor),.d (.i a.pat.n),.d (.i a.pat.m),.d (.i a.pat.var),.d (zaj a.pat.kids),.d (.i a.g.op),.d (.i a.g.var),.d (.i a.g.n)],.agg [.d (.i b.pat.op),.d (.i b.pat.ctor),.d (.i b.pat.n),.d (.i b.pat.m),.d (.i b.pat.var),.d (zaj b.pat.kids),.d (.i b.g.op),.d (.i b.g.var),.d (.i b.g.n)]] [] (.d (.bool (clEq a b))) []:=by
 refine bd Tryz.f87 17 [] [] fun w0 F0 own kept hk=>?_;refine bx 3002 ?_;refine bx 3003 ?_;refine ev ?_;refine wc zsy (zgM (a:=a.pat) (b:=b.pat) _ (Nat.le_refl _) hok) rfl rfl ?_;refine ev ?_;refine sq ?_ ?_<;>intro h1 h1p h1s<;>(try simp only[Q] at h1p);focus (refine rq ?_;all_goals (refine congrArg D.bool ?_;simp[clEq,h1s,h1p]))
 refine wc zvs (zmH (a:=a.g) (b:=b.g)) rfl rfl ?_;refine ev ?_;refine sq ?_ ?_<;>intro h2 h2p h2s<;>(try simp only[Q] at h2p);focus (refine rq ?_;all_goals (refine congrArg D.bool ?_;simp[clEq,h1s,h1p,h2s,h2p]))
 focus (refine rq ?_;all_goals (refine congrArg D.bool ?_;simp[clEq,h1s,h1p,h2s,h2p]))
theorem zgL {l m:List Cl} (hs:ClsOk l):FnD Tryz.prog 35 [.d (zbG l),.d (zbG m)] [] (.d (.bool (zut l m))) []:=by
 have h:=hs.1;refine bd Tryz.f35 27 [] [] fun w0 F0 own kept hk=>?_;refine sq ?_ ?_<;>intro h1 h1p h1s<;>(try simp only[Q,Int.natCast_inj] at h1p);refine rq ?_;rotate_left;refine xam (ι:=Nat) hk (fun i=>[(5,.d (.i (i:Int)))]) [4,11,12,13,14,15,16,17,18,19,20,21,22,23,24,25,26] (fun i=>[]) (fun i=>i<=l.length/\∀i',i'<i->clEq (nth l i') (nth m i')=true) (fun i=>l.length-i) 0 ⟨by omega,fun _ h=>absurd h (by omega)⟩ ⟨⟨_,rfl,xax ?_⟩,trivial⟩ trivial (fun x=>rfl) (fun i hg1=>?_);focus (first|rfl|(simp;done)|(simp_all;done)|omega)
 refine evc [] [] ?_;refine sq ?_ ?_<;>intro h2 h2p h2s<;>(try simp only[Q,Int.natCast_inj] at h2p);refine xaP sl26 .none rfl rfl rfl rfl (zaz (by omega)) rfl ?_;refine evd [] [] ?_;refine xaP sl26 .none rfl rfl rfl rfl (zaz (by omega)) rfl ?_;refine evd [] [] ?_;refine wc zwy (zlN (a:=nth l i) (b:=nth m i) (hs.2 _ (zai (by omega)))) rfl rfl ?_;refine evd [] [] ?_;refine dr ?_;refine sq ?_ ?_<;>intro h3 h3p h3s<;>(try simp only[Q,Int.natCast_inj] at h3p);refine rq ?_;rotate_left;refine ar ?_;refine xah (i+1) ⟨⟨by omega,zaM hg1.2 (by assumption)⟩,(by omega),sx ⟨⟨_,rfl,xax ?_⟩,trivial⟩ trivial⟩;focus (first|rfl|(simp;done)|(simp_all;done)|omega)
 refine rq ?_;rotate_left;all_goals (refine congrArg D.bool ?_;first|(refine(zd5 ?_).symm;omega)|(refine(zbn (by omega) (fun x hx=>hg1.2 x (by omega))).symm)|(refine(zbm (i:=i) (by omega) (by omega) ?_).symm;assumption))
mutual
def cntE (m:Int):Ex->Int
 | .mk _ _ _ ks=>zeu m 1 ks
def zeu (m n:Int):List Ex->Int
 | []=>n
 |k::r=>if n<=m then zeu m (n+cntE (m-n) k) r else n
end
theorem zr1 {m n:Int}{l:List Ex} (h:¬n<=m):zeu m n l=n:=by cases l<;>simp[zeu,h]
mutual
theorem zrw:∀(v:Ex) (m:Int),1<=cntE m v/\cntE m v<=v.size
 | .mk _ _ _ ks,m=>by
  have:=zlz ks m 1 (by omega);simp only[cntE,Ex.size];push_cast;omega
theorem zlz:∀(l:List Ex) (m n:Int),1<=n->1<=zeu m n l/\zeu m n l<=n+Exs.size l
 | [],m,n,h=>by simp[zeu,Exs.size];omega
 |k::r,m,n,h=>by
  have h1:=zrw k (m-n);have h2:=zlz r m (n+cntE (m-n) k) (by omega);simp only[zeu,Exs.size];split
  ·push_cast;omega
  ·push_cast;omega
end
mutual
theorem ztI:∀(v:Ex) (m:Int),(cntE m v<=m↔(v.size:Int)<=m)/\(cntE m v<=m->cntE m v=v.size)
 | .mk _ _ _ ks,m=>by
  have:=zol ks m 1;simp only[cntE,Ex.size];push_cast;exact this
theorem zol:∀(l:List Ex) (m n:Int),(zeu m n l<=m↔n+(Exs.size l:Int)<=m)/\(zeu m n l<=m->zeu m n l=n+Exs.size l)
 | [],m,n=>by simp[zeu,Exs.size]
 |k::r,m,n=>by
  have h1:=ztI k (m-n);have h2:=zol r m (n+cntE (m-n) k);have h3:=zlz r m (n+cntE (m-n) k);have h4:=zrw k (m-n);simp only[zeu,Exs.size];push_cast
  by_cases hn:n<=m
  ·rw[if_pos hn];by_cases h5:cntE (m-n) k<=m-n
   ·have h6:=h1.2 h5;rw[h6] at h2 ⊢;constructor
    ·rw[h2.1];constructor<;>intro h<;>omega
    ·intro h;rw[h2.2 h];omega
   ·have h7:¬(k.size:Int)<=m-n:=fun h=>h5 (h1.1.2 h);have h8:¬n+cntE (m-n) k<=m:=by omega
    rw[zr1 h8];constructor
    ·constructor<;>intro h<;>omega
    ·intro h;omega
  ·rw[if_neg hn];constructor
   ·constructor<;>intro h<;>omega
   ·intro h;omega
end
def TyOk (n:Nat) (t:Ty):Prop:=TyIn n t/\(t.data = -1->t.index=0)
def gdOk (g:Gd) (vars:List Vt):Bool:=if g.op=0 then decide (g.var=0/\g.n=0) else decide (1<=g.op/\g.op<=2/\0<=g.n/\g.n<=9)&&decide ((⟨g.var,⟨-1,0⟩⟩:Vt)∈vars)
def zhE (w:List Data) (t:Ty) (p:Pat):List Vt:=zds (zaV w 10 t p 0).1
def clOk (w:List Data) (t:Ty) (c:Cl):Bool:=isP w t c.pat&&gdOk c.g (zhE w t c.pat)
def zby (w:List Data) (t:Ty) (l:List Cl):Bool:=zbJ w t&&(decide ((l.length:Int)<=8)&& !l.any fun c=> !clOk w t c)
theorem zio {xs:List Cl}{f:Nat}{caps:List AV}{hp:Hp}{p:Cl->Bool} (hs:xs.length<=1000000000000) (hcal:Callee Tryz.prog f)
  (hf:∀t∈xs,FnD Tryz.prog f ([.agg [.d (.i t.pat.op),.d (.i t.pat.ctor),.d (.i t.pat.n),.d (.i t.pat.m),.d (.i t.pat.var),.d (zaj t.pat.kids),.d (.i t.g.op),.d (.i t.g.var),.d (.i t.g.n)]]++caps) hp (.d (.bool (p t))) []) (k1:subH hp hp) (k2:zdK hp=true) (k3:zar hp [] (.d .nilp) []=true):
  FnD Tryz.prog 216 [.d (zbG xs),.fn f caps] hp (.d (.i (idxF p xs 0))) []:=by
 refine bd Tryz.f216 19 [] [] fun w0 F0 own kept hk=>?_;refine xam (ι:=List (Cl)×List (Cl)) hk (fun x=>[(8,.d (.i (x.1.length:Int)))]) [4,5,9,10,11,12,13,14,15,16,17,18] (fun x=>[]) (fun x=>x.1++x.2=xs/\idxF p x.2 x.1.length=idxF p xs 0) (fun x=>x.2.length) ([],xs) ⟨by simp,rfl⟩ ⟨⟨_,rfl,xax ?_⟩,trivial⟩ trivial (fun x=>zgT hp) (fun x hg1=>?_);focus (first|rfl|(simp;done)|(simp_all;done)|omega)
 obtain⟨pre,rest⟩:=x;dsimp only at hg1 ⊢;refine evc [] [] ?_;refine sq ?_ ?_<;>intro h1 h1p h1s<;>(try simp only[Q] at h1p);rcases rest with _|⟨y,rest⟩
 ·exfalso;simp_all
 refine xaP sl26 .none rfl rfl rfl rfl (zaN hg1.1) rfl ?_;refine ev ?_;refine xaJ (cr:=[]) hcal (hf y (by rw[<-hg1.1];simp)) rfl .none rfl rfl rfl (LeL.refl _) k1 k2 (zc5 k3 _) rfl ?_;refine tv ?_;refine sq ?_ ?_<;>intro h2 h2p h2s<;>(try simp only[Q] at h2p);focus (refine rn [] (r1 rfl) (.eqd ?_) ⟨rfl,rfl⟩ (fun _ _ h=>h) (fun _ h=>h);all_goals (rw[<-hg1.2];simp[idxF,h1s,h1p,h2s,h2p]))
 refine ar ?_;refine xah ((pre++[y],rest)) ⟨⟨(by have hz:=hg1.1;rw[<-hz];simp),(by rw[<-hg1.2];simp[idxF,h2s])⟩,(by simp),Sub.x (by kernel_rfl) (by kernel_rfl) ⟨⟨_,rfl,xax ?_⟩,trivial⟩ (by simp) (by simp[zdv]) trivial⟩;focus (first|rfl|(simp;done)|(simp_all;done)|omega)
 have hrest:rest=[]:=by
  rcases rest with _|⟨a,b⟩
  ·rfl
  ·exfalso;have hz:=congrArg List.length (hg1.1);simp only[xaa,xab,xac] at hz;omega
 subst hrest;focus (refine rn [] (r1 rfl) (.eqd ?_) ⟨rfl,rfl⟩ (fun _ _ h=>h) (fun _ h=>h);all_goals (rw[<-hg1.2];simp[idxF,h1s,h1p]))
theorem zg4 {xs:List Cl}{f:Nat}{caps:List AV}{hp:Hp}{p:Cl->Bool} (hs:xs.length<=1000000000000) (hcal:Callee Tryz.prog f)
  (hf:∀t∈xs,FnD Tryz.prog f ([.agg [.d (.i t.pat.op),.d (.i t.pat.ctor),.d (.i t.pat.n),.d (.i t.pat.m),.d (.i t.pat.var),.d (zaj t.pat.kids),.d (.i t.g.op),.d (.i t.g.var),.d (.i t.g.n)]]++caps) hp (.d (.bool (p t))) []) (k1:subH hp hp) (k2:zdK hp=true) (k3:zar hp [] (.d .nilp) []=true):
  FnD Tryz.prog 121 [.d (zbG xs),.fn f caps] hp (.d (.bool (xs.any p))) []:=by
 refine bd Tryz.f121 9 [] [] fun w0 F0 own kept hk=>?_;refine Walk.call (cr:=[]) zvw (zio hs hcal hf k1 k2 k3) rfl .none rfl rfl (LeL.refl _) k1 k2 (zc5 k3 _) rfl ?_;refine ev ?_;refine rn [] (r1 rfl) (.eqd ?_) ⟨rfl,rfl⟩ (fun _ _ h=>h) (fun _ h=>h);rotate_left;all_goals (exact congrArg D.bool (zeX p xs 0))
theorem zsl (w:List Data) (t:Ty) (p:Pat):(zhE w t p).length<=6:=(zf6 w 10 t p 0).2
theorem zmA {g:Gd}{vars:List Vt} (hv:vars.length<=1000000000000):FnD Tryz.prog 218 [.agg [.d (.i g.op),.d (.i g.var),.d (.i g.n)],.d (zc3 vars)] [] (.d (.bool (gdOk g vars))) []:=by
 refine bd Tryz.f218 27 [10] [] fun w0 F0 own kept hk=>?_;refine bx 3002 ?_;refine evs [10] [] ?_;refine sq ?_ ?_<;>intro h1 h1p h1s<;>(try simp only[Q,zaF] at h1p);refine bu [] [] st38 ?_;refine Walk.eqV eq38 .none rfl rfl rfl rfl rfl ?_;refine evs [10] [] ?_;refine rq ?_;rotate_left;refine wc zd8 (zbH) rfl rfl ?_;refine evs [10] [] ?_;refine sq ?_ ?_<;>intro h2 h2p h2s<;>(try simp only[Q,zaF] at h2p);refine Walk.call (cr:=[]) zd8 (zbH) rfl (.some rfl rfl h2) rfl rfl (LeL.refl _) trivial rfl rfl rfl ?_;refine evs [10] [(14,true)] ?_ ⟨⟨_,rfl,h2⟩,trivial⟩;refine sq ?_ ?_<;>intro h3 h3p h3s<;>(try simp only[Q,zaF] at h3p);refine Walk.build st25 (ks:=[0]) (xs:=[_]) rfl rfl (.some rfl rfl h3) rfl rfl rfl ?_;refine Walk.build zsi (ks:=[0,1]) (xs:=[_,_]) rfl rfl (.some rfl rfl h3) rfl rfl rfl ?_;refine Walk.call (cr:=[]) zsN (zff (v:=⟨g.var,⟨-1,0⟩⟩) hv) rfl (.some rfl rfl h3) rfl rfl (LeL.refl _) trivial rfl rfl rfl ?_;refine evs [10] [(19,true)] ?_ ⟨⟨_,rfl,h3⟩,trivial⟩;refine rq ?_;rotate_left;refine rq ?_;rotate_left;refine sqF ?_;refine rq ?_;rotate_left;all_goals (refine congrArg D.bool ?_;unfold gdOk;first|(rw[if_pos (by omega)];simp_all;done)|(rw[if_neg (by omega)];simp_all[zaF];done)|(rw[if_neg (by omega)];simp_all[zaF];omega))
theorem zlG {w:List Data} (hw:WT w){t:Ty}{c:Cl} (ht:TyIn w.length t) (hok:c.pat.ok):
  FnD Tryz.prog 123 [.d (zao w),.agg [.d (.i t.data),.d (.i t.index)],.agg [.d (.i c.pat.op),.d (.i c.pat.ctor),.d (.i c.pat.n),.d (.i c.pat.m),.d (.i c.pat.var),.d (zaj c.pat.kids),.d (.i c.g.op),.d (.i c.g.var),.d (.i c.g.n)]] [] (.d (.bool (clOk w t c))) []:=by
 have ht':TyIn w.length ⟨t.data,t.index⟩:=ht;have hvl:=zsl w t c.pat;refine bd Tryz.f123 24 [] [] fun w0 F0 own kept hk=>?_;refine bx 3004 ?_;refine bx 3005 ?_;refine ev ?_;refine wc zsE (zfS hw ht' hok) rfl rfl ?_;refine ev ?_;refine sq ?_ ?_<;>intro h1 h1p h1s<;>(try simp only[Q] at h1p);refine Walk.call (cr:=[]) zvx (zmA (g:=c.g) (vars:=zhE w t c.pat) (by omega)) rfl (.some rfl rfl h1) rfl rfl (LeL.refl _) trivial rfl rfl rfl ?_;refine evs [] [(18,true)] ?_ ⟨⟨_,rfl,h1⟩,trivial⟩;refine rq ?_;rotate_left;refine rq ?_;rotate_left;all_goals (refine congrArg D.bool ?_;unfold clOk;have hte:(⟨t.data,t.index⟩:Ty)=t:=rfl;(simp_all;done))
theorem zim {w:List Data} (hw:WT w){a k:Int}{c:Cl} (ht:TyIn w.length ⟨a,k⟩) (hok:c.pat.ok):
  FnD Tryz.prog 122 [.agg [.d (.i c.pat.op),.d (.i c.pat.ctor),.d (.i c.pat.n),.d (.i c.pat.m),.d (.i c.pat.var),.d (zaj c.pat.kids),.d (.i c.g.op),.d (.i c.g.var),.d (.i c.g.n)],.ref 3003 0,.ref 3004 0] [(3003,some (.box [.d (zao w)])),(3004,some (.box [.d (.i a),.d (.i k)]))] (.d (.bool (!clOk w ⟨a,k⟩ c))) []:=by
 refine bd Tryz.f122 10 [] [] fun w0 F0 own kept hk=>?_;refine bx 3901 ?_;refine ev ?_;refine wc zvf (zlG (t:=⟨a,k⟩) (c:=c) hw ht hok) rfl rfl ?_;refine ev ?_;refine rn [] (r1 rfl) (.eqd ?_) ⟨rfl,rfl⟩ (SubH.get ⟨rfl,⟨rfl,trivial⟩⟩) (fun _ h=>h);rotate_left;all_goals (rfl)
theorem zi7 {w:List Data} (hs:WSmall w){a k:Int}{l:List Cl} (hl:ClsOk l):
  FnD Tryz.prog 58 [.d (zao w),.agg [.d (.i a),.d (.i k)],.d (zbG l)] [] (.d (.bool (zby w ⟨a,k⟩ l))) []:=by
 have hll:=hl.1;refine bd Tryz.f58 21 [] [] fun w0 F0 own kept hk=>?_;refine bx 3003 ?_;refine bx 3004 ?_;refine ev ?_;refine wc zso (zgI hs) rfl rfl ?_;refine ev ?_;refine sq ?_ ?_<;>intro h1 h1p h1s<;>(try simp only[Q] at h1p);refine sq ?_ ?_<;>intro h2 h2p h2s<;>(try simp only[Q] at h2p);refine xaK (xs:=[_,_]) rfl (.some rfl rfl h2) rfl rfl ?_;refine Walk.call (cr:=[]) zvd (zg4 (p:=fun c=> !clOk w ⟨a,k⟩ c) hl.1 zve (fun t htm=>zim (zeo hs (zbl (by assumption)).1) (zbl (by assumption)).2.1 (hl.2 t htm)) ⟨rfl,rfl,trivial⟩ rfl rfl) rfl (.some rfl rfl h2) rfl rfl (LeL.refl _) ⟨rfl,rfl,trivial⟩ rfl rfl rfl ?_;refine evs [] [(15,true)] ?_ ⟨⟨_,rfl,h2⟩,trivial⟩;refine rq ?_;rotate_left;refine rq ?_;rotate_left;refine sqF ?_;refine rq ?_;rotate_left;all_goals (refine congrArg D.bool ?_;unfold zby;first|(simp_all;done)|(simp_all;omega))
def AZ (w:List Data):Prop:=∀t c,c∈zaA w t->TyIn w.length t->∀u∈zad w t c,u.data = -1->u.index=0
theorem zua {w:List Data} (hv:zbC w=true):AZ w:=by
 have hW:=(zdz w).1 hv;rintro ⟨a,k⟩ c hc ht u hu hd
 obtain⟨d,rfl,h1,j,rfl,h3⟩:=zcY ht hc;have hco:=hW.ctor _ (zai h1) _ (zai h3);simp only[zbW,xad,decide_eq_true_eq,Bool.not_eq_true',List.any_eq_false,Bool.not_eq_false'] at hco;have hall:=hco.2.2.2;simp only[zad,Int.toNat_natCast] at hu;obtain⟨x,hx,rfl⟩:=List.mem_map.1 hu;have hxo:=hall x hx;simp only[zb8,zaF,Bool.or_eq_true,xad,decide_eq_true_eq,and_true,Bool.not_eq_true',Bool.not_eq_false] at hxo;unfold zcB at hd ⊢;split at hd
 ·rename_i hi;rw[if_pos hi];dsimp only at hd ⊢;omega
 ·rename_i hi;rw[if_neg hi];omega
theorem ztx {n:Nat}{t:Ty} (h:zen n t=true):TyOk n t:=by
 refine⟨ztw h,fun hd=>?_⟩;simp only[zen,zaF,Bool.or_eq_true,xad,decide_eq_true_eq,and_true] at h;omega
theorem ztz {w:List Data}{t:Ty}{p:Pat} (h:isP w t p=true):zhE w t p=zaR w 10 t p:=by
 unfold isP at h;simp only[xad,decide_eq_true_eq] at h;have e:=(zf5 w 10 t p 0).1;have hw:zb3 w 10 t p 0=true:=by
  unfold zb3;rw[h.1,h.2.2,decide_eq_true (by omega)];rfl
 rw[if_pos hw] at e;unfold zhE;rw[e];rfl
theorem ztA {w:List Data}{t:Ty}{p:Pat} (h:isP w t p=true):zcR (zaR w 10 t p)=true:=by
 unfold isP at h;simp only[xad] at h;exact zhX w 10 t p h.1 h.2.2
theorem zq8 {w:List Data} (hw:WT w) (haz:AZ w):∀(n:Nat){t:Ty}{p:Pat},zau w n t p=true->TyOk w.length t->∀v∈zaR w n t p,TyOk w.length v.ty
 |0,t,p,h,_=>by simp[zau] at h
 |n+1,t,p,h,ht=>by
  obtain⟨ho,hlen⟩:=zbg h;intro v hv;have hto:∀u∈zah w t p,TyOk w.length u:=fun u hu=>by
   refine⟨zgz (a:=t.data) (k:=t.index) hw ht.1 ho u hu,fun hd=>?_⟩;unfold zah at hu;split at hu
   ·rename_i h4;exact haz t p.ctor (zck ho h4) ht.1 u hu hd
   ·split at hu
    ·simp only[List.mem_cons,List.not_mem_nil,or_false,or_self] at hu;rw[hu] at hd ⊢;exact ht.2 hd
    ·split at hu
     ·simp only[List.mem_cons,List.not_mem_nil,or_false] at hu;rw[hu] at hd ⊢;exact ht.2 hd
     ·simp at hu
  simp only[zaR,List.mem_append] at hv;rcases hv with hv|hv
  ·unfold za0 at hv;split at hv
   ·simp only[List.mem_cons,List.not_mem_nil,or_false] at hv;rw[hv];exact ht
   ·simp at hv
  ·have key:∀(a:List Ty) (b:List Pat),(∀i,i<a.length->i<b.length->∀v∈zaR w n (nth a i) (nth b i),TyOk w.length v.ty)->∀v∈zbq (zaR w n) a b,TyOk w.length v.ty:=by
    intro a;induction a with
    |nil=>intro b _ v hv;simp[zbq] at hv
    |cons x r ih=>
     intro b h v hv;cases b with
     |nil=>simp[zbq] at hv
     |cons y s=>
      simp only[zbq,List.mem_append] at hv;rcases hv with hv|hv
      ·exact h 0 (by simp) (by simp) v hv
      ·exact ih s (fun i h1 h2=>h (i+1) (by simpa using h1) (by simpa using h2)) v hv
   refine key (zdy w t p) p.kids (fun i h1 h2=>?_) v hv;have hvt:i<(zah w t p).length/\nth (zdy w t p) i=nth (zah w t p) i:=by
    unfold zdy at h1 ⊢;split at h1
    ·rename_i h5;rw[if_pos h5];rw[List.length_take] at h1;refine⟨by omega, ?_⟩;have:i=0:=by omega
     subst this;cases hT:zah w t p with
     |nil=>rfl
     |cons a b=>rfl
    ·rename_i h5;rw[if_neg h5];exact⟨h1,rfl⟩
   rw[hvt.2];exact zq8 hw haz n (zbj h (by omega)) (hto _ (zai hvt.1))
def gdS (g:Gd) (vars:List Vt):Bool:=if g.op=0 then decide (g.var=0/\g.n=0) else decide (1<=g.op/\g.op<=2/\0<=g.n/\g.n<=9)&&(decide (0<=zbR vars g.var)&&decide ((nth vars (zbR vars g.var).toNat).ty.data = -1))
theorem zwi {n:Nat}{g:Gd}{vars:List Vt} (hn:zcR vars=true) (hv:∀v∈vars,TyOk n v.ty):gdS g vars=gdOk g vars:=by
 unfold gdS gdOk;split
 ·rfl
 ·congr 1
  have hnod:=of_decide_eq_true hn;rw[Bool.eq_iff_iff];simp only[xad,decide_eq_true_eq];constructor
  ·rintro ⟨h1,h2⟩
   rcases zfp vars g.var with ⟨h3,_⟩|⟨k,h3,h4,h5,_⟩
   ·omega
   ·rw[h3] at h2;simp only[Int.toNat_natCast] at h2;have hm:=zai h4;have ho:=(hv _ hm).2 h2;have:nth vars k=⟨g.var,⟨-1,0⟩⟩:=by
     generalize nth vars k=z at *;obtain⟨zv,⟨za,zk⟩⟩:=z;dsimp only at h5 h2 ho;rw[h5,h2,ho]
    rw[<-this];exact hm
  ·intro hm;rcases zfp vars g.var with ⟨_,h4⟩|⟨k,h3,h4,h5,_⟩
   ·exact absurd rfl (h4 _ hm)
   ·refine⟨by omega, ?_⟩;rw[h3];simp only[Int.toNat_natCast];obtain⟨j,hj,e⟩:=List.getElem_of_mem hm;have ej:nth vars j=⟨g.var,⟨-1,0⟩⟩:=by simp[nth,List.getD,hj,e]
    have:k=j:=zku hnod h4 hj (by rw[h5,ej]);rw[this,ej]
theorem znl {g:Gd}{vars:List Vt} (hv:vars.length<=1000000000000):FnD Tryz.prog 224 [.agg [.d (.i g.op),.d (.i g.var),.d (.i g.n)],.d (zc3 vars)] [] (.d (.bool (gdS g vars))) []:=by
 have hlt:=fun h=>zlB (l:=vars) (n:=g.var) h;refine bd Tryz.f224 50 [] [3] fun w0 F0 own kept hk=>?_;refine bx 3002 ?_;refine ev ?_;refine sq ?_ ?_<;>intro h1 h1p h1s<;>(try simp only[Q] at h1p);refine sq ?_ ?_<;>intro h2 h2p h2s<;>(try simp only[Q] at h2p);refine rq ?_;rotate_left;refine rq ?_;rotate_left;refine xap ?_;refine xaC 18 [(34,.d (.bool (decide (¬(1<=g.op/\g.op<=2/\0<=g.n/\g.n<=9)))))] [17,18,19,20,21,22,23,24,25,26,27,28,29,30,31,32,33] ?_ ?_;refine ev ?_;refine sq ?_ ?_<;>intro h3 h3p h3s<;>(try simp only[Q] at h3p);refine sq ?_ ?_<;>intro h4 h4p h4s<;>(try simp only[Q] at h4p);refine sqT ?_;focus (exact jn rfl (xaw (by((rw[Bool.eq_iff_iff];simp_all;omega)))))
 refine sq ?_ ?_<;>intro h5 h5p h5s<;>(try simp only[Q] at h5p);focus (exact jn rfl (xaw (by((rw[Bool.eq_iff_iff];simp_all;done)))))
 focus (exact jn rfl (xaw (by((rw[Bool.eq_iff_iff];simp_all;done)))))
 refine sqF ?_;refine sq ?_ ?_<;>intro h6 h6p h6s<;>(try simp only[Q] at h6p);focus (exact jn rfl (xaw (by((rw[Bool.eq_iff_iff];simp_all;done)))))
 focus (exact jn rfl (xaw (by((rw[Bool.eq_iff_iff];simp_all;done)))))
 refine xaB ?_;refine tv ?_;refine sq ?_ ?_<;>intro h7 h7p h7s<;>(try simp only[Q] at h7p);refine rq ?_;rotate_left;refine wc zp2 (zf7 hv) rfl rfl ?_;refine ev ?_;refine sq ?_ ?_<;>intro h8 h8p h8s<;>(try simp only[Q] at h8p);refine xaP (i:=(zbR vars g.var).toNat) zdr (.some rfl rfl h8) rfl rfl rfl (by have:=hlt (by omega);omega) (zaz (by have:=hlt (by omega);omega)) rfl ?_;refine evs [] [(41,true)] ?_ ⟨⟨_,rfl,h8⟩,trivial⟩;refine rq ?_;rotate_left;refine rq ?_;rotate_left;all_goals (refine congrArg D.bool ?_;unfold gdS;first|(rw[if_pos (by omega)];simp_all;done)|(rw[if_neg (by omega),decide_eq_false (by omega),Bool.false_and];done)|(rw[if_neg (by omega),decide_eq_true (by omega),Bool.true_and,decide_eq_false (by omega),Bool.false_and];done)|(rw[if_neg (by omega)];simp_all;done))
theorem zqT {w:List Data} (hw:WT w) (haz:AZ w){t:Ty}{c:Cl} (ht:TyOk w.length t) (hok:c.pat.ok) (hsz:c.pat.size<=1000000000000):
  FnD Tryz.prog 127 [.d (zao w),.agg [.d (.i t.data),.d (.i t.index)],.agg [.d (.i c.pat.op),.d (.i c.pat.ctor),.d (.i c.pat.n),.d (.i c.pat.m),.d (.i c.pat.var),.d (zaj c.pat.kids),.d (.i c.g.op),.d (.i c.g.var),.d (.i c.g.n)]] [] (.d (.bool (clOk w t c))) []:=by
 have ht':TyIn w.length ⟨t.data,t.index⟩:=ht.1;have hcl:clOk w t c=(isP w t c.pat&&gdOk c.g (zhE w t c.pat)):=rfl;cases hp:isP w t c.pat with
 |false=>
  have hpi:=zfO hw ht' hok hsz;have hpi':FnD Tryz.prog 223 [.d (zao w),.agg [.d (.i t.data),.d (.i t.index)],.agg [.d (.i c.pat.op),.d (.i c.pat.ctor),.d (.i c.pat.n),.d (.i c.pat.m),.d (.i c.pat.var),.d (zaj c.pat.kids)]] [] (.d (.bool false)) []:=by rw[<-hp];exact hpi
  rw[hcl,hp,Bool.false_and];refine bd Tryz.f127 22 [] [] fun w0 F0 own kept hk=>?_;refine bx 3004 ?_;refine bx 3005 ?_;refine ev ?_;refine wc zmg (hpi') rfl rfl ?_;refine evd [] [] ?_;refine sq ?_ ?_<;>intro h1 h1p h1s<;>(try simp only[Q] at h1p);exfalso;contradiction;refine dr ?_;refine rq ?_;rotate_left;all_goals (rfl)
 |true=>
  have hpi:=zfO hw ht' hok hsz;have hpi':FnD Tryz.prog 223 [.d (zao w),.agg [.d (.i t.data),.d (.i t.index)],.agg [.d (.i c.pat.op),.d (.i c.pat.ctor),.d (.i c.pat.n),.d (.i c.pat.m),.d (.i c.pat.var),.d (zaj c.pat.kids)]] [] (.d (.bool true)) []:=by rw[<-hp];exact hpi
  have hsh:zau w 10 ⟨t.data,t.index⟩ c.pat=true:=by
   have:=hp;unfold isP at this;simp only[xad] at this;exact this.1
  have hvl:=zep w 10 ⟨t.data,t.index⟩ c.pat;have hge:=zwi (g:=c.g) (ztA hp) (zq8 hw haz 10 hsh ht);have hge':gdS c.g (zaR w 10 ⟨t.data,t.index⟩ c.pat)=gdOk c.g (zhE w t c.pat):=by rw[ztz hp];exact hge
  rw[hcl,hp,Bool.true_and,<-hge'];refine bd Tryz.f127 22 [] [] fun w0 F0 own kept hk=>?_;refine bx 3004 ?_;refine bx 3005 ?_;refine ev ?_;refine wc zmg (hpi') rfl rfl ?_;refine evd [] [] ?_;refine sq ?_ ?_<;>intro h1 h1p h1s<;>(try simp only[Q] at h1p);refine Walk.call (cr:=[]) ziv (zd4 hw hsh (by omega) ht' hok hsz) rfl (.some rfl rfl h1) rfl rfl (LeL.refl _) trivial rfl rfl rfl ?_;refine Walk.call (cr:=[]) zvz (znl (g:=c.g) (by omega)) rfl (.some rfl rfl h1) rfl rfl (LeL.refl _) trivial rfl rfl rfl ?_;refine evd [] [(12,true)] ?_ ⟨⟨_,rfl,h1⟩,trivial⟩;refine dr ?_;refine rq ?_;rotate_left;exfalso;contradiction;all_goals (rfl)
def ClsSz (l:List Cl):Prop:=∀c∈l,c.pat.size<=1000000000000
theorem zwF {w:List Data}{t:Ty} (h:zbJ w t=true):TyOk w.length t:=by
 unfold zbJ at h;rw[xad] at h;exact ztx h.2
theorem zv9 {w:List Data}{t:Ty}{l:List Cl}{i:Nat} (hi:i<l.length) (h:clOk w t (nth l i)=false):zby w t l=false:=by
 unfold zby;have:l.any (fun c=> !clOk w t c)=true:=List.any_eq_true.2 ⟨nth l i,zai hi,by rw[h];rfl⟩;rw[this];simp
theorem zuJ {w:List Data}{t:Ty}{l:List Cl} (ht:zbJ w t=true) (hl:l.length<=8) (h:∀i,i<l.length->clOk w t (nth l i)=true):zby w t l=true:=by
 unfold zby;rw[ht,decide_eq_true (by omega),Bool.true_and,Bool.true_and,Bool.not_eq_true',List.any_eq_false];intro c hc;obtain⟨i,hi,rfl⟩:=List.getElem_of_mem hc;have:=h i hi;simp only[nth,List.getD,List.getElem?_eq_getElem hi,Option.getD_some] at this;simp[this]
theorem zuK {w:List Data}{t:Ty}{l:List Cl} (h:8<l.length):zby w t l=false:=by
 unfold zby;rw[decide_eq_false (by omega),Bool.false_and,Bool.and_false]
theorem zwa {w:List Data}{t:Ty}{l:List Cl} (h:zbJ w t=false):zby w t l=false:=by
 unfold zby;rw[h,Bool.false_and]
theorem zjq {w:List Data} (hs:WSmall w){a k:Int}{l:List Cl} (hl:ClsOk l) (hz:ClsSz l):
  FnD Tryz.prog 60 [.d (zao w),.agg [.d (.i a),.d (.i k)],.d (zbG l)] [] (.d (.bool (zby w ⟨a,k⟩ l))) []:=by
 have hll:=hl.1;refine bd Tryz.f60 31 [] [] fun w0 F0 own kept hk=>?_;refine bx 3004 ?_;refine ev ?_;refine wc zsq (zhy hs) rfl rfl ?_;refine ev ?_;refine sq ?_ ?_<;>intro h1 h1p h1s<;>(try simp only[Q,Int.natCast_inj] at h1p);refine sqT ?_;refine rq ?_;rotate_left;refine sq ?_ ?_<;>intro h3 h3p h3s<;>(try simp only[Q,Int.natCast_inj] at h3p);refine rq ?_;rotate_left;refine xam (ι:=Nat) hk (fun i=>[(7,.d (.i (i:Int)))]) [6,17,18,19,20,21,22,23,24,25,26,27,28,29,30] (fun i=>[]) (fun i=>i<=l.length/\∀i',i'<i->clOk w ⟨a,k⟩ (nth l i')=true) (fun i=>l.length-i) 0 ⟨by omega,fun _ h=>absurd h (by omega)⟩ ⟨⟨_,rfl,xax ?_⟩,trivial⟩ trivial (fun x=>rfl) (fun i hg1=>?_);focus (first|rfl|(simp;done)|(simp_all;done)|omega)
 refine evc [] [] ?_;refine sq ?_ ?_<;>intro h4 h4p h4s<;>(try simp only[Q,Int.natCast_inj] at h4p);refine xaP sl26 .none rfl rfl rfl rfl (zaz (by omega)) rfl ?_;refine evd [] [] ?_;refine wc zvh (zqT (t:=⟨a,k⟩) (c:=nth l i) (zeo hs (zbl (by assumption)).1) (zua (zbl (by assumption)).1) (zwF (by assumption)) (hl.2 _ (zai (by omega))) (hz _ (zai (by omega)))) rfl rfl ?_;refine evd [] [] ?_;refine dr ?_;refine sq ?_ ?_<;>intro h5 h5p h5s<;>(try simp only[Q,Int.natCast_inj] at h5p);refine rq ?_;rotate_left;refine ar ?_;refine xah (i+1) ⟨⟨by omega,zaM hg1.2 (by assumption)⟩,(by omega),sx ⟨⟨_,rfl,xax ?_⟩,trivial⟩ trivial⟩;focus (first|rfl|(simp;done)|(simp_all;done)|omega)
 refine rq ?_;rotate_left;all_goals (refine congrArg D.bool ?_;first|(rw[zwa (by assumption)];done)|(rw[zuK (by omega)];done)|(rw[zv9 (i:=i) (by omega) (by assumption)];done)|(rw[zuJ (by assumption) (by omega) (fun x hx=>hg1.2 x (by omega))];done))
theorem zk5 {a b c d e:Int}{l:List Pat}:(Pat.mk a b c d e l).op=a:=rfl
theorem ziL {a b c d e:Int}{l:List Pat}:(Pat.mk a b c d e l).ctor=b:=rfl
theorem mk_n {a b c d e:Int}{l:List Pat}:(Pat.mk a b c d e l).n=c:=rfl
theorem mk_m {a b c d e:Int}{l:List Pat}:(Pat.mk a b c d e l).m=d:=rfl
theorem zkr {a b c d e:Int}{l:List Pat}:(Pat.mk a b c d e l).var=e:=rfl
theorem zey {a b c d e:Int}{l:List Pat}:(Pat.mk a b c d e l).kids=l:=rfl
abbrev anyQ:Pat:= .mk 1 0 0 0 0 []
abbrev zuE:Pat:= .mk 0 0 0 0 0 []
mutual
def zaQ:Pat->Pat
 | .mk op c n m v ks=>if op=2 then anyQ else if op=6/\ks≠[] then zkX ks else .mk op c n m v (zhI ks)
def zkX:List Pat->Pat
 | []=>anyQ
 |k::_=>zaQ k
def zhI:List Pat->List Pat
 | []=>[]
 |k::r=>zaQ k::zhI r
end
theorem zly:∀l:List Pat,zhI l=l.map zaQ
 | []=>rfl
 |k::r=>by simp[zhI,zly r]
theorem zhj (p:Pat):zaQ p=if p.op=2 then anyQ else if p.op=6/\p.kids≠[] then zaQ (nth p.kids 0) else .mk p.op p.ctor p.n p.m p.var (p.kids.map zaQ):=by
 cases p with|mk op c n m v ks=>
 have e:zaQ (.mk op c n m v ks)=if op=2 then anyQ else if op=6/\ks≠[] then zkX ks else .mk op c n m v (zhI ks):=by conv=>lhs;unfold zaQ
 rw[e,zly];by_cases h2:op=2
 ·rw[if_pos h2];exact(if_pos (c:=(Pat.mk op c n m v ks).op=2) h2).symm
 ·rw[if_neg h2];refine Eq.trans ?_ (if_neg (c:=(Pat.mk op c n m v ks).op=2) h2).symm;by_cases h6:op=6/\ks≠[]
  ·rw[if_pos h6];refine Eq.trans ?_ (if_pos (c:=(Pat.mk op c n m v ks).op=6/\(Pat.mk op c n m v ks).kids≠[]) h6).symm;cases ks with
   |nil=>exact absurd rfl h6.2
   |cons k r=>rfl
  ·rw[if_neg h6];exact(if_neg (c:=(Pat.mk op c n m v ks).op=6/\(Pat.mk op c n m v ks).kids≠[]) h6).symm
def zbk (out:List (List Pat)) (l:List Pat):List (List Pat):=out.flatMap fun q=>l.map fun c=>q++[c]
def zeV (ls:List (List Pat)):List (List Pat):=ls.foldl zbk [[]]
mutual
def zaJ:Pat->List Pat
 | .mk op c n m v ks=>if op=5 then zwo ks else (zeV (zk9 ks)).map fun l=> .mk op c n m v l
def zwo:List Pat->List Pat
 | []=>[]
 |a::r=>zaJ a++zu6 r
def zu6:List Pat->List Pat
 | []=>[]
 |b::_=>zaJ b
def zk9:List Pat->List (List Pat)
 | []=>[]
 |k::r=>zaJ k::zk9 r
end
theorem znp:∀l:List Pat,zk9 l=l.map zaJ
 | []=>rfl
 |k::r=>by simp[zk9,znp r]
theorem ze3 {p:Pat} (h:p.op≠5):zaJ p=(zeV (p.kids.map zaJ)).map fun l=> .mk p.op p.ctor p.n p.m p.var l:=by
 cases p with|mk op c n m v ks=>
 have h':¬op=5:=h;conv=>lhs;unfold zaJ
 rw[if_neg h',znp];rfl
theorem zhA {p:Pat} (h:p.op=5) (hk:p.kids.length=2):zaJ p=zaJ (nth p.kids 0)++zaJ (nth p.kids 1):=by
 cases p with|mk op c n m v ks=>
 have h':op=5:=h;conv=>lhs;unfold zaJ
 rw[if_pos h'];have hk':ks.length=2:=hk;match ks,hk' with
 | [a,b],_=>rfl
mutual
def cntS:Pat->Int
 | .mk op _ _ _ _ ks=>if op=5 then cntO ks 0 else cntM ks 1
def cntO:List Pat->Int->Int
 | [],n=>n
 |k::r,n=>cntO r (cap (n+cntS k))
def cntM:List Pat->Int->Int
 | [],n=>n
 |k::r,n=>cntM r (cap (n*cntS k))
end
theorem znB (p:Pat):cntS p=if p.op=5 then cntO p.kids 0 else cntM p.kids 1:=by
 cases p with|mk op c n m v ks=>
 conv=>lhs;unfold cntS
 rfl
mutual
theorem znA:∀p:Pat,0<=cntS p/\cntS p<=401
 | .mk op _ _ _ _ ks=>by
  unfold cntS;split
  ·exact zrz ks 0 (by omega) (by omega)
  ·exact zrx ks 1 (by omega) (by omega)
theorem zrz:∀(l:List Pat) (n:Int),0<=n->n<=401->0<=cntO l n/\cntO l n<=401
 | [],n,h1,h2=>⟨h1,h2⟩
 |k::r,n,h1,h2=>by
  unfold cntO;have h3:=znA k;have h4:=zmk (x:=n+cntS k) (by omega);exact zrz r _ h4.1 h4.2
theorem zrx:∀(l:List Pat) (n:Int),0<=n->n<=401->0<=cntM l n/\cntM l n<=401
 | [],n,h1,h2=>⟨h1,h2⟩
 |k::r,n,h1,h2=>by
  unfold cntM;have h3:=znA k;have h4:=zmk (x:=n*cntS k) (Int.mul_nonneg h1 h3.1);exact zrx r _ h4.1 h4.2
end
theorem zsZ {l:List Pat}{i:Nat}{n:Int} (h:i<l.length):cntO (l.drop i) n=cntO (l.drop (i+1)) (cap (n+cntS (nth l i))):=by
 rw[zaW h];rfl
theorem zsY {l:List Pat}{i:Nat}{n:Int} (h:i<l.length):cntM (l.drop i) n=cntM (l.drop (i+1)) (cap (n*cntS (nth l i))):=by
 rw[zaW h];rfl
def binP:Nat->Pat->Bool
 |0,_=>false
 |n+1,p=>decide (p.op=5->p.kids.length=2)&&p.kids.all (binP n)
theorem zes {n:Nat}{p:Pat} (h:binP (n+1) p=true){i:Nat} (hi:i<p.kids.length):binP n (nth p.kids i)=true:=by
 unfold binP at h;rw[xad,List.all_eq_true] at h;exact h.2 _ (zai hi)
theorem zkT {n:Nat}{p:Pat} (h:binP (n+1) p=true) (h5:p.op=5):p.kids.length=2:=by
 unfold binP at h;rw[xad] at h;exact(of_decide_eq_true h.1) h5
theorem zpM:∀(n:Nat){p:Pat},binP n p=true->binP (n+1) p=true
 |0,p,h=>by simp[binP] at h
 |n+1,p,h=>by
  have h':=h;unfold binP at h ⊢;rw[xad,List.all_eq_true] at h ⊢;exact⟨h.1,fun k hk=>zpM n (h.2 k hk)⟩
theorem zh8 {w:List Data}:∀(n:Nat){t:Ty}{p:Pat},zau w n t p=true->binP n (zaQ p)=true
 |0,t,p,h=>by simp[zau] at h
 |n+1,t,p,h=>by
  obtain⟨ho,hlen⟩:=zbg h;have hany:binP (n+1) anyQ=true:=by simp[binP,anyQ,Pat.op,Pat.kids]
  rw[zhj];by_cases h2:p.op=2
  ·rw[if_pos h2];exact hany
  rw[if_neg h2];by_cases h6:p.op=6
  ·obtain⟨hl,s0⟩:=zcq h h6;rw[if_pos ⟨h6,fun e=>by rw[e] at hl;simp at hl⟩];exact zpM n (zh8 n s0)
  rw[if_neg (fun h=>h6 h.1)];unfold binP;rw[xad,List.all_eq_true];refine⟨decide_eq_true (fun h5=>?_),fun k hk=>?_⟩
  ·have:=(zh9 h h5).1;simpa [Pat.kids] using this
  ·simp only[Pat.kids,List.mem_map] at hk;obtain⟨x,hx,rfl⟩:=hk;obtain⟨i,hi,rfl⟩:=List.getElem_of_mem hx;have:=zh8 n (zbj h hi);have e:nth p.kids i=p.kids[i]:=zbc hi;rw[e] at this;exact this
theorem zgx (out:List (List Pat)) (l:List Pat):(zbk out l).length=out.length*l.length:=by
 unfold zbk;induction out with
 |nil=>simp
 |cons q r ih=>rw[List.flatMap_cons,xaa,ih,xac,xab,Nat.succ_mul];omega
theorem zsb (ls:List (List Pat)) (l:List Pat):zeV (ls++[l])=zbk (zeV ls) l:=by unfold zeV;rw[List.foldl_append];rfl
theorem zuI {a b:Nat}:cap (cap (a:Int)*cap (b:Int))=cap ((a*b:Nat):Int):=by
 unfold cap;rcases Nat.eq_zero_or_pos a with rfl|ha
 ·simp
 rcases Nat.eq_zero_or_pos b with rfl|hb
 ·simp
 have h1:a<=a*b:=Nat.le_mul_of_pos_right a hb;have h2:b<=a*b:=Nat.le_mul_of_pos_left b ha;have hab:((a*b:Nat):Int)=(a:Int)*(b:Int):=by push_cast;rfl
 by_cases ca:401<(a:Int)
 ·rw[if_pos ca];by_cases cb:401<(b:Int)
  ·rw[if_pos cb,if_pos (by omega),if_pos (by omega)]
  ·rw[if_neg cb];have h3:(401:Int)*1<=401*(b:Int):=Int.mul_le_mul_of_nonneg_left (by omega) (by omega);rw[if_pos (show 401<((a*b:Nat):Int) by omega)];split<;>omega
 ·rw[if_neg ca];by_cases cb:401<(b:Int)
  ·rw[if_pos cb];have h3:(1:Int)*401<=(a:Int)*401:=Int.mul_le_mul_of_nonneg_right (by omega) (by omega);rw[if_pos (show 401<((a*b:Nat):Int) by omega)];split<;>omega
  ·rw[if_neg cb,hab]
theorem zuG {a b:Nat}:cap (cap (a:Int)+cap (b:Int))=cap ((a+b:Nat):Int):=by
 unfold cap;push_cast
 split<;>split<;>split<;>(try split)<;>omega
theorem zuH {x:Int}:cap (cap x)=cap x:=by unfold cap;split<;>(try split)<;>omega
theorem zry:∀(l:List Pat) (out:List (List Pat)),(∀k∈l,cntS k=cap ((zaJ k).length:Int)/\0<(zaJ k).length)->cntM l (cap (out.length:Int))=cap (((l.map zaJ).foldl zbk out).length:Int)/\(0<out.length->0<((l.map zaJ).foldl zbk out).length)
 | [],out,_=>⟨rfl,fun h=>h⟩
 |k::r,out,h=>by
  have hk:=h k (by simp);unfold cntM;rw[hk.1,zuI];have:=zry r (zbk out (zaJ k)) (fun x hx=>h x (by simp[hx]));rw[zgx] at this;rw[xae,List.foldl_cons];exact⟨this.1,fun ho=>this.2 (Nat.mul_pos ho hk.2)⟩
theorem zmo:∀(n:Nat){p:Pat},binP n p=true->cntS p=cap ((zaJ p).length:Int)/\0<(zaJ p).length
 |0,p,h=>by simp[binP] at h
 |n+1,p,h=>by
  have ih:=fun i (hi:i<p.kids.length)=>zmo n (zes h hi);rw[znB];by_cases h5:p.op=5
  ·have hl:=zkT h h5;rw[if_pos h5,zhA h5 hl,xaa];have k0:=ih 0 (by omega);have k1:=ih 1 (by omega);have e:p.kids=[nth p.kids 0,nth p.kids 1]:=by
    match hk:p.kids,hl with
    | [a,b],_=>rfl
   refine⟨?_,by omega⟩;rw[e];simp only[cntO];rw[Int.zero_add,k0.1,zuH,k1.1];show cap (cap ((zaJ (nth p.kids 0)).length:Int)+cap ((zaJ (nth p.kids 1)).length:Int))=_
   rw[zuG];rfl
  ·rw[if_neg h5,ze3 h5,xac];have:=zry p.kids [[]] (fun k hk=>by
    obtain⟨i,hi,rfl⟩:=List.getElem_of_mem hk;have:=ih i hi;simpa [nth,List.getD,hi] using this)
   exact⟨this.1,this.2 (by simp)⟩
theorem zho:∀(ls:List (List Pat)) (out:List (List Pat)),(∀l∈ls,0<l.length)->out.length<=(ls.foldl zbk out).length
 | [],out,_=>Nat.le_refl _
 |l::r,out,h=>by
  rw[List.foldl_cons];have h1:=zho r (zbk out l) (fun x hx=>h x (by simp[hx]));rw[zgx] at h1;have h2:out.length<=out.length*l.length:=Nat.le_mul_of_pos_right _ (h l (by simp));omega
theorem zjE:∀(ls:List (List Pat)) (out:List (List Pat)),(∀l∈ls,0<l.length)->0<out.length->∀l∈ls,l.length<=(ls.foldl zbk out).length
 | [],out,_,_,l,hl=>by simp at hl
 |x::r,out,h,ho,l,hl=>by
  rw[List.foldl_cons];have hx:=h x (by simp);have hp:0<(zbk out x).length:=by rw[zgx];exact Nat.mul_pos ho hx
  rcases List.mem_cons.1 hl with rfl|hl
  ·have h1:=zho r (zbk out l) (fun y hy=>h y (by simp[hy]));rw[zgx] at h1;have h2:l.length<=out.length*l.length:=Nat.le_mul_of_pos_left _ ho;omega
  ·exact zjE r (zbk out x) (fun y hy=>h y (by simp[hy])) hp l hl
theorem zie {n:Nat}{p:Pat} (h:binP (n+1) p=true){i:Nat} (hi:i<p.kids.length):(zaJ (nth p.kids i)).length<=(zaJ p).length:=by
 by_cases h5:p.op=5
 ·have hl:=zkT h h5;rw[zhA h5 hl,xaa];have:i=0\/i=1:=by omega
  rcases this with rfl|rfl<;>omega
 ·rw[ze3 h5,xac];refine zjE _ [[]] (fun l hl=>?_) (by simp) _ (List.mem_map.2 ⟨_,zai hi,rfl⟩);obtain⟨k,hk,rfl⟩:=List.mem_map.1 hl;obtain⟨j,hj,rfl⟩:=List.getElem_of_mem hk;have:=(zmo n (zes h hj)).2;simpa [nth,List.getD,hj] using this
theorem zrp {n:Nat}{p:Pat} (h:binP (n+1) p=true) (h5:p.op≠5) (i:Nat):(zeV ((p.kids.take i).map zaJ)).length<=(zaJ p).length:=by
 rw[ze3 h5,xac];have e:p.kids.map zaJ=(p.kids.take i).map zaJ++(p.kids.drop i).map zaJ:=by rw[<-xaf,List.take_append_drop]
 unfold zeV;rw[e,List.foldl_append];refine zho _ _ (fun l hl=>?_);obtain⟨k,hk,rfl⟩:=List.mem_map.1 hl;obtain⟨j,hj,rfl⟩:=List.getElem_of_mem (List.mem_of_mem_drop hk);have:=(zmo n (zes h hj)).2;simpa [nth,List.getD,hj] using this
def zaq (w:List Data):Nat->Ty->Pat->Bool
 |0,_,_=>false
 |n+1,t,p=>(ownP w t p&&decide (p.op=1\/p.op=3\/p.op=4))&&all2 (zaq w n) (zah w t p) p.kids
theorem ziZ {α β:Type}{f g:α->β->Bool}:∀ {a:List α}{b:List β},(∀x∈a,∀y∈b,f x y=true->g x y=true)->all2 f a b=true->all2 g a b=true
 | [],[],_,_=>rfl
 |x::r,y::s,h,h2=>by
  simp only[all2,xad] at h2 ⊢;exact⟨h x (by simp) y (by simp) h2.1,ziZ (fun a ha b hb=>h a (by simp[ha]) b (by simp[hb])) h2.2⟩
 | [],_::_,_,h2=>by simp[all2] at h2
 |_::_,[],_,h2=>by simp[all2] at h2
theorem zg2 {w:List Data}:∀(n:Nat){t:Ty}{p:Pat},zaq w n t p=true->zau w n t p=true
 |0,t,p,h=>by simp[zaq] at h
 |n+1,t,p,h=>by
  unfold zaq at h;unfold zau;simp only[xad] at h ⊢;exact⟨h.1.1,ziZ (fun x _ y _ hh=>zg2 n hh) h.2⟩
theorem zgv {w:List Data}:∀(n:Nat){t:Ty}{p:Pat},zaq w n t p=true->zaq w (n+1) t p=true
 |0,t,p,h=>by simp[zaq] at h
 |n+1,t,p,h=>by
  unfold zaq at h ⊢;simp only[xad] at h ⊢;exact⟨h.1,ziZ (fun x _ y _ hh=>zgv n hh) h.2⟩
theorem zcd {w:List Data}{n:Nat}{t:Ty}{p:Pat} (h:zaq w n t p=true):p.op=1\/p.op=3\/p.op=4:=by
 cases n with
 |zero=>simp[zaq] at h
 |succ n=>unfold zaq at h;simp only[xad] at h;exact of_decide_eq_true h.1.2
theorem zhv {w:List Data}{n:Nat}{t:Ty}{p:Pat} (h:zaq w n t p=true):ownP w t p=true/\p.kids.length=(zah w t p).length:=by
 cases n with
 |zero=>simp[zaq] at h
 |succ n=>exact zbg (zg2 _ h)
theorem zbs {w:List Data}{n:Nat}{t:Ty}{p:Pat} (h:zaq w (n+1) t p=true){i:Nat} (hi:i<p.kids.length):zaq w n (nth (zah w t p) i) (nth p.kids i)=true:=by
 have hl:=(zhv h).2;unfold zaq at h;simp only[xad] at h;exact zd6 hl.symm h.2 i (by omega)
theorem zu3 {w:List Data}{t:Ty}{p:Pat}{l:List Pat}:ownP w t (.mk p.op p.ctor p.n p.m p.var l)=ownP w t p:=rfl
theorem zty {w:List Data}{t:Ty}{p:Pat}{l:List Pat}:zah w t (.mk p.op p.ctor p.n p.m p.var l)=zah w t p:=rfl
theorem zkw:∀(ls:List (List Pat)) (out:List (List Pat)) (l:List Pat),l∈ls.foldl zbk out->∃q∈out,∃r:List Pat,l=q++r/\r.length=ls.length/\∀i,i<ls.length->nth r i∈nth ls i
 | [],out,l,h=>⟨l,h,[],by simp,rfl,fun i hi=>by simp at hi⟩
 |x::rs,out,l,h=>by
  rw[List.foldl_cons] at h;obtain⟨q,hq,r,e,hl,hm⟩:=zkw rs (zbk out x) l h;unfold zbk at hq;simp only[List.mem_flatMap,List.mem_map] at hq;obtain⟨q0,hq0,c,hc,rfl⟩:=hq;refine⟨q0,hq0,c::r,by rw[e];simp,by simp[hl],fun i hi=>?_⟩;cases i with
  |zero=>exact hc
  |succ i=>exact hm i (by simpa using hi)
theorem zjW {w:List Data}{n:Nat}{t:Ty}:zaq w (n+1) t anyQ=true:=by
 unfold zaq;have h1:zah w t anyQ=[]:=by unfold zah;rw[if_neg (by decide),if_neg (by decide),if_neg (by decide)]
 rw[h1];have h2:ownP w t anyQ=true:=by unfold ownP;exact decide_eq_true (by simp[anyQ,Pat.op,Pat.var,Pat.n,Pat.m,Pat.ctor])
 rw[h2];rfl
theorem zrV:zaJ anyQ=[anyQ]:=by
 rw[ze3 (by decide)];rfl
theorem zng {w:List Data}{n:Nat}{t:Ty}{p:Pat} (h:zau w (n+1) t p=true) (h4:p.op≠4) (h5:p.op≠5) (h6:p.op≠6):p.kids=[]:=by
 have hl:=(zbg h).2;unfold zah at hl;rw[if_neg h4,if_neg h5,if_neg h6] at hl;exact List.eq_nil_of_length_eq_zero hl
theorem zhw {w:List Data}:∀(n:Nat){t:Ty}{p:Pat},zau w n t p=true->∀x∈zaJ (zaQ p),zaq w n t x=true
 |0,t,p,h=>by simp[zau] at h
 |n+1,t,p,h=>by
  obtain⟨ho,hlen⟩:=zbg h;have hop:=zqQ h;intro x hx;rw[zhj] at hx;by_cases h2:p.op=2
  ·rw[if_pos h2,zrV,List.mem_singleton] at hx;rw[hx];exact zjW
  rw[if_neg h2] at hx;by_cases h6:p.op=6
  ·obtain⟨hl,s0⟩:=zcq h h6;rw[if_pos ⟨h6,fun e=>by rw[e] at hl;simp at hl⟩] at hx;exact zgv n (zhw n s0 x hx)
  rw[if_neg (fun h=>h6 h.1)] at hx;by_cases h5:p.op=5
  ·obtain⟨hl,s0,s1⟩:=zh9 h h5;have hl2:(p.kids.map zaQ).length=2:=by rw[xac];exact hl
   rw[zhA (p:= .mk p.op p.ctor p.n p.m p.var (p.kids.map zaQ)) h5 hl2] at hx;have e0:nth (p.kids.map zaQ) 0=zaQ (nth p.kids 0):=by
    match hk:p.kids,hl with
    | [a,b],_=>rfl
   have e1:nth (p.kids.map zaQ) 1=zaQ (nth p.kids 1):=by
    match hk:p.kids,hl with
    | [a,b],_=>rfl
   simp only[zey] at hx;rw[e0,e1] at hx;rcases List.mem_append.1 hx with hx|hx
   ·exact zgv n (zhw n s0 x hx)
   ·exact zgv n (zhw n s1 x hx)
  rw[ze3 (p:= .mk p.op p.ctor p.n p.m p.var (p.kids.map zaQ)) h5] at hx;simp only[zey,zk5,ziL,mk_n,mk_m,zkr,List.mem_map] at hx;obtain⟨l,hl,rfl⟩:=hx;obtain⟨q,hq,r,e,hlr,hm⟩:=zkw _ _ _ hl;rw[List.mem_singleton] at hq;rw[hq,List.nil_append] at e;subst e;simp only[List.map_map,xac] at hlr hm;unfold zaq;rw[zu3,zty,ho,decide_eq_true (show _\/_\/_ from by rw[zk5];omega),Bool.true_and,Bool.true_and];refine zbn (by rw[zey];omega) (fun i hi=>?_);have hm':=hm i (by omega);have e2:nth (p.kids.map (zaJ ∘ zaQ)) i=zaJ (zaQ (nth p.kids i)):=by
   rw[zbc (by simp;omega)];simp[nth,List.getD,show i<p.kids.length by omega]
  rw[e2] at hm';exact zhw n (zbj h (by omega)) _ hm'
theorem Pats.ok_of:∀ {l:List Pat},(∀k∈l,k.ok)->Pats.ok l
 | [],_=>trivial
 |k::r,h=>⟨h k (by simp),Pats.ok_of (fun x hx=>h x (by simp[hx]))⟩
theorem Pats.size_of {m:Nat}:∀ {l:List Pat},(∀k∈l,k.size<=m)->Pats.size l<=l.length*m
 | [],_=>by simp[Pats.size]
 |k::r,h=>by
  have h1:=h k (by simp);have h2:=Pats.size_of (l:=r) (fun x hx=>h x (by simp[hx]));simp only[Pats.size,xab,Nat.succ_mul];omega
mutual
theorem zkS:∀p:Pat,p.ok->(zaQ p).ok
 | .mk op c n m v ks,h=>by
  unfold zaQ;split
  ·exact⟨by simp,trivial⟩
  ·split
   ·exact ztN ks h.2
   ·exact⟨by rw[zly,xac];exact h.1,zpL ks h.2⟩
theorem ztN:∀l:List Pat,Pats.ok l->(zkX l).ok
 | [],_=>⟨by simp,trivial⟩
 |k::r,h=>zkS k h.1
theorem zpL:∀l:List Pat,Pats.ok l->Pats.ok (zhI l)
 | [],_=>trivial
 |k::r,h=>⟨zkS k h.1,zpL r h.2⟩
end
mutual
theorem zoj:∀p:Pat,(zaQ p).size<=p.size
 | .mk op c n m v ks=>by
  unfold zaQ;split
  ·simp[anyQ,Pat.size,Pats.size]
  ·split
   ·have:=zr6 ks;simp only[Pat.size];omega
   ·have:=zmc ks;simp only[Pat.size];omega
theorem zr6:∀l:List Pat,(zkX l).size<=1+Pats.size l
 | []=>by simp[zkX,anyQ,Pat.size,Pats.size]
 |k::r=>by have:=zoj k;simp only[zkX,Pats.size];omega
theorem zmc:∀l:List Pat,Pats.size (zhI l)<=Pats.size l
 | []=>Nat.le_refl _
 |k::r=>by have:=zoj k;have:=zmc r;simp only[zhI,Pats.size];omega
end
end Go.Proofs.YtlfipehhbdjnjaaGreat
namespace Go.Proofs.YtlfipehhbdjnjaaGreat
open Go
set_option linter.unusedSimpArgs false
set_option linter.unusedVariables false
def capN (n:Nat):Nat:=if 401<n then 401 else n
end Go.Proofs.YtlfipehhbdjnjaaGreat
namespace Go.Proofs.YtlfipehhbdjnjaaGreat
open Go
set_option linter.unusedSimpArgs false
set_option linter.unusedVariables false
set_option maxRecDepth 100000
set_option maxHeartbeats 2000000
theorem Val.cs_cc (l:List Val):Val.cs l=l.map Val.cc:=by
 rw[Val.cs_eq];exact List.map_congr_left (fun v _=>Val.c_eq v)
end Go.Proofs.YtlfipehhbdjnjaaGreat
namespace Go.Proofs.YtlfipehhbdjnjaaGreat
open Go
set_option linter.unusedSimpArgs false
set_option linter.unusedVariables false
theorem Vals.ok_of:∀ {l:List Val},(∀v∈l,v.ok)->Vals.ok l
 | [],_=>trivial
 |v::r,h=>⟨h v (by simp),Vals.ok_of (fun x hx=>h x (List.mem_cons_of_mem _ hx))⟩
end Go.Proofs.YtlfipehhbdjnjaaGreat
namespace Go.Proofs.YtlfipehhbdjnjaaGreat
open Go
set_option linter.unusedSimpArgs false
set_option linter.unusedVariables false
set_option maxRecDepth 100000
set_option maxHeartbeats 2000000
theorem xaz (l:List Pat):Pat.cs l=l.map Pat.cc:=by
 rw[Pat.cs_eq];exact List.map_congr_left (fun v _=>Pat.c_eq v)
theorem zcm (l:List Pat):∀x∈Pat.cs l,x.length=6:=Pat.cs_rows
theorem zhg (l:List Pat):∀x∈l.map Pat.cc,x.length=6:=fun x hx=>by
 obtain⟨y,_,rfl⟩:=List.mem_map.1 hx;rfl
theorem zrr {p:Pat} (h:p.op=2):zaQ p=anyQ:=by rw[zhj,if_pos h]
theorem zrs {p:Pat} (h:p.op=6) (h2:0<p.kids.length):zaQ p=zaQ (nth p.kids 0):=by
 rw[zhj,if_neg (by omega),if_pos ⟨h,fun e=>by rw[e] at h2;simp at h2⟩]
theorem zrt {p:Pat} (h:p.op≠2) (h2:¬(p.op=6/\0<p.kids.length)):zaQ p = .mk p.op p.ctor p.n p.m p.var (p.kids.map zaQ):=by
 rw[zhj,if_neg h,if_neg (fun hh=>h2 ⟨hh.1,List.length_pos_iff.2 hh.2⟩)]
theorem zgq:∀(n:Nat){p:Pat},p.size<=n->p.ok->FnD Tryz.prog 190 [.agg [.d (.i p.op),.d (.i p.ctor),.d (.i p.n),.d (.i p.m),.d (.i p.var),.d (zaj p.kids)]] [] (.agg [.d (.i p.op),.d (.i p.ctor),.d (.i p.n),.d (.i p.m),.d (.i p.var),.d (zaj p.kids)]) []
 |0,p,h,_=>by rw[Pat.size_eq] at h;omega
 |n+1,p,h,hok=>by
  rw[Pat.size_eq] at h;rw[Pat.ok_iff] at hok;have hok1:=hok.1;refine bd Tryz.f190 24 [] [] fun w0 F0 own kept hk=>?_;refine bx 3001 ?_;refine ab 3002 tz36 ?_;refine tv ?_;refine so ty34 ?_;refine tv ?_;refine xar 3001 5 7 6 rfl rfl rfl rfl ?_;refine xam (ι:=List (Pat)×List (Pat)) hk (fun x=>[(11,.d (.i (x.1.length:Int)))]) [5,12,13,14,15,16,17,18,19,20,21,22] (fun x=>[(3001,some (.box [.d (.i p.op),.d (.i p.ctor),.d (.i p.n),.d (.i p.m),.d (.i p.var),.gl 7 (x.1.map Pat.cc)])),(7,some (.tok (x.1.map Pat.cc).length 6))]) (fun x=>x.1++x.2=p.kids) (fun x=>x.2.length) ([],p.kids) (by simp) ⟨⟨_,rfl,xax ?_⟩,trivial⟩ ⟨?_,⟨zag ?_,trivial⟩⟩ (fun x=>rfl) (fun x hg1=>?_);focus (rfl)
  focus (first|rfl|(simp[getH];done))
  focus (rfl)
  obtain⟨pre,rest⟩:=x;dsimp only at hg1 ⊢;refine evc [] [] ?_;refine sq ?_ ?_<;>intro h1 h1p h1s<;>(try simp only[Q,Pat.cs_len] at h1p);rcases rest with _|⟨y,rest⟩
  ·exfalso;simp_all
  refine xaP sl34 .none rfl rfl rfl rfl (Pat.cs_at' hg1) rfl ?_;refine ev ?_;refine ab 3005 tz36 ?_;refine so ty36 ?_;refine tv ?_;refine wc zsB (zgq n (p:=y) (by have:=Pats.size_mem (l:=p.kids) (v:=y) (by rw[<-hg1];simp);omega) (Pats.ok_mem hok.2 y (by rw[<-hg1];simp))) rfl rfl ?_;refine si [0] [_] sl34 tz36 ?_;refine ap sl34 zz36 rfl rfl rfl (by intro x hx;(simp at hx;subst hx;rfl)) (by have:=congrArg List.length hg1;simp at this;simp;omega) ?_;refine evd [] [] ?_;refine so ty34 ?_;refine dr ?_;refine ar ?_;refine xah ((pre++[y],rest)) ⟨(by have hz:=hg1;rw[<-hz];simp),(by simp),sx ⟨⟨_,rfl,xax ?_⟩,trivial⟩ ⟨?_,⟨zag ?_,trivial⟩⟩⟩;focus ((simp;done))
  focus (first|rfl|(simp[getH];done))
  focus ((simp;done))
  have hrest:rest=[]:=by
   rcases rest with _|⟨a,b⟩
   ·rfl
   ·exfalso;have hz:=congrArg List.length (hg1);simp only[xaa,xab,xac] at hz;omega
  subst hrest;refine so ty36 ?_;refine tv ?_;refine rn0 (.cons (.cellA ty36 rfl rfl rfl) .nil) (.agg (.cons (.eqd ?_) (.cons (.eqd ?_) (.cons (.eqd ?_) (.cons (.eqd ?_) (.cons (.eqd ?_) (.cons (.gld ?_) .nil)))))));rotate_left 6;all_goals (first|rfl|(rw[List.append_nil] at hg1;rw[<-hg1,xaz];done))
theorem zjR {l:List Pat} (h:l.length<=1000000000000) (hok:∀p∈l,p.ok):FnD Tryz.prog 155 [.d (zaj l)] [] (.d (zaj l)) []:=by
 refine bd Tryz.f155 19 [3] [] fun w0 F0 own kept hk=>?_;refine xaF 1 6 .none rfl rfl ?_;refine tv ?_;refine xam (ι:=List (Pat)×List (Pat)) hk (fun x=>[(8,.d (.i (x.1.length:Int))),(3,.gl 1 (x.1.map Pat.cc))]) [5,9,10,11,12,13,14,15,16,17] (fun x=>[(1,some (.tok ((x.1.map Pat.cc)).length 6))]) (fun x=>x.1++x.2=l) (fun x=>x.2.length) ([],l) (by simp) ⟨⟨_,rfl,xax ?_⟩,⟨⟨_,rfl,LeA.glg ?_⟩,trivial⟩⟩ ⟨zag ?_,trivial⟩ (fun x=>rfl) (fun x hg1=>?_);iterate 3 focus (rfl)
 obtain⟨pre,rest⟩:=x;dsimp only at hg1 ⊢;refine evc [3] [] ?_;refine sq ?_ ?_<;>intro h1 h1p h1s<;>(try simp only[Q,Pat.cs_len] at h1p);rcases rest with _|⟨y,rest⟩
 ·exfalso;simp_all
 refine xaP sl34 .none rfl rfl rfl rfl (Pat.cs_at' hg1) rfl ?_;refine evs [3] [] ?_;refine ab 3005 tz36 ?_;refine so ty36 ?_;refine tv ?_;refine wc zsB (zgq _ (Nat.le_refl _) (hok y (by rw[<-hg1];simp))) rfl rfl ?_;refine si [0] [_] sl34 tz36 ?_;refine ap sl34 zz36 rfl rfl rfl (by intro x hx;simp at hx;subst hx;rfl) (by have:=congrArg List.length hg1;simp at this;simp;omega) ?_;refine asg ?_;refine tv ?_;refine ar ?_;refine xah ((pre++[y],rest)) ⟨(by have hz:=hg1;rw[<-hz];simp),(by simp),sx ⟨⟨_,rfl,xax ?_⟩,⟨⟨_,rfl,LeA.glg ?_⟩,trivial⟩⟩ ⟨zag ?_,trivial⟩⟩;iterate 3 focus ((simp;done))
 have hrest:rest=[]:=by
  rcases rest with _|⟨a,b⟩
  ·rfl
  ·exfalso;have hz:=congrArg List.length (hg1);simp only[xaa,xab,xac] at hz;omega
 subst hrest;refine rn0 (r1 rfl) (.gld ?_);rotate_left;all_goals ((rw[List.append_nil] at hg1;rw[<-hg1,xaz];done))
theorem zed:FnD Tryz.prog 156 [] [] (.agg [.d (.i 1),.d (.i 0),.d (.i 0),.d (.i 0),.d (.i 0),.d (.sl [])]) []:=by
 refine bd Tryz.f156 2 [] [] fun w0 F0 own kept hk=>?_;refine ab 3000 tz36 ?_;refine tv ?_;refine bu [0] [_] st36 ?_;refine so ty36 ?_;refine tv ?_;focus (refine rn0 (.cons (.cellA ty36 rfl rfl rfl) .nil) (.agg (.cons (.eqd ?_) (.cons (.eqd ?_) (.cons (.eqd ?_) (.cons (.eqd ?_) (.cons (.eqd ?_) (.cons (.nild ?_) .nil)))))));all_goals (rfl))
theorem zc8:∀(n:Nat){p:Pat},p.size<=n->p.ok->FnD Tryz.prog 219 [.agg [.d (.i p.op),.d (.i p.ctor),.d (.i p.n),.d (.i p.m),.d (.i p.var),.d (zaj p.kids)]] [] (.agg [.d (.i (zaQ p).op),.d (.i (zaQ p).ctor),.d (.i (zaQ p).n),.d (.i (zaQ p).m),.d (.i (zaQ p).var),.d (zaj (zaQ p).kids)]) []
 |0,p,h,_=>by rw[Pat.size_eq] at h;omega
 |n+1,p,h,hok=>by
  rw[Pat.size_eq] at h;rw[Pat.ok_iff] at hok;have hok1:=hok.1;by_cases h2:p.op=2
  ·rw[zrr h2];refine bd Tryz.f219 44 [] [] fun w0 F0 own kept hk=>?_;refine bx 3001 ?_;refine ab 3002 tz36 ?_;refine tv ?_;refine sq ?_ ?_<;>intro h1 h1p h1s;refine wc zpQ (zed) rfl rfl ?_;refine so ty36 ?_;refine tv ?_;refine rn0 (.cons (.cellA ty36 rfl rfl rfl) .nil) (.agg (.cons (.eqd ?_) (.cons (.eqd ?_) (.cons (.eqd ?_) (.cons (.eqd ?_) (.cons (.eqd ?_) (.cons (.eqd ?_) .nil)))))));rotate_left 6;try simp only[Q] at h1p
   exfalso;omega;all_goals (rfl)
  by_cases h6:p.op=6/\0<p.kids.length
  ·rw[zrs h6.1 h6.2];refine bd Tryz.f219 44 [] [] fun w0 F0 own kept hk=>?_;refine bx 3001 ?_;refine ab 3002 tz36 ?_;refine tv ?_;refine sq ?_ ?_<;>intro h1 h1p h1s;try simp only[Q,Pat.cs_len] at h1p
   exfalso;omega;refine sq ?_ ?_<;>intro h2 h2p h2s;refine sq ?_ ?_<;>intro h3 h3p h3s;refine xaP (i:=0) sl34 .none rfl rfl rfl rfl (zas h6.2) rfl ?_;refine ev ?_;refine wc zj1 (zc8 n (p:=nth p.kids 0) (by have:=Pats.size_mem (zai h6.2);omega) (Pats.ok_mem hok.2 _ (zai h6.2))) rfl rfl ?_;refine so ty36 ?_;refine tv ?_;refine rn0 (.cons (.cellA ty36 rfl rfl rfl) .nil) (.agg (.cons (.eqd ?_) (.cons (.eqd ?_) (.cons (.eqd ?_) (.cons (.eqd ?_) (.cons (.eqd ?_) (.cons (.eqd ?_) .nil)))))));rotate_left 6;try simp only[Q,Pat.cs_len] at h3p
   focus (exfalso;first|omega|(simp_all;done))
   try simp only[Q,Pat.cs_len] at h2p
   exfalso;omega;all_goals (rfl)
  ·rw[zrt h2 h6];refine bd Tryz.f219 44 [] [] fun w0 F0 own kept hk=>?_;refine bx 3001 ?_;refine ab 3002 tz36 ?_;refine tv ?_;refine sq ?_ ?_<;>intro h1 h1p h1s;try simp only[Q,Pat.cs_len] at h1p
   exfalso;omega;refine sq ?_ ?_<;>intro h2 h2p h2s;refine sq ?_ ?_<;>intro h3 h3p h3s;try simp only[Q,Pat.cs_len] at h3p
   focus (exfalso;apply h6;first|omega|(simp_all;done))
   refine so ty34 ?_;refine tv ?_;refine xar 3001 5 7 6 rfl rfl rfl rfl ?_;refine xam (ι:=List (Pat)×List (Pat)) hk (fun x=>[(31,.d (.i (x.1.length:Int)))]) [5,32,33,34,35,36,37,38,39,40,41,42] (fun x=>[(3001,some (.box [.d (.i p.op),.d (.i p.ctor),.d (.i p.n),.d (.i p.m),.d (.i p.var),.gl 7 ((x.1.map zaQ).map Pat.cc)])),(7,some (.tok ((x.1.map zaQ).map Pat.cc).length 6))]) (fun x=>x.1++x.2=p.kids) (fun x=>x.2.length) ([],p.kids) (by simp) ⟨⟨_,rfl,xax ?_⟩,trivial⟩ ⟨?_,⟨zag ?_,trivial⟩⟩ (fun x=>rfl) (fun x hg1=>?_);focus (rfl)
   focus (first|rfl|(simp[getH];done))
   focus (rfl)
   obtain⟨pre,rest⟩:=x;dsimp only at hg1 ⊢;refine evc [] [] ?_;refine sq ?_ ?_<;>intro h4 h4p h4s<;>(try simp only[Q,Pat.cs_len] at h4p);rcases rest with _|⟨y,rest⟩
   ·exfalso;simp_all
   refine xaP sl34 .none rfl rfl rfl rfl (Pat.cs_at' hg1) rfl ?_;refine ev ?_;refine ab 3005 tz36 ?_;refine so ty36 ?_;refine tv ?_;refine wc zj1 (zc8 n (p:=y) (by have:=Pats.size_mem (l:=p.kids) (v:=y) (by rw[<-hg1];simp);omega) (Pats.ok_mem hok.2 y (by rw[<-hg1];simp))) rfl rfl ?_;refine si [0] [_] sl34 tz36 ?_;refine ap sl34 zz36 rfl rfl rfl (by intro x hx;(simp at hx;subst hx;rfl)) (by have:=congrArg List.length hg1;simp at this;simp;omega) ?_;refine evd [] [] ?_;refine so ty34 ?_;refine dr ?_;refine ar ?_;refine xah ((pre++[y],rest)) ⟨(by have hz:=hg1;rw[<-hz];simp),(by simp),sx ⟨⟨_,rfl,xax ?_⟩,trivial⟩ ⟨?_,⟨zag ?_,trivial⟩⟩⟩;focus ((simp;done))
   focus (first|rfl|(simp[getH];done))
   focus ((simp;done))
   have hrest:rest=[]:=by
    rcases rest with _|⟨a,b⟩
    ·rfl
    ·exfalso;have hz:=congrArg List.length (hg1);simp only[xaa,xab,xac] at hz;omega
   subst hrest;refine so ty36 ?_;refine tv ?_;refine rn0 (.cons (.cellA ty36 rfl rfl rfl) .nil) (.agg (.cons (.eqd ?_) (.cons (.eqd ?_) (.cons (.eqd ?_) (.cons (.eqd ?_) (.cons (.eqd ?_) (.cons (.gld ?_) .nil)))))));rotate_left 6;refine sqF ?_;refine so ty34 ?_;refine tv ?_;refine xar 3001 5 7 6 rfl rfl rfl rfl ?_;refine xam (ι:=List (Pat)×List (Pat)) hk (fun x=>[(31,.d (.i (x.1.length:Int)))]) [5,32,33,34,35,36,37,38,39,40,41,42] (fun x=>[(3001,some (.box [.d (.i p.op),.d (.i p.ctor),.d (.i p.n),.d (.i p.m),.d (.i p.var),.gl 7 ((x.1.map zaQ).map Pat.cc)])),(7,some (.tok ((x.1.map zaQ).map Pat.cc).length 6))]) (fun x=>x.1++x.2=p.kids) (fun x=>x.2.length) ([],p.kids) (by simp) ⟨⟨_,rfl,xax ?_⟩,trivial⟩ ⟨?_,⟨zag ?_,trivial⟩⟩ (fun x=>rfl) (fun x hg1=>?_);focus (rfl)
   focus (first|rfl|(simp[getH];done))
   focus (rfl)
   obtain⟨pre,rest⟩:=x;dsimp only at hg1 ⊢;refine evc [] [] ?_;refine sq ?_ ?_<;>intro h6 h6p h6s<;>(try simp only[Q,Pat.cs_len] at h6p);rcases rest with _|⟨y,rest⟩
   ·exfalso;simp_all
   refine xaP sl34 .none rfl rfl rfl rfl (Pat.cs_at' hg1) rfl ?_;refine ev ?_;refine ab 3005 tz36 ?_;refine so ty36 ?_;refine tv ?_;refine wc zj1 (zc8 n (p:=y) (by have:=Pats.size_mem (l:=p.kids) (v:=y) (by rw[<-hg1];simp);omega) (Pats.ok_mem hok.2 y (by rw[<-hg1];simp))) rfl rfl ?_;refine si [0] [_] sl34 tz36 ?_;refine ap sl34 zz36 rfl rfl rfl (by intro x hx;(simp at hx;subst hx;rfl)) (by have:=congrArg List.length hg1;simp at this;simp;omega) ?_;refine evd [] [] ?_;refine so ty34 ?_;refine dr ?_;refine ar ?_;refine xah ((pre++[y],rest)) ⟨(by have hz:=hg1;rw[<-hz];simp),(by simp),sx ⟨⟨_,rfl,xax ?_⟩,trivial⟩ ⟨?_,⟨zag ?_,trivial⟩⟩⟩;focus ((simp;done))
   focus (first|rfl|(simp[getH];done))
   focus ((simp;done))
   have hrest:rest=[]:=by
    rcases rest with _|⟨a,b⟩
    ·rfl
    ·exfalso;have hz:=congrArg List.length (hg1);simp only[xaa,xab,xac] at hz;omega
   subst hrest;refine so ty36 ?_;refine tv ?_;refine rn0 (.cons (.cellA ty36 rfl rfl rfl) .nil) (.agg (.cons (.eqd ?_) (.cons (.eqd ?_) (.cons (.eqd ?_) (.cons (.eqd ?_) (.cons (.eqd ?_) (.cons (.gld ?_) .nil)))))));rotate_left 6;all_goals (first|rfl|(rw[List.append_nil] at hg1;subst hg1;rw[<-xaz];all_goals rfl))
theorem zee:∀(n:Nat){p:Pat},p.size<=n->p.ok->FnD Tryz.prog 220 [.agg [.d (.i p.op),.d (.i p.ctor),.d (.i p.n),.d (.i p.m),.d (.i p.var),.d (zaj p.kids)]] [] (.d (.i (cntS p))) []
 |0,p,h,_=>by rw[Pat.size_eq] at h;omega
 |n+1,p,h,hok=>by
  rw[Pat.size_eq] at h;rw[Pat.ok_iff] at hok;have hok1:=hok.1;have hbd:=fun i=>znA (nth p.kids i);by_cases h5:p.op=5
  ·rw[znB,if_pos h5];refine bd Tryz.f220 31 [] [] fun w0 F0 own kept hk=>?_;refine bx 3001 ?_;refine ev ?_;refine sq ?_ ?_<;>intro h1 h1p h1s;refine xam (ι:=Nat×Int) hk (fun x=>[(12,.d (.i (x.1:Int))),(3,.d (.i x.2))]) [5,13,14,15,16,17,18,19,20,21,22,23,24,25,26,27,28,29] (fun x=>[]) (fun x=>x.1<=p.kids.length/\cntO (p.kids.drop x.1) x.2=cntO p.kids 0/\0<=x.2/\x.2<=401) (fun x=>p.kids.length-x.1) (0,0) ⟨by simp,rfl,by simp,by simp⟩ ⟨⟨_,rfl,xax ?_⟩,⟨⟨_,rfl,xax ?_⟩,trivial⟩⟩ trivial (fun x=>rfl) (fun x hg1=>?_);iterate 2 focus (rfl)
   refine evc [] [] ?_;refine sq ?_ ?_<;>intro h2 h2p h2s<;>(try simp only[Q,Pat.cs_len] at h2p);refine xaP sl34 .none rfl rfl rfl rfl (zas (by omega)) rfl ?_;refine ev ?_;refine ab 3005 tz36 ?_;refine so ty36 ?_;refine tv ?_;refine sq ?_ ?_<;>intro h3 h3p h3s<;>(try simp only[Q,Pat.cs_len] at h3p);refine wc zme (zee n (p:=nth p.kids x.1) (by have:=Pats.size_mem (zai (l:=p.kids) (i:=x.1) (by omega));omega) (Pats.ok_mem hok.2 _ (zai (by omega)))) rfl rfl ?_;refine ev ?_;refine ar ?_ (by(have hb:=hbd x.1;constructor<;>omega));refine xa1 .none rfl rfl rfl ?_;refine ev ?_;refine ar ?_ (by(constructor<;>omega));refine xah ((x.1+1,cap (x.2+cntS (nth p.kids x.1)))) ⟨(by
        have hb:=hbd x.1;have hc:=zmk (x:=x.2+cntS (nth p.kids x.1)) (by omega);exact⟨by dsimp only;omega,by dsimp only;rw[<-zsZ (by omega)];exact hg1.2.1,hc.1,hc.2⟩),(by dsimp only;omega),sx ⟨⟨_,rfl,xax ?_⟩,⟨⟨_,rfl,xax ?_⟩,trivial⟩⟩ trivial⟩
   iterate 2 focus (rfl)
   exfalso;omega;refine rq ?_;rotate_left;try simp only[Q,Pat.cs_len] at h1p
   exfalso;omega;all_goals (refine congrArg D.i ?_;rw[<-hg1.2.1,List.drop_eq_nil_of_le (by omega)];rfl)
  ·rw[znB,if_neg h5];refine bd Tryz.f220 31 [] [] fun w0 F0 own kept hk=>?_;refine bx 3001 ?_;refine ev ?_;refine sq ?_ ?_<;>intro h1 h1p h1s;try simp only[Q,Pat.cs_len] at h1p
   exfalso;omega;refine xam (ι:=Nat×Int) hk (fun x=>[(12,.d (.i (x.1:Int))),(3,.d (.i x.2))]) [5,13,14,15,16,17,18,19,20,21,22,23,24,25,26,27,28,29] (fun x=>[]) (fun x=>x.1<=p.kids.length/\cntM (p.kids.drop x.1) x.2=cntM p.kids 1/\0<=x.2/\x.2<=401) (fun x=>p.kids.length-x.1) (0,1) ⟨by simp,rfl,by simp,by simp⟩ ⟨⟨_,rfl,xax ?_⟩,⟨⟨_,rfl,xax ?_⟩,trivial⟩⟩ trivial (fun x=>rfl) (fun x hg1=>?_);iterate 2 focus (rfl)
   refine evc [] [] ?_;refine sq ?_ ?_<;>intro h2 h2p h2s<;>(try simp only[Q,Pat.cs_len] at h2p);refine xaP sl34 .none rfl rfl rfl rfl (zas (by omega)) rfl ?_;refine ev ?_;refine ab 3005 tz36 ?_;refine so ty36 ?_;refine tv ?_;refine sq ?_ ?_<;>intro h3 h3p h3s;try simp only[Q,Pat.cs_len] at h3p
   exfalso;omega;refine wc zme (zee n (p:=nth p.kids x.1) (by have:=Pats.size_mem (zai (l:=p.kids) (i:=x.1) (by omega));omega) (Pats.ok_mem hok.2 _ (zai (by omega)))) rfl rfl ?_;refine ev ?_;refine ar ?_ (by(have hb:=hbd x.1;have h3:=Int.mul_le_mul hg1.2.2.2 hb.2 hb.1 (by omega);have h4:=Int.mul_nonneg hg1.2.2.1 hb.1;constructor<;>omega));refine xa1 .none rfl rfl rfl ?_;refine ev ?_;refine ar ?_ (by(constructor<;>omega));refine xah ((x.1+1,cap (x.2*cntS (nth p.kids x.1)))) ⟨(by
        have hb:=hbd x.1;have hc:=zmk (x:=x.2*cntS (nth p.kids x.1)) (Int.mul_nonneg hg1.2.2.1 hb.1);exact⟨by dsimp only;omega,by dsimp only;rw[<-zsY (by omega)];exact hg1.2.1,hc.1,hc.2⟩),(by dsimp only;omega),sx ⟨⟨_,rfl,xax ?_⟩,⟨⟨_,rfl,xax ?_⟩,trivial⟩⟩ trivial⟩
   iterate 2 focus (rfl)
   refine rq ?_;rotate_left;all_goals (refine congrArg D.i ?_;rw[<-hg1.2.1,List.drop_eq_nil_of_le (by omega)];rfl)
theorem zfV {xs:List Pat} (hs:xs.length<=1000000000000):FnD Tryz.prog 242 [.d (zaj xs)] [] (.gl 77 (Pat.cs xs)) [(77,some (.tok (Pat.cs xs).length 6))]:=by
 refine Fn.body (fn:=Tryz.f242) (n:=8) rfl rfl rfl rfl rfl (fun w0 F0 own kept hk=>?_);refine xaq 0 rfl (fun hx0=>?_) ?_;refine evc [2,4] [] ?_;refine asg ?_;refine tv ?_;refine xaO sl34 .none rfl rfl ?_;refine tv ?_;refine sqT ?_;refine xaF 77 6 .none rfl rfl ?_;refine tv ?_;refine rn [(77,some (.tok (Pat.cs xs).length 6))] (r1 rfl) (.glg ?_) ⟨rfl,rfl⟩ (SubH.get ⟨?_,trivial⟩) (zaE rfl);rotate_left 2;refine evc [2,4] [] ?_;refine asg ?_;refine tv ?_;refine xaN sl34 .none rfl rfl ?_;refine tv ?_;refine sqF ?_;refine xbc 77 sl34 .none rfl rfl ?_;refine evs [2,4] [] ?_;refine ap sl34 zz36 rfl rfl rfl (by intro y hy;rw[xaz] at hy;obtain⟨z,_,rfl⟩:=List.mem_map.1 hy;rfl) (by simp[Pat.cs_len];omega) ?_;refine asg ?_;refine tv ?_;refine rn [(77,some (.tok (Pat.cs xs).length 6))] (r1 rfl) (.glg ?_) ⟨rfl,rfl⟩ (SubH.get ⟨?_,trivial⟩) (zaE rfl);rotate_left 2;all_goals (first|((first|rfl|exact hx0.symm|(simp;done));done)|(first|rfl|(simp[hx0];rfl)|(simp;rfl)))
def zdH (C:List Pat) (q:Pat):List Pat:=C.map fun c=> .mk q.op q.ctor q.n q.m q.var (q.kids++[c])
theorem zr5 {ls:List (List Pat)}{C:List Pat}{a b c d e:Int}:((zeV ls).map (fun l=>Pat.mk a b c d e l)).flatMap (zdH C)=(zeV (ls++[C])).map (fun l=>Pat.mk a b c d e l):=by
 rw[zsb];unfold zbk zdH;rw[List.flatMap_map,List.map_flatMap];congr 1
 funext q
 simp[zk5,ziL,mk_n,mk_m,zkr,zey]
def zcs (p:Pat) (i:Nat):List Pat:=(zeV ((p.kids.take i).map zaJ)).map fun l=>Pat.mk p.op p.ctor p.n p.m p.var l
theorem ztM (p:Pat):zcs p 0=[.mk p.op p.ctor p.n p.m p.var []]:=by unfold zcs;simp[zeV]
theorem zre {p:Pat}{i:Nat} (h:i<p.kids.length):(zcs p i).flatMap (zdH (zaJ (nth p.kids i)))=zcs p (i+1):=by
 unfold zcs;rw[zr5,List.take_succ_eq_append_getElem h,xaf,<-zbc h];rfl
theorem zr3 {p:Pat}{i:Nat} (h5:p.op≠5) (h:p.kids.length<=i):zcs p i=zaJ p:=by
 unfold zcs;rw[ze3 h5,List.take_of_length_le h]
theorem zr4 {n:Nat}{p:Pat} (h:binP (n+1) p=true) (h5:p.op≠5) (i:Nat):(zcs p i).length<=(zaJ p).length:=by
 unfold zcs;rw[xac];exact zrp h h5 i
theorem zrd {p:Pat}{i:Nat}{q:Pat} (h:q∈zcs p i):q.kids.length<=p.kids.length:=by
 unfold zcs at h;obtain⟨l,hl,rfl⟩:=List.mem_map.1 h;obtain⟨q0,hq,r,e,hlr,_⟩:=zkw _ _ _ hl;rw[List.mem_singleton] at hq;rw[hq,List.nil_append] at e;rw[zey,e,hlr];simp;omega
theorem zot {α β:Type}{f:α->List β}{k:Nat} (hf:∀x,(f x).length<=k):∀l:List α,(l.flatMap f).length<=l.length*k
 | []=>by simp
 |x::r=>by
  rw[List.flatMap_cons,xaa,xab,Nat.succ_mul];have:=hf x;have:=zot hf r;omega
theorem zeT:∀(n:Nat){p:Pat},binP n p=true->p.ok->(zaJ p).length<=40->FnD Tryz.prog 221 [.agg [.d (.i p.op),.d (.i p.ctor),.d (.i p.n),.d (.i p.m),.d (.i p.var),.d (zaj p.kids)]] [] (.gl 9 (Pat.cs (zaJ p))) [(9,some (.tok (Pat.cs (zaJ p)).length 6))]
 |0,p,h,_,_=>by simp[binP] at h
 |n+1,p,h,hok,hlen=>by
  have hok':=(Pat.ok_iff p).1 hok;have hok1:=hok'.1;by_cases h5:p.op=5
  ·have hl:=zkT h h5;have e5:=zhA h5 hl;have l0:=zie h (i:=0) (by omega);have l1:=zie h (i:=1) (by omega);have c0:=zeT n (zes h (i:=0) (by omega)) (Pats.ok_mem hok'.2 _ (zai (by omega))) (by omega);have c1:=FnD.glD (zeT n (zes h (i:=1) (by omega)) (Pats.ok_mem hok'.2 _ (zai (by omega))) (by omega));rw[e5];refine bd Tryz.f221 70 [] [] fun w0 F0 own kept hk=>?_;refine bx 3001 ?_;refine ev ?_;refine sq ?_ ?_<;>intro h1 h1p h1s<;>(try simp only[Q,Pat.cs_len] at h1p);refine xaP (i:=0) sl34 .none rfl rfl rfl rfl (zas (by omega)) rfl ?_;refine evd [] [] ?_;refine Walk.call (cr:=[9]) zmf (c0) rfl .none rfl rfl (LeL.refl _) trivial rfl rfl rfl ?_;refine evd [] [] ?_;refine xaP (i:=1) sl34 .none rfl rfl rfl rfl (zas (by omega)) rfl ?_;refine evd [] [] ?_;refine wc zmf (c1) rfl rfl ?_;refine ap sl34 zz36 rfl rfl rfl (by intro x hx;exact zcm _ x hx) (by simp[Pat.cs_len];omega) ?_;refine evd [] [] ?_;refine dr ?_;refine rn [(9,some (.tok (Pat.cs (zaJ (nth p.kids 0)++zaJ (nth p.kids 1))).length 6))] (r1 rfl) (.glg ?_) ⟨rfl,rfl⟩ (SubH.get ⟨?_,trivial⟩) (zaE rfl);rotate_left 2;exfalso;omega;all_goals (first|((first|rfl|(simp[xaz];done));done)|(first|rfl|(simp[xaz];rfl)))
  ·have hfl:=zr4 h h5;have hfk:=fun(i:Nat) (q:Pat) (hq:q∈zcs p i)=>zrd hq;have hf0:=ztM p;have hfe:=fun(i:Nat) (hi:p.kids.length<=i)=>zr3 h5 hi;have hfn:=fun(i:Nat) (hi:i<p.kids.length)=>zre hi;have hcal:=fun(i:Nat) (hi:i<p.kids.length)=>FnD.glD (zeT n (zes h hi) (Pats.ok_mem hok'.2 _ (zai hi)) (by have:=zie h hi;omega));have hcl:=fun(i:Nat) (hi:i<p.kids.length)=>zie h hi;have hgl:=fun(C:List Pat) (q:Pat)=>show(zdH C q).length<=C.length from by unfold zdH;simp
   generalize zaJ p=SP at *;refine bd Tryz.f221 70 [8] [10,23] fun w0 F0 own kept hk=>?_;refine bx 3001 ?_;refine evs [8] [] ?_;refine sq ?_ ?_<;>intro h1 h1p h1s<;>(try simp only[Q,Pat.cs_len] at h1p);exfalso;omega;refine so ty34 ?_;refine tv ?_;refine xbf 9 sl34 tz36 rfl (by decide) (ks:=[0]) (xs:=[_]) rfl rfl (by decide) (by decide) .none rfl rfl rfl rfl rfl ?_;refine evs [8] [] ?_;refine xam (ι:=Nat) hk (fun i=>[(35,.d (.i (i:Int))),(4,.gl 9 ((zcs p i).map Pat.cc)),(32,.any)]) [6,7,8,10,12,13,36,37,38,39,40,41,42,43,44,45,46,47,48,49,50,51,52,53,54,55,56,57,58,59,60,61,62,63,64,65,66,67,68] (fun i=>[(9,some (.tok (((zcs p i).map Pat.cc)).length 6))]) (fun i=>i<=p.kids.length) (fun i=>p.kids.length-i) 0 (by omega) ⟨⟨_,rfl,xax ?_⟩,⟨⟨_,rfl,LeA.glg ?_⟩,⟨⟨_,rfl,.any _⟩,trivial⟩⟩⟩ ⟨zag ?_,trivial⟩ (fun x=>rfl) (fun i hg1=>?_);iterate 3 focus (rfl)
   refine evc [8] [10,23] ?_;refine sq ?_ ?_<;>intro h2 h2p h2s<;>(try simp only[Q,Pat.cs_len] at h2p);refine xaP sl34 .none rfl rfl rfl rfl (zas (by omega)) rfl ?_;refine evs [8] [] ?_;refine ab 3006 tz36 ?_;refine so ty36 ?_;refine tv ?_;refine wc zmf (hcal i (by omega)) rfl rfl ?_;refine evs [8] [] ?_;refine CWp.tokDrop 4 9 rfl rfl ?_;refine evc [8] [] ?_;refine xaF 3 6 .none rfl rfl ?_;refine tv ?_;refine xam (ι:=List (Pat)×List (Pat)) hk (fun x=>[(43,.d (.i (x.1.length:Int))),(8,.gl 3 ((x.1.flatMap (zdH (zaJ (nth p.kids i)))).map Pat.cc))]) [10,12,13,44,45,46,47,48,49,50,51,52,53,54,55,56,57,58,59,60,61,62,63,64,65,66] (fun x=>[(3,some (.tok (((x.1.flatMap (zdH (zaJ (nth p.kids i)))).map Pat.cc)).length 6))]) (fun x=>x.1++x.2=zcs p i) (fun x=>x.2.length) ([],zcs p i) (by simp) ⟨⟨_,rfl,xax ?_⟩,⟨⟨_,rfl,LeA.glg ?_⟩,trivial⟩⟩ ⟨zag ?_,trivial⟩ (fun x=>rfl) (fun x hg2=>?_);iterate 3 focus (rfl)
   obtain⟨pre2,rest2⟩:=x;dsimp only at hg2 ⊢;refine evc [8] [10,23] ?_;refine sq ?_ ?_<;>intro h3 h3p h3s<;>(try simp only[Q,Pat.cs_len] at h3p);rcases rest2 with _|⟨q,rest2⟩
   ·exfalso;simp_all
   have hqk:=hfk i q (by rw[<-hg2];simp);have hl2:=congrArg List.length hg2;simp only[xaa,xab] at hl2;have hl2b:=hfl i;refine xaP sl34 .none rfl rfl rfl rfl (zaN hg2) rfl ?_;refine evs [8] [] ?_;refine ab 3010 tz36 ?_;refine so ty36 ?_;refine tv ?_;refine xam (ι:=List (Pat)×List (Pat)) hk (fun x=>[(49,.d (.i (x.1.length:Int))),(8,.gl 3 ((pre2.flatMap (zdH (zaJ (nth p.kids i)))++zdH x.1 q).map Pat.cc))]) [12,13,50,51,52,53,54,55,56,57,58,59,60,61,62,63,64,65] (fun x=>[(3,some (.tok (((pre2.flatMap (zdH (zaJ (nth p.kids i)))++zdH x.1 q).map Pat.cc)).length 6))]) (fun x=>x.1++x.2=zaJ (nth p.kids i)) (fun x=>x.2.length) ([],zaJ (nth p.kids i)) (by simp) ⟨⟨_,rfl,xax ?_⟩,⟨⟨_,rfl,LeA.glg ?_⟩,trivial⟩⟩ ⟨zag ?_,trivial⟩ (fun x=>rfl) (fun x hg3=>?_);iterate 3 focus ((simp[zdH];done))
   obtain⟨pre3,rest3⟩:=x;dsimp only at hg3 ⊢;refine evc [8] [10,23] ?_;refine sq ?_ ?_<;>intro h4 h4p h4s<;>(try simp only[Q,Pat.cs_len] at h4p);rcases rest3 with _|⟨y,rest3⟩
   ·exfalso;simp_all
   have hl3:=congrArg List.length hg3;simp only[xaa,xab] at hl3;have hl3b:=hcl i (by omega);refine xaP sl34 .none rfl rfl rfl rfl (Pat.cs_at' hg3) rfl ?_;refine evs [8] [] ?_;refine ab 3012 tz36 ?_;refine so ty36 ?_;refine tv ?_;refine ab 3013 tz36 ?_;refine so ty36 ?_;refine tv ?_;refine Walk.call (cr:=[77]) zpW (zfV (xs:=q.kids) (by omega)) rfl .none rfl rfl (LeL.refl _) trivial rfl rfl rfl ?_;refine evd [8] [] ?_;refine si [0] [_] sl34 tz36 ?_;refine ap sl34 zz36 rfl rfl rfl (by intro x hx;first|(simp at hx;subst hx;rfl)|exact zhg _ x hx) (by first|(simp;omega)|(simp only[Pat.cs_len,xaa,xab,xai];omega)) ?_;refine evd [8] [] ?_;refine so ty34 ?_;refine dr ?_;refine si [0] [_] sl34 tz36 ?_;refine ap sl34 zz36 rfl rfl rfl (by intro x hx;first|(simp at hx;subst hx;rfl)|exact zcm _ x hx) (by first|(simp;omega)|(have h10:=hgl pre3 q;have h8:=congrArg List.length hg2;have h9:=congrArg List.length hg3;have h7:=zot (hgl (zaJ (nth p.kids i))) pre2;have h6:=hfl i;have h5:=hcl i (by omega);simp only[xaa,xab,xac,xai] at *;have h4:pre2.length*(zaJ (nth p.kids i)).length<=40*40:=Nat.mul_le_mul (by omega) (by omega);omega)) ?_;refine asg ?_;refine tv ?_;refine ar ?_;refine xah ((pre3++[y],rest3)) ⟨(by have hz:=hg3;rw[<-hz];simp),(by simp),sx ⟨⟨_,rfl,xax ?_⟩,⟨⟨_,rfl,LeA.glg ?_⟩,trivial⟩⟩ ⟨zag ?_,trivial⟩⟩;iterate 3 focus (first|(simp[zdH];omega)|(simp[zdH,zk5,ziL,mk_n,mk_m,zkr,zey,xaz];done))
   have hrest3:rest3=[]:=by
    rcases rest3 with _|⟨a,b⟩
    ·rfl
    ·exfalso;have hz:=congrArg List.length (hg3);simp only[xaa,xab,xac] at hz;omega
   subst hrest3;refine ar ?_;refine xah ((pre2++[q],rest2)) ⟨(by have hz:=hg2;rw[<-hz];simp),(by simp),sx ⟨⟨_,rfl,xax ?_⟩,⟨⟨_,rfl,LeA.glg ?_⟩,trivial⟩⟩ ⟨zag ?_,trivial⟩⟩;iterate 3 focus (first|(simp;done)|(rw[List.append_nil] at hg3;rw[List.flatMap_append,xaf];simp[zdH,<-hg3];done))
   have hrest2:rest2=[]:=by
    rcases rest2 with _|⟨a,b⟩
    ·rfl
    ·exfalso;have hz:=congrArg List.length (hg2);simp only[xaa,xab,xac] at hz;omega
   subst hrest2;refine CWp.tokRen 4 3 9 rfl rfl (by kernel_rfl) ?_;refine evc [8] [] ?_;refine ar ?_;rw[List.append_nil] at hg2;refine xah (i+1) ⟨(by omega),(by omega),sx ⟨⟨_,rfl,xax ?_⟩,⟨⟨_,rfl,LeA.glg ?_⟩,⟨⟨_,rfl,.any _⟩,trivial⟩⟩⟩ ⟨zag ?_,trivial⟩⟩;iterate 3 focus (first|rfl|(rw[<-hfn i (by omega),<-hg2];done))
   refine rn [(9,some (.tok (Pat.cs SP).length 6))] (r1 rfl) (.glg ?_) ⟨rfl,rfl⟩ (SubH.get ⟨?_,trivial⟩) (zaE rfl);rotate_left 2;all_goals ((((rw[<-hfe i (by omega),show Pat.cs (zcs p i)=(zcs p i).map Pat.cc from xaz _];all_goals rfl));done))
def zdQ (p:Pat):List Pat:=if (zaJ (zaQ p)).length<=40 then zaJ (zaQ p) else []
def zc2 (p:Pat):Bool:=decide ((zaJ (zaQ p)).length<=40)
theorem zpc {w:List Data}{n:Nat}{t:Ty}{p:Pat} (h:zau w n t p=true) (hok:p.ok):FnD Tryz.prog 124 [.agg [.d (.i p.op),.d (.i p.ctor),.d (.i p.n),.d (.i p.m),.d (.i p.var),.d (zaj p.kids)]] [] (.tup [.d (zaj (zdQ p)),.d (.bool (zc2 p))]) []:=by
 have hb:=zh8 n h;have hbo:=zkS p hok;have hce:=(zmo n hb).1;have hbp:=zc8 _ (Nat.le_refl _) hok;have hcs:=zee _ (Nat.le_refl _) hbo;have hsp:=fun h40=>FnD.glD (zeT n hb hbo h40);rw[hce] at hcs;unfold zdQ zc2;generalize zaQ p=b at *;by_cases h40:(zaJ b).length<=40
 ·rw[if_pos h40,decide_eq_true h40];have hc40:cap ((zaJ b).length:Int)<=40:=by unfold cap;split<;>omega
  refine bd Tryz.f124 12 [] [] fun w0 F0 own kept hk=>?_;refine bx 3001 ?_;refine ev ?_;refine wc zj1 (hbp) rfl rfl ?_;refine ab 3004 tz36 ?_;refine so ty36 ?_;refine tv ?_;refine wc zme (hcs) rfl rfl ?_;refine ev ?_;refine sq ?_ ?_<;>intro h1 h1p h1s<;>(try simp only[Q] at h1p);exfalso;omega;refine wc zmf (hsp h40) rfl rfl ?_;refine ev ?_;refine rn0 (r2 rfl rfl) (.tup (.cons (.eqd ?_) (.cons (.eqd ?_) .nil)));rotate_left 2;all_goals (rfl)
 ·rw[if_neg h40,decide_eq_false h40];have hc40:¬cap ((zaJ b).length:Int)<=40:=by unfold cap;split<;>omega
  refine bd Tryz.f124 12 [] [] fun w0 F0 own kept hk=>?_;refine bx 3001 ?_;refine ev ?_;refine wc zj1 (hbp) rfl rfl ?_;refine ab 3004 tz36 ?_;refine so ty36 ?_;refine tv ?_;refine wc zme (hcs) rfl rfl ?_;refine ev ?_;refine sq ?_ ?_<;>intro h1 h1p h1s<;>(try simp only[Q] at h1p);refine rn0 (r2 rfl rfl) (.tup (.cons (.nild ?_) (.cons (.eqd ?_) .nil)));rotate_left 2;exfalso;omega;all_goals (rfl)
structure Spa (w:List Data):Prop where
 dp:Dp w
 ctors:∀t,InS (w.length*4) t->(zaA w t).length<=4/\(zaA w t).Nodup
 args:∀t c,InS (w.length*4) t->c∈zaA w t->(zad w t c).length<=3
theorem zj6 (k:Int):∀(l:List Ctor) (i:Nat),(za1 k i l).Pairwise (· < ·)
 | [],_=>by simp[za1]
 |x::r,i=>by
  unfold za1;have ih:=zj6 k r (i+1);split
  ·refine List.pairwise_cons.2 ⟨fun y hy=>?_,ih⟩;obtain⟨j,rfl,h1,_⟩:=zgD k r (i+1) y hy;omega
  ·exact ih
theorem zhD {w:List Data} (hs:WSmall w) (hv:zbC w=true):Spa w:=by
 have hd:=zq6 hs hv;have hW:=(zdz w).1 hv;refine⟨hd,fun t ht=>?_,fun t c ht hc=>?_⟩
 ·unfold zaA;split
  ·simp
  ·rename_i he;refine⟨?_,(zj6 _ _ _).imp (fun h=>by omega)⟩;rcases ht with h|⟨h1,h2⟩
   ·exact absurd h he
   ·have:=hd.ct _ h1;rw[h2] at this;exact this
 ·have hti:=zbE ht;obtain⟨d,h1,h2,j,h3,h4⟩:=zcY (a:=t.data) (k:=t.index) hti hc;have hco:=hW.ctor _ (zai h2) _ (zai h4);simp only[zbW,xad,decide_eq_true_eq] at hco;unfold zad;rw[h1,h3];simp only[Int.toNat_natCast,xac];omega
abbrev intQ (n m:Int):Pat:= .mk 3 0 n m 0 []
abbrev zbU (c:Int) (l:List Pat):Pat:= .mk 4 c 0 0 0 l
def zcg (w:List Data) (t:Ty) (c:Int):Pat:=zbU c ((zad w t c).map fun _=>anyQ)
def lowQ (p:Pat):Int:=if p.op=1 then 0 else p.n
def zdh (p:Pat):Int:=if p.op=1 then 9 else p.m
def minQ (a b:Int):Int:=if b<a then b else a
def maxQ (a b:Int):Int:=if a<b then b else a
def zcf (n m:Int):List Pat:=if n<=m then [intQ n m] else []
def zcL (f:Pat->Pat->Option Pat):List Pat->List Pat->List Pat->Option (List Pat)
 |p::r,q::s,acc=>match f p q with
  |none=>none
  |some x=>zcL f r s (acc++[x])
 |_,_,acc=>some acc
def zaU:Nat->Pat->Pat->Option Pat
 |0,_,_=>none
 |n+1,a,b=>if a.op=1 then some b else if b.op=1 then some a else if a.op=3 then (if maxQ a.n b.n<=minQ a.m b.m then some (intQ (maxQ a.n b.n) (minQ a.m b.m)) else none)
  else if a.ctor=b.ctor then (zcL (zaU n) a.kids b.kids []).map (zbU a.ctor) else none
def zbb (f:Ty->Pat->Pat->List Pat) (c:Int):List Ty->List Pat->List Pat->List Pat->List Pat
 |u::r,x::s,y::q,front=>(f u x y).map (fun z=>zbU c (front++[z]++s))++(match zaU 11 x y with
  |none=>[]
  |some both=>zbb f c r s q (front++[both]))
 |_,_,_,_=>[]
def zdj (f:Ty->Pat->Pat->List Pat) (w:List Data) (t:Ty) (a b:Pat):List Pat:=if a.ctor=b.ctor then zbb f a.ctor (zad w t a.ctor) a.kids b.kids [] else [a]
def zeP (a b:Pat):List Pat:=zcf (lowQ a) (minQ (zdh a) (b.n-1))++zcf (maxQ (lowQ a) (b.m+1)) (zdh a)
def zaB (w:List Data):Nat->Ty->Pat->Pat->List Pat
 |0,_,_,_=>[]
 |n+1,t,a,b=>if b.op=1 then [] else if b.op=3 then zeP a b else if a.op=1 then (zaA w t).flatMap fun c=>zdj (zaB w n) w t (zcg w t c) b else zdj (zaB w n) w t a b
section
variable {w:List Data}{n:Nat}{t:Ty}{a b:Pat}
theorem ziJ (h:b.op=1):zaB w (n+1) t a b=[]:=by unfold zaB;rw[if_pos h]
theorem zk3 (h:b.op=3):zaB w (n+1) t a b=zeP a b:=by unfold zaB;rw[if_neg (by omega),if_pos h]
theorem ziK (h:b.op=4) (h2:a.op=1):zaB w (n+1) t a b=(zaA w t).flatMap fun c=>zdj (zaB w n) w t (zcg w t c) b:=by
 conv=>lhs;unfold zaB
 rw[if_neg (by omega),if_neg (by omega),if_pos h2]
theorem zex (h:b.op=4) (h2:a.op=4):zaB w (n+1) t a b=zdj (zaB w n) w t a b:=by
 conv=>lhs;unfold zaB
 rw[if_neg (by omega),if_neg (by omega),if_neg (by omega)]
theorem zmU (h:a.op=1):zaU (n+1) a b=some b:=by unfold zaU;rw[if_pos h]
theorem zmV (h:a.op≠1) (h2:b.op=1):zaU (n+1) a b=some a:=by unfold zaU;rw[if_neg h,if_pos h2]
theorem zmW (h:a.op=3) (h2:b.op≠1):zaU (n+1) a b=if maxQ a.n b.n<=minQ a.m b.m then some (intQ (maxQ a.n b.n) (minQ a.m b.m)) else none:=by
 conv=>lhs;unfold zaU
 rw[if_neg (by omega),if_neg h2,if_pos h]
theorem zmX (h:a.op=4) (h2:b.op≠1) (hc:a.ctor=b.ctor):zaU (n+1) a b=(zcL (zaU n) a.kids b.kids []).map (zbU a.ctor):=by
 conv=>lhs;unfold zaU
 rw[if_neg (by omega),if_neg h2,if_neg (by omega),if_pos hc]
theorem zk2 (h:a.op=4) (h2:b.op≠1) (hc:¬a.ctor=b.ctor):zaU (n+1) a b=none:=by
 conv=>lhs;unfold zaU
 rw[if_neg (by omega),if_neg h2,if_neg (by omega),if_neg hc]
end
theorem zcy {w:List Data}{n:Nat}{t:Ty}{p:Pat} (h:zaq w n t p=true) (h3:p.op=3):t.data = -1/\0<=p.n/\p.n<=p.m/\p.m<=9:=by
 have ho:=(zhv h).1;unfold ownP at ho;have:=(of_decide_eq_true ho).2.2.2.2;omega
theorem zba {w:List Data}{n:Nat}{t:Ty}{p:Pat} (h:zaq w n t p=true) (h4:p.op=4):p.ctor∈zaA w t/\t.data≠ -1/\p.kids.length=(zad w t p.ctor).length/\p=zbU p.ctor p.kids:=by
 obtain⟨ho,hl⟩:=zhv h;have hm:=zck ho h4;refine⟨hm,fun e=>by unfold zaA at hm;rw[if_pos e] at hm;simp at hm,by rw[zbe h4] at hl;exact hl, ?_⟩;unfold ownP at ho;have hh:=of_decide_eq_true ho;have h1:=hh.2.1 (by omega);have h2:=hh.2.2.1 (by omega);obtain⟨op,c,m,k,v,ks⟩:=p;change op=4 at h4
 change v=0 at h1
 change m=0/\k=0 at h2
 rw[h4,h1,h2.1,h2.2];rfl
theorem zoD {w:List Data}{n:Nat}{t:Ty}{a b:Int} (ht:t.data = -1) (h0:0<=a) (h1:a<=b) (h2:b<=9):zaq w (n+1) t (intQ a b)=true:=by
 unfold zaq;have e:zah w t (intQ a b)=[]:=rfl;rw[e];have ho:ownP w t (intQ a b)=true:=by
  unfold ownP;refine decide_eq_true ⟨fun h=>?_,fun _=>rfl,fun h=>absurd rfl h,fun _=>rfl,.inr (.inr (.inr (.inr (.inl ⟨rfl,ht,h0,h1,h2⟩))))⟩;exfalso;change (3:Int)=2\/(3:Int)=6 at h;omega
 rw[ho];rfl
theorem zi2 {w:List Data}{n:Nat}{t:Ty}{c:Int}{l:List Pat} (hc:c∈zaA w t) (hl:l.length=(zad w t c).length) (hk:∀i,i<l.length->zaq w n (nth (zad w t c) i) (nth l i)=true):zaq w (n+1) t (zbU c l)=true:=by
 unfold zaq;have e:zah w t (zbU c l)=zad w t c:=zbe rfl;have ho:ownP w t (zbU c l)=true:=by
  unfold ownP;refine decide_eq_true ⟨fun h=>?_,fun _=>rfl,fun _=>⟨rfl,rfl⟩,fun h=>absurd rfl h,.inr (.inr (.inr (.inr (.inr ⟨rfl,hc⟩))))⟩;exfalso;change (4:Int)=2\/(4:Int)=6 at h;omega
 rw[ho,e,zey];exact zbn hl.symm (fun i hi=>hk i (by omega))
theorem zk6 {w:List Data}{n m:Nat} (h:n<=m){t:Ty}{p:Pat} (hp:zaq w n t p=true):zaq w m t p=true:=by
 induction h with
 |refl=>exact hp
 |step _ ih=>exact zgv _ ih
theorem zdT {w:List Data}{n:Nat}{t:Ty}{c:Int} (hc:c∈zaA w t):zaq w (n+2) t (zcg w t c)=true:=by
 unfold zcg;refine zi2 hc (by simp) (fun i hi=>?_);have e:nth ((zad w t c).map fun _=>anyQ) i=anyQ:=by
  rw[zbc hi];simp
 rw[e];exact zjW
theorem zmS {f:Pat->Pat->Option Pat}{a b:List Pat}{i:Nat}{acc:List Pat} (h1:i<a.length) (h2:i<b.length) (h:f (nth a i) (nth b i)=none):zcL f (a.drop i) (b.drop i) acc=none:=by
 rw[zaW h1,zaW h2,zcL,h]
theorem zmT {f:Pat->Pat->Option Pat}{a b:List Pat}{i:Nat}{acc:List Pat}{x:Pat} (h1:i<a.length) (h2:i<b.length) (h:f (nth a i) (nth b i)=some x):zcL f (a.drop i) (b.drop i) acc=zcL f (a.drop (i+1)) (b.drop (i+1)) (acc++[x]):=by
 rw[zaW h1,zaW h2,zcL,h]
theorem ze7 {f:Pat->Pat->Option Pat}{a b:List Pat}{i:Nat}{acc:List Pat} (h1:a.length<=i):zcL f (a.drop i) (b.drop i) acc=some acc:=by
 rw[List.drop_eq_nil_of_le h1];cases b.drop i<;>rfl
theorem zjg {f:Pat->Pat->Option Pat}:∀ {a b acc l:List Pat},a.length=b.length->zcL f a b acc=some l->∃r,l=acc++r/\r.length=a.length/\∀i,i<a.length->f (nth a i) (nth b i)=some (nth r i)
 | [],[],acc,l,_,h=>by
  simp only[zcL,Option.some.injEq] at h;exact⟨[],by simp[h],rfl,fun i hi=>by simp at hi⟩
 |p::r,q::s,acc,l,hl,h=>by
  unfold zcL at h;cases hf:f p q with
  |none=>rw[hf] at h;cases h
  |some x=>
   rw[hf] at h;obtain⟨z,e,hz,hm⟩:=zjg (a:=r) (b:=s) (by simpa using hl) h;refine⟨x::z,by rw[e];simp,by simp[hz],fun i hi=>?_⟩;cases i with
   |zero=>exact hf
   |succ i=>exact hm i (by simpa using hi)
 | [],_::_,_,_,hl,_=>by simp at hl
 |_::_,[],_,_,hl,_=>by simp at hl
theorem zdS {w:List Data}{n m:Nat}{t:Ty}{a b:Pat} (ha:zaq w n t a=true) (hb:zaq w m t b=true) (h1:a.op≠1) (h2:b.op≠1):a.op=b.op:=by
 have oa:=zcd ha;have ob:=zcd hb;rcases oa with h|h|h
 ·exact absurd h h1
 ·rcases ob with h' | h' | h'
  ·exact absurd h' h2
  ·omega
  ·exact absurd (zcy ha h).1 (zba hb h').2.1
 ·rcases ob with h' | h' | h'
  ·exact absurd h' h2
  ·exact absurd (zcy hb h').1 (zba ha h).2.1
  ·omega
theorem zu0 (a b:Int):minQ a b<=a/\minQ a b<=b:=by unfold minQ;split<;>omega
theorem zuY (a b:Int):a<=maxQ a b/\b<=maxQ a b:=by unfold maxQ;split<;>omega
theorem zu1 (a b:Int):minQ a b=a\/minQ a b=b:=by unfold minQ;split<;>omega
theorem zuZ (a b:Int):maxQ a b=a\/maxQ a b=b:=by unfold maxQ;split<;>omega
theorem zoH {w:List Data}:∀(n m:Nat){t:Ty}{a b x:Pat},zaq w m t a=true->zaq w m t b=true->zaU n a b=some x->zaq w m t x=true
 |0,m,t,a,b,x,_,_,h=>by simp[zaU] at h
 |n+1,0,t,a,b,x,ha,_,_=>by simp[zaq] at ha
 |n+1,m+1,t,a,b,x,ha,hb,h=>by
  by_cases h1:a.op=1
  ·rw[zmU h1] at h;cases h;exact hb
  by_cases h2:b.op=1
  ·rw[zmV h1 h2] at h;cases h;exact ha
  have hs:=zdS ha hb h1 h2;have oa:=zcd ha;by_cases h3:a.op=3
  ·rw[zmW h3 h2] at h;split at h
   ·cases h
    have ia:=zcy ha h3;have ib:=zcy hb (by omega);have q1:=zu1 a.m b.m;have q2:=zuZ a.n b.n;refine zoD ia.1 (by omega) (by assumption) (by omega)
   ·cases h
  have h4:a.op=4:=by omega
  by_cases hc:a.ctor=b.ctor
  ·rw[zmX h4 h2 hc] at h;obtain⟨m1,m2,m3,m4⟩:=zba ha h4;obtain⟨n1,n2,n3,n4⟩:=zba hb (by omega);rw[<-hc] at n3;cases hl:zcL (zaU n) a.kids b.kids [] with
   |none=>rw[hl] at h;cases h
   |some l=>
    rw[hl] at h;simp only[Option.map_some,Option.some.injEq] at h;subst h;obtain⟨r,e,hr,hm⟩:=zjg (by omega) hl;rw[List.nil_append] at e;subst e;refine zi2 m1 (by omega) (fun i hi=>?_);have ka:=zbs ha (i:=i) (by omega);have kb:=zbs hb (i:=i) (by omega);rw[zbe h4] at ka;rw[zbe (by omega),<-hc] at kb;exact zoH n m ka kb (hm i (by omega))
  ·rw[zk2 h4 h2 hc] at h;cases h
theorem znd {w:List Data}{n:Nat}{t:Ty}{a b:Int} (ht:t.data = -1) (h0:0<=a) (h2:b<=9):∀x∈zcf a b,zaq w (n+1) t x=true:=by
 intro x hx;unfold zcf at hx;split at hx
 ·rename_i h1;rw[List.mem_singleton] at hx;rw[hx];exact zoD ht h0 h1 h2
 ·simp at hx
theorem zqq {w:List Data}{n:Nat}{t:Ty}{a:Pat} (ha:zaq w n t a=true) (ht:t.data = -1):0<=lowQ a/\zdh a<=9/\lowQ a<=zdh a:=by
 have oa:=zcd ha;unfold lowQ zdh;by_cases h1:a.op=1
 ·rw[if_pos h1,if_pos h1];omega
 ·rw[if_neg h1,if_neg h1];by_cases h3:a.op=3
  ·have:=zcy ha h3;omega
  ·exact absurd ht (zba ha (by omega)).2.1
theorem zsa (a b:Pat):(zeP a b).length<=2:=by
 have h:∀x y,(zcf x y).length<=1:=fun x y=>by unfold zcf;split<;>simp
 unfold zeP;rw[xaa];have:=h (lowQ a) (minQ (zdh a) (b.n-1));have:=h (maxQ (lowQ a) (b.m+1)) (zdh a);omega
theorem zri {w:List Data}{f:Ty->Pat->Pat->List Pat}{m:Nat}{t:Ty}{c:Int} (hc:c∈zaA w t) (hf:∀u x y,zaq w m u x=true->zaq w m u y=true->∀z∈f u x y,zaq w m u z=true):
  ∀(i:Nat){xs bs front:List Pat},front.length=i->xs.length+i=(zad w t c).length->bs.length=xs.length->(∀j,j<i->zaq w m (nth (zad w t c) j) (nth front j)=true)->
   (∀j,j<xs.length->zaq w m (nth (zad w t c) (i+j)) (nth xs j)=true/\zaq w m (nth (zad w t c) (i+j)) (nth bs j)=true)->
   ∀x∈zbb f c ((zad w t c).drop i) xs bs front,zaq w (m+1) t x=true:=by
 intro i xs;induction xs generalizing i with
 |nil=>
  intro bs front _ _ _ _ _ x hx;cases hT:(zad w t c).drop i<;>(rw[hT] at hx;simp[zbb] at hx)
 |cons a0 s ih=>
  intro bs front hfl hal hbl hfr hab x hx;cases bs with
  |nil=>simp at hbl
  |cons b0 q=>
   have hi:i<(zad w t c).length:=by simp at hal;omega
   rw[zaW hi] at hx;have h0:=hab 0 (by simp);simp only[Nat.add_zero] at h0;have e0:nth (a0::s) 0=a0:=rfl;have e1:nth (b0::q) 0=b0:=rfl;rw[e0,e1] at h0;unfold zbb at hx;have hpiece:∀z,zaq w m (nth (zad w t c) i) z=true->∀j,j<(front++[z]++s).length->zaq w m (nth (zad w t c) j) (nth (front++[z]++s) j)=true:=fun z hz j hj=>by
    by_cases hj1:j<i
    ·have e:nth (front++[z]++s) j=nth front j:=by
      simp only[nth,List.getD,List.append_assoc];rw[List.getElem?_append_left (by omega)]
     rw[e];exact hfr j hj1
    ·by_cases hj2:j=i
     ·have e:nth (front++[z]++s) j=z:=by
       simp only[nth,List.getD,List.append_assoc];rw[List.getElem?_append_right (by omega),show j-front.length=0 by omega];rfl
      rw[e,hj2];exact hz
     ·obtain⟨k,rfl⟩:∃k,j=i+1+k:=⟨j-(i+1),by omega⟩;have e:nth (front++[z]++s) (i+1+k)=nth (a0::s) (k+1):=by
       simp only[nth,List.getD,List.append_assoc];rw[List.getElem?_append_right (by omega),show i+1+k-front.length=k+1 by omega];rfl
      rw[e];have:=(hab (k+1) (by simp at hj ⊢;omega)).1;rwa [show i+(k+1)=i+1+k by omega] at this
   rcases List.mem_append.1 hx with hx|hx
   ·obtain⟨z,hz,rfl⟩:=List.mem_map.1 hx;refine zi2 hc (by simp at hal ⊢;omega) (hpiece z (hf _ _ _ h0.1 h0.2 z hz))
   ·cases hm:zaU 11 a0 b0 with
    |none=>rw[hm] at hx;simp at hx
    |some both=>
     rw[hm] at hx;have hbp:=zoH 11 m h0.1 h0.2 hm;refine ih (i+1) (bs:=q) (front:=front++[both]) (by simp[hfl]) (by simp at hal ⊢;omega) (by simpa using hbl) (fun j hj=>?_) (fun j hj=>?_) x hx
     ·have:=hpiece both hbp j (by simp;omega);have e:nth (front++[both]++s) j=nth (front++[both]) j:=by
       simp only[nth,List.getD];rw[List.getElem?_append_left (by simp;omega)]
      rwa [e] at this
     ·have:=hab (j+1) (by simpa using hj);rwa [show i+(j+1)=i+1+j by omega] at this
theorem zgZ {w:List Data}:∀(n m:Nat){t:Ty}{a b:Pat},n<m->zaq w m t a=true->zaq w n t b=true->∀x∈zaB w n t a b,zaq w m t x=true
 |0,m,t,a,b,_,_,hb=>by simp[zaq] at hb
 |n+1,0,t,a,b,hn,_,_=>by omega
 |n+1,m+1,t,a,b,hn,ha,hb=>by
  have ob:=zcd hb;have oa:=zcd ha;have hf:∀u x y,zaq w m u x=true->zaq w n u y=true->∀z∈zaB w n u x y,zaq w m u z=true:=fun u x y hx hy=>zgZ n m (by omega) hx hy;have hcc:∀a,zaq w (m+1) t a=true->a.op=4->b.op=4->∀x∈zdj (zaB w n) w t a b,zaq w (m+1) t x=true:=fun a ha h4 h4b=>by
   obtain⟨m1,m2,m3,m4⟩:=zba ha h4;obtain⟨n1,n2,n3,n4⟩:=zba hb h4b;intro x hx;unfold zdj at hx;split at hx
   ·rename_i hc;have key:=zri (w:=w) (f:=fun u x y=>if zaq w m u x=true/\zaq w n u y=true then zaB w n u x y else []) (m:=m) (t:=t) (c:=a.ctor) m1 (fun u x y hx hy z hz=>by
     split at hz
     ·rename_i hh;exact hf u x y hh.1 hh.2 z hz
     ·simp at hz) 0 (xs:=a.kids) (bs:=b.kids) (front:=[]) rfl (by omega) (by rw[hc] at m3;omega) (fun j hj=>by omega) (fun j hj=>by
      have ka:=zbs ha (i:=j) hj;have kb:=zbs hb (i:=j) (by rw[hc] at m3;omega);rw[zbe h4] at ka;rw[zbe h4b,<-hc] at kb;rw[Nat.zero_add];exact⟨ka,zk6 (by omega) kb⟩) x
    refine key ?_;have e:∀(ts:List Ty) (xs bs front:List Pat),(∀j,j<ts.length->j<xs.length->j<bs.length->zaq w m (nth ts j) (nth xs j)=true/\zaq w n (nth ts j) (nth bs j)=true)->
      zbb (fun u x y=>if zaq w m u x=true/\zaq w n u y=true then zaB w n u x y else []) a.ctor ts xs bs front=zbb (zaB w n) a.ctor ts xs bs front:=by
     intro ts;induction ts with
     |nil=>intro xs bs front _;simp[zbb]
     |cons u r ih=>
      intro xs bs front h;cases xs with
      |nil=>simp[zbb]
      |cons x s=>
       cases bs with
       |nil=>simp[zbb]
       |cons y q=>
        have h0:=h 0 (by simp) (by simp) (by simp);change zaq w m u x=true/\zaq w n u y=true at h0
        unfold zbb;rw[if_pos h0];congr 1
        cases hmm:zaU 11 x y with
        |none=>rfl
        |some both=>exact ih s q (front++[both]) (fun j h1 h2 h3=>h (j+1) (by simpa using h1) (by simpa using h2) (by simpa using h3))
    rw[List.drop_zero,e _ _ _ _ (fun j h1 h2 h3=>?_)]
    ·exact hx
    ·have ka:=zbs ha (i:=j) h2;have kb:=zbs hb (i:=j) h3;rw[zbe h4] at ka;rw[zbe h4b,<-hc] at kb;exact⟨ka,kb⟩
   ·rw[List.mem_singleton] at hx;rw[hx];exact ha
  rcases ob with h1|h3|h4
  ·rw[ziJ h1];simp
  ·rw[zk3 h3];intro x hx;have hl:=zqq ha (zcy hb h3).1;have ib:=zcy hb h3;have q1:=zu0 (zdh a) (b.n-1);have q2:=zuY (lowQ a) (b.m+1);unfold zeP at hx;rcases List.mem_append.1 hx with h|h
   ·exact znd ib.1 (by omega) (by omega) x h
   ·exact znd ib.1 (by omega) (by omega) x h
  ·by_cases ha1:a.op=1
   ·rw[ziK h4 ha1];intro x hx;obtain⟨c,hc,hx⟩:=List.mem_flatMap.1 hx;refine hcc _ ?_ rfl h4 x hx;obtain⟨k,rfl⟩:∃k,m=k+1:=⟨m-1,by omega⟩;exact zdT hc
   ·have ha4:a.op=4:=by
     have:=zdS ha hb ha1 (by omega);omega
    rw[zex h4 ha4];exact hcc a ha ha4 h4
theorem zf3 {w:List Data} (hs:Spa w):∀(n:Nat){t:Ty}{p:Pat},InS (w.length*4) t->zaq w n t p=true->p.ok/\p.size<=4 ^ n
 |0,t,p,_,h=>by simp[zaq] at h
 |n+1,t,p,ht,h=>by
  have hk:=fun i (hi:i<p.kids.length)=>zbs h hi;have hl:=(zhv h).2;have op:=zcd h;have hpow:4 ^ (n+1)=4 ^ n*4:=rfl;have hpos:0<4 ^ n:=Nat.pow_pos (by omega);by_cases h4:p.op=4
  ·obtain⟨m1,m2,m3,m4⟩:=zba h h4;have h3:=hs.args t p.ctor ht m1;rw[zbe h4] at hk;have ih:∀k∈p.kids,k.ok/\k.size<=4 ^ n:=fun k hkm=>by
    obtain⟨i,hi,rfl⟩:=List.getElem_of_mem hkm;have e:nth p.kids i=p.kids[i]:=zbc hi;have:=zf3 hs n (zbh hs.dp ht m1 _ (zai (i:=i) (by omega))) (hk i hi);rwa [e] at this
   have hz:=Pats.size_of (m:=4 ^ n) (fun k hk=>(ih k hk).2);rw[Pat.ok_iff,Pat.size_eq];refine⟨⟨by omega,Pats.ok_of (fun k hk=>(ih k hk).1)⟩, ?_⟩;have:p.kids.length*4 ^ n<=3*4 ^ n:=Nat.mul_le_mul_right _ (by omega);omega
  ·have hk0:p.kids=[]:=zng (zg2 _ h) h4 (by omega) (by omega);rw[Pat.ok_iff,Pat.size_eq,hk0];exact⟨⟨by simp,trivial⟩,by simp only[Pats.size];omega⟩
theorem zov {α:Type}{g:Int->List α}{c0:Int}{X:Nat}:∀ {cs:List Int},cs.Nodup->(∀c∈cs,c≠c0->(g c).length<=1)->(g c0).length<=X->(cs.flatMap g).length<=cs.length+X
 | [],_,_,_=>by simp
 |c::r,hn,h1,h2=>by
  obtain⟨n1,n2⟩:=List.nodup_cons.1 hn;rw[List.flatMap_cons,xaa,xab];by_cases hc:c=c0
  ·have key:∀l:List Int,c0∉l->(∀x∈l,x≠c0->(g x).length<=1)->(l.flatMap g).length<=l.length:=by
    intro l;induction l with
    |nil=>intro _ _;simp
    |cons y s ih=>
     intro hm hh;rw[List.flatMap_cons,xaa,xab];have a1:=hh y (by simp) (fun e=>hm (by rw[e];simp));have a2:=ih (fun e=>hm (by simp[e])) (fun x hx=>hh x (by simp[hx]));omega
   have:=key r (by rw[<-hc];exact n1) (fun x hx=>h1 x (by simp[hx]));rw[hc];omega
  ·have a1:=h1 c (by simp) hc;have a2:=zov (X:=X) n2 (fun x hx=>h1 x (by simp[hx])) h2;omega
theorem zmZ {f:Ty->Pat->Pat->List Pat}{c:Int} (L:Pat->Nat):∀(ts:List Ty) (xs bs front:List Pat),(∀i,i<ts.length->i<xs.length->i<bs.length->(f (nth ts i) (nth xs i) (nth bs i)).length<=L (nth bs i))->(zbb f c ts xs bs front).length<=(bs.map L).sum
 | [],xs,bs,front,_=>by simp[zbb]
 |_::_,[],bs,front,_=>by simp[zbb]
 |_::_,_::_,[],front,_=>by simp[zbb]
 |u::r,x::s,y::q,front,h=>by
  have h0:=h 0 (by simp) (by simp) (by simp);change (f u x y).length<=L y at h0
  unfold zbb;rw[xaa,xac,xae,List.sum_cons];cases hm:zaU 11 x y with
  |none=>simp;omega
  |some both=>
   have:=zmZ (c:=c) L r s q (front++[both]) (fun i h1 h2 h3=>h (i+1) (by simpa using h1) (by simpa using h2) (by simpa using h3));dsimp only;omega
theorem zr9 {w:List Data}{f:Ty->Pat->Pat->List Pat}{t:Ty}{a b:Pat}{L:Pat->Nat} (h:∀i,i<(zad w t a.ctor).length->i<a.kids.length->i<b.kids.length->(f (nth (zad w t a.ctor) i) (nth a.kids i) (nth b.kids i)).length<=L (nth b.kids i)):
  (zdj f w t a b).length<=if a.ctor=b.ctor then (b.kids.map L).sum else 1:=by
 unfold zdj;split
 ·exact zmZ L _ _ _ _ h
 ·simp
theorem sum4:∀l:List Pat,(l.map fun b=>4*b.size).sum=4*Pats.size l
 | []=>rfl
 |k::r=>by simp only[xae,List.sum_cons,Pats.size,sum4 r];omega
theorem zoI {w:List Data} (hs:Spa w):∀(n m:Nat){t:Ty}{a b:Pat},n<m->InS (w.length*4) t->zaq w m t a=true->zaq w n t b=true->(zaB w n t a b).length<=4*b.size
 |0,m,t,a,b,_,_,_,hb=>by simp[zaq] at hb
 |n+1,0,t,a,b,hn,_,_,_=>by omega
 |n+1,m+1,t,a,b,hn,ht,ha,hb=>by
  have ob:=zcd hb;have hz:=Pat.size_eq b;rcases ob with h1|h3|h4
  ·rw[ziJ h1];simp
  ·rw[zk3 h3];have:=zsa a b;omega
  ·obtain⟨n1,n2,n3,n4⟩:=zba hb h4;have hcc:∀a,zaq w (m+1) t a=true->a.op=4->(zdj (zaB w n) w t a b).length<=if a.ctor=b.ctor then 4*Pats.size b.kids else 1:=fun a ha h4a=>by
    obtain⟨m1,m2,m3,m4⟩:=zba ha h4a;rw[<-sum4];by_cases hc:a.ctor=b.ctor
    ·have:=zr9 (w:=w) (f:=zaB w n) (t:=t) (a:=a) (b:=b) (L:=fun b=>4*b.size) (fun i h1 h2 h3=>by
      have ka:=zbs ha (i:=i) h2;have kb:=zbs hb (i:=i) h3;rw[zbe h4a] at ka;rw[zbe h4,<-hc] at kb;exact zoI hs n m (by omega) (zbh hs.dp ht m1 _ (zai h1)) ka kb)
     exact this
    ·unfold zdj;rw[if_neg hc,if_neg hc];simp
   by_cases ha1:a.op=1
   ·rw[ziK h4 ha1];obtain⟨c1,c2⟩:=hs.ctors t ht;have hw:∀c,c∈zaA w t->(zdj (zaB w n) w t (zcg w t c) b).length<=if c=b.ctor then 4*Pats.size b.kids else 1:=fun c hc=>by
     obtain⟨k,rfl⟩:∃k,m=k+1:=⟨m-1,by omega⟩;exact hcc _ (zdT hc) rfl
    have:=zov (g:=fun c=>zdj (zaB w n) w t (zcg w t c) b) (c0:=b.ctor) (X:=4*Pats.size b.kids) c2 (fun c hc hne=>by have:=hw c hc;rwa [if_neg hne] at this) (by have:=hw _ n1;rwa [if_pos rfl] at this);omega
   ·have ha4:a.op=4:=by have:=zdS ha hb ha1 (by omega);omega
    rw[zex h4 ha4];have:=hcc a ha ha4;split at this<;>omega
theorem zma {α β:Type} [Inhabited α] [Inhabited β]{f:α->β->Bool}:∀ {a:List α}{b:List β},a.length=b.length->all2 f a b=false->∃i,i<a.length/\f (nth a i) (nth b i)=false
 | [],[],_,h=>by simp[all2] at h
 |x::r,y::s,hl,h=>by
  simp only[all2,Bool.and_eq_false_iff] at h;rcases h with h|h
  ·exact⟨0,by simp,h⟩
  ·obtain⟨i,h1,h2⟩:=zma (by simpa using hl) h;exact⟨i+1,by simpa using h1,h2⟩
 | [],_::_,hl,_=>by simp at hl
 |_::_,[],hl,_=>by simp at hl
theorem ziA {w:List Data}{f:Nat->Nat}{n:Nat}{t:Ty}{p:Pat} (h:p.op=1):zax w f (n+1) t p=decide (dv f t=0):=by rw[za6,if_pos (.inl h)]
theorem znC {w:List Data}{f:Nat->Nat}{n m:Nat}{t:Ty}{p:Pat} (hp:zaq w m t p=true) (h:p.op=3):zax w f (n+1) t p=false:=by
 rw[za6,if_neg (by omega),if_neg (by omega)];have e:zah w t p=[]:=by unfold zah;rw[if_neg (by omega),if_neg (by omega),if_neg (by omega)]
 have hl:=(zhv hp).2;rw[e] at hl ⊢;rw[List.eq_nil_of_length_eq_zero hl];rfl
theorem znD {w:List Data}{f:Nat->Nat}{n:Nat}{t:Ty}{p:Pat} (h:p.op=4):zax w f (n+1) t p = !(all2 (fun u q=> !zax w f n u q) (zad w t p.ctor) p.kids):=by
 rw[za6,if_neg (by omega),if_neg (by omega),zbe h]
theorem zp7 {w:List Data}{f:Nat->Nat}{n m:Nat}{t:Ty}{p:Pat} (hp:zaq w m t p=true) (h:p.op=4) (hd:zax w f (n+1) t p=true):∃i,i<p.kids.length/\zax w f n (nth (zad w t p.ctor) i) (nth p.kids i)=true:=by
 rw[znD h] at hd;have hl:=(zba hp h).2.2.1;obtain⟨i,h1,h2⟩:=zma (a:=zad w t p.ctor) (b:=p.kids) (f:=fun u q=> !zax w f n u q) hl.symm (by simpa using hd);exact⟨i,by omega,by simpa using h2⟩
theorem zht {w:List Data}{f:Nat->Nat}{n:Nat}{t:Ty}{c:Int}{l:List Pat}{i:Nat} (hi:i<l.length) (hl:l.length=(zad w t c).length) (hd:zax w f n (nth (zad w t c) i) (nth l i)=true):zax w f (n+1) t (zbU c l)=true:=by
 rw[znD rfl];have:=zbm (f:=fun u q=> !zax w f n u q) (a:=zad w t c) (b:=l) (i:=i) (by omega) hl.symm (by rw[hd];rfl);show(!all2 (fun u q=> !zax w f n u q) (zad w t c) l)=true
 rw[this];rfl
theorem zwk {w:List Data} (hd:Dp w){t:Ty}{c:Int} (ht:InS (w.length*4) t) (hc:c∈zaA w t) (h0:dv (zam w) t=0):∃i,i<(zad w t c).length/\dv (zam w) (nth (zad w t c) i)=0:=by
 by_cases hx:∃i,i<(zad w t c).length/\dv (zam w) (nth (zad w t c) i)=0
 ·exact hx
 ·exfalso;have a:Snd w (zam w)/\Cmp w (w.length*4+1) (zam w):=zeg hd.cl (w.length*4+1);have hdt:t.data≠ -1:=fun e=>by unfold zaA at hc;rw[if_pos e] at hc;simp at hc
  have hb:∀u∈zad w t c,Hd w (w.length*4+1) u:=fun u hu=>by
   obtain⟨i,hi,rfl⟩:=List.getElem_of_mem hu;have hpos:0<dv (zam w) (zad w t c)[i]:=by
    have e:nth (zad w t c) i=(zad w t c)[i]:=zbc hi;rcases Nat.eq_zero_or_pos (dv (zam w) (zad w t c)[i]) with h|h
    ·exact absurd ⟨i,hi,by rw[e];exact h⟩ hx
    ·exact h
   have hin:=zbh hd ht hc _ hu;have h1:=zpz a.1 hin hpos;rcases hin with h2|⟨h2,h3⟩
   ·exact .inl h2
   ·rw[<-h3] at h1 ⊢;exact zqk hd.cl h2 h1
  have h2:Hd w (w.length*4+2) t:= .inr ⟨c,zo4 hc,hdt,hb⟩;rcases ht with h3|⟨h3,h4⟩
  ·exact hdt h3
  ·rw[<-h4] at h2;have h5:=zqk hd.cl h3 h2;rw[h4] at h5;have:=(zms a.2 (.inr ⟨h3,h4⟩) h5).1;omega
section
variable {w:List Data} (hs:Spa w)
include hs
theorem zj7:∀(n:Nat){t:Ty}{p:Pat},InS (w.length*4) t->zaq w n t p=true->dv (zam w) t=0->zax w (zam w) n t p=true
 |0,t,p,_,h,_=>by simp[zaq] at h
 |n+1,t,p,ht,h,h0=>by
  rcases zcd h with h1|h3|h4
  ·rw[ziA h1];exact decide_eq_true h0
  ·have:=(zcy h h3).1;unfold dv at h0;rw[if_pos this] at h0;omega
  ·obtain⟨m1,m2,m3,m4⟩:=zba h h4;obtain⟨i,h5,h6⟩:=zwk hs.dp ht m1 h0;rw[m4];have hk:=zbs h (i:=i) (by omega);rw[zbe h4] at hk;exact zht (by omega) m3 (zj7 n (zbh hs.dp ht m1 _ (zai h5)) hk h6)
theorem zoG:∀(n k:Nat){t:Ty}{a b x:Pat},InS (w.length*4) t->zaq w n t a=true->zaq w n t b=true->zax w (zam w) n t a=true->zaU k a b=some x->zax w (zam w) n t x=true
 |0,k,t,a,b,x,_,h,_,_,_=>by simp[zaq] at h
 |n+1,0,t,a,b,x,_,_,_,_,h=>by simp[zaU] at h
 |n+1,k+1,t,a,b,x,ht,ha,hb,hd,h=>by
  by_cases h1:a.op=1
  ·rw[zmU h1] at h;cases h;rw[ziA h1] at hd;exact zj7 hs (n+1) ht hb (of_decide_eq_true hd)
  by_cases h2:b.op=1
  ·rw[zmV h1 h2] at h;cases h;exact hd
  by_cases h3:a.op=3
  ·rw[znC ha h3] at hd;cases hd
  have h4:a.op=4:=by have:=zcd ha;omega
  have hso:=zdS ha hb h1 h2;by_cases hc:a.ctor=b.ctor
  ·rw[zmX h4 h2 hc] at h;obtain⟨m1,m2,m3,m4⟩:=zba ha h4;obtain⟨n1,n2,n3,n4⟩:=zba hb (by omega);rw[<-hc] at n3;cases hl:zcL (zaU k) a.kids b.kids [] with
   |none=>rw[hl] at h;cases h
   |some l=>
    rw[hl] at h;simp only[Option.map_some,Option.some.injEq] at h;subst h;obtain⟨r,e,hr,hm⟩:=zjg (by omega) hl;rw[List.nil_append] at e;subst e;obtain⟨i,hi,hde⟩:=zp7 ha h4 hd;have ka:=zbs ha (i:=i) hi;have kb:=zbs hb (i:=i) (by omega);rw[zbe h4] at ka;rw[zbe (by omega),<-hc] at kb;exact zht (i:=i) (by omega) (by omega) (zoG n k (zbh hs.dp ht m1 _ (zai (by omega))) ka kb hde (hm i hi))
  ·rw[zk2 h4 h2 hc] at h;cases h
theorem zrh {f:Ty->Pat->Pat->List Pat}{m:Nat}{t:Ty}{c:Int} (ht:InS (w.length*4) t) (hc:c∈zaA w t):
  ∀(i:Nat){xs bs front:List Pat},front.length=i->xs.length+i=(zad w t c).length->bs.length=xs.length->
   (∀j,j<xs.length->zaq w m (nth (zad w t c) (i+j)) (nth xs j)=true/\zaq w m (nth (zad w t c) (i+j)) (nth bs j)=true/\(zax w (zam w) m (nth (zad w t c) (i+j)) (nth xs j)=true->∀z∈f (nth (zad w t c) (i+j)) (nth xs j) (nth bs j),zax w (zam w) m (nth (zad w t c) (i+j)) z=true))->
   ((∃j,j<i/\zax w (zam w) m (nth (zad w t c) j) (nth front j)=true)\/∃j,j<xs.length/\zax w (zam w) m (nth (zad w t c) (i+j)) (nth xs j)=true)->
   ∀x∈zbb f c ((zad w t c).drop i) xs bs front,zax w (zam w) (m+1) t x=true:=by
 intro i xs;induction xs generalizing i with
 |nil=>
  intro bs front _ _ _ _ _ x hx;cases hT:(zad w t c).drop i<;>(rw[hT] at hx;simp[zbb] at hx)
 |cons a0 s ih=>
  intro bs front hfl hal hbl hab hde x hx;cases bs with
  |nil=>simp at hbl
  |cons b0 q=>
   have hi:i<(zad w t c).length:=by simp at hal;omega
   rw[zaW hi] at hx;have h0:=hab 0 (by simp);simp only[Nat.add_zero] at h0;have e0:nth (a0::s) 0=a0:=rfl;have e1:nth (b0::q) 0=b0:=rfl;rw[e0,e1] at h0;unfold zbb at hx;have f1:∀z j,j<i->nth (front++[z]++s) j=nth front j:=fun z j hj=>by
    simp only[nth,List.getD,List.append_assoc];rw[List.getElem?_append_left (by omega)]
   have f2:∀z,nth (front++[z]++s) i=z:=fun z=>by
    simp only[nth,List.getD,List.append_assoc];rw[List.getElem?_append_right (by omega),show i-front.length=0 by omega];rfl
   have f3:∀z k,nth (front++[z]++s) (i+1+k)=nth (a0::s) (k+1):=fun z k=>by
    simp only[nth,List.getD,List.append_assoc];rw[List.getElem?_append_right (by omega),show i+1+k-front.length=k+1 by omega];rfl
   have hfl2:∀z,(front++[z]++s).length=(zad w t c).length:=fun z=>by simp at hal ⊢;omega
   rcases List.mem_append.1 hx with hx|hx
   ·obtain⟨z,hz,rfl⟩:=List.mem_map.1 hx;rcases hde with ⟨j,hj,hd⟩|⟨j,hj,hd⟩
    ·exact zht (i:=j) (by rw[hfl2];omega) (hfl2 z) (by rw[f1 z j hj];exact hd)
    ·cases j with
     |zero=>exact zht (i:=i) (by rw[hfl2];omega) (hfl2 z) (by rw[f2 z];exact h0.2.2 hd z hz)
     |succ k=>exact zht (i:=i+1+k) (by rw[hfl2];simp at hj;simp at hal;omega) (hfl2 z) (by rw[f3 z k,show i+1+k=i+(k+1) by omega];exact hd)
   ·cases hm:zaU 11 a0 b0 with
    |none=>rw[hm] at hx;simp at hx
    |some both=>
     rw[hm] at hx;refine ih (i+1) (bs:=q) (front:=front++[both]) (by simp[hfl]) (by simp at hal ⊢;omega) (by simpa using hbl) (fun j hj=>?_) ?_ x hx
     ·have:=hab (j+1) (by simpa using hj);rwa [show i+(j+1)=i+1+j by omega] at this
     ·rcases hde with ⟨j,hj,hd⟩|⟨j,hj,hd⟩
      ·refine .inl ⟨j,by omega, ?_⟩;have e:nth (front++[both]) j=nth front j:=by
        simp only[nth,List.getD];rw[List.getElem?_append_left (by omega)]
       rw[e];exact hd
      ·cases j with
       |zero=>
        refine .inl ⟨i,by omega, ?_⟩;have e:nth (front++[both]) i=both:=by
         simp only[nth,List.getD];rw[List.getElem?_append_right (by omega),show i-front.length=0 by omega];rfl
        rw[e];exact zoG hs m 11 (zbh hs.dp ht hc _ (zai hi)) h0.1 h0.2.1 hd hm
       |succ k=>
        refine .inr ⟨k,by simpa using hj, ?_⟩;rw[show i+1+k=i+(k+1) by omega];exact hd
theorem zm0:∀(n m:Nat){t:Ty}{a b:Pat},n<m->InS (w.length*4) t->zaq w m t a=true->zaq w n t b=true->zax w (zam w) m t a=true->∀x∈zaB w n t a b,zax w (zam w) m t x=true
 |0,m,t,a,b,_,_,_,hb,_=>by simp[zaq] at hb
 |n+1,0,t,a,b,hn,_,_,_,_=>by omega
 |n+1,m+1,t,a,b,hn,ht,ha,hb,hd=>by
  have hcc:∀a,zaq w (m+1) t a=true->a.op=4->b.op=4->zax w (zam w) (m+1) t a=true->∀x∈zdj (zaB w n) w t a b,zax w (zam w) (m+1) t x=true:=fun a ha h4 h4b hd=>by
   obtain⟨m1,m2,m3,m4⟩:=zba ha h4;obtain⟨n1,n2,n3,n4⟩:=zba hb h4b;intro x hx;unfold zdj at hx;split at hx
   ·rename_i hc;obtain⟨j,hj,hdj⟩:=zp7 ha h4 hd;refine zrh hs ht m1 0 (xs:=a.kids) (bs:=b.kids) (front:=[]) rfl (by omega) (by rw[hc] at m3;omega) (fun j hj=>?_) (.inr ⟨j,hj,by rw[Nat.zero_add];exact hdj⟩) x hx;have ka:=zbs ha (i:=j) hj;have kb:=zbs hb (i:=j) (by rw[hc] at m3;omega);rw[zbe h4] at ka;rw[zbe h4b,<-hc] at kb;rw[Nat.zero_add];exact⟨ka,zk6 (by omega) kb,fun hdk z hz=>zm0 n m (by omega) (zbh hs.dp ht m1 _ (zai (by omega))) ka kb hdk z hz⟩
   ·rw[List.mem_singleton] at hx;rw[hx];exact hd
  rcases zcd hb with h1|h3|h4
  ·rw[ziJ h1];simp
  ·have hl:=zqq ha (zcy hb h3).1;rcases zcd ha with h|h|h
   ·rw[ziA h] at hd;have:=of_decide_eq_true hd;unfold dv at this;rw[if_pos (zcy hb h3).1] at this;omega
   ·rw[znC ha h] at hd;cases hd
   ·exact absurd (zcy hb h3).1 (zba ha h).2.1
  ·by_cases ha1:a.op=1
   ·rw[ziK h4 ha1];rw[ziA ha1] at hd;intro x hx;obtain⟨c,hc,hx⟩:=List.mem_flatMap.1 hx;obtain⟨k,rfl⟩:∃k,m=k+1:=⟨m-1,by omega⟩;exact hcc _ (zdT hc) rfl h4 (zj7 hs _ ht (zdT hc) (of_decide_eq_true hd)) x hx
   ·have ha4:a.op=4:=by have:=zdS ha hb ha1 (by omega);omega
    rw[zex h4 ha4];exact hcc a ha ha4 h4 hd
end
def zbQ (w:List Data) (t:Ty) (p:Pat):Bool:= !zax w (zam w) 11 t p
def zch (w:List Data) (t:Ty) (l:List Pat) (b:Pat):List Pat:=(l.flatMap fun a=>zaB w 10 t a b).filter (zbQ w t)
def subL (w:List Data) (t:Ty):List Pat->List Pat->Option (List Pat)
 |l,[]=>some l
 |l,b::r=>if (zch w t l b).length<=400 then subL w t (zch w t l b) r else none
def zaO (w:List Data) (t:Ty) (l away:List Pat):Option (List Pat):=subL w t (l.filter (zbQ w t)) away
theorem zqz {w:List Data} (hs:Spa w){t:Ty} (ht:InS (w.length*4) t){l:List Pat}{b:Pat} (hl:∀a∈l,zaq w 11 t a=true) (hb:zaq w 10 t b=true):zch w t (l.filter (zbQ w t)) b=zch w t l b:=by
 unfold zch;induction l with
 |nil=>rfl
 |cons a r ih=>
  have ih':=ih (fun x hx=>hl x (by simp[hx]));rw[List.flatMap_cons,List.filter_append];by_cases h:zbQ w t a=true
  ·rw[List.filter_cons_of_pos h,List.flatMap_cons,List.filter_append,ih']
  ·rw[List.filter_cons_of_neg h,ih'];have hd:zax w (zam w) 11 t a=true:=by unfold zbQ at h;simpa using h
   have:(zaB w 10 t a b).filter (zbQ w t)=[]:=by
    rw[List.filter_eq_nil_iff];intro x hx;have:=zm0 hs 10 11 (by omega) ht (hl a (by simp)) hb hd x hx;unfold zbQ;rw[this];simp
   rw[this,List.nil_append]
theorem zlv {w:List Data}{t:Ty}{l:List Pat}{b:Pat}:(zch w t l b).filter (zbQ w t)=zch w t l b:=by
 unfold zch;rw[List.filter_filter];simp
theorem znq {w:List Data}{t:Ty}:∀(away:List Pat){l:List Pat},l.filter (zbQ w t)=l->(subL w t l away).map (List.filter (zbQ w t))=subL w t l away
 | [],l,h=>by simp only[subL,Option.map_some,h]
 |b::r,l,h=>by
  unfold subL;split
  ·exact znq r zlv
  ·rfl
theorem zts {w:List Data} (hs:Spa w){t:Ty} (ht:InS (w.length*4) t){l away:List Pat} (hl:∀a∈l,zaq w 11 t a=true) (hb:∀b∈away,zaq w 10 t b=true):(subL w t l away).map (List.filter (zbQ w t))=zaO w t l away:=by
 unfold zaO;cases away with
 |nil=>rfl
 |cons b r=>
  unfold subL;rw[zqz hs ht hl (hb b (by simp))];split
  ·exact znq r zlv
  ·rfl
theorem zg0 {w:List Data}{t:Ty}{l:List Pat}{b:Pat} (hl:∀a∈l,zaq w 11 t a=true) (hb:zaq w 10 t b=true):∀x∈zch w t l b,zaq w 11 t x=true:=fun x hx=>by
 unfold zch at hx;obtain⟨a,ha,hx⟩:=List.mem_flatMap.1 (List.mem_filter.1 hx).1;exact zgZ 10 11 (by omega) (hl a ha) hb x hx
theorem zl2 {n:Nat} (h0:0<n) (hb:n<=1000000):FnD Tryz.prog 317 [.nils,.d (.i (n:Int))] [] (.gv 9 []) [(9,some (.tok 0 6))]:=by
 refine bd Tryz.f317 27 [12,24] [] fun w0 F0 own kept hk=>?_;refine sq ?_ ?_<;>intro h1 h1p h1s<;>(try simp only[Q] at h1p);exfalso;omega;refine Walk.capN sl34 .none rfl rfl ?_;refine evs [12,24] [] ?_;refine Walk.lenN sl34 .none rfl rfl ?_;refine evs [12,24] [] ?_;refine ar ?_;refine ar ?_;refine sq ?_ ?_<;>intro h2 h2p h2s<;>(try simp only[Q] at h2p);refine Walk.capN sl34 .none rfl rfl ?_;refine Walk.cutN_h sl34 .none rfl rfl rfl ?_;refine evs [12,24] [] ?_;refine Walk.growZ (n:=n) 8 sl34 Tryz.underlying3 tz36 rfl (by decide) rfl .none rfl rfl rfl (by simp) h0 (by omega) (by omega) rfl ?_;refine evs [12,24] [] ?_;refine Walk.lenN sl34 .none rfl rfl ?_;refine xaL 9 (b:=0) sl34 .none rfl rfl (zdY rfl (by(simp;done))) rfl rfl (Nat.zero_le _) (by rw[List.length_replicate];exact h0) rfl ?_;refine evs [12,24] [] ?_;focus (refine rn [(9,some (.tok 0 6))] (r1 rfl) (.gvg ?_) ⟨rfl,rfl⟩ (SubH.get ⟨rfl,trivial⟩) (zaE rfl);all_goals (rfl))
 focus (exfalso;simp at h2;all_goals omega)
abbrev zuv (ls:List (List Pat)):D:= .sl (ls.map fun l=>[zaj l])
theorem zkF {ls:List (List Pat)} (hl:ls.length<=1000) (h0:0<ls.flatten.length) (hb:ls.flatten.length<=1000000):FnD Tryz.prog 247 [.d (zuv ls)] [] (.d (zaj ls.flatten)) []:=by
 have key:∀ {pre rest:List (List Pat)}{y:List Pat},pre++y::rest=ls->pre.flatten.length+y.length<=ls.flatten.length:=fun h=>by
  rw[<-h];simp
 refine FnD.gvD (i:=9) (k:=6) ?_;refine bd Tryz.f247 36 [] [] fun w0 F0 own kept hk=>?_;refine xam (ι:=List (List Pat)×List (List Pat)) hk (fun x=>[(11,.d (.i (x.1.length:Int))),(3,.d (.i (x.1.flatten.length:Int)))]) [5,12,13,14,15,16,17,18,19,20,21,22] (fun x=>[]) (fun x=>x.1++x.2=ls) (fun x=>x.2.length) ([],ls) (by simp) ⟨⟨_,rfl,xax ?_⟩,⟨⟨_,rfl,xax ?_⟩,trivial⟩⟩ trivial (fun x=>rfl) (fun x hg1=>?_);iterate 2 focus (rfl)
 obtain⟨pre,rest⟩:=x;dsimp only at hg1 ⊢;refine evc [] [] ?_;refine sq ?_ ?_<;>intro h1 h1p h1s<;>(try simp only[Q,Pat.cs_len] at h1p);rcases rest with _|⟨y,rest⟩
 ·exfalso;simp_all
 refine xaP zd2 .none rfl rfl rfl rfl (zaN hg1) rfl ?_;refine ev ?_;refine ar ?_ (by(have h9:=key hg1;constructor<;>first|omega|(simp only[Pat.cs_len];omega)));refine sq ?_ ?_<;>intro h2 h2p h2s<;>(try simp only[Q,Pat.cs_len] at h2p);exfalso;have:=key hg1;omega;refine ar ?_ (by(have h9:=key hg1;constructor<;>first|omega|(simp only[Pat.cs_len];omega)));refine xah ((pre++[y],rest)) ⟨(by have hz:=hg1;rw[<-hz];simp),(by simp),sx ⟨⟨_,rfl,xax ?_⟩,⟨⟨_,rfl,xax ?_⟩,trivial⟩⟩ trivial⟩;iterate 2 focus ((simp[Pat.cs_len];done))
 have hrest:rest=[]:=by
  rcases rest with _|⟨a,b⟩
  ·rfl
  ·exfalso;have hz:=congrArg List.length (hg1);simp only[xaa,xab,xac] at hz;omega
 subst hrest;refine Walk.call (cr:=[9]) zvT (zl2 (n:=pre.flatten.length) (by rw[List.append_nil] at hg1;rw[hg1];exact h0) (by rw[List.append_nil] at hg1;rw[hg1];exact hb)) rfl .none rfl rfl (LeL.refl _) trivial rfl rfl rfl ?_;refine ev ?_;refine xam (ι:=List (List Pat)×List (List Pat)) hk (fun x=>[(27,.d (.i (x.1.length:Int))),(6,.gv 9 (Pat.cs x.1.flatten))]) [8,28,29,30,31,32,33,34] (fun x=>[(9,some (.tok (Pat.cs x.1.flatten).length 6))]) (fun x=>x.1++x.2=ls) (fun x=>x.2.length) ([],ls) (by simp) ⟨⟨_,rfl,xax ?_⟩,⟨⟨_,rfl,LeA.gvg ?_⟩,trivial⟩⟩ ⟨zag ?_,trivial⟩ (fun x=>rfl) (fun x hg2=>?_);iterate 3 focus (rfl)
 obtain⟨pre,rest⟩:=x;dsimp only at hg2 ⊢;refine evc [] [] ?_;refine sq ?_ ?_<;>intro h3 h3p h3s<;>(try simp only[Q,Pat.cs_len] at h3p);rcases rest with _|⟨y,rest⟩
 ·exfalso;simp_all
 refine xaP zd2 .none rfl rfl rfl rfl (zaN hg2) rfl ?_;refine ev ?_;refine xaE sl34 zz36 .none rfl rfl rfl rfl (zdY rfl (by rfl)) (by exact zcm _) (by have:=key hg2;simp only[Pat.cs_len];omega) (by have:=key hg2;simp only[Pat.cs_len];omega) ?_;refine ev ?_;refine ar ?_ (by(constructor<;>omega));refine xah ((pre++[y],rest)) ⟨(by have hz:=hg2;rw[<-hz];simp),(by simp),sx ⟨⟨_,rfl,xax ?_⟩,⟨⟨_,rfl,LeA.gvg ?_⟩,trivial⟩⟩ ⟨zag ?_,trivial⟩⟩;iterate 3 focus ((simp[xaz];done))
 have hrest:rest=[]:=by
  rcases rest with _|⟨a,b⟩
  ·rfl
  ·exfalso;have hz:=congrArg List.length (hg2);simp only[xaa,xab,xac] at hz;omega
 subst hrest;refine rn [(9,some (.tok (Pat.cs ls.flatten).length 6))] (r1 rfl) (.gvg ?_) ⟨rfl,rfl⟩ (SubH.get ⟨?_,trivial⟩) (zaE rfl);rotate_left 2;all_goals ((rw[List.append_nil] at hg2;subst hg2;rfl))
def zbI (l:List Int):Nat->List Pat
 |0=>[]
 |n+1=>zbI l n++zcf (nth l (2*n)) (nth l (2*n+1))
theorem zky (l:List Int):∀n,(zbI l n).length<=n
 |0=>by simp[zbI]
 |n+1=>by
  have:=zky l n;simp only[zbI,zcf,xaa];split<;>simp<;>omega
theorem zkz {l:List Int}{n:Nat} (h:nth l (2*n)<=nth l (2*n+1)):zbI l (n+1)=zbI l n++[intQ (nth l (2*n)) (nth l (2*n+1))]:=by simp[zbI,zcf,h]
theorem zrm {l:List Int}{n:Nat} (h:¬nth l (2*n)<=nth l (2*n+1)):zbI l (n+1)=zbI l n:=by simp only[zbI,zcf,if_neg h,List.append_nil]
theorem zqI (a b:Int):zbI [a,b] 1=zcf a b:=by simp[zbI,nth]
theorem ztX (a b c d:Int):zbI [a,b,c,d] 2=zcf a b++zcf c d:=by simp[zbI,nth]
theorem zmB {p:Pat}:FnD Tryz.prog 244 [.agg [.d (.i p.op),.d (.i p.ctor),.d (.i p.n),.d (.i p.m),.d (.i p.var),.d (zaj p.kids)]] [] (.tup [.d (.i (lowQ p)),.d (.i (zdh p))]) []:=by
 by_cases h:p.op=1
 ·have e1:lowQ p=0:=if_pos h;have e2:zdh p=9:=if_pos h;rw[e1,e2];refine bd Tryz.f244 11 [] [] fun w0 F0 own kept hk=>?_;refine bx 3001 ?_;refine ev ?_;refine sq ?_ ?_<;>intro h1 h1p h1s<;>(try simp only[Q] at h1p);focus (refine rn0 (r2 rfl rfl) (.tup (.cons (.eqd ?_) (.cons (.eqd ?_) .nil)));all_goals (rfl))
  exfalso;omega
 ·skip
  have e1:lowQ p=p.n:=if_neg h;have e2:zdh p=p.m:=if_neg h;rw[e1,e2];refine bd Tryz.f244 11 [] [] fun w0 F0 own kept hk=>?_;refine bx 3001 ?_;refine ev ?_;refine sq ?_ ?_<;>intro h1 h1p h1s<;>(try simp only[Q] at h1p);exfalso;omega;refine dr ?_;focus (refine rn0 (r2 rfl rfl) (.tup (.cons (.eqd ?_) (.cons (.eqd ?_) .nil)));all_goals (rfl))
theorem zf1 {l:List Int}{n:Nat} (hl:l.length=2*n) (hb:n<=1000):FnD Tryz.prog 245 [.d (zcJ l)] [] (.d (zaj (zbI l n))) []:=by
 refine bd Tryz.f245 35 [3] [] fun w0 F0 own kept hk=>?_;refine xaF 9 6 .none rfl rfl ?_;refine tv ?_;refine xam (ι:=Nat) hk (fun i=>[(4,.d (.i ((2*i:Nat):Int))),(3,.gl 9 (Pat.cs (zbI l i)))]) [5,6,7,8,9,10,11,12,13,14,15,16,17,18,19,20,21,22,23,24,25,26,27,28,29,30,31,32,33] (fun i=>[(9,some (.tok ((Pat.cs (zbI l i))).length 6))]) (fun i=>i<=n) (fun i=>n-i) 0 (by omega) ⟨⟨_,rfl,xax ?_⟩,⟨⟨_,rfl,LeA.glg ?_⟩,trivial⟩⟩ ⟨zag ?_,trivial⟩ (fun x=>rfl) (fun i hg1=>?_);iterate 3 focus (rfl)
 refine evc [3] [] ?_;refine sq ?_ ?_<;>intro h1 h1p h1s<;>(try simp only[Q] at h1p);refine xaP (i:=2*i) sl29 .none rfl rfl rfl rfl (zaz (by omega)) rfl ?_;refine evd [3] [] ?_;refine ar ?_;refine xaP (i:=2*i+1) sl29 .none rfl rfl rfl rfl (zaz (by omega)) rfl ?_;refine evd [3] [] ?_;refine dr ?_;refine sq ?_ ?_<;>intro h2 h2p h2s<;>(try simp only[Q] at h2p);refine xaP (i:=2*i) sl29 .none rfl rfl rfl rfl (zaz (by omega)) rfl ?_;refine evd [3] [] ?_;refine ar ?_;refine xaP (i:=2*i+1) sl29 .none rfl rfl rfl rfl (zaz (by omega)) rfl ?_;refine evd [3] [] ?_;refine bu [0,2,3] [_,_,_] st36 ?_;refine si [0] [_] sl34 tz36 ?_;refine ap sl34 zz36 rfl rfl rfl (by(intro x hx;simp at hx;subst hx;rfl)) (by have:=zky l i;simp[Pat.cs_len];omega) ?_;refine asg ?_;refine dr ?_;refine ar ?_;refine xah (i+1) ⟨(by omega),(by omega),sx ⟨⟨_,rfl,xax ?_⟩,⟨⟨_,rfl,LeA.glg ?_⟩,trivial⟩⟩ ⟨zag ?_,trivial⟩⟩;iterate 3 focus (first|rfl|(rw[zkz (by assumption),xaz,xaz,xaf];rfl)|(rw[zkz (by assumption)];simp[Pat.cs_len];done))
 refine ar ?_;refine xah (i+1) ⟨(by omega),(by omega),sx ⟨⟨_,rfl,xax ?_⟩,⟨⟨_,rfl,LeA.glg ?_⟩,trivial⟩⟩ ⟨zag ?_,trivial⟩⟩;iterate 3 focus (first|rfl|(rw[zrm (by assumption)];done))
 refine rn0 (r1 rfl) (.gld ?_);rotate_left;all_goals ((have e:i=n:=(by omega);rw[e]))
theorem zpe {w:List Data} (hw:WT w){f:Nat->Nat}{a k c:Int} (ht:TyIn w.length ⟨a,k⟩) (hc:c∈zaA w ⟨a,k⟩) (hl:(zad w ⟨a,k⟩ c).length<=3):FnD Tryz.prog 246 [.d (sPtr w f),.agg [.d (.i a),.d (.i k)],.d (.i c)] []
  (.agg [.d (.i 4),.d (.i c),.d (.i 0),.d (.i 0),.d (.i 0),.d (zaj (zcg w ⟨a,k⟩ c).kids)]) []:=by
 refine bd Tryz.f246 28 [] [] fun w0 F0 own kept hk=>?_;refine bx 3004 ?_;refine ab 3006 tz36 ?_;refine tv ?_;refine bu [0,1] [_,_] st36 ?_;refine ab 3007 tz36 ?_;refine so ty36 ?_;refine tv ?_;refine wc zdf (zbp hw ht hc) rfl rfl ?_;refine evd [] [] ?_;refine dr ?_;refine xar 3007 5 9 6 rfl rfl rfl rfl ?_;refine xam (ι:=List (Ty)×List (Ty)) hk (fun x=>[(18,.d (.i (x.1.length:Int)))]) [19,20,21,22,23,24,25,26] (fun x=>[(3007,some (.box [.d (.i 4),.d (.i c),.d (.i 0),.d (.i 0),.d (.i 0),.gl 9 ((x.1.map fun _=>anyQ).map Pat.cc)])),(9,some (.tok ((x.1.map fun _=>anyQ).map Pat.cc).length 6))]) (fun x=>x.1++x.2=zad w ⟨a,k⟩ c) (fun x=>x.2.length) ([],zad w ⟨a,k⟩ c) (by simp) ⟨⟨_,rfl,xax ?_⟩,trivial⟩ ⟨?_,⟨zag ?_,trivial⟩⟩ (fun x=>rfl) (fun x hg1=>?_);focus (rfl)
 focus (rfl)
 focus (rfl)
 obtain⟨pre,rest⟩:=x;dsimp only at hg1 ⊢;refine evc [] [] ?_;refine sq ?_ ?_<;>intro h1 h1p h1s<;>(try simp only[Q] at h1p);rcases rest with _|⟨y,rest⟩
 ·exfalso;simp_all
 refine wc zpQ (zed) rfl rfl ?_;refine si [0] [_] sl34 tz36 ?_;refine ap sl34 zz36 rfl rfl rfl (by intro x hx;(simp at hx;subst hx;rfl)) (by have:=congrArg List.length hg1;simp at this;simp;omega) ?_;refine evd [] [] ?_;refine so ty34 ?_;refine dr ?_;refine ar ?_;refine xah ((pre++[y],rest)) ⟨(by have hz:=hg1;rw[<-hz];simp),(by simp),sx ⟨⟨_,rfl,xax ?_⟩,trivial⟩ ⟨?_,⟨zag ?_,trivial⟩⟩⟩;focus ((simp;done))
 focus ((simp[getH];exact⟨rfl,rfl,rfl,rfl,rfl,rfl⟩))
 focus ((simp;done))
 have hrest:rest=[]:=by
  rcases rest with _|⟨a,b⟩
  ·rfl
  ·exfalso;have hz:=congrArg List.length (hg1);simp only[xaa,xab,xac] at hz;omega
 subst hrest;refine so ty36 ?_;refine tv ?_;refine rn0 (.cons (.cellA ty36 rfl rfl rfl) .nil) (.agg (.cons (.eqd ?_) (.cons (.eqd ?_) (.cons (.eqd ?_) (.cons (.eqd ?_) (.cons (.eqd ?_) (.cons (.gld ?_) .nil)))))));rotate_left 6;all_goals (first|rfl|(rw[List.append_nil] at hg1;subst hg1;rw[<-xaz];all_goals rfl))
def zcT (n:Nat) (a b:Pat):Pat:=(zaU n a b).getD zuE
theorem zcC {n:Nat}{a b x:Pat} (h:zaU n a b=some x):zcT n a b=x:=by unfold zcT;rw[h];rfl
theorem zfB {n:Nat}{a b:Pat} (h:zaU n a b=none):zcT n a b=zuE:=by unfold zcT;rw[h];rfl
theorem zn1 {n:Nat}{a b:Pat} (h:(zaU n a b).isSome=true):zaU n a b=some (zcT n a b):=by
 unfold zcT;cases e:zaU n a b with
 |none=>rw[e] at h;cases h
 |some x=>rfl
theorem zn2 {n:Nat}{a b:Pat} (h:(zaU n a b).isSome=false):zaU n a b=none:=by
 cases e:zaU n a b with
 |none=>rfl
 |some x=>rw[e] at h;cases h
theorem zkd {w:List Data} (hs:Spa w){f:Nat->Nat}:∀(n m:Nat){ta tk:Int}{a b:Pat},m<=n->InS (w.length*4) ⟨ta,tk⟩->zaq w m ⟨ta,tk⟩ a=true->zaq w m ⟨ta,tk⟩ b=true->
  FnD Tryz.prog 248 [.d (sPtr w f),.agg [.d (.i ta),.d (.i tk)],.agg [.d (.i a.op),.d (.i a.ctor),.d (.i a.n),.d (.i a.m),.d (.i a.var),.d (zaj a.kids)],.agg [.d (.i b.op),.d (.i b.ctor),.d (.i b.n),.d (.i b.m),.d (.i b.var),.d (zaj b.kids)]] []
   (.tup [.agg [.d (.i (zcT n a b).op),.d (.i (zcT n a b).ctor),.d (.i (zcT n a b).n),.d (.i (zcT n a b).m),.d (.i (zcT n a b).var),.d (zaj (zcT n a b).kids)],.d (.bool (zaU n a b).isSome)]) []
 |n,0,ta,tk,a,b,_,_,ha,_=>by simp[zaq] at ha
 |0,m+1,ta,tk,a,b,h,_,_,_=>by omega
 |n+1,m+1,ta,tk,a,b,hnm,ht,ha,hb=>by
  by_cases h1:a.op=1
  ·have e:=zmU (n:=n) (b:=b) h1;rw[zcC e,e];refine bd Tryz.f248 100 [] [] fun w0 F0 own kept hk=>?_;refine bx 3005 ?_;refine bx 3006 ?_;refine bx 3007 ?_;refine ab 3008 tz36 ?_;refine ev ?_;refine sq ?_ ?_<;>intro h1 h1p h1s;refine so ty36 ?_;refine ev ?_;refine rn0 (.cons (.cellA ty36 rfl rfl rfl) (.cons (.tmp rfl) .nil)) (.tup (.cons (.agg (.cons (.eqd ?_) (.cons (.eqd ?_) (.cons (.eqd ?_) (.cons (.eqd ?_) (.cons (.eqd ?_) (.cons (.eqd ?_) .nil))))))) (.cons (.eqd ?_) .nil)));rotate_left 7;try simp only[Q] at h1p
   exfalso;omega;all_goals (rfl)
  by_cases h2:b.op=1
  ·have e:=zmV (n:=n) h1 h2;rw[zcC e,e];refine bd Tryz.f248 100 [] [] fun w0 F0 own kept hk=>?_;refine bx 3005 ?_;refine bx 3006 ?_;refine bx 3007 ?_;refine ab 3008 tz36 ?_;refine ev ?_;refine sq ?_ ?_<;>intro h1 h1p h1s;try simp only[Q] at h1p
   exfalso;omega;refine sq ?_ ?_<;>intro h2 h2p h2s;refine so ty36 ?_;refine ev ?_;refine rn0 (.cons (.cellA ty36 rfl rfl rfl) (.cons (.tmp rfl) .nil)) (.tup (.cons (.agg (.cons (.eqd ?_) (.cons (.eqd ?_) (.cons (.eqd ?_) (.cons (.eqd ?_) (.cons (.eqd ?_) (.cons (.eqd ?_) .nil))))))) (.cons (.eqd ?_) .nil)));rotate_left 7;try simp only[Q] at h2p
   exfalso;omega;all_goals (rfl)
  by_cases h3:a.op=3
  ·have e:=zmW (n:=n) h3 h2;by_cases hr:maxQ a.n b.n<=minQ a.m b.m
   ·rw[if_pos hr] at e;have er:zbI [maxQ a.n b.n,minQ a.m b.m] 1=[intQ (maxQ a.n b.n) (minQ a.m b.m)]:=by rw[zqI];exact if_pos hr
    have hrg:=zf1 (l:=[maxQ a.n b.n,minQ a.m b.m]) (n:=1) rfl (by omega);rw[er] at hrg;rw[zcC e,e];refine bd Tryz.f248 100 [] [] fun w0 F0 own kept hk=>?_;refine bx 3005 ?_;refine bx 3006 ?_;refine bx 3007 ?_;refine ab 3008 tz36 ?_;refine ev ?_;refine sq ?_ ?_<;>intro h1 h1p h1s;try simp only[Q,Pat.cs_len] at h1p
    exfalso;omega;refine sq ?_ ?_<;>intro h2 h2p h2s;try simp only[Q,Pat.cs_len] at h2p
    exfalso;omega;refine sq ?_ ?_<;>intro h3 h3p h3s;refine xa0 .none rfl rfl rfl ?_;refine ev ?_;refine xa1 .none rfl rfl rfl ?_;refine si [0,1] [_,_] sl29 tz3 ?_;refine wc zpX (hrg) rfl rfl ?_;refine ev ?_;refine sq ?_ ?_<;>intro h4 h4p h4s;exfalso;simp[Pat.cs_len] at h4;refine xaP (i:=0) sl34 .none rfl rfl rfl rfl (rfl) rfl ?_;refine ev ?_;refine so ty36 ?_;refine ev ?_;refine rn0 (.cons (.cellA ty36 rfl rfl rfl) (.cons (.tmp rfl) .nil)) (.tup (.cons (.agg (.cons (.eqd ?_) (.cons (.eqd ?_) (.cons (.eqd ?_) (.cons (.eqd ?_) (.cons (.eqd ?_) (.cons (.eqd ?_) .nil))))))) (.cons (.eqd ?_) .nil)));rotate_left 7;try simp only[Q,Pat.cs_len] at h3p
    exfalso;omega;all_goals (rfl)
   ·skip
    rw[if_neg hr] at e;have er:zbI [maxQ a.n b.n,minQ a.m b.m] 1=[]:=by rw[zqI];exact if_neg hr
    have hrg:=zf1 (l:=[maxQ a.n b.n,minQ a.m b.m]) (n:=1) rfl (by omega);rw[er] at hrg;rw[zfB e,e];refine bd Tryz.f248 100 [] [] fun w0 F0 own kept hk=>?_;refine bx 3005 ?_;refine bx 3006 ?_;refine bx 3007 ?_;refine ab 3008 tz36 ?_;refine ev ?_;refine sq ?_ ?_<;>intro h1 h1p h1s;try simp only[Q,Pat.cs_len] at h1p
    exfalso;omega;refine sq ?_ ?_<;>intro h2 h2p h2s;try simp only[Q,Pat.cs_len] at h2p
    exfalso;omega;refine sq ?_ ?_<;>intro h3 h3p h3s;refine xa0 .none rfl rfl rfl ?_;refine ev ?_;refine xa1 .none rfl rfl rfl ?_;refine si [0,1] [_,_] sl29 tz3 ?_;refine wc zpX (hrg) rfl rfl ?_;refine ev ?_;refine sq ?_ ?_<;>intro h4 h4p h4s;refine bu [] [] st36 ?_;refine so ty36 ?_;refine ev ?_;refine rn0 (.cons (.cellA ty36 rfl rfl rfl) (.cons (.tmp rfl) .nil)) (.tup (.cons (.agg (.cons (.eqd ?_) (.cons (.eqd ?_) (.cons (.eqd ?_) (.cons (.eqd ?_) (.cons (.eqd ?_) (.cons (.nild ?_) .nil))))))) (.cons (.eqd ?_) .nil)));rotate_left 7;exfalso;simp[Pat.cs] at h4;try simp only[Q,Pat.cs_len] at h3p
    exfalso;omega;all_goals (rfl)
  have oa:=zcd ha;have h4:a.op=4:=by omega
  have h4b:b.op=4:=by have:=zdS ha hb h1 h2;omega
  by_cases hc:a.ctor=b.ctor
  ·obtain⟨c1,c2,c3,c4⟩:=zba ha h4;obtain⟨d1,d2,d3,d4⟩:=zba hb h4b;rw[<-hc] at d3;have h3l:=hs.args ⟨ta,tk⟩ a.ctor ht c1;have ka:=fun i (hi:i<a.kids.length)=>zbs ha hi;have kb:=fun i (hi:i<b.kids.length)=>zbs hb hi;rw[zbe h4] at ka;rw[zbe h4b,<-hc] at kb;have e:=zmX (n:=n) h4 h2 hc;have hlen:a.kids.length=b.kids.length:=by omega
   have ih:=fun i (hi:i<(zad w ⟨ta,tk⟩ a.ctor).length)=>zkd hs n m (f:=f) (ta:=(nth (zad w ⟨ta,tk⟩ a.ctor) i).data) (tk:=(nth (zad w ⟨ta,tk⟩ a.ctor) i).index) (a:=nth a.kids i) (b:=nth b.kids i) (by omega) (zbh hs.dp ht c1 _ (zai hi)) (ka i (by omega)) (kb i (by omega));refine bd Tryz.f248 100 [] [] fun w0 F0 own kept hk=>?_;refine bx 3005 ?_;refine bx 3006 ?_;refine bx 3007 ?_;refine ab 3008 tz36 ?_;refine ev ?_;refine sq ?_ ?_<;>intro h1 h1p h1s;try simp only[Q,Pat.cs_len] at h1p
   exfalso;omega;refine sq ?_ ?_<;>intro h2 h2p h2s;try simp only[Q,Pat.cs_len] at h2p
   exfalso;omega;refine sq ?_ ?_<;>intro h3 h3p h3s;try simp only[Q,Pat.cs_len] at h3p
   exfalso;omega;refine sq ?_ ?_<;>intro h4 h4p h4s;try simp only[Q,Pat.cs_len] at h4p
   exfalso;omega;refine bu [0,1] [_,_] st36 ?_;refine ab 3011 tz36 ?_;refine so ty36 ?_;refine tv ?_;refine wc zdf (zbp hs.dp.wt (zbE ht) c1) rfl rfl ?_;refine evd [] [] ?_;refine dr ?_;refine xar 3011 5 9 6 rfl rfl rfl rfl ?_;refine xam (ι:=Nat×List Pat) hk (fun x=>[(68,.d (.i (x.1:Int)))]) [9,12,13,14,15,69,70,71,72,73,74,75,76,77,78,79,80,81,82,83,84,85,86,87,88,89,90,91,92,93,94,95,96,97,98] (fun x=>[(3011,some (.box [.d (.i 4),.d (.i a.ctor),.d (.i 0),.d (.i 0),.d (.i 0),.gl 9 (x.2.map Pat.cc)])),(9,some (.tok (x.2.map Pat.cc).length 6))]) (fun x=>x.1<=a.kids.length/\x.2.length=x.1/\zcL (zaU n) (a.kids.drop x.1) (b.kids.drop x.1) x.2=zcL (zaU n) a.kids b.kids []) (fun x=>a.kids.length-x.1) (0,[]) ⟨by simp,rfl,rfl⟩ ⟨⟨_,rfl,xax ?_⟩,trivial⟩ ⟨?_,⟨zag ?_,trivial⟩⟩ (fun x=>rfl) (fun x hg1=>?_);focus (rfl)
   focus (first|rfl|(simp[getH];done))
   focus (rfl)
   refine evc [] [] ?_;refine sq ?_ ?_<;>intro h5 h5p h5s<;>(try simp only[Q,Pat.cs_len] at h5p);refine xaP zaK .none rfl rfl rfl rfl (zaz (by omega)) rfl ?_;refine ev ?_;refine ab 3013 tz25 ?_;refine ev ?_;refine so ty25 ?_;refine tv ?_;refine xaP sl34 .none rfl rfl rfl rfl (zas (by omega)) rfl ?_;refine evd [] [] ?_;refine xaP sl34 .none rfl rfl rfl rfl (zas (by omega)) rfl ?_;refine evd [] [] ?_;refine wc zsK (ih x.1 (by omega)) rfl rfl ?_;refine evd [] [] ?_;refine ab 3014 tz36 ?_;refine so ty36 ?_;refine evd [] [] ?_;refine dr ?_;refine sq ?_ ?_<;>intro h6 h6p h6s;refine bu [] [] st36 ?_;refine so ty36 ?_;refine ev ?_;refine rn0 (.cons (.cellA ty36 rfl rfl rfl) (.cons (.tmp rfl) .nil)) (.tup (.cons (.agg (.cons (.eqd ?_) (.cons (.eqd ?_) (.cons (.eqd ?_) (.cons (.eqd ?_) (.cons (.eqd ?_) (.cons (.nild ?_) .nil))))))) (.cons (.eqd ?_) .nil)));rotate_left 7;try simp only[Q,Pat.cs_len] at h6p
   refine si [0] [_] sl34 tz36 ?_;refine ap sl34 zz36 rfl rfl rfl (by intro x hx;(simp at hx;subst hx;rfl)) (by simp;omega) ?_;refine ev ?_;refine so ty34 ?_;refine tv ?_;refine ar ?_;refine xah ((x.1+1,x.2++[zcT n (nth a.kids x.1) (nth b.kids x.1)])) ⟨⟨by dsimp only;omega,by dsimp only;rw[xaa,hg1.2.1];rfl,by dsimp only;rw[<-zmT (by omega) (by omega) (zn1 (by assumption))];exact hg1.2.2⟩,(by dsimp only;omega),sx ⟨⟨_,rfl,xax ?_⟩,trivial⟩ ⟨?_,⟨zag ?_,trivial⟩⟩⟩;focus (rfl)
   focus (first|rfl|(simp[getH];done))
   focus ((simp;done))
   refine so ty36 ?_;refine ev ?_;refine rn0 (.cons (.cellA ty36 rfl rfl rfl) (.cons (.tmp rfl) .nil)) (.tup (.cons (.agg (.cons (.eqd ?_) (.cons (.eqd ?_) (.cons (.eqd ?_) (.cons (.eqd ?_) (.cons (.eqd ?_) (.cons (.gld ?_) .nil))))))) (.cons (.eqd ?_) .nil)));rotate_left 7;all_goals (first|(have e2:zaU (n+1) a b=none:=(by rw[e,<-hg1.2.2,zmS (by omega) (by omega) (zn2 (by assumption))];rfl);(first|rw[zfB e2]|rw[e2]);all_goals rfl)|(have e2:zaU (n+1) a b=some (zbU a.ctor x.2):=(by rw[e,<-hg1.2.2,ze7 (by omega)];rfl);rw[zcC e2,xaz];all_goals rfl)|(have e2:zaU (n+1) a b=some (zbU a.ctor x.2):=(by rw[e,<-hg1.2.2,ze7 (by omega)];rfl);rw[zcC e2];all_goals rfl)|(have e2:zaU (n+1) a b=some (zbU a.ctor x.2):=(by rw[e,<-hg1.2.2,ze7 (by omega)];rfl);rw[e2];all_goals rfl))
  ·skip
   have e:=zk2 (n:=n) h4 h2 hc;rw[zfB e,e];refine bd Tryz.f248 100 [] [] fun w0 F0 own kept hk=>?_;refine bx 3005 ?_;refine bx 3006 ?_;refine bx 3007 ?_;refine ab 3008 tz36 ?_;refine ev ?_;refine sq ?_ ?_<;>intro h1 h1p h1s;try simp only[Q] at h1p
   exfalso;omega;refine sq ?_ ?_<;>intro h2 h2p h2s;try simp only[Q] at h2p
   exfalso;omega;refine sq ?_ ?_<;>intro h3 h3p h3s;try simp only[Q] at h3p
   exfalso;omega;refine sq ?_ ?_<;>intro h4 h4p h4s;refine bu [] [] st36 ?_;refine so ty36 ?_;refine ev ?_;refine rn0 (.cons (.cellA ty36 rfl rfl rfl) (.cons (.tmp rfl) .nil)) (.tup (.cons (.agg (.cons (.eqd ?_) (.cons (.eqd ?_) (.cons (.eqd ?_) (.cons (.eqd ?_) (.cons (.eqd ?_) (.cons (.nild ?_) .nil))))))) (.cons (.eqd ?_) .nil)));rotate_left 7;try simp only[Q] at h4p
   exfalso;omega;all_goals (rfl)
theorem zhZ {f:Ty->Pat->Pat->List Pat}{c:Int}{ts:List Ty}{xs bs front:List Pat}{i:Nat} (h1:i<ts.length) (h2:i<xs.length) (h3:i<bs.length):
  zbb f c (ts.drop i) (xs.drop i) (bs.drop i) front=(f (nth ts i) (nth xs i) (nth bs i)).map (fun z=>zbU c (front++[z]++xs.drop (i+1)))++(match zaU 11 (nth xs i) (nth bs i) with
   |none=>[]
   |some both=>zbb f c (ts.drop (i+1)) (xs.drop (i+1)) (bs.drop (i+1)) (front++[both])):=by
 rw[zaW h1,zaW h2,zaW h3,zbb];all_goals (cases zaU 11 (nth xs i) (nth bs i)<;>rfl)
theorem zlu {f:Ty->Pat->Pat->List Pat}{c:Int}{ts:List Ty}{xs bs front:List Pat}{i:Nat} (h1:i<ts.length) (h2:i<xs.length) (h3:i<bs.length) (h:(zaU 11 (nth xs i) (nth bs i)).isSome=true):
  zbb f c (ts.drop i) (xs.drop i) (bs.drop i) front=(f (nth ts i) (nth xs i) (nth bs i)).map (fun z=>zbU c (front++[z]++xs.drop (i+1)))++zbb f c (ts.drop (i+1)) (xs.drop (i+1)) (bs.drop (i+1)) (front++[zcT 11 (nth xs i) (nth bs i)]):=by
 rw[zhZ h1 h2 h3,zn1 h]
theorem zlt {f:Ty->Pat->Pat->List Pat}{c:Int}{ts:List Ty}{xs bs front:List Pat}{i:Nat} (h1:i<ts.length) (h2:i<xs.length) (h3:i<bs.length) (h:(zaU 11 (nth xs i) (nth bs i)).isSome=false):
  zbb f c (ts.drop i) (xs.drop i) (bs.drop i) front=(f (nth ts i) (nth xs i) (nth bs i)).map (fun z=>zbU c (front++[z]++xs.drop (i+1))):=by
 rw[zhZ h1 h2 h3,zn2 h,List.append_nil]
theorem zmY {f:Ty->Pat->Pat->List Pat}{c:Int}{ts:List Ty}{xs bs front:List Pat}{i:Nat} (h1:ts.length<=i):zbb f c (ts.drop i) (xs.drop i) (bs.drop i) front=[]:=by
 rw[List.drop_eq_nil_of_le h1];rfl
theorem zqF {n:Nat} (h:n<=11):4 ^ n<=4194304:=Nat.le_trans (Nat.pow_le_pow_right (by omega) h) (by decide)
theorem zf2 {w:List Data} (hs:Spa w){n m:Nat}{t:Ty}{a b:Pat} (h:n<m) (h10:n<=10) (ht:InS (w.length*4) t) (ha:zaq w m t a=true) (hb:zaq w n t b=true):(zaB w n t a b).length<=20000000:=by
 have h1:=zoI hs n m h ht ha hb;have h2:=(zf3 hs n ht hb).2;have h3:=zqF (n:=n) (by omega);omega
theorem zuN {A B:List Pat}{y:Pat}{xs:List (List D)} (hx:xs=Pat.cs B) (hb:A.length+1+B.length<=1000):
  FnD Tryz.prog 247 [.d (.sl [[.sl (A.map Pat.cc)],[.sl [Pat.cc y]],[.sl xs]])] [] (.d (zaj (A++[y]++B))) []:=by
 have h:=zkF (ls:=[A,[y],B]) (by simp) (by simp;omega) (by simp;omega);have e:[A,[y],B].flatten=A++[y]++B:=by simp
 rw[e] at h;subst hx;have e2:zuv [A,[y],B] = .sl [[.sl (A.map Pat.cc)],[.sl [Pat.cc y]],[.sl (Pat.cs B)]]:=by
  show D.sl [[.sl (Pat.cs A)],[.sl (Pat.cs [y])],[.sl (Pat.cs B)]]=_
  rw[xaz A,xaz [y]];rfl
 rw[e2] at h;exact h
section
variable {w:List Data}{f:Nat->Nat}
abbrev MinusFn (w:List Data) (f:Nat->Nat) (n:Nat) (ta tk:Int) (a b:Pat):Prop:=
 FnD Tryz.prog 152 [.d (sPtr w f),.agg [.d (.i ta),.d (.i tk)],.agg [.d (.i a.op),.d (.i a.ctor),.d (.i a.n),.d (.i a.m),.d (.i a.var),.d (zaj a.kids)],.agg [.d (.i b.op),.d (.i b.ctor),.d (.i b.n),.d (.i b.m),.d (.i b.var),.d (zaj b.kids)]] [] (.d (zaj (zaB w n ⟨ta,tk⟩ a b))) []
theorem zql {n:Nat}{ta tk:Int}{a b:Pat} (h:b.op=1):MinusFn w f (n+1) ta tk a b:=by
 unfold MinusFn;rw[ziJ h];refine bd Tryz.f152 159 [] [] fun w0 F0 own kept hk=>?_;refine bx 3005 ?_;refine bx 3006 ?_;refine bx 3007 ?_;refine ev ?_;refine sq ?_ ?_<;>intro h1 h1p h1s;refine rn0 (r1 rfl) (.nild ?_);rotate_left;try simp only[Q] at h1p
 exfalso;omega;all_goals (rfl)
theorem zqm {n:Nat}{ta tk:Int}{a b:Pat} (h:b.op=3) (hbn:0<=b.n/\b.n<=9) (hbm:0<=b.m/\b.m<=9):MinusFn w f (n+1) ta tk a b:=by
 unfold MinusFn;rw[zk3 h];have er:zbI [lowQ a,minQ (zdh a) (b.n-1),maxQ (lowQ a) (b.m+1),zdh a] 2=zeP a b:=ztX _ _ _ _;have hrg:=zf1 (l:=[lowQ a,minQ (zdh a) (b.n-1),maxQ (lowQ a) (b.m+1),zdh a]) (n:=2) rfl (by omega);rw[er] at hrg;refine bd Tryz.f152 159 [] [] fun w0 F0 own kept hk=>?_;refine bx 3005 ?_;refine bx 3006 ?_;refine bx 3007 ?_;refine ev ?_;refine sq ?_ ?_<;>intro h1 h1p h1s;try simp only[Q] at h1p
 exfalso;omega;refine sq ?_ ?_<;>intro h2 h2p h2s;refine wc zvB (zmB) rfl rfl ?_;refine ev ?_;refine ar ?_;refine xa1 .none rfl rfl rfl ?_;refine ev ?_;refine ar ?_;refine xa0 .none rfl rfl rfl ?_;refine ev ?_;refine si [0,1,2,3] [_,_,_,_] sl29 tz3 ?_;refine wc zpX (hrg) rfl rfl ?_;refine ev ?_;focus (refine rq ?_;all_goals (rfl))
 try simp only[Q] at h2p
 exfalso;omega
theorem zqp {n:Nat}{ta tk:Int}{a b:Pat} (h4:a.op=4) (h4b:b.op=4) (hc:¬a.ctor=b.ctor):MinusFn w f (n+1) ta tk a b:=by
 unfold MinusFn;have e:zaB w (n+1) ⟨ta,tk⟩ a b=[a]:=by rw[zex h4b h4];exact if_neg hc
 rw[e];refine bd Tryz.f152 159 [] [] fun w0 F0 own kept hk=>?_;refine bx 3005 ?_;refine bx 3006 ?_;refine bx 3007 ?_;refine ev ?_;refine sq ?_ ?_<;>intro h1 h1p h1s;try simp only[Q] at h1p
 exfalso;omega;refine sq ?_ ?_<;>intro h2 h2p h2s;try simp only[Q] at h2p
 exfalso;omega;refine sq ?_ ?_<;>intro h3 h3p h3s;try simp only[Q] at h3p
 exfalso;omega;refine sq ?_ ?_<;>intro h4 h4p h4s;refine si [0] [_] sl34 tz36 ?_;refine ev ?_;refine rq ?_;rotate_left;try simp only[Q] at h4p
 exfalso;omega;all_goals (first|rfl|(cases a;rfl))
theorem zqo (hs:Spa w){n m:Nat} (hn:n+1<=10) (hm:m+1<=11) (hnm:n<m)
  (ih:∀ {ta tk:Int}{a b:Pat},InS (w.length*4) ⟨ta,tk⟩->zaq w m ⟨ta,tk⟩ a=true->zaq w n ⟨ta,tk⟩ b=true->MinusFn w f n ta tk a b)
  {ta tk:Int}{a b:Pat} (ht:InS (w.length*4) ⟨ta,tk⟩) (ha:zaq w (m+1) ⟨ta,tk⟩ a=true) (hb:zaq w (n+1) ⟨ta,tk⟩ b=true) (h4:a.op=4) (h4b:b.op=4) (hc:a.ctor=b.ctor):MinusFn w f (n+1) ta tk a b:=by
 obtain⟨c1,c2,c3,-⟩:=zba ha h4;obtain⟨d1,d2,d3,-⟩:=zba hb h4b;rw[<-hc] at d3;have h3l:=hs.args ⟨ta,tk⟩ a.ctor ht c1;have ka:=fun i (hi:i<a.kids.length)=>zbs ha hi;have kb:=fun i (hi:i<b.kids.length)=>zbs hb hi;rw[zbe h4] at ka;rw[zbe h4b,<-hc] at kb;have hbd:=zf2 hs (n:=n+1) (m:=m+1) (by omega) hn ht ha hb;have e:zaB w (n+1) ⟨ta,tk⟩ a b=zbb (zaB w n) a.ctor (zad w ⟨ta,tk⟩ a.ctor) a.kids b.kids []:=by rw[zex h4b h4];exact if_pos hc
 have hins:=fun i (hi:i<(zad w ⟨ta,tk⟩ a.ctor).length)=>zbh hs.dp ht c1 _ (zai hi);have hmi:∀i,i<(zad w ⟨ta,tk⟩ a.ctor).length->FnD Tryz.prog 152 [.d (sPtr w f),.agg [.d (.i (nth (zad w ⟨ta,tk⟩ a.ctor) i).data),.d (.i (nth (zad w ⟨ta,tk⟩ a.ctor) i).index)],.agg [.d (.i (nth a.kids i).op),.d (.i (nth a.kids i).ctor),.d (.i (nth a.kids i).n),.d (.i (nth a.kids i).m),.d (.i (nth a.kids i).var),.d (zaj (nth a.kids i).kids)],.agg [.d (.i (nth b.kids i).op),.d (.i (nth b.kids i).ctor),.d (.i (nth b.kids i).n),.d (.i (nth b.kids i).m),.d (.i (nth b.kids i).var),.d (zaj (nth b.kids i).kids)]] [] (.d (zaj (zaB w n (nth (zad w ⟨ta,tk⟩ a.ctor) i) (nth a.kids i) (nth b.kids i)))) []:=fun i hi=>ih (ta:=(nth (zad w ⟨ta,tk⟩ a.ctor) i).data) (tk:=(nth (zad w ⟨ta,tk⟩ a.ctor) i).index) (hins i hi) (ka i (by omega)) (kb i (by omega));have hme:=fun i (hi:i<(zad w ⟨ta,tk⟩ a.ctor).length)=>zkd hs 11 m (f:=f) (ta:=(nth (zad w ⟨ta,tk⟩ a.ctor) i).data) (tk:=(nth (zad w ⟨ta,tk⟩ a.ctor) i).index) (by omega) (hins i hi) (ka i (by omega)) (zk6 (by omega) (kb i (by omega)));unfold MinusFn;rw[e] at hbd ⊢;have hT:∀i out front,i<(zad w ⟨ta,tk⟩ a.ctor).length->out++zbb (zaB w n) a.ctor ((zad w ⟨ta,tk⟩ a.ctor).drop i) (a.kids.drop i) (b.kids.drop i) front=zbb (zaB w n) a.ctor (zad w ⟨ta,tk⟩ a.ctor) a.kids b.kids []->
   out.length+(zaB w n (nth (zad w ⟨ta,tk⟩ a.ctor) i) (nth a.kids i) (nth b.kids i)).length<=20000000:=fun i out front hi h=>by
  rw[zhZ hi (by omega) (by omega)] at h;have:=congrArg List.length h;simp only[xaa,xac] at this;omega
 refine bd Tryz.f152 159 [14,15] [] fun w0 F0 own kept hk=>?_;refine bx 3005 ?_;refine bx 3006 ?_;refine bx 3007 ?_;refine evs [14,15] [] ?_;refine sq ?_ ?_<;>intro h1 h1p h1s;try simp only[Q,Pat.cs_len] at h1p
 exfalso;omega;refine sq ?_ ?_<;>intro h2 h2p h2s;try simp only[Q,Pat.cs_len] at h2p
 exfalso;omega;refine sq ?_ ?_<;>intro h3 h3p h3s;try simp only[Q,Pat.cs_len] at h3p
 exfalso;omega;refine sq ?_ ?_<;>intro h4 h4p h4s;try simp only[Q,Pat.cs_len] at h4p
 exfalso;omega;refine xaF 9 6 .none rfl rfl ?_;refine xaF 8 6 .none rfl rfl ?_;refine tv ?_;refine wc zdf (zbp hs.dp.wt (zbE ht) c1) rfl rfl ?_;refine evd [14,15] [] ?_;refine dr ?_;refine xam (ι:=Nat×List Pat×List Pat) hk (fun s=>[(94,.d (.i (s.1:Int))),(14,.gl 9 (s.2.1.map Pat.cc)),(15,.gl 8 (s.2.2.map Pat.cc))]) [16,17,19,20,21,22,95,96,97,98,99,100,101,102,103,104,105,106,107,108,109,110,111,112,113,114,115,116,117,118,119,120,121,122,123,124,125,126,127,128,129,130,131,132,133,134,135,136,137,138,139,140,141,142,143,144,145,146,147,148,149,150,151,152,153,154,155,156,157] (fun s=>[(9,some (.tok ((s.2.1.map Pat.cc)).length 6)),(8,some (.tok ((s.2.2.map Pat.cc)).length 6))]) (fun s=>s.1<=a.kids.length/\s.2.2.length=s.1/\s.2.1++zbb (zaB w n) a.ctor ((zad w ⟨ta,tk⟩ a.ctor).drop s.1) (a.kids.drop s.1) (b.kids.drop s.1) s.2.2=zbb (zaB w n) a.ctor (zad w ⟨ta,tk⟩ a.ctor) a.kids b.kids []) (fun s=>a.kids.length-s.1) (0,[],[]) ⟨by simp,rfl,rfl⟩ ⟨⟨_,rfl,xax ?_⟩,⟨⟨_,rfl,LeA.glg ?_⟩,⟨⟨_,rfl,LeA.glg ?_⟩,trivial⟩⟩⟩ ⟨zag ?_,⟨zag ?_,trivial⟩⟩ (fun x=>rfl) (fun s hg2=>?_);iterate 5 focus (rfl)
 refine evc [14,15] [] ?_;refine sq ?_ ?_<;>intro h5 h5p h5s<;>(try simp only[Q,Pat.cs_len] at h5p);refine xaP zaK .none rfl rfl rfl rfl (zaz (by omega)) rfl ?_;refine evs [14,15] [] ?_;refine ab 3017 tz25 ?_;refine evs [14,15] [] ?_;refine so ty25 ?_;refine tv ?_;refine xaP sl34 .none rfl rfl rfl rfl (zas (by omega)) rfl ?_;refine evd [14,15] [] ?_;refine xaP sl34 .none rfl rfl rfl rfl (zas (by omega)) rfl ?_;refine evd [14,15] [] ?_;refine wc zpP (hmi s.1 (by omega)) rfl rfl ?_;refine evd [14,15] [] ?_;refine dr ?_;refine xam (ι:=List (Pat)×List (Pat)) hk (fun x=>[(113,.d (.i (x.1.length:Int))),(14,.gl 9 ((s.2.1++x.1.map (fun z=>zbU a.ctor (s.2.2++[z]++a.kids.drop (s.1+1)))).map Pat.cc))]) [19,20,114,115,116,117,118,119,120,121,122,123,124,125,126,127,128,129,130,131,132,133,134] (fun x=>[(9,some (.tok (((s.2.1++x.1.map (fun z=>zbU a.ctor (s.2.2++[z]++a.kids.drop (s.1+1)))).map Pat.cc)).length 6))]) (fun x=>x.1++x.2=(zaB w n (nth (zad w ⟨ta,tk⟩ a.ctor) s.1) (nth a.kids s.1) (nth b.kids s.1))) (fun x=>x.2.length) ([],(zaB w n (nth (zad w ⟨ta,tk⟩ a.ctor) s.1) (nth a.kids s.1) (nth b.kids s.1))) (by simp) ⟨⟨_,rfl,xax ?_⟩,⟨⟨_,rfl,LeA.glg ?_⟩,trivial⟩⟩ ⟨zag ?_,trivial⟩ (fun x=>rfl) (fun x hg3=>?_);iterate 3 focus ((simp;done))
 obtain⟨pre,rest⟩:=x;dsimp only at hg3 ⊢;refine evc [14,15] [] ?_;refine sq ?_ ?_<;>intro h6 h6p h6s<;>(try simp only[Q,Pat.cs_len] at h6p);rcases rest with _|⟨y,rest⟩
 ·exfalso;simp_all
 refine xaP sl34 .none rfl rfl rfl rfl (Pat.cs_at' hg3) rfl ?_;refine evs [14,15] [] ?_;refine ab 3019 tz36 ?_;refine so ty36 ?_;refine tv ?_;refine si [0] [_] sl34 tz36 ?_;refine evd [14,15] [] ?_;refine ar ?_ (by(constructor<;>omega));refine xaM (b:=s.1+1) sl34 .none rfl rfl rfl (by intro x hx;exact zcm _ x hx) rfl rfl (by simp only[Pat.cs_len];omega) ?_;refine si [0,1,2] [_,_,_] zd2 tz34 ?_;refine wc zvD (zuN (A:=s.2.2) (y:=y) (xs:=(Pat.cs a.kids).drop (s.1+1)) (B:=a.kids.drop (s.1+1)) (by rw[xaz,xaz,List.map_drop]) (by rw[List.length_drop];omega)) rfl rfl ?_;refine evd [14,15] [] ?_;refine dr ?_;refine bu [0,1,5] [_,_,_] st36 ?_;refine si [0] [_] sl34 tz36 ?_;refine ap sl34 zz36 rfl rfl rfl (by intro x hx;(simp at hx;subst hx;rfl)) (by(have h9:=hT s.1 s.2.1 s.2.2 (by omega) hg2.2.2;have h8:=congrArg List.length hg3;simp at h8 ⊢;omega)) ?_;refine asg ?_;refine tv ?_;refine ar ?_ (by(have h9:=hT s.1 s.2.1 s.2.2 (by omega) hg2.2.2;have h8:=congrArg List.length hg3;simp only[xaa,xab] at h8;constructor<;>omega));refine xah ((pre++[y],rest)) ⟨(by have hz:=hg3;rw[<-hz];simp),(by simp),sx ⟨⟨_,rfl,xax ?_⟩,⟨⟨_,rfl,LeA.glg ?_⟩,trivial⟩⟩ ⟨zag ?_,trivial⟩⟩;iterate 3 focus (first|(simp;done)|(simp only[xaf,List.append_assoc,xae,List.map_nil];rfl)|(simp;omega))
 have hrest:rest=[]:=by
  rcases rest with _|⟨a,b⟩
  ·rfl
  ·exfalso;have hz:=congrArg List.length (hg3);simp only[xaa,xab,xac] at hz;omega
 subst hrest;refine xaP sl34 .none rfl rfl rfl rfl (zas (by omega)) rfl ?_;refine evd [14,15] [] ?_;refine xaP sl34 .none rfl rfl rfl rfl (zas (by omega)) rfl ?_;refine evd [14,15] [] ?_;refine wc zsK (hme s.1 (by omega)) rfl rfl ?_;refine evd [14,15] [] ?_;refine ab 3021 tz36 ?_;refine so ty36 ?_;refine evd [14,15] [] ?_;refine dr ?_;refine sq ?_ ?_<;>intro h7 h7p h7s;refine rn0 (r1 rfl) (.gld ?_);rotate_left;try simp only[Q,Pat.cs_len] at h7p
 refine si [0] [_] sl34 tz36 ?_;refine ap sl34 zz36 rfl rfl rfl (by intro x hx;(simp at hx;subst hx;rfl)) (by(have h9:=hT s.1 s.2.1 s.2.2 (by omega) hg2.2.2;have h8:=congrArg List.length hg3;simp at h8 ⊢;omega)) ?_;refine asg ?_;refine tv ?_;refine ar ?_ (by(constructor<;>omega));refine xah ((s.1+1,s.2.1++(zaB w n (nth (zad w ⟨ta,tk⟩ a.ctor) s.1) (nth a.kids s.1) (nth b.kids s.1)).map (fun z=>zbU a.ctor (s.2.2++[z]++a.kids.drop (s.1+1))),s.2.2++[zcT 11 (nth a.kids s.1) (nth b.kids s.1)])) ⟨⟨by dsimp only;omega,by dsimp only;rw[xaa,hg2.2.1];rfl,by dsimp only;rw[List.append_assoc,<-zlu (by omega) (by omega) (by omega) (by assumption)];exact hg2.2.2⟩,(by dsimp only;omega),sx ⟨⟨_,rfl,xax ?_⟩,⟨⟨_,rfl,LeA.glg ?_⟩,⟨⟨_,rfl,LeA.glg ?_⟩,trivial⟩⟩⟩ ⟨zag ?_,⟨zag ?_,trivial⟩⟩⟩;iterate 5 focus ((simp_all;done))
 refine rn0 (r1 rfl) (.gld ?_);rotate_left;all_goals (first|(rw[<-hg2.2.2,zmY (by omega),List.append_nil,xaz];done)|(rw[List.append_nil] at hg3;rw[<-hg2.2.2,zlt (by omega) (by omega) (by omega) (by assumption),<-hg3,xaz];all_goals rfl))
theorem zqn (hs:Spa w){n:Nat}{ta tk:Int}{a b:Pat} (ht:InS (w.length*4) ⟨ta,tk⟩) (h1:a.op=1) (h4b:b.op=4) (hbd:(zaB w (n+1) ⟨ta,tk⟩ a b).length<=20000000)
  (hC:∀c∈zaA w ⟨ta,tk⟩,MinusFn w f (n+1) ta tk (zcg w ⟨ta,tk⟩ c) b):MinusFn w f (n+1) ta tk a b:=by
 have e:zaB w (n+1) ⟨ta,tk⟩ a b=(zaA w ⟨ta,tk⟩).flatMap fun c=>zaB w (n+1) ⟨ta,tk⟩ (zcg w ⟨ta,tk⟩ c) b:=by
  rw[ziK h4b h1];exact congrArg (fun g=>(zaA w ⟨ta,tk⟩).flatMap g) (funext fun c=>(zex h4b rfl).symm)
 unfold MinusFn;rw[e] at hbd ⊢;have hcl:=(hs.ctors _ ht).1;have hpre:∀ {pre rest:List Int}{y:Int},pre++y::rest=zaA w ⟨ta,tk⟩->(pre.flatMap fun c=>zaB w (n+1) ⟨ta,tk⟩ (zcg w ⟨ta,tk⟩ c) b).length+(zaB w (n+1) ⟨ta,tk⟩ (zcg w ⟨ta,tk⟩ y) b).length<=20000000:=fun h=>by
  rw[<-h,List.flatMap_append,List.flatMap_cons] at hbd;simp only[xaa] at hbd;omega
 have hmem:∀ {pre rest:List Int}{y:Int},pre++y::rest=zaA w ⟨ta,tk⟩->y∈zaA w ⟨ta,tk⟩:=fun h=>by rw[<-h];simp
 refine bd Tryz.f152 159 [11] [] fun w0 F0 own kept hk=>?_;refine bx 3005 ?_;refine bx 3006 ?_;refine bx 3007 ?_;refine evs [11] [] ?_;refine sq ?_ ?_<;>intro h1 h1p h1s;try simp only[Q,Pat.cs_len] at h1p
 exfalso;omega;refine sq ?_ ?_<;>intro h2 h2p h2s;try simp only[Q,Pat.cs_len] at h2p
 exfalso;omega;refine sq ?_ ?_<;>intro h3 h3p h3s;refine xaF 9 6 .none rfl rfl ?_;refine tv ?_;refine wc zfm (zc0 hs.dp.wt (zbE ht)) rfl rfl ?_;refine evd [11] [] ?_;refine dr ?_;refine xam (ι:=List (Int)×List (Int)) hk (fun x=>[(61,.d (.i (x.1.length:Int))),(11,.gl 9 (Pat.cs (x.1.flatMap fun c=>zaB w (n+1) ⟨ta,tk⟩ (zcg w ⟨ta,tk⟩ c) b)))]) [13,62,63,64,65,66,67,68,69,70,71,72,73,74,75] (fun x=>[(9,some (.tok ((Pat.cs (x.1.flatMap fun c=>zaB w (n+1) ⟨ta,tk⟩ (zcg w ⟨ta,tk⟩ c) b))).length 6))]) (fun x=>x.1++x.2=zaA w ⟨ta,tk⟩) (fun x=>x.2.length) ([],zaA w ⟨ta,tk⟩) (by simp) ⟨⟨_,rfl,xax ?_⟩,⟨⟨_,rfl,LeA.glg ?_⟩,trivial⟩⟩ ⟨zag ?_,trivial⟩ (fun x=>rfl) (fun x hg1=>?_);iterate 3 focus (rfl)
 obtain⟨pre,rest⟩:=x;dsimp only at hg1 ⊢;refine evc [11] [] ?_;refine sq ?_ ?_<;>intro h4 h4p h4s<;>(try simp only[Q,Pat.cs_len] at h4p);rcases rest with _|⟨y,rest⟩
 ·exfalso;simp_all
 refine xaP sl29 .none rfl rfl rfl rfl (zaN hg1) rfl ?_;refine evs [11] [] ?_;refine wc zvC (zpe hs.dp.wt (f:=f) (zbE ht) (hmem hg1) (hs.args _ _ ht (hmem hg1))) rfl rfl ?_;refine evd [11] [] ?_;refine wc zpP (hC y (hmem hg1)) rfl rfl ?_;refine ap sl34 zz36 rfl rfl rfl (by exact zcm _) (by have h9:=hpre hg1;simp only[Pat.cs_len];omega) ?_;refine asg ?_;refine dr ?_;refine ar ?_;refine xah ((pre++[y],rest)) ⟨(by have hz:=hg1;rw[<-hz];simp),(by simp),sx ⟨⟨_,rfl,xax ?_⟩,⟨⟨_,rfl,LeA.glg ?_⟩,trivial⟩⟩ ⟨zag ?_,trivial⟩⟩;iterate 3 focus (first|(rw[List.flatMap_append,xaz,xaz,xaz,xaf];simp;done)|(simp[Pat.cs_len];done))
 have hrest:rest=[]:=by
  rcases rest with _|⟨a,b⟩
  ·rfl
  ·exfalso;have hz:=congrArg List.length (hg1);simp only[xaa,xab,xac] at hz;omega
 subst hrest;refine rn0 (r1 rfl) (.gld ?_);rotate_left;try simp only[Q,Pat.cs_len] at h3p
 exfalso;omega;all_goals ((rw[List.append_nil] at hg1;rw[hg1];done))
theorem zjF (hs:Spa w):∀(n m:Nat){ta tk:Int}{a b:Pat},n<m->n<=10->m<=11->InS (w.length*4) ⟨ta,tk⟩->zaq w m ⟨ta,tk⟩ a=true->zaq w n ⟨ta,tk⟩ b=true->MinusFn w f n ta tk a b
 |0,m,ta,tk,a,b,_,_,_,_,_,hb=>by simp[zaq] at hb
 |n+1,0,ta,tk,a,b,h,_,_,_,_,_=>by omega
 |n+1,m+1,ta,tk,a,b,h,hn,hm,ht,ha,hb=>by
  have hC:∀ {a:Pat},zaq w (m+1) ⟨ta,tk⟩ a=true->a.op=4->b.op=4->MinusFn w f (n+1) ta tk a b:=fun {a} ha h4 h4b=>by
   by_cases hc:a.ctor=b.ctor
   ·exact zqo hs hn hm (by omega) (fun h1 h2 h3=>zjF hs n m (by omega) (by omega) (by omega) h1 h2 h3) ht ha hb h4 h4b hc
   ·exact zqp h4 h4b hc
  rcases zcd hb with h1|h3|h4b
  ·exact zql h1
  ·have:=zcy hb h3;exact zqm h3 ⟨by omega,by omega⟩ ⟨by omega,by omega⟩
  ·by_cases h1:a.op=1
   ·obtain⟨m',rfl⟩:∃m',m=m'+1:=⟨m-1,by omega⟩;exact zqn hs ht h1 h4b (zf2 hs h hn ht ha hb) (fun c hc=>hC (zdT hc) rfl h4b)
   ·exact hC ha (by have:=zdS ha hb h1 (by omega);omega) h4b
end
theorem zem {α:Type}{N:Nat}{X Y:List α} (h:N<=X.length):(X++Y).take N=X.take N:=by
 rw[List.take_append,(by omega:N-X.length=0)];simp
theorem zu8 {α β:Type} [Inhabited β]{X:List α}{l:List β}{h:β->α}{j m:Nat} (hj:j<l.length) (hl:((X++(l.take j).map h).take (m+1)).length<=m):
  (X++(l.take (j+1)).map h).take (m+1)=(X++(l.take j).map h).take (m+1)++[h (nth l j)]:=by
 have e1:l.take (j+1)=l.take j++[nth l j]:=by rw[List.take_succ_eq_append_getElem hj,zbc hj]
 rw[List.length_take] at hl;have h2:(X++(l.take j).map h).length<=m:=by omega
 rw[e1,xaf,<-List.append_assoc,List.take_of_length_le (by simp at h2 ⊢;omega),List.take_of_length_le (l:=X++(l.take j).map h) (by omega)];rfl
theorem zu7 {α β:Type}{X:List α}{l:List β}{h:β->α}{j m:Nat} (hc:¬j<l.length\/¬((X++(l.take j).map h).take (m+1)).length<=m):
  (X++(l.take j).map h).take (m+1)=(X++l.map h).take (m+1):=by
 rcases hc with hc|hc
 ·rw[List.take_of_length_le (l:=l) (by omega)]
 ·rw[List.length_take] at hc;have e:l.map h=(l.take j).map h++(l.drop j).map h:=by rw[<-xaf,List.take_append_drop]
  rw[e,<-List.append_assoc,zem (X:=X++(l.take j).map h) (by omega)]
theorem zrC {α β:Type} [Inhabited β]{l:List β}{g:β->List α}{j:Nat} (hj:j<l.length):(l.take (j+1)).flatMap g=(l.take j).flatMap g++g (nth l j):=by
 rw[List.take_succ_eq_append_getElem hj,List.flatMap_append,zbc hj];simp
theorem znH {α β:Type}{l:List β}{g:β->List α}{j m:Nat} (hc:¬j<l.length\/¬(((l.take j).flatMap g).take (m+1)).length<=m):
  ((l.take j).flatMap g).take (m+1)=(l.flatMap g).take (m+1):=by
 rcases hc with hc|hc
 ·rw[List.take_of_length_le (l:=l) (by omega)]
 ·rw[List.length_take] at hc;have e:l.flatMap g=(l.take j).flatMap g++(l.drop j).flatMap g:=by rw[<-List.flatMap_append,List.take_append_drop]
  rw[e,zem (X:=(l.take j).flatMap g) (by omega)]
end Go.Proofs.YtlfipehhbdjnjaaGreat
