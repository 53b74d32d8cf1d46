/-
  THE ABSTRACT WALK AND THE WALKS, part 4 of 5: the parts F26, F23, F27, F28, F29, F40, F14, F16, F42, F50, F51, F52, F53, F54, F55, F56, F57, F58, F70, Val, F7, F8, Wu, F9, F71, F72, F74, F75, F76, F77, F78, F18, F19, F31, F32, F33, F34, F35, F36, F37, F38, F79, F59, F80, F10, F11, F17, F43, F44, F45, F46, F60, F61, F30, F63, F81, F110, F113, F120, F73, F82.
-/
import Derived.Test.YtlfipehhbdjnjaaGreatT533
namespace Go.Proofs.YtlfipehhbdjnjaaGreat
open Go
set_option linter.unusedSimpArgs false
set_option linter.unusedVariables false
set_option maxRecDepth 100000
set_option maxHeartbeats 2000000
abbrev dPtr (f:Nat->Nat):D:= .ptr (tabD 16 f) 0
abbrev sPtr (w:List Data) (f:Nat->Nat):D:= .ptr [zam w,dPtr f] 0
theorem zkw {n:Nat}{f:Nat->Nat}{a k:Int} (h:InS n ⟨a,k⟩) (hn:n<=16):
  FnD Tryz.prog 140 [.ref 71 0,.agg [.d (.i a),.d (.i k)]] [(71,some (.box (tabC 16 f)))] (.d (.i (dv f ⟨a,k⟩))) []:=by
 have hs:=h.facts;refine bd Tryz.f140 17 [16] [] fun w0 F0 own kept hk=>?_;refine Walk.box (id:=3003) .none rfl rfl rfl (by first|rfl|(simp only[zaj,occH,occE,Res.ids,xag,List.nil_append,AV.idsL,AV.ids,zab,zaa,zac,zan,xae,List.map_nil,upC,zaD];rfl)) (by first|rfl|(simp only[zaj,occH,occE,Res.ids,xag,List.nil_append,AV.idsL,AV.ids,zab,zaa,zac,zan,xae,List.map_nil,upC,zaD];rfl)) (by first|rfl|(simp only[zaj,occH,occE,Res.ids,xag,List.nil_append,AV.idsL,AV.ids,zab,zaa,zac,zan,xae,List.map_nil,upC,zaD];rfl)) (by first|rfl|(simp only[zaj,occH,occE,Res.ids,xag,List.nil_append,AV.idsL,AV.ids,zab,zaa,zac,zan,xae,List.map_nil,upC,zaD];rfl)) ?_;refine evs [16] [] ?_;refine sq ?_ ?_<;>intro h1 h1p h1s<;>(try simp only[Q] at h1p);refine rn [] (r1 rfl) (.eqd ?_) ⟨rfl,rfl⟩ (SubH.get ⟨rfl,trivial⟩) (fun _ h=>h);rotate_left;refine xaT (i:=a.toNat) zob .none rfl rfl rfl (by have:=hs h1p;omega) (by have:=hs h1p;omega) ?_;refine xaT (i:=k.toNat) zqr .none rfl rfl rfl (by have:=hs h1p;omega) (by have:=hs h1p;omega) ?_;refine xaY ty3 .none rfl rfl rfl ((zkg (s:=zcF ⟨a,k⟩) (by have:=hs h1p;omega) (by have:=hs h1p;omega))) ?_;refine evd [16] [] ?_;refine dr ?_;refine rn [] (r1 rfl) (.eqd ?_) ⟨rfl,rfl⟩ (SubH.get ⟨rfl,trivial⟩) (fun _ h=>h);rotate_left;all_goals (first|(rw[zlz (by assumption)];rfl)|(rw[zly (by assumption)]))
theorem zlI {n:Nat}{f:Nat->Nat}{a k:Int} (h:InS n ⟨a,k⟩) (hn:n<=16):
  FnD Tryz.prog 140 [.d (dPtr f),.agg [.d (.i a),.d (.i k)]] [] (.d (.i (dv f ⟨a,k⟩))) []:=by
 have hs:=h.facts;refine bd Tryz.f140 17 [16] [] fun w0 F0 own kept hk=>?_;refine bx 3003 ?_;refine evs [16] [] ?_;refine sq ?_ ?_<;>intro h1 h1p h1s<;>(try simp only[Q] at h1p);refine rq ?_;rotate_left;refine xaU (i:=a.toNat) zob .none rfl rfl rfl (by have:=hs h1p;omega) (by have:=hs h1p;omega) ?_;refine xaU (i:=k.toNat) zqr .none rfl rfl rfl (by have:=hs h1p;omega) (by have:=hs h1p;omega) ?_;refine xa0 ty3 .none rfl rfl (zsJ (s:=zcF ⟨a,k⟩) (by have:=hs h1p;omega) (by have:=hs h1p;omega)) ?_;refine evd [16] [] ?_;refine dr ?_;refine rq ?_;rotate_left;all_goals (first|(rw[zlz (by assumption)];rfl)|(rw[zly (by assumption)]))
theorem zlH {w:List Data} (hw:WT w){n:Nat}{f:Nat->Nat}{a k c:Int} (ht:TyIn w.length ⟨a,k⟩) (hc:c∈zaA w ⟨a,k⟩) (hn:n<=16) (hb:∀s,f s<=100000) (hin:∀u∈zak w ⟨a,k⟩ c,InS n u):
  FnD Tryz.prog 235 [.ref 71 0,.d (zam w),.agg [.d (.i a),.d (.i k)],.d (.i c)] [(71,some (.box (tabC 16 f)))] (.d (.i (most w f ⟨a,k⟩ c))) []:=by
 have hl:=zi0 hw ht hc;have hd:=zs5 hb (by omega);refine bd Tryz.f235 33 [] [] fun w0 F0 own kept hk=>?_;refine Walk.box (id:=3006) .none rfl rfl rfl (by first|rfl|(simp only[zaj,occH,occE,Res.ids,xag,List.nil_append,AV.idsL,AV.ids,zab,zaa,zac,zan,xae,List.map_nil,upC,zaD];rfl)) (by first|rfl|(simp only[zaj,occH,occE,Res.ids,xag,List.nil_append,AV.idsL,AV.ids,zab,zaa,zac,zan,xae,List.map_nil,upC,zaD];rfl)) (by first|rfl|(simp only[zaj,occH,occE,Res.ids,xag,List.nil_append,AV.idsL,AV.ids,zab,zaa,zac,zan,xae,List.map_nil,upC,zaD];rfl)) (by first|rfl|(simp only[zaj,occH,occE,Res.ids,xag,List.nil_append,AV.idsL,AV.ids,zab,zaa,zac,zan,xae,List.map_nil,upC,zaD];rfl)) ?_;refine ev ?_;refine Walk.call (cr:=[]) zi3 (zcY hw ht hc) rfl .none rfl rfl (LeL.refl _) trivial rfl (by first|rfl|(simp only[zas,List.all_cons,List.all_nil,zaC,zay,AV.idsL,AV.ids,zab,zaa,xae,List.map_nil,zaD];rfl)) (by first|rfl|(simp only[zaj,occH,occE,Res.ids,xag,List.nil_append,AV.idsL,AV.ids,zab,zaa,zac,zan,xae,List.map_nil,upC,zaD];rfl)) ?_;refine ev ?_;refine xam (ι:=List (Ty)×List (Ty)×(Nat)) hk (fun x=>[(18,.d (.i (x.1.length:Int))),(9,.d (.i (x.2.2:Int)))]) [8,11,12,19,20,21,22,23,24,25,26,27,28,29,30] (fun x=>[]) (fun x=>x.1++x.2.1=zak w ⟨a,k⟩ c/\x.2.2<=100000/\zbP f x.2.2 x.2.1=zbP f 0 (zak w ⟨a,k⟩ c)) (fun x=>x.2.1.length) ([],zak w ⟨a,k⟩ c,0) ⟨by simp,by simp,rfl⟩ ⟨⟨_,rfl,xaz ?_⟩,⟨⟨_,rfl,xaz ?_⟩,trivial⟩⟩ trivial (fun x=>rfl) (fun x hg1=>?_);iterate 2 focus (first|rfl|(simp;done))
 obtain⟨pre,rest,m⟩:=x;dsimp only at hg1 ⊢;refine evc [] [] ?_;refine sq ?_ ?_<;>intro h1 h1p h1s<;>(try simp only[Q] at h1p);rcases rest with _|⟨y,rest⟩
 ·exfalso;simp_all
 have hdy:=hd y;have hye:dv f ⟨y.data,y.index⟩=dv f y:=rfl;refine xaS za4 .none rfl rfl rfl rfl (zaR hg1.1) rfl ?_;refine ev ?_;refine Walk.alloc (id:=3011) tz25 rfl .none rfl (by first|rfl|(simp only[zaj,occH,occE,Res.ids,xag,List.nil_append,AV.idsL,AV.ids,zab,zaa,zac,zan,xae,List.map_nil,upC,zaD];rfl)) (by first|rfl|(simp only[zaj,occH,occE,Res.ids,xag,List.nil_append,AV.idsL,AV.ids,zab,zaa,zac,zan,xae,List.map_nil,upC,zaD];rfl)) (by first|rfl|(simp only[zaj,occH,occE,Res.ids,xag,List.nil_append,AV.idsL,AV.ids,zab,zaa,zac,zan,xae,List.map_nil,upC,zaD];rfl)) ?_;refine so ty25 ?_;refine tv ?_;refine Walk.call (cr:=[]) zi2 (zkw (f:=f) (a:=y.data) (k:=y.index) (hin y (by rw[<-hg1.1];simp)) hn) rfl .none rfl rfl (LeL.refl _) ⟨rfl,trivial⟩ rfl (by first|rfl|(simp only[zas,List.all_cons,List.all_nil,zaC,zay,AV.idsL,AV.ids,zab,zaa,xae,List.map_nil,zaD];rfl)) (by first|rfl|(simp only[zaj,occH,occE,Res.ids,xag,List.nil_append,AV.idsL,AV.ids,zab,zaa,zac,zan,xae,List.map_nil,upC,zaD];rfl)) ?_;refine ev ?_;refine sq ?_ ?_<;>intro h2 h2p h2s<;>(try simp only[Q] at h2p);refine rn [] (r1 rfl) (.eqd ?_) ⟨rfl,rfl⟩ (SubH.get ⟨rfl,trivial⟩) (fun _ h=>h);rotate_left;refine xa4 .none rfl rfl rfl ?_;refine ev ?_;refine ar ?_;refine xah ((pre++[y],rest,max m (dv f y))) ⟨⟨(by have hz:=hg1.1;rw[<-hz];simp),⟨(by have:=hd y;dsimp only;omega),(by rw[<-hg1.2.2];simp only[zbP];rw[if_neg (by have:=hd y;omega)])⟩⟩,(by simp),sx ⟨⟨_,rfl,xaz ?_⟩,⟨⟨_,rfl,xaz ?_⟩,trivial⟩⟩ trivial⟩;iterate 2 focus (first|rfl|(simp;done)|(dsimp only;omega))
 have hrest:rest=[]:=by
  rcases rest with _|⟨a,b⟩
  ·rfl
  ·exfalso;have hz:=congrArg List.length (hg1.1);simp only[xaa,xab,xac] at hz;omega
 subst hrest;refine ar ?_;refine rn [] (r1 rfl) (.eqd ?_) ⟨rfl,rfl⟩ (SubH.get ⟨rfl,trivial⟩) (fun _ h=>h);rotate_left;all_goals (refine congrArg D.i ?_;unfold most;rw[<-hg1.2.2];first|(simp only[zbP];rw[if_pos (by omega)];rfl)|(simp only[zbP];omega))
theorem zh1 {i j:Nat} (h:j<4):tyS (i*4+j)=⟨(i:Int),(j:Int)⟩:=by
 unfold tyS;rw[show(i*4+j) / 4=i by omega,show(i*4+j) % 4=j by omega]
theorem zpX {w:List Data}{k s:Nat}{pre:List Int}:Bet (zbb w k) (rowT w k s pre):=(znP _ _).trans (zm0 _ _)
theorem zjT {w:List Data}{g f:Nat->Nat}{s:Nat}{c:Int} (hB:Bet g f)
  (h:decide ((0:Int)<(most w f (tyS s) c:Int)/\((f s:Int)=0\/(most w f (tyS s) c:Int)<(f s:Int)))=true):Strict g (zbA w s f c):=by
 rw[zdV h];rw[decide_eq_true_eq] at h;refine⟨s,by unfold updF;rw[if_pos rfl];omega, ?_⟩;unfold updF;rw[if_pos rfl];rcases Nat.eq_zero_or_pos (g s) with h0|h0
 ·exact .inl h0
 ·have:=hB s h0;right;omega
theorem zlD {w:List Data} (hw:WT w){i j:Nat} (hi:i<w.length) (hj:j<4):FnD Tryz.prog 234 [.d (zam w),.agg [.d (.i (i:Int)),.d (.i (j:Int))]] [] (.d (zcs (zba w (tyS (i*4+j))))) []:=by
 rw[<-ziE,zh1 hj];exact zd9 hw (.inr ⟨i,rfl,hi⟩)
theorem zlJ {w:List Data}{f:Nat->Nat}{i j:Nat} (hi:i<w.length) (h4:w.length<=4) (hj:j<4):
  FnD Tryz.prog 140 [.ref 71 0,.agg [.d (.i (i:Int)),.d (.i (j:Int))]] [(71,some (.box (tabC 16 f)))] (.d (.i (f (i*4+j)))) []:=by
 have h:=zkw (n:=w.length*4) (f:=f) (a:=(i:Int)) (k:=(j:Int)) (.inr ⟨by simp only[zcF,Int.toNat_natCast];omega,by simp only[zcF,Int.toNat_natCast];exact zh1 hj⟩) (by omega);have e:zcF ⟨(i:Int),(j:Int)⟩=i*4+j:=by simp only[zcF,Int.toNat_natCast]
 rwa [zly (by omega),e] at h
theorem zmN {w:List Data} (hd:Dp w){f:Nat->Nat}{i j:Nat}{c:Int} (hi:i<w.length) (hj:j<4) (hc:c∈zba w (tyS (i*4+j))) (hb:∀s,f s<=100000):
  FnD Tryz.prog 235 [.ref 71 0,.d (zam w),.agg [.d (.i (i:Int)),.d (.i (j:Int))],.d (.i c)] [(71,some (.box (tabC 16 f)))] (.d (.i (most w f (tyS (i*4+j)) c))) []:=by
 have h4:=hd.four;have hcl:=hd.cl (i*4+j) (by omega) c hc;rw[<-ziE,zh1 hj] at hc;rw[zh1 hj] at hcl ⊢;exact zlH hd.wt (.inr ⟨i,rfl,hi⟩) hc (n:=w.length*4) (by omega) hb hcl
theorem zkO {w:List Data} (hd:Dp w):FnD Tryz.prog 139 [.d (zam w)] [] (.d (dPtr (zaI w))) []:=by
 have hw:=hd.wt;have hw4:=hd.four;have hlw:((w.map Data.c).length:Int)=w.length:=by simp
 refine bd Tryz.f139 64 [] [16,20] fun w0 F0 own kept hk=>?_;refine Walk.buildZ zva zob .none rfl ?_;refine Walk.box (id:=71) .none rfl rfl rfl (by first|rfl|(simp only[zaj,occH,occE,Res.ids,xag,List.nil_append,AV.idsL,AV.ids,zab,zaa,zac,zan,xae,List.map_nil,upC,zaD];rfl)) (by first|rfl|(simp only[zaj,occH,occE,Res.ids,xag,List.nil_append,AV.idsL,AV.ids,zab,zaa,zac,zan,xae,List.map_nil,upC,zaD];rfl)) (by first|rfl|(simp only[zaj,occH,occE,Res.ids,xag,List.nil_append,AV.idsL,AV.ids,zab,zaa,zac,zan,xae,List.map_nil,upC,zaD];rfl)) (by first|rfl|(simp only[zaj,occH,occE,Res.ids,xag,List.nil_append,AV.idsL,AV.ids,zab,zaa,zac,zan,xae,List.map_nil,upC,zaD];rfl)) ?_;refine ev ?_;refine xam (ι:=Nat×Bool) hk (fun o=>[(4,.d (.bool o.2))]) [5,6,7,9,10,13,14,15,16,17,18,19,20,21,22,23,24,25,26,27,28,29,30,31,32,33,34,35,36,37,38,39,40,41,42,43,44,45,46,47,48,49,50,51,52,53,54,55,56,57,58,59,60,61,62] (fun o=>[(71,some (.box (tabC 16 (zbb w o.1))))]) (fun o=>(o.2=false->zbb w o.1=zaI w)/\(o.2=true->o.1<=w.length*4+1)) (fun o=>if o.2 then w.length*4+2-o.1 else 0) (0,true) ⟨by simp,by simp⟩ ⟨⟨_,rfl,xay ?_⟩,trivial⟩ ⟨?_,trivial⟩ (fun x=>rfl) (fun o hg1=>?_);focus (first|rfl|(simp;done))
 focus (first|rfl|(have e:y.1=w.length:=(by omega);rw[e];rfl))
 refine evc [] [16,20] ?_;refine sq ?_ ?_<;>intro h1 h1p h1s<;>(try simp only[Q] at h1p);refine xam (ι:=Nat×Bool) hk (fun y=>[(16,.d (.i (y.1:Int))),(4,.d (.bool y.2))]) [5,6,7,9,10,17,18,19,20,21,22,23,24,25,26,27,28,29,30,31,32,33,34,35,36,37,38,39,40,41,42,43,44,45,46,47,48,49,50,51,52,53,54,55,56,57,58,59,60,61,62] (fun y=>[(71,some (.box (tabC 16 (midT w o.1 (y.1*4)))))]) (fun y=>y.1<=w.length/\(y.2=false->midT w o.1 (y.1*4)=zbb w o.1)/\(y.2=true->Strict (zbb w o.1) (midT w o.1 (y.1*4)))) (fun y=>w.length-y.1) (0,false) ⟨by simp,fun _=>rfl,by simp⟩ ⟨⟨_,rfl,xaz ?_⟩,⟨⟨_,rfl,xay ?_⟩,trivial⟩⟩ ⟨?_,trivial⟩ (fun x=>rfl) (fun y hg2=>?_);iterate 2 focus (first|rfl|(simp;done))
 focus (first|rfl|(have e:z.1=4:=(by omega);rw[e,<-Nat.succ_mul];rfl))
 have ho:=hg1.2 h1s;refine evc [] [16,20] ?_;refine sq ?_ ?_<;>intro h2 h2p h2s<;>(try simp only[Q] at h2p);refine xam (ι:=Nat×Bool) hk (fun z=>[(6,.d (.i (z.1:Int))),(4,.d (.bool z.2))]) [7,9,10,19,20,21,22,23,24,25,26,27,28,29,30,31,32,33,34,35,36,37,38,39,40,41,42,43,44,45,46,47,48,49,50,51,52,53,54,55,56,57,58,59,60,61] (fun z=>[(71,some (.box (tabC 16 (midT w o.1 (y.1*4+z.1)))))]) (fun z=>z.1<=4/\(z.2=false->midT w o.1 (y.1*4+z.1)=zbb w o.1)/\(z.2=true->Strict (zbb w o.1) (midT w o.1 (y.1*4+z.1)))) (fun z=>4-z.1) (0,y.2) ⟨by simp,hg2.2⟩ ⟨⟨_,rfl,xaz ?_⟩,⟨⟨_,rfl,xay ?_⟩,trivial⟩⟩ ⟨?_,trivial⟩ (fun x=>rfl) (fun z hg3=>?_);iterate 2 focus (first|rfl|(simp;done))
 focus (first|rfl|(show some (Res.box _)=some (Res.box _);rw[<-hg4.1,List.append_nil] at *;done))
 refine evc [] [16,20] ?_;refine sq ?_ ?_<;>intro h3 h3p h3s<;>(try simp only[Q] at h3p);refine bu [0,1] [_,_] st25 ?_;refine Walk.alloc (id:=3007) tz25 rfl .none rfl (by first|rfl|(simp only[zaj,occH,occE,Res.ids,xag,List.nil_append,AV.idsL,AV.ids,zab,zaa,zac,zan,xae,List.map_nil,upC,zaD];rfl)) (by first|rfl|(simp only[zaj,occH,occE,Res.ids,xag,List.nil_append,AV.idsL,AV.ids,zab,zaa,zac,zan,xae,List.map_nil,upC,zaD];rfl)) (by first|rfl|(simp only[zaj,occH,occE,Res.ids,xag,List.nil_append,AV.idsL,AV.ids,zab,zaa,zac,zan,xae,List.map_nil,upC,zaD];rfl)) ?_;refine so ty25 ?_;refine tv ?_;refine Walk.call (cr:=[]) zlm (zlD hw (i:=y.1) (j:=z.1) (by omega) (by omega)) rfl .none rfl rfl (LeL.refl _) trivial rfl (by first|rfl|(simp only[zas,List.all_cons,List.all_nil,zaC,zay,AV.idsL,AV.ids,zab,zaa,xae,List.map_nil,zaD];rfl)) (by first|rfl|(simp only[zaj,occH,occE,Res.ids,xag,List.nil_append,AV.idsL,AV.ids,zab,zaa,zac,zan,xae,List.map_nil,upC,zaD];rfl)) ?_;refine ev ?_;refine xam (ι:=List (Int)×List (Int)×(Bool)) hk (fun x=>[(30,.d (.i (x.1.length:Int))),(4,.d (.bool x.2.2))]) [9,10,31,32,33,34,35,36,37,38,39,40,41,42,43,44,45,46,47,48,49,50,51,52,53,54,55,56,57,58,59,60,61] (fun x=>[(71,some (.box (tabC 16 (rowT w o.1 (y.1*4+z.1) x.1))))]) (fun x=>x.1++x.2.1=zba w (tyS (y.1*4+z.1))/\(x.2.2=false->rowT w o.1 (y.1*4+z.1) x.1=zbb w o.1)/\(x.2.2=true->Strict (zbb w o.1) (rowT w o.1 (y.1*4+z.1) x.1))) (fun x=>x.2.1.length) ([],zba w (tyS (y.1*4+z.1)),z.2) ⟨by simp,hg3.2⟩ ⟨⟨_,rfl,xaz ?_⟩,⟨⟨_,rfl,xay ?_⟩,trivial⟩⟩ ⟨?_,trivial⟩ (fun x=>rfl) (fun x hg4=>?_);iterate 2 focus (first|rfl|(simp;done))
 focus (first|rfl|(show some (Res.box _)=some (Res.box _);rw[zdq];first|(rw[zdV (by assumption)];done)|(rw[zdp (by assumption)];done)))
 obtain⟨pre,rest,b⟩:=x;dsimp only at hg4 ⊢;have hct:=hd.ct (y.1*4+z.1) (by omega);refine evc [] [16,20] ?_;refine sq ?_ ?_<;>intro h4 h4p h4s<;>(try simp only[Q] at h4p);rcases rest with _|⟨c,rest⟩
 ·exfalso;simp_all
 refine xaS sl29 .none rfl rfl rfl rfl (zaR hg4.1) rfl ?_;refine ev ?_;refine Walk.call (cr:=[]) zt6 (zmN hd (f:=rowT w o.1 (y.1*4+z.1) pre) (i:=y.1) (j:=z.1) (c:=c) (by omega) (by omega) (by rw[<-hg4.1];simp) (zqe hd (by omega) (by omega) (by have hz:=congrArg List.length hg4.1;simp at hz;omega))) rfl .none rfl rfl (LeL.refl _) ⟨rfl,trivial⟩ rfl (by first|rfl|(simp only[zas,List.all_cons,List.all_nil,zaC,zay,AV.idsL,AV.ids,zab,zaa,xae,List.map_nil,zaD];rfl)) (by first|rfl|(simp only[zaj,occH,occE,Res.ids,xag,List.nil_append,AV.idsL,AV.ids,zab,zaa,zac,zan,xae,List.map_nil,upC,zaD];rfl)) ?_;refine ev ?_;refine xaq ?_;refine xaD 15 [(53,.d (.bool (decide ((0:Int)<(most w (rowT w o.1 (y.1*4+z.1) pre) (tyS (y.1*4+z.1)) c:Int)/\((rowT w o.1 (y.1*4+z.1) pre (y.1*4+z.1):Int)=0\/(most w (rowT w o.1 (y.1*4+z.1) pre) (tyS (y.1*4+z.1)) c:Int)<(rowT w o.1 (y.1*4+z.1) pre (y.1*4+z.1):Int))))))] [39,40,41,42,43,44,45,46,47,48,49,50,51,52] ?_ ?_;refine ev ?_;refine sq ?_ ?_<;>intro h5 h5p h5s<;>(try simp only[Q] at h5p);refine Walk.call (cr:=[]) zi2 (zlJ (w:=w) (f:=rowT w o.1 (y.1*4+z.1) pre) (i:=y.1) (j:=z.1) (by omega) hw4 (by omega)) rfl (.some rfl rfl h5) rfl rfl (LeL.refl _) ⟨rfl,trivial⟩ rfl (by first|rfl|(simp only[zas,List.all_cons,List.all_nil,zaC,zay,AV.idsL,AV.ids,zab,zaa,xae,List.map_nil,zaD];rfl)) (by first|rfl|(simp only[zaj,occH,occE,Res.ids,xag,List.nil_append,AV.idsL,AV.ids,zab,zaa,zac,zan,xae,List.map_nil,upC,zaD];rfl)) ?_;refine evs [] [(41,true)] ?_ ⟨⟨_,rfl,h5⟩,trivial⟩;refine sq ?_ ?_<;>intro h6 h6p h6s<;>(try simp only[Q] at h6p);exact jnb rfl;refine Walk.call (cr:=[]) zi2 (zlJ (w:=w) (f:=rowT w o.1 (y.1*4+z.1) pre) (i:=y.1) (j:=z.1) (by omega) hw4 (by omega)) rfl (.some rfl rfl h6) rfl rfl (LeL.refl _) ⟨rfl,trivial⟩ rfl (by first|rfl|(simp only[zas,List.all_cons,List.all_nil,zaC,zay,AV.idsL,AV.ids,zab,zaa,xae,List.map_nil,zaD];rfl)) (by first|rfl|(simp only[zaj,occH,occE,Res.ids,xag,List.nil_append,AV.idsL,AV.ids,zab,zaa,zac,zan,xae,List.map_nil,upC,zaD];rfl)) ?_;refine evs [] [(41,true),(46,false)] ?_ ⟨⟨_,rfl,h5⟩,⟨_,rfl,h6⟩,trivial⟩;exact jnb rfl;exact jnb rfl;refine xaC ?_;refine tv ?_;refine sq ?_ ?_<;>intro h7 h7p h7s<;>(try simp only[Q] at h7p);refine xaT (i:=y.1) zob .none rfl rfl rfl rfl (by omega) ?_;refine xaT (i:=z.1) zqr .none rfl rfl rfl rfl (by omega) ?_;refine Walk.store ty3 .none rfl rfl rfl rfl rfl rfl (by simp) ((zqn (s:=y.1*4+z.1) (v:=most w (rowT w o.1 (y.1*4+z.1) pre) (tyS (y.1*4+z.1)) c) (by omega) (by omega) rfl)) ?_;refine ev ?_;refine ar ?_;refine xah ((pre++[c],rest,(decide ((0:Int)<(most w (rowT w o.1 (y.1*4+z.1) pre) (tyS (y.1*4+z.1)) c:Int)/\((rowT w o.1 (y.1*4+z.1) pre (y.1*4+z.1):Int)=0\/(most w (rowT w o.1 (y.1*4+z.1) pre) (tyS (y.1*4+z.1)) c:Int)<(rowT w o.1 (y.1*4+z.1) pre (y.1*4+z.1):Int))))||b)) ⟨⟨(by have hz:=hg4.1;rw[<-hz];simp),(by
    dsimp only;rw[zdq];cases hq:decide ((0:Int)<(most w (rowT w o.1 (y.1*4+z.1) pre) (tyS (y.1*4+z.1)) c:Int)/\((rowT w o.1 (y.1*4+z.1) pre (y.1*4+z.1):Int)=0\/(most w (rowT w o.1 (y.1*4+z.1) pre) (tyS (y.1*4+z.1)) c:Int)<(rowT w o.1 (y.1*4+z.1) pre (y.1*4+z.1):Int))) with
    |true=>exact⟨fun h=>by simp at h,fun _=>zjT zpX hq⟩
    |false=>rw[zdp hq];exact hg4.2)⟩,(by simp),sx ⟨⟨_,rfl,xaz ?_⟩,⟨⟨_,rfl,xay ?_⟩,trivial⟩⟩ ⟨?_,trivial⟩⟩
 iterate 2 focus (first|rfl|(simp;done)|(rw[h7];rfl))
 focus (first|rfl|(show some (Res.box _)=some (Res.box _);rw[zdq];first|(rw[zdV (by assumption)];done)|(rw[zdp (by assumption)];done)))
 refine ar ?_;refine xah ((pre++[c],rest,(decide ((0:Int)<(most w (rowT w o.1 (y.1*4+z.1) pre) (tyS (y.1*4+z.1)) c:Int)/\((rowT w o.1 (y.1*4+z.1) pre (y.1*4+z.1):Int)=0\/(most w (rowT w o.1 (y.1*4+z.1) pre) (tyS (y.1*4+z.1)) c:Int)<(rowT w o.1 (y.1*4+z.1) pre (y.1*4+z.1):Int))))||b)) ⟨⟨(by have hz:=hg4.1;rw[<-hz];simp),(by
    dsimp only;rw[zdq];cases hq:decide ((0:Int)<(most w (rowT w o.1 (y.1*4+z.1) pre) (tyS (y.1*4+z.1)) c:Int)/\((rowT w o.1 (y.1*4+z.1) pre (y.1*4+z.1):Int)=0\/(most w (rowT w o.1 (y.1*4+z.1) pre) (tyS (y.1*4+z.1)) c:Int)<(rowT w o.1 (y.1*4+z.1) pre (y.1*4+z.1):Int))) with
    |true=>exact⟨fun h=>by simp at h,fun _=>zjT zpX hq⟩
    |false=>rw[zdp hq];exact hg4.2)⟩,(by simp),sx ⟨⟨_,rfl,xaz ?_⟩,⟨⟨_,rfl,xay ?_⟩,trivial⟩⟩ ⟨?_,trivial⟩⟩
 iterate 2 focus (first|rfl|(simp;done)|(rw[h7];rfl))
 focus (first|rfl|(show some (Res.box _)=some (Res.box _);rw[zdq];first|(rw[zdV (by assumption)];done)|(rw[zdp (by assumption)];done)))
 have hrest:rest=[]:=by
  rcases rest with _|⟨a,b⟩
  ·rfl
  ·exfalso;have hz:=congrArg List.length (hg4.1);simp only[xaa,xab,xac] at hz;omega
 subst hrest;refine ar ?_;refine xah ((z.1+1,b)) ⟨(by
    obtain⟨p1,p2⟩:=hg4;rw[List.append_nil] at p1;rw[p1,zhg,Nat.add_assoc] at p2;exact⟨by dsimp only;omega,p2⟩),(by dsimp only;omega),sx ⟨⟨_,rfl,xaz ?_⟩,⟨⟨_,rfl,xay ?_⟩,trivial⟩⟩ ⟨?_,trivial⟩⟩
 iterate 2 focus (first|rfl|(simp;done))
 focus (first|rfl|(show some (Res.box _)=some (Res.box _);rw[<-hg4.1,List.append_nil] at *;done)|(show some (Res.box _)=some (Res.box _);rw[<-Nat.add_assoc,<-zhg,<-hg4.1,List.append_nil]))
 refine ar ?_;refine xah ((y.1+1,z.2)) ⟨(by
    have e:z.1=4:=by omega
    obtain⟨_,q1,q2⟩:=hg3;rw[e,<-Nat.succ_mul] at q1 q2;exact⟨by dsimp only;omega,q1,q2⟩),(by dsimp only;omega),sx ⟨⟨_,rfl,xaz ?_⟩,⟨⟨_,rfl,xay ?_⟩,trivial⟩⟩ ⟨?_,trivial⟩⟩
 iterate 2 focus (first|rfl|(simp;done))
 focus (first|rfl|(have e:z.1=4:=(by omega);rw[e,<-Nat.succ_mul];rfl))
 refine xah ((o.1+1,y.2)) ⟨⟨(fun h=>by
    have e:y.1=w.length:=by omega
    have h1:=hg2.2.1 h;rw[e] at h1;have h2:zbb w (o.1+1)=zbb w o.1:=h1;rw[h2];exact zsr hd.cl h2),(fun h=>by
    have e:y.1=w.length:=by omega
    have h1:=hg2.2.2 h;rw[e] at h1;have h3:=hg1.2 h1s;show o.1+1<=w.length*4+1
    rcases Nat.lt_or_ge o.1 (w.length*4+1) with h4|h4
    ·omega
    ·refine absurd ?_ (Strict.ne h1);rw[zmP hd.cl h4];exact(zmP hd.cl (k:=o.1+1) (by omega)).symm)⟩,(by have h3:=hg1.2 h1s;rw[h1s];dsimp only;simp only[if_true];split<;>omega),sx ⟨⟨_,rfl,xay ?_⟩,trivial⟩ ⟨?_,trivial⟩⟩
 focus (first|rfl|(simp;done))
 focus (first|rfl|(have e:y.1=w.length:=(by omega);rw[e];rfl))
 refine CWp.frzB hk 3 71 0 rfl rfl zsL rfl ?_;refine evc [] [] ?_;refine rq ?_;rotate_left;all_goals (rw[hg1.1 h1s])
end Go.Proofs.YtlfipehhbdjnjaaGreat
namespace Go.Proofs.YtlfipehhbdjnjaaGreat
open Go
set_option linter.unusedSimpArgs false
set_option linter.unusedVariables false
set_option maxRecDepth 100000
set_option maxHeartbeats 4000000
theorem zu7 (w:List Data) (t:Ty) (p:Pat):(zaP w 10 t p 0).1.isSome=isP w t p:=by
 have h:=(zfz w 10 t p 0).1;rw[h];unfold zbL isP;rw[Int.zero_add];split
 ·rename_i hz;rw[hz];rfl
 ·rename_i hz;cases hc:(zaw w 10 t p&&(decide ((p.size:Int)<=60)&&linP w 10 t p)) with
  |true=>exact absurd hc hz
  |false=>rfl
theorem zfo {w:List Data} (hw:WT w){a k:Int}{p:Pat} (ht:TyIn w.length ⟨a,k⟩) (hok:p.ok):
  FnD Tryz.prog 217 [.d (zam w),.agg [.d (.i a),.d (.i k)],.agg [.d (.i p.op),.d (.i p.ctor),.d (.i p.n),.d (.i p.m),.d (.i p.var),.d (zae p.kids)]] [] (.tup [.d (zcM (zdd (zaP w 10 ⟨a,k⟩ p 0).1)),.d (.bool (isP w ⟨a,k⟩ p))]) []:=by
 rw[<-zu7];refine bd Tryz.f217 15 [] [] fun w0 F0 own kept hk=>?_;refine bx 3004 ?_;refine bx 3005 ?_;refine ev ?_;refine ab 950 tz3 ?_;refine so ty3 ?_;refine tv ?_;refine wd zoJ (zdE hw 10 (c:=0) (by omega) (by omega) ht hok (by omega) (by omega)) rfl rfl ⟨rfl,trivial⟩ ?_;refine ev ?_;refine rn0 (r2 rfl rfl) (.tup (.cons (.eqd ?_) (.cons (.eqd ?_) .nil)));rotate_left 2;all_goals (rfl)
theorem zem {w:List Data} (hw:WT w){a k:Int}{p:Pat} (ht:TyIn w.length ⟨a,k⟩) (hok:p.ok):
  FnD Tryz.prog 138 [.d (zam w),.agg [.d (.i a),.d (.i k)],.agg [.d (.i p.op),.d (.i p.ctor),.d (.i p.n),.d (.i p.m),.d (.i p.var),.d (zae p.kids)]] [] (.d (.bool (isP w ⟨a,k⟩ p))) []:=by
 refine bd Tryz.f138 17 [] [] fun w0 F0 own kept hk=>?_;refine bx 3004 ?_;refine bx 3005 ?_;refine ev ?_;refine wc zrf (zfo hw ht hok) rfl rfl ?_;refine ev ?_;refine rq ?_;rotate_left;all_goals (rfl)
end Go.Proofs.YtlfipehhbdjnjaaGreat
namespace Go.Proofs.YtlfipehhbdjnjaaGreat
open Go
set_option linter.unusedSimpArgs false
set_option linter.unusedVariables false
set_option maxRecDepth 100000
set_option maxHeartbeats 2000000
theorem zsM {w:List Data} (hs:WSmall w) (hv:zbu w=true):Dp w:=by
 have hw:=zd1 hs hv;have hW:=(zdm w).1 hv;refine⟨hw,fun s hs c hc u hu=>?_,hW.len,fun s hs=>?_⟩
 ·obtain⟨j,rfl,hj⟩:=zpg (d:=s / 4) (k:=((s % 4:Nat):Int)) hc;have hu':u∈zak w ⟨((s / 4:Nat):Int),((s % 4:Nat):Int)⟩ (j:Int):=hu;simp only[zak,Int.toNat_natCast,List.mem_map] at hu';obtain⟨x,hx,rfl⟩:=hu';have hco:=hW.ctor _ (zal (l:=w) (i:=s / 4) (by omega)) _ (zal hj);simp only[zbC,xad,Bool.not_eq_true',List.any_eq_false] at hco;have hax:zbU w.length x=true:=by
   have:=hco.2.2.2 x hx;cases h:zbU w.length x with
   |true=>rfl
   |false=>rw[h] at this;exact absurd rfl this
  have hci:=hco.2.2.1;simp only[zbU,zaz,Bool.or_eq_true,xad,decide_eq_true_eq,and_true] at hax hci;have key:∀y:Ty,(y.data = -1\/(0<=y.data/\y.data<w.length/\0<=y.index/\y.index<=3))->InS (w.length*4) y:=by
   rintro ⟨a,k⟩ h
   rcases h with h|⟨h1,h2,h3,h4⟩
   ·exact .inl h
   ·refine .inr ⟨?_, ?_⟩
    ·simp only[zcF] at *;omega
    ·obtain⟨i,rfl⟩:=Int.eq_ofNat_of_zero_le h1;obtain⟨m,rfl⟩:=Int.eq_ofNat_of_zero_le h3;simp only[zcF,Int.toNat_natCast];exact zh1 (by simp only at h4;omega)
  refine key _ ?_;unfold zck zcv;split
  ·dsimp only;rcases hax with h|h
   ·omega
   ·right
    refine⟨by omega,by omega, ?_⟩;split<;>omega
  ·rcases hax with h|h
   ·exact .inl h.1
   ·right;omega
 ·have h1:=zf4 (tyS s).index (nth w (tyS s).data.toNat).ctors 0;have h2:=(hW.data _ (zal (l:=w) (i:=s / 4) (by omega))).2.2;show(zaY (tyS s).index 0 (nth w (tyS s).data.toNat).ctors).length<=4
  have e:(tyS s).data.toNat=s / 4:=by simp only[tyS,Int.toNat_natCast]
  rw[e] at h1 ⊢;omega
theorem zcz {n:Nat}{t:Ty} (h:InS (n*4) t):TyIn n t:=by
 rcases h with h|⟨h1,h2⟩
 ·exact .inl h
 ·refine .inr ⟨zcF t / 4, ?_,by omega⟩;have:=congrArg Ty.data h2;exact this.symm
theorem zcf {w:List Data} (hd:Dp w){t:Ty}{c:Int} (ht:InS (w.length*4) t) (hc:c∈zaA w t):∀u∈zak w t c,InS (w.length*4) u:=by
 rcases ht with h|⟨h1,h2⟩
 ·unfold zaA at hc;rw[if_pos h] at hc;simp at hc
 ·have hx:=hd.cl _ h1;rw[h2] at hx;have:c∈zba w t:=by
   unfold zaA at hc;split at hc
   ·simp at hc
   ·exact hc
  exact hx c this
theorem zi1 {w:List Data}{a k k' c:Int}:(zak w ⟨a,k⟩ c).length=(zak w ⟨a,k'⟩ c).length/\∀i,(nth (zak w ⟨a,k⟩ c) i).data=(nth (zak w ⟨a,k'⟩ c) i).data:=by
 have hd:∀(k:Int) (t:Ty),(zck k t).data=t.data:=fun k t=>by unfold zck;split<;>rfl
 refine⟨by simp[zak],fun i=>?_⟩;unfold zak;dsimp only;generalize nth (nth w a.toNat).ctors c.toNat=q;simp only[nth,List.getD_eq_getElem?_getD,List.getElem?_map];cases q.args[i]? with
 |none=>rfl
 |some x=>simp only[Option.map_some,Option.getD_some,hd]
structure PKids (w:List Data) (n:Nat) (a k k':Int) (p:Pat):Prop where
 len5:p.op=5->p.kids.length=2
 len6:p.op=6->p.kids.length=1
 len4:p.op=4->p.kids.length=(zak w ⟨a,k⟩ p.ctor).length
 one:p.op=5\/p.op=6->zaw w n ⟨a,k'⟩ (nth p.kids 0)=true
 two:p.op=5->zaw w n ⟨a,k'⟩ (nth p.kids 1)=true
 arg:p.op=4->∀i,i<(zak w ⟨a,k⟩ p.ctor).length->zaw w n ⟨(nth (zak w ⟨a,k⟩ p.ctor) i).data,(nth (zak w ⟨a,k'⟩ p.ctor) i).index⟩ (nth p.kids i)=true
 mem:p.op=4->p.ctor∈zaA w ⟨a,k'⟩
 ops:p.op=1\/p.op=2\/(p.op=3/\a = -1)\/p.op=4\/p.op=5\/p.op=6
theorem zu6 {w:List Data}{n:Nat}{a k k':Int}{p:Pat} (h:zaw w (n+1) ⟨a,k'⟩ p=true):PKids w n a k k' p:=by
 obtain⟨ho,hl⟩:=zbK h;have hk:=fun i (hi:i<p.kids.length)=>zbJ h hi;have ht4:p.op=4->zai w ⟨a,k'⟩ p=zak w ⟨a,k'⟩ p.ctor:=fun h=>by unfold zai;rw[if_pos h]
 have ht5:p.op=5->zai w ⟨a,k'⟩ p=[⟨a,k'⟩,⟨a,k'⟩]:=fun h=>by unfold zai;rw[if_neg (by omega),if_pos h]
 have ht6:p.op=6->zai w ⟨a,k'⟩ p=[⟨a,k'⟩]:=fun h=>by unfold zai;rw[if_neg (by omega),if_neg (by omega),if_pos h]
 have l5:p.op=5->p.kids.length=2:=fun h=>by rw[hl,ht5 h];rfl
 have l6:p.op=6->p.kids.length=1:=fun h=>by rw[hl,ht6 h];rfl
 refine⟨l5,l6,fun h=>by rw[hl,ht4 h,zi1.1],fun h=>?_,fun h=>?_,fun h i hi=>?_,zcg ho, ?_⟩
 ·rcases h with h|h
  ·have:=hk 0 (by rw[l5 h];omega);rwa [ht5 h] at this
  ·have:=hk 0 (by rw[l6 h];omega);rwa [ht6 h] at this
 ·have:=hk 1 (by rw[l5 h];omega);rwa [ht5 h] at this
 ·rw[(zi1 (k':=k')).1] at hi;have:=hk i (by rw[hl,ht4 h];exact hi);rw[ht4 h] at this;rw[(zi1 (k':=k')).2];exact this
 ·unfold ownP at ho;have:=of_decide_eq_true ho;obtain⟨_,_,_,_,q⟩:=this;simp only at q;omega
theorem zkj {w:List Data} (hd:Dp w):FnD Tryz.prog 67 [.d (zam w)] [] (.d (sPtr w (zaI w))) []:=by
 refine bd Tryz.f67 8 [] [999999] fun w0 F0 own kept hk=>?_;refine wc ztQ (zkO hd) rfl rfl ?_;refine bu [0,1] [_,_] zu8 ?_;refine bx 3007 ?_;refine ev ?_;refine CWp.frzB hk 2 3007 0 rfl rfl rfl rfl ?_;refine CWp.ret ?_;focus (refine rn0 (r1 rfl) (.refl _);all_goals (first|rfl|(simp[];done)|(simp_all;done)|(simp_all;omega)|omega))
theorem zbN {w:List Data}{a k:Int} (h:zbr w ⟨a,k⟩=true):zbu w=true/\TyIn w.length ⟨a,k⟩/\(a≠ -1->0<=a/\a.toNat<w.length/\0<=k/\k<=3):=by
 unfold zbr at h;rw[xad] at h;obtain⟨h1,h2⟩:=h;simp only[zd0,zaz,Bool.or_eq_true,xad,decide_eq_true_eq,and_true] at h2;refine⟨h1, ?_,fun ha=>by omega⟩;rcases h2 with h|h
 ·exact .inl h.1
 ·exact .inr ⟨a.toNat,by simp only;omega,by omega⟩
theorem zuP {n d j:Nat} (hd:d<n) (hj:j<4):InS (n*4) ⟨(d:Int),(j:Int)⟩:=
 .inr ⟨by simp only[zcF,Int.toNat_natCast];omega,by simp only[zcF,Int.toNat_natCast];exact zh1 hj⟩
def zaL (w:List Data) (a k:Int) (p:Pat):Bool:=zbr w ⟨a,k⟩&&isP w ⟨a,k⟩ p
structure PVal (w:List Data) (a k:Int) (p:Pat):Prop where
 dp:Dp w
 tin:TyIn w.length ⟨a,k⟩
 shape:zaw w 10 ⟨a,k⟩ p=true
 rng:a≠ -1->0<=a/\a.toNat<w.length/\0<=k/\k<=3
theorem zid {w:List Data} (hs:WSmall w){a k:Int}{p:Pat} (hok:p.ok):
  FnD Tryz.prog 66 [.d (zam w),.agg [.d (.i a),.d (.i k)],.agg [.d (.i p.op),.d (.i p.ctor),.d (.i p.n),.d (.i p.m),.d (.i p.var),.d (zae p.kids)]] [] (.d (.bool (zaL w a k p))) []:=by
 refine bd Tryz.f66 16 [] [] fun w0 F0 own kept hk=>?_;refine bx 3004 ?_;refine bx 3005 ?_;refine ev ?_;refine wc zow (zel hs) rfl rfl ?_;refine ev ?_;refine sq ?_ ?_<;>intro h1 h1p h1s;refine Walk.call (cr:=[]) zlh (zem (zd1 hs (zbN h1s).1) (zbN h1s).2.1 hok) rfl (.some rfl rfl h1) rfl rfl (LeL.refl _) trivial rfl rfl rfl ?_;refine evs [] [(10,true)] ?_ ⟨⟨_,rfl,h1⟩,trivial⟩;refine rq ?_;rotate_left;refine rq ?_;rotate_left;all_goals (refine congrArg D.bool ?_;unfold zaL;simp_all)
theorem zeF {w:List Data}{a b:Int} (hs:WSmall w):FnD Tryz.prog 126 [.d (zam w),.agg [.d (.i a),.d (.i b)]] [] (.d (.bool (zbr w ⟨a,b⟩))) []:=by
 rw[<-ztF];exact zkq hs
theorem zff {w:List Data} (hs:WSmall w){a k:Int}{p:Pat} (hok:p.ok) (hb:p.size<=1000000000000):
  FnD Tryz.prog 157 [.d (zam w),.agg [.d (.i a),.d (.i k)],.agg [.d (.i p.op),.d (.i p.ctor),.d (.i p.n),.d (.i p.m),.d (.i p.var),.d (zae p.kids)]] [] (.d (.bool (zaL w a k p))) []:=by
 refine bd Tryz.f157 16 [] [] fun w0 F0 own kept hk=>?_;refine bx 3004 ?_;refine bx 3005 ?_;refine ev ?_;refine wc zox (zeF hs) rfl rfl ?_;refine ev ?_;refine sq ?_ ?_<;>intro h1 h1p h1s;refine Walk.call (cr:=[]) zll (zfh (zd1 hs (zbN h1s).1) (zbN h1s).2.1 hok hb) rfl (.some rfl rfl h1) rfl rfl (LeL.refl _) trivial rfl rfl rfl ?_;refine evs [] [(10,true)] ?_ ⟨⟨_,rfl,h1⟩,trivial⟩;refine rq ?_;rotate_left;refine rq ?_;rotate_left;all_goals (refine congrArg D.bool ?_;unfold zaL;simp_all)
def za3 (w:List Data) (f:Nat->Nat):Nat->Ty->Pat->Bool
 |0,_,_=>true
 |n+1,t,p=>
  if p.op=1\/p.op=2 then decide (dv f t=0)
  else if p.op=5 then za3 w f n t (nth p.kids 0)&&za3 w f n t (nth p.kids 1)
  else !(all2 (fun u q=> !za3 w f n u q) (zai w t p) p.kids)
theorem zfG {w:List Data}{f:Nat->Nat}{n:Nat}{t:Ty}{p:Pat}:za3 w f (n+1) t p=if p.op=1\/p.op=2 then decide (dv f t=0)
  else if p.op=5 then za3 w f n t (nth p.kids 0)&&za3 w f n t (nth p.kids 1)
  else !(all2 (fun u q=> !za3 w f n u q) (zai w t p) p.kids):=rfl
theorem zsf {α β:Type} [Inhabited α] [Inhabited β]{f:α->β->Bool}{a:List α}{b:List β} (hl:a.length=b.length) (h:all2 f a b=true):∀i,i<a.length->f (nth a i) (nth b i)=true:=fun i hi=>by
 cases hf:f (nth a i) (nth b i) with
 |true=>rfl
 |false=>rw[zbH hi hl hf] at h;exact absurd h (by simp)
theorem zsc {w:List Data}{t:Ty}{c:Int} (h:c∈zaA w t):c∈zba w t:=by
 unfold zaA at h;split at h
 ·simp at h
 ·exact h
theorem zkQ {w:List Data} (hw:WT w){a k:Int}{p:Pat} (ht:TyIn w.length ⟨a,k⟩):
  FnD Tryz.prog 141 [.d (zam w),.agg [.d (.i a),.d (.i k)],.agg [.d (.i p.op),.d (.i p.ctor),.d (.i p.n),.d (.i p.m),.d (.i p.var),.d (zae p.kids)]] [] (.d (zbk (zcB w ⟨a,k⟩ p))) []:=by
 have hsh:=ziK hw (p:=p) ht;refine bd Tryz.f141 17 [] [] fun w0 F0 own kept hk=>?_;refine bx 3004 ?_;refine bx 3005 ?_;refine ev ?_;refine wc zoG (hsh) rfl rfl ?_;refine ev ?_;refine rq ?_;rotate_left;all_goals (rfl)
theorem zcy {w:List Data} (hd:Dp w){f:Nat->Nat}:∀(n:Nat){a k:Int}{p:Pat},zaw w n ⟨a,k⟩ p=true->InS (w.length*4) ⟨a,k⟩->p.ok->
  FnD Tryz.prog 68 [.d (sPtr w f),.agg [.d (.i a),.d (.i k)],.agg [.d (.i p.op),.d (.i p.ctor),.d (.i p.n),.d (.i p.m),.d (.i p.var),.d (zae p.kids)]] [] (.d (.bool (za3 w f n ⟨a,k⟩ p))) []
 |0,a,k,p,h,_,_=>by simp[zaw] at h
 |n+1,a,k,p,h,hi,hok=>by
  rw[Pat.ok_iff] at hok;have hw:=hd.wt;have hw4:=hd.four;have ht:=zcz hi;have pk:=zu6 (k:=k) h;obtain⟨ho,hlen⟩:=zbK h;have hkid:=fun i (hi:i<p.kids.length)=>zbJ h hi;have hops:=pk.ops;have l5:=pk.len5;have hk1:=pk.one;have hk2:=pk.two;have hsT:zcB w ⟨a,k⟩ p=zai w ⟨a,k⟩ p:=by
   unfold zcB;rw[if_neg (fun h=>h.2 (pk.mem h.1))]
  have hkt:=zkQ hw (p:=p) ht;rw[hsT] at hkt;have hins:∀i,i<(zai w ⟨a,k⟩ p).length->InS (w.length*4) (nth (zai w ⟨a,k⟩ p) i):=fun i hl=>by
   have hm:=zal hl;unfold zai at hm ⊢;split
   ·rename_i h4;rw[if_pos h4] at hm;exact zcf hd hi (pk.mem h4) _ hm
   ·rename_i h4;rw[if_neg h4] at hm;split
    ·rename_i h5;rw[if_pos h5] at hm;simp only[List.mem_cons,List.not_mem_nil,or_false,or_self] at hm;rw[hm];exact hi
    ·rename_i h5;rw[if_neg h5] at hm;split
     ·rename_i h6;rw[if_pos h6] at hm;simp only[List.mem_cons,List.not_mem_nil,or_false] at hm;rw[hm];exact hi
     ·rename_i h6;rw[if_neg h6] at hm;simp at hm
  have htl:(zai w ⟨a,k⟩ p).length<=1000000000000:=by have:=hok.1;omega
  refine bd Tryz.f68 61 [] [] fun w0 F0 own kept hk=>?_;refine bx 3004 ?_;refine bx 3005 ?_;refine ev ?_;refine sq ?_ ?_<;>intro h1 h1p h1s<;>(try simp only[Q,Pat.cs_len] at h1p);refine sq ?_ ?_<;>intro h2 h2p h2s<;>(try simp only[Q,Pat.cs_len] at h2p);refine wc zi2 (zlI (n:=w.length*4) (f:=f) hi (by omega)) rfl rfl ?_;refine evd [] [] ?_;refine dr ?_;refine rq ?_;rotate_left;refine sq ?_ ?_<;>intro h3 h3p h3s<;>(try simp only[Q,Pat.cs_len] at h3p);refine xaS (i:=0) sl34 .none rfl rfl rfl rfl (zaH (by omega)) rfl ?_;refine evd [] [] ?_;refine wc zh6 (zcy hd n (hk1 (by omega)) hi (Pats.ok_mem hok.2 _ (zal (i:=0) (by omega)))) rfl rfl ?_;refine evd [] [] ?_;refine sq ?_ ?_<;>intro h4 h4p h4s<;>(try simp only[Q,Pat.cs_len] at h4p);refine xaS (i:=1) sl34 (.some rfl rfl h4) rfl rfl rfl rfl (zaH (by omega)) rfl ?_;refine evd [] [(30,true)] ?_ ⟨⟨_,rfl,h4⟩,trivial⟩;refine Walk.call (cr:=[]) zh6 (zcy hd n (hk2 (by omega)) hi (Pats.ok_mem hok.2 _ (zal (i:=1) (by omega)))) rfl (.some rfl rfl h4) rfl rfl (LeL.refl _) trivial rfl rfl rfl ?_;refine evd [] [(30,true)] ?_ ⟨⟨_,rfl,h4⟩,trivial⟩;refine dr ?_;refine rq ?_;rotate_left;refine dr ?_;refine rq ?_;rotate_left;refine wc zq6 (hkt) rfl rfl ?_;refine evd [] [] ?_;refine dr ?_;refine xam (ι:=Nat) hk (fun i=>[(47,.d (.i (i:Int)))]) [6,7,8,48,49,50,51,52,53,54,55,56,57,58,59,60] (fun i=>[]) (fun i=>i<=(zai w ⟨a,k⟩ p).length/\∀i',i'<i->za3 w f n (nth (zai w ⟨a,k⟩ p) i') (nth p.kids i')=false) (fun i=>(zai w ⟨a,k⟩ p).length-i) 0 ⟨by omega,fun _ h=>absurd h (by omega)⟩ ⟨⟨_,rfl,xaz ?_⟩,trivial⟩ trivial (fun x=>rfl) (fun i hg1=>?_);focus (rfl)
  refine evc [] [] ?_;refine sq ?_ ?_<;>intro h5 h5p h5s<;>(try simp only[Q,Pat.cs_len] at h5p);refine xaS za4 .none rfl rfl rfl rfl (zax (by omega)) rfl ?_;refine ev ?_;refine ab 3008 tz25 ?_;refine ev ?_;refine so ty25 ?_;refine tv ?_;refine xaS sl34 .none rfl rfl rfl rfl (zaH (by omega)) rfl ?_;refine evd [] [] ?_;refine wc zh6 (zcy hd n (hkid i (by omega)) (hins i (by omega)) (Pats.ok_mem hok.2 _ (zal (by omega)))) rfl rfl ?_;refine dr ?_;refine sq ?_ ?_<;>intro h6 h6p h6s<;>(try simp only[Q,Pat.cs_len] at h6p);refine rq ?_;rotate_left;refine ar ?_;refine xah (i+1) ⟨⟨by omega,zaV hg1.2 (by assumption)⟩,(by omega),sx ⟨⟨_,rfl,xaz ?_⟩,trivial⟩ trivial⟩;focus (rfl)
  refine rq ?_;rotate_left;refine sq ?_ ?_<;>intro h7 h7p h7s<;>(try simp only[Q,Pat.cs_len] at h7p);refine wc zi2 (zlI (n:=w.length*4) (f:=f) hi (by omega)) rfl rfl ?_;refine evd [] [] ?_;refine dr ?_;refine rq ?_;rotate_left;refine sq ?_ ?_<;>intro h8 h8p h8s<;>(try simp only[Q,Pat.cs_len] at h8p);refine xaS (i:=0) sl34 .none rfl rfl rfl rfl (zaH (by omega)) rfl ?_;refine evd [] [] ?_;refine wc zh6 (zcy hd n (hk1 (by omega)) hi (Pats.ok_mem hok.2 _ (zal (i:=0) (by omega)))) rfl rfl ?_;refine evd [] [] ?_;refine sq ?_ ?_<;>intro h9 h9p h9s<;>(try simp only[Q,Pat.cs_len] at h9p);refine xaS (i:=1) sl34 (.some rfl rfl h9) rfl rfl rfl rfl (zaH (by omega)) rfl ?_;refine evd [] [(30,true)] ?_ ⟨⟨_,rfl,h9⟩,trivial⟩;refine Walk.call (cr:=[]) zh6 (zcy hd n (hk2 (by omega)) hi (Pats.ok_mem hok.2 _ (zal (i:=1) (by omega)))) rfl (.some rfl rfl h9) rfl rfl (LeL.refl _) trivial rfl rfl rfl ?_;refine evd [] [(30,true)] ?_ ⟨⟨_,rfl,h9⟩,trivial⟩;refine dr ?_;refine rq ?_;rotate_left;refine dr ?_;refine rq ?_;rotate_left;refine wc zq6 (hkt) rfl rfl ?_;refine evd [] [] ?_;refine dr ?_;refine xam (ι:=Nat) hk (fun i=>[(47,.d (.i (i:Int)))]) [6,7,8,48,49,50,51,52,53,54,55,56,57,58,59,60] (fun i=>[]) (fun i=>i<=(zai w ⟨a,k⟩ p).length/\∀i',i'<i->za3 w f n (nth (zai w ⟨a,k⟩ p) i') (nth p.kids i')=false) (fun i=>(zai w ⟨a,k⟩ p).length-i) 0 ⟨by omega,fun _ h=>absurd h (by omega)⟩ ⟨⟨_,rfl,xaz ?_⟩,trivial⟩ trivial (fun x=>rfl) (fun i hg1=>?_);focus (rfl)
  refine evc [] [] ?_;refine sq ?_ ?_<;>intro h10 h10p h10s<;>(try simp only[Q,Pat.cs_len] at h10p);refine xaS za4 .none rfl rfl rfl rfl (zax (by omega)) rfl ?_;refine ev ?_;refine ab 3008 tz25 ?_;refine ev ?_;refine so ty25 ?_;refine tv ?_;refine xaS sl34 .none rfl rfl rfl rfl (zaH (by omega)) rfl ?_;refine evd [] [] ?_;refine wc zh6 (zcy hd n (hkid i (by omega)) (hins i (by omega)) (Pats.ok_mem hok.2 _ (zal (by omega)))) rfl rfl ?_;refine dr ?_;refine sq ?_ ?_<;>intro h11 h11p h11s<;>(try simp only[Q,Pat.cs_len] at h11p);refine rq ?_;rotate_left;refine ar ?_;refine xah (i+1) ⟨⟨by omega,zaV hg1.2 (by assumption)⟩,(by omega),sx ⟨⟨_,rfl,xaz ?_⟩,trivial⟩ trivial⟩;focus (rfl)
  refine rq ?_;rotate_left;all_goals (refine congrArg D.bool ?_;rw[zfG];first|(rw[if_pos (by omega)];exact decide_eq_decide.2 (by omega))|(rw[if_neg (by omega),if_pos (by omega)];first|rfl|(simp_all;done))|(rw[if_neg (by omega),if_neg (by omega)];first|(rw[zbH (i:=i) (by omega) (by omega) (by show(!_)=false;rw[Bool.not_eq_false'];assumption)];rfl)|(rw[zcb (by omega) (fun x hx=>by have:=hg1.2 x (by omega);simp_all)];rfl)))
mutual
theorem zqV:∀v:Val,zqU v v=true
 | .mk _ _ ks=>by simp[zqU,zkE ks]
theorem zkE:∀l:List Val,zmw l l=true
 | []=>rfl
 |v::r=>by simp[zmw,zqV v,zkE r]
end
theorem Val.c_len (v:Val):v.c.length=3:=by cases v;rfl
theorem Val.cs_rows {l:List Val}:∀x,x∈Val.cs l->x.length=3:=by
 intro x hx;rw[Val.cs_eq] at hx;obtain⟨y,_,rfl⟩:=List.mem_map.1 hx;exact y.c_len
theorem Val.cs_nil (l:List Val):Val.cs l=[]↔l=[]:=by rw[Val.cs_eq];simp
mutual
def mVal:Val->Nat
 | .mk _ _ ks=>zlV ks
def zlV:List Val->Nat
 | []=>0
 |v::r=>1+mVal v+zlV r
end
mutual
def Val.szM:Val->Int
 | .mk _ _ ks=>2+Vals.szM ks
def Vals.szM:List Val->Int
 | []=>0
 |v::r=>v.szM+Vals.szM r
end
mutual
def Val.one (k:Int):Val->Val
 | .mk _ _ ks=> .mk k (k+1) (Vals.one (k+1+1) ks)
def Vals.one (k:Int):List Val->List Val
 | []=>[]
 |v::r=>v.one k::Vals.one (k+v.szM) r
end
theorem Vals.szM_eq:∀l:List Val,Vals.szM l=szL Val.szM l
 | []=>rfl
 |v::r=>by simp only[Vals.szM,szL,Vals.szM_eq r]
theorem Vals.one_eq:∀(l:List Val) (k:Int),Vals.one k l=mkL Val.one Val.szM k l
 | [],_=>rfl
 |v::r,k=>by simp only[Vals.one,mkL,Vals.one_eq r]
theorem Val.szM_kids (v:Val):v.szM=2+szL Val.szM v.kids:=by cases v;simp only[Val.szM,Val.kids,Vals.szM_eq]
theorem Val.one_kids (v:Val) (k:Int):(v.one k).kids=mkL Val.one Val.szM (k+1+1) v.kids:=by cases v;simp only[Val.one,Val.kids,Vals.one_eq]
theorem Val.one_sc (v:Val) (k:Int):(Val.one k v).ctor=k/\(Val.one k v).num=k+1:=by cases v;exact⟨rfl,rfl⟩
mutual
theorem Val.szM_nn:∀v:Val,0<=v.szM
 | .mk _ _ ks=>by have:=Vals.szM_nn ks;simp only[Val.szM];omega
theorem Vals.szM_nn:∀l:List Val,0<=Vals.szM l
 | []=>by simp[Vals.szM]
 |v::r=>by have:=Val.szM_nn v;have:=Vals.szM_nn r;simp only[Vals.szM];omega
end
mutual
theorem Val.szM_le:∀v:Val,v.szM<=2+2*(mVal v:Int)
 | .mk _ _ ks=>by have:=Vals.szM_le ks;simp only[Val.szM,mVal];omega
theorem Vals.szM_le:∀l:List Val,Vals.szM l<=2*(zlV l:Int)
 | []=>by simp[Vals.szM,zlV]
 |v::r=>by have:=Val.szM_le v;have:=Vals.szM_le r;simp only[Vals.szM,zlV];omega
end
def zqA (w:List Data):Nat->Ty->Val->Bool
 |0,_,_=>false
 |n+1,t,v=>if t.data = -1 then decide (v.ctor = -1)&&(decide (0<=v.num)&&(decide (v.num<=9)&&decide (v.kids.length=0)))
   else if v.num=0/\v.ctor∈zba w t then all2 (zqA w n) (zak w t v.ctor) v.kids else false
mutual
def cntV (m:Int):Val->Int
 | .mk _ _ ks=>cntL m 1 ks
def cntL (m n:Int):List Val->Int
 | []=>n
 |k::r=>if n<=m then cntL m (n+cntV (m-n) k) r else n
end
theorem zrx {m n:Int}{l:List Val} (h:¬n<=m):cntL m n l=n:=by cases l<;>simp[cntL,h]
mutual
theorem zp2:∀(v:Val) (m:Int),1<=cntV m v/\cntV m v<=v.size
 | .mk _ _ ks,m=>by
  have:=zmB ks m 1 (by omega);simp only[cntV,Val.size];push_cast;omega
theorem zmB:∀(l:List Val) (m n:Int),1<=n->1<=cntL m n l/\cntL m n l<=n+Vals.size l
 | [],m,n,h=>by simp[cntL,Vals.size];omega
 |k::r,m,n,h=>by
  have h1:=zp2 k (m-n);have h2:=zmB r m (n+cntV (m-n) k) (by omega);simp only[cntL,Vals.size];split
  ·push_cast;omega
  ·push_cast;omega
end
mutual
theorem zsm:∀(v:Val) (m:Int),(cntV m v<=m↔(v.size:Int)<=m)/\(cntV m v<=m->cntV m v=v.size)
 | .mk _ _ ks,m=>by
  have:=zoO ks m 1;simp only[cntV,Val.size];push_cast;exact this
theorem zoO:∀(l:List Val) (m n:Int),(cntL m n l<=m↔n+(Vals.size l:Int)<=m)/\(cntL m n l<=m->cntL m n l=n+Vals.size l)
 | [],m,n=>by simp[cntL,Vals.size]
 |k::r,m,n=>by
  have h1:=zsm k (m-n);have h2:=zoO r m (n+cntV (m-n) k);have h3:=zmB r m (n+cntV (m-n) k);have h4:=zp2 k (m-n);simp only[cntL,Vals.size];push_cast
  by_cases hn:n<=m
  ·rw[if_pos hn];by_cases h5:cntV (m-n) k<=m-n
   ·have h6:=h1.2 h5;rw[h6] at h2 ⊢;constructor
    ·rw[h2.1];constructor<;>intro h<;>omega
    ·intro h;rw[h2.2 h];omega
   ·have h7:¬(k.size:Int)<=m-n:=fun h=>h5 (h1.1.2 h);have h8:¬n+cntV (m-n) k<=m:=by omega
    rw[zrx h8];constructor
    ·constructor<;>intro h<;>omega
    ·intro h;omega
  ·rw[if_neg hn];constructor
   ·constructor<;>intro h<;>omega
   ·intro h;omega
end
theorem Vals.size_split {pre rest l:List Val}{y:Val} (h:pre++y::rest=l):Vals.size l=Vals.size pre+y.size+Vals.size rest:=by
 subst h;induction pre with
 |nil=>simp[Vals.size]
 |cons x r ih=>simp only[xag,Vals.size,ih];omega
structure Bd where
 var:Int
 val:Val
def Bd.c (b:Bd):List D:=[.i b.var,.i b.val.ctor,.i b.val.num,ztv b.val.kids]
instance:Inhabited Bd:=⟨⟨0,default⟩⟩
def BdOk (m:Nat) (l:List Bd):Prop:=∀x∈l,x.val.ok/\x.val.size<=m
theorem BdOk.app {m:Nat}{a b:List Bd} (h1:BdOk m a) (h2:BdOk m b):BdOk m (a++b):=fun x hx=>by
 rcases List.mem_append.1 hx with h|h
 ·exact h1 x h
 ·exact h2 x h
theorem BdOk.mono {m k:Nat}{a:List Bd} (h:BdOk m a) (hk:m<=k):BdOk k a:=fun x hx=>⟨(h x hx).1,Nat.le_trans (h x hx).2 hk⟩
theorem zuU {w:List Data}{t:Ty}{p:Pat} (h:p.op=5):zai w t p=[t,t]:=by unfold zai;rw[if_neg (by omega),if_pos h]
theorem zuV {w:List Data}{t:Ty}{p:Pat} (h:p.op=6):zai w t p=[t]:=by unfold zai;rw[if_neg (by omega),if_neg (by omega),if_pos h]
theorem zbs {w:List Data}{t:Ty}{p:Pat} (h:p.op=4):zai w t p=zak w t p.ctor:=by unfold zai;rw[if_pos h]
theorem zsD {w:List Data}{n:Nat}{t:Ty}{p:Pat} (h:zaw w (n+1) t p=true):p.op=1\/p.op=2\/p.op=3\/p.op=4\/p.op=5\/p.op=6:=by
 have h1:=(zbK h).1;unfold ownP at h1;have h2:=(of_decide_eq_true h1).2.2.2.2;omega
theorem zjK {w:List Data}{n:Nat}{t:Ty}{p:Pat} (h:zaw w (n+1) t p=true) (h5:p.op=5):p.kids.length=2/\zaw w n t (nth p.kids 0)=true/\zaw w n t (nth p.kids 1)=true:=by
 have hl:=(zbK h).2;have h0:=fun i hi=>zbJ h (i:=i) hi;rw[zuU h5] at hl h0;have hl':p.kids.length=2:=hl;exact⟨hl',h0 0 (by omega),h0 1 (by omega)⟩
theorem zjJ {w:List Data}{n:Nat}{t:Ty}{p:Pat} (h:zaw w (n+1) t p=true) (h6:p.op=6):p.kids.length=1/\zaw w n t (nth p.kids 0)=true:=by
 have hl:=(zbK h).2;have h0:=fun i hi=>zbJ h (i:=i) hi;rw[zuV h6] at hl h0;have hl':p.kids.length=1:=hl;exact⟨hl',h0 0 (by omega)⟩
inductive Ex where
 |mk (op n ctor:Int) (kids:List Ex)
 deriving Inhabited
mutual
def Ex.c:Ex->List D
 | .mk op n ctor kids=>[.i op,.i n,.i ctor,.sl (Ex.cs kids)]
def Ex.cs:List Ex->List (List D)
 | []=>[]
 |v::r=>v.c::Ex.cs r
end
abbrev zuK (l:List Ex):D:= .sl (Ex.cs l)
theorem Ex.cs_eq:∀l:List Ex,Ex.cs l=l.map Ex.c
 | []=>rfl
 |v::r=>by simp[Ex.cs,Ex.cs_eq r]
theorem Ex.cs_len (l:List Ex):(Ex.cs l).length=l.length:=by simp[Ex.cs_eq]
def Ex.op:Ex->Int | .mk a0 _ _ _=>a0
def Ex.n:Ex->Int | .mk _ a1 _ _=>a1
def Ex.ctor:Ex->Int | .mk _ _ a2 _=>a2
def Ex.kids:Ex->List Ex | .mk _ _ _ k=>k
abbrev Ex.cc (v:Ex):List D:=[.i v.op,.i v.n,.i v.ctor,.sl (Ex.cs v.kids)]
theorem Ex.c_eq (v:Ex):v.c=v.cc:=by cases v;rfl
theorem Ex.eta (v:Ex):Ex.mk v.op v.n v.ctor v.kids=v:=by cases v;rfl
theorem Ex.cs_at' {pre:List Ex}{x:Ex}{rest xs:List Ex} (h:pre++x::rest=xs):(Ex.cs xs)[pre.length]?=some x.cc:=by rw[Ex.cs_eq,<-Ex.c_eq];exact zaR h
mutual
def exEq:Ex->Ex->Bool
 | .mk a0 a1 a2 ks,.mk b0 b1 b2 ls=>decide (a0=b0)&&(decide (a1=b1)&&(decide (a2=b2)&&zoj ks ls))
def zoj:List Ex->List Ex->Bool
 | [],[]=>true
 |x::r,y::s=>exEq x y&&zoj r s
 |_,_=>false
end
mutual
def Ex.ok:Ex->Prop
 | .mk _ _ _ ks=>ks.length<=1000000000000/\Exs.ok ks
def Exs.ok:List Ex->Prop
 | []=>True
 |v::r=>v.ok/\Exs.ok r
end
theorem Exs.ok_mem:∀ {l:List Ex},Exs.ok l->∀v,v∈l->v.ok
 |x::r,h,v,hv=>by
  simp only[Exs.ok] at h;rcases List.mem_cons.1 hv with rfl|hv
  ·exact h.1
  ·exact Exs.ok_mem h.2 v hv
mutual
def Ex.size:Ex->Nat
 | .mk _ _ _ ks=>1+Exs.size ks
def Exs.size:List Ex->Nat
 | []=>0
 |v::r=>v.size+Exs.size r
end
theorem Exs.size_mem:∀ {l:List Ex}{v:Ex},v∈l->v.size<=Exs.size l
 |x::r,v,hv=>by
  simp only[Exs.size];rcases List.mem_cons.1 hv with rfl|hv
  ·omega
  ·have:=Exs.size_mem hv;omega
theorem Ex.ok_iff (v:Ex):v.ok↔v.kids.length<=1000000000000/\Exs.ok v.kids:=by cases v;rfl
theorem Ex.size_eq (v:Ex):v.size=1+Exs.size v.kids:=by cases v;rfl
mutual
theorem zrH:∀v:Ex,exEq v v=true
 | .mk _ _ _ ks=>by simp[exEq,zlA ks]
theorem zlA:∀l:List Ex,zoj l l=true
 | []=>rfl
 |v::r=>by simp[zoj,zrH v,zlA r]
end
mutual
def mEx:Ex->Nat
 | .mk _ _ _ ks=>mExs ks
def mExs:List Ex->Nat
 | []=>0
 |v::r=>1+mEx v+mExs r
end
structure Gd where
 op:Int
 var:Int
 n:Int
 deriving Inhabited
structure Cl where
 pat:Pat
 g:Gd
 deriving Inhabited
structure Ft where
 arg:Ty
 res:Ty
 deriving Inhabited
structure Fu where
 ty:Ft
 cls:List Cl
 bodies:List Ex
 deriving Inhabited
abbrev Cl.c (x:Cl):List D:=[.i x.pat.op,.i x.pat.ctor,.i x.pat.n,.i x.pat.m,.i x.pat.var,.sl (Pat.cs x.pat.kids),.i x.g.op,.i x.g.var,.i x.g.n]
abbrev zbc (l:List Cl):D:= .sl (l.map Cl.c)
abbrev Ft.c (x:Ft):List D:=[.i x.arg.data,.i x.arg.index,.i x.res.data,.i x.res.index]
abbrev Fu.c (x:Fu):List D:=[.i x.ty.arg.data,.i x.ty.arg.index,.i x.ty.res.data,.i x.ty.res.index,zbc x.cls,zuK x.bodies]
def ClsOk (l:List Cl):Prop:=l.length<=1000000000000/\∀c∈l,c.pat.ok
def mCl (c:Cl):Nat:=mPat c.pat
def mCls (l:List Cl):Nat:=l.length+(l.map mCl).sum
def gdEq (a b:Gd):Bool:=decide (a.op=b.op)&&(decide (a.var=b.var)&&decide (a.n=b.n))
def clEq (a b:Cl):Bool:=zfO a.pat b.pat&&gdEq a.g b.g
def zs3 (a b:List Cl):Bool:=all2 clEq a b
theorem znf {α:Type}{f:α->α->Bool} (h:∀x,f x x=true):∀l:List α,all2 f l l=true
 | []=>rfl
 |x::r=>by simp[all2,h x,znf h r]
theorem zrv (a:Cl):clEq a a=true:=by simp[clEq,gdEq,zmc]
theorem zgk (l:List Cl):zs3 l l=true:=znf zrv l
theorem zkW {c:Cl}{left:Int} (hok:c.pat.ok) (k0:0<=left) (k1:left<=1000000000000):
  FnD Tryz.prog 82 [.agg [.d (.i c.pat.op),.d (.i c.pat.ctor),.d (.i c.pat.n),.d (.i c.pat.m),.d (.i c.pat.var),.d (zae c.pat.kids),.d (.i c.g.op),.d (.i c.g.var),.d (.i c.g.n)],.d (.i left)] [] (.d (.i (szr left (mCl c)))) []:=by
 have z:=zbG (left:=left) (mCl c);refine bd Tryz.f82 12 [] [] fun w0 F0 own kept hk=>?_;refine bx 3002 ?_;refine ev ?_;refine wc zq9 (zge _ (Nat.le_refl _) hok k0 k1) rfl rfl ?_;refine ev ?_;refine sq ?_ ?_<;>intro h1 h1p h1s<;>(try simp only[Q] at h1p);refine rq ?_;rotate_left;refine rq ?_;rotate_left;all_goals (refine congrArg D.i ?_;unfold mCl at *;omega)
theorem zgd {l:List Cl}{left:Int} (hs:ClsOk l) (k0:0<=left) (k1:left<=1000000000000):FnD Tryz.prog 29 [.d (zbc l),.d (.i left)] [] (.d (.i (szr left (mCls l)))) []:=by
 have h:=hs.1;have z:=zbG (left:=left) (mCls l);simp only[mCls] at z ⊢;refine bd Tryz.f29 27 [] [] fun w0 F0 own kept hk=>?_;refine ar ?_;refine sq ?_ ?_<;>intro h1 h1p h1s<;>(try simp only[Q] at h1p);refine rq ?_;rotate_left;refine xam (ι:=List (Cl)×List (Cl)×(Int)) hk (fun x=>[(5,.d (.i (x.1.length:Int))),(1,.d (.i x.2.2))]) [4,12,13,14,15,16,17,18,19,20,21,22,23,24,25] (fun x=>[]) (fun x=>x.1++x.2.1=l/\x.2.2=left-l.length-(x.1.map mCl).sum/\0<=x.2.2) (fun x=>x.2.1.length) ([],l,left-l.length) ⟨by simp,by simp,by simp at *;omega⟩ ⟨⟨_,rfl,xaz ?_⟩,⟨⟨_,rfl,xaz ?_⟩,trivial⟩⟩ trivial (fun x=>rfl) (fun x hg1=>?_);iterate 2 focus (first|rfl|(simp;done))
 obtain⟨pre,rest,v⟩:=x;dsimp only at hg1 ⊢;refine evc [] [] ?_;refine sq ?_ ?_<;>intro h2 h2p h2s<;>(try simp only[Q] at h2p);rcases rest with _|⟨y,rest⟩
 ·exfalso;simp_all
 refine xaS sl62 .none rfl rfl rfl rfl (zaR hg1.1) rfl ?_;refine ev ?_;refine wc zuY (zkW (c:=y) (hs.2 y (by rw[<-hg1.1];simp)) (by omega) (by omega)) rfl rfl ?_;refine ev ?_;refine sq ?_ ?_<;>intro h3 h3p h3s<;>(try simp only[Q] at h3p);refine rq ?_;rotate_left;refine ar ?_;refine xah ((pre++[y],rest,szr v (mCl y))) ⟨⟨(by have hz:=hg1.1;rw[<-hz];simp),(by have e:=zdr (f:=mCl) hg1.1;have z3:=zbG (left:=v) (mCl y);simp;omega)⟩,(by simp),sx ⟨⟨_,rfl,xaz ?_⟩,⟨⟨_,rfl,xaz ?_⟩,trivial⟩⟩ trivial⟩;iterate 2 focus (first|rfl|(simp;done))
 have hrest:rest=[]:=by
  rcases rest with _|⟨a,b⟩
  ·rfl
  ·exfalso;have hz:=congrArg List.length (hg1.1);simp only[xaa,xab,xac] at hz;omega
 subst hrest;refine rq ?_;rotate_left;all_goals (refine congrArg D.i ?_;first|omega|(have e:=zdr (f:=mCl) hg1.1;have z3:=zbG (left:=v) (mCl y);omega)|(rw[List.append_nil] at hg1;rw[hg1.1] at hg1;omega))
theorem zhc {a b c:Int}:FnD Tryz.prog 165 [.agg [.d (.i a),.d (.i b),.d (.i c)]] [] (.agg [.d (.i a),.d (.i b),.d (.i c)]) []:=by
 refine bd Tryz.f165 14 [] [] fun w0 F0 own kept hk=>?_;refine bx 3001 ?_;refine ab 3002 tz38 ?_;refine tv ?_;refine ab 3003 tz38 ?_;refine tv ?_;refine so ty3 ?_;refine tv ?_;refine so ty3 ?_;refine tv ?_;refine so ty3 ?_;refine tv ?_;refine so ty38 ?_;refine tv ?_;focus (refine rn0 (.cons (.cellA ty38 rfl rfl rfl) .nil) (.agg (.cons (.eqd ?_) (.cons (.eqd ?_) (.cons (.eqd ?_) .nil))));all_goals (first|rfl|(simp[];done)|(simp_all;done)|(simp_all;omega)|omega))
theorem zkX {c:Cl} (hok:c.pat.ok):
  FnD Tryz.prog 84 [.agg [.d (.i c.pat.op),.d (.i c.pat.ctor),.d (.i c.pat.n),.d (.i c.pat.m),.d (.i c.pat.var),.d (zae c.pat.kids),.d (.i c.g.op),.d (.i c.g.var),.d (.i c.g.n)]] [] (.agg [.d (.i c.pat.op),.d (.i c.pat.ctor),.d (.i c.pat.n),.d (.i c.pat.m),.d (.i c.pat.var),.d (zae c.pat.kids),.d (.i c.g.op),.d (.i c.g.var),.d (.i c.g.n)]) []:=by
 refine bd Tryz.f84 13 [] [] fun w0 F0 own kept hk=>?_;refine bx 3001 ?_;refine ab 3002 tz40 ?_;refine tv ?_;refine ab 3003 tz40 ?_;refine tv ?_;refine wc zoC (zkn hok) rfl rfl ?_;refine ev ?_;refine so ty36 ?_;refine tv ?_;refine wc zrb (zhc) rfl rfl ?_;refine ev ?_;refine so ty38 ?_;refine tv ?_;refine so ty40 ?_;refine tv ?_;focus (refine rn0 (.cons (.cellA ty40 rfl rfl rfl) .nil) (.agg (.cons (.eqd ?_) (.cons (.eqd ?_) (.cons (.eqd ?_) (.cons (.eqd ?_) (.cons (.eqd ?_) (.cons (.eqd ?_) (.cons (.eqd ?_) (.cons (.eqd ?_) (.cons (.eqd ?_) .nil))))))))));all_goals (first|rfl|(simp[];done)|(simp_all;done)|(simp_all;omega)|omega))
theorem zca {l:List Cl} (hs:ClsOk l):FnD Tryz.prog 32 [.d (zbc l)] [] (.d (zbc l)) []:=by
 have h:=hs.1;refine bd Tryz.f32 23 [] [999999] fun w0 F0 own kept hk=>?_;refine xa3 (id:=3007) sl26 tz40 rfl (by decide) (zbW rfl) .none rfl rfl rfl (by simp;omega) (by simp;omega) rfl rfl rfl ?_;refine ev ?_;refine xam (ι:=List (Cl)×List (Cl)) hk (fun x=>[(4,.d (.i (x.1.length:Int)))]) [8,9,10,11,12,13,14,15,16,17,18,19,20,21] (fun x=>[(3007,some (.box ((x.1.flatMap fun x=>(Cl.c x).map AV.d)++zaF x.2.length [.d (.i 0),.d (.i 0),.d (.i 0),.d (.i 0),.d (.i 0),.nils,.d (.i 0),.d (.i 0),.d (.i 0)])))]) (fun x=>x.1++x.2=l) (fun x=>x.2.length) ([],l) (by simp) ⟨⟨_,rfl,xaz ?_⟩,trivial⟩ ⟨?_,trivial⟩ (fun x=>rfl) (fun x hg1=>?_);focus (first|rfl|(simp;done)|(simp_all;done)|omega)
 focus (first|rfl|(show some (Res.box _)=some (Res.box _);simp;done))
 obtain⟨pre,rest⟩:=x;dsimp only at hg1 ⊢;refine evc [] [999999] ?_;refine sq ?_ ?_<;>intro h1 h1p h1s<;>(try simp only[Q] at h1p);rcases rest with _|⟨y,rest⟩
 ·exfalso;simp_all
 refine xaS sl62 .none rfl rfl rfl rfl (zaR hg1) rfl ?_;refine ev ?_;refine wc zsZ (zkX (c:=y) (hs.2 y (by rw[<-hg1];simp))) rfl rfl ?_;refine xaV sl26 .none rfl rfl rfl rfl (by first|omega|(simp ;omega)) ?_;refine Walk.store ty40 .none rfl rfl rfl rfl rfl rfl (by simp) ((zhk (k:=9) (by intro x _;rfl) (by first|rfl|simp) rfl)) ?_;refine tv ?_;refine ar ?_;refine xah ((pre++[y],rest)) ⟨(by have hz:=hg1;rw[<-hz];simp),(by simp),sx ⟨⟨_,rfl,xaz ?_⟩,trivial⟩ ⟨?_,trivial⟩⟩;focus (first|rfl|(simp;done)|(simp_all;done)|omega)
 focus (first|rfl|(show some (Res.box _)=some (Res.box _);simp;done))
 have hrest:rest=[]:=by
  rcases rest with _|⟨a,b⟩
  ·rfl
  ·exfalso;have hz:=congrArg List.length (hg1);simp only[xaa,xab,xac] at hz;omega
 subst hrest;refine CWp.frz hk 2 3007 _ _ rfl rfl (zfF (f:=Cl.c) (k:=9) hg1 (by simp) (by intro x _;rfl)) rfl ?_;refine CWp.ret ?_;focus (refine rq ?_;all_goals (first|rfl|(simp[h1s,h1p];done)|(simp_all;done)|(simp_all;omega)|omega))
theorem zlN {a b:Gd}:FnD Tryz.prog 168 [.agg [.d (.i a.op),.d (.i a.var),.d (.i a.n)],.agg [.d (.i b.op),.d (.i b.var),.d (.i b.n)]] [] (.d (.bool (gdEq a b))) []:=by
 refine bd Tryz.f168 20 [] [] fun w0 F0 own kept hk=>?_;refine bx 3002 ?_;refine bx 3003 ?_;refine ev ?_;refine sq ?_ ?_<;>intro h1 h1p h1s<;>(try simp only[Q] at h1p);focus (refine rq ?_;all_goals (refine congrArg D.bool ?_;simp[gdEq,h1s,h1p]))
 refine sq ?_ ?_<;>intro h2 h2p h2s<;>(try simp only[Q] at h2p);focus (refine rq ?_;all_goals (refine congrArg D.bool ?_;simp[gdEq,h1s,h1p,h2s,h2p]))
 refine sq ?_ ?_<;>intro h3 h3p h3s<;>(try simp only[Q] at h3p);focus (refine rq ?_;all_goals (refine congrArg D.bool ?_;simp[gdEq,h1s,h1p,h2s,h2p,h3s,h3p]))
 focus (refine rq ?_;all_goals (refine congrArg D.bool ?_;simp[gdEq,h1s,h1p,h2s,h2p,h3s,h3p]))
theorem zkU {a b:Cl} (hok:a.pat.ok):
  FnD Tryz.prog 87 [.agg [.d (.i a.pat.op),.d (.i a.pat.ctor),.d (.i a.pat.n),.d (.i a.pat.m),.d (.i a.pat.var),.d (zae a.pat.kids),.d (.i a.g.op),.d (.i a.g.var),.d (.i a.g.n)],.agg [.d (.i b.pat.op),.d (.i b.pat.ctor),.d (.i b.pat.n),.d (.i b.pat.m),.d (.i b.pat.var),.d (zae b.pat.kids),.d (.i b.g.op),.d (.i b.g.var),.d (.i b.g.n)]] [] (.d (.bool (clEq a b))) []:=by
 refine bd Tryz.f87 17 [] [] fun w0 F0 own kept hk=>?_;refine bx 3002 ?_;refine bx 3003 ?_;refine ev ?_;refine wc zrc (zgc (a:=a.pat) (b:=b.pat) _ (Nat.le_refl _) hok) rfl rfl ?_;refine ev ?_;refine sq ?_ ?_<;>intro h1 h1p h1s<;>(try simp only[Q] at h1p);focus (refine rq ?_;all_goals (refine congrArg D.bool ?_;simp[clEq,h1s,h1p]))
 refine wc ztW (zlN (a:=a.g) (b:=b.g)) rfl rfl ?_;refine ev ?_;refine sq ?_ ?_<;>intro h2 h2p h2s<;>(try simp only[Q] at h2p);focus (refine rq ?_;all_goals (refine congrArg D.bool ?_;simp[clEq,h1s,h1p,h2s,h2p]))
 focus (refine rq ?_;all_goals (refine congrArg D.bool ?_;simp[clEq,h1s,h1p,h2s,h2p]))
theorem zbw {l m:List Cl} (hs:ClsOk l):FnD Tryz.prog 35 [.d (zbc l),.d (zbc m)] [] (.d (.bool (zs3 l m))) []:=by
 have h:=hs.1;refine bd Tryz.f35 27 [] [] fun w0 F0 own kept hk=>?_;refine sq ?_ ?_<;>intro h1 h1p h1s<;>(try simp only[Q,Int.natCast_inj] at h1p);refine rq ?_;rotate_left;refine xam (ι:=Nat) hk (fun i=>[(5,.d (.i (i:Int)))]) [4,11,12,13,14,15,16,17,18,19,20,21,22,23,24,25,26] (fun i=>[]) (fun i=>i<=l.length/\∀i',i'<i->clEq (nth l i') (nth m i')=true) (fun i=>l.length-i) 0 ⟨by omega,fun _ h=>absurd h (by omega)⟩ ⟨⟨_,rfl,xaz ?_⟩,trivial⟩ trivial (fun x=>rfl) (fun i hg1=>?_);focus (first|rfl|(simp;done)|(simp_all;done)|omega)
 refine evc [] [] ?_;refine sq ?_ ?_<;>intro h2 h2p h2s<;>(try simp only[Q,Int.natCast_inj] at h2p);refine xaS sl26 .none rfl rfl rfl rfl (zax (by omega)) rfl ?_;refine evd [] [] ?_;refine xaS sl26 .none rfl rfl rfl rfl (zax (by omega)) rfl ?_;refine evd [] [] ?_;refine wc zu0 (zkU (a:=nth l i) (b:=nth m i) (hs.2 _ (zal (by omega)))) rfl rfl ?_;refine evd [] [] ?_;refine dr ?_;refine sq ?_ ?_<;>intro h3 h3p h3s<;>(try simp only[Q,Int.natCast_inj] at h3p);refine rq ?_;rotate_left;refine ar ?_;refine xah (i+1) ⟨⟨by omega,zaV hg1.2 (by assumption)⟩,(by omega),sx ⟨⟨_,rfl,xaz ?_⟩,trivial⟩ trivial⟩;focus (first|rfl|(simp;done)|(simp_all;done)|omega)
 refine rq ?_;rotate_left;all_goals (refine congrArg D.bool ?_;first|(refine(zgD ?_).symm;omega)|(refine(zcb (by omega) (fun x hx=>hg1.2 x (by omega))).symm)|(refine(zbH (i:=i) (by omega) (by omega) ?_).symm;assumption))
mutual
def cntE (m:Int):Ex->Int
 | .mk _ _ _ ks=>zd7 m 1 ks
def zd7 (m n:Int):List Ex->Int
 | []=>n
 |k::r=>if n<=m then zd7 m (n+cntE (m-n) k) r else n
end
theorem zqy {m n:Int}{l:List Ex} (h:¬n<=m):zd7 m n l=n:=by cases l<;>simp[zd7,h]
mutual
theorem zpY:∀(v:Ex) (m:Int),1<=cntE m v/\cntE m v<=v.size
 | .mk _ _ _ ks,m=>by
  have:=zkH ks m 1 (by omega);simp only[cntE,Ex.size];push_cast;omega
theorem zkH:∀(l:List Ex) (m n:Int),1<=n->1<=zd7 m n l/\zd7 m n l<=n+Exs.size l
 | [],m,n,h=>by simp[zd7,Exs.size];omega
 |k::r,m,n,h=>by
  have h1:=zpY k (m-n);have h2:=zkH r m (n+cntE (m-n) k) (by omega);simp only[zd7,Exs.size];split
  ·push_cast;omega
  ·push_cast;omega
end
mutual
theorem zsl:∀(v:Ex) (m:Int),(cntE m v<=m↔(v.size:Int)<=m)/\(cntE m v<=m->cntE m v=v.size)
 | .mk _ _ _ ks,m=>by
  have:=znj ks m 1;simp only[cntE,Ex.size];push_cast;exact this
theorem znj:∀(l:List Ex) (m n:Int),(zd7 m n l<=m↔n+(Exs.size l:Int)<=m)/\(zd7 m n l<=m->zd7 m n l=n+Exs.size l)
 | [],m,n=>by simp[zd7,Exs.size]
 |k::r,m,n=>by
  have h1:=zsl k (m-n);have h2:=znj r m (n+cntE (m-n) k);have h3:=zkH r m (n+cntE (m-n) k);have h4:=zpY k (m-n);simp only[zd7,Exs.size];push_cast
  by_cases hn:n<=m
  ·rw[if_pos hn];by_cases h5:cntE (m-n) k<=m-n
   ·have h6:=h1.2 h5;rw[h6] at h2 ⊢;constructor
    ·rw[h2.1];constructor<;>intro h<;>omega
    ·intro h;rw[h2.2 h];omega
   ·have h7:¬(k.size:Int)<=m-n:=fun h=>h5 (h1.1.2 h);have h8:¬n+cntE (m-n) k<=m:=by omega
    rw[zqy h8];constructor
    ·constructor<;>intro h<;>omega
    ·intro h;omega
  ·rw[if_neg hn];constructor
   ·constructor<;>intro h<;>omega
   ·intro h;omega
end
def TyOk (n:Nat) (t:Ty):Prop:=TyIn n t/\(t.data = -1->t.index=0)
def gdOk (g:Gd) (vars:List Vt):Bool:=if g.op=0 then decide (g.var=0/\g.n=0) else decide (1<=g.op/\g.op<=2/\0<=g.n/\g.n<=9)&&decide ((⟨g.var,⟨-1,0⟩⟩:Vt)∈vars)
def zgX (w:List Data) (t:Ty) (p:Pat):List Vt:=zdd (zaP w 10 t p 0).1
def clOk (w:List Data) (t:Ty) (c:Cl):Bool:=isP w t c.pat&&gdOk c.g (zgX w t c.pat)
def zbt (w:List Data) (t:Ty) (l:List Cl):Bool:=zbr w t&&(decide ((l.length:Int)<=8)&& !l.any fun c=> !clOk w t c)
theorem zhC {xs:List Cl}{f:Nat}{caps:List AV}{hp:Hp}{p:Cl->Bool} (hs:xs.length<=1000000000000) (hcal:Callee Tryz.prog f)
  (hf:∀t∈xs,FnD Tryz.prog f ([.agg [.d (.i t.pat.op),.d (.i t.pat.ctor),.d (.i t.pat.n),.d (.i t.pat.m),.d (.i t.pat.var),.d (zae t.pat.kids),.d (.i t.g.op),.d (.i t.g.var),.d (.i t.g.n)]]++caps) hp (.d (.bool (p t))) []) (k1:subH hp hp) (k2:zdw hp=true) (k3:zas hp [] (.d .nilp) []=true):
  FnD Tryz.prog 216 [.d (zbc xs),.fn f caps] hp (.d (.i (idxF p xs 0))) []:=by
 refine bd Tryz.f216 19 [] [] fun w0 F0 own kept hk=>?_;refine xam (ι:=List (Cl)×List (Cl)) hk (fun x=>[(8,.d (.i (x.1.length:Int)))]) [4,5,9,10,11,12,13,14,15,16,17,18] (fun x=>[]) (fun x=>x.1++x.2=xs/\idxF p x.2 x.1.length=idxF p xs 0) (fun x=>x.2.length) ([],xs) ⟨by simp,rfl⟩ ⟨⟨_,rfl,xaz ?_⟩,trivial⟩ trivial (fun x=>zgi hp) (fun x hg1=>?_);focus (first|rfl|(simp;done)|(simp_all;done)|omega)
 obtain⟨pre,rest⟩:=x;dsimp only at hg1 ⊢;refine evc [] [] ?_;refine sq ?_ ?_<;>intro h1 h1p h1s<;>(try simp only[Q] at h1p);rcases rest with _|⟨y,rest⟩
 ·exfalso;simp_all
 refine xaS sl26 .none rfl rfl rfl rfl (zaR hg1.1) rfl ?_;refine ev ?_;refine xaK (cr:=[]) hcal (hf y (by rw[<-hg1.1];simp)) rfl .none rfl rfl rfl (LeL.refl _) k1 k2 (zcN k3 _) rfl ?_;refine tv ?_;refine sq ?_ ?_<;>intro h2 h2p h2s<;>(try simp only[Q] at h2p);focus (refine rn [] (r1 rfl) (.eqd ?_) ⟨rfl,rfl⟩ (fun _ _ h=>h) (fun _ h=>h);all_goals (rw[<-hg1.2];simp[idxF,h1s,h1p,h2s,h2p]))
 refine ar ?_;refine xah ((pre++[y],rest)) ⟨⟨(by have hz:=hg1.1;rw[<-hz];simp),(by rw[<-hg1.2];simp[idxF,h2s])⟩,(by simp),Sub.x (by kernel_rfl) (by kernel_rfl) ⟨⟨_,rfl,xaz ?_⟩,trivial⟩ (by simp) (by simp[zdg]) trivial⟩;focus (first|rfl|(simp;done)|(simp_all;done)|omega)
 have hrest:rest=[]:=by
  rcases rest with _|⟨a,b⟩
  ·rfl
  ·exfalso;have hz:=congrArg List.length (hg1.1);simp only[xaa,xab,xac] at hz;omega
 subst hrest;focus (refine rn [] (r1 rfl) (.eqd ?_) ⟨rfl,rfl⟩ (fun _ _ h=>h) (fun _ h=>h);all_goals (rw[<-hg1.2];simp[idxF,h1s,h1p]))
theorem zgs {xs:List Cl}{f:Nat}{caps:List AV}{hp:Hp}{p:Cl->Bool} (hs:xs.length<=1000000000000) (hcal:Callee Tryz.prog f)
  (hf:∀t∈xs,FnD Tryz.prog f ([.agg [.d (.i t.pat.op),.d (.i t.pat.ctor),.d (.i t.pat.n),.d (.i t.pat.m),.d (.i t.pat.var),.d (zae t.pat.kids),.d (.i t.g.op),.d (.i t.g.var),.d (.i t.g.n)]]++caps) hp (.d (.bool (p t))) []) (k1:subH hp hp) (k2:zdw hp=true) (k3:zas hp [] (.d .nilp) []=true):
  FnD Tryz.prog 121 [.d (zbc xs),.fn f caps] hp (.d (.bool (xs.any p))) []:=by
 refine bd Tryz.f121 9 [] [] fun w0 F0 own kept hk=>?_;refine Walk.call (cr:=[]) zt0 (zhC hs hcal hf k1 k2 k3) rfl .none rfl rfl (LeL.refl _) k1 k2 (zcN k3 _) rfl ?_;refine ev ?_;refine rn [] (r1 rfl) (.eqd ?_) ⟨rfl,rfl⟩ (fun _ _ h=>h) (fun _ h=>h);rotate_left;all_goals (exact congrArg D.bool (zeA p xs 0))
theorem zqW (w:List Data) (t:Ty) (p:Pat):(zgX w t p).length<=6:=(zfA w 10 t p 0).2
theorem zlF {g:Gd}{vars:List Vt} (hv:vars.length<=1000000000000):FnD Tryz.prog 218 [.agg [.d (.i g.op),.d (.i g.var),.d (.i g.n)],.d (zcM vars)] [] (.d (.bool (gdOk g vars))) []:=by
 refine bd Tryz.f218 27 [10] [] fun w0 F0 own kept hk=>?_;refine bx 3002 ?_;refine evs [10] [] ?_;refine sq ?_ ?_<;>intro h1 h1p h1s<;>(try simp only[Q,zaz] at h1p);refine bu [] [] st38 ?_;refine Walk.eqV eq38 .none rfl rfl rfl rfl rfl ?_;refine evs [10] [] ?_;refine rq ?_;rotate_left;refine wc zdf (zbf) rfl rfl ?_;refine evs [10] [] ?_;refine sq ?_ ?_<;>intro h2 h2p h2s<;>(try simp only[Q,zaz] at h2p);refine Walk.call (cr:=[]) zdf (zbf) rfl (.some rfl rfl h2) rfl rfl (LeL.refl _) trivial rfl rfl rfl ?_;refine evs [10] [(14,true)] ?_ ⟨⟨_,rfl,h2⟩,trivial⟩;refine sq ?_ ?_<;>intro h3 h3p h3s<;>(try simp only[Q,zaz] at h3p);refine Walk.build st25 (ks:=[0]) (xs:=[_]) rfl rfl (.some rfl rfl h3) rfl rfl rfl ?_;refine Walk.build zqR (ks:=[0,1]) (xs:=[_,_]) rfl rfl (.some rfl rfl h3) rfl rfl rfl ?_;refine Walk.call (cr:=[]) zrm (zeQ (v:=⟨g.var,⟨-1,0⟩⟩) hv) rfl (.some rfl rfl h3) rfl rfl (LeL.refl _) trivial rfl rfl rfl ?_;refine evs [10] [(19,true)] ?_ ⟨⟨_,rfl,h3⟩,trivial⟩;refine rq ?_;rotate_left;refine rq ?_;rotate_left;refine sqF ?_;refine rq ?_;rotate_left;all_goals (refine congrArg D.bool ?_;unfold gdOk;first|(rw[if_pos (by omega)];simp_all;done)|(rw[if_neg (by omega)];simp_all[zaz];done)|(rw[if_neg (by omega)];simp_all[zaz];omega))
theorem zgM {w:List Data} (hw:WT w){t:Ty}{c:Cl} (ht:TyIn w.length t) (hok:c.pat.ok):
  FnD Tryz.prog 123 [.d (zam w),.agg [.d (.i t.data),.d (.i t.index)],.agg [.d (.i c.pat.op),.d (.i c.pat.ctor),.d (.i c.pat.n),.d (.i c.pat.m),.d (.i c.pat.var),.d (zae c.pat.kids),.d (.i c.g.op),.d (.i c.g.var),.d (.i c.g.n)]] [] (.d (.bool (clOk w t c))) []:=by
 have ht':TyIn w.length ⟨t.data,t.index⟩:=ht;have hvl:=zqW w t c.pat;refine bd Tryz.f123 24 [] [] fun w0 F0 own kept hk=>?_;refine bx 3004 ?_;refine bx 3005 ?_;refine ev ?_;refine wc zrf (zfo hw ht' hok) rfl rfl ?_;refine ev ?_;refine sq ?_ ?_<;>intro h1 h1p h1s<;>(try simp only[Q] at h1p);refine Walk.call (cr:=[]) zt1 (zlF (g:=c.g) (vars:=zgX w t c.pat) (by omega)) rfl (.some rfl rfl h1) rfl rfl (LeL.refl _) trivial rfl rfl rfl ?_;refine evs [] [(18,true)] ?_ ⟨⟨_,rfl,h1⟩,trivial⟩;refine rq ?_;rotate_left;refine rq ?_;rotate_left;all_goals (refine congrArg D.bool ?_;unfold clOk;have hte:(⟨t.data,t.index⟩:Ty)=t:=rfl;(simp_all;done))
theorem zhB {w:List Data} (hw:WT w){a k:Int}{c:Cl} (ht:TyIn w.length ⟨a,k⟩) (hok:c.pat.ok):
  FnD Tryz.prog 122 [.agg [.d (.i c.pat.op),.d (.i c.pat.ctor),.d (.i c.pat.n),.d (.i c.pat.m),.d (.i c.pat.var),.d (zae c.pat.kids),.d (.i c.g.op),.d (.i c.g.var),.d (.i c.g.n)],.ref 3003 0,.ref 3004 0] [(3003,some (.box [.d (zam w)])),(3004,some (.box [.d (.i a),.d (.i k)]))] (.d (.bool (!clOk w ⟨a,k⟩ c))) []:=by
 refine bd Tryz.f122 10 [] [] fun w0 F0 own kept hk=>?_;refine bx 3901 ?_;refine ev ?_;refine wc zq1 (zgM (t:=⟨a,k⟩) (c:=c) hw ht hok) rfl rfl ?_;refine ev ?_;refine rn [] (r1 rfl) (.eqd ?_) ⟨rfl,rfl⟩ (SubH.get ⟨rfl,⟨rfl,trivial⟩⟩) (fun _ h=>h);rotate_left;all_goals (rfl)
theorem zeZ {w:List Data} (hs:WSmall w){a k:Int}{l:List Cl} (hl:ClsOk l):
  FnD Tryz.prog 58 [.d (zam w),.agg [.d (.i a),.d (.i k)],.d (zbc l)] [] (.d (.bool (zbt w ⟨a,k⟩ l))) []:=by
 have hll:=hl.1;refine bd Tryz.f58 21 [] [] fun w0 F0 own kept hk=>?_;refine bx 3003 ?_;refine bx 3004 ?_;refine ev ?_;refine wc zow (zel hs) rfl rfl ?_;refine ev ?_;refine sq ?_ ?_<;>intro h1 h1p h1s<;>(try simp only[Q] at h1p);refine sq ?_ ?_<;>intro h2 h2p h2s<;>(try simp only[Q] at h2p);refine xaL (xs:=[_,_]) rfl (.some rfl rfl h2) rfl rfl ?_;refine Walk.call (cr:=[]) ztO (zgs (p:=fun c=> !clOk w ⟨a,k⟩ c) hl.1 ztP (fun t htm=>zhB (zd1 hs (zbN (by assumption)).1) (zbN (by assumption)).2.1 (hl.2 t htm)) ⟨rfl,rfl,trivial⟩ rfl rfl) rfl (.some rfl rfl h2) rfl rfl (LeL.refl _) ⟨rfl,rfl,trivial⟩ rfl rfl rfl ?_;refine evs [] [(15,true)] ?_ ⟨⟨_,rfl,h2⟩,trivial⟩;refine rq ?_;rotate_left;refine rq ?_;rotate_left;refine sqF ?_;refine rq ?_;rotate_left;all_goals (refine congrArg D.bool ?_;unfold zbt;first|(simp_all;done)|(simp_all;omega))
def AZ (w:List Data):Prop:=∀t c,c∈zaA w t->TyIn w.length t->∀u∈zak w t c,u.data = -1->u.index=0
theorem zpB {w:List Data} (hv:zbu w=true):AZ w:=by
 have hW:=(zdm w).1 hv;rintro ⟨a,k⟩ c hc ht u hu hd
 obtain⟨d,rfl,h1,j,rfl,h3⟩:=zcI ht hc;have hco:=hW.ctor _ (zal h1) _ (zal h3);simp only[zbC,xad,decide_eq_true_eq,Bool.not_eq_true',List.any_eq_false,Bool.not_eq_false'] at hco;have hall:=hco.2.2.2;simp only[zak,Int.toNat_natCast] at hu;obtain⟨x,hx,rfl⟩:=List.mem_map.1 hu;have hxo:=hall x hx;simp only[zbU,zaz,Bool.or_eq_true,xad,decide_eq_true_eq,and_true,Bool.not_eq_true',Bool.not_eq_false] at hxo;unfold zck at hd ⊢;split at hd
 ·rename_i hi;rw[if_pos hi];dsimp only at hd ⊢;omega
 ·rename_i hi;rw[if_neg hi];omega
theorem zr8 {n:Nat}{t:Ty} (h:zd0 n t=true):TyOk n t:=by
 refine⟨zr7 h,fun hd=>?_⟩;simp only[zd0,zaz,Bool.or_eq_true,xad,decide_eq_true_eq,and_true] at h;omega
theorem zsa {w:List Data}{t:Ty}{p:Pat} (h:isP w t p=true):zgX w t p=zaM w 10 t p:=by
 unfold isP at h;simp only[xad,decide_eq_true_eq] at h;have e:=(zfz w 10 t p 0).1;have hw:zbL w 10 t p 0=true:=by
  unfold zbL;rw[h.1,h.2.2,decide_eq_true (by omega)];rfl
 rw[if_pos hw] at e;unfold zgX;rw[e];rfl
theorem zsb {w:List Data}{t:Ty}{p:Pat} (h:isP w t p=true):zcA (zaM w 10 t p)=true:=by
 unfold isP at h;simp only[xad] at h;exact zhe w 10 t p h.1 h.2.2
theorem zpD {w:List Data} (hw:WT w) (haz:AZ w):∀(n:Nat){t:Ty}{p:Pat},zaw w n t p=true->TyOk w.length t->∀v∈zaM w n t p,TyOk w.length v.ty
 |0,t,p,h,_=>by simp[zaw] at h
 |n+1,t,p,h,ht=>by
  obtain⟨ho,hlen⟩:=zbK h;intro v hv;have hto:∀u∈zai w t p,TyOk w.length u:=fun u hu=>by
   refine⟨zf1 (a:=t.data) (k:=t.index) hw ht.1 ho u hu,fun hd=>?_⟩;unfold zai at hu;split at hu
   ·rename_i h4;exact haz t p.ctor (zcg ho h4) ht.1 u hu hd
   ·split at hu
    ·simp only[List.mem_cons,List.not_mem_nil,or_false,or_self] at hu;rw[hu] at hd ⊢;exact ht.2 hd
    ·split at hu
     ·simp only[List.mem_cons,List.not_mem_nil,or_false] at hu;rw[hu] at hd ⊢;exact ht.2 hd
     ·simp at hu
  simp only[zaM,List.mem_append] at hv;rcases hv with hv|hv
  ·unfold zaU at hv;split at hv
   ·simp only[List.mem_cons,List.not_mem_nil,or_false] at hv;rw[hv];exact ht
   ·simp at hv
  ·have key:∀(a:List Ty) (b:List Pat),(∀i,i<a.length->i<b.length->∀v∈zaM w n (nth a i) (nth b i),TyOk w.length v.ty)->∀v∈zbg (zaM w n) a b,TyOk w.length v.ty:=by
    intro a;induction a with
    |nil=>intro b _ v hv;simp[zbg] at hv
    |cons x r ih=>
     intro b h v hv;cases b with
     |nil=>simp[zbg] at hv
     |cons y s=>
      simp only[zbg,List.mem_append] at hv;rcases hv with hv|hv
      ·exact h 0 (by simp) (by simp) v hv
      ·exact ih s (fun i h1 h2=>h (i+1) (by simpa using h1) (by simpa using h2)) v hv
   refine key (zdl w t p) p.kids (fun i h1 h2=>?_) v hv;have hvt:i<(zai w t p).length/\nth (zdl w t p) i=nth (zai w t p) i:=by
    unfold zdl at h1 ⊢;split at h1
    ·rename_i h5;rw[if_pos h5];rw[List.length_take] at h1;refine⟨by omega, ?_⟩;have:i=0:=by omega
     subst this;cases hT:zai w t p with
     |nil=>rfl
     |cons a b=>rfl
    ·rename_i h5;rw[if_neg h5];exact⟨h1,rfl⟩
   rw[hvt.2];exact zpD hw haz n (zbJ h (by omega)) (hto _ (zal hvt.1))
def gdS (g:Gd) (vars:List Vt):Bool:=if g.op=0 then decide (g.var=0/\g.n=0) else decide (1<=g.op/\g.op<=2/\0<=g.n/\g.n<=9)&&(decide (0<=zby vars g.var)&&decide ((nth vars (zby vars g.var).toNat).ty.data = -1))
theorem zuO {n:Nat}{g:Gd}{vars:List Vt} (hn:zcA vars=true) (hv:∀v∈vars,TyOk n v.ty):gdS g vars=gdOk g vars:=by
 unfold gdS gdOk;split
 ·rfl
 ·congr 1
  have hnod:=of_decide_eq_true hn;rw[Bool.eq_iff_iff];simp only[xad,decide_eq_true_eq];constructor
  ·rintro ⟨h1,h2⟩
   rcases zeV vars g.var with ⟨h3,_⟩|⟨k,h3,h4,h5,_⟩
   ·omega
   ·rw[h3] at h2;simp only[Int.toNat_natCast] at h2;have hm:=zal h4;have ho:=(hv _ hm).2 h2;have:nth vars k=⟨g.var,⟨-1,0⟩⟩:=by
     generalize nth vars k=z at *;obtain⟨zv,⟨za,zk⟩⟩:=z;dsimp only at h5 h2 ho;rw[h5,h2,ho]
    rw[<-this];exact hm
  ·intro hm;rcases zeV vars g.var with ⟨_,h4⟩|⟨k,h3,h4,h5,_⟩
   ·exact absurd rfl (h4 _ hm)
   ·refine⟨by omega, ?_⟩;rw[h3];simp only[Int.toNat_natCast];obtain⟨j,hj,e⟩:=List.getElem_of_mem hm;have ej:nth vars j=⟨g.var,⟨-1,0⟩⟩:=by simp[nth,List.getD,hj,e]
    have:k=j:=zjy hnod h4 hj (by rw[h5,ej]);rw[this,ej]
theorem zmp {g:Gd}{vars:List Vt} (hv:vars.length<=1000000000000):FnD Tryz.prog 224 [.agg [.d (.i g.op),.d (.i g.var),.d (.i g.n)],.d (zcM vars)] [] (.d (.bool (gdS g vars))) []:=by
 have hlt:=fun h=>zkJ (l:=vars) (n:=g.var) h;refine bd Tryz.f224 50 [] [3] fun w0 F0 own kept hk=>?_;refine bx 3002 ?_;refine ev ?_;refine sq ?_ ?_<;>intro h1 h1p h1s<;>(try simp only[Q] at h1p);refine sq ?_ ?_<;>intro h2 h2p h2s<;>(try simp only[Q] at h2p);refine rq ?_;rotate_left;refine rq ?_;rotate_left;refine xaq ?_;refine xaD 18 [(34,.d (.bool (decide (¬(1<=g.op/\g.op<=2/\0<=g.n/\g.n<=9)))))] [17,18,19,20,21,22,23,24,25,26,27,28,29,30,31,32,33] ?_ ?_;refine ev ?_;refine sq ?_ ?_<;>intro h3 h3p h3s<;>(try simp only[Q] at h3p);refine sq ?_ ?_<;>intro h4 h4p h4s<;>(try simp only[Q] at h4p);refine sqT ?_;focus (exact jn rfl (xay (by((rw[Bool.eq_iff_iff];simp_all;omega)))))
 refine sq ?_ ?_<;>intro h5 h5p h5s<;>(try simp only[Q] at h5p);focus (exact jn rfl (xay (by((rw[Bool.eq_iff_iff];simp_all;done)))))
 focus (exact jn rfl (xay (by((rw[Bool.eq_iff_iff];simp_all;done)))))
 refine sqF ?_;refine sq ?_ ?_<;>intro h6 h6p h6s<;>(try simp only[Q] at h6p);focus (exact jn rfl (xay (by((rw[Bool.eq_iff_iff];simp_all;done)))))
 focus (exact jn rfl (xay (by((rw[Bool.eq_iff_iff];simp_all;done)))))
 refine xaC ?_;refine tv ?_;refine sq ?_ ?_<;>intro h7 h7p h7s<;>(try simp only[Q] at h7p);refine rq ?_;rotate_left;refine wc zoM (zfC hv) rfl rfl ?_;refine ev ?_;refine sq ?_ ?_<;>intro h8 h8p h8s<;>(try simp only[Q] at h8p);refine xaS (i:=(zby vars g.var).toNat) zdc (.some rfl rfl h8) rfl rfl rfl (by have:=hlt (by omega);omega) (zax (by have:=hlt (by omega);omega)) rfl ?_;refine evs [] [(41,true)] ?_ ⟨⟨_,rfl,h8⟩,trivial⟩;refine rq ?_;rotate_left;refine rq ?_;rotate_left;all_goals (refine congrArg D.bool ?_;unfold gdS;first|(rw[if_pos (by omega)];simp_all;done)|(rw[if_neg (by omega),decide_eq_false (by omega),Bool.false_and];done)|(rw[if_neg (by omega),decide_eq_true (by omega),Bool.true_and,decide_eq_false (by omega),Bool.false_and];done)|(rw[if_neg (by omega)];simp_all;done))
theorem zjS {w:List Data} (hw:WT w) (haz:AZ w){t:Ty}{c:Cl} (ht:TyOk w.length t) (hok:c.pat.ok) (hsz:c.pat.size<=1000000000000):
  FnD Tryz.prog 127 [.d (zam w),.agg [.d (.i t.data),.d (.i t.index)],.agg [.d (.i c.pat.op),.d (.i c.pat.ctor),.d (.i c.pat.n),.d (.i c.pat.m),.d (.i c.pat.var),.d (zae c.pat.kids),.d (.i c.g.op),.d (.i c.g.var),.d (.i c.g.n)]] [] (.d (.bool (clOk w t c))) []:=by
 have ht':TyIn w.length ⟨t.data,t.index⟩:=ht.1;have hcl:clOk w t c=(isP w t c.pat&&gdOk c.g (zgX w t c.pat)):=rfl;cases hp:isP w t c.pat with
 |false=>
  have hpi:=zfh hw ht' hok hsz;have hpi':FnD Tryz.prog 223 [.d (zam w),.agg [.d (.i t.data),.d (.i t.index)],.agg [.d (.i c.pat.op),.d (.i c.pat.ctor),.d (.i c.pat.n),.d (.i c.pat.m),.d (.i c.pat.var),.d (zae c.pat.kids)]] [] (.d (.bool false)) []:=by rw[<-hp];exact hpi
  rw[hcl,hp,Bool.false_and];refine bd Tryz.f127 22 [] [] fun w0 F0 own kept hk=>?_;refine bx 3004 ?_;refine bx 3005 ?_;refine ev ?_;refine wc zll (hpi') rfl rfl ?_;refine evd [] [] ?_;refine sq ?_ ?_<;>intro h1 h1p h1s<;>(try simp only[Q] at h1p);exfalso;contradiction;refine dr ?_;refine rq ?_;rotate_left;all_goals (rfl)
 |true=>
  have hpi:=zfh hw ht' hok hsz;have hpi':FnD Tryz.prog 223 [.d (zam w),.agg [.d (.i t.data),.d (.i t.index)],.agg [.d (.i c.pat.op),.d (.i c.pat.ctor),.d (.i c.pat.n),.d (.i c.pat.m),.d (.i c.pat.var),.d (zae c.pat.kids)]] [] (.d (.bool true)) []:=by rw[<-hp];exact hpi
  have hsh:zaw w 10 ⟨t.data,t.index⟩ c.pat=true:=by
   have:=hp;unfold isP at this;simp only[xad] at this;exact this.1
  have hvl:=zd2 w 10 ⟨t.data,t.index⟩ c.pat;have hge:=zuO (g:=c.g) (zsb hp) (zpD hw haz 10 hsh ht);have hge':gdS c.g (zaM w 10 ⟨t.data,t.index⟩ c.pat)=gdOk c.g (zgX w t c.pat):=by rw[zsa hp];exact hge
  rw[hcl,hp,Bool.true_and,<-hge'];refine bd Tryz.f127 22 [] [] fun w0 F0 own kept hk=>?_;refine bx 3004 ?_;refine bx 3005 ?_;refine ev ?_;refine wc zll (hpi') rfl rfl ?_;refine evd [] [] ?_;refine sq ?_ ?_<;>intro h1 h1p h1s<;>(try simp only[Q] at h1p);refine Walk.call (cr:=[]) zhI (zdL hw hsh (by omega) ht' hok hsz) rfl (.some rfl rfl h1) rfl rfl (LeL.refl _) trivial rfl rfl rfl ?_;refine Walk.call (cr:=[]) zt3 (zmp (g:=c.g) (by omega)) rfl (.some rfl rfl h1) rfl rfl (LeL.refl _) trivial rfl rfl rfl ?_;refine evd [] [(12,true)] ?_ ⟨⟨_,rfl,h1⟩,trivial⟩;refine dr ?_;refine rq ?_;rotate_left;exfalso;contradiction;all_goals (rfl)
def ClsSz (l:List Cl):Prop:=∀c∈l,c.pat.size<=1000000000000
theorem zte {w:List Data}{t:Ty} (h:zbr w t=true):TyOk w.length t:=by
 unfold zbr at h;rw[xad] at h;exact zr8 h.2
theorem zuF {w:List Data}{t:Ty}{l:List Cl}{i:Nat} (hi:i<l.length) (h:clOk w t (nth l i)=false):zbt w t l=false:=by
 unfold zbt;have:l.any (fun c=> !clOk w t c)=true:=List.any_eq_true.2 ⟨nth l i,zal hi,by rw[h];rfl⟩;rw[this];simp
theorem zto {w:List Data}{t:Ty}{l:List Cl} (ht:zbr w t=true) (hl:l.length<=8) (h:∀i,i<l.length->clOk w t (nth l i)=true):zbt w t l=true:=by
 unfold zbt;rw[ht,decide_eq_true (by omega),Bool.true_and,Bool.true_and,Bool.not_eq_true',List.any_eq_false];intro c hc;obtain⟨i,hi,rfl⟩:=List.getElem_of_mem hc;have:=h i hi;simp only[nth,List.getD,List.getElem?_eq_getElem hi,Option.getD_some] at this;simp[this]
theorem ztp {w:List Data}{t:Ty}{l:List Cl} (h:8<l.length):zbt w t l=false:=by
 unfold zbt;rw[decide_eq_false (by omega),Bool.false_and,Bool.and_false]
theorem zuG {w:List Data}{t:Ty}{l:List Cl} (h:zbr w t=false):zbt w t l=false:=by
 unfold zbt;rw[h,Bool.false_and]
theorem zfe {w:List Data} (hs:WSmall w){a k:Int}{l:List Cl} (hl:ClsOk l) (hz:ClsSz l):
  FnD Tryz.prog 60 [.d (zam w),.agg [.d (.i a),.d (.i k)],.d (zbc l)] [] (.d (.bool (zbt w ⟨a,k⟩ l))) []:=by
 have hll:=hl.1;refine bd Tryz.f60 31 [] [] fun w0 F0 own kept hk=>?_;refine bx 3004 ?_;refine ev ?_;refine wc zox (zeF hs) rfl rfl ?_;refine ev ?_;refine sq ?_ ?_<;>intro h1 h1p h1s<;>(try simp only[Q,Int.natCast_inj] at h1p);refine sqT ?_;refine rq ?_;rotate_left;refine sq ?_ ?_<;>intro h3 h3p h3s<;>(try simp only[Q,Int.natCast_inj] at h3p);refine rq ?_;rotate_left;refine xam (ι:=Nat) hk (fun i=>[(7,.d (.i (i:Int)))]) [6,17,18,19,20,21,22,23,24,25,26,27,28,29,30] (fun i=>[]) (fun i=>i<=l.length/\∀i',i'<i->clOk w ⟨a,k⟩ (nth l i')=true) (fun i=>l.length-i) 0 ⟨by omega,fun _ h=>absurd h (by omega)⟩ ⟨⟨_,rfl,xaz ?_⟩,trivial⟩ trivial (fun x=>rfl) (fun i hg1=>?_);focus (first|rfl|(simp;done)|(simp_all;done)|omega)
 refine evc [] [] ?_;refine sq ?_ ?_<;>intro h4 h4p h4s<;>(try simp only[Q,Int.natCast_inj] at h4p);refine xaS sl26 .none rfl rfl rfl rfl (zax (by omega)) rfl ?_;refine evd [] [] ?_;refine wc zq3 (zjS (t:=⟨a,k⟩) (c:=nth l i) (zd1 hs (zbN (by assumption)).1) (zpB (zbN (by assumption)).1) (zte (by assumption)) (hl.2 _ (zal (by omega))) (hz _ (zal (by omega)))) rfl rfl ?_;refine evd [] [] ?_;refine dr ?_;refine sq ?_ ?_<;>intro h5 h5p h5s<;>(try simp only[Q,Int.natCast_inj] at h5p);refine rq ?_;rotate_left;refine ar ?_;refine xah (i+1) ⟨⟨by omega,zaV hg1.2 (by assumption)⟩,(by omega),sx ⟨⟨_,rfl,xaz ?_⟩,trivial⟩ trivial⟩;focus (first|rfl|(simp;done)|(simp_all;done)|omega)
 refine rq ?_;rotate_left;all_goals (refine congrArg D.bool ?_;first|(rw[zuG (by assumption)];done)|(rw[ztp (by omega)];done)|(rw[zuF (i:=i) (by omega) (by assumption)];done)|(rw[zto (by assumption) (by omega) (fun x hx=>hg1.2 x (by omega))];done))
theorem zka {a b c d e:Int}{l:List Pat}:(Pat.mk a b c d e l).op=a:=rfl
theorem zhU {a b c d e:Int}{l:List Pat}:(Pat.mk a b c d e l).ctor=b:=rfl
theorem mk_n {a b c d e:Int}{l:List Pat}:(Pat.mk a b c d e l).n=c:=rfl
theorem mk_m {a b c d e:Int}{l:List Pat}:(Pat.mk a b c d e l).m=d:=rfl
theorem zjw {a b c d e:Int}{l:List Pat}:(Pat.mk a b c d e l).var=e:=rfl
theorem zec {a b c d e:Int}{l:List Pat}:(Pat.mk a b c d e l).kids=l:=rfl
abbrev anyQ:Pat:= .mk 1 0 0 0 0 []
abbrev zti:Pat:= .mk 0 0 0 0 0 []
mutual
def zaK:Pat->Pat
 | .mk op c n m v ks=>if op=2 then anyQ else if op=6/\ks≠[] then zj4 ks else .mk op c n m v (zg0 ks)
def zj4:List Pat->Pat
 | []=>anyQ
 |k::_=>zaK k
def zg0:List Pat->List Pat
 | []=>[]
 |k::r=>zaK k::zg0 r
end
theorem zkG:∀l:List Pat,zg0 l=l.map zaK
 | []=>rfl
 |k::r=>by simp[zg0,zkG r]
theorem zgF (p:Pat):zaK p=if p.op=2 then anyQ else if p.op=6/\p.kids≠[] then zaK (nth p.kids 0) else .mk p.op p.ctor p.n p.m p.var (p.kids.map zaK):=by
 cases p with|mk op c n m v ks=>
 have e:zaK (.mk op c n m v ks)=if op=2 then anyQ else if op=6/\ks≠[] then zj4 ks else .mk op c n m v (zg0 ks):=by conv=>lhs;unfold zaK
 rw[e,zkG];by_cases h2:op=2
 ·rw[if_pos h2];exact(if_pos (c:=(Pat.mk op c n m v ks).op=2) h2).symm
 ·rw[if_neg h2];refine Eq.trans ?_ (if_neg (c:=(Pat.mk op c n m v ks).op=2) h2).symm;by_cases h6:op=6/\ks≠[]
  ·rw[if_pos h6];refine Eq.trans ?_ (if_pos (c:=(Pat.mk op c n m v ks).op=6/\(Pat.mk op c n m v ks).kids≠[]) h6).symm;cases ks with
   |nil=>exact absurd rfl h6.2
   |cons k r=>rfl
  ·rw[if_neg h6];exact(if_neg (c:=(Pat.mk op c n m v ks).op=6/\(Pat.mk op c n m v ks).kids≠[]) h6).symm
def zbd (out:List (List Pat)) (l:List Pat):List (List Pat):=out.flatMap fun q=>l.map fun c=>q++[c]
def zey (ls:List (List Pat)):List (List Pat):=ls.foldl zbd [[]]
mutual
def zaG:Pat->List Pat
 | .mk op c n m v ks=>if op=5 then zuT ks else (zey (zke ks)).map fun l=> .mk op c n m v l
def zuT:List Pat->List Pat
 | []=>[]
 |a::r=>zaG a++ztG r
def ztG:List Pat->List Pat
 | []=>[]
 |b::_=>zaG b
def zke:List Pat->List (List Pat)
 | []=>[]
 |k::r=>zaG k::zke r
end
theorem zmr:∀l:List Pat,zke l=l.map zaG
 | []=>rfl
 |k::r=>by simp[zke,zmr r]
theorem zeH {p:Pat} (h:p.op≠5):zaG p=(zey (p.kids.map zaG)).map fun l=> .mk p.op p.ctor p.n p.m p.var l:=by
 cases p with|mk op c n m v ks=>
 have h':¬op=5:=h;conv=>lhs;unfold zaG
 rw[if_neg h',zmr];rfl
theorem zgU {p:Pat} (h:p.op=5) (hk:p.kids.length=2):zaG p=zaG (nth p.kids 0)++zaG (nth p.kids 1):=by
 cases p with|mk op c n m v ks=>
 have h':op=5:=h;conv=>lhs;unfold zaG
 rw[if_pos h'];have hk':ks.length=2:=hk;match ks,hk' with
 | [a,b],_=>rfl
mutual
def cntS:Pat->Int
 | .mk op _ _ _ _ ks=>if op=5 then cntO ks 0 else cntM ks 1
def cntO:List Pat->Int->Int
 | [],n=>n
 |k::r,n=>cntO r (cap (n+cntS k))
def cntM:List Pat->Int->Int
 | [],n=>n
 |k::r,n=>cntM r (cap (n*cntS k))
end
theorem zmD (p:Pat):cntS p=if p.op=5 then cntO p.kids 0 else cntM p.kids 1:=by
 cases p with|mk op c n m v ks=>
 conv=>lhs;unfold cntS
 rfl
mutual
theorem zmC:∀p:Pat,0<=cntS p/\cntS p<=401
 | .mk op _ _ _ _ ks=>by
  unfold cntS;split
  ·exact zp1 ks 0 (by omega) (by omega)
  ·exact zpZ ks 1 (by omega) (by omega)
theorem zp1:∀(l:List Pat) (n:Int),0<=n->n<=401->0<=cntO l n/\cntO l n<=401
 | [],n,h1,h2=>⟨h1,h2⟩
 |k::r,n,h1,h2=>by
  unfold cntO;have h3:=zmC k;have h4:=zls (x:=n+cntS k) (by omega);exact zp1 r _ h4.1 h4.2
theorem zpZ:∀(l:List Pat) (n:Int),0<=n->n<=401->0<=cntM l n/\cntM l n<=401
 | [],n,h1,h2=>⟨h1,h2⟩
 |k::r,n,h1,h2=>by
  unfold cntM;have h3:=zmC k;have h4:=zls (x:=n*cntS k) (Int.mul_nonneg h1 h3.1);exact zpZ r _ h4.1 h4.2
end
theorem zrz {l:List Pat}{i:Nat}{n:Int} (h:i<l.length):cntO (l.drop i) n=cntO (l.drop (i+1)) (cap (n+cntS (nth l i))):=by
 rw[za2 h];rfl
theorem zry {l:List Pat}{i:Nat}{n:Int} (h:i<l.length):cntM (l.drop i) n=cntM (l.drop (i+1)) (cap (n*cntS (nth l i))):=by
 rw[za2 h];rfl
def binP:Nat->Pat->Bool
 |0,_=>false
 |n+1,p=>decide (p.op=5->p.kids.length=2)&&p.kids.all (binP n)
theorem zd5 {n:Nat}{p:Pat} (h:binP (n+1) p=true){i:Nat} (hi:i<p.kids.length):binP n (nth p.kids i)=true:=by
 unfold binP at h;rw[xad,List.all_eq_true] at h;exact h.2 _ (zal hi)
theorem zjZ {n:Nat}{p:Pat} (h:binP (n+1) p=true) (h5:p.op=5):p.kids.length=2:=by
 unfold binP at h;rw[xad] at h;exact(of_decide_eq_true h.1) h5
theorem zou:∀(n:Nat){p:Pat},binP n p=true->binP (n+1) p=true
 |0,p,h=>by simp[binP] at h
 |n+1,p,h=>by
  have h':=h;unfold binP at h ⊢;rw[xad,List.all_eq_true] at h ⊢;exact⟨h.1,fun k hk=>zou n (h.2 k hk)⟩
theorem zhn {w:List Data}:∀(n:Nat){t:Ty}{p:Pat},zaw w n t p=true->binP n (zaK p)=true
 |0,t,p,h=>by simp[zaw] at h
 |n+1,t,p,h=>by
  obtain⟨ho,hlen⟩:=zbK h;have hany:binP (n+1) anyQ=true:=by simp[binP,anyQ,Pat.op,Pat.kids]
  rw[zgF];by_cases h2:p.op=2
  ·rw[if_pos h2];exact hany
  rw[if_neg h2];by_cases h6:p.op=6
  ·obtain⟨hl,s0⟩:=zjJ h h6;rw[if_pos ⟨h6,fun e=>by rw[e] at hl;simp at hl⟩];exact zou n (zhn n s0)
  rw[if_neg (fun h=>h6 h.1)];unfold binP;rw[xad,List.all_eq_true];refine⟨decide_eq_true (fun h5=>?_),fun k hk=>?_⟩
  ·have:=(zjK h h5).1;simpa [Pat.kids] using this
  ·simp only[Pat.kids,List.mem_map] at hk;obtain⟨x,hx,rfl⟩:=hk;obtain⟨i,hi,rfl⟩:=List.getElem_of_mem hx;have:=zhn n (zbJ h hi);have e:nth p.kids i=p.kids[i]:=za8 hi;rw[e] at this;exact this
theorem zfZ (out:List (List Pat)) (l:List Pat):(zbd out l).length=out.length*l.length:=by
 unfold zbd;induction out with
 |nil=>simp
 |cons q r ih=>rw[List.flatMap_cons,xaa,ih,xac,xab,Nat.succ_mul];omega
theorem zqL (ls:List (List Pat)) (l:List Pat):zey (ls++[l])=zbd (zey ls) l:=by unfold zey;rw[List.foldl_append];rfl
theorem ztn {a b:Nat}:cap (cap (a:Int)*cap (b:Int))=cap ((a*b:Nat):Int):=by
 unfold cap;rcases Nat.eq_zero_or_pos a with rfl|ha
 ·simp
 rcases Nat.eq_zero_or_pos b with rfl|hb
 ·simp
 have h1:a<=a*b:=Nat.le_mul_of_pos_right a hb;have h2:b<=a*b:=Nat.le_mul_of_pos_left b ha;have hab:((a*b:Nat):Int)=(a:Int)*(b:Int):=by push_cast;rfl
 by_cases ca:401<(a:Int)
 ·rw[if_pos ca];by_cases cb:401<(b:Int)
  ·rw[if_pos cb,if_pos (by omega),if_pos (by omega)]
  ·rw[if_neg cb];have h3:(401:Int)*1<=401*(b:Int):=Int.mul_le_mul_of_nonneg_left (by omega) (by omega);rw[if_pos (show 401<((a*b:Nat):Int) by omega)];split<;>omega
 ·rw[if_neg ca];by_cases cb:401<(b:Int)
  ·rw[if_pos cb];have h3:(1:Int)*401<=(a:Int)*401:=Int.mul_le_mul_of_nonneg_right (by omega) (by omega);rw[if_pos (show 401<((a*b:Nat):Int) by omega)];split<;>omega
  ·rw[if_neg cb,hab]
theorem ztl {a b:Nat}:cap (cap (a:Int)+cap (b:Int))=cap ((a+b:Nat):Int):=by
 unfold cap;push_cast
 split<;>split<;>split<;>(try split)<;>omega
theorem ztm {x:Int}:cap (cap x)=cap x:=by unfold cap;split<;>(try split)<;>omega
theorem zp0:∀(l:List Pat) (out:List (List Pat)),(∀k∈l,cntS k=cap ((zaG k).length:Int)/\0<(zaG k).length)->cntM l (cap (out.length:Int))=cap (((l.map zaG).foldl zbd out).length:Int)/\(0<out.length->0<((l.map zaG).foldl zbd out).length)
 | [],out,_=>⟨rfl,fun h=>h⟩
 |k::r,out,h=>by
  have hk:=h k (by simp);unfold cntM;rw[hk.1,ztn];have:=zp0 r (zbd out (zaG k)) (fun x hx=>h x (by simp[hx]));rw[zfZ] at this;rw[xae,List.foldl_cons];exact⟨this.1,fun ho=>this.2 (Nat.mul_pos ho hk.2)⟩
theorem zlw:∀(n:Nat){p:Pat},binP n p=true->cntS p=cap ((zaG p).length:Int)/\0<(zaG p).length
 |0,p,h=>by simp[binP] at h
 |n+1,p,h=>by
  have ih:=fun i (hi:i<p.kids.length)=>zlw n (zd5 h hi);rw[zmD];by_cases h5:p.op=5
  ·have hl:=zjZ h h5;rw[if_pos h5,zgU h5 hl,xaa];have k0:=ih 0 (by omega);have k1:=ih 1 (by omega);have e:p.kids=[nth p.kids 0,nth p.kids 1]:=by
    match hk:p.kids,hl with
    | [a,b],_=>rfl
   refine⟨?_,by omega⟩;rw[e];simp only[cntO];rw[Int.zero_add,k0.1,ztm,k1.1];show cap (cap ((zaG (nth p.kids 0)).length:Int)+cap ((zaG (nth p.kids 1)).length:Int))=_
   rw[ztl];rfl
  ·rw[if_neg h5,zeH h5,xac];have:=zp0 p.kids [[]] (fun k hk=>by
    obtain⟨i,hi,rfl⟩:=List.getElem_of_mem hk;have:=ih i hi;simpa [nth,List.getD,hi] using this)
   exact⟨this.1,this.2 (by simp)⟩
theorem zgJ:∀(ls:List (List Pat)) (out:List (List Pat)),(∀l∈ls,0<l.length)->out.length<=(ls.foldl zbd out).length
 | [],out,_=>Nat.le_refl _
 |l::r,out,h=>by
  rw[List.foldl_cons];have h1:=zgJ r (zbd out l) (fun x hx=>h x (by simp[hx]));rw[zfZ] at h1;have h2:out.length<=out.length*l.length:=Nat.le_mul_of_pos_right _ (h l (by simp));omega
theorem ziH:∀(ls:List (List Pat)) (out:List (List Pat)),(∀l∈ls,0<l.length)->0<out.length->∀l∈ls,l.length<=(ls.foldl zbd out).length
 | [],out,_,_,l,hl=>by simp at hl
 |x::r,out,h,ho,l,hl=>by
  rw[List.foldl_cons];have hx:=h x (by simp);have hp:0<(zbd out x).length:=by rw[zfZ];exact Nat.mul_pos ho hx
  rcases List.mem_cons.1 hl with rfl|hl
  ·have h1:=zgJ r (zbd out l) (fun y hy=>h y (by simp[hy]));rw[zfZ] at h1;have h2:l.length<=out.length*l.length:=Nat.le_mul_of_pos_left _ ho;omega
  ·exact ziH r (zbd out x) (fun y hy=>h y (by simp[hy])) hp l hl
theorem zht {n:Nat}{p:Pat} (h:binP (n+1) p=true){i:Nat} (hi:i<p.kids.length):(zaG (nth p.kids i)).length<=(zaG p).length:=by
 by_cases h5:p.op=5
 ·have hl:=zjZ h h5;rw[zgU h5 hl,xaa];have:i=0\/i=1:=by omega
  rcases this with rfl|rfl<;>omega
 ·rw[zeH h5,xac];refine ziH _ [[]] (fun l hl=>?_) (by simp) _ (List.mem_map.2 ⟨_,zal hi,rfl⟩);obtain⟨k,hk,rfl⟩:=List.mem_map.1 hl;obtain⟨j,hj,rfl⟩:=List.getElem_of_mem hk;have:=(zlw n (zd5 h hj)).2;simpa [nth,List.getD,hj] using this
theorem zpS {n:Nat}{p:Pat} (h:binP (n+1) p=true) (h5:p.op≠5) (i:Nat):(zey ((p.kids.take i).map zaG)).length<=(zaG p).length:=by
 rw[zeH h5,xac];have e:p.kids.map zaG=(p.kids.take i).map zaG++(p.kids.drop i).map zaG:=by rw[<-xaf,List.take_append_drop]
 unfold zey;rw[e,List.foldl_append];refine zgJ _ _ (fun l hl=>?_);obtain⟨k,hk,rfl⟩:=List.mem_map.1 hl;obtain⟨j,hj,rfl⟩:=List.getElem_of_mem (List.mem_of_mem_drop hk);have:=(zlw n (zd5 h hj)).2;simpa [nth,List.getD,hj] using this
def zao (w:List Data):Nat->Ty->Pat->Bool
 |0,_,_=>false
 |n+1,t,p=>(ownP w t p&&decide (p.op=1\/p.op=3\/p.op=4))&&all2 (zao w n) (zai w t p) p.kids
theorem zkF {α β:Type}{f g:α->β->Bool}:∀ {a:List α}{b:List β},(∀x∈a,∀y∈b,f x y=true->g x y=true)->all2 f a b=true->all2 g a b=true
 | [],[],_,_=>rfl
 |x::r,y::s,h,h2=>by
  simp only[all2,xad] at h2 ⊢;exact⟨h x (by simp) y (by simp) h2.1,zkF (fun a ha b hb=>h a (by simp[ha]) b (by simp[hb])) h2.2⟩
 | [],_::_,_,h2=>by simp[all2] at h2
 |_::_,[],_,h2=>by simp[all2] at h2
theorem zgr {w:List Data}:∀(n:Nat){t:Ty}{p:Pat},zao w n t p=true->zaw w n t p=true
 |0,t,p,h=>by simp[zao] at h
 |n+1,t,p,h=>by
  unfold zao at h;unfold zaw;simp only[xad] at h ⊢;exact⟨h.1.1,zkF (fun x _ y _ hh=>zgr n hh) h.2⟩
theorem zfW {w:List Data}:∀(n:Nat){t:Ty}{p:Pat},zao w n t p=true->zao w (n+1) t p=true
 |0,t,p,h=>by simp[zao] at h
 |n+1,t,p,h=>by
  unfold zao at h ⊢;simp only[xad] at h ⊢;exact⟨h.1,zkF (fun x _ y _ hh=>zfW n hh) h.2⟩
theorem zb0 {w:List Data}{n:Nat}{t:Ty}{p:Pat} (h:zao w n t p=true):p.op=1\/p.op=3\/p.op=4:=by
 cases n with
 |zero=>simp[zao] at h
 |succ n=>unfold zao at h;simp only[xad] at h;exact of_decide_eq_true h.1.2
theorem zgR {w:List Data}{n:Nat}{t:Ty}{p:Pat} (h:zao w n t p=true):ownP w t p=true/\p.kids.length=(zai w t p).length:=by
 cases n with
 |zero=>simp[zao] at h
 |succ n=>exact zbK (zgr _ h)
theorem zbi {w:List Data}{n:Nat}{t:Ty}{p:Pat} (h:zao w (n+1) t p=true){i:Nat} (hi:i<p.kids.length):zao w n (nth (zai w t p) i) (nth p.kids i)=true:=by
 have hl:=(zgR h).2;unfold zao at h;simp only[xad] at h;exact zsf hl.symm h.2 i (by omega)
theorem ztD {w:List Data}{t:Ty}{p:Pat}{l:List Pat}:ownP w t (.mk p.op p.ctor p.n p.m p.var l)=ownP w t p:=rfl
theorem zr9 {w:List Data}{t:Ty}{p:Pat}{l:List Pat}:zai w t (.mk p.op p.ctor p.n p.m p.var l)=zai w t p:=rfl
theorem zjB:∀(ls:List (List Pat)) (out:List (List Pat)) (l:List Pat),l∈ls.foldl zbd out->∃q∈out,∃r:List Pat,l=q++r/\r.length=ls.length/\∀i,i<ls.length->nth r i∈nth ls i
 | [],out,l,h=>⟨l,h,[],by simp,rfl,fun i hi=>by simp at hi⟩
 |x::rs,out,l,h=>by
  rw[List.foldl_cons] at h;obtain⟨q,hq,r,e,hl,hm⟩:=zjB rs (zbd out x) l h;unfold zbd at hq;simp only[List.mem_flatMap,List.mem_map] at hq;obtain⟨q0,hq0,c,hc,rfl⟩:=hq;refine⟨q0,hq0,c::r,by rw[e];simp,by simp[hl],fun i hi=>?_⟩;cases i with
  |zero=>exact hc
  |succ i=>exact hm i (by simpa using hi)
theorem zng {w:List Data}{n:Nat}{t:Ty}:zao w (n+1) t anyQ=true:=by
 unfold zao;have h1:zai w t anyQ=[]:=by unfold zai;rw[if_neg (by decide),if_neg (by decide),if_neg (by decide)]
 rw[h1];have h2:ownP w t anyQ=true:=by unfold ownP;exact decide_eq_true (by simp[anyQ,Pat.op,Pat.var,Pat.n,Pat.m,Pat.ctor])
 rw[h2];rfl
theorem zqq:zaG anyQ=[anyQ]:=by
 rw[zeH (by decide)];rfl
theorem zqO {w:List Data}{n:Nat}{t:Ty}{p:Pat} (h:zaw w (n+1) t p=true) (h4:p.op≠4) (h5:p.op≠5) (h6:p.op≠6):p.kids=[]:=by
 have hl:=(zbK h).2;unfold zai at hl;rw[if_neg h4,if_neg h5,if_neg h6] at hl;exact List.eq_nil_of_length_eq_zero hl
theorem zgS {w:List Data}:∀(n:Nat){t:Ty}{p:Pat},zaw w n t p=true->∀x∈zaG (zaK p),zao w n t x=true
 |0,t,p,h=>by simp[zaw] at h
 |n+1,t,p,h=>by
  obtain⟨ho,hlen⟩:=zbK h;have hop:=zsD h;intro x hx;rw[zgF] at hx;by_cases h2:p.op=2
  ·rw[if_pos h2,zqq,List.mem_singleton] at hx;rw[hx];exact zng
  rw[if_neg h2] at hx;by_cases h6:p.op=6
  ·obtain⟨hl,s0⟩:=zjJ h h6;rw[if_pos ⟨h6,fun e=>by rw[e] at hl;simp at hl⟩] at hx;exact zfW n (zgS n s0 x hx)
  rw[if_neg (fun h=>h6 h.1)] at hx;by_cases h5:p.op=5
  ·obtain⟨hl,s0,s1⟩:=zjK h h5;have hl2:(p.kids.map zaK).length=2:=by rw[xac];exact hl
   rw[zgU (p:= .mk p.op p.ctor p.n p.m p.var (p.kids.map zaK)) h5 hl2] at hx;have e0:nth (p.kids.map zaK) 0=zaK (nth p.kids 0):=by
    match hk:p.kids,hl with
    | [a,b],_=>rfl
   have e1:nth (p.kids.map zaK) 1=zaK (nth p.kids 1):=by
    match hk:p.kids,hl with
    | [a,b],_=>rfl
   simp only[zec] at hx;rw[e0,e1] at hx;rcases List.mem_append.1 hx with hx|hx
   ·exact zfW n (zgS n s0 x hx)
   ·exact zfW n (zgS n s1 x hx)
  rw[zeH (p:= .mk p.op p.ctor p.n p.m p.var (p.kids.map zaK)) h5] at hx;simp only[zec,zka,zhU,mk_n,mk_m,zjw,List.mem_map] at hx;obtain⟨l,hl,rfl⟩:=hx;obtain⟨q,hq,r,e,hlr,hm⟩:=zjB _ _ _ hl;rw[List.mem_singleton] at hq;rw[hq,List.nil_append] at e;subst e;simp only[List.map_map,xac] at hlr hm;unfold zao;rw[ztD,zr9,ho,decide_eq_true (show _\/_\/_ from by rw[zka];omega),Bool.true_and,Bool.true_and];refine zcb (by rw[zec];omega) (fun i hi=>?_);have hm':=hm i (by omega);have e2:nth (p.kids.map (zaG ∘ zaK)) i=zaG (zaK (nth p.kids i)):=by
   rw[za8 (by simp;omega)];simp[nth,List.getD,show i<p.kids.length by omega]
  rw[e2] at hm';exact zgS n (zbJ h (by omega)) _ hm'
theorem Pats.ok_of:∀ {l:List Pat},(∀k∈l,k.ok)->Pats.ok l
 | [],_=>trivial
 |k::r,h=>⟨h k (by simp),Pats.ok_of (fun x hx=>h x (by simp[hx]))⟩
theorem Pats.size_of {m:Nat}:∀ {l:List Pat},(∀k∈l,k.size<=m)->Pats.size l<=l.length*m
 | [],_=>by simp[Pats.size]
 |k::r,h=>by
  have h1:=h k (by simp);have h2:=Pats.size_of (l:=r) (fun x hx=>h x (by simp[hx]));simp only[Pats.size,xab,Nat.succ_mul];omega
mutual
theorem zjY:∀p:Pat,p.ok->(zaK p).ok
 | .mk op c n m v ks,h=>by
  unfold zaK;split
  ·exact⟨by simp,trivial⟩
  ·split
   ·exact zsq ks h.2
   ·exact⟨by rw[zkG,xac];exact h.1,zot ks h.2⟩
theorem zsq:∀l:List Pat,Pats.ok l->(zj4 l).ok
 | [],_=>⟨by simp,trivial⟩
 |k::r,h=>zjY k h.1
theorem zot:∀l:List Pat,Pats.ok l->Pats.ok (zg0 l)
 | [],_=>trivial
 |k::r,h=>⟨zjY k h.1,zot r h.2⟩
end
mutual
theorem znh:∀p:Pat,(zaK p).size<=p.size
 | .mk op c n m v ks=>by
  unfold zaK;split
  ·simp[anyQ,Pat.size,Pats.size]
  ·split
   ·have:=zqE ks;simp only[Pat.size];omega
   ·have:=zlf ks;simp only[Pat.size];omega
theorem zqE:∀l:List Pat,(zj4 l).size<=1+Pats.size l
 | []=>by simp[zj4,anyQ,Pat.size,Pats.size]
 |k::r=>by have:=znh k;simp only[zj4,Pats.size];omega
theorem zlf:∀l:List Pat,Pats.size (zg0 l)<=Pats.size l
 | []=>Nat.le_refl _
 |k::r=>by have:=znh k;have:=zlf r;simp only[zg0,Pats.size];omega
end
end Go.Proofs.YtlfipehhbdjnjaaGreat
namespace Go.Proofs.YtlfipehhbdjnjaaGreat
open Go
set_option linter.unusedSimpArgs false
set_option linter.unusedVariables false
def capN (n:Nat):Nat:=if 401<n then 401 else n
end Go.Proofs.YtlfipehhbdjnjaaGreat
namespace Go.Proofs.YtlfipehhbdjnjaaGreat
open Go
set_option linter.unusedSimpArgs false
set_option linter.unusedVariables false
set_option maxRecDepth 100000
set_option maxHeartbeats 2000000
end Go.Proofs.YtlfipehhbdjnjaaGreat
namespace Go.Proofs.YtlfipehhbdjnjaaGreat
open Go
set_option linter.unusedSimpArgs false
set_option linter.unusedVariables false
theorem Vals.ok_of:∀ {l:List Val},(∀v∈l,v.ok)->Vals.ok l
 | [],_=>trivial
 |v::r,h=>⟨h v (by simp),Vals.ok_of (fun x hx=>h x (List.mem_cons_of_mem _ hx))⟩
end Go.Proofs.YtlfipehhbdjnjaaGreat
namespace Go.Proofs.YtlfipehhbdjnjaaGreat
open Go
set_option linter.unusedSimpArgs false
set_option linter.unusedVariables false
set_option maxRecDepth 100000
set_option maxHeartbeats 2000000
theorem xaB (l:List Pat):Pat.cs l=l.map Pat.cc:=by
 rw[Pat.cs_eq];exact List.map_congr_left (fun v _=>Pat.c_eq v)
theorem zbm (l:List Pat):∀x∈Pat.cs l,x.length=6:=Pat.cs_rows
theorem zgC (l:List Pat):∀x∈l.map Pat.cc,x.length=6:=fun x hx=>by
 obtain⟨y,_,rfl⟩:=List.mem_map.1 hx;rfl
theorem zpU {p:Pat} (h:p.op=2):zaK p=anyQ:=by rw[zgF,if_pos h]
theorem zpV {p:Pat} (h:p.op=6) (h2:0<p.kids.length):zaK p=zaK (nth p.kids 0):=by
 rw[zgF,if_neg (by omega),if_pos ⟨h,fun e=>by rw[e] at h2;simp at h2⟩]
theorem zpW {p:Pat} (h:p.op≠2) (h2:¬(p.op=6/\0<p.kids.length)):zaK p = .mk p.op p.ctor p.n p.m p.var (p.kids.map zaK):=by
 rw[zgF,if_neg h,if_neg (fun hh=>h2 ⟨hh.1,List.length_pos_iff.2 hh.2⟩)]
theorem zfT:∀(n:Nat){p:Pat},p.size<=n->p.ok->FnD Tryz.prog 190 [.agg [.d (.i p.op),.d (.i p.ctor),.d (.i p.n),.d (.i p.m),.d (.i p.var),.d (zae p.kids)]] [] (.agg [.d (.i p.op),.d (.i p.ctor),.d (.i p.n),.d (.i p.m),.d (.i p.var),.d (zae p.kids)]) []
 |0,p,h,_=>by rw[Pat.size_eq] at h;omega
 |n+1,p,h,hok=>by
  rw[Pat.size_eq] at h;rw[Pat.ok_iff] at hok;have hok1:=hok.1;refine bd Tryz.f190 24 [] [] fun w0 F0 own kept hk=>?_;refine bx 3001 ?_;refine ab 3002 tz36 ?_;refine tv ?_;refine so ty34 ?_;refine tv ?_;refine xat 3001 5 7 6 rfl rfl rfl rfl ?_;refine xam (ι:=List (Pat)×List (Pat)) hk (fun x=>[(11,.d (.i (x.1.length:Int)))]) [5,12,13,14,15,16,17,18,19,20,21,22] (fun x=>[(3001,some (.box [.d (.i p.op),.d (.i p.ctor),.d (.i p.n),.d (.i p.m),.d (.i p.var),.gl 7 (x.1.map Pat.cc)])),(7,some (.tok (x.1.map Pat.cc).length 6))]) (fun x=>x.1++x.2=p.kids) (fun x=>x.2.length) ([],p.kids) (by simp) ⟨⟨_,rfl,xaz ?_⟩,trivial⟩ ⟨?_,⟨zad ?_,trivial⟩⟩ (fun x=>rfl) (fun x hg1=>?_);focus (rfl)
  focus (first|rfl|(simp[getH];done))
  focus (rfl)
  obtain⟨pre,rest⟩:=x;dsimp only at hg1 ⊢;refine evc [] [] ?_;refine sq ?_ ?_<;>intro h1 h1p h1s<;>(try simp only[Q,Pat.cs_len] at h1p);rcases rest with _|⟨y,rest⟩
  ·exfalso;simp_all
  refine xaS sl34 .none rfl rfl rfl rfl (Pat.cs_at' hg1) rfl ?_;refine ev ?_;refine ab 3005 tz36 ?_;refine so ty36 ?_;refine tv ?_;refine wc zi4 (zfT n (p:=y) (by have:=Pats.size_mem (l:=p.kids) (v:=y) (by rw[<-hg1];simp);omega) (Pats.ok_mem hok.2 y (by rw[<-hg1];simp))) rfl rfl ?_;refine si [0] [_] sl34 tz36 ?_;refine ap sl34 zz36 rfl rfl rfl (by intro x hx;(simp at hx;subst hx;rfl)) (by have:=congrArg List.length hg1;simp at this;simp;omega) ?_;refine evd [] [] ?_;refine so ty34 ?_;refine dr ?_;refine ar ?_;refine xah ((pre++[y],rest)) ⟨(by have hz:=hg1;rw[<-hz];simp),(by simp),sx ⟨⟨_,rfl,xaz ?_⟩,trivial⟩ ⟨?_,⟨zad ?_,trivial⟩⟩⟩;focus ((simp;done))
  focus (first|rfl|(simp[getH];done))
  focus ((simp;done))
  have hrest:rest=[]:=by
   rcases rest with _|⟨a,b⟩
   ·rfl
   ·exfalso;have hz:=congrArg List.length (hg1);simp only[xaa,xab,xac] at hz;omega
  subst hrest;refine so ty36 ?_;refine tv ?_;refine rn0 (.cons (.cellA ty36 rfl rfl rfl) .nil) (.agg (.cons (.eqd ?_) (.cons (.eqd ?_) (.cons (.eqd ?_) (.cons (.eqd ?_) (.cons (.eqd ?_) (.cons (.gld ?_) .nil)))))));rotate_left 6;all_goals (first|rfl|(rw[List.append_nil] at hg1;rw[<-hg1,xaB];done))
theorem ziU {l:List Pat} (h:l.length<=1000000000000) (hok:∀p∈l,p.ok):FnD Tryz.prog 155 [.d (zae l)] [] (.d (zae l)) []:=by
 refine bd Tryz.f155 19 [3] [] fun w0 F0 own kept hk=>?_;refine xaG 1 6 .none rfl rfl ?_;refine tv ?_;refine xam (ι:=List (Pat)×List (Pat)) hk (fun x=>[(8,.d (.i (x.1.length:Int))),(3,.gl 1 (x.1.map Pat.cc))]) [5,9,10,11,12,13,14,15,16,17] (fun x=>[(1,some (.tok ((x.1.map Pat.cc)).length 6))]) (fun x=>x.1++x.2=l) (fun x=>x.2.length) ([],l) (by simp) ⟨⟨_,rfl,xaz ?_⟩,⟨⟨_,rfl,LeA.glg ?_⟩,trivial⟩⟩ ⟨zad ?_,trivial⟩ (fun x=>rfl) (fun x hg1=>?_);iterate 3 focus (rfl)
 obtain⟨pre,rest⟩:=x;dsimp only at hg1 ⊢;refine evc [3] [] ?_;refine sq ?_ ?_<;>intro h1 h1p h1s<;>(try simp only[Q,Pat.cs_len] at h1p);rcases rest with _|⟨y,rest⟩
 ·exfalso;simp_all
 refine xaS sl34 .none rfl rfl rfl rfl (Pat.cs_at' hg1) rfl ?_;refine evs [3] [] ?_;refine ab 3005 tz36 ?_;refine so ty36 ?_;refine tv ?_;refine wc zi4 (zfT _ (Nat.le_refl _) (hok y (by rw[<-hg1];simp))) rfl rfl ?_;refine si [0] [_] sl34 tz36 ?_;refine ap sl34 zz36 rfl rfl rfl (by intro x hx;simp at hx;subst hx;rfl) (by have:=congrArg List.length hg1;simp at this;simp;omega) ?_;refine asg ?_;refine tv ?_;refine ar ?_;refine xah ((pre++[y],rest)) ⟨(by have hz:=hg1;rw[<-hz];simp),(by simp),sx ⟨⟨_,rfl,xaz ?_⟩,⟨⟨_,rfl,LeA.glg ?_⟩,trivial⟩⟩ ⟨zad ?_,trivial⟩⟩;iterate 3 focus ((simp;done))
 have hrest:rest=[]:=by
  rcases rest with _|⟨a,b⟩
  ·rfl
  ·exfalso;have hz:=congrArg List.length (hg1);simp only[xaa,xab,xac] at hz;omega
 subst hrest;refine rn0 (r1 rfl) (.gld ?_);rotate_left;all_goals ((rw[List.append_nil] at hg1;rw[<-hg1,xaB];done))
theorem zfS:FnD Tryz.prog 156 [] [] (.agg [.d (.i 1),.d (.i 0),.d (.i 0),.d (.i 0),.d (.i 0),.d (.sl [])]) []:=by
 refine bd Tryz.f156 2 [] [] fun w0 F0 own kept hk=>?_;refine ab 3000 tz36 ?_;refine tv ?_;refine bu [0] [_] st36 ?_;refine so ty36 ?_;refine tv ?_;focus (refine rn0 (.cons (.cellA ty36 rfl rfl rfl) .nil) (.agg (.cons (.eqd ?_) (.cons (.eqd ?_) (.cons (.eqd ?_) (.cons (.eqd ?_) (.cons (.eqd ?_) (.cons (.nild ?_) .nil)))))));all_goals (rfl))
theorem zcP:∀(n:Nat){p:Pat},p.size<=n->p.ok->FnD Tryz.prog 219 [.agg [.d (.i p.op),.d (.i p.ctor),.d (.i p.n),.d (.i p.m),.d (.i p.var),.d (zae p.kids)]] [] (.agg [.d (.i (zaK p).op),.d (.i (zaK p).ctor),.d (.i (zaK p).n),.d (.i (zaK p).m),.d (.i (zaK p).var),.d (zae (zaK p).kids)]) []
 |0,p,h,_=>by rw[Pat.size_eq] at h;omega
 |n+1,p,h,hok=>by
  rw[Pat.size_eq] at h;rw[Pat.ok_iff] at hok;have hok1:=hok.1;by_cases h2:p.op=2
  ·rw[zpU h2];refine bd Tryz.f219 44 [] [] fun w0 F0 own kept hk=>?_;refine bx 3001 ?_;refine ab 3002 tz36 ?_;refine tv ?_;refine sq ?_ ?_<;>intro h1 h1p h1s;refine wc zq8 (zfS) rfl rfl ?_;refine so ty36 ?_;refine tv ?_;refine rn0 (.cons (.cellA ty36 rfl rfl rfl) .nil) (.agg (.cons (.eqd ?_) (.cons (.eqd ?_) (.cons (.eqd ?_) (.cons (.eqd ?_) (.cons (.eqd ?_) (.cons (.eqd ?_) .nil)))))));rotate_left 6;try simp only[Q] at h1p
   exfalso;omega;all_goals (rfl)
  by_cases h6:p.op=6/\0<p.kids.length
  ·rw[zpV h6.1 h6.2];refine bd Tryz.f219 44 [] [] fun w0 F0 own kept hk=>?_;refine bx 3001 ?_;refine ab 3002 tz36 ?_;refine tv ?_;refine sq ?_ ?_<;>intro h1 h1p h1s;try simp only[Q,Pat.cs_len] at h1p
   exfalso;omega;refine sq ?_ ?_<;>intro h2 h2p h2s;refine sq ?_ ?_<;>intro h3 h3p h3s;refine xaS (i:=0) sl34 .none rfl rfl rfl rfl (zaH h6.2) rfl ?_;refine ev ?_;refine wc zi5 (zcP n (p:=nth p.kids 0) (by have:=Pats.size_mem (zal h6.2);omega) (Pats.ok_mem hok.2 _ (zal h6.2))) rfl rfl ?_;refine so ty36 ?_;refine tv ?_;refine rn0 (.cons (.cellA ty36 rfl rfl rfl) .nil) (.agg (.cons (.eqd ?_) (.cons (.eqd ?_) (.cons (.eqd ?_) (.cons (.eqd ?_) (.cons (.eqd ?_) (.cons (.eqd ?_) .nil)))))));rotate_left 6;try simp only[Q,Pat.cs_len] at h3p
   focus (exfalso;first|omega|(simp_all;done))
   try simp only[Q,Pat.cs_len] at h2p
   exfalso;omega;all_goals (rfl)
  ·rw[zpW h2 h6];refine bd Tryz.f219 44 [] [] fun w0 F0 own kept hk=>?_;refine bx 3001 ?_;refine ab 3002 tz36 ?_;refine tv ?_;refine sq ?_ ?_<;>intro h1 h1p h1s;try simp only[Q,Pat.cs_len] at h1p
   exfalso;omega;refine sq ?_ ?_<;>intro h2 h2p h2s;refine sq ?_ ?_<;>intro h3 h3p h3s;try simp only[Q,Pat.cs_len] at h3p
   focus (exfalso;apply h6;first|omega|(simp_all;done))
   refine so ty34 ?_;refine tv ?_;refine xat 3001 5 7 6 rfl rfl rfl rfl ?_;refine xam (ι:=List (Pat)×List (Pat)) hk (fun x=>[(31,.d (.i (x.1.length:Int)))]) [5,32,33,34,35,36,37,38,39,40,41,42] (fun x=>[(3001,some (.box [.d (.i p.op),.d (.i p.ctor),.d (.i p.n),.d (.i p.m),.d (.i p.var),.gl 7 ((x.1.map zaK).map Pat.cc)])),(7,some (.tok ((x.1.map zaK).map Pat.cc).length 6))]) (fun x=>x.1++x.2=p.kids) (fun x=>x.2.length) ([],p.kids) (by simp) ⟨⟨_,rfl,xaz ?_⟩,trivial⟩ ⟨?_,⟨zad ?_,trivial⟩⟩ (fun x=>rfl) (fun x hg1=>?_);focus (rfl)
   focus (first|rfl|(simp[getH];done))
   focus (rfl)
   obtain⟨pre,rest⟩:=x;dsimp only at hg1 ⊢;refine evc [] [] ?_;refine sq ?_ ?_<;>intro h4 h4p h4s<;>(try simp only[Q,Pat.cs_len] at h4p);rcases rest with _|⟨y,rest⟩
   ·exfalso;simp_all
   refine xaS sl34 .none rfl rfl rfl rfl (Pat.cs_at' hg1) rfl ?_;refine ev ?_;refine ab 3005 tz36 ?_;refine so ty36 ?_;refine tv ?_;refine wc zi5 (zcP n (p:=y) (by have:=Pats.size_mem (l:=p.kids) (v:=y) (by rw[<-hg1];simp);omega) (Pats.ok_mem hok.2 y (by rw[<-hg1];simp))) rfl rfl ?_;refine si [0] [_] sl34 tz36 ?_;refine ap sl34 zz36 rfl rfl rfl (by intro x hx;(simp at hx;subst hx;rfl)) (by have:=congrArg List.length hg1;simp at this;simp;omega) ?_;refine evd [] [] ?_;refine so ty34 ?_;refine dr ?_;refine ar ?_;refine xah ((pre++[y],rest)) ⟨(by have hz:=hg1;rw[<-hz];simp),(by simp),sx ⟨⟨_,rfl,xaz ?_⟩,trivial⟩ ⟨?_,⟨zad ?_,trivial⟩⟩⟩;focus ((simp;done))
   focus (first|rfl|(simp[getH];done))
   focus ((simp;done))
   have hrest:rest=[]:=by
    rcases rest with _|⟨a,b⟩
    ·rfl
    ·exfalso;have hz:=congrArg List.length (hg1);simp only[xaa,xab,xac] at hz;omega
   subst hrest;refine so ty36 ?_;refine tv ?_;refine rn0 (.cons (.cellA ty36 rfl rfl rfl) .nil) (.agg (.cons (.eqd ?_) (.cons (.eqd ?_) (.cons (.eqd ?_) (.cons (.eqd ?_) (.cons (.eqd ?_) (.cons (.gld ?_) .nil)))))));rotate_left 6;refine sqF ?_;refine so ty34 ?_;refine tv ?_;refine xat 3001 5 7 6 rfl rfl rfl rfl ?_;refine xam (ι:=List (Pat)×List (Pat)) hk (fun x=>[(31,.d (.i (x.1.length:Int)))]) [5,32,33,34,35,36,37,38,39,40,41,42] (fun x=>[(3001,some (.box [.d (.i p.op),.d (.i p.ctor),.d (.i p.n),.d (.i p.m),.d (.i p.var),.gl 7 ((x.1.map zaK).map Pat.cc)])),(7,some (.tok ((x.1.map zaK).map Pat.cc).length 6))]) (fun x=>x.1++x.2=p.kids) (fun x=>x.2.length) ([],p.kids) (by simp) ⟨⟨_,rfl,xaz ?_⟩,trivial⟩ ⟨?_,⟨zad ?_,trivial⟩⟩ (fun x=>rfl) (fun x hg1=>?_);focus (rfl)
   focus (first|rfl|(simp[getH];done))
   focus (rfl)
   obtain⟨pre,rest⟩:=x;dsimp only at hg1 ⊢;refine evc [] [] ?_;refine sq ?_ ?_<;>intro h6 h6p h6s<;>(try simp only[Q,Pat.cs_len] at h6p);rcases rest with _|⟨y,rest⟩
   ·exfalso;simp_all
   refine xaS sl34 .none rfl rfl rfl rfl (Pat.cs_at' hg1) rfl ?_;refine ev ?_;refine ab 3005 tz36 ?_;refine so ty36 ?_;refine tv ?_;refine wc zi5 (zcP n (p:=y) (by have:=Pats.size_mem (l:=p.kids) (v:=y) (by rw[<-hg1];simp);omega) (Pats.ok_mem hok.2 y (by rw[<-hg1];simp))) rfl rfl ?_;refine si [0] [_] sl34 tz36 ?_;refine ap sl34 zz36 rfl rfl rfl (by intro x hx;(simp at hx;subst hx;rfl)) (by have:=congrArg List.length hg1;simp at this;simp;omega) ?_;refine evd [] [] ?_;refine so ty34 ?_;refine dr ?_;refine ar ?_;refine xah ((pre++[y],rest)) ⟨(by have hz:=hg1;rw[<-hz];simp),(by simp),sx ⟨⟨_,rfl,xaz ?_⟩,trivial⟩ ⟨?_,⟨zad ?_,trivial⟩⟩⟩;focus ((simp;done))
   focus (first|rfl|(simp[getH];done))
   focus ((simp;done))
   have hrest:rest=[]:=by
    rcases rest with _|⟨a,b⟩
    ·rfl
    ·exfalso;have hz:=congrArg List.length (hg1);simp only[xaa,xab,xac] at hz;omega
   subst hrest;refine so ty36 ?_;refine tv ?_;refine rn0 (.cons (.cellA ty36 rfl rfl rfl) .nil) (.agg (.cons (.eqd ?_) (.cons (.eqd ?_) (.cons (.eqd ?_) (.cons (.eqd ?_) (.cons (.eqd ?_) (.cons (.gld ?_) .nil)))))));rotate_left 6;all_goals (first|rfl|(rw[List.append_nil] at hg1;subst hg1;rw[<-xaB];all_goals rfl))
theorem zdR:∀(n:Nat){p:Pat},p.size<=n->p.ok->FnD Tryz.prog 220 [.agg [.d (.i p.op),.d (.i p.ctor),.d (.i p.n),.d (.i p.m),.d (.i p.var),.d (zae p.kids)]] [] (.d (.i (cntS p))) []
 |0,p,h,_=>by rw[Pat.size_eq] at h;omega
 |n+1,p,h,hok=>by
  rw[Pat.size_eq] at h;rw[Pat.ok_iff] at hok;have hok1:=hok.1;have hbd:=fun i=>zmC (nth p.kids i);by_cases h5:p.op=5
  ·rw[zmD,if_pos h5];refine bd Tryz.f220 31 [] [] fun w0 F0 own kept hk=>?_;refine bx 3001 ?_;refine ev ?_;refine sq ?_ ?_<;>intro h1 h1p h1s;refine xam (ι:=Nat×Int) hk (fun x=>[(12,.d (.i (x.1:Int))),(3,.d (.i x.2))]) [5,13,14,15,16,17,18,19,20,21,22,23,24,25,26,27,28,29] (fun x=>[]) (fun x=>x.1<=p.kids.length/\cntO (p.kids.drop x.1) x.2=cntO p.kids 0/\0<=x.2/\x.2<=401) (fun x=>p.kids.length-x.1) (0,0) ⟨by simp,rfl,by simp,by simp⟩ ⟨⟨_,rfl,xaz ?_⟩,⟨⟨_,rfl,xaz ?_⟩,trivial⟩⟩ trivial (fun x=>rfl) (fun x hg1=>?_);iterate 2 focus (rfl)
   refine evc [] [] ?_;refine sq ?_ ?_<;>intro h2 h2p h2s<;>(try simp only[Q,Pat.cs_len] at h2p);refine xaS sl34 .none rfl rfl rfl rfl (zaH (by omega)) rfl ?_;refine ev ?_;refine ab 3005 tz36 ?_;refine so ty36 ?_;refine tv ?_;refine sq ?_ ?_<;>intro h3 h3p h3s<;>(try simp only[Q,Pat.cs_len] at h3p);refine wc zlj (zdR n (p:=nth p.kids x.1) (by have:=Pats.size_mem (zal (l:=p.kids) (i:=x.1) (by omega));omega) (Pats.ok_mem hok.2 _ (zal (by omega)))) rfl rfl ?_;refine ev ?_;refine ar ?_ (by(have hb:=hbd x.1;constructor<;>omega));refine xa5 .none rfl rfl rfl ?_;refine ev ?_;refine ar ?_ (by(constructor<;>omega));refine xah ((x.1+1,cap (x.2+cntS (nth p.kids x.1)))) ⟨(by
        have hb:=hbd x.1;have hc:=zls (x:=x.2+cntS (nth p.kids x.1)) (by omega);exact⟨by dsimp only;omega,by dsimp only;rw[<-zrz (by omega)];exact hg1.2.1,hc.1,hc.2⟩),(by dsimp only;omega),sx ⟨⟨_,rfl,xaz ?_⟩,⟨⟨_,rfl,xaz ?_⟩,trivial⟩⟩ trivial⟩
   iterate 2 focus (rfl)
   exfalso;omega;refine rq ?_;rotate_left;try simp only[Q,Pat.cs_len] at h1p
   exfalso;omega;all_goals (refine congrArg D.i ?_;rw[<-hg1.2.1,List.drop_eq_nil_of_le (by omega)];rfl)
  ·rw[zmD,if_neg h5];refine bd Tryz.f220 31 [] [] fun w0 F0 own kept hk=>?_;refine bx 3001 ?_;refine ev ?_;refine sq ?_ ?_<;>intro h1 h1p h1s;try simp only[Q,Pat.cs_len] at h1p
   exfalso;omega;refine xam (ι:=Nat×Int) hk (fun x=>[(12,.d (.i (x.1:Int))),(3,.d (.i x.2))]) [5,13,14,15,16,17,18,19,20,21,22,23,24,25,26,27,28,29] (fun x=>[]) (fun x=>x.1<=p.kids.length/\cntM (p.kids.drop x.1) x.2=cntM p.kids 1/\0<=x.2/\x.2<=401) (fun x=>p.kids.length-x.1) (0,1) ⟨by simp,rfl,by simp,by simp⟩ ⟨⟨_,rfl,xaz ?_⟩,⟨⟨_,rfl,xaz ?_⟩,trivial⟩⟩ trivial (fun x=>rfl) (fun x hg1=>?_);iterate 2 focus (rfl)
   refine evc [] [] ?_;refine sq ?_ ?_<;>intro h2 h2p h2s<;>(try simp only[Q,Pat.cs_len] at h2p);refine xaS sl34 .none rfl rfl rfl rfl (zaH (by omega)) rfl ?_;refine ev ?_;refine ab 3005 tz36 ?_;refine so ty36 ?_;refine tv ?_;refine sq ?_ ?_<;>intro h3 h3p h3s;try simp only[Q,Pat.cs_len] at h3p
   exfalso;omega;refine wc zlj (zdR n (p:=nth p.kids x.1) (by have:=Pats.size_mem (zal (l:=p.kids) (i:=x.1) (by omega));omega) (Pats.ok_mem hok.2 _ (zal (by omega)))) rfl rfl ?_;refine ev ?_;refine ar ?_ (by(have hb:=hbd x.1;have h3:=Int.mul_le_mul hg1.2.2.2 hb.2 hb.1 (by omega);have h4:=Int.mul_nonneg hg1.2.2.1 hb.1;constructor<;>omega));refine xa5 .none rfl rfl rfl ?_;refine ev ?_;refine ar ?_ (by(constructor<;>omega));refine xah ((x.1+1,cap (x.2*cntS (nth p.kids x.1)))) ⟨(by
        have hb:=hbd x.1;have hc:=zls (x:=x.2*cntS (nth p.kids x.1)) (Int.mul_nonneg hg1.2.2.1 hb.1);exact⟨by dsimp only;omega,by dsimp only;rw[<-zry (by omega)];exact hg1.2.1,hc.1,hc.2⟩),(by dsimp only;omega),sx ⟨⟨_,rfl,xaz ?_⟩,⟨⟨_,rfl,xaz ?_⟩,trivial⟩⟩ trivial⟩
   iterate 2 focus (rfl)
   refine rq ?_;rotate_left;all_goals (refine congrArg D.i ?_;rw[<-hg1.2.1,List.drop_eq_nil_of_le (by omega)];rfl)
theorem zfq {xs:List Pat} (hs:xs.length<=1000000000000):FnD Tryz.prog 242 [.d (zae xs)] [] (.gl 77 (Pat.cs xs)) [(77,some (.tok (Pat.cs xs).length 6))]:=by
 refine Fn.body (fn:=Tryz.f242) (n:=8) rfl rfl rfl rfl rfl (fun w0 F0 own kept hk=>?_);refine xar 0 rfl (fun hx0=>?_) ?_;refine evc [2,4] [] ?_;refine asg ?_;refine tv ?_;refine xaR sl34 .none rfl rfl ?_;refine tv ?_;refine sqT ?_;refine xaG 77 6 .none rfl rfl ?_;refine tv ?_;refine rn [(77,some (.tok (Pat.cs xs).length 6))] (r1 rfl) (.glg ?_) ⟨rfl,rfl⟩ (SubH.get ⟨?_,trivial⟩) (za6 rfl);rotate_left 2;refine evc [2,4] [] ?_;refine asg ?_;refine tv ?_;refine xaQ sl34 .none rfl rfl ?_;refine tv ?_;refine sqF ?_;refine xbg 77 sl34 .none rfl rfl ?_;refine evs [2,4] [] ?_;refine ap sl34 zz36 rfl rfl rfl (by intro y hy;rw[xaB] at hy;obtain⟨z,_,rfl⟩:=List.mem_map.1 hy;rfl) (by simp[Pat.cs_len];omega) ?_;refine asg ?_;refine tv ?_;refine rn [(77,some (.tok (Pat.cs xs).length 6))] (r1 rfl) (.glg ?_) ⟨rfl,rfl⟩ (SubH.get ⟨?_,trivial⟩) (za6 rfl);rotate_left 2;all_goals (first|((first|rfl|exact hx0.symm|(simp;done));done)|(first|rfl|(simp[hx0];rfl)|(simp;rfl)))
def zdu (C:List Pat) (q:Pat):List Pat:=C.map fun c=> .mk q.op q.ctor q.n q.m q.var (q.kids++[c])
theorem zqD {ls:List (List Pat)}{C:List Pat}{a b c d e:Int}:((zey ls).map (fun l=>Pat.mk a b c d e l)).flatMap (zdu C)=(zey (ls++[C])).map (fun l=>Pat.mk a b c d e l):=by
 rw[zqL];unfold zbd zdu;rw[List.flatMap_map,List.map_flatMap];congr 1
 funext q
 simp[zka,zhU,mk_n,mk_m,zjw,zec]
def zcc (p:Pat) (i:Nat):List Pat:=(zey ((p.kids.take i).map zaG)).map fun l=>Pat.mk p.op p.ctor p.n p.m p.var l
theorem zsp (p:Pat):zcc p 0=[.mk p.op p.ctor p.n p.m p.var []]:=by unfold zcc;simp[zey]
theorem zpK {p:Pat}{i:Nat} (h:i<p.kids.length):(zcc p i).flatMap (zdu (zaG (nth p.kids i)))=zcc p (i+1):=by
 unfold zcc;rw[zqD,List.take_succ_eq_append_getElem h,xaf,<-za8 h];rfl
theorem zqB {p:Pat}{i:Nat} (h5:p.op≠5) (h:p.kids.length<=i):zcc p i=zaG p:=by
 unfold zcc;rw[zeH h5,List.take_of_length_le h]
theorem zqC {n:Nat}{p:Pat} (h:binP (n+1) p=true) (h5:p.op≠5) (i:Nat):(zcc p i).length<=(zaG p).length:=by
 unfold zcc;rw[xac];exact zpS h h5 i
theorem zpJ {p:Pat}{i:Nat}{q:Pat} (h:q∈zcc p i):q.kids.length<=p.kids.length:=by
 unfold zcc at h;obtain⟨l,hl,rfl⟩:=List.mem_map.1 h;obtain⟨q0,hq,r,e,hlr,_⟩:=zjB _ _ _ hl;rw[List.mem_singleton] at hq;rw[hq,List.nil_append] at e;rw[zec,e,hlr];simp;omega
theorem zeI {α β:Type}{f:α->List β}{k:Nat} (hf:∀x,(f x).length<=k):∀l:List α,(l.flatMap f).length<=l.length*k
 | []=>by simp
 |x::r=>by
  rw[List.flatMap_cons,xaa,xab,Nat.succ_mul];have:=hf x;have:=zeI hf r;omega
theorem zew:∀(n:Nat){p:Pat},binP n p=true->p.ok->(zaG p).length<=40->FnD Tryz.prog 221 [.agg [.d (.i p.op),.d (.i p.ctor),.d (.i p.n),.d (.i p.m),.d (.i p.var),.d (zae p.kids)]] [] (.gl 9 (Pat.cs (zaG p))) [(9,some (.tok (Pat.cs (zaG p)).length 6))]
 |0,p,h,_,_=>by simp[binP] at h
 |n+1,p,h,hok,hlen=>by
  have hok':=(Pat.ok_iff p).1 hok;have hok1:=hok'.1;by_cases h5:p.op=5
  ·have hl:=zjZ h h5;have e5:=zgU h5 hl;have l0:=zht h (i:=0) (by omega);have l1:=zht h (i:=1) (by omega);have c0:=zew n (zd5 h (i:=0) (by omega)) (Pats.ok_mem hok'.2 _ (zal (by omega))) (by omega);have c1:=FnD.glD (zew n (zd5 h (i:=1) (by omega)) (Pats.ok_mem hok'.2 _ (zal (by omega))) (by omega));rw[e5];refine bd Tryz.f221 70 [] [] fun w0 F0 own kept hk=>?_;refine bx 3001 ?_;refine ev ?_;refine sq ?_ ?_<;>intro h1 h1p h1s<;>(try simp only[Q,Pat.cs_len] at h1p);refine xaS (i:=0) sl34 .none rfl rfl rfl rfl (zaH (by omega)) rfl ?_;refine evd [] [] ?_;refine Walk.call (cr:=[9]) zlk (c0) rfl .none rfl rfl (LeL.refl _) trivial rfl rfl rfl ?_;refine evd [] [] ?_;refine xaS (i:=1) sl34 .none rfl rfl rfl rfl (zaH (by omega)) rfl ?_;refine evd [] [] ?_;refine wc zlk (c1) rfl rfl ?_;refine ap sl34 zz36 rfl rfl rfl (by intro x hx;exact zbm _ x hx) (by simp[Pat.cs_len];omega) ?_;refine evd [] [] ?_;refine dr ?_;refine rn [(9,some (.tok (Pat.cs (zaG (nth p.kids 0)++zaG (nth p.kids 1))).length 6))] (r1 rfl) (.glg ?_) ⟨rfl,rfl⟩ (SubH.get ⟨?_,trivial⟩) (za6 rfl);rotate_left 2;exfalso;omega;all_goals (first|((first|rfl|(simp[xaB];done));done)|(first|rfl|(simp[xaB];rfl)))
  ·have hfl:=zqC h h5;have hfk:=fun(i:Nat) (q:Pat) (hq:q∈zcc p i)=>zpJ hq;have hf0:=zsp p;have hfe:=fun(i:Nat) (hi:p.kids.length<=i)=>zqB h5 hi;have hfn:=fun(i:Nat) (hi:i<p.kids.length)=>zpK hi;have hcal:=fun(i:Nat) (hi:i<p.kids.length)=>FnD.glD (zew n (zd5 h hi) (Pats.ok_mem hok'.2 _ (zal hi)) (by have:=zht h hi;omega));have hcl:=fun(i:Nat) (hi:i<p.kids.length)=>zht h hi;have hgl:=fun(C:List Pat) (q:Pat)=>show(zdu C q).length<=C.length from by unfold zdu;simp
   generalize zaG p=SP at *;refine bd Tryz.f221 70 [8] [10,23] fun w0 F0 own kept hk=>?_;refine bx 3001 ?_;refine evs [8] [] ?_;refine sq ?_ ?_<;>intro h1 h1p h1s<;>(try simp only[Q,Pat.cs_len] at h1p);exfalso;omega;refine so ty34 ?_;refine tv ?_;refine xbj 9 sl34 tz36 rfl (by decide) (ks:=[0]) (xs:=[_]) rfl rfl (by decide) (by decide) .none rfl rfl rfl rfl rfl ?_;refine evs [8] [] ?_;refine xam (ι:=Nat) hk (fun i=>[(35,.d (.i (i:Int))),(4,.gl 9 ((zcc p i).map Pat.cc)),(32,.any)]) [6,7,8,10,12,13,36,37,38,39,40,41,42,43,44,45,46,47,48,49,50,51,52,53,54,55,56,57,58,59,60,61,62,63,64,65,66,67,68] (fun i=>[(9,some (.tok (((zcc p i).map Pat.cc)).length 6))]) (fun i=>i<=p.kids.length) (fun i=>p.kids.length-i) 0 (by omega) ⟨⟨_,rfl,xaz ?_⟩,⟨⟨_,rfl,LeA.glg ?_⟩,⟨⟨_,rfl,.any _⟩,trivial⟩⟩⟩ ⟨zad ?_,trivial⟩ (fun x=>rfl) (fun i hg1=>?_);iterate 3 focus (rfl)
   refine evc [8] [10,23] ?_;refine sq ?_ ?_<;>intro h2 h2p h2s<;>(try simp only[Q,Pat.cs_len] at h2p);refine xaS sl34 .none rfl rfl rfl rfl (zaH (by omega)) rfl ?_;refine evs [8] [] ?_;refine ab 3006 tz36 ?_;refine so ty36 ?_;refine tv ?_;refine wc zlk (hcal i (by omega)) rfl rfl ?_;refine evs [8] [] ?_;refine CWp.tokDrop 4 9 rfl rfl ?_;refine evc [8] [] ?_;refine xaG 3 6 .none rfl rfl ?_;refine tv ?_;refine xam (ι:=List (Pat)×List (Pat)) hk (fun x=>[(43,.d (.i (x.1.length:Int))),(8,.gl 3 ((x.1.flatMap (zdu (zaG (nth p.kids i)))).map Pat.cc))]) [10,12,13,44,45,46,47,48,49,50,51,52,53,54,55,56,57,58,59,60,61,62,63,64,65,66] (fun x=>[(3,some (.tok (((x.1.flatMap (zdu (zaG (nth p.kids i)))).map Pat.cc)).length 6))]) (fun x=>x.1++x.2=zcc p i) (fun x=>x.2.length) ([],zcc p i) (by simp) ⟨⟨_,rfl,xaz ?_⟩,⟨⟨_,rfl,LeA.glg ?_⟩,trivial⟩⟩ ⟨zad ?_,trivial⟩ (fun x=>rfl) (fun x hg2=>?_);iterate 3 focus (rfl)
   obtain⟨pre2,rest2⟩:=x;dsimp only at hg2 ⊢;refine evc [8] [10,23] ?_;refine sq ?_ ?_<;>intro h3 h3p h3s<;>(try simp only[Q,Pat.cs_len] at h3p);rcases rest2 with _|⟨q,rest2⟩
   ·exfalso;simp_all
   have hqk:=hfk i q (by rw[<-hg2];simp);have hl2:=congrArg List.length hg2;simp only[xaa,xab] at hl2;have hl2b:=hfl i;refine xaS sl34 .none rfl rfl rfl rfl (zaR hg2) rfl ?_;refine evs [8] [] ?_;refine ab 3010 tz36 ?_;refine so ty36 ?_;refine tv ?_;refine xam (ι:=List (Pat)×List (Pat)) hk (fun x=>[(49,.d (.i (x.1.length:Int))),(8,.gl 3 ((pre2.flatMap (zdu (zaG (nth p.kids i)))++zdu x.1 q).map Pat.cc))]) [12,13,50,51,52,53,54,55,56,57,58,59,60,61,62,63,64,65] (fun x=>[(3,some (.tok (((pre2.flatMap (zdu (zaG (nth p.kids i)))++zdu x.1 q).map Pat.cc)).length 6))]) (fun x=>x.1++x.2=zaG (nth p.kids i)) (fun x=>x.2.length) ([],zaG (nth p.kids i)) (by simp) ⟨⟨_,rfl,xaz ?_⟩,⟨⟨_,rfl,LeA.glg ?_⟩,trivial⟩⟩ ⟨zad ?_,trivial⟩ (fun x=>rfl) (fun x hg3=>?_);iterate 3 focus ((simp[zdu];done))
   obtain⟨pre3,rest3⟩:=x;dsimp only at hg3 ⊢;refine evc [8] [10,23] ?_;refine sq ?_ ?_<;>intro h4 h4p h4s<;>(try simp only[Q,Pat.cs_len] at h4p);rcases rest3 with _|⟨y,rest3⟩
   ·exfalso;simp_all
   have hl3:=congrArg List.length hg3;simp only[xaa,xab] at hl3;have hl3b:=hcl i (by omega);refine xaS sl34 .none rfl rfl rfl rfl (Pat.cs_at' hg3) rfl ?_;refine evs [8] [] ?_;refine ab 3012 tz36 ?_;refine so ty36 ?_;refine tv ?_;refine ab 3013 tz36 ?_;refine so ty36 ?_;refine tv ?_;refine Walk.call (cr:=[77]) zoH (zfq (xs:=q.kids) (by omega)) rfl .none rfl rfl (LeL.refl _) trivial rfl rfl rfl ?_;refine evd [8] [] ?_;refine si [0] [_] sl34 tz36 ?_;refine ap sl34 zz36 rfl rfl rfl (by intro x hx;first|(simp at hx;subst hx;rfl)|exact zgC _ x hx) (by first|(simp;omega)|(simp only[Pat.cs_len,xaa,xab,xai];omega)) ?_;refine evd [8] [] ?_;refine so ty34 ?_;refine dr ?_;refine si [0] [_] sl34 tz36 ?_;refine ap sl34 zz36 rfl rfl rfl (by intro x hx;first|(simp at hx;subst hx;rfl)|exact zbm _ x hx) (by first|(simp;omega)|(have h10:=hgl pre3 q;have h8:=congrArg List.length hg2;have h9:=congrArg List.length hg3;have h7:=zeI (hgl (zaG (nth p.kids i))) pre2;have h6:=hfl i;have h5:=hcl i (by omega);simp only[xaa,xab,xac,xai] at *;have h4:pre2.length*(zaG (nth p.kids i)).length<=40*40:=Nat.mul_le_mul (by omega) (by omega);omega)) ?_;refine asg ?_;refine tv ?_;refine ar ?_;refine xah ((pre3++[y],rest3)) ⟨(by have hz:=hg3;rw[<-hz];simp),(by simp),sx ⟨⟨_,rfl,xaz ?_⟩,⟨⟨_,rfl,LeA.glg ?_⟩,trivial⟩⟩ ⟨zad ?_,trivial⟩⟩;iterate 3 focus (first|(simp[zdu];omega)|(simp[zdu,zka,zhU,mk_n,mk_m,zjw,zec,xaB];done))
   have hrest3:rest3=[]:=by
    rcases rest3 with _|⟨a,b⟩
    ·rfl
    ·exfalso;have hz:=congrArg List.length (hg3);simp only[xaa,xab,xac] at hz;omega
   subst hrest3;refine ar ?_;refine xah ((pre2++[q],rest2)) ⟨(by have hz:=hg2;rw[<-hz];simp),(by simp),sx ⟨⟨_,rfl,xaz ?_⟩,⟨⟨_,rfl,LeA.glg ?_⟩,trivial⟩⟩ ⟨zad ?_,trivial⟩⟩;iterate 3 focus (first|(simp;done)|(rw[List.append_nil] at hg3;rw[List.flatMap_append,xaf];simp[zdu,<-hg3];done))
   have hrest2:rest2=[]:=by
    rcases rest2 with _|⟨a,b⟩
    ·rfl
    ·exfalso;have hz:=congrArg List.length (hg2);simp only[xaa,xab,xac] at hz;omega
   subst hrest2;refine CWp.tokRen 4 3 9 rfl rfl (by kernel_rfl) ?_;refine evc [8] [] ?_;refine ar ?_;rw[List.append_nil] at hg2;refine xah (i+1) ⟨(by omega),(by omega),sx ⟨⟨_,rfl,xaz ?_⟩,⟨⟨_,rfl,LeA.glg ?_⟩,⟨⟨_,rfl,.any _⟩,trivial⟩⟩⟩ ⟨zad ?_,trivial⟩⟩;iterate 3 focus (first|rfl|(rw[<-hfn i (by omega),<-hg2];done))
   refine rn [(9,some (.tok (Pat.cs SP).length 6))] (r1 rfl) (.glg ?_) ⟨rfl,rfl⟩ (SubH.get ⟨?_,trivial⟩) (za6 rfl);rotate_left 2;all_goals ((((rw[<-hfe i (by omega),show Pat.cs (zcc p i)=(zcc p i).map Pat.cc from xaB _];all_goals rfl));done))
def zaB (p:Pat):List Pat:=if (zaG (zaK p)).length<=40 then zaG (zaK p) else []
def zci (p:Pat):Bool:=decide ((zaG (zaK p)).length<=40)
theorem ziJ {w:List Data}{n:Nat}{t:Ty}{p:Pat} (h:zaw w n t p=true) (hok:p.ok):FnD Tryz.prog 124 [.agg [.d (.i p.op),.d (.i p.ctor),.d (.i p.n),.d (.i p.m),.d (.i p.var),.d (zae p.kids)]] [] (.tup [.d (zae (zaB p)),.d (.bool (zci p))]) []:=by
 have hb:=zhn n h;have hbo:=zjY p hok;have hce:=(zlw n hb).1;have hbp:=zcP _ (Nat.le_refl _) hok;have hcs:=zdR _ (Nat.le_refl _) hbo;have hsp:=fun h40=>FnD.glD (zew n hb hbo h40);rw[hce] at hcs;unfold zaB zci;generalize zaK p=b at *;by_cases h40:(zaG b).length<=40
 ·rw[if_pos h40,decide_eq_true h40];have hc40:cap ((zaG b).length:Int)<=40:=by unfold cap;split<;>omega
  refine bd Tryz.f124 12 [] [] fun w0 F0 own kept hk=>?_;refine bx 3001 ?_;refine ev ?_;refine wc zi5 (hbp) rfl rfl ?_;refine ab 3004 tz36 ?_;refine so ty36 ?_;refine tv ?_;refine wc zlj (hcs) rfl rfl ?_;refine ev ?_;refine sq ?_ ?_<;>intro h1 h1p h1s<;>(try simp only[Q] at h1p);exfalso;omega;refine wc zlk (hsp h40) rfl rfl ?_;refine ev ?_;refine rn0 (r2 rfl rfl) (.tup (.cons (.eqd ?_) (.cons (.eqd ?_) .nil)));rotate_left 2;all_goals (rfl)
 ·rw[if_neg h40,decide_eq_false h40];have hc40:¬cap ((zaG b).length:Int)<=40:=by unfold cap;split<;>omega
  refine bd Tryz.f124 12 [] [] fun w0 F0 own kept hk=>?_;refine bx 3001 ?_;refine ev ?_;refine wc zi5 (hbp) rfl rfl ?_;refine ab 3004 tz36 ?_;refine so ty36 ?_;refine tv ?_;refine wc zlj (hcs) rfl rfl ?_;refine ev ?_;refine sq ?_ ?_<;>intro h1 h1p h1s<;>(try simp only[Q] at h1p);refine rn0 (r2 rfl rfl) (.tup (.cons (.nild ?_) (.cons (.eqd ?_) .nil)));rotate_left 2;exfalso;omega;all_goals (rfl)
structure Spa (w:List Data):Prop where
 dp:Dp w
 ctors:∀t,InS (w.length*4) t->(zaA w t).length<=4/\(zaA w t).Nodup
 args:∀t c,InS (w.length*4) t->c∈zaA w t->(zak w t c).length<=3
theorem zjb (k:Int):∀(l:List Ctor) (i:Nat),(zaY k i l).Pairwise (· < ·)
 | [],_=>by simp[zaY]
 |x::r,i=>by
  unfold zaY;have ih:=zjb k r (i+1);split
  ·refine List.pairwise_cons.2 ⟨fun y hy=>?_,ih⟩;obtain⟨j,rfl,h1,_⟩:=zf5 k r (i+1) y hy;omega
  ·exact ih
theorem zsN {w:List Data} (hs:WSmall w) (hv:zbu w=true):Spa w:=by
 have hd:=zsM hs hv;have hW:=(zdm w).1 hv;refine⟨hd,fun t ht=>?_,fun t c ht hc=>?_⟩
 ·unfold zaA;split
  ·simp
  ·rename_i he;refine⟨?_,(zjb _ _ _).imp (fun h=>by omega)⟩;rcases ht with h|⟨h1,h2⟩
   ·exact absurd h he
   ·have:=hd.ct _ h1;rw[h2] at this;exact this
 ·have hti:=zcz ht;obtain⟨d,h1,h2,j,h3,h4⟩:=zcI (a:=t.data) (k:=t.index) hti hc;have hco:=hW.ctor _ (zal h2) _ (zal h4);simp only[zbC,xad,decide_eq_true_eq] at hco;unfold zak;rw[h1,h3];simp only[Int.toNat_natCast,xac];omega
abbrev intQ (n m:Int):Pat:= .mk 3 0 n m 0 []
abbrev zbO (c:Int) (l:List Pat):Pat:= .mk 4 c 0 0 0 l
def zb2 (w:List Data) (t:Ty) (c:Int):Pat:=zbO c ((zak w t c).map fun _=>anyQ)
def lowQ (p:Pat):Int:=if p.op=1 then 0 else p.n
def zcX (p:Pat):Int:=if p.op=1 then 9 else p.m
def minQ (a b:Int):Int:=if b<a then b else a
def maxQ (a b:Int):Int:=if a<b then b else a
def zb1 (n m:Int):List Pat:=if n<=m then [intQ n m] else []
def zcu (f:Pat->Pat->Option Pat):List Pat->List Pat->List Pat->Option (List Pat)
 |p::r,q::s,acc=>match f p q with
  |none=>none
  |some x=>zcu f r s (acc++[x])
 |_,_,acc=>some acc
def zat:Nat->Pat->Pat->Option Pat
 |0,_,_=>none
 |n+1,a,b=>if a.op=1 then some b else if b.op=1 then some a else if a.op=3 then (if maxQ a.n b.n<=minQ a.m b.m then some (intQ (maxQ a.n b.n) (minQ a.m b.m)) else none)
  else if a.ctor=b.ctor then (zcu (zat n) a.kids b.kids []).map (zbO a.ctor) else none
def za7 (f:Ty->Pat->Pat->List Pat) (c:Int):List Ty->List Pat->List Pat->List Pat->List Pat
 |u::r,x::s,y::q,front=>(f u x y).map (fun z=>zbO c (front++[z]++s))++(match zat 11 x y with
  |none=>[]
  |some both=>za7 f c r s q (front++[both]))
 |_,_,_,_=>[]
def zcZ (f:Ty->Pat->Pat->List Pat) (w:List Data) (t:Ty) (a b:Pat):List Pat:=if a.ctor=b.ctor then za7 f a.ctor (zak w t a.ctor) a.kids b.kids [] else [a]
def zer (a b:Pat):List Pat:=zb1 (lowQ a) (minQ (zcX a) (b.n-1))++zb1 (maxQ (lowQ a) (b.m+1)) (zcX a)
def zau (w:List Data):Nat->Ty->Pat->Pat->List Pat
 |0,_,_,_=>[]
 |n+1,t,a,b=>if b.op=1 then [] else if b.op=3 then zer a b else if a.op=1 then (zaA w t).flatMap fun c=>zcZ (zau w n) w t (zb2 w t c) b else zcZ (zau w n) w t a b
section
variable {w:List Data}{n:Nat}{t:Ty}{a b:Pat}
theorem zhR (h:b.op=1):zau w (n+1) t a b=[]:=by unfold zau;rw[if_pos h]
theorem zj9 (h:b.op=3):zau w (n+1) t a b=zer a b:=by unfold zau;rw[if_neg (by omega),if_pos h]
theorem zhS (h:b.op=4) (h2:a.op=1):zau w (n+1) t a b=(zaA w t).flatMap fun c=>zcZ (zau w n) w t (zb2 w t c) b:=by
 conv=>lhs;unfold zau
 rw[if_neg (by omega),if_neg (by omega),if_pos h2]
theorem zeb (h:b.op=4) (h2:a.op=4):zau w (n+1) t a b=zcZ (zau w n) w t a b:=by
 conv=>lhs;unfold zau
 rw[if_neg (by omega),if_neg (by omega),if_neg (by omega)]
theorem zlZ (h:a.op=1):zat (n+1) a b=some b:=by unfold zat;rw[if_pos h]
theorem zl0 (h:a.op≠1) (h2:b.op=1):zat (n+1) a b=some a:=by unfold zat;rw[if_neg h,if_pos h2]
theorem zl1 (h:a.op=3) (h2:b.op≠1):zat (n+1) a b=if maxQ a.n b.n<=minQ a.m b.m then some (intQ (maxQ a.n b.n) (minQ a.m b.m)) else none:=by
 conv=>lhs;unfold zat
 rw[if_neg (by omega),if_neg h2,if_pos h]
theorem zl2 (h:a.op=4) (h2:b.op≠1) (hc:a.ctor=b.ctor):zat (n+1) a b=(zcu (zat n) a.kids b.kids []).map (zbO a.ctor):=by
 conv=>lhs;unfold zat
 rw[if_neg (by omega),if_neg h2,if_neg (by omega),if_pos hc]
theorem zj8 (h:a.op=4) (h2:b.op≠1) (hc:¬a.ctor=b.ctor):zat (n+1) a b=none:=by
 conv=>lhs;unfold zat
 rw[if_neg (by omega),if_neg h2,if_neg (by omega),if_neg hc]
end
theorem zch {w:List Data}{n:Nat}{t:Ty}{p:Pat} (h:zao w n t p=true) (h3:p.op=3):t.data = -1/\0<=p.n/\p.n<=p.m/\p.m<=9:=by
 have ho:=(zgR h).1;unfold ownP at ho;have:=(of_decide_eq_true ho).2.2.2.2;omega
theorem za5 {w:List Data}{n:Nat}{t:Ty}{p:Pat} (h:zao w n t p=true) (h4:p.op=4):p.ctor∈zaA w t/\t.data≠ -1/\p.kids.length=(zak w t p.ctor).length/\p=zbO p.ctor p.kids:=by
 obtain⟨ho,hl⟩:=zgR h;have hm:=zcg ho h4;refine⟨hm,fun e=>by unfold zaA at hm;rw[if_pos e] at hm;simp at hm,by rw[zbs h4] at hl;exact hl, ?_⟩;unfold ownP at ho;have hh:=of_decide_eq_true ho;have h1:=hh.2.1 (by omega);have h2:=hh.2.2.1 (by omega);obtain⟨op,c,m,k,v,ks⟩:=p;change op=4 at h4
 change v=0 at h1
 change m=0/\k=0 at h2
 rw[h4,h1,h2.1,h2.2];rfl
theorem zny {w:List Data}{n:Nat}{t:Ty}{a b:Int} (ht:t.data = -1) (h0:0<=a) (h1:a<=b) (h2:b<=9):zao w (n+1) t (intQ a b)=true:=by
 unfold zao;have e:zai w t (intQ a b)=[]:=rfl;rw[e];have ho:ownP w t (intQ a b)=true:=by
  unfold ownP;refine decide_eq_true ⟨fun h=>?_,fun _=>rfl,fun h=>absurd rfl h,fun _=>rfl,.inr (.inr (.inr (.inr (.inl ⟨rfl,ht,h0,h1,h2⟩))))⟩;exfalso;change (3:Int)=2\/(3:Int)=6 at h;omega
 rw[ho];rfl
theorem zh7 {w:List Data}{n:Nat}{t:Ty}{c:Int}{l:List Pat} (hc:c∈zaA w t) (hl:l.length=(zak w t c).length) (hk:∀i,i<l.length->zao w n (nth (zak w t c) i) (nth l i)=true):zao w (n+1) t (zbO c l)=true:=by
 unfold zao;have e:zai w t (zbO c l)=zak w t c:=zbs rfl;have ho:ownP w t (zbO c l)=true:=by
  unfold ownP;refine decide_eq_true ⟨fun h=>?_,fun _=>rfl,fun _=>⟨rfl,rfl⟩,fun h=>absurd rfl h,.inr (.inr (.inr (.inr (.inr ⟨rfl,hc⟩))))⟩;exfalso;change (4:Int)=2\/(4:Int)=6 at h;omega
 rw[ho,e,zec];exact zcb hl.symm (fun i hi=>hk i (by omega))
theorem zef {w:List Data}{n m:Nat} (h:n<=m){t:Ty}{p:Pat} (hp:zao w n t p=true):zao w m t p=true:=by
 induction h with
 |refl=>exact hp
 |step _ ih=>exact zfW _ ih
theorem zdD {w:List Data}{n:Nat}{t:Ty}{c:Int} (hc:c∈zaA w t):zao w (n+2) t (zb2 w t c)=true:=by
 unfold zb2;refine zh7 hc (by simp) (fun i hi=>?_);have e:nth ((zak w t c).map fun _=>anyQ) i=anyQ:=by
  rw[za8 hi];simp
 rw[e];exact zng
theorem zlX {f:Pat->Pat->Option Pat}{a b:List Pat}{i:Nat}{acc:List Pat} (h1:i<a.length) (h2:i<b.length) (h:f (nth a i) (nth b i)=none):zcu f (a.drop i) (b.drop i) acc=none:=by
 rw[za2 h1,za2 h2,zcu,h]
theorem zlY {f:Pat->Pat->Option Pat}{a b:List Pat}{i:Nat}{acc:List Pat}{x:Pat} (h1:i<a.length) (h2:i<b.length) (h:f (nth a i) (nth b i)=some x):zcu f (a.drop i) (b.drop i) acc=zcu f (a.drop (i+1)) (b.drop (i+1)) (acc++[x]):=by
 rw[za2 h1,za2 h2,zcu,h]
theorem zeK {f:Pat->Pat->Option Pat}{a b:List Pat}{i:Nat}{acc:List Pat} (h1:a.length<=i):zcu f (a.drop i) (b.drop i) acc=some acc:=by
 rw[List.drop_eq_nil_of_le h1];cases b.drop i<;>rfl
theorem zik {f:Pat->Pat->Option Pat}:∀ {a b acc l:List Pat},a.length=b.length->zcu f a b acc=some l->∃r,l=acc++r/\r.length=a.length/\∀i,i<a.length->f (nth a i) (nth b i)=some (nth r i)
 | [],[],acc,l,_,h=>by
  simp only[zcu,Option.some.injEq] at h;exact⟨[],by simp[h],rfl,fun i hi=>by simp at hi⟩
 |p::r,q::s,acc,l,hl,h=>by
  unfold zcu at h;cases hf:f p q with
  |none=>rw[hf] at h;cases h
  |some x=>
   rw[hf] at h;obtain⟨z,e,hz,hm⟩:=zik (a:=r) (b:=s) (by simpa using hl) h;refine⟨x::z,by rw[e];simp,by simp[hz],fun i hi=>?_⟩;cases i with
   |zero=>exact hf
   |succ i=>exact hm i (by simpa using hi)
 | [],_::_,_,_,hl,_=>by simp at hl
 |_::_,[],_,_,hl,_=>by simp at hl
theorem zdC {w:List Data}{n m:Nat}{t:Ty}{a b:Pat} (ha:zao w n t a=true) (hb:zao w m t b=true) (h1:a.op≠1) (h2:b.op≠1):a.op=b.op:=by
 have oa:=zb0 ha;have ob:=zb0 hb;rcases oa with h|h|h
 ·exact absurd h h1
 ·rcases ob with h' | h' | h'
  ·exact absurd h' h2
  ·omega
  ·exact absurd (zch ha h).1 (za5 hb h').2.1
 ·rcases ob with h' | h' | h'
  ·exact absurd h' h2
  ·exact absurd (zch hb h').1 (za5 ha h).2.1
  ·omega
theorem ztB (a b:Int):minQ a b<=a/\minQ a b<=b:=by unfold minQ;split<;>omega
theorem ztz (a b:Int):a<=maxQ a b/\b<=maxQ a b:=by unfold maxQ;split<;>omega
theorem ztC (a b:Int):minQ a b=a\/minQ a b=b:=by unfold minQ;split<;>omega
theorem ztA (a b:Int):maxQ a b=a\/maxQ a b=b:=by unfold maxQ;split<;>omega
theorem zjv {w:List Data}:∀(n m:Nat){t:Ty}{a b x:Pat},zao w m t a=true->zao w m t b=true->zat n a b=some x->zao w m t x=true
 |0,m,t,a,b,x,_,_,h=>by simp[zat] at h
 |n+1,0,t,a,b,x,ha,_,_=>by simp[zao] at ha
 |n+1,m+1,t,a,b,x,ha,hb,h=>by
  by_cases h1:a.op=1
  ·rw[zlZ h1] at h;cases h;exact hb
  by_cases h2:b.op=1
  ·rw[zl0 h1 h2] at h;cases h;exact ha
  have hs:=zdC ha hb h1 h2;have oa:=zb0 ha;by_cases h3:a.op=3
  ·rw[zl1 h3 h2] at h;split at h
   ·cases h
    have ia:=zch ha h3;have ib:=zch hb (by omega);have q1:=ztC a.m b.m;have q2:=ztA a.n b.n;refine zny ia.1 (by omega) (by assumption) (by omega)
   ·cases h
  have h4:a.op=4:=by omega
  by_cases hc:a.ctor=b.ctor
  ·rw[zl2 h4 h2 hc] at h;obtain⟨m1,m2,m3,m4⟩:=za5 ha h4;obtain⟨n1,n2,n3,n4⟩:=za5 hb (by omega);rw[<-hc] at n3;cases hl:zcu (zat n) a.kids b.kids [] with
   |none=>rw[hl] at h;cases h
   |some l=>
    rw[hl] at h;simp only[Option.map_some,Option.some.injEq] at h;subst h;obtain⟨r,e,hr,hm⟩:=zik (by omega) hl;rw[List.nil_append] at e;subst e;refine zh7 m1 (by omega) (fun i hi=>?_);have ka:=zbi ha (i:=i) (by omega);have kb:=zbi hb (i:=i) (by omega);rw[zbs h4] at ka;rw[zbs (by omega),<-hc] at kb;exact zjv n m ka kb (hm i (by omega))
  ·rw[zj8 h4 h2 hc] at h;cases h
theorem zmh {w:List Data}{n:Nat}{t:Ty}{a b:Int} (ht:t.data = -1) (h0:0<=a) (h2:b<=9):∀x∈zb1 a b,zao w (n+1) t x=true:=by
 intro x hx;unfold zb1 at hx;split at hx
 ·rename_i h1;rw[List.mem_singleton] at hx;rw[hx];exact zny ht h0 h1 h2
 ·simp at hx
theorem zo6 {w:List Data}{n:Nat}{t:Ty}{a:Pat} (ha:zao w n t a=true) (ht:t.data = -1):0<=lowQ a/\zcX a<=9/\lowQ a<=zcX a:=by
 have oa:=zb0 ha;unfold lowQ zcX;by_cases h1:a.op=1
 ·rw[if_pos h1,if_pos h1];omega
 ·rw[if_neg h1,if_neg h1];by_cases h3:a.op=3
  ·have:=zch ha h3;omega
  ·exact absurd ht (za5 ha (by omega)).2.1
theorem zqK (a b:Pat):(zer a b).length<=2:=by
 have h:∀x y,(zb1 x y).length<=1:=fun x y=>by unfold zb1;split<;>simp
 unfold zer;rw[xaa];have:=h (lowQ a) (minQ (zcX a) (b.n-1));have:=h (maxQ (lowQ a) (b.m+1)) (zcX a);omega
theorem zpN {w:List Data}{f:Ty->Pat->Pat->List Pat}{m:Nat}{t:Ty}{c:Int} (hc:c∈zaA w t) (hf:∀u x y,zao w m u x=true->zao w m u y=true->∀z∈f u x y,zao w m u z=true):
  ∀(i:Nat){xs bs front:List Pat},front.length=i->xs.length+i=(zak w t c).length->bs.length=xs.length->(∀j,j<i->zao w m (nth (zak w t c) j) (nth front j)=true)->
   (∀j,j<xs.length->zao w m (nth (zak w t c) (i+j)) (nth xs j)=true/\zao w m (nth (zak w t c) (i+j)) (nth bs j)=true)->
   ∀x∈za7 f c ((zak w t c).drop i) xs bs front,zao w (m+1) t x=true:=by
 intro i xs;induction xs generalizing i with
 |nil=>
  intro bs front _ _ _ _ _ x hx;cases hT:(zak w t c).drop i<;>(rw[hT] at hx;simp[za7] at hx)
 |cons a0 s ih=>
  intro bs front hfl hal hbl hfr hab x hx;cases bs with
  |nil=>simp at hbl
  |cons b0 q=>
   have hi:i<(zak w t c).length:=by simp at hal;omega
   rw[za2 hi] at hx;have h0:=hab 0 (by simp);simp only[Nat.add_zero] at h0;have e0:nth (a0::s) 0=a0:=rfl;have e1:nth (b0::q) 0=b0:=rfl;rw[e0,e1] at h0;unfold za7 at hx;have hpiece:∀z,zao w m (nth (zak w t c) i) z=true->∀j,j<(front++[z]++s).length->zao w m (nth (zak w t c) j) (nth (front++[z]++s) j)=true:=fun z hz j hj=>by
    by_cases hj1:j<i
    ·have e:nth (front++[z]++s) j=nth front j:=by
      simp only[nth,List.getD,List.append_assoc];rw[List.getElem?_append_left (by omega)]
     rw[e];exact hfr j hj1
    ·by_cases hj2:j=i
     ·have e:nth (front++[z]++s) j=z:=by
       simp only[nth,List.getD,List.append_assoc];rw[List.getElem?_append_right (by omega),show j-front.length=0 by omega];rfl
      rw[e,hj2];exact hz
     ·obtain⟨k,rfl⟩:∃k,j=i+1+k:=⟨j-(i+1),by omega⟩;have e:nth (front++[z]++s) (i+1+k)=nth (a0::s) (k+1):=by
       simp only[nth,List.getD,List.append_assoc];rw[List.getElem?_append_right (by omega),show i+1+k-front.length=k+1 by omega];rfl
      rw[e];have:=(hab (k+1) (by simp at hj ⊢;omega)).1;rwa [show i+(k+1)=i+1+k by omega] at this
   rcases List.mem_append.1 hx with hx|hx
   ·obtain⟨z,hz,rfl⟩:=List.mem_map.1 hx;refine zh7 hc (by simp at hal ⊢;omega) (hpiece z (hf _ _ _ h0.1 h0.2 z hz))
   ·cases hm:zat 11 a0 b0 with
    |none=>rw[hm] at hx;simp at hx
    |some both=>
     rw[hm] at hx;have hbp:=zjv 11 m h0.1 h0.2 hm;refine ih (i+1) (bs:=q) (front:=front++[both]) (by simp[hfl]) (by simp at hal ⊢;omega) (by simpa using hbl) (fun j hj=>?_) (fun j hj=>?_) x hx
     ·have:=hpiece both hbp j (by simp;omega);have e:nth (front++[both]++s) j=nth (front++[both]) j:=by
       simp only[nth,List.getD];rw[List.getElem?_append_left (by simp;omega)]
      rwa [e] at this
     ·have:=hab (j+1) (by simpa using hj);rwa [show i+(j+1)=i+1+j by omega] at this
theorem zgo {w:List Data}:∀(n m:Nat){t:Ty}{a b:Pat},n<m->zao w m t a=true->zao w n t b=true->∀x∈zau w n t a b,zao w m t x=true
 |0,m,t,a,b,_,_,hb=>by simp[zao] at hb
 |n+1,0,t,a,b,hn,_,_=>by omega
 |n+1,m+1,t,a,b,hn,ha,hb=>by
  have ob:=zb0 hb;have oa:=zb0 ha;have hf:∀u x y,zao w m u x=true->zao w n u y=true->∀z∈zau w n u x y,zao w m u z=true:=fun u x y hx hy=>zgo n m (by omega) hx hy;have hcc:∀a,zao w (m+1) t a=true->a.op=4->b.op=4->∀x∈zcZ (zau w n) w t a b,zao w (m+1) t x=true:=fun a ha h4 h4b=>by
   obtain⟨m1,m2,m3,m4⟩:=za5 ha h4;obtain⟨n1,n2,n3,n4⟩:=za5 hb h4b;intro x hx;unfold zcZ at hx;split at hx
   ·rename_i hc;have key:=zpN (w:=w) (f:=fun u x y=>if zao w m u x=true/\zao w n u y=true then zau w n u x y else []) (m:=m) (t:=t) (c:=a.ctor) m1 (fun u x y hx hy z hz=>by
     split at hz
     ·rename_i hh;exact hf u x y hh.1 hh.2 z hz
     ·simp at hz) 0 (xs:=a.kids) (bs:=b.kids) (front:=[]) rfl (by omega) (by rw[hc] at m3;omega) (fun j hj=>by omega) (fun j hj=>by
      have ka:=zbi ha (i:=j) hj;have kb:=zbi hb (i:=j) (by rw[hc] at m3;omega);rw[zbs h4] at ka;rw[zbs h4b,<-hc] at kb;rw[Nat.zero_add];exact⟨ka,zef (by omega) kb⟩) x
    refine key ?_;have e:∀(ts:List Ty) (xs bs front:List Pat),(∀j,j<ts.length->j<xs.length->j<bs.length->zao w m (nth ts j) (nth xs j)=true/\zao w n (nth ts j) (nth bs j)=true)->
      za7 (fun u x y=>if zao w m u x=true/\zao w n u y=true then zau w n u x y else []) a.ctor ts xs bs front=za7 (zau w n) a.ctor ts xs bs front:=by
     intro ts;induction ts with
     |nil=>intro xs bs front _;simp[za7]
     |cons u r ih=>
      intro xs bs front h;cases xs with
      |nil=>simp[za7]
      |cons x s=>
       cases bs with
       |nil=>simp[za7]
       |cons y q=>
        have h0:=h 0 (by simp) (by simp) (by simp);change zao w m u x=true/\zao w n u y=true at h0
        unfold za7;rw[if_pos h0];congr 1
        cases hmm:zat 11 x y with
        |none=>rfl
        |some both=>exact ih s q (front++[both]) (fun j h1 h2 h3=>h (j+1) (by simpa using h1) (by simpa using h2) (by simpa using h3))
    rw[List.drop_zero,e _ _ _ _ (fun j h1 h2 h3=>?_)]
    ·exact hx
    ·have ka:=zbi ha (i:=j) h2;have kb:=zbi hb (i:=j) h3;rw[zbs h4] at ka;rw[zbs h4b,<-hc] at kb;exact⟨ka,kb⟩
   ·rw[List.mem_singleton] at hx;rw[hx];exact ha
  rcases ob with h1|h3|h4
  ·rw[zhR h1];simp
  ·rw[zj9 h3];intro x hx;have hl:=zo6 ha (zch hb h3).1;have ib:=zch hb h3;have q1:=ztB (zcX a) (b.n-1);have q2:=ztz (lowQ a) (b.m+1);unfold zer at hx;rcases List.mem_append.1 hx with h|h
   ·exact zmh ib.1 (by omega) (by omega) x h
   ·exact zmh ib.1 (by omega) (by omega) x h
  ·by_cases ha1:a.op=1
   ·rw[zhS h4 ha1];intro x hx;obtain⟨c,hc,hx⟩:=List.mem_flatMap.1 hx;refine hcc _ ?_ rfl h4 x hx;obtain⟨k,rfl⟩:∃k,m=k+1:=⟨m-1,by omega⟩;exact zdD hc
   ·have ha4:a.op=4:=by
     have:=zdC ha hb ha1 (by omega);omega
    rw[zeb h4 ha4];exact hcc a ha ha4 h4
theorem zgB {w:List Data} (hs:Spa w):∀(n:Nat){t:Ty}{p:Pat},InS (w.length*4) t->zao w n t p=true->p.ok/\p.size<=4 ^ n
 |0,t,p,_,h=>by simp[zao] at h
 |n+1,t,p,ht,h=>by
  have hk:=fun i (hi:i<p.kids.length)=>zbi h hi;have hl:=(zgR h).2;have op:=zb0 h;have hpow:4 ^ (n+1)=4 ^ n*4:=rfl;have hpos:0<4 ^ n:=Nat.pow_pos (by omega);by_cases h4:p.op=4
  ·obtain⟨m1,m2,m3,m4⟩:=za5 h h4;have h3:=hs.args t p.ctor ht m1;rw[zbs h4] at hk;have ih:∀k∈p.kids,k.ok/\k.size<=4 ^ n:=fun k hkm=>by
    obtain⟨i,hi,rfl⟩:=List.getElem_of_mem hkm;have e:nth p.kids i=p.kids[i]:=za8 hi;have:=zgB hs n (zcf hs.dp ht m1 _ (zal (i:=i) (by omega))) (hk i hi);rwa [e] at this
   have hz:=Pats.size_of (m:=4 ^ n) (fun k hk=>(ih k hk).2);rw[Pat.ok_iff,Pat.size_eq];refine⟨⟨by omega,Pats.ok_of (fun k hk=>(ih k hk).1)⟩, ?_⟩;have:p.kids.length*4 ^ n<=3*4 ^ n:=Nat.mul_le_mul_right _ (by omega);omega
  ·have hk0:p.kids=[]:=zqO (zgr _ h) h4 (by omega) (by omega);rw[Pat.ok_iff,Pat.size_eq,hk0];exact⟨⟨by simp,trivial⟩,by simp only[Pats.size];omega⟩
theorem znq {α:Type}{g:Int->List α}{c0:Int}{X:Nat}:∀ {cs:List Int},cs.Nodup->(∀c∈cs,c≠c0->(g c).length<=1)->(g c0).length<=X->(cs.flatMap g).length<=cs.length+X
 | [],_,_,_=>by simp
 |c::r,hn,h1,h2=>by
  obtain⟨n1,n2⟩:=List.nodup_cons.1 hn;rw[List.flatMap_cons,xaa,xab];by_cases hc:c=c0
  ·have key:∀l:List Int,c0∉l->(∀x∈l,x≠c0->(g x).length<=1)->(l.flatMap g).length<=l.length:=by
    intro l;induction l with
    |nil=>intro _ _;simp
    |cons y s ih=>
     intro hm hh;rw[List.flatMap_cons,xaa,xab];have a1:=hh y (by simp) (fun e=>hm (by rw[e];simp));have a2:=ih (fun e=>hm (by simp[e])) (fun x hx=>hh x (by simp[hx]));omega
   have:=key r (by rw[<-hc];exact n1) (fun x hx=>h1 x (by simp[hx]));rw[hc];omega
  ·have a1:=h1 c (by simp) hc;have a2:=znq (X:=X) n2 (fun x hx=>h1 x (by simp[hx])) h2;omega
theorem zl4 {f:Ty->Pat->Pat->List Pat}{c:Int} (L:Pat->Nat):∀(ts:List Ty) (xs bs front:List Pat),(∀i,i<ts.length->i<xs.length->i<bs.length->(f (nth ts i) (nth xs i) (nth bs i)).length<=L (nth bs i))->(za7 f c ts xs bs front).length<=(bs.map L).sum
 | [],xs,bs,front,_=>by simp[za7]
 |_::_,[],bs,front,_=>by simp[za7]
 |_::_,_::_,[],front,_=>by simp[za7]
 |u::r,x::s,y::q,front,h=>by
  have h0:=h 0 (by simp) (by simp) (by simp);change (f u x y).length<=L y at h0
  unfold za7;rw[xaa,xac,xae,List.sum_cons];cases hm:zat 11 x y with
  |none=>simp;omega
  |some both=>
   have:=zl4 (c:=c) L r s q (front++[both]) (fun i h1 h2 h3=>h (i+1) (by simpa using h1) (by simpa using h2) (by simpa using h3));dsimp only;omega
theorem zqJ {w:List Data}{f:Ty->Pat->Pat->List Pat}{t:Ty}{a b:Pat}{L:Pat->Nat} (h:∀i,i<(zak w t a.ctor).length->i<a.kids.length->i<b.kids.length->(f (nth (zak w t a.ctor) i) (nth a.kids i) (nth b.kids i)).length<=L (nth b.kids i)):
  (zcZ f w t a b).length<=if a.ctor=b.ctor then (b.kids.map L).sum else 1:=by
 unfold zcZ;split
 ·exact zl4 L _ _ _ _ h
 ·simp
theorem sum4:∀l:List Pat,(l.map fun b=>4*b.size).sum=4*Pats.size l
 | []=>rfl
 |k::r=>by simp only[xae,List.sum_cons,Pats.size,sum4 r];omega
theorem znC {w:List Data} (hs:Spa w):∀(n m:Nat){t:Ty}{a b:Pat},n<m->InS (w.length*4) t->zao w m t a=true->zao w n t b=true->(zau w n t a b).length<=4*b.size
 |0,m,t,a,b,_,_,_,hb=>by simp[zao] at hb
 |n+1,0,t,a,b,hn,_,_,_=>by omega
 |n+1,m+1,t,a,b,hn,ht,ha,hb=>by
  have ob:=zb0 hb;have hz:=Pat.size_eq b;rcases ob with h1|h3|h4
  ·rw[zhR h1];simp
  ·rw[zj9 h3];have:=zqK a b;omega
  ·obtain⟨n1,n2,n3,n4⟩:=za5 hb h4;have hcc:∀a,zao w (m+1) t a=true->a.op=4->(zcZ (zau w n) w t a b).length<=if a.ctor=b.ctor then 4*Pats.size b.kids else 1:=fun a ha h4a=>by
    obtain⟨m1,m2,m3,m4⟩:=za5 ha h4a;rw[<-sum4];by_cases hc:a.ctor=b.ctor
    ·have:=zqJ (w:=w) (f:=zau w n) (t:=t) (a:=a) (b:=b) (L:=fun b=>4*b.size) (fun i h1 h2 h3=>by
      have ka:=zbi ha (i:=i) h2;have kb:=zbi hb (i:=i) h3;rw[zbs h4a] at ka;rw[zbs h4,<-hc] at kb;exact znC hs n m (by omega) (zcf hs.dp ht m1 _ (zal h1)) ka kb)
     exact this
    ·unfold zcZ;rw[if_neg hc,if_neg hc];simp
   by_cases ha1:a.op=1
   ·rw[zhS h4 ha1];obtain⟨c1,c2⟩:=hs.ctors t ht;have hw:∀c,c∈zaA w t->(zcZ (zau w n) w t (zb2 w t c) b).length<=if c=b.ctor then 4*Pats.size b.kids else 1:=fun c hc=>by
     obtain⟨k,rfl⟩:∃k,m=k+1:=⟨m-1,by omega⟩;exact hcc _ (zdD hc) rfl
    have:=znq (g:=fun c=>zcZ (zau w n) w t (zb2 w t c) b) (c0:=b.ctor) (X:=4*Pats.size b.kids) c2 (fun c hc hne=>by have:=hw c hc;rwa [if_neg hne] at this) (by have:=hw _ n1;rwa [if_pos rfl] at this);omega
   ·have ha4:a.op=4:=by have:=zdC ha hb ha1 (by omega);omega
    rw[zeb h4 ha4];have:=hcc a ha ha4;split at this<;>omega
theorem zld {α β:Type} [Inhabited α] [Inhabited β]{f:α->β->Bool}:∀ {a:List α}{b:List β},a.length=b.length->all2 f a b=false->∃i,i<a.length/\f (nth a i) (nth b i)=false
 | [],[],_,h=>by simp[all2] at h
 |x::r,y::s,hl,h=>by
  simp only[all2,Bool.and_eq_false_iff] at h;rcases h with h|h
  ·exact⟨0,by simp,h⟩
  ·obtain⟨i,h1,h2⟩:=zld (by simpa using hl) h;exact⟨i+1,by simpa using h1,h2⟩
 | [],_::_,hl,_=>by simp at hl
 |_::_,[],hl,_=>by simp at hl
theorem zhL {w:List Data}{f:Nat->Nat}{n:Nat}{t:Ty}{p:Pat} (h:p.op=1):za3 w f (n+1) t p=decide (dv f t=0):=by rw[zfG,if_pos (.inl h)]
theorem zmE {w:List Data}{f:Nat->Nat}{n m:Nat}{t:Ty}{p:Pat} (hp:zao w m t p=true) (h:p.op=3):za3 w f (n+1) t p=false:=by
 rw[zfG,if_neg (by omega),if_neg (by omega)];have e:zai w t p=[]:=by unfold zai;rw[if_neg (by omega),if_neg (by omega),if_neg (by omega)]
 have hl:=(zgR hp).2;rw[e] at hl ⊢;rw[List.eq_nil_of_length_eq_zero hl];rfl
theorem zmF {w:List Data}{f:Nat->Nat}{n:Nat}{t:Ty}{p:Pat} (h:p.op=4):za3 w f (n+1) t p = !(all2 (fun u q=> !za3 w f n u q) (zak w t p.ctor) p.kids):=by
 rw[zfG,if_neg (by omega),if_neg (by omega),zbs h]
theorem zoQ {w:List Data}{f:Nat->Nat}{n m:Nat}{t:Ty}{p:Pat} (hp:zao w m t p=true) (h:p.op=4) (hd:za3 w f (n+1) t p=true):∃i,i<p.kids.length/\za3 w f n (nth (zak w t p.ctor) i) (nth p.kids i)=true:=by
 rw[zmF h] at hd;have hl:=(za5 hp h).2.2.1;obtain⟨i,h1,h2⟩:=zld (a:=zak w t p.ctor) (b:=p.kids) (f:=fun u q=> !za3 w f n u q) hl.symm (by simpa using hd);exact⟨i,by omega,by simpa using h2⟩
theorem zgP {w:List Data}{f:Nat->Nat}{n:Nat}{t:Ty}{c:Int}{l:List Pat}{i:Nat} (hi:i<l.length) (hl:l.length=(zak w t c).length) (hd:za3 w f n (nth (zak w t c) i) (nth l i)=true):za3 w f (n+1) t (zbO c l)=true:=by
 rw[zmF rfl];have:=zbH (f:=fun u q=> !za3 w f n u q) (a:=zak w t c) (b:=l) (i:=i) (by omega) hl.symm (by rw[hd];rfl);show(!all2 (fun u q=> !za3 w f n u q) (zak w t c) l)=true
 rw[this];rfl
theorem zuQ {w:List Data} (hd:Dp w){t:Ty}{c:Int} (ht:InS (w.length*4) t) (hc:c∈zaA w t) (h0:dv (zaI w) t=0):∃i,i<(zak w t c).length/\dv (zaI w) (nth (zak w t c) i)=0:=by
 by_cases hx:∃i,i<(zak w t c).length/\dv (zaI w) (nth (zak w t c) i)=0
 ·exact hx
 ·exfalso;have a:Snd w (zaI w)/\Cmp w (w.length*4+1) (zaI w):=zfw hd.cl (w.length*4+1);have hdt:t.data≠ -1:=fun e=>by unfold zaA at hc;rw[if_pos e] at hc;simp at hc
  have hb:∀u∈zak w t c,Hd w (w.length*4+1) u:=fun u hu=>by
   obtain⟨i,hi,rfl⟩:=List.getElem_of_mem hu;have hpos:0<dv (zaI w) (zak w t c)[i]:=by
    have e:nth (zak w t c) i=(zak w t c)[i]:=za8 hi;rcases Nat.eq_zero_or_pos (dv (zaI w) (zak w t c)[i]) with h|h
    ·exact absurd ⟨i,hi,by rw[e];exact h⟩ hx
    ·exact h
   have hin:=zcf hd ht hc _ hu;have h1:=zs6 a.1 hin hpos;rcases hin with h2|⟨h2,h3⟩
   ·exact .inl h2
   ·rw[<-h3] at h1 ⊢;exact zo0 hd.cl h2 h1
  have h2:Hd w (w.length*4+2) t:= .inr ⟨c,zsc hc,hdt,hb⟩;rcases ht with h3|⟨h3,h4⟩
  ·exact hdt h3
  ·rw[<-h4] at h2;have h5:=zo0 hd.cl h3 h2;rw[h4] at h5;have:=(zrE a.2 (.inr ⟨h3,h4⟩) h5).1;omega
section
variable {w:List Data} (hs:Spa w)
include hs
theorem zje:∀(n:Nat){t:Ty}{p:Pat},InS (w.length*4) t->zao w n t p=true->dv (zaI w) t=0->za3 w (zaI w) n t p=true
 |0,t,p,_,h,_=>by simp[zao] at h
 |n+1,t,p,ht,h,h0=>by
  rcases zb0 h with h1|h3|h4
  ·rw[zhL h1];exact decide_eq_true h0
  ·have:=(zch h h3).1;unfold dv at h0;rw[if_pos this] at h0;omega
  ·obtain⟨m1,m2,m3,m4⟩:=za5 h h4;obtain⟨i,h5,h6⟩:=zuQ hs.dp ht m1 h0;rw[m4];have hk:=zbi h (i:=i) (by omega);rw[zbs h4] at hk;exact zgP (by omega) m3 (zje n (zcf hs.dp ht m1 _ (zal h5)) hk h6)
theorem znB:∀(n k:Nat){t:Ty}{a b x:Pat},InS (w.length*4) t->zao w n t a=true->zao w n t b=true->za3 w (zaI w) n t a=true->zat k a b=some x->za3 w (zaI w) n t x=true
 |0,k,t,a,b,x,_,h,_,_,_=>by simp[zao] at h
 |n+1,0,t,a,b,x,_,_,_,_,h=>by simp[zat] at h
 |n+1,k+1,t,a,b,x,ht,ha,hb,hd,h=>by
  by_cases h1:a.op=1
  ·rw[zlZ h1] at h;cases h;rw[zhL h1] at hd;exact zje hs (n+1) ht hb (of_decide_eq_true hd)
  by_cases h2:b.op=1
  ·rw[zl0 h1 h2] at h;cases h;exact hd
  by_cases h3:a.op=3
  ·rw[zmE ha h3] at hd;cases hd
  have h4:a.op=4:=by have:=zb0 ha;omega
  have hso:=zdC ha hb h1 h2;by_cases hc:a.ctor=b.ctor
  ·rw[zl2 h4 h2 hc] at h;obtain⟨m1,m2,m3,m4⟩:=za5 ha h4;obtain⟨n1,n2,n3,n4⟩:=za5 hb (by omega);rw[<-hc] at n3;cases hl:zcu (zat k) a.kids b.kids [] with
   |none=>rw[hl] at h;cases h
   |some l=>
    rw[hl] at h;simp only[Option.map_some,Option.some.injEq] at h;subst h;obtain⟨r,e,hr,hm⟩:=zik (by omega) hl;rw[List.nil_append] at e;subst e;obtain⟨i,hi,hde⟩:=zoQ ha h4 hd;have ka:=zbi ha (i:=i) hi;have kb:=zbi hb (i:=i) (by omega);rw[zbs h4] at ka;rw[zbs (by omega),<-hc] at kb;exact zgP (i:=i) (by omega) (by omega) (znB n k (zcf hs.dp ht m1 _ (zal (by omega))) ka kb hde (hm i hi))
  ·rw[zj8 h4 h2 hc] at h;cases h
theorem zpM {f:Ty->Pat->Pat->List Pat}{m:Nat}{t:Ty}{c:Int} (ht:InS (w.length*4) t) (hc:c∈zaA w t):
  ∀(i:Nat){xs bs front:List Pat},front.length=i->xs.length+i=(zak w t c).length->bs.length=xs.length->
   (∀j,j<xs.length->zao w m (nth (zak w t c) (i+j)) (nth xs j)=true/\zao w m (nth (zak w t c) (i+j)) (nth bs j)=true/\(za3 w (zaI w) m (nth (zak w t c) (i+j)) (nth xs j)=true->∀z∈f (nth (zak w t c) (i+j)) (nth xs j) (nth bs j),za3 w (zaI w) m (nth (zak w t c) (i+j)) z=true))->
   ((∃j,j<i/\za3 w (zaI w) m (nth (zak w t c) j) (nth front j)=true)\/∃j,j<xs.length/\za3 w (zaI w) m (nth (zak w t c) (i+j)) (nth xs j)=true)->
   ∀x∈za7 f c ((zak w t c).drop i) xs bs front,za3 w (zaI w) (m+1) t x=true:=by
 intro i xs;induction xs generalizing i with
 |nil=>
  intro bs front _ _ _ _ _ x hx;cases hT:(zak w t c).drop i<;>(rw[hT] at hx;simp[za7] at hx)
 |cons a0 s ih=>
  intro bs front hfl hal hbl hab hde x hx;cases bs with
  |nil=>simp at hbl
  |cons b0 q=>
   have hi:i<(zak w t c).length:=by simp at hal;omega
   rw[za2 hi] at hx;have h0:=hab 0 (by simp);simp only[Nat.add_zero] at h0;have e0:nth (a0::s) 0=a0:=rfl;have e1:nth (b0::q) 0=b0:=rfl;rw[e0,e1] at h0;unfold za7 at hx;have f1:∀z j,j<i->nth (front++[z]++s) j=nth front j:=fun z j hj=>by
    simp only[nth,List.getD,List.append_assoc];rw[List.getElem?_append_left (by omega)]
   have f2:∀z,nth (front++[z]++s) i=z:=fun z=>by
    simp only[nth,List.getD,List.append_assoc];rw[List.getElem?_append_right (by omega),show i-front.length=0 by omega];rfl
   have f3:∀z k,nth (front++[z]++s) (i+1+k)=nth (a0::s) (k+1):=fun z k=>by
    simp only[nth,List.getD,List.append_assoc];rw[List.getElem?_append_right (by omega),show i+1+k-front.length=k+1 by omega];rfl
   have hfl2:∀z,(front++[z]++s).length=(zak w t c).length:=fun z=>by simp at hal ⊢;omega
   rcases List.mem_append.1 hx with hx|hx
   ·obtain⟨z,hz,rfl⟩:=List.mem_map.1 hx;rcases hde with ⟨j,hj,hd⟩|⟨j,hj,hd⟩
    ·exact zgP (i:=j) (by rw[hfl2];omega) (hfl2 z) (by rw[f1 z j hj];exact hd)
    ·cases j with
     |zero=>exact zgP (i:=i) (by rw[hfl2];omega) (hfl2 z) (by rw[f2 z];exact h0.2.2 hd z hz)
     |succ k=>exact zgP (i:=i+1+k) (by rw[hfl2];simp at hj;simp at hal;omega) (hfl2 z) (by rw[f3 z k,show i+1+k=i+(k+1) by omega];exact hd)
   ·cases hm:zat 11 a0 b0 with
    |none=>rw[hm] at hx;simp at hx
    |some both=>
     rw[hm] at hx;refine ih (i+1) (bs:=q) (front:=front++[both]) (by simp[hfl]) (by simp at hal ⊢;omega) (by simpa using hbl) (fun j hj=>?_) ?_ x hx
     ·have:=hab (j+1) (by simpa using hj);rwa [show i+(j+1)=i+1+j by omega] at this
     ·rcases hde with ⟨j,hj,hd⟩|⟨j,hj,hd⟩
      ·refine .inl ⟨j,by omega, ?_⟩;have e:nth (front++[both]) j=nth front j:=by
        simp only[nth,List.getD];rw[List.getElem?_append_left (by omega)]
       rw[e];exact hd
      ·cases j with
       |zero=>
        refine .inl ⟨i,by omega, ?_⟩;have e:nth (front++[both]) i=both:=by
         simp only[nth,List.getD];rw[List.getElem?_append_right (by omega),show i-front.length=0 by omega];rfl
        rw[e];exact znB hs m 11 (zcf hs.dp ht hc _ (zal hi)) h0.1 h0.2.1 hd hm
       |succ k=>
        refine .inr ⟨k,by simpa using hj, ?_⟩;rw[show i+1+k=i+(k+1) by omega];exact hd
theorem zl5:∀(n m:Nat){t:Ty}{a b:Pat},n<m->InS (w.length*4) t->zao w m t a=true->zao w n t b=true->za3 w (zaI w) m t a=true->∀x∈zau w n t a b,za3 w (zaI w) m t x=true
 |0,m,t,a,b,_,_,_,hb,_=>by simp[zao] at hb
 |n+1,0,t,a,b,hn,_,_,_,_=>by omega
 |n+1,m+1,t,a,b,hn,ht,ha,hb,hd=>by
  have hcc:∀a,zao w (m+1) t a=true->a.op=4->b.op=4->za3 w (zaI w) (m+1) t a=true->∀x∈zcZ (zau w n) w t a b,za3 w (zaI w) (m+1) t x=true:=fun a ha h4 h4b hd=>by
   obtain⟨m1,m2,m3,m4⟩:=za5 ha h4;obtain⟨n1,n2,n3,n4⟩:=za5 hb h4b;intro x hx;unfold zcZ at hx;split at hx
   ·rename_i hc;obtain⟨j,hj,hdj⟩:=zoQ ha h4 hd;refine zpM hs ht m1 0 (xs:=a.kids) (bs:=b.kids) (front:=[]) rfl (by omega) (by rw[hc] at m3;omega) (fun j hj=>?_) (.inr ⟨j,hj,by rw[Nat.zero_add];exact hdj⟩) x hx;have ka:=zbi ha (i:=j) hj;have kb:=zbi hb (i:=j) (by rw[hc] at m3;omega);rw[zbs h4] at ka;rw[zbs h4b,<-hc] at kb;rw[Nat.zero_add];exact⟨ka,zef (by omega) kb,fun hdk z hz=>zl5 n m (by omega) (zcf hs.dp ht m1 _ (zal (by omega))) ka kb hdk z hz⟩
   ·rw[List.mem_singleton] at hx;rw[hx];exact hd
  rcases zb0 hb with h1|h3|h4
  ·rw[zhR h1];simp
  ·have hl:=zo6 ha (zch hb h3).1;rcases zb0 ha with h|h|h
   ·rw[zhL h] at hd;have:=of_decide_eq_true hd;unfold dv at this;rw[if_pos (zch hb h3).1] at this;omega
   ·rw[zmE ha h] at hd;cases hd
   ·exact absurd (zch hb h3).1 (za5 ha h).2.1
  ·by_cases ha1:a.op=1
   ·rw[zhS h4 ha1];rw[zhL ha1] at hd;intro x hx;obtain⟨c,hc,hx⟩:=List.mem_flatMap.1 hx;obtain⟨k,rfl⟩:∃k,m=k+1:=⟨m-1,by omega⟩;exact hcc _ (zdD hc) rfl h4 (zje hs _ ht (zdD hc) (of_decide_eq_true hd)) x hx
   ·have ha4:a.op=4:=by have:=zdC ha hb ha1 (by omega);omega
    rw[zeb h4 ha4];exact hcc a ha ha4 h4 hd
end
def zbx (w:List Data) (t:Ty) (p:Pat):Bool:= !za3 w (zaI w) 11 t p
def zb3 (w:List Data) (t:Ty) (l:List Pat) (b:Pat):List Pat:=(l.flatMap fun a=>zau w 10 t a b).filter (zbx w t)
def subL (w:List Data) (t:Ty):List Pat->List Pat->Option (List Pat)
 |l,[]=>some l
 |l,b::r=>if (zb3 w t l b).length<=400 then subL w t (zb3 w t l b) r else none
def zaN (w:List Data) (t:Ty) (l away:List Pat):Option (List Pat):=subL w t (l.filter (zbx w t)) away
theorem zpc {w:List Data} (hs:Spa w){t:Ty} (ht:InS (w.length*4) t){l:List Pat}{b:Pat} (hl:∀a∈l,zao w 11 t a=true) (hb:zao w 10 t b=true):zb3 w t (l.filter (zbx w t)) b=zb3 w t l b:=by
 unfold zb3;induction l with
 |nil=>rfl
 |cons a r ih=>
  have ih':=ih (fun x hx=>hl x (by simp[hx]));rw[List.flatMap_cons,List.filter_append];by_cases h:zbx w t a=true
  ·rw[List.filter_cons_of_pos h,List.flatMap_cons,List.filter_append,ih']
  ·rw[List.filter_cons_of_neg h,ih'];have hd:za3 w (zaI w) 11 t a=true:=by unfold zbx at h;simpa using h
   have:(zau w 10 t a b).filter (zbx w t)=[]:=by
    rw[List.filter_eq_nil_iff];intro x hx;have:=zl5 hs 10 11 (by omega) ht (hl a (by simp)) hb hd x hx;unfold zbx;rw[this];simp
   rw[this,List.nil_append]
theorem zkB {w:List Data}{t:Ty}{l:List Pat}{b:Pat}:(zb3 w t l b).filter (zbx w t)=zb3 w t l b:=by
 unfold zb3;rw[List.filter_filter];simp
theorem zms {w:List Data}{t:Ty}:∀(away:List Pat){l:List Pat},l.filter (zbx w t)=l->(subL w t l away).map (List.filter (zbx w t))=subL w t l away
 | [],l,h=>by simp only[subL,Option.map_some,h]
 |b::r,l,h=>by
  unfold subL;split
  ·exact zms r zkB
  ·rfl
theorem zr3 {w:List Data} (hs:Spa w){t:Ty} (ht:InS (w.length*4) t){l away:List Pat} (hl:∀a∈l,zao w 11 t a=true) (hb:∀b∈away,zao w 10 t b=true):(subL w t l away).map (List.filter (zbx w t))=zaN w t l away:=by
 unfold zaN;cases away with
 |nil=>rfl
 |cons b r=>
  unfold subL;rw[zpc hs ht hl (hb b (by simp))];split
  ·exact zms r zkB
  ·rfl
theorem zgp {w:List Data}{t:Ty}{l:List Pat}{b:Pat} (hl:∀a∈l,zao w 11 t a=true) (hb:zao w 10 t b=true):∀x∈zb3 w t l b,zao w 11 t x=true:=fun x hx=>by
 unfold zb3 at hx;obtain⟨a,ha,hx⟩:=List.mem_flatMap.1 (List.mem_filter.1 hx).1;exact zgo 10 11 (by omega) (hl a ha) hb x hx
theorem zk6 {n:Nat} (h0:0<n) (hb:n<=1000000):FnD Tryz.prog 317 [.nils,.d (.i (n:Int))] [] (.gv 9 []) [(9,some (.tok 0 6))]:=by
 refine bd Tryz.f317 27 [12,24] [] fun w0 F0 own kept hk=>?_;refine sq ?_ ?_<;>intro h1 h1p h1s<;>(try simp only[Q] at h1p);exfalso;omega;refine Walk.capN sl34 .none rfl rfl ?_;refine evs [12,24] [] ?_;refine Walk.lenN sl34 .none rfl rfl ?_;refine evs [12,24] [] ?_;refine ar ?_;refine ar ?_;refine sq ?_ ?_<;>intro h2 h2p h2s<;>(try simp only[Q] at h2p);refine Walk.capN sl34 .none rfl rfl ?_;refine Walk.cutN_h sl34 .none rfl rfl rfl ?_;refine evs [12,24] [] ?_;refine Walk.growZ (n:=n) 8 sl34 Tryz.underlying3 tz36 rfl (by decide) rfl .none rfl rfl rfl (by simp) h0 (by omega) (by omega) rfl ?_;refine evs [12,24] [] ?_;refine Walk.lenN sl34 .none rfl rfl ?_;refine xaM 9 (b:=0) sl34 .none rfl rfl (zeu rfl (by(simp;done))) rfl rfl (Nat.zero_le _) (by rw[List.length_replicate];exact h0) rfl ?_;refine evs [12,24] [] ?_;focus (refine rn [(9,some (.tok 0 6))] (r1 rfl) (.gvg ?_) ⟨rfl,rfl⟩ (SubH.get ⟨rfl,trivial⟩) (za6 rfl);all_goals (rfl))
 focus (exfalso;simp at h2;all_goals omega)
abbrev zs7 (ls:List (List Pat)):D:= .sl (ls.map fun l=>[zae l])
theorem zjM {ls:List (List Pat)} (hl:ls.length<=1000) (h0:0<ls.flatten.length) (hb:ls.flatten.length<=1000000):FnD Tryz.prog 247 [.d (zs7 ls)] [] (.d (zae ls.flatten)) []:=by
 have key:∀ {pre rest:List (List Pat)}{y:List Pat},pre++y::rest=ls->pre.flatten.length+y.length<=ls.flatten.length:=fun h=>by
  rw[<-h];simp
 refine FnD.gvD (i:=9) (k:=6) ?_;refine bd Tryz.f247 36 [] [] fun w0 F0 own kept hk=>?_;refine xam (ι:=List (List Pat)×List (List Pat)) hk (fun x=>[(11,.d (.i (x.1.length:Int))),(3,.d (.i (x.1.flatten.length:Int)))]) [5,12,13,14,15,16,17,18,19,20,21,22] (fun x=>[]) (fun x=>x.1++x.2=ls) (fun x=>x.2.length) ([],ls) (by simp) ⟨⟨_,rfl,xaz ?_⟩,⟨⟨_,rfl,xaz ?_⟩,trivial⟩⟩ trivial (fun x=>rfl) (fun x hg1=>?_);iterate 2 focus (rfl)
 obtain⟨pre,rest⟩:=x;dsimp only at hg1 ⊢;refine evc [] [] ?_;refine sq ?_ ?_<;>intro h1 h1p h1s<;>(try simp only[Q,Pat.cs_len] at h1p);rcases rest with _|⟨y,rest⟩
 ·exfalso;simp_all
 refine xaS zdJ .none rfl rfl rfl rfl (zaR hg1) rfl ?_;refine ev ?_;refine ar ?_ (by(have h9:=key hg1;constructor<;>first|omega|(simp only[Pat.cs_len];omega)));refine sq ?_ ?_<;>intro h2 h2p h2s<;>(try simp only[Q,Pat.cs_len] at h2p);exfalso;have:=key hg1;omega;refine ar ?_ (by(have h9:=key hg1;constructor<;>first|omega|(simp only[Pat.cs_len];omega)));refine xah ((pre++[y],rest)) ⟨(by have hz:=hg1;rw[<-hz];simp),(by simp),sx ⟨⟨_,rfl,xaz ?_⟩,⟨⟨_,rfl,xaz ?_⟩,trivial⟩⟩ trivial⟩;iterate 2 focus ((simp[Pat.cs_len];done))
 have hrest:rest=[]:=by
  rcases rest with _|⟨a,b⟩
  ·rfl
  ·exfalso;have hz:=congrArg List.length (hg1);simp only[xaa,xab,xac] at hz;omega
 subst hrest;refine Walk.call (cr:=[9]) zup (zk6 (n:=pre.flatten.length) (by rw[List.append_nil] at hg1;rw[hg1];exact h0) (by rw[List.append_nil] at hg1;rw[hg1];exact hb)) rfl .none rfl rfl (LeL.refl _) trivial rfl rfl rfl ?_;refine ev ?_;refine xam (ι:=List (List Pat)×List (List Pat)) hk (fun x=>[(27,.d (.i (x.1.length:Int))),(6,.gv 9 (Pat.cs x.1.flatten))]) [8,28,29,30,31,32,33,34] (fun x=>[(9,some (.tok (Pat.cs x.1.flatten).length 6))]) (fun x=>x.1++x.2=ls) (fun x=>x.2.length) ([],ls) (by simp) ⟨⟨_,rfl,xaz ?_⟩,⟨⟨_,rfl,LeA.gvg ?_⟩,trivial⟩⟩ ⟨zad ?_,trivial⟩ (fun x=>rfl) (fun x hg2=>?_);iterate 3 focus (rfl)
 obtain⟨pre,rest⟩:=x;dsimp only at hg2 ⊢;refine evc [] [] ?_;refine sq ?_ ?_<;>intro h3 h3p h3s<;>(try simp only[Q,Pat.cs_len] at h3p);rcases rest with _|⟨y,rest⟩
 ·exfalso;simp_all
 refine xaS zdJ .none rfl rfl rfl rfl (zaR hg2) rfl ?_;refine ev ?_;refine xaF sl34 zz36 .none rfl rfl rfl rfl (zeu rfl (by rfl)) (by exact zbm _) (by have:=key hg2;simp only[Pat.cs_len];omega) (by have:=key hg2;simp only[Pat.cs_len];omega) ?_;refine ev ?_;refine ar ?_ (by(constructor<;>omega));refine xah ((pre++[y],rest)) ⟨(by have hz:=hg2;rw[<-hz];simp),(by simp),sx ⟨⟨_,rfl,xaz ?_⟩,⟨⟨_,rfl,LeA.gvg ?_⟩,trivial⟩⟩ ⟨zad ?_,trivial⟩⟩;iterate 3 focus ((simp[xaB];done))
 have hrest:rest=[]:=by
  rcases rest with _|⟨a,b⟩
  ·rfl
  ·exfalso;have hz:=congrArg List.length (hg2);simp only[xaa,xab,xac] at hz;omega
 subst hrest;refine rn [(9,some (.tok (Pat.cs ls.flatten).length 6))] (r1 rfl) (.gvg ?_) ⟨rfl,rfl⟩ (SubH.get ⟨?_,trivial⟩) (za6 rfl);rotate_left 2;all_goals ((rw[List.append_nil] at hg2;subst hg2;rfl))
def zbp (l:List Int):Nat->List Pat
 |0=>[]
 |n+1=>zbp l n++zb1 (nth l (2*n)) (nth l (2*n+1))
theorem zjD (l:List Int):∀n,(zbp l n).length<=n
 |0=>by simp[zbp]
 |n+1=>by
  have:=zjD l n;simp only[zbp,zb1,xaa];split<;>simp<;>omega
theorem zjE {l:List Int}{n:Nat} (h:nth l (2*n)<=nth l (2*n+1)):zbp l (n+1)=zbp l n++[intQ (nth l (2*n)) (nth l (2*n+1))]:=by simp[zbp,zb1,h]
theorem zpP {l:List Int}{n:Nat} (h:¬nth l (2*n)<=nth l (2*n+1)):zbp l (n+1)=zbp l n:=by simp only[zbp,zb1,if_neg h,List.append_nil]
theorem zpj (a b:Int):zbp [a,b] 1=zb1 a b:=by simp[zbp,nth]
theorem zsz (a b c d:Int):zbp [a,b,c,d] 2=zb1 a b++zb1 c d:=by simp[zbp,nth]
theorem zlG {p:Pat}:FnD Tryz.prog 244 [.agg [.d (.i p.op),.d (.i p.ctor),.d (.i p.n),.d (.i p.m),.d (.i p.var),.d (zae p.kids)]] [] (.tup [.d (.i (lowQ p)),.d (.i (zcX p))]) []:=by
 by_cases h:p.op=1
 ·have e1:lowQ p=0:=if_pos h;have e2:zcX p=9:=if_pos h;rw[e1,e2];refine bd Tryz.f244 11 [] [] fun w0 F0 own kept hk=>?_;refine bx 3001 ?_;refine ev ?_;refine sq ?_ ?_<;>intro h1 h1p h1s<;>(try simp only[Q] at h1p);focus (refine rn0 (r2 rfl rfl) (.tup (.cons (.eqd ?_) (.cons (.eqd ?_) .nil)));all_goals (rfl))
  exfalso;omega
 ·skip
  have e1:lowQ p=p.n:=if_neg h;have e2:zcX p=p.m:=if_neg h;rw[e1,e2];refine bd Tryz.f244 11 [] [] fun w0 F0 own kept hk=>?_;refine bx 3001 ?_;refine ev ?_;refine sq ?_ ?_<;>intro h1 h1p h1s<;>(try simp only[Q] at h1p);exfalso;omega;refine dr ?_;focus (refine rn0 (r2 rfl rfl) (.tup (.cons (.eqd ?_) (.cons (.eqd ?_) .nil)));all_goals (rfl))
theorem zfv {l:List Int}{n:Nat} (hl:l.length=2*n) (hb:n<=1000):FnD Tryz.prog 245 [.d (zcs l)] [] (.d (zae (zbp l n))) []:=by
 refine bd Tryz.f245 35 [3] [] fun w0 F0 own kept hk=>?_;refine xaG 9 6 .none rfl rfl ?_;refine tv ?_;refine xam (ι:=Nat) hk (fun i=>[(4,.d (.i ((2*i:Nat):Int))),(3,.gl 9 (Pat.cs (zbp l i)))]) [5,6,7,8,9,10,11,12,13,14,15,16,17,18,19,20,21,22,23,24,25,26,27,28,29,30,31,32,33] (fun i=>[(9,some (.tok ((Pat.cs (zbp l i))).length 6))]) (fun i=>i<=n) (fun i=>n-i) 0 (by omega) ⟨⟨_,rfl,xaz ?_⟩,⟨⟨_,rfl,LeA.glg ?_⟩,trivial⟩⟩ ⟨zad ?_,trivial⟩ (fun x=>rfl) (fun i hg1=>?_);iterate 3 focus (rfl)
 refine evc [3] [] ?_;refine sq ?_ ?_<;>intro h1 h1p h1s<;>(try simp only[Q] at h1p);refine xaS (i:=2*i) sl29 .none rfl rfl rfl rfl (zax (by omega)) rfl ?_;refine evd [3] [] ?_;refine ar ?_;refine xaS (i:=2*i+1) sl29 .none rfl rfl rfl rfl (zax (by omega)) rfl ?_;refine evd [3] [] ?_;refine dr ?_;refine sq ?_ ?_<;>intro h2 h2p h2s<;>(try simp only[Q] at h2p);refine xaS (i:=2*i) sl29 .none rfl rfl rfl rfl (zax (by omega)) rfl ?_;refine evd [3] [] ?_;refine ar ?_;refine xaS (i:=2*i+1) sl29 .none rfl rfl rfl rfl (zax (by omega)) rfl ?_;refine evd [3] [] ?_;refine bu [0,2,3] [_,_,_] st36 ?_;refine si [0] [_] sl34 tz36 ?_;refine ap sl34 zz36 rfl rfl rfl (by(intro x hx;simp at hx;subst hx;rfl)) (by have:=zjD l i;simp[Pat.cs_len];omega) ?_;refine asg ?_;refine dr ?_;refine ar ?_;refine xah (i+1) ⟨(by omega),(by omega),sx ⟨⟨_,rfl,xaz ?_⟩,⟨⟨_,rfl,LeA.glg ?_⟩,trivial⟩⟩ ⟨zad ?_,trivial⟩⟩;iterate 3 focus (first|rfl|(rw[zjE (by assumption),xaB,xaB,xaf];rfl)|(rw[zjE (by assumption)];simp[Pat.cs_len];done))
 refine ar ?_;refine xah (i+1) ⟨(by omega),(by omega),sx ⟨⟨_,rfl,xaz ?_⟩,⟨⟨_,rfl,LeA.glg ?_⟩,trivial⟩⟩ ⟨zad ?_,trivial⟩⟩;iterate 3 focus (first|rfl|(rw[zpP (by assumption)];done))
 refine rn0 (r1 rfl) (.gld ?_);rotate_left;all_goals ((have e:i=n:=(by omega);rw[e]))
theorem zn2 {w:List Data} (hw:WT w){f:Nat->Nat}{a k c:Int} (ht:TyIn w.length ⟨a,k⟩) (hc:c∈zaA w ⟨a,k⟩) (hl:(zak w ⟨a,k⟩ c).length<=3):FnD Tryz.prog 246 [.d (sPtr w f),.agg [.d (.i a),.d (.i k)],.d (.i c)] []
  (.agg [.d (.i 4),.d (.i c),.d (.i 0),.d (.i 0),.d (.i 0),.d (zae (zb2 w ⟨a,k⟩ c).kids)]) []:=by
 refine bd Tryz.f246 28 [] [] fun w0 F0 own kept hk=>?_;refine bx 3004 ?_;refine ab 3006 tz36 ?_;refine tv ?_;refine bu [0,1] [_,_] st36 ?_;refine ab 3007 tz36 ?_;refine so ty36 ?_;refine tv ?_;refine wc zi3 (zcY hw ht hc) rfl rfl ?_;refine evd [] [] ?_;refine dr ?_;refine xat 3007 5 9 6 rfl rfl rfl rfl ?_;refine xam (ι:=List (Ty)×List (Ty)) hk (fun x=>[(18,.d (.i (x.1.length:Int)))]) [19,20,21,22,23,24,25,26] (fun x=>[(3007,some (.box [.d (.i 4),.d (.i c),.d (.i 0),.d (.i 0),.d (.i 0),.gl 9 ((x.1.map fun _=>anyQ).map Pat.cc)])),(9,some (.tok ((x.1.map fun _=>anyQ).map Pat.cc).length 6))]) (fun x=>x.1++x.2=zak w ⟨a,k⟩ c) (fun x=>x.2.length) ([],zak w ⟨a,k⟩ c) (by simp) ⟨⟨_,rfl,xaz ?_⟩,trivial⟩ ⟨?_,⟨zad ?_,trivial⟩⟩ (fun x=>rfl) (fun x hg1=>?_);focus (rfl)
 focus (rfl)
 focus (rfl)
 obtain⟨pre,rest⟩:=x;dsimp only at hg1 ⊢;refine evc [] [] ?_;refine sq ?_ ?_<;>intro h1 h1p h1s<;>(try simp only[Q] at h1p);rcases rest with _|⟨y,rest⟩
 ·exfalso;simp_all
 refine wc zq8 (zfS) rfl rfl ?_;refine si [0] [_] sl34 tz36 ?_;refine ap sl34 zz36 rfl rfl rfl (by intro x hx;(simp at hx;subst hx;rfl)) (by have:=congrArg List.length hg1;simp at this;simp;omega) ?_;refine evd [] [] ?_;refine so ty34 ?_;refine dr ?_;refine ar ?_;refine xah ((pre++[y],rest)) ⟨(by have hz:=hg1;rw[<-hz];simp),(by simp),sx ⟨⟨_,rfl,xaz ?_⟩,trivial⟩ ⟨?_,⟨zad ?_,trivial⟩⟩⟩;focus ((simp;done))
 focus ((simp[getH];exact⟨rfl,rfl,rfl,rfl,rfl,rfl⟩))
 focus ((simp;done))
 have hrest:rest=[]:=by
  rcases rest with _|⟨a,b⟩
  ·rfl
  ·exfalso;have hz:=congrArg List.length (hg1);simp only[xaa,xab,xac] at hz;omega
 subst hrest;refine so ty36 ?_;refine tv ?_;refine rn0 (.cons (.cellA ty36 rfl rfl rfl) .nil) (.agg (.cons (.eqd ?_) (.cons (.eqd ?_) (.cons (.eqd ?_) (.cons (.eqd ?_) (.cons (.eqd ?_) (.cons (.gld ?_) .nil)))))));rotate_left 6;all_goals (first|rfl|(rw[List.append_nil] at hg1;subst hg1;rw[<-xaB];all_goals rfl))
def zcD (n:Nat) (a b:Pat):Pat:=(zat n a b).getD zti
theorem zcl {n:Nat}{a b x:Pat} (h:zat n a b=some x):zcD n a b=x:=by unfold zcD;rw[h];rfl
theorem ze7 {n:Nat}{a b:Pat} (h:zat n a b=none):zcD n a b=zti:=by unfold zcD;rw[h];rfl
theorem zbZ {n:Nat}{a b:Pat} (h:(zat n a b).isSome=true):zat n a b=some (zcD n a b):=by
 unfold zcD;cases e:zat n a b with
 |none=>rw[e] at h;cases h
 |some x=>rfl
theorem zcK {n:Nat}{a b:Pat} (h:(zat n a b).isSome=false):zat n a b=none:=by
 cases e:zat n a b with
 |none=>rfl
 |some x=>rw[e] at h;cases h
theorem zgN {w:List Data} (hs:Spa w){f:Nat->Nat}:∀(n m:Nat){ta tk:Int}{a b:Pat},m<=n->InS (w.length*4) ⟨ta,tk⟩->zao w m ⟨ta,tk⟩ a=true->zao w m ⟨ta,tk⟩ b=true->
  FnD Tryz.prog 248 [.d (sPtr w f),.agg [.d (.i ta),.d (.i tk)],.agg [.d (.i a.op),.d (.i a.ctor),.d (.i a.n),.d (.i a.m),.d (.i a.var),.d (zae a.kids)],.agg [.d (.i b.op),.d (.i b.ctor),.d (.i b.n),.d (.i b.m),.d (.i b.var),.d (zae b.kids)]] []
   (.tup [.agg [.d (.i (zcD n a b).op),.d (.i (zcD n a b).ctor),.d (.i (zcD n a b).n),.d (.i (zcD n a b).m),.d (.i (zcD n a b).var),.d (zae (zcD n a b).kids)],.d (.bool (zat n a b).isSome)]) []
 |n,0,ta,tk,a,b,_,_,ha,_=>by simp[zao] at ha
 |0,m+1,ta,tk,a,b,h,_,_,_=>by omega
 |n+1,m+1,ta,tk,a,b,hnm,ht,ha,hb=>by
  by_cases h1:a.op=1
  ·have e:=zlZ (n:=n) (b:=b) h1;rw[zcl e,e];refine bd Tryz.f248 100 [] [] fun w0 F0 own kept hk=>?_;refine bx 3005 ?_;refine bx 3006 ?_;refine bx 3007 ?_;refine ab 3008 tz36 ?_;refine ev ?_;refine sq ?_ ?_<;>intro h1 h1p h1s;refine so ty36 ?_;refine ev ?_;refine rn0 (.cons (.cellA ty36 rfl rfl rfl) (.cons (.tmp rfl) .nil)) (.tup (.cons (.agg (.cons (.eqd ?_) (.cons (.eqd ?_) (.cons (.eqd ?_) (.cons (.eqd ?_) (.cons (.eqd ?_) (.cons (.eqd ?_) .nil))))))) (.cons (.eqd ?_) .nil)));rotate_left 7;try simp only[Q] at h1p
   exfalso;omega;all_goals (rfl)
  by_cases h2:b.op=1
  ·have e:=zl0 (n:=n) h1 h2;rw[zcl e,e];refine bd Tryz.f248 100 [] [] fun w0 F0 own kept hk=>?_;refine bx 3005 ?_;refine bx 3006 ?_;refine bx 3007 ?_;refine ab 3008 tz36 ?_;refine ev ?_;refine sq ?_ ?_<;>intro h1 h1p h1s;try simp only[Q] at h1p
   exfalso;omega;refine sq ?_ ?_<;>intro h2 h2p h2s;refine so ty36 ?_;refine ev ?_;refine rn0 (.cons (.cellA ty36 rfl rfl rfl) (.cons (.tmp rfl) .nil)) (.tup (.cons (.agg (.cons (.eqd ?_) (.cons (.eqd ?_) (.cons (.eqd ?_) (.cons (.eqd ?_) (.cons (.eqd ?_) (.cons (.eqd ?_) .nil))))))) (.cons (.eqd ?_) .nil)));rotate_left 7;try simp only[Q] at h2p
   exfalso;omega;all_goals (rfl)
  by_cases h3:a.op=3
  ·have e:=zl1 (n:=n) h3 h2;by_cases hr:maxQ a.n b.n<=minQ a.m b.m
   ·rw[if_pos hr] at e;have er:zbp [maxQ a.n b.n,minQ a.m b.m] 1=[intQ (maxQ a.n b.n) (minQ a.m b.m)]:=by rw[zpj];exact if_pos hr
    have hrg:=zfv (l:=[maxQ a.n b.n,minQ a.m b.m]) (n:=1) rfl (by omega);rw[er] at hrg;rw[zcl e,e];refine bd Tryz.f248 100 [] [] fun w0 F0 own kept hk=>?_;refine bx 3005 ?_;refine bx 3006 ?_;refine bx 3007 ?_;refine ab 3008 tz36 ?_;refine ev ?_;refine sq ?_ ?_<;>intro h1 h1p h1s;try simp only[Q,Pat.cs_len] at h1p
    exfalso;omega;refine sq ?_ ?_<;>intro h2 h2p h2s;try simp only[Q,Pat.cs_len] at h2p
    exfalso;omega;refine sq ?_ ?_<;>intro h3 h3p h3s;refine xa4 .none rfl rfl rfl ?_;refine ev ?_;refine xa5 .none rfl rfl rfl ?_;refine si [0,1] [_,_] sl29 tz3 ?_;refine wc zoI (hrg) rfl rfl ?_;refine ev ?_;refine sq ?_ ?_<;>intro h4 h4p h4s;exfalso;simp[Pat.cs_len] at h4;refine xaS (i:=0) sl34 .none rfl rfl rfl rfl (rfl) rfl ?_;refine ev ?_;refine so ty36 ?_;refine ev ?_;refine rn0 (.cons (.cellA ty36 rfl rfl rfl) (.cons (.tmp rfl) .nil)) (.tup (.cons (.agg (.cons (.eqd ?_) (.cons (.eqd ?_) (.cons (.eqd ?_) (.cons (.eqd ?_) (.cons (.eqd ?_) (.cons (.eqd ?_) .nil))))))) (.cons (.eqd ?_) .nil)));rotate_left 7;try simp only[Q,Pat.cs_len] at h3p
    exfalso;omega;all_goals (rfl)
   ·skip
    rw[if_neg hr] at e;have er:zbp [maxQ a.n b.n,minQ a.m b.m] 1=[]:=by rw[zpj];exact if_neg hr
    have hrg:=zfv (l:=[maxQ a.n b.n,minQ a.m b.m]) (n:=1) rfl (by omega);rw[er] at hrg;rw[ze7 e,e];refine bd Tryz.f248 100 [] [] fun w0 F0 own kept hk=>?_;refine bx 3005 ?_;refine bx 3006 ?_;refine bx 3007 ?_;refine ab 3008 tz36 ?_;refine ev ?_;refine sq ?_ ?_<;>intro h1 h1p h1s;try simp only[Q,Pat.cs_len] at h1p
    exfalso;omega;refine sq ?_ ?_<;>intro h2 h2p h2s;try simp only[Q,Pat.cs_len] at h2p
    exfalso;omega;refine sq ?_ ?_<;>intro h3 h3p h3s;refine xa4 .none rfl rfl rfl ?_;refine ev ?_;refine xa5 .none rfl rfl rfl ?_;refine si [0,1] [_,_] sl29 tz3 ?_;refine wc zoI (hrg) rfl rfl ?_;refine ev ?_;refine sq ?_ ?_<;>intro h4 h4p h4s;refine bu [] [] st36 ?_;refine so ty36 ?_;refine ev ?_;refine rn0 (.cons (.cellA ty36 rfl rfl rfl) (.cons (.tmp rfl) .nil)) (.tup (.cons (.agg (.cons (.eqd ?_) (.cons (.eqd ?_) (.cons (.eqd ?_) (.cons (.eqd ?_) (.cons (.eqd ?_) (.cons (.nild ?_) .nil))))))) (.cons (.eqd ?_) .nil)));rotate_left 7;exfalso;simp[Pat.cs] at h4;try simp only[Q,Pat.cs_len] at h3p
    exfalso;omega;all_goals (rfl)
  have oa:=zb0 ha;have h4:a.op=4:=by omega
  have h4b:b.op=4:=by have:=zdC ha hb h1 h2;omega
  by_cases hc:a.ctor=b.ctor
  ·obtain⟨c1,c2,c3,c4⟩:=za5 ha h4;obtain⟨d1,d2,d3,d4⟩:=za5 hb h4b;rw[<-hc] at d3;have h3l:=hs.args ⟨ta,tk⟩ a.ctor ht c1;have ka:=fun i (hi:i<a.kids.length)=>zbi ha hi;have kb:=fun i (hi:i<b.kids.length)=>zbi hb hi;rw[zbs h4] at ka;rw[zbs h4b,<-hc] at kb;have e:=zl2 (n:=n) h4 h2 hc;have hlen:a.kids.length=b.kids.length:=by omega
   have ih:=fun i (hi:i<(zak w ⟨ta,tk⟩ a.ctor).length)=>zgN hs n m (f:=f) (ta:=(nth (zak w ⟨ta,tk⟩ a.ctor) i).data) (tk:=(nth (zak w ⟨ta,tk⟩ a.ctor) i).index) (a:=nth a.kids i) (b:=nth b.kids i) (by omega) (zcf hs.dp ht c1 _ (zal hi)) (ka i (by omega)) (kb i (by omega));refine bd Tryz.f248 100 [] [] fun w0 F0 own kept hk=>?_;refine bx 3005 ?_;refine bx 3006 ?_;refine bx 3007 ?_;refine ab 3008 tz36 ?_;refine ev ?_;refine sq ?_ ?_<;>intro h1 h1p h1s;try simp only[Q,Pat.cs_len] at h1p
   exfalso;omega;refine sq ?_ ?_<;>intro h2 h2p h2s;try simp only[Q,Pat.cs_len] at h2p
   exfalso;omega;refine sq ?_ ?_<;>intro h3 h3p h3s;try simp only[Q,Pat.cs_len] at h3p
   exfalso;omega;refine sq ?_ ?_<;>intro h4 h4p h4s;try simp only[Q,Pat.cs_len] at h4p
   exfalso;omega;refine bu [0,1] [_,_] st36 ?_;refine ab 3011 tz36 ?_;refine so ty36 ?_;refine tv ?_;refine wc zi3 (zcY hs.dp.wt (zcz ht) c1) rfl rfl ?_;refine evd [] [] ?_;refine dr ?_;refine xat 3011 5 9 6 rfl rfl rfl rfl ?_;refine xam (ι:=Nat×List Pat) hk (fun x=>[(68,.d (.i (x.1:Int)))]) [9,12,13,14,15,69,70,71,72,73,74,75,76,77,78,79,80,81,82,83,84,85,86,87,88,89,90,91,92,93,94,95,96,97,98] (fun x=>[(3011,some (.box [.d (.i 4),.d (.i a.ctor),.d (.i 0),.d (.i 0),.d (.i 0),.gl 9 (x.2.map Pat.cc)])),(9,some (.tok (x.2.map Pat.cc).length 6))]) (fun x=>x.1<=a.kids.length/\x.2.length=x.1/\zcu (zat n) (a.kids.drop x.1) (b.kids.drop x.1) x.2=zcu (zat n) a.kids b.kids []) (fun x=>a.kids.length-x.1) (0,[]) ⟨by simp,rfl,rfl⟩ ⟨⟨_,rfl,xaz ?_⟩,trivial⟩ ⟨?_,⟨zad ?_,trivial⟩⟩ (fun x=>rfl) (fun x hg1=>?_);focus (rfl)
   focus (first|rfl|(simp[getH];done))
   focus (rfl)
   refine evc [] [] ?_;refine sq ?_ ?_<;>intro h5 h5p h5s<;>(try simp only[Q,Pat.cs_len] at h5p);refine xaS za4 .none rfl rfl rfl rfl (zax (by omega)) rfl ?_;refine ev ?_;refine ab 3013 tz25 ?_;refine ev ?_;refine so ty25 ?_;refine tv ?_;refine xaS sl34 .none rfl rfl rfl rfl (zaH (by omega)) rfl ?_;refine evd [] [] ?_;refine xaS sl34 .none rfl rfl rfl rfl (zaH (by omega)) rfl ?_;refine evd [] [] ?_;refine wc zln (ih x.1 (by omega)) rfl rfl ?_;refine evd [] [] ?_;refine ab 3014 tz36 ?_;refine so ty36 ?_;refine evd [] [] ?_;refine dr ?_;refine sq ?_ ?_<;>intro h6 h6p h6s;refine bu [] [] st36 ?_;refine so ty36 ?_;refine ev ?_;refine rn0 (.cons (.cellA ty36 rfl rfl rfl) (.cons (.tmp rfl) .nil)) (.tup (.cons (.agg (.cons (.eqd ?_) (.cons (.eqd ?_) (.cons (.eqd ?_) (.cons (.eqd ?_) (.cons (.eqd ?_) (.cons (.nild ?_) .nil))))))) (.cons (.eqd ?_) .nil)));rotate_left 7;try simp only[Q,Pat.cs_len] at h6p
   refine si [0] [_] sl34 tz36 ?_;refine ap sl34 zz36 rfl rfl rfl (by intro x hx;(simp at hx;subst hx;rfl)) (by simp;omega) ?_;refine ev ?_;refine so ty34 ?_;refine tv ?_;refine ar ?_;refine xah ((x.1+1,x.2++[zcD n (nth a.kids x.1) (nth b.kids x.1)])) ⟨⟨by dsimp only;omega,by dsimp only;rw[xaa,hg1.2.1];rfl,by dsimp only;rw[<-zlY (by omega) (by omega) (zbZ (by assumption))];exact hg1.2.2⟩,(by dsimp only;omega),sx ⟨⟨_,rfl,xaz ?_⟩,trivial⟩ ⟨?_,⟨zad ?_,trivial⟩⟩⟩;focus (rfl)
   focus (first|rfl|(simp[getH];done))
   focus ((simp;done))
   refine so ty36 ?_;refine ev ?_;refine rn0 (.cons (.cellA ty36 rfl rfl rfl) (.cons (.tmp rfl) .nil)) (.tup (.cons (.agg (.cons (.eqd ?_) (.cons (.eqd ?_) (.cons (.eqd ?_) (.cons (.eqd ?_) (.cons (.eqd ?_) (.cons (.gld ?_) .nil))))))) (.cons (.eqd ?_) .nil)));rotate_left 7;all_goals (first|(have e2:zat (n+1) a b=none:=(by rw[e,<-hg1.2.2,zlX (by omega) (by omega) (zcK (by assumption))];rfl);(first|rw[ze7 e2]|rw[e2]);all_goals rfl)|(have e2:zat (n+1) a b=some (zbO a.ctor x.2):=(by rw[e,<-hg1.2.2,zeK (by omega)];rfl);rw[zcl e2,xaB];all_goals rfl)|(have e2:zat (n+1) a b=some (zbO a.ctor x.2):=(by rw[e,<-hg1.2.2,zeK (by omega)];rfl);rw[zcl e2];all_goals rfl)|(have e2:zat (n+1) a b=some (zbO a.ctor x.2):=(by rw[e,<-hg1.2.2,zeK (by omega)];rfl);rw[e2];all_goals rfl))
  ·skip
   have e:=zj8 (n:=n) h4 h2 hc;rw[ze7 e,e];refine bd Tryz.f248 100 [] [] fun w0 F0 own kept hk=>?_;refine bx 3005 ?_;refine bx 3006 ?_;refine bx 3007 ?_;refine ab 3008 tz36 ?_;refine ev ?_;refine sq ?_ ?_<;>intro h1 h1p h1s;try simp only[Q] at h1p
   exfalso;omega;refine sq ?_ ?_<;>intro h2 h2p h2s;try simp only[Q] at h2p
   exfalso;omega;refine sq ?_ ?_<;>intro h3 h3p h3s;try simp only[Q] at h3p
   exfalso;omega;refine sq ?_ ?_<;>intro h4 h4p h4s;refine bu [] [] st36 ?_;refine so ty36 ?_;refine ev ?_;refine rn0 (.cons (.cellA ty36 rfl rfl rfl) (.cons (.tmp rfl) .nil)) (.tup (.cons (.agg (.cons (.eqd ?_) (.cons (.eqd ?_) (.cons (.eqd ?_) (.cons (.eqd ?_) (.cons (.eqd ?_) (.cons (.nild ?_) .nil))))))) (.cons (.eqd ?_) .nil)));rotate_left 7;try simp only[Q] at h4p
   exfalso;omega;all_goals (rfl)
theorem zhh {f:Ty->Pat->Pat->List Pat}{c:Int}{ts:List Ty}{xs bs front:List Pat}{i:Nat} (h1:i<ts.length) (h2:i<xs.length) (h3:i<bs.length):
  za7 f c (ts.drop i) (xs.drop i) (bs.drop i) front=(f (nth ts i) (nth xs i) (nth bs i)).map (fun z=>zbO c (front++[z]++xs.drop (i+1)))++(match zat 11 (nth xs i) (nth bs i) with
   |none=>[]
   |some both=>za7 f c (ts.drop (i+1)) (xs.drop (i+1)) (bs.drop (i+1)) (front++[both])):=by
 rw[za2 h1,za2 h2,za2 h3,za7];all_goals (cases zat 11 (nth xs i) (nth bs i)<;>rfl)
theorem zkA {f:Ty->Pat->Pat->List Pat}{c:Int}{ts:List Ty}{xs bs front:List Pat}{i:Nat} (h1:i<ts.length) (h2:i<xs.length) (h3:i<bs.length) (h:(zat 11 (nth xs i) (nth bs i)).isSome=true):
  za7 f c (ts.drop i) (xs.drop i) (bs.drop i) front=(f (nth ts i) (nth xs i) (nth bs i)).map (fun z=>zbO c (front++[z]++xs.drop (i+1)))++za7 f c (ts.drop (i+1)) (xs.drop (i+1)) (bs.drop (i+1)) (front++[zcD 11 (nth xs i) (nth bs i)]):=by
 rw[zhh h1 h2 h3,zbZ h]
theorem zkz {f:Ty->Pat->Pat->List Pat}{c:Int}{ts:List Ty}{xs bs front:List Pat}{i:Nat} (h1:i<ts.length) (h2:i<xs.length) (h3:i<bs.length) (h:(zat 11 (nth xs i) (nth bs i)).isSome=false):
  za7 f c (ts.drop i) (xs.drop i) (bs.drop i) front=(f (nth ts i) (nth xs i) (nth bs i)).map (fun z=>zbO c (front++[z]++xs.drop (i+1))):=by
 rw[zhh h1 h2 h3,zcK h,List.append_nil]
theorem zl3 {f:Ty->Pat->Pat->List Pat}{c:Int}{ts:List Ty}{xs bs front:List Pat}{i:Nat} (h1:ts.length<=i):za7 f c (ts.drop i) (xs.drop i) (bs.drop i) front=[]:=by
 rw[List.drop_eq_nil_of_le h1];rfl
theorem zph {n:Nat} (h:n<=11):4 ^ n<=4194304:=Nat.le_trans (Nat.pow_le_pow_right (by omega) h) (by decide)
theorem zfx {w:List Data} (hs:Spa w){n m:Nat}{t:Ty}{a b:Pat} (h:n<m) (h10:n<=10) (ht:InS (w.length*4) t) (ha:zao w m t a=true) (hb:zao w n t b=true):(zau w n t a b).length<=20000000:=by
 have h1:=znC hs n m h ht ha hb;have h2:=(zgB hs n ht hb).2;have h3:=zph (n:=n) (by omega);omega
theorem ztr {A B:List Pat}{y:Pat}{xs:List (List D)} (hx:xs=Pat.cs B) (hb:A.length+1+B.length<=1000):
  FnD Tryz.prog 247 [.d (.sl [[.sl (A.map Pat.cc)],[.sl [Pat.cc y]],[.sl xs]])] [] (.d (zae (A++[y]++B))) []:=by
 have h:=zjM (ls:=[A,[y],B]) (by simp) (by simp;omega) (by simp;omega);have e:[A,[y],B].flatten=A++[y]++B:=by simp
 rw[e] at h;subst hx;have e2:zs7 [A,[y],B] = .sl [[.sl (A.map Pat.cc)],[.sl [Pat.cc y]],[.sl (Pat.cs B)]]:=by
  show D.sl [[.sl (Pat.cs A)],[.sl (Pat.cs [y])],[.sl (Pat.cs B)]]=_
  rw[xaB A,xaB [y]];rfl
 rw[e2] at h;exact h
section
variable {w:List Data}{f:Nat->Nat}
abbrev MinusFn (w:List Data) (f:Nat->Nat) (n:Nat) (ta tk:Int) (a b:Pat):Prop:=
 FnD Tryz.prog 152 [.d (sPtr w f),.agg [.d (.i ta),.d (.i tk)],.agg [.d (.i a.op),.d (.i a.ctor),.d (.i a.n),.d (.i a.m),.d (.i a.var),.d (zae a.kids)],.agg [.d (.i b.op),.d (.i b.ctor),.d (.i b.n),.d (.i b.m),.d (.i b.var),.d (zae b.kids)]] [] (.d (zae (zau w n ⟨ta,tk⟩ a b))) []
theorem zo1 {n:Nat}{ta tk:Int}{a b:Pat} (h:b.op=1):MinusFn w f (n+1) ta tk a b:=by
 unfold MinusFn;rw[zhR h];refine bd Tryz.f152 159 [] [] fun w0 F0 own kept hk=>?_;refine bx 3005 ?_;refine bx 3006 ?_;refine bx 3007 ?_;refine ev ?_;refine sq ?_ ?_<;>intro h1 h1p h1s;refine rn0 (r1 rfl) (.nild ?_);rotate_left;try simp only[Q] at h1p
 exfalso;omega;all_goals (rfl)
theorem zo2 {n:Nat}{ta tk:Int}{a b:Pat} (h:b.op=3) (hbn:0<=b.n/\b.n<=9) (hbm:0<=b.m/\b.m<=9):MinusFn w f (n+1) ta tk a b:=by
 unfold MinusFn;rw[zj9 h];have er:zbp [lowQ a,minQ (zcX a) (b.n-1),maxQ (lowQ a) (b.m+1),zcX a] 2=zer a b:=zsz _ _ _ _;have hrg:=zfv (l:=[lowQ a,minQ (zcX a) (b.n-1),maxQ (lowQ a) (b.m+1),zcX a]) (n:=2) rfl (by omega);rw[er] at hrg;refine bd Tryz.f152 159 [] [] fun w0 F0 own kept hk=>?_;refine bx 3005 ?_;refine bx 3006 ?_;refine bx 3007 ?_;refine ev ?_;refine sq ?_ ?_<;>intro h1 h1p h1s;try simp only[Q] at h1p
 exfalso;omega;refine sq ?_ ?_<;>intro h2 h2p h2s;refine wc zt7 (zlG) rfl rfl ?_;refine ev ?_;refine ar ?_;refine xa5 .none rfl rfl rfl ?_;refine ev ?_;refine ar ?_;refine xa4 .none rfl rfl rfl ?_;refine ev ?_;refine si [0,1,2,3] [_,_,_,_] sl29 tz3 ?_;refine wc zoI (hrg) rfl rfl ?_;refine ev ?_;focus (refine rq ?_;all_goals (rfl))
 try simp only[Q] at h2p
 exfalso;omega
theorem zo5 {n:Nat}{ta tk:Int}{a b:Pat} (h4:a.op=4) (h4b:b.op=4) (hc:¬a.ctor=b.ctor):MinusFn w f (n+1) ta tk a b:=by
 unfold MinusFn;have e:zau w (n+1) ⟨ta,tk⟩ a b=[a]:=by rw[zeb h4b h4];exact if_neg hc
 rw[e];refine bd Tryz.f152 159 [] [] fun w0 F0 own kept hk=>?_;refine bx 3005 ?_;refine bx 3006 ?_;refine bx 3007 ?_;refine ev ?_;refine sq ?_ ?_<;>intro h1 h1p h1s;try simp only[Q] at h1p
 exfalso;omega;refine sq ?_ ?_<;>intro h2 h2p h2s;try simp only[Q] at h2p
 exfalso;omega;refine sq ?_ ?_<;>intro h3 h3p h3s;try simp only[Q] at h3p
 exfalso;omega;refine sq ?_ ?_<;>intro h4 h4p h4s;refine si [0] [_] sl34 tz36 ?_;refine ev ?_;refine rq ?_;rotate_left;try simp only[Q] at h4p
 exfalso;omega;all_goals (first|rfl|(cases a;rfl))
theorem zo4 (hs:Spa w){n m:Nat} (hn:n+1<=10) (hm:m+1<=11) (hnm:n<m)
  (ih:∀ {ta tk:Int}{a b:Pat},InS (w.length*4) ⟨ta,tk⟩->zao w m ⟨ta,tk⟩ a=true->zao w n ⟨ta,tk⟩ b=true->MinusFn w f n ta tk a b)
  {ta tk:Int}{a b:Pat} (ht:InS (w.length*4) ⟨ta,tk⟩) (ha:zao w (m+1) ⟨ta,tk⟩ a=true) (hb:zao w (n+1) ⟨ta,tk⟩ b=true) (h4:a.op=4) (h4b:b.op=4) (hc:a.ctor=b.ctor):MinusFn w f (n+1) ta tk a b:=by
 obtain⟨c1,c2,c3,-⟩:=za5 ha h4;obtain⟨d1,d2,d3,-⟩:=za5 hb h4b;rw[<-hc] at d3;have h3l:=hs.args ⟨ta,tk⟩ a.ctor ht c1;have ka:=fun i (hi:i<a.kids.length)=>zbi ha hi;have kb:=fun i (hi:i<b.kids.length)=>zbi hb hi;rw[zbs h4] at ka;rw[zbs h4b,<-hc] at kb;have hbd:=zfx hs (n:=n+1) (m:=m+1) (by omega) hn ht ha hb;have e:zau w (n+1) ⟨ta,tk⟩ a b=za7 (zau w n) a.ctor (zak w ⟨ta,tk⟩ a.ctor) a.kids b.kids []:=by rw[zeb h4b h4];exact if_pos hc
 have hins:=fun i (hi:i<(zak w ⟨ta,tk⟩ a.ctor).length)=>zcf hs.dp ht c1 _ (zal hi);have hmi:∀i,i<(zak w ⟨ta,tk⟩ a.ctor).length->FnD Tryz.prog 152 [.d (sPtr w f),.agg [.d (.i (nth (zak w ⟨ta,tk⟩ a.ctor) i).data),.d (.i (nth (zak w ⟨ta,tk⟩ a.ctor) i).index)],.agg [.d (.i (nth a.kids i).op),.d (.i (nth a.kids i).ctor),.d (.i (nth a.kids i).n),.d (.i (nth a.kids i).m),.d (.i (nth a.kids i).var),.d (zae (nth a.kids i).kids)],.agg [.d (.i (nth b.kids i).op),.d (.i (nth b.kids i).ctor),.d (.i (nth b.kids i).n),.d (.i (nth b.kids i).m),.d (.i (nth b.kids i).var),.d (zae (nth b.kids i).kids)]] [] (.d (zae (zau w n (nth (zak w ⟨ta,tk⟩ a.ctor) i) (nth a.kids i) (nth b.kids i)))) []:=fun i hi=>ih (ta:=(nth (zak w ⟨ta,tk⟩ a.ctor) i).data) (tk:=(nth (zak w ⟨ta,tk⟩ a.ctor) i).index) (hins i hi) (ka i (by omega)) (kb i (by omega));have hme:=fun i (hi:i<(zak w ⟨ta,tk⟩ a.ctor).length)=>zgN hs 11 m (f:=f) (ta:=(nth (zak w ⟨ta,tk⟩ a.ctor) i).data) (tk:=(nth (zak w ⟨ta,tk⟩ a.ctor) i).index) (by omega) (hins i hi) (ka i (by omega)) (zef (by omega) (kb i (by omega)));unfold MinusFn;rw[e] at hbd ⊢;have hT:∀i out front,i<(zak w ⟨ta,tk⟩ a.ctor).length->out++za7 (zau w n) a.ctor ((zak w ⟨ta,tk⟩ a.ctor).drop i) (a.kids.drop i) (b.kids.drop i) front=za7 (zau w n) a.ctor (zak w ⟨ta,tk⟩ a.ctor) a.kids b.kids []->
   out.length+(zau w n (nth (zak w ⟨ta,tk⟩ a.ctor) i) (nth a.kids i) (nth b.kids i)).length<=20000000:=fun i out front hi h=>by
  rw[zhh hi (by omega) (by omega)] at h;have:=congrArg List.length h;simp only[xaa,xac] at this;omega
 refine bd Tryz.f152 159 [14,15] [] fun w0 F0 own kept hk=>?_;refine bx 3005 ?_;refine bx 3006 ?_;refine bx 3007 ?_;refine evs [14,15] [] ?_;refine sq ?_ ?_<;>intro h1 h1p h1s;try simp only[Q,Pat.cs_len] at h1p
 exfalso;omega;refine sq ?_ ?_<;>intro h2 h2p h2s;try simp only[Q,Pat.cs_len] at h2p
 exfalso;omega;refine sq ?_ ?_<;>intro h3 h3p h3s;try simp only[Q,Pat.cs_len] at h3p
 exfalso;omega;refine sq ?_ ?_<;>intro h4 h4p h4s;try simp only[Q,Pat.cs_len] at h4p
 exfalso;omega;refine xaG 9 6 .none rfl rfl ?_;refine xaG 8 6 .none rfl rfl ?_;refine tv ?_;refine wc zi3 (zcY hs.dp.wt (zcz ht) c1) rfl rfl ?_;refine evd [14,15] [] ?_;refine dr ?_;refine xam (ι:=Nat×List Pat×List Pat) hk (fun s=>[(94,.d (.i (s.1:Int))),(14,.gl 9 (s.2.1.map Pat.cc)),(15,.gl 8 (s.2.2.map Pat.cc))]) [16,17,19,20,21,22,95,96,97,98,99,100,101,102,103,104,105,106,107,108,109,110,111,112,113,114,115,116,117,118,119,120,121,122,123,124,125,126,127,128,129,130,131,132,133,134,135,136,137,138,139,140,141,142,143,144,145,146,147,148,149,150,151,152,153,154,155,156,157] (fun s=>[(9,some (.tok ((s.2.1.map Pat.cc)).length 6)),(8,some (.tok ((s.2.2.map Pat.cc)).length 6))]) (fun s=>s.1<=a.kids.length/\s.2.2.length=s.1/\s.2.1++za7 (zau w n) a.ctor ((zak w ⟨ta,tk⟩ a.ctor).drop s.1) (a.kids.drop s.1) (b.kids.drop s.1) s.2.2=za7 (zau w n) a.ctor (zak w ⟨ta,tk⟩ a.ctor) a.kids b.kids []) (fun s=>a.kids.length-s.1) (0,[],[]) ⟨by simp,rfl,rfl⟩ ⟨⟨_,rfl,xaz ?_⟩,⟨⟨_,rfl,LeA.glg ?_⟩,⟨⟨_,rfl,LeA.glg ?_⟩,trivial⟩⟩⟩ ⟨zad ?_,⟨zad ?_,trivial⟩⟩ (fun x=>rfl) (fun s hg2=>?_);iterate 5 focus (rfl)
 refine evc [14,15] [] ?_;refine sq ?_ ?_<;>intro h5 h5p h5s<;>(try simp only[Q,Pat.cs_len] at h5p);refine xaS za4 .none rfl rfl rfl rfl (zax (by omega)) rfl ?_;refine evs [14,15] [] ?_;refine ab 3017 tz25 ?_;refine evs [14,15] [] ?_;refine so ty25 ?_;refine tv ?_;refine xaS sl34 .none rfl rfl rfl rfl (zaH (by omega)) rfl ?_;refine evd [14,15] [] ?_;refine xaS sl34 .none rfl rfl rfl rfl (zaH (by omega)) rfl ?_;refine evd [14,15] [] ?_;refine wc zoB (hmi s.1 (by omega)) rfl rfl ?_;refine evd [14,15] [] ?_;refine dr ?_;refine xam (ι:=List (Pat)×List (Pat)) hk (fun x=>[(113,.d (.i (x.1.length:Int))),(14,.gl 9 ((s.2.1++x.1.map (fun z=>zbO a.ctor (s.2.2++[z]++a.kids.drop (s.1+1)))).map Pat.cc))]) [19,20,114,115,116,117,118,119,120,121,122,123,124,125,126,127,128,129,130,131,132,133,134] (fun x=>[(9,some (.tok (((s.2.1++x.1.map (fun z=>zbO a.ctor (s.2.2++[z]++a.kids.drop (s.1+1)))).map Pat.cc)).length 6))]) (fun x=>x.1++x.2=(zau w n (nth (zak w ⟨ta,tk⟩ a.ctor) s.1) (nth a.kids s.1) (nth b.kids s.1))) (fun x=>x.2.length) ([],(zau w n (nth (zak w ⟨ta,tk⟩ a.ctor) s.1) (nth a.kids s.1) (nth b.kids s.1))) (by simp) ⟨⟨_,rfl,xaz ?_⟩,⟨⟨_,rfl,LeA.glg ?_⟩,trivial⟩⟩ ⟨zad ?_,trivial⟩ (fun x=>rfl) (fun x hg3=>?_);iterate 3 focus ((simp;done))
 obtain⟨pre,rest⟩:=x;dsimp only at hg3 ⊢;refine evc [14,15] [] ?_;refine sq ?_ ?_<;>intro h6 h6p h6s<;>(try simp only[Q,Pat.cs_len] at h6p);rcases rest with _|⟨y,rest⟩
 ·exfalso;simp_all
 refine xaS sl34 .none rfl rfl rfl rfl (Pat.cs_at' hg3) rfl ?_;refine evs [14,15] [] ?_;refine ab 3019 tz36 ?_;refine so ty36 ?_;refine tv ?_;refine si [0] [_] sl34 tz36 ?_;refine evd [14,15] [] ?_;refine ar ?_ (by(constructor<;>omega));refine xaO (b:=s.1+1) sl34 .none rfl rfl rfl (by intro x hx;exact zbm _ x hx) rfl rfl (by simp only[Pat.cs_len];omega) ?_;refine si [0,1,2] [_,_,_] zdJ tz34 ?_;refine wc zt9 (ztr (A:=s.2.2) (y:=y) (xs:=(Pat.cs a.kids).drop (s.1+1)) (B:=a.kids.drop (s.1+1)) (by rw[xaB,xaB,List.map_drop]) (by rw[List.length_drop];omega)) rfl rfl ?_;refine evd [14,15] [] ?_;refine dr ?_;refine bu [0,1,5] [_,_,_] st36 ?_;refine si [0] [_] sl34 tz36 ?_;refine ap sl34 zz36 rfl rfl rfl (by intro x hx;(simp at hx;subst hx;rfl)) (by(have h9:=hT s.1 s.2.1 s.2.2 (by omega) hg2.2.2;have h8:=congrArg List.length hg3;simp at h8 ⊢;omega)) ?_;refine asg ?_;refine tv ?_;refine ar ?_ (by(have h9:=hT s.1 s.2.1 s.2.2 (by omega) hg2.2.2;have h8:=congrArg List.length hg3;simp only[xaa,xab] at h8;constructor<;>omega));refine xah ((pre++[y],rest)) ⟨(by have hz:=hg3;rw[<-hz];simp),(by simp),sx ⟨⟨_,rfl,xaz ?_⟩,⟨⟨_,rfl,LeA.glg ?_⟩,trivial⟩⟩ ⟨zad ?_,trivial⟩⟩;iterate 3 focus (first|(simp;done)|(simp only[xaf,List.append_assoc,xae,List.map_nil];rfl)|(simp;omega))
 have hrest:rest=[]:=by
  rcases rest with _|⟨a,b⟩
  ·rfl
  ·exfalso;have hz:=congrArg List.length (hg3);simp only[xaa,xab,xac] at hz;omega
 subst hrest;refine xaS sl34 .none rfl rfl rfl rfl (zaH (by omega)) rfl ?_;refine evd [14,15] [] ?_;refine xaS sl34 .none rfl rfl rfl rfl (zaH (by omega)) rfl ?_;refine evd [14,15] [] ?_;refine wc zln (hme s.1 (by omega)) rfl rfl ?_;refine evd [14,15] [] ?_;refine ab 3021 tz36 ?_;refine so ty36 ?_;refine evd [14,15] [] ?_;refine dr ?_;refine sq ?_ ?_<;>intro h7 h7p h7s;refine rn0 (r1 rfl) (.gld ?_);rotate_left;try simp only[Q,Pat.cs_len] at h7p
 refine si [0] [_] sl34 tz36 ?_;refine ap sl34 zz36 rfl rfl rfl (by intro x hx;(simp at hx;subst hx;rfl)) (by(have h9:=hT s.1 s.2.1 s.2.2 (by omega) hg2.2.2;have h8:=congrArg List.length hg3;simp at h8 ⊢;omega)) ?_;refine asg ?_;refine tv ?_;refine ar ?_ (by(constructor<;>omega));refine xah ((s.1+1,s.2.1++(zau w n (nth (zak w ⟨ta,tk⟩ a.ctor) s.1) (nth a.kids s.1) (nth b.kids s.1)).map (fun z=>zbO a.ctor (s.2.2++[z]++a.kids.drop (s.1+1))),s.2.2++[zcD 11 (nth a.kids s.1) (nth b.kids s.1)])) ⟨⟨by dsimp only;omega,by dsimp only;rw[xaa,hg2.2.1];rfl,by dsimp only;rw[List.append_assoc,<-zkA (by omega) (by omega) (by omega) (by assumption)];exact hg2.2.2⟩,(by dsimp only;omega),sx ⟨⟨_,rfl,xaz ?_⟩,⟨⟨_,rfl,LeA.glg ?_⟩,⟨⟨_,rfl,LeA.glg ?_⟩,trivial⟩⟩⟩ ⟨zad ?_,⟨zad ?_,trivial⟩⟩⟩;iterate 5 focus ((simp_all;done))
 refine rn0 (r1 rfl) (.gld ?_);rotate_left;all_goals (first|(rw[<-hg2.2.2,zl3 (by omega),List.append_nil,xaB];done)|(rw[List.append_nil] at hg3;rw[<-hg2.2.2,zkz (by omega) (by omega) (by omega) (by assumption),<-hg3,xaB];all_goals rfl))
theorem zo3 (hs:Spa w){n:Nat}{ta tk:Int}{a b:Pat} (ht:InS (w.length*4) ⟨ta,tk⟩) (h1:a.op=1) (h4b:b.op=4) (hbd:(zau w (n+1) ⟨ta,tk⟩ a b).length<=20000000)
  (hC:∀c∈zaA w ⟨ta,tk⟩,MinusFn w f (n+1) ta tk (zb2 w ⟨ta,tk⟩ c) b):MinusFn w f (n+1) ta tk a b:=by
 have e:zau w (n+1) ⟨ta,tk⟩ a b=(zaA w ⟨ta,tk⟩).flatMap fun c=>zau w (n+1) ⟨ta,tk⟩ (zb2 w ⟨ta,tk⟩ c) b:=by
  rw[zhS h4b h1];exact congrArg (fun g=>(zaA w ⟨ta,tk⟩).flatMap g) (funext fun c=>(zeb h4b rfl).symm)
 unfold MinusFn;rw[e] at hbd ⊢;have hcl:=(hs.ctors _ ht).1;have hpre:∀ {pre rest:List Int}{y:Int},pre++y::rest=zaA w ⟨ta,tk⟩->(pre.flatMap fun c=>zau w (n+1) ⟨ta,tk⟩ (zb2 w ⟨ta,tk⟩ c) b).length+(zau w (n+1) ⟨ta,tk⟩ (zb2 w ⟨ta,tk⟩ y) b).length<=20000000:=fun h=>by
  rw[<-h,List.flatMap_append,List.flatMap_cons] at hbd;simp only[xaa] at hbd;omega
 have hmem:∀ {pre rest:List Int}{y:Int},pre++y::rest=zaA w ⟨ta,tk⟩->y∈zaA w ⟨ta,tk⟩:=fun h=>by rw[<-h];simp
 refine bd Tryz.f152 159 [11] [] fun w0 F0 own kept hk=>?_;refine bx 3005 ?_;refine bx 3006 ?_;refine bx 3007 ?_;refine evs [11] [] ?_;refine sq ?_ ?_<;>intro h1 h1p h1s;try simp only[Q,Pat.cs_len] at h1p
 exfalso;omega;refine sq ?_ ?_<;>intro h2 h2p h2s;try simp only[Q,Pat.cs_len] at h2p
 exfalso;omega;refine sq ?_ ?_<;>intro h3 h3p h3s;refine xaG 9 6 .none rfl rfl ?_;refine tv ?_;refine wc zlm (zd9 hs.dp.wt (zcz ht)) rfl rfl ?_;refine evd [11] [] ?_;refine dr ?_;refine xam (ι:=List (Int)×List (Int)) hk (fun x=>[(61,.d (.i (x.1.length:Int))),(11,.gl 9 (Pat.cs (x.1.flatMap fun c=>zau w (n+1) ⟨ta,tk⟩ (zb2 w ⟨ta,tk⟩ c) b)))]) [13,62,63,64,65,66,67,68,69,70,71,72,73,74,75] (fun x=>[(9,some (.tok ((Pat.cs (x.1.flatMap fun c=>zau w (n+1) ⟨ta,tk⟩ (zb2 w ⟨ta,tk⟩ c) b))).length 6))]) (fun x=>x.1++x.2=zaA w ⟨ta,tk⟩) (fun x=>x.2.length) ([],zaA w ⟨ta,tk⟩) (by simp) ⟨⟨_,rfl,xaz ?_⟩,⟨⟨_,rfl,LeA.glg ?_⟩,trivial⟩⟩ ⟨zad ?_,trivial⟩ (fun x=>rfl) (fun x hg1=>?_);iterate 3 focus (rfl)
 obtain⟨pre,rest⟩:=x;dsimp only at hg1 ⊢;refine evc [11] [] ?_;refine sq ?_ ?_<;>intro h4 h4p h4s<;>(try simp only[Q,Pat.cs_len] at h4p);rcases rest with _|⟨y,rest⟩
 ·exfalso;simp_all
 refine xaS sl29 .none rfl rfl rfl rfl (zaR hg1) rfl ?_;refine evs [11] [] ?_;refine wc zt8 (zn2 hs.dp.wt (f:=f) (zcz ht) (hmem hg1) (hs.args _ _ ht (hmem hg1))) rfl rfl ?_;refine evd [11] [] ?_;refine wc zoB (hC y (hmem hg1)) rfl rfl ?_;refine ap sl34 zz36 rfl rfl rfl (by exact zbm _) (by have h9:=hpre hg1;simp only[Pat.cs_len];omega) ?_;refine asg ?_;refine dr ?_;refine ar ?_;refine xah ((pre++[y],rest)) ⟨(by have hz:=hg1;rw[<-hz];simp),(by simp),sx ⟨⟨_,rfl,xaz ?_⟩,⟨⟨_,rfl,LeA.glg ?_⟩,trivial⟩⟩ ⟨zad ?_,trivial⟩⟩;iterate 3 focus (first|(rw[List.flatMap_append,xaB,xaB,xaB,xaf];simp;done)|(simp[Pat.cs_len];done))
 have hrest:rest=[]:=by
  rcases rest with _|⟨a,b⟩
  ·rfl
  ·exfalso;have hz:=congrArg List.length (hg1);simp only[xaa,xab,xac] at hz;omega
 subst hrest;refine rn0 (r1 rfl) (.gld ?_);rotate_left;try simp only[Q,Pat.cs_len] at h3p
 exfalso;omega;all_goals ((rw[List.append_nil] at hg1;rw[hg1];done))
theorem ziI (hs:Spa w):∀(n m:Nat){ta tk:Int}{a b:Pat},n<m->n<=10->m<=11->InS (w.length*4) ⟨ta,tk⟩->zao w m ⟨ta,tk⟩ a=true->zao w n ⟨ta,tk⟩ b=true->MinusFn w f n ta tk a b
 |0,m,ta,tk,a,b,_,_,_,_,_,hb=>by simp[zao] at hb
 |n+1,0,ta,tk,a,b,h,_,_,_,_,_=>by omega
 |n+1,m+1,ta,tk,a,b,h,hn,hm,ht,ha,hb=>by
  have hC:∀ {a:Pat},zao w (m+1) ⟨ta,tk⟩ a=true->a.op=4->b.op=4->MinusFn w f (n+1) ta tk a b:=fun {a} ha h4 h4b=>by
   by_cases hc:a.ctor=b.ctor
   ·exact zo4 hs hn hm (by omega) (fun h1 h2 h3=>ziI hs n m (by omega) (by omega) (by omega) h1 h2 h3) ht ha hb h4 h4b hc
   ·exact zo5 h4 h4b hc
  rcases zb0 hb with h1|h3|h4b
  ·exact zo1 h1
  ·have:=zch hb h3;exact zo2 h3 ⟨by omega,by omega⟩ ⟨by omega,by omega⟩
  ·by_cases h1:a.op=1
   ·obtain⟨m',rfl⟩:∃m',m=m'+1:=⟨m-1,by omega⟩;exact zo3 hs ht h1 h4b (zfx hs h hn ht ha hb) (fun c hc=>hC (zdD hc) rfl h4b)
   ·exact hC ha (by have:=zdC ha hb h1 (by omega);omega) h4b
end
def zuL (s:Str):Prop:=2<s.length/\nth s (s.length-2)=58
instance (s:Str):Decidable (zuL s):=inferInstanceAs (Decidable (_/\_))
structure TB (w:List Data):Prop where
 len:w.length<=4
 dn:∀d∈w,d.name.length<=1/\d.ctors.length<=4
 cn:∀d∈w,∀c∈d.ctors,c.name.length<=5/\c.args.length<=3/\0<=c.index/\c.index<=3
 ar:∀d∈w,∀c∈d.ctors,∀t∈c.args,(t.data = -1\/(0<=t.data/\t.data.toNat<w.length))/\ -1<=t.index/\t.index<=3
theorem zn9:FnD Tryz.prog 118 [] [] (.agg [.d (.i 1),.d (.i 0),.d (.i 0),.d (.i 0),.d (.i 0),.d (.sl [])]) []:=by
 refine bd Tryz.f118 2 [] [] fun w0 F0 own kept hk=>?_;refine ab 3000 tz36 ?_;refine tv ?_;refine bu [0] [_] st36 ?_;refine so ty36 ?_;refine tv ?_;focus (refine rn0 (.cons (.cellA ty36 rfl rfl rfl) .nil) (.agg (.cons (.eqd ?_) (.cons (.eqd ?_) (.cons (.eqd ?_) (.cons (.eqd ?_) (.cons (.eqd ?_) (.cons (.nild ?_) .nil)))))));all_goals (rfl))
section
variable {c:Ctx}{all:Array Oper}{chk:List Rec->Prop}{os:List Oper}{recs:List Rec}{env:Env}{hp:Hp}{Q:St->Prop}
variable {d ty:Nat}{pos:String}{af:Array Edge}{g:Option (Nat×Bool)}{pg:List (Nat×AV)}{t yt:TypeId}{x y:Operand}
theorem Walk.appendM {id k e yb:Nat}{xs ys:List (List D)}{vy:AV}{ids:List Nat} (hkp:KeptIn c.kept ids) (hid:zaS id ids=false) (hne:xs++ys≠[]) (ht:SlT c.P t e k yb) (hz:ZeroT c.P e k) (hg:GH all env g pg) (hd:Nat.blt d c.n=true)
  (hx:opd env x=some (.gv id xs)) (hy:opd env y=some vy) (hyd:vy.toD=some (.sl ys)) (htok:getH hp id=some (.tok xs.length k)) (hky:∀y,y∈ys->y.length=k)
  (hb:(xs.length+ys.length)*yb<=140737488355328) (hm:xs.length+ys.length<=9223372036854775807)
  (hn:Walk c all chk os (zaq (pg++(opF x (.gv id xs)++opF y vy)) [(id,.tok xs.length k)] [] ⟨some (d,.ms id (xs++ys).length),[(id,some (.box ((xs++ys).flatten.map .d)))]⟩::recs)
   ⟨(d,.ms id (xs++ys).length)::env,(id,some (.box ((xs++ys).flatten.map .d)))::hp⟩ Q):
  Walk c all chk (⟨some d,.call ⟨.builtin .append,#[x,y],#[t,t]⟩,ty,pos,af,g⟩::os) recs ⟨env,hp⟩ Q:=by
 refine⟨pg++(opF x (.gv id xs)++opF y vy),[(id,.tok xs.length k)],[],_, ?_,zav hg.facts (zav (zaZ hx) (zaZ hy)),hh1 htok,by simp,hn⟩;intro s a w hrel hp' hh _ K Q' hK;obtain⟨G,hr⟩:=hrel;have e1:=hr.opd (za0 hx (fun p hm=>hp' p (by simp[hm])));have e2:=hr.opd (za0 hy (fun p hm=>hp' p (by simp[hm])));obtain⟨i,z,z1,z2,z3⟩:=hz.out;obtain⟨v',w',G',hrun,hR,hA⟩:=ziZ hr ht ⟨i,z1,z2,z3⟩ (hh1' hh) e1 (e2.toD hyd) hky hb hm ty;unfold wpO;rw[if_pos (hg.gf.wanted hr (fun p hm=>hp' p (by simp[hm])))];unfold Oper.wp;have:(execOp a.eval ⟨some d,.call ⟨.builtin .append,#[x,y],#[t,t]⟩,ty,pos,af,g⟩).run c.P w = .ok (.value v') w':=by
  simp only[execOp,resolve,invoke,builtin,Sem.run_bind,Sem.run_pure,Result.andThen_ok,List.map_toArray,xae,List.map_nil,hrun]
 rw[this,Oper.upon_value];have hV:Rel c ⟨(d,.gv id (xs++ys))::s.env,(id,some (.tok (xs.length+ys.length) k))::s.hp⟩ (a.put (some d) v') w':=⟨G',hR.put hA hd⟩;rcases Rel.fixV hkp d id k (xs:=xs++ys) (by simp[getE]) (by rw[zah,if_pos rfl,xaa]) hid hV with ⟨h,_⟩|⟨_,h⟩
 ·exact absurd h hne
 ·refine hK _ _ (h.congr (fun j=>?_) (fun j=>?_))
  ·show getE ((d,_)::s.env) j=getE ((d,_)::(d,_)::s.env) j
   simp only[getE];cases Nat.beq d j<;>rfl
  ·show getH ((id,_)::s.hp) j=getH ((id,_)::(id,_)::s.hp) j
   rw[zah,zah,zah];by_cases hj:j=id
   ·rw[if_pos hj,if_pos hj]
   ·rw[if_neg hj,if_neg hj,if_neg hj]
end
theorem FnD.boxD {P:Program}{f:FuncId}{i n k:Nat}{args:List AV}{cs:List AV}{es:List (List D)} (hc:zb5 n k (cs.take (n*k))=some es) (h:FnD P f args [] (.ms i n) [(i,some (.box cs))]):FnD P f args [] (.d (.sl es)) []:=by
 intro G w vals hok;refine(h G w vals hok).mono ?_;rintro e w' ⟨v,r',hp',G',rfl,⟨rfl,rfl⟩,hret⟩
 have gi:getH ([(i,some (Res.box cs))]++[]) i=some (.box cs):=by simp[getH]
 obtain⟨b,us,et,q1,q2,q3,q4,q5⟩:=hret.heap i _ gi;have hown:∀b,b∉zbE G []:=fun b hb=>by simp[zbE] at hb
 have hnew:w.heap.size<=b:=(hret.new i (by rw[gi];rfl) b (by rw[q1];simp)).resolve_left (hown b);have hlt:b<w'.heap.size:=by
  rcases Nat.lt_or_ge b w'.heap.size with h|h
  ·exact h
  ·rw[Array.getElem?_eq_none h] at q2;cases q2
 let G2:Gh:={ G' with F:=fun x=>bif Nat.beq x b then us.size else G'.F x }
 have hin:G2.F b=us.size:=by simp[G2]
 have hout:∀x,x≠b->G2.F x=G'.F x:=fun x hx=>by
  have:Nat.beq x b=false:=by
   cases h:Nat.beq x b with
   |true=>exact absurd (Nat.eq_of_beq_eq_true h) hx
   |false=>rfl
  simp[G2,this]
 have hle:∀x o,o<G'.F x->o<G2.F x:=fun x o ho=>by
  by_cases hx:x=b
  ·subst hx;rw[q4] at ho;omega
  ·rw[hout x hx];exact ho
 refine⟨v,_,_,G2,rfl,⟨rfl,rfl⟩,ztw hret.res q1 q2 q3 q5 hin (fun y o ho=>⟨hle y o ho,rfl⟩) hc,fun id x hx=>(by cases hx),fun id id' h1=>(by cases h1),fun id h1=>(by cases h1), ?_,fun x hx=>?_,fun id hi=>(by simp[zbz,getH] at hi)⟩
 ·have hf:=hret.frm;exact⟨hf.os,hf.tape,hf.output,hf.size,fun x hx hn=>⟨(hf.block x hx hn).1,by rw[hout x (by omega)];exact(hf.block x hx hn).2⟩,fun x o ho=>⟨hle x o (hf.cell x o ho).1,(hf.cell x o ho).2⟩⟩
 ·rw[hout x (by omega)];exact hret.top x hx
def pd (s:List Pat):List AV:=(s.map Pat.cc).flatten.map .d
theorem zeN (a b:List Pat):pd (a++b)=pd a++pd b:=by simp[pd]
theorem zmf (x:Pat):pd [x]=[.d (.i x.op),.d (.i x.ctor),.d (.i x.n),.d (.i x.m),.d (.i x.var),.d (zae x.kids)]:=rfl
theorem zhW (s:List Pat):(pd s).length=s.length*6:=by
 induction s with
 |nil=>rfl
 |cons x r ih=>rw[show x::r=[x]++r from rfl,zeN,xaa,ih,zmf];simp;omega
theorem zpf {s:List Pat}{i:Nat} (h:i<s.length):pd s=pd (s.take i)++(pd [nth s i]++pd (s.drop (i+1))):=by
 rw[<-zeN,<-zeN];congr 1
 rw[show [nth s i]++s.drop (i+1)=nth s i::s.drop (i+1) from rfl,<-za2 h,List.take_append_drop]
theorem zhV (s:List Pat):AV.idsL (pd s)=[]:=by
 unfold pd;induction (s.map Pat.cc).flatten with
 |nil=>rfl
 |cons x r ih=>rw[xae,AV.idsL,ih];rfl
theorem zrU {s:List Pat}{i:Nat} (h:i<s.length):cutC (pd s) (i*6) 6=some [.d (.i (nth s i).op),.d (.i (nth s i).ctor),.d (.i (nth s i).n),.d (.i (nth s i).m),.d (.i (nth s i).var),.d (zae (nth s i).kids)]:=by
 rw[zpf h,zjc (by rw[zhW,List.length_take];omega) (r:=pd [nth s i])]
 ·rfl
 ·rw[zmf];first|exact zts|(simp[cutC];done)
theorem zuS {s:List Pat}{i:Nat} (h:i<s.length){t:Pat}:putC (pd s) (i*6) [.d (.i t.op),.d (.i t.ctor),.d (.i t.n),.d (.i t.m),.d (.i t.var),.d (zae t.kids)]=some (pd (s.set i t)):=by
 rw[zpf h,znL (by rw[zhW,List.length_take];omega) (B':=pd [t]++pd (s.drop (i+1))) (by rw[zmf,zmf];simp[putC])];rw[List.set_eq_take_append_cons_drop,if_pos h,<-zeN,<-zeN];rfl
abbrev z6:List AV:=[.d (.i 0),.d (.i 0),.d (.i 0),.d (.i 0),.d (.i 0),.nils]
theorem ztE {s:List Pat}{i n:Nat} (hn:s.length=n) (h:i<=n):putC (pd s) (i*6) (zaF (n-i) z6)=some (pd (s.take i)++zaF (n-i) z6):=by
 subst hn;have e:pd s=pd (s.take i)++(pd (s.drop i)++[]):=by
  rw[List.append_nil,<-zeN,List.take_append_drop]
 have e2:putC (pd (s.take i)++(pd (s.drop i)++[])) (i*6) (zaF (s.length-i) z6)=some (pd (s.take i)++(zaF (s.length-i) z6++[])):=by
  rw[zio (by rw[zhW,List.length_take];omega) ?_];rw[zhW,List.length_drop,zei];rfl
 rw[<-e,List.append_nil] at e2;exact e2
theorem zsy {s:List Pat}{tl:List AV}:zb5 s.length 6 ((pd s++tl).take (s.length*6))=some (s.map Pat.cc):=by
 rw[List.take_append_of_le_length (by rw[zhW];exact Nat.le_refl _),List.take_of_length_le (by rw[zhW];exact Nat.le_refl _)];have:=zdA (f:=Pat.cc) (k:=6) (l:=s) (fun _ _=>rfl);rw[<-this];congr 1
 unfold pd;induction s with
 |nil=>rfl
 |cons x r ih=>
  simp only[xae,List.flatten_cons,xaf,List.flatMap_cons];exact congrArg (_++·) (ih (zdA (fun _ _=>rfl)))
theorem Pat.cs_ccs (l:List Pat):Pat.cs l=l.map Pat.cc:=by
 rw[Pat.cs_eq];exact List.map_congr_left (fun v _=>Pat.c_eq v)
theorem Ex.cs_ccs (l:List Ex):Ex.cs l=l.map Ex.cc:=by
 rw[Ex.cs_eq];exact List.map_congr_left (fun v _=>Ex.c_eq v)
theorem zek {xs:List Pat}{f:Nat}{caps:List AV}{hp:Hp}{p:Pat->Bool} (hs:xs.length<=1000000000000) (hcal:Callee Tryz.prog f)
  (hf:∀t∈xs,FnD Tryz.prog f ([.agg [.d (.i t.op),.d (.i t.ctor),.d (.i t.n),.d (.i t.m),.d (.i t.var),.d (zae t.kids)]]++caps) hp (.d (.bool (p t))) []) (k1:subH hp hp) (k2:zdw hp=true) (k3:zas hp [] (.d .nilp) []=true):
  FnD Tryz.prog 249 [.d (zae xs),.fn f caps] hp (.d (.i (idxF p xs 0))) []:=by
 rw[show zae xs=D.sl (xs.map Pat.cc) by show D.sl (Pat.cs xs)=_;rw[Pat.cs_ccs]];refine bd Tryz.f249 19 [] [] fun w0 F0 own kept hk=>?_;refine xam (ι:=List (Pat)×List (Pat)) hk (fun x=>[(8,.d (.i (x.1.length:Int)))]) [4,5,9,10,11,12,13,14,15,16,17,18] (fun x=>[]) (fun x=>x.1++x.2=xs/\idxF p x.2 x.1.length=idxF p xs 0) (fun x=>x.2.length) ([],xs) ⟨by simp,rfl⟩ ⟨⟨_,rfl,xaz ?_⟩,trivial⟩ trivial (fun x=>zgi hp) (fun x hg1=>?_);focus (first|rfl|(simp;done)|(simp_all;done)|omega)
 obtain⟨pre,rest⟩:=x;dsimp only at hg1 ⊢;refine evc [] [] ?_;refine sq ?_ ?_<;>intro h1 h1p h1s<;>(try simp only[Q] at h1p);rcases rest with _|⟨y,rest⟩
 ·exfalso;simp_all
 refine xaS sl34 .none rfl rfl rfl rfl (zaR hg1.1) rfl ?_;refine ev ?_;refine xaK (cr:=[]) hcal (hf y (by rw[<-hg1.1];simp)) rfl .none rfl rfl rfl (LeL.refl _) k1 k2 (zcN k3 _) rfl ?_;refine tv ?_;refine sq ?_ ?_<;>intro h2 h2p h2s<;>(try simp only[Q] at h2p);focus (refine rn [] (r1 rfl) (.eqd ?_) ⟨rfl,rfl⟩ (fun _ _ h=>h) (fun _ h=>h);all_goals (rw[<-hg1.2];simp[idxF,h1s,h1p,h2s,h2p]))
 refine ar ?_;refine xah ((pre++[y],rest)) ⟨⟨(by have hz:=hg1.1;rw[<-hz];simp),(by rw[<-hg1.2];simp[idxF,h2s])⟩,(by simp),Sub.x (by kernel_rfl) (by kernel_rfl) ⟨⟨_,rfl,xaz ?_⟩,trivial⟩ (by simp) (by simp[zdg]) trivial⟩;focus (first|rfl|(simp;done)|(simp_all;done)|omega)
 have hrest:rest=[]:=by
  rcases rest with _|⟨a,b⟩
  ·rfl
  ·exfalso;have hz:=congrArg List.length (hg1.1);simp only[xaa,xab,xac] at hz;omega
 subst hrest;focus (refine rn [] (r1 rfl) (.eqd ?_) ⟨rfl,rfl⟩ (fun _ _ h=>h) (fun _ h=>h);all_goals (rw[<-hg1.2];simp[idxF,h1s,h1p]))
theorem zf9 {xs:List Pat}{f:Nat}{caps:List AV}{hp:Hp}{p:Pat->Bool} (hs:xs.length<=1000000000000) (hcal:Callee Tryz.prog f)
  (hf:∀t∈xs,FnD Tryz.prog f ([.agg [.d (.i t.op),.d (.i t.ctor),.d (.i t.n),.d (.i t.m),.d (.i t.var),.d (zae t.kids)]]++caps) hp (.d (.bool (p t))) []) (k1:subH hp hp) (k2:zdw hp=true) (k3:zas hp [] (.d .nilp) []=true):
  FnD Tryz.prog 153 [.d (zae xs),.fn f caps] hp (.d (.bool (xs.any p))) []:=by
 refine bd Tryz.f153 9 [] [] fun w0 F0 own kept hk=>?_;refine Walk.call (cr:=[]) zlo (zek hs hcal hf k1 k2 k3) rfl .none rfl rfl (LeL.refl _) k1 k2 (zcN k3 _) rfl ?_;refine ev ?_;refine rn [] (r1 rfl) (.eqd ?_) ⟨rfl,rfl⟩ (fun _ _ h=>h) (fun _ h=>h);rotate_left;all_goals (exact congrArg D.bool (zeA p xs 0))
theorem zet {xs:List Pat}{f:Nat}{B2 B3:List AV}{p:Pat->Bool} (hs:xs.length<=1000000000000) (hcal:Callee Tryz.prog f) (hB2:AV.idsL B2=[]) (hB3:AV.idsL B3=[])
  (hf:∀t∈xs,FnD Tryz.prog f [.agg [.d (.i t.op),.d (.i t.ctor),.d (.i t.n),.d (.i t.m),.d (.i t.var),.d (zae t.kids)],.ref 3003 0,.ref 3004 0] [(3003,some (.box B2)),(3004,some (.box B3))] (.d (.bool (p t))) []):
  FnD Tryz.prog 249 [.ms 1 xs.length,.fn f [.ref 3003 0,.ref 3004 0]] [(1,some (.box (pd xs))),(3003,some (.box B2)),(3004,some (.box B3))] (.d (.i (idxF p xs 0))) []:=by
 refine bd Tryz.f249 19 [15] [] fun w0 F0 own kept hk=>?_;refine xam (ι:=Nat) hk (fun i=>[(8,.d (.i (i:Int)))]) [4,5,9,10,11,12,13,14,15,16,17,18] (fun i=>[]) (fun i=>i<=xs.length/\idxF p (xs.drop i) i=idxF p xs 0) (fun i=>xs.length-i) 0 ⟨by omega,rfl⟩ ⟨⟨_,rfl,xaz ?_⟩,trivial⟩ trivial (fun x=>rfl) (fun i hg1=>?_);focus (rfl)
 refine evc [15] [] ?_;refine sq ?_ ?_<;>intro h1 h1p h1s<;>(try simp only[Q] at h1p);refine xaV sl34 .none rfl rfl rfl rfl (by first|omega|(simp ;omega)) ?_;refine xaZ ty36 .none rfl rfl rfl ((zrU (by omega))) ?_;refine xaK (cr:=[]) hcal (hf (nth xs i) (zal (by omega))) rfl .none rfl rfl rfl (LeL.refl _) ⟨rfl,rfl,trivial⟩ rfl (by simp only[zas,List.all_cons,List.all_nil,zaC,zay,AV.idsL,AV.ids,hB2,hB3,xae,List.map_nil];rfl) rfl ?_;refine tv ?_;refine sq ?_ ?_<;>intro h2 h2p h2s<;>(try simp only[Q] at h2p);focus (refine rn [] (r1 rfl) (.eqd ?_) ⟨rfl,rfl⟩ (SubH.get ⟨rfl,⟨rfl,⟨rfl,trivial⟩⟩⟩) (fun _ h=>h);all_goals ((rw[<-hg1.2,za2 (by omega)];simp[idxF,h1s,h1p,h2s,h2p];done)))
 refine ar ?_;refine xah (i+1) ⟨⟨by omega,(by rw[<-hg1.2,za2 (l:=xs) (i:=i) (by omega)];simp_all[idxF])⟩,(by omega),sx ⟨⟨_,rfl,xaz ?_⟩,trivial⟩ trivial⟩;focus (rfl)
 focus (refine rn [] (r1 rfl) (.eqd ?_) ⟨rfl,rfl⟩ (SubH.get ⟨rfl,⟨rfl,⟨rfl,trivial⟩⟩⟩) (fun _ h=>h);all_goals ((rw[<-hg1.2,List.drop_eq_nil_of_le (by omega)];rfl)))
theorem zgY {xs:List Pat}{f:Nat}{B2 B3:List AV}{p:Pat->Bool} (hs:xs.length<=1000000000000) (hcal:Callee Tryz.prog f) (hB2:AV.idsL B2=[]) (hB3:AV.idsL B3=[])
  (hf:∀t∈xs,FnD Tryz.prog f [.agg [.d (.i t.op),.d (.i t.ctor),.d (.i t.n),.d (.i t.m),.d (.i t.var),.d (zae t.kids)],.ref 3003 0,.ref 3004 0] [(3003,some (.box B2)),(3004,some (.box B3))] (.d (.bool (p t))) []):
  ∃tl:List AV,AV.idsL tl=[]/\FnD Tryz.prog 241 [.ms 1 xs.length,.fn f [.ref 3003 0,.ref 3004 0]] [(1,some (.box (pd xs))),(3003,some (.box B2)),(3004,some (.box B3))]
   (.ms 1 (xs.filter fun t=> !p t).length) [(1,some (.box (pd (xs.filter fun t=> !p t)++tl)))]:=by
 have hok3:zas [(1,some (.box (pd xs))),(3003,some (.box B2)),(3004,some (.box B3))] [] (.d .nilp) []=true:=by
  simp only[zas,List.all_cons,List.all_nil,zaC,zay,AV.idsL,AV.ids,zhV,hB2,hB3,xae,List.map_nil];rfl
 rcases znx p xs 0 with ⟨hi,hall⟩|⟨k,hi,hk1,hk2⟩
 ·have hfil:(xs.filter fun t=> !p t)=xs:=List.filter_eq_self.2 (fun x hx=>by simp[hall x hx]);refine⟨[],rfl, ?_⟩;rw[hfil,List.append_nil];refine bd Tryz.f241 42 [] [] fun w0 F0 own kept hk=>?_;refine Walk.call (cr:=[]) zlo (zet hs hcal hB2 hB3 hf) rfl .none rfl rfl (.cons (xaA (by first|rfl|(simp;done))) (.cons (.refl _) .nil)) ⟨rfl,rfl,rfl,trivial⟩ rfl (zcN hok3 _) rfl ?_;refine ev ?_;refine sq ?_ ?_<;>intro h1 h1p h1s<;>(try simp only[Q] at h1p);refine rn [(1,some (.box (pd xs)))] (r1 rfl) (.refl _) ⟨rfl,rfl⟩ (SubO.get ⟨.inr ?_,⟨.inl rfl,⟨.inr rfl,⟨.inr rfl,trivial⟩⟩⟩⟩) (za6 rfl);rotate_left;exfalso;simp[hi] at h1;all_goals (((first|rfl|(simp;done));done))
 ·skip
  have hlen:(xs.filter fun t=> !p t).length<=xs.length:=List.length_filter_le _ _;refine⟨zaF (xs.length-(xs.filter fun t=> !p t).length) z6,zbW rfl, ?_⟩;refine bd Tryz.f241 42 [25] [] fun w0 F0 own kept hk=>?_;refine Walk.call (cr:=[]) zlo (zet hs hcal hB2 hB3 hf) rfl .none rfl rfl (.cons (xaA (by first|rfl|(simp;done))) (.cons (.refl _) .nil)) ⟨rfl,rfl,rfl,trivial⟩ rfl (zcN hok3 _) rfl ?_;refine evs [25] [] ?_;refine sq ?_ ?_<;>intro h1 h1p h1s<;>(try simp only[Q] at h1p);exfalso;simp[hi] at h1<;>omega;refine ar ?_;refine xam (ι:=List Pat×Nat×Nat) hk (fun x=>[(6,.d (.i (x.2.1:Int))),(5,.d (.i (x.2.2:Int)))]) [7,16,17,18,19,20,21,22,23,24,25,26,27,28,29,30,31,32,33,34,35] (fun x=>[(1,some (.box (pd x.1)))]) (fun x=>x.1.length=xs.length/\x.2.1<=xs.length/\x.2.2<=x.2.1/\x.1.take x.2.2=(xs.take x.2.1).filter (fun t=> !p t)/\x.1.drop x.2.1=xs.drop x.2.1) (fun x=>xs.length-x.2.1) (xs,k+1,k) ⟨rfl,by dsimp only;omega,by dsimp only;omega,hk2.symm,rfl⟩ ⟨⟨_,rfl,xaz ?_⟩,⟨⟨_,rfl,xaz ?_⟩,trivial⟩⟩ ⟨?_,trivial⟩ (fun x=>rfl) (fun x hg1=>?_);iterate 2 focus ((simp_all;done))
  focus (rfl)
  refine evc [25] [] ?_;refine sq ?_ ?_<;>intro h2 h2p h2s<;>(try simp only[Q] at h2p);refine xaV sl34 .none rfl rfl rfl rfl (by first|omega|(simp ;omega)) ?_;refine xaZ ty36 .none rfl rfl rfl (((zrU (s:=x.1) (by omega)).trans (by rw[zpO hg1.2.2.2.2 hg1.1 (by omega)]))) ?_;refine Walk.alloc (id:=3007) tz36 rfl .none rfl (by(simp only[zaj,occH,occE,Res.ids,xag,List.nil_append,AV.idsL,AV.ids,zab,zaa,zac,zan,xae,List.map_nil,upC,hB2,hB3,zhV];rfl)) (by(simp only[zaj,occH,occE,Res.ids,xag,List.nil_append,AV.idsL,AV.ids,zab,zaa,zac,zan,xae,List.map_nil,upC,hB2,hB3,zhV];rfl)) (by(simp only[zaj,occH,occE,Res.ids,xag,List.nil_append,AV.idsL,AV.ids,zab,zaa,zac,zan,xae,List.map_nil,upC,hB2,hB3,zhV];rfl)) ?_;refine so ty36 ?_;refine tv ?_;refine xaK (cr:=[]) hcal (hf (nth xs x.2.1) (zal (by omega))) rfl .none rfl rfl rfl (LeL.refl _) ⟨rfl,rfl,trivial⟩ rfl (by simp only[zas,List.all_cons,List.all_nil,zaC,zay,AV.idsL,AV.ids,hB2,hB3,xae,List.map_nil];rfl) rfl ?_;refine evs [25] [] ?_;refine sq ?_ ?_<;>intro h3 h3p h3s<;>(try simp only[Q] at h3p);refine xaV sl34 .none rfl rfl rfl rfl (by first|omega|(simp ;omega)) ?_;refine Walk.store ty36 .none rfl rfl rfl rfl rfl rfl (by simp) ((zuS (by omega))) ?_;refine tv ?_;refine ar ?_;refine ar ?_;refine xah ((if p (nth xs x.2.1) then x.1 else x.1.set x.2.2 (nth xs x.2.1),x.2.1+1,if p (nth xs x.2.1) then x.2.2 else x.2.2+1)) ⟨(by
      obtain⟨g1,g2,g3,g4,g5⟩:=hg1;have hlt:x.2.1<xs.length:=by omega
      have h7:=zgI (p:=fun t=> !p t) hlt;refine⟨by dsimp only;split<;>simp[g1],by dsimp only;omega,by dsimp only;split<;>omega, ?_, ?_⟩
      ·dsimp only;rw[h7,<-g4];cases hp:p (nth xs x.2.1) with
       |true=>simp
       |false=>simp only[Bool.false_eq_true,if_false,Bool.not_false,if_true];rw[ziQ (by omega)]
      ·dsimp only;split
       ·exact zg5 g5
       ·(rw[znZ g3];exact zg5 g5)),(by dsimp only;omega),sx ⟨⟨_,rfl,xaz ?_⟩,⟨⟨_,rfl,xaz ?_⟩,trivial⟩⟩ ⟨?_,trivial⟩⟩
  iterate 2 focus ((simp_all;done))
  focus ((show some (Res.box _)=some (Res.box _);dsimp only;split<;>first|rfl|(exfalso;simp_all;done)))
  refine ar ?_;refine xah ((if p (nth xs x.2.1) then x.1 else x.1.set x.2.2 (nth xs x.2.1),x.2.1+1,if p (nth xs x.2.1) then x.2.2 else x.2.2+1)) ⟨(by
      obtain⟨g1,g2,g3,g4,g5⟩:=hg1;have hlt:x.2.1<xs.length:=by omega
      have h7:=zgI (p:=fun t=> !p t) hlt;refine⟨by dsimp only;split<;>simp[g1],by dsimp only;omega,by dsimp only;split<;>omega, ?_, ?_⟩
      ·dsimp only;rw[h7,<-g4];cases hp:p (nth xs x.2.1) with
       |true=>simp
       |false=>simp only[Bool.false_eq_true,if_false,Bool.not_false,if_true];rw[ziQ (by omega)]
      ·dsimp only;split
       ·exact zg5 g5
       ·exact zg5 g5),(by dsimp only;omega),sx ⟨⟨_,rfl,xaz ?_⟩,⟨⟨_,rfl,xaz ?_⟩,trivial⟩⟩ ⟨?_,trivial⟩⟩
  iterate 2 focus ((simp_all;done))
  focus ((show some (Res.box _)=some (Res.box _);dsimp only;split<;>first|rfl|(exfalso;simp_all;done)))
  refine Walk.cutM_l sl34 .none rfl rfl rfl rfl (by omega) ?_;refine Walk.clearB sl34 tz36 rfl (by decide) rfl .none rfl rfl (ztE hg1.1 (by omega)) ?_;refine tv ?_;refine Walk.cutM_h sl34 .none rfl rfl rfl rfl (by omega) ?_;refine evs [25] [] ?_;refine rn [(1,some (.box (pd (xs.filter fun t=> !p t)++zaF (xs.length-(xs.filter fun t=> !p t).length) z6)))] (r1 rfl) (xaA ?_) ⟨rfl,rfl⟩ (SubO.get ⟨.inr ?_,⟨.inl rfl,⟨.inr rfl,⟨.inr rfl,trivial⟩⟩⟩⟩) (za6 rfl);rotate_left 2;all_goals (first|((first|rfl|(obtain⟨g1,g2,g3,g4,g5⟩:=hg1;have e:x.2.1=xs.length:=(by omega);rw[e,List.take_length] at g4;rw[<-g4,List.length_take];omega));done)|((obtain⟨g1,g2,g3,g4,g5⟩:=hg1;have e:x.2.1=xs.length:=(by omega);rw[e,List.take_length] at g4;have e2:(xs.filter fun t=> !p t).length=x.2.2:=(by rw[<-g4,List.length_take];omega);rw[e2,<-g4];rfl)))
theorem zgv {f:Nat}{caps:List AV}{hp:Hp} (hcal:Callee Tryz.prog f) (k1:subH hp hp) (k2:zdw hp=true) (k3:zas hp [] (.d .nilp) []=true):
  FnD Tryz.prog 241 [.d (.sl []),.fn f caps] hp (.d (.sl [])) []:=by
 have hz:=zek (xs:=[]) (p:=fun _=>false) (f:=f) (caps:=caps) (hp:=hp) (by simp) hcal (fun t ht=>by simp at ht) k1 k2 k3;refine bd Tryz.f241 42 [] [] fun w0 F0 own kept hk=>?_;refine Walk.call (cr:=[]) zlo (hz) rfl .none rfl rfl (LeL.refl _) k1 k2 (zcN k3 _) rfl ?_;refine ev ?_;refine sq ?_ ?_<;>intro h1 h1p h1s<;>(try simp only[Q] at h1p);focus (refine rn [] (r1 rfl) (.eqd ?_) ⟨rfl,rfl⟩ (fun _ _ h=>h) (fun _ h=>h);all_goals (rfl))
 exfalso;simp[idxF] at h1
theorem zjL {xs:List Pat} (hs:xs.length<=1000000000000) (hne:xs≠[]):FnD Tryz.prog 242 [.d (zae xs)] [] (.ms 1 xs.length) [(1,some (.box (pd xs)))]:=by
 have hcs:Pat.cs xs≠[]:=fun h=>hne ((Pat.cs_nil xs).1 h);refine Fn.body (fn:=Tryz.f242) (n:=8) rfl rfl rfl rfl rfl (fun w0 F0 own kept hk=>?_);refine xar 0 rfl (fun hx0=>?_) ?_;refine evc [4] [] ?_;refine xaR sl34 .none rfl rfl ?_;refine tv ?_;refine sqT ?_;exfalso;exact hcs hx0;refine evc [4] [] ?_;refine xaQ sl34 .none rfl rfl ?_;refine tv ?_;refine sqF ?_;refine xbh 1 sl34 .none rfl rfl ?_;refine evs [4] [] ?_;refine Walk.appendM hk rfl (by simp[hcs]) sl34 zz36 .none rfl rfl rfl rfl (zeu rfl (by rfl)) (by intro y hy;rw[xaB] at hy;obtain⟨z,_,rfl⟩:=List.mem_map.1 hy;rfl) (by simp[Pat.cs_len];omega) (by simp[Pat.cs_len];omega) ?_;refine evs [4] [] ?_;refine rn [(1,some (.box (pd xs)))] (r1 rfl) (xaA ?_) ⟨rfl,rfl⟩ (SubH.get ⟨?_,trivial⟩) (za6 rfl);rotate_left 2;all_goals (first|((first|rfl|(simp[Pat.cs_len];done));done)|(first|rfl|(show some (Res.box _)=some (Res.box _);unfold pd;rw[<-xaB];rfl)))
theorem zkP {w:List Data} (hs:Spa w){ta tk:Int} (ht:InS (w.length*4) ⟨ta,tk⟩){p:Pat} (hp:zao w 11 ⟨ta,tk⟩ p=true):
  FnD Tryz.prog 243 [.agg [.d (.i p.op),.d (.i p.ctor),.d (.i p.n),.d (.i p.m),.d (.i p.var),.d (zae p.kids)],.ref 3003 0,.ref 3004 0] [(3003,some (.box [.d (sPtr w (zaI w))])),(3004,some (.box [.d (.i ta),.d (.i tk)]))] (.d (.bool (za3 w (zaI w) 11 ⟨ta,tk⟩ p))) []:=by
 refine bd Tryz.f243 9 [] [] fun w0 F0 own kept hk=>?_;refine bx 3001 ?_;refine ev ?_;refine wc zh6 (zcy hs.dp 11 (zgr _ hp) ht (zgB hs 11 ht hp).1) rfl rfl ?_;refine ev ?_;focus (refine rn [] (r1 rfl) (.eqd ?_) ⟨rfl,rfl⟩ (SubH.get ⟨rfl,⟨rfl,trivial⟩⟩) (fun _ h=>h);all_goals (rfl))
theorem zhP {w:List Data} (hs:Spa w){ta tk:Int} (ht:InS (w.length*4) ⟨ta,tk⟩){l:List Pat} (hl:∀a∈l,zao w 11 ⟨ta,tk⟩ a=true) (hb:l.length<=1000000000000):
  FnD Tryz.prog 151 [.d (sPtr w (zaI w)),.agg [.d (.i ta),.d (.i tk)],.d (zae l)] [] (.d (zae (l.filter (zbx w ⟨ta,tk⟩)))) []:=by
 by_cases hne:l=[]
 ·subst hne;have hcl:FnD Tryz.prog 242 [.d (.sl [])] [] (.d (.sl [])) []:=(zfq (xs:=[]) (by simp)).glD;refine bd Tryz.f151 11 [] [] fun w0 F0 own kept hk=>?_;refine bx 3003 ?_;refine bx 3004 ?_;refine ev ?_;refine wc zoH (hcl) rfl rfl ?_;refine xaL (xs:=[_,_]) rfl .none rfl rfl ?_;refine Walk.call (cr:=[]) zri (zgv (hp:=[(3003,some (.box [.d (sPtr w (zaI w))])),(3004,some (.box [.d (.i ta),.d (.i tk)]))]) zrj ⟨rfl,rfl,trivial⟩ rfl rfl) rfl .none rfl rfl (LeL.refl _) ⟨rfl,rfl,trivial⟩ rfl rfl rfl ?_;refine ev ?_;focus (refine rq ?_;all_goals (rfl))
 ·obtain⟨tl,htl,hdel⟩:=zgY (xs:=l) (p:=fun a=>za3 w (zaI w) 11 ⟨ta,tk⟩ a) hb zrj (B2:=[.d (sPtr w (zaI w))]) (B3:=[.d (.i ta),.d (.i tk)]) rfl rfl (fun a ha=>zkP hs ht (hl a ha));have key:FnD Tryz.prog 151 [.d (sPtr w (zaI w)),.agg [.d (.i ta),.d (.i tk)],.d (zae l)] [] (.ms 1 (l.filter (zbx w ⟨ta,tk⟩)).length) [(1,some (.box (pd (l.filter (zbx w ⟨ta,tk⟩))++tl)))]:=by
   refine bd Tryz.f151 11 [] [] fun w0 F0 own kept hk=>?_;refine bx 3003 ?_;refine bx 3004 ?_;refine ev ?_;refine Walk.call (cr:=[1]) zoH (zjL hb hne) rfl .none rfl rfl (LeL.refl _) trivial rfl (by simp only[zas,List.all_cons,List.all_nil,zaC,zay,AV.idsL,AV.ids,zhV,zab,htl,xae,List.map_nil];rfl) rfl ?_;refine xaL (xs:=[_,_]) rfl .none rfl rfl ?_;refine Walk.call (cr:=[]) zri (hdel) rfl .none rfl rfl (.cons (xaA (by first|rfl|(simp;done))) (.cons (.refl _) .nil)) ⟨rfl,rfl,rfl,trivial⟩ rfl (by simp only[zas,List.all_cons,List.all_nil,zaC,zay,AV.idsL,AV.ids,zhV,zab,htl,xae,List.map_nil];rfl) rfl ?_;refine ev ?_;refine rn [(1,some (.box (pd (l.filter (zbx w ⟨ta,tk⟩))++tl)))] (r1 rfl) (xaA ?_) ⟨rfl,rfl⟩ (SubH.get ⟨?_,trivial⟩) (za6 rfl);rotate_left 2;all_goals (first|((rfl);done)|(rfl))
  have h2:=key.boxD (k:=6) zsy;rw[<-xaB] at h2;exact h2
theorem zdZ {α:Type}{N:Nat}{X Y:List α} (h:N<=X.length):(X++Y).take N=X.take N:=by
 rw[List.take_append,(by omega:N-X.length=0)];simp
theorem ztI {α β:Type} [Inhabited β]{X:List α}{l:List β}{h:β->α}{j m:Nat} (hj:j<l.length) (hl:((X++(l.take j).map h).take (m+1)).length<=m):
  (X++(l.take (j+1)).map h).take (m+1)=(X++(l.take j).map h).take (m+1)++[h (nth l j)]:=by
 have e1:l.take (j+1)=l.take j++[nth l j]:=by rw[List.take_succ_eq_append_getElem hj,za8 hj]
 rw[List.length_take] at hl;have h2:(X++(l.take j).map h).length<=m:=by omega
 rw[e1,xaf,<-List.append_assoc,List.take_of_length_le (by simp at h2 ⊢;omega),List.take_of_length_le (l:=X++(l.take j).map h) (by omega)];rfl
theorem ztH {α β:Type}{X:List α}{l:List β}{h:β->α}{j m:Nat} (hc:¬j<l.length\/¬((X++(l.take j).map h).take (m+1)).length<=m):
  (X++(l.take j).map h).take (m+1)=(X++l.map h).take (m+1):=by
 rcases hc with hc|hc
 ·rw[List.take_of_length_le (l:=l) (by omega)]
 ·rw[List.length_take] at hc;have e:l.map h=(l.take j).map h++(l.drop j).map h:=by rw[<-xaf,List.take_append_drop]
  rw[e,<-List.append_assoc,zdZ (X:=X++(l.take j).map h) (by omega)]
theorem zp4 {α β:Type} [Inhabited β]{l:List β}{g:β->List α}{j:Nat} (hj:j<l.length):(l.take (j+1)).flatMap g=(l.take j).flatMap g++g (nth l j):=by
 rw[List.take_succ_eq_append_getElem hj,List.flatMap_append,za8 hj];simp
theorem zmK {α β:Type}{l:List β}{g:β->List α}{j m:Nat} (hc:¬j<l.length\/¬(((l.take j).flatMap g).take (m+1)).length<=m):
  ((l.take j).flatMap g).take (m+1)=(l.flatMap g).take (m+1):=by
 rcases hc with hc|hc
 ·rw[List.take_of_length_le (l:=l) (by omega)]
 ·rw[List.length_take] at hc;have e:l.flatMap g=(l.take j).flatMap g++(l.drop j).flatMap g:=by rw[<-List.flatMap_append,List.take_append_drop]
  rw[e,zdZ (X:=(l.take j).flatMap g) (by omega)]
structure MatchOk (w:List Data) (n m:Nat) (t:Ty) (p:Pat) (v:Val):Prop where
 shape:zaw w n t p=true
 fits:zqA w m t v=true
 pok:p.ok
 vok:v.ok
 psz:p.size<=100
 vsz:v.size<=100
theorem MatchOk.two {w:List Data}{n m:Nat}{t:Ty}{p:Pat}{v:Val} (h:MatchOk w (n+1) m t p v) (h5:p.op=5):
  p.kids.length=2/\MatchOk w n m t (nth p.kids 0) v/\MatchOk w n m t (nth p.kids 1) v:=by
 obtain⟨hl,s0,s1⟩:=zjK h.shape h5;have hpk:=(Pat.ok_iff p).1 h.pok;have hps:=Pat.size_eq p;have z0:=zeO (l:=p.kids) (i:=0) (by omega);have z1:=zeO (l:=p.kids) (i:=1) (by omega);have hs:=h.psz;exact⟨hl,⟨s0,h.fits,Pats.ok_mem hpk.2 _ (zal (by omega)),h.vok,by omega,h.vsz⟩,⟨s1,h.fits,Pats.ok_mem hpk.2 _ (zal (by omega)),h.vok,by omega,h.vsz⟩⟩
theorem MatchOk.one {w:List Data}{n m:Nat}{t:Ty}{p:Pat}{v:Val} (h:MatchOk w (n+1) m t p v) (h6:p.op=6):
  p.kids.length=1/\MatchOk w n m t (nth p.kids 0) v:=by
 obtain⟨hl,s0⟩:=zjJ h.shape h6;have hpk:=(Pat.ok_iff p).1 h.pok;have hps:=Pat.size_eq p;have z0:=zeO (l:=p.kids) (i:=0) (by omega);have hs:=h.psz;exact⟨hl,⟨s0,h.fits,Pats.ok_mem hpk.2 _ (zal (by omega)),h.vok,by omega,h.vsz⟩⟩
structure VarsOk (l:List Bd) (vs:List Vt):Prop where
 len:l.length=vs.length
 nod:(l.map Bd.var).Nodup
 sub:∀x∈l.map Bd.var,x∈vs.map Vt.var
theorem zmJ {α β:Type}{g:α->List β}{K:Nat}:∀(l:List α),(∀x∈l,(g x).length<=K)->(l.flatMap g).length<=l.length*K
 | [],_=>by simp
 |x::r,h=>by
  have h1:=h x (by simp);have h2:=zmJ r (fun y hy=>h y (by simp[hy]));rw[List.flatMap_cons,xaa,xab,Nat.add_mul];omega
theorem zf0 {w:List Data}{t:Ty}{l away:List Pat}{i:Nat} (h:i<away.length):subL w t l (away.drop i)=if (zb3 w t l (nth away i)).length<=400 then subL w t (zb3 w t l (nth away i)) (away.drop (i+1)) else none:=by
 rw[za2 h,subL]
theorem zpv {w:List Data}{t:Ty}{l away:List Pat}{i:Nat} (h:away.length<=i):subL w t l (away.drop i)=some l:=by
 rw[List.drop_eq_nil_of_le h,subL]
theorem zc1 (p:Pat):(zaB p).length<=40:=by unfold zaB;split;assumption;simp
theorem zkC {w:List Data}{t:Ty}{p:Pat} (h:zaw w 10 t p=true):∀x∈zaB p,zao w 10 t x=true:=fun x hx=>by
 unfold zaB at hx;split at hx
 ·exact zgS 10 h x hx
 ·simp at hx
theorem zgb {w:List Data}{t:Ty}:∀(away l r:List Pat),(∀a∈l,zao w 11 t a=true)->l.length<=400->(∀b∈away,zao w 10 t b=true)->subL w t l away=some r->r.length<=400/\∀x∈r,zao w 11 t x=true
 | [],l,r,hl,hn,_,h=>by rw[subL] at h;cases h;exact⟨hn,hl⟩
 |b::away,l,r,hl,hn,hb,h=>by
  rw[subL] at h;split at h
  ·rename_i h4;exact zgb away _ r (zgp hl (hb b (by simp))) h4 (fun x hx=>hb x (by simp[hx])) h
  ·cases h
theorem zlK {w:List Data} (hs:Spa w){ta tk:Int} (ht:InS (w.length*4) ⟨ta,tk⟩){l away:List Pat} (hl:∀a∈l,zao w 11 ⟨ta,tk⟩ a=true) (hb:∀b∈away,zao w 10 ⟨ta,tk⟩ b=true) (hll:l.length<=400) (hal:away.length<=2000):
  FnD Tryz.prog 75 [.d (sPtr w (zaI w)),.agg [.d (.i ta),.d (.i tk)],.d (zae l),.d (zae away)] [] (.tup [.d (zae ((zaN w ⟨ta,tk⟩ l away).getD [])),.d (.bool (zaN w ⟨ta,tk⟩ l away).isSome)]) []:=by
 have hlf:(l.filter (zbx w ⟨ta,tk⟩)).length<=l.length:=List.length_filter_le _ _;have hmb:∀(c:List Pat) (i:Nat),(∀a∈c,zao w 11 ⟨ta,tk⟩ a=true)->i<away.length->∀x∈c,(zau w 10 ⟨ta,tk⟩ x (nth away i)).length<=20000000:=fun c i hc hi x hx=>zfx hs (by omega) (by omega) ht (hc x hx) (hb _ (zal hi));have hnp:∀(c:List Pat) (i:Nat),(∀a∈c,zao w 11 ⟨ta,tk⟩ a=true)->i<away.length->∀x∈(c.flatMap fun a=>zau w 10 ⟨ta,tk⟩ a (nth away i)),zao w 11 ⟨ta,tk⟩ x=true:=fun c i hc hi x hx=>by
  obtain⟨a,ha,hx⟩:=List.mem_flatMap.1 hx;exact zgo 10 11 (by omega) (hc a ha) (hb _ (zal hi)) x hx
 have hpre:∀ {pre rest c:List Pat}{y:Pat} (i:Nat),(∀a∈c,zao w 11 ⟨ta,tk⟩ a=true)->c.length<=400->i<away.length->pre++y::rest=c->(pre.flatMap fun a=>zau w 10 ⟨ta,tk⟩ a (nth away i)).length<=8000000000/\(zau w 10 ⟨ta,tk⟩ y (nth away i)).length<=20000000:=fun {pre rest c y} i hc h4 hi h=>by
  have h1:=zmJ (g:=fun a=>zau w 10 ⟨ta,tk⟩ a (nth away i)) (K:=20000000) pre (fun x hx=>hmb c i hc hi x (by rw[<-h];simp[hx]));have h2:=hmb c i hc hi y (by rw[<-h];simp);have h3:=congrArg List.length h;simp only[xaa,xab] at h3;exact⟨by omega,h2⟩
 refine bd Tryz.f75 48 [12] [11] fun w0 F0 own kept hk=>?_;refine bx 3005 ?_;refine evs [12] [] ?_;refine wc zq7 (zhP hs ht hl (by omega)) rfl rfl ?_;refine evs [12] [] ?_;refine xam (ι:=Nat×List Pat) hk (fun s=>[(21,.d (.i (s.1:Int))),(2,.d (zae s.2))]) [8,9,11,12,14,22,23,24,25,26,27,28,29,30,31,32,33,34,35,36,37,38,39,40,41,42,43,44,45,46] (fun s=>[]) (fun s=>s.1<=away.length/\subL w ⟨ta,tk⟩ s.2 (away.drop s.1)=zaN w ⟨ta,tk⟩ l away/\(∀a∈s.2,zao w 11 ⟨ta,tk⟩ a=true)/\s.2.length<=400) (fun s=>away.length-s.1) (0,l.filter (zbx w ⟨ta,tk⟩)) ⟨by simp,rfl,fun a ha=>hl a (List.mem_filter.1 ha).1,by dsimp only;omega⟩ ⟨⟨_,rfl,xaz ?_⟩,⟨⟨_,rfl, ?_⟩,trivial⟩⟩ trivial (fun x=>rfl) (fun s hg1=>?_);focus (rfl)
 focus (exact LeA.refl _)
 refine evc [12] [11] ?_;refine sq ?_ ?_<;>intro h1 h1p h1s<;>(try simp only[Q,Pat.cs_len] at h1p);refine xaS sl34 .none rfl rfl rfl rfl (zaH (by omega)) rfl ?_;refine evs [12] [] ?_;refine ab 3011 tz36 ?_;refine so ty36 ?_;refine tv ?_;refine xaG 9 6 .none rfl rfl ?_;refine tv ?_;refine xam (ι:=List (Pat)×List (Pat)) hk (fun x=>[(27,.d (.i (x.1.length:Int))),(12,.gl 9 (Pat.cs (x.1.flatMap fun a=>zau w 10 ⟨ta,tk⟩ a (nth away s.1))))]) [14,28,29,30,31,32,33,34,35,36,37,38] (fun x=>[(9,some (.tok ((Pat.cs (x.1.flatMap fun a=>zau w 10 ⟨ta,tk⟩ a (nth away s.1)))).length 6))]) (fun x=>x.1++x.2=s.2) (fun x=>x.2.length) ([],s.2) (by simp) ⟨⟨_,rfl,xaz ?_⟩,⟨⟨_,rfl,LeA.glg ?_⟩,trivial⟩⟩ ⟨zad ?_,trivial⟩ (fun x=>rfl) (fun x hg2=>?_);iterate 3 focus (rfl)
 obtain⟨pre,rest⟩:=x;dsimp only at hg2 ⊢;refine evc [12] [11] ?_;refine sq ?_ ?_<;>intro h2 h2p h2s<;>(try simp only[Q,Pat.cs_len] at h2p);rcases rest with _|⟨y,rest⟩
 ·exfalso;simp_all
 refine xaS sl34 .none rfl rfl rfl rfl (Pat.cs_at' hg2) rfl ?_;refine evs [12] [] ?_;refine ab 3014 tz36 ?_;refine so ty36 ?_;refine tv ?_;refine wc zoB (ziI hs 10 11 (by omega) (by omega) (by omega) ht (hg1.2.2.1 y (by rw[<-hg2];simp)) (hb _ (zal (by omega)))) rfl rfl ?_;refine ap sl34 zz36 rfl rfl rfl (by exact zbm _) (by have h9:=hpre s.1 hg1.2.2.1 hg1.2.2.2 (by omega) hg2;simp only[Pat.cs_len];omega) ?_;refine asg ?_;refine tv ?_;refine ar ?_;refine xah ((pre++[y],rest)) ⟨(by have hz:=hg2;rw[<-hz];simp),(by simp),sx ⟨⟨_,rfl,xaz ?_⟩,⟨⟨_,rfl,LeA.glg ?_⟩,trivial⟩⟩ ⟨zad ?_,trivial⟩⟩;iterate 3 focus (first|(rw[List.flatMap_append,xaB,xaB,xaB,xaf];simp;done)|(simp[Pat.cs_len];done))
 have hrest:rest=[]:=by
  rcases rest with _|⟨a,b⟩
  ·rfl
  ·exfalso;have hz:=congrArg List.length (hg2);simp only[xaa,xab,xac] at hz;omega
 subst hrest;obtain rfl:pre=s.2:=(by simpa using hg2);refine evc [12] [] ?_;refine Walk.call (cr:=[]) zq7 (zhP hs ht (l:=s.2.flatMap fun a=>zau w 10 ⟨ta,tk⟩ a (nth away s.1)) (hnp s.2 s.1 hg1.2.2.1 (by omega)) (by have:=zmJ (g:=fun a=>zau w 10 ⟨ta,tk⟩ a (nth away s.1)) (K:=20000000) s.2 (hmb s.2 s.1 hg1.2.2.1 (by omega));omega)) rfl .none rfl rfl (.cons (.refl _) (.cons (.refl _) (.cons (.gl _ _) .nil))) trivial rfl rfl rfl ?_;refine evs [12] [] ?_;refine sq ?_ ?_<;>intro h3 h3p h3s<;>(try simp only[Q,Pat.cs_len] at h3p);refine rn0 (r2 rfl rfl) (.tup (.cons (.nild ?_) (.cons (.eqd ?_) .nil)));rotate_left 2;refine ar ?_;refine xah ((s.1+1,zb3 w ⟨ta,tk⟩ s.2 (nth away s.1))) ⟨(by
    have h4:(zb3 w ⟨ta,tk⟩ s.2 (nth away s.1)).length<=400:=by unfold zb3;omega
    refine⟨by dsimp only;omega, ?_,zgp hg1.2.2.1 (hb _ (zal (by omega))),h4⟩;have e:=zf0 (w:=w) (t:=⟨ta,tk⟩) (l:=s.2) (away:=away) (i:=s.1) (by omega);rw[if_pos h4] at e;dsimp only;rw[<-e];exact hg1.2.1),(by dsimp only;omega),sx ⟨⟨_,rfl,xaz ?_⟩,⟨⟨_,rfl, ?_⟩,trivial⟩⟩ trivial⟩
 focus (rfl)
 focus (exact LeA.refl _)
 refine rn0 (r2 rfl rfl) (.tup (.cons (.eqd ?_) (.cons (.eqd ?_) .nil)));rotate_left 2;all_goals (first|(rw[<-hg1.2.1,zf0 (by omega),if_neg (by unfold zb3;omega)];rfl)|(rw[<-hg1.2.1,zpv (by omega)];rfl))
theorem zkR {w:List Data} (hs:Spa w){f:Nat->Nat}{ta tk:Int} (ht:InS (w.length*4) ⟨ta,tk⟩){p:Pat} (hp:p.ok):
  FnD Tryz.prog 154 [.agg [.d (.i p.op),.d (.i p.ctor),.d (.i p.n),.d (.i p.m),.d (.i p.var),.d (zae p.kids)],.ref 3004 0,.ref 3005 0] [(3004,some (.box [.d (sPtr w f)])),(3005,some (.box [.d (.i ta),.d (.i tk)]))] (.d (.bool (!isP w ⟨ta,tk⟩ p))) []:=by
 refine bd Tryz.f154 13 [] [] fun w0 F0 own kept hk=>?_;refine bx 3001 ?_;refine ev ?_;refine wc zlh (zem hs.dp.wt (zcz ht) hp) rfl rfl ?_;refine evd [] [] ?_;refine dr ?_;refine rn [] (r1 rfl) (.eqd ?_) ⟨rfl,rfl⟩ (SubH.get ⟨rfl,⟨rfl,trivial⟩⟩) (fun _ h=>h);rotate_left;all_goals (rfl)
theorem zhQ {w:List Data} (hs:Spa w){f:Nat->Nat}{ta tk:Int} (ht:InS (w.length*4) ⟨ta,tk⟩){l:List Pat}{ok:Bool} (hl:∀a∈l,a.ok) (hb:l.length<=1000000000000):
  FnD Tryz.prog 76 [.d (sPtr w f),.agg [.d (.i ta),.d (.i tk)],.d (zae l),.d (.bool ok)] [] (.tup [.d (zae (if (ok&&l.all (isP w ⟨ta,tk⟩))=true then l else [])),.d (.bool (ok&&l.all (isP w ⟨ta,tk⟩)))]) []:=by
 have hall:(l.any fun p=> !isP w ⟨ta,tk⟩ p) = !(l.all (isP w ⟨ta,tk⟩)):=by
  induction l with
  |nil=>rfl
  |cons x r ih=>rw[List.any_cons,List.all_cons,ih (fun a ha=>hl a (by simp[ha])) (by simp at hb;omega),Bool.not_and]
 have hcf:=zf9 (xs:=l) (p:=fun p=> !isP w ⟨ta,tk⟩ p) (caps:=[.ref 3004 0,.ref 3005 0]) (hp:=[(3004,some (.box [.d (sPtr w f)])),(3005,some (.box [.d (.i ta),.d (.i tk)]))]) hb ztS (fun q hq=>zkR hs ht (hl q hq)) ⟨rfl,rfl,trivial⟩ rfl rfl;rw[hall] at hcf;clear hall;generalize l.all (isP w ⟨ta,tk⟩)=q at hcf ⊢;refine bd Tryz.f76 19 [] [] fun w0 F0 own kept hk=>?_;refine bx 3004 ?_;refine bx 3005 ?_;refine ev ?_;refine sq ?_ ?_<;>intro h1 h1p h1s<;>(try simp only[Q] at h1p);refine sqT ?_;refine rn0 (r2 rfl rfl) (.tup (.cons (.nild ?_) (.cons (.eqd ?_) .nil)));rotate_left 2;refine xaL (xs:=[_,_]) rfl (.some rfl rfl h1) rfl rfl ?_;refine Walk.call (cr:=[]) ztR (hcf) rfl (.some rfl rfl h1) rfl rfl (LeL.refl _) ⟨rfl,rfl,trivial⟩ rfl rfl rfl ?_;refine evs [] [(12,false)] ?_ ⟨⟨_,rfl,h1⟩,trivial⟩;refine sq ?_ ?_<;>intro h3 h3p h3s<;>(try simp only[Q] at h3p);refine rn0 (r2 rfl rfl) (.tup (.cons (.nild ?_) (.cons (.eqd ?_) .nil)));rotate_left 2;refine wc ztT (ziU hb hl) rfl rfl ?_;refine ev ?_;refine rn0 (r2 rfl rfl) (.tup (.cons (.eqd ?_) (.cons (.eqd ?_) .nil)));rotate_left 2;all_goals ((cases ok<;>cases q<;>first|rfl|(exfalso;simp_all;done)))
mutual
def hitP:Pat->Val->Bool
 | .mk op c n m _ ks,v=>if op=3 then zaz v.num n m else if op=4 then decide (c=v.ctor)&&hitL ks v.kids else true
def hitL:List Pat->List Val->Bool
 |p::r,v::s=>hitP p v&&hitL r s
 |_,_=>true
end
def one (b:Bool):Nat:=if b=true then 1 else 0
section
variable {w:List Data} (hs:Spa w)
include hs
end
theorem Vals.size_of {m:Nat}:∀ {l:List Val},(∀k∈l,k.size<=m)->Vals.size l<=l.length*m
 | [],_=>by simp[Vals.size]
 |x::r,h=>by
  have h1:=h x (by simp);have h2:=Vals.size_of (l:=r) (fun y hy=>h y (by simp[hy]));simp only[Vals.size,xab,Nat.succ_mul];omega
structure Grid (w:List Data) (t:Ty) (S:Pat->Prop) (V:List Val):Prop where
 meet:∀n a b z,S a->S b->zat n a b=some z->S z
 minus:∀n a b x,S a->S b->x∈zau w n t a b->S x
 hit:∀n p,S p->zao w n t p=true->za3 w (zaI w) n t p=false->∃v∈V,hitP p v=true
 fits:∃m,∀v∈V,zqA w m t v=true
section
variable {w:List Data} (hs:Spa w){t:Ty} (ht:InS (w.length*4) t)
include hs ht
end
def sepQ (w:List Data) (t:Ty):List Pat->List Pat->List Pat->Option (List Pat)
 |_,[],out=>some out
 |front,p::r,out=>match zaN w t [p] front with
  |none=>none
  |some m=>sepQ w t (front++[p]) r (out++m)
section
variable {w:List Data} (hs:Spa w){t:Ty} (ht:InS (w.length*4) t)
include hs ht
end
abbrev zg6 (o:List Pat):List D:=[.sl (Pat.cs o)]
abbrev zh8 (ls:List (List Pat)):D:= .sl (ls.map zg6)
theorem zqS {N:Nat} (acc:List (List Pat)) (l:List Pat):(zbd (acc.take N) l).take N=(zbd acc l).take N:=by
 by_cases h:acc.length<=N
 ·rw[List.take_of_length_le h]
 have e0:∀a:List (List Pat),zbd a []=[]:=fun a=>by unfold zbd;simp
 cases l with
 |nil=>rw[e0,e0]
 |cons c r=>
  have e:zbd acc (c::r)=zbd (acc.take N) (c::r)++zbd (acc.drop N) (c::r):=by
   unfold zbd;rw[<-List.flatMap_append,List.take_append_drop]
  rw[e,zdZ];rw[zfZ,List.length_take,Nat.min_eq_left (by omega),xab];exact Nat.le_mul_of_pos_right _ (by omega)
theorem zqT {N:Nat} (acc:List (List Pat)) (l:List Pat):(zbd acc (l.take N)).take N=(zbd acc l).take N:=by
 by_cases h:l.length<=N
 ·rw[List.take_of_length_le h]
 cases acc with
 |nil=>rfl
 |cons q r=>
  have e:∀l:List Pat,zbd (q::r) l=l.map (fun c=>q++[c])++zbd r l:=fun l=>by unfold zbd;rw[List.flatMap_cons]
  rw[e,e,zdZ (by rw[xac,List.length_take];omega),zdZ (by rw[xac];omega),List.map_take,List.take_take,Nat.min_self]
def tupQ (m:Nat) (ls:List (List Pat)):List (List Pat):=ls.foldl (fun acc l=>(zbd acc l).take (m+1)) [[]]
theorem zjV (m:Nat) (ls:List (List Pat)) (l:List Pat):tupQ m (ls++[l])=(zbd (tupQ m ls) l).take (m+1):=by
 unfold tupQ;rw[List.foldl_append];rfl
theorem zpA (m:Nat):∀(ls:List (List Pat)) (acc:List (List Pat)),(ls.map (List.take (m+1))).foldl (fun acc l=>(zbd acc l).take (m+1)) (acc.take (m+1))=(ls.foldl zbd acc).take (m+1)
 | [],acc=>rfl
 |l::r,acc=>by
  rw[xae,List.foldl_cons,List.foldl_cons,zqT,zqS];exact zpA m r (zbd acc l)
theorem ztJ (m:Nat) (ls:List (List Pat)):tupQ m (ls.map (List.take (m+1)))=(zey ls).take (m+1):=by
 have h:=zpA m ls [[]];have e:([[]]:List (List Pat)).take (m+1)=[[]]:=by simp
 rw[e] at h;exact h
theorem zpy (m:Nat) (ls:List (List Pat)):(tupQ m ls).length<=m+1:=by
 have key:∀(ls acc:List (List Pat)),acc.length<=m+1->(ls.foldl (fun acc l=>(zbd acc l).take (m+1)) acc).length<=m+1:=by
  intro ls;induction ls with
  |nil=>intro acc h;exact h
  |cons l r ih=>intro acc h;exact ih _ (by rw[List.length_take];omega)
 exact key ls [[]] (by simp)
theorem zpz (m:Nat){ls:List (List Pat)}{o:List Pat} (h:o∈tupQ m ls):o.length=ls.length:=by
 have key:∀(ls acc:List (List Pat)) (n:Nat),(∀o∈acc,o.length=n)->∀o∈ls.foldl (fun acc l=>(zbd acc l).take (m+1)) acc,o.length=n+ls.length:=by
  intro ls;induction ls with
  |nil=>intro acc n h o ho;exact h o ho
  |cons l r ih=>
   intro acc n h o ho;have:=ih _ (n+1) (fun o' ho'=>by
    have ho':=List.mem_of_mem_take ho';unfold zbd at ho';simp only[List.mem_flatMap,List.mem_map] at ho';obtain⟨p,hp,q,_,rfl⟩:=ho';simp[h p hp]) o ho
   simp only[xab];omega
 have:=key ls [[]] 0 (by simp) o h;simpa using this
def zkf (l:List Pat) (o:List Pat):List (List Pat):=l.map fun y=>o++[y]
theorem znc (acc:List (List Pat)) (l:List Pat):zbd acc l=acc.flatMap (zkf l):=rfl
theorem zpw {X:List (List Pat)}{l:List Pat}{o:List Pat}{j m:Nat} (hc:¬j<l.length\/¬((X++(l.take j).map fun y=>o++[y]).take (m+1)).length<=m):
  (X++(l.take j).map fun y=>o++[y]).take (m+1)=(X++zkf l o).take (m+1):=ztH hc
theorem zsK {α:Type}{N:Nat} (a b:List α):(a.take N++b.take N).take N=(a++b).take N:=by
 by_cases h:a.length<=N
 ·rw[List.take_of_length_le h,List.take_append,List.take_append,List.take_take,Nat.min_eq_left (by omega)]
 ·rw[zdZ (by rw[List.length_take];omega),zdZ (by omega),List.take_take,Nat.min_self]
def zaX (p:Pat):List Pat:=(zaG p).take 401
theorem zsE {p:Pat} (h:p.op=5) (hk:p.kids.length=2):zaX p=(zaX (nth p.kids 0)++zaX (nth p.kids 1)).take 401:=by
 unfold zaX;rw[zgU h hk,zsK]
theorem zsF {p:Pat} (h:p.op≠5):zaX p=(tupQ 400 (p.kids.map zaX)).map fun l=> .mk p.op p.ctor p.n p.m p.var l:=by
 unfold zaX;rw[zeH h,<-List.map_take];congr 1
 have:=ztJ 400 (p.kids.map zaG);rw[List.map_map] at this;exact this.symm
theorem ziy (p:Pat):(zaX p).length<=401:=by unfold zaX;rw[List.length_take];omega
theorem zcS:∀(n:Nat){p:Pat},p.size<=n->p.ok->FnD Tryz.prog 64 [.agg [.d (.i p.op),.d (.i p.ctor),.d (.i p.n),.d (.i p.m),.d (.i p.var),.d (zae p.kids)]] [] (.agg [.d (.i (zaK p).op),.d (.i (zaK p).ctor),.d (.i (zaK p).n),.d (.i (zaK p).m),.d (.i (zaK p).var),.d (zae (zaK p).kids)]) []
 |0,p,h,_=>by rw[Pat.size_eq] at h;omega
 |n+1,p,h,hok=>by
  rw[Pat.size_eq] at h;rw[Pat.ok_iff] at hok;have hok1:=hok.1;by_cases h2:p.op=2
  ·rw[zpU h2];refine bd Tryz.f64 42 [] [] fun w0 F0 own kept hk=>?_;refine bx 3001 ?_;refine ab 3002 tz36 ?_;refine tv ?_;refine sq ?_ ?_<;>intro h1 h1p h1s<;>(try simp only[Q] at h1p);refine bu [0] [_] st36 ?_;refine so ty36 ?_;refine tv ?_;refine rn0 (.cons (.cellA ty36 rfl rfl rfl) .nil) (.agg (.cons (.eqd ?_) (.cons (.eqd ?_) (.cons (.eqd ?_) (.cons (.eqd ?_) (.cons (.eqd ?_) (.cons (.nild ?_) .nil)))))));rotate_left 6;exfalso;omega;all_goals (rfl)
  by_cases h6:p.op=6/\0<p.kids.length
  ·rw[zpV h6.1 h6.2];refine bd Tryz.f64 42 [] [] fun w0 F0 own kept hk=>?_;refine bx 3001 ?_;refine ab 3002 tz36 ?_;refine tv ?_;refine sq ?_ ?_<;>intro h1 h1p h1s<;>(try simp only[Q,Pat.cs_len] at h1p);exfalso;omega;refine sq ?_ ?_<;>intro h2 h2p h2s<;>(try simp only[Q,Pat.cs_len] at h2p);refine sq ?_ ?_<;>intro h3 h3p h3s<;>(try simp only[Q,Pat.cs_len] at h3p);refine xaS (i:=0) sl34 .none rfl rfl rfl rfl (zaH h6.2) rfl ?_;refine ev ?_;refine wc zog (zcS n (p:=nth p.kids 0) (by have:=Pats.size_mem (zal h6.2);omega) (Pats.ok_mem hok.2 _ (zal h6.2))) rfl rfl ?_;refine so ty36 ?_;refine tv ?_;refine rn0 (.cons (.cellA ty36 rfl rfl rfl) .nil) (.agg (.cons (.eqd ?_) (.cons (.eqd ?_) (.cons (.eqd ?_) (.cons (.eqd ?_) (.cons (.eqd ?_) (.cons (.eqd ?_) .nil)))))));rotate_left 6;exfalso;omega;exfalso;omega;all_goals (rfl)
  ·rw[zpW h2 h6];refine bd Tryz.f64 42 [] [] fun w0 F0 own kept hk=>?_;refine bx 3001 ?_;refine ab 3002 tz36 ?_;refine tv ?_;refine sq ?_ ?_<;>intro h1 h1p h1s<;>(try simp only[Q,Pat.cs_len] at h1p);exfalso;omega;refine sq ?_ ?_<;>intro h2 h2p h2s<;>(try simp only[Q,Pat.cs_len] at h2p);refine sq ?_ ?_<;>intro h3 h3p h3s<;>(try simp only[Q,Pat.cs_len] at h3p);exfalso;apply h6;exact⟨by omega,by omega⟩;refine ab 3003 tz36 ?_;refine so ty36 ?_;refine tv ?_;refine so ty34 ?_;refine tv ?_;refine xat 3003 5 7 6 rfl rfl rfl rfl ?_;refine xam (ι:=List (Pat)×List (Pat)) hk (fun x=>[(4,.d (.i (x.1.length:Int)))]) [23,24,25,26,27,28,29,30,31,32,33,34,35,36,37,38,39,40] (fun x=>[(3003,some (.box [.d (.i p.op),.d (.i p.ctor),.d (.i p.n),.d (.i p.m),.d (.i p.var),.gl 7 ((x.1.map zaK).map Pat.cc)])),(7,some (.tok ((x.1.map zaK).map Pat.cc).length 6))]) (fun x=>x.1++x.2=p.kids) (fun x=>x.2.length) ([],p.kids) (by simp) ⟨⟨_,rfl,xaz ?_⟩,trivial⟩ ⟨?_,⟨zad ?_,trivial⟩⟩ (fun x=>rfl) (fun x hg1=>?_);focus ((simp;done))
   focus (first|rfl|(simp[getH];done))
   focus ((simp;done))
   obtain⟨pre,rest⟩:=x;dsimp only at hg1 ⊢;refine evc [] [] ?_;refine sq ?_ ?_<;>intro h4 h4p h4s<;>(try simp only[Q,Pat.cs_len] at h4p);rcases rest with _|⟨y,rest⟩
   ·exfalso;simp_all
   refine xaS sl34 .none rfl rfl rfl rfl (Pat.cs_at' hg1) rfl ?_;refine evd [] [] ?_;refine wc zog (zcS n (p:=y) (by have:=Pats.size_mem (l:=p.kids) (v:=y) (by rw[<-hg1];simp);omega) (Pats.ok_mem hok.2 y (by rw[<-hg1];simp))) rfl rfl ?_;refine si [0] [_] sl34 tz36 ?_;refine ap sl34 zz36 rfl rfl rfl (by intro x hx;first|(simp at hx;subst hx;rfl)|exact zgC _ x hx) (by have:=congrArg List.length hg1;simp at this;simp;omega) ?_;refine evd [] [] ?_;refine so ty34 ?_;refine dr ?_;refine ar ?_;refine xah ((pre++[y],rest)) ⟨(by have hz:=hg1;rw[<-hz];simp),(by simp),sx ⟨⟨_,rfl,xaz ?_⟩,trivial⟩ ⟨?_,⟨zad ?_,trivial⟩⟩⟩;focus ((simp;done))
   focus (first|rfl|(simp[getH];done))
   focus ((simp;done))
   have hrest:rest=[]:=by
    rcases rest with _|⟨a,b⟩
    ·rfl
    ·exfalso;have hz:=congrArg List.length (hg1);simp only[xaa,xab,xac] at hz;omega
   subst hrest;refine so ty36 ?_;refine tv ?_;refine rn0 (.cons (.cellA ty36 rfl rfl rfl) .nil) (.agg (.cons (.eqd ?_) (.cons (.eqd ?_) (.cons (.eqd ?_) (.cons (.eqd ?_) (.cons (.eqd ?_) (.cons (.gld ?_) .nil)))))));rotate_left 6;refine ab 3003 tz36 ?_;refine so ty36 ?_;refine tv ?_;refine so ty34 ?_;refine tv ?_;refine xat 3003 5 7 6 rfl rfl rfl rfl ?_;refine xam (ι:=List (Pat)×List (Pat)) hk (fun x=>[(4,.d (.i (x.1.length:Int)))]) [23,24,25,26,27,28,29,30,31,32,33,34,35,36,37,38,39,40] (fun x=>[(3003,some (.box [.d (.i p.op),.d (.i p.ctor),.d (.i p.n),.d (.i p.m),.d (.i p.var),.gl 7 ((x.1.map zaK).map Pat.cc)])),(7,some (.tok ((x.1.map zaK).map Pat.cc).length 6))]) (fun x=>x.1++x.2=p.kids) (fun x=>x.2.length) ([],p.kids) (by simp) ⟨⟨_,rfl,xaz ?_⟩,trivial⟩ ⟨?_,⟨zad ?_,trivial⟩⟩ (fun x=>rfl) (fun x hg1=>?_);focus ((simp;done))
   focus (first|rfl|(simp[getH];done))
   focus ((simp;done))
   obtain⟨pre,rest⟩:=x;dsimp only at hg1 ⊢;refine evc [] [] ?_;refine sq ?_ ?_<;>intro h5 h5p h5s<;>(try simp only[Q,Pat.cs_len] at h5p);rcases rest with _|⟨y,rest⟩
   ·exfalso;simp_all
   refine xaS sl34 .none rfl rfl rfl rfl (Pat.cs_at' hg1) rfl ?_;refine evd [] [] ?_;refine wc zog (zcS n (p:=y) (by have:=Pats.size_mem (l:=p.kids) (v:=y) (by rw[<-hg1];simp);omega) (Pats.ok_mem hok.2 y (by rw[<-hg1];simp))) rfl rfl ?_;refine si [0] [_] sl34 tz36 ?_;refine ap sl34 zz36 rfl rfl rfl (by intro x hx;first|(simp at hx;subst hx;rfl)|exact zgC _ x hx) (by have:=congrArg List.length hg1;simp at this;simp;omega) ?_;refine evd [] [] ?_;refine so ty34 ?_;refine dr ?_;refine ar ?_;refine xah ((pre++[y],rest)) ⟨(by have hz:=hg1;rw[<-hz];simp),(by simp),sx ⟨⟨_,rfl,xaz ?_⟩,trivial⟩ ⟨?_,⟨zad ?_,trivial⟩⟩⟩;focus ((simp;done))
   focus (first|rfl|(simp[getH];done))
   focus ((simp;done))
   have hrest:rest=[]:=by
    rcases rest with _|⟨a,b⟩
    ·rfl
    ·exfalso;have hz:=congrArg List.length (hg1);simp only[xaa,xab,xac] at hz;omega
   subst hrest;refine so ty36 ?_;refine tv ?_;refine rn0 (.cons (.cellA ty36 rfl rfl rfl) .nil) (.agg (.cons (.eqd ?_) (.cons (.eqd ?_) (.cons (.eqd ?_) (.cons (.eqd ?_) (.cons (.eqd ?_) (.cons (.gld ?_) .nil)))))));rotate_left 6;all_goals (first|rfl|(rw[List.append_nil] at hg1;rw[<-hg1,xaB];done)|(rw[List.append_nil] at hg1;subst hg1;rw[<-xaB];all_goals rfl))
theorem zk8 {ls:List (List Pat)} (hl:ls.length<=1000000000000) (hls:∀l∈ls,l.length<=1000000000000):FnD Tryz.prog 280 [.d (zh8 ls)] [] (.d (zh8 (tupQ 400 ls))) []:=by
 refine bd Tryz.f280 62 [] [] fun w0 F0 own kept hk=>?_;refine xbf sl34 .none rfl ?_;refine si [0] [_] zdJ tz34 ?_;refine ev ?_;refine xam (ι:=List (List Pat)×List (List Pat)) hk (fun x=>[(4,.d (.i (x.1.length:Int))),(3,.d (.sl ((tupQ 400 x.1).map zg6)))]) [5,6,7,10,11,12,13,14,15,16,17,18,19,20,21,22,23,24,25,26,27,28,29,30,31,32,33,34,35,36,37,38,39,40,41,42,43,44,45,46,47,48,49,50,51,52,53,54,55,56,57,58,59,60] (fun x=>[]) (fun x=>x.1++x.2=ls) (fun x=>x.2.length) ([],ls) (by simp) ⟨⟨_,rfl,xaz ?_⟩,⟨⟨_,rfl, ?_⟩,trivial⟩⟩ trivial (fun x=>rfl) (fun x hg1=>?_);focus (first|rfl|(simp;done))
 focus (first|exact LeA.refl _|((first|refine LeA.gld ?_|refine LeA.nild ?_);first|rfl|(simp;done)|(rw[zjV,znc,zmK (by omega)])))
 obtain⟨pre,rest⟩:=x;dsimp only at hg1 ⊢;refine evc [] [] ?_;refine sq ?_ ?_<;>intro h1 h1p h1s<;>(try simp only[Q,Pat.cs_len,Int.ofNat_lt,Int.ofNat_le] at h1p);rcases rest with _|⟨l,rest⟩
 ·exfalso;simp_all
 have hll:=hls l (by rw[<-hg1];simp);have htl:=zpy 400 pre;refine xbg 3 zdJ .none rfl rfl ?_;refine ev ?_;refine xam (ι:=Nat) hk (fun k=>[(6,.d (.i (k:Int))),(5,.gl 3 (((((tupQ 400 pre).take k).flatMap (zkf l)).take (400+1)).map zg6))]) [7,17,18,19,20,21,22,23,24,25,26,27,28,29,30,31,32,33,34,35,36,37,38,39,40,41,42,43,44,45,46,47,48,49,50,51,52,53,54,55,56,57,58,59] (fun k=>[(3,some (.tok ((((((tupQ 400 pre).take k).flatMap (zkf l)).take (400+1)).map zg6)).length 1))]) (fun k=>k<=(tupQ 400 pre).length) (fun k=>(tupQ 400 pre).length-k) 0 (by simp) ⟨⟨_,rfl,xaz ?_⟩,⟨⟨_,rfl,LeA.glg ?_⟩,trivial⟩⟩ ⟨zad ?_,trivial⟩ (fun x=>rfl) (fun k hg2=>?_);iterate 3 focus (first|rfl|(simp;done))
 refine evc [] [] ?_;refine sq ?_ ?_<;>intro h2 h2p h2s<;>(try simp only[Q,Pat.cs_len,Int.ofNat_lt,Int.ofNat_le] at h2p);refine sq ?_ ?_<;>intro h3 h3p h3s<;>(try simp only[Q,Pat.cs_len,Int.ofNat_lt,Int.ofNat_le] at h3p);refine xam (ι:=Nat) hk (fun j=>[(7,.d (.i (j:Int))),(5,.gl 3 (((((tupQ 400 pre).take k).flatMap (zkf l)++(l.take j).map (fun y=>nth (tupQ 400 pre) k++[y])).take (400+1)).map zg6))]) [28,29,30,31,32,33,34,35,36,37,38,39,40,41,42,43,44,45,46,47,48,49,50,51,52,53,54,55,56,57,58,59] (fun j=>[(3,some (.tok ((((((tupQ 400 pre).take k).flatMap (zkf l)++(l.take j).map (fun y=>nth (tupQ 400 pre) k++[y])).take (400+1)).map zg6)).length 1))]) (fun j=>j<=l.length) (fun j=>l.length-j) 0 (by simp) ⟨⟨_,rfl,xaz ?_⟩,⟨⟨_,rfl,LeA.glg ?_⟩,trivial⟩⟩ ⟨zad ?_,trivial⟩ (fun x=>rfl) (fun j hg3=>?_);iterate 3 focus (first|rfl|(simp;done))
 have hol:=zpz 400 (zal (l:=tupQ 400 pre) (i:=k) (by omega));refine evc [] [] ?_;refine xaS zdJ .none rfl rfl rfl rfl (by first|exact zaR hg1|exact zax (by omega)) rfl ?_;refine ev ?_;refine sq ?_ ?_<;>intro h4 h4p h4s<;>(try simp only[Q,Pat.cs_len,Int.ofNat_lt,Int.ofNat_le] at h4p);refine sq ?_ ?_<;>intro h5 h5p h5s<;>(try simp only[Q,Pat.cs_len,Int.ofNat_lt,Int.ofNat_le] at h5p);refine xbg 5 sl34 .none rfl rfl ?_;refine evd [] [] ?_;refine xaS zdJ .none rfl rfl rfl rfl (by first|exact zaR hg1|exact zax (by omega)) rfl ?_;refine evd [] [] ?_;refine ap sl34 zz36 rfl rfl rfl (by intro z hz;first|(rw[xaB] at hz;obtain⟨_,_,rfl⟩:=List.mem_map.1 hz;rfl)|(simp at hz;rw[hz];rfl)) (by first|(simp only[xac,xaa,xab,xai,Pat.cs_len] at *;omega)) ?_;refine evd [] [] ?_;refine xaS zdJ .none rfl rfl rfl rfl (by first|exact zaR hg1|exact zax (by omega)) rfl ?_;refine evd [] [] ?_;refine xaS sl34 .none rfl rfl rfl rfl (zaH (by omega)) rfl ?_;refine evd [] [] ?_;refine si [0] [_] sl34 tz36 ?_;refine ap sl34 zz36 rfl rfl rfl (by intro z hz;first|(rw[xaB] at hz;obtain⟨_,_,rfl⟩:=List.mem_map.1 hz;rfl)|(simp at hz;rw[hz];rfl)) (by first|(simp only[xac,xaa,xab,xai,Pat.cs_len] at *;omega)) ?_;refine si [0] [_] zdJ tz34 ?_;refine ap zdJ zz34 rfl rfl rfl (by intro z hz;first|(rw[xaB] at hz;obtain⟨_,_,rfl⟩:=List.mem_map.1 hz;rfl)|(simp at hz;rw[hz];rfl)) (by first|(simp only[xac,xaa,xab,xai,Pat.cs_len] at *;omega)) ?_;refine evd [] [] ?_;refine dr ?_;refine ar ?_;refine xah (j+1) ⟨?_, ?_,sx ⟨⟨_,rfl,xaz ?_⟩,⟨⟨_,rfl,LeA.glg ?_⟩,trivial⟩⟩ ⟨zad ?_,trivial⟩⟩;iterate 2 focus (first|omega|(simp_all;done))
 iterate 3 focus (first|rfl|(simp;done)|(rw[ztI (by omega) (by omega),xaf];simp[xaB];done))
 refine ar ?_;refine xah (k+1) ⟨?_, ?_,sx ⟨⟨_,rfl,xaz ?_⟩,⟨⟨_,rfl,LeA.glg ?_⟩,trivial⟩⟩ ⟨zad ?_,trivial⟩⟩;iterate 2 focus (first|omega|(simp_all;done))
 iterate 3 focus (first|rfl|(simp;done)|(rw[zp4 (by omega),zpw (by omega)]))
 refine sqF ?_;refine ar ?_;refine xah (k+1) ⟨?_, ?_,sx ⟨⟨_,rfl,xaz ?_⟩,⟨⟨_,rfl,LeA.glg ?_⟩,trivial⟩⟩ ⟨zad ?_,trivial⟩⟩;iterate 2 focus (first|omega|(simp_all;done))
 iterate 3 focus (first|rfl|(simp;done)|(rw[zp4 (by omega),zpw (by omega)]))
 refine ar ?_;refine xah ((pre++[l],rest)) ⟨(by have hz:=hg1;rw[<-hz];simp),(by simp),sx ⟨⟨_,rfl,xaz ?_⟩,⟨⟨_,rfl, ?_⟩,trivial⟩⟩ trivial⟩;focus (first|rfl|(simp;done))
 focus (first|exact LeA.refl _|((first|refine LeA.gld ?_|refine LeA.nild ?_);first|rfl|(simp;done)|(rw[zjV,znc,zmK (by omega)])))
 refine sqF ?_;refine ar ?_;refine xah ((pre++[l],rest)) ⟨(by have hz:=hg1;rw[<-hz];simp),(by simp),sx ⟨⟨_,rfl,xaz ?_⟩,⟨⟨_,rfl, ?_⟩,trivial⟩⟩ trivial⟩;focus (first|rfl|(simp;done))
 focus (first|exact LeA.refl _|((first|refine LeA.gld ?_|refine LeA.nild ?_);first|rfl|(simp;done)|(rw[zjV,znc,zmK (by omega)])))
 have hrest:rest=[]:=by
  rcases rest with _|⟨a,b⟩
  ·rfl
  ·exfalso;have hz:=congrArg List.length (hg1);simp only[xaa,xab,xac] at hz;omega
 subst hrest;refine rq ?_;rotate_left;all_goals ((rw[List.append_nil] at hg1);subst hg1;rfl)
theorem zdK:∀(n:Nat){p:Pat},binP n p=true->p.ok->FnD Tryz.prog 197 [.agg [.d (.i p.op),.d (.i p.ctor),.d (.i p.n),.d (.i p.m),.d (.i p.var),.d (zae p.kids)]] [] (.gv 9 (Pat.cs (zaX p))) [(9,some (.tok (Pat.cs (zaX p)).length 6))]
 |0,p,h,_=>by simp[binP] at h
 |n+1,p,h,hok=>by
  have hok':=(Pat.ok_iff p).1 hok;have hok1:=hok'.1;by_cases h5:p.op=5
  ·have hl:=zjZ h h5;have e5:=zsE h5 hl;have l0:=ziy (nth p.kids 0);have l1:=ziy (nth p.kids 1);have c0:=zdK n (zd5 h (i:=0) (by omega)) (Pats.ok_mem hok'.2 _ (zal (by omega)));have c1:=FnD.gvD (zdK n (zd5 h (i:=1) (by omega)) (Pats.ok_mem hok'.2 _ (zal (by omega))));rw[e5];generalize zaX (nth p.kids 0)=A at *;generalize zaX (nth p.kids 1)=C at *;by_cases hlen:(A++C).length<=401
   ·rw[List.take_of_length_le hlen];rw[xaa] at hlen;refine bd Tryz.f197 67 [25] [] fun w0 F0 own kept hk=>?_;refine bx 3001 ?_;refine evs [25] [] ?_;refine sq ?_ ?_<;>intro h1 h1p h1s<;>(try simp only[Q,Pat.cs_len,xaa] at h1p);refine xaS (i:=0) sl34 .none rfl rfl rfl rfl (zaH (by omega)) rfl ?_;refine evd [25] [] ?_;refine Walk.call (cr:=[9]) zhH (c0) rfl .none rfl rfl (LeL.refl _) trivial rfl rfl rfl ?_;refine evd [25] [] ?_;refine xaS (i:=1) sl34 .none rfl rfl rfl rfl (zaH (by omega)) rfl ?_;refine evd [25] [] ?_;refine wc zhH (c1) rfl rfl ?_;refine xaF sl34 zz36 .none rfl rfl rfl rfl (zeu rfl (by(simp;done))) (by intro x hx;exact zbm _ x hx) (by simp[Pat.cs_len];omega) (by simp[Pat.cs_len];omega) ?_;refine evd [25] [] ?_;refine dr ?_;refine Walk.lenV sl34 .none rfl rfl ?_;refine evs [25] [] ?_;refine sq ?_ ?_<;>intro h2 h2p h2s<;>(try simp only[Q,Pat.cs_len,xaa] at h2p);exfalso;omega;refine rn [(9,some (.tok (Pat.cs (A++C)).length 6))] (r1 rfl) (.gvg ?_) ⟨rfl,rfl⟩ (SubH.get ⟨?_,trivial⟩) (za6 rfl);rotate_left 2;exfalso;omega;all_goals (first|((first|rfl|(simp[xaB];done));done)|(first|rfl|(simp[xaB];rfl)))
   ·have c8:=FnD.gvRen 8 c0;rw[xaa] at hlen;refine bd Tryz.f197 67 [25] [] fun w0 F0 own kept hk=>?_;refine bx 3001 ?_;refine evs [25] [] ?_;refine sq ?_ ?_<;>intro h1 h1p h1s<;>(try simp only[Q,Pat.cs_len,xaa] at h1p);refine xaS (i:=0) sl34 .none rfl rfl rfl rfl (zaH (by omega)) rfl ?_;refine evd [25] [] ?_;refine Walk.call (cr:=[8]) zhH (c8) rfl .none rfl rfl (LeL.refl _) trivial rfl rfl rfl ?_;refine evd [25] [] ?_;refine xaS (i:=1) sl34 .none rfl rfl rfl rfl (zaH (by omega)) rfl ?_;refine evd [25] [] ?_;refine wc zhH (c1) rfl rfl ?_;refine xaF sl34 zz36 .none rfl rfl rfl rfl (zeu rfl (by(simp;done))) (by intro x hx;exact zbm _ x hx) (by simp[Pat.cs_len];omega) (by simp[Pat.cs_len];omega) ?_;refine evd [25] [] ?_;refine dr ?_;refine Walk.lenV sl34 .none rfl rfl ?_;refine evs [25] [] ?_;refine sq ?_ ?_<;>intro h2 h2p h2s<;>(try simp only[Q,Pat.cs_len,xaa] at h2p);refine xaM 9 (b:=401) sl34 .none rfl rfl (zeu rfl (by(simp;done))) rfl rfl (by simp[Pat.cs_len];omega) (by simp[Pat.cs_len];omega) rfl ?_;refine evs [25] [] ?_;refine rn [(9,some (.tok (Pat.cs ((A++C).take 401)).length 6))] (r1 rfl) (.gvg ?_) ⟨rfl,rfl⟩ (SubH.get ⟨?_,trivial⟩) (za6 rfl);rotate_left 2;exfalso;omega;exfalso;omega;all_goals (first|((first|rfl|(simp[xaB];done));done)|(first|rfl|(show some (Res.tok _ _)=some (Res.tok _ _);simp[Pat.cs_len];omega)))
  ·have hts:=zpy 400 (p.kids.map zaX);have htm:=fun(i:Nat) (hi:i<(tupQ 400 (p.kids.map zaX)).length)=>zpz 400 (zal hi);have ht3:=zk8 (ls:=p.kids.map zaX) (by rw[xac];omega) (fun l hl=>by obtain⟨x,_,rfl⟩:=List.mem_map.1 hl;have:=ziy x;omega);have hcal:=fun(i:Nat) (hi:i<p.kids.length)=>FnD.gvD (zdK n (zd5 h hi) (Pats.ok_mem hok'.2 _ (zal hi)));have hpl:=fun(y:Pat) (pre rest:List Pat) (e:pre++y::rest=p.kids)=>(show pre.length<p.kids.length/\nth p.kids pre.length=y from⟨by have:=congrArg List.length e;simp at this;omega,zuR e⟩);have hcal2:=fun(y:Pat) (pre rest:List Pat) (e:pre++y::rest=p.kids)=>show FnD Tryz.prog 197 [.agg [.d (.i y.op),.d (.i y.ctor),.d (.i y.n),.d (.i y.m),.d (.i y.var),.d (zae y.kids)]] [] (.d (.sl (Pat.cs (zaX y)))) [] from by
    have hq:=hcal pre.length (hpl y pre rest e).1;rw[(hpl y pre rest e).2] at hq;exact hq
   have ht3':=fun(pre:List Pat) (e:pre++[]=p.kids)=>show FnD Tryz.prog 280 [.d (zh8 (pre.map zaX))] [] (.d (zh8 (tupQ 400 (p.kids.map zaX)))) [] from by
    rw[List.append_nil] at e;rw[e];exact ht3
   rw[zsF h5];refine bd Tryz.f197 67 [] [] fun w0 F0 own kept hk=>?_;refine bx 3001 ?_;refine ev ?_;refine sq ?_ ?_<;>intro h1 h1p h1s<;>(try simp only[Q,Pat.cs_len] at h1p);exfalso;omega;refine xbg 4 zdJ .none rfl rfl ?_;refine ev ?_;refine xam (ι:=List (Pat)×List (Pat)) hk (fun x=>[(5,.d (.i (x.1.length:Int))),(4,.gl 4 ((x.1.map zaX).map zg6))]) [31,32,33,34,35,36,37,38,39,40,41,42,43,44,45,46] (fun x=>[(4,some (.tok (((x.1.map zaX).map zg6)).length 1))]) (fun x=>x.1++x.2=p.kids) (fun x=>x.2.length) ([],p.kids) (by simp) ⟨⟨_,rfl,xaz ?_⟩,⟨⟨_,rfl,LeA.glg ?_⟩,trivial⟩⟩ ⟨zad ?_,trivial⟩ (fun x=>rfl) (fun x hg1=>?_);iterate 3 focus ((simp;done))
   obtain⟨pre,rest⟩:=x;dsimp only at hg1 ⊢;refine evc [] [] ?_;refine sq ?_ ?_<;>intro h2 h2p h2s<;>(try simp only[Q,Pat.cs_len] at h2p);rcases rest with _|⟨y,rest⟩
   ·exfalso;simp_all
   refine xaS sl34 .none rfl rfl rfl rfl (Pat.cs_at' hg1) rfl ?_;refine ev ?_;refine wc zhH (hcal2 y pre rest hg1) rfl rfl ?_;refine si [0] [_] zdJ tz34 ?_;refine ap zdJ zz34 rfl rfl rfl (by intro x hx;first|(simp at hx;subst hx;rfl)|exact zgC _ x hx) (by first|(have:=congrArg List.length hg1;simp at this;simp;omega)|(simp;omega)) ?_;refine ev ?_;refine ar ?_;refine xah ((pre++[y],rest)) ⟨(by have hz:=hg1;rw[<-hz];simp),(by simp),sx ⟨⟨_,rfl,xaz ?_⟩,⟨⟨_,rfl,LeA.glg ?_⟩,trivial⟩⟩ ⟨zad ?_,trivial⟩⟩;iterate 3 focus ((simp;done))
   have hrest:rest=[]:=by
    rcases rest with _|⟨a,b⟩
    ·rfl
    ·exfalso;have hz:=congrArg List.length (hg1);simp only[xaa,xab,xac] at hz;omega
   subst hrest;refine Walk.call (cr:=[]) zuj (ht3' pre hg1) rfl .none rfl rfl (.cons (.gl _ _) .nil) trivial rfl rfl rfl ?_;refine ev ?_;refine xbh 9 sl34 .none rfl rfl ?_;refine ev ?_;refine xam (ι:=Nat) hk (fun k=>[(8,.d (.i (k:Int))),(7,.gv 9 ((((tupQ 400 (p.kids.map zaX)).take k).map fun l=>Pat.mk p.op p.ctor p.n p.m p.var l).map Pat.cc))]) [9,50,51,52,53,54,55,56,57,58,59,60,61,62,63,64,65] (fun k=>[(9,some (.tok (((((tupQ 400 (p.kids.map zaX)).take k).map fun l=>Pat.mk p.op p.ctor p.n p.m p.var l).map Pat.cc)).length 6))]) (fun k=>k<=(tupQ 400 (p.kids.map zaX)).length) (fun k=>(tupQ 400 (p.kids.map zaX)).length-k) 0 (by omega) ⟨⟨_,rfl,xaz ?_⟩,⟨⟨_,rfl,LeA.gvg ?_⟩,trivial⟩⟩ ⟨zad ?_,trivial⟩ (fun x=>rfl) (fun k hg2=>?_);iterate 3 focus ((simp;done))
   refine evc [] [] ?_;refine sq ?_ ?_<;>intro h3 h3p h3s<;>(try simp only[Q,Pat.cs_len] at h3p);refine ab 3009 tz36 ?_;refine so ty36 ?_;refine tv ?_;refine xaS zdJ .none rfl rfl rfl rfl (zax (by omega)) rfl ?_;refine ev ?_;refine so ty34 ?_;refine tv ?_;refine si [0] [_] sl34 tz36 ?_;refine xaF sl34 zz36 .none rfl rfl rfl rfl (zeu rfl (by first|rfl|(simp;done))) (by intro x hx;first|(simp at hx;subst hx;rfl)|exact zgC _ x hx) (by first|(have:=congrArg List.length hg1;simp at this;simp;omega)|(simp;omega)) (by first|(have:=congrArg List.length hg1;simp at this;simp;omega)|(simp;omega)) ?_;refine ev ?_;refine ar ?_;refine xah (k+1) ⟨(by omega),(by omega),sx ⟨⟨_,rfl,xaz ?_⟩,⟨⟨_,rfl,LeA.gvg ?_⟩,trivial⟩⟩ ⟨zad ?_,trivial⟩⟩;iterate 3 focus (first|(simp;done)|(rw[List.take_succ_eq_append_getElem (by omega),<-za8 (by omega)];simp[zka,zhU,mk_n,mk_m,zjw,zec];done))
   refine rn [(9,some (.tok (Pat.cs ((tupQ 400 (p.kids.map zaX)).map fun l=>Pat.mk p.op p.ctor p.n p.m p.var l)).length 6))] (r1 rfl) (.gvg ?_) ⟨rfl,rfl⟩ (SubH.get ⟨?_,trivial⟩) (za6 rfl);rotate_left 2;all_goals (first|((first|rfl|(obtain rfl:k=(tupQ 400 (p.kids.map zaX)).length:=(by omega);rw[List.take_length,show Pat.cs ((tupQ 400 (p.kids.map zaX)).map fun l=>Pat.mk p.op p.ctor p.n p.m p.var l)=((tupQ 400 (p.kids.map zaX)).map fun l=>Pat.mk p.op p.ctor p.n p.m p.var l).map Pat.cc from xaB _];done));done)|(first|rfl|(obtain rfl:k=(tupQ 400 (p.kids.map zaX)).length:=(by omega);rw[List.take_length];simp[xaB];rfl)|(obtain rfl:k=(tupQ 400 (p.kids.map zaX)).length:=(by omega);rw[List.take_length,show Pat.cs ((tupQ 400 (p.kids.map zaX)).map fun l=>Pat.mk p.op p.ctor p.n p.m p.var l)=((tupQ 400 (p.kids.map zaX)).map fun l=>Pat.mk p.op p.ctor p.n p.m p.var l).map Pat.cc from xaB _];rfl)))
theorem zhr {w:List Data}{n:Nat}{t:Ty}{p:Pat} (h:zaw w n t p=true) (hok:p.ok):FnD Tryz.prog 128 [.agg [.d (.i p.op),.d (.i p.ctor),.d (.i p.n),.d (.i p.m),.d (.i p.var),.d (zae p.kids)]] [] (.d (zae (zaX (zaK p)))) []:=by
 have hbp:=zcS _ (Nat.le_refl _) hok;have hsp:=FnD.gvD (zdK n (zhn n h) (zjY p hok));generalize zaK p=b at *;refine bd Tryz.f128 6 [] [] fun w0 F0 own kept hk=>?_;refine bx 3001 ?_;refine ev ?_;refine wc zog (hbp) rfl rfl ?_;refine wc zhH (hsp) rfl rfl ?_;refine ev ?_;refine rq ?_;rotate_left;all_goals (rfl)
theorem zgT {a b:Pat} (hn:0<=b.n/\b.n<=9) (hm:0<=b.m/\b.m<=9):FnD Tryz.prog 302 [.agg [.d (.i (a).op),.d (.i (a).ctor),.d (.i (a).n),.d (.i (a).m),.d (.i (a).var),.d (zae (a).kids)],.agg [.d (.i (b).op),.d (.i (b).ctor),.d (.i (b).n),.d (.i (b).m),.d (.i (b).var),.d (zae (b).kids)]] [] (.d (zae (zb1 a.n (minQ a.m (b.n-1))++zb1 (maxQ a.n (b.m+1)) a.m))) []:=by
 refine bd Tryz.f302 58 [] [] fun w0 F0 own kept hk=>?_;refine bx 3002 ?_;refine bx 3003 ?_;refine ev ?_;refine xbg 9 sl34 .none rfl rfl ?_;refine ev ?_;refine bu [0,2,3] [_,_,_] st36 ?_;refine ab 3006 tz36 ?_;refine so ty36 ?_;refine tv ?_;refine ar ?_;refine sq ?_ ?_<;>intro h1 h1p h1s<;>(try simp only[Q] at h1p);refine ar ?_;refine so ty3 ?_;refine tv ?_;refine sq ?_ ?_<;>intro h2 h2p h2s<;>(try simp only[Q] at h2p);refine si [0] [_] sl34 tz36 ?_;refine ap sl34 zz36 rfl rfl rfl (by intro x hx;simp at hx;subst hx;rfl) (by simp) ?_;refine ev ?_;refine bu [0,2,3] [_,_,_] st36 ?_;refine ab 3007 tz36 ?_;refine so ty36 ?_;refine tv ?_;refine ar ?_;refine sq ?_ ?_<;>intro h3 h3p h3s<;>(try simp only[Q] at h3p);refine ar ?_;refine so ty3 ?_;refine tv ?_;refine sq ?_ ?_<;>intro h4 h4p h4s<;>(try simp only[Q] at h4p);refine si [0] [_] sl34 tz36 ?_;refine ap sl34 zz36 rfl rfl rfl (by intro x hx;simp at hx;subst hx;rfl) (by simp) ?_;refine ev ?_;refine rn0 (r1 rfl) (.gld ?_);rotate_left;refine rn0 (r1 rfl) (.gld ?_);rotate_left;refine sq ?_ ?_<;>intro h5 h5p h5s<;>(try simp only[Q] at h5p);refine si [0] [_] sl34 tz36 ?_;refine ap sl34 zz36 rfl rfl rfl (by intro x hx;simp at hx;subst hx;rfl) (by simp) ?_;refine ev ?_;refine rn0 (r1 rfl) (.gld ?_);rotate_left;refine rn0 (r1 rfl) (.gld ?_);rotate_left;refine bu [0,2,3] [_,_,_] st36 ?_;refine ab 3007 tz36 ?_;refine so ty36 ?_;refine tv ?_;refine ar ?_;refine sq ?_ ?_<;>intro h6 h6p h6s<;>(try simp only[Q] at h6p);refine ar ?_;refine so ty3 ?_;refine tv ?_;refine sq ?_ ?_<;>intro h7 h7p h7s<;>(try simp only[Q] at h7p);refine si [0] [_] sl34 tz36 ?_;refine ap sl34 zz36 rfl rfl rfl (by intro x hx;simp at hx;subst hx;rfl) (by simp) ?_;refine ev ?_;refine rn0 (r1 rfl) (.gld ?_);rotate_left;refine rn0 (r1 rfl) (.gld ?_);rotate_left;refine sq ?_ ?_<;>intro h8 h8p h8s<;>(try simp only[Q] at h8p);refine si [0] [_] sl34 tz36 ?_;refine ap sl34 zz36 rfl rfl rfl (by intro x hx;simp at hx;subst hx;rfl) (by simp) ?_;refine ev ?_;refine rn0 (r1 rfl) (.gld ?_);rotate_left;refine rn0 (r1 rfl) (.gld ?_);rotate_left;refine sq ?_ ?_<;>intro h9 h9p h9s<;>(try simp only[Q] at h9p);refine si [0] [_] sl34 tz36 ?_;refine ap sl34 zz36 rfl rfl rfl (by intro x hx;simp at hx;subst hx;rfl) (by simp) ?_;refine ev ?_;refine bu [0,2,3] [_,_,_] st36 ?_;refine ab 3007 tz36 ?_;refine so ty36 ?_;refine tv ?_;refine ar ?_;refine sq ?_ ?_<;>intro h10 h10p h10s<;>(try simp only[Q] at h10p);refine ar ?_;refine so ty3 ?_;refine tv ?_;refine sq ?_ ?_<;>intro h11 h11p h11s<;>(try simp only[Q] at h11p);refine si [0] [_] sl34 tz36 ?_;refine ap sl34 zz36 rfl rfl rfl (by intro x hx;simp at hx;subst hx;rfl) (by simp) ?_;refine ev ?_;refine rn0 (r1 rfl) (.gld ?_);rotate_left;refine rn0 (r1 rfl) (.gld ?_);rotate_left;refine sq ?_ ?_<;>intro h12 h12p h12s<;>(try simp only[Q] at h12p);refine si [0] [_] sl34 tz36 ?_;refine ap sl34 zz36 rfl rfl rfl (by intro x hx;simp at hx;subst hx;rfl) (by simp) ?_;refine ev ?_;refine rn0 (r1 rfl) (.gld ?_);rotate_left;refine rn0 (r1 rfl) (.gld ?_);rotate_left;refine bu [0,2,3] [_,_,_] st36 ?_;refine ab 3007 tz36 ?_;refine so ty36 ?_;refine tv ?_;refine ar ?_;refine sq ?_ ?_<;>intro h13 h13p h13s<;>(try simp only[Q] at h13p);refine ar ?_;refine so ty3 ?_;refine tv ?_;refine sq ?_ ?_<;>intro h14 h14p h14s<;>(try simp only[Q] at h14p);refine si [0] [_] sl34 tz36 ?_;refine ap sl34 zz36 rfl rfl rfl (by intro x hx;simp at hx;subst hx;rfl) (by simp) ?_;refine ev ?_;refine rn0 (r1 rfl) (.gld ?_);rotate_left;refine rn0 (r1 rfl) (.gld ?_);rotate_left;refine sq ?_ ?_<;>intro h15 h15p h15s<;>(try simp only[Q] at h15p);refine si [0] [_] sl34 tz36 ?_;refine ap sl34 zz36 rfl rfl rfl (by intro x hx;simp at hx;subst hx;rfl) (by simp) ?_;refine ev ?_;refine rn0 (r1 rfl) (.gld ?_);rotate_left;refine rn0 (r1 rfl) (.gld ?_);rotate_left;all_goals (unfold minQ maxQ zb1;(repeat' split)<;>first|rfl|(exfalso;omega))
theorem zoa {w:List Data} (hw:WT w){a k c:Int} (ht:TyIn w.length ⟨a,k⟩) (hc:c∈zaA w ⟨a,k⟩) (hl:(zak w ⟨a,k⟩ c).length<=3):FnD Tryz.prog 304 [.d (zam w),.agg [.d (.i a),.d (.i k)],.d (.i c)] []
  (.agg [.d (.i 4),.d (.i c),.d (.i 0),.d (.i 0),.d (.i 0),.d (zae (zb2 w ⟨a,k⟩ c).kids)]) []:=by
 refine bd Tryz.f304 29 [] [] fun w0 F0 own kept hk=>?_;refine bx 3004 ?_;refine ab 3006 tz36 ?_;refine tv ?_;refine bu [0,1] [_,_] st36 ?_;refine ab 3007 tz36 ?_;refine so ty36 ?_;refine tv ?_;refine wc zi7 (zdz hw ht hc) rfl rfl ?_;refine ev ?_;refine xat 3007 5 9 6 rfl rfl rfl rfl ?_;refine xam (ι:=List (Ty)×List (Ty)) hk (fun x=>[(9,.d (.i (x.1.length:Int)))]) [16,17,18,19,20,21,22,23,24,25,26,27] (fun x=>[(3007,some (.box [.d (.i 4),.d (.i c),.d (.i 0),.d (.i 0),.d (.i 0),.gl 9 ((x.1.map fun _=>anyQ).map Pat.cc)])),(9,some (.tok ((x.1.map fun _=>anyQ).map Pat.cc).length 6))]) (fun x=>x.1++x.2=zak w ⟨a,k⟩ c) (fun x=>x.2.length) ([],zak w ⟨a,k⟩ c) (by simp) ⟨⟨_,rfl,xaz ?_⟩,trivial⟩ ⟨?_,⟨zad ?_,trivial⟩⟩ (fun x=>rfl) (fun x hg1=>?_);focus (rfl)
 focus (rfl)
 focus (rfl)
 obtain⟨pre,rest⟩:=x;dsimp only at hg1 ⊢;refine evc [] [] ?_;refine sq ?_ ?_<;>intro h1 h1p h1s<;>(try simp only[Q] at h1p);rcases rest with _|⟨y,rest⟩
 ·exfalso;simp_all
 refine wc ztN (zn9) rfl rfl ?_;refine si [0] [_] sl34 tz36 ?_;refine ap sl34 zz36 rfl rfl rfl (by intro x hx;(simp at hx;subst hx;rfl)) (by have:=congrArg List.length hg1;simp at this;simp;omega) ?_;refine evd [] [] ?_;refine so ty34 ?_;refine dr ?_;refine ar ?_;refine xah ((pre++[y],rest)) ⟨(by have hz:=hg1;rw[<-hz];simp),(by simp),sx ⟨⟨_,rfl,xaz ?_⟩,trivial⟩ ⟨?_,⟨zad ?_,trivial⟩⟩⟩;focus ((simp;done))
 focus ((simp[getH];exact⟨rfl,rfl,rfl,rfl,rfl,rfl⟩))
 focus ((simp;done))
 have hrest:rest=[]:=by
  rcases rest with _|⟨a,b⟩
  ·rfl
  ·exfalso;have hz:=congrArg List.length (hg1);simp only[xaa,xab,xac] at hz;omega
 subst hrest;refine so ty36 ?_;refine tv ?_;refine rn0 (.cons (.cellA ty36 rfl rfl rfl) .nil) (.agg (.cons (.eqd ?_) (.cons (.eqd ?_) (.cons (.eqd ?_) (.cons (.eqd ?_) (.cons (.eqd ?_) (.cons (.gld ?_) .nil)))))));rotate_left 6;all_goals (first|rfl|(rw[List.append_nil] at hg1;subst hg1;rw[<-xaB];all_goals rfl))
def zdv (n:Nat) (a b:Pat):Pat:=if a.op=3/\b.op≠1 then intQ (maxQ a.n b.n) (minQ a.m b.m) else zcD n a b
theorem zmZ {n:Nat}{a b:Pat} (h:¬(a.op=3/\b.op≠1)):zdv n a b=zcD n a b:=if_neg h
theorem zeC {n:Nat}{a b:Pat} (h:(zat n a b).isSome=true):zdv n a b=zcD n a b:=by
 unfold zdv;split
 ·rename_i h3;cases n with
  |zero=>simp[zat] at h
  |succ n=>
   have e:=zl1 (n:=n) h3.1 h3.2;rw[e] at h;split at h
   ·rename_i hr;rw[if_pos hr] at e;exact(zcl e).symm
   ·cases h
 ·rfl
theorem zeh {w:List Data} (hs:Spa w):∀(n m:Nat){t:Ty}{a b:Pat},m<=n->InS (w.length*4) t->zao w m t a=true->zao w m t b=true->
  FnD Tryz.prog 276 [.agg [.d (.i (a).op),.d (.i (a).ctor),.d (.i (a).n),.d (.i (a).m),.d (.i (a).var),.d (zae (a).kids)],.agg [.d (.i (b).op),.d (.i (b).ctor),.d (.i (b).n),.d (.i (b).m),.d (.i (b).var),.d (zae (b).kids)]] [] (.tup [.agg [.d (.i (zdv n a b).op),.d (.i (zdv n a b).ctor),.d (.i (zdv n a b).n),.d (.i (zdv n a b).m),.d (.i (zdv n a b).var),.d (zae (zdv n a b).kids)],.d (.bool (zat n a b).isSome)]) []
 |n,0,t,a,b,_,_,ha,_=>by simp[zao] at ha
 |0,m+1,t,a,b,h,_,_,_=>by omega
 |n+1,m+1,t,a,b,hnm,ht,ha,hb=>by
  by_cases h1:a.op=1
  ·have e:=zlZ (n:=n) (b:=b) h1;rw[zmZ (fun h=>by omega),zcl e,e];refine bd Tryz.f276 89 [] [] fun w0 F0 own kept hk=>?_;refine bx 3002 ?_;refine bx 3003 ?_;refine ab 3004 tz36 ?_;refine ev ?_;refine sq ?_ ?_<;>intro h1 h1p h1s<;>(try simp only[Q] at h1p);refine so ty36 ?_;refine ev ?_;refine rn0 (.cons (.cellA ty36 rfl rfl rfl) (.cons (.tmp rfl) .nil)) (.tup (.cons (.agg (.cons (.eqd ?_) (.cons (.eqd ?_) (.cons (.eqd ?_) (.cons (.eqd ?_) (.cons (.eqd ?_) (.cons (.eqd ?_) .nil))))))) (.cons (.eqd ?_) .nil)));rotate_left 7;exfalso;omega;all_goals (rfl)
  by_cases h2:b.op=1
  ·have e:=zl0 (n:=n) h1 h2;rw[zmZ (fun h=>h.2 h2),zcl e,e];refine bd Tryz.f276 89 [] [] fun w0 F0 own kept hk=>?_;refine bx 3002 ?_;refine bx 3003 ?_;refine ab 3004 tz36 ?_;refine ev ?_;refine sq ?_ ?_<;>intro h1 h1p h1s<;>(try simp only[Q] at h1p);exfalso;omega;refine sq ?_ ?_<;>intro h2 h2p h2s<;>(try simp only[Q] at h2p);refine so ty36 ?_;refine ev ?_;refine rn0 (.cons (.cellA ty36 rfl rfl rfl) (.cons (.tmp rfl) .nil)) (.tup (.cons (.agg (.cons (.eqd ?_) (.cons (.eqd ?_) (.cons (.eqd ?_) (.cons (.eqd ?_) (.cons (.eqd ?_) (.cons (.eqd ?_) .nil))))))) (.cons (.eqd ?_) .nil)));rotate_left 7;exfalso;omega;all_goals (rfl)
  by_cases h3:a.op=3
  ·have e:=zl1 (n:=n) h3 h2;have ez:zdv (n+1) a b=intQ (maxQ a.n b.n) (minQ a.m b.m):=if_pos ⟨h3,h2⟩;have eb:(zat (n+1) a b).isSome=decide (maxQ a.n b.n<=minQ a.m b.m):=by
    rw[e];by_cases hr:maxQ a.n b.n<=minQ a.m b.m
    ·rw[if_pos hr,decide_eq_true hr];rfl
    ·rw[if_neg hr,decide_eq_false hr];rfl
   rw[ez,eb];refine bd Tryz.f276 89 [] [] fun w0 F0 own kept hk=>?_;refine bx 3002 ?_;refine bx 3003 ?_;refine ab 3004 tz36 ?_;refine ev ?_;refine sq ?_ ?_<;>intro h1 h1p h1s<;>(try simp only[Q] at h1p);exfalso;omega;refine sq ?_ ?_<;>intro h2 h2p h2s<;>(try simp only[Q] at h2p);exfalso;omega;refine sq ?_ ?_<;>intro h3 h3p h3s<;>(try simp only[Q] at h3p);refine sq ?_ ?_<;>intro h4 h4p h4s<;>(try simp only[Q] at h4p);refine sq ?_ ?_<;>intro h5 h5p h5s<;>(try simp only[Q] at h5p);refine bu [0,2,3] [_,_,_] st36 ?_;refine ev ?_;refine so ty36 ?_;refine ev ?_;refine rn0 (.cons (.cellA ty36 rfl rfl rfl) (.cons (.tmp rfl) .nil)) (.tup (.cons (.agg (.cons (.eqd ?_) (.cons (.eqd ?_) (.cons (.eqd ?_) (.cons (.eqd ?_) (.cons (.eqd ?_) (.cons (.nild ?_) .nil))))))) (.cons (.eqd ?_) .nil)));rotate_left 7;refine bu [0,2,3] [_,_,_] st36 ?_;refine ev ?_;refine so ty36 ?_;refine ev ?_;refine rn0 (.cons (.cellA ty36 rfl rfl rfl) (.cons (.tmp rfl) .nil)) (.tup (.cons (.agg (.cons (.eqd ?_) (.cons (.eqd ?_) (.cons (.eqd ?_) (.cons (.eqd ?_) (.cons (.eqd ?_) (.cons (.nild ?_) .nil))))))) (.cons (.eqd ?_) .nil)));rotate_left 7;refine sq ?_ ?_<;>intro h6 h6p h6s<;>(try simp only[Q] at h6p);refine bu [0,2,3] [_,_,_] st36 ?_;refine ev ?_;refine so ty36 ?_;refine ev ?_;refine rn0 (.cons (.cellA ty36 rfl rfl rfl) (.cons (.tmp rfl) .nil)) (.tup (.cons (.agg (.cons (.eqd ?_) (.cons (.eqd ?_) (.cons (.eqd ?_) (.cons (.eqd ?_) (.cons (.eqd ?_) (.cons (.nild ?_) .nil))))))) (.cons (.eqd ?_) .nil)));rotate_left 7;refine bu [0,2,3] [_,_,_] st36 ?_;refine ev ?_;refine so ty36 ?_;refine ev ?_;refine rn0 (.cons (.cellA ty36 rfl rfl rfl) (.cons (.tmp rfl) .nil)) (.tup (.cons (.agg (.cons (.eqd ?_) (.cons (.eqd ?_) (.cons (.eqd ?_) (.cons (.eqd ?_) (.cons (.eqd ?_) (.cons (.nild ?_) .nil))))))) (.cons (.eqd ?_) .nil)));rotate_left 7;exfalso;omega;all_goals (first|rfl|((try simp only[zka,zhU,mk_n,mk_m,zjw,zec]);simp only[minQ,maxQ];(repeat' split)<;>first|rfl|(exfalso;omega)))
  have oa:=zb0 ha;have h4:a.op=4:=by omega
  have h4b:b.op=4:=by have:=zdC ha hb h1 h2;omega
  have ez:zdv (n+1) a b=zcD (n+1) a b:=zmZ (fun h=>h3 h.1);by_cases hc:a.ctor=b.ctor
  ·obtain⟨c1,c2,c3,-⟩:=za5 ha h4;obtain⟨d1,d2,d3,-⟩:=za5 hb h4b;rw[<-hc] at d3;have h3l:=hs.args t a.ctor ht c1;have ka:=fun i (hi:i<a.kids.length)=>zbi ha hi;have kb:=fun i (hi:i<b.kids.length)=>zbi hb hi;rw[zbs h4] at ka;rw[zbs h4b,<-hc] at kb;have e:=zl2 (n:=n) h4 h2 hc;have hlen:a.kids.length=b.kids.length:=by omega
   have ih:=fun i (hi:i<a.kids.length)=>zeh hs n m (t:=nth (zak w t a.ctor) i) (a:=nth a.kids i) (b:=nth b.kids i) (by omega) (zcf hs.dp ht c1 _ (zal (by omega))) (ka i (by omega)) (kb i (by omega));have key:∀(i:Nat) (acc:List Pat),i<a.kids.length->(zat n (nth a.kids i) (nth b.kids i)).isSome=true->zcu (zat n) (a.kids.drop i) (b.kids.drop i) acc=zcu (zat n) (a.kids.drop (i+1)) (b.kids.drop (i+1)) (acc++[zdv n (nth a.kids i) (nth b.kids i)]):=fun i acc hi h=>by
    rw[zeC h];exact zlY hi (by omega) (zbZ h)
   rw[ez];refine bd Tryz.f276 89 [] [] fun w0 F0 own kept hk=>?_;refine bx 3002 ?_;refine bx 3003 ?_;refine ab 3004 tz36 ?_;refine ev ?_;refine sq ?_ ?_<;>intro h1 h1p h1s<;>(try simp only[Q,Pat.cs_len] at h1p);exfalso;omega;refine sq ?_ ?_<;>intro h2 h2p h2s<;>(try simp only[Q,Pat.cs_len] at h2p);exfalso;omega;refine sq ?_ ?_<;>intro h3 h3p h3s<;>(try simp only[Q,Pat.cs_len] at h3p);exfalso;omega;refine sq ?_ ?_<;>intro h4 h4p h4s<;>(try simp only[Q,Pat.cs_len] at h4p);exfalso;omega;refine bu [0,1] [_,_] st36 ?_;refine ab 3008 tz36 ?_;refine so ty36 ?_;refine tv ?_;refine xat 3008 5 9 6 rfl rfl rfl rfl ?_;refine xam (ι:=Nat×List Pat) hk (fun x=>[(9,.d (.i (x.1:Int)))]) [5,10,11,58,59,60,61,62,63,64,65,66,67,68,69,70,71,72,73,74,75,76,77,78,79,80,81,82,83,84,85,86,87] (fun x=>[(3008,some (.box [.d (.i 4),.d (.i a.ctor),.d (.i 0),.d (.i 0),.d (.i 0),.gl 9 (x.2.map Pat.cc)])),(9,some (.tok (x.2.map Pat.cc).length 6))]) (fun x=>x.1<=a.kids.length/\x.2.length=x.1/\zcu (zat n) (a.kids.drop x.1) (b.kids.drop x.1) x.2=zcu (zat n) a.kids b.kids []) (fun x=>a.kids.length-x.1) (0,[]) ⟨by simp,rfl,rfl⟩ ⟨⟨_,rfl,xaz ?_⟩,trivial⟩ ⟨?_,⟨zad ?_,trivial⟩⟩ (fun x=>rfl) (fun x hg1=>?_);focus (rfl)
   focus (first|rfl|(simp[getH];done))
   focus (rfl)
   refine evc [] [] ?_;refine sq ?_ ?_<;>intro h5 h5p h5s<;>(try simp only[Q,Pat.cs_len] at h5p);refine xaS sl34 .none rfl rfl rfl rfl (zaH (by omega)) rfl ?_;refine evd [] [] ?_;refine xaS sl34 .none rfl rfl rfl rfl (zaH (by omega)) rfl ?_;refine evd [] [] ?_;refine wc zi8 (ih x.1 (by omega)) rfl rfl ?_;refine evd [] [] ?_;refine ab 3010 tz36 ?_;refine so ty36 ?_;refine evd [] [] ?_;refine dr ?_;refine sq ?_ ?_<;>intro h6 h6p h6s<;>(try simp only[Q,Pat.cs_len] at h6p);refine bu [] [] st36 ?_;refine so ty36 ?_;refine ev ?_;refine rn0 (.cons (.cellA ty36 rfl rfl rfl) (.cons (.tmp rfl) .nil)) (.tup (.cons (.agg (.cons (.eqd ?_) (.cons (.eqd ?_) (.cons (.eqd ?_) (.cons (.eqd ?_) (.cons (.eqd ?_) (.cons (.nild ?_) .nil))))))) (.cons (.eqd ?_) .nil)));rotate_left 7;refine si [0] [_] sl34 tz36 ?_;refine ap sl34 zz36 rfl rfl rfl (by intro x hx;(simp at hx;subst hx;rfl)) (by simp;omega) ?_;refine ev ?_;refine so ty34 ?_;refine tv ?_;refine ar ?_;refine xah ((x.1+1,x.2++[zdv n (nth a.kids x.1) (nth b.kids x.1)])) ⟨⟨by dsimp only;omega,by dsimp only;rw[xaa,hg1.2.1];rfl,by dsimp only;rw[<-key x.1 x.2 (by omega) (by assumption)];exact hg1.2.2⟩,(by dsimp only;omega),sx ⟨⟨_,rfl,xaz ?_⟩,trivial⟩ ⟨?_,⟨zad ?_,trivial⟩⟩⟩;focus (rfl)
   focus (first|rfl|(simp[getH];done))
   focus ((simp;done))
   refine so ty36 ?_;refine ev ?_;refine rn0 (.cons (.cellA ty36 rfl rfl rfl) (.cons (.tmp rfl) .nil)) (.tup (.cons (.agg (.cons (.eqd ?_) (.cons (.eqd ?_) (.cons (.eqd ?_) (.cons (.eqd ?_) (.cons (.eqd ?_) (.cons (.gld ?_) .nil))))))) (.cons (.eqd ?_) .nil)));rotate_left 7;all_goals (first|(have e2:zat (n+1) a b=none:=(by rw[e,<-hg1.2.2,zlX (by omega) (by omega) (zcK (by assumption))];rfl);(first|rw[ze7 e2]|rw[e2]);all_goals rfl)|(have e2:zat (n+1) a b=some (zbO a.ctor x.2):=(by rw[e,<-hg1.2.2,zeK (by omega)];rfl);rw[zcl e2,xaB];all_goals rfl)|(have e2:zat (n+1) a b=some (zbO a.ctor x.2):=(by rw[e,<-hg1.2.2,zeK (by omega)];rfl);rw[zcl e2];all_goals rfl)|(have e2:zat (n+1) a b=some (zbO a.ctor x.2):=(by rw[e,<-hg1.2.2,zeK (by omega)];rfl);rw[e2];all_goals rfl))
  ·skip
   have e:=zj8 (n:=n) h4 h2 hc;rw[ez,ze7 e,e];refine bd Tryz.f276 89 [] [] fun w0 F0 own kept hk=>?_;refine bx 3002 ?_;refine bx 3003 ?_;refine ab 3004 tz36 ?_;refine ev ?_;refine sq ?_ ?_<;>intro h1 h1p h1s<;>(try simp only[Q] at h1p);exfalso;omega;refine sq ?_ ?_<;>intro h2 h2p h2s<;>(try simp only[Q] at h2p);exfalso;omega;refine sq ?_ ?_<;>intro h3 h3p h3s<;>(try simp only[Q] at h3p);exfalso;omega;refine sq ?_ ?_<;>intro h4 h4p h4s<;>(try simp only[Q] at h4p);refine bu [] [] st36 ?_;refine so ty36 ?_;refine ev ?_;refine rn0 (.cons (.cellA ty36 rfl rfl rfl) (.cons (.tmp rfl) .nil)) (.tup (.cons (.agg (.cons (.eqd ?_) (.cons (.eqd ?_) (.cons (.eqd ?_) (.cons (.eqd ?_) (.cons (.eqd ?_) (.cons (.nild ?_) .nil))))))) (.cons (.eqd ?_) .nil)));rotate_left 7;exfalso;omega;all_goals (rfl)
end Go.Proofs.YtlfipehhbdjnjaaGreat
