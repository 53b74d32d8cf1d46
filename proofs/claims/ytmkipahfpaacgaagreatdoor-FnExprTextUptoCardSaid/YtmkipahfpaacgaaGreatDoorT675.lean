/-
  THE LAW FnExprText: whatever the arguments of bulk at most 1048576 are, the call returns true, and the arguments read as before.
  Conditions: the bulk alone.
-/
import Derived.Test.YtmkipahfpaacgaaGreatDoorT674
namespace Go.Proofs.YtmkipahfpaacgaaGreatDoor
open Go
set_option linter.unusedSimpArgs false
set_option linter.unusedVariables false
set_option maxRecDepth 100000
set_option maxHeartbeats 40000000
section
variable {b:Str}{w:List Data}{funs:List Ft}{vars:List Vt}{n m p p1 p2 q j:Nat}{t:Ty}
theorem zc0 (h0:0<m) (h:zan b q 3<=0):varE b vars t m q=(none,q+1):=by
 obtain⟨m,rfl⟩:∃k,m=k+1:=⟨m-1,by omega⟩;unfold varE;rw[if_pos h]
theorem zdy (h0:0<m) (h:0<zan b q 3) (hf:zbX (nth vars (zan b (q+1) vars.length).toNat).ty t=true):varE b vars t m q=(some (nth vars (zan b (q+1) vars.length).toNat).var,q+2):=by
 obtain⟨m,rfl⟩:∃k,m=k+1:=⟨m-1,by omega⟩;unfold varE;rw[if_neg od,if_pos hf]
theorem zf8 (h0:0<m) (h:0<zan b q 3) (hf:zbX (nth vars (zan b (q+1) vars.length).toNat).ty t=false):varE b vars t m q=varE b vars t (m-1) (q+2):=by
 obtain⟨m,rfl⟩:∃k,m=k+1:=⟨m-1,by omega⟩;conv=>lhs;unfold varE
 rw[if_neg od,if_neg (by rw[hf];simp)];rfl
def zaA (b:Str) (f:Nat->Nat) (t:Ty) (funs:List Ft) (z:Nat×Nat):Nat×Nat:=(z.1+1,if zbX (nth funs z.1).res t=true/\0<dv f (nth funs z.1).arg then z.2+1 else z.2)
theorem zgM {f:Nat->Nat} (h:funs.length<=j):funE b f t (funs.drop j) j q=(none,q):=by rw[List.drop_eq_nil_of_le h];rfl
theorem zgN {f:Nat->Nat} (h:j<funs.length) (hf:zbX (nth funs j).res t=true) (hd:0<dv f (nth funs j).arg) (hp:zan b q 3=0):funE b f t (funs.drop j) j q=(some (j,(nth funs j).arg),q+1):=by
 rw[zaZ h];unfold funE;rw[if_pos ⟨hf,hd⟩,if_pos hp]
theorem zbV {f:Nat->Nat} (h:j<funs.length) (hp:zbX (nth funs j).res t=true->0<dv f (nth funs j).arg->zan b q 3≠0):funE b f t (funs.drop j) j q=funE b f t (funs.drop (zaA b f t funs (j,q)).1) (zaA b f t funs (j,q)).1 (zaA b f t funs (j,q)).2:=by
 conv=>lhs;rw[zaZ h];unfold funE
 unfold zaA;by_cases hc:zbX (nth funs j).res t=true/\0<dv f (nth funs j).arg
 ·rw[if_pos hc,if_neg (hp hc.1 hc.2)];dsimp only;rw[if_pos hc]
 ·rw[if_neg hc];dsimp only;rw[if_neg hc]
theorem zbJ {f:Nat->Nat}{z:Nat×Nat} (h:¬(zbX (nth funs z.1).res t=true/\0<dv f (nth funs z.1).arg)):zaA b f t funs z=(z.1+1,z.2):=by unfold zaA;rw[if_neg h]
theorem zbx {f:Nat->Nat}{z:Nat×Nat} (h:zbX (nth funs z.1).res t=true) (h2:0<dv f (nth funs z.1).arg):zaA b f t funs z=(z.1+1,z.2+1):=by unfold zaA;rw[if_pos ⟨h,h2⟩]
theorem zgx {g:Ty->Nat->Ex×Nat} (hi:t.data = -1) (hc:¬(n≠0/\zan b p 3=0)) (h:(if n=0 then p else p+1)=q):zep b w g n t p=(vE (zaS b w (zab w) 4 t 1 q).1,(zaS b w (zab w) 4 t 1 q).2):=by
 unfold zep;rw[if_pos hi,if_neg hc,h,zkp hi];rfl
theorem zpW {g:Ty->Nat->Ex×Nat} (hi:t.data = -1) (hn:n≠0) (hc:zan b p 3=0):zep b w g n t p=(.mk 4 0 0 [(g t (p+1)).1,(g t (g t (p+1)).2).1],(g t (g t (p+1)).2).2):=by
 unfold zep;rw[if_pos hi,if_pos ⟨hn,hc⟩]
theorem zj9 {g:Ty->Nat->Ex×Nat} (hi:¬t.data = -1) (hn:n=0):zep b w g n t p=(vE (zaS b w (zab w) 4 t 1 p).1,(zaS b w (zab w) 4 t 1 p).2):=by
 unfold zep;rw[if_neg hi,if_pos hn]
theorem zpX {g:Ty->Nat->Ex×Nat} (hi:¬t.data = -1) (hn:n≠0){x:Val×Nat} (hx:zaS b w (zab w) 4 t (n+1:Nat) p=x):zep b w g n t p=(.mk 3 0 x.1.ctor (dE g (zac w t x.1.ctor) x.2).1,(dE g (zac w t x.1.ctor) x.2).2):=by
 unfold zep;rw[if_neg hi,if_neg hn,hx]
end
theorem zob {b:Str}{w:List Data}{funs:List Ft}{vars:List Vt} (hb:b.length<=2000) (hs:Sce w funs vars){n:Nat}{a k d:Int}{p:Nat} (hd:d=((0+1:Nat):Int)) (hn:0<=3) (ht:Gty w ⟨a,k⟩) (hp:p+KE (0+1)<=100000) (hi:a = -1):
  FnD Tryz.prog 85 [.ref 900 0,.d (zae w),.d (zaF funs),.d (zaP vars),.agg [.d (.i a),.d (.i k)],.d (.i d)] [(900,some (rdB b p))]
   (.agg [.d (.i (zas b w funs vars (0+1) ⟨a,k⟩ p).1.op),.d (.i (zas b w funs vars (0+1) ⟨a,k⟩ p).1.n),.d (.i (zas b w funs vars (0+1) ⟨a,k⟩ p).1.ctor),.d (zaE (zas b w funs vars (0+1) ⟨a,k⟩ p).1.kids)]) [(900,some (rdB b (zas b w funs vars (0+1) ⟨a,k⟩ p).2))]:=by
 have hvl:=hs.vl;have hfl:=hs.fl;have htb:=zcG hs.dp;have h4:=hs.dp.four;have hpk:=fun(q:Nat) (hq:q<=200000) (h1:1<=vars.length)=>zaC (b:=b) (p:=q) (n:=((vars.map Vt.c).length:Int)) hb od (by first|omega|(rw[xac];omega));simp only[show ∀q,zan b q (((vars.map Vt.c).length:Nat):Int)=zan b q (vars.length:Int) from fun q=>by rw[xac]] at hpk;have e1:bdV 4=40:=by decide
 have e2:szV 4=121:=by decide
 have hld:=fun(q:Nat) (hq:q<=100010)=>zb6 hb hs.dp hs.few 4 (a:=a) (k:=k) (m:=1) (p:=q) (ht.deep hs.low od) od od od;have hof:=fun(q:Nat)=>zdS 121 (v:=(zaS b w (zab w) 4 ⟨a,k⟩ 1 q).1) (by have:=zct (b:=b) hs.dp hs.few 4 ⟨a,k⟩ 1 q (ht.deep hs.low od);omega) od;refine bd Tryz.f85 178 [] [8,13] fun _ _ _ _ hk=>?_;refine bx 3010 ?_;refine ab 3012 tz41 ?_;apply tv;refine wc zhr htb I I ?_;refine ev (xaA (ι:=Nat×Nat) hk (fun z=>[(14,.d (.i (z.1:Int)))]) [15,23,24,25,26,27,28,29,30,31,32,33,34,35,36,37,38,39,40,41,42,43,44,45,46,47,48,49,50] (fun z=>[(900,some (.box [.d (za7 b),.d (.i (z.2:Int))]))]) (fun z=>z.1<=vars.length/\z.2<=p+2*z.1/\varE b vars ⟨a,k⟩ (vars.length-z.1) z.2=varE b vars ⟨a,k⟩ vars.length p) (fun z=>vars.length-z.1) (0,p) ⟨by simp,by simp,by simp⟩ ⟨⟨_,I,xaV ?_⟩,O⟩ ⟨?_,O⟩ (fun x=>rfl) (fun z hg1=>?_));focus (first|rfl|(simp;done)|omega)
 focus (first|rfl|(simp[getH];done))
 refine evc [] [8,13] ?_;apply sq<;>intro h1 h1p h1s<;>(try simp only[Q,xac] at h1p);refine Walk.call (cr:=[]) zbl (zaC (p:=z.2) (n:=3) hb od od) I (.some I I h1) I I (LeL.refl _) ⟨I,O⟩ I I I ?_;refine evs [] [(27,true)] ?_ ⟨⟨_,I,h1⟩,O⟩;apply sq<;>intro h2 h2p h2s<;>(try simp only[Q,xac] at h2p);refine wd zbl (hpk (z.2+1) od od) I I ⟨I,O⟩ ?_;refine ev (xbB (i:=(zan b (z.2+1) vars.length).toNat) sl36 .none I I I (by have:=zaK (b:=b) (p:=z.2+1) (n:=(vars.length:Int)) od;omega) (zag (by have:=zaK (b:=b) (p:=z.2+1) (n:=(vars.length:Int)) od;omega)) I ?_);refine evd [] [] (wc zc9 (za6 (a:=(nth vars (zan b (z.2+1) vars.length).toNat).ty) (b:=⟨a,k⟩)) I I ?_);refine dr ?_;apply sq<;>intro h3 h3p h3s<;>(try simp only[Q,xac] at h3p);refine xbB (i:=(zan b (z.2+1) vars.length).toNat) sl36 .none I I I (by have:=zaK (b:=b) (p:=z.2+1) (n:=(vars.length:Int)) od;omega) (zag (by have:=zaK (b:=b) (p:=z.2+1) (n:=(vars.length:Int)) od;omega)) I ?_;refine ev (bu [0,1] [_,_] st41 ?_);refine so ty41 ?_;apply tv;refine rn [(900,some (rdB b (zas b w funs vars (0+1) ⟨a,k⟩ p).2))] (ra ty41) (.agg (qeeen ?_ ?_ ?_ ?_)) ⟨I,I⟩ (SubO.get ⟨.inr ?_,⟨.inl I,O⟩⟩) (zaj I);rotate_left 5;refine ar (xaj ((z.1+1,z.2+2)) ⟨⟨by dsimp only;omega,by dsimp only;omega,by dsimp only;rw[<-hg1.2.2,zf8 (m:=vars.length-z.1) od od ox];rw[Nat.sub_sub]⟩,oz,sx ⟨⟨_,I,xaV ?_⟩,O⟩ ⟨?_,O⟩⟩);focus (first|rfl|(simp;done)|omega)
 focus (first|rfl|(simp[getH];done))
 first|(obtain⟨p1,q1,hv1⟩:∃p1:Nat,p1=z.2+1/\varE b vars ⟨a,k⟩ vars.length p=(none,p1):=⟨_,rfl,by have e:=hg1.2.2;rw[zc0 od od] at e;rw[<-e]⟩;rw[<-q1])|(obtain⟨p1,q1,hv1⟩:∃p1:Nat,p1=z.2/\varE b vars ⟨a,k⟩ vars.length p=(none,p1):=⟨_,rfl,by have e:=hg1.2.2;rw[show vars.length-z.1=0 by omega] at e;rw[<-e];rfl⟩;rw[<-q1])
 refine evc [] [] (xaA (ι:=Nat×Nat) hk (fun y=>[(16,.d (.i (y.1:Int)))]) [51,52,53,54,55,56,57,58,59,60,61,62,63,64,65,66,67,68,69,70,71,72,73,74,75,76,77,78,79,80,81,82,83,84,85,86,87,88,89,90,91,92,93,94,95,96,97] (fun y=>[(900,some (.box [.d (za7 b),.d (.i (y.2:Int))]))]) (fun y=>y.1<=funs.length/\y.2=p1) (fun y=>funs.length-y.1) (0,p1) ⟨by simp,I⟩ ⟨⟨_,I,xaV ?_⟩,O⟩ ⟨?_,O⟩ (fun x=>rfl) (fun y hg2=>?_));focus (first|rfl|(simp;done)|omega)
 focus (first|rfl|(simp[getH];done))
 refine evc [] [8,13] ?_;apply sq<;>intro h4 h4p h4s<;>(try simp only[Q,xac] at h4p);apply sq<;>intro h5 h5p h5s<;>(try simp only[Q,xac] at h5p);exfalso;omega;have e9:y.2=p1:=hg2.2;rw[e9];have hE:=zb2 (b:=b) (w:=w) (funs:=funs) (n:=0) hv1 (if_pos rfl);rw[zgx (n:=0) hi (fun h=>h.1 rfl) (if_pos rfl)] at hE;refine evc [] [] ?_;apply sq<;>intro h6 h6p h6s<;>(try simp only[Q,xac] at h6p);apply sq<;>intro h7 h7p h7s<;>(try simp only[Q,xac] at h7p);exfalso;omega;refine sqF ?_;apply sq<;>intro h9 h9p h9s<;>(try simp only[Q,xac] at h9p);refine sqT ?_;refine wd zcs (hld p1 od) I I ⟨I,O⟩ ?_;refine wc zdn (hof p1) I I ?_;refine so ty41 ?_;apply tv;refine rn [(900,some (rdB b (zas b w funs vars (0+1) ⟨a,k⟩ p).2))] (ra ty41) (.agg (qeeee ?_ ?_ ?_ ?_)) ⟨I,I⟩ (SubO.get ⟨.inr ?_,⟨.inl I,O⟩⟩) (zaj I);rotate_left 5;exfalso;omega;exfalso;omega;refine sqF ?_;have e9:y.2=p1:=hg2.2;rw[e9];have hE:=zb2 (b:=b) (w:=w) (funs:=funs) (n:=0) hv1 (if_pos rfl);rw[zgx (n:=0) hi (fun h=>h.1 rfl) (if_pos rfl)] at hE;refine evc [] [] ?_;apply sq<;>intro h12 h12p h12s<;>(try simp only[Q,xac] at h12p);apply sq<;>intro h13 h13p h13s<;>(try simp only[Q,xac] at h13p);exfalso;omega;refine sqF ?_;apply sq<;>intro h15 h15p h15s<;>(try simp only[Q,xac] at h15p);refine sqT ?_;refine wd zcs (hld p1 od) I I ⟨I,O⟩ ?_;refine wc zdn (hof p1) I I ?_;refine so ty41 ?_;apply tv;refine rn [(900,some (rdB b (zas b w funs vars (0+1) ⟨a,k⟩ p).2))] (ra ty41) (.agg (qeeee ?_ ?_ ?_ ?_)) ⟨I,I⟩ (SubO.get ⟨.inr ?_,⟨.inl I,O⟩⟩) (zaj I);rotate_left 5;exfalso;omega;exfalso;omega;refine sqF ?_;first|(obtain⟨p1,q1,hv1⟩:∃p1:Nat,p1=z.2+1/\varE b vars ⟨a,k⟩ vars.length p=(none,p1):=⟨_,rfl,by have e:=hg1.2.2;rw[zc0 od od] at e;rw[<-e]⟩;rw[<-q1])|(obtain⟨p1,q1,hv1⟩:∃p1:Nat,p1=z.2/\varE b vars ⟨a,k⟩ vars.length p=(none,p1):=⟨_,rfl,by have e:=hg1.2.2;rw[show vars.length-z.1=0 by omega] at e;rw[<-e];rfl⟩;rw[<-q1])
 refine evc [] [] (xaA (ι:=Nat×Nat) hk (fun y=>[(16,.d (.i (y.1:Int)))]) [51,52,53,54,55,56,57,58,59,60,61,62,63,64,65,66,67,68,69,70,71,72,73,74,75,76,77,78,79,80,81,82,83,84,85,86,87,88,89,90,91,92,93,94,95,96,97] (fun y=>[(900,some (.box [.d (za7 b),.d (.i (y.2:Int))]))]) (fun y=>y.1<=funs.length/\y.2=p1) (fun y=>funs.length-y.1) (0,p1) ⟨by simp,I⟩ ⟨⟨_,I,xaV ?_⟩,O⟩ ⟨?_,O⟩ (fun x=>rfl) (fun y hg2=>?_));focus (first|rfl|(simp;done)|omega)
 focus (first|rfl|(simp[getH];done))
 refine evc [] [8,13] ?_;apply sq<;>intro h18 h18p h18s<;>(try simp only[Q,xac] at h18p);apply sq<;>intro h19 h19p h19s<;>(try simp only[Q,xac] at h19p);exfalso;omega;have e9:y.2=p1:=hg2.2;rw[e9];have hE:=zb2 (b:=b) (w:=w) (funs:=funs) (n:=0) hv1 (if_pos rfl);rw[zgx (n:=0) hi (fun h=>h.1 rfl) (if_pos rfl)] at hE;refine evc [] [] ?_;apply sq<;>intro h20 h20p h20s<;>(try simp only[Q,xac] at h20p);apply sq<;>intro h21 h21p h21s<;>(try simp only[Q,xac] at h21p);exfalso;omega;refine sqF ?_;apply sq<;>intro h23 h23p h23s<;>(try simp only[Q,xac] at h23p);refine sqT ?_;refine wd zcs (hld p1 od) I I ⟨I,O⟩ ?_;refine wc zdn (hof p1) I I ?_;refine so ty41 ?_;apply tv;refine rn [(900,some (rdB b (zas b w funs vars (0+1) ⟨a,k⟩ p).2))] (ra ty41) (.agg (qeeee ?_ ?_ ?_ ?_)) ⟨I,I⟩ (SubO.get ⟨.inr ?_,⟨.inl I,O⟩⟩) (zaj I);rotate_left 5;exfalso;omega;exfalso;omega;refine sqF ?_;have e9:y.2=p1:=hg2.2;rw[e9];have hE:=zb2 (b:=b) (w:=w) (funs:=funs) (n:=0) hv1 (if_pos rfl);rw[zgx (n:=0) hi (fun h=>h.1 rfl) (if_pos rfl)] at hE;refine evc [] [] ?_;apply sq<;>intro h26 h26p h26s<;>(try simp only[Q,xac] at h26p);apply sq<;>intro h27 h27p h27s<;>(try simp only[Q,xac] at h27p);exfalso;omega;refine sqF ?_;apply sq<;>intro h29 h29p h29s<;>(try simp only[Q,xac] at h29p);refine sqT ?_;refine wd zcs (hld p1 od) I I ⟨I,O⟩ ?_;refine wc zdn (hof p1) I I ?_;refine so ty41 ?_;apply tv;refine rn [(900,some (rdB b (zas b w funs vars (0+1) ⟨a,k⟩ p).2))] (ra ty41) (.agg (qeeee ?_ ?_ ?_ ?_)) ⟨I,I⟩ (SubO.get ⟨.inr ?_,⟨.inl I,O⟩⟩) (zaj I);rotate_left 5;exfalso;omega;exfalso;omega;all_goals (first|((first|(rw[hE];done)|(rw[hE];all_goals rfl)|(rw[zdB (show varE b vars ⟨a,k⟩ vars.length p=_ from by rw[<-hg1.2.2];exact zdy od od ox)];all_goals rfl));done)|(first|(rw[hE];done)|(rw[hE];all_goals rfl)|(rw[zdB (show varE b vars ⟨a,k⟩ vars.length p=_ from by rw[<-hg1.2.2];exact zdy od od ox)];all_goals rfl)))
theorem zoc {b:Str}{w:List Data}{funs:List Ft}{vars:List Vt} (hb:b.length<=2000) (hs:Sce w funs vars){n:Nat}{a k d:Int}{p:Nat} (hd:d=((0+1:Nat):Int)) (hn:0<=3) (ht:Gty w ⟨a,k⟩) (hp:p+KE (0+1)<=100000) (hi:¬a = -1):
  FnD Tryz.prog 85 [.ref 900 0,.d (zae w),.d (zaF funs),.d (zaP vars),.agg [.d (.i a),.d (.i k)],.d (.i d)] [(900,some (rdB b p))]
   (.agg [.d (.i (zas b w funs vars (0+1) ⟨a,k⟩ p).1.op),.d (.i (zas b w funs vars (0+1) ⟨a,k⟩ p).1.n),.d (.i (zas b w funs vars (0+1) ⟨a,k⟩ p).1.ctor),.d (zaE (zas b w funs vars (0+1) ⟨a,k⟩ p).1.kids)]) [(900,some (rdB b (zas b w funs vars (0+1) ⟨a,k⟩ p).2))]:=by
 have hvl:=hs.vl;have hfl:=hs.fl;have htb:=zcG hs.dp;have h4:=hs.dp.four;have hpk:=fun(q:Nat) (hq:q<=200000) (h1:1<=vars.length)=>zaC (b:=b) (p:=q) (n:=((vars.map Vt.c).length:Int)) hb od (by first|omega|(rw[xac];omega));simp only[show ∀q,zan b q (((vars.map Vt.c).length:Nat):Int)=zan b q (vars.length:Int) from fun q=>by rw[xac]] at hpk;have e1:bdV 4=40:=by decide
 have e2:szV 4=121:=by decide
 have hld:=fun(q:Nat) (hq:q<=100010)=>zb6 hb hs.dp hs.few 4 (a:=a) (k:=k) (m:=1) (p:=q) (ht.deep hs.low od) od od od;have hof:=fun(q:Nat)=>zdS 121 (v:=(zaS b w (zab w) 4 ⟨a,k⟩ 1 q).1) (by have:=zct (b:=b) hs.dp hs.few 4 ⟨a,k⟩ 1 q (ht.deep hs.low od);omega) od;refine bd Tryz.f85 178 [] [8,13] fun _ _ _ _ hk=>?_;refine bx 3010 ?_;refine ab 3012 tz41 ?_;apply tv;refine wc zhr htb I I ?_;refine ev (xaA (ι:=Nat×Nat) hk (fun z=>[(14,.d (.i (z.1:Int)))]) [15,23,24,25,26,27,28,29,30,31,32,33,34,35,36,37,38,39,40,41,42,43,44,45,46,47,48,49,50] (fun z=>[(900,some (.box [.d (za7 b),.d (.i (z.2:Int))]))]) (fun z=>z.1<=vars.length/\z.2<=p+2*z.1/\varE b vars ⟨a,k⟩ (vars.length-z.1) z.2=varE b vars ⟨a,k⟩ vars.length p) (fun z=>vars.length-z.1) (0,p) ⟨by simp,by simp,by simp⟩ ⟨⟨_,I,xaV ?_⟩,O⟩ ⟨?_,O⟩ (fun x=>rfl) (fun z hg1=>?_));focus (first|rfl|(simp;done)|omega)
 focus (first|rfl|(simp[getH];done))
 refine evc [] [8,13] ?_;apply sq<;>intro h1 h1p h1s<;>(try simp only[Q,xac] at h1p);refine Walk.call (cr:=[]) zbl (zaC (p:=z.2) (n:=3) hb od od) I (.some I I h1) I I (LeL.refl _) ⟨I,O⟩ I I I ?_;refine evs [] [(27,true)] ?_ ⟨⟨_,I,h1⟩,O⟩;apply sq<;>intro h2 h2p h2s<;>(try simp only[Q,xac] at h2p);refine wd zbl (hpk (z.2+1) od od) I I ⟨I,O⟩ ?_;refine ev (xbB (i:=(zan b (z.2+1) vars.length).toNat) sl36 .none I I I (by have:=zaK (b:=b) (p:=z.2+1) (n:=(vars.length:Int)) od;omega) (zag (by have:=zaK (b:=b) (p:=z.2+1) (n:=(vars.length:Int)) od;omega)) I ?_);refine evd [] [] (wc zc9 (za6 (a:=(nth vars (zan b (z.2+1) vars.length).toNat).ty) (b:=⟨a,k⟩)) I I ?_);refine dr ?_;apply sq<;>intro h3 h3p h3s<;>(try simp only[Q,xac] at h3p);refine xbB (i:=(zan b (z.2+1) vars.length).toNat) sl36 .none I I I (by have:=zaK (b:=b) (p:=z.2+1) (n:=(vars.length:Int)) od;omega) (zag (by have:=zaK (b:=b) (p:=z.2+1) (n:=(vars.length:Int)) od;omega)) I ?_;refine ev (bu [0,1] [_,_] st41 ?_);refine so ty41 ?_;apply tv;refine rn [(900,some (rdB b (zas b w funs vars (0+1) ⟨a,k⟩ p).2))] (ra ty41) (.agg (qeeen ?_ ?_ ?_ ?_)) ⟨I,I⟩ (SubO.get ⟨.inr ?_,⟨.inl I,O⟩⟩) (zaj I);rotate_left 5;refine ar (xaj ((z.1+1,z.2+2)) ⟨⟨by dsimp only;omega,by dsimp only;omega,by dsimp only;rw[<-hg1.2.2,zf8 (m:=vars.length-z.1) od od ox];rw[Nat.sub_sub]⟩,oz,sx ⟨⟨_,I,xaV ?_⟩,O⟩ ⟨?_,O⟩⟩);focus (first|rfl|(simp;done)|omega)
 focus (first|rfl|(simp[getH];done))
 first|(obtain⟨p1,q1,hv1⟩:∃p1:Nat,p1=z.2+1/\varE b vars ⟨a,k⟩ vars.length p=(none,p1):=⟨_,rfl,by have e:=hg1.2.2;rw[zc0 od od] at e;rw[<-e]⟩;rw[<-q1])|(obtain⟨p1,q1,hv1⟩:∃p1:Nat,p1=z.2/\varE b vars ⟨a,k⟩ vars.length p=(none,p1):=⟨_,rfl,by have e:=hg1.2.2;rw[show vars.length-z.1=0 by omega] at e;rw[<-e];rfl⟩;rw[<-q1])
 refine evc [] [] (xaA (ι:=Nat×Nat) hk (fun y=>[(16,.d (.i (y.1:Int)))]) [51,52,53,54,55,56,57,58,59,60,61,62,63,64,65,66,67,68,69,70,71,72,73,74,75,76,77,78,79,80,81,82,83,84,85,86,87,88,89,90,91,92,93,94,95,96,97] (fun y=>[(900,some (.box [.d (za7 b),.d (.i (y.2:Int))]))]) (fun y=>y.1<=funs.length/\y.2=p1) (fun y=>funs.length-y.1) (0,p1) ⟨by simp,I⟩ ⟨⟨_,I,xaV ?_⟩,O⟩ ⟨?_,O⟩ (fun x=>rfl) (fun y hg2=>?_));focus (first|rfl|(simp;done)|omega)
 focus (first|rfl|(simp[getH];done))
 refine evc [] [8,13] ?_;apply sq<;>intro h4 h4p h4s<;>(try simp only[Q,xac] at h4p);apply sq<;>intro h5 h5p h5s<;>(try simp only[Q,xac] at h5p);exfalso;omega;have e9:y.2=p1:=hg2.2;rw[e9];have hE:=zb2 (b:=b) (w:=w) (funs:=funs) (n:=0) hv1 (if_pos rfl);rw[zj9 (n:=0) hi rfl] at hE;refine evc [] [] ?_;apply sq<;>intro h6 h6p h6s<;>(try simp only[Q,xac] at h6p);exfalso;omega;refine sqF ?_;refine sqF ?_;apply sq<;>intro h8 h8p h8s<;>(try simp only[Q,xac] at h8p);refine sqT ?_;refine wd zcs (hld p1 od) I I ⟨I,O⟩ ?_;refine wc zdn (hof p1) I I ?_;refine so ty41 ?_;apply tv;refine rn [(900,some (rdB b (zas b w funs vars (0+1) ⟨a,k⟩ p).2))] (ra ty41) (.agg (qeeee ?_ ?_ ?_ ?_)) ⟨I,I⟩ (SubO.get ⟨.inr ?_,⟨.inl I,O⟩⟩) (zaj I);rotate_left 5;exfalso;omega;refine sqF ?_;have e9:y.2=p1:=hg2.2;rw[e9];have hE:=zb2 (b:=b) (w:=w) (funs:=funs) (n:=0) hv1 (if_pos rfl);rw[zj9 (n:=0) hi rfl] at hE;refine evc [] [] ?_;apply sq<;>intro h11 h11p h11s<;>(try simp only[Q,xac] at h11p);exfalso;omega;refine sqF ?_;refine sqF ?_;apply sq<;>intro h13 h13p h13s<;>(try simp only[Q,xac] at h13p);refine sqT ?_;refine wd zcs (hld p1 od) I I ⟨I,O⟩ ?_;refine wc zdn (hof p1) I I ?_;refine so ty41 ?_;apply tv;refine rn [(900,some (rdB b (zas b w funs vars (0+1) ⟨a,k⟩ p).2))] (ra ty41) (.agg (qeeee ?_ ?_ ?_ ?_)) ⟨I,I⟩ (SubO.get ⟨.inr ?_,⟨.inl I,O⟩⟩) (zaj I);rotate_left 5;exfalso;omega;refine sqF ?_;first|(obtain⟨p1,q1,hv1⟩:∃p1:Nat,p1=z.2+1/\varE b vars ⟨a,k⟩ vars.length p=(none,p1):=⟨_,rfl,by have e:=hg1.2.2;rw[zc0 od od] at e;rw[<-e]⟩;rw[<-q1])|(obtain⟨p1,q1,hv1⟩:∃p1:Nat,p1=z.2/\varE b vars ⟨a,k⟩ vars.length p=(none,p1):=⟨_,rfl,by have e:=hg1.2.2;rw[show vars.length-z.1=0 by omega] at e;rw[<-e];rfl⟩;rw[<-q1])
 refine evc [] [] (xaA (ι:=Nat×Nat) hk (fun y=>[(16,.d (.i (y.1:Int)))]) [51,52,53,54,55,56,57,58,59,60,61,62,63,64,65,66,67,68,69,70,71,72,73,74,75,76,77,78,79,80,81,82,83,84,85,86,87,88,89,90,91,92,93,94,95,96,97] (fun y=>[(900,some (.box [.d (za7 b),.d (.i (y.2:Int))]))]) (fun y=>y.1<=funs.length/\y.2=p1) (fun y=>funs.length-y.1) (0,p1) ⟨by simp,I⟩ ⟨⟨_,I,xaV ?_⟩,O⟩ ⟨?_,O⟩ (fun x=>rfl) (fun y hg2=>?_));focus (first|rfl|(simp;done)|omega)
 focus (first|rfl|(simp[getH];done))
 refine evc [] [8,13] ?_;apply sq<;>intro h16 h16p h16s<;>(try simp only[Q,xac] at h16p);apply sq<;>intro h17 h17p h17s<;>(try simp only[Q,xac] at h17p);exfalso;omega;have e9:y.2=p1:=hg2.2;rw[e9];have hE:=zb2 (b:=b) (w:=w) (funs:=funs) (n:=0) hv1 (if_pos rfl);rw[zj9 (n:=0) hi rfl] at hE;refine evc [] [] ?_;apply sq<;>intro h18 h18p h18s<;>(try simp only[Q,xac] at h18p);exfalso;omega;refine sqF ?_;refine sqF ?_;apply sq<;>intro h20 h20p h20s<;>(try simp only[Q,xac] at h20p);refine sqT ?_;refine wd zcs (hld p1 od) I I ⟨I,O⟩ ?_;refine wc zdn (hof p1) I I ?_;refine so ty41 ?_;apply tv;refine rn [(900,some (rdB b (zas b w funs vars (0+1) ⟨a,k⟩ p).2))] (ra ty41) (.agg (qeeee ?_ ?_ ?_ ?_)) ⟨I,I⟩ (SubO.get ⟨.inr ?_,⟨.inl I,O⟩⟩) (zaj I);rotate_left 5;exfalso;omega;refine sqF ?_;have e9:y.2=p1:=hg2.2;rw[e9];have hE:=zb2 (b:=b) (w:=w) (funs:=funs) (n:=0) hv1 (if_pos rfl);rw[zj9 (n:=0) hi rfl] at hE;refine evc [] [] ?_;apply sq<;>intro h23 h23p h23s<;>(try simp only[Q,xac] at h23p);exfalso;omega;refine sqF ?_;refine sqF ?_;apply sq<;>intro h25 h25p h25s<;>(try simp only[Q,xac] at h25p);refine sqT ?_;refine wd zcs (hld p1 od) I I ⟨I,O⟩ ?_;refine wc zdn (hof p1) I I ?_;refine so ty41 ?_;apply tv;refine rn [(900,some (rdB b (zas b w funs vars (0+1) ⟨a,k⟩ p).2))] (ra ty41) (.agg (qeeee ?_ ?_ ?_ ?_)) ⟨I,I⟩ (SubO.get ⟨.inr ?_,⟨.inl I,O⟩⟩) (zaj I);rotate_left 5;exfalso;omega;all_goals (first|((first|(rw[hE];done)|(rw[hE];all_goals rfl)|(rw[zdB (show varE b vars ⟨a,k⟩ vars.length p=_ from by rw[<-hg1.2.2];exact zdy od od ox)];all_goals rfl));done)|(first|(rw[hE];done)|(rw[hE];all_goals rfl)|(rw[zdB (show varE b vars ⟨a,k⟩ vars.length p=_ from by rw[<-hg1.2.2];exact zdy od od ox)];all_goals rfl)))
theorem ow{p:Prop}(h:p:=by unfold zaA;dsimp only;omega):p:=h
theorem zpp {b:Str}{w:List Data}{funs:List Ft}{vars:List Vt} (hb:b.length<=2000) (hs:Sce w funs vars){n:Nat}{a k d:Int}{p:Nat} (hd:d=((n+1+1:Nat):Int)) (hn:n+1<=3) (ht:Gty w ⟨a,k⟩) (hp:p+KE (n+1+1)<=100000) (hi:a = -1)
  (ih:∀ {a k d:Int}{p:Nat},d=((n+1:Nat):Int)->Gty w ⟨a,k⟩->p+KE (n+1)<=100000->
  FnD Tryz.prog 85 [.ref 900 0,.d (zae w),.d (zaF funs),.d (zaP vars),.agg [.d (.i a),.d (.i k)],.d (.i d)] [(900,some (rdB b p))]
   (.agg [.d (.i (zas b w funs vars (n+1) ⟨a,k⟩ p).1.op),.d (.i (zas b w funs vars (n+1) ⟨a,k⟩ p).1.n),.d (.i (zas b w funs vars (n+1) ⟨a,k⟩ p).1.ctor),.d (zaE (zas b w funs vars (n+1) ⟨a,k⟩ p).1.kids)]) [(900,some (rdB b (zas b w funs vars (n+1) ⟨a,k⟩ p).2))]):
  FnD Tryz.prog 85 [.ref 900 0,.d (zae w),.d (zaF funs),.d (zaP vars),.agg [.d (.i a),.d (.i k)],.d (.i d)] [(900,some (rdB b p))]
   (.agg [.d (.i (zas b w funs vars (n+1+1) ⟨a,k⟩ p).1.op),.d (.i (zas b w funs vars (n+1+1) ⟨a,k⟩ p).1.n),.d (.i (zas b w funs vars (n+1+1) ⟨a,k⟩ p).1.ctor),.d (zaE (zas b w funs vars (n+1+1) ⟨a,k⟩ p).1.kids)]) [(900,some (rdB b (zas b w funs vars (n+1+1) ⟨a,k⟩ p).2))]:=by
 have hvl:=hs.vl;have hfl:=hs.fl;have htb:=zcG hs.dp;have h4:=hs.dp.four;have hpk:=fun(q:Nat) (hq:q<=200000) (h1:1<=vars.length)=>zaC (b:=b) (p:=q) (n:=((vars.map Vt.c).length:Int)) hb od (by first|omega|(rw[xac];omega));simp only[show ∀q,zan b q (((vars.map Vt.c).length:Nat):Int)=zan b q (vars.length:Int) from fun q=>by rw[xac]] at hpk;have e1:bdV 4=40:=by decide
 have e2:szV 4=121:=by decide
 have hK:KE (n+1+1)=50+3*KE (n+1):=rfl;have hpos:=fun(t:Ty) (q:Nat) (h:Gty w t)=>(zgJ (b:=b) hs n t q od h).1;subst hd;have hld:=fun(q:Nat) (hq:q<=100010)=>zb6 hb hs.dp hs.few 4 (a:=a) (k:=k) (m:=1) (p:=q) (ht.deep hs.low od) od od od;have hof:=fun(q:Nat)=>zdS 121 (v:=(zaS b w (zab w) 4 ⟨a,k⟩ 1 q).1) (by have:=zct (b:=b) hs.dp hs.few 4 ⟨a,k⟩ 1 q (ht.deep hs.low od);omega) od;refine bd Tryz.f85 178 [] [8,9,13] fun _ _ _ _ hk=>?_;refine bx 3010 ?_;refine ab 3012 tz41 ?_;apply tv;refine wc zhr htb I I ?_;refine ev (xaA (ι:=Nat×Nat) hk (fun z=>[(14,.d (.i (z.1:Int)))]) [15,23,24,25,26,27,28,29,30,31,32,33,34,35,36,37,38,39,40,41,42,43,44,45,46,47,48,49,50] (fun z=>[(900,some (.box [.d (za7 b),.d (.i (z.2:Int))]))]) (fun z=>z.1<=vars.length/\z.2<=p+2*z.1/\varE b vars ⟨a,k⟩ (vars.length-z.1) z.2=varE b vars ⟨a,k⟩ vars.length p) (fun z=>vars.length-z.1) (0,p) ⟨by simp,by simp,by simp⟩ ⟨⟨_,I,xaV ?_⟩,O⟩ ⟨?_,O⟩ (fun x=>rfl) (fun z hg1=>?_));focus (first|rfl|(simp;done)|omega)
 focus (first|rfl|(simp[getH];done))
 refine evc [] [8,9,13] ?_;apply sq<;>intro h1 h1p h1s<;>(try simp only[Q,xac] at h1p);refine Walk.call (cr:=[]) zbl (zaC (p:=z.2) (n:=3) hb od od) I (.some I I h1) I I (LeL.refl _) ⟨I,O⟩ I I I ?_;refine evs [] [(27,true)] ?_ ⟨⟨_,I,h1⟩,O⟩;apply sq<;>intro h2 h2p h2s<;>(try simp only[Q,xac] at h2p);refine wd zbl (hpk (z.2+1) od od) I I ⟨I,O⟩ ?_;refine ev (xbB (i:=(zan b (z.2+1) vars.length).toNat) sl36 .none I I I (by have:=zaK (b:=b) (p:=z.2+1) (n:=(vars.length:Int)) od;omega) (zag (by have:=zaK (b:=b) (p:=z.2+1) (n:=(vars.length:Int)) od;omega)) I ?_);refine evd [] [] (wc zc9 (za6 (a:=(nth vars (zan b (z.2+1) vars.length).toNat).ty) (b:=⟨a,k⟩)) I I ?_);refine dr ?_;apply sq<;>intro h3 h3p h3s<;>(try simp only[Q,xac] at h3p);refine xbB (i:=(zan b (z.2+1) vars.length).toNat) sl36 .none I I I (by have:=zaK (b:=b) (p:=z.2+1) (n:=(vars.length:Int)) od;omega) (zag (by have:=zaK (b:=b) (p:=z.2+1) (n:=(vars.length:Int)) od;omega)) I ?_;refine ev (bu [0,1] [_,_] st41 ?_);refine so ty41 ?_;apply tv;refine rn [(900,some (rdB b (zas b w funs vars (n+1+1) ⟨a,k⟩ p).2))] (ra ty41) (.agg (qeeen ?_ ?_ ?_ ?_)) ⟨I,I⟩ (SubO.get ⟨.inr ?_,⟨.inl I,O⟩⟩) (zaj I);rotate_left 5;refine ar (xaj ((z.1+1,z.2+2)) ⟨⟨by dsimp only;omega,by dsimp only;omega,by dsimp only;rw[<-hg1.2.2,zf8 (m:=vars.length-z.1) od od ox];rw[Nat.sub_sub]⟩,oz,sx ⟨⟨_,I,xaV ?_⟩,O⟩ ⟨?_,O⟩⟩);focus (first|rfl|(simp;done)|omega)
 focus (first|rfl|(simp[getH];done))
 first|(obtain⟨p1,q1,hv1⟩:∃p1:Nat,p1=z.2+1/\varE b vars ⟨a,k⟩ vars.length p=(none,p1):=⟨_,rfl,by have e:=hg1.2.2;rw[zc0 od od] at e;rw[<-e]⟩;rw[<-q1])|(obtain⟨p1,q1,hv1⟩:∃p1:Nat,p1=z.2/\varE b vars ⟨a,k⟩ vars.length p=(none,p1):=⟨_,rfl,by have e:=hg1.2.2;rw[show vars.length-z.1=0 by omega] at e;rw[<-e];rfl⟩;rw[<-q1])
 refine evc [] [] (xaA (ι:=Nat×Nat) hk (fun y=>[(16,.d (.i (y.1:Int)))]) [51,52,53,54,55,56,57,58,59,60,61,62,63,64,65,66,67,68,69,70,71,72,73,74,75,76,77,78,79,80,81,82,83,84,85,86,87,88,89,90,91,92,93,94,95,96,97] (fun y=>[(900,some (.box [.d (za7 b),.d (.i (y.2:Int))]))]) (fun y=>y.1<=funs.length/\y.2<=p1+y.1/\funE b (zab w) ⟨a,k⟩ (funs.drop y.1) y.1 y.2=funE b (zab w) ⟨a,k⟩ funs 0 p1) (fun y=>funs.length-y.1) (0,p1) ⟨by simp,by simp,I⟩ ⟨⟨_,I,xaV ?_⟩,O⟩ ⟨?_,O⟩ (fun x=>rfl) (fun y hg2=>?_));focus (first|rfl|(unfold zaA;rfl)|omega)
 focus (first|rfl|(rw[zbJ (fun h=>by obtain⟨f1,f2⟩:=h;first|omega|(simp_all;done))];rfl)|(rw[zbx oh od];rfl)|(simp[getH];done))
 refine evc [] [8,9,13] (xaB (xbk 8 [(58,.d (.bool (decide ((y.1:Int)<funs.length))))] [51,52,53,54,55,56,57] ?_ ?_));refine ev ?_;apply sq<;>intro h4 h4p h4s<;>(try simp only[Q,xac] at h4p);exact jn I (xaU (by first|rfl|(simp only[xac] at *;rw[xat];simp only[xah,Bool.false_eq_true,false_iff];omega)|(rw[xac] at *;rw[xat];simp only[xah,Bool.false_eq_true,false_iff];omega)));exact jn I (xaU (by first|rfl|(simp only[xac] at *;rw[xat];simp only[xah,Bool.false_eq_true,false_iff];omega)|(rw[xac] at *;rw[xat];simp only[xah,Bool.false_eq_true,false_iff];omega)));refine xbj ?_;apply tv;apply sq<;>intro h5 h5p h5s<;>(try simp only[Q,xac] at h5p);refine ixq sl35 I I I (zag od) I ?_;refine evd [] [] (wc zc9 (za6 (a:=(nth funs y.1).res) (b:=⟨a,k⟩)) I I ?_);refine evd [] [] ?_;apply sq<;>intro h6 h6p h6s<;>(try simp only[Q,xac] at h6p);refine xbB sl35 (.some I I h6) I I I I (zag od) I ?_;refine evd [] [(68,true)] ?_ ⟨⟨_,I,h6⟩,O⟩;refine Walk.call (cr:=[]) zeL (show FnD Tryz.prog 166 [.d (zeN (w.length*4) (zab w)),.agg [.d (.i (nth funs y.1).arg.data),.d (.i (nth funs y.1).arg.index)]] [] (.d (.i (dv (zab w) (nth funs y.1).arg))) [] from zbS (f:=zab w) (a:=(nth funs y.1).arg.data) (k:=(nth funs y.1).arg.index) (hs.fin _ (zao od)) od) I (.some I I h6) I I (LeL.refl _) O I I I ?_;refine evd [] [(68,true)] ?_ ⟨⟨_,I,h6⟩,O⟩;apply sq<;>intro h7 h7p h7s<;>(try simp only[Q,xac] at h7p);refine Walk.call (cr:=[]) zbl (zaC (p:=y.2) (n:=3) hb od od) I (.some I I h7) I I (LeL.refl _) ⟨I,O⟩ I I I ?_;refine evd [] [(78,true)] ?_ ⟨⟨_,I,h7⟩,O⟩;refine dr ?_;apply sq<;>intro h8 h8p h8s<;>(try simp only[Q,xac] at h8p);refine ixq sl35 I I I (zag od) I ?_;refine ev (ar (wd zdQ (ih (a:=(nth funs y.1).arg.data) (k:=(nth funs y.1).arg.index) (p:=y.2+1) od ⟨hs.fin _ (zao od),(by show 0<dv (zab w) (nth funs y.1).arg;omega)⟩ od) I I ⟨I,O⟩ ?_));refine si [0] [_] sl39 tz41 ?_;refine bu [0,1,3] [_,_,_] st41 ?_;refine so ty41 ?_;apply tv;refine rn [(900,some (rdB b (zas b w funs vars (n+1+1) ⟨a,k⟩ p).2))] (ra ty41) (.agg (qeeee ?_ ?_ ?_ ?_)) ⟨I,I⟩ (SubO.get ⟨.inr ?_,⟨.inl I,O⟩⟩) (zaj I);rotate_left 5;refine ar (xaj (zaA b (zab w) ⟨a,k⟩ funs y) ⟨⟨by unfold zaA;dsimp only;omega,by unfold zaA;dsimp only;split<;>omega,by rw[<-hg2.2.2];exact(zbV (q:=y.2) od (by intro f1 f2 f3;first|omega|(simp_all;done)|(simp_all;omega))).symm⟩,ow,sx ⟨⟨_,I,xaV ?_⟩,O⟩ ⟨?_,O⟩⟩);focus (first|rfl|(unfold zaA;rfl)|omega)
 focus (first|rfl|(rw[zbJ (fun h=>by obtain⟨f1,f2⟩:=h;first|omega|(simp_all;done))];rfl)|(rw[zbx oh od];rfl)|(simp[getH];done))
 refine dr (sqF ?_);refine ar (xaj (zaA b (zab w) ⟨a,k⟩ funs y) ⟨⟨by unfold zaA;dsimp only;omega,by unfold zaA;dsimp only;split<;>omega,by rw[<-hg2.2.2];exact(zbV (q:=y.2) od (by intro f1 f2 f3;first|omega|(simp_all;done)|(simp_all;omega))).symm⟩,ow,sx ⟨⟨_,I,xaV ?_⟩,O⟩ ⟨?_,O⟩⟩);focus (first|rfl|(unfold zaA;rfl)|omega)
 focus (first|rfl|(rw[zbJ (fun h=>by obtain⟨f1,f2⟩:=h;first|omega|(simp_all;done))];rfl)|(rw[zbx oh od];rfl)|(simp[getH];done))
 refine sqF ?_;refine dr (sqF ?_);refine ar (xaj (zaA b (zab w) ⟨a,k⟩ funs y) ⟨⟨by unfold zaA;dsimp only;omega,by unfold zaA;dsimp only;split<;>omega,by rw[<-hg2.2.2];exact(zbV (q:=y.2) od (by intro f1 f2 f3;first|omega|(simp_all;done)|(simp_all;omega))).symm⟩,ow,sx ⟨⟨_,I,xaV ?_⟩,O⟩ ⟨?_,O⟩⟩);focus (first|rfl|(unfold zaA;rfl)|omega)
 focus (first|rfl|(rw[zbJ (fun h=>by obtain⟨f1,f2⟩:=h;first|omega|(simp_all;done))];rfl)|(rw[zbx oh od];rfl)|(simp[getH];done))
 have hf2:=hg2.2.2.symm.trans (zgM (funs:=funs) (j:=y.1) od);refine evc [] [] ?_;apply sq<;>intro h11 h11p h11s<;>(try simp only[Q,xac] at h11p);apply sq<;>intro h12 h12p h12s<;>(try simp only[Q,xac] at h12p);refine Walk.call (cr:=[]) zbl (zaC (p:=y.2) (n:=3) hb od od) I (.some I I h12) I I (LeL.refl _) ⟨I,O⟩ I I I ?_;refine evs [] [(105,true)] ?_ ⟨⟨_,I,h12⟩,O⟩;apply sq<;>intro h13 h13p h13s<;>(try simp only[Q,xac] at h13p);have hE:=((zb2 (b:=b) (w:=w) (funs:=funs) (n:=n+1) hv1 (by rw[if_neg od];exact hf2))).trans (zpW (n:=n+1) hi od od);refine ar (wd zdQ (ih (a:=a) (k:=k) (p:=y.2+1) od ht od) I I ⟨I,O⟩ ?_);refine evd [] [] (ar (wd zdQ (ih (a:=a) (k:=k) (p:=(zas b w funs vars (n+1) ⟨a,k⟩ (y.2+1)).2) od ht (by have:=hpos ⟨a,k⟩ (y.2+1) ht;omega)) I I ⟨I,O⟩ ?_));refine si [0,1] [_,_] sl39 tz41 ?_;refine bu [0,3] [_,_] st41 ?_;refine so ty41 ?_;refine dr (rn [(900,some (rdB b (zas b w funs vars (n+1+1) ⟨a,k⟩ p).2))] (ra ty41) (.agg (qeeee ?_ ?_ ?_ ?_)) ⟨I,I⟩ (SubO.get ⟨.inr ?_,⟨.inl I,O⟩⟩) (zaj I));rotate_left 5;have hE:=((zb2 (b:=b) (w:=w) (funs:=funs) (n:=n+1) hv1 (by rw[if_neg od];exact hf2))).trans (zgx (n:=n+1) hi (fun h=>by have:=h.2;omega) (if_neg od));apply sq<;>intro h14 h14p h14s<;>(try simp only[Q,xac] at h14p);exfalso;omega;apply sq<;>intro h15 h15p h15s<;>(try simp only[Q,xac] at h15p);refine wd zcs (hld (y.2+1) od) I I ⟨I,O⟩ ?_;refine wc zdn (hof (y.2+1)) I I ?_;refine so ty41 ?_;apply tv;refine rn [(900,some (rdB b (zas b w funs vars (n+1+1) ⟨a,k⟩ p).2))] (ra ty41) (.agg (qeeee ?_ ?_ ?_ ?_)) ⟨I,I⟩ (SubO.get ⟨.inr ?_,⟨.inl I,O⟩⟩) (zaj I);rotate_left 5;exfalso;omega;exfalso;omega;exfalso;omega;refine sqF ?_;first|(obtain⟨p1,q1,hv1⟩:∃p1:Nat,p1=z.2+1/\varE b vars ⟨a,k⟩ vars.length p=(none,p1):=⟨_,rfl,by have e:=hg1.2.2;rw[zc0 od od] at e;rw[<-e]⟩;rw[<-q1])|(obtain⟨p1,q1,hv1⟩:∃p1:Nat,p1=z.2/\varE b vars ⟨a,k⟩ vars.length p=(none,p1):=⟨_,rfl,by have e:=hg1.2.2;rw[show vars.length-z.1=0 by omega] at e;rw[<-e];rfl⟩;rw[<-q1])
 refine evc [] [] (xaA (ι:=Nat×Nat) hk (fun y=>[(16,.d (.i (y.1:Int)))]) [51,52,53,54,55,56,57,58,59,60,61,62,63,64,65,66,67,68,69,70,71,72,73,74,75,76,77,78,79,80,81,82,83,84,85,86,87,88,89,90,91,92,93,94,95,96,97] (fun y=>[(900,some (.box [.d (za7 b),.d (.i (y.2:Int))]))]) (fun y=>y.1<=funs.length/\y.2<=p1+y.1/\funE b (zab w) ⟨a,k⟩ (funs.drop y.1) y.1 y.2=funE b (zab w) ⟨a,k⟩ funs 0 p1) (fun y=>funs.length-y.1) (0,p1) ⟨by simp,by simp,I⟩ ⟨⟨_,I,xaV ?_⟩,O⟩ ⟨?_,O⟩ (fun x=>rfl) (fun y hg2=>?_));focus (first|rfl|(unfold zaA;rfl)|omega)
 focus (first|rfl|(rw[zbJ (fun h=>by obtain⟨f1,f2⟩:=h;first|omega|(simp_all;done))];rfl)|(rw[zbx oh od];rfl)|(simp[getH];done))
 refine evc [] [8,9,13] (xaB (xbk 8 [(58,.d (.bool (decide ((y.1:Int)<funs.length))))] [51,52,53,54,55,56,57] ?_ ?_));refine ev ?_;apply sq<;>intro h17 h17p h17s<;>(try simp only[Q,xac] at h17p);exact jn I (xaU (by first|rfl|(simp only[xac] at *;rw[xat];simp only[xah,Bool.false_eq_true,false_iff];omega)|(rw[xac] at *;rw[xat];simp only[xah,Bool.false_eq_true,false_iff];omega)));exact jn I (xaU (by first|rfl|(simp only[xac] at *;rw[xat];simp only[xah,Bool.false_eq_true,false_iff];omega)|(rw[xac] at *;rw[xat];simp only[xah,Bool.false_eq_true,false_iff];omega)));refine xbj ?_;apply tv;apply sq<;>intro h18 h18p h18s<;>(try simp only[Q,xac] at h18p);refine ixq sl35 I I I (zag od) I ?_;refine evd [] [] (wc zc9 (za6 (a:=(nth funs y.1).res) (b:=⟨a,k⟩)) I I ?_);refine evd [] [] ?_;apply sq<;>intro h19 h19p h19s<;>(try simp only[Q,xac] at h19p);refine xbB sl35 (.some I I h19) I I I I (zag od) I ?_;refine evd [] [(68,true)] ?_ ⟨⟨_,I,h19⟩,O⟩;refine Walk.call (cr:=[]) zeL (show FnD Tryz.prog 166 [.d (zeN (w.length*4) (zab w)),.agg [.d (.i (nth funs y.1).arg.data),.d (.i (nth funs y.1).arg.index)]] [] (.d (.i (dv (zab w) (nth funs y.1).arg))) [] from zbS (f:=zab w) (a:=(nth funs y.1).arg.data) (k:=(nth funs y.1).arg.index) (hs.fin _ (zao od)) od) I (.some I I h19) I I (LeL.refl _) O I I I ?_;refine evd [] [(68,true)] ?_ ⟨⟨_,I,h19⟩,O⟩;apply sq<;>intro h20 h20p h20s<;>(try simp only[Q,xac] at h20p);refine Walk.call (cr:=[]) zbl (zaC (p:=y.2) (n:=3) hb od od) I (.some I I h20) I I (LeL.refl _) ⟨I,O⟩ I I I ?_;refine evd [] [(78,true)] ?_ ⟨⟨_,I,h20⟩,O⟩;refine dr ?_;apply sq<;>intro h21 h21p h21s<;>(try simp only[Q,xac] at h21p);refine ixq sl35 I I I (zag od) I ?_;refine ev (ar (wd zdQ (ih (a:=(nth funs y.1).arg.data) (k:=(nth funs y.1).arg.index) (p:=y.2+1) od ⟨hs.fin _ (zao od),(by show 0<dv (zab w) (nth funs y.1).arg;omega)⟩ od) I I ⟨I,O⟩ ?_));refine si [0] [_] sl39 tz41 ?_;refine bu [0,1,3] [_,_,_] st41 ?_;refine so ty41 ?_;apply tv;refine rn [(900,some (rdB b (zas b w funs vars (n+1+1) ⟨a,k⟩ p).2))] (ra ty41) (.agg (qeeee ?_ ?_ ?_ ?_)) ⟨I,I⟩ (SubO.get ⟨.inr ?_,⟨.inl I,O⟩⟩) (zaj I);rotate_left 5;refine ar (xaj (zaA b (zab w) ⟨a,k⟩ funs y) ⟨⟨by unfold zaA;dsimp only;omega,by unfold zaA;dsimp only;split<;>omega,by rw[<-hg2.2.2];exact(zbV (q:=y.2) od (by intro f1 f2 f3;first|omega|(simp_all;done)|(simp_all;omega))).symm⟩,ow,sx ⟨⟨_,I,xaV ?_⟩,O⟩ ⟨?_,O⟩⟩);focus (first|rfl|(unfold zaA;rfl)|omega)
 focus (first|rfl|(rw[zbJ (fun h=>by obtain⟨f1,f2⟩:=h;first|omega|(simp_all;done))];rfl)|(rw[zbx oh od];rfl)|(simp[getH];done))
 refine dr (sqF ?_);refine ar (xaj (zaA b (zab w) ⟨a,k⟩ funs y) ⟨⟨by unfold zaA;dsimp only;omega,by unfold zaA;dsimp only;split<;>omega,by rw[<-hg2.2.2];exact(zbV (q:=y.2) od (by intro f1 f2 f3;first|omega|(simp_all;done)|(simp_all;omega))).symm⟩,ow,sx ⟨⟨_,I,xaV ?_⟩,O⟩ ⟨?_,O⟩⟩);focus (first|rfl|(unfold zaA;rfl)|omega)
 focus (first|rfl|(rw[zbJ (fun h=>by obtain⟨f1,f2⟩:=h;first|omega|(simp_all;done))];rfl)|(rw[zbx oh od];rfl)|(simp[getH];done))
 refine sqF ?_;refine dr (sqF ?_);refine ar (xaj (zaA b (zab w) ⟨a,k⟩ funs y) ⟨⟨by unfold zaA;dsimp only;omega,by unfold zaA;dsimp only;split<;>omega,by rw[<-hg2.2.2];exact(zbV (q:=y.2) od (by intro f1 f2 f3;first|omega|(simp_all;done)|(simp_all;omega))).symm⟩,ow,sx ⟨⟨_,I,xaV ?_⟩,O⟩ ⟨?_,O⟩⟩);focus (first|rfl|(unfold zaA;rfl)|omega)
 focus (first|rfl|(rw[zbJ (fun h=>by obtain⟨f1,f2⟩:=h;first|omega|(simp_all;done))];rfl)|(rw[zbx oh od];rfl)|(simp[getH];done))
 have hf2:=hg2.2.2.symm.trans (zgM (funs:=funs) (j:=y.1) od);refine evc [] [] ?_;apply sq<;>intro h24 h24p h24s<;>(try simp only[Q,xac] at h24p);apply sq<;>intro h25 h25p h25s<;>(try simp only[Q,xac] at h25p);refine Walk.call (cr:=[]) zbl (zaC (p:=y.2) (n:=3) hb od od) I (.some I I h25) I I (LeL.refl _) ⟨I,O⟩ I I I ?_;refine evs [] [(105,true)] ?_ ⟨⟨_,I,h25⟩,O⟩;apply sq<;>intro h26 h26p h26s<;>(try simp only[Q,xac] at h26p);have hE:=((zb2 (b:=b) (w:=w) (funs:=funs) (n:=n+1) hv1 (by rw[if_neg od];exact hf2))).trans (zpW (n:=n+1) hi od od);refine ar (wd zdQ (ih (a:=a) (k:=k) (p:=y.2+1) od ht od) I I ⟨I,O⟩ ?_);refine evd [] [] (ar (wd zdQ (ih (a:=a) (k:=k) (p:=(zas b w funs vars (n+1) ⟨a,k⟩ (y.2+1)).2) od ht (by have:=hpos ⟨a,k⟩ (y.2+1) ht;omega)) I I ⟨I,O⟩ ?_));refine si [0,1] [_,_] sl39 tz41 ?_;refine bu [0,3] [_,_] st41 ?_;refine so ty41 ?_;refine dr (rn [(900,some (rdB b (zas b w funs vars (n+1+1) ⟨a,k⟩ p).2))] (ra ty41) (.agg (qeeee ?_ ?_ ?_ ?_)) ⟨I,I⟩ (SubO.get ⟨.inr ?_,⟨.inl I,O⟩⟩) (zaj I));rotate_left 5;have hE:=((zb2 (b:=b) (w:=w) (funs:=funs) (n:=n+1) hv1 (by rw[if_neg od];exact hf2))).trans (zgx (n:=n+1) hi (fun h=>by have:=h.2;omega) (if_neg od));apply sq<;>intro h27 h27p h27s<;>(try simp only[Q,xac] at h27p);exfalso;omega;apply sq<;>intro h28 h28p h28s<;>(try simp only[Q,xac] at h28p);refine wd zcs (hld (y.2+1) od) I I ⟨I,O⟩ ?_;refine wc zdn (hof (y.2+1)) I I ?_;refine so ty41 ?_;apply tv;refine rn [(900,some (rdB b (zas b w funs vars (n+1+1) ⟨a,k⟩ p).2))] (ra ty41) (.agg (qeeee ?_ ?_ ?_ ?_)) ⟨I,I⟩ (SubO.get ⟨.inr ?_,⟨.inl I,O⟩⟩) (zaj I);rotate_left 5;exfalso;omega;exfalso;omega;exfalso;omega;all_goals (first|((first|(rw[hE];all_goals first|done|rfl|(show D.sl _=D.sl (Ex.cs _);rw[xaH];all_goals rfl)|(show _=Ex.cs _;rw[xaH];all_goals rfl))|(rw[zdB (show varE b vars ⟨a,k⟩ vars.length p=_ from by rw[<-hg1.2.2];exact zdy od od ox)];all_goals rfl)|(rw[zgl hv1 od (hg2.2.2.symm.trans (zgN od oh od od))];all_goals first|done|rfl|(show D.sl _=D.sl (Ex.cs _);rw[xaH];all_goals rfl)|(show _=Ex.cs _;rw[xaH];all_goals rfl)));done)|(first|(rw[hE];all_goals first|done|rfl|(show D.sl _=D.sl (Ex.cs _);rw[xaH];all_goals rfl)|(show _=Ex.cs _;rw[xaH];all_goals rfl))|(rw[zdB (show varE b vars ⟨a,k⟩ vars.length p=_ from by rw[<-hg1.2.2];exact zdy od od ox)];all_goals rfl)|(rw[zgl hv1 od (hg2.2.2.symm.trans (zgN od oh od od))];all_goals first|done|rfl|(show D.sl _=D.sl (Ex.cs _);rw[xaH];all_goals rfl)|(show _=Ex.cs _;rw[xaH];all_goals rfl))))
theorem zpo {b:Str}{w:List Data}{funs:List Ft}{vars:List Vt} (hb:b.length<=2000) (hs:Sce w funs vars){n:Nat}{a k d:Int}{p:Nat} (hd:d=((n+1+1:Nat):Int)) (hn:n+1<=3) (ht:Gty w ⟨a,k⟩) (hp:p+KE (n+1+1)<=100000) (hi:¬a = -1)
  (ih:∀ {a k d:Int}{p:Nat},d=((n+1:Nat):Int)->Gty w ⟨a,k⟩->p+KE (n+1)<=100000->
  FnD Tryz.prog 85 [.ref 900 0,.d (zae w),.d (zaF funs),.d (zaP vars),.agg [.d (.i a),.d (.i k)],.d (.i d)] [(900,some (rdB b p))]
   (.agg [.d (.i (zas b w funs vars (n+1) ⟨a,k⟩ p).1.op),.d (.i (zas b w funs vars (n+1) ⟨a,k⟩ p).1.n),.d (.i (zas b w funs vars (n+1) ⟨a,k⟩ p).1.ctor),.d (zaE (zas b w funs vars (n+1) ⟨a,k⟩ p).1.kids)]) [(900,some (rdB b (zas b w funs vars (n+1) ⟨a,k⟩ p).2))]):
  FnD Tryz.prog 85 [.ref 900 0,.d (zae w),.d (zaF funs),.d (zaP vars),.agg [.d (.i a),.d (.i k)],.d (.i d)] [(900,some (rdB b p))]
   (.agg [.d (.i (zas b w funs vars (n+1+1) ⟨a,k⟩ p).1.op),.d (.i (zas b w funs vars (n+1+1) ⟨a,k⟩ p).1.n),.d (.i (zas b w funs vars (n+1+1) ⟨a,k⟩ p).1.ctor),.d (zaE (zas b w funs vars (n+1+1) ⟨a,k⟩ p).1.kids)]) [(900,some (rdB b (zas b w funs vars (n+1+1) ⟨a,k⟩ p).2))]:=by
 have hvl:=hs.vl;have hfl:=hs.fl;have htb:=zcG hs.dp;have h4:=hs.dp.four;have hpk:=fun(q:Nat) (hq:q<=200000) (h1:1<=vars.length)=>zaC (b:=b) (p:=q) (n:=((vars.map Vt.c).length:Int)) hb od (by first|omega|(rw[xac];omega));simp only[show ∀q,zan b q (((vars.map Vt.c).length:Nat):Int)=zan b q (vars.length:Int) from fun q=>by rw[xac]] at hpk;have e1:bdV 4=40:=by decide
 have e2:szV 4=121:=by decide
 have hK:KE (n+1+1)=50+3*KE (n+1):=rfl;have hpos:=fun(t:Ty) (q:Nat) (h:Gty w t)=>(zgJ (b:=b) hs n t q od h).1;subst hd;refine bd Tryz.f85 178 [] [8,9,13] fun _ _ _ _ hk=>?_;refine bx 3010 ?_;refine ab 3012 tz41 ?_;apply tv;refine wc zhr htb I I ?_;refine ev (xaA (ι:=Nat×Nat) hk (fun z=>[(14,.d (.i (z.1:Int)))]) [15,23,24,25,26,27,28,29,30,31,32,33,34,35,36,37,38,39,40,41,42,43,44,45,46,47,48,49,50] (fun z=>[(900,some (.box [.d (za7 b),.d (.i (z.2:Int))]))]) (fun z=>z.1<=vars.length/\z.2<=p+2*z.1/\varE b vars ⟨a,k⟩ (vars.length-z.1) z.2=varE b vars ⟨a,k⟩ vars.length p) (fun z=>vars.length-z.1) (0,p) ⟨by simp,by simp,by simp⟩ ⟨⟨_,I,xaV ?_⟩,O⟩ ⟨?_,O⟩ (fun x=>rfl) (fun z hg1=>?_));focus (first|rfl|(simp;done)|omega)
 focus (first|rfl|(simp[getH];done))
 refine evc [] [8,9,13] ?_;apply sq<;>intro h1 h1p h1s<;>(try simp only[Q,xac] at h1p);refine Walk.call (cr:=[]) zbl (zaC (p:=z.2) (n:=3) hb od od) I (.some I I h1) I I (LeL.refl _) ⟨I,O⟩ I I I ?_;refine evs [] [(27,true)] ?_ ⟨⟨_,I,h1⟩,O⟩;apply sq<;>intro h2 h2p h2s<;>(try simp only[Q,xac] at h2p);refine wd zbl (hpk (z.2+1) od od) I I ⟨I,O⟩ ?_;refine ev (xbB (i:=(zan b (z.2+1) vars.length).toNat) sl36 .none I I I (by have:=zaK (b:=b) (p:=z.2+1) (n:=(vars.length:Int)) od;omega) (zag (by have:=zaK (b:=b) (p:=z.2+1) (n:=(vars.length:Int)) od;omega)) I ?_);refine evd [] [] (wc zc9 (za6 (a:=(nth vars (zan b (z.2+1) vars.length).toNat).ty) (b:=⟨a,k⟩)) I I ?_);refine dr ?_;apply sq<;>intro h3 h3p h3s<;>(try simp only[Q,xac] at h3p);refine xbB (i:=(zan b (z.2+1) vars.length).toNat) sl36 .none I I I (by have:=zaK (b:=b) (p:=z.2+1) (n:=(vars.length:Int)) od;omega) (zag (by have:=zaK (b:=b) (p:=z.2+1) (n:=(vars.length:Int)) od;omega)) I ?_;refine ev (bu [0,1] [_,_] st41 ?_);refine so ty41 ?_;apply tv;refine rn [(900,some (rdB b (zas b w funs vars (n+1+1) ⟨a,k⟩ p).2))] (ra ty41) (.agg (qeeen ?_ ?_ ?_ ?_)) ⟨I,I⟩ (SubO.get ⟨.inr ?_,⟨.inl I,O⟩⟩) (zaj I);rotate_left 5;refine ar (xaj ((z.1+1,z.2+2)) ⟨⟨by dsimp only;omega,by dsimp only;omega,by dsimp only;rw[<-hg1.2.2,zf8 (m:=vars.length-z.1) od od ox];rw[Nat.sub_sub]⟩,oz,sx ⟨⟨_,I,xaV ?_⟩,O⟩ ⟨?_,O⟩⟩);focus (first|rfl|(simp;done)|omega)
 focus (first|rfl|(simp[getH];done))
 first|(obtain⟨p1,q1,hv1⟩:∃p1:Nat,p1=z.2+1/\varE b vars ⟨a,k⟩ vars.length p=(none,p1):=⟨_,rfl,by have e:=hg1.2.2;rw[zc0 od od] at e;rw[<-e]⟩;rw[<-q1])|(obtain⟨p1,q1,hv1⟩:∃p1:Nat,p1=z.2/\varE b vars ⟨a,k⟩ vars.length p=(none,p1):=⟨_,rfl,by have e:=hg1.2.2;rw[show vars.length-z.1=0 by omega] at e;rw[<-e];rfl⟩;rw[<-q1])
 refine evc [] [] (xaA (ι:=Nat×Nat) hk (fun y=>[(16,.d (.i (y.1:Int)))]) [51,52,53,54,55,56,57,58,59,60,61,62,63,64,65,66,67,68,69,70,71,72,73,74,75,76,77,78,79,80,81,82,83,84,85,86,87,88,89,90,91,92,93,94,95,96,97] (fun y=>[(900,some (.box [.d (za7 b),.d (.i (y.2:Int))]))]) (fun y=>y.1<=funs.length/\y.2<=p1+y.1/\funE b (zab w) ⟨a,k⟩ (funs.drop y.1) y.1 y.2=funE b (zab w) ⟨a,k⟩ funs 0 p1) (fun y=>funs.length-y.1) (0,p1) ⟨by simp,by simp,I⟩ ⟨⟨_,I,xaV ?_⟩,O⟩ ⟨?_,O⟩ (fun x=>rfl) (fun y hg2=>?_));focus (first|rfl|(unfold zaA;rfl)|omega)
 focus (first|rfl|(rw[zbJ (fun h=>by obtain⟨f1,f2⟩:=h;first|omega|(simp_all;done))];rfl)|(rw[zbx oh od];rfl)|(simp[getH];done))
 refine evc [] [8,9,13] (xaB (xbk 8 [(58,.d (.bool (decide ((y.1:Int)<funs.length))))] [51,52,53,54,55,56,57] ?_ ?_));refine ev ?_;apply sq<;>intro h4 h4p h4s<;>(try simp only[Q,xac] at h4p);exact jn I (xaU (by first|rfl|(simp only[xac] at *;rw[xat];simp only[xah,Bool.false_eq_true,false_iff];omega)|(rw[xac] at *;rw[xat];simp only[xah,Bool.false_eq_true,false_iff];omega)));exact jn I (xaU (by first|rfl|(simp only[xac] at *;rw[xat];simp only[xah,Bool.false_eq_true,false_iff];omega)|(rw[xac] at *;rw[xat];simp only[xah,Bool.false_eq_true,false_iff];omega)));refine xbj ?_;apply tv;apply sq<;>intro h5 h5p h5s<;>(try simp only[Q,xac] at h5p);refine ixq sl35 I I I (zag od) I ?_;refine evd [] [] (wc zc9 (za6 (a:=(nth funs y.1).res) (b:=⟨a,k⟩)) I I ?_);refine evd [] [] ?_;apply sq<;>intro h6 h6p h6s<;>(try simp only[Q,xac] at h6p);refine xbB sl35 (.some I I h6) I I I I (zag od) I ?_;refine evd [] [(68,true)] ?_ ⟨⟨_,I,h6⟩,O⟩;refine Walk.call (cr:=[]) zeL (show FnD Tryz.prog 166 [.d (zeN (w.length*4) (zab w)),.agg [.d (.i (nth funs y.1).arg.data),.d (.i (nth funs y.1).arg.index)]] [] (.d (.i (dv (zab w) (nth funs y.1).arg))) [] from zbS (f:=zab w) (a:=(nth funs y.1).arg.data) (k:=(nth funs y.1).arg.index) (hs.fin _ (zao od)) od) I (.some I I h6) I I (LeL.refl _) O I I I ?_;refine evd [] [(68,true)] ?_ ⟨⟨_,I,h6⟩,O⟩;apply sq<;>intro h7 h7p h7s<;>(try simp only[Q,xac] at h7p);refine Walk.call (cr:=[]) zbl (zaC (p:=y.2) (n:=3) hb od od) I (.some I I h7) I I (LeL.refl _) ⟨I,O⟩ I I I ?_;refine evd [] [(78,true)] ?_ ⟨⟨_,I,h7⟩,O⟩;refine dr ?_;apply sq<;>intro h8 h8p h8s<;>(try simp only[Q,xac] at h8p);refine ixq sl35 I I I (zag od) I ?_;refine ev (ar (wd zdQ (ih (a:=(nth funs y.1).arg.data) (k:=(nth funs y.1).arg.index) (p:=y.2+1) od ⟨hs.fin _ (zao od),(by show 0<dv (zab w) (nth funs y.1).arg;omega)⟩ od) I I ⟨I,O⟩ ?_));refine si [0] [_] sl39 tz41 ?_;refine bu [0,1,3] [_,_,_] st41 ?_;refine so ty41 ?_;apply tv;refine rn [(900,some (rdB b (zas b w funs vars (n+1+1) ⟨a,k⟩ p).2))] (ra ty41) (.agg (qeeee ?_ ?_ ?_ ?_)) ⟨I,I⟩ (SubO.get ⟨.inr ?_,⟨.inl I,O⟩⟩) (zaj I);rotate_left 5;refine ar (xaj (zaA b (zab w) ⟨a,k⟩ funs y) ⟨⟨by unfold zaA;dsimp only;omega,by unfold zaA;dsimp only;split<;>omega,by rw[<-hg2.2.2];exact(zbV (q:=y.2) od (by intro f1 f2 f3;first|omega|(simp_all;done)|(simp_all;omega))).symm⟩,ow,sx ⟨⟨_,I,xaV ?_⟩,O⟩ ⟨?_,O⟩⟩);focus (first|rfl|(unfold zaA;rfl)|omega)
 focus (first|rfl|(rw[zbJ (fun h=>by obtain⟨f1,f2⟩:=h;first|omega|(simp_all;done))];rfl)|(rw[zbx oh od];rfl)|(simp[getH];done))
 refine dr (sqF ?_);refine ar (xaj (zaA b (zab w) ⟨a,k⟩ funs y) ⟨⟨by unfold zaA;dsimp only;omega,by unfold zaA;dsimp only;split<;>omega,by rw[<-hg2.2.2];exact(zbV (q:=y.2) od (by intro f1 f2 f3;first|omega|(simp_all;done)|(simp_all;omega))).symm⟩,ow,sx ⟨⟨_,I,xaV ?_⟩,O⟩ ⟨?_,O⟩⟩);focus (first|rfl|(unfold zaA;rfl)|omega)
 focus (first|rfl|(rw[zbJ (fun h=>by obtain⟨f1,f2⟩:=h;first|omega|(simp_all;done))];rfl)|(rw[zbx oh od];rfl)|(simp[getH];done))
 refine sqF ?_;refine dr (sqF ?_);refine ar (xaj (zaA b (zab w) ⟨a,k⟩ funs y) ⟨⟨by unfold zaA;dsimp only;omega,by unfold zaA;dsimp only;split<;>omega,by rw[<-hg2.2.2];exact(zbV (q:=y.2) od (by intro f1 f2 f3;first|omega|(simp_all;done)|(simp_all;omega))).symm⟩,ow,sx ⟨⟨_,I,xaV ?_⟩,O⟩ ⟨?_,O⟩⟩);focus (first|rfl|(unfold zaA;rfl)|omega)
 focus (first|rfl|(rw[zbJ (fun h=>by obtain⟨f1,f2⟩:=h;first|omega|(simp_all;done))];rfl)|(rw[zbx oh od];rfl)|(simp[getH];done))
 have hf2:=hg2.2.2.symm.trans (zgM (funs:=funs) (j:=y.1) od);have hdp:=ht.deep hs.low (m:=((n+1+1:Nat):Int)) od;have hl2:=zb6 hb hs.dp hs.few 4 (a:=a) (k:=k) (m:=((n+1+1:Nat):Int)) (p:=y.2) hdp od od od;have hgk:=ziQ (b:=b) hs.dp hs.few hdp hi y.2;have hvk:=(zct (b:=b) hs.dp hs.few 4 ⟨a,k⟩ ((n+1+1:Nat):Int) y.2 hdp).1;have hE:=fun vx hx=>((zb2 (b:=b) (w:=w) (funs:=funs) (n:=n+1) hv1 (by rw[if_neg od];exact hf2))).trans (zpX (n:=n+1) hi od (x:=vx) hx);generalize hx:zaS b w (zab w) 4 ⟨a,k⟩ ((n+1+1:Nat):Int) y.2=vx at hl2 hgk hvk;have hE:=hE vx hx;refine evc [] [] ?_;apply sq<;>intro h11 h11p h11s<;>(try simp only[Q,xac] at h11p);exfalso;omega;refine sqF ?_;refine sqF ?_;apply sq<;>intro h13 h13p h13s<;>(try simp only[Q,xac] at h13p);exfalso;omega;apply sq<;>intro h14 h14p h14s<;>(try simp only[Q,xac] at h14p);exfalso;omega;refine wd zcs hl2 I I ⟨I,O⟩ ?_;refine ab 3017 zg6 ?_;refine so zdT ?_;apply tv;refine bu [0,2] [_,_] st41 ?_;refine ab 3018 tz41 ?_;refine so ty41 ?_;apply tv;refine wc zdm (zbW hs.dp.wt (zdY ht.ins) hgk.1) I I ?_;refine ev (xaC 3018 3 1 4 I I I I (xaA (ι:=List (Ty)×List (Ty)×(Nat)×(List Ex)) hk (fun x=>[(20,.d (.i (x.1.length:Int)))]) [155,156,157,158,159,160,161,162,163,164,165,166,167,168,169,170,171,172,173,174,175,176] (fun x=>[(900,some (.box [.d (za7 b),.d (.i (x.2.2.1:Int))])),(3018,some (.box [.d (.i 3),.d (.i 0),.d (.i vx.1.ctor),.gl 1 (x.2.2.2.map Ex.cc)])),(1,some (.tok (x.2.2.2.map Ex.cc).length 4))]) (fun x=>x.1++x.2.1=zac w ⟨a,k⟩ vx.1.ctor/\x.2.2.2.length=x.1.length/\x.2.2.1<=vx.2+x.1.length*KE (n+1)/\(x.2.2.2++(dE (zas b w funs vars (n+1)) x.2.1 x.2.2.1).1,(dE (zas b w funs vars (n+1)) x.2.1 x.2.2.1).2)=dE (zas b w funs vars (n+1)) (zac w ⟨a,k⟩ vx.1.ctor) vx.2) (fun x=>x.2.1.length) ([],zac w ⟨a,k⟩ vx.1.ctor,vx.2,[]) ⟨by simp,by simp,by simp,by simp⟩ ⟨⟨_,I,xaV ?_⟩,O⟩ ⟨?_,⟨?_,⟨zaq ?_,O⟩⟩⟩ (fun x=>rfl) (fun x hg3=>?_)));focus (first|rfl|(simp;done)|omega|(simp;omega))
 iterate 2 focus (first|rfl|(simp[getH];done))
 focus (first|rfl|(simp;done)|omega|(simp;omega))
 obtain⟨pre,rest,q,ks⟩:=x;dsimp only at hg3 ⊢;refine evc [] [8,9,13] ?_;apply sq<;>intro h15 h15p h15s<;>(try simp only[Q,xac] at h15p);rcases rest with _|⟨u,rest⟩
 ·exfalso;simp_all
 refine ixq zaJ I I I (zaM hg3.1) I (evd [] [] (ar (wd zdQ (ih (a:=u.data) (k:=u.index) (d:=((n+1+1:Nat):Int)-1) (p:=q) od (hgk.2.2 u (by rw[<-hg3.1];simp)) (by have hz:=xam List.length hg3.1;have hm:pre.length*KE (n+1)<=2*KE (n+1):=xav _ (by have:=hgk.2.1;simp at hz;omega);omega)) I I ⟨I,O⟩ ?_)));refine si [0] [_] sl39 tz41 ?_;refine ap sl39 zz41 I I I og (by have hz:=xam List.length hg3.1;have:=hgk.2.1;have:=hg3.2.1;simp at hz ⊢;omega) ?_;refine evd [] [] (so ty39 ?_);refine dr (ar (xaj ((pre++[u],rest,(zas b w funs vars (n+1) u q).2,ks++[(zas b w funs vars (n+1) u q).1])) ⟨⟨(by have hz:=hg3.1;rw[<-hz];simp),⟨(by simp[hg3.2.1]),(by have:=hpos u q (hgk.2.2 u (by rw[<-hg3.1];simp));have:=hg3.2.2.1;simp only[xaa,xab,xak,Nat.add_mul];omega),(by rw[<-hg3.2.2.2];simp[dE])⟩⟩,og,sx ⟨⟨_,I,xaV ?_⟩,O⟩ ⟨?_,⟨?_,⟨zaq ?_,O⟩⟩⟩⟩));focus (first|rfl|(simp;done)|omega|(simp;omega))
 iterate 2 focus (first|rfl|(simp[getH];done))
 focus (first|rfl|(simp;done)|omega|(simp;omega))
 have hrest:rest=[]:=by
  rcases rest with _|⟨a,b⟩
  ·rfl
  ·exfalso;have hz:=xam List.length (hg3.1);simp only[xaa,xab,xac] at hz;omega
 subst hrest;refine so ty41 ?_;apply tv;refine rn [(900,some (rdB b (zas b w funs vars (n+1+1) ⟨a,k⟩ p).2))] (ra ty41) (.agg (qeeeg ?_ ?_ ?_ ?_)) ⟨I,I⟩ (SubO.get ⟨.inr ?_,⟨.inl I,O⟩⟩) (zaj I);rotate_left 5;refine sqF ?_;first|(obtain⟨p1,q1,hv1⟩:∃p1:Nat,p1=z.2+1/\varE b vars ⟨a,k⟩ vars.length p=(none,p1):=⟨_,rfl,by have e:=hg1.2.2;rw[zc0 od od] at e;rw[<-e]⟩;rw[<-q1])|(obtain⟨p1,q1,hv1⟩:∃p1:Nat,p1=z.2/\varE b vars ⟨a,k⟩ vars.length p=(none,p1):=⟨_,rfl,by have e:=hg1.2.2;rw[show vars.length-z.1=0 by omega] at e;rw[<-e];rfl⟩;rw[<-q1])
 refine evc [] [] (xaA (ι:=Nat×Nat) hk (fun y=>[(16,.d (.i (y.1:Int)))]) [51,52,53,54,55,56,57,58,59,60,61,62,63,64,65,66,67,68,69,70,71,72,73,74,75,76,77,78,79,80,81,82,83,84,85,86,87,88,89,90,91,92,93,94,95,96,97] (fun y=>[(900,some (.box [.d (za7 b),.d (.i (y.2:Int))]))]) (fun y=>y.1<=funs.length/\y.2<=p1+y.1/\funE b (zab w) ⟨a,k⟩ (funs.drop y.1) y.1 y.2=funE b (zab w) ⟨a,k⟩ funs 0 p1) (fun y=>funs.length-y.1) (0,p1) ⟨by simp,by simp,I⟩ ⟨⟨_,I,xaV ?_⟩,O⟩ ⟨?_,O⟩ (fun x=>rfl) (fun y hg2=>?_));focus (first|rfl|(unfold zaA;rfl)|omega)
 focus (first|rfl|(rw[zbJ (fun h=>by obtain⟨f1,f2⟩:=h;first|omega|(simp_all;done))];rfl)|(rw[zbx oh od];rfl)|(simp[getH];done))
 refine evc [] [8,9,13] (xaB (xbk 8 [(58,.d (.bool (decide ((y.1:Int)<funs.length))))] [51,52,53,54,55,56,57] ?_ ?_));refine ev ?_;apply sq<;>intro h17 h17p h17s<;>(try simp only[Q,xac] at h17p);exact jn I (xaU (by first|rfl|(simp only[xac] at *;rw[xat];simp only[xah,Bool.false_eq_true,false_iff];omega)|(rw[xac] at *;rw[xat];simp only[xah,Bool.false_eq_true,false_iff];omega)));exact jn I (xaU (by first|rfl|(simp only[xac] at *;rw[xat];simp only[xah,Bool.false_eq_true,false_iff];omega)|(rw[xac] at *;rw[xat];simp only[xah,Bool.false_eq_true,false_iff];omega)));refine xbj ?_;apply tv;apply sq<;>intro h18 h18p h18s<;>(try simp only[Q,xac] at h18p);refine ixq sl35 I I I (zag od) I ?_;refine evd [] [] (wc zc9 (za6 (a:=(nth funs y.1).res) (b:=⟨a,k⟩)) I I ?_);refine evd [] [] ?_;apply sq<;>intro h19 h19p h19s<;>(try simp only[Q,xac] at h19p);refine xbB sl35 (.some I I h19) I I I I (zag od) I ?_;refine evd [] [(68,true)] ?_ ⟨⟨_,I,h19⟩,O⟩;refine Walk.call (cr:=[]) zeL (show FnD Tryz.prog 166 [.d (zeN (w.length*4) (zab w)),.agg [.d (.i (nth funs y.1).arg.data),.d (.i (nth funs y.1).arg.index)]] [] (.d (.i (dv (zab w) (nth funs y.1).arg))) [] from zbS (f:=zab w) (a:=(nth funs y.1).arg.data) (k:=(nth funs y.1).arg.index) (hs.fin _ (zao od)) od) I (.some I I h19) I I (LeL.refl _) O I I I ?_;refine evd [] [(68,true)] ?_ ⟨⟨_,I,h19⟩,O⟩;apply sq<;>intro h20 h20p h20s<;>(try simp only[Q,xac] at h20p);refine Walk.call (cr:=[]) zbl (zaC (p:=y.2) (n:=3) hb od od) I (.some I I h20) I I (LeL.refl _) ⟨I,O⟩ I I I ?_;refine evd [] [(78,true)] ?_ ⟨⟨_,I,h20⟩,O⟩;refine dr ?_;apply sq<;>intro h21 h21p h21s<;>(try simp only[Q,xac] at h21p);refine ixq sl35 I I I (zag od) I ?_;refine ev (ar (wd zdQ (ih (a:=(nth funs y.1).arg.data) (k:=(nth funs y.1).arg.index) (p:=y.2+1) od ⟨hs.fin _ (zao od),(by show 0<dv (zab w) (nth funs y.1).arg;omega)⟩ od) I I ⟨I,O⟩ ?_));refine si [0] [_] sl39 tz41 ?_;refine bu [0,1,3] [_,_,_] st41 ?_;refine so ty41 ?_;apply tv;refine rn [(900,some (rdB b (zas b w funs vars (n+1+1) ⟨a,k⟩ p).2))] (ra ty41) (.agg (qeeee ?_ ?_ ?_ ?_)) ⟨I,I⟩ (SubO.get ⟨.inr ?_,⟨.inl I,O⟩⟩) (zaj I);rotate_left 5;refine ar (xaj (zaA b (zab w) ⟨a,k⟩ funs y) ⟨⟨by unfold zaA;dsimp only;omega,by unfold zaA;dsimp only;split<;>omega,by rw[<-hg2.2.2];exact(zbV (q:=y.2) od (by intro f1 f2 f3;first|omega|(simp_all;done)|(simp_all;omega))).symm⟩,ow,sx ⟨⟨_,I,xaV ?_⟩,O⟩ ⟨?_,O⟩⟩);focus (first|rfl|(unfold zaA;rfl)|omega)
 focus (first|rfl|(rw[zbJ (fun h=>by obtain⟨f1,f2⟩:=h;first|omega|(simp_all;done))];rfl)|(rw[zbx oh od];rfl)|(simp[getH];done))
 refine dr (sqF ?_);refine ar (xaj (zaA b (zab w) ⟨a,k⟩ funs y) ⟨⟨by unfold zaA;dsimp only;omega,by unfold zaA;dsimp only;split<;>omega,by rw[<-hg2.2.2];exact(zbV (q:=y.2) od (by intro f1 f2 f3;first|omega|(simp_all;done)|(simp_all;omega))).symm⟩,ow,sx ⟨⟨_,I,xaV ?_⟩,O⟩ ⟨?_,O⟩⟩);focus (first|rfl|(unfold zaA;rfl)|omega)
 focus (first|rfl|(rw[zbJ (fun h=>by obtain⟨f1,f2⟩:=h;first|omega|(simp_all;done))];rfl)|(rw[zbx oh od];rfl)|(simp[getH];done))
 refine sqF ?_;refine dr (sqF ?_);refine ar (xaj (zaA b (zab w) ⟨a,k⟩ funs y) ⟨⟨by unfold zaA;dsimp only;omega,by unfold zaA;dsimp only;split<;>omega,by rw[<-hg2.2.2];exact(zbV (q:=y.2) od (by intro f1 f2 f3;first|omega|(simp_all;done)|(simp_all;omega))).symm⟩,ow,sx ⟨⟨_,I,xaV ?_⟩,O⟩ ⟨?_,O⟩⟩);focus (first|rfl|(unfold zaA;rfl)|omega)
 focus (first|rfl|(rw[zbJ (fun h=>by obtain⟨f1,f2⟩:=h;first|omega|(simp_all;done))];rfl)|(rw[zbx oh od];rfl)|(simp[getH];done))
 have hf2:=hg2.2.2.symm.trans (zgM (funs:=funs) (j:=y.1) od);have hdp:=ht.deep hs.low (m:=((n+1+1:Nat):Int)) od;have hl2:=zb6 hb hs.dp hs.few 4 (a:=a) (k:=k) (m:=((n+1+1:Nat):Int)) (p:=y.2) hdp od od od;have hgk:=ziQ (b:=b) hs.dp hs.few hdp hi y.2;have hvk:=(zct (b:=b) hs.dp hs.few 4 ⟨a,k⟩ ((n+1+1:Nat):Int) y.2 hdp).1;have hE:=fun vx hx=>((zb2 (b:=b) (w:=w) (funs:=funs) (n:=n+1) hv1 (by rw[if_neg od];exact hf2))).trans (zpX (n:=n+1) hi od (x:=vx) hx);generalize hx:zaS b w (zab w) 4 ⟨a,k⟩ ((n+1+1:Nat):Int) y.2=vx at hl2 hgk hvk;have hE:=hE vx hx;refine evc [] [] ?_;apply sq<;>intro h24 h24p h24s<;>(try simp only[Q,xac] at h24p);exfalso;omega;refine sqF ?_;refine sqF ?_;apply sq<;>intro h26 h26p h26s<;>(try simp only[Q,xac] at h26p);exfalso;omega;apply sq<;>intro h27 h27p h27s<;>(try simp only[Q,xac] at h27p);exfalso;omega;refine wd zcs hl2 I I ⟨I,O⟩ ?_;refine ab 3017 zg6 ?_;refine so zdT ?_;apply tv;refine bu [0,2] [_,_] st41 ?_;refine ab 3018 tz41 ?_;refine so ty41 ?_;apply tv;refine wc zdm (zbW hs.dp.wt (zdY ht.ins) hgk.1) I I ?_;refine ev (xaC 3018 3 1 4 I I I I (xaA (ι:=List (Ty)×List (Ty)×(Nat)×(List Ex)) hk (fun x=>[(20,.d (.i (x.1.length:Int)))]) [155,156,157,158,159,160,161,162,163,164,165,166,167,168,169,170,171,172,173,174,175,176] (fun x=>[(900,some (.box [.d (za7 b),.d (.i (x.2.2.1:Int))])),(3018,some (.box [.d (.i 3),.d (.i 0),.d (.i vx.1.ctor),.gl 1 (x.2.2.2.map Ex.cc)])),(1,some (.tok (x.2.2.2.map Ex.cc).length 4))]) (fun x=>x.1++x.2.1=zac w ⟨a,k⟩ vx.1.ctor/\x.2.2.2.length=x.1.length/\x.2.2.1<=vx.2+x.1.length*KE (n+1)/\(x.2.2.2++(dE (zas b w funs vars (n+1)) x.2.1 x.2.2.1).1,(dE (zas b w funs vars (n+1)) x.2.1 x.2.2.1).2)=dE (zas b w funs vars (n+1)) (zac w ⟨a,k⟩ vx.1.ctor) vx.2) (fun x=>x.2.1.length) ([],zac w ⟨a,k⟩ vx.1.ctor,vx.2,[]) ⟨by simp,by simp,by simp,by simp⟩ ⟨⟨_,I,xaV ?_⟩,O⟩ ⟨?_,⟨?_,⟨zaq ?_,O⟩⟩⟩ (fun x=>rfl) (fun x hg3=>?_)));focus (first|rfl|(simp;done)|omega|(simp;omega))
 iterate 2 focus (first|rfl|(simp[getH];done))
 focus (first|rfl|(simp;done)|omega|(simp;omega))
 obtain⟨pre,rest,q,ks⟩:=x;dsimp only at hg3 ⊢;refine evc [] [8,9,13] ?_;apply sq<;>intro h28 h28p h28s<;>(try simp only[Q,xac] at h28p);rcases rest with _|⟨u,rest⟩
 ·exfalso;simp_all
 refine ixq zaJ I I I (zaM hg3.1) I (evd [] [] (ar (wd zdQ (ih (a:=u.data) (k:=u.index) (d:=((n+1+1:Nat):Int)-1) (p:=q) od (hgk.2.2 u (by rw[<-hg3.1];simp)) (by have hz:=xam List.length hg3.1;have hm:pre.length*KE (n+1)<=2*KE (n+1):=xav _ (by have:=hgk.2.1;simp at hz;omega);omega)) I I ⟨I,O⟩ ?_)));refine si [0] [_] sl39 tz41 ?_;refine ap sl39 zz41 I I I og (by have hz:=xam List.length hg3.1;have:=hgk.2.1;have:=hg3.2.1;simp at hz ⊢;omega) ?_;refine evd [] [] (so ty39 ?_);refine dr (ar (xaj ((pre++[u],rest,(zas b w funs vars (n+1) u q).2,ks++[(zas b w funs vars (n+1) u q).1])) ⟨⟨(by have hz:=hg3.1;rw[<-hz];simp),⟨(by simp[hg3.2.1]),(by have:=hpos u q (hgk.2.2 u (by rw[<-hg3.1];simp));have:=hg3.2.2.1;simp only[xaa,xab,xak,Nat.add_mul];omega),(by rw[<-hg3.2.2.2];simp[dE])⟩⟩,og,sx ⟨⟨_,I,xaV ?_⟩,O⟩ ⟨?_,⟨?_,⟨zaq ?_,O⟩⟩⟩⟩));focus (first|rfl|(simp;done)|omega|(simp;omega))
 iterate 2 focus (first|rfl|(simp[getH];done))
 focus (first|rfl|(simp;done)|omega|(simp;omega))
 have hrest:rest=[]:=by
  rcases rest with _|⟨a,b⟩
  ·rfl
  ·exfalso;have hz:=xam List.length (hg3.1);simp only[xaa,xab,xac] at hz;omega
 subst hrest;refine so ty41 ?_;apply tv;refine rn [(900,some (rdB b (zas b w funs vars (n+1+1) ⟨a,k⟩ p).2))] (ra ty41) (.agg (qeeeg ?_ ?_ ?_ ?_)) ⟨I,I⟩ (SubO.get ⟨.inr ?_,⟨.inl I,O⟩⟩) (zaj I);rotate_left 5;all_goals (first|((first|(have hfin:=hg3.2.2.2;simp only[dE,xaq] at hfin;rw[hE,<-hfin];all_goals first|done|rfl|(show D.sl _=D.sl (Ex.cs _);rw[xaH];all_goals rfl)|(show _=Ex.cs _;rw[xaH];all_goals rfl))|(rw[zdB (show varE b vars ⟨a,k⟩ vars.length p=_ from by rw[<-hg1.2.2];exact zdy od od ox)];all_goals rfl)|(rw[zgl hv1 od (hg2.2.2.symm.trans (zgN od oh od od))];all_goals first|done|rfl|(show D.sl _=D.sl (Ex.cs _);rw[xaH];all_goals rfl)|(show _=Ex.cs _;rw[xaH];all_goals rfl)));done)|(first|(have hfin:=hg3.2.2.2;simp only[dE,xaq] at hfin;rw[hE,<-hfin];all_goals first|done|rfl|(show D.sl _=D.sl (Ex.cs _);rw[xaH];all_goals rfl)|(show _=Ex.cs _;rw[xaH];all_goals rfl))|(rw[zdB (show varE b vars ⟨a,k⟩ vars.length p=_ from by rw[<-hg1.2.2];exact zdy od od ox)];all_goals rfl)|(rw[zgl hv1 od (hg2.2.2.symm.trans (zgN od oh od od))];all_goals first|done|rfl|(show D.sl _=D.sl (Ex.cs _);rw[xaH];all_goals rfl)|(show _=Ex.cs _;rw[xaH];all_goals rfl))))
theorem zdl {b:Str}{w:List Data}{funs:List Ft}{vars:List Vt} (hb:b.length<=2000) (hs:Sce w funs vars):∀(n:Nat){a k d:Int}{p:Nat},d=((n+1:Nat):Int)->n<=3->Gty w ⟨a,k⟩->p+KE (n+1)<=100000->
  FnD Tryz.prog 85 [.ref 900 0,.d (zae w),.d (zaF funs),.d (zaP vars),.agg [.d (.i a),.d (.i k)],.d (.i d)] [(900,some (rdB b p))]
   (.agg [.d (.i (zas b w funs vars (n+1) ⟨a,k⟩ p).1.op),.d (.i (zas b w funs vars (n+1) ⟨a,k⟩ p).1.n),.d (.i (zas b w funs vars (n+1) ⟨a,k⟩ p).1.ctor),.d (zaE (zas b w funs vars (n+1) ⟨a,k⟩ p).1.kids)]) [(900,some (rdB b (zas b w funs vars (n+1) ⟨a,k⟩ p).2))]
 |0,a,k,d,p,hd,hn,ht,hp=>by
  by_cases hi:a = -1
  ·exact zob (n:=0) hb hs hd hn ht hp hi
  ·exact zoc (n:=0) hb hs hd hn ht hp hi
 |n+1,a,k,d,p,hd,hn,ht,hp=>by
  by_cases hi:a = -1
  ·exact zpp hb hs hd hn ht hp hi (fun {a k d p} q1 q2 q3=>zdl hb hs n q1 od q2 q3)
  ·exact zpo hb hs hd hn ht hp hi (fun {a k d p} q1 q2 q3=>zdl hb hs n q1 od q2 q3)
end Go.Proofs.YtmkipahfpaacgaaGreatDoor
namespace Go.Proofs.YtmkipahfpaacgaaGreatDoor
open Go Go.RowKit
set_option linter.unusedSimpArgs false
set_option linter.unusedVariables false
section
variable {c:Ctx}{env:Env}{hp:Hp}{K:Kt}{code:Code}
theorem R.gvGl {G:Gh}{a:Act}{w:World} (hr:R c G ⟨env,hp⟩ a w){id id2 n k:Nat}{xs:List (List D)}{v:Value} (hv:RelA G (tokf hp) w (.gv id xs) v) (hb:getH hp id=some (.tok n k)) (hn:n=xs.length) (hf:zax env hp [id2]=true):
  ∃G',R c G' ⟨env,(id2,some (.tok n k))::(id,none)::hp⟩ a w/\RelA G' (tokf ((id2,some (.tok n k))::(id,none)::hp)) w (.gl id2 xs) v:=by
 obtain⟨h0,hocc⟩:=zbw hf id2 og;have h0':getH hp id2=none:=h0;have hne:id2≠id:=fun e=>by subst e;rw[h0'] at hb;cases hb
 obtain⟨⟨ad,cap0,hv0⟩,hcl⟩:=hv.gv_inv;obtain⟨hkx,htip⟩:=(hcl _ _ (zak.2 hb)).2 hn;have s1:(getH hp id).isSome:=by rw[hb];rfl
 have hbd:=(hr.heap id _ hb).bound;let G':Gh:={ F:=fun x=>bif zaG x (G.loc id) then n*k else G.F x,loc:=fun i=>bif Nat.beq i id2 then G.loc id else G.loc i }
 have l1:G'.loc id2=G.loc id:=by simp[G']
 have l3:∀i,i≠id2->G'.loc i=G.loc i:=fun i h2=>by simp[G',zed h2]
 have nel:∀ {x:Nat}{l:List Nat},x∉l->zaG x l=false:=fun {x l} hx=>by
  cases h:zaG x l with
  |true=>exact absurd (zaw.1 h) hx
  |false=>rfl
 have hout:∀x,x∉G.loc id->G'.F x=G.F x:=fun x hx=>by simp[G',nel hx]
 have hF0:∀x,x∈G.loc id->G.F x=0:=fun x hx=>by
  rcases htip with ⟨e1,_⟩|⟨b,cap,cs,e,e1,e2,e3,_⟩
  ·rw[e1] at hx;simp at hx
  ·rw[e1,List.mem_singleton] at hx;rw[hx];exact e3
 have g1:getH ((id2,some (Res.tok n k))::(id,none)::hp) id2=some (.tok n k):=by rw[zaa,if_pos rfl]
 have g2:getH ((id2,some (Res.tok n k))::(id,none)::hp) id=none:=by rw[zaa,if_neg (Ne.symm hne),zaa,if_pos rfl]
 have t2:tokf ((id2,some (Res.tok n k))::(id,none)::hp) id=none:=by unfold tokf;rw[g2]
 have t1:tokf ((id2,some (Res.tok n k))::(id,none)::hp) id2=some (n,k):=zak.2 g1;have hturn:Turn c G ⟨env,hp⟩ w G' ((id2,some (.tok n k))::(id,none)::hp) [id,id2]:=by
  refine⟨fun i hi=>?_,fun i hi=>?_,fun x hx=>?_,fun x o ho=>?_,fun x hx=>?_,fun i hi=>?_,fun i hi hs x hx=>?_,fun i hi j hj hij h1 h2 x hx=>?_,fun i hi l hl=>?_⟩
  ·simp only[List.mem_cons,xau,or_false,not_or] at hi;rw[zaa,if_neg hi.2,zaa,if_neg hi.1]
  ·simp only[List.mem_cons,xau,or_false,not_or] at hi;exact l3 i hi.2
  ·exact hout x (hx id og s1)
  ·by_cases hx:x∈G.loc id
   ·rw[hF0 x hx] at ho;omega
   ·rw[hout x hx];exact ho
  ·by_cases hx':x∈G.loc id
   ·have:=hbd x hx';omega
   ·rw[hout x hx'];exact hr.top x hx
  ·simp only[List.mem_cons,xau,or_false] at hi;rcases hi with rfl|rfl
   ·exact .inr ⟨.inl (l3 i (Ne.symm hne)),fun p hp=>by rw[t2] at hp;cases hp⟩
   ·exact .inl hocc
  ·simp only[List.mem_cons,xau,or_false] at hi;rcases hi with rfl|rfl
   ·rw[g2] at hs;cases hs
   ·rw[l1] at hx;exact⟨id,by simp,s1,hx⟩
  ·simp only[List.mem_cons,xau,or_false] at hi hj;rcases hi with rfl|rfl
   ·rw[g2] at h1;cases h1
   ·rcases hj with rfl|rfl
    ·rw[g2] at h2;cases h2
    ·exact absurd I hij
  ·simp only[List.mem_cons,xau,or_false] at hi;have hk0:=hr.kept i l hl;rcases hi with rfl|rfl
   ·have:=hk0.2.2;rw[show(⟨env,hp⟩:St).hp=hp from rfl,zak.2 hb] at this;cases this
   ·have:=hk0.2.1;rw[show(⟨env,hp⟩:St).hp=hp from rfl,h0'] at this;cases this
 refine⟨G',hturn.fin hr (fun i hi r hri=>?_), ?_⟩
 ·simp only[List.mem_cons,xau,or_false] at hi;rcases hi with rfl|rfl
  ·rw[g2] at hri;cases hri
  ·rw[g1] at hri;cases hri
   intro b hb;rw[l1] at hb;exact hbd b hb
 ·rcases htip with ⟨e1,e2,e3⟩|⟨b,cap,us,e,e1,e2,e3,e4,e5,e6,e7⟩
  ·have hz:xs=[]:=List.eq_nil_of_length_eq_zero od;subst hz;rw[e3];refine .gl .nil (fun n' k' hT=>?_);rw[t1] at hT;cases hT;exact⟨by simp,fun _=>⟨hkx,.inl ⟨by rw[l1,e1],e2,rfl⟩⟩⟩
  ·have hFb:G'.F b=n*k:=by simp[G',e1,zaG]
   have hmono:∀b' o,o<G.F b'->o<G'.F b'/\w.cell? ⟨b',o,none⟩=w.cell? ⟨b',o,none⟩:=fun b' o ho=>by
    refine⟨?_,rfl⟩;by_cases hx:b'∈G.loc id
    ·rw[hF0 b' hx] at ho;omega
    ·rw[hout b' hx];exact ho
   rw[e2];have hle:n*k<=us.size:=Nat.le_trans (xav _ e6) e5;have hrd:RelD G'.F w (.sl xs) (.slice (some ⟨b,0,none⟩) n cap):=by
    subst hn;refine .sl xs k b 0 cap (fun q=>us.getD q undef) hkx e6 (fun q hq=>⟨by rw[hFb];omega, ?_⟩) (fun i hi j hj=>(e7 i hi j hj).mono hmono);have:q<us.size:=by omega
    simp[World.cell?,e4,this]
   refine .gl hrd (fun n' k' hT=>?_);rw[t1] at hT;cases hT;exact⟨by omega,fun _=>⟨hkx,.inr ⟨b,cap,us,e,by rw[l1,e1],rfl,hFb,e4,e5,e6⟩⟩⟩
theorem CWp.gvGl (t id id2 k:Nat){n:Nat}{xs:List (List D)} (ht:getE env t=some (.gv id xs)) (hb:getH hp id=some (.tok n k)) (hn:n=xs.length) (hf:zax env hp [id2]=true)
  (hx:CWp c code ⟨(t,.gl id2 xs)::env,(id2,some (.tok n k))::(id,none)::hp⟩ K):CWp c code ⟨env,hp⟩ K:=by
 rintro a w ⟨G,hr⟩
 obtain⟨G',h1,h2⟩:=hr.gvGl (hr.slots t _ ht) hb hn hf;exact hx a w ⟨G',h1.slot h2⟩
end
end Go.Proofs.YtmkipahfpaacgaaGreatDoor
namespace Go.Proofs.YtmkipahfpaacgaaGreatDoor
open Go
set_option linter.unusedSimpArgs false
set_option linter.unusedVariables false
set_option maxRecDepth 100000
set_option maxHeartbeats 4000000
def scF (t:Ty):List Ft:=[⟨t,⟨-1,0⟩⟩,⟨⟨-1,0⟩,t⟩,⟨t,t⟩]
def scV (t:Ty):List Vt:=[⟨0,⟨-1,0⟩⟩,⟨1,t⟩,⟨3,⟨-1,0⟩⟩]
def scJ (b:Str) (q:Nat):Nat:=(zan b q 4).toNat
theorem zdN (b:Str) (q:Nat):scJ b q<=3:=by have:=zaK (b:=b) (p:=q) (n:=4) od;unfold scJ;omega
def drF (b:Str) (p:Nat):List Ft:=(scF (typT b p)).take (scJ b (typV b p).2)
def drVs (b:Str) (p:Nat):List Vt:=(scV (typT b p)).take (scJ b ((typV b p).2+1))
theorem zfP {b:Str}{p:Nat} (hb:b.length<=2000) (hp:p<=1000):
  FnD Tryz.prog 84 [.ref 900 0] [(900,some (rdB b p))] (.tup [.d (zae (za8 b p)),.gl 1 ((drF b p).map Ft.c),.gl 2 ((drVs b p).map Vt.c),.agg [.d (.i (typT b p).data),.d (.i (typT b p).index)]])
   [(1,some (.tok (scJ b (typV b p).2) 4)),(2,some (.tok (scJ b ((typV b p).2+1)) 3)),(900,some (rdB b ((typV b p).2+2)))]:=by
 have htp:=zj7 (p:=p) hb od;have hvb:=(zkT b p).1;have hj:=zdN b (typV b p).2;have hj2:=zdN b ((typV b p).2+1);have p1:=zaK (b:=b) (p:=(typV b p).2) (n:=4) od;have p2:=zaK (b:=b) (p:=(typV b p).2+1) (n:=4) od;have e1:(drF b p).map Ft.c=((scF (typT b p)).map Ft.c).take (scJ b (typV b p).2):=by unfold drF;rw[List.map_take]
 have e2:(drVs b p).map Vt.c=((scV (typT b p)).map Vt.c).take (scJ b ((typV b p).2+1)):=by unfold drVs;rw[List.map_take]
 rw[e1,e2];refine bd Tryz.f84 46 [] [999999] fun _ _ _ _ hk=>?_;refine ab 3005 tz38 ?_;apply tv;refine wd zsk htp I I ⟨I,O⟩ ?_;refine ev (ab 3007 tz38 ?_);refine ab 3008 zg6 ?_;refine ev (so ty38 ?_);refine so zdT ?_;apply tv;refine bu [0] [_] st38 ?_;refine ab 3009 tz38 ?_;refine so ty38 ?_;apply tv;refine bu [0,1] [_,_] st91 ?_;refine ev (bu [0,1] [_,_] st91 ?_);refine ev (bu [0,1] [_,_] st91 ?_);refine xbT 21 sl35 tz91 I ol (ks:=[0,1,2]) (xs:=[_,_,_]) I I ol ol .none I I I I I ?_;refine ev (bu [0,1] [_,_] zlT ?_);refine ev (bu [0,1] [_,_] zlT ?_);refine ev (bu [0,1] [_,_] zlT ?_);refine xbT 22 sl36 zov I ol (ks:=[0,1,2]) (xs:=[_,_,_]) I I ol ol .none I I I I I ?_;refine ev (wd zbl (zaC (p:=(typV b p).2) (n:=4) hb od od) I I ⟨I,O⟩ ?_);refine xby 11 (b:=(scJ b (typV b p).2)) sl35 .none I I (zjw I (by first|rfl|(simp;done)|(simp;omega))) I (by unfold scJ;omega) (by show scJ b (typV b p).2<=3;omega) (by show 0<3;omega) I ?_;refine evd [] [] (wd zbl (zaC (p:=(typV b p).2+1) (n:=4) hb od od) I I ⟨I,O⟩ ?_);refine xby 12 (b:=(scJ b ((typV b p).2+1))) sl36 .none I I (zjw I (by first|rfl|(simp;done)|(simp;omega))) I (by unfold scJ;omega) (by show scJ b ((typV b p).2+1)<=3;omega) (by show 0<3;omega) I ?_;refine evd [] [] (so ty38 ?_);refine dr (CWp.gvGl 3 11 1 4 I I (by first|rfl|(show scJ b (typV b p).2=(((scF (typT b p)).map Ft.c).take (scJ b (typV b p).2)).length;rw[List.length_take];simp[scF];omega)) I ?_);refine CWp.gvGl 4 12 2 3 I I (by first|rfl|(show scJ b ((typV b p).2+1)=(((scV (typT b p)).map Vt.c).take (scJ b ((typV b p).2+1))).length;rw[List.length_take];simp[scV];omega)) I ?_;refine CWp.ret (rn [(1,some (.tok (scJ b (typV b p).2) 4)),(2,some (.tok (scJ b ((typV b p).2+1)) 3)),(900,some (rdB b ((typV b p).2+2)))] (.cons (.tmp I) (.cons (.tmp I) (.cons (.tmp I) (ra ty38)))) (.tup (.cons (.eqd ?_) (.cons (.glg ?_) (.cons (.glg ?_) (.cons (.agg (qee ?_ ?_)) .nil))))) ⟨I,I⟩ (SubO.get ⟨.inr ?_,⟨.inr ?_,⟨.inr ?_,⟨.inl I,O⟩⟩⟩⟩) (zaj I));rotate_left 8;all_goals (first|((first|rfl|(simp;done));done)|(first|rfl|(simp;done)))
theorem zqD (t:Ty):∀j,j<=3->∀k,k<((scV t).take j).length->0<=zbr ((scV t).take j) (nth ((scV t).take j) k).var/\zdV ((scV t).take j) (nth ((scV t).take j) k).var=(nth ((scV t).take j) k).ty:=by
 intro j hj k hk;have h3:j=0\/j=1\/j=2\/j=3:=by omega
 rcases h3 with rfl|rfl|rfl|rfl
 ·simp at hk
 ·simp[scV] at hk;subst hk;exact⟨by show(0:Int)<=0;omega,rfl⟩
 ·simp[scV] at hk;have:k=0\/k=1:=by omega
  rcases this with rfl|rfl
  ·exact⟨by show(0:Int)<=0;omega,rfl⟩
  ·exact⟨by show(0:Int)<=1;omega,rfl⟩
 ·simp[scV] at hk;have:k=0\/k=1\/k=2:=by omega
  rcases this with rfl|rfl|rfl
  ·exact⟨by show(0:Int)<=0;omega,rfl⟩
  ·exact⟨by show(0:Int)<=1;omega,rfl⟩
  ·exact⟨by show(0:Int)<=2;omega,rfl⟩
theorem zno (b:Str) (p:Nat):∀f∈drF b p,f.arg=typT b p\/f.arg=⟨-1,0⟩:=by
 intro f hf;have:=List.mem_of_mem_take hf;simp only[scF,List.mem_cons,xau,or_false] at this;rcases this with rfl|rfl|rfl
 ·exact .inl I
 ·exact .inr I
 ·exact .inl I
theorem zko (b:Str) (p:Nat):(drF b p).length=scJ b (typV b p).2:=by
 have:=zdN b (typV b p).2;unfold drF;rw[List.length_take];simp[scF];omega
theorem ziP (b:Str) (p:Nat):(drVs b p).length=scJ b ((typV b p).2+1):=by
 have:=zdN b ((typV b p).2+1);unfold drVs;rw[List.length_take];simp[scV];omega
theorem zk4 (b:Str) (p:Nat):Sce (za8 b p) (drF b p) (drVs b p):=by
 have hl:=zfi b p;have h1:=zdN b (typV b p).2;have h2:=zdN b ((typV b p).2+1);refine⟨hl.dp,hl.few,hl.low,fun f hf=>?_,by rw[zko];exact h1,by rw[ziP];exact h2,zqD _ _ h2⟩;rcases zno b p f hf with h|h<;>rw[h]
 ·exact(zd6 b p).ins
 ·exact .inl I
theorem zk3 (b:Str) (p:Nat):Gty (za8 b p) ⟨(typT b p).data,(typT b p).index⟩:=⟨(zd6 b p).ins,(zd6 b p).pos⟩
theorem zkS (b:Str) (p:Nat):TyOk (za8 b p).length (typT b p):=by
 refine⟨zdY (zd6 b p).ins, ?_⟩;unfold typT;split
 ·intro _;rfl
 ·intro h;have h1:=zaK (b:=b) (p:=p+1) (n:=((za8 b p).length:Int)) (by have:=(zd8 b p).one;omega);unfold zdU at h;dsimp only at h;omega
theorem zo6 (b:Str) (p:Nat):∀f∈drF b p,TyOk (za8 b p).length f.arg:=fun f hf=>by
 rcases zno b p f hf with h|h<;>rw[h]
 ·exact zkS b p
 ·exact⟨.inl rfl,fun _=>rfl⟩
theorem zgs {b:Str} (hb:b.length<=1000000000000):∃(w:List Data) (funs:List Ft) (vars:List Vt) (t:Ty) (e:Ex),WSmall w/\funs.length<=4/\vars.length<=4/\e.size<=10000000/\
  FnD Tryz.prog 77 [.d (za7 b)] [] (.tup [.d (zae w),.d (zaF funs),.d (zaP vars),.agg [.d (.i t.data),.d (.i t.index)],.agg [.d (.i e.op),.d (.i e.n),.d (.i e.ctor),.d (zaE e.kids)]]) []:=by
 have hop:=zf3 hb;have hb2:(b.take 2000).length<=2000:=by rw[List.length_take];omega
 generalize b.take 2000=e at *;have hsc:=zfP (p:=0) hb2 od;have hs:=zk4 e 0;have hg:=zk3 e 0;have hvb:=(zkT e 0).1;have h4:=num4 e ((typV e 0).2+2);have hsm:=(zd8 e 0).small;have hfl:=zko e 0;have hvl:=ziP e 0;have hf3:=zdN e (typV e 0).2;have hv3:=zdN e ((typV e 0).2+1);rw[<-hfl] at hf3;rw[<-hvl] at hv3;rw[<-hfl,<-hvl] at hsc;have hnu:=zcM (b:=e) (p:=(typV e 0).2+2) (l:=[3,2,4,1]) hb2 od og og;generalize numV e ((typV e 0).2+2) [3,2,4,1]=m at *;obtain⟨n,hn⟩:∃n:Nat,m=((n+1:Nat):Int):=⟨(m-1).toNat,by omega⟩;have hK:KE (n+1)<=2000:=by
  have:n=0\/n=1\/n=2\/n=3:=by omega
  rcases this with rfl|rfl|rfl|rfl<;>decide
 have hS:SE (n+1)<=10000:=by
  have:n=0\/n=1\/n=2\/n=3:=by omega
  rcases this with rfl|rfl|rfl|rfl<;>decide
 have hdr:=zdl hb2 hs n (a:=(typT e 0).data) (k:=(typT e 0).index) (d:=m) (p:=(typV e 0).2+2+1) hn od hg od;obtain⟨d1,d2,_⟩:=zgJ (b:=e) hs n _ ((typV e 0).2+2+1) od hg;generalize zas e (za8 e 0) (drF e 0) (drVs e 0) (n+1) ⟨(typT e 0).data,(typT e 0).index⟩ ((typV e 0).2+2+1)=x at *;obtain⟨x,q⟩:=x;dsimp only at hdr d1 d2;obtain⟨N,x',q',hm,hq'⟩:=zpx hb2 (p:=q) od x;have hmz:=zd2 hm;have hmu:=zdK hb2 N hm od od;have hpk:=zaC (b:=e) (p:=q') (n:=24) hb2 od od;generalize za8 e 0=w at *;generalize drF e 0=fs at *;generalize drVs e 0=vs at *;generalize typT e 0=t at *;refine⟨w,if zan e q' 24=0 then fs++[⟨⟨9,0⟩,⟨0,0⟩⟩] else fs,if zan e q' 24=1 then vs++[⟨numV e (q'+1) [0,9,-1],t⟩] else vs,t,x',hsm,by split<;>first|omega|(simp;omega),by split<;>first|omega|(simp;omega),by omega, ?_⟩;generalize typV e 0=tw at *;refine bd Tryz.f77 57 [] [] fun _ _ _ _ hk=>?_;refine ab 3005 tz38 ?_;refine ab 3006 tz41 ?_;apply tv;refine Walk.call (cr:=[900]) zqX hop I .none I I (LeL.refl _) O I om oe ?_;refine ev (Walk.call (cr:=[1,2]) zqZ hsc I .none I I (LeL.refl _) ⟨I,O⟩ I om oe ?_);refine ev (ab 3011 tz38 ?_);refine ev (so ty38 ?_);apply tv;refine si [0,1,2,3] [_,_,_,_] zbd tz3 ?_;refine wd zfq hnu I I ⟨I,O⟩ ?_;refine Walk.call (cr:=[]) zdQ hdr I .none I I (.cons (.refl _) (.cons (.refl _) (.cons (.gl _ _) (.cons (.gl _ _) (.cons (.refl _) (.cons (.refl _) .nil)))))) ⟨I,O⟩ I I I (wd zl2 hmu I I ⟨I,O⟩ ?_);refine ab 3012 tz41 ?_;refine so ty41 ?_;refine dr (wd zbl hpk I I ⟨I,O⟩ ?_);apply tv;apply sq<;>intro h1 h1p h1s<;>(try simp only[Q,xac] at h1p);refine bu [0] [_] st38 ?_;refine bu [0] [_] st91 ?_;refine si [0] [_] sl35 tz91 ?_;refine ap sl35 zz91 I I I og oq ?_;refine ev (so ty38 ?_);refine so ty41 ?_;refine dr (rn0 (.cons (.tmp I) (.cons (.tmp I) (.cons (.tmp I) (.cons (.cellA ty38 I I I) (ra ty41))))) (.tup (.cons (.eqd ?_) (.cons (.gld ?_) (.cons (.gld ?_) (.cons (.agg (qee ?_ ?_)) (.cons (.agg (qeeee ?_ ?_ ?_ ?_)) .nil)))))));rotate_left 9;apply sq<;>intro h2 h2p h2s<;>(try simp only[Q,xac] at h2p);refine si [0,1,2] [_,_,_] zbd tz3 ?_;refine wd zfq (zcM (b:=e) (p:=q'+1) (l:=[0,9,-1]) hb2 od og og) I I ⟨I,O⟩ ?_;refine evd [] [] (bu [0,1] [_,_] zlT ?_);refine si [0] [_] sl36 zov ?_;refine ap sl36 ztE I I I og oq ?_;refine evd [] [] (dr (so ty38 ?_));refine so ty41 ?_;refine dr (rn0 (.cons (.tmp I) (.cons (.tmp I) (.cons (.tmp I) (.cons (.cellA ty38 I I I) (ra ty41))))) (.tup (.cons (.eqd ?_) (.cons (.gld ?_) (.cons (.gld ?_) (.cons (.agg (qee ?_ ?_)) (.cons (.agg (qeeee ?_ ?_ ?_ ?_)) .nil)))))));rotate_left 9;refine so ty38 ?_;refine so ty41 ?_;refine dr (rn0 (.cons (.tmp I) (.cons (.tmp I) (.cons (.tmp I) (.cons (.cellA ty38 I I I) (ra ty41))))) (.tup (.cons (.eqd ?_) (.cons (.gld ?_) (.cons (.gld ?_) (.cons (.agg (qee ?_ ?_)) (.cons (.agg (qeeee ?_ ?_ ?_ ?_)) .nil)))))));rotate_left 9;all_goals (first|rfl|(rw[if_pos od];simp;done)|(rw[if_neg od];done)|(rw[if_pos od];all_goals first|rfl|(simp;done))|(rw[if_neg od];all_goals rfl))
theorem zgj {b:Str} (hb:b.length<=1000000000000):∃(w:List Data) (funs:List Ft) (vars:List Vt) (t:Ty) (e:Ex),WSmall w/\funs.length<=4/\vars.length<=4/\e.size<=10000000/\
  FnD Tryz.prog 18 [.d (za7 b)] [] (.tup [.d (zae w),.d (zaF funs),.d (zaP vars),.agg [.d (.i t.data),.d (.i t.index)],.agg [.d (.i e.op),.d (.i e.n),.d (.i e.ctor),.d (zaE e.kids)]]) []:=by
 obtain⟨w,fs,vs,t,e,h1,h2,h3,h4,hdr⟩:=zgs hb;refine⟨w,fs,vs,t,e,h1,h2,h3,h4, ?_⟩;refine bd Tryz.f18 14 [] [] fun _ _ _ _ hk=>?_;refine ab 3005 tz38 ?_;refine ab 3006 tz41 ?_;apply tv;refine wc zte hdr I I ?_;refine ev (so ty38 ?_);refine so ty41 ?_;apply tv;focus (refine rn0 (.cons (.tmp I) (.cons (.tmp I) (.cons (.tmp I) (.cons (.cellA ty38 I I I) (ra ty41))))) (.tup (.cons (.eqd ?_) (.cons (.eqd ?_) (.cons (.eqd ?_) (.cons (.agg (qee ?_ ?_)) (.cons (.agg (qeeee ?_ ?_ ?_ ?_)) .nil))))));all_goals (first|rfl|(simp[];done)|(simp_all;done)|(simp_all;omega)|omega))
theorem zgt {b:Str} (hb:b.length<=1000000000000):∃(w:List Data) (funs:List Ft) (vars:List Vt) (t:Ty) (s:Str),WSmall w/\funs.length<=4/\vars.length<=4/\s.length<=1000000/\
  FnD Tryz.prog 25 [.d (za7 b)] [] (.tup [.d (zae w),.d (zaF funs),.d (zaP vars),.agg [.d (.i t.data),.d (.i t.index)],.d (.str s)]) []:=by
 have hop:=zf3 hb;have hb2:(b.take 2000).length<=2000:=by rw[List.length_take];omega
 generalize b.take 2000=e at *;have hsc:=zfP (p:=0) hb2 od;have hs:=zk4 e 0;have hg:=zk3 e 0;have hvb:=(zkT e 0).1;have ho:=zd8 e 0;have hsm:=ho.small;have hfl:=zko e 0;have hvl:=ziP e 0;have hf3:=zdN e (typV e 0).2;have hv3:=zdN e ((typV e 0).2+1);rw[<-hfl] at hf3;rw[<-hvl] at hv3;rw[<-hfl,<-hvl] at hsc;have hK:KE (2+1)<=2000:=by decide
 have hS:SE (2+1)<=10000:=by decide
 have hdr:=zdl hb2 hs 2 (a:=(typT e 0).data) (k:=(typT e 0).index) (d:=3) (p:=(typV e 0).2+2) rfl od hg od;obtain⟨d1,d2,d3⟩:=zgJ (b:=e) hs 2 _ ((typV e 0).2+2) od hg;have hx:=zen (vars:=drVs e 0) (zcN hsm ho.valid) (zd0 ho.valid) (zc7 ho.valid) od (zo6 e 0) 6 d3 (zkS e 0) (xaM _ od) od;have hxl:=zd5 (vars:=drVs e 0) (zcN hsm ho.valid) (zd0 ho.valid) (zc7 ho.valid) (zo6 e 0) 6 d3 (zkS e 0);generalize zas e (za8 e 0) (drF e 0) (drVs e 0) (2+1) ⟨(typT e 0).data,(typT e 0).index⟩ ((typV e 0).2+2)=x at *;obtain⟨x,q⟩:=x;dsimp only at hdr d1 d2 d3 hx hxl;generalize zay (za8 e 0) (drF e 0) 6 ⟨(typT e 0).data,(typT e 0).index⟩ x=s0 at *;have hbe:=zkG (b:=e) (p:=q) (s:=s0) (bits:=[[],[40],[41],[44],[43],[35,48],[97],[49],[78,105,108]]) hb2 od od ol ol ol;have hbl:=zoE (b:=e) (p:=q) (s:=s0) (bits:=[[],[40],[41],[44],[43],[35,48],[97],[49],[78,105,108]]) ol ol;generalize zec e q s0 [[],[40],[41],[44],[43],[35,48],[97],[49],[78,105,108]]=z at *;generalize za8 e 0=w at *;generalize drF e 0=fs at *;generalize drVs e 0=vs at *;generalize typT e 0=t at *;refine⟨w,fs,vs,t,z.1,hsm,by omega,by omega,by omega, ?_⟩;clear hs hg d3 hxl ho;generalize typV e 0=tw at *;refine bd Tryz.f25 40 [] [] fun _ _ _ _ hk=>?_;refine ab 3005 tz38 ?_;refine ev (Walk.call (cr:=[900]) zqX hop I .none I I (LeL.refl _) O I om oe ?_);refine ev (Walk.call (cr:=[1,2]) zqZ hsc I .none I I (LeL.refl _) ⟨I,O⟩ I om oe ?_);refine ev (ab 3011 tz38 ?_);refine ev (so ty38 ?_);apply tv;refine Walk.call (cr:=[]) zdQ hdr I .none I I (.cons (.refl _) (.cons (.refl _) (.cons (.gl _ _) (.cons (.gl _ _) (.cons (.refl _) (.cons (.refl _) .nil)))))) ⟨I,O⟩ I I I (Walk.call (cr:=[]) zgE hx I .none I I (.cons (.refl _) (.cons (.gl _ _) (.cons (.refl _) (.cons (.refl _) .nil)))) O I I I (evd [] [] (dr (si [0,1,2,3,4,5,6,7,8] [_,_,_,_,_,_,_,_,_] sl84 tz9 ?_))));refine wd ztd hbe I I ⟨I,O⟩ ?_;refine evd [] [] (so ty38 ?_);refine evd [] [] (dr ?_);focus (refine rn0 (.cons (.tmp I) (.cons (.tmp I) (.cons (.tmp I) (rc ty38)))) (.tup (.cons (.eqd ?_) (.cons (.gld ?_) (.cons (.gld ?_) (.cons (.agg (qee ?_ ?_)) (qe ?_))))));all_goals (first|rfl|(simp[];done)|(simp_all;done)|(simp_all;omega)|omega))
theorem zrN (w:List Data) (funs:List Ft) (vars:List Vt) (t:Ty):reI w funs vars t []=none:=by
 unfold reI rdOk rdE;rw[exR,if_pos (show zaB ⟨[],false⟩=0 from zeC (.inr rfl))];simp
theorem ztq {w:List Data} (hs:WSmall w){funs:List Ft}{vars:List Vt}{t:Ty}{e:Ex}:peV w funs vars t (feV w funs vars t e)=if exV w funs vars t e=true then some e else none:=by
 cases hR:zby w funs vars t with
 |false=>rw[zhR hR,if_neg (by unfold exV;rw[hR];simp)]
 |true=>
  obtain⟨a,k⟩:=t;obtain⟨_,_,_,_,_,_,_,_,hv⟩:=zcK hs hR;have hR':=hR;unfold zby at hR';rw[xad,xad] at hR';cases hx:exV w funs vars ⟨a,k⟩ e with
  |true=>
   have hi:isE w funs vars ⟨a,k⟩ e=true:=by unfold exV at hx;rw[xad] at hx;exact hx.2
   rw[zgn hx,<-(zin hs hR _).1,zrO hs hR'.1 hR'.2.1 hv hi,if_pos rfl]
  |false=>rw[zjs hx,<-(zin hs hR _).1,zrN,if_neg og]
theorem zrK {w:List Data} (hs:WSmall w){funs:List Ft}{vars:List Vt}{t:Ty}{s:Str}{e:Ex} (h:peV w funs vars t s=some e):feV w funs vars t e=s:=by
 cases hR:zby w funs vars t with
 |false=>rw[zhR hR] at h;cases h
 |true=>
  obtain⟨h1,h2⟩:=zin hs hR s;rw[h1] at h2;obtain⟨h3,h4⟩:=h2 e h;rw[zgn (by unfold exV;rw[hR,h3];rfl),h4]
theorem zrA {w:List Data} (hs:WSmall w){funs:List Ft}{vars:List Vt}{t:Ty}{e:Ex}:(feV w funs vars t e).length<=1000:=by
 cases hx:exV w funs vars t e with
 |false=>rw[zjs hx];simp
 |true=>
  rw[zgn hx];unfold exV at hx;rw[xad] at hx;obtain⟨a,k⟩:=t;obtain⟨_,_,_,_,wv,ht,hfa,_,_⟩:=zcK hs hx.1;have hi:=hx.2;unfold isE at hi;rw[xad,xah] at hi;have:=zd5 (vars:=vars) (zcN hs wv) (zd0 wv) (zc7 wv) hfa 10 hi.1 ht;omega
theorem zhM {b c:Str} (hb:b.length<=1000000000000) (hc:c.length<=1000000000000):FnD Tryz.prog 4 [.d (za7 b),.d (za7 c)] [] (.d (.bool true)) []:=by
 obtain⟨w1,fs1,vs1,t1,e1,hw1,hf1,hv1,he1,hd1⟩:=zgj hb;obtain⟨w2,fs2,vs2,t2,tx,hw2,hf2,hv2,htl,hd2⟩:=zgt hc;have heo:=xaM e1 od;have f1:=zeP hw1 (funs:=fs1) (vars:=vs1) od od (a:=t1.data) (k:=t1.index) heo;have f2:=zh5 hw1 (funs:=fs1) (vars:=vs1) od od (a:=t1.data) (k:=t1.index) heo od;have f3:=zeZ hw1 (funs:=fs1) (vars:=vs1) od od (a:=t1.data) (k:=t1.index) heo;have f4:=ze6 hw1 (funs:=fs1) (vars:=vs1) od od (a:=t1.data) (k:=t1.index) heo od;have f5:=ze0 hw1 (funs:=fs1) (vars:=vs1) od od (a:=t1.data) (k:=t1.index) (s:=feV w1 fs1 vs1 ⟨t1.data,t1.index⟩ e1) (by have:=zrA hw1 (funs:=fs1) (vars:=vs1) (t:=⟨t1.data,t1.index⟩) (e:=e1);omega);rw[ztq hw1] at f5;have f6:=zds e1.size (Nat.le_refl _) heo;have g1:=ze0 hw2 (funs:=fs2) (vars:=vs2) od od (a:=t2.data) (k:=t2.index) (s:=tx) od;have g2:=ziu hw2 (funs:=fs2) (vars:=vs2) od od (a:=t2.data) (k:=t2.index) (s:=tx) od;have hqk:((peV w2 fs2 vs2 ⟨t2.data,t2.index⟩ tx).getD zbo).ok:=by
  cases h:peV w2 fs2 vs2 ⟨t2.data,t2.index⟩ tx with
  |none=>exact xaM _ ol
  |some q=>exact(zqA hw2 h).1
 have g3:=zds _ (Nat.le_refl _) hqk;have g4:=zeP hw2 (funs:=fs2) (vars:=vs2) od od (a:=t2.data) (k:=t2.index) hqk;have hfin:(peV w2 fs2 vs2 ⟨t2.data,t2.index⟩ tx).isSome=true->feV w2 fs2 vs2 ⟨t2.data,t2.index⟩ ((peV w2 fs2 vs2 ⟨t2.data,t2.index⟩ tx).getD zbo)=tx:=fun h=>by
  obtain⟨q,hq⟩:=Option.isSome_iff_exists.1 h;rw[hq];exact zrK hw2 hq
 generalize (peV w2 fs2 vs2 ⟨t2.data,t2.index⟩ tx).getD zbo=q2 at *;generalize (peV w2 fs2 vs2 ⟨t2.data,t2.index⟩ tx).isSome=o2 at *;generalize feV w1 fs1 vs1 ⟨t1.data,t1.index⟩ e1=s1 at *;have hbl:((b.map zgD).length:Int)=b.length:=by simp
 have hcl:((c.map zgD).length:Int)=c.length:=by simp
 cases hv:exV w1 fs1 vs1 ⟨t1.data,t1.index⟩ e1 with
 |false=>
  rw[hv] at f3 f4;rw[hv,if_neg og] at f5;refine bd Tryz.f4 140 [76,81,120] [] fun _ _ _ _ hk=>?_;apply sq<;>intro h1 h1p h1s<;>(try simp only[Q,xal] at h1p);refine sqT ?_;refine rq ?_;rotate_left;apply sq<;>intro h3 h3p h3s<;>(try simp only[Q,xal] at h3p);refine rq ?_;rotate_left;refine wc zqT hd1 I I ?_;refine evs [76,81,120] [] (ab 3008 tz38 ?_);refine ab 3009 tz41 ?_;refine evs [76,81,120] [] (so ty38 ?_);refine so ty41 ?_;apply tv;refine wc zjc f1 I I ?_;refine evs [76,81,120] [] (wc zjd f5 I I ?_);refine evs [76,81,120] [] (ab 3011 tz41 ?_);refine so ty41 ?_;refine evs [76,81,120] [] (wc zlJ f3 I I ?_);refine evs [76,81,120] [] (wc zqU f2 I I ?_);refine evs [76,81,120] [] ?_;apply sq<;>intro h4 h4p h4s<;>(try simp only[Q,xal] at h4p);refine sqT ?_;refine sqT ?_;refine sqT ?_;refine rq ?_;rotate_left;refine Walk.call (cr:=[]) zlK f4 I (.some I I h4) I I (LeL.refl _) O I I I (xbJ un4 (.some I I h4) I I I (evs [76,81,120] [(68,false)] ?_ ⟨⟨_,I,h4⟩,O⟩));apply sq<;>intro h6 h6p h6s<;>(try simp only[Q,xal] at h6p);refine sqT ?_;refine sqT ?_;refine rq ?_;rotate_left;refine xbJ un4 (.some I I h6) I I I (evs [76,81,120] [(78,false)] ?_ ⟨⟨_,I,h6⟩,O⟩);apply sq<;>intro h8 h8p h8s<;>(try simp only[Q,xal] at h8p);refine sqT ?_;refine rq ?_;rotate_left;apply sq<;>intro h10 h10p h10s<;>(try simp only[Q,xal] at h10p);exfalso;simp_all;refine sqF ?_;refine wc znX hd2 I I ?_;refine evs [76,81,120] [] (ab 3017 tz38 ?_);refine evs [76,81,120] [] (so ty38 ?_);refine evs [76,81,120] [] (wc zjd g1 I I ?_);refine evs [76,81,120] [] (ab 3019 tz41 ?_);refine so ty41 ?_;refine evs [76,81,120] [] (wc znY g2 I I ?_);refine evs [76,81,120] [] (ab 3021 tz41 ?_);refine so ty41 ?_;refine evs [76,81,120] [] (Walk.eqB un4 .none I I I (evs [76,81,120] [] ?_));apply sq<;>intro h12 h12p h12s<;>(try simp only[Q,xal] at h12p);refine Walk.call (cr:=[]) zjg g3 I (.some I I h12) I I (LeL.refl _) O I I I (evs [76,81,120] [(121,true)] ?_ ⟨⟨_,I,h12⟩,O⟩);apply sq<;>intro h13 h13p h13s<;>(try simp only[Q,xal] at h13p);apply sq<;>intro h14 h14p h14s<;>(try simp only[Q,xal] at h14p);refine rq ?_;rotate_left;refine Walk.call (cr:=[]) zjc g4 I (.some I I h14) I I (LeL.refl _) O I I I (evs [76,81,120] [(126,true),(129,false)] ?_ ⟨⟨_,I,h13⟩,⟨_,I,h14⟩,O⟩);refine rq ?_;rotate_left;refine rq ?_;rotate_left;refine sqF ?_;refine rq ?_;rotate_left;all_goals (first|rfl|(simp_all;done))
 |true=>
  rw[hv] at f3 f4;rw[hv,if_pos rfl] at f5;refine bd Tryz.f4 140 [76,81,120] [] fun _ _ _ _ hk=>?_;apply sq<;>intro h1 h1p h1s<;>(try simp only[Q,xal] at h1p);refine sqT ?_;refine rq ?_;rotate_left;apply sq<;>intro h3 h3p h3s<;>(try simp only[Q,xal] at h3p);refine rq ?_;rotate_left;refine wc zqT hd1 I I ?_;refine evs [76,81,120] [] (ab 3008 tz38 ?_);refine ab 3009 tz41 ?_;refine evs [76,81,120] [] (so ty38 ?_);refine so ty41 ?_;apply tv;refine wc zjc f1 I I ?_;refine evs [76,81,120] [] (wc zjd f5 I I ?_);refine evs [76,81,120] [] (ab 3011 tz41 ?_);refine so ty41 ?_;refine evs [76,81,120] [] (wc zlJ f3 I I ?_);refine evs [76,81,120] [] (wc zqU f2 I I ?_);refine evs [76,81,120] [] ?_;apply sq<;>intro h4 h4p h4s<;>(try simp only[Q,xal] at h4p);refine sqT ?_;refine sqT ?_;refine sqT ?_;refine rq ?_;rotate_left;refine Walk.call (cr:=[]) zlK f4 I (.some I I h4) I I (LeL.refl _) O I I I (xbJ un4 (.some I I h4) I I I (evs [76,81,120] [(68,false)] ?_ ⟨⟨_,I,h4⟩,O⟩));apply sq<;>intro h6 h6p h6s<;>(try simp only[Q,xal] at h6p);refine sqT ?_;refine sqT ?_;refine rq ?_;rotate_left;refine xbJ un4 (.some I I h6) I I I (evs [76,81,120] [(78,false)] ?_ ⟨⟨_,I,h6⟩,O⟩);apply sq<;>intro h8 h8p h8s<;>(try simp only[Q,xal] at h8p);refine sqT ?_;refine rq ?_;rotate_left;apply sq<;>intro h10 h10p h10s<;>(try simp only[Q,xal] at h10p);refine Walk.call (cr:=[]) zjg f6 I (.some I I h10) I I (LeL.refl _) O I I I (evs [76,81,120] [(83,false),(85,true)] ?_ ⟨⟨_,I,h8⟩,⟨_,I,h10⟩,O⟩);apply sq<;>intro h11 h11p h11s<;>(try simp only[Q,xal] at h11p);refine rq ?_;rotate_left;refine wc znX hd2 I I ?_;refine evs [76,81,120] [] (ab 3017 tz38 ?_);refine evs [76,81,120] [] (so ty38 ?_);refine evs [76,81,120] [] (wc zjd g1 I I ?_);refine evs [76,81,120] [] (ab 3019 tz41 ?_);refine so ty41 ?_;refine evs [76,81,120] [] (wc znY g2 I I ?_);refine evs [76,81,120] [] (ab 3021 tz41 ?_);refine so ty41 ?_;refine evs [76,81,120] [] (Walk.eqB un4 .none I I I (evs [76,81,120] [] ?_));apply sq<;>intro h12 h12p h12s<;>(try simp only[Q,xal] at h12p);refine Walk.call (cr:=[]) zjg g3 I (.some I I h12) I I (LeL.refl _) O I I I (evs [76,81,120] [(121,true)] ?_ ⟨⟨_,I,h12⟩,O⟩);apply sq<;>intro h13 h13p h13s<;>(try simp only[Q,xal] at h13p);apply sq<;>intro h14 h14p h14s<;>(try simp only[Q,xal] at h14p);refine rq ?_;rotate_left;refine Walk.call (cr:=[]) zjc g4 I (.some I I h14) I I (LeL.refl _) O I I I (evs [76,81,120] [(126,true),(129,false)] ?_ ⟨⟨_,I,h13⟩,⟨_,I,h14⟩,O⟩);refine rq ?_;rotate_left;refine rq ?_;rotate_left;refine sqF ?_;refine rq ?_;rotate_left;refine sqF ?_;refine wc znX hd2 I I ?_;refine evs [76,81,120] [] (ab 3017 tz38 ?_);refine evs [76,81,120] [] (so ty38 ?_);refine evs [76,81,120] [] (wc zjd g1 I I ?_);refine evs [76,81,120] [] (ab 3019 tz41 ?_);refine so ty41 ?_;refine evs [76,81,120] [] (wc znY g2 I I ?_);refine evs [76,81,120] [] (ab 3021 tz41 ?_);refine so ty41 ?_;refine evs [76,81,120] [] (Walk.eqB un4 .none I I I (evs [76,81,120] [] ?_));apply sq<;>intro h16 h16p h16s<;>(try simp only[Q,xal] at h16p);refine Walk.call (cr:=[]) zjg g3 I (.some I I h16) I I (LeL.refl _) O I I I (evs [76,81,120] [(121,true)] ?_ ⟨⟨_,I,h16⟩,O⟩);apply sq<;>intro h17 h17p h17s<;>(try simp only[Q,xal] at h17p);apply sq<;>intro h18 h18p h18s<;>(try simp only[Q,xal] at h18p);refine rq ?_;rotate_left;refine Walk.call (cr:=[]) zjc g4 I (.some I I h18) I I (LeL.refl _) O I I I (evs [76,81,120] [(126,true),(129,false)] ?_ ⟨⟨_,I,h17⟩,⟨_,I,h18⟩,O⟩);refine rq ?_;rotate_left;refine rq ?_;rotate_left;refine sqF ?_;refine rq ?_;rotate_left;all_goals (first|rfl|(simp_all;done))
end Go.Proofs.YtmkipahfpaacgaaGreatDoor
namespace Go.Proofs.YtmkipahfpaacgaaGreatDoor
open Go Go.ChangeShapes Go.WideShapes Go.ChangeAt Go.RowKit
set_option linter.unusedSimpArgs false
set_option linter.unusedVariables false
set_option linter.unusedVariables false
def FW (W:World) (b:Nat):Nat:=match W.heap[b]? with
 |some (.cells cs _ _)=>cs.size
 |_=>0
theorem FW_cell {W:World}{b o:Nat}{v:Value} (h:W.cell? ⟨b,o,none⟩=some v):o<FW W b:=by
 unfold World.cell? at h;unfold FW;simp only at h;split at h
 ·rename_i c t fr hb;simp only[hb];simp only[Option.isSome_none,Bool.false_eq_true,if_false] at h;exact(Array.getElem?_eq_some_iff.1 h).1
 ·cases h
theorem FW_top {W:World}{b:Nat} (h:W.heap.size<=b):FW W b=0:=by
 unfold FW;rw[Array.getElem?_eq_none h]
structure RelL (W:World) (xs:List D) (cs:List Value):Prop where
 len:xs.length=cs.length
 rel:∀i (h1:i<xs.length) (h2:i<cs.length),RelD (FW W) W xs[i] cs[i]
theorem RelL.append {W:World}{xs ys:List D}{cs ds:List Value} (h:RelL W xs cs) (k:RelL W ys ds):RelL W (xs++ys) (cs++ds):=by
 refine⟨by simp[h.len,k.len],fun i h1 h2=>?_⟩;by_cases hi:i<xs.length
 ·rw[List.getElem_append_left hi,List.getElem_append_left (by rw[<-h.len];exact hi)];exact h.rel i hi (by rw[<-h.len];exact hi)
 ·have hl:=h.len;rw[List.getElem_append_right od,List.getElem_append_right od];have e:i-xs.length=i-cs.length:=by omega
  have h1':i-xs.length<ys.length:=by simp only[xaa] at h1;omega
  have h2':i-cs.length<ds.length:=by simp only[xaa] at h2;omega
  have:=k.rel (i-xs.length) h1' od;simp only[e] at this ⊢;exact this
def Dec (P:Program) (W:World) (n:Nat) (t:TypeId){α:Type} (f:α->List D) (m:α->Nat) (R:α->Prop):Prop:=
 ∀(H:Type) (enc:TypeId×Value->H) (cs:List Value) (x:DataW H×List MemPlace),DataW.trod enc P W 0 (fun _=>true) true n t cs=some x->
  ∃a,RelL W (f a) cs/\m a+1<=Rows.uptoBulk x.1/\R a
section
variable {P:Program}{W:World}{n:Nat}{t:TypeId}
theorem Dec.zero {α:Type}{f:α->List D}{m:α->Nat}{R:α->Prop}:Dec P W 0 t f m R:=fun H enc cs x h=>by simp[DataW.trod] at h
theorem Dec.map {α β:Type}{f:α->List D}{m:α->Nat}{R:α->Prop}{f':β->List D}{m':β->Nat}{R':β->Prop} (g:α->β) (h:Dec P W n t f m R)
  (h1:∀a,f' (g a)=f a) (h2:∀a,m' (g a)<=m a) (h3:∀a,R a->R' (g a)):Dec P W n t f' m' R':=fun H enc cs x hx=>by
 obtain⟨a,q1,q2,q3⟩:=h H enc cs x hx;exact⟨g a,by rw[h1];exact q1,by have:=h2 a;omega,h3 a q3⟩
theorem RelL.one {x:D}{v:Value} (h:RelD (FW W) W x v):RelL W [x] [v]:=
 ⟨rfl,fun i h1 h2=>by
  have:i=0:=by simp at h1;omega
  subst this;exact h⟩
theorem Dec.int {k:IntKind} (ht:P.underlying t=some (.int k)):Dec P W n t (fun z:Int=>[.int k z]) (fun _=>0) (fun z=>(Lit.int k z).wf=true):=fun H enc cs x h=>by
 obtain⟨z,rfl,rfl,hw⟩:=DataW.trod_int ht h;exact⟨z,.one (.int k z),by simp[Rows.uptoBulk],hw⟩
theorem Dec.bool (ht:P.underlying t=some .bool):Dec P W n t (fun z:Bool=>[.bool z]) (fun _=>0) (fun _=>True):=fun H enc cs x h=>by
 obtain⟨z,rfl,rfl⟩:=DataW.trod_bool ht h;exact⟨z,.one (.bool z),by simp[Rows.uptoBulk],trivial⟩
theorem Dec.str (ht:P.underlying t=some .string):Dec P W n t (fun s:Str=>[.str s]) (fun s=>s.length) (fun _=>True):=fun H enc cs x h=>by
 obtain⟨s,rfl,rfl,hw⟩:=DataW.trod_string ht h;exact⟨s.data.toList,.one (by have:=RelD.str (F:=FW W) (w:=W) s.data.toList;simpa using this),by simp[Rows.uptoBulk],trivial⟩
def sumM {α:Type} (m:α->Nat):List α->Nat
 | []=>0
 |a::r=>m a+1+sumM m r
theorem zi3 {α:Type} (m:α->Nat):∀l:List α,l.length<=sumM m l
 | []=>by simp[sumM]
 |a::r=>by have:=zi3 m r;simp only[sumM,xab];omega
theorem zix {α β:Type}{Q:Nat->α->β->Prop}:∀(l:List β) (o:Nat),(∀i (h:i<l.length),∃a,Q (o+i) a l[i])->∃zs:List α,zs.length=l.length/\∀i (h:i<l.length) (h':i<zs.length),Q (o+i) zs[i] l[i]
 | [],o,_=>⟨[],rfl,fun i h=>by simp at h⟩
 |b::r,o,h=>by
  obtain⟨a,ha⟩:=h 0 og;obtain⟨zs,h1,h2⟩:=zix (Q:=Q) r (o+1) (fun i hi=>by
   have:=h (i+1) oq;rw[show o+1+i=o+(i+1) by omega];simpa using this)
  refine⟨a::zs,by simp[h1],fun i hi hi'=>?_⟩;cases i with
  |zero=>exact ha
  |succ i=>
   have:=h2 i (by simpa using hi) (by simpa using hi');rw[show o+1+i=o+(i+1) by omega] at this;simpa using this
theorem zl1 {H α:Type}{m:α->Nat}:∀ {zs:List α}{xs:List (DataW H)},zs.length=xs.length->(∀i (h:i<zs.length) (h':i<xs.length),m zs[i]+1<=Rows.uptoBulk xs[i])->sumM m zs<=Rows.uptoBulkAll xs
 | [],[],_,_=>by simp[sumM,Rows.uptoBulkAll]
 |a::zs,x::xs,hl,h=>by
  have h0:=h 0 og og;have ih:=zl1 (m:=m) (zs:=zs) (xs:=xs) (by simpa using hl) (fun i h1 h2=>by
   have:=h (i+1) oq oq;simpa using this)
  simp only[sumM,Rows.uptoBulkAll];simp only[List.getElem_cons_zero] at h0;omega
 | [],_::_,hl,_=>by simp at hl
 |_::_,[],hl,_=>by simp at hl
theorem Dec.sl {α:Type}{f:α->List D}{m:α->Nat}{R:α->Prop}{e:TypeId}{k:Nat} (ht:P.underlying t=some (.slice e)) (hc:P.cellsOf e=k+1) (hk:∀a,(f a).length=k+1) (he:Dec P W n e f m R):
  Dec P W (n+1) t (fun l:List α=>[.sl (l.map f)]) (fun l=>sumM m l) (fun l=>∀a∈l,R a):=fun H enc cs x h=>by
 rcases DataW.trod_slice ht h with ⟨rfl,rfl⟩|⟨a,len,cap,elems,rest,n',hn,rfl,rfl,_,hcap,_,hlen,hel,_,_⟩
 ·exact⟨[],.one .nil,by simp[sumM,Rows.uptoBulk],fun a h=>by simp at h⟩
 obtain rfl:n=n':=by omega
 have each:∀i (hi:i<elems.length),∃y,(∃cs,W.cells? 0 (a.add (i*(k+1))) (k+1)=some cs/\RelL W (f y) cs)/\m y+1<=Rows.uptoBulk (elems[i]).1/\R y:=by
  intro i hi;have:=hel i od;rw[hc,xan hi,Option.bind_eq_some_iff] at this;obtain⟨cs,h1,h2⟩:=this;obtain⟨y,h3,h4,h5⟩:=he H enc cs _ h2;exact⟨y,⟨cs,h1,h3⟩,h4,h5⟩
 obtain⟨zs,hal,has⟩:=zix (Q:=fun i y (el:DataW H×List MemPlace)=>(∃cs,W.cells? 0 (a.add (i*(k+1))) (k+1)=some cs/\RelL W (f y) cs)/\m y+1<=Rows.uptoBulk el.1/\R y) elems 0 (fun i hi=>by simpa using each i hi);refine⟨zs,.one ?_, ?_,fun y hy=>?_⟩
 ·by_cases h0:zs=[]
  ·subst h0;have hz:len=0:=by simp at hal;omega
   subst hz;obtain⟨b,o,s⟩:=a;cases s with
   |none=>exact .sl [] 0 b o cap (fun _=>undef) og og (fun n hn=>by simp at hn) (fun i hi=>by simp at hi)
   |some s=>exact .emp b o s cap
  ·have hpos:0<zs.length:=List.length_pos_iff.2 h0;obtain⟨⟨cs0,hc0,hr0⟩,_⟩:=has 0 od hpos;have hspot:a.spot=none:=by
    have h1:=(World.cells?_some hc0).2.2 0 od;have h2:0<cs0.length:=by have:=(World.cells?_some hc0).2.1;omega
    simp only[Nat.add_zero,Nat.zero_mul,Addr.add,if_true,xan h2] at h1;unfold World.cell? at h1;split at h1
    ·cases hs:a.spot with
     |none=>rfl
     |some s=>simp[hs] at h1
    ·cases h1
   obtain⟨b,o,s⟩:=a;simp only at hspot;subst hspot;have hlen':(zs.map f).length=len:=by simp;omega
   have hmulk:∀i j,i<zs.length->j<k+1->i*(k+1)+j<zs.length*(k+1):=fun i j hi hj=>by
    have:(i+1)*(k+1)<=zs.length*(k+1):=xav _ od;rw[Nat.add_mul,Nat.one_mul] at this;omega
   have cellAt:∀i (hi:i<zs.length) j (hj:j<(f zs[i]).length),∃v,W.cell? ⟨b,o+(i*(k+1)+j),none⟩=some v/\RelD (FW W) W ((f zs[i])[j]) v:=fun i hi j hj=>by
    obtain⟨⟨cs,hc1,hr1⟩,_⟩:=has i od hi;have hjk:j<k+1:=by have:=hk zs[i];omega
    obtain⟨_,q1,q2⟩:=World.cells?_some hc1;have q3:=q2 j hjk;rw[xan od] at q3;refine⟨cs[j], ?_,hr1.rel j hj od⟩;rw[<-q3];congr 1
    simp only[Nat.zero_add,Addr.add];split<;>split<;>simp_all<;>omega
   have hv:((zs.map f).length,cap)=(len,cap):=by rw[hlen']
   have goal:RelD (FW W) W (.sl (zs.map f)) (.slice (some ⟨b,o,none⟩) (zs.map f).length cap):=by
    refine .sl _ (k+1) b o cap (fun q=>(W.cell? ⟨b,o+q,none⟩).getD undef) (fun y hy=>?_) od (fun q hq=>?_) (fun i hi j hj=>?_)
    ·obtain⟨y',_,rfl⟩:=List.mem_map.1 hy;exact hk y'
    ·have hq':q<zs.length*(k+1):=by simpa using hq
     have hi:q / (k+1)<zs.length:=Nat.div_lt_of_lt_mul (by rw[Nat.mul_comm];exact hq');have hj:q % (k+1)<k+1:=Nat.mod_lt _ od;obtain⟨v,h1,_⟩:=cellAt _ hi (q % (k+1)) (by rw[hk];exact hj);rw[Nat.div_add_mod'] at h1;exact⟨FW_cell h1,by rw[h1];rfl⟩
    ·have hi':i<zs.length:=by simpa using hi
     simp only[List.getElem_map] at hj ⊢;obtain⟨v,h1,h2⟩:=cellAt i hi' j hj;show RelD (FW W) W _ ((W.cell? ⟨b,o+(i*(k+1)+j),none⟩).getD undef)
     rw[h1];exact h2
   rw[hlen'] at goal;exact goal
 ·have:=zl1 (m:=m) (zs:=zs) (xs:=elems.map (·.1)) (by simp[hal]) (fun i h1 h2=>by
   have:=(has i (by simpa using h2) h1).2.1;simpa using this)
  simp only[Rows.uptoBulk];omega
 ·obtain⟨i,hi,rfl⟩:=List.getElem_of_mem hy;exact(has i od hi).2.2
def DecF (P:Program) (W:World) (n o K:Nat) (fs:List Field){α:Type} (f:α->List D) (m:α->Nat) (R:α->Prop):Prop:=
 ∀(H:Type) (enc:TypeId×Value->H) (cs:List Value) (xs:List (DataW H×List MemPlace)),cs.length=K->xs.length=fs.length->
  (∀(i:Nat) (fd:Field),fs[i]?=some fd->DataW.trod enc P W 0 (fun _=>true) true n fd.type ((cs.drop fd.offset).take (P.cellsOf fd.type))=xs[i]?)->
  ∃a,RelL W (f a) (cs.drop o)/\m a<=Rows.uptoBulkAll (xs.map (·.1))/\R a
theorem DecF.nil {K:Nat}:DecF P W n K K [] (fun _:Unit=>[]) (fun _=>0) (fun _=>True):=fun H enc cs xs h1 h2 _=>
 ⟨(),by rw[List.drop_of_length_le od];exact⟨rfl,fun i h=>by simp at h⟩,by simp,trivial⟩
theorem DecF.cons {α β:Type}{f:α->List D}{m:α->Nat}{R:α->Prop}{f2:β->List D}{m2:β->Nat}{R2:β->Prop}{o K k:Nat}{fd:Field}{fs:List Field}
  (h1:Dec P W n fd.type f m R) (ho:fd.offset=o) (hc:P.cellsOf fd.type=k) (h2:DecF P W n (o+k) K fs f2 m2 R2):
  DecF P W n o K (fd::fs) (fun p:α×β=>f p.1++f2 p.2) (fun p=>m p.1+1+m2 p.2) (fun p=>R p.1/\R2 p.2):=fun H enc cs xs hK hl hx=>by
 cases xs with
 |nil=>simp at hl
 |cons y ys=>
  have h0:=hx 0 fd og;simp only[List.getElem?_cons_zero] at h0;rw[ho,hc] at h0;obtain⟨a,q1,q2,q3⟩:=h1 H enc _ _ h0;obtain⟨b,r1,r2,r3⟩:=h2 H enc cs ys hK (by simpa using hl) (fun i fd' hi=>by
   have:=hx (i+1) fd' (by simpa using hi);simpa using this)
  refine⟨(a,b), ?_, ?_,q3,r3⟩
  ·have:cs.drop o=(cs.drop o).take k++cs.drop (o+k):=by
    rw[<-List.drop_drop,List.take_append_drop]
   rw[this];exact q1.append r1
  ·simp only[xaf,Rows.uptoBulkAll];omega
theorem Dec.struct {α:Type}{f:α->List D}{m:α->Nat}{R:α->Prop}{fs:Array Field} (ht:P.underlying t=some (.struct fs)){K:Nat} (hK:P.cellsOf t=K) (h:DecF P W n 0 K fs.toList f m R):
  Dec P W (n+1) t f m R:=fun H enc cs x hx=>by
 obtain⟨xs,n',hn,rfl,hl,hxl,hf⟩:=DataW.trod_struct ht hx;obtain rfl:n=n':=by omega
 obtain⟨a,q1,q2,q3⟩:=h H enc cs xs od (by simpa using hxl) (fun i fd hi=>hf i fd (by simpa using hi));refine⟨a,by simpa using q1, ?_,q3⟩;simp only[Rows.uptoBulk];omega
end
section
variable {P:Program}{W:World}{base:Nat}{t:TypeId}{v:Value}{H:Type}{enc:TypeId×Value->H}{d:DataW H}{ps:List MemPlace}
theorem zoC {α:Type}{e:TypeId}{f:α->List D}{m:α->Nat}{R:α->Prop}{k:Nat} (ht:P.underlying t=some (.slice e)) (hc:P.cellsOf e=k+1) (hk:∀a,(f a).length=k+1) (hd:∀n,Dec P W n e f m R)
  (hval:Value.okWide P W .any base t v) (h:DataW.Trod enc P W 0 (fun _=>true) true t v d ps):
  ∃l:List α,(∀G T,G.F=FW W->RelA G T W (.d (.sl (l.map f))) v)/\sumM m l+1<=Rows.uptoBulk d/\∀a∈l,R a:=by
 obtain⟨n,hn⟩:=h;cases n with
 |zero=>simp[DataW.trod] at hn
 |succ n=>
  obtain⟨l,h1,h2,h3⟩:=Dec.sl ht hc hk (hd n) H enc _ _ hn;have hcells:v.cells.toList=[v]:=by
   cases v with
   |agg cs=>simp only[Value.okWide,ht,Cell.okWide,Cell.ok] at hval
   |_=>rfl
  rw[hcells] at h1;exact⟨l,fun G T hG=> .d (by rw[hG];simpa using h1.rel 0 og og),h2,h3⟩
end
section
variable {P:Program}{H:Type}{enc:TypeId×Value->H}
theorem zhf (hl:laidOutB P=true){W W':World} (hb:Below W.heap.size W W'):∀ {ts:List TypeId}{vs:List Value}{ds:List (DataW H)}{ps:List MemPlace},
  (∀t∈ts,P.readableRec t=true/\t<P.types.size)->DataW.TrodAll enc P W 0 (fun _=>true) true ts vs ds ps->(∀x∈ps,x.block<W.heap.size)->
  DataW.TrodAll enc P W' 0 (fun b=>decide (b<W.heap.size)) true ts vs ds ps
 | [],[],[],ps,_,h,_=>h
 |t::ts,v::vs,d::ds,ps,hr,h,hlt=>by
  obtain⟨p,q,h1,h2,rfl⟩:=h;exact⟨p,q,Below.trod hl (hr t og).1 (hr t og).2 h1 hb (fun x hx=>hlt x (by simp[hx])),
   zhf hl hb (fun t ht=>hr t (by simp[ht])) h2 (fun x hx=>hlt x (by simp[hx])),rfl⟩
theorem zqp {f:Func}{s:ChangeSpec}{W W':World}{args:Array Value}{ds gs:List (DataW H)}{before:List MemPlace}{tb:TypeId}
  (hW:DataW.Whole enc P f.params.toList s.vars false W args.toList ds gs before) (hvars:s.vars=[]) (hrt:f.resultTypes = #[tb]) (htb:P.underlying tb=some .bool)
  (hs:s.fn H (ds++gs)={ results:=[.lit (.bool true)],args:=ds }) (hl:laidOutB P=true) (hr:∀t∈f.params.toList,P.readableRec t=true/\t<P.types.size)
  (hb:Below W.heap.size W W'):s.post enc P f false true false false W args (.bool true) W':=by
 have hlt:∀p∈before,p.block<W.heap.size:=fun p hp=>hW.lt p hp;have hW0:=hW;obtain⟨p,q,hA,hV,rfl,hfz,_⟩:=hW;rw[hvars] at hV;cases gs with
 |cons g gs=>exact hV.elim
 |nil=>
  have hq:q=[]:=hV;subst hq;simp only[xaq] at *;refine⟨ds,[],p,[],p,[],by simpa [hvars] using hW0, ?_, ?_, ?_,World.keptBut_mono (fun x hx=>⟨hx,.inr (.inl hx)⟩) (hb.frame (·∈p)),fun h=>by cases h⟩
  ·simp only[xaq,hs,hrt];exact trodAll_cons_mk (shut_bool htb _) trodAll_mk0
  ·simp only[xaq,hs];exact zhf hl hb hr hA hlt
  ·simp only[hvars,xaq,hs];rfl
theorem zpq {f:FuncId}{avs:List AV}{W:World}{args:Array Value}{r:AV} (hf:FnD P f avs [] r [])
  (hargs:∀G T,G.F=FW W->AllR G T W avs args):Calls P f args W fun e W'=>∃v G',e = .returned v/\RelA G' (fun _=>none) W' r v/\Below W.heap.size W W':=by
 let G:Gh:={ F:=FW W,loc:=fun _=>[] }
 refine(hf G W args ⟨hargs G _ rfl,fun id r h=>(by simp[getH] at h),fun id id' h=>(by simp[getH] at h),fun b hb=>FW_top hb⟩).mono ?_;rintro e W' ⟨v,r',hp',G',rfl,⟨rfl,rfl⟩,h⟩
 exact⟨v,G',rfl,h.res,⟨h.frm.os,h.frm.tape,h.frm.output,h.frm.size,fun b hb=>(h.frm.block b hb (by simp[zdu])).1⟩⟩
theorem RelA.bool_true {G:Gh}{T:TokF}{w:World}{v:Value} (h:RelA G T w (.d (.bool true)) v):v = .bool true:=by
 cases h with|d h=>cases h;rfl
theorem zqd {H:Type}{l:List (DataW H)} (hk:Rows.uptoSmall H l=true):Rows.uptoBulkAll l<=1048576:=xas hk
end
set_option maxRecDepth 100000
theorem znn (W:World) (n:Nat):Dec Tryz.prog W n 5 (fun x:UInt8=>[D.int .u8 (x.toNat:Int)]) (fun _=>0) (fun _=>True):=fun H enc cs x hx=>by
 obtain⟨z,q1,q2,q3⟩:=Dec.int (k:= .u8) Tryz.underlying5 H enc cs x hx;have h:0<=z/\z<=255:=by
  simp[Lit.wf,IntKind.wrap,IntKind.signed,IntKind.bits,IntKind.min,IntKind.max] at q3;omega
 refine⟨UInt8.ofNat z.toNat, ?_,q2,trivial⟩;have e:(((UInt8.ofNat z.toNat).toNat:Nat):Int)=z:=by
  rw[UInt8.toNat_ofNat',Nat.mod_eq_of_lt od];omega
 show RelL W [D.int .u8 (((UInt8.ofNat z.toNat).toNat:Nat):Int)] cs
 rw[e];exact q1
end Go.Proofs.YtmkipahfpaacgaaGreatDoor
