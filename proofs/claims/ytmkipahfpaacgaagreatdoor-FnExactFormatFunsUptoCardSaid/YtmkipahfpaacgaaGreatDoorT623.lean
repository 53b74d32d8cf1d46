/-
  THE ABSTRACT WALK AND THE WALKS, part 3 of 4.
-/
import Derived.Test.YtmkipahfpaacgaaGreatDoorT622
namespace Go.Proofs.YtmkipahfpaacgaaGreatDoor
open Go
set_option linter.unusedSimpArgs false
set_option linter.unusedVariables false
set_option maxRecDepth 100000
set_option maxHeartbeats 4000000
theorem zfk {w:List Data}{d:Nat}{k:Int}:zaA w ⟨d,k⟩=zcF w ⟨d,k⟩:=by unfold zaA;rw[if_neg (by simp only;omega)]
theorem zeF {w:List Data}{k:Int}:zaA w ⟨-1,k⟩=[]:=by unfold zaA;rw[if_pos rfl]
theorem zeG {w:List Data} (hw:WT w){a k:Int} (ht:TyIn w.length ⟨a,k⟩):(zaA w ⟨a,k⟩).length<=1000000000000:=by
 rcases ht with ha|⟨d,hd,hlt⟩
 ·simp only at ha;subst ha;rw[zeF];exact Nat.zero_le _
 ·simp only at hd;subst hd;rw[zfk];exact zlz hw
theorem za1 {w:List Data}{a k c:Int} (ht:TyIn w.length ⟨a,k⟩) (h:c∈zaA w ⟨a,k⟩):∃d:Nat,a=d/\d<w.length/\PlaceIn w d c:=by
 rcases ht with ha|⟨d,hd,hlt⟩
 ·simp only at ha;subst ha;rw[zeF] at h;simp at h
 ·simp only at hd;subst hd;rw[zfk] at h;exact⟨d,rfl,hlt,zny h⟩
theorem zcy {w:List Data} (hw:WT w){a k:Int}{p:Pat} (ht:TyIn w.length ⟨a,k⟩) (h:ownP w ⟨a,k⟩ p=true):∀t∈zaa w ⟨a,k⟩ p,TyIn w.length t:=by
 intro t hm;unfold zaa at hm;split at hm
 ·rename_i h4;unfold ownP at h;have h':=xas h;have hc:p.ctor∈zaA w ⟨a,k⟩:=by
   rcases h'.2.2.2.2 with h|h|h|h|h|h
   ·omega
   ·omega
   ·omega
   ·omega
   ·omega
   ·exact h.2
  obtain⟨d,rfl,h1,h2⟩:=za1 ht hc;exact zjR hw h1 h2 hm
 ·split at hm
  ·simp only[List.mem_cons,xau,or_false] at hm;rcases hm with rfl|rfl<;>exact ht
  ·split at hm
   ·simp only[List.mem_cons,xau,or_false] at hm;subst hm;exact ht
   ·simp at hm
theorem zeD {w:List Data} (hw:WT w){a k:Int}{p:Pat} (ht:TyIn w.length ⟨a,k⟩) (h:p.op=4->p.ctor∈zaA w ⟨a,k⟩):(zaa w ⟨a,k⟩ p).length<=1000000000000:=by
 unfold zaa;split
 ·rename_i h4;obtain⟨d,rfl,h1,h2⟩:=za1 ht (h h4);exact zie hw h1 h2
 ·split
  ·simp
  ·split<;>simp
def zd4 (op:Int):Int:=if op=5 then 2 else if op=6 then 1 else if op=4 then -1 else 0
theorem zjO {op:Int}:FnD Tryz.prog 280 [.d (.i op)] [] (.d (.i (zd4 op))) []:=by
 refine bd Tryz.f280 10 [] [] fun _ _ _ _ hk=>?_;apply sq<;>intro h1 h1p h1s;refine rq ?_;rotate_left;apply sq<;>intro h2 h2p h2s;refine rq ?_;rotate_left;apply sq<;>intro h3 h3p h3s;refine rq ?_;rotate_left;refine rq ?_;rotate_left;all_goals (refine xam D.i ?_;simp only[zd4];simp_all)
theorem zbW {w:List Data} (hw:WT w){a k:Int} (ht:TyIn w.length ⟨a,k⟩):FnD Tryz.prog 243 [.d (zae w),.agg [.d (.i a),.d (.i k)]] [] (.d (zcr (zaA w ⟨a,k⟩))) []:=by
 rcases ht with ha|⟨d,hd,hlt⟩
 ·simp only at ha;subst ha;rw[zeF];exact zgq
 ·simp only at hd;subst hd;rw[zfk];exact zjd hw hlt
theorem zdh {w:List Data} (hw:WT w){a k c:Int} (ht:TyIn w.length ⟨a,k⟩) (hc:c∈zaA w ⟨a,k⟩):FnD Tryz.prog 159 [.d (zae w),.agg [.d (.i a),.d (.i k)],.d (.i c)] [] (.d (zaR (zan w ⟨a,k⟩ c))) []:=by
 obtain⟨d,rfl,h1,h2⟩:=za1 ht hc;exact zjK hw h1 h2
theorem zek {w:List Data} (hw:WT w){a k:Int}{p:Pat} (ht:TyIn w.length ⟨a,k⟩):
  FnD Tryz.prog 256 [.d (zae w),.agg [.d (.i a),.d (.i k)],.agg [.d (.i p.op),.d (.i p.ctor),.d (.i p.n),.d (.i p.m),.d (.i p.var),.d (zal p.kids)]] [] (.d (.bool (ownP w ⟨a,k⟩ p))) []:=by
 have hcl:=zeG hw ht;refine bd Tryz.f256 96 [] [1,2,4,13] fun _ _ _ _ hk=>?_;refine bx 3004 ?_;refine bx 3005 ?_;refine ev (xaA (xa6 8 [(15,.d (.bool (decide (p.op=2\/p.op=6))))] [8,9,10,11,12,13,14] ?_ ?_));refine ev ?_;apply sq<;>intro h1 h1p h1s;exact jnb Z;exact jnb Z;refine xa5 (ev (xaA (xa6 11 [(26,.d (.bool (decide ((p.op=2\/p.op=6)/\(p.var<0\/5<p.var)))))] [16,17,18,19,20,21,22,23,24,25] ?_ ?_)));refine ev ?_;apply sq<;>intro h2 h2p h2s;apply sq<;>intro h3 h3p h3s;exact jnb Z;exact jnb Z;exact jnb Z;refine xa6 9 [(35,.d (.bool (decide ((p.op=2\/p.op=6)/\(p.var<0\/5<p.var)\/¬(p.op=2\/p.op=6)/\p.var≠0))))] [27,28,29,30,31,32,33,34] ?_ ?_;refine ev ?_;apply sq<;>intro h4 h4p h4s;exact jnb Z;apply sq<;>intro h5 h5p h5s;exact jnb Z;exact jnb Z;refine xa5 ?_;apply tv;apply sq<;>intro h6 h6p h6s;refine rq ?_;rotate_left;refine xaA (xa6 13 [(48,.d (.bool (decide (p.op≠3/\(p.n≠0\/p.m≠0)))))] [36,37,38,39,40,41,42,43,44,45,46,47] ?_ ?_);refine ev ?_;apply sq<;>intro h7 h7p h7s;apply sq<;>intro h8 h8p h8s;exact jnb Z;exact jnb Z;exact jnb Z;refine xa6 10 [(58,.d (.bool (decide (p.op≠3/\(p.n≠0\/p.m≠0)\/p.op≠4/\p.ctor≠0))))] [49,50,51,52,53,54,55,56,57] ?_ ?_;refine ev ?_;apply sq<;>intro h9 h9p h9s;exact jnb Z;apply sq<;>intro h10 h10p h10s;exact jnb Z;exact jnb Z;refine xa5 ?_;apply tv;apply sq<;>intro h11 h11p h11s;refine rq ?_;rotate_left;apply sq<;>intro h12 h12p h12s;apply sq<;>intro h13 h13p h13s;refine rq ?_;rotate_left;apply sq<;>intro h14 h14p h14s;refine xaA (xa6 8 [(75,.d (.bool (decide (a = -1/\0<=p.n))))] [68,69,70,71,72,73,74] ?_ ?_);refine ev ?_;apply sq<;>intro h15 h15p h15s;exact jnb Z;exact jnb Z;refine xa6 7 [(82,.d (.bool (decide (a = -1/\0<=p.n/\p.n<=p.m))))] [76,77,78,79,80,81] ?_ ?_;refine ev ?_;apply sq<;>intro h16 h16p h16s;exact jnb Z;exact jnb Z;refine xa6 5 [(87,.d (.bool (decide (a = -1/\0<=p.n/\p.n<=p.m/\p.m<=9))))] [83,84,85,86] ?_ ?_;refine ev ?_;apply sq<;>intro h17 h17p h17s;exact jnb Z;exact jnb Z;refine xa5 (ev (rq ?_));rotate_left;apply sq<;>intro h18 h18p h18s;refine wc zfy (zbW hw ht) Z Z ?_;refine evd [] [] (wc zfz (zb3 hcl) Z Z ?_);refine evd [] [] (dr (rq ?_));rotate_left;refine rq ?_;rotate_left;apply sq<;>intro h19 h19p h19s;apply sq<;>intro h20 h20p h20s;refine rq ?_;rotate_left;apply sq<;>intro h21 h21p h21s;refine xaA (xa6 8 [(75,.d (.bool (decide (a = -1/\0<=p.n))))] [68,69,70,71,72,73,74] ?_ ?_);refine ev ?_;apply sq<;>intro h22 h22p h22s;exact jnb Z;exact jnb Z;refine xa6 7 [(82,.d (.bool (decide (a = -1/\0<=p.n/\p.n<=p.m))))] [76,77,78,79,80,81] ?_ ?_;refine ev ?_;apply sq<;>intro h23 h23p h23s;exact jnb Z;exact jnb Z;refine xa6 5 [(87,.d (.bool (decide (a = -1/\0<=p.n/\p.n<=p.m/\p.m<=9))))] [83,84,85,86] ?_ ?_;refine ev ?_;apply sq<;>intro h24 h24p h24s;exact jnb Z;exact jnb Z;refine xa5 (ev (rq ?_));rotate_left;apply sq<;>intro h25 h25p h25s;refine wc zfy (zbW hw ht) Z Z ?_;refine evd [] [] (wc zfz (zb3 hcl) Z Z ?_);refine evd [] [] (dr (rq ?_));rotate_left;refine rq ?_;rotate_left;apply sq<;>intro h26 h26p h26s;apply sq<;>intro h27 h27p h27s;refine rq ?_;rotate_left;apply sq<;>intro h28 h28p h28s;refine xaA (xa6 8 [(75,.d (.bool (decide (a = -1/\0<=p.n))))] [68,69,70,71,72,73,74] ?_ ?_);refine ev ?_;apply sq<;>intro h29 h29p h29s;exact jnb Z;exact jnb Z;refine xa6 7 [(82,.d (.bool (decide (a = -1/\0<=p.n/\p.n<=p.m))))] [76,77,78,79,80,81] ?_ ?_;refine ev ?_;apply sq<;>intro h30 h30p h30s;exact jnb Z;exact jnb Z;refine xa6 5 [(87,.d (.bool (decide (a = -1/\0<=p.n/\p.n<=p.m/\p.m<=9))))] [83,84,85,86] ?_ ?_;refine ev ?_;apply sq<;>intro h31 h31p h31s;exact jnb Z;exact jnb Z;refine xa5 (ev (rq ?_));rotate_left;apply sq<;>intro h32 h32p h32s;refine wc zfy (zbW hw ht) Z Z ?_;refine evd [] [] (wc zfz (zb3 hcl) Z Z ?_);refine evd [] [] (dr (rq ?_));rotate_left;refine rq ?_;rotate_left;apply sq<;>intro h33 h33p h33s;refine rq ?_;rotate_left;apply sq<;>intro h34 h34p h34s;refine xaA (xa6 8 [(75,.d (.bool (decide (a = -1/\0<=p.n))))] [68,69,70,71,72,73,74] ?_ ?_);refine ev ?_;apply sq<;>intro h35 h35p h35s;exact jnb Z;exact jnb Z;refine xa6 7 [(82,.d (.bool (decide (a = -1/\0<=p.n/\p.n<=p.m))))] [76,77,78,79,80,81] ?_ ?_;refine ev ?_;apply sq<;>intro h36 h36p h36s;exact jnb Z;exact jnb Z;refine xa6 5 [(87,.d (.bool (decide (a = -1/\0<=p.n/\p.n<=p.m/\p.m<=9))))] [83,84,85,86] ?_ ?_;refine ev ?_;apply sq<;>intro h37 h37p h37s;exact jnb Z;exact jnb Z;refine xa5 (ev (rq ?_));rotate_left;apply sq<;>intro h38 h38p h38s;refine wc zfy (zbW hw ht) Z Z ?_;refine evd [] [] (wc zfz (zb3 hcl) Z Z ?_);refine evd [] [] (dr (rq ?_));rotate_left;refine rq ?_;rotate_left;all_goals (refine xam D.bool ?_;unfold ownP;rw[xat];by_cases hmem:p.ctor∈zaA w ⟨a,k⟩<;>(simp only[hmem,and_true,and_false,or_false,xah,xad,Bool.false_eq_true,true_iff,false_iff];simp only[xah,decide_eq_false_iff_not] at *;omega))
theorem zce {w:List Data} (hw:WT w){a k:Int}{p:Pat} (ht:TyIn w.length ⟨a,k⟩) (h:p.op=4->p.ctor∈zaA w ⟨a,k⟩):
  FnD Tryz.prog 229 [.d (zae w),.agg [.d (.i a),.d (.i k)],.agg [.d (.i p.op),.d (.i p.ctor),.d (.i p.n),.d (.i p.m),.d (.i p.var),.d (zal p.kids)]] [] (.d (zaR (zaa w ⟨a,k⟩ p))) []:=by
 by_cases h4:p.op=4
 ·have e:zaa w ⟨a,k⟩ p=zan w ⟨a,k⟩ p.ctor:=by unfold zaa;rw[if_pos h4]
  rw[e];refine bd Tryz.f229 30 [] [] fun _ _ _ _ hk=>?_;refine bx 3004 ?_;refine bx 3005 ?_;refine ev ?_;apply sq<;>intro h1 h1p h1s;refine wc zik (zdh hw ht (h h4)) Z Z ?_;refine ev (rq ?_);rotate_left;exfalso;simp_all;all_goals (rfl)
 ·have e:zaa w ⟨a,k⟩ p=List.replicate (zd4 p.op).toNat ⟨a,k⟩:=by
   unfold zaa zd4;rw[if_neg h4];by_cases h5:p.op=5
   ·rw[if_pos h5,if_pos h5];rfl
   ·rw[if_neg h5,if_neg h5];by_cases h6:p.op=6
    ·rw[if_pos h6,if_pos h6];rfl
    ·rw[if_neg h6,if_neg h6,if_neg h4];rfl
  have hb:0<=zd4 p.op/\zd4 p.op<=2:=by unfold zd4;split<;>(try split)<;>(try split)<;>omega
  rw[e];refine bd Tryz.f229 30 [] [] fun _ _ _ _ hk=>?_;refine bx 3004 ?_;refine bx 3005 ?_;refine ev ?_;apply sq<;>intro h1 h1p h1s;exfalso;simp_all;refine xbv 5 zau .none Z Z (ev (xaz (ι:=Nat) hk (fun i=>[(8,.d (.i (i:Int))),(7,.gl 5 ((List.replicate i (⟨a,k⟩:Ty)).map Ty.c))]) [18,19,20,21,22,23,24,25,26,27,28] (fun i=>[(5,some (.tok (((List.replicate i (⟨a,k⟩:Ty)).map Ty.c)).length 2))]) (fun i=>(i:Int)<=zd4 p.op) (fun i=>(zd4 p.op).toNat-i) 0 oc ⟨⟨_,Z,xaL ?_⟩,⟨⟨_,Z,LeA.glg ?_⟩,O⟩⟩ ⟨zai ?_,O⟩ (fun x=>rfl) (fun i hg1=>?_)));iterate 3 focus (rfl)
  refine evc [] [] (wc zo7 zjO Z Z ?_);refine ev ?_;apply sq<;>intro h2 h2p h2s<;>(try simp only[Q] at h2p);refine si [0] [_] zau tz38 ?_;refine ap zau zz38 Z Z Z oe oj ?_;refine ev (ar (xaj (i+1) ⟨oc,oc,sx ⟨⟨_,Z,xaL ?_⟩,⟨⟨_,Z,LeA.glg ?_⟩,O⟩⟩ ⟨zai ?_,O⟩⟩));iterate 3 focus ((simp[List.replicate_succ'];done))
  refine rn0 (r1 Z) (.gld ?_);rotate_left;all_goals ((obtain rfl:i=(zd4 p.op).toNat:=by omega);simp)
theorem zbz {w:List Data}{n:Nat}{t:Ty}{p:Pat} (h:zaj w (n+1) t p=true):ownP w t p=true/\p.kids.length=(zaa w t p).length:=by
 simp only[zaj,xad] at h;refine⟨h.1, ?_⟩;by_cases hl:(zaa w t p).length=p.kids.length
 ·exact hl.symm
 ·rw[zdi hl] at h;simp at h
theorem zbM {w:List Data}{t:Ty}{p:Pat} (h:ownP w t p=true):p.op=4->p.ctor∈zaA w t:=by
 intro h4;unfold ownP at h;have h':=(xas h).2.2.2.2;rcases h' with h|h|h|h|h|h
 ·omega
 ·omega
 ·omega
 ·omega
 ·omega
 ·exact h.2
theorem zh2 {w:List Data}{t:Ty}{p:Pat} (h:ownP w t p=true):(p.op=2\/p.op=6)->0<=p.var/\p.var<=5:=by
 unfold ownP at h;exact(xas h).1
theorem zdG {w:List Data} (hw:WT w):∀(n:Nat){a k m:Int}{p:Pat},m=n->n<=1000->TyIn w.length ⟨a,k⟩->p.ok->
  FnD Tryz.prog 186 [.d (zae w),.agg [.d (.i a),.d (.i k)],.agg [.d (.i p.op),.d (.i p.ctor),.d (.i p.n),.d (.i p.m),.d (.i p.var),.d (zal p.kids)],.d (.i m)] [] (.d (.bool (zaj w n ⟨a,k⟩ p))) []
 |0,a,k,m,p,hm,_,ht,hok=>by
  refine bd Tryz.f186 50 [] [1] fun _ _ _ _ hk=>?_;refine bx 3005 ?_;refine bx 3006 ?_;refine ev (xaA (xa6 9 [(19,.d (.bool true))] [11,12,13,14,15,16,17,18] ?_ ?_));refine ev ?_;apply sq<;>intro h1 h1p h1s;exact jnb Z;refine Walk.call (cr:=[]) zkS (zek hw ht) Z (.some Z Z h1) Z Z (LeL.refl _) O Z Z Z (evs [] [(13,false)] ?_ ⟨⟨_,Z,h1⟩,O⟩);exact jnb Z;refine xa5 ?_;apply tv;apply sq<;>intro h2 h2p h2s;refine rq ?_;rotate_left;exact absurd h2 oe;all_goals (rfl)
 |n+1,a,k,m,p,hm,hn,ht,hok=>by
  rw[xaR] at hok;by_cases ho:ownP w ⟨a,k⟩ p=true
  ·have hin:=zcy hw ht ho;have hlen:=zeD hw ht (zbM ho);refine bd Tryz.f186 50 [] [1] fun _ _ _ _ hk=>?_;refine bx 3005 ?_;refine bx 3006 ?_;refine ev (xaA (xa6 9 [(19,.d (.bool false))] [11,12,13,14,15,16,17,18] ?_ ?_));refine ev ?_;apply sq<;>intro h1 h1p h1s;exact jnb Z;refine Walk.call (cr:=[]) zkS (zek hw ht) Z (.some Z Z h1) Z Z (LeL.refl _) O Z Z Z (evs [] [(13,false)] ?_ ⟨⟨_,Z,h1⟩,O⟩);exact jnb Z;refine xa5 ?_;apply tv;apply sq<;>intro h2 h2p h2s;exact absurd h2 oe;refine wc zgv (zce hw ht (zbM ho)) Z Z ?_;refine ev ?_;apply sq<;>intro h3 h3p h3s;refine rq ?_;rotate_left;try simp only[Q,xaP] at h3p
   refine xaz (ι:=Nat) hk (fun i=>[(10,.d (.i (i:Int)))]) [8,30,31,32,33,34,35,36,37,38,39,40,41,42,43,44,45,46,47,48,49] (fun i=>[]) (fun i=>i<=(zaa w ⟨a,k⟩ p).length/\∀i',i'<i->zaj w n (nth (zaa w ⟨a,k⟩ p) i') (nth p.kids i')=true) (fun i=>(zaa w ⟨a,k⟩ p).length-i) 0 ⟨by omega,fun _ h=>absurd h oc⟩ ⟨⟨_,Z,xaL ?_⟩,O⟩ O (fun x=>rfl) (fun i hg1=>?_);focus (first|(simp;done)|(simp_all;done))
   refine evc [] [1] ?_;apply sq<;>intro h4 h4p h4s;try simp only[Q,xaP] at h4p
   refine ixq zau Z Z Z (zaf oc) Z ?_;refine evd [] [] (ixq sl58 Z Z Z (zba oc) Z ?_);refine evd [] [] (ar (wc zkM (zdG hw n oc oc (hin _ (zad oc)) (xaT hok.2 _ (zad oc))) Z Z ?_));refine evd [] [] (dr ?_);apply sq<;>intro h5 h5p h5s;refine rq ?_;rotate_left;try simp only[Q,xaP] at h5p
   refine ar (xaj (i+1) ⟨⟨by omega,zaw hg1.2 oh⟩,oc,sx ⟨⟨_,Z,xaL ?_⟩,O⟩ O⟩);focus (first|(simp;done)|(simp_all;done))
   refine rq ?_;rotate_left;all_goals (refine xam D.bool ?_;unfold zaj;rw[ho,Bool.true_and];first|(rw[zdi (by simp[xaP] at *;omega)])|(rw[zbJ (by simp[xaP] at *;omega) (fun x hx=>hg1.2 x (by simp[xaP] at *;omega))])|(rw[za8 (i:=i) (by simp[xaP] at *;omega) (by simp[xaP] at *;omega) oh]))
  ·have ho':ownP w ⟨a,k⟩ p=false:=by simpa using ho
   refine bd Tryz.f186 50 [] [1] fun _ _ _ _ hk=>?_;refine bx 3005 ?_;refine bx 3006 ?_;refine ev (xaA (xa6 9 [(19,.d (.bool true))] [11,12,13,14,15,16,17,18] ?_ ?_));refine ev ?_;apply sq<;>intro h1 h1p h1s;exact jnb Z;refine Walk.call (cr:=[]) zkS (zek hw ht) Z (.some Z Z h1) Z Z (LeL.refl _) O Z Z Z (evs [] [(13,false)] ?_ ⟨⟨_,Z,h1⟩,O⟩);exact jnb Z;refine xa5 ?_;apply tv;apply sq<;>intro h2 h2p h2s;refine rq ?_;rotate_left;exact absurd h2 oe;all_goals (refine xam D.bool ?_;unfold zaj;rw[ho'];rfl)
theorem zcu {l:List Vt}{n:Int} (h:l.length<=1000000000000):FnD Tryz.prog 240 [.d (zaU l),.d (.i n)] [] (.d (.i (zaF l n))) []:=by
 refine bd Tryz.f240 20 [] [] fun _ _ _ _ hk=>?_;refine xaz (ι:=List (Vt)×List (Vt)) hk (fun x=>[(5,.d (.i (x.1.length:Int)))]) [4,6,7,8,9,10,11,12,13,14,15,16,17,18,19] (fun x=>[]) (fun x=>x.1++x.2=l/\idxF (fun v=>decide (v.var=n)) x.2 x.1.length=idxF (fun v=>decide (v.var=n)) l 0) (fun x=>x.2.length) ([],l) ⟨by simp,Z⟩ ⟨⟨_,Z,xaL ?_⟩,O⟩ O (fun x=>rfl) (fun x hg1=>?_);focus (rfl)
 obtain⟨pre,rest⟩:=x;dsimp only at hg1 ⊢;refine evc [] [] ?_;apply sq<;>intro h1 h1p h1s<;>(try simp only[Q] at h1p);rcases rest with _|⟨y,rest⟩
 ·exfalso;simp_all
 refine ixq sl36 Z Z Z (zaE hg1.1) Z (ev ?_);apply sq<;>intro h2 h2p h2s<;>(try simp only[Q] at h2p);focus (refine rq ?_;all_goals (refine xam D.i ?_;unfold zaF;rw[<-hg1.2];simp[idxF,h1s,h1p,h2s,h2p]))
 refine ar (xaj ((pre++[y],rest)) ⟨⟨(by have hz:=hg1.1;rw[<-hz];simp),(by rw[<-hg1.2];simp_all[idxF])⟩,oe,sx ⟨⟨_,Z,xaL ?_⟩,O⟩ O⟩);focus ((simp;done))
 have hrest:rest=[]:=by
  rcases rest with _|⟨a,b⟩
  ·rfl
  ·exfalso;have hz:=xam List.length (hg1.1);simp only[xaa,xab,xac] at hz;omega
 subst hrest;focus (refine rq ?_;all_goals (refine xam D.i ?_;unfold zaF;rw[<-hg1.2];simp[idxF,h1s,h1p]))
theorem zlx {a b:List Vt}{i:Nat} (h:i<a.length) (h2:¬(0<=zaF b (nth a i).var/\(nth b (zaF b (nth a i).var).toNat).ty=(nth a i).ty)):zcB a b=false:=by
 unfold zcB;have:(a.all fun v=>decide (0<=zaF b v.var/\(nth b (zaF b v.var).toNat).ty=v.ty))=false:=List.all_eq_false.2 ⟨_,zad h,by simpa using h2⟩;rw[this,Bool.false_and]
theorem zlW {a b:List Vt} (h:∀i,i<a.length->0<=zaF b (nth a i).var/\(nth b (zaF b (nth a i).var).toNat).ty=(nth a i).ty):zcB a b=decide (a.length=b.length):=by
 unfold zcB;have:(a.all fun v=>decide (0<=zaF b v.var/\(nth b (zaF b v.var).toNat).ty=v.ty))=true:=by
  rw[List.all_eq_true];intro v hv;obtain⟨j,hj,he⟩:=List.getElem_of_mem hv;have:=h j hj;rw[zaB hj,he] at this;exact xax this
 rw[this,Bool.true_and]
theorem zeR {l:List Vt}{n:Int} (h:0<=zaF l n):(zaF l n).toNat<l.length/\((zaF l n).toNat:Int)=zaF l n:=by
 rcases zc4 l n with ⟨h1,_⟩|⟨k,h1,h2,_⟩
 ·omega
 ·rw[h1];simpa using h2
theorem zng {t u:Ty}:t=u↔t.data=u.data/\t.index=u.index:=by
 cases t;cases u;simp
theorem zjg {x y:List Vt} (hx:x.length<=1000000000000) (hy:y.length<=1000000000000):FnD Tryz.prog 257 [.d (zaU x),.d (zaU y)] [] (.d (.bool (zcB x y))) []:=by
 refine bd Tryz.f257 40 [33] [] fun _ _ _ _ hk=>?_;refine xaz (ι:=Nat) hk (fun i=>[(5,.d (.i (i:Int)))]) [4,6,7,8,9,10,11,12,13,14,15,16,17,18,19,20,21,22,23,24,25,26,27,28,29,30,31,32,33,34] (fun i=>[]) (fun i=>i<=x.length/\∀j,j<i->0<=zaF y (nth x j).var/\(nth y (zaF y (nth x j).var).toNat).ty=(nth x j).ty) (fun i=>x.length-i) 0 ⟨by omega,fun _ h=>absurd h oc⟩ ⟨⟨_,Z,xaL ?_⟩,O⟩ O (fun x=>rfl) (fun i hg1=>?_);focus (rfl)
 refine evc [33] [] ?_;apply sq<;>intro h1 h1p h1s<;>(try simp only[Q] at h1p);refine ixq sl36 Z Z Z (zaf oc) Z ?_;refine evs [33] [] (wc zgw (zcu hy) Z Z ?_);refine evs [33] [] ?_;apply sq<;>intro h2 h2p h2s<;>(try simp only[Q] at h2p);refine dr (sqT ?_);refine rq ?_;rotate_left;refine xbh (i:=(zaF y (nth x i).var).toNat) sl36 (.some Z Z h2) Z Z Z (zeR (l:=y) (n:=(nth x i).var) oc).2.symm (zaf (by exact(zeR (l:=y) (n:=(nth x i).var) oc).1)) Z ?_;refine evd [33] [(22,false)] ?_ ⟨⟨_,Z,h2⟩,O⟩;refine xbh sl36 (.some Z Z h2) Z Z Z Z (zaf oc) Z ?_;refine evd [33] [(22,false)] ?_ ⟨⟨_,Z,h2⟩,O⟩;refine Walk.neV eq38 (.some Z Z h2) Z Z Z Z Z (evd [33] [(22,false)] ?_ ⟨⟨_,Z,h2⟩,O⟩);refine dr ?_;apply sq<;>intro h4 h4p h4s<;>(try simp only[Q] at h4p);refine rq ?_;rotate_left;refine ar (xaj (i+1) ⟨⟨by omega,zaw hg1.2 (by rw[zng];first|omega|(simp at h4;omega))⟩,oc,sx ⟨⟨_,Z,xaL ?_⟩,O⟩ O⟩);focus (rfl)
 refine rq ?_;rotate_left;all_goals (refine xam D.bool ?_;first|(refine(zlx (i:=i) oc ?_).symm;simp only[zng];first|omega|(simp at h4;omega))|(rw[zlW (fun j hj=>hg1.2 j (by simp at h1p;omega))];exact decide_eq_decide.2 oj))
theorem zhb {f:Ty->Pat->List Vt} (hf:∀t p,(f t p).length<=p.size):∀(a:List Ty) (b:List Pat),(zaG f a b).length<=Pats.size b
 | [],[]=>by simp[zaG]
 | [],_::_=>by simp[zaG]
 |_::_,[]=>by simp[zaG]
 |x::r,y::s=>by
  have h1:=zhb hf r s;have h2:=hf x y;simp only[zaG,xaa,Pats.size];omega
theorem zc0 (w:List Data):∀(n:Nat) (t:Ty) (p:Pat),(zaq w n t p).length<=p.size
 |0,t,p=>by simp[zaq]
 |n+1,t,p=>by
  have h1:=zhb (zc0 w n) (zbY w t p) p.kids;have h2:(zax t p).length<=1:=by unfold zax;split<;>simp
  rw[xaS];simp only[zaq,xaa];omega
theorem zga {f:Ty->Pat->List Vt}:∀ {a:List Ty}{b:List Pat}{i:Nat},i<a.length->i<b.length->zaG f (a.take (i+1)) (b.take (i+1))=zaG f (a.take i) (b.take i)++f (nth a i) (nth b i)
 |x::r,y::s,0,_,_=>by simp[zaG,nth]
 |x::r,y::s,i+1,h1,h2=>by
  have:=zga (f:=f) (a:=r) (b:=s) (i:=i) (by simpa using h1) (by simpa using h2);simp only[List.take_succ_cons,zaG];rw[this,xar];rfl
theorem zjm {f:Ty->Pat->List Vt}:∀ {a:List Ty}{b:List Pat}{i:Nat},zaG f (a.take i) (b.take i)=zaG f (a.take i) b
 | [],b,i=>by simp[zaG]
 |x::r,[],i=>by simp[zaG]
 |x::r,y::s,0=>by simp[zaG]
 |x::r,y::s,i+1=>by simp only[List.take_succ_cons,zaG];rw[zjm]
theorem zlv {f:Ty->Pat->List Vt} (hf:∀t p,(f t p).length<=p.size){a:List Ty}{b:List Pat}{i:Nat} (h:i<b.length):(zaG f (a.take i) (b.take i)).length+(nth b i).size<=Pats.size b:=by
 have h1:=zhb hf (a.take i) (b.take i);have h2:=xaV (pre:=b.take i) (y:=nth b i) (rest:=b.drop (i+1)) (l:=b) (by rw[<-zbh h,List.take_append_drop]);omega
def zcw (w:List Data) (t:Ty) (p:Pat):Nat:=(zbY w t p).length
theorem zhc (w:List Data) (t:Ty) (p:Pat):zcw w t p=if p.op=5 then 1 else (zaa w t p).length:=by
 unfold zcw zbY;by_cases h5:p.op=5
 ·rw[if_pos h5,if_pos h5];have:zaa w t p=[t,t]:=by unfold zaa;rw[if_neg oc,if_pos h5]
  rw[this];rfl
 ·rw[if_neg h5,if_neg h5]
theorem zki {w:List Data}{f:Ty->Pat->List Vt}{t:Ty}{p:Pat} (hl:p.kids.length=(zaa w t p).length){i:Nat} (h:i=zcw w t p):zaG f ((zaa w t p).take i) (p.kids.take i)=zaG f (zbY w t p) p.kids:=by
 subst h;rw[zjm];congr 1
 rw[zhc];unfold zbY;by_cases h5:p.op=5
 ·rw[if_pos h5,if_pos h5]
 ·rw[if_neg h5,if_neg h5,List.take_length]
theorem zaW {w:List Data}{n:Nat}{t:Ty}{p:Pat} (h:zaj w (n+1) t p=true){i:Nat} (hi:i<p.kids.length):zaj w n (nth (zaa w t p) i) (nth p.kids i)=true:=by
 have hl:=(zbz h).2;cases hs:zaj w n (nth (zaa w t p) i) (nth p.kids i) with
 |true=>rfl
 |false=>
  have:=za8 (f:=zaj w n) (a:=zaa w t p) (b:=p.kids) (i:=i) oc hl.symm hs;simp only[zaj,this,Bool.and_false] at h;cases h
theorem zdX {w:List Data} (hw:WT w):∀(n:Nat){a k:Int}{p:Pat}{xs:List Vt},zaj w n ⟨a,k⟩ p=true->n<=1000->TyIn w.length ⟨a,k⟩->p.ok->xs.length+p.size<=2000000000000->
  FnD Tryz.prog 143 [.gl 5 (xs.map Vt.c),.d (zae w),.agg [.d (.i a),.d (.i k)],.agg [.d (.i p.op),.d (.i p.ctor),.d (.i p.n),.d (.i p.m),.d (.i p.var),.d (zal p.kids)]] [(5,some (.tok (xs.map Vt.c).length 3))]
   (.gl 5 ((xs++zaq w n ⟨a,k⟩ p).map Vt.c)) [(5,some (.tok ((xs++zaq w n ⟨a,k⟩ p).map Vt.c).length 3))]
 |0,a,k,p,xs,hs,_,_,_,_=>by simp[zaj] at hs
 |n+1,a,k,p,xs,hs,hn,ht,hok,hb=>by
  rw[xaR] at hok;rw[xaS] at hb;obtain⟨ho,hl⟩:=zbz hs;have hin:=zcy hw ht ho;have hlen:=zeD hw ht (zbM ho);have hvc5:p.op=5->zcw w ⟨a,k⟩ p=1:=fun h=>by rw[zhc,if_pos h]
  have hvc:¬p.op=5->zcw w ⟨a,k⟩ p=(zaa w ⟨a,k⟩ p).length:=fun h=>by rw[zhc,if_neg h]
  have hv2:zcw w ⟨a,k⟩ p<=p.kids.length:=by
   unfold zcw zbY;split
   ·rw[List.length_take];omega
   ·omega
  have e5:p.op=5->(zaa w ⟨a,k⟩ p).length=2:=fun h5=>by unfold zaa;rw[if_neg oc,if_pos h5];rfl
  have hnm:(zax ⟨a,k⟩ p).length<=1:=by unfold zax;split<;>simp
  refine bd Tryz.f143 58 [] [1,5,6] fun _ _ _ _ hk=>?_;refine bx 3006 ?_;refine bx 3007 ?_;refine ev (xaA (xa6 8 [(18,.d (.bool (decide (p.op=2\/p.op=6))))] [11,12,13,14,15,16,17] ?_ ?_));refine ev ?_;apply sq<;>intro h1 h1p h1s;exact jnb Z;exact jnb Z;refine xa5 ?_;apply tv;apply sq<;>intro h2 h2p h2s<;>(try simp only[Q,xaP] at h2p);refine bu [0,1] [_,_] zmh ?_;refine si [0] [_] sl36 zkE ?_;refine ap sl36 zkF Z Z Z oe oj ?_;refine ev (wc zgv (zce hw ht (zbM ho)) Z Z ?_);refine ev (CWp.loopT 5 6 (ι:=Nat) hk (fun i=>[(0,.gl 5 ((xs++zax ⟨a,k⟩ p++zaG (zaq w n) ((zaa w ⟨a,k⟩ p).take i) (p.kids.take i)).map Vt.c)),(10,.d (.i (i:Int)))]) [30,31,32,33,34,35,36,37,38,39,40,41,42,43,44,45,46,47,48,49,50,51,52,53,54,55,56] (fun i=>[(5,some (.tok ((xs++zax ⟨a,k⟩ p++zaG (zaq w n) ((zaa w ⟨a,k⟩ p).take i) (p.kids.take i)).map Vt.c).length 3))]) (fun i=>i<=zcw w ⟨a,k⟩ p) (fun i=>zcw w ⟨a,k⟩ p-i) 0 oc ⟨⟨_,Z,LeA.glg ?_⟩,⟨⟨_,Z,xaL ?_⟩,O⟩⟩ ⟨zai ?_,O⟩ (fun x=>rfl) (fun i hg1=>?_));iterate 3 focus ((simp[zaG,zax, *];done))
  refine evc [] [1,5,6] (xaA (xa6 13 [(42,.d (.bool (decide (i<zcw w ⟨a,k⟩ p))))] [30,31,32,33,34,35,36,37,38,39,40,41] ?_ ?_));refine ev ?_;apply sq<;>intro h3 h3p h3s;apply sq<;>intro h4 h4p h4s;exact jnb Z;exact jnb Z;exact jnb Z;refine xa5 ?_;apply tv;apply sq<;>intro h5 h5p h5s<;>(try simp only[Q,xaP] at h5p);refine ixq zau Z Z Z (zaf oc) Z ?_;refine evd [] [] (ixq sl58 Z Z Z (zba oc) Z ?_);refine evd [] [] (xbb 6 zeN (zdX hw n (a:=(nth (zaa w ⟨a,k⟩ p) i).data) (k:=(nth (zaa w ⟨a,k⟩ p) i).index) (p:=nth p.kids i) (xs:=xs++zax ⟨a,k⟩ p++zaG (zaq w n) ((zaa w ⟨a,k⟩ p).take i) (p.kids.take i)) (zaW hs oc) oc (hin _ (zad oc)) (xaT hok.2 _ (zad oc)) (by have:=zlv (zc0 w n) (a:=zaa w ⟨a,k⟩ p) (b:=p.kids) (i:=i) oc;simp only[xaa];omega)) Z .none Z Z (.cons (.refl _) (.cons (.refl _) (.cons (.refl _) (.cons (.refl _) .nil)))) Z (by rfl) ?_);refine evd [] [] (dr (CWp.retok 0 6 5 Z Z Z Z Z (evc [] [] (ar (xaj (i+1) ⟨oc,oc,sx ⟨⟨_,Z,LeA.glg ?_⟩,⟨⟨_,Z,xaL ?_⟩,O⟩⟩ ⟨zai ?_,O⟩⟩)))));iterate 3 focus (first|rfl|(rw[zga oc oc];simp[xar];done))
  refine rn [(5,some (.tok ((xs++zaq w (n+1) ⟨a,k⟩ p).map Vt.c).length 3))] (r1 Z) (.glg ?_) ⟨Z,Z⟩ (SubO.get ⟨.inr ?_,⟨.inl Z,O⟩⟩) (zbk Z);rotate_left 2;refine wc zgv (zce hw ht (zbM ho)) Z Z ?_;refine ev (CWp.loopT 5 6 (ι:=Nat) hk (fun i=>[(0,.gl 5 ((xs++zax ⟨a,k⟩ p++zaG (zaq w n) ((zaa w ⟨a,k⟩ p).take i) (p.kids.take i)).map Vt.c)),(10,.d (.i (i:Int)))]) [30,31,32,33,34,35,36,37,38,39,40,41,42,43,44,45,46,47,48,49,50,51,52,53,54,55,56] (fun i=>[(5,some (.tok ((xs++zax ⟨a,k⟩ p++zaG (zaq w n) ((zaa w ⟨a,k⟩ p).take i) (p.kids.take i)).map Vt.c).length 3))]) (fun i=>i<=zcw w ⟨a,k⟩ p) (fun i=>zcw w ⟨a,k⟩ p-i) 0 oc ⟨⟨_,Z,LeA.glg ?_⟩,⟨⟨_,Z,xaL ?_⟩,O⟩⟩ ⟨zai ?_,O⟩ (fun x=>rfl) (fun i hg1=>?_));iterate 3 focus ((simp[zaG,zax, *];done))
  refine evc [] [1,5,6] (xaA (xa6 13 [(42,.d (.bool (decide (i<zcw w ⟨a,k⟩ p))))] [30,31,32,33,34,35,36,37,38,39,40,41] ?_ ?_));refine ev ?_;apply sq<;>intro h6 h6p h6s<;>(try simp only[Q,xaP] at h6p);apply sq<;>intro h7 h7p h7s<;>(try simp only[Q,xaP] at h7p);exact jnb Z;exact jnb Z;exact jnb Z;refine xa5 ?_;apply tv;apply sq<;>intro h8 h8p h8s<;>(try simp only[Q,xaP] at h8p);refine ixq zau Z Z Z (zaf oc) Z ?_;refine evd [] [] (ixq sl58 Z Z Z (zba oc) Z ?_);refine evd [] [] (xbb 6 zeN (zdX hw n (a:=(nth (zaa w ⟨a,k⟩ p) i).data) (k:=(nth (zaa w ⟨a,k⟩ p) i).index) (p:=nth p.kids i) (xs:=xs++zax ⟨a,k⟩ p++zaG (zaq w n) ((zaa w ⟨a,k⟩ p).take i) (p.kids.take i)) (zaW hs oc) oc (hin _ (zad oc)) (xaT hok.2 _ (zad oc)) (by have:=zlv (zc0 w n) (a:=zaa w ⟨a,k⟩ p) (b:=p.kids) (i:=i) oc;simp only[xaa];omega)) Z .none Z Z (.cons (.refl _) (.cons (.refl _) (.cons (.refl _) (.cons (.refl _) .nil)))) Z (by rfl) ?_);refine evd [] [] (dr (CWp.retok 0 6 5 Z Z Z Z Z (evc [] [] (ar (xaj (i+1) ⟨oc,oc,sx ⟨⟨_,Z,LeA.glg ?_⟩,⟨⟨_,Z,xaL ?_⟩,O⟩⟩ ⟨zai ?_,O⟩⟩)))));iterate 3 focus (first|rfl|(rw[zga oc oc];simp[xar];done))
  refine rn [(5,some (.tok ((xs++zaq w (n+1) ⟨a,k⟩ p).map Vt.c).length 3))] (r1 Z) (.glg ?_) ⟨Z,Z⟩ (SubO.get ⟨.inr ?_,⟨.inl Z,O⟩⟩) (zbk Z);rotate_left 2;all_goals (first|((rw[zaq,<-zki (f:=zaq w n) hl (i:=i) oc];simp);done)|((show some (Res.tok _ _)=some (Res.tok _ _);congr 2;rw[zaq,<-zki (f:=zaq w n) hl (i:=i) oc];simp)))
theorem zcf {w:List Data} (hw:WT w){n:Nat}{a k:Int}{p:Pat} (hs:zaj w n ⟨a,k⟩ p=true) (hn:n<=1000) (ht:TyIn w.length ⟨a,k⟩) (hok:p.ok) (hb:p.size<=1000000000000):
  FnD Tryz.prog 143 [.nils,.d (zae w),.agg [.d (.i a),.d (.i k)],.agg [.d (.i p.op),.d (.i p.ctor),.d (.i p.n),.d (.i p.m),.d (.i p.var),.d (zal p.kids)]] [] (.d (zaU (zaq w n ⟨a,k⟩ p))) []:=by
 have h:=zdX hw n (xs:=[]) hs hn ht hok (by simp only[xak];omega);exact FnD.nilTok (by simp[AV.idsL,AV.ids]) h
theorem zlA {l:List Vt}{i:Nat} (h:i<l.length) (h2:¬zaF l (nth l i).var=i):zky l=false:=zcI h (by simpa using h2)
theorem zdm {w:List Data} (hw:WT w):∀(n:Nat){a k:Int}{p:Pat},zaj w n ⟨a,k⟩ p=true->n<=1000->TyIn w.length ⟨a,k⟩->p.ok->p.size<=1000000000000->
  FnD Tryz.prog 188 [.d (zae w),.agg [.d (.i a),.d (.i k)],.agg [.d (.i p.op),.d (.i p.ctor),.d (.i p.n),.d (.i p.m),.d (.i p.var),.d (zal p.kids)]] [] (.d (.bool (linP w n ⟨a,k⟩ p))) []
 |0,a,k,p,hs,_,_,_,_=>by simp[zaj] at hs
 |n+1,a,k,p,hs,hn,ht,hok,hb=>by
  have hok':=hok;rw[xaR] at hok;have hb':=hb;rw[xaS] at hb';obtain⟨ho,hl⟩:=zbz hs;have hin:=zcy hw ht ho;have hlen:=zeD hw ht (zbM ho);have hvl:=zc0 w (n+1) ⟨a,k⟩ p;have hsz:∀i,i<p.kids.length->(nth p.kids i).size<=1000000000000:=fun i hi=>by have:=zdp hi;omega
  by_cases hop5:p.op=5
  ·have e1:zaa w ⟨a,k⟩ p=[⟨a,k⟩,⟨a,k⟩]:=by unfold zaa;rw[if_neg oc,if_pos hop5]
   have hl2:p.kids.length=2:=by rw[hl,e1];rfl
   have s0:zaj w n ⟨a,k⟩ (nth p.kids 0)=true:=by have:=zaW hs (i:=0) oc;rw[e1] at this;exact this
   have s1:zaj w n ⟨a,k⟩ (nth p.kids 1)=true:=by have:=zaW hs (i:=1) oc;rw[e1] at this;exact this
   have v0:=zc0 w n ⟨a,k⟩ (nth p.kids 0);have v1:=zc0 w n ⟨a,k⟩ (nth p.kids 1);have z0:=hsz 0 oc;have z1:=hsz 1 oc;refine bd Tryz.f188 70 [] [] fun _ _ _ _ hk=>?_;refine bx 3004 ?_;refine bx 3005 ?_;refine ev (wc zgv (zce hw ht (zbM ho)) Z Z ?_);refine ev (xaz (ι:=Nat) hk (fun i=>[(8,.d (.i (i:Int)))]) [6,15,16,17,18,19,20,21,22,23,24,25,26,27,28,29,30,31,32] (fun i=>[]) (fun i=>i<=(zaa w ⟨a,k⟩ p).length/\∀i',i'<i->linP w n (nth (zaa w ⟨a,k⟩ p) i') (nth p.kids i')=true) (fun i=>(zaa w ⟨a,k⟩ p).length-i) 0 ⟨by omega,fun _ h=>absurd h oc⟩ ⟨⟨_,Z,xaL ?_⟩,O⟩ O (fun x=>rfl) (fun i hg1=>?_));focus (first|rfl|(simp;done))
   refine evc [] [] ?_;apply sq<;>intro h1 h1p h1s<;>(try simp only[Q,xaP] at h1p);refine ixq zau Z Z Z (zaf oc) Z ?_;refine evd [] [] (ixq sl58 Z Z Z (zba oc) Z ?_);refine evd [] [] (wc zim (zdm hw n (zaW hs oc) oc (hin _ (zad oc)) (xaT hok.2 _ (zad oc)) (hsz _ oc)) Z Z ?_);refine evd [] [] (dr ?_);apply sq<;>intro h2 h2p h2s<;>(try simp only[Q,xaP] at h2p);refine rq ?_;rotate_left;refine ar (xaj (i+1) ⟨⟨by omega,zaw hg1.2 oh⟩,oc,sx ⟨⟨_,Z,xaL ?_⟩,O⟩ O⟩);focus (first|rfl|(simp;done))
   apply sq<;>intro h3 h3p h3s<;>(try simp only[Q,xaP] at h3p);refine ixq (i:=0) sl58 Z Z Z (zba oc) Z ?_;refine evd [] [] (wc zeN (zcf hw s0 oc ht (xaT hok.2 _ (zad oc)) z0) Z Z ?_);refine evd [] [] (ixq (i:=1) sl58 Z Z Z (zba oc) Z ?_);refine evd [] [] (wc zeN (zcf hw s1 oc ht (xaT hok.2 _ (zad oc)) z1) Z Z ?_);refine wc zo0 (zjg oc oc) Z Z ?_;refine evd [] [] (dr (rq ?_));rotate_left;exfalso;simp_all;all_goals (refine xam D.bool ?_;unfold linP;rw[if_pos hop5];first|(rw[zbJ oc (fun x hx=>hg1.2 x oc),Bool.true_and])|(rw[za8 (i:=i) oc oc oh,Bool.false_and]))
  ·skip
   refine bd Tryz.f188 70 [] [] fun _ _ _ _ hk=>?_;refine bx 3004 ?_;refine bx 3005 ?_;refine ev (wc zgv (zce hw ht (zbM ho)) Z Z ?_);refine ev (xaz (ι:=Nat) hk (fun i=>[(8,.d (.i (i:Int)))]) [6,15,16,17,18,19,20,21,22,23,24,25,26,27,28,29,30,31,32] (fun i=>[]) (fun i=>i<=(zaa w ⟨a,k⟩ p).length/\∀i',i'<i->linP w n (nth (zaa w ⟨a,k⟩ p) i') (nth p.kids i')=true) (fun i=>(zaa w ⟨a,k⟩ p).length-i) 0 ⟨by omega,fun _ h=>absurd h oc⟩ ⟨⟨_,Z,xaL ?_⟩,O⟩ O (fun x=>rfl) (fun i hg1=>?_));focus (first|rfl|(simp;done))
   refine evc [] [] ?_;apply sq<;>intro h1 h1p h1s<;>(try simp only[Q,xaP] at h1p);refine ixq zau Z Z Z (zaf oc) Z ?_;refine evd [] [] (ixq sl58 Z Z Z (zba oc) Z ?_);refine evd [] [] (wc zim (zdm hw n (zaW hs oc) oc (hin _ (zad oc)) (xaT hok.2 _ (zad oc)) (hsz _ oc)) Z Z ?_);refine evd [] [] (dr ?_);apply sq<;>intro h2 h2p h2s<;>(try simp only[Q,xaP] at h2p);refine rq ?_;rotate_left;refine ar (xaj (i+1) ⟨⟨by omega,zaw hg1.2 oh⟩,oc,sx ⟨⟨_,Z,xaL ?_⟩,O⟩ O⟩);focus (first|rfl|(simp;done))
   apply sq<;>intro h3 h3p h3s<;>(try simp only[Q,xaP] at h3p);exfalso;simp_all;refine wc zeN (zcf hw hs hn ht hok' hb) Z Z ?_;refine ev (xaz (ι:=Nat) hk (fun j=>[(10,.d (.i (j:Int)))]) [6,55,56,57,58,59,60,61,62,63,64,65,66,67,68,69] (fun j=>[]) (fun j=>j<=(zaq w (n+1) ⟨a,k⟩ p).length/\∀j',j'<j->zaF (zaq w (n+1) ⟨a,k⟩ p) (nth (zaq w (n+1) ⟨a,k⟩ p) j').var=(j':Int)) (fun j=>(zaq w (n+1) ⟨a,k⟩ p).length-j) 0 ⟨by omega,fun _ h=>absurd h oc⟩ ⟨⟨_,Z,xaL ?_⟩,O⟩ O (fun x=>rfl) (fun j hg2=>?_));focus (first|rfl|(simp;done))
   refine evc [] [] ?_;apply sq<;>intro h4 h4p h4s<;>(try simp only[Q,xaP] at h4p);refine ixq sl36 Z Z Z (zaf oc) Z ?_;refine ev (wc zgw (zcu oc) Z Z ?_);refine ev ?_;apply sq<;>intro h5 h5p h5s<;>(try simp only[Q,xaP] at h5p);refine rq ?_;rotate_left;refine ar (xaj (j+1) ⟨⟨by omega,zaw hg2.2 oc⟩,oc,sx ⟨⟨_,Z,xaL ?_⟩,O⟩ O⟩);focus (first|rfl|(simp;done))
   refine rq ?_;rotate_left;all_goals (refine xam D.bool ?_;unfold linP;rw[if_neg hop5];first|(rw[za8 (i:=i) oc oc oh,Bool.false_and];done)|(rw[zbJ oc (fun x hx=>hg1.2 x oc),Bool.true_and];first|(rw[zlA (i:=j) oc oc];done)|(symm;exact zc2 (fun x hx=>xax (hg2.2 x oc)))))
def isP (w:List Data) (t:Ty) (p:Pat):Bool:=zaj w 10 t p&&(decide ((p.size:Int)<=60)&&linP w 10 t p)
theorem zg7 {w:List Data} (hw:WT w){a k:Int}{p:Pat} (ht:TyIn w.length ⟨a,k⟩) (hok:p.ok) (hb:p.size<=1000000000000):
  FnD Tryz.prog 103 [.d (zae w),.agg [.d (.i a),.d (.i k)],.agg [.d (.i p.op),.d (.i p.ctor),.d (.i p.n),.d (.i p.m),.d (.i p.var),.d (zal p.kids)]] [] (.d (.bool (isP w ⟨a,k⟩ p))) []:=by
 have hc:=zkX p 60;by_cases hs:zaj w 10 ⟨a,k⟩ p=true
 ·skip
  refine bd Tryz.f103 22 [] [1] fun _ _ _ _ hk=>?_;refine bx 3004 ?_;refine bx 3005 ?_;refine ev (xaA (xa6 9 [(15,.d (.bool (decide ((p.size:Int)<=60))))] [7,8,9,10,11,12,13,14] ?_ ?_));refine ev (wc zkM (zdG hw 10 oc oc ht hok) Z Z ?_);refine ev ?_;apply sq<;>intro h1 h1p h1s;refine Walk.call (cr:=[]) zkN (zdF _ (Nat.le_refl _) hb hok oc oc) Z (.some Z Z h1) Z Z (LeL.refl _) O Z Z Z ?_;refine evs [] [(11,true)] ?_ ⟨⟨_,Z,h1⟩,O⟩;exact jnb Z;exact jnb Z;refine xa5 (ev ?_);apply sq<;>intro h2 h2p h2s;refine Walk.call (cr:=[]) zim (zdm hw 10 hs oc ht hok hb) Z (.some Z Z h2) Z Z (LeL.refl _) O Z Z Z ?_;refine evs [] [(16,true)] ?_ ⟨⟨_,Z,h2⟩,O⟩;refine rq ?_;rotate_left;refine rq ?_;rotate_left;all_goals (refine xam D.bool ?_;unfold isP;simp only[hs,Bool.true_and];first|(simp_all;done)|(simp_all;intro;omega))
 ·have hs':zaj w 10 ⟨a,k⟩ p=false:=by simpa using hs
  refine bd Tryz.f103 22 [] [1] fun _ _ _ _ hk=>?_;refine bx 3004 ?_;refine bx 3005 ?_;refine ev (xaA (xa6 9 [(15,.d (.bool false))] [7,8,9,10,11,12,13,14] ?_ ?_));refine ev (wc zkM (zdG hw 10 oc oc ht hok) Z Z ?_);refine ev ?_;apply sq<;>intro h1 h1p h1s;refine Walk.call (cr:=[]) zkN (zdF _ (Nat.le_refl _) hb hok oc oc) Z (.some Z Z h1) Z Z (LeL.refl _) O Z Z Z ?_;refine evs [] [(11,true)] ?_ ⟨⟨_,Z,h1⟩,O⟩;exact jnb Z;exact jnb Z;refine xa5 (ev ?_);apply sq<;>intro h2 h2p h2s;refine Walk.call (cr:=[]) zim (show FnD Tryz.prog 188 [.d (zae w),.agg [.d (.i a),.d (.i k)],.agg [.d (.i p.op),.d (.i p.ctor),.d (.i p.n),.d (.i p.m),.d (.i p.var),.d (zal p.kids)]] [] (.d (.bool true)) [] from absurd (by assumption:(false:Bool)=true) oe) Z (.some Z Z h2) Z Z (LeL.refl _) O Z Z Z ?_;refine evs [] [(16,true)] ?_ ⟨⟨_,Z,h2⟩,O⟩;refine rq ?_;rotate_left;refine rq ?_;rotate_left;all_goals (refine xam D.bool ?_;unfold isP;simp_all)
set_option maxHeartbeats 2000000
inductive Ex where
 |mk (op n ctor:Int) (kids:List Ex)
 deriving Inhabited
mutual
def Ex.c:Ex->List D
 | .mk op n ctor kids=>[.i op,.i n,.i ctor,.sl (Ex.cs kids)]
def Ex.cs:List Ex->List (List D)
 | []=>[]
 |v::r=>v.c::Ex.cs r
end
abbrev zay (l:List Ex):D:= .sl (Ex.cs l)
theorem xaD:∀l:List Ex,Ex.cs l=l.map Ex.c
 | []=>rfl
 |v::r=>by simp[Ex.cs,xaD r]
theorem xaE (l:List Ex):(Ex.cs l).length=l.length:=by simp[xaD]
def Ex.op:Ex->Int | .mk a0 _ _ _=>a0
def Ex.n:Ex->Int | .mk _ a1 _ _=>a1
def Ex.ctor:Ex->Int | .mk _ _ a2 _=>a2
def Ex.kids:Ex->List Ex | .mk _ _ _ k=>k
abbrev Ex.cc (v:Ex):List D:=[.i v.op,.i v.n,.i v.ctor,.sl (Ex.cs v.kids)]
theorem xaC (v:Ex):v.c=v.cc:=by cases v;rfl
theorem Ex.eta (v:Ex):Ex.mk v.op v.n v.ctor v.kids=v:=by cases v;rfl
theorem Ex.cs_at' {pre:List Ex}{x:Ex}{rest xs:List Ex} (h:pre++x::rest=xs):(Ex.cs xs)[pre.length]?=some x.cc:=by rw[xaD,<-xaC];exact zaE h
mutual
def exEq:Ex->Ex->Bool
 | .mk a0 a1 a2 ks,.mk b0 b1 b2 ls=>decide (a0=b0)&&(decide (a1=b1)&&(decide (a2=b2)&&zbH ks ls))
def zbH:List Ex->List Ex->Bool
 | [],[]=>true
 |x::r,y::s=>exEq x y&&zbH r s
 |_,_=>false
end
mutual
def Ex.ok:Ex->Prop
 | .mk _ _ _ ks=>ks.length<=1000000000000/\Exs.ok ks
def Exs.ok:List Ex->Prop
 | []=>True
 |v::r=>v.ok/\Exs.ok r
end
theorem xaH:∀ {l:List Ex},Exs.ok l->∀v,v∈l->v.ok
 |x::r,h,v,hv=>by
  simp only[Exs.ok] at h;rcases List.mem_cons.1 hv with rfl|hv
  ·exact h.1
  ·exact xaH h.2 v hv
mutual
def Ex.size:Ex->Nat
 | .mk _ _ _ ks=>1+Exs.size ks
def Exs.size:List Ex->Nat
 | []=>0
 |v::r=>v.size+Exs.size r
end
theorem xaI:∀ {l:List Ex}{v:Ex},v∈l->v.size<=Exs.size l
 |x::r,v,hv=>by
  simp only[Exs.size];rcases List.mem_cons.1 hv with rfl|hv
  ·omega
  ·have:=xaI hv;omega
theorem zj0:∀ {a b:List Ex},a.length≠b.length->zbH a b=false
 | [],[],h=>by simp at h
 | [],_::_,_=>by simp[zbH]
 |_::_,[],_=>by simp[zbH]
 |x::r,y::s,h=>by simp[zbH,zj0 (a:=r) (b:=s) (by simpa using h)]
theorem zbN {l:List Ex}{i:Nat} (h:i<l.length):(Ex.cs l)[i]?=some (nth l i).cc:=by
 rw[xaD,<-xaC];exact zaf h
theorem xaF (v:Ex):v.ok↔v.kids.length<=1000000000000/\Exs.ok v.kids:=by cases v;rfl
theorem xaG (v:Ex):v.size=1+Exs.size v.kids:=by cases v;rfl
theorem zod (v w:Ex):exEq v w=(decide (v.op=w.op)&&(decide (v.n=w.n)&&(decide (v.ctor=w.ctor)&&zbH v.kids w.kids))):=by cases v;cases w;rfl
theorem zix {a b:List Ex}{i:Nat} (h:i<a.length) (h2:exEq (nth a i) (nth b i)=false):zbH a b=false:=by
 induction i generalizing a b with
 |zero=>
  cases a with
  |nil=>simp at h
  |cons x r=>
   cases b with
   |nil=>simp[zbH]
   |cons y s=>simp[nth] at h2;simp[zbH,h2]
 |succ i ih=>
  cases a with
  |nil=>simp at h
  |cons x r=>
   cases b with
   |nil=>simp[zbH]
   |cons y s=>simp only[zbH];rw[ih (a:=r) (b:=s) (by simpa using h) (by simpa [nth] using h2)];simp
theorem zjt {a b:List Ex} (hl:a.length=b.length) (h:∀i,i<a.length->exEq (nth a i) (nth b i)=true):zbH a b=true:=by
 induction a generalizing b with
 |nil=>cases b with
  |nil=>simp[zbH]
  |cons y s=>simp at hl
 |cons x r ih=>cases b with
  |nil=>simp at hl
  |cons y s=>
   have h0:=h 0 oe;simp only[zbH];rw[ih (by simpa using hl) (fun i hi=>by simpa [nth] using h (i+1) (by simpa using hi))];simpa [nth] using h0
mutual
theorem zmU:∀v:Ex,exEq v v=true
 | .mk _ _ _ ks=>by simp[exEq,zfT ks]
theorem zfT:∀l:List Ex,zbH l l=true
 | []=>rfl
 |v::r=>by simp[zbH,zmU v,zfT r]
end
theorem Ex.cs_cc (l:List Ex):Ex.cs l=l.map Ex.cc:=by
 rw[xaD];exact List.map_congr_left (fun v _=>xaC v)
mutual
def mEx:Ex->Nat
 | .mk _ _ _ ks=>mExs ks
def mExs:List Ex->Nat
 | []=>0
 |v::r=>1+mEx v+mExs r
end
theorem zpw (v:Ex):mEx v=mExs v.kids:=by cases v;rfl
theorem zlM:∀l:List Ex,mExs l=l.length+(l.map mEx).sum
 | []=>rfl
 |v::r=>by simp only[mExs,zlM r,xab,xaf,List.sum_cons];omega
theorem zfa {l:List Ex}{left:Int} (h:l.length<=1000000000000) (k0:0<=left) (k1:left<=1000000000000)
  (hf:∀v∈l,∀q:Int,0<=q->q<=1000000000000->FnD Tryz.prog 261 [.agg [.d (.i v.op),.d (.i v.n),.d (.i v.ctor),.d (zay v.kids)],.d (.i q)] [] (.d (.i (szr q (mEx v)))) []):
  FnD Tryz.prog 194 [.d (zay l),.d (.i left)] [] (.d (.i (szr left (mExs l)))) []:=by
 have z:=zaN (left:=left) (mExs l);rw[zlM] at z ⊢;refine bd Tryz.f194 27 [] [] fun _ _ _ _ hk=>?_;refine ar ?_ (by first|(constructor<;>omega)|(constructor<;>simp[xaE]<;>omega));apply sq<;>intro h1 h1p h1s<;>(try simp only[Q,xaE] at h1p);refine rq ?_;rotate_left;refine xaz (ι:=List (Ex)×List (Ex)×(Int)) hk (fun x=>[(5,.d (.i (x.1.length:Int))),(1,.d (.i x.2.2))]) [4,12,13,14,15,16,17,18,19,20,21,22,23,24,25] (fun x=>[]) (fun x=>x.1++x.2.1=l/\x.2.2=left-l.length-(x.1.map mEx).sum/\0<=x.2.2) (fun x=>x.2.1.length) ([],l,left-l.length) ⟨by simp,by simp,by simp[xaE] at *;omega⟩ ⟨⟨_,Z,xaL ?_⟩,⟨⟨_,Z,xaL ?_⟩,O⟩⟩ O (fun x=>rfl) (fun x hg1=>?_);iterate 2 focus (first|rfl|(simp;done)|(simp[xaE];done))
 obtain⟨pre,rest,v⟩:=x;dsimp only at hg1 ⊢;refine evc [] [] ?_;apply sq<;>intro h2 h2p h2s<;>(try simp only[Q,xaE] at h2p);rcases rest with _|⟨y,rest⟩
 ·exfalso;simp_all
 refine ixq znT Z Z Z (Ex.cs_at' hg1.1) Z (ev (wc zo2 (hf y (by rw[<-hg1.1];simp) _ oc oc) Z Z ?_));refine ev ?_;apply sq<;>intro h3 h3p h3s<;>(try simp only[Q,xaE] at h3p);refine rq ?_;rotate_left;refine ar ?_ (by first|(constructor<;>omega)|(constructor<;>simp[xaE]<;>omega));refine xaj ((pre++[y],rest,szr v (mEx y))) ⟨⟨(by have hz:=hg1.1;rw[<-hz];simp),(by have e:=zbp (f:=mEx) hg1.1;have z3:=zaN (left:=v) (mEx y);simp;omega)⟩,oe,sx ⟨⟨_,Z,xaL ?_⟩,⟨⟨_,Z,xaL ?_⟩,O⟩⟩ O⟩;iterate 2 focus (first|rfl|(simp;done)|(simp[xaE];done))
 have hrest:rest=[]:=by
  rcases rest with _|⟨a,b⟩
  ·rfl
  ·exfalso;have hz:=xam List.length (hg1.1);simp only[xaa,xab,xac] at hz;omega
 subst hrest;refine rq ?_;rotate_left;all_goals (refine xam D.i ?_;first|omega|(have e:=zbp (f:=mEx) hg1.1;have z3:=zaN (left:=v) (mEx y);simp only[xaE] at *;omega)|(rw[xaq] at hg1;rw[hg1.1] at hg1;simp only[xaE] at *;omega)|(simp only[xaE] at *;omega))
theorem zfG:∀(n:Nat){v:Ex}{left:Int},v.size<=n->v.ok->0<=left->left<=1000000000000->FnD Tryz.prog 261 [.agg [.d (.i v.op),.d (.i v.n),.d (.i v.ctor),.d (zay v.kids)],.d (.i left)] [] (.d (.i (szr left (mEx v)))) []
 |0,v,left,h,_,_,_=>by rw[xaG] at h;omega
 |n+1,v,left,h,hok,k0,k1=>by
  rw[xaG] at h;rw[xaF] at hok;rw[zpw];have z:=zaN (left:=left) (mExs v.kids);refine bd Tryz.f261 12 [] [] fun _ _ _ _ hk=>?_;refine bx 3002 ?_;refine ev (wc zmy (zfa hok.1 k0 k1 (fun x hx q q0 q1=>zfG n (by have:=xaI hx;omega) (xaH hok.2 x hx) q0 q1)) Z Z ?_);refine ev ?_;apply sq<;>intro h1 h1p h1s<;>(try simp only[Q] at h1p);refine rq ?_;rotate_left;refine rq ?_;rotate_left;all_goals (refine xam D.i ?_;omega)
theorem ziO {l:List Ex}{left:Int} (h:l.length<=1000000000000) (hok:Exs.ok l) (k0:0<=left) (k1:left<=1000000000000):
  FnD Tryz.prog 194 [.d (zay l),.d (.i left)] [] (.d (.i (szr left (mExs l)))) []:=
 zfa h k0 k1 (fun x hx q q0 q1=>zfG _ (Nat.le_refl _) (xaH hok x hx) q0 q1)
theorem zfb {l:List Ex} (h:l.length<=1000000000000)
  (hf:∀v∈l,FnD Tryz.prog 264 [.agg [.d (.i v.op),.d (.i v.n),.d (.i v.ctor),.d (zay v.kids)]] [] (.agg [.d (.i v.op),.d (.i v.n),.d (.i v.ctor),.d (zay v.kids)]) []):
  FnD Tryz.prog 197 [.d (zay l)] [] (.d (zay l)) []:=by
 show FnD Tryz.prog 197 [.d (.sl (Ex.cs l))] [] (.d (.sl (Ex.cs l))) []
 rw[Ex.cs_cc];refine bd Tryz.f197 23 [] [999999] fun _ _ _ _ hk=>?_;refine xbn (id:=3007) sl39 tz41 Z og (zcg Z) .none Z Z Z oj oj Z Z Z ?_;refine ev (xaz (ι:=List (Ex)×List (Ex)) hk (fun x=>[(4,.d (.i (x.1.length:Int)))]) [8,9,10,11,12,13,14,15,16,17,18,19,20,21] (fun x=>[(3007,some (.box ((x.1.flatMap fun x=>(Ex.cc x).map AV.d)++zaD x.2.length [.d (.i 0),.d (.i 0),.d (.i 0),.nils])))]) (fun x=>x.1++x.2=l) (fun x=>x.2.length) ([],l) oe ⟨⟨_,Z,xaL ?_⟩,O⟩ ⟨?_,O⟩ (fun x=>rfl) (fun x hg1=>?_));focus (first|rfl|(simp;done)|(simp_all;done)|omega)
 focus (first|rfl|(show some (Res.box _)=some (Res.box _);simp;done))
 obtain⟨pre,rest⟩:=x;dsimp only at hg1 ⊢;refine evc [] [999999] ?_;apply sq<;>intro h1 h1p h1s<;>(try simp only[Q] at h1p);rcases rest with _|⟨y,rest⟩
 ·exfalso;simp_all
 refine ixq znT Z Z Z (zaE hg1) Z (ev (wc zo4 (hf y (by rw[<-hg1];simp)) Z Z ?_));refine xbk sl39 .none Z Z Z Z (by first|omega|(simp ;omega)) ?_;refine Walk.store ty41 .none Z Z Z Z Z Z oe ((zdq (k:=4) oo (by first|rfl|simp) Z)) ?_;apply tv;refine ar (xaj ((pre++[y],rest)) ⟨(by have hz:=hg1;rw[<-hz];simp),oe,sx ⟨⟨_,Z,xaL ?_⟩,O⟩ ⟨?_,O⟩⟩);focus (first|rfl|(simp;done)|(simp_all;done)|omega)
 focus (first|rfl|(show some (Res.box _)=some (Res.box _);simp;done))
 have hrest:rest=[]:=by
  rcases rest with _|⟨a,b⟩
  ·rfl
  ·exfalso;have hz:=xam List.length (hg1);simp only[xaa,xab,xac] at hz;omega
 subst hrest;refine CWp.frz hk 2 3007 _ _ Z Z (zcD (f:=Ex.cc) (k:=4) hg1 oe oo) Z ?_;refine CWp.ret ?_;focus (refine rq ?_;all_goals (first|rfl|(simp[h1s,h1p];done)|(simp_all;done)|(simp_all;omega)|omega))
theorem zgg:∀(n:Nat){v:Ex},v.size<=n->v.ok->FnD Tryz.prog 264 [.agg [.d (.i v.op),.d (.i v.n),.d (.i v.ctor),.d (zay v.kids)]] [] (.agg [.d (.i v.op),.d (.i v.n),.d (.i v.ctor),.d (zay v.kids)]) []
 |0,v,h,_=>by rw[xaG] at h;omega
 |n+1,v,h,hok=>by
  rw[xaG] at h;rw[xaF] at hok;refine bd Tryz.f264 18 [] [] fun _ _ _ _ hk=>?_;refine bx 3001 ?_;refine ab 3002 tz41 ?_;apply tv;refine ab 3003 tz41 ?_;apply tv;refine so ty3 ?_;apply tv;refine so ty3 ?_;apply tv;refine so ty3 ?_;apply tv;refine wc zmz (zfb hok.1 (fun x hx=>zgg n (by have:=xaI hx;omega) (xaH hok.2 x hx))) Z Z ?_;refine ev (so ty39 ?_);apply tv;refine so ty41 ?_;apply tv;focus (refine rn0 (ra ty41) (.agg (qeeee ?_ ?_ ?_ ?_));all_goals (first|rfl|(simp[];done)|(simp_all;done)|(simp_all;omega)|omega))
theorem ziR {l:List Ex} (h:l.length<=1000000000000) (hok:Exs.ok l):FnD Tryz.prog 197 [.d (zay l)] [] (.d (zay l)) []:=
 zfb h (fun x hx=>zgg _ (Nat.le_refl _) (xaH hok x hx))
theorem ze9 {l m:List Ex} (h:l.length<=1000000000000)
  (hf:∀a∈l,∀b:Ex,FnD Tryz.prog 250 [.agg [.d (.i a.op),.d (.i a.n),.d (.i a.ctor),.d (zay a.kids)],.agg [.d (.i b.op),.d (.i b.n),.d (.i b.ctor),.d (zay b.kids)]] [] (.d (.bool (exEq a b))) []):
  FnD Tryz.prog 176 [.d (zay l),.d (zay m)] [] (.d (.bool (zbH l m))) []:=by
 refine bd Tryz.f176 27 [] [] fun _ _ _ _ hk=>?_;apply sq<;>intro h1 h1p h1s<;>(try simp only[Q,xal,xaE] at h1p);refine rq ?_;rotate_left;refine xaz (ι:=Nat) hk (fun i=>[(5,.d (.i (i:Int)))]) [4,11,12,13,14,15,16,17,18,19,20,21,22,23,24,25,26] (fun i=>[]) (fun i=>i<=l.length/\∀i',i'<i->exEq (nth l i') (nth m i')=true) (fun i=>l.length-i) 0 ⟨by omega,fun _ h=>absurd h oc⟩ ⟨⟨_,Z,xaL ?_⟩,O⟩ O (fun x=>rfl) (fun i hg1=>?_);focus (first|rfl|(simp;done)|(simp_all;done)|omega)
 refine evc [] [] ?_;apply sq<;>intro h2 h2p h2s<;>(try simp only[Q,xal,xaE] at h2p);refine ixq sl39 Z Z Z (zbN oc) Z ?_;refine evd [] [] (ixq sl39 Z Z Z (zbN oc) Z ?_);refine evd [] [] (wc zoY (hf _ (zad oc) _) Z Z ?_);refine evd [] [] (dr ?_);apply sq<;>intro h3 h3p h3s<;>(try simp only[Q,xal,xaE] at h3p);refine rq ?_;rotate_left;refine ar (xaj (i+1) ⟨⟨by omega,zaw hg1.2 oh⟩,oc,sx ⟨⟨_,Z,xaL ?_⟩,O⟩ O⟩);focus (first|rfl|(simp;done)|(simp_all;done)|omega)
 refine rq ?_;rotate_left;all_goals (refine xam D.bool ?_;first|(refine(zj0 ?_).symm;omega)|(refine(zjt oc (fun x hx=>hg1.2 x oc)).symm)|(refine(zix (i:=i) oc ?_).symm;assumption))
theorem zfF:∀(n:Nat){a b:Ex},a.size<=n->a.ok->FnD Tryz.prog 250 [.agg [.d (.i a.op),.d (.i a.n),.d (.i a.ctor),.d (zay a.kids)],.agg [.d (.i b.op),.d (.i b.n),.d (.i b.ctor),.d (zay b.kids)]] [] (.d (.bool (exEq a b))) []
 |0,a,b,h,_=>by rw[xaG] at h;omega
 |n+1,a,b,h,hok=>by
  rw[xaG] at h;rw[xaF] at hok;rw[zod];refine bd Tryz.f250 26 [] [] fun _ _ _ _ hk=>?_;refine bx 3002 ?_;refine bx 3003 ?_;refine ev ?_;apply sq<;>intro h1 h1p h1s<;>(try simp only[Q] at h1p);focus (refine rq ?_;all_goals (refine xam D.bool ?_;simp[h1s,h1p]))
  apply sq<;>intro h2 h2p h2s<;>(try simp only[Q] at h2p);focus (refine rq ?_;all_goals (refine xam D.bool ?_;simp[h1s,h1p,h2s,h2p]))
  apply sq<;>intro h3 h3p h3s<;>(try simp only[Q] at h3p);focus (refine rq ?_;all_goals (refine xam D.bool ?_;simp[h1s,h1p,h2s,h2p,h3s,h3p]))
  refine wc zmw (ze9 hok.1 (fun x hx y=>zfF n (by have:=xaI hx;omega) (xaH hok.2 x hx))) Z Z ?_;refine ev ?_;apply sq<;>intro h4 h4p h4s<;>(try simp only[Q] at h4p);focus (refine rq ?_;all_goals (refine xam D.bool ?_;simp[h1s,h1p,h2s,h2p,h3s,h3p,h4s,h4p]))
  focus (refine rq ?_;all_goals (refine xam D.bool ?_;simp[h1s,h1p,h2s,h2p,h3s,h3p,h4s,h4p]))
theorem ziJ {l m:List Ex} (h:l.length<=1000000000000) (hok:Exs.ok l):FnD Tryz.prog 176 [.d (zay l),.d (zay m)] [] (.d (.bool (zbH l m))) []:=
 ze9 h (fun a ha b=>zfF _ (Nat.le_refl _) (xaH hok a ha))
structure Gd where
 op:Int
 var:Int
 n:Int
 deriving Inhabited
structure Cl where
 pat:Pat
 g:Gd
 deriving Inhabited
structure Ft where
 arg:Ty
 res:Ty
 deriving Inhabited
structure Fu where
 ty:Ft
 cls:List Cl
 bodies:List Ex
 deriving Inhabited
abbrev Cl.c (x:Cl):List D:=[.i x.pat.op,.i x.pat.ctor,.i x.pat.n,.i x.pat.m,.i x.pat.var,.sl (Pat.cs x.pat.kids),.i x.g.op,.i x.g.var,.i x.g.n]
abbrev zbl (l:List Cl):D:= .sl (l.map Cl.c)
abbrev Ft.c (x:Ft):List D:=[.i x.arg.data,.i x.arg.index,.i x.res.data,.i x.res.index]
abbrev za6 (l:List Ft):D:= .sl (l.map Ft.c)
abbrev Fu.c (x:Fu):List D:=[.i x.ty.arg.data,.i x.ty.arg.index,.i x.ty.res.data,.i x.ty.res.index,zbl x.cls,zay x.bodies]
abbrev zb8 (l:List Fu):D:= .sl (l.map Fu.c)
def ClsOk (l:List Cl):Prop:=l.length<=1000000000000/\∀c∈l,c.pat.ok
def FuOk (f:Fu):Prop:=ClsOk f.cls/\f.bodies.length<=1000000000000/\Exs.ok f.bodies
def FusOk (l:List Fu):Prop:=l.length<=1000000000000/\∀f∈l,FuOk f
def mCl (c:Cl):Nat:=mPat c.pat
def mCls (l:List Cl):Nat:=l.length+(l.map mCl).sum
def mFu (f:Fu):Nat:=mCls f.cls+mExs f.bodies
def mFus (l:List Fu):Nat:=l.length+(l.map mFu).sum
def gdEq (a b:Gd):Bool:=decide (a.op=b.op)&&(decide (a.var=b.var)&&decide (a.n=b.n))
def clEq (a b:Cl):Bool:=zd7 a.pat b.pat&&gdEq a.g b.g
def ftEq (a b:Ft):Bool:=decide (a.arg=b.arg)&&decide (a.res=b.res)
def zl3 (a b:List Cl):Bool:=all2 clEq a b
def fuEq (a b:Fu):Bool:=ftEq a.ty b.ty&&(zl3 a.cls b.cls&&zbH a.bodies b.bodies)
def znO (a b:List Fu):Bool:=all2 fuEq a b
theorem zgr {α:Type}{f:α->α->Bool} (h:∀x,f x x=true):∀l:List α,all2 f l l=true
 | []=>rfl
 |x::r=>by simp[all2,h x,zgr h r]
theorem zmM (a:Cl):clEq a a=true:=by simp[clEq,gdEq,zi1]
theorem zl4 (l:List Cl):zl3 l l=true:=zgr zmM l
theorem zmY (a:Fu):fuEq a a=true:=by simp[fuEq,ftEq,zl4,zfT]
theorem ziy (l:List Fu):znO l l=true:=zgr zmY l
theorem zhX {c:Cl}{left:Int} (hok:c.pat.ok) (k0:0<=left) (k1:left<=1000000000000):
  FnD Tryz.prog 260 [.agg [.d (.i c.pat.op),.d (.i c.pat.ctor),.d (.i c.pat.n),.d (.i c.pat.m),.d (.i c.pat.var),.d (zal c.pat.kids),.d (.i c.g.op),.d (.i c.g.var),.d (.i c.g.n)],.d (.i left)] [] (.d (.i (szr left (mCl c)))) []:=by
 have z:=zaN (left:=left) (mCl c);refine bd Tryz.f260 12 [] [] fun _ _ _ _ hk=>?_;refine bx 3002 ?_;refine ev (wc zmJ (zeo _ (Nat.le_refl _) hok k0 k1) Z Z ?_);refine ev ?_;apply sq<;>intro h1 h1p h1s<;>(try simp only[Q] at h1p);refine rq ?_;rotate_left;refine rq ?_;rotate_left;all_goals (refine xam D.i ?_;unfold mCl at *;omega)
theorem zhw {l:List Cl}{left:Int} (hs:ClsOk l) (k0:0<=left) (k1:left<=1000000000000):FnD Tryz.prog 193 [.d (zbl l),.d (.i left)] [] (.d (.i (szr left (mCls l)))) []:=by
 have h:=hs.1;have z:=zaN (left:=left) (mCls l);simp only[mCls] at z ⊢;refine bd Tryz.f193 27 [] [] fun _ _ _ _ hk=>?_;refine ar ?_;apply sq<;>intro h1 h1p h1s<;>(try simp only[Q] at h1p);refine rq ?_;rotate_left;refine xaz (ι:=List (Cl)×List (Cl)×(Int)) hk (fun x=>[(5,.d (.i (x.1.length:Int))),(1,.d (.i x.2.2))]) [4,12,13,14,15,16,17,18,19,20,21,22,23,24,25] (fun x=>[]) (fun x=>x.1++x.2.1=l/\x.2.2=left-l.length-(x.1.map mCl).sum/\0<=x.2.2) (fun x=>x.2.1.length) ([],l,left-l.length) ⟨by simp,by simp,by simp at *;omega⟩ ⟨⟨_,Z,xaL ?_⟩,⟨⟨_,Z,xaL ?_⟩,O⟩⟩ O (fun x=>rfl) (fun x hg1=>?_);iterate 2 focus (first|rfl|(simp;done))
 obtain⟨pre,rest,v⟩:=x;dsimp only at hg1 ⊢;refine evc [] [] ?_;apply sq<;>intro h2 h2p h2s<;>(try simp only[Q] at h2p);rcases rest with _|⟨y,rest⟩
 ·exfalso;simp_all
 refine ixq znS Z Z Z (zaE hg1.1) Z (ev (wc zo1 (zhX (c:=y) (hs.2 y (by rw[<-hg1.1];simp)) oc oc) Z Z ?_));refine ev ?_;apply sq<;>intro h3 h3p h3s<;>(try simp only[Q] at h3p);refine rq ?_;rotate_left;refine ar (xaj ((pre++[y],rest,szr v (mCl y))) ⟨⟨(by have hz:=hg1.1;rw[<-hz];simp),(by have e:=zbp (f:=mCl) hg1.1;have z3:=zaN (left:=v) (mCl y);simp;omega)⟩,oe,sx ⟨⟨_,Z,xaL ?_⟩,⟨⟨_,Z,xaL ?_⟩,O⟩⟩ O⟩);iterate 2 focus (first|rfl|(simp;done))
 have hrest:rest=[]:=by
  rcases rest with _|⟨a,b⟩
  ·rfl
  ·exfalso;have hz:=xam List.length (hg1.1);simp only[xaa,xab,xac] at hz;omega
 subst hrest;refine rq ?_;rotate_left;all_goals (refine xam D.i ?_;first|omega|(have e:=zbp (f:=mCl) hg1.1;have z3:=zaN (left:=v) (mCl y);omega)|(rw[xaq] at hg1;rw[hg1.1] at hg1;omega))
theorem zkr {f:Fu}{left:Int} (hs:FuOk f) (k0:0<=left) (k1:left<=1000000000000):
  FnD Tryz.prog 107 [.agg [.d (.i f.ty.arg.data),.d (.i f.ty.arg.index),.d (.i f.ty.res.data),.d (.i f.ty.res.index),.d (zbl f.cls),.d (zay f.bodies)],.d (.i left)] [] (.d (.i (szr left (mFu f)))) []:=by
 have z:=zaN (left:=left) (mFu f);have z1:=zaN (left:=left) (mCls f.cls);have z2:=zaN (left:=szr left (mCls f.cls)) (mExs f.bodies);unfold mFu at *;refine bd Tryz.f107 18 [] [] fun _ _ _ _ hk=>?_;refine bx 3002 ?_;refine ev (wc zoG (zhw hs.1 k0 k1) Z Z ?_);refine ev ?_;apply sq<;>intro h1 h1p h1s<;>(try simp only[Q] at h1p);refine rq ?_;rotate_left;refine wc zmy (ziO hs.2.1 hs.2.2 oc oc) Z Z ?_;refine ev ?_;apply sq<;>intro h2 h2p h2s<;>(try simp only[Q] at h2p);refine rq ?_;rotate_left;refine rq ?_;rotate_left;all_goals (refine xam D.i ?_;omega)
theorem zjD {l:List Fu}{left:Int} (hs:FusOk l) (k0:0<=left) (k1:left<=1000000000000):FnD Tryz.prog 43 [.d (zb8 l),.d (.i left)] [] (.d (.i (szr left (mFus l)))) []:=by
 have h:=hs.1;have z:=zaN (left:=left) (mFus l);simp only[mFus] at z ⊢;refine bd Tryz.f43 27 [] [] fun _ _ _ _ hk=>?_;refine ar ?_;apply sq<;>intro h1 h1p h1s<;>(try simp only[Q] at h1p);refine rq ?_;rotate_left;refine xaz (ι:=List (Fu)×List (Fu)×(Int)) hk (fun x=>[(5,.d (.i (x.1.length:Int))),(1,.d (.i x.2.2))]) [4,12,13,14,15,16,17,18,19,20,21,22,23,24,25] (fun x=>[]) (fun x=>x.1++x.2.1=l/\x.2.2=left-l.length-(x.1.map mFu).sum/\0<=x.2.2) (fun x=>x.2.1.length) ([],l,left-l.length) ⟨by simp,by simp,by simp at *;omega⟩ ⟨⟨_,Z,xaL ?_⟩,⟨⟨_,Z,xaL ?_⟩,O⟩⟩ O (fun x=>rfl) (fun x hg1=>?_);iterate 2 focus (first|rfl|(simp;done))
 obtain⟨pre,rest,v⟩:=x;dsimp only at hg1 ⊢;refine evc [] [] ?_;apply sq<;>intro h2 h2p h2s<;>(try simp only[Q] at h2p);rcases rest with _|⟨y,rest⟩
 ·exfalso;simp_all
 refine ixq sl70 Z Z Z (zaE hg1.1) Z (ev (wc zon (zkr (f:=y) (hs.2 y (by rw[<-hg1.1];simp)) oc oc) Z Z ?_));refine ev ?_;apply sq<;>intro h3 h3p h3s<;>(try simp only[Q] at h3p);refine rq ?_;rotate_left;refine ar (xaj ((pre++[y],rest,szr v (mFu y))) ⟨⟨(by have hz:=hg1.1;rw[<-hz];simp),(by have e:=zbp (f:=mFu) hg1.1;have z3:=zaN (left:=v) (mFu y);simp;omega)⟩,oe,sx ⟨⟨_,Z,xaL ?_⟩,⟨⟨_,Z,xaL ?_⟩,O⟩⟩ O⟩);iterate 2 focus (first|rfl|(simp;done))
 have hrest:rest=[]:=by
  rcases rest with _|⟨a,b⟩
  ·rfl
  ·exfalso;have hz:=xam List.length (hg1.1);simp only[xaa,xab,xac] at hz;omega
 subst hrest;refine rq ?_;rotate_left;all_goals (refine xam D.i ?_;first|omega|(have e:=zbp (f:=mFu) hg1.1;have z3:=zaN (left:=v) (mFu y);omega)|(rw[xaq] at hg1;rw[hg1.1] at hg1;omega))
theorem ziS {a b c:Int}:FnD Tryz.prog 296 [.agg [.d (.i a),.d (.i b),.d (.i c)]] [] (.agg [.d (.i a),.d (.i b),.d (.i c)]) []:=by
 refine bd Tryz.f296 14 [] [] fun _ _ _ _ hk=>?_;refine bx 3001 ?_;refine ab 3002 zn0 ?_;apply tv;refine ab 3003 zn0 ?_;apply tv;refine so ty3 ?_;apply tv;refine so ty3 ?_;apply tv;refine so ty3 ?_;apply tv;refine so zmi ?_;apply tv;focus (refine rn0 (ra zmi) (.agg (qeee ?_ ?_ ?_));all_goals (first|rfl|(simp[];done)|(simp_all;done)|(simp_all;omega)|omega))
theorem zhY {c:Cl} (hok:c.pat.ok):
  FnD Tryz.prog 263 [.agg [.d (.i c.pat.op),.d (.i c.pat.ctor),.d (.i c.pat.n),.d (.i c.pat.m),.d (.i c.pat.var),.d (zal c.pat.kids),.d (.i c.g.op),.d (.i c.g.var),.d (.i c.g.n)]] [] (.agg [.d (.i c.pat.op),.d (.i c.pat.ctor),.d (.i c.pat.n),.d (.i c.pat.m),.d (.i c.pat.var),.d (zal c.pat.kids),.d (.i c.g.op),.d (.i c.g.var),.d (.i c.g.n)]) []:=by
 refine bd Tryz.f263 13 [] [] fun _ _ _ _ hk=>?_;refine bx 3001 ?_;refine ab 3002 zho ?_;apply tv;refine ab 3003 zho ?_;apply tv;refine wc zmK (zhz hok) Z Z ?_;refine ev (so ty60 ?_);apply tv;refine wc zpf ziS Z Z ?_;refine ev (so zmi ?_);apply tv;refine so zjj ?_;apply tv;focus (refine rn0 (ra zjj) (.agg (qeeeeeeeee ?_ ?_ ?_ ?_ ?_ ?_ ?_ ?_ ?_));all_goals (first|rfl|(simp[];done)|(simp_all;done)|(simp_all;omega)|omega))
theorem zhx {l:List Cl} (hs:ClsOk l):FnD Tryz.prog 196 [.d (zbl l)] [] (.d (zbl l)) []:=by
 have h:=hs.1;refine bd Tryz.f196 23 [] [999999] fun _ _ _ _ hk=>?_;refine xbn (id:=3007) sl74 zho Z og (zcg Z) .none Z Z Z oj oj Z Z Z ?_;refine ev (xaz (ι:=List (Cl)×List (Cl)) hk (fun x=>[(4,.d (.i (x.1.length:Int)))]) [8,9,10,11,12,13,14,15,16,17,18,19,20,21] (fun x=>[(3007,some (.box ((x.1.flatMap fun x=>(Cl.c x).map AV.d)++zaD x.2.length [.d (.i 0),.d (.i 0),.d (.i 0),.d (.i 0),.d (.i 0),.nils,.d (.i 0),.d (.i 0),.d (.i 0)])))]) (fun x=>x.1++x.2=l) (fun x=>x.2.length) ([],l) oe ⟨⟨_,Z,xaL ?_⟩,O⟩ ⟨?_,O⟩ (fun x=>rfl) (fun x hg1=>?_));focus (first|rfl|(simp;done)|(simp_all;done)|omega)
 focus (first|rfl|(show some (Res.box _)=some (Res.box _);simp;done))
 obtain⟨pre,rest⟩:=x;dsimp only at hg1 ⊢;refine evc [] [999999] ?_;apply sq<;>intro h1 h1p h1s<;>(try simp only[Q] at h1p);rcases rest with _|⟨y,rest⟩
 ·exfalso;simp_all
 refine ixq znS Z Z Z (zaE hg1) Z (ev (wc zo3 (zhY (c:=y) (hs.2 y (by rw[<-hg1];simp))) Z Z ?_));refine xbk sl74 .none Z Z Z Z (by first|omega|(simp ;omega)) ?_;refine Walk.store zjj .none Z Z Z Z Z Z oe ((zdq (k:=9) oo (by first|rfl|simp) Z)) ?_;apply tv;refine ar (xaj ((pre++[y],rest)) ⟨(by have hz:=hg1;rw[<-hz];simp),oe,sx ⟨⟨_,Z,xaL ?_⟩,O⟩ ⟨?_,O⟩⟩);focus (first|rfl|(simp;done)|(simp_all;done)|omega)
 focus (first|rfl|(show some (Res.box _)=some (Res.box _);simp;done))
 have hrest:rest=[]:=by
  rcases rest with _|⟨a,b⟩
  ·rfl
  ·exfalso;have hz:=xam List.length (hg1);simp only[xaa,xab,xac] at hz;omega
 subst hrest;refine CWp.frz hk 2 3007 _ _ Z Z (zcD (f:=Cl.c) (k:=9) hg1 oe oo) Z ?_;refine CWp.ret ?_;focus (refine rq ?_;all_goals (first|rfl|(simp[h1s,h1p];done)|(simp_all;done)|(simp_all;omega)|omega))
theorem zhy {a b c d:Int}:FnD Tryz.prog 195 [.agg [.d (.i a),.d (.i b),.d (.i c),.d (.i d)]] [] (.agg [.d (.i a),.d (.i b),.d (.i c),.d (.i d)]) []:=by
 refine bd Tryz.f195 13 [] [] fun _ _ _ _ hk=>?_;refine bx 3001 ?_;refine ab 3002 tz91 ?_;apply tv;refine ab 3003 tz91 ?_;apply tv;refine wc zkT zdT Z Z ?_;refine ev (so ty38 ?_);apply tv;refine wc zkT zdT Z Z ?_;refine ev (so ty38 ?_);apply tv;refine so ty91 ?_;apply tv;focus (refine rn0 (ra ty91) (.agg (qeeee ?_ ?_ ?_ ?_));all_goals (first|rfl|(simp[];done)|(simp_all;done)|(simp_all;omega)|omega))
theorem zks {f:Fu} (hs:FuOk f):
  FnD Tryz.prog 108 [.agg [.d (.i f.ty.arg.data),.d (.i f.ty.arg.index),.d (.i f.ty.res.data),.d (.i f.ty.res.index),.d (zbl f.cls),.d (zay f.bodies)]] [] (.agg [.d (.i f.ty.arg.data),.d (.i f.ty.arg.index),.d (.i f.ty.res.data),.d (.i f.ty.res.index),.d (zbl f.cls),.d (zay f.bodies)]) []:=by
 refine bd Tryz.f108 17 [] [] fun _ _ _ _ hk=>?_;refine bx 3001 ?_;refine ab 3002 tz93 ?_;apply tv;refine ab 3003 tz93 ?_;apply tv;refine wc zoH zhy Z Z ?_;refine ev (so ty91 ?_);apply tv;refine wc zoI (zhx hs.1) Z Z ?_;refine ev (so ty74 ?_);apply tv;refine wc zmz (ziR hs.2.1 hs.2.2) Z Z ?_;refine ev (so ty39 ?_);apply tv;refine so ty93 ?_;apply tv;focus (refine rn0 (ra ty93) (.agg (qeeeeee ?_ ?_ ?_ ?_ ?_ ?_));all_goals (first|rfl|(simp[];done)|(simp_all;done)|(simp_all;omega)|omega))
theorem zdS {l:List Fu} (hs:FusOk l):FnD Tryz.prog 44 [.d (zb8 l)] [] (.d (zb8 l)) []:=by
 have h:=hs.1;refine bd Tryz.f44 23 [] [999999] fun _ _ _ _ hk=>?_;refine xbn (id:=3007) sl24 tz93 Z og (zcg Z) .none Z Z Z oj oj Z Z Z ?_;refine ev (xaz (ι:=List (Fu)×List (Fu)) hk (fun x=>[(4,.d (.i (x.1.length:Int)))]) [8,9,10,11,12,13,14,15,16,17,18,19,20,21] (fun x=>[(3007,some (.box ((x.1.flatMap fun x=>(Fu.c x).map AV.d)++zaD x.2.length [.d (.i 0),.d (.i 0),.d (.i 0),.d (.i 0),.nils,.nils])))]) (fun x=>x.1++x.2=l) (fun x=>x.2.length) ([],l) oe ⟨⟨_,Z,xaL ?_⟩,O⟩ ⟨?_,O⟩ (fun x=>rfl) (fun x hg1=>?_));focus (first|rfl|(simp;done)|(simp_all;done)|omega)
 focus (first|rfl|(show some (Res.box _)=some (Res.box _);simp;done))
 obtain⟨pre,rest⟩:=x;dsimp only at hg1 ⊢;refine evc [] [999999] ?_;apply sq<;>intro h1 h1p h1s<;>(try simp only[Q] at h1p);rcases rest with _|⟨y,rest⟩
 ·exfalso;simp_all
 refine ixq sl70 Z Z Z (zaE hg1) Z (ev (wc zoo (zks (f:=y) (hs.2 y (by rw[<-hg1];simp))) Z Z ?_));refine xbk sl24 .none Z Z Z Z (by first|omega|(simp ;omega)) ?_;refine Walk.store ty93 .none Z Z Z Z Z Z oe ((zdq (k:=6) oo (by first|rfl|simp) Z)) ?_;apply tv;refine ar (xaj ((pre++[y],rest)) ⟨(by have hz:=hg1;rw[<-hz];simp),oe,sx ⟨⟨_,Z,xaL ?_⟩,O⟩ ⟨?_,O⟩⟩);focus (first|rfl|(simp;done)|(simp_all;done)|omega)
 focus (first|rfl|(show some (Res.box _)=some (Res.box _);simp;done))
 have hrest:rest=[]:=by
  rcases rest with _|⟨a,b⟩
  ·rfl
  ·exfalso;have hz:=xam List.length (hg1);simp only[xaa,xab,xac] at hz;omega
 subst hrest;refine CWp.frz hk 2 3007 _ _ Z Z (zcD (f:=Fu.c) (k:=6) hg1 oe oo) Z ?_;refine CWp.ret ?_;focus (refine rq ?_;all_goals (first|rfl|(simp[h1s,h1p];done)|(simp_all;done)|(simp_all;omega)|omega))
theorem ziK {a b:Gd}:FnD Tryz.prog 291 [.agg [.d (.i a.op),.d (.i a.var),.d (.i a.n)],.agg [.d (.i b.op),.d (.i b.var),.d (.i b.n)]] [] (.d (.bool (gdEq a b))) []:=by
 refine bd Tryz.f291 20 [] [] fun _ _ _ _ hk=>?_;refine bx 3002 ?_;refine bx 3003 ?_;refine ev ?_;apply sq<;>intro h1 h1p h1s<;>(try simp only[Q] at h1p);focus (refine rq ?_;all_goals (refine xam D.bool ?_;simp[gdEq,h1s,h1p]))
 apply sq<;>intro h2 h2p h2s<;>(try simp only[Q] at h2p);focus (refine rq ?_;all_goals (refine xam D.bool ?_;simp[gdEq,h1s,h1p,h2s,h2p]))
 apply sq<;>intro h3 h3p h3s<;>(try simp only[Q] at h3p);focus (refine rq ?_;all_goals (refine xam D.bool ?_;simp[gdEq,h1s,h1p,h2s,h2p,h3s,h3p]))
 focus (refine rq ?_;all_goals (refine xam D.bool ?_;simp[gdEq,h1s,h1p,h2s,h2p,h3s,h3p]))
theorem zhW {a b:Cl} (hok:a.pat.ok):
  FnD Tryz.prog 249 [.agg [.d (.i a.pat.op),.d (.i a.pat.ctor),.d (.i a.pat.n),.d (.i a.pat.m),.d (.i a.pat.var),.d (zal a.pat.kids),.d (.i a.g.op),.d (.i a.g.var),.d (.i a.g.n)],.agg [.d (.i b.pat.op),.d (.i b.pat.ctor),.d (.i b.pat.n),.d (.i b.pat.m),.d (.i b.pat.var),.d (zal b.pat.kids),.d (.i b.g.op),.d (.i b.g.var),.d (.i b.g.n)]] [] (.d (.bool (clEq a b))) []:=by
 refine bd Tryz.f249 17 [] [] fun _ _ _ _ hk=>?_;refine bx 3002 ?_;refine bx 3003 ?_;refine ev (wc zmI (zen (a:=a.pat) (b:=b.pat) _ (Nat.le_refl _) hok) Z Z ?_);refine ev ?_;apply sq<;>intro h1 h1p h1s<;>(try simp only[Q] at h1p);focus (refine rq ?_;all_goals (refine xam D.bool ?_;simp[clEq,h1s,h1p]))
 refine wc zpd (ziK (a:=a.g) (b:=b.g)) Z Z ?_;refine ev ?_;apply sq<;>intro h2 h2p h2s<;>(try simp only[Q] at h2p);focus (refine rq ?_;all_goals (refine xam D.bool ?_;simp[clEq,h1s,h1p,h2s,h2p]))
 focus (refine rq ?_;all_goals (refine xam D.bool ?_;simp[clEq,h1s,h1p,h2s,h2p]))
theorem zhu {l m:List Cl} (hs:ClsOk l):FnD Tryz.prog 175 [.d (zbl l),.d (zbl m)] [] (.d (.bool (zl3 l m))) []:=by
 have h:=hs.1;refine bd Tryz.f175 27 [] [] fun _ _ _ _ hk=>?_;apply sq<;>intro h1 h1p h1s<;>(try simp only[Q,xal] at h1p);refine rq ?_;rotate_left;refine xaz (ι:=Nat) hk (fun i=>[(5,.d (.i (i:Int)))]) [4,11,12,13,14,15,16,17,18,19,20,21,22,23,24,25,26] (fun i=>[]) (fun i=>i<=l.length/\∀i',i'<i->clEq (nth l i') (nth m i')=true) (fun i=>l.length-i) 0 ⟨by omega,fun _ h=>absurd h oc⟩ ⟨⟨_,Z,xaL ?_⟩,O⟩ O (fun x=>rfl) (fun i hg1=>?_);focus (first|rfl|(simp;done)|(simp_all;done)|omega)
 refine evc [] [] ?_;apply sq<;>intro h2 h2p h2s<;>(try simp only[Q,xal] at h2p);refine ixq sl74 Z Z Z (zaf oc) Z ?_;refine evd [] [] (ixq sl74 Z Z Z (zaf oc) Z ?_);refine evd [] [] (wc zoX (zhW (a:=nth l i) (b:=nth m i) (hs.2 _ (zad oc))) Z Z ?_);refine evd [] [] (dr ?_);apply sq<;>intro h3 h3p h3s<;>(try simp only[Q,xal] at h3p);refine rq ?_;rotate_left;refine ar (xaj (i+1) ⟨⟨by omega,zaw hg1.2 oh⟩,oc,sx ⟨⟨_,Z,xaL ?_⟩,O⟩ O⟩);focus (first|rfl|(simp;done)|(simp_all;done)|omega)
 refine rq ?_;rotate_left;all_goals (refine xam D.bool ?_;first|(refine(zdi ?_).symm;omega)|(refine(zbJ oc (fun x hx=>hg1.2 x oc)).symm)|(refine(za8 (i:=i) oc oc ?_).symm;assumption))
theorem zhv {a b:Ft}:FnD Tryz.prog 174 [.agg [.d (.i a.arg.data),.d (.i a.arg.index),.d (.i a.res.data),.d (.i a.res.index)],.agg [.d (.i b.arg.data),.d (.i b.arg.index),.d (.i b.res.data),.d (.i b.res.index)]] [] (.d (.bool (ftEq a b))) []:=by
 refine bd Tryz.f174 17 [] [] fun _ _ _ _ hk=>?_;refine bx 3002 ?_;refine bx 3003 ?_;refine ev (wc zkQ zdR Z Z ?_);refine ev ?_;apply sq<;>intro h1 h1p h1s<;>(try simp only[Q] at h1p);focus (refine rq ?_;all_goals (refine xam D.bool ?_;simp[ftEq,h1s,h1p]))
 refine wc zkQ zdR Z Z ?_;refine ev ?_;apply sq<;>intro h2 h2p h2s<;>(try simp only[Q] at h2p);focus (refine rq ?_;all_goals (refine xam D.bool ?_;simp[ftEq,h1s,h1p,h2s,h2p]))
 focus (refine rq ?_;all_goals (refine xam D.bool ?_;simp[ftEq,h1s,h1p,h2s,h2p]))
theorem zkq {a b:Fu} (hs:FuOk a):
  FnD Tryz.prog 89 [.agg [.d (.i a.ty.arg.data),.d (.i a.ty.arg.index),.d (.i a.ty.res.data),.d (.i a.ty.res.index),.d (zbl a.cls),.d (zay a.bodies)],.agg [.d (.i b.ty.arg.data),.d (.i b.ty.arg.index),.d (.i b.ty.res.data),.d (.i b.ty.res.index),.d (zbl b.cls),.d (zay b.bodies)]] [] (.d (.bool (fuEq a b))) []:=by
 refine bd Tryz.f89 23 [] [] fun _ _ _ _ hk=>?_;refine bx 3002 ?_;refine bx 3003 ?_;refine ev (wc zoC (zhv (a:=a.ty) (b:=b.ty)) Z Z ?_);refine ev ?_;apply sq<;>intro h1 h1p h1s<;>(try simp only[Q] at h1p);focus (refine rq ?_;all_goals (refine xam D.bool ?_;simp[fuEq,h1s,h1p]))
 refine wc zoD (zhu hs.1) Z Z ?_;refine ev ?_;apply sq<;>intro h2 h2p h2s<;>(try simp only[Q] at h2p);focus (refine rq ?_;all_goals (refine xam D.bool ?_;simp[fuEq,h1s,h1p,h2s,h2p]))
 refine wc zmw (ziJ hs.2.1 hs.2.2) Z Z ?_;refine ev ?_;apply sq<;>intro h3 h3p h3s<;>(try simp only[Q] at h3p);focus (refine rq ?_;all_goals (refine xam D.bool ?_;simp[fuEq,h1s,h1p,h2s,h2p,h3s,h3p]))
 focus (refine rq ?_;all_goals (refine xam D.bool ?_;simp[fuEq,h1s,h1p,h2s,h2p,h3s,h3p]))
theorem zjA {l m:List Fu} (hs:FusOk l):FnD Tryz.prog 29 [.d (zb8 l),.d (zb8 m)] [] (.d (.bool (znO l m))) []:=by
 have h:=hs.1;refine bd Tryz.f29 27 [] [] fun _ _ _ _ hk=>?_;apply sq<;>intro h1 h1p h1s<;>(try simp only[Q,xal] at h1p);refine rq ?_;rotate_left;refine xaz (ι:=Nat) hk (fun i=>[(5,.d (.i (i:Int)))]) [4,11,12,13,14,15,16,17,18,19,20,21,22,23,24,25,26] (fun i=>[]) (fun i=>i<=l.length/\∀i',i'<i->fuEq (nth l i') (nth m i')=true) (fun i=>l.length-i) 0 ⟨by omega,fun _ h=>absurd h oc⟩ ⟨⟨_,Z,xaL ?_⟩,O⟩ O (fun x=>rfl) (fun i hg1=>?_);focus (first|rfl|(simp;done)|(simp_all;done)|omega)
 refine evc [] [] ?_;apply sq<;>intro h2 h2p h2s<;>(try simp only[Q,xal] at h2p);refine ixq sl24 Z Z Z (zaf oc) Z ?_;refine evd [] [] (ixq sl24 Z Z Z (zaf oc) Z ?_);refine evd [] [] (wc zpU (zkq (a:=nth l i) (b:=nth m i) (hs.2 _ (zad oc))) Z Z ?_);refine evd [] [] (dr ?_);apply sq<;>intro h3 h3p h3s<;>(try simp only[Q,xal] at h3p);refine rq ?_;rotate_left;refine ar (xaj (i+1) ⟨⟨by omega,zaw hg1.2 oh⟩,oc,sx ⟨⟨_,Z,xaL ?_⟩,O⟩ O⟩);focus (first|rfl|(simp;done)|(simp_all;done)|omega)
 refine rq ?_;rotate_left;all_goals (refine xam D.bool ?_;first|(refine(zdi ?_).symm;omega)|(refine(zbJ oc (fun x hx=>hg1.2 x oc)).symm)|(refine(za8 (i:=i) oc oc ?_).symm;assumption))
theorem zd0 {w:List Data} (hs:WSmall w) (hv:zaM w=true):WT w:=WV.wt hs ((zdb w).1 hv)
set_option maxHeartbeats 4000000
theorem zdw {p:Pat}{b1 b2 b3:Bool}{k:Int}:FnD Tryz.prog 293 [.agg [.d (.i p.op),.d (.i p.ctor),.d (.i p.n),.d (.i p.m),.d (.i p.var),.d (zal p.kids)],.d (.bool b1),.d (.bool b2),.d (.bool b3),.d (.i k)] []
  (.d (.bool (decide ((b1=true\/p.ctor=0)/\(b2=true\/p.n=0/\p.m=0)/\(b3=true\/p.var=0)/\(p.kids.length:Int)=k)))) []:=by
 refine bd Tryz.f293 45 [] [1] fun _ _ _ _ hk=>?_;refine bx 3005 ?_;refine ev (xaA (xa6 6 [(16,.d (.bool (decide (b1=true\/p.ctor=0))))] [11,12,13,14,15] ?_ ?_));refine ev ?_;apply sq<;>intro h1 h1p h1s;focus (exact jn Z (xaK (by(first|rfl|(rw[xat];simp_all[xaP];done)))))
 focus (exact jn Z (xaK (by(first|rfl|(rw[xat];simp_all[xaP];done)))))
 refine xa6 13 [(29,.d (.bool (decide ((b1=true\/p.ctor=0)/\(b2=true\/p.n=0/\p.m=0)))))] [17,18,19,20,21,22,23,24,25,26,27,28] ?_ ?_;refine ev ?_;apply sq<;>intro h2 h2p h2s;apply sq<;>intro h3 h3p h3s;focus (exact jn Z (xaK (by(first|rfl|(rw[xat];simp_all[xaP];done)))))
 apply sq<;>intro h4 h4p h4s;focus (exact jn Z (xaK (by(first|rfl|(rw[xat];simp_all[xaP];done)))))
 focus (exact jn Z (xaK (by(first|rfl|(rw[xat];simp_all[xaP];done)))))
 focus (exact jn Z (xaK (by(first|rfl|(rw[xat];simp_all[xaP];done)))))
 refine xa6 8 [(37,.d (.bool (decide ((b1=true\/p.ctor=0)/\(b2=true\/p.n=0/\p.m=0)/\(b3=true\/p.var=0)))))] [30,31,32,33,34,35,36] ?_ ?_;refine ev ?_;apply sq<;>intro h5 h5p h5s;apply sq<;>intro h6 h6p h6s;focus (exact jn Z (xaK (by(first|rfl|(rw[xat];simp_all[xaP];done)))))
 focus (exact jn Z (xaK (by(first|rfl|(rw[xat];simp_all[xaP];done)))))
 focus (exact jn Z (xaK (by(first|rfl|(rw[xat];simp_all[xaP];done)))))
 refine xa6 7 [(44,.d (.bool (decide ((b1=true\/p.ctor=0)/\(b2=true\/p.n=0/\p.m=0)/\(b3=true\/p.var=0)/\(p.kids.length:Int)=k))))] [38,39,40,41,42,43] ?_ ?_;refine ev ?_;apply sq<;>intro h7 h7p h7s;focus (exact jn Z (xaK (by(first|rfl|(rw[xat];simp_all[xaP];done)))))
 focus (exact jn Z (xaK (by(first|rfl|(rw[xat];simp_all[xaP];done)))))
 refine xa5 (ev (rq ?_));rotate_left;all_goals (rfl)
theorem zd2 {p:Pat}{k:Int}:FnD Tryz.prog 293 [.agg [.d (.i p.op),.d (.i p.ctor),.d (.i p.n),.d (.i p.m),.d (.i p.var),.d (zal p.kids)],.d (.bool false),.d (.bool false),.d (.bool false),.d (.i k)] []
  (.d (.bool (decide (p.ctor=0/\(p.n=0/\p.m=0)/\p.var=0/\(p.kids.length:Int)=k)))) []:=by
 have:=zdw (p:=p) (b1:=false) (b2:=false) (b3:=false) (k:=k);simpa only[Bool.false_eq_true,false_or] using this
theorem zd3 {p:Pat}{k:Int}:FnD Tryz.prog 293 [.agg [.d (.i p.op),.d (.i p.ctor),.d (.i p.n),.d (.i p.m),.d (.i p.var),.d (zal p.kids)],.d (.bool false),.d (.bool false),.d (.bool true),.d (.i k)] []
  (.d (.bool (decide (p.ctor=0/\(p.n=0/\p.m=0)/\(p.kids.length:Int)=k)))) []:=by
 have:=zdw (p:=p) (b1:=false) (b2:=false) (b3:=true) (k:=k);simpa only[Bool.false_eq_true,false_or,true_or,true_and] using this
theorem zhH {p:Pat}{k:Int}:FnD Tryz.prog 293 [.agg [.d (.i p.op),.d (.i p.ctor),.d (.i p.n),.d (.i p.m),.d (.i p.var),.d (zal p.kids)],.d (.bool false),.d (.bool true),.d (.bool false),.d (.i k)] []
  (.d (.bool (decide (p.ctor=0/\p.var=0/\(p.kids.length:Int)=k)))) []:=by
 have:=zdw (p:=p) (b1:=false) (b2:=true) (b3:=false) (k:=k);simpa only[Bool.false_eq_true,false_or,true_or,true_and] using this
theorem zlB {p:Pat}{k:Int}:FnD Tryz.prog 293 [.agg [.d (.i p.op),.d (.i p.ctor),.d (.i p.n),.d (.i p.m),.d (.i p.var),.d (zal p.kids)],.d (.bool true),.d (.bool false),.d (.bool false),.d (.i k)] []
  (.d (.bool (decide ((p.n=0/\p.m=0)/\p.var=0/\(p.kids.length:Int)=k)))) []:=by
 have:=zdw (p:=p) (b1:=true) (b2:=false) (b3:=false) (k:=k);simpa only[Bool.false_eq_true,false_or,true_or,true_and] using this
theorem zdf {v:Int}:FnD Tryz.prog 136 [.d (.i v)] [] (.d (.bool (zac v 0 5))) []:=by
 refine bd Tryz.f136 5 [] [] fun _ _ _ _ hk=>?_;refine wc zb4 zaH Z Z ?_;refine ev (rq ?_);rotate_left;all_goals (rfl)
theorem zc5 {w:List Data} (hw:WT w){a k:Int} (ht:TyIn w.length ⟨a,k⟩):FnD Tryz.prog 236 [.d (zae w),.agg [.d (.i a),.d (.i k)]] [] (.d (zcr (zaA w ⟨a,k⟩))) []:=by
 rcases ht with ha|⟨d,hd,hlt⟩
 ·simp only at ha;subst ha;rw[zeF];exact zgn
 ·simp only at hd;subst hd;rw[zfk];exact ziC hw hlt
theorem ze7 {w:List Data} (hw:WT w){a k c:Int} (ht:TyIn w.length ⟨a,k⟩) (hc:c∈zaA w ⟨a,k⟩):FnD Tryz.prog 237 [.d (zae w),.agg [.d (.i a),.d (.i k)],.d (.i c)] [] (.d (zaR (zan w ⟨a,k⟩ c))) []:=by
 obtain⟨d,rfl,h1,h2⟩:=za1 ht hc;exact zhR hw h1 h2
theorem zgf {w:List Data} (hw:WT w){a k:Int}{p:Pat} (ht:TyIn w.length ⟨a,k⟩):
  FnD Tryz.prog 252 [.d (zae w),.agg [.d (.i a),.d (.i k)],.agg [.d (.i p.op),.d (.i p.ctor),.d (.i p.n),.d (.i p.m),.d (.i p.var),.d (zal p.kids)]] [] (.tup [.d (zaR (zbP w ⟨a,k⟩ p)),.d (.bool (okP w ⟨a,k⟩ p))]) []:=by
 have hcl:=zeG hw ht;have ty4:p.op=4->p.ctor∉zaA w ⟨a,k⟩->zbP w ⟨a,k⟩ p=[]:=fun h4 hm=>by unfold zbP;rw[if_pos ⟨h4,hm⟩]
 have ty4':p.op=4->p.ctor∈zaA w ⟨a,k⟩->zbP w ⟨a,k⟩ p=zan w ⟨a,k⟩ p.ctor:=fun h4 hm=>by unfold zbP zaa;rw[if_neg (fun h=>h.2 hm),if_pos h4]
 have ty5:p.op=5->zbP w ⟨a,k⟩ p=[⟨a,k⟩,⟨a,k⟩]:=fun h5=>by unfold zbP zaa;rw[if_neg oc,if_neg oc,if_pos h5]
 have ty6:p.op=6->zbP w ⟨a,k⟩ p=[⟨a,k⟩]:=fun h6=>by unfold zbP zaa;rw[if_neg oc,if_neg oc,if_neg oc,if_pos h6]
 have ty0:¬p.op=4->¬p.op=5->¬p.op=6->zbP w ⟨a,k⟩ p=[]:=fun h4 h5 h6=>by unfold zbP zaa;rw[if_neg (fun h=>h4 h.1),if_neg h4,if_neg h5,if_neg h6]
 have ln4:p.op=4->(zaa w ⟨a,k⟩ p).length=(zan w ⟨a,k⟩ p.ctor).length:=fun h4=>by unfold zaa;rw[if_pos h4]
 have ln5:p.op=5->(zaa w ⟨a,k⟩ p).length=2:=fun h5=>by unfold zaa;rw[if_neg oc,if_pos h5];rfl
 have ln6:p.op=6->(zaa w ⟨a,k⟩ p).length=1:=fun h6=>by unfold zaa;rw[if_neg oc,if_neg oc,if_pos h6];rfl
 have ln0:¬p.op=4->¬p.op=5->¬p.op=6->(zaa w ⟨a,k⟩ p).length=0:=fun h4 h5 h6=>by unfold zaa;rw[if_neg h4,if_neg h5,if_neg h6];rfl
 have okI:∀b:Bool,(b=true↔((((p.op=2\/p.op=6)->0<=p.var/\p.var<=5)/\(¬(p.op=2\/p.op=6)->p.var=0)/\(p.op≠3->p.n=0/\p.m=0)/\(p.op≠4->p.ctor=0)/\
   (p.op=1\/p.op=2\/p.op=5\/p.op=6\/(p.op=3/\a = -1/\0<=p.n/\p.n<=p.m/\p.m<=9)\/(p.op=4/\p.ctor∈zaA w ⟨a,k⟩)))/\p.kids.length=(zaa w ⟨a,k⟩ p).length))->b=okP w ⟨a,k⟩ p:=fun b h=>by
  rw[xat,h];unfold okP ownP;simp only[xad,xah]
 by_cases hmem:p.ctor∈zaA w ⟨a,k⟩
 ·have hargs:=ze7 hw ht hmem;have hal:(zan w ⟨a,k⟩ p.ctor).length<=1000000000000:=by
   obtain⟨d,rfl,h1,h2⟩:=za1 ht hmem;exact zie hw h1 h2
  simp only[hmem,and_true] at okI;refine bd Tryz.f252 87 [] [5] fun _ _ _ _ hk=>?_;refine bx 3004 ?_;refine bx 3005 ?_;refine ev ?_;apply sq<;>intro h1 h1p h1s<;>(try simp only[Q] at h1p);refine wc zcO zd2 Z Z ?_;refine ev (rn0 (r2 Z Z) (.tup (qne ?_ ?_)));rotate_left 2;apply sq<;>intro h2 h2p h2s<;>(try simp only[Q] at h2p);refine xaA (xa6 7 [(23,.d (.bool (decide ((p.ctor=0/\(p.n=0/\p.m=0)/\(p.kids.length:Int)=0)/\0<=p.var/\p.var<=5))))] [17,18,19,20,21,22] ?_ ?_);refine ev (wc zcO zd3 Z Z ?_);refine ev ?_;apply sq<;>intro h3 h3p h3s<;>(try simp only[Q] at h3p);refine Walk.call (cr:=[]) zih zdf Z (.some Z Z h3) Z Z (LeL.refl _) O Z Z Z (evs [] [(19,true)] ?_ ⟨⟨_,Z,h3⟩,O⟩);exact jn Z (xaK (by(rw[xat];simp only[xah,zac,xad,Bool.false_eq_true,false_iff,true_iff];omega)));exact jn Z (xaK (by(rw[xat];simp only[xah,zac,xad,Bool.false_eq_true,false_iff,true_iff];omega)));refine xa5 (ev (rn0 (r2 Z Z) (.tup (qne ?_ ?_))));rotate_left 2;apply sq<;>intro h4 h4p h4s<;>(try simp only[Q] at h4p);apply sq<;>intro h5 h5p h5s<;>(try simp only[Q] at h5p);refine Walk.call (cr:=[]) zcO zhH Z (.some Z Z h5) Z Z (LeL.refl _) O Z Z Z (evd [] [(29,true)] ?_ ⟨⟨_,Z,h5⟩,O⟩);apply sq<;>intro h6 h6p h6s<;>(try simp only[Q] at h6p);apply sq<;>intro h7 h7p h7s<;>(try simp only[Q] at h7p);apply sq<;>intro h8 h8p h8s<;>(try simp only[Q] at h8p);refine dr (rn0 (r2 Z Z) (.tup (qne ?_ ?_)));rotate_left 2;refine dr (rn0 (r2 Z Z) (.tup (qne ?_ ?_)));rotate_left 2;refine sqF ?_;refine dr (rn0 (r2 Z Z) (.tup (qne ?_ ?_)));rotate_left 2;refine sqF ?_;refine sqF ?_;refine dr (rn0 (r2 Z Z) (.tup (qne ?_ ?_)));rotate_left 2;refine sqF ?_;refine sqF ?_;refine sqF ?_;refine dr (rn0 (r2 Z Z) (.tup (qne ?_ ?_)));rotate_left 2;apply sq<;>intro h9 h9p h9s<;>(try simp only[Q] at h9p);refine wc ziq (zc5 hw ht) Z Z ?_;refine evd [] [] (wc zio (zbA hcl) Z Z ?_);refine evd [] [] (dr ?_);apply sq<;>intro h10 h10p h10s<;>(try simp only[Q] at h10p);exfalso;simp_all;refine wc zmE hargs Z Z ?_;refine ev (wc zcO zlB Z Z ?_);refine ev (rn0 (r2 Z Z) (.tup (qee ?_ ?_)));rotate_left 2;apply sq<;>intro h11 h11p h11s<;>(try simp only[Q] at h11p);refine si [0,1] [_,_] zau tz38 ?_;refine evd [] [] (wc zcO zd2 Z Z ?_);refine evd [] [] (dr (rn0 (r2 Z Z) (.tup (qee ?_ ?_))));rotate_left 2;apply sq<;>intro h12 h12p h12s<;>(try simp only[Q] at h12p);refine si [0] [_] zau tz38 ?_;refine evd [] [] (wc zcO zd3 Z Z ?_);refine evd [] [] ?_;apply sq<;>intro h13 h13p h13s<;>(try simp only[Q] at h13p);refine Walk.call (cr:=[]) zih zdf Z (.some Z Z h13) Z Z (LeL.refl _) O Z Z Z (evd [] [(82,true)] ?_ ⟨⟨_,Z,h13⟩,O⟩);refine dr (rn0 (r2 Z Z) (.tup (qee ?_ ?_)));rotate_left 2;refine dr (rn0 (r2 Z Z) (.tup (qee ?_ ?_)));rotate_left 2;refine rn0 (r2 Z Z) (.tup (qne ?_ ?_));rotate_left 2;all_goals (first|(refine xam D.bool (okI _ ?_);(try simp only[xah,Bool.false_eq_true,zac,xad,xac,true_iff,false_iff]);omega)|(rw[ty0 oc oc oc];first|done|rfl)|(rw[ty5 oc];first|done|rfl)|(rw[ty6 oc];first|done|rfl)|(rw[ty4' oc hmem];first|done|rfl))
 ·simp only[hmem,and_false,or_false] at okI;refine bd Tryz.f252 87 [] [5] fun _ _ _ _ hk=>?_;refine bx 3004 ?_;refine bx 3005 ?_;refine ev ?_;apply sq<;>intro h1 h1p h1s<;>(try simp only[Q] at h1p);refine wc zcO zd2 Z Z ?_;refine ev (rn0 (r2 Z Z) (.tup (qne ?_ ?_)));rotate_left 2;apply sq<;>intro h2 h2p h2s<;>(try simp only[Q] at h2p);refine xaA (xa6 7 [(23,.d (.bool (decide ((p.ctor=0/\(p.n=0/\p.m=0)/\(p.kids.length:Int)=0)/\0<=p.var/\p.var<=5))))] [17,18,19,20,21,22] ?_ ?_);refine ev (wc zcO zd3 Z Z ?_);refine ev ?_;apply sq<;>intro h3 h3p h3s<;>(try simp only[Q] at h3p);refine Walk.call (cr:=[]) zih zdf Z (.some Z Z h3) Z Z (LeL.refl _) O Z Z Z (evs [] [(19,true)] ?_ ⟨⟨_,Z,h3⟩,O⟩);exact jn Z (xaK (by(rw[xat];simp only[xah,zac,xad,Bool.false_eq_true,false_iff,true_iff];omega)));exact jn Z (xaK (by(rw[xat];simp only[xah,zac,xad,Bool.false_eq_true,false_iff,true_iff];omega)));refine xa5 (ev (rn0 (r2 Z Z) (.tup (qne ?_ ?_))));rotate_left 2;apply sq<;>intro h4 h4p h4s<;>(try simp only[Q] at h4p);apply sq<;>intro h5 h5p h5s<;>(try simp only[Q] at h5p);refine Walk.call (cr:=[]) zcO zhH Z (.some Z Z h5) Z Z (LeL.refl _) O Z Z Z (evd [] [(29,true)] ?_ ⟨⟨_,Z,h5⟩,O⟩);apply sq<;>intro h6 h6p h6s<;>(try simp only[Q] at h6p);apply sq<;>intro h7 h7p h7s<;>(try simp only[Q] at h7p);apply sq<;>intro h8 h8p h8s<;>(try simp only[Q] at h8p);refine dr (rn0 (r2 Z Z) (.tup (qne ?_ ?_)));rotate_left 2;refine dr (rn0 (r2 Z Z) (.tup (qne ?_ ?_)));rotate_left 2;refine sqF ?_;refine dr (rn0 (r2 Z Z) (.tup (qne ?_ ?_)));rotate_left 2;refine sqF ?_;refine sqF ?_;refine dr (rn0 (r2 Z Z) (.tup (qne ?_ ?_)));rotate_left 2;refine sqF ?_;refine sqF ?_;refine sqF ?_;refine dr (rn0 (r2 Z Z) (.tup (qne ?_ ?_)));rotate_left 2;apply sq<;>intro h9 h9p h9s<;>(try simp only[Q] at h9p);refine wc ziq (zc5 hw ht) Z Z ?_;refine evd [] [] (wc zio (zbA hcl) Z Z ?_);refine evd [] [] (dr ?_);apply sq<;>intro h10 h10p h10s<;>(try simp only[Q] at h10p);refine rn0 (r2 Z Z) (.tup (qne ?_ ?_));rotate_left 2;exfalso;simp_all;apply sq<;>intro h11 h11p h11s<;>(try simp only[Q] at h11p);refine si [0,1] [_,_] zau tz38 ?_;refine evd [] [] (wc zcO zd2 Z Z ?_);refine evd [] [] (dr (rn0 (r2 Z Z) (.tup (qee ?_ ?_))));rotate_left 2;apply sq<;>intro h12 h12p h12s<;>(try simp only[Q] at h12p);refine si [0] [_] zau tz38 ?_;refine evd [] [] (wc zcO zd3 Z Z ?_);refine evd [] [] ?_;apply sq<;>intro h13 h13p h13s<;>(try simp only[Q] at h13p);refine Walk.call (cr:=[]) zih zdf Z (.some Z Z h13) Z Z (LeL.refl _) O Z Z Z (evd [] [(82,true)] ?_ ⟨⟨_,Z,h13⟩,O⟩);refine dr (rn0 (r2 Z Z) (.tup (qee ?_ ?_)));rotate_left 2;refine dr (rn0 (r2 Z Z) (.tup (qee ?_ ?_)));rotate_left 2;refine rn0 (r2 Z Z) (.tup (qne ?_ ?_));rotate_left 2;all_goals (first|(refine xam D.bool (okI _ ?_);(try simp only[xah,Bool.false_eq_true,zac,xad,xac,true_iff,false_iff]);omega)|(rw[ty0 oc oc oc];first|done|rfl)|(rw[ty5 oc];first|done|rfl)|(rw[ty6 oc];first|done|rfl)|(rw[ty4 oc hmem];first|done|rfl))
theorem znj {t u:Vt}:t=u↔t.var=u.var/\t.ty.data=u.ty.data/\t.ty.index=u.ty.index:=by
 rcases t with ⟨a,b,c⟩;rcases u with ⟨d,e,f⟩;simp
def zl9 (l:List Vt) (v:Vt):Int:=idxF (fun x=>decide (v=x)) l 0
theorem zg1 {l:List Vt}{v:Vt} (h:l.length<=1000000000000):FnD Tryz.prog 297 [.d (zaU l),.agg [.d (.i v.var),.d (.i v.ty.data),.d (.i v.ty.index)]] [] (.d (.i (zl9 l v))) []:=by
 refine bd Tryz.f297 19 [16] [] fun _ _ _ _ hk=>?_;refine bx 3003 ?_;refine evs [16] [] (xaz (ι:=List (Vt)×List (Vt)) hk (fun x=>[(8,.d (.i (x.1.length:Int)))]) [4,5,9,10,11,12,13,14,15,16,17,18] (fun x=>[]) (fun x=>x.1++x.2=l/\idxF (fun x=>decide (v=x)) x.2 x.1.length=idxF (fun x=>decide (v=x)) l 0) (fun x=>x.2.length) ([],l) ⟨by simp,Z⟩ ⟨⟨_,Z,xaL ?_⟩,O⟩ O (fun x=>rfl) (fun x hg1=>?_));focus (first|rfl|omega)
 obtain⟨pre,rest⟩:=x;dsimp only at hg1 ⊢;refine evc [16] [] ?_;apply sq<;>intro h1 h1p h1s<;>(try simp only[Q] at h1p);rcases rest with _|⟨y,rest⟩
 ·exfalso;simp_all
 refine ixq sl36 Z Z Z (zaE hg1.1) Z (evd [16] [] (Walk.eqV2 zp3 .none Z Z Z Z Z (dr ?_)));apply sq<;>intro h2 h2p h2s<;>(try simp only[Q] at h2p);refine rq ?_;rotate_left;refine ar (xaj ((pre++[y],rest)) ⟨⟨(by have hz:=hg1.1;rw[<-hz];simp),(by rw[<-hg1.2];simp[idxF];simp_all[znj])⟩,oe,sx ⟨⟨_,Z,xaL ?_⟩,O⟩ O⟩);focus (first|rfl|(simp;done)|omega)
 have hrest:rest=[]:=by
  rcases rest with _|⟨a,b⟩
  ·rfl
  ·exfalso;have hz:=xam List.length (hg1.1);simp only[xaa,xab,xac] at hz;omega
 subst hrest;refine rq ?_;rotate_left;all_goals (unfold zl9;rw[<-hg1.2];simp_all[idxF,znj])
theorem zdr {l:List Vt}{v:Vt} (h:l.length<=1000000000000):FnD Tryz.prog 265 [.d (zaU l),.agg [.d (.i v.var),.d (.i v.ty.data),.d (.i v.ty.index)]] [] (.d (.bool (decide (v∈l)))) []:=by
 refine bd Tryz.f265 9 [] [] fun _ _ _ _ hk=>?_;refine bx 3003 ?_;refine ev (wc zpg (zg1 h) Z Z ?_);refine ev (rq ?_);rotate_left;all_goals (refine xam D.bool ?_;rw[show zl9 l v=idxF (fun x=>decide (v=x)) l 0 from rfl,zdj];simp[List.any_eq,eq_comm])
theorem zdd {xs:List Vt}{f:Nat}{caps:List AV}{hp:Hp}{p:Vt->Bool} (hs:xs.length<=1000000000000) (hcal:Callee Tryz.prog f)
  (hf:∀t∈xs,FnD Tryz.prog f ([.agg [.d (.i t.var),.d (.i t.ty.data),.d (.i t.ty.index)]]++caps) hp (.d (.bool (p t))) []) (k1:subH hp hp) (k2:zcM hp=true) (k3:zbs hp [] (.d .nilp) []=true):
  FnD Tryz.prog 282 [.d (zaU xs),.fn f caps] hp (.d (.i (idxF p xs 0))) []:=by
 refine bd Tryz.f282 19 [] [] fun _ _ _ _ hk=>?_;refine xaz (ι:=List (Vt)×List (Vt)) hk (fun x=>[(8,.d (.i (x.1.length:Int)))]) [4,5,9,10,11,12,13,14,15,16,17,18] (fun x=>[]) (fun x=>x.1++x.2=xs/\idxF p x.2 x.1.length=idxF p xs 0) (fun x=>x.2.length) ([],xs) ⟨by simp,Z⟩ ⟨⟨_,Z,xaL ?_⟩,O⟩ O (fun x=>zes hp) (fun x hg1=>?_);focus (first|rfl|omega)
 obtain⟨pre,rest⟩:=x;dsimp only at hg1 ⊢;refine evc [] [] ?_;apply sq<;>intro h1 h1p h1s<;>(try simp only[Q] at h1p);rcases rest with _|⟨y,rest⟩
 ·exfalso;simp_all
 refine ixq sl36 Z Z Z (zaE hg1.1) Z (ev (xbc (cr:=[]) hcal (hf y (by rw[<-hg1.1];simp)) Z .none Z Z Z (LeL.refl _) k1 k2 (zcU k3 _) Z ?_));apply tv;apply sq<;>intro h2 h2p h2s<;>(try simp only[Q] at h2p);focus (refine rn [] (r1 Z) (.eqd ?_) ⟨Z,Z⟩ (fun _ _ h=>h) (fun _ h=>h);all_goals (rw[<-hg1.2];simp[idxF,h1s,h1p,h2s,h2p]))
 refine ar (xaj ((pre++[y],rest)) ⟨⟨(by have hz:=hg1.1;rw[<-hz];simp),(by rw[<-hg1.2];simp[idxF,h2s])⟩,oe,Sub.x od od ⟨⟨_,Z,xaL ?_⟩,O⟩ oe (by simp[zcq]) O⟩);focus (first|rfl|(simp;done)|omega)
 have hrest:rest=[]:=by
  rcases rest with _|⟨a,b⟩
  ·rfl
  ·exfalso;have hz:=xam List.length (hg1.1);simp only[xaa,xab,xac] at hz;omega
 subst hrest;focus (refine rn [] (r1 Z) (.eqd ?_) ⟨Z,Z⟩ (fun _ _ h=>h) (fun _ h=>h);all_goals (rw[<-hg1.2];simp[idxF,h1s,h1p]))
theorem zeB {xs:List Vt}{f:Nat}{caps:List AV}{hp:Hp}{p:Vt->Bool} (hs:xs.length<=1000000000000) (hcal:Callee Tryz.prog f)
  (hf:∀t∈xs,FnD Tryz.prog f ([.agg [.d (.i t.var),.d (.i t.ty.data),.d (.i t.ty.index)]]++caps) hp (.d (.bool (p t))) []) (k1:subH hp hp) (k2:zcM hp=true) (k3:zbs hp [] (.d .nilp) []=true):
  FnD Tryz.prog 303 [.d (zaU xs),.fn f caps] hp (.d (.bool (xs.any p))) []:=by
 refine bd Tryz.f303 9 [] [] fun _ _ _ _ hk=>?_;refine Walk.call (cr:=[]) zmH (zdd hs hcal hf k1 k2 k3) Z .none Z Z (LeL.refl _) k1 k2 (zcU k3 _) Z (ev (rn [] (r1 Z) (.eqd ?_) ⟨Z,Z⟩ (fun _ _ h=>h) (fun _ h=>h)));rotate_left;all_goals (exact xam D.bool (zdj p xs 0))
theorem zgI {b:List Vt}{v:Vt} (h:b.length<=1000000000000):FnD Tryz.prog 304 [.agg [.d (.i v.var),.d (.i v.ty.data),.d (.i v.ty.index)],.ref 3003 0] [(3003,some (.box [.d (zaU b)]))] (.d (.bool (!decide (v∈b)))) []:=by
 refine bd Tryz.f304 8 [] [] fun _ _ _ _ hk=>?_;refine bx 3001 ?_;refine ev (wc zmF (zdr h) Z Z ?_);refine ev (rn [] (r1 Z) (.eqd ?_) ⟨Z,Z⟩ (SubH.get ⟨Z,O⟩) (fun _ h=>h));rotate_left;all_goals (rfl)
theorem zeV {x y:List Vt} (hx:x.length<=1000000000000) (hy:y.length<=1000000000000):FnD Tryz.prog 277 [.d (zaU x),.d (zaU y)] [] (.d (.bool (zcX x y))) []:=by
 refine bd Tryz.f277 16 [] [] fun _ _ _ _ hk=>?_;refine bx 3003 ?_;refine ev ?_;apply sq<;>intro h1 h1p h1s;refine xbe (xs:=[_]) Z (.some Z Z h1) Z Z (Walk.call (cr:=[]) zph (zeB (p:=fun v=> !decide (v∈y)) hx zpi (fun t _=>zgI hy) ⟨Z,O⟩ Z Z) Z (.some Z Z h1) Z Z (LeL.refl _) ⟨Z,O⟩ Z Z Z (evs [] [(10,true)] ?_ ⟨⟨_,Z,h1⟩,O⟩));refine rq ?_;rotate_left;refine rq ?_;rotate_left;all_goals (refine xam D.bool ?_;unfold zcX;first|(simp_all;done)|(simp_all;intro hz;omega))
def metA (s:List Int):List AV:=(List.range 6).map fun(i:Nat)=> .d (.bool (decide ((i:Int)∈s)))
theorem zlf {s:List Int}{v:Int} (h0:0<=v) (h1:v<=5):(metA s)[v.toNat]?=some (.d (.bool (decide (v∈s)))):=by
 unfold metA;rw[List.getElem?_map,List.getElem?_range oc];simp only[Option.map_some];rw[Int.toNat_of_nonneg h0]
theorem zlg {s:List Int}{v:Int} (h0:0<=v) (h1:v<=5):putC (metA s) v.toNat [.d (.bool true)]=some (metA (s++[v])):=by
 have e:v=0\/v=1\/v=2\/v=3\/v=4\/v=5:=by omega
 rcases e with rfl|rfl|rfl|rfl|rfl|rfl<;>simp[metA,putC,List.range_succ]
theorem zm4 (t:Ty) (p:Pat):(zax t p).length<=1:=by unfold zax;split<;>simp
theorem zj7:∀ {a b:List Int},a.Nodup->(∀x∈a,x∈b)->a.length<=b.length
 | [],b,_,_=>by simp
 |x::r,b,hn,hs=>by
  have hn':=List.nodup_cons.1 hn;have hx:=hs x oe;have h:=zj7 (a:=r) (b:=b.erase x) hn'.2 (fun y hy=>by
   have hne:y≠x:=fun e=>hn'.1 (e ▸ hy);exact(List.mem_erase_of_ne hne).2 (hs y (by simp[hy])))
  rw[List.length_erase_of_mem hx] at h;have:=List.length_pos_of_mem hx;simp only[xab];omega
def InR (l:List Vt):Prop:=∀v∈l,0<=v.var/\v.var<=5
theorem zm6 {l:List Vt} (h:InR l) (hn:zbO l=true):l.length<=6:=by
 unfold zbO at hn;have h1:=xas hn;have h2:∀x∈l.map Vt.var,x∈[(0:Int),1,2,3,4,5]:=fun x hx=>by
  obtain⟨v,hv,rfl⟩:=List.mem_map.1 hx;have:=h v hv;simp only[List.mem_cons,xau,or_false];omega
 have:=zj7 h1 h2;simpa using this
theorem zh7 {g:Ty->Pat->Int->Option (List Vt)×Int}{or:Bool} (hg:∀t p c l,(g t p c).1=some l->InR l):∀(a:List Ty) (b:List Pat) (i:Nat) (acc:List Vt) (c:Int) (l:List Vt),InR acc->(zaO g or a b i acc c).1=some l->InR l
 | [],b,i,acc,c,l,ha,h=>by simp only[zaO,xae] at h;subst h;exact ha
 |_::_,[],i,acc,c,l,ha,h=>by simp only[zaO,xae] at h;subst h;exact ha
 |x::r,y::s,i,acc,c,l,ha,h=>by
  simp only[zaO] at h;cases hh:(g x y c).1 with
  |none=>rw[hh] at h;cases h
  |some m=>
   rw[hh] at h;simp only at h;split at h
   ·split at h
    ·exact zh7 hg r s (i+1) acc _ l ha h
    ·cases h
   ·refine zh7 hg r s (i+1) _ _ l (fun v hv=>?_) h;rcases List.mem_append.1 hv with hv|hv
    ·exact ha v hv
    ·exact hg x y c m hh v hv
theorem zlo (w:List Data):∀(n:Nat) (t:Ty) (p:Pat) (c:Int) (l:List Vt),(zat w n t p c).1=some l->InR l/\zbO l=true
 |0,t,p,c,l,h=>by simp[zat] at h
 |n+1,t,p,c,l,h=>by
  unfold zat at h;split at h
  ·cases h
  ·split at h
   ·rename_i h60 ho;have ho':ownP w t p=true:=by unfold okP at ho;simp only[xad] at ho;exact ho.1
    cases hk:(zaO (zat w n) (decide (p.op=5)) (zaa w t p) p.kids 0 (zax t p) (c+1)).1 with
    |none=>unfold finV at h;rw[hk] at h;simp only at h;rw[hk] at h;cases h
    |some m=>
     have hi:InR m:=zh7 (fun t p c l h=>(zlo w n t p c l h).1) _ _ _ _ _ m (fun v hv=>by
      unfold zax at hv;split at hv
      ·rename_i hop;simp only[List.mem_cons,xau,or_false] at hv;subst hv;exact zh2 ho' hop
      ·simp at hv) hk
     unfold finV at h;rw[hk] at h;simp only at h;split at h
     ·rename_i hn;rw[hk] at h;cases h
      exact⟨hi,hn⟩
     ·cases h
   ·cases h
theorem znC (w:List Data) (n:Nat) (t:Ty) (p:Pat) (c:Int) (h:(zat w n t p c).1.isSome=true):c+1<=(zat w n t p c).2/\(zat w n t p c).2<=60:=by
 have h1:=zdV w n t p c;by_cases hw:zbb w n t p c=true
 ·have h2:=h1.2 hw;simp only[zbb,xad,xah] at hw;have:=xaS p;omega
 ·rw[if_neg hw] at h1;rw[h1.1] at h;cases h
def zco (o:Option (List Vt)):List Vt:=o.getD []
theorem zmf {g:Ty->Pat->Int->Option (List Vt)×Int}{or:Bool}{a:List Ty}{b:List Pat}{i:Nat}{acc:List Vt}{c:Int} (ha:i<a.length) (hl:b.length=a.length) (h:(g (nth a i) (nth b i) c).1.isSome=false):
  zaO g or (a.drop i) (b.drop i) i acc c=(none,(g (nth a i) (nth b i) c).2):=by
 rw[zbh ha,zbh (l:=b) oc,zaO];cases hh:(g (nth a i) (nth b i) c).1 with
 |none=>rfl
 |some l=>rw[hh] at h;cases h
theorem znc {g:Ty->Pat->Int->Option (List Vt)×Int}{or:Bool}{a:List Ty}{b:List Pat}{i:Nat}{acc:List Vt}{c:Int} (ha:i<a.length) (hl:b.length=a.length) (h:(g (nth a i) (nth b i) c).1.isSome=true) (ho:or=true/\i=1) (hs:zcX acc (zco (g (nth a i) (nth b i) c).1)=false):
  zaO g or (a.drop i) (b.drop i) i acc c=(none,(g (nth a i) (nth b i) c).2):=by
 rw[zbh ha,zbh (l:=b) oc,zaO];cases hh:(g (nth a i) (nth b i) c).1 with
 |none=>rfl
 |some l=>rw[hh] at hs;simp only[zco,Option.getD_some] at hs;simp only[if_pos ho,hs,Bool.false_eq_true,if_false]
theorem zme {g:Ty->Pat->Int->Option (List Vt)×Int}{or:Bool}{a:List Ty}{b:List Pat}{i:Nat}{acc:List Vt}{c:Int} (ha:i<a.length) (hl:b.length=a.length) (h:(g (nth a i) (nth b i) c).1.isSome=true) (hs:(or=true/\i=1)->zcX acc (zco (g (nth a i) (nth b i) c).1)=true):
  zaO g or (a.drop i) (b.drop i) i acc c=zaO g or (a.drop (i+1)) (b.drop (i+1)) (i+1) (if or=true/\i=1 then acc else acc++zco (g (nth a i) (nth b i) c).1) (g (nth a i) (nth b i) c).2:=by
 rw[zbh ha,zbh (l:=b) oc,zaO];cases hh:(g (nth a i) (nth b i) c).1 with
 |none=>rw[hh] at h;cases h
 |some l=>
  by_cases ho:or=true/\i=1
  ·have:=hs ho;rw[hh] at this;simp only[zco,Option.getD_some] at this;simp only[if_pos ho,this,if_true]
  ·simp only[if_neg ho,zco,Option.getD_some]
theorem znd {g:Ty->Pat->Int->Option (List Vt)×Int}{or:Bool}{a:List Ty}{b:List Pat}{i:Nat}{acc:List Vt}{c:Int} (ha:a.length<=i):zaO g or (a.drop i) (b.drop i) i acc c=(some acc,c):=by
 rw[List.drop_eq_nil_of_le ha,zaO];intro a r b s h;cases h
theorem zdW (w:List Data) (n:Nat) (t:Ty) (p:Pat) (c:Int):InR (zco (zat w n t p c).1)/\(zco (zat w n t p c).1).length<=6:=by
 cases h:(zat w n t p c).1 with
 |none=>exact⟨fun v hv=>by simp[zco] at hv,by simp[zco]⟩
 |some l=>
  have:=zlo w n t p c l h;exact⟨this.1,zm6 this.1 this.2⟩
structure GoodS (w:List Data) (n:Nat) (t:Ty) (p:Pat) (c:Int) (x:Nat×List Vt×Int):Prop where
 le:x.1<=p.kids.length
 eq:zaO (zat w n) (decide (p.op=5)) ((zaa w t p).drop x.1) (p.kids.drop x.1) x.1 x.2.1 x.2.2=zaO (zat w n) (decide (p.op=5)) (zaa w t p) p.kids 0 (zax t p) (c+1)
 lc:(x.1:Int)<=x.2.2
 c0:0<=x.2.2
 c1:x.2.2<=60
 len:x.2.1.length<=1+6*x.1
 inr:InR x.2.1
def zby (w:List Data) (n:Nat) (t:Ty) (p:Pat) (x:Nat×List Vt×Int):Nat×List Vt×Int:=
 (x.1+1,if decide (p.op=5)=true/\x.1=1 then x.2.1 else x.2.1++zco (zat w n (nth (zaa w t p) x.1) (nth p.kids x.1) x.2.2).1,(zat w n (nth (zaa w t p) x.1) (nth p.kids x.1) x.2.2).2)
theorem GoodS.next {w:List Data}{n:Nat}{t:Ty}{p:Pat}{c:Int}{x:Nat×List Vt×Int} (hl:p.kids.length=(zaa w t p).length) (hg:GoodS w n t p c x) (hlt:x.1<p.kids.length)
  (hz:(zat w n (nth (zaa w t p) x.1) (nth p.kids x.1) x.2.2).1.isSome=true) (hs:(decide (p.op=5)=true/\x.1=1)->zcX x.2.1 (zco (zat w n (nth (zaa w t p) x.1) (nth p.kids x.1) x.2.2).1)=true):
  GoodS w n t p c (zby w n t p x):=by
 obtain⟨h1,h2,h3,h4,h5,h6,h7⟩:=hg;have hb:=znC w n _ _ _ hz;have ho:=zdW w n (nth (zaa w t p) x.1) (nth p.kids x.1) x.2.2;refine⟨by unfold zby;dsimp only;omega, ?_,by unfold zby;dsimp only;omega,by unfold zby;dsimp only;omega,by unfold zby;dsimp only;omega, ?_, ?_⟩
 ·rw[<-h2,zme oc hl hz hs];rfl
 ·unfold zby;dsimp only;split
  ·omega
  ·rw[xaa];omega
 ·unfold zby;dsimp only;split
  ·exact h7
  ·intro v hv;rcases List.mem_append.1 hv with hv|hv
   ·exact h7 v hv
   ·exact ho.1 v hv
theorem GoodS.none {w:List Data}{n:Nat}{t:Ty}{p:Pat}{c:Int}{x:Nat×List Vt×Int} (hl:p.kids.length=(zaa w t p).length) (hg:GoodS w n t p c x) (hlt:x.1<p.kids.length)
  (hz:(zat w n (nth (zaa w t p) x.1) (nth p.kids x.1) x.2.2).1.isSome=false):
  finV (zaO (zat w n) (decide (p.op=5)) (zaa w t p) p.kids 0 (zax t p) (c+1))=(none,(zat w n (nth (zaa w t p) x.1) (nth p.kids x.1) x.2.2).2):=by
 rw[<-hg.eq,zmf oc hl hz];rfl
theorem GoodS.bad {w:List Data}{n:Nat}{t:Ty}{p:Pat}{c:Int}{x:Nat×List Vt×Int} (hl:p.kids.length=(zaa w t p).length) (hg:GoodS w n t p c x) (hlt:x.1<p.kids.length)
  (hz:(zat w n (nth (zaa w t p) x.1) (nth p.kids x.1) x.2.2).1.isSome=true) (ho:p.op=5/\x.1=1) (hs:zcX x.2.1 (zco (zat w n (nth (zaa w t p) x.1) (nth p.kids x.1) x.2.2).1)=false):
  finV (zaO (zat w n) (decide (p.op=5)) (zaa w t p) p.kids 0 (zax t p) (c+1))=(Option.none,(zat w n (nth (zaa w t p) x.1) (nth p.kids x.1) x.2.2).2):=by
 rw[<-hg.eq,znc oc hl hz (by simpa using ho) hs];rfl
theorem GoodS.fin {w:List Data}{n:Nat}{t:Ty}{p:Pat}{c:Int}{x:Nat×List Vt×Int} (hl:p.kids.length=(zaa w t p).length) (hg:GoodS w n t p c x) (hge:p.kids.length<=x.1):
  finV (zaO (zat w n) (decide (p.op=5)) (zaa w t p) p.kids 0 (zax t p) (c+1))=(if zbO x.2.1=true then some x.2.1 else Option.none,x.2.2):=by
 rw[<-hg.eq,znd oc];unfold finV;simp only;split<;>rfl
theorem zm5 {pre rest l:List Vt}{y:Vt} (h:pre++y::rest=l) (hm:y.var∈pre.map Vt.var):zbO l=false:=by
 unfold zbO;refine xaw (fun hn=>?_);rw[<-h,xag,xaf,List.nodup_append] at hn;exact hn.2.2 _ hm _ oe Z
theorem ziX {pre:List Vt}{y:Vt} (h:(pre.map Vt.var).Nodup) (hm:y.var∉pre.map Vt.var):((pre++[y]).map Vt.var).Nodup:=by
 rw[xag,List.nodup_append];exact⟨h,by simp,fun a ha b hb=>by simp at hb;subst hb;exact fun e=>hm (e ▸ ha)⟩
def retV (r:Option (List Vt)×Int):AV:= .tup [.d (zaU (zco r.1)),.d (.bool r.1.isSome)]
theorem zcH {w:List Data} (hw:WT w):∀(n:Nat){a k d c:Int}{p:Pat},d+n=11->n<=10->TyIn w.length ⟨a,k⟩->p.ok->0<=c->c<=1000000000000->
  FnD Tryz.prog 217 [.d (zae w),.agg [.d (.i a),.d (.i k)],.agg [.d (.i p.op),.d (.i p.ctor),.d (.i p.n),.d (.i p.m),.d (.i p.var),.d (zal p.kids)],.d (.i d),.ref 950 0] [(950,some (.box [.d (.i c)]))]
   (retV (zat w n ⟨a,k⟩ p c)) [(950,some (.box [.d (.i (zat w n ⟨a,k⟩ p c).2)]))]
 |0,a,k,d,c,p,hd,_,_,_,c0,c1=>by
  refine bd Tryz.f217 114 [] [2] fun _ _ _ _ hk=>?_;refine bx 3006 ?_;refine bx 3007 ?_;refine ev (ar (so ty3 ?_));apply tv;refine xaA (xa6 8 [(34,.d (.bool true))] [27,28,29,30,31,32,33] ?_ ?_);refine ev ?_;apply sq<;>intro h1 h1p h1s;exact jnb Z;exact jnb Z;refine xa5 ?_;apply tv;apply sq<;>intro h2 h2p h2s;refine rn [(950,some (.box [.d (.i (zat w 0 ⟨a,k⟩ p c).2)]))] (r2 Z Z) (.tup (qne ?_ ?_)) ⟨Z,Z⟩ (SubO.get ⟨.inr ?_,⟨.inl Z,O⟩⟩) (zbk Z);rotate_left 3;exact absurd h2 oe;all_goals (first|((rfl);done)|(rfl))
 |n+1,a,k,d,c,p,hd,hn,ht,hok,c0,c1=>by
  by_cases h60:60<c+1
  ·have e:zat w (n+1) ⟨a,k⟩ p c=(none,c+1):=by unfold zat;rw[if_pos h60]
   rw[e];refine bd Tryz.f217 114 [] [2] fun _ _ _ _ hk=>?_;refine bx 3006 ?_;refine bx 3007 ?_;refine ev (ar (so ty3 ?_));apply tv;refine xaA (xa6 8 [(34,.d (.bool true))] [27,28,29,30,31,32,33] ?_ ?_);refine ev ?_;apply sq<;>intro h1 h1p h1s;exact jnb Z;exact jnb Z;refine xa5 ?_;apply tv;apply sq<;>intro h2 h2p h2s;refine rn [(950,some (.box [.d (.i (c+1))]))] (r2 Z Z) (.tup (qne ?_ ?_)) ⟨Z,Z⟩ (SubO.get ⟨.inr ?_,⟨.inl Z,O⟩⟩) (zbk Z);rotate_left 3;exact absurd h2 oe;all_goals (first|((rfl);done)|(rfl))
  have hsh:=zgf hw (p:=p) ht;by_cases hop:okP w ⟨a,k⟩ p=true
  ·have hok':=hok;rw[xaR] at hok;have hop':=hop;unfold okP at hop';simp only[xad,xah] at hop';obtain⟨ho,hl⟩:=hop';have hin:=zcy hw ht ho;have hlen:=zeD hw ht (zbM ho);have hst:zbP w ⟨a,k⟩ p=zaa w ⟨a,k⟩ p:=by unfold zbP;rw[if_neg (fun h=>h.2 (zbM ho h.1))]
   rw[hst,hop] at hsh;have e:zat w (n+1) ⟨a,k⟩ p c=finV (zaO (zat w n) (decide (p.op=5)) (zaa w ⟨a,k⟩ p) p.kids 0 (zax ⟨a,k⟩ p) (c+1)):=by
    conv=>lhs;unfold zat
    rw[if_neg h60,if_pos hop]
   have hnr:InR (zax ⟨a,k⟩ p):=fun v hv=>by
    unfold zax at hv;split at hv
    ·rename_i hop;simp only[List.mem_cons,xau,or_false] at hv;subst hv;exact zh2 ho hop
    ·simp at hv
   have hnl:=zm4 ⟨a,k⟩ p;rw[e];refine bd Tryz.f217 114 [14,108] [2,8,17] fun _ _ _ _ hk=>?_;refine bx 3006 ?_;refine bx 3007 ?_;refine evs [14,108] [] (ar (so ty3 ?_));apply tv;refine xaA (xa6 8 [(34,.d (.bool false))] [27,28,29,30,31,32,33] ?_ ?_);refine evs [14,108] [] ?_;apply sq<;>intro h1 h1p h1s;exact jnb Z;exact jnb Z;refine xa5 ?_;apply tv;apply sq<;>intro h2 h2p h2s;exact absurd h2 oe;refine wc zkR hsh Z Z ?_;refine evs [14,108] [] ?_;apply sq<;>intro h3 h3p h3s;exact absurd h3 oe;refine xa7 5 3 .none Z Z ?_;apply tv;refine xaA (xa6 8 [(51,.d (.bool (decide (p.op=2\/p.op=6))))] [44,45,46,47,48,49,50] ?_ ?_);refine evs [14,108] [] ?_;apply sq<;>intro h4 h4p h4s;exact jnb Z;exact jnb Z;refine xa5 ?_;apply tv;apply sq<;>intro h5 h5p h5s;refine bu [0,1] [_,_] zmh ?_;refine si [0] [_] sl36 zkE ?_;refine ap sl36 zkF Z Z Z oe (by(simp;done)) ?_;refine asg ?_;apply tv;refine xaz (ι:=Nat×List Vt×Int) hk (fun z=>[(62,.d (.i (z.1:Int))),(14,.gl 5 (z.2.1.map Vt.c))]) [10,11,15,16,17,18,63,64,65,66,67,68,69,70,71,72,73,74,75,76,77,78,79,80,81,82,83,84,85,86,87,88,89,90,91,92,93,94,95,96,97,98] (fun z=>[(950,some (.box [.d (.i z.2.2)])),(5,some (.tok ((z.2.1.map Vt.c)).length 3))]) (fun z=>GoodS w n ⟨a,k⟩ p c z) (fun z=>p.kids.length-z.1) (0,zax ⟨a,k⟩ p,c+1) ⟨by simp,by simp,by dsimp only;omega,by dsimp only;omega,by dsimp only;omega,by dsimp only;omega,hnr⟩ ⟨⟨_,Z,xaL ?_⟩,⟨⟨_,Z,LeA.glg ?_⟩,O⟩⟩ ⟨?_,⟨zai ?_,O⟩⟩ (fun x=>rfl) (fun z hg1=>?_);iterate 2 focus (first|rfl|(simp_all[zax];done))
   focus (first|rfl|(simp[getH];done))
   focus (first|rfl|(simp_all[zax];done))
   obtain⟨s1,_,s3,s4,s5,s6,s7⟩:=id hg1;refine evc [14,108] [2,8,17] ?_;apply sq<;>intro h6 h6p h6s<;>(try simp only[Q,xaP] at h6p);refine ixq sl58 Z Z Z (zba oc) Z ?_;refine evs [14,108] [] (ab 3016 tz60 ?_);refine evs [14,108] [] (so ty60 ?_);apply tv;refine ixq zau Z Z Z (zaf oc) Z ?_;refine evd [14,108] [] (ar (wd zkO (zcH hw n (a:=(nth (zaa w ⟨a,k⟩ p) z.1).data) (k:=(nth (zaa w ⟨a,k⟩ p) z.1).index) (c:=z.2.2) (p:=nth p.kids z.1) oc oc (hin _ (zad oc)) (xaT hok.2 _ (zad oc)) oc oc) Z Z ⟨Z,O⟩ ?_));refine evd [14,108] [] (dr ?_);apply sq<;>intro h7 h7p h7s;refine rn [(950,some (.box [.d (.i (finV (zaO (zat w n) (decide (p.op=5)) (zaa w ⟨a,k⟩ p) p.kids 0 (zax ⟨a,k⟩ p) (c+1))).2)]))] (r2 Z Z) (.tup (qne ?_ ?_)) ⟨Z,Z⟩ (SubO.get ⟨.inr ?_,⟨.inl Z,O⟩⟩) (zbk Z);rotate_left 3;refine xaA (xa6 7 [(93,.d (.bool (decide (p.op=5/\z.1=1))))] [87,88,89,90,91,92] ?_ ?_);refine evs [14,108] [] ?_;apply sq<;>intro h8 h8p h8s;exact jnb Z;exact jnb Z;refine xa5 (evs [14,108] [] ?_);apply sq<;>intro h9 h9p h9s<;>(try simp only[Q,xaP] at h9p);refine Walk.call (cr:=[]) zmG (zeV oc (by have hz:=(zdW w n ⟨(nth (zaa w ⟨a,k⟩ p) z.1).data,(nth (zaa w ⟨a,k⟩ p) z.1).index⟩ (nth p.kids z.1) z.2.2).2;omega)) Z .none Z Z (.cons (.gl _ _) (.cons (.refl _) .nil)) O Z Z Z ?_;refine evs [14,108] [] ?_;apply sq<;>intro h10 h10p h10s<;>(try simp only[Q,xaP] at h10p);refine rn [(950,some (.box [.d (.i (finV (zaO (zat w n) (decide (p.op=5)) (zaa w ⟨a,k⟩ p) p.kids 0 (zax ⟨a,k⟩ p) (c+1))).2)]))] (r2 Z Z) (.tup (qne ?_ ?_)) ⟨Z,Z⟩ (SubO.get ⟨.inr ?_,⟨.inl Z,O⟩⟩) (zbk Z);rotate_left 3;refine ar (xaj ((zby w n ⟨a,k⟩ p z)) ⟨(hg1.next hl oc ol (fun ho=>by simp_all)),(by unfold zby;dsimp only;omega),sx ⟨⟨_,Z,xaL ?_⟩,⟨⟨_,Z,LeA.glg ?_⟩,O⟩⟩ ⟨?_,⟨zai ?_,O⟩⟩⟩);iterate 2 focus (first|rfl|(simp_all[zax];done))
   focus (first|rfl|(simp[getH];done))
   focus (first|rfl|(simp_all[zax];done))
   refine ap sl36 zkF Z Z Z oe (by first|(simp;done)|(have hz:=(zdW w n ⟨(nth (zaa w ⟨a,k⟩ p) z.1).data,(nth (zaa w ⟨a,k⟩ p) z.1).index⟩ (nth p.kids z.1) z.2.2).2;simp;omega)) ?_;refine asg ?_;apply tv;refine ar (xaj ((zby w n ⟨a,k⟩ p z)) ⟨(hg1.next hl oc ol (fun ho=>by simp_all)),(by unfold zby;dsimp only;omega),sx ⟨⟨_,Z,xaL ?_⟩,⟨⟨_,Z,LeA.glg ?_⟩,O⟩⟩ ⟨?_,⟨zai ?_,O⟩⟩⟩);iterate 2 focus (first|rfl|(simp_all[zax];done)|(unfold zby;dsimp only;rw[if_neg ol];simp;done))
   focus (first|rfl|(simp[getH];done))
   focus (first|rfl|(simp_all[zax];done)|(unfold zby;dsimp only;rw[if_neg ol];simp;done))
   refine ab 3019 zmj ?_;apply tv;refine xaz (ι:=List (Vt)×List (Vt)) hk (fun x=>[(101,.d (.i (x.1.length:Int)))]) [10,11,21,102,103,104,105,106,107,108,109,110,111,112] (fun x=>[(3019,some (.box (metA (x.1.map Vt.var))))]) (fun x=>x.1++x.2=z.2.1/\(x.1.map Vt.var).Nodup) (fun x=>x.2.length) ([],z.2.1) ⟨by simp,by simp⟩ ⟨⟨_,Z,xaL ?_⟩,O⟩ ⟨?_,O⟩ (fun x=>rfl) (fun x hg2=>?_);focus (first|rfl|omega)
   focus (first|rfl|(simp[getH];done))
   obtain⟨pre,rest⟩:=x;dsimp only at hg2 ⊢;refine evc [14,108] [2,8,17] ?_;apply sq<;>intro h11 h11p h11s<;>(try simp only[Q,xaP] at h11p);rcases rest with _|⟨y,rest⟩
   ·exfalso;simp_all
   have hy:=s7 y (by rw[<-hg2.1];simp);refine xbj sl36 .none Z Z Z Z (zaE hg2.1) Z (evs [14,108] [] (ab 3021 zkE ?_));refine so znX ?_;apply tv;refine xbi (i:=y.var.toNat) zkx .none Z Z Z (Int.toNat_of_nonneg hy.1).symm oc ?_;refine xbm ty4 .none Z Z Z ((by simpa using zlf hy.1 hy.2)) ?_;apply tv;apply sq<;>intro h12 h12p h12s<;>(try simp only[Q,xaP] at h12p);refine rn [(950,some (.box [.d (.i (finV (zaO (zat w n) (decide (p.op=5)) (zaa w ⟨a,k⟩ p) p.kids 0 (zax ⟨a,k⟩ p) (c+1))).2)]))] (r2 Z Z) (.tup (qne ?_ ?_)) ⟨Z,Z⟩ (SubO.get ⟨.inr ?_,⟨.inl Z,O⟩⟩) (zbk Z);rotate_left 3;refine xbi (i:=y.var.toNat) zkx .none Z Z Z (Int.toNat_of_nonneg hy.1).symm oc ?_;refine Walk.store ty4 .none Z Z Z Z Z Z oe ((by simpa using zlg hy.1 hy.2)) ?_;apply tv;refine ar (xaj ((pre++[y],rest)) ⟨⟨(by have hz:=hg2.1;rw[<-hz];simp),(ziX hg2.2 ol)⟩,oe,sx ⟨⟨_,Z,xaL ?_⟩,O⟩ ⟨?_,O⟩⟩);focus (first|rfl|(simp;done)|omega)
   focus (first|rfl|(simp[getH];done))
   have hrest:rest=[]:=by
    rcases rest with _|⟨a,b⟩
    ·rfl
    ·exfalso;have hz:=xam List.length (hg2.1);simp only[xaa,xab,xac] at hz;omega
   subst hrest;refine rn [(950,some (.box [.d (.i (finV (zaO (zat w n) (decide (p.op=5)) (zaa w ⟨a,k⟩ p) p.kids 0 (zax ⟨a,k⟩ p) (c+1))).2)]))] (r2 Z Z) (.tup (qge ?_ ?_)) ⟨Z,Z⟩ (SubO.get ⟨.inr ?_,⟨.inl Z,O⟩⟩) (zbk Z);rotate_left 3;try simp only[Q,xaP] at h5p
   refine xaz (ι:=Nat×List Vt×Int) hk (fun z=>[(62,.d (.i (z.1:Int))),(14,.gl 5 (z.2.1.map Vt.c))]) [10,11,15,16,17,18,63,64,65,66,67,68,69,70,71,72,73,74,75,76,77,78,79,80,81,82,83,84,85,86,87,88,89,90,91,92,93,94,95,96,97,98] (fun z=>[(950,some (.box [.d (.i z.2.2)])),(5,some (.tok ((z.2.1.map Vt.c)).length 3))]) (fun z=>GoodS w n ⟨a,k⟩ p c z) (fun z=>p.kids.length-z.1) (0,zax ⟨a,k⟩ p,c+1) ⟨by simp,by simp,by dsimp only;omega,by dsimp only;omega,by dsimp only;omega,by dsimp only;omega,hnr⟩ ⟨⟨_,Z,xaL ?_⟩,⟨⟨_,Z,LeA.glg ?_⟩,O⟩⟩ ⟨?_,⟨zai ?_,O⟩⟩ (fun x=>rfl) (fun z hg1=>?_);iterate 2 focus (first|rfl|(simp_all[zax];done))
   focus (first|rfl|(simp[getH];done))
   focus (first|rfl|(simp_all[zax];done))
   obtain⟨s1,_,s3,s4,s5,s6,s7⟩:=id hg1;refine evc [14,108] [2,8,17] ?_;apply sq<;>intro h13 h13p h13s<;>(try simp only[Q,xaP] at h13p);refine ixq sl58 Z Z Z (zba oc) Z ?_;refine evs [14,108] [] (ab 3016 tz60 ?_);refine evs [14,108] [] (so ty60 ?_);apply tv;refine ixq zau Z Z Z (zaf oc) Z ?_;refine evd [14,108] [] (ar (wd zkO (zcH hw n (a:=(nth (zaa w ⟨a,k⟩ p) z.1).data) (k:=(nth (zaa w ⟨a,k⟩ p) z.1).index) (c:=z.2.2) (p:=nth p.kids z.1) oc oc (hin _ (zad oc)) (xaT hok.2 _ (zad oc)) oc oc) Z Z ⟨Z,O⟩ ?_));refine evd [14,108] [] (dr ?_);apply sq<;>intro h14 h14p h14s<;>(try simp only[Q,xaP] at h14p);refine rn [(950,some (.box [.d (.i (finV (zaO (zat w n) (decide (p.op=5)) (zaa w ⟨a,k⟩ p) p.kids 0 (zax ⟨a,k⟩ p) (c+1))).2)]))] (r2 Z Z) (.tup (qne ?_ ?_)) ⟨Z,Z⟩ (SubO.get ⟨.inr ?_,⟨.inl Z,O⟩⟩) (zbk Z);rotate_left 3;refine xaA (xa6 7 [(93,.d (.bool (decide (p.op=5/\z.1=1))))] [87,88,89,90,91,92] ?_ ?_);refine evs [14,108] [] ?_;apply sq<;>intro h15 h15p h15s<;>(try simp only[Q,xaP] at h15p);exact jnb Z;exact jnb Z;refine xa5 (evs [14,108] [] ?_);apply sq<;>intro h16 h16p h16s<;>(try simp only[Q,xaP] at h16p);refine Walk.call (cr:=[]) zmG (zeV oc (by have hz:=(zdW w n ⟨(nth (zaa w ⟨a,k⟩ p) z.1).data,(nth (zaa w ⟨a,k⟩ p) z.1).index⟩ (nth p.kids z.1) z.2.2).2;omega)) Z .none Z Z (.cons (.gl _ _) (.cons (.refl _) .nil)) O Z Z Z ?_;refine evs [14,108] [] ?_;apply sq<;>intro h17 h17p h17s<;>(try simp only[Q,xaP] at h17p);refine rn [(950,some (.box [.d (.i (finV (zaO (zat w n) (decide (p.op=5)) (zaa w ⟨a,k⟩ p) p.kids 0 (zax ⟨a,k⟩ p) (c+1))).2)]))] (r2 Z Z) (.tup (qne ?_ ?_)) ⟨Z,Z⟩ (SubO.get ⟨.inr ?_,⟨.inl Z,O⟩⟩) (zbk Z);rotate_left 3;refine ar (xaj ((zby w n ⟨a,k⟩ p z)) ⟨(hg1.next hl oc ol (fun ho=>by simp_all)),(by unfold zby;dsimp only;omega),sx ⟨⟨_,Z,xaL ?_⟩,⟨⟨_,Z,LeA.glg ?_⟩,O⟩⟩ ⟨?_,⟨zai ?_,O⟩⟩⟩);iterate 2 focus (first|rfl|(simp_all[zax];done)|(unfold zby;dsimp only;rw[if_pos ol];done))
   focus (first|rfl|(simp[getH];done))
   focus (first|rfl|(simp_all[zax];done)|(unfold zby;dsimp only;rw[if_pos ol];done))
   refine ap sl36 zkF Z Z Z oe (by first|(simp;done)|(have hz:=(zdW w n ⟨(nth (zaa w ⟨a,k⟩ p) z.1).data,(nth (zaa w ⟨a,k⟩ p) z.1).index⟩ (nth p.kids z.1) z.2.2).2;simp;omega)) ?_;refine asg ?_;apply tv;refine ar (xaj ((zby w n ⟨a,k⟩ p z)) ⟨(hg1.next hl oc ol (fun ho=>by simp_all)),(by unfold zby;dsimp only;omega),sx ⟨⟨_,Z,xaL ?_⟩,⟨⟨_,Z,LeA.glg ?_⟩,O⟩⟩ ⟨?_,⟨zai ?_,O⟩⟩⟩);iterate 2 focus (first|rfl|(simp_all[zax];done)|(unfold zby;dsimp only;rw[if_neg ol];simp;done))
   focus (first|rfl|(simp[getH];done))
   focus (first|rfl|(simp_all[zax];done)|(unfold zby;dsimp only;rw[if_neg ol];simp;done))
   refine ab 3019 zmj ?_;apply tv;refine xaz (ι:=List (Vt)×List (Vt)) hk (fun x=>[(101,.d (.i (x.1.length:Int)))]) [10,11,21,102,103,104,105,106,107,108,109,110,111,112] (fun x=>[(3019,some (.box (metA (x.1.map Vt.var))))]) (fun x=>x.1++x.2=z.2.1/\(x.1.map Vt.var).Nodup) (fun x=>x.2.length) ([],z.2.1) ⟨by simp,by simp⟩ ⟨⟨_,Z,xaL ?_⟩,O⟩ ⟨?_,O⟩ (fun x=>rfl) (fun x hg2=>?_);focus (first|rfl|omega)
   focus (first|rfl|(simp[getH];done))
   obtain⟨pre,rest⟩:=x;dsimp only at hg2 ⊢;refine evc [14,108] [2,8,17] ?_;apply sq<;>intro h18 h18p h18s<;>(try simp only[Q,xaP] at h18p);rcases rest with _|⟨y,rest⟩
   ·exfalso;simp_all
   have hy:=s7 y (by rw[<-hg2.1];simp);refine xbj sl36 .none Z Z Z Z (zaE hg2.1) Z (evs [14,108] [] (ab 3021 zkE ?_));refine so znX ?_;apply tv;refine xbi (i:=y.var.toNat) zkx .none Z Z Z (Int.toNat_of_nonneg hy.1).symm oc ?_;refine xbm ty4 .none Z Z Z ((by simpa using zlf hy.1 hy.2)) ?_;apply tv;apply sq<;>intro h19 h19p h19s<;>(try simp only[Q,xaP] at h19p);refine rn [(950,some (.box [.d (.i (finV (zaO (zat w n) (decide (p.op=5)) (zaa w ⟨a,k⟩ p) p.kids 0 (zax ⟨a,k⟩ p) (c+1))).2)]))] (r2 Z Z) (.tup (qne ?_ ?_)) ⟨Z,Z⟩ (SubO.get ⟨.inr ?_,⟨.inl Z,O⟩⟩) (zbk Z);rotate_left 3;refine xbi (i:=y.var.toNat) zkx .none Z Z Z (Int.toNat_of_nonneg hy.1).symm oc ?_;refine Walk.store ty4 .none Z Z Z Z Z Z oe ((by simpa using zlg hy.1 hy.2)) ?_;apply tv;refine ar (xaj ((pre++[y],rest)) ⟨⟨(by have hz:=hg2.1;rw[<-hz];simp),(ziX hg2.2 ol)⟩,oe,sx ⟨⟨_,Z,xaL ?_⟩,O⟩ ⟨?_,O⟩⟩);focus (first|rfl|(simp;done)|omega)
   focus (first|rfl|(simp[getH];done))
   have hrest:rest=[]:=by
    rcases rest with _|⟨a,b⟩
    ·rfl
    ·exfalso;have hz:=xam List.length (hg2.1);simp only[xaa,xab,xac] at hz;omega
   subst hrest;refine rn [(950,some (.box [.d (.i (finV (zaO (zat w n) (decide (p.op=5)) (zaa w ⟨a,k⟩ p) p.kids 0 (zax ⟨a,k⟩ p) (c+1))).2)]))] (r2 Z Z) (.tup (qge ?_ ?_)) ⟨Z,Z⟩ (SubO.get ⟨.inr ?_,⟨.inl Z,O⟩⟩) (zbk Z);rotate_left 3;all_goals (((first|(rw[hg1.none hl oc oh];first|done|rfl)|(rw[hg1.bad hl oc oh oh oh];first|done|rfl)|(rw[hg1.fin hl oc,if_neg (by rw[zm5 hg2.1 oh];simp)];first|done|rfl)|(rw[hg1.fin hl oc,if_pos (by have hz:=hg2.1;rw[xaq] at hz;rw[<-hz];exact xax hg2.2)];first|done|rfl));done))
  ·have hopf:okP w ⟨a,k⟩ p=false:=by simpa using hop
   have e:zat w (n+1) ⟨a,k⟩ p c=(none,c+1):=by unfold zat;rw[if_neg h60,if_neg hop]
   rw[e];rw[hopf] at hsh;refine bd Tryz.f217 114 [] [2] fun _ _ _ _ hk=>?_;refine bx 3006 ?_;refine bx 3007 ?_;refine ev (ar (so ty3 ?_));apply tv;refine xaA (xa6 8 [(34,.d (.bool false))] [27,28,29,30,31,32,33] ?_ ?_);refine ev ?_;apply sq<;>intro h1 h1p h1s;exact jnb Z;exact jnb Z;refine xa5 ?_;apply tv;apply sq<;>intro h2 h2p h2s;exact absurd h2 oe;refine wc zkR hsh Z Z ?_;refine ev ?_;apply sq<;>intro h3 h3p h3s;refine rn [(950,some (.box [.d (.i (c+1))]))] (r2 Z Z) (.tup (qne ?_ ?_)) ⟨Z,Z⟩ (SubO.get ⟨.inr ?_,⟨.inl Z,O⟩⟩) (zbk Z);rotate_left 3;exact absurd h3 oe;all_goals (first|((rfl);done)|(rfl))
theorem zp7 (w:List Data) (t:Ty) (p:Pat):(zat w 10 t p 0).1.isSome=isP w t p:=by
 have h:=(zdV w 10 t p 0).1;rw[h];unfold zbb isP;rw[Int.zero_add];split
 ·rename_i hz;rw[hz];rfl
 ·rename_i hz;cases hc:(zaj w 10 t p&&(decide ((p.size:Int)<=60)&&linP w 10 t p)) with
  |true=>exact absurd hc hz
  |false=>rfl
theorem zdK {w:List Data} (hw:WT w){a k:Int}{p:Pat} (ht:TyIn w.length ⟨a,k⟩) (hok:p.ok):
  FnD Tryz.prog 131 [.d (zae w),.agg [.d (.i a),.d (.i k)],.agg [.d (.i p.op),.d (.i p.ctor),.d (.i p.n),.d (.i p.m),.d (.i p.var),.d (zal p.kids)]] [] (.tup [.d (zaU (zco (zat w 10 ⟨a,k⟩ p 0).1)),.d (.bool (isP w ⟨a,k⟩ p))]) []:=by
 rw[<-zp7];refine bd Tryz.f131 15 [] [] fun _ _ _ _ hk=>?_;refine bx 3004 ?_;refine bx 3005 ?_;refine ev (ab 950 tz3 ?_);refine so ty3 ?_;apply tv;refine wd zkO (zcH hw 10 (c:=0) oc oc ht hok oc oc) Z Z ⟨Z,O⟩ ?_;refine ev (rn0 (r2 Z Z) (.tup (qee ?_ ?_)));rotate_left 2;all_goals (rfl)
set_option maxHeartbeats 2000000
def ze5 (a b:Ty):Bool:=decide (a.data=b.data)&&(decide (b.index=0)||decide (a.index=b.index))
def zak (w:List Data) (funs:List Ft) (t:Ty) (e:Ex):List Ty:=
 if e.op=3 then (if e.n=0/\e.ctor∈zaA w t then zan w t e.ctor else [])
 else if e.op=4 then [t,t]
 else if e.op=5 then (if 0<=e.n/\e.n<(funs.length:Int)/\e.ctor=0 then [(nth funs e.n.toNat).arg] else [])
 else []
def zd8 (vars:List Vt) (n:Int):Ty:=if 0<=zaF vars n then (nth vars (zaF vars n).toNat).ty else ⟨0,0⟩
def okE (w:List Data) (funs:List Ft) (vars:List Vt) (t:Ty) (e:Ex):Bool:=
 if e.op=1 then decide (t.data = -1/\0<=e.n/\e.n<=9/\e.ctor=0)
 else if e.op=2 then decide (0<=zaF vars e.n)&&(ze5 (zd8 vars e.n) t&&decide (e.ctor=0))
 else if e.op=3 then decide (e.n=0/\e.ctor∈zaA w t)
 else if e.op=4 then decide (t.data = -1/\e.n=0/\e.ctor=0)
 else if e.op=5 then decide (0<=e.n/\e.n<(funs.length:Int)/\e.ctor=0)&&ze5 (nth funs e.n.toNat).res t
 else false
section
variable {w:List Data}{funs:List Ft}{vars:List Vt}{t:Ty}{e:Ex}
theorem ty_0 (h:e.op≠3/\e.op≠4/\e.op≠5):zak w funs t e=[]:=by unfold zak;rw[if_neg h.1,if_neg h.2.1,if_neg h.2.2]
theorem ty_3 (h:e.op=3) (h2:e.n=0) (h3:e.ctor∈zaA w t):zak w funs t e=zan w t e.ctor:=by unfold zak;rw[if_pos h,if_pos ⟨h2,h3⟩]
theorem znZ (h:e.op=3) (h2:e.n≠0):zak w funs t e=[]:=by unfold zak;rw[if_pos h,if_neg (fun hh=>h2 hh.1)]
theorem znY (h:e.op=3) (h2:e.ctor∉zaA w t):zak w funs t e=[]:=by unfold zak;rw[if_pos h,if_neg (fun hh=>h2 hh.2)]
theorem ty_4 (h:e.op=4):zak w funs t e=[t,t]:=by unfold zak;rw[if_neg oc,if_pos h]
theorem ty_5 (h:e.op=5) (h2:0<=e.n/\e.n<(funs.length:Int)/\e.ctor=0):zak w funs t e=[(nth funs e.n.toNat).arg]:=by unfold zak;rw[if_neg oc,if_neg oc,if_pos h,if_pos h2]
theorem zhn (h:e.op=5) (h2:¬(0<=e.n/\e.n<(funs.length:Int)/\e.ctor=0)):zak w funs t e=[]:=by unfold zak;rw[if_neg oc,if_neg oc,if_pos h,if_neg h2]
theorem ok_1 (h:e.op=1):okE w funs vars t e=decide (t.data = -1/\0<=e.n/\e.n<=9/\e.ctor=0):=by unfold okE;rw[if_pos h]
theorem ok_2 (h:e.op=2):okE w funs vars t e=(decide (0<=zaF vars e.n)&&(ze5 (zd8 vars e.n) t&&decide (e.ctor=0))):=by unfold okE;rw[if_neg oc,if_pos h]
theorem ok_3 (h:e.op=3):okE w funs vars t e=decide (e.n=0/\e.ctor∈zaA w t):=by unfold okE;rw[if_neg oc,if_neg oc,if_pos h]
theorem ok_4 (h:e.op=4):okE w funs vars t e=decide (t.data = -1/\e.n=0/\e.ctor=0):=by unfold okE;rw[if_neg oc,if_neg oc,if_neg oc,if_pos h]
theorem ok_5 (h:e.op=5):okE w funs vars t e=(decide (0<=e.n/\e.n<(funs.length:Int)/\e.ctor=0)&&ze5 (nth funs e.n.toNat).res t):=by unfold okE;rw[if_neg oc,if_neg oc,if_neg oc,if_neg oc,if_pos h]
theorem ok_0 (h:e.op≠1/\e.op≠2/\e.op≠3/\e.op≠4/\e.op≠5):okE w funs vars t e=false:=by unfold okE;rw[if_neg h.1,if_neg h.2.1,if_neg h.2.2.1,if_neg h.2.2.2.1,if_neg h.2.2.2.2]
end
def zc8 (w:List Data) (funs:List Ft) (vars:List Vt) (t:Ty) (e:Ex):Bool:=okE w funs vars t e&&decide ((zak w funs t e).length=e.kids.length)
def zaS (w:List Data) (funs:List Ft) (vars:List Vt):Nat->Ty->Ex->Bool
 |0,_,_=>false
 |n+1,t,e=>zc8 w funs vars t e&&all2 (zaS w funs vars n) (zak w funs t e) e.kids
def zbR (g:Ty->Ex->Int->Bool×Int):List Ty->List Ex->Int->Bool×Int
 |a::r,b::s,c=>if (g a b c).1 then zbR g r s (g a b c).2 else (false,(g a b c).2)
 |_,_,c=>(true,c)
def zaL (w:List Data) (funs:List Ft) (vars:List Vt):Nat->Ty->Ex->Int->Bool×Int
 |0,_,_,c=>(false,c+1)
 |n+1,t,e,c=>if 60<c+1 then (false,c+1)
   else if zc8 w funs vars t e=true then zbR (zaL w funs vars n) (zak w funs t e) e.kids (c+1) else (false,c+1)
theorem zlm {w:List Data}{funs:List Ft}{vars:List Vt}{n:Nat} (ih:∀t e c,(zaL w funs vars n t e c).1=(zaS w funs vars n t e&&decide (c+(e.size:Int)<=60))/\((zaL w funs vars n t e c).1=true->(zaL w funs vars n t e c).2=c+e.size)):
  ∀(a:List Ty) (b:List Ex) (c:Int),a.length=b.length->c<=60->(zbR (zaL w funs vars n) a b c).1=(all2 (zaS w funs vars n) a b&&decide (c+(Exs.size b:Int)<=60))/\((zbR (zaL w funs vars n) a b c).1=true->(zbR (zaL w funs vars n) a b c).2=c+Exs.size b)
 | [],[],c,_,hc=>by simp[zbR,all2,Exs.size,hc]
 |x::r,y::s,c,hl,hc=>by
  obtain⟨h1,h2⟩:=ih x y c;simp only[zbR,all2,Exs.size];cases hh:(zaL w funs vars n x y c).1 with
  |true=>
   have h3:=h2 hh;rw[hh] at h1;have h4:=h1.symm;simp only[xad,xah] at h4;obtain⟨h5,h6⟩:=zlm ih r s (zaL w funs vars n x y c).2 (by simpa using hl) oc;simp only[if_true];rw[h5];refine⟨?_,fun hx=>?_⟩
   ·rw[h4.1,h3,Bool.true_and];congr 1
    exact decide_eq_decide.2 (by push_cast;omega)
   ·rw[<-h5] at hx;rw[h6 hx,h3];push_cast;omega
  |false=>
   rw[hh] at h1;simp only[Bool.false_eq_true,if_false,false_implies,and_true];have h4:=h1.symm;simp only[Bool.and_eq_false_imp,decide_eq_false_iff_not] at h4;symm
   cases hf:zaS w funs vars n x y with
   |false=>simp
   |true=>
    have:=h4 hf;have h7:¬(c+((y.size+Exs.size s:Nat):Int)<=60):=by push_cast;omega
    simp only[Bool.and_eq_false_imp];intro _;exact xaw h7
 | [],_::_,_,hl,_=>by simp at hl
 |_::_,[],_,hl,_=>by simp at hl
theorem zh6 (w:List Data) (funs:List Ft) (vars:List Vt):∀(n:Nat) (t:Ty) (e:Ex) (c:Int),(zaL w funs vars n t e c).1=(zaS w funs vars n t e&&decide (c+(e.size:Int)<=60))/\((zaL w funs vars n t e c).1=true->(zaL w funs vars n t e c).2=c+e.size)
 |0,t,e,c=>by simp[zaL,zaS]
 |n+1,t,e,c=>by
  have hsz:=xaG e;unfold zaL zaS;by_cases h1:60<c+1
  ·rw[if_pos h1];simp only[Bool.false_eq_true,false_implies,and_true];symm
   simp only[Bool.and_eq_false_imp,decide_eq_false_iff_not];intro _;omega
  ·rw[if_neg h1];by_cases h3:zc8 w funs vars t e=true
   ·rw[if_pos h3,h3,Bool.true_and];have h4:(zak w funs t e).length=e.kids.length:=by
     unfold zc8 at h3;rw[xad] at h3;exact xas h3.2
    obtain⟨h5,h6⟩:=zlm (fun t e c=>zh6 w funs vars n t e c) (zak w funs t e) e.kids (c+1) h4 oc;refine⟨?_,fun hx=>?_⟩
    ·rw[h5];congr 1
     exact decide_eq_decide.2 oc
    ·rw[h6 hx];omega
   ·rw[if_neg h3];simp[h3]
def isE (w:List Data) (funs:List Ft) (vars:List Vt) (t:Ty) (e:Ex):Bool:=zaS w funs vars 10 t e&&decide ((e.size:Int)<=60)
theorem zpx (w:List Data) (funs:List Ft) (vars:List Vt) (t:Ty) (e:Ex):(zaL w funs vars 10 t e 0).1=isE w funs vars t e:=by
 rw[(zh6 w funs vars 10 t e 0).1,Int.zero_add];rfl
mutual
def cntE (m:Int):Ex->Int
 | .mk _ _ _ ks=>zb5 m 1 ks
def zb5 (m n:Int):List Ex->Int
 | []=>n
 |k::r=>if n<=m then zb5 m (n+cntE (m-n) k) r else n
end
theorem zn8 (m:Int) (v:Ex):cntE m v=zb5 m 1 v.kids:=by cases v;rfl
theorem zit {m n:Int}{l:List Ex} (h:¬n<=m):zb5 m n l=n:=by cases l<;>simp[zb5,h]
mutual
theorem zhf:∀(v:Ex) (m:Int),1<=cntE m v/\cntE m v<=v.size
 | .mk _ _ _ ks,m=>by
  have:=zhM ks m 1 oc;simp only[cntE,Ex.size];push_cast;omega
theorem zhM:∀(l:List Ex) (m n:Int),1<=n->1<=zb5 m n l/\zb5 m n l<=n+Exs.size l
 | [],m,n,h=>by simp[zb5,Exs.size];omega
 |k::r,m,n,h=>by
  have h1:=zhf k (m-n);have h2:=zhM r m (n+cntE (m-n) k) oc;simp only[zb5,Exs.size];split
  ·push_cast;omega
  ·push_cast;omega
end
mutual
theorem zkV:∀(v:Ex) (m:Int),(cntE m v<=m↔(v.size:Int)<=m)/\(cntE m v<=m->cntE m v=v.size)
 | .mk _ _ _ ks,m=>by
  have:=zjV ks m 1;simp only[cntE,Ex.size];push_cast;exact this
theorem zjV:∀(l:List Ex) (m n:Int),(zb5 m n l<=m↔n+(Exs.size l:Int)<=m)/\(zb5 m n l<=m->zb5 m n l=n+Exs.size l)
 | [],m,n=>by simp[zb5,Exs.size]
 |k::r,m,n=>by
  have h1:=zkV k (m-n);have h2:=zjV r m (n+cntE (m-n) k);have h3:=zhM r m (n+cntE (m-n) k);have h4:=zhf k (m-n);simp only[zb5,Exs.size];push_cast
  by_cases hn:n<=m
  ·rw[if_pos hn];by_cases h5:cntE (m-n) k<=m-n
   ·have h6:=h1.2 h5;rw[h6] at h2 ⊢;constructor
    ·rw[h2.1];constructor<;>intro h<;>omega
    ·intro h;rw[h2.2 h];omega
   ·have h7:¬(k.size:Int)<=m-n:=fun h=>h5 (h1.1.2 h);have h8:¬n+cntE (m-n) k<=m:=by omega
    rw[zit h8];constructor
    ·constructor<;>intro h<;>omega
    ·intro h;omega
  ·rw[if_neg hn];constructor
   ·constructor<;>intro h<;>omega
   ·intro h;omega
end
theorem zjY {l:List Ex}{i:Nat} (h:i<l.length):(nth l i).size<=Exs.size l:=xaI (zad h)
theorem ziw {l:List Ex}{i:Nat} (h:i<l.length):Exs.size (l.drop i)=(nth l i).size+Exs.size (l.drop (i+1)):=by
 rw[zbh h];rfl
def TyOk (n:Nat) (t:Ty):Prop:=TyIn n t/\(t.data = -1->t.index=0)
def zbx (w:List Data) (l:List Ft):Bool:=decide ((l.length:Int)<=4)&& !l.any fun f=> !(zaI w.length f.arg&&zaI w.length f.res)
def gdOk (g:Gd) (vars:List Vt):Bool:=if g.op=0 then decide (g.var=0/\g.n=0) else decide (1<=g.op/\g.op<=2/\0<=g.n/\g.n<=9)&&decide ((⟨g.var,⟨-1,0⟩⟩:Vt)∈vars)
def zbo (w:List Data) (t:Ty) (p:Pat):List Vt:=zco (zat w 10 t p 0).1
def clOk (w:List Data) (t:Ty) (c:Cl):Bool:=isP w t c.pat&&gdOk c.g (zbo w t c.pat)
def zaX (w:List Data) (t:Ty) (l:List Cl):Bool:=zbe w t&&(decide ((l.length:Int)<=8)&& !l.any fun c=> !clOk w t c)
def zfQ (w:List Data) (funs:List Ft) (f:Fu):Bool:=all2 (fun c e=>isE w funs (zbo w f.ty.arg c.pat) f.ty.res e) f.cls f.bodies
def zbi (w:List Data) (funs:List Ft) (f:Fu):Bool:=zaX w f.ty.arg f.cls&&zfQ w funs f
def zbu (w:List Data) (l:List Fu):Bool:=zaM w&&(zbx w (l.map Fu.ty)&&l.all (zbi w (l.map Fu.ty)))
theorem zkh {w:List Data} (hw:WT w){funs:List Ft} (hf:∀f∈funs,TyIn w.length f.arg){t:Ty} (ht:TyIn w.length t){e:Ex}:∀u∈zak w funs t e,TyIn w.length u:=by
 intro u hu;unfold zak at hu;split at hu
 ·split at hu
  ·rename_i h;obtain⟨d,h1,h2,h3⟩:=za1 (a:=t.data) (k:=t.index) ht h.2;have:t=⟨(d:Int),t.index⟩:=by rw[<-h1]
   rw[this] at hu;exact zjR hw h2 h3 hu
  ·simp at hu
 ·split at hu
  ·simp only[List.mem_cons,xau,or_false,or_self] at hu;rw[hu];exact ht
  ·split at hu
   ·split at hu
    ·rename_i h;simp only[List.mem_cons,xau,or_false] at hu;rw[hu];exact hf _ (zad oc)
    ·simp at hu
   ·simp at hu
theorem zn4 {w:List Data} (hw:WT w){t:Ty}{c:Int} (ht:TyIn w.length t) (hc:c∈zaA w t):(zan w t c).length<=1000000000000:=by
 obtain⟨d,h1,h2,j,h3,h4⟩:=za1 (a:=t.data) (k:=t.index) ht hc;have:=(hw.small.ctor _ (zad h2) _ (zad h4)).2;unfold zan;rw[h1,h3];simpa using this
theorem zjk {w:List Data} (hw:WT w){funs:List Ft}{t:Ty} (ht:TyIn w.length t){e:Ex}:(zak w funs t e).length<=1000000000000:=by
 unfold zak;split
 ·split
  ·rename_i h;exact zn4 hw ht h.2
  ·simp
 ·split
  ·simp
  ·split
   ·split<;>simp
   ·simp
theorem zgo {x:Vt}{n:Int}:FnD Tryz.prog 283 [.agg [.d (.i x.var),.d (.i x.ty.data),.d (.i x.ty.index)],.ref 3003 0] [(3003,some (.box [.d (.i n)]))] (.d (.bool (decide (x.var=n)))) []:=by
 refine bd Tryz.f283 8 [] [] fun _ _ _ _ hk=>?_;refine bx 3001 ?_;refine ev (rn [] (r1 Z) (.eqd ?_) ⟨Z,Z⟩ (SubH.get ⟨Z,O⟩) (fun _ h=>h));rotate_left;all_goals (rfl)
theorem zem {wdd fd:D}{vars:List Vt}{n:Int} (hv:vars.length<=1000000000000):
  FnD Tryz.prog 233 [.agg [.d wdd,.d fd,.d (zaU vars)],.d (.i n)] [] (.tup [.agg [.d (.i (zd8 vars n).data),.d (.i (zd8 vars n).index)],.d (.bool (decide (0<=zaF vars n)))]) []:=by
 have hlt:=fun h=>zeR (l:=vars) (n:=n) h;refine bd Tryz.f233 20 [] [] fun _ _ _ _ hk=>?_;refine bx 3002 ?_;refine bx 3003 ?_;refine ab 3004 tz38 ?_;refine ev (xbe (xs:=[_]) Z .none Z Z (wd zmH (zdd (p:=fun v=>decide (v.var=n)) hv zo8 (fun t _=>zgo) ⟨Z,O⟩ Z Z) Z Z ⟨Z,O⟩ ?_));refine ev ?_;apply sq<;>intro h1 h1p h1s<;>(try simp only[Q] at h1p);refine bu [] [] st38 ?_;refine so ty38 ?_;refine ev (rn0 (rc ty38) (.tup (.cons (.agg (qee ?_ ?_)) (qe ?_))));rotate_left 3;refine ixq (i:=(zaF vars n).toNat) sl36 Z Z (by have:=hlt (by show 0<=idxF _ _ _;omega);exact this.2.symm) (zaf (i:=(zaF vars n).toNat) (by have:=hlt (by show 0<=idxF _ _ _;omega);omega)) Z ?_;refine ev (so ty38 ?_);refine ev (rn0 (rc ty38) (.tup (.cons (.agg (qee ?_ ?_)) (qe ?_))));rotate_left 3;all_goals (first|(unfold zd8;rw[if_neg (by show ¬0<=idxF _ _ _;omega)];done)|(unfold zd8;rw[if_pos (by show 0<=idxF _ _ _;omega)];done)|(refine xam D.bool (xaw ?_).symm;show ¬0<=idxF _ _ _;omega)|(refine xam D.bool (xax ?_).symm;show 0<=idxF _ _ _;omega))
theorem zde {a b:Ty}:FnD Tryz.prog 234 [.agg [.d (.i a.data),.d (.i a.index)],.agg [.d (.i b.data),.d (.i b.index)]] [] (.d (.bool (ze5 a b))) []:=by
 refine bd Tryz.f234 22 [] [] fun _ _ _ _ hk=>?_;refine bx 3002 ?_;refine bx 3003 ?_;refine ev ?_;apply sq<;>intro h1 h1p h1s<;>(try simp only[Q] at h1p);apply sq<;>intro h2 h2p h2s<;>(try simp only[Q] at h2p);refine rq ?_;rotate_left;refine rq ?_;rotate_left;refine rq ?_;rotate_left;all_goals (refine xam D.bool ?_;unfold ze5;simp_all)
theorem zgH {w:List Data}{funs:List Ft}{vars:List Vt} (hw:WT w) (hfl:funs.length<=1000000000000) (hvl:vars.length<=1000000000000){t:Ty} (ht:TyIn w.length t){e:Ex}:
  FnD Tryz.prog 153 [.agg [.d (zae w),.d (za6 funs),.d (zaU vars)],.agg [.d (.i t.data),.d (.i t.index)],.agg [.d (.i e.op),.d (.i e.n),.d (.i e.ctor),.d (zay e.kids)]] [] (.tup [.d (zaR (zak w funs t e)),.d (.bool (okE w funs vars t e))]) []:=by
 have ht':TyIn w.length ⟨t.data,t.index⟩:=ht;have hcl:=zeG hw ht';have htd:t.data = -1->e.ctor∉zaA w t:=fun h=>by unfold zaA;rw[if_pos h];simp
 by_cases hmem:e.ctor∈zaA w t
 ·have hmem':e.ctor∈zaA w ⟨t.data,t.index⟩:=hmem;have hcon:=zbA (v:=e.ctor) hcl;rw[xax hmem'] at hcon;refine bd Tryz.f153 118 [] [] fun _ _ _ _ hk=>?_;refine bx 3003 ?_;refine bx 3004 ?_;refine bx 3005 ?_;refine ev ?_;apply sq<;>intro h1 h1p h1s<;>(try simp only[Q,zac] at h1p);apply sq<;>intro h2 h2p h2s<;>(try simp only[Q,zac] at h2p);refine Walk.call (cr:=[]) zb4 zaH Z (.some Z Z h2) Z Z (LeL.refl _) O Z Z Z (evd [] [(17,true)] ?_ ⟨⟨_,Z,h2⟩,O⟩);apply sq<;>intro h3 h3p h3s<;>(try simp only[Q,zac] at h3p);refine dr (rn0 (r2 Z Z) (.tup (qne ?_ ?_)));rotate_left 2;refine dr (rn0 (r2 Z Z) (.tup (qne ?_ ?_)));rotate_left 2;refine sqF ?_;refine dr (rn0 (r2 Z Z) (.tup (qne ?_ ?_)));rotate_left 2;apply sq<;>intro h4 h4p h4s<;>(try simp only[Q,zac] at h4p);refine wc zmD (zem hvl) Z Z ?_;refine ev (ab 3008 tz38 ?_);refine so ty38 ?_;refine ev ?_;apply sq<;>intro h5 h5p h5s<;>(try simp only[Q,zac] at h5p);refine Walk.call (cr:=[]) zin (zde (a:=zd8 vars e.n) (b:=t)) Z (.some Z Z h5) Z Z (LeL.refl _) O Z Z Z (evd [] [(37,true)] ?_ ⟨⟨_,Z,h5⟩,O⟩);apply sq<;>intro h6 h6p h6s<;>(try simp only[Q,zac] at h6p);refine dr (rn0 (r2 Z Z) (.tup (qne ?_ ?_)));rotate_left 2;refine dr (rn0 (r2 Z Z) (.tup (qne ?_ ?_)));rotate_left 2;refine sqF ?_;refine dr (rn0 (r2 Z Z) (.tup (qne ?_ ?_)));rotate_left 2;apply sq<;>intro h7 h7p h7s<;>(try simp only[Q,zac] at h7p);apply sq<;>intro h8 h8p h8s<;>(try simp only[Q,zac] at h8p);refine dr (sqT ?_);refine rn0 (r2 Z Z) (.tup (qne ?_ ?_));rotate_left 2;refine Walk.call (cr:=[]) ziq (zc5 hw ht') Z (.some Z Z h8) Z Z (LeL.refl _) O Z Z Z (evd [] [(52,false)] ?_ ⟨⟨_,Z,h8⟩,O⟩);refine Walk.call (cr:=[]) zio hcon Z (.some Z Z h8) Z Z (LeL.refl _) O Z Z Z (evd [] [(52,false)] ?_ ⟨⟨_,Z,h8⟩,O⟩);refine dr ?_;apply sq<;>intro h10 h10p h10s<;>(try simp only[Q,zac] at h10p);refine rn0 (r2 Z Z) (.tup (qne ?_ ?_));rotate_left 2;refine wc zmE (ze7 hw ht' hmem') Z Z ?_;refine ev (rn0 (r2 Z Z) (.tup (qee ?_ ?_)));rotate_left 2;apply sq<;>intro h11 h11p h11s<;>(try simp only[Q,zac] at h11p);refine si [0,1] [_,_] zau tz38 ?_;refine evd [] [] ?_;apply sq<;>intro h12 h12p h12s<;>(try simp only[Q,zac] at h12p);apply sq<;>intro h13 h13p h13s<;>(try simp only[Q,zac] at h13p);refine dr (rn0 (r2 Z Z) (.tup (qee ?_ ?_)));rotate_left 2;refine dr (rn0 (r2 Z Z) (.tup (qee ?_ ?_)));rotate_left 2;refine sqF ?_;refine dr (rn0 (r2 Z Z) (.tup (qee ?_ ?_)));rotate_left 2;apply sq<;>intro h14 h14p h14s<;>(try simp only[Q,zac] at h14p);refine ar (wc zb4 zaH Z Z ?_);refine ev ?_;apply sq<;>intro h15 h15p h15s<;>(try simp only[Q,zac] at h15p);refine sqT ?_;refine rn0 (r2 Z Z) (.tup (qne ?_ ?_));rotate_left 2;apply sq<;>intro h17 h17p h17s<;>(try simp only[Q,zac] at h17p);refine rn0 (r2 Z Z) (.tup (qne ?_ ?_));rotate_left 2;refine ixq (i:=e.n.toNat) sl35 Z Z oc (zaf (i:=e.n.toNat) oc) Z ?_;refine evd [] [] (si [0] [_] zau tz38 ?_);refine evd [] [] (ixq (i:=e.n.toNat) sl35 Z Z oc (zaf (i:=e.n.toNat) oc) Z ?_);refine evd [] [] (wc zin (zde (a:=(nth funs e.n.toNat).res) (b:=t)) Z Z ?_);refine evd [] [] (dr (rn0 (r2 Z Z) (.tup (qee ?_ ?_))));rotate_left 2;refine rn0 (r2 Z Z) (.tup (qne ?_ ?_));rotate_left 2;all_goals (first|rfl|(rw[ty_0 oc];all_goals rfl)|(rw[znZ oc oc];all_goals rfl)|(rw[ty_3 oc oc hmem];all_goals rfl)|(rw[ty_4 oc];all_goals rfl)|(rw[zhn oc oc];all_goals rfl)|(rw[ty_5 oc oc];all_goals rfl)|(refine xam D.bool ?_;rw[ok_1 oc];simp_all;done)|(refine xam D.bool ?_;rw[ok_1 oc];simp_all[zac];omega)|(rw[zhn oc (by intro hh;simp_all[zac];omega)];all_goals rfl)|(refine xam D.bool ?_;rw[ok_5 oc,xaw (by intro hh;simp_all[zac];omega),Bool.false_and];done)|(refine xam D.bool ?_;rw[ok_2 oc,xaw oc,Bool.false_and];done)|(refine xam D.bool ?_;rw[ok_2 oc];simp_all;done)|(refine xam D.bool ?_;rw[ok_3 oc];simp_all;done)|(refine xam D.bool ?_;rw[ok_4 oc];simp_all;done)|(refine xam D.bool ?_;rw[ok_5 oc];first|(rw[xax oc,Bool.true_and];done)|(rw[xaw oc,Bool.false_and];done))|(refine xam D.bool ?_;rw[ok_0 oc];done)|(exfalso;simp_all;done))
 ·have hmem':e.ctor∉zaA w ⟨t.data,t.index⟩:=hmem;have hcon:=zbA (v:=e.ctor) hcl;rw[xaw hmem'] at hcon;refine bd Tryz.f153 118 [] [] fun _ _ _ _ hk=>?_;refine bx 3003 ?_;refine bx 3004 ?_;refine bx 3005 ?_;refine ev ?_;apply sq<;>intro h1 h1p h1s<;>(try simp only[Q,zac] at h1p);apply sq<;>intro h2 h2p h2s<;>(try simp only[Q,zac] at h2p);refine Walk.call (cr:=[]) zb4 zaH Z (.some Z Z h2) Z Z (LeL.refl _) O Z Z Z (evd [] [(17,true)] ?_ ⟨⟨_,Z,h2⟩,O⟩);apply sq<;>intro h3 h3p h3s<;>(try simp only[Q,zac] at h3p);refine dr (rn0 (r2 Z Z) (.tup (qne ?_ ?_)));rotate_left 2;refine dr (rn0 (r2 Z Z) (.tup (qne ?_ ?_)));rotate_left 2;refine sqF ?_;refine dr (rn0 (r2 Z Z) (.tup (qne ?_ ?_)));rotate_left 2;apply sq<;>intro h4 h4p h4s<;>(try simp only[Q,zac] at h4p);refine wc zmD (zem hvl) Z Z ?_;refine ev (ab 3008 tz38 ?_);refine so ty38 ?_;refine ev ?_;apply sq<;>intro h5 h5p h5s<;>(try simp only[Q,zac] at h5p);refine Walk.call (cr:=[]) zin (zde (a:=zd8 vars e.n) (b:=t)) Z (.some Z Z h5) Z Z (LeL.refl _) O Z Z Z (evd [] [(37,true)] ?_ ⟨⟨_,Z,h5⟩,O⟩);apply sq<;>intro h6 h6p h6s<;>(try simp only[Q,zac] at h6p);refine dr (rn0 (r2 Z Z) (.tup (qne ?_ ?_)));rotate_left 2;refine dr (rn0 (r2 Z Z) (.tup (qne ?_ ?_)));rotate_left 2;refine sqF ?_;refine dr (rn0 (r2 Z Z) (.tup (qne ?_ ?_)));rotate_left 2;apply sq<;>intro h7 h7p h7s<;>(try simp only[Q,zac] at h7p);apply sq<;>intro h8 h8p h8s<;>(try simp only[Q,zac] at h8p);refine dr (sqT ?_);refine rn0 (r2 Z Z) (.tup (qne ?_ ?_));rotate_left 2;refine Walk.call (cr:=[]) ziq (zc5 hw ht') Z (.some Z Z h8) Z Z (LeL.refl _) O Z Z Z (evd [] [(52,false)] ?_ ⟨⟨_,Z,h8⟩,O⟩);refine Walk.call (cr:=[]) zio hcon Z (.some Z Z h8) Z Z (LeL.refl _) O Z Z Z (evd [] [(52,false)] ?_ ⟨⟨_,Z,h8⟩,O⟩);refine dr ?_;apply sq<;>intro h10 h10p h10s<;>(try simp only[Q,zac] at h10p);refine rn0 (r2 Z Z) (.tup (qne ?_ ?_));rotate_left 2;exfalso;simp_all;apply sq<;>intro h11 h11p h11s<;>(try simp only[Q,zac] at h11p);refine si [0,1] [_,_] zau tz38 ?_;refine evd [] [] ?_;apply sq<;>intro h12 h12p h12s<;>(try simp only[Q,zac] at h12p);apply sq<;>intro h13 h13p h13s<;>(try simp only[Q,zac] at h13p);refine dr (rn0 (r2 Z Z) (.tup (qee ?_ ?_)));rotate_left 2;refine dr (rn0 (r2 Z Z) (.tup (qee ?_ ?_)));rotate_left 2;refine sqF ?_;refine dr (rn0 (r2 Z Z) (.tup (qee ?_ ?_)));rotate_left 2;apply sq<;>intro h14 h14p h14s<;>(try simp only[Q,zac] at h14p);refine ar (wc zb4 zaH Z Z ?_);refine ev ?_;apply sq<;>intro h15 h15p h15s<;>(try simp only[Q,zac] at h15p);refine sqT ?_;refine rn0 (r2 Z Z) (.tup (qne ?_ ?_));rotate_left 2;apply sq<;>intro h17 h17p h17s<;>(try simp only[Q,zac] at h17p);refine rn0 (r2 Z Z) (.tup (qne ?_ ?_));rotate_left 2;refine ixq (i:=e.n.toNat) sl35 Z Z oc (zaf (i:=e.n.toNat) oc) Z ?_;refine evd [] [] (si [0] [_] zau tz38 ?_);refine evd [] [] (ixq (i:=e.n.toNat) sl35 Z Z oc (zaf (i:=e.n.toNat) oc) Z ?_);refine evd [] [] (wc zin (zde (a:=(nth funs e.n.toNat).res) (b:=t)) Z Z ?_);refine evd [] [] (dr (rn0 (r2 Z Z) (.tup (qee ?_ ?_))));rotate_left 2;refine rn0 (r2 Z Z) (.tup (qne ?_ ?_));rotate_left 2;all_goals (first|rfl|(rw[ty_0 oc];all_goals rfl)|(rw[znZ oc oc];all_goals rfl)|(rw[znY oc hmem];all_goals rfl)|(rw[ty_4 oc];all_goals rfl)|(rw[zhn oc oc];all_goals rfl)|(rw[ty_5 oc oc];all_goals rfl)|(refine xam D.bool ?_;rw[ok_1 oc];simp_all;done)|(refine xam D.bool ?_;rw[ok_1 oc];simp_all[zac];omega)|(rw[zhn oc (by intro hh;simp_all[zac];omega)];all_goals rfl)|(refine xam D.bool ?_;rw[ok_5 oc,xaw (by intro hh;simp_all[zac];omega),Bool.false_and];done)|(refine xam D.bool ?_;rw[ok_2 oc,xaw oc,Bool.false_and];done)|(refine xam D.bool ?_;rw[ok_2 oc];simp_all;done)|(refine xam D.bool ?_;rw[ok_3 oc];simp_all;done)|(refine xam D.bool ?_;rw[ok_4 oc];simp_all;done)|(refine xam D.bool ?_;rw[ok_5 oc];first|(rw[xax oc,Bool.true_and];done)|(rw[xaw oc,Bool.false_and];done))|(refine xam D.bool ?_;rw[ok_0 oc];done)|(exfalso;simp_all;done))
theorem zi7 {g:Ty->Ex->Int->Bool×Int}{a:List Ty}{b:List Ex}{i:Nat}{c:Int} (ha:i<a.length) (hl:a.length=b.length) (h:(g (nth a i) (nth b i) c).1=false):
  zbR g (a.drop i) (b.drop i) c=(false,(g (nth a i) (nth b i) c).2):=by
 rw[zbh ha,zbh (l:=b) oc,zbR,if_neg (by rw[h];simp)]
theorem zmd {g:Ty->Ex->Int->Bool×Int}{a:List Ty}{b:List Ex}{i:Nat}{c:Int} (ha:i<a.length) (hl:a.length=b.length) (h:(g (nth a i) (nth b i) c).1=true):
  zbR g (a.drop i) (b.drop i) c=zbR g (a.drop (i+1)) (b.drop (i+1)) (g (nth a i) (nth b i) c).2:=by
 rw[zbh ha,zbh (l:=b) oc,zbR,if_pos h]
theorem zka {g:Ty->Ex->Int->Bool×Int}{a:List Ty}{b:List Ex}{i:Nat}{c:Int} (ha:a.length<=i):zbR g (a.drop i) (b.drop i) c=(true,c):=by
 rw[List.drop_eq_nil_of_le ha,zbR];simp
theorem znB (w:List Data) (funs:List Ft) (vars:List Vt) (n:Nat) (t:Ty) (v:Ex) (c:Int) (h:(zaL w funs vars n t v c).1=true):c<=(zaL w funs vars n t v c).2/\(zaL w funs vars n t v c).2<=60:=by
 have h1:=zh6 w funs vars n t v c;have h2:=h1.2 h;rw[h1.1] at h;simp only[xad,xah] at h;omega
theorem zgJ {w:List Data}{funs:List Ft}{vars:List Vt} (hw:WT w) (hfl:funs.length<=1000000000000) (hvl:vars.length<=1000000000000) (hfa:∀f∈funs,TyIn w.length f.arg):∀(n:Nat){t:Ty}{d c:Int}{e:Ex},d+n=11->n<=10->TyIn w.length t->e.ok->0<=c->c<=1000000000000->
  FnD Tryz.prog 137 [.agg [.d (zae w),.d (za6 funs),.d (zaU vars)],.agg [.d (.i t.data),.d (.i t.index)],.agg [.d (.i e.op),.d (.i e.n),.d (.i e.ctor),.d (zay e.kids)],.d (.i d),.ref 950 0] [(950,some (.box [.d (.i c)]))]
   (.d (.bool (zaL w funs vars n t e c).1)) [(950,some (.box [.d (.i (zaL w funs vars n t e c).2)]))]
 |0,t,d,c,e,hd,_,_,_,c0,c1=>by
  refine bd Tryz.f137 65 [] [] fun _ _ _ _ hk=>?_;refine bx 3005 ?_;refine bx 3006 ?_;refine bx 3007 ?_;refine ev (ar (so ty3 ?_));apply tv;apply sq<;>intro h1 h1p h1s;refine sqT ?_;refine rn [(950,some (.box [.d (.i (zaL w funs vars 0 t e c).2)]))] (r1 Z) (.eqd ?_) ⟨Z,Z⟩ (SubO.get ⟨.inr ?_,⟨.inl Z,O⟩⟩) (zbk Z);rotate_left 2;apply sq<;>intro h3 h3p h3s;refine rn [(950,some (.box [.d (.i (zaL w funs vars 0 t e c).2)]))] (r1 Z) (.eqd ?_) ⟨Z,Z⟩ (SubO.get ⟨.inr ?_,⟨.inl Z,O⟩⟩) (zbk Z);rotate_left 2;exfalso;simp at *;omega;all_goals (first|((rfl);done)|(rfl))
 |n+1,t,d,c,e,hd,hn,ht,hok,c0,c1=>by
  rw[xaF] at hok;by_cases h60:60<c+1
  ·skip
   refine bd Tryz.f137 65 [] [] fun _ _ _ _ hk=>?_;refine bx 3005 ?_;refine bx 3006 ?_;refine bx 3007 ?_;refine ev (ar (so ty3 ?_));apply tv;apply sq<;>intro h1 h1p h1s;refine sqT ?_;refine rn [(950,some (.box [.d (.i (zaL w funs vars (n+1) t e c).2)]))] (r1 Z) (.eqd ?_) ⟨Z,Z⟩ (SubO.get ⟨.inr ?_,⟨.inl Z,O⟩⟩) (zbk Z);rotate_left 2;apply sq<;>intro h3 h3p h3s;refine rn [(950,some (.box [.d (.i (zaL w funs vars (n+1) t e c).2)]))] (r1 Z) (.eqd ?_) ⟨Z,Z⟩ (SubO.get ⟨.inr ?_,⟨.inl Z,O⟩⟩) (zbk Z);rotate_left 2;exfalso;simp at *;omega;all_goals (first|((unfold zaL;rw[if_pos h60]);done)|((unfold zaL;rw[if_pos h60];rfl)))
  have hkd:=zgH hw hfl hvl ht (e:=e) (funs:=funs) (vars:=vars);have htl:=zjk hw ht (funs:=funs) (e:=e);have hti:=zkh hw hfa ht (e:=e);by_cases hnd:zc8 w funs vars t e=true
  ·have hlen:(zak w funs t e).length=e.kids.length:=by
    unfold zc8 at hnd;rw[xad] at hnd;exact xas hnd.2
   have hok1:okE w funs vars t e=true:=by
    unfold zc8 at hnd;rw[xad] at hnd;exact hnd.1
   have hsc:zaL w funs vars (n+1) t e c=zbR (zaL w funs vars n) (zak w funs t e) e.kids (c+1):=by
    conv=>lhs;unfold zaL
    rw[if_neg h60,if_pos hnd]
   rw[hsc];rw[hok1] at hkd;refine bd Tryz.f137 65 [] [] fun _ _ _ _ hk=>?_;refine bx 3005 ?_;refine bx 3006 ?_;refine bx 3007 ?_;refine ev (ar ?_ (by(constructor<;>omega)));refine so ty3 ?_;apply tv;apply sq<;>intro h1 h1p h1s;refine sqT ?_;exfalso;simp at *;omega;apply sq<;>intro h3 h3p h3s;exfalso;simp at *;omega;refine wc zii hkd Z Z ?_;refine ev ?_;apply sq<;>intro h4 h4p h4s;refine sqT ?_;focus (exfalso;(simp_all[xaE];done))
   apply sq<;>intro h6 h6p h6s;try simp only[Q,xaE] at h6p
   focus (exfalso;omega)
   refine xaz (ι:=Nat×Int) hk (fun x=>[(48,.d (.i (x.1:Int)))]) [10,13,14,49,50,51,52,53,54,55,56,57,58,59,60,61,62,63,64] (fun x=>[(950,some (.box [.d (.i x.2)]))]) (fun x=>x.1<=e.kids.length/\zbR (zaL w funs vars n) ((zak w funs t e).drop x.1) (e.kids.drop x.1) x.2=zbR (zaL w funs vars n) (zak w funs t e) e.kids (c+1)/\0<=x.2/\x.2<=60) (fun x=>e.kids.length-x.1) (0,c+1) ⟨by simp,by simp,by dsimp only;omega,by dsimp only;omega⟩ ⟨⟨_,Z,xaL ?_⟩,O⟩ ⟨?_,O⟩ (fun x=>rfl) (fun x hg1=>?_);focus (rfl)
   focus (first|rfl|(simp[getH];done))
   refine evc [] [] ?_;apply sq<;>intro h7 h7p h7s<;>(try simp only[Q,xaE] at h7p);refine ixq sl39 Z Z Z (zbN oc) Z ?_;refine ev (ab 3014 tz41 ?_);refine ev (so ty41 ?_);apply tv;refine ixq zau Z Z Z (zaf oc) Z ?_;refine evd [] [] (ar ?_ (by(constructor<;>omega)));refine wd zms (zgJ hw hfl hvl hfa n (t:=nth (zak w funs t e) x.1) (c:=x.2) oc oc (hti _ (zad oc)) (xaH hok.2 _ (zad oc)) oc oc) Z Z ⟨Z,O⟩ ?_;refine evd [] [] (dr ?_);apply sq<;>intro h8 h8p h8s;refine rn [(950,some (.box [.d (.i (zbR (zaL w funs vars n) (zak w funs t e) e.kids (c+1)).2)]))] (r1 Z) (.eqd ?_) ⟨Z,Z⟩ (SubO.get ⟨.inr ?_,⟨.inl Z,O⟩⟩) (zbk Z);rotate_left 2;try simp only[Q,xaE] at h8p
   refine ar ?_ (by(constructor<;>omega));refine xaj ((x.1+1,(zaL w funs vars n (nth (zak w funs t e) x.1) (nth e.kids x.1) x.2).2)) ⟨(by
        have hz:(zaL w funs vars n (nth (zak w funs t e) x.1) (nth e.kids x.1) x.2).1=true:=by simp_all
        have hb:=znB w funs vars n _ _ _ hz;obtain⟨h1,h2,h3,h4⟩:=hg1;refine⟨by dsimp only;omega, ?_,by dsimp only;omega,by dsimp only;omega⟩;rw[<-h2,zmd (i:=x.1) oc hlen hz]),(by dsimp only;omega),sx ⟨⟨_,rfl,xaL ?_⟩,trivial⟩ ⟨?_,trivial⟩⟩
   focus (rfl)
   focus (first|rfl|(simp[getH];done))
   refine rn [(950,some (.box [.d (.i (zbR (zaL w funs vars n) (zak w funs t e) e.kids (c+1)).2)]))] (r1 Z) (.eqd ?_) ⟨Z,Z⟩ (SubO.get ⟨.inr ?_,⟨.inl Z,O⟩⟩) (zbk Z);rotate_left 2;all_goals (first|((refine xam D.bool ?_;first|(obtain⟨h1,h2,h3,h4⟩:=hg1;rw[<-h2,zka oc])|(obtain⟨h1,h2,h3,h4⟩:=hg1;rw[<-h2,zi7 oc hlen ol]));done)|(first|(obtain⟨h1,h2,h3,h4⟩:=hg1;show some (Res.box _)=some (Res.box _);rw[<-h2,zka oc])|(obtain⟨h1,h2,h3,h4⟩:=hg1;show some (Res.box _)=some (Res.box _);rw[<-h2,zi7 oc hlen ol])))
  ·have hsc:zaL w funs vars (n+1) t e c=(false,c+1):=by
    conv=>lhs;unfold zaL
    rw[if_neg h60,if_neg hnd]
   have hno:okE w funs vars t e=true->(zak w funs t e).length≠e.kids.length:=fun h hl=>hnd (by unfold zc8;rw[h,xax hl];rfl);rw[hsc];refine bd Tryz.f137 65 [] [] fun _ _ _ _ hk=>?_;refine bx 3005 ?_;refine bx 3006 ?_;refine bx 3007 ?_;refine ev (ar (so ty3 ?_));apply tv;apply sq<;>intro h1 h1p h1s;refine sqT ?_;exfalso;simp at *;omega;apply sq<;>intro h3 h3p h3s;exfalso;simp at *;omega;refine wc zii hkd Z Z ?_;refine ev ?_;apply sq<;>intro h4 h4p h4s;refine sqT ?_;refine rn [(950,some (.box [.d (.i (c+1))]))] (r1 Z) (.eqd ?_) ⟨Z,Z⟩ (SubO.get ⟨.inr ?_,⟨.inl Z,O⟩⟩) (zbk Z);rotate_left 2;apply sq<;>intro h6 h6p h6s;refine rn [(950,some (.box [.d (.i (c+1))]))] (r1 Z) (.eqd ?_) ⟨Z,Z⟩ (SubO.get ⟨.inr ?_,⟨.inl Z,O⟩⟩) (zbk Z);rotate_left 2;try simp only[Q,xaE] at h6p
   exfalso;have:=hno (by first|assumption|simp_all);omega;all_goals (first|((rfl);done)|(rfl))
theorem zk8 {w:List Data}{funs:List Ft}{vars:List Vt} (hw:WT w) (hfl:funs.length<=1000000000000) (hvl:vars.length<=1000000000000) (hfa:∀f∈funs,TyIn w.length f.arg){t:Ty}{e:Ex} (ht:TyIn w.length t) (hok:e.ok):
  FnD Tryz.prog 65 [.agg [.d (zae w),.d (za6 funs),.d (zaU vars)],.agg [.d (.i t.data),.d (.i t.index)],.agg [.d (.i e.op),.d (.i e.n),.d (.i e.ctor),.d (zay e.kids)]] [] (.d (.bool (isE w funs vars t e))) []:=by
 have hz:=zpx w funs vars t e;refine bd Tryz.f65 12 [] [] fun _ _ _ _ hk=>?_;refine bx 3003 ?_;refine bx 3004 ?_;refine bx 3005 ?_;refine ev (ab 950 tz3 ?_);refine so ty3 ?_;apply tv;refine wd zms (zgJ hw hfl hvl hfa 10 (c:=0) oc oc ht hok oc oc) Z Z ⟨Z,O⟩ ?_;refine ev (rq ?_);rotate_left;all_goals (rw[hz])
def tyS (s:Nat):Ty:=⟨((s / 4:Nat):Int),((s % 4:Nat):Int)⟩
def zkA (t:Ty):Nat:=t.data.toNat*4+t.index.toNat
def InS (n:Nat) (u:Ty):Prop:=u.data = -1\/(zkA u<n/\tyS (zkA u)=u)
def ClosedT (w:List Data):Prop:=∀s,s<w.length*4->∀c∈zcF w (tyS s),∀u∈zan w (tyS s) c,InS (w.length*4) u
section
variable {w:List Data}
def Bet (f g:Nat->Nat):Prop:=∀s,0<f s->0<g s/\g s<=f s
theorem Bet.refl (f:Nat->Nat):Bet f f:=fun s h=>⟨h,Nat.le_refl _⟩
theorem Bet.trans {f g h:Nat->Nat} (a:Bet f g) (b:Bet g h):Bet f h:=fun s hs=>⟨(b s (a s hs).1).1,Nat.le_trans (b s (a s hs).1).2 (a s hs).2⟩
end
theorem InS.facts {n:Nat}{a k:Int} (h:InS n ⟨a,k⟩) (ha:¬a = -1):zkA ⟨a,k⟩<n/\a*4+k=(zkA ⟨a,k⟩:Int)/\0<=a/\0<=k/\k<=3/\a<=n:=by
 rcases h with h|⟨h1,h2⟩
 ·exact absurd h ha
 ·have e1:=xam Ty.data h2;have e2:=xam Ty.index h2;simp only[tyS] at e1 e2;omega
structure Dp (w:List Data):Prop where
 wt:WT w
 cl:ClosedT w
 four:w.length<=4
 ct:∀s,s<w.length*4->(zcF w (tyS s)).length<=4
structure PKids (w:List Data) (n:Nat) (a k k':Int) (p:Pat):Prop where
 len5:p.op=5->p.kids.length=2
 len6:p.op=6->p.kids.length=1
 len4:p.op=4->p.kids.length=(zan w ⟨a,k⟩ p.ctor).length
 one:p.op=5\/p.op=6->zaj w n ⟨a,k'⟩ (nth p.kids 0)=true
 two:p.op=5->zaj w n ⟨a,k'⟩ (nth p.kids 1)=true
 arg:p.op=4->∀i,i<(zan w ⟨a,k⟩ p.ctor).length->zaj w n ⟨(nth (zan w ⟨a,k⟩ p.ctor) i).data,(nth (zan w ⟨a,k'⟩ p.ctor) i).index⟩ (nth p.kids i)=true
 mem:p.op=4->p.ctor∈zaA w ⟨a,k'⟩
 ops:p.op=1\/p.op=2\/(p.op=3/\a = -1)\/p.op=4\/p.op=5\/p.op=6
theorem ze1 {w:List Data}{a k:Int} (h:zbe w ⟨a,k⟩=true):zaM w=true/\TyIn w.length ⟨a,k⟩/\(a≠ -1->0<=a/\a.toNat<w.length/\0<=k/\k<=3):=by
 unfold zbe at h;rw[xad] at h;obtain⟨h1,h2⟩:=h;simp only[zaI,zac,Bool.or_eq_true,xad,xah,and_true] at h2;refine⟨h1, ?_,fun ha=>by omega⟩;rcases h2 with h|h
 ·exact .inl h.1
 ·exact .inr ⟨a.toNat,by simp only;omega,by omega⟩
structure PVal (w:List Data) (a k:Int) (p:Pat):Prop where
 dp:Dp w
 tin:TyIn w.length ⟨a,k⟩
 shape:zaj w 10 ⟨a,k⟩ p=true
 rng:a≠ -1->0<=a/\a.toNat<w.length/\0<=k/\k<=3
theorem zh8 {w:List Data}{a b:Int} (hs:WSmall w):FnD Tryz.prog 102 [.d (zae w),.agg [.d (.i a),.d (.i b)]] [] (.d (.bool (zbe w ⟨a,b⟩))) []:=by
 rw[<-zoh];exact zhC hs
theorem zfu {xs:List Ft}{f:Nat}{caps:List AV}{hp:Hp}{p:Ft->Bool} (hs:xs.length<=1000000000000) (hcal:Callee Tryz.prog f)
  (hf:∀t∈xs,FnD Tryz.prog f ([.agg [.d (.i t.arg.data),.d (.i t.arg.index),.d (.i t.res.data),.d (.i t.res.index)]]++caps) hp (.d (.bool (p t))) []) (k1:subH hp hp) (k2:zcM hp=true) (k3:zbs hp [] (.d .nilp) []=true):
  FnD Tryz.prog 224 [.d (za6 xs),.fn f caps] hp (.d (.i (idxF p xs 0))) []:=by
 refine bd Tryz.f224 19 [] [] fun _ _ _ _ hk=>?_;refine xaz (ι:=List (Ft)×List (Ft)) hk (fun x=>[(8,.d (.i (x.1.length:Int)))]) [4,5,9,10,11,12,13,14,15,16,17,18] (fun x=>[]) (fun x=>x.1++x.2=xs/\idxF p x.2 x.1.length=idxF p xs 0) (fun x=>x.2.length) ([],xs) ⟨by simp,Z⟩ ⟨⟨_,Z,xaL ?_⟩,O⟩ O (fun x=>zes hp) (fun x hg1=>?_);focus (rfl)
 obtain⟨pre,rest⟩:=x;dsimp only at hg1 ⊢;refine evc [] [] ?_;apply sq<;>intro h1 h1p h1s<;>(try simp only[Q] at h1p);rcases rest with _|⟨y,rest⟩
 ·exfalso;simp_all
 refine ixq sl35 Z Z Z (zaE hg1.1) Z (ev (xbc (cr:=[]) hcal (hf y (by rw[<-hg1.1];simp)) Z .none Z Z Z (LeL.refl _) k1 k2 (zcU k3 _) Z ?_));apply tv;apply sq<;>intro h2 h2p h2s<;>(try simp only[Q] at h2p);focus (refine rn [] (r1 Z) (.eqd ?_) ⟨Z,Z⟩ (fun _ _ h=>h) (fun _ h=>h);all_goals (rw[<-hg1.2];simp[idxF,h1s,h1p,h2s,h2p]))
 refine ar (xaj ((pre++[y],rest)) ⟨⟨(by have hz:=hg1.1;rw[<-hz];simp),(by rw[<-hg1.2];simp[idxF,h2s])⟩,oe,Sub.x od od ⟨⟨_,Z,xaL ?_⟩,O⟩ oe (by simp[zcq]) O⟩);focus ((simp;done))
 have hrest:rest=[]:=by
  rcases rest with _|⟨a,b⟩
  ·rfl
  ·exfalso;have hz:=xam List.length (hg1.1);simp only[xaa,xab,xac] at hz;omega
 subst hrest;focus (refine rn [] (r1 Z) (.eqd ?_) ⟨Z,Z⟩ (fun _ _ h=>h) (fun _ h=>h);all_goals (rw[<-hg1.2];simp[idxF,h1s,h1p]))
theorem zez {xs:List Ft}{f:Nat}{caps:List AV}{hp:Hp}{p:Ft->Bool} (hs:xs.length<=1000000000000) (hcal:Callee Tryz.prog f)
  (hf:∀t∈xs,FnD Tryz.prog f ([.agg [.d (.i t.arg.data),.d (.i t.arg.index),.d (.i t.res.data),.d (.i t.res.index)]]++caps) hp (.d (.bool (p t))) []) (k1:subH hp hp) (k2:zcM hp=true) (k3:zbs hp [] (.d .nilp) []=true):
  FnD Tryz.prog 133 [.d (za6 xs),.fn f caps] hp (.d (.bool (xs.any p))) []:=by
 refine bd Tryz.f133 9 [] [] fun _ _ _ _ hk=>?_;refine Walk.call (cr:=[]) zoS (zfu hs hcal hf k1 k2 k3) Z .none Z Z (LeL.refl _) k1 k2 (zcU k3 _) Z (ev (rn [] (r1 Z) (.eqd ?_) ⟨Z,Z⟩ (fun _ _ h=>h) (fun _ h=>h)));rotate_left;all_goals (exact xam D.bool (zdj p xs 0))
theorem zft {xs:List Cl}{f:Nat}{caps:List AV}{hp:Hp}{p:Cl->Bool} (hs:xs.length<=1000000000000) (hcal:Callee Tryz.prog f)
  (hf:∀t∈xs,FnD Tryz.prog f ([.agg [.d (.i t.pat.op),.d (.i t.pat.ctor),.d (.i t.pat.n),.d (.i t.pat.m),.d (.i t.pat.var),.d (zal t.pat.kids),.d (.i t.g.op),.d (.i t.g.var),.d (.i t.g.n)]]++caps) hp (.d (.bool (p t))) []) (k1:subH hp hp) (k2:zcM hp=true) (k3:zbs hp [] (.d .nilp) []=true):
  FnD Tryz.prog 200 [.d (zbl xs),.fn f caps] hp (.d (.i (idxF p xs 0))) []:=by
 refine bd Tryz.f200 19 [] [] fun _ _ _ _ hk=>?_;refine xaz (ι:=List (Cl)×List (Cl)) hk (fun x=>[(8,.d (.i (x.1.length:Int)))]) [4,5,9,10,11,12,13,14,15,16,17,18] (fun x=>[]) (fun x=>x.1++x.2=xs/\idxF p x.2 x.1.length=idxF p xs 0) (fun x=>x.2.length) ([],xs) ⟨by simp,Z⟩ ⟨⟨_,Z,xaL ?_⟩,O⟩ O (fun x=>zes hp) (fun x hg1=>?_);focus (first|rfl|(simp;done)|(simp_all;done)|omega)
 obtain⟨pre,rest⟩:=x;dsimp only at hg1 ⊢;refine evc [] [] ?_;apply sq<;>intro h1 h1p h1s<;>(try simp only[Q] at h1p);rcases rest with _|⟨y,rest⟩
 ·exfalso;simp_all
 refine ixq sl74 Z Z Z (zaE hg1.1) Z (ev (xbc (cr:=[]) hcal (hf y (by rw[<-hg1.1];simp)) Z .none Z Z Z (LeL.refl _) k1 k2 (zcU k3 _) Z ?_));apply tv;apply sq<;>intro h2 h2p h2s<;>(try simp only[Q] at h2p);focus (refine rn [] (r1 Z) (.eqd ?_) ⟨Z,Z⟩ (fun _ _ h=>h) (fun _ h=>h);all_goals (rw[<-hg1.2];simp[idxF,h1s,h1p,h2s,h2p]))
 refine ar (xaj ((pre++[y],rest)) ⟨⟨(by have hz:=hg1.1;rw[<-hz];simp),(by rw[<-hg1.2];simp[idxF,h2s])⟩,oe,Sub.x od od ⟨⟨_,Z,xaL ?_⟩,O⟩ oe (by simp[zcq]) O⟩);focus (first|rfl|(simp;done)|(simp_all;done)|omega)
 have hrest:rest=[]:=by
  rcases rest with _|⟨a,b⟩
  ·rfl
  ·exfalso;have hz:=xam List.length (hg1.1);simp only[xaa,xab,xac] at hz;omega
 subst hrest;focus (refine rn [] (r1 Z) (.eqd ?_) ⟨Z,Z⟩ (fun _ _ h=>h) (fun _ h=>h);all_goals (rw[<-hg1.2];simp[idxF,h1s,h1p]))
theorem zey {xs:List Cl}{f:Nat}{caps:List AV}{hp:Hp}{p:Cl->Bool} (hs:xs.length<=1000000000000) (hcal:Callee Tryz.prog f)
  (hf:∀t∈xs,FnD Tryz.prog f ([.agg [.d (.i t.pat.op),.d (.i t.pat.ctor),.d (.i t.pat.n),.d (.i t.pat.m),.d (.i t.pat.var),.d (zal t.pat.kids),.d (.i t.g.op),.d (.i t.g.var),.d (.i t.g.n)]]++caps) hp (.d (.bool (p t))) []) (k1:subH hp hp) (k2:zcM hp=true) (k3:zbs hp [] (.d .nilp) []=true):
  FnD Tryz.prog 112 [.d (zbl xs),.fn f caps] hp (.d (.bool (xs.any p))) []:=by
 refine bd Tryz.f112 9 [] [] fun _ _ _ _ hk=>?_;refine Walk.call (cr:=[]) zoK (zft hs hcal hf k1 k2 k3) Z .none Z Z (LeL.refl _) k1 k2 (zcU k3 _) Z (ev (rn [] (r1 Z) (.eqd ?_) ⟨Z,Z⟩ (fun _ _ h=>h) (fun _ h=>h)));rotate_left;all_goals (exact xam D.bool (zdj p xs 0))
theorem zk9 {w:List Data} (hs:w.length<=1000000000000){fd vd:D}{f:Ft}:FnD Tryz.prog 134 [.agg [.d (.i f.arg.data),.d (.i f.arg.index),.d (.i f.res.data),.d (.i f.res.index)],.ref 3001 0] [(3001,some (.box [.d (zae w),.d fd,.d vd]))] (.d (.bool (!(zaI w.length f.arg&&zaI w.length f.res)))) []:=by
 refine bd Tryz.f134 18 [] [] fun _ _ _ _ hk=>?_;refine bx 3002 ?_;refine ev (wc zkK (zdQ hs (a:=f.arg.data) (b:=f.arg.index)) Z Z ?_);refine ev ?_;apply sq<;>intro h1 h1p h1s<;>(try simp only[Q] at h1p);refine rn [] (r1 Z) (.eqd ?_) ⟨Z,Z⟩ (SubH.get ⟨Z,O⟩) (fun _ h=>h);rotate_left;refine Walk.call (cr:=[]) zkK (zdQ hs (a:=f.res.data) (b:=f.res.index)) Z (.some Z Z h1) Z Z (LeL.refl _) O Z Z Z (evs [] [(10,false)] ?_ ⟨⟨_,Z,h1⟩,O⟩);refine rn [] (r1 Z) (.eqd ?_) ⟨Z,Z⟩ (SubH.get ⟨Z,O⟩) (fun _ h=>h);rotate_left;all_goals (refine xam D.bool ?_;simp_all)
theorem ziE {w:List Data}{funs:List Ft} (hs:w.length<=1000000000000) (hfl:funs.length<=1000000000000):FnD Tryz.prog 64 [.agg [.d (zae w),.d (za6 funs),.d (.sl [])]] [] (.d (.bool (zbx w funs))) []:=by
 refine bd Tryz.f64 45 [] [] fun _ _ _ _ hk=>?_;refine bx 3001 ?_;refine ev ?_;apply sq<;>intro h1 h1p h1s<;>(try simp only[Q] at h1p);refine sqT ?_;refine rq ?_;rotate_left;refine xbe (xs:=[_]) Z (.some Z Z h1) Z Z (Walk.call (cr:=[]) zov (zez (p:=fun f=> !(zaI w.length f.arg&&zaI w.length f.res)) hfl zow (fun t _=>zk9 hs) ⟨Z,O⟩ Z Z) Z (.some Z Z h1) Z Z (LeL.refl _) ⟨Z,O⟩ Z Z Z (evs [] [(10,false)] ?_ ⟨⟨_,Z,h1⟩,O⟩));apply sq<;>intro h3 h3p h3s<;>(try simp only[Q] at h3p);refine rq ?_;rotate_left;refine ab 3003 zmj ?_;apply tv;refine xaz (ι:=Unit) hk (fun u=>[(19,.d (.i 0))]) [2,5,20,21,22,23,24,25,26,27,28,29,30,31,32,33,34,35,36,37,38,39,40,41,42,43,44] (fun u=>[]) (fun u=>True) (fun u=>0) () O ⟨⟨_,Z,xaL ?_⟩,O⟩ O (fun x=>rfl) (fun u hg1=>?_);focus (first|rfl|(simp;done)|(simp_all;done)|omega)
 refine evc [] [] ?_;apply sq<;>intro h4 h4p h4s<;>(try simp only[Q] at h4p);exfalso;simp at h4;refine rq ?_;rotate_left;all_goals (refine xam D.bool ?_;unfold zbx;first|(rw[xaw oc,Bool.false_and];done)|(rw[xax oc,Bool.true_and];simp_all;done)|(simp_all;done)|(simp_all;omega))
theorem zeU {l:List Fu} (hl:l.length<=1000000000000):FnD Tryz.prog 60 [.d (zb8 l)] [] (.d (za6 (l.map Fu.ty))) []:=by
 refine bd Tryz.f60 19 [3] [] fun _ _ _ _ hk=>?_;refine xa7 1 4 .none Z Z ?_;apply tv;refine xaz (ι:=List (Fu)×List (Fu)) hk (fun x=>[(8,.d (.i (x.1.length:Int))),(3,.gl 1 ((x.1.map Fu.ty).map Ft.c))]) [5,9,10,11,12,13,14,15,16,17] (fun x=>[(1,some (.tok (((x.1.map Fu.ty).map Ft.c)).length 4))]) (fun x=>x.1++x.2=l) (fun x=>x.2.length) ([],l) oe ⟨⟨_,Z,xaL ?_⟩,⟨⟨_,Z,LeA.glg ?_⟩,O⟩⟩ ⟨zai ?_,O⟩ (fun x=>rfl) (fun x hg1=>?_);iterate 3 focus (first|rfl|(simp;done)|(simp;omega))
 obtain⟨pre,rest⟩:=x;dsimp only at hg1 ⊢;refine evc [3] [] ?_;apply sq<;>intro h1 h1p h1s<;>(try simp only[Q] at h1p);rcases rest with _|⟨y,rest⟩
 ·exfalso;simp_all
 refine ixq sl24 Z Z Z (zaE hg1) Z (evs [3] [] (ab 3005 tz93 ?_));refine so ty93 ?_;apply tv;refine si [0] [_] sl35 tz91 ?_;refine ap sl35 zz91 Z Z Z oe (by have hz:=xam List.length hg1;simp at hz ⊢;omega) ?_;refine asg ?_;apply tv;refine ar (xaj ((pre++[y],rest)) ⟨(by have hz:=hg1;rw[<-hz];simp),oe,sx ⟨⟨_,Z,xaL ?_⟩,⟨⟨_,Z,LeA.glg ?_⟩,O⟩⟩ ⟨zai ?_,O⟩⟩);iterate 3 focus (first|rfl|(simp;done)|(simp;omega))
 have hrest:rest=[]:=by
  rcases rest with _|⟨a,b⟩
  ·rfl
  ·exfalso;have hz:=xam List.length (hg1);simp only[xaa,xab,xac] at hz;omega
 subst hrest;refine rn0 (r1 Z) (.gld ?_);rotate_left;all_goals (first|rfl|(rw[xaq] at hg1;subst hg1;simp;done))
theorem zeE (w:List Data) (t:Ty) (p:Pat):(zbo w t p).length<=6:=(zdW w 10 t p 0).2
theorem zgG {w:List Data} (hw:WT w){fd:D}{t:Ty}{c:Cl} (ht:TyIn w.length t) (hok:c.pat.ok):
  FnD Tryz.prog 62 [.d (zae w),.d fd,.agg [.d (.i t.data),.d (.i t.index)],.agg [.d (.i c.pat.op),.d (.i c.pat.ctor),.d (.i c.pat.n),.d (.i c.pat.m),.d (.i c.pat.var),.d (zal c.pat.kids),.d (.i c.g.op),.d (.i c.g.var),.d (.i c.g.n)]] [] (.agg [.d (zae w),.d fd,.d (zaU (zbo w t c.pat))]) []:=by
 have ht':TyIn w.length ⟨t.data,t.index⟩:=ht;refine bd Tryz.f62 23 [] [] fun _ _ _ _ hk=>?_;refine bx 3006 ?_;refine bx 3007 ?_;refine ab 3008 tz98 ?_;apply tv;refine wc zmr (zdK hw ht' hok) Z Z ?_;refine ev (bu [0,1,2] [_,_,_] st98 ?_);refine so ty98 ?_;apply tv;refine rn0 (ra ty98) (.agg (qeee ?_ ?_ ?_));rotate_left 3;all_goals (rfl)
theorem ziD {g:Gd}{vars:List Vt} (hv:vars.length<=1000000000000):FnD Tryz.prog 201 [.agg [.d (.i g.op),.d (.i g.var),.d (.i g.n)],.d (zaU vars)] [] (.d (.bool (gdOk g vars))) []:=by
 refine bd Tryz.f201 27 [10] [] fun _ _ _ _ hk=>?_;refine bx 3002 ?_;refine evs [10] [] ?_;apply sq<;>intro h1 h1p h1s<;>(try simp only[Q,zac] at h1p);refine bu [] [] zp9 ?_;refine xbg zp2 .none Z Z Z Z Z (evs [10] [] (rq ?_));rotate_left;refine wc zb4 zaH Z Z ?_;refine evs [10] [] ?_;apply sq<;>intro h2 h2p h2s<;>(try simp only[Q,zac] at h2p);refine Walk.call (cr:=[]) zb4 zaH Z (.some Z Z h2) Z Z (LeL.refl _) O Z Z Z (evs [10] [(14,true)] ?_ ⟨⟨_,Z,h2⟩,O⟩);apply sq<;>intro h3 h3p h3s<;>(try simp only[Q,zac] at h3p);refine Walk.build st38 (ks:=[0]) (xs:=[_]) Z Z (.some Z Z h3) Z Z Z (Walk.build zmh (ks:=[0,1]) (xs:=[_,_]) Z Z (.some Z Z h3) Z Z Z (Walk.call (cr:=[]) zmF (zdr (v:=⟨g.var,⟨-1,0⟩⟩) hv) Z (.some Z Z h3) Z Z (LeL.refl _) O Z Z Z (evs [10] [(19,true)] ?_ ⟨⟨_,Z,h3⟩,O⟩)));refine rq ?_;rotate_left;refine rq ?_;rotate_left;refine sqF ?_;refine rq ?_;rotate_left;all_goals (refine xam D.bool ?_;unfold gdOk;first|(rw[if_pos oc];simp_all;done)|(rw[if_neg oc];simp_all[zac];done)|(rw[if_neg oc];simp_all[zac];omega))
theorem zhS {w:List Data} (hw:WT w){t:Ty}{c:Cl} (ht:TyIn w.length t) (hok:c.pat.ok):
  FnD Tryz.prog 114 [.d (zae w),.agg [.d (.i t.data),.d (.i t.index)],.agg [.d (.i c.pat.op),.d (.i c.pat.ctor),.d (.i c.pat.n),.d (.i c.pat.m),.d (.i c.pat.var),.d (zal c.pat.kids),.d (.i c.g.op),.d (.i c.g.var),.d (.i c.g.n)]] [] (.d (.bool (clOk w t c))) []:=by
 have ht':TyIn w.length ⟨t.data,t.index⟩:=ht;have hvl:=zeE w t c.pat;refine bd Tryz.f114 24 [] [] fun _ _ _ _ hk=>?_;refine bx 3004 ?_;refine bx 3005 ?_;refine ev (wc zmr (zdK hw ht' hok) Z Z ?_);refine ev ?_;apply sq<;>intro h1 h1p h1s<;>(try simp only[Q] at h1p);refine Walk.call (cr:=[]) zoL (ziD (g:=c.g) (vars:=zbo w t c.pat) oc) Z (.some Z Z h1) Z Z (LeL.refl _) O Z Z Z ?_;refine evs [] [(18,true)] ?_ ⟨⟨_,Z,h1⟩,O⟩;refine rq ?_;rotate_left;refine rq ?_;rotate_left;all_goals (refine xam D.bool ?_;unfold clOk;have hte:(⟨t.data,t.index⟩:Ty)=t:=rfl;(simp_all;done))
theorem zfr {w:List Data} (hw:WT w){a k:Int}{c:Cl} (ht:TyIn w.length ⟨a,k⟩) (hok:c.pat.ok):
  FnD Tryz.prog 113 [.agg [.d (.i c.pat.op),.d (.i c.pat.ctor),.d (.i c.pat.n),.d (.i c.pat.m),.d (.i c.pat.var),.d (zal c.pat.kids),.d (.i c.g.op),.d (.i c.g.var),.d (.i c.g.n)],.ref 3003 0,.ref 3004 0] [(3003,some (.box [.d (zae w)])),(3004,some (.box [.d (.i a),.d (.i k)]))] (.d (.bool (!clOk w ⟨a,k⟩ c))) []:=by
 refine bd Tryz.f113 10 [] [] fun _ _ _ _ hk=>?_;refine bx 3901 ?_;refine ev (wc zos (zhS (t:=⟨a,k⟩) (c:=c) hw ht hok) Z Z ?_);refine ev (rn [] (r1 Z) (.eqd ?_) ⟨Z,Z⟩ (SubH.get ⟨Z,⟨Z,O⟩⟩) (fun _ h=>h));rotate_left;all_goals (rfl)
theorem zfV {w:List Data} (hs:WSmall w){a k:Int}{l:List Cl} (hl:ClsOk l):
  FnD Tryz.prog 48 [.d (zae w),.agg [.d (.i a),.d (.i k)],.d (zbl l)] [] (.d (.bool (zaX w ⟨a,k⟩ l))) []:=by
 have hll:=hl.1;refine bd Tryz.f48 21 [] [] fun _ _ _ _ hk=>?_;refine bx 3003 ?_;refine bx 3004 ?_;refine ev (wc zpQ (zhr hs) Z Z ?_);refine ev ?_;apply sq<;>intro h1 h1p h1s<;>(try simp only[Q] at h1p);apply sq<;>intro h2 h2p h2s<;>(try simp only[Q] at h2p);refine xbe (xs:=[_,_]) Z (.some Z Z h2) Z Z (Walk.call (cr:=[]) zoq (zey (p:=fun c=> !clOk w ⟨a,k⟩ c) hl.1 zor (fun t htm=>zfr (zd0 hs (ze1 oh).1) (ze1 oh).2.1 (hl.2 t htm)) ⟨Z,Z,O⟩ Z Z) Z (.some Z Z h2) Z Z (LeL.refl _) ⟨Z,Z,O⟩ Z Z Z ?_);refine evs [] [(15,true)] ?_ ⟨⟨_,Z,h2⟩,O⟩;refine rq ?_;rotate_left;refine rq ?_;rotate_left;refine sqF ?_;refine rq ?_;rotate_left;all_goals (refine xam D.bool ?_;unfold zaX;first|(simp_all;done)|(simp_all;omega))
theorem zfR {w:List Data}{funs:List Ft}{f:Fu} (h:¬f.bodies.length=f.cls.length):zbi w funs f=false:=by
 unfold zbi zfQ;rw[zdi oc,Bool.and_false]
theorem zgs {w:List Data}{funs:List Ft}{f:Fu}{i:Nat} (hl:f.bodies.length=f.cls.length) (hi:i<f.bodies.length) (h:isE w funs (zbo w f.ty.arg (nth f.cls i).pat) f.ty.res (nth f.bodies i)=false):zbi w funs f=false:=by
 unfold zbi zfQ;rw[za8 (i:=i) oc oc h,Bool.and_false]
theorem zig {w:List Data}{funs:List Ft}{f:Fu} (hc:zaX w f.ty.arg f.cls=true) (hl:f.bodies.length=f.cls.length) (h:∀i,i<f.bodies.length->isE w funs (zbo w f.ty.arg (nth f.cls i).pat) f.ty.res (nth f.bodies i)=true):zbi w funs f=true:=by
 unfold zbi zfQ;rw[hc,zbJ oc (fun i hi=>h i oc)];rfl
theorem zec {w:List Data}{funs:List Ft} (h:zbx w funs=true):∀f∈funs,zaI w.length f.arg=true/\zaI w.length f.res=true:=by
 unfold zbx at h;simp only[xad,Bool.not_eq_true',List.any_eq_false,Bool.not_eq_false',xah] at h;intro f hf;have:=h.2 f hf;simpa using this
theorem zmm {α:Type}{p:α->Bool}{pre rest l:List α}{y:α} (h:pre++y::rest=l) (hy:p y=false):l.all p=false:=by
 subst h;simp[hy]
theorem zhp {w:List Data} (hs:WSmall w){l:List Fu} (hl:FusOk l):FnD Tryz.prog 12 [.d (zae w),.d (zb8 l)] [] (.d (.bool (zbu w l))) []:=by
 have hll:=hl.1;have hfm:=fun(y:Fu) (hy:y∈l) (ho:zbx w (l.map Fu.ty)=true)=>zec ho y.ty (List.mem_map.2 ⟨y,hy,rfl⟩);have hfa:=fun(ho:zbx w (l.map Fu.ty)=true) (f:Ft) (hf:f∈l.map Fu.ty)=>zfi (zec ho f hf).1;have hml:(l.map Fu.ty).length<=1000000000000:=by simp;omega
 have hvw:=fun(h:zaM w=true)=>zd0 hs h;unfold zbu;generalize hF:l.map Fu.ty=funs at *;have hft:=zeU hl.1;rw[hF] at hft;refine bd Tryz.f12 72 [] [] fun _ _ _ _ hk=>?_;refine wc znK hft Z Z ?_;refine ev (wc znJ (zed hs) Z Z ?_);refine ev ?_;apply sq<;>intro h1 h1p h1s<;>(try simp only[Q,xal,xaE] at h1p);refine sqT ?_;refine rq ?_;rotate_left;refine Walk.build st98 (ks:=[0,1]) (xs:=[_,_]) Z Z (.some Z Z h1) Z Z Z (Walk.call (cr:=[]) zpL (ziE hs.len hml) Z (.some Z Z h1) Z Z (.cons (.agg (.cons (.refl _) (.cons (.refl _) (.cons .nil .nil)))) .nil) O Z Z Z (evs [] [(15,false)] ?_ ⟨⟨_,Z,h1⟩,O⟩));apply sq<;>intro h3 h3p h3s<;>(try simp only[Q,xal,xaE] at h3p);refine rq ?_;rotate_left;refine xaz (ι:=List (Fu)×List (Fu)) hk (fun x=>[(24,.d (.i (x.1.length:Int)))]) [4,7,8,9,25,26,27,28,29,30,31,32,33,34,35,36,37,38,39,40,41,42,43,44,45,46,47,48,49,50,51,52,53,54,55,56,57,58,59,60,61,62,63,64,65,66,67,68,69,70,71] (fun x=>[]) (fun x=>x.1++x.2=l/\x.1.all (zbi w funs)=true) (fun x=>x.2.length) ([],l) ⟨by simp,by simp⟩ ⟨⟨_,Z,xaL ?_⟩,O⟩ O (fun x=>rfl) (fun x hg1=>?_);focus (first|rfl|(simp;done)|(simp_all;done)|omega)
 obtain⟨pre,rest⟩:=x;dsimp only at hg1 ⊢;refine evc [] [] ?_;apply sq<;>intro h4 h4p h4s<;>(try simp only[Q,xal,xaE] at h4p);rcases rest with _|⟨y,rest⟩
 ·exfalso;simp_all
 have hyl:=(hl.2 y (by rw[<-hg1.1];simp)).2.1;refine ixq sl24 Z Z Z (zaE hg1.1) Z (ev (ab 3007 tz93 ?_));refine so ty93 ?_;apply tv;refine wc zpJ (zfV hs (hl.2 y (by rw[<-hg1.1];simp)).1) Z Z ?_;refine ev ?_;apply sq<;>intro h5 h5p h5s<;>(try simp only[Q,xal,xaE] at h5p);refine sqT ?_;refine rq ?_;rotate_left;apply sq<;>intro h7 h7p h7s<;>(try simp only[Q,xal,xaE] at h7p);refine rq ?_;rotate_left;refine xaz (ι:=Nat) hk (fun i=>[(48,.d (.i (i:Int)))]) [4,8,9,49,50,51,52,53,54,55,56,57,58,59,60,61,62,63,64,65,66,67,68,69,70] (fun i=>[]) (fun i=>i<=y.bodies.length/\∀i',i'<i->isE w funs (zbo w y.ty.arg (nth y.cls i').pat) y.ty.res (nth y.bodies i')=true) (fun i=>y.bodies.length-i) 0 ⟨by omega,fun _ h=>absurd h oc⟩ ⟨⟨_,Z,xaL ?_⟩,O⟩ O (fun x=>rfl) (fun i hg2=>?_);focus (first|rfl|(simp;done)|(simp_all;done)|omega)
 refine evc [] [] ?_;apply sq<;>intro h8 h8p h8s<;>(try simp only[Q,xal,xaE] at h8p);refine ixq sl39 Z Z Z (zbN oc) Z ?_;refine ev (ab 3009 tz41 ?_);refine ev (so ty41 ?_);apply tv;refine ixq sl74 Z Z Z (zaf oc) Z ?_;refine evd [] [] (wc znL (zgG (hvw oh) (t:=y.ty.arg) (c:=nth y.cls i) (zfi (hfm y (by rw[<-hg1.1];simp) oh).1) ((hl.2 y (by rw[<-hg1.1];simp)).1.2 _ (zad oc))) Z Z ?_);refine evd [] [] (wc zpM (zk8 (hvw oh) hml (by have:=zeE w y.ty.arg (nth y.cls i).pat;omega) (hfa oh) (t:=y.ty.res) (e:=nth y.bodies i) (zfi (hfm y (by rw[<-hg1.1];simp) oh).2) (xaH (hl.2 y (by rw[<-hg1.1];simp)).2.2 _ (zad oc))) Z Z ?_);refine evd [] [] (dr ?_);apply sq<;>intro h9 h9p h9s<;>(try simp only[Q,xal,xaE] at h9p);refine rq ?_;rotate_left;refine ar (xaj (i+1) ⟨⟨by omega,zaw hg2.2 ol⟩,oc,sx ⟨⟨_,Z,xaL ?_⟩,O⟩ O⟩);focus (first|rfl|(simp;done)|(simp_all;done)|omega)
 refine ar (xaj ((pre++[y],rest)) ⟨⟨(by have hz:=hg1.1;rw[<-hz];simp),(by rw[List.all_append,hg1.2];simp only[List.all_cons,List.all_nil,Bool.and_true,Bool.true_and];exact zig ol oc (fun i' hi'=>hg2.2 i' oc))⟩,oe,sx ⟨⟨_,Z,xaL ?_⟩,O⟩ O⟩);focus (first|rfl|(simp;done)|(simp_all;done)|omega)
 have hrest:rest=[]:=by
  rcases rest with _|⟨a,b⟩
  ·rfl
  ·exfalso;have hz:=xam List.length (hg1.1);simp only[xaa,xab,xac] at hz;omega
 subst hrest;refine rq ?_;rotate_left;all_goals (refine xam D.bool ?_;first|(simp_all;done)|(rw[zmm hg1.1 (by first|(unfold zbi;simp_all;done)|(exact zfR oc)|(exact zgs (i:=i) oc oc ol))];simp_all;done)|(rw[xaq] at hg1;obtain⟨hz,hg2⟩:=hg1;subst hz;simp_all;done))
def AZ (w:List Data):Prop:=∀t c,c∈zaA w t->TyIn w.length t->∀u∈zan w t c,u.data = -1->u.index=0
theorem zf9 {w:List Data} (hv:zaM w=true):AZ w:=by
 have hW:=(zdb w).1 hv;rintro ⟨a,k⟩ c hc ht u hu hd
 obtain⟨d,rfl,h1,j,rfl,h3⟩:=za1 ht hc;have hco:=hW.ctor _ (zad h1) _ (zad h3);simp only[za4,xad,xah,Bool.not_eq_true',List.any_eq_false,Bool.not_eq_false'] at hco;have hall:=hco.2.2.2;simp only[zan,Int.toNat_natCast] at hu;obtain⟨x,hx,rfl⟩:=List.mem_map.1 hu;have hxo:=hall x hx;simp only[za9,zac,Bool.or_eq_true,xad,xah,and_true,Bool.not_eq_true',Bool.not_eq_false] at hxo;unfold zbZ at hd ⊢;split at hd
 ·rename_i hi;rw[if_pos hi];dsimp only at hd ⊢;omega
 ·rename_i hi;rw[if_neg hi];omega
theorem zbd {n:Nat}{t:Ty} (h:zaI n t=true):TyOk n t:=by
 refine⟨zfi h,fun hd=>?_⟩;simp only[zaI,zac,Bool.or_eq_true,xad,xah,and_true] at h;omega
theorem zfj {w:List Data} (hw:WT w) (haz:AZ w){funs:List Ft} (hf:∀f∈funs,TyOk w.length f.arg){t:Ty} (ht:TyOk w.length t){e:Ex}:∀u∈zak w funs t e,TyOk w.length u:=by
 intro u hu;refine⟨zkh hw (fun f h=>(hf f h).1) ht.1 u hu,fun hd=>?_⟩;unfold zak at hu;split at hu
 ·split at hu
  ·rename_i h;exact haz t e.ctor h.2 ht.1 u hu hd
  ·simp at hu
 ·split at hu
  ·simp only[List.mem_cons,xau,or_false,or_self] at hu;rw[hu] at hd ⊢;exact ht.2 hd
  ·split at hu
   ·split at hu
    ·rename_i h;simp only[List.mem_cons,xau,or_false] at hu;rw[hu] at hd ⊢;exact(hf _ (zad oc)).2 hd
    ·simp at hu
   ·simp at hu
theorem zcN {a b:Ty}:FnD Tryz.prog 165 [.agg [.d (.i a.data),.d (.i a.index)],.agg [.d (.i b.data),.d (.i b.index)]] [] (.d (.bool (ze5 a b))) []:=by
 refine bd Tryz.f165 22 [] [] fun _ _ _ _ hk=>?_;refine bx 3002 ?_;refine bx 3003 ?_;refine ev ?_;apply sq<;>intro h1 h1p h1s;apply sq<;>intro h2 h2p h2s;refine rq ?_;rotate_left;refine rq ?_;rotate_left;refine rq ?_;rotate_left;all_goals (refine xam D.bool ?_;unfold ze5;simp_all)
def numT:Ty:=⟨-1,0⟩
def zdI (w:List Data) (funs:List Ft) (t:Ty) (e:Ex):List Ty:=
 if (e.op≠3/\e.ctor≠0)\/((e.op=3\/e.op=4)/\e.n≠0) then [] else if e.op=4 then [numT,numT] else zak w funs t e
theorem znh {w:List Data}{funs:List Ft}{vars:List Vt}{t:Ty} (ht:TyOk w.length t){e:Ex} (h:okE w funs vars t e=true):zdI w funs t e=zak w funs t e:=by
 have hop:e.op=1\/e.op=2\/e.op=3\/e.op=4\/e.op=5:=by
  by_cases h0:e.op≠1/\e.op≠2/\e.op≠3/\e.op≠4/\e.op≠5
  ·rw[ok_0 h0] at h;exact absurd h oe
  ·omega
 unfold zdI;rcases hop with h1|h1|h1|h1|h1
 ·rw[ok_1 h1] at h;have:=xas h;rw[if_neg oc,if_neg oc]
 ·rw[ok_2 h1] at h;simp only[xad,xah] at h;rw[if_neg oc,if_neg oc]
 ·rw[ok_3 h1] at h;have:=xas h;rw[if_neg oc,if_neg oc]
 ·rw[ok_4 h1] at h;have:=xas h;rw[if_neg oc,if_pos h1,ty_4 h1];have h2:=ht.2 this.1;have h3:t=numT:=by
   obtain⟨a,k⟩:=t;have h4:=this.1;dsimp only at h2 h4;rw[h4,h2];rfl
  rw[h3]
 ·rw[ok_5 h1] at h;simp only[xad,xah] at h;rw[if_neg oc,if_neg oc]
section
variable {w:List Data}{funs:List Ft}{vars:List Vt}{t:Ty}{e:Ex}
theorem ts_x (h:(e.op≠3/\e.ctor≠0)\/((e.op=3\/e.op=4)/\e.n≠0)):zdI w funs t e=[]:=by unfold zdI;rw[if_pos h]
theorem ts_4 (h:¬((e.op≠3/\e.ctor≠0)\/((e.op=3\/e.op=4)/\e.n≠0))) (h4:e.op=4):zdI w funs t e=[numT,numT]:=by unfold zdI;rw[if_neg h,if_pos h4]
theorem ts_o (h:¬((e.op≠3/\e.ctor≠0)\/((e.op=3\/e.op=4)/\e.n≠0))) (h4:e.op≠4):zdI w funs t e=zak w funs t e:=by unfold zdI;rw[if_neg h,if_neg h4]
theorem ok_x (h:(e.op≠3/\e.ctor≠0)\/((e.op=3\/e.op=4)/\e.n≠0)):okE w funs vars t e=false:=by
 unfold okE;split
 ·exact xaw oc
 ·split
  ·rw[xaw (p:=e.ctor=0) oc,Bool.and_false,Bool.and_false]
  ·split
   ·exact xaw oc
   ·split
    ·exact xaw oc
    ·split
     ·rw[xaw oc,Bool.false_and]
     ·rfl
end
theorem zja {w:List Data}{funs:List Ft}{vars:List Vt} (hw:WT w) (hfl:funs.length<=1000000000000) (hvl:vars.length<=1000000000000){t:Ty} (ht:TyOk w.length t){e:Ex}:
  FnD Tryz.prog 241 [.d (zae w),.d (za6 funs),.d (zaU vars),.agg [.d (.i t.data),.d (.i t.index)],.agg [.d (.i e.op),.d (.i e.n),.d (.i e.ctor),.d (zay e.kids)]] [] (.tup [.d (zaR (zdI w funs t e)),.d (.bool (okE w funs vars t e))]) []:=by
 have ht':TyIn w.length ⟨t.data,t.index⟩:=ht.1;have hcl:=zeG hw ht';have hlt:=fun h=>zeR (l:=vars) (n:=e.n) h;have hvt:0<=zaF vars e.n->zd8 vars e.n=(nth vars (zaF vars e.n).toNat).ty:=fun h=>by unfold zd8;rw[if_pos h]
 have hte:t=numT↔(t.data = -1/\t.index=0):=by
  constructor
  ·intro h;rw[h];exact⟨rfl,rfl⟩
  ·rintro ⟨h1,h2⟩;obtain⟨a,k⟩:=t;dsimp only at h1 h2;rw[h1,h2];rfl
 have ht2:=ht.2;by_cases hx:(e.op≠3/\e.ctor≠0)\/((e.op=3\/e.op=4)/\e.n≠0)
 ·rw[ts_x hx,ok_x hx];refine bd Tryz.f241 123 [] [2] fun _ _ _ _ hk=>?_;refine bx 3008 ?_;refine bx 3009 ?_;refine ev (bu [0] [_] st38 ?_);refine ab 3012 tz38 ?_;refine so ty38 ?_;apply tv;refine xaA (xa6 23 [(37,.d (.bool (decide ((e.op≠3/\e.ctor≠0)\/((e.op=3\/e.op=4)/\e.n≠0)))))] [15,16,17,18,19,20,21,22,23,24,25,26,27,28,29,30,31,32,33,34,35,36] ?_ ?_);refine ev ?_;apply sq<;>intro h1 h1p h1s;apply sq<;>intro h2 h2p h2s;focus (exact jn Z (xaK (by((rw[xat];simp_all;done)))))
  apply sq<;>intro h3 h3p h3s;refine sqT ?_;focus (exact jn Z (xaK (by((rw[xat];simp_all;done)))))
  apply sq<;>intro h4 h4p h4s;focus (exact jn Z (xaK (by((rw[xat];simp_all;done)))))
  focus (exact jn Z (xaK (by((rw[xat];simp_all;done)))))
  refine sqF ?_;apply sq<;>intro h5 h5p h5s;refine sqT ?_;focus (exact jn Z (xaK (by((rw[xat];simp_all;done)))))
  apply sq<;>intro h6 h6p h6s;focus (exact jn Z (xaK (by((rw[xat];simp_all;done)))))
  focus (exact jn Z (xaK (by((rw[xat];simp_all;done)))))
  refine xa5 ?_;apply tv;apply sq<;>intro h7 h7p h7s;refine rn0 (r2 Z Z) (.tup (qne ?_ ?_));rotate_left 2;focus (exfalso;(simp_all;done))
  all_goals (rfl)
 by_cases hmem:e.ctor∈zaA w t
 ·have hmem':e.ctor∈zaA w ⟨t.data,t.index⟩:=hmem;have hcon:=zb3 (v:=e.ctor) hcl;refine bd Tryz.f241 123 [45,81] [2] fun _ _ _ _ hk=>?_;refine bx 3008 ?_;refine bx 3009 ?_;refine evs [45,81] [] (bu [0] [_] st38 ?_);refine ab 3012 tz38 ?_;refine so ty38 ?_;apply tv;refine xaA (xa6 23 [(37,.d (.bool (decide ((e.op≠3/\e.ctor≠0)\/((e.op=3\/e.op=4)/\e.n≠0)))))] [15,16,17,18,19,20,21,22,23,24,25,26,27,28,29,30,31,32,33,34,35,36] ?_ ?_);refine evs [45,81] [] ?_;apply sq<;>intro h1 h1p h1s;apply sq<;>intro h2 h2p h2s;focus (exact jn Z (xaK (by((rw[xat];simp_all;done)))))
  apply sq<;>intro h3 h3p h3s;refine sqT ?_;focus (exact jn Z (xaK (by((rw[xat];simp_all;done)))))
  apply sq<;>intro h4 h4p h4s;focus (exact jn Z (xaK (by((rw[xat];simp_all;done)))))
  focus (exact jn Z (xaK (by((rw[xat];simp_all;done)))))
  refine sqF ?_;apply sq<;>intro h5 h5p h5s;refine sqT ?_;focus (exact jn Z (xaK (by((rw[xat];simp_all;done)))))
  apply sq<;>intro h6 h6p h6s;focus (exact jn Z (xaK (by((rw[xat];simp_all;done)))))
  focus (exact jn Z (xaK (by((rw[xat];simp_all;done)))))
  refine xa5 ?_;apply tv;apply sq<;>intro h7 h7p h7s;try simp only[Q] at h7p
  exfalso;apply hx;omega;apply sq<;>intro h8 h8p h8s<;>(try simp only[Q] at h8p);refine xbu zau .none Z (evd [45,81] [] (xbg eq38 .none Z Z Z Z Z (evd [45,81] [] ?_)));apply sq<;>intro h9 h9p h9s<;>(try simp only[Q] at h9p);apply sq<;>intro h10 h10p h10s<;>(try simp only[Q] at h10p);refine dr (rn0 (r2 Z Z) (.tup (qee ?_ ?_)));rotate_left 2;refine dr (rn0 (r2 Z Z) (.tup (qee ?_ ?_)));rotate_left 2;refine sqF ?_;refine dr (rn0 (r2 Z Z) (.tup (qee ?_ ?_)));rotate_left 2;apply sq<;>intro h11 h11p h11s<;>(try simp only[Q] at h11p);refine wc zgw (zcu hvl) Z Z ?_;refine evs [45,81] [] (xbu zau .none Z (evd [45,81] [] ?_));apply sq<;>intro h12 h12p h12s<;>(try simp only[Q] at h12p);refine xbh (i:=(zaF vars e.n).toNat) sl36 (.some Z Z h12) Z Z Z (by have:=hlt oc;omega) (zaf (by have:=hlt oc;omega)) Z ?_;refine evd [45,81] [(65,true)] ?_ ⟨⟨_,Z,h12⟩,O⟩;refine Walk.call (cr:=[]) zil (zcN (a:=(nth vars (zaF vars e.n).toNat).ty) (b:=t)) Z (.some Z Z h12) Z Z (LeL.refl _) O Z Z Z (evd [45,81] [(65,true)] ?_ ⟨⟨_,Z,h12⟩,O⟩);refine dr (rn0 (r2 Z Z) (.tup (qee ?_ ?_)));rotate_left 2;refine dr (rn0 (r2 Z Z) (.tup (qee ?_ ?_)));rotate_left 2;apply sq<;>intro h13 h13p h13s<;>(try simp only[Q] at h13p);refine si [0,1] [_,_] zau tz38 ?_;refine evd [45,81] [] (xbg eq38 .none Z Z Z Z Z (evd [45,81] [] (dr (rn0 (r2 Z Z) (.tup (qee ?_ ?_))))));rotate_left 2;apply sq<;>intro h14 h14p h14s<;>(try simp only[Q] at h14p);refine wc zfy (zbW hw ht') Z Z ?_;refine evd [45,81] [] (wc zfz hcon Z Z ?_);refine evd [45,81] [] (dr ?_);apply sq<;>intro h15 h15p h15s<;>(try simp only[Q] at h15p);refine rn0 (r2 Z Z) (.tup (qne ?_ ?_));rotate_left 2;refine wc zik (zdh hw ht' hmem') Z Z ?_;refine evs [45,81] [] (rn0 (r2 Z Z) (.tup (qee ?_ ?_)));rotate_left 2;apply sq<;>intro h16 h16p h16s<;>(try simp only[Q] at h16p);apply sq<;>intro h17 h17p h17s<;>(try simp only[Q] at h17p);refine sqT ?_;refine rn0 (r2 Z Z) (.tup (qne ?_ ?_));rotate_left 2;apply sq<;>intro h19 h19p h19s<;>(try simp only[Q] at h19p);refine rn0 (r2 Z Z) (.tup (qne ?_ ?_));rotate_left 2;refine ixq (i:=e.n.toNat) sl35 Z Z oc (zaf oc) Z ?_;refine evd [45,81] [] (si [0] [_] zau tz38 ?_);refine evd [45,81] [] (ixq (i:=e.n.toNat) sl35 Z Z oc (zaf oc) Z ?_);refine evd [45,81] [] (wc zil (zcN (a:=(nth funs e.n.toNat).res) (b:=t)) Z Z ?_);refine evd [45,81] [] (dr (rn0 (r2 Z Z) (.tup (qee ?_ ?_))));rotate_left 2;refine rn0 (r2 Z Z) (.tup (qne ?_ ?_));rotate_left 2;all_goals (first|(rw[ts_4 hx oc];all_goals rfl)|(rw[ts_o hx oc,ty_0 oc];all_goals rfl)|(rw[ts_o hx oc,ty_3 oc oc hmem];all_goals rfl)|(rw[ts_o hx oc,zhn oc oc];all_goals rfl)|(rw[ts_o hx oc,ty_5 oc oc];all_goals rfl)|(refine xam D.bool ?_;rw[ok_1 oc,xaw oc];done)|(refine xam D.bool ?_;rw[ok_1 oc];simp_all;done)|(refine xam D.bool ?_;rw[ok_2 oc,xaw oc,Bool.false_and];done)|(refine xam D.bool ?_;rw[ok_2 oc,hvt oc];simp_all;done)|(refine xam D.bool ?_;rw[ok_3 oc];simp_all;done)|(refine xam D.bool ?_;rw[ok_4 oc];simp_all;done)|(refine xam D.bool ?_;rw[ok_5 oc];first|(rw[xax oc,Bool.true_and];done)|(rw[xaw oc,Bool.false_and];done))|(refine xam D.bool ?_;rw[ok_0 oc];done)|(exfalso;simp_all;done))
 ·have hmem':e.ctor∉zaA w ⟨t.data,t.index⟩:=hmem;have hcon:=zb3 (v:=e.ctor) hcl;rw[xaw hmem'] at hcon;refine bd Tryz.f241 123 [45,81] [2] fun _ _ _ _ hk=>?_;refine bx 3008 ?_;refine bx 3009 ?_;refine evs [45,81] [] (bu [0] [_] st38 ?_);refine ab 3012 tz38 ?_;refine so ty38 ?_;apply tv;refine xaA (xa6 23 [(37,.d (.bool (decide ((e.op≠3/\e.ctor≠0)\/((e.op=3\/e.op=4)/\e.n≠0)))))] [15,16,17,18,19,20,21,22,23,24,25,26,27,28,29,30,31,32,33,34,35,36] ?_ ?_);refine evs [45,81] [] ?_;apply sq<;>intro h1 h1p h1s;apply sq<;>intro h2 h2p h2s;focus (exact jn Z (xaK (by((rw[xat];simp_all;done)))))
  apply sq<;>intro h3 h3p h3s;refine sqT ?_;focus (exact jn Z (xaK (by((rw[xat];simp_all;done)))))
  apply sq<;>intro h4 h4p h4s;focus (exact jn Z (xaK (by((rw[xat];simp_all;done)))))
  focus (exact jn Z (xaK (by((rw[xat];simp_all;done)))))
  refine sqF ?_;apply sq<;>intro h5 h5p h5s;refine sqT ?_;focus (exact jn Z (xaK (by((rw[xat];simp_all;done)))))
  apply sq<;>intro h6 h6p h6s;focus (exact jn Z (xaK (by((rw[xat];simp_all;done)))))
  focus (exact jn Z (xaK (by((rw[xat];simp_all;done)))))
  refine xa5 ?_;apply tv;apply sq<;>intro h7 h7p h7s;try simp only[Q] at h7p
  exfalso;apply hx;omega;apply sq<;>intro h8 h8p h8s<;>(try simp only[Q] at h8p);refine xbu zau .none Z (evd [45,81] [] (xbg eq38 .none Z Z Z Z Z (evd [45,81] [] ?_)));apply sq<;>intro h9 h9p h9s<;>(try simp only[Q] at h9p);apply sq<;>intro h10 h10p h10s<;>(try simp only[Q] at h10p);refine dr (rn0 (r2 Z Z) (.tup (qee ?_ ?_)));rotate_left 2;refine dr (rn0 (r2 Z Z) (.tup (qee ?_ ?_)));rotate_left 2;refine sqF ?_;refine dr (rn0 (r2 Z Z) (.tup (qee ?_ ?_)));rotate_left 2;apply sq<;>intro h11 h11p h11s<;>(try simp only[Q] at h11p);refine wc zgw (zcu hvl) Z Z ?_;refine evs [45,81] [] (xbu zau .none Z (evd [45,81] [] ?_));apply sq<;>intro h12 h12p h12s<;>(try simp only[Q] at h12p);refine xbh (i:=(zaF vars e.n).toNat) sl36 (.some Z Z h12) Z Z Z (by have:=hlt oc;omega) (zaf (by have:=hlt oc;omega)) Z ?_;refine evd [45,81] [(65,true)] ?_ ⟨⟨_,Z,h12⟩,O⟩;refine Walk.call (cr:=[]) zil (zcN (a:=(nth vars (zaF vars e.n).toNat).ty) (b:=t)) Z (.some Z Z h12) Z Z (LeL.refl _) O Z Z Z (evd [45,81] [(65,true)] ?_ ⟨⟨_,Z,h12⟩,O⟩);refine dr (rn0 (r2 Z Z) (.tup (qee ?_ ?_)));rotate_left 2;refine dr (rn0 (r2 Z Z) (.tup (qee ?_ ?_)));rotate_left 2;apply sq<;>intro h13 h13p h13s<;>(try simp only[Q] at h13p);refine si [0,1] [_,_] zau tz38 ?_;refine evd [45,81] [] (xbg eq38 .none Z Z Z Z Z (evd [45,81] [] (dr (rn0 (r2 Z Z) (.tup (qee ?_ ?_))))));rotate_left 2;apply sq<;>intro h14 h14p h14s<;>(try simp only[Q] at h14p);refine wc zfy (zbW hw ht') Z Z ?_;refine evd [45,81] [] (wc zfz hcon Z Z ?_);refine evd [45,81] [] (dr ?_);apply sq<;>intro h15 h15p h15s<;>(try simp only[Q] at h15p);refine rn0 (r2 Z Z) (.tup (qne ?_ ?_));rotate_left 2;exfalso;simp_all;apply sq<;>intro h16 h16p h16s<;>(try simp only[Q] at h16p);apply sq<;>intro h17 h17p h17s<;>(try simp only[Q] at h17p);refine sqT ?_;refine rn0 (r2 Z Z) (.tup (qne ?_ ?_));rotate_left 2;apply sq<;>intro h19 h19p h19s<;>(try simp only[Q] at h19p);refine rn0 (r2 Z Z) (.tup (qne ?_ ?_));rotate_left 2;refine ixq (i:=e.n.toNat) sl35 Z Z oc (zaf oc) Z ?_;refine evd [45,81] [] (si [0] [_] zau tz38 ?_);refine evd [45,81] [] (ixq (i:=e.n.toNat) sl35 Z Z oc (zaf oc) Z ?_);refine evd [45,81] [] (wc zil (zcN (a:=(nth funs e.n.toNat).res) (b:=t)) Z Z ?_);refine evd [45,81] [] (dr (rn0 (r2 Z Z) (.tup (qee ?_ ?_))));rotate_left 2;refine rn0 (r2 Z Z) (.tup (qne ?_ ?_));rotate_left 2;all_goals (first|(rw[ts_4 hx oc];all_goals rfl)|(rw[ts_o hx oc,ty_0 oc];all_goals rfl)|(rw[ts_o hx oc,znY oc hmem];all_goals rfl)|(rw[ts_o hx oc,zhn oc oc];all_goals rfl)|(rw[ts_o hx oc,ty_5 oc oc];all_goals rfl)|(refine xam D.bool ?_;rw[ok_1 oc,xaw oc];done)|(refine xam D.bool ?_;rw[ok_1 oc];simp_all;done)|(refine xam D.bool ?_;rw[ok_2 oc,xaw oc,Bool.false_and];done)|(refine xam D.bool ?_;rw[ok_2 oc,hvt oc];simp_all;done)|(refine xam D.bool ?_;rw[ok_3 oc];simp_all;done)|(refine xam D.bool ?_;rw[ok_4 oc];simp_all;done)|(refine xam D.bool ?_;rw[ok_5 oc];first|(rw[xax oc,Bool.true_and];done)|(rw[xaw oc,Bool.false_and];done))|(refine xam D.bool ?_;rw[ok_0 oc];done))
theorem zeZ {w:List Data}{funs:List Ft}{vars:List Vt} (hw:WT w) (haz:AZ w) (hfl:funs.length<=1000000000000) (hvl:vars.length<=1000000000000) (hfa:∀f∈funs,TyOk w.length f.arg):∀(n:Nat){t:Ty}{m:Int}{e:Ex},m=n->n<=1000->TyOk w.length t->e.ok->
  FnD Tryz.prog 161 [.d (zae w),.d (za6 funs),.d (zaU vars),.agg [.d (.i t.data),.d (.i t.index)],.agg [.d (.i e.op),.d (.i e.n),.d (.i e.ctor),.d (zay e.kids)],.d (.i m)] [] (.d (.bool (zaS w funs vars n t e))) []
 |0,t,m,e,hm,_,_,_=>by
  refine bd Tryz.f161 59 [] [] fun _ _ _ _ hk=>?_;refine bx 3009 ?_;refine bx 3010 ?_;refine ev ?_;apply sq<;>intro h1 h1p h1s;refine rq ?_;rotate_left;try simp only[Q] at h1p
  exfalso;omega;all_goals (rfl)
 |n+1,t,m,e,hm,hn,ht,hok=>by
  rw[xaF] at hok;have hkd:=zja hw hfl hvl ht (e:=e) (funs:=funs) (vars:=vars);have htl:=zjk hw ht.1 (funs:=funs) (e:=e);have hti:=zfj hw haz hfa ht (e:=e);cases ho:okE w funs vars t e with
  |false=>
   have hsc:zaS w funs vars (n+1) t e=false:=by
    conv=>lhs;unfold zaS zc8
    rw[ho];rfl
   rw[ho] at hkd;rw[hsc];refine bd Tryz.f161 59 [] [] fun _ _ _ _ hk=>?_;refine bx 3009 ?_;refine bx 3010 ?_;refine ev ?_;apply sq<;>intro h1 h1p h1s;try simp only[Q] at h1p
   exfalso;omega;refine wc zkP hkd Z Z ?_;refine ev ?_;apply sq<;>intro h2 h2p h2s;refine sqT ?_;refine rq ?_;rotate_left;apply sq<;>intro h4 h4p h4s;refine rq ?_;rotate_left;exfalso;simp_all;all_goals (rfl)
  |true=>
   rw[ho,znh ht ho] at hkd;by_cases hlen:(zak w funs t e).length=e.kids.length
   ·have hsc:zaS w funs vars (n+1) t e=all2 (zaS w funs vars n) (zak w funs t e) e.kids:=by
     conv=>lhs;unfold zaS zc8
     rw[ho,xax hlen];rfl
    rw[hsc];refine bd Tryz.f161 59 [] [] fun _ _ _ _ hk=>?_;refine bx 3009 ?_;refine bx 3010 ?_;refine ev ?_;apply sq<;>intro h1 h1p h1s;try simp only[Q,xaE] at h1p
    exfalso;omega;refine wc zkP hkd Z Z ?_;refine ev ?_;apply sq<;>intro h2 h2p h2s;refine sqT ?_;focus (exfalso;(simp_all[xaE];done))
    apply sq<;>intro h4 h4p h4s;try simp only[Q,xaE] at h4p
    focus (exfalso;omega)
    refine xaz (ι:=Nat) hk (fun i=>[(15,.d (.i (i:Int)))]) [12,37,38,39,40,41,42,43,44,45,46,47,48,49,50,51,52,53,54,55,56,57,58] (fun i=>[]) (fun i=>i<=(zak w funs t e).length/\∀i',i'<i->zaS w funs vars n (nth (zak w funs t e) i') (nth e.kids i')=true) (fun i=>(zak w funs t e).length-i) 0 ⟨by omega,fun _ h=>absurd h oc⟩ ⟨⟨_,Z,xaL ?_⟩,O⟩ O (fun x=>rfl) (fun i hg1=>?_);focus (rfl)
    refine evc [] [] ?_;apply sq<;>intro h5 h5p h5s<;>(try simp only[Q,xaE] at h5p);refine ixq zau Z Z Z (zaf oc) Z ?_;refine evd [] [] (ixq sl39 Z Z Z (zbN oc) Z ?_);refine evd [] [] (ar (wc zmu (zeZ hw haz hfl hvl hfa n (t:=nth (zak w funs t e) i) oc oc (hti _ (zad oc)) (xaH hok.2 _ (zad oc))) Z Z ?_));refine evd [] [] (dr ?_);apply sq<;>intro h6 h6p h6s;refine rq ?_;rotate_left;try simp only[Q,xaE] at h6p
    refine ar (xaj (i+1) ⟨⟨by omega,zaw hg1.2 ol⟩,oc,sx ⟨⟨_,Z,xaL ?_⟩,O⟩ O⟩);focus (rfl)
    refine rq ?_;rotate_left;all_goals (refine xam D.bool ?_;first|(refine(zbJ oc (fun x hx=>hg1.2 x oc)).symm)|(refine(za8 (i:=i) oc oc ?_).symm;simp_all))
   ·have hsc:zaS w funs vars (n+1) t e=false:=by
     conv=>lhs;unfold zaS zc8
     rw[ho,xaw hlen];rfl
    rw[hsc];refine bd Tryz.f161 59 [] [] fun _ _ _ _ hk=>?_;refine bx 3009 ?_;refine bx 3010 ?_;refine ev ?_;apply sq<;>intro h1 h1p h1s;try simp only[Q,xaE] at h1p
    exfalso;omega;refine wc zkP hkd Z Z ?_;refine ev ?_;apply sq<;>intro h2 h2p h2s;refine sqT ?_;refine rq ?_;rotate_left;apply sq<;>intro h4 h4p h4s;refine rq ?_;rotate_left;try simp only[Q,xaE] at h4p
    exfalso;omega;all_goals (rfl)
theorem zeY:∀(n:Nat){v:Ex}{m:Int},v.size<=n->v.size<=1000000000000->v.ok->0<=m->m<=1000000000000->FnD Tryz.prog 162 [.agg [.d (.i v.op),.d (.i v.n),.d (.i v.ctor),.d (zay v.kids)],.d (.i m)] [] (.d (.i (cntE m v))) []
 |0,v,m,h,_,_,_,_=>by rw[xaG] at h;omega
 |n+1,v,m,h,hb,hok,m0,m1=>by
  rw[xaG] at h hb;rw[xaF] at hok;rw[zn8];refine bd Tryz.f162 31 [] [] fun _ _ _ _ hk=>?_;refine bx 3002 ?_;refine ev (xaz (ι:=Nat×Int) hk (fun x=>[(6,.d (.i (x.1:Int))),(5,.d (.i x.2))]) [7,8,9,10,11,12,13,14,15,16,17,18,19,20,21,22,23,24,25,26,27,28,29] (fun x=>[]) (fun x=>x.1<=v.kids.length/\zb5 m x.2 (v.kids.drop x.1)=zb5 m 1 v.kids/\1<=x.2/\x.2+Exs.size (v.kids.drop x.1)<=1+Exs.size v.kids) (fun x=>v.kids.length-x.1) (0,1) ⟨by simp,by simp,by simp,by simp⟩ ⟨⟨_,Z,xaL ?_⟩,⟨⟨_,Z,xaL ?_⟩,O⟩⟩ O (fun x=>rfl) (fun x hg1=>?_));iterate 2 focus (rfl)
  refine evc [] [] ?_;apply sq<;>intro h1 h1p h1s<;>(try simp only[Q,xaE] at h1p);apply sq<;>intro h2 h2p h2s<;>(try simp only[Q,xaE] at h2p);refine ixq sl39 Z Z Z (zbN oc) Z ?_;refine ev (ar ?_ (by(constructor<;>omega)));refine wc zmv (zeY n (v:=nth v.kids x.1) (by have:=zjY (l:=v.kids) (i:=x.1) oc;omega) (by have:=zjY (l:=v.kids) (i:=x.1) oc;omega) (xaH hok.2 _ (zad oc)) oc oc) Z Z ?_;refine ev (ar ?_ (by(have hz:=zhf (nth v.kids x.1) (m-x.2);have hs:=ziw (l:=v.kids) (i:=x.1) oc;constructor<;>omega)));refine ar ?_ (by(constructor<;>omega));refine xaj ((x.1+1,x.2+cntE (m-x.2) (nth v.kids x.1))) ⟨(by
      obtain⟨h1,h2,h3,h4⟩:=hg1;have hz:=zhf (nth v.kids x.1) (m-x.2);have hs:=ziw (l:=v.kids) (i:=x.1) oc;refine⟨by dsimp only;omega, ?_,by dsimp only;omega,by dsimp only;omega⟩;rw[<-h2,zbh (l:=v.kids) (i:=x.1) oc,zb5,if_pos oc]),(by dsimp only;omega),sx ⟨⟨_,rfl,xaL ?_⟩,⟨⟨_,rfl,xaL ?_⟩,trivial⟩⟩ trivial⟩
  iterate 2 focus (rfl)
  refine rq ?_;rotate_left;refine sqF ?_;refine rq ?_;rotate_left;all_goals (refine xam D.i ?_;rw[<-hg1.2.1];first|(rw[List.drop_eq_nil_of_le oc];rfl)|(rw[zit oc]))
theorem zkv {w:List Data}{funs:List Ft}{vars:List Vt} (hw:WT w) (haz:AZ w) (hfl:funs.length<=1000000000000) (hvl:vars.length<=1000000000000) (hfa:∀f∈funs,TyOk w.length f.arg){t:Ty}{e:Ex} (ht:TyOk w.length t) (hok:e.ok) (hsz:e.size<=1000000000000):
  FnD Tryz.prog 82 [.d (zae w),.d (za6 funs),.d (zaU vars),.agg [.d (.i t.data),.d (.i t.index)],.agg [.d (.i e.op),.d (.i e.n),.d (.i e.ctor),.d (zay e.kids)]] [] (.d (.bool (isE w funs vars t e))) []:=by
 have hc:=zkV e 60;refine bd Tryz.f82 22 [] [] fun _ _ _ _ hk=>?_;refine bx 3008 ?_;refine bx 3009 ?_;refine ev (wc zmu (zeZ hw haz hfl hvl hfa 10 Z oc ht hok) Z Z ?_);refine ev ?_;apply sq<;>intro h1 h1p h1s;refine Walk.call (cr:=[]) zmv (zeY _ (Nat.le_refl _) hsz hok oc oc) Z (.some Z Z h1) Z Z (LeL.refl _) O Z Z Z ?_;refine evs [] [(17,true)] ?_ ⟨⟨_,Z,h1⟩,O⟩;refine rq ?_;rotate_left;refine rq ?_;rotate_left;all_goals (refine xam D.bool ?_;unfold isE;(simp_all;done))
theorem zhJ {w:List Data}{a b:Int}:FnD Tryz.prog 142 [.d (zae w),.agg [.d (.i a),.d (.i b)]] [] (.d (.bool (zaI w.length ⟨a,b⟩))) []:=by
 have e:(za9 w.length ⟨a,b⟩&&decide (0<=b))=zaI w.length ⟨a,b⟩:=by
  rw[xat];simp only[za9,zaI,zac,xad,Bool.or_eq_true,xah,and_true];omega
 rw[<-e];exact zg6
theorem zi9 {w:List Data}{funs:List Ft} (hs:w.length<=1000000000000) (hfl:funs.length<=1000000000000):FnD Tryz.prog 69 [.d (zae w),.d (za6 funs)] [] (.d (.bool (zbx w funs))) []:=by
 have hbad:∀i,i<funs.length->(zaI w.length (nth funs i).arg&&zaI w.length (nth funs i).res)=false->zbx w funs=false:=fun i hi h=>by
  unfold zbx;have:funs.any (fun f=> !(zaI w.length f.arg&&zaI w.length f.res))=true:=List.any_eq_true.2 ⟨nth funs i,zad hi,by rw[h];rfl⟩;rw[this];simp
 have hgood:funs.length<=4->(∀i,i<funs.length->(zaI w.length (nth funs i).arg&&zaI w.length (nth funs i).res)=true)->zbx w funs=true:=fun h4 h=>by
  unfold zbx;rw[xax oc,Bool.true_and,Bool.not_eq_true',List.any_eq_false];intro f hf;obtain⟨i,hi,rfl⟩:=List.getElem_of_mem hf;have:=h i hi;simp only[nth,List.getD,xan hi,Option.getD_some] at this;simp[this]
 have hmany:4<funs.length->zbx w funs=false:=fun h=>by unfold zbx;rw[xaw oc,Bool.false_and]
 refine bd Tryz.f69 37 [] [] fun _ _ _ _ hk=>?_;refine xaz (ι:=Nat) hk (fun i=>[(5,.d (.i (i:Int)))]) [4,6,7,8,9,10,11,12,13,14,15,16,17,18,19,20,21,22,23,24,25,26,27,28,29,30,31,32,33] (fun i=>[]) (fun i=>i<=funs.length/\i<=5/\∀i',i'<i->(zaI w.length (nth funs i').arg&&zaI w.length (nth funs i').res)=true) (fun i=>5-i) 0 ⟨by omega,by omega,fun _ h=>absurd h oc⟩ ⟨⟨_,Z,xaL ?_⟩,O⟩ O (fun x=>rfl) (fun i hg1=>?_);focus (rfl)
 refine evc [] [] ?_;apply sq<;>intro h1 h1p h1s<;>(try simp only[Q,xac] at h1p);apply sq<;>intro h2 h2p h2s<;>(try simp only[Q,xac] at h2p);refine ixq sl35 Z Z Z (zaf oc) Z ?_;refine ev (wc zkL (zhJ (a:=(nth funs i).arg.data) (b:=(nth funs i).arg.index)) Z Z ?_);refine ev ?_;apply sq<;>intro h3 h3p h3s<;>(try simp only[Q,xac] at h3p);refine sqT ?_;refine rq ?_;rotate_left;refine xbh sl35 (.some Z Z h3) Z Z Z Z (zaf oc) Z ?_;refine evs [] [(24,false)] ?_ ⟨⟨_,Z,h3⟩,O⟩;refine Walk.call (cr:=[]) zkL (zhJ (a:=(nth funs i).res.data) (b:=(nth funs i).res.index)) Z (.some Z Z h3) Z Z (LeL.refl _) O Z Z Z (evs [] [(24,false)] ?_ ⟨⟨_,Z,h3⟩,O⟩);apply sq<;>intro h5 h5p h5s<;>(try simp only[Q,xac] at h5p);refine rq ?_;rotate_left;refine ar (xaj (i+1) ⟨⟨by omega,by omega,zaw hg1.2.2 ol⟩,oc,sx ⟨⟨_,Z,xaL ?_⟩,O⟩ O⟩);focus (rfl)
 refine rq ?_;rotate_left;refine sqF ?_;refine rq ?_;rotate_left;all_goals (refine xam D.bool ?_;first|(rw[hbad i oc ol];done)|(by_cases h44:funs.length<=4<;>first|(rw[hgood h44 (fun x hx=>hg1.2.2 x oc)];exact xax oj)|(rw[hmany oc];exact xaw oj)))
theorem ze0 {l:List Fu} (hl:l.length<=1000000000000):FnD Tryz.prog 67 [.d (zb8 l)] [] (.d (za6 (l.map Fu.ty))) []:=by
 refine bd Tryz.f67 21 [] [] fun _ _ _ _ hk=>?_;refine xbv 1 sl35 .none Z Z (ev (xaz (ι:=List (Fu)×List (Fu)) hk (fun x=>[(4,.d (.i (x.1.length:Int))),(3,.gl 1 ((x.1.map Fu.ty).map Ft.c))]) [6,7,8,9,10,11,12,13,14,15,16,17,18,19] (fun x=>[(1,some (.tok (((x.1.map Fu.ty).map Ft.c)).length 4))]) (fun x=>x.1++x.2=l) (fun x=>x.2.length) ([],l) oe ⟨⟨_,Z,xaL ?_⟩,⟨⟨_,Z,LeA.glg ?_⟩,O⟩⟩ ⟨zai ?_,O⟩ (fun x=>rfl) (fun x hg1=>?_)));iterate 3 focus (rfl)
 obtain⟨pre,rest⟩:=x;dsimp only at hg1 ⊢;refine evc [] [] ?_;apply sq<;>intro h1 h1p h1s<;>(try simp only[Q] at h1p);rcases rest with _|⟨y,rest⟩
 ·exfalso;simp_all
 refine ixq sl24 Z Z Z (zaE hg1) Z (ev (si [0] [_] sl35 tz91 ?_));refine ap sl35 zz91 Z Z Z oe (by have hz:=xam List.length hg1;simp at hz ⊢;omega) ?_;refine ev (ar (xaj ((pre++[y],rest)) ⟨(by have hz:=hg1;rw[<-hz];simp),oe,sx ⟨⟨_,Z,xaL ?_⟩,⟨⟨_,Z,LeA.glg ?_⟩,O⟩⟩ ⟨zai ?_,O⟩⟩));iterate 3 focus ((simp;done))
 have hrest:rest=[]:=by
  rcases rest with _|⟨a,b⟩
  ·rfl
  ·exfalso;have hz:=xam List.length (hg1);simp only[xaa,xab,xac] at hz;omega
 subst hrest;refine rn0 (r1 Z) (.gld ?_);rotate_left;all_goals ((rw[xaq] at hg1;subst hg1;simp;done))
theorem zkk {w:List Data}{t:Ty}{p:Pat} (h:isP w t p=true):zbo w t p=zaq w 10 t p:=by
 unfold isP at h;simp only[xad,xah] at h;have e:=(zdV w 10 t p 0).1;have hw:zbb w 10 t p 0=true:=by
  unfold zbb;rw[h.1,h.2.2,xax oc];rfl
 rw[if_pos hw] at e;unfold zbo;rw[e];rfl
theorem zni {w:List Data}{t:Ty}{p:Pat} (h:isP w t p=true):zbO (zaq w 10 t p)=true:=by
 unfold isP at h;simp only[xad] at h;exact zfc w 10 t p h.1 h.2.2
theorem zlw {w:List Data} (hw:WT w) (haz:AZ w):∀(n:Nat){t:Ty}{p:Pat},zaj w n t p=true->TyOk w.length t->∀v∈zaq w n t p,TyOk w.length v.ty
 |0,t,p,h,_=>by simp[zaj] at h
 |n+1,t,p,h,ht=>by
  obtain⟨ho,hlen⟩:=zbz h;intro v hv;have hto:∀u∈zaa w t p,TyOk w.length u:=fun u hu=>by
   refine⟨zcy (a:=t.data) (k:=t.index) hw ht.1 ho u hu,fun hd=>?_⟩;unfold zaa at hu;split at hu
   ·rename_i h4;exact haz t p.ctor (zbM ho h4) ht.1 u hu hd
   ·split at hu
    ·simp only[List.mem_cons,xau,or_false,or_self] at hu;rw[hu] at hd ⊢;exact ht.2 hd
    ·split at hu
     ·simp only[List.mem_cons,xau,or_false] at hu;rw[hu] at hd ⊢;exact ht.2 hd
     ·simp at hu
  simp only[zaq,List.mem_append] at hv;rcases hv with hv|hv
  ·unfold zax at hv;split at hv
   ·simp only[List.mem_cons,xau,or_false] at hv;rw[hv];exact ht
   ·simp at hv
  ·have key:∀(a:List Ty) (b:List Pat),(∀i,i<a.length->i<b.length->∀v∈zaq w n (nth a i) (nth b i),TyOk w.length v.ty)->∀v∈zaG (zaq w n) a b,TyOk w.length v.ty:=by
    intro a;induction a with
    |nil=>intro b _ v hv;simp[zaG] at hv
    |cons x r ih=>
     intro b h v hv;cases b with
     |nil=>simp[zaG] at hv
     |cons y s=>
      simp only[zaG,List.mem_append] at hv;rcases hv with hv|hv
      ·exact h 0 oe oe v hv
      ·exact ih s (fun i h1 h2=>h (i+1) (by simpa using h1) (by simpa using h2)) v hv
   refine key (zbY w t p) p.kids (fun i h1 h2=>?_) v hv;have hvt:i<(zaa w t p).length/\nth (zbY w t p) i=nth (zaa w t p) i:=by
    unfold zbY at h1 ⊢;split at h1
    ·rename_i h5;rw[if_pos h5];rw[List.length_take] at h1;refine⟨by omega, ?_⟩;have:i=0:=by omega
     subst this;cases hT:zaa w t p with
     |nil=>rfl
     |cons a b=>rfl
    ·rename_i h5;rw[if_neg h5];exact⟨h1,rfl⟩
   rw[hvt.2];exact zlw hw haz n (zaW h oc) (hto _ (zad hvt.1))
def gdS (g:Gd) (vars:List Vt):Bool:=if g.op=0 then decide (g.var=0/\g.n=0) else decide (1<=g.op/\g.op<=2/\0<=g.n/\g.n<=9)&&(decide (0<=zaF vars g.var)&&decide ((nth vars (zaF vars g.var).toNat).ty.data = -1))
theorem zpv {n:Nat}{g:Gd}{vars:List Vt} (hn:zbO vars=true) (hv:∀v∈vars,TyOk n v.ty):gdS g vars=gdOk g vars:=by
 unfold gdS gdOk;split
 ·rfl
 ·congr 1
  have hnod:=xas hn;rw[xat];simp only[xad,xah];constructor
  ·rintro ⟨h1,h2⟩
   rcases zc4 vars g.var with ⟨h3,_⟩|⟨k,h3,h4,h5,_⟩
   ·omega
   ·rw[h3] at h2;simp only[Int.toNat_natCast] at h2;have hm:=zad h4;have ho:=(hv _ hm).2 h2;have:nth vars k=⟨g.var,⟨-1,0⟩⟩:=by
     generalize nth vars k=z at *;obtain⟨zv,⟨za,zk⟩⟩:=z;dsimp only at h5 h2 ho;rw[h5,h2,ho]
    rw[<-this];exact hm
  ·intro hm;rcases zc4 vars g.var with ⟨_,h4⟩|⟨k,h3,h4,h5,_⟩
   ·exact absurd Z (h4 _ hm)
   ·refine⟨by omega, ?_⟩;rw[h3];simp only[Int.toNat_natCast];obtain⟨j,hj,e⟩:=List.getElem_of_mem hm;have ej:nth vars j=⟨g.var,⟨-1,0⟩⟩:=by simp[nth,List.getD,hj,e]
    have:k=j:=zgV hnod h4 hj (by rw[h5,ej]);rw[this,ej]
theorem zjh {g:Gd}{vars:List Vt} (hv:vars.length<=1000000000000):FnD Tryz.prog 203 [.agg [.d (.i g.op),.d (.i g.var),.d (.i g.n)],.d (zaU vars)] [] (.d (.bool (gdS g vars))) []:=by
 have hlt:=fun h=>zeR (l:=vars) (n:=g.var) h;refine bd Tryz.f203 50 [] [3] fun _ _ _ _ hk=>?_;refine bx 3002 ?_;refine ev ?_;apply sq<;>intro h1 h1p h1s<;>(try simp only[Q] at h1p);apply sq<;>intro h2 h2p h2s<;>(try simp only[Q] at h2p);refine rq ?_;rotate_left;refine rq ?_;rotate_left;refine xaA (xa6 18 [(34,.d (.bool (decide (¬(1<=g.op/\g.op<=2/\0<=g.n/\g.n<=9)))))] [17,18,19,20,21,22,23,24,25,26,27,28,29,30,31,32,33] ?_ ?_);refine ev ?_;apply sq<;>intro h3 h3p h3s<;>(try simp only[Q] at h3p);apply sq<;>intro h4 h4p h4s<;>(try simp only[Q] at h4p);refine sqT ?_;focus (exact jn Z (xaK (by((rw[xat];simp_all;omega)))))
 apply sq<;>intro h5 h5p h5s<;>(try simp only[Q] at h5p);focus (exact jn Z (xaK (by((rw[xat];simp_all;done)))))
 focus (exact jn Z (xaK (by((rw[xat];simp_all;done)))))
 refine sqF ?_;apply sq<;>intro h6 h6p h6s<;>(try simp only[Q] at h6p);focus (exact jn Z (xaK (by((rw[xat];simp_all;done)))))
 focus (exact jn Z (xaK (by((rw[xat];simp_all;done)))))
 refine xa5 ?_;apply tv;apply sq<;>intro h7 h7p h7s<;>(try simp only[Q] at h7p);refine rq ?_;rotate_left;refine wc zgw (zcu hv) Z Z ?_;refine ev ?_;apply sq<;>intro h8 h8p h8s<;>(try simp only[Q] at h8p);refine xbh (i:=(zaF vars g.var).toNat) sl36 (.some Z Z h8) Z Z Z (by have:=hlt oc;omega) (zaf (by have:=hlt oc;omega)) Z ?_;refine evs [] [(41,true)] ?_ ⟨⟨_,Z,h8⟩,O⟩;refine rq ?_;rotate_left;refine rq ?_;rotate_left;all_goals (refine xam D.bool ?_;unfold gdS;first|(rw[if_pos oc];simp_all;done)|(rw[if_neg oc,xaw oc,Bool.false_and];done)|(rw[if_neg oc,xax oc,Bool.true_and,xaw oc,Bool.false_and];done)|(rw[if_neg oc];simp_all;done))
theorem zlp {w:List Data} (hw:WT w) (haz:AZ w){t:Ty}{c:Cl} (ht:TyOk w.length t) (hok:c.pat.ok) (hsz:c.pat.size<=1000000000000):
  FnD Tryz.prog 116 [.d (zae w),.agg [.d (.i t.data),.d (.i t.index)],.agg [.d (.i c.pat.op),.d (.i c.pat.ctor),.d (.i c.pat.n),.d (.i c.pat.m),.d (.i c.pat.var),.d (zal c.pat.kids),.d (.i c.g.op),.d (.i c.g.var),.d (.i c.g.n)]] [] (.d (.bool (clOk w t c))) []:=by
 have ht':TyIn w.length ⟨t.data,t.index⟩:=ht.1;have hcl:clOk w t c=(isP w t c.pat&&gdOk c.g (zbo w t c.pat)):=rfl;cases hp:isP w t c.pat with
 |false=>
  have hpi:=zg7 hw ht' hok hsz;have hpi':FnD Tryz.prog 103 [.d (zae w),.agg [.d (.i t.data),.d (.i t.index)],.agg [.d (.i c.pat.op),.d (.i c.pat.ctor),.d (.i c.pat.n),.d (.i c.pat.m),.d (.i c.pat.var),.d (zal c.pat.kids)]] [] (.d (.bool false)) []:=by rw[<-hp];exact hpi
  rw[hcl,hp,Bool.false_and];refine bd Tryz.f116 22 [] [] fun _ _ _ _ hk=>?_;refine bx 3004 ?_;refine bx 3005 ?_;refine ev (wc zmp hpi' Z Z ?_);refine evd [] [] ?_;apply sq<;>intro h1 h1p h1s<;>(try simp only[Q] at h1p);exfalso;contradiction;refine dr (rq ?_);rotate_left;all_goals (rfl)
 |true=>
  have hpi:=zg7 hw ht' hok hsz;have hpi':FnD Tryz.prog 103 [.d (zae w),.agg [.d (.i t.data),.d (.i t.index)],.agg [.d (.i c.pat.op),.d (.i c.pat.ctor),.d (.i c.pat.n),.d (.i c.pat.m),.d (.i c.pat.var),.d (zal c.pat.kids)]] [] (.d (.bool true)) []:=by rw[<-hp];exact hpi
  have hsh:zaj w 10 ⟨t.data,t.index⟩ c.pat=true:=by
   have:=hp;unfold isP at this;simp only[xad] at this;exact this.1
  have hvl:=zc0 w 10 ⟨t.data,t.index⟩ c.pat;have hge:=zpv (g:=c.g) (zni hp) (zlw hw haz 10 hsh ht);have hge':gdS c.g (zaq w 10 ⟨t.data,t.index⟩ c.pat)=gdOk c.g (zbo w t c.pat):=by rw[zkk hp];exact hge
  rw[hcl,hp,Bool.true_and,<-hge'];refine bd Tryz.f116 22 [] [] fun _ _ _ _ hk=>?_;refine bx 3004 ?_;refine bx 3005 ?_;refine ev (wc zmp hpi' Z Z ?_);refine evd [] [] ?_;apply sq<;>intro h1 h1p h1s<;>(try simp only[Q] at h1p);refine Walk.call (cr:=[]) zeN (zcf hw hsh oc ht' hok hsz) Z (.some Z Z h1) Z Z (LeL.refl _) O Z Z Z ?_;refine Walk.call (cr:=[]) zoN (zjh (g:=c.g) oc) Z (.some Z Z h1) Z Z (LeL.refl _) O Z Z Z ?_;refine evd [] [(12,true)] ?_ ⟨⟨_,Z,h1⟩,O⟩;refine dr (rq ?_);rotate_left;exfalso;contradiction;all_goals (rfl)
def ClsSz (l:List Cl):Prop:=∀c∈l,c.pat.size<=1000000000000
def FusSz (l:List Fu):Prop:=∀f∈l,ClsSz f.cls/\∀e∈f.bodies,e.size<=1000000000000
theorem znW {w:List Data}{t:Ty} (h:zbe w t=true):TyOk w.length t:=by
 unfold zbe at h;rw[xad] at h;exact zbd h.2
theorem zpm {w:List Data}{t:Ty}{l:List Cl}{i:Nat} (hi:i<l.length) (h:clOk w t (nth l i)=false):zaX w t l=false:=by
 unfold zaX;have:l.any (fun c=> !clOk w t c)=true:=List.any_eq_true.2 ⟨nth l i,zad hi,by rw[h];rfl⟩;rw[this];simp
theorem zn6 {w:List Data}{t:Ty}{l:List Cl} (ht:zbe w t=true) (hl:l.length<=8) (h:∀i,i<l.length->clOk w t (nth l i)=true):zaX w t l=true:=by
 unfold zaX;rw[ht,xax oc,Bool.true_and,Bool.true_and,Bool.not_eq_true',List.any_eq_false];intro c hc;obtain⟨i,hi,rfl⟩:=List.getElem_of_mem hc;have:=h i hi;simp only[nth,List.getD,xan hi,Option.getD_some] at this;simp[this]
theorem zn7 {w:List Data}{t:Ty}{l:List Cl} (h:8<l.length):zaX w t l=false:=by
 unfold zaX;rw[xaw oc,Bool.false_and,Bool.and_false]
theorem zpn {w:List Data}{t:Ty}{l:List Cl} (h:zbe w t=false):zaX w t l=false:=by
 unfold zaX;rw[h,Bool.false_and]
theorem ze3 {w:List Data}{t:Ty}{l:List Cl} (h:zaX w t l=true):zbe w t=true/\l.length<=8/\∀i,i<l.length->clOk w t (nth l i)=true:=by
 unfold zaX at h;simp only[xad,xah,Bool.not_eq_true',List.any_eq_false,Bool.not_eq_false'] at h;refine⟨h.1,by omega,fun i hi=>?_⟩;simpa using h.2.2 _ (zad hi)
theorem zbS {w:List Data}{t:Ty}{c:Cl} (h:clOk w t c=true):isP w t c.pat=true/\zaj w 10 t c.pat=true/\zaq w 10 t c.pat=zbo w t c.pat:=by
 unfold clOk at h;rw[xad] at h;refine⟨h.1, ?_,(zkk h.1).symm⟩;have:=h.1;unfold isP at this;simp only[xad] at this;exact this.1
theorem zdE {w:List Data} (hs:WSmall w){a k:Int}{l:List Cl} (hl:ClsOk l) (hz:ClsSz l):
  FnD Tryz.prog 50 [.d (zae w),.agg [.d (.i a),.d (.i k)],.d (zbl l)] [] (.d (.bool (zaX w ⟨a,k⟩ l))) []:=by
 have hll:=hl.1;refine bd Tryz.f50 31 [] [] fun _ _ _ _ hk=>?_;refine bx 3004 ?_;refine ev (wc zom (zh8 hs) Z Z ?_);refine ev ?_;apply sq<;>intro h1 h1p h1s;refine sqT ?_;refine rq ?_;rotate_left;apply sq<;>intro h3 h3p h3s<;>(try simp only[Q,xal] at h3p);refine rq ?_;rotate_left;refine xaz (ι:=Nat) hk (fun i=>[(7,.d (.i (i:Int)))]) [6,17,18,19,20,21,22,23,24,25,26,27,28,29,30] (fun i=>[]) (fun i=>i<=l.length/\∀i',i'<i->clOk w ⟨a,k⟩ (nth l i')=true) (fun i=>l.length-i) 0 ⟨by omega,fun _ h=>absurd h oc⟩ ⟨⟨_,Z,xaL ?_⟩,O⟩ O (fun x=>rfl) (fun i hg1=>?_);focus (rfl)
 refine evc [] [] ?_;apply sq<;>intro h4 h4p h4s<;>(try simp only[Q,xal] at h4p);refine ixq sl74 Z Z Z (zaf oc) Z ?_;refine evd [] [] (wc zot (zlp (t:=⟨a,k⟩) (c:=nth l i) (zd0 hs (ze1 oh).1) (zf9 (ze1 oh).1) (znW oh) (hl.2 _ (zad oc)) (hz _ (zad oc))) Z Z ?_);refine evd [] [] (dr ?_);apply sq<;>intro h5 h5p h5s<;>(try simp only[Q,xal] at h5p);refine rq ?_;rotate_left;refine ar (xaj (i+1) ⟨⟨by omega,zaw hg1.2 oh⟩,oc,sx ⟨⟨_,Z,xaL ?_⟩,O⟩ O⟩);focus (rfl)
 refine rq ?_;rotate_left;all_goals (refine xam D.bool ?_;first|(rw[zpn oh];done)|(rw[zn7 oc];done)|(rw[zpm (i:=i) oc oh];done)|(rw[zn6 oh oc (fun x hx=>hg1.2 x oc)];done))
theorem zkw {w:List Data} (hs:WSmall w){funs:List Ft} (hfl:funs.length<=1000000000000) (hfa:∀f∈funs,TyOk w.length f.arg){f:Fu} (hok:FuOk f) (hz:ClsSz f.cls/\∀e∈f.bodies,e.size<=1000000000000) (hres:TyOk w.length f.ty.res):
  FnD Tryz.prog 70 [.d (zae w),.d (za6 funs),.agg [.d (.i f.ty.arg.data),.d (.i f.ty.arg.index),.d (.i f.ty.res.data),.d (.i f.ty.res.index),.d (zbl f.cls),.d (zay f.bodies)]] [] (.d (.bool (zbi w funs f))) []:=by
 have hcl:=hok.1.1;have hbl:=hok.2.1;cases hv:zaX w f.ty.arg f.cls with
 |false=>
  have hcv:=zdE hs (a:=f.ty.arg.data) (k:=f.ty.arg.index) hok.1 hz.1;rw[show zaX w ⟨f.ty.arg.data,f.ty.arg.index⟩ f.cls=false from hv] at hcv;have hfv:zbi w funs f=false:=by unfold zbi;rw[hv,Bool.false_and]
  rw[hfv];refine bd Tryz.f70 57 [] [] fun _ _ _ _ hk=>?_;refine bx 3005 ?_;refine ev (wc znI hcv Z Z ?_);refine ev ?_;apply sq<;>intro h1 h1p h1s;refine sqT ?_;refine rq ?_;rotate_left;exfalso;contradiction;all_goals (rfl)
 |true=>
  have hcv:=zdE hs (a:=f.ty.arg.data) (k:=f.ty.arg.index) hok.1 hz.1;rw[show zaX w ⟨f.ty.arg.data,f.ty.arg.index⟩ f.cls=true from hv] at hcv;obtain⟨htv,h8,hco⟩:=ze3 hv;have hwv:=(ze1 (w:=w) (a:=f.ty.arg.data) (k:=f.ty.arg.index) htv).1;have hw:=zd0 hs hwv;have haz:=zf9 hwv;have hta:=znW htv;have hvl:=zeE w f.ty.arg;have hv3:∀i,i<f.cls.length->FnD Tryz.prog 143 [.nils,.d (zae w),.agg [.d (.i f.ty.arg.data),.d (.i f.ty.arg.index)],.agg [.d (.i (nth f.cls i).pat.op),.d (.i (nth f.cls i).pat.ctor),.d (.i (nth f.cls i).pat.n),.d (.i (nth f.cls i).pat.m),.d (.i (nth f.cls i).pat.var),.d (zal (nth f.cls i).pat.kids)]] [] (.d (zaU (zbo w f.ty.arg (nth f.cls i).pat))) []:=fun i hi=>by
   have hc:=zbS (hco i hi);rw[<-hc.2.2];exact zcf hw hc.2.1 oc hta.1 (hok.1.2 _ (zad hi)) (hz.1 _ (zad hi))
  refine bd Tryz.f70 57 [] [] fun _ _ _ _ hk=>?_;refine bx 3005 ?_;refine ev (wc znI hcv Z Z ?_);refine ev ?_;apply sq<;>intro h1 h1p h1s;exfalso;contradiction;apply sq<;>intro h2 h2p h2s<;>(try simp only[Q,xal,xaE] at h2p);refine rq ?_;rotate_left;refine xaz (ι:=Nat) hk (fun i=>[(7,.d (.i (i:Int)))]) [6,8,26,27,28,29,30,31,32,33,34,35,36,37,38,39,40,41,42,43,44,45,46,47,48,49,50,51,52,53,54,55,56] (fun i=>[]) (fun i=>i<=f.cls.length/\∀i',i'<i->isE w funs (zbo w f.ty.arg (nth f.cls i').pat) f.ty.res (nth f.bodies i')=true) (fun i=>f.cls.length-i) 0 ⟨by omega,fun _ h=>absurd h oc⟩ ⟨⟨_,Z,xaL ?_⟩,O⟩ O (fun x=>rfl) (fun i hg1=>?_);focus (rfl)
  refine evc [] [] ?_;apply sq<;>intro h3 h3p h3s<;>(try simp only[Q,xal,xaE] at h3p);refine ixq sl74 Z Z Z (zaf oc) Z ?_;refine evd [] [] (wc zeN (hv3 i oc) Z Z ?_);refine evd [] [] (dr (ixq sl39 Z Z Z (zbN oc) Z ?_));refine evd [] [] (wc zpR (zkv (t:=f.ty.res) (e:=nth f.bodies i) hw haz hfl (by have:=hvl (nth f.cls i).pat;omega) hfa hres (xaH hok.2.2 _ (zad oc)) (hz.2 _ (zad oc))) Z Z ?_);refine evd [] [] (dr ?_);apply sq<;>intro h4 h4p h4s<;>(try simp only[Q,xal,xaE] at h4p);refine rq ?_;rotate_left;refine ar (xaj (i+1) ⟨⟨by omega,zaw hg1.2 oh⟩,oc,sx ⟨⟨_,Z,xaL ?_⟩,O⟩ O⟩);focus (rfl)
  refine rq ?_;rotate_left;all_goals (refine xam D.bool ?_;first|(rw[zfR oc];done)|(rw[zgs (i:=i) oc oc oh];done)|(rw[zig hv oc (fun x hx=>hg1.2 x oc)];done))
theorem zhA {w:List Data} (hs:WSmall w){l:List Fu} (hl:FusOk l) (hz:FusSz l):FnD Tryz.prog 14 [.d (zae w),.d (zb8 l)] [] (.d (.bool (zbu w l))) []:=by
 have hll:=hl.1;have hfm:=fun(y:Fu) (hy:y∈l) (ho:zbx w (l.map Fu.ty)=true)=>zbd (zec ho y.ty (List.mem_map.2 ⟨y,hy,rfl⟩)).2;have hfa:=fun(ho:zbx w (l.map Fu.ty)=true) (f:Ft) (hf:f∈l.map Fu.ty)=>zbd (zec ho f hf).1;have hml:(l.map Fu.ty).length<=1000000000000:=by simp;omega
 unfold zbu;generalize hF:l.map Fu.ty=funs at *;have hft:=ze0 hl.1;rw[hF] at hft;have hWV:=zeg hs;rw[zer] at hWV;refine bd Tryz.f14 32 [] [] fun _ _ _ _ hk=>?_;refine wc zlZ hft Z Z ?_;refine ev (wc znM hWV Z Z ?_);refine ev ?_;apply sq<;>intro h1 h1p h1s;refine sqT ?_;refine rq ?_;rotate_left;refine Walk.call (cr:=[]) zpO (zi9 hs.len hml) Z (.some Z Z h1) Z Z (LeL.refl _) O Z Z Z (evs [] [(12,false)] ?_ ⟨⟨_,Z,h1⟩,O⟩);apply sq<;>intro h3 h3p h3s;refine rq ?_;rotate_left;refine xaz (ι:=List (Fu)×List (Fu)) hk (fun x=>[(6,.d (.i (x.1.length:Int)))]) [4,18,19,20,21,22,23,24,25,26,27,28,29,30,31] (fun x=>[]) (fun x=>x.1++x.2=l/\x.1.all (zbi w funs)=true) (fun x=>x.2.length) ([],l) ⟨by simp,by simp⟩ ⟨⟨_,Z,xaL ?_⟩,O⟩ O (fun x=>rfl) (fun x hg1=>?_);focus (rfl)
 obtain⟨pre,rest⟩:=x;dsimp only at hg1 ⊢;refine evc [] [] ?_;apply sq<;>intro h4 h4p h4s<;>(try simp only[Q,xal] at h4p);rcases rest with _|⟨y,rest⟩
 ·exfalso;simp_all
 refine ixq sl24 Z Z Z (zaE hg1.1) Z (ev (wc zpP (zkw hs hml (hfa oh) (f:=y) (hl.2 y (by rw[<-hg1.1];simp)) (hz y (by rw[<-hg1.1];simp)) (hfm y (by rw[<-hg1.1];simp) oh)) Z Z ?_));refine ev ?_;apply sq<;>intro h5 h5p h5s<;>(try simp only[Q,xal] at h5p);refine rq ?_;rotate_left;refine ar (xaj ((pre++[y],rest)) ⟨⟨by simp[hg1.1],by rw[List.all_append,hg1.2];simp only[List.all_cons,List.all_nil,Bool.and_true,Bool.true_and];assumption⟩,oe,sx ⟨⟨_,Z,xaL ?_⟩,O⟩ O⟩);focus ((simp;done))
 have hrest:rest=[]:=by
  rcases rest with _|⟨a,b⟩
  ·rfl
  ·exfalso;have hz:=xam List.length (hg1.1);simp only[xaa,xab,xac] at hz;omega
 subst hrest;refine rq ?_;rotate_left;all_goals (refine xam D.bool ?_;first|(simp_all;done)|(rw[zmm hg1.1 oh];simp_all;done))
theorem zhV {w:List Data} (hw:WT w){a k:Int}{p:Pat} (ht:TyIn w.length ⟨a,k⟩):
  FnD Tryz.prog 183 [.d (zae w),.agg [.d (.i a),.d (.i k)],.agg [.d (.i p.op),.d (.i p.ctor),.d (.i p.n),.d (.i p.m),.d (.i p.var),.d (zal p.kids)]] [] (.d (zaR (zbP w ⟨a,k⟩ p))) []:=by
 have hsh:=zgf hw (p:=p) ht;refine bd Tryz.f183 17 [] [] fun _ _ _ _ hk=>?_;refine bx 3004 ?_;refine bx 3005 ?_;refine ev (wc zkR hsh Z Z ?_);refine ev (rq ?_);rotate_left;all_goals (rfl)
mutual
theorem zml:∀v:Val,zmk v v=true
 | .mk _ _ ks=>by simp[zmk,zhK ks]
theorem zhK:∀l:List Val,zjl l l=true
 | []=>rfl
 |v::r=>by simp[zjl,zml v,zhK r]
end
theorem Val.c_len (v:Val):v.c.length=3:=by cases v;rfl
theorem Val.cs_rows {l:List Val}:∀x,x∈Val.cs l->x.length=3:=by
 intro x hx;rw[xa2] at hx;obtain⟨y,_,rfl⟩:=List.mem_map.1 hx;exact y.c_len
mutual
def mVal:Val->Nat
 | .mk _ _ ks=>ziV ks
def ziV:List Val->Nat
 | []=>0
 |v::r=>1+mVal v+ziV r
end
mutual
def Val.szM:Val->Int
 | .mk _ _ ks=>2+Vals.szM ks
def Vals.szM:List Val->Int
 | []=>0
 |v::r=>v.szM+Vals.szM r
end
mutual
def Val.one (k:Int):Val->Val
 | .mk _ _ ks=> .mk k (k+1) (Vals.one (k+1+1) ks)
def Vals.one (k:Int):List Val->List Val
 | []=>[]
 |v::r=>v.one k::Vals.one (k+v.szM) r
end
mutual
theorem Val.szM_nn:∀v:Val,0<=v.szM
 | .mk _ _ ks=>by have:=xa4 ks;simp only[Val.szM];omega
theorem xa4:∀l:List Val,0<=Vals.szM l
 | []=>by simp[Vals.szM]
 |v::r=>by have:=Val.szM_nn v;have:=xa4 r;simp only[Vals.szM];omega
end
mutual
theorem Val.szM_le:∀v:Val,v.szM<=2+2*(mVal v:Int)
 | .mk _ _ ks=>by have:=xa3 ks;simp only[Val.szM,mVal];omega
theorem xa3:∀l:List Val,Vals.szM l<=2*(ziV l:Int)
 | []=>by simp[Vals.szM,ziV]
 |v::r=>by have:=Val.szM_le v;have:=xa3 r;simp only[Vals.szM,ziV];omega
end
def znN (w:List Data):Nat->Ty->Val->Bool
 |0,_,_=>false
 |n+1,t,v=>if t.data = -1 then decide (v.ctor = -1)&&(decide (0<=v.num)&&(decide (v.num<=9)&&decide (v.kids.length=0)))
   else if v.num=0/\v.ctor∈zcF w t then all2 (znN w n) (zan w t v.ctor) v.kids else false
mutual
def cntV (m:Int):Val->Int
 | .mk _ _ ks=>cntL m 1 ks
def cntL (m n:Int):List Val->Int
 | []=>n
 |k::r=>if n<=m then cntL m (n+cntV (m-n) k) r else n
end
theorem zmN {m n:Int}{l:List Val} (h:¬n<=m):cntL m n l=n:=by cases l<;>simp[cntL,h]
mutual
theorem zlH:∀(v:Val) (m:Int),1<=cntV m v/\cntV m v<=v.size
 | .mk _ _ ks,m=>by
  have:=zjr ks m 1 oc;simp only[cntV,Val.size];push_cast;omega
theorem zjr:∀(l:List Val) (m n:Int),1<=n->1<=cntL m n l/\cntL m n l<=n+Vals.size l
 | [],m,n,h=>by simp[cntL,Vals.size];omega
 |k::r,m,n,h=>by
  have h1:=zlH k (m-n);have h2:=zjr r m (n+cntV (m-n) k) oc;simp only[cntL,Vals.size];split
  ·push_cast;omega
  ·push_cast;omega
end
mutual
theorem znp:∀(v:Val) (m:Int),(cntV m v<=m↔(v.size:Int)<=m)/\(cntV m v<=m->cntV m v=v.size)
 | .mk _ _ ks,m=>by
  have:=zkW ks m 1;simp only[cntV,Val.size];push_cast;exact this
theorem zkW:∀(l:List Val) (m n:Int),(cntL m n l<=m↔n+(Vals.size l:Int)<=m)/\(cntL m n l<=m->cntL m n l=n+Vals.size l)
 | [],m,n=>by simp[cntL,Vals.size]
 |k::r,m,n=>by
  have h1:=znp k (m-n);have h2:=zkW r m (n+cntV (m-n) k);have h3:=zjr r m (n+cntV (m-n) k);have h4:=zlH k (m-n);simp only[cntL,Vals.size];push_cast
  by_cases hn:n<=m
  ·rw[if_pos hn];by_cases h5:cntV (m-n) k<=m-n
   ·have h6:=h1.2 h5;rw[h6] at h2 ⊢;constructor
    ·rw[h2.1];constructor<;>intro h<;>omega
    ·intro h;rw[h2.2 h];omega
   ·have h7:¬(k.size:Int)<=m-n:=fun h=>h5 (h1.1.2 h);have h8:¬n+cntV (m-n) k<=m:=by omega
    rw[zmN h8];constructor
    ·constructor<;>intro h<;>omega
    ·intro h;omega
  ·rw[if_neg hn];constructor
   ·constructor<;>intro h<;>omega
   ·intro h;omega
end
theorem Vals.size_split {pre rest l:List Val}{y:Val} (h:pre++y::rest=l):Vals.size l=Vals.size pre+y.size+Vals.size rest:=by
 subst h;induction pre with
 |nil=>simp[Vals.size]
 |cons x r ih=>simp only[xai,Vals.size,ih];omega
structure Bd where
 var:Int
 val:Val
def Bd.c (b:Bd):List D:=[.i b.var,.i b.val.ctor,.i b.val.num,zoc b.val.kids]
instance:Inhabited Bd:=⟨⟨0,default⟩⟩
def BdOk (m:Nat) (l:List Bd):Prop:=∀x∈l,x.val.ok/\x.val.size<=m
theorem BdOk.app {m:Nat}{a b:List Bd} (h1:BdOk m a) (h2:BdOk m b):BdOk m (a++b):=fun x hx=>by
 rcases List.mem_append.1 hx with h|h
 ·exact h1 x h
 ·exact h2 x h
theorem BdOk.mono {m k:Nat}{a:List Bd} (h:BdOk m a) (hk:m<=k):BdOk k a:=fun x hx=>⟨(h x hx).1,Nat.le_trans (h x hx).2 hk⟩
theorem zpB {w:List Data}{t:Ty}{p:Pat} (h:p.op=5):zaa w t p=[t,t]:=by unfold zaa;rw[if_neg oc,if_pos h]
theorem zpC {w:List Data}{t:Ty}{p:Pat} (h:p.op=6):zaa w t p=[t]:=by unfold zaa;rw[if_neg oc,if_neg oc,if_pos h]
theorem znf {w:List Data}{n:Nat}{t:Ty}{p:Pat} (h:zaj w (n+1) t p=true) (h5:p.op=5):p.kids.length=2/\zaj w n t (nth p.kids 0)=true/\zaj w n t (nth p.kids 1)=true:=by
 have hl:=(zbz h).2;have h0:=fun i hi=>zaW h (i:=i) hi;rw[zpB h5] at hl h0;have hl':p.kids.length=2:=hl;exact⟨hl',h0 0 oc,h0 1 oc⟩
theorem zne {w:List Data}{n:Nat}{t:Ty}{p:Pat} (h:zaj w (n+1) t p=true) (h6:p.op=6):p.kids.length=1/\zaj w n t (nth p.kids 0)=true:=by
 have hl:=(zbz h).2;have h0:=fun i hi=>zaW h (i:=i) hi;rw[zpC h6] at hl h0;have hl':p.kids.length=1:=hl;exact⟨hl',h0 0 oc⟩
abbrev anyQ:Pat:= .mk 1 0 0 0 0 []
mutual
def zfP:Pat->Pat
 | .mk op c n m v ks=>if op=2 then anyQ else if op=6/\ks≠[] then ziA ks else .mk op c n m v (zfO ks)
def ziA:List Pat->Pat
 | []=>anyQ
 |k::_=>zfP k
def zfO:List Pat->List Pat
 | []=>[]
 |k::r=>zfP k::zfO r
end
theorem zkG:∀l:List Pat,zfO l=l.map zfP
 | []=>rfl
 |k::r=>by simp[zfO,zkG r]
def zqa (out:List (List Pat)) (l:List Pat):List (List Pat):=out.flatMap fun q=>l.map fun c=>q++[c]
def zp6 (ls:List (List Pat)):List (List Pat):=ls.foldl zqa [[]]
mutual
def zlq:Pat->List Pat
 | .mk op c n m v ks=>if op=5 then zpA ks else (zp6 (zlS ks)).map fun l=> .mk op c n m v l
def zpA:List Pat->List Pat
 | []=>[]
 |a::r=>zlq a++zoi r
def zoi:List Pat->List Pat
 | []=>[]
 |b::_=>zlq b
def zlS:List Pat->List (List Pat)
 | []=>[]
 |k::r=>zlq k::zlS r
end
mutual
def cntS:Pat->Int
 | .mk op _ _ _ _ ks=>if op=5 then cntO ks 0 else cntM ks 1
def cntO:List Pat->Int->Int
 | [],n=>n
 |k::r,n=>cntO r (cap (n+cntS k))
def cntM:List Pat->Int->Int
 | [],n=>n
 |k::r,n=>cntM r (cap (n*cntS k))
end
mutual
theorem zlG:∀p:Pat,0<=cntS p/\cntS p<=401
 | .mk op _ _ _ _ ks=>by
  unfold cntS;split
  ·exact zlF ks 0 oc oc
  ·exact zlE ks 1 oc oc
theorem zlF:∀(l:List Pat) (n:Int),0<=n->n<=401->0<=cntO l n/\cntO l n<=401
 | [],n,h1,h2=>⟨h1,h2⟩
 |k::r,n,h1,h2=>by
  unfold cntO;have h3:=zlG k;have h4:=zmL (x:=n+cntS k) oc;exact zlF r _ h4.1 h4.2
theorem zlE:∀(l:List Pat) (n:Int),0<=n->n<=401->0<=cntM l n/\cntM l n<=401
 | [],n,h1,h2=>⟨h1,h2⟩
 |k::r,n,h1,h2=>by
  unfold cntM;have h3:=zlG k;have h4:=zmL (x:=n*cntS k) (Int.mul_nonneg h1 h3.1);exact zlE r _ h4.1 h4.2
end
mutual
theorem zlD:∀p:Pat,p.ok->(zfP p).ok
 | .mk op c n m v ks,h=>by
  unfold zfP;split
  ·exact⟨by simp,trivial⟩
  ·split
   ·exact znt ks h.2
   ·exact⟨by rw[zkG,xac];exact h.1,zkH ks h.2⟩
theorem znt:∀l:List Pat,Pats.ok l->(ziA l).ok
 | [],_=>⟨by simp,trivial⟩
 |k::r,h=>zlD k h.1
theorem zkH:∀l:List Pat,Pats.ok l->Pats.ok (zfO l)
 | [],_=>trivial
 |k::r,h=>⟨zlD k h.1,zkH r h.2⟩
end
mutual
theorem zjS:∀p:Pat,(zfP p).size<=p.size
 | .mk op c n m v ks=>by
  unfold zfP;split
  ·simp[anyQ,Pat.size,Pats.size]
  ·split
   ·have:=zl8 ks;simp only[Pat.size];omega
   ·have:=zif ks;simp only[Pat.size];omega
theorem zl8:∀l:List Pat,(ziA l).size<=1+Pats.size l
 | []=>by simp[ziA,anyQ,Pat.size,Pats.size]
 |k::r=>by have:=zjS k;simp only[ziA,Pats.size];omega
theorem zif:∀l:List Pat,Pats.size (zfO l)<=Pats.size l
 | []=>Nat.le_refl _
 |k::r=>by have:=zjS k;have:=zif r;simp only[zfO,Pats.size];omega
end
theorem Val.cs_cc (l:List Val):Val.cs l=l.map Val.cc:=by
 rw[xa2];exact List.map_congr_left (fun v _=>Val.c_eq v)
def zbB (w:List Data) (t:Ty) (k:Int):Str:=(nth (nth w t.data.toNat).ctors k.toNat).name
set_option maxHeartbeats 4000000
section
variable {w:List Data}{s:Str}{n m:Nat}{t:Ty}
variable (hm:m<s.length)
include hm
omit hm in
omit hm in
omit hm in
omit hm in
omit hm in
omit hm in
end
def letV (n:Int):Str:=strN [IntKind.u8.wrap (97+IntKind.u8.wrap n)]
theorem zbL (n:Int):(letV n).length=1:=rfl
def za3 {α:Type} (f:Ty->α->Str):Bool->List Ty->List α->Str
 |b,t::ts,p::ps=>((if b=true then [40] else [44])++f t p)++za3 f false ts ps
 |_,_,_=>[]
theorem zf6 {α:Type} [Inhabited α]{f:Ty->α->Str}:∀(i:Nat){b:Bool}{ts:List Ty}{ks:List α},i<ts.length->i<ks.length->
  za3 f b (ts.take (i+1)) (ks.take (i+1))=za3 f b (ts.take i) (ks.take i)++((if b=true/\i=0 then [40] else [44])++f (nth ts i) (nth ks i))
 |_,_,[],_,h,_=>by simp at h
 |_,_,_::_,[],_,h=>by simp at h
 |0,b,t::ts,k::ks,_,_=>by
  simp only[List.take_succ_cons,List.take_zero,za3,xaq,List.nil_append,and_true];rfl
 |i+1,b,t::ts,k::ks,h1,h2=>by
  have ih:=zf6 (f:=f) i (b:=false) (ts:=ts) (ks:=ks) (by simpa using h1) (by simpa using h2);rw[if_neg (fun h=>absurd h.1 oe)] at ih;have e:(if b=true/\i+1=0 then ([40]:Str) else [44])=[44]:=if_neg oc;rw[List.take_succ_cons,List.take_succ_cons,za3,ih,List.take_succ_cons,List.take_succ_cons,za3,e,xar ((if b=true then [40] else [44])++f t k)];rfl
theorem zkb:∀(l:List Pat) (i:Nat),Pats.size (l.take i)<=Pats.size l
 | [],i=>by simp
 |x::r,0=>by simp[Pats.size]
 |x::r,i+1=>by
  have:=zkb r i;rw[List.take_succ_cons,Pats.size,Pats.size];omega
theorem zg9 {f:Ty->Pat->Str}:∀(b:Bool) (ts:List Ty) (ks:List Pat),(∀i,i<ts.length->i<ks.length->(f (nth ts i) (nth ks i)).length<=10*(nth ks i).size)->(za3 f b ts ks).length<=ks.length+10*Pats.size ks
 |_,[],ks,_=>by simp[za3]
 |_,_::_,[],_=>by simp[za3]
 |b,t::ts,k::ks,h=>by
  have ih:=zg9 false ts ks (fun i h1 h2=>h (i+1) (by simpa using h1) (by simpa using h2));have h0:=h 0 oe oe;have h0':(f t k).length<=10*k.size:=h0;have h3:(if b=true then [(40:UInt8)] else [44]).length=1:=by split<;>rfl
  rw[za3,xaa,xaa,Pats.size,h3];simp only[xab];omega
def zap (w:List Data):Nat->Ty->Pat->Str
 |0,_,_=>[]
 |n+1,t,p=>
  if p.op=1 then [95]
  else if p.op=2 then letV p.var
  else if p.op=3 then (if p.n=p.m then decV p.n else decV p.n++[45]++decV p.m)
  else if p.op=5 then [40]++zap w n t (nth p.kids 0)++[124]++zap w n t (nth p.kids 1)++[41]
  else if p.op=6 then letV p.var++[64]++zap w n t (nth p.kids 0)
  else (zbB w t p.ctor++za3 (zap w n) true (zan w t p.ctor) p.kids)++(if 0<(zan w t p.ctor).length then [41] else [])
theorem zcT {w:List Data} (hw:WT w) (hb:TB w){a k c:Int} (ht:TyIn w.length ⟨a,k⟩) (hc:c∈zaA w ⟨a,k⟩):(zbB w ⟨a,k⟩ c).length<=5/\(zan w ⟨a,k⟩ c).length<=3:=by
 obtain⟨d,rfl,hd,j,rfl,hj⟩:=za1 ht hc;have:=hb.cn (nth w d) (zad hd) (nth (nth w d).ctors j) (zad hj);refine⟨this.1, ?_⟩;unfold zan;simp only[xac];exact this.2.1
theorem zlh {w:List Data}{t:Ty}{p:Pat} (h:ownP w t p=true):(p.op=1\/p.op=2\/p.op=3\/p.op=5\/p.op=6\/p.op=4)/\((p.op=2\/p.op=6)->0<=p.var/\p.var<=5)/\(p.op=3->0<=p.n/\p.n<=p.m/\p.m<=9)/\(p.op=4->p.ctor∈zaA w t):=by
 unfold ownP at h;have h':=xas h;refine⟨?_,h'.1,fun h3=>?_,fun h4=>?_⟩
 ·rcases h'.2.2.2.2 with h|h|h|h|h|h<;>omega
 ·rcases h'.2.2.2.2 with h|h|h|h|h|h<;>omega
 ·rcases h'.2.2.2.2 with h|h|h|h|h|h
  all_goals first|exact h.2|omega
theorem zeL {w:List Data}{t:Ty}{p:Pat} (h:p.op=4):zaa w t p=zan w t p.ctor:=by unfold zaa;rw[if_pos h]
theorem zda {w:List Data}{t:Ty}{p:Pat} (h:p.op=5):zaa w t p=[t,t]:=by unfold zaa;rw[if_neg oc,if_pos h]
theorem zdZ {w:List Data}{t:Ty}{p:Pat} (h:p.op=6):zaa w t p=[t]:=by unfold zaa;rw[if_neg oc,if_neg oc,if_pos h]
theorem zgO {l:List Pat}{i:Nat} (h:i<l.length):(nth l i).size<=Pats.size l:=xaU (zad h)
theorem zcZ {w:List Data} (hw:WT w) (hb:TB w):∀(n:Nat){a k:Int}{p:Pat},zaj w n ⟨a,k⟩ p=true->TyIn w.length ⟨a,k⟩->(zap w n ⟨a,k⟩ p).length<=10*p.size
 |0,a,k,p,h,_=>by simp[zaj] at h
 |n+1,a,k,p,h,ht=>by
  obtain⟨ho,hl⟩:=zbz h;have hin:=zcy hw ht ho;obtain⟨o1,o2,o3,o4⟩:=zlh ho;have hk:∀i,i<p.kids.length->(zap w n (nth (zaa w ⟨a,k⟩ p) i) (nth p.kids i)).length<=10*(nth p.kids i).size:=fun i hi=>
   zcZ hw hb n (a:=(nth (zaa w ⟨a,k⟩ p) i).data) (k:=(nth (zaa w ⟨a,k⟩ p) i).index) (zaW h hi) (hin _ (zad oc))
  rw[xaS];unfold zap;split
  ·simp;omega
  split
  ·rw[zbL];omega
  split
  ·split
   ·rw[za5];omega
   ·simp only[xaa,za5,xab,xak];omega
  split
  ·rename_i h5;rw[zda h5] at hl hk;have hl2:p.kids.length=2:=hl;have k0:=hk 0 oc;have k1:=hk 1 oc;have k0':(zap w n ⟨a,k⟩ (nth p.kids 0)).length<=10*(nth p.kids 0).size:=k0;have k1':(zap w n ⟨a,k⟩ (nth p.kids 1)).length<=10*(nth p.kids 1).size:=k1;have hs:(nth p.kids 0).size+(nth p.kids 1).size=Pats.size p.kids:=by
    generalize p.kids=l at *;rcases l with _|⟨x,_|⟨y,_|⟨z,r⟩⟩⟩
    ·simp at hl2
    ·simp at hl2
    ·simp[Pats.size,nth]
    ·simp at hl2
   simp only[xaa,xab,xak];omega
  split
  ·rename_i h6;rw[zdZ h6] at hl hk;have hl2:p.kids.length=1:=hl;have k0':(zap w n ⟨a,k⟩ (nth p.kids 0)).length<=10*(nth p.kids 0).size:=hk 0 oc;have:=zgO (l:=p.kids) (i:=0) oc;simp only[xaa,zbL,xab,xak];omega
  ·have h4:p.op=4:=by omega
   rw[zeL h4] at hl hk;have:=zcT hw hb ht (o4 h4);have h1:=zg9 (f:=zap w n) true (zan w ⟨a,k⟩ p.ctor) p.kids (fun i h1 h2=>hk i h2);have h3:(if 0<(zan w ⟨a,k⟩ p.ctor).length then [(41:UInt8)] else []).length<=1:=by split<;>simp
   simp only[xaa];omega
theorem zbX {n:Int}:FnD Tryz.prog 158 [.d (.i n)] [] (.d (.str (letV n))) []:=by
 refine bd Tryz.f158 8 [5] [] fun _ _ _ _ hk=>?_;refine xbf (by rw[un3];rfl) un5 .none Z Z ?_;refine Walk.addW .none Z Z Z (si [0] [_] sl22 tz5 ?_);refine xba sl22 un9 od .none Z Z Z (by first|rfl|exact zfe _) ?_;refine evs [5] [] ?_;focus (refine rq ?_;all_goals (rfl))
section
variable {w:List Data}{n:Nat}{t:Ty}{p:Pat}
theorem tx1 (h:p.op=1):zap w (n+1) t p=[95]:=by unfold zap;rw[if_pos h]
theorem tx2 (h:p.op=2):zap w (n+1) t p=letV p.var:=by unfold zap;rw[if_neg oc,if_pos h]
theorem tx3a (h:p.op=3) (h2:p.n=p.m):zap w (n+1) t p=decV p.n:=by unfold zap;rw[if_neg oc,if_neg oc,if_pos h,if_pos h2]
theorem tx3b (h:p.op=3) (h2:¬p.n=p.m):zap w (n+1) t p=decV p.n++[45]++decV p.m:=by unfold zap;rw[if_neg oc,if_neg oc,if_pos h,if_neg h2]
theorem tx5 (h:p.op=5):zap w (n+1) t p=[40]++zap w n t (nth p.kids 0)++[124]++zap w n t (nth p.kids 1)++[41]:=by rw[zap];rw[if_neg oc,if_neg oc,if_neg oc,if_pos h]
theorem tx6 (h:p.op=6):zap w (n+1) t p=letV p.var++[64]++zap w n t (nth p.kids 0):=by rw[zap];rw[if_neg oc,if_neg oc,if_neg oc,if_neg oc,if_pos h]
theorem tx4 (h:p.op=4):zap w (n+1) t p=(zbB w t p.ctor++za3 (zap w n) true (zan w t p.ctor) p.kids)++(if 0<(zan w t p.ctor).length then [41] else []):=by rw[zap];rw[if_neg oc,if_neg oc,if_neg oc,if_neg oc,if_neg oc]
end
theorem zfI {w:List Data} (hw:WT w) (hb:TB w):∀(n:Nat){a k:Int}{p:Pat},zaj w n ⟨a,k⟩ p=true->TyIn w.length ⟨a,k⟩->p.ok->p.size<=10000000->
  FnD Tryz.prog 100 [.d (zae w),.agg [.d (.i a),.d (.i k)],.agg [.d (.i p.op),.d (.i p.ctor),.d (.i p.n),.d (.i p.m),.d (.i p.var),.d (zal p.kids)]] [] (.d (.str (zap w n ⟨a,k⟩ p))) []
 |0,a,k,p,h,_,_,_=>by simp[zaj] at h
 |n+1,a,k,p,h,ht,hok,hsz=>by
  obtain⟨ho,hl⟩:=zbz h;have hin:=zcy hw ht ho;obtain⟨o1,o2,o3,o4⟩:=zlh ho;rw[xaS] at hsz;rw[xaR] at hok;have hkid:∀i,i<p.kids.length->∀t,t=nth (zaa w ⟨a,k⟩ p) i->FnD Tryz.prog 100 [.d (zae w),.agg [.d (.i t.data),.d (.i t.index)],.agg [.d (.i (nth p.kids i).op),.d (.i (nth p.kids i).ctor),.d (.i (nth p.kids i).n),.d (.i (nth p.kids i).m),.d (.i (nth p.kids i).var),.d (zal (nth p.kids i).kids)]] [] (.d (.str (zap w n t (nth p.kids i)))) []:=fun i hi t e=>by
   subst e;exact zfI hw hb n (a:=(nth (zaa w ⟨a,k⟩ p) i).data) (k:=(nth (zaa w ⟨a,k⟩ p) i).index) (zaW h hi) (hin _ (zad oc)) (xaT hok.2 _ (zad hi)) (by have:=zgO hi;omega)
  have hlen:∀i,i<p.kids.length->∀t,t=nth (zaa w ⟨a,k⟩ p) i->(zap w n t (nth p.kids i)).length<=100000000:=fun i hi t e=>by
   subst e;have:=zcZ hw hb n (a:=(nth (zaa w ⟨a,k⟩ p) i).data) (k:=(nth (zaa w ⟨a,k⟩ p) i).index) (zaW h hi) (hin _ (zad oc));have h2:=zgO hi;have h3:(zap w n (nth (zaa w ⟨a,k⟩ p) i) (nth p.kids i)).length<=10*(nth p.kids i).size:=this;omega
  by_cases h4:p.op=4
  ·rw[zeL h4] at hl hkid hlen;have hc:=o4 h4;obtain⟨n1,n2⟩:=zcT hw hb ht hc;have hag:=zdh hw ht hc;obtain⟨d,rfl,hd,j,hj0,hj⟩:=za1 ht hc;have hnm:zbB w ⟨(d:Int),k⟩ p.ctor=(nth (nth w d).ctors j).name:=by unfold zbB;rw[hj0];rfl
   have hnx:=fun i=>zf6 (f:=zap w n) i (b:=true) (ts:=zan w ⟨(d:Int),k⟩ p.ctor) (ks:=p.kids);have htl:∀i,i<=3->(za3 (zap w n) true ((zan w ⟨(d:Int),k⟩ p.ctor).take i) (p.kids.take i)).length<=1000000000:=fun i hi=>by
    have h1:=zg9 (f:=zap w n) true ((zan w ⟨(d:Int),k⟩ p.ctor).take i) (p.kids.take i) (fun i' q1 q2=>by
     rw[List.length_take] at q1 q2;have e1:nth ((zan w ⟨(d:Int),k⟩ p.ctor).take i) i'=nth (zan w ⟨(d:Int),k⟩ p.ctor) i':=by rw[zaB (by rw[List.length_take];omega),zaB oc,List.getElem_take]
     have e2:nth (p.kids.take i) i'=nth p.kids i':=by rw[zaB (by rw[List.length_take];omega),zaB oc,List.getElem_take]
     rw[e1,e2];have:=zcZ hw hb n (a:=(nth (zaa w ⟨(d:Int),k⟩ p) i').data) (k:=(nth (zaa w ⟨(d:Int),k⟩ p) i').index) (zaW h (i:=i') oc) (hin _ (zad (by rw[zeL h4];omega)));rw[zeL h4] at this;exact this)
    have h2:=zkb p.kids i;rw[List.length_take] at h1;omega
   rw[tx4 h4,hnm];have hfin:=List.take_length (l:=zan w ⟨(d:Int),k⟩ p.ctor);have hfin2:=List.take_length (l:=p.kids);generalize zan w ⟨(d:Int),k⟩ p.ctor=ts at *;refine bd Tryz.f100 118 [96,98,111,116] [] fun _ _ _ _ hk=>?_;refine bx 3004 ?_;refine bx 3005 ?_;refine evs [96,98,111,116] [] ?_;apply sq<;>intro h1 h1p h1s;try simp only[Q,xal,xaP,xac] at h1p
   exfalso;omega;apply sq<;>intro h2 h2p h2s;try simp only[Q,xal,xaP,xac] at h2p
   exfalso;omega;apply sq<;>intro h3 h3p h3s;try simp only[Q,xal,xaP,xac] at h3p
   exfalso;omega;apply sq<;>intro h4 h4p h4s;try simp only[Q,xal,xaP,xac] at h4p
   exfalso;omega;apply sq<;>intro h5 h5p h5s;try simp only[Q,xal,xaP,xac] at h5p
   exfalso;omega;refine ixq sl23 Z Z Z (zaf hd) Z (evd [96,98,111,116] [] (ixq (i:=j) zbr Z Z hj0 (zaf hj) Z (evd [96,98,111,116] [] (dr (wc zik hag Z Z ?_)))));refine evs [96,98,111,116] [] (xaz (ι:=Nat) hk (fun i=>[(9,.d (.i (i:Int))),(7,.d (.str ((nth (nth w d).ctors j).name++za3 (zap w n) true (ts.take i) (p.kids.take i))))]) [87,88,89,90,91,92,93,94,95,96,97,98,99,100,101,102,103,104,105,106,107,108,109,110,111] (fun i=>[]) (fun i=>i<=ts.length) (fun i=>ts.length-i) 0 oc ⟨⟨_,Z,xaL ?_⟩,⟨⟨_,Z,xaM ?_⟩,O⟩⟩ O (fun x=>rfl) (fun i hg1=>?_));iterate 2 focus ((simp[za3];done))
   refine evc [96,98,111,116] [] ?_;apply sq<;>intro h6 h6p h6s<;>(try simp only[Q,xal,xaP,xac] at h6p);apply sq<;>intro h7 h7p h7s<;>(try simp only[Q,xal,xaP,xac] at h7p);refine xbd .none Z Z Z (by rw[hnm] at n1;have:=htl i oc;(have:=hlen i oc (nth ts i) rfl;simp only[xaa,xab,xak];omega)) ?_;refine evs [96,98,111,116] [] (ixq zau Z Z Z (zaf oc) Z ?_);refine evd [96,98,111,116] [] (ixq sl58 Z Z Z (zba oc) Z ?_);refine evd [96,98,111,116] [] (wc zfx (hkid i oc (nth ts i) Z) Z Z ?_);refine xbd .none Z Z Z (by rw[hnm] at n1;have:=htl i oc;(have:=hlen i oc (nth ts i) rfl;simp only[xaa,xab,xak];omega)) ?_;refine evd [96,98,111,116] [] (dr (ar (xaj (i+1) ⟨oc,oc,sx ⟨⟨_,Z,xaL ?_⟩,⟨⟨_,Z,xaM ?_⟩,O⟩⟩ O⟩)));iterate 2 focus (first|rfl|(rw[hnx i oc oc,if_pos ⟨rfl,by omega⟩];simp;done))
   refine xbd .none Z Z Z (by rw[hnm] at n1;have:=htl i oc;(have:=hlen i oc (nth ts i) rfl;simp only[xaa,xab,xak];omega)) ?_;refine evs [96,98,111,116] [] (ixq zau Z Z Z (zaf oc) Z ?_);refine evd [96,98,111,116] [] (ixq sl58 Z Z Z (zba oc) Z ?_);refine evd [96,98,111,116] [] (wc zfx (hkid i oc (nth ts i) Z) Z Z ?_);refine xbd .none Z Z Z (by rw[hnm] at n1;have:=htl i oc;(have:=hlen i oc (nth ts i) rfl;simp only[xaa,xab,xak];omega)) ?_;refine evd [96,98,111,116] [] (dr (ar (xaj (i+1) ⟨oc,oc,sx ⟨⟨_,Z,xaL ?_⟩,⟨⟨_,Z,xaM ?_⟩,O⟩⟩ O⟩)));iterate 2 focus (first|rfl|(rw[hnx i oc oc,if_neg oc];simp;done))
   apply sq<;>intro h8 h8p h8s<;>(try simp only[Q,xal,xaP,xac] at h8p);refine xbd .none Z Z Z (by rw[hnm] at n1;have:=htl i oc;(simp only[xaa,xab,xak];omega)) ?_;refine evs [96,98,111,116] [] (rq ?_);rotate_left;refine rq ?_;rotate_left;all_goals (have e1:i=ts.length:=oc;subst e1;rw[hfin,show ts.length=p.kids.length by omega,hfin2];first|(rw[if_pos oc];done)|(rw[if_neg oc,xaq];done))
  ·have e5:p.op=5->p.kids.length=2:=fun h=>by rw[zda h] at hl;exact hl
   have e6:p.op=6->p.kids.length=1:=fun h=>by rw[zdZ h] at hl;exact hl
   have hk0:=fun(h:p.op=5\/p.op=6)=>hkid 0 (by rcases h with h|h;rw[e5 h];omega;rw[e6 h];omega) ⟨a,k⟩ (by rcases h with h|h;rw[zda h];rfl;rw[zdZ h];rfl);have hk1:=fun(h:p.op=5)=>hkid 1 (by rw[e5 h];omega) ⟨a,k⟩ (by rw[zda h];rfl);have hn0:=fun(h:p.op=5\/p.op=6)=>hlen 0 (by rcases h with h|h;rw[e5 h];omega;rw[e6 h];omega) ⟨a,k⟩ (by rcases h with h|h;rw[zda h];rfl;rw[zdZ h];rfl);have hn1:=fun(h:p.op=5)=>hlen 1 (by rw[e5 h];omega) ⟨a,k⟩ (by rw[zda h];rfl);have hdl:=za5;have hll:=zbL p.var;refine bd Tryz.f100 118 [32,36,46,47,55,56,62,70] [] fun _ _ _ _ hk=>?_;refine bx 3004 ?_;refine bx 3005 ?_;refine evs [32,36,46,47,55,56,62,70] [] ?_;apply sq<;>intro h1 h1p h1s<;>(try simp only[Q,xal,xaP] at h1p);refine rq ?_;rotate_left;apply sq<;>intro h2 h2p h2s<;>(try simp only[Q,xal,xaP] at h2p);refine wc zgu (zbX (n:=p.var)) Z Z ?_;refine evs [32,36,46,47,55,56,62,70] [] (rq ?_);rotate_left;apply sq<;>intro h3 h3p h3s<;>(try simp only[Q,xal,xaP] at h3p);apply sq<;>intro h4 h4p h4s<;>(try simp only[Q,xal,xaP] at h4p);refine wc zeb (zbj (n:=p.n) (by have:=o3 oc;omega) (by have:=o3 oc;omega)) Z Z ?_;refine evs [32,36,46,47,55,56,62,70] [] (rq ?_);rotate_left;refine wc zeb (zbj (n:=p.n) (by have:=o3 oc;omega) (by have:=o3 oc;omega)) Z Z ?_;refine xbd .none Z Z Z (by(simp only[xaa,xab,xak,hdl];omega)) (evd [32,36,46,47,55,56,62,70] [] (wc zeb (zbj (n:=p.m) (by have:=o3 oc;omega) (by have:=o3 oc;omega)) Z Z ?_));refine xbd .none Z Z Z (by(simp only[xaa,xab,xak,hdl];omega)) (evd [32,36,46,47,55,56,62,70] [] (dr (rq ?_)));rotate_left;apply sq<;>intro h5 h5p h5s<;>(try simp only[Q,xal,xaP] at h5p);refine ixq (i:=0) sl58 Z Z Z (zba (by(rw[e5 oc];omega))) Z ?_;refine evd [32,36,46,47,55,56,62,70] [] (wc zfx (hk0 oc) Z Z ?_);refine xbd .none Z Z Z (by(have:=hn0 (.inl oc);have:=hn1 oc;simp only[xaa,xab,xak];omega)) ?_;refine xbd .none Z Z Z (by(have:=hn0 (.inl oc);have:=hn1 oc;simp only[xaa,xab,xak];omega)) ?_;refine evd [32,36,46,47,55,56,62,70] [] (ixq (i:=1) sl58 Z Z Z (zba (by(rw[e5 oc];omega))) Z ?_);refine evd [32,36,46,47,55,56,62,70] [] (wc zfx (hk1 oc) Z Z ?_);refine xbd .none Z Z Z (by(have:=hn0 (.inl oc);have:=hn1 oc;simp only[xaa,xab,xak];omega)) ?_;refine xbd .none Z Z Z (by(have:=hn0 (.inl oc);have:=hn1 oc;simp only[xaa,xab,xak];omega)) ?_;refine evd [32,36,46,47,55,56,62,70] [] (dr (rq ?_));rotate_left;apply sq<;>intro h6 h6p h6s<;>(try simp only[Q,xal,xaP] at h6p);refine wc zgu (zbX (n:=p.var)) Z Z ?_;refine xbd .none Z Z Z (by(have:=hn0 (.inr oc);simp only[xaa,xab,xak];omega)) ?_;refine evd [32,36,46,47,55,56,62,70] [] (ixq (i:=0) sl58 Z Z Z (zba (by(rw[e6 oc];omega))) Z ?_);refine evd [32,36,46,47,55,56,62,70] [] (wc zfx (hk0 oc) Z Z ?_);refine xbd .none Z Z Z (by(have:=hn0 (.inr oc);simp only[xaa,xab,xak];omega)) ?_;refine evd [32,36,46,47,55,56,62,70] [] (dr (rq ?_));rotate_left;exfalso;omega;all_goals (first|(rw[tx1 oc];done)|(rw[tx2 oc];done)|(rw[tx3a oc oc];done)|(rw[tx3b oc oc];done)|(rw[tx5 oc];done)|(rw[tx6 oc];done))
set_option maxHeartbeats 2000000
set_option maxHeartbeats 4000000
def zav (w:List Data) (funs:List Ft):Nat->Ty->Ex->Str
 |0,_,_=>[]
 |n+1,t,e=>
  if e.op=1 then decV e.n
  else if e.op=2 then letV e.n
  else if e.op=4 then [43,40]++zav w funs n numT (nth e.kids 0)++[44]++zav w funs n numT (nth e.kids 1)++[41]
  else if e.op=5 then [35]++decV e.n++[40]++zav w funs n (nth funs e.n.toNat).arg (nth e.kids 0)++[41]
  else (zbB w t e.ctor++za3 (zav w funs n) true (zan w t e.ctor) e.kids)++(if 0<(zan w t e.ctor).length then [41] else [])
theorem zf5 {f:Ty->Ex->Str}:∀(b:Bool) (ts:List Ty) (ks:List Ex),(∀i,i<ts.length->i<ks.length->(f (nth ts i) (nth ks i)).length<=10*(nth ks i).size)->(za3 f b ts ks).length<=ks.length+10*Exs.size ks
 |_,[],ks,_=>by simp[za3]
 |_,_::_,[],_=>by simp[za3]
 |b,t::ts,k::ks,h=>by
  have ih:=zf5 false ts ks (fun i h1 h2=>h (i+1) (by simpa using h1) (by simpa using h2));have h0':(f t k).length<=10*k.size:=h 0 oe oe;have h3:(if b=true then [(40:UInt8)] else [44]).length=1:=by split<;>rfl
  rw[za3,xaa,xaa,Exs.size,h3];simp only[xab];omega
theorem zi8:∀(l:List Ex) (i:Nat),Exs.size (l.take i)<=Exs.size l
 | [],i=>by simp
 |x::r,0=>by simp[Exs.size]
 |x::r,i+1=>by
  have:=zi8 r i;rw[List.take_succ_cons,Exs.size,Exs.size];omega
theorem zfE {l:List Ex}{i:Nat} (h:i<l.length):(nth l i).size<=Exs.size l:=xaI (zad h)
section
variable {w:List Data}{funs:List Ft}{vars:List Vt}{n:Nat}{t:Ty}{e:Ex}
theorem zjG (h:zaS w funs vars (n+1) t e=true):(e.op=1\/e.op=2\/e.op=3\/e.op=4\/e.op=5)/\(e.op=1->0<=e.n/\e.n<=9)/\(e.op=3->e.n=0/\e.ctor∈zaA w t)/\(e.op=4->t.data = -1)/\(e.op=5->0<=e.n/\e.n<(funs.length:Int)/\e.ctor=0)/\
  (zak w funs t e).length=e.kids.length/\∀i,i<e.kids.length->zaS w funs vars n (nth (zak w funs t e) i) (nth e.kids i)=true:=by
 unfold zaS at h;rw[xad] at h;obtain⟨h1,h2⟩:=h;unfold zc8 at h1;rw[xad,xah] at h1;obtain⟨h1,hl⟩:=h1;refine⟨?_,fun q=>?_,fun q=>?_,fun q=>?_,fun q=>?_,hl,fun i hi=>?_⟩
 ·by_cases h0:e.op≠1/\e.op≠2/\e.op≠3/\e.op≠4/\e.op≠5
  ·rw[ok_0 h0] at h1;exact absurd h1 oe
  ·omega
 ·rw[ok_1 q] at h1;have:=xas h1;omega
 ·rw[ok_3 q] at h1;exact xas h1
 ·rw[ok_4 q] at h1;exact(xas h1).1
 ·rw[ok_5 q,xad] at h1;exact xas h1.1
 ·cases hs:zaS w funs vars n (nth (zak w funs t e) i) (nth e.kids i) with
  |true=>rfl
  |false=>
   have:=za8 (f:=zaS w funs vars n) (a:=zak w funs t e) (b:=e.kids) (i:=i) oc hl hs;rw[this] at h2;cases h2
theorem te1 (h:e.op=1):zav w funs (n+1) t e=decV e.n:=by rw[zav];rw[if_pos h]
theorem te2 (h:e.op=2):zav w funs (n+1) t e=letV e.n:=by rw[zav];rw[if_neg oc,if_pos h]
theorem te4 (h:e.op=4):zav w funs (n+1) t e=[43,40]++zav w funs n numT (nth e.kids 0)++[44]++zav w funs n numT (nth e.kids 1)++[41]:=by rw[zav];rw[if_neg oc,if_neg oc,if_pos h]
theorem te5 (h:e.op=5):zav w funs (n+1) t e=[35]++decV e.n++[40]++zav w funs n (nth funs e.n.toNat).arg (nth e.kids 0)++[41]:=by rw[zav];rw[if_neg oc,if_neg oc,if_neg oc,if_pos h]
theorem te3 (h:e.op=3):zav w funs (n+1) t e=(zbB w t e.ctor++za3 (zav w funs n) true (zan w t e.ctor) e.kids)++(if 0<(zan w t e.ctor).length then [41] else []):=by rw[zav];rw[if_neg oc,if_neg oc,if_neg oc,if_neg oc]
end
theorem zfJ {n:Nat}{t:Ty} (h:TyOk n t) (hd:t.data = -1):t=numT:=by
 obtain⟨a,k⟩:=t;have:=h.2 hd;simp only at this hd;subst this;subst hd;rfl
theorem zds {w:List Data}{funs:List Ft}{vars:List Vt} (hw:WT w) (hb:TB w) (haz:AZ w) (hfa:∀f∈funs,TyOk w.length f.arg):∀(n:Nat){t:Ty}{e:Ex},zaS w funs vars n t e=true->TyOk w.length t->(zav w funs n t e).length<=10*e.size
 |0,t,e,h,_=>by simp[zaS] at h
 |n+1,t,e,h,ht=>by
  obtain⟨o,o1,o3,o4,o5,hl,hk⟩:=zjG h;have hin:=zfj hw haz hfa ht (e:=e);have hkl:∀i,i<e.kids.length->(zav w funs n (nth (zak w funs t e) i) (nth e.kids i)).length<=10*(nth e.kids i).size:=fun i hi=>zds hw hb haz hfa n (hk i hi) (hin _ (zad oc));rw[xaG];rcases o with h1|h2|h3|h4|h5
  ·rw[te1 h1,za5];omega
  ·rw[te2 h2,zbL];omega
  ·obtain⟨q1,q2⟩:=o3 h3;rw[ty_3 h3 q1 q2] at hl hkl;obtain⟨a,k⟩:=t;have:=zcT hw hb ht.1 q2;have h1:=zf5 (f:=zav w funs n) true (zan w ⟨a,k⟩ e.ctor) e.kids (fun i q1 q2=>hkl i q2);have h3':(if 0<(zan w ⟨a,k⟩ e.ctor).length then [(41:UInt8)] else []).length<=1:=by split<;>simp
   rw[te3 h3];simp only[xaa];omega
  ·rw[ty_4 h4,zfJ ht (o4 h4)] at hl hkl;have hl2:e.kids.length=2:=hl.symm;have k0':(zav w funs n numT (nth e.kids 0)).length<=10*(nth e.kids 0).size:=hkl 0 oc;have k1':(zav w funs n numT (nth e.kids 1)).length<=10*(nth e.kids 1).size:=hkl 1 oc;have hs:(nth e.kids 0).size+(nth e.kids 1).size=Exs.size e.kids:=by
    generalize e.kids=l at *;rcases l with _|⟨x,_|⟨y,_|⟨z,r⟩⟩⟩
    ·simp at hl2
    ·simp at hl2
    ·simp[Exs.size,nth]
    ·simp at hl2
   rw[te4 h4];simp only[xaa,xab,xak];omega
  ·rw[ty_5 h5 (o5 h5)] at hl hkl;have hl2:e.kids.length=1:=hl.symm;have k0':(zav w funs n (nth funs e.n.toNat).arg (nth e.kids 0)).length<=10*(nth e.kids 0).size:=hkl 0 oc;have:=zfE (l:=e.kids) (i:=0) oc;rw[te5 h5];simp only[xaa,za5,xab,xak];omega
theorem zlc {w:List Data}{funs:List Ft}{vars:List Vt} (hw:WT w) (hb:TB w) (haz:AZ w) (hf9:funs.length<=9) (hfa:∀f∈funs,TyOk w.length f.arg){n:Nat}
  (ih:∀ {a k:Int}{e:Ex},zaS w funs vars n ⟨a,k⟩ e=true->TyOk w.length ⟨a,k⟩->e.ok->e.size<=10000000->FnD Tryz.prog 80 [.d (zae w),.d (za6 funs),.agg [.d (.i a),.d (.i k)],.agg [.d (.i e.op),.d (.i e.n),.d (.i e.ctor),.d (zay e.kids)]] [] (.d (.str (zav w funs n ⟨a,k⟩ e))) [])
  {a k:Int}{e:Ex} (h:zaS w funs vars (n+1) ⟨a,k⟩ e=true) (ht:TyOk w.length ⟨a,k⟩) (hok:e.ok) (hsz:e.size<=10000000):
  FnD Tryz.prog 80 [.d (zae w),.d (za6 funs),.agg [.d (.i a),.d (.i k)],.agg [.d (.i e.op),.d (.i e.n),.d (.i e.ctor),.d (zay e.kids)]] [] (.d (.str (zav w funs (n+1) ⟨a,k⟩ e))) []:=by
 obtain⟨o,o1,o3,o4,o5,hl,hkf⟩:=zjG h;have hin:=zfj hw haz hfa ht (e:=e);rw[xaG] at hsz;rw[xaF] at hok;have hkid:∀i,i<e.kids.length->∀t,t=nth (zak w funs ⟨a,k⟩ e) i->FnD Tryz.prog 80 [.d (zae w),.d (za6 funs),.agg [.d (.i t.data),.d (.i t.index)],.agg [.d (.i (nth e.kids i).op),.d (.i (nth e.kids i).n),.d (.i (nth e.kids i).ctor),.d (zay (nth e.kids i).kids)]] [] (.d (.str (zav w funs n t (nth e.kids i)))) []:=fun i hi t q=>by
  subst q;exact ih (a:=(nth (zak w funs ⟨a,k⟩ e) i).data) (k:=(nth (zak w funs ⟨a,k⟩ e) i).index) (hkf i hi) (hin _ (zad oc)) (xaH hok.2 _ (zad hi)) (by have:=zfE hi;omega)
 have hlen:∀i,i<e.kids.length->∀t,t=nth (zak w funs ⟨a,k⟩ e) i->(zav w funs n t (nth e.kids i)).length<=100000000:=fun i hi t q=>by
  subst q;have:=zds hw hb haz hfa n (hkf i hi) (hin _ (zad oc));have h2:=zfE hi;omega
 by_cases h3:e.op=3
 ·obtain⟨z1,z2⟩:=o3 h3;have hkf':=hkf;rw[ty_3 h3 z1 z2] at hl hkid hlen hkf';obtain⟨n1,n2⟩:=zcT hw hb ht.1 z2;have hag:=zdh hw ht.1 z2;obtain⟨d,rfl,hd,j,hj0,hj⟩:=za1 ht.1 z2;have hnm:zbB w ⟨(d:Int),k⟩ e.ctor=(nth (nth w d).ctors j).name:=by unfold zbB;rw[hj0];rfl
  have hnx:=fun i=>zf6 (f:=zav w funs n) i (b:=true) (ts:=zan w ⟨(d:Int),k⟩ e.ctor) (ks:=e.kids);have htl:∀i,i<=3->(za3 (zav w funs n) true ((zan w ⟨(d:Int),k⟩ e.ctor).take i) (e.kids.take i)).length<=1000000000:=fun i hi=>by
   have h1:=zf5 (f:=zav w funs n) true ((zan w ⟨(d:Int),k⟩ e.ctor).take i) (e.kids.take i) (fun i' q1 q2=>by
    rw[List.length_take] at q1 q2;have e1:nth ((zan w ⟨(d:Int),k⟩ e.ctor).take i) i'=nth (zan w ⟨(d:Int),k⟩ e.ctor) i':=by rw[zaB (by rw[List.length_take];omega),zaB oc,List.getElem_take]
    have e2:nth (e.kids.take i) i'=nth e.kids i':=by rw[zaB (by rw[List.length_take];omega),zaB oc,List.getElem_take]
    rw[e1,e2];have h9:=hin (nth (zan w ⟨(d:Int),k⟩ e.ctor) i') (by rw[ty_3 h3 z1 z2];exact zad oc);exact zds hw hb haz hfa n (hkf' i' oc) h9)
   have h2:=zi8 e.kids i;rw[List.length_take] at h1;omega
  rw[te3 h3,hnm];have hfin:=List.take_length (l:=zan w ⟨(d:Int),k⟩ e.ctor);have hfin2:=List.take_length (l:=e.kids);clear hkf hkf' ih;generalize zan w ⟨(d:Int),k⟩ e.ctor=ts at *;refine bd Tryz.f80 118 [95,97,111,116] [] fun _ _ _ _ hk=>?_;refine bx 3006 ?_;refine bx 3007 ?_;refine evs [95,97,111,116] [] (bu [0] [_] st38 ?_);refine ab 3009 tz38 ?_;refine so ty38 ?_;apply tv;apply sq<;>intro h1 h1p h1s;try simp only[Q,xal,xaE,xac] at h1p
  exfalso;omega;apply sq<;>intro h2 h2p h2s;try simp only[Q,xal,xaE,xac] at h2p
  exfalso;omega;apply sq<;>intro h3 h3p h3s;try simp only[Q,xal,xaE,xac] at h3p
  exfalso;omega;apply sq<;>intro h4 h4p h4s;try simp only[Q,xal,xaE,xac] at h4p
  exfalso;omega;refine ixq sl23 Z Z Z (zaf hd) Z (evd [95,97,111,116] [] (ixq (i:=j) zbr Z Z hj0 (zaf hj) Z (evd [95,97,111,116] [] (dr (wc zik hag Z Z ?_)))));refine evs [95,97,111,116] [] (xaz (ι:=Nat) hk (fun i=>[(12,.d (.i (i:Int))),(10,.d (.str ((nth (nth w d).ctors j).name++za3 (zav w funs n) true (ts.take i) (e.kids.take i))))]) [86,87,88,89,90,91,92,93,94,95,96,97,98,99,100,101,102,103,104,105,106,107,108,109,110,111] (fun i=>[]) (fun i=>i<=ts.length) (fun i=>ts.length-i) 0 oc ⟨⟨_,Z,xaL ?_⟩,⟨⟨_,Z,xaM ?_⟩,O⟩⟩ O (fun x=>rfl) (fun i hg1=>?_));iterate 2 focus ((simp[za3];done))
  refine evc [95,97,111,116] [] ?_;apply sq<;>intro h5 h5p h5s<;>(try simp only[Q,xal,xaE,xac] at h5p);apply sq<;>intro h6 h6p h6s<;>(try simp only[Q,xal,xaE,xac] at h6p);refine xbd .none Z Z Z (by rw[hnm] at n1;have:=htl i oc;(have:=hlen i oc (nth ts i) rfl;simp only[xaa,xab,xak];omega)) ?_;refine evs [95,97,111,116] [] (ixq zau Z Z Z (zaf oc) Z ?_);refine evd [95,97,111,116] [] (ixq sl39 Z Z Z (zbN oc) Z ?_);refine evd [95,97,111,116] [] (wc zhd (hkid i oc (nth ts i) Z) Z Z ?_);refine xbd .none Z Z Z (by rw[hnm] at n1;have:=htl i oc;(have:=hlen i oc (nth ts i) rfl;simp only[xaa,xab,xak];omega)) ?_;refine evd [95,97,111,116] [] (dr (ar (xaj (i+1) ⟨oc,oc,sx ⟨⟨_,Z,xaL ?_⟩,⟨⟨_,Z,xaM ?_⟩,O⟩⟩ O⟩)));iterate 2 focus (first|rfl|(rw[hnx i oc oc,if_pos ⟨rfl,by omega⟩];simp;done))
  refine xbd .none Z Z Z (by rw[hnm] at n1;have:=htl i oc;(have:=hlen i oc (nth ts i) rfl;simp only[xaa,xab,xak];omega)) ?_;refine evs [95,97,111,116] [] (ixq zau Z Z Z (zaf oc) Z ?_);refine evd [95,97,111,116] [] (ixq sl39 Z Z Z (zbN oc) Z ?_);refine evd [95,97,111,116] [] (wc zhd (hkid i oc (nth ts i) Z) Z Z ?_);refine xbd .none Z Z Z (by rw[hnm] at n1;have:=htl i oc;(have:=hlen i oc (nth ts i) rfl;simp only[xaa,xab,xak];omega)) ?_;refine evd [95,97,111,116] [] (dr (ar (xaj (i+1) ⟨oc,oc,sx ⟨⟨_,Z,xaL ?_⟩,⟨⟨_,Z,xaM ?_⟩,O⟩⟩ O⟩)));iterate 2 focus (first|rfl|(rw[hnx i oc oc,if_neg oc];simp;done))
  apply sq<;>intro h7 h7p h7s<;>(try simp only[Q,xal,xaE,xac] at h7p);refine xbd .none Z Z Z (by rw[hnm] at n1;have:=htl i oc;(simp only[xaa,xab,xak];omega)) ?_;refine evs [95,97,111,116] [] (rq ?_);rotate_left;refine rq ?_;rotate_left;all_goals (have e1:i=ts.length:=oc;subst e1;rw[hfin,show ts.length=e.kids.length by omega,hfin2];first|(rw[if_pos oc];done)|(rw[if_neg oc,xaq];done))
 ·have e4:e.op=4->e.kids.length=2:=fun q=>by rw[ty_4 q] at hl;exact hl.symm
  have e5:e.op=5->e.kids.length=1:=fun q=>by rw[ty_5 q (o5 q)] at hl;exact hl.symm
  have hk40:=fun(q:e.op=4)=>hkid 0 (by rw[e4 q];omega) numT (by rw[ty_4 q,zfJ ht (o4 q)];rfl);have hk41:=fun(q:e.op=4)=>hkid 1 (by rw[e4 q];omega) numT (by rw[ty_4 q,zfJ ht (o4 q)];rfl);have hk50:=fun(q:e.op=5)=>hkid 0 (by rw[e5 q];omega) (nth funs e.n.toNat).arg (by rw[ty_5 q (o5 q)];rfl);have hn40:=fun(q:e.op=4)=>hlen 0 (by rw[e4 q];omega) numT (by rw[ty_4 q,zfJ ht (o4 q)];rfl);have hn41:=fun(q:e.op=4)=>hlen 1 (by rw[e4 q];omega) numT (by rw[ty_4 q,zfJ ht (o4 q)];rfl);have hn50:=fun(q:e.op=5)=>hlen 0 (by rw[e5 q];omega) (nth funs e.n.toNat).arg (by rw[ty_5 q (o5 q)];rfl);have hdl:=za5 e.n;have hll:=zbL e.n;clear ih hkid hlen hkf;refine bd Tryz.f80 118 [36,37,46,47,53,54,68,69] [] fun _ _ _ _ hk=>?_;refine bx 3006 ?_;refine bx 3007 ?_;refine evs [36,37,46,47,53,54,68,69] [] (bu [0] [_] st38 ?_);refine ab 3009 tz38 ?_;refine so ty38 ?_;apply tv;apply sq<;>intro h1 h1p h1s<;>(try simp only[Q,xal,xaE,xac] at h1p);refine wc zeb (zbj (n:=e.n) (o1 oc).1 (o1 oc).2) Z Z ?_;refine evs [36,37,46,47,53,54,68,69] [] (rq ?_);rotate_left;apply sq<;>intro h2 h2p h2s<;>(try simp only[Q,xal,xaE,xac] at h2p);refine wc zgu (zbX (n:=e.n)) Z Z ?_;refine evs [36,37,46,47,53,54,68,69] [] (rq ?_);rotate_left;apply sq<;>intro h3 h3p h3s<;>(try simp only[Q,xal,xaE,xac] at h3p);refine ixq (i:=0) sl39 Z Z Z (zbN (by(rw[e4 oc];omega))) Z ?_;refine evd [36,37,46,47,53,54,68,69] [] (wc zhd (hk40 oc) Z Z ?_);refine xbd .none Z Z Z (by(have:=hn40 oc;have:=hn41 oc;simp only[xaa,xab,xak];omega)) ?_;refine xbd .none Z Z Z (by(have:=hn40 oc;have:=hn41 oc;simp only[xaa,xab,xak];omega)) ?_;refine evd [36,37,46,47,53,54,68,69] [] (ixq (i:=1) sl39 Z Z Z (zbN (by(rw[e4 oc];omega))) Z ?_);refine evd [36,37,46,47,53,54,68,69] [] (wc zhd (hk41 oc) Z Z ?_);refine xbd .none Z Z Z (by(have:=hn40 oc;have:=hn41 oc;simp only[xaa,xab,xak];omega)) ?_;refine xbd .none Z Z Z (by(have:=hn40 oc;have:=hn41 oc;simp only[xaa,xab,xak];omega)) ?_;refine evd [36,37,46,47,53,54,68,69] [] (dr (rq ?_));rotate_left;apply sq<;>intro h4 h4p h4s<;>(try simp only[Q,xal,xaE,xac] at h4p);refine wc zeb (zbj (n:=e.n) (o5 oc).1 (by have:=(o5 oc).2.1;omega)) Z Z ?_;refine xbd .none Z Z Z (by(have:=hn50 oc;simp only[xaa,xab,xak,hdl];omega)) ?_;refine xbd .none Z Z Z (by(have:=hn50 oc;simp only[xaa,xab,xak,hdl];omega)) ?_;refine evd [36,37,46,47,53,54,68,69] [] (ixq (i:=e.n.toNat) sl35 Z Z (by have:=o5 oc;omega) (zaf (by have:=o5 oc;omega)) Z ?_);refine evd [36,37,46,47,53,54,68,69] [] (ixq (i:=0) sl39 Z Z Z (zbN (by(rw[e5 oc];omega))) Z ?_);refine evd [36,37,46,47,53,54,68,69] [] (wc zhd (hk50 oc) Z Z ?_);refine xbd .none Z Z Z (by(have:=hn50 oc;simp only[xaa,xab,xak,hdl];omega)) ?_;refine xbd .none Z Z Z (by(have:=hn50 oc;simp only[xaa,xab,xak,hdl];omega)) ?_;refine evd [36,37,46,47,53,54,68,69] [] (dr (rq ?_));rotate_left;exfalso;omega;all_goals (first|(rw[te1 oc];done)|(rw[te2 oc];done)|(rw[te4 oc];all_goals rfl)|(rw[te5 oc];all_goals rfl))
theorem zfh {w:List Data}{funs:List Ft}{vars:List Vt} (hw:WT w) (hb:TB w) (haz:AZ w) (hf9:funs.length<=9) (hfa:∀f∈funs,TyOk w.length f.arg):∀(n:Nat){a k:Int}{e:Ex},zaS w funs vars n ⟨a,k⟩ e=true->TyOk w.length ⟨a,k⟩->e.ok->e.size<=10000000->
  FnD Tryz.prog 80 [.d (zae w),.d (za6 funs),.agg [.d (.i a),.d (.i k)],.agg [.d (.i e.op),.d (.i e.n),.d (.i e.ctor),.d (zay e.kids)]] [] (.d (.str (zav w funs n ⟨a,k⟩ e))) []
 |0,a,k,e,h,_,_,_=>by simp[zaS] at h
 |n+1,a,k,e,h,ht,hok,hsz=>zlc hw hb haz hf9 hfa (fun {a k e} q1 q2 q3 q4=>zfh hw hb haz hf9 hfa n q1 q2 q3 q4) h ht hok hsz
set_option maxHeartbeats 2000000
structure MatchOk (w:List Data) (n m:Nat) (t:Ty) (p:Pat) (v:Val):Prop where
 shape:zaj w n t p=true
 fits:znN w m t v=true
 pok:p.ok
 vok:v.ok
 psz:p.size<=100
 vsz:v.size<=100
theorem MatchOk.two {w:List Data}{n m:Nat}{t:Ty}{p:Pat}{v:Val} (h:MatchOk w (n+1) m t p v) (h5:p.op=5):
  p.kids.length=2/\MatchOk w n m t (nth p.kids 0) v/\MatchOk w n m t (nth p.kids 1) v:=by
 obtain⟨hl,s0,s1⟩:=znf h.shape h5;have hpk:=(xaR p).1 h.pok;have hps:=xaS p;have z0:=zdp (l:=p.kids) (i:=0) oc;have z1:=zdp (l:=p.kids) (i:=1) oc;have hs:=h.psz;exact⟨hl,⟨s0,h.fits,xaT hpk.2 _ (zad oc),h.vok,by omega,h.vsz⟩,⟨s1,h.fits,xaT hpk.2 _ (zad oc),h.vok,by omega,h.vsz⟩⟩
theorem MatchOk.one {w:List Data}{n m:Nat}{t:Ty}{p:Pat}{v:Val} (h:MatchOk w (n+1) m t p v) (h6:p.op=6):
  p.kids.length=1/\MatchOk w n m t (nth p.kids 0) v:=by
 obtain⟨hl,s0⟩:=zne h.shape h6;have hpk:=(xaR p).1 h.pok;have hps:=xaS p;have z0:=zdp (l:=p.kids) (i:=0) oc;have hs:=h.psz;exact⟨hl,⟨s0,h.fits,xaT hpk.2 _ (zad oc),h.vok,by omega,h.vsz⟩⟩
structure VarsOk (l:List Bd) (vs:List Vt):Prop where
 len:l.length=vs.length
 nod:(l.map Bd.var).Nodup
 sub:∀x∈l.map Bd.var,x∈vs.map Vt.var
set_option maxHeartbeats 4000000
def za2 (w:List Data) (t:Ty) (c:Cl):Str:=
 if c.g.op=1 then zap w 10 t c.pat++[32]++letV c.g.var++[60]++decV c.g.n
 else if c.g.op=2 then zap w 10 t c.pat++[32]++letV c.g.var++[61]++decV c.g.n
 else zap w 10 t c.pat
theorem gd_n {w:List Data}{t:Ty}{c:Cl} (h:clOk w t c=true):c.g.op=1\/c.g.op=2->0<=c.g.n/\c.g.n<=9:=fun hop=>by
 unfold clOk at h;rw[xad] at h;have h2:=h.2;unfold gdOk at h2;rw[if_neg oc,xad] at h2;have h3:=xas h2.1;exact⟨h3.2.2.1,h3.2.2.2⟩
theorem zg8 {w:List Data} (hw:WT w) (hb:TB w){a k:Int}{c:Cl} (ht:TyIn w.length ⟨a,k⟩) (h:clOk w ⟨a,k⟩ c=true) (hsz:c.pat.size<=10000000):(za2 w ⟨a,k⟩ c).length<=100000010:=by
 have h1:=zcZ hw hb 10 (zbS h).2.1 ht;unfold za2;split
 ·simp only[xaa,zbL,za5,xab,xak];omega
 split
 ·simp only[xaa,zbL,za5,xab,xak];omega
 ·omega
theorem zjP {w:List Data} (hw:WT w) (hb:TB w){a k:Int}{c:Cl} (ht:TyIn w.length ⟨a,k⟩) (h:clOk w ⟨a,k⟩ c=true) (hok:c.pat.ok) (hsz:c.pat.size<=10000000):
  FnD Tryz.prog 202 [.d (zae w),.agg [.d (.i a),.d (.i k)],.agg [.d (.i c.pat.op),.d (.i c.pat.ctor),.d (.i c.pat.n),.d (.i c.pat.m),.d (.i c.pat.var),.d (zal c.pat.kids),.d (.i c.g.op),.d (.i c.g.var),.d (.i c.g.n)]] [] (.d (.str (za2 w ⟨a,k⟩ c))) []:=by
 have hn:=gd_n h;have hl:=zcZ hw hb 10 (zbS h).2.1 ht;have ht1:=zfI hw hb 10 (zbS h).2.1 ht hok hsz;have e1:c.g.op=1->za2 w ⟨a,k⟩ c=zap w 10 ⟨a,k⟩ c.pat++[32]++letV c.g.var++[60]++decV c.g.n:=fun h=>by unfold za2;rw[if_pos h]
 have e2:c.g.op=2->za2 w ⟨a,k⟩ c=zap w 10 ⟨a,k⟩ c.pat++[32]++letV c.g.var++[61]++decV c.g.n:=fun h=>by unfold za2;rw[if_neg oc,if_pos h]
 have e3:¬c.g.op=1->¬c.g.op=2->za2 w ⟨a,k⟩ c=zap w 10 ⟨a,k⟩ c.pat:=fun h h'=>by unfold za2;rw[if_neg h,if_neg h']
 have hd:=za5 c.g.n;have hv:=zbL c.g.var;generalize za2 w ⟨a,k⟩ c=R at *;generalize zap w 10 ⟨a,k⟩ c.pat=T at *;refine bd Tryz.f202 47 [19,24,25,30,34,39,40,45] [] fun _ _ _ _ hk=>?_;refine bx 3004 ?_;refine bx 3005 ?_;refine evs [19,24,25,30,34,39,40,45] [] (wc zfx ht1 Z Z ?_);refine evs [19,24,25,30,34,39,40,45] [] ?_;apply sq<;>intro h1 h1p h1s<;>(try simp only[Q,xal] at h1p);refine xbd .none Z Z Z (by simp only[xaa,xab,xak,hd,hv];omega) ?_;refine evd [19,24,25,30,34,39,40,45] [] (wc zgu (zbX (n:=c.g.var)) Z Z ?_);refine xbd .none Z Z Z (by simp only[xaa,xab,xak,hd,hv];omega) ?_;refine xbd .none Z Z Z (by simp only[xaa,xab,xak,hd,hv];omega) ?_;refine evd [19,24,25,30,34,39,40,45] [] (wc zeb (zbj (n:=c.g.n) (hn oc).1 (hn oc).2) Z Z ?_);refine xbd .none Z Z Z (by simp only[xaa,xab,xak,hd,hv];omega) ?_;refine evd [19,24,25,30,34,39,40,45] [] (dr (rq ?_));rotate_left;apply sq<;>intro h2 h2p h2s<;>(try simp only[Q,xal] at h2p);refine xbd .none Z Z Z (by simp only[xaa,xab,xak,hd,hv];omega) ?_;refine evd [19,24,25,30,34,39,40,45] [] (wc zgu (zbX (n:=c.g.var)) Z Z ?_);refine xbd .none Z Z Z (by simp only[xaa,xab,xak,hd,hv];omega) ?_;refine xbd .none Z Z Z (by simp only[xaa,xab,xak,hd,hv];omega) ?_;refine evd [19,24,25,30,34,39,40,45] [] (wc zeb (zbj (n:=c.g.n) (hn oc).1 (hn oc).2) Z Z ?_);refine xbd .none Z Z Z (by simp only[xaa,xab,xak,hd,hv];omega) ?_;refine evd [19,24,25,30,34,39,40,45] [] (dr (rq ?_));rotate_left;refine rq ?_;rotate_left;all_goals (first|(rw[e1 oc];done)|(rw[e2 oc];done)|(rw[e3 oc oc];done))
def zcE (w:List Data) (t:Ty):Bool->List Cl->Str
 |_,[]=>[]
 |b,c::r=>((if b=true then [] else [47])++za2 w t c)++zcE w t false r
def bodT (w:List Data) (funs:List Ft) (f:Fu):Nat->Str
 |0=>zbF w f.ty.arg++[62]++zbF w f.ty.res
 |n+1=>bodT w funs f n++[47]++za2 w f.ty.arg (nth f.cls n)++[32]++zav w funs 10 f.ty.res (nth f.bodies n)
def funT (w:List Data) (l:List Fu):Nat->Str
 |0=>[]
 |n+1=>(if 0<n then funT w l n++[59] else funT w l n)++bodT w (l.map Fu.ty) (nth l n) (nth l n).cls.length
theorem zk4 {w:List Data}{funs:List Ft}{f:Fu} (h:zbi w funs f=true):zaX w f.ty.arg f.cls=true/\f.bodies.length=f.cls.length/\∀i,i<f.bodies.length->isE w funs (zbo w f.ty.arg (nth f.cls i).pat) f.ty.res (nth f.bodies i)=true:=by
 have h1:zaX w f.ty.arg f.cls=true:=by unfold zbi at h;rw[xad] at h;exact h.1
 have h2:f.bodies.length=f.cls.length:=by
  by_cases hl:f.bodies.length=f.cls.length
  ·exact hl
  ·rw[zfR hl] at h;cases h
 refine⟨h1,h2,fun i hi=>?_⟩;cases e:isE w funs (zbo w f.ty.arg (nth f.cls i).pat) f.ty.res (nth f.bodies i) with
 |true=>rfl
 |false=>rw[zgs h2 hi e] at h;cases h
theorem ziF {w:List Data}{funs:List Ft}{vars:List Vt}{t:Ty}{e:Ex} (h:isE w funs vars t e=true):zaS w funs vars 10 t e=true:=by
 unfold isE at h;rw[xad] at h;exact h.1
theorem zgK {w:List Data}{funs:List Ft}{vars:List Vt}{t:Ty}{e:Ex} (h:isE w funs vars t e=true):e.size<=60:=by
 unfold isE at h;rw[xad,xah] at h;omega
theorem zbU {n:Nat}{t:Ty} (h:zaI n t=true):(t.data = -1\/(0<=t.data/\t.data.toNat<n))/\ -1<=t.index/\t.index<=3:=by
 unfold zaI zac at h;simp only[Bool.or_eq_true,xad,xah,and_true] at h;omega
theorem zjb {w:List Data} (hs:WSmall w) (hv:zaM w=true){funs:List Ft} (hft:zbx w funs=true){f:Fu} (hok:FuOk f) (hz:∀c∈f.cls,c.pat.size<=10000000) (hfv:zbi w funs f=true)
  (ha:zaI w.length f.ty.arg=true) (hr:zaI w.length f.ty.res=true):
  FnD Tryz.prog 138 [.d (zae w),.d (za6 funs),.agg [.d (.i f.ty.arg.data),.d (.i f.ty.arg.index),.d (.i f.ty.res.data),.d (.i f.ty.res.index),.d (zbl f.cls),.d (zay f.bodies)]] [] (.d (.str (bodT w funs f f.cls.length))) []/\(bodT w funs f f.cls.length).length<=1000000000:=by
 have hw:=zd0 hs hv;have hb:=zlu hv;have haz:=zf9 hv;obtain⟨f1,f2,f3⟩:=zk4 hfv;obtain⟨tv,f4,f5⟩:=ze3 f1;have hta:=zbU ha;have htr:=zbU hr;have t1:=zfH hb (a:=f.ty.arg.data) (k:=f.ty.arg.index) hta.1 hta.2;have t2:=zfH hb (a:=f.ty.res.data) (k:=f.ty.res.index) htr.1 htr.2;have l1:=zeC hb (t:=f.ty.arg) hta.1;have l2:=zeC hb (t:=f.ty.res) htr.1;have hfa:∀u∈funs,TyOk w.length u.arg:=fun u hu=>zbd (zec hft u hu).1;have hf4:funs.length<=4:=by unfold zbx at hft;rw[xad,xah] at hft;omega
 have c1:=fun i (h:i<f.cls.length)=>zjP hw hb (a:=f.ty.arg.data) (k:=f.ty.arg.index) (zbd ha).1 (f5 i h) (hok.1.2 _ (zad h)) (hz _ (zad h));have c2:=fun i (h:i<f.cls.length)=>zg8 hw hb (a:=f.ty.arg.data) (k:=f.ty.arg.index) (zbd ha).1 (f5 i h) (hz _ (zad h));have e1:=fun i (h:i<f.bodies.length)=>zfh hw hb haz oc hfa 10 (a:=f.ty.res.data) (k:=f.ty.res.index) (ziF (f3 i h)) (zbd hr) (xaH hok.2.2 _ (zad h)) (by have:=zgK (f3 i h);omega);have e2:=fun i (h:i<f.bodies.length)=>zds hw hb haz hfa 10 (ziF (f3 i h)) (zbd hr);have hlen:∀n,n<=f.cls.length->(bodT w funs f n).length<=10+100001000*n:=by
  intro n;induction n with
  |zero=>intro _;simp only[bodT,xaa,xab,xak];omega
  |succ n ih=>
   intro hn;have h1:=ih oc;have h2:(za2 w f.ty.arg (nth f.cls n)).length<=100000010:=c2 n oc;have h3:=e2 n oc;have h4:=zgK (f3 n oc);simp only[bodT,xaa,xab,xak];omega
 refine⟨?_,by have:=hlen _ (Nat.le_refl _);omega⟩;have e3:∀i,i<f.bodies.length->(zav w funs 10 f.ty.res (nth f.bodies i)).length<=600:=fun i h=>by have:=e2 i h;have:=zgK (f3 i h);omega
 have c3:∀i,i<f.cls.length->(za2 w f.ty.arg (nth f.cls i)).length<=100000010:=fun i h=>c2 i h;have l1':(zbF w ⟨f.ty.arg.data,f.ty.arg.index⟩).length<=2:=l1;have l2':(zbF w ⟨f.ty.res.data,f.ty.res.index⟩).length<=2:=l2;have c3':∀i,i<f.cls.length->(za2 w ⟨f.ty.arg.data,f.ty.arg.index⟩ (nth f.cls i)).length<=100000010:=c3;have e3':∀i,i<f.bodies.length->(zav w funs 10 ⟨f.ty.res.data,f.ty.res.index⟩ (nth f.bodies i)).length<=600:=e3;refine bd Tryz.f138 55 [14,20,29,40,41,53] [] fun _ _ _ _ hk=>?_;refine bx 3005 ?_;refine evs [14,20,29,40,41,53] [] (wc zmA t1 Z Z ?_);refine xbd .none Z Z Z (by(simp only[xaa,xab,xak];omega)) (evd [14,20,29,40,41,53] [] (wc zmA t2 Z Z ?_));refine xbd .none Z Z Z (by(simp only[xaa,xab,xak];omega)) (evd [14,20,29,40,41,53] [] (dr (xaz (ι:=Nat) hk (fun i=>[(8,.d (.i (i:Int))),(7,.d (.str (bodT w funs f i)))]) [21,22,23,24,25,26,27,28,29,30,31,32,33,34,35,36,37,38,39,40,41,42,43,44,45,46,47,48,49,50,51,52,53] (fun i=>[]) (fun i=>i<=f.cls.length) (fun i=>f.cls.length-i) 0 oc ⟨⟨_,Z,xaL ?_⟩,⟨⟨_,Z,xaM ?_⟩,O⟩⟩ O (fun x=>rfl) (fun i hg1=>?_))));iterate 2 focus (first|rfl|omega)
 refine evc [14,20,29,40,41,53] [] ?_;apply sq<;>intro h1 h1p h1s<;>(try simp only[Q,xal,xaE,xac] at h1p);refine xbd .none Z Z Z (by(have:=hlen i oc;have:=c3 i oc;have:=e3 i oc;have:=c3' i oc;have:=e3' i oc;simp only[xaa,xab,xak];omega)) ?_;refine evd [14,20,29,40,41,53] [] (ixq sl74 Z Z Z (zaf oc) Z ?_);refine evd [14,20,29,40,41,53] [] (wc zoM (c1 i oc) Z Z ?_);refine xbd .none Z Z Z (by(have:=hlen i oc;have:=c3 i oc;have:=e3 i oc;have:=c3' i oc;have:=e3' i oc;simp only[xaa,xab,xak];omega)) ?_;refine xbd .none Z Z Z (by(have:=hlen i oc;have:=c3 i oc;have:=e3 i oc;have:=c3' i oc;have:=e3' i oc;simp only[xaa,xab,xak];omega)) ?_;refine evd [14,20,29,40,41,53] [] (ixq sl39 Z Z Z (zbN oc) Z ?_);refine evd [14,20,29,40,41,53] [] (wc zhd (e1 i oc) Z Z ?_);refine xbd .none Z Z Z (by(have:=hlen i oc;have:=c3 i oc;have:=e3 i oc;have:=c3' i oc;have:=e3' i oc;simp only[xaa,xab,xak];omega)) ?_;refine evd [14,20,29,40,41,53] [] (dr (ar (xaj (i+1) ⟨oc,oc,sx ⟨⟨_,Z,xaL ?_⟩,⟨⟨_,Z,xaM ?_⟩,O⟩⟩ O⟩)));iterate 2 focus (first|rfl|omega)
 refine rq ?_;rotate_left;all_goals (rw[show i=f.cls.length by omega])
theorem zk6 {w:List Data}{l:List Fu} (h:zbu w l=true):zaM w=true/\zbx w (l.map Fu.ty)=true/\∀f∈l,zbi w (l.map Fu.ty) f=true:=by
 unfold zbu at h;rw[xad,xad,List.all_eq_true] at h;exact h
theorem zh9 {w:List Data} (hs:WSmall w){l:List Fu} (hl:FusOk l) (hz:∀f∈l,∀c∈f.cls,c.pat.size<=10000000) (hv:zbu w l=true):
  FnD Tryz.prog 66 [.d (zae w),.d (zb8 l)] [] (.d (.str (funT w l l.length))) []:=by
 obtain⟨wv,hfo,hfu⟩:=zk6 hv;have hll:=hl.1;have hl4:l.length<=4:=by have:=hfo;unfold zbx at this;rw[xad,xah] at this;have h9:=this.1;rw[xac] at h9;omega
 have hty:=fun i (h:i<l.length)=>zec hfo (nth l i).ty (List.mem_map.2 ⟨_,zad h,rfl⟩);have hft:=ze0 (l:=l) oc;have hfn:=fun i (h:i<l.length)=>zjb hs wv hfo (hl.2 _ (zad h)) (hz _ (zad h)) (hfu _ (zad h)) (hty i h).1 (hty i h).2;have hlen:∀n,n<=l.length->(funT w l n).length<=1000000010*n:=by
  intro n;induction n with
  |zero=>intro _;simp[funT]
  |succ n ih=>
   intro hn;have h1:=ih oc;have h2:=(hfn n oc).2;unfold funT;split
   ·simp only[xaa,xab,xak];omega
   ·simp only[xaa];omega
 have hb2:∀i,i<l.length->(bodT w (l.map Fu.ty) (nth l i) (nth l i).cls.length).length<=1000000000:=fun i h=>(hfn i h).2;have hn1:∀i,0<i->funT w l (i+1)=funT w l i++[59]++bodT w (l.map Fu.ty) (nth l i) (nth l i).cls.length:=fun i h=>by rw[funT,if_pos h]
 have hn0:∀i,¬0<i->funT w l (i+1)=funT w l i++bodT w (l.map Fu.ty) (nth l i) (nth l i).cls.length:=fun i h=>by rw[funT,if_neg h]
 refine bd Tryz.f66 28 [16,26] [] fun _ _ _ _ hk=>?_;refine xaz (ι:=Nat) hk (fun i=>[(6,.d (.i (i:Int))),(5,.d (.str (funT w l i)))]) [7,8,9,10,11,12,13,14,15,16,17,18,19,20,21,22,23,24,25,26] (fun i=>[]) (fun i=>i<=l.length) (fun i=>l.length-i) 0 oc ⟨⟨_,Z,xaL ?_⟩,⟨⟨_,Z,xaM ?_⟩,O⟩⟩ O (fun x=>rfl) (fun i hg1=>?_);iterate 2 focus (rfl)
 refine evc [16,26] [] ?_;apply sq<;>intro h1 h1p h1s<;>(try simp only[Q,xal,xac] at h1p);apply sq<;>intro h2 h2p h2s<;>(try simp only[Q,xal,xac] at h2p);refine xbd .none Z Z Z (by have:=hlen i oc;have:=hb2 i oc;(try simp only[xaa,xab,xak]);omega) ?_;refine evs [16,26] [] (wc zlZ hft Z Z ?_);refine evd [16,26] [] (ixq sl24 Z Z Z (zaf oc) Z ?_);refine evd [16,26] [] (wc zmt (hfn i oc).1 Z Z ?_);refine xbd .none Z Z Z (by have:=hlen i oc;have:=hb2 i oc;(try simp only[xaa,xab,xak]);omega) ?_;refine evd [16,26] [] (dr (ar (xaj (i+1) ⟨oc,oc,sx ⟨⟨_,Z,xaL ?_⟩,⟨⟨_,Z,xaM ?_⟩,O⟩⟩ O⟩)));iterate 2 focus (first|rfl|(rw[hn1 i oc];done))
 refine wc zlZ hft Z Z ?_;refine evd [16,26] [] (ixq sl24 Z Z Z (zaf oc) Z ?_);refine evd [16,26] [] (wc zmt (hfn i oc).1 Z Z ?_);refine xbd .none Z Z Z (by have:=hlen i oc;have:=hb2 i oc;(try simp only[xaa,xab,xak]);omega) ?_;refine evd [16,26] [] (dr (ar (xaj (i+1) ⟨oc,oc,sx ⟨⟨_,Z,xaL ?_⟩,⟨⟨_,Z,xaM ?_⟩,O⟩⟩ O⟩)));iterate 2 focus (first|rfl|(rw[hn0 i oc];done))
 refine rq ?_;rotate_left;all_goals (rw[show i=l.length by omega])
end Go.Proofs.YtmkipahfpaacgaaGreatDoor
namespace Go.Proofs.YtmkipahfpaacgaaGreatDoor
open Go Go.RowKit
set_option linter.unusedSimpArgs false
set_option linter.unusedVariables false
theorem zmo {G:Gh}{w w':World} (h:Below w.heap.size w w') (ht:∀b,w.heap.size<=b->G.F b=0) (own:List Nat):Frm w G.F own w' G.F:=
 ⟨h.os,h.tape,h.output,h.size,fun b hb _=>⟨h.block b hb,rfl⟩,fun b o ho=>⟨ho,by
  by_cases hb:b<w.heap.size
  ·unfold World.cell?;simp only[h.block b hb]
  ·rw[ht b oc] at ho;omega⟩⟩
theorem FnD.strOf {P:Program}{f:FuncId}{args:List AV}{s:List UInt8} (h:∀(G:Gh) (w:World) (vals:Array Value),AllR G (fun _=>none) w args vals->(∀b,w.heap.size<=b->G.F b=0)->Calls P f vals w fun e w'=>e = .returned (.string ⟨s.toArray⟩)/\Below w.heap.size w w'):
  FnD P f args [] (.d (.str s)) []:=by
 intro G w vals hok;have hTn:tokf []=fun _=>none:=by funext i;rfl
 have ha:=hok.args;rw[hTn] at ha;refine(h G w vals ha hok.top).mono ?_;rintro e w' ⟨rfl,hb⟩
 exact⟨_,_,_,G,rfl,⟨rfl,rfl⟩,.d (.str s),fun id x hx=>by simp[getH] at hx,fun id id' h1=>by simp[getH] at h1,fun id h1=>by simp[getH] at h1,
  zmo hb hok.top _,fun b hb'=>hok.top b (Nat.le_trans hb.size hb'),fun id hid=>by simp[zbg,getH] at hid⟩
theorem AllR.one {G:Gh}{T:TokF}{w:World}{x:AV}{vals:Array Value} (h:AllR G T w [x] vals):∃v,vals = #[v]/\RelA G T w x v:=by
 have hs:=h.size;obtain⟨l⟩:=vals;match l,hs with
 | [v],_=>exact⟨v,rfl,h.rel 0 oe oe⟩
theorem AllR.two {G:Gh}{T:TokF}{w:World}{x y:AV}{vals:Array Value} (h:AllR G T w [x,y] vals):∃v u,vals = #[v,u]/\RelA G T w x v/\RelA G T w y u:=by
 have hs:=h.size;obtain⟨l⟩:=vals;match l,hs with
 | [v,u],_=>exact⟨v,u,rfl,h.rel 0 oe oe,h.rel 1 oe oe⟩
def zbm (sep:List UInt8):List (List UInt8)->List UInt8
 | []=>[]
 | [x]=>x
 |x::y::r=>x++sep++zbm sep (y::r)
theorem zgL (sep:List UInt8):∀l,Lib.join l sep=zbm sep l
 | []=>rfl
 | [x]=>Lib.join_one x sep
 |x::y::r=>by
  have ih:=zgL sep (y::r);rw[Lib.join_cons] at ih ⊢;rw[zbm,<-ih];simp[Lib.joinTail]
theorem FnD.join {P:Program}{f:FuncId}{l:List (List UInt8)}{sep:List UInt8}
  (hnone:∀(a:Option Addr) (c:Nat) (sep:ByteArray) (w:World),Calls P f #[.slice a 0 c,.string sep] w fun e w'=>e = .returned (.string ⟨#[]⟩)/\w'=w)
  (hmany:∀(bk o c:Nat) (xs:List ByteArray) (sep:ByteArray) (w:World),(∀(j:Nat) x,xs[j]?=some x->w.cell? ⟨bk,o+j,none⟩=some (.string x))->bk<w.heap.size->xs.length<=140737488355328->xs.length<=c->
   (Lib.join (xs.map (·.data.toList)) sep.data.toList).length<=140737488355328->
   Calls P f #[.slice (some ⟨bk,o,none⟩) xs.length c,.string sep] w fun e w'=>e = .returned (.string ⟨(Lib.join (xs.map (·.data.toList)) sep.data.toList).toArray⟩)/\Below w.heap.size w w')
  (hl:l.length<=140737488355328) (hj:(zbm sep l).length<=140737488355328):FnD P f [.d (.sl (l.map fun s=>[.str s])),.d (.str sep)] [] (.d (.str (zbm sep l))) []:=by
 refine FnD.strOf (fun G w vals hv htop=>?_);obtain⟨v,u,rfl,h1,h2⟩:=hv.two;have h2':=h2.d_inv;cases h2'
 by_cases hx:l=[]
 ·subst hx;have h1':=h1.d_inv;have:∃a c,v = .slice a 0 c:=by
   cases h1' with
   |nil=>exact⟨_,_,rfl⟩
   |sl=>exact⟨_,_,rfl⟩
   |emp=>exact⟨_,_,rfl⟩
  obtain⟨a,c,rfl⟩:=this;exact(hnone a c _ w).mono (by rintro e w' ⟨rfl,rfl⟩;exact⟨rfl,Below.refl _ _⟩)
 ·have h1':=h1.d_inv;generalize hY:(l.map fun s=>[D.str s])=Y at h1';cases h1' with
  |nil=>simp at hY;exact absurd hY hx
  |emp=>simp at hY;exact absurd hY hx
  |sl xs k b off cap cf hk hcap hc hr=>
   subst hY;have hlen:(l.map fun s=>[D.str s]).length=l.length:=by simp
   have hpos:0<l.length:=List.length_pos_iff.2 hx;have k1:k=1:=by
    have:=hk [D.str (l[0])] (List.mem_map.2 ⟨l[0],xao _,rfl⟩);simpa using this.symm
   subst k1;have hcell:∀i (hi:i<l.length),w.cell? ⟨b,off+i,none⟩=some (.string ⟨l[i].toArray⟩):=fun i hi=>by
    obtain⟨_,h3⟩:=hc i (by rw[hlen];omega);rw[h3];have h4:=hr i (by rw[hlen];exact hi) 0 oe;simp only[List.getElem_map,List.getElem_cons_zero,Nat.mul_one,Nat.add_zero] at h4;cases hq:cf i with
    |string s=>rw[hq] at h4;cases h4;rfl
    |_=>rw[hq] at h4;cases h4
   have hb:b<w.heap.size:=by
    obtain⟨h3,_⟩:=hc 0 (by rw[hlen];omega);by_cases hq:b<w.heap.size
    ·exact hq
    ·rw[htop b oc] at h3;omega
   have e1:(l.map fun s=>(⟨s.toArray⟩:ByteArray)).map (·.data.toList)=l:=by rw[List.map_map];exact List.map_id _
   have:=hmany b off cap (l.map fun s=>⟨s.toArray⟩) ⟨sep.toArray⟩ w (fun j x hj=>by
    rw[List.getElem?_map] at hj;obtain⟨hlt,e⟩:=Option.map_eq_some_iff.1 hj;obtain⟨hq,e2⟩:=List.getElem?_eq_some_iff.1 e.1;rw[hcell j hq,e2,e.2]) hb (by rw[xac];exact hl) (by rw[xac,<-hlen];exact hcap) (by rw[e1,zgL];simpa using hj)
   rw[e1,zgL,xac] at this;rw[hlen];refine this.mono (by rintro e w' ⟨rfl,h⟩;exact⟨by simp,h⟩)
theorem FnD.itoa {P:Program}{f:FuncId}{n:Int} (h:∀(i:Nat) (_:i<100) (w:World),Calls P f #[.int .i64 i] w fun e w'=>e = .returned (.string ⟨(Lib.decDigits i).toArray⟩)/\w'=w) (h0:0<=n) (h9:n<=9):
  FnD P f [.d (.int .i64 n)] [] (.d (.str [UInt8.ofNat (48+n.toNat)])) []:=by
 refine FnD.strOf (fun G w vals hv htop=>?_);obtain⟨v,rfl,h1⟩:=hv.one;have h1':=h1.d_inv;cases h1'
 obtain⟨i,rfl⟩:=Int.eq_ofNat_of_zero_le h0;refine(h i oc w).mono ?_;rintro e w' ⟨rfl,rfl⟩
 refine⟨?_,Below.refl _ _⟩;rw[Lib.decDigits,dif_pos oc];rfl
end Go.Proofs.YtmkipahfpaacgaaGreatDoor
namespace Go.Proofs.YtmkipahfpaacgaaGreatDoor
open Go
set_option linter.unusedSimpArgs false
set_option linter.unusedVariables false
set_option maxRecDepth 100000
def kT {α:Type} [Inhabited α] (f:Ty->α->Str) (ts:List Ty) (ks:List α):List Str:=(List.range ks.length).map fun i=>f (nth ts i) (nth ks i)
def zcm (l:List Str):Str:=if l=[] then [] else [40]++zbm [44] l++[41]
theorem zlK {α:Type} [Inhabited α]{f:Ty->α->Str}{t:Ty}{ts:List Ty}{k:α}{ks:List α}:kT f (t::ts) (k::ks)=f t k::kT f ts ks:=by
 unfold kT;rw[xab,List.range_succ_eq_map,xaf,List.map_map];rfl
theorem zla {α:Type} [Inhabited α]{f:Ty->α->Str}{ts:List Ty}{ks:List α}:(kT f ts ks).length=ks.length:=by simp[kT]
theorem zfD {α:Type} [Inhabited α]{f:Ty->α->Str}{ts:List Ty}{ks:List α}{i:Nat} (h:i<ks.length):nth (kT f ts ks) i=f (nth ts i) (nth ks i):=by
 rw[zaB (by rw[zla];exact h)];simp[kT]
theorem zdy (sep x:Str) (r:List Str):zbm sep (x::r)=x++r.flatMap (sep++·):=by
 induction r generalizing x with
 |nil=>simp[zbm]
 |cons y r ih=>rw[zbm,ih,List.flatMap_cons];simp
theorem zlT {α:Type} [Inhabited α]{f:Ty->α->Str}:∀ {ts:List Ty}{ks:List α},ts.length=ks.length->za3 f false ts ks=(kT f ts ks).flatMap ([44]++·)
 | [],[],_=>rfl
 |t::ts,k::ks,h=>by
  rw[za3,zlK,List.flatMap_cons,zlT (ts:=ts) (ks:=ks) (by simpa using h)];rfl
theorem zlr {α:Type} [Inhabited α]{f:Ty->α->Str}{ts:List Ty}{ks:List α} (h:ts.length=ks.length):za3 f true ts ks++(if 0<ts.length then [41] else [])=zcm (kT f ts ks):=by
 cases ts with
 |nil=>
  cases ks with
  |nil=>rfl
  |cons k ks=>simp at h
 |cons t ts=>
  cases ks with
  |nil=>simp at h
  |cons k ks=>
   rw[za3,if_pos rfl,zlK,zlT (ts:=ts) (ks:=ks) (by simpa using h),if_pos (show 0<(t::ts).length by simp)];unfold zcm;rw[if_neg oe,zdy];simp
theorem ze8 {sep:Str}{l:List Str}{m:Nat} (h:∀x∈l,x.length<=m):(zbm sep l).length<=l.length*(m+sep.length):=by
 cases l with
 |nil=>simp[zbm]
 |cons x r=>
  rw[zdy];have h0:=h x oe;have:∀r:List Str,(∀x∈r,x.length<=m)->(r.flatMap (sep++· : Str->Str)).length<=r.length*(m+sep.length):=by
   intro r;induction r with
   |nil=>simp
   |cons y r ih=>
    intro h;have h1:=ih (fun x hx=>h x (by simp[hx]));have h2:=h y oe;simp only[List.flatMap_cons,xaa,xab,Nat.add_mul,Nat.one_mul];omega
  have h3:=this r (fun y hy=>h y (by simp[hy]));simp only[xaa,xab,Nat.add_mul,Nat.one_mul];rw[Nat.add_comm];omega
theorem zkU {w:List Data}{t:Ty} (l:List Cl):zcE w t true l=zbm [47] (l.map (za2 w t)):=by
 cases l with
 |nil=>rfl
 |cons c r=>
  rw[xaf,zdy,zcE];have:∀r:List Cl,zcE w t false r=(r.map (za2 w t)).flatMap ([47]++·):=by
   intro r;induction r with
   |nil=>rfl
   |cons c r ih=>rw[zcE,ih,xaf,List.flatMap_cons];rfl
  rw[this];rfl
theorem zk5 {w:List Data} (l:List Fu):∀n,n<=l.length->funT w l n=zbm [59] ((l.take n).map fun f=>bodT w (l.map Fu.ty) f f.cls.length)
 |0,_=>rfl
 |n+1,h=>by
  have ih:=zk5 (w:=w) l n oc;have hn:l.take (n+1)=l.take n++[nth l n]:=by rw[List.take_succ_eq_append_getElem oc,zaB oc]
  rw[funT,ih,hn,xag];generalize hX:((l.take n).map fun f=>bodT w (l.map Fu.ty) f f.cls.length)=X;have hXl:X.length=n:=by rw[<-hX,xac,List.length_take];omega
  cases X with
  |nil=>
   have:n=0:=by simpa using hXl.symm
   subst this;simp[zbm]
  |cons x r=>
   rw[if_pos (by rw[<-hXl];simp),xai,zdy,zdy,List.flatMap_append];simp
section
variable {w:List Data}{n:Nat}{t:Ty}{p:Pat}
theorem pt4 (h:p.op=4) (hl:p.kids.length=(zaa w t p).length):zap w (n+1) t p=zbB w t p.ctor++zcm (kT (zap w n) (zaa w t p) p.kids):=by
 rw[zeL h] at hl ⊢;rw[tx4 h,xar,zlr hl.symm]
theorem pt5 (h:p.op=5) (hl:p.kids.length=(zaa w t p).length):zap w (n+1) t p=[40]++nth (kT (zap w n) (zaa w t p) p.kids) 0++[124]++nth (kT (zap w n) (zaa w t p) p.kids) 1++[41]:=by
 rw[zda h] at hl ⊢;have hl2:p.kids.length=2:=hl;rw[tx5 h,zfD oc,zfD oc];rfl
theorem pt6 (h:p.op=6) (hl:p.kids.length=(zaa w t p).length):zap w (n+1) t p=letV p.var++[64]++nth (kT (zap w n) (zaa w t p) p.kids) 0:=by
 rw[zdZ h] at hl ⊢;have hl2:p.kids.length=1:=hl;rw[tx6 h,zfD oc];rfl
end
section
variable {w:List Data}{funs:List Ft}{n:Nat}{t:Ty}{e:Ex}
theorem et3 (h:e.op=3) (h1:e.n=0) (h2:e.ctor∈zaA w t) (hl:(zak w funs t e).length=e.kids.length):zav w funs (n+1) t e=zbB w t e.ctor++zcm (kT (zav w funs n) (zak w funs t e) e.kids):=by
 rw[ty_3 h h1 h2] at hl ⊢;rw[te3 h,xar,zlr hl]
theorem znD {l:List Str} (h:l.length=2):zcm l=[40]++nth l 0++[44]++nth l 1++[41]:=by
 rcases l with _|⟨x,_|⟨y,_|⟨z,r⟩⟩⟩
 ·simp at h
 ·simp at h
 ·unfold zcm;rw[if_neg oe];simp[zbm,nth]
 ·simp at h
theorem znv {l:List Str} (h:l.length=1):zcm l=[40]++nth l 0++[41]:=by
 rcases l with _|⟨x,_|⟨y,r⟩⟩
 ·simp at h
 ·unfold zcm;rw[if_neg oe];simp[zbm,nth]
 ·simp at h
theorem et4 (h:e.op=4) (ht:t=numT) (hl:(zak w funs t e).length=e.kids.length):zav w funs (n+1) t e=[43]++zcm (kT (zav w funs n) (zak w funs t e) e.kids):=by
 subst ht;rw[ty_4 h] at hl ⊢;have hl2:e.kids.length=2:=hl.symm;rw[te4 h,znD (by rw[zla];exact hl2),zfD oc,zfD oc];simp[nth]
theorem et5 (h:e.op=5) (h1:0<=e.n/\e.n<(funs.length:Int)/\e.ctor=0) (hl:(zak w funs t e).length=e.kids.length):zav w funs (n+1) t e=[35]++decV e.n++zcm (kT (zav w funs n) (zak w funs t e) e.kids):=by
 rw[ty_5 h h1] at hl ⊢;have hl2:e.kids.length=1:=hl.symm;rw[te5 h,znv (by rw[zla];exact hl2),zfD oc];simp[nth]
end
theorem znr {n:Int} (h0:0<=n) (h9:n<=9):[UInt8.ofNat (48+n.toNat)]=decV n:=by
 unfold decV;rw[zlU,Int.emod_eq_of_lt oc oc];show _=[UInt8.ofNat (48+n).toNat]
 rw[show(48+n).toNat=48+n.toNat by omega]
theorem zld {l:List Str}{m:Nat} (h:∀x∈l,x.length<=m):(zcm l).length<=l.length*(m+1)+2:=by
 unfold zcm;split
 ·simp
 ·have h1:(zbm [44] l).length<=l.length*(m+1):=ze8 (sep:=[44]) h;simp only[xaa,xab,xak];omega
def VarIn (vars:List Vt):Prop:=∀v∈vars,0<=v.var/\v.var<=25
theorem zns {w:List Data}{funs:List Ft}{vars:List Vt}{n:Nat}{t:Ty}{e:Ex} (h:zaS w funs vars (n+1) t e=true) (hv:VarIn vars) (h2:e.op=2):0<=e.n/\e.n<=25:=by
 unfold zaS at h;rw[xad] at h;have h1:=h.1;unfold zc8 at h1;rw[xad,ok_2 h2,xad,xah] at h1;rcases zc4 vars e.n with ⟨q,_⟩|⟨k,q1,q2,q3,_⟩
 ·have:=h1.1.1;omega
 ·have:=hv _ (zad q2);rw[q3] at this;exact this
end Go.Proofs.YtmkipahfpaacgaaGreatDoor
namespace Go.Proofs.YtmkipahfpaacgaaGreatDoor
open Go Go.Shelf
set_option linter.unusedSimpArgs false
set_option linter.unusedVariables false
def zlR:Go.Shelf.Ren:=⟨fun|156=>124|165=>206|166=>207|169=>208|240=>267|241=>268|276=>298|277=>299|n=>n,fun|31=>84|9=>9|3=>3|4=>4|0=>0|20=>20|72=>264|76=>268|70=>262|37=>22|75=>267|127=>322|164=>343|5=>5|80=>270|n=>n,fun|n=>n⟩
theorem shJ:Go.Proofs.Lays.n156 Tryz.prog zlR:={
 mixed:=by kernel_rfl
 f156:=Tryz.func124.trans (xam some od)
 f165:=Tryz.func206.trans (xam some od)
 f166:=Tryz.func207.trans (xam some od)
 f169:=Tryz.func208.trans (xam some od)
 f240:=Tryz.func267.trans (xam some od)
 f241:=Tryz.func268.trans (xam some od)
 f276:=Tryz.func298.trans (xam some od)
 f277:=Tryz.func299.trans (xam some od)
 t0:=Tryz.underlying0
 a0:=Tryz.isAgg0
 z0:=Tryz.sizeOf0
 v0:=Tryz.zeroValue0
 t3:=Tryz.underlying3
 a3:=Tryz.isAgg3
 z3:=Tryz.sizeOf3
 v3:=Tryz.zeroValue3
 t4:=Tryz.underlying4
 a4:=Tryz.isAgg4
 z4:=Tryz.sizeOf4
 v4:=Tryz.zeroValue4
 t9:=Tryz.underlying9
 a9:=Tryz.isAgg9
 z9:=Tryz.sizeOf9
 v9:=Tryz.zeroValue9
 t20:=Tryz.underlying20
 a20:=Tryz.isAgg20
 z20:=Tryz.sizeOf20
 v20:=Tryz.zeroValue20
 t31:=Tryz.underlying84
 a31:=Tryz.isAgg84
 z31:=Tryz.sizeOf84
 v31:=Tryz.zeroValue84
 t37:=Tryz.underlying22
 a37:=Tryz.isAgg22
 z37:=Tryz.sizeOf22
 v37:=Tryz.zeroValue22
 t70:=Tryz.underlying262
 a70:=Tryz.isAgg262
 z70:=Tryz.sizeOf262
 v70:=Tryz.zeroValue262
 t72:=Tryz.underlying264
 a72:=Tryz.isAgg264
 z72:=Tryz.sizeOf264
 v72:=Tryz.zeroValue264
 t75:=Tryz.underlying267
 a75:=Tryz.isAgg267
 z75:=Tryz.sizeOf267
 v75:=Tryz.zeroValue267
 t76:=Tryz.underlying268
 a76:=Tryz.isAgg268
 z76:=Tryz.sizeOf268
 v76:=Tryz.zeroValue268
 t127:=Tryz.underlying322
 a127:=Tryz.isAgg322
 z127:=Tryz.sizeOf322
 v127:=Tryz.zeroValue322
 t164:=Tryz.underlying343
 a164:=Tryz.isAgg343
 z164:=Tryz.sizeOf343
 v164:=Tryz.zeroValue343 }
theorem shJX:Builder.Extra Tryz.prog zlR:={
 sizeBuilder:=by kernel_rfl
 liesBuilder:=by kernel_rfl
 t5:=Tryz.underlying5
 a5:=Tryz.isAgg5
 z5:=Tryz.sizeOf5
 v5:=Tryz.zeroValue5
 infoByte:=by kernel_rfl
 cellsByte:=by kernel_rfl
 sizeByte:=by kernel_rfl
 neB5:=by decide }
open Go.RowKit in
theorem zog (a:Option Addr) (c:Nat) (sep:ByteArray) (w:World):
  Calls Tryz.prog 124 #[.slice a 0 c,.string sep] w fun e w'=>e = .returned (.string ⟨#[]⟩)/\w'=w:=Any.strings_Join_none shJ shJX a c sep w
open Go.RowKit in
theorem zpz (bk o c:Nat) (xs:List ByteArray) (sep:ByteArray) (w:World) (hcells:∀(j:Nat) x,xs[j]?=some x->w.cell? ⟨bk,o+j,none⟩=some (.string x)) (hbk:bk<w.heap.size) (hN:xs.length<=140737488355328) (hcap:xs.length<=c) (hlen:(Lib.join (xs.map (·.data.toList)) sep.data.toList).length<=140737488355328):
  Calls Tryz.prog 124 #[.slice (some ⟨bk,o,none⟩) xs.length c,.string sep] w fun e w'=>e = .returned (.string ⟨(Lib.join (xs.map (·.data.toList)) sep.data.toList).toArray⟩)/\Below w.heap.size w w':=Any.strings_Join shJ shJX bk o c xs sep w hcells hbk hN hcap hlen
def zof:Go.Shelf.Ren:=⟨fun|171=>154|243=>238|246=>285|283=>305|284=>306|285=>307|286=>308|129=>313|317=>312|318=>314|319=>315|320=>316|337=>317|338=>318|n=>n,fun|3=>3|9=>9|2=>2|4=>4|171=>350|0=>0|53=>351|37=>22|5=>5|173=>354|212=>364|51=>346|20=>20|213=>365|46=>327|232=>368|233=>369|n=>n,fun|17=>3|18=>4|19=>5|n=>n⟩
theorem shI:Go.Proofs.Lays.n171 Tryz.prog zof:={
 mixed:=by kernel_rfl
 f129:=Tryz.func313.trans (xam some od)
 f171:=Tryz.func154.trans (xam some od)
 f243:=Tryz.func238.trans (xam some od)
 f246:=Tryz.func285.trans (xam some od)
 f283:=Tryz.func305.trans (xam some od)
 f284:=Tryz.func306.trans (xam some od)
 f285:=Tryz.func307.trans (xam some od)
 f286:=Tryz.func308.trans (xam some od)
 f317:=Tryz.func312.trans (xam some od)
 f318:=Tryz.func314.trans (xam some od)
 f319:=Tryz.func315.trans (xam some od)
 f320:=Tryz.func316.trans (xam some od)
 f337:=Tryz.func317.trans (xam some od)
 f338:=Tryz.func318.trans (xam some od)
 t0:=Tryz.underlying0
 a0:=Tryz.isAgg0
 z0:=Tryz.sizeOf0
 v0:=Tryz.zeroValue0
 t2:=Tryz.underlying2
 a2:=Tryz.isAgg2
 z2:=Tryz.sizeOf2
 v2:=Tryz.zeroValue2
 t3:=Tryz.underlying3
 a3:=Tryz.isAgg3
 z3:=Tryz.sizeOf3
 v3:=Tryz.zeroValue3
 t4:=Tryz.underlying4
 a4:=Tryz.isAgg4
 z4:=Tryz.sizeOf4
 v4:=Tryz.zeroValue4
 t5:=Tryz.underlying5
 a5:=Tryz.isAgg5
 z5:=Tryz.sizeOf5
 v5:=Tryz.zeroValue5
 t9:=Tryz.underlying9
 a9:=Tryz.isAgg9
 z9:=Tryz.sizeOf9
 v9:=Tryz.zeroValue9
 t20:=Tryz.underlying20
 a20:=Tryz.isAgg20
 z20:=Tryz.sizeOf20
 v20:=Tryz.zeroValue20
 t37:=Tryz.underlying22
 a37:=Tryz.isAgg22
 z37:=Tryz.sizeOf22
 v37:=Tryz.zeroValue22
 t46:=Tryz.underlying327
 a46:=Tryz.isAgg327
 z46:=Tryz.sizeOf327
 v46:=Tryz.zeroValue327
 t51:=Tryz.underlying346
 a51:=Tryz.isAgg346
 z51:=Tryz.sizeOf346
 v51:=Tryz.zeroValue346
 t53:=Tryz.underlying351
 a53:=Tryz.isAgg351
 z53:=Tryz.sizeOf351
 v53:=Tryz.zeroValue351
 t171:=Tryz.underlying350
 a171:=Tryz.isAgg350
 z171:=Tryz.sizeOf350
 v171:=Tryz.zeroValue350
 t173:=Tryz.underlying354
 a173:=Tryz.isAgg354
 z173:=Tryz.sizeOf354
 v173:=Tryz.zeroValue354
 t212:=Tryz.underlying364
 a212:=Tryz.isAgg364
 z212:=Tryz.sizeOf364
 v212:=Tryz.zeroValue364
 t213:=Tryz.underlying365
 a213:=Tryz.isAgg365
 z213:=Tryz.sizeOf365
 t232:=Tryz.underlying368
 a232:=Tryz.isAgg368
 z232:=Tryz.sizeOf368
 v232:=Tryz.zeroValue368
 t233:=Tryz.underlying369
 a233:=Tryz.isAgg369
 z233:=Tryz.sizeOf369
 v233:=Tryz.zeroValue369
 g17:=by kernel_rfl
 g18:=by kernel_rfl
 g19:=by kernel_rfl }
open Go.RowKit in
theorem zpy (i:Nat) (hi:i<100) (w:World):
  Calls Tryz.prog 154 #[.int .i64 i] w fun e w'=>e = .returned (.string ⟨(Lib.decDigits i).toArray⟩)/\w'=w:=Any.strconv_Itoa_small shI i hi w
theorem zdH {l:List Str}{sep:Str} (hl:l.length<=140737488355328) (hj:(zbm sep l).length<=140737488355328):FnD Tryz.prog 124 [.d (zlJ l),.d (.str sep)] [] (.d (.str (zbm sep l))) []:=FnD.join zog (fun bk o c xs sep w h1 h2 h3 h4 h5=>zpz bk o c xs sep w h1 h2 h3 h4 h5) hl hj
theorem zbc {n:Int} (h0:0<=n) (h9:n<=9):FnD Tryz.prog 154 [.d (.i n)] [] (.d (.str (decV n))) []:=by
 rw[<-znr h0 h9];exact FnD.itoa zpy h0 h9
end Go.Proofs.YtmkipahfpaacgaaGreatDoor
