/-
  THE ABSTRACT WALK AND THE WALKS, part 3 of 6: the parts F21, F24, F25, F13, G2, F22, F26, F23, F27, F28, F29, F40, F14, F16, F42, Val, F7, F8, Wu, F9, F10, F11, F17, F43, F44, F45, F46, F50, F51, F52, F53, F54, F55, F56, F57, F58, F60, F61, F30, F63, F102.
-/
import Derived.Test.YtlfipehhbdjnjaaGreatT512
namespace Go.Proofs.YtlfipehhbdjnjaaGreat
open Go
set_option linter.unusedSimpArgs false
set_option linter.unusedVariables false
set_option maxRecDepth 100000
set_option maxHeartbeats 4000000
theorem ziy {w:List Data}{d:Nat}{k:Int}:zal w ⟨d,k⟩=zaV w ⟨d,k⟩:=by unfold zal;rw[if_neg (by simp only;omega)]
theorem zhs {w:List Data}{k:Int}:zal w ⟨-1,k⟩=[]:=by unfold zal;rw[if_pos rfl]
theorem zeV {w:List Data} (hw:WT w){a k:Int} (ht:TyIn w.length ⟨a,k⟩):(zal w ⟨a,k⟩).length<=1000000000000:=by
 rcases ht with ha|⟨d,hd,hlt⟩
 ·simp only at ha;subst ha;rw[zhs];exact Nat.zero_le _
 ·simp only at hd;subst hd;rw[ziy];exact ziA hw
theorem zcH {w:List Data}{a k c:Int} (ht:TyIn w.length ⟨a,k⟩) (h:c∈zal w ⟨a,k⟩):∃d:Nat,a=d/\d<w.length/\PlaceIn w d c:=by
 rcases ht with ha|⟨d,hd,hlt⟩
 ·simp only at ha;subst ha;rw[zhs] at h;simp at h
 ·simp only at hd;subst hd;rw[ziy] at h;exact⟨d,rfl,hlt,zd0 h⟩
theorem zgM {w:List Data} (hw:WT w){a k:Int}{p:Pat} (ht:TyIn w.length ⟨a,k⟩) (h:ownP w ⟨a,k⟩ p=true):∀t∈zac w ⟨a,k⟩ p,TyIn w.length t:=by
 intro t hm;unfold zac at hm;split at hm
 ·rename_i h4;unfold ownP at h;have h':=of_decide_eq_true h;have hc:p.ctor∈zal w ⟨a,k⟩:=by
   rcases h'.2.2.2.2 with h|h|h|h|h|h
   ·omega
   ·omega
   ·omega
   ·omega
   ·omega
   ·exact h.2
  obtain⟨d,rfl,h1,h2⟩:=zcH ht hc;exact zh7 hw h1 h2 hm
 ·split at hm
  ·simp only[List.mem_cons,List.not_mem_nil,or_false] at hm;rcases hm with rfl|rfl<;>exact ht
  ·split at hm
   ·simp only[List.mem_cons,List.not_mem_nil,or_false] at hm;subst hm;exact ht
   ·simp at hm
theorem zhp {w:List Data} (hw:WT w){a k:Int}{p:Pat} (ht:TyIn w.length ⟨a,k⟩) (h:p.op=4->p.ctor∈zal w ⟨a,k⟩):(zac w ⟨a,k⟩ p).length<=1000000000000:=by
 unfold zac;split
 ·rename_i h4;obtain⟨d,rfl,h1,h2⟩:=zcH ht (h h4);exact zfv hw h1 h2
 ·split
  ·simp
  ·split<;>simp
def zgv (op:Int):Int:=if op=5 then 2 else if op=6 then 1 else if op=4 then -1 else 0
theorem zoQ {op:Int}:FnD Tryz.prog 319 [.d (.i op)] [] (.d (.i (zgv op))) []:=by
 refine bd Tryz.f319 10 [] [] fun w0 F0 own kept hk=>?_;refine sq ?_ ?_<;>intro h1 h1p h1s;refine rq ?_;rotate_left;refine sq ?_ ?_<;>intro h2 h2p h2s;refine rq ?_;rotate_left;refine sq ?_ ?_<;>intro h3 h3p h3s;refine rq ?_;rotate_left;refine rq ?_;rotate_left;all_goals (refine congrArg D.i ?_;simp only[zgv];simp_all)
theorem zbZ {w:List Data} (hw:WT w){a k:Int} (ht:TyIn w.length ⟨a,k⟩):FnD Tryz.prog 226 [.d (zah w),.agg [.d (.i a),.d (.i k)]] [] (.d (zcy (zal w ⟨a,k⟩))) []:=by
 rcases ht with ha|⟨d,hd,hlt⟩
 ·simp only at ha;subst ha;rw[zhs];exact zkc
 ·simp only at hd;subst hd;rw[ziy];exact zfU hw hlt
theorem zbu {w:List Data} (hw:WT w){a k c:Int} (ht:TyIn w.length ⟨a,k⟩) (hc:c∈zal w ⟨a,k⟩):FnD Tryz.prog 254 [.d (zah w),.agg [.d (.i a),.d (.i k)],.d (.i c)] [] (.d (zcs (zaa w ⟨a,k⟩ c))) []:=by
 obtain⟨d,rfl,h1,h2⟩:=zcH ht hc;exact zi6 hw h1 h2
theorem zgW {w:List Data} (hw:WT w){a k:Int}{p:Pat} (ht:TyIn w.length ⟨a,k⟩):
  FnD Tryz.prog 351 [.d (zah w),.agg [.d (.i a),.d (.i k)],.agg [.d (.i p.op),.d (.i p.ctor),.d (.i p.n),.d (.i p.m),.d (.i p.var),.d (zag p.kids)]] [] (.d (.bool (ownP w ⟨a,k⟩ p))) []:=by
 have hcl:=zeV hw ht;refine bd Tryz.f351 96 [] [1,2,4,13] fun w0 F0 own kept hk=>?_;refine bx 3004 ?_;refine bx 3005 ?_;refine ev ?_;refine xal ?_;refine xaB 8 [(15,.d (.bool (decide (p.op=2\/p.op=6))))] [8,9,10,11,12,13,14] ?_ ?_;refine ev ?_;refine sq ?_ ?_<;>intro h1 h1p h1s;exact jnb rfl;exact jnb rfl;refine xaA ?_;refine ev ?_;refine xal ?_;refine xaB 11 [(26,.d (.bool (decide ((p.op=2\/p.op=6)/\(p.var<0\/5<p.var)))))] [16,17,18,19,20,21,22,23,24,25] ?_ ?_;refine ev ?_;refine sq ?_ ?_<;>intro h2 h2p h2s;refine sq ?_ ?_<;>intro h3 h3p h3s;exact jnb rfl;exact jnb rfl;exact jnb rfl;refine xaB 9 [(35,.d (.bool (decide ((p.op=2\/p.op=6)/\(p.var<0\/5<p.var)\/¬(p.op=2\/p.op=6)/\p.var≠0))))] [27,28,29,30,31,32,33,34] ?_ ?_;refine ev ?_;refine sq ?_ ?_<;>intro h4 h4p h4s;exact jnb rfl;refine sq ?_ ?_<;>intro h5 h5p h5s;exact jnb rfl;exact jnb rfl;refine xaA ?_;refine tv ?_;refine sq ?_ ?_<;>intro h6 h6p h6s;refine rq ?_;rotate_left;refine xal ?_;refine xaB 13 [(48,.d (.bool (decide (p.op≠3/\(p.n≠0\/p.m≠0)))))] [36,37,38,39,40,41,42,43,44,45,46,47] ?_ ?_;refine ev ?_;refine sq ?_ ?_<;>intro h7 h7p h7s;refine sq ?_ ?_<;>intro h8 h8p h8s;exact jnb rfl;exact jnb rfl;exact jnb rfl;refine xaB 10 [(58,.d (.bool (decide (p.op≠3/\(p.n≠0\/p.m≠0)\/p.op≠4/\p.ctor≠0))))] [49,50,51,52,53,54,55,56,57] ?_ ?_;refine ev ?_;refine sq ?_ ?_<;>intro h9 h9p h9s;exact jnb rfl;refine sq ?_ ?_<;>intro h10 h10p h10s;exact jnb rfl;exact jnb rfl;refine xaA ?_;refine tv ?_;refine sq ?_ ?_<;>intro h11 h11p h11s;refine rq ?_;rotate_left;refine sq ?_ ?_<;>intro h12 h12p h12s;refine sq ?_ ?_<;>intro h13 h13p h13s;refine rq ?_;rotate_left;refine sq ?_ ?_<;>intro h14 h14p h14s;refine xal ?_;refine xaB 8 [(75,.d (.bool (decide (a = -1/\0<=p.n))))] [68,69,70,71,72,73,74] ?_ ?_;refine ev ?_;refine sq ?_ ?_<;>intro h15 h15p h15s;exact jnb rfl;exact jnb rfl;refine xaB 7 [(82,.d (.bool (decide (a = -1/\0<=p.n/\p.n<=p.m))))] [76,77,78,79,80,81] ?_ ?_;refine ev ?_;refine sq ?_ ?_<;>intro h16 h16p h16s;exact jnb rfl;exact jnb rfl;refine xaB 5 [(87,.d (.bool (decide (a = -1/\0<=p.n/\p.n<=p.m/\p.m<=9))))] [83,84,85,86] ?_ ?_;refine ev ?_;refine sq ?_ ?_<;>intro h17 h17p h17s;exact jnb rfl;exact jnb rfl;refine xaA ?_;refine ev ?_;refine rq ?_;rotate_left;refine sq ?_ ?_<;>intro h18 h18p h18s;refine wc zep (zbZ hw ht) rfl rfl ?_;refine evd [] [] ?_;refine wc ziP (zdl hcl) rfl rfl ?_;refine evd [] [] ?_;refine dr ?_;refine rq ?_;rotate_left;refine rq ?_;rotate_left;refine sq ?_ ?_<;>intro h19 h19p h19s;refine sq ?_ ?_<;>intro h20 h20p h20s;refine rq ?_;rotate_left;refine sq ?_ ?_<;>intro h21 h21p h21s;refine xal ?_;refine xaB 8 [(75,.d (.bool (decide (a = -1/\0<=p.n))))] [68,69,70,71,72,73,74] ?_ ?_;refine ev ?_;refine sq ?_ ?_<;>intro h22 h22p h22s;exact jnb rfl;exact jnb rfl;refine xaB 7 [(82,.d (.bool (decide (a = -1/\0<=p.n/\p.n<=p.m))))] [76,77,78,79,80,81] ?_ ?_;refine ev ?_;refine sq ?_ ?_<;>intro h23 h23p h23s;exact jnb rfl;exact jnb rfl;refine xaB 5 [(87,.d (.bool (decide (a = -1/\0<=p.n/\p.n<=p.m/\p.m<=9))))] [83,84,85,86] ?_ ?_;refine ev ?_;refine sq ?_ ?_<;>intro h24 h24p h24s;exact jnb rfl;exact jnb rfl;refine xaA ?_;refine ev ?_;refine rq ?_;rotate_left;refine sq ?_ ?_<;>intro h25 h25p h25s;refine wc zep (zbZ hw ht) rfl rfl ?_;refine evd [] [] ?_;refine wc ziP (zdl hcl) rfl rfl ?_;refine evd [] [] ?_;refine dr ?_;refine rq ?_;rotate_left;refine rq ?_;rotate_left;refine sq ?_ ?_<;>intro h26 h26p h26s;refine sq ?_ ?_<;>intro h27 h27p h27s;refine rq ?_;rotate_left;refine sq ?_ ?_<;>intro h28 h28p h28s;refine xal ?_;refine xaB 8 [(75,.d (.bool (decide (a = -1/\0<=p.n))))] [68,69,70,71,72,73,74] ?_ ?_;refine ev ?_;refine sq ?_ ?_<;>intro h29 h29p h29s;exact jnb rfl;exact jnb rfl;refine xaB 7 [(82,.d (.bool (decide (a = -1/\0<=p.n/\p.n<=p.m))))] [76,77,78,79,80,81] ?_ ?_;refine ev ?_;refine sq ?_ ?_<;>intro h30 h30p h30s;exact jnb rfl;exact jnb rfl;refine xaB 5 [(87,.d (.bool (decide (a = -1/\0<=p.n/\p.n<=p.m/\p.m<=9))))] [83,84,85,86] ?_ ?_;refine ev ?_;refine sq ?_ ?_<;>intro h31 h31p h31s;exact jnb rfl;exact jnb rfl;refine xaA ?_;refine ev ?_;refine rq ?_;rotate_left;refine sq ?_ ?_<;>intro h32 h32p h32s;refine wc zep (zbZ hw ht) rfl rfl ?_;refine evd [] [] ?_;refine wc ziP (zdl hcl) rfl rfl ?_;refine evd [] [] ?_;refine dr ?_;refine rq ?_;rotate_left;refine rq ?_;rotate_left;refine sq ?_ ?_<;>intro h33 h33p h33s;refine rq ?_;rotate_left;refine sq ?_ ?_<;>intro h34 h34p h34s;refine xal ?_;refine xaB 8 [(75,.d (.bool (decide (a = -1/\0<=p.n))))] [68,69,70,71,72,73,74] ?_ ?_;refine ev ?_;refine sq ?_ ?_<;>intro h35 h35p h35s;exact jnb rfl;exact jnb rfl;refine xaB 7 [(82,.d (.bool (decide (a = -1/\0<=p.n/\p.n<=p.m))))] [76,77,78,79,80,81] ?_ ?_;refine ev ?_;refine sq ?_ ?_<;>intro h36 h36p h36s;exact jnb rfl;exact jnb rfl;refine xaB 5 [(87,.d (.bool (decide (a = -1/\0<=p.n/\p.n<=p.m/\p.m<=9))))] [83,84,85,86] ?_ ?_;refine ev ?_;refine sq ?_ ?_<;>intro h37 h37p h37s;exact jnb rfl;exact jnb rfl;refine xaA ?_;refine ev ?_;refine rq ?_;rotate_left;refine sq ?_ ?_<;>intro h38 h38p h38s;refine wc zep (zbZ hw ht) rfl rfl ?_;refine evd [] [] ?_;refine wc ziP (zdl hcl) rfl rfl ?_;refine evd [] [] ?_;refine dr ?_;refine rq ?_;rotate_left;refine rq ?_;rotate_left;all_goals (refine congrArg D.bool ?_;unfold ownP;rw[Bool.eq_iff_iff];by_cases hmem:p.ctor∈zal w ⟨a,k⟩<;>(simp only[hmem,and_true,and_false,or_false,decide_eq_true_eq,xad,Bool.false_eq_true,true_iff,false_iff];simp only[decide_eq_true_eq,decide_eq_false_iff_not] at *;omega))
theorem zcQ {w:List Data} (hw:WT w){a k:Int}{p:Pat} (ht:TyIn w.length ⟨a,k⟩) (h:p.op=4->p.ctor∈zal w ⟨a,k⟩):
  FnD Tryz.prog 252 [.d (zah w),.agg [.d (.i a),.d (.i k)],.agg [.d (.i p.op),.d (.i p.ctor),.d (.i p.n),.d (.i p.m),.d (.i p.var),.d (zag p.kids)]] [] (.d (zcs (zac w ⟨a,k⟩ p))) []:=by
 by_cases h4:p.op=4
 ·have e:zac w ⟨a,k⟩ p=zaa w ⟨a,k⟩ p.ctor:=by unfold zac;rw[if_pos h4]
  rw[e];refine bd Tryz.f252 30 [] [] fun w0 F0 own kept hk=>?_;refine bx 3004 ?_;refine bx 3005 ?_;refine ev ?_;refine sq ?_ ?_<;>intro h1 h1p h1s;refine wc zdn (zbu hw ht (h h4)) rfl rfl ?_;refine ev ?_;refine rq ?_;rotate_left;exfalso;simp_all;all_goals (rfl)
 ·have e:zac w ⟨a,k⟩ p=List.replicate (zgv p.op).toNat ⟨a,k⟩:=by
   unfold zac zgv;rw[if_neg h4];by_cases h5:p.op=5
   ·rw[if_pos h5,if_pos h5];rfl
   ·rw[if_neg h5,if_neg h5];by_cases h6:p.op=6
    ·rw[if_pos h6,if_pos h6];rfl
    ·rw[if_neg h6,if_neg h6,if_neg h4];rfl
  have hb:0<=zgv p.op/\zgv p.op<=2:=by unfold zgv;split<;>(try split)<;>(try split)<;>omega
  rw[e];refine bd Tryz.f252 30 [] [] fun w0 F0 own kept hk=>?_;refine bx 3004 ?_;refine bx 3005 ?_;refine ev ?_;refine sq ?_ ?_<;>intro h1 h1p h1s;exfalso;simp_all;refine xbh 5 zaN .none rfl rfl ?_;refine ev ?_;refine xak (ι:=Nat) hk (fun i=>[(8,.d (.i (i:Int))),(7,.gl 5 ((List.replicate i (⟨a,k⟩:Ty)).map Ty.c))]) [18,19,20,21,22,23,24,25,26,27,28] (fun i=>[(5,some (.tok (((List.replicate i (⟨a,k⟩:Ty)).map Ty.c)).length 2))]) (fun i=>(i:Int)<=zgv p.op) (fun i=>(zgv p.op).toNat-i) 0 (by omega) ⟨⟨_,rfl,xaq ?_⟩,⟨⟨_,rfl,LeA.glg ?_⟩,trivial⟩⟩ ⟨zab ?_,trivial⟩ (fun x=>rfl) (fun i hg1=>?_);iterate 3 focus (rfl)
  refine evc [] [] ?_;refine wc zxY (zoQ) rfl rfl ?_;refine ev ?_;refine sq ?_ ?_<;>intro h2 h2p h2s<;>(try simp only[Q] at h2p);refine si [0] [_] zaN tz25 ?_;refine ap zaN zz25 rfl rfl rfl (by simp) (by simp;omega) ?_;refine ev ?_;refine ar ?_;refine xah (i+1) ⟨(by omega),(by omega),sx ⟨⟨_,rfl,xaq ?_⟩,⟨⟨_,rfl,LeA.glg ?_⟩,trivial⟩⟩ ⟨zab ?_,trivial⟩⟩;iterate 3 focus ((simp[List.replicate_succ'];done))
  refine rn0 (r1 rfl) (.gld ?_);rotate_left;all_goals ((obtain rfl:i=(zgv p.op).toNat:=by omega);simp)
theorem zbe {w:List Data}{n:Nat}{t:Ty}{p:Pat} (h:zan w (n+1) t p=true):ownP w t p=true/\p.kids.length=(zac w t p).length:=by
 simp only[zan,xad] at h;refine⟨h.1, ?_⟩;by_cases hl:(zac w t p).length=p.kids.length
 ·exact hl.symm
 ·rw[ze6 hl] at h;simp at h
theorem zb2 {w:List Data}{t:Ty}{p:Pat} (h:ownP w t p=true):p.op=4->p.ctor∈zal w t:=by
 intro h4;unfold ownP at h;have h':=(of_decide_eq_true h).2.2.2.2;rcases h' with h|h|h|h|h|h
 ·omega
 ·omega
 ·omega
 ·omega
 ·omega
 ·exact h.2
theorem zro {w:List Data}{t:Ty}{p:Pat} (h:ownP w t p=true):(p.op=2\/p.op=6)->0<=p.var/\p.var<=5:=by
 unfold ownP at h;exact(of_decide_eq_true h).1
theorem zfX {w:List Data} (hw:WT w):∀(n:Nat){a k m:Int}{p:Pat},m=n->n<=1000->TyIn w.length ⟨a,k⟩->p.ok->
  FnD Tryz.prog 296 [.d (zah w),.agg [.d (.i a),.d (.i k)],.agg [.d (.i p.op),.d (.i p.ctor),.d (.i p.n),.d (.i p.m),.d (.i p.var),.d (zag p.kids)],.d (.i m)] [] (.d (.bool (zan w n ⟨a,k⟩ p))) []
 |0,a,k,m,p,hm,_,ht,hok=>by
  refine bd Tryz.f296 50 [] [1] fun w0 F0 own kept hk=>?_;refine bx 3005 ?_;refine bx 3006 ?_;refine ev ?_;refine xal ?_;refine xaB 9 [(19,.d (.bool (true)))] [11,12,13,14,15,16,17,18] ?_ ?_;refine ev ?_;refine sq ?_ ?_<;>intro h1 h1p h1s;exact jnb rfl;refine Walk.call (cr:=[]) zqJ (zgW hw ht) rfl (.some rfl rfl h1) rfl rfl (LeL.refl _) trivial rfl rfl rfl ?_;refine evs [] [(13,false)] ?_ ⟨⟨_,rfl,h1⟩,trivial⟩;exact jnb rfl;refine xaA ?_;refine tv ?_;refine sq ?_ ?_<;>intro h2 h2p h2s;refine rq ?_;rotate_left;exact absurd h2 (by simp);all_goals (rfl)
 |n+1,a,k,m,p,hm,hn,ht,hok=>by
  rw[Pat.ok_iff] at hok;by_cases ho:ownP w ⟨a,k⟩ p=true
  ·have hin:=zgM hw ht ho;have hlen:=zhp hw ht (zb2 ho);refine bd Tryz.f296 50 [] [1] fun w0 F0 own kept hk=>?_;refine bx 3005 ?_;refine bx 3006 ?_;refine ev ?_;refine xal ?_;refine xaB 9 [(19,.d (.bool (false)))] [11,12,13,14,15,16,17,18] ?_ ?_;refine ev ?_;refine sq ?_ ?_<;>intro h1 h1p h1s;exact jnb rfl;refine Walk.call (cr:=[]) zqJ (zgW hw ht) rfl (.some rfl rfl h1) rfl rfl (LeL.refl _) trivial rfl rfl rfl ?_;refine evs [] [(13,false)] ?_ ⟨⟨_,rfl,h1⟩,trivial⟩;exact jnb rfl;refine xaA ?_;refine tv ?_;refine sq ?_ ?_<;>intro h2 h2p h2s;exact absurd h2 (by simp);refine wc ziO (zcQ hw ht (zb2 ho)) rfl rfl ?_;refine ev ?_;refine sq ?_ ?_<;>intro h3 h3p h3s;refine rq ?_;rotate_left;try simp only[Q,Pat.cs_len] at h3p
   refine xak (ι:=Nat) hk (fun i=>[(10,.d (.i (i:Int)))]) [8,30,31,32,33,34,35,36,37,38,39,40,41,42,43,44,45,46,47,48,49] (fun i=>[]) (fun i=>i<=(zac w ⟨a,k⟩ p).length/\∀i',i'<i->zan w n (nth (zac w ⟨a,k⟩ p) i') (nth p.kids i')=true) (fun i=>(zac w ⟨a,k⟩ p).length-i) 0 ⟨by omega,fun _ h=>absurd h (by omega)⟩ ⟨⟨_,rfl,xaq ?_⟩,trivial⟩ trivial (fun x=>rfl) (fun i hg1=>?_);focus (first|(simp;done)|(simp_all;done))
   refine evc [] [1] ?_;refine sq ?_ ?_<;>intro h4 h4p h4s;try simp only[Q,Pat.cs_len] at h4p
   refine xaU zaN .none rfl rfl rfl rfl (zaq (by omega)) rfl ?_;refine evd [] [] ?_;refine xaU sl34 .none rfl rfl rfl rfl (zar (by omega)) rfl ?_;refine evd [] [] ?_;refine ar ?_;refine wc zqG (zfX hw n (by omega) (by omega) (hin _ (zae (by omega))) (Pats.ok_mem hok.2 _ (zae (by omega)))) rfl rfl ?_;refine evd [] [] ?_;refine dr ?_;refine sq ?_ ?_<;>intro h5 h5p h5s;refine rq ?_;rotate_left;try simp only[Q,Pat.cs_len] at h5p
   refine ar ?_;refine xah (i+1) ⟨⟨by omega,zaT hg1.2 (by assumption)⟩,(by omega),sx ⟨⟨_,rfl,xaq ?_⟩,trivial⟩ trivial⟩;focus (first|(simp;done)|(simp_all;done))
   refine rq ?_;rotate_left;all_goals (refine congrArg D.bool ?_;unfold zan;rw[ho,Bool.true_and];first|(rw[ze6 (by simp[Pat.cs_len] at *;omega)])|(rw[zbs (by simp[Pat.cs_len] at *;omega) (fun x hx=>hg1.2 x (by simp[Pat.cs_len] at *;omega))])|(rw[zbr (i:=i) (by simp[Pat.cs_len] at *;omega) (by simp[Pat.cs_len] at *;omega) (by assumption)]))
  ·have ho':ownP w ⟨a,k⟩ p=false:=by simpa using ho
   refine bd Tryz.f296 50 [] [1] fun w0 F0 own kept hk=>?_;refine bx 3005 ?_;refine bx 3006 ?_;refine ev ?_;refine xal ?_;refine xaB 9 [(19,.d (.bool (true)))] [11,12,13,14,15,16,17,18] ?_ ?_;refine ev ?_;refine sq ?_ ?_<;>intro h1 h1p h1s;exact jnb rfl;refine Walk.call (cr:=[]) zqJ (zgW hw ht) rfl (.some rfl rfl h1) rfl rfl (LeL.refl _) trivial rfl rfl rfl ?_;refine evs [] [(13,false)] ?_ ⟨⟨_,rfl,h1⟩,trivial⟩;exact jnb rfl;refine xaA ?_;refine tv ?_;refine sq ?_ ?_<;>intro h2 h2p h2s;refine rq ?_;rotate_left;exact absurd h2 (by simp);all_goals (refine congrArg D.bool ?_;unfold zan;rw[ho'];rfl)
theorem zgk {l:List Vt}{n:Int} (h:l.length<=1000000000000):FnD Tryz.prog 299 [.d (zc7 l),.d (.i n)] [] (.d (.i (zbM l n))) []:=by
 refine bd Tryz.f299 20 [] [] fun w0 F0 own kept hk=>?_;refine xak (ι:=List (Vt)×List (Vt)) hk (fun x=>[(5,.d (.i (x.1.length:Int)))]) [4,6,7,8,9,10,11,12,13,14,15,16,17,18,19] (fun x=>[]) (fun x=>x.1++x.2=l/\idxF (fun v=>decide (v.var=n)) x.2 x.1.length=idxF (fun v=>decide (v.var=n)) l 0) (fun x=>x.2.length) ([],l) ⟨by simp,rfl⟩ ⟨⟨_,rfl,xaq ?_⟩,trivial⟩ trivial (fun x=>rfl) (fun x hg1=>?_);focus (rfl)
 obtain⟨pre,rest⟩:=x;dsimp only at hg1 ⊢;refine evc [] [] ?_;refine sq ?_ ?_<;>intro h1 h1p h1s<;>(try simp only[Q] at h1p);rcases rest with _|⟨y,rest⟩
 ·exfalso;simp_all
 refine xaU zdf .none rfl rfl rfl rfl (zaG hg1.1) rfl ?_;refine ev ?_;refine sq ?_ ?_<;>intro h2 h2p h2s<;>(try simp only[Q] at h2p);focus (refine rq ?_;all_goals (refine congrArg D.i ?_;unfold zbM;rw[<-hg1.2];simp[idxF,h1s,h1p,h2s,h2p]))
 refine ar ?_;refine xah ((pre++[y],rest)) ⟨⟨(by have hz:=hg1.1;rw[<-hz];simp),(by rw[<-hg1.2];simp_all[idxF])⟩,(by simp),sx ⟨⟨_,rfl,xaq ?_⟩,trivial⟩ trivial⟩;focus ((simp;done))
 have hrest:rest=[]:=by
  rcases rest with _|⟨a,b⟩
  ·rfl
  ·exfalso;have hz:=congrArg List.length (hg1.1);simp only[xaa,xab,xac] at hz;omega
 subst hrest;focus (refine rq ?_;all_goals (refine congrArg D.i ?_;unfold zbM;rw[<-hg1.2];simp[idxF,h1s,h1p]))
theorem zrZ {a b:List Vt}{i:Nat} (h:i<a.length) (h2:¬(0<=zbM b (nth a i).var/\(nth b (zbM b (nth a i).var).toNat).ty=(nth a i).ty)):zdI a b=false:=by
 unfold zdI;have:(a.all fun v=>decide (0<=zbM b v.var/\(nth b (zbM b v.var).toNat).ty=v.ty))=false:=List.all_eq_false.2 ⟨_,zae h,by simpa using h2⟩;rw[this,Bool.false_and]
theorem zsY {a b:List Vt} (h:∀i,i<a.length->0<=zbM b (nth a i).var/\(nth b (zbM b (nth a i).var).toNat).ty=(nth a i).ty):zdI a b=decide (a.length=b.length):=by
 unfold zdI;have:(a.all fun v=>decide (0<=zbM b v.var/\(nth b (zbM b v.var).toNat).ty=v.ty))=true:=by
  rw[List.all_eq_true];intro v hv;obtain⟨j,hj,he⟩:=List.getElem_of_mem hv;have:=h j hj;rw[za1 hj,he] at this;exact decide_eq_true this
 rw[this,Bool.true_and]
theorem zl3 {l:List Vt}{n:Int} (h:0<=zbM l n):(zbM l n).toNat<l.length/\((zbM l n).toNat:Int)=zbM l n:=by
 rcases zfC l n with ⟨h1,_⟩|⟨k,h1,h2,_⟩
 ·omega
 ·rw[h1];simpa using h2
theorem zu2 {t u:Ty}:t=u↔t.data=u.data/\t.index=u.index:=by
 cases t;cases u;simp
theorem znS {x y:List Vt} (hx:x.length<=1000000000000) (hy:y.length<=1000000000000):FnD Tryz.prog 352 [.d (zc7 x),.d (zc7 y)] [] (.d (.bool (zdI x y))) []:=by
 refine bd Tryz.f352 40 [33] [] fun w0 F0 own kept hk=>?_;refine xak (ι:=Nat) hk (fun i=>[(5,.d (.i (i:Int)))]) [4,6,7,8,9,10,11,12,13,14,15,16,17,18,19,20,21,22,23,24,25,26,27,28,29,30,31,32,33,34] (fun i=>[]) (fun i=>i<=x.length/\∀j,j<i->0<=zbM y (nth x j).var/\(nth y (zbM y (nth x j).var).toNat).ty=(nth x j).ty) (fun i=>x.length-i) 0 ⟨by omega,fun _ h=>absurd h (by omega)⟩ ⟨⟨_,rfl,xaq ?_⟩,trivial⟩ trivial (fun x=>rfl) (fun i hg1=>?_);focus (rfl)
 refine evc [33] [] ?_;refine sq ?_ ?_<;>intro h1 h1p h1s<;>(try simp only[Q] at h1p);refine xaU zdf .none rfl rfl rfl rfl (zaq (by omega)) rfl ?_;refine evs [33] [] ?_;refine wc zqI (zgk hy) rfl rfl ?_;refine evs [33] [] ?_;refine sq ?_ ?_<;>intro h2 h2p h2s<;>(try simp only[Q] at h2p);refine dr ?_;refine sqT ?_;refine rq ?_;rotate_left;refine xaU (i:=(zbM y (nth x i).var).toNat) zdf (.some rfl rfl h2) rfl rfl rfl (zl3 (l:=y) (n:=(nth x i).var) (by omega)).2.symm (zaq (by exact(zl3 (l:=y) (n:=(nth x i).var) (by omega)).1)) rfl ?_;refine evd [33] [(22,false)] ?_ ⟨⟨_,rfl,h2⟩,trivial⟩;refine xaU zdf (.some rfl rfl h2) rfl rfl rfl rfl (zaq (by omega)) rfl ?_;refine evd [33] [(22,false)] ?_ ⟨⟨_,rfl,h2⟩,trivial⟩;refine Walk.neV eq25 (.some rfl rfl h2) rfl rfl rfl rfl rfl ?_;refine evd [33] [(22,false)] ?_ ⟨⟨_,rfl,h2⟩,trivial⟩;refine dr ?_;refine sq ?_ ?_<;>intro h4 h4p h4s<;>(try simp only[Q] at h4p);refine rq ?_;rotate_left;refine ar ?_;refine xah (i+1) ⟨⟨by omega,zaT hg1.2 (by rw[zu2];first|omega|(simp at h4;omega))⟩,(by omega),sx ⟨⟨_,rfl,xaq ?_⟩,trivial⟩ trivial⟩;focus (rfl)
 refine rq ?_;rotate_left;all_goals (refine congrArg D.bool ?_;first|(refine(zrZ (i:=i) (by omega) ?_).symm;simp only[zu2];first|omega|(simp at h4;omega))|(rw[zsY (fun j hj=>hg1.2 j (by simp at h1p;omega))];exact decide_eq_decide.2 (by simp;omega)))
theorem zlf {f:Ty->Pat->List Vt} (hf:∀t p,(f t p).length<=p.size):∀(a:List Ty) (b:List Pat),(za5 f a b).length<=Pats.size b
 | [],[]=>by simp[za5]
 | [],_::_=>by simp[za5]
 |_::_,[]=>by simp[za5]
 |x::r,y::s=>by
  have h1:=zlf hf r s;have h2:=hf x y;simp only[za5,xaa,Pats.size];omega
theorem zeI (w:List Data):∀(n:Nat) (t:Ty) (p:Pat),(zaB w n t p).length<=p.size
 |0,t,p=>by simp[zaB]
 |n+1,t,p=>by
  have h1:=zlf (zeI w n) (zcT w t p) p.kids;have h2:(zaP t p).length<=1:=by unfold zaP;split<;>simp
  rw[Pat.size_eq];simp only[zaB,xaa];omega
theorem zjS {f:Ty->Pat->List Vt}:∀ {a:List Ty}{b:List Pat}{i:Nat},i<a.length->i<b.length->za5 f (a.take (i+1)) (b.take (i+1))=za5 f (a.take i) (b.take i)++f (nth a i) (nth b i)
 |x::r,y::s,0,_,_=>by simp[za5,nth]
 |x::r,y::s,i+1,h1,h2=>by
  have:=zjS (f:=f) (a:=r) (b:=s) (i:=i) (by simpa using h1) (by simpa using h2);simp only[List.take_succ_cons,za5];rw[this,List.append_assoc];rfl
theorem zob {f:Ty->Pat->List Vt}:∀ {a:List Ty}{b:List Pat}{i:Nat},za5 f (a.take i) (b.take i)=za5 f (a.take i) b
 | [],b,i=>by simp[za5]
 |x::r,[],i=>by simp[za5]
 |x::r,y::s,0=>by simp[za5]
 |x::r,y::s,i+1=>by simp only[List.take_succ_cons,za5];rw[zob]
theorem zrX {f:Ty->Pat->List Vt} (hf:∀t p,(f t p).length<=p.size){a:List Ty}{b:List Pat}{i:Nat} (h:i<b.length):(za5 f (a.take i) (b.take i)).length+(nth b i).size<=Pats.size b:=by
 have h1:=zlf hf (a.take i) (b.take i);have h2:=Pats.size_split (pre:=b.take i) (y:=nth b i) (rest:=b.drop (i+1)) (l:=b) (by rw[<-zaH h,List.take_append_drop]);omega
def zdP (w:List Data) (t:Ty) (p:Pat):Nat:=(zcT w t p).length
theorem zlg (w:List Data) (t:Ty) (p:Pat):zdP w t p=if p.op=5 then 1 else (zac w t p).length:=by
 unfold zdP zcT;by_cases h5:p.op=5
 ·rw[if_pos h5,if_pos h5];have:zac w t p=[t,t]:=by unfold zac;rw[if_neg (by omega),if_pos h5]
  rw[this];rfl
 ·rw[if_neg h5,if_neg h5]
theorem zpK {w:List Data}{f:Ty->Pat->List Vt}{t:Ty}{p:Pat} (hl:p.kids.length=(zac w t p).length){i:Nat} (h:i=zdP w t p):za5 f ((zac w t p).take i) (p.kids.take i)=za5 f (zcT w t p) p.kids:=by
 subst h;rw[zob];congr 1
 rw[zlg];unfold zcT;by_cases h5:p.op=5
 ·rw[if_pos h5,if_pos h5]
 ·rw[if_neg h5,if_neg h5,List.take_length]
theorem zbg {w:List Data}{n:Nat}{t:Ty}{p:Pat} (h:zan w (n+1) t p=true){i:Nat} (hi:i<p.kids.length):zan w n (nth (zac w t p) i) (nth p.kids i)=true:=by
 have hl:=(zbe h).2;cases hs:zan w n (nth (zac w t p) i) (nth p.kids i) with
 |true=>rfl
 |false=>
  have:=zbr (f:=zan w n) (a:=zac w t p) (b:=p.kids) (i:=i) (by omega) hl.symm hs;simp only[zan,this,Bool.and_false] at h;cases h
theorem zgm {w:List Data} (hw:WT w):∀(n:Nat){a k:Int}{p:Pat}{xs:List Vt},zan w n ⟨a,k⟩ p=true->n<=1000->TyIn w.length ⟨a,k⟩->p.ok->xs.length+p.size<=2000000000000->
  FnD Tryz.prog 225 [.gl 5 (xs.map Vt.c),.d (zah w),.agg [.d (.i a),.d (.i k)],.agg [.d (.i p.op),.d (.i p.ctor),.d (.i p.n),.d (.i p.m),.d (.i p.var),.d (zag p.kids)]] [(5,some (.tok (xs.map Vt.c).length 3))]
   (.gl 5 ((xs++zaB w n ⟨a,k⟩ p).map Vt.c)) [(5,some (.tok ((xs++zaB w n ⟨a,k⟩ p).map Vt.c).length 3))]
 |0,a,k,p,xs,hs,_,_,_,_=>by simp[zan] at hs
 |n+1,a,k,p,xs,hs,hn,ht,hok,hb=>by
  rw[Pat.ok_iff] at hok;rw[Pat.size_eq] at hb;obtain⟨ho,hl⟩:=zbe hs;have hin:=zgM hw ht ho;have hlen:=zhp hw ht (zb2 ho);have hvc5:p.op=5->zdP w ⟨a,k⟩ p=1:=fun h=>by rw[zlg,if_pos h]
  have hvc:¬p.op=5->zdP w ⟨a,k⟩ p=(zac w ⟨a,k⟩ p).length:=fun h=>by rw[zlg,if_neg h]
  have hv2:zdP w ⟨a,k⟩ p<=p.kids.length:=by
   unfold zdP zcT;split
   ·rw[List.length_take];omega
   ·omega
  have e5:p.op=5->(zac w ⟨a,k⟩ p).length=2:=fun h5=>by unfold zac;rw[if_neg (by omega),if_pos h5];rfl
  have hnm:(zaP ⟨a,k⟩ p).length<=1:=by unfold zaP;split<;>simp
  refine bd Tryz.f225 58 [] [1,5,6] fun w0 F0 own kept hk=>?_;refine bx 3006 ?_;refine bx 3007 ?_;refine ev ?_;refine xal ?_;refine xaB 8 [(18,.d (.bool (decide (p.op=2\/p.op=6))))] [11,12,13,14,15,16,17] ?_ ?_;refine ev ?_;refine sq ?_ ?_<;>intro h1 h1p h1s;exact jnb rfl;exact jnb rfl;refine xaA ?_;refine tv ?_;refine sq ?_ ?_<;>intro h2 h2p h2s<;>(try simp only[Q,Pat.cs_len] at h2p);refine bu [0,1] [_,_] ztu ?_;refine si [0] [_] zdf zqg ?_;refine ap zdf zqk rfl rfl rfl (by simp) (by simp;omega) ?_;refine ev ?_;refine wc ziO (zcQ hw ht (zb2 ho)) rfl rfl ?_;refine ev ?_;refine CWp.loopT 5 6 (ι:=Nat) hk (fun i=>[(0,.gl 5 ((xs++zaP ⟨a,k⟩ p++za5 (zaB w n) ((zac w ⟨a,k⟩ p).take i) (p.kids.take i)).map Vt.c)),(10,.d (.i (i:Int)))]) [30,31,32,33,34,35,36,37,38,39,40,41,42,43,44,45,46,47,48,49,50,51,52,53,54,55,56] (fun i=>[(5,some (.tok ((xs++zaP ⟨a,k⟩ p++za5 (zaB w n) ((zac w ⟨a,k⟩ p).take i) (p.kids.take i)).map Vt.c).length 3))]) (fun i=>i<=zdP w ⟨a,k⟩ p) (fun i=>zdP w ⟨a,k⟩ p-i) 0 (by omega) ⟨⟨_,rfl,LeA.glg ?_⟩,⟨⟨_,rfl,xaq ?_⟩,trivial⟩⟩ ⟨zab ?_,trivial⟩ (fun x=>rfl) (fun i hg1=>?_);iterate 3 focus ((simp[za5,zaP, *];done))
  refine evc [] [1,5,6] ?_;refine xal ?_;refine xaB 13 [(42,.d (.bool (decide (i<zdP w ⟨a,k⟩ p))))] [30,31,32,33,34,35,36,37,38,39,40,41] ?_ ?_;refine ev ?_;refine sq ?_ ?_<;>intro h3 h3p h3s;refine sq ?_ ?_<;>intro h4 h4p h4s;exact jnb rfl;exact jnb rfl;exact jnb rfl;refine xaA ?_;refine tv ?_;refine sq ?_ ?_<;>intro h5 h5p h5s<;>(try simp only[Q,Pat.cs_len] at h5p);refine xaU zaN .none rfl rfl rfl rfl (zaq (by omega)) rfl ?_;refine evd [] [] ?_;refine xaU sl34 .none rfl rfl rfl rfl (zar (by omega)) rfl ?_;refine evd [] [] ?_;refine xaI 6 zhC (zgm hw n (a:=(nth (zac w ⟨a,k⟩ p) i).data) (k:=(nth (zac w ⟨a,k⟩ p) i).index) (p:=nth p.kids i) (xs:=xs++zaP ⟨a,k⟩ p++za5 (zaB w n) ((zac w ⟨a,k⟩ p).take i) (p.kids.take i)) (zbg hs (by omega)) (by omega) (hin _ (zae (by omega))) (Pats.ok_mem hok.2 _ (zae (by omega))) (by have:=zrX (zeI w n) (a:=zac w ⟨a,k⟩ p) (b:=p.kids) (i:=i) (by omega);simp only[xaa];omega)) rfl .none rfl rfl (.cons (.refl _) (.cons (.refl _) (.cons (.refl _) (.cons (.refl _) .nil)))) rfl (by rfl) ?_;refine evd [] [] ?_;refine dr ?_;refine CWp.retok 0 6 5 rfl rfl rfl rfl rfl ?_;refine evc [] [] ?_;refine ar ?_;refine xah (i+1) ⟨(by omega),(by omega),sx ⟨⟨_,rfl,LeA.glg ?_⟩,⟨⟨_,rfl,xaq ?_⟩,trivial⟩⟩ ⟨zab ?_,trivial⟩⟩;iterate 3 focus (first|rfl|(rw[zjS (by omega) (by omega)];simp[List.append_assoc];done))
  refine rn [(5,some (.tok ((xs++zaB w (n+1) ⟨a,k⟩ p).map Vt.c).length 3))] (r1 rfl) (.glg ?_) ⟨rfl,rfl⟩ (SubO.get ⟨.inr ?_,⟨.inl rfl,trivial⟩⟩) (zay rfl);rotate_left 2;refine wc ziO (zcQ hw ht (zb2 ho)) rfl rfl ?_;refine ev ?_;refine CWp.loopT 5 6 (ι:=Nat) hk (fun i=>[(0,.gl 5 ((xs++zaP ⟨a,k⟩ p++za5 (zaB w n) ((zac w ⟨a,k⟩ p).take i) (p.kids.take i)).map Vt.c)),(10,.d (.i (i:Int)))]) [30,31,32,33,34,35,36,37,38,39,40,41,42,43,44,45,46,47,48,49,50,51,52,53,54,55,56] (fun i=>[(5,some (.tok ((xs++zaP ⟨a,k⟩ p++za5 (zaB w n) ((zac w ⟨a,k⟩ p).take i) (p.kids.take i)).map Vt.c).length 3))]) (fun i=>i<=zdP w ⟨a,k⟩ p) (fun i=>zdP w ⟨a,k⟩ p-i) 0 (by omega) ⟨⟨_,rfl,LeA.glg ?_⟩,⟨⟨_,rfl,xaq ?_⟩,trivial⟩⟩ ⟨zab ?_,trivial⟩ (fun x=>rfl) (fun i hg1=>?_);iterate 3 focus ((simp[za5,zaP, *];done))
  refine evc [] [1,5,6] ?_;refine xal ?_;refine xaB 13 [(42,.d (.bool (decide (i<zdP w ⟨a,k⟩ p))))] [30,31,32,33,34,35,36,37,38,39,40,41] ?_ ?_;refine ev ?_;refine sq ?_ ?_<;>intro h6 h6p h6s<;>(try simp only[Q,Pat.cs_len] at h6p);refine sq ?_ ?_<;>intro h7 h7p h7s<;>(try simp only[Q,Pat.cs_len] at h7p);exact jnb rfl;exact jnb rfl;exact jnb rfl;refine xaA ?_;refine tv ?_;refine sq ?_ ?_<;>intro h8 h8p h8s<;>(try simp only[Q,Pat.cs_len] at h8p);refine xaU zaN .none rfl rfl rfl rfl (zaq (by omega)) rfl ?_;refine evd [] [] ?_;refine xaU sl34 .none rfl rfl rfl rfl (zar (by omega)) rfl ?_;refine evd [] [] ?_;refine xaI 6 zhC (zgm hw n (a:=(nth (zac w ⟨a,k⟩ p) i).data) (k:=(nth (zac w ⟨a,k⟩ p) i).index) (p:=nth p.kids i) (xs:=xs++zaP ⟨a,k⟩ p++za5 (zaB w n) ((zac w ⟨a,k⟩ p).take i) (p.kids.take i)) (zbg hs (by omega)) (by omega) (hin _ (zae (by omega))) (Pats.ok_mem hok.2 _ (zae (by omega))) (by have:=zrX (zeI w n) (a:=zac w ⟨a,k⟩ p) (b:=p.kids) (i:=i) (by omega);simp only[xaa];omega)) rfl .none rfl rfl (.cons (.refl _) (.cons (.refl _) (.cons (.refl _) (.cons (.refl _) .nil)))) rfl (by rfl) ?_;refine evd [] [] ?_;refine dr ?_;refine CWp.retok 0 6 5 rfl rfl rfl rfl rfl ?_;refine evc [] [] ?_;refine ar ?_;refine xah (i+1) ⟨(by omega),(by omega),sx ⟨⟨_,rfl,LeA.glg ?_⟩,⟨⟨_,rfl,xaq ?_⟩,trivial⟩⟩ ⟨zab ?_,trivial⟩⟩;iterate 3 focus (first|rfl|(rw[zjS (by omega) (by omega)];simp[List.append_assoc];done))
  refine rn [(5,some (.tok ((xs++zaB w (n+1) ⟨a,k⟩ p).map Vt.c).length 3))] (r1 rfl) (.glg ?_) ⟨rfl,rfl⟩ (SubO.get ⟨.inr ?_,⟨.inl rfl,trivial⟩⟩) (zay rfl);rotate_left 2;all_goals (first|((rw[zaB,<-zpK (f:=zaB w n) hl (i:=i) (by omega)];simp);done)|((show some (Res.tok _ _)=some (Res.tok _ _);congr 2;rw[zaB,<-zpK (f:=zaB w n) hl (i:=i) (by omega)];simp)))
theorem zdw {w:List Data} (hw:WT w){n:Nat}{a k:Int}{p:Pat} (hs:zan w n ⟨a,k⟩ p=true) (hn:n<=1000) (ht:TyIn w.length ⟨a,k⟩) (hok:p.ok) (hb:p.size<=1000000000000):
  FnD Tryz.prog 225 [.nils,.d (zah w),.agg [.d (.i a),.d (.i k)],.agg [.d (.i p.op),.d (.i p.ctor),.d (.i p.n),.d (.i p.m),.d (.i p.var),.d (zag p.kids)]] [] (.d (zc7 (zaB w n ⟨a,k⟩ p))) []:=by
 have h:=zgm hw n (xs:=[]) hs hn ht hok (by simp only[xai];omega);exact FnD.nilTok (by simp[AV.idsL,AV.ids]) h
theorem zr1 {l:List Vt}{i:Nat} (h:i<l.length) (h2:¬zbM l (nth l i).var=i):zp8 l=false:=zdm h (by simpa using h2)
theorem zfe {w:List Data} (hw:WT w):∀(n:Nat){a k:Int}{p:Pat},zan w n ⟨a,k⟩ p=true->n<=1000->TyIn w.length ⟨a,k⟩->p.ok->p.size<=1000000000000->
  FnD Tryz.prog 298 [.d (zah w),.agg [.d (.i a),.d (.i k)],.agg [.d (.i p.op),.d (.i p.ctor),.d (.i p.n),.d (.i p.m),.d (.i p.var),.d (zag p.kids)]] [] (.d (.bool (linP w n ⟨a,k⟩ p))) []
 |0,a,k,p,hs,_,_,_,_=>by simp[zan] at hs
 |n+1,a,k,p,hs,hn,ht,hok,hb=>by
  have hok':=hok;rw[Pat.ok_iff] at hok;have hb':=hb;rw[Pat.size_eq] at hb';obtain⟨ho,hl⟩:=zbe hs;have hin:=zgM hw ht ho;have hlen:=zhp hw ht (zb2 ho);have hvl:=zeI w (n+1) ⟨a,k⟩ p;have hsz:∀i,i<p.kids.length->(nth p.kids i).size<=1000000000000:=fun i hi=>by have:=zcg hi;omega
  by_cases hop5:p.op=5
  ·have e1:zac w ⟨a,k⟩ p=[⟨a,k⟩,⟨a,k⟩]:=by unfold zac;rw[if_neg (by omega),if_pos hop5]
   have hl2:p.kids.length=2:=by rw[hl,e1];rfl
   have s0:zan w n ⟨a,k⟩ (nth p.kids 0)=true:=by have:=zbg hs (i:=0) (by omega);rw[e1] at this;exact this
   have s1:zan w n ⟨a,k⟩ (nth p.kids 1)=true:=by have:=zbg hs (i:=1) (by omega);rw[e1] at this;exact this
   have v0:=zeI w n ⟨a,k⟩ (nth p.kids 0);have v1:=zeI w n ⟨a,k⟩ (nth p.kids 1);have z0:=hsz 0 (by omega);have z1:=hsz 1 (by omega);refine bd Tryz.f298 70 [] [] fun w0 F0 own kept hk=>?_;refine bx 3004 ?_;refine bx 3005 ?_;refine ev ?_;refine wc ziO (zcQ hw ht (zb2 ho)) rfl rfl ?_;refine ev ?_;refine xak (ι:=Nat) hk (fun i=>[(8,.d (.i (i:Int)))]) [6,15,16,17,18,19,20,21,22,23,24,25,26,27,28,29,30,31,32] (fun i=>[]) (fun i=>i<=(zac w ⟨a,k⟩ p).length/\∀i',i'<i->linP w n (nth (zac w ⟨a,k⟩ p) i') (nth p.kids i')=true) (fun i=>(zac w ⟨a,k⟩ p).length-i) 0 ⟨by omega,fun _ h=>absurd h (by omega)⟩ ⟨⟨_,rfl,xaq ?_⟩,trivial⟩ trivial (fun x=>rfl) (fun i hg1=>?_);focus (first|rfl|(simp;done))
   refine evc [] [] ?_;refine sq ?_ ?_<;>intro h1 h1p h1s<;>(try simp only[Q,Pat.cs_len] at h1p);refine xaU zaN .none rfl rfl rfl rfl (zaq (by omega)) rfl ?_;refine evd [] [] ?_;refine xaU sl34 .none rfl rfl rfl rfl (zar (by omega)) rfl ?_;refine evd [] [] ?_;refine wc zmO (zfe hw n (zbg hs (by omega)) (by omega) (hin _ (zae (by omega))) (Pats.ok_mem hok.2 _ (zae (by omega))) (hsz _ (by omega))) rfl rfl ?_;refine evd [] [] ?_;refine dr ?_;refine sq ?_ ?_<;>intro h2 h2p h2s<;>(try simp only[Q,Pat.cs_len] at h2p);refine rq ?_;rotate_left;refine ar ?_;refine xah (i+1) ⟨⟨by omega,zaT hg1.2 (by assumption)⟩,(by omega),sx ⟨⟨_,rfl,xaq ?_⟩,trivial⟩ trivial⟩;focus (first|rfl|(simp;done))
   refine sq ?_ ?_<;>intro h3 h3p h3s<;>(try simp only[Q,Pat.cs_len] at h3p);refine xaU (i:=0) sl34 .none rfl rfl rfl rfl (zar (by omega)) rfl ?_;refine evd [] [] ?_;refine wc zhC (zdw hw s0 (by omega) ht (Pats.ok_mem hok.2 _ (zae (by omega))) z0) rfl rfl ?_;refine evd [] [] ?_;refine xaU (i:=1) sl34 .none rfl rfl rfl rfl (zar (by omega)) rfl ?_;refine evd [] [] ?_;refine wc zhC (zdw hw s1 (by omega) ht (Pats.ok_mem hok.2 _ (zae (by omega))) z1) rfl rfl ?_;refine wc zx6 (znS (by omega) (by omega)) rfl rfl ?_;refine evd [] [] ?_;refine dr ?_;refine rq ?_;rotate_left;exfalso;simp_all;all_goals (refine congrArg D.bool ?_;unfold linP;rw[if_pos hop5];first|(rw[zbs (by omega) (fun x hx=>hg1.2 x (by omega)),Bool.true_and])|(rw[zbr (i:=i) (by omega) (by omega) (by assumption),Bool.false_and]))
  ·skip
   refine bd Tryz.f298 70 [] [] fun w0 F0 own kept hk=>?_;refine bx 3004 ?_;refine bx 3005 ?_;refine ev ?_;refine wc ziO (zcQ hw ht (zb2 ho)) rfl rfl ?_;refine ev ?_;refine xak (ι:=Nat) hk (fun i=>[(8,.d (.i (i:Int)))]) [6,15,16,17,18,19,20,21,22,23,24,25,26,27,28,29,30,31,32] (fun i=>[]) (fun i=>i<=(zac w ⟨a,k⟩ p).length/\∀i',i'<i->linP w n (nth (zac w ⟨a,k⟩ p) i') (nth p.kids i')=true) (fun i=>(zac w ⟨a,k⟩ p).length-i) 0 ⟨by omega,fun _ h=>absurd h (by omega)⟩ ⟨⟨_,rfl,xaq ?_⟩,trivial⟩ trivial (fun x=>rfl) (fun i hg1=>?_);focus (first|rfl|(simp;done))
   refine evc [] [] ?_;refine sq ?_ ?_<;>intro h1 h1p h1s<;>(try simp only[Q,Pat.cs_len] at h1p);refine xaU zaN .none rfl rfl rfl rfl (zaq (by omega)) rfl ?_;refine evd [] [] ?_;refine xaU sl34 .none rfl rfl rfl rfl (zar (by omega)) rfl ?_;refine evd [] [] ?_;refine wc zmO (zfe hw n (zbg hs (by omega)) (by omega) (hin _ (zae (by omega))) (Pats.ok_mem hok.2 _ (zae (by omega))) (hsz _ (by omega))) rfl rfl ?_;refine evd [] [] ?_;refine dr ?_;refine sq ?_ ?_<;>intro h2 h2p h2s<;>(try simp only[Q,Pat.cs_len] at h2p);refine rq ?_;rotate_left;refine ar ?_;refine xah (i+1) ⟨⟨by omega,zaT hg1.2 (by assumption)⟩,(by omega),sx ⟨⟨_,rfl,xaq ?_⟩,trivial⟩ trivial⟩;focus (first|rfl|(simp;done))
   refine sq ?_ ?_<;>intro h3 h3p h3s<;>(try simp only[Q,Pat.cs_len] at h3p);exfalso;simp_all;refine wc zhC (zdw hw hs hn ht hok' hb) rfl rfl ?_;refine ev ?_;refine xak (ι:=Nat) hk (fun j=>[(10,.d (.i (j:Int)))]) [6,55,56,57,58,59,60,61,62,63,64,65,66,67,68,69] (fun j=>[]) (fun j=>j<=(zaB w (n+1) ⟨a,k⟩ p).length/\∀j',j'<j->zbM (zaB w (n+1) ⟨a,k⟩ p) (nth (zaB w (n+1) ⟨a,k⟩ p) j').var=(j':Int)) (fun j=>(zaB w (n+1) ⟨a,k⟩ p).length-j) 0 ⟨by omega,fun _ h=>absurd h (by omega)⟩ ⟨⟨_,rfl,xaq ?_⟩,trivial⟩ trivial (fun x=>rfl) (fun j hg2=>?_);focus (first|rfl|(simp;done))
   refine evc [] [] ?_;refine sq ?_ ?_<;>intro h4 h4p h4s<;>(try simp only[Q,Pat.cs_len] at h4p);refine xaU zdf .none rfl rfl rfl rfl (zaq (by omega)) rfl ?_;refine ev ?_;refine wc zqI (zgk (by omega)) rfl rfl ?_;refine ev ?_;refine sq ?_ ?_<;>intro h5 h5p h5s<;>(try simp only[Q,Pat.cs_len] at h5p);refine rq ?_;rotate_left;refine ar ?_;refine xah (j+1) ⟨⟨by omega,zaT hg2.2 (by omega)⟩,(by omega),sx ⟨⟨_,rfl,xaq ?_⟩,trivial⟩ trivial⟩;focus (first|rfl|(simp;done))
   refine rq ?_;rotate_left;all_goals (refine congrArg D.bool ?_;unfold linP;rw[if_neg hop5];first|(rw[zbr (i:=i) (by omega) (by omega) (by assumption),Bool.false_and];done)|(rw[zbs (by omega) (fun x hx=>hg1.2 x (by omega)),Bool.true_and];first|(rw[zr1 (i:=j) (by omega) (by omega)];done)|(symm;exact zdJ (fun x hx=>decide_eq_true (hg2.2 x (by omega))))))
def isP (w:List Data) (t:Ty) (p:Pat):Bool:=zan w 10 t p&&(decide ((p.size:Int)<=60)&&linP w 10 t p)
theorem zeD {w:List Data} (hw:WT w){a k:Int}{p:Pat} (ht:TyIn w.length ⟨a,k⟩) (hok:p.ok) (hb:p.size<=1000000000000):
  FnD Tryz.prog 223 [.d (zah w),.agg [.d (.i a),.d (.i k)],.agg [.d (.i p.op),.d (.i p.ctor),.d (.i p.n),.d (.i p.m),.d (.i p.var),.d (zag p.kids)]] [] (.d (.bool (isP w ⟨a,k⟩ p))) []:=by
 have hc:=zqO p 60;by_cases hs:zan w 10 ⟨a,k⟩ p=true
 ·skip
  refine bd Tryz.f223 22 [] [1] fun w0 F0 own kept hk=>?_;refine bx 3004 ?_;refine bx 3005 ?_;refine ev ?_;refine xal ?_;refine xaB 9 [(15,.d (.bool (decide ((p.size:Int)<=60))))] [7,8,9,10,11,12,13,14] ?_ ?_;refine ev ?_;refine wc zqG (zfX hw 10 (by omega) (by omega) ht hok) rfl rfl ?_;refine ev ?_;refine sq ?_ ?_<;>intro h1 h1p h1s;refine Walk.call (cr:=[]) zqH (zfW _ (Nat.le_refl _) hb hok (by omega) (by omega)) rfl (.some rfl rfl h1) rfl rfl (LeL.refl _) trivial rfl rfl rfl ?_;refine evs [] [(11,true)] ?_ ⟨⟨_,rfl,h1⟩,trivial⟩;exact jnb rfl;exact jnb rfl;refine xaA ?_;refine ev ?_;refine sq ?_ ?_<;>intro h2 h2p h2s;refine Walk.call (cr:=[]) zmO (zfe hw 10 hs (by omega) ht hok hb) rfl (.some rfl rfl h2) rfl rfl (LeL.refl _) trivial rfl rfl rfl ?_;refine evs [] [(16,true)] ?_ ⟨⟨_,rfl,h2⟩,trivial⟩;refine rq ?_;rotate_left;refine rq ?_;rotate_left;all_goals (refine congrArg D.bool ?_;unfold isP;simp only[hs,Bool.true_and];first|(simp_all;done)|(simp_all;intro;omega))
 ·have hs':zan w 10 ⟨a,k⟩ p=false:=by simpa using hs
  refine bd Tryz.f223 22 [] [1] fun w0 F0 own kept hk=>?_;refine bx 3004 ?_;refine bx 3005 ?_;refine ev ?_;refine xal ?_;refine xaB 9 [(15,.d (.bool (false)))] [7,8,9,10,11,12,13,14] ?_ ?_;refine ev ?_;refine wc zqG (zfX hw 10 (by omega) (by omega) ht hok) rfl rfl ?_;refine ev ?_;refine sq ?_ ?_<;>intro h1 h1p h1s;refine Walk.call (cr:=[]) zqH (zfW _ (Nat.le_refl _) hb hok (by omega) (by omega)) rfl (.some rfl rfl h1) rfl rfl (LeL.refl _) trivial rfl rfl rfl ?_;refine evs [] [(11,true)] ?_ ⟨⟨_,rfl,h1⟩,trivial⟩;exact jnb rfl;exact jnb rfl;refine xaA ?_;refine ev ?_;refine sq ?_ ?_<;>intro h2 h2p h2s;refine Walk.call (cr:=[]) zmO (show FnD Tryz.prog 298 [.d (zah w),.agg [.d (.i a),.d (.i k)],.agg [.d (.i p.op),.d (.i p.ctor),.d (.i p.n),.d (.i p.m),.d (.i p.var),.d (zag p.kids)]] [] (.d (.bool true)) [] from absurd (by assumption:(false:Bool)=true) (by simp)) rfl (.some rfl rfl h2) rfl rfl (LeL.refl _) trivial rfl rfl rfl ?_;refine evs [] [(16,true)] ?_ ⟨⟨_,rfl,h2⟩,trivial⟩;refine rq ?_;rotate_left;refine rq ?_;rotate_left;all_goals (refine congrArg D.bool ?_;unfold isP;simp_all)
end Go.Proofs.YtlfipehhbdjnjaaGreat
namespace Go.Proofs.YtlfipehhbdjnjaaGreat
open Go
set_option linter.unusedSimpArgs false
set_option linter.unusedVariables false
def tyS (s:Nat):Ty:=⟨((s / 4:Nat):Int),((s % 4:Nat):Int)⟩
def zcG (t:Ty):Nat:=t.data.toNat*4+t.index.toNat
def dv (f:Nat->Nat) (t:Ty):Nat:=if t.data = -1 then 1 else f (zcG t)
def zbl (f:Nat->Nat):Nat->List Ty->Nat
 |m,[]=>m+1
 |m,t::r=>if dv f t=0 then 0 else zbl f (max m (dv f t)) r
def most (w:List Data) (f:Nat->Nat) (t:Ty) (c:Int):Nat:=zbl f 0 (zaa w t c)
def updF (f:Nat->Nat) (s n:Nat):Nat->Nat:=fun i=>if i=s then n else f i
def zbO (w:List Data) (s:Nat) (f:Nat->Nat) (c:Int):Nat->Nat:=
 if 0<most w f (tyS s) c/\(f s=0\/most w f (tyS s) c<f s) then updF f s (most w f (tyS s) c) else f
def zdH (w:List Data) (f:Nat->Nat) (s:Nat):Nat->Nat:=(zaV w (tyS s)).foldl (zbO w s) f
def zhn (w:List Data) (f:Nat->Nat):Nat->Nat:=(List.range (w.length*4)).foldl (zdH w) f
def zbf (w:List Data):Nat->Nat->Nat
 |0=>fun _=>0
 |k+1=>zhn w (zbf w k)
def zaf (w:List Data):Nat->Nat:=zbf w (w.length*4+1)
def Hd (w:List Data):Nat->Ty->Prop
 |0,_=>False
 |d+1,t=>t.data = -1\/∃c∈zaV w t,t.data≠ -1/\∀u∈zaa w t c,Hd w d u
def InS (n:Nat) (u:Ty):Prop:=u.data = -1\/(zcG u<n/\tyS (zcG u)=u)
def ClosedT (w:List Data):Prop:=∀s,s<w.length*4->∀c∈zaV w (tyS s),∀u∈zaa w (tyS s) c,InS (w.length*4) u
theorem zmz (s:Nat):(tyS s).data≠ -1:=by simp only[tyS];omega
theorem Hd_mono (w:List Data):∀(d:Nat) (t:Ty),Hd w d t->Hd w (d+1) t
 |0,_,h=>h.elim
 |d+1,t,h=>by
  rcases h with h|⟨c,hc,h1,h⟩
  ·exact .inl h
  ·exact .inr ⟨c,hc,h1,fun u hu=>Hd_mono w d u (h u hu)⟩
theorem Hd_le {w:List Data}{d e:Nat}{t:Ty} (h:d<=e) (hd:Hd w d t):Hd w e t:=by
 induction h with
 |refl=>exact hd
 |step _ ih=>exact Hd_mono w _ t ih
section
variable {w:List Data}
def Bet (f g:Nat->Nat):Prop:=∀s,0<f s->0<g s/\g s<=f s
def Snd (w:List Data) (f:Nat->Nat):Prop:=∀s,s<w.length*4->0<f s->Hd w (f s) (tyS s)
def Cmp (w:List Data) (k:Nat) (f:Nat->Nat):Prop:=∀s,s<w.length*4->∀d,d<=k->Hd w d (tyS s)->0<f s/\f s<=d
theorem Bet.refl (f:Nat->Nat):Bet f f:=fun s h=>⟨h,Nat.le_refl _⟩
theorem Bet.trans {f g h:Nat->Nat} (a:Bet f g) (b:Bet g h):Bet f h:=fun s hs=>⟨(b s (a s hs).1).1,Nat.le_trans (b s (a s hs).1).2 (a s hs).2⟩
theorem Cmp.bet {k:Nat}{f g:Nat->Nat} (h:Cmp w k f) (b:Bet f g):Cmp w k g:=fun s hs d hd hh=>
 ⟨(b s (h s hs d hd hh).1).1,Nat.le_trans (b s (h s hs d hd hh).1).2 (h s hs d hd hh).2⟩
theorem zkK {f:Nat->Nat}:∀ {l:List Ty}{m k:Nat},m<=k->(∀u∈l,0<dv f u/\dv f u<=k)->0<zbl f m l/\zbl f m l<=k+1
 | [],m,k,hm,_=>by simp only[zbl];omega
 |t::r,m,k,hm,h=>by
  have h1:=h t (by simp);simp only[zbl];rw[if_neg (by omega)];exact zkK (by omega) (fun u hu=>h u (by simp[hu]))
theorem zgF {f:Nat->Nat}:∀ {l:List Ty}{m:Nat},0<zbl f m l->m<zbl f m l/\∀u∈l,0<dv f u/\dv f u<zbl f m l
 | [],m,_=>⟨by simp only[zbl];omega,fun u hu=>by simp at hu⟩
 |t::r,m,h=>by
  simp only[zbl] at h ⊢;by_cases h0:dv f t=0
  ·rw[if_pos h0] at h;omega
  ·rw[if_neg h0] at h ⊢;obtain⟨h1,h2⟩:=zgF h;refine⟨by omega,fun u hu=>?_⟩;rcases List.mem_cons.1 hu with rfl|hu
   ·omega
   ·exact h2 u hu
theorem zp9 {f:Nat->Nat} (hs:Snd w f){u:Ty} (hu:InS (w.length*4) u) (h:0<dv f u):Hd w (dv f u) u:=by
 unfold dv at h ⊢;split
 ·rename_i he;exact .inl he
 ·rename_i he;rw[if_neg he] at h;rcases hu with hu|⟨h1,h2⟩
  ·exact absurd hu he
  ·have:=hs _ h1 h;rwa [h2] at this
theorem zkq {k:Nat}{f:Nat->Nat} (hc:Cmp w k f){u:Ty} (hu:InS (w.length*4) u) (h:Hd w k u):0<dv f u/\dv f u<=k:=by
 unfold dv;split
 ·cases k with
  |zero=>exact h.elim
  |succ k=>omega
 ·rename_i he;rcases hu with hu|⟨h1,h2⟩
  ·exact absurd hu he
  ·exact hc _ h1 k (Nat.le_refl _) (by rw[h2];exact h)
theorem zkU {s:Nat}{f:Nat->Nat}{c:Int}:Bet f (zbO w s f c):=by
 intro i hi;unfold zbO;split
 ·rename_i h;unfold updF;split
  ·subst i;omega
  ·omega
 ·omega
theorem zuN (hcl:ClosedT w){s:Nat}{f:Nat->Nat}{c:Int} (hs:s<w.length*4) (hc:c∈zaV w (tyS s)) (h:Snd w f):Snd w (zbO w s f c):=by
 unfold zbO;split
 ·rename_i hn;intro i hi h0;unfold updF at h0 ⊢;by_cases he:i=s
  ·subst he;rw[if_pos rfl] at h0 ⊢;obtain⟨h1,h2⟩:=zgF (m:=0) hn.1;obtain⟨n,hn'⟩:∃n,most w f (tyS i) c=n+1:=⟨most w f (tyS i) c-1,by omega⟩;rw[hn'];refine .inr ⟨c,hc,zmz _,fun u hu=>?_⟩;have h3:=h2 u hu;have h4:zbl f 0 (zaa w (tyS i) c)=n+1:=hn';exact Hd_le (by omega) (zp9 h (hcl i hi c hc u hu) h3.1)
  ·rw[if_neg he] at h0 ⊢;exact h i hi h0
 ·exact h
theorem zuL (hcl:ClosedT w){s k:Nat}{f:Nat->Nat}{c:Int} (hs:s<w.length*4) (hc:c∈zaV w (tyS s)) (h:Cmp w k f) (hh:∀u∈zaa w (tyS s) c,Hd w k u):
  0<zbO w s f c s/\zbO w s f c s<=k+1:=by
 have hm:=zkK (f:=f) (m:=0) (k:=k) (by omega) (fun u hu=>zkq h (hcl s hs c hc u hu) (hh u hu));have hm':0<most w f (tyS s) c/\most w f (tyS s) c<=k+1:=hm;unfold zbO;split
 ·unfold updF;rw[if_pos rfl];exact hm'
 ·rename_i hn;have:¬(f s=0\/most w f (tyS s) c<f s):=fun h2=>hn ⟨hm'.1,h2⟩;omega
theorem zsR (hcl:ClosedT w){s k:Nat} (hs:s<w.length*4):∀(C:List Int) (f:Nat->Nat),(∀c∈C,c∈zaV w (tyS s))->Snd w f->Cmp w k f->
  Bet f (C.foldl (zbO w s) f)/\Snd w (C.foldl (zbO w s) f)/\∀c∈C,(∀u∈zaa w (tyS s) c,Hd w k u)->0<C.foldl (zbO w s) f s/\C.foldl (zbO w s) f s<=k+1
 | [],f,_,h1,_=>⟨Bet.refl f,h1,fun c hc=>by simp at hc⟩
 |c::r,f,hC,h1,h2=>by
  have hc:=hC c (by simp);obtain⟨g1,g2,g3⟩:=zsR hcl hs r (zbO w s f c) (fun x hx=>hC x (by simp[hx])) (zuN hcl hs hc h1) (h2.bet zkU);refine⟨zkU.trans g1,g2,fun x hx hh=>?_⟩;rcases List.mem_cons.1 hx with rfl|hx
  ·obtain⟨q1,q2⟩:=zuL hcl hs hc h2 hh;exact⟨(g1 s q1).1,Nat.le_trans (g1 s q1).2 q2⟩
  ·exact g3 x hx hh
theorem zvQ (hcl:ClosedT w){s k:Nat} (hs:s<w.length*4){f:Nat->Nat} (h1:Snd w f) (h2:Cmp w k f):
  Bet f (zdH w f s)/\Snd w (zdH w f s)/\∀d,d<=k+1->Hd w d (tyS s)->0<zdH w f s s/\zdH w f s s<=d:=by
 obtain⟨g1,g2,g3⟩:=zsR hcl hs (zaV w (tyS s)) f (fun c hc=>hc) h1 h2;refine⟨g1,g2,fun d hd hh=>?_⟩;rcases Nat.lt_or_ge d (k+1) with h|h
 ·have:=h2 s hs d (by omega) hh;exact⟨(g1 s this.1).1,Nat.le_trans (g1 s this.1).2 this.2⟩
 ·obtain rfl:d=k+1:=by omega
  rcases hh with hh|⟨c,hc,_,hh⟩
  ·exact absurd hh (zmz s)
  ·exact g3 c hc hh
theorem zpD (hcl:ClosedT w){k:Nat}:∀(L:List Nat) (f:Nat->Nat),(∀s∈L,s<w.length*4)->Snd w f->Cmp w k f->
  Bet f (L.foldl (zdH w) f)/\Snd w (L.foldl (zdH w) f)/\∀s∈L,∀d,d<=k+1->Hd w d (tyS s)->0<L.foldl (zdH w) f s/\L.foldl (zdH w) f s<=d
 | [],f,_,h1,_=>⟨Bet.refl f,h1,fun s hs=>by simp at hs⟩
 |s::r,f,hL,h1,h2=>by
  obtain⟨p1,p2,p3⟩:=zvQ hcl (hL s (by simp)) h1 h2;obtain⟨g1,g2,g3⟩:=zpD hcl r (zdH w f s) (fun x hx=>hL x (by simp[hx])) p2 (h2.bet p1);refine⟨p1.trans g1,g2,fun x hx d hd hh=>?_⟩;rcases List.mem_cons.1 hx with rfl|hx
  ·have:=p3 d hd hh;exact⟨(g1 x this.1).1,Nat.le_trans (g1 x this.1).2 this.2⟩
  ·exact g3 x hx d hd hh
theorem zuZ (hcl:ClosedT w){k:Nat}{f:Nat->Nat} (h1:Snd w f) (h2:Cmp w k f):Bet f (zhn w f)/\Snd w (zhn w f)/\Cmp w (k+1) (zhn w f):=by
 obtain⟨g1,g2,g3⟩:=zpD hcl (List.range (w.length*4)) f (fun s hs=>List.mem_range.1 hs) h1 h2;exact⟨g1,g2,fun s hs d hd hh=>g3 s (List.mem_range.2 hs) d hd hh⟩
theorem zdz (hcl:ClosedT w):∀k,Snd w (zbf w k)/\Cmp w k (zbf w k)
 |0=>⟨fun s _ h=>absurd h (by simp[zbf]),fun s _ d hd hh=>by
   obtain rfl:d=0:=by omega
   exact hh.elim⟩
 |k+1=>(zuZ hcl (zdz hcl k).1 (zdz hcl k).2).2
theorem zku (hcl:ClosedT w){d:Nat} (h1:1<=d) (h:∀s,s<w.length*4->Hd w (d+1) (tyS s)->Hd w d (tyS s)):∀e s,s<w.length*4->Hd w e (tyS s)->Hd w d (tyS s)
 |0,s,_,hh=>hh.elim
 |e+1,s,hs,hh=>by
  refine h s hs ?_;rcases hh with hh|⟨c,hc,h2,hh⟩
  ·exact .inl hh
  ·refine .inr ⟨c,hc,h2,fun u hu=>?_⟩;rcases hcl s hs c hc u hu with hi|⟨q1,q2⟩
   ·cases d with
    |zero=>omega
    |succ d=>exact .inl hi
   ·have:=zku hcl h1 h e _ q1 (by rw[q2];exact hh u hu);rwa [q2] at this
open Classical in
noncomputable def cntH (w:List Data) (d:Nat):Nat:=(List.range (w.length*4)).countP (fun s=>decide (Hd w d (tyS s)))
theorem zo3 {p q:Nat->Bool}:∀ {l:List Nat},(∀x∈l,p x=true->q x=true)->(∃x∈l,p x=false/\q x=true)->l.countP p<l.countP q
 | [],_,h=>by obtain⟨x,hx,_⟩:=h;simp at hx
 |y::r,hpq,h=>by
  have hle:r.countP p<=r.countP q:=List.countP_mono_left (fun x hx hp=>hpq x (by simp[hx]) hp);rw[List.countP_cons,List.countP_cons];obtain⟨x,hx,h1,h2⟩:=h;rcases List.mem_cons.1 hx with rfl|hx
  ·rw[h1,h2];simp only[Bool.false_eq_true,if_false,if_true];omega
  ·have:=zo3 (fun x hx hp=>hpq x (by simp[hx]) hp) ⟨x,hx,h1,h2⟩;have h3:=hpq y (by simp);cases hp:p y with
   |false=>simp only[Bool.false_eq_true,if_false];omega
   |true=>rw[h3 hp];simp only[if_true];omega
open Classical in
theorem zyf {d:Nat} (h:¬ ∀s,s<w.length*4->Hd w (d+1) (tyS s)->Hd w d (tyS s)):cntH w d<cntH w (d+1):=by
 have h2:∃s,s<w.length*4/\Hd w (d+1) (tyS s)/\¬Hd w d (tyS s):=by
  refine Classical.byContradiction fun hn=>h fun s hs hh=>Classical.byContradiction fun hd=>hn ⟨s,hs,hh,hd⟩
 obtain⟨s,hs,h3,h4⟩:=h2;unfold cntH;exact zo3 (fun x _ hx=>by rw[decide_eq_true_eq] at hx ⊢;exact Hd_mono w d _ hx) ⟨s,List.mem_range.2 hs,by simp[h4],by simp[h3]⟩
theorem zuk:∀m,(∀d,1<=d->d<=m->¬ ∀s,s<w.length*4->Hd w (d+1) (tyS s)->Hd w d (tyS s))->m<=cntH w (m+1)
 |0,_=>Nat.zero_le _
 |m+1,h=>by
  have:=zuk m (fun d h1 h2=>h d h1 (by omega));have:=zyf (w:=w) (d:=m+1) (h (m+1) (by omega) (by omega));omega
theorem zm6 (hcl:ClosedT w){e s:Nat} (hs:s<w.length*4) (h:Hd w e (tyS s)):Hd w (w.length*4+1) (tyS s):=by
 have hex:∃d,1<=d/\d<=w.length*4+1/\∀s,s<w.length*4->Hd w (d+1) (tyS s)->Hd w d (tyS s):=by
  refine Classical.byContradiction fun hn=>?_;have h1:=zuk (w:=w) (w.length*4+1) (fun d h1 h2 h3=>hn ⟨d,h1,h2,h3⟩);have h2:cntH w (w.length*4+1+1)<=(List.range (w.length*4)).length:=List.countP_le_length;rw[List.length_range] at h2;omega
 obtain⟨d,h1,h2,h3⟩:=hex;exact Hd_le h2 (zku hcl h1 h3 e s hs h)
theorem zuM {s i:Nat}{f:Nat->Nat}{c:Int} (h:i≠s):zbO w s f c i=f i:=by
 unfold zbO;split
 ·unfold updF;rw[if_neg h]
 ·rfl
theorem zsS {s i:Nat} (h:i≠s):∀(C:List Int) (f:Nat->Nat),C.foldl (zbO w s) f i=f i
 | [],_=>rfl
 |c::r,f=>by rw[List.foldl_cons,zsS h r,zuM h]
theorem zpF {i:Nat}:∀(L:List Nat) (f:Nat->Nat),i∉L->L.foldl (zdH w) f i=f i
 | [],_,_=>rfl
 |s::r,f,h=>by
  simp only[List.mem_cons,not_or] at h;rw[List.foldl_cons,zpF r _ h.2];exact zsS h.1 _ _
theorem zjC {i:Nat} (h:w.length*4<=i):∀k,zbf w k i=0
 |0=>rfl
 |k+1=>by
  show zhn w (zbf w k) i=0
  unfold zhn;rw[zpF _ _ (by simp;omega),zjC h k]
theorem zlr (hcl:ClosedT w){k:Nat} (hk:w.length*4+1<=k):zbf w k=zaf w:=by
 have key:∀a b,w.length*4+1<=a->w.length*4+1<=b->∀s,s<w.length*4->0<zbf w a s->0<zbf w b s/\zbf w b s<=zbf w a s:=by
  intro a b ha hb s hs h0;have h1:=(zdz hcl a).1 s hs h0;have h2:=zm6 hcl hs h1;have h3:=(zdz hcl a).2 s hs _ ha h2;exact(zdz hcl b).2 s hs _ (by omega) h1
 funext s
 rcases Nat.lt_or_ge s (w.length*4) with hs|hs
 ·have h1:=key k (w.length*4+1) hk (Nat.le_refl _) s hs;have h2:=key (w.length*4+1) k (Nat.le_refl _) hk s hs;show zbf w k s=zbf w (w.length*4+1) s
  omega
 ·show zbf w k s=zbf w (w.length*4+1) s
  rw[zjC hs,zjC hs]
theorem zvt (hcl:ClosedT w){k:Nat} (h:zbf w (k+1)=zbf w k):zbf w k=zaf w:=by
 have:∀j,zbf w (k+j)=zbf w k:=by
  intro j;induction j with
  |zero=>rfl
  |succ j ih=>
   show zhn w (zbf w (k+j))=zbf w k
   rw[ih];exact h
 rw[<-this (w.length*4+1)];exact zlr hcl (by omega)
def Strict (f g:Nat->Nat):Prop:=∃s,0<g s/\(f s=0\/g s<f s)
theorem Strict.bet {f g h:Nat->Nat} (a:Strict f g) (b:Bet g h):Strict f h:=by
 obtain⟨s,h1,h2⟩:=a;have:=b s h1;exact⟨s,this.1,by omega⟩
theorem Strict.ne {f g:Nat->Nat} (a:Strict f g):f≠g:=by
 rintro rfl
 obtain⟨s,h1,h2⟩:=a;omega
theorem zoG {s:Nat}:∀(C:List Int) (f:Nat->Nat),Bet f (C.foldl (zbO w s) f)
 | [],f=>Bet.refl f
 |c::r,f=>zkU.trans (zoG r _)
theorem zpE:∀(L:List Nat) (f:Nat->Nat),Bet f (L.foldl (zdH w) f)
 | [],f=>Bet.refl f
 |s::r,f=>(zoG _ _).trans (zpE r _)
theorem zrl {f:Nat->Nat}{b:Nat} (hb:∀s,f s<=b) (h1:1<=b):∀ {l:List Ty}{m:Nat},m<=b->zbl f m l<=b+1
 | [],m,hm=>by simp only[zbl];omega
 |t::r,m,hm=>by
  simp only[zbl];split
  ·omega
  ·refine zrl hb h1 ?_;have:dv f t<=b:=by
    unfold dv;split
    ·exact h1
    ·exact hb _
   omega
theorem zvI {s:Nat}{f:Nat->Nat}{c:Int}{b:Nat} (hb:∀s,f s<=b) (h1:1<=b):∀i,zbO w s f c i<=b+1:=by
 intro i;unfold zbO;split
 ·unfold updF;split
  ·exact zrl hb h1 (Nat.zero_le _)
  ·have:=hb i;omega
 ·have:=hb i;omega
theorem zry {s:Nat}:∀(C:List Int) (f:Nat->Nat) (b:Nat),(∀s,f s<=b)->1<=b->∀i,C.foldl (zbO w s) f i<=b+C.length
 | [],f,b,hb,_,i=>by have:=hb i;simpa using this
 |c::r,f,b,hb,h1,i=>by
  have:=zry (s:=s) r (zbO w s f c) (b+1) (zvI hb h1) (by omega) i;rw[List.foldl_cons,xab];omega
theorem zmw {m:Nat}:∀(L:List Nat) (f:Nat->Nat) (b:Nat),(∀s∈L,(zaV w (tyS s)).length<=m)->(∀s,f s<=b)->1<=b->∀i,L.foldl (zdH w) f i<=b+L.length*m
 | [],f,b,_,hb,_,i=>by have:=hb i;simpa using this
 |s::r,f,b,hm,hb,h1,i=>by
  have h2:=zry (w:=w) (s:=s) (zaV w (tyS s)) f b hb h1;have h3:=hm s (by simp);have:=zmw r (zdH w f s) (b+m) (fun x hx=>hm x (by simp[hx])) (fun j=>by have:=h2 j;show _<=_;unfold zdH;omega) (by omega) i;rw[List.foldl_cons,xab,Nat.add_mul];omega
theorem zsG {m:Nat} (hm:∀s,s<w.length*4->(zaV w (tyS s)).length<=m):∀k i,zbf w k i<=1+k*(w.length*4*m)
 |0,i=>by simp[zbf]
 |k+1,i=>by
  have:=zmw (w:=w) (m:=m) (List.range (w.length*4)) (zbf w k) (1+k*(w.length*4*m)) (fun s hs=>hm s (List.mem_range.1 hs)) (zsG hm k) (by omega) i;show zhn w (zbf w k) i<=_
  unfold zhn;rw[List.length_range] at this;rw[Nat.add_mul];omega
end
end Go.Proofs.YtlfipehhbdjnjaaGreat
namespace Go.Proofs.YtlfipehhbdjnjaaGreat
open Go
set_option linter.unusedSimpArgs false
set_option linter.unusedVariables false
set_option maxRecDepth 100000
set_option maxHeartbeats 2000000
section
variable {c:Ctx}{all:Array Oper}{chk:List Rec->Prop}{os:List Oper}{recs:List Rec}{env:Env}{hp:Hp}{Q:St->Prop}
variable {d ty:Nat}{pos:String}{af:Array Edge}{g:Option (Nat×Bool)}{pg:List (Nat×AV)}
theorem Walk.buildZ {t n e m k:Nat}{zs:List AV} (ht:TyZ c.P t k zs) (ha:ArT c.P t n e m) (hg:GH all env g pg) (hd:Nat.blt d c.n=true)
  (hn:Walk c all chk os (zao (pg++[]) [] [] ⟨some (d,.agg zs),[]⟩::recs) ⟨(d,.agg zs)::env,hp⟩ Q):
  Walk c all chk (⟨some d,.build t #[],ty,pos,af,g⟩::os) recs ⟨env,hp⟩ Q:=by
 refine xa9 hg hd (fun a G T w=>?_) hn;obtain⟨i,z,h1,h2,h3,h4⟩:=ht.inf;obtain⟨j,h5,h6⟩:=ha.inf;have hz:=zb8 (G:=G) (T:=T) (w:=w) h4;refine⟨.agg z.cells, ?_, ?_⟩
 ·have hb:c.P.built t []=some z.cells:=by
   unfold Program.built;simp only[h1,ha.und,h3,h5];rfl
  have:=run_build w t #[] z.cells hb;simp only[execOp,Sem.run_bind,Array.map_empty,this,Result.andThen_ok,Sem.run_pure]
 ·have hz':AllR G T w zs z.cells:=by simpa using hz
  exact .agg hz'.size hz'.rel
end
def tabC (n:Nat) (f:Nat->Nat):List AV:=(List.range n).map fun s=> .d (.i (f s:Int))
def tabD (n:Nat) (f:Nat->Nat):List D:=(List.range n).map fun s=> .i (f s:Int)
abbrev zd5 (n:Nat) (f:Nat->Nat):D:= .sl ((List.range n).map fun s=>[D.i (f s:Int)])
theorem zly {n i s:Nat}{f:Nat->Nat} (h:s<n) (e:i=s):(tabC n f)[i]?=some (.d (.i (f s:Int))):=by
 subst e;simp[tabC,h]
theorem zvR {n i s:Nat}{f:Nat->Nat} (h:s<n) (e:i=s):(tabD n f)[i]?=some (.i (f s:Int)):=by
 subst e;simp[tabD,h]
theorem zaF {n:Nat}{f:Nat->Nat}:AV.idsL (tabC n f)=[]:=by
 unfold tabC;induction List.range n with
 |nil=>rfl
 |cons x r ih=>rw[xae,AV.idsL,ih];rfl
theorem zvT:∀ {n:Nat}{f:Nat->Nat},toDL (tabC n f)=some (tabD n f):=by
 intro n f;unfold tabC tabD;have:=zmy ((List.range n).map fun s=>D.i (f s:Int));rwa [List.map_map] at this
theorem zue {n:Nat}{f:Nat->Nat}:zbS n 1 (tabC n f)=some ((List.range n).map fun s=>[D.i (f s:Int)]):=by
 have:=zd9 (f:=fun s=>[D.i (f s:Int)]) (k:=1) (l:=List.range n) (fun _ _=>rfl);rw[List.length_range] at this;rw[<-this];congr 1
 unfold tabC;induction List.range n with
 |nil=>rfl
 |cons x r ih=>rw[xae,List.flatMap_cons,ih];rfl
theorem zsP {v:AV}:∀ {cs:List AV}{i:Nat},i<cs.length->putC cs i [v]=some (cs.set i v)
 |x::r,0,_=>by cases r<;>rfl
 |x::r,i+1,h=>by
  have:=zsP (v:=v) (cs:=r) (i:=i) (by simpa using h);simp only[putC,this,List.set_cons_succ]
theorem zsW {n i s v:Nat}{f:Nat->Nat}{x:Int} (h:s<n) (e:i=s) (ex:x=(v:Int)):putC (tabC n f) i [.d (.i x)]=some (tabC n (updF f s v)):=by
 subst e ex;rw[zsP (by simp[tabC,h])];congr 1
 refine List.ext_getElem (by simp[tabC]) (fun j h1 h2=>?_);simp only[tabC,xac,List.length_range] at h2;rw[List.getElem_set];simp only[tabC,List.getElem_map,List.getElem_range,updF];by_cases hj:i=j
 ·subst hj;simp
 ·rw[if_neg hj,if_neg (fun h=>hj h.symm)]
theorem InS.facts {n:Nat}{a k:Int} (h:InS n ⟨a,k⟩) (ha:¬a = -1):zcG ⟨a,k⟩<n/\a*4+k=(zcG ⟨a,k⟩:Int)/\0<=a/\0<=k/\k<=3/\a<=n:=by
 rcases h with h|⟨h1,h2⟩
 ·exact absurd h ha
 ·have e1:=congrArg Ty.data h2;have e2:=congrArg Ty.index h2;simp only[tyS] at e1 e2;omega
theorem zm0 {f:Nat->Nat}{a k:Int} (ha:¬a = -1):dv f ⟨a,k⟩=f (zcG ⟨a,k⟩):=by unfold dv;rw[if_neg ha]
theorem zm1 {f:Nat->Nat}{a k:Int} (ha:a = -1):dv f ⟨a,k⟩=1:=by unfold dv;rw[if_pos ha]
theorem zmZ {f:Nat->Nat}{b:Nat} (hb:∀s,f s<=b) (h1:1<=b) (t:Ty):dv f t<=b:=by
 unfold dv;split
 ·exact h1
 ·exact hb _
theorem zi8 {a k:Int} (ha:0<=a/\a<=1000) (hk:0<=k/\k<=1000):FnD Tryz.prog 318 [.agg [.d (.i a),.d (.i k)]] [] (.d (.i (a*4+k))) []:=by
 refine bd Tryz.f318 9 [] [] fun w0 F0 own kept hk=>?_;refine bx 3001 ?_;refine ev ?_;refine ar ?_;refine ar ?_;focus (refine rq ?_;all_goals ((simp[];done)))
theorem znM {n:Nat}{f:Nat->Nat}{a k:Int} (h:InS n ⟨a,k⟩) (hn:n<=100):
  FnD Tryz.prog 251 [.ms 70 n,.agg [.d (.i a),.d (.i k)]] [(70,some (.box (tabC n f)))] (.d (.i (dv f ⟨a,k⟩))) []:=by
 have hs:=h.facts;refine bd Tryz.f251 13 [12] [] fun w0 F0 own kept hk=>?_;refine Walk.box (id:=3003) .none rfl rfl rfl (by first|rfl|(simp only[zaz,occH,occE,Res.ids,xag,List.nil_append,AV.idsL,AV.ids,zaj,zak,zas,zaO,xae,List.map_nil,upC,zaF];rfl)) (by first|rfl|(simp only[zaz,occH,occE,Res.ids,xag,List.nil_append,AV.idsL,AV.ids,zaj,zak,zas,zaO,xae,List.map_nil,upC,zaF];rfl)) (by first|rfl|(simp only[zaz,occH,occE,Res.ids,xag,List.nil_append,AV.idsL,AV.ids,zaj,zak,zas,zaO,xae,List.map_nil,upC,zaF];rfl)) (by first|rfl|(simp only[zaz,occH,occE,Res.ids,xag,List.nil_append,AV.idsL,AV.ids,zaj,zak,zas,zaO,xae,List.map_nil,upC,zaF];rfl)) ?_;refine evs [12] [] ?_;refine sq ?_ ?_<;>intro h1 h1p h1s<;>(try simp only[Q] at h1p);refine rn [] (r1 rfl) (.eqd ?_) ⟨rfl,rfl⟩ (SubH.get ⟨rfl,trivial⟩) (fun _ h=>h);rotate_left;refine Walk.call (cr:=[]) zt8 (zi8 (by have:=hs h1p;omega) (by have:=hs h1p;omega)) rfl .none rfl rfl (LeL.refl _) trivial rfl (by first|rfl|(simp only[za6,List.all_cons,List.all_nil,zcl,zb0,AV.idsL,AV.ids,zaj,zak,xae,List.map_nil,zaF];rfl)) (by first|rfl|(simp only[zaz,occH,occE,Res.ids,xag,List.nil_append,AV.idsL,AV.ids,zaj,zak,zas,zaO,xae,List.map_nil,upC,zaF];rfl)) ?_;refine xaY (i:=zcG ⟨a,k⟩) sl29 .none rfl rfl rfl (hs h1p).2.1 ((hs h1p).1) ?_;refine xa0 ty3 .none rfl rfl rfl ((zly (hs h1p).1 (by omega))) ?_;refine evs [12] [] ?_;refine rn [] (r1 rfl) (.eqd ?_) ⟨rfl,rfl⟩ (SubH.get ⟨rfl,trivial⟩) (fun _ h=>h);rotate_left;all_goals (first|(rw[zm1 (by assumption)];rfl)|(rw[zm0 (by assumption)]))
theorem zb6 {n:Nat}{f:Nat->Nat}{a k:Int} (h:InS n ⟨a,k⟩) (hn:n<=100):
  FnD Tryz.prog 251 [.d (zd5 n f),.agg [.d (.i a),.d (.i k)]] [] (.d (.i (dv f ⟨a,k⟩))) []:=by
 have hs:=h.facts;refine bd Tryz.f251 13 [] [] fun w0 F0 own kept hk=>?_;refine bx 3003 ?_;refine ev ?_;refine sq ?_ ?_<;>intro h1 h1p h1s<;>(try simp only[Q] at h1p);refine rq ?_;rotate_left;refine wc zt8 (zi8 (by have:=hs h1p;omega) (by have:=hs h1p;omega)) rfl rfl ?_;refine xaU (i:=zcG ⟨a,k⟩) sl29 .none rfl rfl rfl (hs h1p).2.1 (by simp[(hs h1p).1];rfl) rfl ?_;refine ev ?_;refine rq ?_;rotate_left;all_goals (first|(rw[zm1 (by assumption)];rfl)|(rw[zm0 (by assumption)]))
theorem zfw {w:List Data} (hw:WT w){a k c:Int} (ht:TyIn w.length ⟨a,k⟩) (hc:c∈zal w ⟨a,k⟩):(zaa w ⟨a,k⟩ c).length<=1000000000000:=by
 obtain⟨d,rfl,h1,h2⟩:=zcH ht hc;exact zfv hw h1 h2
theorem zoO {w:List Data} (hw:WT w){n:Nat}{f:Nat->Nat}{a k c:Int} (ht:TyIn w.length ⟨a,k⟩) (hc:c∈zal w ⟨a,k⟩) (hn:n<=100) (hb:∀s,f s<=100000) (hin:∀u∈zaa w ⟨a,k⟩ c,InS n u):
  FnD Tryz.prog 227 [.d (zah w),.ms 70 n,.agg [.d (.i a),.d (.i k)],.d (.i c)] [(70,some (.box (tabC n f)))] (.d (.i (most w f ⟨a,k⟩ c))) []:=by
 have hl:=zfw hw ht hc;have hd:=zmZ hb (by omega);refine bd Tryz.f227 37 [] [] fun w0 F0 own kept hk=>?_;refine Walk.box (id:=3006) .none rfl rfl rfl (by(simp only[zaz,occH,occE,Res.ids,xag,List.nil_append,AV.idsL,AV.ids,zaj,zak,zas,zaO,xae,List.map_nil,upC,zaF];rfl)) (by(simp only[zaz,occH,occE,Res.ids,xag,List.nil_append,AV.idsL,AV.ids,zaj,zak,zas,zaO,xae,List.map_nil,upC,zaF];rfl)) (by(simp only[zaz,occH,occE,Res.ids,xag,List.nil_append,AV.idsL,AV.ids,zaj,zak,zas,zaO,xae,List.map_nil,upC,zaF];rfl)) (by(simp only[zaz,occH,occE,Res.ids,xag,List.nil_append,AV.idsL,AV.ids,zaj,zak,zas,zaO,xae,List.map_nil,upC,zaF];rfl)) ?_;refine ev ?_;refine Walk.call (cr:=[]) zdn (zbu hw ht hc) rfl .none rfl rfl (LeL.refl _) trivial rfl (by first|rfl|(simp only[za6,List.all_cons,List.all_nil,zcl,zb0,AV.idsL,AV.ids,zaj,zak,xae,List.map_nil,zaF];rfl)) (by first|rfl|(simp only[zaz,occH,occE,Res.ids,xag,List.nil_append,AV.idsL,AV.ids,zaj,zak,zas,zaO,xae,List.map_nil,upC,zaF];rfl)) ?_;refine ev ?_;refine xak (ι:=List (Ty)×List (Ty)×(Nat)) hk (fun x=>[(11,.d (.i (x.1.length:Int))),(10,.d (.i (x.2.2:Int)))]) [8,12,17,18,19,20,21,22,23,24,25,26,27,28,29,30,31,32,33,34] (fun x=>[]) (fun x=>x.1++x.2.1=zaa w ⟨a,k⟩ c/\x.2.2<=100000/\zbl f x.2.2 x.2.1=zbl f 0 (zaa w ⟨a,k⟩ c)) (fun x=>x.2.1.length) ([],zaa w ⟨a,k⟩ c,0) ⟨by simp,by simp,rfl⟩ ⟨⟨_,rfl,xaq ?_⟩,⟨⟨_,rfl,xaq ?_⟩,trivial⟩⟩ trivial (fun x=>rfl) (fun x hg1=>?_);iterate 2 focus ((simp;done))
 obtain⟨pre,rest,m⟩:=x;dsimp only at hg1 ⊢;refine evc [] [] ?_;refine sq ?_ ?_<;>intro h1 h1p h1s<;>(try simp only[Q] at h1p);rcases rest with _|⟨y,rest⟩
 ·exfalso;simp_all
 have hdy:=hd y;have hye:dv f ⟨y.data,y.index⟩=dv f y:=rfl;refine xaU zaN .none rfl rfl rfl rfl (zaG hg1.1) rfl ?_;refine ev ?_;refine Walk.call (cr:=[]) ze1 (znM (f:=f) (a:=y.data) (k:=y.index) (hin y (by rw[<-hg1.1];simp)) hn) rfl .none rfl rfl (.cons (xas (by first|rfl|(simp;done))) (.cons (.refl _) .nil)) ⟨rfl,trivial⟩ rfl (by first|rfl|(simp only[za6,List.all_cons,List.all_nil,zcl,zb0,AV.idsL,AV.ids,zaj,zak,xae,List.map_nil,zaF];rfl)) (by first|rfl|(simp only[zaz,occH,occE,Res.ids,xag,List.nil_append,AV.idsL,AV.ids,zaj,zak,zas,zaO,xae,List.map_nil,upC,zaF];rfl)) ?_;refine ev ?_;refine sq ?_ ?_<;>intro h2 h2p h2s<;>(try simp only[Q] at h2p);refine rn [] (r1 rfl) (.eqd ?_) ⟨rfl,rfl⟩ (SubH.get ⟨rfl,trivial⟩) (fun _ h=>h);rotate_left;refine sq ?_ ?_<;>intro h3 h3p h3s<;>(try simp only[Q] at h3p);refine ar ?_;refine xah ((pre++[y],rest,max m (dv f y))) ⟨⟨(by have hz:=hg1.1;rw[<-hz];simp),⟨(by have:=hd y;dsimp only;omega),(by rw[<-hg1.2.2];simp only[zbl];rw[if_neg (by have:=hd y;omega)])⟩⟩,(by simp),sx ⟨⟨_,rfl,xaq ?_⟩,⟨⟨_,rfl,xaq ?_⟩,trivial⟩⟩ trivial⟩;iterate 2 focus (first|(simp;done)|(dsimp only;omega))
 refine ar ?_;refine xah ((pre++[y],rest,max m (dv f y))) ⟨⟨(by have hz:=hg1.1;rw[<-hz];simp),⟨(by have:=hd y;dsimp only;omega),(by rw[<-hg1.2.2];simp only[zbl];rw[if_neg (by have:=hd y;omega)])⟩⟩,(by simp),sx ⟨⟨_,rfl,xaq ?_⟩,⟨⟨_,rfl,xaq ?_⟩,trivial⟩⟩ trivial⟩;iterate 2 focus (first|(simp;done)|(dsimp only;omega))
 have hrest:rest=[]:=by
  rcases rest with _|⟨a,b⟩
  ·rfl
  ·exfalso;have hz:=congrArg List.length (hg1.1);simp only[xaa,xab,xac] at hz;omega
 subst hrest;refine ar ?_;refine rn [] (r1 rfl) (.eqd ?_) ⟨rfl,rfl⟩ (SubH.get ⟨rfl,trivial⟩) (fun _ h=>h);rotate_left;all_goals (refine congrArg D.i ?_;unfold most;rw[<-hg1.2.2];first|(simp only[zbl];rw[if_pos (by omega)];rfl)|(simp only[zbl];omega))
structure Dp (w:List Data):Prop where
 wt:WT w
 cl:ClosedT w
 four:w.length<=4
 ct:∀s,s<w.length*4->(zaV w (tyS s)).length<=4
def midT (w:List Data) (k s:Nat):Nat->Nat:=(List.range s).foldl (zdH w) (zbf w k)
def rowT (w:List Data) (k s:Nat) (pre:List Int):Nat->Nat:=pre.foldl (zbO w s) (midT w k s)
theorem zig {w:List Data}{k s:Nat}:rowT w k s (zaV w (tyS s))=midT w k (s+1):=by
 unfold rowT midT;rw[List.range_succ,List.foldl_append];rfl
theorem zdT {w:List Data}{k s:Nat}{pre:List Int}{c:Int}:rowT w k s (pre++[c])=zbO w s (rowT w k s pre) c:=by
 unfold rowT;rw[List.foldl_append];rfl
theorem zlt {w:List Data} (hd:Dp w){k s:Nat} (hk:k<=20) (hs:s<=w.length*4){pre:List Int} (hp:pre.length<=4) (i:Nat):rowT w k s pre i<=100000:=by
 have h4:=hd.four;have h1:=zsG (w:=w) (m:=4) hd.ct k;have h2:=zmw (w:=w) (m:=4) (List.range s) (zbf w k) _ (fun x hx=>hd.ct x (by have:=List.mem_range.1 hx;omega)) h1 (by omega);have h3:=zry (w:=w) (s:=s) pre (midT w k s) _ h2 (by omega) i;have e1:k*(w.length*4*4)<=20*(4*4*4):=Nat.mul_le_mul hk (by omega);rw[List.length_range] at h3;show pre.foldl (zbO w s) (midT w k s) i<=100000
 omega
theorem zu1 {w:List Data}{s:Nat} (h:s<w.length*4):TyIn w.length (tyS s):= .inr ⟨s / 4,rfl,by omega⟩
theorem zjU {w:List Data}{s:Nat}:zal w (tyS s)=zaV w (tyS s):=by unfold zal;rw[if_neg (zmz s)]
theorem zsk (m:Nat):za7 (m+1) [.d (.i 0)]=za7 m [.d (.i 0)]++[AV.d (.i 0)]:=by
 induction m with
 |zero=>rfl
 |succ m ihm=>
  show [AV.d (.i 0)]++za7 (m+1) [.d (.i 0)]=([AV.d (.i 0)]++za7 m [.d (.i 0)])++[AV.d (.i 0)]
  rw[ihm,List.append_assoc]
theorem zpQ (n:Nat):za7 n [.d (.i 0)]=tabC n (fun _=>0):=by
 unfold tabC;induction n with
 |zero=>rfl
 |succ n ih=>rw[zsk,ih,List.range_succ,xaf];rfl
theorem zeB {w:List Data}{s:Nat}{f:Nat->Nat}{c:Int} (h:decide ((0:Int)<(most w f (tyS s) c:Int)/\((f s:Int)=0\/(most w f (tyS s) c:Int)<(f s:Int)))=true):zbO w s f c=updF f s (most w f (tyS s) c):=by
 rw[decide_eq_true_eq] at h;unfold zbO;rw[if_pos (by omega)]
theorem zdS {w:List Data}{s:Nat}{f:Nat->Nat}{c:Int} (h:decide ((0:Int)<(most w f (tyS s) c:Int)/\((f s:Int)=0\/(most w f (tyS s) c:Int)<(f s:Int)))=false):zbO w s f c=f:=by
 rw[decide_eq_false_iff_not] at h;unfold zbO;rw[if_neg (by omega)]
theorem zoK {w:List Data} (hw:WT w){s:Nat} (hs:s<w.length*4):FnD Tryz.prog 226 [.d (zah w),.agg [.d (.i ((s:Int) / 4)),.d (.i ((s:Int) % 4))]] [] (.d (zcy (zaV w (tyS s)))) []:=by
 rw[<-zjU];exact zbZ hw (zu1 hs)
theorem zp0 {w:List Data} (hd:Dp w){f:Nat->Nat}{s:Nat}{c:Int} (hs:s<w.length*4) (hc:c∈zaV w (tyS s)) (hb:∀s,f s<=100000):
  FnD Tryz.prog 227 [.d (zah w),.ms 70 (w.length*4),.agg [.d (.i ((s:Int) / 4)),.d (.i ((s:Int) % 4))],.d (.i c)] [(70,some (.box (tabC (w.length*4) f)))] (.d (.i (most w f (tyS s) c))) []:=
 have h4:=hd.four;zoO (a:=(tyS s).data) (k:=(tyS s).index) hd.wt (zu1 hs) (by rw[<-zjU] at hc;exact hc) (by omega) hb (fun u hu=>hd.cl s hs c hc u hu)
theorem zek {w:List Data} (hd:Dp w):FnD Tryz.prog 130 [.d (zah w)] [] (.d (zd5 (w.length*4) (zaf w))) []:=by
 have hw:=hd.wt;have h4:=hd.four;refine bd Tryz.f130 70 [27,29,54,61] [14,999999] fun w0 F0 own kept hk=>?_;refine ar ?_;refine Walk.make (id:=70) (m:=w.length*4) sl29 tz3 rfl (by decide) (zjV rfl) .none rfl (congrArg (fun z:Int=>some (AV.d (D.i z))) (by simp:((w.map Data.c).length:Int)*4=((w.length*4:Nat):Int))) (congrArg (fun z:Int=>some (AV.d (D.i z))) (by simp:((w.map Data.c).length:Int)*4=((w.length*4:Nat):Int))) (by omega) (by omega) (by first|rfl|(simp only[zaz,occH,occE,Res.ids,xag,List.nil_append,AV.idsL,AV.ids,zaj,zak,zas,zaO,xae,List.map_nil,upC,zaF];rfl)) (by first|rfl|(simp only[zaz,occH,occE,Res.ids,xag,List.nil_append,AV.idsL,AV.ids,zaj,zak,zas,zaO,xae,List.map_nil,upC,zaF];rfl)) (by first|rfl|(simp only[zaz,occH,occE,Res.ids,xag,List.nil_append,AV.idsL,AV.ids,zaj,zak,zas,zaO,xae,List.map_nil,upC,zaF];rfl)) ?_;refine evs [27,29,54,61] [] ?_;refine xak (ι:=Nat) hk (fun n=>[(4,.d (.i (n:Int)))]) [5,6,7,8,9,14,15,16,17,18,19,20,21,22,23,24,25,26,27,28,29,30,31,32,33,34,35,36,37,38,39,40,41,42,43,44,45,46,47,48,49,50,51,52,53,54,55,56,57,58,59,60,61,62,63,64,65,66,67,68] (fun n=>[(70,some (.box (tabC (w.length*4) (zbf w n))))]) (fun n=>n<=w.length*4+1) (fun n=>w.length*4+1-n) 0 (by simp) ⟨⟨_,rfl,xaq ?_⟩,trivial⟩ ⟨?_,trivial⟩ (fun x=>rfl) (fun n hg1=>?_);focus ((simp;done))
 focus ((show some (Res.box _)=some (Res.box _);rw[zpQ];rfl))
 refine evc [27,29,54,61] [14,999999] ?_;refine sq ?_ ?_<;>intro h1 h1p h1s<;>(try simp only[Q] at h1p);refine xak (ι:=Nat) hk (fun s=>[(5,.d (.i (s:Int)))]) [6,7,8,9,20,21,22,23,24,25,26,27,28,29,30,31,32,33,34,35,36,37,38,39,40,41,42,43,44,45,46,47,48,49,50,51,52,53,54,55,56,57,58,59,60,61,62,63,64,65,66,67,68] (fun s=>[(70,some (.box (tabC (w.length*4) (midT w n s))))]) (fun s=>s<=w.length*4) (fun s=>w.length*4-s) 0 (by simp) ⟨⟨_,rfl,xaq ?_⟩,trivial⟩ ⟨?_,trivial⟩ (fun x=>rfl) (fun s hg2=>?_);focus ((simp;done))
 focus (first|rfl|(show some (Res.box _)=some (Res.box _);rw[<-zig,<-hg3,List.append_nil]))
 refine evc [27,29,54,61] [14,999999] ?_;refine sq ?_ ?_<;>intro h2 h2p h2s<;>(try simp only[Q] at h2p);refine xbd .none rfl rfl rfl (by omega) ?_;refine evs [27,29,54,61] [] ?_;refine xbf .none rfl rfl rfl (by omega) ?_;refine bu [0,1] [_,_] st25 ?_;refine Walk.alloc (id:=3006) tz25 rfl .none rfl (by(simp only[zaz,occH,occE,Res.ids,xag,List.nil_append,AV.idsL,AV.ids,zaj,zak,zas,zaO,xae,List.map_nil,upC,zaF];rfl)) (by(simp only[zaz,occH,occE,Res.ids,xag,List.nil_append,AV.idsL,AV.ids,zaj,zak,zas,zaO,xae,List.map_nil,upC,zaF];rfl)) (by(simp only[zaz,occH,occE,Res.ids,xag,List.nil_append,AV.idsL,AV.ids,zaj,zak,zas,zaO,xae,List.map_nil,upC,zaF];rfl)) ?_;refine so ty25 ?_;refine tv ?_;refine Walk.call (cr:=[]) zep (zoK hw (s:=s) (by omega)) rfl .none rfl rfl (LeL.refl _) trivial rfl (by first|rfl|(simp only[za6,List.all_cons,List.all_nil,zcl,zb0,AV.idsL,AV.ids,zaj,zak,xae,List.map_nil,zaF];rfl)) (by first|rfl|(simp only[zaz,occH,occE,Res.ids,xag,List.nil_append,AV.idsL,AV.ids,zaj,zak,zas,zaO,xae,List.map_nil,upC,zaF];rfl)) ?_;refine evs [27,29,54,61] [] ?_;refine xak (ι:=List (Int)×List (Int)) hk (fun x=>[(8,.d (.i (x.1.length:Int)))]) [9,34,35,36,37,38,39,40,41,42,43,44,45,46,47,48,49,50,51,52,53,54,55,56,57,58,59,60,61,62,63,64,65,66,67,68] (fun x=>[(70,some (.box (tabC (w.length*4) (rowT w n s x.1))))]) (fun x=>x.1++x.2=zaV w (tyS s)) (fun x=>x.2.length) ([],zaV w (tyS s)) (by simp) ⟨⟨_,rfl,xaq ?_⟩,trivial⟩ ⟨?_,trivial⟩ (fun x=>rfl) (fun x hg3=>?_);focus ((simp;done))
 focus (first|rfl|(show some (Res.box _)=some (Res.box _);rw[zdT];first|(rw[zeB (by assumption)];done)|(rw[zdS (by assumption)];done)))
 obtain⟨pre,rest⟩:=x;dsimp only at hg3 ⊢;have hct:=hd.ct s (by omega);refine evc [27,29,54,61] [14,999999] ?_;refine sq ?_ ?_<;>intro h3 h3p h3s<;>(try simp only[Q] at h3p);rcases rest with _|⟨c,rest⟩
 ·exfalso;simp_all
 refine xaU sl29 .none rfl rfl rfl rfl (zaG hg3) rfl ?_;refine evd [27,29,54,61] [] ?_;refine Walk.call (cr:=[]) zqx (zp0 hd (f:=rowT w n s pre) (s:=s) (c:=c) (by omega) (by rw[<-hg3];simp) (zlt hd (by omega) (by omega) (by have:=hd.ct s (by omega);have hz:=congrArg List.length hg3;simp at hz;omega))) rfl .none rfl rfl (.cons (.refl _) (.cons (xas (by first|rfl|(simp;done))) (.cons (.refl _) (.cons (.refl _) .nil)))) ⟨rfl,trivial⟩ rfl (by first|rfl|(simp only[za6,List.all_cons,List.all_nil,zcl,zb0,AV.idsL,AV.ids,zaj,zak,xae,List.map_nil,zaF];rfl)) (by first|rfl|(simp only[zaz,occH,occE,Res.ids,xag,List.nil_append,AV.idsL,AV.ids,zaj,zak,zas,zaO,xae,List.map_nil,upC,zaF];rfl)) ?_;refine evd [27,29,54,61] [] ?_;refine dr ?_;refine xal ?_;refine xaB 17 [(64,.d (.bool (decide ((0:Int)<(most w (rowT w n s pre) (tyS s) c:Int)/\((rowT w n s pre s:Int)=0\/(most w (rowT w n s pre) (tyS s) c:Int)<(rowT w n s pre s:Int))))))] [48,49,50,51,52,53,54,55,56,57,58,59,60,61,62,63] ?_ ?_;refine evs [27,29,54,61] [] ?_;refine sq ?_ ?_<;>intro h4 h4p h4s<;>(try simp only[Q] at h4p);refine xaY (i:=s) sl29 (.some rfl rfl h4) rfl rfl rfl rfl (by omega) ?_;refine xa0 ty3 (.some rfl rfl h4) rfl rfl rfl ((zly (s:=s) (by omega) (by omega))) ?_;refine evs [27,29,54,61] [(50,true)] ?_ ⟨⟨_,rfl,h4⟩,trivial⟩;refine sq ?_ ?_<;>intro h5 h5p h5s<;>(try simp only[Q] at h5p);exact jnb rfl;refine xaY (i:=s) sl29 (.some rfl rfl h5) rfl rfl rfl rfl (by omega) ?_;refine xa0 ty3 (.some rfl rfl h5) rfl rfl rfl ((zly (s:=s) (by omega) (by omega))) ?_;refine evs [27,29,54,61] [(50,true),(56,false)] ?_ ⟨⟨_,rfl,h4⟩,⟨_,rfl,h5⟩,trivial⟩;exact jnb rfl;exact jnb rfl;refine xaA ?_;refine tv ?_;refine sq ?_ ?_<;>intro h6 h6p h6s<;>(try simp only[Q] at h6p);refine xaY (i:=s) sl29 .none rfl rfl rfl rfl (by omega) ?_;refine Walk.store ty3 .none rfl rfl rfl rfl rfl rfl (by simp) ((zsW (s:=s) (v:=most w (rowT w n s pre) (tyS s) c) (by omega) (by omega) rfl)) ?_;refine tv ?_;refine ar ?_;refine xah ((pre++[c],rest)) ⟨(by have hz:=hg3;rw[<-hz];simp),(by simp),sx ⟨⟨_,rfl,xaq ?_⟩,trivial⟩ ⟨?_,trivial⟩⟩;focus ((simp;done))
 focus ((show some (Res.box _)=some (Res.box _);rw[zdT];first|(rw[zeB (by assumption)];done)|(rw[zdS (by assumption)];done)))
 refine ar ?_;refine xah ((pre++[c],rest)) ⟨(by have hz:=hg3;rw[<-hz];simp),(by simp),sx ⟨⟨_,rfl,xaq ?_⟩,trivial⟩ ⟨?_,trivial⟩⟩;focus ((simp;done))
 focus ((show some (Res.box _)=some (Res.box _);rw[zdT];first|(rw[zeB (by assumption)];done)|(rw[zdS (by assumption)];done)))
 have hrest:rest=[]:=by
  rcases rest with _|⟨a,b⟩
  ·rfl
  ·exfalso;have hz:=congrArg List.length (hg3);simp only[xaa,xab,xac] at hz;omega
 subst hrest;refine ar ?_;refine xah (s+1) ⟨(by omega),(by omega),sx ⟨⟨_,rfl,xaq ?_⟩,trivial⟩ ⟨?_,trivial⟩⟩;focus ((simp;done))
 focus ((show some (Res.box _)=some (Res.box _);rw[<-zig,<-hg3,List.append_nil]))
 refine ar ?_;refine xah (n+1) ⟨(by omega),(by omega),sx ⟨⟨_,rfl,xaq ?_⟩,trivial⟩ ⟨?_,trivial⟩⟩;focus ((simp;done))
 focus (first|(show some (Res.box _)=some (Res.box _);rw[zpQ];rfl)|(have e:s=w.length*4:=(by omega);rw[e];rfl))
 refine CWp.frz hk 2 70 _ _ rfl rfl zue rfl ?_;refine CWp.ret ?_;refine rq ?_;rotate_left;all_goals ((have e:n=w.length*4+1:=(by omega);rw[e];rfl))
theorem zph {α:Type} [Inhabited α] (p:α->Bool):∀(l:List α) (i:Nat),(idxF p l i = -1/\∀x∈l,p x=false)\/∃k:Nat,idxF p l i=((i+k:Nat):Int)/\k<l.length/\(l.take (k+1)).filter (fun x=> !p x)=l.take k
 | [],i=> .inl ⟨rfl,by simp⟩
 |x::r,i=>by
  unfold idxF;cases h:p x with
  |true=>exact .inr ⟨0,by simp,by simp,by simp[h]⟩
  |false=>
   rcases zph p r (i+1) with ⟨h1,h2⟩|⟨k,h1,h2,h3⟩
   ·exact .inl ⟨by simpa using h1,fun y hy=>by rcases List.mem_cons.1 hy with rfl|hy;exact h;exact h2 y hy⟩
   ·refine .inr ⟨k+1,by simp only[Bool.false_eq_true,if_false];rw[h1];congr 1;omega,by simpa using h2, ?_⟩;simp only[List.take_succ_cons,List.filter_cons,h,Bool.not_false,if_true,List.cons.injEq,true_and];simpa using h3
theorem zj6 {α:Type} [Inhabited α]{s:List α}{i:Nat}{t:α} (h:i<s.length):(s.set i t).take (i+1)=s.take i++[t]:=by
 rw[List.set_eq_take_append_cons_drop,if_pos h,List.take_append,List.take_take];have:(s.take i).length=i:=by simp;omega
 simp[this,Nat.min_eq_right]
theorem zpT {α:Type}{s:List α}{i j:Nat}{t:α} (h:i<=j):(s.set i t).drop (j+1)=s.drop (j+1):=by
 rw[List.drop_set,if_pos (by omega)]
theorem zhG {α:Type} [Inhabited α]{p:α->Bool}{l:List α}{j:Nat} (h:j<l.length):(l.take (j+1)).filter p=(l.take j).filter p++(if p (nth l j) then [nth l j] else []):=by
 rw[List.take_add_one,List.getElem?_eq_getElem h,List.filter_append,za1 h];simp[List.filter_cons]
theorem zsa {α:Type} [Inhabited α]{s l:List α}{j:Nat} (h:s.drop j=l.drop j) (hl:s.length=l.length) (hj:j<l.length):nth s j=nth l j:=by
 have h1:=zaH (l:=s) (i:=j) (by omega);have h2:=zaH (l:=l) (i:=j) hj;rw[h1,h2] at h;exact(List.cons.inj h).1
theorem zia {α:Type}{s l:List α}{j:Nat} (h:s.drop j=l.drop j):s.drop (j+1)=l.drop (j+1):=by
 have:=congrArg (List.drop 1) h;simpa [List.drop_drop,Nat.add_comm] using this
theorem zeG {w:List Data} (hs:WSmall w) (hv:za2 w=true):WT w:=WV.wt hs ((zcC w).1 hv)
end Go.Proofs.YtlfipehhbdjnjaaGreat
namespace Go.Proofs.YtlfipehhbdjnjaaGreat
open Go
set_option linter.unusedSimpArgs false
set_option linter.unusedVariables false
set_option maxRecDepth 100000
set_option maxHeartbeats 4000000
theorem zfG {p:Pat}{b1 b2 b3:Bool}{k:Int}:FnD Tryz.prog 305 [.agg [.d (.i p.op),.d (.i p.ctor),.d (.i p.n),.d (.i p.m),.d (.i p.var),.d (zag p.kids)],.d (.bool b1),.d (.bool b2),.d (.bool b3),.d (.i k)] []
  (.d (.bool (decide ((b1=true\/p.ctor=0)/\(b2=true\/p.n=0/\p.m=0)/\(b3=true\/p.var=0)/\(p.kids.length:Int)=k)))) []:=by
 refine bd Tryz.f305 45 [] [1] fun w0 F0 own kept hk=>?_;refine bx 3005 ?_;refine ev ?_;refine xal ?_;refine xaB 6 [(16,.d (.bool (decide (b1=true\/p.ctor=0))))] [11,12,13,14,15] ?_ ?_;refine ev ?_;refine sq ?_ ?_<;>intro h1 h1p h1s;focus (exact jn rfl (xap (by(first|rfl|(rw[Bool.eq_iff_iff];simp_all[Pat.cs_len];done)))))
 focus (exact jn rfl (xap (by(first|rfl|(rw[Bool.eq_iff_iff];simp_all[Pat.cs_len];done)))))
 refine xaB 13 [(29,.d (.bool (decide ((b1=true\/p.ctor=0)/\(b2=true\/p.n=0/\p.m=0)))))] [17,18,19,20,21,22,23,24,25,26,27,28] ?_ ?_;refine ev ?_;refine sq ?_ ?_<;>intro h2 h2p h2s;refine sq ?_ ?_<;>intro h3 h3p h3s;focus (exact jn rfl (xap (by(first|rfl|(rw[Bool.eq_iff_iff];simp_all[Pat.cs_len];done)))))
 refine sq ?_ ?_<;>intro h4 h4p h4s;focus (exact jn rfl (xap (by(first|rfl|(rw[Bool.eq_iff_iff];simp_all[Pat.cs_len];done)))))
 focus (exact jn rfl (xap (by(first|rfl|(rw[Bool.eq_iff_iff];simp_all[Pat.cs_len];done)))))
 focus (exact jn rfl (xap (by(first|rfl|(rw[Bool.eq_iff_iff];simp_all[Pat.cs_len];done)))))
 refine xaB 8 [(37,.d (.bool (decide ((b1=true\/p.ctor=0)/\(b2=true\/p.n=0/\p.m=0)/\(b3=true\/p.var=0)))))] [30,31,32,33,34,35,36] ?_ ?_;refine ev ?_;refine sq ?_ ?_<;>intro h5 h5p h5s;refine sq ?_ ?_<;>intro h6 h6p h6s;focus (exact jn rfl (xap (by(first|rfl|(rw[Bool.eq_iff_iff];simp_all[Pat.cs_len];done)))))
 focus (exact jn rfl (xap (by(first|rfl|(rw[Bool.eq_iff_iff];simp_all[Pat.cs_len];done)))))
 focus (exact jn rfl (xap (by(first|rfl|(rw[Bool.eq_iff_iff];simp_all[Pat.cs_len];done)))))
 refine xaB 7 [(44,.d (.bool (decide ((b1=true\/p.ctor=0)/\(b2=true\/p.n=0/\p.m=0)/\(b3=true\/p.var=0)/\(p.kids.length:Int)=k))))] [38,39,40,41,42,43] ?_ ?_;refine ev ?_;refine sq ?_ ?_<;>intro h7 h7p h7s;focus (exact jn rfl (xap (by(first|rfl|(rw[Bool.eq_iff_iff];simp_all[Pat.cs_len];done)))))
 focus (exact jn rfl (xap (by(first|rfl|(rw[Bool.eq_iff_iff];simp_all[Pat.cs_len];done)))))
 refine xaA ?_;refine ev ?_;refine rq ?_;rotate_left;all_goals (rfl)
theorem zgt {p:Pat}{k:Int}:FnD Tryz.prog 305 [.agg [.d (.i p.op),.d (.i p.ctor),.d (.i p.n),.d (.i p.m),.d (.i p.var),.d (zag p.kids)],.d (.bool false),.d (.bool false),.d (.bool false),.d (.i k)] []
  (.d (.bool (decide (p.ctor=0/\(p.n=0/\p.m=0)/\p.var=0/\(p.kids.length:Int)=k)))) []:=by
 have:=zfG (p:=p) (b1:=false) (b2:=false) (b3:=false) (k:=k);simpa only[Bool.false_eq_true,false_or] using this
theorem zgu {p:Pat}{k:Int}:FnD Tryz.prog 305 [.agg [.d (.i p.op),.d (.i p.ctor),.d (.i p.n),.d (.i p.m),.d (.i p.var),.d (zag p.kids)],.d (.bool false),.d (.bool false),.d (.bool true),.d (.i k)] []
  (.d (.bool (decide (p.ctor=0/\(p.n=0/\p.m=0)/\(p.kids.length:Int)=k)))) []:=by
 have:=zfG (p:=p) (b1:=false) (b2:=false) (b3:=true) (k:=k);simpa only[Bool.false_eq_true,false_or,true_or,true_and] using this
theorem zlM {p:Pat}{k:Int}:FnD Tryz.prog 305 [.agg [.d (.i p.op),.d (.i p.ctor),.d (.i p.n),.d (.i p.m),.d (.i p.var),.d (zag p.kids)],.d (.bool false),.d (.bool true),.d (.bool false),.d (.i k)] []
  (.d (.bool (decide (p.ctor=0/\p.var=0/\(p.kids.length:Int)=k)))) []:=by
 have:=zfG (p:=p) (b1:=false) (b2:=true) (b3:=false) (k:=k);simpa only[Bool.false_eq_true,false_or,true_or,true_and] using this
theorem zr5 {p:Pat}{k:Int}:FnD Tryz.prog 305 [.agg [.d (.i p.op),.d (.i p.ctor),.d (.i p.n),.d (.i p.m),.d (.i p.var),.d (zag p.kids)],.d (.bool true),.d (.bool false),.d (.bool false),.d (.i k)] []
  (.d (.bool (decide ((p.n=0/\p.m=0)/\p.var=0/\(p.kids.length:Int)=k)))) []:=by
 have:=zfG (p:=p) (b1:=true) (b2:=false) (b3:=false) (k:=k);simpa only[Bool.false_eq_true,false_or,true_or,true_and] using this
theorem ze4 {v:Int}:FnD Tryz.prog 270 [.d (.i v)] [] (.d (.bool (zat v 0 5))) []:=by
 refine bd Tryz.f270 5 [] [] fun w0 F0 own kept hk=>?_;refine wc zdK (zbi) rfl rfl ?_;refine ev ?_;refine rq ?_;rotate_left;all_goals (rfl)
theorem zdM {w:List Data} (hw:WT w){a k:Int} (ht:TyIn w.length ⟨a,k⟩):FnD Tryz.prog 234 [.d (zah w),.agg [.d (.i a),.d (.i k)]] [] (.d (zcy (zal w ⟨a,k⟩))) []:=by
 rcases ht with ha|⟨d,hd,hlt⟩
 ·simp only at ha;subst ha;rw[zhs];exact zj8
 ·simp only at hd;subst hd;rw[ziy];exact zeg hw hlt
theorem zbN {w:List Data} (hw:WT w){a k c:Int} (ht:TyIn w.length ⟨a,k⟩) (hc:c∈zal w ⟨a,k⟩):FnD Tryz.prog 144 [.d (zah w),.agg [.d (.i a),.d (.i k)],.d (.i c)] [] (.d (zcs (zaa w ⟨a,k⟩ c))) []:=by
 obtain⟨d,rfl,h1,h2⟩:=zcH ht hc;exact ze9 hw h1 h2
theorem zj1 {w:List Data} (hw:WT w){a k:Int}{p:Pat} (ht:TyIn w.length ⟨a,k⟩):
  FnD Tryz.prog 236 [.d (zah w),.agg [.d (.i a),.d (.i k)],.agg [.d (.i p.op),.d (.i p.ctor),.d (.i p.n),.d (.i p.m),.d (.i p.var),.d (zag p.kids)]] [] (.tup [.d (zcs (zcu w ⟨a,k⟩ p)),.d (.bool (okP w ⟨a,k⟩ p))]) []:=by
 have hcl:=zeV hw ht;have ty4:p.op=4->p.ctor∉zal w ⟨a,k⟩->zcu w ⟨a,k⟩ p=[]:=fun h4 hm=>by unfold zcu;rw[if_pos ⟨h4,hm⟩]
 have ty4':p.op=4->p.ctor∈zal w ⟨a,k⟩->zcu w ⟨a,k⟩ p=zaa w ⟨a,k⟩ p.ctor:=fun h4 hm=>by unfold zcu zac;rw[if_neg (fun h=>h.2 hm),if_pos h4]
 have ty5:p.op=5->zcu w ⟨a,k⟩ p=[⟨a,k⟩,⟨a,k⟩]:=fun h5=>by unfold zcu zac;rw[if_neg (by omega),if_neg (by omega),if_pos h5]
 have ty6:p.op=6->zcu w ⟨a,k⟩ p=[⟨a,k⟩]:=fun h6=>by unfold zcu zac;rw[if_neg (by omega),if_neg (by omega),if_neg (by omega),if_pos h6]
 have ty0:¬p.op=4->¬p.op=5->¬p.op=6->zcu w ⟨a,k⟩ p=[]:=fun h4 h5 h6=>by unfold zcu zac;rw[if_neg (fun h=>h4 h.1),if_neg h4,if_neg h5,if_neg h6]
 have ln4:p.op=4->(zac w ⟨a,k⟩ p).length=(zaa w ⟨a,k⟩ p.ctor).length:=fun h4=>by unfold zac;rw[if_pos h4]
 have ln5:p.op=5->(zac w ⟨a,k⟩ p).length=2:=fun h5=>by unfold zac;rw[if_neg (by omega),if_pos h5];rfl
 have ln6:p.op=6->(zac w ⟨a,k⟩ p).length=1:=fun h6=>by unfold zac;rw[if_neg (by omega),if_neg (by omega),if_pos h6];rfl
 have ln0:¬p.op=4->¬p.op=5->¬p.op=6->(zac w ⟨a,k⟩ p).length=0:=fun h4 h5 h6=>by unfold zac;rw[if_neg h4,if_neg h5,if_neg h6];rfl
 have okI:∀b:Bool,(b=true↔((((p.op=2\/p.op=6)->0<=p.var/\p.var<=5)/\(¬(p.op=2\/p.op=6)->p.var=0)/\(p.op≠3->p.n=0/\p.m=0)/\(p.op≠4->p.ctor=0)/\
   (p.op=1\/p.op=2\/p.op=5\/p.op=6\/(p.op=3/\a = -1/\0<=p.n/\p.n<=p.m/\p.m<=9)\/(p.op=4/\p.ctor∈zal w ⟨a,k⟩)))/\p.kids.length=(zac w ⟨a,k⟩ p).length))->b=okP w ⟨a,k⟩ p:=fun b h=>by
  rw[Bool.eq_iff_iff,h];unfold okP ownP;simp only[xad,decide_eq_true_eq]
 by_cases hmem:p.ctor∈zal w ⟨a,k⟩
 ·have hargs:=zbN hw ht hmem;have hal:(zaa w ⟨a,k⟩ p.ctor).length<=1000000000000:=by
   obtain⟨d,rfl,h1,h2⟩:=zcH ht hmem;exact zfv hw h1 h2
  simp only[hmem,and_true] at okI;refine bd Tryz.f236 87 [] [5] fun w0 F0 own kept hk=>?_;refine bx 3004 ?_;refine bx 3005 ?_;refine ev ?_;refine sq ?_ ?_<;>intro h1 h1p h1s<;>(try simp only[Q] at h1p);refine wc zer (zgt) rfl rfl ?_;refine ev ?_;refine rn0 (r2 rfl rfl) (.tup (.cons (.nild ?_) (.cons (.eqd ?_) .nil)));rotate_left 2;refine sq ?_ ?_<;>intro h2 h2p h2s<;>(try simp only[Q] at h2p);refine xal ?_;refine xaB 7 [(23,.d (.bool (decide ((p.ctor=0/\(p.n=0/\p.m=0)/\(p.kids.length:Int)=0)/\0<=p.var/\p.var<=5))))] [17,18,19,20,21,22] ?_ ?_;refine ev ?_;refine wc zer (zgu) rfl rfl ?_;refine ev ?_;refine sq ?_ ?_<;>intro h3 h3p h3s<;>(try simp only[Q] at h3p);refine Walk.call (cr:=[]) zmN (ze4) rfl (.some rfl rfl h3) rfl rfl (LeL.refl _) trivial rfl rfl rfl ?_;refine evs [] [(19,true)] ?_ ⟨⟨_,rfl,h3⟩,trivial⟩;exact jn rfl (xap (by(rw[Bool.eq_iff_iff];simp only[decide_eq_true_eq,zat,xad,Bool.false_eq_true,false_iff,true_iff];omega)));exact jn rfl (xap (by(rw[Bool.eq_iff_iff];simp only[decide_eq_true_eq,zat,xad,Bool.false_eq_true,false_iff,true_iff];omega)));refine xaA ?_;refine ev ?_;refine rn0 (r2 rfl rfl) (.tup (.cons (.nild ?_) (.cons (.eqd ?_) .nil)));rotate_left 2;refine sq ?_ ?_<;>intro h4 h4p h4s<;>(try simp only[Q] at h4p);refine sq ?_ ?_<;>intro h5 h5p h5s<;>(try simp only[Q] at h5p);refine Walk.call (cr:=[]) zer (zlM) rfl (.some rfl rfl h5) rfl rfl (LeL.refl _) trivial rfl rfl rfl ?_;refine evd [] [(29,true)] ?_ ⟨⟨_,rfl,h5⟩,trivial⟩;refine sq ?_ ?_<;>intro h6 h6p h6s<;>(try simp only[Q] at h6p);refine sq ?_ ?_<;>intro h7 h7p h7s<;>(try simp only[Q] at h7p);refine sq ?_ ?_<;>intro h8 h8p h8s<;>(try simp only[Q] at h8p);refine dr ?_;refine rn0 (r2 rfl rfl) (.tup (.cons (.nild ?_) (.cons (.eqd ?_) .nil)));rotate_left 2;refine dr ?_;refine rn0 (r2 rfl rfl) (.tup (.cons (.nild ?_) (.cons (.eqd ?_) .nil)));rotate_left 2;refine sqF ?_;refine dr ?_;refine rn0 (r2 rfl rfl) (.tup (.cons (.nild ?_) (.cons (.eqd ?_) .nil)));rotate_left 2;refine sqF ?_;refine sqF ?_;refine dr ?_;refine rn0 (r2 rfl rfl) (.tup (.cons (.nild ?_) (.cons (.eqd ?_) .nil)));rotate_left 2;refine sqF ?_;refine sqF ?_;refine sqF ?_;refine dr ?_;refine rn0 (r2 rfl rfl) (.tup (.cons (.nild ?_) (.cons (.eqd ?_) .nil)));rotate_left 2;refine sq ?_ ?_<;>intro h9 h9p h9s<;>(try simp only[Q] at h9p);refine wc zgA (zdM hw ht) rfl rfl ?_;refine evd [] [] ?_;refine wc zkj (zca hcl) rfl rfl ?_;refine evd [] [] ?_;refine dr ?_;refine sq ?_ ?_<;>intro h10 h10p h10s<;>(try simp only[Q] at h10p);exfalso;simp_all;refine wc zen (hargs) rfl rfl ?_;refine ev ?_;refine wc zer (zr5) rfl rfl ?_;refine ev ?_;refine rn0 (r2 rfl rfl) (.tup (.cons (.eqd ?_) (.cons (.eqd ?_) .nil)));rotate_left 2;refine sq ?_ ?_<;>intro h11 h11p h11s<;>(try simp only[Q] at h11p);refine si [0,1] [_,_] zaN tz25 ?_;refine evd [] [] ?_;refine wc zer (zgt) rfl rfl ?_;refine evd [] [] ?_;refine dr ?_;refine rn0 (r2 rfl rfl) (.tup (.cons (.eqd ?_) (.cons (.eqd ?_) .nil)));rotate_left 2;refine sq ?_ ?_<;>intro h12 h12p h12s<;>(try simp only[Q] at h12p);refine si [0] [_] zaN tz25 ?_;refine evd [] [] ?_;refine wc zer (zgu) rfl rfl ?_;refine evd [] [] ?_;refine sq ?_ ?_<;>intro h13 h13p h13s<;>(try simp only[Q] at h13p);refine Walk.call (cr:=[]) zmN (ze4) rfl (.some rfl rfl h13) rfl rfl (LeL.refl _) trivial rfl rfl rfl ?_;refine evd [] [(82,true)] ?_ ⟨⟨_,rfl,h13⟩,trivial⟩;refine dr ?_;refine rn0 (r2 rfl rfl) (.tup (.cons (.eqd ?_) (.cons (.eqd ?_) .nil)));rotate_left 2;refine dr ?_;refine rn0 (r2 rfl rfl) (.tup (.cons (.eqd ?_) (.cons (.eqd ?_) .nil)));rotate_left 2;refine rn0 (r2 rfl rfl) (.tup (.cons (.nild ?_) (.cons (.eqd ?_) .nil)));rotate_left 2;all_goals (first|(refine congrArg D.bool (okI _ ?_);(try simp only[decide_eq_true_eq,Bool.false_eq_true,zat,xad,xac,true_iff,false_iff]);omega)|(rw[ty0 (by omega) (by omega) (by omega)];first|done|rfl)|(rw[ty5 (by omega)];first|done|rfl)|(rw[ty6 (by omega)];first|done|rfl)|(rw[ty4' (by omega) hmem];first|done|rfl))
 ·simp only[hmem,and_false,or_false] at okI;refine bd Tryz.f236 87 [] [5] fun w0 F0 own kept hk=>?_;refine bx 3004 ?_;refine bx 3005 ?_;refine ev ?_;refine sq ?_ ?_<;>intro h1 h1p h1s<;>(try simp only[Q] at h1p);refine wc zer (zgt) rfl rfl ?_;refine ev ?_;refine rn0 (r2 rfl rfl) (.tup (.cons (.nild ?_) (.cons (.eqd ?_) .nil)));rotate_left 2;refine sq ?_ ?_<;>intro h2 h2p h2s<;>(try simp only[Q] at h2p);refine xal ?_;refine xaB 7 [(23,.d (.bool (decide ((p.ctor=0/\(p.n=0/\p.m=0)/\(p.kids.length:Int)=0)/\0<=p.var/\p.var<=5))))] [17,18,19,20,21,22] ?_ ?_;refine ev ?_;refine wc zer (zgu) rfl rfl ?_;refine ev ?_;refine sq ?_ ?_<;>intro h3 h3p h3s<;>(try simp only[Q] at h3p);refine Walk.call (cr:=[]) zmN (ze4) rfl (.some rfl rfl h3) rfl rfl (LeL.refl _) trivial rfl rfl rfl ?_;refine evs [] [(19,true)] ?_ ⟨⟨_,rfl,h3⟩,trivial⟩;exact jn rfl (xap (by(rw[Bool.eq_iff_iff];simp only[decide_eq_true_eq,zat,xad,Bool.false_eq_true,false_iff,true_iff];omega)));exact jn rfl (xap (by(rw[Bool.eq_iff_iff];simp only[decide_eq_true_eq,zat,xad,Bool.false_eq_true,false_iff,true_iff];omega)));refine xaA ?_;refine ev ?_;refine rn0 (r2 rfl rfl) (.tup (.cons (.nild ?_) (.cons (.eqd ?_) .nil)));rotate_left 2;refine sq ?_ ?_<;>intro h4 h4p h4s<;>(try simp only[Q] at h4p);refine sq ?_ ?_<;>intro h5 h5p h5s<;>(try simp only[Q] at h5p);refine Walk.call (cr:=[]) zer (zlM) rfl (.some rfl rfl h5) rfl rfl (LeL.refl _) trivial rfl rfl rfl ?_;refine evd [] [(29,true)] ?_ ⟨⟨_,rfl,h5⟩,trivial⟩;refine sq ?_ ?_<;>intro h6 h6p h6s<;>(try simp only[Q] at h6p);refine sq ?_ ?_<;>intro h7 h7p h7s<;>(try simp only[Q] at h7p);refine sq ?_ ?_<;>intro h8 h8p h8s<;>(try simp only[Q] at h8p);refine dr ?_;refine rn0 (r2 rfl rfl) (.tup (.cons (.nild ?_) (.cons (.eqd ?_) .nil)));rotate_left 2;refine dr ?_;refine rn0 (r2 rfl rfl) (.tup (.cons (.nild ?_) (.cons (.eqd ?_) .nil)));rotate_left 2;refine sqF ?_;refine dr ?_;refine rn0 (r2 rfl rfl) (.tup (.cons (.nild ?_) (.cons (.eqd ?_) .nil)));rotate_left 2;refine sqF ?_;refine sqF ?_;refine dr ?_;refine rn0 (r2 rfl rfl) (.tup (.cons (.nild ?_) (.cons (.eqd ?_) .nil)));rotate_left 2;refine sqF ?_;refine sqF ?_;refine sqF ?_;refine dr ?_;refine rn0 (r2 rfl rfl) (.tup (.cons (.nild ?_) (.cons (.eqd ?_) .nil)));rotate_left 2;refine sq ?_ ?_<;>intro h9 h9p h9s<;>(try simp only[Q] at h9p);refine wc zgA (zdM hw ht) rfl rfl ?_;refine evd [] [] ?_;refine wc zkj (zca hcl) rfl rfl ?_;refine evd [] [] ?_;refine dr ?_;refine sq ?_ ?_<;>intro h10 h10p h10s<;>(try simp only[Q] at h10p);refine rn0 (r2 rfl rfl) (.tup (.cons (.nild ?_) (.cons (.eqd ?_) .nil)));rotate_left 2;exfalso;simp_all;refine sq ?_ ?_<;>intro h11 h11p h11s<;>(try simp only[Q] at h11p);refine si [0,1] [_,_] zaN tz25 ?_;refine evd [] [] ?_;refine wc zer (zgt) rfl rfl ?_;refine evd [] [] ?_;refine dr ?_;refine rn0 (r2 rfl rfl) (.tup (.cons (.eqd ?_) (.cons (.eqd ?_) .nil)));rotate_left 2;refine sq ?_ ?_<;>intro h12 h12p h12s<;>(try simp only[Q] at h12p);refine si [0] [_] zaN tz25 ?_;refine evd [] [] ?_;refine wc zer (zgu) rfl rfl ?_;refine evd [] [] ?_;refine sq ?_ ?_<;>intro h13 h13p h13s<;>(try simp only[Q] at h13p);refine Walk.call (cr:=[]) zmN (ze4) rfl (.some rfl rfl h13) rfl rfl (LeL.refl _) trivial rfl rfl rfl ?_;refine evd [] [(82,true)] ?_ ⟨⟨_,rfl,h13⟩,trivial⟩;refine dr ?_;refine rn0 (r2 rfl rfl) (.tup (.cons (.eqd ?_) (.cons (.eqd ?_) .nil)));rotate_left 2;refine dr ?_;refine rn0 (r2 rfl rfl) (.tup (.cons (.eqd ?_) (.cons (.eqd ?_) .nil)));rotate_left 2;refine rn0 (r2 rfl rfl) (.tup (.cons (.nild ?_) (.cons (.eqd ?_) .nil)));rotate_left 2;all_goals (first|(refine congrArg D.bool (okI _ ?_);(try simp only[decide_eq_true_eq,Bool.false_eq_true,zat,xad,xac,true_iff,false_iff]);omega)|(rw[ty0 (by omega) (by omega) (by omega)];first|done|rfl)|(rw[ty5 (by omega)];first|done|rfl)|(rw[ty6 (by omega)];first|done|rfl)|(rw[ty4 (by omega) hmem];first|done|rfl))
theorem zvb {t u:Vt}:t=u↔t.var=u.var/\t.ty.data=u.ty.data/\t.ty.index=u.ty.index:=by
 rcases t with ⟨a,b,c⟩;rcases u with ⟨d,e,f⟩;simp
def zte (l:List Vt) (v:Vt):Int:=idxF (fun x=>decide (v=x)) l 0
theorem zk3 {l:List Vt}{v:Vt} (h:l.length<=1000000000000):FnD Tryz.prog 350 [.d (zc7 l),.agg [.d (.i v.var),.d (.i v.ty.data),.d (.i v.ty.index)]] [] (.d (.i (zte l v))) []:=by
 refine bd Tryz.f350 19 [16] [] fun w0 F0 own kept hk=>?_;refine bx 3003 ?_;refine evs [16] [] ?_;refine xak (ι:=List (Vt)×List (Vt)) hk (fun x=>[(8,.d (.i (x.1.length:Int)))]) [4,5,9,10,11,12,13,14,15,16,17,18] (fun x=>[]) (fun x=>x.1++x.2=l/\idxF (fun x=>decide (v=x)) x.2 x.1.length=idxF (fun x=>decide (v=x)) l 0) (fun x=>x.2.length) ([],l) ⟨by simp,rfl⟩ ⟨⟨_,rfl,xaq ?_⟩,trivial⟩ trivial (fun x=>rfl) (fun x hg1=>?_);focus (first|rfl|omega)
 obtain⟨pre,rest⟩:=x;dsimp only at hg1 ⊢;refine evc [16] [] ?_;refine sq ?_ ?_<;>intro h1 h1p h1s<;>(try simp only[Q] at h1p);rcases rest with _|⟨y,rest⟩
 ·exfalso;simp_all
 refine xaU zdf .none rfl rfl rfl rfl (zaG hg1.1) rfl ?_;refine evd [16] [] ?_;refine Walk.eqV2 zyJ .none rfl rfl rfl rfl rfl ?_;refine dr ?_;refine sq ?_ ?_<;>intro h2 h2p h2s<;>(try simp only[Q] at h2p);refine rq ?_;rotate_left;refine ar ?_;refine xah ((pre++[y],rest)) ⟨⟨(by have hz:=hg1.1;rw[<-hz];simp),(by rw[<-hg1.2];simp[idxF];simp_all[zvb])⟩,(by simp),sx ⟨⟨_,rfl,xaq ?_⟩,trivial⟩ trivial⟩;focus (first|rfl|(simp;done)|omega)
 have hrest:rest=[]:=by
  rcases rest with _|⟨a,b⟩
  ·rfl
  ·exfalso;have hz:=congrArg List.length (hg1.1);simp only[xaa,xab,xac] at hz;omega
 subst hrest;refine rq ?_;rotate_left;all_goals (unfold zte;rw[<-hg1.2];simp_all[idxF,zvb])
theorem zfr {l:List Vt}{v:Vt} (h:l.length<=1000000000000):FnD Tryz.prog 294 [.d (zc7 l),.agg [.d (.i v.var),.d (.i v.ty.data),.d (.i v.ty.index)]] [] (.d (.bool (decide (v∈l)))) []:=by
 refine bd Tryz.f294 9 [] [] fun w0 F0 own kept hk=>?_;refine bx 3003 ?_;refine ev ?_;refine wc zx5 (zk3 h) rfl rfl ?_;refine ev ?_;refine rq ?_;rotate_left;all_goals (refine congrArg D.bool ?_;rw[show zte l v=idxF (fun x=>decide (v=x)) l 0 from rfl,ze8];simp[List.any_eq,eq_comm])
theorem ziJ {xs:List Vt}{f:Nat}{caps:List AV}{hp:Hp}{p:Vt->Bool} (hs:xs.length<=1000000000000) (hcal:Callee Tryz.prog f)
  (hf:∀t∈xs,FnD Tryz.prog f ([.agg [.d (.i t.var),.d (.i t.ty.data),.d (.i t.ty.index)]]++caps) hp (.d (.bool (p t))) []) (k1:subH hp hp) (k2:zdY hp=true) (k3:za6 hp [] (.d .nilp) []=true):
  FnD Tryz.prog 388 [.d (zc7 xs),.fn f caps] hp (.d (.i (idxF p xs 0))) []:=by
 refine bd Tryz.f388 19 [] [] fun w0 F0 own kept hk=>?_;refine xak (ι:=List (Vt)×List (Vt)) hk (fun x=>[(8,.d (.i (x.1.length:Int)))]) [4,5,9,10,11,12,13,14,15,16,17,18] (fun x=>[]) (fun x=>x.1++x.2=xs/\idxF p x.2 x.1.length=idxF p xs 0) (fun x=>x.2.length) ([],xs) ⟨by simp,rfl⟩ ⟨⟨_,rfl,xaq ?_⟩,trivial⟩ trivial (fun x=>zg6 hp) (fun x hg1=>?_);focus (first|rfl|omega)
 obtain⟨pre,rest⟩:=x;dsimp only at hg1 ⊢;refine evc [] [] ?_;refine sq ?_ ?_<;>intro h1 h1p h1s<;>(try simp only[Q] at h1p);rcases rest with _|⟨y,rest⟩
 ·exfalso;simp_all
 refine xaU zdf .none rfl rfl rfl rfl (zaG hg1.1) rfl ?_;refine ev ?_;refine xaJ (cr:=[]) hcal (hf y (by rw[<-hg1.1];simp)) rfl .none rfl rfl rfl (LeL.refl _) k1 k2 (zc9 k3 _) rfl ?_;refine tv ?_;refine sq ?_ ?_<;>intro h2 h2p h2s<;>(try simp only[Q] at h2p);focus (refine rn [] (r1 rfl) (.eqd ?_) ⟨rfl,rfl⟩ (fun _ _ h=>h) (fun _ h=>h);all_goals (rw[<-hg1.2];simp[idxF,h1s,h1p,h2s,h2p]))
 refine ar ?_;refine xah ((pre++[y],rest)) ⟨⟨(by have hz:=hg1.1;rw[<-hz];simp),(by rw[<-hg1.2];simp[idxF,h2s])⟩,(by simp),Sub.x (by kernel_rfl) (by kernel_rfl) ⟨⟨_,rfl,xaq ?_⟩,trivial⟩ (by simp) (by simp[zdL]) trivial⟩;focus (first|rfl|(simp;done)|omega)
 have hrest:rest=[]:=by
  rcases rest with _|⟨a,b⟩
  ·rfl
  ·exfalso;have hz:=congrArg List.length (hg1.1);simp only[xaa,xab,xac] at hz;omega
 subst hrest;focus (refine rn [] (r1 rfl) (.eqd ?_) ⟨rfl,rfl⟩ (fun _ _ h=>h) (fun _ h=>h);all_goals (rw[<-hg1.2];simp[idxF,h1s,h1p]))
theorem zhk {xs:List Vt}{f:Nat}{caps:List AV}{hp:Hp}{p:Vt->Bool} (hs:xs.length<=1000000000000) (hcal:Callee Tryz.prog f)
  (hf:∀t∈xs,FnD Tryz.prog f ([.agg [.d (.i t.var),.d (.i t.ty.data),.d (.i t.ty.index)]]++caps) hp (.d (.bool (p t))) []) (k1:subH hp hp) (k2:zdY hp=true) (k3:za6 hp [] (.d .nilp) []=true):
  FnD Tryz.prog 375 [.d (zc7 xs),.fn f caps] hp (.d (.bool (xs.any p))) []:=by
 refine bd Tryz.f375 9 [] [] fun w0 F0 own kept hk=>?_;refine Walk.call (cr:=[]) zyb (ziJ hs hcal hf k1 k2 k3) rfl .none rfl rfl (LeL.refl _) k1 k2 (zc9 k3 _) rfl ?_;refine ev ?_;refine rn [] (r1 rfl) (.eqd ?_) ⟨rfl,rfl⟩ (fun _ _ h=>h) (fun _ h=>h);rotate_left;all_goals (exact congrArg D.bool (ze8 p xs 0))
theorem zkz {b:List Vt}{v:Vt} (h:b.length<=1000000000000):FnD Tryz.prog 376 [.agg [.d (.i v.var),.d (.i v.ty.data),.d (.i v.ty.index)],.ref 3003 0] [(3003,some (.box [.d (zc7 b)]))] (.d (.bool (!decide (v∈b)))) []:=by
 refine bd Tryz.f376 8 [] [] fun w0 F0 own kept hk=>?_;refine bx 3001 ?_;refine ev ?_;refine wc zt3 (zfr h) rfl rfl ?_;refine ev ?_;refine rn [] (r1 rfl) (.eqd ?_) ⟨rfl,rfl⟩ (SubH.get ⟨rfl,trivial⟩) (fun _ h=>h);rotate_left;all_goals (rfl)
theorem zhN {x y:List Vt} (hx:x.length<=1000000000000) (hy:y.length<=1000000000000):FnD Tryz.prog 349 [.d (zc7 x),.d (zc7 y)] [] (.d (.bool (zd6 x y))) []:=by
 refine bd Tryz.f349 16 [] [] fun w0 F0 own kept hk=>?_;refine bx 3003 ?_;refine ev ?_;refine sq ?_ ?_<;>intro h1 h1p h1s;refine xaL (xs:=[_]) rfl (.some rfl rfl h1) rfl rfl ?_;refine Walk.call (cr:=[]) zx8 (zhk (p:=fun v=> !decide (v∈y)) hx zx9 (fun t _=>zkz hy) ⟨rfl,trivial⟩ rfl rfl) rfl (.some rfl rfl h1) rfl rfl (LeL.refl _) ⟨rfl,trivial⟩ rfl rfl rfl ?_;refine evs [] [(10,true)] ?_ ⟨⟨_,rfl,h1⟩,trivial⟩;refine rq ?_;rotate_left;refine rq ?_;rotate_left;all_goals (refine congrArg D.bool ?_;unfold zd6;first|(simp_all;done)|(simp_all;intro hz;omega))
def metA (s:List Int):List AV:=(List.range 6).map fun(i:Nat)=> .d (.bool (decide ((i:Int)∈s)))
theorem zri {s:List Int}{v:Int} (h0:0<=v) (h1:v<=5):(metA s)[v.toNat]?=some (.d (.bool (decide (v∈s)))):=by
 unfold metA;rw[List.getElem?_map,List.getElem?_range (by omega)];simp only[Option.map_some];rw[Int.toNat_of_nonneg h0]
theorem zrj {s:List Int}{v:Int} (h0:0<=v) (h1:v<=5):putC (metA s) v.toNat [.d (.bool true)]=some (metA (s++[v])):=by
 have e:v=0\/v=1\/v=2\/v=3\/v=4\/v=5:=by omega
 rcases e with rfl|rfl|rfl|rfl|rfl|rfl<;>simp[metA,putC,List.range_succ]
theorem zuC (t:Ty) (p:Pat):(zaP t p).length<=1:=by unfold zaP;split<;>simp
theorem zkN:∀ {a b:List Int},a.Nodup->(∀x∈a,x∈b)->a.length<=b.length
 | [],b,_,_=>by simp
 |x::r,b,hn,hs=>by
  have hn':=List.nodup_cons.1 hn;have hx:=hs x (by simp);have h:=zkN (a:=r) (b:=b.erase x) hn'.2 (fun y hy=>by
   have hne:y≠x:=fun e=>hn'.1 (e ▸ hy);exact(List.mem_erase_of_ne hne).2 (hs y (by simp[hy])))
  rw[List.length_erase_of_mem hx] at h;have:=List.length_pos_of_mem hx;simp only[xab];omega
def InR (l:List Vt):Prop:=∀v∈l,0<=v.var/\v.var<=5
theorem zpv {l:List Vt} (h:InR l) (hn:zco l=true):l.length<=6:=by
 unfold zco at hn;have h1:=of_decide_eq_true hn;have h2:∀x∈l.map Vt.var,x∈[(0:Int),1,2,3,4,5]:=fun x hx=>by
  obtain⟨v,hv,rfl⟩:=List.mem_map.1 hx;have:=h v hv;simp only[List.mem_cons,List.not_mem_nil,or_false];omega
 have:=zkN h1 h2;simpa using this
theorem zmo {g:Ty->Pat->Int->Option (List Vt)×Int}{or:Bool} (hg:∀t p c l,(g t p c).1=some l->InR l):∀(a:List Ty) (b:List Pat) (i:Nat) (acc:List Vt) (c:Int) (l:List Vt),InR acc->(zbm g or a b i acc c).1=some l->InR l
 | [],b,i,acc,c,l,ha,h=>by simp only[zbm,Option.some.injEq] at h;subst h;exact ha
 |_::_,[],i,acc,c,l,ha,h=>by simp only[zbm,Option.some.injEq] at h;subst h;exact ha
 |x::r,y::s,i,acc,c,l,ha,h=>by
  simp only[zbm] at h;cases hh:(g x y c).1 with
  |none=>rw[hh] at h;cases h
  |some m=>
   rw[hh] at h;simp only at h;split at h
   ·split at h
    ·exact zmo hg r s (i+1) acc _ l ha h
    ·cases h
   ·refine zmo hg r s (i+1) _ _ l (fun v hv=>?_) h;rcases List.mem_append.1 hv with hv|hv
    ·exact ha v hv
    ·exact hg x y c m hh v hv
theorem zmp (w:List Data):∀(n:Nat) (t:Ty) (p:Pat) (c:Int) (l:List Vt),(zaQ w n t p c).1=some l->InR l/\zco l=true
 |0,t,p,c,l,h=>by simp[zaQ] at h
 |n+1,t,p,c,l,h=>by
  unfold zaQ at h;split at h
  ·cases h
  ·split at h
   ·rename_i h60 ho;have ho':ownP w t p=true:=by unfold okP at ho;simp only[xad] at ho;exact ho.1
    cases hk:(zbm (zaQ w n) (decide (p.op=5)) (zac w t p) p.kids 0 (zaP t p) (c+1)).1 with
    |none=>unfold finV at h;rw[hk] at h;simp only at h;rw[hk] at h;cases h
    |some m=>
     have hi:InR m:=zmo (fun t p c l h=>(zmp w n t p c l h).1) _ _ _ _ _ m (fun v hv=>by
      unfold zaP at hv;split at hv
      ·rename_i hop;simp only[List.mem_cons,List.not_mem_nil,or_false] at hv;subst hv;exact zro ho' hop
      ·simp at hv) hk
     unfold finV at h;rw[hk] at h;simp only at h;split at h
     ·rename_i hn;rw[hk] at h;cases h
      exact⟨hi,hn⟩
     ·cases h
   ·cases h
theorem zvK (w:List Data) (n:Nat) (t:Ty) (p:Pat) (c:Int) (h:(zaQ w n t p c).1.isSome=true):c+1<=(zaQ w n t p c).2/\(zaQ w n t p c).2<=60:=by
 have h1:=zfc w n t p c;by_cases hw:zbP w n t p c=true
 ·have h2:=h1.2 hw;simp only[zbP,xad,decide_eq_true_eq] at hw;have:=Pat.size_eq p;omega
 ·rw[if_neg hw] at h1;rw[h1.1] at h;cases h
def zdF (o:Option (List Vt)):List Vt:=o.getD []
theorem ztr {g:Ty->Pat->Int->Option (List Vt)×Int}{or:Bool}{a:List Ty}{b:List Pat}{i:Nat}{acc:List Vt}{c:Int} (ha:i<a.length) (hl:b.length=a.length) (h:(g (nth a i) (nth b i) c).1.isSome=false):
  zbm g or (a.drop i) (b.drop i) i acc c=(none,(g (nth a i) (nth b i) c).2):=by
 rw[zaH ha,zaH (l:=b) (by omega),zbm];cases hh:(g (nth a i) (nth b i) c).1 with
 |none=>rfl
 |some l=>rw[hh] at h;cases h
theorem zuQ {g:Ty->Pat->Int->Option (List Vt)×Int}{or:Bool}{a:List Ty}{b:List Pat}{i:Nat}{acc:List Vt}{c:Int} (ha:i<a.length) (hl:b.length=a.length) (h:(g (nth a i) (nth b i) c).1.isSome=true) (ho:or=true/\i=1) (hs:zd6 acc (zdF (g (nth a i) (nth b i) c).1)=false):
  zbm g or (a.drop i) (b.drop i) i acc c=(none,(g (nth a i) (nth b i) c).2):=by
 rw[zaH ha,zaH (l:=b) (by omega),zbm];cases hh:(g (nth a i) (nth b i) c).1 with
 |none=>rfl
 |some l=>rw[hh] at hs;simp only[zdF,Option.getD_some] at hs;simp only[if_pos ho,hs,Bool.false_eq_true,if_false]
theorem ztq {g:Ty->Pat->Int->Option (List Vt)×Int}{or:Bool}{a:List Ty}{b:List Pat}{i:Nat}{acc:List Vt}{c:Int} (ha:i<a.length) (hl:b.length=a.length) (h:(g (nth a i) (nth b i) c).1.isSome=true) (hs:(or=true/\i=1)->zd6 acc (zdF (g (nth a i) (nth b i) c).1)=true):
  zbm g or (a.drop i) (b.drop i) i acc c=zbm g or (a.drop (i+1)) (b.drop (i+1)) (i+1) (if or=true/\i=1 then acc else acc++zdF (g (nth a i) (nth b i) c).1) (g (nth a i) (nth b i) c).2:=by
 rw[zaH ha,zaH (l:=b) (by omega),zbm];cases hh:(g (nth a i) (nth b i) c).1 with
 |none=>rw[hh] at h;cases h
 |some l=>
  by_cases ho:or=true/\i=1
  ·have:=hs ho;rw[hh] at this;simp only[zdF,Option.getD_some] at this;simp only[if_pos ho,this,if_true]
  ·simp only[if_neg ho,zdF,Option.getD_some]
theorem zuR {g:Ty->Pat->Int->Option (List Vt)×Int}{or:Bool}{a:List Ty}{b:List Pat}{i:Nat}{acc:List Vt}{c:Int} (ha:a.length<=i):zbm g or (a.drop i) (b.drop i) i acc c=(some acc,c):=by
 rw[List.drop_eq_nil_of_le ha,zbm];intro a r b s h;cases h
theorem zgi (w:List Data) (n:Nat) (t:Ty) (p:Pat) (c:Int):InR (zdF (zaQ w n t p c).1)/\(zdF (zaQ w n t p c).1).length<=6:=by
 cases h:(zaQ w n t p c).1 with
 |none=>exact⟨fun v hv=>by simp[zdF] at hv,by simp[zdF]⟩
 |some l=>
  have:=zmp w n t p c l h;exact⟨this.1,zpv this.1 this.2⟩
structure GoodS (w:List Data) (n:Nat) (t:Ty) (p:Pat) (c:Int) (x:Nat×List Vt×Int):Prop where
 le:x.1<=p.kids.length
 eq:zbm (zaQ w n) (decide (p.op=5)) ((zac w t p).drop x.1) (p.kids.drop x.1) x.1 x.2.1 x.2.2=zbm (zaQ w n) (decide (p.op=5)) (zac w t p) p.kids 0 (zaP t p) (c+1)
 lc:(x.1:Int)<=x.2.2
 c0:0<=x.2.2
 c1:x.2.2<=60
 len:x.2.1.length<=1+6*x.1
 inr:InR x.2.1
def zcF (w:List Data) (n:Nat) (t:Ty) (p:Pat) (x:Nat×List Vt×Int):Nat×List Vt×Int:=
 (x.1+1,if decide (p.op=5)=true/\x.1=1 then x.2.1 else x.2.1++zdF (zaQ w n (nth (zac w t p) x.1) (nth p.kids x.1) x.2.2).1,(zaQ w n (nth (zac w t p) x.1) (nth p.kids x.1) x.2.2).2)
theorem GoodS.next {w:List Data}{n:Nat}{t:Ty}{p:Pat}{c:Int}{x:Nat×List Vt×Int} (hl:p.kids.length=(zac w t p).length) (hg:GoodS w n t p c x) (hlt:x.1<p.kids.length)
  (hz:(zaQ w n (nth (zac w t p) x.1) (nth p.kids x.1) x.2.2).1.isSome=true) (hs:(decide (p.op=5)=true/\x.1=1)->zd6 x.2.1 (zdF (zaQ w n (nth (zac w t p) x.1) (nth p.kids x.1) x.2.2).1)=true):
  GoodS w n t p c (zcF w n t p x):=by
 obtain⟨h1,h2,h3,h4,h5,h6,h7⟩:=hg;have hb:=zvK w n _ _ _ hz;have ho:=zgi w n (nth (zac w t p) x.1) (nth p.kids x.1) x.2.2;refine⟨by unfold zcF;dsimp only;omega, ?_,by unfold zcF;dsimp only;omega,by unfold zcF;dsimp only;omega,by unfold zcF;dsimp only;omega, ?_, ?_⟩
 ·rw[<-h2,ztq (by omega) hl hz hs];rfl
 ·unfold zcF;dsimp only;split
  ·omega
  ·rw[xaa];omega
 ·unfold zcF;dsimp only;split
  ·exact h7
  ·intro v hv;rcases List.mem_append.1 hv with hv|hv
   ·exact h7 v hv
   ·exact ho.1 v hv
theorem GoodS.none {w:List Data}{n:Nat}{t:Ty}{p:Pat}{c:Int}{x:Nat×List Vt×Int} (hl:p.kids.length=(zac w t p).length) (hg:GoodS w n t p c x) (hlt:x.1<p.kids.length)
  (hz:(zaQ w n (nth (zac w t p) x.1) (nth p.kids x.1) x.2.2).1.isSome=false):
  finV (zbm (zaQ w n) (decide (p.op=5)) (zac w t p) p.kids 0 (zaP t p) (c+1))=(none,(zaQ w n (nth (zac w t p) x.1) (nth p.kids x.1) x.2.2).2):=by
 rw[<-hg.eq,ztr (by omega) hl hz];rfl
theorem GoodS.bad {w:List Data}{n:Nat}{t:Ty}{p:Pat}{c:Int}{x:Nat×List Vt×Int} (hl:p.kids.length=(zac w t p).length) (hg:GoodS w n t p c x) (hlt:x.1<p.kids.length)
  (hz:(zaQ w n (nth (zac w t p) x.1) (nth p.kids x.1) x.2.2).1.isSome=true) (ho:p.op=5/\x.1=1) (hs:zd6 x.2.1 (zdF (zaQ w n (nth (zac w t p) x.1) (nth p.kids x.1) x.2.2).1)=false):
  finV (zbm (zaQ w n) (decide (p.op=5)) (zac w t p) p.kids 0 (zaP t p) (c+1))=(Option.none,(zaQ w n (nth (zac w t p) x.1) (nth p.kids x.1) x.2.2).2):=by
 rw[<-hg.eq,zuQ (by omega) hl hz (by simpa using ho) hs];rfl
theorem GoodS.fin {w:List Data}{n:Nat}{t:Ty}{p:Pat}{c:Int}{x:Nat×List Vt×Int} (hl:p.kids.length=(zac w t p).length) (hg:GoodS w n t p c x) (hge:p.kids.length<=x.1):
  finV (zbm (zaQ w n) (decide (p.op=5)) (zac w t p) p.kids 0 (zaP t p) (c+1))=(if zco x.2.1=true then some x.2.1 else Option.none,x.2.2):=by
 rw[<-hg.eq,zuR (by omega)];unfold finV;simp only;split<;>rfl
theorem zuD {pre rest l:List Vt}{y:Vt} (h:pre++y::rest=l) (hm:y.var∈pre.map Vt.var):zco l=false:=by
 unfold zco;refine decide_eq_false (fun hn=>?_);rw[<-h,xaf,xae,List.nodup_append] at hn;exact hn.2.2 _ hm _ (by simp) rfl
theorem znu {pre:List Vt}{y:Vt} (h:(pre.map Vt.var).Nodup) (hm:y.var∉pre.map Vt.var):((pre++[y]).map Vt.var).Nodup:=by
 rw[xaf,List.nodup_append];exact⟨h,by simp,fun a ha b hb=>by simp at hb;subst hb;exact fun e=>hm (e ▸ ha)⟩
def retV (r:Option (List Vt)×Int):AV:= .tup [.d (zc7 (zdF r.1)),.d (.bool r.1.isSome)]
theorem zee {w:List Data} (hw:WT w):∀(n:Nat){a k d c:Int}{p:Pat},d+n=11->n<=10->TyIn w.length ⟨a,k⟩->p.ok->0<=c->c<=1000000000000->
  FnD Tryz.prog 293 [.d (zah w),.agg [.d (.i a),.d (.i k)],.agg [.d (.i p.op),.d (.i p.ctor),.d (.i p.n),.d (.i p.m),.d (.i p.var),.d (zag p.kids)],.d (.i d),.ref 950 0] [(950,some (.box [.d (.i c)]))]
   (retV (zaQ w n ⟨a,k⟩ p c)) [(950,some (.box [.d (.i (zaQ w n ⟨a,k⟩ p c).2)]))]
 |0,a,k,d,c,p,hd,_,_,_,c0,c1=>by
  refine bd Tryz.f293 114 [] [2] fun w0 F0 own kept hk=>?_;refine bx 3006 ?_;refine bx 3007 ?_;refine ev ?_;refine ar ?_;refine so ty3 ?_;refine tv ?_;refine xal ?_;refine xaB 8 [(34,.d (.bool (true)))] [27,28,29,30,31,32,33] ?_ ?_;refine ev ?_;refine sq ?_ ?_<;>intro h1 h1p h1s;exact jnb rfl;exact jnb rfl;refine xaA ?_;refine tv ?_;refine sq ?_ ?_<;>intro h2 h2p h2s;refine rn [(950,some (.box [.d (.i (zaQ w 0 ⟨a,k⟩ p c).2)]))] (r2 rfl rfl) (.tup (.cons (.nild ?_) (.cons (.eqd ?_) .nil))) ⟨rfl,rfl⟩ (SubO.get ⟨.inr ?_,⟨.inl rfl,trivial⟩⟩) (zay rfl);rotate_left 3;exact absurd h2 (by simp);all_goals (first|((rfl);done)|(rfl))
 |n+1,a,k,d,c,p,hd,hn,ht,hok,c0,c1=>by
  by_cases h60:60<c+1
  ·have e:zaQ w (n+1) ⟨a,k⟩ p c=(none,c+1):=by unfold zaQ;rw[if_pos h60]
   rw[e];refine bd Tryz.f293 114 [] [2] fun w0 F0 own kept hk=>?_;refine bx 3006 ?_;refine bx 3007 ?_;refine ev ?_;refine ar ?_;refine so ty3 ?_;refine tv ?_;refine xal ?_;refine xaB 8 [(34,.d (.bool (true)))] [27,28,29,30,31,32,33] ?_ ?_;refine ev ?_;refine sq ?_ ?_<;>intro h1 h1p h1s;exact jnb rfl;exact jnb rfl;refine xaA ?_;refine tv ?_;refine sq ?_ ?_<;>intro h2 h2p h2s;refine rn [(950,some (.box [.d (.i (c+1))]))] (r2 rfl rfl) (.tup (.cons (.nild ?_) (.cons (.eqd ?_) .nil))) ⟨rfl,rfl⟩ (SubO.get ⟨.inr ?_,⟨.inl rfl,trivial⟩⟩) (zay rfl);rotate_left 3;exact absurd h2 (by simp);all_goals (first|((rfl);done)|(rfl))
  have hsh:=zj1 hw (p:=p) ht;by_cases hop:okP w ⟨a,k⟩ p=true
  ·have hok':=hok;rw[Pat.ok_iff] at hok;have hop':=hop;unfold okP at hop';simp only[xad,decide_eq_true_eq] at hop';obtain⟨ho,hl⟩:=hop';have hin:=zgM hw ht ho;have hlen:=zhp hw ht (zb2 ho);have hst:zcu w ⟨a,k⟩ p=zac w ⟨a,k⟩ p:=by unfold zcu;rw[if_neg (fun h=>h.2 (zb2 ho h.1))]
   rw[hst,hop] at hsh;have e:zaQ w (n+1) ⟨a,k⟩ p c=finV (zbm (zaQ w n) (decide (p.op=5)) (zac w ⟨a,k⟩ p) p.kids 0 (zaP ⟨a,k⟩ p) (c+1)):=by
    conv=>lhs;unfold zaQ
    rw[if_neg h60,if_pos hop]
   have hnr:InR (zaP ⟨a,k⟩ p):=fun v hv=>by
    unfold zaP at hv;split at hv
    ·rename_i hop;simp only[List.mem_cons,List.not_mem_nil,or_false] at hv;subst hv;exact zro ho hop
    ·simp at hv
   have hnl:=zuC ⟨a,k⟩ p;rw[e];refine bd Tryz.f293 114 [14,108] [2,8,17] fun w0 F0 own kept hk=>?_;refine bx 3006 ?_;refine bx 3007 ?_;refine evs [14,108] [] ?_;refine ar ?_;refine so ty3 ?_;refine tv ?_;refine xal ?_;refine xaB 8 [(34,.d (.bool (false)))] [27,28,29,30,31,32,33] ?_ ?_;refine evs [14,108] [] ?_;refine sq ?_ ?_<;>intro h1 h1p h1s;exact jnb rfl;exact jnb rfl;refine xaA ?_;refine tv ?_;refine sq ?_ ?_<;>intro h2 h2p h2s;exact absurd h2 (by simp);refine wc zqA (hsh) rfl rfl ?_;refine evs [14,108] [] ?_;refine sq ?_ ?_<;>intro h3 h3p h3s;exact absurd h3 (by simp);refine xaE 5 3 .none rfl rfl ?_;refine tv ?_;refine xal ?_;refine xaB 8 [(51,.d (.bool (decide (p.op=2\/p.op=6))))] [44,45,46,47,48,49,50] ?_ ?_;refine evs [14,108] [] ?_;refine sq ?_ ?_<;>intro h4 h4p h4s;exact jnb rfl;exact jnb rfl;refine xaA ?_;refine tv ?_;refine sq ?_ ?_<;>intro h5 h5p h5s;refine bu [0,1] [_,_] ztu ?_;refine si [0] [_] zdf zqg ?_;refine ap zdf zqk rfl rfl rfl (by simp) (by(simp;done)) ?_;refine asg ?_;refine tv ?_;refine xak (ι:=Nat×List Vt×Int) hk (fun z=>[(62,.d (.i (z.1:Int))),(14,.gl 5 (z.2.1.map Vt.c))]) [10,11,15,16,17,18,63,64,65,66,67,68,69,70,71,72,73,74,75,76,77,78,79,80,81,82,83,84,85,86,87,88,89,90,91,92,93,94,95,96,97,98] (fun z=>[(950,some (.box [.d (.i z.2.2)])),(5,some (.tok ((z.2.1.map Vt.c)).length 3))]) (fun z=>GoodS w n ⟨a,k⟩ p c z) (fun z=>p.kids.length-z.1) (0,zaP ⟨a,k⟩ p,c+1) ⟨by simp,by simp,by dsimp only;omega,by dsimp only;omega,by dsimp only;omega,by dsimp only;omega,hnr⟩ ⟨⟨_,rfl,xaq ?_⟩,⟨⟨_,rfl,LeA.glg ?_⟩,trivial⟩⟩ ⟨?_,⟨zab ?_,trivial⟩⟩ (fun x=>rfl) (fun z hg1=>?_);iterate 2 focus (first|rfl|(simp_all[zaP];done))
   focus (first|rfl|(simp[getH];done))
   focus (first|rfl|(simp_all[zaP];done))
   obtain⟨s1,_,s3,s4,s5,s6,s7⟩:=id hg1;refine evc [14,108] [2,8,17] ?_;refine sq ?_ ?_<;>intro h6 h6p h6s<;>(try simp only[Q,Pat.cs_len] at h6p);refine xaU sl34 .none rfl rfl rfl rfl (zar (by omega)) rfl ?_;refine evs [14,108] [] ?_;refine ab 3016 tz36 ?_;refine evs [14,108] [] ?_;refine so ty36 ?_;refine tv ?_;refine xaU zaN .none rfl rfl rfl rfl (zaq (by omega)) rfl ?_;refine evd [14,108] [] ?_;refine ar ?_;refine wd zqF (zee hw n (a:=(nth (zac w ⟨a,k⟩ p) z.1).data) (k:=(nth (zac w ⟨a,k⟩ p) z.1).index) (c:=z.2.2) (p:=nth p.kids z.1) (by omega) (by omega) (hin _ (zae (by omega))) (Pats.ok_mem hok.2 _ (zae (by omega))) (by omega) (by omega)) rfl rfl ⟨rfl,trivial⟩ ?_;refine evd [14,108] [] ?_;refine dr ?_;refine sq ?_ ?_<;>intro h7 h7p h7s;refine rn [(950,some (.box [.d (.i (finV (zbm (zaQ w n) (decide (p.op=5)) (zac w ⟨a,k⟩ p) p.kids 0 (zaP ⟨a,k⟩ p) (c+1))).2)]))] (r2 rfl rfl) (.tup (.cons (.nild ?_) (.cons (.eqd ?_) .nil))) ⟨rfl,rfl⟩ (SubO.get ⟨.inr ?_,⟨.inl rfl,trivial⟩⟩) (zay rfl);rotate_left 3;refine xal ?_;refine xaB 7 [(93,.d (.bool (decide (p.op=5/\z.1=1))))] [87,88,89,90,91,92] ?_ ?_;refine evs [14,108] [] ?_;refine sq ?_ ?_<;>intro h8 h8p h8s;exact jnb rfl;exact jnb rfl;refine xaA ?_;refine evs [14,108] [] ?_;refine sq ?_ ?_<;>intro h9 h9p h9s<;>(try simp only[Q,Pat.cs_len] at h9p);refine Walk.call (cr:=[]) zub (zhN (by omega) (by have hz:=(zgi w n ⟨(nth (zac w ⟨a,k⟩ p) z.1).data,(nth (zac w ⟨a,k⟩ p) z.1).index⟩ (nth p.kids z.1) z.2.2).2;omega)) rfl .none rfl rfl (.cons (.gl _ _) (.cons (.refl _) .nil)) trivial rfl rfl rfl ?_;refine evs [14,108] [] ?_;refine sq ?_ ?_<;>intro h10 h10p h10s<;>(try simp only[Q,Pat.cs_len] at h10p);refine rn [(950,some (.box [.d (.i (finV (zbm (zaQ w n) (decide (p.op=5)) (zac w ⟨a,k⟩ p) p.kids 0 (zaP ⟨a,k⟩ p) (c+1))).2)]))] (r2 rfl rfl) (.tup (.cons (.nild ?_) (.cons (.eqd ?_) .nil))) ⟨rfl,rfl⟩ (SubO.get ⟨.inr ?_,⟨.inl rfl,trivial⟩⟩) (zay rfl);rotate_left 3;refine ar ?_;refine xah ((zcF w n ⟨a,k⟩ p z)) ⟨(hg1.next hl (by omega) (by simp_all) (fun ho=>by simp_all)),(by unfold zcF;dsimp only;omega),sx ⟨⟨_,rfl,xaq ?_⟩,⟨⟨_,rfl,LeA.glg ?_⟩,trivial⟩⟩ ⟨?_,⟨zab ?_,trivial⟩⟩⟩;iterate 2 focus (first|rfl|(simp_all[zaP];done))
   focus (first|rfl|(simp[getH];done))
   focus (first|rfl|(simp_all[zaP];done))
   refine ap zdf zqk rfl rfl rfl (by simp) (by first|(simp;done)|(have hz:=(zgi w n ⟨(nth (zac w ⟨a,k⟩ p) z.1).data,(nth (zac w ⟨a,k⟩ p) z.1).index⟩ (nth p.kids z.1) z.2.2).2;simp;omega)) ?_;refine asg ?_;refine tv ?_;refine ar ?_;refine xah ((zcF w n ⟨a,k⟩ p z)) ⟨(hg1.next hl (by omega) (by simp_all) (fun ho=>by simp_all)),(by unfold zcF;dsimp only;omega),sx ⟨⟨_,rfl,xaq ?_⟩,⟨⟨_,rfl,LeA.glg ?_⟩,trivial⟩⟩ ⟨?_,⟨zab ?_,trivial⟩⟩⟩;iterate 2 focus (first|rfl|(simp_all[zaP];done)|(unfold zcF;dsimp only;rw[if_neg (by simp_all)];simp;done))
   focus (first|rfl|(simp[getH];done))
   focus (first|rfl|(simp_all[zaP];done)|(unfold zcF;dsimp only;rw[if_neg (by simp_all)];simp;done))
   refine ab 3019 zwr ?_;refine tv ?_;refine xak (ι:=List (Vt)×List (Vt)) hk (fun x=>[(101,.d (.i (x.1.length:Int)))]) [10,11,21,102,103,104,105,106,107,108,109,110,111,112] (fun x=>[(3019,some (.box (metA (x.1.map Vt.var))))]) (fun x=>x.1++x.2=z.2.1/\(x.1.map Vt.var).Nodup) (fun x=>x.2.length) ([],z.2.1) ⟨by simp,by simp⟩ ⟨⟨_,rfl,xaq ?_⟩,trivial⟩ ⟨?_,trivial⟩ (fun x=>rfl) (fun x hg2=>?_);focus (first|rfl|omega)
   focus (first|rfl|(simp[getH];done))
   obtain⟨pre,rest⟩:=x;dsimp only at hg2 ⊢;refine evc [14,108] [2,8,17] ?_;refine sq ?_ ?_<;>intro h11 h11p h11s<;>(try simp only[Q,Pat.cs_len] at h11p);rcases rest with _|⟨y,rest⟩
   ·exfalso;simp_all
   have hy:=s7 y (by rw[<-hg2.1];simp);refine xaX zdf .none rfl rfl rfl rfl (zaG hg2.1) rfl ?_;refine evs [14,108] [] ?_;refine ab 3021 zqg ?_;refine so zwq ?_;refine tv ?_;refine xaV (i:=y.var.toNat) zp4 .none rfl rfl rfl (Int.toNat_of_nonneg hy.1).symm (by omega) ?_;refine xa0 ty4 .none rfl rfl rfl ((by simpa using zri hy.1 hy.2)) ?_;refine tv ?_;refine sq ?_ ?_<;>intro h12 h12p h12s<;>(try simp only[Q,Pat.cs_len] at h12p);refine rn [(950,some (.box [.d (.i (finV (zbm (zaQ w n) (decide (p.op=5)) (zac w ⟨a,k⟩ p) p.kids 0 (zaP ⟨a,k⟩ p) (c+1))).2)]))] (r2 rfl rfl) (.tup (.cons (.nild ?_) (.cons (.eqd ?_) .nil))) ⟨rfl,rfl⟩ (SubO.get ⟨.inr ?_,⟨.inl rfl,trivial⟩⟩) (zay rfl);rotate_left 3;refine xaV (i:=y.var.toNat) zp4 .none rfl rfl rfl (Int.toNat_of_nonneg hy.1).symm (by omega) ?_;refine Walk.store ty4 .none rfl rfl rfl rfl rfl rfl (by simp) ((by simpa using zrj hy.1 hy.2)) ?_;refine tv ?_;refine ar ?_;refine xah ((pre++[y],rest)) ⟨⟨(by have hz:=hg2.1;rw[<-hz];simp),(znu hg2.2 (by simp_all))⟩,(by simp),sx ⟨⟨_,rfl,xaq ?_⟩,trivial⟩ ⟨?_,trivial⟩⟩;focus (first|rfl|(simp;done)|omega)
   focus (first|rfl|(simp[getH];done))
   have hrest:rest=[]:=by
    rcases rest with _|⟨a,b⟩
    ·rfl
    ·exfalso;have hz:=congrArg List.length (hg2.1);simp only[xaa,xab,xac] at hz;omega
   subst hrest;refine rn [(950,some (.box [.d (.i (finV (zbm (zaQ w n) (decide (p.op=5)) (zac w ⟨a,k⟩ p) p.kids 0 (zaP ⟨a,k⟩ p) (c+1))).2)]))] (r2 rfl rfl) (.tup (.cons (.gld ?_) (.cons (.eqd ?_) .nil))) ⟨rfl,rfl⟩ (SubO.get ⟨.inr ?_,⟨.inl rfl,trivial⟩⟩) (zay rfl);rotate_left 3;try simp only[Q,Pat.cs_len] at h5p
   refine xak (ι:=Nat×List Vt×Int) hk (fun z=>[(62,.d (.i (z.1:Int))),(14,.gl 5 (z.2.1.map Vt.c))]) [10,11,15,16,17,18,63,64,65,66,67,68,69,70,71,72,73,74,75,76,77,78,79,80,81,82,83,84,85,86,87,88,89,90,91,92,93,94,95,96,97,98] (fun z=>[(950,some (.box [.d (.i z.2.2)])),(5,some (.tok ((z.2.1.map Vt.c)).length 3))]) (fun z=>GoodS w n ⟨a,k⟩ p c z) (fun z=>p.kids.length-z.1) (0,zaP ⟨a,k⟩ p,c+1) ⟨by simp,by simp,by dsimp only;omega,by dsimp only;omega,by dsimp only;omega,by dsimp only;omega,hnr⟩ ⟨⟨_,rfl,xaq ?_⟩,⟨⟨_,rfl,LeA.glg ?_⟩,trivial⟩⟩ ⟨?_,⟨zab ?_,trivial⟩⟩ (fun x=>rfl) (fun z hg1=>?_);iterate 2 focus (first|rfl|(simp_all[zaP];done))
   focus (first|rfl|(simp[getH];done))
   focus (first|rfl|(simp_all[zaP];done))
   obtain⟨s1,_,s3,s4,s5,s6,s7⟩:=id hg1;refine evc [14,108] [2,8,17] ?_;refine sq ?_ ?_<;>intro h13 h13p h13s<;>(try simp only[Q,Pat.cs_len] at h13p);refine xaU sl34 .none rfl rfl rfl rfl (zar (by omega)) rfl ?_;refine evs [14,108] [] ?_;refine ab 3016 tz36 ?_;refine evs [14,108] [] ?_;refine so ty36 ?_;refine tv ?_;refine xaU zaN .none rfl rfl rfl rfl (zaq (by omega)) rfl ?_;refine evd [14,108] [] ?_;refine ar ?_;refine wd zqF (zee hw n (a:=(nth (zac w ⟨a,k⟩ p) z.1).data) (k:=(nth (zac w ⟨a,k⟩ p) z.1).index) (c:=z.2.2) (p:=nth p.kids z.1) (by omega) (by omega) (hin _ (zae (by omega))) (Pats.ok_mem hok.2 _ (zae (by omega))) (by omega) (by omega)) rfl rfl ⟨rfl,trivial⟩ ?_;refine evd [14,108] [] ?_;refine dr ?_;refine sq ?_ ?_<;>intro h14 h14p h14s<;>(try simp only[Q,Pat.cs_len] at h14p);refine rn [(950,some (.box [.d (.i (finV (zbm (zaQ w n) (decide (p.op=5)) (zac w ⟨a,k⟩ p) p.kids 0 (zaP ⟨a,k⟩ p) (c+1))).2)]))] (r2 rfl rfl) (.tup (.cons (.nild ?_) (.cons (.eqd ?_) .nil))) ⟨rfl,rfl⟩ (SubO.get ⟨.inr ?_,⟨.inl rfl,trivial⟩⟩) (zay rfl);rotate_left 3;refine xal ?_;refine xaB 7 [(93,.d (.bool (decide (p.op=5/\z.1=1))))] [87,88,89,90,91,92] ?_ ?_;refine evs [14,108] [] ?_;refine sq ?_ ?_<;>intro h15 h15p h15s<;>(try simp only[Q,Pat.cs_len] at h15p);exact jnb rfl;exact jnb rfl;refine xaA ?_;refine evs [14,108] [] ?_;refine sq ?_ ?_<;>intro h16 h16p h16s<;>(try simp only[Q,Pat.cs_len] at h16p);refine Walk.call (cr:=[]) zub (zhN (by omega) (by have hz:=(zgi w n ⟨(nth (zac w ⟨a,k⟩ p) z.1).data,(nth (zac w ⟨a,k⟩ p) z.1).index⟩ (nth p.kids z.1) z.2.2).2;omega)) rfl .none rfl rfl (.cons (.gl _ _) (.cons (.refl _) .nil)) trivial rfl rfl rfl ?_;refine evs [14,108] [] ?_;refine sq ?_ ?_<;>intro h17 h17p h17s<;>(try simp only[Q,Pat.cs_len] at h17p);refine rn [(950,some (.box [.d (.i (finV (zbm (zaQ w n) (decide (p.op=5)) (zac w ⟨a,k⟩ p) p.kids 0 (zaP ⟨a,k⟩ p) (c+1))).2)]))] (r2 rfl rfl) (.tup (.cons (.nild ?_) (.cons (.eqd ?_) .nil))) ⟨rfl,rfl⟩ (SubO.get ⟨.inr ?_,⟨.inl rfl,trivial⟩⟩) (zay rfl);rotate_left 3;refine ar ?_;refine xah ((zcF w n ⟨a,k⟩ p z)) ⟨(hg1.next hl (by omega) (by simp_all) (fun ho=>by simp_all)),(by unfold zcF;dsimp only;omega),sx ⟨⟨_,rfl,xaq ?_⟩,⟨⟨_,rfl,LeA.glg ?_⟩,trivial⟩⟩ ⟨?_,⟨zab ?_,trivial⟩⟩⟩;iterate 2 focus (first|rfl|(simp_all[zaP];done)|(unfold zcF;dsimp only;rw[if_pos (by simp_all)];done))
   focus (first|rfl|(simp[getH];done))
   focus (first|rfl|(simp_all[zaP];done)|(unfold zcF;dsimp only;rw[if_pos (by simp_all)];done))
   refine ap zdf zqk rfl rfl rfl (by simp) (by first|(simp;done)|(have hz:=(zgi w n ⟨(nth (zac w ⟨a,k⟩ p) z.1).data,(nth (zac w ⟨a,k⟩ p) z.1).index⟩ (nth p.kids z.1) z.2.2).2;simp;omega)) ?_;refine asg ?_;refine tv ?_;refine ar ?_;refine xah ((zcF w n ⟨a,k⟩ p z)) ⟨(hg1.next hl (by omega) (by simp_all) (fun ho=>by simp_all)),(by unfold zcF;dsimp only;omega),sx ⟨⟨_,rfl,xaq ?_⟩,⟨⟨_,rfl,LeA.glg ?_⟩,trivial⟩⟩ ⟨?_,⟨zab ?_,trivial⟩⟩⟩;iterate 2 focus (first|rfl|(simp_all[zaP];done)|(unfold zcF;dsimp only;rw[if_neg (by simp_all)];simp;done))
   focus (first|rfl|(simp[getH];done))
   focus (first|rfl|(simp_all[zaP];done)|(unfold zcF;dsimp only;rw[if_neg (by simp_all)];simp;done))
   refine ab 3019 zwr ?_;refine tv ?_;refine xak (ι:=List (Vt)×List (Vt)) hk (fun x=>[(101,.d (.i (x.1.length:Int)))]) [10,11,21,102,103,104,105,106,107,108,109,110,111,112] (fun x=>[(3019,some (.box (metA (x.1.map Vt.var))))]) (fun x=>x.1++x.2=z.2.1/\(x.1.map Vt.var).Nodup) (fun x=>x.2.length) ([],z.2.1) ⟨by simp,by simp⟩ ⟨⟨_,rfl,xaq ?_⟩,trivial⟩ ⟨?_,trivial⟩ (fun x=>rfl) (fun x hg2=>?_);focus (first|rfl|omega)
   focus (first|rfl|(simp[getH];done))
   obtain⟨pre,rest⟩:=x;dsimp only at hg2 ⊢;refine evc [14,108] [2,8,17] ?_;refine sq ?_ ?_<;>intro h18 h18p h18s<;>(try simp only[Q,Pat.cs_len] at h18p);rcases rest with _|⟨y,rest⟩
   ·exfalso;simp_all
   have hy:=s7 y (by rw[<-hg2.1];simp);refine xaX zdf .none rfl rfl rfl rfl (zaG hg2.1) rfl ?_;refine evs [14,108] [] ?_;refine ab 3021 zqg ?_;refine so zwq ?_;refine tv ?_;refine xaV (i:=y.var.toNat) zp4 .none rfl rfl rfl (Int.toNat_of_nonneg hy.1).symm (by omega) ?_;refine xa0 ty4 .none rfl rfl rfl ((by simpa using zri hy.1 hy.2)) ?_;refine tv ?_;refine sq ?_ ?_<;>intro h19 h19p h19s<;>(try simp only[Q,Pat.cs_len] at h19p);refine rn [(950,some (.box [.d (.i (finV (zbm (zaQ w n) (decide (p.op=5)) (zac w ⟨a,k⟩ p) p.kids 0 (zaP ⟨a,k⟩ p) (c+1))).2)]))] (r2 rfl rfl) (.tup (.cons (.nild ?_) (.cons (.eqd ?_) .nil))) ⟨rfl,rfl⟩ (SubO.get ⟨.inr ?_,⟨.inl rfl,trivial⟩⟩) (zay rfl);rotate_left 3;refine xaV (i:=y.var.toNat) zp4 .none rfl rfl rfl (Int.toNat_of_nonneg hy.1).symm (by omega) ?_;refine Walk.store ty4 .none rfl rfl rfl rfl rfl rfl (by simp) ((by simpa using zrj hy.1 hy.2)) ?_;refine tv ?_;refine ar ?_;refine xah ((pre++[y],rest)) ⟨⟨(by have hz:=hg2.1;rw[<-hz];simp),(znu hg2.2 (by simp_all))⟩,(by simp),sx ⟨⟨_,rfl,xaq ?_⟩,trivial⟩ ⟨?_,trivial⟩⟩;focus (first|rfl|(simp;done)|omega)
   focus (first|rfl|(simp[getH];done))
   have hrest:rest=[]:=by
    rcases rest with _|⟨a,b⟩
    ·rfl
    ·exfalso;have hz:=congrArg List.length (hg2.1);simp only[xaa,xab,xac] at hz;omega
   subst hrest;refine rn [(950,some (.box [.d (.i (finV (zbm (zaQ w n) (decide (p.op=5)) (zac w ⟨a,k⟩ p) p.kids 0 (zaP ⟨a,k⟩ p) (c+1))).2)]))] (r2 rfl rfl) (.tup (.cons (.gld ?_) (.cons (.eqd ?_) .nil))) ⟨rfl,rfl⟩ (SubO.get ⟨.inr ?_,⟨.inl rfl,trivial⟩⟩) (zay rfl);rotate_left 3;all_goals (((first|(rw[hg1.none hl (by omega) (by assumption)];first|done|rfl)|(rw[hg1.bad hl (by omega) (by assumption) (by assumption) (by assumption)];first|done|rfl)|(rw[hg1.fin hl (by omega),if_neg (by rw[zuD hg2.1 (by assumption)];simp)];first|done|rfl)|(rw[hg1.fin hl (by omega),if_pos (by have hz:=hg2.1;rw[List.append_nil] at hz;rw[<-hz];exact decide_eq_true hg2.2)];first|done|rfl));done))
  ·have hopf:okP w ⟨a,k⟩ p=false:=by simpa using hop
   have e:zaQ w (n+1) ⟨a,k⟩ p c=(none,c+1):=by unfold zaQ;rw[if_neg h60,if_neg hop]
   rw[e];rw[hopf] at hsh;refine bd Tryz.f293 114 [] [2] fun w0 F0 own kept hk=>?_;refine bx 3006 ?_;refine bx 3007 ?_;refine ev ?_;refine ar ?_;refine so ty3 ?_;refine tv ?_;refine xal ?_;refine xaB 8 [(34,.d (.bool (false)))] [27,28,29,30,31,32,33] ?_ ?_;refine ev ?_;refine sq ?_ ?_<;>intro h1 h1p h1s;exact jnb rfl;exact jnb rfl;refine xaA ?_;refine tv ?_;refine sq ?_ ?_<;>intro h2 h2p h2s;exact absurd h2 (by simp);refine wc zqA (hsh) rfl rfl ?_;refine ev ?_;refine sq ?_ ?_<;>intro h3 h3p h3s;refine rn [(950,some (.box [.d (.i (c+1))]))] (r2 rfl rfl) (.tup (.cons (.nild ?_) (.cons (.eqd ?_) .nil))) ⟨rfl,rfl⟩ (SubO.get ⟨.inr ?_,⟨.inl rfl,trivial⟩⟩) (zay rfl);rotate_left 3;exact absurd h3 (by simp);all_goals (first|((rfl);done)|(rfl))
end Go.Proofs.YtlfipehhbdjnjaaGreat
namespace Go.Proofs.YtlfipehhbdjnjaaGreat
open Go
set_option linter.unusedSimpArgs false
set_option linter.unusedVariables false
set_option maxRecDepth 100000
set_option maxHeartbeats 2000000
abbrev dPtr (f:Nat->Nat):D:= .ptr (tabD 16 f) 0
abbrev sPtr (w:List Data) (f:Nat->Nat):D:= .ptr [zah w,dPtr f] 0
theorem zlL {n:Nat}{f:Nat->Nat}{a k:Int} (h:InS n ⟨a,k⟩) (hn:n<=16):
  FnD Tryz.prog 140 [.ref 71 0,.agg [.d (.i a),.d (.i k)]] [(71,some (.box (tabC 16 f)))] (.d (.i (dv f ⟨a,k⟩))) []:=by
 have hs:=h.facts;refine bd Tryz.f140 17 [16] [] fun w0 F0 own kept hk=>?_;refine Walk.box (id:=3003) .none rfl rfl rfl (by first|rfl|(simp only[zaz,occH,occE,Res.ids,xag,List.nil_append,AV.idsL,AV.ids,zaj,zak,zas,zaO,xae,List.map_nil,upC,zaF];rfl)) (by first|rfl|(simp only[zaz,occH,occE,Res.ids,xag,List.nil_append,AV.idsL,AV.ids,zaj,zak,zas,zaO,xae,List.map_nil,upC,zaF];rfl)) (by first|rfl|(simp only[zaz,occH,occE,Res.ids,xag,List.nil_append,AV.idsL,AV.ids,zaj,zak,zas,zaO,xae,List.map_nil,upC,zaF];rfl)) (by first|rfl|(simp only[zaz,occH,occE,Res.ids,xag,List.nil_append,AV.idsL,AV.ids,zaj,zak,zas,zaO,xae,List.map_nil,upC,zaF];rfl)) ?_;refine evs [16] [] ?_;refine sq ?_ ?_<;>intro h1 h1p h1s<;>(try simp only[Q] at h1p);refine rn [] (r1 rfl) (.eqd ?_) ⟨rfl,rfl⟩ (SubH.get ⟨rfl,trivial⟩) (fun _ h=>h);rotate_left;refine xaV (i:=a.toNat) zp3 .none rfl rfl rfl (by have:=hs h1p;omega) (by have:=hs h1p;omega) ?_;refine xaV (i:=k.toNat) zsZ .none rfl rfl rfl (by have:=hs h1p;omega) (by have:=hs h1p;omega) ?_;refine xa0 ty3 .none rfl rfl rfl ((zly (s:=zcG ⟨a,k⟩) (by have:=hs h1p;omega) (by have:=hs h1p;omega))) ?_;refine evd [16] [] ?_;refine dr ?_;refine rn [] (r1 rfl) (.eqd ?_) ⟨rfl,rfl⟩ (SubH.get ⟨rfl,trivial⟩) (fun _ h=>h);rotate_left;all_goals (first|(rw[zm1 (by assumption)];rfl)|(rw[zm0 (by assumption)]))
theorem zeO {n:Nat}{f:Nat->Nat}{a k:Int} (h:InS n ⟨a,k⟩) (hn:n<=16):
  FnD Tryz.prog 140 [.d (dPtr f),.agg [.d (.i a),.d (.i k)]] [] (.d (.i (dv f ⟨a,k⟩))) []:=by
 have hs:=h.facts;refine bd Tryz.f140 17 [16] [] fun w0 F0 own kept hk=>?_;refine bx 3003 ?_;refine evs [16] [] ?_;refine sq ?_ ?_<;>intro h1 h1p h1s<;>(try simp only[Q] at h1p);refine rq ?_;rotate_left;refine xaW (i:=a.toNat) zp3 .none rfl rfl rfl (by have:=hs h1p;omega) (by have:=hs h1p;omega) ?_;refine xaW (i:=k.toNat) zsZ .none rfl rfl rfl (by have:=hs h1p;omega) (by have:=hs h1p;omega) ?_;refine xa2 ty3 .none rfl rfl (zvR (s:=zcG ⟨a,k⟩) (by have:=hs h1p;omega) (by have:=hs h1p;omega)) ?_;refine evd [16] [] ?_;refine dr ?_;refine rq ?_;rotate_left;all_goals (first|(rw[zm1 (by assumption)];rfl)|(rw[zm0 (by assumption)]))
theorem znc {w:List Data} (hw:WT w){n:Nat}{f:Nat->Nat}{a k c:Int} (ht:TyIn w.length ⟨a,k⟩) (hc:c∈zal w ⟨a,k⟩) (hn:n<=16) (hb:∀s,f s<=100000) (hin:∀u∈zaa w ⟨a,k⟩ c,InS n u):
  FnD Tryz.prog 235 [.ref 71 0,.d (zah w),.agg [.d (.i a),.d (.i k)],.d (.i c)] [(71,some (.box (tabC 16 f)))] (.d (.i (most w f ⟨a,k⟩ c))) []:=by
 have hl:=zfw hw ht hc;have hd:=zmZ hb (by omega);refine bd Tryz.f235 33 [] [] fun w0 F0 own kept hk=>?_;refine Walk.box (id:=3006) .none rfl rfl rfl (by first|rfl|(simp only[zaz,occH,occE,Res.ids,xag,List.nil_append,AV.idsL,AV.ids,zaj,zak,zas,zaO,xae,List.map_nil,upC,zaF];rfl)) (by first|rfl|(simp only[zaz,occH,occE,Res.ids,xag,List.nil_append,AV.idsL,AV.ids,zaj,zak,zas,zaO,xae,List.map_nil,upC,zaF];rfl)) (by first|rfl|(simp only[zaz,occH,occE,Res.ids,xag,List.nil_append,AV.idsL,AV.ids,zaj,zak,zas,zaO,xae,List.map_nil,upC,zaF];rfl)) (by first|rfl|(simp only[zaz,occH,occE,Res.ids,xag,List.nil_append,AV.idsL,AV.ids,zaj,zak,zas,zaO,xae,List.map_nil,upC,zaF];rfl)) ?_;refine ev ?_;refine Walk.call (cr:=[]) zen (zbN hw ht hc) rfl .none rfl rfl (LeL.refl _) trivial rfl (by first|rfl|(simp only[za6,List.all_cons,List.all_nil,zcl,zb0,AV.idsL,AV.ids,zaj,zak,xae,List.map_nil,zaF];rfl)) (by first|rfl|(simp only[zaz,occH,occE,Res.ids,xag,List.nil_append,AV.idsL,AV.ids,zaj,zak,zas,zaO,xae,List.map_nil,upC,zaF];rfl)) ?_;refine ev ?_;refine xak (ι:=List (Ty)×List (Ty)×(Nat)) hk (fun x=>[(18,.d (.i (x.1.length:Int))),(9,.d (.i (x.2.2:Int)))]) [8,11,12,19,20,21,22,23,24,25,26,27,28,29,30] (fun x=>[]) (fun x=>x.1++x.2.1=zaa w ⟨a,k⟩ c/\x.2.2<=100000/\zbl f x.2.2 x.2.1=zbl f 0 (zaa w ⟨a,k⟩ c)) (fun x=>x.2.1.length) ([],zaa w ⟨a,k⟩ c,0) ⟨by simp,by simp,rfl⟩ ⟨⟨_,rfl,xaq ?_⟩,⟨⟨_,rfl,xaq ?_⟩,trivial⟩⟩ trivial (fun x=>rfl) (fun x hg1=>?_);iterate 2 focus (first|rfl|(simp;done))
 obtain⟨pre,rest,m⟩:=x;dsimp only at hg1 ⊢;refine evc [] [] ?_;refine sq ?_ ?_<;>intro h1 h1p h1s<;>(try simp only[Q] at h1p);rcases rest with _|⟨y,rest⟩
 ·exfalso;simp_all
 have hdy:=hd y;have hye:dv f ⟨y.data,y.index⟩=dv f y:=rfl;refine xaU zaN .none rfl rfl rfl rfl (zaG hg1.1) rfl ?_;refine ev ?_;refine Walk.alloc (id:=3011) tz25 rfl .none rfl (by first|rfl|(simp only[zaz,occH,occE,Res.ids,xag,List.nil_append,AV.idsL,AV.ids,zaj,zak,zas,zaO,xae,List.map_nil,upC,zaF];rfl)) (by first|rfl|(simp only[zaz,occH,occE,Res.ids,xag,List.nil_append,AV.idsL,AV.ids,zaj,zak,zas,zaO,xae,List.map_nil,upC,zaF];rfl)) (by first|rfl|(simp only[zaz,occH,occE,Res.ids,xag,List.nil_append,AV.idsL,AV.ids,zaj,zak,zas,zaO,xae,List.map_nil,upC,zaF];rfl)) ?_;refine so ty25 ?_;refine tv ?_;refine Walk.call (cr:=[]) zfx (zlL (f:=f) (a:=y.data) (k:=y.index) (hin y (by rw[<-hg1.1];simp)) hn) rfl .none rfl rfl (LeL.refl _) ⟨rfl,trivial⟩ rfl (by first|rfl|(simp only[za6,List.all_cons,List.all_nil,zcl,zb0,AV.idsL,AV.ids,zaj,zak,xae,List.map_nil,zaF];rfl)) (by first|rfl|(simp only[zaz,occH,occE,Res.ids,xag,List.nil_append,AV.idsL,AV.ids,zaj,zak,zas,zaO,xae,List.map_nil,upC,zaF];rfl)) ?_;refine ev ?_;refine sq ?_ ?_<;>intro h2 h2p h2s<;>(try simp only[Q] at h2p);refine rn [] (r1 rfl) (.eqd ?_) ⟨rfl,rfl⟩ (SubH.get ⟨rfl,trivial⟩) (fun _ h=>h);rotate_left;refine xa3 .none rfl rfl rfl ?_;refine ev ?_;refine ar ?_;refine xah ((pre++[y],rest,max m (dv f y))) ⟨⟨(by have hz:=hg1.1;rw[<-hz];simp),⟨(by have:=hd y;dsimp only;omega),(by rw[<-hg1.2.2];simp only[zbl];rw[if_neg (by have:=hd y;omega)])⟩⟩,(by simp),sx ⟨⟨_,rfl,xaq ?_⟩,⟨⟨_,rfl,xaq ?_⟩,trivial⟩⟩ trivial⟩;iterate 2 focus (first|rfl|(simp;done)|(dsimp only;omega))
 have hrest:rest=[]:=by
  rcases rest with _|⟨a,b⟩
  ·rfl
  ·exfalso;have hz:=congrArg List.length (hg1.1);simp only[xaa,xab,xac] at hz;omega
 subst hrest;refine ar ?_;refine rn [] (r1 rfl) (.eqd ?_) ⟨rfl,rfl⟩ (SubH.get ⟨rfl,trivial⟩) (fun _ h=>h);rotate_left;all_goals (refine congrArg D.i ?_;unfold most;rw[<-hg1.2.2];first|(simp only[zbl];rw[if_pos (by omega)];rfl)|(simp only[zbl];omega))
theorem zh1 {i j:Nat} (h:j<4):tyS (i*4+j)=⟨(i:Int),(j:Int)⟩:=by
 unfold tyS;rw[show(i*4+j) / 4=i by omega,show(i*4+j) % 4=j by omega]
theorem zsp {w:List Data}{k s:Nat}{pre:List Int}:Bet (zbf w k) (rowT w k s pre):=(zpE _ _).trans (zoG _ _)
theorem zlb {w:List Data}{g f:Nat->Nat}{s:Nat}{c:Int} (hB:Bet g f)
  (h:decide ((0:Int)<(most w f (tyS s) c:Int)/\((f s:Int)=0\/(most w f (tyS s) c:Int)<(f s:Int)))=true):Strict g (zbO w s f c):=by
 rw[zeB h];rw[decide_eq_true_eq] at h;refine⟨s,by unfold updF;rw[if_pos rfl];omega, ?_⟩;unfold updF;rw[if_pos rfl];rcases Nat.eq_zero_or_pos (g s) with h0|h0
 ·exact .inl h0
 ·have:=hB s h0;right;omega
theorem zm8 {w:List Data} (hw:WT w){i j:Nat} (hi:i<w.length) (hj:j<4):FnD Tryz.prog 234 [.d (zah w),.agg [.d (.i (i:Int)),.d (.i (j:Int))]] [] (.d (zcy (zaV w (tyS (i*4+j))))) []:=by
 rw[<-zjU,zh1 hj];exact zdM hw (.inr ⟨i,rfl,hi⟩)
theorem znd {w:List Data}{f:Nat->Nat}{i j:Nat} (hi:i<w.length) (h4:w.length<=4) (hj:j<4):
  FnD Tryz.prog 140 [.ref 71 0,.agg [.d (.i (i:Int)),.d (.i (j:Int))]] [(71,some (.box (tabC 16 f)))] (.d (.i (f (i*4+j)))) []:=by
 have h:=zlL (n:=w.length*4) (f:=f) (a:=(i:Int)) (k:=(j:Int)) (.inr ⟨by simp only[zcG,Int.toNat_natCast];omega,by simp only[zcG,Int.toNat_natCast];exact zh1 hj⟩) (by omega);have e:zcG ⟨(i:Int),(j:Int)⟩=i*4+j:=by simp only[zcG,Int.toNat_natCast]
 rwa [zm0 (by omega),e] at h
theorem zov {w:List Data} (hd:Dp w){f:Nat->Nat}{i j:Nat}{c:Int} (hi:i<w.length) (hj:j<4) (hc:c∈zaV w (tyS (i*4+j))) (hb:∀s,f s<=100000):
  FnD Tryz.prog 235 [.ref 71 0,.d (zah w),.agg [.d (.i (i:Int)),.d (.i (j:Int))],.d (.i c)] [(71,some (.box (tabC 16 f)))] (.d (.i (most w f (tyS (i*4+j)) c))) []:=by
 have h4:=hd.four;have hcl:=hd.cl (i*4+j) (by omega) c hc;rw[<-zjU,zh1 hj] at hc;rw[zh1 hj] at hcl ⊢;exact znc hd.wt (.inr ⟨i,rfl,hi⟩) hc (n:=w.length*4) (by omega) hb hcl
theorem zl9 {w:List Data} (hd:Dp w):FnD Tryz.prog 139 [.d (zah w)] [] (.d (dPtr (zaf w))) []:=by
 have hw:=hd.wt;have hw4:=hd.four;have hlw:((w.map Data.c).length:Int)=w.length:=by simp
 refine bd Tryz.f139 64 [] [16,20] fun w0 F0 own kept hk=>?_;refine Walk.buildZ zyR zp3 .none rfl ?_;refine Walk.box (id:=71) .none rfl rfl rfl (by first|rfl|(simp only[zaz,occH,occE,Res.ids,xag,List.nil_append,AV.idsL,AV.ids,zaj,zak,zas,zaO,xae,List.map_nil,upC,zaF];rfl)) (by first|rfl|(simp only[zaz,occH,occE,Res.ids,xag,List.nil_append,AV.idsL,AV.ids,zaj,zak,zas,zaO,xae,List.map_nil,upC,zaF];rfl)) (by first|rfl|(simp only[zaz,occH,occE,Res.ids,xag,List.nil_append,AV.idsL,AV.ids,zaj,zak,zas,zaO,xae,List.map_nil,upC,zaF];rfl)) (by first|rfl|(simp only[zaz,occH,occE,Res.ids,xag,List.nil_append,AV.idsL,AV.ids,zaj,zak,zas,zaO,xae,List.map_nil,upC,zaF];rfl)) ?_;refine ev ?_;refine xak (ι:=Nat×Bool) hk (fun o=>[(4,.d (.bool o.2))]) [5,6,7,9,10,13,14,15,16,17,18,19,20,21,22,23,24,25,26,27,28,29,30,31,32,33,34,35,36,37,38,39,40,41,42,43,44,45,46,47,48,49,50,51,52,53,54,55,56,57,58,59,60,61,62] (fun o=>[(71,some (.box (tabC 16 (zbf w o.1))))]) (fun o=>(o.2=false->zbf w o.1=zaf w)/\(o.2=true->o.1<=w.length*4+1)) (fun o=>if o.2 then w.length*4+2-o.1 else 0) (0,true) ⟨by simp,by simp⟩ ⟨⟨_,rfl,xap ?_⟩,trivial⟩ ⟨?_,trivial⟩ (fun x=>rfl) (fun o hg1=>?_);focus (first|rfl|(simp;done))
 focus (first|rfl|(have e:y.1=w.length:=(by omega);rw[e];rfl))
 refine evc [] [16,20] ?_;refine sq ?_ ?_<;>intro h1 h1p h1s<;>(try simp only[Q] at h1p);refine xak (ι:=Nat×Bool) hk (fun y=>[(16,.d (.i (y.1:Int))),(4,.d (.bool y.2))]) [5,6,7,9,10,17,18,19,20,21,22,23,24,25,26,27,28,29,30,31,32,33,34,35,36,37,38,39,40,41,42,43,44,45,46,47,48,49,50,51,52,53,54,55,56,57,58,59,60,61,62] (fun y=>[(71,some (.box (tabC 16 (midT w o.1 (y.1*4)))))]) (fun y=>y.1<=w.length/\(y.2=false->midT w o.1 (y.1*4)=zbf w o.1)/\(y.2=true->Strict (zbf w o.1) (midT w o.1 (y.1*4)))) (fun y=>w.length-y.1) (0,false) ⟨by simp,fun _=>rfl,by simp⟩ ⟨⟨_,rfl,xaq ?_⟩,⟨⟨_,rfl,xap ?_⟩,trivial⟩⟩ ⟨?_,trivial⟩ (fun x=>rfl) (fun y hg2=>?_);iterate 2 focus (first|rfl|(simp;done))
 focus (first|rfl|(have e:z.1=4:=(by omega);rw[e,<-Nat.succ_mul];rfl))
 have ho:=hg1.2 h1s;refine evc [] [16,20] ?_;refine sq ?_ ?_<;>intro h2 h2p h2s<;>(try simp only[Q] at h2p);refine xak (ι:=Nat×Bool) hk (fun z=>[(6,.d (.i (z.1:Int))),(4,.d (.bool z.2))]) [7,9,10,19,20,21,22,23,24,25,26,27,28,29,30,31,32,33,34,35,36,37,38,39,40,41,42,43,44,45,46,47,48,49,50,51,52,53,54,55,56,57,58,59,60,61] (fun z=>[(71,some (.box (tabC 16 (midT w o.1 (y.1*4+z.1)))))]) (fun z=>z.1<=4/\(z.2=false->midT w o.1 (y.1*4+z.1)=zbf w o.1)/\(z.2=true->Strict (zbf w o.1) (midT w o.1 (y.1*4+z.1)))) (fun z=>4-z.1) (0,y.2) ⟨by simp,hg2.2⟩ ⟨⟨_,rfl,xaq ?_⟩,⟨⟨_,rfl,xap ?_⟩,trivial⟩⟩ ⟨?_,trivial⟩ (fun x=>rfl) (fun z hg3=>?_);iterate 2 focus (first|rfl|(simp;done))
 focus (first|rfl|(show some (Res.box _)=some (Res.box _);rw[<-hg4.1,List.append_nil] at *;done))
 refine evc [] [16,20] ?_;refine sq ?_ ?_<;>intro h3 h3p h3s<;>(try simp only[Q] at h3p);refine bu [0,1] [_,_] st25 ?_;refine Walk.alloc (id:=3007) tz25 rfl .none rfl (by first|rfl|(simp only[zaz,occH,occE,Res.ids,xag,List.nil_append,AV.idsL,AV.ids,zaj,zak,zas,zaO,xae,List.map_nil,upC,zaF];rfl)) (by first|rfl|(simp only[zaz,occH,occE,Res.ids,xag,List.nil_append,AV.idsL,AV.ids,zaj,zak,zas,zaO,xae,List.map_nil,upC,zaF];rfl)) (by first|rfl|(simp only[zaz,occH,occE,Res.ids,xag,List.nil_append,AV.idsL,AV.ids,zaj,zak,zas,zaO,xae,List.map_nil,upC,zaF];rfl)) ?_;refine so ty25 ?_;refine tv ?_;refine Walk.call (cr:=[]) zgA (zm8 hw (i:=y.1) (j:=z.1) (by omega) (by omega)) rfl .none rfl rfl (LeL.refl _) trivial rfl (by first|rfl|(simp only[za6,List.all_cons,List.all_nil,zcl,zb0,AV.idsL,AV.ids,zaj,zak,xae,List.map_nil,zaF];rfl)) (by first|rfl|(simp only[zaz,occH,occE,Res.ids,xag,List.nil_append,AV.idsL,AV.ids,zaj,zak,zas,zaO,xae,List.map_nil,upC,zaF];rfl)) ?_;refine ev ?_;refine xak (ι:=List (Int)×List (Int)×(Bool)) hk (fun x=>[(30,.d (.i (x.1.length:Int))),(4,.d (.bool x.2.2))]) [9,10,31,32,33,34,35,36,37,38,39,40,41,42,43,44,45,46,47,48,49,50,51,52,53,54,55,56,57,58,59,60,61] (fun x=>[(71,some (.box (tabC 16 (rowT w o.1 (y.1*4+z.1) x.1))))]) (fun x=>x.1++x.2.1=zaV w (tyS (y.1*4+z.1))/\(x.2.2=false->rowT w o.1 (y.1*4+z.1) x.1=zbf w o.1)/\(x.2.2=true->Strict (zbf w o.1) (rowT w o.1 (y.1*4+z.1) x.1))) (fun x=>x.2.1.length) ([],zaV w (tyS (y.1*4+z.1)),z.2) ⟨by simp,hg3.2⟩ ⟨⟨_,rfl,xaq ?_⟩,⟨⟨_,rfl,xap ?_⟩,trivial⟩⟩ ⟨?_,trivial⟩ (fun x=>rfl) (fun x hg4=>?_);iterate 2 focus (first|rfl|(simp;done))
 focus (first|rfl|(show some (Res.box _)=some (Res.box _);rw[zdT];first|(rw[zeB (by assumption)];done)|(rw[zdS (by assumption)];done)))
 obtain⟨pre,rest,b⟩:=x;dsimp only at hg4 ⊢;have hct:=hd.ct (y.1*4+z.1) (by omega);refine evc [] [16,20] ?_;refine sq ?_ ?_<;>intro h4 h4p h4s<;>(try simp only[Q] at h4p);rcases rest with _|⟨c,rest⟩
 ·exfalso;simp_all
 refine xaU sl29 .none rfl rfl rfl rfl (zaG hg4.1) rfl ?_;refine ev ?_;refine Walk.call (cr:=[]) ztV (zov hd (f:=rowT w o.1 (y.1*4+z.1) pre) (i:=y.1) (j:=z.1) (c:=c) (by omega) (by omega) (by rw[<-hg4.1];simp) (zlt hd (by omega) (by omega) (by have hz:=congrArg List.length hg4.1;simp at hz;omega))) rfl .none rfl rfl (LeL.refl _) ⟨rfl,trivial⟩ rfl (by first|rfl|(simp only[za6,List.all_cons,List.all_nil,zcl,zb0,AV.idsL,AV.ids,zaj,zak,xae,List.map_nil,zaF];rfl)) (by first|rfl|(simp only[zaz,occH,occE,Res.ids,xag,List.nil_append,AV.idsL,AV.ids,zaj,zak,zas,zaO,xae,List.map_nil,upC,zaF];rfl)) ?_;refine ev ?_;refine xal ?_;refine xaB 15 [(53,.d (.bool (decide ((0:Int)<(most w (rowT w o.1 (y.1*4+z.1) pre) (tyS (y.1*4+z.1)) c:Int)/\((rowT w o.1 (y.1*4+z.1) pre (y.1*4+z.1):Int)=0\/(most w (rowT w o.1 (y.1*4+z.1) pre) (tyS (y.1*4+z.1)) c:Int)<(rowT w o.1 (y.1*4+z.1) pre (y.1*4+z.1):Int))))))] [39,40,41,42,43,44,45,46,47,48,49,50,51,52] ?_ ?_;refine ev ?_;refine sq ?_ ?_<;>intro h5 h5p h5s<;>(try simp only[Q] at h5p);refine Walk.call (cr:=[]) zfx (znd (w:=w) (f:=rowT w o.1 (y.1*4+z.1) pre) (i:=y.1) (j:=z.1) (by omega) hw4 (by omega)) rfl (.some rfl rfl h5) rfl rfl (LeL.refl _) ⟨rfl,trivial⟩ rfl (by first|rfl|(simp only[za6,List.all_cons,List.all_nil,zcl,zb0,AV.idsL,AV.ids,zaj,zak,xae,List.map_nil,zaF];rfl)) (by first|rfl|(simp only[zaz,occH,occE,Res.ids,xag,List.nil_append,AV.idsL,AV.ids,zaj,zak,zas,zaO,xae,List.map_nil,upC,zaF];rfl)) ?_;refine evs [] [(41,true)] ?_ ⟨⟨_,rfl,h5⟩,trivial⟩;refine sq ?_ ?_<;>intro h6 h6p h6s<;>(try simp only[Q] at h6p);exact jnb rfl;refine Walk.call (cr:=[]) zfx (znd (w:=w) (f:=rowT w o.1 (y.1*4+z.1) pre) (i:=y.1) (j:=z.1) (by omega) hw4 (by omega)) rfl (.some rfl rfl h6) rfl rfl (LeL.refl _) ⟨rfl,trivial⟩ rfl (by first|rfl|(simp only[za6,List.all_cons,List.all_nil,zcl,zb0,AV.idsL,AV.ids,zaj,zak,xae,List.map_nil,zaF];rfl)) (by first|rfl|(simp only[zaz,occH,occE,Res.ids,xag,List.nil_append,AV.idsL,AV.ids,zaj,zak,zas,zaO,xae,List.map_nil,upC,zaF];rfl)) ?_;refine evs [] [(41,true),(46,false)] ?_ ⟨⟨_,rfl,h5⟩,⟨_,rfl,h6⟩,trivial⟩;exact jnb rfl;exact jnb rfl;refine xaA ?_;refine tv ?_;refine sq ?_ ?_<;>intro h7 h7p h7s<;>(try simp only[Q] at h7p);refine xaV (i:=y.1) zp3 .none rfl rfl rfl rfl (by omega) ?_;refine xaV (i:=z.1) zsZ .none rfl rfl rfl rfl (by omega) ?_;refine Walk.store ty3 .none rfl rfl rfl rfl rfl rfl (by simp) ((zsW (s:=y.1*4+z.1) (v:=most w (rowT w o.1 (y.1*4+z.1) pre) (tyS (y.1*4+z.1)) c) (by omega) (by omega) rfl)) ?_;refine ev ?_;refine ar ?_;refine xah ((pre++[c],rest,(decide ((0:Int)<(most w (rowT w o.1 (y.1*4+z.1) pre) (tyS (y.1*4+z.1)) c:Int)/\((rowT w o.1 (y.1*4+z.1) pre (y.1*4+z.1):Int)=0\/(most w (rowT w o.1 (y.1*4+z.1) pre) (tyS (y.1*4+z.1)) c:Int)<(rowT w o.1 (y.1*4+z.1) pre (y.1*4+z.1):Int))))||b)) ⟨⟨(by have hz:=hg4.1;rw[<-hz];simp),(by
    dsimp only;rw[zdT];cases hq:decide ((0:Int)<(most w (rowT w o.1 (y.1*4+z.1) pre) (tyS (y.1*4+z.1)) c:Int)/\((rowT w o.1 (y.1*4+z.1) pre (y.1*4+z.1):Int)=0\/(most w (rowT w o.1 (y.1*4+z.1) pre) (tyS (y.1*4+z.1)) c:Int)<(rowT w o.1 (y.1*4+z.1) pre (y.1*4+z.1):Int))) with
    |true=>exact⟨fun h=>by simp at h,fun _=>zlb zsp hq⟩
    |false=>rw[zdS hq];exact hg4.2)⟩,(by simp),sx ⟨⟨_,rfl,xaq ?_⟩,⟨⟨_,rfl,xap ?_⟩,trivial⟩⟩ ⟨?_,trivial⟩⟩
 iterate 2 focus (first|rfl|(simp;done)|(rw[h7];rfl))
 focus (first|rfl|(show some (Res.box _)=some (Res.box _);rw[zdT];first|(rw[zeB (by assumption)];done)|(rw[zdS (by assumption)];done)))
 refine ar ?_;refine xah ((pre++[c],rest,(decide ((0:Int)<(most w (rowT w o.1 (y.1*4+z.1) pre) (tyS (y.1*4+z.1)) c:Int)/\((rowT w o.1 (y.1*4+z.1) pre (y.1*4+z.1):Int)=0\/(most w (rowT w o.1 (y.1*4+z.1) pre) (tyS (y.1*4+z.1)) c:Int)<(rowT w o.1 (y.1*4+z.1) pre (y.1*4+z.1):Int))))||b)) ⟨⟨(by have hz:=hg4.1;rw[<-hz];simp),(by
    dsimp only;rw[zdT];cases hq:decide ((0:Int)<(most w (rowT w o.1 (y.1*4+z.1) pre) (tyS (y.1*4+z.1)) c:Int)/\((rowT w o.1 (y.1*4+z.1) pre (y.1*4+z.1):Int)=0\/(most w (rowT w o.1 (y.1*4+z.1) pre) (tyS (y.1*4+z.1)) c:Int)<(rowT w o.1 (y.1*4+z.1) pre (y.1*4+z.1):Int))) with
    |true=>exact⟨fun h=>by simp at h,fun _=>zlb zsp hq⟩
    |false=>rw[zdS hq];exact hg4.2)⟩,(by simp),sx ⟨⟨_,rfl,xaq ?_⟩,⟨⟨_,rfl,xap ?_⟩,trivial⟩⟩ ⟨?_,trivial⟩⟩
 iterate 2 focus (first|rfl|(simp;done)|(rw[h7];rfl))
 focus (first|rfl|(show some (Res.box _)=some (Res.box _);rw[zdT];first|(rw[zeB (by assumption)];done)|(rw[zdS (by assumption)];done)))
 have hrest:rest=[]:=by
  rcases rest with _|⟨a,b⟩
  ·rfl
  ·exfalso;have hz:=congrArg List.length (hg4.1);simp only[xaa,xab,xac] at hz;omega
 subst hrest;refine ar ?_;refine xah ((z.1+1,b)) ⟨(by
    obtain⟨p1,p2⟩:=hg4;rw[List.append_nil] at p1;rw[p1,zig,Nat.add_assoc] at p2;exact⟨by dsimp only;omega,p2⟩),(by dsimp only;omega),sx ⟨⟨_,rfl,xaq ?_⟩,⟨⟨_,rfl,xap ?_⟩,trivial⟩⟩ ⟨?_,trivial⟩⟩
 iterate 2 focus (first|rfl|(simp;done))
 focus (first|rfl|(show some (Res.box _)=some (Res.box _);rw[<-hg4.1,List.append_nil] at *;done)|(show some (Res.box _)=some (Res.box _);rw[<-Nat.add_assoc,<-zig,<-hg4.1,List.append_nil]))
 refine ar ?_;refine xah ((y.1+1,z.2)) ⟨(by
    have e:z.1=4:=by omega
    obtain⟨_,q1,q2⟩:=hg3;rw[e,<-Nat.succ_mul] at q1 q2;exact⟨by dsimp only;omega,q1,q2⟩),(by dsimp only;omega),sx ⟨⟨_,rfl,xaq ?_⟩,⟨⟨_,rfl,xap ?_⟩,trivial⟩⟩ ⟨?_,trivial⟩⟩
 iterate 2 focus (first|rfl|(simp;done))
 focus (first|rfl|(have e:z.1=4:=(by omega);rw[e,<-Nat.succ_mul];rfl))
 refine xah ((o.1+1,y.2)) ⟨⟨(fun h=>by
    have e:y.1=w.length:=by omega
    have h1:=hg2.2.1 h;rw[e] at h1;have h2:zbf w (o.1+1)=zbf w o.1:=h1;rw[h2];exact zvt hd.cl h2),(fun h=>by
    have e:y.1=w.length:=by omega
    have h1:=hg2.2.2 h;rw[e] at h1;have h3:=hg1.2 h1s;show o.1+1<=w.length*4+1
    rcases Nat.lt_or_ge o.1 (w.length*4+1) with h4|h4
    ·omega
    ·refine absurd ?_ (Strict.ne h1);rw[zlr hd.cl h4];exact(zlr hd.cl (k:=o.1+1) (by omega)).symm)⟩,(by have h3:=hg1.2 h1s;rw[h1s];dsimp only;simp only[if_true];split<;>omega),sx ⟨⟨_,rfl,xap ?_⟩,trivial⟩ ⟨?_,trivial⟩⟩
 focus (first|rfl|(simp;done))
 focus (first|rfl|(have e:y.1=w.length:=(by omega);rw[e];rfl))
 refine CWp.frzB hk 3 71 0 rfl rfl zvT rfl ?_;refine evc [] [] ?_;refine rq ?_;rotate_left;all_goals (rw[hg1.1 h1s])
end Go.Proofs.YtlfipehhbdjnjaaGreat
namespace Go.Proofs.YtlfipehhbdjnjaaGreat
open Go
set_option linter.unusedSimpArgs false
set_option linter.unusedVariables false
set_option maxRecDepth 100000
set_option maxHeartbeats 4000000
theorem zyM (w:List Data) (t:Ty) (p:Pat):(zaQ w 10 t p 0).1.isSome=isP w t p:=by
 have h:=(zfc w 10 t p 0).1;rw[h];unfold zbP isP;rw[Int.zero_add];split
 ·rename_i hz;rw[hz];rfl
 ·rename_i hz;cases hc:(zan w 10 t p&&(decide ((p.size:Int)<=60)&&linP w 10 t p)) with
  |true=>exact absurd hc hz
  |false=>rfl
theorem zf0 {w:List Data} (hw:WT w){a k:Int}{p:Pat} (ht:TyIn w.length ⟨a,k⟩) (hok:p.ok):
  FnD Tryz.prog 217 [.d (zah w),.agg [.d (.i a),.d (.i k)],.agg [.d (.i p.op),.d (.i p.ctor),.d (.i p.n),.d (.i p.m),.d (.i p.var),.d (zag p.kids)]] [] (.tup [.d (zc7 (zdF (zaQ w 10 ⟨a,k⟩ p 0).1)),.d (.bool (isP w ⟨a,k⟩ p))]) []:=by
 rw[<-zyM];refine bd Tryz.f217 15 [] [] fun w0 F0 own kept hk=>?_;refine bx 3004 ?_;refine bx 3005 ?_;refine ev ?_;refine ab 950 tz3 ?_;refine so ty3 ?_;refine tv ?_;refine wd zqF (zee hw 10 (c:=0) (by omega) (by omega) ht hok (by omega) (by omega)) rfl rfl ⟨rfl,trivial⟩ ?_;refine ev ?_;refine rn0 (r2 rfl rfl) (.tup (.cons (.eqd ?_) (.cons (.eqd ?_) .nil)));rotate_left 2;all_goals (rfl)
theorem zg1 {w:List Data} (hw:WT w){a k:Int}{p:Pat} (ht:TyIn w.length ⟨a,k⟩) (hok:p.ok):
  FnD Tryz.prog 138 [.d (zah w),.agg [.d (.i a),.d (.i k)],.agg [.d (.i p.op),.d (.i p.ctor),.d (.i p.n),.d (.i p.m),.d (.i p.var),.d (zag p.kids)]] [] (.d (.bool (isP w ⟨a,k⟩ p))) []:=by
 refine bd Tryz.f138 17 [] [] fun w0 F0 own kept hk=>?_;refine bx 3004 ?_;refine bx 3005 ?_;refine ev ?_;refine wc ztS (zf0 hw ht hok) rfl rfl ?_;refine ev ?_;refine rq ?_;rotate_left;all_goals (rfl)
end Go.Proofs.YtlfipehhbdjnjaaGreat
namespace Go.Proofs.YtlfipehhbdjnjaaGreat
open Go
set_option linter.unusedSimpArgs false
set_option linter.unusedVariables false
set_option maxRecDepth 100000
set_option maxHeartbeats 2000000
theorem zmA {w:List Data} (hs:WSmall w) (hv:za2 w=true):Dp w:=by
 have hw:=zeG hs hv;have hW:=(zcC w).1 hv;refine⟨hw,fun s hs c hc u hu=>?_,hW.len,fun s hs=>?_⟩
 ·obtain⟨j,rfl,hj⟩:=zd0 (d:=s / 4) (k:=((s % 4:Nat):Int)) hc;have hu':u∈zaa w ⟨((s / 4:Nat):Int),((s % 4:Nat):Int)⟩ (j:Int):=hu;simp only[zaa,Int.toNat_natCast,List.mem_map] at hu';obtain⟨x,hx,rfl⟩:=hu';have hco:=hW.ctor _ (zae (l:=w) (i:=s / 4) (by omega)) _ (zae hj);simp only[zbD,xad,Bool.not_eq_true',List.any_eq_false] at hco;have hax:zbR w.length x=true:=by
   have:=hco.2.2.2 x hx;cases h:zbR w.length x with
   |true=>rfl
   |false=>rw[h] at this;exact absurd rfl this
  have hci:=hco.2.2.1;simp only[zbR,zat,Bool.or_eq_true,xad,decide_eq_true_eq,and_true] at hax hci;have key:∀y:Ty,(y.data = -1\/(0<=y.data/\y.data<w.length/\0<=y.index/\y.index<=3))->InS (w.length*4) y:=by
   rintro ⟨a,k⟩ h
   rcases h with h|⟨h1,h2,h3,h4⟩
   ·exact .inl h
   ·refine .inr ⟨?_, ?_⟩
    ·simp only[zcG] at *;omega
    ·obtain⟨i,rfl⟩:=Int.eq_ofNat_of_zero_le h1;obtain⟨m,rfl⟩:=Int.eq_ofNat_of_zero_le h3;simp only[zcG,Int.toNat_natCast];exact zh1 (by simp only at h4;omega)
  refine key _ ?_;unfold zcD zcO;split
  ·dsimp only;rcases hax with h|h
   ·omega
   ·right
    refine⟨by omega,by omega, ?_⟩;split<;>omega
  ·rcases hax with h|h
   ·exact .inl h.1
   ·right;omega
 ·have h1:=zgP (tyS s).index (nth w (tyS s).data.toNat).ctors 0;have h2:=(hW.data _ (zae (l:=w) (i:=s / 4) (by omega))).2.2;show(zaX (tyS s).index 0 (nth w (tyS s).data.toNat).ctors).length<=4
  have e:(tyS s).data.toNat=s / 4:=by simp only[tyS,Int.toNat_natCast]
  rw[e] at h1 ⊢;omega
theorem zbo {n:Nat}{t:Ty} (h:InS (n*4) t):TyIn n t:=by
 rcases h with h|⟨h1,h2⟩
 ·exact .inl h
 ·refine .inr ⟨zcG t / 4, ?_,by omega⟩;have:=congrArg Ty.data h2;exact this.symm
theorem zbc {w:List Data} (hd:Dp w){t:Ty}{c:Int} (ht:InS (w.length*4) t) (hc:c∈zal w t):∀u∈zaa w t c,InS (w.length*4) u:=by
 rcases ht with h|⟨h1,h2⟩
 ·unfold zal at hc;rw[if_pos h] at hc;simp at hc
 ·have hx:=hd.cl _ h1;rw[h2] at hx;have:c∈zaV w t:=by
   unfold zal at hc;split at hc
   ·simp at hc
   ·exact hc
  exact hx c this
theorem zkg {w:List Data}{a k k' c:Int}:(zaa w ⟨a,k⟩ c).length=(zaa w ⟨a,k'⟩ c).length/\∀i,(nth (zaa w ⟨a,k⟩ c) i).data=(nth (zaa w ⟨a,k'⟩ c) i).data:=by
 have hd:∀(k:Int) (t:Ty),(zcD k t).data=t.data:=fun k t=>by unfold zcD;split<;>rfl
 refine⟨by simp[zaa],fun i=>?_⟩;unfold zaa;dsimp only;generalize nth (nth w a.toNat).ctors c.toNat=q;simp only[nth,List.getD_eq_getElem?_getD,List.getElem?_map];cases q.args[i]? with
 |none=>rfl
 |some x=>simp only[Option.map_some,Option.getD_some,hd]
structure PKids (w:List Data) (n:Nat) (a k k':Int) (p:Pat):Prop where
 len5:p.op=5->p.kids.length=2
 len6:p.op=6->p.kids.length=1
 len4:p.op=4->p.kids.length=(zaa w ⟨a,k⟩ p.ctor).length
 one:p.op=5\/p.op=6->zan w n ⟨a,k'⟩ (nth p.kids 0)=true
 two:p.op=5->zan w n ⟨a,k'⟩ (nth p.kids 1)=true
 arg:p.op=4->∀i,i<(zaa w ⟨a,k⟩ p.ctor).length->zan w n ⟨(nth (zaa w ⟨a,k⟩ p.ctor) i).data,(nth (zaa w ⟨a,k'⟩ p.ctor) i).index⟩ (nth p.kids i)=true
 mem:p.op=4->p.ctor∈zal w ⟨a,k'⟩
 ops:p.op=1\/p.op=2\/(p.op=3/\a = -1)\/p.op=4\/p.op=5\/p.op=6
theorem zjL {w:List Data}{n:Nat}{a k k':Int}{p:Pat} (h:zan w (n+1) ⟨a,k'⟩ p=true):PKids w n a k k' p:=by
 obtain⟨ho,hl⟩:=zbe h;have hk:=fun i (hi:i<p.kids.length)=>zbg h hi;have ht4:p.op=4->zac w ⟨a,k'⟩ p=zaa w ⟨a,k'⟩ p.ctor:=fun h=>by unfold zac;rw[if_pos h]
 have ht5:p.op=5->zac w ⟨a,k'⟩ p=[⟨a,k'⟩,⟨a,k'⟩]:=fun h=>by unfold zac;rw[if_neg (by omega),if_pos h]
 have ht6:p.op=6->zac w ⟨a,k'⟩ p=[⟨a,k'⟩]:=fun h=>by unfold zac;rw[if_neg (by omega),if_neg (by omega),if_pos h]
 have l5:p.op=5->p.kids.length=2:=fun h=>by rw[hl,ht5 h];rfl
 have l6:p.op=6->p.kids.length=1:=fun h=>by rw[hl,ht6 h];rfl
 refine⟨l5,l6,fun h=>by rw[hl,ht4 h,zkg.1],fun h=>?_,fun h=>?_,fun h i hi=>?_,zb2 ho, ?_⟩
 ·rcases h with h|h
  ·have:=hk 0 (by rw[l5 h];omega);rwa [ht5 h] at this
  ·have:=hk 0 (by rw[l6 h];omega);rwa [ht6 h] at this
 ·have:=hk 1 (by rw[l5 h];omega);rwa [ht5 h] at this
 ·rw[(zkg (k':=k')).1] at hi;have:=hk i (by rw[hl,ht4 h];exact hi);rw[ht4 h] at this;rw[(zkg (k':=k')).2];exact this
 ·unfold ownP at ho;have:=of_decide_eq_true ho;obtain⟨_,_,_,_,q⟩:=this;simp only at q;omega
theorem zg0 {w:List Data} (hd:Dp w):FnD Tryz.prog 67 [.d (zah w)] [] (.d (sPtr w (zaf w))) []:=by
 refine bd Tryz.f67 8 [] [999999] fun w0 F0 own kept hk=>?_;refine wc zxo (zl9 hd) rfl rfl ?_;refine bu [0,1] [_,_] zyO ?_;refine bx 3007 ?_;refine ev ?_;refine CWp.frzB hk 2 3007 0 rfl rfl rfl rfl ?_;refine CWp.ret ?_;focus (refine rn0 (r1 rfl) (.refl _);all_goals (first|rfl|(simp[];done)|(simp_all;done)|(simp_all;omega)|omega))
theorem zbq {w:List Data}{a k:Int} (h:zbE w ⟨a,k⟩=true):za2 w=true/\TyIn w.length ⟨a,k⟩/\(a≠ -1->0<=a/\a.toNat<w.length/\0<=k/\k<=3):=by
 unfold zbE at h;rw[xad] at h;obtain⟨h1,h2⟩:=h;simp only[zeF,zat,Bool.or_eq_true,xad,decide_eq_true_eq,and_true] at h2;refine⟨h1, ?_,fun ha=>by omega⟩;rcases h2 with h|h
 ·exact .inl h.1
 ·exact .inr ⟨a.toNat,by simp only;omega,by omega⟩
theorem zkA {n d j:Nat} (hd:d<n) (hj:j<4):InS (n*4) ⟨(d:Int),(j:Int)⟩:=
 .inr ⟨by simp only[zcG,Int.toNat_natCast];omega,by simp only[zcG,Int.toNat_natCast];exact zh1 hj⟩
def zbp (w:List Data) (a k:Int) (p:Pat):Bool:=zbE w ⟨a,k⟩&&isP w ⟨a,k⟩ p
structure PVal (w:List Data) (a k:Int) (p:Pat):Prop where
 dp:Dp w
 tin:TyIn w.length ⟨a,k⟩
 shape:zan w 10 ⟨a,k⟩ p=true
 rng:a≠ -1->0<=a/\a.toNat<w.length/\0<=k/\k<=3
theorem pval {w:List Data} (hs:WSmall w){a k:Int}{p:Pat} (h:zbp w a k p=true):PVal w a k p:=by
 unfold zbp at h;rw[xad] at h;obtain⟨h1,h2,h3⟩:=zbq h.1;have h4:=h.2;unfold isP at h4;simp only[xad] at h4;exact⟨zmA hs h1,h2,h4.1,h3⟩
theorem zfF {w:List Data} (hs:WSmall w){a k:Int}{p:Pat} (hok:p.ok):
  FnD Tryz.prog 66 [.d (zah w),.agg [.d (.i a),.d (.i k)],.agg [.d (.i p.op),.d (.i p.ctor),.d (.i p.n),.d (.i p.m),.d (.i p.var),.d (zag p.kids)]] [] (.d (.bool (zbp w a k p))) []:=by
 refine bd Tryz.f66 16 [] [] fun w0 F0 own kept hk=>?_;refine bx 3004 ?_;refine bx 3005 ?_;refine ev ?_;refine wc ztD (zgY hs) rfl rfl ?_;refine ev ?_;refine sq ?_ ?_<;>intro h1 h1p h1s;refine Walk.call (cr:=[]) ztH (zg1 (zeG hs (zbq h1s).1) (zbq h1s).2.1 hok) rfl (.some rfl rfl h1) rfl rfl (LeL.refl _) trivial rfl rfl rfl ?_;refine evs [] [(10,true)] ?_ ⟨⟨_,rfl,h1⟩,trivial⟩;refine rq ?_;rotate_left;refine rq ?_;rotate_left;all_goals (refine congrArg D.bool ?_;unfold zbp;simp_all)
theorem zhX {w:List Data}{a b:Int} (hs:WSmall w):FnD Tryz.prog 126 [.d (zah w),.agg [.d (.i a),.d (.i b)]] [] (.d (.bool (zbE w ⟨a,b⟩))) []:=by
 rw[<-zw2];exact zlD hs
theorem zfT {w:List Data} (hs:WSmall w){a k:Int}{p:Pat} (hok:p.ok) (hb:p.size<=1000000000000):
  FnD Tryz.prog 157 [.d (zah w),.agg [.d (.i a),.d (.i k)],.agg [.d (.i p.op),.d (.i p.ctor),.d (.i p.n),.d (.i p.m),.d (.i p.var),.d (zag p.kids)]] [] (.d (.bool (zbp w a k p))) []:=by
 refine bd Tryz.f157 16 [] [] fun w0 F0 own kept hk=>?_;refine bx 3004 ?_;refine bx 3005 ?_;refine ev ?_;refine wc ztF (zhX hs) rfl rfl ?_;refine ev ?_;refine sq ?_ ?_<;>intro h1 h1p h1s;refine Walk.call (cr:=[]) zki (zeD (zeG hs (zbq h1s).1) (zbq h1s).2.1 hok hb) rfl (.some rfl rfl h1) rfl rfl (LeL.refl _) trivial rfl rfl rfl ?_;refine evs [] [(10,true)] ?_ ⟨⟨_,rfl,h1⟩,trivial⟩;refine rq ?_;rotate_left;refine rq ?_;rotate_left;all_goals (refine congrArg D.bool ?_;unfold zbp;simp_all)
def zau (w:List Data) (f:Nat->Nat):Nat->Ty->Pat->Bool
 |0,_,_=>true
 |n+1,t,p=>
  if p.op=1\/p.op=2 then decide (dv f t=0)
  else if p.op=5 then zau w f n t (nth p.kids 0)&&zau w f n t (nth p.kids 1)
  else !(all2 (fun u q=> !zau w f n u q) (zac w t p) p.kids)
theorem zbd {w:List Data}{f:Nat->Nat}{n:Nat}{t:Ty}{p:Pat}:zau w f (n+1) t p=if p.op=1\/p.op=2 then decide (dv f t=0)
  else if p.op=5 then zau w f n t (nth p.kids 0)&&zau w f n t (nth p.kids 1)
  else !(all2 (fun u q=> !zau w f n u q) (zac w t p) p.kids):=rfl
theorem zc5 {α β:Type} [Inhabited α] [Inhabited β]{f:α->β->Bool}{a:List α}{b:List β} (hl:a.length=b.length) (h:all2 f a b=true):∀i,i<a.length->f (nth a i) (nth b i)=true:=fun i hi=>by
 cases hf:f (nth a i) (nth b i) with
 |true=>rfl
 |false=>rw[zbr hi hl hf] at h;exact absurd h (by simp)
theorem zpM {w:List Data}{t:Ty}{c:Int} (h:c∈zal w t):c∈zaV w t:=by
 unfold zal at h;split at h
 ·simp at h
 ·exact h
def zqU (w:List Data) (a k:Int) (p:Pat):Bool:=zbp w a k p&&zau w (zaf w) 10 ⟨a,k⟩ p
theorem zhL {w:List Data} (hw:WT w){a k:Int}{p:Pat} (ht:TyIn w.length ⟨a,k⟩):
  FnD Tryz.prog 141 [.d (zah w),.agg [.d (.i a),.d (.i k)],.agg [.d (.i p.op),.d (.i p.ctor),.d (.i p.n),.d (.i p.m),.d (.i p.var),.d (zag p.kids)]] [] (.d (zcs (zcu w ⟨a,k⟩ p))) []:=by
 have hsh:=zj1 hw (p:=p) ht;refine bd Tryz.f141 17 [] [] fun w0 F0 own kept hk=>?_;refine bx 3004 ?_;refine bx 3005 ?_;refine ev ?_;refine wc zqA (hsh) rfl rfl ?_;refine ev ?_;refine rq ?_;rotate_left;all_goals (rfl)
theorem zbW {w:List Data} (hd:Dp w){f:Nat->Nat}:∀(n:Nat){a k:Int}{p:Pat},zan w n ⟨a,k⟩ p=true->InS (w.length*4) ⟨a,k⟩->p.ok->
  FnD Tryz.prog 68 [.d (sPtr w f),.agg [.d (.i a),.d (.i k)],.agg [.d (.i p.op),.d (.i p.ctor),.d (.i p.n),.d (.i p.m),.d (.i p.var),.d (zag p.kids)]] [] (.d (.bool (zau w f n ⟨a,k⟩ p))) []
 |0,a,k,p,h,_,_=>by simp[zan] at h
 |n+1,a,k,p,h,hi,hok=>by
  rw[Pat.ok_iff] at hok;have hw:=hd.wt;have hw4:=hd.four;have ht:=zbo hi;have pk:=zjL (k:=k) h;obtain⟨ho,hlen⟩:=zbe h;have hkid:=fun i (hi:i<p.kids.length)=>zbg h hi;have hops:=pk.ops;have l5:=pk.len5;have hk1:=pk.one;have hk2:=pk.two;have hsT:zcu w ⟨a,k⟩ p=zac w ⟨a,k⟩ p:=by
   unfold zcu;rw[if_neg (fun h=>h.2 (pk.mem h.1))]
  have hkt:=zhL hw (p:=p) ht;rw[hsT] at hkt;have hins:∀i,i<(zac w ⟨a,k⟩ p).length->InS (w.length*4) (nth (zac w ⟨a,k⟩ p) i):=fun i hl=>by
   have hm:=zae hl;unfold zac at hm ⊢;split
   ·rename_i h4;rw[if_pos h4] at hm;exact zbc hd hi (pk.mem h4) _ hm
   ·rename_i h4;rw[if_neg h4] at hm;split
    ·rename_i h5;rw[if_pos h5] at hm;simp only[List.mem_cons,List.not_mem_nil,or_false,or_self] at hm;rw[hm];exact hi
    ·rename_i h5;rw[if_neg h5] at hm;split
     ·rename_i h6;rw[if_pos h6] at hm;simp only[List.mem_cons,List.not_mem_nil,or_false] at hm;rw[hm];exact hi
     ·rename_i h6;rw[if_neg h6] at hm;simp at hm
  have htl:(zac w ⟨a,k⟩ p).length<=1000000000000:=by have:=hok.1;omega
  refine bd Tryz.f68 61 [] [] fun w0 F0 own kept hk=>?_;refine bx 3004 ?_;refine bx 3005 ?_;refine ev ?_;refine sq ?_ ?_<;>intro h1 h1p h1s<;>(try simp only[Q,Pat.cs_len] at h1p);refine sq ?_ ?_<;>intro h2 h2p h2s<;>(try simp only[Q,Pat.cs_len] at h2p);refine wc zfx (zeO (n:=w.length*4) (f:=f) hi (by omega)) rfl rfl ?_;refine evd [] [] ?_;refine dr ?_;refine rq ?_;rotate_left;refine sq ?_ ?_<;>intro h3 h3p h3s<;>(try simp only[Q,Pat.cs_len] at h3p);refine xaU (i:=0) sl34 .none rfl rfl rfl rfl (zar (by omega)) rfl ?_;refine evd [] [] ?_;refine wc zfz (zbW hd n (hk1 (by omega)) hi (Pats.ok_mem hok.2 _ (zae (i:=0) (by omega)))) rfl rfl ?_;refine evd [] [] ?_;refine sq ?_ ?_<;>intro h4 h4p h4s<;>(try simp only[Q,Pat.cs_len] at h4p);refine xaU (i:=1) sl34 (.some rfl rfl h4) rfl rfl rfl rfl (zar (by omega)) rfl ?_;refine evd [] [(30,true)] ?_ ⟨⟨_,rfl,h4⟩,trivial⟩;refine Walk.call (cr:=[]) zfz (zbW hd n (hk2 (by omega)) hi (Pats.ok_mem hok.2 _ (zae (i:=1) (by omega)))) rfl (.some rfl rfl h4) rfl rfl (LeL.refl _) trivial rfl rfl rfl ?_;refine evd [] [(30,true)] ?_ ⟨⟨_,rfl,h4⟩,trivial⟩;refine dr ?_;refine rq ?_;rotate_left;refine dr ?_;refine rq ?_;rotate_left;refine wc zqr (hkt) rfl rfl ?_;refine evd [] [] ?_;refine dr ?_;refine xak (ι:=Nat) hk (fun i=>[(47,.d (.i (i:Int)))]) [6,7,8,48,49,50,51,52,53,54,55,56,57,58,59,60] (fun i=>[]) (fun i=>i<=(zac w ⟨a,k⟩ p).length/\∀i',i'<i->zau w f n (nth (zac w ⟨a,k⟩ p) i') (nth p.kids i')=false) (fun i=>(zac w ⟨a,k⟩ p).length-i) 0 ⟨by omega,fun _ h=>absurd h (by omega)⟩ ⟨⟨_,rfl,xaq ?_⟩,trivial⟩ trivial (fun x=>rfl) (fun i hg1=>?_);focus (rfl)
  refine evc [] [] ?_;refine sq ?_ ?_<;>intro h5 h5p h5s<;>(try simp only[Q,Pat.cs_len] at h5p);refine xaU zaN .none rfl rfl rfl rfl (zaq (by omega)) rfl ?_;refine ev ?_;refine ab 3008 tz25 ?_;refine ev ?_;refine so ty25 ?_;refine tv ?_;refine xaU sl34 .none rfl rfl rfl rfl (zar (by omega)) rfl ?_;refine evd [] [] ?_;refine wc zfz (zbW hd n (hkid i (by omega)) (hins i (by omega)) (Pats.ok_mem hok.2 _ (zae (by omega)))) rfl rfl ?_;refine dr ?_;refine sq ?_ ?_<;>intro h6 h6p h6s<;>(try simp only[Q,Pat.cs_len] at h6p);refine rq ?_;rotate_left;refine ar ?_;refine xah (i+1) ⟨⟨by omega,zaT hg1.2 (by assumption)⟩,(by omega),sx ⟨⟨_,rfl,xaq ?_⟩,trivial⟩ trivial⟩;focus (rfl)
  refine rq ?_;rotate_left;refine sq ?_ ?_<;>intro h7 h7p h7s<;>(try simp only[Q,Pat.cs_len] at h7p);refine wc zfx (zeO (n:=w.length*4) (f:=f) hi (by omega)) rfl rfl ?_;refine evd [] [] ?_;refine dr ?_;refine rq ?_;rotate_left;refine sq ?_ ?_<;>intro h8 h8p h8s<;>(try simp only[Q,Pat.cs_len] at h8p);refine xaU (i:=0) sl34 .none rfl rfl rfl rfl (zar (by omega)) rfl ?_;refine evd [] [] ?_;refine wc zfz (zbW hd n (hk1 (by omega)) hi (Pats.ok_mem hok.2 _ (zae (i:=0) (by omega)))) rfl rfl ?_;refine evd [] [] ?_;refine sq ?_ ?_<;>intro h9 h9p h9s<;>(try simp only[Q,Pat.cs_len] at h9p);refine xaU (i:=1) sl34 (.some rfl rfl h9) rfl rfl rfl rfl (zar (by omega)) rfl ?_;refine evd [] [(30,true)] ?_ ⟨⟨_,rfl,h9⟩,trivial⟩;refine Walk.call (cr:=[]) zfz (zbW hd n (hk2 (by omega)) hi (Pats.ok_mem hok.2 _ (zae (i:=1) (by omega)))) rfl (.some rfl rfl h9) rfl rfl (LeL.refl _) trivial rfl rfl rfl ?_;refine evd [] [(30,true)] ?_ ⟨⟨_,rfl,h9⟩,trivial⟩;refine dr ?_;refine rq ?_;rotate_left;refine dr ?_;refine rq ?_;rotate_left;refine wc zqr (hkt) rfl rfl ?_;refine evd [] [] ?_;refine dr ?_;refine xak (ι:=Nat) hk (fun i=>[(47,.d (.i (i:Int)))]) [6,7,8,48,49,50,51,52,53,54,55,56,57,58,59,60] (fun i=>[]) (fun i=>i<=(zac w ⟨a,k⟩ p).length/\∀i',i'<i->zau w f n (nth (zac w ⟨a,k⟩ p) i') (nth p.kids i')=false) (fun i=>(zac w ⟨a,k⟩ p).length-i) 0 ⟨by omega,fun _ h=>absurd h (by omega)⟩ ⟨⟨_,rfl,xaq ?_⟩,trivial⟩ trivial (fun x=>rfl) (fun i hg1=>?_);focus (rfl)
  refine evc [] [] ?_;refine sq ?_ ?_<;>intro h10 h10p h10s<;>(try simp only[Q,Pat.cs_len] at h10p);refine xaU zaN .none rfl rfl rfl rfl (zaq (by omega)) rfl ?_;refine ev ?_;refine ab 3008 tz25 ?_;refine ev ?_;refine so ty25 ?_;refine tv ?_;refine xaU sl34 .none rfl rfl rfl rfl (zar (by omega)) rfl ?_;refine evd [] [] ?_;refine wc zfz (zbW hd n (hkid i (by omega)) (hins i (by omega)) (Pats.ok_mem hok.2 _ (zae (by omega)))) rfl rfl ?_;refine dr ?_;refine sq ?_ ?_<;>intro h11 h11p h11s<;>(try simp only[Q,Pat.cs_len] at h11p);refine rq ?_;rotate_left;refine ar ?_;refine xah (i+1) ⟨⟨by omega,zaT hg1.2 (by assumption)⟩,(by omega),sx ⟨⟨_,rfl,xaq ?_⟩,trivial⟩ trivial⟩;focus (rfl)
  refine rq ?_;rotate_left;all_goals (refine congrArg D.bool ?_;rw[zbd];first|(rw[if_pos (by omega)];exact decide_eq_decide.2 (by omega))|(rw[if_neg (by omega),if_pos (by omega)];first|rfl|(simp_all;done))|(rw[if_neg (by omega),if_neg (by omega)];first|(rw[zbr (i:=i) (by omega) (by omega) (by show(!_)=false;rw[Bool.not_eq_false'];assumption)];rfl)|(rw[zbs (by omega) (fun x hx=>by have:=hg1.2 x (by omega);simp_all)];rfl)))
mutual
theorem zn8:∀v:Val,zhr v v=true
 | .mk _ _ ks=>by simp[zhr,zlV ks]
theorem zlV:∀l:List Val,zcv l l=true
 | []=>rfl
 |v::r=>by simp[zcv,zn8 v,zlV r]
end
theorem Val.c_len (v:Val):v.c.length=3:=by cases v;rfl
theorem Val.cs_rows {l:List Val}:∀x,x∈Val.cs l->x.length=3:=by
 intro x hx;rw[Val.cs_eq] at hx;obtain⟨y,_,rfl⟩:=List.mem_map.1 hx;exact y.c_len
theorem Val.cs_nil (l:List Val):Val.cs l=[]↔l=[]:=by rw[Val.cs_eq];simp
mutual
def mVal:Val->Nat
 | .mk _ _ ks=>zni ks
def zni:List Val->Nat
 | []=>0
 |v::r=>1+mVal v+zni r
end
mutual
def Val.szM:Val->Int
 | .mk _ _ ks=>2+Vals.szM ks
def Vals.szM:List Val->Int
 | []=>0
 |v::r=>v.szM+Vals.szM r
end
mutual
def Val.one (k:Int):Val->Val
 | .mk _ _ ks=> .mk k (k+1) (Vals.one (k+1+1) ks)
def Vals.one (k:Int):List Val->List Val
 | []=>[]
 |v::r=>v.one k::Vals.one (k+v.szM) r
end
mutual
theorem Val.szM_nn:∀v:Val,0<=v.szM
 | .mk _ _ ks=>by have:=Vals.szM_nn ks;simp only[Val.szM];omega
theorem Vals.szM_nn:∀l:List Val,0<=Vals.szM l
 | []=>by simp[Vals.szM]
 |v::r=>by have:=Val.szM_nn v;have:=Vals.szM_nn r;simp only[Vals.szM];omega
end
mutual
theorem Val.szM_le:∀v:Val,v.szM<=2+2*(mVal v:Int)
 | .mk _ _ ks=>by have:=Vals.szM_le ks;simp only[Val.szM,mVal];omega
theorem Vals.szM_le:∀l:List Val,Vals.szM l<=2*(zni l:Int)
 | []=>by simp[Vals.szM,zni]
 |v::r=>by have:=Val.szM_le v;have:=Vals.szM_le r;simp only[Vals.szM,zni];omega
end
def zaK (w:List Data):Nat->Ty->Val->Bool
 |0,_,_=>false
 |n+1,t,v=>if t.data = -1 then decide (v.ctor = -1)&&(decide (0<=v.num)&&(decide (v.num<=9)&&decide (v.kids.length=0)))
   else if v.num=0/\v.ctor∈zaV w t then all2 (zaK w n) (zaa w t v.ctor) v.kids else false
def zc0 (g:Ty->Val->Int->Bool×Int):List Ty->List Val->Int->Bool×Int
 |a::r,b::s,c=>if (g a b c).1 then zc0 g r s (g a b c).2 else (false,(g a b c).2)
 |_,_,c=>(true,c)
def zaY (w:List Data):Nat->Ty->Val->Int->Bool×Int
 |0,_,_,c=>(false,c+1)
 |n+1,t,v,c=>if 60<c+1 then (false,c+1)
   else if t.data = -1 then (decide (v.ctor = -1)&&(decide (0<=v.num)&&(decide (v.num<=9)&&decide (v.kids.length=0))),c+1)
   else if v.num=0/\v.ctor∈zaV w t then (if (zaa w t v.ctor).length=v.kids.length then zc0 (zaY w n) (zaa w t v.ctor) v.kids (c+1) else (false,c+1))
   else (false,c+1)
theorem zrD {w:List Data}{n:Nat} (ih:∀t v c,(zaY w n t v c).1=(zaK w n t v&&decide (c+(v.size:Int)<=60))/\((zaY w n t v c).1=true->(zaY w n t v c).2=c+v.size)):
  ∀(a:List Ty) (b:List Val) (c:Int),a.length=b.length->c<=60->(zc0 (zaY w n) a b c).1=(all2 (zaK w n) a b&&decide (c+(Vals.size b:Int)<=60))/\((zc0 (zaY w n) a b c).1=true->(zc0 (zaY w n) a b c).2=c+Vals.size b)
 | [],[],c,_,hc=>by simp[zc0,all2,Vals.size,hc]
 |x::r,y::s,c,hl,hc=>by
  obtain⟨h1,h2⟩:=ih x y c;simp only[zc0,all2,Vals.size];cases hh:(zaY w n x y c).1 with
  |true=>
   have h3:=h2 hh;rw[hh] at h1;have h4:=h1.symm;simp only[xad,decide_eq_true_eq] at h4;obtain⟨h5,h6⟩:=zrD ih r s (zaY w n x y c).2 (by simpa using hl) (by omega);simp only[if_true];rw[h5];refine⟨?_,fun hx=>?_⟩
   ·rw[h4.1,h3,Bool.true_and];congr 1
    exact decide_eq_decide.2 (by push_cast;omega)
   ·rw[<-h5] at hx;rw[h6 hx,h3];push_cast;omega
  |false=>
   rw[hh] at h1;simp only[Bool.false_eq_true,if_false,false_implies,and_true];have h4:=h1.symm;simp only[Bool.and_eq_false_imp,decide_eq_false_iff_not] at h4;symm
   cases hf:zaK w n x y with
   |false=>simp
   |true=>
    have:=h4 hf;have h7:¬(c+((y.size+Vals.size s:Nat):Int)<=60):=by push_cast;omega
    simp only[Bool.and_eq_false_imp];intro _;exact decide_eq_false h7
 | [],_::_,_,hl,_=>by simp at hl
 |_::_,[],_,hl,_=>by simp at hl
theorem xaz {l:List Val} (h:l.length=0):Vals.size l=0:=by
 cases l with
 |nil=>rfl
 |cons x r=>simp at h
theorem zmq (w:List Data):∀(n:Nat) (t:Ty) (v:Val) (c:Int),(zaY w n t v c).1=(zaK w n t v&&decide (c+(v.size:Int)<=60))/\((zaY w n t v c).1=true->(zaY w n t v c).2=c+v.size)
 |0,t,v,c=>by simp[zaY,zaK]
 |n+1,t,v,c=>by
  have hsz:=Val.size_eq v;unfold zaY zaK;by_cases h1:60<c+1
  ·rw[if_pos h1];simp only[Bool.false_eq_true,false_implies,and_true];symm
   simp only[Bool.and_eq_false_imp,decide_eq_false_iff_not];intro _;omega
  ·rw[if_neg h1];by_cases h2:t.data = -1
   ·rw[if_pos h2,if_pos h2];refine⟨?_,fun hx=>?_⟩
    ·by_cases hk:v.kids.length=0
     ·have:=xaz hk;have h3:decide (c+(v.size:Int)<=60)=true:=decide_eq_true (by omega);rw[h3,Bool.and_true]
     ·simp[hk]
    ·simp only[xad,decide_eq_true_eq] at hx;have:=xaz hx.2.2.2;simp only;omega
   ·rw[if_neg h2,if_neg h2];by_cases h3:v.num=0/\v.ctor∈zaV w t
    ·rw[if_pos h3,if_pos h3];by_cases h4:(zaa w t v.ctor).length=v.kids.length
     ·rw[if_pos h4];obtain⟨h5,h6⟩:=zrD (fun t v c=>zmq w n t v c) (zaa w t v.ctor) v.kids (c+1) h4 (by omega);refine⟨?_,fun hx=>?_⟩
      ·rw[h5];congr 1
       exact decide_eq_decide.2 (by omega)
      ·rw[h6 hx];omega
     ·rw[if_neg h4,ze6 h4];simp
    ·rw[if_neg h3,if_neg h3];simp
mutual
def cntV (m:Int):Val->Int
 | .mk _ _ ks=>cntL m 1 ks
def cntL (m n:Int):List Val->Int
 | []=>n
 |k::r=>if n<=m then cntL m (n+cntV (m-n) k) r else n
end
theorem zwB (m:Int) (v:Val):cntV m v=cntL m 1 v.kids:=by cases v;rfl
theorem zoZ {m n:Int}{l:List Val} (h:¬n<=m):cntL m n l=n:=by cases l<;>simp[cntL,h]
mutual
theorem zht:∀(v:Val) (m:Int),1<=cntV m v/\cntV m v<=v.size
 | .mk _ _ ks,m=>by
  have:=zoj ks m 1 (by omega);simp only[cntV,Val.size];push_cast;omega
theorem zoj:∀(l:List Val) (m n:Int),1<=n->1<=cntL m n l/\cntL m n l<=n+Vals.size l
 | [],m,n,h=>by simp[cntL,Vals.size];omega
 |k::r,m,n,h=>by
  have h1:=zht k (m-n);have h2:=zoj r m (n+cntV (m-n) k) (by omega);simp only[cntL,Vals.size];split
  ·push_cast;omega
  ·push_cast;omega
end
mutual
theorem zqP:∀(v:Val) (m:Int),(cntV m v<=m↔(v.size:Int)<=m)/\(cntV m v<=m->cntV m v=v.size)
 | .mk _ _ ks,m=>by
  have:=zqN ks m 1;simp only[cntV,Val.size];push_cast;exact this
theorem zqN:∀(l:List Val) (m n:Int),(cntL m n l<=m↔n+(Vals.size l:Int)<=m)/\(cntL m n l<=m->cntL m n l=n+Vals.size l)
 | [],m,n=>by simp[cntL,Vals.size]
 |k::r,m,n=>by
  have h1:=zqP k (m-n);have h2:=zqN r m (n+cntV (m-n) k);have h3:=zoj r m (n+cntV (m-n) k);have h4:=zht k (m-n);simp only[cntL,Vals.size];push_cast
  by_cases hn:n<=m
  ·rw[if_pos hn];by_cases h5:cntV (m-n) k<=m-n
   ·have h6:=h1.2 h5;rw[h6] at h2 ⊢;constructor
    ·rw[h2.1];constructor<;>intro h<;>omega
    ·intro h;rw[h2.2 h];omega
   ·have h7:¬(k.size:Int)<=m-n:=fun h=>h5 (h1.1.2 h);have h8:¬n+cntV (m-n) k<=m:=by omega
    rw[zoZ h8];constructor
    ·constructor<;>intro h<;>omega
    ·intro h;omega
  ·rw[if_neg hn];constructor
   ·constructor<;>intro h<;>omega
   ·intro h;omega
end
theorem Vals.size_split {pre rest l:List Val}{y:Val} (h:pre++y::rest=l):Vals.size l=Vals.size pre+y.size+Vals.size rest:=by
 subst h;induction pre with
 |nil=>simp[Vals.size]
 |cons x r ih=>simp only[xag,Vals.size,ih];omega
theorem zmi {l:List Val}{i:Nat} (h:i<l.length):(nth l i).size<=Vals.size l:=Vals.size_mem (zae h)
theorem zio {l:List Val}{i:Nat} (h:i<l.length):Vals.size (l.drop i)=(nth l i).size+Vals.size (l.drop (i+1)):=by
 rw[zaH h];rfl
theorem ziq:∀(n:Nat){v:Val}{m:Int},v.size<=n->v.size<=1000000000000->v.ok->0<=m->m<=1000000000000->FnD Tryz.prog 192 [.agg [.d (.i v.ctor),.d (.i v.num),.d (zaW v.kids)],.d (.i m)] [] (.d (.i (cntV m v))) []
 |0,v,m,h,_,_,_,_=>by rw[Val.size_eq] at h;omega
 |n+1,v,m,h,hb,hok,m0,m1=>by
  rw[Val.size_eq] at h hb;rw[Val.ok_iff] at hok;rw[zwB];refine bd Tryz.f192 31 [] [] fun w0 F0 own kept hk=>?_;refine bx 3002 ?_;refine ev ?_;refine xak (ι:=Nat×Int) hk (fun x=>[(6,.d (.i (x.1:Int))),(5,.d (.i x.2))]) [7,8,9,10,11,12,13,14,15,16,17,18,19,20,21,22,23,24,25,26,27,28,29] (fun x=>[]) (fun x=>x.1<=v.kids.length/\cntL m x.2 (v.kids.drop x.1)=cntL m 1 v.kids/\1<=x.2/\x.2+Vals.size (v.kids.drop x.1)<=1+Vals.size v.kids) (fun x=>v.kids.length-x.1) (0,1) ⟨by simp,by simp,by simp,by simp⟩ ⟨⟨_,rfl,xaq ?_⟩,⟨⟨_,rfl,xaq ?_⟩,trivial⟩⟩ trivial (fun x=>rfl) (fun x hg1=>?_);iterate 2 focus (first|rfl|(simp;done)|(dsimp only;omega))
  refine evc [] [] ?_;refine sq ?_ ?_<;>intro h1 h1p h1s<;>(try simp only[Q,Val.cs_len] at h1p);refine sq ?_ ?_<;>intro h2 h2p h2s<;>(try simp only[Q,Val.cs_len] at h2p);refine xaU sl47 .none rfl rfl rfl rfl (zgo (by omega)) rfl ?_;refine ev ?_;refine ar ?_ (by first|(constructor<;>omega)|(have hz:=zht (nth v.kids x.1) (m-x.2);have hs:=zio (l:=v.kids) (i:=x.1) (by omega);constructor<;>omega)|(constructor<;>simp[Val.cs_len]<;>omega));refine wc ztR (ziq n (v:=nth v.kids x.1) (by have:=zmi (l:=v.kids) (i:=x.1) (by omega);omega) (by have:=zmi (l:=v.kids) (i:=x.1) (by omega);omega) (Vals.ok_mem hok.2 _ (zae (by omega))) (by omega) (by omega)) rfl rfl ?_;refine ev ?_;refine ar ?_ (by first|(constructor<;>omega)|(have hz:=zht (nth v.kids x.1) (m-x.2);have hs:=zio (l:=v.kids) (i:=x.1) (by omega);constructor<;>omega)|(constructor<;>simp[Val.cs_len]<;>omega));refine ar ?_ (by first|(constructor<;>omega)|(have hz:=zht (nth v.kids x.1) (m-x.2);have hs:=zio (l:=v.kids) (i:=x.1) (by omega);constructor<;>omega)|(constructor<;>simp[Val.cs_len]<;>omega));refine xah ((x.1+1,x.2+cntV (m-x.2) (nth v.kids x.1))) ⟨(by
      have hz:=zht (nth v.kids x.1) (m-x.2);have hs:=zio (l:=v.kids) (i:=x.1) (by omega);refine⟨by dsimp only;omega, ?_,by dsimp only;omega,by dsimp only;omega⟩;rw[<-hg1.2.1,zaH (l:=v.kids) (i:=x.1) (by omega),cntL,if_pos (by omega)]),(by dsimp only;omega),sx ⟨⟨_,rfl,xaq ?_⟩,⟨⟨_,rfl,xaq ?_⟩,trivial⟩⟩ trivial⟩
  iterate 2 focus (first|rfl|(simp;done)|(dsimp only;omega))
  refine rq ?_;rotate_left;refine sqF ?_;refine rq ?_;rotate_left;all_goals (refine congrArg D.i ?_;rw[<-hg1.2.1];first|(rw[List.drop_eq_nil_of_le (by omega)];rfl)|(rw[zoZ (by omega)]))
theorem zjb {w:List Data} (hw:WT w):∀(n:Nat){a k m:Int}{v:Val},m=n->n<=1000->TyIn w.length ⟨a,k⟩->v.ok->
  FnD Tryz.prog 191 [.d (zah w),.agg [.d (.i a),.d (.i k)],.agg [.d (.i v.ctor),.d (.i v.num),.d (zaW v.kids)],.d (.i m)] [] (.d (.bool (zaK w n ⟨a,k⟩ v))) []
 |0,a,k,m,v,hm,_,_,_=>by
  refine bd Tryz.f191 78 [] [] fun w0 F0 own kept hk=>?_;refine bx 3005 ?_;refine bx 3006 ?_;refine ev ?_;refine sq ?_ ?_<;>intro h1 h1p h1s<;>(try simp only[Q] at h1p);refine rq ?_;rotate_left;exfalso;simp at h1;omega;all_goals (rfl)
 |n+1,a,k,m,v,hm,hn,ht,hok=>by
  rcases ht with ha|⟨d,hd,hlt⟩
  ·have ha':a = -1:=ha;subst ha';refine bd Tryz.f191 78 [] [] fun w0 F0 own kept hk=>?_;refine bx 3005 ?_;refine bx 3006 ?_;refine ev ?_;refine sq ?_ ?_<;>intro h1 h1p h1s<;>(try simp only[Q] at h1p);exfalso;simp at h1;omega;refine sq ?_ ?_<;>intro h2 h2p h2s<;>(try simp only[Q] at h2p);refine sq ?_ ?_<;>intro h3 h3p h3s<;>(try simp only[Q] at h3p);refine sq ?_ ?_<;>intro h4 h4p h4s<;>(try simp only[Q] at h4p);refine sq ?_ ?_<;>intro h5 h5p h5s<;>(try simp only[Q] at h5p);focus (refine rq ?_;all_goals (refine congrArg D.bool ?_;simp[zaK,Val.cs_len,h1s,h1p,h2s,h2p,h3s,h3p,h4s,h4p,h5s,h5p]))
   focus (refine rq ?_;all_goals (refine congrArg D.bool ?_;simp[zaK,Val.cs_len,h1s,h1p,h2s,h2p,h3s,h3p,h4s,h4p,h5s,h5p]))
   refine sqF ?_;focus (refine rq ?_;all_goals (refine congrArg D.bool ?_;simp[zaK,Val.cs_len,h1s,h1p,h2s,h2p,h3s,h3p,h4s,h4p]))
   refine sqF ?_;refine sqF ?_;focus (refine rq ?_;all_goals (refine congrArg D.bool ?_;simp[zaK,Val.cs_len,h1s,h1p,h2s,h2p,h3s,h3p]))
   exact absurd h2 (by simp)
  have hd':a=(d:Int):=hd;subst hd';have hok':=hok;rw[Val.ok_iff] at hok;have hcl:=ziA hw (d:=d) (k:=k);have hdn:¬(d:Int) = -1:=by omega
  by_cases hv:v.num=0/\v.ctor∈zaV w ⟨d,k⟩
  ·have hal:=zfv hw hlt (k:=k) (zd0 (k:=k) (c:=v.ctor) hv.2);refine bd Tryz.f191 78 [] [] fun w0 F0 own kept hk=>?_;refine bx 3005 ?_;refine bx 3006 ?_;refine ev ?_;refine sq ?_ ?_<;>intro h1 h1p h1s<;>(try simp only[Q,Val.cs_len] at h1p);exfalso;simp at h1;omega;refine sq ?_ ?_<;>intro h2 h2p h2s<;>(try simp only[Q,Val.cs_len] at h2p);exfalso;simp at h2<;>omega;refine sq ?_ ?_<;>intro h3 h3p h3s<;>(try simp only[Q,Val.cs_len] at h3p);refine dr ?_;refine sqT ?_;exfalso;have e1:=hv.1;have e2:=hv.2;simp_all;refine Walk.call (cr:=[]) zep (zfU hw hlt) rfl (.some rfl rfl h3) rfl rfl (LeL.refl _) trivial rfl rfl rfl ?_;refine evd [] [(38,false)] ?_ ⟨⟨_,rfl,h3⟩,trivial⟩;refine Walk.call (cr:=[]) ziP (zdl hcl) rfl (.some rfl rfl h3) rfl rfl (LeL.refl _) trivial rfl rfl rfl ?_;refine evd [] [(38,false)] ?_ ⟨⟨_,rfl,h3⟩,trivial⟩;refine dr ?_;refine sq ?_ ?_<;>intro h5 h5p h5s<;>(try simp only[Q,Val.cs_len] at h5p);exfalso;have e1:=hv.1;have e2:=hv.2;simp_all;refine wc zdn (zi6 hw hlt (zd0 (k:=k) (c:=v.ctor) hv.2)) rfl rfl ?_;refine ev ?_;refine sq ?_ ?_<;>intro h6 h6p h6s<;>(try simp only[Q,Val.cs_len] at h6p);refine rq ?_;rotate_left;refine xak (ι:=Nat) hk (fun i=>[(10,.d (.i (i:Int)))]) [8,58,59,60,61,62,63,64,65,66,67,68,69,70,71,72,73,74,75,76,77] (fun i=>[]) (fun i=>i<=(zaa w ⟨d,k⟩ v.ctor).length/\∀i',i'<i->zaK w n (nth (zaa w ⟨d,k⟩ v.ctor) i') (nth v.kids i')=true) (fun i=>(zaa w ⟨d,k⟩ v.ctor).length-i) 0 ⟨by omega,fun _ h=>absurd h (by omega)⟩ ⟨⟨_,rfl,xaq ?_⟩,trivial⟩ trivial (fun x=>rfl) (fun i hg1=>?_);focus (first|rfl|(simp;done)|(simp_all;done)|omega)
   refine evc [] [] ?_;refine sq ?_ ?_<;>intro h7 h7p h7s<;>(try simp only[Q,Val.cs_len] at h7p);refine xaU zaN .none rfl rfl rfl rfl (zaq (by omega)) rfl ?_;refine evd [] [] ?_;refine xaU sl47 .none rfl rfl rfl rfl (zgo (by omega)) rfl ?_;refine evd [] [] ?_;refine ar ?_ (by first|(constructor<;>omega)|(constructor<;>simp[Val.cs_len]<;>omega));refine wc ztQ (zjb hw n (by omega) (by omega) (zh7 hw hlt (k:=k) (zd0 (k:=k) (c:=v.ctor) hv.2) (zae (by omega))) (Vals.ok_mem hok.2 _ (zae (by omega)))) rfl rfl ?_;refine evd [] [] ?_;refine dr ?_;refine sq ?_ ?_<;>intro h8 h8p h8s<;>(try simp only[Q,Val.cs_len] at h8p);refine rq ?_;rotate_left;refine ar ?_ (by first|(constructor<;>omega)|(constructor<;>simp[Val.cs_len]<;>omega));refine xah (i+1) ⟨⟨by omega,zaT hg1.2 (by assumption)⟩,(by omega),sx ⟨⟨_,rfl,xaq ?_⟩,trivial⟩ trivial⟩;focus (first|rfl|(simp;done)|(simp_all;done)|omega)
   refine rq ?_;rotate_left;all_goals (refine congrArg D.bool ?_;unfold zaK;rw[if_neg hdn,if_pos hv];first|(rw[ze6 (by simp[Val.cs_len] at *;omega)])|(rw[zbs (by simp[Val.cs_len] at *;omega) (fun x hx=>hg1.2 x (by simp[Val.cs_len] at *;omega))])|(rw[zbr (i:=i) (by simp[Val.cs_len] at *;omega) (by simp[Val.cs_len] at *;omega) (by assumption)]))
  ·skip
   refine bd Tryz.f191 78 [] [] fun w0 F0 own kept hk=>?_;refine bx 3005 ?_;refine bx 3006 ?_;refine ev ?_;refine sq ?_ ?_<;>intro h1 h1p h1s<;>(try simp only[Q] at h1p);exfalso;simp at h1;omega;refine sq ?_ ?_<;>intro h2 h2p h2s<;>(try simp only[Q] at h2p);exfalso;simp at h2<;>omega;refine sq ?_ ?_<;>intro h3 h3p h3s<;>(try simp only[Q] at h3p);refine dr ?_;refine sqT ?_;refine rq ?_;rotate_left;refine Walk.call (cr:=[]) zep (zfU hw hlt) rfl (.some rfl rfl h3) rfl rfl (LeL.refl _) trivial rfl rfl rfl ?_;refine evd [] [(38,false)] ?_ ⟨⟨_,rfl,h3⟩,trivial⟩;refine Walk.call (cr:=[]) ziP (zdl hcl) rfl (.some rfl rfl h3) rfl rfl (LeL.refl _) trivial rfl rfl rfl ?_;refine evd [] [(38,false)] ?_ ⟨⟨_,rfl,h3⟩,trivial⟩;refine dr ?_;refine sq ?_ ?_<;>intro h5 h5p h5s<;>(try simp only[Q] at h5p);refine rq ?_;rotate_left;exfalso;simp_all;all_goals (refine congrArg D.bool ?_;unfold zaK;rw[if_neg hdn,if_neg hv])
def isV (w:List Data) (t:Ty) (v:Val):Bool:=zaK w 10 t v&&decide ((v.size:Int)<=60)
theorem zrF {w:List Data} (hw:WT w){a k:Int}{v:Val} (ht:TyIn w.length ⟨a,k⟩) (hok:v.ok) (hb:v.size<=1000000000000):
  FnD Tryz.prog 105 [.d (zah w),.agg [.d (.i a),.d (.i k)],.agg [.d (.i v.ctor),.d (.i v.num),.d (zaW v.kids)]] [] (.d (.bool (isV w ⟨a,k⟩ v))) []:=by
 have hc:=zqP v 60;refine bd Tryz.f105 16 [] [] fun w0 F0 own kept hk=>?_;refine bx 3004 ?_;refine bx 3005 ?_;refine ev ?_;refine wc ztQ (zjb hw 10 (by omega) (by omega) ht hok) rfl rfl ?_;refine ev ?_;refine sq ?_ ?_<;>intro h1 h1p h1s<;>(try simp only[Q] at h1p);refine Walk.call (cr:=[]) ztR (ziq _ (Nat.le_refl _) hb hok (by omega) (by omega)) rfl (.some rfl rfl h1) rfl rfl (LeL.refl _) trivial rfl rfl rfl ?_;refine evs [] [(11,true)] ?_ ⟨⟨_,rfl,h1⟩,trivial⟩;focus (refine rq ?_;all_goals (refine congrArg D.bool ?_;unfold isV;simp only[h1s,h1p];first|rfl|(simp only[Bool.true_and];exact decide_eq_decide.2 hc.1)|(simp;done)))
 focus (refine rq ?_;all_goals (refine congrArg D.bool ?_;unfold isV;simp only[h1s,h1p];first|rfl|(simp only[Bool.true_and];exact decide_eq_decide.2 hc.1)|(simp;done)))
theorem znE {w:List Data}{n:Nat}{a:List Ty}{b:List Val}{i:Nat}{c:Int} (ha:i<a.length) (hl:a.length=b.length) (h:(zaY w n (nth a i) (nth b i) c).1=false):
  zc0 (zaY w n) (a.drop i) (b.drop i) c=(false,(zaY w n (nth a i) (nth b i) c).2):=by
 rw[zaH ha,zaH (l:=b) (by omega),zc0,if_neg (by rw[h];simp)]
theorem zts {w:List Data}{n:Nat}{a:List Ty}{b:List Val}{i:Nat}{c:Int} (ha:i<a.length) (hl:a.length=b.length) (h:(zaY w n (nth a i) (nth b i) c).1=true):
  zc0 (zaY w n) (a.drop i) (b.drop i) c=zc0 (zaY w n) (a.drop (i+1)) (b.drop (i+1)) (zaY w n (nth a i) (nth b i) c).2:=by
 rw[zaH ha,zaH (l:=b) (by omega),zc0,if_pos h]
theorem zpB {w:List Data}{n:Nat}{a:List Ty}{b:List Val}{i:Nat}{c:Int} (ha:a.length<=i):zc0 (zaY w n) (a.drop i) (b.drop i) c=(true,c):=by
 rw[List.drop_eq_nil_of_le ha,zc0];simp
theorem zvL (w:List Data) (n:Nat) (t:Ty) (v:Val) (c:Int) (h:(zaY w n t v c).1=true):c<=(zaY w n t v c).2/\(zaY w n t v c).2<=60:=by
 have h1:=(zmq w n t v c);have h2:=h1.2 h;rw[h1.1] at h;simp only[xad,decide_eq_true_eq] at h;omega
theorem zg2 {w:List Data} (hw:WT w):∀(n:Nat){a k d c:Int}{v:Val},d+n=11->n<=10->TyIn w.length ⟨a,k⟩->v.ok->0<=c->c<=1000000000000->
  FnD Tryz.prog 145 [.d (zah w),.agg [.d (.i a),.d (.i k)],.agg [.d (.i v.ctor),.d (.i v.num),.d (zaW v.kids)],.d (.i d),.d (.bool false),.ref 950 0] [(950,some (.box [.d (.i c)]))]
   (.d (.bool (zaY w n ⟨a,k⟩ v c).1)) [(950,some (.box [.d (.i (zaY w n ⟨a,k⟩ v c).2)]))]
 |0,a,k,d,c,v,hd,_,_,_,c0,c1=>by
  refine bd Tryz.f145 108 [] [] fun w0 F0 own kept hk=>?_;refine bx 3007 ?_;refine bx 3008 ?_;refine ev ?_;refine ar ?_;refine so ty3 ?_;refine tv ?_;refine sq ?_ ?_<;>intro h1 h1p h1s<;>(try simp only[Q] at h1p);refine sqT ?_;refine rn [(950,some (.box [.d (.i (zaY w 0 ⟨a,k⟩ v c).2)]))] (r1 rfl) (.eqd ?_) ⟨rfl,rfl⟩ (SubO.get ⟨.inr ?_,⟨.inl rfl,trivial⟩⟩) (zay rfl);rotate_left 2;refine sq ?_ ?_<;>intro h3 h3p h3s<;>(try simp only[Q] at h3p);refine rn [(950,some (.box [.d (.i (zaY w 0 ⟨a,k⟩ v c).2)]))] (r1 rfl) (.eqd ?_) ⟨rfl,rfl⟩ (SubO.get ⟨.inr ?_,⟨.inl rfl,trivial⟩⟩) (zay rfl);rotate_left 2;exfalso;simp at *;omega;all_goals (first|((rfl);done)|(rfl))
 |n+1,a,k,d,c,v,hd,hn,ht,hok,c0,c1=>by
  by_cases h60:60<c+1
  ·skip
   refine bd Tryz.f145 108 [] [] fun w0 F0 own kept hk=>?_;refine bx 3007 ?_;refine bx 3008 ?_;refine ev ?_;refine ar ?_;refine so ty3 ?_;refine tv ?_;refine sq ?_ ?_<;>intro h1 h1p h1s<;>(try simp only[Q] at h1p);refine sqT ?_;refine rn [(950,some (.box [.d (.i (zaY w (n+1) ⟨a,k⟩ v c).2)]))] (r1 rfl) (.eqd ?_) ⟨rfl,rfl⟩ (SubO.get ⟨.inr ?_,⟨.inl rfl,trivial⟩⟩) (zay rfl);rotate_left 2;refine sq ?_ ?_<;>intro h3 h3p h3s<;>(try simp only[Q] at h3p);refine rn [(950,some (.box [.d (.i (zaY w (n+1) ⟨a,k⟩ v c).2)]))] (r1 rfl) (.eqd ?_) ⟨rfl,rfl⟩ (SubO.get ⟨.inr ?_,⟨.inl rfl,trivial⟩⟩) (zay rfl);rotate_left 2;exfalso;simp at *;omega;all_goals (first|((unfold zaY;rw[if_pos h60]);done)|((unfold zaY;rw[if_pos h60];rfl)))
  rcases ht with ha|⟨e,he,hlt⟩
  ·have ha':a = -1:=ha;subst ha';refine bd Tryz.f145 108 [] [] fun w0 F0 own kept hk=>?_;refine bx 3007 ?_;refine bx 3008 ?_;refine ev ?_;refine ar ?_;refine so ty3 ?_;refine tv ?_;refine sq ?_ ?_<;>intro h1 h1p h1s<;>(try simp only[Q] at h1p);refine sqT ?_;exfalso;simp at *;omega;refine sq ?_ ?_<;>intro h3 h3p h3s<;>(try simp only[Q] at h3p);exfalso;simp at *;omega;refine sqF ?_;refine sqF ?_;refine sq ?_ ?_<;>intro h5 h5p h5s<;>(try simp only[Q] at h5p);refine sq ?_ ?_<;>intro h6 h6p h6s<;>(try simp only[Q] at h6p);refine Walk.call (cr:=[]) zdK (zbi) rfl (.some rfl rfl h6) rfl rfl (LeL.refl _) trivial rfl rfl rfl ?_;refine evs [] [(52,true)] ?_ ⟨⟨_,rfl,h6⟩,trivial⟩;refine sq ?_ ?_<;>intro h7 h7p h7s<;>(try simp only[Q] at h7p);refine rn [(950,some (.box [.d (.i (zaY w (n+1) ⟨-1,k⟩ v c).2)]))] (r1 rfl) (.eqd ?_) ⟨rfl,rfl⟩ (SubO.get ⟨.inr ?_,⟨.inl rfl,trivial⟩⟩) (zay rfl);rotate_left 2;refine rn [(950,some (.box [.d (.i (zaY w (n+1) ⟨-1,k⟩ v c).2)]))] (r1 rfl) (.eqd ?_) ⟨rfl,rfl⟩ (SubO.get ⟨.inr ?_,⟨.inl rfl,trivial⟩⟩) (zay rfl);rotate_left 2;refine sqF ?_;refine rn [(950,some (.box [.d (.i (zaY w (n+1) ⟨-1,k⟩ v c).2)]))] (r1 rfl) (.eqd ?_) ⟨rfl,rfl⟩ (SubO.get ⟨.inr ?_,⟨.inl rfl,trivial⟩⟩) (zay rfl);rotate_left 2;exact absurd h5 (by simp);all_goals (first|((refine congrArg D.bool ?_;unfold zaY;rw[if_neg h60,if_pos rfl];simp only[zat] at *;first|(simp_all[Val.cs_len];done)|(simp_all[Val.cs_len];intro h1 h2;omega));done)|((unfold zaY;rw[if_neg h60,if_pos rfl];rfl)))
  have he':a=(e:Int):=he;subst he';have hok':=hok;rw[Val.ok_iff] at hok;have hcl:=ziA hw (d:=e) (k:=k);have hdn:¬(e:Int) = -1:=by omega
  by_cases hv:v.num=0/\v.ctor∈zaV w ⟨e,k⟩
  ·have hal:=zfv hw hlt (k:=k) (zd0 (k:=k) (c:=v.ctor) hv.2);by_cases hlen:(zaa w ⟨e,k⟩ v.ctor).length=v.kids.length
   ·have hsc:zaY w (n+1) ⟨e,k⟩ v c=zc0 (zaY w n) (zaa w ⟨e,k⟩ v.ctor) v.kids (c+1):=by
     conv=>lhs;unfold zaY
     rw[if_neg h60,if_neg hdn,if_pos hv,if_pos hlen]
    rw[hsc];refine bd Tryz.f145 108 [] [] fun w0 F0 own kept hk=>?_;refine bx 3007 ?_;refine bx 3008 ?_;refine ev ?_;refine ar ?_ (by(constructor<;>omega));refine so ty3 ?_;refine tv ?_;refine sq ?_ ?_<;>intro h1 h1p h1s<;>(try simp only[Q,Val.cs_len,Ty.eta] at h1p);refine sqT ?_;exfalso;simp at *;omega;refine sq ?_ ?_<;>intro h3 h3p h3s<;>(try simp only[Q,Val.cs_len,Ty.eta] at h3p);exfalso;simp at *;omega;refine sqF ?_;refine sqF ?_;refine sq ?_ ?_<;>intro h5 h5p h5s<;>(try simp only[Q,Val.cs_len,Ty.eta] at h5p);exfalso;simp at * <;>omega;refine sq ?_ ?_<;>intro h6 h6p h6s<;>(try simp only[Q,Val.cs_len,Ty.eta] at h6p);refine dr ?_;refine sqT ?_;exfalso;have e1:=hv.1;have e2:=hv.2;simp_all;refine Walk.call (cr:=[]) zgA (zeg hw hlt) rfl (.some rfl rfl h6) rfl rfl (LeL.refl _) trivial rfl rfl rfl ?_;refine evd [] [(67,false)] ?_ ⟨⟨_,rfl,h6⟩,trivial⟩;refine Walk.call (cr:=[]) zkj (zca hcl) rfl (.some rfl rfl h6) rfl rfl (LeL.refl _) trivial rfl rfl rfl ?_;refine evd [] [(67,false)] ?_ ⟨⟨_,rfl,h6⟩,trivial⟩;refine dr ?_;refine sq ?_ ?_<;>intro h8 h8p h8s<;>(try simp only[Q,Val.cs_len,Ty.eta] at h8p);exfalso;have e1:=hv.1;have e2:=hv.2;simp_all;refine wc zen (ze9 hw hlt (zd0 (k:=k) (c:=v.ctor) hv.2)) rfl rfl ?_;refine ev ?_;refine sq ?_ ?_<;>intro h9 h9p h9s<;>(try simp only[Q,Val.cs_len,Ty.eta] at h9p);exfalso;simp[Val.cs_len,hlen] at h9;refine xak (ι:=Nat×Int) hk (fun x=>[(90,.d (.i (x.1:Int)))]) [12,14,15,91,92,93,94,95,96,97,98,99,100,101,102,103,104,105,106,107] (fun x=>[(950,some (.box [.d (.i x.2)]))]) (fun x=>x.1<=v.kids.length/\zc0 (zaY w n) ((zaa w ⟨e,k⟩ v.ctor).drop x.1) (v.kids.drop x.1) x.2=zc0 (zaY w n) (zaa w ⟨e,k⟩ v.ctor) v.kids (c+1)/\0<=x.2/\x.2<=60) (fun x=>v.kids.length-x.1) (0,c+1) ⟨by simp,by simp,by dsimp only;omega,by dsimp only;omega⟩ ⟨⟨_,rfl,xaq ?_⟩,trivial⟩ ⟨?_,trivial⟩ (fun x=>rfl) (fun x hg1=>?_);focus (rfl)
    focus (first|rfl|(simp[getH];done))
    refine evc [] [] ?_;refine sq ?_ ?_<;>intro h10 h10p h10s<;>(try simp only[Q,Val.cs_len,Ty.eta] at h10p);refine xaU sl47 .none rfl rfl rfl rfl (zgo (by omega)) rfl ?_;refine ev ?_;refine ab 3015 tz49 ?_;refine ev ?_;refine so ty49 ?_;refine tv ?_;refine xaU zaN .none rfl rfl rfl rfl (zaq (by omega)) rfl ?_;refine evd [] [] ?_;refine ar ?_ (by(constructor<;>omega));refine wd ztI (zg2 hw n (a:=(nth (zaa w ⟨e,k⟩ v.ctor) x.1).data) (k:=(nth (zaa w ⟨e,k⟩ v.ctor) x.1).index) (c:=x.2) (by omega) (by omega) (zh7 hw hlt (k:=k) (zd0 (k:=k) (c:=v.ctor) hv.2) (zae (by omega))) (Vals.ok_mem hok.2 _ (zae (by omega))) (by omega) (by omega)) rfl rfl ⟨rfl,trivial⟩ ?_;refine evd [] [] ?_;refine dr ?_;refine sq ?_ ?_<;>intro h11 h11p h11s<;>(try simp only[Q,Val.cs_len,Ty.eta] at h11p);refine rn [(950,some (.box [.d (.i (zc0 (zaY w n) (zaa w ⟨e,k⟩ v.ctor) v.kids (c+1)).2)]))] (r1 rfl) (.eqd ?_) ⟨rfl,rfl⟩ (SubO.get ⟨.inr ?_,⟨.inl rfl,trivial⟩⟩) (zay rfl);rotate_left 2;refine ar ?_ (by(constructor<;>omega));refine xah ((x.1+1,(zaY w n (nth (zaa w ⟨e,k⟩ v.ctor) x.1) (nth v.kids x.1) x.2).2)) ⟨(by
          have hz:(zaY w n (nth (zaa w ⟨e,k⟩ v.ctor) x.1) (nth v.kids x.1) x.2).1=true:=by simp_all
          have hb:=zvL w n _ _ _ hz;obtain⟨h1,h2,h3,h4⟩:=hg1;refine⟨by dsimp only;omega, ?_,by dsimp only;omega,by dsimp only;omega⟩;rw[<-h2,zts (i:=x.1) (by omega) hlen hz]),(by dsimp only;omega),sx ⟨⟨_,rfl,xaq ?_⟩,trivial⟩ ⟨?_,trivial⟩⟩
    focus (rfl)
    focus (first|rfl|(simp[getH];done))
    refine rn [(950,some (.box [.d (.i (zc0 (zaY w n) (zaa w ⟨e,k⟩ v.ctor) v.kids (c+1)).2)]))] (r1 rfl) (.eqd ?_) ⟨rfl,rfl⟩ (SubO.get ⟨.inr ?_,⟨.inl rfl,trivial⟩⟩) (zay rfl);rotate_left 2;all_goals (first|((refine congrArg D.bool ?_;first|(obtain⟨h1,h2,h3,h4⟩:=hg1;rw[<-h2,zpB (by simp[Val.cs_len] at *;omega)])|(obtain⟨h1,h2,h3,h4⟩:=hg1;rw[<-h2,znE (by simp[Val.cs_len] at *;omega) hlen (by simp_all)]));done)|(first|(obtain⟨h1,h2,h3,h4⟩:=hg1;show some (Res.box _)=some (Res.box _);rw[<-h2,zpB (by simp[Val.cs_len] at *;omega)])|(obtain⟨h1,h2,h3,h4⟩:=hg1;show some (Res.box _)=some (Res.box _);rw[<-h2,znE (by simp[Val.cs_len] at *;omega) hlen (by simp_all)])))
   ·have hsc:zaY w (n+1) ⟨e,k⟩ v c=(false,c+1):=by
     conv=>lhs;unfold zaY
     rw[if_neg h60,if_neg hdn,if_pos hv,if_neg hlen]
    rw[hsc];refine bd Tryz.f145 108 [] [] fun w0 F0 own kept hk=>?_;refine bx 3007 ?_;refine bx 3008 ?_;refine ev ?_;refine ar ?_;refine so ty3 ?_;refine tv ?_;refine sq ?_ ?_<;>intro h1 h1p h1s<;>(try simp only[Q,Val.cs_len] at h1p);refine sqT ?_;exfalso;simp at *;omega;refine sq ?_ ?_<;>intro h3 h3p h3s<;>(try simp only[Q,Val.cs_len] at h3p);exfalso;simp at *;omega;refine sqF ?_;refine sqF ?_;refine sq ?_ ?_<;>intro h5 h5p h5s<;>(try simp only[Q,Val.cs_len] at h5p);exfalso;simp at * <;>omega;refine sq ?_ ?_<;>intro h6 h6p h6s<;>(try simp only[Q,Val.cs_len] at h6p);refine dr ?_;refine sqT ?_;exfalso;have e1:=hv.1;have e2:=hv.2;simp_all;refine Walk.call (cr:=[]) zgA (zeg hw hlt) rfl (.some rfl rfl h6) rfl rfl (LeL.refl _) trivial rfl rfl rfl ?_;refine evd [] [(67,false)] ?_ ⟨⟨_,rfl,h6⟩,trivial⟩;refine Walk.call (cr:=[]) zkj (zca hcl) rfl (.some rfl rfl h6) rfl rfl (LeL.refl _) trivial rfl rfl rfl ?_;refine evd [] [(67,false)] ?_ ⟨⟨_,rfl,h6⟩,trivial⟩;refine dr ?_;refine sq ?_ ?_<;>intro h8 h8p h8s<;>(try simp only[Q,Val.cs_len] at h8p);exfalso;have e1:=hv.1;have e2:=hv.2;simp_all;refine wc zen (ze9 hw hlt (zd0 (k:=k) (c:=v.ctor) hv.2)) rfl rfl ?_;refine ev ?_;refine sq ?_ ?_<;>intro h9 h9p h9s<;>(try simp only[Q,Val.cs_len] at h9p);refine rn [(950,some (.box [.d (.i (c+1))]))] (r1 rfl) (.eqd ?_) ⟨rfl,rfl⟩ (SubO.get ⟨.inr ?_,⟨.inl rfl,trivial⟩⟩) (zay rfl);rotate_left 2;exfalso;simp[Val.cs_len] at h9;omega;all_goals (first|((rfl);done)|(rfl))
  ·have hsc:zaY w (n+1) ⟨e,k⟩ v c=(false,c+1):=by
    conv=>lhs;unfold zaY
    rw[if_neg h60,if_neg hdn,if_neg hv]
   rw[hsc];refine bd Tryz.f145 108 [] [] fun w0 F0 own kept hk=>?_;refine bx 3007 ?_;refine bx 3008 ?_;refine ev ?_;refine ar ?_;refine so ty3 ?_;refine tv ?_;refine sq ?_ ?_<;>intro h1 h1p h1s<;>(try simp only[Q] at h1p);refine sqT ?_;exfalso;simp at *;omega;refine sq ?_ ?_<;>intro h3 h3p h3s<;>(try simp only[Q] at h3p);exfalso;simp at *;omega;refine sqF ?_;refine sqF ?_;refine sq ?_ ?_<;>intro h5 h5p h5s<;>(try simp only[Q] at h5p);exfalso;simp at * <;>omega;refine sq ?_ ?_<;>intro h6 h6p h6s<;>(try simp only[Q] at h6p);refine dr ?_;refine sqT ?_;refine rn [(950,some (.box [.d (.i (c+1))]))] (r1 rfl) (.eqd ?_) ⟨rfl,rfl⟩ (SubO.get ⟨.inr ?_,⟨.inl rfl,trivial⟩⟩) (zay rfl);rotate_left 2;refine Walk.call (cr:=[]) zgA (zeg hw hlt) rfl (.some rfl rfl h6) rfl rfl (LeL.refl _) trivial rfl rfl rfl ?_;refine evd [] [(67,false)] ?_ ⟨⟨_,rfl,h6⟩,trivial⟩;refine Walk.call (cr:=[]) zkj (zca hcl) rfl (.some rfl rfl h6) rfl rfl (LeL.refl _) trivial rfl rfl rfl ?_;refine evd [] [(67,false)] ?_ ⟨⟨_,rfl,h6⟩,trivial⟩;refine dr ?_;refine sq ?_ ?_<;>intro h8 h8p h8s<;>(try simp only[Q] at h8p);refine rn [(950,some (.box [.d (.i (c+1))]))] (r1 rfl) (.eqd ?_) ⟨rfl,rfl⟩ (SubO.get ⟨.inr ?_,⟨.inl rfl,trivial⟩⟩) (zay rfl);rotate_left 2;exfalso;simp_all;all_goals (first|((rfl);done)|(rfl))
theorem zif {w:List Data} (hw:WT w){a k:Int}{v:Val} (ht:TyIn w.length ⟨a,k⟩) (hok:v.ok):
  FnD Tryz.prog 71 [.d (zah w),.agg [.d (.i a),.d (.i k)],.agg [.d (.i v.ctor),.d (.i v.num),.d (zaW v.kids)]] [] (.d (.bool (isV w ⟨a,k⟩ v))) []:=by
 have hz:=(zmq w 10 ⟨a,k⟩ v 0).1;rw[Int.zero_add] at hz;refine bd Tryz.f71 12 [] [] fun w0 F0 own kept hk=>?_;refine bx 3004 ?_;refine bx 3005 ?_;refine ev ?_;refine ab 950 tz3 ?_;refine so ty3 ?_;refine tv ?_;refine wd ztI (zg2 hw 10 (c:=0) (by omega) (by omega) ht hok (by omega) (by omega)) rfl rfl ⟨rfl,trivial⟩ ?_;refine ev ?_;refine rq ?_;rotate_left;all_goals (rw[hz];rfl)
theorem zeZ {α β:Type}{f:α->β->Bool}{a:List α}{b:List β} (h:all2 f a b=true):a.length=b.length:=by
 by_cases e:a.length=b.length
 ·exact e
 ·rw[ze6 e] at h;exact absurd h (by simp)
structure Bd where
 var:Int
 val:Val
def Bd.c (b:Bd):List D:=[.i b.var,.i b.val.ctor,.i b.val.num,zaW b.val.kids]
abbrev zqV (l:List Bd):D:= .sl (l.map Bd.c)
instance:Inhabited Bd:=⟨⟨0,default⟩⟩
def zbx (f:Pat->Val->List Bd×Bool):List Pat->List Val->List Bd->List Bd×Bool
 |p::r,v::s,acc=>if (f p v).2=true then zbx f r s (acc++(f p v).1) else ([],false)
 |_,_,acc=>(acc,true)
def zaw:Nat->Pat->Val->List Bd×Bool
 |0,_,_=>([],false)
 |n+1,p,v=>
  if p.op=1 then ([],true)
  else if p.op=2 then ([⟨p.var,v⟩],true)
  else if p.op=3 then ([],zat v.num p.n p.m)
  else if p.op=5 then (if (zaw n (nth p.kids 0) v).2=true then ((zaw n (nth p.kids 0) v).1,true) else zaw n (nth p.kids 1) v)
  else if p.op=6 then (⟨p.var,v⟩::(zaw n (nth p.kids 0) v).1,(zaw n (nth p.kids 0) v).2)
  else if p.ctor=v.ctor then zbx (zaw n) p.kids v.kids [] else ([],false)
section
variable {n:Nat}{p:Pat}{v:Val}
theorem zfj (h:p.op=1):zaw (n+1) p v=([],true):=by unfold zaw;rw[if_pos h]
theorem zf9 (h:p.op=2):zaw (n+1) p v=([⟨p.var,v⟩],true):=by unfold zaw;rw[if_neg (by omega),if_pos h]
theorem zeQ (h:p.op=3):zaw (n+1) p v=([],zat v.num p.n p.m):=by unfold zaw;rw[if_neg (by omega),if_neg (by omega),if_pos h]
theorem zfb (h:p.op=5) (h2:(zaw n (nth p.kids 0) v).2=true):zaw (n+1) p v=((zaw n (nth p.kids 0) v).1,true):=by
 conv=>lhs;unfold zaw
 rw[if_neg (by omega),if_neg (by omega),if_neg (by omega),if_pos h,if_pos h2]
theorem zgc (h:p.op=5) (h2:(zaw n (nth p.kids 0) v).2=false):zaw (n+1) p v=zaw n (nth p.kids 1) v:=by
 conv=>lhs;unfold zaw
 rw[if_neg (by omega),if_neg (by omega),if_neg (by omega),if_pos h,if_neg (by rw[h2];simp)]
theorem zfk (h:p.op=6):zaw (n+1) p v=(⟨p.var,v⟩::(zaw n (nth p.kids 0) v).1,(zaw n (nth p.kids 0) v).2):=by
 conv=>lhs;unfold zaw
 rw[if_neg (by omega),if_neg (by omega),if_neg (by omega),if_neg (by omega),if_pos h]
theorem zga (h:p.op=4) (h2:p.ctor=v.ctor):zaw (n+1) p v=zbx (zaw n) p.kids v.kids []:=by
 conv=>lhs;unfold zaw
 rw[if_neg (by omega),if_neg (by omega),if_neg (by omega),if_neg (by omega),if_neg (by omega),if_pos h2]
theorem zgb (h:p.op=4) (h2:¬p.ctor=v.ctor):zaw (n+1) p v=([],false):=by
 conv=>lhs;unfold zaw
 rw[if_neg (by omega),if_neg (by omega),if_neg (by omega),if_neg (by omega),if_neg (by omega),if_neg h2]
end
theorem znj {f:Pat->Val->List Bd×Bool}:∀ {a:List Pat}{b:List Val}{acc:List Bd},(zbx f a b acc).2=true->∀i,i<a.length->i<b.length->(f (nth a i) (nth b i)).2=true
 | [],_,_,_,i,h,_=>by simp at h
 |_::_,[],_,_,i,_,h=>by simp at h
 |p::r,v::s,acc,h,i,h1,h2=>by
  unfold zbx at h;split at h
  ·rename_i hp;cases i with
   |zero=>exact hp
   |succ i=>exact znj h i (by simpa using h1) (by simpa using h2)
  ·exact absurd h (by simp)
theorem zlN {f:Pat->Val->List Bd×Bool}{a:List Pat}{b:List Val}{acc:List Bd}{i:Nat} (h1:i<a.length) (h2:i<b.length) (h:(f (nth a i) (nth b i)).2=true):
  zbx f (a.drop i) (b.drop i) acc=zbx f (a.drop (i+1)) (b.drop (i+1)) (acc++(f (nth a i) (nth b i)).1):=by
 rw[zaH h1,zaH h2];conv=>lhs;unfold zbx
 rw[if_pos h]
theorem ztg {f:Pat->Val->List Bd×Bool}{a:List Pat}{b:List Val}{acc:List Bd}{i:Nat} (h1:i<a.length) (h2:i<b.length) (h:(f (nth a i) (nth b i)).2=false):
  zbx f (a.drop i) (b.drop i) acc=([],false):=by
 rw[zaH h1,zaH h2];conv=>lhs;unfold zbx
 rw[if_neg (by rw[h];simp)]
theorem znk {f:Pat->Val->List Bd×Bool}{a:List Pat}{b:List Val}{acc:List Bd}{i:Nat} (h1:a.length<=i):zbx f (a.drop i) (b.drop i) acc=(acc,true):=by
 rw[List.drop_eq_nil_of_le h1];cases b.drop i<;>rfl
def BdOk (m:Nat) (l:List Bd):Prop:=∀x∈l,x.val.ok/\x.val.size<=m
theorem BdOk.app {m:Nat}{a b:List Bd} (h1:BdOk m a) (h2:BdOk m b):BdOk m (a++b):=fun x hx=>by
 rcases List.mem_append.1 hx with h|h
 ·exact h1 x h
 ·exact h2 x h
theorem BdOk.mono {m k:Nat}{a:List Bd} (h:BdOk m a) (hk:m<=k):BdOk k a:=fun x hx=>⟨(h x hx).1,Nat.le_trans (h x hx).2 hk⟩
theorem zpl {f:Pat->Val->List Bd×Bool}{m:Nat}:∀ {a:List Pat}{b:List Val}{acc:List Bd}{k:Nat},(∀p∈a,∀v∈b,BdOk m (f p v).1/\(f p v).1.length<=p.size)->BdOk m acc->acc.length<=k->BdOk m (zbx f a b acc).1/\(zbx f a b acc).1.length<=k+Pats.size a
 | [],b,acc,k,_,h2,h3=>by cases b<;>exact⟨h2,by simp only[zbx,Pats.size];omega⟩
 |_::_,[],acc,k,_,h2,h3=>⟨h2,by simp only[zbx];omega⟩
 |p::r,v::s,acc,k,h1,h2,h3=>by
  unfold zbx;split
  ·have h4:=h1 p (by simp) v (by simp);have:=zpl (f:=f) (a:=r) (b:=s) (acc:=acc++(f p v).1) (k:=k+p.size) (fun q hq u hu=>h1 q (by simp[hq]) u (by simp[hu])) (h2.app h4.1) (by rw[xaa];omega);refine⟨this.1, ?_⟩;simp only[Pats.size];omega
  ·exact⟨fun x hx=>by simp at hx,by simp⟩
theorem zu5 {w:List Data}{t:Ty}{p:Pat} (h:p.op=5):zac w t p=[t,t]:=by unfold zac;rw[if_neg (by omega),if_pos h]
theorem zu6 {w:List Data}{t:Ty}{p:Pat} (h:p.op=6):zac w t p=[t]:=by unfold zac;rw[if_neg (by omega),if_neg (by omega),if_pos h]
theorem zaU {w:List Data}{t:Ty}{p:Pat} (h:p.op=4):zac w t p=zaa w t p.ctor:=by unfold zac;rw[if_pos h]
theorem zfd {w:List Data}{n:Nat}{t:Ty}{p:Pat} (h:zan w (n+1) t p=true):p.op=1\/p.op=2\/p.op=3\/p.op=4\/p.op=5\/p.op=6:=by
 have h1:=(zbe h).1;unfold ownP at h1;have h2:=(of_decide_eq_true h1).2.2.2.2;omega
theorem zfq {w:List Data}{n:Nat}{t:Ty}{p:Pat} (h:zan w (n+1) t p=true) (h5:p.op=5):p.kids.length=2/\zan w n t (nth p.kids 0)=true/\zan w n t (nth p.kids 1)=true:=by
 have hl:=(zbe h).2;have h0:=fun i hi=>zbg h (i:=i) hi;rw[zu5 h5] at hl h0;have hl':p.kids.length=2:=hl;exact⟨hl',h0 0 (by omega),h0 1 (by omega)⟩
theorem zcr {w:List Data}{n:Nat}{t:Ty}{p:Pat} (h:zan w (n+1) t p=true) (h6:p.op=6):p.kids.length=1/\zan w n t (nth p.kids 0)=true:=by
 have hl:=(zbe h).2;have h0:=fun i hi=>zbg h (i:=i) hi;rw[zu6 h6] at hl h0;have hl':p.kids.length=1:=hl;exact⟨hl',h0 0 (by omega)⟩
theorem zey {w:List Data}:∀(n:Nat){t:Ty}{p:Pat}{v:Val},zan w n t p=true->v.ok->BdOk v.size (zaw n p v).1/\(zaw n p v).1.length<=p.size
 |0,t,p,v,h,_=>by simp[zan] at h
 |n+1,t,p,v,h,hv=>by
  have hs:=Pat.size_eq p;have hsv:=Val.size_eq v;have hv':=hv;rw[Val.ok_iff] at hv';have one:BdOk v.size [⟨p.var,v⟩]:=fun x hx=>by simp only[List.mem_singleton] at hx;subst hx;exact⟨hv,Nat.le_refl _⟩
  have nil:BdOk v.size []:=fun x hx=>by simp at hx
  by_cases h1:p.op=1
  ·rw[zfj h1];exact⟨nil,by simp⟩
  by_cases h2:p.op=2
  ·rw[zf9 h2];exact⟨one,by simp only[List.length_singleton];omega⟩
  by_cases h3:p.op=3
  ·rw[zeQ h3];exact⟨nil,by simp⟩
  by_cases h5:p.op=5
  ·obtain⟨hl,s0,s1⟩:=zfq h h5;have k0:=zey n s0 hv;have k1:=zey n s1 hv;have z0:=zcg (l:=p.kids) (i:=0) (by omega);have z1:=zcg (l:=p.kids) (i:=1) (by omega);cases hm:(zaw n (nth p.kids 0) v).2 with
   |true=>rw[zfb h5 hm];exact⟨k0.1,by have:=k0.2;dsimp only;omega⟩
   |false=>rw[zgc h5 hm];exact⟨k1.1,by have:=k1.2;omega⟩
  by_cases h6:p.op=6
  ·obtain⟨hl,s0⟩:=zcr h h6;have k0:=zey n s0 hv;have z0:=zcg (l:=p.kids) (i:=0) (by omega);rw[zfk h6];exact⟨one.app k0.1,by have:=k0.2;simp only[xab];omega⟩
  have h4:p.op=4:=by have:=zfd h;omega
  by_cases hc:p.ctor=v.ctor
  ·rw[zga h4 hc];have:=zpl (f:=zaw n) (m:=v.size) (a:=p.kids) (b:=v.kids) (acc:=[]) (k:=0) (fun q hq u hu=>by
    obtain⟨i,hi,rfl⟩:=List.getElem_of_mem hq;have e:p.kids[i]=nth p.kids i:=by simp[nth,List.getD,hi]
    have:=zey n (v:=u) (zbg h hi) (Vals.ok_mem hv'.2 u hu);rw[e];exact⟨this.1.mono (by have:=Vals.size_mem hu;omega),this.2⟩) nil (by simp)
   exact⟨this.1,by have:=this.2;omega⟩
  ·rw[zgb h4 hc];exact⟨nil,by simp⟩
theorem zsB {w:List Data}:∀(m:Nat){t:Ty}{v:Val},zaK w m t v=true->Hd w m t
 |0,_,_,h=>by simp[zaK] at h
 |m+1,t,v,h=>by
  by_cases hd:t.data = -1
  ·exact .inl hd
  ·unfold zaK at h;rw[if_neg hd] at h;split at h
   ·rename_i hc;have hl:=zeZ h;refine .inr ⟨v.ctor,hc.2,hd,fun u hu=>?_⟩;obtain⟨i,hi,rfl⟩:=List.getElem_of_mem hu;have:=zc5 hl h i hi;have e:(zaa w t v.ctor)[i]=nth (zaa w t v.ctor) i:=by simp[nth,List.getD,hi]
    rw[e];exact zsB m this
   ·exact absurd h (by simp)
theorem zwJ {w:List Data} (hd:Dp w){m:Nat}{t:Ty}{v:Val} (ht:InS (w.length*4) t) (h:zaK w m t v=true):0<dv (zaf w) t:=by
 have a:Snd w (zaf w)/\Cmp w (w.length*4+1) (zaf w):=zdz hd.cl (w.length*4+1);have h1:=zsB m h;rcases ht with ht|ht
 ·unfold dv;rw[if_pos ht];omega
 ·refine(zkq (k:=w.length*4+1) a.2 (.inr ht) ?_).1;have:=ht.2;rw[<-this] at h1 ⊢;exact zm6 hd.cl ht.1 h1
theorem zdR {w:List Data}{m:Nat}{t:Ty}{v:Val} (h:zaK w (m+1) t v=true) (hd:t.data≠ -1):v.ctor∈zal w t/\(zaa w t v.ctor).length=v.kids.length/\∀i,i<v.kids.length->zaK w m (nth (zaa w t v.ctor) i) (nth v.kids i)=true:=by
 unfold zaK at h;rw[if_neg hd] at h;split at h
 ·rename_i hc;have hl:=zeZ h;exact⟨by unfold zal;rw[if_neg hd];exact hc.2,hl,fun i hi=>zc5 hl h i (by omega)⟩
 ·exact absurd h (by simp)
end Go.Proofs.YtlfipehhbdjnjaaGreat
namespace Go.Proofs.YtlfipehhbdjnjaaGreat
open Go
set_option linter.unusedSimpArgs false
set_option linter.unusedVariables false
def capN (n:Nat):Nat:=if 401<n then 401 else n
end Go.Proofs.YtlfipehhbdjnjaaGreat
namespace Go.Proofs.YtlfipehhbdjnjaaGreat
open Go
set_option linter.unusedSimpArgs false
set_option linter.unusedVariables false
set_option maxRecDepth 100000
set_option maxHeartbeats 2000000
theorem Val.cs_cc (l:List Val):Val.cs l=l.map Val.cc:=by
 rw[Val.cs_eq];exact List.map_congr_left (fun v _=>Val.c_eq v)
theorem zhM:∀(n:Nat){v:Val},v.size<=n->v.ok->FnD Tryz.prog 150 [.agg [.d (.i v.ctor),.d (.i v.num),.d (zaW v.kids)]] [] (.agg [.d (.i v.ctor),.d (.i v.num),.d (zaW v.kids)]) []
 |0,v,h,_=>by rw[Val.size_eq] at h;omega
 |n+1,v,h,hok=>by
  rw[Val.size_eq] at h;rw[Val.ok_iff] at hok;have hok1:=hok.1;refine bd Tryz.f150 27 [] [] fun w0 F0 own kept hk=>?_;refine bx 3001 ?_;refine ab 3002 tz49 ?_;refine tv ?_;refine bu [0,1] [_,_] st49 ?_;refine ab 3003 tz49 ?_;refine so ty49 ?_;refine tv ?_;refine xan 3003 2 7 3 rfl rfl rfl rfl ?_;refine xak (ι:=List (Val)×List (Val)) hk (fun x=>[(14,.d (.i (x.1.length:Int)))]) [5,15,16,17,18,19,20,21,22,23,24,25] (fun x=>[(3003,some (.box [.d (.i v.ctor),.d (.i v.num),.gl 7 (x.1.map Val.cc)])),(7,some (.tok (x.1.map Val.cc).length 3))]) (fun x=>x.1++x.2=v.kids) (fun x=>x.2.length) ([],v.kids) (by simp) ⟨⟨_,rfl,xaq ?_⟩,trivial⟩ ⟨?_,⟨zab ?_,trivial⟩⟩ (fun x=>rfl) (fun x hg1=>?_);focus (rfl)
  focus (first|rfl|(simp[getH];done))
  focus (rfl)
  obtain⟨pre,rest⟩:=x;dsimp only at hg1 ⊢;refine evc [] [] ?_;refine sq ?_ ?_<;>intro h1 h1p h1s<;>(try simp only[Q,Val.cs_len] at h1p);rcases rest with _|⟨y,rest⟩
  ·exfalso;simp_all
  refine xaU sl47 .none rfl rfl rfl rfl (Val.cs_at hg1) rfl ?_;refine ev ?_;refine ab 3005 tz49 ?_;refine so ty49 ?_;refine tv ?_;refine wc ztK (zhM n (v:=y) (by have:=Vals.size_mem (l:=v.kids) (v:=y) (by rw[<-hg1];simp);omega) (Vals.ok_mem hok.2 y (by rw[<-hg1];simp))) rfl rfl ?_;refine si [0] [_] sl47 tz49 ?_;refine ap sl47 zz49 rfl rfl rfl (by simp) (by have:=congrArg List.length hg1;simp at this;simp;omega) ?_;refine evd [] [] ?_;refine so ty47 ?_;refine dr ?_;refine ar ?_;refine xah ((pre++[y],rest)) ⟨(by have hz:=hg1;rw[<-hz];simp),(by simp),sx ⟨⟨_,rfl,xaq ?_⟩,trivial⟩ ⟨?_,⟨zab ?_,trivial⟩⟩⟩;focus ((simp;done))
  focus (first|rfl|(simp[getH];done))
  focus ((simp;done))
  have hrest:rest=[]:=by
   rcases rest with _|⟨a,b⟩
   ·rfl
   ·exfalso;have hz:=congrArg List.length (hg1);simp only[xaa,xab,xac] at hz;omega
  subst hrest;refine so ty49 ?_;refine tv ?_;refine rn0 (.cons (.cellA ty49 rfl rfl rfl) .nil) (.agg (.cons (.eqd ?_) (.cons (.eqd ?_) (.cons (.gld ?_) .nil))));rotate_left 3;all_goals (first|rfl|(rw[List.append_nil] at hg1;rw[<-hg1,Val.cs_cc];done))
end Go.Proofs.YtlfipehhbdjnjaaGreat
namespace Go.Proofs.YtlfipehhbdjnjaaGreat
open Go
set_option linter.unusedSimpArgs false
set_option linter.unusedVariables false
theorem Vals.ok_of:∀ {l:List Val},(∀v∈l,v.ok)->Vals.ok l
 | [],_=>trivial
 |v::r,h=>⟨h v (by simp),Vals.ok_of (fun x hx=>h x (List.mem_cons_of_mem _ hx))⟩
end Go.Proofs.YtlfipehhbdjnjaaGreat
namespace Go.Proofs.YtlfipehhbdjnjaaGreat
open Go
set_option linter.unusedSimpArgs false
set_option linter.unusedVariables false
set_option maxRecDepth 100000
set_option maxHeartbeats 2000000
theorem zeE {α:Type}{N:Nat}{X Y:List α} (h:N<=X.length):(X++Y).take N=X.take N:=by
 rw[List.take_append,(by omega:N-X.length=0)];simp
theorem zw6 {α β:Type} [Inhabited β]{X:List α}{l:List β}{h:β->α}{j m:Nat} (hj:j<l.length) (hl:((X++(l.take j).map h).take (m+1)).length<=m):
  (X++(l.take (j+1)).map h).take (m+1)=(X++(l.take j).map h).take (m+1)++[h (nth l j)]:=by
 have e1:l.take (j+1)=l.take j++[nth l j]:=by rw[List.take_succ_eq_append_getElem hj,za1 hj]
 rw[List.length_take] at hl;have h2:(X++(l.take j).map h).length<=m:=by omega
 rw[e1,xaf,<-List.append_assoc,List.take_of_length_le (by simp at h2 ⊢;omega),List.take_of_length_le (l:=X++(l.take j).map h) (by omega)];rfl
theorem zw5 {α β:Type}{X:List α}{l:List β}{h:β->α}{j m:Nat} (hc:¬j<l.length\/¬((X++(l.take j).map h).take (m+1)).length<=m):
  (X++(l.take j).map h).take (m+1)=(X++l.map h).take (m+1):=by
 rcases hc with hc|hc
 ·rw[List.take_of_length_le (l:=l) (by omega)]
 ·rw[List.length_take] at hc;have e:l.map h=(l.take j).map h++(l.drop j).map h:=by rw[<-xaf,List.take_append_drop]
  rw[e,<-List.append_assoc,zeE (X:=X++(l.take j).map h) (by omega)]
theorem zsD {α β:Type} [Inhabited β]{l:List β}{g:β->List α}{j:Nat} (hj:j<l.length):(l.take (j+1)).flatMap g=(l.take j).flatMap g++g (nth l j):=by
 rw[List.take_succ_eq_append_getElem hj,List.flatMap_append,za1 hj];simp
theorem zop {α β:Type}{l:List β}{g:β->List α}{j m:Nat} (hc:¬j<l.length\/¬(((l.take j).flatMap g).take (m+1)).length<=m):
  ((l.take j).flatMap g).take (m+1)=(l.flatMap g).take (m+1):=by
 rcases hc with hc|hc
 ·rw[List.take_of_length_le (l:=l) (by omega)]
 ·rw[List.length_take] at hc;have e:l.flatMap g=(l.take j).flatMap g++(l.drop j).flatMap g:=by rw[<-List.flatMap_append,List.take_append_drop]
  rw[e,zeE (X:=(l.take j).flatMap g) (by omega)]
abbrev bdA (b:Bd):List AV:=[.d (.i b.var),.d (.i b.val.ctor),.d (.i b.val.num),.d (zaW b.val.kids)]
def bdC (L:List Bd):List AV:=((L.map Bd.c).flatten).map AV.d
theorem ziS:∀ {L:List Bd}{i:Nat},i<L.length->cutC (bdC L) (i*4) 4=some (bdA (nth L i))
 |x::r,0,_=>by simp[cutC,nth,bdC,Bd.c]
 |x::r,i+1,h=>by
  have:=ziS (L:=r) (i:=i) (by simpa using h);rw[show(i+1)*4=i*4+1+1+1+1 by omega];exact this
theorem zru:∀ {L:List Bd}{i:Nat}{e:Bd},i<L.length->putC (bdC L) (i*4) (bdA e)=some (bdC (L.set i e))
 |x::r,0,e,_=>by simp[putC,bdC,Bd.c]
 |x::r,i+1,e,h=>by
  have:=zru (L:=r) (i:=i) (e:=e) (by simpa using h);rw[show(i+1)*4=i*4+1+1+1+1 by omega];show putC (.d _:: .d _:: .d _:: .d _::bdC r) (i*4+1+1+1+1) (bdA e)=_
  simp only[putC,this];rfl
theorem zuI:∀ {L:List Bd}{i:Nat},i<L.length->putC (bdC L) (i*4+1) [.d (.i (nth L i).val.ctor),.d (.i (nth L i).val.num),.d (zaW (nth L i).val.kids)]=some (bdC L)
 |x::r,0,_=>by simp[putC,nth,bdC,Bd.c]
 |x::r,i+1,h=>by
  have:=zuI (L:=r) (i:=i) (by simpa using h);rw[show(i+1)*4+1=i*4+1+1+1+1+1 by omega];show putC (.d _:: .d _:: .d _:: .d _::bdC r) (i*4+1+1+1+1+1) [.d (.i (nth r i).val.ctor),.d (.i (nth r i).val.num),.d (zaW (nth r i).val.kids)]=_
  simp only[putC,this];rfl
theorem zvi (L:List Bd):zbS (L.map Bd.c).length 4 (bdC L)=some (L.map Bd.c):=by
 have:=zd9 (f:=Bd.c) (k:=4) (l:=L) (fun _ _=>rfl);rw[xac,<-this];congr 1
 unfold bdC;rw[List.map_flatten,List.flatMap_def,List.map_map];rfl
def zgx (L:List Bd) (j:Nat):List Bd:=(L.set (j+1) (nth L j)).set j (nth L (j+1))
theorem zlc {L:List Bd}{j:Nat}:(zgx L j).length=L.length:=by simp[zgx]
def zde:Nat->List Bd->List Bd
 |0,L=>L
 |j+1,L=>if (nth L (j+1)).var<(nth L j).var then zde j (zgx L j) else L
theorem zw1 {j:Nat}{L:List Bd} (h:(nth L (j+1)).var<(nth L j).var):zde (j+1) L=zde j (zgx L j):=by
 conv=>lhs;unfold zde
 rw[if_pos h]
theorem zuS {j:Nat}{L:List Bd} (h:¬(nth L (j+1)).var<(nth L j).var):zde (j+1) L=L:=by
 unfold zde;rw[if_neg h]
theorem zin:∀(j:Nat) (L:List Bd),(zde j L).length=L.length
 |0,_=>rfl
 |j+1,L=>by
  unfold zde;split
  ·rw[zin j,zlc]
  ·rfl
def zdG:Nat->Nat->List Bd->List Bd
 |0,_,L=>L
 |k+1,i,L=>zdG k (i+1) (zde i L)
theorem znI {n i:Nat}{L:List Bd} (h:i<n):zdG (n-i) i L=zdG (n-(i+1)) (i+1) (zde i L):=by
 obtain⟨k,rfl⟩:∃k,n=i+1+k:=⟨n-(i+1),by omega⟩;rw[show i+1+k-i=k+1 by omega,show i+1+k-(i+1)=k by omega];rfl
theorem zuW {n i:Nat}{L:List Bd} (h:n<=i):zdG (n-i) i L=L:=by
 rw[show n-i=0 by omega];rfl
theorem zff (L:List Bd):AV.idsL (bdC L)=[]:=by
 unfold bdC;generalize (L.map Bd.c).flatten=l;induction l with
 |nil=>rfl
 |cons x r ih=>simpa [AV.idsL,AV.ids] using ih
theorem zyE (b:UInt8):0<=IntKind.i64.wrap (b.toNat:Int)/\IntKind.i64.wrap (b.toNat:Int)<=255:=by
 have h:b.toNat<256:=b.toNat_lt;rw[zd3 ⟨by omega,by omega⟩];omega
theorem ar8 (b:UInt8):I64 (0+IntKind.i64.wrap (b.toNat:Int)):=by
 have:=zyE b;constructor<;>omega
theorem zk0 {j:Nat}{L:List Bd} (h:j=0\/¬(nth L j).var<(nth L (j-1)).var):zde j L=L:=by
 cases j with
 |zero=>rfl
 |succ j=>exact zuS (h.resolve_left (by omega))
theorem zkO {L L':List Bd}:za6 [(9,some (.box (bdC L)))] [(9,some (.box (bdC L')))] (AV.tup []) []=true:=by
 simp only[za6,List.all_cons,List.all_nil,zcl,zb0,AV.idsL,AV.ids,zaj,zff,xae,List.map_nil];rfl
section
variable {c:Ctx}{env:Env}{hp:Hp}{K:Kt}
theorem CWp.condF {x y:Code} (hn:CWp c y ⟨env,hp⟩ K):CWp c (.cond (.const (.bool false)) x y) ⟨env,hp⟩ K:=by
 intro a w hr;have he:a.eval (.const (.bool false)) = .bool false:=rfl;exact wp_cond_split he (fun h=>by cases h) (fun _=>hn a w hr)
end
def cmpV (x y:Int):Int:=if x<y then -1 else if y<x then 1 else 0
theorem zjj {x y:Int}:cmpV x y<0↔x<y:=by
 unfold cmpV;split
 ·omega
 ·split<;>omega
theorem zu8 {n:Int} (h:0<=n) (h2:n<=12):IntKind.u64.wrap n=n:=by
 obtain⟨k,rfl⟩:=Int.eq_ofNat_of_zero_le h;have:k<=12:=by omega
 have h3:k=0\/k=1\/k=2\/k=3\/k=4\/k=5\/k=6\/k=7\/k=8\/k=9\/k=10\/k=11\/k=12:=by omega
 rcases h3 with rfl|rfl|rfl|rfl|rfl|rfl|rfl|rfl|rfl|rfl|rfl|rfl|rfl<;>rfl
theorem zvU {n:Int} (h:0<=n) (h2:n<=12):IntKind.u8.wrap n=n:=by
 obtain⟨k,rfl⟩:=Int.eq_ofNat_of_zero_le h;have:k<=12:=by omega
 have h3:k=0\/k=1\/k=2\/k=3\/k=4\/k=5\/k=6\/k=7\/k=8\/k=9\/k=10\/k=11\/k=12:=by omega
 rcases h3 with rfl|rfl|rfl|rfl|rfl|rfl|rfl|rfl|rfl|rfl|rfl|rfl|rfl<;>rfl
theorem zkm {x:Int}:FnD Tryz.prog 240 [.d (.i x)] [] (.d (.bool false)) []:=by
 refine bd Tryz.f240 6 [] [] fun w0 F0 own kept hk=>?_;refine rq ?_;rotate_left;all_goals ((refine congrArg D.bool ?_;simp;done))
theorem zoi {x y:Int}:FnD Tryz.prog 149 [.d (.i x),.d (.i y)] [] (.d (.i (cmpV x y))) []:=by
 refine bd Tryz.f149 20 [] [] fun w0 F0 own kept hk=>?_;refine wc ztY (zkm) rfl rfl ?_;refine ev ?_;refine wc ztY (zkm) rfl rfl ?_;refine ev ?_;refine sq ?_ ?_<;>intro h1 h1p h1s<;>(try simp only[Q] at h1p);refine sq ?_ ?_<;>intro h2 h2p h2s<;>(try simp only[Q] at h2p);refine rq ?_;rotate_left;refine rq ?_;rotate_left;refine sq ?_ ?_<;>intro h3 h3p h3s<;>(try simp only[Q] at h3p);refine rq ?_;rotate_left;refine sq ?_ ?_<;>intro h4 h4p h4s<;>(try simp only[Q] at h4p);refine rq ?_;rotate_left;refine sq ?_ ?_<;>intro h5 h5p h5s<;>(try simp only[Q] at h5p);refine rq ?_;rotate_left;refine rq ?_;rotate_left;all_goals (refine congrArg D.i ?_;unfold cmpV;first|(simp_all;done)|(rw[if_pos (by omega)];done)|(rw[if_neg (by omega),if_neg (by omega)];done))
theorem zlA {a b:Bd}:FnD Tryz.prog 148 [.agg (bdA a),.agg (bdA b)] [] (.d (.i (cmpV a.var b.var))) []:=by
 refine bd Tryz.f148 10 [] [] fun w0 F0 own kept hk=>?_;refine bx 3002 ?_;refine bx 3003 ?_;refine ev ?_;refine wc zxq (zoi) rfl rfl ?_;refine ev ?_;refine rq ?_;rotate_left;all_goals (rfl)
theorem zpS {m:Int} (h0:0<=m) (h12:m<=12):FnD Tryz.prog 316 [.d (.int .u64 m)] [] .any []:=by
 have hu:=zvU h0 h12;refine bd Tryz.f316 25 [4,8,14] [] fun w0 F0 own kept hk=>?_;refine xaT .none rfl rfl rfl ?_;refine tv ?_;refine sq ?_ ?_<;>intro h1 h1p h1s<;>(try simp only[Q] at h1p);exfalso;omega;refine xaT .none rfl rfl rfl ?_;refine tv ?_;refine sq ?_ ?_<;>intro h2 h2p h2s<;>(try simp only[Q] at h2p);exfalso;omega;refine xaT .none rfl rfl rfl ?_;refine tv ?_;refine sq ?_ ?_<;>intro h3 h3p h3s<;>(try simp only[Q] at h3p);exfalso;omega;refine xaM (k':= .u8) (by kernel_rfl) (by kernel_rfl) .none rfl rfl ?_;refine xaZ (i:=m.toNat) un9 .none rfl rfl rfl (by rw[hu];omega) (List.getElem?_eq_getElem (by first|omega|(simp;omega))) ?_;refine xaM (by rw[un5];rfl) un3 .none rfl rfl ?_;refine evs [4,8,14] [] ?_;refine ar ?_ (ar8 _);refine rn0 (r1 rfl) (.any _)
theorem zxW:Callee Tryz.prog 316:=⟨fun args w=>zad (fn:=Tryz.f316) rfl rfl (by decide) args w⟩
theorem zlF {m:Int} (h0:0<=m) (h12:m<=12):FnD Tryz.prog 239 [.d (.int .u64 m)] [] .any []:=by
 refine Fn.body (fn:=Tryz.f239) (n:=8) rfl rfl rfl rfl rfl (fun w0 F0 own kept hk=>?_);refine sr ?_;refine asg ?_;refine tv ?_;refine CWp.seq ?_;refine CWp.condF ?_;refine CWp.skip ?_;refine sr ?_;refine mv ?_;refine wc zxW (zpS h0 h12) rfl rfl ?_;refine asg ?_;refine tv ?_;refine CWp.ret ?_;refine⟨_,_,[],(.cons (.tmp rfl) .nil),(.any _),⟨rfl,rfl⟩,HSub.nil,zwj⟩
theorem zh5 {L:List Bd}{f:Nat} (hn:L.length<=12) (hcal:Callee Tryz.prog f) (hf:∀a b:Bd,FnD Tryz.prog f ([.agg (bdA a),.agg (bdA b)]++[]) [] (.d (.i (cmpV a.var b.var))) []):
  FnD Tryz.prog 307 [.ms 9 L.length,.d (.i 0),.d (.i L.length),.fn f []] [(9,some (.box (bdC L)))] (.tup []) [(9,some (.box (bdC (zdG (L.length-1) 1 L))))]:=by
 refine bd Tryz.f307 53 [26,31,46,50] [] fun w0 F0 own kept hk=>?_;refine ar ?_;refine xak (ι:=Nat×List Bd) hk (fun x=>[(8,.d (.i (x.1:Int)))]) [9,12,13,14,15,16,17,18,19,20,21,22,23,24,25,26,27,28,29,30,31,32,33,34,35,36,37,38,39,40,41,42,43,44,45,46,47,48,49,50,51,52] (fun x=>[(9,some (.box (bdC x.2)))]) (fun x=>1<=x.1/\x.1<=L.length+1/\x.2.length=L.length/\zdG (L.length-x.1) x.1 x.2=zdG (L.length-1) 1 L) (fun x=>L.length-x.1) (1,L) ⟨by simp,by simp,rfl,rfl⟩ ⟨⟨_,rfl,xaq ?_⟩,trivial⟩ ⟨?_,trivial⟩ (fun x=>rfl) (fun x hg1=>?_);focus (first|rfl|omega)
 focus (first|rfl|(show some (Res.box _)=some (Res.box _);rw[<-hg2.2.2,zk0 (by first|(left;omega)|(right;rw[<-zjj];assumption))]))
 refine evc [26,31,46,50] [] ?_;refine sq ?_ ?_<;>intro h1 h1p h1s<;>(try simp only[Q] at h1p);refine xak (ι:=Nat×List Bd) hk (fun y=>[(9,.d (.i (y.1:Int)))]) [18,19,20,21,22,23,24,25,26,27,28,29,30,31,32,33,34,35,36,37,38,39,40,41,42,43,44,45,46,47,48,49,50,51,52] (fun y=>[(9,some (.box (bdC y.2)))]) (fun y=>y.1<=x.1/\y.2.length=L.length/\zde y.1 y.2=zde x.1 x.2) (fun y=>y.1) (x.1,x.2) ⟨Nat.le_refl _,hg1.2.2.1,rfl⟩ ⟨⟨_,rfl,xaq ?_⟩,trivial⟩ ⟨?_,trivial⟩ (fun x=>rfl) (fun y hg2=>?_);focus (first|rfl|omega)
 focus (first|rfl|(show some (Res.box _)=some (Res.box _);unfold zgx;rw[show y.1-1+1=y.1 by omega]))
 refine evc [26,31,46,50] [] ?_;refine sq ?_ ?_<;>intro h2 h2p h2s<;>(try simp only[Q] at h2p);refine xaY sl52 (.some rfl rfl h2) rfl rfl rfl rfl (by omega) ?_;refine xa1 zix (.some rfl rfl h2) rfl rfl rfl ((ziS (by omega))) ?_;refine evd [26,31,46,50] [(21,true)] ?_ ⟨⟨_,rfl,h2⟩,trivial⟩;refine ar ?_;refine xaY (i:=y.1-1) sl52 (.some rfl rfl h2) rfl rfl rfl (by omega) (by omega) ?_;refine xa1 zix (.some rfl rfl h2) rfl rfl rfl ((ziS (by omega))) ?_;refine xaJ (cr:=[]) hcal (hf _ _) rfl (.some rfl rfl h2) rfl rfl rfl (LeL.refl _) trivial rfl (by first|rfl|(simp only[za6,List.all_cons,List.all_nil,zcl,zb0,AV.idsL,AV.ids,zaj,zak,xae,List.map_nil,zff];rfl)) (by first|rfl|(simp only[zaz,occH,occE,Res.ids,xag,List.nil_append,AV.idsL,AV.ids,zaj,zak,zas,zaO,xae,List.map_nil,upC,zff];rfl)) ?_;refine evd [26,31,46,50] [(21,true)] ?_ ⟨⟨_,rfl,h2⟩,trivial⟩;refine dr ?_;refine sq ?_ ?_<;>intro h3 h3p h3s<;>(try simp only[Q] at h3p);refine ar ?_;refine ar ?_;refine xaY (i:=y.1-1) sl52 .none rfl rfl rfl (by omega) (by omega) ?_;refine xa1 zix .none rfl rfl rfl ((ziS (by omega))) ?_;refine evd [26,31,46,50] [] ?_;refine xaY sl52 .none rfl rfl rfl rfl (by omega) ?_;refine xa1 zix .none rfl rfl rfl ((ziS (by omega))) ?_;refine xaY sl52 .none rfl rfl rfl rfl (by omega) ?_;refine Walk.store zix .none rfl rfl rfl rfl rfl rfl (by simp) ((zru (by first|omega|(simp;omega)))) ?_;refine xaY (i:=y.1-1) sl52 .none rfl rfl rfl (by omega) (by omega) ?_;refine Walk.store zix .none rfl rfl rfl rfl rfl rfl (by simp) ((zru (by first|omega|(simp;omega)))) ?_;refine dr ?_;refine ar ?_;refine xah ((y.1-1,zgx y.2 (y.1-1))) ⟨⟨by dsimp only;omega,by dsimp only;rw[zlc];exact hg2.2.1,by have hlt:(nth y.2 (y.1-1+1)).var<(nth y.2 (y.1-1)).var:=(by rw[show y.1-1+1=y.1 by omega];exact zjj.1 (by assumption));have hk:=zw1 hlt;rw[show y.1-1+1=y.1 by omega] at hk;dsimp only;rw[<-hk];exact hg2.2.2⟩,(by dsimp only;omega),sx ⟨⟨_,rfl,xaq ?_⟩,trivial⟩ ⟨?_,trivial⟩⟩;focus (first|rfl|omega)
 focus (first|rfl|(show some (Res.box _)=some (Res.box _);unfold zgx;rw[show y.1-1+1=y.1 by omega]))
 refine ar ?_;refine xah ((x.1+1,zde x.1 x.2)) ⟨⟨by dsimp only;omega,by dsimp only;omega,by dsimp only;rw[zin];exact hg1.2.2.1,by dsimp only;rw[<-znI (by omega)];exact hg1.2.2.2⟩,(by dsimp only;omega),sx ⟨⟨_,rfl,xaq ?_⟩,trivial⟩ ⟨?_,trivial⟩⟩;focus (first|rfl|omega)
 focus (first|rfl|(show some (Res.box _)=some (Res.box _);rw[<-hg2.2.2,zk0 (by first|(left;omega)|(right;rw[<-zjj];assumption))]))
 refine dr ?_;refine sqF ?_;refine ar ?_;refine xah ((x.1+1,zde x.1 x.2)) ⟨⟨by dsimp only;omega,by dsimp only;omega,by dsimp only;rw[zin];exact hg1.2.2.1,by dsimp only;rw[<-znI (by omega)];exact hg1.2.2.2⟩,(by dsimp only;omega),sx ⟨⟨_,rfl,xaq ?_⟩,trivial⟩ ⟨?_,trivial⟩⟩;focus (first|rfl|omega)
 focus (first|rfl|(show some (Res.box _)=some (Res.box _);rw[<-hg2.2.2,zk0 (by first|(left;omega)|(right;rw[<-zjj];assumption))]))
 refine rn [(9,some (.box (bdC (zdG (L.length-1) 1 L))))] .nil (.refl _) ⟨rfl,rfl⟩ (SubO.get ⟨.inr ?_,⟨.inl rfl,trivial⟩⟩) (zay rfl);rotate_left;all_goals (first|((rfl);done)|(show some (Res.box _)=some (Res.box _);rw[<-hg1.2.2.2,zuW (by omega)]))
theorem zhV {f:Nat}:FnD Tryz.prog 307 [.d (.sl []),.d (.i 0),.d (.i 0),.fn f []] [] (.tup []) []:=by
 refine bd Tryz.f307 53 [] [] fun w0 F0 own kept hk=>?_;refine ar ?_;refine xak (ι:=Unit) hk (fun u=>[(8,.d (.i 1))]) [9,12,13,14,15,16,17,18,19,20,21,22,23,24,25,26,27,28,29,30,31,32,33,34,35,36,37,38,39,40,41,42,43,44,45,46,47,48,49,50,51,52] (fun u=>[]) (fun u=>True) (fun u=>0) () trivial ⟨⟨_,rfl,xaq ?_⟩,trivial⟩ trivial (fun x=>rfl) (fun u hg1=>?_);focus ((simp;done))
 refine evc [] [] ?_;refine sq ?_ ?_<;>intro h1 h1p h1s<;>(try simp only[Q] at h1p);exfalso;simp at h1;refine rn0 .nil (.refl _)
theorem zlB {L:List Bd}{f:Nat} (hn:L.length<=12) (hcal:Callee Tryz.prog f) (hf:∀a b:Bd,FnD Tryz.prog f ([.agg (bdA a),.agg (bdA b)]++[]) [] (.d (.i (cmpV a.var b.var))) []):
  FnD Tryz.prog 238 [.ms 9 L.length,.d (.i 0),.d (.i L.length),.any,.fn f []] [(9,some (.box (bdC L)))] (.tup []) [(9,some (.box (bdC (zdG (L.length-1) 1 L))))]:=by
 refine bd Tryz.f238 148 [] [] fun w0 F0 own kept hk=>?_;refine xak (ι:=Unit) hk (fun u=>[(1,.d (.i 0)),(2,.d (.i (L.length:Int)))]) [3,10,11,12,13,14,15,16,17,18,19,20,21,22,23,24,25,26,27,28,29,30,31,32,33,34,35,36,37,38,39,40,41,42,43,44,45,46,47,48,49,50,51,52,53,54,55,56,57,58,59,60,61,62,63,64,65,66,67,68,69,70,71,72,73,74,75,76,77,78,79,80,81,82,83,84,85,86,87,88,89,90,91,92,93,94,95,96,97,98,99,100,101,102,103,104,105,106,107,108,109,110,111,112,113,114,115,116,117,118,119,120,121,122,123,124,125,126,127,128,129,130,131,132,133,134,135,136,137,138,139,140,141,142,143,144,145,146,147] (fun u=>[(9,some (.box (bdC L)))]) (fun u=>True) (fun u=>0) () trivial ⟨⟨_,rfl,xaq ?_⟩,⟨⟨_,rfl,xaq ?_⟩,trivial⟩⟩ ⟨?_,trivial⟩ (fun x=>rfl) (fun u hg1=>?_);iterate 2 focus ((simp;done))
 focus (first|rfl|(simp[getH];done))
 refine evc [] [] ?_;refine ar ?_;refine sq ?_ ?_<;>intro h1 h1p h1s<;>(try simp only[Q] at h1p);refine Walk.call (cr:=[]) zt7 (zh5 hn hcal hf) rfl .none rfl rfl (.cons (xas (by first|rfl|(simp;done))) (.cons (.refl _) (.cons (.refl _) (.cons (.refl _) .nil)))) ⟨rfl,trivial⟩ rfl zkO rfl ?_;refine tv ?_;refine rn [(9,some (.box (bdC (zdG (L.length-1) 1 L))))] .nil (.refl _) ⟨rfl,rfl⟩ (SubO.get ⟨.inr ?_,⟨.inl rfl,trivial⟩⟩) (zay rfl);rotate_left;exfalso;omega;all_goals (first|((rfl);done)|(rfl))
theorem zk5 {f:Nat}:FnD Tryz.prog 238 [.d (.sl []),.d (.i 0),.d (.i 0),.any,.fn f []] [] (.tup []) []:=by
 refine bd Tryz.f238 148 [] [] fun w0 F0 own kept hk=>?_;refine xak (ι:=Unit) hk (fun u=>[(1,.d (.i 0)),(2,.d (.i 0))]) [3,10,11,12,13,14,15,16,17,18,19,20,21,22,23,24,25,26,27,28,29,30,31,32,33,34,35,36,37,38,39,40,41,42,43,44,45,46,47,48,49,50,51,52,53,54,55,56,57,58,59,60,61,62,63,64,65,66,67,68,69,70,71,72,73,74,75,76,77,78,79,80,81,82,83,84,85,86,87,88,89,90,91,92,93,94,95,96,97,98,99,100,101,102,103,104,105,106,107,108,109,110,111,112,113,114,115,116,117,118,119,120,121,122,123,124,125,126,127,128,129,130,131,132,133,134,135,136,137,138,139,140,141,142,143,144,145,146,147] (fun u=>[]) (fun u=>True) (fun u=>0) () trivial ⟨⟨_,rfl,xaq ?_⟩,⟨⟨_,rfl,xaq ?_⟩,trivial⟩⟩ trivial (fun x=>rfl) (fun u hg1=>?_);iterate 2 focus ((simp;done))
 refine evc [] [] ?_;refine ar ?_;refine sq ?_ ?_<;>intro h1 h1p h1s<;>(try simp only[Q] at h1p);refine wc zt7 (zhV) rfl rfl ?_;refine tv ?_;refine rn0 .nil (.refl _);exfalso;simp at h1
theorem zk4 {L:List Bd}{f:Nat} (hn:L.length<=12) (hcal:Callee Tryz.prog f) (hf:∀a b:Bd,FnD Tryz.prog f ([.agg (bdA a),.agg (bdA b)]++[]) [] (.d (.i (cmpV a.var b.var))) []):
  FnD Tryz.prog 147 [.ms 9 L.length,.fn f []] [(9,some (.box (bdC L)))] (.tup []) [(9,some (.box (bdC (zdG (L.length-1) 1 L))))]:=by
 have hu:=zu8 (n:=(L.length:Int)) (by omega) (by omega);refine bd Tryz.f147 14 [] [] fun w0 F0 own kept hk=>?_;refine xaM (k':= .u64) (by kernel_rfl) (by kernel_rfl) .none rfl rfl ?_;refine Walk.call (cr:=[]) ztX (zlF (by rw[hu];omega) (by rw[hu];omega)) rfl .none rfl rfl (LeL.refl _) trivial rfl (by first|rfl|(simp only[za6,List.all_cons,List.all_nil,zcl,zb0,AV.idsL,AV.ids,zaj,zak,xae,List.map_nil,zff];rfl)) (by first|rfl|(simp only[zaz,occH,occE,Res.ids,xag,List.nil_append,AV.idsL,AV.ids,zaj,zak,zas,zaO,xae,List.map_nil,upC,zff];rfl)) ?_;refine ev ?_;refine Walk.call (cr:=[]) ztW (zlB hn hcal hf) rfl .none rfl rfl (.cons (xas (by first|rfl|(simp;done))) (.cons (.refl _) (.cons (.refl _) (.cons (.refl _) (.cons (.refl _) .nil))))) ⟨rfl,trivial⟩ rfl zkO rfl ?_;refine tv ?_;refine rn [(9,some (.box (bdC (zdG (L.length-1) 1 L))))] .nil (.refl _) ⟨rfl,rfl⟩ (SubO.get ⟨.inr ?_,⟨.inl rfl,trivial⟩⟩) (zay rfl);rotate_left;all_goals (first|((rfl);done)|(rfl))
theorem zkb {f:Nat}:FnD Tryz.prog 147 [.d (.sl []),.fn f []] [] (.tup []) []:=by
 refine bd Tryz.f147 14 [] [] fun w0 F0 own kept hk=>?_;refine xaM (k':= .u64) (by kernel_rfl) (by kernel_rfl) .none rfl rfl ?_;refine wc ztX (zlF (m:=IntKind.u64.wrap 0) (by decide) (by decide)) rfl rfl ?_;refine ev ?_;refine wc ztW (zk5) rfl rfl ?_;refine tv ?_;refine rn0 .nil (.refl _)
theorem ztv {L:List Bd}{j:Nat} (h:j+1<L.length):(zgx L j).Perm L:=by
 have e:L=L.take j++nth L j::nth L (j+1)::L.drop (j+2):=by
  have h1:L.drop j=nth L j::L.drop (j+1):=zaH (by omega);have h2:L.drop (j+1)=nth L (j+1)::L.drop (j+2):=zaH (by omega);conv=>lhs;rw[<-List.take_append_drop j L,h1,h2]
 have hl:(L.take j).length=j:=by rw[List.length_take];omega
 generalize nth L j=x at e;generalize nth L (j+1)=y at e;generalize L.take j=A at *;generalize L.drop (j+2)=B at *;subst e;have n1:nth (A++x::y::B) j=x:=by rw[<-hl];simp[nth,List.getD]
 have n2:nth (A++x::y::B) (j+1)=y:=by rw[<-hl];simp[nth,List.getD]
 unfold zgx;rw[n1,n2];have s1:((A++x::y::B).set (j+1) x).set j y=A++y::x::B:=by
  rw[<-hl];simp
 rw[s1];exact(List.Perm.swap x y B).append_left A
theorem znF:∀(j:Nat) (L:List Bd),j<L.length->(zde j L).Perm L
 |0,L,_=>List.Perm.refl _
 |j+1,L,h=>by
  unfold zde;split
  ·exact(znF j (zgx L j) (by rw[zlc];omega)).trans (ztv h)
  ·exact List.Perm.refl _
theorem znJ:∀(k i:Nat) (L:List Bd),i+k<=L.length->(zdG k i L).Perm L
 |0,_,_,_=>List.Perm.refl _
 |k+1,i,L,h=>by
  unfold zdG;exact(znJ k (i+1) (zde i L) (by rw[zin];omega)).trans (znF i L (by omega))
def zlv (L:List Bd):List Bd:=zdG (L.length-1) 1 L
theorem znH (L:List Bd):(zlv L).Perm L:=by
 cases L with
 |nil=>exact List.Perm.refl _
 |cons x r=>exact znJ _ _ _ (by simp;omega)
theorem zuV (L:List Bd):(zlv L).length=L.length:=(znH L).length_eq
theorem zvN {m:Nat}{L:List Bd} (h:BdOk m L):BdOk m (zlv L):=fun x hx=>h x ((znH L).mem_iff.1 hx)
def zgd (n:Nat) (p:Pat) (v:Val):List Bd×Bool:=if (zaw n p v).2=true then (zlv (zaw n p v).1,true) else ([],false)
theorem zr6 (n:Nat) (p:Pat) (v:Val):(zgd n p v).2=(zaw n p v).2:=by
 unfold zgd;split<;>simp_all
structure MatchOk (w:List Data) (n m:Nat) (t:Ty) (p:Pat) (v:Val):Prop where
 shape:zan w n t p=true
 fits:zaK w m t v=true
 pok:p.ok
 vok:v.ok
 psz:p.size<=100
 vsz:v.size<=100
theorem MatchOk.kid {w:List Data}{n m:Nat}{t:Ty}{p:Pat}{v:Val} (h:MatchOk w (n+1) m t p v) (h4:p.op=4) (hc:p.ctor=v.ctor):
  p.kids.length=v.kids.length/\∃k,∀i,i<p.kids.length->MatchOk w n k (nth (zac w t p) i) (nth p.kids i) (nth v.kids i):=by
 obtain⟨ho,hlen⟩:=zbe h.shape;have hct:=zb2 ho h4;have hdt:t.data≠ -1:=fun e=>by unfold zal at hct;rw[if_pos e] at hct;simp at hct
 have hk:=fun i (hi:i<p.kids.length)=>zbg h.shape hi;have hpk:=(Pat.ok_iff p).1 h.pok;have hvk:=(Val.ok_iff v).1 h.vok;have hps:=Pat.size_eq p;have hvs:=Val.size_eq v;cases m with
 |zero=>have:=h.fits;simp[zaK] at this
 |succ m=>
  obtain⟨f1,f2,f3⟩:=zdR h.fits hdt;have ht4:=zaU (w:=w) (t:=t) h4;rw[ht4] at hlen;rw[<-hc] at f2 f3;refine⟨by omega,m,fun i hi=>?_⟩;have z1:=zcg (l:=p.kids) hi;have z2:=zmi (l:=v.kids) (i:=i) (by omega);refine⟨hk i hi,by rw[ht4];exact f3 i (by omega),Pats.ok_mem hpk.2 _ (zae hi),Vals.ok_mem hvk.2 _ (zae (by omega)), ?_, ?_⟩
  ·have:=h.psz;omega
  ·have:=h.vsz;omega
theorem MatchOk.two {w:List Data}{n m:Nat}{t:Ty}{p:Pat}{v:Val} (h:MatchOk w (n+1) m t p v) (h5:p.op=5):
  p.kids.length=2/\MatchOk w n m t (nth p.kids 0) v/\MatchOk w n m t (nth p.kids 1) v:=by
 obtain⟨hl,s0,s1⟩:=zfq h.shape h5;have hpk:=(Pat.ok_iff p).1 h.pok;have hps:=Pat.size_eq p;have z0:=zcg (l:=p.kids) (i:=0) (by omega);have z1:=zcg (l:=p.kids) (i:=1) (by omega);have hs:=h.psz;exact⟨hl,⟨s0,h.fits,Pats.ok_mem hpk.2 _ (zae (by omega)),h.vok,by omega,h.vsz⟩,⟨s1,h.fits,Pats.ok_mem hpk.2 _ (zae (by omega)),h.vok,by omega,h.vsz⟩⟩
theorem MatchOk.one {w:List Data}{n m:Nat}{t:Ty}{p:Pat}{v:Val} (h:MatchOk w (n+1) m t p v) (h6:p.op=6):
  p.kids.length=1/\MatchOk w n m t (nth p.kids 0) v:=by
 obtain⟨hl,s0⟩:=zcr h.shape h6;have hpk:=(Pat.ok_iff p).1 h.pok;have hps:=Pat.size_eq p;have z0:=zcg (l:=p.kids) (i:=0) (by omega);have hs:=h.psz;exact⟨hl,⟨s0,h.fits,Pats.ok_mem hpk.2 _ (zae (by omega)),h.vok,by omega,h.vsz⟩⟩
theorem zli (l:List Bd):∀x∈l.map Bd.c,x.length=4:=fun x hx=>by
 obtain⟨y,_,rfl⟩:=List.mem_map.1 hx;rfl
theorem zcq {w:List Data}:∀(n m:Nat){t:Ty}{p:Pat}{v:Val},MatchOk w n m t p v->
  FnD Tryz.prog 146 [.agg [.d (.i p.op),.d (.i p.ctor),.d (.i p.n),.d (.i p.m),.d (.i p.var),.d (zag p.kids)],.agg [.d (.i v.ctor),.d (.i v.num),.d (zaW v.kids)]] [] (.tup [.d (zqV (zaw n p v).1),.d (.bool (zaw n p v).2)]) []
 |0,m,t,p,v,h=>by have:=h.shape;simp[zan] at this
 |n+1,m,t,p,v,h=>by
  have hop:=zfd h.shape;have k4:=h.kid;have k5:=h.two;have k6:=h.one;have hsz:=h.psz;have hps:=Pat.size_eq p;have hkl:=((Pat.ok_iff p).1 h.pok).1;have mok:=fun {t:Ty}{q:Pat}{u:Val} (hs:zan w n t q=true) (hu:u.ok)=>zey n hs hu;by_cases c4:p.op=4/\p.ctor=v.ctor
  ·obtain⟨hl,k,hkm⟩:=k4 c4.1 c4.2;have hm4:=zga (n:=n) c4.1 c4.2;refine bd Tryz.f146 105 [10] [] fun w0 F0 own kept hk=>?_;refine bx 3002 ?_;refine bx 3003 ?_;refine evs [10] [] ?_;refine sq ?_ ?_<;>intro h1 h1p h1s<;>(try simp only[Q,Pat.cs_len] at h1p);exfalso;omega;refine sq ?_ ?_<;>intro h2 h2p h2s<;>(try simp only[Q,Pat.cs_len] at h2p);exfalso;omega;refine sq ?_ ?_<;>intro h3 h3p h3s<;>(try simp only[Q,Pat.cs_len] at h3p);exfalso;omega;refine sq ?_ ?_<;>intro h4 h4p h4s<;>(try simp only[Q,Pat.cs_len] at h4p);exfalso;omega;refine sq ?_ ?_<;>intro h5 h5p h5s<;>(try simp only[Q,Pat.cs_len] at h5p);exfalso;omega;refine sq ?_ ?_<;>intro h6 h6p h6s<;>(try simp only[Q,Pat.cs_len] at h6p);exfalso;omega;refine xaE 1 4 .none rfl rfl ?_;refine tv ?_;refine xak (ι:=Nat×List Bd) hk (fun x=>[(83,.d (.i (x.1:Int))),(10,.gl 1 (x.2.map Bd.c))]) [4,5,11,12,13,14,84,85,86,87,88,89,90,91,92,93,94,95,96,97,98,99,100,101,102,103] (fun x=>[(1,some (.tok ((x.2.map Bd.c)).length 4))]) (fun x=>x.1<=p.kids.length/\zbx (zaw n) (p.kids.drop x.1) (v.kids.drop x.1) x.2=zbx (zaw n) p.kids v.kids []/\x.2.length+Pats.size (p.kids.drop x.1)<=Pats.size p.kids) (fun x=>p.kids.length-x.1) (0,[]) ⟨by simp,rfl,by simp⟩ ⟨⟨_,rfl,xaq ?_⟩,⟨⟨_,rfl,LeA.glg ?_⟩,trivial⟩⟩ ⟨zab ?_,trivial⟩ (fun x=>rfl) (fun x hg1=>?_);iterate 3 focus (first|rfl|omega|(simp;done)|(simp;omega))
   refine evc [10] [] ?_;refine sq ?_ ?_<;>intro h7 h7p h7s<;>(try simp only[Q,Pat.cs_len] at h7p);refine xaU sl34 .none rfl rfl rfl rfl (zar (by omega)) rfl ?_;refine evs [10] [] ?_;refine ab 3012 tz36 ?_;refine evs [10] [] ?_;refine so ty36 ?_;refine tv ?_;refine xaU sl47 .none rfl rfl rfl rfl (zgo (by omega)) rfl ?_;refine evd [10] [] ?_;refine wc zeo (zcq n k (hkm x.1 (by omega))) rfl rfl ?_;refine evd [10] [] ?_;refine dr ?_;refine sq ?_ ?_<;>intro h8 h8p h8s<;>(try simp only[Q,Pat.cs_len] at h8p);refine rn0 (r2 rfl rfl) (.tup (.cons (.nild ?_) (.cons (.eqd ?_) .nil)));rotate_left 2;refine ap sl52 zqj rfl rfl rfl (by intro x hx;exact zli _ x hx) (by have:=(mok (hkm x.1 (by omega)).shape (hkm x.1 (by omega)).vok).2;have:=zd1 (l:=p.kids) (i:=x.1) (by omega);have:=hg1.2.2;simp;omega) ?_;refine asg ?_;refine tv ?_;refine ar ?_;refine xah ((x.1+1,x.2++(zaw n (nth p.kids x.1) (nth v.kids x.1)).1)) ⟨⟨by dsimp only;omega,by dsimp only;rw[<-zlN (by omega) (by omega) (by simp_all)];exact hg1.2.1,by have:=(mok (hkm x.1 (by omega)).shape (hkm x.1 (by omega)).vok).2;have:=zd1 (l:=p.kids) (i:=x.1) (by omega);have:=hg1.2.2;dsimp only;rw[xaa];omega⟩,(by dsimp only;omega),sx ⟨⟨_,rfl,xaq ?_⟩,⟨⟨_,rfl,LeA.glg ?_⟩,trivial⟩⟩ ⟨zab ?_,trivial⟩⟩;iterate 3 focus (first|rfl|omega|(simp;done)|(simp;omega))
   refine rn0 (r2 rfl rfl) (.tup (.cons (.gld ?_) (.cons (.eqd ?_) .nil)));rotate_left 2;all_goals (first|(rw[hm4,<-hg1.2.1,znk (by omega)];all_goals rfl)|(rw[hm4,<-hg1.2.1,ztg (by omega) (by omega) (by simp_all)];all_goals rfl))
  ·have hn4:p.op=4->zaw (n+1) p v=([],false):=fun h4=>zgb h4 (fun hc=>c4 ⟨h4,hc⟩);refine bd Tryz.f146 105 [] [] fun w0 F0 own kept hk=>?_;refine bx 3002 ?_;refine bx 3003 ?_;refine ev ?_;refine sq ?_ ?_<;>intro h1 h1p h1s<;>(try simp only[Q,Pat.cs_len] at h1p);refine rn0 (r2 rfl rfl) (.tup (.cons (.nild ?_) (.cons (.eqd ?_) .nil)));rotate_left 2;refine sq ?_ ?_<;>intro h2 h2p h2s<;>(try simp only[Q,Pat.cs_len] at h2p);refine bu [0,1] [_,_] zqe ?_;refine si [0] [_] sl52 zn7 ?_;refine ev ?_;refine rn0 (r2 rfl rfl) (.tup (.cons (.eqd ?_) (.cons (.eqd ?_) .nil)));rotate_left 2;refine sq ?_ ?_<;>intro h3 h3p h3s<;>(try simp only[Q,Pat.cs_len] at h3p);refine wc zdK (zbi) rfl rfl ?_;refine ev ?_;refine rn0 (r2 rfl rfl) (.tup (.cons (.nild ?_) (.cons (.eqd ?_) .nil)));rotate_left 2;refine sq ?_ ?_<;>intro h4 h4p h4s<;>(try simp only[Q,Pat.cs_len] at h4p);refine xaU (i:=0) sl34 .none rfl rfl rfl rfl (zar (by first|(have:=(k5 (by omega)).1;omega)|(have:=(k6 (by omega)).1;omega))) rfl ?_;refine evd [] [] ?_;refine wc zeo (zcq n m (k5 (by omega)).2.1) rfl rfl ?_;refine evd [] [] ?_;refine dr ?_;refine sq ?_ ?_<;>intro h5 h5p h5s<;>(try simp only[Q,Pat.cs_len] at h5p);refine rn0 (r2 rfl rfl) (.tup (.cons (.eqd ?_) (.cons (.eqd ?_) .nil)));rotate_left 2;refine xaU (i:=1) sl34 .none rfl rfl rfl rfl (zar (by first|(have:=(k5 (by omega)).1;omega)|(have:=(k6 (by omega)).1;omega))) rfl ?_;refine evd [] [] ?_;refine wc zeo (zcq n m (k5 (by omega)).2.2) rfl rfl ?_;refine evd [] [] ?_;refine dr ?_;refine rn0 (r2 rfl rfl) (.tup (.cons (.eqd ?_) (.cons (.eqd ?_) .nil)));rotate_left 2;refine sq ?_ ?_<;>intro h6 h6p h6s<;>(try simp only[Q,Pat.cs_len] at h6p);refine xaU (i:=0) sl34 .none rfl rfl rfl rfl (zar (by first|(have:=(k5 (by omega)).1;omega)|(have:=(k6 (by omega)).1;omega))) rfl ?_;refine evd [] [] ?_;refine wc zeo (zcq n m (k6 (by omega)).2) rfl rfl ?_;refine evd [] [] ?_;refine dr ?_;refine bu [0,1] [_,_] zqe ?_;refine xbj 2 sl52 zn7 rfl (by decide) (ks:=[0]) (xs:=[_]) rfl rfl (by decide) (by decide) .none rfl rfl rfl rfl rfl ?_;refine ev ?_;refine ap sl52 zqj rfl rfl rfl (by intro x hx;exact zli _ x hx) (by have:=(mok (k6 (by omega)).2.shape h.vok).2;have:=zcg (l:=p.kids) (i:=0) (by have:=(k6 (by omega)).1;omega);simp;omega) ?_;refine ev ?_;refine rn0 (r2 rfl rfl) (.tup (.cons (.gld ?_) (.cons (.eqd ?_) .nil)));rotate_left 2;refine sq ?_ ?_<;>intro h7 h7p h7s<;>(try simp only[Q,Pat.cs_len] at h7p);refine rn0 (r2 rfl rfl) (.tup (.cons (.nild ?_) (.cons (.eqd ?_) .nil)));rotate_left 2;exfalso;apply c4;omega;all_goals (first|(rw[zfj (by omega)];all_goals rfl)|(rw[zf9 (by omega)];all_goals rfl)|(rw[zeQ (by omega)];all_goals rfl)|(rw[zfb (by omega) (by assumption)];all_goals rfl)|(rw[zgc (by omega) (by simp_all)];all_goals rfl)|(rw[zfk (by omega)];all_goals rfl)|(rw[hn4 (by omega)];all_goals rfl))
structure VarsOk (l:List Bd) (vs:List Vt):Prop where
 len:l.length=vs.length
 nod:(l.map Bd.var).Nodup
 sub:∀x∈l.map Bd.var,x∈vs.map Vt.var
theorem zlO {f:Pat->Val->List Bd×Bool}{g:Ty->Pat->List Vt}:∀ {a:List Ty}{b:List Pat}{c:List Val}{acc:List Bd},a.length=b.length->b.length=c.length->
  (∀i,i<b.length->(f (nth b i) (nth c i)).2=true->zco (g (nth a i) (nth b i))=true->VarsOk (f (nth b i) (nth c i)).1 (g (nth a i) (nth b i)))->((za5 g a b).map Vt.var).Nodup->
  (zbx f b c acc).2=true->∃X,(zbx f b c acc).1=acc++X/\VarsOk X (za5 g a b)
 | [],[],[],acc,_,_,_,_,_=>⟨[],by simp[zbx],⟨rfl,by simp,by simp⟩⟩
 |t::a,p::b,v::c,acc,h1,h2,h3,h4,h5=>by
  unfold zbx at h5 ⊢;split at h5
  ·rename_i hok;rw[if_pos hok];simp only[za5,xaf] at h4 ⊢;obtain⟨n1,n2,n3⟩:=List.nodup_append.1 h4;have k0:=h3 0 (by simp) hok (decide_eq_true n1);obtain⟨X,e,k⟩:=zlO (f:=f) (g:=g) (a:=a) (b:=b) (c:=c) (acc:=acc++(f p v).1) (by simpa using h1) (by simpa using h2) (fun i hi=>h3 (i+1) (by simpa using hi)) n2 h5;refine⟨(f p v).1++X,by rw[e,List.append_assoc],⟨?_, ?_, ?_⟩⟩
   ·have:=k0.len;have e0:(f p v).1.length=(g t p).length:=this;rw[xaa,xaa,e0,k.len]
   ·rw[xaf];exact List.nodup_append.2 ⟨k0.nod,k.nod,fun x hx y hy=>n3 x (k0.sub x hx) y (k.sub y hy)⟩
   ·intro x hx;rw[xaf] at hx ⊢;rcases List.mem_append.1 hx with h|h
    ·exact List.mem_append_left _ (k0.sub x h)
    ·exact List.mem_append_right _ (k.sub x h)
  ·exact absurd h5 (by simp)
 | [],_::_,_,_,h,_,_,_,_=>by simp at h
 |_::_,[],_,_,h,_,_,_,_=>by simp at h
 | [],[],_::_,_,_,h,_,_,_=>by simp at h
 |_::_,_::_,[],_,_,h,_,_,_=>by simp at h
theorem ztC {a b:List Vt} (ha:zco a=true) (hb:zco b=true) (h:zdI a b=true):a.length=b.length/\∀x∈b.map Vt.var,x∈a.map Vt.var:=by
 rw[zmD hb] at h;unfold zd6 at h;simp only[xad,decide_eq_true_eq,Bool.not_eq_true',List.any_eq_false,Bool.not_eq_true,decide_eq_false_iff_not,Classical.not_not] at h;have na:=of_decide_eq_true ha;refine⟨h.1,fun x hx=>?_⟩;by_cases hm:x∈a.map Vt.var
 ·exact hm
 ·have:=zkN (a:=x::a.map Vt.var) (b:=b.map Vt.var) (List.nodup_cons.2 ⟨hm,na⟩) (fun y hy=>by
   rcases List.mem_cons.1 hy with rfl|hy
   ·exact hx
   ·obtain⟨z,hz,rfl⟩:=List.mem_map.1 hy;exact List.mem_map.2 ⟨z,h.2 z hz,rfl⟩)
  simp only[xab,xac] at this;omega
theorem zfJ {w:List Data}:∀(n m:Nat){t:Ty}{p:Pat}{v:Val},MatchOk w n m t p v->linP w n t p=true->(zaw n p v).2=true->VarsOk (zaw n p v).1 (zaB w n t p)
 |0,m,t,p,v,h,_,_=>by have:=h.shape;simp[zan] at this
 |n+1,m,t,p,v,h,hl,hm=>by
  have hop:=zfd h.shape;have hnod:=of_decide_eq_true (zex w (n+1) t p h.shape hl);by_cases h5:p.op=5
  ·obtain⟨hk,k0,k1⟩:=h.two h5;have e1:=zu5 (w:=w) (t:=t) h5;obtain⟨x,y,hxy⟩:∃x y,p.kids=[x,y]:=by
    match hp:p.kids,hk with
    | [x,y],_=>exact⟨x,y,rfl⟩
   have ex:nth p.kids 0=x:=by rw[hxy];rfl
   have ey:nth p.kids 1=y:=by rw[hxy];rfl
   simp only[linP,xad,if_pos h5,e1,hxy] at hl;rw[ex] at k0;rw[ey] at k1;have e2:zaB w (n+1) t p=zaB w n t x:=by
    simp only[zaB,zaP,zcT,e1,hxy,if_pos h5];rw[if_neg (by omega)];simp[za5]
   simp only[all2,xad,and_true] at hl;rw[e2];cases hm0:(zaw n (nth p.kids 0) v).2 with
   |true=>
    rw[zfb h5 hm0];rw[ex] at hm0 ⊢;exact zfJ n m k0 hl.1.1 hm0
   |false=>
    rw[zgc h5 hm0] at hm ⊢;rw[ey] at hm ⊢;have k:=zfJ n m k1 hl.1.2 hm;obtain⟨s1,s2⟩:=ztC (zex w n t x k0.shape hl.1.1) (zex w n t y k1.shape hl.1.2) hl.2;exact⟨by rw[k.len];exact s1.symm,k.nod,fun z hz=>s2 z (k.sub z hz)⟩
  have hv:zcT w t p=zac w t p:=by unfold zcT;rw[if_neg h5]
  by_cases h1:p.op=1
  ·rw[zfj h1];have:zaB w (n+1) t p=[]:=by
    simp only[zaB,zaP,hv];rw[if_neg (by omega)];unfold zac;rw[if_neg (by omega),if_neg (by omega),if_neg (by omega)];simp[za5]
   rw[this];exact⟨rfl,by simp,by simp⟩
  by_cases h2:p.op=2
  ·rw[zf9 h2];have:zaB w (n+1) t p=[⟨p.var,t⟩]:=by
    simp only[zaB,zaP,hv];rw[if_pos (by omega)];unfold zac;rw[if_neg (by omega),if_neg (by omega),if_neg (by omega)];simp[za5]
   rw[this];exact⟨rfl,by simp,by simp⟩
  by_cases h3:p.op=3
  ·rw[zeQ h3];have:zaB w (n+1) t p=[]:=by
    simp only[zaB,zaP,hv];rw[if_neg (by omega)];unfold zac;rw[if_neg (by omega),if_neg (by omega),if_neg (by omega)];simp[za5]
   rw[this];exact⟨rfl,by simp,by simp⟩
  simp only[linP,if_neg h5,xad] at hl;by_cases h6:p.op=6
  ·obtain⟨hk,k0⟩:=h.one h6;have e1:=zu6 (w:=w) (t:=t) h6;obtain⟨x,hx⟩:∃x,p.kids=[x]:=by
    match hp:p.kids,hk with
    | [x],_=>exact⟨x,rfl⟩
   have ex:nth p.kids 0=x:=by rw[hx];rfl
   have e2:zaB w (n+1) t p=⟨p.var,t⟩::zaB w n t x:=by
    simp only[zaB,zaP,hv,e1,hx];rw[if_pos (by omega)];simp[za5]
   rw[zfk h6] at hm ⊢;rw[e1,hx] at hl;simp only[all2,xad,and_true] at hl;rw[ex] at k0 hm ⊢;rw[e2] at hnod ⊢;have k:=zfJ n m k0 hl.1 hm;rw[xae] at hnod;have hnod':=List.nodup_cons.1 hnod;refine⟨by simp[k.len], ?_,fun z hz=>?_⟩
   ·rw[xae];exact List.nodup_cons.2 ⟨fun hh=>hnod'.1 (k.sub _ hh),k.nod⟩
   ·rw[xae] at hz ⊢;rcases List.mem_cons.1 hz with h|h
    ·rw[h];exact List.mem_cons_self
    ·exact List.mem_cons_of_mem _ (k.sub z h)
  have h4:p.op=4:=by omega
  by_cases hc:p.ctor=v.ctor
  ·obtain⟨hlen,k,hk⟩:=h.kid h4 hc;rw[zga h4 hc] at hm ⊢;have e2:zaB w (n+1) t p=za5 (zaB w n) (zac w t p) p.kids:=by
    simp only[zaB,zaP,hv];rw[if_neg (by omega),List.nil_append]
   rw[e2] at hnod ⊢;have hl2:=(zbe h.shape).2;obtain⟨X,e,kx⟩:=zlO (f:=zaw n) (g:=zaB w n) (a:=zac w t p) (acc:=[]) hl2.symm hlen (fun i hi hmi hni=>zfJ n k (hk i hi) (zc5 hl2.symm hl.1 i (by omega)) hmi) hnod hm;rw[e,List.nil_append];exact kx
  ·rw[zgb h4 hc] at hm;exact absurd hm (by simp)
theorem zuB {w:List Data}{m:Nat}{t:Ty}{p:Pat}{v:Val} (h:MatchOk w 10 m t p v) (hp:isP w t p=true) (hm:(zaw 10 p v).2=true):(zaw 10 p v).1.length<=6:=by
 unfold isP at hp;simp only[xad] at hp;have k:=zfJ 10 m h hp.2.2 hm;rw[k.len];have e:=(zfc w 10 t p 0).1;have hw:zbP w 10 t p 0=true:=by
  unfold zbP;rw[hp.1,hp.2.2];have:=of_decide_eq_true hp.2.1;simp;omega
 rw[if_pos hw] at e;have:=zmp w 10 t p 0 _ e;exact zpv this.1 this.2
theorem zgT {w:List Data}:∀(n m:Nat){t:Ty}{p:Pat}{v:Val},MatchOk w n m t p v->(zaw n p v).2=true->
  FnD Tryz.prog 146 [.agg [.d (.i p.op),.d (.i p.ctor),.d (.i p.n),.d (.i p.m),.d (.i p.var),.d (zag p.kids)],.agg [.d (.i v.ctor),.d (.i v.num),.d (zaW v.kids)]] [] (.tup [.gv 9 ((zaw n p v).1.map Bd.c),.d (.bool true)]) [(9,some (.tok ((zaw n p v).1.map Bd.c).length 4))]
 |0,m,t,p,v,h,_=>by have:=h.shape;simp[zan] at this
 |n+1,m,t,p,v,h,hm=>by
  have hop:=zfd h.shape;have k4:=h.kid;have k5:=h.two;have k6:=h.one;have hsz:=h.psz;have hps:=Pat.size_eq p;have hkl:=((Pat.ok_iff p).1 h.pok).1;have mok:=fun {t:Ty}{q:Pat}{u:Val} (hs:zan w n t q=true) (hu:u.ok)=>zey n hs hu;by_cases h4:p.op=4
  ·have hc:p.ctor=v.ctor:=by
    by_cases hc:p.ctor=v.ctor
    ·exact hc
    ·rw[zgb h4 hc] at hm;exact absurd hm (by simp)
   obtain⟨hl,k,hkm⟩:=k4 h4 hc;have hm4:=zga (n:=n) h4 hc;have hall:=fun(i:Nat) (hi:i<p.kids.length)=>znj (f:=zaw n) (a:=p.kids) (b:=v.kids) (acc:=[]) (by rw[<-hm4];exact hm) i hi (by omega);refine bd Tryz.f146 105 [10] [] fun w0 F0 own kept hk=>?_;refine bx 3002 ?_;refine bx 3003 ?_;refine evs [10] [] ?_;refine sq ?_ ?_<;>intro h1 h1p h1s<;>(try simp only[Q,Pat.cs_len] at h1p);exfalso;omega;refine sq ?_ ?_<;>intro h2 h2p h2s<;>(try simp only[Q,Pat.cs_len] at h2p);exfalso;omega;refine sq ?_ ?_<;>intro h3 h3p h3s<;>(try simp only[Q,Pat.cs_len] at h3p);exfalso;omega;refine sq ?_ ?_<;>intro h4 h4p h4s<;>(try simp only[Q,Pat.cs_len] at h4p);exfalso;omega;refine sq ?_ ?_<;>intro h5 h5p h5s<;>(try simp only[Q,Pat.cs_len] at h5p);exfalso;omega;refine sq ?_ ?_<;>intro h6 h6p h6s<;>(try simp only[Q,Pat.cs_len] at h6p);exfalso;omega;refine xaF 9 4 .none rfl rfl ?_;refine tv ?_;refine xak (ι:=Nat×List Bd) hk (fun x=>[(83,.d (.i (x.1:Int))),(10,.gv 9 (x.2.map Bd.c))]) [4,5,11,12,13,14,84,85,86,87,88,89,90,91,92,93,94,95,96,97,98,99,100,101,102,103] (fun x=>[(9,some (.tok ((x.2.map Bd.c)).length 4))]) (fun x=>x.1<=p.kids.length/\zbx (zaw n) (p.kids.drop x.1) (v.kids.drop x.1) x.2=zbx (zaw n) p.kids v.kids []/\x.2.length+Pats.size (p.kids.drop x.1)<=Pats.size p.kids) (fun x=>p.kids.length-x.1) (0,[]) ⟨by simp,rfl,by simp⟩ ⟨⟨_,rfl,xaq ?_⟩,⟨⟨_,rfl,LeA.gvg ?_⟩,trivial⟩⟩ ⟨zab ?_,trivial⟩ (fun x=>rfl) (fun x hg1=>?_);iterate 3 focus (rfl)
   refine evc [10] [] ?_;refine sq ?_ ?_<;>intro h7 h7p h7s<;>(try simp only[Q,Pat.cs_len] at h7p);refine xaU sl34 .none rfl rfl rfl rfl (zar (by omega)) rfl ?_;refine evs [10] [] ?_;refine ab 3012 tz36 ?_;refine evs [10] [] ?_;refine so ty36 ?_;refine tv ?_;refine xaU sl47 .none rfl rfl rfl rfl (zgo (by omega)) rfl ?_;refine evd [10] [] ?_;refine wc zeo (zcq n k (hkm x.1 (by omega))) rfl rfl ?_;refine evd [10] [] ?_;refine dr ?_;refine sq ?_ ?_<;>intro h8 h8p h8s<;>(try simp only[Q,Pat.cs_len] at h8p);exfalso;have:=hall x.1 (by omega);simp_all;refine xaD sl52 zqj .none rfl rfl rfl rfl (zdq rfl (by rfl)) (by intro x hx;exact zli _ x hx) (by have:=(mok (hkm x.1 (by omega)).shape (hkm x.1 (by omega)).vok).2;have:=zd1 (l:=p.kids) (i:=x.1) (by omega);have:=hg1.2.2;simp;omega) (by have:=(mok (hkm x.1 (by omega)).shape (hkm x.1 (by omega)).vok).2;have:=zd1 (l:=p.kids) (i:=x.1) (by omega);have:=hg1.2.2;simp;omega) ?_;refine asg ?_;refine tv ?_;refine ar ?_;refine xah ((x.1+1,x.2++(zaw n (nth p.kids x.1) (nth v.kids x.1)).1)) ⟨⟨by dsimp only;omega,by dsimp only;rw[<-zlN (by omega) (by omega) (hall x.1 (by omega))];exact hg1.2.1,by have:=(mok (hkm x.1 (by omega)).shape (hkm x.1 (by omega)).vok).2;have:=zd1 (l:=p.kids) (i:=x.1) (by omega);have:=hg1.2.2;dsimp only;rw[xaa];omega⟩,(by dsimp only;omega),sx ⟨⟨_,rfl,xaq ?_⟩,⟨⟨_,rfl,LeA.gvg ?_⟩,trivial⟩⟩ ⟨zab ?_,trivial⟩⟩;iterate 3 focus ((simp;done))
   refine rn [(9,some (.tok ((zaw (n+1) p v).1.map Bd.c).length 4))] (r2 rfl rfl) (.tup (.cons (.gvg ?_) (.cons (.eqd ?_) .nil))) ⟨rfl,rfl⟩ (SubH.get ⟨?_,trivial⟩) (zay rfl);rotate_left 3;all_goals (((first|rfl|(rw[hm4,<-hg1.2.1,znk (by omega)];all_goals rfl));done))
  by_cases h5:p.op=5
  ·obtain⟨hl,k0,k1⟩:=k5 h5;cases hm0:(zaw n (nth p.kids 0) v).2 with
   |true=>
    have e:=zfb (n:=n) h5 hm0;rw[e];refine bd Tryz.f146 105 [] [] fun w0 F0 own kept hk=>?_;refine bx 3002 ?_;refine bx 3003 ?_;refine ev ?_;refine sq ?_ ?_<;>intro h1 h1p h1s<;>(try simp only[Q,Pat.cs_len] at h1p);exfalso;omega;refine sq ?_ ?_<;>intro h2 h2p h2s<;>(try simp only[Q,Pat.cs_len] at h2p);exfalso;omega;refine sq ?_ ?_<;>intro h3 h3p h3s<;>(try simp only[Q,Pat.cs_len] at h3p);exfalso;omega;refine sq ?_ ?_<;>intro h4 h4p h4s<;>(try simp only[Q,Pat.cs_len] at h4p);refine xaU (i:=0) sl34 .none rfl rfl rfl rfl (zar (by omega)) rfl ?_;refine evd [] [] ?_;refine Walk.call (cr:=[9]) zeo (zgT n m k0 hm0) rfl .none rfl rfl (LeL.refl _) trivial rfl rfl rfl ?_;refine evd [] [] ?_;refine dr ?_;refine sq ?_ ?_<;>intro h5 h5p h5s<;>(try simp only[Q,Pat.cs_len] at h5p);refine rn [(9,some (.tok ((zaw n (nth p.kids 0) v).1.map Bd.c).length 4))] (r2 rfl rfl) (.tup (.cons (.gvg ?_) (.cons (.eqd ?_) .nil))) ⟨rfl,rfl⟩ (SubH.get ⟨?_,trivial⟩) (zay rfl);rotate_left 3;exfalso;simp_all;exfalso;omega;all_goals (first|((rfl);done)|(rfl))
   |false=>
    have e:=zgc (n:=n) h5 hm0;rw[e] at hm ⊢;have hf0:=zcq n m k0;rw[hm0] at hf0;refine bd Tryz.f146 105 [] [] fun w0 F0 own kept hk=>?_;refine bx 3002 ?_;refine bx 3003 ?_;refine ev ?_;refine sq ?_ ?_<;>intro h1 h1p h1s<;>(try simp only[Q,Pat.cs_len] at h1p);exfalso;omega;refine sq ?_ ?_<;>intro h2 h2p h2s<;>(try simp only[Q,Pat.cs_len] at h2p);exfalso;omega;refine sq ?_ ?_<;>intro h3 h3p h3s<;>(try simp only[Q,Pat.cs_len] at h3p);exfalso;omega;refine sq ?_ ?_<;>intro h4 h4p h4s<;>(try simp only[Q,Pat.cs_len] at h4p);refine xaU (i:=0) sl34 .none rfl rfl rfl rfl (zar (by omega)) rfl ?_;refine evd [] [] ?_;refine wc zeo (hf0) rfl rfl ?_;refine evd [] [] ?_;refine dr ?_;refine sq ?_ ?_<;>intro h5 h5p h5s<;>(try simp only[Q,Pat.cs_len] at h5p);exfalso;simp_all;refine xaU (i:=1) sl34 .none rfl rfl rfl rfl (zar (by omega)) rfl ?_;refine evd [] [] ?_;refine Walk.call (cr:=[9]) zeo (zgT n m k1 hm) rfl .none rfl rfl (LeL.refl _) trivial rfl rfl rfl ?_;refine evd [] [] ?_;refine dr ?_;refine rn [(9,some (.tok ((zaw n (nth p.kids 1) v).1.map Bd.c).length 4))] (r2 rfl rfl) (.tup (.cons (.gvg ?_) (.cons (.eqd ?_) .nil))) ⟨rfl,rfl⟩ (SubH.get ⟨?_,trivial⟩) (zay rfl);rotate_left 3;exfalso;omega;all_goals (first|((rfl);done)|(rfl))
  ·have hw:p.op=3->zat v.num p.n p.m=true:=fun h3=>by rw[zeQ h3] at hm;exact hm
   have h6m:p.op=6->(zaw n (nth p.kids 0) v).2=true:=fun h6=>by rw[zfk h6] at hm;exact hm
   refine bd Tryz.f146 105 [4] [] fun w0 F0 own kept hk=>?_;refine bx 3002 ?_;refine bx 3003 ?_;refine asg ?_;refine evs [4] [] ?_;refine sq ?_ ?_<;>intro h1 h1p h1s<;>(try simp only[Q,Pat.cs_len] at h1p);refine xaF 9 4 .none rfl rfl ?_;refine evs [4] [] ?_;refine rn [(9,some (.tok ((zaw (n+1) p v).1.map Bd.c).length 4))] (r2 rfl rfl) (.tup (.cons (.gvg ?_) (.cons (.eqd ?_) .nil))) ⟨rfl,rfl⟩ (SubH.get ⟨?_,trivial⟩) (zay rfl);rotate_left 3;refine sq ?_ ?_<;>intro h2 h2p h2s<;>(try simp only[Q,Pat.cs_len] at h2p);refine bu [0,1] [_,_] zqe ?_;refine xbk 9 sl52 zn7 rfl (by decide) (ks:=[0]) (xs:=[_]) rfl rfl (by decide) (by decide) .none rfl rfl rfl rfl rfl ?_;refine asg ?_;refine evs [4] [] ?_;refine rn [(9,some (.tok ((zaw (n+1) p v).1.map Bd.c).length 4))] (r2 rfl rfl) (.tup (.cons (.gvg ?_) (.cons (.eqd ?_) .nil))) ⟨rfl,rfl⟩ (SubH.get ⟨?_,trivial⟩) (zay rfl);rotate_left 3;refine sq ?_ ?_<;>intro h3 h3p h3s<;>(try simp only[Q,Pat.cs_len] at h3p);refine wc zdK (zbi) rfl rfl ?_;refine xaF 9 4 .none rfl rfl ?_;refine evs [4] [] ?_;refine rn [(9,some (.tok ((zaw (n+1) p v).1.map Bd.c).length 4))] (r2 rfl rfl) (.tup (.cons (.gvg ?_) (.cons (.eqd ?_) .nil))) ⟨rfl,rfl⟩ (SubH.get ⟨?_,trivial⟩) (zay rfl);rotate_left 3;refine sq ?_ ?_<;>intro h4 h4p h4s<;>(try simp only[Q,Pat.cs_len] at h4p);exfalso;omega;refine sq ?_ ?_<;>intro h5 h5p h5s<;>(try simp only[Q,Pat.cs_len] at h5p);refine xaU (i:=0) sl34 .none rfl rfl rfl rfl (zar (by have:=(k6 (by omega)).1;omega)) rfl ?_;refine evd [4] [] ?_;refine wc zeo (zcq n m (k6 (by omega)).2) rfl rfl ?_;refine evd [4] [] ?_;refine dr ?_;refine bu [0,1] [_,_] zqe ?_;refine xbk 9 sl52 zn7 rfl (by decide) (ks:=[0]) (xs:=[_]) rfl rfl (by decide) (by decide) .none rfl rfl rfl rfl rfl ?_;refine evs [4] [] ?_;refine xaD sl52 zqj .none rfl rfl rfl rfl (zdq rfl (by rfl)) (by intro x hx;exact zli _ x hx) (by have:=(mok (k6 (by omega)).2.shape h.vok).2;have:=zcg (l:=p.kids) (i:=0) (by have:=(k6 (by omega)).1;omega);simp;omega) (by have:=(mok (k6 (by omega)).2.shape h.vok).2;have:=zcg (l:=p.kids) (i:=0) (by have:=(k6 (by omega)).1;omega);simp;omega) ?_;refine evs [4] [] ?_;refine asg ?_;refine evs [4] [] ?_;refine rn [(9,some (.tok ((zaw (n+1) p v).1.map Bd.c).length 4))] (r2 rfl rfl) (.tup (.cons (.gvg ?_) (.cons (.eqd ?_) .nil))) ⟨rfl,rfl⟩ (SubH.get ⟨?_,trivial⟩) (zay rfl);rotate_left 3;exfalso;omega;all_goals (first|((first|rfl|(rw[zfj (by omega)];all_goals rfl)|(rw[zf9 (by omega)];all_goals rfl)|(rw[zeQ (by omega)];all_goals first|rfl|(rw[hw (by omega)];done))|(rw[zfk (by omega)];all_goals first|rfl|(rw[h6m (by omega)];done))|(rw[hw (by omega)];done)|(rw[h6m (by omega)];done));done)|(first|(rw[zfj (by omega)];all_goals rfl)|(rw[zf9 (by omega)];all_goals rfl)|(rw[zeQ (by omega)];all_goals rfl)|(rw[zfk (by omega)];show some (Res.tok _ _)=some (Res.tok _ _);simp;omega)))
theorem zud {n:Nat}{S:List Bd} (h:n=S.length):zbS n 4 (bdC S)=some (S.map Bd.c):=by
 rw[h,<-xac (f:=Bd.c)];exact zvi S
theorem idsD (l:List D):AV.idsL (l.map AV.d)=[]:=by
 induction l with
 |nil=>rfl
 |cons x r ih=>simpa [AV.idsL,AV.ids] using ih
theorem zna {w:List Data}{m:Nat}{t:Ty}{p:Pat}{v:Val} (h:MatchOk w 10 m t p v) (hp:isP w t p=true):
  FnD Tryz.prog 72 [.agg [.d (.i p.op),.d (.i p.ctor),.d (.i p.n),.d (.i p.m),.d (.i p.var),.d (zag p.kids)],.agg [.d (.i v.ctor),.d (.i v.num),.d (zaW v.kids)]] [] (.tup [.d (zqV (zgd 10 p v).1),.d (.bool (zgd 10 p v).2)]) []:=by
 unfold zgd;cases hm:(zaw 10 p v).2 with
 |false=>
  have hf:=zcq 10 m h;rw[hm] at hf;rw[if_neg (by simp)];refine bd Tryz.f72 36 [] [] fun w0 F0 own kept hk=>?_;refine bx 3002 ?_;refine bx 3003 ?_;refine ev ?_;refine wc zeo (hf) rfl rfl ?_;refine ev ?_;refine sq ?_ ?_<;>intro h1 h1p h1s<;>(try simp only[Q] at h1p);refine rn0 (r2 rfl rfl) (.tup (.cons (.nild ?_) (.cons (.eqd ?_) .nil)));rotate_left 2;exfalso;simp_all;all_goals (rfl)
 |true=>
  have hf:=zgT 10 m h hm;have h6:=zuB h hp hm;have hbo:=zvN (zey 10 h.shape h.vok).1;have hsl:=zuV (zaw 10 p v).1;have hvs:=h.vsz;rw[if_pos rfl];have hLm:∀L:List Bd,(L.map Bd.c).length=L.length:=fun L=>by simp
  have hLm:=hLm (zaw 10 p v).1;have hso:zdG ((zaw 10 p v).1.length-1) 1 (zaw 10 p v).1=zlv (zaw 10 p v).1:=rfl;generalize (zaw 10 p v).1=L at *;generalize hS:zlv L=S at *;have hrow:∀ {i:Nat},i<L.length->(nth S i).val.ok/\(nth S i).val.size<=v.size:=fun hi=>hbo _ (zae (by omega));refine bd Tryz.f72 36 [26] [4,999999] fun w0 F0 own kept hk=>?_;refine Walk.box (id:=3002) .none rfl rfl rfl (by rfl) (by rfl) (by rfl) (by rfl) ?_;refine Walk.box (id:=3003) .none rfl rfl rfl (by rfl) (by rfl) (by rfl) (by rfl) ?_;refine evs [26] [] ?_;refine Walk.call (cr:=[9]) zeo (hf) rfl .none rfl rfl (LeL.refl _) trivial rfl rfl rfl ?_;refine evs [26] [] ?_;refine sq ?_ ?_<;>intro h1 h1p h1s<;>(try simp only[Q,xac] at h1p);exfalso;simp_all;refine CWp.fixV hk 6 9 4 rfl rfl rfl (fun hx2=>?_) (fun hx2=>?_);refine evc [26] [] ?_;refine Walk.call (cr:=[]) ztJ (zkb) rfl .none rfl rfl (LeL.refl _) trivial rfl (by rfl) (by rfl) ?_;refine tv ?_;refine xak (ι:=Unit) hk (fun u=>[(22,.d (.i 0))]) [8,9,23,24,25,26,27,28,29,30,31,32,33,34] (fun u=>[]) (fun u=>True) (fun u=>0) () trivial ⟨⟨_,rfl,xaq ?_⟩,trivial⟩ trivial (fun x=>rfl) (fun u hg1=>?_);focus (rfl)
  refine evc [26] [4,999999] ?_;refine sq ?_ ?_<;>intro h3 h3p h3s<;>(try simp only[Q,xac] at h3p);exfalso;simp at h3;refine CWp.ret ?_;refine rn0 (r2 rfl rfl) (.tup (.cons (.eqd ?_) (.cons (.eqd ?_) .nil)));rotate_left 2;refine evc [26] [] ?_;refine Walk.call (cr:=[]) ztJ (zk4 (L:=L) (by omega) zxp (fun a b=>zlA)) rfl .none rfl rfl (.cons (xas (by(simp[xac];done))) (.cons (.refl _) .nil)) ⟨rfl,trivial⟩ rfl zkO rfl ?_;refine tv ?_;refine xak (ι:=Nat) hk (fun i=>[(22,.d (.i (i:Int)))]) [8,9,23,24,25,26,27,28,29,30,31,32,33,34] (fun i=>[(9,some (.box (bdC S)))]) (fun i=>i<=L.length) (fun i=>L.length-i) 0 (by omega) ⟨⟨_,rfl,xaq ?_⟩,trivial⟩ ⟨?_,trivial⟩ (fun x=>rfl) (fun i hg1=>?_);focus (rfl)
  focus ((show some (Res.box _)=some (Res.box _);rw[hso]))
  refine evc [26] [4,999999] ?_;refine sq ?_ ?_<;>intro h4 h4p h4s<;>(try simp only[Q,xac] at h4p);refine xaY sl52 .none rfl rfl rfl rfl (by omega) ?_;refine xa1 zix .none rfl rfl rfl ((ziS (by omega))) ?_;refine Walk.alloc (id:=3009) zn7 rfl .none rfl (by(simp only[zaz,occH,occE,Res.ids,xag,List.nil_append,AV.idsL,AV.ids,zaj,zak,zas,zaO,xae,List.map_nil,upC,idsD,zff];rfl)) (by(simp only[zaz,occH,occE,Res.ids,xag,List.nil_append,AV.idsL,AV.ids,zaj,zak,zas,zaO,xae,List.map_nil,upC,idsD,zff];rfl)) (by(simp only[zaz,occH,occE,Res.ids,xag,List.nil_append,AV.idsL,AV.ids,zaj,zak,zas,zaO,xae,List.map_nil,upC,idsD,zff];rfl)) ?_;refine evs [26] [] ?_;refine so zix ?_;refine tv ?_;refine Walk.call (cr:=[]) ztK (zhM (nth S i).val.size (Nat.le_refl _) (hrow (by omega)).1) rfl .none rfl rfl (LeL.refl _) trivial rfl (by rfl) (by rfl) ?_;refine xaY sl52 .none rfl rfl rfl rfl (by omega) ?_;refine evs [26] [] ?_;refine Walk.store ty49 .none rfl rfl rfl rfl rfl rfl (by simp) ((zuI (by omega))) ?_;refine tv ?_;refine ar ?_;refine xah (i+1) ⟨(by omega),(by omega),sx ⟨⟨_,rfl,xaq ?_⟩,trivial⟩ ⟨?_,trivial⟩⟩;focus (rfl)
  focus (rfl)
  refine CWp.frz hk 4 9 _ _ rfl rfl (zud (by simp;omega)) rfl ?_;refine CWp.ret ?_;refine rn0 (r2 rfl rfl) (.tup (.cons (.eqd ?_) (.cons (.eqd ?_) .nil)));rotate_left 2;all_goals (first|rfl|(rw[show S=[] from List.eq_nil_of_length_eq_zero (by have hz:L.map Bd.c=[]:=(by assumption);have hz2:=congrArg List.length hz;simp only[xai] at hz2;omega)];rfl))
def zf8 (w:List Data) (a k:Int) (p:Pat) (v:Val):List Bd×Bool:=if zbp w a k p=true/\isV w ⟨a,k⟩ v=true then zgd 10 p v else ([],false)
theorem zth {w:List Data}{a k:Int}{p:Pat}{v:Val} (h:(zf8 w a k p v).2=true):zbp w a k p=true/\isV w ⟨a,k⟩ v=true/\(zaw 10 p v).2=true:=by
 unfold zf8 at h;split at h
 ·rename_i hh;rw[zr6] at h;exact⟨hh.1,hh.2,h⟩
 ·exact absurd h (by simp)
theorem zvx {w:List Data}{a k:Int}{p:Pat}{v:Val} (h1:isP w ⟨a,k⟩ p=true) (h2:isV w ⟨a,k⟩ v=true) (hp:p.ok) (hv:v.ok):MatchOk w 10 10 ⟨a,k⟩ p v:=by
 unfold isP at h1;unfold isV at h2;simp only[xad,decide_eq_true_eq] at h1 h2;exact⟨h1.1,h2.1,hp,hv,by omega,by omega⟩
theorem zjz {w:List Data} (hs:WSmall w){a k:Int}{p:Pat}{v:Val} (hp:p.ok) (hv:v.ok):
  FnD Tryz.prog 21 [.d (zah w),.agg [.d (.i a),.d (.i k)],.agg [.d (.i p.op),.d (.i p.ctor),.d (.i p.n),.d (.i p.m),.d (.i p.var),.d (zag p.kids)],.agg [.d (.i v.ctor),.d (.i v.num),.d (zaW v.kids)]] [] (.tup [.d (zqV (zf8 w a k p v).1),.d (.bool (zf8 w a k p v).2)]) []:=by
 have hpv:=zfF hs (a:=a) (k:=k) hp;have pv:=pval hs (a:=a) (k:=k) (p:=p);have hpi:zbp w a k p=true->isP w ⟨a,k⟩ p=true:=fun h=>by unfold zbp at h;rw[xad] at h;exact h.2
 refine bd Tryz.f21 27 [] [] fun w0 F0 own kept hk=>?_;refine bx 3005 ?_;refine bx 3006 ?_;refine bx 3007 ?_;refine ev ?_;refine wc zp6 (hpv) rfl rfl ?_;refine ev ?_;refine sq ?_ ?_<;>intro h1 h1p h1s<;>(try simp only[Q] at h1p);refine sqT ?_;refine rn0 (r2 rfl rfl) (.tup (.cons (.nild ?_) (.cons (.eqd ?_) .nil)));rotate_left 2;refine Walk.call (cr:=[]) zv5 (zif (pv (by assumption)).dp.wt (pv (by assumption)).tin hv) rfl (.some rfl rfl h1) rfl rfl (LeL.refl _) trivial rfl rfl rfl ?_;refine evs [] [(15,false)] ?_ ⟨⟨_,rfl,h1⟩,trivial⟩;refine sq ?_ ?_<;>intro h3 h3p h3s<;>(try simp only[Q] at h3p);refine rn0 (r2 rfl rfl) (.tup (.cons (.nild ?_) (.cons (.eqd ?_) .nil)));rotate_left 2;refine wc zyz (zna (zvx (hpi (by simp_all)) (by simp_all) hp hv) (hpi (by simp_all))) rfl rfl ?_;refine ev ?_;refine rn0 (r2 rfl rfl) (.tup (.cons (.eqd ?_) (.cons (.eqd ?_) .nil)));rotate_left 2;all_goals (unfold zf8;first|(rw[if_pos ⟨by simp_all,by simp_all⟩];all_goals rfl)|(rw[if_neg (by intro hh;simp_all)];all_goals rfl))
inductive Ex where
 |mk (op n ctor:Int) (kids:List Ex)
 deriving Inhabited
mutual
def Ex.c:Ex->List D
 | .mk op n ctor kids=>[.i op,.i n,.i ctor,.sl (Ex.cs kids)]
def Ex.cs:List Ex->List (List D)
 | []=>[]
 |v::r=>v.c::Ex.cs r
end
abbrev zyh (l:List Ex):D:= .sl (Ex.cs l)
theorem Ex.cs_eq:∀l:List Ex,Ex.cs l=l.map Ex.c
 | []=>rfl
 |v::r=>by simp[Ex.cs,Ex.cs_eq r]
theorem Ex.cs_len (l:List Ex):(Ex.cs l).length=l.length:=by simp[Ex.cs_eq]
def Ex.op:Ex->Int | .mk a0 _ _ _=>a0
def Ex.n:Ex->Int | .mk _ a1 _ _=>a1
def Ex.ctor:Ex->Int | .mk _ _ a2 _=>a2
def Ex.kids:Ex->List Ex | .mk _ _ _ k=>k
abbrev Ex.cc (v:Ex):List D:=[.i v.op,.i v.n,.i v.ctor,.sl (Ex.cs v.kids)]
theorem Ex.c_eq (v:Ex):v.c=v.cc:=by cases v;rfl
theorem Ex.eta (v:Ex):Ex.mk v.op v.n v.ctor v.kids=v:=by cases v;rfl
theorem Ex.cs_at' {pre:List Ex}{x:Ex}{rest xs:List Ex} (h:pre++x::rest=xs):(Ex.cs xs)[pre.length]?=some x.cc:=by rw[Ex.cs_eq,<-Ex.c_eq];exact zaG h
mutual
def exEq:Ex->Ex->Bool
 | .mk a0 a1 a2 ks,.mk b0 b1 b2 ls=>decide (a0=b0)&&(decide (a1=b1)&&(decide (a2=b2)&&zqa ks ls))
def zqa:List Ex->List Ex->Bool
 | [],[]=>true
 |x::r,y::s=>exEq x y&&zqa r s
 |_,_=>false
end
mutual
def Ex.ok:Ex->Prop
 | .mk _ _ _ ks=>ks.length<=1000000000000/\Exs.ok ks
def Exs.ok:List Ex->Prop
 | []=>True
 |v::r=>v.ok/\Exs.ok r
end
theorem Exs.ok_mem:∀ {l:List Ex},Exs.ok l->∀v,v∈l->v.ok
 |x::r,h,v,hv=>by
  simp only[Exs.ok] at h;rcases List.mem_cons.1 hv with rfl|hv
  ·exact h.1
  ·exact Exs.ok_mem h.2 v hv
mutual
def Ex.size:Ex->Nat
 | .mk _ _ _ ks=>1+Exs.size ks
def Exs.size:List Ex->Nat
 | []=>0
 |v::r=>v.size+Exs.size r
end
theorem Exs.size_mem:∀ {l:List Ex}{v:Ex},v∈l->v.size<=Exs.size l
 |x::r,v,hv=>by
  simp only[Exs.size];rcases List.mem_cons.1 hv with rfl|hv
  ·omega
  ·have:=Exs.size_mem hv;omega
theorem Ex.ok_iff (v:Ex):v.ok↔v.kids.length<=1000000000000/\Exs.ok v.kids:=by cases v;rfl
theorem Ex.size_eq (v:Ex):v.size=1+Exs.size v.kids:=by cases v;rfl
mutual
theorem zuu:∀v:Ex,exEq v v=true
 | .mk _ _ _ ks=>by simp[exEq,zm2 ks]
theorem zm2:∀l:List Ex,zqa l l=true
 | []=>rfl
 |v::r=>by simp[zqa,zuu v,zm2 r]
end
theorem Ex.cs_cc (l:List Ex):Ex.cs l=l.map Ex.cc:=by
 rw[Ex.cs_eq];exact List.map_congr_left (fun v _=>Ex.c_eq v)
mutual
def mEx:Ex->Nat
 | .mk _ _ _ ks=>mExs ks
def mExs:List Ex->Nat
 | []=>0
 |v::r=>1+mEx v+mExs r
end
structure Gd where
 op:Int
 var:Int
 n:Int
 deriving Inhabited
structure Cl where
 pat:Pat
 g:Gd
 deriving Inhabited
structure Ft where
 arg:Ty
 res:Ty
 deriving Inhabited
structure Fu where
 ty:Ft
 cls:List Cl
 bodies:List Ex
 deriving Inhabited
abbrev Cl.c (x:Cl):List D:=[.i x.pat.op,.i x.pat.ctor,.i x.pat.n,.i x.pat.m,.i x.pat.var,.sl (Pat.cs x.pat.kids),.i x.g.op,.i x.g.var,.i x.g.n]
abbrev zbI (l:List Cl):D:= .sl (l.map Cl.c)
abbrev Ft.c (x:Ft):List D:=[.i x.arg.data,.i x.arg.index,.i x.res.data,.i x.res.index]
abbrev Fu.c (x:Fu):List D:=[.i x.ty.arg.data,.i x.ty.arg.index,.i x.ty.res.data,.i x.ty.res.index,zbI x.cls,zyh x.bodies]
def ClsOk (l:List Cl):Prop:=l.length<=1000000000000/\∀c∈l,c.pat.ok
mutual
def cntE (m:Int):Ex->Int
 | .mk _ _ _ ks=>zeL m 1 ks
def zeL (m n:Int):List Ex->Int
 | []=>n
 |k::r=>if n<=m then zeL m (n+cntE (m-n) k) r else n
end
theorem zs6 {m n:Int}{l:List Ex} (h:¬n<=m):zeL m n l=n:=by cases l<;>simp[zeL,h]
mutual
theorem zsq:∀(v:Ex) (m:Int),1<=cntE m v/\cntE m v<=v.size
 | .mk _ _ _ ks,m=>by
  have:=zlX ks m 1 (by omega);simp only[cntE,Ex.size];push_cast;omega
theorem zlX:∀(l:List Ex) (m n:Int),1<=n->1<=zeL m n l/\zeL m n l<=n+Exs.size l
 | [],m,n,h=>by simp[zeL,Exs.size];omega
 |k::r,m,n,h=>by
  have h1:=zsq k (m-n);have h2:=zlX r m (n+cntE (m-n) k) (by omega);simp only[zeL,Exs.size];split
  ·push_cast;omega
  ·push_cast;omega
end
mutual
theorem zvj:∀(v:Ex) (m:Int),(cntE m v<=m↔(v.size:Int)<=m)/\(cntE m v<=m->cntE m v=v.size)
 | .mk _ _ _ ks,m=>by
  have:=zoY ks m 1;simp only[cntE,Ex.size];push_cast;exact this
theorem zoY:∀(l:List Ex) (m n:Int),(zeL m n l<=m↔n+(Exs.size l:Int)<=m)/\(zeL m n l<=m->zeL m n l=n+Exs.size l)
 | [],m,n=>by simp[zeL,Exs.size]
 |k::r,m,n=>by
  have h1:=zvj k (m-n);have h2:=zoY r m (n+cntE (m-n) k);have h3:=zlX r m (n+cntE (m-n) k);have h4:=zsq k (m-n);simp only[zeL,Exs.size];push_cast
  by_cases hn:n<=m
  ·rw[if_pos hn];by_cases h5:cntE (m-n) k<=m-n
   ·have h6:=h1.2 h5;rw[h6] at h2 ⊢;constructor
    ·rw[h2.1];constructor<;>intro h<;>omega
    ·intro h;rw[h2.2 h];omega
   ·have h7:¬(k.size:Int)<=m-n:=fun h=>h5 (h1.1.2 h);have h8:¬n+cntE (m-n) k<=m:=by omega
    rw[zs6 h8];constructor
    ·constructor<;>intro h<;>omega
    ·intro h;omega
  ·rw[if_neg hn];constructor
   ·constructor<;>intro h<;>omega
   ·intro h;omega
end
def TyOk (n:Nat) (t:Ty):Prop:=TyIn n t/\(t.data = -1->t.index=0)
def gdOk (g:Gd) (vars:List Vt):Bool:=if g.op=0 then decide (g.var=0/\g.n=0) else decide (1<=g.op/\g.op<=2/\0<=g.n/\g.n<=9)&&decide ((⟨g.var,⟨-1,0⟩⟩:Vt)∈vars)
def zeH (w:List Data) (t:Ty) (p:Pat):List Vt:=zdF (zaQ w 10 t p 0).1
def clOk (w:List Data) (t:Ty) (c:Cl):Bool:=isP w t c.pat&&gdOk c.g (zeH w t c.pat)
def zbn (w:List Data) (t:Ty) (l:List Cl):Bool:=zbE w t&&(decide ((l.length:Int)<=8)&& !l.any fun c=> !clOk w t c)
theorem ziH {xs:List Cl}{f:Nat}{caps:List AV}{hp:Hp}{p:Cl->Bool} (hs:xs.length<=1000000000000) (hcal:Callee Tryz.prog f)
  (hf:∀t∈xs,FnD Tryz.prog f ([.agg [.d (.i t.pat.op),.d (.i t.pat.ctor),.d (.i t.pat.n),.d (.i t.pat.m),.d (.i t.pat.var),.d (zag t.pat.kids),.d (.i t.g.op),.d (.i t.g.var),.d (.i t.g.n)]]++caps) hp (.d (.bool (p t))) []) (k1:subH hp hp) (k2:zdY hp=true) (k3:za6 hp [] (.d .nilp) []=true):
  FnD Tryz.prog 216 [.d (zbI xs),.fn f caps] hp (.d (.i (idxF p xs 0))) []:=by
 refine bd Tryz.f216 19 [] [] fun w0 F0 own kept hk=>?_;refine xak (ι:=List (Cl)×List (Cl)) hk (fun x=>[(8,.d (.i (x.1.length:Int)))]) [4,5,9,10,11,12,13,14,15,16,17,18] (fun x=>[]) (fun x=>x.1++x.2=xs/\idxF p x.2 x.1.length=idxF p xs 0) (fun x=>x.2.length) ([],xs) ⟨by simp,rfl⟩ ⟨⟨_,rfl,xaq ?_⟩,trivial⟩ trivial (fun x=>zg6 hp) (fun x hg1=>?_);focus (first|rfl|(simp;done)|(simp_all;done)|omega)
 obtain⟨pre,rest⟩:=x;dsimp only at hg1 ⊢;refine evc [] [] ?_;refine sq ?_ ?_<;>intro h1 h1p h1s<;>(try simp only[Q] at h1p);rcases rest with _|⟨y,rest⟩
 ·exfalso;simp_all
 refine xaU sl26 .none rfl rfl rfl rfl (zaG hg1.1) rfl ?_;refine ev ?_;refine xaJ (cr:=[]) hcal (hf y (by rw[<-hg1.1];simp)) rfl .none rfl rfl rfl (LeL.refl _) k1 k2 (zc9 k3 _) rfl ?_;refine tv ?_;refine sq ?_ ?_<;>intro h2 h2p h2s<;>(try simp only[Q] at h2p);focus (refine rn [] (r1 rfl) (.eqd ?_) ⟨rfl,rfl⟩ (fun _ _ h=>h) (fun _ h=>h);all_goals (rw[<-hg1.2];simp[idxF,h1s,h1p,h2s,h2p]))
 refine ar ?_;refine xah ((pre++[y],rest)) ⟨⟨(by have hz:=hg1.1;rw[<-hz];simp),(by rw[<-hg1.2];simp[idxF,h2s])⟩,(by simp),Sub.x (by kernel_rfl) (by kernel_rfl) ⟨⟨_,rfl,xaq ?_⟩,trivial⟩ (by simp) (by simp[zdL]) trivial⟩;focus (first|rfl|(simp;done)|(simp_all;done)|omega)
 have hrest:rest=[]:=by
  rcases rest with _|⟨a,b⟩
  ·rfl
  ·exfalso;have hz:=congrArg List.length (hg1.1);simp only[xaa,xab,xac] at hz;omega
 subst hrest;focus (refine rn [] (r1 rfl) (.eqd ?_) ⟨rfl,rfl⟩ (fun _ _ h=>h) (fun _ h=>h);all_goals (rw[<-hg1.2];simp[idxF,h1s,h1p]))
theorem zhi {xs:List Cl}{f:Nat}{caps:List AV}{hp:Hp}{p:Cl->Bool} (hs:xs.length<=1000000000000) (hcal:Callee Tryz.prog f)
  (hf:∀t∈xs,FnD Tryz.prog f ([.agg [.d (.i t.pat.op),.d (.i t.pat.ctor),.d (.i t.pat.n),.d (.i t.pat.m),.d (.i t.pat.var),.d (zag t.pat.kids),.d (.i t.g.op),.d (.i t.g.var),.d (.i t.g.n)]]++caps) hp (.d (.bool (p t))) []) (k1:subH hp hp) (k2:zdY hp=true) (k3:za6 hp [] (.d .nilp) []=true):
  FnD Tryz.prog 121 [.d (zbI xs),.fn f caps] hp (.d (.bool (xs.any p))) []:=by
 refine bd Tryz.f121 9 [] [] fun w0 F0 own kept hk=>?_;refine Walk.call (cr:=[]) zxA (ziH hs hcal hf k1 k2 k3) rfl .none rfl rfl (LeL.refl _) k1 k2 (zc9 k3 _) rfl ?_;refine ev ?_;refine rn [] (r1 rfl) (.eqd ?_) ⟨rfl,rfl⟩ (fun _ _ h=>h) (fun _ h=>h);rotate_left;all_goals (exact congrArg D.bool (ze8 p xs 0))
theorem zjT (w:List Data) (t:Ty) (p:Pat):(zeH w t p).length<=6:=(zgi w 10 t p 0).2
theorem zm9 {g:Gd}{vars:List Vt} (hv:vars.length<=1000000000000):FnD Tryz.prog 218 [.agg [.d (.i g.op),.d (.i g.var),.d (.i g.n)],.d (zc7 vars)] [] (.d (.bool (gdOk g vars))) []:=by
 refine bd Tryz.f218 27 [10] [] fun w0 F0 own kept hk=>?_;refine bx 3002 ?_;refine evs [10] [] ?_;refine sq ?_ ?_<;>intro h1 h1p h1s<;>(try simp only[Q,zat] at h1p);refine bu [] [] st38 ?_;refine Walk.eqV eq38 .none rfl rfl rfl rfl rfl ?_;refine evs [10] [] ?_;refine rq ?_;rotate_left;refine wc zdK (zbi) rfl rfl ?_;refine evs [10] [] ?_;refine sq ?_ ?_<;>intro h2 h2p h2s<;>(try simp only[Q,zat] at h2p);refine Walk.call (cr:=[]) zdK (zbi) rfl (.some rfl rfl h2) rfl rfl (LeL.refl _) trivial rfl rfl rfl ?_;refine evs [10] [(14,true)] ?_ ⟨⟨_,rfl,h2⟩,trivial⟩;refine sq ?_ ?_<;>intro h3 h3p h3s<;>(try simp only[Q,zat] at h3p);refine Walk.build st25 (ks:=[0]) (xs:=[_]) rfl rfl (.some rfl rfl h3) rfl rfl rfl ?_;refine Walk.build ztu (ks:=[0,1]) (xs:=[_,_]) rfl rfl (.some rfl rfl h3) rfl rfl rfl ?_;refine Walk.call (cr:=[]) zt3 (zfr (v:=⟨g.var,⟨-1,0⟩⟩) hv) rfl (.some rfl rfl h3) rfl rfl (LeL.refl _) trivial rfl rfl rfl ?_;refine evs [10] [(19,true)] ?_ ⟨⟨_,rfl,h3⟩,trivial⟩;refine rq ?_;rotate_left;refine rq ?_;rotate_left;refine sqF ?_;refine rq ?_;rotate_left;all_goals (refine congrArg D.bool ?_;unfold gdOk;first|(rw[if_pos (by omega)];simp_all;done)|(rw[if_neg (by omega)];simp_all[zat];done)|(rw[if_neg (by omega)];simp_all[zat];omega))
theorem zl6 {w:List Data} (hw:WT w){t:Ty}{c:Cl} (ht:TyIn w.length t) (hok:c.pat.ok):
  FnD Tryz.prog 123 [.d (zah w),.agg [.d (.i t.data),.d (.i t.index)],.agg [.d (.i c.pat.op),.d (.i c.pat.ctor),.d (.i c.pat.n),.d (.i c.pat.m),.d (.i c.pat.var),.d (zag c.pat.kids),.d (.i c.g.op),.d (.i c.g.var),.d (.i c.g.n)]] [] (.d (.bool (clOk w t c))) []:=by
 have ht':TyIn w.length ⟨t.data,t.index⟩:=ht;have hvl:=zjT w t c.pat;refine bd Tryz.f123 24 [] [] fun w0 F0 own kept hk=>?_;refine bx 3004 ?_;refine bx 3005 ?_;refine ev ?_;refine wc ztS (zf0 hw ht' hok) rfl rfl ?_;refine ev ?_;refine sq ?_ ?_<;>intro h1 h1p h1s<;>(try simp only[Q] at h1p);refine Walk.call (cr:=[]) zxB (zm9 (g:=c.g) (vars:=zeH w t c.pat) (by omega)) rfl (.some rfl rfl h1) rfl rfl (LeL.refl _) trivial rfl rfl rfl ?_;refine evs [] [(18,true)] ?_ ⟨⟨_,rfl,h1⟩,trivial⟩;refine rq ?_;rotate_left;refine rq ?_;rotate_left;all_goals (refine congrArg D.bool ?_;unfold clOk;have hte:(⟨t.data,t.index⟩:Ty)=t:=rfl;(simp_all;done))
theorem ziE {w:List Data} (hw:WT w){a k:Int}{c:Cl} (ht:TyIn w.length ⟨a,k⟩) (hok:c.pat.ok):
  FnD Tryz.prog 122 [.agg [.d (.i c.pat.op),.d (.i c.pat.ctor),.d (.i c.pat.n),.d (.i c.pat.m),.d (.i c.pat.var),.d (zag c.pat.kids),.d (.i c.g.op),.d (.i c.g.var),.d (.i c.g.n)],.ref 3003 0,.ref 3004 0] [(3003,some (.box [.d (zah w)])),(3004,some (.box [.d (.i a),.d (.i k)]))] (.d (.bool (!clOk w ⟨a,k⟩ c))) []:=by
 refine bd Tryz.f122 10 [] [] fun w0 F0 own kept hk=>?_;refine bx 3901 ?_;refine ev ?_;refine wc zxg (zl6 (t:=⟨a,k⟩) (c:=c) hw ht hok) rfl rfl ?_;refine ev ?_;refine rn [] (r1 rfl) (.eqd ?_) ⟨rfl,rfl⟩ (SubH.get ⟨rfl,⟨rfl,trivial⟩⟩) (fun _ h=>h);rotate_left;all_goals (rfl)
theorem zjy {w:List Data} (hs:WSmall w){a k:Int}{l:List Cl} (hl:ClsOk l):
  FnD Tryz.prog 58 [.d (zah w),.agg [.d (.i a),.d (.i k)],.d (zbI l)] [] (.d (.bool (zbn w ⟨a,k⟩ l))) []:=by
 have hll:=hl.1;refine bd Tryz.f58 21 [] [] fun w0 F0 own kept hk=>?_;refine bx 3003 ?_;refine bx 3004 ?_;refine ev ?_;refine wc ztD (zgY hs) rfl rfl ?_;refine ev ?_;refine sq ?_ ?_<;>intro h1 h1p h1s<;>(try simp only[Q] at h1p);refine sq ?_ ?_<;>intro h2 h2p h2s<;>(try simp only[Q] at h2p);refine xaL (xs:=[_,_]) rfl (.some rfl rfl h2) rfl rfl ?_;refine Walk.call (cr:=[]) zxe (zhi (p:=fun c=> !clOk w ⟨a,k⟩ c) hl.1 zxf (fun t htm=>ziE (zeG hs (zbq (by assumption)).1) (zbq (by assumption)).2.1 (hl.2 t htm)) ⟨rfl,rfl,trivial⟩ rfl rfl) rfl (.some rfl rfl h2) rfl rfl (LeL.refl _) ⟨rfl,rfl,trivial⟩ rfl rfl rfl ?_;refine evs [] [(15,true)] ?_ ⟨⟨_,rfl,h2⟩,trivial⟩;refine rq ?_;rotate_left;refine rq ?_;rotate_left;refine sqF ?_;refine rq ?_;rotate_left;all_goals (refine congrArg D.bool ?_;unfold zbn;first|(simp_all;done)|(simp_all;omega))
def AZ (w:List Data):Prop:=∀t c,c∈zal w t->TyIn w.length t->∀u∈zaa w t c,u.data = -1->u.index=0
theorem zvW {w:List Data} (hv:za2 w=true):AZ w:=by
 have hW:=(zcC w).1 hv;rintro ⟨a,k⟩ c hc ht u hu hd
 obtain⟨d,rfl,h1,j,rfl,h3⟩:=zcH ht hc;have hco:=hW.ctor _ (zae h1) _ (zae h3);simp only[zbD,xad,decide_eq_true_eq,Bool.not_eq_true',List.any_eq_false,Bool.not_eq_false'] at hco;have hall:=hco.2.2.2;simp only[zaa,Int.toNat_natCast] at hu;obtain⟨x,hx,rfl⟩:=List.mem_map.1 hu;have hxo:=hall x hx;simp only[zbR,zat,Bool.or_eq_true,xad,decide_eq_true_eq,and_true,Bool.not_eq_true',Bool.not_eq_false] at hxo;unfold zcD at hd ⊢;split at hd
 ·rename_i hi;rw[if_pos hi];dsimp only at hd ⊢;omega
 ·rename_i hi;rw[if_neg hi];omega
theorem zu4 {n:Nat}{t:Ty} (h:zeF n t=true):TyOk n t:=by
 refine⟨zu3 h,fun hd=>?_⟩;simp only[zeF,zat,Bool.or_eq_true,xad,decide_eq_true_eq,and_true] at h;omega
theorem zpL {w:List Data}{t:Ty}{p:Pat} (h:isP w t p=true):zeH w t p=zaB w 10 t p:=by
 unfold isP at h;simp only[xad,decide_eq_true_eq] at h;have e:=(zfc w 10 t p 0).1;have hw:zbP w 10 t p 0=true:=by
  unfold zbP;rw[h.1,h.2.2,decide_eq_true (by omega)];rfl
 rw[if_pos hw] at e;unfold zeH;rw[e];rfl
theorem zva {w:List Data}{t:Ty}{p:Pat} (h:isP w t p=true):zco (zaB w 10 t p)=true:=by
 unfold isP at h;simp only[xad] at h;exact zex w 10 t p h.1 h.2.2
theorem zrY {w:List Data} (hw:WT w) (haz:AZ w):∀(n:Nat){t:Ty}{p:Pat},zan w n t p=true->TyOk w.length t->∀v∈zaB w n t p,TyOk w.length v.ty
 |0,t,p,h,_=>by simp[zan] at h
 |n+1,t,p,h,ht=>by
  obtain⟨ho,hlen⟩:=zbe h;intro v hv;have hto:∀u∈zac w t p,TyOk w.length u:=fun u hu=>by
   refine⟨zgM (a:=t.data) (k:=t.index) hw ht.1 ho u hu,fun hd=>?_⟩;unfold zac at hu;split at hu
   ·rename_i h4;exact haz t p.ctor (zb2 ho h4) ht.1 u hu hd
   ·split at hu
    ·simp only[List.mem_cons,List.not_mem_nil,or_false,or_self] at hu;rw[hu] at hd ⊢;exact ht.2 hd
    ·split at hu
     ·simp only[List.mem_cons,List.not_mem_nil,or_false] at hu;rw[hu] at hd ⊢;exact ht.2 hd
     ·simp at hu
  simp only[zaB,List.mem_append] at hv;rcases hv with hv|hv
  ·unfold zaP at hv;split at hv
   ·simp only[List.mem_cons,List.not_mem_nil,or_false] at hv;rw[hv];exact ht
   ·simp at hv
  ·have key:∀(a:List Ty) (b:List Pat),(∀i,i<a.length->i<b.length->∀v∈zaB w n (nth a i) (nth b i),TyOk w.length v.ty)->∀v∈za5 (zaB w n) a b,TyOk w.length v.ty:=by
    intro a;induction a with
    |nil=>intro b _ v hv;simp[za5] at hv
    |cons x r ih=>
     intro b h v hv;cases b with
     |nil=>simp[za5] at hv
     |cons y s=>
      simp only[za5,List.mem_append] at hv;rcases hv with hv|hv
      ·exact h 0 (by simp) (by simp) v hv
      ·exact ih s (fun i h1 h2=>h (i+1) (by simpa using h1) (by simpa using h2)) v hv
   refine key (zcT w t p) p.kids (fun i h1 h2=>?_) v hv;have hvt:i<(zac w t p).length/\nth (zcT w t p) i=nth (zac w t p) i:=by
    unfold zcT at h1 ⊢;split at h1
    ·rename_i h5;rw[if_pos h5];rw[List.length_take] at h1;refine⟨by omega, ?_⟩;have:i=0:=by omega
     subst this;cases hT:zac w t p with
     |nil=>rfl
     |cons a b=>rfl
    ·rename_i h5;rw[if_neg h5];exact⟨h1,rfl⟩
   rw[hvt.2];exact zrY hw haz n (zbg h (by omega)) (hto _ (zae hvt.1))
def gdS (g:Gd) (vars:List Vt):Bool:=if g.op=0 then decide (g.var=0/\g.n=0) else decide (1<=g.op/\g.op<=2/\0<=g.n/\g.n<=9)&&(decide (0<=zbM vars g.var)&&decide ((nth vars (zbM vars g.var).toNat).ty.data = -1))
theorem zyk {n:Nat}{g:Gd}{vars:List Vt} (hn:zco vars=true) (hv:∀v∈vars,TyOk n v.ty):gdS g vars=gdOk g vars:=by
 unfold gdS gdOk;split
 ·rfl
 ·congr 1
  have hnod:=of_decide_eq_true hn;rw[Bool.eq_iff_iff];simp only[xad,decide_eq_true_eq];constructor
  ·rintro ⟨h1,h2⟩
   rcases zfC vars g.var with ⟨h3,_⟩|⟨k,h3,h4,h5,_⟩
   ·omega
   ·rw[h3] at h2;simp only[Int.toNat_natCast] at h2;have hm:=zae h4;have ho:=(hv _ hm).2 h2;have:nth vars k=⟨g.var,⟨-1,0⟩⟩:=by
     generalize nth vars k=z at *;obtain⟨zv,⟨za,zk⟩⟩:=z;dsimp only at h5 h2 ho;rw[h5,h2,ho]
    rw[<-this];exact hm
  ·intro hm;rcases zfC vars g.var with ⟨_,h4⟩|⟨k,h3,h4,h5,_⟩
   ·exact absurd rfl (h4 _ hm)
   ·refine⟨by omega, ?_⟩;rw[h3];simp only[Int.toNat_natCast];obtain⟨j,hj,e⟩:=List.getElem_of_mem hm;have ej:nth vars j=⟨g.var,⟨-1,0⟩⟩:=by simp[nth,List.getD,hj,e]
    have:k=j:=zkM hnod h4 hj (by rw[h5,ej]);rw[this,ej]
theorem znV {g:Gd}{vars:List Vt} (hv:vars.length<=1000000000000):FnD Tryz.prog 224 [.agg [.d (.i g.op),.d (.i g.var),.d (.i g.n)],.d (zc7 vars)] [] (.d (.bool (gdS g vars))) []:=by
 have hlt:=fun h=>zl3 (l:=vars) (n:=g.var) h;refine bd Tryz.f224 50 [] [3] fun w0 F0 own kept hk=>?_;refine bx 3002 ?_;refine ev ?_;refine sq ?_ ?_<;>intro h1 h1p h1s<;>(try simp only[Q] at h1p);refine sq ?_ ?_<;>intro h2 h2p h2s<;>(try simp only[Q] at h2p);refine rq ?_;rotate_left;refine rq ?_;rotate_left;refine xal ?_;refine xaB 18 [(34,.d (.bool (decide (¬(1<=g.op/\g.op<=2/\0<=g.n/\g.n<=9)))))] [17,18,19,20,21,22,23,24,25,26,27,28,29,30,31,32,33] ?_ ?_;refine ev ?_;refine sq ?_ ?_<;>intro h3 h3p h3s<;>(try simp only[Q] at h3p);refine sq ?_ ?_<;>intro h4 h4p h4s<;>(try simp only[Q] at h4p);refine sqT ?_;focus (exact jn rfl (xap (by((rw[Bool.eq_iff_iff];simp_all;omega)))))
 refine sq ?_ ?_<;>intro h5 h5p h5s<;>(try simp only[Q] at h5p);focus (exact jn rfl (xap (by((rw[Bool.eq_iff_iff];simp_all;done)))))
 focus (exact jn rfl (xap (by((rw[Bool.eq_iff_iff];simp_all;done)))))
 refine sqF ?_;refine sq ?_ ?_<;>intro h6 h6p h6s<;>(try simp only[Q] at h6p);focus (exact jn rfl (xap (by((rw[Bool.eq_iff_iff];simp_all;done)))))
 focus (exact jn rfl (xap (by((rw[Bool.eq_iff_iff];simp_all;done)))))
 refine xaA ?_;refine tv ?_;refine sq ?_ ?_<;>intro h7 h7p h7s<;>(try simp only[Q] at h7p);refine rq ?_;rotate_left;refine wc zqI (zgk hv) rfl rfl ?_;refine ev ?_;refine sq ?_ ?_<;>intro h8 h8p h8s<;>(try simp only[Q] at h8p);refine xaU (i:=(zbM vars g.var).toNat) zdf (.some rfl rfl h8) rfl rfl rfl (by have:=hlt (by omega);omega) (zaq (by have:=hlt (by omega);omega)) rfl ?_;refine evs [] [(41,true)] ?_ ⟨⟨_,rfl,h8⟩,trivial⟩;refine rq ?_;rotate_left;refine rq ?_;rotate_left;all_goals (refine congrArg D.bool ?_;unfold gdS;first|(rw[if_pos (by omega)];simp_all;done)|(rw[if_neg (by omega),decide_eq_false (by omega),Bool.false_and];done)|(rw[if_neg (by omega),decide_eq_true (by omega),Bool.true_and,decide_eq_false (by omega),Bool.false_and];done)|(rw[if_neg (by omega)];simp_all;done))
theorem zrG {w:List Data} (hw:WT w) (haz:AZ w){t:Ty}{c:Cl} (ht:TyOk w.length t) (hok:c.pat.ok) (hsz:c.pat.size<=1000000000000):
  FnD Tryz.prog 127 [.d (zah w),.agg [.d (.i t.data),.d (.i t.index)],.agg [.d (.i c.pat.op),.d (.i c.pat.ctor),.d (.i c.pat.n),.d (.i c.pat.m),.d (.i c.pat.var),.d (zag c.pat.kids),.d (.i c.g.op),.d (.i c.g.var),.d (.i c.g.n)]] [] (.d (.bool (clOk w t c))) []:=by
 have ht':TyIn w.length ⟨t.data,t.index⟩:=ht.1;have hcl:clOk w t c=(isP w t c.pat&&gdOk c.g (zeH w t c.pat)):=rfl;cases hp:isP w t c.pat with
 |false=>
  have hpi:=zeD hw ht' hok hsz;have hpi':FnD Tryz.prog 223 [.d (zah w),.agg [.d (.i t.data),.d (.i t.index)],.agg [.d (.i c.pat.op),.d (.i c.pat.ctor),.d (.i c.pat.n),.d (.i c.pat.m),.d (.i c.pat.var),.d (zag c.pat.kids)]] [] (.d (.bool false)) []:=by rw[<-hp];exact hpi
  rw[hcl,hp,Bool.false_and];refine bd Tryz.f127 22 [] [] fun w0 F0 own kept hk=>?_;refine bx 3004 ?_;refine bx 3005 ?_;refine ev ?_;refine wc zki (hpi') rfl rfl ?_;refine evd [] [] ?_;refine sq ?_ ?_<;>intro h1 h1p h1s<;>(try simp only[Q] at h1p);exfalso;contradiction;refine dr ?_;refine rq ?_;rotate_left;all_goals (rfl)
 |true=>
  have hpi:=zeD hw ht' hok hsz;have hpi':FnD Tryz.prog 223 [.d (zah w),.agg [.d (.i t.data),.d (.i t.index)],.agg [.d (.i c.pat.op),.d (.i c.pat.ctor),.d (.i c.pat.n),.d (.i c.pat.m),.d (.i c.pat.var),.d (zag c.pat.kids)]] [] (.d (.bool true)) []:=by rw[<-hp];exact hpi
  have hsh:zan w 10 ⟨t.data,t.index⟩ c.pat=true:=by
   have:=hp;unfold isP at this;simp only[xad] at this;exact this.1
  have hvl:=zeI w 10 ⟨t.data,t.index⟩ c.pat;have hge:=zyk (g:=c.g) (zva hp) (zrY hw haz 10 hsh ht);have hge':gdS c.g (zaB w 10 ⟨t.data,t.index⟩ c.pat)=gdOk c.g (zeH w t c.pat):=by rw[zpL hp];exact hge
  rw[hcl,hp,Bool.true_and,<-hge'];refine bd Tryz.f127 22 [] [] fun w0 F0 own kept hk=>?_;refine bx 3004 ?_;refine bx 3005 ?_;refine ev ?_;refine wc zki (hpi') rfl rfl ?_;refine evd [] [] ?_;refine sq ?_ ?_<;>intro h1 h1p h1s<;>(try simp only[Q] at h1p);refine Walk.call (cr:=[]) zhC (zdw hw hsh (by omega) ht' hok hsz) rfl (.some rfl rfl h1) rfl rfl (LeL.refl _) trivial rfl rfl rfl ?_;refine Walk.call (cr:=[]) zxD (znV (g:=c.g) (by omega)) rfl (.some rfl rfl h1) rfl rfl (LeL.refl _) trivial rfl rfl rfl ?_;refine evd [] [(12,true)] ?_ ⟨⟨_,rfl,h1⟩,trivial⟩;refine dr ?_;refine rq ?_;rotate_left;exfalso;contradiction;all_goals (rfl)
def ClsSz (l:List Cl):Prop:=∀c∈l,c.pat.size<=1000000000000
theorem zyP {w:List Data}{t:Ty} (h:zbE w t=true):TyOk w.length t:=by
 unfold zbE at h;rw[xad] at h;exact zu4 h.2
theorem zyd {w:List Data}{t:Ty}{l:List Cl}{i:Nat} (hi:i<l.length) (h:clOk w t (nth l i)=false):zbn w t l=false:=by
 unfold zbn;have:l.any (fun c=> !clOk w t c)=true:=List.any_eq_true.2 ⟨nth l i,zae hi,by rw[h];rfl⟩;rw[this];simp
theorem zwy {w:List Data}{t:Ty}{l:List Cl} (ht:zbE w t=true) (hl:l.length<=8) (h:∀i,i<l.length->clOk w t (nth l i)=true):zbn w t l=true:=by
 unfold zbn;rw[ht,decide_eq_true (by omega),Bool.true_and,Bool.true_and,Bool.not_eq_true',List.any_eq_false];intro c hc;obtain⟨i,hi,rfl⟩:=List.getElem_of_mem hc;have:=h i hi;simp only[nth,List.getD,List.getElem?_eq_getElem hi,Option.getD_some] at this;simp[this]
theorem zwz {w:List Data}{t:Ty}{l:List Cl} (h:8<l.length):zbn w t l=false:=by
 unfold zbn;rw[decide_eq_false (by omega),Bool.false_and,Bool.and_false]
theorem zye {w:List Data}{t:Ty}{l:List Cl} (h:zbE w t=false):zbn w t l=false:=by
 unfold zbn;rw[h,Bool.false_and]
theorem zjO {w:List Data} (hs:WSmall w){a k:Int}{l:List Cl} (hl:ClsOk l) (hz:ClsSz l):
  FnD Tryz.prog 60 [.d (zah w),.agg [.d (.i a),.d (.i k)],.d (zbI l)] [] (.d (.bool (zbn w ⟨a,k⟩ l))) []:=by
 have hll:=hl.1;refine bd Tryz.f60 31 [] [] fun w0 F0 own kept hk=>?_;refine bx 3004 ?_;refine ev ?_;refine wc ztF (zhX hs) rfl rfl ?_;refine ev ?_;refine sq ?_ ?_<;>intro h1 h1p h1s<;>(try simp only[Q,Int.natCast_inj] at h1p);refine sqT ?_;refine rq ?_;rotate_left;refine sq ?_ ?_<;>intro h3 h3p h3s<;>(try simp only[Q,Int.natCast_inj] at h3p);refine rq ?_;rotate_left;refine xak (ι:=Nat) hk (fun i=>[(7,.d (.i (i:Int)))]) [6,17,18,19,20,21,22,23,24,25,26,27,28,29,30] (fun i=>[]) (fun i=>i<=l.length/\∀i',i'<i->clOk w ⟨a,k⟩ (nth l i')=true) (fun i=>l.length-i) 0 ⟨by omega,fun _ h=>absurd h (by omega)⟩ ⟨⟨_,rfl,xaq ?_⟩,trivial⟩ trivial (fun x=>rfl) (fun i hg1=>?_);focus (first|rfl|(simp;done)|(simp_all;done)|omega)
 refine evc [] [] ?_;refine sq ?_ ?_<;>intro h4 h4p h4s<;>(try simp only[Q,Int.natCast_inj] at h4p);refine xaU sl26 .none rfl rfl rfl rfl (zaq (by omega)) rfl ?_;refine evd [] [] ?_;refine wc zxi (zrG (t:=⟨a,k⟩) (c:=nth l i) (zeG hs (zbq (by assumption)).1) (zvW (zbq (by assumption)).1) (zyP (by assumption)) (hl.2 _ (zae (by omega))) (hz _ (zae (by omega)))) rfl rfl ?_;refine evd [] [] ?_;refine dr ?_;refine sq ?_ ?_<;>intro h5 h5p h5s<;>(try simp only[Q,Int.natCast_inj] at h5p);refine rq ?_;rotate_left;refine ar ?_;refine xah (i+1) ⟨⟨by omega,zaT hg1.2 (by assumption)⟩,(by omega),sx ⟨⟨_,rfl,xaq ?_⟩,trivial⟩ trivial⟩;focus (first|rfl|(simp;done)|(simp_all;done)|omega)
 refine rq ?_;rotate_left;all_goals (refine congrArg D.bool ?_;first|(rw[zye (by assumption)];done)|(rw[zwz (by omega)];done)|(rw[zyd (i:=i) (by omega) (by assumption)];done)|(rw[zwy (by assumption) (by omega) (fun x hx=>hg1.2 x (by omega))];done))
theorem zoh {w:List Data}{a k:Int}{l:List Cl} (h:zbn w ⟨a,k⟩ l=true):zbE w ⟨a,k⟩=true/\l.length<=8:=by
 unfold zbn at h;simp only[xad,decide_eq_true_eq] at h;exact⟨h.1,by omega⟩
end Go.Proofs.YtlfipehhbdjnjaaGreat
