/-
  THE ABSTRACT WALK AND THE WALKS, part 3 of 6: the parts F21, F24, F25, F13, G2, F22, F26, F23, F27, F28, F29, F40, F14, F16, F42, Val, F7, F8, Wu, F9, F10, F11, F17, F43, F44, F45, F46, F50, F51, F52, F53, F54, F55, F56, F57, F58, F60, F61, F30, F63, F102, F18, F19, F31, F32, F33, F34, F35.
-/
import Derived.Test.YtlfipehhbdjnjaaGreatT562
namespace Go.Proofs.YtlfipehhbdjnjaaGreat
open Go
set_option linter.unusedSimpArgs false
set_option linter.unusedVariables false
set_option maxRecDepth 100000
set_option maxHeartbeats 4000000
theorem zhL {w:List Data}{d:Nat}{k:Int}:zaj w ⟨d,k⟩=za3 w ⟨d,k⟩:=by unfold zaj;rw[if_neg (by simp only;omega)]
theorem zgF {w:List Data}{k:Int}:zaj w ⟨-1,k⟩=[]:=by unfold zaj;rw[if_pos rfl]
theorem zgG {w:List Data} (hw:WT w){a k:Int} (ht:TyIn w.length ⟨a,k⟩):(zaj w ⟨a,k⟩).length<=1000000000000:=by
 rcases ht with ha|⟨d,hd,hlt⟩
 ·simp only at ha;subst ha;rw[zgF];exact Nat.zero_le _
 ·simp only at hd;subst hd;rw[zhL];exact zqU hw
theorem zct {w:List Data}{a k c:Int} (ht:TyIn w.length ⟨a,k⟩) (h:c∈zaj w ⟨a,k⟩):∃d:Nat,a=d/\d<w.length/\PlaceIn w d c:=by
 rcases ht with ha|⟨d,hd,hlt⟩
 ·simp only at ha;subst ha;rw[zgF] at h;simp at h
 ·simp only at hd;subst hd;rw[zhL] at h;exact⟨d,rfl,hlt,zqf h⟩
theorem zf8 {w:List Data} (hw:WT w){a k:Int}{p:Pat} (ht:TyIn w.length ⟨a,k⟩) (h:ownP w ⟨a,k⟩ p=true):∀t∈zag w ⟨a,k⟩ p,TyIn w.length t:=by
 intro t hm;unfold zag at hm;split at hm
 ·rename_i h4;unfold ownP at h;have h':=of_decide_eq_true h;have hc:p.ctor∈zaj w ⟨a,k⟩:=by
   rcases h'.2.2.2.2 with h|h|h|h|h|h
   ·omega
   ·omega
   ·omega
   ·omega
   ·omega
   ·exact h.2
  obtain⟨d,rfl,h1,h2⟩:=zct ht hc;exact znX hw h1 h2 hm
 ·split at hm
  ·simp only[List.mem_cons,List.not_mem_nil,or_false] at hm;rcases hm with rfl|rfl<;>exact ht
  ·split at hm
   ·simp only[List.mem_cons,List.not_mem_nil,or_false] at hm;subst hm;exact ht
   ·simp at hm
theorem zgD {w:List Data} (hw:WT w){a k:Int}{p:Pat} (ht:TyIn w.length ⟨a,k⟩) (h:p.op=4->p.ctor∈zaj w ⟨a,k⟩):(zag w ⟨a,k⟩ p).length<=1000000000000:=by
 unfold zag;split
 ·rename_i h4;obtain⟨d,rfl,h1,h2⟩:=zct ht (h h4);exact ziq hw h1 h2
 ·split
  ·simp
  ·split<;>simp
def zfP (op:Int):Int:=if op=5 then 2 else if op=6 then 1 else if op=4 then -1 else 0
theorem znP {op:Int}:FnD Tryz.prog 319 [.d (.i op)] [] (.d (.i (zfP op))) []:=by
 refine bd Tryz.f319 10 [] [] fun w0 F0 own kept hk=>?_;refine sq ?_ ?_<;>intro h1 h1p h1s;refine rq ?_;rotate_left;refine sq ?_ ?_<;>intro h2 h2p h2s;refine rq ?_;rotate_left;refine sq ?_ ?_<;>intro h3 h3p h3s;refine rq ?_;rotate_left;refine rq ?_;rotate_left;all_goals (refine congrArg D.i ?_;simp only[zfP];simp_all)
theorem zb5 {w:List Data} (hw:WT w){a k:Int} (ht:TyIn w.length ⟨a,k⟩):FnD Tryz.prog 226 [.d (zam w),.agg [.d (.i a),.d (.i k)]] [] (.d (zbB (zaj w ⟨a,k⟩))) []:=by
 rcases ht with ha|⟨d,hd,hlt⟩
 ·simp only at ha;subst ha;rw[zgF];exact zje
 ·simp only at hd;subst hd;rw[zhL];exact zmR hw hlt
theorem zcg {w:List Data} (hw:WT w){a k c:Int} (ht:TyIn w.length ⟨a,k⟩) (hc:c∈zaj w ⟨a,k⟩):FnD Tryz.prog 254 [.d (zam w),.agg [.d (.i a),.d (.i k)],.d (.i c)] [] (.d (zci (zaa w ⟨a,k⟩ c))) []:=by
 obtain⟨d,rfl,h1,h2⟩:=zct ht hc;exact znG hw h1 h2
theorem zgh {w:List Data} (hw:WT w){a k:Int}{p:Pat} (ht:TyIn w.length ⟨a,k⟩):
  FnD Tryz.prog 351 [.d (zam w),.agg [.d (.i a),.d (.i k)],.agg [.d (.i p.op),.d (.i p.ctor),.d (.i p.n),.d (.i p.m),.d (.i p.var),.d (zad p.kids)]] [] (.d (.bool (ownP w ⟨a,k⟩ p))) []:=by
 have hcl:=zgG hw ht;refine bd Tryz.f351 96 [] [1,2,4,13] fun w0 F0 own kept hk=>?_;refine bx 3004 ?_;refine bx 3005 ?_;refine ev ?_;refine xal ?_;refine xaA 8 [(15,.d (.bool (decide (p.op=2\/p.op=6))))] [8,9,10,11,12,13,14] ?_ ?_;refine ev ?_;refine sq ?_ ?_<;>intro h1 h1p h1s;exact jnb rfl;exact jnb rfl;refine xaz ?_;refine ev ?_;refine xal ?_;refine xaA 11 [(26,.d (.bool (decide ((p.op=2\/p.op=6)/\(p.var<0\/5<p.var)))))] [16,17,18,19,20,21,22,23,24,25] ?_ ?_;refine ev ?_;refine sq ?_ ?_<;>intro h2 h2p h2s;refine sq ?_ ?_<;>intro h3 h3p h3s;exact jnb rfl;exact jnb rfl;exact jnb rfl;refine xaA 9 [(35,.d (.bool (decide ((p.op=2\/p.op=6)/\(p.var<0\/5<p.var)\/¬(p.op=2\/p.op=6)/\p.var≠0))))] [27,28,29,30,31,32,33,34] ?_ ?_;refine ev ?_;refine sq ?_ ?_<;>intro h4 h4p h4s;exact jnb rfl;refine sq ?_ ?_<;>intro h5 h5p h5s;exact jnb rfl;exact jnb rfl;refine xaz ?_;refine tv ?_;refine sq ?_ ?_<;>intro h6 h6p h6s;refine rq ?_;rotate_left;refine xal ?_;refine xaA 13 [(48,.d (.bool (decide (p.op≠3/\(p.n≠0\/p.m≠0)))))] [36,37,38,39,40,41,42,43,44,45,46,47] ?_ ?_;refine ev ?_;refine sq ?_ ?_<;>intro h7 h7p h7s;refine sq ?_ ?_<;>intro h8 h8p h8s;exact jnb rfl;exact jnb rfl;exact jnb rfl;refine xaA 10 [(58,.d (.bool (decide (p.op≠3/\(p.n≠0\/p.m≠0)\/p.op≠4/\p.ctor≠0))))] [49,50,51,52,53,54,55,56,57] ?_ ?_;refine ev ?_;refine sq ?_ ?_<;>intro h9 h9p h9s;exact jnb rfl;refine sq ?_ ?_<;>intro h10 h10p h10s;exact jnb rfl;exact jnb rfl;refine xaz ?_;refine tv ?_;refine sq ?_ ?_<;>intro h11 h11p h11s;refine rq ?_;rotate_left;refine sq ?_ ?_<;>intro h12 h12p h12s;refine sq ?_ ?_<;>intro h13 h13p h13s;refine rq ?_;rotate_left;refine sq ?_ ?_<;>intro h14 h14p h14s;refine xal ?_;refine xaA 8 [(75,.d (.bool (decide (a = -1/\0<=p.n))))] [68,69,70,71,72,73,74] ?_ ?_;refine ev ?_;refine sq ?_ ?_<;>intro h15 h15p h15s;exact jnb rfl;exact jnb rfl;refine xaA 7 [(82,.d (.bool (decide (a = -1/\0<=p.n/\p.n<=p.m))))] [76,77,78,79,80,81] ?_ ?_;refine ev ?_;refine sq ?_ ?_<;>intro h16 h16p h16s;exact jnb rfl;exact jnb rfl;refine xaA 5 [(87,.d (.bool (decide (a = -1/\0<=p.n/\p.n<=p.m/\p.m<=9))))] [83,84,85,86] ?_ ?_;refine ev ?_;refine sq ?_ ?_<;>intro h17 h17p h17s;exact jnb rfl;exact jnb rfl;refine xaz ?_;refine ev ?_;refine rq ?_;rotate_left;refine sq ?_ ?_<;>intro h18 h18p h18s;refine wc zfT (zb5 hw ht) rfl rfl ?_;refine evd [] [] ?_;refine wc zlO (zeB hcl) rfl rfl ?_;refine evd [] [] ?_;refine dr ?_;refine rq ?_;rotate_left;refine rq ?_;rotate_left;refine sq ?_ ?_<;>intro h19 h19p h19s;refine sq ?_ ?_<;>intro h20 h20p h20s;refine rq ?_;rotate_left;refine sq ?_ ?_<;>intro h21 h21p h21s;refine xal ?_;refine xaA 8 [(75,.d (.bool (decide (a = -1/\0<=p.n))))] [68,69,70,71,72,73,74] ?_ ?_;refine ev ?_;refine sq ?_ ?_<;>intro h22 h22p h22s;exact jnb rfl;exact jnb rfl;refine xaA 7 [(82,.d (.bool (decide (a = -1/\0<=p.n/\p.n<=p.m))))] [76,77,78,79,80,81] ?_ ?_;refine ev ?_;refine sq ?_ ?_<;>intro h23 h23p h23s;exact jnb rfl;exact jnb rfl;refine xaA 5 [(87,.d (.bool (decide (a = -1/\0<=p.n/\p.n<=p.m/\p.m<=9))))] [83,84,85,86] ?_ ?_;refine ev ?_;refine sq ?_ ?_<;>intro h24 h24p h24s;exact jnb rfl;exact jnb rfl;refine xaz ?_;refine ev ?_;refine rq ?_;rotate_left;refine sq ?_ ?_<;>intro h25 h25p h25s;refine wc zfT (zb5 hw ht) rfl rfl ?_;refine evd [] [] ?_;refine wc zlO (zeB hcl) rfl rfl ?_;refine evd [] [] ?_;refine dr ?_;refine rq ?_;rotate_left;refine rq ?_;rotate_left;refine sq ?_ ?_<;>intro h26 h26p h26s;refine sq ?_ ?_<;>intro h27 h27p h27s;refine rq ?_;rotate_left;refine sq ?_ ?_<;>intro h28 h28p h28s;refine xal ?_;refine xaA 8 [(75,.d (.bool (decide (a = -1/\0<=p.n))))] [68,69,70,71,72,73,74] ?_ ?_;refine ev ?_;refine sq ?_ ?_<;>intro h29 h29p h29s;exact jnb rfl;exact jnb rfl;refine xaA 7 [(82,.d (.bool (decide (a = -1/\0<=p.n/\p.n<=p.m))))] [76,77,78,79,80,81] ?_ ?_;refine ev ?_;refine sq ?_ ?_<;>intro h30 h30p h30s;exact jnb rfl;exact jnb rfl;refine xaA 5 [(87,.d (.bool (decide (a = -1/\0<=p.n/\p.n<=p.m/\p.m<=9))))] [83,84,85,86] ?_ ?_;refine ev ?_;refine sq ?_ ?_<;>intro h31 h31p h31s;exact jnb rfl;exact jnb rfl;refine xaz ?_;refine ev ?_;refine rq ?_;rotate_left;refine sq ?_ ?_<;>intro h32 h32p h32s;refine wc zfT (zb5 hw ht) rfl rfl ?_;refine evd [] [] ?_;refine wc zlO (zeB hcl) rfl rfl ?_;refine evd [] [] ?_;refine dr ?_;refine rq ?_;rotate_left;refine rq ?_;rotate_left;refine sq ?_ ?_<;>intro h33 h33p h33s;refine rq ?_;rotate_left;refine sq ?_ ?_<;>intro h34 h34p h34s;refine xal ?_;refine xaA 8 [(75,.d (.bool (decide (a = -1/\0<=p.n))))] [68,69,70,71,72,73,74] ?_ ?_;refine ev ?_;refine sq ?_ ?_<;>intro h35 h35p h35s;exact jnb rfl;exact jnb rfl;refine xaA 7 [(82,.d (.bool (decide (a = -1/\0<=p.n/\p.n<=p.m))))] [76,77,78,79,80,81] ?_ ?_;refine ev ?_;refine sq ?_ ?_<;>intro h36 h36p h36s;exact jnb rfl;exact jnb rfl;refine xaA 5 [(87,.d (.bool (decide (a = -1/\0<=p.n/\p.n<=p.m/\p.m<=9))))] [83,84,85,86] ?_ ?_;refine ev ?_;refine sq ?_ ?_<;>intro h37 h37p h37s;exact jnb rfl;exact jnb rfl;refine xaz ?_;refine ev ?_;refine rq ?_;rotate_left;refine sq ?_ ?_<;>intro h38 h38p h38s;refine wc zfT (zb5 hw ht) rfl rfl ?_;refine evd [] [] ?_;refine wc zlO (zeB hcl) rfl rfl ?_;refine evd [] [] ?_;refine dr ?_;refine rq ?_;rotate_left;refine rq ?_;rotate_left;all_goals (refine congrArg D.bool ?_;unfold ownP;rw[Bool.eq_iff_iff];by_cases hmem:p.ctor∈zaj w ⟨a,k⟩<;>(simp only[hmem,and_true,and_false,or_false,decide_eq_true_eq,xad,Bool.false_eq_true,true_iff,false_iff];simp only[decide_eq_true_eq,decide_eq_false_iff_not] at *;omega))
theorem zde {w:List Data} (hw:WT w){a k:Int}{p:Pat} (ht:TyIn w.length ⟨a,k⟩) (h:p.op=4->p.ctor∈zaj w ⟨a,k⟩):
  FnD Tryz.prog 252 [.d (zam w),.agg [.d (.i a),.d (.i k)],.agg [.d (.i p.op),.d (.i p.ctor),.d (.i p.n),.d (.i p.m),.d (.i p.var),.d (zad p.kids)]] [] (.d (zci (zag w ⟨a,k⟩ p))) []:=by
 by_cases h4:p.op=4
 ·have e:zag w ⟨a,k⟩ p=zaa w ⟨a,k⟩ p.ctor:=by unfold zag;rw[if_pos h4]
  rw[e];refine bd Tryz.f252 30 [] [] fun w0 F0 own kept hk=>?_;refine bx 3004 ?_;refine bx 3005 ?_;refine ev ?_;refine sq ?_ ?_<;>intro h1 h1p h1s;refine wc zfU (zcg hw ht (h h4)) rfl rfl ?_;refine ev ?_;refine rq ?_;rotate_left;exfalso;simp_all;all_goals (rfl)
 ·have e:zag w ⟨a,k⟩ p=List.replicate (zfP p.op).toNat ⟨a,k⟩:=by
   unfold zag zfP;rw[if_neg h4];by_cases h5:p.op=5
   ·rw[if_pos h5,if_pos h5];rfl
   ·rw[if_neg h5,if_neg h5];by_cases h6:p.op=6
    ·rw[if_pos h6,if_pos h6];rfl
    ·rw[if_neg h6,if_neg h6,if_neg h4];rfl
  have hb:0<=zfP p.op/\zfP p.op<=2:=by unfold zfP;split<;>(try split)<;>(try split)<;>omega
  rw[e];refine bd Tryz.f252 30 [] [] fun w0 F0 own kept hk=>?_;refine bx 3004 ?_;refine bx 3005 ?_;refine ev ?_;refine sq ?_ ?_<;>intro h1 h1p h1s;exfalso;simp_all;refine xbg 5 zaZ .none rfl rfl ?_;refine ev ?_;refine xak (ι:=Nat) hk (fun i=>[(8,.d (.i (i:Int))),(7,.gl 5 ((List.replicate i (⟨a,k⟩:Ty)).map Ty.c))]) [18,19,20,21,22,23,24,25,26,27,28] (fun i=>[(5,some (.tok (((List.replicate i (⟨a,k⟩:Ty)).map Ty.c)).length 2))]) (fun i=>(i:Int)<=zfP p.op) (fun i=>(zfP p.op).toNat-i) 0 (by omega) ⟨⟨_,rfl,xaq ?_⟩,⟨⟨_,rfl,LeA.glg ?_⟩,trivial⟩⟩ ⟨zab ?_,trivial⟩ (fun x=>rfl) (fun i hg1=>?_);iterate 3 focus (rfl)
  refine evc [] [] ?_;refine wc zw1 (znP) rfl rfl ?_;refine ev ?_;refine sq ?_ ?_<;>intro h2 h2p h2s<;>(try simp only[Q] at h2p);refine si [0] [_] zaZ tz25 ?_;refine ap zaZ zz25 rfl rfl rfl (by simp) (by simp;omega) ?_;refine ev ?_;refine ar ?_;refine xah (i+1) ⟨(by omega),(by omega),sx ⟨⟨_,rfl,xaq ?_⟩,⟨⟨_,rfl,LeA.glg ?_⟩,trivial⟩⟩ ⟨zab ?_,trivial⟩⟩;iterate 3 focus ((simp[List.replicate_succ'];done))
  refine rn0 (r1 rfl) (.gld ?_);rotate_left;all_goals ((obtain rfl:i=(zfP p.op).toNat:=by omega);simp)
theorem zbT {w:List Data}{n:Nat}{t:Ty}{p:Pat} (h:zas w (n+1) t p=true):ownP w t p=true/\p.kids.length=(zag w t p).length:=by
 simp only[zas,xad] at h;refine⟨h.1, ?_⟩;by_cases hl:(zag w t p).length=p.kids.length
 ·exact hl.symm
 ·rw[zgO hl] at h;simp at h
theorem zcc {w:List Data}{t:Ty}{p:Pat} (h:ownP w t p=true):p.op=4->p.ctor∈zaj w t:=by
 intro h4;unfold ownP at h;have h':=(of_decide_eq_true h).2.2.2.2;rcases h' with h|h|h|h|h|h
 ·omega
 ·omega
 ·omega
 ·omega
 ·omega
 ·exact h.2
theorem zqc {w:List Data}{t:Ty}{p:Pat} (h:ownP w t p=true):(p.op=2\/p.op=6)->0<=p.var/\p.var<=5:=by
 unfold ownP at h;exact(of_decide_eq_true h).1
theorem zfn {w:List Data} (hw:WT w):∀(n:Nat){a k m:Int}{p:Pat},m=n->n<=1000->TyIn w.length ⟨a,k⟩->p.ok->
  FnD Tryz.prog 296 [.d (zam w),.agg [.d (.i a),.d (.i k)],.agg [.d (.i p.op),.d (.i p.ctor),.d (.i p.n),.d (.i p.m),.d (.i p.var),.d (zad p.kids)],.d (.i m)] [] (.d (.bool (zas w n ⟨a,k⟩ p))) []
 |0,a,k,m,p,hm,_,ht,hok=>by
  refine bd Tryz.f296 50 [] [1] fun w0 F0 own kept hk=>?_;refine bx 3005 ?_;refine bx 3006 ?_;refine ev ?_;refine xal ?_;refine xaA 9 [(19,.d (.bool (true)))] [11,12,13,14,15,16,17,18] ?_ ?_;refine ev ?_;refine sq ?_ ?_<;>intro h1 h1p h1s;exact jnb rfl;refine Walk.call (cr:=[]) zpv (zgh hw ht) rfl (.some rfl rfl h1) rfl rfl (LeL.refl _) trivial rfl rfl rfl ?_;refine evs [] [(13,false)] ?_ ⟨⟨_,rfl,h1⟩,trivial⟩;exact jnb rfl;refine xaz ?_;refine tv ?_;refine sq ?_ ?_<;>intro h2 h2p h2s;refine rq ?_;rotate_left;exact absurd h2 (by simp);all_goals (rfl)
 |n+1,a,k,m,p,hm,hn,ht,hok=>by
  rw[Pat.ok_iff] at hok;by_cases ho:ownP w ⟨a,k⟩ p=true
  ·have hin:=zf8 hw ht ho;have hlen:=zgD hw ht (zcc ho);refine bd Tryz.f296 50 [] [1] fun w0 F0 own kept hk=>?_;refine bx 3005 ?_;refine bx 3006 ?_;refine ev ?_;refine xal ?_;refine xaA 9 [(19,.d (.bool (false)))] [11,12,13,14,15,16,17,18] ?_ ?_;refine ev ?_;refine sq ?_ ?_<;>intro h1 h1p h1s;exact jnb rfl;refine Walk.call (cr:=[]) zpv (zgh hw ht) rfl (.some rfl rfl h1) rfl rfl (LeL.refl _) trivial rfl rfl rfl ?_;refine evs [] [(13,false)] ?_ ⟨⟨_,rfl,h1⟩,trivial⟩;exact jnb rfl;refine xaz ?_;refine tv ?_;refine sq ?_ ?_<;>intro h2 h2p h2s;exact absurd h2 (by simp);refine wc zjp (zde hw ht (zcc ho)) rfl rfl ?_;refine ev ?_;refine sq ?_ ?_<;>intro h3 h3p h3s;refine rq ?_;rotate_left;try simp only[Q,Pat.cs_len] at h3p
   refine xak (ι:=Nat) hk (fun i=>[(10,.d (.i (i:Int)))]) [8,30,31,32,33,34,35,36,37,38,39,40,41,42,43,44,45,46,47,48,49] (fun i=>[]) (fun i=>i<=(zag w ⟨a,k⟩ p).length/\∀i',i'<i->zas w n (nth (zag w ⟨a,k⟩ p) i') (nth p.kids i')=true) (fun i=>(zag w ⟨a,k⟩ p).length-i) 0 ⟨by omega,fun _ h=>absurd h (by omega)⟩ ⟨⟨_,rfl,xaq ?_⟩,trivial⟩ trivial (fun x=>rfl) (fun i hg1=>?_);focus (first|(simp;done)|(simp_all;done))
   refine evc [] [1] ?_;refine sq ?_ ?_<;>intro h4 h4p h4s;try simp only[Q,Pat.cs_len] at h4p
   refine xaS zaZ .none rfl rfl rfl rfl (zap (by omega)) rfl ?_;refine evd [] [] ?_;refine xaS sl34 .none rfl rfl rfl rfl (zaH (by omega)) rfl ?_;refine evd [] [] ?_;refine ar ?_;refine wc zps (zfn hw n (by omega) (by omega) (hin _ (zac (by omega))) (Pats.ok_mem hok.2 _ (zac (by omega)))) rfl rfl ?_;refine evd [] [] ?_;refine dr ?_;refine sq ?_ ?_<;>intro h5 h5p h5s;refine rq ?_;rotate_left;try simp only[Q,Pat.cs_len] at h5p
   refine ar ?_;refine xah (i+1) ⟨⟨by omega,zaX hg1.2 (by assumption)⟩,(by omega),sx ⟨⟨_,rfl,xaq ?_⟩,trivial⟩ trivial⟩;focus (first|(simp;done)|(simp_all;done))
   refine rq ?_;rotate_left;all_goals (refine congrArg D.bool ?_;unfold zas;rw[ho,Bool.true_and];first|(rw[zgO (by simp[Pat.cs_len] at *;omega)])|(rw[zcf (by simp[Pat.cs_len] at *;omega) (fun x hx=>hg1.2 x (by simp[Pat.cs_len] at *;omega))])|(rw[zb1 (i:=i) (by simp[Pat.cs_len] at *;omega) (by simp[Pat.cs_len] at *;omega) (by assumption)]))
  ·have ho':ownP w ⟨a,k⟩ p=false:=by simpa using ho
   refine bd Tryz.f296 50 [] [1] fun w0 F0 own kept hk=>?_;refine bx 3005 ?_;refine bx 3006 ?_;refine ev ?_;refine xal ?_;refine xaA 9 [(19,.d (.bool (true)))] [11,12,13,14,15,16,17,18] ?_ ?_;refine ev ?_;refine sq ?_ ?_<;>intro h1 h1p h1s;exact jnb rfl;refine Walk.call (cr:=[]) zpv (zgh hw ht) rfl (.some rfl rfl h1) rfl rfl (LeL.refl _) trivial rfl rfl rfl ?_;refine evs [] [(13,false)] ?_ ⟨⟨_,rfl,h1⟩,trivial⟩;exact jnb rfl;refine xaz ?_;refine tv ?_;refine sq ?_ ?_<;>intro h2 h2p h2s;refine rq ?_;rotate_left;exact absurd h2 (by simp);all_goals (refine congrArg D.bool ?_;unfold zas;rw[ho'];rfl)
theorem zfI {l:List Vt}{n:Int} (h:l.length<=1000000000000):FnD Tryz.prog 299 [.d (zcP l),.d (.i n)] [] (.d (.i (zbH l n))) []:=by
 refine bd Tryz.f299 20 [] [] fun w0 F0 own kept hk=>?_;refine xak (ι:=List (Vt)×List (Vt)) hk (fun x=>[(5,.d (.i (x.1.length:Int)))]) [4,6,7,8,9,10,11,12,13,14,15,16,17,18,19] (fun x=>[]) (fun x=>x.1++x.2=l/\idxF (fun v=>decide (v.var=n)) x.2 x.1.length=idxF (fun v=>decide (v.var=n)) l 0) (fun x=>x.2.length) ([],l) ⟨by simp,rfl⟩ ⟨⟨_,rfl,xaq ?_⟩,trivial⟩ trivial (fun x=>rfl) (fun x hg1=>?_);focus (rfl)
 obtain⟨pre,rest⟩:=x;dsimp only at hg1 ⊢;refine evc [] [] ?_;refine sq ?_ ?_<;>intro h1 h1p h1s<;>(try simp only[Q] at h1p);rcases rest with _|⟨y,rest⟩
 ·exfalso;simp_all
 refine xaS zcZ .none rfl rfl rfl rfl (zaK hg1.1) rfl ?_;refine ev ?_;refine sq ?_ ?_<;>intro h2 h2p h2s<;>(try simp only[Q] at h2p);focus (refine rq ?_;all_goals (refine congrArg D.i ?_;unfold zbH;rw[<-hg1.2];simp[idxF,h1s,h1p,h2s,h2p]))
 refine ar ?_;refine xah ((pre++[y],rest)) ⟨⟨(by have hz:=hg1.1;rw[<-hz];simp),(by rw[<-hg1.2];simp_all[idxF])⟩,(by simp),sx ⟨⟨_,rfl,xaq ?_⟩,trivial⟩ trivial⟩;focus ((simp;done))
 have hrest:rest=[]:=by
  rcases rest with _|⟨a,b⟩
  ·rfl
  ·exfalso;have hz:=congrArg List.length (hg1.1);simp only[xaa,xab,xac] at hz;omega
 subst hrest;focus (refine rq ?_;all_goals (refine congrArg D.i ?_;unfold zbH;rw[<-hg1.2];simp[idxF,h1s,h1p]))
theorem zqS {a b:List Vt}{i:Nat} (h:i<a.length) (h2:¬(0<=zbH b (nth a i).var/\(nth b (zbH b (nth a i).var).toNat).ty=(nth a i).ty)):zds a b=false:=by
 unfold zds;have:(a.all fun v=>decide (0<=zbH b v.var/\(nth b (zbH b v.var).toNat).ty=v.ty))=false:=List.all_eq_false.2 ⟨_,zac h,by simpa using h2⟩;rw[this,Bool.false_and]
theorem zr0 {a b:List Vt} (h:∀i,i<a.length->0<=zbH b (nth a i).var/\(nth b (zbH b (nth a i).var).toNat).ty=(nth a i).ty):zds a b=decide (a.length=b.length):=by
 unfold zds;have:(a.all fun v=>decide (0<=zbH b v.var/\(nth b (zbH b v.var).toNat).ty=v.ty))=true:=by
  rw[List.all_eq_true];intro v hv;obtain⟨j,hj,he⟩:=List.getElem_of_mem hv;have:=h j hj;rw[zaI hj,he] at this;exact decide_eq_true this
 rw[this,Bool.true_and]
theorem zk2 {l:List Vt}{n:Int} (h:0<=zbH l n):(zbH l n).toNat<l.length/\((zbH l n).toNat:Int)=zbH l n:=by
 rcases ze3 l n with ⟨h1,_⟩|⟨k,h1,h2,_⟩
 ·omega
 ·rw[h1];simpa using h2
theorem zt2 {t u:Ty}:t=u↔t.data=u.data/\t.index=u.index:=by
 cases t;cases u;simp
theorem zmY {x y:List Vt} (hx:x.length<=1000000000000) (hy:y.length<=1000000000000):FnD Tryz.prog 352 [.d (zcP x),.d (zcP y)] [] (.d (.bool (zds x y))) []:=by
 refine bd Tryz.f352 40 [33] [] fun w0 F0 own kept hk=>?_;refine xak (ι:=Nat) hk (fun i=>[(5,.d (.i (i:Int)))]) [4,6,7,8,9,10,11,12,13,14,15,16,17,18,19,20,21,22,23,24,25,26,27,28,29,30,31,32,33,34] (fun i=>[]) (fun i=>i<=x.length/\∀j,j<i->0<=zbH y (nth x j).var/\(nth y (zbH y (nth x j).var).toNat).ty=(nth x j).ty) (fun i=>x.length-i) 0 ⟨by omega,fun _ h=>absurd h (by omega)⟩ ⟨⟨_,rfl,xaq ?_⟩,trivial⟩ trivial (fun x=>rfl) (fun i hg1=>?_);focus (rfl)
 refine evc [33] [] ?_;refine sq ?_ ?_<;>intro h1 h1p h1s<;>(try simp only[Q] at h1p);refine xaS zcZ .none rfl rfl rfl rfl (zap (by omega)) rfl ?_;refine evs [33] [] ?_;refine wc zpu (zfI hy) rfl rfl ?_;refine evs [33] [] ?_;refine sq ?_ ?_<;>intro h2 h2p h2s<;>(try simp only[Q] at h2p);refine dr ?_;refine sqT ?_;refine rq ?_;rotate_left;refine xaS (i:=(zbH y (nth x i).var).toNat) zcZ (.some rfl rfl h2) rfl rfl rfl (zk2 (l:=y) (n:=(nth x i).var) (by omega)).2.symm (zap (by exact(zk2 (l:=y) (n:=(nth x i).var) (by omega)).1)) rfl ?_;refine evd [33] [(22,false)] ?_ ⟨⟨_,rfl,h2⟩,trivial⟩;refine xaS zcZ (.some rfl rfl h2) rfl rfl rfl rfl (zap (by omega)) rfl ?_;refine evd [33] [(22,false)] ?_ ⟨⟨_,rfl,h2⟩,trivial⟩;refine Walk.neV eq25 (.some rfl rfl h2) rfl rfl rfl rfl rfl ?_;refine evd [33] [(22,false)] ?_ ⟨⟨_,rfl,h2⟩,trivial⟩;refine dr ?_;refine sq ?_ ?_<;>intro h4 h4p h4s<;>(try simp only[Q] at h4p);refine rq ?_;rotate_left;refine ar ?_;refine xah (i+1) ⟨⟨by omega,zaX hg1.2 (by rw[zt2];first|omega|(simp at h4;omega))⟩,(by omega),sx ⟨⟨_,rfl,xaq ?_⟩,trivial⟩ trivial⟩;focus (rfl)
 refine rq ?_;rotate_left;all_goals (refine congrArg D.bool ?_;first|(refine(zqS (i:=i) (by omega) ?_).symm;simp only[zt2];first|omega|(simp at h4;omega))|(rw[zr0 (fun j hj=>hg1.2 j (by simp at h1p;omega))];exact decide_eq_decide.2 (by simp;omega)))
theorem zj9 {f:Ty->Pat->List Vt} (hf:∀t p,(f t p).length<=p.size):∀(a:List Ty) (b:List Pat),(zbc f a b).length<=Pats.size b
 | [],[]=>by simp[zbc]
 | [],_::_=>by simp[zbc]
 |_::_,[]=>by simp[zbc]
 |x::r,y::s=>by
  have h1:=zj9 hf r s;have h2:=hf x y;simp only[zbc,xaa,Pats.size];omega
theorem zea (w:List Data):∀(n:Nat) (t:Ty) (p:Pat),(zaG w n t p).length<=p.size
 |0,t,p=>by simp[zaG]
 |n+1,t,p=>by
  have h1:=zj9 (zea w n) (zdi w t p) p.kids;have h2:(zaT t p).length<=1:=by unfold zaT;split<;>simp
  rw[Pat.size_eq];simp only[zaG,xaa];omega
theorem ziU {f:Ty->Pat->List Vt}:∀ {a:List Ty}{b:List Pat}{i:Nat},i<a.length->i<b.length->zbc f (a.take (i+1)) (b.take (i+1))=zbc f (a.take i) (b.take i)++f (nth a i) (nth b i)
 |x::r,y::s,0,_,_=>by simp[zbc,nth]
 |x::r,y::s,i+1,h1,h2=>by
  have:=ziU (f:=f) (a:=r) (b:=s) (i:=i) (by simpa using h1) (by simpa using h2);simp only[List.take_succ_cons,zbc];rw[this,List.append_assoc];rfl
theorem znb {f:Ty->Pat->List Vt}:∀ {a:List Ty}{b:List Pat}{i:Nat},zbc f (a.take i) (b.take i)=zbc f (a.take i) b
 | [],b,i=>by simp[zbc]
 |x::r,[],i=>by simp[zbc]
 |x::r,y::s,0=>by simp[zbc]
 |x::r,y::s,i+1=>by simp only[List.take_succ_cons,zbc];rw[znb]
theorem zqP {f:Ty->Pat->List Vt} (hf:∀t p,(f t p).length<=p.size){a:List Ty}{b:List Pat}{i:Nat} (h:i<b.length):(zbc f (a.take i) (b.take i)).length+(nth b i).size<=Pats.size b:=by
 have h1:=zj9 hf (a.take i) (b.take i);have h2:=Pats.size_split (pre:=b.take i) (y:=nth b i) (rest:=b.drop (i+1)) (l:=b) (by rw[<-zaS h,List.take_append_drop]);omega
def zdx (w:List Data) (t:Ty) (p:Pat):Nat:=(zdi w t p).length
theorem zka (w:List Data) (t:Ty) (p:Pat):zdx w t p=if p.op=5 then 1 else (zag w t p).length:=by
 unfold zdx zdi;by_cases h5:p.op=5
 ·rw[if_pos h5,if_pos h5];have:zag w t p=[t,t]:=by unfold zag;rw[if_neg (by omega),if_pos h5]
  rw[this];rfl
 ·rw[if_neg h5,if_neg h5]
theorem zoJ {w:List Data}{f:Ty->Pat->List Vt}{t:Ty}{p:Pat} (hl:p.kids.length=(zag w t p).length){i:Nat} (h:i=zdx w t p):zbc f ((zag w t p).take i) (p.kids.take i)=zbc f (zdi w t p) p.kids:=by
 subst h;rw[znb];congr 1
 rw[zka];unfold zdi;by_cases h5:p.op=5
 ·rw[if_pos h5,if_pos h5]
 ·rw[if_neg h5,if_neg h5,List.take_length]
theorem zbS {w:List Data}{n:Nat}{t:Ty}{p:Pat} (h:zas w (n+1) t p=true){i:Nat} (hi:i<p.kids.length):zas w n (nth (zag w t p) i) (nth p.kids i)=true:=by
 have hl:=(zbT h).2;cases hs:zas w n (nth (zag w t p) i) (nth p.kids i) with
 |true=>rfl
 |false=>
  have:=zb1 (f:=zas w n) (a:=zag w t p) (b:=p.kids) (i:=i) (by omega) hl.symm hs;simp only[zas,this,Bool.and_false] at h;cases h
theorem zfK {w:List Data} (hw:WT w):∀(n:Nat){a k:Int}{p:Pat}{xs:List Vt},zas w n ⟨a,k⟩ p=true->n<=1000->TyIn w.length ⟨a,k⟩->p.ok->xs.length+p.size<=2000000000000->
  FnD Tryz.prog 225 [.gl 5 (xs.map Vt.c),.d (zam w),.agg [.d (.i a),.d (.i k)],.agg [.d (.i p.op),.d (.i p.ctor),.d (.i p.n),.d (.i p.m),.d (.i p.var),.d (zad p.kids)]] [(5,some (.tok (xs.map Vt.c).length 3))]
   (.gl 5 ((xs++zaG w n ⟨a,k⟩ p).map Vt.c)) [(5,some (.tok ((xs++zaG w n ⟨a,k⟩ p).map Vt.c).length 3))]
 |0,a,k,p,xs,hs,_,_,_,_=>by simp[zas] at hs
 |n+1,a,k,p,xs,hs,hn,ht,hok,hb=>by
  rw[Pat.ok_iff] at hok;rw[Pat.size_eq] at hb;obtain⟨ho,hl⟩:=zbT hs;have hin:=zf8 hw ht ho;have hlen:=zgD hw ht (zcc ho);have hvc5:p.op=5->zdx w ⟨a,k⟩ p=1:=fun h=>by rw[zka,if_pos h]
  have hvc:¬p.op=5->zdx w ⟨a,k⟩ p=(zag w ⟨a,k⟩ p).length:=fun h=>by rw[zka,if_neg h]
  have hv2:zdx w ⟨a,k⟩ p<=p.kids.length:=by
   unfold zdx zdi;split
   ·rw[List.length_take];omega
   ·omega
  have e5:p.op=5->(zag w ⟨a,k⟩ p).length=2:=fun h5=>by unfold zag;rw[if_neg (by omega),if_pos h5];rfl
  have hnm:(zaT ⟨a,k⟩ p).length<=1:=by unfold zaT;split<;>simp
  refine bd Tryz.f225 58 [] [1,5,6] fun w0 F0 own kept hk=>?_;refine bx 3006 ?_;refine bx 3007 ?_;refine ev ?_;refine xal ?_;refine xaA 8 [(18,.d (.bool (decide (p.op=2\/p.op=6))))] [11,12,13,14,15,16,17] ?_ ?_;refine ev ?_;refine sq ?_ ?_<;>intro h1 h1p h1s;exact jnb rfl;exact jnb rfl;refine xaz ?_;refine tv ?_;refine sq ?_ ?_<;>intro h2 h2p h2s<;>(try simp only[Q,Pat.cs_len] at h2p);refine bu [0,1] [_,_] zsr ?_;refine si [0] [_] zcZ zpc ?_;refine ap zcZ zpe rfl rfl rfl (by simp) (by simp;omega) ?_;refine ev ?_;refine wc zjp (zde hw ht (zcc ho)) rfl rfl ?_;refine ev ?_;refine CWp.loopT 5 6 (ι:=Nat) hk (fun i=>[(0,.gl 5 ((xs++zaT ⟨a,k⟩ p++zbc (zaG w n) ((zag w ⟨a,k⟩ p).take i) (p.kids.take i)).map Vt.c)),(10,.d (.i (i:Int)))]) [30,31,32,33,34,35,36,37,38,39,40,41,42,43,44,45,46,47,48,49,50,51,52,53,54,55,56] (fun i=>[(5,some (.tok ((xs++zaT ⟨a,k⟩ p++zbc (zaG w n) ((zag w ⟨a,k⟩ p).take i) (p.kids.take i)).map Vt.c).length 3))]) (fun i=>i<=zdx w ⟨a,k⟩ p) (fun i=>zdx w ⟨a,k⟩ p-i) 0 (by omega) ⟨⟨_,rfl,LeA.glg ?_⟩,⟨⟨_,rfl,xaq ?_⟩,trivial⟩⟩ ⟨zab ?_,trivial⟩ (fun x=>rfl) (fun i hg1=>?_);iterate 3 focus ((simp[zbc,zaT, *];done))
  refine evc [] [1,5,6] ?_;refine xal ?_;refine xaA 13 [(42,.d (.bool (decide (i<zdx w ⟨a,k⟩ p))))] [30,31,32,33,34,35,36,37,38,39,40,41] ?_ ?_;refine ev ?_;refine sq ?_ ?_<;>intro h3 h3p h3s;refine sq ?_ ?_<;>intro h4 h4p h4s;exact jnb rfl;exact jnb rfl;exact jnb rfl;refine xaz ?_;refine tv ?_;refine sq ?_ ?_<;>intro h5 h5p h5s<;>(try simp only[Q,Pat.cs_len] at h5p);refine xaS zaZ .none rfl rfl rfl rfl (zap (by omega)) rfl ?_;refine evd [] [] ?_;refine xaS sl34 .none rfl rfl rfl rfl (zaH (by omega)) rfl ?_;refine evd [] [] ?_;refine xaG 6 zgR (zfK hw n (a:=(nth (zag w ⟨a,k⟩ p) i).data) (k:=(nth (zag w ⟨a,k⟩ p) i).index) (p:=nth p.kids i) (xs:=xs++zaT ⟨a,k⟩ p++zbc (zaG w n) ((zag w ⟨a,k⟩ p).take i) (p.kids.take i)) (zbS hs (by omega)) (by omega) (hin _ (zac (by omega))) (Pats.ok_mem hok.2 _ (zac (by omega))) (by have:=zqP (zea w n) (a:=zag w ⟨a,k⟩ p) (b:=p.kids) (i:=i) (by omega);simp only[xaa];omega)) rfl .none rfl rfl (.cons (.refl _) (.cons (.refl _) (.cons (.refl _) (.cons (.refl _) .nil)))) rfl (by rfl) ?_;refine evd [] [] ?_;refine dr ?_;refine CWp.retok 0 6 5 rfl rfl rfl rfl rfl ?_;refine evc [] [] ?_;refine ar ?_;refine xah (i+1) ⟨(by omega),(by omega),sx ⟨⟨_,rfl,LeA.glg ?_⟩,⟨⟨_,rfl,xaq ?_⟩,trivial⟩⟩ ⟨zab ?_,trivial⟩⟩;iterate 3 focus (first|rfl|(rw[ziU (by omega) (by omega)];simp[List.append_assoc];done))
  refine rn [(5,some (.tok ((xs++zaG w (n+1) ⟨a,k⟩ p).map Vt.c).length 3))] (r1 rfl) (.glg ?_) ⟨rfl,rfl⟩ (SubO.get ⟨.inr ?_,⟨.inl rfl,trivial⟩⟩) (zaC rfl);rotate_left 2;refine wc zjp (zde hw ht (zcc ho)) rfl rfl ?_;refine ev ?_;refine CWp.loopT 5 6 (ι:=Nat) hk (fun i=>[(0,.gl 5 ((xs++zaT ⟨a,k⟩ p++zbc (zaG w n) ((zag w ⟨a,k⟩ p).take i) (p.kids.take i)).map Vt.c)),(10,.d (.i (i:Int)))]) [30,31,32,33,34,35,36,37,38,39,40,41,42,43,44,45,46,47,48,49,50,51,52,53,54,55,56] (fun i=>[(5,some (.tok ((xs++zaT ⟨a,k⟩ p++zbc (zaG w n) ((zag w ⟨a,k⟩ p).take i) (p.kids.take i)).map Vt.c).length 3))]) (fun i=>i<=zdx w ⟨a,k⟩ p) (fun i=>zdx w ⟨a,k⟩ p-i) 0 (by omega) ⟨⟨_,rfl,LeA.glg ?_⟩,⟨⟨_,rfl,xaq ?_⟩,trivial⟩⟩ ⟨zab ?_,trivial⟩ (fun x=>rfl) (fun i hg1=>?_);iterate 3 focus ((simp[zbc,zaT, *];done))
  refine evc [] [1,5,6] ?_;refine xal ?_;refine xaA 13 [(42,.d (.bool (decide (i<zdx w ⟨a,k⟩ p))))] [30,31,32,33,34,35,36,37,38,39,40,41] ?_ ?_;refine ev ?_;refine sq ?_ ?_<;>intro h6 h6p h6s<;>(try simp only[Q,Pat.cs_len] at h6p);refine sq ?_ ?_<;>intro h7 h7p h7s<;>(try simp only[Q,Pat.cs_len] at h7p);exact jnb rfl;exact jnb rfl;exact jnb rfl;refine xaz ?_;refine tv ?_;refine sq ?_ ?_<;>intro h8 h8p h8s<;>(try simp only[Q,Pat.cs_len] at h8p);refine xaS zaZ .none rfl rfl rfl rfl (zap (by omega)) rfl ?_;refine evd [] [] ?_;refine xaS sl34 .none rfl rfl rfl rfl (zaH (by omega)) rfl ?_;refine evd [] [] ?_;refine xaG 6 zgR (zfK hw n (a:=(nth (zag w ⟨a,k⟩ p) i).data) (k:=(nth (zag w ⟨a,k⟩ p) i).index) (p:=nth p.kids i) (xs:=xs++zaT ⟨a,k⟩ p++zbc (zaG w n) ((zag w ⟨a,k⟩ p).take i) (p.kids.take i)) (zbS hs (by omega)) (by omega) (hin _ (zac (by omega))) (Pats.ok_mem hok.2 _ (zac (by omega))) (by have:=zqP (zea w n) (a:=zag w ⟨a,k⟩ p) (b:=p.kids) (i:=i) (by omega);simp only[xaa];omega)) rfl .none rfl rfl (.cons (.refl _) (.cons (.refl _) (.cons (.refl _) (.cons (.refl _) .nil)))) rfl (by rfl) ?_;refine evd [] [] ?_;refine dr ?_;refine CWp.retok 0 6 5 rfl rfl rfl rfl rfl ?_;refine evc [] [] ?_;refine ar ?_;refine xah (i+1) ⟨(by omega),(by omega),sx ⟨⟨_,rfl,LeA.glg ?_⟩,⟨⟨_,rfl,xaq ?_⟩,trivial⟩⟩ ⟨zab ?_,trivial⟩⟩;iterate 3 focus (first|rfl|(rw[ziU (by omega) (by omega)];simp[List.append_assoc];done))
  refine rn [(5,some (.tok ((xs++zaG w (n+1) ⟨a,k⟩ p).map Vt.c).length 3))] (r1 rfl) (.glg ?_) ⟨rfl,rfl⟩ (SubO.get ⟨.inr ?_,⟨.inl rfl,trivial⟩⟩) (zaC rfl);rotate_left 2;all_goals (first|((rw[zaG,<-zoJ (f:=zaG w n) hl (i:=i) (by omega)];simp);done)|((show some (Res.tok _ _)=some (Res.tok _ _);congr 2;rw[zaG,<-zoJ (f:=zaG w n) hl (i:=i) (by omega)];simp)))
theorem zdf {w:List Data} (hw:WT w){n:Nat}{a k:Int}{p:Pat} (hs:zas w n ⟨a,k⟩ p=true) (hn:n<=1000) (ht:TyIn w.length ⟨a,k⟩) (hok:p.ok) (hb:p.size<=1000000000000):
  FnD Tryz.prog 225 [.nils,.d (zam w),.agg [.d (.i a),.d (.i k)],.agg [.d (.i p.op),.d (.i p.ctor),.d (.i p.n),.d (.i p.m),.d (.i p.var),.d (zad p.kids)]] [] (.d (zcP (zaG w n ⟨a,k⟩ p))) []:=by
 have h:=zfK hw n (xs:=[]) hs hn ht hok (by simp only[xai];omega);exact FnD.nilTok (by simp[AV.idsL,AV.ids]) h
theorem zqV {l:List Vt}{i:Nat} (h:i<l.length) (h2:¬zbH l (nth l i).var=i):zo5 l=false:=zc6 h (by simpa using h2)
theorem zeI {w:List Data} (hw:WT w):∀(n:Nat){a k:Int}{p:Pat},zas w n ⟨a,k⟩ p=true->n<=1000->TyIn w.length ⟨a,k⟩->p.ok->p.size<=1000000000000->
  FnD Tryz.prog 298 [.d (zam w),.agg [.d (.i a),.d (.i k)],.agg [.d (.i p.op),.d (.i p.ctor),.d (.i p.n),.d (.i p.m),.d (.i p.var),.d (zad p.kids)]] [] (.d (.bool (linP w n ⟨a,k⟩ p))) []
 |0,a,k,p,hs,_,_,_,_=>by simp[zas] at hs
 |n+1,a,k,p,hs,hn,ht,hok,hb=>by
  have hok':=hok;rw[Pat.ok_iff] at hok;have hb':=hb;rw[Pat.size_eq] at hb';obtain⟨ho,hl⟩:=zbT hs;have hin:=zf8 hw ht ho;have hlen:=zgD hw ht (zcc ho);have hvl:=zea w (n+1) ⟨a,k⟩ p;have hsz:∀i,i<p.kids.length->(nth p.kids i).size<=1000000000000:=fun i hi=>by have:=zeX hi;omega
  by_cases hop5:p.op=5
  ·have e1:zag w ⟨a,k⟩ p=[⟨a,k⟩,⟨a,k⟩]:=by unfold zag;rw[if_neg (by omega),if_pos hop5]
   have hl2:p.kids.length=2:=by rw[hl,e1];rfl
   have s0:zas w n ⟨a,k⟩ (nth p.kids 0)=true:=by have:=zbS hs (i:=0) (by omega);rw[e1] at this;exact this
   have s1:zas w n ⟨a,k⟩ (nth p.kids 1)=true:=by have:=zbS hs (i:=1) (by omega);rw[e1] at this;exact this
   have v0:=zea w n ⟨a,k⟩ (nth p.kids 0);have v1:=zea w n ⟨a,k⟩ (nth p.kids 1);have z0:=hsz 0 (by omega);have z1:=hsz 1 (by omega);refine bd Tryz.f298 70 [] [] fun w0 F0 own kept hk=>?_;refine bx 3004 ?_;refine bx 3005 ?_;refine ev ?_;refine wc zjp (zde hw ht (zcc ho)) rfl rfl ?_;refine ev ?_;refine xak (ι:=Nat) hk (fun i=>[(8,.d (.i (i:Int)))]) [6,15,16,17,18,19,20,21,22,23,24,25,26,27,28,29,30,31,32] (fun i=>[]) (fun i=>i<=(zag w ⟨a,k⟩ p).length/\∀i',i'<i->linP w n (nth (zag w ⟨a,k⟩ p) i') (nth p.kids i')=true) (fun i=>(zag w ⟨a,k⟩ p).length-i) 0 ⟨by omega,fun _ h=>absurd h (by omega)⟩ ⟨⟨_,rfl,xaq ?_⟩,trivial⟩ trivial (fun x=>rfl) (fun i hg1=>?_);focus (first|rfl|(simp;done))
   refine evc [] [] ?_;refine sq ?_ ?_<;>intro h1 h1p h1s<;>(try simp only[Q,Pat.cs_len] at h1p);refine xaS zaZ .none rfl rfl rfl rfl (zap (by omega)) rfl ?_;refine evd [] [] ?_;refine xaS sl34 .none rfl rfl rfl rfl (zaH (by omega)) rfl ?_;refine evd [] [] ?_;refine wc zlP (zeI hw n (zbS hs (by omega)) (by omega) (hin _ (zac (by omega))) (Pats.ok_mem hok.2 _ (zac (by omega))) (hsz _ (by omega))) rfl rfl ?_;refine evd [] [] ?_;refine dr ?_;refine sq ?_ ?_<;>intro h2 h2p h2s<;>(try simp only[Q,Pat.cs_len] at h2p);refine rq ?_;rotate_left;refine ar ?_;refine xah (i+1) ⟨⟨by omega,zaX hg1.2 (by assumption)⟩,(by omega),sx ⟨⟨_,rfl,xaq ?_⟩,trivial⟩ trivial⟩;focus (first|rfl|(simp;done))
   refine sq ?_ ?_<;>intro h3 h3p h3s<;>(try simp only[Q,Pat.cs_len] at h3p);refine xaS (i:=0) sl34 .none rfl rfl rfl rfl (zaH (by omega)) rfl ?_;refine evd [] [] ?_;refine wc zgR (zdf hw s0 (by omega) ht (Pats.ok_mem hok.2 _ (zac (by omega))) z0) rfl rfl ?_;refine evd [] [] ?_;refine xaS (i:=1) sl34 .none rfl rfl rfl rfl (zaH (by omega)) rfl ?_;refine evd [] [] ?_;refine wc zgR (zdf hw s1 (by omega) ht (Pats.ok_mem hok.2 _ (zac (by omega))) z1) rfl rfl ?_;refine wc zw9 (zmY (by omega) (by omega)) rfl rfl ?_;refine evd [] [] ?_;refine dr ?_;refine rq ?_;rotate_left;exfalso;simp_all;all_goals (refine congrArg D.bool ?_;unfold linP;rw[if_pos hop5];first|(rw[zcf (by omega) (fun x hx=>hg1.2 x (by omega)),Bool.true_and])|(rw[zb1 (i:=i) (by omega) (by omega) (by assumption),Bool.false_and]))
  ·skip
   refine bd Tryz.f298 70 [] [] fun w0 F0 own kept hk=>?_;refine bx 3004 ?_;refine bx 3005 ?_;refine ev ?_;refine wc zjp (zde hw ht (zcc ho)) rfl rfl ?_;refine ev ?_;refine xak (ι:=Nat) hk (fun i=>[(8,.d (.i (i:Int)))]) [6,15,16,17,18,19,20,21,22,23,24,25,26,27,28,29,30,31,32] (fun i=>[]) (fun i=>i<=(zag w ⟨a,k⟩ p).length/\∀i',i'<i->linP w n (nth (zag w ⟨a,k⟩ p) i') (nth p.kids i')=true) (fun i=>(zag w ⟨a,k⟩ p).length-i) 0 ⟨by omega,fun _ h=>absurd h (by omega)⟩ ⟨⟨_,rfl,xaq ?_⟩,trivial⟩ trivial (fun x=>rfl) (fun i hg1=>?_);focus (first|rfl|(simp;done))
   refine evc [] [] ?_;refine sq ?_ ?_<;>intro h1 h1p h1s<;>(try simp only[Q,Pat.cs_len] at h1p);refine xaS zaZ .none rfl rfl rfl rfl (zap (by omega)) rfl ?_;refine evd [] [] ?_;refine xaS sl34 .none rfl rfl rfl rfl (zaH (by omega)) rfl ?_;refine evd [] [] ?_;refine wc zlP (zeI hw n (zbS hs (by omega)) (by omega) (hin _ (zac (by omega))) (Pats.ok_mem hok.2 _ (zac (by omega))) (hsz _ (by omega))) rfl rfl ?_;refine evd [] [] ?_;refine dr ?_;refine sq ?_ ?_<;>intro h2 h2p h2s<;>(try simp only[Q,Pat.cs_len] at h2p);refine rq ?_;rotate_left;refine ar ?_;refine xah (i+1) ⟨⟨by omega,zaX hg1.2 (by assumption)⟩,(by omega),sx ⟨⟨_,rfl,xaq ?_⟩,trivial⟩ trivial⟩;focus (first|rfl|(simp;done))
   refine sq ?_ ?_<;>intro h3 h3p h3s<;>(try simp only[Q,Pat.cs_len] at h3p);exfalso;simp_all;refine wc zgR (zdf hw hs hn ht hok' hb) rfl rfl ?_;refine ev ?_;refine xak (ι:=Nat) hk (fun j=>[(10,.d (.i (j:Int)))]) [6,55,56,57,58,59,60,61,62,63,64,65,66,67,68,69] (fun j=>[]) (fun j=>j<=(zaG w (n+1) ⟨a,k⟩ p).length/\∀j',j'<j->zbH (zaG w (n+1) ⟨a,k⟩ p) (nth (zaG w (n+1) ⟨a,k⟩ p) j').var=(j':Int)) (fun j=>(zaG w (n+1) ⟨a,k⟩ p).length-j) 0 ⟨by omega,fun _ h=>absurd h (by omega)⟩ ⟨⟨_,rfl,xaq ?_⟩,trivial⟩ trivial (fun x=>rfl) (fun j hg2=>?_);focus (first|rfl|(simp;done))
   refine evc [] [] ?_;refine sq ?_ ?_<;>intro h4 h4p h4s<;>(try simp only[Q,Pat.cs_len] at h4p);refine xaS zcZ .none rfl rfl rfl rfl (zap (by omega)) rfl ?_;refine ev ?_;refine wc zpu (zfI (by omega)) rfl rfl ?_;refine ev ?_;refine sq ?_ ?_<;>intro h5 h5p h5s<;>(try simp only[Q,Pat.cs_len] at h5p);refine rq ?_;rotate_left;refine ar ?_;refine xah (j+1) ⟨⟨by omega,zaX hg2.2 (by omega)⟩,(by omega),sx ⟨⟨_,rfl,xaq ?_⟩,trivial⟩ trivial⟩;focus (first|rfl|(simp;done))
   refine rq ?_;rotate_left;all_goals (refine congrArg D.bool ?_;unfold linP;rw[if_neg hop5];first|(rw[zb1 (i:=i) (by omega) (by omega) (by assumption),Bool.false_and];done)|(rw[zcf (by omega) (fun x hx=>hg1.2 x (by omega)),Bool.true_and];first|(rw[zqV (i:=j) (by omega) (by omega)];done)|(symm;exact zdt (fun x hx=>decide_eq_true (hg2.2 x (by omega))))))
def isP (w:List Data) (t:Ty) (p:Pat):Bool:=zas w 10 t p&&(decide ((p.size:Int)<=60)&&linP w 10 t p)
theorem zfm {w:List Data} (hw:WT w){a k:Int}{p:Pat} (ht:TyIn w.length ⟨a,k⟩) (hok:p.ok) (hb:p.size<=1000000000000):
  FnD Tryz.prog 223 [.d (zam w),.agg [.d (.i a),.d (.i k)],.agg [.d (.i p.op),.d (.i p.ctor),.d (.i p.n),.d (.i p.m),.d (.i p.var),.d (zad p.kids)]] [] (.d (.bool (isP w ⟨a,k⟩ p))) []:=by
 have hc:=zpz p 60;by_cases hs:zas w 10 ⟨a,k⟩ p=true
 ·skip
  refine bd Tryz.f223 22 [] [1] fun w0 F0 own kept hk=>?_;refine bx 3004 ?_;refine bx 3005 ?_;refine ev ?_;refine xal ?_;refine xaA 9 [(15,.d (.bool (decide ((p.size:Int)<=60))))] [7,8,9,10,11,12,13,14] ?_ ?_;refine ev ?_;refine wc zps (zfn hw 10 (by omega) (by omega) ht hok) rfl rfl ?_;refine ev ?_;refine sq ?_ ?_<;>intro h1 h1p h1s;refine Walk.call (cr:=[]) zpt (zfl _ (Nat.le_refl _) hb hok (by omega) (by omega)) rfl (.some rfl rfl h1) rfl rfl (LeL.refl _) trivial rfl rfl rfl ?_;refine evs [] [(11,true)] ?_ ⟨⟨_,rfl,h1⟩,trivial⟩;exact jnb rfl;exact jnb rfl;refine xaz ?_;refine ev ?_;refine sq ?_ ?_<;>intro h2 h2p h2s;refine Walk.call (cr:=[]) zlP (zeI hw 10 hs (by omega) ht hok hb) rfl (.some rfl rfl h2) rfl rfl (LeL.refl _) trivial rfl rfl rfl ?_;refine evs [] [(16,true)] ?_ ⟨⟨_,rfl,h2⟩,trivial⟩;refine rq ?_;rotate_left;refine rq ?_;rotate_left;all_goals (refine congrArg D.bool ?_;unfold isP;simp only[hs,Bool.true_and];first|(simp_all;done)|(simp_all;intro;omega))
 ·have hs':zas w 10 ⟨a,k⟩ p=false:=by simpa using hs
  refine bd Tryz.f223 22 [] [1] fun w0 F0 own kept hk=>?_;refine bx 3004 ?_;refine bx 3005 ?_;refine ev ?_;refine xal ?_;refine xaA 9 [(15,.d (.bool (false)))] [7,8,9,10,11,12,13,14] ?_ ?_;refine ev ?_;refine wc zps (zfn hw 10 (by omega) (by omega) ht hok) rfl rfl ?_;refine ev ?_;refine sq ?_ ?_<;>intro h1 h1p h1s;refine Walk.call (cr:=[]) zpt (zfl _ (Nat.le_refl _) hb hok (by omega) (by omega)) rfl (.some rfl rfl h1) rfl rfl (LeL.refl _) trivial rfl rfl rfl ?_;refine evs [] [(11,true)] ?_ ⟨⟨_,rfl,h1⟩,trivial⟩;exact jnb rfl;exact jnb rfl;refine xaz ?_;refine ev ?_;refine sq ?_ ?_<;>intro h2 h2p h2s;refine Walk.call (cr:=[]) zlP (show FnD Tryz.prog 298 [.d (zam w),.agg [.d (.i a),.d (.i k)],.agg [.d (.i p.op),.d (.i p.ctor),.d (.i p.n),.d (.i p.m),.d (.i p.var),.d (zad p.kids)]] [] (.d (.bool true)) [] from absurd (by assumption:(false:Bool)=true) (by simp)) rfl (.some rfl rfl h2) rfl rfl (LeL.refl _) trivial rfl rfl rfl ?_;refine evs [] [(16,true)] ?_ ⟨⟨_,rfl,h2⟩,trivial⟩;refine rq ?_;rotate_left;refine rq ?_;rotate_left;all_goals (refine congrArg D.bool ?_;unfold isP;simp_all)
end Go.Proofs.YtlfipehhbdjnjaaGreat
namespace Go.Proofs.YtlfipehhbdjnjaaGreat
open Go
set_option linter.unusedSimpArgs false
set_option linter.unusedVariables false
def tyS (s:Nat):Ty:=⟨((s / 4:Nat):Int),((s % 4:Nat):Int)⟩
def zcs (t:Ty):Nat:=t.data.toNat*4+t.index.toNat
def dv (f:Nat->Nat) (t:Ty):Nat:=if t.data = -1 then 1 else f (zcs t)
def zby (f:Nat->Nat):Nat->List Ty->Nat
 |m,[]=>m+1
 |m,t::r=>if dv f t=0 then 0 else zby f (max m (dv f t)) r
def most (w:List Data) (f:Nat->Nat) (t:Ty) (c:Int):Nat:=zby f 0 (zaa w t c)
def updF (f:Nat->Nat) (s n:Nat):Nat->Nat:=fun i=>if i=s then n else f i
def zbI (w:List Data) (s:Nat) (f:Nat->Nat) (c:Int):Nat->Nat:=
 if 0<most w f (tyS s) c/\(f s=0\/most w f (tyS s) c<f s) then updF f s (most w f (tyS s) c) else f
def zdr (w:List Data) (f:Nat->Nat) (s:Nat):Nat->Nat:=(za3 w (tyS s)).foldl (zbI w s) f
def zgA (w:List Data) (f:Nat->Nat):Nat->Nat:=(List.range (w.length*4)).foldl (zdr w) f
def zbe (w:List Data):Nat->Nat->Nat
 |0=>fun _=>0
 |k+1=>zgA w (zbe w k)
def zal (w:List Data):Nat->Nat:=zbe w (w.length*4+1)
def Hd (w:List Data):Nat->Ty->Prop
 |0,_=>False
 |d+1,t=>t.data = -1\/∃c∈za3 w t,t.data≠ -1/\∀u∈zaa w t c,Hd w d u
def InS (n:Nat) (u:Ty):Prop:=u.data = -1\/(zcs u<n/\tyS (zcs u)=u)
def ClosedT (w:List Data):Prop:=∀s,s<w.length*4->∀c∈za3 w (tyS s),∀u∈zaa w (tyS s) c,InS (w.length*4) u
theorem zly (s:Nat):(tyS s).data≠ -1:=by simp only[tyS];omega
theorem Hd_mono (w:List Data):∀(d:Nat) (t:Ty),Hd w d t->Hd w (d+1) t
 |0,_,h=>h.elim
 |d+1,t,h=>by
  rcases h with h|⟨c,hc,h1,h⟩
  ·exact .inl h
  ·exact .inr ⟨c,hc,h1,fun u hu=>Hd_mono w d u (h u hu)⟩
theorem Hd_le {w:List Data}{d e:Nat}{t:Ty} (h:d<=e) (hd:Hd w d t):Hd w e t:=by
 induction h with
 |refl=>exact hd
 |step _ ih=>exact Hd_mono w _ t ih
section
variable {w:List Data}
def Bet (f g:Nat->Nat):Prop:=∀s,0<f s->0<g s/\g s<=f s
def Snd (w:List Data) (f:Nat->Nat):Prop:=∀s,s<w.length*4->0<f s->Hd w (f s) (tyS s)
def Cmp (w:List Data) (k:Nat) (f:Nat->Nat):Prop:=∀s,s<w.length*4->∀d,d<=k->Hd w d (tyS s)->0<f s/\f s<=d
theorem Bet.refl (f:Nat->Nat):Bet f f:=fun s h=>⟨h,Nat.le_refl _⟩
theorem Bet.trans {f g h:Nat->Nat} (a:Bet f g) (b:Bet g h):Bet f h:=fun s hs=>⟨(b s (a s hs).1).1,Nat.le_trans (b s (a s hs).1).2 (a s hs).2⟩
theorem Cmp.bet {k:Nat}{f g:Nat->Nat} (h:Cmp w k f) (b:Bet f g):Cmp w k g:=fun s hs d hd hh=>
 ⟨(b s (h s hs d hd hh).1).1,Nat.le_trans (b s (h s hs d hd hh).1).2 (h s hs d hd hh).2⟩
theorem zjM {f:Nat->Nat}:∀ {l:List Ty}{m k:Nat},m<=k->(∀u∈l,0<dv f u/\dv f u<=k)->0<zby f m l/\zby f m l<=k+1
 | [],m,k,hm,_=>by simp only[zby];omega
 |t::r,m,k,hm,h=>by
  have h1:=h t (by simp);simp only[zby];rw[if_neg (by omega)];exact zjM (by omega) (fun u hu=>h u (by simp[hu]))
theorem zhw {f:Nat->Nat}:∀ {l:List Ty}{m:Nat},0<zby f m l->m<zby f m l/\∀u∈l,0<dv f u/\dv f u<zby f m l
 | [],m,_=>⟨by simp only[zby];omega,fun u hu=>by simp at hu⟩
 |t::r,m,h=>by
  simp only[zby] at h ⊢;by_cases h0:dv f t=0
  ·rw[if_pos h0] at h;omega
  ·rw[if_neg h0] at h ⊢;obtain⟨h1,h2⟩:=zhw h;refine⟨by omega,fun u hu=>?_⟩;rcases List.mem_cons.1 hu with rfl|hu
   ·omega
   ·exact h2 u hu
theorem zlZ {f:Nat->Nat} (hs:Snd w f){u:Ty} (hu:InS (w.length*4) u) (h:0<dv f u):Hd w (dv f u) u:=by
 unfold dv at h ⊢;split
 ·rename_i he;exact .inl he
 ·rename_i he;rw[if_neg he] at h;rcases hu with hu|⟨h1,h2⟩
  ·exact absurd hu he
  ·have:=hs _ h1 h;rwa [h2] at this
theorem zjx {k:Nat}{f:Nat->Nat} (hc:Cmp w k f){u:Ty} (hu:InS (w.length*4) u) (h:Hd w k u):0<dv f u/\dv f u<=k:=by
 unfold dv;split
 ·cases k with
  |zero=>exact h.elim
  |succ k=>omega
 ·rename_i he;rcases hu with hu|⟨h1,h2⟩
  ·exact absurd hu he
  ·exact hc _ h1 k (Nat.le_refl _) (by rw[h2];exact h)
theorem zjV {s:Nat}{f:Nat->Nat}{c:Int}:Bet f (zbI w s f c):=by
 intro i hi;unfold zbI;split
 ·rename_i h;unfold updF;split
  ·subst i;omega
  ·omega
 ·omega
theorem ztM (hcl:ClosedT w){s:Nat}{f:Nat->Nat}{c:Int} (hs:s<w.length*4) (hc:c∈za3 w (tyS s)) (h:Snd w f):Snd w (zbI w s f c):=by
 unfold zbI;split
 ·rename_i hn;intro i hi h0;unfold updF at h0 ⊢;by_cases he:i=s
  ·subst he;rw[if_pos rfl] at h0 ⊢;obtain⟨h1,h2⟩:=zhw (m:=0) hn.1;obtain⟨n,hn'⟩:∃n,most w f (tyS i) c=n+1:=⟨most w f (tyS i) c-1,by omega⟩;rw[hn'];refine .inr ⟨c,hc,zly _,fun u hu=>?_⟩;have h3:=h2 u hu;have h4:zby f 0 (zaa w (tyS i) c)=n+1:=hn';exact Hd_le (by omega) (zlZ h (hcl i hi c hc u hu) h3.1)
  ·rw[if_neg he] at h0 ⊢;exact h i hi h0
 ·exact h
theorem ztK (hcl:ClosedT w){s k:Nat}{f:Nat->Nat}{c:Int} (hs:s<w.length*4) (hc:c∈za3 w (tyS s)) (h:Cmp w k f) (hh:∀u∈zaa w (tyS s) c,Hd w k u):
  0<zbI w s f c s/\zbI w s f c s<=k+1:=by
 have hm:=zjM (f:=f) (m:=0) (k:=k) (by omega) (fun u hu=>zjx h (hcl s hs c hc u hu) (hh u hu));have hm':0<most w f (tyS s) c/\most w f (tyS s) c<=k+1:=hm;unfold zbI;split
 ·unfold updF;rw[if_pos rfl];exact hm'
 ·rename_i hn;have:¬(f s=0\/most w f (tyS s) c<f s):=fun h2=>hn ⟨hm'.1,h2⟩;omega
theorem zrM (hcl:ClosedT w){s k:Nat} (hs:s<w.length*4):∀(C:List Int) (f:Nat->Nat),(∀c∈C,c∈za3 w (tyS s))->Snd w f->Cmp w k f->
  Bet f (C.foldl (zbI w s) f)/\Snd w (C.foldl (zbI w s) f)/\∀c∈C,(∀u∈zaa w (tyS s) c,Hd w k u)->0<C.foldl (zbI w s) f s/\C.foldl (zbI w s) f s<=k+1
 | [],f,_,h1,_=>⟨Bet.refl f,h1,fun c hc=>by simp at hc⟩
 |c::r,f,hC,h1,h2=>by
  have hc:=hC c (by simp);obtain⟨g1,g2,g3⟩:=zrM hcl hs r (zbI w s f c) (fun x hx=>hC x (by simp[hx])) (ztM hcl hs hc h1) (h2.bet zjV);refine⟨zjV.trans g1,g2,fun x hx hh=>?_⟩;rcases List.mem_cons.1 hx with rfl|hx
  ·obtain⟨q1,q2⟩:=ztK hcl hs hc h2 hh;exact⟨(g1 s q1).1,Nat.le_trans (g1 s q1).2 q2⟩
  ·exact g3 x hx hh
theorem zuR (hcl:ClosedT w){s k:Nat} (hs:s<w.length*4){f:Nat->Nat} (h1:Snd w f) (h2:Cmp w k f):
  Bet f (zdr w f s)/\Snd w (zdr w f s)/\∀d,d<=k+1->Hd w d (tyS s)->0<zdr w f s s/\zdr w f s s<=d:=by
 obtain⟨g1,g2,g3⟩:=zrM hcl hs (za3 w (tyS s)) f (fun c hc=>hc) h1 h2;refine⟨g1,g2,fun d hd hh=>?_⟩;rcases Nat.lt_or_ge d (k+1) with h|h
 ·have:=h2 s hs d (by omega) hh;exact⟨(g1 s this.1).1,Nat.le_trans (g1 s this.1).2 this.2⟩
 ·obtain rfl:d=k+1:=by omega
  rcases hh with hh|⟨c,hc,_,hh⟩
  ·exact absurd hh (zly s)
  ·exact g3 c hc hh
theorem zoD (hcl:ClosedT w){k:Nat}:∀(L:List Nat) (f:Nat->Nat),(∀s∈L,s<w.length*4)->Snd w f->Cmp w k f->
  Bet f (L.foldl (zdr w) f)/\Snd w (L.foldl (zdr w) f)/\∀s∈L,∀d,d<=k+1->Hd w d (tyS s)->0<L.foldl (zdr w) f s/\L.foldl (zdr w) f s<=d
 | [],f,_,h1,_=>⟨Bet.refl f,h1,fun s hs=>by simp at hs⟩
 |s::r,f,hL,h1,h2=>by
  obtain⟨p1,p2,p3⟩:=zuR hcl (hL s (by simp)) h1 h2;obtain⟨g1,g2,g3⟩:=zoD hcl r (zdr w f s) (fun x hx=>hL x (by simp[hx])) p2 (h2.bet p1);refine⟨p1.trans g1,g2,fun x hx d hd hh=>?_⟩;rcases List.mem_cons.1 hx with rfl|hx
  ·have:=p3 d hd hh;exact⟨(g1 x this.1).1,Nat.le_trans (g1 x this.1).2 this.2⟩
  ·exact g3 x hx d hd hh
theorem ztY (hcl:ClosedT w){k:Nat}{f:Nat->Nat} (h1:Snd w f) (h2:Cmp w k f):Bet f (zgA w f)/\Snd w (zgA w f)/\Cmp w (k+1) (zgA w f):=by
 obtain⟨g1,g2,g3⟩:=zoD hcl (List.range (w.length*4)) f (fun s hs=>List.mem_range.1 hs) h1 h2;exact⟨g1,g2,fun s hs d hd hh=>g3 s (List.mem_range.2 hs) d hd hh⟩
theorem zcQ (hcl:ClosedT w):∀k,Snd w (zbe w k)/\Cmp w k (zbe w k)
 |0=>⟨fun s _ h=>absurd h (by simp[zbe]),fun s _ d hd hh=>by
   obtain rfl:d=0:=by omega
   exact hh.elim⟩
 |k+1=>(ztY hcl (zcQ hcl k).1 (zcQ hcl k).2).2
theorem zjB (hcl:ClosedT w){d:Nat} (h1:1<=d) (h:∀s,s<w.length*4->Hd w (d+1) (tyS s)->Hd w d (tyS s)):∀e s,s<w.length*4->Hd w e (tyS s)->Hd w d (tyS s)
 |0,s,_,hh=>hh.elim
 |e+1,s,hs,hh=>by
  refine h s hs ?_;rcases hh with hh|⟨c,hc,h2,hh⟩
  ·exact .inl hh
  ·refine .inr ⟨c,hc,h2,fun u hu=>?_⟩;rcases hcl s hs c hc u hu with hi|⟨q1,q2⟩
   ·cases d with
    |zero=>omega
    |succ d=>exact .inl hi
   ·have:=zjB hcl h1 h e _ q1 (by rw[q2];exact hh u hu);rwa [q2] at this
open Classical in
noncomputable def cntH (w:List Data) (d:Nat):Nat:=(List.range (w.length*4)).countP (fun s=>decide (Hd w d (tyS s)))
theorem zn4 {p q:Nat->Bool}:∀ {l:List Nat},(∀x∈l,p x=true->q x=true)->(∃x∈l,p x=false/\q x=true)->l.countP p<l.countP q
 | [],_,h=>by obtain⟨x,hx,_⟩:=h;simp at hx
 |y::r,hpq,h=>by
  have hle:r.countP p<=r.countP q:=List.countP_mono_left (fun x hx hp=>hpq x (by simp[hx]) hp);rw[List.countP_cons,List.countP_cons];obtain⟨x,hx,h1,h2⟩:=h;rcases List.mem_cons.1 hx with rfl|hx
  ·rw[h1,h2];simp only[Bool.false_eq_true,if_false,if_true];omega
  ·have:=zn4 (fun x hx hp=>hpq x (by simp[hx]) hp) ⟨x,hx,h1,h2⟩;have h3:=hpq y (by simp);cases hp:p y with
   |false=>simp only[Bool.false_eq_true,if_false];omega
   |true=>rw[h3 hp];simp only[if_true];omega
open Classical in
theorem zxj {d:Nat} (h:¬ ∀s,s<w.length*4->Hd w (d+1) (tyS s)->Hd w d (tyS s)):cntH w d<cntH w (d+1):=by
 have h2:∃s,s<w.length*4/\Hd w (d+1) (tyS s)/\¬Hd w d (tyS s):=by
  refine Classical.byContradiction fun hn=>h fun s hs hh=>Classical.byContradiction fun hd=>hn ⟨s,hs,hh,hd⟩
 obtain⟨s,hs,h3,h4⟩:=h2;unfold cntH;exact zn4 (fun x _ hx=>by rw[decide_eq_true_eq] at hx ⊢;exact Hd_mono w d _ hx) ⟨s,List.mem_range.2 hs,by simp[h4],by simp[h3]⟩
theorem ztb:∀m,(∀d,1<=d->d<=m->¬ ∀s,s<w.length*4->Hd w (d+1) (tyS s)->Hd w d (tyS s))->m<=cntH w (m+1)
 |0,_=>Nat.zero_le _
 |m+1,h=>by
  have:=ztb m (fun d h1 h2=>h d h1 (by omega));have:=zxj (w:=w) (d:=m+1) (h (m+1) (by omega) (by omega));omega
theorem zl9 (hcl:ClosedT w){e s:Nat} (hs:s<w.length*4) (h:Hd w e (tyS s)):Hd w (w.length*4+1) (tyS s):=by
 have hex:∃d,1<=d/\d<=w.length*4+1/\∀s,s<w.length*4->Hd w (d+1) (tyS s)->Hd w d (tyS s):=by
  refine Classical.byContradiction fun hn=>?_;have h1:=ztb (w:=w) (w.length*4+1) (fun d h1 h2 h3=>hn ⟨d,h1,h2,h3⟩);have h2:cntH w (w.length*4+1+1)<=(List.range (w.length*4)).length:=List.countP_le_length;rw[List.length_range] at h2;omega
 obtain⟨d,h1,h2,h3⟩:=hex;exact Hd_le h2 (zjB hcl h1 h3 e s hs h)
theorem ztL {s i:Nat}{f:Nat->Nat}{c:Int} (h:i≠s):zbI w s f c i=f i:=by
 unfold zbI;split
 ·unfold updF;rw[if_neg h]
 ·rfl
theorem zrN {s i:Nat} (h:i≠s):∀(C:List Int) (f:Nat->Nat),C.foldl (zbI w s) f i=f i
 | [],_=>rfl
 |c::r,f=>by rw[List.foldl_cons,zrN h r,ztL h]
theorem zoF {i:Nat}:∀(L:List Nat) (f:Nat->Nat),i∉L->L.foldl (zdr w) f i=f i
 | [],_,_=>rfl
 |s::r,f,h=>by
  simp only[List.mem_cons,not_or] at h;rw[List.foldl_cons,zoF r _ h.2];exact zrN h.1 _ _
theorem ziG {i:Nat} (h:w.length*4<=i):∀k,zbe w k i=0
 |0=>rfl
 |k+1=>by
  show zgA w (zbe w k) i=0
  unfold zgA;rw[zoF _ _ (by simp;omega),ziG h k]
theorem zkq (hcl:ClosedT w){k:Nat} (hk:w.length*4+1<=k):zbe w k=zal w:=by
 have key:∀a b,w.length*4+1<=a->w.length*4+1<=b->∀s,s<w.length*4->0<zbe w a s->0<zbe w b s/\zbe w b s<=zbe w a s:=by
  intro a b ha hb s hs h0;have h1:=(zcQ hcl a).1 s hs h0;have h2:=zl9 hcl hs h1;have h3:=(zcQ hcl a).2 s hs _ ha h2;exact(zcQ hcl b).2 s hs _ (by omega) h1
 funext s
 rcases Nat.lt_or_ge s (w.length*4) with hs|hs
 ·have h1:=key k (w.length*4+1) hk (Nat.le_refl _) s hs;have h2:=key (w.length*4+1) k (Nat.le_refl _) hk s hs;show zbe w k s=zbe w (w.length*4+1) s
  omega
 ·show zbe w k s=zbe w (w.length*4+1) s
  rw[ziG hs,ziG hs]
theorem zur (hcl:ClosedT w){k:Nat} (h:zbe w (k+1)=zbe w k):zbe w k=zal w:=by
 have:∀j,zbe w (k+j)=zbe w k:=by
  intro j;induction j with
  |zero=>rfl
  |succ j ih=>
   show zgA w (zbe w (k+j))=zbe w k
   rw[ih];exact h
 rw[<-this (w.length*4+1)];exact zkq hcl (by omega)
def Strict (f g:Nat->Nat):Prop:=∃s,0<g s/\(f s=0\/g s<f s)
theorem Strict.bet {f g h:Nat->Nat} (a:Strict f g) (b:Bet g h):Strict f h:=by
 obtain⟨s,h1,h2⟩:=a;have:=b s h1;exact⟨s,this.1,by omega⟩
theorem Strict.ne {f g:Nat->Nat} (a:Strict f g):f≠g:=by
 rintro rfl
 obtain⟨s,h1,h2⟩:=a;omega
theorem znC {s:Nat}:∀(C:List Int) (f:Nat->Nat),Bet f (C.foldl (zbI w s) f)
 | [],f=>Bet.refl f
 |c::r,f=>zjV.trans (znC r _)
theorem zoE:∀(L:List Nat) (f:Nat->Nat),Bet f (L.foldl (zdr w) f)
 | [],f=>Bet.refl f
 |s::r,f=>(znC _ _).trans (zoE r _)
theorem zp6 {f:Nat->Nat}{b:Nat} (hb:∀s,f s<=b) (h1:1<=b):∀ {l:List Ty}{m:Nat},m<=b->zby f m l<=b+1
 | [],m,hm=>by simp only[zby];omega
 |t::r,m,hm=>by
  simp only[zby];split
  ·omega
  ·refine zp6 hb h1 ?_;have:dv f t<=b:=by
    unfold dv;split
    ·exact h1
    ·exact hb _
   omega
theorem zuK {s:Nat}{f:Nat->Nat}{c:Int}{b:Nat} (hb:∀s,f s<=b) (h1:1<=b):∀i,zbI w s f c i<=b+1:=by
 intro i;unfold zbI;split
 ·unfold updF;split
  ·exact zp6 hb h1 (Nat.zero_le _)
  ·have:=hb i;omega
 ·have:=hb i;omega
theorem zqp {s:Nat}:∀(C:List Int) (f:Nat->Nat) (b:Nat),(∀s,f s<=b)->1<=b->∀i,C.foldl (zbI w s) f i<=b+C.length
 | [],f,b,hb,_,i=>by have:=hb i;simpa using this
 |c::r,f,b,hb,h1,i=>by
  have:=zqp (s:=s) r (zbI w s f c) (b+1) (zuK hb h1) (by omega) i;rw[List.foldl_cons,xab];omega
theorem zlv {m:Nat}:∀(L:List Nat) (f:Nat->Nat) (b:Nat),(∀s∈L,(za3 w (tyS s)).length<=m)->(∀s,f s<=b)->1<=b->∀i,L.foldl (zdr w) f i<=b+L.length*m
 | [],f,b,_,hb,_,i=>by have:=hb i;simpa using this
 |s::r,f,b,hm,hb,h1,i=>by
  have h2:=zqp (w:=w) (s:=s) (za3 w (tyS s)) f b hb h1;have h3:=hm s (by simp);have:=zlv r (zdr w f s) (b+m) (fun x hx=>hm x (by simp[hx])) (fun j=>by have:=h2 j;show _<=_;unfold zdr;omega) (by omega) i;rw[List.foldl_cons,xab,Nat.add_mul];omega
theorem zrB {m:Nat} (hm:∀s,s<w.length*4->(za3 w (tyS s)).length<=m):∀k i,zbe w k i<=1+k*(w.length*4*m)
 |0,i=>by simp[zbe]
 |k+1,i=>by
  have:=zlv (w:=w) (m:=m) (List.range (w.length*4)) (zbe w k) (1+k*(w.length*4*m)) (fun s hs=>hm s (List.mem_range.1 hs)) (zrB hm k) (by omega) i;show zgA w (zbe w k) i<=_
  unfold zgA;rw[List.length_range] at this;rw[Nat.add_mul];omega
end
end Go.Proofs.YtlfipehhbdjnjaaGreat
namespace Go.Proofs.YtlfipehhbdjnjaaGreat
open Go
set_option linter.unusedSimpArgs false
set_option linter.unusedVariables false
set_option maxRecDepth 100000
set_option maxHeartbeats 2000000
section
variable {c:Ctx}{all:Array Oper}{chk:List Rec->Prop}{os:List Oper}{recs:List Rec}{env:Env}{hp:Hp}{Q:St->Prop}
variable {d ty:Nat}{pos:String}{af:Array Edge}{g:Option (Nat×Bool)}{pg:List (Nat×AV)}
theorem Walk.buildZ {t n e m k:Nat}{zs:List AV} (ht:TyZ c.P t k zs) (ha:ArT c.P t n e m) (hg:GH all env g pg) (hd:Nat.blt d c.n=true)
  (hn:Walk c all chk os (zao (pg++[]) [] [] ⟨some (d,.agg zs),[]⟩::recs) ⟨(d,.agg zs)::env,hp⟩ Q):
  Walk c all chk (⟨some d,.build t #[],ty,pos,af,g⟩::os) recs ⟨env,hp⟩ Q:=by
 refine xa8 hg hd (fun a G T w=>?_) hn;obtain⟨i,z,h1,h2,h3,h4⟩:=ht.inf;obtain⟨j,h5,h6⟩:=ha.inf;have hz:=zb9 (G:=G) (T:=T) (w:=w) h4;refine⟨.agg z.cells, ?_, ?_⟩
 ·have hb:c.P.built t []=some z.cells:=by
   unfold Program.built;simp only[h1,ha.und,h3,h5];rfl
  have:=run_build w t #[] z.cells hb;simp only[execOp,Sem.run_bind,Array.map_empty,this,Result.andThen_ok,Sem.run_pure]
 ·have hz':AllR G T w zs z.cells:=by simpa using hz
  exact .agg hz'.size hz'.rel
end
def tabC (n:Nat) (f:Nat->Nat):List AV:=(List.range n).map fun s=> .d (.i (f s:Int))
def tabD (n:Nat) (f:Nat->Nat):List D:=(List.range n).map fun s=> .i (f s:Int)
abbrev zev (n:Nat) (f:Nat->Nat):D:= .sl ((List.range n).map fun s=>[D.i (f s:Int)])
theorem zkv {n i s:Nat}{f:Nat->Nat} (h:s<n) (e:i=s):(tabC n f)[i]?=some (.d (.i (f s:Int))):=by
 subst e;simp[tabC,h]
theorem zuT {n i s:Nat}{f:Nat->Nat} (h:s<n) (e:i=s):(tabD n f)[i]?=some (.i (f s:Int)):=by
 subst e;simp[tabD,h]
theorem zaD {n:Nat}{f:Nat->Nat}:AV.idsL (tabC n f)=[]:=by
 unfold tabC;induction List.range n with
 |nil=>rfl
 |cons x r ih=>rw[xae,AV.idsL,ih];rfl
theorem zuV:∀ {n:Nat}{f:Nat->Nat},toDL (tabC n f)=some (tabD n f):=by
 intro n f;unfold tabC tabD;have:=zlx ((List.range n).map fun s=>D.i (f s:Int));rwa [List.map_map] at this
theorem zs3 {n:Nat}{f:Nat->Nat}:zb2 n 1 (tabC n f)=some ((List.range n).map fun s=>[D.i (f s:Int)]):=by
 have:=zes (f:=fun s=>[D.i (f s:Int)]) (k:=1) (l:=List.range n) (fun _ _=>rfl);rw[List.length_range] at this;rw[<-this];congr 1
 unfold tabC;induction List.range n with
 |nil=>rfl
 |cons x r ih=>rw[xae,List.flatMap_cons,ih];rfl
theorem zrI {v:AV}:∀ {cs:List AV}{i:Nat},i<cs.length->putC cs i [v]=some (cs.set i v)
 |x::r,0,_=>by cases r<;>rfl
 |x::r,i+1,h=>by
  have:=zrI (v:=v) (cs:=r) (i:=i) (by simpa using h);simp only[putC,this,List.set_cons_succ]
theorem zrX {n i s v:Nat}{f:Nat->Nat}{x:Int} (h:s<n) (e:i=s) (ex:x=(v:Int)):putC (tabC n f) i [.d (.i x)]=some (tabC n (updF f s v)):=by
 subst e ex;rw[zrI (by simp[tabC,h])];congr 1
 refine List.ext_getElem (by simp[tabC]) (fun j h1 h2=>?_);simp only[tabC,xac,List.length_range] at h2;rw[List.getElem_set];simp only[tabC,List.getElem_map,List.getElem_range,updF];by_cases hj:i=j
 ·subst hj;simp
 ·rw[if_neg hj,if_neg (fun h=>hj h.symm)]
theorem InS.facts {n:Nat}{a k:Int} (h:InS n ⟨a,k⟩) (ha:¬a = -1):zcs ⟨a,k⟩<n/\a*4+k=(zcs ⟨a,k⟩:Int)/\0<=a/\0<=k/\k<=3/\a<=n:=by
 rcases h with h|⟨h1,h2⟩
 ·exact absurd h ha
 ·have e1:=congrArg Ty.data h2;have e2:=congrArg Ty.index h2;simp only[tyS] at e1 e2;omega
theorem zl0 {f:Nat->Nat}{a k:Int} (ha:¬a = -1):dv f ⟨a,k⟩=f (zcs ⟨a,k⟩):=by unfold dv;rw[if_neg ha]
theorem zl1 {f:Nat->Nat}{a k:Int} (ha:a = -1):dv f ⟨a,k⟩=1:=by unfold dv;rw[if_pos ha]
theorem zo6 {f:Nat->Nat}{b:Nat} (hb:∀s,f s<=b) (h1:1<=b) (t:Ty):dv f t<=b:=by
 unfold dv;split
 ·exact h1
 ·exact hb _
theorem zih {a k:Int} (ha:0<=a/\a<=1000) (hk:0<=k/\k<=1000):FnD Tryz.prog 318 [.agg [.d (.i a),.d (.i k)]] [] (.d (.i (a*4+k))) []:=by
 refine bd Tryz.f318 9 [] [] fun w0 F0 own kept hk=>?_;refine bx 3001 ?_;refine ev ?_;refine ar ?_;refine ar ?_;focus (refine rq ?_;all_goals ((simp[];done)))
theorem zmS {n:Nat}{f:Nat->Nat}{a k:Int} (h:InS n ⟨a,k⟩) (hn:n<=100):
  FnD Tryz.prog 251 [.ms 70 n,.agg [.d (.i a),.d (.i k)]] [(70,some (.box (tabC n f)))] (.d (.i (dv f ⟨a,k⟩))) []:=by
 have hs:=h.facts;refine bd Tryz.f251 13 [12] [] fun w0 F0 own kept hk=>?_;refine Walk.box (id:=3003) .none rfl rfl rfl (by first|rfl|(simp only[zax,occH,occE,Res.ids,xag,List.nil_append,AV.idsL,AV.ids,zah,zai,zaq,zaJ,xae,List.map_nil,upC,zaD];rfl)) (by first|rfl|(simp only[zax,occH,occE,Res.ids,xag,List.nil_append,AV.idsL,AV.ids,zah,zai,zaq,zaJ,xae,List.map_nil,upC,zaD];rfl)) (by first|rfl|(simp only[zax,occH,occE,Res.ids,xag,List.nil_append,AV.idsL,AV.ids,zah,zai,zaq,zaJ,xae,List.map_nil,upC,zaD];rfl)) (by first|rfl|(simp only[zax,occH,occE,Res.ids,xag,List.nil_append,AV.idsL,AV.ids,zah,zai,zaq,zaJ,xae,List.map_nil,upC,zaD];rfl)) ?_;refine evs [12] [] ?_;refine sq ?_ ?_<;>intro h1 h1p h1s<;>(try simp only[Q] at h1p);refine rn [] (r1 rfl) (.eqd ?_) ⟨rfl,rfl⟩ (SubH.get ⟨rfl,trivial⟩) (fun _ h=>h);rotate_left;refine Walk.call (cr:=[]) zsY (zih (by have:=hs h1p;omega) (by have:=hs h1p;omega)) rfl .none rfl rfl (LeL.refl _) trivial rfl (by first|rfl|(simp only[zaV,List.all_cons,List.all_nil,zbG,zbs,AV.idsL,AV.ids,zah,zai,xae,List.map_nil,zaD];rfl)) (by first|rfl|(simp only[zax,occH,occE,Res.ids,xag,List.nil_append,AV.idsL,AV.ids,zah,zai,zaq,zaJ,xae,List.map_nil,upC,zaD];rfl)) ?_;refine xaW (i:=zcs ⟨a,k⟩) sl29 .none rfl rfl rfl (hs h1p).2.1 ((hs h1p).1) ?_;refine xa0 ty3 .none rfl rfl rfl ((zkv (hs h1p).1 (by omega))) ?_;refine evs [12] [] ?_;refine rn [] (r1 rfl) (.eqd ?_) ⟨rfl,rfl⟩ (SubH.get ⟨rfl,trivial⟩) (fun _ h=>h);rotate_left;all_goals (first|(rw[zl1 (by assumption)];rfl)|(rw[zl0 (by assumption)]))
theorem zdU {n:Nat}{f:Nat->Nat}{a k:Int} (h:InS n ⟨a,k⟩) (hn:n<=100):
  FnD Tryz.prog 251 [.d (zev n f),.agg [.d (.i a),.d (.i k)]] [] (.d (.i (dv f ⟨a,k⟩))) []:=by
 have hs:=h.facts;refine bd Tryz.f251 13 [] [] fun w0 F0 own kept hk=>?_;refine bx 3003 ?_;refine ev ?_;refine sq ?_ ?_<;>intro h1 h1p h1s<;>(try simp only[Q] at h1p);refine rq ?_;rotate_left;refine wc zsY (zih (by have:=hs h1p;omega) (by have:=hs h1p;omega)) rfl rfl ?_;refine xaS (i:=zcs ⟨a,k⟩) sl29 .none rfl rfl rfl (hs h1p).2.1 (by simp[(hs h1p).1];rfl) rfl ?_;refine ev ?_;refine rq ?_;rotate_left;all_goals (first|(rw[zl1 (by assumption)];rfl)|(rw[zl0 (by assumption)]))
theorem zgQ {w:List Data} (hw:WT w){a k c:Int} (ht:TyIn w.length ⟨a,k⟩) (hc:c∈zaj w ⟨a,k⟩):(zaa w ⟨a,k⟩ c).length<=1000000000000:=by
 obtain⟨d,rfl,h1,h2⟩:=zct ht hc;exact ziq hw h1 h2
theorem znN {w:List Data} (hw:WT w){n:Nat}{f:Nat->Nat}{a k c:Int} (ht:TyIn w.length ⟨a,k⟩) (hc:c∈zaj w ⟨a,k⟩) (hn:n<=100) (hb:∀s,f s<=100000) (hin:∀u∈zaa w ⟨a,k⟩ c,InS n u):
  FnD Tryz.prog 227 [.d (zam w),.ms 70 n,.agg [.d (.i a),.d (.i k)],.d (.i c)] [(70,some (.box (tabC n f)))] (.d (.i (most w f ⟨a,k⟩ c))) []:=by
 have hl:=zgQ hw ht hc;have hd:=zo6 hb (by omega);refine bd Tryz.f227 37 [] [] fun w0 F0 own kept hk=>?_;refine Walk.box (id:=3006) .none rfl rfl rfl (by(simp only[zax,occH,occE,Res.ids,xag,List.nil_append,AV.idsL,AV.ids,zah,zai,zaq,zaJ,xae,List.map_nil,upC,zaD];rfl)) (by(simp only[zax,occH,occE,Res.ids,xag,List.nil_append,AV.idsL,AV.ids,zah,zai,zaq,zaJ,xae,List.map_nil,upC,zaD];rfl)) (by(simp only[zax,occH,occE,Res.ids,xag,List.nil_append,AV.idsL,AV.ids,zah,zai,zaq,zaJ,xae,List.map_nil,upC,zaD];rfl)) (by(simp only[zax,occH,occE,Res.ids,xag,List.nil_append,AV.idsL,AV.ids,zah,zai,zaq,zaJ,xae,List.map_nil,upC,zaD];rfl)) ?_;refine ev ?_;refine Walk.call (cr:=[]) zfU (zcg hw ht hc) rfl .none rfl rfl (LeL.refl _) trivial rfl (by first|rfl|(simp only[zaV,List.all_cons,List.all_nil,zbG,zbs,AV.idsL,AV.ids,zah,zai,xae,List.map_nil,zaD];rfl)) (by first|rfl|(simp only[zax,occH,occE,Res.ids,xag,List.nil_append,AV.idsL,AV.ids,zah,zai,zaq,zaJ,xae,List.map_nil,upC,zaD];rfl)) ?_;refine ev ?_;refine xak (ι:=List (Ty)×List (Ty)×(Nat)) hk (fun x=>[(11,.d (.i (x.1.length:Int))),(10,.d (.i (x.2.2:Int)))]) [8,12,17,18,19,20,21,22,23,24,25,26,27,28,29,30,31,32,33,34] (fun x=>[]) (fun x=>x.1++x.2.1=zaa w ⟨a,k⟩ c/\x.2.2<=100000/\zby f x.2.2 x.2.1=zby f 0 (zaa w ⟨a,k⟩ c)) (fun x=>x.2.1.length) ([],zaa w ⟨a,k⟩ c,0) ⟨by simp,by simp,rfl⟩ ⟨⟨_,rfl,xaq ?_⟩,⟨⟨_,rfl,xaq ?_⟩,trivial⟩⟩ trivial (fun x=>rfl) (fun x hg1=>?_);iterate 2 focus ((simp;done))
 obtain⟨pre,rest,m⟩:=x;dsimp only at hg1 ⊢;refine evc [] [] ?_;refine sq ?_ ?_<;>intro h1 h1p h1s<;>(try simp only[Q] at h1p);rcases rest with _|⟨y,rest⟩
 ·exfalso;simp_all
 have hdy:=hd y;have hye:dv f ⟨y.data,y.index⟩=dv f y:=rfl;refine xaS zaZ .none rfl rfl rfl rfl (zaK hg1.1) rfl ?_;refine ev ?_;refine Walk.call (cr:=[]) zjo (zmS (f:=f) (a:=y.data) (k:=y.index) (hin y (by rw[<-hg1.1];simp)) hn) rfl .none rfl rfl (.cons (xas (by first|rfl|(simp;done))) (.cons (.refl _) .nil)) ⟨rfl,trivial⟩ rfl (by first|rfl|(simp only[zaV,List.all_cons,List.all_nil,zbG,zbs,AV.idsL,AV.ids,zah,zai,xae,List.map_nil,zaD];rfl)) (by first|rfl|(simp only[zax,occH,occE,Res.ids,xag,List.nil_append,AV.idsL,AV.ids,zah,zai,zaq,zaJ,xae,List.map_nil,upC,zaD];rfl)) ?_;refine ev ?_;refine sq ?_ ?_<;>intro h2 h2p h2s<;>(try simp only[Q] at h2p);refine rn [] (r1 rfl) (.eqd ?_) ⟨rfl,rfl⟩ (SubH.get ⟨rfl,trivial⟩) (fun _ h=>h);rotate_left;refine sq ?_ ?_<;>intro h3 h3p h3s<;>(try simp only[Q] at h3p);refine ar ?_;refine xah ((pre++[y],rest,max m (dv f y))) ⟨⟨(by have hz:=hg1.1;rw[<-hz];simp),⟨(by have:=hd y;dsimp only;omega),(by rw[<-hg1.2.2];simp only[zby];rw[if_neg (by have:=hd y;omega)])⟩⟩,(by simp),sx ⟨⟨_,rfl,xaq ?_⟩,⟨⟨_,rfl,xaq ?_⟩,trivial⟩⟩ trivial⟩;iterate 2 focus (first|(simp;done)|(dsimp only;omega))
 refine ar ?_;refine xah ((pre++[y],rest,max m (dv f y))) ⟨⟨(by have hz:=hg1.1;rw[<-hz];simp),⟨(by have:=hd y;dsimp only;omega),(by rw[<-hg1.2.2];simp only[zby];rw[if_neg (by have:=hd y;omega)])⟩⟩,(by simp),sx ⟨⟨_,rfl,xaq ?_⟩,⟨⟨_,rfl,xaq ?_⟩,trivial⟩⟩ trivial⟩;iterate 2 focus (first|(simp;done)|(dsimp only;omega))
 have hrest:rest=[]:=by
  rcases rest with _|⟨a,b⟩
  ·rfl
  ·exfalso;have hz:=congrArg List.length (hg1.1);simp only[xaa,xab,xac] at hz;omega
 subst hrest;refine ar ?_;refine rn [] (r1 rfl) (.eqd ?_) ⟨rfl,rfl⟩ (SubH.get ⟨rfl,trivial⟩) (fun _ h=>h);rotate_left;all_goals (refine congrArg D.i ?_;unfold most;rw[<-hg1.2.2];first|(simp only[zby];rw[if_pos (by omega)];rfl)|(simp only[zby];omega))
structure Dp (w:List Data):Prop where
 wt:WT w
 cl:ClosedT w
 four:w.length<=4
 ct:∀s,s<w.length*4->(za3 w (tyS s)).length<=4
def midT (w:List Data) (k s:Nat):Nat->Nat:=(List.range s).foldl (zdr w) (zbe w k)
def rowT (w:List Data) (k s:Nat) (pre:List Int):Nat->Nat:=pre.foldl (zbI w s) (midT w k s)
theorem zhu {w:List Data}{k s:Nat}:rowT w k s (za3 w (tyS s))=midT w k (s+1):=by
 unfold rowT midT;rw[List.range_succ,List.foldl_append];rfl
theorem zdA {w:List Data}{k s:Nat}{pre:List Int}{c:Int}:rowT w k s (pre++[c])=zbI w s (rowT w k s pre) c:=by
 unfold rowT;rw[List.foldl_append];rfl
theorem znB {w:List Data} (hd:Dp w){k s:Nat} (hk:k<=20) (hs:s<=w.length*4){pre:List Int} (hp:pre.length<=4) (i:Nat):rowT w k s pre i<=100000:=by
 have h4:=hd.four;have h1:=zrB (w:=w) (m:=4) hd.ct k;have h2:=zlv (w:=w) (m:=4) (List.range s) (zbe w k) _ (fun x hx=>hd.ct x (by have:=List.mem_range.1 hx;omega)) h1 (by omega);have h3:=zqp (w:=w) (s:=s) pre (midT w k s) _ h2 (by omega) i;have e1:k*(w.length*4*4)<=20*(4*4*4):=Nat.mul_le_mul hk (by omega);rw[List.length_range] at h3;show pre.foldl (zbI w s) (midT w k s) i<=100000
 omega
theorem zt1 {w:List Data}{s:Nat} (h:s<w.length*4):TyIn w.length (tyS s):= .inr ⟨s / 4,rfl,by omega⟩
theorem ziX {w:List Data}{s:Nat}:zaj w (tyS s)=za3 w (tyS s):=by unfold zaj;rw[if_neg (zly s)]
theorem zrb (m:Nat):zbb (m+1) [.d (.i 0)]=zbb m [.d (.i 0)]++[AV.d (.i 0)]:=by
 induction m with
 |zero=>rfl
 |succ m ihm=>
  show [AV.d (.i 0)]++zbb (m+1) [.d (.i 0)]=([AV.d (.i 0)]++zbb m [.d (.i 0)])++[AV.d (.i 0)]
  rw[ihm,List.append_assoc]
theorem zoO (n:Nat):zbb n [.d (.i 0)]=tabC n (fun _=>0):=by
 unfold tabC;induction n with
 |zero=>rfl
 |succ n ih=>rw[zrb,ih,List.range_succ,xaf];rfl
theorem zd3 {w:List Data}{s:Nat}{f:Nat->Nat}{c:Int} (h:decide ((0:Int)<(most w f (tyS s) c:Int)/\((f s:Int)=0\/(most w f (tyS s) c:Int)<(f s:Int)))=true):zbI w s f c=updF f s (most w f (tyS s) c):=by
 rw[decide_eq_true_eq] at h;unfold zbI;rw[if_pos (by omega)]
theorem zdz {w:List Data}{s:Nat}{f:Nat->Nat}{c:Int} (h:decide ((0:Int)<(most w f (tyS s) c:Int)/\((f s:Int)=0\/(most w f (tyS s) c:Int)<(f s:Int)))=false):zbI w s f c=f:=by
 rw[decide_eq_false_iff_not] at h;unfold zbI;rw[if_neg (by omega)]
theorem znI {w:List Data} (hw:WT w){s:Nat} (hs:s<w.length*4):FnD Tryz.prog 226 [.d (zam w),.agg [.d (.i ((s:Int) / 4)),.d (.i ((s:Int) % 4))]] [] (.d (zbB (za3 w (tyS s)))) []:=by
 rw[<-ziX];exact zb5 hw (zt1 hs)
theorem zoW {w:List Data} (hd:Dp w){f:Nat->Nat}{s:Nat}{c:Int} (hs:s<w.length*4) (hc:c∈za3 w (tyS s)) (hb:∀s,f s<=100000):
  FnD Tryz.prog 227 [.d (zam w),.ms 70 (w.length*4),.agg [.d (.i ((s:Int) / 4)),.d (.i ((s:Int) % 4))],.d (.i c)] [(70,some (.box (tabC (w.length*4) f)))] (.d (.i (most w f (tyS s) c))) []:=
 have h4:=hd.four;znN (a:=(tyS s).data) (k:=(tyS s).index) hd.wt (zt1 hs) (by rw[<-ziX] at hc;exact hc) (by omega) hb (fun u hu=>hd.cl s hs c hc u hu)
theorem zfk {w:List Data} (hd:Dp w):FnD Tryz.prog 130 [.d (zam w)] [] (.d (zev (w.length*4) (zal w))) []:=by
 have hw:=hd.wt;have h4:=hd.four;refine bd Tryz.f130 70 [27,29,54,61] [14,999999] fun w0 F0 own kept hk=>?_;refine ar ?_;refine Walk.make (id:=70) (m:=w.length*4) sl29 tz3 rfl (by decide) (ziY rfl) .none rfl (congrArg (fun z:Int=>some (AV.d (D.i z))) (by simp:((w.map Data.c).length:Int)*4=((w.length*4:Nat):Int))) (congrArg (fun z:Int=>some (AV.d (D.i z))) (by simp:((w.map Data.c).length:Int)*4=((w.length*4:Nat):Int))) (by omega) (by omega) (by first|rfl|(simp only[zax,occH,occE,Res.ids,xag,List.nil_append,AV.idsL,AV.ids,zah,zai,zaq,zaJ,xae,List.map_nil,upC,zaD];rfl)) (by first|rfl|(simp only[zax,occH,occE,Res.ids,xag,List.nil_append,AV.idsL,AV.ids,zah,zai,zaq,zaJ,xae,List.map_nil,upC,zaD];rfl)) (by first|rfl|(simp only[zax,occH,occE,Res.ids,xag,List.nil_append,AV.idsL,AV.ids,zah,zai,zaq,zaJ,xae,List.map_nil,upC,zaD];rfl)) ?_;refine evs [27,29,54,61] [] ?_;refine xak (ι:=Nat) hk (fun n=>[(4,.d (.i (n:Int)))]) [5,6,7,8,9,14,15,16,17,18,19,20,21,22,23,24,25,26,27,28,29,30,31,32,33,34,35,36,37,38,39,40,41,42,43,44,45,46,47,48,49,50,51,52,53,54,55,56,57,58,59,60,61,62,63,64,65,66,67,68] (fun n=>[(70,some (.box (tabC (w.length*4) (zbe w n))))]) (fun n=>n<=w.length*4+1) (fun n=>w.length*4+1-n) 0 (by simp) ⟨⟨_,rfl,xaq ?_⟩,trivial⟩ ⟨?_,trivial⟩ (fun x=>rfl) (fun n hg1=>?_);focus ((simp;done))
 focus ((show some (Res.box _)=some (Res.box _);rw[zoO];rfl))
 refine evc [27,29,54,61] [14,999999] ?_;refine sq ?_ ?_<;>intro h1 h1p h1s<;>(try simp only[Q] at h1p);refine xak (ι:=Nat) hk (fun s=>[(5,.d (.i (s:Int)))]) [6,7,8,9,20,21,22,23,24,25,26,27,28,29,30,31,32,33,34,35,36,37,38,39,40,41,42,43,44,45,46,47,48,49,50,51,52,53,54,55,56,57,58,59,60,61,62,63,64,65,66,67,68] (fun s=>[(70,some (.box (tabC (w.length*4) (midT w n s))))]) (fun s=>s<=w.length*4) (fun s=>w.length*4-s) 0 (by simp) ⟨⟨_,rfl,xaq ?_⟩,trivial⟩ ⟨?_,trivial⟩ (fun x=>rfl) (fun s hg2=>?_);focus ((simp;done))
 focus (first|rfl|(show some (Res.box _)=some (Res.box _);rw[<-zhu,<-hg3,List.append_nil]))
 refine evc [27,29,54,61] [14,999999] ?_;refine sq ?_ ?_<;>intro h2 h2p h2s<;>(try simp only[Q] at h2p);refine xbc .none rfl rfl rfl (by omega) ?_;refine evs [27,29,54,61] [] ?_;refine xbe .none rfl rfl rfl (by omega) ?_;refine bu [0,1] [_,_] st25 ?_;refine Walk.alloc (id:=3006) tz25 rfl .none rfl (by(simp only[zax,occH,occE,Res.ids,xag,List.nil_append,AV.idsL,AV.ids,zah,zai,zaq,zaJ,xae,List.map_nil,upC,zaD];rfl)) (by(simp only[zax,occH,occE,Res.ids,xag,List.nil_append,AV.idsL,AV.ids,zah,zai,zaq,zaJ,xae,List.map_nil,upC,zaD];rfl)) (by(simp only[zax,occH,occE,Res.ids,xag,List.nil_append,AV.idsL,AV.ids,zah,zai,zaq,zaJ,xae,List.map_nil,upC,zaD];rfl)) ?_;refine so ty25 ?_;refine tv ?_;refine Walk.call (cr:=[]) zfT (znI hw (s:=s) (by omega)) rfl .none rfl rfl (LeL.refl _) trivial rfl (by first|rfl|(simp only[zaV,List.all_cons,List.all_nil,zbG,zbs,AV.idsL,AV.ids,zah,zai,xae,List.map_nil,zaD];rfl)) (by first|rfl|(simp only[zax,occH,occE,Res.ids,xag,List.nil_append,AV.idsL,AV.ids,zah,zai,zaq,zaJ,xae,List.map_nil,upC,zaD];rfl)) ?_;refine evs [27,29,54,61] [] ?_;refine xak (ι:=List (Int)×List (Int)) hk (fun x=>[(8,.d (.i (x.1.length:Int)))]) [9,34,35,36,37,38,39,40,41,42,43,44,45,46,47,48,49,50,51,52,53,54,55,56,57,58,59,60,61,62,63,64,65,66,67,68] (fun x=>[(70,some (.box (tabC (w.length*4) (rowT w n s x.1))))]) (fun x=>x.1++x.2=za3 w (tyS s)) (fun x=>x.2.length) ([],za3 w (tyS s)) (by simp) ⟨⟨_,rfl,xaq ?_⟩,trivial⟩ ⟨?_,trivial⟩ (fun x=>rfl) (fun x hg3=>?_);focus ((simp;done))
 focus (first|rfl|(show some (Res.box _)=some (Res.box _);rw[zdA];first|(rw[zd3 (by assumption)];done)|(rw[zdz (by assumption)];done)))
 obtain⟨pre,rest⟩:=x;dsimp only at hg3 ⊢;have hct:=hd.ct s (by omega);refine evc [27,29,54,61] [14,999999] ?_;refine sq ?_ ?_<;>intro h3 h3p h3s<;>(try simp only[Q] at h3p);rcases rest with _|⟨c,rest⟩
 ·exfalso;simp_all
 refine xaS sl29 .none rfl rfl rfl rfl (zaK hg3) rfl ?_;refine evd [27,29,54,61] [] ?_;refine Walk.call (cr:=[]) zsM (zoW hd (f:=rowT w n s pre) (s:=s) (c:=c) (by omega) (by rw[<-hg3];simp) (znB hd (by omega) (by omega) (by have:=hd.ct s (by omega);have hz:=congrArg List.length hg3;simp at hz;omega))) rfl .none rfl rfl (.cons (.refl _) (.cons (xas (by first|rfl|(simp;done))) (.cons (.refl _) (.cons (.refl _) .nil)))) ⟨rfl,trivial⟩ rfl (by first|rfl|(simp only[zaV,List.all_cons,List.all_nil,zbG,zbs,AV.idsL,AV.ids,zah,zai,xae,List.map_nil,zaD];rfl)) (by first|rfl|(simp only[zax,occH,occE,Res.ids,xag,List.nil_append,AV.idsL,AV.ids,zah,zai,zaq,zaJ,xae,List.map_nil,upC,zaD];rfl)) ?_;refine evd [27,29,54,61] [] ?_;refine dr ?_;refine xal ?_;refine xaA 17 [(64,.d (.bool (decide ((0:Int)<(most w (rowT w n s pre) (tyS s) c:Int)/\((rowT w n s pre s:Int)=0\/(most w (rowT w n s pre) (tyS s) c:Int)<(rowT w n s pre s:Int))))))] [48,49,50,51,52,53,54,55,56,57,58,59,60,61,62,63] ?_ ?_;refine evs [27,29,54,61] [] ?_;refine sq ?_ ?_<;>intro h4 h4p h4s<;>(try simp only[Q] at h4p);refine xaW (i:=s) sl29 (.some rfl rfl h4) rfl rfl rfl rfl (by omega) ?_;refine xa0 ty3 (.some rfl rfl h4) rfl rfl rfl ((zkv (s:=s) (by omega) (by omega))) ?_;refine evs [27,29,54,61] [(50,true)] ?_ ⟨⟨_,rfl,h4⟩,trivial⟩;refine sq ?_ ?_<;>intro h5 h5p h5s<;>(try simp only[Q] at h5p);exact jnb rfl;refine xaW (i:=s) sl29 (.some rfl rfl h5) rfl rfl rfl rfl (by omega) ?_;refine xa0 ty3 (.some rfl rfl h5) rfl rfl rfl ((zkv (s:=s) (by omega) (by omega))) ?_;refine evs [27,29,54,61] [(50,true),(56,false)] ?_ ⟨⟨_,rfl,h4⟩,⟨_,rfl,h5⟩,trivial⟩;exact jnb rfl;exact jnb rfl;refine xaz ?_;refine tv ?_;refine sq ?_ ?_<;>intro h6 h6p h6s<;>(try simp only[Q] at h6p);refine xaW (i:=s) sl29 .none rfl rfl rfl rfl (by omega) ?_;refine Walk.store ty3 .none rfl rfl rfl rfl rfl rfl (by simp) ((zrX (s:=s) (v:=most w (rowT w n s pre) (tyS s) c) (by omega) (by omega) rfl)) ?_;refine tv ?_;refine ar ?_;refine xah ((pre++[c],rest)) ⟨(by have hz:=hg3;rw[<-hz];simp),(by simp),sx ⟨⟨_,rfl,xaq ?_⟩,trivial⟩ ⟨?_,trivial⟩⟩;focus ((simp;done))
 focus ((show some (Res.box _)=some (Res.box _);rw[zdA];first|(rw[zd3 (by assumption)];done)|(rw[zdz (by assumption)];done)))
 refine ar ?_;refine xah ((pre++[c],rest)) ⟨(by have hz:=hg3;rw[<-hz];simp),(by simp),sx ⟨⟨_,rfl,xaq ?_⟩,trivial⟩ ⟨?_,trivial⟩⟩;focus ((simp;done))
 focus ((show some (Res.box _)=some (Res.box _);rw[zdA];first|(rw[zd3 (by assumption)];done)|(rw[zdz (by assumption)];done)))
 have hrest:rest=[]:=by
  rcases rest with _|⟨a,b⟩
  ·rfl
  ·exfalso;have hz:=congrArg List.length (hg3);simp only[xaa,xab,xac] at hz;omega
 subst hrest;refine ar ?_;refine xah (s+1) ⟨(by omega),(by omega),sx ⟨⟨_,rfl,xaq ?_⟩,trivial⟩ ⟨?_,trivial⟩⟩;focus ((simp;done))
 focus ((show some (Res.box _)=some (Res.box _);rw[<-zhu,<-hg3,List.append_nil]))
 refine ar ?_;refine xah (n+1) ⟨(by omega),(by omega),sx ⟨⟨_,rfl,xaq ?_⟩,trivial⟩ ⟨?_,trivial⟩⟩;focus ((simp;done))
 focus (first|(show some (Res.box _)=some (Res.box _);rw[zoO];rfl)|(have e:s=w.length*4:=(by omega);rw[e];rfl))
 refine CWp.frz hk 2 70 _ _ rfl rfl zs3 rfl ?_;refine CWp.ret ?_;refine rq ?_;rotate_left;all_goals ((have e:n=w.length*4+1:=(by omega);rw[e];rfl))
theorem zoj {α:Type} [Inhabited α] (p:α->Bool):∀(l:List α) (i:Nat),(idxF p l i = -1/\∀x∈l,p x=false)\/∃k:Nat,idxF p l i=((i+k:Nat):Int)/\k<l.length/\(l.take (k+1)).filter (fun x=> !p x)=l.take k
 | [],i=> .inl ⟨rfl,by simp⟩
 |x::r,i=>by
  unfold idxF;cases h:p x with
  |true=>exact .inr ⟨0,by simp,by simp,by simp[h]⟩
  |false=>
   rcases zoj p r (i+1) with ⟨h1,h2⟩|⟨k,h1,h2,h3⟩
   ·exact .inl ⟨by simpa using h1,fun y hy=>by rcases List.mem_cons.1 hy with rfl|hy;exact h;exact h2 y hy⟩
   ·refine .inr ⟨k+1,by simp only[Bool.false_eq_true,if_false];rw[h1];congr 1;omega,by simpa using h2, ?_⟩;simp only[List.take_succ_cons,List.filter_cons,h,Bool.not_false,if_true,List.cons.injEq,true_and];simpa using h3
theorem zi9 {α:Type} [Inhabited α]{s:List α}{i:Nat}{t:α} (h:i<s.length):(s.set i t).take (i+1)=s.take i++[t]:=by
 rw[List.set_eq_take_append_cons_drop,if_pos h,List.take_append,List.take_take];have:(s.take i).length=i:=by simp;omega
 simp[this,Nat.min_eq_right]
theorem zoP {α:Type}{s:List α}{i j:Nat}{t:α} (h:i<=j):(s.set i t).drop (j+1)=s.drop (j+1):=by
 rw[List.drop_set,if_pos (by omega)]
theorem zgV {α:Type} [Inhabited α]{p:α->Bool}{l:List α}{j:Nat} (h:j<l.length):(l.take (j+1)).filter p=(l.take j).filter p++(if p (nth l j) then [nth l j] else []):=by
 rw[List.take_add_one,List.getElem?_eq_getElem h,List.filter_append,zaI h];simp[List.filter_cons]
theorem zq2 {α:Type} [Inhabited α]{s l:List α}{j:Nat} (h:s.drop j=l.drop j) (hl:s.length=l.length) (hj:j<l.length):nth s j=nth l j:=by
 have h1:=zaS (l:=s) (i:=j) (by omega);have h2:=zaS (l:=l) (i:=j) hj;rw[h1,h2] at h;exact(List.cons.inj h).1
theorem zhl {α:Type}{s l:List α}{j:Nat} (h:s.drop j=l.drop j):s.drop (j+1)=l.drop (j+1):=by
 have:=congrArg (List.drop 1) h;simpa [List.drop_drop,Nat.add_comm] using this
theorem ziT {w:List Data} (hs:WSmall w) (hv:za0 w=true):WT w:=WV.wt hs ((zco w).1 hv)
end Go.Proofs.YtlfipehhbdjnjaaGreat
namespace Go.Proofs.YtlfipehhbdjnjaaGreat
open Go
set_option linter.unusedSimpArgs false
set_option linter.unusedVariables false
set_option maxRecDepth 100000
set_option maxHeartbeats 4000000
theorem ze8 {p:Pat}{b1 b2 b3:Bool}{k:Int}:FnD Tryz.prog 305 [.agg [.d (.i p.op),.d (.i p.ctor),.d (.i p.n),.d (.i p.m),.d (.i p.var),.d (zad p.kids)],.d (.bool b1),.d (.bool b2),.d (.bool b3),.d (.i k)] []
  (.d (.bool (decide ((b1=true\/p.ctor=0)/\(b2=true\/p.n=0/\p.m=0)/\(b3=true\/p.var=0)/\(p.kids.length:Int)=k)))) []:=by
 refine bd Tryz.f305 45 [] [1] fun w0 F0 own kept hk=>?_;refine bx 3005 ?_;refine ev ?_;refine xal ?_;refine xaA 6 [(16,.d (.bool (decide (b1=true\/p.ctor=0))))] [11,12,13,14,15] ?_ ?_;refine ev ?_;refine sq ?_ ?_<;>intro h1 h1p h1s;focus (exact jn rfl (xap (by(first|rfl|(rw[Bool.eq_iff_iff];simp_all[Pat.cs_len];done)))))
 focus (exact jn rfl (xap (by(first|rfl|(rw[Bool.eq_iff_iff];simp_all[Pat.cs_len];done)))))
 refine xaA 13 [(29,.d (.bool (decide ((b1=true\/p.ctor=0)/\(b2=true\/p.n=0/\p.m=0)))))] [17,18,19,20,21,22,23,24,25,26,27,28] ?_ ?_;refine ev ?_;refine sq ?_ ?_<;>intro h2 h2p h2s;refine sq ?_ ?_<;>intro h3 h3p h3s;focus (exact jn rfl (xap (by(first|rfl|(rw[Bool.eq_iff_iff];simp_all[Pat.cs_len];done)))))
 refine sq ?_ ?_<;>intro h4 h4p h4s;focus (exact jn rfl (xap (by(first|rfl|(rw[Bool.eq_iff_iff];simp_all[Pat.cs_len];done)))))
 focus (exact jn rfl (xap (by(first|rfl|(rw[Bool.eq_iff_iff];simp_all[Pat.cs_len];done)))))
 focus (exact jn rfl (xap (by(first|rfl|(rw[Bool.eq_iff_iff];simp_all[Pat.cs_len];done)))))
 refine xaA 8 [(37,.d (.bool (decide ((b1=true\/p.ctor=0)/\(b2=true\/p.n=0/\p.m=0)/\(b3=true\/p.var=0)))))] [30,31,32,33,34,35,36] ?_ ?_;refine ev ?_;refine sq ?_ ?_<;>intro h5 h5p h5s;refine sq ?_ ?_<;>intro h6 h6p h6s;focus (exact jn rfl (xap (by(first|rfl|(rw[Bool.eq_iff_iff];simp_all[Pat.cs_len];done)))))
 focus (exact jn rfl (xap (by(first|rfl|(rw[Bool.eq_iff_iff];simp_all[Pat.cs_len];done)))))
 focus (exact jn rfl (xap (by(first|rfl|(rw[Bool.eq_iff_iff];simp_all[Pat.cs_len];done)))))
 refine xaA 7 [(44,.d (.bool (decide ((b1=true\/p.ctor=0)/\(b2=true\/p.n=0/\p.m=0)/\(b3=true\/p.var=0)/\(p.kids.length:Int)=k))))] [38,39,40,41,42,43] ?_ ?_;refine ev ?_;refine sq ?_ ?_<;>intro h7 h7p h7s;focus (exact jn rfl (xap (by(first|rfl|(rw[Bool.eq_iff_iff];simp_all[Pat.cs_len];done)))))
 focus (exact jn rfl (xap (by(first|rfl|(rw[Bool.eq_iff_iff];simp_all[Pat.cs_len];done)))))
 refine xaz ?_;refine ev ?_;refine rq ?_;rotate_left;all_goals (rfl)
theorem zfN {p:Pat}{k:Int}:FnD Tryz.prog 305 [.agg [.d (.i p.op),.d (.i p.ctor),.d (.i p.n),.d (.i p.m),.d (.i p.var),.d (zad p.kids)],.d (.bool false),.d (.bool false),.d (.bool false),.d (.i k)] []
  (.d (.bool (decide (p.ctor=0/\(p.n=0/\p.m=0)/\p.var=0/\(p.kids.length:Int)=k)))) []:=by
 have:=ze8 (p:=p) (b1:=false) (b2:=false) (b3:=false) (k:=k);simpa only[Bool.false_eq_true,false_or] using this
theorem zfO {p:Pat}{k:Int}:FnD Tryz.prog 305 [.agg [.d (.i p.op),.d (.i p.ctor),.d (.i p.n),.d (.i p.m),.d (.i p.var),.d (zad p.kids)],.d (.bool false),.d (.bool false),.d (.bool true),.d (.i k)] []
  (.d (.bool (decide (p.ctor=0/\(p.n=0/\p.m=0)/\(p.kids.length:Int)=k)))) []:=by
 have:=ze8 (p:=p) (b1:=false) (b2:=false) (b3:=true) (k:=k);simpa only[Bool.false_eq_true,false_or,true_or,true_and] using this
theorem zkJ {p:Pat}{k:Int}:FnD Tryz.prog 305 [.agg [.d (.i p.op),.d (.i p.ctor),.d (.i p.n),.d (.i p.m),.d (.i p.var),.d (zad p.kids)],.d (.bool false),.d (.bool true),.d (.bool false),.d (.i k)] []
  (.d (.bool (decide (p.ctor=0/\p.var=0/\(p.kids.length:Int)=k)))) []:=by
 have:=ze8 (p:=p) (b1:=false) (b2:=true) (b3:=false) (k:=k);simpa only[Bool.false_eq_true,false_or,true_or,true_and] using this
theorem zqZ {p:Pat}{k:Int}:FnD Tryz.prog 305 [.agg [.d (.i p.op),.d (.i p.ctor),.d (.i p.n),.d (.i p.m),.d (.i p.var),.d (zad p.kids)],.d (.bool true),.d (.bool false),.d (.bool false),.d (.i k)] []
  (.d (.bool (decide ((p.n=0/\p.m=0)/\p.var=0/\(p.kids.length:Int)=k)))) []:=by
 have:=ze8 (p:=p) (b1:=true) (b2:=false) (b3:=false) (k:=k);simpa only[Bool.false_eq_true,false_or,true_or,true_and] using this
theorem zez {v:Int}:FnD Tryz.prog 270 [.d (.i v)] [] (.d (.bool (zar v 0 5))) []:=by
 refine bd Tryz.f270 5 [] [] fun w0 F0 own kept hk=>?_;refine wc zcO (zbv) rfl rfl ?_;refine ev ?_;refine rq ?_;rotate_left;all_goals (rfl)
theorem zeg {w:List Data} (hw:WT w){a k:Int} (ht:TyIn w.length ⟨a,k⟩):FnD Tryz.prog 234 [.d (zam w),.agg [.d (.i a),.d (.i k)]] [] (.d (zbB (zaj w ⟨a,k⟩))) []:=by
 rcases ht with ha|⟨d,hd,hlt⟩
 ·simp only at ha;subst ha;rw[zgF];exact zjb
 ·simp only at hd;subst hd;rw[zhL];exact zmc hw hlt
theorem zc8 {w:List Data} (hw:WT w){a k c:Int} (ht:TyIn w.length ⟨a,k⟩) (hc:c∈zaj w ⟨a,k⟩):FnD Tryz.prog 144 [.d (zam w),.agg [.d (.i a),.d (.i k)],.d (.i c)] [] (.d (zci (zaa w ⟨a,k⟩ c))) []:=by
 obtain⟨d,rfl,h1,h2⟩:=zct ht hc;exact zk7 hw h1 h2
theorem zi4 {w:List Data} (hw:WT w){a k:Int}{p:Pat} (ht:TyIn w.length ⟨a,k⟩):
  FnD Tryz.prog 236 [.d (zam w),.agg [.d (.i a),.d (.i k)],.agg [.d (.i p.op),.d (.i p.ctor),.d (.i p.n),.d (.i p.m),.d (.i p.var),.d (zad p.kids)]] [] (.tup [.d (zci (zcE w ⟨a,k⟩ p)),.d (.bool (okP w ⟨a,k⟩ p))]) []:=by
 have hcl:=zgG hw ht;have ty4:p.op=4->p.ctor∉zaj w ⟨a,k⟩->zcE w ⟨a,k⟩ p=[]:=fun h4 hm=>by unfold zcE;rw[if_pos ⟨h4,hm⟩]
 have ty4':p.op=4->p.ctor∈zaj w ⟨a,k⟩->zcE w ⟨a,k⟩ p=zaa w ⟨a,k⟩ p.ctor:=fun h4 hm=>by unfold zcE zag;rw[if_neg (fun h=>h.2 hm),if_pos h4]
 have ty5:p.op=5->zcE w ⟨a,k⟩ p=[⟨a,k⟩,⟨a,k⟩]:=fun h5=>by unfold zcE zag;rw[if_neg (by omega),if_neg (by omega),if_pos h5]
 have ty6:p.op=6->zcE w ⟨a,k⟩ p=[⟨a,k⟩]:=fun h6=>by unfold zcE zag;rw[if_neg (by omega),if_neg (by omega),if_neg (by omega),if_pos h6]
 have ty0:¬p.op=4->¬p.op=5->¬p.op=6->zcE w ⟨a,k⟩ p=[]:=fun h4 h5 h6=>by unfold zcE zag;rw[if_neg (fun h=>h4 h.1),if_neg h4,if_neg h5,if_neg h6]
 have ln4:p.op=4->(zag w ⟨a,k⟩ p).length=(zaa w ⟨a,k⟩ p.ctor).length:=fun h4=>by unfold zag;rw[if_pos h4]
 have ln5:p.op=5->(zag w ⟨a,k⟩ p).length=2:=fun h5=>by unfold zag;rw[if_neg (by omega),if_pos h5];rfl
 have ln6:p.op=6->(zag w ⟨a,k⟩ p).length=1:=fun h6=>by unfold zag;rw[if_neg (by omega),if_neg (by omega),if_pos h6];rfl
 have ln0:¬p.op=4->¬p.op=5->¬p.op=6->(zag w ⟨a,k⟩ p).length=0:=fun h4 h5 h6=>by unfold zag;rw[if_neg h4,if_neg h5,if_neg h6];rfl
 have okI:∀b:Bool,(b=true↔((((p.op=2\/p.op=6)->0<=p.var/\p.var<=5)/\(¬(p.op=2\/p.op=6)->p.var=0)/\(p.op≠3->p.n=0/\p.m=0)/\(p.op≠4->p.ctor=0)/\
   (p.op=1\/p.op=2\/p.op=5\/p.op=6\/(p.op=3/\a = -1/\0<=p.n/\p.n<=p.m/\p.m<=9)\/(p.op=4/\p.ctor∈zaj w ⟨a,k⟩)))/\p.kids.length=(zag w ⟨a,k⟩ p).length))->b=okP w ⟨a,k⟩ p:=fun b h=>by
  rw[Bool.eq_iff_iff,h];unfold okP ownP;simp only[xad,decide_eq_true_eq]
 by_cases hmem:p.ctor∈zaj w ⟨a,k⟩
 ·have hargs:=zc8 hw ht hmem;have hal:(zaa w ⟨a,k⟩ p.ctor).length<=1000000000000:=by
   obtain⟨d,rfl,h1,h2⟩:=zct ht hmem;exact ziq hw h1 h2
  simp only[hmem,and_true] at okI;refine bd Tryz.f236 87 [] [5] fun w0 F0 own kept hk=>?_;refine bx 3004 ?_;refine bx 3005 ?_;refine ev ?_;refine sq ?_ ?_<;>intro h1 h1p h1s<;>(try simp only[Q] at h1p);refine wc zdW (zfN) rfl rfl ?_;refine ev ?_;refine rn0 (r2 rfl rfl) (.tup (.cons (.nild ?_) (.cons (.eqd ?_) .nil)));rotate_left 2;refine sq ?_ ?_<;>intro h2 h2p h2s<;>(try simp only[Q] at h2p);refine xal ?_;refine xaA 7 [(23,.d (.bool (decide ((p.ctor=0/\(p.n=0/\p.m=0)/\(p.kids.length:Int)=0)/\0<=p.var/\p.var<=5))))] [17,18,19,20,21,22] ?_ ?_;refine ev ?_;refine wc zdW (zfO) rfl rfl ?_;refine ev ?_;refine sq ?_ ?_<;>intro h3 h3p h3s<;>(try simp only[Q] at h3p);refine Walk.call (cr:=[]) zlN (zez) rfl (.some rfl rfl h3) rfl rfl (LeL.refl _) trivial rfl rfl rfl ?_;refine evs [] [(19,true)] ?_ ⟨⟨_,rfl,h3⟩,trivial⟩;exact jn rfl (xap (by(rw[Bool.eq_iff_iff];simp only[decide_eq_true_eq,zar,xad,Bool.false_eq_true,false_iff,true_iff];omega)));exact jn rfl (xap (by(rw[Bool.eq_iff_iff];simp only[decide_eq_true_eq,zar,xad,Bool.false_eq_true,false_iff,true_iff];omega)));refine xaz ?_;refine ev ?_;refine rn0 (r2 rfl rfl) (.tup (.cons (.nild ?_) (.cons (.eqd ?_) .nil)));rotate_left 2;refine sq ?_ ?_<;>intro h4 h4p h4s<;>(try simp only[Q] at h4p);refine sq ?_ ?_<;>intro h5 h5p h5s<;>(try simp only[Q] at h5p);refine Walk.call (cr:=[]) zdW (zkJ) rfl (.some rfl rfl h5) rfl rfl (LeL.refl _) trivial rfl rfl rfl ?_;refine evd [] [(29,true)] ?_ ⟨⟨_,rfl,h5⟩,trivial⟩;refine sq ?_ ?_<;>intro h6 h6p h6s<;>(try simp only[Q] at h6p);refine sq ?_ ?_<;>intro h7 h7p h7s<;>(try simp only[Q] at h7p);refine sq ?_ ?_<;>intro h8 h8p h8s<;>(try simp only[Q] at h8p);refine dr ?_;refine rn0 (r2 rfl rfl) (.tup (.cons (.nild ?_) (.cons (.eqd ?_) .nil)));rotate_left 2;refine dr ?_;refine rn0 (r2 rfl rfl) (.tup (.cons (.nild ?_) (.cons (.eqd ?_) .nil)));rotate_left 2;refine sqF ?_;refine dr ?_;refine rn0 (r2 rfl rfl) (.tup (.cons (.nild ?_) (.cons (.eqd ?_) .nil)));rotate_left 2;refine sqF ?_;refine sqF ?_;refine dr ?_;refine rn0 (r2 rfl rfl) (.tup (.cons (.nild ?_) (.cons (.eqd ?_) .nil)));rotate_left 2;refine sqF ?_;refine sqF ?_;refine sqF ?_;refine dr ?_;refine rn0 (r2 rfl rfl) (.tup (.cons (.nild ?_) (.cons (.eqd ?_) .nil)));rotate_left 2;refine sq ?_ ?_<;>intro h9 h9p h9s<;>(try simp only[Q] at h9p);refine wc zlL (zeg hw ht) rfl rfl ?_;refine evd [] [] ?_;refine wc zsP (zex hcl) rfl rfl ?_;refine evd [] [] ?_;refine dr ?_;refine sq ?_ ?_<;>intro h10 h10p h10s<;>(try simp only[Q] at h10p);exfalso;simp_all;refine wc zjm (hargs) rfl rfl ?_;refine ev ?_;refine wc zdW (zqZ) rfl rfl ?_;refine ev ?_;refine rn0 (r2 rfl rfl) (.tup (.cons (.eqd ?_) (.cons (.eqd ?_) .nil)));rotate_left 2;refine sq ?_ ?_<;>intro h11 h11p h11s<;>(try simp only[Q] at h11p);refine si [0,1] [_,_] zaZ tz25 ?_;refine evd [] [] ?_;refine wc zdW (zfN) rfl rfl ?_;refine evd [] [] ?_;refine dr ?_;refine rn0 (r2 rfl rfl) (.tup (.cons (.eqd ?_) (.cons (.eqd ?_) .nil)));rotate_left 2;refine sq ?_ ?_<;>intro h12 h12p h12s<;>(try simp only[Q] at h12p);refine si [0] [_] zaZ tz25 ?_;refine evd [] [] ?_;refine wc zdW (zfO) rfl rfl ?_;refine evd [] [] ?_;refine sq ?_ ?_<;>intro h13 h13p h13s<;>(try simp only[Q] at h13p);refine Walk.call (cr:=[]) zlN (zez) rfl (.some rfl rfl h13) rfl rfl (LeL.refl _) trivial rfl rfl rfl ?_;refine evd [] [(82,true)] ?_ ⟨⟨_,rfl,h13⟩,trivial⟩;refine dr ?_;refine rn0 (r2 rfl rfl) (.tup (.cons (.eqd ?_) (.cons (.eqd ?_) .nil)));rotate_left 2;refine dr ?_;refine rn0 (r2 rfl rfl) (.tup (.cons (.eqd ?_) (.cons (.eqd ?_) .nil)));rotate_left 2;refine rn0 (r2 rfl rfl) (.tup (.cons (.nild ?_) (.cons (.eqd ?_) .nil)));rotate_left 2;all_goals (first|(refine congrArg D.bool (okI _ ?_);(try simp only[decide_eq_true_eq,Bool.false_eq_true,zar,xad,xac,true_iff,false_iff]);omega)|(rw[ty0 (by omega) (by omega) (by omega)];first|done|rfl)|(rw[ty5 (by omega)];first|done|rfl)|(rw[ty6 (by omega)];first|done|rfl)|(rw[ty4' (by omega) hmem];first|done|rfl))
 ·simp only[hmem,and_false,or_false] at okI;refine bd Tryz.f236 87 [] [5] fun w0 F0 own kept hk=>?_;refine bx 3004 ?_;refine bx 3005 ?_;refine ev ?_;refine sq ?_ ?_<;>intro h1 h1p h1s<;>(try simp only[Q] at h1p);refine wc zdW (zfN) rfl rfl ?_;refine ev ?_;refine rn0 (r2 rfl rfl) (.tup (.cons (.nild ?_) (.cons (.eqd ?_) .nil)));rotate_left 2;refine sq ?_ ?_<;>intro h2 h2p h2s<;>(try simp only[Q] at h2p);refine xal ?_;refine xaA 7 [(23,.d (.bool (decide ((p.ctor=0/\(p.n=0/\p.m=0)/\(p.kids.length:Int)=0)/\0<=p.var/\p.var<=5))))] [17,18,19,20,21,22] ?_ ?_;refine ev ?_;refine wc zdW (zfO) rfl rfl ?_;refine ev ?_;refine sq ?_ ?_<;>intro h3 h3p h3s<;>(try simp only[Q] at h3p);refine Walk.call (cr:=[]) zlN (zez) rfl (.some rfl rfl h3) rfl rfl (LeL.refl _) trivial rfl rfl rfl ?_;refine evs [] [(19,true)] ?_ ⟨⟨_,rfl,h3⟩,trivial⟩;exact jn rfl (xap (by(rw[Bool.eq_iff_iff];simp only[decide_eq_true_eq,zar,xad,Bool.false_eq_true,false_iff,true_iff];omega)));exact jn rfl (xap (by(rw[Bool.eq_iff_iff];simp only[decide_eq_true_eq,zar,xad,Bool.false_eq_true,false_iff,true_iff];omega)));refine xaz ?_;refine ev ?_;refine rn0 (r2 rfl rfl) (.tup (.cons (.nild ?_) (.cons (.eqd ?_) .nil)));rotate_left 2;refine sq ?_ ?_<;>intro h4 h4p h4s<;>(try simp only[Q] at h4p);refine sq ?_ ?_<;>intro h5 h5p h5s<;>(try simp only[Q] at h5p);refine Walk.call (cr:=[]) zdW (zkJ) rfl (.some rfl rfl h5) rfl rfl (LeL.refl _) trivial rfl rfl rfl ?_;refine evd [] [(29,true)] ?_ ⟨⟨_,rfl,h5⟩,trivial⟩;refine sq ?_ ?_<;>intro h6 h6p h6s<;>(try simp only[Q] at h6p);refine sq ?_ ?_<;>intro h7 h7p h7s<;>(try simp only[Q] at h7p);refine sq ?_ ?_<;>intro h8 h8p h8s<;>(try simp only[Q] at h8p);refine dr ?_;refine rn0 (r2 rfl rfl) (.tup (.cons (.nild ?_) (.cons (.eqd ?_) .nil)));rotate_left 2;refine dr ?_;refine rn0 (r2 rfl rfl) (.tup (.cons (.nild ?_) (.cons (.eqd ?_) .nil)));rotate_left 2;refine sqF ?_;refine dr ?_;refine rn0 (r2 rfl rfl) (.tup (.cons (.nild ?_) (.cons (.eqd ?_) .nil)));rotate_left 2;refine sqF ?_;refine sqF ?_;refine dr ?_;refine rn0 (r2 rfl rfl) (.tup (.cons (.nild ?_) (.cons (.eqd ?_) .nil)));rotate_left 2;refine sqF ?_;refine sqF ?_;refine sqF ?_;refine dr ?_;refine rn0 (r2 rfl rfl) (.tup (.cons (.nild ?_) (.cons (.eqd ?_) .nil)));rotate_left 2;refine sq ?_ ?_<;>intro h9 h9p h9s<;>(try simp only[Q] at h9p);refine wc zlL (zeg hw ht) rfl rfl ?_;refine evd [] [] ?_;refine wc zsP (zex hcl) rfl rfl ?_;refine evd [] [] ?_;refine dr ?_;refine sq ?_ ?_<;>intro h10 h10p h10s<;>(try simp only[Q] at h10p);refine rn0 (r2 rfl rfl) (.tup (.cons (.nild ?_) (.cons (.eqd ?_) .nil)));rotate_left 2;exfalso;simp_all;refine sq ?_ ?_<;>intro h11 h11p h11s<;>(try simp only[Q] at h11p);refine si [0,1] [_,_] zaZ tz25 ?_;refine evd [] [] ?_;refine wc zdW (zfN) rfl rfl ?_;refine evd [] [] ?_;refine dr ?_;refine rn0 (r2 rfl rfl) (.tup (.cons (.eqd ?_) (.cons (.eqd ?_) .nil)));rotate_left 2;refine sq ?_ ?_<;>intro h12 h12p h12s<;>(try simp only[Q] at h12p);refine si [0] [_] zaZ tz25 ?_;refine evd [] [] ?_;refine wc zdW (zfO) rfl rfl ?_;refine evd [] [] ?_;refine sq ?_ ?_<;>intro h13 h13p h13s<;>(try simp only[Q] at h13p);refine Walk.call (cr:=[]) zlN (zez) rfl (.some rfl rfl h13) rfl rfl (LeL.refl _) trivial rfl rfl rfl ?_;refine evd [] [(82,true)] ?_ ⟨⟨_,rfl,h13⟩,trivial⟩;refine dr ?_;refine rn0 (r2 rfl rfl) (.tup (.cons (.eqd ?_) (.cons (.eqd ?_) .nil)));rotate_left 2;refine dr ?_;refine rn0 (r2 rfl rfl) (.tup (.cons (.eqd ?_) (.cons (.eqd ?_) .nil)));rotate_left 2;refine rn0 (r2 rfl rfl) (.tup (.cons (.nild ?_) (.cons (.eqd ?_) .nil)));rotate_left 2;all_goals (first|(refine congrArg D.bool (okI _ ?_);(try simp only[decide_eq_true_eq,Bool.false_eq_true,zar,xad,xac,true_iff,false_iff]);omega)|(rw[ty0 (by omega) (by omega) (by omega)];first|done|rfl)|(rw[ty5 (by omega)];first|done|rfl)|(rw[ty6 (by omega)];first|done|rfl)|(rw[ty4 (by omega) hmem];first|done|rfl))
theorem zt8 {t u:Vt}:t=u↔t.var=u.var/\t.ty.data=u.ty.data/\t.ty.index=u.ty.index:=by
 rcases t with ⟨a,b,c⟩;rcases u with ⟨d,e,f⟩;simp
def zse (l:List Vt) (v:Vt):Int:=idxF (fun x=>decide (v=x)) l 0
theorem zj0 {l:List Vt}{v:Vt} (h:l.length<=1000000000000):FnD Tryz.prog 350 [.d (zcP l),.agg [.d (.i v.var),.d (.i v.ty.data),.d (.i v.ty.index)]] [] (.d (.i (zse l v))) []:=by
 refine bd Tryz.f350 19 [16] [] fun w0 F0 own kept hk=>?_;refine bx 3003 ?_;refine evs [16] [] ?_;refine xak (ι:=List (Vt)×List (Vt)) hk (fun x=>[(8,.d (.i (x.1.length:Int)))]) [4,5,9,10,11,12,13,14,15,16,17,18] (fun x=>[]) (fun x=>x.1++x.2=l/\idxF (fun x=>decide (v=x)) x.2 x.1.length=idxF (fun x=>decide (v=x)) l 0) (fun x=>x.2.length) ([],l) ⟨by simp,rfl⟩ ⟨⟨_,rfl,xaq ?_⟩,trivial⟩ trivial (fun x=>rfl) (fun x hg1=>?_);focus (first|rfl|omega)
 obtain⟨pre,rest⟩:=x;dsimp only at hg1 ⊢;refine evc [16] [] ?_;refine sq ?_ ?_<;>intro h1 h1p h1s<;>(try simp only[Q] at h1p);rcases rest with _|⟨y,rest⟩
 ·exfalso;simp_all
 refine xaS zcZ .none rfl rfl rfl rfl (zaK hg1.1) rfl ?_;refine evd [16] [] ?_;refine Walk.eqV2 zxK .none rfl rfl rfl rfl rfl ?_;refine dr ?_;refine sq ?_ ?_<;>intro h2 h2p h2s<;>(try simp only[Q] at h2p);refine rq ?_;rotate_left;refine ar ?_;refine xah ((pre++[y],rest)) ⟨⟨(by have hz:=hg1.1;rw[<-hz];simp),(by rw[<-hg1.2];simp[idxF];simp_all[zt8])⟩,(by simp),sx ⟨⟨_,rfl,xaq ?_⟩,trivial⟩ trivial⟩;focus (first|rfl|(simp;done)|omega)
 have hrest:rest=[]:=by
  rcases rest with _|⟨a,b⟩
  ·rfl
  ·exfalso;have hz:=congrArg List.length (hg1.1);simp only[xaa,xab,xac] at hz;omega
 subst hrest;refine rq ?_;rotate_left;all_goals (unfold zse;rw[<-hg1.2];simp_all[idxF,zt8])
theorem zeY {l:List Vt}{v:Vt} (h:l.length<=1000000000000):FnD Tryz.prog 294 [.d (zcP l),.agg [.d (.i v.var),.d (.i v.ty.data),.d (.i v.ty.index)]] [] (.d (.bool (decide (v∈l)))) []:=by
 refine bd Tryz.f294 9 [] [] fun w0 F0 own kept hk=>?_;refine bx 3003 ?_;refine ev ?_;refine wc zw8 (zj0 h) rfl rfl ?_;refine ev ?_;refine rq ?_;rotate_left;all_goals (refine congrArg D.bool ?_;rw[show zse l v=idxF (fun x=>decide (v=x)) l 0 from rfl,zeE];simp[List.any_eq,eq_comm])
theorem zhX {xs:List Vt}{f:Nat}{caps:List AV}{hp:Hp}{p:Vt->Bool} (hs:xs.length<=1000000000000) (hcal:Callee Tryz.prog f)
  (hf:∀t∈xs,FnD Tryz.prog f ([.agg [.d (.i t.var),.d (.i t.ty.data),.d (.i t.ty.index)]]++caps) hp (.d (.bool (p t))) []) (k1:subH hp hp) (k2:zdH hp=true) (k3:zaV hp [] (.d .nilp) []=true):
  FnD Tryz.prog 388 [.d (zcP xs),.fn f caps] hp (.d (.i (idxF p xs 0))) []:=by
 refine bd Tryz.f388 19 [] [] fun w0 F0 own kept hk=>?_;refine xak (ι:=List (Vt)×List (Vt)) hk (fun x=>[(8,.d (.i (x.1.length:Int)))]) [4,5,9,10,11,12,13,14,15,16,17,18] (fun x=>[]) (fun x=>x.1++x.2=xs/\idxF p x.2 x.1.length=idxF p xs 0) (fun x=>x.2.length) ([],xs) ⟨by simp,rfl⟩ ⟨⟨_,rfl,xaq ?_⟩,trivial⟩ trivial (fun x=>zgl hp) (fun x hg1=>?_);focus (first|rfl|omega)
 obtain⟨pre,rest⟩:=x;dsimp only at hg1 ⊢;refine evc [] [] ?_;refine sq ?_ ?_<;>intro h1 h1p h1s<;>(try simp only[Q] at h1p);rcases rest with _|⟨y,rest⟩
 ·exfalso;simp_all
 refine xaS zcZ .none rfl rfl rfl rfl (zaK hg1.1) rfl ?_;refine ev ?_;refine xaH (cr:=[]) hcal (hf y (by rw[<-hg1.1];simp)) rfl .none rfl rfl rfl (LeL.refl _) k1 k2 (zcS k3 _) rfl ?_;refine tv ?_;refine sq ?_ ?_<;>intro h2 h2p h2s<;>(try simp only[Q] at h2p);focus (refine rn [] (r1 rfl) (.eqd ?_) ⟨rfl,rfl⟩ (fun _ _ h=>h) (fun _ h=>h);all_goals (rw[<-hg1.2];simp[idxF,h1s,h1p,h2s,h2p]))
 refine ar ?_;refine xah ((pre++[y],rest)) ⟨⟨(by have hz:=hg1.1;rw[<-hz];simp),(by rw[<-hg1.2];simp[idxF,h2s])⟩,(by simp),Sub.x (by kernel_rfl) (by kernel_rfl) ⟨⟨_,rfl,xaq ?_⟩,trivial⟩ (by simp) (by simp[zdu]) trivial⟩;focus (first|rfl|(simp;done)|omega)
 have hrest:rest=[]:=by
  rcases rest with _|⟨a,b⟩
  ·rfl
  ·exfalso;have hz:=congrArg List.length (hg1.1);simp only[xaa,xab,xac] at hz;omega
 subst hrest;focus (refine rn [] (r1 rfl) (.eqd ?_) ⟨rfl,rfl⟩ (fun _ _ h=>h) (fun _ h=>h);all_goals (rw[<-hg1.2];simp[idxF,h1s,h1p]))
theorem zgw {xs:List Vt}{f:Nat}{caps:List AV}{hp:Hp}{p:Vt->Bool} (hs:xs.length<=1000000000000) (hcal:Callee Tryz.prog f)
  (hf:∀t∈xs,FnD Tryz.prog f ([.agg [.d (.i t.var),.d (.i t.ty.data),.d (.i t.ty.index)]]++caps) hp (.d (.bool (p t))) []) (k1:subH hp hp) (k2:zdH hp=true) (k3:zaV hp [] (.d .nilp) []=true):
  FnD Tryz.prog 375 [.d (zcP xs),.fn f caps] hp (.d (.bool (xs.any p))) []:=by
 refine bd Tryz.f375 9 [] [] fun w0 F0 own kept hk=>?_;refine Walk.call (cr:=[]) zxe (zhX hs hcal hf k1 k2 k3) rfl .none rfl rfl (LeL.refl _) k1 k2 (zcS k3 _) rfl ?_;refine ev ?_;refine rn [] (r1 rfl) (.eqd ?_) ⟨rfl,rfl⟩ (fun _ _ h=>h) (fun _ h=>h);rotate_left;all_goals (exact congrArg D.bool (zeE p xs 0))
theorem zjG {b:List Vt}{v:Vt} (h:b.length<=1000000000000):FnD Tryz.prog 376 [.agg [.d (.i v.var),.d (.i v.ty.data),.d (.i v.ty.index)],.ref 3003 0] [(3003,some (.box [.d (zcP b)]))] (.d (.bool (!decide (v∈b)))) []:=by
 refine bd Tryz.f376 8 [] [] fun w0 F0 own kept hk=>?_;refine bx 3001 ?_;refine ev ?_;refine wc zsU (zeY h) rfl rfl ?_;refine ev ?_;refine rn [] (r1 rfl) (.eqd ?_) ⟨rfl,rfl⟩ (SubH.get ⟨rfl,trivial⟩) (fun _ h=>h);rotate_left;all_goals (rfl)
theorem zg0 {x y:List Vt} (hx:x.length<=1000000000000) (hy:y.length<=1000000000000):FnD Tryz.prog 349 [.d (zcP x),.d (zcP y)] [] (.d (.bool (zd4 x y))) []:=by
 refine bd Tryz.f349 16 [] [] fun w0 F0 own kept hk=>?_;refine bx 3003 ?_;refine ev ?_;refine sq ?_ ?_<;>intro h1 h1p h1s;refine xaJ (xs:=[_]) rfl (.some rfl rfl h1) rfl rfl ?_;refine Walk.call (cr:=[]) zxb (zgw (p:=fun v=> !decide (v∈y)) hx zxc (fun t _=>zjG hy) ⟨rfl,trivial⟩ rfl rfl) rfl (.some rfl rfl h1) rfl rfl (LeL.refl _) ⟨rfl,trivial⟩ rfl rfl rfl ?_;refine evs [] [(10,true)] ?_ ⟨⟨_,rfl,h1⟩,trivial⟩;refine rq ?_;rotate_left;refine rq ?_;rotate_left;all_goals (refine congrArg D.bool ?_;unfold zd4;first|(simp_all;done)|(simp_all;intro hz;omega))
def metA (s:List Int):List AV:=(List.range 6).map fun(i:Nat)=> .d (.bool (decide ((i:Int)∈s)))
theorem zp3 {s:List Int}{v:Int} (h0:0<=v) (h1:v<=5):(metA s)[v.toNat]?=some (.d (.bool (decide (v∈s)))):=by
 unfold metA;rw[List.getElem?_map,List.getElem?_range (by omega)];simp only[Option.map_some];rw[Int.toNat_of_nonneg h0]
theorem zp4 {s:List Int}{v:Int} (h0:0<=v) (h1:v<=5):putC (metA s) v.toNat [.d (.bool true)]=some (metA (s++[v])):=by
 have e:v=0\/v=1\/v=2\/v=3\/v=4\/v=5:=by omega
 rcases e with rfl|rfl|rfl|rfl|rfl|rfl<;>simp[metA,putC,List.range_succ]
theorem ztz (t:Ty) (p:Pat):(zaT t p).length<=1:=by unfold zaT;split<;>simp
theorem zov:∀ {a b:List Int},a.Nodup->(∀x∈a,x∈b)->a.length<=b.length
 | [],b,_,_=>by simp
 |x::r,b,hn,hs=>by
  have hn':=List.nodup_cons.1 hn;have hx:=hs x (by simp);have h:=zov (a:=r) (b:=b.erase x) hn'.2 (fun y hy=>by
   have hne:y≠x:=fun e=>hn'.1 (e ▸ hy);exact(List.mem_erase_of_ne hne).2 (hs y (by simp[hy])))
  rw[List.length_erase_of_mem hx] at h;have:=List.length_pos_of_mem hx;simp only[xab];omega
def InR (l:List Vt):Prop:=∀v∈l,0<=v.var/\v.var<=5
theorem ztB {l:List Vt} (h:InR l) (hn:zcD l=true):l.length<=6:=by
 unfold zcD at hn;have h1:=of_decide_eq_true hn;have h2:∀x∈l.map Vt.var,x∈[(0:Int),1,2,3,4,5]:=fun x hx=>by
  obtain⟨v,hv,rfl⟩:=List.mem_map.1 hx;have:=h v hv;simp only[List.mem_cons,List.not_mem_nil,or_false];omega
 have:=zov h1 h2;simpa using this
theorem zlm {g:Ty->Pat->Int->Option (List Vt)×Int}{or:Bool} (hg:∀t p c l,(g t p c).1=some l->InR l):∀(a:List Ty) (b:List Pat) (i:Nat) (acc:List Vt) (c:Int) (l:List Vt),InR acc->(zbo g or a b i acc c).1=some l->InR l
 | [],b,i,acc,c,l,ha,h=>by simp only[zbo,Option.some.injEq] at h;subst h;exact ha
 |_::_,[],i,acc,c,l,ha,h=>by simp only[zbo,Option.some.injEq] at h;subst h;exact ha
 |x::r,y::s,i,acc,c,l,ha,h=>by
  simp only[zbo] at h;cases hh:(g x y c).1 with
  |none=>rw[hh] at h;cases h
  |some m=>
   rw[hh] at h;simp only at h;split at h
   ·split at h
    ·exact zlm hg r s (i+1) acc _ l ha h
    ·cases h
   ·refine zlm hg r s (i+1) _ _ l (fun v hv=>?_) h;rcases List.mem_append.1 hv with hv|hv
    ·exact ha v hv
    ·exact hg x y c m hh v hv
theorem zqr (w:List Data):∀(n:Nat) (t:Ty) (p:Pat) (c:Int) (l:List Vt),(zaO w n t p c).1=some l->InR l/\zcD l=true
 |0,t,p,c,l,h=>by simp[zaO] at h
 |n+1,t,p,c,l,h=>by
  unfold zaO at h;split at h
  ·cases h
  ·split at h
   ·rename_i h60 ho;have ho':ownP w t p=true:=by unfold okP at ho;simp only[xad] at ho;exact ho.1
    cases hk:(zbo (zaO w n) (decide (p.op=5)) (zag w t p) p.kids 0 (zaT t p) (c+1)).1 with
    |none=>unfold finV at h;rw[hk] at h;simp only at h;rw[hk] at h;cases h
    |some m=>
     have hi:InR m:=zlm (fun t p c l h=>(zqr w n t p c l h).1) _ _ _ _ _ m (fun v hv=>by
      unfold zaT at hv;split at hv
      ·rename_i hop;simp only[List.mem_cons,List.not_mem_nil,or_false] at hv;subst hv;exact zqc ho' hop
      ·simp at hv) hk
     unfold finV at h;rw[hk] at h;simp only at h;split at h
     ·rename_i hn;rw[hk] at h;cases h
      exact⟨hi,hn⟩
     ·cases h
   ·cases h
theorem zuN (w:List Data) (n:Nat) (t:Ty) (p:Pat) (c:Int) (h:(zaO w n t p c).1.isSome=true):c+1<=(zaO w n t p c).2/\(zaO w n t p c).2<=60:=by
 have h1:=zfE w n t p c;by_cases hw:zbV w n t p c=true
 ·have h2:=h1.2 hw;simp only[zbV,xad,decide_eq_true_eq] at hw;have:=Pat.size_eq p;omega
 ·rw[if_neg hw] at h1;rw[h1.1] at h;cases h
def zdq (o:Option (List Vt)):List Vt:=o.getD []
theorem zso {g:Ty->Pat->Int->Option (List Vt)×Int}{or:Bool}{a:List Ty}{b:List Pat}{i:Nat}{acc:List Vt}{c:Int} (ha:i<a.length) (hl:b.length=a.length) (h:(g (nth a i) (nth b i) c).1.isSome=false):
  zbo g or (a.drop i) (b.drop i) i acc c=(none,(g (nth a i) (nth b i) c).2):=by
 rw[zaS ha,zaS (l:=b) (by omega),zbo];cases hh:(g (nth a i) (nth b i) c).1 with
 |none=>rfl
 |some l=>rw[hh] at h;cases h
theorem ztQ {g:Ty->Pat->Int->Option (List Vt)×Int}{or:Bool}{a:List Ty}{b:List Pat}{i:Nat}{acc:List Vt}{c:Int} (ha:i<a.length) (hl:b.length=a.length) (h:(g (nth a i) (nth b i) c).1.isSome=true) (ho:or=true/\i=1) (hs:zd4 acc (zdq (g (nth a i) (nth b i) c).1)=false):
  zbo g or (a.drop i) (b.drop i) i acc c=(none,(g (nth a i) (nth b i) c).2):=by
 rw[zaS ha,zaS (l:=b) (by omega),zbo];cases hh:(g (nth a i) (nth b i) c).1 with
 |none=>rfl
 |some l=>rw[hh] at hs;simp only[zdq,Option.getD_some] at hs;simp only[if_pos ho,hs,Bool.false_eq_true,if_false]
theorem zsn {g:Ty->Pat->Int->Option (List Vt)×Int}{or:Bool}{a:List Ty}{b:List Pat}{i:Nat}{acc:List Vt}{c:Int} (ha:i<a.length) (hl:b.length=a.length) (h:(g (nth a i) (nth b i) c).1.isSome=true) (hs:(or=true/\i=1)->zd4 acc (zdq (g (nth a i) (nth b i) c).1)=true):
  zbo g or (a.drop i) (b.drop i) i acc c=zbo g or (a.drop (i+1)) (b.drop (i+1)) (i+1) (if or=true/\i=1 then acc else acc++zdq (g (nth a i) (nth b i) c).1) (g (nth a i) (nth b i) c).2:=by
 rw[zaS ha,zaS (l:=b) (by omega),zbo];cases hh:(g (nth a i) (nth b i) c).1 with
 |none=>rw[hh] at h;cases h
 |some l=>
  by_cases ho:or=true/\i=1
  ·have:=hs ho;rw[hh] at this;simp only[zdq,Option.getD_some] at this;simp only[if_pos ho,this,if_true]
  ·simp only[if_neg ho,zdq,Option.getD_some]
theorem ztR {g:Ty->Pat->Int->Option (List Vt)×Int}{or:Bool}{a:List Ty}{b:List Pat}{i:Nat}{acc:List Vt}{c:Int} (ha:a.length<=i):zbo g or (a.drop i) (b.drop i) i acc c=(some acc,c):=by
 rw[List.drop_eq_nil_of_le ha,zbo];intro a r b s h;cases h
theorem zfF (w:List Data) (n:Nat) (t:Ty) (p:Pat) (c:Int):InR (zdq (zaO w n t p c).1)/\(zdq (zaO w n t p c).1).length<=6:=by
 cases h:(zaO w n t p c).1 with
 |none=>exact⟨fun v hv=>by simp[zdq] at hv,by simp[zdq]⟩
 |some l=>
  have:=zqr w n t p c l h;exact⟨this.1,ztB this.1 this.2⟩
structure GoodS (w:List Data) (n:Nat) (t:Ty) (p:Pat) (c:Int) (x:Nat×List Vt×Int):Prop where
 le:x.1<=p.kids.length
 eq:zbo (zaO w n) (decide (p.op=5)) ((zag w t p).drop x.1) (p.kids.drop x.1) x.1 x.2.1 x.2.2=zbo (zaO w n) (decide (p.op=5)) (zag w t p) p.kids 0 (zaT t p) (c+1)
 lc:(x.1:Int)<=x.2.2
 c0:0<=x.2.2
 c1:x.2.2<=60
 len:x.2.1.length<=1+6*x.1
 inr:InR x.2.1
def zcr (w:List Data) (n:Nat) (t:Ty) (p:Pat) (x:Nat×List Vt×Int):Nat×List Vt×Int:=
 (x.1+1,if decide (p.op=5)=true/\x.1=1 then x.2.1 else x.2.1++zdq (zaO w n (nth (zag w t p) x.1) (nth p.kids x.1) x.2.2).1,(zaO w n (nth (zag w t p) x.1) (nth p.kids x.1) x.2.2).2)
theorem GoodS.next {w:List Data}{n:Nat}{t:Ty}{p:Pat}{c:Int}{x:Nat×List Vt×Int} (hl:p.kids.length=(zag w t p).length) (hg:GoodS w n t p c x) (hlt:x.1<p.kids.length)
  (hz:(zaO w n (nth (zag w t p) x.1) (nth p.kids x.1) x.2.2).1.isSome=true) (hs:(decide (p.op=5)=true/\x.1=1)->zd4 x.2.1 (zdq (zaO w n (nth (zag w t p) x.1) (nth p.kids x.1) x.2.2).1)=true):
  GoodS w n t p c (zcr w n t p x):=by
 obtain⟨h1,h2,h3,h4,h5,h6,h7⟩:=hg;have hb:=zuN w n _ _ _ hz;have ho:=zfF w n (nth (zag w t p) x.1) (nth p.kids x.1) x.2.2;refine⟨by unfold zcr;dsimp only;omega, ?_,by unfold zcr;dsimp only;omega,by unfold zcr;dsimp only;omega,by unfold zcr;dsimp only;omega, ?_, ?_⟩
 ·rw[<-h2,zsn (by omega) hl hz hs];rfl
 ·unfold zcr;dsimp only;split
  ·omega
  ·rw[xaa];omega
 ·unfold zcr;dsimp only;split
  ·exact h7
  ·intro v hv;rcases List.mem_append.1 hv with hv|hv
   ·exact h7 v hv
   ·exact ho.1 v hv
theorem GoodS.none {w:List Data}{n:Nat}{t:Ty}{p:Pat}{c:Int}{x:Nat×List Vt×Int} (hl:p.kids.length=(zag w t p).length) (hg:GoodS w n t p c x) (hlt:x.1<p.kids.length)
  (hz:(zaO w n (nth (zag w t p) x.1) (nth p.kids x.1) x.2.2).1.isSome=false):
  finV (zbo (zaO w n) (decide (p.op=5)) (zag w t p) p.kids 0 (zaT t p) (c+1))=(none,(zaO w n (nth (zag w t p) x.1) (nth p.kids x.1) x.2.2).2):=by
 rw[<-hg.eq,zso (by omega) hl hz];rfl
theorem GoodS.bad {w:List Data}{n:Nat}{t:Ty}{p:Pat}{c:Int}{x:Nat×List Vt×Int} (hl:p.kids.length=(zag w t p).length) (hg:GoodS w n t p c x) (hlt:x.1<p.kids.length)
  (hz:(zaO w n (nth (zag w t p) x.1) (nth p.kids x.1) x.2.2).1.isSome=true) (ho:p.op=5/\x.1=1) (hs:zd4 x.2.1 (zdq (zaO w n (nth (zag w t p) x.1) (nth p.kids x.1) x.2.2).1)=false):
  finV (zbo (zaO w n) (decide (p.op=5)) (zag w t p) p.kids 0 (zaT t p) (c+1))=(Option.none,(zaO w n (nth (zag w t p) x.1) (nth p.kids x.1) x.2.2).2):=by
 rw[<-hg.eq,ztQ (by omega) hl hz (by simpa using ho) hs];rfl
theorem GoodS.fin {w:List Data}{n:Nat}{t:Ty}{p:Pat}{c:Int}{x:Nat×List Vt×Int} (hl:p.kids.length=(zag w t p).length) (hg:GoodS w n t p c x) (hge:p.kids.length<=x.1):
  finV (zbo (zaO w n) (decide (p.op=5)) (zag w t p) p.kids 0 (zaT t p) (c+1))=(if zcD x.2.1=true then some x.2.1 else Option.none,x.2.2):=by
 rw[<-hg.eq,ztR (by omega)];unfold finV;simp only;split<;>rfl
theorem ztA {pre rest l:List Vt}{y:Vt} (h:pre++y::rest=l) (hm:y.var∈pre.map Vt.var):zcD l=false:=by
 unfold zcD;refine decide_eq_false (fun hn=>?_);rw[<-h,xaf,xae,List.nodup_append] at hn;exact hn.2.2 _ hm _ (by simp) rfl
theorem zmE {pre:List Vt}{y:Vt} (h:(pre.map Vt.var).Nodup) (hm:y.var∉pre.map Vt.var):((pre++[y]).map Vt.var).Nodup:=by
 rw[xaf,List.nodup_append];exact⟨h,by simp,fun a ha b hb=>by simp at hb;subst hb;exact fun e=>hm (e ▸ ha)⟩
def retV (r:Option (List Vt)×Int):AV:= .tup [.d (zcP (zdq r.1)),.d (.bool r.1.isSome)]
theorem zdQ {w:List Data} (hw:WT w):∀(n:Nat){a k d c:Int}{p:Pat},d+n=11->n<=10->TyIn w.length ⟨a,k⟩->p.ok->0<=c->c<=1000000000000->
  FnD Tryz.prog 293 [.d (zam w),.agg [.d (.i a),.d (.i k)],.agg [.d (.i p.op),.d (.i p.ctor),.d (.i p.n),.d (.i p.m),.d (.i p.var),.d (zad p.kids)],.d (.i d),.ref 950 0] [(950,some (.box [.d (.i c)]))]
   (retV (zaO w n ⟨a,k⟩ p c)) [(950,some (.box [.d (.i (zaO w n ⟨a,k⟩ p c).2)]))]
 |0,a,k,d,c,p,hd,_,_,_,c0,c1=>by
  refine bd Tryz.f293 114 [] [2] fun w0 F0 own kept hk=>?_;refine bx 3006 ?_;refine bx 3007 ?_;refine ev ?_;refine ar ?_;refine so ty3 ?_;refine tv ?_;refine xal ?_;refine xaA 8 [(34,.d (.bool (true)))] [27,28,29,30,31,32,33] ?_ ?_;refine ev ?_;refine sq ?_ ?_<;>intro h1 h1p h1s;exact jnb rfl;exact jnb rfl;refine xaz ?_;refine tv ?_;refine sq ?_ ?_<;>intro h2 h2p h2s;refine rn [(950,some (.box [.d (.i (zaO w 0 ⟨a,k⟩ p c).2)]))] (r2 rfl rfl) (.tup (.cons (.nild ?_) (.cons (.eqd ?_) .nil))) ⟨rfl,rfl⟩ (SubO.get ⟨.inr ?_,⟨.inl rfl,trivial⟩⟩) (zaC rfl);rotate_left 3;exact absurd h2 (by simp);all_goals (first|((rfl);done)|(rfl))
 |n+1,a,k,d,c,p,hd,hn,ht,hok,c0,c1=>by
  by_cases h60:60<c+1
  ·have e:zaO w (n+1) ⟨a,k⟩ p c=(none,c+1):=by unfold zaO;rw[if_pos h60]
   rw[e];refine bd Tryz.f293 114 [] [2] fun w0 F0 own kept hk=>?_;refine bx 3006 ?_;refine bx 3007 ?_;refine ev ?_;refine ar ?_;refine so ty3 ?_;refine tv ?_;refine xal ?_;refine xaA 8 [(34,.d (.bool (true)))] [27,28,29,30,31,32,33] ?_ ?_;refine ev ?_;refine sq ?_ ?_<;>intro h1 h1p h1s;exact jnb rfl;exact jnb rfl;refine xaz ?_;refine tv ?_;refine sq ?_ ?_<;>intro h2 h2p h2s;refine rn [(950,some (.box [.d (.i (c+1))]))] (r2 rfl rfl) (.tup (.cons (.nild ?_) (.cons (.eqd ?_) .nil))) ⟨rfl,rfl⟩ (SubO.get ⟨.inr ?_,⟨.inl rfl,trivial⟩⟩) (zaC rfl);rotate_left 3;exact absurd h2 (by simp);all_goals (first|((rfl);done)|(rfl))
  have hsh:=zi4 hw (p:=p) ht;by_cases hop:okP w ⟨a,k⟩ p=true
  ·have hok':=hok;rw[Pat.ok_iff] at hok;have hop':=hop;unfold okP at hop';simp only[xad,decide_eq_true_eq] at hop';obtain⟨ho,hl⟩:=hop';have hin:=zf8 hw ht ho;have hlen:=zgD hw ht (zcc ho);have hst:zcE w ⟨a,k⟩ p=zag w ⟨a,k⟩ p:=by unfold zcE;rw[if_neg (fun h=>h.2 (zcc ho h.1))]
   rw[hst,hop] at hsh;have e:zaO w (n+1) ⟨a,k⟩ p c=finV (zbo (zaO w n) (decide (p.op=5)) (zag w ⟨a,k⟩ p) p.kids 0 (zaT ⟨a,k⟩ p) (c+1)):=by
    conv=>lhs;unfold zaO
    rw[if_neg h60,if_pos hop]
   have hnr:InR (zaT ⟨a,k⟩ p):=fun v hv=>by
    unfold zaT at hv;split at hv
    ·rename_i hop;simp only[List.mem_cons,List.not_mem_nil,or_false] at hv;subst hv;exact zqc ho hop
    ·simp at hv
   have hnl:=ztz ⟨a,k⟩ p;rw[e];refine bd Tryz.f293 114 [14,108] [2,8,17] fun w0 F0 own kept hk=>?_;refine bx 3006 ?_;refine bx 3007 ?_;refine evs [14,108] [] ?_;refine ar ?_;refine so ty3 ?_;refine tv ?_;refine xal ?_;refine xaA 8 [(34,.d (.bool (false)))] [27,28,29,30,31,32,33] ?_ ?_;refine evs [14,108] [] ?_;refine sq ?_ ?_<;>intro h1 h1p h1s;exact jnb rfl;exact jnb rfl;refine xaz ?_;refine tv ?_;refine sq ?_ ?_<;>intro h2 h2p h2s;exact absurd h2 (by simp);refine wc zpn (hsh) rfl rfl ?_;refine evs [14,108] [] ?_;refine sq ?_ ?_<;>intro h3 h3p h3s;exact absurd h3 (by simp);refine xaD 5 3 .none rfl rfl ?_;refine tv ?_;refine xal ?_;refine xaA 8 [(51,.d (.bool (decide (p.op=2\/p.op=6))))] [44,45,46,47,48,49,50] ?_ ?_;refine evs [14,108] [] ?_;refine sq ?_ ?_<;>intro h4 h4p h4s;exact jnb rfl;exact jnb rfl;refine xaz ?_;refine tv ?_;refine sq ?_ ?_<;>intro h5 h5p h5s;refine bu [0,1] [_,_] zsr ?_;refine si [0] [_] zcZ zpc ?_;refine ap zcZ zpe rfl rfl rfl (by simp) (by(simp;done)) ?_;refine asg ?_;refine tv ?_;refine xak (ι:=Nat×List Vt×Int) hk (fun z=>[(62,.d (.i (z.1:Int))),(14,.gl 5 (z.2.1.map Vt.c))]) [10,11,15,16,17,18,63,64,65,66,67,68,69,70,71,72,73,74,75,76,77,78,79,80,81,82,83,84,85,86,87,88,89,90,91,92,93,94,95,96,97,98] (fun z=>[(950,some (.box [.d (.i z.2.2)])),(5,some (.tok ((z.2.1.map Vt.c)).length 3))]) (fun z=>GoodS w n ⟨a,k⟩ p c z) (fun z=>p.kids.length-z.1) (0,zaT ⟨a,k⟩ p,c+1) ⟨by simp,by simp,by dsimp only;omega,by dsimp only;omega,by dsimp only;omega,by dsimp only;omega,hnr⟩ ⟨⟨_,rfl,xaq ?_⟩,⟨⟨_,rfl,LeA.glg ?_⟩,trivial⟩⟩ ⟨?_,⟨zab ?_,trivial⟩⟩ (fun x=>rfl) (fun z hg1=>?_);iterate 2 focus (first|rfl|(simp_all[zaT];done))
   focus (first|rfl|(simp[getH];done))
   focus (first|rfl|(simp_all[zaT];done))
   obtain⟨s1,_,s3,s4,s5,s6,s7⟩:=id hg1;refine evc [14,108] [2,8,17] ?_;refine sq ?_ ?_<;>intro h6 h6p h6s<;>(try simp only[Q,Pat.cs_len] at h6p);refine xaS sl34 .none rfl rfl rfl rfl (zaH (by omega)) rfl ?_;refine evs [14,108] [] ?_;refine ab 3016 tz36 ?_;refine evs [14,108] [] ?_;refine so ty36 ?_;refine tv ?_;refine xaS zaZ .none rfl rfl rfl rfl (zap (by omega)) rfl ?_;refine evd [14,108] [] ?_;refine ar ?_;refine wd zpr (zdQ hw n (a:=(nth (zag w ⟨a,k⟩ p) z.1).data) (k:=(nth (zag w ⟨a,k⟩ p) z.1).index) (c:=z.2.2) (p:=nth p.kids z.1) (by omega) (by omega) (hin _ (zac (by omega))) (Pats.ok_mem hok.2 _ (zac (by omega))) (by omega) (by omega)) rfl rfl ⟨rfl,trivial⟩ ?_;refine evd [14,108] [] ?_;refine dr ?_;refine sq ?_ ?_<;>intro h7 h7p h7s;refine rn [(950,some (.box [.d (.i (finV (zbo (zaO w n) (decide (p.op=5)) (zag w ⟨a,k⟩ p) p.kids 0 (zaT ⟨a,k⟩ p) (c+1))).2)]))] (r2 rfl rfl) (.tup (.cons (.nild ?_) (.cons (.eqd ?_) .nil))) ⟨rfl,rfl⟩ (SubO.get ⟨.inr ?_,⟨.inl rfl,trivial⟩⟩) (zaC rfl);rotate_left 3;refine xal ?_;refine xaA 7 [(93,.d (.bool (decide (p.op=5/\z.1=1))))] [87,88,89,90,91,92] ?_ ?_;refine evs [14,108] [] ?_;refine sq ?_ ?_<;>intro h8 h8p h8s;exact jnb rfl;exact jnb rfl;refine xaz ?_;refine evs [14,108] [] ?_;refine sq ?_ ?_<;>intro h9 h9p h9s<;>(try simp only[Q,Pat.cs_len] at h9p);refine Walk.call (cr:=[]) zs1 (zg0 (by omega) (by have hz:=(zfF w n ⟨(nth (zag w ⟨a,k⟩ p) z.1).data,(nth (zag w ⟨a,k⟩ p) z.1).index⟩ (nth p.kids z.1) z.2.2).2;omega)) rfl .none rfl rfl (.cons (.gl _ _) (.cons (.refl _) .nil)) trivial rfl rfl rfl ?_;refine evs [14,108] [] ?_;refine sq ?_ ?_<;>intro h10 h10p h10s<;>(try simp only[Q,Pat.cs_len] at h10p);refine rn [(950,some (.box [.d (.i (finV (zbo (zaO w n) (decide (p.op=5)) (zag w ⟨a,k⟩ p) p.kids 0 (zaT ⟨a,k⟩ p) (c+1))).2)]))] (r2 rfl rfl) (.tup (.cons (.nild ?_) (.cons (.eqd ?_) .nil))) ⟨rfl,rfl⟩ (SubO.get ⟨.inr ?_,⟨.inl rfl,trivial⟩⟩) (zaC rfl);rotate_left 3;refine ar ?_;refine xah ((zcr w n ⟨a,k⟩ p z)) ⟨(hg1.next hl (by omega) (by simp_all) (fun ho=>by simp_all)),(by unfold zcr;dsimp only;omega),sx ⟨⟨_,rfl,xaq ?_⟩,⟨⟨_,rfl,LeA.glg ?_⟩,trivial⟩⟩ ⟨?_,⟨zab ?_,trivial⟩⟩⟩;iterate 2 focus (first|rfl|(simp_all[zaT];done))
   focus (first|rfl|(simp[getH];done))
   focus (first|rfl|(simp_all[zaT];done))
   refine ap zcZ zpe rfl rfl rfl (by simp) (by first|(simp;done)|(have hz:=(zfF w n ⟨(nth (zag w ⟨a,k⟩ p) z.1).data,(nth (zag w ⟨a,k⟩ p) z.1).index⟩ (nth p.kids z.1) z.2.2).2;simp;omega)) ?_;refine asg ?_;refine tv ?_;refine ar ?_;refine xah ((zcr w n ⟨a,k⟩ p z)) ⟨(hg1.next hl (by omega) (by simp_all) (fun ho=>by simp_all)),(by unfold zcr;dsimp only;omega),sx ⟨⟨_,rfl,xaq ?_⟩,⟨⟨_,rfl,LeA.glg ?_⟩,trivial⟩⟩ ⟨?_,⟨zab ?_,trivial⟩⟩⟩;iterate 2 focus (first|rfl|(simp_all[zaT];done)|(unfold zcr;dsimp only;rw[if_neg (by simp_all)];simp;done))
   focus (first|rfl|(simp[getH];done))
   focus (first|rfl|(simp_all[zaT];done)|(unfold zcr;dsimp only;rw[if_neg (by simp_all)];simp;done))
   refine ab 3019 zvt ?_;refine tv ?_;refine xak (ι:=List (Vt)×List (Vt)) hk (fun x=>[(101,.d (.i (x.1.length:Int)))]) [10,11,21,102,103,104,105,106,107,108,109,110,111,112] (fun x=>[(3019,some (.box (metA (x.1.map Vt.var))))]) (fun x=>x.1++x.2=z.2.1/\(x.1.map Vt.var).Nodup) (fun x=>x.2.length) ([],z.2.1) ⟨by simp,by simp⟩ ⟨⟨_,rfl,xaq ?_⟩,trivial⟩ ⟨?_,trivial⟩ (fun x=>rfl) (fun x hg2=>?_);focus (first|rfl|omega)
   focus (first|rfl|(simp[getH];done))
   obtain⟨pre,rest⟩:=x;dsimp only at hg2 ⊢;refine evc [14,108] [2,8,17] ?_;refine sq ?_ ?_<;>intro h11 h11p h11s<;>(try simp only[Q,Pat.cs_len] at h11p);rcases rest with _|⟨y,rest⟩
   ·exfalso;simp_all
   have hy:=s7 y (by rw[<-hg2.1];simp);refine xaV zcZ .none rfl rfl rfl rfl (zaK hg2.1) rfl ?_;refine evs [14,108] [] ?_;refine ab 3021 zpc ?_;refine so zvs ?_;refine tv ?_;refine xaT (i:=y.var.toNat) zo3 .none rfl rfl rfl (Int.toNat_of_nonneg hy.1).symm (by omega) ?_;refine xa0 ty4 .none rfl rfl rfl ((by simpa using zp3 hy.1 hy.2)) ?_;refine tv ?_;refine sq ?_ ?_<;>intro h12 h12p h12s<;>(try simp only[Q,Pat.cs_len] at h12p);refine rn [(950,some (.box [.d (.i (finV (zbo (zaO w n) (decide (p.op=5)) (zag w ⟨a,k⟩ p) p.kids 0 (zaT ⟨a,k⟩ p) (c+1))).2)]))] (r2 rfl rfl) (.tup (.cons (.nild ?_) (.cons (.eqd ?_) .nil))) ⟨rfl,rfl⟩ (SubO.get ⟨.inr ?_,⟨.inl rfl,trivial⟩⟩) (zaC rfl);rotate_left 3;refine xaT (i:=y.var.toNat) zo3 .none rfl rfl rfl (Int.toNat_of_nonneg hy.1).symm (by omega) ?_;refine Walk.store ty4 .none rfl rfl rfl rfl rfl rfl (by simp) ((by simpa using zp4 hy.1 hy.2)) ?_;refine tv ?_;refine ar ?_;refine xah ((pre++[y],rest)) ⟨⟨(by have hz:=hg2.1;rw[<-hz];simp),(zmE hg2.2 (by simp_all))⟩,(by simp),sx ⟨⟨_,rfl,xaq ?_⟩,trivial⟩ ⟨?_,trivial⟩⟩;focus (first|rfl|(simp;done)|omega)
   focus (first|rfl|(simp[getH];done))
   have hrest:rest=[]:=by
    rcases rest with _|⟨a,b⟩
    ·rfl
    ·exfalso;have hz:=congrArg List.length (hg2.1);simp only[xaa,xab,xac] at hz;omega
   subst hrest;refine rn [(950,some (.box [.d (.i (finV (zbo (zaO w n) (decide (p.op=5)) (zag w ⟨a,k⟩ p) p.kids 0 (zaT ⟨a,k⟩ p) (c+1))).2)]))] (r2 rfl rfl) (.tup (.cons (.gld ?_) (.cons (.eqd ?_) .nil))) ⟨rfl,rfl⟩ (SubO.get ⟨.inr ?_,⟨.inl rfl,trivial⟩⟩) (zaC rfl);rotate_left 3;try simp only[Q,Pat.cs_len] at h5p
   refine xak (ι:=Nat×List Vt×Int) hk (fun z=>[(62,.d (.i (z.1:Int))),(14,.gl 5 (z.2.1.map Vt.c))]) [10,11,15,16,17,18,63,64,65,66,67,68,69,70,71,72,73,74,75,76,77,78,79,80,81,82,83,84,85,86,87,88,89,90,91,92,93,94,95,96,97,98] (fun z=>[(950,some (.box [.d (.i z.2.2)])),(5,some (.tok ((z.2.1.map Vt.c)).length 3))]) (fun z=>GoodS w n ⟨a,k⟩ p c z) (fun z=>p.kids.length-z.1) (0,zaT ⟨a,k⟩ p,c+1) ⟨by simp,by simp,by dsimp only;omega,by dsimp only;omega,by dsimp only;omega,by dsimp only;omega,hnr⟩ ⟨⟨_,rfl,xaq ?_⟩,⟨⟨_,rfl,LeA.glg ?_⟩,trivial⟩⟩ ⟨?_,⟨zab ?_,trivial⟩⟩ (fun x=>rfl) (fun z hg1=>?_);iterate 2 focus (first|rfl|(simp_all[zaT];done))
   focus (first|rfl|(simp[getH];done))
   focus (first|rfl|(simp_all[zaT];done))
   obtain⟨s1,_,s3,s4,s5,s6,s7⟩:=id hg1;refine evc [14,108] [2,8,17] ?_;refine sq ?_ ?_<;>intro h13 h13p h13s<;>(try simp only[Q,Pat.cs_len] at h13p);refine xaS sl34 .none rfl rfl rfl rfl (zaH (by omega)) rfl ?_;refine evs [14,108] [] ?_;refine ab 3016 tz36 ?_;refine evs [14,108] [] ?_;refine so ty36 ?_;refine tv ?_;refine xaS zaZ .none rfl rfl rfl rfl (zap (by omega)) rfl ?_;refine evd [14,108] [] ?_;refine ar ?_;refine wd zpr (zdQ hw n (a:=(nth (zag w ⟨a,k⟩ p) z.1).data) (k:=(nth (zag w ⟨a,k⟩ p) z.1).index) (c:=z.2.2) (p:=nth p.kids z.1) (by omega) (by omega) (hin _ (zac (by omega))) (Pats.ok_mem hok.2 _ (zac (by omega))) (by omega) (by omega)) rfl rfl ⟨rfl,trivial⟩ ?_;refine evd [14,108] [] ?_;refine dr ?_;refine sq ?_ ?_<;>intro h14 h14p h14s<;>(try simp only[Q,Pat.cs_len] at h14p);refine rn [(950,some (.box [.d (.i (finV (zbo (zaO w n) (decide (p.op=5)) (zag w ⟨a,k⟩ p) p.kids 0 (zaT ⟨a,k⟩ p) (c+1))).2)]))] (r2 rfl rfl) (.tup (.cons (.nild ?_) (.cons (.eqd ?_) .nil))) ⟨rfl,rfl⟩ (SubO.get ⟨.inr ?_,⟨.inl rfl,trivial⟩⟩) (zaC rfl);rotate_left 3;refine xal ?_;refine xaA 7 [(93,.d (.bool (decide (p.op=5/\z.1=1))))] [87,88,89,90,91,92] ?_ ?_;refine evs [14,108] [] ?_;refine sq ?_ ?_<;>intro h15 h15p h15s<;>(try simp only[Q,Pat.cs_len] at h15p);exact jnb rfl;exact jnb rfl;refine xaz ?_;refine evs [14,108] [] ?_;refine sq ?_ ?_<;>intro h16 h16p h16s<;>(try simp only[Q,Pat.cs_len] at h16p);refine Walk.call (cr:=[]) zs1 (zg0 (by omega) (by have hz:=(zfF w n ⟨(nth (zag w ⟨a,k⟩ p) z.1).data,(nth (zag w ⟨a,k⟩ p) z.1).index⟩ (nth p.kids z.1) z.2.2).2;omega)) rfl .none rfl rfl (.cons (.gl _ _) (.cons (.refl _) .nil)) trivial rfl rfl rfl ?_;refine evs [14,108] [] ?_;refine sq ?_ ?_<;>intro h17 h17p h17s<;>(try simp only[Q,Pat.cs_len] at h17p);refine rn [(950,some (.box [.d (.i (finV (zbo (zaO w n) (decide (p.op=5)) (zag w ⟨a,k⟩ p) p.kids 0 (zaT ⟨a,k⟩ p) (c+1))).2)]))] (r2 rfl rfl) (.tup (.cons (.nild ?_) (.cons (.eqd ?_) .nil))) ⟨rfl,rfl⟩ (SubO.get ⟨.inr ?_,⟨.inl rfl,trivial⟩⟩) (zaC rfl);rotate_left 3;refine ar ?_;refine xah ((zcr w n ⟨a,k⟩ p z)) ⟨(hg1.next hl (by omega) (by simp_all) (fun ho=>by simp_all)),(by unfold zcr;dsimp only;omega),sx ⟨⟨_,rfl,xaq ?_⟩,⟨⟨_,rfl,LeA.glg ?_⟩,trivial⟩⟩ ⟨?_,⟨zab ?_,trivial⟩⟩⟩;iterate 2 focus (first|rfl|(simp_all[zaT];done)|(unfold zcr;dsimp only;rw[if_pos (by simp_all)];done))
   focus (first|rfl|(simp[getH];done))
   focus (first|rfl|(simp_all[zaT];done)|(unfold zcr;dsimp only;rw[if_pos (by simp_all)];done))
   refine ap zcZ zpe rfl rfl rfl (by simp) (by first|(simp;done)|(have hz:=(zfF w n ⟨(nth (zag w ⟨a,k⟩ p) z.1).data,(nth (zag w ⟨a,k⟩ p) z.1).index⟩ (nth p.kids z.1) z.2.2).2;simp;omega)) ?_;refine asg ?_;refine tv ?_;refine ar ?_;refine xah ((zcr w n ⟨a,k⟩ p z)) ⟨(hg1.next hl (by omega) (by simp_all) (fun ho=>by simp_all)),(by unfold zcr;dsimp only;omega),sx ⟨⟨_,rfl,xaq ?_⟩,⟨⟨_,rfl,LeA.glg ?_⟩,trivial⟩⟩ ⟨?_,⟨zab ?_,trivial⟩⟩⟩;iterate 2 focus (first|rfl|(simp_all[zaT];done)|(unfold zcr;dsimp only;rw[if_neg (by simp_all)];simp;done))
   focus (first|rfl|(simp[getH];done))
   focus (first|rfl|(simp_all[zaT];done)|(unfold zcr;dsimp only;rw[if_neg (by simp_all)];simp;done))
   refine ab 3019 zvt ?_;refine tv ?_;refine xak (ι:=List (Vt)×List (Vt)) hk (fun x=>[(101,.d (.i (x.1.length:Int)))]) [10,11,21,102,103,104,105,106,107,108,109,110,111,112] (fun x=>[(3019,some (.box (metA (x.1.map Vt.var))))]) (fun x=>x.1++x.2=z.2.1/\(x.1.map Vt.var).Nodup) (fun x=>x.2.length) ([],z.2.1) ⟨by simp,by simp⟩ ⟨⟨_,rfl,xaq ?_⟩,trivial⟩ ⟨?_,trivial⟩ (fun x=>rfl) (fun x hg2=>?_);focus (first|rfl|omega)
   focus (first|rfl|(simp[getH];done))
   obtain⟨pre,rest⟩:=x;dsimp only at hg2 ⊢;refine evc [14,108] [2,8,17] ?_;refine sq ?_ ?_<;>intro h18 h18p h18s<;>(try simp only[Q,Pat.cs_len] at h18p);rcases rest with _|⟨y,rest⟩
   ·exfalso;simp_all
   have hy:=s7 y (by rw[<-hg2.1];simp);refine xaV zcZ .none rfl rfl rfl rfl (zaK hg2.1) rfl ?_;refine evs [14,108] [] ?_;refine ab 3021 zpc ?_;refine so zvs ?_;refine tv ?_;refine xaT (i:=y.var.toNat) zo3 .none rfl rfl rfl (Int.toNat_of_nonneg hy.1).symm (by omega) ?_;refine xa0 ty4 .none rfl rfl rfl ((by simpa using zp3 hy.1 hy.2)) ?_;refine tv ?_;refine sq ?_ ?_<;>intro h19 h19p h19s<;>(try simp only[Q,Pat.cs_len] at h19p);refine rn [(950,some (.box [.d (.i (finV (zbo (zaO w n) (decide (p.op=5)) (zag w ⟨a,k⟩ p) p.kids 0 (zaT ⟨a,k⟩ p) (c+1))).2)]))] (r2 rfl rfl) (.tup (.cons (.nild ?_) (.cons (.eqd ?_) .nil))) ⟨rfl,rfl⟩ (SubO.get ⟨.inr ?_,⟨.inl rfl,trivial⟩⟩) (zaC rfl);rotate_left 3;refine xaT (i:=y.var.toNat) zo3 .none rfl rfl rfl (Int.toNat_of_nonneg hy.1).symm (by omega) ?_;refine Walk.store ty4 .none rfl rfl rfl rfl rfl rfl (by simp) ((by simpa using zp4 hy.1 hy.2)) ?_;refine tv ?_;refine ar ?_;refine xah ((pre++[y],rest)) ⟨⟨(by have hz:=hg2.1;rw[<-hz];simp),(zmE hg2.2 (by simp_all))⟩,(by simp),sx ⟨⟨_,rfl,xaq ?_⟩,trivial⟩ ⟨?_,trivial⟩⟩;focus (first|rfl|(simp;done)|omega)
   focus (first|rfl|(simp[getH];done))
   have hrest:rest=[]:=by
    rcases rest with _|⟨a,b⟩
    ·rfl
    ·exfalso;have hz:=congrArg List.length (hg2.1);simp only[xaa,xab,xac] at hz;omega
   subst hrest;refine rn [(950,some (.box [.d (.i (finV (zbo (zaO w n) (decide (p.op=5)) (zag w ⟨a,k⟩ p) p.kids 0 (zaT ⟨a,k⟩ p) (c+1))).2)]))] (r2 rfl rfl) (.tup (.cons (.gld ?_) (.cons (.eqd ?_) .nil))) ⟨rfl,rfl⟩ (SubO.get ⟨.inr ?_,⟨.inl rfl,trivial⟩⟩) (zaC rfl);rotate_left 3;all_goals (((first|(rw[hg1.none hl (by omega) (by assumption)];first|done|rfl)|(rw[hg1.bad hl (by omega) (by assumption) (by assumption) (by assumption)];first|done|rfl)|(rw[hg1.fin hl (by omega),if_neg (by rw[ztA hg2.1 (by assumption)];simp)];first|done|rfl)|(rw[hg1.fin hl (by omega),if_pos (by have hz:=hg2.1;rw[List.append_nil] at hz;rw[<-hz];exact decide_eq_true hg2.2)];first|done|rfl));done))
  ·have hopf:okP w ⟨a,k⟩ p=false:=by simpa using hop
   have e:zaO w (n+1) ⟨a,k⟩ p c=(none,c+1):=by unfold zaO;rw[if_neg h60,if_neg hop]
   rw[e];rw[hopf] at hsh;refine bd Tryz.f293 114 [] [2] fun w0 F0 own kept hk=>?_;refine bx 3006 ?_;refine bx 3007 ?_;refine ev ?_;refine ar ?_;refine so ty3 ?_;refine tv ?_;refine xal ?_;refine xaA 8 [(34,.d (.bool (false)))] [27,28,29,30,31,32,33] ?_ ?_;refine ev ?_;refine sq ?_ ?_<;>intro h1 h1p h1s;exact jnb rfl;exact jnb rfl;refine xaz ?_;refine tv ?_;refine sq ?_ ?_<;>intro h2 h2p h2s;exact absurd h2 (by simp);refine wc zpn (hsh) rfl rfl ?_;refine ev ?_;refine sq ?_ ?_<;>intro h3 h3p h3s;refine rn [(950,some (.box [.d (.i (c+1))]))] (r2 rfl rfl) (.tup (.cons (.nild ?_) (.cons (.eqd ?_) .nil))) ⟨rfl,rfl⟩ (SubO.get ⟨.inr ?_,⟨.inl rfl,trivial⟩⟩) (zaC rfl);rotate_left 3;exact absurd h3 (by simp);all_goals (first|((rfl);done)|(rfl))
end Go.Proofs.YtlfipehhbdjnjaaGreat
namespace Go.Proofs.YtlfipehhbdjnjaaGreat
open Go
set_option linter.unusedSimpArgs false
set_option linter.unusedVariables false
set_option maxRecDepth 100000
set_option maxHeartbeats 2000000
abbrev dPtr (f:Nat->Nat):D:= .ptr (tabD 16 f) 0
abbrev sPtr (w:List Data) (f:Nat->Nat):D:= .ptr [zam w,dPtr f] 0
theorem zkI {n:Nat}{f:Nat->Nat}{a k:Int} (h:InS n ⟨a,k⟩) (hn:n<=16):
  FnD Tryz.prog 140 [.ref 71 0,.agg [.d (.i a),.d (.i k)]] [(71,some (.box (tabC 16 f)))] (.d (.i (dv f ⟨a,k⟩))) []:=by
 have hs:=h.facts;refine bd Tryz.f140 17 [16] [] fun w0 F0 own kept hk=>?_;refine Walk.box (id:=3003) .none rfl rfl rfl (by first|rfl|(simp only[zax,occH,occE,Res.ids,xag,List.nil_append,AV.idsL,AV.ids,zah,zai,zaq,zaJ,xae,List.map_nil,upC,zaD];rfl)) (by first|rfl|(simp only[zax,occH,occE,Res.ids,xag,List.nil_append,AV.idsL,AV.ids,zah,zai,zaq,zaJ,xae,List.map_nil,upC,zaD];rfl)) (by first|rfl|(simp only[zax,occH,occE,Res.ids,xag,List.nil_append,AV.idsL,AV.ids,zah,zai,zaq,zaJ,xae,List.map_nil,upC,zaD];rfl)) (by first|rfl|(simp only[zax,occH,occE,Res.ids,xag,List.nil_append,AV.idsL,AV.ids,zah,zai,zaq,zaJ,xae,List.map_nil,upC,zaD];rfl)) ?_;refine evs [16] [] ?_;refine sq ?_ ?_<;>intro h1 h1p h1s<;>(try simp only[Q] at h1p);refine rn [] (r1 rfl) (.eqd ?_) ⟨rfl,rfl⟩ (SubH.get ⟨rfl,trivial⟩) (fun _ h=>h);rotate_left;refine xaT (i:=a.toNat) zo2 .none rfl rfl rfl (by have:=hs h1p;omega) (by have:=hs h1p;omega) ?_;refine xaT (i:=k.toNat) zr1 .none rfl rfl rfl (by have:=hs h1p;omega) (by have:=hs h1p;omega) ?_;refine xa0 ty3 .none rfl rfl rfl ((zkv (s:=zcs ⟨a,k⟩) (by have:=hs h1p;omega) (by have:=hs h1p;omega))) ?_;refine evd [16] [] ?_;refine dr ?_;refine rn [] (r1 rfl) (.eqd ?_) ⟨rfl,rfl⟩ (SubH.get ⟨rfl,trivial⟩) (fun _ h=>h);rotate_left;all_goals (first|(rw[zl1 (by assumption)];rfl)|(rw[zl0 (by assumption)]))
theorem zmg {n:Nat}{f:Nat->Nat}{a k:Int} (h:InS n ⟨a,k⟩) (hn:n<=16):
  FnD Tryz.prog 140 [.d (dPtr f),.agg [.d (.i a),.d (.i k)]] [] (.d (.i (dv f ⟨a,k⟩))) []:=by
 have hs:=h.facts;refine bd Tryz.f140 17 [16] [] fun w0 F0 own kept hk=>?_;refine bx 3003 ?_;refine evs [16] [] ?_;refine sq ?_ ?_<;>intro h1 h1p h1s<;>(try simp only[Q] at h1p);refine rq ?_;rotate_left;refine xaU (i:=a.toNat) zo2 .none rfl rfl rfl (by have:=hs h1p;omega) (by have:=hs h1p;omega) ?_;refine xaU (i:=k.toNat) zr1 .none rfl rfl rfl (by have:=hs h1p;omega) (by have:=hs h1p;omega) ?_;refine xa2 ty3 .none rfl rfl (zuT (s:=zcs ⟨a,k⟩) (by have:=hs h1p;omega) (by have:=hs h1p;omega)) ?_;refine evd [16] [] ?_;refine dr ?_;refine rq ?_;rotate_left;all_goals (first|(rw[zl1 (by assumption)];rfl)|(rw[zl0 (by assumption)]))
theorem zmf {w:List Data} (hw:WT w){n:Nat}{f:Nat->Nat}{a k c:Int} (ht:TyIn w.length ⟨a,k⟩) (hc:c∈zaj w ⟨a,k⟩) (hn:n<=16) (hb:∀s,f s<=100000) (hin:∀u∈zaa w ⟨a,k⟩ c,InS n u):
  FnD Tryz.prog 235 [.ref 71 0,.d (zam w),.agg [.d (.i a),.d (.i k)],.d (.i c)] [(71,some (.box (tabC 16 f)))] (.d (.i (most w f ⟨a,k⟩ c))) []:=by
 have hl:=zgQ hw ht hc;have hd:=zo6 hb (by omega);refine bd Tryz.f235 33 [] [] fun w0 F0 own kept hk=>?_;refine Walk.box (id:=3006) .none rfl rfl rfl (by first|rfl|(simp only[zax,occH,occE,Res.ids,xag,List.nil_append,AV.idsL,AV.ids,zah,zai,zaq,zaJ,xae,List.map_nil,upC,zaD];rfl)) (by first|rfl|(simp only[zax,occH,occE,Res.ids,xag,List.nil_append,AV.idsL,AV.ids,zah,zai,zaq,zaJ,xae,List.map_nil,upC,zaD];rfl)) (by first|rfl|(simp only[zax,occH,occE,Res.ids,xag,List.nil_append,AV.idsL,AV.ids,zah,zai,zaq,zaJ,xae,List.map_nil,upC,zaD];rfl)) (by first|rfl|(simp only[zax,occH,occE,Res.ids,xag,List.nil_append,AV.idsL,AV.ids,zah,zai,zaq,zaJ,xae,List.map_nil,upC,zaD];rfl)) ?_;refine ev ?_;refine Walk.call (cr:=[]) zjm (zc8 hw ht hc) rfl .none rfl rfl (LeL.refl _) trivial rfl (by first|rfl|(simp only[zaV,List.all_cons,List.all_nil,zbG,zbs,AV.idsL,AV.ids,zah,zai,xae,List.map_nil,zaD];rfl)) (by first|rfl|(simp only[zax,occH,occE,Res.ids,xag,List.nil_append,AV.idsL,AV.ids,zah,zai,zaq,zaJ,xae,List.map_nil,upC,zaD];rfl)) ?_;refine ev ?_;refine xak (ι:=List (Ty)×List (Ty)×(Nat)) hk (fun x=>[(18,.d (.i (x.1.length:Int))),(9,.d (.i (x.2.2:Int)))]) [8,11,12,19,20,21,22,23,24,25,26,27,28,29,30] (fun x=>[]) (fun x=>x.1++x.2.1=zaa w ⟨a,k⟩ c/\x.2.2<=100000/\zby f x.2.2 x.2.1=zby f 0 (zaa w ⟨a,k⟩ c)) (fun x=>x.2.1.length) ([],zaa w ⟨a,k⟩ c,0) ⟨by simp,by simp,rfl⟩ ⟨⟨_,rfl,xaq ?_⟩,⟨⟨_,rfl,xaq ?_⟩,trivial⟩⟩ trivial (fun x=>rfl) (fun x hg1=>?_);iterate 2 focus (first|rfl|(simp;done))
 obtain⟨pre,rest,m⟩:=x;dsimp only at hg1 ⊢;refine evc [] [] ?_;refine sq ?_ ?_<;>intro h1 h1p h1s<;>(try simp only[Q] at h1p);rcases rest with _|⟨y,rest⟩
 ·exfalso;simp_all
 have hdy:=hd y;have hye:dv f ⟨y.data,y.index⟩=dv f y:=rfl;refine xaS zaZ .none rfl rfl rfl rfl (zaK hg1.1) rfl ?_;refine ev ?_;refine Walk.alloc (id:=3011) tz25 rfl .none rfl (by first|rfl|(simp only[zax,occH,occE,Res.ids,xag,List.nil_append,AV.idsL,AV.ids,zah,zai,zaq,zaJ,xae,List.map_nil,upC,zaD];rfl)) (by first|rfl|(simp only[zax,occH,occE,Res.ids,xag,List.nil_append,AV.idsL,AV.ids,zah,zai,zaq,zaJ,xae,List.map_nil,upC,zaD];rfl)) (by first|rfl|(simp only[zax,occH,occE,Res.ids,xag,List.nil_append,AV.idsL,AV.ids,zah,zai,zaq,zaJ,xae,List.map_nil,upC,zaD];rfl)) ?_;refine so ty25 ?_;refine tv ?_;refine Walk.call (cr:=[]) zjl (zkI (f:=f) (a:=y.data) (k:=y.index) (hin y (by rw[<-hg1.1];simp)) hn) rfl .none rfl rfl (LeL.refl _) ⟨rfl,trivial⟩ rfl (by first|rfl|(simp only[zaV,List.all_cons,List.all_nil,zbG,zbs,AV.idsL,AV.ids,zah,zai,xae,List.map_nil,zaD];rfl)) (by first|rfl|(simp only[zax,occH,occE,Res.ids,xag,List.nil_append,AV.idsL,AV.ids,zah,zai,zaq,zaJ,xae,List.map_nil,upC,zaD];rfl)) ?_;refine ev ?_;refine sq ?_ ?_<;>intro h2 h2p h2s<;>(try simp only[Q] at h2p);refine rn [] (r1 rfl) (.eqd ?_) ⟨rfl,rfl⟩ (SubH.get ⟨rfl,trivial⟩) (fun _ h=>h);rotate_left;refine xa3 .none rfl rfl rfl ?_;refine ev ?_;refine ar ?_;refine xah ((pre++[y],rest,max m (dv f y))) ⟨⟨(by have hz:=hg1.1;rw[<-hz];simp),⟨(by have:=hd y;dsimp only;omega),(by rw[<-hg1.2.2];simp only[zby];rw[if_neg (by have:=hd y;omega)])⟩⟩,(by simp),sx ⟨⟨_,rfl,xaq ?_⟩,⟨⟨_,rfl,xaq ?_⟩,trivial⟩⟩ trivial⟩;iterate 2 focus (first|rfl|(simp;done)|(dsimp only;omega))
 have hrest:rest=[]:=by
  rcases rest with _|⟨a,b⟩
  ·rfl
  ·exfalso;have hz:=congrArg List.length (hg1.1);simp only[xaa,xab,xac] at hz;omega
 subst hrest;refine ar ?_;refine rn [] (r1 rfl) (.eqd ?_) ⟨rfl,rfl⟩ (SubH.get ⟨rfl,trivial⟩) (fun _ h=>h);rotate_left;all_goals (refine congrArg D.i ?_;unfold most;rw[<-hg1.2.2];first|(simp only[zby];rw[if_pos (by omega)];rfl)|(simp only[zby];omega))
theorem zhf {i j:Nat} (h:j<4):tyS (i*4+j)=⟨(i:Int),(j:Int)⟩:=by
 unfold tyS;rw[show(i*4+j) / 4=i by omega,show(i*4+j) % 4=j by omega]
theorem zrh {w:List Data}{k s:Nat}{pre:List Int}:Bet (zbe w k) (rowT w k s pre):=(zoE _ _).trans (znC _ _)
theorem zj6 {w:List Data}{g f:Nat->Nat}{s:Nat}{c:Int} (hB:Bet g f)
  (h:decide ((0:Int)<(most w f (tyS s) c:Int)/\((f s:Int)=0\/(most w f (tyS s) c:Int)<(f s:Int)))=true):Strict g (zbI w s f c):=by
 rw[zd3 h];rw[decide_eq_true_eq] at h;refine⟨s,by unfold updF;rw[if_pos rfl];omega, ?_⟩;unfold updF;rw[if_pos rfl];rcases Nat.eq_zero_or_pos (g s) with h0|h0
 ·exact .inl h0
 ·have:=hB s h0;right;omega
theorem zmb {w:List Data} (hw:WT w){i j:Nat} (hi:i<w.length) (hj:j<4):FnD Tryz.prog 234 [.d (zam w),.agg [.d (.i (i:Int)),.d (.i (j:Int))]] [] (.d (zbB (za3 w (tyS (i*4+j))))) []:=by
 rw[<-ziX,zhf hj];exact zeg hw (.inr ⟨i,rfl,hi⟩)
theorem zmh {w:List Data}{f:Nat->Nat}{i j:Nat} (hi:i<w.length) (h4:w.length<=4) (hj:j<4):
  FnD Tryz.prog 140 [.ref 71 0,.agg [.d (.i (i:Int)),.d (.i (j:Int))]] [(71,some (.box (tabC 16 f)))] (.d (.i (f (i*4+j)))) []:=by
 have h:=zkI (n:=w.length*4) (f:=f) (a:=(i:Int)) (k:=(j:Int)) (.inr ⟨by simp only[zcs,Int.toNat_natCast];omega,by simp only[zcs,Int.toNat_natCast];exact zhf hj⟩) (by omega);have e:zcs ⟨(i:Int),(j:Int)⟩=i*4+j:=by simp only[zcs,Int.toNat_natCast]
 rwa [zl0 (by omega),e] at h
theorem znt {w:List Data} (hd:Dp w){f:Nat->Nat}{i j:Nat}{c:Int} (hi:i<w.length) (hj:j<4) (hc:c∈za3 w (tyS (i*4+j))) (hb:∀s,f s<=100000):
  FnD Tryz.prog 235 [.ref 71 0,.d (zam w),.agg [.d (.i (i:Int)),.d (.i (j:Int))],.d (.i c)] [(71,some (.box (tabC 16 f)))] (.d (.i (most w f (tyS (i*4+j)) c))) []:=by
 have h4:=hd.four;have hcl:=hd.cl (i*4+j) (by omega) c hc;rw[<-ziX,zhf hj] at hc;rw[zhf hj] at hcl ⊢;exact zmf hd.wt (.inr ⟨i,rfl,hi⟩) hc (n:=w.length*4) (by omega) hb hcl
theorem zlb {w:List Data} (hd:Dp w):FnD Tryz.prog 139 [.d (zam w)] [] (.d (dPtr (zal w))) []:=by
 have hw:=hd.wt;have hw4:=hd.four;have hlw:((w.map Data.c).length:Int)=w.length:=by simp
 refine bd Tryz.f139 64 [] [16,20] fun w0 F0 own kept hk=>?_;refine Walk.buildZ zxU zo2 .none rfl ?_;refine Walk.box (id:=71) .none rfl rfl rfl (by first|rfl|(simp only[zax,occH,occE,Res.ids,xag,List.nil_append,AV.idsL,AV.ids,zah,zai,zaq,zaJ,xae,List.map_nil,upC,zaD];rfl)) (by first|rfl|(simp only[zax,occH,occE,Res.ids,xag,List.nil_append,AV.idsL,AV.ids,zah,zai,zaq,zaJ,xae,List.map_nil,upC,zaD];rfl)) (by first|rfl|(simp only[zax,occH,occE,Res.ids,xag,List.nil_append,AV.idsL,AV.ids,zah,zai,zaq,zaJ,xae,List.map_nil,upC,zaD];rfl)) (by first|rfl|(simp only[zax,occH,occE,Res.ids,xag,List.nil_append,AV.idsL,AV.ids,zah,zai,zaq,zaJ,xae,List.map_nil,upC,zaD];rfl)) ?_;refine ev ?_;refine xak (ι:=Nat×Bool) hk (fun o=>[(4,.d (.bool o.2))]) [5,6,7,9,10,13,14,15,16,17,18,19,20,21,22,23,24,25,26,27,28,29,30,31,32,33,34,35,36,37,38,39,40,41,42,43,44,45,46,47,48,49,50,51,52,53,54,55,56,57,58,59,60,61,62] (fun o=>[(71,some (.box (tabC 16 (zbe w o.1))))]) (fun o=>(o.2=false->zbe w o.1=zal w)/\(o.2=true->o.1<=w.length*4+1)) (fun o=>if o.2 then w.length*4+2-o.1 else 0) (0,true) ⟨by simp,by simp⟩ ⟨⟨_,rfl,xap ?_⟩,trivial⟩ ⟨?_,trivial⟩ (fun x=>rfl) (fun o hg1=>?_);focus (first|rfl|(simp;done))
 focus (first|rfl|(have e:y.1=w.length:=(by omega);rw[e];rfl))
 refine evc [] [16,20] ?_;refine sq ?_ ?_<;>intro h1 h1p h1s<;>(try simp only[Q] at h1p);refine xak (ι:=Nat×Bool) hk (fun y=>[(16,.d (.i (y.1:Int))),(4,.d (.bool y.2))]) [5,6,7,9,10,17,18,19,20,21,22,23,24,25,26,27,28,29,30,31,32,33,34,35,36,37,38,39,40,41,42,43,44,45,46,47,48,49,50,51,52,53,54,55,56,57,58,59,60,61,62] (fun y=>[(71,some (.box (tabC 16 (midT w o.1 (y.1*4)))))]) (fun y=>y.1<=w.length/\(y.2=false->midT w o.1 (y.1*4)=zbe w o.1)/\(y.2=true->Strict (zbe w o.1) (midT w o.1 (y.1*4)))) (fun y=>w.length-y.1) (0,false) ⟨by simp,fun _=>rfl,by simp⟩ ⟨⟨_,rfl,xaq ?_⟩,⟨⟨_,rfl,xap ?_⟩,trivial⟩⟩ ⟨?_,trivial⟩ (fun x=>rfl) (fun y hg2=>?_);iterate 2 focus (first|rfl|(simp;done))
 focus (first|rfl|(have e:z.1=4:=(by omega);rw[e,<-Nat.succ_mul];rfl))
 have ho:=hg1.2 h1s;refine evc [] [16,20] ?_;refine sq ?_ ?_<;>intro h2 h2p h2s<;>(try simp only[Q] at h2p);refine xak (ι:=Nat×Bool) hk (fun z=>[(6,.d (.i (z.1:Int))),(4,.d (.bool z.2))]) [7,9,10,19,20,21,22,23,24,25,26,27,28,29,30,31,32,33,34,35,36,37,38,39,40,41,42,43,44,45,46,47,48,49,50,51,52,53,54,55,56,57,58,59,60,61] (fun z=>[(71,some (.box (tabC 16 (midT w o.1 (y.1*4+z.1)))))]) (fun z=>z.1<=4/\(z.2=false->midT w o.1 (y.1*4+z.1)=zbe w o.1)/\(z.2=true->Strict (zbe w o.1) (midT w o.1 (y.1*4+z.1)))) (fun z=>4-z.1) (0,y.2) ⟨by simp,hg2.2⟩ ⟨⟨_,rfl,xaq ?_⟩,⟨⟨_,rfl,xap ?_⟩,trivial⟩⟩ ⟨?_,trivial⟩ (fun x=>rfl) (fun z hg3=>?_);iterate 2 focus (first|rfl|(simp;done))
 focus (first|rfl|(show some (Res.box _)=some (Res.box _);rw[<-hg4.1,List.append_nil] at *;done))
 refine evc [] [16,20] ?_;refine sq ?_ ?_<;>intro h3 h3p h3s<;>(try simp only[Q] at h3p);refine bu [0,1] [_,_] st25 ?_;refine Walk.alloc (id:=3007) tz25 rfl .none rfl (by first|rfl|(simp only[zax,occH,occE,Res.ids,xag,List.nil_append,AV.idsL,AV.ids,zah,zai,zaq,zaJ,xae,List.map_nil,upC,zaD];rfl)) (by first|rfl|(simp only[zax,occH,occE,Res.ids,xag,List.nil_append,AV.idsL,AV.ids,zah,zai,zaq,zaJ,xae,List.map_nil,upC,zaD];rfl)) (by first|rfl|(simp only[zax,occH,occE,Res.ids,xag,List.nil_append,AV.idsL,AV.ids,zah,zai,zaq,zaJ,xae,List.map_nil,upC,zaD];rfl)) ?_;refine so ty25 ?_;refine tv ?_;refine Walk.call (cr:=[]) zlL (zmb hw (i:=y.1) (j:=z.1) (by omega) (by omega)) rfl .none rfl rfl (LeL.refl _) trivial rfl (by first|rfl|(simp only[zaV,List.all_cons,List.all_nil,zbG,zbs,AV.idsL,AV.ids,zah,zai,xae,List.map_nil,zaD];rfl)) (by first|rfl|(simp only[zax,occH,occE,Res.ids,xag,List.nil_append,AV.idsL,AV.ids,zah,zai,zaq,zaJ,xae,List.map_nil,upC,zaD];rfl)) ?_;refine ev ?_;refine xak (ι:=List (Int)×List (Int)×(Bool)) hk (fun x=>[(30,.d (.i (x.1.length:Int))),(4,.d (.bool x.2.2))]) [9,10,31,32,33,34,35,36,37,38,39,40,41,42,43,44,45,46,47,48,49,50,51,52,53,54,55,56,57,58,59,60,61] (fun x=>[(71,some (.box (tabC 16 (rowT w o.1 (y.1*4+z.1) x.1))))]) (fun x=>x.1++x.2.1=za3 w (tyS (y.1*4+z.1))/\(x.2.2=false->rowT w o.1 (y.1*4+z.1) x.1=zbe w o.1)/\(x.2.2=true->Strict (zbe w o.1) (rowT w o.1 (y.1*4+z.1) x.1))) (fun x=>x.2.1.length) ([],za3 w (tyS (y.1*4+z.1)),z.2) ⟨by simp,hg3.2⟩ ⟨⟨_,rfl,xaq ?_⟩,⟨⟨_,rfl,xap ?_⟩,trivial⟩⟩ ⟨?_,trivial⟩ (fun x=>rfl) (fun x hg4=>?_);iterate 2 focus (first|rfl|(simp;done))
 focus (first|rfl|(show some (Res.box _)=some (Res.box _);rw[zdA];first|(rw[zd3 (by assumption)];done)|(rw[zdz (by assumption)];done)))
 obtain⟨pre,rest,b⟩:=x;dsimp only at hg4 ⊢;have hct:=hd.ct (y.1*4+z.1) (by omega);refine evc [] [16,20] ?_;refine sq ?_ ?_<;>intro h4 h4p h4s<;>(try simp only[Q] at h4p);rcases rest with _|⟨c,rest⟩
 ·exfalso;simp_all
 refine xaS sl29 .none rfl rfl rfl rfl (zaK hg4.1) rfl ?_;refine ev ?_;refine Walk.call (cr:=[]) zwI (znt hd (f:=rowT w o.1 (y.1*4+z.1) pre) (i:=y.1) (j:=z.1) (c:=c) (by omega) (by omega) (by rw[<-hg4.1];simp) (znB hd (by omega) (by omega) (by have hz:=congrArg List.length hg4.1;simp at hz;omega))) rfl .none rfl rfl (LeL.refl _) ⟨rfl,trivial⟩ rfl (by first|rfl|(simp only[zaV,List.all_cons,List.all_nil,zbG,zbs,AV.idsL,AV.ids,zah,zai,xae,List.map_nil,zaD];rfl)) (by first|rfl|(simp only[zax,occH,occE,Res.ids,xag,List.nil_append,AV.idsL,AV.ids,zah,zai,zaq,zaJ,xae,List.map_nil,upC,zaD];rfl)) ?_;refine ev ?_;refine xal ?_;refine xaA 15 [(53,.d (.bool (decide ((0:Int)<(most w (rowT w o.1 (y.1*4+z.1) pre) (tyS (y.1*4+z.1)) c:Int)/\((rowT w o.1 (y.1*4+z.1) pre (y.1*4+z.1):Int)=0\/(most w (rowT w o.1 (y.1*4+z.1) pre) (tyS (y.1*4+z.1)) c:Int)<(rowT w o.1 (y.1*4+z.1) pre (y.1*4+z.1):Int))))))] [39,40,41,42,43,44,45,46,47,48,49,50,51,52] ?_ ?_;refine ev ?_;refine sq ?_ ?_<;>intro h5 h5p h5s<;>(try simp only[Q] at h5p);refine Walk.call (cr:=[]) zjl (zmh (w:=w) (f:=rowT w o.1 (y.1*4+z.1) pre) (i:=y.1) (j:=z.1) (by omega) hw4 (by omega)) rfl (.some rfl rfl h5) rfl rfl (LeL.refl _) ⟨rfl,trivial⟩ rfl (by first|rfl|(simp only[zaV,List.all_cons,List.all_nil,zbG,zbs,AV.idsL,AV.ids,zah,zai,xae,List.map_nil,zaD];rfl)) (by first|rfl|(simp only[zax,occH,occE,Res.ids,xag,List.nil_append,AV.idsL,AV.ids,zah,zai,zaq,zaJ,xae,List.map_nil,upC,zaD];rfl)) ?_;refine evs [] [(41,true)] ?_ ⟨⟨_,rfl,h5⟩,trivial⟩;refine sq ?_ ?_<;>intro h6 h6p h6s<;>(try simp only[Q] at h6p);exact jnb rfl;refine Walk.call (cr:=[]) zjl (zmh (w:=w) (f:=rowT w o.1 (y.1*4+z.1) pre) (i:=y.1) (j:=z.1) (by omega) hw4 (by omega)) rfl (.some rfl rfl h6) rfl rfl (LeL.refl _) ⟨rfl,trivial⟩ rfl (by first|rfl|(simp only[zaV,List.all_cons,List.all_nil,zbG,zbs,AV.idsL,AV.ids,zah,zai,xae,List.map_nil,zaD];rfl)) (by first|rfl|(simp only[zax,occH,occE,Res.ids,xag,List.nil_append,AV.idsL,AV.ids,zah,zai,zaq,zaJ,xae,List.map_nil,upC,zaD];rfl)) ?_;refine evs [] [(41,true),(46,false)] ?_ ⟨⟨_,rfl,h5⟩,⟨_,rfl,h6⟩,trivial⟩;exact jnb rfl;exact jnb rfl;refine xaz ?_;refine tv ?_;refine sq ?_ ?_<;>intro h7 h7p h7s<;>(try simp only[Q] at h7p);refine xaT (i:=y.1) zo2 .none rfl rfl rfl rfl (by omega) ?_;refine xaT (i:=z.1) zr1 .none rfl rfl rfl rfl (by omega) ?_;refine Walk.store ty3 .none rfl rfl rfl rfl rfl rfl (by simp) ((zrX (s:=y.1*4+z.1) (v:=most w (rowT w o.1 (y.1*4+z.1) pre) (tyS (y.1*4+z.1)) c) (by omega) (by omega) rfl)) ?_;refine ev ?_;refine ar ?_;refine xah ((pre++[c],rest,(decide ((0:Int)<(most w (rowT w o.1 (y.1*4+z.1) pre) (tyS (y.1*4+z.1)) c:Int)/\((rowT w o.1 (y.1*4+z.1) pre (y.1*4+z.1):Int)=0\/(most w (rowT w o.1 (y.1*4+z.1) pre) (tyS (y.1*4+z.1)) c:Int)<(rowT w o.1 (y.1*4+z.1) pre (y.1*4+z.1):Int))))||b)) ⟨⟨(by have hz:=hg4.1;rw[<-hz];simp),(by
    dsimp only;rw[zdA];cases hq:decide ((0:Int)<(most w (rowT w o.1 (y.1*4+z.1) pre) (tyS (y.1*4+z.1)) c:Int)/\((rowT w o.1 (y.1*4+z.1) pre (y.1*4+z.1):Int)=0\/(most w (rowT w o.1 (y.1*4+z.1) pre) (tyS (y.1*4+z.1)) c:Int)<(rowT w o.1 (y.1*4+z.1) pre (y.1*4+z.1):Int))) with
    |true=>exact⟨fun h=>by simp at h,fun _=>zj6 zrh hq⟩
    |false=>rw[zdz hq];exact hg4.2)⟩,(by simp),sx ⟨⟨_,rfl,xaq ?_⟩,⟨⟨_,rfl,xap ?_⟩,trivial⟩⟩ ⟨?_,trivial⟩⟩
 iterate 2 focus (first|rfl|(simp;done)|(rw[h7];rfl))
 focus (first|rfl|(show some (Res.box _)=some (Res.box _);rw[zdA];first|(rw[zd3 (by assumption)];done)|(rw[zdz (by assumption)];done)))
 refine ar ?_;refine xah ((pre++[c],rest,(decide ((0:Int)<(most w (rowT w o.1 (y.1*4+z.1) pre) (tyS (y.1*4+z.1)) c:Int)/\((rowT w o.1 (y.1*4+z.1) pre (y.1*4+z.1):Int)=0\/(most w (rowT w o.1 (y.1*4+z.1) pre) (tyS (y.1*4+z.1)) c:Int)<(rowT w o.1 (y.1*4+z.1) pre (y.1*4+z.1):Int))))||b)) ⟨⟨(by have hz:=hg4.1;rw[<-hz];simp),(by
    dsimp only;rw[zdA];cases hq:decide ((0:Int)<(most w (rowT w o.1 (y.1*4+z.1) pre) (tyS (y.1*4+z.1)) c:Int)/\((rowT w o.1 (y.1*4+z.1) pre (y.1*4+z.1):Int)=0\/(most w (rowT w o.1 (y.1*4+z.1) pre) (tyS (y.1*4+z.1)) c:Int)<(rowT w o.1 (y.1*4+z.1) pre (y.1*4+z.1):Int))) with
    |true=>exact⟨fun h=>by simp at h,fun _=>zj6 zrh hq⟩
    |false=>rw[zdz hq];exact hg4.2)⟩,(by simp),sx ⟨⟨_,rfl,xaq ?_⟩,⟨⟨_,rfl,xap ?_⟩,trivial⟩⟩ ⟨?_,trivial⟩⟩
 iterate 2 focus (first|rfl|(simp;done)|(rw[h7];rfl))
 focus (first|rfl|(show some (Res.box _)=some (Res.box _);rw[zdA];first|(rw[zd3 (by assumption)];done)|(rw[zdz (by assumption)];done)))
 have hrest:rest=[]:=by
  rcases rest with _|⟨a,b⟩
  ·rfl
  ·exfalso;have hz:=congrArg List.length (hg4.1);simp only[xaa,xab,xac] at hz;omega
 subst hrest;refine ar ?_;refine xah ((z.1+1,b)) ⟨(by
    obtain⟨p1,p2⟩:=hg4;rw[List.append_nil] at p1;rw[p1,zhu,Nat.add_assoc] at p2;exact⟨by dsimp only;omega,p2⟩),(by dsimp only;omega),sx ⟨⟨_,rfl,xaq ?_⟩,⟨⟨_,rfl,xap ?_⟩,trivial⟩⟩ ⟨?_,trivial⟩⟩
 iterate 2 focus (first|rfl|(simp;done))
 focus (first|rfl|(show some (Res.box _)=some (Res.box _);rw[<-hg4.1,List.append_nil] at *;done)|(show some (Res.box _)=some (Res.box _);rw[<-Nat.add_assoc,<-zhu,<-hg4.1,List.append_nil]))
 refine ar ?_;refine xah ((y.1+1,z.2)) ⟨(by
    have e:z.1=4:=by omega
    obtain⟨_,q1,q2⟩:=hg3;rw[e,<-Nat.succ_mul] at q1 q2;exact⟨by dsimp only;omega,q1,q2⟩),(by dsimp only;omega),sx ⟨⟨_,rfl,xaq ?_⟩,⟨⟨_,rfl,xap ?_⟩,trivial⟩⟩ ⟨?_,trivial⟩⟩
 iterate 2 focus (first|rfl|(simp;done))
 focus (first|rfl|(have e:z.1=4:=(by omega);rw[e,<-Nat.succ_mul];rfl))
 refine xah ((o.1+1,y.2)) ⟨⟨(fun h=>by
    have e:y.1=w.length:=by omega
    have h1:=hg2.2.1 h;rw[e] at h1;have h2:zbe w (o.1+1)=zbe w o.1:=h1;rw[h2];exact zur hd.cl h2),(fun h=>by
    have e:y.1=w.length:=by omega
    have h1:=hg2.2.2 h;rw[e] at h1;have h3:=hg1.2 h1s;show o.1+1<=w.length*4+1
    rcases Nat.lt_or_ge o.1 (w.length*4+1) with h4|h4
    ·omega
    ·refine absurd ?_ (Strict.ne h1);rw[zkq hd.cl h4];exact(zkq hd.cl (k:=o.1+1) (by omega)).symm)⟩,(by have h3:=hg1.2 h1s;rw[h1s];dsimp only;simp only[if_true];split<;>omega),sx ⟨⟨_,rfl,xap ?_⟩,trivial⟩ ⟨?_,trivial⟩⟩
 focus (first|rfl|(simp;done))
 focus (first|rfl|(have e:y.1=w.length:=(by omega);rw[e];rfl))
 refine CWp.frzB hk 3 71 0 rfl rfl zuV rfl ?_;refine evc [] [] ?_;refine rq ?_;rotate_left;all_goals (rw[hg1.1 h1s])
end Go.Proofs.YtlfipehhbdjnjaaGreat
namespace Go.Proofs.YtlfipehhbdjnjaaGreat
open Go
set_option linter.unusedSimpArgs false
set_option linter.unusedVariables false
set_option maxRecDepth 100000
set_option maxHeartbeats 4000000
theorem zxP (w:List Data) (t:Ty) (p:Pat):(zaO w 10 t p 0).1.isSome=isP w t p:=by
 have h:=(zfE w 10 t p 0).1;rw[h];unfold zbV isP;rw[Int.zero_add];split
 ·rename_i hz;rw[hz];rfl
 ·rename_i hz;cases hc:(zas w 10 t p&&(decide ((p.size:Int)<=60)&&linP w 10 t p)) with
  |true=>exact absurd hc hz
  |false=>rfl
theorem zfr {w:List Data} (hw:WT w){a k:Int}{p:Pat} (ht:TyIn w.length ⟨a,k⟩) (hok:p.ok):
  FnD Tryz.prog 217 [.d (zam w),.agg [.d (.i a),.d (.i k)],.agg [.d (.i p.op),.d (.i p.ctor),.d (.i p.n),.d (.i p.m),.d (.i p.var),.d (zad p.kids)]] [] (.tup [.d (zcP (zdq (zaO w 10 ⟨a,k⟩ p 0).1)),.d (.bool (isP w ⟨a,k⟩ p))]) []:=by
 rw[<-zxP];refine bd Tryz.f217 15 [] [] fun w0 F0 own kept hk=>?_;refine bx 3004 ?_;refine bx 3005 ?_;refine ev ?_;refine ab 950 tz3 ?_;refine so ty3 ?_;refine tv ?_;refine wd zpr (zdQ hw 10 (c:=0) (by omega) (by omega) ht hok (by omega) (by omega)) rfl rfl ⟨rfl,trivial⟩ ?_;refine ev ?_;refine rn0 (r2 rfl rfl) (.tup (.cons (.eqd ?_) (.cons (.eqd ?_) .nil)));rotate_left 2;all_goals (rfl)
theorem zkz {w:List Data} (hw:WT w){a k:Int}{p:Pat} (ht:TyIn w.length ⟨a,k⟩) (hok:p.ok):
  FnD Tryz.prog 138 [.d (zam w),.agg [.d (.i a),.d (.i k)],.agg [.d (.i p.op),.d (.i p.ctor),.d (.i p.n),.d (.i p.m),.d (.i p.var),.d (zad p.kids)]] [] (.d (.bool (isP w ⟨a,k⟩ p))) []:=by
 refine bd Tryz.f138 17 [] [] fun w0 F0 own kept hk=>?_;refine bx 3004 ?_;refine bx 3005 ?_;refine ev ?_;refine wc zsL (zfr hw ht hok) rfl rfl ?_;refine ev ?_;refine rq ?_;rotate_left;all_goals (rfl)
end Go.Proofs.YtlfipehhbdjnjaaGreat
namespace Go.Proofs.YtlfipehhbdjnjaaGreat
open Go
set_option linter.unusedSimpArgs false
set_option linter.unusedVariables false
set_option maxRecDepth 100000
set_option maxHeartbeats 2000000
theorem zqO {w:List Data} (hs:WSmall w) (hv:za0 w=true):Dp w:=by
 have hw:=ziT hs hv;have hW:=(zco w).1 hv;refine⟨hw,fun s hs c hc u hu=>?_,hW.len,fun s hs=>?_⟩
 ·obtain⟨j,rfl,hj⟩:=zqf (d:=s / 4) (k:=((s % 4:Nat):Int)) hc;have hu':u∈zaa w ⟨((s / 4:Nat):Int),((s % 4:Nat):Int)⟩ (j:Int):=hu;simp only[zaa,Int.toNat_natCast,List.mem_map] at hu';obtain⟨x,hx,rfl⟩:=hu';have hco:=hW.ctor _ (zac (l:=w) (i:=s / 4) (by omega)) _ (zac hj);simp only[zbA,xad,Bool.not_eq_true',List.any_eq_false] at hco;have hax:zbK w.length x=true:=by
   have:=hco.2.2.2 x hx;cases h:zbK w.length x with
   |true=>rfl
   |false=>rw[h] at this;exact absurd rfl this
  have hci:=hco.2.2.1;simp only[zbK,zar,Bool.or_eq_true,xad,decide_eq_true_eq,and_true] at hax hci;have key:∀y:Ty,(y.data = -1\/(0<=y.data/\y.data<w.length/\0<=y.index/\y.index<=3))->InS (w.length*4) y:=by
   rintro ⟨a,k⟩ h
   rcases h with h|⟨h1,h2,h3,h4⟩
   ·exact .inl h
   ·refine .inr ⟨?_, ?_⟩
    ·simp only[zcs] at *;omega
    ·obtain⟨i,rfl⟩:=Int.eq_ofNat_of_zero_le h1;obtain⟨m,rfl⟩:=Int.eq_ofNat_of_zero_le h3;simp only[zcs,Int.toNat_natCast];exact zhf (by simp only at h4;omega)
  refine key _ ?_;unfold zcp zcz;split
  ·dsimp only;rcases hax with h|h
   ·omega
   ·right
    refine⟨by omega,by omega, ?_⟩;split<;>omega
  ·rcases hax with h|h
   ·exact .inl h.1
   ·right;omega
 ·have h1:=zgc (tyS s).index (nth w (tyS s).data.toNat).ctors 0;have h2:=(hW.data _ (zac (l:=w) (i:=s / 4) (by omega))).2.2;show(zaW (tyS s).index 0 (nth w (tyS s).data.toNat).ctors).length<=4
  have e:(tyS s).data.toNat=s / 4:=by simp only[tyS,Int.toNat_natCast]
  rw[e] at h1 ⊢;omega
theorem zb0 {n:Nat}{t:Ty} (h:InS (n*4) t):TyIn n t:=by
 rcases h with h|⟨h1,h2⟩
 ·exact .inl h
 ·refine .inr ⟨zcs t / 4, ?_,by omega⟩;have:=congrArg Ty.data h2;exact this.symm
theorem zbp {w:List Data} (hd:Dp w){t:Ty}{c:Int} (ht:InS (w.length*4) t) (hc:c∈zaj w t):∀u∈zaa w t c,InS (w.length*4) u:=by
 rcases ht with h|⟨h1,h2⟩
 ·unfold zaj at hc;rw[if_pos h] at hc;simp at hc
 ·have hx:=hd.cl _ h1;rw[h2] at hx;have:c∈za3 w t:=by
   unfold zaj at hc;split at hc
   ·simp at hc
   ·exact hc
  exact hx c this
theorem zjj {w:List Data}{a k k' c:Int}:(zaa w ⟨a,k⟩ c).length=(zaa w ⟨a,k'⟩ c).length/\∀i,(nth (zaa w ⟨a,k⟩ c) i).data=(nth (zaa w ⟨a,k'⟩ c) i).data:=by
 have hd:∀(k:Int) (t:Ty),(zcp k t).data=t.data:=fun k t=>by unfold zcp;split<;>rfl
 refine⟨by simp[zaa],fun i=>?_⟩;unfold zaa;dsimp only;generalize nth (nth w a.toNat).ctors c.toNat=q;simp only[nth,List.getD_eq_getElem?_getD,List.getElem?_map];cases q.args[i]? with
 |none=>rfl
 |some x=>simp only[Option.map_some,Option.getD_some,hd]
structure PKids (w:List Data) (n:Nat) (a k k':Int) (p:Pat):Prop where
 len5:p.op=5->p.kids.length=2
 len6:p.op=6->p.kids.length=1
 len4:p.op=4->p.kids.length=(zaa w ⟨a,k⟩ p.ctor).length
 one:p.op=5\/p.op=6->zas w n ⟨a,k'⟩ (nth p.kids 0)=true
 two:p.op=5->zas w n ⟨a,k'⟩ (nth p.kids 1)=true
 arg:p.op=4->∀i,i<(zaa w ⟨a,k⟩ p.ctor).length->zas w n ⟨(nth (zaa w ⟨a,k⟩ p.ctor) i).data,(nth (zaa w ⟨a,k'⟩ p.ctor) i).index⟩ (nth p.kids i)=true
 mem:p.op=4->p.ctor∈zaj w ⟨a,k'⟩
 ops:p.op=1\/p.op=2\/(p.op=3/\a = -1)\/p.op=4\/p.op=5\/p.op=6
theorem zxM {w:List Data}{n:Nat}{a k k':Int}{p:Pat} (h:zas w (n+1) ⟨a,k'⟩ p=true):PKids w n a k k' p:=by
 obtain⟨ho,hl⟩:=zbT h;have hk:=fun i (hi:i<p.kids.length)=>zbS h hi;have ht4:p.op=4->zag w ⟨a,k'⟩ p=zaa w ⟨a,k'⟩ p.ctor:=fun h=>by unfold zag;rw[if_pos h]
 have ht5:p.op=5->zag w ⟨a,k'⟩ p=[⟨a,k'⟩,⟨a,k'⟩]:=fun h=>by unfold zag;rw[if_neg (by omega),if_pos h]
 have ht6:p.op=6->zag w ⟨a,k'⟩ p=[⟨a,k'⟩]:=fun h=>by unfold zag;rw[if_neg (by omega),if_neg (by omega),if_pos h]
 have l5:p.op=5->p.kids.length=2:=fun h=>by rw[hl,ht5 h];rfl
 have l6:p.op=6->p.kids.length=1:=fun h=>by rw[hl,ht6 h];rfl
 refine⟨l5,l6,fun h=>by rw[hl,ht4 h,zjj.1],fun h=>?_,fun h=>?_,fun h i hi=>?_,zcc ho, ?_⟩
 ·rcases h with h|h
  ·have:=hk 0 (by rw[l5 h];omega);rwa [ht5 h] at this
  ·have:=hk 0 (by rw[l6 h];omega);rwa [ht6 h] at this
 ·have:=hk 1 (by rw[l5 h];omega);rwa [ht5 h] at this
 ·rw[(zjj (k':=k')).1] at hi;have:=hk i (by rw[hl,ht4 h];exact hi);rw[ht4 h] at this;rw[(zjj (k':=k')).2];exact this
 ·unfold ownP at ho;have:=of_decide_eq_true ho;obtain⟨_,_,_,_,q⟩:=this;simp only at q;omega
theorem zky {w:List Data} (hd:Dp w):FnD Tryz.prog 67 [.d (zam w)] [] (.d (sPtr w (zal w))) []:=by
 refine bd Tryz.f67 8 [] [999999] fun w0 F0 own kept hk=>?_;refine wc zwt (zlb hd) rfl rfl ?_;refine bu [0,1] [_,_] zxR ?_;refine bx 3007 ?_;refine ev ?_;refine CWp.frzB hk 2 3007 0 rfl rfl rfl rfl ?_;refine CWp.ret ?_;focus (refine rn0 (r1 rfl) (.refl _);all_goals (first|rfl|(simp[];done)|(simp_all;done)|(simp_all;omega)|omega))
theorem zfL {w:List Data}{a k:Int} (h:zbF w ⟨a,k⟩=true):za0 w=true/\TyIn w.length ⟨a,k⟩/\(a≠ -1->0<=a/\a.toNat<w.length/\0<=k/\k<=3):=by
 unfold zbF at h;rw[xad] at h;obtain⟨h1,h2⟩:=h;simp only[zd8,zar,Bool.or_eq_true,xad,decide_eq_true_eq,and_true] at h2;refine⟨h1, ?_,fun ha=>by omega⟩;rcases h2 with h|h
 ·exact .inl h.1
 ·exact .inr ⟨a.toNat,by simp only;omega,by omega⟩
theorem zxq {n d j:Nat} (hd:d<n) (hj:j<4):InS (n*4) ⟨(d:Int),(j:Int)⟩:=
 .inr ⟨by simp only[zcs,Int.toNat_natCast];omega,by simp only[zcs,Int.toNat_natCast];exact zhf hj⟩
structure PVal (w:List Data) (a k:Int) (p:Pat):Prop where
 dp:Dp w
 tin:TyIn w.length ⟨a,k⟩
 shape:zas w 10 ⟨a,k⟩ p=true
 rng:a≠ -1->0<=a/\a.toNat<w.length/\0<=k/\k<=3
theorem zlo {w:List Data}{a b:Int} (hs:WSmall w):FnD Tryz.prog 126 [.d (zam w),.agg [.d (.i a),.d (.i b)]] [] (.d (.bool (zbF w ⟨a,b⟩))) []:=by
 rw[<-zv7];exact zkB hs
def zaQ (w:List Data) (f:Nat->Nat):Nat->Ty->Pat->Bool
 |0,_,_=>true
 |n+1,t,p=>
  if p.op=1\/p.op=2 then decide (dv f t=0)
  else if p.op=5 then zaQ w f n t (nth p.kids 0)&&zaQ w f n t (nth p.kids 1)
  else !(all2 (fun u q=> !zaQ w f n u q) (zag w t p) p.kids)
theorem zfM {w:List Data}{f:Nat->Nat}{n:Nat}{t:Ty}{p:Pat}:zaQ w f (n+1) t p=if p.op=1\/p.op=2 then decide (dv f t=0)
  else if p.op=5 then zaQ w f n t (nth p.kids 0)&&zaQ w f n t (nth p.kids 1)
  else !(all2 (fun u q=> !zaQ w f n u q) (zag w t p) p.kids):=rfl
theorem zfu {α β:Type} [Inhabited α] [Inhabited β]{f:α->β->Bool}{a:List α}{b:List β} (hl:a.length=b.length) (h:all2 f a b=true):∀i,i<a.length->f (nth a i) (nth b i)=true:=fun i hi=>by
 cases hf:f (nth a i) (nth b i) with
 |true=>rfl
 |false=>rw[zb1 hi hl hf] at h;exact absurd h (by simp)
theorem zkb {w:List Data}{t:Ty}{c:Int} (h:c∈zaj w t):c∈za3 w t:=by
 unfold zaj at h;split at h
 ·simp at h
 ·exact h
theorem zld {w:List Data} (hw:WT w){a k:Int}{p:Pat} (ht:TyIn w.length ⟨a,k⟩):
  FnD Tryz.prog 141 [.d (zam w),.agg [.d (.i a),.d (.i k)],.agg [.d (.i p.op),.d (.i p.ctor),.d (.i p.n),.d (.i p.m),.d (.i p.var),.d (zad p.kids)]] [] (.d (zci (zcE w ⟨a,k⟩ p))) []:=by
 have hsh:=zi4 hw (p:=p) ht;refine bd Tryz.f141 17 [] [] fun w0 F0 own kept hk=>?_;refine bx 3004 ?_;refine bx 3005 ?_;refine ev ?_;refine wc zpn (hsh) rfl rfl ?_;refine ev ?_;refine rq ?_;rotate_left;all_goals (rfl)
theorem zcC {w:List Data} (hd:Dp w){f:Nat->Nat}:∀(n:Nat){a k:Int}{p:Pat},zas w n ⟨a,k⟩ p=true->InS (w.length*4) ⟨a,k⟩->p.ok->
  FnD Tryz.prog 68 [.d (sPtr w f),.agg [.d (.i a),.d (.i k)],.agg [.d (.i p.op),.d (.i p.ctor),.d (.i p.n),.d (.i p.m),.d (.i p.var),.d (zad p.kids)]] [] (.d (.bool (zaQ w f n ⟨a,k⟩ p))) []
 |0,a,k,p,h,_,_=>by simp[zas] at h
 |n+1,a,k,p,h,hi,hok=>by
  rw[Pat.ok_iff] at hok;have hw:=hd.wt;have hw4:=hd.four;have ht:=zb0 hi;have pk:=zxM (k:=k) h;obtain⟨ho,hlen⟩:=zbT h;have hkid:=fun i (hi:i<p.kids.length)=>zbS h hi;have hops:=pk.ops;have l5:=pk.len5;have hk1:=pk.one;have hk2:=pk.two;have hsT:zcE w ⟨a,k⟩ p=zag w ⟨a,k⟩ p:=by
   unfold zcE;rw[if_neg (fun h=>h.2 (pk.mem h.1))]
  have hkt:=zld hw (p:=p) ht;rw[hsT] at hkt;have hins:∀i,i<(zag w ⟨a,k⟩ p).length->InS (w.length*4) (nth (zag w ⟨a,k⟩ p) i):=fun i hl=>by
   have hm:=zac hl;unfold zag at hm ⊢;split
   ·rename_i h4;rw[if_pos h4] at hm;exact zbp hd hi (pk.mem h4) _ hm
   ·rename_i h4;rw[if_neg h4] at hm;split
    ·rename_i h5;rw[if_pos h5] at hm;simp only[List.mem_cons,List.not_mem_nil,or_false,or_self] at hm;rw[hm];exact hi
    ·rename_i h5;rw[if_neg h5] at hm;split
     ·rename_i h6;rw[if_pos h6] at hm;simp only[List.mem_cons,List.not_mem_nil,or_false] at hm;rw[hm];exact hi
     ·rename_i h6;rw[if_neg h6] at hm;simp at hm
  have htl:(zag w ⟨a,k⟩ p).length<=1000000000000:=by have:=hok.1;omega
  refine bd Tryz.f68 61 [] [] fun w0 F0 own kept hk=>?_;refine bx 3004 ?_;refine bx 3005 ?_;refine ev ?_;refine sq ?_ ?_<;>intro h1 h1p h1s<;>(try simp only[Q,Pat.cs_len] at h1p);refine sq ?_ ?_<;>intro h2 h2p h2s<;>(try simp only[Q,Pat.cs_len] at h2p);refine wc zjl (zmg (n:=w.length*4) (f:=f) hi (by omega)) rfl rfl ?_;refine evd [] [] ?_;refine dr ?_;refine rq ?_;rotate_left;refine sq ?_ ?_<;>intro h3 h3p h3s<;>(try simp only[Q,Pat.cs_len] at h3p);refine xaS (i:=0) sl34 .none rfl rfl rfl rfl (zaH (by omega)) rfl ?_;refine evd [] [] ?_;refine wc zis (zcC hd n (hk1 (by omega)) hi (Pats.ok_mem hok.2 _ (zac (i:=0) (by omega)))) rfl rfl ?_;refine evd [] [] ?_;refine sq ?_ ?_<;>intro h4 h4p h4s<;>(try simp only[Q,Pat.cs_len] at h4p);refine xaS (i:=1) sl34 (.some rfl rfl h4) rfl rfl rfl rfl (zaH (by omega)) rfl ?_;refine evd [] [(30,true)] ?_ ⟨⟨_,rfl,h4⟩,trivial⟩;refine Walk.call (cr:=[]) zis (zcC hd n (hk2 (by omega)) hi (Pats.ok_mem hok.2 _ (zac (i:=1) (by omega)))) rfl (.some rfl rfl h4) rfl rfl (LeL.refl _) trivial rfl rfl rfl ?_;refine evd [] [(30,true)] ?_ ⟨⟨_,rfl,h4⟩,trivial⟩;refine dr ?_;refine rq ?_;rotate_left;refine dr ?_;refine rq ?_;rotate_left;refine wc zsF (hkt) rfl rfl ?_;refine evd [] [] ?_;refine dr ?_;refine xak (ι:=Nat) hk (fun i=>[(47,.d (.i (i:Int)))]) [6,7,8,48,49,50,51,52,53,54,55,56,57,58,59,60] (fun i=>[]) (fun i=>i<=(zag w ⟨a,k⟩ p).length/\∀i',i'<i->zaQ w f n (nth (zag w ⟨a,k⟩ p) i') (nth p.kids i')=false) (fun i=>(zag w ⟨a,k⟩ p).length-i) 0 ⟨by omega,fun _ h=>absurd h (by omega)⟩ ⟨⟨_,rfl,xaq ?_⟩,trivial⟩ trivial (fun x=>rfl) (fun i hg1=>?_);focus (rfl)
  refine evc [] [] ?_;refine sq ?_ ?_<;>intro h5 h5p h5s<;>(try simp only[Q,Pat.cs_len] at h5p);refine xaS zaZ .none rfl rfl rfl rfl (zap (by omega)) rfl ?_;refine ev ?_;refine ab 3008 tz25 ?_;refine ev ?_;refine so ty25 ?_;refine tv ?_;refine xaS sl34 .none rfl rfl rfl rfl (zaH (by omega)) rfl ?_;refine evd [] [] ?_;refine wc zis (zcC hd n (hkid i (by omega)) (hins i (by omega)) (Pats.ok_mem hok.2 _ (zac (by omega)))) rfl rfl ?_;refine dr ?_;refine sq ?_ ?_<;>intro h6 h6p h6s<;>(try simp only[Q,Pat.cs_len] at h6p);refine rq ?_;rotate_left;refine ar ?_;refine xah (i+1) ⟨⟨by omega,zaX hg1.2 (by assumption)⟩,(by omega),sx ⟨⟨_,rfl,xaq ?_⟩,trivial⟩ trivial⟩;focus (rfl)
  refine rq ?_;rotate_left;refine sq ?_ ?_<;>intro h7 h7p h7s<;>(try simp only[Q,Pat.cs_len] at h7p);refine wc zjl (zmg (n:=w.length*4) (f:=f) hi (by omega)) rfl rfl ?_;refine evd [] [] ?_;refine dr ?_;refine rq ?_;rotate_left;refine sq ?_ ?_<;>intro h8 h8p h8s<;>(try simp only[Q,Pat.cs_len] at h8p);refine xaS (i:=0) sl34 .none rfl rfl rfl rfl (zaH (by omega)) rfl ?_;refine evd [] [] ?_;refine wc zis (zcC hd n (hk1 (by omega)) hi (Pats.ok_mem hok.2 _ (zac (i:=0) (by omega)))) rfl rfl ?_;refine evd [] [] ?_;refine sq ?_ ?_<;>intro h9 h9p h9s<;>(try simp only[Q,Pat.cs_len] at h9p);refine xaS (i:=1) sl34 (.some rfl rfl h9) rfl rfl rfl rfl (zaH (by omega)) rfl ?_;refine evd [] [(30,true)] ?_ ⟨⟨_,rfl,h9⟩,trivial⟩;refine Walk.call (cr:=[]) zis (zcC hd n (hk2 (by omega)) hi (Pats.ok_mem hok.2 _ (zac (i:=1) (by omega)))) rfl (.some rfl rfl h9) rfl rfl (LeL.refl _) trivial rfl rfl rfl ?_;refine evd [] [(30,true)] ?_ ⟨⟨_,rfl,h9⟩,trivial⟩;refine dr ?_;refine rq ?_;rotate_left;refine dr ?_;refine rq ?_;rotate_left;refine wc zsF (hkt) rfl rfl ?_;refine evd [] [] ?_;refine dr ?_;refine xak (ι:=Nat) hk (fun i=>[(47,.d (.i (i:Int)))]) [6,7,8,48,49,50,51,52,53,54,55,56,57,58,59,60] (fun i=>[]) (fun i=>i<=(zag w ⟨a,k⟩ p).length/\∀i',i'<i->zaQ w f n (nth (zag w ⟨a,k⟩ p) i') (nth p.kids i')=false) (fun i=>(zag w ⟨a,k⟩ p).length-i) 0 ⟨by omega,fun _ h=>absurd h (by omega)⟩ ⟨⟨_,rfl,xaq ?_⟩,trivial⟩ trivial (fun x=>rfl) (fun i hg1=>?_);focus (rfl)
  refine evc [] [] ?_;refine sq ?_ ?_<;>intro h10 h10p h10s<;>(try simp only[Q,Pat.cs_len] at h10p);refine xaS zaZ .none rfl rfl rfl rfl (zap (by omega)) rfl ?_;refine ev ?_;refine ab 3008 tz25 ?_;refine ev ?_;refine so ty25 ?_;refine tv ?_;refine xaS sl34 .none rfl rfl rfl rfl (zaH (by omega)) rfl ?_;refine evd [] [] ?_;refine wc zis (zcC hd n (hkid i (by omega)) (hins i (by omega)) (Pats.ok_mem hok.2 _ (zac (by omega)))) rfl rfl ?_;refine dr ?_;refine sq ?_ ?_<;>intro h11 h11p h11s<;>(try simp only[Q,Pat.cs_len] at h11p);refine rq ?_;rotate_left;refine ar ?_;refine xah (i+1) ⟨⟨by omega,zaX hg1.2 (by assumption)⟩,(by omega),sx ⟨⟨_,rfl,xaq ?_⟩,trivial⟩ trivial⟩;focus (rfl)
  refine rq ?_;rotate_left;all_goals (refine congrArg D.bool ?_;rw[zfM];first|(rw[if_pos (by omega)];exact decide_eq_decide.2 (by omega))|(rw[if_neg (by omega),if_pos (by omega)];first|rfl|(simp_all;done))|(rw[if_neg (by omega),if_neg (by omega)];first|(rw[zb1 (i:=i) (by omega) (by omega) (by show(!_)=false;rw[Bool.not_eq_false'];assumption)];rfl)|(rw[zcf (by omega) (fun x hx=>by have:=hg1.2 x (by omega);simp_all)];rfl)))
mutual
theorem zsx:∀v:Val,zsw v v=true
 | .mk _ _ ks=>by simp[zsw,zkQ ks]
theorem zkQ:∀l:List Val,zna l l=true
 | []=>rfl
 |v::r=>by simp[zna,zsx v,zkQ r]
end
theorem Val.c_len (v:Val):v.c.length=3:=by cases v;rfl
theorem Val.cs_rows {l:List Val}:∀x,x∈Val.cs l->x.length=3:=by
 intro x hx;rw[Val.cs_eq] at hx;obtain⟨y,_,rfl⟩:=List.mem_map.1 hx;exact y.c_len
theorem Val.cs_nil (l:List Val):Val.cs l=[]↔l=[]:=by rw[Val.cs_eq];simp
mutual
def mVal:Val->Nat
 | .mk _ _ ks=>zmm ks
def zmm:List Val->Nat
 | []=>0
 |v::r=>1+mVal v+zmm r
end
mutual
def Val.szM:Val->Int
 | .mk _ _ ks=>2+Vals.szM ks
def Vals.szM:List Val->Int
 | []=>0
 |v::r=>v.szM+Vals.szM r
end
mutual
def Val.one (k:Int):Val->Val
 | .mk _ _ ks=> .mk k (k+1) (Vals.one (k+1+1) ks)
def Vals.one (k:Int):List Val->List Val
 | []=>[]
 |v::r=>v.one k::Vals.one (k+v.szM) r
end
mutual
theorem Val.szM_nn:∀v:Val,0<=v.szM
 | .mk _ _ ks=>by have:=Vals.szM_nn ks;simp only[Val.szM];omega
theorem Vals.szM_nn:∀l:List Val,0<=Vals.szM l
 | []=>by simp[Vals.szM]
 |v::r=>by have:=Val.szM_nn v;have:=Vals.szM_nn r;simp only[Vals.szM];omega
end
mutual
theorem Val.szM_le:∀v:Val,v.szM<=2+2*(mVal v:Int)
 | .mk _ _ ks=>by have:=Vals.szM_le ks;simp only[Val.szM,mVal];omega
theorem Vals.szM_le:∀l:List Val,Vals.szM l<=2*(zmm l:Int)
 | []=>by simp[Vals.szM,zmm]
 |v::r=>by have:=Val.szM_le v;have:=Vals.szM_le r;simp only[Vals.szM,zmm];omega
end
def zaP (w:List Data):Nat->Ty->Val->Bool
 |0,_,_=>false
 |n+1,t,v=>if t.data = -1 then decide (v.ctor = -1)&&(decide (0<=v.num)&&(decide (v.num<=9)&&decide (v.kids.length=0)))
   else if v.num=0/\v.ctor∈za3 w t then all2 (zaP w n) (zaa w t v.ctor) v.kids else false
mutual
def cntV (m:Int):Val->Int
 | .mk _ _ ks=>cntL m 1 ks
def cntL (m n:Int):List Val->Int
 | []=>n
 |k::r=>if n<=m then cntL m (n+cntV (m-n) k) r else n
end
theorem zs7 {m n:Int}{l:List Val} (h:¬n<=m):cntL m n l=n:=by cases l<;>simp[cntL,h]
mutual
theorem zrm:∀(v:Val) (m:Int),1<=cntV m v/\cntV m v<=v.size
 | .mk _ _ ks,m=>by
  have:=znh ks m 1 (by omega);simp only[cntV,Val.size];push_cast;omega
theorem znh:∀(l:List Val) (m n:Int),1<=n->1<=cntL m n l/\cntL m n l<=n+Vals.size l
 | [],m,n,h=>by simp[cntL,Vals.size];omega
 |k::r,m,n,h=>by
  have h1:=zrm k (m-n);have h2:=znh r m (n+cntV (m-n) k) (by omega);simp only[cntL,Vals.size];split
  ·push_cast;omega
  ·push_cast;omega
end
mutual
theorem zug:∀(v:Val) (m:Int),(cntV m v<=m↔(v.size:Int)<=m)/\(cntV m v<=m->cntV m v=v.size)
 | .mk _ _ ks,m=>by
  have:=zpy ks m 1;simp only[cntV,Val.size];push_cast;exact this
theorem zpy:∀(l:List Val) (m n:Int),(cntL m n l<=m↔n+(Vals.size l:Int)<=m)/\(cntL m n l<=m->cntL m n l=n+Vals.size l)
 | [],m,n=>by simp[cntL,Vals.size]
 |k::r,m,n=>by
  have h1:=zug k (m-n);have h2:=zpy r m (n+cntV (m-n) k);have h3:=znh r m (n+cntV (m-n) k);have h4:=zrm k (m-n);simp only[cntL,Vals.size];push_cast
  by_cases hn:n<=m
  ·rw[if_pos hn];by_cases h5:cntV (m-n) k<=m-n
   ·have h6:=h1.2 h5;rw[h6] at h2 ⊢;constructor
    ·rw[h2.1];constructor<;>intro h<;>omega
    ·intro h;rw[h2.2 h];omega
   ·have h7:¬(k.size:Int)<=m-n:=fun h=>h5 (h1.1.2 h);have h8:¬n+cntV (m-n) k<=m:=by omega
    rw[zs7 h8];constructor
    ·constructor<;>intro h<;>omega
    ·intro h;omega
  ·rw[if_neg hn];constructor
   ·constructor<;>intro h<;>omega
   ·intro h;omega
end
theorem Vals.size_split {pre rest l:List Val}{y:Val} (h:pre++y::rest=l):Vals.size l=Vals.size pre+y.size+Vals.size rest:=by
 subst h;induction pre with
 |nil=>simp[Vals.size]
 |cons x r ih=>simp only[xag,Vals.size,ih];omega
theorem zhN {α β:Type}{f:α->β->Bool}{a:List α}{b:List β} (h:all2 f a b=true):a.length=b.length:=by
 by_cases e:a.length=b.length
 ·exact e
 ·rw[zgO e] at h;exact absurd h (by simp)
structure Bd where
 var:Int
 val:Val
def Bd.c (b:Bd):List D:=[.i b.var,.i b.val.ctor,.i b.val.num,zkk b.val.kids]
instance:Inhabited Bd:=⟨⟨0,default⟩⟩
def zh9 (f:Pat->Val->List Bd×Bool):List Pat->List Val->List Bd->List Bd×Bool
 |p::r,v::s,acc=>if (f p v).2=true then zh9 f r s (acc++(f p v).1) else ([],false)
 |_,_,acc=>(acc,true)
def za7:Nat->Pat->Val->List Bd×Bool
 |0,_,_=>([],false)
 |n+1,p,v=>
  if p.op=1 then ([],true)
  else if p.op=2 then ([⟨p.var,v⟩],true)
  else if p.op=3 then ([],zar v.num p.n p.m)
  else if p.op=5 then (if (za7 n (nth p.kids 0) v).2=true then ((za7 n (nth p.kids 0) v).1,true) else za7 n (nth p.kids 1) v)
  else if p.op=6 then (⟨p.var,v⟩::(za7 n (nth p.kids 0) v).1,(za7 n (nth p.kids 0) v).2)
  else if p.ctor=v.ctor then zh9 (za7 n) p.kids v.kids [] else ([],false)
section
variable {n:Nat}{p:Pat}{v:Val}
theorem zvP (h:p.op=1):za7 (n+1) p v=([],true):=by unfold za7;rw[if_pos h]
theorem zvQ (h:p.op=2):za7 (n+1) p v=([⟨p.var,v⟩],true):=by unfold za7;rw[if_neg (by omega),if_pos h]
theorem zvR (h:p.op=3):za7 (n+1) p v=([],zar v.num p.n p.m):=by unfold za7;rw[if_neg (by omega),if_neg (by omega),if_pos h]
theorem zuw (h:p.op=5) (h2:(za7 n (nth p.kids 0) v).2=true):za7 (n+1) p v=((za7 n (nth p.kids 0) v).1,true):=by
 conv=>lhs;unfold za7
 rw[if_neg (by omega),if_neg (by omega),if_neg (by omega),if_pos h,if_pos h2]
theorem zux (h:p.op=5) (h2:(za7 n (nth p.kids 0) v).2=false):za7 (n+1) p v=za7 n (nth p.kids 1) v:=by
 conv=>lhs;unfold za7
 rw[if_neg (by omega),if_neg (by omega),if_neg (by omega),if_pos h,if_neg (by rw[h2];simp)]
theorem zvT (h:p.op=6):za7 (n+1) p v=(⟨p.var,v⟩::(za7 n (nth p.kids 0) v).1,(za7 n (nth p.kids 0) v).2):=by
 conv=>lhs;unfold za7
 rw[if_neg (by omega),if_neg (by omega),if_neg (by omega),if_neg (by omega),if_pos h]
theorem zvS (h:p.op=4) (h2:p.ctor=v.ctor):za7 (n+1) p v=zh9 (za7 n) p.kids v.kids []:=by
 conv=>lhs;unfold za7
 rw[if_neg (by omega),if_neg (by omega),if_neg (by omega),if_neg (by omega),if_neg (by omega),if_pos h2]
theorem zuv (h:p.op=4) (h2:¬p.ctor=v.ctor):za7 (n+1) p v=([],false):=by
 conv=>lhs;unfold za7
 rw[if_neg (by omega),if_neg (by omega),if_neg (by omega),if_neg (by omega),if_neg (by omega),if_neg h2]
end
def BdOk (m:Nat) (l:List Bd):Prop:=∀x∈l,x.val.ok/\x.val.size<=m
theorem BdOk.app {m:Nat}{a b:List Bd} (h1:BdOk m a) (h2:BdOk m b):BdOk m (a++b):=fun x hx=>by
 rcases List.mem_append.1 hx with h|h
 ·exact h1 x h
 ·exact h2 x h
theorem BdOk.mono {m k:Nat}{a:List Bd} (h:BdOk m a) (hk:m<=k):BdOk k a:=fun x hx=>⟨(h x hx).1,Nat.le_trans (h x hx).2 hk⟩
theorem zxC {w:List Data}{t:Ty}{p:Pat} (h:p.op=5):zag w t p=[t,t]:=by unfold zag;rw[if_neg (by omega),if_pos h]
theorem zxD {w:List Data}{t:Ty}{p:Pat} (h:p.op=6):zag w t p=[t]:=by unfold zag;rw[if_neg (by omega),if_neg (by omega),if_pos h]
theorem za5 {w:List Data}{t:Ty}{p:Pat} (h:p.op=4):zag w t p=zaa w t p.ctor:=by unfold zag;rw[if_pos h]
theorem zeH {w:List Data}{n:Nat}{t:Ty}{p:Pat} (h:zas w (n+1) t p=true):p.op=1\/p.op=2\/p.op=3\/p.op=4\/p.op=5\/p.op=6:=by
 have h1:=(zbT h).1;unfold ownP at h1;have h2:=(of_decide_eq_true h1).2.2.2.2;omega
theorem zd5 {w:List Data}{n:Nat}{t:Ty}{p:Pat} (h:zas w (n+1) t p=true) (h5:p.op=5):p.kids.length=2/\zas w n t (nth p.kids 0)=true/\zas w n t (nth p.kids 1)=true:=by
 have hl:=(zbT h).2;have h0:=fun i hi=>zbS h (i:=i) hi;rw[zxC h5] at hl h0;have hl':p.kids.length=2:=hl;exact⟨hl',h0 0 (by omega),h0 1 (by omega)⟩
theorem zdB {w:List Data}{n:Nat}{t:Ty}{p:Pat} (h:zas w (n+1) t p=true) (h6:p.op=6):p.kids.length=1/\zas w n t (nth p.kids 0)=true:=by
 have hl:=(zbT h).2;have h0:=fun i hi=>zbS h (i:=i) hi;rw[zxD h6] at hl h0;have hl':p.kids.length=1:=hl;exact⟨hl',h0 0 (by omega)⟩
theorem zrx {w:List Data}:∀(m:Nat){t:Ty}{v:Val},zaP w m t v=true->Hd w m t
 |0,_,_,h=>by simp[zaP] at h
 |m+1,t,v,h=>by
  by_cases hd:t.data = -1
  ·exact .inl hd
  ·unfold zaP at h;rw[if_neg hd] at h;split at h
   ·rename_i hc;have hl:=zhN h;refine .inr ⟨v.ctor,hc.2,hd,fun u hu=>?_⟩;obtain⟨i,hi,rfl⟩:=List.getElem_of_mem hu;have:=zfu hl h i hi;have e:(zaa w t v.ctor)[i]=nth (zaa w t v.ctor) i:=by simp[nth,List.getD,hi]
    rw[e];exact zrx m this
   ·exact absurd h (by simp)
theorem zvL {w:List Data} (hd:Dp w){m:Nat}{t:Ty}{v:Val} (ht:InS (w.length*4) t) (h:zaP w m t v=true):0<dv (zal w) t:=by
 have a:Snd w (zal w)/\Cmp w (w.length*4+1) (zal w):=zcQ hd.cl (w.length*4+1);have h1:=zrx m h;rcases ht with ht|ht
 ·unfold dv;rw[if_pos ht];omega
 ·refine(zjx (k:=w.length*4+1) a.2 (.inr ht) ?_).1;have:=ht.2;rw[<-this] at h1 ⊢;exact zl9 hd.cl ht.1 h1
theorem zeP {w:List Data}{m:Nat}{t:Ty}{v:Val} (h:zaP w (m+1) t v=true) (hd:t.data≠ -1):v.ctor∈zaj w t/\(zaa w t v.ctor).length=v.kids.length/\∀i,i<v.kids.length->zaP w m (nth (zaa w t v.ctor) i) (nth v.kids i)=true:=by
 unfold zaP at h;rw[if_neg hd] at h;split at h
 ·rename_i hc;have hl:=zhN h;exact⟨by unfold zaj;rw[if_neg hd];exact hc.2,hl,fun i hi=>zfu hl h i (by omega)⟩
 ·exact absurd h (by simp)
end Go.Proofs.YtlfipehhbdjnjaaGreat
namespace Go.Proofs.YtlfipehhbdjnjaaGreat
open Go
set_option linter.unusedSimpArgs false
set_option linter.unusedVariables false
def zmJ (ls:List (List Val)):List (List Val):=ls.foldl (fun acc l=>acc.flatMap fun o=>l.map fun y=>o++[y]) [[]]
def ze2:List Val:=(List.range 10).map fun(n:Nat)=>Val.mk (-1) n []
def zkm (w:List Data):Nat->Ty->List Val
 |0,_=>[]
 |n+1,t=>if t.data = -1 then ze2 else (za3 w t).flatMap fun c=>(zmJ ((zaa w t c).map (zkm w n))).map (Val.mk c 0)
def zdJ:List Nat->Nat
 | []=>1
 |a::r=>a*zdJ r
theorem zuS (acc:List (List Val)) (l:List Val):(acc.flatMap fun o=>l.map fun y=>o++[y]).length=acc.length*l.length:=by
 induction acc with
 |nil=>simp
 |cons a r ih=>simp only[List.flatMap_cons,xaa,xac,ih,xab,Nat.add_mul];omega
theorem ztn (ls:List (List Val)):∀acc:List (List Val),(ls.foldl (fun acc l=>acc.flatMap fun o=>l.map fun y=>o++[y]) acc).length=acc.length*zdJ (ls.map List.length):=by
 induction ls with
 |nil=>intro acc;simp[zdJ]
 |cons l r ih=>intro acc;simp only[List.foldl_cons,ih,zuS,xae,zdJ,Nat.mul_assoc]
theorem ztF (ls:List (List Val)):(zmJ ls).length=zdJ (ls.map List.length):=by unfold zmJ;rw[ztn];simp
def capN (n:Nat):Nat:=if 401<n then 401 else n
end Go.Proofs.YtlfipehhbdjnjaaGreat
namespace Go.Proofs.YtlfipehhbdjnjaaGreat
open Go
set_option linter.unusedSimpArgs false
set_option linter.unusedVariables false
set_option maxRecDepth 100000
set_option maxHeartbeats 2000000
theorem Val.cs_cc (l:List Val):Val.cs l=l.map Val.cc:=by
 rw[Val.cs_eq];exact List.map_congr_left (fun v _=>Val.c_eq v)
end Go.Proofs.YtlfipehhbdjnjaaGreat
namespace Go.Proofs.YtlfipehhbdjnjaaGreat
open Go
set_option linter.unusedSimpArgs false
set_option linter.unusedVariables false
theorem Vals.ok_of:∀ {l:List Val},(∀v∈l,v.ok)->Vals.ok l
 | [],_=>trivial
 |v::r,h=>⟨h v (by simp),Vals.ok_of (fun x hx=>h x (List.mem_cons_of_mem _ hx))⟩
end Go.Proofs.YtlfipehhbdjnjaaGreat
namespace Go.Proofs.YtlfipehhbdjnjaaGreat
open Go
set_option linter.unusedSimpArgs false
set_option linter.unusedVariables false
set_option maxRecDepth 100000
set_option maxHeartbeats 2000000
theorem zd7 {α:Type}{N:Nat}{X Y:List α} (h:N<=X.length):(X++Y).take N=X.take N:=by
 rw[List.take_append,(by omega:N-X.length=0)];simp
theorem zwb {α β:Type} [Inhabited β]{X:List α}{l:List β}{h:β->α}{j m:Nat} (hj:j<l.length) (hl:((X++(l.take j).map h).take (m+1)).length<=m):
  (X++(l.take (j+1)).map h).take (m+1)=(X++(l.take j).map h).take (m+1)++[h (nth l j)]:=by
 have e1:l.take (j+1)=l.take j++[nth l j]:=by rw[List.take_succ_eq_append_getElem hj,zaI hj]
 rw[List.length_take] at hl;have h2:(X++(l.take j).map h).length<=m:=by omega
 rw[e1,xaf,<-List.append_assoc,List.take_of_length_le (by simp at h2 ⊢;omega),List.take_of_length_le (l:=X++(l.take j).map h) (by omega)];rfl
theorem zwa {α β:Type}{X:List α}{l:List β}{h:β->α}{j m:Nat} (hc:¬j<l.length\/¬((X++(l.take j).map h).take (m+1)).length<=m):
  (X++(l.take j).map h).take (m+1)=(X++l.map h).take (m+1):=by
 rcases hc with hc|hc
 ·rw[List.take_of_length_le (l:=l) (by omega)]
 ·rw[List.length_take] at hc;have e:l.map h=(l.take j).map h++(l.drop j).map h:=by rw[<-xaf,List.take_append_drop]
  rw[e,<-List.append_assoc,zd7 (X:=X++(l.take j).map h) (by omega)]
theorem zry {α β:Type} [Inhabited β]{l:List β}{g:β->List α}{j:Nat} (hj:j<l.length):(l.take (j+1)).flatMap g=(l.take j).flatMap g++g (nth l j):=by
 rw[List.take_succ_eq_append_getElem hj,List.flatMap_append,zaI hj];simp
theorem zno {α β:Type}{l:List β}{g:β->List α}{j m:Nat} (hc:¬j<l.length\/¬(((l.take j).flatMap g).take (m+1)).length<=m):
  ((l.take j).flatMap g).take (m+1)=(l.flatMap g).take (m+1):=by
 rcases hc with hc|hc
 ·rw[List.take_of_length_le (l:=l) (by omega)]
 ·rw[List.length_take] at hc;have e:l.flatMap g=(l.take j).flatMap g++(l.drop j).flatMap g:=by rw[<-List.flatMap_append,List.take_append_drop]
  rw[e,zd7 (X:=(l.take j).flatMap g) (by omega)]
structure MatchOk (w:List Data) (n m:Nat) (t:Ty) (p:Pat) (v:Val):Prop where
 shape:zas w n t p=true
 fits:zaP w m t v=true
 pok:p.ok
 vok:v.ok
 psz:p.size<=100
 vsz:v.size<=100
theorem MatchOk.two {w:List Data}{n m:Nat}{t:Ty}{p:Pat}{v:Val} (h:MatchOk w (n+1) m t p v) (h5:p.op=5):
  p.kids.length=2/\MatchOk w n m t (nth p.kids 0) v/\MatchOk w n m t (nth p.kids 1) v:=by
 obtain⟨hl,s0,s1⟩:=zd5 h.shape h5;have hpk:=(Pat.ok_iff p).1 h.pok;have hps:=Pat.size_eq p;have z0:=zeX (l:=p.kids) (i:=0) (by omega);have z1:=zeX (l:=p.kids) (i:=1) (by omega);have hs:=h.psz;exact⟨hl,⟨s0,h.fits,Pats.ok_mem hpk.2 _ (zac (by omega)),h.vok,by omega,h.vsz⟩,⟨s1,h.fits,Pats.ok_mem hpk.2 _ (zac (by omega)),h.vok,by omega,h.vsz⟩⟩
theorem MatchOk.one {w:List Data}{n m:Nat}{t:Ty}{p:Pat}{v:Val} (h:MatchOk w (n+1) m t p v) (h6:p.op=6):
  p.kids.length=1/\MatchOk w n m t (nth p.kids 0) v:=by
 obtain⟨hl,s0⟩:=zdB h.shape h6;have hpk:=(Pat.ok_iff p).1 h.pok;have hps:=Pat.size_eq p;have z0:=zeX (l:=p.kids) (i:=0) (by omega);have hs:=h.psz;exact⟨hl,⟨s0,h.fits,Pats.ok_mem hpk.2 _ (zac (by omega)),h.vok,by omega,h.vsz⟩⟩
structure VarsOk (l:List Bd) (vs:List Vt):Prop where
 len:l.length=vs.length
 nod:(l.map Bd.var).Nodup
 sub:∀x∈l.map Bd.var,x∈vs.map Vt.var
inductive Ex where
 |mk (op n ctor:Int) (kids:List Ex)
 deriving Inhabited
mutual
def Ex.c:Ex->List D
 | .mk op n ctor kids=>[.i op,.i n,.i ctor,.sl (Ex.cs kids)]
def Ex.cs:List Ex->List (List D)
 | []=>[]
 |v::r=>v.c::Ex.cs r
end
abbrev zxl (l:List Ex):D:= .sl (Ex.cs l)
theorem Ex.cs_eq:∀l:List Ex,Ex.cs l=l.map Ex.c
 | []=>rfl
 |v::r=>by simp[Ex.cs,Ex.cs_eq r]
theorem Ex.cs_len (l:List Ex):(Ex.cs l).length=l.length:=by simp[Ex.cs_eq]
def Ex.op:Ex->Int | .mk a0 _ _ _=>a0
def Ex.n:Ex->Int | .mk _ a1 _ _=>a1
def Ex.ctor:Ex->Int | .mk _ _ a2 _=>a2
def Ex.kids:Ex->List Ex | .mk _ _ _ k=>k
abbrev Ex.cc (v:Ex):List D:=[.i v.op,.i v.n,.i v.ctor,.sl (Ex.cs v.kids)]
theorem Ex.c_eq (v:Ex):v.c=v.cc:=by cases v;rfl
theorem Ex.eta (v:Ex):Ex.mk v.op v.n v.ctor v.kids=v:=by cases v;rfl
theorem Ex.cs_at' {pre:List Ex}{x:Ex}{rest xs:List Ex} (h:pre++x::rest=xs):(Ex.cs xs)[pre.length]?=some x.cc:=by rw[Ex.cs_eq,<-Ex.c_eq];exact zaK h
mutual
def exEq:Ex->Ex->Bool
 | .mk a0 a1 a2 ks,.mk b0 b1 b2 ls=>decide (a0=b0)&&(decide (a1=b1)&&(decide (a2=b2)&&zo7 ks ls))
def zo7:List Ex->List Ex->Bool
 | [],[]=>true
 |x::r,y::s=>exEq x y&&zo7 r s
 |_,_=>false
end
mutual
def Ex.ok:Ex->Prop
 | .mk _ _ _ ks=>ks.length<=1000000000000/\Exs.ok ks
def Exs.ok:List Ex->Prop
 | []=>True
 |v::r=>v.ok/\Exs.ok r
end
theorem Exs.ok_mem:∀ {l:List Ex},Exs.ok l->∀v,v∈l->v.ok
 |x::r,h,v,hv=>by
  simp only[Exs.ok] at h;rcases List.mem_cons.1 hv with rfl|hv
  ·exact h.1
  ·exact Exs.ok_mem h.2 v hv
mutual
def Ex.size:Ex->Nat
 | .mk _ _ _ ks=>1+Exs.size ks
def Exs.size:List Ex->Nat
 | []=>0
 |v::r=>v.size+Exs.size r
end
theorem Exs.size_mem:∀ {l:List Ex}{v:Ex},v∈l->v.size<=Exs.size l
 |x::r,v,hv=>by
  simp only[Exs.size];rcases List.mem_cons.1 hv with rfl|hv
  ·omega
  ·have:=Exs.size_mem hv;omega
theorem Ex.ok_iff (v:Ex):v.ok↔v.kids.length<=1000000000000/\Exs.ok v.kids:=by cases v;rfl
theorem Ex.size_eq (v:Ex):v.size=1+Exs.size v.kids:=by cases v;rfl
mutual
theorem ztl:∀v:Ex,exEq v v=true
 | .mk _ _ _ ks=>by simp[exEq,zl3 ks]
theorem zl3:∀l:List Ex,zo7 l l=true
 | []=>rfl
 |v::r=>by simp[zo7,ztl v,zl3 r]
end
theorem Ex.cs_cc (l:List Ex):Ex.cs l=l.map Ex.cc:=by
 rw[Ex.cs_eq];exact List.map_congr_left (fun v _=>Ex.c_eq v)
mutual
def mEx:Ex->Nat
 | .mk _ _ _ ks=>mExs ks
def mExs:List Ex->Nat
 | []=>0
 |v::r=>1+mEx v+mExs r
end
structure Gd where
 op:Int
 var:Int
 n:Int
 deriving Inhabited
structure Cl where
 pat:Pat
 g:Gd
 deriving Inhabited
structure Ft where
 arg:Ty
 res:Ty
 deriving Inhabited
structure Fu where
 ty:Ft
 cls:List Cl
 bodies:List Ex
 deriving Inhabited
abbrev Cl.c (x:Cl):List D:=[.i x.pat.op,.i x.pat.ctor,.i x.pat.n,.i x.pat.m,.i x.pat.var,.sl (Pat.cs x.pat.kids),.i x.g.op,.i x.g.var,.i x.g.n]
abbrev zb4 (l:List Cl):D:= .sl (l.map Cl.c)
abbrev Ft.c (x:Ft):List D:=[.i x.arg.data,.i x.arg.index,.i x.res.data,.i x.res.index]
abbrev Fu.c (x:Fu):List D:=[.i x.ty.arg.data,.i x.ty.arg.index,.i x.ty.res.data,.i x.ty.res.index,zb4 x.cls,zxl x.bodies]
def ClsOk (l:List Cl):Prop:=l.length<=1000000000000/\∀c∈l,c.pat.ok
mutual
def cntE (m:Int):Ex->Int
 | .mk _ _ _ ks=>zed m 1 ks
def zed (m n:Int):List Ex->Int
 | []=>n
 |k::r=>if n<=m then zed m (n+cntE (m-n) k) r else n
end
theorem zr5 {m n:Int}{l:List Ex} (h:¬n<=m):zed m n l=n:=by cases l<;>simp[zed,h]
mutual
theorem zri:∀(v:Ex) (m:Int),1<=cntE m v/\cntE m v<=v.size
 | .mk _ _ _ ks,m=>by
  have:=zkV ks m 1 (by omega);simp only[cntE,Ex.size];push_cast;omega
theorem zkV:∀(l:List Ex) (m n:Int),1<=n->1<=zed m n l/\zed m n l<=n+Exs.size l
 | [],m,n,h=>by simp[zed,Exs.size];omega
 |k::r,m,n,h=>by
  have h1:=zri k (m-n);have h2:=zkV r m (n+cntE (m-n) k) (by omega);simp only[zed,Exs.size];split
  ·push_cast;omega
  ·push_cast;omega
end
mutual
theorem zuf:∀(v:Ex) (m:Int),(cntE m v<=m↔(v.size:Int)<=m)/\(cntE m v<=m->cntE m v=v.size)
 | .mk _ _ _ ks,m=>by
  have:=zn0 ks m 1;simp only[cntE,Ex.size];push_cast;exact this
theorem zn0:∀(l:List Ex) (m n:Int),(zed m n l<=m↔n+(Exs.size l:Int)<=m)/\(zed m n l<=m->zed m n l=n+Exs.size l)
 | [],m,n=>by simp[zed,Exs.size]
 |k::r,m,n=>by
  have h1:=zuf k (m-n);have h2:=zn0 r m (n+cntE (m-n) k);have h3:=zkV r m (n+cntE (m-n) k);have h4:=zri k (m-n);simp only[zed,Exs.size];push_cast
  by_cases hn:n<=m
  ·rw[if_pos hn];by_cases h5:cntE (m-n) k<=m-n
   ·have h6:=h1.2 h5;rw[h6] at h2 ⊢;constructor
    ·rw[h2.1];constructor<;>intro h<;>omega
    ·intro h;rw[h2.2 h];omega
   ·have h7:¬(k.size:Int)<=m-n:=fun h=>h5 (h1.1.2 h);have h8:¬n+cntE (m-n) k<=m:=by omega
    rw[zr5 h8];constructor
    ·constructor<;>intro h<;>omega
    ·intro h;omega
  ·rw[if_neg hn];constructor
   ·constructor<;>intro h<;>omega
   ·intro h;omega
end
def TyOk (n:Nat) (t:Ty):Prop:=TyIn n t/\(t.data = -1->t.index=0)
def gdOk (g:Gd) (vars:List Vt):Bool:=if g.op=0 then decide (g.var=0/\g.n=0) else decide (1<=g.op/\g.op<=2/\0<=g.n/\g.n<=9)&&decide ((⟨g.var,⟨-1,0⟩⟩:Vt)∈vars)
def zd9 (w:List Data) (t:Ty) (p:Pat):List Vt:=zdq (zaO w 10 t p 0).1
def clOk (w:List Data) (t:Ty) (c:Cl):Bool:=isP w t c.pat&&gdOk c.g (zd9 w t c.pat)
def zaR (w:List Data) (t:Ty) (l:List Cl):Bool:=zbF w t&&(decide ((l.length:Int)<=8)&& !l.any fun c=> !clOk w t c)
theorem zhV {xs:List Cl}{f:Nat}{caps:List AV}{hp:Hp}{p:Cl->Bool} (hs:xs.length<=1000000000000) (hcal:Callee Tryz.prog f)
  (hf:∀t∈xs,FnD Tryz.prog f ([.agg [.d (.i t.pat.op),.d (.i t.pat.ctor),.d (.i t.pat.n),.d (.i t.pat.m),.d (.i t.pat.var),.d (zad t.pat.kids),.d (.i t.g.op),.d (.i t.g.var),.d (.i t.g.n)]]++caps) hp (.d (.bool (p t))) []) (k1:subH hp hp) (k2:zdH hp=true) (k3:zaV hp [] (.d .nilp) []=true):
  FnD Tryz.prog 216 [.d (zb4 xs),.fn f caps] hp (.d (.i (idxF p xs 0))) []:=by
 refine bd Tryz.f216 19 [] [] fun w0 F0 own kept hk=>?_;refine xak (ι:=List (Cl)×List (Cl)) hk (fun x=>[(8,.d (.i (x.1.length:Int)))]) [4,5,9,10,11,12,13,14,15,16,17,18] (fun x=>[]) (fun x=>x.1++x.2=xs/\idxF p x.2 x.1.length=idxF p xs 0) (fun x=>x.2.length) ([],xs) ⟨by simp,rfl⟩ ⟨⟨_,rfl,xaq ?_⟩,trivial⟩ trivial (fun x=>zgl hp) (fun x hg1=>?_);focus (first|rfl|(simp;done)|(simp_all;done)|omega)
 obtain⟨pre,rest⟩:=x;dsimp only at hg1 ⊢;refine evc [] [] ?_;refine sq ?_ ?_<;>intro h1 h1p h1s<;>(try simp only[Q] at h1p);rcases rest with _|⟨y,rest⟩
 ·exfalso;simp_all
 refine xaS sl26 .none rfl rfl rfl rfl (zaK hg1.1) rfl ?_;refine ev ?_;refine xaH (cr:=[]) hcal (hf y (by rw[<-hg1.1];simp)) rfl .none rfl rfl rfl (LeL.refl _) k1 k2 (zcS k3 _) rfl ?_;refine tv ?_;refine sq ?_ ?_<;>intro h2 h2p h2s<;>(try simp only[Q] at h2p);focus (refine rn [] (r1 rfl) (.eqd ?_) ⟨rfl,rfl⟩ (fun _ _ h=>h) (fun _ h=>h);all_goals (rw[<-hg1.2];simp[idxF,h1s,h1p,h2s,h2p]))
 refine ar ?_;refine xah ((pre++[y],rest)) ⟨⟨(by have hz:=hg1.1;rw[<-hz];simp),(by rw[<-hg1.2];simp[idxF,h2s])⟩,(by simp),Sub.x (by kernel_rfl) (by kernel_rfl) ⟨⟨_,rfl,xaq ?_⟩,trivial⟩ (by simp) (by simp[zdu]) trivial⟩;focus (first|rfl|(simp;done)|(simp_all;done)|omega)
 have hrest:rest=[]:=by
  rcases rest with _|⟨a,b⟩
  ·rfl
  ·exfalso;have hz:=congrArg List.length (hg1.1);simp only[xaa,xab,xac] at hz;omega
 subst hrest;focus (refine rn [] (r1 rfl) (.eqd ?_) ⟨rfl,rfl⟩ (fun _ _ h=>h) (fun _ h=>h);all_goals (rw[<-hg1.2];simp[idxF,h1s,h1p]))
theorem zgu {xs:List Cl}{f:Nat}{caps:List AV}{hp:Hp}{p:Cl->Bool} (hs:xs.length<=1000000000000) (hcal:Callee Tryz.prog f)
  (hf:∀t∈xs,FnD Tryz.prog f ([.agg [.d (.i t.pat.op),.d (.i t.pat.ctor),.d (.i t.pat.n),.d (.i t.pat.m),.d (.i t.pat.var),.d (zad t.pat.kids),.d (.i t.g.op),.d (.i t.g.var),.d (.i t.g.n)]]++caps) hp (.d (.bool (p t))) []) (k1:subH hp hp) (k2:zdH hp=true) (k3:zaV hp [] (.d .nilp) []=true):
  FnD Tryz.prog 121 [.d (zb4 xs),.fn f caps] hp (.d (.bool (xs.any p))) []:=by
 refine bd Tryz.f121 9 [] [] fun w0 F0 own kept hk=>?_;refine Walk.call (cr:=[]) zwD (zhV hs hcal hf k1 k2 k3) rfl .none rfl rfl (LeL.refl _) k1 k2 (zcS k3 _) rfl ?_;refine ev ?_;refine rn [] (r1 rfl) (.eqd ?_) ⟨rfl,rfl⟩ (fun _ _ h=>h) (fun _ h=>h);rotate_left;all_goals (exact congrArg D.bool (zeE p xs 0))
theorem ziW (w:List Data) (t:Ty) (p:Pat):(zd9 w t p).length<=6:=(zfF w 10 t p 0).2
theorem zmd {g:Gd}{vars:List Vt} (hv:vars.length<=1000000000000):FnD Tryz.prog 218 [.agg [.d (.i g.op),.d (.i g.var),.d (.i g.n)],.d (zcP vars)] [] (.d (.bool (gdOk g vars))) []:=by
 refine bd Tryz.f218 27 [10] [] fun w0 F0 own kept hk=>?_;refine bx 3002 ?_;refine evs [10] [] ?_;refine sq ?_ ?_<;>intro h1 h1p h1s<;>(try simp only[Q,zar] at h1p);refine bu [] [] st38 ?_;refine Walk.eqV eq38 .none rfl rfl rfl rfl rfl ?_;refine evs [10] [] ?_;refine rq ?_;rotate_left;refine wc zcO (zbv) rfl rfl ?_;refine evs [10] [] ?_;refine sq ?_ ?_<;>intro h2 h2p h2s<;>(try simp only[Q,zar] at h2p);refine Walk.call (cr:=[]) zcO (zbv) rfl (.some rfl rfl h2) rfl rfl (LeL.refl _) trivial rfl rfl rfl ?_;refine evs [10] [(14,true)] ?_ ⟨⟨_,rfl,h2⟩,trivial⟩;refine sq ?_ ?_<;>intro h3 h3p h3s<;>(try simp only[Q,zar] at h3p);refine Walk.build st25 (ks:=[0]) (xs:=[_]) rfl rfl (.some rfl rfl h3) rfl rfl rfl ?_;refine Walk.build zsr (ks:=[0,1]) (xs:=[_,_]) rfl rfl (.some rfl rfl h3) rfl rfl rfl ?_;refine Walk.call (cr:=[]) zsU (zeY (v:=⟨g.var,⟨-1,0⟩⟩) hv) rfl (.some rfl rfl h3) rfl rfl (LeL.refl _) trivial rfl rfl rfl ?_;refine evs [10] [(19,true)] ?_ ⟨⟨_,rfl,h3⟩,trivial⟩;refine rq ?_;rotate_left;refine rq ?_;rotate_left;refine sqF ?_;refine rq ?_;rotate_left;all_goals (refine congrArg D.bool ?_;unfold gdOk;first|(rw[if_pos (by omega)];simp_all;done)|(rw[if_neg (by omega)];simp_all[zar];done)|(rw[if_neg (by omega)];simp_all[zar];omega))
theorem zk8 {w:List Data} (hw:WT w){t:Ty}{c:Cl} (ht:TyIn w.length t) (hok:c.pat.ok):
  FnD Tryz.prog 123 [.d (zam w),.agg [.d (.i t.data),.d (.i t.index)],.agg [.d (.i c.pat.op),.d (.i c.pat.ctor),.d (.i c.pat.n),.d (.i c.pat.m),.d (.i c.pat.var),.d (zad c.pat.kids),.d (.i c.g.op),.d (.i c.g.var),.d (.i c.g.n)]] [] (.d (.bool (clOk w t c))) []:=by
 have ht':TyIn w.length ⟨t.data,t.index⟩:=ht;have hvl:=ziW w t c.pat;refine bd Tryz.f123 24 [] [] fun w0 F0 own kept hk=>?_;refine bx 3004 ?_;refine bx 3005 ?_;refine ev ?_;refine wc zsL (zfr hw ht' hok) rfl rfl ?_;refine ev ?_;refine sq ?_ ?_<;>intro h1 h1p h1s<;>(try simp only[Q] at h1p);refine Walk.call (cr:=[]) zwE (zmd (g:=c.g) (vars:=zd9 w t c.pat) (by omega)) rfl (.some rfl rfl h1) rfl rfl (LeL.refl _) trivial rfl rfl rfl ?_;refine evs [] [(18,true)] ?_ ⟨⟨_,rfl,h1⟩,trivial⟩;refine rq ?_;rotate_left;refine rq ?_;rotate_left;all_goals (refine congrArg D.bool ?_;unfold clOk;have hte:(⟨t.data,t.index⟩:Ty)=t:=rfl;(simp_all;done))
theorem zhT {w:List Data} (hw:WT w){a k:Int}{c:Cl} (ht:TyIn w.length ⟨a,k⟩) (hok:c.pat.ok):
  FnD Tryz.prog 122 [.agg [.d (.i c.pat.op),.d (.i c.pat.ctor),.d (.i c.pat.n),.d (.i c.pat.m),.d (.i c.pat.var),.d (zad c.pat.kids),.d (.i c.g.op),.d (.i c.g.var),.d (.i c.g.n)],.ref 3003 0,.ref 3004 0] [(3003,some (.box [.d (zam w)])),(3004,some (.box [.d (.i a),.d (.i k)]))] (.d (.bool (!clOk w ⟨a,k⟩ c))) []:=by
 refine bd Tryz.f122 10 [] [] fun w0 F0 own kept hk=>?_;refine bx 3901 ?_;refine ev ?_;refine wc zwm (zk8 (t:=⟨a,k⟩) (c:=c) hw ht hok) rfl rfl ?_;refine ev ?_;refine rn [] (r1 rfl) (.eqd ?_) ⟨rfl,rfl⟩ (SubH.get ⟨rfl,⟨rfl,trivial⟩⟩) (fun _ h=>h);rotate_left;all_goals (rfl)
theorem ze7 {w:List Data} (hs:WSmall w){a k:Int}{l:List Cl} (hl:ClsOk l):
  FnD Tryz.prog 58 [.d (zam w),.agg [.d (.i a),.d (.i k)],.d (zb4 l)] [] (.d (.bool (zaR w ⟨a,k⟩ l))) []:=by
 have hll:=hl.1;refine bd Tryz.f58 21 [] [] fun w0 F0 own kept hk=>?_;refine bx 3003 ?_;refine bx 3004 ?_;refine ev ?_;refine wc zwj (zkx hs) rfl rfl ?_;refine ev ?_;refine sq ?_ ?_<;>intro h1 h1p h1s<;>(try simp only[Q] at h1p);refine sq ?_ ?_<;>intro h2 h2p h2s<;>(try simp only[Q] at h2p);refine xaJ (xs:=[_,_]) rfl (.some rfl rfl h2) rfl rfl ?_;refine Walk.call (cr:=[]) zwk (zgu (p:=fun c=> !clOk w ⟨a,k⟩ c) hl.1 zwl (fun t htm=>zhT (ziT hs (zfL (by assumption)).1) (zfL (by assumption)).2.1 (hl.2 t htm)) ⟨rfl,rfl,trivial⟩ rfl rfl) rfl (.some rfl rfl h2) rfl rfl (LeL.refl _) ⟨rfl,rfl,trivial⟩ rfl rfl rfl ?_;refine evs [] [(15,true)] ?_ ⟨⟨_,rfl,h2⟩,trivial⟩;refine rq ?_;rotate_left;refine rq ?_;rotate_left;refine sqF ?_;refine rq ?_;rotate_left;all_goals (refine congrArg D.bool ?_;unfold zaR;first|(simp_all;done)|(simp_all;omega))
def AZ (w:List Data):Prop:=∀t c,c∈zaj w t->TyIn w.length t->∀u∈zaa w t c,u.data = -1->u.index=0
theorem zuX {w:List Data} (hv:za0 w=true):AZ w:=by
 have hW:=(zco w).1 hv;rintro ⟨a,k⟩ c hc ht u hu hd
 obtain⟨d,rfl,h1,j,rfl,h3⟩:=zct ht hc;have hco:=hW.ctor _ (zac h1) _ (zac h3);simp only[zbA,xad,decide_eq_true_eq,Bool.not_eq_true',List.any_eq_false,Bool.not_eq_false'] at hco;have hall:=hco.2.2.2;simp only[zaa,Int.toNat_natCast] at hu;obtain⟨x,hx,rfl⟩:=List.mem_map.1 hu;have hxo:=hall x hx;simp only[zbK,zar,Bool.or_eq_true,xad,decide_eq_true_eq,and_true,Bool.not_eq_true',Bool.not_eq_false] at hxo;unfold zcp at hd ⊢;split at hd
 ·rename_i hi;rw[if_pos hi];dsimp only at hd ⊢;omega
 ·rename_i hi;rw[if_neg hi];omega
theorem zt4 {n:Nat}{t:Ty} (h:zd8 n t=true):TyOk n t:=by
 refine⟨zt3 h,fun hd=>?_⟩;simp only[zd8,zar,Bool.or_eq_true,xad,decide_eq_true_eq,and_true] at h;omega
theorem zoK {w:List Data}{t:Ty}{p:Pat} (h:isP w t p=true):zd9 w t p=zaG w 10 t p:=by
 unfold isP at h;simp only[xad,decide_eq_true_eq] at h;have e:=(zfE w 10 t p 0).1;have hw:zbV w 10 t p 0=true:=by
  unfold zbV;rw[h.1,h.2.2,decide_eq_true (by omega)];rfl
 rw[if_pos hw] at e;unfold zd9;rw[e];rfl
theorem zt7 {w:List Data}{t:Ty}{p:Pat} (h:isP w t p=true):zcD (zaG w 10 t p)=true:=by
 unfold isP at h;simp only[xad] at h;exact zht w 10 t p h.1 h.2.2
theorem zqQ {w:List Data} (hw:WT w) (haz:AZ w):∀(n:Nat){t:Ty}{p:Pat},zas w n t p=true->TyOk w.length t->∀v∈zaG w n t p,TyOk w.length v.ty
 |0,t,p,h,_=>by simp[zas] at h
 |n+1,t,p,h,ht=>by
  obtain⟨ho,hlen⟩:=zbT h;intro v hv;have hto:∀u∈zag w t p,TyOk w.length u:=fun u hu=>by
   refine⟨zf8 (a:=t.data) (k:=t.index) hw ht.1 ho u hu,fun hd=>?_⟩;unfold zag at hu;split at hu
   ·rename_i h4;exact haz t p.ctor (zcc ho h4) ht.1 u hu hd
   ·split at hu
    ·simp only[List.mem_cons,List.not_mem_nil,or_false,or_self] at hu;rw[hu] at hd ⊢;exact ht.2 hd
    ·split at hu
     ·simp only[List.mem_cons,List.not_mem_nil,or_false] at hu;rw[hu] at hd ⊢;exact ht.2 hd
     ·simp at hu
  simp only[zaG,List.mem_append] at hv;rcases hv with hv|hv
  ·unfold zaT at hv;split at hv
   ·simp only[List.mem_cons,List.not_mem_nil,or_false] at hv;rw[hv];exact ht
   ·simp at hv
  ·have key:∀(a:List Ty) (b:List Pat),(∀i,i<a.length->i<b.length->∀v∈zaG w n (nth a i) (nth b i),TyOk w.length v.ty)->∀v∈zbc (zaG w n) a b,TyOk w.length v.ty:=by
    intro a;induction a with
    |nil=>intro b _ v hv;simp[zbc] at hv
    |cons x r ih=>
     intro b h v hv;cases b with
     |nil=>simp[zbc] at hv
     |cons y s=>
      simp only[zbc,List.mem_append] at hv;rcases hv with hv|hv
      ·exact h 0 (by simp) (by simp) v hv
      ·exact ih s (fun i h1 h2=>h (i+1) (by simpa using h1) (by simpa using h2)) v hv
   refine key (zdi w t p) p.kids (fun i h1 h2=>?_) v hv;have hvt:i<(zag w t p).length/\nth (zdi w t p) i=nth (zag w t p) i:=by
    unfold zdi at h1 ⊢;split at h1
    ·rename_i h5;rw[if_pos h5];rw[List.length_take] at h1;refine⟨by omega, ?_⟩;have:i=0:=by omega
     subst this;cases hT:zag w t p with
     |nil=>rfl
     |cons a b=>rfl
    ·rename_i h5;rw[if_neg h5];exact⟨h1,rfl⟩
   rw[hvt.2];exact zqQ hw haz n (zbS h (by omega)) (hto _ (zac hvt.1))
def gdS (g:Gd) (vars:List Vt):Bool:=if g.op=0 then decide (g.var=0/\g.n=0) else decide (1<=g.op/\g.op<=2/\0<=g.n/\g.n<=9)&&(decide (0<=zbH vars g.var)&&decide ((nth vars (zbH vars g.var).toNat).ty.data = -1))
theorem zxo {n:Nat}{g:Gd}{vars:List Vt} (hn:zcD vars=true) (hv:∀v∈vars,TyOk n v.ty):gdS g vars=gdOk g vars:=by
 unfold gdS gdOk;split
 ·rfl
 ·congr 1
  have hnod:=of_decide_eq_true hn;rw[Bool.eq_iff_iff];simp only[xad,decide_eq_true_eq];constructor
  ·rintro ⟨h1,h2⟩
   rcases ze3 vars g.var with ⟨h3,_⟩|⟨k,h3,h4,h5,_⟩
   ·omega
   ·rw[h3] at h2;simp only[Int.toNat_natCast] at h2;have hm:=zac h4;have ho:=(hv _ hm).2 h2;have:nth vars k=⟨g.var,⟨-1,0⟩⟩:=by
     generalize nth vars k=z at *;obtain⟨zv,⟨za,zk⟩⟩:=z;dsimp only at h5 h2 ho;rw[h5,h2,ho]
    rw[<-this];exact hm
  ·intro hm;rcases ze3 vars g.var with ⟨_,h4⟩|⟨k,h3,h4,h5,_⟩
   ·exact absurd rfl (h4 _ hm)
   ·refine⟨by omega, ?_⟩;rw[h3];simp only[Int.toNat_natCast];obtain⟨j,hj,e⟩:=List.getElem_of_mem hm;have ej:nth vars j=⟨g.var,⟨-1,0⟩⟩:=by simp[nth,List.getD,hj,e]
    have:k=j:=zjP hnod h4 hj (by rw[h5,ej]);rw[this,ej]
theorem zm1 {g:Gd}{vars:List Vt} (hv:vars.length<=1000000000000):FnD Tryz.prog 224 [.agg [.d (.i g.op),.d (.i g.var),.d (.i g.n)],.d (zcP vars)] [] (.d (.bool (gdS g vars))) []:=by
 have hlt:=fun h=>zk2 (l:=vars) (n:=g.var) h;refine bd Tryz.f224 50 [] [3] fun w0 F0 own kept hk=>?_;refine bx 3002 ?_;refine ev ?_;refine sq ?_ ?_<;>intro h1 h1p h1s<;>(try simp only[Q] at h1p);refine sq ?_ ?_<;>intro h2 h2p h2s<;>(try simp only[Q] at h2p);refine rq ?_;rotate_left;refine rq ?_;rotate_left;refine xal ?_;refine xaA 18 [(34,.d (.bool (decide (¬(1<=g.op/\g.op<=2/\0<=g.n/\g.n<=9)))))] [17,18,19,20,21,22,23,24,25,26,27,28,29,30,31,32,33] ?_ ?_;refine ev ?_;refine sq ?_ ?_<;>intro h3 h3p h3s<;>(try simp only[Q] at h3p);refine sq ?_ ?_<;>intro h4 h4p h4s<;>(try simp only[Q] at h4p);refine sqT ?_;focus (exact jn rfl (xap (by((rw[Bool.eq_iff_iff];simp_all;omega)))))
 refine sq ?_ ?_<;>intro h5 h5p h5s<;>(try simp only[Q] at h5p);focus (exact jn rfl (xap (by((rw[Bool.eq_iff_iff];simp_all;done)))))
 focus (exact jn rfl (xap (by((rw[Bool.eq_iff_iff];simp_all;done)))))
 refine sqF ?_;refine sq ?_ ?_<;>intro h6 h6p h6s<;>(try simp only[Q] at h6p);focus (exact jn rfl (xap (by((rw[Bool.eq_iff_iff];simp_all;done)))))
 focus (exact jn rfl (xap (by((rw[Bool.eq_iff_iff];simp_all;done)))))
 refine xaz ?_;refine tv ?_;refine sq ?_ ?_<;>intro h7 h7p h7s<;>(try simp only[Q] at h7p);refine rq ?_;rotate_left;refine wc zpu (zfI hv) rfl rfl ?_;refine ev ?_;refine sq ?_ ?_<;>intro h8 h8p h8s<;>(try simp only[Q] at h8p);refine xaS (i:=(zbH vars g.var).toNat) zcZ (.some rfl rfl h8) rfl rfl rfl (by have:=hlt (by omega);omega) (zap (by have:=hlt (by omega);omega)) rfl ?_;refine evs [] [(41,true)] ?_ ⟨⟨_,rfl,h8⟩,trivial⟩;refine rq ?_;rotate_left;refine rq ?_;rotate_left;all_goals (refine congrArg D.bool ?_;unfold gdS;first|(rw[if_pos (by omega)];simp_all;done)|(rw[if_neg (by omega),decide_eq_false (by omega),Bool.false_and];done)|(rw[if_neg (by omega),decide_eq_true (by omega),Bool.true_and,decide_eq_false (by omega),Bool.false_and];done)|(rw[if_neg (by omega)];simp_all;done))
theorem zqw {w:List Data} (hw:WT w) (haz:AZ w){t:Ty}{c:Cl} (ht:TyOk w.length t) (hok:c.pat.ok) (hsz:c.pat.size<=1000000000000):
  FnD Tryz.prog 127 [.d (zam w),.agg [.d (.i t.data),.d (.i t.index)],.agg [.d (.i c.pat.op),.d (.i c.pat.ctor),.d (.i c.pat.n),.d (.i c.pat.m),.d (.i c.pat.var),.d (zad c.pat.kids),.d (.i c.g.op),.d (.i c.g.var),.d (.i c.g.n)]] [] (.d (.bool (clOk w t c))) []:=by
 have ht':TyIn w.length ⟨t.data,t.index⟩:=ht.1;have hcl:clOk w t c=(isP w t c.pat&&gdOk c.g (zd9 w t c.pat)):=rfl;cases hp:isP w t c.pat with
 |false=>
  have hpi:=zfm hw ht' hok hsz;have hpi':FnD Tryz.prog 223 [.d (zam w),.agg [.d (.i t.data),.d (.i t.index)],.agg [.d (.i c.pat.op),.d (.i c.pat.ctor),.d (.i c.pat.n),.d (.i c.pat.m),.d (.i c.pat.var),.d (zad c.pat.kids)]] [] (.d (.bool false)) []:=by rw[<-hp];exact hpi
  rw[hcl,hp,Bool.false_and];refine bd Tryz.f127 22 [] [] fun w0 F0 own kept hk=>?_;refine bx 3004 ?_;refine bx 3005 ?_;refine ev ?_;refine wc zlJ (hpi') rfl rfl ?_;refine evd [] [] ?_;refine sq ?_ ?_<;>intro h1 h1p h1s<;>(try simp only[Q] at h1p);exfalso;contradiction;refine dr ?_;refine rq ?_;rotate_left;all_goals (rfl)
 |true=>
  have hpi:=zfm hw ht' hok hsz;have hpi':FnD Tryz.prog 223 [.d (zam w),.agg [.d (.i t.data),.d (.i t.index)],.agg [.d (.i c.pat.op),.d (.i c.pat.ctor),.d (.i c.pat.n),.d (.i c.pat.m),.d (.i c.pat.var),.d (zad c.pat.kids)]] [] (.d (.bool true)) []:=by rw[<-hp];exact hpi
  have hsh:zas w 10 ⟨t.data,t.index⟩ c.pat=true:=by
   have:=hp;unfold isP at this;simp only[xad] at this;exact this.1
  have hvl:=zea w 10 ⟨t.data,t.index⟩ c.pat;have hge:=zxo (g:=c.g) (zt7 hp) (zqQ hw haz 10 hsh ht);have hge':gdS c.g (zaG w 10 ⟨t.data,t.index⟩ c.pat)=gdOk c.g (zd9 w t c.pat):=by rw[zoK hp];exact hge
  rw[hcl,hp,Bool.true_and,<-hge'];refine bd Tryz.f127 22 [] [] fun w0 F0 own kept hk=>?_;refine bx 3004 ?_;refine bx 3005 ?_;refine ev ?_;refine wc zlJ (hpi') rfl rfl ?_;refine evd [] [] ?_;refine sq ?_ ?_<;>intro h1 h1p h1s<;>(try simp only[Q] at h1p);refine Walk.call (cr:=[]) zgR (zdf hw hsh (by omega) ht' hok hsz) rfl (.some rfl rfl h1) rfl rfl (LeL.refl _) trivial rfl rfl rfl ?_;refine Walk.call (cr:=[]) zwG (zm1 (g:=c.g) (by omega)) rfl (.some rfl rfl h1) rfl rfl (LeL.refl _) trivial rfl rfl rfl ?_;refine evd [] [(12,true)] ?_ ⟨⟨_,rfl,h1⟩,trivial⟩;refine dr ?_;refine rq ?_;rotate_left;exfalso;contradiction;all_goals (rfl)
def ClsSz (l:List Cl):Prop:=∀c∈l,c.pat.size<=1000000000000
theorem zxS {w:List Data}{t:Ty} (h:zbF w t=true):TyOk w.length t:=by
 unfold zbF at h;rw[xad] at h;exact zt4 h.2
theorem zxh {w:List Data}{t:Ty}{l:List Cl}{i:Nat} (hi:i<l.length) (h:clOk w t (nth l i)=false):zaR w t l=false:=by
 unfold zaR;have:l.any (fun c=> !clOk w t c)=true:=List.any_eq_true.2 ⟨nth l i,zac hi,by rw[h];rfl⟩;rw[this];simp
theorem zvB {w:List Data}{t:Ty}{l:List Cl} (ht:zbF w t=true) (hl:l.length<=8) (h:∀i,i<l.length->clOk w t (nth l i)=true):zaR w t l=true:=by
 unfold zaR;rw[ht,decide_eq_true (by omega),Bool.true_and,Bool.true_and,Bool.not_eq_true',List.any_eq_false];intro c hc;obtain⟨i,hi,rfl⟩:=List.getElem_of_mem hc;have:=h i hi;simp only[nth,List.getD,List.getElem?_eq_getElem hi,Option.getD_some] at this;simp[this]
theorem zvC {w:List Data}{t:Ty}{l:List Cl} (h:8<l.length):zaR w t l=false:=by
 unfold zaR;rw[decide_eq_false (by omega),Bool.false_and,Bool.and_false]
theorem zxi {w:List Data}{t:Ty}{l:List Cl} (h:zbF w t=false):zaR w t l=false:=by
 unfold zaR;rw[h,Bool.false_and]
theorem zfj {w:List Data} (hs:WSmall w){a k:Int}{l:List Cl} (hl:ClsOk l) (hz:ClsSz l):
  FnD Tryz.prog 60 [.d (zam w),.agg [.d (.i a),.d (.i k)],.d (zb4 l)] [] (.d (.bool (zaR w ⟨a,k⟩ l))) []:=by
 have hll:=hl.1;refine bd Tryz.f60 31 [] [] fun w0 F0 own kept hk=>?_;refine bx 3004 ?_;refine ev ?_;refine wc zwn (zlo hs) rfl rfl ?_;refine ev ?_;refine sq ?_ ?_<;>intro h1 h1p h1s<;>(try simp only[Q,Int.natCast_inj] at h1p);refine sqT ?_;refine rq ?_;rotate_left;refine sq ?_ ?_<;>intro h3 h3p h3s<;>(try simp only[Q,Int.natCast_inj] at h3p);refine rq ?_;rotate_left;refine xak (ι:=Nat) hk (fun i=>[(7,.d (.i (i:Int)))]) [6,17,18,19,20,21,22,23,24,25,26,27,28,29,30] (fun i=>[]) (fun i=>i<=l.length/\∀i',i'<i->clOk w ⟨a,k⟩ (nth l i')=true) (fun i=>l.length-i) 0 ⟨by omega,fun _ h=>absurd h (by omega)⟩ ⟨⟨_,rfl,xaq ?_⟩,trivial⟩ trivial (fun x=>rfl) (fun i hg1=>?_);focus (first|rfl|(simp;done)|(simp_all;done)|omega)
 refine evc [] [] ?_;refine sq ?_ ?_<;>intro h4 h4p h4s<;>(try simp only[Q,Int.natCast_inj] at h4p);refine xaS sl26 .none rfl rfl rfl rfl (zap (by omega)) rfl ?_;refine evd [] [] ?_;refine wc zwo (zqw (t:=⟨a,k⟩) (c:=nth l i) (ziT hs (zfL (by assumption)).1) (zuX (zfL (by assumption)).1) (zxS (by assumption)) (hl.2 _ (zac (by omega))) (hz _ (zac (by omega)))) rfl rfl ?_;refine evd [] [] ?_;refine dr ?_;refine sq ?_ ?_<;>intro h5 h5p h5s<;>(try simp only[Q,Int.natCast_inj] at h5p);refine rq ?_;rotate_left;refine ar ?_;refine xah (i+1) ⟨⟨by omega,zaX hg1.2 (by assumption)⟩,(by omega),sx ⟨⟨_,rfl,xaq ?_⟩,trivial⟩ trivial⟩;focus (first|rfl|(simp;done)|(simp_all;done)|omega)
 refine rq ?_;rotate_left;all_goals (refine congrArg D.bool ?_;first|(rw[zxi (by assumption)];done)|(rw[zvC (by omega)];done)|(rw[zxh (i:=i) (by omega) (by assumption)];done)|(rw[zvB (by assumption) (by omega) (fun x hx=>hg1.2 x (by omega))];done))
theorem zvA {w:List Data}{a k:Int}{l:List Cl} (h:zaR w ⟨a,k⟩ l=true):zbF w ⟨a,k⟩=true/\l.length<=8:=by
 unfold zaR at h;simp only[xad,decide_eq_true_eq] at h;exact⟨h.1,by omega⟩
abbrev zlC (x:UInt8):List D:=[.int .u8 (x.toNat:Int)]
abbrev zcl (b:Str):D:= .sl (b.map zlC)
abbrev rdB (b:Str) (p:Nat):Res:= .box [.d (zcl b),.d (.i p)]
theorem zng (u:UInt8):0<=IntKind.i64.wrap (u.toNat:Int)/\IntKind.i64.wrap (u.toNat:Int)<=255:=by
 have h:u.toNat<256:=u.toNat_lt;rw[zeb (by omega)];omega
def zhy (b:Str) (p:Nat):Int:=
 IntKind.i64.wrap ((nth b (p % b.length)).toNat:Int)*131+IntKind.i64.wrap ((nth b ((p*7+3) % b.length)).toNat:Int)*1117+((p:Int)+1-1)*29+((p:Int)+1-1) / ((b.map zlC).length:Int)*53
def zan (b:Str) (p:Nat) (n:Int):Int:=
 if n<1\/b.length=0 then 0
 else if p<b.length then IntKind.i64.wrap ((nth b p).toNat:Int) % n
 else xorV (zhy b p) (zhy b p / 64) % n
theorem zcd {b:Str}{p:Nat}{n:Int} (h:1<=n):0<=zan b p n/\zan b p n<n:=by
 unfold zan;split
 ·omega
 ·split
  ·exact⟨Int.emod_nonneg _ (by omega),Int.emod_lt_of_pos _ (by omega)⟩
  ·exact⟨Int.emod_nonneg _ (by omega),Int.emod_lt_of_pos _ (by omega)⟩
theorem zaM {b:Str}{p:Nat}{n:Int} (hb:b.length<=2000) (hp:p<=1000000000000) (hn:n<=1000000000000):
  FnD Tryz.prog 57 [.ref 900 0,.d (.i n)] [(900,some (rdB b p))] (.d (.i (zan b p n))) [(900,some (rdB b (p+1)))]:=by
 have w1:=zng (nth b (p % b.length));have w2:=zng (nth b ((p*7+3) % b.length));have w3:=zng (nth b p);have hlen:((b.map zlC).length:Int)=b.length:=by simp
 have d1:0<=((p:Int)+1-1) / ((b.map zlC).length:Int):=Int.ediv_nonneg (by omega) (by omega);have d2:((p:Int)+1-1) / ((b.map zlC).length:Int)<=(p:Int)+1-1:=Int.ediv_le_self _ (by omega);have hx:0<=zhy b p/\zhy b p<=100*1000000000000:=by unfold zhy;omega
 have hx2:=zwg (m:=zhy b p) (n:=zhy b p / 64) (by omega) (by omega);have k1:(p:Int)+1-1=(p:Int):=by omega
 have hx3:=hx2;have hx4:=hx;unfold zhy at hx3 hx4;refine bd Tryz.f57 99 [46,57,74,89,94,95,98] [] fun w0 F0 own kept hk=>?_;refine ar ?_;refine so ty3 ?_;refine tv ?_;refine sq ?_ ?_<;>intro h1 h1p h1s<;>(try simp only[Q] at h1p);refine sqT ?_;refine rn [(900,some (rdB b (p+1)))] (r1 rfl) (.eqd ?_) ⟨rfl,rfl⟩ (SubO.get ⟨.inr ?_,⟨.inl rfl,trivial⟩⟩) (zaC rfl);rotate_left 2;refine sq ?_ ?_<;>intro h3 h3p h3s<;>(try simp only[Q] at h3p);refine rn [(900,some (rdB b (p+1)))] (r1 rfl) (.eqd ?_) ⟨rfl,rfl⟩ (SubO.get ⟨.inr ?_,⟨.inl rfl,trivial⟩⟩) (zaC rfl);rotate_left 2;refine ar ?_;refine sq ?_ ?_<;>intro h4 h4p h4s<;>(try simp only[Q] at h4p);refine xaS (i:=p) sl22 .none rfl rfl rfl (by omega) (zap (by omega)) rfl ?_;refine evs [46,57,74,89,94,95,98] [] ?_;refine xaK (by rw[un5];rfl) un3 .none rfl rfl ?_;refine evs [46,57,74,89,94,95,98] [] ?_;refine xbe .none rfl rfl rfl (by omega) ?_;refine evs [46,57,74,89,94,95,98] [] ?_;refine rn [(900,some (rdB b (p+1)))] (r1 rfl) (.eqd ?_) ⟨rfl,rfl⟩ (SubO.get ⟨.inr ?_,⟨.inl rfl,trivial⟩⟩) (zaC rfl);rotate_left 2;refine xbe .none rfl rfl rfl (by omega) ?_;refine xaS (i:=p % b.length) sl22 .none rfl rfl rfl (by rw[k1,hlen];rfl) (zap (Nat.mod_lt _ (by omega))) rfl ?_;refine evd [46,57,74,89,94,95,98] [] ?_;refine xaK (by rw[un5];rfl) un3 .none rfl rfl ?_;refine evd [46,57,74,89,94,95,98] [] ?_;refine ar ?_;refine ar ?_;refine ar ?_;refine xbe .none rfl rfl rfl (by omega) ?_;refine xaS (i:=(p*7+3) % b.length) sl22 .none rfl rfl rfl (by rw[k1,hlen];rfl) (zap (Nat.mod_lt _ (by omega))) rfl ?_;refine evd [46,57,74,89,94,95,98] [] ?_;refine xaK (by rw[un5];rfl) un3 .none rfl rfl ?_;refine evd [46,57,74,89,94,95,98] [] ?_;refine ar ?_;refine ar ?_;refine ar ?_;refine ar ?_;refine xbc .none rfl rfl rfl (by omega) ?_;refine evd [46,57,74,89,94,95,98] [] ?_;refine ar ?_;refine ar ?_;refine dr ?_;refine xbc .none rfl rfl rfl (by omega) ?_;refine Walk.xorI .none rfl rfl rfl ?_;refine evs [46,57,74,89,94,95,98] [] ?_;refine xbe .none rfl rfl rfl (by omega) ?_;refine evs [46,57,74,89,94,95,98] [] ?_;refine rn [(900,some (rdB b (p+1)))] (r1 rfl) (.eqd ?_) ⟨rfl,rfl⟩ (SubO.get ⟨.inr ?_,⟨.inl rfl,trivial⟩⟩) (zaC rfl);rotate_left 2;all_goals (first|((refine congrArg D.i ?_;unfold zan;first|(rw[if_pos (by omega)];done)|(rw[if_neg (by omega),if_pos (by omega)];done)|(rw[if_neg (by omega),if_neg (by omega)];rfl));done)|(rfl))
def numV (b:Str) (p:Nat) (l:List Int):Int:=nth l (zan b p l.length).toNat
theorem zbP {b:Str}{p:Nat}{l:List Int} (hb:b.length<=2000) (hp:p<=1000000000000) (hl:1<=l.length) (hl2:l.length<=1000):
  FnD Tryz.prog 174 [.ref 900 0,.d (zbB l)] [(900,some (rdB b p))] (.d (.i (numV b p l))) [(900,some (rdB b (p+1)))]:=by
 have hv:=zcd (b:=b) (p:=p) (n:=((l.map fun n=>[D.i n]).length:Int)) (by simp;omega);have hlen:((l.map fun n=>[D.i n]).length:Int)=l.length:=by simp
 refine bd Tryz.f174 12 [] [] fun w0 F0 own kept hk=>?_;refine wd zbQ (zaM hb hp (by simp;omega)) rfl rfl ⟨rfl,trivial⟩ ?_;refine xaS (i:=(zan b p ((l.map fun n=>[D.i n]).length:Int)).toNat) sl29 .none rfl rfl rfl (by omega) (zap (by omega)) rfl ?_;refine ev ?_;refine rn [(900,some (rdB b (p+1)))] (r1 rfl) (.eqd ?_) ⟨rfl,rfl⟩ (SubO.get ⟨.inr ?_,⟨.inl rfl,trivial⟩⟩) (zaC rfl);rotate_left 2;all_goals (first|((refine congrArg D.i ?_;unfold numV;rw[hlen]);done)|(rfl))
theorem zhE {b:Str} (hb:b.length<=1000000000000):FnD Tryz.prog 55 [.d (zcl b)] [] (.ref 900 0) [(900,some (rdB (b.take 2000) 0))]:=by
 refine bd Tryz.f55 11 [] [] fun w0 F0 own kept hk=>?_;refine sq ?_ ?_<;>intro h1 h1p h1s<;>(try simp only[Q] at h1p);refine xaO (b:=2000) sl22 .none rfl rfl rfl (by intro x hx;obtain⟨y,_,rfl⟩:=List.mem_map.1 hx;rfl) rfl rfl (by simp at *;omega) ?_;refine ev ?_;refine bu [0] [_] zvn ?_;refine bx 900 ?_;refine ev ?_;focus (refine rn [(900,some (rdB (b.take 2000) 0))] (r1 rfl) (.refl _) ⟨rfl,rfl⟩ (SubH.get ⟨(by first|(simp[getH,rdB,zcl,List.map_take];done)|(show some (Res.box _)=some (Res.box _);rw[List.take_of_length_le (by simp at *;omega)];rfl)),trivial⟩) (zaC rfl);all_goals (first|rfl|(simp[h1s,h1p];done)|(simp_all;done)|(simp_all;omega)|omega))
 refine bu [0] [_] zvn ?_;refine bx 900 ?_;refine ev ?_;focus (refine rn [(900,some (rdB (b.take 2000) 0))] (r1 rfl) (.refl _) ⟨rfl,rfl⟩ (SubH.get ⟨(by first|(simp[getH,rdB,zcl,List.map_take];done)|(show some (Res.box _)=some (Res.box _);rw[List.take_of_length_le (by simp at *;omega)];rfl)),trivial⟩) (zaC rfl);all_goals (first|rfl|(simp[h1s,h1p];done)|(simp_all;done)|(simp_all;omega)|omega))
def cutL (c:UInt8):Str->Str->List Str
 |cur,[]=>[cur]
 |cur,x::r=>if x=c then cur::cutL c [] r else cutL c (cur++[x]) r
theorem zdX (c:UInt8):∀(s cur:Str),(cutL c cur s).length<=s.length+1
 | [],cur=>by simp[cutL]
 |x::r,cur=>by
  simp only[cutL];split
  ·have:=zdX c r [];simp only[xab];omega
  ·have:=zdX c r (cur++[x]);simp only[xab];omega
theorem ziw (c:UInt8):∀(s cur:Str),1<=(cutL c cur s).length
 | [],cur=>by simp[cutL]
 |x::r,cur=>by
  simp only[cutL];split
  ·simp
  ·exact ziw c r (cur++[x])
theorem ziv (c:UInt8):∀(s cur:Str) (t:Str),t∈cutL c cur s->t.length<=cur.length+s.length
 | [],cur,t,h=>by simp only[cutL,List.mem_singleton] at h;subst h;simp
 |x::r,cur,t,h=>by
  simp only[cutL] at h;split at h
  ·rcases List.mem_cons.1 h with rfl|h
   ·simp
   ·have:=ziv c r [] t h;simp only[xab,xai] at this ⊢;omega
  ·have:=ziv c r (cur++[x]) t h;simp only[xaa,xab,xai] at this ⊢;omega
theorem zhe {s:Str}{i:Nat} (h:i<s.length):s[i]?=some (nth s i):=by rw[zaI h];exact List.getElem?_eq_getElem h
theorem zkX {s:Str}{f i:Nat} (hf:f<=i) (h:i<s.length):(s.take (i+1)).drop f=(s.take i).drop f++[nth s i]:=by
 rw[List.take_add_one,List.getElem?_eq_getElem h,List.drop_append_of_le_length (by simp;omega),zaI h];rfl
theorem zpB {s:Str}{f i:Nat}:(s.drop f).take (i-f)=(s.take i).drop f:=by rw[List.drop_take]
theorem zcn {s:Str}{c:UInt8} (hs:s.length<=1000000000000):FnD Tryz.prog 261 [.d (.str s),.d (.int .u8 (c.toNat:Int))] [] (.d (zeO (cutL c [] s))) []:=by
 have hu:∀a:UInt8,((a.toNat:Int)=(c.toNat:Int))↔a=c:=fun a=>by rw[Int.natCast_inj];exact UInt8.toNat_inj
 refine bd Tryz.f261 36 [] [] fun w0 F0 own kept hk=>?_;refine xbg 1 zbU .none rfl rfl ?_;refine ev ?_;refine xak (ι:=Nat×Nat×List Str) hk (fun x=>[(7,.d (.i (x.1:Int))),(6,.d (.i (x.2.1:Int))),(5,.gl 1 (x.2.2.map fun n=>[D.str n]))]) [9,10,11,12,13,14,15,16,17,18,19,20,21,22,23,24,25,26,27,28,29,30,31,32,33,34] (fun x=>[(1,some (.tok ((x.2.2.map fun n=>[D.str n])).length 1))]) (fun x=>x.1<=s.length+1/\x.2.2.length<=x.1/\if x.1=s.length+1 then x.2.2=cutL c [] s else x.2.1<=x.1/\x.2.2++cutL c ((s.take x.1).drop x.2.1) (s.drop x.1)=cutL c [] s) (fun x=>s.length+1-x.1) (0,0,[]) ⟨by simp,by simp,by rw[if_neg (by simp)];simp⟩ ⟨⟨_,rfl,xaq ?_⟩,⟨⟨_,rfl,xaq ?_⟩,⟨⟨_,rfl,LeA.glg ?_⟩,trivial⟩⟩⟩ ⟨zab ?_,trivial⟩ (fun x=>rfl) (fun x hg1=>?_);iterate 4 focus (rfl)
 refine evc [] [] ?_;refine sq ?_ ?_<;>intro h1 h1p h1s<;>(try simp only[Q,hu] at h1p);have hne:¬x.1=s.length+1:=(by omega);have hcond:=hg1.2.2;rw[if_neg hne] at hcond;have hle:=hcond.1;refine sq ?_ ?_<;>intro h2 h2p h2s<;>(try simp only[Q,hu] at h2p);refine sqT ?_;refine xaM un9 .none rfl rfl rfl rfl rfl rfl (by omega) (by omega) ?_;refine si [0] [_] zbU tz9 ?_;refine ap zbU zz9 rfl rfl rfl (by simp) (by simp;omega) ?_;refine ev ?_;refine ar ?_;refine ar ?_;refine xah (if x.1=s.length\/nth s x.1=c then (x.1+1,x.1+1,x.2.2++[(s.take x.1).drop x.2.1]) else (x.1+1,x.2.1,x.2.2)) ⟨(by
    have hne:¬x.1=s.length+1:=by omega
    rw[if_neg hne] at hg1;obtain⟨g1,g2,g3,g4⟩:=hg1;by_cases he:x.1=s.length
    ·rw[if_pos (.inl he)];refine⟨by dsimp only;omega,by simp;omega, ?_⟩;dsimp only;rw[if_pos (by omega),<-g4,he,List.drop_length];rfl
    ·have hlt:x.1<s.length:=by omega
     rw[zaS hlt] at g4;by_cases hc:nth s x.1=c
     ·rw[if_pos (.inr hc)];refine⟨by dsimp only;omega,by simp;omega, ?_⟩;dsimp only;rw[if_neg (by omega)];refine⟨by omega, ?_⟩;rw[<-g4,cutL,if_pos hc,List.append_assoc];simp
     ·rw[if_neg (by simp[he,hc])];refine⟨by dsimp only;omega,by dsimp only;omega, ?_⟩;dsimp only;rw[if_neg (by omega)];refine⟨by omega, ?_⟩;rw[<-g4,cutL,if_neg hc,zkX g3 hlt]),(by split<;>(dsimp only;omega)),sx ⟨⟨_,rfl,xaq ?_⟩,⟨⟨_,rfl,xaq ?_⟩,⟨⟨_,rfl,LeA.glg ?_⟩,trivial⟩⟩⟩ ⟨zab ?_,trivial⟩⟩
 iterate 4 focus ((split<;>first|(simp[zpB];done)|(simp;done)|(exfalso;simp_all;done)|(exfalso;simp_all;omega)))
 refine xaY un9 (.some rfl rfl h2) rfl rfl rfl rfl (zhe (by omega)) ?_;refine evs [] [(19,false)] ?_ ⟨⟨_,rfl,h2⟩,trivial⟩;refine sq ?_ ?_<;>intro h4 h4p h4s<;>(try simp only[Q,hu] at h4p);refine xaM un9 .none rfl rfl rfl rfl rfl rfl (by omega) (by omega) ?_;refine si [0] [_] zbU tz9 ?_;refine ap zbU zz9 rfl rfl rfl (by simp) (by simp;omega) ?_;refine ev ?_;refine ar ?_;refine ar ?_;refine xah (if x.1=s.length\/nth s x.1=c then (x.1+1,x.1+1,x.2.2++[(s.take x.1).drop x.2.1]) else (x.1+1,x.2.1,x.2.2)) ⟨(by
    have hne:¬x.1=s.length+1:=by omega
    rw[if_neg hne] at hg1;obtain⟨g1,g2,g3,g4⟩:=hg1;by_cases he:x.1=s.length
    ·rw[if_pos (.inl he)];refine⟨by dsimp only;omega,by simp;omega, ?_⟩;dsimp only;rw[if_pos (by omega),<-g4,he,List.drop_length];rfl
    ·have hlt:x.1<s.length:=by omega
     rw[zaS hlt] at g4;by_cases hc:nth s x.1=c
     ·rw[if_pos (.inr hc)];refine⟨by dsimp only;omega,by simp;omega, ?_⟩;dsimp only;rw[if_neg (by omega)];refine⟨by omega, ?_⟩;rw[<-g4,cutL,if_pos hc,List.append_assoc];simp
     ·rw[if_neg (by simp[he,hc])];refine⟨by dsimp only;omega,by dsimp only;omega, ?_⟩;dsimp only;rw[if_neg (by omega)];refine⟨by omega, ?_⟩;rw[<-g4,cutL,if_neg hc,zkX g3 hlt]),(by split<;>(dsimp only;omega)),sx ⟨⟨_,rfl,xaq ?_⟩,⟨⟨_,rfl,xaq ?_⟩,⟨⟨_,rfl,LeA.glg ?_⟩,trivial⟩⟩⟩ ⟨zab ?_,trivial⟩⟩
 iterate 4 focus ((split<;>first|(simp[zpB];done)|(simp;done)|(exfalso;simp_all;done)|(exfalso;simp_all;omega)))
 refine ar ?_;refine xah (if x.1=s.length\/nth s x.1=c then (x.1+1,x.1+1,x.2.2++[(s.take x.1).drop x.2.1]) else (x.1+1,x.2.1,x.2.2)) ⟨(by
    have hne:¬x.1=s.length+1:=by omega
    rw[if_neg hne] at hg1;obtain⟨g1,g2,g3,g4⟩:=hg1;by_cases he:x.1=s.length
    ·rw[if_pos (.inl he)];refine⟨by dsimp only;omega,by simp;omega, ?_⟩;dsimp only;rw[if_pos (by omega),<-g4,he,List.drop_length];rfl
    ·have hlt:x.1<s.length:=by omega
     rw[zaS hlt] at g4;by_cases hc:nth s x.1=c
     ·rw[if_pos (.inr hc)];refine⟨by dsimp only;omega,by simp;omega, ?_⟩;dsimp only;rw[if_neg (by omega)];refine⟨by omega, ?_⟩;rw[<-g4,cutL,if_pos hc,List.append_assoc];simp
     ·rw[if_neg (by simp[he,hc])];refine⟨by dsimp only;omega,by dsimp only;omega, ?_⟩;dsimp only;rw[if_neg (by omega)];refine⟨by omega, ?_⟩;rw[<-g4,cutL,if_neg hc,zkX g3 hlt]),(by split<;>(dsimp only;omega)),sx ⟨⟨_,rfl,xaq ?_⟩,⟨⟨_,rfl,xaq ?_⟩,⟨⟨_,rfl,LeA.glg ?_⟩,trivial⟩⟩⟩ ⟨zab ?_,trivial⟩⟩
 iterate 4 focus ((split<;>first|rfl|(exfalso;simp_all;done)|(exfalso;simp_all;omega)))
 refine rn0 (r1 rfl) (.gld ?_);rotate_left;all_goals (have e:x.1=s.length+1:=(by omega);rw[if_pos e] at hg1;rw[hg1.2.2])
def zr9 (names:List Str) (s:Str):Int:=if s=[73] then -1 else if s∈names then idxF (fun n=>decide (n=s)) names 0 else -2
theorem znK {names:List Str}{s:Str} (hn:names.length<=1000000000000):FnD Tryz.prog 359 [.d (zeO names),.d (.str s)] [] (.d (.i (zr9 names s))) []:=by
 refine bd Tryz.f359 21 [] [] fun w0 F0 own kept hk=>?_;refine sq ?_ ?_<;>intro h1 h1p h1s<;>(try simp only[Q] at h1p);refine rq ?_;rotate_left;refine xak (ι:=List (Str)×List (Str)) hk (fun x=>[(5,.d (.i (x.1.length:Int)))]) [4,8,9,10,11,12,13,14,15,16,17,18,19,20] (fun x=>[]) (fun x=>x.1++x.2=names/\s∉x.1/\idxF (fun n=>decide (n=s)) x.2 x.1.length=idxF (fun n=>decide (n=s)) names 0) (fun x=>x.2.length) ([],names) ⟨by simp,by simp,rfl⟩ ⟨⟨_,rfl,xaq ?_⟩,trivial⟩ trivial (fun x=>rfl) (fun x hg1=>?_);focus (rfl)
 obtain⟨pre,rest⟩:=x;dsimp only at hg1 ⊢;refine evc [] [] ?_;refine sq ?_ ?_<;>intro h2 h2p h2s<;>(try simp only[Q] at h2p);rcases rest with _|⟨y,rest⟩
 ·exfalso;simp_all
 refine xaS zbU .none rfl rfl rfl rfl (zaK hg1.1) rfl ?_;refine ev ?_;refine sq ?_ ?_<;>intro h3 h3p h3s<;>(try simp only[Q] at h3p);refine rq ?_;rotate_left;refine ar ?_;refine xah ((pre++[y],rest)) ⟨⟨(by have hz:=hg1.1;rw[<-hz];simp),⟨(by have h1:=hg1.2.1;simp_all[eq_comm]),(by rw[<-hg1.2.2];simp_all[idxF])⟩⟩,(by simp),sx ⟨⟨_,rfl,xaq ?_⟩,trivial⟩ trivial⟩;focus ((simp;done))
 have hrest:rest=[]:=by
  rcases rest with _|⟨a,b⟩
  ·rfl
  ·exfalso;have hz:=congrArg List.length (hg1.1);simp only[xaa,xab,xac] at hz;omega
 subst hrest;refine rq ?_;rotate_left;all_goals (refine congrArg D.i ?_;unfold zr9;by_cases hz:s=[73]<;>by_cases hm:s∈names<;>simp only[hz,hm,if_true,if_false];all_goals first|(exfalso;simp_all;done)|(exfalso;apply hm;subst h3p;rw[<-hg1.1];simp;done)|(exfalso;apply hg1.2.1;rw[<-hg1.1,List.append_nil] at hm;exact hm)|(rw[<-hg1.2.2];simp_all[idxF];done))
def zeV (names:List Str) (s:Str):Ty:=
 if s=[] then ⟨-2,0⟩
 else ⟨zr9 names (s.take 1),if s.drop 1=[42] then -1 else if s.length=2/\48<=(nth s 1).toNat/\(nth s 1).toNat<=57 then ((nth s 1).toNat:Int)-48 else 0⟩
theorem zr6 {b:UInt8} (h1:48<=b.toNat) (h2:b.toNat<=57):IntKind.i64.wrap (IntKind.u8.wrap ((b.toNat:Int)-48))=(b.toNat:Int)-48:=by
 rw[zwd,zeb (by omega)];omega
theorem zft {names:List Str}{s:Str} (hn:names.length<=1000000000000) (hs:s.length<=1000000000000):
  FnD Tryz.prog 324 [.d (zeO names),.d (.str s)] [] (.agg [.d (.i (zeV names s).data),.d (.i (zeV names s).index)]) []:=by
 have hlen:s≠[]->1<=s.length:=fun h=>by rcases s with _|⟨a,r⟩;exact absurd rfl h;simp
 refine bd Tryz.f324 39 [35] [] fun w0 F0 own kept hk=>?_;refine ab 3004 tz25 ?_;refine tv ?_;refine sq ?_ ?_<;>intro h1 h1p h1s<;>(try simp only[Q] at h1p);refine bu [0] [_] st25 ?_;refine so ty25 ?_;refine tv ?_;refine rn0 (.cons (.cellA ty25 rfl rfl rfl) .nil) (.agg (.cons (.eqd ?_) (.cons (.eqd ?_) .nil)));rotate_left 2;refine xaL (b:=1) un9 .none rfl rfl rfl rfl (by have:=hlen (by simp_all);omega) ?_;refine wc zxa (znK (names:=names) (s:=s.take 1) hn) rfl rfl ?_;refine bu [0] [_] st25 ?_;refine ab 3005 tz25 ?_;refine so ty25 ?_;refine tv ?_;refine Walk.cutS_l (b:=1) un9 .none rfl rfl rfl rfl (by have:=hlen (by simp_all);omega) ?_;refine evs [35] [] ?_;refine sq ?_ ?_<;>intro h2 h2p h2s<;>(try simp only[Q] at h2p);refine so ty3 ?_;refine tv ?_;refine so ty25 ?_;refine tv ?_;refine rn0 (.cons (.cellA ty25 rfl rfl rfl) .nil) (.agg (.cons (.eqd ?_) (.cons (.eqd ?_) .nil)));rotate_left 2;refine sq ?_ ?_<;>intro h3 h3p h3s<;>(try simp only[Q] at h3p);refine xaY (i:=1) un9 (.some rfl rfl h3) rfl rfl rfl rfl (zhe (by simp_all;omega)) ?_;refine evs [35] [(23,true)] ?_ ⟨⟨_,rfl,h3⟩,trivial⟩;refine sq ?_ ?_<;>intro h4 h4p h4s<;>(try simp only[Q] at h4p);refine xaY (i:=1) un9 (.some rfl rfl h4) rfl rfl rfl rfl (zhe (by simp_all;omega)) ?_;refine evs [35] [(28,true)] ?_ ⟨⟨_,rfl,h4⟩,trivial⟩;refine sq ?_ ?_<;>intro h5 h5p h5s<;>(try simp only[Q] at h5p);refine xaY (i:=1) un9 .none rfl rfl rfl rfl (zhe (by simp_all;omega)) ?_;refine Walk.subW .none rfl rfl rfl ?_;refine xaK (by rw[un5];rfl) un3 .none rfl rfl ?_;refine evs [35] [] ?_;refine so ty3 ?_;refine tv ?_;refine so ty25 ?_;refine tv ?_;refine rn0 (.cons (.cellA ty25 rfl rfl rfl) .nil) (.agg (.cons (.eqd ?_) (.cons (.eqd ?_) .nil)));rotate_left 2;refine so ty25 ?_;refine tv ?_;refine rn0 (.cons (.cellA ty25 rfl rfl rfl) .nil) (.agg (.cons (.eqd ?_) (.cons (.eqd ?_) .nil)));rotate_left 2;refine sqF ?_;refine so ty25 ?_;refine tv ?_;refine rn0 (.cons (.cellA ty25 rfl rfl rfl) .nil) (.agg (.cons (.eqd ?_) (.cons (.eqd ?_) .nil)));rotate_left 2;refine sqF ?_;refine sqF ?_;refine so ty25 ?_;refine tv ?_;refine rn0 (.cons (.cellA ty25 rfl rfl rfl) .nil) (.agg (.cons (.eqd ?_) (.cons (.eqd ?_) .nil)));rotate_left 2;all_goals (unfold zeV;first|(rw[zr6 (b:=nth s 1) (by omega) (by omega),if_neg h1p];dsimp only;rw[if_neg h2p,if_pos ⟨by omega,by omega,by omega⟩];done)|(rw[if_pos h1p];done)|(rw[if_neg h1p];done)|(rw[if_neg h1p];dsimp only;rw[if_pos h2p];done)|(rw[if_neg h1p];dsimp only;rw[if_neg h2p,if_neg (fun hh=>by omega)];done))
def zpF (s:Str):Prop:=2<s.length/\nth s (s.length-2)=58
instance (s:Str):Decidable (zpF s):=inferInstanceAs (Decidable (_/\_))
def zgT (names:List Str) (ix:Int) (s:Str):Ctor:=
 let parts:=cutL 40 [] s
 ⟨nth parts 0,if parts.length<2\/(nth parts 1).length=0 then [] else ((cutL 44 [] ((nth parts 1).take ((nth parts 1).length-1))).take 4).map (zeV names),ix⟩
def zcw (names:List Str) (s:Str):Ctor:=
 if zpF s then zgT names (((nth s (s.length-1)).toNat:Int)-48) (s.take (s.length-2)) else zgT names 0 s
theorem zgf {α β:Type} [Inhabited α]{f:α->β}{l:List α}{i:Nat} (h:i<l.length):(l.map f).take (i+1)=(l.map f).take i++[f (nth l i)]:=by
 rw[List.take_add_one,List.getElem?_map,List.getElem?_eq_getElem h];simp[nth,List.getD,h]
theorem zoG {α:Type}{l:List α}{i:Nat} (h:i=4\/(i<=4/\l.length<=i)):l.take i=l.take 4:=by
 rcases h with rfl|⟨h1,h2⟩
 ·rfl
 ·rw[List.take_of_length_le h2,List.take_of_length_le (by omega)]
theorem zxV {a b:UInt8}:((a.toNat:Int)=(b.toNat:Int))↔a=b:=by rw[Int.natCast_inj];exact UInt8.toNat_inj
theorem zt9 (a:UInt8):IntKind.i64.wrap (a.toNat:Int)=(a.toNat:Int):=by have:=a.toNat_lt;exact zeb (by omega)
theorem zdY {c:UInt8}{s:Str}{i:Nat} (h:i<(cutL c [] s).length):(nth (cutL c [] s) i).length<=s.length:=by
 have:=ziv c s [] _ (zac h);simpa using this
theorem zjf {names:List Str}{s:Str} (hn:names.length<=1000000000000) (hs:s.length<=1000000):
  FnD Tryz.prog 262 [.d (zeO names),.d (.str s)] [] (.agg [.d (.str (zcw names s).name),.d (zci (zcw names s).args),.d (.i (zcw names s).index)]) []:=by
 have hwb:=zt9 (nth s (s.length-1));have hwl:=(nth s (s.length-1)).toNat_lt;by_cases hc:zpF s
 ·have hc1:=hc.1;have hct:(s.take (s.length-2)).length=s.length-2:=by rw[List.length_take];omega
  have hcl:=zdX 40 (s.take (s.length-2)) [];have hcp:=ziw 40 (s.take (s.length-2)) [];have hn1:=fun h=>zdY (c:=40) (s:=s.take (s.length-2)) (i:=1) h;have hal:=zdX 44 ((nth (cutL 40 [] (s.take (s.length-2))) 1).take ((nth (cutL 40 [] (s.take (s.length-2))) 1).length-1)) [];refine bd Tryz.f262 83 [] [2,7] fun w0 F0 own kept hk=>?_;refine ab 3004 zgE ?_;refine tv ?_;refine bu [] [] zvo ?_;refine ab 3005 zgE ?_;refine so zc1 ?_;refine tv ?_;refine xal ?_;refine xaA 11 [(20,.d (.bool (true)))] [10,11,12,13,14,15,16,17,18,19] ?_ ?_;refine ev ?_;refine sq ?_ ?_<;>intro h1 h1p h1s;refine ar ?_;refine xaY (i:=s.length-2) un9 (.some rfl rfl h1) rfl rfl rfl (by omega) (zhe (by omega)) ?_;refine evs [] [(13,true)] ?_ ⟨⟨_,rfl,h1⟩,trivial⟩;exact jn rfl (xap (by(exact decide_eq_true (congrArg (fun z:UInt8=>(z.toNat:Int)) hc.2))));try simp only[Q,List.length_take] at h1p
  exact jn rfl (xap (by(exfalso;omega)));refine xaz ?_;refine tv ?_;refine sq ?_ ?_<;>intro h2 h2p h2s;refine ar ?_;refine xaY (i:=s.length-1) un9 .none rfl rfl rfl (by omega) (zhe (by omega)) ?_;refine xaK (by rw[un5];rfl) un3 .none rfl rfl ?_;refine ev ?_;refine ar ?_;refine so ty3 ?_;refine tv ?_;refine ar ?_;refine xaL (b:=s.length-2) un9 .none rfl rfl rfl (by omega) (by omega) ?_;refine ev ?_;refine wc zfV (zcn (s:=s.take (s.length-2)) (c:=40) (by first|omega|(simp;omega))) rfl rfl ?_;refine ev ?_;refine xaS (i:=0) zbU .none rfl rfl rfl rfl (zap (by omega)) rfl ?_;refine ev ?_;refine so ty9 ?_;refine tv ?_;refine xal ?_;refine xaA 10 [(49,.d (.bool (decide ((cutL 40 [] (s.take (s.length-2))).length<2\/(nth (cutL 40 [] (s.take (s.length-2))) 1).length=0))))] [40,41,42,43,44,45,46,47,48] ?_ ?_;refine ev ?_;refine sq ?_ ?_<;>intro h3 h3p h3s<;>(try simp only[Q,List.length_take] at h3p);exact jn rfl (xap (by(refine(decide_eq_true ?_).symm;omega)));refine xaS (i:=1) zbU (.some rfl rfl h3) rfl rfl rfl rfl (zap (by omega)) rfl ?_;refine evs [] [(43,false)] ?_ ⟨⟨_,rfl,h3⟩,trivial⟩;exact jn rfl (xap (by(refine decide_eq_decide.2 ?_;omega)));refine xaz ?_;refine tv ?_;refine sq ?_ ?_<;>intro h4 h4p h4s;refine so zc1 ?_;refine tv ?_;refine rn0 (.cons (.cellA zc1 rfl rfl rfl) .nil) (.agg (.cons (.eqd ?_) (.cons (.nild ?_) (.cons (.eqd ?_) .nil))));rotate_left 3;try simp only[Q,List.length_take] at h4p
  refine xaS (i:=1) zbU .none rfl rfl rfl rfl (zap (by omega)) rfl ?_;refine evd [] [] ?_;refine xaS (i:=1) zbU .none rfl rfl rfl rfl (zap (by omega)) rfl ?_;refine evd [] [] ?_;refine ar ?_;refine xaL (b:=(nth (cutL 40 [] (s.take (s.length-2))) 1).length-1) un9 .none rfl rfl rfl (by omega) (by omega) ?_;refine wc zfV (zcn (s:=(nth (cutL 40 [] (s.take (s.length-2))) 1).take ((nth (cutL 40 [] (s.take (s.length-2))) 1).length-1)) (c:=44) (by simp;omega)) rfl rfl ?_;refine evd [] [] ?_;refine dr ?_;refine xan 3005 1 1 2 rfl rfl rfl rfl ?_;refine xak (ι:=Nat) hk (fun i=>[(8,.d (.i (i:Int)))]) [61,62,63,64,65,66,67,68,69,70,71,72,73,74,75,76,77,78,79,80,81] (fun i=>[(3005,some (.box [.d (.str (nth (cutL 40 [] (s.take (s.length-2))) 0)),.gl 1 (((((cutL 44 [] ((nth (cutL 40 [] (s.take (s.length-2))) 1).take ((nth (cutL 40 [] (s.take (s.length-2))) 1).length-1))).map (zeV names)).take i)).map Ty.c),.d (.i (((nth s (s.length-1)).toNat:Int)-48))])),(1,some (.tok (((((cutL 44 [] ((nth (cutL 40 [] (s.take (s.length-2))) 1).take ((nth (cutL 40 [] (s.take (s.length-2))) 1).length-1))).map (zeV names)).take i)).map Ty.c).length 2))]) (fun i=>i<=4/\i<=(cutL 44 [] ((nth (cutL 40 [] (s.take (s.length-2))) 1).take ((nth (cutL 40 [] (s.take (s.length-2))) 1).length-1))).length) (fun i=>4-i) 0 ⟨by omega,by omega⟩ ⟨⟨_,rfl,xaq ?_⟩,trivial⟩ ⟨?_,⟨zab ?_,trivial⟩⟩ (fun x=>rfl) (fun i hg1=>?_);focus (rfl)
  focus ((show some (Res.box _)=some (Res.box _);rw[hwb];rfl))
  focus (rfl)
  refine evc [] [2,7] ?_;refine sq ?_ ?_<;>intro h5 h5p h5s<;>(try simp only[Q,List.length_take] at h5p);refine sq ?_ ?_<;>intro h6 h6p h6s<;>(try simp only[Q,List.length_take] at h6p);refine xaS zbU .none rfl rfl rfl rfl (zap (by omega)) rfl ?_;refine evd [] [] ?_;refine wc zsZ (zft (names:=names) (s:=nth (cutL 44 [] ((nth (cutL 40 [] (s.take (s.length-2))) 1).take ((nth (cutL 40 [] (s.take (s.length-2))) 1).length-1))) i) hn (by have:=zdY (c:=44) (s:=(nth (cutL 40 [] (s.take (s.length-2))) 1).take ((nth (cutL 40 [] (s.take (s.length-2))) 1).length-1)) (i:=i) (by omega);simp at this;omega)) rfl rfl ?_;refine si [0] [_] zaZ tz25 ?_;refine ap zaZ zz25 rfl rfl rfl (by simp) (by simp;omega) ?_;refine evd [] [] ?_;refine so zvr ?_;refine dr ?_;refine ar ?_;refine xah (i+1) ⟨⟨by omega,by omega⟩,(by omega),sx ⟨⟨_,rfl,xaq ?_⟩,trivial⟩ ⟨?_,⟨zab ?_,trivial⟩⟩⟩;focus (rfl)
  focus ((show some (Res.box _)=some (Res.box _);rw[zgf (by omega)];simp;done))
  focus ((simp;omega))
  refine so zc1 ?_;refine tv ?_;refine rn0 (.cons (.cellA zc1 rfl rfl rfl) .nil) (.agg (.cons (.eqd ?_) (.cons (.gld ?_) (.cons (.eqd ?_) .nil))));rotate_left 3;refine sqF ?_;refine so zc1 ?_;refine tv ?_;refine rn0 (.cons (.cellA zc1 rfl rfl rfl) .nil) (.agg (.cons (.eqd ?_) (.cons (.gld ?_) (.cons (.eqd ?_) .nil))));rotate_left 3;try simp only[Q,List.length_take] at h2p
  exact absurd h2 (by simp);all_goals (unfold zcw;rw[if_pos hc];first|rfl|(rw[hwb];rfl)|(unfold zgT;dsimp only;by_cases hq:(cutL 40 [] (s.take (s.length-2))).length<2\/(nth (cutL 40 [] (s.take (s.length-2))) 1).length=0;all_goals first|(exfalso;exact(of_decide_eq_false h4) hq)|(exfalso;exact hq (of_decide_eq_true h4))|(rw[if_pos hq];done)|(rw[if_pos hq];rfl)|(rw[if_neg hq,<-List.map_take,zoG (by omega)];done)))
 ·skip
  have hcl:=zdX 40 (s) [];have hcp:=ziw 40 (s) [];have hn1:=fun h=>zdY (c:=40) (s:=s) (i:=1) h;have hal:=zdX 44 ((nth (cutL 40 [] (s)) 1).take ((nth (cutL 40 [] (s)) 1).length-1)) [];refine bd Tryz.f262 83 [] [2,7] fun w0 F0 own kept hk=>?_;refine ab 3004 zgE ?_;refine tv ?_;refine bu [] [] zvo ?_;refine ab 3005 zgE ?_;refine so zc1 ?_;refine tv ?_;refine xal ?_;refine xaA 11 [(20,.d (.bool (false)))] [10,11,12,13,14,15,16,17,18,19] ?_ ?_;refine ev ?_;refine sq ?_ ?_<;>intro h1 h1p h1s;try simp only[Q,List.length_take] at h1p
  refine ar ?_;refine xaY (i:=s.length-2) un9 (.some rfl rfl h1) rfl rfl rfl (by omega) (zhe (by omega)) ?_;refine evs [] [(13,true)] ?_ ⟨⟨_,rfl,h1⟩,trivial⟩;exact jn rfl (xap (by(exact decide_eq_false (fun hh=>hc ⟨by omega,(zxV (b:=58)).1 hh⟩))));exact jn rfl (xap (by rfl));refine xaz ?_;refine tv ?_;refine sq ?_ ?_<;>intro h2 h2p h2s;exact absurd h2 (by simp);refine wc zfV (zcn (s:=s) (c:=40) (by first|omega|(simp;omega))) rfl rfl ?_;refine ev ?_;refine xaS (i:=0) zbU .none rfl rfl rfl rfl (zap (by omega)) rfl ?_;refine ev ?_;refine so ty9 ?_;refine tv ?_;refine xal ?_;refine xaA 10 [(49,.d (.bool (decide ((cutL 40 [] (s)).length<2\/(nth (cutL 40 [] (s)) 1).length=0))))] [40,41,42,43,44,45,46,47,48] ?_ ?_;refine ev ?_;refine sq ?_ ?_<;>intro h3 h3p h3s<;>(try simp only[Q,List.length_take] at h3p);exact jn rfl (xap (by(refine(decide_eq_true ?_).symm;omega)));refine xaS (i:=1) zbU (.some rfl rfl h3) rfl rfl rfl rfl (zap (by omega)) rfl ?_;refine evs [] [(43,false)] ?_ ⟨⟨_,rfl,h3⟩,trivial⟩;exact jn rfl (xap (by(refine decide_eq_decide.2 ?_;omega)));refine xaz ?_;refine tv ?_;refine sq ?_ ?_<;>intro h4 h4p h4s;refine so zc1 ?_;refine tv ?_;refine rn0 (.cons (.cellA zc1 rfl rfl rfl) .nil) (.agg (.cons (.eqd ?_) (.cons (.nild ?_) (.cons (.eqd ?_) .nil))));rotate_left 3;try simp only[Q,List.length_take] at h4p
  refine xaS (i:=1) zbU .none rfl rfl rfl rfl (zap (by omega)) rfl ?_;refine evd [] [] ?_;refine xaS (i:=1) zbU .none rfl rfl rfl rfl (zap (by omega)) rfl ?_;refine evd [] [] ?_;refine ar ?_;refine xaL (b:=(nth (cutL 40 [] (s)) 1).length-1) un9 .none rfl rfl rfl (by omega) (by omega) ?_;refine wc zfV (zcn (s:=(nth (cutL 40 [] (s)) 1).take ((nth (cutL 40 [] (s)) 1).length-1)) (c:=44) (by simp;omega)) rfl rfl ?_;refine evd [] [] ?_;refine dr ?_;refine xan 3005 1 1 2 rfl rfl rfl rfl ?_;refine xak (ι:=Nat) hk (fun i=>[(8,.d (.i (i:Int)))]) [61,62,63,64,65,66,67,68,69,70,71,72,73,74,75,76,77,78,79,80,81] (fun i=>[(3005,some (.box [.d (.str (nth (cutL 40 [] (s)) 0)),.gl 1 (((((cutL 44 [] ((nth (cutL 40 [] (s)) 1).take ((nth (cutL 40 [] (s)) 1).length-1))).map (zeV names)).take i)).map Ty.c),.d (.i (0))])),(1,some (.tok (((((cutL 44 [] ((nth (cutL 40 [] (s)) 1).take ((nth (cutL 40 [] (s)) 1).length-1))).map (zeV names)).take i)).map Ty.c).length 2))]) (fun i=>i<=4/\i<=(cutL 44 [] ((nth (cutL 40 [] (s)) 1).take ((nth (cutL 40 [] (s)) 1).length-1))).length) (fun i=>4-i) 0 ⟨by omega,by omega⟩ ⟨⟨_,rfl,xaq ?_⟩,trivial⟩ ⟨?_,⟨zab ?_,trivial⟩⟩ (fun x=>rfl) (fun i hg1=>?_);focus (rfl)
  focus (rfl)
  focus (rfl)
  refine evc [] [2,7] ?_;refine sq ?_ ?_<;>intro h5 h5p h5s<;>(try simp only[Q,List.length_take] at h5p);refine sq ?_ ?_<;>intro h6 h6p h6s<;>(try simp only[Q,List.length_take] at h6p);refine xaS zbU .none rfl rfl rfl rfl (zap (by omega)) rfl ?_;refine evd [] [] ?_;refine wc zsZ (zft (names:=names) (s:=nth (cutL 44 [] ((nth (cutL 40 [] (s)) 1).take ((nth (cutL 40 [] (s)) 1).length-1))) i) hn (by have:=zdY (c:=44) (s:=(nth (cutL 40 [] (s)) 1).take ((nth (cutL 40 [] (s)) 1).length-1)) (i:=i) (by omega);simp at this;omega)) rfl rfl ?_;refine si [0] [_] zaZ tz25 ?_;refine ap zaZ zz25 rfl rfl rfl (by simp) (by simp;omega) ?_;refine evd [] [] ?_;refine so zvr ?_;refine dr ?_;refine ar ?_;refine xah (i+1) ⟨⟨by omega,by omega⟩,(by omega),sx ⟨⟨_,rfl,xaq ?_⟩,trivial⟩ ⟨?_,⟨zab ?_,trivial⟩⟩⟩;focus (rfl)
  focus ((show some (Res.box _)=some (Res.box _);rw[zgf (by omega)];simp;done))
  focus ((simp;omega))
  refine so zc1 ?_;refine tv ?_;refine rn0 (.cons (.cellA zc1 rfl rfl rfl) .nil) (.agg (.cons (.eqd ?_) (.cons (.gld ?_) (.cons (.eqd ?_) .nil))));rotate_left 3;refine sqF ?_;refine so zc1 ?_;refine tv ?_;refine rn0 (.cons (.cellA zc1 rfl rfl rfl) .nil) (.agg (.cons (.eqd ?_) (.cons (.gld ?_) (.cons (.eqd ?_) .nil))));rotate_left 3;all_goals (unfold zcw;rw[if_neg hc];first|rfl|(unfold zgT;dsimp only;by_cases hq:(cutL 40 [] (s)).length<2\/(nth (cutL 40 [] (s)) 1).length=0;all_goals first|(exfalso;exact(of_decide_eq_false h4) hq)|(exfalso;exact hq (of_decide_eq_true h4))|(rw[if_pos hq];done)|(rw[if_pos hq];rfl)|(rw[if_neg hq,<-List.map_take,zoG (by omega)];done)))
def decV (n:Int):Str:=strN [IntKind.u8.wrap (48+n)]
theorem zkZ (n:Int):(decV n).length=1:=rfl
def zjH (n:Int):Str:=if n=0 then [] else if n = -1 then [42] else decV n
theorem zmi (n:Int):(zjH n).length<=1:=by unfold zjH;split;simp;split;simp;rw[zkZ];omega
def zf7 (w:List Data) (t:Ty):Str:=if t.data = -1 then [73] else (nth w t.data.toNat).name++zjH t.index
def zdj (w:List Data):Bool->List Ty->Str
 |_,[]=>[]
 |b,t::r=>((if b then [40] else [44])++zf7 w t)++zdj w false r
def zck (w:List Data) (c:Ctor):Str:=
 let o:=c.name++zdj w true c.args
 let p:=if 0<c.args.length then o++[41] else o
 if 0<c.index then (p++[58])++decV c.index else p
def zb3 (w:List Data):Bool->List Ctor->Str
 |_,[]=>[]
 |b,c::r=>((if b then [] else [124])++zck w c)++zb3 w false r
def zh2 (w:List Data):Bool->List Data->Str
 |_,[]=>[]
 |b,d::r=>((if b then [] else [59])++(d.name++[61])++zb3 w true d.ctors)++zh2 w false r
def zeZ (w:List Data):Str:=zh2 w true w
structure TB (w:List Data):Prop where
 len:w.length<=4
 dn:∀d∈w,d.name.length<=1/\d.ctors.length<=4
 cn:∀d∈w,∀c∈d.ctors,c.name.length<=5/\c.args.length<=3/\0<=c.index/\c.index<=3
 ar:∀d∈w,∀c∈d.ctors,∀t∈c.args,(t.data = -1\/(0<=t.data/\t.data.toNat<w.length))/\ -1<=t.index/\t.index<=3
theorem zuZ {w:List Data} (hv:za0 w=true):TB w:=by
 have hW:=(zco w).1 hv;refine⟨hW.len,fun d hd=>?_,fun d hd c hc=>?_,fun d hd c hc t ht=>?_⟩
 ·have h:=hW.data d hd;have h1:=h.1;simp only[zbm,xad,decide_eq_true_eq] at h1;omega
 ·have h:=hW.ctor d hd c hc;simp only[zbA,zc9,zar,xad,decide_eq_true_eq] at h;omega
 ·have h:=hW.ctor d hd c hc;simp only[zbA,xad,Bool.not_eq_true',List.any_eq_false] at h;have hax:zbK w.length t=true:=by
   have:=h.2.2.2 t ht;cases h:zbK w.length t with
   |true=>rfl
   |false=>rw[h] at this;exact absurd rfl this
  simp only[zbK,zar,Bool.or_eq_true,xad,decide_eq_true_eq,and_true] at hax;omega
theorem zgC {w:List Data} (hb:TB w){t:Ty} (ht:t.data = -1\/(0<=t.data/\t.data.toNat<w.length)):(zf7 w t).length<=2:=by
 unfold zf7;split
 ·simp
 ·rename_i h;have h1:=(hb.dn _ (zac (l:=w) (i:=t.data.toNat) (by omega))).1;have h2:=zmi t.index;simp only[xaa];omega
theorem zgP {w:List Data} (hb:TB w):∀(l:List Ty) (b:Bool),(∀t∈l,t.data = -1\/(0<=t.data/\t.data.toNat<w.length))->(zdj w b l).length<=3*l.length
 | [],_,_=>by simp[zdj]
 |t::r,b,h=>by
  have h1:=zgC hb (h t (by simp));have h2:=zgP hb r false (fun x hx=>h x (by simp[hx]));simp only[zdj,xaa,xab];have h3:(if b=true then [(40:UInt8)] else [44]).length=1:=by split<;>rfl
  omega
theorem zpA {w:List Data} (hb:TB w){c:Ctor} (h1:c.name.length<=5/\c.args.length<=3) (h2:∀t∈c.args,t.data = -1\/(0<=t.data/\t.data.toNat<w.length)):(zck w c).length<=20:=by
 have h3:=zgP hb c.args true h2;unfold zck;dsimp only;have h4:=zkZ c.index;split<;>split<;>simp only[xaa,xab,xai]<;>omega
theorem zkH {w:List Data}:∀(l:List Ctor) (b:Bool),(∀c∈l,(zck w c).length<=20)->(zb3 w b l).length<=21*l.length
 | [],_,_=>by simp[zb3]
 |c::r,b,h=>by
  have h1:=h c (by simp);have h2:=zkH r false (fun x hx=>h x (by simp[hx]));simp only[zb3,xaa,xab];have h3:(if b=true then ([]:Str) else [124]).length<=1:=by split<;>simp
  omega
theorem zfH {n:Int} (h0:0<=n) (h9:n<=9):FnD Tryz.prog 361 [.d (.i n)] [] (.d (.str (decV n))) []:=by
 refine bd Tryz.f361 31 [30] [] fun w0 F0 own kept hk=>?_;refine sq ?_ ?_<;>intro h1 h1p h1s<;>(try simp only[Q] at h1p);exfalso;omega;refine sq ?_ ?_<;>intro h2 h2p h2s<;>(try simp only[Q] at h2p);exfalso;omega;refine xak (ι:=Unit) hk (fun x=>[(0,.d (.i n)),(3,.d (.str []))]) [12,13,14,15,16,17,18,19,20,21,22,23] (fun x=>[]) (fun x=>True) (fun x=>0) () trivial ⟨⟨_,rfl,xaq ?_⟩,⟨⟨_,rfl,xar ?_⟩,trivial⟩⟩ trivial (fun x=>rfl) (fun x hg1=>?_);iterate 2 focus (first|rfl|omega)
 refine evc [30] [] ?_;refine sq ?_ ?_<;>intro h3 h3p h3s<;>(try simp only[Q] at h3p);exfalso;omega;refine ar ?_;refine xaK (by rw[un3];rfl) un5 .none rfl rfl ?_;refine si [0] [_] sl22 tz5 ?_;refine Walk.bytesStr sl22 un9 (by kernel_rfl) .none rfl rfl rfl (by first|rfl|exact zox _) ?_;refine evs [30] [] ?_;refine xaI .none rfl rfl rfl (by simp[strN]) ?_;refine evs [30] [] ?_;refine rq ?_;rotate_left;all_goals (rfl)
theorem zmT {n:Int} (h0 : -1<=n) (h9:n<=9):FnD Tryz.prog 378 [.d (.i n)] [] (.d (.str (zjH n))) []:=by
 refine bd Tryz.f378 10 [] [] fun w0 F0 own kept hk=>?_;refine sq ?_ ?_<;>intro h1 h1p h1s<;>(try simp only[Q] at h1p);refine rq ?_;rotate_left;refine sq ?_ ?_<;>intro h2 h2p h2s<;>(try simp only[Q] at h2p);refine rq ?_;rotate_left;refine wc zpw (zfH (by omega) (by omega)) rfl rfl ?_;refine ev ?_;refine rq ?_;rotate_left;all_goals (refine congrArg D.str ?_;unfold zjH;first|(rw[if_pos (by omega)];done)|(rw[if_neg (by omega),if_pos (by omega)];done)|(rw[if_neg (by omega),if_neg (by omega)];done)|(rw[if_pos (by omega)];rfl))
theorem zii {w:List Data} (hb:TB w){a k:Int} (ha:a = -1\/(0<=a/\a.toNat<w.length)) (hk : -1<=k/\k<=3):FnD Tryz.prog 360 [.d (zam w),.agg [.d (.i a),.d (.i k)]] [] (.d (.str (zf7 w ⟨a,k⟩))) []:=by
 have hl:=zmi k;have hdn:a≠ -1->(nth w a.toNat).name.length<=1:=fun h=>(hb.dn _ (zac (l:=w) (i:=a.toNat) (by omega))).1;refine bd Tryz.f360 18 [17] [] fun w0 F0 own kept hk=>?_;refine bx 3003 ?_;refine evs [17] [] ?_;refine sq ?_ ?_<;>intro h1 h1p h1s<;>(try simp only[Q] at h1p);refine rq ?_;rotate_left;refine xaS (i:=a.toNat) sl23 .none rfl rfl rfl (by omega) (zap (by omega)) rfl ?_;refine evd [17] [] ?_;refine wc zxd (zmT (by omega) (by omega)) rfl rfl ?_;refine xaI .none rfl rfl rfl (by have:=hdn h1p;omega) ?_;refine evd [17] [] ?_;refine dr ?_;refine rq ?_;rotate_left;all_goals (refine congrArg D.str ?_;unfold zf7;first|(rw[if_pos (by assumption)];done)|(rw[if_neg (by assumption)];done))
theorem zdd {w:List Data} (hb:TB w){s:Str}{l:List Ty}{k:Int} (hs:s.length<=5) (hl:l.length<=3) (hk:0<=k/\k<=3)
  (hl2:∀t∈l,(t.data = -1\/(0<=t.data/\t.data.toNat<w.length))/\ -1<=t.index/\t.index<=3):
  FnD Tryz.prog 325 [.d (zam w),.agg [.d (.str s),.d (zci l),.d (.i k)]] [] (.d (.str (zck w ⟨s,l,k⟩))) []:=by
 have hall:=zgP hb l true (fun t ht=>(hl2 t ht).1);have hdl:=zkZ k;refine bd Tryz.f325 47 [19,21,30,36,41,45] [] fun w0 F0 own kept hk=>?_;refine bx 3003 ?_;refine evs [19,21,30,36,41,45] [] ?_;refine xak (ι:=List (Ty)×List (Ty)×(Str)) hk (fun x=>[(6,.d (.i (x.1.length:Int))),(5,.d (.str x.2.2))]) [9,10,11,12,13,14,15,16,17,18,19,20,21,22,23,24,25,26,27,28,29,30] (fun x=>[]) (fun x=>x.1++x.2.1=l/\x.2.2.length<=5+3*x.1.length/\x.2.2++zdj w (decide (x.1.length=0)) x.2.1=s++zdj w true l) (fun x=>x.2.1.length) ([],l,s) ⟨by simp,by simp;omega,by simp⟩ ⟨⟨_,rfl,xaq ?_⟩,⟨⟨_,rfl,xar ?_⟩,trivial⟩⟩ trivial (fun x=>rfl) (fun x hg1=>?_);iterate 2 focus (first|rfl|(dsimp only;rw[if_pos (by omega),List.append_assoc];done))
 obtain⟨pre,rest,o⟩:=x;dsimp only at hg1 ⊢;refine evc [19,21,30,36,41,45] [] ?_;refine sq ?_ ?_<;>intro h1 h1p h1s<;>(try simp only[Q] at h1p);rcases rest with _|⟨y,rest⟩
 ·exfalso;simp_all
 have hq:(zf7 w ⟨y.data,y.index⟩).length<=2:=zgC hb (hl2 y (by rw[<-hg1.1];simp)).1;refine sq ?_ ?_<;>intro h2 h2p h2s<;>(try simp only[Q] at h2p);refine xaI .none rfl rfl rfl (by have hz:=congrArg List.length hg1.1;simp only[xaa,xab,xai] at hz ⊢;omega) ?_;refine evs [19,21,30,36,41,45] [] ?_;refine xaS zaZ .none rfl rfl rfl rfl (zaK hg1.1) rfl ?_;refine evs [19,21,30,36,41,45] [] ?_;refine wc zs2 (zii hb (a:=y.data) (k:=y.index) (hl2 y (by rw[<-hg1.1];simp)).1 (hl2 y (by rw[<-hg1.1];simp)).2) rfl rfl ?_;refine xaI .none rfl rfl rfl (by have hz:=congrArg List.length hg1.1;simp only[xaa,xab,xai] at hz ⊢;omega) ?_;refine evs [19,21,30,36,41,45] [] ?_;refine ar ?_;refine xah ((pre++[y],rest,o++((if pre.length=0 then [40] else [44])++zf7 w y))) ⟨⟨(by have hz:=hg1.1;rw[<-hz];simp),⟨(by have hq:=zgC hb (hl2 y (by rw[<-hg1.1];simp)).1;have h3:(if pre.length=0 then [(40:UInt8)] else [44]).length=1:=(by split<;>rfl);simp only[xaa,xab,xai];omega),(by rw[<-hg1.2.2];simp[zdj])⟩⟩,(by simp),sx ⟨⟨_,rfl,xaq ?_⟩,⟨⟨_,rfl,xar ?_⟩,trivial⟩⟩ trivial⟩;iterate 2 focus (first|(simp;done)|(dsimp only;rw[if_pos (by omega),List.append_assoc];done))
 refine xaI .none rfl rfl rfl (by have hz:=congrArg List.length hg1.1;simp only[xaa,xab,xai] at hz ⊢;omega) ?_;refine evs [19,21,30,36,41,45] [] ?_;refine xaS zaZ .none rfl rfl rfl rfl (zaK hg1.1) rfl ?_;refine evs [19,21,30,36,41,45] [] ?_;refine wc zs2 (zii hb (a:=y.data) (k:=y.index) (hl2 y (by rw[<-hg1.1];simp)).1 (hl2 y (by rw[<-hg1.1];simp)).2) rfl rfl ?_;refine xaI .none rfl rfl rfl (by have hz:=congrArg List.length hg1.1;simp only[xaa,xab,xai] at hz ⊢;omega) ?_;refine evs [19,21,30,36,41,45] [] ?_;refine ar ?_;refine xah ((pre++[y],rest,o++((if pre.length=0 then [40] else [44])++zf7 w y))) ⟨⟨(by have hz:=hg1.1;rw[<-hz];simp),⟨(by have hq:=zgC hb (hl2 y (by rw[<-hg1.1];simp)).1;have h3:(if pre.length=0 then [(40:UInt8)] else [44]).length=1:=(by split<;>rfl);simp only[xaa,xab,xai];omega),(by rw[<-hg1.2.2];simp[zdj])⟩⟩,(by simp),sx ⟨⟨_,rfl,xaq ?_⟩,⟨⟨_,rfl,xar ?_⟩,trivial⟩⟩ trivial⟩;iterate 2 focus (first|(simp;done)|(dsimp only;rw[if_pos (by omega),List.append_assoc];done)|(dsimp only;rw[if_neg (by omega),List.append_assoc];done))
 have hrest:rest=[]:=by
  rcases rest with _|⟨a,b⟩
  ·rfl
  ·exfalso;have hz:=congrArg List.length (hg1.1);simp only[xaa,xab,xac] at hz;omega
 subst hrest;refine sq ?_ ?_<;>intro h3 h3p h3s<;>(try simp only[Q] at h3p);refine xaI .none rfl rfl rfl (by have hz:=congrArg List.length hg1.1;simp only[xaa,xab,xai] at hz ⊢;omega) ?_;refine evs [19,21,30,36,41,45] [] ?_;refine sq ?_ ?_<;>intro h4 h4p h4s<;>(try simp only[Q] at h4p);refine xaI .none rfl rfl rfl (by have hz:=congrArg List.length hg1.1;simp only[xaa,xab,xai] at hz ⊢;omega) ?_;refine evs [19,21,30,36,41,45] [] ?_;refine wc zpw (zfH (by omega) (by omega)) rfl rfl ?_;refine xaI .none rfl rfl rfl (by have hz:=congrArg List.length hg1.1;simp only[xaa,xab,xai] at hz ⊢;omega) ?_;refine evs [19,21,30,36,41,45] [] ?_;refine rq ?_;rotate_left;refine rq ?_;rotate_left;refine sq ?_ ?_<;>intro h5 h5p h5s<;>(try simp only[Q] at h5p);refine xaI .none rfl rfl rfl (by have hz:=congrArg List.length hg1.1;simp only[xaa,xab,xai] at hz ⊢;omega) ?_;refine evs [19,21,30,36,41,45] [] ?_;refine wc zpw (zfH (by omega) (by omega)) rfl rfl ?_;refine xaI .none rfl rfl rfl (by have hz:=congrArg List.length hg1.1;simp only[xaa,xab,xai] at hz ⊢;omega) ?_;refine evs [19,21,30,36,41,45] [] ?_;refine rq ?_;rotate_left;refine rq ?_;rotate_left;all_goals (refine congrArg D.str ?_;have hfin:=hg1.2.2;simp only[zdj,List.append_nil] at hfin;unfold zck;dsimp only;rw[<-hfin];first|(rw[if_pos (by omega),if_pos (by simp at *;omega)];done)|(rw[if_pos (by omega),if_neg (by simp at *;omega)];done)|(rw[if_neg (by omega),if_pos (by simp at *;omega)];done)|(rw[if_neg (by omega),if_neg (by simp at *;omega)];done))
theorem znO {w:List Data} (hb:TB w):FnD Tryz.prog 263 [.d (zam w)] [] (.d (.str (zeZ w))) []:=by
 have hwl:=hb.len;have hct:∀d∈w,∀c∈d.ctors,(zck w c).length<=20:=fun d hd c hc=>zpA hb ⟨(hb.cn d hd c hc).1,(hb.cn d hd c hc).2.1⟩ (fun t ht=>(hb.ar d hd c hc t ht).1);refine bd Tryz.f263 51 [15,22,23,37,49] [] fun w0 F0 own kept hk=>?_;refine xak (ι:=List (Data)×List (Data)×(Str)) hk (fun x=>[(4,.d (.i (x.1.length:Int))),(3,.d (.str x.2.2))]) [5,6,7,8,9,10,11,12,13,14,15,16,17,18,19,20,21,22,23,24,25,26,27,28,29,30,31,32,33,34,35,36,37,38,39,40,41,42,43,44,45,46,47,48,49] (fun x=>[]) (fun x=>x.1++x.2.1=w/\x.2.2.length<=100*x.1.length/\x.2.2++zh2 w (decide (x.1.length=0)) x.2.1=zeZ w) (fun x=>x.2.1.length) ([],w,[]) ⟨by simp,by simp,by simp[zeZ]⟩ ⟨⟨_,rfl,xaq ?_⟩,⟨⟨_,rfl,xar ?_⟩,trivial⟩⟩ trivial (fun x=>rfl) (fun x hg1=>?_);iterate 2 focus (first|rfl|(rw[hfin];simp;done))
 obtain⟨pre,rest,o⟩:=x;dsimp only at hg1 ⊢;refine evc [15,22,23,37,49] [] ?_;refine sq ?_ ?_<;>intro h1 h1p h1s<;>(try simp only[Q] at h1p);rcases rest with _|⟨y,rest⟩
 ·exfalso;simp_all
 have hym:y∈w:=(by rw[<-hg1.1];simp);have hyd:=hb.dn y hym;have hpl:pre.length<4:=(by omega);have hcl:=zkH (w:=w) y.ctors true (hct y hym);refine sq ?_ ?_<;>intro h2 h2p h2s<;>(try simp only[Q] at h2p);refine xaI .none rfl rfl rfl (by(try simp only[xaa,xab,xai]);omega) ?_;refine evs [15,22,23,37,49] [] ?_;refine xaS sl23 .none rfl rfl rfl rfl (zaK hg1.1) rfl ?_;refine evs [15,22,23,37,49] [] ?_;refine xaI .none rfl rfl rfl (by(try simp only[xaa,xab,xai]);omega) ?_;refine xaI .none rfl rfl rfl (by(try simp only[xaa,xab,xai]);omega) ?_;refine evs [15,22,23,37,49] [] ?_;refine xak (ι:=List (Ctor)×List (Ctor)×(Str)) hk (fun x=>[(5,.d (.i (x.1.length:Int))),(3,.d (.str x.2.2))]) [24,25,26,27,28,29,30,31,32,33,34,35,36,37,38,39,40,41,42,43,44,45,46,47,48,49] (fun x=>[]) (fun x=>x.1++x.2.1=y.ctors/\x.2.2.length<=100*pre.length+4+21*x.1.length/\x.2.2++zb3 w (decide (x.1.length=0)) x.2.1=(o++((if pre.length=0 then [] else [59])++(y.name++[61])))++zb3 w true y.ctors) (fun x=>x.2.1.length) ([],y.ctors,o++((if pre.length=0 then [] else [59])++(y.name++[61]))) ⟨by simp,(by have h3:(if pre.length=0 then ([]:Str) else [59]).length<=1:=(by split<;>simp);simp only[xaa,xab,xai];omega),by simp⟩ ⟨⟨_,rfl,xaq ?_⟩,⟨⟨_,rfl,xar ?_⟩,trivial⟩⟩ trivial (fun x=>rfl) (fun x hg2=>?_);iterate 2 focus (first|rfl|(rw[if_neg (by omega)];simp;done))
 obtain⟨pre2,rest2,q⟩:=x;dsimp only at hg2 ⊢;refine evc [15,22,23,37,49] [] ?_;refine xaS sl23 .none rfl rfl rfl rfl (zaK hg1.1) rfl ?_;refine evs [15,22,23,37,49] [] ?_;refine sq ?_ ?_<;>intro h3 h3p h3s<;>(try simp only[Q] at h3p);rcases rest2 with _|⟨c,rest2⟩
 ·exfalso;simp_all
 have hcm:=hct y hym c (by rw[<-hg2.1];simp);have hce:(zck w ⟨c.name,c.args,c.index⟩).length<=20:=hcm;have hp2:=congrArg List.length hg2.1;simp only[xaa,xab] at hp2;refine sq ?_ ?_<;>intro h4 h4p h4s<;>(try simp only[Q] at h4p);refine xaI .none rfl rfl rfl (by(try simp only[xaa,xab,xai]);omega) ?_;refine evs [15,22,23,37,49] [] ?_;refine xaS sl23 .none rfl rfl rfl rfl (zaK hg1.1) rfl ?_;refine evs [15,22,23,37,49] [] ?_;refine xaS zcA .none rfl rfl rfl rfl (zaK hg2.1) rfl ?_;refine evs [15,22,23,37,49] [] ?_;refine wc zlQ (zdd hb (s:=c.name) (l:=c.args) (k:=c.index) (hb.cn y hym c (by rw[<-hg2.1];simp)).1 (hb.cn y hym c (by rw[<-hg2.1];simp)).2.1 (hb.cn y hym c (by rw[<-hg2.1];simp)).2.2 (hb.ar y hym c (by rw[<-hg2.1];simp))) rfl rfl ?_;refine xaI .none rfl rfl rfl (by(try simp only[xaa,xab,xai]);omega) ?_;refine evs [15,22,23,37,49] [] ?_;refine ar ?_;refine xah ((pre2++[c],rest2,q++((if pre2.length=0 then [] else [124])++zck w c))) ⟨⟨(by have hz:=hg2.1;rw[<-hz];simp),⟨(by have h3:(if pre2.length=0 then ([]:Str) else [124]).length<=1:=(by split<;>simp);simp only[xaa,xab,xai];omega),(by rw[<-hg2.2.2];simp[zb3])⟩⟩,(by simp),sx ⟨⟨_,rfl,xaq ?_⟩,⟨⟨_,rfl,xar ?_⟩,trivial⟩⟩ trivial⟩;iterate 2 focus (first|rfl|(rw[if_neg (by omega)];simp;done))
 refine xaS sl23 .none rfl rfl rfl rfl (zaK hg1.1) rfl ?_;refine evs [15,22,23,37,49] [] ?_;refine xaS zcA .none rfl rfl rfl rfl (zaK hg2.1) rfl ?_;refine evs [15,22,23,37,49] [] ?_;refine wc zlQ (zdd hb (s:=c.name) (l:=c.args) (k:=c.index) (hb.cn y hym c (by rw[<-hg2.1];simp)).1 (hb.cn y hym c (by rw[<-hg2.1];simp)).2.1 (hb.cn y hym c (by rw[<-hg2.1];simp)).2.2 (hb.ar y hym c (by rw[<-hg2.1];simp))) rfl rfl ?_;refine xaI .none rfl rfl rfl (by(try simp only[xaa,xab,xai]);omega) ?_;refine evs [15,22,23,37,49] [] ?_;refine ar ?_;refine xah ((pre2++[c],rest2,q++((if pre2.length=0 then [] else [124])++zck w c))) ⟨⟨(by have hz:=hg2.1;rw[<-hz];simp),⟨(by have h3:(if pre2.length=0 then ([]:Str) else [124]).length<=1:=(by split<;>simp);simp only[xaa,xab,xai];omega),(by rw[<-hg2.2.2];simp[zb3])⟩⟩,(by simp),sx ⟨⟨_,rfl,xaq ?_⟩,⟨⟨_,rfl,xar ?_⟩,trivial⟩⟩ trivial⟩;iterate 2 focus (first|rfl|(rw[if_neg (by omega)];simp;done)|(rw[if_pos (by omega)];simp;done))
 have hrest2:rest2=[]:=by
  rcases rest2 with _|⟨a,b⟩
  ·rfl
  ·exfalso;have hz:=congrArg List.length (hg2.1);simp only[xaa,xab,xac] at hz;omega
 subst hrest2;refine ar ?_;have hfin:=hg2.2.2;simp only[zb3,List.append_nil] at hfin;refine xah ((pre++[y],rest,o++((if pre.length=0 then [] else [59])++(y.name++[61])++zb3 w true y.ctors))) ⟨⟨(by have hz:=hg1.1;rw[<-hz];simp),⟨(by have h3:(if pre.length=0 then ([]:Str) else [59]).length<=1:=(by split<;>simp);simp only[xaa,xab,xai];omega),(by rw[<-hg1.2.2];simp[zh2])⟩⟩,(by simp),sx ⟨⟨_,rfl,xaq ?_⟩,⟨⟨_,rfl,xar ?_⟩,trivial⟩⟩ trivial⟩;iterate 2 focus (first|rfl|(simp;done)|(rw[hfin];simp;done))
 refine xaS sl23 .none rfl rfl rfl rfl (zaK hg1.1) rfl ?_;refine evs [15,22,23,37,49] [] ?_;refine xaI .none rfl rfl rfl (by(try simp only[xaa,xab,xai]);omega) ?_;refine xaI .none rfl rfl rfl (by(try simp only[xaa,xab,xai]);omega) ?_;refine evs [15,22,23,37,49] [] ?_;refine xak (ι:=List (Ctor)×List (Ctor)×(Str)) hk (fun x=>[(5,.d (.i (x.1.length:Int))),(3,.d (.str x.2.2))]) [24,25,26,27,28,29,30,31,32,33,34,35,36,37,38,39,40,41,42,43,44,45,46,47,48,49] (fun x=>[]) (fun x=>x.1++x.2.1=y.ctors/\x.2.2.length<=100*pre.length+4+21*x.1.length/\x.2.2++zb3 w (decide (x.1.length=0)) x.2.1=(o++((if pre.length=0 then [] else [59])++(y.name++[61])))++zb3 w true y.ctors) (fun x=>x.2.1.length) ([],y.ctors,o++((if pre.length=0 then [] else [59])++(y.name++[61]))) ⟨by simp,(by have h3:(if pre.length=0 then ([]:Str) else [59]).length<=1:=(by split<;>simp);simp only[xaa,xab,xai];omega),by simp⟩ ⟨⟨_,rfl,xaq ?_⟩,⟨⟨_,rfl,xar ?_⟩,trivial⟩⟩ trivial (fun x=>rfl) (fun x hg2=>?_);iterate 2 focus (first|rfl|(rw[if_neg (by omega)];simp;done)|(rw[if_pos (by omega)];simp;done))
 obtain⟨pre2,rest2,q⟩:=x;dsimp only at hg2 ⊢;refine evc [15,22,23,37,49] [] ?_;refine xaS sl23 .none rfl rfl rfl rfl (zaK hg1.1) rfl ?_;refine evs [15,22,23,37,49] [] ?_;refine sq ?_ ?_<;>intro h5 h5p h5s<;>(try simp only[Q] at h5p);rcases rest2 with _|⟨c,rest2⟩
 ·exfalso;simp_all
 have hcm:=hct y hym c (by rw[<-hg2.1];simp);have hce:(zck w ⟨c.name,c.args,c.index⟩).length<=20:=hcm;have hp2:=congrArg List.length hg2.1;simp only[xaa,xab] at hp2;refine sq ?_ ?_<;>intro h6 h6p h6s<;>(try simp only[Q] at h6p);refine xaI .none rfl rfl rfl (by(try simp only[xaa,xab,xai]);omega) ?_;refine evs [15,22,23,37,49] [] ?_;refine xaS sl23 .none rfl rfl rfl rfl (zaK hg1.1) rfl ?_;refine evs [15,22,23,37,49] [] ?_;refine xaS zcA .none rfl rfl rfl rfl (zaK hg2.1) rfl ?_;refine evs [15,22,23,37,49] [] ?_;refine wc zlQ (zdd hb (s:=c.name) (l:=c.args) (k:=c.index) (hb.cn y hym c (by rw[<-hg2.1];simp)).1 (hb.cn y hym c (by rw[<-hg2.1];simp)).2.1 (hb.cn y hym c (by rw[<-hg2.1];simp)).2.2 (hb.ar y hym c (by rw[<-hg2.1];simp))) rfl rfl ?_;refine xaI .none rfl rfl rfl (by(try simp only[xaa,xab,xai]);omega) ?_;refine evs [15,22,23,37,49] [] ?_;refine ar ?_;refine xah ((pre2++[c],rest2,q++((if pre2.length=0 then [] else [124])++zck w c))) ⟨⟨(by have hz:=hg2.1;rw[<-hz];simp),⟨(by have h3:(if pre2.length=0 then ([]:Str) else [124]).length<=1:=(by split<;>simp);simp only[xaa,xab,xai];omega),(by rw[<-hg2.2.2];simp[zb3])⟩⟩,(by simp),sx ⟨⟨_,rfl,xaq ?_⟩,⟨⟨_,rfl,xar ?_⟩,trivial⟩⟩ trivial⟩;iterate 2 focus (first|rfl|(rw[if_neg (by omega)];simp;done))
 refine xaS sl23 .none rfl rfl rfl rfl (zaK hg1.1) rfl ?_;refine evs [15,22,23,37,49] [] ?_;refine xaS zcA .none rfl rfl rfl rfl (zaK hg2.1) rfl ?_;refine evs [15,22,23,37,49] [] ?_;refine wc zlQ (zdd hb (s:=c.name) (l:=c.args) (k:=c.index) (hb.cn y hym c (by rw[<-hg2.1];simp)).1 (hb.cn y hym c (by rw[<-hg2.1];simp)).2.1 (hb.cn y hym c (by rw[<-hg2.1];simp)).2.2 (hb.ar y hym c (by rw[<-hg2.1];simp))) rfl rfl ?_;refine xaI .none rfl rfl rfl (by(try simp only[xaa,xab,xai]);omega) ?_;refine evs [15,22,23,37,49] [] ?_;refine ar ?_;refine xah ((pre2++[c],rest2,q++((if pre2.length=0 then [] else [124])++zck w c))) ⟨⟨(by have hz:=hg2.1;rw[<-hz];simp),⟨(by have h3:(if pre2.length=0 then ([]:Str) else [124]).length<=1:=(by split<;>simp);simp only[xaa,xab,xai];omega),(by rw[<-hg2.2.2];simp[zb3])⟩⟩,(by simp),sx ⟨⟨_,rfl,xaq ?_⟩,⟨⟨_,rfl,xar ?_⟩,trivial⟩⟩ trivial⟩;iterate 2 focus (first|rfl|(rw[if_neg (by omega)];simp;done)|(rw[if_pos (by omega)];simp;done))
 have hrest2:rest2=[]:=by
  rcases rest2 with _|⟨a,b⟩
  ·rfl
  ·exfalso;have hz:=congrArg List.length (hg2.1);simp only[xaa,xab,xac] at hz;omega
 subst hrest2;refine ar ?_;have hfin:=hg2.2.2;simp only[zb3,List.append_nil] at hfin;refine xah ((pre++[y],rest,o++((if pre.length=0 then [] else [59])++(y.name++[61])++zb3 w true y.ctors))) ⟨⟨(by have hz:=hg1.1;rw[<-hz];simp),⟨(by have h3:(if pre.length=0 then ([]:Str) else [59]).length<=1:=(by split<;>simp);simp only[xaa,xab,xai];omega),(by rw[<-hg1.2.2];simp[zh2])⟩⟩,(by simp),sx ⟨⟨_,rfl,xaq ?_⟩,⟨⟨_,rfl,xar ?_⟩,trivial⟩⟩ trivial⟩;iterate 2 focus (first|rfl|(simp;done)|(rw[hfin];simp;done))
 have hrest:rest=[]:=by
  rcases rest with _|⟨a,b⟩
  ·rfl
  ·exfalso;have hz:=congrArg List.length (hg1.1);simp only[xaa,xab,xac] at hz;omega
 subst hrest;refine rq ?_;rotate_left;all_goals (refine congrArg D.str ?_;have hfin:=hg1.2.2;simp only[zh2,List.append_nil] at hfin;exact hfin)
def pwL (s:Str):List Str:=cutL 59 [] s
def pwP (s:Str) (i:Nat):List Str:=cutL 61 [] (nth (pwL s) i)
def pwC (s:Str) (i:Nat):List Str:=cutL 124 [] (nth (pwP s i) 1)
def zbz (s:Str):Nat:=if s=[] then 0 else min (pwL s).length 5
def zcy (s:Str) (n:Nat):List Str:=(List.range n).map fun i=>nth (pwP s i) 0
def zjS (s:Str) (i:Nat):Data:=⟨nth (pwP s i) 0,((pwC s i).take 5).map (zcw (zcy s (zbz s)))⟩
def zcJ (s:Str) (n:Nat):List Data:=(List.range n).map (zjS s)
def zg7 (s:Str):Bool:=(List.range (zbz s)).all (fun i=>decide ((pwP s i).length=2))&&(za0 (zcJ s (zbz s))&&decide (zeZ (zcJ s (zbz s))=s))
def zdb (s:Str):List Data×Bool:=if zg7 s then (zcJ s (zbz s),true) else ([],false)
theorem zqk (s:Str):zbz s<=(pwL s).length/\zbz s<=5:=by unfold zbz;split<;>omega
theorem zd1 {s:Str}{i:Nat}:i<zbz s↔(i<(pwL s).length/\i<=4)/\s≠[]:=by
 unfold zbz;split
 ·rename_i h;simp[h]
 ·rename_i h;simp only[h,ne_eq,not_false_eq_true,and_true];omega
theorem zaY (s:Str) (n:Nat):(zcy s n).length=n:=by simp[zcy]
theorem zql (s:Str) (n:Nat):zcy s (n+1)=zcy s n++[nth (pwP s n) 0]:=by unfold zcy;rw[List.range_succ,xaf];rfl
theorem zmL (s:Str) (n:Nat):zcJ s (n+1)=zcJ s n++[zjS s n]:=by unfold zcJ;rw[List.range_succ,xaf];rfl
theorem zv0 {s:Str}{n m:Nat} (h:m<n):((zcy s n).map fun n=>[D.str n])[m]?=some [D.str (nth (pwP s m) 0)]:=by
 simp[zcy,h]
theorem zrJ {s:Str}{i:Nat} (h:i<(pwL s).length):(nth (pwL s) i).length<=s.length:=zdY h
theorem zkr {s:Str}{i j:Nat} (h:i<(pwL s).length) (hj:j<(pwP s i).length):(nth (pwP s i) j).length<=s.length:=Nat.le_trans (zdY hj) (zrJ h)
theorem zv5 {s:Str}{i k:Nat} (h:k<(pwC s i).length):(nth (pwC s i) k).length<=(nth (pwP s i) 1).length:=zdY h
theorem ztZ {α:Type}{l:List α}{i:Nat} (h:i=5\/(i<=5/\l.length<=i)):l.take i=l.take 5:=by
 rcases h with rfl|⟨h1,h2⟩
 ·rfl
 ·rw[List.take_of_length_le h2,List.take_of_length_le (by omega)]
theorem zsi {c:UInt8}{s:Str}:(nth (cutL c [] s) 0).length<=s.length:=zdY (ziw c s [])
theorem zqd {names:List Str}{s:Str}:(zcw names s).name.length<=s.length/\(zcw names s).args.length<=4:=by
 have key:∀(ix:Int) (t:Str),(zgT names ix t).name.length<=t.length/\(zgT names ix t).args.length<=4:=by
  intro ix t;refine⟨zsi, ?_⟩;unfold zgT;dsimp only;split
  ·simp
  ·simp only[xac,List.length_take];omega
 unfold zcw;split
 ·have:=key (((nth s (s.length-1)).toNat:Int)-48) (s.take (s.length-2));rw[List.length_take] at this;omega
 ·exact key 0 s
theorem ztI {s:Str} (hs:s.length<=1000000) (h2:∀j,j<zbz s->(pwP s j).length=2):WSmall (zcJ s (zbz s)):=by
 have hl:=zqk s;have hd:∀d∈zcJ s (zbz s),∃i,i<zbz s/\d=zjS s i:=fun d hd=>by
  obtain⟨i,hi,rfl⟩:=List.mem_map.1 hd;exact⟨i,List.mem_range.1 hi,rfl⟩
 refine⟨by simp only[zcJ,xac,List.length_range];omega,fun d hd'=>?_,fun d hd' c hc=>?_⟩
 ·obtain⟨i,hi,rfl⟩:=hd d hd';have:=zkr (s:=s) (i:=i) (j:=0) (by omega) (by rw[h2 i hi];omega);refine⟨?_, ?_⟩
  ·show(nth (pwP s i) 0).length<=_;omega
  ·simp only[zjS,xac,List.length_take];omega
 ·obtain⟨i,hi,rfl⟩:=hd d hd';obtain⟨t,ht,rfl⟩:=List.mem_map.1 hc;have h3:=zkr (s:=s) (i:=i) (j:=1) (by omega) (by rw[h2 i hi];omega);have h4:t.length<=(nth (pwP s i) 1).length:=by simpa using ziv 124 (nth (pwP s i) 1) [] t (List.mem_of_mem_take ht)
  have h5:=zqd (names:=zcy s (zbz s)) (s:=t);omega
theorem zxI {s:Str} (hs:s.length<=1000000):FnD Tryz.prog 261 [.d (.str s),.d (.int .u8 59)] [] (.d (zeO (pwL s))) []:=zcn (s:=s) (c:=59) (by omega)
theorem zva {s:Str}{i:Nat} (hs:s.length<=1000000) (h:i<(pwL s).length):FnD Tryz.prog 261 [.d (.str (nth (pwL s) i)),.d (.int .u8 61)] [] (.d (zeO (pwP s i))) []:=zcn (s:=nth (pwL s) i) (c:=61) (by have:=zrJ h;omega)
theorem zxH {s:Str}{i:Nat} (hs:s.length<=1000000) (h:i<(pwL s).length) (h2:(pwP s i).length=2):FnD Tryz.prog 261 [.d (.str (nth (pwP s i) 1)),.d (.int .u8 124)] [] (.d (zeO (pwC s i))) []:=
 zcn (s:=nth (pwP s i) 1) (c:=124) (by have:=zkr (j:=1) h (by omega);omega)
theorem zkC {w:List Data} (hs:WSmall w):FnD Tryz.prog 182 [.d (zam w)] [] (.d (.bool (za0 w))) []:=by
 rw[<-zgk];exact zf3 hs
theorem zrz {s:Str} (h:zg7 s=false):zdb s=([],false):=by unfold zdb;rw[if_neg (by rw[h];simp)]
theorem zup {s:Str} (h:zg7 s=true):zdb s=(zcJ s (zbz s),true):=by unfold zdb;rw[if_pos h]
theorem zuo {s:Str}{i:Nat} (h:i<zbz s) (h2:¬(pwP s i).length=2):zg7 s=false:=by
 unfold zg7;rw[zc6 h (by simpa using h2),Bool.false_and]
theorem zog {s:Str} (h:∀j,j<zbz s->(pwP s j).length=2):zg7 s=(za0 (zcJ s (zbz s))&&decide (zeZ (zcJ s (zbz s))=s)):=by
 unfold zg7;rw[zdt (fun i hi=>by simpa using h i hi),Bool.true_and]
theorem zj4 {s:Str} (hs:s.length<=100000):FnD Tryz.prog 171 [.d (.str s)] [] (.tup [.d (zam (zdb s).1),.d (.bool (zdb s).2)]) []:=by
 have hl:=zqk s;have hcl:(pwL s).length<=s.length+1:=zdX 59 s [];have hccl:∀i,(pwC s i).length<=(nth (pwP s i) 1).length+1:=fun i=>zdX 124 _ [];have hnl:=zaY s;refine bd Tryz.f171 101 [] [5,17,21] fun w0 F0 own kept hk=>?_;refine xbg 1 sl23 .none rfl rfl ?_;refine ev ?_;refine xbg 2 zbU .none rfl rfl ?_;refine ev ?_;refine wc zfV (zxI (s:=s) (by omega)) rfl rfl ?_;refine ev ?_;refine xak (ι:=Nat) hk (fun i=>[(7,.d (.i (i:Int))),(5,.gl 2 ((zcy s i).map fun n=>[D.str n]))]) [2,3,8,17,18,19,20,21,22,23,24,25,26,27,28,29,30,31,32,33,34,35,36,37,38,39,40,41,42,43,44,45] (fun i=>[(2,some (.tok (((zcy s i).map fun n=>[D.str n])).length 1))]) (fun i=>i<=zbz s/\∀j,j<i->(pwP s j).length=2) (fun i=>zbz s-i) 0 ⟨by omega,fun j h=>absurd h (by omega)⟩ ⟨⟨_,rfl,xaq ?_⟩,⟨⟨_,rfl,LeA.glg ?_⟩,trivial⟩⟩ ⟨zab ?_,trivial⟩ (fun x=>rfl) (fun i hg1=>?_);iterate 3 focus (rfl)
 refine evc [] [5,17,21] ?_;refine xal ?_;refine xaA 12 [(28,.d (.bool (decide (i<zbz s))))] [17,18,19,20,21,22,23,24,25,26,27] ?_ ?_;refine ev ?_;refine sq ?_ ?_<;>intro h1 h1p h1s<;>(try simp only[Q,zaY] at h1p);refine sq ?_ ?_<;>intro h2 h2p h2s<;>(try simp only[Q,zaY] at h2p);focus (exact jn rfl (xap (by(rw[Bool.eq_iff_iff];simp_all[zd1];omega))))
 focus (exact jn rfl (xap (by(rw[Bool.eq_iff_iff];simp_all[zd1];omega))))
 refine sqF ?_;focus (exact jn rfl (xap (by(rw[Bool.eq_iff_iff];simp_all[zd1];omega))))
 refine xaz ?_;refine tv ?_;refine sq ?_ ?_<;>intro h3 h3p h3s<;>(try simp only[Q,zaY] at h3p);refine xaS zbU .none rfl rfl rfl rfl (zap (by omega)) rfl ?_;refine ev ?_;refine wc zfV (zva (s:=s) (i:=i) (by omega) (by omega)) rfl rfl ?_;refine ev ?_;refine sq ?_ ?_<;>intro h4 h4p h4s<;>(try simp only[Q,zaY] at h4p);refine xbf sl23 .none rfl ?_;refine ev ?_;refine rn0 (r2 rfl rfl) (.tup (.cons (.eqd ?_) (.cons (.eqd ?_) .nil)));rotate_left 2;refine xaS (i:=0) zbU .none rfl rfl rfl rfl (zap (by omega)) rfl ?_;refine ev ?_;refine si [0] [_] zbU tz9 ?_;refine ap zbU zz9 rfl rfl rfl (by simp) (by simp[zaY,zcJ];omega) ?_;refine ev ?_;refine ar ?_;refine xah (i+1) ⟨⟨by omega,zaX hg1.2 (by omega)⟩,(by omega),sx ⟨⟨_,rfl,xaq ?_⟩,⟨⟨_,rfl,LeA.glg ?_⟩,trivial⟩⟩ ⟨zab ?_,trivial⟩⟩;iterate 3 focus (first|rfl|(rw[zql];simp;done))
 obtain rfl:i=zbz s:=(by omega);refine xak (ι:=Nat) hk (fun m=>[(9,.d (.i (m:Int))),(4,.gl 1 ((zcJ s m).map Data.c))]) [10,11,12,46,47,48,49,50,51,52,53,54,55,56,57,58,59,60,61,62,63,64,65,66,67,68,69,70,71,72,73,74,75,76,77,78,79,80,81,82,83,84,85,86,87,88,89] (fun m=>[(1,some (.tok (((zcJ s m).map Data.c)).length 2))]) (fun m=>m<=zbz s) (fun m=>zbz s-m) 0 (by omega) ⟨⟨_,rfl,xaq ?_⟩,⟨⟨_,rfl,LeA.glg ?_⟩,trivial⟩⟩ ⟨zab ?_,trivial⟩ (fun x=>rfl) (fun m hg2=>?_);iterate 3 focus (rfl)
 refine evc [] [5,17,21] ?_;refine sq ?_ ?_<;>intro h5 h5p h5s<;>(try simp only[Q,zaY] at h5p);refine xaS zbU .none rfl rfl rfl rfl (zap (by omega)) rfl ?_;refine ev ?_;refine wc zfV (zva (s:=s) (i:=m) (by omega) (by omega)) rfl rfl ?_;refine xaS (i:=1) zbU .none rfl rfl rfl rfl (zap (by(rw[hg1.2 m (by omega)];omega))) rfl ?_;refine ev ?_;refine wc zfV (zxH (s:=s) (i:=m) (by omega) (by omega) (hg1.2 m (by omega))) rfl rfl ?_;refine ev ?_;refine xaV zbU .none rfl rfl rfl rfl (zv0 (by omega)) rfl ?_;refine ev ?_;refine bu [0] [_] zxQ ?_;refine ab 3011 zsv ?_;refine so zvq ?_;refine tv ?_;refine xan 3011 1 3 3 rfl rfl rfl rfl ?_;refine xak (ι:=Nat) hk (fun k=>[(12,.d (.i (k:Int)))]) [65,66,67,68,69,70,71,72,73,74,75,76,77,78,79,80,81,82,83,84,85] (fun k=>[(3011,some (.box [.d (.str (nth (pwP s m) 0)),.gl 3 ((((pwC s m).map (zcw (zcy s (zbz s)))).take k).map Ctor.c)])),(3,some (.tok ((((pwC s m).map (zcw (zcy s (zbz s)))).take k).map Ctor.c).length 3))]) (fun k=>k<=5/\k<=(pwC s m).length) (fun k=>5-k) 0 ⟨by omega,by omega⟩ ⟨⟨_,rfl,xaq ?_⟩,trivial⟩ ⟨?_,⟨zab ?_,trivial⟩⟩ (fun x=>rfl) (fun k hg3=>?_);focus (rfl)
 focus (rfl)
 focus (rfl)
 refine evc [] [5,17,21] ?_;refine xal ?_;refine xaA 8 [(72,.d (.bool (decide (k<(pwC s m).length/\k<=4))))] [65,66,67,68,69,70,71] ?_ ?_;refine ev ?_;refine sq ?_ ?_<;>intro h6 h6p h6s<;>(try simp only[Q,zaY] at h6p);focus (exact jn rfl (xap (by(rw[Bool.eq_iff_iff];simp_all[zd1];omega))))
 focus (exact jn rfl (xap (by(rw[Bool.eq_iff_iff];simp_all[zd1];omega))))
 refine xaz ?_;refine tv ?_;refine sq ?_ ?_<;>intro h7 h7p h7s<;>(try simp only[Q,zaY] at h7p);refine xaS zbU .none rfl rfl rfl rfl (zap (by omega)) rfl ?_;refine evd [] [] ?_;refine Walk.call (cr:=[]) zwM (zjf (names:=zcy s (zbz s)) (s:=nth (pwC s m) k) (by rw[hnl];omega) (by have h1:=zkr (s:=s) (i:=m) (j:=1) (by omega) (by rw[hg1.2 m (by omega)];omega);have h2:=zv5 (s:=s) (i:=m) (k:=k) (by omega);omega)) rfl .none rfl rfl (.cons (.gl _ _) (.cons (.refl _) .nil)) trivial rfl rfl rfl ?_;refine si [0] [_] zcA zgE ?_;refine ap zcA zxX rfl rfl rfl (by simp) (by simp[zaY,zcJ];omega) ?_;refine evd [] [] ?_;refine so zxT ?_;refine dr ?_;refine ar ?_;refine xah (k+1) ⟨⟨by omega,by omega⟩,(by omega),sx ⟨⟨_,rfl,xaq ?_⟩,trivial⟩ ⟨?_,⟨zab ?_,trivial⟩⟩⟩;focus (rfl)
 focus ((show some (Res.box _)=some (Res.box _);rw[zgf (by omega)];simp;done))
 focus ((simp;omega))
 refine si [0] [_] sl23 zsv ?_;refine ap sl23 zxW rfl rfl rfl (by simp) (by simp[zaY,zcJ];omega) ?_;refine ev ?_;refine ar ?_;refine xah (m+1) ⟨(by omega),(by omega),sx ⟨⟨_,rfl,xaq ?_⟩,⟨⟨_,rfl,LeA.glg ?_⟩,trivial⟩⟩ ⟨zab ?_,trivial⟩⟩;iterate 3 focus (first|rfl|(rw[zmL];simp;done)|(rw[zmL,xaf];simp only[xae,List.map_nil,zjS,Data.c];rw[<-List.map_take,ztZ (by omega)];done))
 obtain rfl:m=zbz s:=(by omega);refine xal ?_;refine xaA 9 [(98,.d (.bool (!(za0 (zcJ s (zbz s))&&decide (zeZ (zcJ s (zbz s))=s)))))] [90,91,92,93,94,95,96,97] ?_ ?_;refine ev ?_;refine Walk.call (cr:=[]) zsI (zkC (ztI (by omega) hg1.2)) rfl .none rfl rfl (.cons (.gl _ _) .nil) trivial rfl rfl rfl ?_;refine ev ?_;refine sq ?_ ?_<;>intro h8 h8p h8s<;>(try simp only[Q,zaY] at h8p);focus (exact jn rfl (xap (by(rw[Bool.eq_iff_iff];simp_all[zd1];done))))
 refine Walk.call (cr:=[]) zwN (znO (zuZ (by assumption))) rfl (.some rfl rfl h8) rfl rfl (.cons (.gl _ _) .nil) trivial rfl rfl rfl ?_;refine evs [] [(93,false)] ?_ ⟨⟨_,rfl,h8⟩,trivial⟩;focus (exact jn rfl (xap (by(rw[Bool.eq_iff_iff];simp_all[zd1];done))))
 refine xaz ?_;refine tv ?_;refine sq ?_ ?_<;>intro h9 h9p h9s<;>(try simp only[Q,zaY] at h9p);refine xbf sl23 .none rfl ?_;refine ev ?_;refine rn0 (r2 rfl rfl) (.tup (.cons (.eqd ?_) (.cons (.eqd ?_) .nil)));rotate_left 2;refine rn0 (r2 rfl rfl) (.tup (.cons (.gld ?_) (.cons (.eqd ?_) .nil)));rotate_left 2;all_goals (first|(have hq:=zuo (s:=s) (i:=i) h3p (fun h=>h4p (by omega));rw[zrz hq];all_goals rfl)|(have hr:=zog hg1.2;rw[h9s] at hr;rw[zrz hr];all_goals rfl)|(have hr:=zog hg1.2;rw[h9s] at hr;rw[zup hr];all_goals rfl))
def zdv:List Str:=[[76,61,78,105,108,124,67,111,110,115,40,73,44,76,41],
 [66,61,84,114,117,124,70,108,115,59,84,61,76,101,97,102,124,78,111,100,101,40,84,44,66,44,84,41],
 [69,61,78,117,109,40,73,41,58,49,124,66,111,108,40,66,41,58,50,124,65,100,100,40,69,49,44,69,49,41,58,49,124,73,102,40,69,50,44,69,42,44,69,42,41,59,66,61,84,114,117,124,70,108,115],
 [79,61,78,111,110,124,83,111,109,40,73,41,59,80,61,80,97,105,114,40,79,44,79,41],
 [86,61,69,110,100,58,49,124,83,111,109,101,40,73,44,86,49,41,58,50,124,84,119,111,40,86,42,41],
 [78,61,78,101,118,101,114,40,78,41,59,66,61,84,114,117,124,70,108,115,124,77,97,121,40,78,41],
 [83,61,82,101,100,124,71,114,101,101,110,124,66,108,117,101,124,77,105,120,40,83,44,83,41],
 []]
theorem zm8:zdv.length=8:=rfl
theorem zqG:∀t∈zdv,t.length<=100:=by decide
theorem zsu {i:Nat} (h:i<8):(nth zdv i).length<=100:=zqG _ (zac h)
def zbt (b:Str) (p:Nat):List Data:=(zdb (nth zdv (zan b p 7).toNat)).1
theorem zo9 (b:Str) (p:Nat):(zan b p 7).toNat<7:=by have:=zcd (b:=b) (p:=p) (n:=7) (by omega);omega
theorem zmU:FnD Tryz.prog 172 [] [] (.d (zeO zdv)) []:=by
 refine bd Tryz.f172 2 [] [] fun w0 F0 own kept hk=>?_;refine si [0,1,2,3,4,5,6,7] [_,_,_,_,_,_,_,_] zbU tz9 ?_;refine ev ?_;refine rq ?_;rotate_left;all_goals (rfl)
theorem zmW {b:Str}{p:Nat} (hb:b.length<=2000) (hp:p<=1000000):
  FnD Tryz.prog 290 [.ref 900 0] [(900,some (rdB b p))] (.d (zam (zbt b p))) [(900,some (rdB b (p+1)))]:=by
 have h7:=zo9 b p;have ht8:=zm8;have hv:=zcd (b:=b) (p:=p) (n:=7) (by omega);have hts:=zsu (i:=(zan b p 7).toNat) (by omega);refine bd Tryz.f290 20 [] [] fun w0 F0 own kept hk=>?_;refine wc zwy (zmU) rfl rfl ?_;refine ev ?_;refine ar ?_;refine wd zbQ (zaM (n:=7) hb (by omega) (by omega)) rfl rfl ⟨rfl,trivial⟩ ?_;refine xaS (i:=(zan b p 7).toNat) zbU .none rfl rfl rfl (by omega) (zap (by rw[zm8];omega)) rfl ?_;refine ev ?_;refine wc zwx (zj4 (s:=nth zdv (zan b p 7).toNat) (by omega)) rfl rfl ?_;refine ev ?_;refine rn [(900,some (rdB b (p+1)))] (r1 rfl) (.eqd ?_) ⟨rfl,rfl⟩ (SubO.get ⟨.inr ?_,⟨.inl rfl,trivial⟩⟩) (zaC rfl);rotate_left 2;all_goals (first|((rfl);done)|(rfl))
def anyP:Pat:=⟨1,0,0,0,0,[]⟩
def dA (f:Ty->Nat->Pat×Nat):List Ty->Nat->List Pat×Nat
 | [],q=>([],q)
 |t::r,q=>((f t q).1::(dA f r (f t q).2).1,(dA f r (f t q).2).2)
def zaB (b:Str) (w:List Data):Nat->Ty->Nat->Pat×Nat
 |0,_,p=>(anyP,p)
 |d+1,t,p=>
  if d=0 then (anyP,p)
  else if zan b p 4=0 then (anyP,p+1)
  else if zan b (p+1) 6=0 then (⟨5,0,0,0,0,[(zaB b w d t (p+2)).1,(zaB b w d t (zaB b w d t (p+2)).2).1]⟩,(zaB b w d t (zaB b w d t (p+2)).2).2)
  else if t.data = -1 then (⟨3,0,zan b (p+2) 10,zan b (p+2) 10+zan b (p+3) (10-zan b (p+2) 10)*zan b (p+4) 2,0,[]⟩,p+5)
  else if (zaj w t).length=0 then (anyP,p+2)
  else (⟨4,nth (zaj w t) (zan b (p+2) (zaj w t).length).toNat,0,0,0,(dA (zaB b w d) (zaa w t (nth (zaj w t) (zan b (p+2) (zaj w t).length).toNat)) (p+3)).1⟩,
   (dA (zaB b w d) (zaa w t (nth (zaj w t) (zan b (p+2) (zaj w t).length).toNat)) (p+3)).2)
def bdP:Nat->Nat
 |0=>0
 |d+1=>5+3*bdP d
def Few (w:List Data):Prop:=∀t c,c∈zaj w t->TyIn w.length t->(zaa w t c).length<=3/\∀u∈zaa w t c,TyIn w.length u
theorem zvb {f:Ty->Nat->Pat×Nat}{k:Nat}:∀(l:List Ty) (q:Nat),(∀t∈l,∀q,(f t q).2<=q+k)->(dA f l q).2<=q+l.length*k
 | [],q,_=>by simp[dA]
 |t::r,q,h=>by
  have h1:=h t (by simp) q;have h2:=zvb r (f t q).2 (fun x hx=>h x (by simp[hx]));simp only[dA,xab,Nat.add_mul];omega
theorem ztd {f:Ty->Nat->Pat×Nat}:∀(l:List Ty) (q:Nat),(dA f l q).1.length=l.length
 | [],q=>rfl
 |t::r,q=>by simp only[dA,xab,ztd r]
theorem ziL {l:List Int}{b:Str}{p:Nat} (h:¬l.length=0):nth l (zan b p l.length).toNat∈l:=by
 have:=zcd (b:=b) (p:=p) (n:=(l.length:Int)) (by omega);exact zac (by omega)
theorem zix {b:Str}{w:List Data} (hf:Few w):∀(d:Nat) (t:Ty) (p:Nat),TyIn w.length t->(zaB b w d t p).2<=p+bdP d
 |0,t,p,_=>by simp[zaB,bdP]
 |d+1,t,p,ht=>by
  have ih:=fun t p ht=>zix (b:=b) hf d t p ht;unfold zaB bdP;split
  ·dsimp only;omega
  ·split
   ·dsimp only;omega
   ·split
    ·dsimp only;have h1:=ih t (p+2) ht;have h2:=ih t (zaB b w d t (p+2)).2 ht;omega
    ·split
     ·dsimp only;omega
     ·split
      ·dsimp only;omega
      ·rename_i h5;dsimp only;have hm:=ziL (b:=b) (p:=p+2) h5;have h3:=hf t _ hm ht;have h1:=zvb (f:=zaB b w d) (k:=bdP d) (zaa w t (nth (zaj w t) (zan b (p+2) (zaj w t).length).toNat)) (p+3) (fun u hu q=>ih u q (h3.2 u hu));have h4:(zaa w t (nth (zaj w t) (zan b (p+2) (zaj w t).length).toNat)).length*bdP d<=3*bdP d:=Nat.mul_le_mul_right _ h3.1;omega
theorem zt6 {w:List Data} (hs:WSmall w) (hv:za0 w=true):Few w:=by
 have hw:=ziT hs hv;have hW:=(zco w).1 hv;rintro ⟨a,k⟩ c hc ht
 obtain⟨d,rfl,h1,j,rfl,h3⟩:=zct ht hc;refine⟨?_,fun u hu=>znX hw h1 ⟨j,rfl,h3⟩ hu⟩;have hco:=hW.ctor _ (zac h1) _ (zac h3);simp only[zbA,xad,decide_eq_true_eq] at hco;simp only[zaa,Int.toNat_natCast,xac];omega
theorem Pat.cs_cc (l:List Pat):Pat.cs l=l.map Pat.cc:=by
 rw[Pat.cs_eq];exact List.map_congr_left (fun v _=>Pat.c_eq v)
section
variable {b:Str}{w:List Data}{d p:Nat}{a k:Int}
theorem zrp (h:d=0):zaB b w (d+1) ⟨a,k⟩ p=(anyP,p):=by simp only[zaB];rw[if_pos h]
theorem zrq (h:¬d=0) (h2:zan b p 4=0):zaB b w (d+1) ⟨a,k⟩ p=(anyP,p+1):=by simp only[zaB];rw[if_neg h,if_pos h2]
theorem zrr (h:¬d=0) (h2:¬zan b p 4=0) (h3:zan b (p+1) 6=0):zaB b w (d+1) ⟨a,k⟩ p =
  (⟨5,0,0,0,0,[(zaB b w d ⟨a,k⟩ (p+2)).1,(zaB b w d ⟨a,k⟩ (zaB b w d ⟨a,k⟩ (p+2)).2).1]⟩,(zaB b w d ⟨a,k⟩ (zaB b w d ⟨a,k⟩ (p+2)).2).2):=by
 simp only[zaB];rw[if_neg h,if_neg h2,if_pos h3]
theorem zrs (h:¬d=0) (h2:¬zan b p 4=0) (h3:¬zan b (p+1) 6=0) (h4:a = -1):zaB b w (d+1) ⟨a,k⟩ p =
  (⟨3,0,zan b (p+2) 10,zan b (p+2) 10+zan b (p+3) (10-zan b (p+2) 10)*zan b (p+4) 2,0,[]⟩,p+5):=by
 simp only[zaB];rw[if_neg h,if_neg h2,if_neg h3,if_pos h4]
theorem zrt (h:¬d=0) (h2:¬zan b p 4=0) (h3:¬zan b (p+1) 6=0) (h4:¬a = -1) (h5:(zaj w ⟨a,k⟩).length=0):zaB b w (d+1) ⟨a,k⟩ p=(anyP,p+2):=by
 simp only[zaB];rw[if_neg h,if_neg h2,if_neg h3,if_neg h4,if_pos h5]
theorem zru (h:¬d=0) (h2:¬zan b p 4=0) (h3:¬zan b (p+1) 6=0) (h4:¬a = -1) (h5:¬(zaj w ⟨a,k⟩).length=0){cc:Int} (hc:nth (zaj w ⟨a,k⟩) (zan b (p+2) (zaj w ⟨a,k⟩).length).toNat=cc):zaB b w (d+1) ⟨a,k⟩ p =
  (⟨4,cc,0,0,0,(dA (zaB b w d) (zaa w ⟨a,k⟩ cc) (p+3)).1⟩,(dA (zaB b w d) (zaa w ⟨a,k⟩ cc) (p+3)).2):=by
 simp only[zaB];rw[if_neg h,if_neg h2,if_neg h3,if_neg h4,if_neg h5,hc]
end
theorem zen {b:Str}{w:List Data} (hb:b.length<=2000) (hw:WT w) (hf:Few w):∀(d:Nat){a k m:Int}{p:Nat},m=d->d<=4->1<=d->p+bdP d<=1000000->TyIn w.length ⟨a,k⟩->
  FnD Tryz.prog 230 [.ref 900 0,.d (zam w),.agg [.d (.i a),.d (.i k)],.d (.i m)] [(900,some (rdB b p))]
   (.agg [.d (.i (zaB b w d ⟨a,k⟩ p).1.op),.d (.i (zaB b w d ⟨a,k⟩ p).1.ctor),.d (.i (zaB b w d ⟨a,k⟩ p).1.n),.d (.i (zaB b w d ⟨a,k⟩ p).1.m),.d (.i (zaB b w d ⟨a,k⟩ p).1.var),.d (zad (zaB b w d ⟨a,k⟩ p).1.kids)]) [(900,some (rdB b (zaB b w d ⟨a,k⟩ p).2))]
 |0,a,k,m,p,_,_,h1,_,_=>by omega
 |d+1,a,k,m,p,hm,hd4,_,hp,ht=>by
  have hcl:=zgG hw ht;have hbd:bdP (d+1)=5+3*bdP d:=rfl;have ih:=fun(t:Ty) (q:Nat) (ht:TyIn w.length t)=>zix (b:=b) hf d t q ht;have v10:=zcd (b:=b) (p:=p+2) (n:=10) (by omega);have v11:=zcd (b:=b) (p:=p+3) (n:=10-zan b (p+2) 10) (by omega);have v12:=zcd (b:=b) (p:=p+4) (n:=2) (by omega);have v13:0<=zan b (p+3) (10-zan b (p+2) 10)*zan b (p+4) 2/\zan b (p+3) (10-zan b (p+2) 10)*zan b (p+4) 2<=10:=by
   have h:zan b (p+4) 2=0\/zan b (p+4) 2=1:=by omega
   rcases h with h|h<;>rw[h]<;>omega
  have hvl:((((zaj w ⟨a,k⟩).map fun n=>[D.i n]).length:Nat):Int)=(zaj w ⟨a,k⟩).length:=by simp
  have v14:=fun h=>zcd (b:=b) (p:=p+2) (n:=((zaj w ⟨a,k⟩).length:Int)) h;have hmem:=fun h=>ziL (l:=zaj w ⟨a,k⟩) (b:=b) (p:=p+2) h;generalize hcc:nth (zaj w ⟨a,k⟩) (zan b (p+2) (zaj w ⟨a,k⟩).length).toNat=cc at *;have hfw:=fun h=>hf ⟨a,k⟩ cc (hmem h) ht;have hat:¬(zaj w ⟨a,k⟩).length=0->((zaj w ⟨a,k⟩).map fun n=>[D.i n])[(zan b (p+2) (zaj w ⟨a,k⟩).length).toNat]?=some [D.i cc]:=fun h=>by
   rw[<-hcc];exact zap (by have:=v14 (by omega);omega)
  refine bd Tryz.f230 96 [] [] fun w0 F0 own kept hk=>?_;refine bx 3006 ?_;refine ab 3008 tz36 ?_;refine tv ?_;refine sq ?_ ?_<;>intro h1 h1p h1s<;>(try simp only[Q] at h1p);refine sqT ?_;refine bu [0] [_] st36 ?_;refine so ty36 ?_;refine tv ?_;refine rn [(900,some (rdB b (zaB b w (d+1) ⟨a,k⟩ p).2))] (.cons (.cellA ty36 rfl rfl rfl) .nil) (.agg (.cons (.eqd ?_) (.cons (.eqd ?_) (.cons (.eqd ?_) (.cons (.eqd ?_) (.cons (.eqd ?_) (.cons (.nild ?_) .nil))))))) ⟨rfl,rfl⟩ (SubO.get ⟨.inr ?_,⟨.inl rfl,trivial⟩⟩) (zaC rfl);rotate_left 7;refine Walk.call (cr:=[]) zbQ (zaM (p:=p) (n:=4) hb (by omega) (by omega)) rfl (.some rfl rfl h1) rfl rfl (LeL.refl _) ⟨rfl,trivial⟩ rfl rfl rfl ?_;refine evs [] [(16,false)] ?_ ⟨⟨_,rfl,h1⟩,trivial⟩;refine sq ?_ ?_<;>intro h3 h3p h3s<;>(try simp only[Q] at h3p);refine bu [0] [_] st36 ?_;refine so ty36 ?_;refine tv ?_;refine rn [(900,some (rdB b (zaB b w (d+1) ⟨a,k⟩ p).2))] (.cons (.cellA ty36 rfl rfl rfl) .nil) (.agg (.cons (.eqd ?_) (.cons (.eqd ?_) (.cons (.eqd ?_) (.cons (.eqd ?_) (.cons (.eqd ?_) (.cons (.nild ?_) .nil))))))) ⟨rfl,rfl⟩ (SubO.get ⟨.inr ?_,⟨.inl rfl,trivial⟩⟩) (zaC rfl);rotate_left 7;refine wd zbQ (zaM (p:=p+1) (n:=6) hb (by omega) (by omega)) rfl rfl ⟨rfl,trivial⟩ ?_;refine ev ?_;refine sq ?_ ?_<;>intro h4 h4p h4s<;>(try simp only[Q] at h4p);refine ar ?_;refine wd zlK (zen hb hw hf d (p:=p+2) (by omega) (by omega) (by omega) (by omega) ht) rfl rfl ⟨rfl,trivial⟩ ?_;refine evd [] [] ?_;refine ar ?_;refine wd zlK (zen hb hw hf d (p:=(zaB b w d ⟨a,k⟩ (p+2)).2) (by omega) (by omega) (by omega) (by have:=ih ⟨a,k⟩ (p+2) ht;omega) ht) rfl rfl ⟨rfl,trivial⟩ ?_;refine si [0,1] [_,_] sl34 tz36 ?_;refine bu [0,5] [_,_] st36 ?_;refine so ty36 ?_;refine dr ?_;refine rn [(900,some (rdB b (zaB b w (d+1) ⟨a,k⟩ p).2))] (.cons (.cellA ty36 rfl rfl rfl) .nil) (.agg (.cons (.eqd ?_) (.cons (.eqd ?_) (.cons (.eqd ?_) (.cons (.eqd ?_) (.cons (.eqd ?_) (.cons (.eqd ?_) .nil))))))) ⟨rfl,rfl⟩ (SubO.get ⟨.inr ?_,⟨.inl rfl,trivial⟩⟩) (zaC rfl);rotate_left 7;refine sq ?_ ?_<;>intro h5 h5p h5s<;>(try simp only[Q] at h5p);refine wd zbQ (zaM (p:=p+2) (n:=10) hb (by omega) (by omega)) rfl rfl ⟨rfl,trivial⟩ ?_;refine ev ?_;refine ar ?_;refine wd zbQ (zaM (p:=p+3) (n:=10-zan b (p+2) 10) hb (by omega) (by omega)) rfl rfl ⟨rfl,trivial⟩ ?_;refine ev ?_;refine wd zbQ (zaM (p:=p+4) (n:=2) hb (by omega) (by omega)) rfl rfl ⟨rfl,trivial⟩ ?_;refine ev ?_;refine ar ?_;refine ar ?_;refine bu [0,2,3] [_,_,_] st36 ?_;refine so ty36 ?_;refine tv ?_;refine rn [(900,some (rdB b (zaB b w (d+1) ⟨a,k⟩ p).2))] (.cons (.cellA ty36 rfl rfl rfl) .nil) (.agg (.cons (.eqd ?_) (.cons (.eqd ?_) (.cons (.eqd ?_) (.cons (.eqd ?_) (.cons (.eqd ?_) (.cons (.nild ?_) .nil))))))) ⟨rfl,rfl⟩ (SubO.get ⟨.inr ?_,⟨.inl rfl,trivial⟩⟩) (zaC rfl);rotate_left 7;refine wc zfT (zb5 hw ht) rfl rfl ?_;refine ev ?_;refine sq ?_ ?_<;>intro h6 h6p h6s<;>(try simp only[Q] at h6p);refine bu [0] [_] st36 ?_;refine so ty36 ?_;refine tv ?_;refine rn [(900,some (rdB b (zaB b w (d+1) ⟨a,k⟩ p).2))] (.cons (.cellA ty36 rfl rfl rfl) .nil) (.agg (.cons (.eqd ?_) (.cons (.eqd ?_) (.cons (.eqd ?_) (.cons (.eqd ?_) (.cons (.eqd ?_) (.cons (.nild ?_) .nil))))))) ⟨rfl,rfl⟩ (SubO.get ⟨.inr ?_,⟨.inl rfl,trivial⟩⟩) (zaC rfl);rotate_left 7;refine wd zbQ (zaM (p:=p+2) (n:=((((zaj w ⟨a,k⟩).map fun n=>[D.i n]).length:Nat):Int)) hb (by omega) (by omega)) rfl rfl ⟨rfl,trivial⟩ ?_;refine xaS (i:=(zan b (p+2) (zaj w ⟨a,k⟩).length).toNat) sl29 .none rfl rfl rfl (by rw[hvl];have:=v14 (by omega);omega) (hat (by omega)) rfl ?_;refine ev ?_;refine bu [0,1] [_,_] st36 ?_;refine ab 3011 tz36 ?_;refine so ty36 ?_;refine tv ?_;refine wc zfU (zcg hw ht (hmem (by omega))) rfl rfl ?_;refine ev ?_;refine xan 3011 5 1 6 rfl rfl rfl rfl ?_;refine xak (ι:=List (Ty)×List (Ty)×(Nat)×(List Pat)) hk (fun x=>[(13,.d (.i (x.1.length:Int)))]) [75,76,77,78,79,80,81,82,83,84,85,86,87,88,89,90,91,92,93,94] (fun x=>[(900,some (.box [.d (zcl b),.d (.i (x.2.2.1:Int))])),(3011,some (.box [.d (.i 4),.d (.i cc),.d (.i 0),.d (.i 0),.d (.i 0),.gl 1 (x.2.2.2.map Pat.cc)])),(1,some (.tok (x.2.2.2.map Pat.cc).length 6))]) (fun x=>x.1++x.2.1=zaa w ⟨a,k⟩ cc/\x.2.2.1<=p+3+x.1.length*bdP d/\x.2.2.2.length=x.1.length/\(x.2.2.2++(dA (zaB b w d) x.2.1 x.2.2.1).1,(dA (zaB b w d) x.2.1 x.2.2.1).2)=dA (zaB b w d) (zaa w ⟨a,k⟩ cc) (p+3)) (fun x=>x.2.1.length) ([],zaa w ⟨a,k⟩ cc,p+3,[]) ⟨by simp,by simp,by simp,by simp⟩ ⟨⟨_,rfl,xaq ?_⟩,trivial⟩ ⟨?_,⟨?_,⟨zab ?_,trivial⟩⟩⟩ (fun x=>rfl) (fun x hg1=>?_);focus (rfl)
  iterate 2 focus (first|rfl|(simp[getH];done))
  focus (rfl)
  obtain⟨pre,rest,q,ks⟩:=x;dsimp only at hg1 ⊢;refine evc [] [] ?_;refine sq ?_ ?_<;>intro h7 h7p h7s<;>(try simp only[Q] at h7p);rcases rest with _|⟨y,rest⟩
  ·exfalso;simp_all
  have hpm:pre.length*bdP d<=2*bdP d:=Nat.mul_le_mul_right _ (by have:=(hfw (by omega)).1;omega);refine xaS zaZ .none rfl rfl rfl rfl (zaK hg1.1) rfl ?_;refine evd [] [] ?_;refine ar ?_;refine wd zlK (zen hb hw hf d (a:=y.data) (k:=y.index) (p:=q) (by omega) (by omega) (by omega) (by omega) ((hfw (by omega)).2 y (by rw[<-hg1.1];simp))) rfl rfl ⟨rfl,trivial⟩ ?_;refine si [0] [_] sl34 tz36 ?_;refine ap sl34 zz36 rfl rfl rfl (by simp) (by have hz:=congrArg List.length hg1.1;have:=(hfw (by omega)).1;simp at hz ⊢;omega) ?_;refine evd [] [] ?_;refine so ty34 ?_;refine dr ?_;refine ar ?_;refine xah ((pre++[y],rest,(zaB b w d y q).2,ks++[(zaB b w d y q).1])) ⟨⟨(by have hz:=hg1.1;rw[<-hz];simp),⟨(by have:=ih y q ((hfw (by omega)).2 y (by rw[<-hg1.1];simp));simp only[xaa,xab,xai,Nat.add_mul];omega),(by simp[hg1.2.2.1]),(by rw[<-hg1.2.2.2];simp[dA])⟩⟩,(by simp),sx ⟨⟨_,rfl,xaq ?_⟩,trivial⟩ ⟨?_,⟨?_,⟨zab ?_,trivial⟩⟩⟩⟩;focus ((simp;done))
  iterate 2 focus (first|rfl|(simp[getH];done))
  focus ((simp;done))
  have hrest:rest=[]:=by
   rcases rest with _|⟨a,b⟩
   ·rfl
   ·exfalso;have hz:=congrArg List.length (hg1.1);simp only[xaa,xab,xac] at hz;omega
  subst hrest;refine so ty36 ?_;refine tv ?_;refine rn [(900,some (rdB b (zaB b w (d+1) ⟨a,k⟩ p).2))] (.cons (.cellA ty36 rfl rfl rfl) .nil) (.agg (.cons (.eqd ?_) (.cons (.eqd ?_) (.cons (.eqd ?_) (.cons (.eqd ?_) (.cons (.eqd ?_) (.cons (.gld ?_) .nil))))))) ⟨rfl,rfl⟩ (SubO.get ⟨.inr ?_,⟨.inl rfl,trivial⟩⟩) (zaC rfl);rotate_left 7;all_goals (((first|(rw[zrp (by omega)];all_goals first|rfl|(show _=D.sl (Pat.cs _);rw[Pat.cs_cc];all_goals rfl)|(show _=Pat.cs _;rw[Pat.cs_cc];all_goals rfl))|(rw[zrq (by omega) (by omega)];all_goals first|rfl|(show _=D.sl (Pat.cs _);rw[Pat.cs_cc];all_goals rfl)|(show _=Pat.cs _;rw[Pat.cs_cc];all_goals rfl))|(rw[zrr (by omega) (by omega) (by omega)];all_goals first|rfl|(show _=D.sl (Pat.cs _);rw[Pat.cs_cc];all_goals rfl)|(show _=Pat.cs _;rw[Pat.cs_cc];all_goals rfl))|(rw[zrs (by omega) (by omega) (by omega) (by omega)];all_goals first|rfl|(show _=D.sl (Pat.cs _);rw[Pat.cs_cc];all_goals rfl)|(show _=Pat.cs _;rw[Pat.cs_cc];all_goals rfl))|(rw[zrt (by omega) (by omega) (by omega) (by omega) (by omega)];all_goals first|rfl|(show _=D.sl (Pat.cs _);rw[Pat.cs_cc];all_goals rfl)|(show _=Pat.cs _;rw[Pat.cs_cc];all_goals rfl))|(rw[zru (by omega) (by omega) (by omega) (by omega) (by omega) hcc];have hfin:=hg1.2.2.2;simp only[dA,List.append_nil] at hfin;rw[<-hfin];all_goals first|rfl|(show _=D.sl (Pat.cs _);rw[Pat.cs_cc];all_goals rfl)|(show _=Pat.cs _;rw[Pat.cs_cc];all_goals rfl)));done))
end Go.Proofs.YtlfipehhbdjnjaaGreat
