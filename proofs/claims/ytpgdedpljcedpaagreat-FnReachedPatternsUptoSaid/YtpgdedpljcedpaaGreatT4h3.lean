/-
  THE ABSTRACT WALK AND THE WALKS, part 3 of 6: the parts F21, F24, F25, F13, G2, F22, F26, F23, F27, F28, F29, F40, F14, F16, F42, Val, F7, F8, Wu, F9, F10, F11, F17, F43, F44, F45, F46, F112.
-/
import Derived.Test.YtpgdedpljcedpaaGreatT4h2
namespace Go.Proofs.YtpgdedpljcedpaaGreat
open Go
set_option linter.unusedSimpArgs false
set_option linter.unusedVariables false
set_option maxRecDepth 100000
set_option maxHeartbeats 4000000
theorem ziA {w:List Data}{d:Nat}{k:Int}:zah w ⟨d,k⟩=zaO w ⟨d,k⟩:=by unfold zah;rw[if_neg (by simp only;omega)]
theorem zhp {w:List Data}{k:Int}:zah w ⟨-1,k⟩=[]:=by unfold zah;rw[if_pos rfl]
theorem zhq {w:List Data} (hw:WT w){a k:Int} (ht:TyIn w.length ⟨a,k⟩):(zah w ⟨a,k⟩).length<=1000000000000:=by
 rcases ht with ha|⟨d,hd,hlt⟩
 ·simp only at ha;subst ha;rw[zhp];exact Nat.zero_le _
 ·simp only at hd;subst hd;rw[ziA];exact zgp hw
theorem zcF {w:List Data}{a k c:Int} (ht:TyIn w.length ⟨a,k⟩) (h:c∈zah w ⟨a,k⟩):∃d:Nat,a=d/\d<w.length/\PlaceIn w d c:=by
 rcases ht with ha|⟨d,hd,hlt⟩
 ·simp only at ha;subst ha;rw[zhp] at h;simp at h
 ·simp only at hd;subst hd;rw[ziA] at h;exact⟨d,rfl,hlt,zcn h⟩
theorem zgR {w:List Data} (hw:WT w){a k:Int}{p:Pat} (ht:TyIn w.length ⟨a,k⟩) (h:ownP w ⟨a,k⟩ p=true):∀t∈zag w ⟨a,k⟩ p,TyIn w.length t:=by
 intro t hm;unfold zag at hm;split at hm
 ·rename_i h4;unfold ownP at h;have h':=of_decide_eq_true h;have hc:p.ctor∈zah w ⟨a,k⟩:=by
   rcases h'.2.2.2.2 with h|h|h|h|h|h
   ·omega
   ·omega
   ·omega
   ·omega
   ·omega
   ·exact h.2
  obtain⟨d,rfl,h1,h2⟩:=zcF ht hc;exact zeo hw h1 h2 hm
 ·split at hm
  ·simp only[List.mem_cons,List.not_mem_nil,or_false] at hm;rcases hm with rfl|rfl<;>exact ht
  ·split at hm
   ·simp only[List.mem_cons,List.not_mem_nil,or_false] at hm;subst hm;exact ht
   ·simp at hm
theorem zhn {w:List Data} (hw:WT w){a k:Int}{p:Pat} (ht:TyIn w.length ⟨a,k⟩) (h:p.op=4->p.ctor∈zah w ⟨a,k⟩):(zag w ⟨a,k⟩ p).length<=1000000000000:=by
 unfold zag;split
 ·rename_i h4;obtain⟨d,rfl,h1,h2⟩:=zcF ht (h h4);exact zdW hw h1 h2
 ·split
  ·simp
  ·split<;>simp
def zgu (op:Int):Int:=if op=5 then 2 else if op=6 then 1 else if op=4 then -1 else 0
theorem zo9 {op:Int}:FnD Tryz.prog 221 [.d (.i op)] [] (.d (.i (zgu op))) []:=by
 refine bd Tryz.f221 10 [] [] fun w0 F0 own kept hk=>?_;refine sq ?_ ?_<;>intro h1 h1p h1s;refine rq ?_;rotate_left;refine sq ?_ ?_<;>intro h2 h2p h2s;refine rq ?_;rotate_left;refine sq ?_ ?_<;>intro h3 h3p h3s;refine rq ?_;rotate_left;refine rq ?_;rotate_left;all_goals (refine congrArg D.i ?_;simp only[zgu];simp_all)
theorem zcc {w:List Data} (hw:WT w){a k:Int} (ht:TyIn w.length ⟨a,k⟩):FnD Tryz.prog 97 [.d (zal w),.agg [.d (.i a),.d (.i k)]] [] (.d (zcy (zah w ⟨a,k⟩))) []:=by
 rcases ht with ha|⟨d,hd,hlt⟩
 ·simp only at ha;subst ha;rw[zhp];exact zj7
 ·simp only at hd;subst hd;rw[ziA];exact zn5 hw hlt
theorem zcr {w:List Data} (hw:WT w){a k c:Int} (ht:TyIn w.length ⟨a,k⟩) (hc:c∈zah w ⟨a,k⟩):FnD Tryz.prog 131 [.d (zal w),.agg [.d (.i a),.d (.i k)],.d (.i c)] [] (.d (zct (zaa w ⟨a,k⟩ c))) []:=by
 obtain⟨d,rfl,h1,h2⟩:=zcF ht hc;exact zo0 hw h1 h2
theorem zg0 {w:List Data} (hw:WT w){a k:Int}{p:Pat} (ht:TyIn w.length ⟨a,k⟩):
  FnD Tryz.prog 191 [.d (zal w),.agg [.d (.i a),.d (.i k)],.agg [.d (.i p.op),.d (.i p.ctor),.d (.i p.n),.d (.i p.m),.d (.i p.var),.d (zae p.kids)]] [] (.d (.bool (ownP w ⟨a,k⟩ p))) []:=by
 have hcl:=zhq hw ht;refine bd Tryz.f191 96 [] [1,2,4,13] fun w0 F0 own kept hk=>?_;refine bx 3004 ?_;refine bx 3005 ?_;refine ev ?_;refine xal ?_;refine xaB 8 [(15,.d (.bool (decide (p.op=2\/p.op=6))))] [8,9,10,11,12,13,14] ?_ ?_;refine ev ?_;refine sq ?_ ?_<;>intro h1 h1p h1s;exact jnb rfl;exact jnb rfl;refine xaA ?_;refine ev ?_;refine xal ?_;refine xaB 11 [(26,.d (.bool (decide ((p.op=2\/p.op=6)/\(p.var<0\/5<p.var)))))] [16,17,18,19,20,21,22,23,24,25] ?_ ?_;refine ev ?_;refine sq ?_ ?_<;>intro h2 h2p h2s;refine sq ?_ ?_<;>intro h3 h3p h3s;exact jnb rfl;exact jnb rfl;exact jnb rfl;refine xaB 9 [(35,.d (.bool (decide ((p.op=2\/p.op=6)/\(p.var<0\/5<p.var)\/¬(p.op=2\/p.op=6)/\p.var≠0))))] [27,28,29,30,31,32,33,34] ?_ ?_;refine ev ?_;refine sq ?_ ?_<;>intro h4 h4p h4s;exact jnb rfl;refine sq ?_ ?_<;>intro h5 h5p h5s;exact jnb rfl;exact jnb rfl;refine xaA ?_;refine tv ?_;refine sq ?_ ?_<;>intro h6 h6p h6s;refine rq ?_;rotate_left;refine xal ?_;refine xaB 13 [(48,.d (.bool (decide (p.op≠3/\(p.n≠0\/p.m≠0)))))] [36,37,38,39,40,41,42,43,44,45,46,47] ?_ ?_;refine ev ?_;refine sq ?_ ?_<;>intro h7 h7p h7s;refine sq ?_ ?_<;>intro h8 h8p h8s;exact jnb rfl;exact jnb rfl;exact jnb rfl;refine xaB 10 [(58,.d (.bool (decide (p.op≠3/\(p.n≠0\/p.m≠0)\/p.op≠4/\p.ctor≠0))))] [49,50,51,52,53,54,55,56,57] ?_ ?_;refine ev ?_;refine sq ?_ ?_<;>intro h9 h9p h9s;exact jnb rfl;refine sq ?_ ?_<;>intro h10 h10p h10s;exact jnb rfl;exact jnb rfl;refine xaA ?_;refine tv ?_;refine sq ?_ ?_<;>intro h11 h11p h11s;refine rq ?_;rotate_left;refine sq ?_ ?_<;>intro h12 h12p h12s;refine sq ?_ ?_<;>intro h13 h13p h13s;refine rq ?_;rotate_left;refine sq ?_ ?_<;>intro h14 h14p h14s;refine xal ?_;refine xaB 8 [(75,.d (.bool (decide (a = -1/\0<=p.n))))] [68,69,70,71,72,73,74] ?_ ?_;refine ev ?_;refine sq ?_ ?_<;>intro h15 h15p h15s;exact jnb rfl;exact jnb rfl;refine xaB 7 [(82,.d (.bool (decide (a = -1/\0<=p.n/\p.n<=p.m))))] [76,77,78,79,80,81] ?_ ?_;refine ev ?_;refine sq ?_ ?_<;>intro h16 h16p h16s;exact jnb rfl;exact jnb rfl;refine xaB 5 [(87,.d (.bool (decide (a = -1/\0<=p.n/\p.n<=p.m/\p.m<=9))))] [83,84,85,86] ?_ ?_;refine ev ?_;refine sq ?_ ?_<;>intro h17 h17p h17s;exact jnb rfl;exact jnb rfl;refine xaA ?_;refine ev ?_;refine rq ?_;rotate_left;refine sq ?_ ?_<;>intro h18 h18p h18s;refine wc zh8 (zcc hw ht) rfl rfl ?_;refine evd [] [] ?_;refine wc zmZ (ze9 hcl) rfl rfl ?_;refine evd [] [] ?_;refine dr ?_;refine rq ?_;rotate_left;refine rq ?_;rotate_left;refine sq ?_ ?_<;>intro h19 h19p h19s;refine sq ?_ ?_<;>intro h20 h20p h20s;refine rq ?_;rotate_left;refine sq ?_ ?_<;>intro h21 h21p h21s;refine xal ?_;refine xaB 8 [(75,.d (.bool (decide (a = -1/\0<=p.n))))] [68,69,70,71,72,73,74] ?_ ?_;refine ev ?_;refine sq ?_ ?_<;>intro h22 h22p h22s;exact jnb rfl;exact jnb rfl;refine xaB 7 [(82,.d (.bool (decide (a = -1/\0<=p.n/\p.n<=p.m))))] [76,77,78,79,80,81] ?_ ?_;refine ev ?_;refine sq ?_ ?_<;>intro h23 h23p h23s;exact jnb rfl;exact jnb rfl;refine xaB 5 [(87,.d (.bool (decide (a = -1/\0<=p.n/\p.n<=p.m/\p.m<=9))))] [83,84,85,86] ?_ ?_;refine ev ?_;refine sq ?_ ?_<;>intro h24 h24p h24s;exact jnb rfl;exact jnb rfl;refine xaA ?_;refine ev ?_;refine rq ?_;rotate_left;refine sq ?_ ?_<;>intro h25 h25p h25s;refine wc zh8 (zcc hw ht) rfl rfl ?_;refine evd [] [] ?_;refine wc zmZ (ze9 hcl) rfl rfl ?_;refine evd [] [] ?_;refine dr ?_;refine rq ?_;rotate_left;refine rq ?_;rotate_left;refine sq ?_ ?_<;>intro h26 h26p h26s;refine sq ?_ ?_<;>intro h27 h27p h27s;refine rq ?_;rotate_left;refine sq ?_ ?_<;>intro h28 h28p h28s;refine xal ?_;refine xaB 8 [(75,.d (.bool (decide (a = -1/\0<=p.n))))] [68,69,70,71,72,73,74] ?_ ?_;refine ev ?_;refine sq ?_ ?_<;>intro h29 h29p h29s;exact jnb rfl;exact jnb rfl;refine xaB 7 [(82,.d (.bool (decide (a = -1/\0<=p.n/\p.n<=p.m))))] [76,77,78,79,80,81] ?_ ?_;refine ev ?_;refine sq ?_ ?_<;>intro h30 h30p h30s;exact jnb rfl;exact jnb rfl;refine xaB 5 [(87,.d (.bool (decide (a = -1/\0<=p.n/\p.n<=p.m/\p.m<=9))))] [83,84,85,86] ?_ ?_;refine ev ?_;refine sq ?_ ?_<;>intro h31 h31p h31s;exact jnb rfl;exact jnb rfl;refine xaA ?_;refine ev ?_;refine rq ?_;rotate_left;refine sq ?_ ?_<;>intro h32 h32p h32s;refine wc zh8 (zcc hw ht) rfl rfl ?_;refine evd [] [] ?_;refine wc zmZ (ze9 hcl) rfl rfl ?_;refine evd [] [] ?_;refine dr ?_;refine rq ?_;rotate_left;refine rq ?_;rotate_left;refine sq ?_ ?_<;>intro h33 h33p h33s;refine rq ?_;rotate_left;refine sq ?_ ?_<;>intro h34 h34p h34s;refine xal ?_;refine xaB 8 [(75,.d (.bool (decide (a = -1/\0<=p.n))))] [68,69,70,71,72,73,74] ?_ ?_;refine ev ?_;refine sq ?_ ?_<;>intro h35 h35p h35s;exact jnb rfl;exact jnb rfl;refine xaB 7 [(82,.d (.bool (decide (a = -1/\0<=p.n/\p.n<=p.m))))] [76,77,78,79,80,81] ?_ ?_;refine ev ?_;refine sq ?_ ?_<;>intro h36 h36p h36s;exact jnb rfl;exact jnb rfl;refine xaB 5 [(87,.d (.bool (decide (a = -1/\0<=p.n/\p.n<=p.m/\p.m<=9))))] [83,84,85,86] ?_ ?_;refine ev ?_;refine sq ?_ ?_<;>intro h37 h37p h37s;exact jnb rfl;exact jnb rfl;refine xaA ?_;refine ev ?_;refine rq ?_;rotate_left;refine sq ?_ ?_<;>intro h38 h38p h38s;refine wc zh8 (zcc hw ht) rfl rfl ?_;refine evd [] [] ?_;refine wc zmZ (ze9 hcl) rfl rfl ?_;refine evd [] [] ?_;refine dr ?_;refine rq ?_;rotate_left;refine rq ?_;rotate_left;all_goals (refine congrArg D.bool ?_;unfold ownP;rw[Bool.eq_iff_iff];by_cases hmem:p.ctor∈zah w ⟨a,k⟩<;>(simp only[hmem,and_true,and_false,or_false,decide_eq_true_eq,xad,Bool.false_eq_true,true_iff,false_iff];simp only[decide_eq_true_eq,decide_eq_false_iff_not] at *;omega))
theorem zdz {w:List Data} (hw:WT w){a k:Int}{p:Pat} (ht:TyIn w.length ⟨a,k⟩) (h:p.op=4->p.ctor∈zah w ⟨a,k⟩):
  FnD Tryz.prog 192 [.d (zal w),.agg [.d (.i a),.d (.i k)],.agg [.d (.i p.op),.d (.i p.ctor),.d (.i p.n),.d (.i p.m),.d (.i p.var),.d (zae p.kids)]] [] (.d (zct (zag w ⟨a,k⟩ p))) []:=by
 by_cases h4:p.op=4
 ·have e:zag w ⟨a,k⟩ p=zaa w ⟨a,k⟩ p.ctor:=by unfold zag;rw[if_pos h4]
  rw[e];refine bd Tryz.f192 30 [] [] fun w0 F0 own kept hk=>?_;refine bx 3004 ?_;refine bx 3005 ?_;refine ev ?_;refine sq ?_ ?_<;>intro h1 h1p h1s;refine wc zgB (zcr hw ht (h h4)) rfl rfl ?_;refine ev ?_;refine rq ?_;rotate_left;exfalso;simp_all;all_goals (rfl)
 ·have e:zag w ⟨a,k⟩ p=List.replicate (zgu p.op).toNat ⟨a,k⟩:=by
   unfold zag zgu;rw[if_neg h4];by_cases h5:p.op=5
   ·rw[if_pos h5,if_pos h5];rfl
   ·rw[if_neg h5,if_neg h5];by_cases h6:p.op=6
    ·rw[if_pos h6,if_pos h6];rfl
    ·rw[if_neg h6,if_neg h6,if_neg h4];rfl
  have hb:0<=zgu p.op/\zgu p.op<=2:=by unfold zgu;split<;>(try split)<;>(try split)<;>omega
  rw[e];refine bd Tryz.f192 30 [] [] fun w0 F0 own kept hk=>?_;refine bx 3004 ?_;refine bx 3005 ?_;refine ev ?_;refine sq ?_ ?_<;>intro h1 h1p h1s;exfalso;simp_all;refine xbi 5 zaW .none rfl rfl ?_;refine ev ?_;refine xak (ι:=Nat) hk (fun i=>[(8,.d (.i (i:Int))),(7,.gl 5 ((List.replicate i (⟨a,k⟩:Ty)).map Ty.c))]) [18,19,20,21,22,23,24,25,26,27,28] (fun i=>[(5,some (.tok (((List.replicate i (⟨a,k⟩:Ty)).map Ty.c)).length 2))]) (fun i=>(i:Int)<=zgu p.op) (fun i=>(zgu p.op).toNat-i) 0 (by omega) ⟨⟨_,rfl,xaq ?_⟩,⟨⟨_,rfl,LeA.glg ?_⟩,trivial⟩⟩ ⟨zab ?_,trivial⟩ (fun x=>rfl) (fun i hg1=>?_);iterate 3 focus (rfl)
  refine evc [] [] ?_;refine wc zy4 (zo9) rfl rfl ?_;refine ev ?_;refine sq ?_ ?_<;>intro h2 h2p h2s<;>(try simp only[Q] at h2p);refine si [0] [_] zaW tz25 ?_;refine ap zaW zz25 rfl rfl rfl (by simp) (by simp;omega) ?_;refine ev ?_;refine ar ?_;refine xah (i+1) ⟨(by omega),(by omega),sx ⟨⟨_,rfl,xaq ?_⟩,⟨⟨_,rfl,LeA.glg ?_⟩,trivial⟩⟩ ⟨zab ?_,trivial⟩⟩;iterate 3 focus ((simp[List.replicate_succ'];done))
  refine rn0 (r1 rfl) (.gld ?_);rotate_left;all_goals ((obtain rfl:i=(zgu p.op).toNat:=by omega);simp)
theorem zbJ {w:List Data}{n:Nat}{t:Ty}{p:Pat} (h:zaq w (n+1) t p=true):ownP w t p=true/\p.kids.length=(zag w t p).length:=by
 simp only[zaq,xad] at h;refine⟨h.1, ?_⟩;by_cases hl:(zag w t p).length=p.kids.length
 ·exact hl.symm
 ·rw[zf5 hl] at h;simp at h
theorem zb8 {w:List Data}{t:Ty}{p:Pat} (h:ownP w t p=true):p.op=4->p.ctor∈zah w t:=by
 intro h4;unfold ownP at h;have h':=(of_decide_eq_true h).2.2.2.2;rcases h' with h|h|h|h|h|h
 ·omega
 ·omega
 ·omega
 ·omega
 ·omega
 ·exact h.2
theorem zrN {w:List Data}{t:Ty}{p:Pat} (h:ownP w t p=true):(p.op=2\/p.op=6)->0<=p.var/\p.var<=5:=by
 unfold ownP at h;exact(of_decide_eq_true h).1
theorem zfZ {w:List Data} (hw:WT w):∀(n:Nat){a k m:Int}{p:Pat},m=n->n<=1000->TyIn w.length ⟨a,k⟩->p.ok->
  FnD Tryz.prog 159 [.d (zal w),.agg [.d (.i a),.d (.i k)],.agg [.d (.i p.op),.d (.i p.ctor),.d (.i p.n),.d (.i p.m),.d (.i p.var),.d (zae p.kids)],.d (.i m)] [] (.d (.bool (zaq w n ⟨a,k⟩ p))) []
 |0,a,k,m,p,hm,_,ht,hok=>by
  refine bd Tryz.f159 50 [] [1] fun w0 F0 own kept hk=>?_;refine bx 3005 ?_;refine bx 3006 ?_;refine ev ?_;refine xal ?_;refine xaB 9 [(19,.d (.bool (true)))] [11,12,13,14,15,16,17,18] ?_ ?_;refine ev ?_;refine sq ?_ ?_<;>intro h1 h1p h1s;exact jnb rfl;refine Walk.call (cr:=[]) zq5 (zg0 hw ht) rfl (.some rfl rfl h1) rfl rfl (LeL.refl _) trivial rfl rfl rfl ?_;refine evs [] [(13,false)] ?_ ⟨⟨_,rfl,h1⟩,trivial⟩;exact jnb rfl;refine xaA ?_;refine tv ?_;refine sq ?_ ?_<;>intro h2 h2p h2s;refine rq ?_;rotate_left;exact absurd h2 (by simp);all_goals (rfl)
 |n+1,a,k,m,p,hm,hn,ht,hok=>by
  rw[Pat.ok_iff] at hok;by_cases ho:ownP w ⟨a,k⟩ p=true
  ·have hin:=zgR hw ht ho;have hlen:=zhn hw ht (zb8 ho);refine bd Tryz.f159 50 [] [1] fun w0 F0 own kept hk=>?_;refine bx 3005 ?_;refine bx 3006 ?_;refine ev ?_;refine xal ?_;refine xaB 9 [(19,.d (.bool (false)))] [11,12,13,14,15,16,17,18] ?_ ?_;refine ev ?_;refine sq ?_ ?_<;>intro h1 h1p h1s;exact jnb rfl;refine Walk.call (cr:=[]) zq5 (zg0 hw ht) rfl (.some rfl rfl h1) rfl rfl (LeL.refl _) trivial rfl rfl rfl ?_;refine evs [] [(13,false)] ?_ ⟨⟨_,rfl,h1⟩,trivial⟩;exact jnb rfl;refine xaA ?_;refine tv ?_;refine sq ?_ ?_<;>intro h2 h2p h2s;exact absurd h2 (by simp);refine wc zkh (zdz hw ht (zb8 ho)) rfl rfl ?_;refine ev ?_;refine sq ?_ ?_<;>intro h3 h3p h3s;refine rq ?_;rotate_left;try simp only[Q,Pat.cs_len] at h3p
   refine xak (ι:=Nat) hk (fun i=>[(10,.d (.i (i:Int)))]) [8,30,31,32,33,34,35,36,37,38,39,40,41,42,43,44,45,46,47,48,49] (fun i=>[]) (fun i=>i<=(zag w ⟨a,k⟩ p).length/\∀i',i'<i->zaq w n (nth (zag w ⟨a,k⟩ p) i') (nth p.kids i')=true) (fun i=>(zag w ⟨a,k⟩ p).length-i) 0 ⟨by omega,fun _ h=>absurd h (by omega)⟩ ⟨⟨_,rfl,xaq ?_⟩,trivial⟩ trivial (fun x=>rfl) (fun i hg1=>?_);focus (first|(simp;done)|(simp_all;done))
   refine evc [] [1] ?_;refine sq ?_ ?_<;>intro h4 h4p h4s;try simp only[Q,Pat.cs_len] at h4p
   refine xaV zaW .none rfl rfl rfl rfl (zar (by omega)) rfl ?_;refine evd [] [] ?_;refine xaV sl26 .none rfl rfl rfl rfl (zaE (by omega)) rfl ?_;refine evd [] [] ?_;refine ar ?_;refine wc zq0 (zfZ hw n (by omega) (by omega) (hin _ (zac (by omega))) (Pats.ok_mem hok.2 _ (zac (by omega)))) rfl rfl ?_;refine evd [] [] ?_;refine dr ?_;refine sq ?_ ?_<;>intro h5 h5p h5s;refine rq ?_;rotate_left;try simp only[Q,Pat.cs_len] at h5p
   refine ar ?_;refine xah (i+1) ⟨⟨by omega,zba hg1.2 (by assumption)⟩,(by omega),sx ⟨⟨_,rfl,xaq ?_⟩,trivial⟩ trivial⟩;focus (first|(simp;done)|(simp_all;done))
   refine rq ?_;rotate_left;all_goals (refine congrArg D.bool ?_;unfold zaq;rw[ho,Bool.true_and];first|(rw[zf5 (by simp[Pat.cs_len] at *;omega)])|(rw[zcp (by simp[Pat.cs_len] at *;omega) (fun x hx=>hg1.2 x (by simp[Pat.cs_len] at *;omega))])|(rw[zb9 (i:=i) (by simp[Pat.cs_len] at *;omega) (by simp[Pat.cs_len] at *;omega) (by assumption)]))
  ·have ho':ownP w ⟨a,k⟩ p=false:=by simpa using ho
   refine bd Tryz.f159 50 [] [1] fun w0 F0 own kept hk=>?_;refine bx 3005 ?_;refine bx 3006 ?_;refine ev ?_;refine xal ?_;refine xaB 9 [(19,.d (.bool (true)))] [11,12,13,14,15,16,17,18] ?_ ?_;refine ev ?_;refine sq ?_ ?_<;>intro h1 h1p h1s;exact jnb rfl;refine Walk.call (cr:=[]) zq5 (zg0 hw ht) rfl (.some rfl rfl h1) rfl rfl (LeL.refl _) trivial rfl rfl rfl ?_;refine evs [] [(13,false)] ?_ ⟨⟨_,rfl,h1⟩,trivial⟩;exact jnb rfl;refine xaA ?_;refine tv ?_;refine sq ?_ ?_<;>intro h2 h2p h2s;refine rq ?_;rotate_left;exact absurd h2 (by simp);all_goals (refine congrArg D.bool ?_;unfold zaq;rw[ho'];rfl)
theorem zgl {l:List Vt}{n:Int} (h:l.length<=1000000000000):FnD Tryz.prog 194 [.d (zc4 l),.d (.i n)] [] (.d (.i (zbM l n))) []:=by
 refine bd Tryz.f194 20 [] [] fun w0 F0 own kept hk=>?_;refine xak (ι:=List (Vt)×List (Vt)) hk (fun x=>[(5,.d (.i (x.1.length:Int)))]) [4,6,7,8,9,10,11,12,13,14,15,16,17,18,19] (fun x=>[]) (fun x=>x.1++x.2=l/\idxF (fun v=>decide (v.var=n)) x.2 x.1.length=idxF (fun v=>decide (v.var=n)) l 0) (fun x=>x.2.length) ([],l) ⟨by simp,rfl⟩ ⟨⟨_,rfl,xaq ?_⟩,trivial⟩ trivial (fun x=>rfl) (fun x hg1=>?_);focus (rfl)
 obtain⟨pre,rest⟩:=x;dsimp only at hg1 ⊢;refine evc [] [] ?_;refine sq ?_ ?_<;>intro h1 h1p h1s<;>(try simp only[Q] at h1p);rcases rest with _|⟨y,rest⟩
 ·exfalso;simp_all
 refine xaV zdg .none rfl rfl rfl rfl (zaI hg1.1) rfl ?_;refine ev ?_;refine sq ?_ ?_<;>intro h2 h2p h2s<;>(try simp only[Q] at h2p);focus (refine rq ?_;all_goals (refine congrArg D.i ?_;unfold zbM;rw[<-hg1.2];simp[idxF,h1s,h1p,h2s,h2p]))
 refine ar ?_;refine xah ((pre++[y],rest)) ⟨⟨(by have hz:=hg1.1;rw[<-hz];simp),(by rw[<-hg1.2];simp_all[idxF])⟩,(by simp),sx ⟨⟨_,rfl,xaq ?_⟩,trivial⟩ trivial⟩;focus ((simp;done))
 have hrest:rest=[]:=by
  rcases rest with _|⟨a,b⟩
  ·rfl
  ·exfalso;have hz:=congrArg List.length (hg1.1);simp only[xaa,xab,xac] at hz;omega
 subst hrest;focus (refine rq ?_;all_goals (refine congrArg D.i ?_;unfold zbM;rw[<-hg1.2];simp[idxF,h1s,h1p]))
theorem zsq {a b:List Vt}{i:Nat} (h:i<a.length) (h2:¬(0<=zbM b (nth a i).var/\(nth b (zbM b (nth a i).var).toNat).ty=(nth a i).ty)):zdn a b=false:=by
 unfold zdn;have:(a.all fun v=>decide (0<=zbM b v.var/\(nth b (zbM b v.var).toNat).ty=v.ty))=false:=List.all_eq_false.2 ⟨_,zac h,by simpa using h2⟩;rw[this,Bool.false_and]
theorem ztz {a b:List Vt} (h:∀i,i<a.length->0<=zbM b (nth a i).var/\(nth b (zbM b (nth a i).var).toNat).ty=(nth a i).ty):zdn a b=decide (a.length=b.length):=by
 unfold zdn;have:(a.all fun v=>decide (0<=zbM b v.var/\(nth b (zbM b v.var).toNat).ty=v.ty))=true:=by
  rw[List.all_eq_true];intro v hv;obtain⟨j,hj,he⟩:=List.getElem_of_mem hv;have:=h j hj;rw[zaM hj,he] at this;exact decide_eq_true this
 rw[this,Bool.true_and]
theorem zmc {l:List Vt}{n:Int} (h:0<=zbM l n):(zbM l n).toNat<l.length/\((zbM l n).toNat:Int)=zbM l n:=by
 rcases zfH l n with ⟨h1,_⟩|⟨k,h1,h2,_⟩
 ·omega
 ·rw[h1];simpa using h2
theorem zvK {t u:Ty}:t=u↔t.data=u.data/\t.index=u.index:=by
 cases t;cases u;simp
theorem zoc {x y:List Vt} (hx:x.length<=1000000000000) (hy:y.length<=1000000000000):FnD Tryz.prog 193 [.d (zc4 x),.d (zc4 y)] [] (.d (.bool (zdn x y))) []:=by
 refine bd Tryz.f193 40 [33] [] fun w0 F0 own kept hk=>?_;refine xak (ι:=Nat) hk (fun i=>[(5,.d (.i (i:Int)))]) [4,6,7,8,9,10,11,12,13,14,15,16,17,18,19,20,21,22,23,24,25,26,27,28,29,30,31,32,33,34] (fun i=>[]) (fun i=>i<=x.length/\∀j,j<i->0<=zbM y (nth x j).var/\(nth y (zbM y (nth x j).var).toNat).ty=(nth x j).ty) (fun i=>x.length-i) 0 ⟨by omega,fun _ h=>absurd h (by omega)⟩ ⟨⟨_,rfl,xaq ?_⟩,trivial⟩ trivial (fun x=>rfl) (fun i hg1=>?_);focus (rfl)
 refine evc [33] [] ?_;refine sq ?_ ?_<;>intro h1 h1p h1s<;>(try simp only[Q] at h1p);refine xaV zdg .none rfl rfl rfl rfl (zar (by omega)) rfl ?_;refine evs [33] [] ?_;refine wc zq6 (zgl hy) rfl rfl ?_;refine evs [33] [] ?_;refine sq ?_ ?_<;>intro h2 h2p h2s<;>(try simp only[Q] at h2p);refine dr ?_;refine sqT ?_;refine rq ?_;rotate_left;refine xaV (i:=(zbM y (nth x i).var).toNat) zdg (.some rfl rfl h2) rfl rfl rfl (zmc (l:=y) (n:=(nth x i).var) (by omega)).2.symm (zar (by exact(zmc (l:=y) (n:=(nth x i).var) (by omega)).1)) rfl ?_;refine evd [33] [(22,false)] ?_ ⟨⟨_,rfl,h2⟩,trivial⟩;refine xaV zdg (.some rfl rfl h2) rfl rfl rfl rfl (zar (by omega)) rfl ?_;refine evd [33] [(22,false)] ?_ ⟨⟨_,rfl,h2⟩,trivial⟩;refine Walk.neV eq25 (.some rfl rfl h2) rfl rfl rfl rfl rfl ?_;refine evd [33] [(22,false)] ?_ ⟨⟨_,rfl,h2⟩,trivial⟩;refine dr ?_;refine sq ?_ ?_<;>intro h4 h4p h4s<;>(try simp only[Q] at h4p);refine rq ?_;rotate_left;refine ar ?_;refine xah (i+1) ⟨⟨by omega,zba hg1.2 (by rw[zvK];first|omega|(simp at h4;omega))⟩,(by omega),sx ⟨⟨_,rfl,xaq ?_⟩,trivial⟩ trivial⟩;focus (rfl)
 refine rq ?_;rotate_left;all_goals (refine congrArg D.bool ?_;first|(refine(zsq (i:=i) (by omega) ?_).symm;simp only[zvK];first|omega|(simp at h4;omega))|(rw[ztz (fun j hj=>hg1.2 j (by simp at h1p;omega))];exact decide_eq_decide.2 (by simp;omega)))
theorem zld {f:Ty->Pat->List Vt} (hf:∀t p,(f t p).length<=p.size):∀(a:List Ty) (b:List Pat),(zaX f a b).length<=Pats.size b
 | [],[]=>by simp[zaX]
 | [],_::_=>by simp[zaX]
 |_::_,[]=>by simp[zaX]
 |x::r,y::s=>by
  have h1:=zld hf r s;have h2:=hf x y;simp only[zaX,xaa,Pats.size];omega
theorem zeI (w:List Data):∀(n:Nat) (t:Ty) (p:Pat),(zaC w n t p).length<=p.size
 |0,t,p=>by simp[zaC]
 |n+1,t,p=>by
  have h1:=zld (zeI w n) (zcK w t p) p.kids;have h2:(zaR t p).length<=1:=by unfold zaR;split<;>simp
  rw[Pat.size_eq];simp only[zaC,xaa];omega
theorem zjL {f:Ty->Pat->List Vt}:∀ {a:List Ty}{b:List Pat}{i:Nat},i<a.length->i<b.length->zaX f (a.take (i+1)) (b.take (i+1))=zaX f (a.take i) (b.take i)++f (nth a i) (nth b i)
 |x::r,y::s,0,_,_=>by simp[zaX,nth]
 |x::r,y::s,i+1,h1,h2=>by
  have:=zjL (f:=f) (a:=r) (b:=s) (i:=i) (by simpa using h1) (by simpa using h2);simp only[List.take_succ_cons,zaX];rw[this,List.append_assoc];rfl
theorem zos {f:Ty->Pat->List Vt}:∀ {a:List Ty}{b:List Pat}{i:Nat},zaX f (a.take i) (b.take i)=zaX f (a.take i) b
 | [],b,i=>by simp[zaX]
 |x::r,[],i=>by simp[zaX]
 |x::r,y::s,0=>by simp[zaX]
 |x::r,y::s,i+1=>by simp only[List.take_succ_cons,zaX];rw[zos]
theorem zsn {f:Ty->Pat->List Vt} (hf:∀t p,(f t p).length<=p.size){a:List Ty}{b:List Pat}{i:Nat} (h:i<b.length):(zaX f (a.take i) (b.take i)).length+(nth b i).size<=Pats.size b:=by
 have h1:=zld hf (a.take i) (b.take i);have h2:=Pats.size_split (pre:=b.take i) (y:=nth b i) (rest:=b.drop (i+1)) (l:=b) (by rw[<-zaK h,List.take_append_drop]);omega
def zdR (w:List Data) (t:Ty) (p:Pat):Nat:=(zcK w t p).length
theorem zle (w:List Data) (t:Ty) (p:Pat):zdR w t p=if p.op=5 then 1 else (zag w t p).length:=by
 unfold zdR zcK;by_cases h5:p.op=5
 ·rw[if_pos h5,if_pos h5];have:zag w t p=[t,t]:=by unfold zag;rw[if_neg (by omega),if_pos h5]
  rw[this];rfl
 ·rw[if_neg h5,if_neg h5]
theorem zqb {w:List Data}{f:Ty->Pat->List Vt}{t:Ty}{p:Pat} (hl:p.kids.length=(zag w t p).length){i:Nat} (h:i=zdR w t p):zaX f ((zag w t p).take i) (p.kids.take i)=zaX f (zcK w t p) p.kids:=by
 subst h;rw[zos];congr 1
 rw[zle];unfold zcK;by_cases h5:p.op=5
 ·rw[if_pos h5,if_pos h5]
 ·rw[if_neg h5,if_neg h5,List.take_length]
theorem zbI {w:List Data}{n:Nat}{t:Ty}{p:Pat} (h:zaq w (n+1) t p=true){i:Nat} (hi:i<p.kids.length):zaq w n (nth (zag w t p) i) (nth p.kids i)=true:=by
 have hl:=(zbJ h).2;cases hs:zaq w n (nth (zag w t p) i) (nth p.kids i) with
 |true=>rfl
 |false=>
  have:=zb9 (f:=zaq w n) (a:=zag w t p) (b:=p.kids) (i:=i) (by omega) hl.symm hs;simp only[zaq,this,Bool.and_false] at h;cases h
theorem zgn {w:List Data} (hw:WT w):∀(n:Nat){a k:Int}{p:Pat}{xs:List Vt},zaq w n ⟨a,k⟩ p=true->n<=1000->TyIn w.length ⟨a,k⟩->p.ok->xs.length+p.size<=2000000000000->
  FnD Tryz.prog 172 [.gl 5 (xs.map Vt.c),.d (zal w),.agg [.d (.i a),.d (.i k)],.agg [.d (.i p.op),.d (.i p.ctor),.d (.i p.n),.d (.i p.m),.d (.i p.var),.d (zae p.kids)]] [(5,some (.tok (xs.map Vt.c).length 3))]
   (.gl 5 ((xs++zaC w n ⟨a,k⟩ p).map Vt.c)) [(5,some (.tok ((xs++zaC w n ⟨a,k⟩ p).map Vt.c).length 3))]
 |0,a,k,p,xs,hs,_,_,_,_=>by simp[zaq] at hs
 |n+1,a,k,p,xs,hs,hn,ht,hok,hb=>by
  rw[Pat.ok_iff] at hok;rw[Pat.size_eq] at hb;obtain⟨ho,hl⟩:=zbJ hs;have hin:=zgR hw ht ho;have hlen:=zhn hw ht (zb8 ho);have hvc5:p.op=5->zdR w ⟨a,k⟩ p=1:=fun h=>by rw[zle,if_pos h]
  have hvc:¬p.op=5->zdR w ⟨a,k⟩ p=(zag w ⟨a,k⟩ p).length:=fun h=>by rw[zle,if_neg h]
  have hv2:zdR w ⟨a,k⟩ p<=p.kids.length:=by
   unfold zdR zcK;split
   ·rw[List.length_take];omega
   ·omega
  have e5:p.op=5->(zag w ⟨a,k⟩ p).length=2:=fun h5=>by unfold zag;rw[if_neg (by omega),if_pos h5];rfl
  have hnm:(zaR ⟨a,k⟩ p).length<=1:=by unfold zaR;split<;>simp
  refine bd Tryz.f172 58 [] [1,5,6] fun w0 F0 own kept hk=>?_;refine bx 3006 ?_;refine bx 3007 ?_;refine ev ?_;refine xal ?_;refine xaB 8 [(18,.d (.bool (decide (p.op=2\/p.op=6))))] [11,12,13,14,15,16,17] ?_ ?_;refine ev ?_;refine sq ?_ ?_<;>intro h1 h1p h1s;exact jnb rfl;exact jnb rfl;refine xaA ?_;refine tv ?_;refine sq ?_ ?_<;>intro h2 h2p h2s<;>(try simp only[Q,Pat.cs_len] at h2p);refine bu [0,1] [_,_] zt8 ?_;refine si [0] [_] zdg zqN ?_;refine ap zdg zqR rfl rfl rfl (by simp) (by simp;omega) ?_;refine ev ?_;refine wc zkh (zdz hw ht (zb8 ho)) rfl rfl ?_;refine ev ?_;refine CWp.loopT 5 6 (ι:=Nat) hk (fun i=>[(0,.gl 5 ((xs++zaR ⟨a,k⟩ p++zaX (zaC w n) ((zag w ⟨a,k⟩ p).take i) (p.kids.take i)).map Vt.c)),(10,.d (.i (i:Int)))]) [30,31,32,33,34,35,36,37,38,39,40,41,42,43,44,45,46,47,48,49,50,51,52,53,54,55,56] (fun i=>[(5,some (.tok ((xs++zaR ⟨a,k⟩ p++zaX (zaC w n) ((zag w ⟨a,k⟩ p).take i) (p.kids.take i)).map Vt.c).length 3))]) (fun i=>i<=zdR w ⟨a,k⟩ p) (fun i=>zdR w ⟨a,k⟩ p-i) 0 (by omega) ⟨⟨_,rfl,LeA.glg ?_⟩,⟨⟨_,rfl,xaq ?_⟩,trivial⟩⟩ ⟨zab ?_,trivial⟩ (fun x=>rfl) (fun i hg1=>?_);iterate 3 focus ((simp[zaX,zaR, *];done))
  refine evc [] [1,5,6] ?_;refine xal ?_;refine xaB 13 [(42,.d (.bool (decide (i<zdR w ⟨a,k⟩ p))))] [30,31,32,33,34,35,36,37,38,39,40,41] ?_ ?_;refine ev ?_;refine sq ?_ ?_<;>intro h3 h3p h3s;refine sq ?_ ?_<;>intro h4 h4p h4s;exact jnb rfl;exact jnb rfl;exact jnb rfl;refine xaA ?_;refine tv ?_;refine sq ?_ ?_<;>intro h5 h5p h5s<;>(try simp only[Q,Pat.cs_len] at h5p);refine xaV zaW .none rfl rfl rfl rfl (zar (by omega)) rfl ?_;refine evd [] [] ?_;refine xaV sl26 .none rfl rfl rfl rfl (zaE (by omega)) rfl ?_;refine evd [] [] ?_;refine xaI 6 zhD (zgn hw n (a:=(nth (zag w ⟨a,k⟩ p) i).data) (k:=(nth (zag w ⟨a,k⟩ p) i).index) (p:=nth p.kids i) (xs:=xs++zaR ⟨a,k⟩ p++zaX (zaC w n) ((zag w ⟨a,k⟩ p).take i) (p.kids.take i)) (zbI hs (by omega)) (by omega) (hin _ (zac (by omega))) (Pats.ok_mem hok.2 _ (zac (by omega))) (by have:=zsn (zeI w n) (a:=zag w ⟨a,k⟩ p) (b:=p.kids) (i:=i) (by omega);simp only[xaa];omega)) rfl .none rfl rfl (.cons (.refl _) (.cons (.refl _) (.cons (.refl _) (.cons (.refl _) .nil)))) rfl (by rfl) ?_;refine evd [] [] ?_;refine dr ?_;refine CWp.retok 0 6 5 rfl rfl rfl rfl rfl ?_;refine evc [] [] ?_;refine ar ?_;refine xah (i+1) ⟨(by omega),(by omega),sx ⟨⟨_,rfl,LeA.glg ?_⟩,⟨⟨_,rfl,xaq ?_⟩,trivial⟩⟩ ⟨zab ?_,trivial⟩⟩;iterate 3 focus (first|rfl|(rw[zjL (by omega) (by omega)];simp[List.append_assoc];done))
  refine rn [(5,some (.tok ((xs++zaC w (n+1) ⟨a,k⟩ p).map Vt.c).length 3))] (r1 rfl) (.glg ?_) ⟨rfl,rfl⟩ (SubO.get ⟨.inr ?_,⟨.inl rfl,trivial⟩⟩) (zay rfl);rotate_left 2;refine wc zkh (zdz hw ht (zb8 ho)) rfl rfl ?_;refine ev ?_;refine CWp.loopT 5 6 (ι:=Nat) hk (fun i=>[(0,.gl 5 ((xs++zaR ⟨a,k⟩ p++zaX (zaC w n) ((zag w ⟨a,k⟩ p).take i) (p.kids.take i)).map Vt.c)),(10,.d (.i (i:Int)))]) [30,31,32,33,34,35,36,37,38,39,40,41,42,43,44,45,46,47,48,49,50,51,52,53,54,55,56] (fun i=>[(5,some (.tok ((xs++zaR ⟨a,k⟩ p++zaX (zaC w n) ((zag w ⟨a,k⟩ p).take i) (p.kids.take i)).map Vt.c).length 3))]) (fun i=>i<=zdR w ⟨a,k⟩ p) (fun i=>zdR w ⟨a,k⟩ p-i) 0 (by omega) ⟨⟨_,rfl,LeA.glg ?_⟩,⟨⟨_,rfl,xaq ?_⟩,trivial⟩⟩ ⟨zab ?_,trivial⟩ (fun x=>rfl) (fun i hg1=>?_);iterate 3 focus ((simp[zaX,zaR, *];done))
  refine evc [] [1,5,6] ?_;refine xal ?_;refine xaB 13 [(42,.d (.bool (decide (i<zdR w ⟨a,k⟩ p))))] [30,31,32,33,34,35,36,37,38,39,40,41] ?_ ?_;refine ev ?_;refine sq ?_ ?_<;>intro h6 h6p h6s<;>(try simp only[Q,Pat.cs_len] at h6p);refine sq ?_ ?_<;>intro h7 h7p h7s<;>(try simp only[Q,Pat.cs_len] at h7p);exact jnb rfl;exact jnb rfl;exact jnb rfl;refine xaA ?_;refine tv ?_;refine sq ?_ ?_<;>intro h8 h8p h8s<;>(try simp only[Q,Pat.cs_len] at h8p);refine xaV zaW .none rfl rfl rfl rfl (zar (by omega)) rfl ?_;refine evd [] [] ?_;refine xaV sl26 .none rfl rfl rfl rfl (zaE (by omega)) rfl ?_;refine evd [] [] ?_;refine xaI 6 zhD (zgn hw n (a:=(nth (zag w ⟨a,k⟩ p) i).data) (k:=(nth (zag w ⟨a,k⟩ p) i).index) (p:=nth p.kids i) (xs:=xs++zaR ⟨a,k⟩ p++zaX (zaC w n) ((zag w ⟨a,k⟩ p).take i) (p.kids.take i)) (zbI hs (by omega)) (by omega) (hin _ (zac (by omega))) (Pats.ok_mem hok.2 _ (zac (by omega))) (by have:=zsn (zeI w n) (a:=zag w ⟨a,k⟩ p) (b:=p.kids) (i:=i) (by omega);simp only[xaa];omega)) rfl .none rfl rfl (.cons (.refl _) (.cons (.refl _) (.cons (.refl _) (.cons (.refl _) .nil)))) rfl (by rfl) ?_;refine evd [] [] ?_;refine dr ?_;refine CWp.retok 0 6 5 rfl rfl rfl rfl rfl ?_;refine evc [] [] ?_;refine ar ?_;refine xah (i+1) ⟨(by omega),(by omega),sx ⟨⟨_,rfl,LeA.glg ?_⟩,⟨⟨_,rfl,xaq ?_⟩,trivial⟩⟩ ⟨zab ?_,trivial⟩⟩;iterate 3 focus (first|rfl|(rw[zjL (by omega) (by omega)];simp[List.append_assoc];done))
  refine rn [(5,some (.tok ((xs++zaC w (n+1) ⟨a,k⟩ p).map Vt.c).length 3))] (r1 rfl) (.glg ?_) ⟨rfl,rfl⟩ (SubO.get ⟨.inr ?_,⟨.inl rfl,trivial⟩⟩) (zay rfl);rotate_left 2;all_goals (first|((rw[zaC,<-zqb (f:=zaC w n) hl (i:=i) (by omega)];simp);done)|((show some (Res.tok _ _)=some (Res.tok _ _);congr 2;rw[zaC,<-zqb (f:=zaC w n) hl (i:=i) (by omega)];simp)))
theorem zdA {w:List Data} (hw:WT w){n:Nat}{a k:Int}{p:Pat} (hs:zaq w n ⟨a,k⟩ p=true) (hn:n<=1000) (ht:TyIn w.length ⟨a,k⟩) (hok:p.ok) (hb:p.size<=1000000000000):
  FnD Tryz.prog 172 [.nils,.d (zal w),.agg [.d (.i a),.d (.i k)],.agg [.d (.i p.op),.d (.i p.ctor),.d (.i p.n),.d (.i p.m),.d (.i p.var),.d (zae p.kids)]] [] (.d (zc4 (zaC w n ⟨a,k⟩ p))) []:=by
 have h:=zgn hw n (xs:=[]) hs hn ht hok (by simp only[xai];omega);exact FnD.nilTok (by simp[AV.idsL,AV.ids]) h
theorem zst {l:List Vt}{i:Nat} (h:i<l.length) (h2:¬zbM l (nth l i).var=i):zqD l=false:=zdo h (by simpa using h2)
theorem zfi {w:List Data} (hw:WT w):∀(n:Nat){a k:Int}{p:Pat},zaq w n ⟨a,k⟩ p=true->n<=1000->TyIn w.length ⟨a,k⟩->p.ok->p.size<=1000000000000->
  FnD Tryz.prog 161 [.d (zal w),.agg [.d (.i a),.d (.i k)],.agg [.d (.i p.op),.d (.i p.ctor),.d (.i p.n),.d (.i p.m),.d (.i p.var),.d (zae p.kids)]] [] (.d (.bool (linP w n ⟨a,k⟩ p))) []
 |0,a,k,p,hs,_,_,_,_=>by simp[zaq] at hs
 |n+1,a,k,p,hs,hn,ht,hok,hb=>by
  have hok':=hok;rw[Pat.ok_iff] at hok;have hb':=hb;rw[Pat.size_eq] at hb';obtain⟨ho,hl⟩:=zbJ hs;have hin:=zgR hw ht ho;have hlen:=zhn hw ht (zb8 ho);have hvl:=zeI w (n+1) ⟨a,k⟩ p;have hsz:∀i,i<p.kids.length->(nth p.kids i).size<=1000000000000:=fun i hi=>by have:=zcb hi;omega
  by_cases hop5:p.op=5
  ·have e1:zag w ⟨a,k⟩ p=[⟨a,k⟩,⟨a,k⟩]:=by unfold zag;rw[if_neg (by omega),if_pos hop5]
   have hl2:p.kids.length=2:=by rw[hl,e1];rfl
   have s0:zaq w n ⟨a,k⟩ (nth p.kids 0)=true:=by have:=zbI hs (i:=0) (by omega);rw[e1] at this;exact this
   have s1:zaq w n ⟨a,k⟩ (nth p.kids 1)=true:=by have:=zbI hs (i:=1) (by omega);rw[e1] at this;exact this
   have v0:=zeI w n ⟨a,k⟩ (nth p.kids 0);have v1:=zeI w n ⟨a,k⟩ (nth p.kids 1);have z0:=hsz 0 (by omega);have z1:=hsz 1 (by omega);refine bd Tryz.f161 70 [] [] fun w0 F0 own kept hk=>?_;refine bx 3004 ?_;refine bx 3005 ?_;refine ev ?_;refine wc zkh (zdz hw ht (zb8 ho)) rfl rfl ?_;refine ev ?_;refine xak (ι:=Nat) hk (fun i=>[(8,.d (.i (i:Int)))]) [6,15,16,17,18,19,20,21,22,23,24,25,26,27,28,29,30,31,32] (fun i=>[]) (fun i=>i<=(zag w ⟨a,k⟩ p).length/\∀i',i'<i->linP w n (nth (zag w ⟨a,k⟩ p) i') (nth p.kids i')=true) (fun i=>(zag w ⟨a,k⟩ p).length-i) 0 ⟨by omega,fun _ h=>absurd h (by omega)⟩ ⟨⟨_,rfl,xaq ?_⟩,trivial⟩ trivial (fun x=>rfl) (fun i hg1=>?_);focus (first|rfl|(simp;done))
   refine evc [] [] ?_;refine sq ?_ ?_<;>intro h1 h1p h1s<;>(try simp only[Q,Pat.cs_len] at h1p);refine xaV zaW .none rfl rfl rfl rfl (zar (by omega)) rfl ?_;refine evd [] [] ?_;refine xaV sl26 .none rfl rfl rfl rfl (zaE (by omega)) rfl ?_;refine evd [] [] ?_;refine wc zmV (zfi hw n (zbI hs (by omega)) (by omega) (hin _ (zac (by omega))) (Pats.ok_mem hok.2 _ (zac (by omega))) (hsz _ (by omega))) rfl rfl ?_;refine evd [] [] ?_;refine dr ?_;refine sq ?_ ?_<;>intro h2 h2p h2s<;>(try simp only[Q,Pat.cs_len] at h2p);refine rq ?_;rotate_left;refine ar ?_;refine xah (i+1) ⟨⟨by omega,zba hg1.2 (by assumption)⟩,(by omega),sx ⟨⟨_,rfl,xaq ?_⟩,trivial⟩ trivial⟩;focus (first|rfl|(simp;done))
   refine sq ?_ ?_<;>intro h3 h3p h3s<;>(try simp only[Q,Pat.cs_len] at h3p);refine xaV (i:=0) sl26 .none rfl rfl rfl rfl (zaE (by omega)) rfl ?_;refine evd [] [] ?_;refine wc zhD (zdA hw s0 (by omega) ht (Pats.ok_mem hok.2 _ (zac (by omega))) z0) rfl rfl ?_;refine evd [] [] ?_;refine xaV (i:=1) sl26 .none rfl rfl rfl rfl (zaE (by omega)) rfl ?_;refine evd [] [] ?_;refine wc zhD (zdA hw s1 (by omega) ht (Pats.ok_mem hok.2 _ (zac (by omega))) z1) rfl rfl ?_;refine wc zyV (zoc (by omega) (by omega)) rfl rfl ?_;refine evd [] [] ?_;refine dr ?_;refine rq ?_;rotate_left;exfalso;simp_all;all_goals (refine congrArg D.bool ?_;unfold linP;rw[if_pos hop5];first|(rw[zcp (by omega) (fun x hx=>hg1.2 x (by omega)),Bool.true_and])|(rw[zb9 (i:=i) (by omega) (by omega) (by assumption),Bool.false_and]))
  ·skip
   refine bd Tryz.f161 70 [] [] fun w0 F0 own kept hk=>?_;refine bx 3004 ?_;refine bx 3005 ?_;refine ev ?_;refine wc zkh (zdz hw ht (zb8 ho)) rfl rfl ?_;refine ev ?_;refine xak (ι:=Nat) hk (fun i=>[(8,.d (.i (i:Int)))]) [6,15,16,17,18,19,20,21,22,23,24,25,26,27,28,29,30,31,32] (fun i=>[]) (fun i=>i<=(zag w ⟨a,k⟩ p).length/\∀i',i'<i->linP w n (nth (zag w ⟨a,k⟩ p) i') (nth p.kids i')=true) (fun i=>(zag w ⟨a,k⟩ p).length-i) 0 ⟨by omega,fun _ h=>absurd h (by omega)⟩ ⟨⟨_,rfl,xaq ?_⟩,trivial⟩ trivial (fun x=>rfl) (fun i hg1=>?_);focus (first|rfl|(simp;done))
   refine evc [] [] ?_;refine sq ?_ ?_<;>intro h1 h1p h1s<;>(try simp only[Q,Pat.cs_len] at h1p);refine xaV zaW .none rfl rfl rfl rfl (zar (by omega)) rfl ?_;refine evd [] [] ?_;refine xaV sl26 .none rfl rfl rfl rfl (zaE (by omega)) rfl ?_;refine evd [] [] ?_;refine wc zmV (zfi hw n (zbI hs (by omega)) (by omega) (hin _ (zac (by omega))) (Pats.ok_mem hok.2 _ (zac (by omega))) (hsz _ (by omega))) rfl rfl ?_;refine evd [] [] ?_;refine dr ?_;refine sq ?_ ?_<;>intro h2 h2p h2s<;>(try simp only[Q,Pat.cs_len] at h2p);refine rq ?_;rotate_left;refine ar ?_;refine xah (i+1) ⟨⟨by omega,zba hg1.2 (by assumption)⟩,(by omega),sx ⟨⟨_,rfl,xaq ?_⟩,trivial⟩ trivial⟩;focus (first|rfl|(simp;done))
   refine sq ?_ ?_<;>intro h3 h3p h3s<;>(try simp only[Q,Pat.cs_len] at h3p);exfalso;simp_all;refine wc zhD (zdA hw hs hn ht hok' hb) rfl rfl ?_;refine ev ?_;refine xak (ι:=Nat) hk (fun j=>[(10,.d (.i (j:Int)))]) [6,55,56,57,58,59,60,61,62,63,64,65,66,67,68,69] (fun j=>[]) (fun j=>j<=(zaC w (n+1) ⟨a,k⟩ p).length/\∀j',j'<j->zbM (zaC w (n+1) ⟨a,k⟩ p) (nth (zaC w (n+1) ⟨a,k⟩ p) j').var=(j':Int)) (fun j=>(zaC w (n+1) ⟨a,k⟩ p).length-j) 0 ⟨by omega,fun _ h=>absurd h (by omega)⟩ ⟨⟨_,rfl,xaq ?_⟩,trivial⟩ trivial (fun x=>rfl) (fun j hg2=>?_);focus (first|rfl|(simp;done))
   refine evc [] [] ?_;refine sq ?_ ?_<;>intro h4 h4p h4s<;>(try simp only[Q,Pat.cs_len] at h4p);refine xaV zdg .none rfl rfl rfl rfl (zar (by omega)) rfl ?_;refine ev ?_;refine wc zq6 (zgl (by omega)) rfl rfl ?_;refine ev ?_;refine sq ?_ ?_<;>intro h5 h5p h5s<;>(try simp only[Q,Pat.cs_len] at h5p);refine rq ?_;rotate_left;refine ar ?_;refine xah (j+1) ⟨⟨by omega,zba hg2.2 (by omega)⟩,(by omega),sx ⟨⟨_,rfl,xaq ?_⟩,trivial⟩ trivial⟩;focus (first|rfl|(simp;done))
   refine rq ?_;rotate_left;all_goals (refine congrArg D.bool ?_;unfold linP;rw[if_neg hop5];first|(rw[zb9 (i:=i) (by omega) (by omega) (by assumption),Bool.false_and];done)|(rw[zcp (by omega) (fun x hx=>hg1.2 x (by omega)),Bool.true_and];first|(rw[zst (i:=j) (by omega) (by omega)];done)|(symm;exact zdN (fun x hx=>decide_eq_true (hg2.2 x (by omega))))))
def isP (w:List Data) (t:Ty) (p:Pat):Bool:=zaq w 10 t p&&(decide ((p.size:Int)<=60)&&linP w 10 t p)
theorem zfY {w:List Data} (hw:WT w){a k:Int}{p:Pat} (ht:TyIn w.length ⟨a,k⟩) (hok:p.ok) (hb:p.size<=1000000000000):
  FnD Tryz.prog 101 [.d (zal w),.agg [.d (.i a),.d (.i k)],.agg [.d (.i p.op),.d (.i p.ctor),.d (.i p.n),.d (.i p.m),.d (.i p.var),.d (zae p.kids)]] [] (.d (.bool (isP w ⟨a,k⟩ p))) []:=by
 have hc:=zrb p 60;by_cases hs:zaq w 10 ⟨a,k⟩ p=true
 ·skip
  refine bd Tryz.f101 22 [] [1] fun w0 F0 own kept hk=>?_;refine bx 3004 ?_;refine bx 3005 ?_;refine ev ?_;refine xal ?_;refine xaB 9 [(15,.d (.bool (decide ((p.size:Int)<=60))))] [7,8,9,10,11,12,13,14] ?_ ?_;refine ev ?_;refine wc zq0 (zfZ hw 10 (by omega) (by omega) ht hok) rfl rfl ?_;refine ev ?_;refine sq ?_ ?_<;>intro h1 h1p h1s;refine Walk.call (cr:=[]) zq1 (zfX _ (Nat.le_refl _) hb hok (by omega) (by omega)) rfl (.some rfl rfl h1) rfl rfl (LeL.refl _) trivial rfl rfl rfl ?_;refine evs [] [(11,true)] ?_ ⟨⟨_,rfl,h1⟩,trivial⟩;exact jnb rfl;exact jnb rfl;refine xaA ?_;refine ev ?_;refine sq ?_ ?_<;>intro h2 h2p h2s;refine Walk.call (cr:=[]) zmV (zfi hw 10 hs (by omega) ht hok hb) rfl (.some rfl rfl h2) rfl rfl (LeL.refl _) trivial rfl rfl rfl ?_;refine evs [] [(16,true)] ?_ ⟨⟨_,rfl,h2⟩,trivial⟩;refine rq ?_;rotate_left;refine rq ?_;rotate_left;all_goals (refine congrArg D.bool ?_;unfold isP;simp only[hs,Bool.true_and];first|(simp_all;done)|(simp_all;intro;omega))
 ·have hs':zaq w 10 ⟨a,k⟩ p=false:=by simpa using hs
  refine bd Tryz.f101 22 [] [1] fun w0 F0 own kept hk=>?_;refine bx 3004 ?_;refine bx 3005 ?_;refine ev ?_;refine xal ?_;refine xaB 9 [(15,.d (.bool (false)))] [7,8,9,10,11,12,13,14] ?_ ?_;refine ev ?_;refine wc zq0 (zfZ hw 10 (by omega) (by omega) ht hok) rfl rfl ?_;refine ev ?_;refine sq ?_ ?_<;>intro h1 h1p h1s;refine Walk.call (cr:=[]) zq1 (zfX _ (Nat.le_refl _) hb hok (by omega) (by omega)) rfl (.some rfl rfl h1) rfl rfl (LeL.refl _) trivial rfl rfl rfl ?_;refine evs [] [(11,true)] ?_ ⟨⟨_,rfl,h1⟩,trivial⟩;exact jnb rfl;exact jnb rfl;refine xaA ?_;refine ev ?_;refine sq ?_ ?_<;>intro h2 h2p h2s;refine Walk.call (cr:=[]) zmV (show FnD Tryz.prog 161 [.d (zal w),.agg [.d (.i a),.d (.i k)],.agg [.d (.i p.op),.d (.i p.ctor),.d (.i p.n),.d (.i p.m),.d (.i p.var),.d (zae p.kids)]] [] (.d (.bool true)) [] from absurd (by assumption:(false:Bool)=true) (by simp)) rfl (.some rfl rfl h2) rfl rfl (LeL.refl _) trivial rfl rfl rfl ?_;refine evs [] [(16,true)] ?_ ⟨⟨_,rfl,h2⟩,trivial⟩;refine rq ?_;rotate_left;refine rq ?_;rotate_left;all_goals (refine congrArg D.bool ?_;unfold isP;simp_all)
end Go.Proofs.YtpgdedpljcedpaaGreat
namespace Go.Proofs.YtpgdedpljcedpaaGreat
open Go
set_option linter.unusedSimpArgs false
set_option linter.unusedVariables false
def tyS (s:Nat):Ty:=⟨((s / 4:Nat):Int),((s % 4:Nat):Int)⟩
def zcE (t:Ty):Nat:=t.data.toNat*4+t.index.toNat
def dv (f:Nat->Nat) (t:Ty):Nat:=if t.data = -1 then 1 else f (zcE t)
def zbC (f:Nat->Nat):Nat->List Ty->Nat
 |m,[]=>m+1
 |m,t::r=>if dv f t=0 then 0 else zbC f (max m (dv f t)) r
def most (w:List Data) (f:Nat->Nat) (t:Ty) (c:Int):Nat:=zbC f 0 (zaa w t c)
def updF (f:Nat->Nat) (s n:Nat):Nat->Nat:=fun i=>if i=s then n else f i
def zbN (w:List Data) (s:Nat) (f:Nat->Nat) (c:Int):Nat->Nat:=
 if 0<most w f (tyS s) c/\(f s=0\/most w f (tyS s) c<f s) then updF f s (most w f (tyS s) c) else f
def zdM (w:List Data) (f:Nat->Nat) (s:Nat):Nat->Nat:=(zaO w (tyS s)).foldl (zbN w s) f
def zhk (w:List Data) (f:Nat->Nat):Nat->Nat:=(List.range (w.length*4)).foldl (zdM w) f
def zbj (w:List Data):Nat->Nat->Nat
 |0=>fun _=>0
 |k+1=>zhk w (zbj w k)
def zai (w:List Data):Nat->Nat:=zbj w (w.length*4+1)
def Hd (w:List Data):Nat->Ty->Prop
 |0,_=>False
 |d+1,t=>t.data = -1\/∃c∈zaO w t,t.data≠ -1/\∀u∈zaa w t c,Hd w d u
def InS (n:Nat) (u:Ty):Prop:=u.data = -1\/(zcE u<n/\tyS (zcE u)=u)
def ClosedT (w:List Data):Prop:=∀s,s<w.length*4->∀c∈zaO w (tyS s),∀u∈zaa w (tyS s) c,InS (w.length*4) u
theorem zmK (s:Nat):(tyS s).data≠ -1:=by simp only[tyS];omega
theorem Hd_mono (w:List Data):∀(d:Nat) (t:Ty),Hd w d t->Hd w (d+1) t
 |0,_,h=>h.elim
 |d+1,t,h=>by
  rcases h with h|⟨c,hc,h1,h⟩
  ·exact .inl h
  ·exact .inr ⟨c,hc,h1,fun u hu=>Hd_mono w d u (h u hu)⟩
theorem Hd_le {w:List Data}{d e:Nat}{t:Ty} (h:d<=e) (hd:Hd w d t):Hd w e t:=by
 induction h with
 |refl=>exact hd
 |step _ ih=>exact Hd_mono w _ t ih
section
variable {w:List Data}
def Bet (f g:Nat->Nat):Prop:=∀s,0<f s->0<g s/\g s<=f s
def Snd (w:List Data) (f:Nat->Nat):Prop:=∀s,s<w.length*4->0<f s->Hd w (f s) (tyS s)
def Cmp (w:List Data) (k:Nat) (f:Nat->Nat):Prop:=∀s,s<w.length*4->∀d,d<=k->Hd w d (tyS s)->0<f s/\f s<=d
theorem Bet.refl (f:Nat->Nat):Bet f f:=fun s h=>⟨h,Nat.le_refl _⟩
theorem Bet.trans {f g h:Nat->Nat} (a:Bet f g) (b:Bet g h):Bet f h:=fun s hs=>⟨(b s (a s hs).1).1,Nat.le_trans (b s (a s hs).1).2 (a s hs).2⟩
theorem Cmp.bet {k:Nat}{f g:Nat->Nat} (h:Cmp w k f) (b:Bet f g):Cmp w k g:=fun s hs d hd hh=>
 ⟨(b s (h s hs d hd hh).1).1,Nat.le_trans (b s (h s hs d hd hh).1).2 (h s hs d hd hh).2⟩
theorem zkI {f:Nat->Nat}:∀ {l:List Ty}{m k:Nat},m<=k->(∀u∈l,0<dv f u/\dv f u<=k)->0<zbC f m l/\zbC f m l<=k+1
 | [],m,k,hm,_=>by simp only[zbC];omega
 |t::r,m,k,hm,h=>by
  have h1:=h t (by simp);simp only[zbC];rw[if_neg (by omega)];exact zkI (by omega) (fun u hu=>h u (by simp[hu]))
theorem zii {f:Nat->Nat}:∀ {l:List Ty}{m:Nat},0<zbC f m l->m<zbC f m l/\∀u∈l,0<dv f u/\dv f u<zbC f m l
 | [],m,_=>⟨by simp only[zbC];omega,fun u hu=>by simp at hu⟩
 |t::r,m,h=>by
  simp only[zbC] at h ⊢;by_cases h0:dv f t=0
  ·rw[if_pos h0] at h;omega
  ·rw[if_neg h0] at h ⊢;obtain⟨h1,h2⟩:=zii h;refine⟨by omega,fun u hu=>?_⟩;rcases List.mem_cons.1 hu with rfl|hu
   ·omega
   ·exact h2 u hu
theorem zna {f:Nat->Nat} (hs:Snd w f){u:Ty} (hu:InS (w.length*4) u) (h:0<dv f u):Hd w (dv f u) u:=by
 unfold dv at h ⊢;split
 ·rename_i he;exact .inl he
 ·rename_i he;rw[if_neg he] at h;rcases hu with hu|⟨h1,h2⟩
  ·exact absurd hu he
  ·have:=hs _ h1 h;rwa [h2] at this
theorem zkr {k:Nat}{f:Nat->Nat} (hc:Cmp w k f){u:Ty} (hu:InS (w.length*4) u) (h:Hd w k u):0<dv f u/\dv f u<=k:=by
 unfold dv;split
 ·cases k with
  |zero=>exact h.elim
  |succ k=>omega
 ·rename_i he;rcases hu with hu|⟨h1,h2⟩
  ·exact absurd hu he
  ·exact hc _ h1 k (Nat.le_refl _) (by rw[h2];exact h)
theorem zkV {s:Nat}{f:Nat->Nat}{c:Int}:Bet f (zbN w s f c):=by
 intro i hi;unfold zbN;split
 ·rename_i h;unfold updF;split
  ·subst i;omega
  ·omega
 ·omega
theorem zvs (hcl:ClosedT w){s:Nat}{f:Nat->Nat}{c:Int} (hs:s<w.length*4) (hc:c∈zaO w (tyS s)) (h:Snd w f):Snd w (zbN w s f c):=by
 unfold zbN;split
 ·rename_i hn;intro i hi h0;unfold updF at h0 ⊢;by_cases he:i=s
  ·subst he;rw[if_pos rfl] at h0 ⊢;obtain⟨h1,h2⟩:=zii (m:=0) hn.1;obtain⟨n,hn'⟩:∃n,most w f (tyS i) c=n+1:=⟨most w f (tyS i) c-1,by omega⟩;rw[hn'];refine .inr ⟨c,hc,zmK _,fun u hu=>?_⟩;have h3:=h2 u hu;have h4:zbC f 0 (zaa w (tyS i) c)=n+1:=hn';exact Hd_le (by omega) (zna h (hcl i hi c hc u hu) h3.1)
  ·rw[if_neg he] at h0 ⊢;exact h i hi h0
 ·exact h
theorem zvq (hcl:ClosedT w){s k:Nat}{f:Nat->Nat}{c:Int} (hs:s<w.length*4) (hc:c∈zaO w (tyS s)) (h:Cmp w k f) (hh:∀u∈zaa w (tyS s) c,Hd w k u):
  0<zbN w s f c s/\zbN w s f c s<=k+1:=by
 have hm:=zkI (f:=f) (m:=0) (k:=k) (by omega) (fun u hu=>zkr h (hcl s hs c hc u hu) (hh u hu));have hm':0<most w f (tyS s) c/\most w f (tyS s) c<=k+1:=hm;unfold zbN;split
 ·unfold updF;rw[if_pos rfl];exact hm'
 ·rename_i hn;have:¬(f s=0\/most w f (tyS s) c<f s):=fun h2=>hn ⟨hm'.1,h2⟩;omega
theorem ztl (hcl:ClosedT w){s k:Nat} (hs:s<w.length*4):∀(C:List Int) (f:Nat->Nat),(∀c∈C,c∈zaO w (tyS s))->Snd w f->Cmp w k f->
  Bet f (C.foldl (zbN w s) f)/\Snd w (C.foldl (zbN w s) f)/\∀c∈C,(∀u∈zaa w (tyS s) c,Hd w k u)->0<C.foldl (zbN w s) f s/\C.foldl (zbN w s) f s<=k+1
 | [],f,_,h1,_=>⟨Bet.refl f,h1,fun c hc=>by simp at hc⟩
 |c::r,f,hC,h1,h2=>by
  have hc:=hC c (by simp);obtain⟨g1,g2,g3⟩:=ztl hcl hs r (zbN w s f c) (fun x hx=>hC x (by simp[hx])) (zvs hcl hs hc h1) (h2.bet zkV);refine⟨zkV.trans g1,g2,fun x hx hh=>?_⟩;rcases List.mem_cons.1 hx with rfl|hx
  ·obtain⟨q1,q2⟩:=zvq hcl hs hc h2 hh;exact⟨(g1 s q1).1,Nat.le_trans (g1 s q1).2 q2⟩
  ·exact g3 x hx hh
theorem zwK (hcl:ClosedT w){s k:Nat} (hs:s<w.length*4){f:Nat->Nat} (h1:Snd w f) (h2:Cmp w k f):
  Bet f (zdM w f s)/\Snd w (zdM w f s)/\∀d,d<=k+1->Hd w d (tyS s)->0<zdM w f s s/\zdM w f s s<=d:=by
 obtain⟨g1,g2,g3⟩:=ztl hcl hs (zaO w (tyS s)) f (fun c hc=>hc) h1 h2;refine⟨g1,g2,fun d hd hh=>?_⟩;rcases Nat.lt_or_ge d (k+1) with h|h
 ·have:=h2 s hs d (by omega) hh;exact⟨(g1 s this.1).1,Nat.le_trans (g1 s this.1).2 this.2⟩
 ·obtain rfl:d=k+1:=by omega
  rcases hh with hh|⟨c,hc,_,hh⟩
  ·exact absurd hh (zmK s)
  ·exact g3 c hc hh
theorem zp4 (hcl:ClosedT w){k:Nat}:∀(L:List Nat) (f:Nat->Nat),(∀s∈L,s<w.length*4)->Snd w f->Cmp w k f->
  Bet f (L.foldl (zdM w) f)/\Snd w (L.foldl (zdM w) f)/\∀s∈L,∀d,d<=k+1->Hd w d (tyS s)->0<L.foldl (zdM w) f s/\L.foldl (zdM w) f s<=d
 | [],f,_,h1,_=>⟨Bet.refl f,h1,fun s hs=>by simp at hs⟩
 |s::r,f,hL,h1,h2=>by
  obtain⟨p1,p2,p3⟩:=zwK hcl (hL s (by simp)) h1 h2;obtain⟨g1,g2,g3⟩:=zp4 hcl r (zdM w f s) (fun x hx=>hL x (by simp[hx])) p2 (h2.bet p1);refine⟨p1.trans g1,g2,fun x hx d hd hh=>?_⟩;rcases List.mem_cons.1 hx with rfl|hx
  ·have:=p3 d hd hh;exact⟨(g1 x this.1).1,Nat.le_trans (g1 x this.1).2 this.2⟩
  ·exact g3 x hx d hd hh
theorem zvH (hcl:ClosedT w){k:Nat}{f:Nat->Nat} (h1:Snd w f) (h2:Cmp w k f):Bet f (zhk w f)/\Snd w (zhk w f)/\Cmp w (k+1) (zhk w f):=by
 obtain⟨g1,g2,g3⟩:=zp4 hcl (List.range (w.length*4)) f (fun s hs=>List.mem_range.1 hs) h1 h2;exact⟨g1,g2,fun s hs d hd hh=>g3 s (List.mem_range.2 hs) d hd hh⟩
theorem zc7 (hcl:ClosedT w):∀k,Snd w (zbj w k)/\Cmp w k (zbj w k)
 |0=>⟨fun s _ h=>absurd h (by simp[zbj]),fun s _ d hd hh=>by
   obtain rfl:d=0:=by omega
   exact hh.elim⟩
 |k+1=>(zvH hcl (zc7 hcl k).1 (zc7 hcl k).2).2
theorem zkw (hcl:ClosedT w){d:Nat} (h1:1<=d) (h:∀s,s<w.length*4->Hd w (d+1) (tyS s)->Hd w d (tyS s)):∀e s,s<w.length*4->Hd w e (tyS s)->Hd w d (tyS s)
 |0,s,_,hh=>hh.elim
 |e+1,s,hs,hh=>by
  refine h s hs ?_;rcases hh with hh|⟨c,hc,h2,hh⟩
  ·exact .inl hh
  ·refine .inr ⟨c,hc,h2,fun u hu=>?_⟩;rcases hcl s hs c hc u hu with hi|⟨q1,q2⟩
   ·cases d with
    |zero=>omega
    |succ d=>exact .inl hi
   ·have:=zkw hcl h1 h e _ q1 (by rw[q2];exact hh u hu);rwa [q2] at this
open Classical in
noncomputable def cntH (w:List Data) (d:Nat):Nat:=(List.range (w.length*4)).countP (fun s=>decide (Hd w d (tyS s)))
theorem zpo {p q:Nat->Bool}:∀ {l:List Nat},(∀x∈l,p x=true->q x=true)->(∃x∈l,p x=false/\q x=true)->l.countP p<l.countP q
 | [],_,h=>by obtain⟨x,hx,_⟩:=h;simp at hx
 |y::r,hpq,h=>by
  have hle:r.countP p<=r.countP q:=List.countP_mono_left (fun x hx hp=>hpq x (by simp[hx]) hp);rw[List.countP_cons,List.countP_cons];obtain⟨x,hx,h1,h2⟩:=h;rcases List.mem_cons.1 hx with rfl|hx
  ·rw[h1,h2];simp only[Bool.false_eq_true,if_false,if_true];omega
  ·have:=zpo (fun x hx hp=>hpq x (by simp[hx]) hp) ⟨x,hx,h1,h2⟩;have h3:=hpq y (by simp);cases hp:p y with
   |false=>simp only[Bool.false_eq_true,if_false];omega
   |true=>rw[h3 hp];simp only[if_true];omega
open Classical in
theorem zzd {d:Nat} (h:¬ ∀s,s<w.length*4->Hd w (d+1) (tyS s)->Hd w d (tyS s)):cntH w d<cntH w (d+1):=by
 have h2:∃s,s<w.length*4/\Hd w (d+1) (tyS s)/\¬Hd w d (tyS s):=by
  refine Classical.byContradiction fun hn=>h fun s hs hh=>Classical.byContradiction fun hd=>hn ⟨s,hs,hh,hd⟩
 obtain⟨s,hs,h3,h4⟩:=h2;unfold cntH;exact zpo (fun x _ hx=>by rw[decide_eq_true_eq] at hx ⊢;exact Hd_mono w d _ hx) ⟨s,List.mem_range.2 hs,by simp[h4],by simp[h3]⟩
theorem zuT:∀m,(∀d,1<=d->d<=m->¬ ∀s,s<w.length*4->Hd w (d+1) (tyS s)->Hd w d (tyS s))->m<=cntH w (m+1)
 |0,_=>Nat.zero_le _
 |m+1,h=>by
  have:=zuT m (fun d h1 h2=>h d h1 (by omega));have:=zzd (w:=w) (d:=m+1) (h (m+1) (by omega) (by omega));omega
theorem zni (hcl:ClosedT w){e s:Nat} (hs:s<w.length*4) (h:Hd w e (tyS s)):Hd w (w.length*4+1) (tyS s):=by
 have hex:∃d,1<=d/\d<=w.length*4+1/\∀s,s<w.length*4->Hd w (d+1) (tyS s)->Hd w d (tyS s):=by
  refine Classical.byContradiction fun hn=>?_;have h1:=zuT (w:=w) (w.length*4+1) (fun d h1 h2 h3=>hn ⟨d,h1,h2,h3⟩);have h2:cntH w (w.length*4+1+1)<=(List.range (w.length*4)).length:=List.countP_le_length;rw[List.length_range] at h2;omega
 obtain⟨d,h1,h2,h3⟩:=hex;exact Hd_le h2 (zkw hcl h1 h3 e s hs h)
theorem zvr {s i:Nat}{f:Nat->Nat}{c:Int} (h:i≠s):zbN w s f c i=f i:=by
 unfold zbN;split
 ·unfold updF;rw[if_neg h]
 ·rfl
theorem ztm {s i:Nat} (h:i≠s):∀(C:List Int) (f:Nat->Nat),C.foldl (zbN w s) f i=f i
 | [],_=>rfl
 |c::r,f=>by rw[List.foldl_cons,ztm h r,zvr h]
theorem zp6 {i:Nat}:∀(L:List Nat) (f:Nat->Nat),i∉L->L.foldl (zdM w) f i=f i
 | [],_,_=>rfl
 |s::r,f,h=>by
  simp only[List.mem_cons,not_or] at h;rw[List.foldl_cons,zp6 r _ h.2];exact ztm h.1 _ _
theorem zjw {i:Nat} (h:w.length*4<=i):∀k,zbj w k i=0
 |0=>rfl
 |k+1=>by
  show zhk w (zbj w k) i=0
  unfold zhk;rw[zp6 _ _ (by simp;omega),zjw h k]
theorem zlq (hcl:ClosedT w){k:Nat} (hk:w.length*4+1<=k):zbj w k=zai w:=by
 have key:∀a b,w.length*4+1<=a->w.length*4+1<=b->∀s,s<w.length*4->0<zbj w a s->0<zbj w b s/\zbj w b s<=zbj w a s:=by
  intro a b ha hb s hs h0;have h1:=(zc7 hcl a).1 s hs h0;have h2:=zni hcl hs h1;have h3:=(zc7 hcl a).2 s hs _ ha h2;exact(zc7 hcl b).2 s hs _ (by omega) h1
 funext s
 rcases Nat.lt_or_ge s (w.length*4) with hs|hs
 ·have h1:=key k (w.length*4+1) hk (Nat.le_refl _) s hs;have h2:=key (w.length*4+1) k (Nat.le_refl _) hk s hs;show zbj w k s=zbj w (w.length*4+1) s
  omega
 ·show zbj w k s=zbj w (w.length*4+1) s
  rw[zjw hs,zjw hs]
theorem zwf (hcl:ClosedT w){k:Nat} (h:zbj w (k+1)=zbj w k):zbj w k=zai w:=by
 have:∀j,zbj w (k+j)=zbj w k:=by
  intro j;induction j with
  |zero=>rfl
  |succ j ih=>
   show zhk w (zbj w (k+j))=zbj w k
   rw[ih];exact h
 rw[<-this (w.length*4+1)];exact zlq hcl (by omega)
def Strict (f g:Nat->Nat):Prop:=∃s,0<g s/\(f s=0\/g s<f s)
theorem Strict.bet {f g h:Nat->Nat} (a:Strict f g) (b:Bet g h):Strict f h:=by
 obtain⟨s,h1,h2⟩:=a;have:=b s h1;exact⟨s,this.1,by omega⟩
theorem Strict.ne {f g:Nat->Nat} (a:Strict f g):f≠g:=by
 rintro rfl
 obtain⟨s,h1,h2⟩:=a;omega
theorem zoW {s:Nat}:∀(C:List Int) (f:Nat->Nat),Bet f (C.foldl (zbN w s) f)
 | [],f=>Bet.refl f
 |c::r,f=>zkV.trans (zoW r _)
theorem zp5:∀(L:List Nat) (f:Nat->Nat),Bet f (L.foldl (zdM w) f)
 | [],f=>Bet.refl f
 |s::r,f=>(zoW _ _).trans (zp5 r _)
theorem zrI {f:Nat->Nat}{b:Nat} (hb:∀s,f s<=b) (h1:1<=b):∀ {l:List Ty}{m:Nat},m<=b->zbC f m l<=b+1
 | [],m,hm=>by simp only[zbC];omega
 |t::r,m,hm=>by
  simp only[zbC];split
  ·omega
  ·refine zrI hb h1 ?_;have:dv f t<=b:=by
    unfold dv;split
    ·exact h1
    ·exact hb _
   omega
theorem zwB {s:Nat}{f:Nat->Nat}{c:Int}{b:Nat} (hb:∀s,f s<=b) (h1:1<=b):∀i,zbN w s f c i<=b+1:=by
 intro i;unfold zbN;split
 ·unfold updF;split
  ·exact zrI hb h1 (Nat.zero_le _)
  ·have:=hb i;omega
 ·have:=hb i;omega
theorem zrZ {s:Nat}:∀(C:List Int) (f:Nat->Nat) (b:Nat),(∀s,f s<=b)->1<=b->∀i,C.foldl (zbN w s) f i<=b+C.length
 | [],f,b,hb,_,i=>by have:=hb i;simpa using this
 |c::r,f,b,hb,h1,i=>by
  have:=zrZ (s:=s) r (zbN w s f c) (b+1) (zwB hb h1) (by omega) i;rw[List.foldl_cons,xab];omega
theorem zmF {m:Nat}:∀(L:List Nat) (f:Nat->Nat) (b:Nat),(∀s∈L,(zaO w (tyS s)).length<=m)->(∀s,f s<=b)->1<=b->∀i,L.foldl (zdM w) f i<=b+L.length*m
 | [],f,b,_,hb,_,i=>by have:=hb i;simpa using this
 |s::r,f,b,hm,hb,h1,i=>by
  have h2:=zrZ (w:=w) (s:=s) (zaO w (tyS s)) f b hb h1;have h3:=hm s (by simp);have:=zmF r (zdM w f s) (b+m) (fun x hx=>hm x (by simp[hx])) (fun j=>by have:=h2 j;show _<=_;unfold zdM;omega) (by omega) i;rw[List.foldl_cons,xab,Nat.add_mul];omega
theorem ztb {m:Nat} (hm:∀s,s<w.length*4->(zaO w (tyS s)).length<=m):∀k i,zbj w k i<=1+k*(w.length*4*m)
 |0,i=>by simp[zbj]
 |k+1,i=>by
  have:=zmF (w:=w) (m:=m) (List.range (w.length*4)) (zbj w k) (1+k*(w.length*4*m)) (fun s hs=>hm s (List.mem_range.1 hs)) (ztb hm k) (by omega) i;show zhk w (zbj w k) i<=_
  unfold zhk;rw[List.length_range] at this;rw[Nat.add_mul];omega
end
end Go.Proofs.YtpgdedpljcedpaaGreat
namespace Go.Proofs.YtpgdedpljcedpaaGreat
open Go
set_option linter.unusedSimpArgs false
set_option linter.unusedVariables false
set_option maxRecDepth 100000
set_option maxHeartbeats 2000000
section
variable {c:Ctx}{all:Array Oper}{chk:List Rec->Prop}{os:List Oper}{recs:List Rec}{env:Env}{hp:Hp}{Q:St->Prop}
variable {d ty:Nat}{pos:String}{af:Array Edge}{g:Option (Nat×Bool)}{pg:List (Nat×AV)}
theorem Walk.buildZ {t n e m k:Nat}{zs:List AV} (ht:TyZ c.P t k zs) (ha:ArT c.P t n e m) (hg:GH all env g pg) (hd:Nat.blt d c.n=true)
  (hn:Walk c all chk os (zap (pg++[]) [] [] ⟨some (d,.agg zs),[]⟩::recs) ⟨(d,.agg zs)::env,hp⟩ Q):
  Walk c all chk (⟨some d,.build t #[],ty,pos,af,g⟩::os) recs ⟨env,hp⟩ Q:=by
 refine xba hg hd (fun a G T w=>?_) hn;obtain⟨i,z,h1,h2,h3,h4⟩:=ht.inf;obtain⟨j,h5,h6⟩:=ha.inf;have hz:=zb2 (G:=G) (T:=T) (w:=w) h4;refine⟨.agg z.cells, ?_, ?_⟩
 ·have hb:c.P.built t []=some z.cells:=by
   unfold Program.built;simp only[h1,ha.und,h3,h5];rfl
  have:=run_build w t #[] z.cells hb;simp only[execOp,Sem.run_bind,Array.map_empty,this,Result.andThen_ok,Sem.run_pure]
 ·have hz':AllR G T w zs z.cells:=by simpa using hz
  exact .agg hz'.size hz'.rel
end
def tabC (n:Nat) (f:Nat->Nat):List AV:=(List.range n).map fun s=> .d (.i (f s:Int))
def tabD (n:Nat) (f:Nat->Nat):List D:=(List.range n).map fun s=> .i (f s:Int)
abbrev ze0 (n:Nat) (f:Nat->Nat):D:= .sl ((List.range n).map fun s=>[D.i (f s:Int)])
theorem zlw {n i s:Nat}{f:Nat->Nat} (h:s<n) (e:i=s):(tabC n f)[i]?=some (.d (.i (f s:Int))):=by
 subst e;simp[tabC,h]
theorem zwM {n i s:Nat}{f:Nat->Nat} (h:s<n) (e:i=s):(tabD n f)[i]?=some (.i (f s:Int)):=by
 subst e;simp[tabD,h]
theorem zaG {n:Nat}{f:Nat->Nat}:AV.idsL (tabC n f)=[]:=by
 unfold tabC;induction List.range n with
 |nil=>rfl
 |cons x r ih=>rw[xae,AV.idsL,ih];rfl
theorem zwO:∀ {n:Nat}{f:Nat->Nat},toDL (tabC n f)=some (tabD n f):=by
 intro n f;unfold tabC tabD;have:=zmJ ((List.range n).map fun s=>D.i (f s:Int));rwa [List.map_map] at this
theorem zuL {n:Nat}{f:Nat->Nat}:zbT n 1 (tabC n f)=some ((List.range n).map fun s=>[D.i (f s:Int)]):=by
 have:=zeb (f:=fun s=>[D.i (f s:Int)]) (k:=1) (l:=List.range n) (fun _ _=>rfl);rw[List.length_range] at this;rw[<-this];congr 1
 unfold tabC;induction List.range n with
 |nil=>rfl
 |cons x r ih=>rw[xae,List.flatMap_cons,ih];rfl
theorem zti {v:AV}:∀ {cs:List AV}{i:Nat},i<cs.length->putC cs i [v]=some (cs.set i v)
 |x::r,0,_=>by cases r<;>rfl
 |x::r,i+1,h=>by
  have:=zti (v:=v) (cs:=r) (i:=i) (by simpa using h);simp only[putC,this,List.set_cons_succ]
theorem ztx {n i s v:Nat}{f:Nat->Nat}{x:Int} (h:s<n) (e:i=s) (ex:x=(v:Int)):putC (tabC n f) i [.d (.i x)]=some (tabC n (updF f s v)):=by
 subst e ex;rw[zti (by simp[tabC,h])];congr 1
 refine List.ext_getElem (by simp[tabC]) (fun j h1 h2=>?_);simp only[tabC,xac,List.length_range] at h2;rw[List.getElem_set];simp only[tabC,List.getElem_map,List.getElem_range,updF];by_cases hj:i=j
 ·subst hj;simp
 ·rw[if_neg hj,if_neg (fun h=>hj h.symm)]
theorem InS.facts {n:Nat}{a k:Int} (h:InS n ⟨a,k⟩) (ha:¬a = -1):zcE ⟨a,k⟩<n/\a*4+k=(zcE ⟨a,k⟩:Int)/\0<=a/\0<=k/\k<=3/\a<=n:=by
 rcases h with h|⟨h1,h2⟩
 ·exact absurd h ha
 ·have e1:=congrArg Ty.data h2;have e2:=congrArg Ty.index h2;simp only[tyS] at e1 e2;omega
theorem znb {f:Nat->Nat}{a k:Int} (ha:¬a = -1):dv f ⟨a,k⟩=f (zcE ⟨a,k⟩):=by unfold dv;rw[if_neg ha]
theorem znc {f:Nat->Nat}{a k:Int} (ha:a = -1):dv f ⟨a,k⟩=1:=by unfold dv;rw[if_pos ha]
theorem zqE {f:Nat->Nat}{b:Nat} (hb:∀s,f s<=b) (h1:1<=b) (t:Ty):dv f t<=b:=by
 unfold dv;split
 ·exact h1
 ·exact hb _
theorem zi5 {a k:Int} (ha:0<=a/\a<=1000) (hk:0<=k/\k<=1000):FnD Tryz.prog 181 [.agg [.d (.i a),.d (.i k)]] [] (.d (.i (a*4+k))) []:=by
 refine bd Tryz.f181 9 [] [] fun w0 F0 own kept hk=>?_;refine bx 3001 ?_;refine ev ?_;refine ar ?_;refine ar ?_;focus (refine rq ?_;all_goals ((simp[];done)))
theorem zn6 {n:Nat}{f:Nat->Nat}{a k:Int} (h:InS n ⟨a,k⟩) (hn:n<=100):
  FnD Tryz.prog 130 [.ms 70 n,.agg [.d (.i a),.d (.i k)]] [(70,some (.box (tabC n f)))] (.d (.i (dv f ⟨a,k⟩))) []:=by
 have hs:=h.facts;refine bd Tryz.f130 13 [12] [] fun w0 F0 own kept hk=>?_;refine Walk.box (id:=3003) .none rfl rfl rfl (by first|rfl|(simp only[zaA,occH,occE,Res.ids,xag,List.nil_append,AV.idsL,AV.ids,zak,zaj,zas,zaQ,xae,List.map_nil,upC,zaG];rfl)) (by first|rfl|(simp only[zaA,occH,occE,Res.ids,xag,List.nil_append,AV.idsL,AV.ids,zak,zaj,zas,zaQ,xae,List.map_nil,upC,zaG];rfl)) (by first|rfl|(simp only[zaA,occH,occE,Res.ids,xag,List.nil_append,AV.idsL,AV.ids,zak,zaj,zas,zaQ,xae,List.map_nil,upC,zaG];rfl)) (by first|rfl|(simp only[zaA,occH,occE,Res.ids,xag,List.nil_append,AV.idsL,AV.ids,zak,zaj,zas,zaQ,xae,List.map_nil,upC,zaG];rfl)) ?_;refine evs [12] [] ?_;refine sq ?_ ?_<;>intro h1 h1p h1s<;>(try simp only[Q] at h1p);refine rn [] (r1 rfl) (.eqd ?_) ⟨rfl,rfl⟩ (SubH.get ⟨rfl,trivial⟩) (fun _ h=>h);rotate_left;refine Walk.call (cr:=[]) zuC (zi5 (by have:=hs h1p;omega) (by have:=hs h1p;omega)) rfl .none rfl rfl (LeL.refl _) trivial rfl (by first|rfl|(simp only[za8,List.all_cons,List.all_nil,zcf,zbU,AV.idsL,AV.ids,zak,zaj,xae,List.map_nil,zaG];rfl)) (by first|rfl|(simp only[zaA,occH,occE,Res.ids,xag,List.nil_append,AV.idsL,AV.ids,zak,zaj,zas,zaQ,xae,List.map_nil,upC,zaG];rfl)) ?_;refine xaZ (i:=zcE ⟨a,k⟩) sl62 .none rfl rfl rfl (hs h1p).2.1 ((hs h1p).1) ?_;refine xa1 ty3 .none rfl rfl rfl ((zlw (hs h1p).1 (by omega))) ?_;refine evs [12] [] ?_;refine rn [] (r1 rfl) (.eqd ?_) ⟨rfl,rfl⟩ (SubH.get ⟨rfl,trivial⟩) (fun _ h=>h);rotate_left;all_goals (first|(rw[znc (by assumption)];rfl)|(rw[znb (by assumption)]))
theorem zel {n:Nat}{f:Nat->Nat}{a k:Int} (h:InS n ⟨a,k⟩) (hn:n<=100):
  FnD Tryz.prog 130 [.d (ze0 n f),.agg [.d (.i a),.d (.i k)]] [] (.d (.i (dv f ⟨a,k⟩))) []:=by
 have hs:=h.facts;refine bd Tryz.f130 13 [] [] fun w0 F0 own kept hk=>?_;refine bx 3003 ?_;refine ev ?_;refine sq ?_ ?_<;>intro h1 h1p h1s<;>(try simp only[Q] at h1p);refine rq ?_;rotate_left;refine wc zuC (zi5 (by have:=hs h1p;omega) (by have:=hs h1p;omega)) rfl rfl ?_;refine xaV (i:=zcE ⟨a,k⟩) sl62 .none rfl rfl rfl (hs h1p).2.1 (by simp[(hs h1p).1];rfl) rfl ?_;refine ev ?_;refine rq ?_;rotate_left;all_goals (first|(rw[znc (by assumption)];rfl)|(rw[znb (by assumption)]))
theorem zhC {w:List Data} (hw:WT w){a k c:Int} (ht:TyIn w.length ⟨a,k⟩) (hc:c∈zah w ⟨a,k⟩):(zaa w ⟨a,k⟩ c).length<=1000000000000:=by
 obtain⟨d,rfl,h1,h2⟩:=zcF ht hc;exact zdW hw h1 h2
theorem zo7 {w:List Data} (hw:WT w){n:Nat}{f:Nat->Nat}{a k c:Int} (ht:TyIn w.length ⟨a,k⟩) (hc:c∈zah w ⟨a,k⟩) (hn:n<=100) (hb:∀s,f s<=100000) (hin:∀u∈zaa w ⟨a,k⟩ c,InS n u):
  FnD Tryz.prog 98 [.d (zal w),.ms 70 n,.agg [.d (.i a),.d (.i k)],.d (.i c)] [(70,some (.box (tabC n f)))] (.d (.i (most w f ⟨a,k⟩ c))) []:=by
 have hl:=zhC hw ht hc;have hd:=zqE hb (by omega);refine bd Tryz.f98 37 [] [] fun w0 F0 own kept hk=>?_;refine Walk.box (id:=3006) .none rfl rfl rfl (by(simp only[zaA,occH,occE,Res.ids,xag,List.nil_append,AV.idsL,AV.ids,zak,zaj,zas,zaQ,xae,List.map_nil,upC,zaG];rfl)) (by(simp only[zaA,occH,occE,Res.ids,xag,List.nil_append,AV.idsL,AV.ids,zak,zaj,zas,zaQ,xae,List.map_nil,upC,zaG];rfl)) (by(simp only[zaA,occH,occE,Res.ids,xag,List.nil_append,AV.idsL,AV.ids,zak,zaj,zas,zaQ,xae,List.map_nil,upC,zaG];rfl)) (by(simp only[zaA,occH,occE,Res.ids,xag,List.nil_append,AV.idsL,AV.ids,zak,zaj,zas,zaQ,xae,List.map_nil,upC,zaG];rfl)) ?_;refine ev ?_;refine Walk.call (cr:=[]) zgB (zcr hw ht hc) rfl .none rfl rfl (LeL.refl _) trivial rfl (by first|rfl|(simp only[za8,List.all_cons,List.all_nil,zcf,zbU,AV.idsL,AV.ids,zak,zaj,xae,List.map_nil,zaG];rfl)) (by first|rfl|(simp only[zaA,occH,occE,Res.ids,xag,List.nil_append,AV.idsL,AV.ids,zak,zaj,zas,zaQ,xae,List.map_nil,upC,zaG];rfl)) ?_;refine ev ?_;refine xak (ι:=List (Ty)×List (Ty)×(Nat)) hk (fun x=>[(11,.d (.i (x.1.length:Int))),(10,.d (.i (x.2.2:Int)))]) [8,12,17,18,19,20,21,22,23,24,25,26,27,28,29,30,31,32,33,34] (fun x=>[]) (fun x=>x.1++x.2.1=zaa w ⟨a,k⟩ c/\x.2.2<=100000/\zbC f x.2.2 x.2.1=zbC f 0 (zaa w ⟨a,k⟩ c)) (fun x=>x.2.1.length) ([],zaa w ⟨a,k⟩ c,0) ⟨by simp,by simp,rfl⟩ ⟨⟨_,rfl,xaq ?_⟩,⟨⟨_,rfl,xaq ?_⟩,trivial⟩⟩ trivial (fun x=>rfl) (fun x hg1=>?_);iterate 2 focus ((simp;done))
 obtain⟨pre,rest,m⟩:=x;dsimp only at hg1 ⊢;refine evc [] [] ?_;refine sq ?_ ?_<;>intro h1 h1p h1s<;>(try simp only[Q] at h1p);rcases rest with _|⟨y,rest⟩
 ·exfalso;simp_all
 have hdy:=hd y;have hye:dv f ⟨y.data,y.index⟩=dv f y:=rfl;refine xaV zaW .none rfl rfl rfl rfl (zaI hg1.1) rfl ?_;refine ev ?_;refine Walk.call (cr:=[]) zke (zn6 (f:=f) (a:=y.data) (k:=y.index) (hin y (by rw[<-hg1.1];simp)) hn) rfl .none rfl rfl (.cons (xas (by first|rfl|(simp;done))) (.cons (.refl _) .nil)) ⟨rfl,trivial⟩ rfl (by first|rfl|(simp only[za8,List.all_cons,List.all_nil,zcf,zbU,AV.idsL,AV.ids,zak,zaj,xae,List.map_nil,zaG];rfl)) (by first|rfl|(simp only[zaA,occH,occE,Res.ids,xag,List.nil_append,AV.idsL,AV.ids,zak,zaj,zas,zaQ,xae,List.map_nil,upC,zaG];rfl)) ?_;refine ev ?_;refine sq ?_ ?_<;>intro h2 h2p h2s<;>(try simp only[Q] at h2p);refine rn [] (r1 rfl) (.eqd ?_) ⟨rfl,rfl⟩ (SubH.get ⟨rfl,trivial⟩) (fun _ h=>h);rotate_left;refine sq ?_ ?_<;>intro h3 h3p h3s<;>(try simp only[Q] at h3p);refine ar ?_;refine xah ((pre++[y],rest,max m (dv f y))) ⟨⟨(by have hz:=hg1.1;rw[<-hz];simp),⟨(by have:=hd y;dsimp only;omega),(by rw[<-hg1.2.2];simp only[zbC];rw[if_neg (by have:=hd y;omega)])⟩⟩,(by simp),sx ⟨⟨_,rfl,xaq ?_⟩,⟨⟨_,rfl,xaq ?_⟩,trivial⟩⟩ trivial⟩;iterate 2 focus (first|(simp;done)|(dsimp only;omega))
 refine ar ?_;refine xah ((pre++[y],rest,max m (dv f y))) ⟨⟨(by have hz:=hg1.1;rw[<-hz];simp),⟨(by have:=hd y;dsimp only;omega),(by rw[<-hg1.2.2];simp only[zbC];rw[if_neg (by have:=hd y;omega)])⟩⟩,(by simp),sx ⟨⟨_,rfl,xaq ?_⟩,⟨⟨_,rfl,xaq ?_⟩,trivial⟩⟩ trivial⟩;iterate 2 focus (first|(simp;done)|(dsimp only;omega))
 have hrest:rest=[]:=by
  rcases rest with _|⟨a,b⟩
  ·rfl
  ·exfalso;have hz:=congrArg List.length (hg1.1);simp only[xaa,xab,xac] at hz;omega
 subst hrest;refine ar ?_;refine rn [] (r1 rfl) (.eqd ?_) ⟨rfl,rfl⟩ (SubH.get ⟨rfl,trivial⟩) (fun _ h=>h);rotate_left;all_goals (refine congrArg D.i ?_;unfold most;rw[<-hg1.2.2];first|(simp only[zbC];rw[if_pos (by omega)];rfl)|(simp only[zbC];omega))
structure Dp (w:List Data):Prop where
 wt:WT w
 cl:ClosedT w
 four:w.length<=4
 ct:∀s,s<w.length*4->(zaO w (tyS s)).length<=4
def midT (w:List Data) (k s:Nat):Nat->Nat:=(List.range s).foldl (zdM w) (zbj w k)
def rowT (w:List Data) (k s:Nat) (pre:List Int):Nat->Nat:=pre.foldl (zbN w s) (midT w k s)
theorem zig {w:List Data}{k s:Nat}:rowT w k s (zaO w (tyS s))=midT w k (s+1):=by
 unfold rowT midT;rw[List.range_succ,List.foldl_append];rfl
theorem zdU {w:List Data}{k s:Nat}{pre:List Int}{c:Int}:rowT w k s (pre++[c])=zbN w s (rowT w k s pre) c:=by
 unfold rowT;rw[List.foldl_append];rfl
theorem zoV {w:List Data} (hd:Dp w){k s:Nat} (hk:k<=20) (hs:s<=w.length*4){pre:List Int} (hp:pre.length<=4) (i:Nat):rowT w k s pre i<=100000:=by
 have h4:=hd.four;have h1:=ztb (w:=w) (m:=4) hd.ct k;have h2:=zmF (w:=w) (m:=4) (List.range s) (zbj w k) _ (fun x hx=>hd.ct x (by have:=List.mem_range.1 hx;omega)) h1 (by omega);have h3:=zrZ (w:=w) (s:=s) pre (midT w k s) _ h2 (by omega) i;have e1:k*(w.length*4*4)<=20*(4*4*4):=Nat.mul_le_mul hk (by omega);rw[List.length_range] at h3;show pre.foldl (zbN w s) (midT w k s) i<=100000
 omega
theorem zvJ {w:List Data}{s:Nat} (h:s<w.length*4):TyIn w.length (tyS s):= .inr ⟨s / 4,rfl,by omega⟩
theorem zjO {w:List Data}{s:Nat}:zah w (tyS s)=zaO w (tyS s):=by unfold zah;rw[if_neg (zmK s)]
theorem zsJ (m:Nat):zbc (m+1) [.d (.i 0)]=zbc m [.d (.i 0)]++[AV.d (.i 0)]:=by
 induction m with
 |zero=>rfl
 |succ m ihm=>
  show [AV.d (.i 0)]++zbc (m+1) [.d (.i 0)]=([AV.d (.i 0)]++zbc m [.d (.i 0)])++[AV.d (.i 0)]
  rw[ihm,List.append_assoc]
theorem zqg (n:Nat):zbc n [.d (.i 0)]=tabC n (fun _=>0):=by
 unfold tabC;induction n with
 |zero=>rfl
 |succ n ih=>rw[zsJ,ih,List.range_succ,xaf];rfl
theorem zeD {w:List Data}{s:Nat}{f:Nat->Nat}{c:Int} (h:decide ((0:Int)<(most w f (tyS s) c:Int)/\((f s:Int)=0\/(most w f (tyS s) c:Int)<(f s:Int)))=true):zbN w s f c=updF f s (most w f (tyS s) c):=by
 rw[decide_eq_true_eq] at h;unfold zbN;rw[if_pos (by omega)]
theorem zdT {w:List Data}{s:Nat}{f:Nat->Nat}{c:Int} (h:decide ((0:Int)<(most w f (tyS s) c:Int)/\((f s:Int)=0\/(most w f (tyS s) c:Int)<(f s:Int)))=false):zbN w s f c=f:=by
 rw[decide_eq_false_iff_not] at h;unfold zbN;rw[if_neg (by omega)]
theorem zo2 {w:List Data} (hw:WT w){s:Nat} (hs:s<w.length*4):FnD Tryz.prog 97 [.d (zal w),.agg [.d (.i ((s:Int) / 4)),.d (.i ((s:Int) % 4))]] [] (.d (zcy (zaO w (tyS s)))) []:=by
 rw[<-zjO];exact zcc hw (zvJ hs)
theorem zqp {w:List Data} (hd:Dp w){f:Nat->Nat}{s:Nat}{c:Int} (hs:s<w.length*4) (hc:c∈zaO w (tyS s)) (hb:∀s,f s<=100000):
  FnD Tryz.prog 98 [.d (zal w),.ms 70 (w.length*4),.agg [.d (.i ((s:Int) / 4)),.d (.i ((s:Int) % 4))],.d (.i c)] [(70,some (.box (tabC (w.length*4) f)))] (.d (.i (most w f (tyS s) c))) []:=
 have h4:=hd.four;zo7 (a:=(tyS s).data) (k:=(tyS s).index) hd.wt (zvJ hs) (by rw[<-zjO] at hc;exact hc) (by omega) hb (fun u hu=>hd.cl s hs c hc u hu)
theorem zfW {w:List Data} (hd:Dp w):FnD Tryz.prog 52 [.d (zal w)] [] (.d (ze0 (w.length*4) (zai w))) []:=by
 have hw:=hd.wt;have h4:=hd.four;refine bd Tryz.f52 70 [27,29,54,61] [14,999999] fun w0 F0 own kept hk=>?_;refine ar ?_;refine Walk.make (id:=70) (m:=w.length*4) sl62 tz3 rfl (by decide) (zjP rfl) .none rfl (congrArg (fun z:Int=>some (AV.d (D.i z))) (by simp:((w.map Data.c).length:Int)*4=((w.length*4:Nat):Int))) (congrArg (fun z:Int=>some (AV.d (D.i z))) (by simp:((w.map Data.c).length:Int)*4=((w.length*4:Nat):Int))) (by omega) (by omega) (by first|rfl|(simp only[zaA,occH,occE,Res.ids,xag,List.nil_append,AV.idsL,AV.ids,zak,zaj,zas,zaQ,xae,List.map_nil,upC,zaG];rfl)) (by first|rfl|(simp only[zaA,occH,occE,Res.ids,xag,List.nil_append,AV.idsL,AV.ids,zak,zaj,zas,zaQ,xae,List.map_nil,upC,zaG];rfl)) (by first|rfl|(simp only[zaA,occH,occE,Res.ids,xag,List.nil_append,AV.idsL,AV.ids,zak,zaj,zas,zaQ,xae,List.map_nil,upC,zaG];rfl)) ?_;refine evs [27,29,54,61] [] ?_;refine xak (ι:=Nat) hk (fun n=>[(4,.d (.i (n:Int)))]) [5,6,7,8,9,14,15,16,17,18,19,20,21,22,23,24,25,26,27,28,29,30,31,32,33,34,35,36,37,38,39,40,41,42,43,44,45,46,47,48,49,50,51,52,53,54,55,56,57,58,59,60,61,62,63,64,65,66,67,68] (fun n=>[(70,some (.box (tabC (w.length*4) (zbj w n))))]) (fun n=>n<=w.length*4+1) (fun n=>w.length*4+1-n) 0 (by simp) ⟨⟨_,rfl,xaq ?_⟩,trivial⟩ ⟨?_,trivial⟩ (fun x=>rfl) (fun n hg1=>?_);focus ((simp;done))
 focus ((show some (Res.box _)=some (Res.box _);rw[zqg];rfl))
 refine evc [27,29,54,61] [14,999999] ?_;refine sq ?_ ?_<;>intro h1 h1p h1s<;>(try simp only[Q] at h1p);refine xak (ι:=Nat) hk (fun s=>[(5,.d (.i (s:Int)))]) [6,7,8,9,20,21,22,23,24,25,26,27,28,29,30,31,32,33,34,35,36,37,38,39,40,41,42,43,44,45,46,47,48,49,50,51,52,53,54,55,56,57,58,59,60,61,62,63,64,65,66,67,68] (fun s=>[(70,some (.box (tabC (w.length*4) (midT w n s))))]) (fun s=>s<=w.length*4) (fun s=>w.length*4-s) 0 (by simp) ⟨⟨_,rfl,xaq ?_⟩,trivial⟩ ⟨?_,trivial⟩ (fun x=>rfl) (fun s hg2=>?_);focus ((simp;done))
 focus (first|rfl|(show some (Res.box _)=some (Res.box _);rw[<-zig,<-hg3,List.append_nil]))
 refine evc [27,29,54,61] [14,999999] ?_;refine sq ?_ ?_<;>intro h2 h2p h2s<;>(try simp only[Q] at h2p);refine xbe .none rfl rfl rfl (by omega) ?_;refine evs [27,29,54,61] [] ?_;refine xbg .none rfl rfl rfl (by omega) ?_;refine bu [0,1] [_,_] st25 ?_;refine Walk.alloc (id:=3006) tz25 rfl .none rfl (by(simp only[zaA,occH,occE,Res.ids,xag,List.nil_append,AV.idsL,AV.ids,zak,zaj,zas,zaQ,xae,List.map_nil,upC,zaG];rfl)) (by(simp only[zaA,occH,occE,Res.ids,xag,List.nil_append,AV.idsL,AV.ids,zak,zaj,zas,zaQ,xae,List.map_nil,upC,zaG];rfl)) (by(simp only[zaA,occH,occE,Res.ids,xag,List.nil_append,AV.idsL,AV.ids,zak,zaj,zas,zaQ,xae,List.map_nil,upC,zaG];rfl)) ?_;refine so ty25 ?_;refine tv ?_;refine Walk.call (cr:=[]) zh8 (zo2 hw (s:=s) (by omega)) rfl .none rfl rfl (LeL.refl _) trivial rfl (by first|rfl|(simp only[za8,List.all_cons,List.all_nil,zcf,zbU,AV.idsL,AV.ids,zak,zaj,xae,List.map_nil,zaG];rfl)) (by first|rfl|(simp only[zaA,occH,occE,Res.ids,xag,List.nil_append,AV.idsL,AV.ids,zak,zaj,zas,zaQ,xae,List.map_nil,upC,zaG];rfl)) ?_;refine evs [27,29,54,61] [] ?_;refine xak (ι:=List (Int)×List (Int)) hk (fun x=>[(8,.d (.i (x.1.length:Int)))]) [9,34,35,36,37,38,39,40,41,42,43,44,45,46,47,48,49,50,51,52,53,54,55,56,57,58,59,60,61,62,63,64,65,66,67,68] (fun x=>[(70,some (.box (tabC (w.length*4) (rowT w n s x.1))))]) (fun x=>x.1++x.2=zaO w (tyS s)) (fun x=>x.2.length) ([],zaO w (tyS s)) (by simp) ⟨⟨_,rfl,xaq ?_⟩,trivial⟩ ⟨?_,trivial⟩ (fun x=>rfl) (fun x hg3=>?_);focus ((simp;done))
 focus (first|rfl|(show some (Res.box _)=some (Res.box _);rw[zdU];first|(rw[zeD (by assumption)];done)|(rw[zdT (by assumption)];done)))
 obtain⟨pre,rest⟩:=x;dsimp only at hg3 ⊢;have hct:=hd.ct s (by omega);refine evc [27,29,54,61] [14,999999] ?_;refine sq ?_ ?_<;>intro h3 h3p h3s<;>(try simp only[Q] at h3p);rcases rest with _|⟨c,rest⟩
 ·exfalso;simp_all
 refine xaV sl62 .none rfl rfl rfl rfl (zaI hg3) rfl ?_;refine evd [27,29,54,61] [] ?_;refine Walk.call (cr:=[]) zxc (zqp hd (f:=rowT w n s pre) (s:=s) (c:=c) (by omega) (by rw[<-hg3];simp) (zoV hd (by omega) (by omega) (by have:=hd.ct s (by omega);have hz:=congrArg List.length hg3;simp at hz;omega))) rfl .none rfl rfl (.cons (.refl _) (.cons (xas (by first|rfl|(simp;done))) (.cons (.refl _) (.cons (.refl _) .nil)))) ⟨rfl,trivial⟩ rfl (by first|rfl|(simp only[za8,List.all_cons,List.all_nil,zcf,zbU,AV.idsL,AV.ids,zak,zaj,xae,List.map_nil,zaG];rfl)) (by first|rfl|(simp only[zaA,occH,occE,Res.ids,xag,List.nil_append,AV.idsL,AV.ids,zak,zaj,zas,zaQ,xae,List.map_nil,upC,zaG];rfl)) ?_;refine evd [27,29,54,61] [] ?_;refine dr ?_;refine xal ?_;refine xaB 17 [(64,.d (.bool (decide ((0:Int)<(most w (rowT w n s pre) (tyS s) c:Int)/\((rowT w n s pre s:Int)=0\/(most w (rowT w n s pre) (tyS s) c:Int)<(rowT w n s pre s:Int))))))] [48,49,50,51,52,53,54,55,56,57,58,59,60,61,62,63] ?_ ?_;refine evs [27,29,54,61] [] ?_;refine sq ?_ ?_<;>intro h4 h4p h4s<;>(try simp only[Q] at h4p);refine xaZ (i:=s) sl62 (.some rfl rfl h4) rfl rfl rfl rfl (by omega) ?_;refine xa1 ty3 (.some rfl rfl h4) rfl rfl rfl ((zlw (s:=s) (by omega) (by omega))) ?_;refine evs [27,29,54,61] [(50,true)] ?_ ⟨⟨_,rfl,h4⟩,trivial⟩;refine sq ?_ ?_<;>intro h5 h5p h5s<;>(try simp only[Q] at h5p);exact jnb rfl;refine xaZ (i:=s) sl62 (.some rfl rfl h5) rfl rfl rfl rfl (by omega) ?_;refine xa1 ty3 (.some rfl rfl h5) rfl rfl rfl ((zlw (s:=s) (by omega) (by omega))) ?_;refine evs [27,29,54,61] [(50,true),(56,false)] ?_ ⟨⟨_,rfl,h4⟩,⟨_,rfl,h5⟩,trivial⟩;exact jnb rfl;exact jnb rfl;refine xaA ?_;refine tv ?_;refine sq ?_ ?_<;>intro h6 h6p h6s<;>(try simp only[Q] at h6p);refine xaZ (i:=s) sl62 .none rfl rfl rfl rfl (by omega) ?_;refine Walk.store ty3 .none rfl rfl rfl rfl rfl rfl (by simp) ((ztx (s:=s) (v:=most w (rowT w n s pre) (tyS s) c) (by omega) (by omega) rfl)) ?_;refine tv ?_;refine ar ?_;refine xah ((pre++[c],rest)) ⟨(by have hz:=hg3;rw[<-hz];simp),(by simp),sx ⟨⟨_,rfl,xaq ?_⟩,trivial⟩ ⟨?_,trivial⟩⟩;focus ((simp;done))
 focus ((show some (Res.box _)=some (Res.box _);rw[zdU];first|(rw[zeD (by assumption)];done)|(rw[zdT (by assumption)];done)))
 refine ar ?_;refine xah ((pre++[c],rest)) ⟨(by have hz:=hg3;rw[<-hz];simp),(by simp),sx ⟨⟨_,rfl,xaq ?_⟩,trivial⟩ ⟨?_,trivial⟩⟩;focus ((simp;done))
 focus ((show some (Res.box _)=some (Res.box _);rw[zdU];first|(rw[zeD (by assumption)];done)|(rw[zdT (by assumption)];done)))
 have hrest:rest=[]:=by
  rcases rest with _|⟨a,b⟩
  ·rfl
  ·exfalso;have hz:=congrArg List.length (hg3);simp only[xaa,xab,xac] at hz;omega
 subst hrest;refine ar ?_;refine xah (s+1) ⟨(by omega),(by omega),sx ⟨⟨_,rfl,xaq ?_⟩,trivial⟩ ⟨?_,trivial⟩⟩;focus ((simp;done))
 focus ((show some (Res.box _)=some (Res.box _);rw[<-zig,<-hg3,List.append_nil]))
 refine ar ?_;refine xah (n+1) ⟨(by omega),(by omega),sx ⟨⟨_,rfl,xaq ?_⟩,trivial⟩ ⟨?_,trivial⟩⟩;focus ((simp;done))
 focus (first|(show some (Res.box _)=some (Res.box _);rw[zqg];rfl)|(have e:s=w.length*4:=(by omega);rw[e];rfl))
 refine CWp.frz hk 2 70 _ _ rfl rfl zuL rfl ?_;refine CWp.ret ?_;refine rq ?_;rotate_left;all_goals ((have e:n=w.length*4+1:=(by omega);rw[e];rfl))
theorem zpG {α:Type} [Inhabited α] (p:α->Bool):∀(l:List α) (i:Nat),(idxF p l i = -1/\∀x∈l,p x=false)\/∃k:Nat,idxF p l i=((i+k:Nat):Int)/\k<l.length/\(l.take (k+1)).filter (fun x=> !p x)=l.take k
 | [],i=> .inl ⟨rfl,by simp⟩
 |x::r,i=>by
  unfold idxF;cases h:p x with
  |true=>exact .inr ⟨0,by simp,by simp,by simp[h]⟩
  |false=>
   rcases zpG p r (i+1) with ⟨h1,h2⟩|⟨k,h1,h2,h3⟩
   ·exact .inl ⟨by simpa using h1,fun y hy=>by rcases List.mem_cons.1 hy with rfl|hy;exact h;exact h2 y hy⟩
   ·refine .inr ⟨k+1,by simp only[Bool.false_eq_true,if_false];rw[h1];congr 1;omega,by simpa using h2, ?_⟩;simp only[List.take_succ_cons,List.filter_cons,h,Bool.not_false,if_true,List.cons.injEq,true_and];simpa using h3
theorem zj0 {α:Type} [Inhabited α]{s:List α}{i:Nat}{t:α} (h:i<s.length):(s.set i t).take (i+1)=s.take i++[t]:=by
 rw[List.set_eq_take_append_cons_drop,if_pos h,List.take_append,List.take_take];have:(s.take i).length=i:=by simp;omega
 simp[this,Nat.min_eq_right]
theorem zqi {α:Type}{s:List α}{i j:Nat}{t:α} (h:i<=j):(s.set i t).drop (j+1)=s.drop (j+1):=by
 rw[List.drop_set,if_pos (by omega)]
theorem zhH {α:Type} [Inhabited α]{p:α->Bool}{l:List α}{j:Nat} (h:j<l.length):(l.take (j+1)).filter p=(l.take j).filter p++(if p (nth l j) then [nth l j] else []):=by
 rw[List.take_add_one,List.getElem?_eq_getElem h,List.filter_append,zaM h];simp[List.filter_cons]
theorem zsB {α:Type} [Inhabited α]{s l:List α}{j:Nat} (h:s.drop j=l.drop j) (hl:s.length=l.length) (hj:j<l.length):nth s j=nth l j:=by
 have h1:=zaK (l:=s) (i:=j) (by omega);have h2:=zaK (l:=l) (i:=j) hj;rw[h1,h2] at h;exact(List.cons.inj h).1
theorem zia {α:Type}{s l:List α}{j:Nat} (h:s.drop j=l.drop j):s.drop (j+1)=l.drop (j+1):=by
 have:=congrArg (List.drop 1) h;simpa [List.drop_drop,Nat.add_comm] using this
theorem zh2 {w:List Data} (hs:WSmall w) (hv:za3 w=true):WT w:=WV.wt hs ((zcd w).1 hv)
end Go.Proofs.YtpgdedpljcedpaaGreat
namespace Go.Proofs.YtpgdedpljcedpaaGreat
open Go
set_option linter.unusedSimpArgs false
set_option linter.unusedVariables false
set_option maxRecDepth 100000
set_option maxHeartbeats 4000000
theorem zfK {p:Pat}{b1 b2 b3:Bool}{k:Int}:FnD Tryz.prog 216 [.agg [.d (.i p.op),.d (.i p.ctor),.d (.i p.n),.d (.i p.m),.d (.i p.var),.d (zae p.kids)],.d (.bool b1),.d (.bool b2),.d (.bool b3),.d (.i k)] []
  (.d (.bool (decide ((b1=true\/p.ctor=0)/\(b2=true\/p.n=0/\p.m=0)/\(b3=true\/p.var=0)/\(p.kids.length:Int)=k)))) []:=by
 refine bd Tryz.f216 45 [] [1] fun w0 F0 own kept hk=>?_;refine bx 3005 ?_;refine ev ?_;refine xal ?_;refine xaB 6 [(16,.d (.bool (decide (b1=true\/p.ctor=0))))] [11,12,13,14,15] ?_ ?_;refine ev ?_;refine sq ?_ ?_<;>intro h1 h1p h1s;focus (exact jn rfl (xap (by(first|rfl|(rw[Bool.eq_iff_iff];simp_all[Pat.cs_len];done)))))
 focus (exact jn rfl (xap (by(first|rfl|(rw[Bool.eq_iff_iff];simp_all[Pat.cs_len];done)))))
 refine xaB 13 [(29,.d (.bool (decide ((b1=true\/p.ctor=0)/\(b2=true\/p.n=0/\p.m=0)))))] [17,18,19,20,21,22,23,24,25,26,27,28] ?_ ?_;refine ev ?_;refine sq ?_ ?_<;>intro h2 h2p h2s;refine sq ?_ ?_<;>intro h3 h3p h3s;focus (exact jn rfl (xap (by(first|rfl|(rw[Bool.eq_iff_iff];simp_all[Pat.cs_len];done)))))
 refine sq ?_ ?_<;>intro h4 h4p h4s;focus (exact jn rfl (xap (by(first|rfl|(rw[Bool.eq_iff_iff];simp_all[Pat.cs_len];done)))))
 focus (exact jn rfl (xap (by(first|rfl|(rw[Bool.eq_iff_iff];simp_all[Pat.cs_len];done)))))
 focus (exact jn rfl (xap (by(first|rfl|(rw[Bool.eq_iff_iff];simp_all[Pat.cs_len];done)))))
 refine xaB 8 [(37,.d (.bool (decide ((b1=true\/p.ctor=0)/\(b2=true\/p.n=0/\p.m=0)/\(b3=true\/p.var=0)))))] [30,31,32,33,34,35,36] ?_ ?_;refine ev ?_;refine sq ?_ ?_<;>intro h5 h5p h5s;refine sq ?_ ?_<;>intro h6 h6p h6s;focus (exact jn rfl (xap (by(first|rfl|(rw[Bool.eq_iff_iff];simp_all[Pat.cs_len];done)))))
 focus (exact jn rfl (xap (by(first|rfl|(rw[Bool.eq_iff_iff];simp_all[Pat.cs_len];done)))))
 focus (exact jn rfl (xap (by(first|rfl|(rw[Bool.eq_iff_iff];simp_all[Pat.cs_len];done)))))
 refine xaB 7 [(44,.d (.bool (decide ((b1=true\/p.ctor=0)/\(b2=true\/p.n=0/\p.m=0)/\(b3=true\/p.var=0)/\(p.kids.length:Int)=k))))] [38,39,40,41,42,43] ?_ ?_;refine ev ?_;refine sq ?_ ?_<;>intro h7 h7p h7s;focus (exact jn rfl (xap (by(first|rfl|(rw[Bool.eq_iff_iff];simp_all[Pat.cs_len];done)))))
 focus (exact jn rfl (xap (by(first|rfl|(rw[Bool.eq_iff_iff];simp_all[Pat.cs_len];done)))))
 refine xaA ?_;refine ev ?_;refine rq ?_;rotate_left;all_goals (rfl)
theorem zgs {p:Pat}{k:Int}:FnD Tryz.prog 216 [.agg [.d (.i p.op),.d (.i p.ctor),.d (.i p.n),.d (.i p.m),.d (.i p.var),.d (zae p.kids)],.d (.bool false),.d (.bool false),.d (.bool false),.d (.i k)] []
  (.d (.bool (decide (p.ctor=0/\(p.n=0/\p.m=0)/\p.var=0/\(p.kids.length:Int)=k)))) []:=by
 have:=zfK (p:=p) (b1:=false) (b2:=false) (b3:=false) (k:=k);simpa only[Bool.false_eq_true,false_or] using this
theorem zgt {p:Pat}{k:Int}:FnD Tryz.prog 216 [.agg [.d (.i p.op),.d (.i p.ctor),.d (.i p.n),.d (.i p.m),.d (.i p.var),.d (zae p.kids)],.d (.bool false),.d (.bool false),.d (.bool true),.d (.i k)] []
  (.d (.bool (decide (p.ctor=0/\(p.n=0/\p.m=0)/\(p.kids.length:Int)=k)))) []:=by
 have:=zfK (p:=p) (b1:=false) (b2:=false) (b3:=true) (k:=k);simpa only[Bool.false_eq_true,false_or,true_or,true_and] using this
theorem zlP {p:Pat}{k:Int}:FnD Tryz.prog 216 [.agg [.d (.i p.op),.d (.i p.ctor),.d (.i p.n),.d (.i p.m),.d (.i p.var),.d (zae p.kids)],.d (.bool false),.d (.bool true),.d (.bool false),.d (.i k)] []
  (.d (.bool (decide (p.ctor=0/\p.var=0/\(p.kids.length:Int)=k)))) []:=by
 have:=zfK (p:=p) (b1:=false) (b2:=true) (b3:=false) (k:=k);simpa only[Bool.false_eq_true,false_or,true_or,true_and] using this
theorem zsx {p:Pat}{k:Int}:FnD Tryz.prog 216 [.agg [.d (.i p.op),.d (.i p.ctor),.d (.i p.n),.d (.i p.m),.d (.i p.var),.d (zae p.kids)],.d (.bool true),.d (.bool false),.d (.bool false),.d (.i k)] []
  (.d (.bool (decide ((p.n=0/\p.m=0)/\p.var=0/\(p.kids.length:Int)=k)))) []:=by
 have:=zfK (p:=p) (b1:=true) (b2:=false) (b3:=false) (k:=k);simpa only[Bool.false_eq_true,false_or,true_or,true_and] using this
theorem ze7 {v:Int}:FnD Tryz.prog 217 [.d (.i v)] [] (.d (.bool (zao v 0 5))) []:=by
 refine bd Tryz.f217 5 [] [] fun w0 F0 own kept hk=>?_;refine wc zcS (zbg) rfl rfl ?_;refine ev ?_;refine rq ?_;rotate_left;all_goals (rfl)
theorem zeO {w:List Data} (hw:WT w){a k:Int} (ht:TyIn w.length ⟨a,k⟩):FnD Tryz.prog 105 [.d (zal w),.agg [.d (.i a),.d (.i k)]] [] (.d (zcy (zah w ⟨a,k⟩))) []:=by
 rcases ht with ha|⟨d,hd,hlt⟩
 ·simp only at ha;subst ha;rw[zhp];exact zj2
 ·simp only at hd;subst hd;rw[ziA];exact zcL hw hlt
theorem zds {w:List Data} (hw:WT w){a k c:Int} (ht:TyIn w.length ⟨a,k⟩) (hc:c∈zah w ⟨a,k⟩):FnD Tryz.prog 106 [.d (zal w),.agg [.d (.i a),.d (.i k)],.d (.i c)] [] (.d (zct (zaa w ⟨a,k⟩ c))) []:=by
 obtain⟨d,rfl,h1,h2⟩:=zcF ht hc;exact zc6 hw h1 h2
theorem zjV {w:List Data} (hw:WT w){a k:Int}{p:Pat} (ht:TyIn w.length ⟨a,k⟩):
  FnD Tryz.prog 180 [.d (zal w),.agg [.d (.i a),.d (.i k)],.agg [.d (.i p.op),.d (.i p.ctor),.d (.i p.n),.d (.i p.m),.d (.i p.var),.d (zae p.kids)]] [] (.tup [.d (zct (zcR w ⟨a,k⟩ p)),.d (.bool (okP w ⟨a,k⟩ p))]) []:=by
 have hcl:=zhq hw ht;have ty4:p.op=4->p.ctor∉zah w ⟨a,k⟩->zcR w ⟨a,k⟩ p=[]:=fun h4 hm=>by unfold zcR;rw[if_pos ⟨h4,hm⟩]
 have ty4':p.op=4->p.ctor∈zah w ⟨a,k⟩->zcR w ⟨a,k⟩ p=zaa w ⟨a,k⟩ p.ctor:=fun h4 hm=>by unfold zcR zag;rw[if_neg (fun h=>h.2 hm),if_pos h4]
 have ty5:p.op=5->zcR w ⟨a,k⟩ p=[⟨a,k⟩,⟨a,k⟩]:=fun h5=>by unfold zcR zag;rw[if_neg (by omega),if_neg (by omega),if_pos h5]
 have ty6:p.op=6->zcR w ⟨a,k⟩ p=[⟨a,k⟩]:=fun h6=>by unfold zcR zag;rw[if_neg (by omega),if_neg (by omega),if_neg (by omega),if_pos h6]
 have ty0:¬p.op=4->¬p.op=5->¬p.op=6->zcR w ⟨a,k⟩ p=[]:=fun h4 h5 h6=>by unfold zcR zag;rw[if_neg (fun h=>h4 h.1),if_neg h4,if_neg h5,if_neg h6]
 have ln4:p.op=4->(zag w ⟨a,k⟩ p).length=(zaa w ⟨a,k⟩ p.ctor).length:=fun h4=>by unfold zag;rw[if_pos h4]
 have ln5:p.op=5->(zag w ⟨a,k⟩ p).length=2:=fun h5=>by unfold zag;rw[if_neg (by omega),if_pos h5];rfl
 have ln6:p.op=6->(zag w ⟨a,k⟩ p).length=1:=fun h6=>by unfold zag;rw[if_neg (by omega),if_neg (by omega),if_pos h6];rfl
 have ln0:¬p.op=4->¬p.op=5->¬p.op=6->(zag w ⟨a,k⟩ p).length=0:=fun h4 h5 h6=>by unfold zag;rw[if_neg h4,if_neg h5,if_neg h6];rfl
 have okI:∀b:Bool,(b=true↔((((p.op=2\/p.op=6)->0<=p.var/\p.var<=5)/\(¬(p.op=2\/p.op=6)->p.var=0)/\(p.op≠3->p.n=0/\p.m=0)/\(p.op≠4->p.ctor=0)/\
   (p.op=1\/p.op=2\/p.op=5\/p.op=6\/(p.op=3/\a = -1/\0<=p.n/\p.n<=p.m/\p.m<=9)\/(p.op=4/\p.ctor∈zah w ⟨a,k⟩)))/\p.kids.length=(zag w ⟨a,k⟩ p).length))->b=okP w ⟨a,k⟩ p:=fun b h=>by
  rw[Bool.eq_iff_iff,h];unfold okP ownP;simp only[xad,decide_eq_true_eq]
 by_cases hmem:p.ctor∈zah w ⟨a,k⟩
 ·have hargs:=zds hw ht hmem;have hal:(zaa w ⟨a,k⟩ p.ctor).length<=1000000000000:=by
   obtain⟨d,rfl,h1,h2⟩:=zcF ht hmem;exact zdW hw h1 h2
  simp only[hmem,and_true] at okI;refine bd Tryz.f180 87 [] [5] fun w0 F0 own kept hk=>?_;refine bx 3004 ?_;refine bx 3005 ?_;refine ev ?_;refine sq ?_ ?_<;>intro h1 h1p h1s<;>(try simp only[Q] at h1p);refine wc zeq (zgs) rfl rfl ?_;refine ev ?_;refine rn0 (r2 rfl rfl) (.tup (.cons (.nild ?_) (.cons (.eqd ?_) .nil)));rotate_left 2;refine sq ?_ ?_<;>intro h2 h2p h2s<;>(try simp only[Q] at h2p);refine xal ?_;refine xaB 7 [(23,.d (.bool (decide ((p.ctor=0/\(p.n=0/\p.m=0)/\(p.kids.length:Int)=0)/\0<=p.var/\p.var<=5))))] [17,18,19,20,21,22] ?_ ?_;refine ev ?_;refine wc zeq (zgt) rfl rfl ?_;refine ev ?_;refine sq ?_ ?_<;>intro h3 h3p h3s<;>(try simp only[Q] at h3p);refine Walk.call (cr:=[]) zmY (ze7) rfl (.some rfl rfl h3) rfl rfl (LeL.refl _) trivial rfl rfl rfl ?_;refine evs [] [(19,true)] ?_ ⟨⟨_,rfl,h3⟩,trivial⟩;exact jn rfl (xap (by(rw[Bool.eq_iff_iff];simp only[decide_eq_true_eq,zao,xad,Bool.false_eq_true,false_iff,true_iff];omega)));exact jn rfl (xap (by(rw[Bool.eq_iff_iff];simp only[decide_eq_true_eq,zao,xad,Bool.false_eq_true,false_iff,true_iff];omega)));refine xaA ?_;refine ev ?_;refine rn0 (r2 rfl rfl) (.tup (.cons (.nild ?_) (.cons (.eqd ?_) .nil)));rotate_left 2;refine sq ?_ ?_<;>intro h4 h4p h4s<;>(try simp only[Q] at h4p);refine sq ?_ ?_<;>intro h5 h5p h5s<;>(try simp only[Q] at h5p);refine Walk.call (cr:=[]) zeq (zlP) rfl (.some rfl rfl h5) rfl rfl (LeL.refl _) trivial rfl rfl rfl ?_;refine evd [] [(29,true)] ?_ ⟨⟨_,rfl,h5⟩,trivial⟩;refine sq ?_ ?_<;>intro h6 h6p h6s<;>(try simp only[Q] at h6p);refine sq ?_ ?_<;>intro h7 h7p h7s<;>(try simp only[Q] at h7p);refine sq ?_ ?_<;>intro h8 h8p h8s<;>(try simp only[Q] at h8p);refine dr ?_;refine rn0 (r2 rfl rfl) (.tup (.cons (.nild ?_) (.cons (.eqd ?_) .nil)));rotate_left 2;refine dr ?_;refine rn0 (r2 rfl rfl) (.tup (.cons (.nild ?_) (.cons (.eqd ?_) .nil)));rotate_left 2;refine sqF ?_;refine dr ?_;refine rn0 (r2 rfl rfl) (.tup (.cons (.nild ?_) (.cons (.eqd ?_) .nil)));rotate_left 2;refine sqF ?_;refine sqF ?_;refine dr ?_;refine rn0 (r2 rfl rfl) (.tup (.cons (.nild ?_) (.cons (.eqd ?_) .nil)));rotate_left 2;refine sqF ?_;refine sqF ?_;refine sqF ?_;refine dr ?_;refine rn0 (r2 rfl rfl) (.tup (.cons (.nild ?_) (.cons (.eqd ?_) .nil)));rotate_left 2;refine sq ?_ ?_<;>intro h9 h9p h9s<;>(try simp only[Q] at h9p);refine wc zfD (zeO hw ht) rfl rfl ?_;refine evd [] [] ?_;refine wc zkg (zb5 hcl) rfl rfl ?_;refine evd [] [] ?_;refine dr ?_;refine sq ?_ ?_<;>intro h10 h10p h10s<;>(try simp only[Q] at h10p);exfalso;simp_all;refine wc zfE (hargs) rfl rfl ?_;refine ev ?_;refine wc zeq (zsx) rfl rfl ?_;refine ev ?_;refine rn0 (r2 rfl rfl) (.tup (.cons (.eqd ?_) (.cons (.eqd ?_) .nil)));rotate_left 2;refine sq ?_ ?_<;>intro h11 h11p h11s<;>(try simp only[Q] at h11p);refine si [0,1] [_,_] zaW tz25 ?_;refine evd [] [] ?_;refine wc zeq (zgs) rfl rfl ?_;refine evd [] [] ?_;refine dr ?_;refine rn0 (r2 rfl rfl) (.tup (.cons (.eqd ?_) (.cons (.eqd ?_) .nil)));rotate_left 2;refine sq ?_ ?_<;>intro h12 h12p h12s<;>(try simp only[Q] at h12p);refine si [0] [_] zaW tz25 ?_;refine evd [] [] ?_;refine wc zeq (zgt) rfl rfl ?_;refine evd [] [] ?_;refine sq ?_ ?_<;>intro h13 h13p h13s<;>(try simp only[Q] at h13p);refine Walk.call (cr:=[]) zmY (ze7) rfl (.some rfl rfl h13) rfl rfl (LeL.refl _) trivial rfl rfl rfl ?_;refine evd [] [(82,true)] ?_ ⟨⟨_,rfl,h13⟩,trivial⟩;refine dr ?_;refine rn0 (r2 rfl rfl) (.tup (.cons (.eqd ?_) (.cons (.eqd ?_) .nil)));rotate_left 2;refine dr ?_;refine rn0 (r2 rfl rfl) (.tup (.cons (.eqd ?_) (.cons (.eqd ?_) .nil)));rotate_left 2;refine rn0 (r2 rfl rfl) (.tup (.cons (.nild ?_) (.cons (.eqd ?_) .nil)));rotate_left 2;all_goals (first|(refine congrArg D.bool (okI _ ?_);(try simp only[decide_eq_true_eq,Bool.false_eq_true,zao,xad,xac,true_iff,false_iff]);omega)|(rw[ty0 (by omega) (by omega) (by omega)];first|done|rfl)|(rw[ty5 (by omega)];first|done|rfl)|(rw[ty6 (by omega)];first|done|rfl)|(rw[ty4' (by omega) hmem];first|done|rfl))
 ·simp only[hmem,and_false,or_false] at okI;refine bd Tryz.f180 87 [] [5] fun w0 F0 own kept hk=>?_;refine bx 3004 ?_;refine bx 3005 ?_;refine ev ?_;refine sq ?_ ?_<;>intro h1 h1p h1s<;>(try simp only[Q] at h1p);refine wc zeq (zgs) rfl rfl ?_;refine ev ?_;refine rn0 (r2 rfl rfl) (.tup (.cons (.nild ?_) (.cons (.eqd ?_) .nil)));rotate_left 2;refine sq ?_ ?_<;>intro h2 h2p h2s<;>(try simp only[Q] at h2p);refine xal ?_;refine xaB 7 [(23,.d (.bool (decide ((p.ctor=0/\(p.n=0/\p.m=0)/\(p.kids.length:Int)=0)/\0<=p.var/\p.var<=5))))] [17,18,19,20,21,22] ?_ ?_;refine ev ?_;refine wc zeq (zgt) rfl rfl ?_;refine ev ?_;refine sq ?_ ?_<;>intro h3 h3p h3s<;>(try simp only[Q] at h3p);refine Walk.call (cr:=[]) zmY (ze7) rfl (.some rfl rfl h3) rfl rfl (LeL.refl _) trivial rfl rfl rfl ?_;refine evs [] [(19,true)] ?_ ⟨⟨_,rfl,h3⟩,trivial⟩;exact jn rfl (xap (by(rw[Bool.eq_iff_iff];simp only[decide_eq_true_eq,zao,xad,Bool.false_eq_true,false_iff,true_iff];omega)));exact jn rfl (xap (by(rw[Bool.eq_iff_iff];simp only[decide_eq_true_eq,zao,xad,Bool.false_eq_true,false_iff,true_iff];omega)));refine xaA ?_;refine ev ?_;refine rn0 (r2 rfl rfl) (.tup (.cons (.nild ?_) (.cons (.eqd ?_) .nil)));rotate_left 2;refine sq ?_ ?_<;>intro h4 h4p h4s<;>(try simp only[Q] at h4p);refine sq ?_ ?_<;>intro h5 h5p h5s<;>(try simp only[Q] at h5p);refine Walk.call (cr:=[]) zeq (zlP) rfl (.some rfl rfl h5) rfl rfl (LeL.refl _) trivial rfl rfl rfl ?_;refine evd [] [(29,true)] ?_ ⟨⟨_,rfl,h5⟩,trivial⟩;refine sq ?_ ?_<;>intro h6 h6p h6s<;>(try simp only[Q] at h6p);refine sq ?_ ?_<;>intro h7 h7p h7s<;>(try simp only[Q] at h7p);refine sq ?_ ?_<;>intro h8 h8p h8s<;>(try simp only[Q] at h8p);refine dr ?_;refine rn0 (r2 rfl rfl) (.tup (.cons (.nild ?_) (.cons (.eqd ?_) .nil)));rotate_left 2;refine dr ?_;refine rn0 (r2 rfl rfl) (.tup (.cons (.nild ?_) (.cons (.eqd ?_) .nil)));rotate_left 2;refine sqF ?_;refine dr ?_;refine rn0 (r2 rfl rfl) (.tup (.cons (.nild ?_) (.cons (.eqd ?_) .nil)));rotate_left 2;refine sqF ?_;refine sqF ?_;refine dr ?_;refine rn0 (r2 rfl rfl) (.tup (.cons (.nild ?_) (.cons (.eqd ?_) .nil)));rotate_left 2;refine sqF ?_;refine sqF ?_;refine sqF ?_;refine dr ?_;refine rn0 (r2 rfl rfl) (.tup (.cons (.nild ?_) (.cons (.eqd ?_) .nil)));rotate_left 2;refine sq ?_ ?_<;>intro h9 h9p h9s<;>(try simp only[Q] at h9p);refine wc zfD (zeO hw ht) rfl rfl ?_;refine evd [] [] ?_;refine wc zkg (zb5 hcl) rfl rfl ?_;refine evd [] [] ?_;refine dr ?_;refine sq ?_ ?_<;>intro h10 h10p h10s<;>(try simp only[Q] at h10p);refine rn0 (r2 rfl rfl) (.tup (.cons (.nild ?_) (.cons (.eqd ?_) .nil)));rotate_left 2;exfalso;simp_all;refine sq ?_ ?_<;>intro h11 h11p h11s<;>(try simp only[Q] at h11p);refine si [0,1] [_,_] zaW tz25 ?_;refine evd [] [] ?_;refine wc zeq (zgs) rfl rfl ?_;refine evd [] [] ?_;refine dr ?_;refine rn0 (r2 rfl rfl) (.tup (.cons (.eqd ?_) (.cons (.eqd ?_) .nil)));rotate_left 2;refine sq ?_ ?_<;>intro h12 h12p h12s<;>(try simp only[Q] at h12p);refine si [0] [_] zaW tz25 ?_;refine evd [] [] ?_;refine wc zeq (zgt) rfl rfl ?_;refine evd [] [] ?_;refine sq ?_ ?_<;>intro h13 h13p h13s<;>(try simp only[Q] at h13p);refine Walk.call (cr:=[]) zmY (ze7) rfl (.some rfl rfl h13) rfl rfl (LeL.refl _) trivial rfl rfl rfl ?_;refine evd [] [(82,true)] ?_ ⟨⟨_,rfl,h13⟩,trivial⟩;refine dr ?_;refine rn0 (r2 rfl rfl) (.tup (.cons (.eqd ?_) (.cons (.eqd ?_) .nil)));rotate_left 2;refine dr ?_;refine rn0 (r2 rfl rfl) (.tup (.cons (.eqd ?_) (.cons (.eqd ?_) .nil)));rotate_left 2;refine rn0 (r2 rfl rfl) (.tup (.cons (.nild ?_) (.cons (.eqd ?_) .nil)));rotate_left 2;all_goals (first|(refine congrArg D.bool (okI _ ?_);(try simp only[decide_eq_true_eq,Bool.false_eq_true,zao,xad,xac,true_iff,false_iff]);omega)|(rw[ty0 (by omega) (by omega) (by omega)];first|done|rfl)|(rw[ty5 (by omega)];first|done|rfl)|(rw[ty6 (by omega)];first|done|rfl)|(rw[ty4 (by omega) hmem];first|done|rfl))
theorem zvS {t u:Vt}:t=u↔t.var=u.var/\t.ty.data=u.ty.data/\t.ty.index=u.ty.index:=by
 rcases t with ⟨a,b,c⟩;rcases u with ⟨d,e,f⟩;simp
def ztR (l:List Vt) (v:Vt):Int:=idxF (fun x=>decide (v=x)) l 0
theorem zk1 {l:List Vt}{v:Vt} (h:l.length<=1000000000000):FnD Tryz.prog 227 [.d (zc4 l),.agg [.d (.i v.var),.d (.i v.ty.data),.d (.i v.ty.index)]] [] (.d (.i (ztR l v))) []:=by
 refine bd Tryz.f227 19 [16] [] fun w0 F0 own kept hk=>?_;refine bx 3003 ?_;refine evs [16] [] ?_;refine xak (ι:=List (Vt)×List (Vt)) hk (fun x=>[(8,.d (.i (x.1.length:Int)))]) [4,5,9,10,11,12,13,14,15,16,17,18] (fun x=>[]) (fun x=>x.1++x.2=l/\idxF (fun x=>decide (v=x)) x.2 x.1.length=idxF (fun x=>decide (v=x)) l 0) (fun x=>x.2.length) ([],l) ⟨by simp,rfl⟩ ⟨⟨_,rfl,xaq ?_⟩,trivial⟩ trivial (fun x=>rfl) (fun x hg1=>?_);focus (first|rfl|omega)
 obtain⟨pre,rest⟩:=x;dsimp only at hg1 ⊢;refine evc [16] [] ?_;refine sq ?_ ?_<;>intro h1 h1p h1s<;>(try simp only[Q] at h1p);rcases rest with _|⟨y,rest⟩
 ·exfalso;simp_all
 refine xaV zdg .none rfl rfl rfl rfl (zaI hg1.1) rfl ?_;refine evd [16] [] ?_;refine Walk.eqV2 zzT .none rfl rfl rfl rfl rfl ?_;refine dr ?_;refine sq ?_ ?_<;>intro h2 h2p h2s<;>(try simp only[Q] at h2p);refine rq ?_;rotate_left;refine ar ?_;refine xah ((pre++[y],rest)) ⟨⟨(by have hz:=hg1.1;rw[<-hz];simp),(by rw[<-hg1.2];simp[idxF];simp_all[zvS])⟩,(by simp),sx ⟨⟨_,rfl,xaq ?_⟩,trivial⟩ trivial⟩;focus (first|rfl|(simp;done)|omega)
 have hrest:rest=[]:=by
  rcases rest with _|⟨a,b⟩
  ·rfl
  ·exfalso;have hz:=congrArg List.length (hg1.1);simp only[xaa,xab,xac] at hz;omega
 subst hrest;refine rq ?_;rotate_left;all_goals (unfold ztR;rw[<-hg1.2];simp_all[idxF,zvS])
theorem zfz {l:List Vt}{v:Vt} (h:l.length<=1000000000000):FnD Tryz.prog 209 [.d (zc4 l),.agg [.d (.i v.var),.d (.i v.ty.data),.d (.i v.ty.index)]] [] (.d (.bool (decide (v∈l)))) []:=by
 refine bd Tryz.f209 9 [] [] fun w0 F0 own kept hk=>?_;refine bx 3003 ?_;refine ev ?_;refine wc zy5 (zk1 h) rfl rfl ?_;refine ev ?_;refine rq ?_;rotate_left;all_goals (refine congrArg D.bool ?_;rw[show ztR l v=idxF (fun x=>decide (v=x)) l 0 from rfl,zfd];simp[List.any_eq,eq_comm])
theorem ziL {xs:List Vt}{f:Nat}{caps:List AV}{hp:Hp}{p:Vt->Bool} (hs:xs.length<=1000000000000) (hcal:Callee Tryz.prog f)
  (hf:∀t∈xs,FnD Tryz.prog f ([.agg [.d (.i t.var),.d (.i t.ty.data),.d (.i t.ty.index)]]++caps) hp (.d (.bool (p t))) []) (k1:subH hp hp) (k2:zd2 hp=true) (k3:za8 hp [] (.d .nilp) []=true):
  FnD Tryz.prog 232 [.d (zc4 xs),.fn f caps] hp (.d (.i (idxF p xs 0))) []:=by
 refine bd Tryz.f232 19 [] [] fun w0 F0 own kept hk=>?_;refine xak (ι:=List (Vt)×List (Vt)) hk (fun x=>[(8,.d (.i (x.1.length:Int)))]) [4,5,9,10,11,12,13,14,15,16,17,18] (fun x=>[]) (fun x=>x.1++x.2=xs/\idxF p x.2 x.1.length=idxF p xs 0) (fun x=>x.2.length) ([],xs) ⟨by simp,rfl⟩ ⟨⟨_,rfl,xaq ?_⟩,trivial⟩ trivial (fun x=>zg6 hp) (fun x hg1=>?_);focus (first|rfl|omega)
 obtain⟨pre,rest⟩:=x;dsimp only at hg1 ⊢;refine evc [] [] ?_;refine sq ?_ ?_<;>intro h1 h1p h1s<;>(try simp only[Q] at h1p);rcases rest with _|⟨y,rest⟩
 ·exfalso;simp_all
 refine xaV zdg .none rfl rfl rfl rfl (zaI hg1.1) rfl ?_;refine ev ?_;refine xaJ (cr:=[]) hcal (hf y (by rw[<-hg1.1];simp)) rfl .none rfl rfl rfl (LeL.refl _) k1 k2 (zc8 k3 _) rfl ?_;refine tv ?_;refine sq ?_ ?_<;>intro h2 h2p h2s<;>(try simp only[Q] at h2p);focus (refine rn [] (r1 rfl) (.eqd ?_) ⟨rfl,rfl⟩ (fun _ _ h=>h) (fun _ h=>h);all_goals (rw[<-hg1.2];simp[idxF,h1s,h1p,h2s,h2p]))
 refine ar ?_;refine xah ((pre++[y],rest)) ⟨⟨(by have hz:=hg1.1;rw[<-hz];simp),(by rw[<-hg1.2];simp[idxF,h2s])⟩,(by simp),Sub.x (by kernel_rfl) (by kernel_rfl) ⟨⟨_,rfl,xaq ?_⟩,trivial⟩ (by simp) (by simp[zdO]) trivial⟩;focus (first|rfl|(simp;done)|omega)
 have hrest:rest=[]:=by
  rcases rest with _|⟨a,b⟩
  ·rfl
  ·exfalso;have hz:=congrArg List.length (hg1.1);simp only[xaa,xab,xac] at hz;omega
 subst hrest;focus (refine rn [] (r1 rfl) (.eqd ?_) ⟨rfl,rfl⟩ (fun _ _ h=>h) (fun _ h=>h);all_goals (rw[<-hg1.2];simp[idxF,h1s,h1p]))
theorem zhg {xs:List Vt}{f:Nat}{caps:List AV}{hp:Hp}{p:Vt->Bool} (hs:xs.length<=1000000000000) (hcal:Callee Tryz.prog f)
  (hf:∀t∈xs,FnD Tryz.prog f ([.agg [.d (.i t.var),.d (.i t.ty.data),.d (.i t.ty.index)]]++caps) hp (.d (.bool (p t))) []) (k1:subH hp hp) (k2:zd2 hp=true) (k3:za8 hp [] (.d .nilp) []=true):
  FnD Tryz.prog 229 [.d (zc4 xs),.fn f caps] hp (.d (.bool (xs.any p))) []:=by
 refine bd Tryz.f229 9 [] [] fun w0 F0 own kept hk=>?_;refine Walk.call (cr:=[]) zy9 (ziL hs hcal hf k1 k2 k3) rfl .none rfl rfl (LeL.refl _) k1 k2 (zc8 k3 _) rfl ?_;refine ev ?_;refine rn [] (r1 rfl) (.eqd ?_) ⟨rfl,rfl⟩ (fun _ _ h=>h) (fun _ h=>h);rotate_left;all_goals (exact congrArg D.bool (zfd p xs 0))
theorem zkC {b:List Vt}{v:Vt} (h:b.length<=1000000000000):FnD Tryz.prog 230 [.agg [.d (.i v.var),.d (.i v.ty.data),.d (.i v.ty.index)],.ref 3003 0] [(3003,some (.box [.d (zc4 b)]))] (.d (.bool (!decide (v∈b)))) []:=by
 refine bd Tryz.f230 8 [] [] fun w0 F0 own kept hk=>?_;refine bx 3001 ?_;refine ev ?_;refine wc zuF (zfz h) rfl rfl ?_;refine ev ?_;refine rn [] (r1 rfl) (.eqd ?_) ⟨rfl,rfl⟩ (SubH.get ⟨rfl,trivial⟩) (fun _ h=>h);rotate_left;all_goals (rfl)
theorem zhM {x y:List Vt} (hx:x.length<=1000000000000) (hy:y.length<=1000000000000):FnD Tryz.prog 218 [.d (zc4 x),.d (zc4 y)] [] (.d (.bool (zd9 x y))) []:=by
 refine bd Tryz.f218 16 [] [] fun w0 F0 own kept hk=>?_;refine bx 3003 ?_;refine ev ?_;refine sq ?_ ?_<;>intro h1 h1p h1s;refine xaL (xs:=[_]) rfl (.some rfl rfl h1) rfl rfl ?_;refine Walk.call (cr:=[]) zy7 (zhg (p:=fun v=> !decide (v∈y)) hx zy8 (fun t _=>zkC hy) ⟨rfl,trivial⟩ rfl rfl) rfl (.some rfl rfl h1) rfl rfl (LeL.refl _) ⟨rfl,trivial⟩ rfl rfl rfl ?_;refine evs [] [(10,true)] ?_ ⟨⟨_,rfl,h1⟩,trivial⟩;refine rq ?_;rotate_left;refine rq ?_;rotate_left;all_goals (refine congrArg D.bool ?_;unfold zd9;first|(simp_all;done)|(simp_all;intro hz;omega))
def metA (s:List Int):List AV:=(List.range 6).map fun(i:Nat)=> .d (.bool (decide ((i:Int)∈s)))
theorem zrF {s:List Int}{v:Int} (h0:0<=v) (h1:v<=5):(metA s)[v.toNat]?=some (.d (.bool (decide (v∈s)))):=by
 unfold metA;rw[List.getElem?_map,List.getElem?_range (by omega)];simp only[Option.map_some];rw[Int.toNat_of_nonneg h0]
theorem zrG {s:List Int}{v:Int} (h0:0<=v) (h1:v<=5):putC (metA s) v.toNat [.d (.bool true)]=some (metA (s++[v])):=by
 have e:v=0\/v=1\/v=2\/v=3\/v=4\/v=5:=by omega
 rcases e with rfl|rfl|rfl|rfl|rfl|rfl<;>simp[metA,putC,List.range_succ]
theorem zvf (t:Ty) (p:Pat):(zaR t p).length<=1:=by unfold zaR;split<;>simp
theorem zkM:∀ {a b:List Int},a.Nodup->(∀x∈a,x∈b)->a.length<=b.length
 | [],b,_,_=>by simp
 |x::r,b,hn,hs=>by
  have hn':=List.nodup_cons.1 hn;have hx:=hs x (by simp);have h:=zkM (a:=r) (b:=b.erase x) hn'.2 (fun y hy=>by
   have hne:y≠x:=fun e=>hn'.1 (e ▸ hy);exact(List.mem_erase_of_ne hne).2 (hs y (by simp[hy])))
  rw[List.length_erase_of_mem hx] at h;have:=List.length_pos_of_mem hx;simp only[xab];omega
def InR (l:List Vt):Prop:=∀v∈l,0<=v.var/\v.var<=5
theorem zpU {l:List Vt} (h:InR l) (hn:zcm l=true):l.length<=6:=by
 unfold zcm at hn;have h1:=of_decide_eq_true hn;have h2:∀x∈l.map Vt.var,x∈[(0:Int),1,2,3,4,5]:=fun x hx=>by
  obtain⟨v,hv,rfl⟩:=List.mem_map.1 hx;have:=h v hv;simp only[List.mem_cons,List.not_mem_nil,or_false];omega
 have:=zkM h1 h2;simpa using this
theorem zmw {g:Ty->Pat->Int->Option (List Vt)×Int}{or:Bool} (hg:∀t p c l,(g t p c).1=some l->InR l):∀(a:List Ty) (b:List Pat) (i:Nat) (acc:List Vt) (c:Int) (l:List Vt),InR acc->(zbu g or a b i acc c).1=some l->InR l
 | [],b,i,acc,c,l,ha,h=>by simp only[zbu,Option.some.injEq] at h;subst h;exact ha
 |_::_,[],i,acc,c,l,ha,h=>by simp only[zbu,Option.some.injEq] at h;subst h;exact ha
 |x::r,y::s,i,acc,c,l,ha,h=>by
  simp only[zbu] at h;cases hh:(g x y c).1 with
  |none=>rw[hh] at h;cases h
  |some m=>
   rw[hh] at h;simp only at h;split at h
   ·split at h
    ·exact zmw hg r s (i+1) acc _ l ha h
    ·cases h
   ·refine zmw hg r s (i+1) _ _ l (fun v hv=>?_) h;rcases List.mem_append.1 hv with hv|hv
    ·exact ha v hv
    ·exact hg x y c m hh v hv
theorem zmx (w:List Data):∀(n:Nat) (t:Ty) (p:Pat) (c:Int) (l:List Vt),(zaT w n t p c).1=some l->InR l/\zcm l=true
 |0,t,p,c,l,h=>by simp[zaT] at h
 |n+1,t,p,c,l,h=>by
  unfold zaT at h;split at h
  ·cases h
  ·split at h
   ·rename_i h60 ho;have ho':ownP w t p=true:=by unfold okP at ho;simp only[xad] at ho;exact ho.1
    cases hk:(zbu (zaT w n) (decide (p.op=5)) (zag w t p) p.kids 0 (zaR t p) (c+1)).1 with
    |none=>unfold finV at h;rw[hk] at h;simp only at h;rw[hk] at h;cases h
    |some m=>
     have hi:InR m:=zmw (fun t p c l h=>(zmx w n t p c l h).1) _ _ _ _ _ m (fun v hv=>by
      unfold zaR at hv;split at hv
      ·rename_i hop;simp only[List.mem_cons,List.not_mem_nil,or_false] at hv;subst hv;exact zrN ho' hop
      ·simp at hv) hk
     unfold finV at h;rw[hk] at h;simp only at h;split at h
     ·rename_i hn;rw[hk] at h;cases h
      exact⟨hi,hn⟩
     ·cases h
   ·cases h
theorem zwE (w:List Data) (n:Nat) (t:Ty) (p:Pat) (c:Int) (h:(zaT w n t p c).1.isSome=true):c+1<=(zaT w n t p c).2/\(zaT w n t p c).2<=60:=by
 have h1:=zfh w n t p c;by_cases hw:zbO w n t p c=true
 ·have h2:=h1.2 hw;simp only[zbO,xad,decide_eq_true_eq] at hw;have:=Pat.size_eq p;omega
 ·rw[if_neg hw] at h1;rw[h1.1] at h;cases h
def zdK (o:Option (List Vt)):List Vt:=o.getD []
theorem zt4 {g:Ty->Pat->Int->Option (List Vt)×Int}{or:Bool}{a:List Ty}{b:List Pat}{i:Nat}{acc:List Vt}{c:Int} (ha:i<a.length) (hl:b.length=a.length) (h:(g (nth a i) (nth b i) c).1.isSome=false):
  zbu g or (a.drop i) (b.drop i) i acc c=(none,(g (nth a i) (nth b i) c).2):=by
 rw[zaK ha,zaK (l:=b) (by omega),zbu];cases hh:(g (nth a i) (nth b i) c).1 with
 |none=>rfl
 |some l=>rw[hh] at h;cases h
theorem zvw {g:Ty->Pat->Int->Option (List Vt)×Int}{or:Bool}{a:List Ty}{b:List Pat}{i:Nat}{acc:List Vt}{c:Int} (ha:i<a.length) (hl:b.length=a.length) (h:(g (nth a i) (nth b i) c).1.isSome=true) (ho:or=true/\i=1) (hs:zd9 acc (zdK (g (nth a i) (nth b i) c).1)=false):
  zbu g or (a.drop i) (b.drop i) i acc c=(none,(g (nth a i) (nth b i) c).2):=by
 rw[zaK ha,zaK (l:=b) (by omega),zbu];cases hh:(g (nth a i) (nth b i) c).1 with
 |none=>rfl
 |some l=>rw[hh] at hs;simp only[zdK,Option.getD_some] at hs;simp only[if_pos ho,hs,Bool.false_eq_true,if_false]
theorem zt3 {g:Ty->Pat->Int->Option (List Vt)×Int}{or:Bool}{a:List Ty}{b:List Pat}{i:Nat}{acc:List Vt}{c:Int} (ha:i<a.length) (hl:b.length=a.length) (h:(g (nth a i) (nth b i) c).1.isSome=true) (hs:(or=true/\i=1)->zd9 acc (zdK (g (nth a i) (nth b i) c).1)=true):
  zbu g or (a.drop i) (b.drop i) i acc c=zbu g or (a.drop (i+1)) (b.drop (i+1)) (i+1) (if or=true/\i=1 then acc else acc++zdK (g (nth a i) (nth b i) c).1) (g (nth a i) (nth b i) c).2:=by
 rw[zaK ha,zaK (l:=b) (by omega),zbu];cases hh:(g (nth a i) (nth b i) c).1 with
 |none=>rw[hh] at h;cases h
 |some l=>
  by_cases ho:or=true/\i=1
  ·have:=hs ho;rw[hh] at this;simp only[zdK,Option.getD_some] at this;simp only[if_pos ho,this,if_true]
  ·simp only[if_neg ho,zdK,Option.getD_some]
theorem zvx {g:Ty->Pat->Int->Option (List Vt)×Int}{or:Bool}{a:List Ty}{b:List Pat}{i:Nat}{acc:List Vt}{c:Int} (ha:a.length<=i):zbu g or (a.drop i) (b.drop i) i acc c=(some acc,c):=by
 rw[List.drop_eq_nil_of_le ha,zbu];intro a r b s h;cases h
theorem zgj (w:List Data) (n:Nat) (t:Ty) (p:Pat) (c:Int):InR (zdK (zaT w n t p c).1)/\(zdK (zaT w n t p c).1).length<=6:=by
 cases h:(zaT w n t p c).1 with
 |none=>exact⟨fun v hv=>by simp[zdK] at hv,by simp[zdK]⟩
 |some l=>
  have:=zmx w n t p c l h;exact⟨this.1,zpU this.1 this.2⟩
structure GoodS (w:List Data) (n:Nat) (t:Ty) (p:Pat) (c:Int) (x:Nat×List Vt×Int):Prop where
 le:x.1<=p.kids.length
 eq:zbu (zaT w n) (decide (p.op=5)) ((zag w t p).drop x.1) (p.kids.drop x.1) x.1 x.2.1 x.2.2=zbu (zaT w n) (decide (p.op=5)) (zag w t p) p.kids 0 (zaR t p) (c+1)
 lc:(x.1:Int)<=x.2.2
 c0:0<=x.2.2
 c1:x.2.2<=60
 len:x.2.1.length<=1+6*x.1
 inr:InR x.2.1
def zcD (w:List Data) (n:Nat) (t:Ty) (p:Pat) (x:Nat×List Vt×Int):Nat×List Vt×Int:=
 (x.1+1,if decide (p.op=5)=true/\x.1=1 then x.2.1 else x.2.1++zdK (zaT w n (nth (zag w t p) x.1) (nth p.kids x.1) x.2.2).1,(zaT w n (nth (zag w t p) x.1) (nth p.kids x.1) x.2.2).2)
theorem GoodS.next {w:List Data}{n:Nat}{t:Ty}{p:Pat}{c:Int}{x:Nat×List Vt×Int} (hl:p.kids.length=(zag w t p).length) (hg:GoodS w n t p c x) (hlt:x.1<p.kids.length)
  (hz:(zaT w n (nth (zag w t p) x.1) (nth p.kids x.1) x.2.2).1.isSome=true) (hs:(decide (p.op=5)=true/\x.1=1)->zd9 x.2.1 (zdK (zaT w n (nth (zag w t p) x.1) (nth p.kids x.1) x.2.2).1)=true):
  GoodS w n t p c (zcD w n t p x):=by
 obtain⟨h1,h2,h3,h4,h5,h6,h7⟩:=hg;have hb:=zwE w n _ _ _ hz;have ho:=zgj w n (nth (zag w t p) x.1) (nth p.kids x.1) x.2.2;refine⟨by unfold zcD;dsimp only;omega, ?_,by unfold zcD;dsimp only;omega,by unfold zcD;dsimp only;omega,by unfold zcD;dsimp only;omega, ?_, ?_⟩
 ·rw[<-h2,zt3 (by omega) hl hz hs];rfl
 ·unfold zcD;dsimp only;split
  ·omega
  ·rw[xaa];omega
 ·unfold zcD;dsimp only;split
  ·exact h7
  ·intro v hv;rcases List.mem_append.1 hv with hv|hv
   ·exact h7 v hv
   ·exact ho.1 v hv
theorem GoodS.none {w:List Data}{n:Nat}{t:Ty}{p:Pat}{c:Int}{x:Nat×List Vt×Int} (hl:p.kids.length=(zag w t p).length) (hg:GoodS w n t p c x) (hlt:x.1<p.kids.length)
  (hz:(zaT w n (nth (zag w t p) x.1) (nth p.kids x.1) x.2.2).1.isSome=false):
  finV (zbu (zaT w n) (decide (p.op=5)) (zag w t p) p.kids 0 (zaR t p) (c+1))=(none,(zaT w n (nth (zag w t p) x.1) (nth p.kids x.1) x.2.2).2):=by
 rw[<-hg.eq,zt4 (by omega) hl hz];rfl
theorem GoodS.bad {w:List Data}{n:Nat}{t:Ty}{p:Pat}{c:Int}{x:Nat×List Vt×Int} (hl:p.kids.length=(zag w t p).length) (hg:GoodS w n t p c x) (hlt:x.1<p.kids.length)
  (hz:(zaT w n (nth (zag w t p) x.1) (nth p.kids x.1) x.2.2).1.isSome=true) (ho:p.op=5/\x.1=1) (hs:zd9 x.2.1 (zdK (zaT w n (nth (zag w t p) x.1) (nth p.kids x.1) x.2.2).1)=false):
  finV (zbu (zaT w n) (decide (p.op=5)) (zag w t p) p.kids 0 (zaR t p) (c+1))=(Option.none,(zaT w n (nth (zag w t p) x.1) (nth p.kids x.1) x.2.2).2):=by
 rw[<-hg.eq,zvw (by omega) hl hz (by simpa using ho) hs];rfl
theorem GoodS.fin {w:List Data}{n:Nat}{t:Ty}{p:Pat}{c:Int}{x:Nat×List Vt×Int} (hl:p.kids.length=(zag w t p).length) (hg:GoodS w n t p c x) (hge:p.kids.length<=x.1):
  finV (zbu (zaT w n) (decide (p.op=5)) (zag w t p) p.kids 0 (zaR t p) (c+1))=(if zcm x.2.1=true then some x.2.1 else Option.none,x.2.2):=by
 rw[<-hg.eq,zvx (by omega)];unfold finV;simp only;split<;>rfl
theorem zvg {pre rest l:List Vt}{y:Vt} (h:pre++y::rest=l) (hm:y.var∈pre.map Vt.var):zcm l=false:=by
 unfold zcm;refine decide_eq_false (fun hn=>?_);rw[<-h,xaf,xae,List.nodup_append] at hn;exact hn.2.2 _ hm _ (by simp) rfl
theorem znP {pre:List Vt}{y:Vt} (h:(pre.map Vt.var).Nodup) (hm:y.var∉pre.map Vt.var):((pre++[y]).map Vt.var).Nodup:=by
 rw[xaf,List.nodup_append];exact⟨h,by simp,fun a ha b hb=>by simp at hb;subst hb;exact fun e=>hm (e ▸ ha)⟩
def retV (r:Option (List Vt)×Int):AV:= .tup [.d (zc4 (zdK r.1)),.d (.bool r.1.isSome)]
theorem zeg {w:List Data} (hw:WT w):∀(n:Nat){a k d c:Int}{p:Pat},d+n=11->n<=10->TyIn w.length ⟨a,k⟩->p.ok->0<=c->c<=1000000000000->
  FnD Tryz.prog 183 [.d (zal w),.agg [.d (.i a),.d (.i k)],.agg [.d (.i p.op),.d (.i p.ctor),.d (.i p.n),.d (.i p.m),.d (.i p.var),.d (zae p.kids)],.d (.i d),.ref 950 0] [(950,some (.box [.d (.i c)]))]
   (retV (zaT w n ⟨a,k⟩ p c)) [(950,some (.box [.d (.i (zaT w n ⟨a,k⟩ p c).2)]))]
 |0,a,k,d,c,p,hd,_,_,_,c0,c1=>by
  refine bd Tryz.f183 114 [] [2] fun w0 F0 own kept hk=>?_;refine bx 3006 ?_;refine bx 3007 ?_;refine ev ?_;refine ar ?_;refine so ty3 ?_;refine tv ?_;refine xal ?_;refine xaB 8 [(34,.d (.bool (true)))] [27,28,29,30,31,32,33] ?_ ?_;refine ev ?_;refine sq ?_ ?_<;>intro h1 h1p h1s;exact jnb rfl;exact jnb rfl;refine xaA ?_;refine tv ?_;refine sq ?_ ?_<;>intro h2 h2p h2s;refine rn [(950,some (.box [.d (.i (zaT w 0 ⟨a,k⟩ p c).2)]))] (r2 rfl rfl) (.tup (.cons (.nild ?_) (.cons (.eqd ?_) .nil))) ⟨rfl,rfl⟩ (SubO.get ⟨.inr ?_,⟨.inl rfl,trivial⟩⟩) (zay rfl);rotate_left 3;exact absurd h2 (by simp);all_goals (first|((rfl);done)|(rfl))
 |n+1,a,k,d,c,p,hd,hn,ht,hok,c0,c1=>by
  by_cases h60:60<c+1
  ·have e:zaT w (n+1) ⟨a,k⟩ p c=(none,c+1):=by unfold zaT;rw[if_pos h60]
   rw[e];refine bd Tryz.f183 114 [] [2] fun w0 F0 own kept hk=>?_;refine bx 3006 ?_;refine bx 3007 ?_;refine ev ?_;refine ar ?_;refine so ty3 ?_;refine tv ?_;refine xal ?_;refine xaB 8 [(34,.d (.bool (true)))] [27,28,29,30,31,32,33] ?_ ?_;refine ev ?_;refine sq ?_ ?_<;>intro h1 h1p h1s;exact jnb rfl;exact jnb rfl;refine xaA ?_;refine tv ?_;refine sq ?_ ?_<;>intro h2 h2p h2s;refine rn [(950,some (.box [.d (.i (c+1))]))] (r2 rfl rfl) (.tup (.cons (.nild ?_) (.cons (.eqd ?_) .nil))) ⟨rfl,rfl⟩ (SubO.get ⟨.inr ?_,⟨.inl rfl,trivial⟩⟩) (zay rfl);rotate_left 3;exact absurd h2 (by simp);all_goals (first|((rfl);done)|(rfl))
  have hsh:=zjV hw (p:=p) ht;by_cases hop:okP w ⟨a,k⟩ p=true
  ·have hok':=hok;rw[Pat.ok_iff] at hok;have hop':=hop;unfold okP at hop';simp only[xad,decide_eq_true_eq] at hop';obtain⟨ho,hl⟩:=hop';have hin:=zgR hw ht ho;have hlen:=zhn hw ht (zb8 ho);have hst:zcR w ⟨a,k⟩ p=zag w ⟨a,k⟩ p:=by unfold zcR;rw[if_neg (fun h=>h.2 (zb8 ho h.1))]
   rw[hst,hop] at hsh;have e:zaT w (n+1) ⟨a,k⟩ p c=finV (zbu (zaT w n) (decide (p.op=5)) (zag w ⟨a,k⟩ p) p.kids 0 (zaR ⟨a,k⟩ p) (c+1)):=by
    conv=>lhs;unfold zaT
    rw[if_neg h60,if_pos hop]
   have hnr:InR (zaR ⟨a,k⟩ p):=fun v hv=>by
    unfold zaR at hv;split at hv
    ·rename_i hop;simp only[List.mem_cons,List.not_mem_nil,or_false] at hv;subst hv;exact zrN ho hop
    ·simp at hv
   have hnl:=zvf ⟨a,k⟩ p;rw[e];refine bd Tryz.f183 114 [14,108] [2,8,17] fun w0 F0 own kept hk=>?_;refine bx 3006 ?_;refine bx 3007 ?_;refine evs [14,108] [] ?_;refine ar ?_;refine so ty3 ?_;refine tv ?_;refine xal ?_;refine xaB 8 [(34,.d (.bool (false)))] [27,28,29,30,31,32,33] ?_ ?_;refine evs [14,108] [] ?_;refine sq ?_ ?_<;>intro h1 h1p h1s;exact jnb rfl;exact jnb rfl;refine xaA ?_;refine tv ?_;refine sq ?_ ?_<;>intro h2 h2p h2s;exact absurd h2 (by simp);refine wc zq2 (hsh) rfl rfl ?_;refine evs [14,108] [] ?_;refine sq ?_ ?_<;>intro h3 h3p h3s;exact absurd h3 (by simp);refine xaE 5 3 .none rfl rfl ?_;refine tv ?_;refine xal ?_;refine xaB 8 [(51,.d (.bool (decide (p.op=2\/p.op=6))))] [44,45,46,47,48,49,50] ?_ ?_;refine evs [14,108] [] ?_;refine sq ?_ ?_<;>intro h4 h4p h4s;exact jnb rfl;exact jnb rfl;refine xaA ?_;refine tv ?_;refine sq ?_ ?_<;>intro h5 h5p h5s;refine bu [0,1] [_,_] zt8 ?_;refine si [0] [_] zdg zqN ?_;refine ap zdg zqR rfl rfl rfl (by simp) (by(simp;done)) ?_;refine asg ?_;refine tv ?_;refine xak (ι:=Nat×List Vt×Int) hk (fun z=>[(62,.d (.i (z.1:Int))),(14,.gl 5 (z.2.1.map Vt.c))]) [10,11,15,16,17,18,63,64,65,66,67,68,69,70,71,72,73,74,75,76,77,78,79,80,81,82,83,84,85,86,87,88,89,90,91,92,93,94,95,96,97,98] (fun z=>[(950,some (.box [.d (.i z.2.2)])),(5,some (.tok ((z.2.1.map Vt.c)).length 3))]) (fun z=>GoodS w n ⟨a,k⟩ p c z) (fun z=>p.kids.length-z.1) (0,zaR ⟨a,k⟩ p,c+1) ⟨by simp,by simp,by dsimp only;omega,by dsimp only;omega,by dsimp only;omega,by dsimp only;omega,hnr⟩ ⟨⟨_,rfl,xaq ?_⟩,⟨⟨_,rfl,LeA.glg ?_⟩,trivial⟩⟩ ⟨?_,⟨zab ?_,trivial⟩⟩ (fun x=>rfl) (fun z hg1=>?_);iterate 2 focus (first|rfl|(simp_all[zaR];done))
   focus (first|rfl|(simp[getH];done))
   focus (first|rfl|(simp_all[zaR];done))
   obtain⟨s1,_,s3,s4,s5,s6,s7⟩:=id hg1;refine evc [14,108] [2,8,17] ?_;refine sq ?_ ?_<;>intro h6 h6p h6s<;>(try simp only[Q,Pat.cs_len] at h6p);refine xaV sl26 .none rfl rfl rfl rfl (zaE (by omega)) rfl ?_;refine evs [14,108] [] ?_;refine ab 3016 tz28 ?_;refine evs [14,108] [] ?_;refine so ty28 ?_;refine tv ?_;refine xaV zaW .none rfl rfl rfl rfl (zar (by omega)) rfl ?_;refine evd [14,108] [] ?_;refine ar ?_;refine wc zq3 (zeg hw n (a:=(nth (zag w ⟨a,k⟩ p) z.1).data) (k:=(nth (zag w ⟨a,k⟩ p) z.1).index) (c:=z.2.2) (p:=nth p.kids z.1) (by omega) (by omega) (hin _ (zac (by omega))) (Pats.ok_mem hok.2 _ (zac (by omega))) (by omega) (by omega)) rfl rfl ?_;refine evd [14,108] [] ?_;refine dr ?_;refine sq ?_ ?_<;>intro h7 h7p h7s;refine rn [(950,some (.box [.d (.i (finV (zbu (zaT w n) (decide (p.op=5)) (zag w ⟨a,k⟩ p) p.kids 0 (zaR ⟨a,k⟩ p) (c+1))).2)]))] (r2 rfl rfl) (.tup (.cons (.nild ?_) (.cons (.eqd ?_) .nil))) ⟨rfl,rfl⟩ (SubO.get ⟨.inr ?_,⟨.inl rfl,trivial⟩⟩) (zay rfl);rotate_left 3;refine xal ?_;refine xaB 7 [(93,.d (.bool (decide (p.op=5/\z.1=1))))] [87,88,89,90,91,92] ?_ ?_;refine evs [14,108] [] ?_;refine sq ?_ ?_<;>intro h8 h8p h8s;exact jnb rfl;exact jnb rfl;refine xaA ?_;refine evs [14,108] [] ?_;refine sq ?_ ?_<;>intro h9 h9p h9s<;>(try simp only[Q,Pat.cs_len] at h9p);refine Walk.call (cr:=[]) zuJ (zhM (by omega) (by have hz:=(zgj w n ⟨(nth (zag w ⟨a,k⟩ p) z.1).data,(nth (zag w ⟨a,k⟩ p) z.1).index⟩ (nth p.kids z.1) z.2.2).2;omega)) rfl .none rfl rfl (.cons (.gl _ _) (.cons (.refl _) .nil)) trivial rfl rfl rfl ?_;refine evs [14,108] [] ?_;refine sq ?_ ?_<;>intro h10 h10p h10s<;>(try simp only[Q,Pat.cs_len] at h10p);refine rn [(950,some (.box [.d (.i (finV (zbu (zaT w n) (decide (p.op=5)) (zag w ⟨a,k⟩ p) p.kids 0 (zaR ⟨a,k⟩ p) (c+1))).2)]))] (r2 rfl rfl) (.tup (.cons (.nild ?_) (.cons (.eqd ?_) .nil))) ⟨rfl,rfl⟩ (SubO.get ⟨.inr ?_,⟨.inl rfl,trivial⟩⟩) (zay rfl);rotate_left 3;refine ar ?_;refine xah ((zcD w n ⟨a,k⟩ p z)) ⟨(hg1.next hl (by omega) (by simp_all) (fun ho=>by simp_all)),(by unfold zcD;dsimp only;omega),sx ⟨⟨_,rfl,xaq ?_⟩,⟨⟨_,rfl,LeA.glg ?_⟩,trivial⟩⟩ ⟨?_,⟨zab ?_,trivial⟩⟩⟩;iterate 2 focus (first|rfl|(simp_all[zaR];done))
   focus (first|rfl|(simp[getH];done))
   focus (first|rfl|(simp_all[zaR];done))
   refine ap zdg zqR rfl rfl rfl (by simp) (by first|(simp;done)|(have hz:=(zgj w n ⟨(nth (zag w ⟨a,k⟩ p) z.1).data,(nth (zag w ⟨a,k⟩ p) z.1).index⟩ (nth p.kids z.1) z.2.2).2;simp;omega)) ?_;refine asg ?_;refine tv ?_;refine ar ?_;refine xah ((zcD w n ⟨a,k⟩ p z)) ⟨(hg1.next hl (by omega) (by simp_all) (fun ho=>by simp_all)),(by unfold zcD;dsimp only;omega),sx ⟨⟨_,rfl,xaq ?_⟩,⟨⟨_,rfl,LeA.glg ?_⟩,trivial⟩⟩ ⟨?_,⟨zab ?_,trivial⟩⟩⟩;iterate 2 focus (first|rfl|(simp_all[zaR];done)|(unfold zcD;dsimp only;rw[if_neg (by simp_all)];simp;done))
   focus (first|rfl|(simp[getH];done))
   focus (first|rfl|(simp_all[zaR];done)|(unfold zcD;dsimp only;rw[if_neg (by simp_all)];simp;done))
   refine ab 3019 zxw ?_;refine tv ?_;refine xak (ι:=List (Vt)×List (Vt)) hk (fun x=>[(101,.d (.i (x.1.length:Int)))]) [10,11,21,102,103,104,105,106,107,108,109,110,111,112] (fun x=>[(3019,some (.box (metA (x.1.map Vt.var))))]) (fun x=>x.1++x.2=z.2.1/\(x.1.map Vt.var).Nodup) (fun x=>x.2.length) ([],z.2.1) ⟨by simp,by simp⟩ ⟨⟨_,rfl,xaq ?_⟩,trivial⟩ ⟨?_,trivial⟩ (fun x=>rfl) (fun x hg2=>?_);focus (first|rfl|omega)
   focus (first|rfl|(simp[getH];done))
   obtain⟨pre,rest⟩:=x;dsimp only at hg2 ⊢;refine evc [14,108] [2,8,17] ?_;refine sq ?_ ?_<;>intro h11 h11p h11s<;>(try simp only[Q,Pat.cs_len] at h11p);rcases rest with _|⟨y,rest⟩
   ·exfalso;simp_all
   have hy:=s7 y (by rw[<-hg2.1];simp);refine xaY zdg .none rfl rfl rfl rfl (zaI hg2.1) rfl ?_;refine evs [14,108] [] ?_;refine ab 3021 zqN ?_;refine so zxv ?_;refine tv ?_;refine xaW (i:=y.var.toNat) zqw .none rfl rfl rfl (Int.toNat_of_nonneg hy.1).symm (by omega) ?_;refine xa1 ty4 .none rfl rfl rfl ((by simpa using zrF hy.1 hy.2)) ?_;refine tv ?_;refine sq ?_ ?_<;>intro h12 h12p h12s<;>(try simp only[Q,Pat.cs_len] at h12p);refine rn [(950,some (.box [.d (.i (finV (zbu (zaT w n) (decide (p.op=5)) (zag w ⟨a,k⟩ p) p.kids 0 (zaR ⟨a,k⟩ p) (c+1))).2)]))] (r2 rfl rfl) (.tup (.cons (.nild ?_) (.cons (.eqd ?_) .nil))) ⟨rfl,rfl⟩ (SubO.get ⟨.inr ?_,⟨.inl rfl,trivial⟩⟩) (zay rfl);rotate_left 3;refine xaW (i:=y.var.toNat) zqw .none rfl rfl rfl (Int.toNat_of_nonneg hy.1).symm (by omega) ?_;refine Walk.store ty4 .none rfl rfl rfl rfl rfl rfl (by simp) ((by simpa using zrG hy.1 hy.2)) ?_;refine tv ?_;refine ar ?_;refine xah ((pre++[y],rest)) ⟨⟨(by have hz:=hg2.1;rw[<-hz];simp),(znP hg2.2 (by simp_all))⟩,(by simp),sx ⟨⟨_,rfl,xaq ?_⟩,trivial⟩ ⟨?_,trivial⟩⟩;focus (first|rfl|(simp;done)|omega)
   focus (first|rfl|(simp[getH];done))
   have hrest:rest=[]:=by
    rcases rest with _|⟨a,b⟩
    ·rfl
    ·exfalso;have hz:=congrArg List.length (hg2.1);simp only[xaa,xab,xac] at hz;omega
   subst hrest;refine rn [(950,some (.box [.d (.i (finV (zbu (zaT w n) (decide (p.op=5)) (zag w ⟨a,k⟩ p) p.kids 0 (zaR ⟨a,k⟩ p) (c+1))).2)]))] (r2 rfl rfl) (.tup (.cons (.gld ?_) (.cons (.eqd ?_) .nil))) ⟨rfl,rfl⟩ (SubO.get ⟨.inr ?_,⟨.inl rfl,trivial⟩⟩) (zay rfl);rotate_left 3;try simp only[Q,Pat.cs_len] at h5p
   refine xak (ι:=Nat×List Vt×Int) hk (fun z=>[(62,.d (.i (z.1:Int))),(14,.gl 5 (z.2.1.map Vt.c))]) [10,11,15,16,17,18,63,64,65,66,67,68,69,70,71,72,73,74,75,76,77,78,79,80,81,82,83,84,85,86,87,88,89,90,91,92,93,94,95,96,97,98] (fun z=>[(950,some (.box [.d (.i z.2.2)])),(5,some (.tok ((z.2.1.map Vt.c)).length 3))]) (fun z=>GoodS w n ⟨a,k⟩ p c z) (fun z=>p.kids.length-z.1) (0,zaR ⟨a,k⟩ p,c+1) ⟨by simp,by simp,by dsimp only;omega,by dsimp only;omega,by dsimp only;omega,by dsimp only;omega,hnr⟩ ⟨⟨_,rfl,xaq ?_⟩,⟨⟨_,rfl,LeA.glg ?_⟩,trivial⟩⟩ ⟨?_,⟨zab ?_,trivial⟩⟩ (fun x=>rfl) (fun z hg1=>?_);iterate 2 focus (first|rfl|(simp_all[zaR];done))
   focus (first|rfl|(simp[getH];done))
   focus (first|rfl|(simp_all[zaR];done))
   obtain⟨s1,_,s3,s4,s5,s6,s7⟩:=id hg1;refine evc [14,108] [2,8,17] ?_;refine sq ?_ ?_<;>intro h13 h13p h13s<;>(try simp only[Q,Pat.cs_len] at h13p);refine xaV sl26 .none rfl rfl rfl rfl (zaE (by omega)) rfl ?_;refine evs [14,108] [] ?_;refine ab 3016 tz28 ?_;refine evs [14,108] [] ?_;refine so ty28 ?_;refine tv ?_;refine xaV zaW .none rfl rfl rfl rfl (zar (by omega)) rfl ?_;refine evd [14,108] [] ?_;refine ar ?_;refine wc zq3 (zeg hw n (a:=(nth (zag w ⟨a,k⟩ p) z.1).data) (k:=(nth (zag w ⟨a,k⟩ p) z.1).index) (c:=z.2.2) (p:=nth p.kids z.1) (by omega) (by omega) (hin _ (zac (by omega))) (Pats.ok_mem hok.2 _ (zac (by omega))) (by omega) (by omega)) rfl rfl ?_;refine evd [14,108] [] ?_;refine dr ?_;refine sq ?_ ?_<;>intro h14 h14p h14s<;>(try simp only[Q,Pat.cs_len] at h14p);refine rn [(950,some (.box [.d (.i (finV (zbu (zaT w n) (decide (p.op=5)) (zag w ⟨a,k⟩ p) p.kids 0 (zaR ⟨a,k⟩ p) (c+1))).2)]))] (r2 rfl rfl) (.tup (.cons (.nild ?_) (.cons (.eqd ?_) .nil))) ⟨rfl,rfl⟩ (SubO.get ⟨.inr ?_,⟨.inl rfl,trivial⟩⟩) (zay rfl);rotate_left 3;refine xal ?_;refine xaB 7 [(93,.d (.bool (decide (p.op=5/\z.1=1))))] [87,88,89,90,91,92] ?_ ?_;refine evs [14,108] [] ?_;refine sq ?_ ?_<;>intro h15 h15p h15s<;>(try simp only[Q,Pat.cs_len] at h15p);exact jnb rfl;exact jnb rfl;refine xaA ?_;refine evs [14,108] [] ?_;refine sq ?_ ?_<;>intro h16 h16p h16s<;>(try simp only[Q,Pat.cs_len] at h16p);refine Walk.call (cr:=[]) zuJ (zhM (by omega) (by have hz:=(zgj w n ⟨(nth (zag w ⟨a,k⟩ p) z.1).data,(nth (zag w ⟨a,k⟩ p) z.1).index⟩ (nth p.kids z.1) z.2.2).2;omega)) rfl .none rfl rfl (.cons (.gl _ _) (.cons (.refl _) .nil)) trivial rfl rfl rfl ?_;refine evs [14,108] [] ?_;refine sq ?_ ?_<;>intro h17 h17p h17s<;>(try simp only[Q,Pat.cs_len] at h17p);refine rn [(950,some (.box [.d (.i (finV (zbu (zaT w n) (decide (p.op=5)) (zag w ⟨a,k⟩ p) p.kids 0 (zaR ⟨a,k⟩ p) (c+1))).2)]))] (r2 rfl rfl) (.tup (.cons (.nild ?_) (.cons (.eqd ?_) .nil))) ⟨rfl,rfl⟩ (SubO.get ⟨.inr ?_,⟨.inl rfl,trivial⟩⟩) (zay rfl);rotate_left 3;refine ar ?_;refine xah ((zcD w n ⟨a,k⟩ p z)) ⟨(hg1.next hl (by omega) (by simp_all) (fun ho=>by simp_all)),(by unfold zcD;dsimp only;omega),sx ⟨⟨_,rfl,xaq ?_⟩,⟨⟨_,rfl,LeA.glg ?_⟩,trivial⟩⟩ ⟨?_,⟨zab ?_,trivial⟩⟩⟩;iterate 2 focus (first|rfl|(simp_all[zaR];done)|(unfold zcD;dsimp only;rw[if_pos (by simp_all)];done))
   focus (first|rfl|(simp[getH];done))
   focus (first|rfl|(simp_all[zaR];done)|(unfold zcD;dsimp only;rw[if_pos (by simp_all)];done))
   refine ap zdg zqR rfl rfl rfl (by simp) (by first|(simp;done)|(have hz:=(zgj w n ⟨(nth (zag w ⟨a,k⟩ p) z.1).data,(nth (zag w ⟨a,k⟩ p) z.1).index⟩ (nth p.kids z.1) z.2.2).2;simp;omega)) ?_;refine asg ?_;refine tv ?_;refine ar ?_;refine xah ((zcD w n ⟨a,k⟩ p z)) ⟨(hg1.next hl (by omega) (by simp_all) (fun ho=>by simp_all)),(by unfold zcD;dsimp only;omega),sx ⟨⟨_,rfl,xaq ?_⟩,⟨⟨_,rfl,LeA.glg ?_⟩,trivial⟩⟩ ⟨?_,⟨zab ?_,trivial⟩⟩⟩;iterate 2 focus (first|rfl|(simp_all[zaR];done)|(unfold zcD;dsimp only;rw[if_neg (by simp_all)];simp;done))
   focus (first|rfl|(simp[getH];done))
   focus (first|rfl|(simp_all[zaR];done)|(unfold zcD;dsimp only;rw[if_neg (by simp_all)];simp;done))
   refine ab 3019 zxw ?_;refine tv ?_;refine xak (ι:=List (Vt)×List (Vt)) hk (fun x=>[(101,.d (.i (x.1.length:Int)))]) [10,11,21,102,103,104,105,106,107,108,109,110,111,112] (fun x=>[(3019,some (.box (metA (x.1.map Vt.var))))]) (fun x=>x.1++x.2=z.2.1/\(x.1.map Vt.var).Nodup) (fun x=>x.2.length) ([],z.2.1) ⟨by simp,by simp⟩ ⟨⟨_,rfl,xaq ?_⟩,trivial⟩ ⟨?_,trivial⟩ (fun x=>rfl) (fun x hg2=>?_);focus (first|rfl|omega)
   focus (first|rfl|(simp[getH];done))
   obtain⟨pre,rest⟩:=x;dsimp only at hg2 ⊢;refine evc [14,108] [2,8,17] ?_;refine sq ?_ ?_<;>intro h18 h18p h18s<;>(try simp only[Q,Pat.cs_len] at h18p);rcases rest with _|⟨y,rest⟩
   ·exfalso;simp_all
   have hy:=s7 y (by rw[<-hg2.1];simp);refine xaY zdg .none rfl rfl rfl rfl (zaI hg2.1) rfl ?_;refine evs [14,108] [] ?_;refine ab 3021 zqN ?_;refine so zxv ?_;refine tv ?_;refine xaW (i:=y.var.toNat) zqw .none rfl rfl rfl (Int.toNat_of_nonneg hy.1).symm (by omega) ?_;refine xa1 ty4 .none rfl rfl rfl ((by simpa using zrF hy.1 hy.2)) ?_;refine tv ?_;refine sq ?_ ?_<;>intro h19 h19p h19s<;>(try simp only[Q,Pat.cs_len] at h19p);refine rn [(950,some (.box [.d (.i (finV (zbu (zaT w n) (decide (p.op=5)) (zag w ⟨a,k⟩ p) p.kids 0 (zaR ⟨a,k⟩ p) (c+1))).2)]))] (r2 rfl rfl) (.tup (.cons (.nild ?_) (.cons (.eqd ?_) .nil))) ⟨rfl,rfl⟩ (SubO.get ⟨.inr ?_,⟨.inl rfl,trivial⟩⟩) (zay rfl);rotate_left 3;refine xaW (i:=y.var.toNat) zqw .none rfl rfl rfl (Int.toNat_of_nonneg hy.1).symm (by omega) ?_;refine Walk.store ty4 .none rfl rfl rfl rfl rfl rfl (by simp) ((by simpa using zrG hy.1 hy.2)) ?_;refine tv ?_;refine ar ?_;refine xah ((pre++[y],rest)) ⟨⟨(by have hz:=hg2.1;rw[<-hz];simp),(znP hg2.2 (by simp_all))⟩,(by simp),sx ⟨⟨_,rfl,xaq ?_⟩,trivial⟩ ⟨?_,trivial⟩⟩;focus (first|rfl|(simp;done)|omega)
   focus (first|rfl|(simp[getH];done))
   have hrest:rest=[]:=by
    rcases rest with _|⟨a,b⟩
    ·rfl
    ·exfalso;have hz:=congrArg List.length (hg2.1);simp only[xaa,xab,xac] at hz;omega
   subst hrest;refine rn [(950,some (.box [.d (.i (finV (zbu (zaT w n) (decide (p.op=5)) (zag w ⟨a,k⟩ p) p.kids 0 (zaR ⟨a,k⟩ p) (c+1))).2)]))] (r2 rfl rfl) (.tup (.cons (.gld ?_) (.cons (.eqd ?_) .nil))) ⟨rfl,rfl⟩ (SubO.get ⟨.inr ?_,⟨.inl rfl,trivial⟩⟩) (zay rfl);rotate_left 3;all_goals (((first|(rw[hg1.none hl (by omega) (by assumption)];first|done|rfl)|(rw[hg1.bad hl (by omega) (by assumption) (by assumption) (by assumption)];first|done|rfl)|(rw[hg1.fin hl (by omega),if_neg (by rw[zvg hg2.1 (by assumption)];simp)];first|done|rfl)|(rw[hg1.fin hl (by omega),if_pos (by have hz:=hg2.1;rw[List.append_nil] at hz;rw[<-hz];exact decide_eq_true hg2.2)];first|done|rfl));done))
  ·have hopf:okP w ⟨a,k⟩ p=false:=by simpa using hop
   have e:zaT w (n+1) ⟨a,k⟩ p c=(none,c+1):=by unfold zaT;rw[if_neg h60,if_neg hop]
   rw[e];rw[hopf] at hsh;refine bd Tryz.f183 114 [] [2] fun w0 F0 own kept hk=>?_;refine bx 3006 ?_;refine bx 3007 ?_;refine ev ?_;refine ar ?_;refine so ty3 ?_;refine tv ?_;refine xal ?_;refine xaB 8 [(34,.d (.bool (false)))] [27,28,29,30,31,32,33] ?_ ?_;refine ev ?_;refine sq ?_ ?_<;>intro h1 h1p h1s;exact jnb rfl;exact jnb rfl;refine xaA ?_;refine tv ?_;refine sq ?_ ?_<;>intro h2 h2p h2s;exact absurd h2 (by simp);refine wc zq2 (hsh) rfl rfl ?_;refine ev ?_;refine sq ?_ ?_<;>intro h3 h3p h3s;refine rn [(950,some (.box [.d (.i (c+1))]))] (r2 rfl rfl) (.tup (.cons (.nild ?_) (.cons (.eqd ?_) .nil))) ⟨rfl,rfl⟩ (SubO.get ⟨.inr ?_,⟨.inl rfl,trivial⟩⟩) (zay rfl);rotate_left 3;exact absurd h3 (by simp);all_goals (first|((rfl);done)|(rfl))
end Go.Proofs.YtpgdedpljcedpaaGreat
namespace Go.Proofs.YtpgdedpljcedpaaGreat
open Go
set_option linter.unusedSimpArgs false
set_option linter.unusedVariables false
set_option maxRecDepth 100000
set_option maxHeartbeats 2000000
abbrev dPtr (f:Nat->Nat):D:= .ptr (tabD 16 f) 0
abbrev sPtr (w:List Data) (f:Nat->Nat):D:= .ptr [zal w,dPtr f] 0
theorem zlO {n:Nat}{f:Nat->Nat}{a k:Int} (h:InS n ⟨a,k⟩) (hn:n<=16):
  FnD Tryz.prog 128 [.ref 71 0,.agg [.d (.i a),.d (.i k)]] [(71,some (.box (tabC 16 f)))] (.d (.i (dv f ⟨a,k⟩))) []:=by
 have hs:=h.facts;refine bd Tryz.f128 17 [16] [] fun w0 F0 own kept hk=>?_;refine Walk.box (id:=3003) .none rfl rfl rfl (by first|rfl|(simp only[zaA,occH,occE,Res.ids,xag,List.nil_append,AV.idsL,AV.ids,zak,zaj,zas,zaQ,xae,List.map_nil,upC,zaG];rfl)) (by first|rfl|(simp only[zaA,occH,occE,Res.ids,xag,List.nil_append,AV.idsL,AV.ids,zak,zaj,zas,zaQ,xae,List.map_nil,upC,zaG];rfl)) (by first|rfl|(simp only[zaA,occH,occE,Res.ids,xag,List.nil_append,AV.idsL,AV.ids,zak,zaj,zas,zaQ,xae,List.map_nil,upC,zaG];rfl)) (by first|rfl|(simp only[zaA,occH,occE,Res.ids,xag,List.nil_append,AV.idsL,AV.ids,zak,zaj,zas,zaQ,xae,List.map_nil,upC,zaG];rfl)) ?_;refine evs [16] [] ?_;refine sq ?_ ?_<;>intro h1 h1p h1s<;>(try simp only[Q] at h1p);refine rn [] (r1 rfl) (.eqd ?_) ⟨rfl,rfl⟩ (SubH.get ⟨rfl,trivial⟩) (fun _ h=>h);rotate_left;refine xaW (i:=a.toNat) zqv .none rfl rfl rfl (by have:=hs h1p;omega) (by have:=hs h1p;omega) ?_;refine xaW (i:=k.toNat) ztA .none rfl rfl rfl (by have:=hs h1p;omega) (by have:=hs h1p;omega) ?_;refine xa1 ty3 .none rfl rfl rfl ((zlw (s:=zcE ⟨a,k⟩) (by have:=hs h1p;omega) (by have:=hs h1p;omega))) ?_;refine evd [16] [] ?_;refine dr ?_;refine rn [] (r1 rfl) (.eqd ?_) ⟨rfl,rfl⟩ (SubH.get ⟨rfl,trivial⟩) (fun _ h=>h);rotate_left;all_goals (first|(rw[znc (by assumption)];rfl)|(rw[znb (by assumption)]))
theorem znp {n:Nat}{f:Nat->Nat}{a k:Int} (h:InS n ⟨a,k⟩) (hn:n<=16):
  FnD Tryz.prog 128 [.d (dPtr f),.agg [.d (.i a),.d (.i k)]] [] (.d (.i (dv f ⟨a,k⟩))) []:=by
 have hs:=h.facts;refine bd Tryz.f128 17 [16] [] fun w0 F0 own kept hk=>?_;refine bx 3003 ?_;refine evs [16] [] ?_;refine sq ?_ ?_<;>intro h1 h1p h1s<;>(try simp only[Q] at h1p);refine rq ?_;rotate_left;refine xaX (i:=a.toNat) zqv .none rfl rfl rfl (by have:=hs h1p;omega) (by have:=hs h1p;omega) ?_;refine xaX (i:=k.toNat) ztA .none rfl rfl rfl (by have:=hs h1p;omega) (by have:=hs h1p;omega) ?_;refine xa3 ty3 .none rfl rfl (zwM (s:=zcE ⟨a,k⟩) (by have:=hs h1p;omega) (by have:=hs h1p;omega)) ?_;refine evd [16] [] ?_;refine dr ?_;refine rq ?_;rotate_left;all_goals (first|(rw[znc (by assumption)];rfl)|(rw[znb (by assumption)]))
theorem zno {w:List Data} (hw:WT w){n:Nat}{f:Nat->Nat}{a k c:Int} (ht:TyIn w.length ⟨a,k⟩) (hc:c∈zah w ⟨a,k⟩) (hn:n<=16) (hb:∀s,f s<=100000) (hin:∀u∈zaa w ⟨a,k⟩ c,InS n u):
  FnD Tryz.prog 145 [.ref 71 0,.d (zal w),.agg [.d (.i a),.d (.i k)],.d (.i c)] [(71,some (.box (tabC 16 f)))] (.d (.i (most w f ⟨a,k⟩ c))) []:=by
 have hl:=zhC hw ht hc;have hd:=zqE hb (by omega);refine bd Tryz.f145 33 [] [] fun w0 F0 own kept hk=>?_;refine Walk.box (id:=3006) .none rfl rfl rfl (by first|rfl|(simp only[zaA,occH,occE,Res.ids,xag,List.nil_append,AV.idsL,AV.ids,zak,zaj,zas,zaQ,xae,List.map_nil,upC,zaG];rfl)) (by first|rfl|(simp only[zaA,occH,occE,Res.ids,xag,List.nil_append,AV.idsL,AV.ids,zak,zaj,zas,zaQ,xae,List.map_nil,upC,zaG];rfl)) (by first|rfl|(simp only[zaA,occH,occE,Res.ids,xag,List.nil_append,AV.idsL,AV.ids,zak,zaj,zas,zaQ,xae,List.map_nil,upC,zaG];rfl)) (by first|rfl|(simp only[zaA,occH,occE,Res.ids,xag,List.nil_append,AV.idsL,AV.ids,zak,zaj,zas,zaQ,xae,List.map_nil,upC,zaG];rfl)) ?_;refine ev ?_;refine Walk.call (cr:=[]) zfE (zds hw ht hc) rfl .none rfl rfl (LeL.refl _) trivial rfl (by first|rfl|(simp only[za8,List.all_cons,List.all_nil,zcf,zbU,AV.idsL,AV.ids,zak,zaj,xae,List.map_nil,zaG];rfl)) (by first|rfl|(simp only[zaA,occH,occE,Res.ids,xag,List.nil_append,AV.idsL,AV.ids,zak,zaj,zas,zaQ,xae,List.map_nil,upC,zaG];rfl)) ?_;refine ev ?_;refine xak (ι:=List (Ty)×List (Ty)×(Nat)) hk (fun x=>[(18,.d (.i (x.1.length:Int))),(9,.d (.i (x.2.2:Int)))]) [8,11,12,19,20,21,22,23,24,25,26,27,28,29,30] (fun x=>[]) (fun x=>x.1++x.2.1=zaa w ⟨a,k⟩ c/\x.2.2<=100000/\zbC f x.2.2 x.2.1=zbC f 0 (zaa w ⟨a,k⟩ c)) (fun x=>x.2.1.length) ([],zaa w ⟨a,k⟩ c,0) ⟨by simp,by simp,rfl⟩ ⟨⟨_,rfl,xaq ?_⟩,⟨⟨_,rfl,xaq ?_⟩,trivial⟩⟩ trivial (fun x=>rfl) (fun x hg1=>?_);iterate 2 focus (first|rfl|(simp;done))
 obtain⟨pre,rest,m⟩:=x;dsimp only at hg1 ⊢;refine evc [] [] ?_;refine sq ?_ ?_<;>intro h1 h1p h1s<;>(try simp only[Q] at h1p);rcases rest with _|⟨y,rest⟩
 ·exfalso;simp_all
 have hdy:=hd y;have hye:dv f ⟨y.data,y.index⟩=dv f y:=rfl;refine xaV zaW .none rfl rfl rfl rfl (zaI hg1.1) rfl ?_;refine ev ?_;refine Walk.alloc (id:=3011) tz25 rfl .none rfl (by first|rfl|(simp only[zaA,occH,occE,Res.ids,xag,List.nil_append,AV.idsL,AV.ids,zak,zaj,zas,zaQ,xae,List.map_nil,upC,zaG];rfl)) (by first|rfl|(simp only[zaA,occH,occE,Res.ids,xag,List.nil_append,AV.idsL,AV.ids,zak,zaj,zas,zaQ,xae,List.map_nil,upC,zaG];rfl)) (by first|rfl|(simp only[zaA,occH,occE,Res.ids,xag,List.nil_append,AV.idsL,AV.ids,zak,zaj,zas,zaQ,xae,List.map_nil,upC,zaG];rfl)) ?_;refine so ty25 ?_;refine tv ?_;refine Walk.call (cr:=[]) zkd (zlO (f:=f) (a:=y.data) (k:=y.index) (hin y (by rw[<-hg1.1];simp)) hn) rfl .none rfl rfl (LeL.refl _) ⟨rfl,trivial⟩ rfl (by first|rfl|(simp only[za8,List.all_cons,List.all_nil,zcf,zbU,AV.idsL,AV.ids,zak,zaj,xae,List.map_nil,zaG];rfl)) (by first|rfl|(simp only[zaA,occH,occE,Res.ids,xag,List.nil_append,AV.idsL,AV.ids,zak,zaj,zas,zaQ,xae,List.map_nil,upC,zaG];rfl)) ?_;refine ev ?_;refine sq ?_ ?_<;>intro h2 h2p h2s<;>(try simp only[Q] at h2p);refine rn [] (r1 rfl) (.eqd ?_) ⟨rfl,rfl⟩ (SubH.get ⟨rfl,trivial⟩) (fun _ h=>h);rotate_left;refine xa4 .none rfl rfl rfl ?_;refine ev ?_;refine ar ?_;refine xah ((pre++[y],rest,max m (dv f y))) ⟨⟨(by have hz:=hg1.1;rw[<-hz];simp),⟨(by have:=hd y;dsimp only;omega),(by rw[<-hg1.2.2];simp only[zbC];rw[if_neg (by have:=hd y;omega)])⟩⟩,(by simp),sx ⟨⟨_,rfl,xaq ?_⟩,⟨⟨_,rfl,xaq ?_⟩,trivial⟩⟩ trivial⟩;iterate 2 focus (first|rfl|(simp;done)|(dsimp only;omega))
 have hrest:rest=[]:=by
  rcases rest with _|⟨a,b⟩
  ·rfl
  ·exfalso;have hz:=congrArg List.length (hg1.1);simp only[xaa,xab,xac] at hz;omega
 subst hrest;refine ar ?_;refine rn [] (r1 rfl) (.eqd ?_) ⟨rfl,rfl⟩ (SubH.get ⟨rfl,trivial⟩) (fun _ h=>h);rotate_left;all_goals (refine congrArg D.i ?_;unfold most;rw[<-hg1.2.2];first|(simp only[zbC];rw[if_pos (by omega)];rfl)|(simp only[zbC];omega))
theorem zh1 {i j:Nat} (h:j<4):tyS (i*4+j)=⟨(i:Int),(j:Int)⟩:=by
 unfold tyS;rw[show(i*4+j) / 4=i by omega,show(i*4+j) % 4=j by omega]
theorem zsP {w:List Data}{k s:Nat}{pre:List Int}:Bet (zbj w k) (rowT w k s pre):=(zp5 _ _).trans (zoW _ _)
theorem zk9 {w:List Data}{g f:Nat->Nat}{s:Nat}{c:Int} (hB:Bet g f)
  (h:decide ((0:Int)<(most w f (tyS s) c:Int)/\((f s:Int)=0\/(most w f (tyS s) c:Int)<(f s:Int)))=true):Strict g (zbN w s f c):=by
 rw[zeD h];rw[decide_eq_true_eq] at h;refine⟨s,by unfold updF;rw[if_pos rfl];omega, ?_⟩;unfold updF;rw[if_pos rfl];rcases Nat.eq_zero_or_pos (g s) with h0|h0
 ·exact .inl h0
 ·have:=hB s h0;right;omega
theorem znk {w:List Data} (hw:WT w){i j:Nat} (hi:i<w.length) (hj:j<4):FnD Tryz.prog 105 [.d (zal w),.agg [.d (.i (i:Int)),.d (.i (j:Int))]] [] (.d (zcy (zaO w (tyS (i*4+j))))) []:=by
 rw[<-zjO,zh1 hj];exact zeO hw (.inr ⟨i,rfl,hi⟩)
theorem znq {w:List Data}{f:Nat->Nat}{i j:Nat} (hi:i<w.length) (h4:w.length<=4) (hj:j<4):
  FnD Tryz.prog 128 [.ref 71 0,.agg [.d (.i (i:Int)),.d (.i (j:Int))]] [(71,some (.box (tabC 16 f)))] (.d (.i (f (i*4+j)))) []:=by
 have h:=zlO (n:=w.length*4) (f:=f) (a:=(i:Int)) (k:=(j:Int)) (.inr ⟨by simp only[zcE,Int.toNat_natCast];omega,by simp only[zcE,Int.toNat_natCast];exact zh1 hj⟩) (by omega);have e:zcE ⟨(i:Int),(j:Int)⟩=i*4+j:=by simp only[zcE,Int.toNat_natCast]
 rwa [znb (by omega),e] at h
theorem zoO {w:List Data} (hd:Dp w){f:Nat->Nat}{i j:Nat}{c:Int} (hi:i<w.length) (hj:j<4) (hc:c∈zaO w (tyS (i*4+j))) (hb:∀s,f s<=100000):
  FnD Tryz.prog 145 [.ref 71 0,.d (zal w),.agg [.d (.i (i:Int)),.d (.i (j:Int))],.d (.i c)] [(71,some (.box (tabC 16 f)))] (.d (.i (most w f (tyS (i*4+j)) c))) []:=by
 have h4:=hd.four;have hcl:=hd.cl (i*4+j) (by omega) c hc;rw[<-zjO,zh1 hj] at hc;rw[zh1 hj] at hcl ⊢;exact zno hd.wt (.inr ⟨i,rfl,hi⟩) hc (n:=w.length*4) (by omega) hb hcl
theorem zmk {w:List Data} (hd:Dp w):FnD Tryz.prog 91 [.d (zal w)] [] (.d (dPtr (zai w))) []:=by
 have hw:=hd.wt;have hw4:=hd.four;have hlw:((w.map Data.c).length:Int)=w.length:=by simp
 refine bd Tryz.f91 64 [] [16,20] fun w0 F0 own kept hk=>?_;refine Walk.buildZ zz2 zqv .none rfl ?_;refine Walk.box (id:=71) .none rfl rfl rfl (by first|rfl|(simp only[zaA,occH,occE,Res.ids,xag,List.nil_append,AV.idsL,AV.ids,zak,zaj,zas,zaQ,xae,List.map_nil,upC,zaG];rfl)) (by first|rfl|(simp only[zaA,occH,occE,Res.ids,xag,List.nil_append,AV.idsL,AV.ids,zak,zaj,zas,zaQ,xae,List.map_nil,upC,zaG];rfl)) (by first|rfl|(simp only[zaA,occH,occE,Res.ids,xag,List.nil_append,AV.idsL,AV.ids,zak,zaj,zas,zaQ,xae,List.map_nil,upC,zaG];rfl)) (by first|rfl|(simp only[zaA,occH,occE,Res.ids,xag,List.nil_append,AV.idsL,AV.ids,zak,zaj,zas,zaQ,xae,List.map_nil,upC,zaG];rfl)) ?_;refine ev ?_;refine xak (ι:=Nat×Bool) hk (fun o=>[(4,.d (.bool o.2))]) [5,6,7,9,10,13,14,15,16,17,18,19,20,21,22,23,24,25,26,27,28,29,30,31,32,33,34,35,36,37,38,39,40,41,42,43,44,45,46,47,48,49,50,51,52,53,54,55,56,57,58,59,60,61,62] (fun o=>[(71,some (.box (tabC 16 (zbj w o.1))))]) (fun o=>(o.2=false->zbj w o.1=zai w)/\(o.2=true->o.1<=w.length*4+1)) (fun o=>if o.2 then w.length*4+2-o.1 else 0) (0,true) ⟨by simp,by simp⟩ ⟨⟨_,rfl,xap ?_⟩,trivial⟩ ⟨?_,trivial⟩ (fun x=>rfl) (fun o hg1=>?_);focus (first|rfl|(simp;done))
 focus (first|rfl|(have e:y.1=w.length:=(by omega);rw[e];rfl))
 refine evc [] [16,20] ?_;refine sq ?_ ?_<;>intro h1 h1p h1s<;>(try simp only[Q] at h1p);refine xak (ι:=Nat×Bool) hk (fun y=>[(16,.d (.i (y.1:Int))),(4,.d (.bool y.2))]) [5,6,7,9,10,17,18,19,20,21,22,23,24,25,26,27,28,29,30,31,32,33,34,35,36,37,38,39,40,41,42,43,44,45,46,47,48,49,50,51,52,53,54,55,56,57,58,59,60,61,62] (fun y=>[(71,some (.box (tabC 16 (midT w o.1 (y.1*4)))))]) (fun y=>y.1<=w.length/\(y.2=false->midT w o.1 (y.1*4)=zbj w o.1)/\(y.2=true->Strict (zbj w o.1) (midT w o.1 (y.1*4)))) (fun y=>w.length-y.1) (0,false) ⟨by simp,fun _=>rfl,by simp⟩ ⟨⟨_,rfl,xaq ?_⟩,⟨⟨_,rfl,xap ?_⟩,trivial⟩⟩ ⟨?_,trivial⟩ (fun x=>rfl) (fun y hg2=>?_);iterate 2 focus (first|rfl|(simp;done))
 focus (first|rfl|(have e:z.1=4:=(by omega);rw[e,<-Nat.succ_mul];rfl))
 have ho:=hg1.2 h1s;refine evc [] [16,20] ?_;refine sq ?_ ?_<;>intro h2 h2p h2s<;>(try simp only[Q] at h2p);refine xak (ι:=Nat×Bool) hk (fun z=>[(6,.d (.i (z.1:Int))),(4,.d (.bool z.2))]) [7,9,10,19,20,21,22,23,24,25,26,27,28,29,30,31,32,33,34,35,36,37,38,39,40,41,42,43,44,45,46,47,48,49,50,51,52,53,54,55,56,57,58,59,60,61] (fun z=>[(71,some (.box (tabC 16 (midT w o.1 (y.1*4+z.1)))))]) (fun z=>z.1<=4/\(z.2=false->midT w o.1 (y.1*4+z.1)=zbj w o.1)/\(z.2=true->Strict (zbj w o.1) (midT w o.1 (y.1*4+z.1)))) (fun z=>4-z.1) (0,y.2) ⟨by simp,hg2.2⟩ ⟨⟨_,rfl,xaq ?_⟩,⟨⟨_,rfl,xap ?_⟩,trivial⟩⟩ ⟨?_,trivial⟩ (fun x=>rfl) (fun z hg3=>?_);iterate 2 focus (first|rfl|(simp;done))
 focus (first|rfl|(show some (Res.box _)=some (Res.box _);rw[<-hg4.1,List.append_nil] at *;done))
 refine evc [] [16,20] ?_;refine sq ?_ ?_<;>intro h3 h3p h3s<;>(try simp only[Q] at h3p);refine bu [0,1] [_,_] st25 ?_;refine Walk.alloc (id:=3007) tz25 rfl .none rfl (by first|rfl|(simp only[zaA,occH,occE,Res.ids,xag,List.nil_append,AV.idsL,AV.ids,zak,zaj,zas,zaQ,xae,List.map_nil,upC,zaG];rfl)) (by first|rfl|(simp only[zaA,occH,occE,Res.ids,xag,List.nil_append,AV.idsL,AV.ids,zak,zaj,zas,zaQ,xae,List.map_nil,upC,zaG];rfl)) (by first|rfl|(simp only[zaA,occH,occE,Res.ids,xag,List.nil_append,AV.idsL,AV.ids,zak,zaj,zas,zaQ,xae,List.map_nil,upC,zaG];rfl)) ?_;refine so ty25 ?_;refine tv ?_;refine Walk.call (cr:=[]) zfD (znk hw (i:=y.1) (j:=z.1) (by omega) (by omega)) rfl .none rfl rfl (LeL.refl _) trivial rfl (by first|rfl|(simp only[za8,List.all_cons,List.all_nil,zcf,zbU,AV.idsL,AV.ids,zak,zaj,xae,List.map_nil,zaG];rfl)) (by first|rfl|(simp only[zaA,occH,occE,Res.ids,xag,List.nil_append,AV.idsL,AV.ids,zak,zaj,zas,zaQ,xae,List.map_nil,upC,zaG];rfl)) ?_;refine ev ?_;refine xak (ι:=List (Int)×List (Int)×(Bool)) hk (fun x=>[(30,.d (.i (x.1.length:Int))),(4,.d (.bool x.2.2))]) [9,10,31,32,33,34,35,36,37,38,39,40,41,42,43,44,45,46,47,48,49,50,51,52,53,54,55,56,57,58,59,60,61] (fun x=>[(71,some (.box (tabC 16 (rowT w o.1 (y.1*4+z.1) x.1))))]) (fun x=>x.1++x.2.1=zaO w (tyS (y.1*4+z.1))/\(x.2.2=false->rowT w o.1 (y.1*4+z.1) x.1=zbj w o.1)/\(x.2.2=true->Strict (zbj w o.1) (rowT w o.1 (y.1*4+z.1) x.1))) (fun x=>x.2.1.length) ([],zaO w (tyS (y.1*4+z.1)),z.2) ⟨by simp,hg3.2⟩ ⟨⟨_,rfl,xaq ?_⟩,⟨⟨_,rfl,xap ?_⟩,trivial⟩⟩ ⟨?_,trivial⟩ (fun x=>rfl) (fun x hg4=>?_);iterate 2 focus (first|rfl|(simp;done))
 focus (first|rfl|(show some (Res.box _)=some (Res.box _);rw[zdU];first|(rw[zeD (by assumption)];done)|(rw[zdT (by assumption)];done)))
 obtain⟨pre,rest,b⟩:=x;dsimp only at hg4 ⊢;have hct:=hd.ct (y.1*4+z.1) (by omega);refine evc [] [16,20] ?_;refine sq ?_ ?_<;>intro h4 h4p h4s<;>(try simp only[Q] at h4p);rcases rest with _|⟨c,rest⟩
 ·exfalso;simp_all
 refine xaV sl62 .none rfl rfl rfl rfl (zaI hg4.1) rfl ?_;refine ev ?_;refine Walk.call (cr:=[]) zyA (zoO hd (f:=rowT w o.1 (y.1*4+z.1) pre) (i:=y.1) (j:=z.1) (c:=c) (by omega) (by omega) (by rw[<-hg4.1];simp) (zoV hd (by omega) (by omega) (by have hz:=congrArg List.length hg4.1;simp at hz;omega))) rfl .none rfl rfl (LeL.refl _) ⟨rfl,trivial⟩ rfl (by first|rfl|(simp only[za8,List.all_cons,List.all_nil,zcf,zbU,AV.idsL,AV.ids,zak,zaj,xae,List.map_nil,zaG];rfl)) (by first|rfl|(simp only[zaA,occH,occE,Res.ids,xag,List.nil_append,AV.idsL,AV.ids,zak,zaj,zas,zaQ,xae,List.map_nil,upC,zaG];rfl)) ?_;refine ev ?_;refine xal ?_;refine xaB 15 [(53,.d (.bool (decide ((0:Int)<(most w (rowT w o.1 (y.1*4+z.1) pre) (tyS (y.1*4+z.1)) c:Int)/\((rowT w o.1 (y.1*4+z.1) pre (y.1*4+z.1):Int)=0\/(most w (rowT w o.1 (y.1*4+z.1) pre) (tyS (y.1*4+z.1)) c:Int)<(rowT w o.1 (y.1*4+z.1) pre (y.1*4+z.1):Int))))))] [39,40,41,42,43,44,45,46,47,48,49,50,51,52] ?_ ?_;refine ev ?_;refine sq ?_ ?_<;>intro h5 h5p h5s<;>(try simp only[Q] at h5p);refine Walk.call (cr:=[]) zkd (znq (w:=w) (f:=rowT w o.1 (y.1*4+z.1) pre) (i:=y.1) (j:=z.1) (by omega) hw4 (by omega)) rfl (.some rfl rfl h5) rfl rfl (LeL.refl _) ⟨rfl,trivial⟩ rfl (by first|rfl|(simp only[za8,List.all_cons,List.all_nil,zcf,zbU,AV.idsL,AV.ids,zak,zaj,xae,List.map_nil,zaG];rfl)) (by first|rfl|(simp only[zaA,occH,occE,Res.ids,xag,List.nil_append,AV.idsL,AV.ids,zak,zaj,zas,zaQ,xae,List.map_nil,upC,zaG];rfl)) ?_;refine evs [] [(41,true)] ?_ ⟨⟨_,rfl,h5⟩,trivial⟩;refine sq ?_ ?_<;>intro h6 h6p h6s<;>(try simp only[Q] at h6p);exact jnb rfl;refine Walk.call (cr:=[]) zkd (znq (w:=w) (f:=rowT w o.1 (y.1*4+z.1) pre) (i:=y.1) (j:=z.1) (by omega) hw4 (by omega)) rfl (.some rfl rfl h6) rfl rfl (LeL.refl _) ⟨rfl,trivial⟩ rfl (by first|rfl|(simp only[za8,List.all_cons,List.all_nil,zcf,zbU,AV.idsL,AV.ids,zak,zaj,xae,List.map_nil,zaG];rfl)) (by first|rfl|(simp only[zaA,occH,occE,Res.ids,xag,List.nil_append,AV.idsL,AV.ids,zak,zaj,zas,zaQ,xae,List.map_nil,upC,zaG];rfl)) ?_;refine evs [] [(41,true),(46,false)] ?_ ⟨⟨_,rfl,h5⟩,⟨_,rfl,h6⟩,trivial⟩;exact jnb rfl;exact jnb rfl;refine xaA ?_;refine tv ?_;refine sq ?_ ?_<;>intro h7 h7p h7s<;>(try simp only[Q] at h7p);refine xaW (i:=y.1) zqv .none rfl rfl rfl rfl (by omega) ?_;refine xaW (i:=z.1) ztA .none rfl rfl rfl rfl (by omega) ?_;refine Walk.store ty3 .none rfl rfl rfl rfl rfl rfl (by simp) ((ztx (s:=y.1*4+z.1) (v:=most w (rowT w o.1 (y.1*4+z.1) pre) (tyS (y.1*4+z.1)) c) (by omega) (by omega) rfl)) ?_;refine ev ?_;refine ar ?_;refine xah ((pre++[c],rest,(decide ((0:Int)<(most w (rowT w o.1 (y.1*4+z.1) pre) (tyS (y.1*4+z.1)) c:Int)/\((rowT w o.1 (y.1*4+z.1) pre (y.1*4+z.1):Int)=0\/(most w (rowT w o.1 (y.1*4+z.1) pre) (tyS (y.1*4+z.1)) c:Int)<(rowT w o.1 (y.1*4+z.1) pre (y.1*4+z.1):Int))))||b)) ⟨⟨(by have hz:=hg4.1;rw[<-hz];simp),(by
    dsimp only;rw[zdU];cases hq:decide ((0:Int)<(most w (rowT w o.1 (y.1*4+z.1) pre) (tyS (y.1*4+z.1)) c:Int)/\((rowT w o.1 (y.1*4+z.1) pre (y.1*4+z.1):Int)=0\/(most w (rowT w o.1 (y.1*4+z.1) pre) (tyS (y.1*4+z.1)) c:Int)<(rowT w o.1 (y.1*4+z.1) pre (y.1*4+z.1):Int))) with
    |true=>exact⟨fun h=>by simp at h,fun _=>zk9 zsP hq⟩
    |false=>rw[zdT hq];exact hg4.2)⟩,(by simp),sx ⟨⟨_,rfl,xaq ?_⟩,⟨⟨_,rfl,xap ?_⟩,trivial⟩⟩ ⟨?_,trivial⟩⟩
 iterate 2 focus (first|rfl|(simp;done)|(rw[h7];rfl))
 focus (first|rfl|(show some (Res.box _)=some (Res.box _);rw[zdU];first|(rw[zeD (by assumption)];done)|(rw[zdT (by assumption)];done)))
 refine ar ?_;refine xah ((pre++[c],rest,(decide ((0:Int)<(most w (rowT w o.1 (y.1*4+z.1) pre) (tyS (y.1*4+z.1)) c:Int)/\((rowT w o.1 (y.1*4+z.1) pre (y.1*4+z.1):Int)=0\/(most w (rowT w o.1 (y.1*4+z.1) pre) (tyS (y.1*4+z.1)) c:Int)<(rowT w o.1 (y.1*4+z.1) pre (y.1*4+z.1):Int))))||b)) ⟨⟨(by have hz:=hg4.1;rw[<-hz];simp),(by
    dsimp only;rw[zdU];cases hq:decide ((0:Int)<(most w (rowT w o.1 (y.1*4+z.1) pre) (tyS (y.1*4+z.1)) c:Int)/\((rowT w o.1 (y.1*4+z.1) pre (y.1*4+z.1):Int)=0\/(most w (rowT w o.1 (y.1*4+z.1) pre) (tyS (y.1*4+z.1)) c:Int)<(rowT w o.1 (y.1*4+z.1) pre (y.1*4+z.1):Int))) with
    |true=>exact⟨fun h=>by simp at h,fun _=>zk9 zsP hq⟩
    |false=>rw[zdT hq];exact hg4.2)⟩,(by simp),sx ⟨⟨_,rfl,xaq ?_⟩,⟨⟨_,rfl,xap ?_⟩,trivial⟩⟩ ⟨?_,trivial⟩⟩
 iterate 2 focus (first|rfl|(simp;done)|(rw[h7];rfl))
 focus (first|rfl|(show some (Res.box _)=some (Res.box _);rw[zdU];first|(rw[zeD (by assumption)];done)|(rw[zdT (by assumption)];done)))
 have hrest:rest=[]:=by
  rcases rest with _|⟨a,b⟩
  ·rfl
  ·exfalso;have hz:=congrArg List.length (hg4.1);simp only[xaa,xab,xac] at hz;omega
 subst hrest;refine ar ?_;refine xah ((z.1+1,b)) ⟨(by
    obtain⟨p1,p2⟩:=hg4;rw[List.append_nil] at p1;rw[p1,zig,Nat.add_assoc] at p2;exact⟨by dsimp only;omega,p2⟩),(by dsimp only;omega),sx ⟨⟨_,rfl,xaq ?_⟩,⟨⟨_,rfl,xap ?_⟩,trivial⟩⟩ ⟨?_,trivial⟩⟩
 iterate 2 focus (first|rfl|(simp;done))
 focus (first|rfl|(show some (Res.box _)=some (Res.box _);rw[<-hg4.1,List.append_nil] at *;done)|(show some (Res.box _)=some (Res.box _);rw[<-Nat.add_assoc,<-zig,<-hg4.1,List.append_nil]))
 refine ar ?_;refine xah ((y.1+1,z.2)) ⟨(by
    have e:z.1=4:=by omega
    obtain⟨_,q1,q2⟩:=hg3;rw[e,<-Nat.succ_mul] at q1 q2;exact⟨by dsimp only;omega,q1,q2⟩),(by dsimp only;omega),sx ⟨⟨_,rfl,xaq ?_⟩,⟨⟨_,rfl,xap ?_⟩,trivial⟩⟩ ⟨?_,trivial⟩⟩
 iterate 2 focus (first|rfl|(simp;done))
 focus (first|rfl|(have e:z.1=4:=(by omega);rw[e,<-Nat.succ_mul];rfl))
 refine xah ((o.1+1,y.2)) ⟨⟨(fun h=>by
    have e:y.1=w.length:=by omega
    have h1:=hg2.2.1 h;rw[e] at h1;have h2:zbj w (o.1+1)=zbj w o.1:=h1;rw[h2];exact zwf hd.cl h2),(fun h=>by
    have e:y.1=w.length:=by omega
    have h1:=hg2.2.2 h;rw[e] at h1;have h3:=hg1.2 h1s;show o.1+1<=w.length*4+1
    rcases Nat.lt_or_ge o.1 (w.length*4+1) with h4|h4
    ·omega
    ·refine absurd ?_ (Strict.ne h1);rw[zlq hd.cl h4];exact(zlq hd.cl (k:=o.1+1) (by omega)).symm)⟩,(by have h3:=hg1.2 h1s;rw[h1s];dsimp only;simp only[if_true];split<;>omega),sx ⟨⟨_,rfl,xap ?_⟩,trivial⟩ ⟨?_,trivial⟩⟩
 focus (first|rfl|(simp;done))
 focus (first|rfl|(have e:y.1=w.length:=(by omega);rw[e];rfl))
 refine CWp.frzB hk 3 71 0 rfl rfl zwO rfl ?_;refine evc [] [] ?_;refine rq ?_;rotate_left;all_goals (rw[hg1.1 h1s])
end Go.Proofs.YtpgdedpljcedpaaGreat
namespace Go.Proofs.YtpgdedpljcedpaaGreat
open Go
set_option linter.unusedSimpArgs false
set_option linter.unusedVariables false
set_option maxRecDepth 100000
set_option maxHeartbeats 4000000
theorem zzX (w:List Data) (t:Ty) (p:Pat):(zaT w 10 t p 0).1.isSome=isP w t p:=by
 have h:=(zfh w 10 t p 0).1;rw[h];unfold zbO isP;rw[Int.zero_add];split
 ·rename_i hz;rw[hz];rfl
 ·rename_i hz;cases hc:(zaq w 10 t p&&(decide ((p.size:Int)<=60)&&linP w 10 t p)) with
  |true=>exact absurd hc hz
  |false=>rfl
theorem zf2 {w:List Data} (hw:WT w){a k:Int}{p:Pat} (ht:TyIn w.length ⟨a,k⟩) (hok:p.ok):
  FnD Tryz.prog 132 [.d (zal w),.agg [.d (.i a),.d (.i k)],.agg [.d (.i p.op),.d (.i p.ctor),.d (.i p.n),.d (.i p.m),.d (.i p.var),.d (zae p.kids)]] [] (.tup [.d (zc4 (zdK (zaT w 10 ⟨a,k⟩ p 0).1)),.d (.bool (isP w ⟨a,k⟩ p))]) []:=by
 rw[<-zzX];refine bd Tryz.f132 15 [] [] fun w0 F0 own kept hk=>?_;refine bx 3004 ?_;refine bx 3005 ?_;refine ev ?_;refine ab 950 tz3 ?_;refine so ty3 ?_;refine tv ?_;refine wc zq3 (zeg hw 10 (c:=0) (by omega) (by omega) ht hok (by omega) (by omega)) rfl rfl ?_;refine ev ?_;refine rn0 (r2 rfl rfl) (.tup (.cons (.eqd ?_) (.cons (.eqd ?_) .nil)));rotate_left 2;all_goals (rfl)
theorem zg1 {w:List Data} (hw:WT w){a k:Int}{p:Pat} (ht:TyIn w.length ⟨a,k⟩) (hok:p.ok):
  FnD Tryz.prog 77 [.d (zal w),.agg [.d (.i a),.d (.i k)],.agg [.d (.i p.op),.d (.i p.ctor),.d (.i p.n),.d (.i p.m),.d (.i p.var),.d (zae p.kids)]] [] (.d (.bool (isP w ⟨a,k⟩ p))) []:=by
 refine bd Tryz.f77 17 [] [] fun w0 F0 own kept hk=>?_;refine bx 3004 ?_;refine bx 3005 ?_;refine ev ?_;refine wc zup (zf2 hw ht hok) rfl rfl ?_;refine ev ?_;refine rq ?_;rotate_left;all_goals (rfl)
end Go.Proofs.YtpgdedpljcedpaaGreat
namespace Go.Proofs.YtpgdedpljcedpaaGreat
open Go
set_option linter.unusedSimpArgs false
set_option linter.unusedVariables false
set_option maxRecDepth 100000
set_option maxHeartbeats 2000000
theorem zmL {w:List Data} (hs:WSmall w) (hv:za3 w=true):Dp w:=by
 have hw:=zh2 hs hv;have hW:=(zcd w).1 hv;refine⟨hw,fun s hs c hc u hu=>?_,hW.len,fun s hs=>?_⟩
 ·obtain⟨j,rfl,hj⟩:=zcn (d:=s / 4) (k:=((s % 4:Nat):Int)) hc;have hu':u∈zaa w ⟨((s / 4:Nat):Int),((s % 4:Nat):Int)⟩ (j:Int):=hu;simp only[zaa,Int.toNat_natCast,List.mem_map] at hu';obtain⟨x,hx,rfl⟩:=hu';have hco:=hW.ctor _ (zac (l:=w) (i:=s / 4) (by omega)) _ (zac hj);simp only[zbF,xad,Bool.not_eq_true',List.any_eq_false] at hco;have hax:zbR w.length x=true:=by
   have:=hco.2.2.2 x hx;cases h:zbR w.length x with
   |true=>rfl
   |false=>rw[h] at this;exact absurd rfl this
  have hci:=hco.2.2.1;simp only[zbR,zao,Bool.or_eq_true,xad,decide_eq_true_eq,and_true] at hax hci;have key:∀y:Ty,(y.data = -1\/(0<=y.data/\y.data<w.length/\0<=y.index/\y.index<=3))->InS (w.length*4) y:=by
   rintro ⟨a,k⟩ h
   rcases h with h|⟨h1,h2,h3,h4⟩
   ·exact .inl h
   ·refine .inr ⟨?_, ?_⟩
    ·simp only[zcE] at *;omega
    ·obtain⟨i,rfl⟩:=Int.eq_ofNat_of_zero_le h1;obtain⟨m,rfl⟩:=Int.eq_ofNat_of_zero_le h3;simp only[zcE,Int.toNat_natCast];exact zh1 (by simp only at h4;omega)
  refine key _ ?_;unfold zcB zcN;split
  ·dsimp only;rcases hax with h|h
   ·omega
   ·right
    refine⟨by omega,by omega, ?_⟩;split<;>omega
  ·rcases hax with h|h
   ·exact .inl h.1
   ·right;omega
 ·have h1:=zgU (tyS s).index (nth w (tyS s).data.toNat).ctors 0;have h2:=(hW.data _ (zac (l:=w) (i:=s / 4) (by omega))).2.2;show(zaY (tyS s).index 0 (nth w (tyS s).data.toNat).ctors).length<=4
  have e:(tyS s).data.toNat=s / 4:=by simp only[tyS,Int.toNat_natCast]
  rw[e] at h1 ⊢;omega
theorem zb7 {n:Nat}{t:Ty} (h:InS (n*4) t):TyIn n t:=by
 rcases h with h|⟨h1,h2⟩
 ·exact .inl h
 ·refine .inr ⟨zcE t / 4, ?_,by omega⟩;have:=congrArg Ty.data h2;exact this.symm
theorem zbr {w:List Data} (hd:Dp w){t:Ty}{c:Int} (ht:InS (w.length*4) t) (hc:c∈zah w t):∀u∈zaa w t c,InS (w.length*4) u:=by
 rcases ht with h|⟨h1,h2⟩
 ·unfold zah at hc;rw[if_pos h] at hc;simp at hc
 ·have hx:=hd.cl _ h1;rw[h2] at hx;have:c∈zaO w t:=by
   unfold zah at hc;split at hc
   ·simp at hc
   ·exact hc
  exact hx c this
theorem zkc {w:List Data}{a k k' c:Int}:(zaa w ⟨a,k⟩ c).length=(zaa w ⟨a,k'⟩ c).length/\∀i,(nth (zaa w ⟨a,k⟩ c) i).data=(nth (zaa w ⟨a,k'⟩ c) i).data:=by
 have hd:∀(k:Int) (t:Ty),(zcB k t).data=t.data:=fun k t=>by unfold zcB;split<;>rfl
 refine⟨by simp[zaa],fun i=>?_⟩;unfold zaa;dsimp only;generalize nth (nth w a.toNat).ctors c.toNat=q;simp only[nth,List.getD_eq_getElem?_getD,List.getElem?_map];cases q.args[i]? with
 |none=>rfl
 |some x=>simp only[Option.map_some,Option.getD_some,hd]
structure PKids (w:List Data) (n:Nat) (a k k':Int) (p:Pat):Prop where
 len5:p.op=5->p.kids.length=2
 len6:p.op=6->p.kids.length=1
 len4:p.op=4->p.kids.length=(zaa w ⟨a,k⟩ p.ctor).length
 one:p.op=5\/p.op=6->zaq w n ⟨a,k'⟩ (nth p.kids 0)=true
 two:p.op=5->zaq w n ⟨a,k'⟩ (nth p.kids 1)=true
 arg:p.op=4->∀i,i<(zaa w ⟨a,k⟩ p.ctor).length->zaq w n ⟨(nth (zaa w ⟨a,k⟩ p.ctor) i).data,(nth (zaa w ⟨a,k'⟩ p.ctor) i).index⟩ (nth p.kids i)=true
 mem:p.op=4->p.ctor∈zah w ⟨a,k'⟩
 ops:p.op=1\/p.op=2\/(p.op=3/\a = -1)\/p.op=4\/p.op=5\/p.op=6
theorem zzU {w:List Data}{n:Nat}{a k k':Int}{p:Pat} (h:zaq w (n+1) ⟨a,k'⟩ p=true):PKids w n a k k' p:=by
 obtain⟨ho,hl⟩:=zbJ h;have hk:=fun i (hi:i<p.kids.length)=>zbI h hi;have ht4:p.op=4->zag w ⟨a,k'⟩ p=zaa w ⟨a,k'⟩ p.ctor:=fun h=>by unfold zag;rw[if_pos h]
 have ht5:p.op=5->zag w ⟨a,k'⟩ p=[⟨a,k'⟩,⟨a,k'⟩]:=fun h=>by unfold zag;rw[if_neg (by omega),if_pos h]
 have ht6:p.op=6->zag w ⟨a,k'⟩ p=[⟨a,k'⟩]:=fun h=>by unfold zag;rw[if_neg (by omega),if_neg (by omega),if_pos h]
 have l5:p.op=5->p.kids.length=2:=fun h=>by rw[hl,ht5 h];rfl
 have l6:p.op=6->p.kids.length=1:=fun h=>by rw[hl,ht6 h];rfl
 refine⟨l5,l6,fun h=>by rw[hl,ht4 h,zkc.1],fun h=>?_,fun h=>?_,fun h i hi=>?_,zb8 ho, ?_⟩
 ·rcases h with h|h
  ·have:=hk 0 (by rw[l5 h];omega);rwa [ht5 h] at this
  ·have:=hk 0 (by rw[l6 h];omega);rwa [ht6 h] at this
 ·have:=hk 1 (by rw[l5 h];omega);rwa [ht5 h] at this
 ·rw[(zkc (k':=k')).1] at hi;have:=hk i (by rw[hl,ht4 h];exact hi);rw[ht4 h] at this;rw[(zkc (k':=k')).2];exact this
 ·unfold ownP at ho;have:=of_decide_eq_true ho;obtain⟨_,_,_,_,q⟩:=this;simp only at q;omega
theorem zlz {w:List Data} (hd:Dp w):FnD Tryz.prog 47 [.d (zal w)] [] (.d (sPtr w (zai w))) []:=by
 refine bd Tryz.f47 8 [] [999999] fun w0 F0 own kept hk=>?_;refine wc zzK (zmk hd) rfl rfl ?_;refine bu [0,1] [_,_] zzY ?_;refine bx 3007 ?_;refine ev ?_;refine CWp.frzB hk 2 3007 0 rfl rfl rfl rfl ?_;refine CWp.ret ?_;focus (refine rn0 (r1 rfl) (.refl _);all_goals (first|rfl|(simp[];done)|(simp_all;done)|(simp_all;omega)|omega))
theorem zd6 {w:List Data}{a k:Int} (h:za7 w ⟨a,k⟩=true):za3 w=true/\TyIn w.length ⟨a,k⟩/\(a≠ -1->0<=a/\a.toNat<w.length/\0<=k/\k<=3):=by
 unfold za7 at h;rw[xad] at h;obtain⟨h1,h2⟩:=h;simp only[zeG,zao,Bool.or_eq_true,xad,decide_eq_true_eq,and_true] at h2;refine⟨h1, ?_,fun ha=>by omega⟩;rcases h2 with h|h
 ·exact .inl h.1
 ·exact .inr ⟨a.toNat,by simp only;omega,by omega⟩
theorem zzk {n d j:Nat} (hd:d<n) (hj:j<4):InS (n*4) ⟨(d:Int),(j:Int)⟩:=
 .inr ⟨by simp only[zcE,Int.toNat_natCast];omega,by simp only[zcE,Int.toNat_natCast];exact zh1 hj⟩
def zda (w:List Data) (a k:Int) (p:Pat):Bool:=za7 w ⟨a,k⟩&&isP w ⟨a,k⟩ p
structure PVal (w:List Data) (a k:Int) (p:Pat):Prop where
 dp:Dp w
 tin:TyIn w.length ⟨a,k⟩
 shape:zaq w 10 ⟨a,k⟩ p=true
 rng:a≠ -1->0<=a/\a.toNat<w.length/\0<=k/\k<=3
theorem pval {w:List Data} (hs:WSmall w){a k:Int}{p:Pat} (h:zda w a k p=true):PVal w a k p:=by
 unfold zda at h;rw[xad] at h;obtain⟨h1,h2,h3⟩:=zd6 h.1;have h4:=h.2;unfold isP at h4;simp only[xad] at h4;exact⟨zmL hs h1,h2,h4.1,h3⟩
theorem zjv {w:List Data} (hs:WSmall w){a k:Int}{p:Pat} (hok:p.ok):
  FnD Tryz.prog 34 [.d (zal w),.agg [.d (.i a),.d (.i k)],.agg [.d (.i p.op),.d (.i p.ctor),.d (.i p.n),.d (.i p.m),.d (.i p.var),.d (zae p.kids)]] [] (.d (.bool (zda w a k p))) []:=by
 refine bd Tryz.f34 16 [] [] fun w0 F0 own kept hk=>?_;refine bx 3004 ?_;refine bx 3005 ?_;refine ev ?_;refine wc ztC (zeX hs) rfl rfl ?_;refine ev ?_;refine sq ?_ ?_<;>intro h1 h1p h1s;refine Walk.call (cr:=[]) zw9 (zg1 (zh2 hs (zd6 h1s).1) (zd6 h1s).2.1 hok) rfl (.some rfl rfl h1) rfl rfl (LeL.refl _) trivial rfl rfl rfl ?_;refine evs [] [(10,true)] ?_ ⟨⟨_,rfl,h1⟩,trivial⟩;refine rq ?_;rotate_left;refine rq ?_;rotate_left;all_goals (refine congrArg D.bool ?_;unfold zda;simp_all)
theorem zmA {w:List Data}{a b:Int} (hs:WSmall w):FnD Tryz.prog 118 [.d (zal w),.agg [.d (.i a),.d (.i b)]] [] (.d (.bool (za7 w ⟨a,b⟩))) []:=by
 rw[<-zx7];exact zlD hs
def zaV (w:List Data) (f:Nat->Nat):Nat->Ty->Pat->Bool
 |0,_,_=>true
 |n+1,t,p=>
  if p.op=1\/p.op=2 then decide (dv f t=0)
  else if p.op=5 then zaV w f n t (nth p.kids 0)&&zaV w f n t (nth p.kids 1)
  else !(all2 (fun u q=> !zaV w f n u q) (zag w t p) p.kids)
theorem zgq {w:List Data}{f:Nat->Nat}{n:Nat}{t:Ty}{p:Pat}:zaV w f (n+1) t p=if p.op=1\/p.op=2 then decide (dv f t=0)
  else if p.op=5 then zaV w f n t (nth p.kids 0)&&zaV w f n t (nth p.kids 1)
  else !(all2 (fun u q=> !zaV w f n u q) (zag w t p) p.kids):=rfl
theorem zen {α β:Type} [Inhabited α] [Inhabited β]{f:α->β->Bool}{a:List α}{b:List β} (hl:a.length=b.length) (h:all2 f a b=true):∀i,i<a.length->f (nth a i) (nth b i)=true:=fun i hi=>by
 cases hf:f (nth a i) (nth b i) with
 |true=>rfl
 |false=>rw[zb9 hi hl hf] at h;exact absurd h (by simp)
theorem zlf {w:List Data}{t:Ty}{c:Int} (h:c∈zah w t):c∈zaO w t:=by
 unfold zah at h;split at h
 ·simp at h
 ·exact h
theorem zmm {w:List Data} (hw:WT w){a k:Int}{p:Pat} (ht:TyIn w.length ⟨a,k⟩):
  FnD Tryz.prog 129 [.d (zal w),.agg [.d (.i a),.d (.i k)],.agg [.d (.i p.op),.d (.i p.ctor),.d (.i p.n),.d (.i p.m),.d (.i p.var),.d (zae p.kids)]] [] (.d (zct (zcR w ⟨a,k⟩ p))) []:=by
 have hsh:=zjV hw (p:=p) ht;refine bd Tryz.f129 17 [] [] fun w0 F0 own kept hk=>?_;refine bx 3004 ?_;refine bx 3005 ?_;refine ev ?_;refine wc zq2 (hsh) rfl rfl ?_;refine ev ?_;refine rq ?_;rotate_left;all_goals (rfl)
theorem zcP {w:List Data} (hd:Dp w){f:Nat->Nat}:∀(n:Nat){a k:Int}{p:Pat},zaq w n ⟨a,k⟩ p=true->InS (w.length*4) ⟨a,k⟩->p.ok->
  FnD Tryz.prog 74 [.d (sPtr w f),.agg [.d (.i a),.d (.i k)],.agg [.d (.i p.op),.d (.i p.ctor),.d (.i p.n),.d (.i p.m),.d (.i p.var),.d (zae p.kids)]] [] (.d (.bool (zaV w f n ⟨a,k⟩ p))) []
 |0,a,k,p,h,_,_=>by simp[zaq] at h
 |n+1,a,k,p,h,hi,hok=>by
  rw[Pat.ok_iff] at hok;have hw:=hd.wt;have hw4:=hd.four;have ht:=zb7 hi;have pk:=zzU (k:=k) h;obtain⟨ho,hlen⟩:=zbJ h;have hkid:=fun i (hi:i<p.kids.length)=>zbI h hi;have hops:=pk.ops;have l5:=pk.len5;have hk1:=pk.one;have hk2:=pk.two;have hsT:zcR w ⟨a,k⟩ p=zag w ⟨a,k⟩ p:=by
   unfold zcR;rw[if_neg (fun h=>h.2 (pk.mem h.1))]
  have hkt:=zmm hw (p:=p) ht;rw[hsT] at hkt;have hins:∀i,i<(zag w ⟨a,k⟩ p).length->InS (w.length*4) (nth (zag w ⟨a,k⟩ p) i):=fun i hl=>by
   have hm:=zac hl;unfold zag at hm ⊢;split
   ·rename_i h4;rw[if_pos h4] at hm;exact zbr hd hi (pk.mem h4) _ hm
   ·rename_i h4;rw[if_neg h4] at hm;split
    ·rename_i h5;rw[if_pos h5] at hm;simp only[List.mem_cons,List.not_mem_nil,or_false,or_self] at hm;rw[hm];exact hi
    ·rename_i h5;rw[if_neg h5] at hm;split
     ·rename_i h6;rw[if_pos h6] at hm;simp only[List.mem_cons,List.not_mem_nil,or_false] at hm;rw[hm];exact hi
     ·rename_i h6;rw[if_neg h6] at hm;simp at hm
  have htl:(zag w ⟨a,k⟩ p).length<=1000000000000:=by have:=hok.1;omega
  refine bd Tryz.f74 61 [] [] fun w0 F0 own kept hk=>?_;refine bx 3004 ?_;refine bx 3005 ?_;refine ev ?_;refine sq ?_ ?_<;>intro h1 h1p h1s<;>(try simp only[Q,Pat.cs_len] at h1p);refine sq ?_ ?_<;>intro h2 h2p h2s<;>(try simp only[Q,Pat.cs_len] at h2p);refine wc zkd (znp (n:=w.length*4) (f:=f) hi (by omega)) rfl rfl ?_;refine evd [] [] ?_;refine dr ?_;refine rq ?_;rotate_left;refine sq ?_ ?_<;>intro h3 h3p h3s<;>(try simp only[Q,Pat.cs_len] at h3p);refine xaV (i:=0) sl26 .none rfl rfl rfl rfl (zaE (by omega)) rfl ?_;refine evd [] [] ?_;refine wc zjd (zcP hd n (hk1 (by omega)) hi (Pats.ok_mem hok.2 _ (zac (i:=0) (by omega)))) rfl rfl ?_;refine evd [] [] ?_;refine sq ?_ ?_<;>intro h4 h4p h4s<;>(try simp only[Q,Pat.cs_len] at h4p);refine xaV (i:=1) sl26 (.some rfl rfl h4) rfl rfl rfl rfl (zaE (by omega)) rfl ?_;refine evd [] [(30,true)] ?_ ⟨⟨_,rfl,h4⟩,trivial⟩;refine Walk.call (cr:=[]) zjd (zcP hd n (hk2 (by omega)) hi (Pats.ok_mem hok.2 _ (zac (i:=1) (by omega)))) rfl (.some rfl rfl h4) rfl rfl (LeL.refl _) trivial rfl rfl rfl ?_;refine evd [] [(30,true)] ?_ ⟨⟨_,rfl,h4⟩,trivial⟩;refine dr ?_;refine rq ?_;rotate_left;refine dr ?_;refine rq ?_;rotate_left;refine wc zuo (hkt) rfl rfl ?_;refine evd [] [] ?_;refine dr ?_;refine xak (ι:=Nat) hk (fun i=>[(47,.d (.i (i:Int)))]) [6,7,8,48,49,50,51,52,53,54,55,56,57,58,59,60] (fun i=>[]) (fun i=>i<=(zag w ⟨a,k⟩ p).length/\∀i',i'<i->zaV w f n (nth (zag w ⟨a,k⟩ p) i') (nth p.kids i')=false) (fun i=>(zag w ⟨a,k⟩ p).length-i) 0 ⟨by omega,fun _ h=>absurd h (by omega)⟩ ⟨⟨_,rfl,xaq ?_⟩,trivial⟩ trivial (fun x=>rfl) (fun i hg1=>?_);focus (rfl)
  refine evc [] [] ?_;refine sq ?_ ?_<;>intro h5 h5p h5s<;>(try simp only[Q,Pat.cs_len] at h5p);refine xaV zaW .none rfl rfl rfl rfl (zar (by omega)) rfl ?_;refine ev ?_;refine ab 3008 tz25 ?_;refine ev ?_;refine so ty25 ?_;refine tv ?_;refine xaV sl26 .none rfl rfl rfl rfl (zaE (by omega)) rfl ?_;refine evd [] [] ?_;refine wc zjd (zcP hd n (hkid i (by omega)) (hins i (by omega)) (Pats.ok_mem hok.2 _ (zac (by omega)))) rfl rfl ?_;refine dr ?_;refine sq ?_ ?_<;>intro h6 h6p h6s<;>(try simp only[Q,Pat.cs_len] at h6p);refine rq ?_;rotate_left;refine ar ?_;refine xah (i+1) ⟨⟨by omega,zba hg1.2 (by assumption)⟩,(by omega),sx ⟨⟨_,rfl,xaq ?_⟩,trivial⟩ trivial⟩;focus (rfl)
  refine rq ?_;rotate_left;refine sq ?_ ?_<;>intro h7 h7p h7s<;>(try simp only[Q,Pat.cs_len] at h7p);refine wc zkd (znp (n:=w.length*4) (f:=f) hi (by omega)) rfl rfl ?_;refine evd [] [] ?_;refine dr ?_;refine rq ?_;rotate_left;refine sq ?_ ?_<;>intro h8 h8p h8s<;>(try simp only[Q,Pat.cs_len] at h8p);refine xaV (i:=0) sl26 .none rfl rfl rfl rfl (zaE (by omega)) rfl ?_;refine evd [] [] ?_;refine wc zjd (zcP hd n (hk1 (by omega)) hi (Pats.ok_mem hok.2 _ (zac (i:=0) (by omega)))) rfl rfl ?_;refine evd [] [] ?_;refine sq ?_ ?_<;>intro h9 h9p h9s<;>(try simp only[Q,Pat.cs_len] at h9p);refine xaV (i:=1) sl26 (.some rfl rfl h9) rfl rfl rfl rfl (zaE (by omega)) rfl ?_;refine evd [] [(30,true)] ?_ ⟨⟨_,rfl,h9⟩,trivial⟩;refine Walk.call (cr:=[]) zjd (zcP hd n (hk2 (by omega)) hi (Pats.ok_mem hok.2 _ (zac (i:=1) (by omega)))) rfl (.some rfl rfl h9) rfl rfl (LeL.refl _) trivial rfl rfl rfl ?_;refine evd [] [(30,true)] ?_ ⟨⟨_,rfl,h9⟩,trivial⟩;refine dr ?_;refine rq ?_;rotate_left;refine dr ?_;refine rq ?_;rotate_left;refine wc zuo (hkt) rfl rfl ?_;refine evd [] [] ?_;refine dr ?_;refine xak (ι:=Nat) hk (fun i=>[(47,.d (.i (i:Int)))]) [6,7,8,48,49,50,51,52,53,54,55,56,57,58,59,60] (fun i=>[]) (fun i=>i<=(zag w ⟨a,k⟩ p).length/\∀i',i'<i->zaV w f n (nth (zag w ⟨a,k⟩ p) i') (nth p.kids i')=false) (fun i=>(zag w ⟨a,k⟩ p).length-i) 0 ⟨by omega,fun _ h=>absurd h (by omega)⟩ ⟨⟨_,rfl,xaq ?_⟩,trivial⟩ trivial (fun x=>rfl) (fun i hg1=>?_);focus (rfl)
  refine evc [] [] ?_;refine sq ?_ ?_<;>intro h10 h10p h10s<;>(try simp only[Q,Pat.cs_len] at h10p);refine xaV zaW .none rfl rfl rfl rfl (zar (by omega)) rfl ?_;refine ev ?_;refine ab 3008 tz25 ?_;refine ev ?_;refine so ty25 ?_;refine tv ?_;refine xaV sl26 .none rfl rfl rfl rfl (zaE (by omega)) rfl ?_;refine evd [] [] ?_;refine wc zjd (zcP hd n (hkid i (by omega)) (hins i (by omega)) (Pats.ok_mem hok.2 _ (zac (by omega)))) rfl rfl ?_;refine dr ?_;refine sq ?_ ?_<;>intro h11 h11p h11s<;>(try simp only[Q,Pat.cs_len] at h11p);refine rq ?_;rotate_left;refine ar ?_;refine xah (i+1) ⟨⟨by omega,zba hg1.2 (by assumption)⟩,(by omega),sx ⟨⟨_,rfl,xaq ?_⟩,trivial⟩ trivial⟩;focus (rfl)
  refine rq ?_;rotate_left;all_goals (refine congrArg D.bool ?_;rw[zgq];first|(rw[if_pos (by omega)];exact decide_eq_decide.2 (by omega))|(rw[if_neg (by omega),if_pos (by omega)];first|rfl|(simp_all;done))|(rw[if_neg (by omega),if_neg (by omega)];first|(rw[zb9 (i:=i) (by omega) (by omega) (by show(!_)=false;rw[Bool.not_eq_false'];assumption)];rfl)|(rw[zcp (by omega) (fun x hx=>by have:=hg1.2 x (by omega);simp_all)];rfl)))
mutual
theorem zuf:∀v:Val,zue v v=true
 | .mk _ _ ks=>by simp[zue,zl0 ks]
theorem zl0:∀l:List Val,zor l l=true
 | []=>rfl
 |v::r=>by simp[zor,zuf v,zl0 r]
end
theorem Val.c_len (v:Val):v.c.length=3:=by cases v;rfl
theorem Val.cs_rows {l:List Val}:∀x,x∈Val.cs l->x.length=3:=by
 intro x hx;rw[Val.cs_eq] at hx;obtain⟨y,_,rfl⟩:=List.mem_map.1 hx;exact y.c_len
theorem Val.cs_nil (l:List Val):Val.cs l=[]↔l=[]:=by rw[Val.cs_eq];simp
mutual
def mVal:Val->Nat
 | .mk _ _ ks=>znv ks
def znv:List Val->Nat
 | []=>0
 |v::r=>1+mVal v+znv r
end
mutual
def Val.szM:Val->Int
 | .mk _ _ ks=>2+Vals.szM ks
def Vals.szM:List Val->Int
 | []=>0
 |v::r=>v.szM+Vals.szM r
end
mutual
def Val.one (k:Int):Val->Val
 | .mk _ _ ks=> .mk k (k+1) (Vals.one (k+1+1) ks)
def Vals.one (k:Int):List Val->List Val
 | []=>[]
 |v::r=>v.one k::Vals.one (k+v.szM) r
end
mutual
theorem Val.szM_nn:∀v:Val,0<=v.szM
 | .mk _ _ ks=>by have:=Vals.szM_nn ks;simp only[Val.szM];omega
theorem Vals.szM_nn:∀l:List Val,0<=Vals.szM l
 | []=>by simp[Vals.szM]
 |v::r=>by have:=Val.szM_nn v;have:=Vals.szM_nn r;simp only[Vals.szM];omega
end
mutual
theorem Val.szM_le:∀v:Val,v.szM<=2+2*(mVal v:Int)
 | .mk _ _ ks=>by have:=Vals.szM_le ks;simp only[Val.szM,mVal];omega
theorem Vals.szM_le:∀l:List Val,Vals.szM l<=2*(znv l:Int)
 | []=>by simp[Vals.szM,znv]
 |v::r=>by have:=Val.szM_le v;have:=Vals.szM_le r;simp only[Vals.szM,znv];omega
end
def zaJ (w:List Data):Nat->Ty->Val->Bool
 |0,_,_=>false
 |n+1,t,v=>if t.data = -1 then decide (v.ctor = -1)&&(decide (0<=v.num)&&(decide (v.num<=9)&&decide (v.kids.length=0)))
   else if v.num=0/\v.ctor∈zaO w t then all2 (zaJ w n) (zaa w t v.ctor) v.kids else false
def zcZ (g:Ty->Val->Int->Bool×Int):List Ty->List Val->Int->Bool×Int
 |a::r,b::s,c=>if (g a b c).1 then zcZ g r s (g a b c).2 else (false,(g a b c).2)
 |_,_,c=>(true,c)
def zaZ (w:List Data):Nat->Ty->Val->Int->Bool×Int
 |0,_,_,c=>(false,c+1)
 |n+1,t,v,c=>if 60<c+1 then (false,c+1)
   else if t.data = -1 then (decide (v.ctor = -1)&&(decide (0<=v.num)&&(decide (v.num<=9)&&decide (v.kids.length=0))),c+1)
   else if v.num=0/\v.ctor∈zaO w t then (if (zaa w t v.ctor).length=v.kids.length then zcZ (zaZ w n) (zaa w t v.ctor) v.kids (c+1) else (false,c+1))
   else (false,c+1)
theorem zr1 {w:List Data}{n:Nat} (ih:∀t v c,(zaZ w n t v c).1=(zaJ w n t v&&decide (c+(v.size:Int)<=60))/\((zaZ w n t v c).1=true->(zaZ w n t v c).2=c+v.size)):
  ∀(a:List Ty) (b:List Val) (c:Int),a.length=b.length->c<=60->(zcZ (zaZ w n) a b c).1=(all2 (zaJ w n) a b&&decide (c+(Vals.size b:Int)<=60))/\((zcZ (zaZ w n) a b c).1=true->(zcZ (zaZ w n) a b c).2=c+Vals.size b)
 | [],[],c,_,hc=>by simp[zcZ,all2,Vals.size,hc]
 |x::r,y::s,c,hl,hc=>by
  obtain⟨h1,h2⟩:=ih x y c;simp only[zcZ,all2,Vals.size];cases hh:(zaZ w n x y c).1 with
  |true=>
   have h3:=h2 hh;rw[hh] at h1;have h4:=h1.symm;simp only[xad,decide_eq_true_eq] at h4;obtain⟨h5,h6⟩:=zr1 ih r s (zaZ w n x y c).2 (by simpa using hl) (by omega);simp only[if_true];rw[h5];refine⟨?_,fun hx=>?_⟩
   ·rw[h4.1,h3,Bool.true_and];congr 1
    exact decide_eq_decide.2 (by push_cast;omega)
   ·rw[<-h5] at hx;rw[h6 hx,h3];push_cast;omega
  |false=>
   rw[hh] at h1;simp only[Bool.false_eq_true,if_false,false_implies,and_true];have h4:=h1.symm;simp only[Bool.and_eq_false_imp,decide_eq_false_iff_not] at h4;symm
   cases hf:zaJ w n x y with
   |false=>simp
   |true=>
    have:=h4 hf;have h7:¬(c+((y.size+Vals.size s:Nat):Int)<=60):=by push_cast;omega
    simp only[Bool.and_eq_false_imp];intro _;exact decide_eq_false h7
 | [],_::_,_,hl,_=>by simp at hl
 |_::_,[],_,hl,_=>by simp at hl
theorem xaz {l:List Val} (h:l.length=0):Vals.size l=0:=by
 cases l with
 |nil=>rfl
 |cons x r=>simp at h
theorem zmy (w:List Data):∀(n:Nat) (t:Ty) (v:Val) (c:Int),(zaZ w n t v c).1=(zaJ w n t v&&decide (c+(v.size:Int)<=60))/\((zaZ w n t v c).1=true->(zaZ w n t v c).2=c+v.size)
 |0,t,v,c=>by simp[zaZ,zaJ]
 |n+1,t,v,c=>by
  have hsz:=Val.size_eq v;unfold zaZ zaJ;by_cases h1:60<c+1
  ·rw[if_pos h1];simp only[Bool.false_eq_true,false_implies,and_true];symm
   simp only[Bool.and_eq_false_imp,decide_eq_false_iff_not];intro _;omega
  ·rw[if_neg h1];by_cases h2:t.data = -1
   ·rw[if_pos h2,if_pos h2];refine⟨?_,fun hx=>?_⟩
    ·by_cases hk:v.kids.length=0
     ·have:=xaz hk;have h3:decide (c+(v.size:Int)<=60)=true:=decide_eq_true (by omega);rw[h3,Bool.and_true]
     ·simp[hk]
    ·simp only[xad,decide_eq_true_eq] at hx;have:=xaz hx.2.2.2;simp only;omega
   ·rw[if_neg h2,if_neg h2];by_cases h3:v.num=0/\v.ctor∈zaO w t
    ·rw[if_pos h3,if_pos h3];by_cases h4:(zaa w t v.ctor).length=v.kids.length
     ·rw[if_pos h4];obtain⟨h5,h6⟩:=zr1 (fun t v c=>zmy w n t v c) (zaa w t v.ctor) v.kids (c+1) h4 (by omega);refine⟨?_,fun hx=>?_⟩
      ·rw[h5];congr 1
       exact decide_eq_decide.2 (by omega)
      ·rw[h6 hx];omega
     ·rw[if_neg h4,zf5 h4];simp
    ·rw[if_neg h3,if_neg h3];simp
mutual
def cntV (m:Int):Val->Int
 | .mk _ _ ks=>cntL m 1 ks
def cntL (m n:Int):List Val->Int
 | []=>n
 |k::r=>if n<=m then cntL m (n+cntV (m-n) k) r else n
end
theorem zuP {m n:Int}{l:List Val} (h:¬n<=m):cntL m n l=n:=by cases l<;>simp[cntL,h]
mutual
theorem zsV:∀(v:Val) (m:Int),1<=cntV m v/\cntV m v<=v.size
 | .mk _ _ ks,m=>by
  have:=zoA ks m 1 (by omega);simp only[cntV,Val.size];push_cast;omega
theorem zoA:∀(l:List Val) (m n:Int),1<=n->1<=cntL m n l/\cntL m n l<=n+Vals.size l
 | [],m,n,h=>by simp[cntL,Vals.size];omega
 |k::r,m,n,h=>by
  have h1:=zsV k (m-n);have h2:=zoA r m (n+cntV (m-n) k) (by omega);simp only[cntL,Vals.size];split
  ·push_cast;omega
  ·push_cast;omega
end
mutual
theorem zv4:∀(v:Val) (m:Int),(cntV m v<=m↔(v.size:Int)<=m)/\(cntV m v<=m->cntV m v=v.size)
 | .mk _ _ ks,m=>by
  have:=zra ks m 1;simp only[cntV,Val.size];push_cast;exact this
theorem zra:∀(l:List Val) (m n:Int),(cntL m n l<=m↔n+(Vals.size l:Int)<=m)/\(cntL m n l<=m->cntL m n l=n+Vals.size l)
 | [],m,n=>by simp[cntL,Vals.size]
 |k::r,m,n=>by
  have h1:=zv4 k (m-n);have h2:=zra r m (n+cntV (m-n) k);have h3:=zoA r m (n+cntV (m-n) k);have h4:=zsV k (m-n);simp only[cntL,Vals.size];push_cast
  by_cases hn:n<=m
  ·rw[if_pos hn];by_cases h5:cntV (m-n) k<=m-n
   ·have h6:=h1.2 h5;rw[h6] at h2 ⊢;constructor
    ·rw[h2.1];constructor<;>intro h<;>omega
    ·intro h;rw[h2.2 h];omega
   ·have h7:¬(k.size:Int)<=m-n:=fun h=>h5 (h1.1.2 h);have h8:¬n+cntV (m-n) k<=m:=by omega
    rw[zuP h8];constructor
    ·constructor<;>intro h<;>omega
    ·intro h;omega
  ·rw[if_neg hn];constructor
   ·constructor<;>intro h<;>omega
   ·intro h;omega
end
theorem Vals.size_split {pre rest l:List Val}{y:Val} (h:pre++y::rest=l):Vals.size l=Vals.size pre+y.size+Vals.size rest:=by
 subst h;induction pre with
 |nil=>simp[Vals.size]
 |cons x r ih=>simp only[xag,Vals.size,ih];omega
theorem zwq {l:List Val}{i:Nat} (h:i<l.length):(nth l i).size<=Vals.size l:=Vals.size_mem (zac h)
def isV (w:List Data) (t:Ty) (v:Val):Bool:=zaJ w 10 t v&&decide ((v.size:Int)<=60)
theorem znY {w:List Data}{n:Nat}{a:List Ty}{b:List Val}{i:Nat}{c:Int} (ha:i<a.length) (hl:a.length=b.length) (h:(zaZ w n (nth a i) (nth b i) c).1=false):
  zcZ (zaZ w n) (a.drop i) (b.drop i) c=(false,(zaZ w n (nth a i) (nth b i) c).2):=by
 rw[zaK ha,zaK (l:=b) (by omega),zcZ,if_neg (by rw[h];simp)]
theorem zt5 {w:List Data}{n:Nat}{a:List Ty}{b:List Val}{i:Nat}{c:Int} (ha:i<a.length) (hl:a.length=b.length) (h:(zaZ w n (nth a i) (nth b i) c).1=true):
  zcZ (zaZ w n) (a.drop i) (b.drop i) c=zcZ (zaZ w n) (a.drop (i+1)) (b.drop (i+1)) (zaZ w n (nth a i) (nth b i) c).2:=by
 rw[zaK ha,zaK (l:=b) (by omega),zcZ,if_pos h]
theorem zp2 {w:List Data}{n:Nat}{a:List Ty}{b:List Val}{i:Nat}{c:Int} (ha:a.length<=i):zcZ (zaZ w n) (a.drop i) (b.drop i) c=(true,c):=by
 rw[List.drop_eq_nil_of_le ha,zcZ];simp
theorem zwF (w:List Data) (n:Nat) (t:Ty) (v:Val) (c:Int) (h:(zaZ w n t v c).1=true):c<=(zaZ w n t v c).2/\(zaZ w n t v c).2<=60:=by
 have h1:=(zmy w n t v c);have h2:=h1.2 h;rw[h1.1] at h;simp only[xad,decide_eq_true_eq] at h;omega
theorem zg2 {w:List Data} (hw:WT w):∀(n:Nat){a k d c:Int}{v:Val},d+n=11->n<=10->TyIn w.length ⟨a,k⟩->v.ok->0<=c->c<=1000000000000->
  FnD Tryz.prog 111 [.d (zal w),.agg [.d (.i a),.d (.i k)],.agg [.d (.i v.ctor),.d (.i v.num),.d (zbQ v.kids)],.d (.i d),.d (.bool false),.ref 950 0] [(950,some (.box [.d (.i c)]))]
   (.d (.bool (zaZ w n ⟨a,k⟩ v c).1)) [(950,some (.box [.d (.i (zaZ w n ⟨a,k⟩ v c).2)]))]
 |0,a,k,d,c,v,hd,_,_,_,c0,c1=>by
  refine bd Tryz.f111 108 [] [] fun w0 F0 own kept hk=>?_;refine bx 3007 ?_;refine bx 3008 ?_;refine ev ?_;refine ar ?_;refine so ty3 ?_;refine tv ?_;refine sq ?_ ?_<;>intro h1 h1p h1s<;>(try simp only[Q] at h1p);refine sqT ?_;refine rn [(950,some (.box [.d (.i (zaZ w 0 ⟨a,k⟩ v c).2)]))] (r1 rfl) (.eqd ?_) ⟨rfl,rfl⟩ (SubO.get ⟨.inr ?_,⟨.inl rfl,trivial⟩⟩) (zay rfl);rotate_left 2;refine sq ?_ ?_<;>intro h3 h3p h3s<;>(try simp only[Q] at h3p);refine rn [(950,some (.box [.d (.i (zaZ w 0 ⟨a,k⟩ v c).2)]))] (r1 rfl) (.eqd ?_) ⟨rfl,rfl⟩ (SubO.get ⟨.inr ?_,⟨.inl rfl,trivial⟩⟩) (zay rfl);rotate_left 2;exfalso;simp at *;omega;all_goals (first|((rfl);done)|(rfl))
 |n+1,a,k,d,c,v,hd,hn,ht,hok,c0,c1=>by
  by_cases h60:60<c+1
  ·skip
   refine bd Tryz.f111 108 [] [] fun w0 F0 own kept hk=>?_;refine bx 3007 ?_;refine bx 3008 ?_;refine ev ?_;refine ar ?_;refine so ty3 ?_;refine tv ?_;refine sq ?_ ?_<;>intro h1 h1p h1s<;>(try simp only[Q] at h1p);refine sqT ?_;refine rn [(950,some (.box [.d (.i (zaZ w (n+1) ⟨a,k⟩ v c).2)]))] (r1 rfl) (.eqd ?_) ⟨rfl,rfl⟩ (SubO.get ⟨.inr ?_,⟨.inl rfl,trivial⟩⟩) (zay rfl);rotate_left 2;refine sq ?_ ?_<;>intro h3 h3p h3s<;>(try simp only[Q] at h3p);refine rn [(950,some (.box [.d (.i (zaZ w (n+1) ⟨a,k⟩ v c).2)]))] (r1 rfl) (.eqd ?_) ⟨rfl,rfl⟩ (SubO.get ⟨.inr ?_,⟨.inl rfl,trivial⟩⟩) (zay rfl);rotate_left 2;exfalso;simp at *;omega;all_goals (first|((unfold zaZ;rw[if_pos h60]);done)|((unfold zaZ;rw[if_pos h60];rfl)))
  rcases ht with ha|⟨e,he,hlt⟩
  ·have ha':a = -1:=ha;subst ha';refine bd Tryz.f111 108 [] [] fun w0 F0 own kept hk=>?_;refine bx 3007 ?_;refine bx 3008 ?_;refine ev ?_;refine ar ?_;refine so ty3 ?_;refine tv ?_;refine sq ?_ ?_<;>intro h1 h1p h1s<;>(try simp only[Q] at h1p);refine sqT ?_;exfalso;simp at *;omega;refine sq ?_ ?_<;>intro h3 h3p h3s<;>(try simp only[Q] at h3p);exfalso;simp at *;omega;refine sqF ?_;refine sqF ?_;refine sq ?_ ?_<;>intro h5 h5p h5s<;>(try simp only[Q] at h5p);refine sq ?_ ?_<;>intro h6 h6p h6s<;>(try simp only[Q] at h6p);refine Walk.call (cr:=[]) zcS (zbg) rfl (.some rfl rfl h6) rfl rfl (LeL.refl _) trivial rfl rfl rfl ?_;refine evs [] [(52,true)] ?_ ⟨⟨_,rfl,h6⟩,trivial⟩;refine sq ?_ ?_<;>intro h7 h7p h7s<;>(try simp only[Q] at h7p);refine rn [(950,some (.box [.d (.i (zaZ w (n+1) ⟨-1,k⟩ v c).2)]))] (r1 rfl) (.eqd ?_) ⟨rfl,rfl⟩ (SubO.get ⟨.inr ?_,⟨.inl rfl,trivial⟩⟩) (zay rfl);rotate_left 2;refine rn [(950,some (.box [.d (.i (zaZ w (n+1) ⟨-1,k⟩ v c).2)]))] (r1 rfl) (.eqd ?_) ⟨rfl,rfl⟩ (SubO.get ⟨.inr ?_,⟨.inl rfl,trivial⟩⟩) (zay rfl);rotate_left 2;refine sqF ?_;refine rn [(950,some (.box [.d (.i (zaZ w (n+1) ⟨-1,k⟩ v c).2)]))] (r1 rfl) (.eqd ?_) ⟨rfl,rfl⟩ (SubO.get ⟨.inr ?_,⟨.inl rfl,trivial⟩⟩) (zay rfl);rotate_left 2;exact absurd h5 (by simp);all_goals (first|((refine congrArg D.bool ?_;unfold zaZ;rw[if_neg h60,if_pos rfl];simp only[zao] at *;first|(simp_all[Val.cs_len];done)|(simp_all[Val.cs_len];intro h1 h2;omega));done)|((unfold zaZ;rw[if_neg h60,if_pos rfl];rfl)))
  have he':a=(e:Int):=he;subst he';have hok':=hok;rw[Val.ok_iff] at hok;have hcl:=zgp hw (d:=e) (k:=k);have hdn:¬(e:Int) = -1:=by omega
  by_cases hv:v.num=0/\v.ctor∈zaO w ⟨e,k⟩
  ·have hal:=zdW hw hlt (k:=k) (zcn (k:=k) (c:=v.ctor) hv.2);by_cases hlen:(zaa w ⟨e,k⟩ v.ctor).length=v.kids.length
   ·have hsc:zaZ w (n+1) ⟨e,k⟩ v c=zcZ (zaZ w n) (zaa w ⟨e,k⟩ v.ctor) v.kids (c+1):=by
     conv=>lhs;unfold zaZ
     rw[if_neg h60,if_neg hdn,if_pos hv,if_pos hlen]
    rw[hsc];refine bd Tryz.f111 108 [] [] fun w0 F0 own kept hk=>?_;refine bx 3007 ?_;refine bx 3008 ?_;refine ev ?_;refine ar ?_ (by(constructor<;>omega));refine so ty3 ?_;refine tv ?_;refine sq ?_ ?_<;>intro h1 h1p h1s<;>(try simp only[Q,Val.cs_len,Ty.eta] at h1p);refine sqT ?_;exfalso;simp at *;omega;refine sq ?_ ?_<;>intro h3 h3p h3s<;>(try simp only[Q,Val.cs_len,Ty.eta] at h3p);exfalso;simp at *;omega;refine sqF ?_;refine sqF ?_;refine sq ?_ ?_<;>intro h5 h5p h5s<;>(try simp only[Q,Val.cs_len,Ty.eta] at h5p);exfalso;simp at * <;>omega;refine sq ?_ ?_<;>intro h6 h6p h6s<;>(try simp only[Q,Val.cs_len,Ty.eta] at h6p);refine dr ?_;refine sqT ?_;exfalso;have e1:=hv.1;have e2:=hv.2;simp_all;refine Walk.call (cr:=[]) zfD (zcL hw hlt) rfl (.some rfl rfl h6) rfl rfl (LeL.refl _) trivial rfl rfl rfl ?_;refine evd [] [(67,false)] ?_ ⟨⟨_,rfl,h6⟩,trivial⟩;refine Walk.call (cr:=[]) zkg (zb5 hcl) rfl (.some rfl rfl h6) rfl rfl (LeL.refl _) trivial rfl rfl rfl ?_;refine evd [] [(67,false)] ?_ ⟨⟨_,rfl,h6⟩,trivial⟩;refine dr ?_;refine sq ?_ ?_<;>intro h8 h8p h8s<;>(try simp only[Q,Val.cs_len,Ty.eta] at h8p);exfalso;have e1:=hv.1;have e2:=hv.2;simp_all;refine wc zfE (zc6 hw hlt (zcn (k:=k) (c:=v.ctor) hv.2)) rfl rfl ?_;refine ev ?_;refine sq ?_ ?_<;>intro h9 h9p h9s<;>(try simp only[Q,Val.cs_len,Ty.eta] at h9p);exfalso;simp[Val.cs_len,hlen] at h9;refine xak (ι:=Nat×Int) hk (fun x=>[(90,.d (.i (x.1:Int)))]) [12,14,15,91,92,93,94,95,96,97,98,99,100,101,102,103,104,105,106,107] (fun x=>[(950,some (.box [.d (.i x.2)]))]) (fun x=>x.1<=v.kids.length/\zcZ (zaZ w n) ((zaa w ⟨e,k⟩ v.ctor).drop x.1) (v.kids.drop x.1) x.2=zcZ (zaZ w n) (zaa w ⟨e,k⟩ v.ctor) v.kids (c+1)/\0<=x.2/\x.2<=60) (fun x=>v.kids.length-x.1) (0,c+1) ⟨by simp,by simp,by dsimp only;omega,by dsimp only;omega⟩ ⟨⟨_,rfl,xaq ?_⟩,trivial⟩ ⟨?_,trivial⟩ (fun x=>rfl) (fun x hg1=>?_);focus (rfl)
    focus (first|rfl|(simp[getH];done))
    refine evc [] [] ?_;refine sq ?_ ?_<;>intro h10 h10p h10s<;>(try simp only[Q,Val.cs_len,Ty.eta] at h10p);refine xaV sl37 .none rfl rfl rfl rfl (zpg (by omega)) rfl ?_;refine ev ?_;refine ab 3015 tz44 ?_;refine ev ?_;refine so ty44 ?_;refine tv ?_;refine xaV zaW .none rfl rfl rfl rfl (zar (by omega)) rfl ?_;refine evd [] [] ?_;refine ar ?_ (by(constructor<;>omega));refine wc zul (zg2 hw n (a:=(nth (zaa w ⟨e,k⟩ v.ctor) x.1).data) (k:=(nth (zaa w ⟨e,k⟩ v.ctor) x.1).index) (c:=x.2) (by omega) (by omega) (zeo hw hlt (k:=k) (zcn (k:=k) (c:=v.ctor) hv.2) (zac (by omega))) (Vals.ok_mem hok.2 _ (zac (by omega))) (by omega) (by omega)) rfl rfl ?_;refine evd [] [] ?_;refine dr ?_;refine sq ?_ ?_<;>intro h11 h11p h11s<;>(try simp only[Q,Val.cs_len,Ty.eta] at h11p);refine rn [(950,some (.box [.d (.i (zcZ (zaZ w n) (zaa w ⟨e,k⟩ v.ctor) v.kids (c+1)).2)]))] (r1 rfl) (.eqd ?_) ⟨rfl,rfl⟩ (SubO.get ⟨.inr ?_,⟨.inl rfl,trivial⟩⟩) (zay rfl);rotate_left 2;refine ar ?_ (by(constructor<;>omega));refine xah ((x.1+1,(zaZ w n (nth (zaa w ⟨e,k⟩ v.ctor) x.1) (nth v.kids x.1) x.2).2)) ⟨(by
          have hz:(zaZ w n (nth (zaa w ⟨e,k⟩ v.ctor) x.1) (nth v.kids x.1) x.2).1=true:=by simp_all
          have hb:=zwF w n _ _ _ hz;obtain⟨h1,h2,h3,h4⟩:=hg1;refine⟨by dsimp only;omega, ?_,by dsimp only;omega,by dsimp only;omega⟩;rw[<-h2,zt5 (i:=x.1) (by omega) hlen hz]),(by dsimp only;omega),sx ⟨⟨_,rfl,xaq ?_⟩,trivial⟩ ⟨?_,trivial⟩⟩
    focus (rfl)
    focus (first|rfl|(simp[getH];done))
    refine rn [(950,some (.box [.d (.i (zcZ (zaZ w n) (zaa w ⟨e,k⟩ v.ctor) v.kids (c+1)).2)]))] (r1 rfl) (.eqd ?_) ⟨rfl,rfl⟩ (SubO.get ⟨.inr ?_,⟨.inl rfl,trivial⟩⟩) (zay rfl);rotate_left 2;all_goals (first|((refine congrArg D.bool ?_;first|(obtain⟨h1,h2,h3,h4⟩:=hg1;rw[<-h2,zp2 (by simp[Val.cs_len] at *;omega)])|(obtain⟨h1,h2,h3,h4⟩:=hg1;rw[<-h2,znY (by simp[Val.cs_len] at *;omega) hlen (by simp_all)]));done)|(first|(obtain⟨h1,h2,h3,h4⟩:=hg1;show some (Res.box _)=some (Res.box _);rw[<-h2,zp2 (by simp[Val.cs_len] at *;omega)])|(obtain⟨h1,h2,h3,h4⟩:=hg1;show some (Res.box _)=some (Res.box _);rw[<-h2,znY (by simp[Val.cs_len] at *;omega) hlen (by simp_all)])))
   ·have hsc:zaZ w (n+1) ⟨e,k⟩ v c=(false,c+1):=by
     conv=>lhs;unfold zaZ
     rw[if_neg h60,if_neg hdn,if_pos hv,if_neg hlen]
    rw[hsc];refine bd Tryz.f111 108 [] [] fun w0 F0 own kept hk=>?_;refine bx 3007 ?_;refine bx 3008 ?_;refine ev ?_;refine ar ?_;refine so ty3 ?_;refine tv ?_;refine sq ?_ ?_<;>intro h1 h1p h1s<;>(try simp only[Q,Val.cs_len] at h1p);refine sqT ?_;exfalso;simp at *;omega;refine sq ?_ ?_<;>intro h3 h3p h3s<;>(try simp only[Q,Val.cs_len] at h3p);exfalso;simp at *;omega;refine sqF ?_;refine sqF ?_;refine sq ?_ ?_<;>intro h5 h5p h5s<;>(try simp only[Q,Val.cs_len] at h5p);exfalso;simp at * <;>omega;refine sq ?_ ?_<;>intro h6 h6p h6s<;>(try simp only[Q,Val.cs_len] at h6p);refine dr ?_;refine sqT ?_;exfalso;have e1:=hv.1;have e2:=hv.2;simp_all;refine Walk.call (cr:=[]) zfD (zcL hw hlt) rfl (.some rfl rfl h6) rfl rfl (LeL.refl _) trivial rfl rfl rfl ?_;refine evd [] [(67,false)] ?_ ⟨⟨_,rfl,h6⟩,trivial⟩;refine Walk.call (cr:=[]) zkg (zb5 hcl) rfl (.some rfl rfl h6) rfl rfl (LeL.refl _) trivial rfl rfl rfl ?_;refine evd [] [(67,false)] ?_ ⟨⟨_,rfl,h6⟩,trivial⟩;refine dr ?_;refine sq ?_ ?_<;>intro h8 h8p h8s<;>(try simp only[Q,Val.cs_len] at h8p);exfalso;have e1:=hv.1;have e2:=hv.2;simp_all;refine wc zfE (zc6 hw hlt (zcn (k:=k) (c:=v.ctor) hv.2)) rfl rfl ?_;refine ev ?_;refine sq ?_ ?_<;>intro h9 h9p h9s<;>(try simp only[Q,Val.cs_len] at h9p);refine rn [(950,some (.box [.d (.i (c+1))]))] (r1 rfl) (.eqd ?_) ⟨rfl,rfl⟩ (SubO.get ⟨.inr ?_,⟨.inl rfl,trivial⟩⟩) (zay rfl);rotate_left 2;exfalso;simp[Val.cs_len] at h9;omega;all_goals (first|((rfl);done)|(rfl))
  ·have hsc:zaZ w (n+1) ⟨e,k⟩ v c=(false,c+1):=by
    conv=>lhs;unfold zaZ
    rw[if_neg h60,if_neg hdn,if_neg hv]
   rw[hsc];refine bd Tryz.f111 108 [] [] fun w0 F0 own kept hk=>?_;refine bx 3007 ?_;refine bx 3008 ?_;refine ev ?_;refine ar ?_;refine so ty3 ?_;refine tv ?_;refine sq ?_ ?_<;>intro h1 h1p h1s<;>(try simp only[Q] at h1p);refine sqT ?_;exfalso;simp at *;omega;refine sq ?_ ?_<;>intro h3 h3p h3s<;>(try simp only[Q] at h3p);exfalso;simp at *;omega;refine sqF ?_;refine sqF ?_;refine sq ?_ ?_<;>intro h5 h5p h5s<;>(try simp only[Q] at h5p);exfalso;simp at * <;>omega;refine sq ?_ ?_<;>intro h6 h6p h6s<;>(try simp only[Q] at h6p);refine dr ?_;refine sqT ?_;refine rn [(950,some (.box [.d (.i (c+1))]))] (r1 rfl) (.eqd ?_) ⟨rfl,rfl⟩ (SubO.get ⟨.inr ?_,⟨.inl rfl,trivial⟩⟩) (zay rfl);rotate_left 2;refine Walk.call (cr:=[]) zfD (zcL hw hlt) rfl (.some rfl rfl h6) rfl rfl (LeL.refl _) trivial rfl rfl rfl ?_;refine evd [] [(67,false)] ?_ ⟨⟨_,rfl,h6⟩,trivial⟩;refine Walk.call (cr:=[]) zkg (zb5 hcl) rfl (.some rfl rfl h6) rfl rfl (LeL.refl _) trivial rfl rfl rfl ?_;refine evd [] [(67,false)] ?_ ⟨⟨_,rfl,h6⟩,trivial⟩;refine dr ?_;refine sq ?_ ?_<;>intro h8 h8p h8s<;>(try simp only[Q] at h8p);refine rn [(950,some (.box [.d (.i (c+1))]))] (r1 rfl) (.eqd ?_) ⟨rfl,rfl⟩ (SubO.get ⟨.inr ?_,⟨.inl rfl,trivial⟩⟩) (zay rfl);rotate_left 2;exfalso;simp_all;all_goals (first|((rfl);done)|(rfl))
theorem znr {w:List Data} (hw:WT w){a k:Int}{v:Val} (ht:TyIn w.length ⟨a,k⟩) (hok:v.ok):
  FnD Tryz.prog 64 [.d (zal w),.agg [.d (.i a),.d (.i k)],.agg [.d (.i v.ctor),.d (.i v.num),.d (zbQ v.kids)]] [] (.d (.bool (isV w ⟨a,k⟩ v))) []:=by
 have hz:=(zmy w 10 ⟨a,k⟩ v 0).1;rw[Int.zero_add] at hz;refine bd Tryz.f64 12 [] [] fun w0 F0 own kept hk=>?_;refine bx 3004 ?_;refine bx 3005 ?_;refine ev ?_;refine ab 950 tz3 ?_;refine so ty3 ?_;refine tv ?_;refine wc zul (zg2 hw 10 (c:=0) (by omega) (by omega) ht hok (by omega) (by omega)) rfl rfl ?_;refine ev ?_;refine rq ?_;rotate_left;all_goals (rw[hz];rfl)
theorem zgo {α β:Type}{f:α->β->Bool}{a:List α}{b:List β} (h:all2 f a b=true):a.length=b.length:=by
 by_cases e:a.length=b.length
 ·exact e
 ·rw[zf5 e] at h;exact absurd h (by simp)
structure Bd where
 var:Int
 val:Val
def Bd.c (b:Bd):List D:=[.i b.var,.i b.val.ctor,.i b.val.num,zbQ b.val.kids]
abbrev zrh (l:List Bd):D:= .sl (l.map Bd.c)
instance:Inhabited Bd:=⟨⟨0,default⟩⟩
def zbz (f:Pat->Val->List Bd×Bool):List Pat->List Val->List Bd->List Bd×Bool
 |p::r,v::s,acc=>if (f p v).2=true then zbz f r s (acc++(f p v).1) else ([],false)
 |_,_,acc=>(acc,true)
def zaw:Nat->Pat->Val->List Bd×Bool
 |0,_,_=>([],false)
 |n+1,p,v=>
  if p.op=1 then ([],true)
  else if p.op=2 then ([⟨p.var,v⟩],true)
  else if p.op=3 then ([],zao v.num p.n p.m)
  else if p.op=5 then (if (zaw n (nth p.kids 0) v).2=true then ((zaw n (nth p.kids 0) v).1,true) else zaw n (nth p.kids 1) v)
  else if p.op=6 then (⟨p.var,v⟩::(zaw n (nth p.kids 0) v).1,(zaw n (nth p.kids 0) v).2)
  else if p.ctor=v.ctor then zbz (zaw n) p.kids v.kids [] else ([],false)
section
variable {n:Nat}{p:Pat}{v:Val}
theorem zga (h:p.op=1):zaw (n+1) p v=([],true):=by unfold zaw;rw[if_pos h]
theorem zht (h:p.op=2):zaw (n+1) p v=([⟨p.var,v⟩],true):=by unfold zaw;rw[if_neg (by omega),if_pos h]
theorem zfr (h:p.op=3):zaw (n+1) p v=([],zao v.num p.n p.m):=by unfold zaw;rw[if_neg (by omega),if_neg (by omega),if_pos h]
theorem zhO (h:p.op=5) (h2:(zaw n (nth p.kids 0) v).2=true):zaw (n+1) p v=((zaw n (nth p.kids 0) v).1,true):=by
 conv=>lhs;unfold zaw
 rw[if_neg (by omega),if_neg (by omega),if_neg (by omega),if_pos h,if_pos h2]
theorem zhP (h:p.op=5) (h2:(zaw n (nth p.kids 0) v).2=false):zaw (n+1) p v=zaw n (nth p.kids 1) v:=by
 conv=>lhs;unfold zaw
 rw[if_neg (by omega),if_neg (by omega),if_neg (by omega),if_pos h,if_neg (by rw[h2];simp)]
theorem zgc (h:p.op=6):zaw (n+1) p v=(⟨p.var,v⟩::(zaw n (nth p.kids 0) v).1,(zaw n (nth p.kids 0) v).2):=by
 conv=>lhs;unfold zaw
 rw[if_neg (by omega),if_neg (by omega),if_neg (by omega),if_neg (by omega),if_pos h]
theorem zhu (h:p.op=4) (h2:p.ctor=v.ctor):zaw (n+1) p v=zbz (zaw n) p.kids v.kids []:=by
 conv=>lhs;unfold zaw
 rw[if_neg (by omega),if_neg (by omega),if_neg (by omega),if_neg (by omega),if_neg (by omega),if_pos h2]
theorem zgb (h:p.op=4) (h2:¬p.ctor=v.ctor):zaw (n+1) p v=([],false):=by
 conv=>lhs;unfold zaw
 rw[if_neg (by omega),if_neg (by omega),if_neg (by omega),if_neg (by omega),if_neg (by omega),if_neg h2]
end
theorem znw {f:Pat->Val->List Bd×Bool}:∀ {a:List Pat}{b:List Val}{acc:List Bd},(zbz f a b acc).2=true->∀i,i<a.length->i<b.length->(f (nth a i) (nth b i)).2=true
 | [],_,_,_,i,h,_=>by simp at h
 |_::_,[],_,_,i,_,h=>by simp at h
 |p::r,v::s,acc,h,i,h1,h2=>by
  unfold zbz at h;split at h
  ·rename_i hp;cases i with
   |zero=>exact hp
   |succ i=>exact znw h i (by simpa using h1) (by simpa using h2)
  ·exact absurd h (by simp)
theorem zlQ {f:Pat->Val->List Bd×Bool}{a:List Pat}{b:List Val}{acc:List Bd}{i:Nat} (h1:i<a.length) (h2:i<b.length) (h:(f (nth a i) (nth b i)).2=true):
  zbz f (a.drop i) (b.drop i) acc=zbz f (a.drop (i+1)) (b.drop (i+1)) (acc++(f (nth a i) (nth b i)).1):=by
 rw[zaK h1,zaK h2];conv=>lhs;unfold zbz
 rw[if_pos h]
theorem ztT {f:Pat->Val->List Bd×Bool}{a:List Pat}{b:List Val}{acc:List Bd}{i:Nat} (h1:i<a.length) (h2:i<b.length) (h:(f (nth a i) (nth b i)).2=false):
  zbz f (a.drop i) (b.drop i) acc=([],false):=by
 rw[zaK h1,zaK h2];conv=>lhs;unfold zbz
 rw[if_neg (by rw[h];simp)]
theorem znx {f:Pat->Val->List Bd×Bool}{a:List Pat}{b:List Val}{acc:List Bd}{i:Nat} (h1:a.length<=i):zbz f (a.drop i) (b.drop i) acc=(acc,true):=by
 rw[List.drop_eq_nil_of_le h1];cases b.drop i<;>rfl
def BdOk (m:Nat) (l:List Bd):Prop:=∀x∈l,x.val.ok/\x.val.size<=m
theorem BdOk.app {m:Nat}{a b:List Bd} (h1:BdOk m a) (h2:BdOk m b):BdOk m (a++b):=fun x hx=>by
 rcases List.mem_append.1 hx with h|h
 ·exact h1 x h
 ·exact h2 x h
theorem BdOk.mono {m k:Nat}{a:List Bd} (h:BdOk m a) (hk:m<=k):BdOk k a:=fun x hx=>⟨(h x hx).1,Nat.le_trans (h x hx).2 hk⟩
theorem zpJ {f:Pat->Val->List Bd×Bool}{m:Nat}:∀ {a:List Pat}{b:List Val}{acc:List Bd}{k:Nat},(∀p∈a,∀v∈b,BdOk m (f p v).1/\(f p v).1.length<=p.size)->BdOk m acc->acc.length<=k->BdOk m (zbz f a b acc).1/\(zbz f a b acc).1.length<=k+Pats.size a
 | [],b,acc,k,_,h2,h3=>by cases b<;>exact⟨h2,by simp only[zbz,Pats.size];omega⟩
 |_::_,[],acc,k,_,h2,h3=>⟨h2,by simp only[zbz];omega⟩
 |p::r,v::s,acc,k,h1,h2,h3=>by
  unfold zbz;split
  ·have h4:=h1 p (by simp) v (by simp);have:=zpJ (f:=f) (a:=r) (b:=s) (acc:=acc++(f p v).1) (k:=k+p.size) (fun q hq u hu=>h1 q (by simp[hq]) u (by simp[hu])) (h2.app h4.1) (by rw[xaa];omega);refine⟨this.1, ?_⟩;simp only[Pats.size];omega
  ·exact⟨fun x hx=>by simp at hx,by simp⟩
theorem zvM {w:List Data}{t:Ty}{p:Pat} (h:p.op=5):zag w t p=[t,t]:=by unfold zag;rw[if_neg (by omega),if_pos h]
theorem zvN {w:List Data}{t:Ty}{p:Pat} (h:p.op=6):zag w t p=[t]:=by unfold zag;rw[if_neg (by omega),if_neg (by omega),if_pos h]
theorem za0 {w:List Data}{t:Ty}{p:Pat} (h:p.op=4):zag w t p=zaa w t p.ctor:=by unfold zag;rw[if_pos h]
theorem zdb {w:List Data}{n:Nat}{t:Ty}{p:Pat} (h:zaq w (n+1) t p=true):p.op=1\/p.op=2\/p.op=3\/p.op=4\/p.op=5\/p.op=6:=by
 have h1:=(zbJ h).1;unfold ownP at h1;have h2:=(of_decide_eq_true h1).2.2.2.2;omega
theorem zdV {w:List Data}{n:Nat}{t:Ty}{p:Pat} (h:zaq w (n+1) t p=true) (h5:p.op=5):p.kids.length=2/\zaq w n t (nth p.kids 0)=true/\zaq w n t (nth p.kids 1)=true:=by
 have hl:=(zbJ h).2;have h0:=fun i hi=>zbI h (i:=i) hi;rw[zvM h5] at hl h0;have hl':p.kids.length=2:=hl;exact⟨hl',h0 0 (by omega),h0 1 (by omega)⟩
theorem zdx {w:List Data}{n:Nat}{t:Ty}{p:Pat} (h:zaq w (n+1) t p=true) (h6:p.op=6):p.kids.length=1/\zaq w n t (nth p.kids 0)=true:=by
 have hl:=(zbJ h).2;have h0:=fun i hi=>zbI h (i:=i) hi;rw[zvN h6] at hl h0;have hl':p.kids.length=1:=hl;exact⟨hl',h0 0 (by omega)⟩
theorem zeA {w:List Data}:∀(n:Nat){t:Ty}{p:Pat}{v:Val},zaq w n t p=true->v.ok->BdOk v.size (zaw n p v).1/\(zaw n p v).1.length<=p.size
 |0,t,p,v,h,_=>by simp[zaq] at h
 |n+1,t,p,v,h,hv=>by
  have hs:=Pat.size_eq p;have hsv:=Val.size_eq v;have hv':=hv;rw[Val.ok_iff] at hv';have one:BdOk v.size [⟨p.var,v⟩]:=fun x hx=>by simp only[List.mem_singleton] at hx;subst hx;exact⟨hv,Nat.le_refl _⟩
  have nil:BdOk v.size []:=fun x hx=>by simp at hx
  by_cases h1:p.op=1
  ·rw[zga h1];exact⟨nil,by simp⟩
  by_cases h2:p.op=2
  ·rw[zht h2];exact⟨one,by simp only[List.length_singleton];omega⟩
  by_cases h3:p.op=3
  ·rw[zfr h3];exact⟨nil,by simp⟩
  by_cases h5:p.op=5
  ·obtain⟨hl,s0,s1⟩:=zdV h h5;have k0:=zeA n s0 hv;have k1:=zeA n s1 hv;have z0:=zcb (l:=p.kids) (i:=0) (by omega);have z1:=zcb (l:=p.kids) (i:=1) (by omega);cases hm:(zaw n (nth p.kids 0) v).2 with
   |true=>rw[zhO h5 hm];exact⟨k0.1,by have:=k0.2;dsimp only;omega⟩
   |false=>rw[zhP h5 hm];exact⟨k1.1,by have:=k1.2;omega⟩
  by_cases h6:p.op=6
  ·obtain⟨hl,s0⟩:=zdx h h6;have k0:=zeA n s0 hv;have z0:=zcb (l:=p.kids) (i:=0) (by omega);rw[zgc h6];exact⟨one.app k0.1,by have:=k0.2;simp only[xab];omega⟩
  have h4:p.op=4:=by have:=zdb h;omega
  by_cases hc:p.ctor=v.ctor
  ·rw[zhu h4 hc];have:=zpJ (f:=zaw n) (m:=v.size) (a:=p.kids) (b:=v.kids) (acc:=[]) (k:=0) (fun q hq u hu=>by
    obtain⟨i,hi,rfl⟩:=List.getElem_of_mem hq;have e:p.kids[i]=nth p.kids i:=by simp[nth,List.getD,hi]
    have:=zeA n (v:=u) (zbI h hi) (Vals.ok_mem hv'.2 u hu);rw[e];exact⟨this.1.mono (by have:=Vals.size_mem hu;omega),this.2⟩) nil (by simp)
   exact⟨this.1,by have:=this.2;omega⟩
  ·rw[zgb h4 hc];exact⟨nil,by simp⟩
theorem zs7 {w:List Data}:∀(m:Nat){t:Ty}{v:Val},zaJ w m t v=true->Hd w m t
 |0,_,_,h=>by simp[zaJ] at h
 |m+1,t,v,h=>by
  by_cases hd:t.data = -1
  ·exact .inl hd
  ·unfold zaJ at h;rw[if_neg hd] at h;split at h
   ·rename_i hc;have hl:=zgo h;refine .inr ⟨v.ctor,hc.2,hd,fun u hu=>?_⟩;obtain⟨i,hi,rfl⟩:=List.getElem_of_mem hu;have:=zen hl h i hi;have e:(zaa w t v.ctor)[i]=nth (zaa w t v.ctor) i:=by simp[nth,List.getD,hi]
    rw[e];exact zs7 m this
   ·exact absurd h (by simp)
theorem zxP {w:List Data} (hd:Dp w){m:Nat}{t:Ty}{v:Val} (ht:InS (w.length*4) t) (h:zaJ w m t v=true):0<dv (zai w) t:=by
 have a:Snd w (zai w)/\Cmp w (w.length*4+1) (zai w):=zc7 hd.cl (w.length*4+1);have h1:=zs7 m h;rcases ht with ht|ht
 ·unfold dv;rw[if_pos ht];omega
 ·refine(zkr (k:=w.length*4+1) a.2 (.inr ht) ?_).1;have:=ht.2;rw[<-this] at h1 ⊢;exact zni hd.cl ht.1 h1
theorem zdq {w:List Data}{m:Nat}{t:Ty}{v:Val} (h:zaJ w (m+1) t v=true) (hd:t.data≠ -1):v.ctor∈zah w t/\(zaa w t v.ctor).length=v.kids.length/\∀i,i<v.kids.length->zaJ w m (nth (zaa w t v.ctor) i) (nth v.kids i)=true:=by
 unfold zaJ at h;rw[if_neg hd] at h;split at h
 ·rename_i hc;have hl:=zgo h;exact⟨by unfold zah;rw[if_neg hd];exact hc.2,hl,fun i hi=>zen hl h i (by omega)⟩
 ·exact absurd h (by simp)
end Go.Proofs.YtpgdedpljcedpaaGreat
namespace Go.Proofs.YtpgdedpljcedpaaGreat
open Go
set_option linter.unusedSimpArgs false
set_option linter.unusedVariables false
def zb6 (ls:List (List Val)):List (List Val):=ls.foldl (fun acc l=>acc.flatMap fun o=>l.map fun y=>o++[y]) [[]]
def zeu:List Val:=(List.range 10).map fun(n:Nat)=>Val.mk (-1) n []
def zaN (w:List Data):Nat->Ty->List Val
 |0,_=>[]
 |n+1,t=>if t.data = -1 then zeu else (zaO w t).flatMap fun c=>(zb6 ((zaa w t c).map (zaN w n))).map (Val.mk c 0)
def zbh:List Nat->Nat
 | []=>1
 |a::r=>a*zbh r
theorem zwL (acc:List (List Val)) (l:List Val):(acc.flatMap fun o=>l.map fun y=>o++[y]).length=acc.length*l.length:=by
 induction acc with
 |nil=>simp
 |cons a r ih=>simp only[List.flatMap_cons,xaa,xac,ih,xab,Nat.add_mul];omega
theorem zu6 (ls:List (List Val)):∀acc:List (List Val),(ls.foldl (fun acc l=>acc.flatMap fun o=>l.map fun y=>o++[y]) acc).length=acc.length*zbh (ls.map List.length):=by
 induction ls with
 |nil=>intro acc;simp[zbh]
 |cons l r ih=>intro acc;simp only[List.foldl_cons,ih,zwL,xae,zbh,Nat.mul_assoc]
theorem zfy (ls:List (List Val)):(zb6 ls).length=zbh (ls.map List.length):=by unfold zb6;rw[zu6];simp
theorem zkQ (a b:List Nat):zbh (a++b)=zbh a*zbh b:=by
 induction a with
 |nil=>simp[zbh]
 |cons x r ih=>simp only[xag,zbh,ih,Nat.mul_assoc]
theorem zt1 {l:List Nat} (h:0∈l):zbh l=0:=by
 induction l with
 |nil=>simp at h
 |cons x r ih=>
  rcases List.mem_cons.1 h with h|h
  ·simp[zbh,<-h]
  ·simp[zbh,ih h]
theorem zp0 {l:List Nat} (h:∀x,x∈l->0<x):0<zbh l:=by
 induction l with
 |nil=>simp[zbh]
 |cons x r ih=>exact Nat.mul_pos (h x (by simp)) (ih (fun y hy=>h y (List.mem_cons_of_mem _ hy)))
def capN (n:Nat):Nat:=if 401<n then 401 else n
theorem zvZ (a b:Nat):capN (capN a*capN b)=capN (a*b):=by
 have key:∀x y:Nat,401<x->capN (401*capN y)=capN (x*y):=fun x y hx=>by
  rcases Nat.eq_zero_or_pos y with h|h
  ·subst h;simp[capN]
  ·have h1:401*1<=x*y:=Nat.mul_le_mul (by omega) h;have h2:1<=capN y:=by unfold capN;split<;>omega
   have h3:401*1<=401*capN y:=Nat.mul_le_mul_left _ h2;have e1:capN (401*capN y)=401:=by
    generalize capN y=z at *;unfold capN;split
    ·rfl
    ·rename_i h4;omega
   have e2:capN (x*y)=401:=by
    unfold capN;split
    ·rfl
    ·rename_i h4;omega
   rw[e1,e2]
 by_cases ha:401<a
 ·have:capN a=401:=by simp[capN,ha]
  rw[this];exact key a b ha
 ·have e1:capN a=a:=by simp[capN,ha]
  by_cases hb:401<b
  ·have:capN b=401:=by simp[capN,hb]
   rw[this,e1,Nat.mul_comm,Nat.mul_comm a b];have:=key b a hb;rw[e1] at this;exact this
  ·have e2:capN b=b:=by simp[capN,hb]
   rw[e1,e2]
theorem zlj (a:Nat):(401<a/\capN a=401)\/(a<=401/\capN a=a):=by unfold capN;split<;>omega
theorem zvY (a b:Nat):capN (capN a+capN b)=capN (a+b):=by
 have h1:=zlj a;have h2:=zlj b;have h3:=zlj (a+b);have h4:=zlj (capN a+capN b);omega
theorem zsQ (n:Nat):cap (n:Int)=(capN n:Int):=by unfold cap capN;split<;>split<;>omega
theorem zrc {f:Ty->Int}{g:Ty->Nat} (h:∀t,f t=(capN (g t):Int)) (l:List Ty):zfl f l=(capN (zbh (l.map g)):Int):=by
 have key:∀(l:List Ty) (m:Nat),l.foldl (fun n a=>cap (n*f a)) (capN m:Int)=(capN (m*zbh (l.map g)):Int):=by
  intro l;induction l with
  |nil=>intro m;simp[zbh]
  |cons a r ih=>
   intro m;simp only[List.foldl_cons,xae,zbh];rw[h a];have:cap ((capN m:Int)*(capN (g a):Int))=(capN (m*g a):Int):=by
    rw[<-Int.natCast_mul,zsQ,zvZ]
   rw[this,ih,Nat.mul_assoc]
 have:=key l 1;simpa [zfl,capN] using this
theorem zss {f:Int->Int}{g:Int->Nat} (h:∀c,f c=(capN (g c):Int)) (l:List Int):zfc f l=(capN ((l.map g).sum):Int):=by
 have key:∀(l:List Int) (m:Nat),l.foldl (fun s c=>cap (s+f c)) (capN m:Int)=(capN (m+(l.map g).sum):Int):=by
  intro l;induction l with
  |nil=>intro m;simp
  |cons a r ih=>
   intro m;simp only[List.foldl_cons,xae,List.sum_cons];rw[h a];have:cap ((capN m:Int)+(capN (g a):Int))=(capN (m+g a):Int):=by
    rw[<-Int.natCast_add,zsQ,zvY]
   rw[this,ih,Nat.add_assoc]
 have:=key l 0;simpa [zfc,capN] using this
theorem zlM {α β:Type} (f:α->List β) (l:List α):(l.flatMap f).length=(l.map fun a=>(f a).length).sum:=by
 induction l with
 |nil=>rfl
 |cons a r ih=>simp[ih]
theorem zh9 (w:List Data):∀(n:Nat) (t:Ty),zbE w n t=(capN (zaN w n t).length:Int)
 |0,t=>by simp[zbE,zaN,capN]
 |n+1,t=>by
  unfold zbE zaN;split
  ·simp[zeu,capN]
  ·rw[zss (g:=fun c=>((zb6 ((zaa w t c).map (zaN w n))).map (Val.mk c 0)).length) (fun c=>?_),zlM];rw[zrc (g:=fun t=>(zaN w n t).length) (fun t=>zh9 w n t),xac,zfy,List.map_map];rfl
theorem zex {w:List Data}{n:Nat}{t:Ty} (h:zbE w n t<=400):((zaN w n t).length:Int)=zbE w n t:=by
 rw[zh9] at h ⊢;unfold capN at *;split at h
 ·omega
 ·rename_i h1;simp[h1]
theorem zm6 {w:List Data}{n:Nat}{t:Ty}:zbE w n t=0↔zaN w n t=[]:=by
 rw[zh9,<-List.length_eq_zero_iff];unfold capN;split<;>omega
theorem zvk {w:List Data}{n:Nat}{l:List Ty} (h:(l.any fun a=>decide (zbE w n a=0))=true):zb6 (l.map (zaN w n))=[]:=by
 rw[<-List.length_eq_zero_iff,zfy];obtain⟨a,ha,h0⟩:=List.any_eq_true.1 h;refine zt1 ?_;simp only[List.map_map,List.mem_map];refine⟨a,ha, ?_⟩;have:=zm6.1 (of_decide_eq_true h0);simp[this]
theorem zws {w:List Data}{n:Nat}{t:Ty} (ht:t.data≠ -1) (hc:zbE w (n+1) t<=400){c:Int} (hm:c∈zaO w t){pre rest:List Ty}{y:Ty} (he:pre++y::rest=zaa w t c)
  (h0:((zaa w t c).any fun a=>decide (zbE w n a=0))=false):(zb6 ((pre++[y]).map (zaN w n))).length<=400/\(zaN w n y).length<=400/\(zb6 (pre.map (zaN w n))).length<=400:=by
 have h1:=zex hc;have h2:(zb6 ((zaa w t c).map (zaN w n))).length<=(zaN w (n+1) t).length:=by
  have e:zaN w (n+1) t=(zaO w t).flatMap fun c=>(zb6 ((zaa w t c).map (zaN w n))).map (Val.mk c 0):=by rw[zaN,if_neg ht]
  obtain⟨l1,l2,hl⟩:=List.append_of_mem hm;rw[e,hl];simp;omega
 have hpos:∀a,a∈zaa w t c->0<(zaN w n a).length:=fun a ha=>by
  have:=(List.any_eq_false.1 h0) a ha;simp only[decide_eq_true_eq] at this;have h3:zaN w n a≠[]:=fun h=>this (zm6.2 h);exact List.length_pos_iff.2 h3
 have h3:(zb6 ((zaa w t c).map (zaN w n))).length=zbh ((pre.map fun a=>(zaN w n a).length))*((zaN w n y).length*zbh (rest.map fun a=>(zaN w n a).length)):=by
  rw[zfy,<-he];simp only[xaf,xae,List.map_map,zkQ,zbh];rfl
 have h4:(zb6 ((pre++[y]).map (zaN w n))).length=zbh (pre.map fun a=>(zaN w n a).length)*(zaN w n y).length:=by
  rw[zfy];simp only[xaf,xae,List.map_nil,List.map_map,zkQ,zbh,Nat.mul_one];rfl
 have p1:0<zbh (rest.map fun a=>(zaN w n a).length):=zp0 (fun x hx=>by
  obtain⟨a,ha,rfl⟩:=List.mem_map.1 hx;exact hpos a (by rw[<-he];simp[ha]))
 have p2:0<zbh (pre.map fun a=>(zaN w n a).length):=zp0 (fun x hx=>by
  obtain⟨a,ha,rfl⟩:=List.mem_map.1 hx;exact hpos a (by rw[<-he];simp[ha]))
 have h5:zbh (pre.map fun a=>(zaN w n a).length)*(zaN w n y).length<=zbh ((pre.map fun a=>(zaN w n a).length))*((zaN w n y).length*zbh (rest.map fun a=>(zaN w n a).length)):=by
  rw[<-Nat.mul_assoc];exact Nat.le_mul_of_pos_right _ p1
 have h6:(zaN w n y).length<=zbh (pre.map fun a=>(zaN w n a).length)*(zaN w n y).length:=Nat.le_mul_of_pos_left _ p2;have h7:zbh (pre.map fun a=>(zaN w n a).length)<=zbh (pre.map fun a=>(zaN w n a).length)*(zaN w n y).length:=Nat.le_mul_of_pos_right _ (hpos y (by rw[<-he];simp));have h8:(zb6 (pre.map (zaN w n))).length=zbh (pre.map fun a=>(zaN w n a).length):=by rw[zfy,List.map_map];rfl
 omega
end Go.Proofs.YtpgdedpljcedpaaGreat
namespace Go.Proofs.YtpgdedpljcedpaaGreat
open Go
set_option linter.unusedSimpArgs false
set_option linter.unusedVariables false
set_option maxRecDepth 100000
set_option maxHeartbeats 2000000
theorem Val.cs_cc (l:List Val):Val.cs l=l.map Val.cc:=by
 rw[Val.cs_eq];exact List.map_congr_left (fun v _=>Val.c_eq v)
theorem zj4 {xs:List Val} (hs:xs.length<=1000000000000):FnD Tryz.prog 110 [.d (zbQ xs)] [] (.gl 77 (Val.cs xs)) [(77,some (.tok (Val.cs xs).length 3))]:=by
 refine Fn.body (fn:=Tryz.f110) (n:=8) rfl rfl rfl rfl rfl (fun w0 F0 own kept hk=>?_);refine xam 0 rfl (fun hx0=>?_) ?_;refine evc [2,4] [] ?_;refine asg ?_;refine tv ?_;refine xaT sl37 .none rfl rfl ?_;refine tv ?_;refine sqT ?_;refine xaE 77 3 .none rfl rfl ?_;refine tv ?_;refine rn [(77,some (.tok (Val.cs xs).length 3))] (r1 rfl) (.glg ?_) ⟨rfl,rfl⟩ (SubH.get ⟨?_,trivial⟩) (zay rfl);rotate_left 2;refine evc [2,4] [] ?_;refine asg ?_;refine tv ?_;refine xaS sl37 .none rfl rfl ?_;refine tv ?_;refine sqF ?_;refine xbi 77 sl37 .none rfl rfl ?_;refine evs [2,4] [] ?_;refine ap sl37 zz44 rfl rfl rfl (by intro y hy;rw[Val.cs_cc] at hy;obtain⟨z,_,rfl⟩:=List.mem_map.1 hy;rfl) (by simp[Val.cs_len];omega) ?_;refine asg ?_;refine tv ?_;refine rn [(77,some (.tok (Val.cs xs).length 3))] (r1 rfl) (.glg ?_) ⟨rfl,rfl⟩ (SubH.get ⟨?_,trivial⟩) (zay rfl);rotate_left 2;all_goals (first|((first|rfl|exact hx0.symm|(simp;done));done)|(first|rfl|(simp[hx0];rfl)|(simp;rfl)))
theorem zfe:∀(n:Nat){v:Val},v.size<=n->v.ok->FnD Tryz.prog 63 [.agg [.d (.i v.ctor),.d (.i v.num),.d (zbQ v.kids)]] [] (.agg [.d (.i v.ctor),.d (.i v.num),.d (zbQ v.kids)]) []
 |0,v,h,_=>by rw[Val.size_eq] at h;omega
 |n+1,v,h,hok=>by
  rw[Val.size_eq] at h;rw[Val.ok_iff] at hok;have hok1:=hok.1;refine bd Tryz.f63 27 [] [] fun w0 F0 own kept hk=>?_;refine bx 3001 ?_;refine ab 3002 tz44 ?_;refine tv ?_;refine bu [0,1] [_,_] st44 ?_;refine ab 3003 tz44 ?_;refine so ty44 ?_;refine tv ?_;refine xan 3003 2 7 3 rfl rfl rfl rfl ?_;refine xak (ι:=List (Val)×List (Val)) hk (fun x=>[(14,.d (.i (x.1.length:Int)))]) [5,15,16,17,18,19,20,21,22,23,24,25] (fun x=>[(3003,some (.box [.d (.i v.ctor),.d (.i v.num),.gl 7 (x.1.map Val.cc)])),(7,some (.tok (x.1.map Val.cc).length 3))]) (fun x=>x.1++x.2=v.kids) (fun x=>x.2.length) ([],v.kids) (by simp) ⟨⟨_,rfl,xaq ?_⟩,trivial⟩ ⟨?_,⟨zab ?_,trivial⟩⟩ (fun x=>rfl) (fun x hg1=>?_);focus (rfl)
  focus (first|rfl|(simp[getH];done))
  focus (rfl)
  obtain⟨pre,rest⟩:=x;dsimp only at hg1 ⊢;refine evc [] [] ?_;refine sq ?_ ?_<;>intro h1 h1p h1s<;>(try simp only[Q,Val.cs_len] at h1p);rcases rest with _|⟨y,rest⟩
  ·exfalso;simp_all
  refine xaV sl37 .none rfl rfl rfl rfl (Val.cs_at hg1) rfl ?_;refine ev ?_;refine ab 3005 tz44 ?_;refine so ty44 ?_;refine tv ?_;refine wc ztE (zfe n (v:=y) (by have:=Vals.size_mem (l:=v.kids) (v:=y) (by rw[<-hg1];simp);omega) (Vals.ok_mem hok.2 y (by rw[<-hg1];simp))) rfl rfl ?_;refine si [0] [_] sl37 tz44 ?_;refine ap sl37 zz44 rfl rfl rfl (by simp) (by have:=congrArg List.length hg1;simp at this;simp;omega) ?_;refine evd [] [] ?_;refine so ty37 ?_;refine dr ?_;refine ar ?_;refine xah ((pre++[y],rest)) ⟨(by have hz:=hg1;rw[<-hz];simp),(by simp),sx ⟨⟨_,rfl,xaq ?_⟩,trivial⟩ ⟨?_,⟨zab ?_,trivial⟩⟩⟩;focus ((simp;done))
  focus (first|rfl|(simp[getH];done))
  focus ((simp;done))
  have hrest:rest=[]:=by
   rcases rest with _|⟨a,b⟩
   ·rfl
   ·exfalso;have hz:=congrArg List.length (hg1);simp only[xaa,xab,xac] at hz;omega
  subst hrest;refine so ty44 ?_;refine tv ?_;refine rn0 (.cons (.cellA ty44 rfl rfl rfl) .nil) (.agg (.cons (.eqd ?_) (.cons (.eqd ?_) (.cons (.gld ?_) .nil))));rotate_left 3;all_goals (first|rfl|(rw[List.append_nil] at hg1;rw[<-hg1,Val.cs_cc];done))
def ze4 (w:List Data) (n:Nat) (t:Ty) (c:Int):List Val:=(zb6 ((zaa w t c).map (zaN w n))).map (Val.mk c 0)
theorem zko (w:List Data) (n:Nat) (t:Ty) (c:Int):(zb6 ((zaa w t c).map (zaN w n))).length=(ze4 w n t c).length:=by unfold ze4;simp
theorem zlN {w:List Data}{n:Nat}{t:Ty} (ht:t.data≠ -1):zaN w (n+1) t=(zaO w t).flatMap (ze4 w n t):=by rw[zaN,if_neg ht];rfl
theorem ztI {w:List Data}{n:Nat}{t:Ty}{c:Int} (h:((zaa w t c).any fun a=>decide (zbE w n a=0))=true):ze4 w n t c=[]:=by
 unfold ze4;rw[zvk h];rfl
theorem zx4 {w:List Data}{n:Nat}{t:Ty} (ht:t.data≠ -1) (hc:zbE w (n+1) t<=400){pre rest:List Int}{c:Int} (he:pre++c::rest=zaO w t):
  (pre.flatMap (ze4 w n t)).length+(ze4 w n t c).length<=400:=by
 have h:=zex hc;rw[zlN ht,<-he] at h;simp at h;have h2:(pre.flatMap (ze4 w n t)).length=(pre.map fun a=>(ze4 w n t a).length).sum:=zlM _ _;omega
theorem zpZ:∀ {ls:List (List Val)}{o:List Val},o∈zb6 ls->o.length=ls.length:=by
 intro ls;have key:∀(ls acc:List (List Val)) (m:Nat),(∀o∈acc,o.length=m)->∀o∈ls.foldl (fun acc l=>acc.flatMap fun o=>l.map fun y=>o++[y]) acc,o.length=m+ls.length:=by
  intro ls;induction ls with
  |nil=>intro acc m h o ho;exact h o ho
  |cons l r ih=>
   intro acc m h o ho;have:=ih _ (m+1) (fun o' ho'=>by
    simp only[List.mem_flatMap,List.mem_map] at ho';obtain⟨p,hp,q,_,rfl⟩:=ho';simp[h p hp]) o ho
   simp only[xab];omega
 intro o ho;have:=key ls [[]] 0 (by simp) o ho;simpa using this
theorem zwi {c:Int}{ls:List (List Val)}{v:Val} (h:v∈(zb6 ls).map (Val.mk c 0)):v.kids.length=ls.length:=by
 obtain⟨o,ho,rfl⟩:=List.mem_map.1 h;exact zpZ ho
def ze5 (c:Int) (kids:List Val) (v:Val):List Val:=kids.map fun q=>Val.mk c 0 (v.kids++[q])
theorem zkv (c:Int) (ls:List (List Val)) (l:List Val):((zb6 ls).map (Val.mk c 0)).flatMap (ze5 c l)=(zb6 (ls++[l])).map (Val.mk c 0):=by
 unfold zb6;rw[List.foldl_append];generalize ls.foldl (fun acc l=>acc.flatMap fun o=>l.map fun y=>o++[y]) [[]]=acc;simp only[List.foldl_cons,List.foldl_nil,List.flatMap_map,List.map_flatMap,List.map_map];rfl
theorem zwl {c:Int}{L K pre3 rest3 pre4 rest4:List Val}{v q:Val}{N:Nat} (h3:pre3++v::rest3=L) (h4:pre4++q::rest4=K) (hN:(L.flatMap (ze5 c K)).length<=N):
  (pre3.flatMap (ze5 c K)++pre4.map fun q=>Val.mk c 0 (v.kids++[q])).length+1<=N:=by
 subst h3;have e:((pre3++v::rest3).flatMap (ze5 c K)).length=(pre3.flatMap (ze5 c K)).length+(K.length+(rest3.flatMap (ze5 c K)).length):=by simp[ze5]
 have e2:K.length=pre4.length+(rest4.length+1):=by rw[<-h4];simp
 simp only[xaa,xac] at *;omega
theorem zmp {w:List Data} (hw:WT w){n:Nat}{m:Int} (hm:m=n+1) (hn:n<=1000){a k:Int} (ht:TyIn w.length ⟨a,k⟩):
  FnD Tryz.prog 109 [.agg [.d (.i a),.d (.i k)],.ref 3003 0,.ref 3005 0] [(3003,some (.box [.d (zal w)])),(3005,some (.box [.d (.i m)]))] (.d (.bool (decide (zbE w n ⟨a,k⟩=0)))) []:=by
 refine bd Tryz.f109 11 [] [] fun w0 F0 own kept hk=>?_;refine bx 3103 ?_;refine ev ?_;refine ar ?_;refine wc ztD (zef hw n (by omega) hn ht) rfl rfl ?_;refine ev ?_;focus (refine rn [] (r1 rfl) (.eqd ?_) ⟨rfl,rfl⟩ (SubH.get ⟨rfl,⟨rfl,trivial⟩⟩) (fun _ h=>h);all_goals ((simp[];done)))
theorem ziY {w:List Data} (hw:WT w):∀(n:Nat){a k m:Int},m=n->n<=1000->TyIn w.length ⟨a,k⟩->zbE w n ⟨a,k⟩<=400->
  FnD Tryz.prog 62 [.d (zal w),.agg [.d (.i a),.d (.i k)],.d (.i m)] [] (.d (zbQ (zaN w n ⟨a,k⟩))) []
 |0,a,k,m,hm,_,_,_=>by
  refine bd Tryz.f62 97 [7] [] fun w0 F0 own kept hk=>?_;refine bx 3003 ?_;refine bx 3004 ?_;refine bx 3005 ?_;refine evs [7] [] ?_;refine xaE 1 3 .none rfl rfl ?_;refine tv ?_;refine sq ?_ ?_<;>intro h1 h1p h1s<;>(try simp only[Q] at h1p);refine rn0 (r1 rfl) (.nild ?_);rotate_left;exfalso;simp at h1;omega;all_goals (rfl)
 |n+1,a,k,m,hm,hn,ht,hc=>by
  rcases ht with ha|⟨d,hd,hlt⟩
  ·have ha':a = -1:=ha;subst ha';refine bd Tryz.f62 97 [7] [] fun w0 F0 own kept hk=>?_;refine bx 3003 ?_;refine bx 3004 ?_;refine bx 3005 ?_;refine evs [7] [] ?_;refine xaE 1 3 .none rfl rfl ?_;refine tv ?_;refine sq ?_ ?_<;>intro h1 h1p h1s<;>(try simp only[Q] at h1p);exfalso;simp at h1;omega;refine sq ?_ ?_<;>intro h2 h2p h2s<;>(try simp only[Q] at h2p);refine xak (ι:=Nat) hk (fun i=>[(26,.d (.i (i:Int))),(7,.gl 1 (((List.range i).map fun(n:Nat)=>Val.mk (-1) n []).map Val.cc))]) [8,27,28,29,30,31,32,33,34] (fun i=>[(1,some (.tok ((((List.range i).map fun(n:Nat)=>Val.mk (-1) n []).map Val.cc)).length 3))]) (fun i=>i<=10) (fun i=>10-i) 0 (by simp) ⟨⟨_,rfl,xaq ?_⟩,⟨⟨_,rfl,LeA.glg ?_⟩,trivial⟩⟩ ⟨zab ?_,trivial⟩ (fun x=>rfl) (fun i hg1=>?_);iterate 3 focus ((simp[List.range_succ,Val.ctor,Val.num,Val.kids];done))
   refine evc [7] [] ?_;refine sq ?_ ?_<;>intro h3 h3p h3s<;>(try simp only[Q] at h3p);refine wc zyn (zoN) rfl rfl ?_;refine si [0] [_] sl37 tz44 ?_;refine ap sl37 zz44 rfl rfl rfl (by simp) (by simp;omega) ?_;refine asg ?_;refine tv ?_;refine ar ?_;refine xah (i+1) ⟨?_, ?_,sx ⟨⟨_,rfl,xaq ?_⟩,⟨⟨_,rfl,LeA.glg ?_⟩,trivial⟩⟩ ⟨zab ?_,trivial⟩⟩;iterate 2 focus (first|omega|(simp_all;done))
   iterate 3 focus ((simp[List.range_succ,Val.ctor,Val.num,Val.kids];done))
   refine rn0 (r1 rfl) (.gld ?_);rotate_left;exact absurd h2 (by simp);all_goals (have e:i=10:=(by omega);subst e;rw[zaN,if_pos rfl,Val.cs_cc];rfl)
  have hd':a=(d:Int):=hd;subst hd';have hne:(⟨d,k⟩:Ty).data≠ -1:=by show(d:Int)≠ -1;omega
  have hcl:=zgp hw (d:=d) (k:=k);refine bd Tryz.f62 97 [7,16] [] fun w0 F0 own kept hk=>?_;refine bx 3003 ?_;refine bx 3004 ?_;refine bx 3005 ?_;refine evs [7,16] [] ?_;refine xaE 1 3 .none rfl rfl ?_;refine tv ?_;refine sq ?_ ?_<;>intro h1 h1p h1s<;>(try simp only[Q,Val.cs_len,Ty.eta] at h1p);exfalso;simp at h1;omega;refine sq ?_ ?_<;>intro h2 h2p h2s<;>(try simp only[Q,Val.cs_len,Ty.eta] at h2p);exfalso;simp at h2<;>omega;refine wc zfD (zcL hw hlt) rfl rfl ?_;refine evs [7,16] [] ?_;refine xak (ι:=List (Int)×List (Int)) hk (fun x=>[(40,.d (.i (x.1.length:Int))),(7,.gl 1 ((x.1.flatMap (ze4 w n ⟨d,k⟩)).map Val.cc))]) [10,11,12,14,15,16,18,20,41,42,43,44,45,46,47,48,49,50,51,52,53,54,55,56,57,58,59,60,61,62,63,64,65,66,67,68,69,70,71,72,73,74,75,76,77,78,79,80,81,82,83,84,85,86,87,88,89,90,91,92,93,94,95] (fun x=>[(1,some (.tok (((x.1.flatMap (ze4 w n ⟨d,k⟩)).map Val.cc)).length 3))]) (fun x=>x.1++x.2=zaO w ⟨d,k⟩) (fun x=>x.2.length) ([],zaO w ⟨d,k⟩) (by simp) ⟨⟨_,rfl,xaq ?_⟩,⟨⟨_,rfl,LeA.glg ?_⟩,trivial⟩⟩ ⟨zab ?_,trivial⟩ (fun x=>rfl) (fun x hg2=>?_);iterate 3 focus ((simp;done))
  obtain⟨pre,rest⟩:=x;dsimp only at hg2 ⊢;refine evc [7,16] [] ?_;refine sq ?_ ?_<;>intro h3 h3p h3s<;>(try simp only[Q,Val.cs_len,Ty.eta] at h3p);rcases rest with _|⟨c,rest⟩
  ·exfalso;simp_all
  have hal:=zdW hw hlt (k:=k) (zcn (k:=k) (c:=c) (by rw[<-hg2];simp));have hpre:=zx4 hne hc hg2;refine xaV sl62 .none rfl rfl rfl rfl (zaI hg2) rfl ?_;refine evs [7,16] [] ?_;refine wc zfE (zc6 hw hlt (zcn (k:=k) (c:=c) (by rw[<-hg2];simp))) rfl rfl ?_;refine evs [7,16] [] ?_;refine xaL (xs:=[_,_]) rfl .none rfl rfl ?_;refine Walk.call (cr:=[]) zuk (zek (p:=fun t=>decide (zbE w n t=0)) hal zyo (fun t ht=>zmp hw (n:=n) (by omega) (by omega) (zeo hw hlt (k:=k) (zcn (k:=k) (c:=c) (by rw[<-hg2];simp)) ht)) ⟨rfl,rfl,trivial⟩ rfl rfl) rfl .none rfl rfl (LeL.refl _) ⟨rfl,rfl,trivial⟩ rfl rfl rfl ?_;refine tv ?_;refine sq ?_ ?_<;>intro h4 h4p h4s<;>(try simp only[Q,Val.cs_len,Ty.eta] at h4p);refine ar ?_;refine xah ((pre++[c],rest)) ⟨(by have hz:=hg2;rw[<-hz];simp),(by simp),sx ⟨⟨_,rfl,xaq ?_⟩,⟨⟨_,rfl,LeA.glg ?_⟩,trivial⟩⟩ ⟨zab ?_,trivial⟩⟩;iterate 3 focus (first|(simp;done)|(rw[List.flatMap_append,xaf];simp[ztI,h1s,h1p,h2s,h2p,h3s,h3p,h4s,h4p];done))
  refine bu [0] [_] st44 ?_;refine xbk 2 sl37 tz44 rfl (by decide) (ks:=[0]) (xs:=[_]) rfl rfl (by decide) (by decide) .none rfl rfl rfl rfl rfl ?_;refine evs [7,16] [] ?_;refine xak (ι:=List (Ty)×List (Ty)) hk (fun x=>[(56,.d (.i (x.1.length:Int))),(12,.d (.sl (((zb6 (x.1.map (zaN w n))).map (Val.mk c 0)).map Val.cc)))]) [14,15,16,18,20,57,58,59,60,61,62,63,64,65,66,67,68,69,70,71,72,73,74,75,76,77,78,79,80,81,82,83,84,85,86,87,88,89,90,91] (fun x=>[]) (fun x=>x.1++x.2=zaa w ⟨d,k⟩ c) (fun x=>x.2.length) ([],zaa w ⟨d,k⟩ c) (by simp) ⟨⟨_,rfl,xaq ?_⟩,⟨⟨_,rfl, ?_⟩,trivial⟩⟩ trivial (fun x=>rfl) (fun x hg3=>?_);focus ((simp;done))
  focus (((first|refine LeA.gld ?_|refine LeA.nild ?_);first|rfl|(simp;done)|(rw[List.append_nil] at hg4;rw[hg4,zkv,xaf];rfl)))
  obtain⟨pre2,rest2⟩:=x;dsimp only at hg3 ⊢;refine evc [7,16] [] ?_;refine sq ?_ ?_<;>intro h5 h5p h5s<;>(try simp only[Q,Val.cs_len,Ty.eta] at h5p);rcases rest2 with _|⟨y,rest2⟩
  ·exfalso;simp_all
  have hpl:=zws hne hc (c:=c) (by rw[<-hg2];simp) hg3 (by assumption);refine xaV zaW .none rfl rfl rfl rfl (zaI hg3) rfl ?_;refine evs [7,16] [] ?_;refine ab 3014 tz25 ?_;refine so ty25 ?_;refine tv ?_;refine ar ?_;refine wc zw6 (ziY hw n (a:=y.data) (k:=y.index) (by omega) (by omega) (zeo hw hlt (k:=k) (zcn (k:=k) (c:=c) (by rw[<-hg2];simp)) (t:=y) (by rw[<-hg3];simp)) (by have e:=zex (w:=w) (n:=n) (t:=y);have e2:=zh9 w n y;have h3:=hpl.2.1;unfold capN at e2;split at e2<;>simp only[Ty.eta] at * <;>omega)) rfl rfl ?_;refine evs [7,16] [] ?_;refine xaE 3 3 .none rfl rfl ?_;refine tv ?_;refine xak (ι:=List (Val)×List (Val)) hk (fun x=>[(67,.d (.i (x.1.length:Int))),(16,.gl 3 ((x.1.flatMap (ze5 c (zaN w n y))).map Val.cc))]) [18,20,68,69,70,71,72,73,74,75,76,77,78,79,80,81,82,83,84,85,86,87,88,89] (fun x=>[(3,some (.tok (((x.1.flatMap (ze5 c (zaN w n y))).map Val.cc)).length 3))]) (fun x=>x.1++x.2=(zb6 (pre2.map (zaN w n))).map (Val.mk c 0)) (fun x=>x.2.length) ([],(zb6 (pre2.map (zaN w n))).map (Val.mk c 0)) (by simp) ⟨⟨_,rfl,xaq ?_⟩,⟨⟨_,rfl,LeA.glg ?_⟩,trivial⟩⟩ ⟨zab ?_,trivial⟩ (fun x=>rfl) (fun x hg4=>?_);iterate 3 focus ((simp;done))
  obtain⟨pre3,rest3⟩:=x;dsimp only at hg4 ⊢;refine evc [7,16] [] ?_;refine sq ?_ ?_<;>intro h6 h6p h6s<;>(try simp only[Q,Val.cs_len,Ty.eta] at h6p);rcases rest3 with _|⟨v,rest3⟩
  ·exfalso;simp_all
  have hvk:=zwi (v:=v) (by rw[<-hg4];simp);rw[xac] at hvk;refine xaV sl37 .none rfl rfl rfl rfl (zaI hg4) rfl ?_;refine evs [7,16] [] ?_;refine ab 3018 tz44 ?_;refine so ty44 ?_;refine tv ?_;refine xak (ι:=List (Val)×List (Val)) hk (fun x=>[(73,.d (.i (x.1.length:Int))),(16,.gl 3 ((pre3.flatMap (ze5 c (zaN w n y))++x.1.map fun q=>Val.mk c 0 (v.kids++[q])).map Val.cc))]) [20,74,75,76,77,78,79,80,81,82,83,84,85,86,87,88] (fun x=>[(3,some (.tok (((pre3.flatMap (ze5 c (zaN w n y))++x.1.map fun q=>Val.mk c 0 (v.kids++[q])).map Val.cc)).length 3))]) (fun x=>x.1++x.2=zaN w n y) (fun x=>x.2.length) ([],zaN w n y) (by simp) ⟨⟨_,rfl,xaq ?_⟩,⟨⟨_,rfl,LeA.glg ?_⟩,trivial⟩⟩ ⟨zab ?_,trivial⟩ (fun x=>rfl) (fun x hg5=>?_);iterate 3 focus ((simp;done))
  obtain⟨pre4,rest4⟩:=x;dsimp only at hg5 ⊢;refine evc [7,16] [] ?_;refine sq ?_ ?_<;>intro h7 h7p h7s<;>(try simp only[Q,Val.cs_len,Ty.eta] at h7p);rcases rest4 with _|⟨q,rest4⟩
  ·exfalso;simp_all
  have hml:=zwl hg4 hg5 (N:=400) (by rw[zkv,xac];have:=hpl.1;rwa [xaf] at this);refine xaV sl37 .none rfl rfl rfl rfl (Val.cs_at hg5) rfl ?_;refine evs [7,16] [] ?_;refine ab 3020 tz44 ?_;refine so ty44 ?_;refine tv ?_;refine Walk.call (cr:=[77]) zyp (zj4 (xs:=v.kids) (by omega)) rfl .none rfl rfl (LeL.refl _) trivial rfl rfl rfl ?_;refine evd [7,16] [] ?_;refine si [0] [_] sl37 tz44 ?_;refine ap sl37 zz44 rfl rfl rfl (by intro z hz;first|(obtain⟨_,_,rfl⟩:=List.mem_map.1 hz;rfl)|(simp at hz;rw[hz];rfl)) (by first|(simp only[xac,xaa,xab,xai,Val.cs_len] at *;omega)|(rw[List.append_nil] at hg3;rw[hg3];have h10:=zko w n ⟨d,k⟩ c;simp only[xac];omega)) ?_;refine bu [0,2] [_,_] st44 ?_;refine si [0] [_] sl37 tz44 ?_;refine ap sl37 zz44 rfl rfl rfl (by intro z hz;first|(obtain⟨_,_,rfl⟩:=List.mem_map.1 hz;rfl)|(simp at hz;rw[hz];rfl)) (by first|(simp only[xac,xaa,xab,xai,Val.cs_len] at *;omega)|(rw[List.append_nil] at hg3;rw[hg3];have h10:=zko w n ⟨d,k⟩ c;simp only[xac];omega)) ?_;refine asg ?_;refine dr ?_;refine ar ?_;refine xah ((pre4++[q],rest4)) ⟨(by have hz:=hg5;rw[<-hz];simp),(by simp),sx ⟨⟨_,rfl,xaq ?_⟩,⟨⟨_,rfl,LeA.glg ?_⟩,trivial⟩⟩ ⟨zab ?_,trivial⟩⟩;iterate 3 focus (first|(simp;done)|(simp[Val.ctor,Val.num,Val.kids,Val.cs_cc];done)|(simp;omega))
  have hrest4:rest4=[]:=by
   rcases rest4 with _|⟨a,b⟩
   ·rfl
   ·exfalso;have hz:=congrArg List.length (hg5);simp only[xaa,xab,xac] at hz;omega
  subst hrest4;refine ar ?_;refine xah ((pre3++[v],rest3)) ⟨(by have hz:=hg4;rw[<-hz];simp),(by simp),sx ⟨⟨_,rfl,xaq ?_⟩,⟨⟨_,rfl,LeA.glg ?_⟩,trivial⟩⟩ ⟨zab ?_,trivial⟩⟩;iterate 3 focus (first|(simp;done)|(rw[List.append_nil] at hg5;rw[<-hg5];simp[ze5];done))
  have hrest3:rest3=[]:=by
   rcases rest3 with _|⟨a,b⟩
   ·rfl
   ·exfalso;have hz:=congrArg List.length (hg4);simp only[xaa,xab,xac] at hz;omega
  subst hrest3;refine ar ?_;refine xah ((pre2++[y],rest2)) ⟨(by have hz:=hg3;rw[<-hz];simp),(by simp),sx ⟨⟨_,rfl,xaq ?_⟩,⟨⟨_,rfl, ?_⟩,trivial⟩⟩ trivial⟩;focus ((simp;done))
  focus (((first|refine LeA.gld ?_|refine LeA.nild ?_);first|rfl|(simp;done)|(rw[List.append_nil] at hg4;rw[hg4,zkv,xaf];rfl)))
  have hrest2:rest2=[]:=by
   rcases rest2 with _|⟨a,b⟩
   ·rfl
   ·exfalso;have hz:=congrArg List.length (hg3);simp only[xaa,xab,xac] at hz;omega
  subst hrest2;refine ap sl37 zz44 rfl rfl rfl (by intro z hz;first|(obtain⟨_,_,rfl⟩:=List.mem_map.1 hz;rfl)|(simp at hz;rw[hz];rfl)) (by first|(simp only[xac,xaa,xab,xai,Val.cs_len] at *;omega)|(rw[List.append_nil] at hg3;rw[hg3];have h10:=zko w n ⟨d,k⟩ c;simp only[xac];omega)) ?_;refine asg ?_;refine tv ?_;refine ar ?_;refine xah ((pre++[c],rest)) ⟨(by have hz:=hg2;rw[<-hz];simp),(by simp),sx ⟨⟨_,rfl,xaq ?_⟩,⟨⟨_,rfl,LeA.glg ?_⟩,trivial⟩⟩ ⟨zab ?_,trivial⟩⟩;iterate 3 focus (first|(simp;done)|(rw[List.append_nil] at hg3;rw[List.flatMap_append,xaf,hg3];simp[ze4];done))
  have hrest:rest=[]:=by
   rcases rest with _|⟨a,b⟩
   ·rfl
   ·exfalso;have hz:=congrArg List.length (hg2);simp only[xaa,xab,xac] at hz;omega
  subst hrest;refine rn0 (r1 rfl) (.gld ?_);rotate_left;all_goals (rw[List.append_nil] at hg2;subst hg2;rw[zlN hne,Val.cs_cc])
end Go.Proofs.YtpgdedpljcedpaaGreat
namespace Go.Proofs.YtpgdedpljcedpaaGreat
open Go
set_option linter.unusedSimpArgs false
set_option linter.unusedVariables false
theorem zwv:∀ {ls:List (List Val)}{o:List Val},o∈zb6 ls->∀x∈o,∃l∈ls,x∈l:=by
 intro ls;have key:∀(ls acc:List (List Val)) (Q:Val->Prop),(∀o∈acc,∀x∈o,Q x)->(∀l∈ls,∀x∈l,Q x)->∀o∈ls.foldl (fun acc l=>acc.flatMap fun o=>l.map fun y=>o++[y]) acc,∀x∈o,Q x:=by
  intro ls;induction ls with
  |nil=>intro acc Q h _ o ho;exact h o ho
  |cons l r ih=>
   intro acc Q h h2 o ho;refine ih _ Q (fun o' ho' x hx=>?_) (fun l' hl'=>h2 l' (List.mem_cons_of_mem _ hl')) o ho;simp only[List.mem_flatMap,List.mem_map] at ho';obtain⟨p,hp,q,hq,rfl⟩:=ho';simp only[List.mem_append,List.mem_singleton] at hx;rcases hx with hx|hx
   ·exact h p hp x hx
   ·subst hx;exact h2 l (by simp) x hq
 intro o ho;exact key ls [[]] (fun x=>∃l∈ls,x∈l) (by simp) (fun l hl x hx=>⟨l,hl,hx⟩) o ho
theorem Vals.ok_of:∀ {l:List Val},(∀v∈l,v.ok)->Vals.ok l
 | [],_=>trivial
 |v::r,h=>⟨h v (by simp),Vals.ok_of (fun x hx=>h x (List.mem_cons_of_mem _ hx))⟩
theorem zme {w:List Data} (hw:WT w):∀(n:Nat){t:Ty},TyIn w.length t->∀v∈zaN w n t,v.ok
 |0,t,_,v,h=>by simp[zaN] at h
 |n+1,t,ht,v,h=>by
  unfold zaN at h;split at h
  ·simp only[zeu,List.mem_map] at h;obtain⟨i,_,rfl⟩:=h;exact⟨by simp,trivial⟩
  ·rename_i hne;obtain⟨c,hc,hv⟩:=List.mem_flatMap.1 h;obtain⟨o,ho,rfl⟩:=List.mem_map.1 hv;rcases ht with h0|⟨d,hd,hlt⟩
   ·exact absurd h0 hne
   obtain⟨a,k⟩:=t;have hd':a=(d:Int):=hd;subst hd';have hp:=zcn hc;refine⟨?_,Vals.ok_of (fun x hx=>?_)⟩
   ·rw[zpZ ho,xac];exact zdW hw hlt hp
   ·obtain⟨l,hl,hxl⟩:=zwv ho x hx;obtain⟨y,hy,rfl⟩:=List.mem_map.1 hl;exact zme hw n (zeo hw hlt hp hy) x hxl
end Go.Proofs.YtpgdedpljcedpaaGreat
namespace Go.Proofs.YtpgdedpljcedpaaGreat
open Go
set_option linter.unusedSimpArgs false
set_option linter.unusedVariables false
set_option maxRecDepth 100000
set_option maxHeartbeats 2000000
def vut (w:List Data) (t:Ty) (m:Int):List Val×Bool:=if za7 w t&&(zao m 0 4&&decide (zbE w m.toNat t<=400)) then (zaN w m.toNat t,true) else ([],false)
theorem zye (w:List Data) (t:Ty) (m:Int):(vut w t m).1.length<=400:=by
 unfold vut;split
 ·rename_i h;simp only[xad,decide_eq_true_eq] at h;have:=zex h.2.2;simp only;omega
 ·simp
theorem zzx {w:List Data} (hs:WSmall w) (t:Ty) (m:Int):∀v∈(vut w t m).1,v.ok:=by
 unfold vut;split
 ·rename_i h;rw[xad] at h;exact zme (zqL hs h.1) _ (zqK h.1)
 ·simp
theorem zkz {w:List Data} (hs:WSmall w){a k m:Int}:FnD Tryz.prog 22 [.d (zal w),.agg [.d (.i a),.d (.i k)],.d (.i m)] [] (.tup [.d (zbQ (vut w ⟨a,k⟩ m).1),.d (.bool (vut w ⟨a,k⟩ m).2)]) []:=by
 refine bd Tryz.f22 43 [8] [] fun w0 F0 own kept hk=>?_;refine bx 3004 ?_;refine evs [8] [] ?_;refine wc ztC (zeX hs) rfl rfl ?_;refine evs [8] [] ?_;refine sq ?_ ?_<;>intro h1 h1p h1s;refine sqT ?_;refine sqT ?_;focus (refine rn0 (r2 rfl rfl) (.tup (.cons (.nild ?_) (.cons (.eqd ?_) .nil)));all_goals ((simp[vut,Val.cs,h1s,h1p];done)))
 refine Walk.call (cr:=[]) zcS (zbg) rfl (.some rfl rfl h1) rfl rfl (LeL.refl _) trivial rfl rfl rfl ?_;refine evs [8] [(15,false)] ?_ ⟨⟨_,rfl,h1⟩,trivial⟩;refine sq ?_ ?_<;>intro h3 h3p h3s;refine sqT ?_;focus (refine rn0 (r2 rfl rfl) (.tup (.cons (.nild ?_) (.cons (.eqd ?_) .nil)));all_goals ((simp[vut,Val.cs,h1s,h1p,h3s,h3p];done)))
 try simp only[Q,zao,Val.cs_len] at h3p
 refine Walk.call (cr:=[]) ztD (zef (zqL hs (by assumption)) m.toNat (by omega) (by omega) (zqK (by assumption))) rfl (.some rfl rfl h3) rfl rfl (LeL.refl _) trivial rfl rfl rfl ?_;refine evs [8] [(20,false)] ?_ ⟨⟨_,rfl,h3⟩,trivial⟩;refine sq ?_ ?_<;>intro h5 h5p h5s<;>(try simp only[Q,zao,Val.cs_len] at h5p);focus (refine rn0 (r2 rfl rfl) (.tup (.cons (.nild ?_) (.cons (.eqd ?_) .nil)));all_goals (first|(simp only[vut];rw[if_neg (by intro hh;simp[zao] at hh;omega)];rfl)|(simp only[vut];rw[if_neg (by intro hh;simp[zao] at hh;omega)];done)))
 refine xaE 1 3 .none rfl rfl ?_;refine tv ?_;refine wc zw6 (ziY (zqL hs (by assumption)) m.toNat (by omega) (by omega) (zqK (by assumption)) (by omega)) rfl rfl ?_;refine evs [8] [] ?_;refine xak (ι:=List (Val)×List (Val)) hk (fun x=>[(32,.d (.i (x.1.length:Int))),(8,.gl 1 (x.1.map Val.cc))]) [10,33,34,35,36,37,38,39,40,41] (fun x=>[(1,some (.tok ((x.1.map Val.cc)).length 3))]) (fun x=>x.1++x.2=zaN w m.toNat ⟨a,k⟩) (fun x=>x.2.length) ([],zaN w m.toNat ⟨a,k⟩) (by simp) ⟨⟨_,rfl,xaq ?_⟩,⟨⟨_,rfl,LeA.glg ?_⟩,trivial⟩⟩ ⟨zab ?_,trivial⟩ (fun x=>rfl) (fun x hg1=>?_);iterate 3 focus (rfl)
 obtain⟨pre,rest⟩:=x;dsimp only at hg1 ⊢;have hlen:=zex (w:=w) (n:=m.toNat) (t:=⟨a,k⟩) (by omega);refine evc [8] [] ?_;refine sq ?_ ?_<;>intro h6 h6p h6s<;>(try simp only[Q,zao,Val.cs_len] at h6p);rcases rest with _|⟨y,rest⟩
 ·exfalso;simp_all
 refine xaV sl37 .none rfl rfl rfl rfl (Val.cs_at hg1) rfl ?_;refine evs [8] [] ?_;refine ab 3010 tz44 ?_;refine so ty44 ?_;refine tv ?_;refine wc ztE (zfe y.size (Nat.le_refl _) (zme (zqL hs (by assumption)) m.toNat (zqK (t:=⟨a,k⟩) (by assumption)) y (by rw[<-hg1];simp))) rfl rfl ?_;refine si [0] [_] sl37 tz44 ?_;refine ap sl37 zz44 rfl rfl rfl (by simp) (by have h9:=congrArg List.length hg1;simp at h9;simp;omega) ?_;refine asg ?_;refine tv ?_;refine ar ?_;refine xah ((pre++[y],rest)) ⟨(by have hz:=hg1;rw[<-hz];simp),(by simp),sx ⟨⟨_,rfl,xaq ?_⟩,⟨⟨_,rfl,LeA.glg ?_⟩,trivial⟩⟩ ⟨zab ?_,trivial⟩⟩;iterate 3 focus ((simp;done))
 have hrest:rest=[]:=by
  rcases rest with _|⟨a,b⟩
  ·rfl
  ·exfalso;have hz:=congrArg List.length (hg1);simp only[xaa,xab,xac] at hz;omega
 subst hrest;focus (refine rn0 (r2 rfl rfl) (.tup (.cons (.gld ?_) (.cons (.eqd ?_) .nil)));all_goals (first|(rw[List.append_nil] at hg1;subst hg1;simp only[vut];rw[if_pos (by simp[zao,h1s,h1p,h3s,h3p,h5s,h5p,h6s,h6p];omega),Val.cs_cc];done)|(simp only[vut];rw[if_pos (by simp[zao,h1s,h1p,h3s,h3p,h5s,h5p,h6s,h6p];omega)];done)))
theorem zeF {α:Type}{N:Nat}{X Y:List α} (h:N<=X.length):(X++Y).take N=X.take N:=by
 rw[List.take_append,(by omega:N-X.length=0)];simp
theorem zyb {α β:Type} [Inhabited β]{X:List α}{l:List β}{h:β->α}{j m:Nat} (hj:j<l.length) (hl:((X++(l.take j).map h).take (m+1)).length<=m):
  (X++(l.take (j+1)).map h).take (m+1)=(X++(l.take j).map h).take (m+1)++[h (nth l j)]:=by
 have e1:l.take (j+1)=l.take j++[nth l j]:=by rw[List.take_succ_eq_append_getElem hj,zaM hj]
 rw[List.length_take] at hl;have h2:(X++(l.take j).map h).length<=m:=by omega
 rw[e1,xaf,<-List.append_assoc,List.take_of_length_le (by simp at h2 ⊢;omega),List.take_of_length_le (l:=X++(l.take j).map h) (by omega)];rfl
theorem zya {α β:Type}{X:List α}{l:List β}{h:β->α}{j m:Nat} (hc:¬j<l.length\/¬((X++(l.take j).map h).take (m+1)).length<=m):
  (X++(l.take j).map h).take (m+1)=(X++l.map h).take (m+1):=by
 rcases hc with hc|hc
 ·rw[List.take_of_length_le (l:=l) (by omega)]
 ·rw[List.length_take] at hc;have e:l.map h=(l.take j).map h++(l.drop j).map h:=by rw[<-xaf,List.take_append_drop]
  rw[e,<-List.append_assoc,zeF (X:=X++(l.take j).map h) (by omega)]
theorem zs8 {α β:Type} [Inhabited β]{l:List β}{g:β->List α}{j:Nat} (hj:j<l.length):(l.take (j+1)).flatMap g=(l.take j).flatMap g++g (nth l j):=by
 rw[List.take_succ_eq_append_getElem hj,List.flatMap_append,zaM hj];simp
theorem zoI {α β:Type}{l:List β}{g:β->List α}{j m:Nat} (hc:¬j<l.length\/¬(((l.take j).flatMap g).take (m+1)).length<=m):
  ((l.take j).flatMap g).take (m+1)=(l.flatMap g).take (m+1):=by
 rcases hc with hc|hc
 ·rw[List.take_of_length_le (l:=l) (by omega)]
 ·rw[List.length_take] at hc;have e:l.flatMap g=(l.take j).flatMap g++(l.drop j).flatMap g:=by rw[<-List.flatMap_append,List.take_append_drop]
  rw[e,zeF (X:=(l.take j).flatMap g) (by omega)]
abbrev bdA (b:Bd):List AV:=[.d (.i b.var),.d (.i b.val.ctor),.d (.i b.val.num),.d (zbQ b.val.kids)]
def bdC (L:List Bd):List AV:=((L.map Bd.c).flatten).map AV.d
theorem ziR:∀ {L:List Bd}{i:Nat},i<L.length->cutC (bdC L) (i*4) 4=some (bdA (nth L i))
 |x::r,0,_=>by simp[cutC,nth,bdC,Bd.c]
 |x::r,i+1,h=>by
  have:=ziR (L:=r) (i:=i) (by simpa using h);rw[show(i+1)*4=i*4+1+1+1+1 by omega];exact this
theorem zrU:∀ {L:List Bd}{i:Nat}{e:Bd},i<L.length->putC (bdC L) (i*4) (bdA e)=some (bdC (L.set i e))
 |x::r,0,e,_=>by simp[putC,bdC,Bd.c]
 |x::r,i+1,e,h=>by
  have:=zrU (L:=r) (i:=i) (e:=e) (by simpa using h);rw[show(i+1)*4=i*4+1+1+1+1 by omega];show putC (.d _:: .d _:: .d _:: .d _::bdC r) (i*4+1+1+1+1) (bdA e)=_
  simp only[putC,this];rfl
theorem zvm:∀ {L:List Bd}{i:Nat},i<L.length->putC (bdC L) (i*4+1) [.d (.i (nth L i).val.ctor),.d (.i (nth L i).val.num),.d (zbQ (nth L i).val.kids)]=some (bdC L)
 |x::r,0,_=>by simp[putC,nth,bdC,Bd.c]
 |x::r,i+1,h=>by
  have:=zvm (L:=r) (i:=i) (by simpa using h);rw[show(i+1)*4+1=i*4+1+1+1+1+1 by omega];show putC (.d _:: .d _:: .d _:: .d _::bdC r) (i*4+1+1+1+1+1) [.d (.i (nth r i).val.ctor),.d (.i (nth r i).val.num),.d (zbQ (nth r i).val.kids)]=_
  simp only[putC,this];rfl
theorem zv1 (L:List Bd):zbT (L.map Bd.c).length 4 (bdC L)=some (L.map Bd.c):=by
 have:=zeb (f:=Bd.c) (k:=4) (l:=L) (fun _ _=>rfl);rw[xac,<-this];congr 1
 unfold bdC;rw[List.map_flatten,List.flatMap_def,List.map_map];rfl
def zgx (L:List Bd) (j:Nat):List Bd:=(L.set (j+1) (nth L j)).set j (nth L (j+1))
theorem zla {L:List Bd}{j:Nat}:(zgx L j).length=L.length:=by simp[zgx]
def zdf:Nat->List Bd->List Bd
 |0,L=>L
 |j+1,L=>if (nth L (j+1)).var<(nth L j).var then zdf j (zgx L j) else L
theorem zx6 {j:Nat}{L:List Bd} (h:(nth L (j+1)).var<(nth L j).var):zdf (j+1) L=zdf j (zgx L j):=by
 conv=>lhs;unfold zdf
 rw[if_pos h]
theorem zvz {j:Nat}{L:List Bd} (h:¬(nth L (j+1)).var<(nth L j).var):zdf (j+1) L=L:=by
 unfold zdf;rw[if_neg h]
theorem ziq:∀(j:Nat) (L:List Bd),(zdf j L).length=L.length
 |0,_=>rfl
 |j+1,L=>by
  unfold zdf;split
  ·rw[ziq j,zla]
  ·rfl
def zdL:Nat->Nat->List Bd->List Bd
 |0,_,L=>L
 |k+1,i,L=>zdL k (i+1) (zdf i L)
theorem zn2 {n i:Nat}{L:List Bd} (h:i<n):zdL (n-i) i L=zdL (n-(i+1)) (i+1) (zdf i L):=by
 obtain⟨k,rfl⟩:∃k,n=i+1+k:=⟨n-(i+1),by omega⟩;rw[show i+1+k-i=k+1 by omega,show i+1+k-(i+1)=k by omega];rfl
theorem zvF {n i:Nat}{L:List Bd} (h:n<=i):zdL (n-i) i L=L:=by
 rw[show n-i=0 by omega];rfl
theorem zfk (L:List Bd):AV.idsL (bdC L)=[]:=by
 unfold bdC;generalize (L.map Bd.c).flatten=l;induction l with
 |nil=>rfl
 |cons x r ih=>simpa [AV.idsL,AV.ids] using ih
theorem zzO (b:UInt8):0<=IntKind.i64.wrap (b.toNat:Int)/\IntKind.i64.wrap (b.toNat:Int)<=255:=by
 have h:b.toNat<256:=b.toNat_lt;rw[zd7 ⟨by omega,by omega⟩];omega
theorem ar8 (b:UInt8):I64 (0+IntKind.i64.wrap (b.toNat:Int)):=by
 have:=zzO b;constructor<;>omega
theorem zkY {j:Nat}{L:List Bd} (h:j=0\/¬(nth L j).var<(nth L (j-1)).var):zdf j L=L:=by
 cases j with
 |zero=>rfl
 |succ j=>exact zvz (h.resolve_left (by omega))
theorem zkO {L L':List Bd}:za8 [(9,some (.box (bdC L)))] [(9,some (.box (bdC L')))] (AV.tup []) []=true:=by
 simp only[za8,List.all_cons,List.all_nil,zcf,zbU,AV.idsL,AV.ids,zak,zfk,xae,List.map_nil];rfl
section
variable {c:Ctx}{env:Env}{hp:Hp}{K:Kt}
theorem CWp.condF {x y:Code} (hn:CWp c y ⟨env,hp⟩ K):CWp c (.cond (.const (.bool false)) x y) ⟨env,hp⟩ K:=by
 intro a w hr;have he:a.eval (.const (.bool false)) = .bool false:=rfl;exact wp_cond_split he (fun h=>by cases h) (fun _=>hn a w hr)
end
def cmpV (x y:Int):Int:=if x<y then -1 else if y<x then 1 else 0
theorem zjf {x y:Int}:cmpV x y<0↔x<y:=by
 unfold cmpV;split
 ·omega
 ·split<;>omega
theorem zvP {n:Int} (h:0<=n) (h2:n<=12):IntKind.u64.wrap n=n:=by
 obtain⟨k,rfl⟩:=Int.eq_ofNat_of_zero_le h;have:k<=12:=by omega
 have h3:k=0\/k=1\/k=2\/k=3\/k=4\/k=5\/k=6\/k=7\/k=8\/k=9\/k=10\/k=11\/k=12:=by omega
 rcases h3 with rfl|rfl|rfl|rfl|rfl|rfl|rfl|rfl|rfl|rfl|rfl|rfl|rfl<;>rfl
theorem zwQ {n:Int} (h:0<=n) (h2:n<=12):IntKind.u8.wrap n=n:=by
 obtain⟨k,rfl⟩:=Int.eq_ofNat_of_zero_le h;have:k<=12:=by omega
 have h3:k=0\/k=1\/k=2\/k=3\/k=4\/k=5\/k=6\/k=7\/k=8\/k=9\/k=10\/k=11\/k=12:=by omega
 rcases h3 with rfl|rfl|rfl|rfl|rfl|rfl|rfl|rfl|rfl|rfl|rfl|rfl|rfl<;>rfl
theorem zkl {x:Int}:FnD Tryz.prog 168 [.d (.i x)] [] (.d (.bool false)) []:=by
 refine bd Tryz.f168 6 [] [] fun w0 F0 own kept hk=>?_;refine rq ?_;rotate_left;all_goals ((refine congrArg D.bool ?_;simp;done))
theorem zoz {x y:Int}:FnD Tryz.prog 115 [.d (.i x),.d (.i y)] [] (.d (.i (cmpV x y))) []:=by
 refine bd Tryz.f115 20 [] [] fun w0 F0 own kept hk=>?_;refine wc zuA (zkl) rfl rfl ?_;refine ev ?_;refine wc zuA (zkl) rfl rfl ?_;refine ev ?_;refine sq ?_ ?_<;>intro h1 h1p h1s<;>(try simp only[Q] at h1p);refine sq ?_ ?_<;>intro h2 h2p h2s<;>(try simp only[Q] at h2p);refine rq ?_;rotate_left;refine rq ?_;rotate_left;refine sq ?_ ?_<;>intro h3 h3p h3s<;>(try simp only[Q] at h3p);refine rq ?_;rotate_left;refine sq ?_ ?_<;>intro h4 h4p h4s<;>(try simp only[Q] at h4p);refine rq ?_;rotate_left;refine sq ?_ ?_<;>intro h5 h5p h5s<;>(try simp only[Q] at h5p);refine rq ?_;rotate_left;refine rq ?_;rotate_left;all_goals (refine congrArg D.i ?_;unfold cmpV;first|(simp_all;done)|(rw[if_pos (by omega)];done)|(rw[if_neg (by omega),if_neg (by omega)];done))
theorem zly {a b:Bd}:FnD Tryz.prog 114 [.agg (bdA a),.agg (bdA b)] [] (.d (.i (cmpV a.var b.var))) []:=by
 refine bd Tryz.f114 10 [] [] fun w0 F0 own kept hk=>?_;refine bx 3002 ?_;refine bx 3003 ?_;refine ev ?_;refine wc zyr (zoz) rfl rfl ?_;refine ev ?_;refine rq ?_;rotate_left;all_goals (rfl)
theorem zqh {m:Int} (h0:0<=m) (h12:m<=12):FnD Tryz.prog 208 [.d (.int .u64 m)] [] .any []:=by
 have hu:=zwQ h0 h12;refine bd Tryz.f208 25 [4,8,14] [] fun w0 F0 own kept hk=>?_;refine xaU .none rfl rfl rfl ?_;refine tv ?_;refine sq ?_ ?_<;>intro h1 h1p h1s<;>(try simp only[Q] at h1p);exfalso;omega;refine xaU .none rfl rfl rfl ?_;refine tv ?_;refine sq ?_ ?_<;>intro h2 h2p h2s<;>(try simp only[Q] at h2p);exfalso;omega;refine xaU .none rfl rfl rfl ?_;refine tv ?_;refine sq ?_ ?_<;>intro h3 h3p h3s<;>(try simp only[Q] at h3p);exfalso;omega;refine xaM (k':= .u8) (by kernel_rfl) (by kernel_rfl) .none rfl rfl ?_;refine xa0 (i:=m.toNat) un9 .none rfl rfl rfl (by rw[hu];omega) (List.getElem?_eq_getElem (by first|omega|(simp;omega))) ?_;refine xaM (by rw[un5];rfl) un3 .none rfl rfl ?_;refine evs [4,8,14] [] ?_;refine ar ?_ (ar8 _);refine rn0 (r1 rfl) (.any _)
theorem zy0:Callee Tryz.prog 208:=⟨fun args w=>zad (fn:=Tryz.f208) rfl rfl (by decide) args w⟩
theorem zlF {m:Int} (h0:0<=m) (h12:m<=12):FnD Tryz.prog 167 [.d (.int .u64 m)] [] .any []:=by
 refine Fn.body (fn:=Tryz.f167) (n:=8) rfl rfl rfl rfl rfl (fun w0 F0 own kept hk=>?_);refine sr ?_;refine asg ?_;refine tv ?_;refine CWp.seq ?_;refine CWp.condF ?_;refine CWp.skip ?_;refine sr ?_;refine mv ?_;refine wc zy0 (zqh h0 h12) rfl rfl ?_;refine asg ?_;refine tv ?_;refine CWp.ret ?_;refine⟨_,_,[],(.cons (.tmp rfl) .nil),(.any _),⟨rfl,rfl⟩,HSub.nil,zxo⟩
theorem zh5 {L:List Bd}{f:Nat} (hn:L.length<=12) (hcal:Callee Tryz.prog f) (hf:∀a b:Bd,FnD Tryz.prog f ([.agg (bdA a),.agg (bdA b)]++[]) [] (.d (.i (cmpV a.var b.var))) []):
  FnD Tryz.prog 199 [.ms 9 L.length,.d (.i 0),.d (.i L.length),.fn f []] [(9,some (.box (bdC L)))] (.tup []) [(9,some (.box (bdC (zdL (L.length-1) 1 L))))]:=by
 refine bd Tryz.f199 53 [26,31,46,50] [] fun w0 F0 own kept hk=>?_;refine ar ?_;refine xak (ι:=Nat×List Bd) hk (fun x=>[(8,.d (.i (x.1:Int)))]) [9,12,13,14,15,16,17,18,19,20,21,22,23,24,25,26,27,28,29,30,31,32,33,34,35,36,37,38,39,40,41,42,43,44,45,46,47,48,49,50,51,52] (fun x=>[(9,some (.box (bdC x.2)))]) (fun x=>1<=x.1/\x.1<=L.length+1/\x.2.length=L.length/\zdL (L.length-x.1) x.1 x.2=zdL (L.length-1) 1 L) (fun x=>L.length-x.1) (1,L) ⟨by simp,by simp,rfl,rfl⟩ ⟨⟨_,rfl,xaq ?_⟩,trivial⟩ ⟨?_,trivial⟩ (fun x=>rfl) (fun x hg1=>?_);focus (first|rfl|omega)
 focus (first|rfl|(show some (Res.box _)=some (Res.box _);rw[<-hg2.2.2,zkY (by first|(left;omega)|(right;rw[<-zjf];assumption))]))
 refine evc [26,31,46,50] [] ?_;refine sq ?_ ?_<;>intro h1 h1p h1s<;>(try simp only[Q] at h1p);refine xak (ι:=Nat×List Bd) hk (fun y=>[(9,.d (.i (y.1:Int)))]) [18,19,20,21,22,23,24,25,26,27,28,29,30,31,32,33,34,35,36,37,38,39,40,41,42,43,44,45,46,47,48,49,50,51,52] (fun y=>[(9,some (.box (bdC y.2)))]) (fun y=>y.1<=x.1/\y.2.length=L.length/\zdf y.1 y.2=zdf x.1 x.2) (fun y=>y.1) (x.1,x.2) ⟨Nat.le_refl _,hg1.2.2.1,rfl⟩ ⟨⟨_,rfl,xaq ?_⟩,trivial⟩ ⟨?_,trivial⟩ (fun x=>rfl) (fun y hg2=>?_);focus (first|rfl|omega)
 focus (first|rfl|(show some (Res.box _)=some (Res.box _);unfold zgx;rw[show y.1-1+1=y.1 by omega]))
 refine evc [26,31,46,50] [] ?_;refine sq ?_ ?_<;>intro h2 h2p h2s<;>(try simp only[Q] at h2p);refine xaZ sl40 (.some rfl rfl h2) rfl rfl rfl rfl (by omega) ?_;refine xa2 ziz (.some rfl rfl h2) rfl rfl rfl ((ziR (by omega))) ?_;refine evd [26,31,46,50] [(21,true)] ?_ ⟨⟨_,rfl,h2⟩,trivial⟩;refine ar ?_;refine xaZ (i:=y.1-1) sl40 (.some rfl rfl h2) rfl rfl rfl (by omega) (by omega) ?_;refine xa2 ziz (.some rfl rfl h2) rfl rfl rfl ((ziR (by omega))) ?_;refine xaJ (cr:=[]) hcal (hf _ _) rfl (.some rfl rfl h2) rfl rfl rfl (LeL.refl _) trivial rfl (by first|rfl|(simp only[za8,List.all_cons,List.all_nil,zcf,zbU,AV.idsL,AV.ids,zak,zaj,xae,List.map_nil,zfk];rfl)) (by first|rfl|(simp only[zaA,occH,occE,Res.ids,xag,List.nil_append,AV.idsL,AV.ids,zak,zaj,zas,zaQ,xae,List.map_nil,upC,zfk];rfl)) ?_;refine evd [26,31,46,50] [(21,true)] ?_ ⟨⟨_,rfl,h2⟩,trivial⟩;refine dr ?_;refine sq ?_ ?_<;>intro h3 h3p h3s<;>(try simp only[Q] at h3p);refine ar ?_;refine ar ?_;refine xaZ (i:=y.1-1) sl40 .none rfl rfl rfl (by omega) (by omega) ?_;refine xa2 ziz .none rfl rfl rfl ((ziR (by omega))) ?_;refine evd [26,31,46,50] [] ?_;refine xaZ sl40 .none rfl rfl rfl rfl (by omega) ?_;refine xa2 ziz .none rfl rfl rfl ((ziR (by omega))) ?_;refine xaZ sl40 .none rfl rfl rfl rfl (by omega) ?_;refine Walk.store ziz .none rfl rfl rfl rfl rfl rfl (by simp) ((zrU (by first|omega|(simp;omega)))) ?_;refine xaZ (i:=y.1-1) sl40 .none rfl rfl rfl (by omega) (by omega) ?_;refine Walk.store ziz .none rfl rfl rfl rfl rfl rfl (by simp) ((zrU (by first|omega|(simp;omega)))) ?_;refine dr ?_;refine ar ?_;refine xah ((y.1-1,zgx y.2 (y.1-1))) ⟨⟨by dsimp only;omega,by dsimp only;rw[zla];exact hg2.2.1,by have hlt:(nth y.2 (y.1-1+1)).var<(nth y.2 (y.1-1)).var:=(by rw[show y.1-1+1=y.1 by omega];exact zjf.1 (by assumption));have hk:=zx6 hlt;rw[show y.1-1+1=y.1 by omega] at hk;dsimp only;rw[<-hk];exact hg2.2.2⟩,(by dsimp only;omega),sx ⟨⟨_,rfl,xaq ?_⟩,trivial⟩ ⟨?_,trivial⟩⟩;focus (first|rfl|omega)
 focus (first|rfl|(show some (Res.box _)=some (Res.box _);unfold zgx;rw[show y.1-1+1=y.1 by omega]))
 refine ar ?_;refine xah ((x.1+1,zdf x.1 x.2)) ⟨⟨by dsimp only;omega,by dsimp only;omega,by dsimp only;rw[ziq];exact hg1.2.2.1,by dsimp only;rw[<-zn2 (by omega)];exact hg1.2.2.2⟩,(by dsimp only;omega),sx ⟨⟨_,rfl,xaq ?_⟩,trivial⟩ ⟨?_,trivial⟩⟩;focus (first|rfl|omega)
 focus (first|rfl|(show some (Res.box _)=some (Res.box _);rw[<-hg2.2.2,zkY (by first|(left;omega)|(right;rw[<-zjf];assumption))]))
 refine dr ?_;refine sqF ?_;refine ar ?_;refine xah ((x.1+1,zdf x.1 x.2)) ⟨⟨by dsimp only;omega,by dsimp only;omega,by dsimp only;rw[ziq];exact hg1.2.2.1,by dsimp only;rw[<-zn2 (by omega)];exact hg1.2.2.2⟩,(by dsimp only;omega),sx ⟨⟨_,rfl,xaq ?_⟩,trivial⟩ ⟨?_,trivial⟩⟩;focus (first|rfl|omega)
 focus (first|rfl|(show some (Res.box _)=some (Res.box _);rw[<-hg2.2.2,zkY (by first|(left;omega)|(right;rw[<-zjf];assumption))]))
 refine rn [(9,some (.box (bdC (zdL (L.length-1) 1 L))))] .nil (.refl _) ⟨rfl,rfl⟩ (SubO.get ⟨.inr ?_,⟨.inl rfl,trivial⟩⟩) (zay rfl);rotate_left;all_goals (first|((rfl);done)|(show some (Res.box _)=some (Res.box _);rw[<-hg1.2.2.2,zvF (by omega)]))
theorem zhX {f:Nat}:FnD Tryz.prog 199 [.d (.sl []),.d (.i 0),.d (.i 0),.fn f []] [] (.tup []) []:=by
 refine bd Tryz.f199 53 [] [] fun w0 F0 own kept hk=>?_;refine ar ?_;refine xak (ι:=Unit) hk (fun u=>[(8,.d (.i 1))]) [9,12,13,14,15,16,17,18,19,20,21,22,23,24,25,26,27,28,29,30,31,32,33,34,35,36,37,38,39,40,41,42,43,44,45,46,47,48,49,50,51,52] (fun u=>[]) (fun u=>True) (fun u=>0) () trivial ⟨⟨_,rfl,xaq ?_⟩,trivial⟩ trivial (fun x=>rfl) (fun u hg1=>?_);focus ((simp;done))
 refine evc [] [] ?_;refine sq ?_ ?_<;>intro h1 h1p h1s<;>(try simp only[Q] at h1p);exfalso;simp at h1;refine rn0 .nil (.refl _)
theorem zlB {L:List Bd}{f:Nat} (hn:L.length<=12) (hcal:Callee Tryz.prog f) (hf:∀a b:Bd,FnD Tryz.prog f ([.agg (bdA a),.agg (bdA b)]++[]) [] (.d (.i (cmpV a.var b.var))) []):
  FnD Tryz.prog 166 [.ms 9 L.length,.d (.i 0),.d (.i L.length),.any,.fn f []] [(9,some (.box (bdC L)))] (.tup []) [(9,some (.box (bdC (zdL (L.length-1) 1 L))))]:=by
 refine bd Tryz.f166 148 [] [] fun w0 F0 own kept hk=>?_;refine xak (ι:=Unit) hk (fun u=>[(1,.d (.i 0)),(2,.d (.i (L.length:Int)))]) [3,10,11,12,13,14,15,16,17,18,19,20,21,22,23,24,25,26,27,28,29,30,31,32,33,34,35,36,37,38,39,40,41,42,43,44,45,46,47,48,49,50,51,52,53,54,55,56,57,58,59,60,61,62,63,64,65,66,67,68,69,70,71,72,73,74,75,76,77,78,79,80,81,82,83,84,85,86,87,88,89,90,91,92,93,94,95,96,97,98,99,100,101,102,103,104,105,106,107,108,109,110,111,112,113,114,115,116,117,118,119,120,121,122,123,124,125,126,127,128,129,130,131,132,133,134,135,136,137,138,139,140,141,142,143,144,145,146,147] (fun u=>[(9,some (.box (bdC L)))]) (fun u=>True) (fun u=>0) () trivial ⟨⟨_,rfl,xaq ?_⟩,⟨⟨_,rfl,xaq ?_⟩,trivial⟩⟩ ⟨?_,trivial⟩ (fun x=>rfl) (fun u hg1=>?_);iterate 2 focus ((simp;done))
 focus (first|rfl|(simp[getH];done))
 refine evc [] [] ?_;refine ar ?_;refine sq ?_ ?_<;>intro h1 h1p h1s<;>(try simp only[Q] at h1p);refine Walk.call (cr:=[]) zuE (zh5 hn hcal hf) rfl .none rfl rfl (.cons (xas (by first|rfl|(simp;done))) (.cons (.refl _) (.cons (.refl _) (.cons (.refl _) .nil)))) ⟨rfl,trivial⟩ rfl zkO rfl ?_;refine tv ?_;refine rn [(9,some (.box (bdC (zdL (L.length-1) 1 L))))] .nil (.refl _) ⟨rfl,rfl⟩ (SubO.get ⟨.inr ?_,⟨.inl rfl,trivial⟩⟩) (zay rfl);rotate_left;exfalso;omega;all_goals (first|((rfl);done)|(rfl))
theorem zk3 {f:Nat}:FnD Tryz.prog 166 [.d (.sl []),.d (.i 0),.d (.i 0),.any,.fn f []] [] (.tup []) []:=by
 refine bd Tryz.f166 148 [] [] fun w0 F0 own kept hk=>?_;refine xak (ι:=Unit) hk (fun u=>[(1,.d (.i 0)),(2,.d (.i 0))]) [3,10,11,12,13,14,15,16,17,18,19,20,21,22,23,24,25,26,27,28,29,30,31,32,33,34,35,36,37,38,39,40,41,42,43,44,45,46,47,48,49,50,51,52,53,54,55,56,57,58,59,60,61,62,63,64,65,66,67,68,69,70,71,72,73,74,75,76,77,78,79,80,81,82,83,84,85,86,87,88,89,90,91,92,93,94,95,96,97,98,99,100,101,102,103,104,105,106,107,108,109,110,111,112,113,114,115,116,117,118,119,120,121,122,123,124,125,126,127,128,129,130,131,132,133,134,135,136,137,138,139,140,141,142,143,144,145,146,147] (fun u=>[]) (fun u=>True) (fun u=>0) () trivial ⟨⟨_,rfl,xaq ?_⟩,⟨⟨_,rfl,xaq ?_⟩,trivial⟩⟩ trivial (fun x=>rfl) (fun u hg1=>?_);iterate 2 focus ((simp;done))
 refine evc [] [] ?_;refine ar ?_;refine sq ?_ ?_<;>intro h1 h1p h1s<;>(try simp only[Q] at h1p);refine wc zuE (zhX) rfl rfl ?_;refine tv ?_;refine rn0 .nil (.refl _);exfalso;simp at h1
theorem zk2 {L:List Bd}{f:Nat} (hn:L.length<=12) (hcal:Callee Tryz.prog f) (hf:∀a b:Bd,FnD Tryz.prog f ([.agg (bdA a),.agg (bdA b)]++[]) [] (.d (.i (cmpV a.var b.var))) []):
  FnD Tryz.prog 113 [.ms 9 L.length,.fn f []] [(9,some (.box (bdC L)))] (.tup []) [(9,some (.box (bdC (zdL (L.length-1) 1 L))))]:=by
 have hu:=zvP (n:=(L.length:Int)) (by omega) (by omega);refine bd Tryz.f113 14 [] [] fun w0 F0 own kept hk=>?_;refine xaM (k':= .u64) (by kernel_rfl) (by kernel_rfl) .none rfl rfl ?_;refine Walk.call (cr:=[]) zuz (zlF (by rw[hu];omega) (by rw[hu];omega)) rfl .none rfl rfl (LeL.refl _) trivial rfl (by first|rfl|(simp only[za8,List.all_cons,List.all_nil,zcf,zbU,AV.idsL,AV.ids,zak,zaj,xae,List.map_nil,zfk];rfl)) (by first|rfl|(simp only[zaA,occH,occE,Res.ids,xag,List.nil_append,AV.idsL,AV.ids,zak,zaj,zas,zaQ,xae,List.map_nil,upC,zfk];rfl)) ?_;refine ev ?_;refine Walk.call (cr:=[]) zuy (zlB hn hcal hf) rfl .none rfl rfl (.cons (xas (by first|rfl|(simp;done))) (.cons (.refl _) (.cons (.refl _) (.cons (.refl _) (.cons (.refl _) .nil))))) ⟨rfl,trivial⟩ rfl zkO rfl ?_;refine tv ?_;refine rn [(9,some (.box (bdC (zdL (L.length-1) 1 L))))] .nil (.refl _) ⟨rfl,rfl⟩ (SubO.get ⟨.inr ?_,⟨.inl rfl,trivial⟩⟩) (zay rfl);rotate_left;all_goals (first|((rfl);done)|(rfl))
theorem zj6 {f:Nat}:FnD Tryz.prog 113 [.d (.sl []),.fn f []] [] (.tup []) []:=by
 refine bd Tryz.f113 14 [] [] fun w0 F0 own kept hk=>?_;refine xaM (k':= .u64) (by kernel_rfl) (by kernel_rfl) .none rfl rfl ?_;refine wc zuz (zlF (m:=IntKind.u64.wrap 0) (by decide) (by decide)) rfl rfl ?_;refine ev ?_;refine wc zuy (zk3) rfl rfl ?_;refine tv ?_;refine rn0 .nil (.refl _)
theorem zt9 {L:List Bd}{j:Nat} (h:j+1<L.length):(zgx L j).Perm L:=by
 have e:L=L.take j++nth L j::nth L (j+1)::L.drop (j+2):=by
  have h1:L.drop j=nth L j::L.drop (j+1):=zaK (by omega);have h2:L.drop (j+1)=nth L (j+1)::L.drop (j+2):=zaK (by omega);conv=>lhs;rw[<-List.take_append_drop j L,h1,h2]
 have hl:(L.take j).length=j:=by rw[List.length_take];omega
 generalize nth L j=x at e;generalize nth L (j+1)=y at e;generalize L.take j=A at *;generalize L.drop (j+2)=B at *;subst e;have n1:nth (A++x::y::B) j=x:=by rw[<-hl];simp[nth,List.getD]
 have n2:nth (A++x::y::B) (j+1)=y:=by rw[<-hl];simp[nth,List.getD]
 unfold zgx;rw[n1,n2];have s1:((A++x::y::B).set (j+1) x).set j y=A++y::x::B:=by
  rw[<-hl];simp
 rw[s1];exact(List.Perm.swap x y B).append_left A
theorem znZ:∀(j:Nat) (L:List Bd),j<L.length->(zdf j L).Perm L
 |0,L,_=>List.Perm.refl _
 |j+1,L,h=>by
  unfold zdf;split
  ·exact(znZ j (zgx L j) (by rw[zla];omega)).trans (zt9 h)
  ·exact List.Perm.refl _
theorem zn3:∀(k i:Nat) (L:List Bd),i+k<=L.length->(zdL k i L).Perm L
 |0,_,_,_=>List.Perm.refl _
 |k+1,i,L,h=>by
  unfold zdL;exact(zn3 k (i+1) (zdf i L) (by rw[ziq];omega)).trans (znZ i L (by omega))
def zlt (L:List Bd):List Bd:=zdL (L.length-1) 1 L
theorem zn1 (L:List Bd):(zlt L).Perm L:=by
 cases L with
 |nil=>exact List.Perm.refl _
 |cons x r=>exact zn3 _ _ _ (by simp;omega)
theorem zvE (L:List Bd):(zlt L).length=L.length:=(zn1 L).length_eq
theorem zwH {m:Nat}{L:List Bd} (h:BdOk m L):BdOk m (zlt L):=fun x hx=>h x ((zn1 L).mem_iff.1 hx)
def zgd (n:Nat) (p:Pat) (v:Val):List Bd×Bool:=if (zaw n p v).2=true then (zlt (zaw n p v).1,true) else ([],false)
theorem zlS (n:Nat) (p:Pat) (v:Val):(zgd n p v).2=(zaw n p v).2:=by
 unfold zgd;split<;>simp_all
structure MatchOk (w:List Data) (n m:Nat) (t:Ty) (p:Pat) (v:Val):Prop where
 shape:zaq w n t p=true
 fits:zaJ w m t v=true
 pok:p.ok
 vok:v.ok
 psz:p.size<=100
 vsz:v.size<=100
theorem MatchOk.kid {w:List Data}{n m:Nat}{t:Ty}{p:Pat}{v:Val} (h:MatchOk w (n+1) m t p v) (h4:p.op=4) (hc:p.ctor=v.ctor):
  p.kids.length=v.kids.length/\∃k,∀i,i<p.kids.length->MatchOk w n k (nth (zag w t p) i) (nth p.kids i) (nth v.kids i):=by
 obtain⟨ho,hlen⟩:=zbJ h.shape;have hct:=zb8 ho h4;have hdt:t.data≠ -1:=fun e=>by unfold zah at hct;rw[if_pos e] at hct;simp at hct
 have hk:=fun i (hi:i<p.kids.length)=>zbI h.shape hi;have hpk:=(Pat.ok_iff p).1 h.pok;have hvk:=(Val.ok_iff v).1 h.vok;have hps:=Pat.size_eq p;have hvs:=Val.size_eq v;cases m with
 |zero=>have:=h.fits;simp[zaJ] at this
 |succ m=>
  obtain⟨f1,f2,f3⟩:=zdq h.fits hdt;have ht4:=za0 (w:=w) (t:=t) h4;rw[ht4] at hlen;rw[<-hc] at f2 f3;refine⟨by omega,m,fun i hi=>?_⟩;have z1:=zcb (l:=p.kids) hi;have z2:=zwq (l:=v.kids) (i:=i) (by omega);refine⟨hk i hi,by rw[ht4];exact f3 i (by omega),Pats.ok_mem hpk.2 _ (zac hi),Vals.ok_mem hvk.2 _ (zac (by omega)), ?_, ?_⟩
  ·have:=h.psz;omega
  ·have:=h.vsz;omega
theorem MatchOk.two {w:List Data}{n m:Nat}{t:Ty}{p:Pat}{v:Val} (h:MatchOk w (n+1) m t p v) (h5:p.op=5):
  p.kids.length=2/\MatchOk w n m t (nth p.kids 0) v/\MatchOk w n m t (nth p.kids 1) v:=by
 obtain⟨hl,s0,s1⟩:=zdV h.shape h5;have hpk:=(Pat.ok_iff p).1 h.pok;have hps:=Pat.size_eq p;have z0:=zcb (l:=p.kids) (i:=0) (by omega);have z1:=zcb (l:=p.kids) (i:=1) (by omega);have hs:=h.psz;exact⟨hl,⟨s0,h.fits,Pats.ok_mem hpk.2 _ (zac (by omega)),h.vok,by omega,h.vsz⟩,⟨s1,h.fits,Pats.ok_mem hpk.2 _ (zac (by omega)),h.vok,by omega,h.vsz⟩⟩
theorem MatchOk.one {w:List Data}{n m:Nat}{t:Ty}{p:Pat}{v:Val} (h:MatchOk w (n+1) m t p v) (h6:p.op=6):
  p.kids.length=1/\MatchOk w n m t (nth p.kids 0) v:=by
 obtain⟨hl,s0⟩:=zdx h.shape h6;have hpk:=(Pat.ok_iff p).1 h.pok;have hps:=Pat.size_eq p;have z0:=zcb (l:=p.kids) (i:=0) (by omega);have hs:=h.psz;exact⟨hl,⟨s0,h.fits,Pats.ok_mem hpk.2 _ (zac (by omega)),h.vok,by omega,h.vsz⟩⟩
theorem zlh (l:List Bd):∀x∈l.map Bd.c,x.length=4:=fun x hx=>by
 obtain⟨y,_,rfl⟩:=List.mem_map.1 hx;rfl
theorem zcq {w:List Data}:∀(n m:Nat){t:Ty}{p:Pat}{v:Val},MatchOk w n m t p v->
  FnD Tryz.prog 112 [.agg [.d (.i p.op),.d (.i p.ctor),.d (.i p.n),.d (.i p.m),.d (.i p.var),.d (zae p.kids)],.agg [.d (.i v.ctor),.d (.i v.num),.d (zbQ v.kids)]] [] (.tup [.d (zrh (zaw n p v).1),.d (.bool (zaw n p v).2)]) []
 |0,m,t,p,v,h=>by have:=h.shape;simp[zaq] at this
 |n+1,m,t,p,v,h=>by
  have hop:=zdb h.shape;have k4:=h.kid;have k5:=h.two;have k6:=h.one;have hsz:=h.psz;have hps:=Pat.size_eq p;have hkl:=((Pat.ok_iff p).1 h.pok).1;have mok:=fun {t:Ty}{q:Pat}{u:Val} (hs:zaq w n t q=true) (hu:u.ok)=>zeA n hs hu;by_cases c4:p.op=4/\p.ctor=v.ctor
  ·obtain⟨hl,k,hkm⟩:=k4 c4.1 c4.2;have hm4:=zhu (n:=n) c4.1 c4.2;refine bd Tryz.f112 105 [10] [] fun w0 F0 own kept hk=>?_;refine bx 3002 ?_;refine bx 3003 ?_;refine evs [10] [] ?_;refine sq ?_ ?_<;>intro h1 h1p h1s<;>(try simp only[Q,Pat.cs_len] at h1p);exfalso;omega;refine sq ?_ ?_<;>intro h2 h2p h2s<;>(try simp only[Q,Pat.cs_len] at h2p);exfalso;omega;refine sq ?_ ?_<;>intro h3 h3p h3s<;>(try simp only[Q,Pat.cs_len] at h3p);exfalso;omega;refine sq ?_ ?_<;>intro h4 h4p h4s<;>(try simp only[Q,Pat.cs_len] at h4p);exfalso;omega;refine sq ?_ ?_<;>intro h5 h5p h5s<;>(try simp only[Q,Pat.cs_len] at h5p);exfalso;omega;refine sq ?_ ?_<;>intro h6 h6p h6s<;>(try simp only[Q,Pat.cs_len] at h6p);exfalso;omega;refine xaE 1 4 .none rfl rfl ?_;refine tv ?_;refine xak (ι:=Nat×List Bd) hk (fun x=>[(83,.d (.i (x.1:Int))),(10,.gl 1 (x.2.map Bd.c))]) [4,5,11,12,13,14,84,85,86,87,88,89,90,91,92,93,94,95,96,97,98,99,100,101,102,103] (fun x=>[(1,some (.tok ((x.2.map Bd.c)).length 4))]) (fun x=>x.1<=p.kids.length/\zbz (zaw n) (p.kids.drop x.1) (v.kids.drop x.1) x.2=zbz (zaw n) p.kids v.kids []/\x.2.length+Pats.size (p.kids.drop x.1)<=Pats.size p.kids) (fun x=>p.kids.length-x.1) (0,[]) ⟨by simp,rfl,by simp⟩ ⟨⟨_,rfl,xaq ?_⟩,⟨⟨_,rfl,LeA.glg ?_⟩,trivial⟩⟩ ⟨zab ?_,trivial⟩ (fun x=>rfl) (fun x hg1=>?_);iterate 3 focus (first|rfl|omega|(simp;done)|(simp;omega))
   refine evc [10] [] ?_;refine sq ?_ ?_<;>intro h7 h7p h7s<;>(try simp only[Q,Pat.cs_len] at h7p);refine xaV sl26 .none rfl rfl rfl rfl (zaE (by omega)) rfl ?_;refine evs [10] [] ?_;refine ab 3012 tz28 ?_;refine evs [10] [] ?_;refine so ty28 ?_;refine tv ?_;refine xaV sl37 .none rfl rfl rfl rfl (zpg (by omega)) rfl ?_;refine evd [10] [] ?_;refine wc zep (zcq n k (hkm x.1 (by omega))) rfl rfl ?_;refine evd [10] [] ?_;refine dr ?_;refine sq ?_ ?_<;>intro h8 h8p h8s<;>(try simp only[Q,Pat.cs_len] at h8p);refine rn0 (r2 rfl rfl) (.tup (.cons (.nild ?_) (.cons (.eqd ?_) .nil)));rotate_left 2;refine ap sl40 zqQ rfl rfl rfl (by intro x hx;exact zlh _ x hx) (by have:=(mok (hkm x.1 (by omega)).shape (hkm x.1 (by omega)).vok).2;have:=zd4 (l:=p.kids) (i:=x.1) (by omega);have:=hg1.2.2;simp;omega) ?_;refine asg ?_;refine tv ?_;refine ar ?_;refine xah ((x.1+1,x.2++(zaw n (nth p.kids x.1) (nth v.kids x.1)).1)) ⟨⟨by dsimp only;omega,by dsimp only;rw[<-zlQ (by omega) (by omega) (by simp_all)];exact hg1.2.1,by have:=(mok (hkm x.1 (by omega)).shape (hkm x.1 (by omega)).vok).2;have:=zd4 (l:=p.kids) (i:=x.1) (by omega);have:=hg1.2.2;dsimp only;rw[xaa];omega⟩,(by dsimp only;omega),sx ⟨⟨_,rfl,xaq ?_⟩,⟨⟨_,rfl,LeA.glg ?_⟩,trivial⟩⟩ ⟨zab ?_,trivial⟩⟩;iterate 3 focus (first|rfl|omega|(simp;done)|(simp;omega))
   refine rn0 (r2 rfl rfl) (.tup (.cons (.gld ?_) (.cons (.eqd ?_) .nil)));rotate_left 2;all_goals (first|(rw[hm4,<-hg1.2.1,znx (by omega)];all_goals rfl)|(rw[hm4,<-hg1.2.1,ztT (by omega) (by omega) (by simp_all)];all_goals rfl))
  ·have hn4:p.op=4->zaw (n+1) p v=([],false):=fun h4=>zgb h4 (fun hc=>c4 ⟨h4,hc⟩);refine bd Tryz.f112 105 [] [] fun w0 F0 own kept hk=>?_;refine bx 3002 ?_;refine bx 3003 ?_;refine ev ?_;refine sq ?_ ?_<;>intro h1 h1p h1s<;>(try simp only[Q,Pat.cs_len] at h1p);refine rn0 (r2 rfl rfl) (.tup (.cons (.nild ?_) (.cons (.eqd ?_) .nil)));rotate_left 2;refine sq ?_ ?_<;>intro h2 h2p h2s<;>(try simp only[Q,Pat.cs_len] at h2p);refine bu [0,1] [_,_] zqJ ?_;refine si [0] [_] sl40 zoq ?_;refine ev ?_;refine rn0 (r2 rfl rfl) (.tup (.cons (.eqd ?_) (.cons (.eqd ?_) .nil)));rotate_left 2;refine sq ?_ ?_<;>intro h3 h3p h3s<;>(try simp only[Q,Pat.cs_len] at h3p);refine wc zcS (zbg) rfl rfl ?_;refine ev ?_;refine rn0 (r2 rfl rfl) (.tup (.cons (.nild ?_) (.cons (.eqd ?_) .nil)));rotate_left 2;refine sq ?_ ?_<;>intro h4 h4p h4s<;>(try simp only[Q,Pat.cs_len] at h4p);refine xaV (i:=0) sl26 .none rfl rfl rfl rfl (zaE (by first|(have:=(k5 (by omega)).1;omega)|(have:=(k6 (by omega)).1;omega))) rfl ?_;refine evd [] [] ?_;refine wc zep (zcq n m (k5 (by omega)).2.1) rfl rfl ?_;refine evd [] [] ?_;refine dr ?_;refine sq ?_ ?_<;>intro h5 h5p h5s<;>(try simp only[Q,Pat.cs_len] at h5p);refine rn0 (r2 rfl rfl) (.tup (.cons (.eqd ?_) (.cons (.eqd ?_) .nil)));rotate_left 2;refine xaV (i:=1) sl26 .none rfl rfl rfl rfl (zaE (by first|(have:=(k5 (by omega)).1;omega)|(have:=(k6 (by omega)).1;omega))) rfl ?_;refine evd [] [] ?_;refine wc zep (zcq n m (k5 (by omega)).2.2) rfl rfl ?_;refine evd [] [] ?_;refine dr ?_;refine rn0 (r2 rfl rfl) (.tup (.cons (.eqd ?_) (.cons (.eqd ?_) .nil)));rotate_left 2;refine sq ?_ ?_<;>intro h6 h6p h6s<;>(try simp only[Q,Pat.cs_len] at h6p);refine xaV (i:=0) sl26 .none rfl rfl rfl rfl (zaE (by first|(have:=(k5 (by omega)).1;omega)|(have:=(k6 (by omega)).1;omega))) rfl ?_;refine evd [] [] ?_;refine wc zep (zcq n m (k6 (by omega)).2) rfl rfl ?_;refine evd [] [] ?_;refine dr ?_;refine bu [0,1] [_,_] zqJ ?_;refine xbk 2 sl40 zoq rfl (by decide) (ks:=[0]) (xs:=[_]) rfl rfl (by decide) (by decide) .none rfl rfl rfl rfl rfl ?_;refine ev ?_;refine ap sl40 zqQ rfl rfl rfl (by intro x hx;exact zlh _ x hx) (by have:=(mok (k6 (by omega)).2.shape h.vok).2;have:=zcb (l:=p.kids) (i:=0) (by have:=(k6 (by omega)).1;omega);simp;omega) ?_;refine ev ?_;refine rn0 (r2 rfl rfl) (.tup (.cons (.gld ?_) (.cons (.eqd ?_) .nil)));rotate_left 2;refine sq ?_ ?_<;>intro h7 h7p h7s<;>(try simp only[Q,Pat.cs_len] at h7p);refine rn0 (r2 rfl rfl) (.tup (.cons (.nild ?_) (.cons (.eqd ?_) .nil)));rotate_left 2;exfalso;apply c4;omega;all_goals (first|(rw[zga (by omega)];all_goals rfl)|(rw[zht (by omega)];all_goals rfl)|(rw[zfr (by omega)];all_goals rfl)|(rw[zhO (by omega) (by assumption)];all_goals rfl)|(rw[zhP (by omega) (by simp_all)];all_goals rfl)|(rw[zgc (by omega)];all_goals rfl)|(rw[hn4 (by omega)];all_goals rfl))
structure VarsOk (l:List Bd) (vs:List Vt):Prop where
 len:l.length=vs.length
 nod:(l.map Bd.var).Nodup
 sub:∀x∈l.map Bd.var,x∈vs.map Vt.var
theorem zlR {f:Pat->Val->List Bd×Bool}{g:Ty->Pat->List Vt}:∀ {a:List Ty}{b:List Pat}{c:List Val}{acc:List Bd},a.length=b.length->b.length=c.length->
  (∀i,i<b.length->(f (nth b i) (nth c i)).2=true->zcm (g (nth a i) (nth b i))=true->VarsOk (f (nth b i) (nth c i)).1 (g (nth a i) (nth b i)))->((zaX g a b).map Vt.var).Nodup->
  (zbz f b c acc).2=true->∃X,(zbz f b c acc).1=acc++X/\VarsOk X (zaX g a b)
 | [],[],[],acc,_,_,_,_,_=>⟨[],by simp[zbz],⟨rfl,by simp,by simp⟩⟩
 |t::a,p::b,v::c,acc,h1,h2,h3,h4,h5=>by
  unfold zbz at h5 ⊢;split at h5
  ·rename_i hok;rw[if_pos hok];simp only[zaX,xaf] at h4 ⊢;obtain⟨n1,n2,n3⟩:=List.nodup_append.1 h4;have k0:=h3 0 (by simp) hok (decide_eq_true n1);obtain⟨X,e,k⟩:=zlR (f:=f) (g:=g) (a:=a) (b:=b) (c:=c) (acc:=acc++(f p v).1) (by simpa using h1) (by simpa using h2) (fun i hi=>h3 (i+1) (by simpa using hi)) n2 h5;refine⟨(f p v).1++X,by rw[e,List.append_assoc],⟨?_, ?_, ?_⟩⟩
   ·have:=k0.len;have e0:(f p v).1.length=(g t p).length:=this;rw[xaa,xaa,e0,k.len]
   ·rw[xaf];exact List.nodup_append.2 ⟨k0.nod,k.nod,fun x hx y hy=>n3 x (k0.sub x hx) y (k.sub y hy)⟩
   ·intro x hx;rw[xaf] at hx ⊢;rcases List.mem_append.1 hx with h|h
    ·exact List.mem_append_left _ (k0.sub x h)
    ·exact List.mem_append_right _ (k.sub x h)
  ·exact absurd h5 (by simp)
 | [],_::_,_,_,h,_,_,_,_=>by simp at h
 |_::_,[],_,_,h,_,_,_,_=>by simp at h
 | [],[],_::_,_,_,h,_,_,_=>by simp at h
 |_::_,_::_,[],_,_,h,_,_,_=>by simp at h
theorem zui {a b:List Vt} (ha:zcm a=true) (hb:zcm b=true) (h:zdn a b=true):a.length=b.length/\∀x∈b.map Vt.var,x∈a.map Vt.var:=by
 rw[zmN hb] at h;unfold zd9 at h;simp only[xad,decide_eq_true_eq,Bool.not_eq_true',List.any_eq_false,Bool.not_eq_true,decide_eq_false_iff_not,Classical.not_not] at h;have na:=of_decide_eq_true ha;refine⟨h.1,fun x hx=>?_⟩;by_cases hm:x∈a.map Vt.var
 ·exact hm
 ·have:=zkM (a:=x::a.map Vt.var) (b:=b.map Vt.var) (List.nodup_cons.2 ⟨hm,na⟩) (fun y hy=>by
   rcases List.mem_cons.1 hy with rfl|hy
   ·exact hx
   ·obtain⟨z,hz,rfl⟩:=List.mem_map.1 hy;exact List.mem_map.2 ⟨z,h.2 z hz,rfl⟩)
  simp only[xab,xac] at this;omega
theorem zfN {w:List Data}:∀(n m:Nat){t:Ty}{p:Pat}{v:Val},MatchOk w n m t p v->linP w n t p=true->(zaw n p v).2=true->VarsOk (zaw n p v).1 (zaC w n t p)
 |0,m,t,p,v,h,_,_=>by have:=h.shape;simp[zaq] at this
 |n+1,m,t,p,v,h,hl,hm=>by
  have hop:=zdb h.shape;have hnod:=of_decide_eq_true (zey w (n+1) t p h.shape hl);by_cases h5:p.op=5
  ·obtain⟨hk,k0,k1⟩:=h.two h5;have e1:=zvM (w:=w) (t:=t) h5;obtain⟨x,y,hxy⟩:∃x y,p.kids=[x,y]:=by
    match hp:p.kids,hk with
    | [x,y],_=>exact⟨x,y,rfl⟩
   have ex:nth p.kids 0=x:=by rw[hxy];rfl
   have ey:nth p.kids 1=y:=by rw[hxy];rfl
   simp only[linP,xad,if_pos h5,e1,hxy] at hl;rw[ex] at k0;rw[ey] at k1;have e2:zaC w (n+1) t p=zaC w n t x:=by
    simp only[zaC,zaR,zcK,e1,hxy,if_pos h5];rw[if_neg (by omega)];simp[zaX]
   simp only[all2,xad,and_true] at hl;rw[e2];cases hm0:(zaw n (nth p.kids 0) v).2 with
   |true=>
    rw[zhO h5 hm0];rw[ex] at hm0 ⊢;exact zfN n m k0 hl.1.1 hm0
   |false=>
    rw[zhP h5 hm0] at hm ⊢;rw[ey] at hm ⊢;have k:=zfN n m k1 hl.1.2 hm;obtain⟨s1,s2⟩:=zui (zey w n t x k0.shape hl.1.1) (zey w n t y k1.shape hl.1.2) hl.2;exact⟨by rw[k.len];exact s1.symm,k.nod,fun z hz=>s2 z (k.sub z hz)⟩
  have hv:zcK w t p=zag w t p:=by unfold zcK;rw[if_neg h5]
  by_cases h1:p.op=1
  ·rw[zga h1];have:zaC w (n+1) t p=[]:=by
    simp only[zaC,zaR,hv];rw[if_neg (by omega)];unfold zag;rw[if_neg (by omega),if_neg (by omega),if_neg (by omega)];simp[zaX]
   rw[this];exact⟨rfl,by simp,by simp⟩
  by_cases h2:p.op=2
  ·rw[zht h2];have:zaC w (n+1) t p=[⟨p.var,t⟩]:=by
    simp only[zaC,zaR,hv];rw[if_pos (by omega)];unfold zag;rw[if_neg (by omega),if_neg (by omega),if_neg (by omega)];simp[zaX]
   rw[this];exact⟨rfl,by simp,by simp⟩
  by_cases h3:p.op=3
  ·rw[zfr h3];have:zaC w (n+1) t p=[]:=by
    simp only[zaC,zaR,hv];rw[if_neg (by omega)];unfold zag;rw[if_neg (by omega),if_neg (by omega),if_neg (by omega)];simp[zaX]
   rw[this];exact⟨rfl,by simp,by simp⟩
  simp only[linP,if_neg h5,xad] at hl;by_cases h6:p.op=6
  ·obtain⟨hk,k0⟩:=h.one h6;have e1:=zvN (w:=w) (t:=t) h6;obtain⟨x,hx⟩:∃x,p.kids=[x]:=by
    match hp:p.kids,hk with
    | [x],_=>exact⟨x,rfl⟩
   have ex:nth p.kids 0=x:=by rw[hx];rfl
   have e2:zaC w (n+1) t p=⟨p.var,t⟩::zaC w n t x:=by
    simp only[zaC,zaR,hv,e1,hx];rw[if_pos (by omega)];simp[zaX]
   rw[zgc h6] at hm ⊢;rw[e1,hx] at hl;simp only[all2,xad,and_true] at hl;rw[ex] at k0 hm ⊢;rw[e2] at hnod ⊢;have k:=zfN n m k0 hl.1 hm;rw[xae] at hnod;have hnod':=List.nodup_cons.1 hnod;refine⟨by simp[k.len], ?_,fun z hz=>?_⟩
   ·rw[xae];exact List.nodup_cons.2 ⟨fun hh=>hnod'.1 (k.sub _ hh),k.nod⟩
   ·rw[xae] at hz ⊢;rcases List.mem_cons.1 hz with h|h
    ·rw[h];exact List.mem_cons_self
    ·exact List.mem_cons_of_mem _ (k.sub z h)
  have h4:p.op=4:=by omega
  by_cases hc:p.ctor=v.ctor
  ·obtain⟨hlen,k,hk⟩:=h.kid h4 hc;rw[zhu h4 hc] at hm ⊢;have e2:zaC w (n+1) t p=zaX (zaC w n) (zag w t p) p.kids:=by
    simp only[zaC,zaR,hv];rw[if_neg (by omega),List.nil_append]
   rw[e2] at hnod ⊢;have hl2:=(zbJ h.shape).2;obtain⟨X,e,kx⟩:=zlR (f:=zaw n) (g:=zaC w n) (a:=zag w t p) (acc:=[]) hl2.symm hlen (fun i hi hmi hni=>zfN n k (hk i hi) (zen hl2.symm hl.1 i (by omega)) hmi) hnod hm;rw[e,List.nil_append];exact kx
  ·rw[zgb h4 hc] at hm;exact absurd hm (by simp)
theorem zvd {w:List Data}{m:Nat}{t:Ty}{p:Pat}{v:Val} (h:MatchOk w 10 m t p v) (hp:isP w t p=true) (hm:(zaw 10 p v).2=true):(zaw 10 p v).1.length<=6:=by
 unfold isP at hp;simp only[xad] at hp;have k:=zfN 10 m h hp.2.2 hm;rw[k.len];have e:=(zfh w 10 t p 0).1;have hw:zbO w 10 t p 0=true:=by
  unfold zbO;rw[hp.1,hp.2.2];have:=of_decide_eq_true hp.2.1;simp;omega
 rw[if_pos hw] at e;have:=zmx w 10 t p 0 _ e;exact zpU this.1 this.2
theorem zgX {w:List Data}:∀(n m:Nat){t:Ty}{p:Pat}{v:Val},MatchOk w n m t p v->(zaw n p v).2=true->
  FnD Tryz.prog 112 [.agg [.d (.i p.op),.d (.i p.ctor),.d (.i p.n),.d (.i p.m),.d (.i p.var),.d (zae p.kids)],.agg [.d (.i v.ctor),.d (.i v.num),.d (zbQ v.kids)]] [] (.tup [.gv 9 ((zaw n p v).1.map Bd.c),.d (.bool true)]) [(9,some (.tok ((zaw n p v).1.map Bd.c).length 4))]
 |0,m,t,p,v,h,_=>by have:=h.shape;simp[zaq] at this
 |n+1,m,t,p,v,h,hm=>by
  have hop:=zdb h.shape;have k4:=h.kid;have k5:=h.two;have k6:=h.one;have hsz:=h.psz;have hps:=Pat.size_eq p;have hkl:=((Pat.ok_iff p).1 h.pok).1;have mok:=fun {t:Ty}{q:Pat}{u:Val} (hs:zaq w n t q=true) (hu:u.ok)=>zeA n hs hu;by_cases h4:p.op=4
  ·have hc:p.ctor=v.ctor:=by
    by_cases hc:p.ctor=v.ctor
    ·exact hc
    ·rw[zgb h4 hc] at hm;exact absurd hm (by simp)
   obtain⟨hl,k,hkm⟩:=k4 h4 hc;have hm4:=zhu (n:=n) h4 hc;have hall:=fun(i:Nat) (hi:i<p.kids.length)=>znw (f:=zaw n) (a:=p.kids) (b:=v.kids) (acc:=[]) (by rw[<-hm4];exact hm) i hi (by omega);refine bd Tryz.f112 105 [10] [] fun w0 F0 own kept hk=>?_;refine bx 3002 ?_;refine bx 3003 ?_;refine evs [10] [] ?_;refine sq ?_ ?_<;>intro h1 h1p h1s<;>(try simp only[Q,Pat.cs_len] at h1p);exfalso;omega;refine sq ?_ ?_<;>intro h2 h2p h2s<;>(try simp only[Q,Pat.cs_len] at h2p);exfalso;omega;refine sq ?_ ?_<;>intro h3 h3p h3s<;>(try simp only[Q,Pat.cs_len] at h3p);exfalso;omega;refine sq ?_ ?_<;>intro h4 h4p h4s<;>(try simp only[Q,Pat.cs_len] at h4p);exfalso;omega;refine sq ?_ ?_<;>intro h5 h5p h5s<;>(try simp only[Q,Pat.cs_len] at h5p);exfalso;omega;refine sq ?_ ?_<;>intro h6 h6p h6s<;>(try simp only[Q,Pat.cs_len] at h6p);exfalso;omega;refine xaF 9 4 .none rfl rfl ?_;refine tv ?_;refine xak (ι:=Nat×List Bd) hk (fun x=>[(83,.d (.i (x.1:Int))),(10,.gv 9 (x.2.map Bd.c))]) [4,5,11,12,13,14,84,85,86,87,88,89,90,91,92,93,94,95,96,97,98,99,100,101,102,103] (fun x=>[(9,some (.tok ((x.2.map Bd.c)).length 4))]) (fun x=>x.1<=p.kids.length/\zbz (zaw n) (p.kids.drop x.1) (v.kids.drop x.1) x.2=zbz (zaw n) p.kids v.kids []/\x.2.length+Pats.size (p.kids.drop x.1)<=Pats.size p.kids) (fun x=>p.kids.length-x.1) (0,[]) ⟨by simp,rfl,by simp⟩ ⟨⟨_,rfl,xaq ?_⟩,⟨⟨_,rfl,LeA.gvg ?_⟩,trivial⟩⟩ ⟨zab ?_,trivial⟩ (fun x=>rfl) (fun x hg1=>?_);iterate 3 focus (rfl)
   refine evc [10] [] ?_;refine sq ?_ ?_<;>intro h7 h7p h7s<;>(try simp only[Q,Pat.cs_len] at h7p);refine xaV sl26 .none rfl rfl rfl rfl (zaE (by omega)) rfl ?_;refine evs [10] [] ?_;refine ab 3012 tz28 ?_;refine evs [10] [] ?_;refine so ty28 ?_;refine tv ?_;refine xaV sl37 .none rfl rfl rfl rfl (zpg (by omega)) rfl ?_;refine evd [10] [] ?_;refine wc zep (zcq n k (hkm x.1 (by omega))) rfl rfl ?_;refine evd [10] [] ?_;refine dr ?_;refine sq ?_ ?_<;>intro h8 h8p h8s<;>(try simp only[Q,Pat.cs_len] at h8p);exfalso;have:=hall x.1 (by omega);simp_all;refine xaD sl40 zqQ .none rfl rfl rfl rfl (zdr rfl (by rfl)) (by intro x hx;exact zlh _ x hx) (by have:=(mok (hkm x.1 (by omega)).shape (hkm x.1 (by omega)).vok).2;have:=zd4 (l:=p.kids) (i:=x.1) (by omega);have:=hg1.2.2;simp;omega) (by have:=(mok (hkm x.1 (by omega)).shape (hkm x.1 (by omega)).vok).2;have:=zd4 (l:=p.kids) (i:=x.1) (by omega);have:=hg1.2.2;simp;omega) ?_;refine asg ?_;refine tv ?_;refine ar ?_;refine xah ((x.1+1,x.2++(zaw n (nth p.kids x.1) (nth v.kids x.1)).1)) ⟨⟨by dsimp only;omega,by dsimp only;rw[<-zlQ (by omega) (by omega) (hall x.1 (by omega))];exact hg1.2.1,by have:=(mok (hkm x.1 (by omega)).shape (hkm x.1 (by omega)).vok).2;have:=zd4 (l:=p.kids) (i:=x.1) (by omega);have:=hg1.2.2;dsimp only;rw[xaa];omega⟩,(by dsimp only;omega),sx ⟨⟨_,rfl,xaq ?_⟩,⟨⟨_,rfl,LeA.gvg ?_⟩,trivial⟩⟩ ⟨zab ?_,trivial⟩⟩;iterate 3 focus ((simp;done))
   refine rn [(9,some (.tok ((zaw (n+1) p v).1.map Bd.c).length 4))] (r2 rfl rfl) (.tup (.cons (.gvg ?_) (.cons (.eqd ?_) .nil))) ⟨rfl,rfl⟩ (SubH.get ⟨?_,trivial⟩) (zay rfl);rotate_left 3;all_goals (((first|rfl|(rw[hm4,<-hg1.2.1,znx (by omega)];all_goals rfl));done))
  by_cases h5:p.op=5
  ·obtain⟨hl,k0,k1⟩:=k5 h5;cases hm0:(zaw n (nth p.kids 0) v).2 with
   |true=>
    have e:=zhO (n:=n) h5 hm0;rw[e];refine bd Tryz.f112 105 [] [] fun w0 F0 own kept hk=>?_;refine bx 3002 ?_;refine bx 3003 ?_;refine ev ?_;refine sq ?_ ?_<;>intro h1 h1p h1s<;>(try simp only[Q,Pat.cs_len] at h1p);exfalso;omega;refine sq ?_ ?_<;>intro h2 h2p h2s<;>(try simp only[Q,Pat.cs_len] at h2p);exfalso;omega;refine sq ?_ ?_<;>intro h3 h3p h3s<;>(try simp only[Q,Pat.cs_len] at h3p);exfalso;omega;refine sq ?_ ?_<;>intro h4 h4p h4s<;>(try simp only[Q,Pat.cs_len] at h4p);refine xaV (i:=0) sl26 .none rfl rfl rfl rfl (zaE (by omega)) rfl ?_;refine evd [] [] ?_;refine Walk.call (cr:=[9]) zep (zgX n m k0 hm0) rfl .none rfl rfl (LeL.refl _) trivial rfl rfl rfl ?_;refine evd [] [] ?_;refine dr ?_;refine sq ?_ ?_<;>intro h5 h5p h5s<;>(try simp only[Q,Pat.cs_len] at h5p);refine rn [(9,some (.tok ((zaw n (nth p.kids 0) v).1.map Bd.c).length 4))] (r2 rfl rfl) (.tup (.cons (.gvg ?_) (.cons (.eqd ?_) .nil))) ⟨rfl,rfl⟩ (SubH.get ⟨?_,trivial⟩) (zay rfl);rotate_left 3;exfalso;simp_all;exfalso;omega;all_goals (first|((rfl);done)|(rfl))
   |false=>
    have e:=zhP (n:=n) h5 hm0;rw[e] at hm ⊢;have hf0:=zcq n m k0;rw[hm0] at hf0;refine bd Tryz.f112 105 [] [] fun w0 F0 own kept hk=>?_;refine bx 3002 ?_;refine bx 3003 ?_;refine ev ?_;refine sq ?_ ?_<;>intro h1 h1p h1s<;>(try simp only[Q,Pat.cs_len] at h1p);exfalso;omega;refine sq ?_ ?_<;>intro h2 h2p h2s<;>(try simp only[Q,Pat.cs_len] at h2p);exfalso;omega;refine sq ?_ ?_<;>intro h3 h3p h3s<;>(try simp only[Q,Pat.cs_len] at h3p);exfalso;omega;refine sq ?_ ?_<;>intro h4 h4p h4s<;>(try simp only[Q,Pat.cs_len] at h4p);refine xaV (i:=0) sl26 .none rfl rfl rfl rfl (zaE (by omega)) rfl ?_;refine evd [] [] ?_;refine wc zep (hf0) rfl rfl ?_;refine evd [] [] ?_;refine dr ?_;refine sq ?_ ?_<;>intro h5 h5p h5s<;>(try simp only[Q,Pat.cs_len] at h5p);exfalso;simp_all;refine xaV (i:=1) sl26 .none rfl rfl rfl rfl (zaE (by omega)) rfl ?_;refine evd [] [] ?_;refine Walk.call (cr:=[9]) zep (zgX n m k1 hm) rfl .none rfl rfl (LeL.refl _) trivial rfl rfl rfl ?_;refine evd [] [] ?_;refine dr ?_;refine rn [(9,some (.tok ((zaw n (nth p.kids 1) v).1.map Bd.c).length 4))] (r2 rfl rfl) (.tup (.cons (.gvg ?_) (.cons (.eqd ?_) .nil))) ⟨rfl,rfl⟩ (SubH.get ⟨?_,trivial⟩) (zay rfl);rotate_left 3;exfalso;omega;all_goals (first|((rfl);done)|(rfl))
  ·have hw:p.op=3->zao v.num p.n p.m=true:=fun h3=>by rw[zfr h3] at hm;exact hm
   have h6m:p.op=6->(zaw n (nth p.kids 0) v).2=true:=fun h6=>by rw[zgc h6] at hm;exact hm
   refine bd Tryz.f112 105 [4] [] fun w0 F0 own kept hk=>?_;refine bx 3002 ?_;refine bx 3003 ?_;refine asg ?_;refine evs [4] [] ?_;refine sq ?_ ?_<;>intro h1 h1p h1s<;>(try simp only[Q,Pat.cs_len] at h1p);refine xaF 9 4 .none rfl rfl ?_;refine evs [4] [] ?_;refine rn [(9,some (.tok ((zaw (n+1) p v).1.map Bd.c).length 4))] (r2 rfl rfl) (.tup (.cons (.gvg ?_) (.cons (.eqd ?_) .nil))) ⟨rfl,rfl⟩ (SubH.get ⟨?_,trivial⟩) (zay rfl);rotate_left 3;refine sq ?_ ?_<;>intro h2 h2p h2s<;>(try simp only[Q,Pat.cs_len] at h2p);refine bu [0,1] [_,_] zqJ ?_;refine xbl 9 sl40 zoq rfl (by decide) (ks:=[0]) (xs:=[_]) rfl rfl (by decide) (by decide) .none rfl rfl rfl rfl rfl ?_;refine asg ?_;refine evs [4] [] ?_;refine rn [(9,some (.tok ((zaw (n+1) p v).1.map Bd.c).length 4))] (r2 rfl rfl) (.tup (.cons (.gvg ?_) (.cons (.eqd ?_) .nil))) ⟨rfl,rfl⟩ (SubH.get ⟨?_,trivial⟩) (zay rfl);rotate_left 3;refine sq ?_ ?_<;>intro h3 h3p h3s<;>(try simp only[Q,Pat.cs_len] at h3p);refine wc zcS (zbg) rfl rfl ?_;refine xaF 9 4 .none rfl rfl ?_;refine evs [4] [] ?_;refine rn [(9,some (.tok ((zaw (n+1) p v).1.map Bd.c).length 4))] (r2 rfl rfl) (.tup (.cons (.gvg ?_) (.cons (.eqd ?_) .nil))) ⟨rfl,rfl⟩ (SubH.get ⟨?_,trivial⟩) (zay rfl);rotate_left 3;refine sq ?_ ?_<;>intro h4 h4p h4s<;>(try simp only[Q,Pat.cs_len] at h4p);exfalso;omega;refine sq ?_ ?_<;>intro h5 h5p h5s<;>(try simp only[Q,Pat.cs_len] at h5p);refine xaV (i:=0) sl26 .none rfl rfl rfl rfl (zaE (by have:=(k6 (by omega)).1;omega)) rfl ?_;refine evd [4] [] ?_;refine wc zep (zcq n m (k6 (by omega)).2) rfl rfl ?_;refine evd [4] [] ?_;refine dr ?_;refine bu [0,1] [_,_] zqJ ?_;refine xbl 9 sl40 zoq rfl (by decide) (ks:=[0]) (xs:=[_]) rfl rfl (by decide) (by decide) .none rfl rfl rfl rfl rfl ?_;refine evs [4] [] ?_;refine xaD sl40 zqQ .none rfl rfl rfl rfl (zdr rfl (by rfl)) (by intro x hx;exact zlh _ x hx) (by have:=(mok (k6 (by omega)).2.shape h.vok).2;have:=zcb (l:=p.kids) (i:=0) (by have:=(k6 (by omega)).1;omega);simp;omega) (by have:=(mok (k6 (by omega)).2.shape h.vok).2;have:=zcb (l:=p.kids) (i:=0) (by have:=(k6 (by omega)).1;omega);simp;omega) ?_;refine evs [4] [] ?_;refine asg ?_;refine evs [4] [] ?_;refine rn [(9,some (.tok ((zaw (n+1) p v).1.map Bd.c).length 4))] (r2 rfl rfl) (.tup (.cons (.gvg ?_) (.cons (.eqd ?_) .nil))) ⟨rfl,rfl⟩ (SubH.get ⟨?_,trivial⟩) (zay rfl);rotate_left 3;exfalso;omega;all_goals (first|((first|rfl|(rw[zga (by omega)];all_goals rfl)|(rw[zht (by omega)];all_goals rfl)|(rw[zfr (by omega)];all_goals first|rfl|(rw[hw (by omega)];done))|(rw[zgc (by omega)];all_goals first|rfl|(rw[h6m (by omega)];done))|(rw[hw (by omega)];done)|(rw[h6m (by omega)];done));done)|(first|(rw[zga (by omega)];all_goals rfl)|(rw[zht (by omega)];all_goals rfl)|(rw[zfr (by omega)];all_goals rfl)|(rw[zgc (by omega)];show some (Res.tok _ _)=some (Res.tok _ _);simp;omega)))
theorem zuK {n:Nat}{S:List Bd} (h:n=S.length):zbT n 4 (bdC S)=some (S.map Bd.c):=by
 rw[h,<-xac (f:=Bd.c)];exact zv1 S
theorem idsD (l:List D):AV.idsL (l.map AV.d)=[]:=by
 induction l with
 |nil=>rfl
 |cons x r ih=>simpa [AV.idsL,AV.ids] using ih
theorem znm {w:List Data}{m:Nat}{t:Ty}{p:Pat}{v:Val} (h:MatchOk w 10 m t p v) (hp:isP w t p=true):
  FnD Tryz.prog 65 [.agg [.d (.i p.op),.d (.i p.ctor),.d (.i p.n),.d (.i p.m),.d (.i p.var),.d (zae p.kids)],.agg [.d (.i v.ctor),.d (.i v.num),.d (zbQ v.kids)]] [] (.tup [.d (zrh (zgd 10 p v).1),.d (.bool (zgd 10 p v).2)]) []:=by
 unfold zgd;cases hm:(zaw 10 p v).2 with
 |false=>
  have hf:=zcq 10 m h;rw[hm] at hf;rw[if_neg (by simp)];refine bd Tryz.f65 36 [] [] fun w0 F0 own kept hk=>?_;refine bx 3002 ?_;refine bx 3003 ?_;refine ev ?_;refine wc zep (hf) rfl rfl ?_;refine ev ?_;refine sq ?_ ?_<;>intro h1 h1p h1s<;>(try simp only[Q] at h1p);refine rn0 (r2 rfl rfl) (.tup (.cons (.nild ?_) (.cons (.eqd ?_) .nil)));rotate_left 2;exfalso;simp_all;all_goals (rfl)
 |true=>
  have hf:=zgX 10 m h hm;have h6:=zvd h hp hm;have hbo:=zwH (zeA 10 h.shape h.vok).1;have hsl:=zvE (zaw 10 p v).1;have hvs:=h.vsz;rw[if_pos rfl];have hLm:∀L:List Bd,(L.map Bd.c).length=L.length:=fun L=>by simp
  have hLm:=hLm (zaw 10 p v).1;have hso:zdL ((zaw 10 p v).1.length-1) 1 (zaw 10 p v).1=zlt (zaw 10 p v).1:=rfl;generalize (zaw 10 p v).1=L at *;generalize hS:zlt L=S at *;have hrow:∀ {i:Nat},i<L.length->(nth S i).val.ok/\(nth S i).val.size<=v.size:=fun hi=>hbo _ (zac (by omega));refine bd Tryz.f65 36 [26] [4,999999] fun w0 F0 own kept hk=>?_;refine Walk.box (id:=3002) .none rfl rfl rfl (by rfl) (by rfl) (by rfl) (by rfl) ?_;refine Walk.box (id:=3003) .none rfl rfl rfl (by rfl) (by rfl) (by rfl) (by rfl) ?_;refine evs [26] [] ?_;refine Walk.call (cr:=[9]) zep (hf) rfl .none rfl rfl (LeL.refl _) trivial rfl rfl rfl ?_;refine evs [26] [] ?_;refine sq ?_ ?_<;>intro h1 h1p h1s<;>(try simp only[Q,xac] at h1p);exfalso;simp_all;refine CWp.fixV hk 6 9 4 rfl rfl rfl (fun hx2=>?_) (fun hx2=>?_);refine evc [26] [] ?_;refine Walk.call (cr:=[]) zum (zj6) rfl .none rfl rfl (LeL.refl _) trivial rfl (by rfl) (by rfl) ?_;refine tv ?_;refine xak (ι:=Unit) hk (fun u=>[(22,.d (.i 0))]) [8,9,23,24,25,26,27,28,29,30,31,32,33,34] (fun u=>[]) (fun u=>True) (fun u=>0) () trivial ⟨⟨_,rfl,xaq ?_⟩,trivial⟩ trivial (fun x=>rfl) (fun u hg1=>?_);focus (rfl)
  refine evc [26] [4,999999] ?_;refine sq ?_ ?_<;>intro h3 h3p h3s<;>(try simp only[Q,xac] at h3p);exfalso;simp at h3;refine CWp.ret ?_;refine rn0 (r2 rfl rfl) (.tup (.cons (.eqd ?_) (.cons (.eqd ?_) .nil)));rotate_left 2;refine evc [26] [] ?_;refine Walk.call (cr:=[]) zum (zk2 (L:=L) (by omega) zyq (fun a b=>zly)) rfl .none rfl rfl (.cons (xas (by(simp[xac];done))) (.cons (.refl _) .nil)) ⟨rfl,trivial⟩ rfl zkO rfl ?_;refine tv ?_;refine xak (ι:=Nat) hk (fun i=>[(22,.d (.i (i:Int)))]) [8,9,23,24,25,26,27,28,29,30,31,32,33,34] (fun i=>[(9,some (.box (bdC S)))]) (fun i=>i<=L.length) (fun i=>L.length-i) 0 (by omega) ⟨⟨_,rfl,xaq ?_⟩,trivial⟩ ⟨?_,trivial⟩ (fun x=>rfl) (fun i hg1=>?_);focus (rfl)
  focus ((show some (Res.box _)=some (Res.box _);rw[hso]))
  refine evc [26] [4,999999] ?_;refine sq ?_ ?_<;>intro h4 h4p h4s<;>(try simp only[Q,xac] at h4p);refine xaZ sl40 .none rfl rfl rfl rfl (by omega) ?_;refine xa2 ziz .none rfl rfl rfl ((ziR (by omega))) ?_;refine Walk.alloc (id:=3009) zoq rfl .none rfl (by(simp only[zaA,occH,occE,Res.ids,xag,List.nil_append,AV.idsL,AV.ids,zak,zaj,zas,zaQ,xae,List.map_nil,upC,idsD,zfk];rfl)) (by(simp only[zaA,occH,occE,Res.ids,xag,List.nil_append,AV.idsL,AV.ids,zak,zaj,zas,zaQ,xae,List.map_nil,upC,idsD,zfk];rfl)) (by(simp only[zaA,occH,occE,Res.ids,xag,List.nil_append,AV.idsL,AV.ids,zak,zaj,zas,zaQ,xae,List.map_nil,upC,idsD,zfk];rfl)) ?_;refine evs [26] [] ?_;refine so ziz ?_;refine tv ?_;refine Walk.call (cr:=[]) ztE (zfe (nth S i).val.size (Nat.le_refl _) (hrow (by omega)).1) rfl .none rfl rfl (LeL.refl _) trivial rfl (by rfl) (by rfl) ?_;refine xaZ sl40 .none rfl rfl rfl rfl (by omega) ?_;refine evs [26] [] ?_;refine Walk.store ty44 .none rfl rfl rfl rfl rfl rfl (by simp) ((zvm (by omega))) ?_;refine tv ?_;refine ar ?_;refine xah (i+1) ⟨(by omega),(by omega),sx ⟨⟨_,rfl,xaq ?_⟩,trivial⟩ ⟨?_,trivial⟩⟩;focus (rfl)
  focus (rfl)
  refine CWp.frz hk 4 9 _ _ rfl rfl (zuK (by simp;omega)) rfl ?_;refine CWp.ret ?_;refine rn0 (r2 rfl rfl) (.tup (.cons (.eqd ?_) (.cons (.eqd ?_) .nil)));rotate_left 2;all_goals (first|rfl|(rw[show S=[] from List.eq_nil_of_length_eq_zero (by have hz:L.map Bd.c=[]:=(by assumption);have hz2:=congrArg List.length hz;simp only[xai] at hz2;omega)];rfl))
def zbt (w:List Data) (a k:Int) (p:Pat) (v:Val):List Bd×Bool:=if zda w a k p=true/\isV w ⟨a,k⟩ v=true then zgd 10 p v else ([],false)
theorem zwk {w:List Data}{a k:Int}{p:Pat}{v:Val} (h1:isP w ⟨a,k⟩ p=true) (h2:isV w ⟨a,k⟩ v=true) (hp:p.ok) (hv:v.ok):MatchOk w 10 10 ⟨a,k⟩ p v:=by
 unfold isP at h1;unfold isV at h2;simp only[xad,decide_eq_true_eq] at h1 h2;exact⟨h1.1,h2.1,hp,hv,by omega,by omega⟩
theorem zd0 {w:List Data} (hs:WSmall w){a k:Int}{p:Pat}{v:Val} (hp:p.ok) (hv:v.ok):
  FnD Tryz.prog 23 [.d (zal w),.agg [.d (.i a),.d (.i k)],.agg [.d (.i p.op),.d (.i p.ctor),.d (.i p.n),.d (.i p.m),.d (.i p.var),.d (zae p.kids)],.agg [.d (.i v.ctor),.d (.i v.num),.d (zbQ v.kids)]] [] (.tup [.d (zrh (zbt w a k p v).1),.d (.bool (zbt w a k p v).2)]) []:=by
 have hpv:=zjv hs (a:=a) (k:=k) hp;have pv:=pval hs (a:=a) (k:=k) (p:=p);have hpi:zda w a k p=true->isP w ⟨a,k⟩ p=true:=fun h=>by unfold zda at h;rw[xad] at h;exact h.2
 refine bd Tryz.f23 27 [] [] fun w0 F0 own kept hk=>?_;refine bx 3005 ?_;refine bx 3006 ?_;refine bx 3007 ?_;refine ev ?_;refine wc zzA (hpv) rfl rfl ?_;refine ev ?_;refine sq ?_ ?_<;>intro h1 h1p h1s<;>(try simp only[Q] at h1p);refine sqT ?_;refine rn0 (r2 rfl rfl) (.tup (.cons (.nild ?_) (.cons (.eqd ?_) .nil)));rotate_left 2;refine Walk.call (cr:=[]) zzC (znr (pv (by assumption)).dp.wt (pv (by assumption)).tin hv) rfl (.some rfl rfl h1) rfl rfl (LeL.refl _) trivial rfl rfl rfl ?_;refine evs [] [(15,false)] ?_ ⟨⟨_,rfl,h1⟩,trivial⟩;refine sq ?_ ?_<;>intro h3 h3p h3s<;>(try simp only[Q] at h3p);refine rn0 (r2 rfl rfl) (.tup (.cons (.nild ?_) (.cons (.eqd ?_) .nil)));rotate_left 2;refine wc zzD (znm (zwk (hpi (by simp_all)) (by simp_all) hp hv) (hpi (by simp_all))) rfl rfl ?_;refine ev ?_;refine rn0 (r2 rfl rfl) (.tup (.cons (.eqd ?_) (.cons (.eqd ?_) .nil)));rotate_left 2;all_goals (unfold zbt;first|(rw[if_pos ⟨by simp_all,by simp_all⟩];all_goals rfl)|(rw[if_neg (by intro hh;simp_all)];all_goals rfl))
theorem zhi {xs:List Pat}{f:Nat} (hs:xs.length<=1000000000000) (hcal:Callee Tryz.prog f)
  (hf:∀p∈xs,FnD Tryz.prog f [.agg [.d (.i p.op),.d (.i p.ctor),.d (.i p.n),.d (.i p.m),.d (.i p.var),.d (zae p.kids)],.agg [.d (.i p.op),.d (.i p.ctor),.d (.i p.n),.d (.i p.m),.d (.i p.var),.d (zae p.kids)]] [] (.d (.bool true)) []):
  FnD Tryz.prog 83 [.d (zae xs),.d (zae xs),.fn f []] [] (.d (.bool true)) []:=by
 refine bd Tryz.f83 32 [] [] fun w0 F0 own kept hk=>?_;refine sq ?_ ?_<;>intro h1 h1p h1s<;>(try simp only[Q,Pat.cs_len] at h1p);exfalso;simp at h1;refine xak (ι:=List (Pat)×List (Pat)) hk (fun x=>[(17,.d (.i (x.1.length:Int)))]) [6,7,8,9,18,19,20,21,22,23,24,25,26,27,28,29,30,31] (fun x=>[]) (fun x=>x.1++x.2=xs) (fun x=>x.2.length) ([],xs) (by simp) ⟨⟨_,rfl,xaq ?_⟩,trivial⟩ trivial (fun x=>rfl) (fun x hg1=>?_);focus ((simp_all;done))
 obtain⟨pre,rest⟩:=x;dsimp only at hg1 ⊢;refine evc [] [] ?_;refine sq ?_ ?_<;>intro h2 h2p h2s<;>(try simp only[Q,Pat.cs_len] at h2p);rcases rest with _|⟨y,rest⟩
 ·exfalso;simp_all
 refine xaV sl26 .none rfl rfl rfl rfl (Pat.cs_at' hg1) rfl ?_;refine ev ?_;refine ab 3008 tz28 ?_;refine ev ?_;refine so ty28 ?_;refine tv ?_;refine xaV sl26 .none rfl rfl rfl rfl (Pat.cs_at' hg1) rfl ?_;refine ev ?_;refine ab 3009 tz28 ?_;refine so ty28 ?_;refine tv ?_;refine xaJ (cr:=[]) hcal (hf y (by rw[<-hg1];simp)) rfl .none rfl rfl rfl (LeL.refl _) trivial rfl rfl rfl ?_;refine ev ?_;refine sq ?_ ?_<;>intro h3 h3p h3s<;>(try simp only[Q,Pat.cs_len] at h3p);exfalso;simp at h3;refine ar ?_;refine xah ((pre++[y],rest)) ⟨(by have hz:=hg1;rw[<-hz];simp),(by simp),sx ⟨⟨_,rfl,xaq ?_⟩,trivial⟩ trivial⟩;focus ((simp_all;done))
 have hrest:rest=[]:=by
  rcases rest with _|⟨a,b⟩
  ·rfl
  ·exfalso;have hz:=congrArg List.length (hg1);simp only[xaa,xab,xac] at hz;omega
 subst hrest;refine rq ?_;rotate_left;all_goals (rfl)
theorem zfq:∀(n:Nat){p:Pat},p.size<=n->p.ok->FnD Tryz.prog 40 [.agg [.d (.i p.op),.d (.i p.ctor),.d (.i p.n),.d (.i p.m),.d (.i p.var),.d (zae p.kids)],.agg [.d (.i p.op),.d (.i p.ctor),.d (.i p.n),.d (.i p.m),.d (.i p.var),.d (zae p.kids)]] [] (.d (.bool true)) []
 |0,p,h,_=>by rw[Pat.size_eq] at h;omega
 |n+1,p,h,hok=>by
  rw[Pat.size_eq] at h;rw[Pat.ok_iff] at hok;refine bd Tryz.f40 45 [] [] fun w0 F0 own kept hk=>?_;refine bx 3002 ?_;refine bx 3003 ?_;refine ev ?_;refine sq ?_ ?_<;>intro h1 h1p h1s<;>(try simp only[Q] at h1p);refine sq ?_ ?_<;>intro h2 h2p h2s<;>(try simp only[Q] at h2p);refine sq ?_ ?_<;>intro h3 h3p h3s<;>(try simp only[Q] at h3p);refine sq ?_ ?_<;>intro h4 h4p h4s<;>(try simp only[Q] at h4p);refine sq ?_ ?_<;>intro h5 h5p h5s<;>(try simp only[Q] at h5p);refine Walk.call (cr:=[]) zzI (zhi hok.1 zwW (fun x hx=>zfq n (by have:=Pats.size_mem hx;omega) (Pats.ok_mem hok.2 x hx))) rfl (.some rfl rfl h5) rfl rfl (LeL.refl _) trivial rfl rfl rfl ?_;refine evs [] [(38,true)] ?_ ⟨⟨_,rfl,h5⟩,trivial⟩;focus (refine rq ?_;all_goals ((simp_all;done)))
  focus (refine rq ?_;all_goals ((simp_all;done)))
  refine sqF ?_;focus (refine rq ?_;all_goals ((simp_all;done)))
  refine sqF ?_;refine sqF ?_;focus (refine rq ?_;all_goals ((simp_all;done)))
  refine sqF ?_;refine sqF ?_;refine sqF ?_;focus (refine rq ?_;all_goals ((simp_all;done)))
  refine sqF ?_;refine sqF ?_;refine sqF ?_;refine sqF ?_;focus (refine rq ?_;all_goals ((simp_all;done)))
theorem zck {l:List Pat} (hl:l.length<=1000000000000) (hok:∀p∈l,p.ok):FnD Tryz.prog 18 [.d (zae l),.d (zae l)] [] (.d (.bool true)) []:=by
 refine bd Tryz.f18 27 [] [] fun w0 F0 own kept hk=>?_;refine sq ?_ ?_<;>intro h1 h1p h1s<;>(try simp only[Q,Pat.cs_len] at h1p);exfalso;simp at h1;refine xak (ι:=List (Pat)×List (Pat)) hk (fun x=>[(5,.d (.i (x.1.length:Int)))]) [4,11,12,13,14,15,16,17,18,19,20,21,22,23,24,25,26] (fun x=>[]) (fun x=>x.1++x.2=l) (fun x=>x.2.length) ([],l) (by simp) ⟨⟨_,rfl,xaq ?_⟩,trivial⟩ trivial (fun x=>rfl) (fun x hg1=>?_);focus ((simp_all;done))
 obtain⟨pre,rest⟩:=x;dsimp only at hg1 ⊢;refine evc [] [] ?_;refine sq ?_ ?_<;>intro h2 h2p h2s<;>(try simp only[Q,Pat.cs_len] at h2p);rcases rest with _|⟨y,rest⟩
 ·exfalso;simp_all
 refine xaV sl26 .none rfl rfl rfl rfl (Pat.cs_at' hg1) rfl ?_;refine evd [] [] ?_;refine xaV sl26 .none rfl rfl rfl rfl (Pat.cs_at' hg1) rfl ?_;refine evd [] [] ?_;refine wc zwW (zfq _ (Nat.le_refl _) (hok y (by rw[<-hg1];simp))) rfl rfl ?_;refine evd [] [] ?_;refine dr ?_;refine sq ?_ ?_<;>intro h3 h3p h3s<;>(try simp only[Q,Pat.cs_len] at h3p);exfalso;simp at h3;refine ar ?_;refine xah ((pre++[y],rest)) ⟨(by have hz:=hg1;rw[<-hz];simp),(by simp),sx ⟨⟨_,rfl,xaq ?_⟩,trivial⟩ trivial⟩;focus ((simp_all;done))
 have hrest:rest=[]:=by
  rcases rest with _|⟨a,b⟩
  ·rfl
  ·exfalso;have hz:=congrArg List.length (hg1);simp only[xaa,xab,xac] at hz;omega
 subst hrest;refine rq ?_;rotate_left;all_goals (rfl)
theorem zlA {w:List Data} (hs:WSmall w){a k:Int}{l:List Pat}{v:Val} (hl:l.length<=1000000000000) (hok:∀p∈l,p.ok) (hv:v.ok):
  FnD Tryz.prog 24 [.d (zal w),.agg [.d (.i a),.d (.i k)],.d (zae l),.agg [.d (.i v.ctor),.d (.i v.num),.d (zbQ v.kids)]] [] (.d (.i (l.countP (fun p=>(zbt w a k p v).2):Nat))) []:=by
 have hc:=fun(r:List Pat)=>List.countP_le_length (p:=fun p=>(zbt w a k p v).2) (l:=r);refine bd Tryz.f24 34 [] [] fun w0 F0 own kept hk=>?_;refine bx 3005 ?_;refine bx 3007 ?_;refine ev ?_;refine xak (ι:=List (Pat)×List (Pat)) hk (fun x=>[(10,.d (.i (x.1.length:Int))),(9,.d (.i (x.1.countP (fun p=>(zbt w a k p v).2):Nat)))]) [11,12,13,14,15,16,17,18,19,20,21,22,23,24,25,26,27,28,29,30,31,32] (fun x=>[]) (fun x=>x.1++x.2=l) (fun x=>x.2.length) ([],l) (by simp) ⟨⟨_,rfl,xaq ?_⟩,⟨⟨_,rfl,xaq ?_⟩,trivial⟩⟩ trivial (fun x=>rfl) (fun x hg1=>?_);iterate 2 focus (first|rfl|(rw[List.countP_append,List.countP_singleton];simp_all;done))
 obtain⟨pre,rest⟩:=x;dsimp only at hg1 ⊢;refine evc [] [] ?_;refine sq ?_ ?_<;>intro h1 h1p h1s<;>(try simp only[Q,Pat.cs_len] at h1p);rcases rest with _|⟨y,rest⟩
 ·exfalso;simp_all
 refine xaV sl26 .none rfl rfl rfl rfl (Pat.cs_at' hg1) rfl ?_;refine evd [] [] ?_;refine wc ztB (zd0 hs (hok y (by rw[<-hg1];simp)) hv) rfl rfl ?_;refine evd [] [] ?_;refine dr ?_;refine sq ?_ ?_<;>intro h2 h2p h2s<;>(try simp only[Q,Pat.cs_len] at h2p);refine ar ?_ (by(have hcp:=hc pre;have hcl:=congrArg List.length hg1;simp only[xaa,xab] at hcl;constructor<;>omega));refine ar ?_ (by(have hcp:=hc pre;have hcl:=congrArg List.length hg1;simp only[xaa,xab] at hcl;constructor<;>omega));refine xah ((pre++[y],rest)) ⟨(by have hz:=hg1;rw[<-hz];simp),(by simp),sx ⟨⟨_,rfl,xaq ?_⟩,⟨⟨_,rfl,xaq ?_⟩,trivial⟩⟩ trivial⟩;iterate 2 focus (first|(simp;done)|(rw[List.countP_append,List.countP_singleton];simp_all;done))
 refine ar ?_ (by(have hcp:=hc pre;have hcl:=congrArg List.length hg1;simp only[xaa,xab] at hcl;constructor<;>omega));refine xah ((pre++[y],rest)) ⟨(by have hz:=hg1;rw[<-hz];simp),(by simp),sx ⟨⟨_,rfl,xaq ?_⟩,⟨⟨_,rfl,xaq ?_⟩,trivial⟩⟩ trivial⟩;iterate 2 focus (first|(simp;done)|(rw[List.countP_append,List.countP_singleton];simp_all;done))
 have hrest:rest=[]:=by
  rcases rest with _|⟨a,b⟩
  ·rfl
  ·exfalso;have hz:=congrArg List.length (hg1);simp only[xaa,xab,xac] at hz;omega
 subst hrest;refine rq ?_;rotate_left;all_goals ((rw[List.append_nil] at hg1;subst hg1;rfl))
end Go.Proofs.YtpgdedpljcedpaaGreat
