/-
  THE ABSTRACT WALK AND THE WALKS, part 4 of 5.
-/
import Derived.Test.YtmkipahfpaacgaaGreatDoorT643
namespace Go.Proofs.YtmkipahfpaacgaaGreatDoor
open Go
set_option linter.unusedSimpArgs false
set_option linter.unusedVariables false
set_option maxRecDepth 100000
set_option maxHeartbeats 4000000
def letV (n:Int):Str:=strN [IntKind.u8.wrap (97+IntKind.u8.wrap n)]
theorem zdf (n:Int):(letV n).length=1:=rfl
def zbt {α:Type} (f:Ty->α->Str):Bool->List Ty->List α->Str
 |b,t::ts,p::ps=>((if b=true then [40] else [44])++f t p)++zbt f false ts ps
 |_,_,_=>[]
theorem zlG {α:Type} [Inhabited α]{f:Ty->α->Str}:∀(i:Nat){b:Bool}{ts:List Ty}{ks:List α},i<ts.length->i<ks.length->
  zbt f b (ts.take (i+1)) (ks.take (i+1))=zbt f b (ts.take i) (ks.take i)++((if b=true/\i=0 then [40] else [44])++f (nth ts i) (nth ks i))
 |_,_,[],_,h,_=>by simp at h
 |_,_,_::_,[],_,h=>by simp at h
 |0,b,t::ts,k::ks,_,_=>by
  simp only[List.take_succ_cons,List.take_zero,zbt,xaq,List.nil_append,and_true];rfl
 |i+1,b,t::ts,k::ks,h1,h2=>by
  have ih:=zlG (f:=f) i (b:=false) (ts:=ts) (ks:=ks) (by simpa using h1) (by simpa using h2);rw[if_neg (fun h=>absurd h.1 oe)] at ih;have e:(if b=true/\i+1=0 then ([40]:Str) else [44])=[44]:=if_neg od;rw[List.take_succ_cons,List.take_succ_cons,zbt,ih,List.take_succ_cons,List.take_succ_cons,zbt,e,xar ((if b=true then [40] else [44])++f t k)];rfl
theorem zmV:∀(l:List Pat) (i:Nat),Pats.size (l.take i)<=Pats.size l
 | [],i=>by simp
 |x::r,0=>by simp[Pats.size]
 |x::r,i+1=>by
  have:=zmV r i;rw[List.take_succ_cons,Pats.size,Pats.size];omega
theorem zjo {f:Ty->Pat->Str}:∀(b:Bool) (ts:List Ty) (ks:List Pat),(∀i,i<ts.length->i<ks.length->(f (nth ts i) (nth ks i)).length<=10*(nth ks i).size)->(zbt f b ts ks).length<=ks.length+10*Pats.size ks
 |_,[],ks,_=>by simp[zbt]
 |_,_::_,[],_=>by simp[zbt]
 |b,t::ts,k::ks,h=>by
  have ih:=zjo false ts ks (fun i h1 h2=>h (i+1) (by simpa using h1) (by simpa using h2));have h0:=h 0 oe oe;have h0':(f t k).length<=10*k.size:=h0;have h3:(if b=true then [(40:UInt8)] else [44]).length=1:=by split<;>rfl
  rw[zbt,xaa,xaa,Pats.size,h3];simp only[xab];omega
def zap (w:List Data):Nat->Ty->Pat->Str
 |0,_,_=>[]
 |n+1,t,p=>
  if p.op=1 then [95]
  else if p.op=2 then letV p.var
  else if p.op=3 then (if p.n=p.m then decV p.n else decV p.n++[45]++decV p.m)
  else if p.op=5 then [40]++zap w n t (nth p.kids 0)++[124]++zap w n t (nth p.kids 1)++[41]
  else if p.op=6 then letV p.var++[64]++zap w n t (nth p.kids 0)
  else (za6 w t p.ctor++zbt (zap w n) true (zae w t p.ctor) p.kids)++(if 0<(zae w t p.ctor).length then [41] else [])
theorem zgF {w:List Data} (hw:WT w) (hb:TB w){a k c:Int} (ht:TyIn w.length ⟨a,k⟩) (hc:c∈zao w ⟨a,k⟩):(za6 w ⟨a,k⟩ c).length<=5/\(zae w ⟨a,k⟩ c).length<=3:=by
 obtain⟨d,rfl,hd,j,rfl,hj⟩:=zbc ht hc;have:=hb.cn (nth w d) (zam hd) (nth (nth w d).ctors j) (zam hj);refine⟨this.1, ?_⟩;unfold zae;simp only[xac];exact this.2.1
theorem zoj {w:List Data}{t:Ty}{p:Pat} (h:ownP w t p=true):(p.op=1\/p.op=2\/p.op=3\/p.op=5\/p.op=6\/p.op=4)/\((p.op=2\/p.op=6)->0<=p.var/\p.var<=5)/\(p.op=3->0<=p.n/\p.n<=p.m/\p.m<=9)/\(p.op=4->p.ctor∈zao w t):=by
 unfold ownP at h;have h':=xas h;refine⟨?_,h'.1,fun h3=>?_,fun h4=>?_⟩
 ·rcases h'.2.2.2.2 with h|h|h|h|h|h<;>omega
 ·rcases h'.2.2.2.2 with h|h|h|h|h|h<;>omega
 ·rcases h'.2.2.2.2 with h|h|h|h|h|h
  all_goals first|exact h.2|omega
theorem zfD {w:List Data}{t:Ty}{p:Pat} (h:p.op=4):zab w t p=zae w t p.ctor:=by unfold zab;rw[if_pos h]
theorem zdQ {w:List Data}{t:Ty}{p:Pat} (h:p.op=5):zab w t p=[t,t]:=by unfold zab;rw[if_neg od,if_pos h]
theorem zeT {w:List Data}{t:Ty}{p:Pat} (h:p.op=6):zab w t p=[t]:=by unfold zab;rw[if_neg od,if_neg od,if_pos h]
theorem zi4 {l:List Pat}{i:Nat} (h:i<l.length):(nth l i).size<=Pats.size l:=xaY (zam h)
theorem zdx {w:List Data} (hw:WT w) (hb:TB w):∀(n:Nat){a k:Int}{p:Pat},zas w n ⟨a,k⟩ p=true->TyIn w.length ⟨a,k⟩->(zap w n ⟨a,k⟩ p).length<=10*p.size
 |0,a,k,p,h,_=>by simp[zas] at h
 |n+1,a,k,p,h,ht=>by
  obtain⟨ho,hl⟩:=zce h;have hin:=zda hw ht ho;obtain⟨o1,o2,o3,o4⟩:=zoj ho;have hk:∀i,i<p.kids.length->(zap w n (nth (zab w ⟨a,k⟩ p) i) (nth p.kids i)).length<=10*(nth p.kids i).size:=fun i hi=>
   zdx hw hb n (a:=(nth (zab w ⟨a,k⟩ p) i).data) (k:=(nth (zab w ⟨a,k⟩ p) i).index) (zbs h hi) (hin _ (zam od))
  rw[xaV];unfold zap;split
  ·simp;omega
  split
  ·rw[zdf];omega
  split
  ·split
   ·rw[zbY];omega
   ·simp only[xaa,zbY,xab,xak];omega
  split
  ·rename_i h5;rw[zdQ h5] at hl hk;have hl2:p.kids.length=2:=hl;have k0:=hk 0 od;have k1:=hk 1 od;have k0':(zap w n ⟨a,k⟩ (nth p.kids 0)).length<=10*(nth p.kids 0).size:=k0;have k1':(zap w n ⟨a,k⟩ (nth p.kids 1)).length<=10*(nth p.kids 1).size:=k1;have hs:(nth p.kids 0).size+(nth p.kids 1).size=Pats.size p.kids:=by
    generalize p.kids=l at *;rcases l with _|⟨x,_|⟨y,_|⟨z,r⟩⟩⟩
    ·simp at hl2
    ·simp at hl2
    ·simp[Pats.size,nth]
    ·simp at hl2
   simp only[xaa,xab,xak];omega
  split
  ·rename_i h6;rw[zeT h6] at hl hk;have hl2:p.kids.length=1:=hl;have k0':(zap w n ⟨a,k⟩ (nth p.kids 0)).length<=10*(nth p.kids 0).size:=hk 0 od;have:=zi4 (l:=p.kids) (i:=0) od;simp only[xaa,zdf,xab,xak];omega
  ·have h4:p.op=4:=by omega
   rw[zfD h4] at hl hk;have:=zgF hw hb ht (o4 h4);have h1:=zjo (f:=zap w n) true (zae w ⟨a,k⟩ p.ctor) p.kids (fun i h1 h2=>hk i h2);have h3:(if 0<(zae w ⟨a,k⟩ p.ctor).length then [(41:UInt8)] else []).length<=1:=by split<;>simp
   simp only[xaa];omega
theorem zdE {n:Int}:FnD Tryz.prog 158 [.d (.i n)] [] (.d (.str (letV n))) []:=by
 refine bd Tryz.f158 8 [5] [] fun _ _ _ _ hk=>?_;refine xbv (by rw[un3];rfl) un5 .none I I ?_;refine Walk.addW .none I I I (si [0] [_] sl22 tz5 ?_);refine xbo sl22 un9 oi .none I I I (by first|rfl|exact zgZ _) ?_;refine evs [5] [] ?_;focus (refine rq ?_;all_goals (rfl))
section
variable {w:List Data}{n:Nat}{t:Ty}{p:Pat}
theorem tx1 (h:p.op=1):zap w (n+1) t p=[95]:=by unfold zap;rw[if_pos h]
theorem tx2 (h:p.op=2):zap w (n+1) t p=letV p.var:=by unfold zap;rw[if_neg od,if_pos h]
theorem tx3a (h:p.op=3) (h2:p.n=p.m):zap w (n+1) t p=decV p.n:=by unfold zap;rw[if_neg od,if_neg od,if_pos h,if_pos h2]
theorem tx3b (h:p.op=3) (h2:¬p.n=p.m):zap w (n+1) t p=decV p.n++[45]++decV p.m:=by unfold zap;rw[if_neg od,if_neg od,if_pos h,if_neg h2]
theorem tx5 (h:p.op=5):zap w (n+1) t p=[40]++zap w n t (nth p.kids 0)++[124]++zap w n t (nth p.kids 1)++[41]:=by rw[zap];rw[if_neg od,if_neg od,if_neg od,if_pos h]
theorem tx6 (h:p.op=6):zap w (n+1) t p=letV p.var++[64]++zap w n t (nth p.kids 0):=by rw[zap];rw[if_neg od,if_neg od,if_neg od,if_neg od,if_pos h]
theorem tx4 (h:p.op=4):zap w (n+1) t p=(za6 w t p.ctor++zbt (zap w n) true (zae w t p.ctor) p.kids)++(if 0<(zae w t p.ctor).length then [41] else []):=by rw[zap];rw[if_neg od,if_neg od,if_neg od,if_neg od,if_neg od]
end
theorem zhJ {w:List Data} (hw:WT w) (hb:TB w):∀(n:Nat){a k:Int}{p:Pat},zas w n ⟨a,k⟩ p=true->TyIn w.length ⟨a,k⟩->p.ok->p.size<=10000000->
  FnD Tryz.prog 100 [.d (zah w),.agg [.d (.i a),.d (.i k)],.agg [.d (.i p.op),.d (.i p.ctor),.d (.i p.n),.d (.i p.m),.d (.i p.var),.d (zau p.kids)]] [] (.d (.str (zap w n ⟨a,k⟩ p))) []
 |0,a,k,p,h,_,_,_=>by simp[zas] at h
 |n+1,a,k,p,h,ht,hok,hsz=>by
  obtain⟨ho,hl⟩:=zce h;have hin:=zda hw ht ho;obtain⟨o1,o2,o3,o4⟩:=zoj ho;rw[xaV] at hsz;rw[xaU] at hok;have hkid:∀i,i<p.kids.length->∀t,t=nth (zab w ⟨a,k⟩ p) i->FnD Tryz.prog 100 [.d (zah w),.agg [.d (.i t.data),.d (.i t.index)],.agg [.d (.i (nth p.kids i).op),.d (.i (nth p.kids i).ctor),.d (.i (nth p.kids i).n),.d (.i (nth p.kids i).m),.d (.i (nth p.kids i).var),.d (zau (nth p.kids i).kids)]] [] (.d (.str (zap w n t (nth p.kids i)))) []:=fun i hi t e=>by
   subst e;exact zhJ hw hb n (a:=(nth (zab w ⟨a,k⟩ p) i).data) (k:=(nth (zab w ⟨a,k⟩ p) i).index) (zbs h hi) (hin _ (zam od)) (xaX hok.2 _ (zam hi)) (by have:=zi4 hi;omega)
  have hlen:∀i,i<p.kids.length->∀t,t=nth (zab w ⟨a,k⟩ p) i->(zap w n t (nth p.kids i)).length<=100000000:=fun i hi t e=>by
   subst e;have:=zdx hw hb n (a:=(nth (zab w ⟨a,k⟩ p) i).data) (k:=(nth (zab w ⟨a,k⟩ p) i).index) (zbs h hi) (hin _ (zam od));have h2:=zi4 hi;have h3:(zap w n (nth (zab w ⟨a,k⟩ p) i) (nth p.kids i)).length<=10*(nth p.kids i).size:=this;omega
  by_cases h4:p.op=4
  ·rw[zfD h4] at hl hkid hlen;have hc:=o4 h4;obtain⟨n1,n2⟩:=zgF hw hb ht hc;have hag:=zcB hw ht hc;obtain⟨d,rfl,hd,j,hj0,hj⟩:=zbc ht hc;have hnm:za6 w ⟨(d:Int),k⟩ p.ctor=(nth (nth w d).ctors j).name:=by unfold za6;rw[hj0];rfl
   have hnx:=fun i=>zlG (f:=zap w n) i (b:=true) (ts:=zae w ⟨(d:Int),k⟩ p.ctor) (ks:=p.kids);have htl:∀i,i<=3->(zbt (zap w n) true ((zae w ⟨(d:Int),k⟩ p.ctor).take i) (p.kids.take i)).length<=1000000000:=fun i hi=>by
    have h1:=zjo (f:=zap w n) true ((zae w ⟨(d:Int),k⟩ p.ctor).take i) (p.kids.take i) (fun i' q1 q2=>by
     rw[List.length_take] at q1 q2;have e1:nth ((zae w ⟨(d:Int),k⟩ p.ctor).take i) i'=nth (zae w ⟨(d:Int),k⟩ p.ctor) i':=by rw[zaV (by rw[List.length_take];omega),zaV od,List.getElem_take]
     have e2:nth (p.kids.take i) i'=nth p.kids i':=by rw[zaV (by rw[List.length_take];omega),zaV od,List.getElem_take]
     rw[e1,e2];have:=zdx hw hb n (a:=(nth (zab w ⟨(d:Int),k⟩ p) i').data) (k:=(nth (zab w ⟨(d:Int),k⟩ p) i').index) (zbs h (i:=i') od) (hin _ (zam (by rw[zfD h4];omega)));rw[zfD h4] at this;exact this)
    have h2:=zmV p.kids i;rw[List.length_take] at h1;omega
   rw[tx4 h4,hnm];have hfin:=List.take_length (l:=zae w ⟨(d:Int),k⟩ p.ctor);have hfin2:=List.take_length (l:=p.kids);generalize zae w ⟨(d:Int),k⟩ p.ctor=ts at *;refine bd Tryz.f100 118 [96,98,111,116] [] fun _ _ _ _ hk=>?_;refine bx 3004 ?_;refine bx 3005 ?_;refine evs [96,98,111,116] [] ?_;apply sq<;>intro h1 h1p h1s;try simp only[Q,xal,xaS,xac] at h1p
   exfalso;omega;apply sq<;>intro h2 h2p h2s;try simp only[Q,xal,xaS,xac] at h2p
   exfalso;omega;apply sq<;>intro h3 h3p h3s;try simp only[Q,xal,xaS,xac] at h3p
   exfalso;omega;apply sq<;>intro h4 h4p h4s;try simp only[Q,xal,xaS,xac] at h4p
   exfalso;omega;apply sq<;>intro h5 h5p h5s;try simp only[Q,xal,xaS,xac] at h5p
   exfalso;omega;refine ixq sl23 I I I (zan hd) I (evd [96,98,111,116] [] (ixq (i:=j) zbx I I hj0 (zan hj) I (evd [96,98,111,116] [] (dr (wc zcj hag I I ?_)))));refine evs [96,98,111,116] [] (xaA (ι:=Nat) hk (fun i=>[(9,.d (.i (i:Int))),(7,.d (.str ((nth (nth w d).ctors j).name++zbt (zap w n) true (ts.take i) (p.kids.take i))))]) [87,88,89,90,91,92,93,94,95,96,97,98,99,100,101,102,103,104,105,106,107,108,109,110,111] (fun i=>[]) (fun i=>i<=ts.length) (fun i=>ts.length-i) 0 od ⟨⟨_,I,xaK ?_⟩,⟨⟨_,I,xaL ?_⟩,O⟩⟩ O (fun x=>rfl) (fun i hg1=>?_));iterate 2 focus ((simp[zbt];done))
   refine evc [96,98,111,116] [] ?_;apply sq<;>intro h6 h6p h6s<;>(try simp only[Q,xal,xaS,xac] at h6p);apply sq<;>intro h7 h7p h7s<;>(try simp only[Q,xal,xaS,xac] at h7p);refine xbt .none I I I (by rw[hnm] at n1;have:=htl i od;(have:=hlen i od (nth ts i) rfl;simp only[xaa,xab,xak];omega)) ?_;refine evs [96,98,111,116] [] (ixq zaL I I I (zan od) I ?_);refine evd [96,98,111,116] [] (ixq sl58 I I I (zb2 od) I ?_);refine evd [96,98,111,116] [] (wc zht (hkid i od (nth ts i) I) I I ?_);refine xbt .none I I I (by rw[hnm] at n1;have:=htl i od;(have:=hlen i od (nth ts i) rfl;simp only[xaa,xab,xak];omega)) ?_;refine evd [96,98,111,116] [] (dr (ar (xaj (i+1) ⟨od,od,sx ⟨⟨_,I,xaK ?_⟩,⟨⟨_,I,xaL ?_⟩,O⟩⟩ O⟩)));iterate 2 focus (first|rfl|(rw[hnx i od od,if_pos ⟨rfl,by omega⟩];simp;done))
   refine xbt .none I I I (by rw[hnm] at n1;have:=htl i od;(have:=hlen i od (nth ts i) rfl;simp only[xaa,xab,xak];omega)) ?_;refine evs [96,98,111,116] [] (ixq zaL I I I (zan od) I ?_);refine evd [96,98,111,116] [] (ixq sl58 I I I (zb2 od) I ?_);refine evd [96,98,111,116] [] (wc zht (hkid i od (nth ts i) I) I I ?_);refine xbt .none I I I (by rw[hnm] at n1;have:=htl i od;(have:=hlen i od (nth ts i) rfl;simp only[xaa,xab,xak];omega)) ?_;refine evd [96,98,111,116] [] (dr (ar (xaj (i+1) ⟨od,od,sx ⟨⟨_,I,xaK ?_⟩,⟨⟨_,I,xaL ?_⟩,O⟩⟩ O⟩)));iterate 2 focus (first|rfl|(rw[hnx i od od,if_neg od];simp;done))
   apply sq<;>intro h8 h8p h8s<;>(try simp only[Q,xal,xaS,xac] at h8p);refine xbt .none I I I (by rw[hnm] at n1;have:=htl i od;(simp only[xaa,xab,xak];omega)) ?_;refine evs [96,98,111,116] [] (rq ?_);rotate_left;refine rq ?_;rotate_left;all_goals (have e1:i=ts.length:=od;subst e1;rw[hfin,show ts.length=p.kids.length by omega,hfin2];first|(rw[if_pos od];done)|(rw[if_neg od,xaq];done))
  ·have e5:p.op=5->p.kids.length=2:=fun h=>by rw[zdQ h] at hl;exact hl
   have e6:p.op=6->p.kids.length=1:=fun h=>by rw[zeT h] at hl;exact hl
   have hk0:=fun(h:p.op=5\/p.op=6)=>hkid 0 (by rcases h with h|h;rw[e5 h];omega;rw[e6 h];omega) ⟨a,k⟩ (by rcases h with h|h;rw[zdQ h];rfl;rw[zeT h];rfl);have hk1:=fun(h:p.op=5)=>hkid 1 (by rw[e5 h];omega) ⟨a,k⟩ (by rw[zdQ h];rfl);have hn0:=fun(h:p.op=5\/p.op=6)=>hlen 0 (by rcases h with h|h;rw[e5 h];omega;rw[e6 h];omega) ⟨a,k⟩ (by rcases h with h|h;rw[zdQ h];rfl;rw[zeT h];rfl);have hn1:=fun(h:p.op=5)=>hlen 1 (by rw[e5 h];omega) ⟨a,k⟩ (by rw[zdQ h];rfl);have hdl:=zbY;have hll:=zdf p.var;refine bd Tryz.f100 118 [32,36,46,47,55,56,62,70] [] fun _ _ _ _ hk=>?_;refine bx 3004 ?_;refine bx 3005 ?_;refine evs [32,36,46,47,55,56,62,70] [] ?_;apply sq<;>intro h1 h1p h1s<;>(try simp only[Q,xal,xaS] at h1p);refine rq ?_;rotate_left;apply sq<;>intro h2 h2p h2s<;>(try simp only[Q,xal,xaS] at h2p);refine wc zkE (zdE (n:=p.var)) I I ?_;refine evs [32,36,46,47,55,56,62,70] [] (rq ?_);rotate_left;apply sq<;>intro h3 h3p h3s<;>(try simp only[Q,xal,xaS] at h3p);apply sq<;>intro h4 h4p h4s<;>(try simp only[Q,xal,xaS] at h4p);refine wc zfL (zb3 (n:=p.n) (by have:=o3 od;omega) (by have:=o3 od;omega)) I I ?_;refine evs [32,36,46,47,55,56,62,70] [] (rq ?_);rotate_left;refine wc zfL (zb3 (n:=p.n) (by have:=o3 od;omega) (by have:=o3 od;omega)) I I ?_;refine xbt .none I I I (by(simp only[xaa,xab,xak,hdl];omega)) (evd [32,36,46,47,55,56,62,70] [] (wc zfL (zb3 (n:=p.m) (by have:=o3 od;omega) (by have:=o3 od;omega)) I I ?_));refine xbt .none I I I (by(simp only[xaa,xab,xak,hdl];omega)) (evd [32,36,46,47,55,56,62,70] [] (dr (rq ?_)));rotate_left;apply sq<;>intro h5 h5p h5s<;>(try simp only[Q,xal,xaS] at h5p);refine ixq (i:=0) sl58 I I I (zb2 (by(rw[e5 od];omega))) I ?_;refine evd [32,36,46,47,55,56,62,70] [] (wc zht (hk0 od) I I ?_);refine xbt .none I I I (by(have:=hn0 (.inl od);have:=hn1 od;simp only[xaa,xab,xak];omega)) ?_;refine xbt .none I I I (by(have:=hn0 (.inl od);have:=hn1 od;simp only[xaa,xab,xak];omega)) ?_;refine evd [32,36,46,47,55,56,62,70] [] (ixq (i:=1) sl58 I I I (zb2 (by(rw[e5 od];omega))) I ?_);refine evd [32,36,46,47,55,56,62,70] [] (wc zht (hk1 od) I I ?_);refine xbt .none I I I (by(have:=hn0 (.inl od);have:=hn1 od;simp only[xaa,xab,xak];omega)) ?_;refine xbt .none I I I (by(have:=hn0 (.inl od);have:=hn1 od;simp only[xaa,xab,xak];omega)) ?_;refine evd [32,36,46,47,55,56,62,70] [] (dr (rq ?_));rotate_left;apply sq<;>intro h6 h6p h6s<;>(try simp only[Q,xal,xaS] at h6p);refine wc zkE (zdE (n:=p.var)) I I ?_;refine xbt .none I I I (by(have:=hn0 (.inr od);simp only[xaa,xab,xak];omega)) ?_;refine evd [32,36,46,47,55,56,62,70] [] (ixq (i:=0) sl58 I I I (zb2 (by(rw[e6 od];omega))) I ?_);refine evd [32,36,46,47,55,56,62,70] [] (wc zht (hk0 od) I I ?_);refine xbt .none I I I (by(have:=hn0 (.inr od);simp only[xaa,xab,xak];omega)) ?_;refine evd [32,36,46,47,55,56,62,70] [] (dr (rq ?_));rotate_left;exfalso;omega;all_goals (first|(rw[tx1 od];done)|(rw[tx2 od];done)|(rw[tx3a od od];done)|(rw[tx3b od od];done)|(rw[tx5 od];done)|(rw[tx6 od];done))
set_option maxHeartbeats 2000000
set_option maxHeartbeats 4000000
set_option maxHeartbeats 2000000
structure MatchOk (w:List Data) (n m:Nat) (t:Ty) (p:Pat) (v:Val):Prop where
 shape:zas w n t p=true
 fits:zs6 w m t v=true
 pok:p.ok
 vok:v.ok
 psz:p.size<=100
 vsz:v.size<=100
theorem MatchOk.two {w:List Data}{n m:Nat}{t:Ty}{p:Pat}{v:Val} (h:MatchOk w (n+1) m t p v) (h5:p.op=5):
  p.kids.length=2/\MatchOk w n m t (nth p.kids 0) v/\MatchOk w n m t (nth p.kids 1) v:=by
 obtain⟨hl,s0,s1⟩:=zrU h.shape h5;have hpk:=(xaU p).1 h.pok;have hps:=xaV p;have z0:=zeP (l:=p.kids) (i:=0) od;have z1:=zeP (l:=p.kids) (i:=1) od;have hs:=h.psz;exact⟨hl,⟨s0,h.fits,xaX hpk.2 _ (zam od),h.vok,by omega,h.vsz⟩,⟨s1,h.fits,xaX hpk.2 _ (zam od),h.vok,by omega,h.vsz⟩⟩
theorem MatchOk.one {w:List Data}{n m:Nat}{t:Ty}{p:Pat}{v:Val} (h:MatchOk w (n+1) m t p v) (h6:p.op=6):
  p.kids.length=1/\MatchOk w n m t (nth p.kids 0) v:=by
 obtain⟨hl,s0⟩:=zrT h.shape h6;have hpk:=(xaU p).1 h.pok;have hps:=xaV p;have z0:=zeP (l:=p.kids) (i:=0) od;have hs:=h.psz;exact⟨hl,⟨s0,h.fits,xaX hpk.2 _ (zam od),h.vok,by omega,h.vsz⟩⟩
structure VarsOk (l:List Bd) (vs:List Vt):Prop where
 len:l.length=vs.length
 nod:(l.map Bd.var).Nodup
 sub:∀x∈l.map Bd.var,x∈vs.map Vt.var
set_option maxHeartbeats 4000000
def zcD (s:Str):Gd:=if s.length=3 then ⟨if nth s 1=60 then 1 else if nth s 1=61 then 2 else -1,((nth s 0).toNat:Int)-97,((nth s 2).toNat:Int)-48⟩ else ⟨-1,0,0⟩
theorem zii {s:Str} (hs:s.length<=1000000000000):FnD Tryz.prog 120 [.d (.str s)] [] (.agg [.d (.i (zcD s).op),.d (.i (zcD s).var),.d (.i (zcD s).n)]) []:=by
 have v0:=zfR (nth s 0);have v2:=zfR (nth s 2);have b0:=(nth s 0).toNat_lt;have b2:=(nth s 2).toNat_lt;by_cases h3:s.length=3
 ·have g60:((nth s 1).toNat:Int)=60->zcD s=⟨1,((nth s 0).toNat:Int)-97,((nth s 2).toNat:Int)-48⟩:=fun h=>by unfold zcD;rw[if_pos h3,if_pos (show nth s 1=60 from b_eq (k:=60) od h)]
  have g61:((nth s 1).toNat:Int)=61->zcD s=⟨2,((nth s 0).toNat:Int)-97,((nth s 2).toNat:Int)-48⟩:=fun h=>by unfold zcD;rw[if_pos h3,if_neg (show ¬nth s 1=60 from b_ne (by show ¬((nth s 1).toNat:Int)=60;omega)),if_pos (show nth s 1=61 from b_eq (k:=61) od h)]
  have gno:¬((nth s 1).toNat:Int)=60->¬((nth s 1).toNat:Int)=61->zcD s=⟨-1,((nth s 0).toNat:Int)-97,((nth s 2).toNat:Int)-48⟩:=fun h h'=>by unfold zcD;rw[if_pos h3,if_neg (show ¬nth s 1=60 from b_ne (by show ¬((nth s 1).toNat:Int)=60;omega)),if_neg (show ¬nth s 1=61 from b_ne (by show ¬((nth s 1).toNat:Int)=61;omega))]
  generalize zcD s=g at *;refine bd Tryz.f120 26 [] [] fun _ _ _ _ hk=>?_;refine ab 3002 zlK ?_;apply tv;apply sq<;>intro h1 h1p h1s;try simp only[Q,xal] at h1p
  exfalso;omega;refine xbF (i:=0) un9 .none I I I I (zaS od) ?_;refine xbv oy un3 .none I I ?_;refine evd [] [] (ar (xbF (i:=2) un9 .none I I I I (zaS od) ?_));refine xbv oy un3 .none I I ?_;refine evd [] [] (ar (bu [0,1,2] [_,_,_] zff ?_));refine ab 3003 zlK ?_;refine so zby ?_;refine dr (xbF (i:=1) un9 .none I I I I (zaS od) ?_);apply tv;apply sq<;>intro h2 h2p h2s<;>(try simp only[Q,xal] at h2p);refine so ty3 ?_;apply tv;refine so zby ?_;apply tv;refine rn0 (ra zby) (.agg (qeee ?_ ?_ ?_));rotate_left 3;apply sq<;>intro h3 h3p h3s<;>(try simp only[Q,xal] at h3p);refine so ty3 ?_;apply tv;refine so zby ?_;apply tv;refine rn0 (ra zby) (.agg (qeee ?_ ?_ ?_));rotate_left 3;refine so zby ?_;apply tv;refine rn0 (ra zby) (.agg (qeee ?_ ?_ ?_));rotate_left 3;all_goals (first|(rw[g60 od];all_goals first|rfl|exact xam D.i (by rw[v0])|exact xam D.i (by rw[v2]))|(rw[g61 od];all_goals first|rfl|exact xam D.i (by rw[v0])|exact xam D.i (by rw[v2]))|(rw[gno od od];all_goals first|rfl|exact xam D.i (by rw[v0])|exact xam D.i (by rw[v2])))
 ·have e:zcD s=⟨-1,0,0⟩:=by unfold zcD;rw[if_neg h3]
  rw[e];refine bd Tryz.f120 26 [] [] fun _ _ _ _ hk=>?_;refine ab 3002 zlK ?_;apply tv;apply sq<;>intro h1 h1p h1s;refine bu [0] [_] zff ?_;refine so zby ?_;apply tv;focus (refine rn0 (ra zby) (.agg (qeee ?_ ?_ ?_));all_goals (rfl))
  try simp only[Q,xal] at h1p
  exfalso;omega
def za4 (w:List Data) (t:Ty) (c:Cl):Str:=
 if c.g.op=1 then zap w 10 t c.pat++[32]++letV c.g.var++[60]++decV c.g.n
 else if c.g.op=2 then zap w 10 t c.pat++[32]++letV c.g.var++[61]++decV c.g.n
 else zap w 10 t c.pat
theorem gd_n {w:List Data}{t:Ty}{c:Cl} (h:clOk w t c=true):c.g.op=1\/c.g.op=2->0<=c.g.n/\c.g.n<=9:=fun hop=>by
 unfold clOk at h;rw[xad] at h;have h2:=h.2;unfold gdOk at h2;rw[if_neg od,xad] at h2;have h3:=xas h2.1;exact⟨h3.2.2.1,h3.2.2.2⟩
theorem zmZ {w:List Data} (hw:WT w) (hb:TB w){a k:Int}{c:Cl} (ht:TyIn w.length ⟨a,k⟩) (h:clOk w ⟨a,k⟩ c=true) (hsz:c.pat.size<=10000000):(za4 w ⟨a,k⟩ c).length<=100000010:=by
 have h1:=zdx hw hb 10 (zc2 h).2.1 ht;unfold za4;split
 ·simp only[xaa,zdf,zbY,xab,xak];omega
 split
 ·simp only[xaa,zdf,zbY,xab,xak];omega
 ·omega
theorem zhK {w:List Data} (hw:WT w) (hb:TB w){a k:Int}{c:Cl} (ht:TyIn w.length ⟨a,k⟩) (h:clOk w ⟨a,k⟩ c=true) (hok:c.pat.ok) (hsz:c.pat.size<=10000000):
  FnD Tryz.prog 202 [.d (zah w),.agg [.d (.i a),.d (.i k)],.agg [.d (.i c.pat.op),.d (.i c.pat.ctor),.d (.i c.pat.n),.d (.i c.pat.m),.d (.i c.pat.var),.d (zau c.pat.kids),.d (.i c.g.op),.d (.i c.g.var),.d (.i c.g.n)]] [] (.d (.str (za4 w ⟨a,k⟩ c))) []:=by
 have hn:=gd_n h;have hl:=zdx hw hb 10 (zc2 h).2.1 ht;have ht1:=zhJ hw hb 10 (zc2 h).2.1 ht hok hsz;have e1:c.g.op=1->za4 w ⟨a,k⟩ c=zap w 10 ⟨a,k⟩ c.pat++[32]++letV c.g.var++[60]++decV c.g.n:=fun h=>by unfold za4;rw[if_pos h]
 have e2:c.g.op=2->za4 w ⟨a,k⟩ c=zap w 10 ⟨a,k⟩ c.pat++[32]++letV c.g.var++[61]++decV c.g.n:=fun h=>by unfold za4;rw[if_neg od,if_pos h]
 have e3:¬c.g.op=1->¬c.g.op=2->za4 w ⟨a,k⟩ c=zap w 10 ⟨a,k⟩ c.pat:=fun h h'=>by unfold za4;rw[if_neg h,if_neg h']
 have hd:=zbY c.g.n;have hv:=zdf c.g.var;generalize za4 w ⟨a,k⟩ c=R at *;generalize zap w 10 ⟨a,k⟩ c.pat=T at *;refine bd Tryz.f202 47 [19,24,25,30,34,39,40,45] [] fun _ _ _ _ hk=>?_;refine bx 3004 ?_;refine bx 3005 ?_;refine evs [19,24,25,30,34,39,40,45] [] (wc zht ht1 I I ?_);refine evs [19,24,25,30,34,39,40,45] [] ?_;apply sq<;>intro h1 h1p h1s<;>(try simp only[Q,xal] at h1p);refine xbt .none I I I (by simp only[xaa,xab,xak,hd,hv];omega) ?_;refine evd [19,24,25,30,34,39,40,45] [] (wc zkE (zdE (n:=c.g.var)) I I ?_);refine xbt .none I I I (by simp only[xaa,xab,xak,hd,hv];omega) ?_;refine xbt .none I I I (by simp only[xaa,xab,xak,hd,hv];omega) ?_;refine evd [19,24,25,30,34,39,40,45] [] (wc zfL (zb3 (n:=c.g.n) (hn od).1 (hn od).2) I I ?_);refine xbt .none I I I (by simp only[xaa,xab,xak,hd,hv];omega) ?_;refine evd [19,24,25,30,34,39,40,45] [] (dr (rq ?_));rotate_left;apply sq<;>intro h2 h2p h2s<;>(try simp only[Q,xal] at h2p);refine xbt .none I I I (by simp only[xaa,xab,xak,hd,hv];omega) ?_;refine evd [19,24,25,30,34,39,40,45] [] (wc zkE (zdE (n:=c.g.var)) I I ?_);refine xbt .none I I I (by simp only[xaa,xab,xak,hd,hv];omega) ?_;refine xbt .none I I I (by simp only[xaa,xab,xak,hd,hv];omega) ?_;refine evd [19,24,25,30,34,39,40,45] [] (wc zfL (zb3 (n:=c.g.n) (hn od).1 (hn od).2) I I ?_);refine xbt .none I I I (by simp only[xaa,xab,xak,hd,hv];omega) ?_;refine evd [19,24,25,30,34,39,40,45] [] (dr (rq ?_));rotate_left;refine rq ?_;rotate_left;all_goals (first|(rw[e1 od];done)|(rw[e2 od];done)|(rw[e3 od od];done))
def za7 (w:List Data) (t:Ty):Bool->List Cl->Str
 |_,[]=>[]
 |b,c::r=>((if b=true then [] else [47])++za4 w t c)++za7 w t false r
theorem zfe {w:List Data} (hs:WSmall w){a k:Int}{l:List Cl} (hl:ClsOk l) (hz:∀c∈l,c.pat.size<=10000000) (hv:zaM w ⟨a,k⟩ l=true):
  FnD Tryz.prog 115 [.d (zah w),.agg [.d (.i a),.d (.i k)],.d (zbu l)] [] (.d (.str (za7 w ⟨a,k⟩ true l))) []:=by
 obtain⟨tv,hl8,hc⟩:=zd3 hv;obtain⟨wv,ht,_⟩:=zcn tv;have hw:=zco hs wv;have hb:=zgQ wv;have hc':∀c∈l,clOk w ⟨a,k⟩ c=true:=fun c hm=>by
  obtain⟨i,hi,rfl⟩:=List.getElem_of_mem hm;rw[<-zaV hi];exact hc i hi
 have hlen:=fun(c:Cl) (hm:c∈l)=>zmZ hw hb ht (hc' c hm) (hz c hm);refine bd Tryz.f115 29 [18,27] [] fun _ _ _ _ hk=>?_;refine bx 3004 ?_;refine evs [18,27] [] (xaA (ι:=List (Cl)×List (Cl)×(Str)) hk (fun x=>[(8,.d (.i (x.1.length:Int))),(7,.d (.str x.2.2))]) [9,10,11,12,13,14,15,16,17,18,19,20,21,22,23,24,25,26,27] (fun x=>[]) (fun x=>x.1++x.2.1=l/\x.2.2.length<=100000020*x.1.length/\x.2.2++za7 w ⟨a,k⟩ (decide (x.1.length=0)) x.2.1=za7 w ⟨a,k⟩ true l) (fun x=>x.2.1.length) ([],l,[]) ⟨by simp,by simp,by simp⟩ ⟨⟨_,I,xaK ?_⟩,⟨⟨_,I,xaL ?_⟩,O⟩⟩ O (fun x=>rfl) (fun x hg1=>?_));iterate 2 focus (rfl)
 obtain⟨pre,rest,o⟩:=x;dsimp only at hg1 ⊢;refine evc [18,27] [] ?_;apply sq<;>intro h1 h1p h1s;rcases rest with _|⟨y,rest⟩
 ·exfalso;simp_all
 have hym:y∈l:=(by rw[<-hg1.1];simp);have hyl:=hlen y hym;have hpl:pre.length<l.length:=(by rw[<-hg1.1];simp);apply sq<;>intro h2 h2p h2s<;>(try simp only[Q,xal,xac] at h2p);refine xbt .none I I I (by(try simp only[xaa,xab,xak]);omega) (evs [18,27] [] (ixq sl74 I I I (zaE hg1.1) I (evd [18,27] [] (wc zqM (zhK hw hb ht (hc' y hym) (hl.2 y hym) (hz y hym)) I I ?_))));refine xbt .none I I I (by(try simp only[xaa,xab,xak]);omega) (evd [18,27] [] (dr (ar (xaj ((pre++[y],rest,o++((if pre.length=0 then [] else [47])++za4 w ⟨a,k⟩ y))) ⟨⟨(by have hz:=hg1.1;rw[<-hz];simp),⟨(by have h3:(if pre.length=0 then ([]:Str) else [47]).length<=1:=(by split<;>simp);simp only[xaa,xab,xak];omega),(by rw[<-hg1.2.2];simp[za7])⟩⟩,oe,sx ⟨⟨_,I,xaK ?_⟩,⟨⟨_,I,xaL ?_⟩,O⟩⟩ O⟩))));iterate 2 focus (first|(simp;done)|(dsimp only;rw[if_neg od];simp;done))
 refine ixq sl74 I I I (zaE hg1.1) I (evd [18,27] [] (wc zqM (zhK hw hb ht (hc' y hym) (hl.2 y hym) (hz y hym)) I I ?_));refine xbt .none I I I (by(try simp only[xaa,xab,xak]);omega) (evd [18,27] [] (dr (ar (xaj ((pre++[y],rest,o++((if pre.length=0 then [] else [47])++za4 w ⟨a,k⟩ y))) ⟨⟨(by have hz:=hg1.1;rw[<-hz];simp),⟨(by have h3:(if pre.length=0 then ([]:Str) else [47]).length<=1:=(by split<;>simp);simp only[xaa,xab,xak];omega),(by rw[<-hg1.2.2];simp[za7])⟩⟩,oe,sx ⟨⟨_,I,xaK ?_⟩,⟨⟨_,I,xaL ?_⟩,O⟩⟩ O⟩))));iterate 2 focus (first|(simp;done)|(dsimp only;rw[if_pos od];simp;done))
 try simp only[Q,xal,xac] at h1p
 have hrest:rest=[]:=by
  rcases rest with _|⟨a,b⟩
  ·rfl
  ·exfalso;have hz:=xam List.length (hg1.1);simp only[xaa,xab,xac] at hz;omega
 subst hrest;refine rq ?_;rotate_left;all_goals (refine xam D.str ?_;have hfin:=hg1.2.2;simp only[za7,xaq] at hfin;exact hfin)
end Go.Proofs.YtmkipahfpaacgaaGreatDoor
namespace Go.Proofs.YtmkipahfpaacgaaGreatDoor
open Go Go.RowKit
set_option linter.unusedSimpArgs false
set_option linter.unusedVariables false
theorem zqD {G:Gh}{w w':World} (h:Below w.heap.size w w') (ht:∀b,w.heap.size<=b->G.F b=0) (own:List Nat):Frm w G.F own w' G.F:=
 ⟨h.os,h.tape,h.output,h.size,fun b hb _=>⟨h.block b hb,rfl⟩,fun b o ho=>⟨ho,by
  by_cases hb:b<w.heap.size
  ·unfold World.cell?;simp only[h.block b hb]
  ·rw[ht b od] at ho;omega⟩⟩
theorem FnD.strOf {P:Program}{f:FuncId}{args:List AV}{s:List UInt8} (h:∀(G:Gh) (w:World) (vals:Array Value),AllR G (fun _=>none) w args vals->(∀b,w.heap.size<=b->G.F b=0)->Calls P f vals w fun e w'=>e = .returned (.string ⟨s.toArray⟩)/\Below w.heap.size w w'):
  FnD P f args [] (.d (.str s)) []:=by
 intro G w vals hok;have hTn:tokf []=fun _=>none:=by funext i;rfl
 have ha:=hok.args;rw[hTn] at ha;refine(h G w vals ha hok.top).mono ?_;rintro e w' ⟨rfl,hb⟩
 exact⟨_,_,_,G,rfl,⟨rfl,rfl⟩,.d (.str s),fun id x hx=>by simp[getH] at hx,fun id id' h1=>by simp[getH] at h1,fun id h1=>by simp[getH] at h1,
  zqD hb hok.top _,fun b hb'=>hok.top b (Nat.le_trans hb.size hb'),fun id hid=>by simp[zcg,getH] at hid⟩
theorem AllR.one {G:Gh}{T:TokF}{w:World}{x:AV}{vals:Array Value} (h:AllR G T w [x] vals):∃v,vals = #[v]/\RelA G T w x v:=by
 have hs:=h.size;obtain⟨l⟩:=vals;match l,hs with
 | [v],_=>exact⟨v,rfl,h.rel 0 oe oe⟩
theorem AllR.two {G:Gh}{T:TokF}{w:World}{x y:AV}{vals:Array Value} (h:AllR G T w [x,y] vals):∃v u,vals = #[v,u]/\RelA G T w x v/\RelA G T w y u:=by
 have hs:=h.size;obtain⟨l⟩:=vals;match l,hs with
 | [v,u],_=>exact⟨v,u,rfl,h.rel 0 oe oe,h.rel 1 oe oe⟩
def zcW (sep:List UInt8):List (List UInt8)->List UInt8
 | []=>[]
 | [x]=>x
 |x::y::r=>x++sep++zcW sep (y::r)
theorem zi1 (sep:List UInt8):∀l,Lib.join l sep=zcW sep l
 | []=>rfl
 | [x]=>Lib.join_one x sep
 |x::y::r=>by
  have ih:=zi1 sep (y::r);rw[Lib.join_cons] at ih ⊢;rw[zcW,<-ih];simp[Lib.joinTail]
theorem FnD.join {P:Program}{f:FuncId}{l:List (List UInt8)}{sep:List UInt8}
  (hnone:∀(a:Option Addr) (c:Nat) (sep:ByteArray) (w:World),Calls P f #[.slice a 0 c,.string sep] w fun e w'=>e = .returned (.string ⟨#[]⟩)/\w'=w)
  (hmany:∀(bk o c:Nat) (xs:List ByteArray) (sep:ByteArray) (w:World),(∀(j:Nat) x,xs[j]?=some x->w.cell? ⟨bk,o+j,none⟩=some (.string x))->bk<w.heap.size->xs.length<=140737488355328->xs.length<=c->
   (Lib.join (xs.map (·.data.toList)) sep.data.toList).length<=140737488355328->
   Calls P f #[.slice (some ⟨bk,o,none⟩) xs.length c,.string sep] w fun e w'=>e = .returned (.string ⟨(Lib.join (xs.map (·.data.toList)) sep.data.toList).toArray⟩)/\Below w.heap.size w w')
  (hl:l.length<=140737488355328) (hj:(zcW sep l).length<=140737488355328):FnD P f [.d (.sl (l.map fun s=>[.str s])),.d (.str sep)] [] (.d (.str (zcW sep l))) []:=by
 refine FnD.strOf (fun G w vals hv htop=>?_);obtain⟨v,u,rfl,h1,h2⟩:=hv.two;have h2':=h2.d_inv;cases h2'
 by_cases hx:l=[]
 ·subst hx;have h1':=h1.d_inv;have:∃a c,v = .slice a 0 c:=by
   cases h1' with
   |nil=>exact⟨_,_,rfl⟩
   |sl=>exact⟨_,_,rfl⟩
   |emp=>exact⟨_,_,rfl⟩
  obtain⟨a,c,rfl⟩:=this;exact(hnone a c _ w).mono (by rintro e w' ⟨rfl,rfl⟩;exact⟨rfl,Below.refl _ _⟩)
 ·have h1':=h1.d_inv;generalize hY:(l.map fun s=>[D.str s])=Y at h1';cases h1' with
  |nil=>simp at hY;exact absurd hY hx
  |emp=>simp at hY;exact absurd hY hx
  |sl xs k b off cap cf hk hcap hc hr=>
   subst hY;have hlen:(l.map fun s=>[D.str s]).length=l.length:=by simp
   have hpos:0<l.length:=List.length_pos_iff.2 hx;have k1:k=1:=by
    have:=hk [D.str (l[0])] (List.mem_map.2 ⟨l[0],xao _,rfl⟩);simpa using this.symm
   subst k1;have hcell:∀i (hi:i<l.length),w.cell? ⟨b,off+i,none⟩=some (.string ⟨l[i].toArray⟩):=fun i hi=>by
    obtain⟨_,h3⟩:=hc i (by rw[hlen];omega);rw[h3];have h4:=hr i (by rw[hlen];exact hi) 0 oe;simp only[List.getElem_map,List.getElem_cons_zero,Nat.mul_one,Nat.add_zero] at h4;cases hq:cf i with
    |string s=>rw[hq] at h4;cases h4;rfl
    |_=>rw[hq] at h4;cases h4
   have hb:b<w.heap.size:=by
    obtain⟨h3,_⟩:=hc 0 (by rw[hlen];omega);by_cases hq:b<w.heap.size
    ·exact hq
    ·rw[htop b od] at h3;omega
   have e1:(l.map fun s=>(⟨s.toArray⟩:ByteArray)).map (·.data.toList)=l:=by rw[List.map_map];exact List.map_id _
   have:=hmany b off cap (l.map fun s=>⟨s.toArray⟩) ⟨sep.toArray⟩ w (fun j x hj=>by
    rw[List.getElem?_map] at hj;obtain⟨hlt,e⟩:=Option.map_eq_some_iff.1 hj;obtain⟨hq,e2⟩:=List.getElem?_eq_some_iff.1 e.1;rw[hcell j hq,e2,e.2]) hb (by rw[xac];exact hl) (by rw[xac,<-hlen];exact hcap) (by rw[e1,zi1];simpa using hj)
   rw[e1,zi1,xac] at this;rw[hlen];refine this.mono (by rintro e w' ⟨rfl,h⟩;exact⟨by simp,h⟩)
theorem FnD.itoa {P:Program}{f:FuncId}{n:Int} (h:∀(i:Nat) (_:i<100) (w:World),Calls P f #[.int .i64 i] w fun e w'=>e = .returned (.string ⟨(Lib.decDigits i).toArray⟩)/\w'=w) (h0:0<=n) (h9:n<=9):
  FnD P f [.d (.int .i64 n)] [] (.d (.str [UInt8.ofNat (48+n.toNat)])) []:=by
 refine FnD.strOf (fun G w vals hv htop=>?_);obtain⟨v,rfl,h1⟩:=hv.one;have h1':=h1.d_inv;cases h1'
 obtain⟨i,rfl⟩:=Int.eq_ofNat_of_zero_le h0;refine(h i od w).mono ?_;rintro e w' ⟨rfl,rfl⟩
 refine⟨?_,Below.refl _ _⟩;rw[Lib.decDigits,dif_pos od];rfl
end Go.Proofs.YtmkipahfpaacgaaGreatDoor
namespace Go.Proofs.YtmkipahfpaacgaaGreatDoor
open Go
set_option linter.unusedSimpArgs false
set_option linter.unusedVariables false
set_option maxRecDepth 100000
def kT {α:Type} [Inhabited α] (f:Ty->α->Str) (ts:List Ty) (ks:List α):List Str:=(List.range ks.length).map fun i=>f (nth ts i) (nth ks i)
def zf7 (l:List Str):Str:=if l=[] then [] else [40]++zcW [44] l++[41]
theorem zpl {α:Type} [Inhabited α]{f:Ty->α->Str}{t:Ty}{ts:List Ty}{k:α}{ks:List α}:kT f (t::ts) (k::ks)=f t k::kT f ts ks:=by
 unfold kT;rw[xab,List.range_succ_eq_map,xaf,List.map_map];rfl
theorem zvo {α:Type} [Inhabited α]{f:Ty->α->Str}{ts:List Ty}{ks:List α}:(kT f ts ks).length=ks.length:=by simp[kT]
theorem zn9 {α:Type} [Inhabited α]{f:Ty->α->Str}{ts:List Ty}{ks:List α}{i:Nat} (h:i<ks.length):nth (kT f ts ks) i=f (nth ts i) (nth ks i):=by
 rw[zaV (by rw[zvo];exact h)];simp[kT]
theorem zh4 (sep x:Str) (r:List Str):zcW sep (x::r)=x++r.flatMap (sep++·):=by
 induction r generalizing x with
 |nil=>simp[zcW]
 |cons y r ih=>rw[zcW,ih,List.flatMap_cons];simp
theorem zpQ {α:Type} [Inhabited α]{f:Ty->α->Str}:∀ {ts:List Ty}{ks:List α},ts.length=ks.length->zbt f false ts ks=(kT f ts ks).flatMap ([44]++·)
 | [],[],_=>rfl
 |t::ts,k::ks,h=>by
  rw[zbt,zpl,List.flatMap_cons,zpQ (ts:=ts) (ks:=ks) (by simpa using h)];rfl
theorem zsO {α:Type} [Inhabited α]{f:Ty->α->Str}{ts:List Ty}{ks:List α} (h:ts.length=ks.length):zbt f true ts ks++(if 0<ts.length then [41] else [])=zf7 (kT f ts ks):=by
 cases ts with
 |nil=>
  cases ks with
  |nil=>rfl
  |cons k ks=>simp at h
 |cons t ts=>
  cases ks with
  |nil=>simp at h
  |cons k ks=>
   rw[zbt,if_pos rfl,zpl,zpQ (ts:=ts) (ks:=ks) (by simpa using h),if_pos (show 0<(t::ts).length by simp)];unfold zf7;rw[if_neg oe,zh4];simp
theorem zgV {sep:Str}{l:List Str}{m:Nat} (h:∀x∈l,x.length<=m):(zcW sep l).length<=l.length*(m+sep.length):=by
 cases l with
 |nil=>simp[zcW]
 |cons x r=>
  rw[zh4];have h0:=h x oe;have:∀r:List Str,(∀x∈r,x.length<=m)->(r.flatMap (sep++· : Str->Str)).length<=r.length*(m+sep.length):=by
   intro r;induction r with
   |nil=>simp
   |cons y r ih=>
    intro h;have h1:=ih (fun x hx=>h x (by simp[hx]));have h2:=h y oe;simp only[List.flatMap_cons,xaa,xab,Nat.add_mul,Nat.one_mul];omega
  have h3:=this r (fun y hy=>h y (by simp[hy]));simp only[xaa,xab,Nat.add_mul,Nat.one_mul];rw[Nat.add_comm];omega
theorem znO {w:List Data}{t:Ty} (l:List Cl):za7 w t true l=zcW [47] (l.map (za4 w t)):=by
 cases l with
 |nil=>rfl
 |cons c r=>
  rw[xaf,zh4,za7];have:∀r:List Cl,za7 w t false r=(r.map (za4 w t)).flatMap ([47]++·):=by
   intro r;induction r with
   |nil=>rfl
   |cons c r ih=>rw[za7,ih,xaf,List.flatMap_cons];rfl
  rw[this];rfl
section
variable {w:List Data}{n:Nat}{t:Ty}{p:Pat}
theorem pt4 (h:p.op=4) (hl:p.kids.length=(zab w t p).length):zap w (n+1) t p=za6 w t p.ctor++zf7 (kT (zap w n) (zab w t p) p.kids):=by
 rw[zfD h] at hl ⊢;rw[tx4 h,xar,zsO hl.symm]
theorem pt5 (h:p.op=5) (hl:p.kids.length=(zab w t p).length):zap w (n+1) t p=[40]++nth (kT (zap w n) (zab w t p) p.kids) 0++[124]++nth (kT (zap w n) (zab w t p) p.kids) 1++[41]:=by
 rw[zdQ h] at hl ⊢;have hl2:p.kids.length=2:=hl;rw[tx5 h,zn9 od,zn9 od];rfl
theorem pt6 (h:p.op=6) (hl:p.kids.length=(zab w t p).length):zap w (n+1) t p=letV p.var++[64]++nth (kT (zap w n) (zab w t p) p.kids) 0:=by
 rw[zeT h] at hl ⊢;have hl2:p.kids.length=1:=hl;rw[tx6 h,zn9 od];rfl
end
theorem zsj {n:Int} (h0:0<=n) (h9:n<=9):[UInt8.ofNat (48+n.toNat)]=decV n:=by
 unfold decV;rw[zeV,Int.emod_eq_of_lt od od];show _=[UInt8.ofNat (48+n).toNat]
 rw[show(48+n).toNat=48+n.toNat by omega]
theorem zsv {l:List Str}{m:Nat} (h:∀x∈l,x.length<=m):(zf7 l).length<=l.length*(m+1)+2:=by
 unfold zf7;split
 ·simp
 ·have h1:(zcW [44] l).length<=l.length*(m+1):=zgV (sep:=[44]) h;simp only[xaa,xab,xak];omega
end Go.Proofs.YtmkipahfpaacgaaGreatDoor
namespace Go.Proofs.YtmkipahfpaacgaaGreatDoor
open Go Go.Shelf
set_option linter.unusedSimpArgs false
set_option linter.unusedVariables false
def zpM:Go.Shelf.Ren:=⟨fun|156=>124|165=>206|166=>207|169=>208|240=>267|241=>268|276=>298|277=>299|n=>n,fun|31=>84|9=>9|3=>3|4=>4|0=>0|20=>20|72=>264|76=>268|70=>262|37=>22|75=>267|127=>322|164=>343|5=>5|80=>270|n=>n,fun|n=>n⟩
theorem shJ:Go.Proofs.Lays.n156 Tryz.prog zpM:={
 mixed:=by kernel_rfl
 f156:=Tryz.func124.trans (xam some oi)
 f165:=Tryz.func206.trans (xam some oi)
 f166:=Tryz.func207.trans (xam some oi)
 f169:=Tryz.func208.trans (xam some oi)
 f240:=Tryz.func267.trans (xam some oi)
 f241:=Tryz.func268.trans (xam some oi)
 f276:=Tryz.func298.trans (xam some oi)
 f277:=Tryz.func299.trans (xam some oi)
 t0:=Tryz.underlying0
 a0:=Tryz.isAgg0
 z0:=Tryz.sizeOf0
 v0:=Tryz.zeroValue0
 t3:=Tryz.underlying3
 a3:=Tryz.isAgg3
 z3:=Tryz.sizeOf3
 v3:=Tryz.zeroValue3
 t4:=Tryz.underlying4
 a4:=Tryz.isAgg4
 z4:=Tryz.sizeOf4
 v4:=Tryz.zeroValue4
 t9:=Tryz.underlying9
 a9:=Tryz.isAgg9
 z9:=Tryz.sizeOf9
 v9:=Tryz.zeroValue9
 t20:=Tryz.underlying20
 a20:=Tryz.isAgg20
 z20:=Tryz.sizeOf20
 v20:=Tryz.zeroValue20
 t31:=Tryz.underlying84
 a31:=Tryz.isAgg84
 z31:=Tryz.sizeOf84
 v31:=Tryz.zeroValue84
 t37:=Tryz.underlying22
 a37:=Tryz.isAgg22
 z37:=Tryz.sizeOf22
 v37:=Tryz.zeroValue22
 t70:=Tryz.underlying262
 a70:=Tryz.isAgg262
 z70:=Tryz.sizeOf262
 v70:=Tryz.zeroValue262
 t72:=Tryz.underlying264
 a72:=Tryz.isAgg264
 z72:=Tryz.sizeOf264
 v72:=Tryz.zeroValue264
 t75:=Tryz.underlying267
 a75:=Tryz.isAgg267
 z75:=Tryz.sizeOf267
 v75:=Tryz.zeroValue267
 t76:=Tryz.underlying268
 a76:=Tryz.isAgg268
 z76:=Tryz.sizeOf268
 v76:=Tryz.zeroValue268
 t127:=Tryz.underlying322
 a127:=Tryz.isAgg322
 z127:=Tryz.sizeOf322
 v127:=Tryz.zeroValue322
 t164:=Tryz.underlying343
 a164:=Tryz.isAgg343
 z164:=Tryz.sizeOf343
 v164:=Tryz.zeroValue343 }
theorem shJX:Builder.Extra Tryz.prog zpM:={
 sizeBuilder:=by kernel_rfl
 liesBuilder:=by kernel_rfl
 t5:=Tryz.underlying5
 a5:=Tryz.isAgg5
 z5:=Tryz.sizeOf5
 v5:=Tryz.zeroValue5
 infoByte:=by kernel_rfl
 cellsByte:=by kernel_rfl
 sizeByte:=by kernel_rfl
 neB5:=by decide }
open Go.RowKit in
theorem zt4 (a:Option Addr) (c:Nat) (sep:ByteArray) (w:World):
  Calls Tryz.prog 124 #[.slice a 0 c,.string sep] w fun e w'=>e = .returned (.string ⟨#[]⟩)/\w'=w:=Any.strings_Join_none shJ shJX a c sep w
open Go.RowKit in
theorem zvI (bk o c:Nat) (xs:List ByteArray) (sep:ByteArray) (w:World) (hcells:∀(j:Nat) x,xs[j]?=some x->w.cell? ⟨bk,o+j,none⟩=some (.string x)) (hbk:bk<w.heap.size) (hN:xs.length<=140737488355328) (hcap:xs.length<=c) (hlen:(Lib.join (xs.map (·.data.toList)) sep.data.toList).length<=140737488355328):
  Calls Tryz.prog 124 #[.slice (some ⟨bk,o,none⟩) xs.length c,.string sep] w fun e w'=>e = .returned (.string ⟨(Lib.join (xs.map (·.data.toList)) sep.data.toList).toArray⟩)/\Below w.heap.size w w':=Any.strings_Join shJ shJX bk o c xs sep w hcells hbk hN hcap hlen
def zt3:Go.Shelf.Ren:=⟨fun|171=>154|243=>238|246=>285|283=>305|284=>306|285=>307|286=>308|129=>313|317=>312|318=>314|319=>315|320=>316|337=>317|338=>318|n=>n,fun|3=>3|9=>9|2=>2|4=>4|171=>350|0=>0|53=>351|37=>22|5=>5|173=>354|212=>364|51=>346|20=>20|213=>365|46=>327|232=>368|233=>369|n=>n,fun|17=>3|18=>4|19=>5|n=>n⟩
theorem shI:Go.Proofs.Lays.n171 Tryz.prog zt3:={
 mixed:=by kernel_rfl
 f129:=Tryz.func313.trans (xam some oi)
 f171:=Tryz.func154.trans (xam some oi)
 f243:=Tryz.func238.trans (xam some oi)
 f246:=Tryz.func285.trans (xam some oi)
 f283:=Tryz.func305.trans (xam some oi)
 f284:=Tryz.func306.trans (xam some oi)
 f285:=Tryz.func307.trans (xam some oi)
 f286:=Tryz.func308.trans (xam some oi)
 f317:=Tryz.func312.trans (xam some oi)
 f318:=Tryz.func314.trans (xam some oi)
 f319:=Tryz.func315.trans (xam some oi)
 f320:=Tryz.func316.trans (xam some oi)
 f337:=Tryz.func317.trans (xam some oi)
 f338:=Tryz.func318.trans (xam some oi)
 t0:=Tryz.underlying0
 a0:=Tryz.isAgg0
 z0:=Tryz.sizeOf0
 v0:=Tryz.zeroValue0
 t2:=Tryz.underlying2
 a2:=Tryz.isAgg2
 z2:=Tryz.sizeOf2
 v2:=Tryz.zeroValue2
 t3:=Tryz.underlying3
 a3:=Tryz.isAgg3
 z3:=Tryz.sizeOf3
 v3:=Tryz.zeroValue3
 t4:=Tryz.underlying4
 a4:=Tryz.isAgg4
 z4:=Tryz.sizeOf4
 v4:=Tryz.zeroValue4
 t5:=Tryz.underlying5
 a5:=Tryz.isAgg5
 z5:=Tryz.sizeOf5
 v5:=Tryz.zeroValue5
 t9:=Tryz.underlying9
 a9:=Tryz.isAgg9
 z9:=Tryz.sizeOf9
 v9:=Tryz.zeroValue9
 t20:=Tryz.underlying20
 a20:=Tryz.isAgg20
 z20:=Tryz.sizeOf20
 v20:=Tryz.zeroValue20
 t37:=Tryz.underlying22
 a37:=Tryz.isAgg22
 z37:=Tryz.sizeOf22
 v37:=Tryz.zeroValue22
 t46:=Tryz.underlying327
 a46:=Tryz.isAgg327
 z46:=Tryz.sizeOf327
 v46:=Tryz.zeroValue327
 t51:=Tryz.underlying346
 a51:=Tryz.isAgg346
 z51:=Tryz.sizeOf346
 v51:=Tryz.zeroValue346
 t53:=Tryz.underlying351
 a53:=Tryz.isAgg351
 z53:=Tryz.sizeOf351
 v53:=Tryz.zeroValue351
 t171:=Tryz.underlying350
 a171:=Tryz.isAgg350
 z171:=Tryz.sizeOf350
 v171:=Tryz.zeroValue350
 t173:=Tryz.underlying354
 a173:=Tryz.isAgg354
 z173:=Tryz.sizeOf354
 v173:=Tryz.zeroValue354
 t212:=Tryz.underlying364
 a212:=Tryz.isAgg364
 z212:=Tryz.sizeOf364
 v212:=Tryz.zeroValue364
 t213:=Tryz.underlying365
 a213:=Tryz.isAgg365
 z213:=Tryz.sizeOf365
 t232:=Tryz.underlying368
 a232:=Tryz.isAgg368
 z232:=Tryz.sizeOf368
 v232:=Tryz.zeroValue368
 t233:=Tryz.underlying369
 a233:=Tryz.isAgg369
 z233:=Tryz.sizeOf369
 v233:=Tryz.zeroValue369
 g17:=by kernel_rfl
 g18:=by kernel_rfl
 g19:=by kernel_rfl }
open Go.RowKit in
theorem zvH (i:Nat) (hi:i<100) (w:World):
  Calls Tryz.prog 154 #[.int .i64 i] w fun e w'=>e = .returned (.string ⟨(Lib.decDigits i).toArray⟩)/\w'=w:=Any.strconv_Itoa_small shI i hi w
theorem zha {l:List Str}{sep:Str} (hl:l.length<=140737488355328) (hj:(zcW sep l).length<=140737488355328):FnD Tryz.prog 124 [.d (zb0 l),.d (.str sep)] [] (.d (.str (zcW sep l))) []:=FnD.join zt4 (fun bk o c xs sep w h1 h2 h3 h4 h5=>zvI bk o c xs sep w h1 h2 h3 h4 h5) hl hj
theorem zc9 {n:Int} (h0:0<=n) (h9:n<=9):FnD Tryz.prog 154 [.d (.i n)] [] (.d (.str (decV n))) []:=by
 rw[<-zsj h0 h9];exact FnD.itoa zvH h0 h9
end Go.Proofs.YtmkipahfpaacgaaGreatDoor
namespace Go.Proofs.YtmkipahfpaacgaaGreatDoor
open Go
set_option linter.unusedSimpArgs false
set_option linter.unusedVariables false
set_option maxRecDepth 100000
set_option maxHeartbeats 4000000
def kTn {α:Type} [Inhabited α] (f:Ty->α->Str) (ts:List Ty) (ks:List α) (n:Nat):List Str:=(List.range n).map fun i=>f (nth ts i) (nth ks i)
section
variable {α:Type} [Inhabited α]{f:Ty->α->Str}{ts:List Ty}{ks:List α}
theorem zdq {n:Nat}:(kTn f ts ks n).length=n:=by simp[kTn]
theorem zh5 {n:Nat}:kTn f ts ks (n+1)=kTn f ts ks n++[f (nth ts n) (nth ks n)]:=by unfold kTn;rw[List.range_succ,xag];rfl
theorem zrm {m:Nat} (h:∀i,i<ks.length->(f (nth ts i) (nth ks i)).length<=m){n:Nat} (hn:n<=ks.length):∀x∈kTn f ts ks n,x.length<=m:=fun x hx=>by
 unfold kTn at hx;obtain⟨i,hi,rfl⟩:=List.mem_map.1 hx;exact h i (by have:=List.mem_range.1 hi;omega)
theorem zqb {m:Nat} (h:∀i,i<ks.length->(f (nth ts i) (nth ks i)).length<=m){n i:Nat} (hn:n<=ks.length) (hi:i<n):(nth (kTn f ts ks n) i).length<=m:=
 zrm h hn _ (zam (by rw[zdq];exact hi))
end
theorem zqd {n:Int} (h0:0<=n) (h1:n<=25):strN [IntKind.u8.wrap (97+n)]=letV n:=by
 unfold letV;rw[zeV (n:=n),Int.emod_eq_of_lt h0 od]
theorem zej {n:Int} (h0:0<=n) (h1:n<=25):FnD Tryz.prog 155 [.d (.i n)] [] (.d (.str (letV n))) []:=by
 rw[<-zqd h0 h1];refine bd Tryz.f155 8 [] [] fun _ _ _ _ hk=>?_;refine ar (xbv (by rw[un3];rfl) un5 .none I I ?_);refine si [0] [_] sl22 tz5 ?_;refine xbo sl22 un9 oi .none I I I (by first|rfl|exact zgZ _) ?_;refine ev (rq ?_);rotate_left;all_goals (rfl)
theorem zjL {n m:Int} (z0:0<=n) (z1:n<=9) (z2:0<=m) (z3:m<=9):FnD Tryz.prog 184 [.d (.i n),.d (.i m)] [] (.d (.str (if n=m then decV n else decV n++[45]++decV m))) []:=by
 have l1:=zbY n;have l2:=zbY m;refine bd Tryz.f184 16 [12,15] [] fun _ _ _ _ hk=>?_;apply sq<;>intro h1 h1p h1s<;>(try simp only[Q] at h1p);refine wc ziK (zc9 (n:=n) z0 z1) I I ?_;refine evs [12,15] [] (rq ?_);rotate_left;refine wc ziK (zc9 (n:=n) z0 z1) I I ?_;refine xbt .none I I I (by(try simp only[xaa,xab,xak]);omega) (evs [12,15] [] (wc ziK (zc9 (n:=m) z2 z3) I I ?_));refine xbt .none I I I (by(try simp only[xaa,xab,xak]);omega) (evs [12,15] [] (rq ?_));rotate_left;all_goals (first|(rw[if_pos od];done)|(rw[if_neg od];done))
theorem zl0 {l:List Str} (hl:l.length<=100) (hb:∀x∈l,x.length<=1000000000):FnD Tryz.prog 156 [.d (zb0 l)] [] (.d (.str (zf7 l))) []:=by
 have hj:=zgV (sep:=[44]) hb;have hj2:(zcW [44] l).length<=100*1000000001:=Nat.le_trans hj (xav _ hl);have z0:l=[]->zf7 l=[]:=fun h=>by rw[h];rfl
 have z1:¬l=[]->zf7 l=[40]++zcW [44] l++[41]:=fun h=>by unfold zf7;rw[if_neg h]
 have hc:l.length=0↔l=[]:=List.length_eq_zero_iff;refine bd Tryz.f156 10 [8,9] [] fun _ _ _ _ hk=>?_;apply sq<;>intro h1 h1p h1s<;>(try simp only[Q,xal,xac] at h1p);refine rq ?_;rotate_left;refine wc zqH (zha (l:=l) (sep:=[44]) od od) I I ?_;refine xbt .none I I I (by(try simp only[xaa,xab,xak]);omega) (xbt .none I I I (by(try simp only[xaa,xab,xak]);omega) (evs [8,9] [] (rq ?_)));rotate_left;all_goals (first|(rw[z0 (hc.1 od)];done)|(rw[z1 (fun h=>by have:=hc.2 h;omega)];done))
theorem zjJ {o v n:Int} (z0:0<=v) (z1:v<=25) (z2:0<=n) (z3:n<=9):FnD Tryz.prog 199 [.agg [.d (.i o),.d (.i v),.d (.i n)]] [] (.d (.str (letV v++(if o=1 then [60] else [61])++decV n))) []:=by
 have l1:=zbY n;have l2:=zdf v;refine bd Tryz.f199 16 [11,15] [] fun _ _ _ _ hk=>?_;refine bx 3001 ?_;refine evs [11,15] [] ?_;apply sq<;>intro h1 h1p h1s<;>(try simp only[Q] at h1p);refine wc zkD (zej (n:=v) z0 z1) I I ?_;refine evd [11,15] [] (xbt .none I I I (by(try simp only[xaa,xab,xak]);omega) (evd [11,15] [] (wc ziK (zc9 (n:=n) z2 z3) I I ?_)));refine xbt .none I I I (by(try simp only[xaa,xab,xak]);omega) (evd [11,15] [] (dr (rq ?_)));rotate_left;refine wc zkD (zej (n:=v) z0 z1) I I ?_;refine evd [11,15] [] (xbt .none I I I (by(try simp only[xaa,xab,xak]);omega) (evd [11,15] [] (wc ziK (zc9 (n:=n) z2 z3) I I ?_)));refine xbt .none I I I (by(try simp only[xaa,xab,xak]);omega) (evd [11,15] [] (dr (rq ?_)));rotate_left;all_goals (first|(rw[if_pos od];done)|(rw[if_neg od];done))
set_option maxHeartbeats 2000000
structure Rd where
 s:List UInt8
 bad:Bool
abbrev rdC (w:List Data) (r:Rd):List AV:=[.d (zah w),.d (.str r.s),.d (.bool r.bad)]
def zaw (r:Rd):UInt8:=if r.bad=true\/r.s=[] then 0 else nth r.s 0
def oneR (r:Rd):Rd:=if zaw r=0 then ⟨r.s,true⟩ else ⟨r.s.tail,r.bad⟩
def za1 (r:Rd) (b:UInt8):Rd:=⟨(oneR r).s,decide (zaw r≠b)||(oneR r).bad⟩
theorem zfv {r:Rd} (h:r.bad=true\/r.s=[]):zaw r=0:=if_pos h
theorem zl5 {r:Rd} (h:¬(r.bad=true\/r.s=[])):zaw r=nth r.s 0:=if_neg h
def digR (r:Rd):Rd:=if zaw r<48\/57<zaw r then ⟨(oneR r).s,true⟩ else oneR r
def zdj (r:Rd):Int:=if zaw r<48\/57<zaw r then 0 else (((zaw r).toNat-48:Nat):Int)
theorem zbS {w:List Data}{r:Rd}:FnD Tryz.prog 218 [.ref 901 0] [(901,some (.box (rdC w r)))] (.d (.int .u8 ((zaw r).toNat:Int))) []:=by
 have q0:=fun h=>zfv (r:=r) h;have q1:=fun h=>zl5 (r:=r) h;refine bd Tryz.f218 19 [] [] fun _ _ _ _ hk=>?_;apply sq<;>intro h1 h1p h1s<;>(try simp only[Q] at h1p);refine sqT ?_;refine rn [] (r1 I) (.eqd ?_) ⟨I,I⟩ (SubH.get ⟨I,O⟩) (fun _ h=>h);rotate_left;apply sq<;>intro h3 h3p h3s<;>(try simp only[Q] at h3p);refine rn [] (r1 I) (.eqd ?_) ⟨I,I⟩ (SubH.get ⟨I,O⟩) (fun _ h=>h);rotate_left;refine xbF (i:=0) un9 .none I I I I (zaS (i:=0) (by have:r.s≠[]:=o0;exact List.length_pos_iff.2 this)) ?_;refine ev (rn [] (r1 I) (.eqd ?_) ⟨I,I⟩ (SubH.get ⟨I,O⟩) (fun _ h=>h));rotate_left;all_goals (first|(rw[q0 o0];rfl)|(rw[q1 o0];done)|(rw[q1 o0];rfl))
theorem zrA {r:Rd} (h:zaw r=0):oneR r=⟨r.s,true⟩:=if_pos h
theorem zrB {r:Rd} (h:¬zaw r=0):oneR r=⟨r.s.tail,r.bad⟩:=if_neg h
theorem u8_0 {b:UInt8}:((b.toNat:Int)=0)↔b=0:=by
 constructor
 ·intro h;have:b.toNat=0:=by omega
  exact UInt8.toNat_inj.1 this
 ·intro h;subst h;rfl
theorem za2 {w:List Data}{r:Rd}:FnD Tryz.prog 220 [.ref 901 0] [(901,some (.box (rdC w r)))] (.d (.int .u8 ((zaw r).toNat:Int))) [(901,some (.box (rdC w (oneR r))))]:=by
 have q0:=fun h=>zrA (r:=r) h;have q1:=fun h=>zrB (r:=r) h;have q2:¬zaw r=0->1<=r.s.length:=fun h=>by
  cases hs:r.s with
  |nil=>exact absurd (zfv (.inr hs)) h
  |cons x l=>simp
 refine bd Tryz.f220 20 [] [] fun _ _ _ _ hk=>?_;refine wd zhu zbS I I ⟨I,O⟩ ?_;refine ev ?_;apply sq<;>intro h1 h1p h1s<;>(try simp only[Q,u8_0] at h1p);refine so ty4 ?_;apply tv;refine rn [(901,some (.box (rdC w (oneR r))))] (r1 I) (.eqd ?_) ⟨I,I⟩ (SubO.get ⟨.inr ?_,⟨.inl I,O⟩⟩) (zak I);rotate_left 2;refine xbx (b:=1) un9 .none I I I I (by first|omega|(simp;omega)|(have:=q2 ol;simp;omega)) ?_;refine ev (so ty9 ?_);apply tv;refine rn [(901,some (.box (rdC w (oneR r))))] (r1 I) (.eqd ?_) ⟨I,I⟩ (SubO.get ⟨.inr ?_,⟨.inl I,O⟩⟩) (zak I);rotate_left 2;all_goals (first|((first|rfl|(rw[show zaw r=0 by assumption];rfl));done)|(first|(rw[q0 ol];rfl)|(rw[q1 ol];simp[rdC];rfl)))
theorem za0 {w:List Data}{r:Rd}{b:UInt8}:FnD Tryz.prog 254 [.ref 901 0,.d (.int .u8 (b.toNat:Int))] [(901,some (.box (rdC w r)))] (.tup []) [(901,some (.box (rdC w (za1 r b))))]:=by
 refine bd Tryz.f254 17 [] [] fun _ _ _ _ hk=>?_;refine wd zd0 za2 I I ⟨I,O⟩ ?_;refine ev ?_;apply sq<;>intro h1 h1p h1s<;>(try simp only[Q] at h1p);refine so ty4 ?_;apply tv;refine rn [(901,some (.box (rdC w (za1 r b))))] .nil (.refl _) ⟨I,I⟩ (SubO.get ⟨.inr ?_,⟨.inl I,O⟩⟩) (zak I);rotate_left;refine so ty4 ?_;apply tv;refine rn [(901,some (.box (rdC w (za1 r b))))] .nil (.refl _) ⟨I,I⟩ (SubO.get ⟨.inr ?_,⟨.inl I,O⟩⟩) (zak I);rotate_left;all_goals (first|((rfl);done)|(show some (Res.box [_,_,_])=some (Res.box [_,_,_]);unfold za1;first|rfl|(simp_all;done)|(simp_all[UInt8.toNat_inj,xal];done)))
theorem rdW {n:Nat} (h:48<=n) (h2:n<2 ^ 8):IntKind.i64.wrap (IntKind.u8.wrap ((n:Int)-48))=((n-48:Nat):Int):=by
 have e:((n:Int)-48)=((n-48:Nat):Int):=by omega
 have h3:IntKind.u8.wrap ((n-48:Nat):Int)=((n-48:Nat):Int):=by
  unfold IntKind.wrap;simp only[IntKind.signed,IntKind.bits];simp;omega
 rw[e,h3,zcV ⟨by omega,by omega⟩]
theorem zq7 {r:Rd} (h:(zaw r).toNat<48\/57<(zaw r).toNat):digR r=⟨(oneR r).s,true⟩/\zdj r=0:=by
 have h':zaw r<48\/57<zaw r:=h;exact⟨if_pos h',if_pos h'⟩
theorem zq8 {r:Rd} (h:¬((zaw r).toNat<48\/57<(zaw r).toNat)):digR r=oneR r/\zdj r=(((zaw r).toNat-48:Nat):Int):=by
 have h':¬(zaw r<48\/57<zaw r):=h;exact⟨if_neg h',if_neg h'⟩
theorem zcH {w:List Data}{r:Rd}:FnD Tryz.prog 219 [.ref 901 0] [(901,some (.box (rdC w r)))] (.d (.i (zdj r))) [(901,some (.box (rdC w (digR r))))]:=by
 have q0:=fun h=>zq7 (r:=r) h;have q1:=fun h=>zq8 (r:=r) h;have q2:=(zaw r).toNat_lt;refine bd Tryz.f219 18 [16] [] fun _ _ _ _ hk=>?_;refine wd zd0 za2 I I ⟨I,O⟩ ?_;refine evs [16] [] ?_;apply sq<;>intro h1 h1p h1s<;>(try simp only[Q] at h1p);refine sqT ?_;refine so ty4 ?_;apply tv;refine rn [(901,some (.box (rdC w (digR r))))] (r1 I) (.eqd ?_) ⟨I,I⟩ (SubO.get ⟨.inr ?_,⟨.inl I,O⟩⟩) (zak I);rotate_left 2;apply sq<;>intro h3 h3p h3s<;>(try simp only[Q] at h3p);refine so ty4 ?_;apply tv;refine rn [(901,some (.box (rdC w (digR r))))] (r1 I) (.eqd ?_) ⟨I,I⟩ (SubO.get ⟨.inr ?_,⟨.inl I,O⟩⟩) (zak I);rotate_left 2;refine xbX .none I I I (xbv oy un3 .none I I ?_);refine evs [16] [] (rn [(901,some (.box (rdC w (digR r))))] (r1 I) (.eqd ?_) ⟨I,I⟩ (SubO.get ⟨.inr ?_,⟨.inl I,O⟩⟩) (zak I));rotate_left 2;all_goals (first|((first|(rw[(q0 od).1];rfl)|(rw[(q1 od).1];rfl)|(rw[(q0 od).2];all_goals rfl)|(rw[(q1 od).2,rdW od q2];all_goals rfl));done)|(first|(rw[(q0 od).1];rfl)|(rw[(q1 od).1];rfl)|(rw[(q0 od).2];all_goals rfl)|(rw[(q1 od).2,rdW od q2];all_goals rfl)))
def zbd (r:Rd):Rd:=⟨r.s.drop (zax r.s),r.bad||decide (zax r.s=0)⟩
def zc5 (r:Rd):Str:=r.s.take (zax r.s)
def zcO (w:List Data) (t:Ty) (r:Rd):Bool:= !(zbd r).bad&& !decide (nmV w t (zc5 r)<0)
def zbI (w:List Data) (t:Ty) (r:Rd):Rd:=if zcO w t r=true then zbd r else ⟨(zbd r).s,true⟩
def zbA (w:List Data) (t:Ty) (r:Rd):Int:=if zcO w t r=true then nmV w t (zc5 r) else 0
def zbr {α:Type} (f:Ty->Rd->α×Rd):Bool->List Ty->Rd->List α×Rd
 |_,[],r=>([],r)
 |b,t::ts,r=>if r.bad=true then ([],r) else
  ((f t (za1 r (if b=true then 40 else 44))).1::(zbr f false ts (f t (za1 r (if b=true then 40 else 44))).2).1,(zbr f false ts (f t (za1 r (if b=true then 40 else 44))).2).2)
def zdB (ts:List Ty) (r:Rd):Rd:=if 0<ts.length then za1 r 41 else r
def patR (w:List Data):Nat->Ty->Rd->Pat×Rd
 |0,_,r=>(zdG,⟨r.s,true⟩)
 |n+1,t,r=>
  if zaw r=0 then (zdG,⟨r.s,true⟩)
  else if zaw r=95 then (.mk 1 0 0 0 0 [],oneR r)
  else if zaJ (zaw r)=true then
   (if zaw (oneR r)=64 then (.mk 6 0 0 0 (((zaw r).toNat:Int)-97) [(patR w n t (oneR (oneR r))).1],(patR w n t (oneR (oneR r))).2)
    else (.mk 2 0 0 0 (((zaw r).toNat:Int)-97) [],oneR r))
  else if za9 (zaw r)=true then
   (if zaw (digR r)=45 then (.mk 3 0 (zdj r) (zdj (oneR (digR r))) 0 [],⟨(digR (oneR (digR r))).s,(digR (oneR (digR r))).bad||decide (zdj (oneR (digR r))=zdj r)⟩)
    else (.mk 3 0 (zdj r) (zdj r) 0 [],digR r))
  else if zaw r=40 then
   (.mk 5 0 0 0 0 [(patR w n t (oneR r)).1,(patR w n t (za1 (patR w n t (oneR r)).2 124)).1],za1 (patR w n t (za1 (patR w n t (oneR r)).2 124)).2 41)
  else if (zbI w t r).bad=true then (.mk 4 (zbA w t r) 0 0 0 [],zbI w t r)
  else (.mk 4 (zbA w t r) 0 0 0 (zbr (patR w n) true (zae w t (zbA w t r)) (zbI w t r)).1,zdB (zae w t (zbA w t r)) (zbr (patR w n) true (zae w t (zbA w t r)) (zbI w t r)).2)
theorem zdg (r:Rd):(oneR r).s.length<=r.s.length:=by unfold oneR;split<;>simp
theorem zeR (r:Rd) (b:UInt8):(za1 r b).s.length<=r.s.length:=zdg r
theorem zj7 (r:Rd):(digR r).s.length<=r.s.length:=by unfold digR;split<;>exact zdg r
theorem zrw (r:Rd):(zbd r).s.length<=r.s.length:=by unfold zbd;simp
theorem ziP (w:List Data) (t:Ty) (r:Rd):(zbI w t r).s.length<=r.s.length:=by unfold zbI;split<;>exact zrw r
theorem zrq (ts:List Ty) (r:Rd):(zdB ts r).s.length<=r.s.length:=by
 unfold zdB;split
 ·exact zeR r _
 ·exact Nat.le_refl _
theorem zmG {α:Type}{f:Ty->Rd->α×Rd} (hf:∀t r,(f t r).2.s.length<=r.s.length):∀(ts:List Ty) (b:Bool) (r:Rd),(zbr f b ts r).2.s.length<=r.s.length
 | [],b,r=>Nat.le_refl _
 |t::ts,b,r=>by
  rw[zbr];split
  ·exact Nat.le_refl _
  ·exact Nat.le_trans (zmG hf ts false _) (Nat.le_trans (hf t _) (zeR r _))
theorem zkn (w:List Data):∀(n:Nat) (t:Ty) (r:Rd),(patR w n t r).2.s.length<=r.s.length
 |0,t,r=>Nat.le_refl _
 |n+1,t,r=>by
  have ih:=zkn w n;rw[patR];split
  ·exact Nat.le_refl _
  split
  ·exact zdg r
  split
  ·split
   ·exact Nat.le_trans (ih t _) (Nat.le_trans (zdg _) (zdg r))
   ·exact zdg r
  split
  ·split
   ·exact Nat.le_trans (zj7 _) (Nat.le_trans (zdg _) (zj7 r))
   ·exact zj7 r
  split
  ·exact Nat.le_trans (zeR _ _) (Nat.le_trans (ih t _) (Nat.le_trans (zeR _ _) (Nat.le_trans (ih t _) (zdg r))))
  split
  ·exact ziP w t r
  ·exact Nat.le_trans (zrq _ _) (Nat.le_trans (zmG ih _ _ _) (ziP w t r))
theorem zoc {f:Ty->Rd->Pat×Rd}{M:Nat}:∀(ts:List Ty) (b:Bool) (r:Rd),(∀t∈ts,∀r,(f t r).1.ok/\(f t r).1.size<=M)->Pats.ok (zbr f b ts r).1/\Pats.size (zbr f b ts r).1<=ts.length*M/\(zbr f b ts r).1.length<=ts.length
 | [],b,r,_=>⟨trivial,by simp[zbr,Pats.size],by simp[zbr]⟩
 |t::ts,b,r,hf=>by
  rw[zbr];split
  ·exact⟨trivial,by simp[Pats.size],by simp⟩
  ·obtain⟨h1,h2,h3⟩:=zoc ts false (f t (za1 r (if b=true then 40 else 44))).2 (fun u hu=>hf u (by simp[hu]));have h0:=hf t oe (za1 r (if b=true then 40 else 44));refine⟨⟨h0.1,h1⟩, ?_,by simp only[xab];omega⟩;rw[Pats.size,xab,Nat.add_mul];omega
theorem zhi {w:List Data}{t:Ty}{r:Rd} (h:(zbI w t r).bad=false):zcO w t r=true/\zbA w t r=nmV w t (zc5 r)/\zbA w t r∈zao w t/\zbI w t r=zbd r:=by
 have h1:zcO w t r=true:=by
  cases e:zcO w t r with
  |true=>rfl
  |false=>unfold zbI at h;rw[if_neg (by rw[e];simp)] at h;cases h
 have h2:zbA w t r=nmV w t (zc5 r):=by unfold zbA;rw[if_pos h1]
 refine⟨h1,h2, ?_,by unfold zbI;rw[if_pos h1]⟩;rw[h2];unfold zcO at h1;simp only[xad,Bool.not_eq_true',decide_eq_false_iff_not] at h1;exact zgr h1.2
theorem zjB {w:List Data} (hA:A3 w):∀(n:Nat){t:Ty} (r:Rd),TyIn w.length t->(patR w n t r).1.ok/\(patR w n t r).1.size<=4 ^ n
 |0,t,r,_=>⟨by rw[xaU];exact⟨by simp[patR,Pat.kids],trivial⟩,by rw[xaV];simp[patR,Pat.kids,Pats.size]⟩
 |n+1,t,r,ht=>by
  have ih:=fun {t:Ty} (r:Rd) (h:TyIn w.length t)=>zjB hA n r h;have hp:1<=4 ^ n:=Nat.pow_pos od;have he:4 ^ (n+1)=4*4 ^ n:=by rw[Nat.pow_succ];omega
  have node:∀ {x1 x2 x3 x4 x5:Int}{l:List Pat},l.length<=3->Pats.ok l->Pats.size l<=3*4 ^ n->(Pat.mk x1 x2 x3 x4 x5 l).ok/\(Pat.mk x1 x2 x3 x4 x5 l).size<=4 ^ (n+1):=fun {x1 x2 x3 x4 x5 l} k3 k1 k2=>by
   refine⟨by rw[xaU];exact⟨by show l.length<=_;omega,k1⟩, ?_⟩;rw[xaV];show 1+Pats.size l<=_
   omega
  have leaf:∀ {x1 x2 x3 x4 x5:Int},(Pat.mk x1 x2 x3 x4 x5 []).ok/\(Pat.mk x1 x2 x3 x4 x5 []).size<=4 ^ (n+1):=node oe trivial (by simp[Pats.size]);rw[patR];split
  ·exact leaf
  split
  ·exact leaf
  split
  ·split
   ·have k:=ih (oneR (oneR r)) ht;exact node oe ⟨k.1,O⟩ (by simp only[Pats.size];omega)
   ·exact leaf
  split
  ·split<;>exact leaf
  split
  ·have k:=ih (oneR r) ht;have k2:=ih (za1 (patR w n t (oneR r)).2 124) ht;exact node oe ⟨k.1,k2.1,O⟩ (by simp only[Pats.size];omega)
  split
  ·exact leaf
  ·rename_i hb;have hm:=(zhi (w:=w) (t:=t) (r:=r) (by simpa using hb)).2.2.1;have hA':=hA t _ ht hm;obtain⟨k1,k2,k3⟩:=zoc (f:=patR w n) (zae w t (zbA w t r)) true (zbI w t r) (fun u hu r=>ih r (hA'.2 u hu));refine node od k1 (Nat.le_trans k2 (xav _ hA'.1))
theorem zgG {r:Rd} (h:zaw r≠0):∃x l,r=⟨x::l,false⟩/\zaw r=x:=by
 obtain⟨s,b⟩:=r;cases b with
 |true=>exact absurd (zfv (.inl I)) h
 |false=>
  cases s with
  |nil=>exact absurd (zfv (.inr I)) h
  |cons x l=>exact⟨x,l,rfl,by rw[zl5 oe];rfl⟩
theorem zb1 {x:UInt8}{l:Str}:zaw ⟨x::l,false⟩=x:=by rw[zl5 oe];rfl
theorem zpt:zaw ⟨[],false⟩=0:=zfv (.inr rfl)
theorem zd7 {x:UInt8}{l:Str} (h:x≠0):oneR ⟨x::l,false⟩=⟨l,false⟩:=by rw[zrB (by rw[zb1];exact h)];rfl
theorem zhD {x:UInt8}{l:Str} (h:x≠0):za1 ⟨x::l,false⟩ x=⟨l,false⟩:=by
 unfold za1;rw[zd7 h,zb1];simp
theorem zig {r:Rd}{b:UInt8} (hb:b≠0) (h:(za1 r b).bad=false):∃l,r=⟨b::l,false⟩/\za1 r b=⟨l,false⟩:=by
 have h1:zaw r=b:=by
  unfold za1 at h;simp only[Bool.or_eq_false_iff,decide_eq_false_iff_not,ne_eq,Decidable.not_not] at h;exact h.1
 obtain⟨x,l,e,hx⟩:=zgG (r:=r) (by rw[h1];exact hb);rw[hx] at h1;subst h1;exact⟨l,e,by rw[e];exact zhD hb⟩
theorem zeu {x:UInt8} (h:za9 x=true):x≠0/\48<=x.toNat/\x.toNat<=57:=by
 unfold za9 at h;rw[xad,xah,xah] at h;refine⟨fun e=>?_,by omega,by omega⟩;subst e;exact absurd h.1 oh
theorem ze6 {x:UInt8} (h:zaJ x=true):x≠0/\97<=x.toNat/\x.toNat<=122:=by
 unfold zaJ at h;rw[xad,xah,xah] at h;refine⟨fun e=>?_,by omega,by omega⟩;subst e;exact absurd h.1 oh
theorem ziQ {x:UInt8}{l:Str} (h:za9 x=true):digR ⟨x::l,false⟩=⟨l,false⟩/\zdj ⟨x::l,false⟩=(x.toNat:Int)-48:=by
 obtain⟨h0,h1,h2⟩:=zeu h;have:=zq8 (r:=⟨x::l,false⟩) (by rw[zb1];omega);rw[this.1,this.2,zd7 h0,zb1];exact⟨rfl,by omega⟩
theorem ztA {r:Rd} (h:(digR r).bad=false):∃c l,za9 c=true/\r=⟨c::l,false⟩:=by
 by_cases hc:(zaw r).toNat<48\/57<(zaw r).toNat
 ·rw[(zq7 hc).1] at h;cases h
 ·obtain⟨x,l,e,hx⟩:=zgG (r:=r) (by intro e;rw[e] at hc;exact hc (.inl oh));rw[hx] at hc;exact⟨x,l,zhV od od,e⟩
theorem zsz {r:Rd} (h:(zbd r).bad=false):r.bad=false/\0<zax r.s/\zbd r=⟨r.s.drop (zax r.s),false⟩:=by
 unfold zbd at h ⊢;simp only[Bool.or_eq_false_iff,decide_eq_false_iff_not] at h;refine⟨h.1,by omega, ?_⟩;rw[h.1,xaw h.2];rfl
theorem zsh {w:List Data}{t:Ty}{s:Str} (h0:0<zax s) (h1:¬nmV w t (s.take (zax s))<0):zbI w t ⟨s,false⟩=⟨s.drop (zax s),false⟩/\zbA w t ⟨s,false⟩=nmV w t (s.take (zax s)):=by
 have hb:zbd ⟨s,false⟩=⟨s.drop (zax s),false⟩:=by
  unfold zbd;show Rd.mk _ (false||decide (zax s=0))=_
  rw[xaw od];rfl
 have ho:zcO w t ⟨s,false⟩=true:=by
  unfold zcO;rw[hb];show(!false&& !decide (nmV w t (s.take (zax s))<0))=true
  rw[xaw h1];rfl
 unfold zbI zbA;rw[if_pos ho,if_pos ho,hb];exact⟨rfl,rfl⟩
def RdsK {α:Type} (f:Ty->Str->α->Str->Prop):Bool->List Ty->Str->List α->Str->Prop
 |_,[],s,ps,s'=>ps=[]/\s=s'
 |b,t::ts,s,ps,s'=>∃l p m qs,s=(if b=true then 40 else 44)::l/\f t l p m/\RdsK f false ts m qs s'/\ps=p::qs
def RdsP (w:List Data):Nat->Ty->Str->Pat->Str->Prop
 |0,_,_,_,_=>False
 |n+1,t,s,p,s'=>
  (s=95::s'/\p = .mk 1 0 0 0 0 [])\/
  (∃c,zaJ c=true/\s=c::s'/\s'.head?≠some 64/\p = .mk 2 0 0 0 ((c.toNat:Int)-97) [])\/
  (∃c l q,zaJ c=true/\s=c::64::l/\RdsP w n t l q s'/\p = .mk 6 0 0 0 ((c.toNat:Int)-97) [q])\/
  (∃c,za9 c=true/\s=c::s'/\s'.head?≠some 45/\p = .mk 3 0 ((c.toNat:Int)-48) ((c.toNat:Int)-48) 0 [])\/
  (∃c d,za9 c=true/\za9 d=true/\d≠c/\s=c::45::d::s'/\p = .mk 3 0 ((c.toNat:Int)-48) ((d.toNat:Int)-48) 0 [])\/
  (∃l x m y,s=40::l/\RdsP w n t l x (124::m)/\RdsP w n t m y (41::s')/\p = .mk 5 0 0 0 0 [x,y])\/
  (∃ks m,0<zax s/\¬nmV w t (s.take (zax s))<0/\RdsK (RdsP w n) true (zae w t (nmV w t (s.take (zax s)))) (s.drop (zax s)) ks m/\
   m=(if 0<(zae w t (nmV w t (s.take (zax s)))).length then 41::s' else s')/\p = .mk 4 (nmV w t (s.take (zax s))) 0 0 0 ks)
theorem zi5 {α:Type}{f:Ty->Rd->α×Rd}{g:Ty->Str->α->Str->Prop} (hf:∀t r,(f t r).2.bad=false->r.bad=false/\g t r.s (f t r).1 (f t r).2.s):
  ∀(ts:List Ty) (b:Bool) (r:Rd),(zbr f b ts r).2.bad=false->r.bad=false/\RdsK g b ts r.s (zbr f b ts r).1 (zbr f b ts r).2.s
 | [],b,r,h=>⟨h,rfl,rfl⟩
 |t::ts,b,r,h=>by
  rw[zbr] at h ⊢;by_cases hb:r.bad=true
  ·rw[if_pos hb,hb] at h;cases h
  ·rw[if_neg hb] at h ⊢;have hsg:(if b=true then (40:UInt8) else 44)≠0:=by split<;>decide
   obtain⟨sg,hq⟩:∃sg,(if b=true then (40:UInt8) else 44)=sg:=⟨_,rfl⟩;rw[hq] at h hsg ⊢;obtain⟨h1,h2⟩:=zi5 hf ts false _ h;obtain⟨h3,h4⟩:=hf t _ h1;obtain⟨l,e,e2⟩:=zig hsg h3;rw[e2] at h2 h4 ⊢;exact⟨by simpa using hb,l,_,_,_,by rw[e,hq],h4,h2,rfl⟩
theorem zol (w:List Data):∀(n:Nat) (t:Ty) (r:Rd),(patR w n t r).2.bad=false->r.bad=false/\RdsP w n t r.s (patR w n t r).1 (patR w n t r).2.s
 |0,t,r,h=>by cases h
 |n+1,t,r,h=>by
  have ih:=zol w n;have hnz:zaw r≠0:=fun e=>by rw[patR,if_pos e] at h;cases h
  obtain⟨x,l,rfl,hx⟩:=zgG hnz;refine⟨rfl, ?_⟩;have hx0:x≠0:=by rw[<-hx];exact hnz
  have ho:=zd7 (l:=l) hx0;rw[patR,if_neg hnz,hx] at h ⊢;by_cases c1:x=95
  ·rw[if_pos c1,ho];subst c1;exact .inl ⟨I,I⟩
  rw[if_neg c1] at h ⊢;by_cases c2:zaJ x=true
  ·rw[if_pos c2,ho] at h ⊢;by_cases c3:zaw ⟨l,false⟩=64
   ·rw[if_pos c3] at h ⊢;obtain⟨y,l2,e,hy⟩:=zgG (r:=⟨l,false⟩) (by rw[c3];decide);rw[hy] at c3;subst c3;cases e
    rw[zd7 oh] at h ⊢;obtain⟨_,h2⟩:=ih t _ h;exact .inr (.inr (.inl ⟨x,l2,_,c2,I,h2,I⟩))
   ·rw[if_neg c3];refine .inr (.inl ⟨x,c2,I,fun e=>c3 ?_,I⟩);cases l with
    |nil=>cases e
    |cons y l2=>rw[zb1];simpa using e
  rw[if_neg c2] at h ⊢;by_cases c4:za9 x=true
  ·obtain⟨d1,d2⟩:=ziQ (l:=l) c4;rw[if_pos c4,d1,d2] at h ⊢;by_cases c3:zaw ⟨l,false⟩=45
   ·rw[if_pos c3] at h ⊢;obtain⟨y,l2,e,hy⟩:=zgG (r:=⟨l,false⟩) (by rw[c3];decide);rw[hy] at c3;subst c3;cases e
    rw[zd7 oh] at h ⊢;simp only[Bool.or_eq_false_iff,decide_eq_false_iff_not] at h;obtain⟨z,l3,hz,e⟩:=ztA h.1;cases e
    obtain⟨e1,e2⟩:=ziQ (l:=l3) hz;rw[e1,e2] at h ⊢;exact .inr (.inr (.inr (.inr (.inl ⟨x,z,c4,hz,fun e=>h.2 (by rw[e]),I,I⟩))))
   ·rw[if_neg c3];refine .inr (.inr (.inr (.inl ⟨x,c4,I,fun e=>c3 ?_,I⟩)));cases l with
    |nil=>cases e
    |cons y l2=>rw[zb1];simpa using e
  rw[if_neg c4] at h ⊢;by_cases c5:x=40
  ·rw[if_pos c5,ho] at h ⊢;obtain⟨l1,e1,e2⟩:=zig oh h;have hb1:(patR w n t (za1 (patR w n t ⟨l,false⟩).2 124)).2.bad=false:=by rw[e1]
   obtain⟨hb2,hR⟩:=ih t _ hb1;obtain⟨l2,e3,e4⟩:=zig oh hb2;have hb3:(patR w n t ⟨l,false⟩).2.bad=false:=by rw[e3]
   obtain⟨_,hL⟩:=ih t _ hb3;rw[e2];rw[e4] at hR e1 ⊢;refine .inr (.inr (.inr (.inr (.inr (.inl ⟨l,_,l2,_,by rw[c5], ?_, ?_,I⟩)))))
   ·rw[e3] at hL;exact hL
   ·rw[e1] at hR;exact hR
  rw[if_neg c5] at h ⊢;by_cases c6:(zbI w t ⟨x::l,false⟩).bad=true
  ·rw[if_pos c6] at h;rw[c6] at h;cases h
  rw[if_neg c6] at h ⊢;obtain⟨o1,o2,o3,o4⟩:=zhi (w:=w) (t:=t) (r:=⟨x::l,false⟩) (by simpa using c6);unfold zcO at o1;simp only[xad,Bool.not_eq_true',decide_eq_false_iff_not] at o1;obtain⟨_,n1,n2⟩:=zsz o1.1;have hk:nmV w t (zc5 ⟨x::l,false⟩)=nmV w t ((x::l).take (zax (x::l))):=rfl;rw[o2,o4,n2,hk] at h ⊢;rw[hk] at o1;refine .inr (.inr (.inr (.inr (.inr (.inr ?_)))));unfold zdB at h ⊢;by_cases c7:0<(zae w t (nmV w t ((x::l).take (zax (x::l))))).length
  ·rw[if_pos c7] at h ⊢;obtain⟨l1,e1,e2⟩:=zig oh h;obtain⟨_,hK⟩:=zi5 (g:=RdsP w n) ih _ true _ (by rw[e1]);refine⟨_,_,n1,o1.2,hK, ?_,rfl⟩;rw[if_pos c7,e2,e1]
  ·rw[if_neg c7] at h ⊢;obtain⟨_,hK⟩:=zi5 (g:=RdsP w n) ih _ true _ h;exact⟨_,_,n1,o1.2,hK,by rw[if_neg c7],rfl⟩
theorem zob {α:Type}{f:Ty->Rd->α×Rd}{g:Ty->Str->α->Str->Prop} (hf:∀t s p s',g t s p s'->f t ⟨s,false⟩=(p,⟨s',false⟩)):
  ∀(ts:List Ty) (b:Bool) (s:Str) (ps:List α) (s':Str),RdsK g b ts s ps s'->zbr f b ts ⟨s,false⟩=(ps,⟨s',false⟩)
 | [],b,s,ps,s',h=>by obtain⟨rfl,rfl⟩:=h;rfl
 |t::ts,b,s,ps,s',h=>by
  obtain⟨l,p,m,qs,rfl,h1,h2,rfl⟩:=h;rw[zbr,if_neg oe,zhD (by split<;>decide),hf t _ _ _ h1,zob hf ts false _ _ _ h2]
theorem zpS {s:Str} (h:0<zax s):∃x l,s=x::l/\zba x=true:=by
 cases s with
 |nil=>exact absurd h oh
 |cons x l=>
  refine⟨x,l,rfl, ?_⟩;cases hu:zba x with
  |true=>rfl
  |false=>rw[zax,if_neg (by rw[hu];simp)] at h;omega
theorem zpw (w:List Data):∀(n:Nat) (t:Ty) (s:Str) (p:Pat) (s':Str),RdsP w n t s p s'->patR w n t ⟨s,false⟩=(p,⟨s',false⟩)
 |0,t,s,p,s',h=>h.elim
 |n+1,t,s,p,s',h=>by
  have ih:=zpw w n;have hd45:∀ {l:Str},l.head?≠some 45->¬zaw ⟨l,false⟩=45:=fun {l} hl e=>by
   cases l with
   |nil=>rw[zpt] at e;exact absurd e oh
   |cons y l2=>rw[zb1] at e;exact hl (by rw[e];rfl)
  have hd64:∀ {l:Str},l.head?≠some 64->¬zaw ⟨l,false⟩=64:=fun {l} hl e=>by
   cases l with
   |nil=>rw[zpt] at e;exact absurd e oh
   |cons y l2=>rw[zb1] at e;exact hl (by rw[e];rfl)
  have nlow:∀ {c:UInt8},za9 c=true->¬zaJ c=true:=fun {c} h h'=>by have:=zeu h;have:=ze6 h';omega
  rcases h with ⟨rfl,rfl⟩|⟨c,hc,rfl,hh,rfl⟩|⟨c,l,q,hc,rfl,hq,rfl⟩|⟨c,hc,rfl,hh,rfl⟩|⟨c,d,hc,hd,hne,rfl,rfl⟩|⟨l,x,m,y,rfl,h1,h2,rfl⟩|⟨ks,m,n1,n2,hK,hm,rfl⟩
  ·rw[patR,zb1,if_neg oh,if_pos rfl,zd7 oh]
  ·have:=ze6 hc;rw[patR,zb1,if_neg this.1,if_neg (by intro e;subst e;revert hc;decide),if_pos hc,zd7 this.1,if_neg (hd64 hh)]
  ·have:=ze6 hc;rw[patR,zb1,if_neg this.1,if_neg (by intro e;subst e;revert hc;decide),if_pos hc,zd7 this.1,if_pos zb1,zd7 oh,ih t _ _ _ hq]
  ·have:=zeu hc;obtain⟨d1,d2⟩:=ziQ (l:=s') hc;rw[patR,zb1,if_neg this.1,if_neg (by intro e;subst e;revert hc;decide),if_neg (nlow hc),if_pos hc,d1,d2,if_neg (hd45 hh)]
  ·have:=zeu hc;obtain⟨d1,d2⟩:=ziQ (l:=45::d::s') hc;obtain⟨d3,d4⟩:=ziQ (l:=s') hd;rw[patR,zb1,if_neg this.1,if_neg (by intro e;subst e;revert hc;decide),if_neg (nlow hc),if_pos hc,d1,d2,if_pos zb1,zd7 oh,d3,d4];have:decide ((d.toNat:Int)-48=(c.toNat:Int)-48)=false:=xaw (fun e=>hne (UInt8.toNat_inj.1 od));rw[this];rfl
  ·rw[patR,zb1,if_neg oh,if_neg oh,if_neg oh,if_neg oh,if_pos rfl,zd7 oh,ih t _ _ _ h1];dsimp only;rw[zhD oh,ih t _ _ _ h2];dsimp only;rw[zhD oh]
  ·obtain⟨x,l,rfl,hu⟩:=zpS n1;have hu':65<=x.toNat/\x.toNat<=90:=by
    unfold zba at hu;rw[xad,xah,xah] at hu;omega
   obtain⟨c1,c2⟩:=zsh (w:=w) (t:=t) n1 n2;rw[patR,zb1,if_neg (by intro e;subst e;revert hu;decide),if_neg (by intro e;subst e;revert hu;decide),if_neg (fun h=>by have:=ze6 h;omega),if_neg (fun h=>by have:=zeu h;omega),if_neg (by intro e;subst e;revert hu;decide),c1,c2,if_neg oe,zob ih _ true _ _ _ hK];unfold zdB;dsimp only;by_cases c7:0<(zae w t (nmV w t ((x::l).take (zax (x::l))))).length
   ·rw[if_pos c7] at hm ⊢;rw[hm,zhD oh]
   ·rw[if_neg c7] at hm ⊢;rw[hm]
set_option maxHeartbeats 4000000
theorem zik {w:List Data} (hs:WSmall w) (hv:zaT w=true):A3 w:=fun t c ht hc=>by
 obtain⟨a,k⟩:=t;have hw:=zco hs hv;refine⟨(zgF hw (zgQ hv) ht hc).2,fun u hu=>?_⟩;obtain⟨d,rfl,hd,hp⟩:=zbc ht hc;exact ziH hw hd hp hu
theorem zpn {f:Ty->Int->Pat×Int}{s:Str}{M:Nat}:∀(ts:List Ty) (sg:List UInt8) (a:Int),(∀t∈ts,∀b,(f t b).1.ok/\(f t b).1.size<=M)->∀r,kidL f s ts sg a=some r->Pats.ok r.1/\Pats.size r.1<=ts.length*M/\r.1.length=ts.length
 | [],_,a,_,r,h=>by rw[kidL] at h;cases h;exact⟨trivial,by simp[Pats.size],rfl⟩
 |_::_,[],_,_,r,h=>by rw[kidL] at h;cases h
 |t::ts,c::cs,a,hf,r,h=>by
  rw[kidL] at h;split at h
  ·cases e:kidL f s ts cs (f t (a+1)).2 with
   |none=>rw[e] at h;cases h
   |some r2=>
    rw[e] at h;cases h;obtain⟨h1,h2,h3⟩:=zpn ts cs _ (fun u hu=>hf u (by simp[hu])) r2 e;have h0:=hf t oe (a+1);refine⟨⟨h0.1,h1⟩, ?_,by simp[h3]⟩;show(f t (a+1)).1.size+Pats.size r2.1<=(ts.length+1)*M
    rw[Nat.add_mul];omega
  ·cases h
theorem ztK {f:Ty->Int->Pat×Int}{s:Str}{M:Nat}{ts:List Ty}{sg:List UInt8}{a:Int} (hl:ts.length<=3) (hf:∀t∈ts,∀b,(f t b).1.ok/\(f t b).1.size<=M):Pats.ok (kidV f s ts sg a).1/\Pats.size (kidV f s ts sg a).1<=3*M/\(kidV f s ts sg a).1.length<=3:=by
 unfold kidV;cases e:kidL f s ts sg a with
 |none=>exact⟨trivial,by simp[Pats.size,Option.getD],by simp[Option.getD]⟩
 |some r=>
  obtain⟨h1,h2,h3⟩:=zpn ts sg a hf r e;refine⟨h1, ?_,by show r.1.length<=3;omega⟩;have:ts.length*M<=3*M:=xav _ hl;show Pats.size r.1<=3*M
  omega
theorem zmQ {w:List Data}{s:Str} (hA:A3 w):∀(n:Nat){t:Ty} (a:Int),TyIn w.length t->(zaA w s n t a).1.ok/\(zaA w s n t a).1.size<=4 ^ n
 |0,t,a,_=>⟨by rw[xaU];exact⟨by simp[zaA,Pat.kids],trivial⟩,by rw[xaV];simp[zaA,Pat.kids,Pats.size]⟩
 |n+1,t,a,ht=>by
  have ih:=fun {t:Ty} (b:Int) (h:TyIn w.length t)=>zmQ hA (s:=s) n b h;have hp:1<=4 ^ n:=Nat.pow_pos od;have he:4 ^ (n+1)=4*4 ^ n:=by rw[Nat.pow_succ];omega
  have leaf:∀ {x1 x2 x3 x4 x5:Int},(Pat.mk x1 x2 x3 x4 x5 []).ok/\(Pat.mk x1 x2 x3 x4 x5 []).size<=4 ^ (n+1):=fun {x1 x2 x3 x4 x5}=>⟨by rw[xaU];exact⟨by simp[Pat.kids],trivial⟩,by rw[xaV];simp[Pat.kids,Pats.size];omega⟩;have node:∀ {x1 x2 x3 x4 x5:Int}{ts:List Ty}{sg:List UInt8}{b:Int},ts.length<=3->(∀u∈ts,TyIn w.length u)->(Pat.mk x1 x2 x3 x4 x5 (kidV (zaA w s n) s ts sg b).1).ok/\(Pat.mk x1 x2 x3 x4 x5 (kidV (zaA w s n) s ts sg b).1).size<=4 ^ (n+1):=fun {x1 x2 x3 x4 x5 ts sg b} h1 h2=>by
   obtain⟨k1,k2,k3⟩:=ztK (f:=zaA w s n) (sg:=sg) (a:=b) (s:=s) h1 (fun u hu b=>ih b (h2 u hu));refine⟨by rw[xaU];exact⟨by show(kidV (zaA w s n) s ts sg b).1.length<=_;omega,k1⟩, ?_⟩;rw[xaV];show 1+Pats.size (kidV (zaA w s n) s ts sg b).1<=_
   omega
  have h2:∀u∈[t,t],TyIn w.length u:=by intro u hu;simp at hu;subst hu;exact ht
  have h1:∀u∈[t],TyIn w.length u:=by intro u hu;simp at hu;subst hu;exact ht
  unfold zaA;split
  ·exact leaf
  split
  ·exact leaf
  split
  ·unfold intP;split
   ·exact leaf
   ·exact leaf
  split
  ·split
   ·exact node oe h2
   ·exact leaf
  split
  ·exact node oe h1
  split
  ·exact leaf
  split
  ·exact leaf
  rename_i hc;have hA':=hA t _ ht (zgr hc);split
  ·exact node hA'.1 hA'.2
  split
  ·exact node hA'.1 hA'.2
  ·exact leaf
def wdsV (p:Str):List Str:=cutL 32 [] p
def prV (w:List Data) (t:Ty) (p:Str):Pat×Int:=zaA w (nth (wdsV p) 0) 10 t 0
def ze8 (w:List Data) (t:Ty) (p:Str):Bool:= !decide ((prV w t p).2=((nth (wdsV p) 0).length:Int))||(decide (nth (wdsV p) 0=[])||decide (2<(wdsV p).length))
def pcC (w:List Data) (t:Ty) (p:Str):Cl:=⟨(prV w t p).1,if (wdsV p).length=2 then zcD (nth (wdsV p) 1) else ⟨0,0,0⟩⟩
theorem zvZ {w:List Data}{t:Ty}{p:Str} (h:(wdsV p).length=2):pcC w t p=⟨(prV w t p).1,zcD (nth (wdsV p) 1)⟩:=by unfold pcC;rw[if_pos h]
theorem zvY {w:List Data}{t:Ty}{p:Str} (h:¬(wdsV p).length=2):pcC w t p=⟨(prV w t p).1,⟨0,0,0⟩⟩:=by unfold pcC;rw[if_neg h]
def pcP (s:Str):List Str:=cutL 47 [] s
def zcd (s:Str):Nat:=if s=[] then 0 else if (pcP s).length<=9 then (pcP s).length else 9
theorem zrD {s:Str}{i:Nat}:i<zcd s↔(i<(pcP s).length/\i<=8)/\s≠[]:=by
 unfold zcd;split
 ·rename_i h;simp[h]
 ·rename_i h;split<;>simp[h]<;>omega
def pcN (w:List Data) (t:Ty) (s:Str):Nat->Option (List Cl)
 |0=>some []
 |n+1=>match pcN w t s n with
  |none=>none
  |some r=>if ze8 w t (nth (pcP s) n)=true then none else some (r++[pcC w t (nth (pcP s) n)])
theorem zkp {w:List Data}{t:Ty}{s:Str}{n:Nat}{r:List Cl} (h:pcN w t s n=some r) (hb:ze8 w t (nth (pcP s) n)=false):pcN w t s (n+1)=some (r++[pcC w t (nth (pcP s) n)]):=by
 rw[pcN,h];dsimp only;rw[if_neg (by rw[hb];simp)]
theorem zpz {w:List Data}{t:Ty}{s:Str}{i:Nat} (hb:ze8 w t (nth (pcP s) i)=true):∀ {n:Nat},i<n->pcN w t s n=none
 |0,h=>by omega
 |n+1,h=>by
  rw[pcN];cases e:pcN w t s n with
  |none=>rfl
  |some r=>
   by_cases hi:i=n
   ·subst hi;dsimp only;rw[if_pos hb]
   ·rw[zpz hb (show i<n by omega)] at e;cases e
theorem zrE {w:List Data}{t:Ty}{s:Str} (hA:A3 w) (ht:TyIn w.length t):∀ {n:Nat}{r:List Cl},pcN w t s n=some r->r.length=n/\∀c∈r,c.pat.ok/\c.pat.size<=10000000
 |0,r,h=>by rw[pcN] at h;cases h;simp
 |n+1,r,h=>by
  rw[pcN] at h;cases e:pcN w t s n with
  |none=>rw[e] at h;cases h
  |some r0=>
   rw[e] at h;dsimp only at h;split at h
   ·cases h
   ·cases h
    obtain⟨h1,h2⟩:=zrE hA ht e;refine⟨by simp[h1],fun c hc=>?_⟩;rcases List.mem_append.1 hc with hc|hc
    ·exact h2 c hc
    ·rw[List.mem_singleton.1 hc];have:=zmQ (s:=nth (wdsV (nth (pcP s) n)) 0) hA 10 (t:=t) 0 ht;exact⟨this.1,Nat.le_trans this.2 oh⟩
def pcV (w:List Data) (t:Ty) (s:Str):Option (List Cl):=
 if zaK w t=true then (match pcN w t s (zcd s) with|none=>none|some l=>if zaM w t l=true/\za7 w t true l=s then some l else none) else none
theorem zrF {w:List Data}{t:Ty}{s:Str} (h:zaK w t=false):pcV w t s=none:=by unfold pcV;rw[if_neg (by rw[h];simp)]
theorem ztT {w:List Data}{t:Ty}{s:Str} (h:pcN w t s (zcd s)=none):pcV w t s=none:=by unfold pcV;rw[h];split<;>rfl
theorem zl7 {w:List Data}{t:Ty}{s:Str}{l:List Cl} (h0:zaK w t=true) (h:pcN w t s (zcd s)=some l) (h1:zaM w t l=true) (h2:za7 w t true l=s):pcV w t s=some l:=by unfold pcV;rw[if_pos h0,h];dsimp only;rw[if_pos ⟨h1,h2⟩]
theorem ztU {w:List Data}{t:Ty}{s:Str}{l:List Cl} (h:pcN w t s (zcd s)=some l) (h1:zaM w t l=false):pcV w t s=none:=by unfold pcV;rw[h];dsimp only;split;rw[if_neg (fun h=>by rw[h1] at h;simp at h)];rfl
theorem ztV {w:List Data}{t:Ty}{s:Str}{l:List Cl} (h:pcN w t s (zcd s)=some l) (h2:¬za7 w t true l=s):pcV w t s=none:=by unfold pcV;rw[h];dsimp only;split;rw[if_neg (fun h=>h2 h.2)];rfl
theorem zpU (p:Str):1<=(wdsV p).length:=zfo 32 p []
theorem zih {w:List Data} (hs:WSmall w){a k:Int}{s:Str} (hsl:s.length<=1048576):
  FnD Tryz.prog 53 [.d (zah w),.agg [.d (.i a),.d (.i k)],.d (.str s)] [] (.tup [.d (zbu ((pcV w ⟨a,k⟩ s).getD [])),.d (.bool (pcV w ⟨a,k⟩ s).isSome)]) []:=by
 cases htv:zaK w ⟨a,k⟩ with
 |false=>
  have h0:=zeF hs (a:=a) (b:=k);rw[htv] at h0;rw[zrF htv];refine bd Tryz.f53 98 [] [] fun _ _ _ _ hk=>?_;refine bx 3004 ?_;refine ev (xbR sl74 .none I (ev (wc zny h0 I I ?_)));refine ev ?_;apply sq<;>intro h1 h1p h1s;focus (refine rn0 (r2 I I) (.tup (qee ?_ ?_));all_goals (rfl))
  exfalso;simp at *
 |true=>
  have h0:=zeF hs (a:=a) (b:=k);rw[htv] at h0;obtain⟨wv,ht,_⟩:=zcn htv;have hw:=zco hs wv;have hA:=zik hs wv;have hc1:FnD Tryz.prog 74 [.d (.str s),.d (.int .u8 47)] [] (.d (zb0 (pcP s))) []:=zbN (s:=s) (c:=47) od;have hpl:∀i,i<(pcP s).length->(nth (pcP s) i).length<=1048576:=fun i hi=>by have:=zde (c:=47) (s:=s) hi;exact Nat.le_trans this hsl
  have hc2:∀i,i<(pcP s).length->FnD Tryz.prog 74 [.d (.str (nth (pcP s) i)),.d (.int .u8 32)] [] (.d (zb0 (wdsV (nth (pcP s) i)))) []:=fun i hi=>zbN (s:=nth (pcP s) i) (c:=32) (by have:=hpl i hi;omega);have hwl:∀i,i<(pcP s).length->∀j,j<(wdsV (nth (pcP s) i)).length->(nth (wdsV (nth (pcP s) i)) j).length<=1048576:=fun i hi j hj=>by have:=zde (c:=32) (s:=nth (pcP s) i) hj;exact Nat.le_trans this (hpl i hi)
  have hpp:∀i,i<(pcP s).length->FnD Tryz.prog 106 [.d (zah w),.agg [.d (.i a),.d (.i k)],.d (.str (nth (wdsV (nth (pcP s) i)) 0)),.d (.i 0),.d (.i 10)] [] (.tup [.agg [.d (.i (prV w ⟨a,k⟩ (nth (pcP s) i)).1.op),.d (.i (prV w ⟨a,k⟩ (nth (pcP s) i)).1.ctor),.d (.i (prV w ⟨a,k⟩ (nth (pcP s) i)).1.n),.d (.i (prV w ⟨a,k⟩ (nth (pcP s) i)).1.m),.d (.i (prV w ⟨a,k⟩ (nth (pcP s) i)).1.var),.d (zau (prV w ⟨a,k⟩ (nth (pcP s) i)).1.kids)],.d (.i (prV w ⟨a,k⟩ (nth (pcP s) i)).2)]) []:=fun i hi=>
   zg6 hw hA (s:=nth (wdsV (nth (pcP s) i)) 0) (by have:=hwl i hi 0 (zpU _);omega) 10 od ht ⟨by omega,by omega⟩
  have hlim:=fun i=>zrD (s:=s) (i:=i);have hll:zcd s<=9:=by
   unfold zcd;split
   ·omega
   ·split<;>omega
  have hwd:=fun p:Str=>zpU p;have hbd:∀i,ze8 w ⟨a,k⟩ (nth (pcP s) i)=(!decide ((prV w ⟨a,k⟩ (nth (pcP s) i)).2=((nth (wdsV (nth (pcP s) i)) 0).length:Int))||(decide (nth (wdsV (nth (pcP s) i)) 0=[])||decide (2<(wdsV (nth (pcP s) i)).length))):=fun _=>rfl;have hby:∀i,(¬(prV w ⟨a,k⟩ (nth (pcP s) i)).2=((nth (wdsV (nth (pcP s) i)) 0).length:Int)\/nth (wdsV (nth (pcP s) i)) 0=[]\/2<(wdsV (nth (pcP s) i)).length)->ze8 w ⟨a,k⟩ (nth (pcP s) i)=true:=fun i h=>by
   rw[hbd];rcases h with h|h|h
   ·rw[xaw h];rfl
   ·rw[xax h];simp
   ·rw[xax h];simp
  have hbn:∀i,(prV w ⟨a,k⟩ (nth (pcP s) i)).2=((nth (wdsV (nth (pcP s) i)) 0).length:Int)->¬nth (wdsV (nth (pcP s) i)) 0=[]->¬2<(wdsV (nth (pcP s) i)).length->ze8 w ⟨a,k⟩ (nth (pcP s) i)=false:=fun i h h1 h2=>by
   rw[hbd,xax h,xaw h1,xaw h2];rfl
  have hno:=fun(i:Nat) (h:i<zcd s) (hb:ze8 w ⟨a,k⟩ (nth (pcP s) i)=true)=>ztT (zpz hb h);have hok:=fun(n:Nat) (r:List Cl) (h:pcN w ⟨a,k⟩ s n=some r)=>zrE hA ht h;have hcv:=fun(n:Nat) (r:List Cl) (hn:n<=9) (h:pcN w ⟨a,k⟩ s n=some r)=>zdD hs (a:=a) (k:=k) (l:=r) ⟨by have:=(hok n r h).1;omega,fun c hc=>((hok n r h).2 c hc).1⟩ (fun c hc=>by have:=((hok n r h).2 c hc).2;omega);have htx:=fun(n:Nat) (r:List Cl) (hn:n<=9) (h:pcN w ⟨a,k⟩ s n=some r) (hv:zaM w ⟨a,k⟩ r=true)=>zfe hs (l:=r) ⟨by have:=(hok n r h).1;omega,fun c hc=>((hok n r h).2 c hc).1⟩ (fun c hc=>((hok n r h).2 c hc).2) hv;refine bd Tryz.f53 98 [] [] fun _ _ _ _ hk=>?_;refine bx 3004 ?_;refine ev (xbS 1 sl74 .none I I (ev (wc zny h0 I I ?_)));refine ev ?_;apply sq<;>intro h1 h1p h1s;exfalso;simp at *;refine wc zfE hc1 I I ?_;refine ev (xaA (ι:=Nat×List Cl) hk (fun x=>[(10,.d (.i (x.1:Int))),(8,.gl 1 (x.2.map Cl.c))]) [6,7,11,12,13,14,23,24,25,26,27,28,29,30,31,32,33,34,35,36,37,38,39,40,41,42,43,44,45,46,47,48,49,50,51,52,53,54,55,56,57,58,59,60,61,62,63,64,65,66,67,68,69,70,71,72,73,74,75,76,77,78,79,80,81,82] (fun x=>[(1,some (.tok ((x.2.map Cl.c)).length 9))]) (fun x=>x.1<=zcd s/\pcN w ⟨a,k⟩ s x.1=some x.2/\x.2.length<=x.1) (fun x=>zcd s-x.1) (0,[]) ⟨by simp,I,by simp⟩ ⟨⟨_,I,xaK ?_⟩,⟨⟨_,I,LeA.glg ?_⟩,O⟩⟩ ⟨zag ?_,O⟩ (fun x=>rfl) (fun x hg1=>?_));iterate 3 focus (rfl)
  refine evc [] [] ?_;apply sq<;>intro h2 h2p h2s<;>(try simp only[Q,xal,xac] at h2p);apply sq<;>intro h3 h3p h3s<;>(try simp only[Q,xal,xac] at h3p);apply sq<;>intro h4 h4p h4s<;>(try simp only[Q,xal,xac] at h4p);refine ixq sl84 I I I (zan od) I ?_;refine ev (wc zfE (hc2 x.1 od) I I ?_);refine ev (ixq (i:=0) sl84 I I I (zan (by(have:=hwd (nth (pcP s) x.1);omega))) I (evd [] [] (wc zqF (hpp x.1 od) I I ?_)));refine evd [] [] (ab 3012 tz60 ?_);refine so ty60 ?_;refine evd [] [] (dr (ixq (i:=0) sl84 I I I (zan (by(have:=hwd (nth (pcP s) x.1);omega))) I (ev ?_)));apply sq<;>intro h5 h5p h5s<;>(try simp only[Q,xal,xac] at h5p);refine sqT ?_;refine sqT ?_;refine xbR sl74 .none I (ev (rn0 (r2 I I) (.tup (qee ?_ ?_))));rotate_left 2;refine xbB (i:=0) sl84 (.some I I h5) I I I I (zan (by(have:=hwd (nth (pcP s) x.1);omega))) I (evs [] [(57,false)] ?_ ⟨⟨_,I,h5⟩,O⟩);apply sq<;>intro h7 h7p h7s<;>(try simp only[Q,xal,xac] at h7p);refine sqT ?_;refine xbR sl74 .none I (ev (rn0 (r2 I I) (.tup (qee ?_ ?_))));rotate_left 2;apply sq<;>intro h9 h9p h9s<;>(try simp only[Q,xal,xac] at h9p);refine xbR sl74 .none I (ev (rn0 (r2 I I) (.tup (qee ?_ ?_))));rotate_left 2;refine bu [0] [_] znp ?_;refine ab 3014 zep ?_;refine so zhc ?_;apply tv;apply sq<;>intro h10 h10p h10s<;>(try simp only[Q,xal,xac] at h10p);refine ixq (i:=1) sl84 I I I (zan od) I ?_;refine ev (wc zup (zii (s:=nth (wdsV (nth (pcP s) x.1)) 1) (by have:=hwl x.1 od 1 od;omega)) I I ?_);refine ev (so zby ?_);apply tv;refine si [0] [_] sl74 zep ?_;refine Walk.append sl74 zgm I .none I I I I (zdk I o8) ox om om ?_;refine ev (ar ?_);refine xaj ((x.1+1,x.2++[pcC w ⟨a,k⟩ (nth (pcP s) x.1)])) ⟨(by
      have hi:x.1<zcd s:=(hlim x.1).2 ⟨⟨by omega,by omega⟩,by first|assumption|(simp_all;done)⟩;exact⟨by dsimp only;omega,zkp hg1.2.1 (hbn x.1 od ol od),by simp;omega⟩),(by
      have hi:x.1<zcd s:=(hlim x.1).2 ⟨⟨by omega,by omega⟩,by first|assumption|(simp_all;done)⟩;dsimp only;omega),sx ⟨⟨_,rfl,xaK ?_⟩,⟨⟨_,rfl,LeA.glg ?_⟩,trivial⟩⟩ ⟨zag ?_,trivial⟩⟩
  iterate 3 focus (first|(rw[zvZ od,xag];rfl)|(simp;done))
  refine si [0] [_] sl74 zep ?_;refine Walk.append sl74 zgm I .none I I I I (zdk I o8) ox om om ?_;refine ev (ar ?_);refine xaj ((x.1+1,x.2++[pcC w ⟨a,k⟩ (nth (pcP s) x.1)])) ⟨(by
      have hi:x.1<zcd s:=(hlim x.1).2 ⟨⟨by omega,by omega⟩,by first|assumption|(simp_all;done)⟩;exact⟨by dsimp only;omega,zkp hg1.2.1 (hbn x.1 od ol od),by simp;omega⟩),(by
      have hi:x.1<zcd s:=(hlim x.1).2 ⟨⟨by omega,by omega⟩,by first|assumption|(simp_all;done)⟩;dsimp only;omega),sx ⟨⟨_,rfl,xaK ?_⟩,⟨⟨_,rfl,LeA.glg ?_⟩,trivial⟩⟩ ⟨zag ?_,trivial⟩⟩
  iterate 3 focus (first|(rw[zvY od,xag];rfl)|(simp;done))
  refine Walk.call (cr:=[]) zhS (hcv x.1 x.2 od hg1.2.1) I .none I I (.cons (.refl _) (.cons (.refl _) (.cons (.gl _ _) .nil))) O I I I ?_;refine ev ?_;apply sq<;>intro h11 h11p h11s<;>(try simp only[Q,xal,xac] at h11p);refine sqT ?_;refine xbR sl74 .none I (ev (rn0 (r2 I I) (.tup (qee ?_ ?_))));rotate_left 2;refine Walk.call (cr:=[]) ziJ (htx x.1 x.2 od hg1.2.1 ol) I (.some I I h11) I I (.cons (.refl _) (.cons (.refl _) (.cons (.gl _ _) .nil))) O I I I ?_;refine evs [] [(88,false)] ?_ ⟨⟨_,I,h11⟩,O⟩;apply sq<;>intro h13 h13p h13s<;>(try simp only[Q,xal,xac] at h13p);refine xbR sl74 .none I (ev (rn0 (r2 I I) (.tup (qee ?_ ?_))));rotate_left 2;refine rn0 (r2 I I) (.tup (qge ?_ ?_));rotate_left 2;refine sqF ?_;refine Walk.call (cr:=[]) zhS (hcv x.1 x.2 od hg1.2.1) I .none I I (.cons (.refl _) (.cons (.refl _) (.cons (.gl _ _) .nil))) O I I I ?_;refine ev ?_;apply sq<;>intro h15 h15p h15s<;>(try simp only[Q,xal,xac] at h15p);refine sqT ?_;refine xbR sl74 .none I (ev (rn0 (r2 I I) (.tup (qee ?_ ?_))));rotate_left 2;refine Walk.call (cr:=[]) ziJ (htx x.1 x.2 od hg1.2.1 ol) I (.some I I h15) I I (.cons (.refl _) (.cons (.refl _) (.cons (.gl _ _) .nil))) O I I I ?_;refine evs [] [(88,false)] ?_ ⟨⟨_,I,h15⟩,O⟩;apply sq<;>intro h17 h17p h17s<;>(try simp only[Q,xal,xac] at h17p);refine xbR sl74 .none I (ev (rn0 (r2 I I) (.tup (qee ?_ ?_))));rotate_left 2;refine rn0 (r2 I I) (.tup (qge ?_ ?_));rotate_left 2;refine sqF ?_;refine sqF ?_;refine Walk.call (cr:=[]) zhS (hcv x.1 x.2 od hg1.2.1) I .none I I (.cons (.refl _) (.cons (.refl _) (.cons (.gl _ _) .nil))) O I I I ?_;refine ev ?_;apply sq<;>intro h19 h19p h19s<;>(try simp only[Q,xal,xac] at h19p);refine sqT ?_;refine xbR sl74 .none I (ev (rn0 (r2 I I) (.tup (qee ?_ ?_))));rotate_left 2;refine Walk.call (cr:=[]) ziJ (htx x.1 x.2 od hg1.2.1 ol) I (.some I I h19) I I (.cons (.refl _) (.cons (.refl _) (.cons (.gl _ _) .nil))) O I I I ?_;refine evs [] [(88,false)] ?_ ⟨⟨_,I,h19⟩,O⟩;apply sq<;>intro h21 h21p h21s<;>(try simp only[Q,xal,xac] at h21p);refine xbR sl74 .none I (ev (rn0 (r2 I I) (.tup (qee ?_ ?_))));rotate_left 2;refine rn0 (r2 I I) (.tup (qge ?_ ?_));rotate_left 2;all_goals (first|(rw[hno x.1 ((hlim x.1).2 ⟨⟨by omega,by omega⟩,by first|assumption|(simp_all;done)⟩) (hby x.1 (by first|exact .inl od|exact .inr (.inl ol)|exact .inr (.inr od)))];rfl)|(have e:x.1=zcd s:=(by have h9:=(hlim x.1);by_cases hi:x.1<zcd s;(exfalso;have h8:=h9.1 hi;first|omega|exact h8.2 ol|(simp_all;done));omega);have hN:=hg1.2.1;rw[e] at hN;first|(rw[zl7 htv hN ol ol];all_goals rfl)|(rw[ztU hN ol];all_goals rfl)|(rw[ztV hN ol];all_goals rfl)))
set_option maxHeartbeats 2000000
theorem zfN {c:UInt8} (h:zaJ c=true):letV ((c.toNat:Int)-97)=[c]:=by
 obtain⟨_,h1,h2⟩:=ze6 h;unfold letV strN;rw[xaf,List.map_nil];refine xam (fun x=>[x]) (UInt8.toNat_inj.1 ?_);rw[zeV,zeV,UInt8.toNat_ofNat_of_lt' (by show _<256;omega)];omega
theorem zet {c:UInt8} (h:za9 c=true):decV ((c.toNat:Int)-48)=[c]:=by
 obtain⟨_,h1,h2⟩:=zeu h;unfold decV strN;rw[xaf,List.map_nil];refine xam (fun x=>[x]) (UInt8.toNat_inj.1 ?_);rw[zeV,UInt8.toNat_ofNat_of_lt' (by show _<256;omega)];omega
theorem zsC {w:List Data}{t:Ty}{N:Str} (h:¬nmV w t N<0):za6 w t (nmV w t N)=N:=by
 unfold nmV at h ⊢;cases e:(zao w t).find? (isNm w t N) with
 |none=>rw[e] at h;simp at h
 |some k=>
  have:=List.find?_some e;unfold isNm at this;exact xas this
theorem zmS {α:Type}{f:Ty->Str->α->Str->Prop}{g:Ty->α->Str} (hf:∀t s p s',f t s p s'->s=g t p++s'):∀(ts:List Ty) (b:Bool) (s:Str) (ps:List α) (s':Str),RdsK f b ts s ps s'->s=zbt g b ts ps++s'
 | [],b,s,ps,s',h=>by obtain⟨rfl,rfl⟩:=h;rfl
 |t::ts,b,s,ps,s',h=>by
  obtain⟨l,p,m,qs,rfl,h1,h2,rfl⟩:=h;have e1:=hf t _ _ _ h1;have e2:=zmS hf ts false _ _ _ h2;rw[zbt,e1,e2];cases b<;>simp
theorem zow {w:List Data}:∀(n:Nat) (t:Ty) (s:Str) (p:Pat) (s':Str),RdsP w n t s p s'->s=zap w n t p++s'
 |0,t,s,p,s',h=>h.elim
 |n+1,t,s,p,s',h=>by
  have ih:=zow (w:=w) n;rcases h with ⟨rfl,rfl⟩|⟨c,hc,rfl,hh,rfl⟩|⟨c,l,q,hc,rfl,hq,rfl⟩|⟨c,hc,rfl,hh,rfl⟩|⟨c,d,hc,hd,hne,rfl,rfl⟩|⟨l,x,m,y,rfl,h1,h2,rfl⟩|⟨ks,m,n1,n2,hK,hm,rfl⟩
  ·rw[tx1 rfl];rfl
  ·rw[tx2 rfl];show _=letV ((c.toNat:Int)-97)++_;rw[zfN hc];rfl
  ·rw[tx6 rfl];show _=letV ((c.toNat:Int)-97)++[64]++zap w n t q++s';rw[zfN hc,ih t _ _ _ hq];simp
  ·rw[tx3a rfl rfl];show _=decV ((c.toNat:Int)-48)++_;rw[zet hc];rfl
  ·rw[tx3b rfl (by show ¬(c.toNat:Int)-48=(d.toNat:Int)-48;intro e;exact hne (UInt8.toNat_inj.1 od))];show _=decV ((c.toNat:Int)-48)++[45]++decV ((d.toNat:Int)-48)++s'
   rw[zet hc,zet hd];rfl
  ·rw[tx5 rfl];show _=[40]++zap w n t x++[124]++zap w n t y++[41]++s'
   rw[ih t _ _ _ h1,ih t _ _ _ h2];simp
  ·rw[tx4 rfl];show s=(za6 w t (nmV w t (s.take (zax s)))++zbt (zap w n) true (zae w t (nmV w t (s.take (zax s)))) ks)++(if 0<(zae w t (nmV w t (s.take (zax s)))).length then [41] else [])++s'
   rw[zsC n2];have e:=zmS ih _ _ _ _ _ hK;have e2:s=s.take (zax s)++s.drop (zax s):=(List.take_append_drop _ _).symm;rw[hm] at e;generalize zae w t (nmV w t (s.take (zax s)))=ts at *;generalize hN:s.take (zax s)=N at *;generalize hD:s.drop (zax s)=Dr at *;rw[e2,e];split<;>simp
theorem zdu {s:Str}{m:Nat}{c:UInt8}{l:Str} (h:s.drop m=c::l):zbw s (m:Int) c=true/\m<s.length/\nth s m=c/\s.drop (m+1)=l:=by
 have hm:m<s.length:=by
  rcases Nat.lt_or_ge m s.length with h1|h1
  ·exact h1
  ·rw[List.drop_eq_nil_of_le h1] at h;cases h
 rw[zbk hm] at h;have h1:nth s m=c:=(List.cons.inj h).1;refine⟨?_,hm,h1,(List.cons.inj h).2⟩;unfold zbw;rw[xax (show(0:Int)<=(m:Int) by omega),xax (show(m:Int)<(s.length:Int) by omega)];show(true&&(true&&decide (nth s m=c)))=true
 rw[xax h1];rfl
theorem zrV {s:Str}{m:Nat}{c:UInt8} (h:(s.drop m).head?≠some c):zbw s (m:Int) c=false:=by
 cases e:zbw s (m:Int) c with
 |false=>rfl
 |true=>
  have hm:=(zg4 e).2;unfold zbw at e;simp only[xad,xah] at e;rw[zbk (show m<s.length by omega)] at h;exact absurd (xam some e.2.2) h
theorem zpm {f:Ty->Int->Pat×Int}{g:Ty->Str->Pat->Str->Prop}{s:Str}:∀(ts:List Ty) (b:Bool) (k:Nat) (u:Str) (ps:List Pat) (u':Str) (m:Nat),
  (∀t∈ts,∀u p u' m,g t u p u'->s.drop m=u->m<=s.length->∃m':Nat,m'<=s.length/\s.drop m'=u'/\f t (m:Int)=(p,(m':Int)))->
  ts.length<=k+1->RdsK g b ts u ps u'->s.drop m=u->m<=s.length->∃m':Nat,m'<=s.length/\s.drop m'=u'/\kidL f s ts ((if b=true then 40 else 44)::List.replicate k 44) (m:Int)=some (ps,(m':Int))
 | [],b,k,u,ps,u',m,_,_,h,hd,hm=>by obtain⟨rfl,rfl⟩:=h;exact⟨m,hm,hd,rfl⟩
 |t::ts,b,k,u,ps,u',m,hf,hk,h,hd,hm=>by
  obtain⟨l,p,mm,qs,rfl,h1,h2,rfl⟩:=h;obtain⟨e1,e2,e3,e4⟩:=zdu hd;obtain⟨m1,a1,a2,a3⟩:=hf t oe _ _ _ (m+1) h1 e4 e2;rw[kidL,if_pos e1,show(m:Int)+1=((m+1:Nat):Int) from rfl,a3];cases k with
  |zero=>
   have:ts=[]:=by simpa using hk
   subst this;obtain⟨rfl,rfl⟩:=h2;exact⟨m1,a1,a2,rfl⟩
  |succ k=>
   obtain⟨m2,b1,b2,b3⟩:=zpm ts false k _ _ _ m1 (fun t ht=>hf t (by simp[ht])) (by simp at hk;omega) h2 a2 a1;refine⟨m2,b1,b2, ?_⟩;have e:List.replicate (k+1) (44:UInt8)=(if false=true then 40 else 44)::List.replicate k 44:=rfl;rw[e];dsimp only;rw[b3]
theorem zmT {w:List Data} (hA:A3 w) (s:Str):∀(n:Nat) (t:Ty) (u:Str) (p:Pat) (u':Str) (m:Nat),TyIn w.length t->RdsP w n t u p u'->s.drop m=u->m<=s.length->
  ∃m':Nat,m'<=s.length/\s.drop m'=u'/\zaA w s n t (m:Int)=(p,(m':Int))
 |0,t,u,p,u',m,_,h,_,_=>h.elim
 |n+1,t,u,p,u',m,ht,h,hd,hm=>by
  have ih:=zmT hA s n;rcases h with ⟨rfl,rfl⟩|⟨c,hc,rfl,hh,rfl⟩|⟨c,l,q,hc,rfl,hq,rfl⟩|⟨c,hc,rfl,hh,rfl⟩|⟨c,d,hc,hd',hne,rfl,rfl⟩|⟨l,x,mm,y,rfl,h1,h2,rfl⟩|⟨ks,mm,n1,n2,hK,hmm,rfl⟩
  ·obtain⟨e1,e2,e3,e4⟩:=zdu hd;exact⟨m+1,e2,e4,by rw[zrG e2 (by rw[e3];rfl)];rfl⟩
  ·obtain⟨e1,e2,e3,e4⟩:=zdu hd;obtain⟨_,l1,l2⟩:=ze6 hc;refine⟨m+1,e2,e4, ?_⟩;rw[zou e2 (by rw[e3];omega) (by rw[e3];omega),show(m:Int)+1=((m+1:Nat):Int) from rfl,if_neg (by rw[zrV (by rw[e4];exact hh)];simp),e3]
  ·obtain⟨e1,e2,e3,e4⟩:=zdu hd;obtain⟨f1,f2,f3,f4⟩:=zdu e4;obtain⟨_,l1,l2⟩:=ze6 hc;obtain⟨m1,a1,a2,a3⟩:=ih t _ _ _ (m+1+1) ht hq f4 f2;refine⟨m1,a1,a2, ?_⟩;rw[zou e2 (by rw[e3];omega) (by rw[e3];omega),show(m:Int)+1=((m+1:Nat):Int) from rfl,if_pos f1,e3];unfold kidV;rw[kidL,if_pos f1,show((m+1:Nat):Int)+1=((m+1+1:Nat):Int) from rfl,a3,kidL];rfl
  ·obtain⟨e1,e2,e3,e4⟩:=zdu hd;obtain⟨_,l1,l2⟩:=zeu hc;refine⟨m+1,e2,e4, ?_⟩;rw[zot e2 (by rw[e3];omega) (by rw[e3];omega)];unfold intP;rw[show(m:Int)+1=((m+1:Nat):Int) from rfl,if_neg (fun h=>by rw[zrV (by rw[e4];exact hh)] at h;exact absurd h.1 oe)];unfold digV;rw[e3]
  ·obtain⟨e1,e2,e3,e4⟩:=zdu hd;obtain⟨f1,f2,f3,f4⟩:=zdu e4;obtain⟨g1,g2,g3,g4⟩:=zdu f4;obtain⟨_,l1,l2⟩:=zeu hc;refine⟨m+1+1+1,g2,g4, ?_⟩;rw[zot e2 (by rw[e3];omega) (by rw[e3];omega)];unfold intP;rw[show(m:Int)+1=((m+1:Nat):Int) from rfl,if_pos ⟨f1,g2,by rw[show m+2=m+1+1 from rfl,g3];exact hd'⟩];unfold digV;rw[e3,show m+2=m+1+1 from rfl,g3];rfl
  ·obtain⟨e1,e2,e3,e4⟩:=zdu hd;obtain⟨m1,a1,a2,a3⟩:=ih t _ _ _ (m+1) ht h1 e4 e2;obtain⟨f1,f2,f3,f4⟩:=zdu a2;obtain⟨m2,b1,b2,b3⟩:=ih t _ _ _ (m1+1) ht h2 f4 f2;obtain⟨g1,g2,g3,g4⟩:=zdu b2;refine⟨m2+1,g2,g4, ?_⟩;rw[zth e2 (by rw[e3];rfl)];have hk:kidV (zaA w s n) s [t,t] [40,124] (m:Int)=([x,y],(m2:Int)):=by
    unfold kidV;rw[kidL,if_pos e1,show(m:Int)+1=((m+1:Nat):Int) from rfl,a3,kidL];dsimp only;rw[if_pos f1,show(m1:Int)+1=((m1+1:Nat):Int) from rfl,b3,kidL];rfl
   rw[hk];dsimp only;rw[if_pos g1];rfl
  ·have hu:=zpS n1;obtain⟨x,l,e,hup⟩:=hu;have hm1:m<s.length:=by
    rcases Nat.lt_or_ge m s.length with h1|h1
    ·exact h1
    ·rw[List.drop_eq_nil_of_le h1] at hd;rw[<-hd] at e;cases e
   have hx:nth s m=x:=by rw[zbk hm1,e] at hd;exact(List.cons.inj hd).1
   have hu':65<=x.toNat/\x.toNat<=90:=by
    unfold zba at hup;rw[xad,xah,xah] at hup;omega
   subst hd;have hnl:=zgE (s.drop m);rw[List.length_drop] at hnl;have hK0:∃m':Nat,m'<=s.length/\s.drop m'=mm/\kidL (zaA w s n) s (zae w t (nmV w t ((s.drop m).take (zax (s.drop m))))) [40,44,44] ((m+zax (s.drop m):Nat):Int)=some (ks,(m':Int)):=by
    have hA':=hA t _ ht (zgr n2);refine zpm (g:=RdsP w n) _ true 2 _ _ _ (m+zax (s.drop m)) (fun t' ht' u p u' m hg hdr hmm=>ih t' u p u' m (hA'.2 t' ht') hg hdr hmm) od hK (by rw[List.drop_drop]) od
   obtain⟨m1,a1,a2,a3⟩:=hK0;rw[zrH hm1 (by rw[hx];omega) (by rw[hx];omega) (by rw[hx];omega) (by rw[hx];omega)];unfold conP zbF;have hkv:kidV (zaA w s n) s (zae w t (nmV w t ((s.drop m).take (zax (s.drop m))))) [40,44,44] ((m+zax (s.drop m):Nat):Int)=(ks,(m1:Int)):=by unfold kidV;rw[a3];rfl
   rw[if_neg n2,hkv];by_cases c7:0<(zae w t (nmV w t ((s.drop m).take (zax (s.drop m))))).length
   ·rw[if_pos c7] at hmm;rw[hmm] at a2;obtain⟨g1,g2,g3,g4⟩:=zdu a2;refine⟨m1+1,g2,g4, ?_⟩;rw[if_neg od];dsimp only;rw[if_pos g1];rfl
   ·rw[if_neg c7] at hmm;refine⟨m1,a1,by rw[a2,hmm], ?_⟩;rw[if_pos od]
def NmOk (w:List Data):Prop:=∀t c,TyIn w.length t->c∈zao w t->(∃x l,za6 w t c=x::l/\zba x=true/\zca l=true)/\nmV w t (za6 w t c)=c
theorem zlb {α β:Type}{f:α->List β}:∀ {l:List α},(l.flatMap f).Nodup->∀d∈l,(f d).Nodup
 |x::r,h,d,hd=>by
  rw[List.flatMap_cons,List.nodup_append] at h;rcases List.mem_cons.1 hd with rfl|hd
  ·exact h.1
  ·exact zlb h.2.1 d hd
theorem zsB {l:List Ctor} (h:(l.map (·.name)).Nodup){i j:Nat} (hi:i<l.length) (hj:j<l.length) (e:(nth l i).name=(nth l j).name):i=j:=by
 have key:∀i j,(hi:i<l.length)->(hj:j<l.length)->i<j->(nth l i).name≠(nth l j).name:=fun i j hi hj hij=>by
  have:=List.pairwise_iff_getElem.1 h i j (by simpa using hi) (by simpa using hj) hij;rw[zaV hi,zaV hj];simpa using this
 rcases Nat.lt_trichotomy i j with h1|h1|h1
 ·exact absurd e (key i j hi hj h1)
 ·exact h1
 ·exact absurd e.symm (key j i hj hi h1)
theorem zoM {w:List Data} (hv:zaT w=true):NmOk w:=fun t c ht hc=>by
 obtain⟨a,k⟩:=t;have hW:=(zcp w).1 hv;obtain⟨d,rfl,hd,j,rfl,hj⟩:=zbc ht hc;have hn:∀(i:Nat),za6 w ⟨(d:Int),k⟩ (i:Int)=(nth (nth w d).ctors i).name:=fun i=>rfl;have hnd:((nth w d).ctors.map (·.name)).Nodup:=zlb hW.cnames _ (zam hd);have hok:=hW.ctor _ (zam hd) _ (zam hj);refine⟨?_, ?_⟩
 ·rw[hn];unfold zbz at hok;simp only[xad] at hok;have h1:=hok.1;unfold zcL at h1;rw[xad] at h1;cases hN:(nth (nth w d).ctors j).name with
  |nil=>rw[hN] at h1;exact absurd h1.2 oe
  |cons x l=>
   rw[hN] at h1;have h2:=h1.2;simp only[xad] at h2;exact⟨x,l,rfl,h2.1,h2.2⟩
 ·unfold nmV;have hex:∃x∈zao w ⟨(d:Int),k⟩,isNm w ⟨(d:Int),k⟩ (za6 w ⟨(d:Int),k⟩ (j:Int)) x=true:=⟨_,hc,xax rfl⟩;have hs:=List.find?_isSome.2 hex;obtain⟨k2,hk2⟩:=Option.isSome_iff_exists.1 hs;rw[hk2];have h1:=List.mem_of_find?_eq_some hk2;have h2:=List.find?_some hk2;unfold isNm at h2;replace h2:=xas h2
  obtain⟨d2,e2,hd2,j2,rfl,hj2⟩:=zbc ht h1;obtain rfl:d=d2:=by omega
  rw[hn,hn] at h2;show((j2:Nat):Int)=(j:Int)
  rw[zsB hnd hj2 hj h2]
def zg9 (s:Str):Prop:=∀x,s.head?=some x->x≠64/\x≠45/\zaJ x=false
theorem zsN:zg9 []:=fun x h=>by cases h
theorem zpP (s:Str):zg9 (41::s):=fun x h=>by cases h;decide
theorem zt7 (s:Str):zg9 (44::s):=fun x h=>by cases h;decide
theorem zsM (s:Str):zg9 (124::s):=fun x h=>by cases h;decide
theorem zsw {l r:Str} (h:zca l=true) (hr:∀x,r.head?=some x->zaJ x=false):lowL (l++r)=l.length:=by
 induction l with
 |nil=>
  cases r with
  |nil=>rfl
  |cons y r2=>show(if zaJ y=true then _ else 0)=0;rw[if_neg (by rw[hr y rfl];simp)]
 |cons y l ih=>
  unfold zca at h ih;rw[List.all_cons,xad] at h;show(if zaJ y=true then lowL (l++r)+1 else 0)=_
  rw[if_pos h.1,ih h.2];rfl
theorem zru {x:UInt8}{l r:Str} (hx:zba x=true) (h:zca l=true) (hr:∀x,r.head?=some x->zaJ x=false):zax ((x::l)++r)=(x::l).length:=by
 show(if zba x=true then lowL (l++r)+1 else 0)=_
 rw[if_pos hx,zsw h hr];rfl
theorem zod {v:Int} (h0:0<=v) (h1:v<=25):∃c:UInt8,zaJ c=true/\v=(c.toNat:Int)-97:=by
 refine⟨UInt8.ofNat (97+v.toNat), ?_, ?_⟩
 ·exact zfJ (by rw[UInt8.toNat_ofNat_of_lt' (by show _<256;omega)];omega) (by rw[UInt8.toNat_ofNat_of_lt' (by show _<256;omega)];omega)
 ·rw[UInt8.toNat_ofNat_of_lt' (by show _<256;omega)];omega
theorem znU {v:Int} (h0:0<=v) (h1:v<=9):∃c:UInt8,za9 c=true/\v=(c.toNat:Int)-48:=by
 refine⟨UInt8.ofNat (48+v.toNat), ?_, ?_⟩
 ·exact zhV (by rw[UInt8.toNat_ofNat_of_lt' (by show _<256;omega)];omega) (by rw[UInt8.toNat_ofNat_of_lt' (by show _<256;omega)];omega)
 ·rw[UInt8.toNat_ofNat_of_lt' (by show _<256;omega)];omega
theorem zpE {w:List Data}{n:Nat} (hf:∀t p rest,TyIn w.length t->zas w n t p=true->zg9 rest->RdsP w n t (zap w n t p++rest) p rest):
  ∀(ts:List Ty) (ks:List Pat) (b:Bool) (rest:Str),all2 (zas w n) ts ks=true->(∀t∈ts,TyIn w.length t)->zg9 rest->RdsK (RdsP w n) b ts (zbt (zap w n) b ts ks++rest) ks rest
 | [],[],b,rest,_,_,_=>⟨rfl,rfl⟩
 | [],_::_,b,rest,h,_,_=>by simp[all2] at h
 |_::_,[],b,rest,h,_,_=>by simp[all2] at h
 |t::ts,k::ks,b,rest,h,ht,hr=>by
  simp only[all2,xad] at h;have ih:=zpE hf ts ks false rest h.2 (fun u hu=>ht u (by simp[hu])) hr;have hst:zg9 (zbt (zap w n) false ts ks++rest):=by
   cases ts with
   |nil=>cases ks with
    |nil=>exact hr
    |cons _ _=>simp[all2] at h
   |cons u us=>cases ks with
    |nil=>simp[all2] at h
    |cons q qs=>exact zt7 _
  refine⟨zap w n t k++(zbt (zap w n) false ts ks++rest),k,_,ks, ?_,hf t k _ (ht t oe) h.1 hst,ih,rfl⟩;rw[zbt];cases b<;>simp
theorem zjc {w:List Data} (hw:WT w) (hN:NmOk w):∀(n:Nat) (t:Ty) (p:Pat) (rest:Str),TyIn w.length t->zas w n t p=true->zg9 rest->RdsP w n t (zap w n t p++rest) p rest
 |0,t,p,rest,_,h,_=>by simp[zas] at h
 |n+1,⟨a,k⟩,p,rest,ht,h,hr=>by
  have ih:=zjc hw hN n;obtain⟨ho,hl⟩:=zce h;have hin:=zda hw ht ho;have h':=h;simp only[zas,xad] at h';have hall:=h'.2;unfold ownP at ho;obtain⟨o1,o2,o3,o4,o5⟩:=xas ho;obtain⟨op,ct,pn,pm,v,ks⟩:=p;simp only[Pat.op,Pat.ctor,Pat.n,Pat.m,Pat.var,Pat.kids] at o1 o2 o3 o4 o5 hl hall hin;rcases o5 with o5|o5|o5|o5|o5|o5
  ·subst o5;have hk:ks=[]:=List.eq_nil_of_length_eq_zero (by rw[hl];rfl);subst hk;rw[o2 od,(o3 od).1,(o3 od).2,o4 od,tx1 rfl];exact .inl ⟨I,I⟩
  ·subst o5;have hk:ks=[]:=List.eq_nil_of_length_eq_zero (by rw[hl];rfl);subst hk;obtain⟨c,hc,rfl⟩:=zod (o1 (.inl rfl)).1 (by have:=(o1 (.inl rfl)).2;omega);rw[(o3 od).1,(o3 od).2,o4 od,tx2 rfl];show RdsP w (n+1) ⟨a,k⟩ (letV ((c.toNat:Int)-97)++rest) _ rest
   rw[zfN hc];exact .inr (.inl ⟨c,hc,I,fun e=>(hr _ e).1 I,I⟩)
  ·subst o5;rw[zdQ rfl] at hl hall;rw[o2 od,(o3 od).1,(o3 od).2,o4 od,tx5 rfl];match ks,hl,hall with
   | [x,y],_,hall=>
    simp only[all2,xad] at hall;show RdsP w (n+1) ⟨a,k⟩ ([40]++zap w n ⟨a,k⟩ x++[124]++zap w n ⟨a,k⟩ y++[41]++rest) _ rest
    refine .inr (.inr (.inr (.inr (.inr (.inl ⟨zap w n ⟨a,k⟩ x++(124::(zap w n ⟨a,k⟩ y++(41::rest))),x,zap w n ⟨a,k⟩ y++(41::rest),y,by simp,ih _ _ _ ht hall.1 (zsM _),ih _ _ _ ht hall.2.1 (zpP _),I⟩)))))
  ·subst o5;rw[zeT rfl] at hl hall;obtain⟨c,hc,rfl⟩:=zod (o1 (.inr rfl)).1 (by have:=(o1 (.inr rfl)).2;omega);rw[(o3 od).1,(o3 od).2,o4 od,tx6 rfl];match ks,hl,hall with
   | [x],_,hall=>
    simp only[all2,xad] at hall;show RdsP w (n+1) ⟨a,k⟩ (letV ((c.toNat:Int)-97)++[64]++zap w n ⟨a,k⟩ x++rest) _ rest
    rw[zfN hc];exact .inr (.inr (.inl ⟨c,zap w n ⟨a,k⟩ x++rest,x,hc,by simp,ih _ _ _ ht hall.1 hr,I⟩))
  ·obtain⟨o5,_,q1,q2,q3⟩:=o5;subst o5;have hk:ks=[]:=List.eq_nil_of_length_eq_zero (by rw[hl];rfl);subst hk;obtain⟨c,hc,rfl⟩:=znU q1 od;obtain⟨d,hd,rfl⟩:=znU (v:=pm) od q3;rw[o2 od,o4 od];by_cases he:c=d
   ·subst he;rw[tx3a rfl rfl];show RdsP w (n+1) ⟨a,k⟩ (decV ((c.toNat:Int)-48)++rest) _ rest
    rw[zet hc];exact .inr (.inr (.inr (.inl ⟨c,hc,I,fun e=>(hr _ e).2.1 I,I⟩)))
   ·rw[tx3b rfl (by show ¬(c.toNat:Int)-48=(d.toNat:Int)-48;intro e;exact he (UInt8.toNat_inj.1 od))];show RdsP w (n+1) ⟨a,k⟩ (decV ((c.toNat:Int)-48)++[45]++decV ((d.toNat:Int)-48)++rest) _ rest
    rw[zet hc,zet hd];exact .inr (.inr (.inr (.inr (.inl ⟨c,d,hc,hd,fun e=>he e.symm,I,I⟩))))
  ·obtain⟨o5,hc⟩:=o5;subst o5;rw[zfD rfl] at hl hall hin;obtain⟨⟨x,l,hname,hx,hl2⟩,hnm⟩:=hN _ _ ht hc;rw[o2 od,(o3 od).1,(o3 od).2,tx4 rfl];show RdsP w (n+1) ⟨a,k⟩ ((za6 w ⟨a,k⟩ ct++zbt (zap w n) true (zae w ⟨a,k⟩ ct) ks)++(if 0<(zae w ⟨a,k⟩ ct).length then [41] else [])++rest) _ rest
   have hin':∀t∈zae w ⟨a,k⟩ ct,TyIn w.length t:=hin;have hall':all2 (zas w n) (zae w ⟨a,k⟩ ct) ks=true:=hall;have hge:¬ct<0:=by obtain⟨_,_,_,j,hj,_⟩:=zbc ht hc;omega
   have hK:=zpE ih (zae w ⟨a,k⟩ ct) ks true ((if 0<(zae w ⟨a,k⟩ ct).length then [41] else [])++rest) hall' hin' (by split;exact zpP _;exact hr);have hst:∀y,(zbt (zap w n) true (zae w ⟨a,k⟩ ct) ks++((if 0<(zae w ⟨a,k⟩ ct).length then [41] else [])++rest)).head?=some y->zaJ y=false:=fun y hy=>by
    cases hts:zae w ⟨a,k⟩ ct with
    |nil=>
     rw[hts] at hy;simp only[zbt,xak,Nat.lt_irrefl,if_false,List.nil_append] at hy;exact(hr y hy).2.2
    |cons u us=>
     rw[hts] at hy hall';cases ks with
     |nil=>simp[all2] at hall'
     |cons q qs=>
      simp only[zbt,if_true,xai,List.nil_append,List.head?_cons,xae] at hy;rw[<-hy];decide
   have hcat:za6 w ⟨a,k⟩ ct++zbt (zap w n) true (zae w ⟨a,k⟩ ct) ks++(if 0<(zae w ⟨a,k⟩ ct).length then [41] else [])++rest=za6 w ⟨a,k⟩ ct++(zbt (zap w n) true (zae w ⟨a,k⟩ ct) ks++((if 0<(zae w ⟨a,k⟩ ct).length then [41] else [])++rest)):=by simp
   rw[hcat];generalize zbt (zap w n) true (zae w ⟨a,k⟩ ct) ks++((if 0<(zae w ⟨a,k⟩ ct).length then [41] else [])++rest)=tl at *;have hnn:zax (za6 w ⟨a,k⟩ ct++tl)=(za6 w ⟨a,k⟩ ct).length:=by rw[hname];exact zru hx hl2 hst
   have htk:(za6 w ⟨a,k⟩ ct++tl).take (zax (za6 w ⟨a,k⟩ ct++tl))=za6 w ⟨a,k⟩ ct:=by rw[hnn];simp
   have hdr:(za6 w ⟨a,k⟩ ct++tl).drop (zax (za6 w ⟨a,k⟩ ct++tl))=tl:=by rw[hnn];simp
   refine .inr (.inr (.inr (.inr (.inr (.inr ⟨ks,(if 0<(zae w ⟨a,k⟩ ct).length then [41] else [])++rest, ?_, ?_, ?_, ?_, ?_⟩)))))
   ·rw[hnn,hname];simp
   ·rw[htk,hnm];exact hge
   ·rw[htk,hnm,hdr];exact hK
   ·rw[htk,hnm];split<;>rfl
   ·rw[htk,hnm]
theorem zqf {s:Str}{e:Nat} (he:e<s.length) (hg:(if e=0 then zax s else e+lowL (s.drop e))=zax s)
  (hc:(e=0/\zba (nth s e)=true)\/(0<e/\zaJ (nth s e)=true)):(if e+1=0 then zax s else e+1+lowL (s.drop (e+1)))=zax s:=by
 have:=zmJ (s:=s) (n:=0) (e:=e) od he (by simpa using hg) hc;simpa using this
theorem zqg {s:Str}{e:Nat} (he:e<=s.length) (hg:(if e=0 then zax s else e+lowL (s.drop e))=zax s)
  (hc:e=s.length\/(e=0/\zba (nth s e)=false)\/(0<e/\zaJ (nth s e)=false)):e=zax s:=by
 have:=zmK (s:=s) (n:=0) (e:=e) od he (by simpa using hg) hc;simpa using this
theorem up_y {x:UInt8} (h1:65<=(x.toNat:Int)) (h2:(x.toNat:Int)<=90):zba x=true:=by unfold zba;rw[xad,xah,xah];exact⟨h1,h2⟩
theorem up_f {x:UInt8} (h:¬(65<=(x.toNat:Int)/\(x.toNat:Int)<=90)):zba x=false:=by unfold zba;rw[Bool.and_eq_false_iff,decide_eq_false_iff_not,decide_eq_false_iff_not];omega
theorem zs9 {x:UInt8} (h:¬(97<=(x.toNat:Int)/\(x.toNat:Int)<=122)):zaJ x=false:=by unfold zaJ;rw[Bool.and_eq_false_iff,decide_eq_false_iff_not,decide_eq_false_iff_not];omega
theorem ziB {w:List Data}{r:Rd} (hs:r.s.length<=1000000000000):FnD Tryz.prog 278 [.ref 901 0] [(901,some (.box (rdC w r)))] (.d (.str (zc5 r))) [(901,some (.box (rdC w (zbd r))))]:=by
 have hle:=zgE r.s;have hstop:=fun(e:Nat)=>zqg (s:=r.s) (e:=e);have hstep:=fun(e:Nat)=>zqf (s:=r.s) (e:=e);refine bd Tryz.f278 85 [] [] fun _ _ _ _ hk=>?_;refine xaA (ι:=Nat) hk (fun e=>[(3,.d (.i (e:Int)))]) [5,6,7,8,9,10,11,12,13,14,15,16,17,18,19,20,21,22,23,24,25,26,27,28,29,30,31,32,33,34,35,36,37,38,39,40,41,42,43,44,45,46,47,48,49,50,51,52,53,54,55,56,57] (fun e=>[]) (fun e=>e<=r.s.length/\(if e=0 then zax r.s else e+lowL (r.s.drop e))=zax r.s) (fun e=>r.s.length-e) 0 ⟨Nat.zero_le _,if_pos I⟩ ⟨⟨_,I,xaK ?_⟩,O⟩ O (fun x=>rfl) (fun e hg1=>?_);focus (first|rfl|(simp;done)|omega)
 refine evc [] [] ?_;apply sq<;>intro h1 h1p h1s<;>(try simp only[Q,xal] at h1p);apply sq<;>intro h2 h2p h2s<;>(try simp only[Q,xal] at h2p);refine xbF un9 (.some I I h2) I I I I (zaS od) ?_;refine evs [] [(12,true),(15,true)] ?_ ⟨⟨_,I,h1⟩,⟨_,I,h2⟩,O⟩;apply sq<;>intro h3 h3p h3s<;>(try simp only[Q,xal] at h3p);refine xbF un9 (.some I I h3) I I I I (zaS od) ?_;refine evs [] [(12,true),(24,true)] ?_ ⟨⟨_,I,h1⟩,⟨_,I,h3⟩,O⟩;apply sq<;>intro h4 h4p h4s<;>(try simp only[Q,xal] at h4p);refine sqT ?_;refine ar (xaj (e+1) ⟨⟨by omega,hstep e od hg1.2 (by first|exact .inl ⟨by omega,up_y od od⟩|exact .inr ⟨by omega,zfJ od od⟩)⟩,od,sx ⟨⟨_,I,xaK ?_⟩,O⟩ O⟩);focus (first|rfl|(simp;done)|omega)
 apply sq<;>intro h6 h6p h6s<;>(try simp only[Q,xal] at h6p);refine xbF un9 (.some I I h6) I I I I (zaS od) ?_;refine evs [] [(12,true),(33,false),(36,true)] ?_ ⟨⟨_,I,h1⟩,⟨_,I,h4⟩,⟨_,I,h6⟩,O⟩;apply sq<;>intro h7 h7p h7s<;>(try simp only[Q,xal] at h7p);refine xbF un9 (.some I I h7) I I I I (zaS od) ?_;refine evs [] [(12,true),(33,false),(45,true)] ?_ ⟨⟨_,I,h1⟩,⟨_,I,h4⟩,⟨_,I,h7⟩,O⟩;apply sq<;>intro h8 h8p h8s<;>(try simp only[Q,xal] at h8p);refine ar (xaj (e+1) ⟨⟨by omega,hstep e od hg1.2 (by first|exact .inl ⟨by omega,up_y od od⟩|exact .inr ⟨by omega,zfJ od od⟩)⟩,od,sx ⟨⟨_,I,xaK ?_⟩,O⟩ O⟩);focus (first|rfl|(simp;done)|omega)
 refine xbw un9 .none I I I I oq ?_;refine ev (xbx un9 .none I I I I oq ?_);refine evd [] [] ?_;apply sq<;>intro h9 h9p h9s<;>(try simp only[Q,xal] at h9p);refine so ty9 ?_;refine evd [] [] (so ty4 ?_);refine dr (rn [(901,some (.box (rdC w (zbd r))))] (r1 I) (.eqd ?_) ⟨I,I⟩ (SubO.get ⟨.inr ?_,⟨.inl I,O⟩⟩) (zak I));rotate_left 2;refine so ty9 ?_;refine evd [] [] (so ty4 ?_);refine dr (rn [(901,some (.box (rdC w (zbd r))))] (r1 I) (.eqd ?_) ⟨I,I⟩ (SubO.get ⟨.inr ?_,⟨.inl I,O⟩⟩) (zak I));rotate_left 2;refine sqF ?_;refine xbw un9 .none I I I I oq ?_;refine ev (xbx un9 .none I I I I oq ?_);refine evd [] [] ?_;apply sq<;>intro h11 h11p h11s<;>(try simp only[Q,xal] at h11p);refine so ty9 ?_;refine evd [] [] (so ty4 ?_);refine dr (rn [(901,some (.box (rdC w (zbd r))))] (r1 I) (.eqd ?_) ⟨I,I⟩ (SubO.get ⟨.inr ?_,⟨.inl I,O⟩⟩) (zak I));rotate_left 2;refine so ty9 ?_;refine evd [] [] (so ty4 ?_);refine dr (rn [(901,some (.box (rdC w (zbd r))))] (r1 I) (.eqd ?_) ⟨I,I⟩ (SubO.get ⟨.inr ?_,⟨.inl I,O⟩⟩) (zak I));rotate_left 2;refine sqF ?_;refine sqF ?_;refine xbw un9 .none I I I I oq ?_;refine ev (xbx un9 .none I I I I oq ?_);refine evd [] [] ?_;apply sq<;>intro h13 h13p h13s<;>(try simp only[Q,xal] at h13p);refine so ty9 ?_;refine evd [] [] (so ty4 ?_);refine dr (rn [(901,some (.box (rdC w (zbd r))))] (r1 I) (.eqd ?_) ⟨I,I⟩ (SubO.get ⟨.inr ?_,⟨.inl I,O⟩⟩) (zak I));rotate_left 2;refine so ty9 ?_;refine evd [] [] (so ty4 ?_);refine dr (rn [(901,some (.box (rdC w (zbd r))))] (r1 I) (.eqd ?_) ⟨I,I⟩ (SubO.get ⟨.inr ?_,⟨.inl I,O⟩⟩) (zak I));rotate_left 2;refine sqF ?_;apply sq<;>intro h14 h14p h14s<;>(try simp only[Q,xal] at h14p);refine xbF un9 (.some I I h14) I I I I (zaS od) ?_;refine evs [] [(12,true),(33,false),(36,true)] ?_ ⟨⟨_,I,h1⟩,⟨_,I,I⟩,⟨_,I,h14⟩,O⟩;apply sq<;>intro h15 h15p h15s<;>(try simp only[Q,xal] at h15p);refine xbF un9 (.some I I h15) I I I I (zaS od) ?_;refine evs [] [(12,true),(33,false),(45,true)] ?_ ⟨⟨_,I,h1⟩,⟨_,I,I⟩,⟨_,I,h15⟩,O⟩;apply sq<;>intro h16 h16p h16s<;>(try simp only[Q,xal] at h16p);refine ar (xaj (e+1) ⟨⟨by omega,hstep e od hg1.2 (by first|exact .inl ⟨by omega,up_y od od⟩|exact .inr ⟨by omega,zfJ od od⟩)⟩,od,sx ⟨⟨_,I,xaK ?_⟩,O⟩ O⟩);focus (first|rfl|(simp;done)|omega)
 refine xbw un9 .none I I I I oq ?_;refine ev (xbx un9 .none I I I I oq ?_);refine evd [] [] ?_;apply sq<;>intro h17 h17p h17s<;>(try simp only[Q,xal] at h17p);refine so ty9 ?_;refine evd [] [] (so ty4 ?_);refine dr (rn [(901,some (.box (rdC w (zbd r))))] (r1 I) (.eqd ?_) ⟨I,I⟩ (SubO.get ⟨.inr ?_,⟨.inl I,O⟩⟩) (zak I));rotate_left 2;refine so ty9 ?_;refine evd [] [] (so ty4 ?_);refine dr (rn [(901,some (.box (rdC w (zbd r))))] (r1 I) (.eqd ?_) ⟨I,I⟩ (SubO.get ⟨.inr ?_,⟨.inl I,O⟩⟩) (zak I));rotate_left 2;refine sqF ?_;refine xbw un9 .none I I I I oq ?_;refine ev (xbx un9 .none I I I I oq ?_);refine evd [] [] ?_;apply sq<;>intro h19 h19p h19s<;>(try simp only[Q,xal] at h19p);refine so ty9 ?_;refine evd [] [] (so ty4 ?_);refine dr (rn [(901,some (.box (rdC w (zbd r))))] (r1 I) (.eqd ?_) ⟨I,I⟩ (SubO.get ⟨.inr ?_,⟨.inl I,O⟩⟩) (zak I));rotate_left 2;refine so ty9 ?_;refine evd [] [] (so ty4 ?_);refine dr (rn [(901,some (.box (rdC w (zbd r))))] (r1 I) (.eqd ?_) ⟨I,I⟩ (SubO.get ⟨.inr ?_,⟨.inl I,O⟩⟩) (zak I));rotate_left 2;refine sqF ?_;refine sqF ?_;refine xbw un9 .none I I I I oq ?_;refine ev (xbx un9 .none I I I I oq ?_);refine evd [] [] ?_;apply sq<;>intro h21 h21p h21s<;>(try simp only[Q,xal] at h21p);refine so ty9 ?_;refine evd [] [] (so ty4 ?_);refine dr (rn [(901,some (.box (rdC w (zbd r))))] (r1 I) (.eqd ?_) ⟨I,I⟩ (SubO.get ⟨.inr ?_,⟨.inl I,O⟩⟩) (zak I));rotate_left 2;refine so ty9 ?_;refine evd [] [] (so ty4 ?_);refine dr (rn [(901,some (.box (rdC w (zbd r))))] (r1 I) (.eqd ?_) ⟨I,I⟩ (SubO.get ⟨.inr ?_,⟨.inl I,O⟩⟩) (zak I));rotate_left 2;refine sqF ?_;refine sqF ?_;apply sq<;>intro h22 h22p h22s<;>(try simp only[Q,xal] at h22p);refine xbF un9 (.some I I h22) I I I I (zaS od) ?_;refine evs [] [(12,true),(33,false),(36,true)] ?_ ⟨⟨_,I,h1⟩,⟨_,I,I⟩,⟨_,I,h22⟩,O⟩;apply sq<;>intro h23 h23p h23s<;>(try simp only[Q,xal] at h23p);refine xbF un9 (.some I I h23) I I I I (zaS od) ?_;refine evs [] [(12,true),(33,false),(45,true)] ?_ ⟨⟨_,I,h1⟩,⟨_,I,I⟩,⟨_,I,h23⟩,O⟩;apply sq<;>intro h24 h24p h24s<;>(try simp only[Q,xal] at h24p);refine ar (xaj (e+1) ⟨⟨by omega,hstep e od hg1.2 (by first|exact .inl ⟨by omega,up_y od od⟩|exact .inr ⟨by omega,zfJ od od⟩)⟩,od,sx ⟨⟨_,I,xaK ?_⟩,O⟩ O⟩);focus (first|rfl|(simp;done)|omega)
 refine xbw un9 .none I I I I oq ?_;refine ev (xbx un9 .none I I I I oq ?_);refine evd [] [] ?_;apply sq<;>intro h25 h25p h25s<;>(try simp only[Q,xal] at h25p);refine so ty9 ?_;refine evd [] [] (so ty4 ?_);refine dr (rn [(901,some (.box (rdC w (zbd r))))] (r1 I) (.eqd ?_) ⟨I,I⟩ (SubO.get ⟨.inr ?_,⟨.inl I,O⟩⟩) (zak I));rotate_left 2;refine so ty9 ?_;refine evd [] [] (so ty4 ?_);refine dr (rn [(901,some (.box (rdC w (zbd r))))] (r1 I) (.eqd ?_) ⟨I,I⟩ (SubO.get ⟨.inr ?_,⟨.inl I,O⟩⟩) (zak I));rotate_left 2;refine sqF ?_;refine xbw un9 .none I I I I oq ?_;refine ev (xbx un9 .none I I I I oq ?_);refine evd [] [] ?_;apply sq<;>intro h27 h27p h27s<;>(try simp only[Q,xal] at h27p);refine so ty9 ?_;refine evd [] [] (so ty4 ?_);refine dr (rn [(901,some (.box (rdC w (zbd r))))] (r1 I) (.eqd ?_) ⟨I,I⟩ (SubO.get ⟨.inr ?_,⟨.inl I,O⟩⟩) (zak I));rotate_left 2;refine so ty9 ?_;refine evd [] [] (so ty4 ?_);refine dr (rn [(901,some (.box (rdC w (zbd r))))] (r1 I) (.eqd ?_) ⟨I,I⟩ (SubO.get ⟨.inr ?_,⟨.inl I,O⟩⟩) (zak I));rotate_left 2;refine sqF ?_;refine sqF ?_;refine xbw un9 .none I I I I oq ?_;refine ev (xbx un9 .none I I I I oq ?_);refine evd [] [] ?_;apply sq<;>intro h29 h29p h29s<;>(try simp only[Q,xal] at h29p);refine so ty9 ?_;refine evd [] [] (so ty4 ?_);refine dr (rn [(901,some (.box (rdC w (zbd r))))] (r1 I) (.eqd ?_) ⟨I,I⟩ (SubO.get ⟨.inr ?_,⟨.inl I,O⟩⟩) (zak I));rotate_left 2;refine so ty9 ?_;refine evd [] [] (so ty4 ?_);refine dr (rn [(901,some (.box (rdC w (zbd r))))] (r1 I) (.eqd ?_) ⟨I,I⟩ (SubO.get ⟨.inr ?_,⟨.inl I,O⟩⟩) (zak I));rotate_left 2;refine sqF ?_;refine xbw un9 .none I I I I oq ?_;refine ev (xbx un9 .none I I I I oq ?_);refine evd [] [] ?_;apply sq<;>intro h31 h31p h31s<;>(try simp only[Q,xal] at h31p);refine so ty9 ?_;refine evd [] [] (so ty4 ?_);refine dr (rn [(901,some (.box (rdC w (zbd r))))] (r1 I) (.eqd ?_) ⟨I,I⟩ (SubO.get ⟨.inr ?_,⟨.inl I,O⟩⟩) (zak I));rotate_left 2;refine so ty9 ?_;refine evd [] [] (so ty4 ?_);refine dr (rn [(901,some (.box (rdC w (zbd r))))] (r1 I) (.eqd ?_) ⟨I,I⟩ (SubO.get ⟨.inr ?_,⟨.inl I,O⟩⟩) (zak I));rotate_left 2;all_goals (first|((have hE:=hstop e hg1.1 hg1.2 (by first|exact .inl od|exact .inr (.inl ⟨by omega,up_f od⟩)|exact .inr (.inr ⟨by omega,zs9 od⟩));first|(show some (Res.box [_,_,_])=some (Res.box [_,_,_]);unfold zbd;rw[<-hE];first|rfl|(simp[*];done)|(simp_all;done)|(simp;omega))|(unfold zc5;rw[<-hE];done)|(unfold zc5;rw[<-hE];simp;done));done)|(have hE:=hstop e hg1.1 hg1.2 (by first|exact .inl od|exact .inr (.inl ⟨by omega,up_f od⟩)|exact .inr (.inr ⟨by omega,zs9 od⟩));first|(show some (Res.box [_,_,_])=some (Res.box [_,_,_]);unfold zbd;rw[<-hE];first|rfl|(simp[*];done)|(simp_all;done)|(simp;omega))|(unfold zc5;rw[<-hE];done)|(unfold zc5;rw[<-hE];simp;done)))
theorem ou{p:Prop}(h:p:=by first|assumption|(simp_all;done)):p:=h
theorem ziz {w:List Data} (hw:WT w){a k:Int} (ht:TyIn w.length ⟨a,k⟩){r:Rd} (hs:r.s.length<=1000000000000):FnD Tryz.prog 221 [.ref 901 0,.agg [.d (.i a),.d (.i k)]] [(901,some (.box (rdC w r)))] (.d (.i (zbA w ⟨a,k⟩ r))) [(901,some (.box (rdC w (zbI w ⟨a,k⟩ r))))]:=by
 have hct:=zft hw ht;have hnmc:=ziB (w:=w) (r:=r) hs;have hpl:=fun(c:Int) (h:c∈zao w ⟨a,k⟩)=>zbc ht h;have hcl:=zeq hw ht;have hnm:∀(d m:Nat),a=d->(za6 w ⟨a,k⟩ (m:Int))=(nth (nth w d).ctors m).name:=fun d m h=>by unfold za6;subst h;rfl
 have hok:zcO w ⟨a,k⟩ r=(!(zbd r).bad&& !decide (nmV w ⟨a,k⟩ (zc5 r)<0)):=rfl;have hdef:nmV w ⟨a,k⟩ (zc5 r)=((zao w ⟨a,k⟩).find? (isNm w ⟨a,k⟩ (zc5 r))).getD (-1):=rfl;have hR1:zcO w ⟨a,k⟩ r=true->zbI w ⟨a,k⟩ r=zbd r/\zbA w ⟨a,k⟩ r=nmV w ⟨a,k⟩ (zc5 r):=fun h=>⟨if_pos h,if_pos h⟩;have hR0:zcO w ⟨a,k⟩ r=false->zbI w ⟨a,k⟩ r=⟨(zbd r).s,true⟩/\zbA w ⟨a,k⟩ r=0:=fun h=>⟨if_neg (by rw[h];simp),if_neg (by rw[h];simp)⟩;rw[hdef] at hok hR1;have hisn:∀c,isNm w ⟨a,k⟩ (zc5 r) c=decide (za6 w ⟨a,k⟩ c=zc5 r):=fun _=>rfl;have hge:∀c∈zao w ⟨a,k⟩,0<=c:=fun c h=>by obtain⟨d,_,_,j,hj,_⟩:=hpl c h;omega
 generalize zao w ⟨a,k⟩=l at *;generalize zbI w ⟨a,k⟩ r=X at *;generalize zbA w ⟨a,k⟩ r=Y at *;generalize zcO w ⟨a,k⟩ r=Z at *;generalize zbd r=q at *;generalize zc5 r=nm at *;have hfin:∀(y:Int),y∈l->q.bad=false->l.find? (isNm w ⟨a,k⟩ nm)=some y->X=q/\Y=y:=fun y hy hb hf=>by
  have hz:Z=true:=by rw[hok,hb,hf];simp;exact hge y hy
  have:=hR1 hz;rw[hf] at this;exact this
 have hfn:q.bad=true\/l.find? (isNm w ⟨a,k⟩ nm)=none->X=⟨q.s,true⟩/\Y=0:=fun h=>by
  refine hR0 ?_;rw[hok];rcases h with h|h
  ·rw[h];rfl
  ·rw[h];simp
 have hnmY:∀y (h:y∈l),za6 w ⟨a,k⟩ y=(nth (nth w (hpl y h).choose).ctors (hpl y h).choose_spec.2.2.choose).name:=fun y h=>
  (xam (za6 w ⟨a,k⟩) (hpl y h).choose_spec.2.2.choose_spec.1).trans (hnm _ _ (hpl y h).choose_spec.1)
 have hfound:∀(y:Int) (rest:List Int) (h:y∈l),((y::rest).find? (isNm w ⟨a,k⟩ nm)=l.find? (isNm w ⟨a,k⟩ nm)\/q.bad=true)->q.bad=false->(nth (nth w (hpl y h).choose).ctors (hpl y h).choose_spec.2.2.choose).name=nm->X=q/\Y=y:=fun y rest h hg hb hn=>by
  refine hfin y h hb ?_;rcases hg with hg|hg
  ·rw[<-hg,List.find?_cons_of_pos (by rw[hisn,hnmY y h];exact xax hn)]
  ·rw[hb] at hg;cases hg
 have hnext:∀(y:Int) (rest:List Int) (h:y∈l),((y::rest).find? (isNm w ⟨a,k⟩ nm)=l.find? (isNm w ⟨a,k⟩ nm)\/q.bad=true)->(q.bad=true\/¬(nth (nth w (hpl y h).choose).ctors (hpl y h).choose_spec.2.2.choose).name=nm)->(rest.find? (isNm w ⟨a,k⟩ nm)=l.find? (isNm w ⟨a,k⟩ nm)\/q.bad=true):=fun y rest h hg hn=>by
  rcases hn with hn|hn
  ·exact .inr hn
  ·rcases hg with hg|hg
   ·exact .inl (by rw[<-hg,List.find?_cons_of_neg (by rw[hisn,hnmY y h,xaw hn];simp)])
   ·exact .inr hg
 clear hok hR0 hR1 hdef;refine bd Tryz.f221 48 [] [] fun _ _ _ _ hk=>?_;refine bx 3003 ?_;refine ev (wd zu4 hnmc I I ⟨I,O⟩ ?_);refine ev (wc znH hct I I ?_);refine evd [] [] (dr (xaA (ι:=List (Int)×List (Int)) hk (fun x=>[(17,.d (.i (x.1.length:Int)))]) [4,7,18,19,20,21,22,23,24,25,26,27,28,29,30,31,32,33,34,35,36,37,38,39,40,41,42,43,44] (fun x=>[]) (fun x=>x.1++x.2=l/\(x.2.find? (isNm w ⟨a,k⟩ nm)=l.find? (isNm w ⟨a,k⟩ nm)\/q.bad=true)) (fun x=>x.2.length) ([],l) ⟨by simp,.inl I⟩ ⟨⟨_,I,xaK ?_⟩,O⟩ O (fun x=>rfl) (fun x hg1=>?_)));focus (first|rfl|(simp;done)|(simp_all;done)|omega)
 obtain⟨pre,rest⟩:=x;dsimp only at hg1 ⊢;refine evc [] [] ?_;apply sq<;>intro h1 h1p h1s<;>(try simp only[Q,xal] at h1p);rcases rest with _|⟨y,rest⟩
 ·exfalso;simp_all
 refine ixq zaZ I I I (zaE hg1.1) I (ev ?_);apply sq<;>intro h2 h2p h2s<;>(try simp only[Q,xal] at h2p);refine xbB (i:=(hpl y (by rw[<-hg1.1];simp)).choose) sl23 (.some I I h2) I I I (hpl y (by rw[<-hg1.1];simp)).choose_spec.1 (zan (hpl y (by rw[<-hg1.1];simp)).choose_spec.2.1) I ?_;refine evd [] [(26,true)] ?_ ⟨⟨_,I,h2⟩,O⟩;refine xbB (i:=(hpl y (by rw[<-hg1.1];simp)).choose_spec.2.2.choose) zbx (.some I I h2) I I I (hpl y (by rw[<-hg1.1];simp)).choose_spec.2.2.choose_spec.1 (zan (hpl y (by rw[<-hg1.1];simp)).choose_spec.2.2.choose_spec.2) I ?_;refine evd [] [(26,true)] ?_ ⟨⟨_,I,h2⟩,O⟩;refine dr ?_;apply sq<;>intro h3 h3p h3s<;>(try simp only[Q,xal] at h3p);refine rn [(901,some (.box (rdC w X)))] (r1 I) (.eqd ?_) ⟨I,I⟩ (SubO.get ⟨.inr ?_,⟨.inl I,O⟩⟩) (zak I);rotate_left 2;refine ar (xaj ((pre++[y],rest)) ⟨⟨(by have hz:=hg1.1;rw[<-hz];simp),(hnext y _ (by rw[<-hg1.1];simp) hg1.2 (by first|exact .inr ol|exact .inl ol|exact .inl o0))⟩,oe,sx ⟨⟨_,I,xaK ?_⟩,O⟩ O⟩);focus (first|rfl|(simp;done)|(simp_all;done)|omega)
 refine dr (sqF ?_);refine ar (xaj ((pre++[y],rest)) ⟨⟨(by have hz:=hg1.1;rw[<-hz];simp),(hnext y _ (by rw[<-hg1.1];simp) hg1.2 (by first|exact .inr ol|exact .inl ol|exact .inl o0))⟩,oe,sx ⟨⟨_,I,xaK ?_⟩,O⟩ O⟩);focus (first|rfl|(simp;done)|(simp_all;done)|omega)
 have hrest:rest=[]:=by
  rcases rest with _|⟨a,b⟩
  ·rfl
  ·exfalso;have hz:=xam List.length (hg1.1);simp only[xaa,xab,xac] at hz;omega
 subst hrest;refine so ty4 ?_;apply tv;refine rn [(901,some (.box (rdC w X)))] (r1 I) (.eqd ?_) ⟨I,I⟩ (SubO.get ⟨.inr ?_,⟨.inl I,O⟩⟩) (zak I);rotate_left 2;all_goals (first|((first|(obtain⟨e1,e2⟩:=hfound y rest (by rw[<-hg1.1];simp) hg1.2 ou ol;first|(rw[e1];all_goals rfl)|(rw[e2];all_goals rfl))|(obtain⟨e1,e2⟩:=hfn (by have h9:=hg1.2;simp only[List.find?_nil] at h9;exact h9.symm.imp id (fun h=>h.symm));first|(rw[e1];all_goals rfl)|(rw[e2];all_goals rfl)));done)|(first|(obtain⟨e1,e2⟩:=hfound y rest (by rw[<-hg1.1];simp) hg1.2 ou ol;first|(rw[e1];all_goals rfl)|(rw[e2];all_goals rfl))|(obtain⟨e1,e2⟩:=hfn (by have h9:=hg1.2;simp only[List.find?_nil] at h9;exact h9.symm.imp id (fun h=>h.symm));first|(rw[e1];all_goals rfl)|(rw[e2];all_goals rfl))))
theorem zmC (L:List Nat) (hp:Hp) (i:Nat):getH (L.map (fun j=>(j,(none:Option Res)))++hp) i=if i∈L then none else getH hp i:=by
 induction L with
 |nil=>simp
 |cons x r ih=>
  simp only[xaf,xai,zaa,List.mem_cons];by_cases h:i=x
  ·subst h;simp
  ·simp[h,ih]
section
variable {c:Ctx}
theorem R.drop {G:Gh}{s:St}{a:Act}{w:World} (hr:R c G s a w) (L:List Nat) (hk:∀i l,c.kept i=some l->i∉L):R c G ⟨s.env,L.map (fun j=>(j,none))++s.hp⟩ a w:=by
 have hg:=zmC L s.hp;have hT:∀i p,tokf (L.map (fun j=>(j,(none:Option Res)))++s.hp) i=some p->tokf s.hp i=some p:=fun i p h=>by
  obtain⟨n,k⟩:=p;have:=zaf.1 h;rw[hg] at this;split at this
  ·cases this
  ·exact zaf.2 this
 have hm:∀ {x:AV}{v:Value},RelA G (tokf s.hp) w x v->RelA G (tokf (L.map (fun j=>(j,(none:Option Res)))++s.hp)) w x v:=fun hx=>
  hx.mono (fun _ _ ho=>⟨ho,rfl⟩) (fun _ _=> .inl rfl) (fun i _ p hp=>⟨hT i p hp,fun _ _=>⟨rfl,rfl⟩⟩)
 have hs:∀i r,getH (L.map (fun j=>(j,(none:Option Res)))++s.hp) i=some r->getH s.hp i=some r:=fun i r h=>by
  rw[hg] at h;split at h
  ·cases h
  ·exact h
 have hss:∀i,(getH (L.map (fun j=>(j,(none:Option Res)))++s.hp) i).isSome->(getH s.hp i).isSome:=fun i h=>by
  obtain⟨r,hr⟩:=Option.isSome_iff_exists.1 h;rw[hs i r hr];rfl
 refine⟨hr.size,hr.defers,fun i v h=>hm (hr.slots i v h),fun i r h=>?_,fun i j h1 h2=>hr.disj i j (hss i h1) (hss j h2),fun i h=>hr.new i (hss i h),hr.frm,hr.top,fun i l hl=>?_⟩
 ·have hh:=hr.heap i r (hs i r h);cases r with
  |box cs=>
   obtain⟨b,vs,e,h1,h2,h3,h4,h5⟩:=hh;exact⟨b,vs,e,h1,h2,h3,h4,fun j hj hv=>hm (h5 j hj hv)⟩
  |tok m k=>exact hh
  |map ks=>exact hh
  |tree cs=>exact za3 hh I (fun _ _=>⟨I,I⟩) (Nat.le_refl _) (fun _ _ _=>hm)
 ·obtain⟨k1,k2,k3⟩:=hr.kept i l hl;refine⟨k1, ?_, ?_⟩
  ·show(getH (L.map (fun j=>(j,(none:Option Res)))++s.hp) i).isSome
   rw[hg,if_neg (hk i l hl)];exact k2
  ·show tokf (L.map (fun j=>(j,(none:Option Res)))++s.hp) i=none
   cases h:tokf (L.map (fun j=>(j,(none:Option Res)))++s.hp) i with
   |none=>rfl
   |some p=>rw[hT i p h] at k3;cases k3
theorem R.retokG {G G':Gh}{s:St}{a:Act}{w w':World} (hr:R c G s a w){id n n' k:Nat} (htok:getH s.hp id=some (.tok n k)) (hlt:n<n'/\n'<2 ^ 70)
  (hF:∀b o,o<G.F b->o<G'.F b/\w'.cell? ⟨b,o,none⟩=w.cell? ⟨b,o,none⟩) (hloc:∀i,i≠id->G'.loc i=G.loc i)
  (hoth:∀b,b<w.heap.size->b∉G.loc id->w'.heap[b]?=w.heap[b]?/\G'.F b=G.F b)
  (hid:∀b,b∈G'.loc id->b<w'.heap.size) (hnew:∀b,b∈G'.loc id->b∈G.loc id\/w.heap.size<=b\/((b∈c.own\/c.w0.heap.size<=b)/\∀i,i≠id->(getH s.hp i).isSome->b∉G.loc i))
  (hos:w'.os=w.os) (htp:w'.tape=w.tape) (hou:w'.output=w.output) (hsz:w.heap.size<=w'.heap.size) (htop:∀b,w'.heap.size<=b->G'.F b=0):
  R c G' { s with hp:=(id,some (.tok n' k))::s.hp } a w':=by
 have hT:tokf s.hp id=some (n,k):=zaf.2 htok;have hT1:tokf ((id,some (.tok n' k))::s.hp) id=some (n',k):=zaf.2 o6;have hT2:∀i,i≠id->tokf ((id,some (.tok n' k))::s.hp) i=tokf s.hp i:=fun i hi=>by
  unfold tokf;rw[zaa,if_neg hi]
 have bound:∀i r,getH s.hp i=some r->∀b,b∈G.loc i->b<w.heap.size:=fun i r h=>(hr.heap i r h).bound;have apart:∀i r,i≠id->getH s.hp i=some r->∀b,b∈G.loc i->b∉G.loc id:=fun i r hi h b hb=>hr.disj i id (by rw[h];rfl) (by rw[htok];rfl) hi b hb;have hm:∀ {x:AV}{v:Value},RelA G (tokf s.hp) w x v->RelA G' (tokf ((id,some (.tok n' k))::s.hp)) w' x v:=fun hx=>
  hx.retok hF hT hlt.1 hT1 hT2 hloc (fun i p hi hp b hb=>by
   obtain⟨m,k'⟩:=p;have h1:=zaf.1 hp;exact hoth b (bound i _ h1 b hb) (apart i _ hi h1 b hb)) ⟨fun _ _ h=>h.gh_small hlt.2 hT1,fun _ _ h=>h.ght_small hlt.2 hT1⟩
 have hsome:∀i,(getH ((id,some (.tok n' k))::s.hp) i).isSome->(getH s.hp i).isSome:=fun i h=>by
  rw[zaa] at h;split at h
  ·rename_i e;subst e;rw[htok];rfl
  ·exact h
 have hidnew:=hr.new id (by rw[htok];rfl);have far:∀b,b∈G'.loc id->∀i r,i≠id->getH s.hp i=some r->b∉G.loc i:=fun b hb i r hi h hbj=>by
  rcases hnew b hb with h1|h1|h1
  ·exact apart i r hi h b hbj h1
  ·have:=bound i r h b hbj;omega
  ·exact h1.2 i hi (by rw[h];rfl) hbj
 refine⟨hr.size,hr.defers,fun i v h=>hm (hr.slots i v h),fun i r h=>?_,fun i j h1 h2 h3 b hb=>?_,fun i h b hb=>?_,
  hr.frm.trans (own1:=G.loc id) ⟨hos,htp,hou,hsz,hoth,hF⟩ hidnew,htop,fun i l hl=>?_⟩
 ·rw[zaa] at h;by_cases hi:i=id
  ·subst hi;rw[if_pos rfl] at h;cases h
   exact hid
  ·rw[if_neg hi] at h;have hh:=hr.heap i r h;have ho:∀b,b∈G.loc i->w'.heap[b]?=w.heap[b]?/\G'.F b=G.F b:=fun b hb=>hoth b (bound i r h b hb) (apart i r hi h b hb);cases r with
   |box cs=>
    obtain⟨b,vs,e,h1,h2,h3,h4,h5⟩:=hh;obtain⟨o1,o2⟩:=ho b (by simp[h1]);exact⟨b,vs,e,(hloc i hi).trans h1,o1.trans h2,h3,o2.trans h4,fun j hj hv=>hm (h5 j hj hv)⟩
   |tok m k'=>exact fun b h1=>Nat.lt_of_lt_of_le (hh b (by rw[hloc i hi] at h1;exact h1)) od
   |map ks=>
    obtain⟨b,es,cl,h1,h2,h3,h4⟩:=hh;obtain⟨o1,o2⟩:=ho b (by simp[h1]);exact⟨b,es,cl,(hloc i hi).trans h1,o1.trans h2,o2.trans h3,h4⟩
   |tree cs=>exact za3 hh (hloc i hi) ho od (fun _ _ _=>hm)
 ·have s1:=hsome i h1;have s2:=hsome j h2;obtain⟨r1,hr1⟩:=Option.isSome_iff_exists.1 s1;obtain⟨r2,hr2⟩:=Option.isSome_iff_exists.1 s2;by_cases hi:i=id
  ·subst hi;rw[hloc j (Ne.symm h3)];exact far b hb j r2 (Ne.symm h3) hr2
  ·rw[hloc i hi] at hb;by_cases hj:j=id
   ·subst hj;exact fun hbj=>far b hbj i r1 hi hr1 hb
   ·rw[hloc j hj];exact hr.disj i j s1 s2 h3 b hb
 ·have s1:=hsome i h;by_cases hi:i=id
  ·subst hi;rcases hnew b hb with h' | h' | h'
   ·exact hidnew b h'
   ·right;have:=hr.frm.size;omega
   ·exact h'.1
  ·rw[hloc i hi] at hb;exact hr.new i s1 b hb
 ·have hk:=hr.kept i l hl;have hi:i≠id:=fun e=>by subst e;rw[hT] at hk;simp at hk
  refine⟨(xam List.head? (hloc i hi)).trans hk.1, ?_,(hT2 i hi).trans hk.2.2⟩;show(getH ((id,some (.tok n' k))::s.hp) i).isSome
  rw[zaa,if_neg hi];exact hk.2.1
inductive RowT (hp:Hp):List AV->List D->List (Nat×Nat×Nat)->Prop
 |nil:RowT hp [] [] []
 |sc {x cs ds js} (hs:zjF x=true) (h:RowT hp cs ds js):RowT hp (.d x::cs) (x::ds) js
 |ni {cs ds js} (h:RowT hp cs ds js):RowT hp (.nils::cs) (.sl []::ds) js
 |gt {j zs n k cs ds js} (hj:getH hp j=some (.tok n k)) (hn:n=zs.length) (h:RowT hp cs ds js):RowT hp (.gt j zs::cs) (.sl zs::ds) ((j,n,k)::js)
theorem RowT.toks {hp:Hp}{cs:List AV}{ds:List D}{js:List (Nat×Nat×Nat)} (h:RowT hp cs ds js):∀q,q∈js->getH hp q.1=some (.tok q.2.1 q.2.2):=by
 induction h with
 |nil=>intro q hq;simp at hq
 |sc _ _ ih=>exact ih
 |ni _ ih=>exact ih
 |gt hj _ _ ih=>
  intro q hq;rcases List.mem_cons.1 hq with rfl|hq
  ·exact hj
  ·exact ih q hq
theorem RowT.move {hp hp':Hp}{cs:List AV}{ds:List D}{js:List (Nat×Nat×Nat)} (h:RowT hp cs ds js):(∀q,q∈js->getH hp' q.1=some (.tok q.2.1 q.2.2))->RowT hp' cs ds js:=by
 induction h with
 |nil=>intro _;exact .nil
 |sc hs _ ih=>intro h;exact .sc hs (ih h)
 |ni _ ih=>intro h;exact .ni (ih h)
 |gt hj hn _ ih=>intro h;exact .gt (h (_,_,_) List.mem_cons_self) hn (ih fun q hq=>h q (List.mem_cons_of_mem _ hq))
theorem RowT.len {hp:Hp}{cs:List AV}{ds:List D}{js:List (Nat×Nat×Nat)} (h:RowT hp cs ds js):ds.length=cs.length:=by
 induction h with
 |nil=>rfl
 |sc _ _ ih=>simp[ih]
 |ni _ ih=>simp[ih]
 |gt _ _ _ ih=>simp[ih]
theorem RowT.trees {G:Gh}{hp:Hp}{w:World}{cs:List AV}{ds:List D}{js:List (Nat×Nat×Nat)} (h:RowT hp cs ds js):∀ {vs:List Value},vs.length=cs.length->
  (∀i (hi:i<cs.length) (hv:i<vs.length),RelA G (tokf hp) w cs[i] vs[i])->
  ∃Sl:List (List Nat),Sl.length=cs.length/\(∀i (hi:i<ds.length) (hv:i<vs.length) (hs:i<Sl.length),TreeD true w ds[i] vs[i] Sl[i])/\Sl.flatten=js.flatMap (fun q=>G.loc q.1)/\
   (∀u,u∈vs->u.oneCell'=true)/\∀q,q∈js->(G.loc q.1).Nodup/\∀b,b∈G.loc q.1->G.F b=0:=by
 induction h with
 |nil=>
  intro vs hl _;have:vs=[]:=List.eq_nil_of_length_eq_zero hl;subst this;exact⟨[],rfl,fun i hi=>by simp at hi,rfl,by simp,by simp⟩
 | @sc x cs ds js hs h ih=>
  intro vs hl hrel;match vs,hl with
  |v::vs,hl=>
   obtain⟨Sl,h1,h2,h3,h4,h5⟩:=ih (vs:=vs) (by simpa using hl) (fun i hi hv=>hrel (i+1) (by simpa using hi) (by simpa using hv));have h0:=(hrel 0 oe oe).d_inv;simp only[List.getElem_cons_zero] at h0;obtain⟨f1,f2⟩:=zgc hs;refine⟨[]::Sl,by simp[h1],fun i hi hv hs'=>?_,by simpa using h3,fun u hu=>?_,h5⟩
   ·cases i with
    |zero=>exact TreeD.ofFlat f1 (.inr f2) h0
    |succ i=>exact h2 i (by simpa using hi) (by simpa using hv) (by simpa using hs')
   ·rcases List.mem_cons.1 hu with rfl|hu
    ·exact h0.one
    ·exact h4 u hu
 | @ni cs ds js h ih=>
  intro vs hl hrel;match vs,hl with
  |v::vs,hl=>
   obtain⟨Sl,h1,h2,h3,h4,h5⟩:=ih (vs:=vs) (by simpa using hl) (fun i hi hv=>hrel (i+1) (by simpa using hi) (by simpa using hv));have h0:=hrel 0 oe oe;simp only[List.getElem_cons_zero] at h0;have hv:v = .slice none 0 0:=by cases h0;rfl
   subst hv;refine⟨[]::Sl,by simp[h1],fun i hi hv hs'=>?_,by simpa using h3,fun u hu=>?_,h5⟩
   ·cases i with
    |zero=>exact .nil
    |succ i=>exact h2 i (by simpa using hi) (by simpa using hv) (by simpa using hs')
   ·rcases List.mem_cons.1 hu with rfl|hu
    ·rfl
    ·exact h4 u hu
 | @gt j zs n k cs ds js hj hn h ih=>
  intro vs hl hrel;match vs,hl with
  |v::vs,hl=>
   obtain⟨Sl,h1,h2,h3,h4,h5⟩:=ih (vs:=vs) (by simpa using hl) (fun i hi hv=>hrel (i+1) (by simpa using hi) (by simpa using hv));have h0:=hrel 0 oe oe;simp only[List.getElem_cons_zero] at h0;obtain⟨⟨ad,cap0,hv0⟩,hcl⟩:=h0.gt_inv;obtain⟨hkx,htip⟩:=(hcl n k (zaf.2 hj)).2 hn;have key:TreeD true w (.sl zs) v (G.loc j)/\(G.loc j).Nodup/\∀b,b∈G.loc j->G.F b=0:=by
    rcases htip with ⟨e1,e2,e3⟩|⟨b,cap,us,e,Ss,e1,e2,e3,e4,e5,e6,e7,e8⟩
    ·have hz:zs=[]:=List.eq_nil_of_length_eq_zero od;subst hz;rw[e1,e3];exact⟨.nil,by simp,by simp⟩
    ·refine⟨?_,e6,e7⟩;subst hn;rw[e1,e2];exact TreeD.sl (m:=true) zs k b cap us e Ss hkx e5 e3 e4 e8.1 (fun _ hz=>e8.2 (by rw[hz];rfl))
   refine⟨G.loc j::Sl,by simp[h1],fun i hi hv hs'=>?_,by simp[h3],fun u hu=>?_,fun q hq=>?_⟩
   ·cases i with
    |zero=>exact key.1
    |succ i=>exact h2 i (by simpa using hi) (by simpa using hv) (by simpa using hs')
   ·rcases List.mem_cons.1 hu with rfl|hu
    ·rw[hv0];rfl
    ·exact h4 u hu
   ·rcases List.mem_cons.1 hq with rfl|hq
    ·exact key.2
    ·exact h5 q hq
def ndB:List Nat->Bool
 | []=>true
 |x::r=> !zaB x r&&ndB r
theorem zmM:∀ {l:List Nat},ndB l=true->l.Nodup
 | [],_=> .nil
 |x::r,h=>by
  simp only[ndB,xad,Bool.not_eq_true'] at h;refine List.nodup_cons.2 ⟨fun hm=>?_,zmM h.2⟩;rw[zat.2 hm] at h;cases h.1
theorem zla {loc:Nat->List Nat}:∀ {l:List Nat},l.Nodup->(∀j,j∈l->(loc j).Nodup)->(∀i j,i∈l->j∈l->i≠j->∀b,b∈loc i->b∉loc j)->(l.flatMap loc).Nodup
 | [],_,_,_=>by simp
 |x::r,h,h1,h2=>by
  have hn:=List.nodup_cons.1 h;simp only[List.flatMap_cons,List.nodup_append,List.mem_flatMap];refine⟨h1 x oe,zla hn.2 (fun j hj=>h1 j (by simp[hj])) (fun i j hi hj=>h2 i j (by simp[hi]) (by simp[hj])),fun b hb b' hb' e=>?_⟩;obtain⟨j,hj,hbj⟩:=hb';subst e;exact h2 x j oe (by simp[hj]) (fun e=>by subst e;exact hn.1 hj) b hb hbj
theorem zel {α:Type}{f:Nat->List α} (n m:Nat):(List.range (n+m)).flatMap f=(List.range n).flatMap f++(List.range m).flatMap (fun i=>f (n+i)):=by
 rw[List.range_add,List.flatMap_append];congr 1
 simp[List.flatMap_map]
theorem zg1 {α:Type}:∀(l:List (List α)),(List.range l.length).flatMap (fun i=>l.getD i [])=l.flatten
 | []=>rfl
 |x::r=>by
  rw[xab,show r.length+1=1+r.length by omega,zel];simp only[List.flatten_cons,<-zg1 r];congr 1
  ·simp[List.range_succ]
  ·congr 1;funext i;rw[show 1+i=i+1 by omega];rfl
theorem zfj {α:Type}{f g:Nat->List α} (n:Nat) (h:∀i,i<n->f i=g i):(List.range n).flatMap f=(List.range n).flatMap g:=by
 induction n with
 |zero=>rfl
 |succ n ih=>rw[zel,zel,ih (fun i hi=>h i od)];simp[h n od]
theorem ziF {t:TypeId}{G:Gh}{s:St}{a:Act}{w:World}{hp1:Hp} (hr:R c G ⟨s.env,hp1⟩ a w){id m k e yb cap2:Nat}{xs ys:List (List D)}{v:Value}{a0:Addr}{news:List Value}{Sl:List (List Nat)} (ht:SlT c.P t e k yb){z:Value} (hz:∃i,c.P.info? e=some i/\i.zero=some z/\z.cells.size=k)
  (htok1:getH hp1 id=some (.tok xs.length k)) (hkx:∀x,x∈xs->x.length=k) (htip:TipT G w id xs.length k v xs) (hky:∀y,y∈ys->y.length=k) (hym:ys.length=m) (hmpos:0<m)
  (hnl:news.length=m*k) (hnews:∀j u,news[j]?=some u->w.cell? (a0.add j)=some u) (hone:∀u,u∈news->u.oneCell'=true) (hSl:Sl.length=m*k)
  (htr:∀i (hi:i<ys.length) j (hj:j<ys[i].length) (hv:i*k+j<news.length),TreeD true w ys[i][j] news[i*k+j] (Sl.getD (i*k+j) []))
  (newNodup:Sl.flatten.Nodup) (newF:∀b,b∈Sl.flatten->G.F b=0) (newLt:∀b,b∈Sl.flatten->b<w.heap.size) (newOwn:∀b,b∈Sl.flatten->b∈c.own\/c.w0.heap.size<=b)
  (newApart1:∀b,b∈Sl.flatten->∀i,i≠id->(getH hp1 i).isSome->b∉G.loc i) (newNe:∀x,x∈Sl.flatten->x∉G.loc id)
  (hb:(xs.length+m)*yb<=140737488355328) (hm:xs.length+m<=9223372036854775807) (opt:TypeId):
  ∃v' w' G',(Builtin.append_ #[t,t] opt #[v,.slice (some a0) m cap2]).run c.P w = .ok v' w'/\
   R c G' ⟨s.env,(id,some (.tok (xs.length+m) k))::hp1⟩ a w'/\
   RelA G' (tokf ((id,some (.tok (xs.length+m) k))::hp1)) w' (.gt id (xs++ys)) v':=by
 obtain⟨i,hi1,hi2,hi3⟩:=ht.inf;obtain⟨i',z1,z2,z3⟩:=hz;rw[hi1] at z1;cases z1
 have hT':tokf ((id,some (.tok (xs.length+m) k))::hp1) id=some (xs.length+m,k):=zaf.2 o6;have hlt:∀b o,o<G.F b->b<w.heap.size:=fun b o ho=>by
  rcases Nat.lt_or_ge b w.heap.size with h|h
  ·exact h
  ·rw[hr.top b h] at ho;omega
 have hkx':∀x,x∈xs++ys->x.length=k:=fun x hx=>by
  rcases List.mem_append.1 hx with h|h
  ·exact hkx x h
  ·exact hky x h
 have hmul1:(xs.length+m)*k=xs.length*k+m*k:=by rw[Nat.add_mul]
 have hlen':(xs++ys).length=xs.length+m:=by rw[xaa,hym]
 let Sn:(Nat->List Nat)->Nat->List Nat:=fun Ss q=>if q<xs.length*k then Ss q else Sl.getD (q-xs.length*k) []
 have hSn:∀Ss,(List.range ((xs.length+m)*k)).flatMap (Sn Ss)=(List.range (xs.length*k)).flatMap Ss++Sl.flatten:=fun Ss=>by
  rw[hmul1,zel];congr 1
  ·exact zfj _ (fun i hi=>by simp[Sn,hi])
  ·rw[<-zg1 Sl,hSl];refine zfj _ (fun i hi=>?_);simp only[Sn];rw[if_neg od,show xs.length*k+i-xs.length*k=i by omega]

 have trees:∀(Ss:Nat->List Nat) (olds:List Value) (tail:List Value) (w':World),olds.length=xs.length*k->(∀b,b∈(List.range (xs.length*k)).flatMap Ss++Sl.flatten->w'.heap[b]?=w.heap[b]?)->
   (∀i (hi:i<xs.length) j (hj:j<xs[i].length),TreeD true w xs[i][j] (olds.getD (i*k+j) undef) (Ss (i*k+j)))->
   ∀i (hi:i<(xs++ys).length) j (hj:j<(xs++ys)[i].length),TreeD true w' (xs++ys)[i][j] ((olds++news++tail).toArray.getD (i*k+j) undef) (Sn Ss (i*k+j)):=by
  intro Ss olds tail w' hol hw hold i hi j hj;by_cases hix:i<xs.length
  ·have e0:(xs++ys)[i]=xs[i]:=List.getElem_append_left hix;have hj':j<xs[i].length:=by rw[<-e0];exact hj
   have h1:xs[i].length=k:=hkx _ (xao hix);have hlt':i*k+j<xs.length*k:=zcY hix od;have e1:(olds++news++tail).toArray.getD (i*k+j) undef=olds.getD (i*k+j) undef:=by
    simp[List.getD,xar,List.getElem?_append_left (show i*k+j<olds.length by omega)]
   have e2:Sn Ss (i*k+j)=Ss (i*k+j):=by simp[Sn,hlt']
   rw[e1,e2];have e3:(xs++ys)[i][j]=xs[i][j]:=by congr 1
   rw[e3];refine(hold i hix j hj').mono (fun b hb=>hw b ?_);exact List.mem_append_left _ (List.mem_flatMap.2 ⟨i*k+j,List.mem_range.2 hlt',hb⟩)
  ·have hiy:i-xs.length<ys.length:=by omega
   have e0:(xs++ys)[i]=ys[i-xs.length]:=List.getElem_append_right od;have hj':j<ys[i-xs.length].length:=by rw[<-e0];exact hj
   have e3:(xs++ys)[i][j]=ys[i-xs.length][j]:=by congr 1
   have hjk:j<k:=by rw[<-hky _ (xao hiy)];exact hj'
   have hq:(i-xs.length)*k+j<m*k:=zcY od hjk;have hpos:i*k+j=xs.length*k+((i-xs.length)*k+j):=by
    rw[show i*k=xs.length*k+(i-xs.length)*k by rw[<-Nat.add_mul];congr 1;omega];omega
   have hjn:(i-xs.length)*k+j<news.length:=by omega
   have e1:(olds++news++tail).toArray.getD (i*k+j) undef=news[(i-xs.length)*k+j]:=by
    rw[hpos,<-hol];simp[List.getD,xar,List.getElem?_append_right,List.getElem?_append_left hjn,hjn]
   have hjs:(i-xs.length)*k+j<Sl.length:=by omega
   have e2:Sn Ss (i*k+j)=Sl.getD ((i-xs.length)*k+j) []:=by
    simp only[Sn];rw[hpos,if_neg od,show xs.length*k+((i-xs.length)*k+j)-xs.length*k=(i-xs.length)*k+j by omega]
   rw[e1,e2,e3];refine(htr _ hiy j hj' hjn).mono (fun b hb=>hw b ?_);have e4:Sl.getD ((i-xs.length)*k+j) []=Sl[(i-xs.length)*k+j]:=by simp[List.getD,hjs]
   rw[e4] at hb;exact List.mem_append_right _ (List.mem_flatten.2 ⟨_,xao hjs,hb⟩)
 have hidlt:∀b,b∈G.loc id->b<w.heap.size:=(hr.heap id _ htok1).bound

 have fresh:∀(Ss:Nat->List Nat) (olds:List Value) (nc:Nat),olds.length=xs.length*k->xs.length+m<=nc->
   ((List.range (xs.length*k)).flatMap Ss).Nodup->(∀b,b∈(List.range (xs.length*k)).flatMap Ss->b∈G.loc id/\G.F b=0)->
   (∀i (hi:i<xs.length) j (hj:j<xs[i].length),TreeD true w xs[i][j] (olds.getD (i*k+j) undef) (Ss (i*k+j)))->
   ∃G',R c G' ⟨s.env,(id,some (.tok (xs.length+m) k))::hp1⟩ a (w.drew.alloc (.cells (olds.toArray++news.toArray++Builtin.zeroCells z.cells (nc-(xs.length+m))) e))/\
    RelA G' (tokf ((id,some (.tok (xs.length+m) k))::hp1)) (w.drew.alloc (.cells (olds.toArray++news.toArray++Builtin.zeroCells z.cells (nc-(xs.length+m))) e))
     (.gt id (xs++ys)) (.slice (some ⟨w.heap.size,0,none⟩) (xs.length+m) nc):=by
  intro Ss olds nc hol hnc' hndS hSin hold;let cs':Array Value:=olds.toArray++news.toArray++Builtin.zeroCells z.cells (nc-(xs.length+m))
  let G':Gh:={ F:=G.F,loc:=fun j=>bif Nat.beq j id then w.heap.size::(List.range ((xs.length+m)*k)).flatMap (Sn Ss) else G.loc j }
  have hcs:cs'.size=nc*k:=by
   simp only[cs',Array.size_append,List.size_toArray,size_zeroCells,z3,hol,hnl];rw[<-hmul1,<-Nat.add_mul];congr 1;omega
  have hcell:∀b o,o<G.F b->o<G'.F b/\(w.drew.alloc (.cells cs' e)).cell? ⟨b,o,none⟩=w.cell? ⟨b,o,none⟩:=fun b o ho=>by
   have hb:=hlt b o ho;exact⟨ho,by rw[World.cell?_alloc_lt w.drew _ _ hb];rfl⟩
  have hlocne:∀j,j≠id->G'.loc j=G.loc j:=fun j hj=>by simp[G',zci hj]
  have hlocid:G'.loc id=w.heap.size::(List.range ((xs.length+m)*k)).flatMap (Sn Ss):=by simp[G']
  have hlocid':G'.loc id=w.heap.size::((List.range (xs.length*k)).flatMap Ss++Sl.flatten):=by rw[hlocid,hSn]
  have hmem:∀b,b∈(List.range (xs.length*k)).flatMap Ss++Sl.flatten->b<w.heap.size:=fun b hb=>by
   rcases List.mem_append.1 hb with h|h
   ·exact hidlt b (hSin b h).1
   ·exact newLt b h
  refine⟨G',hr.retokG (G':=G') htok1 od hcell hlocne (fun b hb _=>⟨zdN (w:=w.drew) hb,rfl⟩) (fun b hb=>?_) (fun b hb=>?_) rfl rfl rfl oe (fun b hb=>?_), ?_⟩
  ·rw[hlocid'] at hb;have hsz1:(w.drew.alloc (.cells cs' e)).heap.size=w.heap.size+1:=by simp
   show b<(w.drew.alloc (.cells cs' e)).heap.size
   rw[hsz1];rcases List.mem_cons.1 hb with rfl|hb
   ·exact Nat.lt_succ_self _
   ·exact Nat.lt_succ_of_lt (hmem b hb)
  ·rw[hlocid'] at hb;rcases List.mem_cons.1 hb with rfl|hb
   ·exact .inr (.inl (Nat.le_refl _))
   ·rcases List.mem_append.1 hb with h|h
    ·exact .inl (hSin b h).1
    ·exact .inr (.inr ⟨newOwn b h,newApart1 b h⟩)
  ·have hb':w.heap.size+1<=b:=by simpa using hb
   exact hr.top b od
  refine .gt ⟨_,_,by rw[hlen']⟩ (fun n' k' hm'=>?_);rw[hT'] at hm';cases hm'
  have hnodup:(G'.loc id).Nodup:=by
   rw[hlocid'];refine List.nodup_cons.2 ⟨fun h=>absurd (hmem _ h) (Nat.lt_irrefl _),List.nodup_append.2 ⟨hndS,newNodup,fun b hb b' hb' e=>?_⟩⟩;subst e;exact newNe b hb' (hSin b hb).1
  refine⟨by rw[hlen'];exact Nat.le_refl _,fun _=>⟨hkx',.inr ⟨w.heap.size,nc,cs',e,Sn Ss,hlocid,I,zdY (w:=w.drew),by rw[hcs];exact Nat.le_refl _,hnc',hnodup,fun b hb=>?_, ?_,fun h=>by omega⟩⟩⟩
  ·rw[hlocid'] at hb;rcases List.mem_cons.1 hb with rfl|hb
   ·exact hr.top _ (Nat.le_refl _)
   ·rcases List.mem_append.1 hb with h|h
    ·exact(hSin b h).2
    ·exact newF b h
  ·have:=trees Ss olds (Builtin.zeroCells z.cells (nc-(xs.length+m))).toList (w.drew.alloc (.cells cs' e)) hol (fun b hb=>zdN (w:=w.drew) (hmem b hb)) hold;have ec:cs'=(olds++news++(Builtin.zeroCells z.cells (nc-(xs.length+m))).toList).toArray:=by
    apply Array.ext';simp[cs']
   intro i hi j hj;rw[ec];exact this i hi j hj
 rcases htip with ⟨h1,h2,h3⟩|⟨b,cap,cs,et,Ss,h1,h2,h3,h4,h5,h6,h7,h8,_⟩
 ·
  have hx0:xs=[]:=List.eq_nil_of_length_eq_zero h2;subst hx0;subst h3;have hm':m<=9223372036854775807:=by simpa using hm
  have hb':m*yb<=140737488355328:=by simpa using hb
  have hrun:=run_append_nil (P:=c.P) w t opt e i z ht.und hi1 z2 a0 m cap2 news (by rw[hi2,hnl]) hnews hmpos od (by rw[hi3];omega);obtain⟨G',hR,hA⟩:=fresh (fun _=>[]) [] (grownCap w m 0 e) oe (by
   have:=grownCap_ge w m 0 e;simpa using this) oe (fun b hb=>by simp at hb) (fun i hi=>by simp at hi)
  simp only[List.nil_append,xak,Nat.zero_add,Array.empty_append] at hR hA hrun ⊢;exact⟨_,_,G',hrun,hR,hA⟩
 ·subst h2;have hmul:xs.length*k<=cs.size:=Nat.le_trans (xav _ h5) h4;have hold:∀i (hi:i<xs.length) j (hj:j<xs[i].length),TreeD true w xs[i][j] ((cs.toList.take (xs.length*k)).getD (i*k+j) undef) (Ss (i*k+j)):=fun i hi j hj=>by
   have h9:xs[i].length=k:=hkx _ (xao hi);have hlt':i*k+j<xs.length*k:=zcY hi od;have e1:(cs.toList.take (xs.length*k)).getD (i*k+j) undef=cs.getD (i*k+j) undef:=by
    have hs:i*k+j<cs.size:=by omega
    simp[List.getD,List.getElem?_take,hlt',Array.getD,hs]
   rw[e1];exact h8 i hi j hj
  have hbl:b∈G.loc id:=by rw[h1];simp
  have hbs:b<w.heap.size:=hidlt b hbl;have h1n:(b::(List.range (xs.length*k)).flatMap Ss).Nodup:=by rw[<-h1];exact h6
  have hin:∀x,x∈(List.range (xs.length*k)).flatMap Ss->x∈G.loc id/\G.F x=0:=fun x hx=>by
   have:x∈G.loc id:=by rw[h1];exact List.mem_cons_of_mem _ hx
   exact⟨this,h7 x this⟩
  by_cases hroom:xs.length+m<=cap
  ·
   have hfit:xs.length*i.size+news.length<=cs.size:=by
    rw[hi2,hnl,<-hmul1];exact Nat.le_trans (xav _ hroom) h4
   have hrun:=zeE (P:=c.P) t opt e i ht.und hi1 b xs.length cap cs et h3 a0 m cap2 news (by rw[hi2,hnl]) hnews hone hroom hfit;rw[hi2] at hrun hfit;let rw':Array Value:=(cs.toList.take (xs.length*k)++news++cs.toList.drop (xs.length*k+news.length)).toArray
   have hrs:rw'.size=cs.size:=by
    simp only[rw',List.size_toArray,xaa,List.length_take,List.length_drop,Array.length_toList];omega
   let G':Gh:={ F:=G.F,loc:=fun j=>bif Nat.beq j id then b::(List.range ((xs.length+m)*k)).flatMap (Sn Ss) else G.loc j }
   have hlocne:∀j,j≠id->G'.loc j=G.loc j:=fun j hj=>by simp[G',zci hj]
   have hlocid:G'.loc id=b::(List.range ((xs.length+m)*k)).flatMap (Sn Ss):=by simp[G']
   have hlocid':G'.loc id=b::((List.range (xs.length*k)).flatMap Ss++Sl.flatten):=by rw[hlocid,hSn]
   have hFb:G.F b=0:=h7 b hbl;have hcell:∀b' o,o<G.F b'->o<G'.F b'/\(w.setRow b rw').cell? ⟨b',o,none⟩=w.cell? ⟨b',o,none⟩:=fun b' o ho=>by
    have hbb:b'≠b:=fun e=>by subst e;omega
    exact⟨ho,cell_setRow_other w b rw' _ hbb⟩
   have hmem:∀x,x∈(List.range (xs.length*k)).flatMap Ss++Sl.flatten->x<w.heap.size/\x≠b:=fun x hx=>by
    rcases List.mem_append.1 hx with h|h
    ·exact⟨hidlt x (hin x h).1,fun e=>by subst e;exact(List.nodup_cons.1 h1n).1 h⟩
    ·exact⟨newLt x h,fun e=>by subst e;exact newNe x h hbl⟩
   refine⟨_,_,G',hrun,hr.retokG (G':=G') htok1 od hcell hlocne (fun b' hb' hn=>?_) (fun x hx=>?_) (fun x hx=>?_) rfl rfl rfl oe (fun b' hb'=>?_), ?_⟩
   ·have hne:b'≠b:=fun e=>hn (by rw[e];exact hbl);exact⟨setRow_other w b b' rw' hne,rfl⟩
   ·rw[hlocid'] at hx;have:(w.setRow b rw').heap.size=w.heap.size:=by simp
    rw[this];rcases List.mem_cons.1 hx with rfl|hx
    ·exact hbs
    ·exact(hmem x hx).1
   ·rw[hlocid'] at hx;rcases List.mem_cons.1 hx with rfl|hx
    ·exact .inl hbl
    ·rcases List.mem_append.1 hx with h|h
     ·exact .inl (hin x h).1
     ·exact .inr (.inr ⟨newOwn x h,newApart1 x h⟩)
   ·have hb2':w.heap.size<=b':=by simpa using hb'
    exact hr.top b' hb2'
   ·refine .gt ⟨_,_,by rw[hlen']⟩ (fun n' k' hm'=>?_);rw[hT'] at hm';cases hm'
    have hnodup:(G'.loc id).Nodup:=by
     rw[hlocid'];refine List.nodup_cons.2 ⟨fun h=>absurd I (hmem _ h).2,List.nodup_append.2 ⟨(List.nodup_cons.1 h1n).2,newNodup,fun x hx x' hx' e=>?_⟩⟩;subst e;exact newNe x hx' (hin x hx).1
    refine⟨by rw[hlen'];exact Nat.le_refl _,fun _=>⟨hkx',.inr ⟨b,cap,rw',et,Sn Ss,hlocid,I,setRow_heap w b cs rw' et _ h3,by rw[hrs];exact h4,hroom,hnodup,fun x hx=>?_, ?_,fun h=>by omega⟩⟩⟩
    ·rw[hlocid'] at hx;rcases List.mem_cons.1 hx with rfl|hx
     ·exact hFb
     ·rcases List.mem_append.1 hx with h|h
      ·exact(hin x h).2
      ·exact newF x h
    ·exact trees Ss (cs.toList.take (xs.length*k)) _ (w.setRow b rw') om (fun x hx=>setRow_other w b x rw' (hmem x hx).2) hold
  ·
   have hrun:=run_append_grow (P:=c.P) w t opt e i z ht.und hi1 z2 ⟨b,0,none⟩ xs.length cap (cs.toList.take (xs.length*k)) (by rw[hi2];simp;omega)
    (fun j u hj=>by
     rw[zcv];obtain⟨hj1,hj2⟩:=List.getElem?_eq_some_iff.1 hj;simp only[List.getElem_take] at hj2;have hjs:j<cs.size:=by simp at hj1;omega
     simp only[World.cell?,h3,Option.isSome_none,Bool.false_eq_true,if_false,Nat.zero_add];rw[Array.getElem?_eq_getElem hjs,<-hj2];simp) a0 m cap2 news (by rw[hi2,hnl]) hnews od od (by rw[hi3];exact growslice_fits od hb)
   obtain⟨G',hR,hA⟩:=fresh Ss (cs.toList.take (xs.length*k)) (grownCap w (xs.length+m) cap e) om (by have:=grownCap_ge w (xs.length+m) cap e;omega) (List.nodup_cons.1 h1n).2 hin hold;exact⟨_,_,G',hrun,hR,hA⟩
theorem znu {t:TypeId}{G:Gh}{s:St}{a:Act}{w:World} (hr:R c G s a w){id b0 m k e yb:Nat}{xs:List (List D)}{cells:List AV}{row:List D}{js:List (Nat×Nat×Nat)}{v u:Value} (ht:SlT c.P t e k yb){z:Value} (hz:∃i,c.P.info? e=some i/\i.zero=some z/\z.cells.size=k)
  (hkb:∀l,c.kept b0≠some l) (htok:getH s.hp id=some (.tok xs.length k)) (hbox:getH s.hp b0=some (.box cells)) (hrow:RowT s.hp cells row js) (hck:cells.length=k) (hnd:ndB (id::js.map (·.1))=true)
  (hv:RelA G (tokf s.hp) w (.gt id xs) v) (hu:RelA G (tokf s.hp) w (.ms b0 m) u) (hm1:m=1)
  (hb:(xs.length+1)*yb<=140737488355328) (hm:xs.length+1<=9223372036854775807) (opt:TypeId):
  ∃v' w' G',(Builtin.append_ #[t,t] opt #[v,u]).run c.P w = .ok v' w'/\
   R c G' ⟨s.env,(id,some (.tok (xs.length+1) k))::((b0::js.map (·.1)).map (fun j=>(j,none))++s.hp)⟩ a w'/\
   RelA G' (tokf ((id,some (.tok (xs.length+1) k))::((b0::js.map (·.1)).map (fun j=>(j,none))++s.hp))) w' (.gt id (xs++[row])) v':=by
 subst hm1;obtain⟨⟨base,cap0,hv0⟩,hcl⟩:=hv.gt_inv;have hT:tokf s.hp id=some (xs.length,k):=zaf.2 htok;obtain⟨hkx,htip⟩:=(hcl _ _ hT).2 rfl

 obtain⟨bb,us,eb,hl0,hat0,hlen0,hF0,hcell0⟩:=hr.heap b0 _ hbox;have hu':∃cap2,u = .slice (some ⟨bb,0,none⟩) 1 cap2/\1<=cap2:=by
  cases hu with
  | @ms _ _ b cap h hT hcap=>
   have:b=bb:=zdz h hl0;subst this;exact⟨cap,rfl,hcap⟩
 obtain⟨cap2,rfl,hcap2⟩:=hu';let news:List Value:=us.toList.take k
 have hks:k<=us.size:=by omega
 have hnl:news.length=k:=by simp[news];omega
 have hnews:∀j u,news[j]?=some u->w.cell? ((⟨bb,0,none⟩:Addr).add j)=some u:=fun j u hj=>by
  obtain⟨hj1,hj2⟩:=List.getElem?_eq_some_iff.1 hj;simp only[news,List.getElem_take] at hj2;have hjs:j<us.size:=by omega
  rw[zcv];simp only[World.cell?,hat0,Option.isSome_none,Bool.false_eq_true,if_false,Nat.zero_add];rw[Array.getElem?_eq_getElem hjs,<-hj2];simp
 have hrel:∀i (hi:i<cells.length) (hv:i<news.length),RelA G (tokf s.hp) w cells[i] news[i]:=fun i hi hv=>by
  have:=hcell0 i hi od;have e1:news[i]=us[i]' od:=by simp[news]
  rw[e1];exact this
 obtain⟨Sl,hSl,htr,hfl,hone,hjn⟩:=hrow.trees (by rw[hnl,hck]) hrel;have hrl:row.length=k:=by rw[hrow.len,hck]
 have hnd':=zmM hnd;have hnd2:=List.nodup_cons.1 hnd';have htoks:=hrow.toks;have tokJ:∀j,j∈js.map (·.1)->∃n q,getH s.hp j=some (.tok n q):=fun j hj=>by
  obtain⟨q,hq,rfl⟩:=List.mem_map.1 hj;exact⟨_,_,htoks q hq⟩
 have hflm:js.flatMap (fun q=>G.loc q.1)=(js.map (·.1)).flatMap G.loc:=by rw[List.flatMap_map]
 rw[hflm] at hfl;have newIn:∀b,b∈Sl.flatten->∃j,j∈js.map (·.1)/\b∈G.loc j:=fun b hb=>by rw[hfl] at hb;exact List.mem_flatMap.1 hb
 have hdr:=hr.drop (b0::js.map (·.1)) (fun i l hk hm=>by
  rcases List.mem_cons.1 hm with rfl|hm
  ·exact hkb l hk
  ·obtain⟨n,q,h⟩:=tokJ i hm;have:=(hr.kept i l hk).2.2;rw[zaf.2 h] at this;cases this)
 have hidb:id∉b0::js.map (·.1):=fun hm=>by
  rcases List.mem_cons.1 hm with rfl|hm
  ·rw[htok] at hbox;cases hbox
  ·exact hnd2.1 hm
 have hg1:∀i,getH ((b0::js.map (·.1)).map (fun j=>(j,(none:Option Res)))++s.hp) i=if i∈b0::js.map (·.1) then none else getH s.hp i:=fun i=>zmC _ _ _
 exact ziF (s:=s) hdr (m:=1) (ys:=[row]) (Sl:=Sl) (news:=news) ht hz (by rw[hg1,if_neg hidb];exact htok) hkx htip (fun y hy=>by simp only[List.mem_singleton] at hy;rw[hy];exact hrl) I od
  od hnews hone (by rw[hSl,hck];omega)
  (fun i hi j hj hvn=>by
   have:i=0:=by simpa using hi
   subst this;simp only[Nat.zero_mul,Nat.zero_add] at hvn ⊢;have hj':j<row.length:=hj;have hjs:j<Sl.length:=by omega
   have e4:Sl.getD j []=Sl[j]:=by simp[List.getD,hjs]
   rw[e4];exact htr j hj' hvn hjs)
  (by
   rw[hfl];refine zla hnd2.2 (fun j hj=>?_) (fun i j hi hj hne=>?_)
   ·obtain⟨q,hq,rfl⟩:=List.mem_map.1 hj;exact(hjn q hq).1
   ·obtain⟨n1,q1,h1⟩:=tokJ i hi;obtain⟨n2,q2,h2⟩:=tokJ j hj;exact hr.disj i j (by rw[h1];rfl) (by rw[h2];rfl) hne)
  (fun b hb=>by
   obtain⟨j,hj,hbj⟩:=newIn b hb;obtain⟨q,hq,rfl⟩:=List.mem_map.1 hj;exact(hjn q hq).2 b hbj)
  (fun b hb=>by
   obtain⟨j,hj,hbj⟩:=newIn b hb;obtain⟨n1,q1,h1⟩:=tokJ j hj;exact(hr.heap j _ h1).bound b hbj)
  (fun b hb=>by
   obtain⟨j,hj,hbj⟩:=newIn b hb;obtain⟨n1,q1,h1⟩:=tokJ j hj;exact hr.new j (by rw[h1];rfl) b hbj)
  (fun b hb i _ hs=>by
   rw[hg1] at hs;split at hs
   ·cases hs
   ·rename_i hni;intro hbi;obtain⟨j,hj,hbj⟩:=newIn b hb;obtain⟨n1,q1,h1⟩:=tokJ j hj;exact hr.disj j i (by rw[h1];rfl) hs (fun e=>by subst e;exact hni (List.mem_cons_of_mem _ hj)) b hbj hbi)
  (fun b hb hbi=>by
   obtain⟨j,hj,hbj⟩:=newIn b hb;obtain⟨n1,q1,h1⟩:=tokJ j hj;exact hr.disj j id (by rw[h1];rfl) (by rw[htok];rfl) (fun e=>by subst e;exact hnd2.1 hj) b hbj hbi) hb hm opt
theorem zm8 {t:TypeId}{G:Gh}{s:St}{a:Act}{w:World} (hr:R c G s a w){id k e yb:Nat}{xs ys:List (List D)}{v u:Value} (ht:SlT c.P t e k yb){z:Value} (hz:∃i,c.P.info? e=some i/\i.zero=some z/\z.cells.size=k)
  (htok:getH s.hp id=some (.tok xs.length k)) (hv:RelA G (tokf s.hp) w (.gt id xs) v) (hu:RelD G.F w (.sl ys) u) (hky:∀y,y∈ys->y.length=k) (hf:FlatR ys)
  (hb:(xs.length+ys.length)*yb<=140737488355328) (hm:xs.length+ys.length<=9223372036854775807) (opt:TypeId):
  ∃v' w' G',(Builtin.append_ #[t,t] opt #[v,u]).run c.P w = .ok v' w'/\
   R c G' ⟨s.env,(id,some (.tok (xs.length+ys.length) k))::s.hp⟩ a w'/\
   RelA G' (tokf ((id,some (.tok (xs.length+ys.length) k))::s.hp)) w' (.gt id (xs++ys)) v':=by
 obtain⟨⟨base,cap0,hv0⟩,hcl⟩:=hv.gt_inv;have hT:tokf s.hp id=some (xs.length,k):=zaf.2 htok;obtain⟨hkx,htip⟩:=(hcl _ _ hT).2 rfl;by_cases hm0:ys=[]
 ·subst hm0;obtain⟨i,hi1,hi2,hi3⟩:=ht.inf;have hle:∃base cap,v = .slice base xs.length cap/\xs.length<=cap:=by
   rcases htip with ⟨h1,h2,h3⟩|⟨b,cap,cs,et,Ss,h1,h2,h3,h4,h5,_⟩
   ·exact⟨none,0,by rw[h2];exact h3,by omega⟩
   ·exact⟨_,cap,h2,h5⟩
  obtain⟨base,cap,rfl,hle⟩:=hle;obtain⟨oa,oc,rfl⟩:∃oa oc,u = .slice oa 0 oc:=by obtain⟨oa,oc,h⟩:=hu.sl_len;exact⟨oa,oc,h⟩
  refine⟨_,w,G,zdV t opt e i ht.und hi1 base xs.length cap hle oa oc,hr.same htok, ?_⟩;show RelA G (tokf ((id,some (.tok xs.length k))::s.hp)) w (.gt id (xs++[])) _
  rw[zfP htok,xaq];exact hv
 obtain⟨oa0,cap0',_,h0,_⟩|⟨b2,off2,cap2,news,rfl,hcap2,hnl,hnc,hn1,hnr⟩:=hu.sl_cells hky
 ·exact absurd h0 hm0
 have hfl:∀n:Nat,(List.replicate n ([]:List Nat)).flatten=[]:=zaP;exact ziF (s:=s) hr (m:=ys.length) (ys:=ys) (Sl:=List.replicate (ys.length*k) []) (news:=news) ht hz htok hkx htip hky I (List.length_pos_iff.2 hm0)
  hnl (fun j u hj=>by rw[zcv];exact(hnc j u hj).2) hn1 oe
  (fun i hi j hj hvn=>by
   have e4:(List.replicate (ys.length*k) ([]:List Nat)).getD (i*k+j) []=[]:=by
    simp only[List.getD,List.getElem?_replicate];split<;>rfl
   rw[e4];have hs:=zgc (hf _ (xao hi) _ (xao hj));exact TreeD.ofFlat hs.1 (.inr hs.2) (hnr i hi j hj hvn))
  (by rw[hfl];exact .nil) (fun b hb=>by rw[hfl] at hb;cases hb) (fun b hb=>by rw[hfl] at hb;cases hb) (fun b hb=>by rw[hfl] at hb;cases hb) (fun b hb=>by rw[hfl] at hb;cases hb) (fun b hb=>by rw[hfl] at hb;cases hb) hb hm opt
theorem R.mkTokT {G:Gh}{s:St}{a:Act}{w:World} (hr:R c G s a w){id:Nat} (k:Nat) (h0:getH s.hp id=none) (hocc:zcI id s):
  ∃G',R c G' { s with hp:=(id,some (.tok 0 k))::s.hp } a w/\RelA G' (tokf ((id,some (.tok 0 k))::s.hp)) w (.gt id []) (.slice none 0 0):=by
 have h1:=hr.rename h0 hocc [];have hl:(fun i=>bif Nat.beq i id then ([]:List Nat) else G.loc i) id=[]:=by simp
 refine⟨_,h1.name h0 hocc (fun b hb=>by simp at hb) (fun i _ b _ hb=>by simp at hb) (fun b hb=>by simp at hb), ?_⟩;refine .gt ⟨none,0,I⟩ (fun n k' hT=>?_);have:=zaf.1 hT;rw[zaa,if_pos rfl] at this;cases this
 exact⟨Nat.le_refl _,fun _=>⟨by simp,.inl ⟨hl,rfl,rfl⟩⟩⟩
end
section
variable {c:Ctx}{all:Array Oper}{chk:List Rec->Prop}{os:List Oper}{recs:List Rec}{env:Env}{hp:Hp}{Q:St->Prop}
variable {d ty:Nat}{pos:String}{af:Array Edge}{g:Option (Nat×Bool)}{pg:List (Nat×AV)}
variable {t yt:TypeId}{x y:Operand}
theorem xbj {ids:List Nat}{id b0 m k e yb:Nat}{xs:List (List D)}{cells:List AV}{row:List D}{js:List (Nat×Nat×Nat)} (hkp:KeptIn c.kept ids) (hkb:zaB b0 ids=false) (ht:SlT c.P t e k yb) (hz:ZeroT c.P e k) (hg:GH all env g pg) (hd:Nat.blt d c.n=true)
  (hx:opd env x=some (.gt id xs)) (hy:opd env y=some (.ms b0 m)) (hm1:m=1) (htok:getH hp id=some (.tok xs.length k)) (hbox:getH hp b0=some (.box cells)) (hrow:RowT hp cells row js) (hck:cells.length=k) (hnd:ndB (id::js.map (·.1))=true)
  (hb:(xs.length+1)*yb<=140737488355328) (hm:xs.length+1<=9223372036854775807)
  (hn:Walk c all chk os (zal (pg++(opF x (.gt id xs)++opF y (.ms b0 m))) ((id,.tok xs.length k)::(b0,.box cells)::js.map (fun q=>(q.1,.tok q.2.1 q.2.2))) [] ⟨some (d,.gt id (xs++[row])),(id,some (.tok (xs.length+1) k))::(b0::js.map (·.1)).map (fun j=>(j,none))⟩::recs)
   ⟨(d,.gt id (xs++[row]))::env,(id,some (.tok (xs.length+1) k))::((b0::js.map (·.1)).map (fun j=>(j,none))++hp)⟩ Q):
  Walk c all chk (⟨some d,.call ⟨.builtin .append,#[x,y],#[t,t]⟩,ty,pos,af,g⟩::os) recs ⟨env,hp⟩ Q:=by
 refine⟨pg++(opF x (.gt id xs)++opF y (.ms b0 m)),(id,.tok xs.length k)::(b0,.box cells)::js.map (fun q=>(q.1,.tok q.2.1 q.2.2)),[],_, ?_,zaq hg.facts (zaq (zaO hx) (zaO hy)),fun p hm=>?_,by simp,hn⟩
 ·intro s a w hrel hp' hh _ K Q' hK;obtain⟨G,hr⟩:=hrel;have e1:=hr.opd (zaR hx (fun p hm=>hp' p (by simp[hm])));have e2:=hr.opd (zaR hy (fun p hm=>hp' p (by simp[hm])));obtain⟨i,z,z1,z2,z3⟩:=hz.out;obtain⟨v',w',G',hrun,hR,hA⟩:=znu hr ht ⟨i,z1,z2,z3⟩ (fun l hl=>by have:=zat.2 (hkp.mem _ l hl);rw[this] at hkb;cases hkb) (hh (id,_) oe) (hh (b0,_) oe)
   (hrow.move (fun q hq=>hh (q.1,.tok q.2.1 q.2.2) (by simp only[List.mem_cons,List.mem_map];exact .inr (.inr ⟨q,hq,I⟩)))) hck hnd e1 e2 hm1 hb hm ty
  unfold wpO;rw[if_pos (hg.gf.wanted hr (fun p hm=>hp' p (by simp[hm])))];unfold Oper.wp;have:(execOp a.eval ⟨some d,.call ⟨.builtin .append,#[x,y],#[t,t]⟩,ty,pos,af,g⟩).run c.P w = .ok (.value v') w':=by
   simp only[execOp,resolve,invoke,builtin,Sem.run_bind,Sem.run_pure,Result.andThen_ok,List.map_toArray,xaf,List.map_nil,hrun]
  rw[this,Oper.upon_value];exact hK _ _ ⟨G',hR.put hA hd⟩
 ·rcases List.mem_cons.1 hm with rfl|hm
  ·exact htok
  rcases List.mem_cons.1 hm with rfl|hm
  ·exact hbox
  ·obtain⟨q,hq,rfl⟩:=List.mem_map.1 hm;exact hrow.toks q hq
end
section
variable {c:Ctx}{env:Env}{hp:Hp}{K:Kt}{code:Code}{ids:List Nat}
theorem zpi {G:Gh}{w:World}{id n k:Nat}{xs:List (List D)}{v:Value} (hn:n=xs.length) (hk:∀x,x∈xs->x.length=k) (h:TipT G w id n k v xs):
  TreeD true w (.sl xs) v (G.loc id)/\(G.loc id).Nodup/\∀b,b∈G.loc id->G.F b=0:=by
 rcases h with ⟨e1,e2,e3⟩|⟨b,cap,us,e,Ss,e1,e2,e3,e4,e5,e6,e7,e8⟩
 ·have hz:xs=[]:=List.eq_nil_of_length_eq_zero od;subst hz;rw[e1,e3];exact⟨.nil,by simp,by simp⟩
 ·refine⟨?_,e6,e7⟩;subst hn;rw[e1,e2];exact TreeD.sl (m:=true) xs k b cap us e Ss hk e5 e3 e4 e8.1 (fun _ hz=>e8.2 (by rw[hz];rfl))
theorem CWp.tokBT (b off id k:Nat){cs cs':List AV} (hb:getH hp b=some (.box cs)) (h:cs[off]?=some .nils) (hput:putC cs off [.gt id []]=some cs') (hf:zaz env hp [id]=true)
  (hn:CWp c code ⟨env,(b,some (.box cs'))::(id,some (.tok 0 k))::hp⟩ K):CWp c code ⟨env,hp⟩ K:=by
 intro a w hrel;obtain⟨G,hr⟩:=hrel;obtain⟨h0,hocc⟩:=zbf hf id oe;obtain⟨G',h1,h2⟩:=hr.mkTokT k h0 hocc;have hne:b≠id:=fun e=>by subst e;have h0':getH hp b=none:=h0;rw[h0'] at hb;cases hb
 have hb':getH ((id,some (Res.tok 0 k))::hp) b=some (.box cs):=by rw[zaa,if_neg hne];exact hb
 obtain⟨bl,vs,e,e1,e2,e3,e4,e5⟩:=h1.heap b _ hb';obtain⟨hlt,hv⟩:=List.getElem?_eq_some_iff.1 h;have hlv:off<vs.size:=by omega
 have hval:vs[off] = .slice none 0 0:=by
  have:=e5 off hlt hlv;rw[hv] at this;generalize vs[off]=v at *;cases this;rfl
 have hall:PreR G' (tokf ((id,some (.tok 0 k))::hp)) w cs' vs:=by
  obtain⟨p1,p2,p3⟩:=zbR hput;refine⟨by omega,fun i hi hvi=>?_⟩;have:=p3 i;rw[xan hi] at this;by_cases hio:i=off
  ·subst hio;rw[if_pos oe] at this;simp only[Nat.sub_self,List.getElem?_cons_zero,xae] at this;rw[this,hval];exact h2
  ·rw[if_neg ua] at this;have hic:i<cs.length:=by omega
   rw[xan hic] at this;rw[Option.some.inj this];exact e5 i hic hvi
 have:=h1.setBox (vs':=vs) hb' e1 e2 e4 hall;have hw:w.setRow bl vs=w:=setRow_self w bl vs e _ e2;rw[hw] at this;exact hn a w ⟨G',this⟩
theorem R.gtGl {G:Gh}{a:Act}{w:World} (hr:R c G ⟨env,hp⟩ a w){id id2 n k:Nat}{xs:List (List D)}{v:Value} (hv:RelA G (tokf hp) w (.gt id xs) v) (hb:getH hp id=some (.tok n k)) (hn:n=xs.length) (hf:zaz env hp [id2]=true):
  ∃G',R c G' ⟨env,(id2,some (.tok n k))::(id,none)::hp⟩ a w/\RelA G' (tokf ((id2,some (.tok n k))::(id,none)::hp)) w (.gl id2 xs) v:=by
 obtain⟨h0,hocc⟩:=zbf hf id2 oe;have h0':getH hp id2=none:=h0;have hne:id2≠id:=fun e=>by subst e;rw[h0'] at hb;cases hb
 obtain⟨⟨ad,cap0,hv0⟩,hcl⟩:=hv.gt_inv;obtain⟨hkx,htip⟩:=(hcl _ _ (zaf.2 hb)).2 hn;have s1:(getH hp id).isSome:=by rw[hb];rfl
 have hbd:=(hr.heap id _ hb).bound;let hd:List Nat:=(G.loc id).take 1
 let G':Gh:={ F:=fun x=>bif zaB x hd then n*k else bif zaB x (G.loc id) then szB w x else G.F x,loc:=fun i=>bif Nat.beq i id2 then hd else G.loc i }
 have hdsub:∀x,x∈hd->x∈G.loc id:=fun x hx=>List.mem_of_mem_take hx;have l1:G'.loc id2=hd:=by simp[G']
 have l3:∀i,i≠id2->G'.loc i=G.loc i:=fun i h2=>by simp[G',zci h2]
 have nel:∀ {x:Nat}{l:List Nat},x∉l->zaB x l=false:=fun {x l} hx=>by
  cases h:zaB x l with
  |true=>exact absurd (zat.1 h) hx
  |false=>rfl
 have hout:∀x,x∉G.loc id->G'.F x=G.F x:=fun x hx=>by simp[G',nel hx,nel (fun h=>hx (hdsub x h))]
 have hF0:∀x,x∈G.loc id->G.F x=0:=(zpi hn hkx htip).2.2;have g1:getH ((id2,some (Res.tok n k))::(id,none)::hp) id2=some (.tok n k):=by rw[zaa,if_pos rfl]
 have g2:getH ((id2,some (Res.tok n k))::(id,none)::hp) id=none:=by rw[zaa,if_neg (Ne.symm hne),zaa,if_pos rfl]
 have t2:tokf ((id2,some (Res.tok n k))::(id,none)::hp) id=none:=by unfold tokf;rw[g2]
 have t1:tokf ((id2,some (Res.tok n k))::(id,none)::hp) id2=some (n,k):=zaf.2 g1;have hturn:Turn c G ⟨env,hp⟩ w G' ((id2,some (.tok n k))::(id,none)::hp) [id,id2]:=by
  refine⟨fun i hi=>?_,fun i hi=>?_,fun x hx=>?_,fun x o ho=>?_,fun x hx=>?_,fun i hi=>?_,fun i hi hs x hx=>?_,fun i hi j hj hij h1 h2 x hx=>?_,fun i hi l hl=>?_⟩
  ·simp only[List.mem_cons,xau,or_false,not_or] at hi;rw[zaa,if_neg hi.2,zaa,if_neg hi.1]
  ·simp only[List.mem_cons,xau,or_false,not_or] at hi;exact l3 i hi.2
  ·exact hout x (hx id oe s1)
  ·by_cases hx:x∈G.loc id
   ·rw[hF0 x hx] at ho;omega
   ·rw[hout x hx];exact ho
  ·by_cases hx':x∈G.loc id
   ·have:=hbd x hx';omega
   ·rw[hout x hx'];exact hr.top x hx
  ·simp only[List.mem_cons,xau,or_false] at hi;rcases hi with rfl|rfl
   ·exact .inr ⟨.inl (l3 i (Ne.symm hne)),fun p hp=>by rw[t2] at hp;cases hp⟩
   ·exact .inl hocc
  ·simp only[List.mem_cons,xau,or_false] at hi;rcases hi with rfl|rfl
   ·rw[g2] at hs;cases hs
   ·rw[l1] at hx;exact⟨id,by simp,s1,hdsub x hx⟩
  ·simp only[List.mem_cons,xau,or_false] at hi hj;rcases hi with rfl|rfl
   ·rw[g2] at h1;cases h1
   ·rcases hj with rfl|rfl
    ·rw[g2] at h2;cases h2
    ·exact absurd I hij
  ·simp only[List.mem_cons,xau,or_false] at hi;have hk0:=hr.kept i l hl;rcases hi with rfl|rfl
   ·have:=hk0.2.2;rw[show(⟨env,hp⟩:St).hp=hp from rfl,zaf.2 hb] at this;cases this
   ·have:=hk0.2.1;rw[show(⟨env,hp⟩:St).hp=hp from rfl,h0'] at this;cases this
 refine⟨G',hturn.fin hr (fun i hi r hri=>?_), ?_⟩
 ·simp only[List.mem_cons,xau,or_false] at hi;rcases hi with rfl|rfl
  ·rw[g2] at hri;cases hri
  ·rw[g1] at hri;cases hri
   intro b hb;rw[l1] at hb;exact hbd b (hdsub b hb)
 ·rcases htip with ⟨e1,e2,e3⟩|⟨b,cap,us,e,Ss,e1,e2,e3,e4,e5,e6,e7,e8,e9⟩
  ·have hz:xs=[]:=List.eq_nil_of_length_eq_zero od;subst hz;rw[e3];refine .gl .nil (fun n' k' hT=>?_);rw[t1] at hT;cases hT;exact⟨by simp,fun _=>⟨hkx,.inl ⟨by rw[l1];simp[hd,e1],e2,rfl⟩⟩⟩
  ·have hhd:hd=[b]:=by simp[hd,e1]
   have hFb:G'.F b=n*k:=by simp[G',hhd,zaB]
   have hbn:∀x,x∈(List.range (n*k)).flatMap Ss->G'.F x=szB w x:=fun x hx=>by
    have hxb:x≠b:=fun e=>by subst e;rw[e1] at e6;exact(List.nodup_cons.1 e6).1 hx
    have h1:zaB x hd=false:=nel (by rw[hhd];simp[hxb]);have h2:zaB x (G.loc id)=true:=zat.2 (by rw[e1];exact List.mem_cons_of_mem _ hx);simp[G',h1,h2]
   rw[e2];have hle:n*k<=us.size:=Nat.le_trans (xav _ e5) e4;have hrd:RelD G'.F w (.sl xs) (.slice (some ⟨b,0,none⟩) n cap):=by
    subst hn;refine .sl xs k b 0 cap (fun q=>us.getD q undef) hkx e5 (fun q hq=>⟨by rw[hFb];omega, ?_⟩) (fun i hi j hj=>(e8 i hi j hj).toD (fun x hx=>?_))
    ·have:q<us.size:=by omega
     simp[World.cell?,e3,this]
    ·rw[hbn x (List.mem_flatMap.2 ⟨_,List.mem_range.2 (zcY hi (by rw[<-hkx _ (xao hi)];exact hj)),hx⟩)];exact Nat.le_refl _
   refine .gl hrd (fun n' k' hT=>?_);rw[t1] at hT;cases hT;exact⟨by omega,fun _=>⟨hkx,.inr ⟨b,cap,us,e,by rw[l1,hhd],rfl,hFb,e3,e4,e5⟩⟩⟩
theorem CWp.gtGl (t id id2 k:Nat){n:Nat}{xs:List (List D)} (ht:getE env t=some (.gt id xs)) (hb:getH hp id=some (.tok n k)) (hn:n=xs.length) (hf:zaz env hp [id2]=true)
  (hx:CWp c code ⟨(t,.gl id2 xs)::env,(id2,some (.tok n k))::(id,none)::hp⟩ K):CWp c code ⟨env,hp⟩ K:=by
 rintro a w ⟨G,hr⟩
 obtain⟨G',h1,h2⟩:=hr.gtGl (hr.slots t _ ht) hb hn hf;exact hx a w ⟨G',h1.slot h2⟩
theorem CWp.splitT (id off id' k:Nat){xs:List (List D)}{cs cs':List AV} (hb:getH hp id=some (.tree cs)) (hc:cs[off]?=some (.own true (.sl xs))) (hk:∀x,x∈xs->x.length=k)
  (hf:zaz env hp [id']=true) (hput:putC cs off [.gt id' xs]=some cs')
  (hn:CWp c code ⟨env,(id',some (.tok xs.length k))::(id,some (.tree cs'))::hp⟩ K):CWp c code ⟨env,hp⟩ K:=by
 rintro a w ⟨G,hr⟩
 obtain⟨h0,hocc⟩:=zbf hf id' oe;obtain⟨b,vs,e,Ss,hT⟩:=hr.heap id _ hb;obtain⟨hoff,hcv⟩:=List.getElem?_eq_some_iff.1 hc;have hov:off<vs.size:=by have:=hT.len;omega
 have hcell:=hT.cell off hoff hov;rw[hcv] at hcell;have hne:id≠id':=fun e=>by subst e;have h0':getH hp id=none:=h0;rw[h0'] at hb;cases hb
 obtain⟨p1,p2,p3⟩:=zbR hput;have hTD:TreeD true w (.sl xs) vs[off] (Ss off):=hcell;generalize hv:vs[off]=v at hTD;let Ss':Nat->List Nat:=fun i=>if i=off then [] else Ss i
 let G':Gh:={ G with loc:=fun i=>bif Nat.beq i id' then Ss off else bif Nat.beq i id then b::(List.range cs'.length).flatMap Ss' else G.loc i }
 have l1:G'.loc id'=Ss off:=by simp[G']
 have l2:G'.loc id=b::(List.range cs'.length).flatMap Ss':=by simp[G',zci hne]
 have l3:∀i,i≠id'->i≠id->G'.loc i=G.loc i:=fun i h1 h2=>by simp[G',zci h1,zci h2]
 have hnd:=hT.nodup;rw[hT.loc] at hnd;have hnd':=List.nodup_cons.1 hnd;have hsubS:∀x,x∈Ss off->x∈G.loc id:=fun x hx=>by
  rw[hT.loc];exact List.mem_cons_of_mem _ (List.mem_flatMap.2 ⟨off,List.mem_range.2 hoff,hx⟩)
 have hsubl:((List.range cs'.length).flatMap Ss').Sublist ((List.range cs.length).flatMap Ss):=by
  rw[p1];refine zdl hnd'.2 (fun i hi=>?_);simp only[Ss'];split
  ·exact List.nil_sublist _
  ·exact List.Sublist.refl _
 have hsub2:∀x,x∈G'.loc id->x∈G.loc id:=fun x hx=>by
  rw[l2] at hx;rw[hT.loc];rcases List.mem_cons.1 hx with h|h
  ·simp[h]
  ·exact List.mem_cons_of_mem _ (hsubl.subset h)
 have g1:getH ((id',some (Res.tok xs.length k))::(id,some (.tree cs'))::hp) id'=some (.tok xs.length k):=by rw[zaa,if_pos rfl]
 have g2:getH ((id',some (Res.tok xs.length k))::(id,some (.tree cs'))::hp) id=some (.tree cs'):=by rw[zaa,if_neg hne,zaa,if_pos rfl]
 have hturn:Turn c G ⟨env,hp⟩ w G' ((id',some (.tok xs.length k))::(id,some (.tree cs'))::hp) [id,id']:=by
  refine⟨fun i hi=>?_,fun i hi=>?_,fun _ _=>rfl,fun _ _ h=>h,hr.top,fun i hi=>?_,fun i hi hs x hx=>?_,fun i hi j hj hij _ _ x hx=>?_,fun i hi l hl=>?_⟩
  ·simp only[List.mem_cons,xau,or_false,not_or] at hi;rw[zaa,if_neg hi.2,zaa,if_neg hi.1]
  ·simp only[List.mem_cons,xau,or_false,not_or] at hi;exact l3 i hi.2 hi.1
  ·simp only[List.mem_cons,xau,or_false] at hi;rcases hi with rfl|rfl
   ·right
    have ht:tokf ((id',some (Res.tok xs.length k))::(i,some (.tree cs'))::hp) i=none:=by unfold tokf;rw[g2]
    refine⟨.inr ⟨ht,by rw[l2,hT.loc];rfl⟩,fun p hp=>by rw[ht] at hp;cases hp⟩
   ·exact .inl hocc
  ·simp only[List.mem_cons,xau,or_false] at hi;have hs':(getH hp id).isSome:=by rw[hb];rfl
   rcases hi with rfl|rfl
   ·exact⟨i,by simp,hs',hsub2 x hx⟩
   ·rw[l1] at hx;exact⟨id,by simp,hs',hsubS x hx⟩
  ·simp only[List.mem_cons,xau,or_false] at hi hj;have key:∀x,x∈Ss off->x∉G'.loc id:=by
    intro x hx hx2;rw[l2] at hx2;rcases List.mem_cons.1 hx2 with h|h
    ·exact hnd'.1 (List.mem_flatMap.2 ⟨off,List.mem_range.2 hoff,h ▸ hx⟩)
    ·obtain⟨j,hj,hxj⟩:=List.mem_flatMap.1 h;simp only[Ss'] at hxj;split at hxj
     ·simp at hxj
     ·rename_i hjo;exact zfX List.nodup_range hnd'.2 off j (List.mem_range.2 hoff) (by rw[p1] at hj;exact hj) (Ne.symm hjo) x hx hxj
   rcases hi with rfl|rfl<;>rcases hj with rfl|rfl
   ·exact absurd I hij
   ·rw[l1];exact fun h=>key x h hx
   ·rw[l1] at hx;exact key x hx
   ·exact absurd I hij
  ·simp only[List.mem_cons,xau,or_false] at hi;have hk0:=hr.kept i l hl;rcases hi with rfl|rfl
   ·refine⟨?_,by rw[g2];rfl,by unfold tokf;rw[g2]⟩;rw[l2,<-hk0.1,hT.loc];rfl
   ·have h0':getH hp i=none:=h0;have:=hk0.2.1;rw[show(⟨env,hp⟩:St).hp=hp from rfl,h0'] at this;cases this
 have hgt:RelA G' (tokf ((id',some (.tok xs.length k))::(id,some (.tree cs'))::hp)) w (.gt id' xs) v:=by
  refine .gt (by
   have hTD2:=hTD;generalize Ss off=So at hTD2;cases hTD2 with
   |nil=>exact⟨_,_,rfl⟩
   |emp _ _ _ _ h=>cases h
   |em0 _ _ _ h=>cases h
   |sl _ _ _ _ _ _ _ _ _ _ _ _ _=>exact⟨_,_,rfl⟩) (fun n' k' hm'=>?_)
  have:=zaf.1 hm';rw[g1] at this;cases this
  refine⟨Nat.le_refl _,fun _=>⟨hk, ?_⟩⟩;have hndS:=zib hnd'.2 off (List.mem_range.2 hoff);have hF:∀x,x∈Ss off->G.F x=0:=fun x hx=>(hT.mine x (hsubS x hx)).1;unfold TipT;rw[l1];generalize Ss off=So at hTD hndS hF;cases hTD with
  |nil=>exact .inl ⟨I,I,I⟩
  |emp _ _ _ _ h=>cases h
  |em0 _ _ _ h=>cases h
  |sl _ k1 b1 cap cs1 e1 Ss1 hk1 hcap hb1 hc1 hr1 hz1=>
   by_cases hx:xs=[]
   ·subst hx;have hc0:=hz1 rfl rfl;subst hc0;refine .inr ⟨b1,0,cs1,e1,Ss1,by simp,I,hb1,by simp,Nat.le_refl _,hndS,hF,fun i hi=>by simp at hi,fun _=>rfl⟩
   ·have hkk:k1=k:=by
     obtain⟨x,hx'⟩:=List.exists_mem_of_ne_nil _ hx;rw[<-hk1 x hx',hk x hx']
    subst hkk;exact .inr ⟨b1,cap,cs1,e1,Ss1,I,I,hb1,hc1,hcap,hndS,hF,hr1,fun h=>absurd (List.eq_nil_of_length_eq_zero h) hx⟩
 refine hn a w ⟨G',hturn.fin hr (fun i hi r hri=>?_)⟩;simp only[List.mem_cons,xau,or_false] at hi;rcases hi with rfl|rfl
 ·rw[g2] at hri;cases hri
  refine⟨b,vs,e,Ss',l2,hT.at_,by rw[p1];exact hT.len, ?_,fun x hx=>hT.mine x (hsub2 x hx),fun j hj hjv=>?_⟩
  ·rw[l2];exact List.nodup_cons.2 ⟨fun h=>hnd'.1 (hsubl.subset h),hsubl.nodup hnd'.2⟩
  ·have h3:=p3 j;rw[xan hj] at h3;by_cases hjo:j=off
   ·subst hjo;rw[if_pos oe] at h3;simp only[Nat.sub_self,List.getElem?_cons_zero,xae] at h3;rw[h3,hv];exact⟨by simp[Ss'],hgt⟩
   ·rw[if_neg ua] at h3;have hjc:j<cs.length:=by omega
    rw[xan hjc] at h3;rw[Option.some.inj h3];have h4:=hT.cell j hjc hjv;have h5:Ss' j=Ss j:=by simp[Ss',hjo]
    rw[h5];exact h4.map (hturn.cell hr hb (xao hjc)) (fun _ _=>rfl)
 ·rw[g1] at hri;cases hri
  intro x hx;rw[l1] at hx;exact(hT.mine x (hsubS x hx)).2
theorem CWp.mergeT (id off id' k:Nat){n:Nat}{xs:List (List D)}{cs cs':List AV} (hb:getH hp id=some (.tree cs)) (hc:cs[off]?=some (.gt id' xs)) (hb':getH hp id'=some (.tok n k)) (hnl:n=xs.length)
  (hput:putC cs off [.own true (.sl xs)]=some cs')
  (hn:CWp c code ⟨env,(id',none)::(id,some (.tree cs'))::hp⟩ K):CWp c code ⟨env,hp⟩ K:=by
 rintro a w ⟨G,hr⟩
 have hne:id≠id':=fun e=>by subst e;rw[hb] at hb';cases hb'
 obtain⟨b,vs,e,Ss,hT⟩:=hr.heap id _ hb;obtain⟨hoff,hcv⟩:=List.getElem?_eq_some_iff.1 hc;have hov:off<vs.size:=by have:=hT.len;omega
 have hcell:=hT.cell off hoff hov;rw[hcv] at hcell;obtain⟨hS0,hgt⟩:=hcell;obtain⟨_,hcl⟩:=hgt.gt_inv;obtain⟨hkx,htip⟩:=(hcl _ _ (zaf.2 hb')).2 hnl;obtain⟨hTr,hnd1,hF1⟩:=zpi hnl hkx htip;have hbd1:=(hr.heap id' _ hb').bound;obtain⟨p1,p2,p3⟩:=zbR hput;let Ss':Nat->List Nat:=fun i=>if i=off then G.loc id' else Ss i
 let G':Gh:={ G with loc:=fun i=>bif Nat.beq i id then b::(List.range cs'.length).flatMap Ss' else G.loc i }
 have l1:G'.loc id=b::(List.range cs'.length).flatMap Ss':=by simp[G']
 have l3:∀i,i≠id->G'.loc i=G.loc i:=fun i h2=>by simp[G',zci h2]
 have hnd:=hT.nodup;rw[hT.loc] at hnd;have hnd':=List.nodup_cons.1 hnd;have s1:(getH hp id).isSome:=by rw[hb];rfl
 have s2:(getH hp id').isSome:=by rw[hb'];rfl
 have hapart:∀x,x∈G.loc id->x∉G.loc id':=hr.disj id id' s1 s2 hne;have hmem:∀x,x∈G'.loc id->x∈G.loc id\/x∈G.loc id':=fun x hx=>by
  rw[l1] at hx;rcases List.mem_cons.1 hx with h|h
  ·left;rw[hT.loc,h];simp
  ·obtain⟨j,hj,hxj⟩:=List.mem_flatMap.1 h;simp only[Ss'] at hxj;split at hxj
   ·exact .inr hxj
   ·left
    rw[hT.loc];rw[p1] at hj;exact List.mem_cons_of_mem _ (List.mem_flatMap.2 ⟨j,hj,hxj⟩)
 have g1:getH ((id',none)::(id,some (Res.tree cs'))::hp) id'=none:=by rw[zaa,if_pos rfl]
 have g2:getH ((id',none)::(id,some (Res.tree cs'))::hp) id=some (.tree cs'):=by rw[zaa,if_neg hne,zaa,if_pos rfl]
 have t1:tokf ((id',none)::(id,some (Res.tree cs'))::hp) id'=none:=by unfold tokf;rw[g1]
 have t2:tokf ((id',none)::(id,some (Res.tree cs'))::hp) id=none:=by unfold tokf;rw[g2]
 have hturn:Turn c G ⟨env,hp⟩ w G' ((id',none)::(id,some (.tree cs'))::hp) [id,id']:=by
  refine⟨fun i hi=>?_,fun i hi=>?_,fun _ _=>rfl,fun _ _ h=>h,hr.top,fun i hi=>?_,fun i hi hs x hx=>?_,fun i hi j hj hij h1 h2 x hx=>?_,fun i hi l hl=>?_⟩
  ·simp only[List.mem_cons,xau,or_false,not_or] at hi;rw[zaa,if_neg hi.2,zaa,if_neg hi.1]
  ·simp only[List.mem_cons,xau,or_false,not_or] at hi;exact l3 i hi.1
  ·simp only[List.mem_cons,xau,or_false] at hi;right
   rcases hi with rfl|rfl
   ·exact⟨.inr ⟨t2,by rw[l1,hT.loc];rfl⟩,fun p hp=>by rw[t2] at hp;cases hp⟩
   ·exact⟨.inl (l3 i (Ne.symm hne)),fun p hp=>by rw[t1] at hp;cases hp⟩
  ·simp only[List.mem_cons,xau,or_false] at hi;rcases hi with rfl|rfl
   ·rcases hmem x hx with h|h
    ·exact⟨i,by simp,s1,h⟩
    ·exact⟨id',by simp,s2,h⟩
   ·rw[g1] at hs;cases hs
  ·simp only[List.mem_cons,xau,or_false] at hi hj;rcases hi with rfl|rfl
   ·rcases hj with rfl|rfl
    ·exact absurd I hij
    ·rw[g1] at h2;cases h2
   ·rw[g1] at h1;cases h1
  ·simp only[List.mem_cons,xau,or_false] at hi;have hk0:=hr.kept i l hl;rcases hi with rfl|rfl
   ·refine⟨?_,by rw[g2];rfl,t2⟩;rw[l1,<-hk0.1,hT.loc];rfl
   ·have:=hk0.2.2;rw[show(⟨env,hp⟩:St).hp=hp from rfl,zaf.2 hb'] at this;cases this
 refine hn a w ⟨G',hturn.fin hr (fun i hi r hri=>?_)⟩;simp only[List.mem_cons,xau,or_false] at hi;rcases hi with rfl|rfl
 ·rw[g2] at hri;cases hri
  refine⟨b,vs,e,Ss',l1,hT.at_,by rw[p1];exact hT.len, ?_,fun x hx=>?_,fun j hj hjv=>?_⟩
  ·rw[l1,List.nodup_cons];constructor
   ·intro h;obtain⟨j,hj,hxj⟩:=List.mem_flatMap.1 h;rw[p1] at hj;simp only[Ss'] at hxj;split at hxj
    ·exact hapart b (by rw[hT.loc];simp) hxj
    ·exact hnd'.1 (List.mem_flatMap.2 ⟨j,hj,hxj⟩)
   ·rw[p1];refine zer List.nodup_range hnd'.2 hnd1 (fun x hx j hj _ hxj=>?_);exact hapart x (by rw[hT.loc];exact List.mem_cons_of_mem _ (List.mem_flatMap.2 ⟨j,hj,hxj⟩)) hx
  ·rcases hmem x hx with h|h
   ·exact hT.mine x h
   ·exact⟨hF1 x h,hbd1 x h⟩
  ·have h3:=p3 j;rw[xan hj] at h3;by_cases hjo:j=off
   ·subst hjo;rw[if_pos oe] at h3;simp only[Nat.sub_self,List.getElem?_cons_zero,xae] at h3;rw[h3];have h5:Ss' j=G.loc id':=by simp[Ss']
    rw[h5];exact hTr
   ·rw[if_neg ua] at h3;have hjc:j<cs.length:=by omega
    rw[xan hjc] at h3;rw[Option.some.inj h3];have h4:=hT.cell j hjc hjv;have h5:Ss' j=Ss j:=by simp[Ss',hjo]
    rw[h5];exact h4.map (hturn.cell hr hb (xao hjc)) (fun _ _=>rfl)
 ·rw[g1] at hri;cases hri
end
section
variable {c:Ctx}{all:Array Oper}{chk:List Rec->Prop}{os:List Oper}{recs:List Rec}{env:Env}{hp:Hp}{Q:St->Prop}
variable {d ty:Nat}{pos:String}{af:Array Edge}{g:Option (Nat×Bool)}{pg:List (Nat×AV)}
variable {t yt:TypeId}{x y:Operand}
theorem xbk {id k e yb:Nat}{xs ys:List (List D)}{vy:AV} (ht:SlT c.P t e k yb) (hz:ZeroT c.P e k) (hg:GH all env g pg) (hd:Nat.blt d c.n=true)
  (hx:opd env x=some (.gt id xs)) (hy:opd env y=some vy) (hyd:vy.toD=some (.sl ys)) (htok:getH hp id=some (.tok xs.length k)) (hky:∀y,y∈ys->y.length=k) (hf:FlatR ys)
  (hb:(xs.length+ys.length)*yb<=140737488355328) (hm:xs.length+ys.length<=9223372036854775807)
  (hn:Walk c all chk os (zal (pg++(opF x (.gt id xs)++opF y vy)) [(id,.tok xs.length k)] [] ⟨some (d,.gt id (xs++ys)),[(id,some (.tok (xs.length+ys.length) k))]⟩::recs)
   ⟨(d,.gt id (xs++ys))::env,(id,some (.tok (xs.length+ys.length) k))::hp⟩ Q):
  Walk c all chk (⟨some d,.call ⟨.builtin .append,#[x,y],#[t,t]⟩,ty,pos,af,g⟩::os) recs ⟨env,hp⟩ Q:=by
 refine⟨pg++(opF x (.gt id xs)++opF y vy),[(id,.tok xs.length k)],[],_, ?_,zaq hg.facts (zaq (zaO hx) (zaO hy)),hh1 htok,by simp,hn⟩;intro s a w hrel hp' hh _ K Q' hK;obtain⟨G,hr⟩:=hrel;have e1:=hr.opd (zaR hx (fun p hm=>hp' p (by simp[hm])));have e2:=hr.opd (zaR hy (fun p hm=>hp' p (by simp[hm])));obtain⟨i,z,z1,z2,z3⟩:=hz.out;obtain⟨v',w',G',hrun,hR,hA⟩:=zm8 hr ht ⟨i,z1,z2,z3⟩ (hh1' hh) e1 (e2.toD hyd) hky hf hb hm ty;unfold wpO;rw[if_pos (hg.gf.wanted hr (fun p hm=>hp' p (by simp[hm])))];unfold Oper.wp;have:(execOp a.eval ⟨some d,.call ⟨.builtin .append,#[x,y],#[t,t]⟩,ty,pos,af,g⟩).run c.P w = .ok (.value v') w':=by
  simp only[execOp,resolve,invoke,builtin,Sem.run_bind,Sem.run_pure,Result.andThen_ok,List.map_toArray,xaf,List.map_nil,hrun]
 rw[this,Oper.upon_value];exact hK _ _ ⟨G',hR.put hA hd⟩
theorem xbV {parts:Array (Nat×Operand)}{n:Nat}{ks:List Nat}{xs:List Operand}{vs zs r:List AV}{e k yb id:Nat} (ht:SlT c.P t e k yb) (hz:TyZ c.P e k zs) (hzk:zs.length=k) (hk:0<k)
  (hparts:parts=(ks.zip xs).toArray) (hlen:ks.length=xs.length) (hsmall:n*k<=16777216) (hpos:0<n) (hg:GH all env g pg) (hd:Nat.blt d c.n=true) (hx:opdL env xs=some vs)
  (hf:zf4 (fun i=>some (i*k,k)) (zbG n zs) (ks.zip vs)=some r) (hid:zaB id (AV.idsL r)=false) (h0:getH hp id=none) (ho1:occE id env=false) (ho2:occH id hp=false)
  (hn:Walk c all chk os (zal (pg++opFL xs vs) [] [id] ⟨some (d,.ms id n),[(id,some (.box r))]⟩::recs) ⟨(d,.ms id n)::env,(id,some (.box r))::hp⟩ Q):
  Walk c all chk (⟨some d,.buildSlice t n parts,ty,pos,af,g⟩::os) recs ⟨env,hp⟩ Q:=by
 subst hparts;refine xbJ hg hd hx h0 ho1 ho2 hid (fun a G T w h=>?_) hn;obtain⟨ie,hi1,hi2,hi3⟩:=ht.inf;obtain⟨i',z,z1,z2,z3,z4⟩:=hz.inf;rw[hi1] at z1;cases z1
 have hz0:=zdp (G:=G) (T:=T) (w:=w) z4;have hzr:=zjs (by simpa using hz0) n od;obtain⟨lv,hlv,hal⟩:=zf5 (ks.zip vs) (ks.zip (xs.map a.eval)) _ r _ hf hzr (by simp[h.1]) (zqA h hlen);have hpos':¬n*ie.size=0:=by rw[hi2];exact Nat.ne_of_gt (Nat.mul_pos hpos hk)
 have hrun:=run_buildSlice (P:=c.P) w t e n ((ks.zip xs).toArray.map fun(i,x)=>(i,a.eval x)) lv ie z ht.und hi1 z3 (by rw[hi2];omega) hpos' (by
  rw[hi2,<-hlv];congr 1
  ·rw[hzk]
  ·simp[List.zip_map_right,Prod.map])
 refine⟨_,lv,e, ?_,hal,fun G' T' w' hl hT=> .ms (by rw[hl];rfl) hT (Nat.le_refl _)⟩;simp only[execOp,Sem.run_bind,hrun,Result.andThen_ok,Sem.run_pure]
theorem xbT {t:TypeId}{e k yb:Nat} (id:Nat) (ht:SlT c.P t e k yb) (hg:GH all env g pg) (hd:Nat.blt d c.n=true) (hfr:zaz env hp [id]=true)
  (hn:Walk c all chk os (zal (pg++opFL [] []) [] [id] ⟨some (d,.gt id []),[(id,some (.tok 0 k))]⟩::recs) ⟨(d,.gt id [])::env,(id,some (.tok 0 k))::hp⟩ Q):
  Walk c all chk (⟨some d,.buildSlice t 0 #[],ty,pos,af,g⟩::os) recs ⟨env,hp⟩ Q:=by
 refine⟨pg++opFL [] [],[],[id],_, ?_,zaq hg.facts (zbX rfl),by simp,zbf hfr,hn⟩;intro s a w hrel hp' hh hcr K Q' hK;obtain⟨G,hr⟩:=hrel;obtain⟨h0,hocc⟩:=hcr id oe;obtain⟨ie,hi1,hi2,hi3⟩:=ht.inf;have e1:(execOp a.eval ⟨some d,.buildSlice t 0 #[],ty,pos,af,g⟩).run c.P w = .ok (.value (.slice (some ⟨w.heap.size,0,none⟩) 0 0)) (w.alloc (.cells #[] e)):=by
  simp[execOp,Instr.buildSlice,run_underlying ht.und,sizeOf,zex hi1,Instr.fill,newRow,Array.range_zero']
 have hr':=(hr.alloc (.cells #[] e) 0).rename h0 hocc [w.heap.size];have hloc:∀i,i≠id->(bif Nat.beq i id then [w.heap.size] else G.loc i)=G.loc i:=fun i h=>by rw[zci h];rfl
 have hR:=hr'.name (r:= .tok 0 k) h0 hocc (fun b hb=>by simp at hb;subst hb;simp) (fun i hi b hb=>by
  have hi':i≠id:=fun e=>by subst e;rw[h0] at hi;cases hi
  have hb':b∈G.loc i:=by have:=hloc i hi';simp only[this] at hb;exact hb
  obtain⟨r,hrr⟩:=Option.isSome_iff_exists.1 hi;have hlt:b<w.heap.size:=(hr.heap i r hrr).bound b hb';simp;omega) (fun b hb=>by
  simp at hb;subst hb;exact .inr hr.frm.size)
 unfold wpO;rw[if_pos (hg.gf.wanted hr (fun p hm=>hp' p (by simp[hm])))];unfold Oper.wp;rw[e1,Oper.upon_value];refine hK _ _ ⟨_,hR.put (v:= .gt id []) (.gt ⟨_,_,I⟩ (fun n k' hT=>?_)) hd⟩;have:=zaf.1 hT;have h2:getH ((id,some (Res.tok 0 k))::s.hp) id=some (.tok n k'):=this;rw[zaa,if_pos rfl] at h2;cases h2
 refine⟨Nat.le_refl _,fun _=>⟨by simp,.inr ⟨w.heap.size,0,#[],e,fun _=>[],by simp,rfl,zdY,by simp,Nat.le_refl _,by simp,fun b hb=>?_,fun i hi=>by simp at hi,fun _=>rfl⟩⟩⟩;simp at hb;subst hb;simp
end
theorem RelA.gv_move {G G':Gh}{T T':TokF}{w:World}{i j n k:Nat}{xs:List (List D)}{v:Value} (h:RelA G T w (.gv i xs) v) (hT:T i=some (n,k)) (hF:G'.F=G.F) (hl:G'.loc j=G.loc i) (hT':T' j=some (n,k)):RelA G' T' w (.gv j xs) v:=by
 obtain⟨hv,ht⟩:=h.gv_inv;refine .gv hv (fun n' k' he=>?_);rw[hT'] at he;cases he
 obtain⟨h1,h2⟩:=ht _ _ hT;refine⟨h1,fun hn=>?_⟩;obtain⟨h3,h4⟩:=h2 hn;refine⟨h3, ?_⟩;rcases h4 with ⟨a1,a2,a3⟩|⟨b,cap,cs,e,a1,a2,a3,a4,a5,a6,a7⟩
 ·exact .inl ⟨hl.trans a1,a2,a3⟩
 ·exact .inr ⟨b,cap,cs,e,hl.trans a1,a2,by rw[hF];exact a3,a4,a5,a6,fun q hq r hr=>(a7 q hq r hr).mono (fun x o ho=>⟨by rw[hF];exact ho,I⟩)⟩
def zjz (hpc hp0:Hp) (tk:List Nat):List Nat:=(hpc.map (·.1)++hp0.map (·.1)).filter fun x=> !zaB x tk
theorem zrn {hpc hp0:Hp}{tk:List Nat}{id:Nat}:id∈zjz hpc hp0 tk↔(id∈hpc.map (·.1)\/id∈hp0.map (·.1))/\id∉tk:=by
 unfold zjz;rw[List.mem_filter,List.mem_append];have:(!zaB id tk)=true↔id∉tk:=by
  rw[<-zat];cases zaB id tk<;>simp
 rw[this]
def zkY (tk K K0:List Nat):Nat×Option Res->Bool
 |(i,some (.box cs))=>zaB i K0||subB (AV.idsL cs) K
 |(i,some (.tree cs))=>zaB i K0||subB (AV.idsL cs) K
 |(_,some (.map _))=>true
 |(i,some (.tok _ _))=>zaB i tk
 |(_,none)=>false
def zs4 (tk cr K:List Nat):Nat×Option Res->Bool
 |(_,some (.box cs))=>subB (AV.idsL cs) K
 |(_,some (.tree cs))=>subB (AV.idsL cs) K
 |(_,some (.map _))=>true
 |(i,some (.tok _ _))=>zaB i cr
 |(i,none)=>zaB i tk
def znl:Option Res->Bool
 |some (.tok _ _)=>true
 |_=>false
def zpj:Option Res->Bool
 |none=>true
 |_=>false
def tkB (hpc hp0:Hp) (i:Nat):Bool:=znl (getH hpc i)&&(zaB i (hp0.map (·.1))&&zpj (getH hp0 i))
def zjA (hpc hp0:Hp) (r:AV) (tk cr:List Nat):Bool:=
 tk.all (tkB hpc hp0)&&hpc.all (zkY tk (zjz hpc hp0 tk) (hp0.map (·.1)))&&hp0.all (zs4 tk cr (zjz hpc hp0 tk))&&hp0.all (fun p=>zaB p.1 (hpc.map (·.1))||zaB p.1 cr)&&subB r.ids (zjz hpc hp0 tk)
theorem zsP {hpc hp0:Hp}{i:Nat} (h:tkB hpc hp0 i=true):znl (getH hpc i)=true/\i∈hp0.map (·.1)/\getH hp0 i=none:=by
 unfold tkB at h;simp only[xad] at h;refine⟨h.1,zat.1 h.2.1, ?_⟩;cases hg:getH hp0 i with
 |none=>rfl
 |some x=>rw[hg] at h;exact absurd h.2.2 (by simp[zpj])
theorem zhm {hp:Hp}{tk K K0:List Nat} (ha:hp.all (zkY tk K K0)=true){id:Nat} (h:id∈hp.map (·.1)):(getH hp id).isSome:=by
 induction hp with
 |nil=>simp at h
 |cons p t ih=>
  obtain⟨i,x⟩:=p;rw[zaa];simp only[List.all_cons,xad] at ha;by_cases hi:id=i
  ·rw[if_pos hi];cases x with
   |none=>simp[zkY] at ha
   |some r=>rfl
  ·rw[if_neg hi];refine ih ha.2 ?_;simp only[xaf,List.mem_cons] at h;exact h.resolve_left hi
theorem zoT {hp:Hp}{tk cr K:List Nat} (ha:hp.all (zs4 tk cr K)=true){id:Nat} (hn:id∉tk) (h:id∈hp.map (·.1)):(getH hp id).isSome:=by
 induction hp with
 |nil=>simp at h
 |cons p t ih=>
  obtain⟨i,x⟩:=p;rw[zaa];simp only[List.all_cons,xad] at ha;by_cases hi:id=i
  ·rw[if_pos hi];cases x with
   |none=>subst hi;exact absurd (zat.1 ha.1) hn
   |some r=>rfl
  ·rw[if_neg hi];refine ih ha.2 ?_;simp only[xaf,List.mem_cons] at h;exact h.resolve_left hi
section
variable {c:Ctx}
theorem zkQ {G:Gh}{s:St}{a:Act}{w:World} (hr:R c G s a w){f:FuncId}{avs:List AV}{hpc hp0:Hp}{r:AV}{vals:Array Value} (hf:FnD c.P f avs hpc r hp0)
  (hargs:AllR G (tokf s.hp) w avs vals) (hsub:∀id r,getH hpc id=some r->getH s.hp id=some r)
  (tk cr:List Nat) (hcr:∀id,id∈cr->getH s.hp id=none/\zcI id s) (hchk:zjA hpc hp0 r tk cr=true):
  Calls c.P f vals w fun e w'=>∃v,e = .returned v/\∃G',R c G' { s with hp:=hp0++s.hp } a w'/\RelA G' (tokf (hp0++s.hp)) w' r v:=by
 simp only[zjA,xad] at hchk;obtain⟨⟨⟨⟨c0,c1⟩,c2⟩,c3⟩,c4⟩:=hchk;have ctk:=fun id (h:id∈tk)=>zsP (List.all_eq_true.1 c0 id h)

 have hok:HOK G w hpc avs vals:=by
  have hm:∀ {x:AV}{v:Value},RelA G (tokf s.hp) w x v->RelA G (tokf hpc) w x v:=fun hx=>
   hx.mono (fun _ _ ho=>⟨ho,rfl⟩) (fun _ _=> .inl rfl) (fun id _ p hp=>⟨by
    obtain⟨n,k⟩:=p;exact zaf.2 (hsub _ _ (zaf.1 hp)),fun _ _=>⟨I,I⟩⟩)
  have hsome:∀id,(getH hpc id).isSome->(getH s.hp id).isSome:=fun id hi=>by
   obtain⟨x,hx⟩:=Option.isSome_iff_exists.1 hi;rw[hsub _ _ hx];rfl
  refine⟨⟨hargs.size,fun i hi hv=>hm (hargs.rel i hi hv)⟩,fun id r h=>?_,fun id id' h1 h2=>hr.disj id id' (hsome _ h1) (hsome _ h2),hr.top⟩;have:=hr.heap id r (hsub id r h);cases r with
  |box cs=>
   obtain⟨b,us,e,e1,e2,e3,e4,e5⟩:=this;exact⟨b,us,e,e1,e2,e3,e4,fun i hi hv=>hm (e5 i hi hv)⟩
  |tok n k=>exact this
  |map ks=>exact this
  |tree cs=>exact za3 this I (fun _ _=>⟨I,I⟩) (Nat.le_refl _) (fun _ _ _=>hm)
 refine(hf G w vals hok).mono ?_;rintro e w' ⟨v,r',hp1,G',rfl,⟨rfl,rfl⟩,hret⟩
 refine⟨v,rfl, ?_⟩;let keys:=zjz hpc hp1 tk
 have kin:∀id,id∈keys↔(id∈hpc.map (·.1)\/id∈hp1.map (·.1))/\id∉tk:=fun id=>zrn;have hkeys:∀id,id∈keys->(getH (hp1++hpc) id).isSome:=fun id hid=>by
  obtain⟨h1,h2⟩:=(kin id).1 hid;rw[zbn];split
  ·rename_i h;exact zoT c2 h2 (zat.1 h)
  ·rename_i h;rcases h1 with h' | h'
   ·exact zhm c1 h'
   ·exact absurd (zat.2 h') h
 have hget:∀id,id∈keys->getH (hp1++s.hp) id=getH (hp1++hpc) id:=fun id hid=>by
  obtain⟨h1,h2⟩:=(kin id).1 hid;rw[zbn,zbn];split
  ·rfl
  ·rename_i h;have h':id∈hpc.map (·.1):=h1.resolve_right (fun h'=>h (zat.2 h'));obtain⟨x,hx⟩:=Option.isSome_iff_exists.1 (zhm c1 h');rw[hx,hsub _ _ hx]
 have hgett:∀id,id∈tk->getH (hp1++s.hp) id=none:=fun id hid=>by
  obtain⟨_,h2,h3⟩:=ctk id hid;rw[zbn,if_pos (zat.2 h2)];exact h3
 have hgetn':∀id,id∉keys->id∉tk->getH (hp1++s.hp) id=getH s.hp id:=fun id hid ht=>by
  rw[zbn];split
  ·rename_i h;exact absurd ((kin id).2 ⟨.inr (zat.1 h),ht⟩) hid
  ·rfl
 have hgetn:∀id x,id∉keys->getH (hp1++s.hp) id=some x->getH s.hp id=some x/\id∉hpc.map (·.1):=fun id x hid hx=>by
  by_cases ht:id∈tk
  ·rw[hgett id ht] at hx;cases hx
  ·rw[hgetn' id hid ht] at hx;exact⟨hx,fun h=>hid ((kin id).2 ⟨.inl h,ht⟩)⟩
 have ht0:∀id,id∈keys->id∉cr->tokf (hp1++s.hp) id=none:=fun id hid hncr=>by
  obtain⟨q1,q2⟩:=(kin id).1 hid;cases hT:tokf (hp1++s.hp) id with
  |none=>rfl
  |some p=>
   obtain⟨n,k⟩:=p;have h1:=zaf.1 hT;rw[hget id hid,zbn] at h1;split at h1
   ·have:=zcl h1 c2;exact absurd (zat.1 this) hncr
   ·have:=zcl h1 c1;exact absurd (zat.1 this) q2
 let G2:Gh:={ F:=G'.F,loc:=fun id=>bif zaB id keys then G'.loc id else G.loc id }
 have hl1:∀id,id∈keys->G2.loc id=G'.loc id:=fun id hid=>by simp[G2,zat.2 hid]
 have hl2:∀id,id∉keys->G2.loc id=G.loc id:=fun id hid=>by
  have:zaB id keys=false:=by
   cases h:zaB id keys with
   |true=>exact absurd (zat.1 h) hid
   |false=>rfl
  simp[G2,this]
 have hboxc:∀id,id∈hpc.map (·.1)->id∉tk->zcg hpc id=true:=fun id hid hnt=>by
  obtain⟨x,hx⟩:=Option.isSome_iff_exists.1 (zhm c1 hid);unfold zcg;rw[hx];cases x with
  |tok n k=>have:=zcl hx c1;exact absurd (zat.1 this) hnt
  |_=>rfl

 have hkey:∀id,id∈keys->(id∈hpc.map (·.1)/\(G'.loc id).head?=(G.loc id).head?)\/(id∉hpc.map (·.1)/\id∈cr):=fun id hid=>by
  obtain⟨q1,q2⟩:=(kin id).1 hid;by_cases h:id∈hpc.map (·.1)
  ·exact .inl ⟨h,(hret.kept id (hboxc id h q2)).1⟩
  ·right
   refine⟨h, ?_⟩;have h0:id∈hp1.map (·.1):=q1.resolve_left h;obtain⟨p,hp,rfl⟩:=List.mem_map.1 h0;have:=List.all_eq_true.1 c3 p hp;simp only[Bool.or_eq_true] at this;rcases this with h' | h'
   ·exact absurd (zat.1 h') h
   ·exact zat.1 h'
 have howned:∀b,b∈zds G hpc->∃id,(getH s.hp id).isSome/\b∈G.loc id/\id∈hpc.map (·.1):=fun b hb=>by
  obtain⟨id,h1,h2⟩:=ze7.1 hb;obtain⟨x,hx⟩:=Option.isSome_iff_exists.1 h1;exact⟨id,by rw[hsub _ _ hx];rfl,h2,List.mem_map.2 ⟨_,zcz hx,rfl⟩⟩
 have bound:∀i r,getH s.hp i=some r->∀b,b∈G.loc i->b<w.heap.size:=fun i r h=>(hr.heap i r h).bound;have away:∀i r,i∉hpc.map (·.1)->getH s.hp i=some r->∀b,b∈G.loc i->b∉zds G hpc:=fun i r hi h b hb hown=>by
  obtain⟨id,h1,h2,h3⟩:=howned b hown;exact hr.disj i id (by rw[h];rfl) h1 (fun e=>hi (e ▸ h3)) b hb h2
 have hm:∀ {x:AV}{u:Value},(∀id,id∈x.ids->id∉cr)->RelA G (tokf s.hp) w x u->RelA G2 (tokf (hp1++s.hp)) w' x u:=fun hx hxx=>
  hxx.mono hret.frm.cell (fun id hid=>by
   by_cases hk:id∈keys
   ·refine .inr ⟨ht0 id hk (hx id hid), ?_⟩;rw[hl1 id hk];rcases hkey id hk with ⟨_,h⟩|⟨_,h⟩
    ·exact h
    ·exact absurd h (hx id hid)
   ·exact .inl (hl2 id hk)) (fun id hid p hp=>by
   have hk:id∉keys:=fun hk=>by rw[ht0 id hk (hx id hid)] at hp;cases hp
   obtain⟨n,k⟩:=p;obtain⟨h1,hnc⟩:=hgetn id _ hk (zaf.1 hp);exact⟨zaf.2 h1,fun b hb=>hret.frm.block b (bound id _ h1 b hb) (away id _ hnc h1 b hb)⟩)
 have hm2:∀ {x:AV}{u:Value},(∀id,id∈x.ids->id∈keys)->RelA G' (tokf (hp1++hpc)) w' x u->RelA G2 (tokf (hp1++s.hp)) w' x u:=fun hx hxx=>
  hxx.mono (fun _ _ ho=>⟨ho,rfl⟩) (fun id hid=> .inl (hl1 id (hx id hid))) (fun id hid p hp=>⟨by
   have hk:=hx id hid;unfold tokf at hp ⊢;rw[hget id hk] at hp;exact hp,fun _ _=>⟨I,I⟩⟩)
 have hsome:∀id,id∉keys->(getH (hp1++s.hp) id).isSome->(getH s.hp id).isSome/\id∉hpc.map (·.1):=fun id hid h=>by
  obtain⟨x,hx⟩:=Option.isSome_iff_exists.1 h;obtain⟨h1,h2⟩:=hgetn id x hid hx;exact⟨by rw[h1];rfl,h2⟩
 have hsub2:∀id x,id∈keys->getH (hp1++hpc) id=some x->∀j,j∈x.ids->j∈keys:=fun id x hk hx j hj=>by
  rw[zbn] at hx;split at hx
  ·cases x with
   |box cs=>exact zec (zcl hx c2) j hj
   |tree cs=>exact zec (zcl hx c2) j hj
   |tok n k=>simp[Res.ids] at hj
   |map ks=>simp[Res.ids] at hj
  ·rename_i hn;cases x with
   |box cs=>
    have:=zcl hx c1;simp only[zkY,Bool.or_eq_true] at this;rcases this with h|h
    ·exact absurd h hn
    ·exact zec h j hj
   |tree cs=>
    have:=zcl hx c1;simp only[zkY,Bool.or_eq_true] at this;rcases this with h|h
    ·exact absurd h hn
    ·exact zec h j hj
   |tok n k=>simp[Res.ids] at hj
   |map ks=>simp[Res.ids] at hj
 refine⟨G2,⟨hr.size,hr.defers,fun i x hx=>?_,fun id x hx=>?_,fun id id' h1 h2 hne b hb=>?_,fun id h1 b hb=>?_,hr.frm.trans hret.frm ?_,hret.top,fun id l hl=>?_⟩, ?_⟩
 ·exact hm (fun id hid hc=>(hcr id hc).2.1 i x hx hid) (hr.slots i x hx)
 ·by_cases hk:id∈keys
  ·have hx':getH (hp1++s.hp) id=some x:=hx;rw[hget id hk] at hx';have hh:=hret.heap id x hx';have hids:=hsub2 id x hk hx';cases x with
   |box cs=>
    obtain⟨b,us,e,e1,e2,e3,e4,e5⟩:=hh;exact⟨b,us,e,(hl1 id hk).trans e1,e2,e3,e4,fun i hi hv=>hm2 (fun j hj=>hids j (xay (xao hi) hj)) (e5 i hi hv)⟩
   |tok n k=>exact fun b e1=>by rw[hl1 id hk] at e1;exact hh b e1
   |map ks=>
    obtain⟨b,es,cl,e1,e2⟩:=hh;exact⟨b,es,cl,(hl1 id hk).trans e1,e2⟩
   |tree cs=>exact za3 hh (hl1 id hk) (fun _ _=>⟨I,I⟩) (Nat.le_refl _) (fun x hx v=>hm2 (fun j hj=>hids j (xay hx hj)))
  ·obtain⟨hx',hnc⟩:=hgetn id x hk hx;have hh:=hr.heap id x hx';have hblk:∀b,b∈G.loc id->w'.heap[b]?=w.heap[b]?/\G'.F b=G.F b:=fun b hb=>hret.frm.block b (bound id x hx' b hb) (away id x hnc hx' b hb);cases x with
   |box cs=>
    obtain⟨b,us,e,e1,e2,e3,e4,e5⟩:=hh;obtain⟨f1,f2⟩:=hblk b (by simp[e1]);exact⟨b,us,e,(hl2 id hk).trans e1,f1.trans e2,e3,f2.trans e4,fun i hi hv=>hm (fun j hj hc=>(hcr j hc).2.2 id _ hx' (xay (xao hi) hj)) (e5 i hi hv)⟩
   |tok n k=>exact fun b e1=>by rw[hl2 id hk] at e1;exact Nat.lt_of_lt_of_le (hh b e1) hret.frm.size
   |map ks=>
    obtain⟨b,es,cl,e1,e2,e3,e4⟩:=hh;obtain⟨f1,f2⟩:=hblk b (by simp[e1]);exact⟨b,es,cl,(hl2 id hk).trans e1,f1.trans e2,f2.trans e3,e4⟩
   |tree cs=>exact za3 hh (hl2 id hk) hblk hret.frm.size (fun x hx v=>hm (fun j hj hc=>(hcr j hc).2.2 id _ hx' (xay hx hj)))
 ·have mix:∀i j,i∈keys->j∉keys->(getH (hp1++s.hp) i).isSome->(getH s.hp j).isSome/\j∉hpc.map (·.1)->∀b,b∈G'.loc i->b∉G.loc j:=fun i j hi hj h1 h2 b hb hbj=>by
   obtain⟨x,hx⟩:=Option.isSome_iff_exists.1 h2.1;have hnc:=h2.2;rcases hret.new i (by rw[<-hget i hi];exact h1) b hb with h|h
   ·exact away j x hnc hx b hbj h
   ·have:=bound j x hx b hbj;omega
  by_cases hk:id∈keys<;>by_cases hk':id'∈keys
  ·rw[hl1 id hk] at hb;rw[hl1 id' hk'];exact hret.disj id id' (hkeys id hk) (hkeys id' hk') hne b hb
  ·rw[hl1 id hk] at hb;rw[hl2 id' hk'];exact mix id id' hk hk' h1 (hsome id' hk' h2) b hb
  ·rw[hl2 id hk] at hb;rw[hl1 id' hk'];intro hb';exact mix id' id hk' hk h2 (hsome id hk h1) b hb' hb
  ·rw[hl2 id hk] at hb;rw[hl2 id' hk'];exact hr.disj id id' (hsome id hk h1).1 (hsome id' hk' h2).1 hne b hb
 ·by_cases hk:id∈keys
  ·rw[hl1 id hk] at hb;rcases hret.new id (hkeys id hk) b hb with h|h
   ·obtain⟨j,h2,h3,_⟩:=howned b h;exact hr.new j h2 b h3
   ·right;have:=hr.frm.size;omega
  ·rw[hl2 id hk] at hb;exact hr.new id (hsome id hk h1).1 b hb
 ·intro b hb;obtain⟨j,h2,h3,_⟩:=howned b hb;exact hr.new j h2 b h3
 ·have hk0:=hr.kept id l hl;have hncr:id∉cr:=fun h=>by have:=(hcr id h).1;rw[this] at hk0;simp at hk0
  have hntk:id∉tk:=fun h=>by
   obtain⟨h1,_,_⟩:=ctk id h;cases hg:getH hpc id with
   |none=>rw[hg] at h1;exact absurd h1 (by simp[znl])
   |some x=>
    rw[hg] at h1;cases x with
    |tok n k=>
     have:=hk0.2.2;rw[show tokf s.hp id=some (n,k) from zaf.2 (hsub _ _ hg)] at this;cases this
    |_=>exact absurd h1 (by simp[znl])
  show(G2.loc id).head?=l.head?/\(getH (hp1++s.hp) id).isSome/\tokf (hp1++s.hp) id=none
  by_cases hk:id∈keys
  ·refine⟨?_,by rw[hget id hk];exact hkeys id hk,ht0 id hk hncr⟩;rw[hl1 id hk];rcases hkey id hk with ⟨_,h⟩|⟨_,h⟩
   ·exact h.trans hk0.1
   ·exact absurd h hncr
  ·exact⟨(xam List.head? (hl2 id hk)).trans hk0.1,by rw[hgetn' id hk hntk];exact hk0.2.1,by
    have:=hk0.2.2;unfold tokf at this ⊢;rw[hgetn' id hk hntk];exact this⟩
 ·exact hm2 (fun j hj=>zec c4 j hj) hret.res
end
section
variable {c:Ctx}{all:Array Oper}{chk:List Rec->Prop}{os:List Oper}{recs:List Rec}{env:Env}{hp:Hp}{Q:St->Prop}
variable {d ty:Nat}{pos:String}{af:Array Edge}{g:Option (Nat×Bool)}{pg:List (Nat×AV)}
theorem xbp {f:FuncId}{args:Array Operand}{ats:Array TypeId}{xs:List Operand}{vs avs:List AV}{hpc hp0:Hp}{r:AV} (tk cr:List Nat) (hc:Callee c.P f) (hf:FnD c.P f avs hpc r hp0)
  (hargs:args=xs.toArray) (hg:GH all env g pg) (hd:Nat.blt d c.n=true) (hx:opdL env xs=some vs) (hle:LeL vs avs) (hsub:subH hpc hp) (hok:zjA hpc hp0 r tk cr=true)
  (hcr:(cr.all fun i=>zgA env hp i)=true)
  (hn:Walk c all chk os (zal (pg++opFL xs vs) (hpF hpc) cr ⟨some (d,r),hp0⟩::recs) ⟨(d,r)::env,hp0++hp⟩ Q):
  Walk c all chk (⟨some d,.call ⟨.value (.func f),args,ats⟩,ty,pos,af,g⟩::os) recs ⟨env,hp⟩ Q:=by
 subst hargs;refine⟨pg++opFL xs vs,hpF hpc,cr,_, ?_,zaq hg.facts (zbX hx),zfg hsub,fun id hi=>zev (List.all_eq_true.1 hcr id hi),hn⟩;intro s a w hrel hp' hh hcr' K Q' hK;obtain⟨G,hr⟩:=hrel;have hrl:=zcT hr (zcc hx (fun p hm=>hp' p (by simp[hm])));have hle':∀ {l m:List AV},LeL l m->∀i (h1:i<l.length) (h2:i<m.length),LeA l[i] m[i]:=by
  intro l;induction l with
  |nil=>intro m _ i h1;simp at h1
  |cons x r ih=>
   intro m h i h1 h2;cases h with
   |cons h t=>
    cases i with
    |zero=>exact h
    |succ i=>exact ih t i (by simpa using h1) (by simpa using h2)
 have hall:AllR G (tokf s.hp) w avs (xs.map a.eval).toArray:=by
  refine⟨by simp[<-hle.len,hrl.1],fun i hi hv=>?_⟩;have h1:i<vs.length:=by rw[hle.len];exact hi
  have:=(hrl.2 i h1 (by rw[<-hrl.1];exact h1)).le (hle' hle i h1 hi);simpa using this
 have hcalls:=zkQ hr hf hall (fun id x hx=>hh (id,x) (zgn (zcz hx))) tk cr hcr' hok;unfold wpO;rw[if_pos (hg.gf.wanted hr (fun p hm=>hp' p (by simp[hm])))];unfold Oper.wp;have hrun:(execOp a.eval ⟨some d,.call ⟨.value (.func f),xs.toArray,ats⟩,ty,pos,af,g⟩).run c.P w = .ok (.enter f (xs.map a.eval).toArray) w:=by
  have:=hc.run (xs.map a.eval).toArray w;simp only[execOp,resolve,Sem.run_bind,Act.eval,Deferred.ofValue,Sem.run_pure,Result.andThen_ok,invoke];simpa using this
 rw[hrun,Oper.upon_enter];refine hcalls.mono ?_;rintro e w' ⟨v,rfl,G',hR,hA⟩
 exact hK _ _ ⟨G',hR.put hA hd⟩
end
section
variable {c:Ctx}{env:Env}{hp:Hp}{K:Kt}{code:Code}{ids:List Nat}
theorem CWp.kill (ks:List Nat) (hn:CWp c code ⟨zch ks++env,hp⟩ K):CWp c code ⟨env,hp⟩ K:=by
 intro a w hrel;refine hn a w ?_;obtain⟨G,hr⟩:=hrel;refine⟨G,hr.size,hr.defers,fun i v hi=>?_,hr.heap,hr.disj,hr.new,hr.frm,hr.top,hr.kept⟩;have hi':getE (zch ks++env) i=some v:=hi;by_cases h:i∈zdU (zch ks)
 ·rw[zdT h] at hi';rw[ziV hi'];exact .any _
 ·rw[zc4 h] at hi';exact hr.slots i v hi'
theorem xaF (b off i j:Nat){n k:Nat}{xs:List (List D)}{cs:List AV} (hb:getH hp b=some (.box cs)) (hc:cs[off]?=some (.gv i xs)) (hi:getH hp i=some (.tok n k)) (hf:zgA env hp j=true)
  (hn:CWp c code ⟨env,(b,some (.box (cs.set off (.gv j xs))))::(j,some (.tok n k))::(i,none)::hp⟩ K):CWp c code ⟨env,hp⟩ K:=by
 rintro a w ⟨G,hr⟩
 obtain⟨h0,hocc⟩:=zev hf;have h0':getH hp j=none:=h0;have hbi:b≠i:=fun e=>by subst e;rw[hb] at hi;cases hi
 have hbj:b≠j:=fun e=>by subst e;rw[h0'] at hb;cases hb
 have hji:j≠i:=fun e=>by subst e;rw[h0'] at hi;cases hi
 have Ti:tokf hp i=some (n,k):=zaf.2 hi;let hp':Hp:=(b,some (.box (cs.set off (.gv j xs))))::(j,some (.tok n k))::(i,none)::hp
 let G':Gh:={ G with loc:=fun x=>bif Nat.beq x j then G.loc i else G.loc x }
 have lj:G'.loc j=G.loc i:=by simp[G']
 have lo:∀x,x≠j->G'.loc x=G.loc x:=fun x h=>by simp[G',zci h]
 have gb:getH hp' b=some (.box (cs.set off (.gv j xs))):=by simp[hp',zaa]
 have gj:getH hp' j=some (.tok n k):=by
  show getH ((b,_)::(j,some (.tok n k))::(i,none)::hp) j=_
  rw[zaa,if_neg (Ne.symm hbj),zaa,if_pos rfl]
 have gi:getH hp' i=none:=by
  show getH ((b,_)::(j,some (.tok n k))::(i,none)::hp) i=_
  rw[zaa,if_neg (Ne.symm hbi),zaa,if_neg (Ne.symm hji),zaa,if_pos rfl]
 have Tj:tokf hp' j=some (n,k):=zaf.2 gj;have Ti':tokf hp' i=none:=by unfold tokf;rw[gi]
 have Tb:tokf hp' b=none:=by unfold tokf;rw[gb]
 have sb:(getH hp b).isSome:=by rw[hb];rfl
 have si:(getH hp i).isSome:=by rw[hi];rfl
 have hturn:Turn c G ⟨env,hp⟩ w G' hp' [b,i,j]:=by
  refine⟨fun x hx=>?_,fun x hx=>?_,fun _ _=>rfl,fun _ _ h=>h,hr.top,fun x hx=>?_,fun x hx hs y hy=>?_,fun x hx y hy hxy h1 h2 z hz=>?_,fun x hx l hl=>?_⟩
  ·simp only[List.mem_cons,xau,or_false,not_or] at hx;show getH ((b,_)::(j,some (.tok n k))::(i,none)::hp) x=_
   rw[zaa,if_neg hx.1,zaa,if_neg hx.2.2,zaa,if_neg hx.2.1]
  ·simp only[List.mem_cons,xau,or_false,not_or] at hx;exact lo x hx.2.2
  ·simp only[List.mem_cons,xau,or_false] at hx;rcases hx with rfl|rfl|rfl
   ·exact .inr ⟨.inl (lo _ hbj),fun p hp=>by rw[Tb] at hp;cases hp⟩
   ·exact .inr ⟨.inl (lo _ (Ne.symm hji)),fun p hp=>by rw[Ti'] at hp;cases hp⟩
   ·exact .inl hocc
  ·simp only[List.mem_cons,xau,or_false] at hx;rcases hx with rfl|rfl|rfl
   ·exact⟨x,by simp,sb,by rw[lo _ hbj] at hy;exact hy⟩
   ·rw[gi] at hs;cases hs
   ·exact⟨i,by simp,si,by rw[lj] at hy;exact hy⟩
  ·simp only[List.mem_cons,xau,or_false] at hx hy;rcases hx with rfl|rfl|rfl
   ·rcases hy with rfl|rfl|rfl
    ·exact absurd I hxy
    ·rw[gi] at h2;cases h2
    ·rw[lo _ hbj] at hz;rw[lj];exact hr.disj _ _ sb si hbi z hz
   ·rw[gi] at h1;cases h1
   ·rcases hy with rfl|rfl|rfl
    ·rw[lj] at hz;rw[lo _ hbj];exact hr.disj _ _ si sb (Ne.symm hbi) z hz
    ·rw[gi] at h2;cases h2
    ·exact absurd I hxy
  ·simp only[List.mem_cons,xau,or_false] at hx;have hk:=hr.kept x l hl;rcases hx with rfl|rfl|rfl
   ·exact⟨by rw[lo _ hbj];exact hk.1,by rw[gb];rfl,Tb⟩
   ·have:=hk.2.2;rw[show tokf (St.mk env hp).hp x=some (n,k) from Ti] at this;cases this
   ·have:=hk.2.1;rw[show(St.mk env hp).hp=hp from rfl,h0'] at this;cases this
 obtain⟨bl,vs,e,e1,e2,e3,e4,e5⟩:=hr.heap b _ hb;refine hn a w ⟨G',hturn.fin hr (fun x hx r hxr=>?_)⟩;simp only[List.mem_cons,xau,or_false] at hx;rcases hx with rfl|rfl|rfl
 ·rw[gb] at hxr;cases hxr
  refine⟨bl,vs,e,(lo _ hbj).trans e1,e2,by rw[List.length_set];exact e3,e4,fun q hq hv=>?_⟩;have hq':q<cs.length:=by rw[List.length_set] at hq;exact hq
  rw[List.getElem_set];by_cases eo:off=q
  ·subst eo;rw[if_pos rfl];have hx:=e5 off hq' hv;rw[xan hq'] at hc;rw[Option.some.inj hc] at hx;exact hx.gv_move Ti I lj Tj
  ·rw[if_neg eo];exact hturn.cell hr hb (xao hq') (e5 q hq' hv)
 ·rw[gi] at hxr;cases hxr
 ·rw[gj] at hxr;cases hxr;intro y hy;rw[lj] at hy;exact hr.heap i _ hi y hy
end
section
variable {c:Ctx}{env:Env}{hp:Hp}{K:Kt}{code:Code}{ids:List Nat}
theorem xaE (b off id k:Nat){cs cs':List AV} (hb:getH hp b=some (.box cs)) (h:cs[off]?=some .nils) (hput:putC cs off [.gv id []]=some cs') (hf:zgA env hp id=true)
  (hn:CWp c code ⟨env,(b,some (.box cs'))::(id,some (.tok 0 k))::hp⟩ K):CWp c code ⟨env,hp⟩ K:=by
 intro a w hrel;obtain⟨G,hr⟩:=hrel;obtain⟨h0,hocc⟩:=zev hf;obtain⟨G',h1,h2⟩:=hr.mkTokV k h0 hocc;have hne:b≠id:=fun e=>by subst e;have h0':getH hp b=none:=h0;rw[h0'] at hb;cases hb
 have hb':getH ((id,some (Res.tok 0 k))::hp) b=some (.box cs):=by rw[zaa,if_neg hne];exact hb
 obtain⟨bl,vs,e,e1,e2,e3,e4,e5⟩:=h1.heap b _ hb';obtain⟨hlt,hv⟩:=List.getElem?_eq_some_iff.1 h;have hlv:off<vs.size:=by omega
 have hval:vs[off] = .slice none 0 0:=by
  have:=e5 off hlt hlv;rw[hv] at this;generalize vs[off]=v at *;cases this;rfl
 have hall:PreR G' (tokf ((id,some (.tok 0 k))::hp)) w cs' vs:=by
  obtain⟨p1,p2,p3⟩:=zbR hput;refine⟨by omega,fun i hi hvi=>?_⟩;have:=p3 i;rw[xan hi] at this;by_cases hio:i=off
  ·subst hio;rw[if_pos oe] at this;simp only[Nat.sub_self,List.getElem?_cons_zero,xae] at this;rw[this,hval];exact h2
  ·rw[if_neg ua] at this;have hic:i<cs.length:=by omega
   rw[xan hic] at this;rw[Option.some.inj this];exact e5 i hic hvi
 have:=h1.setBox (vs':=vs) hb' e1 e2 e4 hall;have hw:w.setRow bl vs=w:=setRow_self w bl vs e _ e2;rw[hw] at this;exact hn a w ⟨G',this⟩
theorem CWp.fixVC (b off id k:Nat){n:Nat}{xs:List (List D)}{cs:List AV} (hb:getH hp b=some (.box cs)) (hc:cs[off]?=some (.gv id xs)) (ht:getH hp id=some (.tok n k)) (hn:n=xs.length) (hx0:xs≠[])
  (hnx:CWp c code ⟨env,(b,some (.box (cs.set off (.ms id xs.length))))::(id,some (.box (xs.flatten.map .d)))::hp⟩ K):CWp c code ⟨env,hp⟩ K:=by
 rintro a w ⟨G,hr⟩
 subst hn;have hne:b≠id:=fun e=>by subst e;rw[hb] at ht;cases ht
 obtain⟨bl,vs,e,e1,e2,e3,e4,e5⟩:=hr.heap b _ hb;obtain⟨hlt,hcv⟩:=List.getElem?_eq_some_iff.1 hc;have hlv:off<vs.size:=by omega
 have h0:=e5 off hlt hlv;rw[hcv] at h0;obtain⟨hv0,hcl⟩:=h0.gv_inv;obtain⟨hkx,htip⟩:=(hcl _ _ (zaf.2 ht)).2 rfl;rcases htip with ⟨_,h2,_⟩|⟨b1,cap,us,et,h1,h2,h3,h4,h5,h6,h7⟩
 ·exact absurd (List.eq_nil_of_length_eq_zero h2) hx0
 have s1:(getH hp b).isSome:=by rw[hb];rfl
 have s2:(getH hp id).isSome:=by rw[ht];rfl
 let cs':List AV:=cs.set off (.ms id xs.length)
 let bx:List AV:=xs.flatten.map .d
 have g1:getH ((b,some (Res.box cs'))::(id,some (.box bx))::hp) b=some (.box cs'):=by rw[zaa,if_pos rfl]
 have g2:getH ((b,some (Res.box cs'))::(id,some (.box bx))::hp) id=some (.box bx):=by rw[zaa,if_neg (Ne.symm hne),zaa,if_pos rfl]
 have t1:tokf ((b,some (Res.box cs'))::(id,some (.box bx))::hp) b=none:=by unfold tokf;rw[g1]
 have t2:tokf ((b,some (Res.box cs'))::(id,some (.box bx))::hp) id=none:=by unfold tokf;rw[g2]
 have hturn:Turn c G ⟨env,hp⟩ w G ((b,some (.box cs'))::(id,some (.box bx))::hp) [b,id]:=by
  refine⟨fun i hi=>?_,fun _ _=>rfl,fun _ _=>rfl,fun _ _ h=>h,hr.top,fun i hi=> .inr ⟨.inl rfl, ?_⟩,fun i hi _ x hx=>?_,fun i hi j hj hij _ _ x hx=>?_,fun i hi l hl=>?_⟩
  ·simp only[List.mem_cons,xau,or_false,not_or] at hi;rw[zaa,if_neg hi.1,zaa,if_neg hi.2]
  ·simp only[List.mem_cons,xau,or_false] at hi;rcases hi with rfl|rfl
   ·intro p hp;rw[t1] at hp;cases hp
   ·intro p hp;rw[t2] at hp;cases hp
  ·simp only[List.mem_cons,xau,or_false] at hi;rcases hi with rfl|rfl
   ·exact⟨i,by simp,s1,hx⟩
   ·exact⟨i,by simp,s2,hx⟩
  ·simp only[List.mem_cons,xau,or_false] at hi hj;rcases hi with rfl|rfl<;>rcases hj with rfl|rfl
   ·exact absurd I hij
   ·exact hr.disj _ _ s1 s2 hij x hx
   ·exact hr.disj _ _ s2 s1 hij x hx
   ·exact absurd I hij
  ·simp only[List.mem_cons,xau,or_false] at hi;have hk0:=hr.kept i l hl;rcases hi with rfl|rfl
   ·exact⟨hk0.1,by rw[g1];rfl,t1⟩
   ·have:=hk0.2.2;rw[show(⟨env,hp⟩:St).hp=hp from rfl,zaf.2 ht] at this;cases this
 refine hnx a w ⟨G,hturn.fin hr (fun i hi r hri=>?_)⟩;simp only[List.mem_cons,xau,or_false] at hi;rcases hi with rfl|rfl
 ·rw[g1] at hri;cases hri
  refine⟨bl,vs,e,e1,e2,by show(cs.set off _).length<=_;rw[List.length_set];exact e3,e4,fun q hq hv=>?_⟩;have hq':q<cs.length:=by have:q<(cs.set off (AV.ms id xs.length)).length:=hq;rw[List.length_set] at this;exact this
  show RelA G _ w ((cs.set off (AV.ms id xs.length))[q]'_) _
  rw[List.getElem_set];by_cases eo:off=q
  ·subst eo;rw[if_pos rfl,h2];exact .ms (zgH h1) t2 h6
  ·rw[if_neg eo];exact hturn.cell hr hb (xao hq') (e5 q hq' hv)
 ·rw[g2] at hri;cases hri
  have hmul:xs.length*k+(cap-xs.length)*k=cap*k:=by rw[<-Nat.add_mul];congr 1;omega
  refine⟨b1,us,et,h1,h4, ?_,h3,fun j hj hv=>?_⟩
  ·show bx.length<=_
   rw[xac,zfp hkx];omega
  ·have hi':j<xs.length*k:=by rw[<-zfp hkx,<-xac (f:=AV.d)];exact hj
   have hlt':j<(xs.flatten.map AV.d).length:=hj;show RelA G _ w ((xs.flatten.map AV.d)[j]'_) _
   have hkpos:0<k:=by
    rcases Nat.eq_zero_or_pos k with h|h
    ·subst h;simp at hi'
    ·exact h
   have hq:j / k<xs.length:=Nat.div_lt_of_lt_mul (by rw[Nat.mul_comm];exact hi');have hrm:j % k<k:=Nat.mod_lt _ hkpos;have e1:=ziU hkx hq hrm;rw[Nat.div_add_mod'] at e1;rw[xan hlt'] at e1;rw[Option.some.inj e1];have h8:=h7 (j / k) hq (j % k) (by rw[hkx _ (xao hq)];exact hrm);rw[Nat.div_add_mod'] at h8;have e2:us.getD j undef=us[j]:=by simp[Array.getD,hv]
   rw[e2] at h8;exact .d h8
theorem CWp.dropVB (b off id k:Nat){n:Nat}{xs:List (List D)}{cs:List AV} (hb:getH hp b=some (.box cs)) (hc:cs[off]?=some (.gv id xs)) (ht:getH hp id=some (.tok n k)) (hn:n=xs.length) (hx0:xs=[])
  (hnx:CWp c code ⟨env,(b,some (.box (cs.set off (.d (.sl [])))))::(id,none)::hp⟩ K):CWp c code ⟨env,hp⟩ K:=by
 rintro a w ⟨G,hr⟩
 subst hn;have hne:b≠id:=fun e=>by subst e;rw[hb] at ht;cases ht
 obtain⟨bl,vs,e,e1,e2,e3,e4,e5⟩:=hr.heap b _ hb;obtain⟨hlt,hcv⟩:=List.getElem?_eq_some_iff.1 hc;have hlv:off<vs.size:=by omega
 have h0:=e5 off hlt hlv;rw[hcv] at h0;obtain⟨hv0,hcl⟩:=h0.gv_inv;obtain⟨hkx,htip⟩:=(hcl _ _ (zaf.2 ht)).2 rfl;have hval:RelD G.F w (.sl []) vs[off]:=by
  rcases htip with ⟨_,_,h2⟩|⟨b1,cap,us,et,h1,h2,h3,h4,h5,h6,h7⟩
  ·rw[h2];exact .nil
  ·rw[h2,hx0];exact .sl [] 0 b1 0 cap (fun _=>undef) oe (Nat.zero_le _) oe oe
 have s1:(getH hp b).isSome:=by rw[hb];rfl
 have s2:(getH hp id).isSome:=by rw[ht];rfl
 let cs':List AV:=cs.set off (.d (.sl []))
 have g1:getH ((b,some (Res.box cs'))::(id,none)::hp) b=some (.box cs'):=by rw[zaa,if_pos rfl]
 have g2:getH ((b,some (Res.box cs'))::(id,none)::hp) id=none:=by rw[zaa,if_neg (Ne.symm hne),zaa,if_pos rfl]
 have t1:tokf ((b,some (Res.box cs'))::(id,none)::hp) b=none:=by unfold tokf;rw[g1]
 have t2:tokf ((b,some (Res.box cs'))::(id,none)::hp) id=none:=by unfold tokf;rw[g2]
 have hturn:Turn c G ⟨env,hp⟩ w G ((b,some (.box cs'))::(id,none)::hp) [b,id]:=by
  refine⟨fun i hi=>?_,fun _ _=>rfl,fun _ _=>rfl,fun _ _ h=>h,hr.top,fun i hi=> .inr ⟨.inl rfl, ?_⟩,fun i hi _ x hx=>?_,fun i hi j hj hij _ _ x hx=>?_,fun i hi l hl=>?_⟩
  ·simp only[List.mem_cons,xau,or_false,not_or] at hi;rw[zaa,if_neg hi.1,zaa,if_neg hi.2]
  ·simp only[List.mem_cons,xau,or_false] at hi;rcases hi with rfl|rfl
   ·intro p hp;rw[t1] at hp;cases hp
   ·intro p hp;rw[t2] at hp;cases hp
  ·simp only[List.mem_cons,xau,or_false] at hi;rcases hi with rfl|rfl
   ·exact⟨i,by simp,s1,hx⟩
   ·exact⟨i,by simp,s2,hx⟩
  ·simp only[List.mem_cons,xau,or_false] at hi hj;rcases hi with rfl|rfl<;>rcases hj with rfl|rfl
   ·exact absurd I hij
   ·exact hr.disj _ _ s1 s2 hij x hx
   ·exact hr.disj _ _ s2 s1 hij x hx
   ·exact absurd I hij
  ·simp only[List.mem_cons,xau,or_false] at hi;have hk0:=hr.kept i l hl;rcases hi with rfl|rfl
   ·exact⟨hk0.1,by rw[g1];rfl,t1⟩
   ·have:=hk0.2.2;rw[show(⟨env,hp⟩:St).hp=hp from rfl,zaf.2 ht] at this;cases this
 refine hnx a w ⟨G,hturn.fin hr (fun i hi r hri=>?_)⟩;simp only[List.mem_cons,xau,or_false] at hi;rcases hi with rfl|rfl
 ·rw[g1] at hri;cases hri
  refine⟨bl,vs,e,e1,e2,by show(cs.set off _).length<=_;rw[List.length_set];exact e3,e4,fun q hq hv=>?_⟩;have hq':q<cs.length:=by have:q<(cs.set off (AV.d (.sl []))).length:=hq;rw[List.length_set] at this;exact this
  show RelA G _ w ((cs.set off (AV.d (.sl [])))[q]'_) _
  rw[List.getElem_set];by_cases eo:off=q
  ·subst eo;rw[if_pos rfl];exact .d hval
  ·rw[if_neg eo];exact hturn.cell hr hb (xao hq') (e5 q hq' hv)
 ·rw[g2] at hri;cases hri
end
structure Ext2 (P:Program) (f:FuncId) (x y v:D):Prop where
 run:∀(F:Nat->Nat) (w:World) (a b:Value),RelD F w x a->RelD F w y b->∃z,(callFunc f #[a,b]).run P w = .ok (.value z) w/\RelD F w v z
theorem Ext2.index {P:Program}{f:FuncId}{fn:Func} (hf:P.funcs[f]?=some fn) (hname:(fn.name == "runtime.NumGoroutine")=false)
  (hb:fn.body.isNone=true) (hn:Extern.findNext fn=none) (he:Extern.find fn=some Extern.BytealgIndexByte.indexByte){s:List UInt8}{b:UInt8}:
  Ext2 P f (.str s) (.int .u8 (b.toNat:Int)) (.i (Lib.indexByte s b)):=⟨fun F w x y h1 h2=>by
 cases h1;cases h2
 refine⟨_, ?_,.int _ _⟩;rw[run_callFunc_extern hf hname hb hn he,Lib.run_indexByteString];simp only[Result.andThen,Int.toNat_natCast];rw[show b.toNat.toUInt8=b from UInt8.ofNat_toNat]⟩
theorem Ext2.count {P:Program}{f:FuncId}{fn:Func} (hf:P.funcs[f]?=some fn) (hname:(fn.name == "runtime.NumGoroutine")=false)
  (hb:fn.body.isNone=true) (hn:Extern.findNext fn=none) (he:Extern.find fn=some Extern.BytealgCount.count){s:List UInt8}{b:UInt8}:
  Ext2 P f (.str s) (.int .u8 (b.toNat:Int)) (.i ((Lib.countByte s b:Nat):Int)):=⟨fun F w x y h1 h2=>by
 cases h1;cases h2
 refine⟨_, ?_,.int _ _⟩;rw[run_callFunc_extern hf hname hb hn he,Lib.run_countString];simp only[Result.andThen,Int.toNat_natCast];rw[show b.toNat.toUInt8=b from UInt8.ofNat_toNat]⟩
section
variable {c:Ctx}{all:Array Oper}{chk:List Rec->Prop}{os:List Oper}{recs:List Rec}{env:Env}{hp:Hp}{Q:St->Prop}
variable {d ty:Nat}{pos:String}{af:Array Edge}{g:Option (Nat×Bool)}{pg:List (Nat×AV)}
theorem RelA.d_rel {G:Gh}{T:TokF}{w:World}{x:D}{v:Value} (h:RelA G T w (.d x) v):RelD G.F w x v:=by
 cases h with|d h=>exact h
theorem Walk.ext2 {f:FuncId}{args:Array Operand}{ats:Array TypeId}{x y:Operand}{vx vy v:D} (hc:Ext2 c.P f vx vy v)
  (hargs:args = #[x,y]) (hg:GH all env g pg) (hd:Nat.blt d c.n=true) (hx:opd env x=some (.d vx)) (hy:opd env y=some (.d vy))
  (hn:Walk c all chk os (zal (pg++(opF x (.d vx)++opF y (.d vy))) [] [] ⟨some (d,.d v),[]⟩::recs) ⟨(d,.d v)::env,hp⟩ Q):
  Walk c all chk (⟨some d,.call ⟨.value (.func f),args,ats⟩,ty,pos,af,g⟩::os) recs ⟨env,hp⟩ Q:=by
 subst hargs;refine xbM hg hd hx hy (fun a G T w h1 h2=>?_) hn;obtain⟨z,hz,hr⟩:=hc.run G.F w _ _ h1.d_rel h2.d_rel;refine⟨z, ?_,.d hr⟩;have h3:(callFunc f (#[a.eval x,a.eval y]++#[])).run c.P w = .ok (.value z) w:=by simpa using hz
 simp only[execOp,resolve,Sem.run_bind,Act.eval,Deferred.ofValue,Sem.run_pure,Result.andThen_ok,invoke];simpa using h3
theorem xbs {f:FuncId}{args:Array Operand}{ats:Array TypeId}{x:Operand}{xs:List Operand}{caps vs avs:List AV}{hpc hp0:Hp}{r:AV} (tk cr:List Nat) (hc:Callee c.P f) (hf:FnD c.P f avs hpc r hp0)
  (hargs:args=xs.toArray) (hg:GH all env g pg) (hd:Nat.blt d c.n=true) (hfx:opd env x=some (.fn f caps)) (hx:opdL env xs=some vs) (hle:LeL (vs++caps) avs) (hsub:subH hpc hp) (hok:zjA hpc hp0 r tk cr=true)
  (hcr:(cr.all fun i=>zgA env hp i)=true)
  (hn:Walk c all chk os (zal (pg++(opF x (.fn f caps)++opFL xs vs)) (hpF hpc) cr ⟨some (d,r),hp0⟩::recs) ⟨(d,r)::env,hp0++hp⟩ Q):
  Walk c all chk (⟨some d,.call ⟨.value x,args,ats⟩,ty,pos,af,g⟩::os) recs ⟨env,hp⟩ Q:=by
 subst hargs;refine⟨pg++(opF x (.fn f caps)++opFL xs vs),hpF hpc,cr,_, ?_,zaq hg.facts (zaq (zaO hfx) (zbX hx)),zfg hsub,fun id hi=>zev (List.all_eq_true.1 hcr id hi),hn⟩;intro s a w hrel hp' hh hcr' K Q' hK;obtain⟨G,hr⟩:=hrel;have hfr:=hr.opd (zaR hfx (fun p hm=>hp' p (by simp[hm])));obtain⟨us,hfe,hus,hur⟩:=hfr.fn_eq;have hrl:=zcT hr (zcc hx (fun p hm=>hp' p (by simp[hm])));have hall:AllR G (tokf s.hp) w avs ((xs.map a.eval).toArray++us):=by
  have hlen:=hle.len;simp only[xaa] at hlen;refine⟨by simp[<-hlen,hrl.1,hus],fun i hi hv=>?_⟩;have h1:i<(vs++caps).length:=by rw[hle.len];exact hi
  have hA:=LeL.get hle i h1 hi;by_cases hiv:i<vs.length
  ·have h2:=hrl.2 i hiv (by rw[<-hrl.1];exact hiv);have e1:(vs++caps)[i]=vs[i]:=List.getElem_append_left hiv;rw[e1] at hA;have e2:((xs.map a.eval).toArray++us)[i]=a.eval (xs[i]'(by rw[<-hrl.1];exact hiv)):=by
    rw[Array.getElem_append_left (by simp;rw[<-hrl.1];exact hiv)];simp
   rw[e2];exact h2.le hA
  ·have hic:i-vs.length<caps.length:=by simp only[xaa] at h1;omega
   have e1:(vs++caps)[i]=caps[i-vs.length]:=List.getElem_append_right od;rw[e1] at hA;have e2:((xs.map a.eval).toArray++us)[i]=us[i-vs.length]' od:=by
    rw[Array.getElem_append_right om];simp[hrl.1]
   rw[e2];exact(hur _ hic od).le hA
 have hcalls:=zkQ hr hf hall (fun id x hx=>hh (id,x) (zgn (zcz hx))) tk cr hcr' hok;unfold wpO;rw[if_pos (hg.gf.wanted hr (fun p hm=>hp' p (by simp[hm])))];unfold Oper.wp;have hrun:(execOp a.eval ⟨some d,.call ⟨.value x,xs.toArray,ats⟩,ty,pos,af,g⟩).run c.P w = .ok (.enter f ((xs.map a.eval).toArray++us)) w:=by
  have:=hc.run ((xs.map a.eval).toArray++us) w;simp only[execOp,resolve,Sem.run_bind,hfe,Deferred.ofValue,Sem.run_pure,Result.andThen_ok,invoke];simpa using this
 rw[hrun,Oper.upon_enter];refine hcalls.mono ?_;rintro e w' ⟨v,rfl,G',hR,hA⟩
 exact hK _ _ ⟨G',hR.put hA hd⟩
end
theorem zsp (n m:Nat):¬zaH n+1=zaH m:=by unfold zaH;omega
theorem zrl {n m:Nat} (h:zaH n=zaH m):n=m:=by unfold zaH at h;omega
section
variable {c:Ctx}{env:Env}{hp:Hp}{K:Kt}{code:Code}{ids:List Nat}
theorem R.tokMoveN {G:Gh}{a:Act}{w:World} (hr:R c G ⟨env,hp⟩ a w){i j n k:Nat} (n2 k2:Nat) (hi:getH hp i=some (.tok n k)) (h0:getH hp j=none) (hocc:zcI j ⟨env,hp⟩):
  ∃G',R c G' ⟨env,(j,some (.tok n2 k2))::(i,none)::hp⟩ a w/\G'.F=G.F/\G'.loc j=G.loc i/\∀x,x≠j->G'.loc x=G.loc x:=by
 have hji:j≠i:=fun e=>by subst e;rw[h0] at hi;cases hi
 have Ti:tokf hp i=some (n,k):=zaf.2 hi;let hp':Hp:=(j,some (.tok n2 k2))::(i,none)::hp
 let G':Gh:={ G with loc:=fun x=>bif Nat.beq x j then G.loc i else G.loc x }
 have lj:G'.loc j=G.loc i:=by simp[G']
 have lo:∀x,x≠j->G'.loc x=G.loc x:=fun x h=>by simp[G',zci h]
 have gj:getH hp' j=some (.tok n2 k2):=by
  show getH ((j,some (.tok n2 k2))::(i,none)::hp) j=_
  rw[zaa,if_pos rfl]
 have gi:getH hp' i=none:=by
  show getH ((j,some (.tok n2 k2))::(i,none)::hp) i=_
  rw[zaa,if_neg (Ne.symm hji),zaa,if_pos rfl]
 have Ti':tokf hp' i=none:=by unfold tokf;rw[gi]
 have si:(getH hp i).isSome:=by rw[hi];rfl
 have hturn:Turn c G ⟨env,hp⟩ w G' hp' [i,j]:=by
  refine⟨fun x hx=>?_,fun x hx=>?_,fun _ _=>rfl,fun _ _ h=>h,hr.top,fun x hx=>?_,fun x hx hs y hy=>?_,fun x hx y hy hxy h1 h2 z hz=>?_,fun x hx l hl=>?_⟩
  ·simp only[List.mem_cons,xau,or_false,not_or] at hx;show getH ((j,_)::(i,none)::hp) x=_
   rw[zaa,if_neg hx.2,zaa,if_neg hx.1]
  ·simp only[List.mem_cons,xau,or_false,not_or] at hx;exact lo x hx.2
  ·simp only[List.mem_cons,xau,or_false] at hx;rcases hx with rfl|rfl
   ·exact .inr ⟨.inl (lo _ (Ne.symm hji)),fun p hp=>by rw[Ti'] at hp;cases hp⟩
   ·exact .inl hocc
  ·simp only[List.mem_cons,xau,or_false] at hx;rcases hx with rfl|rfl
   ·rw[gi] at hs;cases hs
   ·exact⟨i,by simp,si,by rw[lj] at hy;exact hy⟩
  ·simp only[List.mem_cons,xau,or_false] at hx hy;rcases hx with rfl|rfl
   ·rw[gi] at h1;cases h1
   ·rcases hy with rfl|rfl
    ·rw[gi] at h2;cases h2
    ·exact absurd I hxy
  ·simp only[List.mem_cons,xau,or_false] at hx;have hk:=hr.kept x l hl;rcases hx with rfl|rfl
   ·have:=hk.2.2;rw[show tokf (St.mk env hp).hp x=some (n,k) from Ti] at this;cases this
   ·have:=hk.2.1;rw[show(St.mk env hp).hp=hp from rfl,h0] at this;cases this
 refine⟨G',hturn.fin hr (fun x hx r hxr=>?_),rfl,lj,lo⟩;simp only[List.mem_cons,xau,or_false] at hx;rcases hx with rfl|rfl
 ·rw[gi] at hxr;cases hxr
 ·rw[gj] at hxr;cases hxr;intro y hy;rw[lj] at hy;exact hr.heap i _ hi y hy
theorem RelA.gh_hole {G:Gh}{T:TokF}{w:World}{id k m:Nat}{xs:List (List D)}{v:Value} (h:RelA G T w (.gh id xs) v) (hT:T id=some (m,k)) (he:m=zaH xs.length\/m=zaH xs.length+1):Hole G w id k v xs:=by
 cases h with|gh hv h=>exact h m k hT he
theorem RelA.gp_at {G:Gh}{T:TokF}{w:World}{id k n off len:Nat}{js:List Nat}{cs:List AV}{v:Value} (h:RelA G T w (.gp id n off len js cs) v) (hT:T id=some (n,k)):
  ∃b us e,v = .pointer (some ⟨b,off,none⟩)/\(G.loc id).head?=some b/\G.F b=0/\w.heap[b]?=some (.cells us e (0,0))/\off+len<=us.size/\∀i (hi:i<cs.length) (hv:off+i<us.size),RelA G T w cs[i] us[off+i]:=by
 cases h with
 |gpD hv hT'=>exact absurd (hT' n k hT) (Nat.lt_irrefl _)
 |gpL hj hT' hl hF hb hs hr=>exact⟨_,_,_,rfl,hl,hF,hb,hs,hr⟩
theorem ztF {G G':Gh}{T T':TokF}{w:World}{id id2 k m:Nat}{js:List Nat}{xs:List (List D)}{ys:List D}{v u:Value} (hk:ys.length=k) (h1:Hole G w id k v xs) (h2:RelA G T w (.gp id m (xs.length*k) k js (ys.map .d)) u) (hTi:T id=some (m,k)) (hF:G'.F=G.F) (hl:G'.loc id2=G.loc id) (hT:T' id2=some (xs.length+1,k)):
  RelA G' T' w (.gv id2 (xs++[ys])) v:=by
 obtain⟨hkx,b,cap,cs,e,p1,p2,p3,p4,p5,p6,p7⟩:=h1;obtain⟨b',us,e',_,q1,q4,q3,q5,q6⟩:=h2.gp_at hTi;rw[p1] at q1;cases q1;rw[p4] at q3;cases q3;refine .gv ⟨_,cap,by rw[p2,xaa];rfl⟩ (fun m k' hm=>?_);rw[hT] at hm;cases hm;refine⟨by simp,fun _=>⟨fun x hx=>?_,.inr ⟨b,cap,cs,e,hl.trans p1,p2,by rw[hF];exact p3,p4,p5,p6,fun i hi j hj=>?_⟩⟩⟩
 ·rcases List.mem_append.1 hx with h|h
  ·exact hkx x h
  ·rw[List.mem_singleton.1 h];exact hk
 ·rw[hF];by_cases hin:i<xs.length
  ·have e1:(xs++[ys])[i]=xs[i]:=List.getElem_append_left hin;have:=p7 i hin j (by rw[<-e1];exact hj);simp only[e1];exact this
  ·have ei:i=xs.length:=by simp at hi;omega
   subst ei;have e1:(xs++[ys])[xs.length]=ys:=by simp
   have hj':j<ys.length:=by rw[<-e1];exact hj
   have hlt:xs.length*k+j<cs.size:=by omega
   have:=(q6 j (by rw[xac];exact hj') hlt);rw[List.getElem_map] at this;simp only[e1];have e2:cs.getD (xs.length*k+j) undef=cs[xs.length*k+j]:=by simp[Array.getD,hlt]
   rw[e2];exact this.d_inv
theorem Rel.holeGv (b t0 off i j:Nat){a:Act}{w:World}{k:Nat}{js:List Nat}{xs:List (List D)} (ys:List D){cs:List AV} (hb:getH hp b=some (.box cs)) (hc:cs[off]?=some (.gh i xs)) (ht:getE env t0=some (.gp i (zaH xs.length+1) (xs.length*k) k js (ys.map .d))) (hk:ys.length=k)
  (hi:getH hp i=some (.tok (zaH xs.length+1) k)) (hf:zgA env hp j=true)
  (hrel:Rel c ⟨env,hp⟩ a w):Rel c ⟨env,(b,some (.box (cs.set off (.gv j (xs++[ys])))))::(j,some (.tok (xs.length+1) k))::(i,none)::hp⟩ a w:=by
 obtain⟨G,hr⟩:=hrel;obtain⟨h0,hocc⟩:=zev hf;have h0':getH hp j=none:=h0;have hbi:b≠i:=fun e=>by subst e;rw[hb] at hi;cases hi
 have hbj:b≠j:=fun e=>by subst e;rw[h0'] at hb;cases hb
 have hji:j≠i:=fun e=>by subst e;rw[h0'] at hi;cases hi
 have Ti:tokf hp i=some (zaH xs.length+1,k):=zaf.2 hi;let hp':Hp:=(b,some (.box (cs.set off (.gv j (xs++[ys])))))::(j,some (.tok (xs.length+1) k))::(i,none)::hp
 let G':Gh:={ G with loc:=fun x=>bif Nat.beq x j then G.loc i else G.loc x }
 have lj:G'.loc j=G.loc i:=by simp[G']
 have lo:∀x,x≠j->G'.loc x=G.loc x:=fun x h=>by simp[G',zci h]
 have gb:getH hp' b=some (.box (cs.set off (.gv j (xs++[ys])))):=by simp[hp',zaa]
 have gj:getH hp' j=some (.tok (xs.length+1) k):=by
  show getH ((b,_)::(j,some (.tok (xs.length+1) k))::(i,none)::hp) j=_
  rw[zaa,if_neg (Ne.symm hbj),zaa,if_pos rfl]
 have gi:getH hp' i=none:=by
  show getH ((b,_)::(j,some (.tok (xs.length+1) k))::(i,none)::hp) i=_
  rw[zaa,if_neg (Ne.symm hbi),zaa,if_neg (Ne.symm hji),zaa,if_pos rfl]
 have Tj:tokf hp' j=some (xs.length+1,k):=zaf.2 gj;have Ti':tokf hp' i=none:=by unfold tokf;rw[gi]
 have Tb:tokf hp' b=none:=by unfold tokf;rw[gb]
 have sb:(getH hp b).isSome:=by rw[hb];rfl
 have si:(getH hp i).isSome:=by rw[hi];rfl
 have hturn:Turn c G ⟨env,hp⟩ w G' hp' [b,i,j]:=by
  refine⟨fun x hx=>?_,fun x hx=>?_,fun _ _=>rfl,fun _ _ h=>h,hr.top,fun x hx=>?_,fun x hx hs y hy=>?_,fun x hx y hy hxy h1 h2 z hz=>?_,fun x hx l hl=>?_⟩
  ·simp only[List.mem_cons,xau,or_false,not_or] at hx;show getH ((b,_)::(j,some (.tok (xs.length+1) k))::(i,none)::hp) x=_
   rw[zaa,if_neg hx.1,zaa,if_neg hx.2.2,zaa,if_neg hx.2.1]
  ·simp only[List.mem_cons,xau,or_false,not_or] at hx;exact lo x hx.2.2
  ·simp only[List.mem_cons,xau,or_false] at hx;rcases hx with rfl|rfl|rfl
   ·exact .inr ⟨.inl (lo _ hbj),fun p hp=>by rw[Tb] at hp;cases hp⟩
   ·exact .inr ⟨.inl (lo _ (Ne.symm hji)),fun p hp=>by rw[Ti'] at hp;cases hp⟩
   ·exact .inl hocc
  ·simp only[List.mem_cons,xau,or_false] at hx;rcases hx with rfl|rfl|rfl
   ·exact⟨x,by simp,sb,by rw[lo _ hbj] at hy;exact hy⟩
   ·rw[gi] at hs;cases hs
   ·exact⟨i,by simp,si,by rw[lj] at hy;exact hy⟩
  ·simp only[List.mem_cons,xau,or_false] at hx hy;rcases hx with rfl|rfl|rfl
   ·rcases hy with rfl|rfl|rfl
    ·exact absurd I hxy
    ·rw[gi] at h2;cases h2
    ·rw[lo _ hbj] at hz;rw[lj];exact hr.disj _ _ sb si hbi z hz
   ·rw[gi] at h1;cases h1
   ·rcases hy with rfl|rfl|rfl
    ·rw[lj] at hz;rw[lo _ hbj];exact hr.disj _ _ si sb (Ne.symm hbi) z hz
    ·rw[gi] at h2;cases h2
    ·exact absurd I hxy
  ·simp only[List.mem_cons,xau,or_false] at hx;have hk:=hr.kept x l hl;rcases hx with rfl|rfl|rfl
   ·exact⟨by rw[lo _ hbj];exact hk.1,by rw[gb];rfl,Tb⟩
   ·have:=hk.2.2;rw[show tokf (St.mk env hp).hp x=some (zaH xs.length+1,k) from Ti] at this;cases this
   ·have:=hk.2.1;rw[show(St.mk env hp).hp=hp from rfl,h0'] at this;cases this
 obtain⟨bl,vs,e,e1,e2,e3,e4,e5⟩:=hr.heap b _ hb;have hat:=hr.slots t0 _ ht;refine⟨G',hturn.fin hr (fun x hx r hxr=>?_)⟩;simp only[List.mem_cons,xau,or_false] at hx;rcases hx with rfl|rfl|rfl
 ·rw[gb] at hxr;cases hxr
  refine⟨bl,vs,e,(lo _ hbj).trans e1,e2,by rw[List.length_set];exact e3,e4,fun q hq hv=>?_⟩;have hq':q<cs.length:=by rw[List.length_set] at hq;exact hq
  rw[List.getElem_set];by_cases eo:off=q
  ·subst eo;rw[if_pos rfl];have hx:=e5 off hq' hv;rw[xan hq'] at hc;rw[Option.some.inj hc] at hx;exact ztF hk (hx.gh_hole Ti (.inr I)) hat Ti I lj Tj
  ·rw[if_neg eo];exact hturn.cell hr hb (xao hq') (e5 q hq' hv)
 ·rw[gi] at hxr;cases hxr
 ·rw[gj] at hxr;cases hxr;intro y hy;rw[lj] at hy;exact hr.heap i _ hi y hy
theorem CWp.thn {x:Code}{s:St} (h:CWp c x s (K.with fun s'=>∀a w,Rel c s' a w->∃s2,Rel c s2 a w/\K.n s2)):CWp c x s K:=by
 intro a w hr;refine wp_mono (h a w hr) ?_;intro e a' w' hq;cases e with
 |normal=>
  obtain⟨s',hr',hn⟩:=hq;exact hn a' w' hr'
 |exit id=>exact hq
 |ret=>exact hq
 |goto l=>exact hq.elim
 |panic ch=>exact hq.elim
 |outgrown=>exact hq.elim
end
section
variable {c:Ctx}{all:Array Oper}{chk:List Rec->Prop}{os:List Oper}{recs:List Rec}{env:Env}{hp:Hp}{Q:St->Prop}
variable {d ty:Nat}{pos:String}{af:Array Edge}{g:Option (Nat×Bool)}{pg:List (Nat×AV)}{t yt:TypeId}{x y:Operand}
theorem Walk.appendH {id k e yb:Nat}{xs:List (List D)}{z:List D}{vy:AV} (id2:Nat) (ht:SlT c.P t e k yb) (hz:ZeroT c.P e k) (hg:GH all env g pg) (hd:Nat.blt d c.n=true)
  (hx:opd env x=some (.gv id xs)) (hy:opd env y=some vy) (hyd:vy.toD=some (.sl [z])) (htok:getH hp id=some (.tok xs.length k)) (hkz:z.length=k)
  (hb:(xs.length+1)*yb<=140737488355328) (hm:xs.length+1<=9223372036854775807) (hfr:zaz env hp [id2]=true) (hid2:Nat.beq id2 id=false)
  (hn:Walk c all chk os (zal (pg++(opF x (.gv id xs)++opF y vy)) [(id,.tok xs.length k)] [id2] ⟨some (d,.gh id2 xs),[(id2,some (.tok (zaH xs.length) k)),(id,none)]⟩::recs)
   ⟨(d,.gh id2 xs)::env,(id2,some (.tok (zaH xs.length) k))::(id,none)::hp⟩ Q):
  Walk c all chk (⟨some d,.call ⟨.builtin .append,#[x,y],#[t,t]⟩,ty,pos,af,g⟩::os) recs ⟨env,hp⟩ Q:=by
 refine⟨pg++(opF x (.gv id xs)++opF y vy),[(id,.tok xs.length k)],[id2],_, ?_,zaq hg.facts (zaq (zaO hx) (zaO hy)),hh1 htok,zbf hfr,hn⟩;intro s a w hrel hp' hh hcr K Q' hK;obtain⟨f0,focc⟩:=hcr id2 oe;obtain⟨G,hr⟩:=hrel;have hne2:id2≠id:=fun e=>by subst e;simp at hid2
 have e1:=hr.opd (zaR hx (fun p hm=>hp' p (by simp[hm])));have e2:=hr.opd (zaR hy (fun p hm=>hp' p (by simp[hm])));obtain⟨i,z0,z1,z2,z3⟩:=hz.out;obtain⟨v',w',G',hrun,hR,hA⟩:=ziG hr ht ⟨i,z1,z2,z3⟩ (hh1' hh) e1 (e2.toD hyd) (by intro y hy;rw[List.mem_singleton.1 hy];exact hkz) (by simpa using hb) (by simpa using hm) ty;unfold wpO;rw[if_pos (hg.gf.wanted hr (fun p hm=>hp' p (by simp[hm])))];unfold Oper.wp;have:(execOp a.eval ⟨some d,.call ⟨.builtin .append,#[x,y],#[t,t]⟩,ty,pos,af,g⟩).run c.P w = .ok (.value v') w':=by
  simp only[execOp,resolve,invoke,builtin,Sem.run_bind,Sem.run_pure,Result.andThen_ok,List.map_toArray,xaf,List.map_nil,hrun]
 rw[this,Oper.upon_value];have hT:tokf ((id,some (Res.tok (xs.length+[z].length) k))::s.hp) id=some (xs.length+1,k):=zaf.2 (by rw[zaa,if_pos rfl];rfl);obtain⟨⟨ad,cap0,hv0⟩,hcl⟩:=hA.gv_inv;obtain⟨hkx,htip⟩:=(hcl _ _ hT).2 oe;obtain⟨G2,q1,q2,q3,_⟩:=hR.tokMoveN (j:=id2) (zaH xs.length) k o6 (by show getH ((id,_)::s.hp) id2=none;rw[zaa,if_neg hne2];exact f0) ⟨focc.1,fun j r hj=>by
  have hj':getH ((id,some (Res.tok (xs.length+[z].length) k))::s.hp) j=some r:=hj;rw[zaa] at hj';split at hj'
  ·cases hj';simp[Res.ids]
  ·exact focc.2 j r hj'⟩
 have hgh:RelA G2 (tokf ((id2,some (.tok (zaH xs.length) k))::(id,none)::(id,some (.tok (xs.length+[z].length) k))::s.hp)) w' (.gh id2 xs) v':=by
  refine .gh ⟨ad,cap0,by rw[hv0,xaa];rfl⟩ (fun m k' hm he=>?_);rw[show tokf ((id2,some (Res.tok (zaH xs.length) k))::(id,none)::(id,some (Res.tok (xs.length+[z].length) k))::s.hp) id2=some (zaH xs.length,k) from zaf.2 o6] at hm;cases hm
  rcases htip with ⟨_,h2,_⟩|⟨b,cap,cs,et,h1,h2,h3,h4,h5,h6,h7⟩
  ·omega
  refine⟨fun x hx=>hkx x (by simp[hx]),b,cap,cs,et,q3.trans h1,h2,by rw[q2];exact h3,h4,h5,h6,fun i hi j hj=>?_⟩;have e1:(xs++[z])[i]' om=xs[i]:=List.getElem_append_left hi;have:=h7 i om j (by rw[e1];exact hj);simp only[e1] at this;rw[q2];exact this
 refine hK _ _ (Rel.congr ⟨G2,q1.put hgh hd⟩ (fun j=>rfl) (fun j=>?_));show getH ((id2,_)::(id,none)::s.hp) j=getH ((id2,_)::(id,none)::(id,_)::s.hp) j
 rw[zaa,zaa,zaa,zaa,zaa];by_cases h1:j=id2
 ·rw[if_pos h1,if_pos h1]
 ·rw[if_neg h1,if_neg h1];by_cases h2:j=id
  ·rw[if_pos h2,if_pos h2]
  ·rw[if_neg h2,if_neg h2,if_neg h2]
theorem Walk.idxH {id e k yb:Nat}{xs:List (List D)}{kd:IntKind}{n:Int} (ht:SlT c.P t e k yb) (hg:GH all env g pg) (hd:Nat.blt d c.n=true)
  (hx:opd env x=some (.gh id xs)) (hy:opd env y=some (.d (.int kd n))) (htok:getH hp id=some (.tok (zaH xs.length) k)) (hi:n = ↑xs.length)
  (hn:Walk c all chk os (zal (pg++(opF x (.gh id xs)++opF y (.d (.int kd n)))) [(id,.tok (zaH xs.length) k)] [] ⟨some (d,.gp id (zaH xs.length) (xs.length*k) k [] []),[]⟩::recs) ⟨(d,.gp id (zaH xs.length) (xs.length*k) k [] [])::env,hp⟩ Q):
  Walk c all chk (⟨some d,.indexAddr t x y,ty,pos,af,g⟩::os) recs ⟨env,hp⟩ Q:=by
 refine⟨pg++(opF x (.gh id xs)++opF y (.d (.int kd n))),[(id,.tok (zaH xs.length) k)],[],_, ?_,zaq hg.facts (zaq (zaO hx) (zaO hy)),hh1 htok,by simp,hn⟩;intro s a w hrel hp' hh _ K Q' hK;obtain⟨G,hr⟩:=hrel;have hT:tokf s.hp id=some (zaH xs.length,k):=zaf.2 (hh1' hh);have e1:=hr.opd (zaR hx (fun p hm=>hp' p (by simp[hm])));have e2:=hr.opd (zaR hy (fun p hm=>hp' p (by simp[hm])));obtain⟨hkx,b,cap,cs,et,h1,h2,h3,h4,h5,h6,h7⟩:=e1.gh_hole hT (.inl rfl);unfold wpO;rw[if_pos (hg.gf.wanted hr (fun p hm=>hp' p (by simp[hm])))];unfold Oper.wp;have:(execOp a.eval ⟨some d,.indexAddr t x y,ty,pos,af,g⟩).run c.P w = .ok (.value (.pointer (some ⟨b,0+xs.length*k,none⟩))) w:=by
  simp only[execOp,h2,e2.int_eq,hi,Sem.run_bind,zem ht (show xs.length<xs.length+1 by omega),Result.andThen_ok,Sem.run_pure]
 rw[this,Oper.upon_value];refine hK _ _ ⟨G,hr.put (v:= .gp id (zaH xs.length) (xs.length*k) k [] []) (by
  rw[Nat.zero_add];refine .gpL (by simp[AV.idsL]) hT (by rw[h1];rfl) h3 h4 ?_ (fun i hi=>by simp at hi);have h8:(xs.length+1)*k<=cap*k:=xav _ h6;rw[Nat.add_mul,Nat.one_mul] at h8;exact Nat.le_trans h8 h5) hd⟩
theorem Walk.putH {id n k t0:Nat}{b0:Bool}{v:AV}{vs:List AV} (js:List Nat) (ht:TyS c.P t k b0) (hg:GH all env g pg) (hxt:x = .tmp t0)
  (hx:opd env x=some (.gp id (zaH n) (n*k) k [] [])) (hy:opd env y=some v) (htok:getH hp id=some (.tok (zaH n) k)) (hv:zbh v=some vs) (hk:vs.length=k) (ho:zgs vs=true) (hne:vs≠[]) (hjs:(AV.idsL vs).all (zaB · js)=true)
  (hn:Walk c all chk os (zal (pg++(opF x (.gp id (zaH n) (n*k) k [] [])++opF y v)) [(id,.tok (zaH n) k)] [] ⟨some (t0,.gp id (zaH n+1) (n*k) k js vs),[(id,some (.tok (zaH n+1) k))]⟩::recs)
   ⟨(t0,.gp id (zaH n+1) (n*k) k js vs)::env,(id,some (.tok (zaH n+1) k))::hp⟩ Q):
  Walk c all chk (⟨none,.store t x y,ty,pos,af,g⟩::os) recs ⟨env,hp⟩ Q:=by
 subst hxt;refine⟨pg++(opF (.tmp t0) (.gp id (zaH n) (n*k) k [] [])++opF y v),[(id,.tok (zaH n) k)],[],_, ?_,zaq hg.facts (zaq (zaO hx) (zaO hy)),hh1 htok,by simp,hn⟩;intro s a w hrel hp' hh _ K Q' hK;obtain⟨G,hr⟩:=hrel;have hbx:=hh1' hh;have hT:tokf s.hp id=some (zaH n,k):=zaf.2 hbx;have s0:getE s.env t0=some (.gp id (zaH n) (n*k) k [] []):=hp' (t0,_) (by simp[opF]);have e1:=hr.slots t0 _ s0;have e2:=hr.opd (zaR hy (fun p hm=>hp' p (by simp[hm])));obtain⟨b,us,e,he,h1,h4,h3,h5,_⟩:=e1.gp_at hT;have hbm:b∈G.loc id:=by
  cases hq:G.loc id with
  |nil=>rw[hq] at h1;cases h1
  |cons x r=>rw[hq] at h1;cases h1;simp
 have he':a.eval (.tmp t0) = .pointer (some ⟨b,n*k,none⟩):=he;have hvr:=zeY e2 hv;have hsz:=hvr.size;let vl:=(a.eval y).cells.toList
 have hvl:vl.length=vs.length:=by simp only[vl,Array.length_toList];exact hsz
 have hst:=run_storeCells_at c.P b (n*k) e vl 0 us w h3 od (fun u hu=>by
  obtain⟨j,hj,rfl⟩:=List.getElem_of_mem hu;have hj':j<vs.length:=by omega
  have:=hvr.rel j hj' (by simpa [vl] using hj);simpa [vl] using this.one (zf3 ho _ (xao hj')))
 simp only[Nat.add_zero] at hst;let row:Array Value:=(us.toList.take (n*k)++vl++us.toList.drop (n*k+vl.length)).toArray
 have hrs:row.size=us.size:=by
  simp only[row,List.size_toArray,xaa,List.length_take,List.length_drop,Array.length_toList];omega
 have hother:∀q,q≠b->(w.setRow b row).heap[q]?=w.heap[q]?:=fun q hq=>setRow_other w b q row hq;have hcell:∀b' o,o<G.F b'->o<G.F b'/\(w.setRow b row).cell? ⟨b',o,none⟩=w.cell? ⟨b',o,none⟩:=fun b' o ho=>by
  have hne:b'≠b:=fun e=>by subst e;rw[h4] at ho;omega
  exact⟨ho,cell_setRow_other w b row _ hne⟩
 have hnew:(w.setRow b row).heap[b]?=some (.cells row e (0,0)):=setRow_heap w b us row e _ h3;have hbound:∀i r,getH s.hp i=some r->∀b,b∈G.loc i->b<w.heap.size:=fun i r h=>(hr.heap i r h).bound;have hlow:∀q,q<n*k->row.getD q undef=us.getD q undef:=fun q hq=>by
  have h1:q<us.size:=by omega
  have h2:q<row.size:=by omega
  have e1:row.getD q undef=row[q]:=by simp[Array.getD,h2]
  have e2:us.getD q undef=us[q]:=by simp[Array.getD,h1]
  rw[e1,e2];simp only[row,List.getElem_toArray];rw[List.getElem_append_left om,List.getElem_append_left om,List.getElem_take,Array.getElem_toList]
 have hmid:∀j (hj2:j<vl.length) (h2:n*k+j<row.size),row[n*k+j]=vl[j]:=fun j hj2 h2=>by
  simp only[row,List.getElem_toArray];have hm:min (n*k) us.size=n*k:=by omega
  rw[List.getElem_append_left om,List.getElem_append_right om];simp only[List.length_take,Array.length_toList,hm,Nat.add_sub_cancel_left]
 have hT1:tokf ((id,some (Res.tok (zaH n+1) k))::s.hp) id=some (zaH n+1,k):=zaf.2 o6;have hT2:∀i,i≠id->tokf ((id,some (Res.tok (zaH n+1) k))::s.hp) i=tokf s.hp i:=fun i hi=>by
  unfold tokf;rw[zaa,if_neg hi]
 have hpar:∀(m:Nat),(zaH n+1=zaH m\/zaH n+1=zaH m+1)->n=m/\zaH n=zaH m:=fun m he=>by
  rcases he with he|he
  ·exact absurd he (zsp _ _)
  ·have:zaH n=zaH m:=by omega
   exact⟨zrl this,this⟩
 have hgh:(∀xs v,RelA G (tokf s.hp) w (.gh id xs) v->RelA G (tokf ((id,some (.tok (zaH n+1) k))::s.hp)) (w.setRow b row) (.gh id xs) v)/\∀xs v,RelA G (tokf s.hp) w (.ght id xs) v->RelA G (tokf ((id,some (.tok (zaH n+1) k))::s.hp)) (w.setRow b row) (.ght id xs) v:=by
  refine⟨fun xs v hx=>?_,fun xs v hx=>?_⟩
  ·cases hx with
   |gh hv0 hgh=>
    refine .gh hv0 (fun m k' hm he=>?_);rw[hT1] at hm;cases hm;obtain⟨hxl,hxn⟩:=hpar _ he;obtain⟨r1,b2,cap,cs,e2,r2,r3,r4,r5,r6,r7,r8⟩:=hgh _ _ hT (.inl hxn);rw[r2] at h1;cases h1;rw[h3] at r5;cases r5;refine⟨r1,b,cap,row,e,r2,r3,h4,hnew,by rw[hrs];exact r6,r7,fun i hi j hj=>?_⟩;have hq:i*k+j<n*k:=by rw[hxl];exact zcY hi (by rw[<-r1 _ (xao hi)];exact hj)
    rw[hlow _ hq];exact(r8 i hi j hj).mono hcell
  ·cases hx with
   |ght hv0 hgh=>
    refine .ght hv0 (fun m k' hm he=>?_);rw[hT1] at hm;cases hm;obtain⟨hxl,hxn⟩:=hpar _ he;obtain⟨r1,b2,cap,cs,e2,Ss,extra,r2,r3,r5,r6,r7,rn,r4,r8⟩:=hgh _ _ hT (.inl hxn);have hb2:b2=b:=by rw[r2] at h1;cases h1;rfl
    subst hb2;rw[h3] at r5;cases r5;refine⟨r1,b2,cap,row,e,Ss,extra,r2,r3,hnew,by rw[hrs];exact r6,r7,rn,r4,fun i hi j hj=>?_⟩;have hjk:j<k:=by rw[<-r1 _ (xao hi)];exact hj
    have hq:i*k+j<n*k:=by rw[hxl];exact zcY hi hjk
    rw[hlow _ hq];refine(r8 i hi j hj).mono (fun b' hb'=>hother b' (fun e=>?_));subst e;rw[r2] at rn;exact(List.nodup_cons.1 rn).1 (List.mem_append_left _ (List.mem_flatMap.2 ⟨i*k+j,List.mem_range.2 (by rw[<-hxl];exact hq),hb'⟩))
 have hR:=hr.retokH (G':=G) (w':=w.setRow b row) (n':=zaH n+1) hbx od hgh hcell (fun _ _=>rfl)
  (fun b' _ hb'=>⟨hother b' (fun e=>hb' (by rw[e];exact hbm)),rfl⟩) (fun b' hb'=>by simpa using hbound id _ hbx b' hb') (fun b' hb'=> .inl hb') rfl rfl rfl oe (fun b' hb'=>hr.top b' (by simpa using hb'))
 unfold wpO;rw[if_pos (hg.gf.wanted hr (fun p hm=>hp' p (by simp[hm])))];unfold Oper.wp;have hrun:(execOp a.eval ⟨none,.store t (.tmp t0) y,ty,pos,af,g⟩).run c.P w = .ok .skip (w.setRow b row):=by
  have hsz2:(a.eval y).cells.size=k:=by omega
  simp only[execOp,he',Instr.storeAt,Instr.sureAddr,Sem.run_bind,Sem.run_pure,Result.andThen_ok,storeVar,ht.run_size];simp only[hsz2,ne_eq,not_true_eq_false,if_false];have hst':=hst;simp only[vl] at hst';simp only[Result.andThen_ok,hst',vl,row]
 rw[hrun,Oper.upon_skip];have hslot:RelA G (tokf ((id,some (Res.tok (zaH n+1) k))::s.hp)) (w.setRow b row) (.gp id (zaH n+1) (n*k) k js vs) (a.tmps.getD t0 undef):=by
  have he2:a.tmps.getD t0 undef = .pointer (some ⟨b,n*k,none⟩):=he;rw[he2];refine .gpL (fun x hx=>zat.1 (List.all_eq_true.1 hjs x hx)) hT1 h1 h4 hnew od (fun j hj hv=>?_);have hj2:j<vl.length:=by omega
  rw[hmid j hj2 hv];have h9:=hvr.rel j hj (by simpa [vl] using hj2);have h10:=h9.retok (T':=tokf ((id,some (Res.tok (zaH n+1) k))::s.hp)) (w':=w.setRow b row) hcell hT od hT1 hT2 (fun _ _=>rfl) (fun i p hi hp b' hb'=>by
   obtain⟨m,q⟩:=p;have hq:=zaf.1 hp;refine⟨hother b' (fun e=>?_),rfl⟩;subst e;exact hr.disj i id (by rw[hq];rfl) (by rw[hbx];rfl) hi b' hb' hbm) hgh
  simpa [vl] using h10
 exact hK _ _ ⟨G,(hR.slot hslot).putNone⟩
end
theorem zrW {r:Rd} (h:r.bad=true){b:UInt8} (hb:b≠0):za1 r b=r:=by
 obtain⟨s,bad⟩:=r;have h':bad=true:=h;subst h';have e:=zfv (r:=⟨s,true⟩) (.inl rfl);unfold za1;rw[zrA e];show Rd.mk s (_||true)=_
 rw[Bool.or_true]
theorem zrp {ts:List Ty}{r:Rd} (h:r.bad=true):zdB ts r=r:=by
 unfold zdB;split
 ·exact zrW h oh
 ·rfl
def sgR (i:Nat):UInt8:=if i=0 then 40 else 44
theorem zqc {α:Type}{f:Ty->Rd->α×Rd}{ts:List Ty}{i:Nat}{r:Rd} (hi:i<ts.length) (hb:r.bad=false):
  zbr f (decide (i=0)) (ts.drop i) r=((f (nth ts i) (za1 r (sgR i))).1::(zbr f (decide (i+1=0)) (ts.drop (i+1)) (f (nth ts i) (za1 r (sgR i))).2).1,(zbr f (decide (i+1=0)) (ts.drop (i+1)) (f (nth ts i) (za1 r (sgR i))).2).2):=by
 rw[zbk hi,zbr,if_neg (by rw[hb];simp)];have e:(if decide (i=0)=true then (40:UInt8) else 44)=sgR i:=by unfold sgR;by_cases h:i=0<;>simp[h]
 rw[e,show decide (i+1=0)=false from xaw od]
def kidG {α:Type} (f:Ty->Rd->α×Rd) (ts:List Ty) (K:List α×Rd) (i:Nat) (acc:List α) (r:Rd):Prop:=
 K=(acc++(zbr f (decide (i=0)) (ts.drop i) r).1,(zbr f (decide (i=0)) (ts.drop i) r).2)
theorem zro {α:Type}{f:Ty->Rd->α×Rd}{ts:List Ty}{K:List α×Rd}{i:Nat}{acc:List α}{r:Rd} (h:kidG f ts K i acc r) (hi:i<ts.length) (hb:r.bad=false):
  kidG f ts K (i+1) (acc++[(f (nth ts i) (za1 r (sgR i))).1]) (f (nth ts i) (za1 r (sgR i))).2:=by
 unfold kidG at h ⊢;rw[h,zqc hi hb];simp
theorem zsr {α:Type}{f:Ty->Rd->α×Rd}{ts:List Ty}{K:List α×Rd}{i:Nat}{acc:List α}{r:Rd} (h:kidG f ts K i acc r) (hi:i<ts.length) (hb:r.bad=true):K=(acc,r):=by
 unfold kidG at h;rw[h,zbk hi,zbr,if_pos hb];simp
theorem zss {α:Type}{f:Ty->Rd->α×Rd}{ts:List Ty}{K:List α×Rd}{i:Nat}{acc:List α}{r:Rd} (h:kidG f ts K i acc r) (hi:ts.length<=i):K=(acc,r):=by
 unfold kidG at h;rw[h,List.drop_eq_nil_of_le hi,zbr];simp
abbrev kIn (w:List Data) (c deep:Int) (acc:List Pat) (r:Rd):Hp:=[(901,some (.box (rdC w r))),(902,some (.box [.d (.i 4),.d (.i c),.d (.i 0),.d (.i 0),.d (.i 0),.gv 5 (acc.map Pat.cc)])),(5,some (.tok (acc.map Pat.cc).length 6)),(903,some (.box [.ref 901 0])),(904,some (.box [.d (.i deep)]))]
abbrev kOut (w:List Data) (c:Int) (acc:List Pat) (r:Rd):Hp:=[(901,some (.box (rdC w r))),(902,some (.box [.d (.i 4),.d (.i c),.d (.i 0),.d (.i 0),.d (.i 0),.gv 7 (acc.map Pat.cc)])),(7,some (.tok (acc.map Pat.cc).length 6)),(5,none)]
theorem og{p:Prop}(h:p:=by first|rfl|(simp only[zaz,occH,occE,Res.ids,xai,List.nil_append,AV.idsL,AV.ids,zaj,zai,zar,zaP,xaf,List.map_nil,upC];rfl)):p:=h
theorem oo{p:Prop}(h:p:=by first|rfl|(simp only[zbi,List.all_cons,List.all_nil,zcw,zb9,AV.idsL,AV.ids,zaj,zai,xaf,List.map_nil];rfl)):p:=h
theorem ziA {w:List Data}{c deep:Int}{ts:List Ty} (hl:ts.length<=3){r:Rd} (hs:r.s.length<=1000000000000){f:Ty->Rd->Pat×Rd} (hfl:∀t r,(f t r).2.s.length<=r.s.length)
  (hpart:∀t∈ts,∀(acc:List Pat) (r:Rd),acc.length<=3->r.s.length<=1000000000000->FnD Tryz.prog 255 [.agg [.d (.i t.data),.d (.i t.index)],.ref 902 0,.ref 903 0,.ref 904 0] (kIn w c deep acc r) (.tup []) (kOut w c (acc++[(f t r).1]) (f t r).2)):
  FnD Tryz.prog 222 [.ref 901 0,.d (zbU ts),.fn 255 [.ref 902 0,.ref 903 0,.ref 904 0]]
   [(901,some (.box (rdC w r))),(902,some (.box [.d (.i 4),.d (.i c),.d (.i 0),.d (.i 0),.d (.i 0),.gv 5 []])),(5,some (.tok 0 6)),(903,some (.box [.ref 901 0])),(904,some (.box [.d (.i deep)]))] (.tup []) (kOut w c (zbr f true ts r).1 (zdB ts (zbr f true ts r).2)):=by
 have hg0:kidG f ts (zbr f true ts r) 0 [] r:=rfl;generalize zbr f true ts r=K at *;have hnext:=fun(i:Nat) (acc:List Pat) (r:Rd)=>zro (f:=f) (ts:=ts) (K:=K) (i:=i) (acc:=acc) (r:=r);have hbad:=fun(i:Nat) (acc:List Pat) (r:Rd)=>zsr (f:=f) (ts:=ts) (K:=K) (i:=i) (acc:=acc) (r:=r);have hend:=fun(i:Nat) (acc:List Pat) (r:Rd)=>zss (f:=f) (ts:=ts) (K:=K) (i:=i) (acc:=acc) (r:=r);have hsl:=zeR;have hs0:∀i,i=0->sgR i=40:=fun i h=>if_pos h;have hs1:∀i,¬i=0->sgR i=44:=fun i h=>if_neg h;have hk1:∀r,0<ts.length->zdB ts r=za1 r 41:=fun r h=>if_pos h;have hk0:∀r,¬0<ts.length->zdB ts r=r:=fun r h=>if_neg h;refine bd Tryz.f222 34 [] [0,7] fun _ _ _ _ hk=>?_;refine xaF 902 5 5 7 I I I I (evc [] [] (xaA (ι:=Nat×List Pat×Rd) hk (fun x=>[(10,.d (.i (x.1:Int)))]) [6,7,11,12,13,14,15,16,17,18,19,20,21,22,23,24,25,26,27,28] (fun x=>[(901,some (.box (rdC w x.2.2))),(902,some (.box [.d (.i 4),.d (.i c),.d (.i 0),.d (.i 0),.d (.i 0),.gv 7 (x.2.1.map Pat.cc)])),(7,some (.tok (x.2.1.map Pat.cc).length 6)),(5,none)]) (fun x=>x.1<=ts.length/\x.2.1.length<=x.1/\x.2.2.s.length<=1000000000000/\kidG f ts K x.1 x.2.1 x.2.2) (fun x=>ts.length-x.1) (0,[],r) ⟨Nat.zero_le _,by simp,hs,hg0⟩ ⟨⟨_,I,xaK ?_⟩,O⟩ ⟨?_,⟨?_,⟨zag ?_,⟨?_,O⟩⟩⟩⟩ (fun x=>rfl) (fun x hg1=>?_)));focus (first|rfl|(simp;done)|omega|(simp;omega))
 iterate 2 focus (first|rfl|(rw[hs0 x.1 od];all_goals rfl)|(rw[hs1 x.1 od];all_goals rfl))
 focus (first|rfl|(simp;done)|omega|(simp;omega))
 focus (first|rfl|(rw[hs0 x.1 od];all_goals rfl)|(rw[hs1 x.1 od];all_goals rfl))
 refine evc [] [0,7] ?_;apply sq<;>intro h1 h1p h1s<;>(try simp only[Q,xal,xac] at h1p);refine ixq zaL I I I (zan od) I ?_;refine ev (Walk.alloc (id:=3007) tz38 I .none I og og og ?_);refine ev (so ty38 ?_);apply tv;apply sq<;>intro h2 h2p h2s<;>(try simp only[Q,xal,xac] at h2p);refine rn [(901,some (.box (rdC w (zdB ts K.2)))),(902,some (.box [.d (.i 4),.d (.i c),.d (.i 0),.d (.i 0),.d (.i 0),.gv 7 (K.1.map Pat.cc)])),(7,some (.tok (K.1.map Pat.cc).length 6)),(5,none)] .nil (.refl _) ⟨I,I⟩ (SubO.get ⟨.inr ?_,⟨.inr ?_,⟨.inr ?_,⟨.inr ?_,⟨.inl I,⟨.inl I,⟨.inl I,⟨.inr I,⟨.inr I,O⟩⟩⟩⟩⟩⟩⟩⟩⟩) (zak I);rotate_left 4;apply sq<;>intro h3 h3p h3s<;>(try simp only[Q,xal,xac] at h3p);refine Walk.call (cr:=[]) zd1 (za0 (w:=w) (r:=x.2.2) (b:=40)) I .none I I (LeL.refl _) ⟨I,O⟩ I oo og ?_;apply tv;refine xaF 902 5 7 5 I I I I (evc [] [] (xbs [5] [7] zqT (hpart (nth ts x.1) (zam od) x.2.1 (za1 x.2.2 _) od (by have:=hsl x.2.2;first|exact Nat.le_trans (this _) hg1.2.2.1)) I .none I I I (LeL.refl _) ⟨I,I,I,I,I,O⟩ I og ?_));apply tv;refine ar (xaj ((x.1+1,x.2.1++[(f (nth ts x.1) (za1 x.2.2 (sgR x.1))).1],(f (nth ts x.1) (za1 x.2.2 (sgR x.1))).2)) ⟨⟨by dsimp only;omega,by simp;omega,Nat.le_trans (hfl _ _) (Nat.le_trans (hsl _ _) hg1.2.2.1),hnext x.1 x.2.1 x.2.2 hg1.2.2.2 od ou⟩,o7,sx ⟨⟨_,I,xaK ?_⟩,O⟩ ⟨?_,⟨?_,⟨zag ?_,⟨?_,O⟩⟩⟩⟩⟩);focus (first|rfl|(simp;done)|omega|(simp;omega))
 iterate 2 focus (first|rfl|(rw[hs0 x.1 od];all_goals rfl)|(rw[hs1 x.1 od];all_goals rfl))
 focus (first|rfl|(simp;done)|omega|(simp;omega))
 focus (first|rfl|(rw[hs0 x.1 od];all_goals rfl)|(rw[hs1 x.1 od];all_goals rfl))
 refine Walk.call (cr:=[]) zd1 (za0 (w:=w) (r:=x.2.2) (b:=44)) I .none I I (LeL.refl _) ⟨I,O⟩ I oo og ?_;apply tv;refine xaF 902 5 7 5 I I I I (evc [] [] (xbs [5] [7] zqT (hpart (nth ts x.1) (zam od) x.2.1 (za1 x.2.2 _) od (by have:=hsl x.2.2;first|exact Nat.le_trans (this _) hg1.2.2.1)) I .none I I I (LeL.refl _) ⟨I,I,I,I,I,O⟩ I og ?_));apply tv;refine ar (xaj ((x.1+1,x.2.1++[(f (nth ts x.1) (za1 x.2.2 (sgR x.1))).1],(f (nth ts x.1) (za1 x.2.2 (sgR x.1))).2)) ⟨⟨by dsimp only;omega,by simp;omega,Nat.le_trans (hfl _ _) (Nat.le_trans (hsl _ _) hg1.2.2.1),hnext x.1 x.2.1 x.2.2 hg1.2.2.2 od ou⟩,o7,sx ⟨⟨_,I,xaK ?_⟩,O⟩ ⟨?_,⟨?_,⟨zag ?_,⟨?_,O⟩⟩⟩⟩⟩);focus (first|rfl|(simp;done)|omega|(simp;omega))
 iterate 2 focus (first|rfl|(rw[hs0 x.1 od];all_goals rfl)|(rw[hs1 x.1 od];all_goals rfl))
 focus (first|rfl|(simp;done)|omega|(simp;omega))
 focus (first|rfl|(rw[hs0 x.1 od];all_goals rfl)|(rw[hs1 x.1 od];all_goals rfl))
 apply sq<;>intro h4 h4p h4s<;>(try simp only[Q,xal,xac] at h4p);refine Walk.call (cr:=[]) zd1 (za0 (w:=w) (r:=x.2.2) (b:=41)) I .none I I (LeL.refl _) ⟨I,O⟩ I oo og ?_;apply tv;refine rn [(901,some (.box (rdC w (zdB ts K.2)))),(902,some (.box [.d (.i 4),.d (.i c),.d (.i 0),.d (.i 0),.d (.i 0),.gv 7 (K.1.map Pat.cc)])),(7,some (.tok (K.1.map Pat.cc).length 6)),(5,none)] .nil (.refl _) ⟨I,I⟩ (SubO.get ⟨.inr ?_,⟨.inr ?_,⟨.inr ?_,⟨.inr ?_,⟨.inl I,⟨.inl I,⟨.inl I,⟨.inr I,⟨.inr I,O⟩⟩⟩⟩⟩⟩⟩⟩⟩) (zak I);rotate_left 4;refine rn [(901,some (.box (rdC w (zdB ts K.2)))),(902,some (.box [.d (.i 4),.d (.i c),.d (.i 0),.d (.i 0),.d (.i 0),.gv 7 (K.1.map Pat.cc)])),(7,some (.tok (K.1.map Pat.cc).length 6)),(5,none)] .nil (.refl _) ⟨I,I⟩ (SubO.get ⟨.inr ?_,⟨.inr ?_,⟨.inr ?_,⟨.inr ?_,⟨.inl I,⟨.inl I,⟨.inl I,⟨.inr I,⟨.inr I,O⟩⟩⟩⟩⟩⟩⟩⟩⟩) (zak I);rotate_left 4;all_goals (first|((rfl);done)|((first|rw[hbad x.1 x.2.1 x.2.2 hg1.2.2.2 od ou]|rw[hend x.1 x.2.1 x.2.2 hg1.2.2.2 od]);first|rfl|(rw[hk0 x.2.2 od];all_goals rfl)|(rw[hk1 x.2.2 od];all_goals rfl)|(rw[zrp ou];all_goals rfl)))
set_option maxHeartbeats 4000000
theorem zsK {α:Type} (l:List α) (z y:α):(l++[z]).set l.length y=l++[y]:=by simp
theorem zgR {w:List Data}{c deep:Int} (hd:0<=deep/\deep<=1000){a k:Int}{acc:List Pat} (hl:acc.length<=3){r:Rd} (z:Pat×Rd)
  (ih:FnD Tryz.prog 185 [.ref 901 0,.agg [.d (.i a),.d (.i k)],.d (.i (deep+1))] [(901,some (.box (rdC w r)))] (.agg [.d (.i z.1.op),.d (.i z.1.ctor),.d (.i z.1.n),.d (.i z.1.m),.d (.i z.1.var),.d (zau z.1.kids)]) [(901,some (.box (rdC w z.2)))]):
  FnD Tryz.prog 255 [.agg [.d (.i a),.d (.i k)],.ref 902 0,.ref 903 0,.ref 904 0] (kIn w c deep acc r) (.tup []) (kOut w c (acc++[z.1]) z.2):=by
 have hset:=zsK (acc.map Pat.cc) (nth [[.i 0,.i 0,.i 0,.i 0,.i 0,.sl []]] 0) z.1.cc;rw[xac] at hset;refine Fn.body (fn:=Tryz.f255) (n:=17) I I I I I (fun _ _ _ _ hk=>?_);refine sr (bx 3004 ?_);apply tv;refine CWp.thn ?_;refine CWp.drawn mixed I ?_;refine xbA zrf .none I I (xbG ty58 .none I I I I (xbG zwa .none I I I I (xbH ty38 .none I I I I (xbG ty3 .none I I I I (Walk.addI .none I I I (by first|(constructor<;>omega)|(constructor<;>simp<;>omega)) ?_)))));refine wd zdZ ih I I ⟨I,O⟩ ?_;refine Walk.lenV sl58 .none I I (si [0] [_] sl58 tz60 ?_);refine Walk.appendH 9 sl58 zz60 .none I I I I (zdk I (by first|rfl|(simp;done)|(simp;omega))) I om om I I ?_;refine Walk.idxH sl58 .none I I I I I (Walk.putH [] ty60 .none I I I I I I I oe I ?_);refine xbA zrf .none I I (so ty58 ?_);refine⟨by show _=_;kernel_rfl, ?_⟩;refine fun aZ wZ hrZ=>⟨_,Rel.holeGv (k:=6) 902 15 5 9 7 z.1.cc I I I I I I hrZ, ?_⟩;refine⟨_,_,[(901,some (.box (rdC w z.2))),(902,some (.box [.d (.i 4),.d (.i c),.d (.i 0),.d (.i 0),.d (.i 0),.gv 7 ((acc++[z.1]).map Pat.cc)])),(7,some (.tok ((acc++[z.1]).map Pat.cc).length 6)),(5,none)],.nil,(.refl _),⟨rfl,rfl⟩,(SubO.get ⟨.inr ?_,⟨.inr ?_,⟨.inr ?_,⟨.inr ?_,⟨.inl rfl,⟨.inl rfl,⟨.inl rfl,⟨.inr rfl,⟨.inr rfl,trivial⟩⟩⟩⟩⟩⟩⟩⟩⟩),(zak rfl)⟩;rotate_left 4;all_goals (first|((rfl);done)|(first|rfl|(rw[xag];all_goals rfl)|(show some (Res.tok _ _)=some (Res.tok _ _);simp;done)))
theorem zp1 {k:Nat}{xs:List (List D)} (hk:∀x,x∈xs->x.length=k):zbT xs.length k (xs.flatten.map .d)=some xs:=by
 have h:=zdO (f:=fun x:List D=>x) (l:=xs) hk;have e:(xs.flatMap fun x=>x.map AV.d)=xs.flatten.map AV.d:=by
  clear hk h;induction xs with
  |nil=>rfl
  |cons x r ih=>rw[List.flatMap_cons,ih,List.flatten_cons,xag]
 rw[e] at h;simpa using h
section
variable {c:Ctx}{env:Env}{hp:Hp}{K:Kt}{code:Code}{ids:List Nat}
theorem xaz (hkp:KeptIn c.kept ids) (b off id k:Nat){n:Nat}{xs:List (List D)}{cs:List AV} (hb:getH hp b=some (.box cs)) (hc:cs[off]?=some (.gv id xs)) (ht:getH hp id=some (.tok n k)) (hn:n=xs.length)
  (hkx:∀x,x∈xs->x.length=k) (hid:zaB id ids=false) (hne:Nat.beq b id=false)
  (hnx:CWp c code ⟨env,(b,some (.box (cs.set off (.d (.sl xs)))))::(id,none)::hp⟩ K):CWp c code ⟨env,hp⟩ K:=by
 by_cases hx0:xs=[]
 ·exact CWp.dropVB b off id k hb hc ht hn hx0 (by rw[hx0] at hnx;exact hnx)
 ·refine CWp.fixVC b off id k hb hc ht hn hx0 ?_;obtain⟨hlt,_⟩:=List.getElem?_eq_some_iff.1 hc;have hbi:b≠id:=fun e=>by subst e;rw[Nat.beq_refl] at hne;cases hne
  refine CWp.frzC hkp b off id xs.length k (cs0':=cs.set off (.d (.sl xs))) o6 hne (by simp[hlt]) (by rw[List.set_set]) (by rw[zaa,if_neg (Ne.symm hbi),zaa,if_pos rfl]) (zp1 hkx) hid ?_;intro a w hr;refine hnx a w (hr.congr (fun _=>rfl) (fun j=>?_));show getH ((b,_)::(id,none)::hp) j=getH ((b,_)::(id,none)::(b,_)::(id,_)::hp) j
  rw[zaa,zaa,zaa,zaa,zaa,zaa];by_cases h1:j=b
  ·rw[if_pos h1,if_pos h1]
  ·rw[if_neg h1,if_neg h1];by_cases h2:j=id
   ·rw[if_pos h2,if_pos h2]
   ·rw[if_neg h2,if_neg h2,if_neg h1,if_neg h2]
end
section
variable {w:List Data}{n:Nat}{t:Ty}{r:Rd}
theorem pr_0 (h:((zaw r).toNat:Int)=0):patR w (n+1) t r=(zdG,⟨r.s,true⟩):=by
 rw[patR,if_pos (show zaw r=0 from b_eq (k:=0) od h)]
theorem zv0 (h:((zaw r).toNat:Int)=95):patR w (n+1) t r=(.mk 1 0 0 0 0 [],oneR r):=by
 rw[patR,if_neg (b_ne (by show ¬((zaw r).toNat:Int)=0;omega)),if_pos (show zaw r=95 from b_eq (k:=95) od h)]
theorem ztX (h1:97<=((zaw r).toNat:Int)) (h2:((zaw r).toNat:Int)<=122) (h3:((zaw (oneR r)).toNat:Int)=64):
  patR w (n+1) t r=(.mk 6 0 0 0 (((zaw r).toNat:Int)-97) [(patR w n t (oneR (oneR r))).1],(patR w n t (oneR (oneR r))).2):=by
 rw[patR,if_neg (b_ne (by show ¬((zaw r).toNat:Int)=0;omega)),if_neg (b_ne (by show ¬((zaw r).toNat:Int)=95;omega)),if_pos (zfJ h1 h2),if_pos (show zaw (oneR r)=64 from b_eq (k:=64) od h3)]
theorem ztY (h1:97<=((zaw r).toNat:Int)) (h2:((zaw r).toNat:Int)<=122) (h3:¬((zaw (oneR r)).toNat:Int)=64):
  patR w (n+1) t r=(.mk 2 0 0 0 (((zaw r).toNat:Int)-97) [],oneR r):=by
 rw[patR,if_neg (b_ne (by show ¬((zaw r).toNat:Int)=0;omega)),if_neg (b_ne (by show ¬((zaw r).toNat:Int)=95;omega)),if_pos (zfJ h1 h2),if_neg (b_ne h3)]
theorem ztW (h1:48<=((zaw r).toNat:Int)) (h2:((zaw r).toNat:Int)<=57) (h3:((zaw (digR r)).toNat:Int)=45):
  patR w (n+1) t r=(.mk 3 0 (zdj r) (zdj (oneR (digR r))) 0 [],⟨(digR (oneR (digR r))).s,(digR (oneR (digR r))).bad||decide (zdj (oneR (digR r))=zdj r)⟩):=by
 rw[patR,if_neg (b_ne (by show ¬((zaw r).toNat:Int)=0;omega)),if_neg (b_ne (by show ¬((zaw r).toNat:Int)=95;omega)),if_neg (zia od),if_pos (zhV h1 h2),if_pos (show zaw (digR r)=45 from b_eq (k:=45) od h3)]
theorem zvF (h1:48<=((zaw r).toNat:Int)) (h2:((zaw r).toNat:Int)<=57) (h3:¬((zaw (digR r)).toNat:Int)=45):
  patR w (n+1) t r=(.mk 3 0 (zdj r) (zdj r) 0 [],digR r):=by
 rw[patR,if_neg (b_ne (by show ¬((zaw r).toNat:Int)=0;omega)),if_neg (b_ne (by show ¬((zaw r).toNat:Int)=95;omega)),if_neg (zia od),if_pos (zhV h1 h2),if_neg (b_ne h3)]
theorem zv1 (h:((zaw r).toNat:Int)=40):patR w (n+1) t r=(.mk 5 0 0 0 0 [(patR w n t (oneR r)).1,(patR w n t (za1 (patR w n t (oneR r)).2 124)).1],za1 (patR w n t (za1 (patR w n t (oneR r)).2 124)).2 41):=by
 rw[patR,if_neg (b_ne (by show ¬((zaw r).toNat:Int)=0;omega)),if_neg (b_ne (by show ¬((zaw r).toNat:Int)=95;omega)),if_neg (zia od),if_neg (zjw od),if_pos (show zaw r=40 from b_eq (k:=40) od h)]
variable (h0:¬((zaw r).toNat:Int)=0) (h1:¬((zaw r).toNat:Int)=95) (h2:¬(97<=((zaw r).toNat:Int)/\((zaw r).toNat:Int)<=122)) (h3:¬(48<=((zaw r).toNat:Int)/\((zaw r).toNat:Int)<=57)) (h4:¬((zaw r).toNat:Int)=40)
include h0 h1 h2 h3 h4
theorem zvD (h:(zbI w t r).bad=true):patR w (n+1) t r=(.mk 4 (zbA w t r) 0 0 0 [],zbI w t r):=by
 rw[patR,if_neg (b_ne h0),if_neg (b_ne h1),if_neg (zia h2),if_neg (zjw h3),if_neg (b_ne h4),if_pos h]
theorem zvE (h:(zbI w t r).bad=false):patR w (n+1) t r=(.mk 4 (zbA w t r) 0 0 0 (zbr (patR w n) true (zae w t (zbA w t r)) (zbI w t r)).1,zdB (zae w t (zbA w t r)) (zbr (patR w n) true (zae w t (zbA w t r)) (zbI w t r)).2):=by
 rw[patR,if_neg (b_ne h0),if_neg (b_ne h1),if_neg (zia h2),if_neg (zjw h3),if_neg (b_ne h4),if_neg (by rw[h];simp)]
end
theorem zjI:FnD Tryz.prog 253 [] [] (.agg [.d (.i 1),.d (.i 0),.d (.i 0),.d (.i 0),.d (.i 0),.d (.sl [])]) []:=by
 refine bd Tryz.f253 2 [] [] fun _ _ _ _ hk=>?_;refine ab 3000 tz60 ?_;apply tv;refine bu [0] [_] st60 ?_;refine so ty60 ?_;apply tv;focus (refine rn0 (ra ty60) (.agg (qeeeeen ?_ ?_ ?_ ?_ ?_ ?_));all_goals (first|rfl|(simp[];done)|(simp_all;done)|(simp_all;omega)|omega))
theorem zew {w:List Data} (hw:WT w) (hA3:A3 w):∀(n:Nat){a k:Int}{r:Rd},n<=10->TyIn w.length ⟨a,k⟩->r.s.length<=1000000000000->
  FnD Tryz.prog 185 [.ref 901 0,.agg [.d (.i a),.d (.i k)],.d (.i (11-(n:Int)))] [(901,some (.box (rdC w r)))]
   (.agg [.d (.i (patR w n ⟨a,k⟩ r).1.op),.d (.i (patR w n ⟨a,k⟩ r).1.ctor),.d (.i (patR w n ⟨a,k⟩ r).1.n),.d (.i (patR w n ⟨a,k⟩ r).1.m),.d (.i (patR w n ⟨a,k⟩ r).1.var),.d (zau (patR w n ⟨a,k⟩ r).1.kids)]) [(901,some (.box (rdC w (patR w n ⟨a,k⟩ r).2)))]
 |0,a,k,r,_,_,_=>by
  have e0:((zaw ⟨r.s,true⟩).toNat:Int)=0:=by rw[zfv (r:=⟨r.s,true⟩) (.inl rfl)];rfl
  rw[show patR w 0 ⟨a,k⟩ r=(zdG,⟨r.s,true⟩) from rfl];refine bd Tryz.f185 138 [] [] fun _ _ _ _ hk=>?_;refine bx 903 ?_;refine bx 3004 ?_;refine bx 904 ?_;refine ab 3006 tz60 ?_;apply tv;apply sq<;>intro h1 h1p h1s<;>(try simp only[Q] at h1p);refine so ty4 ?_;apply tv;refine wd zhu (zbS (w:=w) (r:=⟨r.s,true⟩)) I I ⟨I,O⟩ ?_;refine ev ?_;apply sq<;>intro h2 h2p h2s<;>(try simp only[Q] at h2p);refine so ty4 ?_;apply tv;refine bu [] [] st60 ?_;refine so ty60 ?_;apply tv;refine rn [(901,some (.box (rdC w ⟨r.s,true⟩)))] (ra ty60) (.agg (qeeeeen ?_ ?_ ?_ ?_ ?_ ?_)) ⟨I,I⟩ (SubO.get ⟨.inr ?_,⟨.inl I,O⟩⟩) (zak I);rotate_left 7;exfalso;omega;focus (exfalso;first|omega|(simp at h1p;done))
  all_goals (first|((rfl);done)|(rfl))
 |n+1,a,k,r,hn,ht,hs=>by
  have hdp:(11:Int)-((n+1:Nat):Int)+1=11-(n:Int):=by omega
  have hih:∀ {a k:Int}{r:Rd},TyIn w.length ⟨a,k⟩->r.s.length<=1000000000000->FnD Tryz.prog 185 [.ref 901 0,.agg [.d (.i a),.d (.i k)],.d (.i (11-((n+1:Nat):Int)+1))] [(901,some (.box (rdC w r)))]
   (.agg [.d (.i (patR w n ⟨a,k⟩ r).1.op),.d (.i (patR w n ⟨a,k⟩ r).1.ctor),.d (.i (patR w n ⟨a,k⟩ r).1.n),.d (.i (patR w n ⟨a,k⟩ r).1.m),.d (.i (patR w n ⟨a,k⟩ r).1.var),.d (zau (patR w n ⟨a,k⟩ r).1.kids)]) [(901,some (.box (rdC w (patR w n ⟨a,k⟩ r).2)))]:=fun {a k r} h1 h2=>by
   rw[hdp];exact zew hw hA3 n od h1 h2
  have hmem:=fun(h:(zbI w ⟨a,k⟩ r).bad=false)=>(zhi h).2.2.1;have hkids:=fun(h:(zbI w ⟨a,k⟩ r).bad=false)=>ziA (w:=w) (c:=zbA w ⟨a,k⟩ r) (deep:=11-((n+1:Nat):Int)) (ts:=zae w ⟨a,k⟩ (zbA w ⟨a,k⟩ r)) (hA3 _ _ ht (hmem h)).1 (r:=zbI w ⟨a,k⟩ r) (Nat.le_trans (ziP _ _ _) hs) (f:=patR w n) (fun t r=>zkn w n t r)
   (fun t ht' acc r hl hs'=>zgR (a:=t.data) (k:=t.index) od hl (patR w n t r) (hih ((hA3 _ _ ht (hmem h)).2 t ht') hs'))
  have hag:=fun(h:(zbI w ⟨a,k⟩ r).bad=false)=>zgU hw ht (hmem h);have hct:=ziz hw ht (r:=r) hs;have l1:=zdg r;have l2:=zdg (oneR r);have l3:=zeR (patR w n ⟨a,k⟩ (oneR r)).2 124;have l4:=zkn w n ⟨a,k⟩ (oneR r);have p1:=hih (a:=a) (k:=k) (r:=oneR (oneR r)) ht od;have p2:=hih (a:=a) (k:=k) (r:=oneR r) ht od;have p3:=hih (a:=a) (k:=k) (r:=za1 (patR w n ⟨a,k⟩ (oneR r)).2 124) ht od;have q0:=pr_0 (w:=w) (n:=n) (t:=⟨a,k⟩) (r:=r);have q1:=zv0 (w:=w) (n:=n) (t:=⟨a,k⟩) (r:=r);have q2:=ztX (w:=w) (n:=n) (t:=⟨a,k⟩) (r:=r);have q3:=ztY (w:=w) (n:=n) (t:=⟨a,k⟩) (r:=r);have q4:=ztW (w:=w) (n:=n) (t:=⟨a,k⟩) (r:=r);have q5:=zvF (w:=w) (n:=n) (t:=⟨a,k⟩) (r:=r);have q6:=zv1 (w:=w) (n:=n) (t:=⟨a,k⟩) (r:=r);have q7:=zvD (w:=w) (n:=n) (t:=⟨a,k⟩) (r:=r);have q8:=zvE (w:=w) (n:=n) (t:=⟨a,k⟩) (r:=r);generalize patR w (n+1) ⟨a,k⟩ r=R at *;generalize hK:zbr (patR w n) true (zae w ⟨a,k⟩ (zbA w ⟨a,k⟩ r)) (zbI w ⟨a,k⟩ r)=Kq at *;generalize zdB (zae w ⟨a,k⟩ (zbA w ⟨a,k⟩ r)) Kq.2=ke at *;generalize zae w ⟨a,k⟩ (zbA w ⟨a,k⟩ r)=ts at *;clear hK hih;refine bd Tryz.f185 138 [63] [6,7] fun _ _ _ _ hk=>?_;refine bx 903 ?_;refine bx 3004 ?_;refine bx 904 ?_;refine ab 3006 tz60 ?_;apply tv;apply sq<;>intro h1 h1p h1s<;>(try simp only[Q,xal] at h1p);exfalso;first|omega|(simp at h1p;omega)
  refine wd zhu (zbS (w:=w) (r:=r)) I I ⟨I,O⟩ ?_;refine evs [63] [] ?_;apply sq<;>intro h2 h2p h2s<;>(try simp only[Q,xal] at h2p);refine so ty4 ?_;apply tv;refine bu [] [] st60 ?_;refine so ty60 ?_;apply tv;refine rn [(901,some (.box (rdC w R.2)))] (ra ty60) (.agg (qeeeeen ?_ ?_ ?_ ?_ ?_ ?_)) ⟨I,I⟩ (SubO.get ⟨.inr ?_,⟨.inl I,O⟩⟩) (zak I);rotate_left 7;apply sq<;>intro h3 h3p h3s<;>(try simp only[Q,xal] at h3p);refine wd zd0 (za2 (w:=w) (r:=r)) I I ⟨I,O⟩ ?_;apply tv;refine wc zuZ zjI I I ?_;refine so ty60 ?_;apply tv;refine rn [(901,some (.box (rdC w R.2)))] (ra ty60) (.agg (qeeeeee ?_ ?_ ?_ ?_ ?_ ?_)) ⟨I,I⟩ (SubO.get ⟨.inr ?_,⟨.inl I,O⟩⟩) (zak I);rotate_left 7;apply sq<;>intro h4 h4p h4s<;>(try simp only[Q,xal] at h4p);apply sq<;>intro h5 h5p h5s<;>(try simp only[Q,xal] at h5p);refine wd zd0 (za2 (w:=w) (r:=r)) I I ⟨I,O⟩ ?_;refine xbX .none I I I (xbv oy un3 .none I I ?_);refine bu [0,4] [_,_] st60 ?_;refine ab 3008 tz60 ?_;refine so ty60 ?_;apply tv;refine wd zhu (zbS (w:=w) (r:=oneR r)) I I ⟨I,O⟩ ?_;refine evs [63] [] ?_;apply sq<;>intro h6 h6p h6s<;>(try simp only[Q,xal] at h6p);refine wd zd0 (za2 (w:=w) (r:=oneR r)) I I ⟨I,O⟩ ?_;apply tv;refine ar (wd zdZ p1 I I ⟨I,O⟩ ?_);refine si [0] [_] sl58 tz60 ?_;refine evs [63] [] (so ty3 ?_);refine evs [63] [] (so ty58 ?_);apply tv;refine so ty60 ?_;apply tv;refine rn [(901,some (.box (rdC w R.2)))] (ra ty60) (.agg (qeeeeee ?_ ?_ ?_ ?_ ?_ ?_)) ⟨I,I⟩ (SubO.get ⟨.inr ?_,⟨.inl I,O⟩⟩) (zak I);rotate_left 7;refine so ty60 ?_;apply tv;refine rn [(901,some (.box (rdC w R.2)))] (ra ty60) (.agg (qeeeeen ?_ ?_ ?_ ?_ ?_ ?_)) ⟨I,I⟩ (SubO.get ⟨.inr ?_,⟨.inl I,O⟩⟩) (zak I);rotate_left 7;apply sq<;>intro h7 h7p h7s<;>(try simp only[Q,xal] at h7p);apply sq<;>intro h8 h8p h8s<;>(try simp only[Q,xal] at h8p);refine wd zkH (zcH (w:=w) (r:=r)) I I ⟨I,O⟩ ?_;refine evs [63] [] (bu [0,2,3] [_,_,_] st60 ?_);refine ab 3010 tz60 ?_;refine so ty60 ?_;apply tv;refine wd zhu (zbS (w:=w) (r:=digR r)) I I ⟨I,O⟩ ?_;refine evs [63] [] ?_;apply sq<;>intro h9 h9p h9s<;>(try simp only[Q,xal] at h9p);refine wd zd0 (za2 (w:=w) (r:=digR r)) I I ⟨I,O⟩ ?_;apply tv;refine wd zkH (zcH (w:=w) (r:=oneR (digR r))) I I ⟨I,O⟩ ?_;refine evs [63] [] (so ty3 ?_);apply tv;apply sq<;>intro h10 h10p h10s<;>(try simp only[Q,xal] at h10p);refine so ty4 ?_;refine dr (so ty60 ?_);apply tv;refine rn [(901,some (.box (rdC w R.2)))] (ra ty60) (.agg (qeeeeen ?_ ?_ ?_ ?_ ?_ ?_)) ⟨I,I⟩ (SubO.get ⟨.inr ?_,⟨.inl I,O⟩⟩) (zak I);rotate_left 7;refine so ty4 ?_;refine dr (so ty60 ?_);apply tv;refine rn [(901,some (.box (rdC w R.2)))] (ra ty60) (.agg (qeeeeen ?_ ?_ ?_ ?_ ?_ ?_)) ⟨I,I⟩ (SubO.get ⟨.inr ?_,⟨.inl I,O⟩⟩) (zak I);rotate_left 7;refine so ty60 ?_;apply tv;refine rn [(901,some (.box (rdC w R.2)))] (ra ty60) (.agg (qeeeeen ?_ ?_ ?_ ?_ ?_ ?_)) ⟨I,I⟩ (SubO.get ⟨.inr ?_,⟨.inl I,O⟩⟩) (zak I);rotate_left 7;apply sq<;>intro h11 h11p h11s<;>(try simp only[Q,xal] at h11p);refine wd zd0 (za2 (w:=w) (r:=r)) I I ⟨I,O⟩ ?_;apply tv;refine ar (wd zdZ p2 I I ⟨I,O⟩ ?_);refine ab 3011 tz60 ?_;refine so ty60 ?_;apply tv;refine wd zd1 (za0 (w:=w) (r:=(patR w n ⟨a,k⟩ (oneR r)).2) (b:=124)) I I ⟨I,O⟩ ?_;apply tv;refine ar (wd zdZ p3 I I ⟨I,O⟩ ?_);refine ab 3012 tz60 ?_;refine so ty60 ?_;apply tv;refine wd zd1 (za0 (w:=w) (r:=(patR w n ⟨a,k⟩ (za1 (patR w n ⟨a,k⟩ (oneR r)).2 124)).2) (b:=41)) I I ⟨I,O⟩ ?_;apply tv;refine si [0,1] [_,_] sl58 tz60 ?_;refine bu [0,5] [_,_] st60 ?_;refine so ty60 ?_;apply tv;refine rn [(901,some (.box (rdC w R.2)))] (ra ty60) (.agg (qeeeeee ?_ ?_ ?_ ?_ ?_ ?_)) ⟨I,I⟩ (SubO.get ⟨.inr ?_,⟨.inl I,O⟩⟩) (zak I);rotate_left 7;refine wd zkI hct I I ⟨I,O⟩ ?_;refine bu [0,1] [_,_] st60 ?_;refine ab 902 tz60 ?_;refine so ty60 ?_;apply tv;apply sq<;>intro h12 h12p h12s<;>(try simp only[Q,xal] at h12p);refine xaE 902 5 5 6 I I I I (evc [63] [] (Walk.call (cr:=[]) ziM (hag ol) I .none I I (LeL.refl _) O I oo og ?_));refine xbu (xs:=[_,_,_]) I .none I I (xbp [5] [7] zkJ (hkids ol) I .none I I (LeL.refl _) ⟨I,I,I,I,I,O⟩ I og ?_);refine dr ?_;first|(refine xaz hk 902 5 7 6 I I I I (zeO _) I I ?_)|skip
  refine evc [63] [] (so ty60 ?_);apply tv;refine rn [(901,some (.box (rdC w R.2)))] (ra ty60) (.agg (qeeeeee ?_ ?_ ?_ ?_ ?_ ?_)) ⟨I,I⟩ (SubO.get ⟨.inr ?_,⟨.inl I,O⟩⟩) (zak I);rotate_left 7;first|(refine xaz hk 902 5 7 6 I I I I (zeO _) I I ?_)|skip
  refine evc [63] [] (so ty60 ?_);apply tv;refine rn [(901,some (.box (rdC w R.2)))] (ra ty60) (.agg (qeeeeen ?_ ?_ ?_ ?_ ?_ ?_)) ⟨I,I⟩ (SubO.get ⟨.inr ?_,⟨.inl I,O⟩⟩) (zak I);rotate_left 7;refine sqF ?_;apply sq<;>intro h14 h14p h14s<;>(try simp only[Q,xal] at h14p);refine wd zd0 (za2 (w:=w) (r:=r)) I I ⟨I,O⟩ ?_;apply tv;refine ar (wd zdZ p2 I I ⟨I,O⟩ ?_);refine ab 3011 tz60 ?_;refine so ty60 ?_;apply tv;refine wd zd1 (za0 (w:=w) (r:=(patR w n ⟨a,k⟩ (oneR r)).2) (b:=124)) I I ⟨I,O⟩ ?_;apply tv;refine ar (wd zdZ p3 I I ⟨I,O⟩ ?_);refine ab 3012 tz60 ?_;refine so ty60 ?_;apply tv;refine wd zd1 (za0 (w:=w) (r:=(patR w n ⟨a,k⟩ (za1 (patR w n ⟨a,k⟩ (oneR r)).2 124)).2) (b:=41)) I I ⟨I,O⟩ ?_;apply tv;refine si [0,1] [_,_] sl58 tz60 ?_;refine bu [0,5] [_,_] st60 ?_;refine so ty60 ?_;apply tv;refine rn [(901,some (.box (rdC w R.2)))] (ra ty60) (.agg (qeeeeee ?_ ?_ ?_ ?_ ?_ ?_)) ⟨I,I⟩ (SubO.get ⟨.inr ?_,⟨.inl I,O⟩⟩) (zak I);rotate_left 7;refine wd zkI hct I I ⟨I,O⟩ ?_;refine bu [0,1] [_,_] st60 ?_;refine ab 902 tz60 ?_;refine so ty60 ?_;apply tv;apply sq<;>intro h15 h15p h15s<;>(try simp only[Q,xal] at h15p);refine xaE 902 5 5 6 I I I I (evc [63] [] (Walk.call (cr:=[]) ziM (hag ol) I .none I I (LeL.refl _) O I oo og ?_));refine xbu (xs:=[_,_,_]) I .none I I (xbp [5] [7] zkJ (hkids ol) I .none I I (LeL.refl _) ⟨I,I,I,I,I,O⟩ I og ?_);refine dr ?_;first|(refine xaz hk 902 5 7 6 I I I I (zeO _) I I ?_)|skip
  refine evc [63] [] (so ty60 ?_);apply tv;refine rn [(901,some (.box (rdC w R.2)))] (ra ty60) (.agg (qeeeeee ?_ ?_ ?_ ?_ ?_ ?_)) ⟨I,I⟩ (SubO.get ⟨.inr ?_,⟨.inl I,O⟩⟩) (zak I);rotate_left 7;first|(refine xaz hk 902 5 7 6 I I I I (zeO _) I I ?_)|skip
  refine evc [63] [] (so ty60 ?_);apply tv;refine rn [(901,some (.box (rdC w R.2)))] (ra ty60) (.agg (qeeeeen ?_ ?_ ?_ ?_ ?_ ?_)) ⟨I,I⟩ (SubO.get ⟨.inr ?_,⟨.inl I,O⟩⟩) (zak I);rotate_left 7;refine sqF ?_;apply sq<;>intro h17 h17p h17s<;>(try simp only[Q,xal] at h17p);apply sq<;>intro h18 h18p h18s<;>(try simp only[Q,xal] at h18p);refine wd zkH (zcH (w:=w) (r:=r)) I I ⟨I,O⟩ ?_;refine evs [63] [] (bu [0,2,3] [_,_,_] st60 ?_);refine ab 3010 tz60 ?_;refine so ty60 ?_;apply tv;refine wd zhu (zbS (w:=w) (r:=digR r)) I I ⟨I,O⟩ ?_;refine evs [63] [] ?_;apply sq<;>intro h19 h19p h19s<;>(try simp only[Q,xal] at h19p);refine wd zd0 (za2 (w:=w) (r:=digR r)) I I ⟨I,O⟩ ?_;apply tv;refine wd zkH (zcH (w:=w) (r:=oneR (digR r))) I I ⟨I,O⟩ ?_;refine evs [63] [] (so ty3 ?_);apply tv;apply sq<;>intro h20 h20p h20s<;>(try simp only[Q,xal] at h20p);refine so ty4 ?_;refine dr (so ty60 ?_);apply tv;refine rn [(901,some (.box (rdC w R.2)))] (ra ty60) (.agg (qeeeeen ?_ ?_ ?_ ?_ ?_ ?_)) ⟨I,I⟩ (SubO.get ⟨.inr ?_,⟨.inl I,O⟩⟩) (zak I);rotate_left 7;refine so ty4 ?_;refine dr (so ty60 ?_);apply tv;refine rn [(901,some (.box (rdC w R.2)))] (ra ty60) (.agg (qeeeeen ?_ ?_ ?_ ?_ ?_ ?_)) ⟨I,I⟩ (SubO.get ⟨.inr ?_,⟨.inl I,O⟩⟩) (zak I);rotate_left 7;refine so ty60 ?_;apply tv;refine rn [(901,some (.box (rdC w R.2)))] (ra ty60) (.agg (qeeeeen ?_ ?_ ?_ ?_ ?_ ?_)) ⟨I,I⟩ (SubO.get ⟨.inr ?_,⟨.inl I,O⟩⟩) (zak I);rotate_left 7;apply sq<;>intro h21 h21p h21s<;>(try simp only[Q,xal] at h21p);refine wd zd0 (za2 (w:=w) (r:=r)) I I ⟨I,O⟩ ?_;apply tv;refine ar (wd zdZ p2 I I ⟨I,O⟩ ?_);refine ab 3011 tz60 ?_;refine so ty60 ?_;apply tv;refine wd zd1 (za0 (w:=w) (r:=(patR w n ⟨a,k⟩ (oneR r)).2) (b:=124)) I I ⟨I,O⟩ ?_;apply tv;refine ar (wd zdZ p3 I I ⟨I,O⟩ ?_);refine ab 3012 tz60 ?_;refine so ty60 ?_;apply tv;refine wd zd1 (za0 (w:=w) (r:=(patR w n ⟨a,k⟩ (za1 (patR w n ⟨a,k⟩ (oneR r)).2 124)).2) (b:=41)) I I ⟨I,O⟩ ?_;apply tv;refine si [0,1] [_,_] sl58 tz60 ?_;refine bu [0,5] [_,_] st60 ?_;refine so ty60 ?_;apply tv;refine rn [(901,some (.box (rdC w R.2)))] (ra ty60) (.agg (qeeeeee ?_ ?_ ?_ ?_ ?_ ?_)) ⟨I,I⟩ (SubO.get ⟨.inr ?_,⟨.inl I,O⟩⟩) (zak I);rotate_left 7;refine wd zkI hct I I ⟨I,O⟩ ?_;refine bu [0,1] [_,_] st60 ?_;refine ab 902 tz60 ?_;refine so ty60 ?_;apply tv;apply sq<;>intro h22 h22p h22s<;>(try simp only[Q,xal] at h22p);refine xaE 902 5 5 6 I I I I (evc [63] [] (Walk.call (cr:=[]) ziM (hag ol) I .none I I (LeL.refl _) O I oo og ?_));refine xbu (xs:=[_,_,_]) I .none I I (xbp [5] [7] zkJ (hkids ol) I .none I I (LeL.refl _) ⟨I,I,I,I,I,O⟩ I og ?_);refine dr ?_;first|(refine xaz hk 902 5 7 6 I I I I (zeO _) I I ?_)|skip
  refine evc [63] [] (so ty60 ?_);apply tv;refine rn [(901,some (.box (rdC w R.2)))] (ra ty60) (.agg (qeeeeee ?_ ?_ ?_ ?_ ?_ ?_)) ⟨I,I⟩ (SubO.get ⟨.inr ?_,⟨.inl I,O⟩⟩) (zak I);rotate_left 7;first|(refine xaz hk 902 5 7 6 I I I I (zeO _) I I ?_)|skip
  refine evc [63] [] (so ty60 ?_);apply tv;refine rn [(901,some (.box (rdC w R.2)))] (ra ty60) (.agg (qeeeeen ?_ ?_ ?_ ?_ ?_ ?_)) ⟨I,I⟩ (SubO.get ⟨.inr ?_,⟨.inl I,O⟩⟩) (zak I);rotate_left 7;refine sqF ?_;apply sq<;>intro h24 h24p h24s<;>(try simp only[Q,xal] at h24p);refine wd zd0 (za2 (w:=w) (r:=r)) I I ⟨I,O⟩ ?_;apply tv;refine ar (wd zdZ p2 I I ⟨I,O⟩ ?_);refine ab 3011 tz60 ?_;refine so ty60 ?_;apply tv;refine wd zd1 (za0 (w:=w) (r:=(patR w n ⟨a,k⟩ (oneR r)).2) (b:=124)) I I ⟨I,O⟩ ?_;apply tv;refine ar (wd zdZ p3 I I ⟨I,O⟩ ?_);refine ab 3012 tz60 ?_;refine so ty60 ?_;apply tv;refine wd zd1 (za0 (w:=w) (r:=(patR w n ⟨a,k⟩ (za1 (patR w n ⟨a,k⟩ (oneR r)).2 124)).2) (b:=41)) I I ⟨I,O⟩ ?_;apply tv;refine si [0,1] [_,_] sl58 tz60 ?_;refine bu [0,5] [_,_] st60 ?_;refine so ty60 ?_;apply tv;refine rn [(901,some (.box (rdC w R.2)))] (ra ty60) (.agg (qeeeeee ?_ ?_ ?_ ?_ ?_ ?_)) ⟨I,I⟩ (SubO.get ⟨.inr ?_,⟨.inl I,O⟩⟩) (zak I);rotate_left 7;refine wd zkI hct I I ⟨I,O⟩ ?_;refine bu [0,1] [_,_] st60 ?_;refine ab 902 tz60 ?_;refine so ty60 ?_;apply tv;apply sq<;>intro h25 h25p h25s<;>(try simp only[Q,xal] at h25p);refine xaE 902 5 5 6 I I I I (evc [63] [] (Walk.call (cr:=[]) ziM (hag ol) I .none I I (LeL.refl _) O I oo og ?_));refine xbu (xs:=[_,_,_]) I .none I I (xbp [5] [7] zkJ (hkids ol) I .none I I (LeL.refl _) ⟨I,I,I,I,I,O⟩ I og ?_);refine dr ?_;first|(refine xaz hk 902 5 7 6 I I I I (zeO _) I I ?_)|skip
  refine evc [63] [] (so ty60 ?_);apply tv;refine rn [(901,some (.box (rdC w R.2)))] (ra ty60) (.agg (qeeeeee ?_ ?_ ?_ ?_ ?_ ?_)) ⟨I,I⟩ (SubO.get ⟨.inr ?_,⟨.inl I,O⟩⟩) (zak I);rotate_left 7;first|(refine xaz hk 902 5 7 6 I I I I (zeO _) I I ?_)|skip
  refine evc [63] [] (so ty60 ?_);apply tv;refine rn [(901,some (.box (rdC w R.2)))] (ra ty60) (.agg (qeeeeen ?_ ?_ ?_ ?_ ?_ ?_)) ⟨I,I⟩ (SubO.get ⟨.inr ?_,⟨.inl I,O⟩⟩) (zak I);rotate_left 7;all_goals (first|((first|(rw[q0 od];all_goals rfl)|(rw[q1 od];all_goals rfl)|(rw[q2 od od od];all_goals first|rfl|(rw[zfu od od];all_goals rfl)|exact xam D.sl (xaQ _).symm|(show D.sl _=D.sl _;rw[xaQ];done)|(show D.sl _=D.sl _;rw[xaQ];rfl))|(rw[q3 od od od];all_goals first|rfl|(rw[zfu od od];all_goals rfl)|exact xam D.sl (xaQ _).symm|(show D.sl _=D.sl _;rw[xaQ];done)|(show D.sl _=D.sl _;rw[xaQ];rfl))|(rw[q4 od od od];all_goals first|rfl|(show some (Res.box [_,_,_])=some (Res.box [_,_,_]);simp[*];done)|(show some (Res.box [_,_,_])=some (Res.box [_,_,_]);simp_all;done))|(rw[q5 od od od];all_goals rfl)|(rw[q6 od];all_goals first|rfl|exact xam D.sl (xaQ _).symm|(show D.sl _=D.sl _;rw[xaQ];done)|(show D.sl _=D.sl _;rw[xaQ];rfl))|(rw[q7 od od od od od ol];all_goals rfl)|(rw[q8 od od od od od ol];all_goals first|rfl|exact(xaQ _).symm|exact xam D.sl (xaQ _).symm|(show D.sl _=D.sl _;rw[xaQ];done)|(show D.sl _=D.sl _;rw[xaQ];rfl)));done)|(first|(rw[q0 od];all_goals rfl)|(rw[q1 od];all_goals rfl)|(rw[q2 od od od];all_goals first|rfl|(rw[zfu od od];all_goals rfl)|exact xam D.sl (xaQ _).symm|(show D.sl _=D.sl _;rw[xaQ];done)|(show D.sl _=D.sl _;rw[xaQ];rfl))|(rw[q3 od od od];all_goals first|rfl|(rw[zfu od od];all_goals rfl)|exact xam D.sl (xaQ _).symm|(show D.sl _=D.sl _;rw[xaQ];done)|(show D.sl _=D.sl _;rw[xaQ];rfl))|(rw[q4 od od od];all_goals first|rfl|(show some (Res.box [_,_,_])=some (Res.box [_,_,_]);simp[*];done)|(show some (Res.box [_,_,_])=some (Res.box [_,_,_]);simp_all;done))|(rw[q5 od od od];all_goals rfl)|(rw[q6 od];all_goals first|rfl|exact xam D.sl (xaQ _).symm|(show D.sl _=D.sl _;rw[xaQ];done)|(show D.sl _=D.sl _;rw[xaQ];rfl))|(rw[q7 od od od od od ol];all_goals rfl)|(rw[q8 od od od od od ol];all_goals first|rfl|exact(xaQ _).symm|exact xam D.sl (xaQ _).symm|(show D.sl _=D.sl _;rw[xaQ];done)|(show D.sl _=D.sl _;rw[xaQ];rfl))))
end Go.Proofs.YtmkipahfpaacgaaGreatDoor
