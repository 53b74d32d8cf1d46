/-
  THE ABSTRACT WALK AND THE WALKS, part 4 of 6: the parts F72, F74, F75, F76, F77, F78, F18, F19, F31, F32, F33, F34, F35, F36, F37, F38, F79, F59, F80, F60, F61, F30, F63, F81, F110, F113.
-/
import Derived.Test.YtpgdedpljcedpaaGreatT463
namespace Go.Proofs.YtpgdedpljcedpaaGreat
open Go
set_option linter.unusedSimpArgs false
set_option linter.unusedVariables false
set_option maxRecDepth 100000
set_option maxHeartbeats 2000000
def zdx (C:List Pat) (q:Pat):List Pat:=C.map fun c=> .mk q.op q.ctor q.n q.m q.var (q.kids++[c])
theorem zrs {ls:List (List Pat)}{C:List Pat}{a b c d e:Int}:((zdL ls).map (fun l=>Pat.mk a b c d e l)).flatMap (zdx C)=(zdL (ls++[C])).map (fun l=>Pat.mk a b c d e l):=by
 rw[zrJ]
 unfold za3 zdx
 rw[List.flatMap_map,List.map_flatMap]
 congr 1
 funext q
 simp[zbZ,zeI,mk_n,mk_m,zgZ,zaZ]
def zb9 (p:Pat) (i:Nat):List Pat:=(zdL ((p.kids.take i).map zap)).map fun l=>Pat.mk p.op p.ctor p.n p.m p.var l
theorem ztm (p:Pat):zb9 p 0=[.mk p.op p.ctor p.n p.m p.var []]:=by unfold zb9;simp[zdL]
theorem zp9 {p:Pat}{i:Nat} (h:i<p.kids.length):(zb9 p i).flatMap (zdx (zap (nth p.kids i)))=zb9 p (i+1):=by
 unfold zb9
 rw[zrs,List.take_succ_eq_append_getElem h,List.map_append,←zaG h];rfl
theorem zrq {p:Pat}{i:Nat} (h5:p.op≠5) (h:p.kids.length≤i):zb9 p i=zap p:=by
 unfold zb9;rw[zcQ h5,List.take_of_length_le h]
theorem zrr {n:Nat}{p:Pat} (h:binP (n+1) p=true) (h5:p.op≠5) (i:Nat):(zb9 p i).length≤(zap p).length:=by
 unfold zb9;rw[List.length_map];exact zqi h h5 i
theorem zp8 {p:Pat}{i:Nat}{q:Pat} (h:q∈zb9 p i):q.kids.length≤p.kids.length:=by
 unfold zb9 at h
 obtain⟨l,hl,rfl⟩:=List.mem_map.1 h
 obtain⟨q0,hq,r,e,hlr,_⟩:=zhp _ _ _ hl
 rw[List.mem_singleton] at hq
 rw[hq,List.nil_append] at e
 rw[zaZ,e,hlr];simp;omega
theorem zfR {α β:Type}{f:α→List β}{k:Nat} (hf:∀x,(f x).length≤k):∀l:List α,(l.flatMap f).length≤l.length*k
 | []=>by simp
 |x::r=>by
  rw[List.flatMap_cons,List.length_append,List.length_cons,Nat.succ_mul]
  have:=hf x;have:=zfR hf r;omega
theorem zet:∀(n:Nat){p:Pat},binP n p=true→p.ok→(zap p).length≤40→FnD Tryz.prog 141 [.agg [.d (.i p.op),.d (.i p.ctor),.d (.i p.n),.d (.i p.m),.d (.i p.var),.d (zad p.kids)]] [] (.gl 9 (Pat.cs (zap p))) [(9,some (.tok (Pat.cs (zap p)).length 6))]
 |0,p,h,_,_=>by simp[binP] at h
 |n+1,p,h,hok,hlen=>by
  have hok':=(Pat.ok_iff p).1 hok
  have hok1:=hok'.1
  by_cases h5:p.op=5
  ·have hl:=zjX h h5
   have e5:=zde h5 hl
   have l0:=zhw h (i:=0) (by omega)
   have l1:=zhw h (i:=1) (by omega)
   have c0:=zet n (zdH h (i:=0) (by omega)) (Pats.ok_mem hok'.2 _ (zae (by omega))) (by omega)
   have c1:=FnD.glD (zet n (zdH h (i:=1) (by omega)) (Pats.ok_mem hok'.2 _ (zae (by omega))) (by omega))
   rw[e5]
   refine bd Tryz.f141 70 [] [] fun w0 F0 own kept hk=>?_
   refine bx 3001 ?_
   refine ev ?_
   refine sq (fun h1 h1p h1s=>?_) fun h1 h1p h1s=>?_
   try simp only[Q,Pat.cs_len] at h1p
   refine Walk.idx (i:=0) sl26 .none rfl rfl rfl rfl (zaH (by omega)) rfl ?_
   refine evd [] [] ?_
   refine Walk.call (cr:=[9]) zlg (c0) rfl .none rfl rfl (LeL.refl _) trivial rfl rfl rfl ?_
   refine evd [] [] ?_
   refine Walk.idx (i:=1) sl26 .none rfl rfl rfl rfl (zaH (by omega)) rfl ?_
   refine evd [] [] ?_
   refine wc zlg (c1) rfl rfl ?_
   refine ap sl26 zz28 rfl rfl rfl (by intro x hx;exact zbD _ x hx) (by simp[Pat.cs_len];omega) ?_
   refine evd [] [] ?_
   refine dr ?_
   refine rn [(9,some (.tok (Pat.cs (zap (nth p.kids 0)++zap (nth p.kids 1))).length 6))] (r1 rfl) (.glg ?_) ⟨rfl,rfl⟩ (SubH.get ⟨?_,trivial⟩) (zaF rfl)
   rotate_left 2
   try simp only[Q,Pat.cs_len] at h1p
   exfalso;omega
   all_goals (first|((first|rfl|(simp[Pat.cs_cd];done));done)|(first|rfl|(simp[Pat.cs_cd];rfl)))
  ·have hfl:=zrr h h5
   have hfk:=fun(i:Nat) (q:Pat) (hq:q∈zb9 p i)=>zp8 hq
   have hf0:=ztm p
   have hfe:=fun(i:Nat) (hi:p.kids.length≤i)=>zrq h5 hi
   have hfn:=fun(i:Nat) (hi:i<p.kids.length)=>zp9 hi
   have hcal:=fun(i:Nat) (hi:i<p.kids.length)=>FnD.glD (zet n (zdH h hi) (Pats.ok_mem hok'.2 _ (zae hi)) (by have:=zhw h hi;omega))
   have hcl:=fun(i:Nat) (hi:i<p.kids.length)=>zhw h hi
   have hgl:=fun(C:List Pat) (q:Pat)=>show(zdx C q).length≤C.length from by unfold zdx;simp
   generalize zap p=SP at *
   refine bd Tryz.f141 70 [8] [10,23] fun w0 F0 own kept hk=>?_
   refine bx 3001 ?_
   refine evs [8] [] ?_
   refine sq (fun h1 h1p h1s=>?_) fun h1 h1p h1s=>?_
   try simp only[Q,Pat.cs_len] at h1p
   exfalso;omega
   try simp only[Q,Pat.cs_len] at h1p
   refine so ty26 ?_
   refine tv ?_
   refine Walk.sliceLitG 9 sl26 tz28 rfl (by decide) (ks:=[0]) (xs:=[_]) rfl rfl (by decide) (by decide) .none rfl rfl rfl rfl rfl ?_
   refine evs [8] [] ?_
   refine CWp.loopX (ι:=Nat) hk (fun i=>[(35,.d (.i (i:Int))),(4,.gl 9 ((zb9 p i).map Pat.cc)),(32,.any)]) [6,7,8,10,12,13,36,37,38,39,40,41,42,43,44,45,46,47,48,49,50,51,52,53,54,55,56,57,58,59,60,61,62,63,64,65,66,67,68] (fun i=>[(9,some (.tok (((zb9 p i).map Pat.cc)).length 6))]) (fun i=>i≤p.kids.length) (fun i=>p.kids.length-i) 0 (by omega) ⟨⟨_,rfl,LeA.eqi ?_⟩,⟨⟨_,rfl,LeA.glg ?_⟩,⟨⟨_,rfl,.any _⟩,trivial⟩⟩⟩ ⟨zab ?_,trivial⟩ (fun x=>rfl) (fun i hg1=>?_)
   iterate 3 focus (rfl)
   refine evc [8] [10,23] ?_
   refine sq (fun h2 h2p h2s=>?_) fun h2 h2p h2s=>?_
   try simp only[Q,Pat.cs_len] at h2p
   refine Walk.idx sl26 .none rfl rfl rfl rfl (zaH (by omega)) rfl ?_
   refine evs [8] [] ?_
   refine ab 3006 tz28 ?_
   refine so ty28 ?_
   refine tv ?_
   refine wc zlg (hcal i (by omega)) rfl rfl ?_
   refine evs [8] [] ?_
   refine CWp.tokDrop 4 9 rfl rfl ?_
   refine evc [8] [] ?_
   refine Walk.assignNil 3 6 .none rfl rfl ?_
   refine tv ?_
   refine CWp.loopX (ι:=List (Pat)×List (Pat)) hk (fun x=>[(43,.d (.i (x.1.length:Int))),(8,.gl 3 ((x.1.flatMap (zdx (zap (nth p.kids i)))).map Pat.cc))]) [10,12,13,44,45,46,47,48,49,50,51,52,53,54,55,56,57,58,59,60,61,62,63,64,65,66] (fun x=>[(3,some (.tok (((x.1.flatMap (zdx (zap (nth p.kids i)))).map Pat.cc)).length 6))]) (fun x=>x.1++x.2=zb9 p i) (fun x=>x.2.length) ([],zb9 p i) (by simp) ⟨⟨_,rfl,LeA.eqi ?_⟩,⟨⟨_,rfl,LeA.glg ?_⟩,trivial⟩⟩ ⟨zab ?_,trivial⟩ (fun x=>rfl) (fun x hg2=>?_)
   iterate 3 focus (rfl)
   obtain⟨pre2,rest2⟩:=x
   dsimp only at hg2 ⊢
   refine evc [8] [10,23] ?_
   refine sq (fun h3 h3p h3s=>?_) fun h3 h3p h3s=>?_
   try simp only[Q,Pat.cs_len] at h3p
   rcases rest2 with _|⟨q,rest2⟩
   ·exfalso;simp_all
   have hqk:=hfk i q (by rw[←hg2];simp);have hl2:=congrArg List.length hg2;simp only[List.length_append,List.length_cons] at hl2;have hl2b:=hfl i
   refine Walk.idx sl26 .none rfl rfl rfl rfl (zaK hg2) rfl ?_
   refine evs [8] [] ?_
   refine ab 3010 tz28 ?_
   refine so ty28 ?_
   refine tv ?_
   refine CWp.loopX (ι:=List (Pat)×List (Pat)) hk (fun x=>[(49,.d (.i (x.1.length:Int))),(8,.gl 3 ((pre2.flatMap (zdx (zap (nth p.kids i)))++zdx x.1 q).map Pat.cc))]) [12,13,50,51,52,53,54,55,56,57,58,59,60,61,62,63,64,65] (fun x=>[(3,some (.tok (((pre2.flatMap (zdx (zap (nth p.kids i)))++zdx x.1 q).map Pat.cc)).length 6))]) (fun x=>x.1++x.2=zap (nth p.kids i)) (fun x=>x.2.length) ([],zap (nth p.kids i)) (by simp) ⟨⟨_,rfl,LeA.eqi ?_⟩,⟨⟨_,rfl,LeA.glg ?_⟩,trivial⟩⟩ ⟨zab ?_,trivial⟩ (fun x=>rfl) (fun x hg3=>?_)
   iterate 3 focus ((simp[zdx];done))
   obtain⟨pre3,rest3⟩:=x
   dsimp only at hg3 ⊢
   refine evc [8] [10,23] ?_
   refine sq (fun h4 h4p h4s=>?_) fun h4 h4p h4s=>?_
   try simp only[Q,Pat.cs_len] at h4p
   rcases rest3 with _|⟨y,rest3⟩
   ·exfalso;simp_all
   have hl3:=congrArg List.length hg3;simp only[List.length_append,List.length_cons] at hl3;have hl3b:=hcl i (by omega)
   refine Walk.idx sl26 .none rfl rfl rfl rfl (Pat.cs_at' hg3) rfl ?_
   refine evs [8] [] ?_
   refine ab 3012 tz28 ?_
   refine so ty28 ?_
   refine tv ?_
   refine ab 3013 tz28 ?_
   refine so ty28 ?_
   refine tv ?_
   refine Walk.call (cr:=[77]) zoJ (zfh (xs:=q.kids) (by omega)) rfl .none rfl rfl (LeL.refl _) trivial rfl rfl rfl ?_
   refine evd [8] [] ?_
   refine si [0] [_] sl26 tz28 ?_
   refine ap sl26 zz28 rfl rfl rfl (by intro x hx;first|(simp at hx;subst hx;rfl)|exact zfw _ x hx) (by first|(simp;omega)|(simp only[Pat.cs_len,List.length_append,List.length_cons,List.length_nil];omega)) ?_
   refine evd [8] [] ?_
   refine so ty26 ?_
   refine dr ?_
   refine si [0] [_] sl26 tz28 ?_
   refine ap sl26 zz28 rfl rfl rfl (by intro x hx;first|(simp at hx;subst hx;rfl)|exact zbD _ x hx) (by first|(simp;omega)|(have h10:=hgl pre3 q;have h8:=congrArg List.length hg2;have h9:=congrArg List.length hg3;have h7:=zfR (hgl (zap (nth p.kids i))) pre2;have h6:=hfl i;have h5:=hcl i (by omega);simp only[List.length_append,List.length_cons,List.length_map,List.length_nil] at *;have h4:pre2.length*(zap (nth p.kids i)).length≤40*40:=Nat.mul_le_mul (by omega) (by omega);omega)) ?_
   refine asg ?_
   refine tv ?_
   refine ar ?_
   refine Exists.intro ((pre3++[y],rest3)) ⟨(by have hz:=hg3;rw[←hz];simp),(by simp),sx ⟨⟨_,rfl,LeA.eqi ?_⟩,⟨⟨_,rfl,LeA.glg ?_⟩,trivial⟩⟩ ⟨zab ?_,trivial⟩⟩
   iterate 3 focus (first|(simp[zdx];omega)|(simp[zdx,zbZ,zeI,mk_n,mk_m,zgZ,zaZ,Pat.cs_cd];done))
   try simp only[Q,Pat.cs_len] at h4p
   have hrest3:rest3=[]:=by
    rcases rest3 with _|⟨a,b⟩
    ·rfl
    ·exfalso;have hz:=congrArg List.length (hg3);simp only[List.length_append,List.length_cons,List.length_map] at hz;omega
   subst hrest3
   refine ar ?_
   refine Exists.intro ((pre2++[q],rest2)) ⟨(by have hz:=hg2;rw[←hz];simp),(by simp),sx ⟨⟨_,rfl,LeA.eqi ?_⟩,⟨⟨_,rfl,LeA.glg ?_⟩,trivial⟩⟩ ⟨zab ?_,trivial⟩⟩
   iterate 3 focus (first|(simp;done)|(rw[List.append_nil] at hg3;rw[List.flatMap_append,List.map_append];simp[zdx,←hg3];done))
   try simp only[Q,Pat.cs_len] at h3p
   have hrest2:rest2=[]:=by
    rcases rest2 with _|⟨a,b⟩
    ·rfl
    ·exfalso;have hz:=congrArg List.length (hg2);simp only[List.length_append,List.length_cons,List.length_map] at hz;omega
   subst hrest2
   refine CWp.tokRen 4 3 9 rfl rfl (by kernel_rfl) ?_
   refine evc [8] [] ?_
   refine ar ?_
   rw[List.append_nil] at hg2
   refine Exists.intro (i+1) ⟨(by omega),(by omega),sx ⟨⟨_,rfl,LeA.eqi ?_⟩,⟨⟨_,rfl,LeA.glg ?_⟩,⟨⟨_,rfl,.any _⟩,trivial⟩⟩⟩ ⟨zab ?_,trivial⟩⟩
   iterate 3 focus (first|rfl|(rw[←hfn i (by omega),←hg2];done))
   try simp only[Q,Pat.cs_len] at h2p
   refine rn [(9,some (.tok (Pat.cs SP).length 6))] (r1 rfl) (.glg ?_) ⟨rfl,rfl⟩ (SubH.get ⟨?_,trivial⟩) (zaF rfl)
   rotate_left 2
   all_goals ((((rw[←hfe i (by omega),show Pat.cs (zb9 p i)=(zb9 p i).map Pat.cc from Pat.cs_cd _];all_goals rfl));done))
def zaD (p:Pat):List Pat:=if (zap (zat p)).length≤40 then zap (zat p) else []
def zcI (p:Pat):Bool:=decide ((zap (zat p)).length≤40)
theorem ziM {w:List Data}{n:Nat}{t:Ty}{p:Pat} (h:zas w n t p=true) (hok:p.ok):FnD Tryz.prog 85 [.agg [.d (.i p.op),.d (.i p.ctor),.d (.i p.n),.d (.i p.m),.d (.i p.var),.d (zad p.kids)]] [] (.tup [.d (zad (zaD p)),.d (.bool (zcI p))]) []:=by
 have hb:=zf0 n h
 have hbo:=zjW p hok
 have hce:=(zjd n hb).1
 have hbp:=zcS _ (Nat.le_refl _) hok
 have hcs:=zdT _ (Nat.le_refl _) hbo
 have hsp:=fun h40=>FnD.glD (zet n hb hbo h40)
 rw[hce] at hcs
 unfold zaD zcI
 generalize zat p=b at *
 by_cases h40:(zap b).length≤40
 ·rw[if_pos h40,decide_eq_true h40]
  have hc40:cap ((zap b).length:Int)≤40:=by unfold cap;split<;>omega
  refine bd Tryz.f85 12 [] [] fun w0 F0 own kept hk=>?_
  refine bx 3001 ?_
  refine ev ?_
  refine wc zi8 (hbp) rfl rfl ?_
  refine ab 3004 tz28 ?_
  refine so ty28 ?_
  refine tv ?_
  refine wc zlf (hcs) rfl rfl ?_
  refine ev ?_
  refine sq (fun h1 h1p h1s=>?_) fun h1 h1p h1s=>?_
  try simp only[Q] at h1p
  exfalso;omega
  try simp only[Q] at h1p
  refine wc zlg (hsp h40) rfl rfl ?_
  refine ev ?_
  refine rn0 (r2 rfl rfl) (.tup (.cons (.eqd ?_) (.cons (.eqd ?_) .nil)))
  rotate_left 2
  all_goals (rfl)
 ·rw[if_neg h40,decide_eq_false h40]
  have hc40:¬cap ((zap b).length:Int)≤40:=by unfold cap;split<;>omega
  refine bd Tryz.f85 12 [] [] fun w0 F0 own kept hk=>?_
  refine bx 3001 ?_
  refine ev ?_
  refine wc zi8 (hbp) rfl rfl ?_
  refine ab 3004 tz28 ?_
  refine so ty28 ?_
  refine tv ?_
  refine wc zlf (hcs) rfl rfl ?_
  refine ev ?_
  refine sq (fun h1 h1p h1s=>?_) fun h1 h1p h1s=>?_
  try simp only[Q] at h1p
  refine rn0 (r2 rfl rfl) (.tup (.cons (.nild ?_) (.cons (.eqd ?_) .nil)))
  rotate_left 2
  try simp only[Q] at h1p
  exfalso;omega
  all_goals (rfl)
structure Spa (w:List Data):Prop where
 dp:Dp w
 ctors:∀t,InS (w.length*4) t→(zah w t).length≤4∧(zah w t).Nodup
 args:∀t c,InS (w.length*4) t→c∈zah w t→(zaa w t c).length≤3
theorem zje (k:Int):∀(l:List Ctor) (i:Nat),(zaV k i l).Pairwise (· < ·)
 | [],_=>by simp[zaV]
 |x::r,i=>by
  unfold zaV
  have ih:=zje k r (i+1)
  split
  ·refine List.pairwise_cons.2 ⟨fun y hy=>?_,ih⟩
   obtain⟨j,rfl,h1,_⟩:=zga k r (i+1) y hy
   omega
  ·exact ih
theorem ztX {w:List Data} (hs:WSmall w) (hv:za1 w=true):Spa w:=by
 have hd:=zp0 hs hv
 have hW:=(zce w).1 hv
 refine⟨hd,fun t ht=>?_,fun t c ht hc=>?_⟩
 ·unfold zah
  split
  ·simp
  ·rename_i he
   refine⟨?_,(zje _ _ _).imp (fun h=>by omega)⟩
   rcases ht with h|⟨h1,h2⟩
   ·exact absurd h he
   ·have:=hd.ct _ h1;rw[h2] at this;exact this
 ·have hti:=zbQ ht
  obtain⟨d,h1,h2,j,h3,h4⟩:=zck (a:=t.data) (k:=t.index) hti hc
  have hco:=hW.ctor _ (zae h2) _ (zae h4)
  simp only[zbs,Bool.and_eq_true,decide_eq_true_eq] at hco
  unfold zaa
  rw[h1,h3]
  simp only[Int.toNat_natCast,List.length_map]
  omega
abbrev intQ (n m:Int):Pat:= .mk 3 0 n m 0 []
abbrev zaS (c:Int) (l:List Pat):Pat:= .mk 4 c 0 0 0 l
def zbz (w:List Data) (t:Ty) (c:Int):Pat:=zaS c ((zaa w t c).map fun _=>anyQ)
def lowQ (p:Pat):Int:=if p.op=1 then 0 else p.n
def zb6 (p:Pat):Int:=if p.op=1 then 9 else p.m
def minQ (a b:Int):Int:=if b<a then b else a
def maxQ (a b:Int):Int:=if a<b then b else a
def zbE (n m:Int):List Pat:=if n≤m then [intQ n m] else []
def zbo (f:Pat→Pat→Option Pat):List Pat→List Pat→List Pat→Option (List Pat)
 |p::r,q::s,acc=>match f p q with
  |none=>none
  |some x=>zbo f r s (acc++[x])
 |_,_,acc=>some acc
def zan:Nat→Pat→Pat→Option Pat
 |0,_,_=>none
 |n+1,a,b=>if a.op=1 then some b else if b.op=1 then some a else if a.op=3 then (if maxQ a.n b.n≤minQ a.m b.m then some (intQ (maxQ a.n b.n) (minQ a.m b.m)) else none)
  else if a.ctor=b.ctor then (zbo (zan n) a.kids b.kids []).map (zaS a.ctor) else none
def zaI (f:Ty→Pat→Pat→List Pat) (c:Int):List Ty→List Pat→List Pat→List Pat→List Pat
 |u::r,x::s,y::q,front=>(f u x y).map (fun z=>zaS c (front++[z]++s))++(match zan 11 x y with
  |none=>[]
  |some both=>zaI f c r s q (front++[both]))
 |_,_,_,_=>[]
def zbP (f:Ty→Pat→Pat→List Pat) (w:List Data) (t:Ty) (a b:Pat):List Pat:=if a.ctor=b.ctor then zaI f a.ctor (zaa w t a.ctor) a.kids b.kids [] else [a]
def zdG (a b:Pat):List Pat:=zbE (lowQ a) (minQ (zb6 a) (b.n-1))++zbE (maxQ (lowQ a) (b.m+1)) (zb6 a)
def zaq (w:List Data):Nat→Ty→Pat→Pat→List Pat
 |0,_,_,_=>[]
 |n+1,t,a,b=>if b.op=1 then [] else if b.op=3 then zdG a b else if a.op=1 then (zah w t).flatMap fun c=>zbP (zaq w n) w t (zbz w t c) b else zbP (zaq w n) w t a b
section
variable {w:List Data}{n:Nat}{t:Ty}{a b:Pat}
theorem zeH (h:b.op=1):zaq w (n+1) t a b=[]:=by unfold zaq;rw[if_pos h]
theorem zgH (h:b.op=3):zaq w (n+1) t a b=zdG a b:=by unfold zaq;rw[if_neg (by omega),if_pos h]
theorem zfs (h:b.op=4) (h2:a.op=1):zaq w (n+1) t a b=(zah w t).flatMap fun c=>zbP (zaq w n) w t (zbz w t c) b:=by
 conv=>lhs;unfold zaq
 rw[if_neg (by omega),if_neg (by omega),if_pos h2]
theorem zcH (h:b.op=4) (h2:a.op=4):zaq w (n+1) t a b=zbP (zaq w n) w t a b:=by
 conv=>lhs;unfold zaq
 rw[if_neg (by omega),if_neg (by omega),if_neg (by omega)]
theorem zfW (h:a.op=1):zan (n+1) a b=some b:=by unfold zan;rw[if_pos h]
theorem zgX (h:a.op≠1) (h2:b.op=1):zan (n+1) a b=some a:=by unfold zan;rw[if_neg h,if_pos h2]
theorem zgY (h:a.op=3) (h2:b.op≠1):zan (n+1) a b=if maxQ a.n b.n≤minQ a.m b.m then some (intQ (maxQ a.n b.n) (minQ a.m b.m)) else none:=by
 conv=>lhs;unfold zan
 rw[if_neg (by omega),if_neg h2,if_pos h]
theorem zfX (h:a.op=4) (h2:b.op≠1) (hc:a.ctor=b.ctor):zan (n+1) a b=(zbo (zan n) a.kids b.kids []).map (zaS a.ctor):=by
 conv=>lhs;unfold zan
 rw[if_neg (by omega),if_neg h2,if_neg (by omega),if_pos hc]
theorem zfq (h:a.op=4) (h2:b.op≠1) (hc:¬a.ctor=b.ctor):zan (n+1) a b=none:=by
 conv=>lhs;unfold zan
 rw[if_neg (by omega),if_neg h2,if_neg (by omega),if_neg hc]
end
theorem zbt {w:List Data}{n:Nat}{t:Ty}{p:Pat} (h:zac w n t p=true) (h3:p.op=3):t.data = -1∧0≤p.n∧p.n≤p.m∧p.m≤9:=by
 have ho:=(zex h).1
 unfold ownP at ho
 have:=(of_decide_eq_true ho).2.2.2.2
 omega
theorem zax {w:List Data}{n:Nat}{t:Ty}{p:Pat} (h:zac w n t p=true) (h4:p.op=4):p.ctor∈zah w t∧t.data≠ -1∧p.kids.length=(zaa w t p.ctor).length∧p=zaS p.ctor p.kids:=by
 obtain⟨ho,hl⟩:=zex h
 have hm:=zb3 ho h4
 refine⟨hm,fun e=>by unfold zah at hm;rw[if_pos e] at hm;simp at hm,by rw[zaR h4] at hl;exact hl, ?_⟩
 unfold ownP at ho
 have hh:=of_decide_eq_true ho
 have h1:=hh.2.1 (by omega)
 have h2:=hh.2.2.1 (by omega)
 obtain⟨op,c,m,k,v,ks⟩:=p
 change op=4 at h4
 change v=0 at h1
 change m=0∧k=0 at h2
 rw[h4,h1,h2.1,h2.2];rfl
theorem znB {w:List Data}{n:Nat}{t:Ty}{a b:Int} (ht:t.data = -1) (h0:0≤a) (h1:a≤b) (h2:b≤9):zac w (n+1) t (intQ a b)=true:=by
 unfold zac
 have e:zaf w t (intQ a b)=[]:=rfl
 rw[e]
 have ho:ownP w t (intQ a b)=true:=by
  unfold ownP
  refine decide_eq_true ⟨fun h=>?_,fun _=>rfl,fun h=>absurd rfl h,fun _=>rfl,.inr (.inr (.inr (.inr (.inl ⟨rfl,ht,h0,h1,h2⟩))))⟩
  exfalso;change (3:Int)=2∨(3:Int)=6 at h;omega
 rw[ho];rfl
theorem zid {w:List Data}{n:Nat}{t:Ty}{c:Int}{l:List Pat} (hc:c∈zah w t) (hl:l.length=(zaa w t c).length) (hk:∀i,i<l.length→zac w n (nth (zaa w t c) i) (nth l i)=true):zac w (n+1) t (zaS c l)=true:=by
 unfold zac
 have e:zaf w t (zaS c l)=zaa w t c:=zaR rfl
 have ho:ownP w t (zaS c l)=true:=by
  unfold ownP
  refine decide_eq_true ⟨fun h=>?_,fun _=>rfl,fun _=>⟨rfl,rfl⟩,fun h=>absurd rfl h,.inr (.inr (.inr (.inr (.inr ⟨rfl,hc⟩))))⟩
  exfalso;change (4:Int)=2∨(4:Int)=6 at h;omega
 rw[ho,e,zaZ]
 exact zb4 hl.symm (fun i hi=>hk i (by omega))
theorem zcY {w:List Data}{n m:Nat} (h:n≤m){t:Ty}{p:Pat} (hp:zac w n t p=true):zac w m t p=true:=by
 induction h with
 |refl=>exact hp
 |step _ ih=>exact zfZ _ ih
theorem zcl {w:List Data}{n:Nat}{t:Ty}{c:Int} (hc:c∈zah w t):zac w (n+2) t (zbz w t c)=true:=by
 unfold zbz
 refine zid hc (by simp) (fun i hi=>?_)
 have e:nth ((zaa w t c).map fun _=>anyQ) i=anyQ:=by
  rw[zaG hi];simp
 rw[e];exact zi1
theorem zlQ {f:Pat→Pat→Option Pat}{a b:List Pat}{i:Nat}{acc:List Pat} (h1:i<a.length) (h2:i<b.length) (h:f (nth a i) (nth b i)=none):zbo f (a.drop i) (b.drop i) acc=none:=by
 rw[zaW h1,zaW h2,zbo,h]
theorem zlR {f:Pat→Pat→Option Pat}{a b:List Pat}{i:Nat}{acc:List Pat}{x:Pat} (h1:i<a.length) (h2:i<b.length) (h:f (nth a i) (nth b i)=some x):zbo f (a.drop i) (b.drop i) acc=zbo f (a.drop (i+1)) (b.drop (i+1)) (acc++[x]):=by
 rw[zaW h1,zaW h2,zbo,h]
theorem zeF {f:Pat→Pat→Option Pat}{a b:List Pat}{i:Nat}{acc:List Pat} (h1:a.length≤i):zbo f (a.drop i) (b.drop i) acc=some acc:=by
 rw[List.drop_eq_nil_of_le h1];cases b.drop i<;>rfl
theorem zeb {f:Pat→Pat→Option Pat}:∀ {a b acc l:List Pat},a.length=b.length→zbo f a b acc=some l→∃r,l=acc++r∧r.length=a.length∧∀i,i<a.length→f (nth a i) (nth b i)=some (nth r i)
 | [],[],acc,l,_,h=>by
  simp only[zbo,Option.some.injEq] at h
  exact⟨[],by simp[h],rfl,fun i hi=>by simp at hi⟩
 |p::r,q::s,acc,l,hl,h=>by
  unfold zbo at h
  cases hf:f p q with
  |none=>rw[hf] at h;cases h
  |some x=>
   rw[hf] at h
   obtain⟨z,e,hz,hm⟩:=zeb (a:=r) (b:=s) (by simpa using hl) h
   refine⟨x::z,by rw[e];simp,by simp[hz],fun i hi=>?_⟩
   cases i with
   |zero=>exact hf
   |succ i=>exact hm i (by simpa using hi)
 | [],_::_,_,_,hl,_=>by simp at hl
 |_::_,[],_,_,hl,_=>by simp at hl
theorem zbM {w:List Data}{n m:Nat}{t:Ty}{a b:Pat} (ha:zac w n t a=true) (hb:zac w m t b=true) (h1:a.op≠1) (h2:b.op≠1):a.op=b.op:=by
 have oa:=zbc ha
 have ob:=zbc hb
 rcases oa with h|h|h
 ·exact absurd h h1
 ·rcases ob with h' | h' | h'
  ·exact absurd h' h2
  ·omega
  ·exact absurd (zbt ha h).1 (zax hb h').2.1
 ·rcases ob with h' | h' | h'
  ·exact absurd h' h2
  ·exact absurd (zbt hb h').1 (zax ha h).2.1
  ·omega
theorem zqU (a b:Int):minQ a b≤a∧minQ a b≤b:=by unfold minQ;split<;>omega
theorem zqQ (a b:Int):a≤maxQ a b∧b≤maxQ a b:=by unfold maxQ;split<;>omega
theorem zuU (a b:Int):minQ a b=a∨minQ a b=b:=by unfold minQ;split<;>omega
theorem zuT (a b:Int):maxQ a b=a∨maxQ a b=b:=by unfold maxQ;split<;>omega
theorem zjt {w:List Data}:∀(n m:Nat){t:Ty}{a b x:Pat},zac w m t a=true→zac w m t b=true→zan n a b=some x→zac w m t x=true
 |0,m,t,a,b,x,_,_,h=>by simp[zan] at h
 |n+1,0,t,a,b,x,ha,_,_=>by simp[zac] at ha
 |n+1,m+1,t,a,b,x,ha,hb,h=>by
  by_cases h1:a.op=1
  ·rw[zfW h1] at h;cases h;exact hb
  by_cases h2:b.op=1
  ·rw[zgX h1 h2] at h;cases h;exact ha
  have hs:=zbM ha hb h1 h2
  have oa:=zbc ha
  by_cases h3:a.op=3
  ·rw[zgY h3 h2] at h
   split at h
   ·cases h
    have ia:=zbt ha h3
    have ib:=zbt hb (by omega)
    have q1:=zuU a.m b.m
    have q2:=zuT a.n b.n
    refine znB ia.1 (by omega) (by assumption) (by omega)
   ·cases h
  have h4:a.op=4:=by omega
  by_cases hc:a.ctor=b.ctor
  ·rw[zfX h4 h2 hc] at h
   obtain⟨m1,m2,m3,m4⟩:=zax ha h4
   obtain⟨n1,n2,n3,n4⟩:=zax hb (by omega)
   rw[←hc] at n3
   cases hl:zbo (zan n) a.kids b.kids [] with
   |none=>rw[hl] at h;cases h
   |some l=>
    rw[hl] at h
    simp only[Option.map_some,Option.some.injEq] at h
    subst h
    obtain⟨r,e,hr,hm⟩:=zeb (by omega) hl
    rw[List.nil_append] at e
    subst e
    refine zid m1 (by omega) (fun i hi=>?_)
    have ka:=zaE ha (i:=i) (by omega)
    have kb:=zaE hb (i:=i) (by omega)
    rw[zaR h4] at ka
    rw[zaR (by omega),←hc] at kb
    exact zjt n m ka kb (hm i (by omega))
  ·rw[zfq h4 h2 hc] at h;cases h
theorem zma {w:List Data}{n:Nat}{t:Ty}{a b:Int} (ht:t.data = -1) (h0:0≤a) (h2:b≤9):∀x∈zbE a b,zac w (n+1) t x=true:=by
 intro x hx
 unfold zbE at hx
 split at hx
 ·rename_i h1
  rw[List.mem_singleton] at hx
  rw[hx];exact znB ht h0 h1 h2
 ·simp at hx
theorem zkT {w:List Data}{n:Nat}{t:Ty}{a:Pat} (ha:zac w n t a=true) (ht:t.data = -1):0≤lowQ a∧zb6 a≤9∧lowQ a≤zb6 a:=by
 have oa:=zbc ha
 unfold lowQ zb6
 by_cases h1:a.op=1
 ·rw[if_pos h1,if_pos h1];omega
 ·rw[if_neg h1,if_neg h1]
  by_cases h3:a.op=3
  ·have:=zbt ha h3;omega
  ·exact absurd ht (zax ha (by omega)).2.1
theorem zrz (a b:Pat):(zdG a b).length≤2:=by
 have h:∀x y,(zbE x y).length≤1:=fun x y=>by unfold zbE;split<;>simp
 unfold zdG
 rw[List.length_append]
 have:=h (lowQ a) (minQ (zb6 a) (b.n-1));have:=h (maxQ (lowQ a) (b.m+1)) (zb6 a);omega
theorem zqc {w:List Data}{f:Ty→Pat→Pat→List Pat}{m:Nat}{t:Ty}{c:Int} (hc:c∈zah w t) (hf:∀u x y,zac w m u x=true→zac w m u y=true→∀z∈f u x y,zac w m u z=true):
  ∀(i:Nat){xs bs front:List Pat},front.length=i→xs.length+i=(zaa w t c).length→bs.length=xs.length→(∀j,j<i→zac w m (nth (zaa w t c) j) (nth front j)=true)→
   (∀j,j<xs.length→zac w m (nth (zaa w t c) (i+j)) (nth xs j)=true∧zac w m (nth (zaa w t c) (i+j)) (nth bs j)=true)→
   ∀x∈zaI f c ((zaa w t c).drop i) xs bs front,zac w (m+1) t x=true:=by
 intro i xs
 induction xs generalizing i with
 |nil=>
  intro bs front _ _ _ _ _ x hx
  cases hT:(zaa w t c).drop i<;>(rw[hT] at hx;simp[zaI] at hx)
 |cons a0 s ih=>
  intro bs front hfl hal hbl hfr hab x hx
  cases bs with
  |nil=>simp at hbl
  |cons b0 q=>
   have hi:i<(zaa w t c).length:=by simp at hal;omega
   rw[zaW hi] at hx
   have h0:=hab 0 (by simp)
   simp only[Nat.add_zero] at h0
   have e0:nth (a0::s) 0=a0:=rfl
   have e1:nth (b0::q) 0=b0:=rfl
   rw[e0,e1] at h0
   unfold zaI at hx
   have hpiece:∀z,zac w m (nth (zaa w t c) i) z=true→∀j,j<(front++[z]++s).length→zac w m (nth (zaa w t c) j) (nth (front++[z]++s) j)=true:=fun z hz j hj=>by
    by_cases hj1:j<i
    ·have e:nth (front++[z]++s) j=nth front j:=by
      simp only[nth,List.getD,List.append_assoc]
      rw[List.getElem?_append_left (by omega)]
     rw[e];exact hfr j hj1
    ·by_cases hj2:j=i
     ·have e:nth (front++[z]++s) j=z:=by
       simp only[nth,List.getD,List.append_assoc]
       rw[List.getElem?_append_right (by omega),show j-front.length=0 by omega];rfl
      rw[e,hj2];exact hz
     ·obtain⟨k,rfl⟩:∃k,j=i+1+k:=⟨j-(i+1),by omega⟩
      have e:nth (front++[z]++s) (i+1+k)=nth (a0::s) (k+1):=by
       simp only[nth,List.getD,List.append_assoc]
       rw[List.getElem?_append_right (by omega),show i+1+k-front.length=k+1 by omega];rfl
      rw[e]
      have:=(hab (k+1) (by simp at hj ⊢;omega)).1
      rwa [show i+(k+1)=i+1+k by omega] at this
   rcases List.mem_append.1 hx with hx|hx
   ·obtain⟨z,hz,rfl⟩:=List.mem_map.1 hx
    refine zid hc (by simp at hal ⊢;omega) (hpiece z (hf _ _ _ h0.1 h0.2 z hz))
   ·cases hm:zan 11 a0 b0 with
    |none=>rw[hm] at hx;simp at hx
    |some both=>
     rw[hm] at hx
     have hbp:=zjt 11 m h0.1 h0.2 hm
     refine ih (i+1) (bs:=q) (front:=front++[both]) (by simp[hfl]) (by simp at hal ⊢;omega) (by simpa using hbl) (fun j hj=>?_) (fun j hj=>?_) x hx
     ·have:=hpiece both hbp j (by simp;omega)
      have e:nth (front++[both]++s) j=nth (front++[both]) j:=by
       simp only[nth,List.getD]
       rw[List.getElem?_append_left (by simp;omega)]
      rwa [e] at this
     ·have:=hab (j+1) (by simpa using hj)
      rwa [show i+(j+1)=i+1+j by omega] at this
theorem ze4 {w:List Data}:∀(n m:Nat){t:Ty}{a b:Pat},n<m→zac w m t a=true→zac w n t b=true→∀x∈zaq w n t a b,zac w m t x=true
 |0,m,t,a,b,_,_,hb=>by simp[zac] at hb
 |n+1,0,t,a,b,hn,_,_=>by omega
 |n+1,m+1,t,a,b,hn,ha,hb=>by
  have ob:=zbc hb
  have oa:=zbc ha
  have hf:∀u x y,zac w m u x=true→zac w n u y=true→∀z∈zaq w n u x y,zac w m u z=true:=fun u x y hx hy=>ze4 n m (by omega) hx hy
  have hcc:∀a,zac w (m+1) t a=true→a.op=4→b.op=4→∀x∈zbP (zaq w n) w t a b,zac w (m+1) t x=true:=fun a ha h4 h4b=>by
   obtain⟨m1,m2,m3,m4⟩:=zax ha h4
   obtain⟨n1,n2,n3,n4⟩:=zax hb h4b
   intro x hx
   unfold zbP at hx
   split at hx
   ·rename_i hc
    have key:=zqc (w:=w) (f:=fun u x y=>if zac w m u x=true∧zac w n u y=true then zaq w n u x y else []) (m:=m) (t:=t) (c:=a.ctor) m1 (fun u x y hx hy z hz=>by
     split at hz
     ·rename_i hh;exact hf u x y hh.1 hh.2 z hz
     ·simp at hz) 0 (xs:=a.kids) (bs:=b.kids) (front:=[]) rfl (by omega) (by rw[hc] at m3;omega) (fun j hj=>by omega) (fun j hj=>by
      have ka:=zaE ha (i:=j) hj
      have kb:=zaE hb (i:=j) (by rw[hc] at m3;omega)
      rw[zaR h4] at ka
      rw[zaR h4b,←hc] at kb
      rw[Nat.zero_add]
      exact⟨ka,zcY (by omega) kb⟩) x
    refine key ?_
    have e:∀(ts:List Ty) (xs bs front:List Pat),(∀j,j<ts.length→j<xs.length→j<bs.length→zac w m (nth ts j) (nth xs j)=true∧zac w n (nth ts j) (nth bs j)=true)→
      zaI (fun u x y=>if zac w m u x=true∧zac w n u y=true then zaq w n u x y else []) a.ctor ts xs bs front=zaI (zaq w n) a.ctor ts xs bs front:=by
     intro ts
     induction ts with
     |nil=>intro xs bs front _;simp[zaI]
     |cons u r ih=>
      intro xs bs front h
      cases xs with
      |nil=>simp[zaI]
      |cons x s=>
       cases bs with
       |nil=>simp[zaI]
       |cons y q=>
        have h0:=h 0 (by simp) (by simp) (by simp)
        change zac w m u x=true∧zac w n u y=true at h0
        unfold zaI
        rw[if_pos h0]
        congr 1
        cases hmm:zan 11 x y with
        |none=>rfl
        |some both=>exact ih s q (front++[both]) (fun j h1 h2 h3=>h (j+1) (by simpa using h1) (by simpa using h2) (by simpa using h3))
    rw[List.drop_zero,e _ _ _ _ (fun j h1 h2 h3=>?_)]
    ·exact hx
    ·have ka:=zaE ha (i:=j) h2
     have kb:=zaE hb (i:=j) h3
     rw[zaR h4] at ka
     rw[zaR h4b,←hc] at kb
     exact⟨ka,kb⟩
   ·rw[List.mem_singleton] at hx
    rw[hx];exact ha
  rcases ob with h1|h3|h4
  ·rw[zeH h1];simp
  ·rw[zgH h3]
   intro x hx
   have hl:=zkT ha (zbt hb h3).1
   have ib:=zbt hb h3
   have q1:=zqU (zb6 a) (b.n-1)
   have q2:=zqQ (lowQ a) (b.m+1)
   unfold zdG at hx
   rcases List.mem_append.1 hx with h|h
   ·exact zma ib.1 (by omega) (by omega) x h
   ·exact zma ib.1 (by omega) (by omega) x h
  ·by_cases ha1:a.op=1
   ·rw[zfs h4 ha1]
    intro x hx
    obtain⟨c,hc,hx⟩:=List.mem_flatMap.1 hx
    refine hcc _ ?_ rfl h4 x hx
    obtain⟨k,rfl⟩:∃k,m=k+1:=⟨m-1,by omega⟩
    exact zcl hc
   ·have ha4:a.op=4:=by
     have:=zbM ha hb ha1 (by omega);omega
    rw[zcH h4 ha4]
    exact hcc a ha ha4 h4
theorem zgI {w:List Data} (hs:Spa w):∀(n:Nat){t:Ty}{p:Pat},InS (w.length*4) t→zac w n t p=true→p.ok∧p.size≤4 ^ n
 |0,t,p,_,h=>by simp[zac] at h
 |n+1,t,p,ht,h=>by
  have hk:=fun i (hi:i<p.kids.length)=>zaE h hi
  have hl:=(zex h).2
  have op:=zbc h
  have hpow:4 ^ (n+1)=4 ^ n*4:=rfl
  have hpos:0<4 ^ n:=Nat.pow_pos (by omega)
  by_cases h4:p.op=4
  ·obtain⟨m1,m2,m3,m4⟩:=zax h h4
   have h3:=hs.args t p.ctor ht m1
   rw[zaR h4] at hk
   have ih:∀k∈p.kids,k.ok∧k.size≤4 ^ n:=fun k hkm=>by
    obtain⟨i,hi,rfl⟩:=List.getElem_of_mem hkm
    have e:nth p.kids i=p.kids[i]:=zaG hi
    have:=zgI hs n (zbl hs.dp ht m1 _ (zae (i:=i) (by omega))) (hk i hi)
    rwa [e] at this
   have hz:=Pats.size_of (m:=4 ^ n) (fun k hk=>(ih k hk).2)
   rw[Pat.ok_iff,Pat.size_eq]
   refine⟨⟨by omega,Pats.ok_of (fun k hk=>(ih k hk).1)⟩, ?_⟩
   have:p.kids.length*4 ^ n≤3*4 ^ n:=Nat.mul_le_mul_right _ (by omega)
   omega
  ·have hk0:p.kids=[]:=zeg (zgr _ h) h4 (by omega) (by omega)
   rw[Pat.ok_iff,Pat.size_eq,hk0]
   exact⟨⟨by simp,trivial⟩,by simp only[Pats.size];omega⟩
theorem znr {α:Type}{g:Int→List α}{c0:Int}{X:Nat}:∀ {cs:List Int},cs.Nodup→(∀c∈cs,c≠c0→(g c).length≤1)→(g c0).length≤X→(cs.flatMap g).length≤cs.length+X
 | [],_,_,_=>by simp
 |c::r,hn,h1,h2=>by
  obtain⟨n1,n2⟩:=List.nodup_cons.1 hn
  rw[List.flatMap_cons,List.length_append,List.length_cons]
  by_cases hc:c=c0
  ·have key:∀l:List Int,c0∉l→(∀x∈l,x≠c0→(g x).length≤1)→(l.flatMap g).length≤l.length:=by
    intro l
    induction l with
    |nil=>intro _ _;simp
    |cons y s ih=>
     intro hm hh
     rw[List.flatMap_cons,List.length_append,List.length_cons]
     have a1:=hh y (by simp) (fun e=>hm (by rw[e];simp))
     have a2:=ih (fun e=>hm (by simp[e])) (fun x hx=>hh x (by simp[hx]))
     omega
   have:=key r (by rw[←hc];exact n1) (fun x hx=>h1 x (by simp[hx]))
   rw[hc];omega
  ·have a1:=h1 c (by simp) hc
   have a2:=znr (X:=X) n2 (fun x hx=>h1 x (by simp[hx])) h2
   omega
theorem zlX {f:Ty→Pat→Pat→List Pat}{c:Int} (L:Pat→Nat):∀(ts:List Ty) (xs bs front:List Pat),(∀i,i<ts.length→i<xs.length→i<bs.length→(f (nth ts i) (nth xs i) (nth bs i)).length≤L (nth bs i))→(zaI f c ts xs bs front).length≤(bs.map L).sum
 | [],xs,bs,front,_=>by simp[zaI]
 |_::_,[],bs,front,_=>by simp[zaI]
 |_::_,_::_,[],front,_=>by simp[zaI]
 |u::r,x::s,y::q,front,h=>by
  have h0:=h 0 (by simp) (by simp) (by simp)
  change (f u x y).length≤L y at h0
  unfold zaI
  rw[List.length_append,List.length_map,List.map_cons,List.sum_cons]
  cases hm:zan 11 x y with
  |none=>simp;omega
  |some both=>
   have:=zlX (c:=c) L r s q (front++[both]) (fun i h1 h2 h3=>h (i+1) (by simpa using h1) (by simpa using h2) (by simpa using h3))
   dsimp only;omega
theorem zry {w:List Data}{f:Ty→Pat→Pat→List Pat}{t:Ty}{a b:Pat}{L:Pat→Nat} (h:∀i,i<(zaa w t a.ctor).length→i<a.kids.length→i<b.kids.length→(f (nth (zaa w t a.ctor) i) (nth a.kids i) (nth b.kids i)).length≤L (nth b.kids i)):
  (zbP f w t a b).length≤if a.ctor=b.ctor then (b.kids.map L).sum else 1:=by
 unfold zbP
 split
 ·exact zlX L _ _ _ _ h
 ·simp
theorem sum4:∀l:List Pat,(l.map fun b=>4*b.size).sum=4*Pats.size l
 | []=>rfl
 |k::r=>by simp only[List.map_cons,List.sum_cons,Pats.size,sum4 r];omega
theorem znL {w:List Data} (hs:Spa w):∀(n m:Nat){t:Ty}{a b:Pat},n<m→InS (w.length*4) t→zac w m t a=true→zac w n t b=true→(zaq w n t a b).length≤4*b.size
 |0,m,t,a,b,_,_,_,hb=>by simp[zac] at hb
 |n+1,0,t,a,b,hn,_,_,_=>by omega
 |n+1,m+1,t,a,b,hn,ht,ha,hb=>by
  have ob:=zbc hb
  have hz:=Pat.size_eq b
  rcases ob with h1|h3|h4
  ·rw[zeH h1];simp
  ·rw[zgH h3];have:=zrz a b;omega
  ·obtain⟨n1,n2,n3,n4⟩:=zax hb h4
   have hcc:∀a,zac w (m+1) t a=true→a.op=4→(zbP (zaq w n) w t a b).length≤if a.ctor=b.ctor then 4*Pats.size b.kids else 1:=fun a ha h4a=>by
    obtain⟨m1,m2,m3,m4⟩:=zax ha h4a
    rw[←sum4]
    by_cases hc:a.ctor=b.ctor
    ·have:=zry (w:=w) (f:=zaq w n) (t:=t) (a:=a) (b:=b) (L:=fun b=>4*b.size) (fun i h1 h2 h3=>by
      have ka:=zaE ha (i:=i) h2
      have kb:=zaE hb (i:=i) h3
      rw[zaR h4a] at ka
      rw[zaR h4,←hc] at kb
      exact znL hs n m (by omega) (zbl hs.dp ht m1 _ (zae h1)) ka kb)
     exact this
    ·unfold zbP;rw[if_neg hc,if_neg hc];simp
   by_cases ha1:a.op=1
   ·rw[zfs h4 ha1]
    obtain⟨c1,c2⟩:=hs.ctors t ht
    have hw:∀c,c∈zah w t→(zbP (zaq w n) w t (zbz w t c) b).length≤if c=b.ctor then 4*Pats.size b.kids else 1:=fun c hc=>by
     obtain⟨k,rfl⟩:∃k,m=k+1:=⟨m-1,by omega⟩
     exact hcc _ (zcl hc) rfl
    have:=znr (g:=fun c=>zbP (zaq w n) w t (zbz w t c) b) (c0:=b.ctor) (X:=4*Pats.size b.kids) c2 (fun c hc hne=>by have:=hw c hc;rwa [if_neg hne] at this) (by have:=hw _ n1;rwa [if_pos rfl] at this)
    omega
   ·have ha4:a.op=4:=by have:=zbM ha hb ha1 (by omega);omega
    rw[zcH h4 ha4]
    have:=hcc a ha ha4
    split at this<;>omega
theorem zla {α β:Type} [Inhabited α] [Inhabited β]{f:α→β→Bool}:∀ {a:List α}{b:List β},a.length=b.length→all2 f a b=false→∃i,i<a.length∧f (nth a i) (nth b i)=false
 | [],[],_,h=>by simp[all2] at h
 |x::r,y::s,hl,h=>by
  simp only[all2,Bool.and_eq_false_iff] at h
  rcases h with h|h
  ·exact⟨0,by simp,h⟩
  ·obtain⟨i,h1,h2⟩:=zla (by simpa using hl) h
   exact⟨i+1,by simpa using h1,h2⟩
 | [],_::_,hl,_=>by simp at hl
 |_::_,[],hl,_=>by simp at hl
theorem zeC {w:List Data}{f:Nat→Nat}{n:Nat}{t:Ty}{p:Pat} (h:p.op=1):zaQ w f (n+1) t p=decide (dv f t=0):=by rw[zfG,if_pos (.inl h)]
theorem zj0 {w:List Data}{f:Nat→Nat}{n m:Nat}{t:Ty}{p:Pat} (hp:zac w m t p=true) (h:p.op=3):zaQ w f (n+1) t p=false:=by
 rw[zfG,if_neg (by omega),if_neg (by omega)]
 have e:zaf w t p=[]:=by unfold zaf;rw[if_neg (by omega),if_neg (by omega),if_neg (by omega)]
 have hl:=(zex hp).2
 rw[e] at hl ⊢
 rw[List.eq_nil_of_length_eq_zero hl];rfl
theorem zhN {w:List Data}{f:Nat→Nat}{n:Nat}{t:Ty}{p:Pat} (h:p.op=4):zaQ w f (n+1) t p = !(all2 (fun u q=> !zaQ w f n u q) (zaa w t p.ctor) p.kids):=by
 rw[zfG,if_neg (by omega),if_neg (by omega),zaR h]
theorem zkC {w:List Data}{f:Nat→Nat}{n m:Nat}{t:Ty}{p:Pat} (hp:zac w m t p=true) (h:p.op=4) (hd:zaQ w f (n+1) t p=true):∃i,i<p.kids.length∧zaQ w f n (nth (zaa w t p.ctor) i) (nth p.kids i)=true:=by
 rw[zhN h] at hd
 have hl:=(zax hp h).2.2.1
 obtain⟨i,h1,h2⟩:=zla (a:=zaa w t p.ctor) (b:=p.kids) (f:=fun u q=> !zaQ w f n u q) hl.symm (by simpa using hd)
 exact⟨i,by omega,by simpa using h2⟩
theorem zgW {w:List Data}{f:Nat→Nat}{n:Nat}{t:Ty}{c:Int}{l:List Pat}{i:Nat} (hi:i<l.length) (hl:l.length=(zaa w t c).length) (hd:zaQ w f n (nth (zaa w t c) i) (nth l i)=true):zaQ w f (n+1) t (zaS c l)=true:=by
 rw[zhN rfl]
 have:=zbR (f:=fun u q=> !zaQ w f n u q) (a:=zaa w t c) (b:=l) (i:=i) (by omega) hl.symm (by rw[hd];rfl)
 show(!all2 (fun u q=> !zaQ w f n u q) (zaa w t c) l)=true
 rw[this];rfl
theorem zv5 {w:List Data} (hd:Dp w){t:Ty}{c:Int} (ht:InS (w.length*4) t) (hc:c∈zah w t) (h0:dv (zai w) t=0):∃i,i<(zaa w t c).length∧dv (zai w) (nth (zaa w t c) i)=0:=by
 by_cases hx:∃i,i<(zaa w t c).length∧dv (zai w) (nth (zaa w t c) i)=0
 ·exact hx
 ·exfalso
  have a:Snd w (zai w)∧Cmp w (w.length*4+1) (zai w):=zcM hd.cl (w.length*4+1)
  have hdt:t.data≠ -1:=fun e=>by unfold zah at hc;rw[if_pos e] at hc;simp at hc
  have hb:∀u∈zaa w t c,Hd w (w.length*4+1) u:=fun u hu=>by
   obtain⟨i,hi,rfl⟩:=List.getElem_of_mem hu
   have hpos:0<dv (zai w) (zaa w t c)[i]:=by
    have e:nth (zaa w t c) i=(zaa w t c)[i]:=zaG hi
    rcases Nat.eq_zero_or_pos (dv (zai w) (zaa w t c)[i]) with h|h
    ·exact absurd ⟨i,hi,by rw[e];exact h⟩ hx
    ·exact h
   have hin:=zbl hd ht hc _ hu
   have h1:=zls a.1 hin hpos
   rcases hin with h2|⟨h2,h3⟩
   ·exact .inl h2
   ·rw[←h3] at h1 ⊢
    exact zlB hd.cl h2 h1
  have h2:Hd w (w.length*4+2) t:= .inr ⟨c,zjV hc,hdt,hb⟩
  rcases ht with h3|⟨h3,h4⟩
  ·exact hdt h3
  ·rw[←h4] at h2
   have h5:=zlB hd.cl h3 h2
   rw[h4] at h5
   have:=(zjg a.2 (.inr ⟨h3,h4⟩) h5).1
   omega
section
variable {w:List Data} (hs:Spa w)
include hs
theorem zjf:∀(n:Nat){t:Ty}{p:Pat},InS (w.length*4) t→zac w n t p=true→dv (zai w) t=0→zaQ w (zai w) n t p=true
 |0,t,p,_,h,_=>by simp[zac] at h
 |n+1,t,p,ht,h,h0=>by
  rcases zbc h with h1|h3|h4
  ·rw[zeC h1];exact decide_eq_true h0
  ·have:=(zbt h h3).1
   unfold dv at h0;rw[if_pos this] at h0;omega
  ·obtain⟨m1,m2,m3,m4⟩:=zax h h4
   obtain⟨i,h5,h6⟩:=zv5 hs.dp ht m1 h0
   rw[m4]
   have hk:=zaE h (i:=i) (by omega)
   rw[zaR h4] at hk
   exact zgW (by omega) m3 (zjf n (zbl hs.dp ht m1 _ (zae h5)) hk h6)
theorem znF:∀(n k:Nat){t:Ty}{a b x:Pat},InS (w.length*4) t→zac w n t a=true→zac w n t b=true→zaQ w (zai w) n t a=true→zan k a b=some x→zaQ w (zai w) n t x=true
 |0,k,t,a,b,x,_,h,_,_,_=>by simp[zac] at h
 |n+1,0,t,a,b,x,_,_,_,_,h=>by simp[zan] at h
 |n+1,k+1,t,a,b,x,ht,ha,hb,hd,h=>by
  by_cases h1:a.op=1
  ·rw[zfW h1] at h;cases h
   rw[zeC h1] at hd
   exact zjf hs (n+1) ht hb (of_decide_eq_true hd)
  by_cases h2:b.op=1
  ·rw[zgX h1 h2] at h;cases h;exact hd
  by_cases h3:a.op=3
  ·rw[zj0 ha h3] at hd;cases hd
  have h4:a.op=4:=by have:=zbc ha;omega
  have hso:=zbM ha hb h1 h2
  by_cases hc:a.ctor=b.ctor
  ·rw[zfX h4 h2 hc] at h
   obtain⟨m1,m2,m3,m4⟩:=zax ha h4
   obtain⟨n1,n2,n3,n4⟩:=zax hb (by omega)
   rw[←hc] at n3
   cases hl:zbo (zan k) a.kids b.kids [] with
   |none=>rw[hl] at h;cases h
   |some l=>
    rw[hl] at h
    simp only[Option.map_some,Option.some.injEq] at h
    subst h
    obtain⟨r,e,hr,hm⟩:=zeb (by omega) hl
    rw[List.nil_append] at e
    subst e
    obtain⟨i,hi,hde⟩:=zkC ha h4 hd
    have ka:=zaE ha (i:=i) hi
    have kb:=zaE hb (i:=i) (by omega)
    rw[zaR h4] at ka
    rw[zaR (by omega),←hc] at kb
    exact zgW (i:=i) (by omega) (by omega) (znF n k (zbl hs.dp ht m1 _ (zae (by omega))) ka kb hde (hm i hi))
  ·rw[zfq h4 h2 hc] at h;cases h
theorem zqb {f:Ty→Pat→Pat→List Pat}{m:Nat}{t:Ty}{c:Int} (ht:InS (w.length*4) t) (hc:c∈zah w t):
  ∀(i:Nat){xs bs front:List Pat},front.length=i→xs.length+i=(zaa w t c).length→bs.length=xs.length→
   (∀j,j<xs.length→zac w m (nth (zaa w t c) (i+j)) (nth xs j)=true∧zac w m (nth (zaa w t c) (i+j)) (nth bs j)=true∧(zaQ w (zai w) m (nth (zaa w t c) (i+j)) (nth xs j)=true→∀z∈f (nth (zaa w t c) (i+j)) (nth xs j) (nth bs j),zaQ w (zai w) m (nth (zaa w t c) (i+j)) z=true))→
   ((∃j,j<i∧zaQ w (zai w) m (nth (zaa w t c) j) (nth front j)=true)∨∃j,j<xs.length∧zaQ w (zai w) m (nth (zaa w t c) (i+j)) (nth xs j)=true)→
   ∀x∈zaI f c ((zaa w t c).drop i) xs bs front,zaQ w (zai w) (m+1) t x=true:=by
 intro i xs
 induction xs generalizing i with
 |nil=>
  intro bs front _ _ _ _ _ x hx
  cases hT:(zaa w t c).drop i<;>(rw[hT] at hx;simp[zaI] at hx)
 |cons a0 s ih=>
  intro bs front hfl hal hbl hab hde x hx
  cases bs with
  |nil=>simp at hbl
  |cons b0 q=>
   have hi:i<(zaa w t c).length:=by simp at hal;omega
   rw[zaW hi] at hx
   have h0:=hab 0 (by simp)
   simp only[Nat.add_zero] at h0
   have e0:nth (a0::s) 0=a0:=rfl
   have e1:nth (b0::q) 0=b0:=rfl
   rw[e0,e1] at h0
   unfold zaI at hx
   have f1:∀z j,j<i→nth (front++[z]++s) j=nth front j:=fun z j hj=>by
    simp only[nth,List.getD,List.append_assoc]
    rw[List.getElem?_append_left (by omega)]
   have f2:∀z,nth (front++[z]++s) i=z:=fun z=>by
    simp only[nth,List.getD,List.append_assoc]
    rw[List.getElem?_append_right (by omega),show i-front.length=0 by omega];rfl
   have f3:∀z k,nth (front++[z]++s) (i+1+k)=nth (a0::s) (k+1):=fun z k=>by
    simp only[nth,List.getD,List.append_assoc]
    rw[List.getElem?_append_right (by omega),show i+1+k-front.length=k+1 by omega];rfl
   have hfl2:∀z,(front++[z]++s).length=(zaa w t c).length:=fun z=>by simp at hal ⊢;omega
   rcases List.mem_append.1 hx with hx|hx
   ·obtain⟨z,hz,rfl⟩:=List.mem_map.1 hx
    rcases hde with ⟨j,hj,hd⟩|⟨j,hj,hd⟩
    ·exact zgW (i:=j) (by rw[hfl2];omega) (hfl2 z) (by rw[f1 z j hj];exact hd)
    ·cases j with
     |zero=>exact zgW (i:=i) (by rw[hfl2];omega) (hfl2 z) (by rw[f2 z];exact h0.2.2 hd z hz)
     |succ k=>exact zgW (i:=i+1+k) (by rw[hfl2];simp at hj;simp at hal;omega) (hfl2 z) (by rw[f3 z k,show i+1+k=i+(k+1) by omega];exact hd)
   ·cases hm:zan 11 a0 b0 with
    |none=>rw[hm] at hx;simp at hx
    |some both=>
     rw[hm] at hx
     refine ih (i+1) (bs:=q) (front:=front++[both]) (by simp[hfl]) (by simp at hal ⊢;omega) (by simpa using hbl) (fun j hj=>?_) ?_ x hx
     ·have:=hab (j+1) (by simpa using hj)
      rwa [show i+(j+1)=i+1+j by omega] at this
     ·rcases hde with ⟨j,hj,hd⟩|⟨j,hj,hd⟩
      ·refine .inl ⟨j,by omega, ?_⟩
       have e:nth (front++[both]) j=nth front j:=by
        simp only[nth,List.getD]
        rw[List.getElem?_append_left (by omega)]
       rw[e];exact hd
      ·cases j with
       |zero=>
        refine .inl ⟨i,by omega, ?_⟩
        have e:nth (front++[both]) i=both:=by
         simp only[nth,List.getD]
         rw[List.getElem?_append_right (by omega),show i-front.length=0 by omega];rfl
        rw[e]
        exact znF hs m 11 (zbl hs.dp ht hc _ (zae hi)) h0.1 h0.2.1 hd hm
       |succ k=>
        refine .inr ⟨k,by simpa using hj, ?_⟩
        rw[show i+1+k=i+(k+1) by omega];exact hd
theorem zlZ:∀(n m:Nat){t:Ty}{a b:Pat},n<m→InS (w.length*4) t→zac w m t a=true→zac w n t b=true→zaQ w (zai w) m t a=true→∀x∈zaq w n t a b,zaQ w (zai w) m t x=true
 |0,m,t,a,b,_,_,_,hb,_=>by simp[zac] at hb
 |n+1,0,t,a,b,hn,_,_,_,_=>by omega
 |n+1,m+1,t,a,b,hn,ht,ha,hb,hd=>by
  have hcc:∀a,zac w (m+1) t a=true→a.op=4→b.op=4→zaQ w (zai w) (m+1) t a=true→∀x∈zbP (zaq w n) w t a b,zaQ w (zai w) (m+1) t x=true:=fun a ha h4 h4b hd=>by
   obtain⟨m1,m2,m3,m4⟩:=zax ha h4
   obtain⟨n1,n2,n3,n4⟩:=zax hb h4b
   intro x hx
   unfold zbP at hx
   split at hx
   ·rename_i hc
    obtain⟨j,hj,hdj⟩:=zkC ha h4 hd
    refine zqb hs ht m1 0 (xs:=a.kids) (bs:=b.kids) (front:=[]) rfl (by omega) (by rw[hc] at m3;omega) (fun j hj=>?_) (.inr ⟨j,hj,by rw[Nat.zero_add];exact hdj⟩) x hx
    have ka:=zaE ha (i:=j) hj
    have kb:=zaE hb (i:=j) (by rw[hc] at m3;omega)
    rw[zaR h4] at ka
    rw[zaR h4b,←hc] at kb
    rw[Nat.zero_add]
    exact⟨ka,zcY (by omega) kb,fun hdk z hz=>zlZ n m (by omega) (zbl hs.dp ht m1 _ (zae (by omega))) ka kb hdk z hz⟩
   ·rw[List.mem_singleton] at hx
    rw[hx];exact hd
  rcases zbc hb with h1|h3|h4
  ·rw[zeH h1];simp
  ·have hl:=zkT ha (zbt hb h3).1
   rcases zbc ha with h|h|h
   ·rw[zeC h] at hd
    have:=of_decide_eq_true hd
    unfold dv at this;rw[if_pos (zbt hb h3).1] at this;omega
   ·rw[zj0 ha h] at hd;cases hd
   ·exact absurd (zbt hb h3).1 (zax ha h).2.1
  ·by_cases ha1:a.op=1
   ·rw[zfs h4 ha1]
    rw[zeC ha1] at hd
    intro x hx
    obtain⟨c,hc,hx⟩:=List.mem_flatMap.1 hx
    obtain⟨k,rfl⟩:∃k,m=k+1:=⟨m-1,by omega⟩
    exact hcc _ (zcl hc) rfl h4 (zjf hs _ ht (zcl hc) (of_decide_eq_true hd)) x hx
   ·have ha4:a.op=4:=by have:=zbM ha hb ha1 (by omega);omega
    rw[zcH h4 ha4]
    exact hcc a ha ha4 h4 hd
end
def zbe (w:List Data) (t:Ty) (p:Pat):Bool:= !zaQ w (zai w) 11 t p
def zbF (w:List Data) (t:Ty) (l:List Pat) (b:Pat):List Pat:=(l.flatMap fun a=>zaq w 10 t a b).filter (zbe w t)
def subL (w:List Data) (t:Ty):List Pat→List Pat→Option (List Pat)
 |l,[]=>some l
 |l,b::r=>if (zbF w t l b).length≤400 then subL w t (zbF w t l b) r else none
def zaJ (w:List Data) (t:Ty) (l away:List Pat):Option (List Pat):=subL w t (l.filter (zbe w t)) away
theorem zpp {w:List Data} (hs:Spa w){t:Ty} (ht:InS (w.length*4) t){l:List Pat}{b:Pat} (hl:∀a∈l,zac w 11 t a=true) (hb:zac w 10 t b=true):zbF w t (l.filter (zbe w t)) b=zbF w t l b:=by
 unfold zbF
 induction l with
 |nil=>rfl
 |cons a r ih=>
  have ih':=ih (fun x hx=>hl x (by simp[hx]))
  rw[List.flatMap_cons,List.filter_append]
  by_cases h:zbe w t a=true
  ·rw[List.filter_cons_of_pos h,List.flatMap_cons,List.filter_append,ih']
  ·rw[List.filter_cons_of_neg h,ih']
   have hd:zaQ w (zai w) 11 t a=true:=by unfold zbe at h;simpa using h
   have:(zaq w 10 t a b).filter (zbe w t)=[]:=by
    rw[List.filter_eq_nil_iff]
    intro x hx
    have:=zlZ hs 10 11 (by omega) ht (hl a (by simp)) hb hd x hx
    unfold zbe;rw[this];simp
   rw[this,List.nil_append]
theorem zkt {w:List Data}{t:Ty}{l:List Pat}{b:Pat}:(zbF w t l b).filter (zbe w t)=zbF w t l b:=by
 unfold zbF;rw[List.filter_filter];simp
theorem zmv {w:List Data}{t:Ty}:∀(away:List Pat){l:List Pat},l.filter (zbe w t)=l→(subL w t l away).map (List.filter (zbe w t))=subL w t l away
 | [],l,h=>by simp only[subL,Option.map_some,h]
 |b::r,l,h=>by
  unfold subL
  split
  ·exact zmv r zkt
  ·rfl
theorem zs0 {w:List Data} (hs:Spa w){t:Ty} (ht:InS (w.length*4) t){l away:List Pat} (hl:∀a∈l,zac w 11 t a=true) (hb:∀b∈away,zac w 10 t b=true):(subL w t l away).map (List.filter (zbe w t))=zaJ w t l away:=by
 unfold zaJ
 cases away with
 |nil=>rfl
 |cons b r=>
  unfold subL
  rw[zpp hs ht hl (hb b (by simp))]
  split
  ·exact zmv r zkt
  ·rfl
theorem zec {w:List Data}{t:Ty}{l:List Pat}{b:Pat} (hl:∀a∈l,zac w 11 t a=true) (hb:zac w 10 t b=true):∀x∈zbF w t l b,zac w 11 t x=true:=fun x hx=>by
 unfold zbF at hx
 obtain⟨a,ha,hx⟩:=List.mem_flatMap.1 (List.mem_filter.1 hx).1
 exact ze4 10 11 (by omega) (hl a ha) hb x hx
theorem zk1 {n:Nat} (h0:0<n) (hb:n≤1000000):FnD Tryz.prog 190 [.nils,.d (.i (n:Int))] [] (.gv 9 []) [(9,some (.tok 0 6))]:=by
 refine bd Tryz.f190 27 [12,24] [] fun w0 F0 own kept hk=>?_
 refine sq (fun h1 h1p h1s=>?_) fun h1 h1p h1s=>?_
 try simp only[Q] at h1p
 exfalso;omega
 try simp only[Q] at h1p
 refine Walk.capN sl26 .none rfl rfl ?_
 refine evs [12,24] [] ?_
 refine Walk.lenN sl26 .none rfl rfl ?_
 refine evs [12,24] [] ?_
 refine ar ?_
 refine ar ?_
 refine sq (fun h2 h2p h2s=>?_) fun h2 h2p h2s=>?_
 try simp only[Q] at h2p
 refine Walk.capN sl26 .none rfl rfl ?_
 refine Walk.cutN_h sl26 .none rfl rfl rfl ?_
 refine evs [12,24] [] ?_
 refine Walk.growZ (n:=n) 8 sl26 Tryz.underlying3 tz28 rfl (by decide) rfl .none rfl rfl rfl (by simp) h0 (by omega) (by omega) rfl ?_
 refine evs [12,24] [] ?_
 refine Walk.lenN sl26 .none rfl rfl ?_
 refine Walk.cutV_h 9 (b:=0) sl26 .none rfl rfl (zgm rfl (by(simp;done))) rfl rfl (Nat.zero_le _) (by rw[List.length_replicate];exact h0) rfl ?_
 refine evs [12,24] [] ?_
 focus (refine rn [(9,some (.tok 0 6))] (r1 rfl) (.gvg ?_) ⟨rfl,rfl⟩ (SubH.get ⟨rfl,trivial⟩) (zaF rfl);all_goals (rfl))
 try simp only[Q] at h2p
 focus (exfalso;simp at h2;all_goals omega)
abbrev zum (ls:List (List Pat)):D:= .sl (ls.map fun l=>[zad l])
theorem zjJ {ls:List (List Pat)} (hl:ls.length≤1000) (h0:0<ls.flatten.length) (hb:ls.flatten.length≤1000000):FnD Tryz.prog 151 [.d (zum ls)] [] (.d (zad ls.flatten)) []:=by
 have key:∀ {pre rest:List (List Pat)}{y:List Pat},pre++y::rest=ls→pre.flatten.length+y.length≤ls.flatten.length:=fun h=>by
  rw[←h];simp
 refine FnD.gvD (i:=9) (k:=6) ?_
 refine bd Tryz.f151 36 [] [] fun w0 F0 own kept hk=>?_
 refine CWp.loopX (ι:=List (List Pat)×List (List Pat)) hk (fun x=>[(11,.d (.i (x.1.length:Int))),(3,.d (.i (x.1.flatten.length:Int)))]) [5,12,13,14,15,16,17,18,19,20,21,22] (fun x=>[]) (fun x=>x.1++x.2=ls) (fun x=>x.2.length) ([],ls) (by simp) ⟨⟨_,rfl,LeA.eqi ?_⟩,⟨⟨_,rfl,LeA.eqi ?_⟩,trivial⟩⟩ trivial (fun x=>rfl) (fun x hg1=>?_)
 iterate 2 focus (rfl)
 obtain⟨pre,rest⟩:=x
 dsimp only at hg1 ⊢
 refine evc [] [] ?_
 refine sq (fun h1 h1p h1s=>?_) fun h1 h1p h1s=>?_
 try simp only[Q,Pat.cs_len] at h1p
 rcases rest with _|⟨y,rest⟩
 ·exfalso;simp_all
 refine Walk.idx zdM .none rfl rfl rfl rfl (zaK hg1) rfl ?_
 refine ev ?_
 refine ar ?_ (by(have h9:=key hg1;constructor<;>first|omega|(simp only[Pat.cs_len];omega)))
 refine sq (fun h2 h2p h2s=>?_) fun h2 h2p h2s=>?_
 try simp only[Q,Pat.cs_len] at h2p
 exfalso;have:=key hg1;omega
 try simp only[Q,Pat.cs_len] at h2p
 refine ar ?_ (by(have h9:=key hg1;constructor<;>first|omega|(simp only[Pat.cs_len];omega)))
 refine Exists.intro ((pre++[y],rest)) ⟨(by have hz:=hg1;rw[←hz];simp),(by simp),sx ⟨⟨_,rfl,LeA.eqi ?_⟩,⟨⟨_,rfl,LeA.eqi ?_⟩,trivial⟩⟩ trivial⟩
 iterate 2 focus ((simp[Pat.cs_len];done))
 try simp only[Q,Pat.cs_len] at h1p
 have hrest:rest=[]:=by
  rcases rest with _|⟨a,b⟩
  ·rfl
  ·exfalso;have hz:=congrArg List.length (hg1);simp only[List.length_append,List.length_cons,List.length_map] at hz;omega
 subst hrest
 refine Walk.call (cr:=[9]) zvI (zk1 (n:=pre.flatten.length) (by rw[List.append_nil] at hg1;rw[hg1];exact h0) (by rw[List.append_nil] at hg1;rw[hg1];exact hb)) rfl .none rfl rfl (LeL.refl _) trivial rfl rfl rfl ?_
 refine ev ?_
 refine CWp.loopX (ι:=List (List Pat)×List (List Pat)) hk (fun x=>[(27,.d (.i (x.1.length:Int))),(6,.gv 9 (Pat.cs x.1.flatten))]) [8,28,29,30,31,32,33,34] (fun x=>[(9,some (.tok (Pat.cs x.1.flatten).length 6))]) (fun x=>x.1++x.2=ls) (fun x=>x.2.length) ([],ls) (by simp) ⟨⟨_,rfl,LeA.eqi ?_⟩,⟨⟨_,rfl,LeA.gvg ?_⟩,trivial⟩⟩ ⟨zab ?_,trivial⟩ (fun x=>rfl) (fun x hg2=>?_)
 iterate 3 focus (rfl)
 obtain⟨pre,rest⟩:=x
 dsimp only at hg2 ⊢
 refine evc [] [] ?_
 refine sq (fun h3 h3p h3s=>?_) fun h3 h3p h3s=>?_
 try simp only[Q,Pat.cs_len] at h3p
 rcases rest with _|⟨y,rest⟩
 ·exfalso;simp_all
 refine Walk.idx zdM .none rfl rfl rfl rfl (zaK hg2) rfl ?_
 refine ev ?_
 refine Walk.appendV sl26 zz28 .none rfl rfl rfl rfl (zgm rfl (by rfl)) (by exact zbD _) (by have:=key hg2;simp only[Pat.cs_len];omega) (by have:=key hg2;simp only[Pat.cs_len];omega) ?_
 refine ev ?_
 refine ar ?_ (by(constructor<;>omega))
 refine Exists.intro ((pre++[y],rest)) ⟨(by have hz:=hg2;rw[←hz];simp),(by simp),sx ⟨⟨_,rfl,LeA.eqi ?_⟩,⟨⟨_,rfl,LeA.gvg ?_⟩,trivial⟩⟩ ⟨zab ?_,trivial⟩⟩
 iterate 3 focus ((simp[Pat.cs_cd];done))
 try simp only[Q,Pat.cs_len] at h3p
 have hrest:rest=[]:=by
  rcases rest with _|⟨a,b⟩
  ·rfl
  ·exfalso;have hz:=congrArg List.length (hg2);simp only[List.length_append,List.length_cons,List.length_map] at hz;omega
 subst hrest
 refine rn [(9,some (.tok (Pat.cs ls.flatten).length 6))] (r1 rfl) (.gvg ?_) ⟨rfl,rfl⟩ (SubH.get ⟨?_,trivial⟩) (zaF rfl)
 rotate_left 2
 all_goals ((rw[List.append_nil] at hg2;subst hg2;rfl))
def zbp (l:List Int):Nat→List Pat
 |0=>[]
 |n+1=>zbp l n++zbE (nth l (2*n)) (nth l (2*n+1))
theorem zjB (l:List Int):∀n,(zbp l n).length≤n
 |0=>by simp[zbp]
 |n+1=>by
  have:=zjB l n
  simp only[zbp,zbE,List.length_append]
  split<;>simp<;>omega
theorem zjC {l:List Int}{n:Nat} (h:nth l (2*n)≤nth l (2*n+1)):zbp l (n+1)=zbp l n++[intQ (nth l (2*n)) (nth l (2*n+1))]:=by simp[zbp,zbE,h]
theorem zqf {l:List Int}{n:Nat} (h:¬nth l (2*n)≤nth l (2*n+1)):zbp l (n+1)=zbp l n:=by simp only[zbp,zbE,if_neg h,List.append_nil]
theorem zpA (a b:Int):zbp [a,b] 1=zbE a b:=by simp[zbp,nth]
theorem ztJ (a b c d:Int):zbp [a,b,c,d] 2=zbE a b++zbE c d:=by simp[zbp,nth]
theorem zlG {p:Pat}:FnD Tryz.prog 149 [.agg [.d (.i p.op),.d (.i p.ctor),.d (.i p.n),.d (.i p.m),.d (.i p.var),.d (zad p.kids)]] [] (.tup [.d (.i (lowQ p)),.d (.i (zb6 p))]) []:=by
 by_cases h:p.op=1
 ·have e1:lowQ p=0:=if_pos h
  have e2:zb6 p=9:=if_pos h
  rw[e1,e2]
  refine bd Tryz.f149 11 [] [] fun w0 F0 own kept hk=>?_
  refine bx 3001 ?_
  refine ev ?_
  refine sq (fun h1 h1p h1s=>?_) fun h1 h1p h1s=>?_
  try simp only[Q] at h1p
  focus (refine rn0 (r2 rfl rfl) (.tup (.cons (.eqd ?_) (.cons (.eqd ?_) .nil)));all_goals (rfl))
  try simp only[Q] at h1p
  exfalso;omega
 ·skip
  have e1:lowQ p=p.n:=if_neg h
  have e2:zb6 p=p.m:=if_neg h
  rw[e1,e2]
  refine bd Tryz.f149 11 [] [] fun w0 F0 own kept hk=>?_
  refine bx 3001 ?_
  refine ev ?_
  refine sq (fun h1 h1p h1s=>?_) fun h1 h1p h1s=>?_
  try simp only[Q] at h1p
  exfalso;omega
  try simp only[Q] at h1p
  refine dr ?_
  focus (refine rn0 (r2 rfl rfl) (.tup (.cons (.eqd ?_) (.cons (.eqd ?_) .nil)));all_goals (rfl))
theorem zfp {l:List Int}{n:Nat} (hl:l.length=2*n) (hb:n≤1000):FnD Tryz.prog 116 [.d (zcb l)] [] (.d (zad (zbp l n))) []:=by
 refine bd Tryz.f116 35 [3] [] fun w0 F0 own kept hk=>?_
 refine Walk.assignNil 9 6 .none rfl rfl ?_
 refine tv ?_
 refine CWp.loopX (ι:=Nat) hk (fun i=>[(4,.d (.i ((2*i:Nat):Int))),(3,.gl 9 (Pat.cs (zbp l i)))]) [5,6,7,8,9,10,11,12,13,14,15,16,17,18,19,20,21,22,23,24,25,26,27,28,29,30,31,32,33] (fun i=>[(9,some (.tok ((Pat.cs (zbp l i))).length 6))]) (fun i=>i≤n) (fun i=>n-i) 0 (by omega) ⟨⟨_,rfl,LeA.eqi ?_⟩,⟨⟨_,rfl,LeA.glg ?_⟩,trivial⟩⟩ ⟨zab ?_,trivial⟩ (fun x=>rfl) (fun i hg1=>?_)
 iterate 3 focus (rfl)
 refine evc [3] [] ?_
 refine sq (fun h1 h1p h1s=>?_) fun h1 h1p h1s=>?_
 try simp only[Q] at h1p
 refine Walk.idx (i:=2*i) sl62 .none rfl rfl rfl rfl (zau (by omega)) rfl ?_
 refine evd [3] [] ?_
 refine ar ?_
 refine Walk.idx (i:=2*i+1) sl62 .none rfl rfl rfl rfl (zau (by omega)) rfl ?_
 refine evd [3] [] ?_
 refine dr ?_
 refine sq (fun h2 h2p h2s=>?_) fun h2 h2p h2s=>?_
 try simp only[Q] at h2p
 refine Walk.idx (i:=2*i) sl62 .none rfl rfl rfl rfl (zau (by omega)) rfl ?_
 refine evd [3] [] ?_
 refine ar ?_
 refine Walk.idx (i:=2*i+1) sl62 .none rfl rfl rfl rfl (zau (by omega)) rfl ?_
 refine evd [3] [] ?_
 refine bu [0,2,3] [_,_,_] st28 ?_
 refine si [0] [_] sl26 tz28 ?_
 refine ap sl26 zz28 rfl rfl rfl (by(intro x hx;simp at hx;subst hx;rfl)) (by have:=zjB l i;simp[Pat.cs_len];omega) ?_
 refine asg ?_
 refine dr ?_
 refine ar ?_
 refine Exists.intro (i+1) ⟨(by omega),(by omega),sx ⟨⟨_,rfl,LeA.eqi ?_⟩,⟨⟨_,rfl,LeA.glg ?_⟩,trivial⟩⟩ ⟨zab ?_,trivial⟩⟩
 iterate 3 focus (first|rfl|(rw[zjC (by assumption),Pat.cs_cd,Pat.cs_cd,List.map_append];rfl)|(rw[zjC (by assumption)];simp[Pat.cs_len];done))
 try simp only[Q] at h2p
 refine ar ?_
 refine Exists.intro (i+1) ⟨(by omega),(by omega),sx ⟨⟨_,rfl,LeA.eqi ?_⟩,⟨⟨_,rfl,LeA.glg ?_⟩,trivial⟩⟩ ⟨zab ?_,trivial⟩⟩
 iterate 3 focus (first|rfl|(rw[zqf (by assumption)];done))
 try simp only[Q] at h1p
 refine rn0 (r1 rfl) (.gld ?_)
 rotate_left
 all_goals ((have e:i=n:=(by omega);rw[e]))
theorem zod {w:List Data} (hw:WT w){f:Nat→Nat}{a k c:Int} (ht:TyIn w.length ⟨a,k⟩) (hc:c∈zah w ⟨a,k⟩) (hl:(zaa w ⟨a,k⟩ c).length≤3):FnD Tryz.prog 150 [.d (sPtr w f),.agg [.d (.i a),.d (.i k)],.d (.i c)] []
  (.agg [.d (.i 4),.d (.i c),.d (.i 0),.d (.i 0),.d (.i 0),.d (zad (zbz w ⟨a,k⟩ c).kids)]) []:=by
 refine bd Tryz.f150 28 [] [] fun w0 F0 own kept hk=>?_
 refine bx 3004 ?_
 refine ab 3006 tz28 ?_
 refine tv ?_
 refine bu [0,1] [_,_] st28 ?_
 refine ab 3007 tz28 ?_
 refine so ty28 ?_
 refine tv ?_
 refine wc zi5 (zc1 hw ht hc) rfl rfl ?_
 refine evd [] [] ?_
 refine dr ?_
 refine CWp.tokB 3007 5 9 6 rfl rfl rfl rfl ?_
 refine CWp.loopX (ι:=List (Ty)×List (Ty)) hk (fun x=>[(18,.d (.i (x.1.length:Int)))]) [19,20,21,22,23,24,25,26] (fun x=>[(3007,some (.box [.d (.i 4),.d (.i c),.d (.i 0),.d (.i 0),.d (.i 0),.gl 9 ((x.1.map fun _=>anyQ).map Pat.cc)])),(9,some (.tok ((x.1.map fun _=>anyQ).map Pat.cc).length 6))]) (fun x=>x.1++x.2=zaa w ⟨a,k⟩ c) (fun x=>x.2.length) ([],zaa w ⟨a,k⟩ c) (by simp) ⟨⟨_,rfl,LeA.eqi ?_⟩,trivial⟩ ⟨?_,⟨zab ?_,trivial⟩⟩ (fun x=>rfl) (fun x hg1=>?_)
 focus (rfl)
 focus (rfl)
 focus (rfl)
 obtain⟨pre,rest⟩:=x
 dsimp only at hg1 ⊢
 refine evc [] [] ?_
 refine sq (fun h1 h1p h1s=>?_) fun h1 h1p h1s=>?_
 try simp only[Q] at h1p
 rcases rest with _|⟨y,rest⟩
 ·exfalso;simp_all
 refine wc zsb (zfT) rfl rfl ?_
 refine si [0] [_] sl26 tz28 ?_
 refine ap sl26 zz28 rfl rfl rfl (by intro x hx;(simp at hx;subst hx;rfl)) (by have:=congrArg List.length hg1;simp at this;simp;omega) ?_
 refine evd [] [] ?_
 refine so ty26 ?_
 refine dr ?_
 refine ar ?_
 refine Exists.intro ((pre++[y],rest)) ⟨(by have hz:=hg1;rw[←hz];simp),(by simp),sx ⟨⟨_,rfl,LeA.eqi ?_⟩,trivial⟩ ⟨?_,⟨zab ?_,trivial⟩⟩⟩
 focus ((simp;done))
 focus ((simp[getH];exact⟨rfl,rfl,rfl,rfl,rfl,rfl⟩))
 focus ((simp;done))
 try simp only[Q] at h1p
 have hrest:rest=[]:=by
  rcases rest with _|⟨a,b⟩
  ·rfl
  ·exfalso;have hz:=congrArg List.length (hg1);simp only[List.length_append,List.length_cons,List.length_map] at hz;omega
 subst hrest
 refine so ty28 ?_
 refine tv ?_
 refine rn0 (.cons (.cellA ty28 rfl rfl rfl) .nil) (.agg (.cons (.eqd ?_) (.cons (.eqd ?_) (.cons (.eqd ?_) (.cons (.eqd ?_) (.cons (.eqd ?_) (.cons (.gld ?_) .nil)))))))
 rotate_left 6
 all_goals (first|rfl|(rw[List.append_nil] at hg1;subst hg1;rw[←Pat.cs_cd];all_goals rfl))
def zcx (n:Nat) (a b:Pat):Pat:=(zan n a b).getD zux
theorem zch {n:Nat}{a b x:Pat} (h:zan n a b=some x):zcx n a b=x:=by unfold zcx;rw[h];rfl
theorem ze2 {n:Nat}{a b:Pat} (h:zan n a b=none):zcx n a b=zux:=by unfold zcx;rw[h];rfl
theorem zdm {n:Nat}{a b:Pat} (h:(zan n a b).isSome=true):zan n a b=some (zcx n a b):=by
 unfold zcx
 cases e:zan n a b with
 |none=>rw[e] at h;cases h
 |some x=>rfl
theorem zfr {n:Nat}{a b:Pat} (h:(zan n a b).isSome=false):zan n a b=none:=by
 cases e:zan n a b with
 |none=>rfl
 |some x=>rw[e] at h;cases h
theorem zgU {w:List Data} (hs:Spa w){f:Nat→Nat}:∀(n m:Nat){ta tk:Int}{a b:Pat},m≤n→InS (w.length*4) ⟨ta,tk⟩→zac w m ⟨ta,tk⟩ a=true→zac w m ⟨ta,tk⟩ b=true→
  FnD Tryz.prog 66 [.d (sPtr w f),.agg [.d (.i ta),.d (.i tk)],.agg [.d (.i a.op),.d (.i a.ctor),.d (.i a.n),.d (.i a.m),.d (.i a.var),.d (zad a.kids)],.agg [.d (.i b.op),.d (.i b.ctor),.d (.i b.n),.d (.i b.m),.d (.i b.var),.d (zad b.kids)]] []
   (.tup [.agg [.d (.i (zcx n a b).op),.d (.i (zcx n a b).ctor),.d (.i (zcx n a b).n),.d (.i (zcx n a b).m),.d (.i (zcx n a b).var),.d (zad (zcx n a b).kids)],.d (.bool (zan n a b).isSome)]) []
 |n,0,ta,tk,a,b,_,_,ha,_=>by simp[zac] at ha
 |0,m+1,ta,tk,a,b,h,_,_,_=>by omega
 |n+1,m+1,ta,tk,a,b,hnm,ht,ha,hb=>by
  by_cases h1:a.op=1
  ·have e:=zfW (n:=n) (b:=b) h1
   rw[zch e,e]
   refine bd Tryz.f66 100 [] [] fun w0 F0 own kept hk=>?_
   refine bx 3005 ?_
   refine bx 3006 ?_
   refine bx 3007 ?_
   refine ab 3008 tz28 ?_
   refine ev ?_
   refine sq (fun h1 h1p h1s=>?_) fun h1 h1p h1s=>?_
   try simp only[Q] at h1p
   refine so ty28 ?_
   refine ev ?_
   refine rn0 (.cons (.cellA ty28 rfl rfl rfl) (.cons (.tmp rfl) .nil)) (.tup (.cons (.agg (.cons (.eqd ?_) (.cons (.eqd ?_) (.cons (.eqd ?_) (.cons (.eqd ?_) (.cons (.eqd ?_) (.cons (.eqd ?_) .nil))))))) (.cons (.eqd ?_) .nil)))
   rotate_left 7
   try simp only[Q] at h1p
   exfalso;omega
   all_goals (rfl)
  by_cases h2:b.op=1
  ·have e:=zgX (n:=n) h1 h2
   rw[zch e,e]
   refine bd Tryz.f66 100 [] [] fun w0 F0 own kept hk=>?_
   refine bx 3005 ?_
   refine bx 3006 ?_
   refine bx 3007 ?_
   refine ab 3008 tz28 ?_
   refine ev ?_
   refine sq (fun h1 h1p h1s=>?_) fun h1 h1p h1s=>?_
   try simp only[Q] at h1p
   exfalso;omega
   try simp only[Q] at h1p
   refine sq (fun h2 h2p h2s=>?_) fun h2 h2p h2s=>?_
   try simp only[Q] at h2p
   refine so ty28 ?_
   refine ev ?_
   refine rn0 (.cons (.cellA ty28 rfl rfl rfl) (.cons (.tmp rfl) .nil)) (.tup (.cons (.agg (.cons (.eqd ?_) (.cons (.eqd ?_) (.cons (.eqd ?_) (.cons (.eqd ?_) (.cons (.eqd ?_) (.cons (.eqd ?_) .nil))))))) (.cons (.eqd ?_) .nil)))
   rotate_left 7
   try simp only[Q] at h2p
   exfalso;omega
   all_goals (rfl)
  by_cases h3:a.op=3
  ·have e:=zgY (n:=n) h3 h2
   by_cases hr:maxQ a.n b.n≤minQ a.m b.m
   ·rw[if_pos hr] at e
    have er:zbp [maxQ a.n b.n,minQ a.m b.m] 1=[intQ (maxQ a.n b.n) (minQ a.m b.m)]:=by rw[zpA];exact if_pos hr
    have hrg:=zfp (l:=[maxQ a.n b.n,minQ a.m b.m]) (n:=1) rfl (by omega)
    rw[er] at hrg
    rw[zch e,e]
    refine bd Tryz.f66 100 [] [] fun w0 F0 own kept hk=>?_
    refine bx 3005 ?_
    refine bx 3006 ?_
    refine bx 3007 ?_
    refine ab 3008 tz28 ?_
    refine ev ?_
    refine sq (fun h1 h1p h1s=>?_) fun h1 h1p h1s=>?_
    try simp only[Q,Pat.cs_len] at h1p
    exfalso;omega
    try simp only[Q,Pat.cs_len] at h1p
    refine sq (fun h2 h2p h2s=>?_) fun h2 h2p h2s=>?_
    try simp only[Q,Pat.cs_len] at h2p
    exfalso;omega
    try simp only[Q,Pat.cs_len] at h2p
    refine sq (fun h3 h3p h3s=>?_) fun h3 h3p h3s=>?_
    try simp only[Q,Pat.cs_len] at h3p
    refine Walk.maxI .none rfl rfl rfl ?_
    refine ev ?_
    refine Walk.minI .none rfl rfl rfl ?_
    refine si [0,1] [_,_] sl62 tz3 ?_
    refine wc zoH (hrg) rfl rfl ?_
    refine ev ?_
    refine sq (fun h4 h4p h4s=>?_) fun h4 h4p h4s=>?_
    try simp only[Q,Pat.cs_len] at h4p
    exfalso;simp[Pat.cs_len] at h4
    try simp only[Q,Pat.cs_len] at h4p
    refine Walk.idx (i:=0) sl26 .none rfl rfl rfl rfl (rfl) rfl ?_
    refine ev ?_
    refine so ty28 ?_
    refine ev ?_
    refine rn0 (.cons (.cellA ty28 rfl rfl rfl) (.cons (.tmp rfl) .nil)) (.tup (.cons (.agg (.cons (.eqd ?_) (.cons (.eqd ?_) (.cons (.eqd ?_) (.cons (.eqd ?_) (.cons (.eqd ?_) (.cons (.eqd ?_) .nil))))))) (.cons (.eqd ?_) .nil)))
    rotate_left 7
    try simp only[Q,Pat.cs_len] at h3p
    exfalso;omega
    all_goals (rfl)
   ·skip
    rw[if_neg hr] at e
    have er:zbp [maxQ a.n b.n,minQ a.m b.m] 1=[]:=by rw[zpA];exact if_neg hr
    have hrg:=zfp (l:=[maxQ a.n b.n,minQ a.m b.m]) (n:=1) rfl (by omega)
    rw[er] at hrg
    rw[ze2 e,e]
    refine bd Tryz.f66 100 [] [] fun w0 F0 own kept hk=>?_
    refine bx 3005 ?_
    refine bx 3006 ?_
    refine bx 3007 ?_
    refine ab 3008 tz28 ?_
    refine ev ?_
    refine sq (fun h1 h1p h1s=>?_) fun h1 h1p h1s=>?_
    try simp only[Q,Pat.cs_len] at h1p
    exfalso;omega
    try simp only[Q,Pat.cs_len] at h1p
    refine sq (fun h2 h2p h2s=>?_) fun h2 h2p h2s=>?_
    try simp only[Q,Pat.cs_len] at h2p
    exfalso;omega
    try simp only[Q,Pat.cs_len] at h2p
    refine sq (fun h3 h3p h3s=>?_) fun h3 h3p h3s=>?_
    try simp only[Q,Pat.cs_len] at h3p
    refine Walk.maxI .none rfl rfl rfl ?_
    refine ev ?_
    refine Walk.minI .none rfl rfl rfl ?_
    refine si [0,1] [_,_] sl62 tz3 ?_
    refine wc zoH (hrg) rfl rfl ?_
    refine ev ?_
    refine sq (fun h4 h4p h4s=>?_) fun h4 h4p h4s=>?_
    try simp only[Q,Pat.cs_len] at h4p
    refine bu [] [] st28 ?_
    refine so ty28 ?_
    refine ev ?_
    refine rn0 (.cons (.cellA ty28 rfl rfl rfl) (.cons (.tmp rfl) .nil)) (.tup (.cons (.agg (.cons (.eqd ?_) (.cons (.eqd ?_) (.cons (.eqd ?_) (.cons (.eqd ?_) (.cons (.eqd ?_) (.cons (.nild ?_) .nil))))))) (.cons (.eqd ?_) .nil)))
    rotate_left 7
    try simp only[Q,Pat.cs_len] at h4p
    exfalso;simp[Pat.cs] at h4
    try simp only[Q,Pat.cs_len] at h3p
    exfalso;omega
    all_goals (rfl)
  have oa:=zbc ha
  have h4:a.op=4:=by omega
  have h4b:b.op=4:=by have:=zbM ha hb h1 h2;omega
  by_cases hc:a.ctor=b.ctor
  ·obtain⟨c1,c2,c3,c4⟩:=zax ha h4
   obtain⟨d1,d2,d3,d4⟩:=zax hb h4b
   rw[←hc] at d3
   have h3l:=hs.args ⟨ta,tk⟩ a.ctor ht c1
   have ka:=fun i (hi:i<a.kids.length)=>zaE ha hi
   have kb:=fun i (hi:i<b.kids.length)=>zaE hb hi
   rw[zaR h4] at ka
   rw[zaR h4b,←hc] at kb
   have e:=zfX (n:=n) h4 h2 hc
   have hlen:a.kids.length=b.kids.length:=by omega
   have ih:=fun i (hi:i<(zaa w ⟨ta,tk⟩ a.ctor).length)=>zgU hs n m (f:=f) (ta:=(nth (zaa w ⟨ta,tk⟩ a.ctor) i).data) (tk:=(nth (zaa w ⟨ta,tk⟩ a.ctor) i).index) (a:=nth a.kids i) (b:=nth b.kids i) (by omega) (zbl hs.dp ht c1 _ (zae hi)) (ka i (by omega)) (kb i (by omega))
   refine bd Tryz.f66 100 [] [] fun w0 F0 own kept hk=>?_
   refine bx 3005 ?_
   refine bx 3006 ?_
   refine bx 3007 ?_
   refine ab 3008 tz28 ?_
   refine ev ?_
   refine sq (fun h1 h1p h1s=>?_) fun h1 h1p h1s=>?_
   try simp only[Q,Pat.cs_len] at h1p
   exfalso;omega
   try simp only[Q,Pat.cs_len] at h1p
   refine sq (fun h2 h2p h2s=>?_) fun h2 h2p h2s=>?_
   try simp only[Q,Pat.cs_len] at h2p
   exfalso;omega
   try simp only[Q,Pat.cs_len] at h2p
   refine sq (fun h3 h3p h3s=>?_) fun h3 h3p h3s=>?_
   try simp only[Q,Pat.cs_len] at h3p
   exfalso;omega
   try simp only[Q,Pat.cs_len] at h3p
   refine sq (fun h4 h4p h4s=>?_) fun h4 h4p h4s=>?_
   try simp only[Q,Pat.cs_len] at h4p
   exfalso;omega
   try simp only[Q,Pat.cs_len] at h4p
   refine bu [0,1] [_,_] st28 ?_
   refine ab 3011 tz28 ?_
   refine so ty28 ?_
   refine tv ?_
   refine wc zi5 (zc1 hs.dp.wt (zbQ ht) c1) rfl rfl ?_
   refine evd [] [] ?_
   refine dr ?_
   refine CWp.tokB 3011 5 9 6 rfl rfl rfl rfl ?_
   refine CWp.loopX (ι:=Nat×List Pat) hk (fun x=>[(68,.d (.i (x.1:Int)))]) [9,12,13,14,15,69,70,71,72,73,74,75,76,77,78,79,80,81,82,83,84,85,86,87,88,89,90,91,92,93,94,95,96,97,98] (fun x=>[(3011,some (.box [.d (.i 4),.d (.i a.ctor),.d (.i 0),.d (.i 0),.d (.i 0),.gl 9 (x.2.map Pat.cc)])),(9,some (.tok (x.2.map Pat.cc).length 6))]) (fun x=>x.1≤a.kids.length∧x.2.length=x.1∧zbo (zan n) (a.kids.drop x.1) (b.kids.drop x.1) x.2=zbo (zan n) a.kids b.kids []) (fun x=>a.kids.length-x.1) (0,[]) ⟨by simp,rfl,rfl⟩ ⟨⟨_,rfl,LeA.eqi ?_⟩,trivial⟩ ⟨?_,⟨zab ?_,trivial⟩⟩ (fun x=>rfl) (fun x hg1=>?_)
   focus (first|rfl|(simp;done)|(simp_all;done)|omega|(simp;omega))
   focus (first|rfl|(simp[getH];done))
   focus (first|rfl|(simp;done)|(simp_all;done)|omega|(simp;omega))
   refine evc [] [] ?_
   refine sq (fun h5 h5p h5s=>?_) fun h5 h5p h5s=>?_
   try simp only[Q,Pat.cs_len] at h5p
   refine Walk.idx za0 .none rfl rfl rfl rfl (zau (by omega)) rfl ?_
   refine ev ?_
   refine ab 3013 tz25 ?_
   refine ev ?_
   refine so ty25 ?_
   refine tv ?_
   refine Walk.idx sl26 .none rfl rfl rfl rfl (zaH (by omega)) rfl ?_
   refine evd [] [] ?_
   refine Walk.idx sl26 .none rfl rfl rfl rfl (zaH (by omega)) rfl ?_
   refine evd [] [] ?_
   refine wc zoq (ih x.1 (by omega)) rfl rfl ?_
   refine evd [] [] ?_
   refine ab 3014 tz28 ?_
   refine so ty28 ?_
   refine evd [] [] ?_
   refine dr ?_
   refine sq (fun h6 h6p h6s=>?_) fun h6 h6p h6s=>?_
   try simp only[Q,Pat.cs_len] at h6p
   refine bu [] [] st28 ?_
   refine so ty28 ?_
   refine ev ?_
   refine rn0 (.cons (.cellA ty28 rfl rfl rfl) (.cons (.tmp rfl) .nil)) (.tup (.cons (.agg (.cons (.eqd ?_) (.cons (.eqd ?_) (.cons (.eqd ?_) (.cons (.eqd ?_) (.cons (.eqd ?_) (.cons (.nild ?_) .nil))))))) (.cons (.eqd ?_) .nil)))
   rotate_left 7
   try simp only[Q,Pat.cs_len] at h6p
   refine si [0] [_] sl26 tz28 ?_
   refine ap sl26 zz28 rfl rfl rfl (by intro x hx;first|(simp at hx;subst hx;rfl)|exact zfw _ x hx) (by simp;omega) ?_
   refine ev ?_
   refine so ty26 ?_
   refine tv ?_
   refine ar ?_
   refine Exists.intro ((x.1+1,x.2++[zcx n (nth a.kids x.1) (nth b.kids x.1)])) ⟨⟨by dsimp only;omega,by dsimp only;rw[List.length_append,hg1.2.1];rfl,by dsimp only;rw[←zlR (by omega) (by omega) (zdm (by assumption))];exact hg1.2.2⟩,(by dsimp only;omega),sx ⟨⟨_,rfl,LeA.eqi ?_⟩,trivial⟩ ⟨?_,⟨zab ?_,trivial⟩⟩⟩
   focus (first|rfl|(simp;done)|(simp_all;done)|omega|(simp;omega))
   focus (first|rfl|(simp[getH];done))
   focus (first|rfl|(simp;done)|(simp_all;done)|omega|(simp;omega))
   try simp only[Q,Pat.cs_len] at h5p
   refine so ty28 ?_
   refine ev ?_
   refine rn0 (.cons (.cellA ty28 rfl rfl rfl) (.cons (.tmp rfl) .nil)) (.tup (.cons (.agg (.cons (.eqd ?_) (.cons (.eqd ?_) (.cons (.eqd ?_) (.cons (.eqd ?_) (.cons (.eqd ?_) (.cons (.gld ?_) .nil))))))) (.cons (.eqd ?_) .nil)))
   rotate_left 7
   all_goals (first|(have e2:zan (n+1) a b=none:=(by rw[e,←hg1.2.2,zlQ (by omega) (by omega) (zfr (by assumption))];rfl);(first|rw[ze2 e2]|rw[e2]);all_goals rfl)|(have e2:zan (n+1) a b=some (zaS a.ctor x.2):=(by rw[e,←hg1.2.2,zeF (by omega)];rfl);rw[zch e2,Pat.cs_cd];all_goals rfl)|(have e2:zan (n+1) a b=some (zaS a.ctor x.2):=(by rw[e,←hg1.2.2,zeF (by omega)];rfl);rw[zch e2];all_goals rfl)|(have e2:zan (n+1) a b=some (zaS a.ctor x.2):=(by rw[e,←hg1.2.2,zeF (by omega)];rfl);rw[e2];all_goals rfl))
  ·skip
   have e:=zfq (n:=n) h4 h2 hc
   rw[ze2 e,e]
   refine bd Tryz.f66 100 [] [] fun w0 F0 own kept hk=>?_
   refine bx 3005 ?_
   refine bx 3006 ?_
   refine bx 3007 ?_
   refine ab 3008 tz28 ?_
   refine ev ?_
   refine sq (fun h1 h1p h1s=>?_) fun h1 h1p h1s=>?_
   try simp only[Q] at h1p
   exfalso;omega
   try simp only[Q] at h1p
   refine sq (fun h2 h2p h2s=>?_) fun h2 h2p h2s=>?_
   try simp only[Q] at h2p
   exfalso;omega
   try simp only[Q] at h2p
   refine sq (fun h3 h3p h3s=>?_) fun h3 h3p h3s=>?_
   try simp only[Q] at h3p
   exfalso;omega
   try simp only[Q] at h3p
   refine sq (fun h4 h4p h4s=>?_) fun h4 h4p h4s=>?_
   try simp only[Q] at h4p
   refine bu [] [] st28 ?_
   refine so ty28 ?_
   refine ev ?_
   refine rn0 (.cons (.cellA ty28 rfl rfl rfl) (.cons (.tmp rfl) .nil)) (.tup (.cons (.agg (.cons (.eqd ?_) (.cons (.eqd ?_) (.cons (.eqd ?_) (.cons (.eqd ?_) (.cons (.eqd ?_) (.cons (.nild ?_) .nil))))))) (.cons (.eqd ?_) .nil)))
   rotate_left 7
   try simp only[Q] at h4p
   exfalso;omega
   all_goals (rfl)
theorem zhl {f:Ty→Pat→Pat→List Pat}{c:Int}{ts:List Ty}{xs bs front:List Pat}{i:Nat} (h1:i<ts.length) (h2:i<xs.length) (h3:i<bs.length):
  zaI f c (ts.drop i) (xs.drop i) (bs.drop i) front=(f (nth ts i) (nth xs i) (nth bs i)).map (fun z=>zaS c (front++[z]++xs.drop (i+1)))++(match zan 11 (nth xs i) (nth bs i) with
   |none=>[]
   |some both=>zaI f c (ts.drop (i+1)) (xs.drop (i+1)) (bs.drop (i+1)) (front++[both])):=by
 rw[zaW h1,zaW h2,zaW h3,zaI]
 all_goals (cases zan 11 (nth xs i) (nth bs i)<;>rfl)
theorem zks {f:Ty→Pat→Pat→List Pat}{c:Int}{ts:List Ty}{xs bs front:List Pat}{i:Nat} (h1:i<ts.length) (h2:i<xs.length) (h3:i<bs.length) (h:(zan 11 (nth xs i) (nth bs i)).isSome=true):
  zaI f c (ts.drop i) (xs.drop i) (bs.drop i) front=(f (nth ts i) (nth xs i) (nth bs i)).map (fun z=>zaS c (front++[z]++xs.drop (i+1)))++zaI f c (ts.drop (i+1)) (xs.drop (i+1)) (bs.drop (i+1)) (front++[zcx 11 (nth xs i) (nth bs i)]):=by
 rw[zhl h1 h2 h3,zdm h]
theorem zkq {f:Ty→Pat→Pat→List Pat}{c:Int}{ts:List Ty}{xs bs front:List Pat}{i:Nat} (h1:i<ts.length) (h2:i<xs.length) (h3:i<bs.length) (h:(zan 11 (nth xs i) (nth bs i)).isSome=false):
  zaI f c (ts.drop i) (xs.drop i) (bs.drop i) front=(f (nth ts i) (nth xs i) (nth bs i)).map (fun z=>zaS c (front++[z]++xs.drop (i+1))):=by
 rw[zhl h1 h2 h3,zfr h,List.append_nil]
theorem zlW {f:Ty→Pat→Pat→List Pat}{c:Int}{ts:List Ty}{xs bs front:List Pat}{i:Nat} (h1:ts.length≤i):zaI f c (ts.drop i) (xs.drop i) (bs.drop i) front=[]:=by
 rw[List.drop_eq_nil_of_le h1];rfl
theorem zpu {n:Nat} (h:n≤11):4 ^ n≤4194304:=Nat.le_trans (Nat.pow_le_pow_right (by omega) h) (by decide)
theorem zft {w:List Data} (hs:Spa w){n m:Nat}{t:Ty}{a b:Pat} (h:n<m) (h10:n≤10) (ht:InS (w.length*4) t) (ha:zac w m t a=true) (hb:zac w n t b=true):(zaq w n t a b).length≤20000000:=by
 have h1:=znL hs n m h ht ha hb
 have h2:=(zgI hs n ht hb).2
 have h3:=zpu (n:=n) (by omega)
 omega
theorem zuD {A B:List Pat}{y:Pat}{xs:List (List D)} (hx:xs=Pat.cs B) (hb:A.length+1+B.length≤1000):
  FnD Tryz.prog 151 [.d (.sl [[.sl (A.map Pat.cc)],[.sl [Pat.cc y]],[.sl xs]])] [] (.d (zad (A++[y]++B))) []:=by
 have h:=zjJ (ls:=[A,[y],B]) (by simp) (by simp;omega) (by simp;omega)
 have e:[A,[y],B].flatten=A++[y]++B:=by simp
 rw[e] at h
 subst hx
 have e2:zum [A,[y],B] = .sl [[.sl (A.map Pat.cc)],[.sl [Pat.cc y]],[.sl (Pat.cs B)]]:=by
  show D.sl [[.sl (Pat.cs A)],[.sl (Pat.cs [y])],[.sl (Pat.cs B)]]=_
  rw[Pat.cs_cd A,Pat.cs_cd [y]];rfl
 rw[e2] at h
 exact h
section
variable {w:List Data}{f:Nat→Nat}
abbrev MinusFn (w:List Data) (f:Nat→Nat) (n:Nat) (ta tk:Int) (a b:Pat):Prop:=
 FnD Tryz.prog 93 [.d (sPtr w f),.agg [.d (.i ta),.d (.i tk)],.agg [.d (.i a.op),.d (.i a.ctor),.d (.i a.n),.d (.i a.m),.d (.i a.var),.d (zad a.kids)],.agg [.d (.i b.op),.d (.i b.ctor),.d (.i b.n),.d (.i b.m),.d (.i b.var),.d (zad b.kids)]] [] (.d (zad (zaq w n ⟨ta,tk⟩ a b))) []
theorem zpc {n:Nat}{ta tk:Int}{a b:Pat} (h:b.op=1):MinusFn w f (n+1) ta tk a b:=by
 unfold MinusFn
 rw[zeH h]
 refine bd Tryz.f93 159 [] [] fun w0 F0 own kept hk=>?_
 refine bx 3005 ?_
 refine bx 3006 ?_
 refine bx 3007 ?_
 refine ev ?_
 refine sq (fun h1 h1p h1s=>?_) fun h1 h1p h1s=>?_
 try simp only[Q] at h1p
 refine rn0 (r1 rfl) (.nild ?_)
 rotate_left
 try simp only[Q] at h1p
 exfalso;omega
 all_goals (rfl)
theorem zpd {n:Nat}{ta tk:Int}{a b:Pat} (h:b.op=3) (hbn:0≤b.n∧b.n≤9) (hbm:0≤b.m∧b.m≤9):MinusFn w f (n+1) ta tk a b:=by
 unfold MinusFn
 rw[zgH h]
 have er:zbp [lowQ a,minQ (zb6 a) (b.n-1),maxQ (lowQ a) (b.m+1),zb6 a] 2=zdG a b:=ztJ _ _ _ _
 have hrg:=zfp (l:=[lowQ a,minQ (zb6 a) (b.n-1),maxQ (lowQ a) (b.m+1),zb6 a]) (n:=2) rfl (by omega)
 rw[er] at hrg
 refine bd Tryz.f93 159 [] [] fun w0 F0 own kept hk=>?_
 refine bx 3005 ?_
 refine bx 3006 ?_
 refine bx 3007 ?_
 refine ev ?_
 refine sq (fun h1 h1p h1s=>?_) fun h1 h1p h1s=>?_
 try simp only[Q] at h1p
 exfalso;omega
 try simp only[Q] at h1p
 refine sq (fun h2 h2p h2s=>?_) fun h2 h2p h2s=>?_
 try simp only[Q] at h2p
 refine wc zvr (zlG) rfl rfl ?_
 refine ev ?_
 refine ar ?_
 refine Walk.minI .none rfl rfl rfl ?_
 refine ev ?_
 refine ar ?_
 refine Walk.maxI .none rfl rfl rfl ?_
 refine ev ?_
 refine si [0,1,2,3] [_,_,_,_] sl62 tz3 ?_
 refine wc zoH (hrg) rfl rfl ?_
 refine ev ?_
 focus (refine rn0 (r1 rfl) (.eqd ?_);all_goals (rfl))
 try simp only[Q] at h2p
 exfalso;omega
theorem zpg {n:Nat}{ta tk:Int}{a b:Pat} (h4:a.op=4) (h4b:b.op=4) (hc:¬a.ctor=b.ctor):MinusFn w f (n+1) ta tk a b:=by
 unfold MinusFn
 have e:zaq w (n+1) ⟨ta,tk⟩ a b=[a]:=by rw[zcH h4b h4];exact if_neg hc
 rw[e]
 refine bd Tryz.f93 159 [] [] fun w0 F0 own kept hk=>?_
 refine bx 3005 ?_
 refine bx 3006 ?_
 refine bx 3007 ?_
 refine ev ?_
 refine sq (fun h1 h1p h1s=>?_) fun h1 h1p h1s=>?_
 try simp only[Q] at h1p
 exfalso;omega
 try simp only[Q] at h1p
 refine sq (fun h2 h2p h2s=>?_) fun h2 h2p h2s=>?_
 try simp only[Q] at h2p
 exfalso;omega
 try simp only[Q] at h2p
 refine sq (fun h3 h3p h3s=>?_) fun h3 h3p h3s=>?_
 try simp only[Q] at h3p
 exfalso;omega
 try simp only[Q] at h3p
 refine sq (fun h4 h4p h4s=>?_) fun h4 h4p h4s=>?_
 try simp only[Q] at h4p
 refine si [0] [_] sl26 tz28 ?_
 refine ev ?_
 refine rn0 (r1 rfl) (.eqd ?_)
 rotate_left
 try simp only[Q] at h4p
 exfalso;omega
 all_goals (first|rfl|(cases a;rfl))
theorem zpf (hs:Spa w){n m:Nat} (hn:n+1≤10) (hm:m+1≤11) (hnm:n<m)
  (ih:∀ {ta tk:Int}{a b:Pat},InS (w.length*4) ⟨ta,tk⟩→zac w m ⟨ta,tk⟩ a=true→zac w n ⟨ta,tk⟩ b=true→MinusFn w f n ta tk a b)
  {ta tk:Int}{a b:Pat} (ht:InS (w.length*4) ⟨ta,tk⟩) (ha:zac w (m+1) ⟨ta,tk⟩ a=true) (hb:zac w (n+1) ⟨ta,tk⟩ b=true) (h4:a.op=4) (h4b:b.op=4) (hc:a.ctor=b.ctor):MinusFn w f (n+1) ta tk a b:=by
 obtain⟨c1,c2,c3,-⟩:=zax ha h4
 obtain⟨d1,d2,d3,-⟩:=zax hb h4b
 rw[←hc] at d3
 have h3l:=hs.args ⟨ta,tk⟩ a.ctor ht c1
 have ka:=fun i (hi:i<a.kids.length)=>zaE ha hi
 have kb:=fun i (hi:i<b.kids.length)=>zaE hb hi
 rw[zaR h4] at ka
 rw[zaR h4b,←hc] at kb
 have hbd:=zft hs (n:=n+1) (m:=m+1) (by omega) hn ht ha hb
 have e:zaq w (n+1) ⟨ta,tk⟩ a b=zaI (zaq w n) a.ctor (zaa w ⟨ta,tk⟩ a.ctor) a.kids b.kids []:=by rw[zcH h4b h4];exact if_pos hc
 have hins:=fun i (hi:i<(zaa w ⟨ta,tk⟩ a.ctor).length)=>zbl hs.dp ht c1 _ (zae hi)
 have hmi:∀i,i<(zaa w ⟨ta,tk⟩ a.ctor).length→FnD Tryz.prog 93 [.d (sPtr w f),.agg [.d (.i (nth (zaa w ⟨ta,tk⟩ a.ctor) i).data),.d (.i (nth (zaa w ⟨ta,tk⟩ a.ctor) i).index)],.agg [.d (.i (nth a.kids i).op),.d (.i (nth a.kids i).ctor),.d (.i (nth a.kids i).n),.d (.i (nth a.kids i).m),.d (.i (nth a.kids i).var),.d (zad (nth a.kids i).kids)],.agg [.d (.i (nth b.kids i).op),.d (.i (nth b.kids i).ctor),.d (.i (nth b.kids i).n),.d (.i (nth b.kids i).m),.d (.i (nth b.kids i).var),.d (zad (nth b.kids i).kids)]] [] (.d (zad (zaq w n (nth (zaa w ⟨ta,tk⟩ a.ctor) i) (nth a.kids i) (nth b.kids i)))) []:=fun i hi=>ih (ta:=(nth (zaa w ⟨ta,tk⟩ a.ctor) i).data) (tk:=(nth (zaa w ⟨ta,tk⟩ a.ctor) i).index) (hins i hi) (ka i (by omega)) (kb i (by omega))
 have hme:=fun i (hi:i<(zaa w ⟨ta,tk⟩ a.ctor).length)=>zgU hs 11 m (f:=f) (ta:=(nth (zaa w ⟨ta,tk⟩ a.ctor) i).data) (tk:=(nth (zaa w ⟨ta,tk⟩ a.ctor) i).index) (by omega) (hins i hi) (ka i (by omega)) (zcY (by omega) (kb i (by omega)))
 unfold MinusFn
 rw[e] at hbd ⊢
 have hT:∀i out front,i<(zaa w ⟨ta,tk⟩ a.ctor).length→out++zaI (zaq w n) a.ctor ((zaa w ⟨ta,tk⟩ a.ctor).drop i) (a.kids.drop i) (b.kids.drop i) front=zaI (zaq w n) a.ctor (zaa w ⟨ta,tk⟩ a.ctor) a.kids b.kids []→
   out.length+(zaq w n (nth (zaa w ⟨ta,tk⟩ a.ctor) i) (nth a.kids i) (nth b.kids i)).length≤20000000:=fun i out front hi h=>by
  rw[zhl hi (by omega) (by omega)] at h
  have:=congrArg List.length h
  simp only[List.length_append,List.length_map] at this
  omega
 refine bd Tryz.f93 159 [14,15] [] fun w0 F0 own kept hk=>?_
 refine bx 3005 ?_
 refine bx 3006 ?_
 refine bx 3007 ?_
 refine evs [14,15] [] ?_
 refine sq (fun h1 h1p h1s=>?_) fun h1 h1p h1s=>?_
 try simp only[Q,Pat.cs_len] at h1p
 exfalso;omega
 try simp only[Q,Pat.cs_len] at h1p
 refine sq (fun h2 h2p h2s=>?_) fun h2 h2p h2s=>?_
 try simp only[Q,Pat.cs_len] at h2p
 exfalso;omega
 try simp only[Q,Pat.cs_len] at h2p
 refine sq (fun h3 h3p h3s=>?_) fun h3 h3p h3s=>?_
 try simp only[Q,Pat.cs_len] at h3p
 exfalso;omega
 try simp only[Q,Pat.cs_len] at h3p
 refine sq (fun h4 h4p h4s=>?_) fun h4 h4p h4s=>?_
 try simp only[Q,Pat.cs_len] at h4p
 exfalso;omega
 try simp only[Q,Pat.cs_len] at h4p
 refine Walk.assignNil 9 6 .none rfl rfl ?_
 refine Walk.assignNil 8 6 .none rfl rfl ?_
 refine tv ?_
 refine wc zi5 (zc1 hs.dp.wt (zbQ ht) c1) rfl rfl ?_
 refine evd [14,15] [] ?_
 refine dr ?_
 refine CWp.loopX (ι:=Nat×List Pat×List Pat) hk (fun s=>[(94,.d (.i (s.1:Int))),(14,.gl 9 (s.2.1.map Pat.cc)),(15,.gl 8 (s.2.2.map Pat.cc))]) [16,17,19,20,21,22,95,96,97,98,99,100,101,102,103,104,105,106,107,108,109,110,111,112,113,114,115,116,117,118,119,120,121,122,123,124,125,126,127,128,129,130,131,132,133,134,135,136,137,138,139,140,141,142,143,144,145,146,147,148,149,150,151,152,153,154,155,156,157] (fun s=>[(9,some (.tok ((s.2.1.map Pat.cc)).length 6)),(8,some (.tok ((s.2.2.map Pat.cc)).length 6))]) (fun s=>s.1≤a.kids.length∧s.2.2.length=s.1∧s.2.1++zaI (zaq w n) a.ctor ((zaa w ⟨ta,tk⟩ a.ctor).drop s.1) (a.kids.drop s.1) (b.kids.drop s.1) s.2.2=zaI (zaq w n) a.ctor (zaa w ⟨ta,tk⟩ a.ctor) a.kids b.kids []) (fun s=>a.kids.length-s.1) (0,[],[]) ⟨by simp,rfl,rfl⟩ ⟨⟨_,rfl,LeA.eqi ?_⟩,⟨⟨_,rfl,LeA.glg ?_⟩,⟨⟨_,rfl,LeA.glg ?_⟩,trivial⟩⟩⟩ ⟨zab ?_,⟨zab ?_,trivial⟩⟩ (fun x=>rfl) (fun s hg2=>?_)
 iterate 5 focus (rfl)
 refine evc [14,15] [] ?_
 refine sq (fun h5 h5p h5s=>?_) fun h5 h5p h5s=>?_
 try simp only[Q,Pat.cs_len] at h5p
 refine Walk.idx za0 .none rfl rfl rfl rfl (zau (by omega)) rfl ?_
 refine evs [14,15] [] ?_
 refine ab 3017 tz25 ?_
 refine evs [14,15] [] ?_
 refine so ty25 ?_
 refine tv ?_
 refine Walk.idx sl26 .none rfl rfl rfl rfl (zaH (by omega)) rfl ?_
 refine evd [14,15] [] ?_
 refine Walk.idx sl26 .none rfl rfl rfl rfl (zaH (by omega)) rfl ?_
 refine evd [14,15] [] ?_
 refine wc zri (hmi s.1 (by omega)) rfl rfl ?_
 refine evd [14,15] [] ?_
 refine dr ?_
 refine CWp.loopX (ι:=List (Pat)×List (Pat)) hk (fun x=>[(113,.d (.i (x.1.length:Int))),(14,.gl 9 ((s.2.1++x.1.map (fun z=>zaS a.ctor (s.2.2++[z]++a.kids.drop (s.1+1)))).map Pat.cc))]) [19,20,114,115,116,117,118,119,120,121,122,123,124,125,126,127,128,129,130,131,132,133,134] (fun x=>[(9,some (.tok (((s.2.1++x.1.map (fun z=>zaS a.ctor (s.2.2++[z]++a.kids.drop (s.1+1)))).map Pat.cc)).length 6))]) (fun x=>x.1++x.2=(zaq w n (nth (zaa w ⟨ta,tk⟩ a.ctor) s.1) (nth a.kids s.1) (nth b.kids s.1))) (fun x=>x.2.length) ([],(zaq w n (nth (zaa w ⟨ta,tk⟩ a.ctor) s.1) (nth a.kids s.1) (nth b.kids s.1))) (by simp) ⟨⟨_,rfl,LeA.eqi ?_⟩,⟨⟨_,rfl,LeA.glg ?_⟩,trivial⟩⟩ ⟨zab ?_,trivial⟩ (fun x=>rfl) (fun x hg3=>?_)
 iterate 3 focus ((simp;done))
 obtain⟨pre,rest⟩:=x
 dsimp only at hg3 ⊢
 refine evc [14,15] [] ?_
 refine sq (fun h6 h6p h6s=>?_) fun h6 h6p h6s=>?_
 try simp only[Q,Pat.cs_len] at h6p
 rcases rest with _|⟨y,rest⟩
 ·exfalso;simp_all
 refine Walk.idx sl26 .none rfl rfl rfl rfl (Pat.cs_at' hg3) rfl ?_
 refine evs [14,15] [] ?_
 refine ab 3019 tz28 ?_
 refine so ty28 ?_
 refine tv ?_
 refine si [0] [_] sl26 tz28 ?_
 refine evd [14,15] [] ?_
 refine ar ?_ (by(constructor<;>omega))
 refine Walk.cut_l (b:=s.1+1) sl26 .none rfl rfl rfl (by intro x hx;exact zbD _ x hx) rfl rfl (by simp only[Pat.cs_len];omega) ?_
 refine si [0,1,2] [_,_,_] zdM tz26 ?_
 refine wc zvt (zuD (A:=s.2.2) (y:=y) (xs:=(Pat.cs a.kids).drop (s.1+1)) (B:=a.kids.drop (s.1+1)) (by rw[Pat.cs_cd,Pat.cs_cd,List.map_drop]) (by rw[List.length_drop];omega)) rfl rfl ?_
 refine evd [14,15] [] ?_
 refine dr ?_
 refine bu [0,1,5] [_,_,_] st28 ?_
 refine si [0] [_] sl26 tz28 ?_
 refine ap sl26 zz28 rfl rfl rfl (by intro x hx;(simp at hx;subst hx;rfl)) (by(have h9:=hT s.1 s.2.1 s.2.2 (by omega) hg2.2.2;have h8:=congrArg List.length hg3;simp at h8 ⊢;omega)) ?_
 refine asg ?_
 refine tv ?_
 refine ar ?_ (by(have h9:=hT s.1 s.2.1 s.2.2 (by omega) hg2.2.2;have h8:=congrArg List.length hg3;simp only[List.length_append,List.length_cons] at h8;constructor<;>omega))
 refine Exists.intro ((pre++[y],rest)) ⟨(by have hz:=hg3;rw[←hz];simp),(by simp),sx ⟨⟨_,rfl,LeA.eqi ?_⟩,⟨⟨_,rfl,LeA.glg ?_⟩,trivial⟩⟩ ⟨zab ?_,trivial⟩⟩
 iterate 3 focus (first|(simp;done)|(simp only[List.map_append,List.append_assoc,List.map_cons,List.map_nil];rfl)|(simp;omega))
 try simp only[Q,Pat.cs_len] at h6p
 have hrest:rest=[]:=by
  rcases rest with _|⟨a,b⟩
  ·rfl
  ·exfalso;have hz:=congrArg List.length (hg3);simp only[List.length_append,List.length_cons,List.length_map] at hz;omega
 subst hrest
 refine Walk.idx sl26 .none rfl rfl rfl rfl (zaH (by omega)) rfl ?_
 refine evd [14,15] [] ?_
 refine Walk.idx sl26 .none rfl rfl rfl rfl (zaH (by omega)) rfl ?_
 refine evd [14,15] [] ?_
 refine wc zoq (hme s.1 (by omega)) rfl rfl ?_
 refine evd [14,15] [] ?_
 refine ab 3021 tz28 ?_
 refine so ty28 ?_
 refine evd [14,15] [] ?_
 refine dr ?_
 refine sq (fun h7 h7p h7s=>?_) fun h7 h7p h7s=>?_
 try simp only[Q,Pat.cs_len] at h7p
 refine rn0 (r1 rfl) (.gld ?_)
 rotate_left
 try simp only[Q,Pat.cs_len] at h7p
 refine si [0] [_] sl26 tz28 ?_
 refine ap sl26 zz28 rfl rfl rfl (by intro x hx;(simp at hx;subst hx;rfl)) (by(have h9:=hT s.1 s.2.1 s.2.2 (by omega) hg2.2.2;have h8:=congrArg List.length hg3;simp at h8 ⊢;omega)) ?_
 refine asg ?_
 refine tv ?_
 refine ar ?_ (by(constructor<;>omega))
 refine Exists.intro ((s.1+1,s.2.1++(zaq w n (nth (zaa w ⟨ta,tk⟩ a.ctor) s.1) (nth a.kids s.1) (nth b.kids s.1)).map (fun z=>zaS a.ctor (s.2.2++[z]++a.kids.drop (s.1+1))),s.2.2++[zcx 11 (nth a.kids s.1) (nth b.kids s.1)])) ⟨⟨by dsimp only;omega,by dsimp only;rw[List.length_append,hg2.2.1];rfl,by dsimp only;rw[List.append_assoc,←zks (by omega) (by omega) (by omega) (by assumption)];exact hg2.2.2⟩,(by dsimp only;omega),sx ⟨⟨_,rfl,LeA.eqi ?_⟩,⟨⟨_,rfl,LeA.glg ?_⟩,⟨⟨_,rfl,LeA.glg ?_⟩,trivial⟩⟩⟩ ⟨zab ?_,⟨zab ?_,trivial⟩⟩⟩
 iterate 5 focus ((simp_all;done))
 try simp only[Q,Pat.cs_len] at h5p
 refine rn0 (r1 rfl) (.gld ?_)
 rotate_left
 all_goals (first|(rw[←hg2.2.2,zlW (by omega),List.append_nil,Pat.cs_cd];done)|(rw[List.append_nil] at hg3;rw[←hg2.2.2,zkq (by omega) (by omega) (by omega) (by assumption),←hg3,Pat.cs_cd];all_goals rfl))
theorem zpe (hs:Spa w){n:Nat}{ta tk:Int}{a b:Pat} (ht:InS (w.length*4) ⟨ta,tk⟩) (h1:a.op=1) (h4b:b.op=4) (hbd:(zaq w (n+1) ⟨ta,tk⟩ a b).length≤20000000)
  (hC:∀c∈zah w ⟨ta,tk⟩,MinusFn w f (n+1) ta tk (zbz w ⟨ta,tk⟩ c) b):MinusFn w f (n+1) ta tk a b:=by
 have e:zaq w (n+1) ⟨ta,tk⟩ a b=(zah w ⟨ta,tk⟩).flatMap fun c=>zaq w (n+1) ⟨ta,tk⟩ (zbz w ⟨ta,tk⟩ c) b:=by
  rw[zfs h4b h1]
  exact congrArg (fun g=>(zah w ⟨ta,tk⟩).flatMap g) (funext fun c=>(zcH h4b rfl).symm)
 unfold MinusFn
 rw[e] at hbd ⊢
 have hcl:=(hs.ctors _ ht).1
 have hpre:∀ {pre rest:List Int}{y:Int},pre++y::rest=zah w ⟨ta,tk⟩→(pre.flatMap fun c=>zaq w (n+1) ⟨ta,tk⟩ (zbz w ⟨ta,tk⟩ c) b).length+(zaq w (n+1) ⟨ta,tk⟩ (zbz w ⟨ta,tk⟩ y) b).length≤20000000:=fun h=>by
  rw[←h,List.flatMap_append,List.flatMap_cons] at hbd
  simp only[List.length_append] at hbd
  omega
 have hmem:∀ {pre rest:List Int}{y:Int},pre++y::rest=zah w ⟨ta,tk⟩→y∈zah w ⟨ta,tk⟩:=fun h=>by rw[←h];simp
 refine bd Tryz.f93 159 [11] [] fun w0 F0 own kept hk=>?_
 refine bx 3005 ?_
 refine bx 3006 ?_
 refine bx 3007 ?_
 refine evs [11] [] ?_
 refine sq (fun h1 h1p h1s=>?_) fun h1 h1p h1s=>?_
 try simp only[Q,Pat.cs_len] at h1p
 exfalso;omega
 try simp only[Q,Pat.cs_len] at h1p
 refine sq (fun h2 h2p h2s=>?_) fun h2 h2p h2s=>?_
 try simp only[Q,Pat.cs_len] at h2p
 exfalso;omega
 try simp only[Q,Pat.cs_len] at h2p
 refine sq (fun h3 h3p h3s=>?_) fun h3 h3p h3s=>?_
 try simp only[Q,Pat.cs_len] at h3p
 refine Walk.assignNil 9 6 .none rfl rfl ?_
 refine tv ?_
 refine wc zld (zd9 hs.dp.wt (zbQ ht)) rfl rfl ?_
 refine evd [11] [] ?_
 refine dr ?_
 refine CWp.loopX (ι:=List (Int)×List (Int)) hk (fun x=>[(61,.d (.i (x.1.length:Int))),(11,.gl 9 (Pat.cs (x.1.flatMap fun c=>zaq w (n+1) ⟨ta,tk⟩ (zbz w ⟨ta,tk⟩ c) b)))]) [13,62,63,64,65,66,67,68,69,70,71,72,73,74,75] (fun x=>[(9,some (.tok ((Pat.cs (x.1.flatMap fun c=>zaq w (n+1) ⟨ta,tk⟩ (zbz w ⟨ta,tk⟩ c) b))).length 6))]) (fun x=>x.1++x.2=zah w ⟨ta,tk⟩) (fun x=>x.2.length) ([],zah w ⟨ta,tk⟩) (by simp) ⟨⟨_,rfl,LeA.eqi ?_⟩,⟨⟨_,rfl,LeA.glg ?_⟩,trivial⟩⟩ ⟨zab ?_,trivial⟩ (fun x=>rfl) (fun x hg1=>?_)
 iterate 3 focus (rfl)
 obtain⟨pre,rest⟩:=x
 dsimp only at hg1 ⊢
 refine evc [11] [] ?_
 refine sq (fun h4 h4p h4s=>?_) fun h4 h4p h4s=>?_
 try simp only[Q,Pat.cs_len] at h4p
 rcases rest with _|⟨y,rest⟩
 ·exfalso;simp_all
 refine Walk.idx sl62 .none rfl rfl rfl rfl (zaK hg1) rfl ?_
 refine evs [11] [] ?_
 refine wc zvs (zod hs.dp.wt (f:=f) (zbQ ht) (hmem hg1) (hs.args _ _ ht (hmem hg1))) rfl rfl ?_
 refine evd [11] [] ?_
 refine wc zri (hC y (hmem hg1)) rfl rfl ?_
 refine ap sl26 zz28 rfl rfl rfl (by exact zbD _) (by have h9:=hpre hg1;simp only[Pat.cs_len];omega) ?_
 refine asg ?_
 refine dr ?_
 refine ar ?_
 refine Exists.intro ((pre++[y],rest)) ⟨(by have hz:=hg1;rw[←hz];simp),(by simp),sx ⟨⟨_,rfl,LeA.eqi ?_⟩,⟨⟨_,rfl,LeA.glg ?_⟩,trivial⟩⟩ ⟨zab ?_,trivial⟩⟩
 iterate 3 focus (first|(rw[List.flatMap_append,Pat.cs_cd,Pat.cs_cd,Pat.cs_cd,List.map_append];simp;done)|(simp[Pat.cs_len];done))
 try simp only[Q,Pat.cs_len] at h4p
 have hrest:rest=[]:=by
  rcases rest with _|⟨a,b⟩
  ·rfl
  ·exfalso;have hz:=congrArg List.length (hg1);simp only[List.length_append,List.length_cons,List.length_map] at hz;omega
 subst hrest
 refine rn0 (r1 rfl) (.gld ?_)
 rotate_left
 try simp only[Q,Pat.cs_len] at h3p
 exfalso;omega
 all_goals ((rw[List.append_nil] at hg1;rw[hg1];done))
theorem ziL (hs:Spa w):∀(n m:Nat){ta tk:Int}{a b:Pat},n<m→n≤10→m≤11→InS (w.length*4) ⟨ta,tk⟩→zac w m ⟨ta,tk⟩ a=true→zac w n ⟨ta,tk⟩ b=true→MinusFn w f n ta tk a b
 |0,m,ta,tk,a,b,_,_,_,_,_,hb=>by simp[zac] at hb
 |n+1,0,ta,tk,a,b,h,_,_,_,_,_=>by omega
 |n+1,m+1,ta,tk,a,b,h,hn,hm,ht,ha,hb=>by
  have hC:∀ {a:Pat},zac w (m+1) ⟨ta,tk⟩ a=true→a.op=4→b.op=4→MinusFn w f (n+1) ta tk a b:=fun {a} ha h4 h4b=>by
   by_cases hc:a.ctor=b.ctor
   ·exact zpf hs hn hm (by omega) (fun h1 h2 h3=>ziL hs n m (by omega) (by omega) (by omega) h1 h2 h3) ht ha hb h4 h4b hc
   ·exact zpg h4 h4b hc
  rcases zbc hb with h1|h3|h4b
  ·exact zpc h1
  ·have:=zbt hb h3
   exact zpd h3 ⟨by omega,by omega⟩ ⟨by omega,by omega⟩
  ·by_cases h1:a.op=1
   ·obtain⟨m',rfl⟩:∃m',m=m'+1:=⟨m-1,by omega⟩
    exact zpe hs ht h1 h4b (zft hs h hn ht ha hb) (fun c hc=>hC (zcl hc) rfl h4b)
   ·exact hC ha (by have:=zbM ha hb h1 (by omega);omega) h4b
end
abbrev zlc (x:UInt8):List D:=[.int .u8 (x.toNat:Int)]
abbrev zcJ (b:Str):D:= .sl (b.map zlc)
abbrev rdB (b:Str) (p:Nat):Res:= .box [.d (zcJ b),.d (.i p)]
theorem zmD (u:UInt8):0≤IntKind.i64.wrap (u.toNat:Int)∧IntKind.i64.wrap (u.toNat:Int)≤255:=by
 have h:u.toNat<256:=u.toNat_lt
 rw[zd4 (by omega)]
 omega
def zho (b:Str) (p:Nat):Int:=
 IntKind.i64.wrap ((nth b (p % b.length)).toNat:Int)*131+IntKind.i64.wrap ((nth b ((p*7+3) % b.length)).toNat:Int)*1117+((p:Int)+1-1)*29+((p:Int)+1-1) / ((b.map zlc).length:Int)*53
def zay (b:Str) (p:Nat) (n:Int):Int:=
 if n<1∨b.length=0 then 0
 else if p<b.length then IntKind.i64.wrap ((nth b p).toNat:Int) % n
 else xorV (zho b p) (zho b p / 64) % n
theorem zcO {b:Str}{p:Nat}{n:Int} (h:1≤n):0≤zay b p n∧zay b p n<n:=by
 unfold zay
 split
 ·omega
 ·split
  ·exact⟨Int.emod_nonneg _ (by omega),Int.emod_lt_of_pos _ (by omega)⟩
  ·exact⟨Int.emod_nonneg _ (by omega),Int.emod_lt_of_pos _ (by omega)⟩
theorem zbg {b:Str}{p:Nat}{n:Int} (hb:b.length≤2000) (hp:p≤1000000000000) (hn:n≤1000000000000):
  FnD Tryz.prog 57 [.ref 900 0,.d (.i n)] [(900,some (rdB b p))] (.d (.i (zay b p n))) [(900,some (rdB b (p+1)))]:=by
 have w1:=zmD (nth b (p % b.length))
 have w2:=zmD (nth b ((p*7+3) % b.length))
 have w3:=zmD (nth b p)
 have hlen:((b.map zlc).length:Int)=b.length:=by simp
 have d1:0≤((p:Int)+1-1) / ((b.map zlc).length:Int):=Int.ediv_nonneg (by omega) (by omega)
 have d2:((p:Int)+1-1) / ((b.map zlc).length:Int)≤(p:Int)+1-1:=Int.ediv_le_self _ (by omega)
 have hx:0≤zho b p∧zho b p≤100*1000000000000:=by unfold zho;omega
 have hx2:=zvd (m:=zho b p) (n:=zho b p / 64) (by omega) (by omega)
 have k1:(p:Int)+1-1=(p:Int):=by omega
 have hx3:=hx2
 have hx4:=hx
 unfold zho at hx3 hx4
 refine bd Tryz.f57 99 [46,57,74,89,94,95,98] [] fun w0 F0 own kept hk=>?_
 refine ar ?_
 refine so ty3 ?_
 refine tv ?_
 refine sq (fun h1 h1p h1s=>?_) fun h1 h1p h1s=>?_
 try simp only[Q] at h1p
 refine sqT ?_
 refine rn [(900,some (rdB b (p+1)))] (r1 rfl) (.eqd ?_) ⟨rfl,rfl⟩ (SubO.get ⟨.inr ?_,⟨.inl rfl,trivial⟩⟩) (zaF rfl)
 rotate_left 2
 try simp only[Q] at h1p
 refine sq (fun h3 h3p h3s=>?_) fun h3 h3p h3s=>?_
 try simp only[Q] at h3p
 refine rn [(900,some (rdB b (p+1)))] (r1 rfl) (.eqd ?_) ⟨rfl,rfl⟩ (SubO.get ⟨.inr ?_,⟨.inl rfl,trivial⟩⟩) (zaF rfl)
 rotate_left 2
 try simp only[Q] at h3p
 refine ar ?_
 refine sq (fun h4 h4p h4s=>?_) fun h4 h4p h4s=>?_
 try simp only[Q] at h4p
 refine Walk.idx (i:=p) sl22 .none rfl rfl rfl (by omega) (zau (by omega)) rfl ?_
 refine evs [46,57,74,89,94,95,98] [] ?_
 refine Walk.conv (by rw[un5];rfl) un3 .none rfl rfl ?_
 refine evs [46,57,74,89,94,95,98] [] ?_
 refine Walk.remI .none rfl rfl rfl (by omega) ?_
 refine evs [46,57,74,89,94,95,98] [] ?_
 refine rn [(900,some (rdB b (p+1)))] (r1 rfl) (.eqd ?_) ⟨rfl,rfl⟩ (SubO.get ⟨.inr ?_,⟨.inl rfl,trivial⟩⟩) (zaF rfl)
 rotate_left 2
 try simp only[Q] at h4p
 refine Walk.remI .none rfl rfl rfl (by omega) ?_
 refine Walk.idx (i:=p % b.length) sl22 .none rfl rfl rfl (by rw[k1,hlen];rfl) (zau (Nat.mod_lt _ (by omega))) rfl ?_
 refine evd [46,57,74,89,94,95,98] [] ?_
 refine Walk.conv (by rw[un5];rfl) un3 .none rfl rfl ?_
 refine evd [46,57,74,89,94,95,98] [] ?_
 refine ar ?_
 refine ar ?_
 refine ar ?_
 refine Walk.remI .none rfl rfl rfl (by omega) ?_
 refine Walk.idx (i:=(p*7+3) % b.length) sl22 .none rfl rfl rfl (by rw[k1,hlen];rfl) (zau (Nat.mod_lt _ (by omega))) rfl ?_
 refine evd [46,57,74,89,94,95,98] [] ?_
 refine Walk.conv (by rw[un5];rfl) un3 .none rfl rfl ?_
 refine evd [46,57,74,89,94,95,98] [] ?_
 refine ar ?_
 refine ar ?_
 refine ar ?_
 refine ar ?_
 refine Walk.quoI .none rfl rfl rfl (by omega) ?_
 refine evd [46,57,74,89,94,95,98] [] ?_
 refine ar ?_
 refine ar ?_
 refine dr ?_
 refine Walk.quoI .none rfl rfl rfl (by omega) ?_
 refine Walk.xorI .none rfl rfl rfl ?_
 refine evs [46,57,74,89,94,95,98] [] ?_
 refine Walk.remI .none rfl rfl rfl (by omega) ?_
 refine evs [46,57,74,89,94,95,98] [] ?_
 refine rn [(900,some (rdB b (p+1)))] (r1 rfl) (.eqd ?_) ⟨rfl,rfl⟩ (SubO.get ⟨.inr ?_,⟨.inl rfl,trivial⟩⟩) (zaF rfl)
 rotate_left 2
 all_goals (first|((refine congrArg D.i ?_;unfold zay;first|(rw[if_pos (by omega)];done)|(rw[if_neg (by omega),if_pos (by omega)];done)|(rw[if_neg (by omega),if_neg (by omega)];rfl));done)|(rfl))
def numV (b:Str) (p:Nat) (l:List Int):Int:=nth l (zay b p l.length).toNat
theorem zcE {b:Str}{p:Nat}{l:List Int} (hb:b.length≤2000) (hp:p≤1000000000000) (hl:1≤l.length) (hl2:l.length≤1000):
  FnD Tryz.prog 84 [.ref 900 0,.d (zcb l)] [(900,some (rdB b p))] (.d (.i (numV b p l))) [(900,some (rdB b (p+1)))]:=by
 have hv:=zcO (b:=b) (p:=p) (n:=((l.map fun n=>[D.i n]).length:Int)) (by simp;omega)
 have hlen:((l.map fun n=>[D.i n]).length:Int)=l.length:=by simp
 refine bd Tryz.f84 12 [] [] fun w0 F0 own kept hk=>?_
 refine wc zdf (zbg hb hp (by simp;omega)) rfl rfl ?_
 refine Walk.idx (i:=(zay b p ((l.map fun n=>[D.i n]).length:Int)).toNat) sl62 .none rfl rfl rfl (by omega) (zau (by omega)) rfl ?_
 refine ev ?_
 refine rn [(900,some (rdB b (p+1)))] (r1 rfl) (.eqd ?_) ⟨rfl,rfl⟩ (SubO.get ⟨.inr ?_,⟨.inl rfl,trivial⟩⟩) (zaF rfl)
 rotate_left 2
 all_goals (first|((refine congrArg D.i ?_;unfold numV;rw[hlen]);done)|(rfl))
theorem zme {b:Str} (hb:b.length≤1000000000000):FnD Tryz.prog 56 [.d (zcJ b)] [] (.ref 900 0) [(900,some (rdB (b.take 2000) 0))]:=by
 refine bd Tryz.f56 11 [] [] fun w0 F0 own kept hk=>?_
 refine sq (fun h1 h1p h1s=>?_) fun h1 h1p h1s=>?_
 refine Walk.cut_h (b:=2000) sl22 .none rfl rfl rfl (by intro x hx;obtain⟨y,_,rfl⟩:=List.mem_map.1 hx;rfl) rfl rfl (by simp at *;omega) ?_
 refine ev ?_
 refine bu [0] [_] zup ?_
 refine bx 900 ?_
 refine ev ?_
 focus (refine rn [(900,some (rdB (b.take 2000) 0))] (r1 rfl) (.refl _) ⟨rfl,rfl⟩ (SubH.get ⟨(by first|(simp[getH,rdB,zcJ,List.map_take];done)|(show some (Res.box _)=some (Res.box _);rw[List.take_of_length_le (by simp at *;omega)];rfl)),trivial⟩) (zaF rfl);all_goals (first|rfl|(simp[h1s,h1p];done)|(simp_all;done)|(simp_all;omega)|omega))
 refine bu [0] [_] zup ?_
 refine bx 900 ?_
 refine ev ?_
 focus (refine rn [(900,some (rdB (b.take 2000) 0))] (r1 rfl) (.refl _) ⟨rfl,rfl⟩ (SubH.get ⟨(by first|(simp[getH,rdB,zcJ,List.map_take];done)|(show some (Res.box _)=some (Res.box _);rw[List.take_of_length_le (by simp at *;omega)];rfl)),trivial⟩) (zaF rfl);all_goals (first|rfl|(simp[h1s,h1p];done)|(simp_all;done)|(simp_all;omega)|omega))
def cutL (c:UInt8):Str→Str→List Str
 |cur,[]=>[cur]
 |cur,x::r=>if x=c then cur::cutL c [] r else cutL c (cur++[x]) r
theorem zdR (c:UInt8):∀(s cur:Str),(cutL c cur s).length≤s.length+1
 | [],cur=>by simp[cutL]
 |x::r,cur=>by
  simp only[cutL]
  split
  ·have:=zdR c r [];simp only[List.length_cons];omega
  ·have:=zdR c r (cur++[x]);simp only[List.length_cons];omega
theorem zif (c:UInt8):∀(s cur:Str),1≤(cutL c cur s).length
 | [],cur=>by simp[cutL]
 |x::r,cur=>by
  simp only[cutL]
  split
  ·simp
  ·exact zif c r (cur++[x])
theorem zie (c:UInt8):∀(s cur:Str) (t:Str),t∈cutL c cur s→t.length≤cur.length+s.length
 | [],cur,t,h=>by simp only[cutL,List.mem_singleton] at h;subst h;simp
 |x::r,cur,t,h=>by
  simp only[cutL] at h
  split at h
  ·rcases List.mem_cons.1 h with rfl|h
   ·simp
   ·have:=zie c r [] t h;simp only[List.length_cons,List.length_nil] at this ⊢;omega
  ·have:=zie c r (cur++[x]) t h;simp only[List.length_append,List.length_cons,List.length_nil] at this ⊢;omega
theorem zg5 {s:Str}{i:Nat} (h:i<s.length):s[i]?=some (nth s i):=by rw[zaG h];exact List.getElem?_eq_getElem h
theorem zkB {s:Str}{f i:Nat} (hf:f≤i) (h:i<s.length):(s.take (i+1)).drop f=(s.take i).drop f++[nth s i]:=by
 rw[List.take_add_one,List.getElem?_eq_getElem h,List.drop_append_of_le_length (by simp;omega),zaG h]
 rfl
theorem zoV {s:Str}{f i:Nat}:(s.drop f).take (i-f)=(s.take i).drop f:=by rw[List.drop_take]
theorem zcd {s:Str}{c:UInt8} (hs:s.length≤1000000000000):FnD Tryz.prog 120 [.d (.str s),.d (.int .u8 (c.toNat:Int))] [] (.d (zeD (cutL c [] s))) []:=by
 have hu:∀a:UInt8,((a.toNat:Int)=(c.toNat:Int))↔a=c:=fun a=>by rw[Int.natCast_inj];exact UInt8.toNat_inj
 refine bd Tryz.f120 36 [] [] fun w0 F0 own kept hk=>?_
 refine Walk.sliceEmptyG 1 sl99 .none rfl rfl ?_
 refine ev ?_
 refine CWp.loopX (ι:=Nat×Nat×List Str) hk (fun x=>[(7,.d (.i (x.1:Int))),(6,.d (.i (x.2.1:Int))),(5,.gl 1 (x.2.2.map fun n=>[D.str n]))]) [9,10,11,12,13,14,15,16,17,18,19,20,21,22,23,24,25,26,27,28,29,30,31,32,33,34] (fun x=>[(1,some (.tok ((x.2.2.map fun n=>[D.str n])).length 1))]) (fun x=>x.1≤s.length+1∧x.2.2.length≤x.1∧if x.1=s.length+1 then x.2.2=cutL c [] s else x.2.1≤x.1∧x.2.2++cutL c ((s.take x.1).drop x.2.1) (s.drop x.1)=cutL c [] s) (fun x=>s.length+1-x.1) (0,0,[]) ⟨by simp,by simp,by rw[if_neg (by simp)];simp⟩ ⟨⟨_,rfl,LeA.eqi ?_⟩,⟨⟨_,rfl,LeA.eqi ?_⟩,⟨⟨_,rfl,LeA.glg ?_⟩,trivial⟩⟩⟩ ⟨zab ?_,trivial⟩ (fun x=>rfl) (fun x hg1=>?_)
 iterate 4 focus (rfl)
 refine evc [] [] ?_
 refine sq (fun h1 h1p h1s=>?_) fun h1 h1p h1s=>?_
 try simp only[Q,hu] at h1p
 have hne:¬x.1=s.length+1:=(by omega)
 have hcond:=hg1.2.2
 rw[if_neg hne] at hcond
 have hle:=hcond.1
 refine sq (fun h2 h2p h2s=>?_) fun h2 h2p h2s=>?_
 try simp only[Q,hu] at h2p
 refine sqT ?_
 refine Walk.cutS_lh un9 .none rfl rfl rfl rfl rfl rfl (by omega) (by omega) ?_
 refine si [0] [_] sl99 tz9 ?_
 refine ap sl99 zz9 rfl rfl rfl (by simp) (by simp;omega) ?_
 refine ev ?_
 refine ar ?_
 refine ar ?_
 refine Exists.intro (if x.1=s.length∨nth s x.1=c then (x.1+1,x.1+1,x.2.2++[(s.take x.1).drop x.2.1]) else (x.1+1,x.2.1,x.2.2)) ⟨(by
    have hne:¬x.1=s.length+1:=by omega
    rw[if_neg hne] at hg1
    obtain⟨g1,g2,g3,g4⟩:=hg1
    by_cases he:x.1=s.length
    ·rw[if_pos (.inl he)]
     refine⟨by dsimp only;omega,by simp;omega, ?_⟩
     dsimp only
     rw[if_pos (by omega),←g4,he,List.drop_length]
     rfl
    ·have hlt:x.1<s.length:=by omega
     rw[zaW hlt] at g4
     by_cases hc:nth s x.1=c
     ·rw[if_pos (.inr hc)]
      refine⟨by dsimp only;omega,by simp;omega, ?_⟩
      dsimp only
      rw[if_neg (by omega)]
      refine⟨by omega, ?_⟩
      rw[←g4,cutL,if_pos hc,List.append_assoc]
      simp
     ·rw[if_neg (by simp[he,hc])]
      refine⟨by dsimp only;omega,by dsimp only;omega, ?_⟩
      dsimp only
      rw[if_neg (by omega)]
      refine⟨by omega, ?_⟩
      rw[←g4,cutL,if_neg hc,zkB g3 hlt]),(by split<;>(dsimp only;omega)),sx ⟨⟨_,rfl,LeA.eqi ?_⟩,⟨⟨_,rfl,LeA.eqi ?_⟩,⟨⟨_,rfl,LeA.glg ?_⟩,trivial⟩⟩⟩ ⟨zab ?_,trivial⟩⟩
 iterate 4 focus ((split<;>first|(simp[zoV];done)|(simp;done)|(exfalso;simp_all;done)|(exfalso;simp_all;omega)))
 try simp only[Q,hu] at h2p
 refine Walk.idxS un9 (.some rfl rfl h2) rfl rfl rfl rfl (zg5 (by omega)) ?_
 refine evs [] [(19,false)] ?_ ⟨⟨_,rfl,h2⟩,trivial⟩
 refine sq (fun h4 h4p h4s=>?_) fun h4 h4p h4s=>?_
 try simp only[Q,hu] at h4p
 refine Walk.cutS_lh un9 .none rfl rfl rfl rfl rfl rfl (by omega) (by omega) ?_
 refine si [0] [_] sl99 tz9 ?_
 refine ap sl99 zz9 rfl rfl rfl (by simp) (by simp;omega) ?_
 refine ev ?_
 refine ar ?_
 refine ar ?_
 refine Exists.intro (if x.1=s.length∨nth s x.1=c then (x.1+1,x.1+1,x.2.2++[(s.take x.1).drop x.2.1]) else (x.1+1,x.2.1,x.2.2)) ⟨(by
    have hne:¬x.1=s.length+1:=by omega
    rw[if_neg hne] at hg1
    obtain⟨g1,g2,g3,g4⟩:=hg1
    by_cases he:x.1=s.length
    ·rw[if_pos (.inl he)]
     refine⟨by dsimp only;omega,by simp;omega, ?_⟩
     dsimp only
     rw[if_pos (by omega),←g4,he,List.drop_length]
     rfl
    ·have hlt:x.1<s.length:=by omega
     rw[zaW hlt] at g4
     by_cases hc:nth s x.1=c
     ·rw[if_pos (.inr hc)]
      refine⟨by dsimp only;omega,by simp;omega, ?_⟩
      dsimp only
      rw[if_neg (by omega)]
      refine⟨by omega, ?_⟩
      rw[←g4,cutL,if_pos hc,List.append_assoc]
      simp
     ·rw[if_neg (by simp[he,hc])]
      refine⟨by dsimp only;omega,by dsimp only;omega, ?_⟩
      dsimp only
      rw[if_neg (by omega)]
      refine⟨by omega, ?_⟩
      rw[←g4,cutL,if_neg hc,zkB g3 hlt]),(by split<;>(dsimp only;omega)),sx ⟨⟨_,rfl,LeA.eqi ?_⟩,⟨⟨_,rfl,LeA.eqi ?_⟩,⟨⟨_,rfl,LeA.glg ?_⟩,trivial⟩⟩⟩ ⟨zab ?_,trivial⟩⟩
 iterate 4 focus ((split<;>first|(simp[zoV];done)|(simp;done)|(exfalso;simp_all;done)|(exfalso;simp_all;omega)))
 try simp only[Q,hu] at h4p
 refine ar ?_
 refine Exists.intro (if x.1=s.length∨nth s x.1=c then (x.1+1,x.1+1,x.2.2++[(s.take x.1).drop x.2.1]) else (x.1+1,x.2.1,x.2.2)) ⟨(by
    have hne:¬x.1=s.length+1:=by omega
    rw[if_neg hne] at hg1
    obtain⟨g1,g2,g3,g4⟩:=hg1
    by_cases he:x.1=s.length
    ·rw[if_pos (.inl he)]
     refine⟨by dsimp only;omega,by simp;omega, ?_⟩
     dsimp only
     rw[if_pos (by omega),←g4,he,List.drop_length]
     rfl
    ·have hlt:x.1<s.length:=by omega
     rw[zaW hlt] at g4
     by_cases hc:nth s x.1=c
     ·rw[if_pos (.inr hc)]
      refine⟨by dsimp only;omega,by simp;omega, ?_⟩
      dsimp only
      rw[if_neg (by omega)]
      refine⟨by omega, ?_⟩
      rw[←g4,cutL,if_pos hc,List.append_assoc]
      simp
     ·rw[if_neg (by simp[he,hc])]
      refine⟨by dsimp only;omega,by dsimp only;omega, ?_⟩
      dsimp only
      rw[if_neg (by omega)]
      refine⟨by omega, ?_⟩
      rw[←g4,cutL,if_neg hc,zkB g3 hlt]),(by split<;>(dsimp only;omega)),sx ⟨⟨_,rfl,LeA.eqi ?_⟩,⟨⟨_,rfl,LeA.eqi ?_⟩,⟨⟨_,rfl,LeA.glg ?_⟩,trivial⟩⟩⟩ ⟨zab ?_,trivial⟩⟩
 iterate 4 focus ((split<;>first|rfl|(exfalso;simp_all;done)|(exfalso;simp_all;omega)))
 try simp only[Q,hu] at h1p
 refine rn0 (r1 rfl) (.gld ?_)
 rotate_left
 all_goals (have e:x.1=s.length+1:=(by omega);rw[if_pos e] at hg1;rw[hg1.2.2])
def zro (names:List Str) (s:Str):Int:=if s=[73] then -1 else if s∈names then idxF (fun n=>decide (n=s)) names 0 else -2
theorem zm3 {names:List Str}{s:Str} (hn:names.length≤1000000000000):FnD Tryz.prog 211 [.d (zeD names),.d (.str s)] [] (.d (.i (zro names s))) []:=by
 refine bd Tryz.f211 21 [] [] fun w0 F0 own kept hk=>?_
 refine sq (fun h1 h1p h1s=>?_) fun h1 h1p h1s=>?_
 try simp only[Q] at h1p
 refine rn0 (r1 rfl) (.eqd ?_)
 rotate_left
 try simp only[Q] at h1p
 refine CWp.loopX (ι:=List (Str)×List (Str)) hk (fun x=>[(5,.d (.i (x.1.length:Int)))]) [4,8,9,10,11,12,13,14,15,16,17,18,19,20] (fun x=>[]) (fun x=>x.1++x.2=names∧s∉x.1∧idxF (fun n=>decide (n=s)) x.2 x.1.length=idxF (fun n=>decide (n=s)) names 0) (fun x=>x.2.length) ([],names) ⟨by simp,by simp,rfl⟩ ⟨⟨_,rfl,LeA.eqi ?_⟩,trivial⟩ trivial (fun x=>rfl) (fun x hg1=>?_)
 focus (rfl)
 obtain⟨pre,rest⟩:=x
 dsimp only at hg1 ⊢
 refine evc [] [] ?_
 refine sq (fun h2 h2p h2s=>?_) fun h2 h2p h2s=>?_
 try simp only[Q] at h2p
 rcases rest with _|⟨y,rest⟩
 ·exfalso;simp_all
 refine Walk.idx sl99 .none rfl rfl rfl rfl (zaK hg1.1) rfl ?_
 refine ev ?_
 refine sq (fun h3 h3p h3s=>?_) fun h3 h3p h3s=>?_
 try simp only[Q] at h3p
 refine rn0 (r1 rfl) (.eqd ?_)
 rotate_left
 try simp only[Q] at h3p
 refine ar ?_
 refine Exists.intro ((pre++[y],rest)) ⟨⟨(by have hz:=hg1.1;rw[←hz];simp),⟨(by have h1:=hg1.2.1;simp_all[eq_comm]),(by rw[←hg1.2.2];simp_all[idxF])⟩⟩,(by simp),sx ⟨⟨_,rfl,LeA.eqi ?_⟩,trivial⟩ trivial⟩
 focus ((simp;done))
 try simp only[Q] at h2p
 have hrest:rest=[]:=by
  rcases rest with _|⟨a,b⟩
  ·rfl
  ·exfalso;have hz:=congrArg List.length (hg1.1);simp only[List.length_append,List.length_cons,List.length_map] at hz;omega
 subst hrest
 refine rn0 (r1 rfl) (.eqd ?_)
 rotate_left
 all_goals (refine congrArg D.i ?_;unfold zro;by_cases hz:s=[73]<;>by_cases hm:s∈names<;>simp only[hz,hm,if_true,if_false];all_goals first|(exfalso;simp_all;done)|(exfalso;apply hm;subst h3p;rw[←hg1.1];simp;done)|(exfalso;apply hg1.2.1;rw[←hg1.1,List.append_nil] at hm;exact hm)|(rw[←hg1.2.2];simp_all[idxF];done))
def zeK (names:List Str) (s:Str):Ty:=
 if s=[] then ⟨-2,0⟩
 else ⟨zro names (s.take 1),if s.drop 1=[42] then -1 else if s.length=2∧48≤(nth s 1).toNat∧(nth s 1).toNat≤57 then ((nth s 1).toNat:Int)-48 else 0⟩
theorem zrl {b:UInt8} (h1:48≤b.toNat) (h2:b.toNat≤57):IntKind.i64.wrap (IntKind.u8.wrap ((b.toNat:Int)-48))=(b.toNat:Int)-48:=by
 rw[zva,zd4 (by omega)];omega
theorem zfj {names:List Str}{s:Str} (hn:names.length≤1000000000000) (hs:s.length≤1000000000000):
  FnD Tryz.prog 173 [.d (zeD names),.d (.str s)] [] (.agg [.d (.i (zeK names s).data),.d (.i (zeK names s).index)]) []:=by
 have hlen:s≠[]→1≤s.length:=fun h=>by rcases s with _|⟨a,r⟩;exact absurd rfl h;simp
 refine bd Tryz.f173 39 [35] [] fun w0 F0 own kept hk=>?_
 refine ab 3004 tz25 ?_
 refine tv ?_
 refine sq (fun h1 h1p h1s=>?_) fun h1 h1p h1s=>?_
 try simp only[Q] at h1p
 refine bu [0] [_] st25 ?_
 refine so ty25 ?_
 refine tv ?_
 refine rn0 (.cons (.cellA ty25 rfl rfl rfl) .nil) (.agg (.cons (.eqd ?_) (.cons (.eqd ?_) .nil)))
 rotate_left 2
 try simp only[Q] at h1p
 refine Walk.cutS_h (b:=1) un9 .none rfl rfl rfl rfl (by have:=hlen (by simp_all);omega) ?_
 refine wc zvO (zm3 (names:=names) (s:=s.take 1) hn) rfl rfl ?_
 refine bu [0] [_] st25 ?_
 refine ab 3005 tz25 ?_
 refine so ty25 ?_
 refine tv ?_
 refine Walk.cutS_l (b:=1) un9 .none rfl rfl rfl rfl (by have:=hlen (by simp_all);omega) ?_
 refine evs [35] [] ?_
 refine sq (fun h2 h2p h2s=>?_) fun h2 h2p h2s=>?_
 try simp only[Q] at h2p
 refine so ty3 ?_
 refine tv ?_
 refine so ty25 ?_
 refine tv ?_
 refine rn0 (.cons (.cellA ty25 rfl rfl rfl) .nil) (.agg (.cons (.eqd ?_) (.cons (.eqd ?_) .nil)))
 rotate_left 2
 try simp only[Q] at h2p
 refine sq (fun h3 h3p h3s=>?_) fun h3 h3p h3s=>?_
 try simp only[Q] at h3p
 refine Walk.idxS (i:=1) un9 (.some rfl rfl h3) rfl rfl rfl rfl (zg5 (by simp_all;omega)) ?_
 refine evs [35] [(23,true)] ?_ ⟨⟨_,rfl,h3⟩,trivial⟩
 refine sq (fun h4 h4p h4s=>?_) fun h4 h4p h4s=>?_
 try simp only[Q] at h4p
 refine Walk.idxS (i:=1) un9 (.some rfl rfl h4) rfl rfl rfl rfl (zg5 (by simp_all;omega)) ?_
 refine evs [35] [(28,true)] ?_ ⟨⟨_,rfl,h4⟩,trivial⟩
 refine sq (fun h5 h5p h5s=>?_) fun h5 h5p h5s=>?_
 try simp only[Q] at h5p
 refine Walk.idxS (i:=1) un9 .none rfl rfl rfl rfl (zg5 (by simp_all;omega)) ?_
 refine Walk.subW .none rfl rfl rfl ?_
 refine Walk.conv (by rw[un5];rfl) un3 .none rfl rfl ?_
 refine evs [35] [] ?_
 refine so ty3 ?_
 refine tv ?_
 refine so ty25 ?_
 refine tv ?_
 refine rn0 (.cons (.cellA ty25 rfl rfl rfl) .nil) (.agg (.cons (.eqd ?_) (.cons (.eqd ?_) .nil)))
 rotate_left 2
 try simp only[Q] at h5p
 refine so ty25 ?_
 refine tv ?_
 refine rn0 (.cons (.cellA ty25 rfl rfl rfl) .nil) (.agg (.cons (.eqd ?_) (.cons (.eqd ?_) .nil)))
 rotate_left 2
 try simp only[Q] at h4p
 refine sqF ?_
 refine so ty25 ?_
 refine tv ?_
 refine rn0 (.cons (.cellA ty25 rfl rfl rfl) .nil) (.agg (.cons (.eqd ?_) (.cons (.eqd ?_) .nil)))
 rotate_left 2
 try simp only[Q] at h3p
 refine sqF ?_
 refine sqF ?_
 refine so ty25 ?_
 refine tv ?_
 refine rn0 (.cons (.cellA ty25 rfl rfl rfl) .nil) (.agg (.cons (.eqd ?_) (.cons (.eqd ?_) .nil)))
 rotate_left 2
 all_goals (unfold zeK;first|(rw[zrl (b:=nth s 1) (by omega) (by omega),if_neg h1p];dsimp only;rw[if_neg h2p,if_pos ⟨by omega,by omega,by omega⟩];done)|(rw[if_pos h1p];done)|(rw[if_neg h1p];done)|(rw[if_neg h1p];dsimp only;rw[if_pos h2p];done)|(rw[if_neg h1p];dsimp only;rw[if_neg h2p,if_neg (fun hh=>by omega)];done))
def zoY (s:Str):Prop:=2<s.length∧nth s (s.length-2)=58
instance (s:Str):Decidable (zoY s):=inferInstanceAs (Decidable (_∧_))
def zgO (names:List Str) (ix:Int) (s:Str):Ctor:=
 let parts:=cutL 40 [] s
 ⟨nth parts 0,if parts.length<2∨(nth parts 1).length=0 then [] else ((cutL 44 [] ((nth parts 1).take ((nth parts 1).length-1))).take 4).map (zeK names),ix⟩
def zcn (names:List Str) (s:Str):Ctor:=
 if zoY s then zgO names (((nth s (s.length-1)).toNat:Int)-48) (s.take (s.length-2)) else zgO names 0 s
theorem zgc {α β:Type} [Inhabited α]{f:α→β}{l:List α}{i:Nat} (h:i<l.length):(l.map f).take (i+1)=(l.map f).take i++[f (nth l i)]:=by
 rw[List.take_add_one,List.getElem?_map,List.getElem?_eq_getElem h]
 simp[nth,List.getD,h]
theorem zn2 {α:Type}{l:List α}{i:Nat} (h:i=4∨(i≤4∧l.length≤i)):l.take i=l.take 4:=by
 rcases h with rfl|⟨h1,h2⟩
 ·rfl
 ·rw[List.take_of_length_le h2,List.take_of_length_le (by omega)]
theorem zwI {a b:UInt8}:((a.toNat:Int)=(b.toNat:Int))↔a=b:=by rw[Int.natCast_inj];exact UInt8.toNat_inj
theorem ztc (a:UInt8):IntKind.i64.wrap (a.toNat:Int)=(a.toNat:Int):=by have:=a.toNat_lt;exact zd4 (by omega)
theorem zdS {c:UInt8}{s:Str}{i:Nat} (h:i<(cutL c [] s).length):(nth (cutL c [] s) i).length≤s.length:=by
 have:=zie c s [] _ (zae h);simpa using this
theorem ziZ {names:List Str}{s:Str} (hn:names.length≤1000000000000) (hs:s.length≤1000000):
  FnD Tryz.prog 121 [.d (zeD names),.d (.str s)] [] (.agg [.d (.str (zcn names s).name),.d (zb8 (zcn names s).args),.d (.i (zcn names s).index)]) []:=by
 have hwb:=ztc (nth s (s.length-1))
 have hwl:=(nth s (s.length-1)).toNat_lt
 by_cases hc:zoY s
 ·have hc1:=hc.1
  have hct:(s.take (s.length-2)).length=s.length-2:=by rw[List.length_take];omega
  have hcl:=zdR 40 (s.take (s.length-2)) []
  have hcp:=zif 40 (s.take (s.length-2)) []
  have hn1:=fun h=>zdS (c:=40) (s:=s.take (s.length-2)) (i:=1) h
  have hal:=zdR 44 ((nth (cutL 40 [] (s.take (s.length-2))) 1).take ((nth (cutL 40 [] (s.take (s.length-2))) 1).length-1)) []
  refine bd Tryz.f121 83 [] [2,7] fun w0 F0 own kept hk=>?_
  refine ab 3004 zgB ?_
  refine tv ?_
  refine bu [] [] zuq ?_
  refine ab 3005 zgB ?_
  refine so zcV ?_
  refine tv ?_
  refine CWp.regionJ ?_
  refine WRest.join 11 [(20,.d (.bool (true)))] [10,11,12,13,14,15,16,17,18,19] ?_ ?_
  refine ev ?_
  refine sq (fun h1 h1p h1s=>?_) fun h1 h1p h1s=>?_
  try simp only[Q,List.length_take] at h1p
  refine ar ?_
  refine Walk.idxS (i:=s.length-2) un9 (.some rfl rfl h1) rfl rfl rfl (by omega) (zg5 (by omega)) ?_
  refine evs [] [(13,true)] ?_ ⟨⟨_,rfl,h1⟩,trivial⟩
  exact jn rfl (LeA.eqb (by(exact decide_eq_true (congrArg (fun z:UInt8=>(z.toNat:Int)) hc.2))))
  try simp only[Q,List.length_take] at h1p
  exact jn rfl (LeA.eqb (by(exfalso;omega)))
  refine WRest.done ?_
  refine tv ?_
  refine sq (fun h2 h2p h2s=>?_) fun h2 h2p h2s=>?_
  try simp only[Q,List.length_take] at h2p
  refine ar ?_
  refine Walk.idxS (i:=s.length-1) un9 .none rfl rfl rfl (by omega) (zg5 (by omega)) ?_
  refine Walk.conv (by rw[un5];rfl) un3 .none rfl rfl ?_
  refine ev ?_
  refine ar ?_
  refine so ty3 ?_
  refine tv ?_
  refine ar ?_
  refine Walk.cutS_h (b:=s.length-2) un9 .none rfl rfl rfl (by omega) (by omega) ?_
  refine ev ?_
  refine wc zfP (zcd (s:=s.take (s.length-2)) (c:=40) (by first|omega|(simp;omega))) rfl rfl ?_
  refine ev ?_
  refine Walk.idx (i:=0) sl99 .none rfl rfl rfl rfl (zau (by omega)) rfl ?_
  refine ev ?_
  refine so ty9 ?_
  refine tv ?_
  refine CWp.regionJ ?_
  refine WRest.join 10 [(49,.d (.bool (decide ((cutL 40 [] (s.take (s.length-2))).length<2∨(nth (cutL 40 [] (s.take (s.length-2))) 1).length=0))))] [40,41,42,43,44,45,46,47,48] ?_ ?_
  refine ev ?_
  refine sq (fun h3 h3p h3s=>?_) fun h3 h3p h3s=>?_
  try simp only[Q,List.length_take] at h3p
  exact jn rfl (LeA.eqb (by(refine(decide_eq_true ?_).symm;omega)))
  try simp only[Q,List.length_take] at h3p
  refine Walk.idx (i:=1) sl99 (.some rfl rfl h3) rfl rfl rfl rfl (zau (by omega)) rfl ?_
  refine evs [] [(43,false)] ?_ ⟨⟨_,rfl,h3⟩,trivial⟩
  exact jn rfl (LeA.eqb (by(refine decide_eq_decide.2 ?_;omega)))
  refine WRest.done ?_
  refine tv ?_
  refine sq (fun h4 h4p h4s=>?_) fun h4 h4p h4s=>?_
  try simp only[Q,List.length_take] at h4p
  refine so zcV ?_
  refine tv ?_
  refine rn0 (.cons (.cellA zcV rfl rfl rfl) .nil) (.agg (.cons (.eqd ?_) (.cons (.nild ?_) (.cons (.eqd ?_) .nil))))
  rotate_left 3
  try simp only[Q,List.length_take] at h4p
  refine Walk.idx (i:=1) sl99 .none rfl rfl rfl rfl (zau (by omega)) rfl ?_
  refine evd [] [] ?_
  refine Walk.idx (i:=1) sl99 .none rfl rfl rfl rfl (zau (by omega)) rfl ?_
  refine evd [] [] ?_
  refine ar ?_
  refine Walk.cutS_h (b:=(nth (cutL 40 [] (s.take (s.length-2))) 1).length-1) un9 .none rfl rfl rfl (by omega) (by omega) ?_
  refine wc zfP (zcd (s:=(nth (cutL 40 [] (s.take (s.length-2))) 1).take ((nth (cutL 40 [] (s.take (s.length-2))) 1).length-1)) (c:=44) (by simp;omega)) rfl rfl ?_
  refine evd [] [] ?_
  refine dr ?_
  refine CWp.tokB 3005 1 1 2 rfl rfl rfl rfl ?_
  refine CWp.loopX (ι:=Nat) hk (fun i=>[(8,.d (.i (i:Int)))]) [61,62,63,64,65,66,67,68,69,70,71,72,73,74,75,76,77,78,79,80,81] (fun i=>[(3005,some (.box [.d (.str (nth (cutL 40 [] (s.take (s.length-2))) 0)),.gl 1 (((((cutL 44 [] ((nth (cutL 40 [] (s.take (s.length-2))) 1).take ((nth (cutL 40 [] (s.take (s.length-2))) 1).length-1))).map (zeK names)).take i)).map Ty.c),.d (.i (((nth s (s.length-1)).toNat:Int)-48))])),(1,some (.tok (((((cutL 44 [] ((nth (cutL 40 [] (s.take (s.length-2))) 1).take ((nth (cutL 40 [] (s.take (s.length-2))) 1).length-1))).map (zeK names)).take i)).map Ty.c).length 2))]) (fun i=>i≤4∧i≤(cutL 44 [] ((nth (cutL 40 [] (s.take (s.length-2))) 1).take ((nth (cutL 40 [] (s.take (s.length-2))) 1).length-1))).length) (fun i=>4-i) 0 ⟨by omega,by omega⟩ ⟨⟨_,rfl,LeA.eqi ?_⟩,trivial⟩ ⟨?_,⟨zab ?_,trivial⟩⟩ (fun x=>rfl) (fun i hg1=>?_)
  focus (rfl)
  focus ((show some (Res.box _)=some (Res.box _);rw[hwb];rfl))
  focus (rfl)
  refine evc [] [2,7] ?_
  refine sq (fun h5 h5p h5s=>?_) fun h5 h5p h5s=>?_
  try simp only[Q,List.length_take] at h5p
  refine sq (fun h6 h6p h6s=>?_) fun h6 h6p h6s=>?_
  try simp only[Q,List.length_take] at h6p
  refine Walk.idx sl99 .none rfl rfl rfl rfl (zau (by omega)) rfl ?_
  refine evd [] [] ?_
  refine wc zr9 (zfj (names:=names) (s:=nth (cutL 44 [] ((nth (cutL 40 [] (s.take (s.length-2))) 1).take ((nth (cutL 40 [] (s.take (s.length-2))) 1).length-1))) i) hn (by have:=zdS (c:=44) (s:=(nth (cutL 40 [] (s.take (s.length-2))) 1).take ((nth (cutL 40 [] (s.take (s.length-2))) 1).length-1)) (i:=i) (by omega);simp at this;omega)) rfl rfl ?_
  refine si [0] [_] za0 tz25 ?_
  refine ap za0 zz25 rfl rfl rfl (by simp) (by simp;omega) ?_
  refine evd [] [] ?_
  refine so zus ?_
  refine dr ?_
  refine ar ?_
  refine Exists.intro (i+1) ⟨⟨by omega,by omega⟩,(by omega),sx ⟨⟨_,rfl,LeA.eqi ?_⟩,trivial⟩ ⟨?_,⟨zab ?_,trivial⟩⟩⟩
  focus (rfl)
  focus ((show some (Res.box _)=some (Res.box _);rw[zgc (by omega)];simp;done))
  focus ((simp;omega))
  try simp only[Q,List.length_take] at h6p
  refine so zcV ?_
  refine tv ?_
  refine rn0 (.cons (.cellA zcV rfl rfl rfl) .nil) (.agg (.cons (.eqd ?_) (.cons (.gld ?_) (.cons (.eqd ?_) .nil))))
  rotate_left 3
  try simp only[Q,List.length_take] at h5p
  refine sqF ?_
  refine so zcV ?_
  refine tv ?_
  refine rn0 (.cons (.cellA zcV rfl rfl rfl) .nil) (.agg (.cons (.eqd ?_) (.cons (.gld ?_) (.cons (.eqd ?_) .nil))))
  rotate_left 3
  try simp only[Q,List.length_take] at h2p
  exact absurd h2 (by simp)
  all_goals (unfold zcn;rw[if_pos hc];first|rfl|(rw[hwb];rfl)|(unfold zgO;dsimp only;by_cases hq:(cutL 40 [] (s.take (s.length-2))).length<2∨(nth (cutL 40 [] (s.take (s.length-2))) 1).length=0;all_goals first|(exfalso;exact(of_decide_eq_false h4) hq)|(exfalso;exact hq (of_decide_eq_true h4))|(rw[if_pos hq];done)|(rw[if_pos hq];rfl)|(rw[if_neg hq,←List.map_take,zn2 (by omega)];done)))
 ·skip
  have hcl:=zdR 40 (s) []
  have hcp:=zif 40 (s) []
  have hn1:=fun h=>zdS (c:=40) (s:=s) (i:=1) h
  have hal:=zdR 44 ((nth (cutL 40 [] (s)) 1).take ((nth (cutL 40 [] (s)) 1).length-1)) []
  refine bd Tryz.f121 83 [] [2,7] fun w0 F0 own kept hk=>?_
  refine ab 3004 zgB ?_
  refine tv ?_
  refine bu [] [] zuq ?_
  refine ab 3005 zgB ?_
  refine so zcV ?_
  refine tv ?_
  refine CWp.regionJ ?_
  refine WRest.join 11 [(20,.d (.bool (false)))] [10,11,12,13,14,15,16,17,18,19] ?_ ?_
  refine ev ?_
  refine sq (fun h1 h1p h1s=>?_) fun h1 h1p h1s=>?_
  try simp only[Q,List.length_take] at h1p
  refine ar ?_
  refine Walk.idxS (i:=s.length-2) un9 (.some rfl rfl h1) rfl rfl rfl (by omega) (zg5 (by omega)) ?_
  refine evs [] [(13,true)] ?_ ⟨⟨_,rfl,h1⟩,trivial⟩
  exact jn rfl (LeA.eqb (by(exact decide_eq_false (fun hh=>hc ⟨by omega,(zwI (b:=58)).1 hh⟩))))
  try simp only[Q,List.length_take] at h1p
  exact jn rfl (LeA.eqb (by rfl))
  refine WRest.done ?_
  refine tv ?_
  refine sq (fun h2 h2p h2s=>?_) fun h2 h2p h2s=>?_
  try simp only[Q,List.length_take] at h2p
  exact absurd h2 (by simp)
  try simp only[Q,List.length_take] at h2p
  refine wc zfP (zcd (s:=s) (c:=40) (by first|omega|(simp;omega))) rfl rfl ?_
  refine ev ?_
  refine Walk.idx (i:=0) sl99 .none rfl rfl rfl rfl (zau (by omega)) rfl ?_
  refine ev ?_
  refine so ty9 ?_
  refine tv ?_
  refine CWp.regionJ ?_
  refine WRest.join 10 [(49,.d (.bool (decide ((cutL 40 [] (s)).length<2∨(nth (cutL 40 [] (s)) 1).length=0))))] [40,41,42,43,44,45,46,47,48] ?_ ?_
  refine ev ?_
  refine sq (fun h3 h3p h3s=>?_) fun h3 h3p h3s=>?_
  try simp only[Q,List.length_take] at h3p
  exact jn rfl (LeA.eqb (by(refine(decide_eq_true ?_).symm;omega)))
  try simp only[Q,List.length_take] at h3p
  refine Walk.idx (i:=1) sl99 (.some rfl rfl h3) rfl rfl rfl rfl (zau (by omega)) rfl ?_
  refine evs [] [(43,false)] ?_ ⟨⟨_,rfl,h3⟩,trivial⟩
  exact jn rfl (LeA.eqb (by(refine decide_eq_decide.2 ?_;omega)))
  refine WRest.done ?_
  refine tv ?_
  refine sq (fun h4 h4p h4s=>?_) fun h4 h4p h4s=>?_
  try simp only[Q,List.length_take] at h4p
  refine so zcV ?_
  refine tv ?_
  refine rn0 (.cons (.cellA zcV rfl rfl rfl) .nil) (.agg (.cons (.eqd ?_) (.cons (.nild ?_) (.cons (.eqd ?_) .nil))))
  rotate_left 3
  try simp only[Q,List.length_take] at h4p
  refine Walk.idx (i:=1) sl99 .none rfl rfl rfl rfl (zau (by omega)) rfl ?_
  refine evd [] [] ?_
  refine Walk.idx (i:=1) sl99 .none rfl rfl rfl rfl (zau (by omega)) rfl ?_
  refine evd [] [] ?_
  refine ar ?_
  refine Walk.cutS_h (b:=(nth (cutL 40 [] (s)) 1).length-1) un9 .none rfl rfl rfl (by omega) (by omega) ?_
  refine wc zfP (zcd (s:=(nth (cutL 40 [] (s)) 1).take ((nth (cutL 40 [] (s)) 1).length-1)) (c:=44) (by simp;omega)) rfl rfl ?_
  refine evd [] [] ?_
  refine dr ?_
  refine CWp.tokB 3005 1 1 2 rfl rfl rfl rfl ?_
  refine CWp.loopX (ι:=Nat) hk (fun i=>[(8,.d (.i (i:Int)))]) [61,62,63,64,65,66,67,68,69,70,71,72,73,74,75,76,77,78,79,80,81] (fun i=>[(3005,some (.box [.d (.str (nth (cutL 40 [] (s)) 0)),.gl 1 (((((cutL 44 [] ((nth (cutL 40 [] (s)) 1).take ((nth (cutL 40 [] (s)) 1).length-1))).map (zeK names)).take i)).map Ty.c),.d (.i (0))])),(1,some (.tok (((((cutL 44 [] ((nth (cutL 40 [] (s)) 1).take ((nth (cutL 40 [] (s)) 1).length-1))).map (zeK names)).take i)).map Ty.c).length 2))]) (fun i=>i≤4∧i≤(cutL 44 [] ((nth (cutL 40 [] (s)) 1).take ((nth (cutL 40 [] (s)) 1).length-1))).length) (fun i=>4-i) 0 ⟨by omega,by omega⟩ ⟨⟨_,rfl,LeA.eqi ?_⟩,trivial⟩ ⟨?_,⟨zab ?_,trivial⟩⟩ (fun x=>rfl) (fun i hg1=>?_)
  focus (rfl)
  focus (rfl)
  focus (rfl)
  refine evc [] [2,7] ?_
  refine sq (fun h5 h5p h5s=>?_) fun h5 h5p h5s=>?_
  try simp only[Q,List.length_take] at h5p
  refine sq (fun h6 h6p h6s=>?_) fun h6 h6p h6s=>?_
  try simp only[Q,List.length_take] at h6p
  refine Walk.idx sl99 .none rfl rfl rfl rfl (zau (by omega)) rfl ?_
  refine evd [] [] ?_
  refine wc zr9 (zfj (names:=names) (s:=nth (cutL 44 [] ((nth (cutL 40 [] (s)) 1).take ((nth (cutL 40 [] (s)) 1).length-1))) i) hn (by have:=zdS (c:=44) (s:=(nth (cutL 40 [] (s)) 1).take ((nth (cutL 40 [] (s)) 1).length-1)) (i:=i) (by omega);simp at this;omega)) rfl rfl ?_
  refine si [0] [_] za0 tz25 ?_
  refine ap za0 zz25 rfl rfl rfl (by simp) (by simp;omega) ?_
  refine evd [] [] ?_
  refine so zus ?_
  refine dr ?_
  refine ar ?_
  refine Exists.intro (i+1) ⟨⟨by omega,by omega⟩,(by omega),sx ⟨⟨_,rfl,LeA.eqi ?_⟩,trivial⟩ ⟨?_,⟨zab ?_,trivial⟩⟩⟩
  focus (rfl)
  focus ((show some (Res.box _)=some (Res.box _);rw[zgc (by omega)];simp;done))
  focus ((simp;omega))
  try simp only[Q,List.length_take] at h6p
  refine so zcV ?_
  refine tv ?_
  refine rn0 (.cons (.cellA zcV rfl rfl rfl) .nil) (.agg (.cons (.eqd ?_) (.cons (.gld ?_) (.cons (.eqd ?_) .nil))))
  rotate_left 3
  try simp only[Q,List.length_take] at h5p
  refine sqF ?_
  refine so zcV ?_
  refine tv ?_
  refine rn0 (.cons (.cellA zcV rfl rfl rfl) .nil) (.agg (.cons (.eqd ?_) (.cons (.gld ?_) (.cons (.eqd ?_) .nil))))
  rotate_left 3
  all_goals (unfold zcn;rw[if_neg hc];first|rfl|(unfold zgO;dsimp only;by_cases hq:(cutL 40 [] (s)).length<2∨(nth (cutL 40 [] (s)) 1).length=0;all_goals first|(exfalso;exact(of_decide_eq_false h4) hq)|(exfalso;exact hq (of_decide_eq_true h4))|(rw[if_pos hq];done)|(rw[if_pos hq];rfl)|(rw[if_neg hq,←List.map_take,zn2 (by omega)];done)))
def decV (n:Int):Str:=strN [IntKind.u8.wrap (48+n)]
theorem zkD (n:Int):(decV n).length=1:=rfl
def zjp (n:Int):Str:=if n=0 then [] else if n = -1 then [42] else decV n
theorem zlL (n:Int):(zjp n).length≤1:=by unfold zjp;split;simp;split;simp;rw[zkD];omega
def zf4 (w:List Data) (t:Ty):Str:=if t.data = -1 then [73] else (nth w t.data.toNat).name++zjp t.index
def zda (w:List Data):Bool→List Ty→Str
 |_,[]=>[]
 |b,t::r=>((if b then [40] else [44])++zf4 w t)++zda w false r
def zca (w:List Data) (c:Ctor):Str:=
 let o:=c.name++zda w true c.args
 let p:=if 0<c.args.length then o++[41] else o
 if 0<c.index then (p++[58])++decV c.index else p
def zbT (w:List Data):Bool→List Ctor→Str
 |_,[]=>[]
 |b,c::r=>((if b then [] else [124])++zca w c)++zbT w false r
def zhM (w:List Data):Bool→List Data→Str
 |_,[]=>[]
 |b,d::r=>((if b then [] else [59])++(d.name++[61])++zbT w true d.ctors)++zhM w false r
def zeR (w:List Data):Str:=zhM w true w
structure TB (w:List Data):Prop where
 len:w.length≤4
 dn:∀d∈w,d.name.length≤1∧d.ctors.length≤4
 cn:∀d∈w,∀c∈d.ctors,c.name.length≤5∧c.args.length≤3∧0≤c.index∧c.index≤3
 ar:∀d∈w,∀c∈d.ctors,∀t∈c.args,(t.data = -1∨(0≤t.data∧t.data.toNat<w.length))∧ -1≤t.index∧t.index≤3
theorem ztY {w:List Data} (hv:za1 w=true):TB w:=by
 have hW:=(zce w).1 hv
 refine⟨hW.len,fun d hd=>?_,fun d hd c hc=>?_,fun d hd c hc t ht=>?_⟩
 ·have h:=hW.data d hd
  have h1:=h.1
  simp only[zbj,Bool.and_eq_true,decide_eq_true_eq] at h1
  omega
 ·have h:=hW.ctor d hd c hc
  simp only[zbs,zc2,zar,Bool.and_eq_true,decide_eq_true_eq] at h
  omega
 ·have h:=hW.ctor d hd c hc
  simp only[zbs,Bool.and_eq_true,Bool.not_eq_true',List.any_eq_false] at h
  have hax:zbA w.length t=true:=by
   have:=h.2.2.2 t ht
   cases h:zbA w.length t with
   |true=>rfl
   |false=>rw[h] at this;exact absurd rfl this
  simp only[zbA,zar,Bool.or_eq_true,Bool.and_eq_true,decide_eq_true_eq,and_true] at hax
  omega
theorem zgz {w:List Data} (hb:TB w){t:Ty} (ht:t.data = -1∨(0≤t.data∧t.data.toNat<w.length)):(zf4 w t).length≤2:=by
 unfold zf4
 split
 ·simp
 ·rename_i h
  have h1:=(hb.dn _ (zae (l:=w) (i:=t.data.toNat) (by omega))).1
  have h2:=zlL t.index
  simp only[List.length_append];omega
theorem zgL {w:List Data} (hb:TB w):∀(l:List Ty) (b:Bool),(∀t∈l,t.data = -1∨(0≤t.data∧t.data.toNat<w.length))→(zda w b l).length≤3*l.length
 | [],_,_=>by simp[zda]
 |t::r,b,h=>by
  have h1:=zgz hb (h t (by simp))
  have h2:=zgL hb r false (fun x hx=>h x (by simp[hx]))
  simp only[zda,List.length_append,List.length_cons]
  have h3:(if b=true then [(40:UInt8)] else [44]).length=1:=by split<;>rfl
  omega
theorem zoU {w:List Data} (hb:TB w){c:Ctor} (h1:c.name.length≤5∧c.args.length≤3) (h2:∀t∈c.args,t.data = -1∨(0≤t.data∧t.data.toNat<w.length)):(zca w c).length≤20:=by
 have h3:=zgL hb c.args true h2
 unfold zca
 dsimp only
 have h4:=zkD c.index
 split<;>split<;>simp only[List.length_append,List.length_cons,List.length_nil]<;>omega
theorem zkm {w:List Data}:∀(l:List Ctor) (b:Bool),(∀c∈l,(zca w c).length≤20)→(zbT w b l).length≤21*l.length
 | [],_,_=>by simp[zbT]
 |c::r,b,h=>by
  have h1:=h c (by simp)
  have h2:=zkm r false (fun x hx=>h x (by simp[hx]))
  simp only[zbT,List.length_append,List.length_cons]
  have h3:(if b=true then ([]:Str) else [124]).length≤1:=by split<;>simp
  omega
theorem zfA {n:Int} (h0:0≤n) (h9:n≤9):FnD Tryz.prog 215 [.d (.i n)] [] (.d (.str (decV n))) []:=by
 refine bd Tryz.f215 31 [30] [] fun w0 F0 own kept hk=>?_
 refine sq (fun h1 h1p h1s=>?_) fun h1 h1p h1s=>?_
 try simp only[Q] at h1p
 exfalso;omega
 try simp only[Q] at h1p
 refine sq (fun h2 h2p h2s=>?_) fun h2 h2p h2s=>?_
 try simp only[Q] at h2p
 exfalso;omega
 try simp only[Q] at h2p
 refine CWp.loopX (ι:=Unit) hk (fun x=>[(0,.d (.i n)),(3,.d (.str []))]) [12,13,14,15,16,17,18,19,20,21,22,23] (fun x=>[]) (fun x=>True) (fun x=>0) () trivial ⟨⟨_,rfl,LeA.eqi ?_⟩,⟨⟨_,rfl,LeA.eqs ?_⟩,trivial⟩⟩ trivial (fun x=>rfl) (fun x hg1=>?_)
 iterate 2 focus (first|rfl|omega)
 refine evc [30] [] ?_
 refine sq (fun h3 h3p h3s=>?_) fun h3 h3p h3s=>?_
 try simp only[Q] at h3p
 exfalso;omega
 try simp only[Q] at h3p
 refine ar ?_
 refine Walk.conv (by rw[un3];rfl) un5 .none rfl rfl ?_
 refine si [0] [_] sl22 tz5 ?_
 refine Walk.bytesStr sl22 un9 (by kernel_rfl) .none rfl rfl rfl (by first|rfl|exact znS _) ?_
 refine evs [30] [] ?_
 refine Walk.catS .none rfl rfl rfl (by simp[strN]) ?_
 refine evs [30] [] ?_
 refine rn0 (r1 rfl) (.eqd ?_)
 rotate_left
 all_goals (rfl)
theorem zmi {n:Int} (h0 : -1≤n) (h9:n≤9):FnD Tryz.prog 228 [.d (.i n)] [] (.d (.str (zjp n))) []:=by
 refine bd Tryz.f228 10 [] [] fun w0 F0 own kept hk=>?_
 refine sq (fun h1 h1p h1s=>?_) fun h1 h1p h1s=>?_
 try simp only[Q] at h1p
 refine rn0 (r1 rfl) (.eqd ?_)
 rotate_left
 try simp only[Q] at h1p
 refine sq (fun h2 h2p h2s=>?_) fun h2 h2p h2s=>?_
 try simp only[Q] at h2p
 refine rn0 (r1 rfl) (.eqd ?_)
 rotate_left
 try simp only[Q] at h2p
 refine wc zoR (zfA (by omega) (by omega)) rfl rfl ?_
 refine ev ?_
 refine rn0 (r1 rfl) (.eqd ?_)
 rotate_left
 all_goals (refine congrArg D.str ?_;unfold zjp;first|(rw[if_pos (by omega)];done)|(rw[if_neg (by omega),if_pos (by omega)];done)|(rw[if_neg (by omega),if_neg (by omega)];done)|(rw[if_pos (by omega)];rfl))
theorem zhZ {w:List Data} (hb:TB w){a k:Int} (ha:a = -1∨(0≤a∧a.toNat<w.length)) (hk : -1≤k∧k≤3):FnD Tryz.prog 214 [.d (zam w),.agg [.d (.i a),.d (.i k)]] [] (.d (.str (zf4 w ⟨a,k⟩))) []:=by
 have hl:=zlL k
 have hdn:a≠ -1→(nth w a.toNat).name.length≤1:=fun h=>(hb.dn _ (zae (l:=w) (i:=a.toNat) (by omega))).1
 refine bd Tryz.f214 18 [17] [] fun w0 F0 own kept hk=>?_
 refine bx 3003 ?_
 refine evs [17] [] ?_
 refine sq (fun h1 h1p h1s=>?_) fun h1 h1p h1s=>?_
 try simp only[Q] at h1p
 refine rn0 (r1 rfl) (.eqd ?_)
 rotate_left
 try simp only[Q] at h1p
 refine Walk.idx (i:=a.toNat) sl23 .none rfl rfl rfl (by omega) (zau (by omega)) rfl ?_
 refine evd [17] [] ?_
 refine wc zvS (zmi (by omega) (by omega)) rfl rfl ?_
 refine Walk.catS .none rfl rfl rfl (by have:=hdn h1p;omega) ?_
 refine evd [17] [] ?_
 refine dr ?_
 refine rn0 (r1 rfl) (.eqd ?_)
 rotate_left
 all_goals (refine congrArg D.str ?_;unfold zf4;first|(rw[if_pos (by assumption)];done)|(rw[if_neg (by assumption)];done))
theorem zc6 {w:List Data} (hb:TB w){s:Str}{l:List Ty}{k:Int} (hs:s.length≤5) (hl:l.length≤3) (hk:0≤k∧k≤3)
  (hl2:∀t∈l,(t.data = -1∨(0≤t.data∧t.data.toNat<w.length))∧ -1≤t.index∧t.index≤3):
  FnD Tryz.prog 177 [.d (zam w),.agg [.d (.str s),.d (zb8 l),.d (.i k)]] [] (.d (.str (zca w ⟨s,l,k⟩))) []:=by
 have hall:=zgL hb l true (fun t ht=>(hl2 t ht).1)
 have hdl:=zkD k
 refine bd Tryz.f177 47 [19,21,30,36,41,45] [] fun w0 F0 own kept hk=>?_
 refine bx 3003 ?_
 refine evs [19,21,30,36,41,45] [] ?_
 refine CWp.loopX (ι:=List (Ty)×List (Ty)×(Str)) hk (fun x=>[(6,.d (.i (x.1.length:Int))),(5,.d (.str x.2.2))]) [9,10,11,12,13,14,15,16,17,18,19,20,21,22,23,24,25,26,27,28,29,30] (fun x=>[]) (fun x=>x.1++x.2.1=l∧x.2.2.length≤5+3*x.1.length∧x.2.2++zda w (decide (x.1.length=0)) x.2.1=s++zda w true l) (fun x=>x.2.1.length) ([],l,s) ⟨by simp,by simp;omega,by simp⟩ ⟨⟨_,rfl,LeA.eqi ?_⟩,⟨⟨_,rfl,LeA.eqs ?_⟩,trivial⟩⟩ trivial (fun x=>rfl) (fun x hg1=>?_)
 iterate 2 focus (first|rfl|(dsimp only;rw[if_pos (by omega),List.append_assoc];done))
 obtain⟨pre,rest,o⟩:=x
 dsimp only at hg1 ⊢
 refine evc [19,21,30,36,41,45] [] ?_
 refine sq (fun h1 h1p h1s=>?_) fun h1 h1p h1s=>?_
 try simp only[Q] at h1p
 rcases rest with _|⟨y,rest⟩
 ·exfalso;simp_all
 have hq:(zf4 w ⟨y.data,y.index⟩).length≤2:=zgz hb (hl2 y (by rw[←hg1.1];simp)).1
 refine sq (fun h2 h2p h2s=>?_) fun h2 h2p h2s=>?_
 try simp only[Q] at h2p
 refine Walk.catS .none rfl rfl rfl (by have hz:=congrArg List.length hg1.1;simp only[List.length_append,List.length_cons,List.length_nil] at hz ⊢;omega) ?_
 refine evs [19,21,30,36,41,45] [] ?_
 refine Walk.idx za0 .none rfl rfl rfl rfl (zaK hg1.1) rfl ?_
 refine evs [19,21,30,36,41,45] [] ?_
 refine wc zsf (zhZ hb (a:=y.data) (k:=y.index) (hl2 y (by rw[←hg1.1];simp)).1 (hl2 y (by rw[←hg1.1];simp)).2) rfl rfl ?_
 refine Walk.catS .none rfl rfl rfl (by have hz:=congrArg List.length hg1.1;simp only[List.length_append,List.length_cons,List.length_nil] at hz ⊢;omega) ?_
 refine evs [19,21,30,36,41,45] [] ?_
 refine ar ?_
 refine Exists.intro ((pre++[y],rest,o++((if pre.length=0 then [40] else [44])++zf4 w y))) ⟨⟨(by have hz:=hg1.1;rw[←hz];simp),⟨(by have hq:=zgz hb (hl2 y (by rw[←hg1.1];simp)).1;have h3:(if pre.length=0 then [(40:UInt8)] else [44]).length=1:=(by split<;>rfl);simp only[List.length_append,List.length_cons,List.length_nil];omega),(by rw[←hg1.2.2];simp[zda])⟩⟩,(by simp),sx ⟨⟨_,rfl,LeA.eqi ?_⟩,⟨⟨_,rfl,LeA.eqs ?_⟩,trivial⟩⟩ trivial⟩
 iterate 2 focus (first|(simp;done)|(dsimp only;rw[if_pos (by omega),List.append_assoc];done))
 try simp only[Q] at h2p
 refine Walk.catS .none rfl rfl rfl (by have hz:=congrArg List.length hg1.1;simp only[List.length_append,List.length_cons,List.length_nil] at hz ⊢;omega) ?_
 refine evs [19,21,30,36,41,45] [] ?_
 refine Walk.idx za0 .none rfl rfl rfl rfl (zaK hg1.1) rfl ?_
 refine evs [19,21,30,36,41,45] [] ?_
 refine wc zsf (zhZ hb (a:=y.data) (k:=y.index) (hl2 y (by rw[←hg1.1];simp)).1 (hl2 y (by rw[←hg1.1];simp)).2) rfl rfl ?_
 refine Walk.catS .none rfl rfl rfl (by have hz:=congrArg List.length hg1.1;simp only[List.length_append,List.length_cons,List.length_nil] at hz ⊢;omega) ?_
 refine evs [19,21,30,36,41,45] [] ?_
 refine ar ?_
 refine Exists.intro ((pre++[y],rest,o++((if pre.length=0 then [40] else [44])++zf4 w y))) ⟨⟨(by have hz:=hg1.1;rw[←hz];simp),⟨(by have hq:=zgz hb (hl2 y (by rw[←hg1.1];simp)).1;have h3:(if pre.length=0 then [(40:UInt8)] else [44]).length=1:=(by split<;>rfl);simp only[List.length_append,List.length_cons,List.length_nil];omega),(by rw[←hg1.2.2];simp[zda])⟩⟩,(by simp),sx ⟨⟨_,rfl,LeA.eqi ?_⟩,⟨⟨_,rfl,LeA.eqs ?_⟩,trivial⟩⟩ trivial⟩
 iterate 2 focus (first|(simp;done)|(dsimp only;rw[if_pos (by omega),List.append_assoc];done)|(dsimp only;rw[if_neg (by omega),List.append_assoc];done))
 try simp only[Q] at h1p
 have hrest:rest=[]:=by
  rcases rest with _|⟨a,b⟩
  ·rfl
  ·exfalso;have hz:=congrArg List.length (hg1.1);simp only[List.length_append,List.length_cons,List.length_map] at hz;omega
 subst hrest
 refine sq (fun h3 h3p h3s=>?_) fun h3 h3p h3s=>?_
 try simp only[Q] at h3p
 refine Walk.catS .none rfl rfl rfl (by have hz:=congrArg List.length hg1.1;simp only[List.length_append,List.length_cons,List.length_nil] at hz ⊢;omega) ?_
 refine evs [19,21,30,36,41,45] [] ?_
 refine sq (fun h4 h4p h4s=>?_) fun h4 h4p h4s=>?_
 try simp only[Q] at h4p
 refine Walk.catS .none rfl rfl rfl (by have hz:=congrArg List.length hg1.1;simp only[List.length_append,List.length_cons,List.length_nil] at hz ⊢;omega) ?_
 refine evs [19,21,30,36,41,45] [] ?_
 refine wc zoR (zfA (by omega) (by omega)) rfl rfl ?_
 refine Walk.catS .none rfl rfl rfl (by have hz:=congrArg List.length hg1.1;simp only[List.length_append,List.length_cons,List.length_nil] at hz ⊢;omega) ?_
 refine evs [19,21,30,36,41,45] [] ?_
 refine rn0 (r1 rfl) (.eqd ?_)
 rotate_left
 try simp only[Q] at h4p
 refine rn0 (r1 rfl) (.eqd ?_)
 rotate_left
 try simp only[Q] at h3p
 refine sq (fun h5 h5p h5s=>?_) fun h5 h5p h5s=>?_
 try simp only[Q] at h5p
 refine Walk.catS .none rfl rfl rfl (by have hz:=congrArg List.length hg1.1;simp only[List.length_append,List.length_cons,List.length_nil] at hz ⊢;omega) ?_
 refine evs [19,21,30,36,41,45] [] ?_
 refine wc zoR (zfA (by omega) (by omega)) rfl rfl ?_
 refine Walk.catS .none rfl rfl rfl (by have hz:=congrArg List.length hg1.1;simp only[List.length_append,List.length_cons,List.length_nil] at hz ⊢;omega) ?_
 refine evs [19,21,30,36,41,45] [] ?_
 refine rn0 (r1 rfl) (.eqd ?_)
 rotate_left
 try simp only[Q] at h5p
 refine rn0 (r1 rfl) (.eqd ?_)
 rotate_left
 all_goals (refine congrArg D.str ?_;have hfin:=hg1.2.2;simp only[zda,List.append_nil] at hfin;unfold zca;dsimp only;rw[←hfin];first|(rw[if_pos (by omega),if_pos (by simp at *;omega)];done)|(rw[if_pos (by omega),if_neg (by simp at *;omega)];done)|(rw[if_neg (by omega),if_pos (by simp at *;omega)];done)|(rw[if_neg (by omega),if_neg (by simp at *;omega)];done))
theorem zm7 {w:List Data} (hb:TB w):FnD Tryz.prog 123 [.d (zam w)] [] (.d (.str (zeR w))) []:=by
 have hwl:=hb.len
 have hct:∀d∈w,∀c∈d.ctors,(zca w c).length≤20:=fun d hd c hc=>zoU hb ⟨(hb.cn d hd c hc).1,(hb.cn d hd c hc).2.1⟩ (fun t ht=>(hb.ar d hd c hc t ht).1)
 refine bd Tryz.f123 51 [15,22,23,37,49] [] fun w0 F0 own kept hk=>?_
 refine CWp.loopX (ι:=List (Data)×List (Data)×(Str)) hk (fun x=>[(4,.d (.i (x.1.length:Int))),(3,.d (.str x.2.2))]) [5,6,7,8,9,10,11,12,13,14,15,16,17,18,19,20,21,22,23,24,25,26,27,28,29,30,31,32,33,34,35,36,37,38,39,40,41,42,43,44,45,46,47,48,49] (fun x=>[]) (fun x=>x.1++x.2.1=w∧x.2.2.length≤100*x.1.length∧x.2.2++zhM w (decide (x.1.length=0)) x.2.1=zeR w) (fun x=>x.2.1.length) ([],w,[]) ⟨by simp,by simp,by simp[zeR]⟩ ⟨⟨_,rfl,LeA.eqi ?_⟩,⟨⟨_,rfl,LeA.eqs ?_⟩,trivial⟩⟩ trivial (fun x=>rfl) (fun x hg1=>?_)
 iterate 2 focus (first|rfl|(rw[hfin];simp;done))
 obtain⟨pre,rest,o⟩:=x
 dsimp only at hg1 ⊢
 refine evc [15,22,23,37,49] [] ?_
 refine sq (fun h1 h1p h1s=>?_) fun h1 h1p h1s=>?_
 try simp only[Q] at h1p
 rcases rest with _|⟨y,rest⟩
 ·exfalso;simp_all
 have hym:y∈w:=(by rw[←hg1.1];simp);have hyd:=hb.dn y hym;have hpl:pre.length<4:=(by omega);have hcl:=zkm (w:=w) y.ctors true (hct y hym)
 refine sq (fun h2 h2p h2s=>?_) fun h2 h2p h2s=>?_
 try simp only[Q] at h2p
 refine Walk.catS .none rfl rfl rfl (by(try simp only[List.length_append,List.length_cons,List.length_nil]);omega) ?_
 refine evs [15,22,23,37,49] [] ?_
 refine Walk.idx sl23 .none rfl rfl rfl rfl (zaK hg1.1) rfl ?_
 refine evs [15,22,23,37,49] [] ?_
 refine Walk.catS .none rfl rfl rfl (by(try simp only[List.length_append,List.length_cons,List.length_nil]);omega) ?_
 refine Walk.catS .none rfl rfl rfl (by(try simp only[List.length_append,List.length_cons,List.length_nil]);omega) ?_
 refine evs [15,22,23,37,49] [] ?_
 refine CWp.loopX (ι:=List (Ctor)×List (Ctor)×(Str)) hk (fun x=>[(5,.d (.i (x.1.length:Int))),(3,.d (.str x.2.2))]) [24,25,26,27,28,29,30,31,32,33,34,35,36,37,38,39,40,41,42,43,44,45,46,47,48,49] (fun x=>[]) (fun x=>x.1++x.2.1=y.ctors∧x.2.2.length≤100*pre.length+4+21*x.1.length∧x.2.2++zbT w (decide (x.1.length=0)) x.2.1=(o++((if pre.length=0 then [] else [59])++(y.name++[61])))++zbT w true y.ctors) (fun x=>x.2.1.length) ([],y.ctors,o++((if pre.length=0 then [] else [59])++(y.name++[61]))) ⟨by simp,(by have h3:(if pre.length=0 then ([]:Str) else [59]).length≤1:=(by split<;>simp);simp only[List.length_append,List.length_cons,List.length_nil];omega),by simp⟩ ⟨⟨_,rfl,LeA.eqi ?_⟩,⟨⟨_,rfl,LeA.eqs ?_⟩,trivial⟩⟩ trivial (fun x=>rfl) (fun x hg2=>?_)
 iterate 2 focus (first|rfl|(rw[if_neg (by omega)];simp;done))
 obtain⟨pre2,rest2,q⟩:=x
 dsimp only at hg2 ⊢
 refine evc [15,22,23,37,49] [] ?_
 refine Walk.idx sl23 .none rfl rfl rfl rfl (zaK hg1.1) rfl ?_
 refine evs [15,22,23,37,49] [] ?_
 refine sq (fun h3 h3p h3s=>?_) fun h3 h3p h3s=>?_
 try simp only[Q] at h3p
 rcases rest2 with _|⟨c,rest2⟩
 ·exfalso;simp_all
 have hcm:=hct y hym c (by rw[←hg2.1];simp);have hce:(zca w ⟨c.name,c.args,c.index⟩).length≤20:=hcm;have hp2:=congrArg List.length hg2.1;simp only[List.length_append,List.length_cons] at hp2
 refine sq (fun h4 h4p h4s=>?_) fun h4 h4p h4s=>?_
 try simp only[Q] at h4p
 refine Walk.catS .none rfl rfl rfl (by(try simp only[List.length_append,List.length_cons,List.length_nil]);omega) ?_
 refine evs [15,22,23,37,49] [] ?_
 refine Walk.idx sl23 .none rfl rfl rfl rfl (zaK hg1.1) rfl ?_
 refine evs [15,22,23,37,49] [] ?_
 refine Walk.idx zcr .none rfl rfl rfl rfl (zaK hg2.1) rfl ?_
 refine evs [15,22,23,37,49] [] ?_
 refine wc zlj (zc6 hb (s:=c.name) (l:=c.args) (k:=c.index) (hb.cn y hym c (by rw[←hg2.1];simp)).1 (hb.cn y hym c (by rw[←hg2.1];simp)).2.1 (hb.cn y hym c (by rw[←hg2.1];simp)).2.2 (hb.ar y hym c (by rw[←hg2.1];simp))) rfl rfl ?_
 refine Walk.catS .none rfl rfl rfl (by(try simp only[List.length_append,List.length_cons,List.length_nil]);omega) ?_
 refine evs [15,22,23,37,49] [] ?_
 refine ar ?_
 refine Exists.intro ((pre2++[c],rest2,q++((if pre2.length=0 then [] else [124])++zca w c))) ⟨⟨(by have hz:=hg2.1;rw[←hz];simp),⟨(by have h3:(if pre2.length=0 then ([]:Str) else [124]).length≤1:=(by split<;>simp);simp only[List.length_append,List.length_cons,List.length_nil];omega),(by rw[←hg2.2.2];simp[zbT])⟩⟩,(by simp),sx ⟨⟨_,rfl,LeA.eqi ?_⟩,⟨⟨_,rfl,LeA.eqs ?_⟩,trivial⟩⟩ trivial⟩
 iterate 2 focus (first|rfl|(rw[if_neg (by omega)];simp;done))
 try simp only[Q] at h4p
 refine Walk.idx sl23 .none rfl rfl rfl rfl (zaK hg1.1) rfl ?_
 refine evs [15,22,23,37,49] [] ?_
 refine Walk.idx zcr .none rfl rfl rfl rfl (zaK hg2.1) rfl ?_
 refine evs [15,22,23,37,49] [] ?_
 refine wc zlj (zc6 hb (s:=c.name) (l:=c.args) (k:=c.index) (hb.cn y hym c (by rw[←hg2.1];simp)).1 (hb.cn y hym c (by rw[←hg2.1];simp)).2.1 (hb.cn y hym c (by rw[←hg2.1];simp)).2.2 (hb.ar y hym c (by rw[←hg2.1];simp))) rfl rfl ?_
 refine Walk.catS .none rfl rfl rfl (by(try simp only[List.length_append,List.length_cons,List.length_nil]);omega) ?_
 refine evs [15,22,23,37,49] [] ?_
 refine ar ?_
 refine Exists.intro ((pre2++[c],rest2,q++((if pre2.length=0 then [] else [124])++zca w c))) ⟨⟨(by have hz:=hg2.1;rw[←hz];simp),⟨(by have h3:(if pre2.length=0 then ([]:Str) else [124]).length≤1:=(by split<;>simp);simp only[List.length_append,List.length_cons,List.length_nil];omega),(by rw[←hg2.2.2];simp[zbT])⟩⟩,(by simp),sx ⟨⟨_,rfl,LeA.eqi ?_⟩,⟨⟨_,rfl,LeA.eqs ?_⟩,trivial⟩⟩ trivial⟩
 iterate 2 focus (first|rfl|(rw[if_neg (by omega)];simp;done)|(rw[if_pos (by omega)];simp;done))
 try simp only[Q] at h3p
 have hrest2:rest2=[]:=by
  rcases rest2 with _|⟨a,b⟩
  ·rfl
  ·exfalso;have hz:=congrArg List.length (hg2.1);simp only[List.length_append,List.length_cons,List.length_map] at hz;omega
 subst hrest2
 refine ar ?_
 have hfin:=hg2.2.2;simp only[zbT,List.append_nil] at hfin
 refine Exists.intro ((pre++[y],rest,o++((if pre.length=0 then [] else [59])++(y.name++[61])++zbT w true y.ctors))) ⟨⟨(by have hz:=hg1.1;rw[←hz];simp),⟨(by have h3:(if pre.length=0 then ([]:Str) else [59]).length≤1:=(by split<;>simp);simp only[List.length_append,List.length_cons,List.length_nil];omega),(by rw[←hg1.2.2];simp[zhM])⟩⟩,(by simp),sx ⟨⟨_,rfl,LeA.eqi ?_⟩,⟨⟨_,rfl,LeA.eqs ?_⟩,trivial⟩⟩ trivial⟩
 iterate 2 focus (first|rfl|(simp;done)|(rw[hfin];simp;done))
 try simp only[Q] at h2p
 refine Walk.idx sl23 .none rfl rfl rfl rfl (zaK hg1.1) rfl ?_
 refine evs [15,22,23,37,49] [] ?_
 refine Walk.catS .none rfl rfl rfl (by(try simp only[List.length_append,List.length_cons,List.length_nil]);omega) ?_
 refine Walk.catS .none rfl rfl rfl (by(try simp only[List.length_append,List.length_cons,List.length_nil]);omega) ?_
 refine evs [15,22,23,37,49] [] ?_
 refine CWp.loopX (ι:=List (Ctor)×List (Ctor)×(Str)) hk (fun x=>[(5,.d (.i (x.1.length:Int))),(3,.d (.str x.2.2))]) [24,25,26,27,28,29,30,31,32,33,34,35,36,37,38,39,40,41,42,43,44,45,46,47,48,49] (fun x=>[]) (fun x=>x.1++x.2.1=y.ctors∧x.2.2.length≤100*pre.length+4+21*x.1.length∧x.2.2++zbT w (decide (x.1.length=0)) x.2.1=(o++((if pre.length=0 then [] else [59])++(y.name++[61])))++zbT w true y.ctors) (fun x=>x.2.1.length) ([],y.ctors,o++((if pre.length=0 then [] else [59])++(y.name++[61]))) ⟨by simp,(by have h3:(if pre.length=0 then ([]:Str) else [59]).length≤1:=(by split<;>simp);simp only[List.length_append,List.length_cons,List.length_nil];omega),by simp⟩ ⟨⟨_,rfl,LeA.eqi ?_⟩,⟨⟨_,rfl,LeA.eqs ?_⟩,trivial⟩⟩ trivial (fun x=>rfl) (fun x hg2=>?_)
 iterate 2 focus (first|rfl|(rw[if_neg (by omega)];simp;done)|(rw[if_pos (by omega)];simp;done))
 obtain⟨pre2,rest2,q⟩:=x
 dsimp only at hg2 ⊢
 refine evc [15,22,23,37,49] [] ?_
 refine Walk.idx sl23 .none rfl rfl rfl rfl (zaK hg1.1) rfl ?_
 refine evs [15,22,23,37,49] [] ?_
 refine sq (fun h5 h5p h5s=>?_) fun h5 h5p h5s=>?_
 try simp only[Q] at h5p
 rcases rest2 with _|⟨c,rest2⟩
 ·exfalso;simp_all
 have hcm:=hct y hym c (by rw[←hg2.1];simp);have hce:(zca w ⟨c.name,c.args,c.index⟩).length≤20:=hcm;have hp2:=congrArg List.length hg2.1;simp only[List.length_append,List.length_cons] at hp2
 refine sq (fun h6 h6p h6s=>?_) fun h6 h6p h6s=>?_
 try simp only[Q] at h6p
 refine Walk.catS .none rfl rfl rfl (by(try simp only[List.length_append,List.length_cons,List.length_nil]);omega) ?_
 refine evs [15,22,23,37,49] [] ?_
 refine Walk.idx sl23 .none rfl rfl rfl rfl (zaK hg1.1) rfl ?_
 refine evs [15,22,23,37,49] [] ?_
 refine Walk.idx zcr .none rfl rfl rfl rfl (zaK hg2.1) rfl ?_
 refine evs [15,22,23,37,49] [] ?_
 refine wc zlj (zc6 hb (s:=c.name) (l:=c.args) (k:=c.index) (hb.cn y hym c (by rw[←hg2.1];simp)).1 (hb.cn y hym c (by rw[←hg2.1];simp)).2.1 (hb.cn y hym c (by rw[←hg2.1];simp)).2.2 (hb.ar y hym c (by rw[←hg2.1];simp))) rfl rfl ?_
 refine Walk.catS .none rfl rfl rfl (by(try simp only[List.length_append,List.length_cons,List.length_nil]);omega) ?_
 refine evs [15,22,23,37,49] [] ?_
 refine ar ?_
 refine Exists.intro ((pre2++[c],rest2,q++((if pre2.length=0 then [] else [124])++zca w c))) ⟨⟨(by have hz:=hg2.1;rw[←hz];simp),⟨(by have h3:(if pre2.length=0 then ([]:Str) else [124]).length≤1:=(by split<;>simp);simp only[List.length_append,List.length_cons,List.length_nil];omega),(by rw[←hg2.2.2];simp[zbT])⟩⟩,(by simp),sx ⟨⟨_,rfl,LeA.eqi ?_⟩,⟨⟨_,rfl,LeA.eqs ?_⟩,trivial⟩⟩ trivial⟩
 iterate 2 focus (first|rfl|(rw[if_neg (by omega)];simp;done))
 try simp only[Q] at h6p
 refine Walk.idx sl23 .none rfl rfl rfl rfl (zaK hg1.1) rfl ?_
 refine evs [15,22,23,37,49] [] ?_
 refine Walk.idx zcr .none rfl rfl rfl rfl (zaK hg2.1) rfl ?_
 refine evs [15,22,23,37,49] [] ?_
 refine wc zlj (zc6 hb (s:=c.name) (l:=c.args) (k:=c.index) (hb.cn y hym c (by rw[←hg2.1];simp)).1 (hb.cn y hym c (by rw[←hg2.1];simp)).2.1 (hb.cn y hym c (by rw[←hg2.1];simp)).2.2 (hb.ar y hym c (by rw[←hg2.1];simp))) rfl rfl ?_
 refine Walk.catS .none rfl rfl rfl (by(try simp only[List.length_append,List.length_cons,List.length_nil]);omega) ?_
 refine evs [15,22,23,37,49] [] ?_
 refine ar ?_
 refine Exists.intro ((pre2++[c],rest2,q++((if pre2.length=0 then [] else [124])++zca w c))) ⟨⟨(by have hz:=hg2.1;rw[←hz];simp),⟨(by have h3:(if pre2.length=0 then ([]:Str) else [124]).length≤1:=(by split<;>simp);simp only[List.length_append,List.length_cons,List.length_nil];omega),(by rw[←hg2.2.2];simp[zbT])⟩⟩,(by simp),sx ⟨⟨_,rfl,LeA.eqi ?_⟩,⟨⟨_,rfl,LeA.eqs ?_⟩,trivial⟩⟩ trivial⟩
 iterate 2 focus (first|rfl|(rw[if_neg (by omega)];simp;done)|(rw[if_pos (by omega)];simp;done))
 try simp only[Q] at h5p
 have hrest2:rest2=[]:=by
  rcases rest2 with _|⟨a,b⟩
  ·rfl
  ·exfalso;have hz:=congrArg List.length (hg2.1);simp only[List.length_append,List.length_cons,List.length_map] at hz;omega
 subst hrest2
 refine ar ?_
 have hfin:=hg2.2.2;simp only[zbT,List.append_nil] at hfin
 refine Exists.intro ((pre++[y],rest,o++((if pre.length=0 then [] else [59])++(y.name++[61])++zbT w true y.ctors))) ⟨⟨(by have hz:=hg1.1;rw[←hz];simp),⟨(by have h3:(if pre.length=0 then ([]:Str) else [59]).length≤1:=(by split<;>simp);simp only[List.length_append,List.length_cons,List.length_nil];omega),(by rw[←hg1.2.2];simp[zhM])⟩⟩,(by simp),sx ⟨⟨_,rfl,LeA.eqi ?_⟩,⟨⟨_,rfl,LeA.eqs ?_⟩,trivial⟩⟩ trivial⟩
 iterate 2 focus (first|rfl|(simp;done)|(rw[hfin];simp;done))
 try simp only[Q] at h1p
 have hrest:rest=[]:=by
  rcases rest with _|⟨a,b⟩
  ·rfl
  ·exfalso;have hz:=congrArg List.length (hg1.1);simp only[List.length_append,List.length_cons,List.length_map] at hz;omega
 subst hrest
 refine rn0 (r1 rfl) (.eqd ?_)
 rotate_left
 all_goals (refine congrArg D.str ?_;have hfin:=hg1.2.2;simp only[zhM,List.append_nil] at hfin;exact hfin)
def pwL (s:Str):List Str:=cutL 59 [] s
def pwP (s:Str) (i:Nat):List Str:=cutL 61 [] (nth (pwL s) i)
def pwC (s:Str) (i:Nat):List Str:=cutL 124 [] (nth (pwP s i) 1)
def zbr (s:Str):Nat:=if s=[] then 0 else min (pwL s).length 5
def zcp (s:Str) (n:Nat):List Str:=(List.range n).map fun i=>nth (pwP s i) 0
def zjA (s:Str) (i:Nat):Data:=⟨nth (pwP s i) 0,((pwC s i).take 5).map (zcn (zcp s (zbr s)))⟩
def zcA (s:Str) (n:Nat):List Data:=(List.range n).map (zjA s)
def zg1 (s:Str):Bool:=(List.range (zbr s)).all (fun i=>decide ((pwP s i).length=2))&&(za1 (zcA s (zbr s))&&decide (zeR (zcA s (zbr s))=s))
def zc4 (s:Str):List Data×Bool:=if zg1 s then (zcA s (zbr s),true) else ([],false)
theorem zpy (s:Str):zbr s≤(pwL s).length∧zbr s≤5:=by unfold zbr;split<;>omega
theorem zdW {s:Str}{i:Nat}:i<zbr s↔(i<(pwL s).length∧i≤4)∧s≠[]:=by
 unfold zbr
 split
 ·rename_i h;simp[h]
 ·rename_i h;simp only[h,ne_eq,not_false_eq_true,and_true];omega
theorem zaX (s:Str) (n:Nat):(zcp s n).length=n:=by simp[zcp]
theorem zpz (s:Str) (n:Nat):zcp s (n+1)=zcp s n++[nth (pwP s n) 0]:=by unfold zcp;rw[List.range_succ,List.map_append];rfl
theorem zl9 (s:Str) (n:Nat):zcA s (n+1)=zcA s n++[zjA s n]:=by unfold zcA;rw[List.range_succ,List.map_append];rfl
theorem zuW {s:Str}{n m:Nat} (h:m<n):((zcp s n).map fun n=>[D.str n])[m]?=some [D.str (nth (pwP s m) 0)]:=by
 simp[zcp,h]
theorem zqX {s:Str}{i:Nat} (h:i<(pwL s).length):(nth (pwL s) i).length≤s.length:=zdS h
theorem zj7 {s:Str}{i j:Nat} (h:i<(pwL s).length) (hj:j<(pwP s i).length):(nth (pwP s i) j).length≤s.length:=Nat.le_trans (zdS hj) (zqX h)
theorem zu3 {s:Str}{i k:Nat} (h:k<(pwC s i).length):(nth (pwC s i) k).length≤(nth (pwP s i) 1).length:=zdS h
theorem zs2 {α:Type}{l:List α}{i:Nat} (h:i=5∨(i≤5∧l.length≤i)):l.take i=l.take 5:=by
 rcases h with rfl|⟨h1,h2⟩
 ·rfl
 ·rw[List.take_of_length_le h2,List.take_of_length_le (by omega)]
theorem zrF {c:UInt8}{s:Str}:(nth (cutL c [] s) 0).length≤s.length:=zdS (zif c s [])
theorem zpr {names:List Str}{s:Str}:(zcn names s).name.length≤s.length∧(zcn names s).args.length≤4:=by
 have key:∀(ix:Int) (t:Str),(zgO names ix t).name.length≤t.length∧(zgO names ix t).args.length≤4:=by
  intro ix t
  refine⟨zrF, ?_⟩
  unfold zgO
  dsimp only
  split
  ·simp
  ·simp only[List.length_map,List.length_take];omega
 unfold zcn
 split
 ·have:=key (((nth s (s.length-1)).toNat:Int)-48) (s.take (s.length-2))
  rw[List.length_take] at this
  omega
 ·exact key 0 s
theorem zsP {s:Str} (hs:s.length≤1000000) (h2:∀j,j<zbr s→(pwP s j).length=2):WSmall (zcA s (zbr s)):=by
 have hl:=zpy s
 have hd:∀d∈zcA s (zbr s),∃i,i<zbr s∧d=zjA s i:=fun d hd=>by
  obtain⟨i,hi,rfl⟩:=List.mem_map.1 hd
  exact⟨i,List.mem_range.1 hi,rfl⟩
 refine⟨by simp only[zcA,List.length_map,List.length_range];omega,fun d hd'=>?_,fun d hd' c hc=>?_⟩
 ·obtain⟨i,hi,rfl⟩:=hd d hd'
  have:=zj7 (s:=s) (i:=i) (j:=0) (by omega) (by rw[h2 i hi];omega)
  refine⟨?_, ?_⟩
  ·show(nth (pwP s i) 0).length≤_;omega
  ·simp only[zjA,List.length_map,List.length_take];omega
 ·obtain⟨i,hi,rfl⟩:=hd d hd'
  obtain⟨t,ht,rfl⟩:=List.mem_map.1 hc
  have h3:=zj7 (s:=s) (i:=i) (j:=1) (by omega) (by rw[h2 i hi];omega)
  have h4:t.length≤(nth (pwP s i) 1).length:=by simpa using zie 124 (nth (pwP s i) 1) [] t (List.mem_of_mem_take ht)
  have h5:=zpr (names:=zcp s (zbr s)) (s:=t)
  omega
theorem zwx {s:Str} (hs:s.length≤1000000):FnD Tryz.prog 120 [.d (.str s),.d (.int .u8 59)] [] (.d (zeD (pwL s))) []:=zcd (s:=s) (c:=59) (by omega)
theorem zug {s:Str}{i:Nat} (hs:s.length≤1000000) (h:i<(pwL s).length):FnD Tryz.prog 120 [.d (.str (nth (pwL s) i)),.d (.int .u8 61)] [] (.d (zeD (pwP s i))) []:=zcd (s:=nth (pwL s) i) (c:=61) (by have:=zqX h;omega)
theorem zww {s:Str}{i:Nat} (hs:s.length≤1000000) (h:i<(pwL s).length) (h2:(pwP s i).length=2):FnD Tryz.prog 120 [.d (.str (nth (pwP s i) 1)),.d (.int .u8 124)] [] (.d (zeD (pwC s i))) []:=
 zcd (s:=nth (pwP s i) 1) (c:=124) (by have:=zj7 (j:=1) h (by omega);omega)
theorem zkh {w:List Data} (hs:WSmall w):FnD Tryz.prog 122 [.d (zam w)] [] (.d (.bool (za1 w))) []:=by
 rw[←zgj];exact zf1 hs
theorem zqK {s:Str} (h:zg1 s=false):zc4 s=([],false):=by unfold zc4;rw[if_neg (by rw[h];simp)]
theorem zto {s:Str} (h:zg1 s=true):zc4 s=(zcA s (zbr s),true):=by unfold zc4;rw[if_pos h]
theorem ztn {s:Str}{i:Nat} (h:i<zbr s) (h2:¬(pwP s i).length=2):zg1 s=false:=by
 unfold zg1
 rw[zcZ h (by simpa using h2),Bool.false_and]
theorem znx {s:Str} (h:∀j,j<zbr s→(pwP s j).length=2):zg1 s=(za1 (zcA s (zbr s))&&decide (zeR (zcA s (zbr s))=s)):=by
 unfold zg1
 rw[zdl (fun i hi=>by simpa using h i hi),Bool.true_and]
theorem zjO {s:Str} (hs:s.length≤100000):FnD Tryz.prog 70 [.d (.str s)] [] (.tup [.d (zam (zc4 s).1),.d (.bool (zc4 s).2)]) []:=by
 have hl:=zpy s
 have hcl:(pwL s).length≤s.length+1:=zdR 59 s []
 have hccl:∀i,(pwC s i).length≤(nth (pwP s i) 1).length+1:=fun i=>zdR 124 _ []
 have hnl:=zaX s
 refine bd Tryz.f70 101 [] [5,17,21] fun w0 F0 own kept hk=>?_
 refine Walk.sliceEmptyG 1 sl23 .none rfl rfl ?_
 refine ev ?_
 refine Walk.sliceEmptyG 2 sl99 .none rfl rfl ?_
 refine ev ?_
 refine wc zfP (zwx (s:=s) (by omega)) rfl rfl ?_
 refine ev ?_
 refine CWp.loopX (ι:=Nat) hk (fun i=>[(7,.d (.i (i:Int))),(5,.gl 2 ((zcp s i).map fun n=>[D.str n]))]) [2,3,8,17,18,19,20,21,22,23,24,25,26,27,28,29,30,31,32,33,34,35,36,37,38,39,40,41,42,43,44,45] (fun i=>[(2,some (.tok (((zcp s i).map fun n=>[D.str n])).length 1))]) (fun i=>i≤zbr s∧∀j,j<i→(pwP s j).length=2) (fun i=>zbr s-i) 0 ⟨by omega,fun j h=>absurd h (by omega)⟩ ⟨⟨_,rfl,LeA.eqi ?_⟩,⟨⟨_,rfl,LeA.glg ?_⟩,trivial⟩⟩ ⟨zab ?_,trivial⟩ (fun x=>rfl) (fun i hg1=>?_)
 iterate 3 focus (rfl)
 refine evc [] [5,17,21] ?_
 refine CWp.regionJ ?_
 refine WRest.join 12 [(28,.d (.bool (decide (i<zbr s))))] [17,18,19,20,21,22,23,24,25,26,27] ?_ ?_
 refine ev ?_
 refine sq (fun h1 h1p h1s=>?_) fun h1 h1p h1s=>?_
 try simp only[Q,zaX] at h1p
 refine sq (fun h2 h2p h2s=>?_) fun h2 h2p h2s=>?_
 try simp only[Q,zaX] at h2p
 focus (exact jn rfl (LeA.eqb (by(rw[Bool.eq_iff_iff];simp_all[zdW];omega))))
 try simp only[Q,zaX] at h2p
 focus (exact jn rfl (LeA.eqb (by(rw[Bool.eq_iff_iff];simp_all[zdW];omega))))
 try simp only[Q,zaX] at h1p
 refine sqF ?_
 focus (exact jn rfl (LeA.eqb (by(rw[Bool.eq_iff_iff];simp_all[zdW];omega))))
 refine WRest.done ?_
 refine tv ?_
 refine sq (fun h3 h3p h3s=>?_) fun h3 h3p h3s=>?_
 try simp only[Q,zaX] at h3p
 refine Walk.idx sl99 .none rfl rfl rfl rfl (zau (by omega)) rfl ?_
 refine ev ?_
 refine wc zfP (zug (s:=s) (i:=i) (by omega) (by omega)) rfl rfl ?_
 refine ev ?_
 refine sq (fun h4 h4p h4s=>?_) fun h4 h4p h4s=>?_
 try simp only[Q,zaX] at h4p
 refine Walk.sliceEmpty sl23 .none rfl ?_
 refine ev ?_
 refine rn0 (r2 rfl rfl) (.tup (.cons (.eqd ?_) (.cons (.eqd ?_) .nil)))
 rotate_left 2
 try simp only[Q,zaX] at h4p
 refine Walk.idx (i:=0) sl99 .none rfl rfl rfl rfl (zau (by omega)) rfl ?_
 refine ev ?_
 refine si [0] [_] sl99 tz9 ?_
 refine ap sl99 zz9 rfl rfl rfl (by simp) (by simp[zaX,zcA];omega) ?_
 refine ev ?_
 refine ar ?_
 refine Exists.intro (i+1) ⟨⟨by omega,za7 hg1.2 (by omega)⟩,(by omega),sx ⟨⟨_,rfl,LeA.eqi ?_⟩,⟨⟨_,rfl,LeA.glg ?_⟩,trivial⟩⟩ ⟨zab ?_,trivial⟩⟩
 iterate 3 focus (first|rfl|(rw[zpz];simp;done))
 try simp only[Q,zaX] at h3p
 obtain rfl:i=zbr s:=(by omega)
 refine CWp.loopX (ι:=Nat) hk (fun m=>[(9,.d (.i (m:Int))),(4,.gl 1 ((zcA s m).map Data.c))]) [10,11,12,46,47,48,49,50,51,52,53,54,55,56,57,58,59,60,61,62,63,64,65,66,67,68,69,70,71,72,73,74,75,76,77,78,79,80,81,82,83,84,85,86,87,88,89] (fun m=>[(1,some (.tok (((zcA s m).map Data.c)).length 2))]) (fun m=>m≤zbr s) (fun m=>zbr s-m) 0 (by omega) ⟨⟨_,rfl,LeA.eqi ?_⟩,⟨⟨_,rfl,LeA.glg ?_⟩,trivial⟩⟩ ⟨zab ?_,trivial⟩ (fun x=>rfl) (fun m hg2=>?_)
 iterate 3 focus (rfl)
 refine evc [] [5,17,21] ?_
 refine sq (fun h5 h5p h5s=>?_) fun h5 h5p h5s=>?_
 try simp only[Q,zaX] at h5p
 refine Walk.idx sl99 .none rfl rfl rfl rfl (zau (by omega)) rfl ?_
 refine ev ?_
 refine wc zfP (zug (s:=s) (i:=m) (by omega) (by omega)) rfl rfl ?_
 refine Walk.idx (i:=1) sl99 .none rfl rfl rfl rfl (zau (by(rw[hg1.2 m (by omega)];omega))) rfl ?_
 refine ev ?_
 refine wc zfP (zww (s:=s) (i:=m) (by omega) (by omega) (hg1.2 m (by omega))) rfl rfl ?_
 refine ev ?_
 refine Walk.idxG sl99 .none rfl rfl rfl rfl (zuW (by omega)) rfl ?_
 refine ev ?_
 refine bu [0] [_] zwE ?_
 refine ab 3011 zrR ?_
 refine so zut ?_
 refine tv ?_
 refine CWp.tokB 3011 1 3 3 rfl rfl rfl rfl ?_
 refine CWp.loopX (ι:=Nat) hk (fun k=>[(12,.d (.i (k:Int)))]) [65,66,67,68,69,70,71,72,73,74,75,76,77,78,79,80,81,82,83,84,85] (fun k=>[(3011,some (.box [.d (.str (nth (pwP s m) 0)),.gl 3 ((((pwC s m).map (zcn (zcp s (zbr s)))).take k).map Ctor.c)])),(3,some (.tok ((((pwC s m).map (zcn (zcp s (zbr s)))).take k).map Ctor.c).length 3))]) (fun k=>k≤5∧k≤(pwC s m).length) (fun k=>5-k) 0 ⟨by omega,by omega⟩ ⟨⟨_,rfl,LeA.eqi ?_⟩,trivial⟩ ⟨?_,⟨zab ?_,trivial⟩⟩ (fun x=>rfl) (fun k hg3=>?_)
 focus (rfl)
 focus (rfl)
 focus (rfl)
 refine evc [] [5,17,21] ?_
 refine CWp.regionJ ?_
 refine WRest.join 8 [(72,.d (.bool (decide (k<(pwC s m).length∧k≤4))))] [65,66,67,68,69,70,71] ?_ ?_
 refine ev ?_
 refine sq (fun h6 h6p h6s=>?_) fun h6 h6p h6s=>?_
 try simp only[Q,zaX] at h6p
 focus (exact jn rfl (LeA.eqb (by(rw[Bool.eq_iff_iff];simp_all[zdW];omega))))
 try simp only[Q,zaX] at h6p
 focus (exact jn rfl (LeA.eqb (by(rw[Bool.eq_iff_iff];simp_all[zdW];omega))))
 refine WRest.done ?_
 refine tv ?_
 refine sq (fun h7 h7p h7s=>?_) fun h7 h7p h7s=>?_
 try simp only[Q,zaX] at h7p
 refine Walk.idx sl99 .none rfl rfl rfl rfl (zau (by omega)) rfl ?_
 refine evd [] [] ?_
 refine Walk.call (cr:=[]) zvm (ziZ (names:=zcp s (zbr s)) (s:=nth (pwC s m) k) (by rw[hnl];omega) (by have h1:=zj7 (s:=s) (i:=m) (j:=1) (by omega) (by rw[hg1.2 m (by omega)];omega);have h2:=zu3 (s:=s) (i:=m) (k:=k) (by omega);omega)) rfl .none rfl rfl (.cons (.gl _ _) (.cons (.refl _) .nil)) trivial rfl rfl rfl ?_
 refine si [0] [_] zcr zgB ?_
 refine ap zcr zwK rfl rfl rfl (by simp) (by simp[zaX,zcA];omega) ?_
 refine evd [] [] ?_
 refine so zwG ?_
 refine dr ?_
 refine ar ?_
 refine Exists.intro (k+1) ⟨⟨by omega,by omega⟩,(by omega),sx ⟨⟨_,rfl,LeA.eqi ?_⟩,trivial⟩ ⟨?_,⟨zab ?_,trivial⟩⟩⟩
 focus (rfl)
 focus ((show some (Res.box _)=some (Res.box _);rw[zgc (by omega)];simp;done))
 focus ((simp;omega))
 try simp only[Q,zaX] at h7p
 refine si [0] [_] sl23 zrR ?_
 refine ap sl23 zwJ rfl rfl rfl (by simp) (by simp[zaX,zcA];omega) ?_
 refine ev ?_
 refine ar ?_
 refine Exists.intro (m+1) ⟨(by omega),(by omega),sx ⟨⟨_,rfl,LeA.eqi ?_⟩,⟨⟨_,rfl,LeA.glg ?_⟩,trivial⟩⟩ ⟨zab ?_,trivial⟩⟩
 iterate 3 focus (first|rfl|(rw[zl9];simp;done)|(rw[zl9,List.map_append];simp only[List.map_cons,List.map_nil,zjA,Data.c];rw[←List.map_take,zs2 (by omega)];done))
 try simp only[Q,zaX] at h5p
 obtain rfl:m=zbr s:=(by omega)
 refine CWp.regionJ ?_
 refine WRest.join 9 [(98,.d (.bool (!(za1 (zcA s (zbr s))&&decide (zeR (zcA s (zbr s))=s)))))] [90,91,92,93,94,95,96,97] ?_ ?_
 refine ev ?_
 refine Walk.call (cr:=[]) zrZ (zkh (zsP (by omega) hg1.2)) rfl .none rfl rfl (.cons (.gl _ _) .nil) trivial rfl rfl rfl ?_
 refine ev ?_
 refine sq (fun h8 h8p h8s=>?_) fun h8 h8p h8s=>?_
 try simp only[Q,zaX] at h8p
 focus (exact jn rfl (LeA.eqb (by(rw[Bool.eq_iff_iff];simp_all[zdW];done))))
 try simp only[Q,zaX] at h8p
 refine Walk.call (cr:=[]) zvn (zm7 (ztY (by assumption))) rfl (.some rfl rfl h8) rfl rfl (.cons (.gl _ _) .nil) trivial rfl rfl rfl ?_
 refine evs [] [(93,false)] ?_ ⟨⟨_,rfl,h8⟩,trivial⟩
 focus (exact jn rfl (LeA.eqb (by(rw[Bool.eq_iff_iff];simp_all[zdW];done))))
 refine WRest.done ?_
 refine tv ?_
 refine sq (fun h9 h9p h9s=>?_) fun h9 h9p h9s=>?_
 try simp only[Q,zaX] at h9p
 refine Walk.sliceEmpty sl23 .none rfl ?_
 refine ev ?_
 refine rn0 (r2 rfl rfl) (.tup (.cons (.eqd ?_) (.cons (.eqd ?_) .nil)))
 rotate_left 2
 try simp only[Q,zaX] at h9p
 refine rn0 (r2 rfl rfl) (.tup (.cons (.gld ?_) (.cons (.eqd ?_) .nil)))
 rotate_left 2
 all_goals (first|(have hq:=ztn (s:=s) (i:=i) h3p (fun h=>h4p (by omega));rw[zqK hq];all_goals rfl)|(have hr:=znx hg1.2;rw[h9s] at hr;rw[zqK hr];all_goals rfl)|(have hr:=znx hg1.2;rw[h9s] at hr;rw[zto hr];all_goals rfl))
def zdn:List Str:=[[76,61,78,105,108,124,67,111,110,115,40,73,44,76,41],
 [66,61,84,114,117,124,70,108,115,59,84,61,76,101,97,102,124,78,111,100,101,40,84,44,66,44,84,41],
 [69,61,78,117,109,40,73,41,58,49,124,66,111,108,40,66,41,58,50,124,65,100,100,40,69,49,44,69,49,41,58,49,124,73,102,40,69,50,44,69,42,44,69,42,41,59,66,61,84,114,117,124,70,108,115],
 [79,61,78,111,110,124,83,111,109,40,73,41,59,80,61,80,97,105,114,40,79,44,79,41],
 [86,61,69,110,100,58,49,124,83,111,109,101,40,73,44,86,49,41,58,50,124,84,119,111,40,86,42,41],
 [78,61,78,101,118,101,114,40,78,41,59,66,61,84,114,117,124,70,108,115,124,77,97,121,40,78,41],
 [83,61,82,101,100,124,71,114,101,101,110,124,66,108,117,101,124,77,105,120,40,83,44,83,41],
 []]
theorem zmw:zdn.length=8:=rfl
theorem zpT:∀t∈zdn,t.length≤100:=by decide
theorem zrQ {i:Nat} (h:i<8):(nth zdn i).length≤100:=zpT _ (zae h)
def zba (b:Str) (p:Nat):List Data:=(zc4 (nth zdn (zay b p 7).toNat)).1
theorem zoz (b:Str) (p:Nat):(zay b p 7).toNat<7:=by have:=zcO (b:=b) (p:=p) (n:=7) (by omega);omega
theorem zmj:FnD Tryz.prog 71 [] [] (.d (zeD zdn)) []:=by
 refine bd Tryz.f71 2 [] [] fun w0 F0 own kept hk=>?_
 refine si [0,1,2,3,4,5,6,7] [_,_,_,_,_,_,_,_] sl99 tz9 ?_
 refine ev ?_
 refine rn0 (r1 rfl) (.eqd ?_)
 rotate_left
 all_goals (rfl)
theorem zml {b:Str}{p:Nat} (hb:b.length≤2000) (hp:p≤1000000):
  FnD Tryz.prog 188 [.ref 900 0] [(900,some (rdB b p))] (.d (zam (zba b p))) [(900,some (rdB b (p+1)))]:=by
 have h7:=zoz b p
 have ht8:=zmw
 have hv:=zcO (b:=b) (p:=p) (n:=7) (by omega)
 have hts:=zrQ (i:=(zay b p 7).toNat) (by omega)
 refine bd Tryz.f188 20 [] [] fun w0 F0 own kept hk=>?_
 refine wc zwp (zmj) rfl rfl ?_
 refine ev ?_
 refine ar ?_
 refine wd zdf (zbg (n:=7) hb (by omega) (by omega)) rfl rfl ⟨rfl,trivial⟩ ?_
 refine Walk.idx (i:=(zay b p 7).toNat) sl99 .none rfl rfl rfl (by omega) (zau (by rw[zmw];omega)) rfl ?_
 refine ev ?_
 refine wc zwo (zjO (s:=nth zdn (zay b p 7).toNat) (by omega)) rfl rfl ?_
 refine ev ?_
 refine rn [(900,some (rdB b (p+1)))] (r1 rfl) (.eqd ?_) ⟨rfl,rfl⟩ (SubO.get ⟨.inr ?_,⟨.inl rfl,trivial⟩⟩) (zaF rfl)
 rotate_left 2
 all_goals (first|((rfl);done)|(rfl))
def anyP:Pat:=⟨1,0,0,0,0,[]⟩
def dA (f:Ty→Nat→Pat×Nat):List Ty→Nat→List Pat×Nat
 | [],q=>([],q)
 |t::r,q=>((f t q).1::(dA f r (f t q).2).1,(dA f r (f t q).2).2)
def zaC (b:Str) (w:List Data):Nat→Ty→Nat→Pat×Nat
 |0,_,p=>(anyP,p)
 |d+1,t,p=>
  if d=0 then (anyP,p)
  else if zay b p 4=0 then (anyP,p+1)
  else if zay b (p+1) 6=0 then (⟨5,0,0,0,0,[(zaC b w d t (p+2)).1,(zaC b w d t (zaC b w d t (p+2)).2).1]⟩,(zaC b w d t (zaC b w d t (p+2)).2).2)
  else if t.data = -1 then (⟨3,0,zay b (p+2) 10,zay b (p+2) 10+zay b (p+3) (10-zay b (p+2) 10)*zay b (p+4) 2,0,[]⟩,p+5)
  else if (zah w t).length=0 then (anyP,p+2)
  else (⟨4,nth (zah w t) (zay b (p+2) (zah w t).length).toNat,0,0,0,(dA (zaC b w d) (zaa w t (nth (zah w t) (zay b (p+2) (zah w t).length).toNat)) (p+3)).1⟩,
   (dA (zaC b w d) (zaa w t (nth (zah w t) (zay b (p+2) (zah w t).length).toNat)) (p+3)).2)
def bdP:Nat→Nat
 |0=>0
 |d+1=>5+3*bdP d
def Few (w:List Data):Prop:=∀t c,c∈zah w t→TyIn w.length t→(zaa w t c).length≤3∧∀u∈zaa w t c,TyIn w.length u
theorem zuh {f:Ty→Nat→Pat×Nat}{k:Nat}:∀(l:List Ty) (q:Nat),(∀t∈l,∀q,(f t q).2≤q+k)→(dA f l q).2≤q+l.length*k
 | [],q,_=>by simp[dA]
 |t::r,q,h=>by
  have h1:=h t (by simp) q
  have h2:=zuh r (f t q).2 (fun x hx=>h x (by simp[hx]))
  simp only[dA,List.length_cons,Nat.add_mul];omega
theorem zso {f:Ty→Nat→Pat×Nat}:∀(l:List Ty) (q:Nat),(dA f l q).1.length=l.length
 | [],q=>rfl
 |t::r,q=>by simp only[dA,List.length_cons,zso r]
theorem zix {l:List Int}{b:Str}{p:Nat} (h:¬l.length=0):nth l (zay b p l.length).toNat∈l:=by
 have:=zcO (b:=b) (p:=p) (n:=(l.length:Int)) (by omega)
 exact zae (by omega)
theorem zig {b:Str}{w:List Data} (hf:Few w):∀(d:Nat) (t:Ty) (p:Nat),TyIn w.length t→(zaC b w d t p).2≤p+bdP d
 |0,t,p,_=>by simp[zaC,bdP]
 |d+1,t,p,ht=>by
  have ih:=fun t p ht=>zig (b:=b) hf d t p ht
  unfold zaC bdP
  split
  ·dsimp only;omega
  ·split
   ·dsimp only;omega
   ·split
    ·dsimp only
     have h1:=ih t (p+2) ht
     have h2:=ih t (zaC b w d t (p+2)).2 ht
     omega
    ·split
     ·dsimp only;omega
     ·split
      ·dsimp only;omega
      ·rename_i h5
       dsimp only
       have hm:=zix (b:=b) (p:=p+2) h5
       have h3:=hf t _ hm ht
       have h1:=zuh (f:=zaC b w d) (k:=bdP d) (zaa w t (nth (zah w t) (zay b (p+2) (zah w t).length).toNat)) (p+3) (fun u hu q=>ih u q (h3.2 u hu))
       have h4:(zaa w t (nth (zah w t) (zay b (p+2) (zah w t).length).toNat)).length*bdP d≤3*bdP d:=Nat.mul_le_mul_right _ h3.1
       omega
theorem zs8 {w:List Data} (hs:WSmall w) (hv:za1 w=true):Few w:=by
 have hw:=zez hs hv
 have hW:=(zce w).1 hv
 rintro ⟨a,k⟩ c hc ht
 obtain⟨d,rfl,h1,j,rfl,h3⟩:=zck ht hc
 refine⟨?_,fun u hu=>zne hw h1 ⟨j,rfl,h3⟩ hu⟩
 have hco:=hW.ctor _ (zae h1) _ (zae h3)
 simp only[zbs,Bool.and_eq_true,decide_eq_true_eq] at hco
 simp only[zaa,Int.toNat_natCast,List.length_map]
 omega
theorem Pat.cs_cc (l:List Pat):Pat.cs l=l.map Pat.cc:=by
 rw[Pat.cs_eq];exact List.map_congr_left (fun v _=>Pat.c_eq v)
section
variable {b:Str}{w:List Data}{d p:Nat}{a k:Int}
theorem zqz (h:d=0):zaC b w (d+1) ⟨a,k⟩ p=(anyP,p):=by simp only[zaC];rw[if_pos h]
theorem zqA (h:¬d=0) (h2:zay b p 4=0):zaC b w (d+1) ⟨a,k⟩ p=(anyP,p+1):=by simp only[zaC];rw[if_neg h,if_pos h2]
theorem zqB (h:¬d=0) (h2:¬zay b p 4=0) (h3:zay b (p+1) 6=0):zaC b w (d+1) ⟨a,k⟩ p =
  (⟨5,0,0,0,0,[(zaC b w d ⟨a,k⟩ (p+2)).1,(zaC b w d ⟨a,k⟩ (zaC b w d ⟨a,k⟩ (p+2)).2).1]⟩,(zaC b w d ⟨a,k⟩ (zaC b w d ⟨a,k⟩ (p+2)).2).2):=by
 simp only[zaC];rw[if_neg h,if_neg h2,if_pos h3]
theorem zqC (h:¬d=0) (h2:¬zay b p 4=0) (h3:¬zay b (p+1) 6=0) (h4:a = -1):zaC b w (d+1) ⟨a,k⟩ p =
  (⟨3,0,zay b (p+2) 10,zay b (p+2) 10+zay b (p+3) (10-zay b (p+2) 10)*zay b (p+4) 2,0,[]⟩,p+5):=by
 simp only[zaC];rw[if_neg h,if_neg h2,if_neg h3,if_pos h4]
theorem zqD (h:¬d=0) (h2:¬zay b p 4=0) (h3:¬zay b (p+1) 6=0) (h4:¬a = -1) (h5:(zah w ⟨a,k⟩).length=0):zaC b w (d+1) ⟨a,k⟩ p=(anyP,p+2):=by
 simp only[zaC];rw[if_neg h,if_neg h2,if_neg h3,if_neg h4,if_pos h5]
theorem zqE (h:¬d=0) (h2:¬zay b p 4=0) (h3:¬zay b (p+1) 6=0) (h4:¬a = -1) (h5:¬(zah w ⟨a,k⟩).length=0){cc:Int} (hc:nth (zah w ⟨a,k⟩) (zay b (p+2) (zah w ⟨a,k⟩).length).toNat=cc):zaC b w (d+1) ⟨a,k⟩ p =
  (⟨4,cc,0,0,0,(dA (zaC b w d) (zaa w ⟨a,k⟩ cc) (p+3)).1⟩,(dA (zaC b w d) (zaa w ⟨a,k⟩ cc) (p+3)).2):=by
 simp only[zaC];rw[if_neg h,if_neg h2,if_neg h3,if_neg h4,if_neg h5,hc]
end
theorem zeh {b:Str}{w:List Data} (hb:b.length≤2000) (hw:WT w) (hf:Few w):∀(d:Nat){a k m:Int}{p:Nat},m=d→d≤4→1≤d→p+bdP d≤1000000→TyIn w.length ⟨a,k⟩→
  FnD Tryz.prog 125 [.ref 900 0,.d (zam w),.agg [.d (.i a),.d (.i k)],.d (.i m)] [(900,some (rdB b p))]
   (.agg [.d (.i (zaC b w d ⟨a,k⟩ p).1.op),.d (.i (zaC b w d ⟨a,k⟩ p).1.ctor),.d (.i (zaC b w d ⟨a,k⟩ p).1.n),.d (.i (zaC b w d ⟨a,k⟩ p).1.m),.d (.i (zaC b w d ⟨a,k⟩ p).1.var),.d (zad (zaC b w d ⟨a,k⟩ p).1.kids)]) [(900,some (rdB b (zaC b w d ⟨a,k⟩ p).2))]
 |0,a,k,m,p,_,_,h1,_,_=>by omega
 |d+1,a,k,m,p,hm,hd4,_,hp,ht=>by
  have hcl:=zgD hw ht
  have hbd:bdP (d+1)=5+3*bdP d:=rfl
  have ih:=fun(t:Ty) (q:Nat) (ht:TyIn w.length t)=>zig (b:=b) hf d t q ht
  have v10:=zcO (b:=b) (p:=p+2) (n:=10) (by omega)
  have v11:=zcO (b:=b) (p:=p+3) (n:=10-zay b (p+2) 10) (by omega)
  have v12:=zcO (b:=b) (p:=p+4) (n:=2) (by omega)
  have v13:0≤zay b (p+3) (10-zay b (p+2) 10)*zay b (p+4) 2∧zay b (p+3) (10-zay b (p+2) 10)*zay b (p+4) 2≤10:=by
   have h:zay b (p+4) 2=0∨zay b (p+4) 2=1:=by omega
   rcases h with h|h<;>rw[h]<;>omega
  have hvl:((((zah w ⟨a,k⟩).map fun n=>[D.i n]).length:Nat):Int)=(zah w ⟨a,k⟩).length:=by simp
  have v14:=fun h=>zcO (b:=b) (p:=p+2) (n:=((zah w ⟨a,k⟩).length:Int)) h
  have hmem:=fun h=>zix (l:=zah w ⟨a,k⟩) (b:=b) (p:=p+2) h
  generalize hcc:nth (zah w ⟨a,k⟩) (zay b (p+2) (zah w ⟨a,k⟩).length).toNat=cc at *
  have hfw:=fun h=>hf ⟨a,k⟩ cc (hmem h) ht
  have hat:¬(zah w ⟨a,k⟩).length=0→((zah w ⟨a,k⟩).map fun n=>[D.i n])[(zay b (p+2) (zah w ⟨a,k⟩).length).toNat]?=some [D.i cc]:=fun h=>by
   rw[←hcc];exact zau (by have:=v14 (by omega);omega)
  refine bd Tryz.f125 96 [] [] fun w0 F0 own kept hk=>?_
  refine bx 3006 ?_
  refine ab 3008 tz28 ?_
  refine tv ?_
  refine sq (fun h1 h1p h1s=>?_) fun h1 h1p h1s=>?_
  try simp only[Q] at h1p
  refine sqT ?_
  refine bu [0] [_] st28 ?_
  refine so ty28 ?_
  refine tv ?_
  refine rn [(900,some (rdB b (zaC b w (d+1) ⟨a,k⟩ p).2))] (.cons (.cellA ty28 rfl rfl rfl) .nil) (.agg (.cons (.eqd ?_) (.cons (.eqd ?_) (.cons (.eqd ?_) (.cons (.eqd ?_) (.cons (.eqd ?_) (.cons (.nild ?_) .nil))))))) ⟨rfl,rfl⟩ (SubO.get ⟨.inr ?_,⟨.inl rfl,trivial⟩⟩) (zaF rfl)
  rotate_left 7
  try simp only[Q] at h1p
  refine Walk.call (cr:=[]) zdf (zbg (p:=p) (n:=4) hb (by omega) (by omega)) rfl (.some rfl rfl h1) rfl rfl (LeL.refl _) ⟨rfl,trivial⟩ rfl rfl rfl ?_
  refine evs [] [(16,false)] ?_ ⟨⟨_,rfl,h1⟩,trivial⟩
  refine sq (fun h3 h3p h3s=>?_) fun h3 h3p h3s=>?_
  try simp only[Q] at h3p
  refine bu [0] [_] st28 ?_
  refine so ty28 ?_
  refine tv ?_
  refine rn [(900,some (rdB b (zaC b w (d+1) ⟨a,k⟩ p).2))] (.cons (.cellA ty28 rfl rfl rfl) .nil) (.agg (.cons (.eqd ?_) (.cons (.eqd ?_) (.cons (.eqd ?_) (.cons (.eqd ?_) (.cons (.eqd ?_) (.cons (.nild ?_) .nil))))))) ⟨rfl,rfl⟩ (SubO.get ⟨.inr ?_,⟨.inl rfl,trivial⟩⟩) (zaF rfl)
  rotate_left 7
  try simp only[Q] at h3p
  refine wd zdf (zbg (p:=p+1) (n:=6) hb (by omega) (by omega)) rfl rfl ⟨rfl,trivial⟩ ?_
  refine ev ?_
  refine sq (fun h4 h4p h4s=>?_) fun h4 h4p h4s=>?_
  try simp only[Q] at h4p
  refine ar ?_
  refine wd zle (zeh hb hw hf d (p:=p+2) (by omega) (by omega) (by omega) (by omega) ht) rfl rfl ⟨rfl,trivial⟩ ?_
  refine evd [] [] ?_
  refine ar ?_
  refine wd zle (zeh hb hw hf d (p:=(zaC b w d ⟨a,k⟩ (p+2)).2) (by omega) (by omega) (by omega) (by have:=ih ⟨a,k⟩ (p+2) ht;omega) ht) rfl rfl ⟨rfl,trivial⟩ ?_
  refine si [0,1] [_,_] sl26 tz28 ?_
  refine bu [0,5] [_,_] st28 ?_
  refine so ty28 ?_
  refine dr ?_
  refine rn [(900,some (rdB b (zaC b w (d+1) ⟨a,k⟩ p).2))] (.cons (.cellA ty28 rfl rfl rfl) .nil) (.agg (.cons (.eqd ?_) (.cons (.eqd ?_) (.cons (.eqd ?_) (.cons (.eqd ?_) (.cons (.eqd ?_) (.cons (.eqd ?_) .nil))))))) ⟨rfl,rfl⟩ (SubO.get ⟨.inr ?_,⟨.inl rfl,trivial⟩⟩) (zaF rfl)
  rotate_left 7
  try simp only[Q] at h4p
  refine sq (fun h5 h5p h5s=>?_) fun h5 h5p h5s=>?_
  try simp only[Q] at h5p
  refine wd zdf (zbg (p:=p+2) (n:=10) hb (by omega) (by omega)) rfl rfl ⟨rfl,trivial⟩ ?_
  refine ev ?_
  refine ar ?_
  refine wd zdf (zbg (p:=p+3) (n:=10-zay b (p+2) 10) hb (by omega) (by omega)) rfl rfl ⟨rfl,trivial⟩ ?_
  refine ev ?_
  refine wd zdf (zbg (p:=p+4) (n:=2) hb (by omega) (by omega)) rfl rfl ⟨rfl,trivial⟩ ?_
  refine ev ?_
  refine ar ?_
  refine ar ?_
  refine bu [0,2,3] [_,_,_] st28 ?_
  refine so ty28 ?_
  refine tv ?_
  refine rn [(900,some (rdB b (zaC b w (d+1) ⟨a,k⟩ p).2))] (.cons (.cellA ty28 rfl rfl rfl) .nil) (.agg (.cons (.eqd ?_) (.cons (.eqd ?_) (.cons (.eqd ?_) (.cons (.eqd ?_) (.cons (.eqd ?_) (.cons (.nild ?_) .nil))))))) ⟨rfl,rfl⟩ (SubO.get ⟨.inr ?_,⟨.inl rfl,trivial⟩⟩) (zaF rfl)
  rotate_left 7
  try simp only[Q] at h5p
  refine wc zhc (zbW hw ht) rfl rfl ?_
  refine ev ?_
  refine sq (fun h6 h6p h6s=>?_) fun h6 h6p h6s=>?_
  try simp only[Q] at h6p
  refine bu [0] [_] st28 ?_
  refine so ty28 ?_
  refine tv ?_
  refine rn [(900,some (rdB b (zaC b w (d+1) ⟨a,k⟩ p).2))] (.cons (.cellA ty28 rfl rfl rfl) .nil) (.agg (.cons (.eqd ?_) (.cons (.eqd ?_) (.cons (.eqd ?_) (.cons (.eqd ?_) (.cons (.eqd ?_) (.cons (.nild ?_) .nil))))))) ⟨rfl,rfl⟩ (SubO.get ⟨.inr ?_,⟨.inl rfl,trivial⟩⟩) (zaF rfl)
  rotate_left 7
  try simp only[Q] at h6p
  refine wd zdf (zbg (p:=p+2) (n:=((((zah w ⟨a,k⟩).map fun n=>[D.i n]).length:Nat):Int)) hb (by omega) (by omega)) rfl rfl ⟨rfl,trivial⟩ ?_
  refine Walk.idx (i:=(zay b (p+2) (zah w ⟨a,k⟩).length).toNat) sl62 .none rfl rfl rfl (by rw[hvl];have:=v14 (by omega);omega) (hat (by omega)) rfl ?_
  refine ev ?_
  refine bu [0,1] [_,_] st28 ?_
  refine ab 3011 tz28 ?_
  refine so ty28 ?_
  refine tv ?_
  refine wc zfQ (zb5 hw ht (hmem (by omega))) rfl rfl ?_
  refine ev ?_
  refine CWp.tokB 3011 5 1 6 rfl rfl rfl rfl ?_
  refine CWp.loopX (ι:=List (Ty)×List (Ty)×(Nat)×(List Pat)) hk (fun x=>[(13,.d (.i (x.1.length:Int)))]) [75,76,77,78,79,80,81,82,83,84,85,86,87,88,89,90,91,92,93,94] (fun x=>[(900,some (.box [.d (zcJ b),.d (.i (x.2.2.1:Int))])),(3011,some (.box [.d (.i 4),.d (.i cc),.d (.i 0),.d (.i 0),.d (.i 0),.gl 1 (x.2.2.2.map Pat.cc)])),(1,some (.tok (x.2.2.2.map Pat.cc).length 6))]) (fun x=>x.1++x.2.1=zaa w ⟨a,k⟩ cc∧x.2.2.1≤p+3+x.1.length*bdP d∧x.2.2.2.length=x.1.length∧(x.2.2.2++(dA (zaC b w d) x.2.1 x.2.2.1).1,(dA (zaC b w d) x.2.1 x.2.2.1).2)=dA (zaC b w d) (zaa w ⟨a,k⟩ cc) (p+3)) (fun x=>x.2.1.length) ([],zaa w ⟨a,k⟩ cc,p+3,[]) ⟨by simp,by simp,by simp,by simp⟩ ⟨⟨_,rfl,LeA.eqi ?_⟩,trivial⟩ ⟨?_,⟨?_,⟨zab ?_,trivial⟩⟩⟩ (fun x=>rfl) (fun x hg1=>?_)
  focus (rfl)
  iterate 2 focus (first|rfl|(simp[getH];done))
  focus (rfl)
  obtain⟨pre,rest,q,ks⟩:=x
  dsimp only at hg1 ⊢
  refine evc [] [] ?_
  refine sq (fun h7 h7p h7s=>?_) fun h7 h7p h7s=>?_
  try simp only[Q] at h7p
  rcases rest with _|⟨y,rest⟩
  ·exfalso;simp_all
  have hpm:pre.length*bdP d≤2*bdP d:=Nat.mul_le_mul_right _ (by have:=(hfw (by omega)).1;omega)
  refine Walk.idx za0 .none rfl rfl rfl rfl (zaK hg1.1) rfl ?_
  refine evd [] [] ?_
  refine ar ?_
  refine wd zle (zeh hb hw hf d (a:=y.data) (k:=y.index) (p:=q) (by omega) (by omega) (by omega) (by omega) ((hfw (by omega)).2 y (by rw[←hg1.1];simp))) rfl rfl ⟨rfl,trivial⟩ ?_
  refine si [0] [_] sl26 tz28 ?_
  refine ap sl26 zz28 rfl rfl rfl (by simp) (by have hz:=congrArg List.length hg1.1;have:=(hfw (by omega)).1;simp at hz ⊢;omega) ?_
  refine evd [] [] ?_
  refine so ty26 ?_
  refine dr ?_
  refine ar ?_
  refine Exists.intro ((pre++[y],rest,(zaC b w d y q).2,ks++[(zaC b w d y q).1])) ⟨⟨(by have hz:=hg1.1;rw[←hz];simp),⟨(by have:=ih y q ((hfw (by omega)).2 y (by rw[←hg1.1];simp));simp only[List.length_append,List.length_cons,List.length_nil,Nat.add_mul];omega),(by simp[hg1.2.2.1]),(by rw[←hg1.2.2.2];simp[dA])⟩⟩,(by simp),sx ⟨⟨_,rfl,LeA.eqi ?_⟩,trivial⟩ ⟨?_,⟨?_,⟨zab ?_,trivial⟩⟩⟩⟩
  focus ((simp;done))
  iterate 2 focus (first|rfl|(simp[getH];done))
  focus ((simp;done))
  try simp only[Q] at h7p
  have hrest:rest=[]:=by
   rcases rest with _|⟨a,b⟩
   ·rfl
   ·exfalso;have hz:=congrArg List.length (hg1.1);simp only[List.length_append,List.length_cons,List.length_map] at hz;omega
  subst hrest
  refine so ty28 ?_
  refine tv ?_
  refine rn [(900,some (rdB b (zaC b w (d+1) ⟨a,k⟩ p).2))] (.cons (.cellA ty28 rfl rfl rfl) .nil) (.agg (.cons (.eqd ?_) (.cons (.eqd ?_) (.cons (.eqd ?_) (.cons (.eqd ?_) (.cons (.eqd ?_) (.cons (.gld ?_) .nil))))))) ⟨rfl,rfl⟩ (SubO.get ⟨.inr ?_,⟨.inl rfl,trivial⟩⟩) (zaF rfl)
  rotate_left 7
  all_goals (((first|(rw[zqz (by omega)];all_goals first|rfl|(show _=D.sl (Pat.cs _);rw[Pat.cs_cc];all_goals rfl)|(show _=Pat.cs _;rw[Pat.cs_cc];all_goals rfl))|(rw[zqA (by omega) (by omega)];all_goals first|rfl|(show _=D.sl (Pat.cs _);rw[Pat.cs_cc];all_goals rfl)|(show _=Pat.cs _;rw[Pat.cs_cc];all_goals rfl))|(rw[zqB (by omega) (by omega) (by omega)];all_goals first|rfl|(show _=D.sl (Pat.cs _);rw[Pat.cs_cc];all_goals rfl)|(show _=Pat.cs _;rw[Pat.cs_cc];all_goals rfl))|(rw[zqC (by omega) (by omega) (by omega) (by omega)];all_goals first|rfl|(show _=D.sl (Pat.cs _);rw[Pat.cs_cc];all_goals rfl)|(show _=Pat.cs _;rw[Pat.cs_cc];all_goals rfl))|(rw[zqD (by omega) (by omega) (by omega) (by omega) (by omega)];all_goals first|rfl|(show _=D.sl (Pat.cs _);rw[Pat.cs_cc];all_goals rfl)|(show _=Pat.cs _;rw[Pat.cs_cc];all_goals rfl))|(rw[zqE (by omega) (by omega) (by omega) (by omega) (by omega) hcc];have hfin:=hg1.2.2.2;simp only[dA,List.append_nil] at hfin;rw[←hfin];all_goals first|rfl|(show _=D.sl (Pat.cs _);rw[Pat.cs_cc];all_goals rfl)|(show _=Pat.cs _;rw[Pat.cs_cc];all_goals rfl)));done))
def namL (f:Pat→Int→Nat→Pat×Int×Nat):List Pat→Int→Nat→List Pat×Int×Nat
 | [],m,q=>([],m,q)
 |x::r,m,q=>((f x m q).1::(namL f r (f x m q).2.1 (f x m q).2.2).1,(namL f r (f x m q).2.1 (f x m q).2.2).2)
def namP (b:Str):Nat→Pat→Int→Nat→Pat×Int×Nat
 |0,p,m,q=>(p,m,q)
 |n+1,p,m,q=>
  if 5<m∨p.op=5∨p.op=3 then (p,m,q)
  else if p.op=1∧zay b q 2=0 then (⟨2,0,0,0,m,[]⟩,m+1,q+1)
  else if (namL (namP b n) p.kids m (if p.op=1 then q+1 else q)).2.1≤5 then
   (if zay b (namL (namP b n) p.kids m (if p.op=1 then q+1 else q)).2.2 6=0 then
    (⟨6,0,0,0,(namL (namP b n) p.kids m (if p.op=1 then q+1 else q)).2.1,[⟨p.op,p.ctor,p.n,p.m,p.var,(namL (namP b n) p.kids m (if p.op=1 then q+1 else q)).1⟩]⟩,
     (namL (namP b n) p.kids m (if p.op=1 then q+1 else q)).2.1+1,(namL (namP b n) p.kids m (if p.op=1 then q+1 else q)).2.2+1)
   else (⟨p.op,p.ctor,p.n,p.m,p.var,(namL (namP b n) p.kids m (if p.op=1 then q+1 else q)).1⟩,(namL (namP b n) p.kids m (if p.op=1 then q+1 else q)).2.1,(namL (namP b n) p.kids m (if p.op=1 then q+1 else q)).2.2+1))
  else (⟨p.op,p.ctor,p.n,p.m,p.var,(namL (namP b n) p.kids m (if p.op=1 then q+1 else q)).1⟩,(namL (namP b n) p.kids m (if p.op=1 then q+1 else q)).2.1,(namL (namP b n) p.kids m (if p.op=1 then q+1 else q)).2.2)
section
variable {b:Str}{n:Nat}{p:Pat}{m:Int}{q:Nat}{ks:List Pat}{zm:Int}{zq:Nat}
theorem zrA (h:5<m∨p.op=5∨p.op=3):namP b (n+1) p m q=(p,m,q):=by simp only[namP];rw[if_pos h]
theorem zrB (h:¬(5<m∨p.op=5∨p.op=3)) (h2:p.op=1∧zay b q 2=0):namP b (n+1) p m q=(⟨2,0,0,0,m,[]⟩,m+1,q+1):=by simp only[namP];rw[if_neg h,if_pos h2]
theorem zrC (h:¬(5<m∨p.op=5∨p.op=3)) (h2:¬(p.op=1∧zay b q 2=0)) (hz:(ks,zm,zq)=namL (namP b n) p.kids m (if p.op=1 then q+1 else q)) (h3:zm≤5) (h4:zay b zq 6=0):
  namP b (n+1) p m q=(⟨6,0,0,0,zm,[⟨p.op,p.ctor,p.n,p.m,p.var,ks⟩]⟩,zm+1,zq+1):=by
 simp only[namP];rw[if_neg h,if_neg h2,←hz];dsimp only;rw[if_pos h3,if_pos h4]
theorem zrD (h:¬(5<m∨p.op=5∨p.op=3)) (h2:¬(p.op=1∧zay b q 2=0)) (hz:(ks,zm,zq)=namL (namP b n) p.kids m (if p.op=1 then q+1 else q)) (h3:zm≤5) (h4:¬zay b zq 6=0):
  namP b (n+1) p m q=(⟨p.op,p.ctor,p.n,p.m,p.var,ks⟩,zm,zq+1):=by
 simp only[namP];rw[if_neg h,if_neg h2,←hz];dsimp only;rw[if_pos h3,if_neg h4]
theorem zrE (h:¬(5<m∨p.op=5∨p.op=3)) (h2:¬(p.op=1∧zay b q 2=0)) (hz:(ks,zm,zq)=namL (namP b n) p.kids m (if p.op=1 then q+1 else q)) (h3:¬zm≤5):
  namP b (n+1) p m q=(⟨p.op,p.ctor,p.n,p.m,p.var,ks⟩,zm,zq):=by
 simp only[namP];rw[if_neg h,if_neg h2,←hz];dsimp only;rw[if_neg h3]
end
def NamOk (p:Pat) (m:Int) (q:Nat) (r:Pat×Int×Nat):Prop:=m≤r.2.1∧r.2.1≤6∧r.2.2≤q+2*p.size∧r.1.size≤2*p.size∧(p.ok→r.1.ok)
theorem zqV {f:Pat→Int→Nat→Pat×Int×Nat}:∀(l:List Pat) (m:Int) (q:Nat),(∀x∈l,∀m q,0≤m→m≤6→NamOk x m q (f x m q))→0≤m→m≤6→
  m≤(namL f l m q).2.1∧(namL f l m q).2.1≤6∧(namL f l m q).2.2≤q+2*Pats.size l∧Pats.size (namL f l m q).1≤2*Pats.size l∧(namL f l m q).1.length=l.length∧(Pats.ok l→Pats.ok (namL f l m q).1)
 | [],m,q,_,_,h6=>by simp[namL,Pats.size,h6]
 |x::r,m,q,h,h0,h6=>by
  obtain⟨a1,a2,a3,a4,a5⟩:=h x (by simp) m q h0 h6
  obtain⟨b1,b2,b3,b4,b5,b6⟩:=zqV r (f x m q).2.1 (f x m q).2.2 (fun y hy=>h y (by simp[hy])) (by omega) a2
  simp only[namL,Pats.size,List.length_cons]
  refine⟨by omega,by omega,by omega,by omega,by omega,fun ho=>?_⟩
  exact⟨a5 ho.1,b6 ho.2⟩
theorem zmT {b:Str}:∀(n:Nat) (p:Pat) (m:Int) (q:Nat),0≤m→m≤6→NamOk p m q (namP b n p m q)
 |0,p,m,q,h0,h6=>⟨by simp[namP],by simp[namP,h6],by simp[namP],by simp[namP];omega,fun h=>h⟩
 |n+1,p,m,q,h0,h6=>by
  have hs:=Pat.size_eq p
  by_cases h:5<m∨p.op=5∨p.op=3
  ·rw[zrA h];exact⟨Int.le_refl _,h6,by dsimp only;omega,by dsimp only;omega,fun h=>h⟩
  ·by_cases h2:p.op=1∧zay b q 2=0
   ·rw[zrB h h2]
    refine⟨by dsimp only;omega,by dsimp only;omega,by dsimp only;omega, ?_,fun _=>?_⟩
    ·show(Pat.mk 2 0 0 0 m []).size≤_;rw[Pat.size_eq];simp only[Pat.kids,Pats.size];omega
    ·show(Pat.mk 2 0 0 0 m []).ok;rw[Pat.ok_iff];exact⟨by simp[Pat.kids],trivial⟩
   ·generalize hz:namL (namP b n) p.kids m (if p.op=1 then q+1 else q)=z
    obtain⟨ks,zm,zq⟩:=z
    have hq:(if p.op=1 then q+1 else q)≤q+1:=by split<;>omega
    obtain⟨b1,b2,b3,b4,b5,b6⟩:=zqV (f:=namP b n) p.kids m (if p.op=1 then q+1 else q) (fun x _ m q h0 h6=>zmT n x m q h0 h6) h0 h6
    rw[hz] at b1 b2 b3 b4 b5 b6
    dsimp only at b1 b2 b3 b4 b5 b6
    have so:(Pat.mk p.op p.ctor p.n p.m p.var ks).size=1+Pats.size ks:=by rw[Pat.size_eq];rfl
    have ko:p.ok→(Pat.mk p.op p.ctor p.n p.m p.var ks).ok:=fun h=>by
     rw[Pat.ok_iff] at h ⊢
     exact⟨by show ks.length≤_;rw[b5];exact h.1,b6 h.2⟩
    by_cases h3:zm≤5
    ·by_cases h4:zay b zq 6=0
     ·rw[zrC h h2 hz.symm h3 h4]
      refine⟨by dsimp only;omega,by dsimp only;omega,by dsimp only;omega, ?_,fun hk=>?_⟩
      ·dsimp only;rw[Pat.size_eq];simp only[Pat.kids,Pats.size];rw[so];omega
      ·dsimp only;rw[Pat.ok_iff];exact⟨by simp[Pat.kids],ko hk,trivial⟩
     ·rw[zrD h h2 hz.symm h3 h4]
      exact⟨b1,b2,by dsimp only;omega,by dsimp only;rw[so];omega,ko⟩
    ·rw[zrE h h2 hz.symm h3]
     exact⟨b1,b2,by dsimp only;omega,by dsimp only;rw[so];omega,ko⟩
theorem zkV {f:Pat→Int→Nat→Pat×Int×Nat}{ks:List Pat}{zm:Int}{zq:Nat}{z:List Pat×Int×Nat} (h:(ks++(namL f [] zm zq).1,(namL f [] zm zq).2)=z):(ks,zm,zq)=z:=by
 rw[←h];simp[namL]
theorem Pats.size_snoc {l:List Pat}{y:Pat}:Pats.size (l++[y])=Pats.size l+y.size:=by
 have:=Pats.size_split (pre:=l) (rest:=[]) (y:=y) rfl
 simpa [Pats.size] using this
theorem zfC {b:Str} (hb:b.length≤2000):∀(n:Nat){p:Pat}{m:Int}{q:Nat},p.size≤n→p.ok→0≤m→m≤6→q+2*p.size≤1000000→
  FnD Tryz.prog 124 [.ref 900 0,.agg [.d (.i p.op),.d (.i p.ctor),.d (.i p.n),.d (.i p.m),.d (.i p.var),.d (zad p.kids)],.d (.i m)] [(900,some (rdB b q))] (.tup [.agg [.d (.i (namP b n p m q).1.op),.d (.i (namP b n p m q).1.ctor),.d (.i (namP b n p m q).1.n),.d (.i (namP b n p m q).1.m),.d (.i (namP b n p m q).1.var),.d (zad (namP b n p m q).1.kids)],.d (.i (namP b n p m q).2.1)]) [(900,some (rdB b (namP b n p m q).2.2))]
 |0,p,m,q,h,_,_,_,_=>by rw[Pat.size_eq] at h;omega
 |n+1,p,m,q,kn,hok,k0,k6,hq=>by
  have hs:=Pat.size_eq p
  have hok':=hok
  rw[Pat.ok_iff] at hok'
  have ih:=fun(x:Pat) (m:Int) (q:Nat) (h0:0≤m) (h6:m≤6)=>zmT (b:=b) n x m q h0 h6
  have hysz:∀ {pre rest:List Pat}{y:Pat},pre++y::rest=p.kids→y.size+Pats.size pre+Pats.size rest=Pats.size p.kids:=fun h=>by have:=Pats.size_split h;omega
  have hq1:(if p.op=1 then q+1 else q)≤q+1:=by split<;>omega
  generalize hqq:(if p.op=1 then q+1 else q)=q1 at hq1
  have hqa:p.op=1→q1=q+1:=fun h=>by rw[←hqq,if_pos h]
  have hqb:¬p.op=1→q1=q:=fun h=>by rw[←hqq,if_neg h]
  refine bd Tryz.f124 82 [] [] fun w0 F0 own kept hk=>?_
  refine bx 3004 ?_
  refine ab 3006 tz28 ?_
  refine ev ?_
  refine sq (fun h1 h1p h1s=>?_) fun h1 h1p h1s=>?_
  try simp only[Q,Pat.cs_len] at h1p
  refine sqT ?_
  refine sqT ?_
  refine so ty28 ?_
  refine ev ?_
  refine rn [(900,some (rdB b (namP b (n+1) p m q).2.2))] (.cons (.cellA ty28 rfl rfl rfl) (.cons (.tmp rfl) .nil)) (.tup (.cons (.agg (.cons (.eqd ?_) (.cons (.eqd ?_) (.cons (.eqd ?_) (.cons (.eqd ?_) (.cons (.eqd ?_) (.cons (.eqd ?_) .nil))))))) (.cons (.eqd ?_) .nil))) ⟨rfl,rfl⟩ (SubO.get ⟨.inr ?_,⟨.inl rfl,trivial⟩⟩) (zaF rfl)
  rotate_left 8
  try simp only[Q,Pat.cs_len] at h1p
  refine sq (fun h3 h3p h3s=>?_) fun h3 h3p h3s=>?_
  try simp only[Q,Pat.cs_len] at h3p
  refine sqT ?_
  refine so ty28 ?_
  refine ev ?_
  refine rn [(900,some (rdB b (namP b (n+1) p m q).2.2))] (.cons (.cellA ty28 rfl rfl rfl) (.cons (.tmp rfl) .nil)) (.tup (.cons (.agg (.cons (.eqd ?_) (.cons (.eqd ?_) (.cons (.eqd ?_) (.cons (.eqd ?_) (.cons (.eqd ?_) (.cons (.eqd ?_) .nil))))))) (.cons (.eqd ?_) .nil))) ⟨rfl,rfl⟩ (SubO.get ⟨.inr ?_,⟨.inl rfl,trivial⟩⟩) (zaF rfl)
  rotate_left 8
  try simp only[Q,Pat.cs_len] at h3p
  refine sq (fun h5 h5p h5s=>?_) fun h5 h5p h5s=>?_
  try simp only[Q,Pat.cs_len] at h5p
  refine so ty28 ?_
  refine ev ?_
  refine rn [(900,some (rdB b (namP b (n+1) p m q).2.2))] (.cons (.cellA ty28 rfl rfl rfl) (.cons (.tmp rfl) .nil)) (.tup (.cons (.agg (.cons (.eqd ?_) (.cons (.eqd ?_) (.cons (.eqd ?_) (.cons (.eqd ?_) (.cons (.eqd ?_) (.cons (.eqd ?_) .nil))))))) (.cons (.eqd ?_) .nil))) ⟨rfl,rfl⟩ (SubO.get ⟨.inr ?_,⟨.inl rfl,trivial⟩⟩) (zaF rfl)
  rotate_left 8
  try simp only[Q,Pat.cs_len] at h5p
  refine sq (fun h6 h6p h6s=>?_) fun h6 h6p h6s=>?_
  try simp only[Q,Pat.cs_len] at h6p
  refine Walk.call (cr:=[]) zdf (zbg (p:=q) (n:=2) hb (by omega) (by omega)) rfl (.some rfl rfl h6) rfl rfl (LeL.refl _) ⟨rfl,trivial⟩ rfl rfl rfl ?_
  refine evs [] [(30,true)] ?_ ⟨⟨_,rfl,h6⟩,trivial⟩
  refine sq (fun h7 h7p h7s=>?_) fun h7 h7p h7s=>?_
  try simp only[Q,Pat.cs_len] at h7p
  refine bu [0,4] [_,_] st28 ?_
  refine ev ?_
  refine ar ?_
  refine so ty28 ?_
  refine ev ?_
  refine rn [(900,some (rdB b (namP b (n+1) p m q).2.2))] (.cons (.cellA ty28 rfl rfl rfl) (.cons (.tmp rfl) .nil)) (.tup (.cons (.agg (.cons (.eqd ?_) (.cons (.eqd ?_) (.cons (.eqd ?_) (.cons (.eqd ?_) (.cons (.eqd ?_) (.cons (.nild ?_) .nil))))))) (.cons (.eqd ?_) .nil))) ⟨rfl,rfl⟩ (SubO.get ⟨.inr ?_,⟨.inl rfl,trivial⟩⟩) (zaF rfl)
  rotate_left 8
  try simp only[Q,Pat.cs_len] at h7p
  refine ab 3008 tz28 ?_
  refine so ty28 ?_
  refine tv ?_
  refine so ty26 ?_
  refine tv ?_
  refine CWp.tokB 3008 5 1 6 rfl rfl rfl rfl ?_
  refine CWp.loopX (ι:=List (Pat)×List (Pat)×(Int)×(Nat)×(List Pat)) hk (fun x=>[(10,.d (.i (x.1.length:Int))),(9,.d (.i x.2.2.1))]) [11,12,42,43,44,45,46,47,48,49,50,51,52,53,54,55,56,57,58,59,60,61,62,63,64,65,66] (fun x=>[(900,some (.box [.d (zcJ b),.d (.i (x.2.2.2.1:Int))])),(3008,some (.box [.d (.i p.op),.d (.i p.ctor),.d (.i p.n),.d (.i p.m),.d (.i p.var),.gl 1 (x.2.2.2.2.map Pat.cc)])),(1,some (.tok (x.2.2.2.2.map Pat.cc).length 6))]) (fun x=>x.1++x.2.1=p.kids∧0≤x.2.2.1∧x.2.2.1≤6∧x.2.2.2.1≤q1+2*Pats.size x.1∧x.2.2.2.2.length=x.1.length∧(x.2.2.2.2++(namL (namP b n) x.2.1 x.2.2.1 x.2.2.2.1).1,(namL (namP b n) x.2.1 x.2.2.1 x.2.2.2.1).2)=namL (namP b n) p.kids m q1) (fun x=>x.2.1.length) ([],p.kids,m,q1,[]) ⟨by simp,by simpa using k0,by simpa using k6,by simp[Pats.size],by simp,by simp⟩ ⟨⟨_,rfl,LeA.eqi ?_⟩,⟨⟨_,rfl,LeA.eqi ?_⟩,trivial⟩⟩ ⟨?_,⟨?_,⟨zab ?_,trivial⟩⟩⟩ (fun x=>rfl) (fun x hg1=>?_)
  iterate 2 focus ((simp;done))
  iterate 2 focus (first|(simp[getH];done)|(show some (Res.box _)=some (Res.box _);rw[hqa (by omega)];all_goals rfl))
  focus ((simp;done))
  obtain⟨pre,rest,zm,zq,ks⟩:=x
  dsimp only at hg1 ⊢
  refine evc [] [] ?_
  refine sq (fun h8 h8p h8s=>?_) fun h8 h8p h8s=>?_
  try simp only[Q,Pat.cs_len] at h8p
  rcases rest with _|⟨y,rest⟩
  ·exfalso;simp_all
  have hni:=ih y zm zq hg1.2.1 hg1.2.2.1;have hn1:=hni.1;have hn2:=hni.2.1;have hn3:=hni.2.2.1
  refine Walk.idx sl26 .none rfl rfl rfl rfl (Pat.cs_at' hg1.1) rfl ?_
  refine ev ?_
  refine wd zoI (zfC hb n (p:=y) (m:=zm) (q:=zq) (by have:=hysz hg1.1;omega) (Pats.ok_mem hok'.2 y (by rw[←hg1.1];simp)) (by omega) (by omega) (by have:=hysz hg1.1;omega)) rfl rfl ⟨rfl,trivial⟩ ?_
  refine ev ?_
  refine ab 3011 tz28 ?_
  refine so ty28 ?_
  refine ev ?_
  refine si [0] [_] sl26 tz28 ?_
  refine ap sl26 zz28 rfl rfl rfl (by simp) (by have hz:=congrArg List.length hg1.1;simp at hz ⊢;omega) ?_
  refine ev ?_
  refine so ty26 ?_
  refine tv ?_
  refine ar ?_
  refine Exists.intro ((pre++[y],rest,(namP b n y zm zq).2.1,(namP b n y zm zq).2.2,ks++[(namP b n y zm zq).1])) ⟨⟨(by have hz:=hg1.1;rw[←hz];simp),⟨by dsimp only;omega,by dsimp only;omega,(by rw[Pats.size_snoc];dsimp only;omega),(by simp[hg1.2.2.2.2.1]),(by rw[←hg1.2.2.2.2.2];simp[namL])⟩⟩,(by simp),sx ⟨⟨_,rfl,LeA.eqi ?_⟩,⟨⟨_,rfl,LeA.eqi ?_⟩,trivial⟩⟩ ⟨?_,⟨?_,⟨zab ?_,trivial⟩⟩⟩⟩
  iterate 2 focus ((simp;done))
  iterate 2 focus (first|rfl|(simp[getH];done))
  focus ((simp;done))
  try simp only[Q,Pat.cs_len] at h8p
  have hrest:rest=[]:=by
   rcases rest with _|⟨a,b⟩
   ·rfl
   ·exfalso;have hz:=congrArg List.length (hg1.1);simp only[List.length_append,List.length_cons,List.length_map] at hz;omega
  subst hrest
  refine sq (fun h9 h9p h9s=>?_) fun h9 h9p h9s=>?_
  try simp only[Q,Pat.cs_len] at h9p
  refine Walk.call (cr:=[]) zdf (zbg (p:=zq) (n:=6) hb (by have e:=hg1.1;rw[List.append_nil] at e;rw[←e] at hs;omega) (by omega)) rfl (.some rfl rfl h9) rfl rfl (LeL.refl _) ⟨rfl,trivial⟩ rfl rfl rfl ?_
  refine evs [] [(69,true)] ?_ ⟨⟨_,rfl,h9⟩,trivial⟩
  refine sq (fun h10 h10p h10s=>?_) fun h10 h10p h10s=>?_
  try simp only[Q,Pat.cs_len] at h10p
  refine si [0] [_] sl26 tz28 ?_
  refine bu [0,4,5] [_,_,_] st28 ?_
  refine ev ?_
  refine ar ?_
  refine so ty28 ?_
  refine ev ?_
  refine rn [(900,some (rdB b (namP b (n+1) p m q).2.2))] (.cons (.cellA ty28 rfl rfl rfl) (.cons (.tmp rfl) .nil)) (.tup (.cons (.agg (.cons (.eqd ?_) (.cons (.eqd ?_) (.cons (.eqd ?_) (.cons (.eqd ?_) (.cons (.eqd ?_) (.cons (.eqd ?_) .nil))))))) (.cons (.eqd ?_) .nil))) ⟨rfl,rfl⟩ (SubO.get ⟨.inr ?_,⟨.inl rfl,trivial⟩⟩) (zaF rfl)
  rotate_left 8
  try simp only[Q,Pat.cs_len] at h10p
  refine so ty28 ?_
  refine ev ?_
  refine rn [(900,some (rdB b (namP b (n+1) p m q).2.2))] (.cons (.cellA ty28 rfl rfl rfl) (.cons (.tmp rfl) .nil)) (.tup (.cons (.agg (.cons (.eqd ?_) (.cons (.eqd ?_) (.cons (.eqd ?_) (.cons (.eqd ?_) (.cons (.eqd ?_) (.cons (.gld ?_) .nil))))))) (.cons (.eqd ?_) .nil))) ⟨rfl,rfl⟩ (SubO.get ⟨.inr ?_,⟨.inl rfl,trivial⟩⟩) (zaF rfl)
  rotate_left 8
  try simp only[Q,Pat.cs_len] at h9p
  refine sqF ?_
  refine so ty28 ?_
  refine ev ?_
  refine rn [(900,some (rdB b (namP b (n+1) p m q).2.2))] (.cons (.cellA ty28 rfl rfl rfl) (.cons (.tmp rfl) .nil)) (.tup (.cons (.agg (.cons (.eqd ?_) (.cons (.eqd ?_) (.cons (.eqd ?_) (.cons (.eqd ?_) (.cons (.eqd ?_) (.cons (.gld ?_) .nil))))))) (.cons (.eqd ?_) .nil))) ⟨rfl,rfl⟩ (SubO.get ⟨.inr ?_,⟨.inl rfl,trivial⟩⟩) (zaF rfl)
  rotate_left 8
  try simp only[Q,Pat.cs_len] at h6p
  refine sqF ?_
  refine ab 3008 tz28 ?_
  refine so ty28 ?_
  refine tv ?_
  refine so ty26 ?_
  refine tv ?_
  refine CWp.tokB 3008 5 1 6 rfl rfl rfl rfl ?_
  refine CWp.loopX (ι:=List (Pat)×List (Pat)×(Int)×(Nat)×(List Pat)) hk (fun x=>[(10,.d (.i (x.1.length:Int))),(9,.d (.i x.2.2.1))]) [11,12,42,43,44,45,46,47,48,49,50,51,52,53,54,55,56,57,58,59,60,61,62,63,64,65,66] (fun x=>[(900,some (.box [.d (zcJ b),.d (.i (x.2.2.2.1:Int))])),(3008,some (.box [.d (.i p.op),.d (.i p.ctor),.d (.i p.n),.d (.i p.m),.d (.i p.var),.gl 1 (x.2.2.2.2.map Pat.cc)])),(1,some (.tok (x.2.2.2.2.map Pat.cc).length 6))]) (fun x=>x.1++x.2.1=p.kids∧0≤x.2.2.1∧x.2.2.1≤6∧x.2.2.2.1≤q1+2*Pats.size x.1∧x.2.2.2.2.length=x.1.length∧(x.2.2.2.2++(namL (namP b n) x.2.1 x.2.2.1 x.2.2.2.1).1,(namL (namP b n) x.2.1 x.2.2.1 x.2.2.2.1).2)=namL (namP b n) p.kids m q1) (fun x=>x.2.1.length) ([],p.kids,m,q1,[]) ⟨by simp,by simpa using k0,by simpa using k6,by simp[Pats.size],by simp,by simp⟩ ⟨⟨_,rfl,LeA.eqi ?_⟩,⟨⟨_,rfl,LeA.eqi ?_⟩,trivial⟩⟩ ⟨?_,⟨?_,⟨zab ?_,trivial⟩⟩⟩ (fun x=>rfl) (fun x hg1=>?_)
  iterate 2 focus ((simp;done))
  iterate 2 focus (first|(simp[getH];done)|(show some (Res.box _)=some (Res.box _);rw[hqb (by omega)];all_goals rfl))
  focus ((simp;done))
  obtain⟨pre,rest,zm,zq,ks⟩:=x
  dsimp only at hg1 ⊢
  refine evc [] [] ?_
  refine sq (fun h13 h13p h13s=>?_) fun h13 h13p h13s=>?_
  try simp only[Q,Pat.cs_len] at h13p
  rcases rest with _|⟨y,rest⟩
  ·exfalso;simp_all
  have hni:=ih y zm zq hg1.2.1 hg1.2.2.1;have hn1:=hni.1;have hn2:=hni.2.1;have hn3:=hni.2.2.1
  refine Walk.idx sl26 .none rfl rfl rfl rfl (Pat.cs_at' hg1.1) rfl ?_
  refine ev ?_
  refine wd zoI (zfC hb n (p:=y) (m:=zm) (q:=zq) (by have:=hysz hg1.1;omega) (Pats.ok_mem hok'.2 y (by rw[←hg1.1];simp)) (by omega) (by omega) (by have:=hysz hg1.1;omega)) rfl rfl ⟨rfl,trivial⟩ ?_
  refine ev ?_
  refine ab 3011 tz28 ?_
  refine so ty28 ?_
  refine ev ?_
  refine si [0] [_] sl26 tz28 ?_
  refine ap sl26 zz28 rfl rfl rfl (by simp) (by have hz:=congrArg List.length hg1.1;simp at hz ⊢;omega) ?_
  refine ev ?_
  refine so ty26 ?_
  refine tv ?_
  refine ar ?_
  refine Exists.intro ((pre++[y],rest,(namP b n y zm zq).2.1,(namP b n y zm zq).2.2,ks++[(namP b n y zm zq).1])) ⟨⟨(by have hz:=hg1.1;rw[←hz];simp),⟨by dsimp only;omega,by dsimp only;omega,(by rw[Pats.size_snoc];dsimp only;omega),(by simp[hg1.2.2.2.2.1]),(by rw[←hg1.2.2.2.2.2];simp[namL])⟩⟩,(by simp),sx ⟨⟨_,rfl,LeA.eqi ?_⟩,⟨⟨_,rfl,LeA.eqi ?_⟩,trivial⟩⟩ ⟨?_,⟨?_,⟨zab ?_,trivial⟩⟩⟩⟩
  iterate 2 focus ((simp;done))
  iterate 2 focus (first|rfl|(simp[getH];done))
  focus ((simp;done))
  try simp only[Q,Pat.cs_len] at h13p
  have hrest:rest=[]:=by
   rcases rest with _|⟨a,b⟩
   ·rfl
   ·exfalso;have hz:=congrArg List.length (hg1.1);simp only[List.length_append,List.length_cons,List.length_map] at hz;omega
  subst hrest
  refine sq (fun h14 h14p h14s=>?_) fun h14 h14p h14s=>?_
  try simp only[Q,Pat.cs_len] at h14p
  refine Walk.call (cr:=[]) zdf (zbg (p:=zq) (n:=6) hb (by have e:=hg1.1;rw[List.append_nil] at e;rw[←e] at hs;omega) (by omega)) rfl (.some rfl rfl h14) rfl rfl (LeL.refl _) ⟨rfl,trivial⟩ rfl rfl rfl ?_
  refine evs [] [(69,true)] ?_ ⟨⟨_,rfl,h14⟩,trivial⟩
  refine sq (fun h15 h15p h15s=>?_) fun h15 h15p h15s=>?_
  try simp only[Q,Pat.cs_len] at h15p
  refine si [0] [_] sl26 tz28 ?_
  refine bu [0,4,5] [_,_,_] st28 ?_
  refine ev ?_
  refine ar ?_
  refine so ty28 ?_
  refine ev ?_
  refine rn [(900,some (rdB b (namP b (n+1) p m q).2.2))] (.cons (.cellA ty28 rfl rfl rfl) (.cons (.tmp rfl) .nil)) (.tup (.cons (.agg (.cons (.eqd ?_) (.cons (.eqd ?_) (.cons (.eqd ?_) (.cons (.eqd ?_) (.cons (.eqd ?_) (.cons (.eqd ?_) .nil))))))) (.cons (.eqd ?_) .nil))) ⟨rfl,rfl⟩ (SubO.get ⟨.inr ?_,⟨.inl rfl,trivial⟩⟩) (zaF rfl)
  rotate_left 8
  try simp only[Q,Pat.cs_len] at h15p
  refine so ty28 ?_
  refine ev ?_
  refine rn [(900,some (rdB b (namP b (n+1) p m q).2.2))] (.cons (.cellA ty28 rfl rfl rfl) (.cons (.tmp rfl) .nil)) (.tup (.cons (.agg (.cons (.eqd ?_) (.cons (.eqd ?_) (.cons (.eqd ?_) (.cons (.eqd ?_) (.cons (.eqd ?_) (.cons (.gld ?_) .nil))))))) (.cons (.eqd ?_) .nil))) ⟨rfl,rfl⟩ (SubO.get ⟨.inr ?_,⟨.inl rfl,trivial⟩⟩) (zaF rfl)
  rotate_left 8
  try simp only[Q,Pat.cs_len] at h14p
  refine sqF ?_
  refine so ty28 ?_
  refine ev ?_
  refine rn [(900,some (rdB b (namP b (n+1) p m q).2.2))] (.cons (.cellA ty28 rfl rfl rfl) (.cons (.tmp rfl) .nil)) (.tup (.cons (.agg (.cons (.eqd ?_) (.cons (.eqd ?_) (.cons (.eqd ?_) (.cons (.eqd ?_) (.cons (.eqd ?_) (.cons (.gld ?_) .nil))))))) (.cons (.eqd ?_) .nil))) ⟨rfl,rfl⟩ (SubO.get ⟨.inr ?_,⟨.inl rfl,trivial⟩⟩) (zaF rfl)
  rotate_left 8
  all_goals ((first|(rw[zrA (by omega)];all_goals first|rfl|(show _=D.sl (Pat.cs _);rw[Pat.cs_cc];all_goals rfl)|(show _=Pat.cs _;rw[Pat.cs_cc];all_goals rfl)|(show _=D.sl [[D.i _,D.i _,D.i _,D.i _,D.i _,D.sl (Pat.cs _)]];rw[Pat.cs_cc];all_goals rfl))|(rw[zrB (by omega) ⟨by omega,by omega⟩];all_goals first|rfl|(show _=D.sl (Pat.cs _);rw[Pat.cs_cc];all_goals rfl)|(show _=Pat.cs _;rw[Pat.cs_cc];all_goals rfl)|(show _=D.sl [[D.i _,D.i _,D.i _,D.i _,D.i _,D.sl (Pat.cs _)]];rw[Pat.cs_cc];all_goals rfl))|(have hz:(ks,zm,zq)=namL (namP b n) p.kids m (if p.op=1 then q+1 else q):=(by rw[hqq];exact zkV hg1.2.2.2.2.2);rw[zrC (by omega) (fun hh=>by omega) hz (by omega) (by omega)];all_goals first|rfl|(show _=D.sl (Pat.cs _);rw[Pat.cs_cc];all_goals rfl)|(show _=Pat.cs _;rw[Pat.cs_cc];all_goals rfl)|(show _=D.sl [[D.i _,D.i _,D.i _,D.i _,D.i _,D.sl (Pat.cs _)]];rw[Pat.cs_cc];all_goals rfl))|(have hz:(ks,zm,zq)=namL (namP b n) p.kids m (if p.op=1 then q+1 else q):=(by rw[hqq];exact zkV hg1.2.2.2.2.2);rw[zrD (by omega) (fun hh=>by omega) hz (by omega) (by omega)];all_goals first|rfl|(show _=D.sl (Pat.cs _);rw[Pat.cs_cc];all_goals rfl)|(show _=Pat.cs _;rw[Pat.cs_cc];all_goals rfl)|(show _=D.sl [[D.i _,D.i _,D.i _,D.i _,D.i _,D.sl (Pat.cs _)]];rw[Pat.cs_cc];all_goals rfl))|(have hz:(ks,zm,zq)=namL (namP b n) p.kids m (if p.op=1 then q+1 else q):=(by rw[hqq];exact zkV hg1.2.2.2.2.2);rw[zrE (by omega) (fun hh=>by omega) hz (by omega)];all_goals first|rfl|(show _=D.sl (Pat.cs _);rw[Pat.cs_cc];all_goals rfl)|(show _=Pat.cs _;rw[Pat.cs_cc];all_goals rfl)|(show _=D.sl [[D.i _,D.i _,D.i _,D.i _,D.i _,D.sl (Pat.cs _)]];rw[Pat.cs_cc];all_goals rfl))))
def szP:Nat→Nat
 |0=>1
 |d+1=>1+3*szP d
theorem zu6 (d:Nat):1≤szP d:=by cases d<;>simp only[szP]<;>omega
theorem zmC:anyP.size=1∧anyP.ok:=⟨by rw[Pat.size_eq];rfl,by rw[Pat.ok_iff];exact⟨by simp[anyP,Pat.kids],trivial⟩⟩
theorem zui {f:Ty→Nat→Pat×Nat}{k:Nat}:∀(l:List Ty) (q:Nat),(∀t∈l,∀q,(f t q).1.size≤k∧(f t q).1.ok)→Pats.size (dA f l q).1≤l.length*k∧Pats.ok (dA f l q).1
 | [],q,_=>by simp[dA,Pats.size,Pats.ok]
 |t::r,q,h=>by
  have h1:=h t (by simp) q
  have h2:=zui r (f t q).2 (fun x hx=>h x (by simp[hx]))
  simp only[dA,List.length_cons,Nat.add_mul,Pats.size]
  exact⟨by omega,h1.2,h2.2⟩
theorem zkE {b:Str}{w:List Data} (hf:Few w):∀(d:Nat) (t:Ty) (p:Nat),TyIn w.length t→(zaC b w d t p).1.size≤szP d∧(zaC b w d t p).1.ok
 |0,t,p,_=>by simp only[zaC,szP];have:=zmC;exact⟨by omega,this.2⟩
 |d+1,⟨a,k⟩,p,ht=>by
  have ih:=fun t p ht=>zkE (b:=b) hf d t p ht
  have ha:=zmC
  have hp:=zu6 d
  simp only[szP]
  by_cases c1:d=0
  ·rw[zqz c1];exact⟨by dsimp only;omega,ha.2⟩
  by_cases c2:zay b p 4=0
  ·rw[zqA c1 c2];exact⟨by dsimp only;omega,ha.2⟩
  by_cases c3:zay b (p+1) 6=0
  ·rw[zqB c1 c2 c3]
   have h1:=ih ⟨a,k⟩ (p+2) ht
   have h2:=ih ⟨a,k⟩ (zaC b w d ⟨a,k⟩ (p+2)).2 ht
   refine⟨?_, ?_⟩
   ·dsimp only;rw[Pat.size_eq];simp only[Pat.kids,Pats.size];omega
   ·dsimp only;rw[Pat.ok_iff];exact⟨by simp[Pat.kids],h1.2,h2.2,trivial⟩
  by_cases c4:a = -1
  ·rw[zqC c1 c2 c3 c4]
   refine⟨?_, ?_⟩
   ·dsimp only;rw[Pat.size_eq];simp only[Pat.kids,Pats.size];omega
   ·dsimp only;rw[Pat.ok_iff];exact⟨by simp[Pat.kids],trivial⟩
  by_cases c5:(zah w ⟨a,k⟩).length=0
  ·rw[zqD c1 c2 c3 c4 c5];exact⟨by dsimp only;omega,ha.2⟩
  ·rw[zqE c1 c2 c3 c4 c5 rfl]
   have hm:=zix (b:=b) (p:=p+2) c5
   have h3:=hf ⟨a,k⟩ _ hm ht
   have h1:=zui (f:=zaC b w d) (k:=szP d) _ (p+3) (fun u hu q=>ih u q (h3.2 u hu))
   have h2:=zso (f:=zaC b w d) (zaa w ⟨a,k⟩ (nth (zah w ⟨a,k⟩) (zay b (p+2) (zah w ⟨a,k⟩).length).toNat)) (p+3)
   have h4:(zaa w ⟨a,k⟩ (nth (zah w ⟨a,k⟩) (zay b (p+2) (zah w ⟨a,k⟩).length).toNat)).length*szP d≤3*szP d:=Nat.mul_le_mul_right _ h3.1
   refine⟨?_, ?_⟩
   ·dsimp only;rw[Pat.size_eq];simp only[Pat.kids];omega
   ·dsimp only;rw[Pat.ok_iff];exact⟨by simp only[Pat.kids];omega,h1.2⟩
theorem zkX {b:Str}{p:Nat}{l:List Int} (h:1≤l.length):numV b p l∈l:=by
 have:=zcO (b:=b) (p:=p) (n:=(l.length:Int)) (by omega)
 exact zae (by omega)
theorem num4 (b:Str) (p:Nat):1≤numV b p [3,2,4,1]∧numV b p [3,2,4,1]≤4:=by
 have:=zkX (b:=b) (p:=p) (l:=[3,2,4,1]) (by simp)
 simp only[List.mem_cons,List.not_mem_nil,or_false] at this
 omega
theorem zpS {d:Nat} (h:d≤4):szP d≤121∧bdP d≤200:=by
 have:d=0∨d=1∨d=2∨d=3∨d=4:=by omega
 rcases this with rfl|rfl|rfl|rfl|rfl<;>decide
def zcP (b:Str) (w:List Data) (t:Ty) (p:Nat):Pat×Int×Nat:=
 namP b (zaC b w (numV b p [3,2,4,1]).toNat t (p+1)).1.size (zaC b w (numV b p [3,2,4,1]).toNat t (p+1)).1 0 (zaC b w (numV b p [3,2,4,1]).toNat t (p+1)).2
def zbV (b:Str) (w:List Data) (t:Ty) (p:Nat):Pat:=if isP w t (zcP b w t p).1 then (zcP b w t p).1 else anyP
theorem zjD {b:Str}{w:List Data} (hf:Few w){t:Ty} (ht:TyIn w.length t) (p:Nat):(zcP b w t p).2.2≤p+500∧(zcP b w t p).1.size≤242∧(zcP b w t p).1.ok:=by
 have h4:=num4 b p
 have hs:=zpS (d:=(numV b p [3,2,4,1]).toNat) (by omega)
 have h1:=zkE (b:=b) hf (numV b p [3,2,4,1]).toNat t (p+1) ht
 have h2:=zig (b:=b) hf (numV b p [3,2,4,1]).toNat t (p+1) ht
 have h3:=zmT (b:=b) (zaC b w (numV b p [3,2,4,1]).toNat t (p+1)).1.size (zaC b w (numV b p [3,2,4,1]).toNat t (p+1)).1 0 (zaC b w (numV b p [3,2,4,1]).toNat t (p+1)).2 (by omega) (by omega)
 obtain⟨_,_,n3,n4,n5⟩:=h3
 exact⟨by unfold zcP;omega,by unfold zcP;omega,n5 h1.2⟩
theorem zmd {b:Str}{w:List Data} (hf:Few w){t:Ty} (ht:TyIn w.length t) (p:Nat):(zbV b w t p).size≤242∧(zbV b w t p).ok:=by
 have h:=zjD (b:=b) hf ht p
 have ha:=zmC
 unfold zbV
 split
 ·exact⟨h.2.1,h.2.2⟩
 ·exact⟨by omega,ha.2⟩
theorem zh2 {b:Str}{w:List Data} (hb:b.length≤2000) (hw:WT w) (hf:Few w){a k:Int}{p:Nat} (hp:p≤100000) (ht:TyIn w.length ⟨a,k⟩):
  FnD Tryz.prog 72 [.ref 900 0,.d (zam w),.agg [.d (.i a),.d (.i k)]] [(900,some (rdB b p))]
   (.agg [.d (.i (zbV b w ⟨a,k⟩ p).op),.d (.i (zbV b w ⟨a,k⟩ p).ctor),.d (.i (zbV b w ⟨a,k⟩ p).n),.d (.i (zbV b w ⟨a,k⟩ p).m),.d (.i (zbV b w ⟨a,k⟩ p).var),.d (zad (zbV b w ⟨a,k⟩ p).kids)]) [(900,some (rdB b (zcP b w ⟨a,k⟩ p).2.2))]:=by
 have h4:=num4 b p
 have hs:=zpS (d:=(numV b p [3,2,4,1]).toNat) (by omega)
 have h1:=zkE (b:=b) hf (numV b p [3,2,4,1]).toNat ⟨a,k⟩ (p+1) ht
 have h2:=zig (b:=b) hf (numV b p [3,2,4,1]).toNat ⟨a,k⟩ (p+1) ht
 have hr:=zjD (b:=b) hf ht p
 have hnum:=zcE (b:=b) (p:=p) (l:=[3,2,4,1]) hb (by omega) (by simp) (by simp)
 have hdr:=zeh hb hw hf (numV b p [3,2,4,1]).toNat (a:=a) (k:=k) (m:=numV b p [3,2,4,1]) (p:=p+1) (by omega) (by omega) (by omega) (by omega) ht
 have hnm:=zfC hb (zaC b w (numV b p [3,2,4,1]).toNat ⟨a,k⟩ (p+1)).1.size (m:=0) (q:=(zaC b w (numV b p [3,2,4,1]).toNat ⟨a,k⟩ (p+1)).2) (Nat.le_refl _) h1.2 (by omega) (by omega) (by omega)
 have hsp:zbV b w ⟨a,k⟩ p=if isP w ⟨a,k⟩ (zcP b w ⟨a,k⟩ p).1 then (zcP b w ⟨a,k⟩ p).1 else anyP:=rfl
 rw[show namP b (zaC b w (numV b p [3,2,4,1]).toNat ⟨a,k⟩ (p+1)).1.size (zaC b w (numV b p [3,2,4,1]).toNat ⟨a,k⟩ (p+1)).1 0 (zaC b w (numV b p [3,2,4,1]).toNat ⟨a,k⟩ (p+1)).2=zcP b w ⟨a,k⟩ p from rfl] at hnm
 generalize numV b p [3,2,4,1]=m at *
 refine bd Tryz.f72 28 [] [] fun w0 F0 own kept hk=>?_
 refine bx 3005 ?_
 refine ab 3006 tz28 ?_
 refine tv ?_
 refine si [0,1,2,3] [_,_,_,_] sl62 tz3 ?_
 refine wd zhb (hnum) rfl rfl ⟨rfl,trivial⟩ ?_
 refine wd zle (hdr) rfl rfl ⟨rfl,trivial⟩ ?_
 refine wd zoI (hnm) rfl rfl ⟨rfl,trivial⟩ ?_
 refine evd [] [] ?_
 refine ab 3007 tz28 ?_
 refine so ty28 ?_
 refine evd [] [] ?_
 refine dr ?_
 refine wc zi4 (zd0 hw ht hr.2.2 (by omega)) rfl rfl ?_
 refine ev ?_
 refine sq (fun h1 h1p h1s=>?_) fun h1 h1p h1s=>?_
 refine bu [0] [_] st28 ?_
 refine so ty28 ?_
 refine tv ?_
 refine rn [(900,some (rdB b (zcP b w ⟨a,k⟩ p).2.2))] (.cons (.cellA ty28 rfl rfl rfl) .nil) (.agg (.cons (.eqd ?_) (.cons (.eqd ?_) (.cons (.eqd ?_) (.cons (.eqd ?_) (.cons (.eqd ?_) (.cons (.nild ?_) .nil))))))) ⟨rfl,rfl⟩ (SubO.get ⟨.inr ?_,⟨.inl rfl,trivial⟩⟩) (zaF rfl)
 rotate_left 7
 refine so ty28 ?_
 refine tv ?_
 refine rn [(900,some (rdB b (zcP b w ⟨a,k⟩ p).2.2))] (.cons (.cellA ty28 rfl rfl rfl) .nil) (.agg (.cons (.eqd ?_) (.cons (.eqd ?_) (.cons (.eqd ?_) (.cons (.eqd ?_) (.cons (.eqd ?_) (.cons (.eqd ?_) .nil))))))) ⟨rfl,rfl⟩ (SubO.get ⟨.inr ?_,⟨.inl rfl,trivial⟩⟩) (zaF rfl)
 rotate_left 7
 all_goals (first|((first|(rw[hsp,if_neg (by rw[h1s];simp)];all_goals rfl)|(rw[hsp,if_pos h1s];all_goals rfl));done)|(rfl))
theorem zoi:FnD Tryz.prog 135 [] [] (.agg [.d (.i 1),.d (.i 0),.d (.i 0),.d (.i 0),.d (.i 0),.d (.sl [])]) []:=by
 refine bd Tryz.f135 2 [] [] fun w0 F0 own kept hk=>?_
 refine ab 3000 tz28 ?_
 refine tv ?_
 refine bu [0] [_] st28 ?_
 refine so ty28 ?_
 refine tv ?_
 focus (refine rn0 (.cons (.cellA ty28 rfl rfl rfl) .nil) (.agg (.cons (.eqd ?_) (.cons (.eqd ?_) (.cons (.eqd ?_) (.cons (.eqd ?_) (.cons (.eqd ?_) (.cons (.nild ?_) .nil)))))));all_goals (first|rfl|(simp[];done)|(simp_all;done)|(simp_all;omega)|omega))
section
variable {c:Ctx}{all:Array Oper}{chk:List Rec→Prop}{os:List Oper}{recs:List Rec}{env:Env}{hp:Hp}{Q:St→Prop}
variable {d ty:Nat}{pos:String}{af:Array Edge}{g:Option (Nat×Bool)}{pg:List (Nat×AV)}{t yt:TypeId}{x y:Operand}
theorem Walk.appendM {id k e yb:Nat}{xs ys:List (List D)}{vy:AV}{ids:List Nat} (hkp:KeptIn c.kept ids) (hid:za4 id ids=false) (hne:xs++ys≠[]) (ht:SlT c.P t e k yb) (hz:ZeroT c.P e k) (hg:GH all env g pg) (hd:Nat.blt d c.n=true)
  (hx:opd env x=some (.gv id xs)) (hy:opd env y=some vy) (hyd:vy.toD=some (.sl ys)) (htok:getH hp id=some (.tok xs.length k)) (hky:∀y,y∈ys→y.length=k)
  (hb:(xs.length+ys.length)*yb≤140737488355328) (hm:xs.length+ys.length≤9223372036854775807)
  (hn:Walk c all chk os (zao (pg++(opF x (.gv id xs)++opF y vy)) [(id,.tok xs.length k)] [] ⟨some (d,.ms id (xs++ys).length),[(id,some (.box ((xs++ys).flatten.map .d)))]⟩::recs)
   ⟨(d,.ms id (xs++ys).length)::env,(id,some (.box ((xs++ys).flatten.map .d)))::hp⟩ Q):
  Walk c all chk (⟨some d,.call ⟨.builtin .append,#[x,y],#[t,t]⟩,ty,pos,af,g⟩::os) recs ⟨env,hp⟩ Q:=by
 refine⟨pg++(opF x (.gv id xs)++opF y vy),[(id,.tok xs.length k)],[],_, ?_,zaz hg.facts (zaz (za5 hx) (za5 hy)),hh1 htok,by simp,hn⟩
 intro s a w hrel hp' hh _ K Q' hK
 obtain⟨G,hr⟩:=hrel
 have e1:=hr.opd (za6 hx (fun p hm=>hp' p (by simp[hm])))
 have e2:=hr.opd (za6 hy (fun p hm=>hp' p (by simp[hm])))
 obtain⟨i,z,z1,z2,z3⟩:=hz.out
 obtain⟨v',w',G',hrun,hR,hA⟩:=zi2 hr ht ⟨i,z1,z2,z3⟩ (hh1' hh) e1 (e2.toD hyd) hky hb hm ty
 unfold wpO
 rw[if_pos (hg.gf.wanted hr (fun p hm=>hp' p (by simp[hm])))]
 unfold Oper.wp
 have:(execOp a.eval ⟨some d,.call ⟨.builtin .append,#[x,y],#[t,t]⟩,ty,pos,af,g⟩).run c.P w = .ok (.value v') w':=by
  simp only[execOp,resolve,invoke,builtin,Sem.run_bind,Sem.run_pure,Result.andThen_ok,List.map_toArray,List.map_cons,List.map_nil,hrun]
 rw[this,Oper.upon_value]
 have hV:Rel c ⟨(d,.gv id (xs++ys))::s.env,(id,some (.tok (xs.length+ys.length) k))::s.hp⟩ (a.put (some d) v') w':=⟨G',hR.put hA hd⟩
 rcases Rel.fixV hkp d id k (xs:=xs++ys) (by simp[getE]) (by rw[zaj,if_pos rfl,List.length_append]) hid hV with ⟨h,_⟩|⟨_,h⟩
 ·exact absurd h hne
 ·refine hK _ _ (h.congr (fun j=>?_) (fun j=>?_))
  ·show getE ((d,_)::s.env) j=getE ((d,_)::(d,_)::s.env) j
   simp only[getE]
   cases Nat.beq d j<;>rfl
  ·show getH ((id,_)::s.hp) j=getH ((id,_)::(id,_)::s.hp) j
   rw[zaj,zaj,zaj]
   by_cases hj:j=id
   ·rw[if_pos hj,if_pos hj]
   ·rw[if_neg hj,if_neg hj,if_neg hj]
end
def zcB:Pat:=⟨2,0,0,0,0,[]⟩
def mutP (b:Str) (p:Pat) (q:Nat):Pat×Nat:=
 if zay b q 30=0 then (⟨numV b (q+1) [0,7,1,2,5],p.ctor,p.n,p.m,p.var,p.kids⟩,q+2)
 else if zay b q 30=1 then (⟨p.op,p.ctor,p.n,p.m,numV b (q+1) [6,-1,1],p.kids⟩,q+2)
 else if zay b q 30=2 then (⟨p.op,numV b (q+1) [9,-1,1],p.n,p.m,p.var,p.kids⟩,q+2)
 else if zay b q 30=3 then (⟨p.op,p.ctor,p.n,p.m,p.var,p.kids++[zcB]⟩,q+1)
 else if zay b q 30=4 then (⟨p.op,p.ctor,p.n,p.m,p.var,p.kids.set 0 zcB⟩,q+1)
 else if zay b q 30=5 then (⟨p.op,p.ctor,numV b (q+1) [10,-1,5],p.m,p.var,p.kids⟩,q+2)
 else (⟨p.op,p.ctor,p.n,p.m,p.var,p.kids⟩,q+1)
theorem put0 {l:List (List D)}{x:List D}{r:List (List D)}{v:List AV} (h:l=x::r) (hx:x.length=v.length):putC (l.flatten.map .d) 0 v=some (v++r.flatten.map .d):=by
 subst h
 rw[List.flatten_cons,List.map_append]
 have key:∀(a b:List AV),a.length=b.length→∀(c:List AV),putC (a++c) 0 b=some (b++c):=by
  intro a
  induction a with
  |nil=>intro b h c;cases b with
   |nil=>cases c<;>rfl
   |cons=>simp at h
  |cons y a ih=>intro b h c;cases b with
   |nil=>simp at h
   |cons z b=>
    have:=ih b (by simpa using h) c
    simp only[List.cons_append,putC,this]
 exact key _ _ (by simpa using hx) _
theorem zvW {k:Nat}{v:List AV}{vd:List D}{r:List (List D)} (hv:toDL v=some vd) (hk:v.length=k) (hr:∀x∈r,x.length=k):zbS (r.length+1) k (v++r.flatten.map .d)=some (vd::r):=by
 have h1:cutC (v++r.flatten.map .d) 0 k=some v:=zno hk
 have h2:(v++r.flatten.map AV.d).drop k=r.flatten.map .d:=by rw[←hk];simp
 have h3:=zem (f:=fun x:List D=>x) (k:=k) (l:=r) hr
 have h4:(r.flatMap fun x=>x.map AV.d)=r.flatten.map .d:=by rw[List.map_flatten];rfl
 rw[h4,List.map_id'] at h3
 simp only[zbS,h1,hv,h2,h3]
theorem Pat.cs_app (a b:List Pat):Pat.cs (a++b)=Pat.cs a++Pat.cs b:=by
 rw[Pat.cs_cc,Pat.cs_cc,Pat.cs_cc,List.map_append]
theorem zmo {b:Str} (hb:b.length≤2000){p:Pat}{q:Nat} (hq:q≤1000000) (hok:p.ok) (hc4:¬(zay b q 30=4∧p.kids≠[])):
  FnD Tryz.prog 90 [.ref 900 0,.agg [.d (.i p.op),.d (.i p.ctor),.d (.i p.n),.d (.i p.m),.d (.i p.var),.d (zad p.kids)]] [(900,some (rdB b q))]
   (.agg [.d (.i (mutP b p q).1.op),.d (.i (mutP b p q).1.ctor),.d (.i (mutP b p q).1.n),.d (.i (mutP b p q).1.m),.d (.i (mutP b p q).1.var),.d (zad (mutP b p q).1.kids)]) [(900,some (rdB b (mutP b p q).2))]:=by
 rw[Pat.ok_iff] at hok
 have hkl:=Pat.cs_len p.kids
 refine bd Tryz.f90 57 [] [] fun w0 F0 own kept hk=>?_
 refine bx 3003 ?_
 refine ab 3004 tz28 ?_
 refine tv ?_
 refine ab 3005 tz28 ?_
 refine so ty28 ?_
 refine tv ?_
 refine Walk.sliceEmptyG 1 sl26 .none rfl rfl ?_
 refine ev ?_
 refine ap sl26 zz28 rfl rfl rfl (by(intro x hx;exact Pat.cs_rows x hx)) (by simp[Pat.cs_len];omega) ?_
 refine ev ?_
 refine so ty26 ?_
 refine tv ?_
 refine wd zdf (zbg (p:=q) (n:=30) hb (by omega) (by omega)) rfl rfl ⟨rfl,trivial⟩ ?_
 refine tv ?_
 refine sq (fun h1 h1p h1s=>?_) fun h1 h1p h1s=>?_
 try simp only[Q,Pat.cs_len] at h1p
 refine si [0,1,2,3,4] [_,_,_,_,_] sl62 tz3 ?_
 refine wd zhb (zcE (p:=q+1) (l:=[0,7,1,2,5]) hb (by omega) (by simp) (by simp)) rfl rfl ⟨rfl,trivial⟩ ?_
 refine ev ?_
 refine so ty3 ?_
 refine tv ?_
 refine so ty28 ?_
 refine tv ?_
 refine rn [(900,some (rdB b (mutP b p q).2))] (.cons (.cellA ty28 rfl rfl rfl) .nil) (.agg (.cons (.eqd ?_) (.cons (.eqd ?_) (.cons (.eqd ?_) (.cons (.eqd ?_) (.cons (.eqd ?_) (.cons (.gld ?_) .nil))))))) ⟨rfl,rfl⟩ (SubO.get ⟨.inr ?_,⟨.inl rfl,trivial⟩⟩) (zaF rfl)
 rotate_left 7
 try simp only[Q,Pat.cs_len] at h1p
 refine sq (fun h2 h2p h2s=>?_) fun h2 h2p h2s=>?_
 try simp only[Q,Pat.cs_len] at h2p
 refine si [0,1,2] [_,_,_] sl62 tz3 ?_
 refine wd zhb (zcE (p:=q+1) (l:=[6,-1,1]) hb (by omega) (by simp) (by simp)) rfl rfl ⟨rfl,trivial⟩ ?_
 refine ev ?_
 refine so ty3 ?_
 refine tv ?_
 refine so ty28 ?_
 refine tv ?_
 refine rn [(900,some (rdB b (mutP b p q).2))] (.cons (.cellA ty28 rfl rfl rfl) .nil) (.agg (.cons (.eqd ?_) (.cons (.eqd ?_) (.cons (.eqd ?_) (.cons (.eqd ?_) (.cons (.eqd ?_) (.cons (.gld ?_) .nil))))))) ⟨rfl,rfl⟩ (SubO.get ⟨.inr ?_,⟨.inl rfl,trivial⟩⟩) (zaF rfl)
 rotate_left 7
 try simp only[Q,Pat.cs_len] at h2p
 refine sq (fun h3 h3p h3s=>?_) fun h3 h3p h3s=>?_
 try simp only[Q,Pat.cs_len] at h3p
 refine si [0,1,2] [_,_,_] sl62 tz3 ?_
 refine wd zhb (zcE (p:=q+1) (l:=[9,-1,1]) hb (by omega) (by simp) (by simp)) rfl rfl ⟨rfl,trivial⟩ ?_
 refine ev ?_
 refine so ty3 ?_
 refine tv ?_
 refine so ty28 ?_
 refine tv ?_
 refine rn [(900,some (rdB b (mutP b p q).2))] (.cons (.cellA ty28 rfl rfl rfl) .nil) (.agg (.cons (.eqd ?_) (.cons (.eqd ?_) (.cons (.eqd ?_) (.cons (.eqd ?_) (.cons (.eqd ?_) (.cons (.gld ?_) .nil))))))) ⟨rfl,rfl⟩ (SubO.get ⟨.inr ?_,⟨.inl rfl,trivial⟩⟩) (zaF rfl)
 rotate_left 7
 try simp only[Q,Pat.cs_len] at h3p
 refine sq (fun h4 h4p h4s=>?_) fun h4 h4p h4s=>?_
 try simp only[Q,Pat.cs_len] at h4p
 refine bu [0] [_] st28 ?_
 refine si [0] [_] sl26 tz28 ?_
 refine ap sl26 zz28 rfl rfl rfl (by(intro x hx;simp only[List.mem_singleton] at hx;subst hx;rfl)) (by simp[Pat.cs_len];omega) ?_
 refine ev ?_
 refine so ty26 ?_
 refine tv ?_
 refine so ty28 ?_
 refine tv ?_
 refine rn [(900,some (rdB b (mutP b p q).2))] (.cons (.cellA ty28 rfl rfl rfl) .nil) (.agg (.cons (.eqd ?_) (.cons (.eqd ?_) (.cons (.eqd ?_) (.cons (.eqd ?_) (.cons (.eqd ?_) (.cons (.gld ?_) .nil))))))) ⟨rfl,rfl⟩ (SubO.get ⟨.inr ?_,⟨.inl rfl,trivial⟩⟩) (zaF rfl)
 rotate_left 7
 try simp only[Q,Pat.cs_len] at h4p
 refine sq (fun h5 h5p h5s=>?_) fun h5 h5p h5s=>?_
 try simp only[Q,Pat.cs_len] at h5p
 refine sq (fun h6 h6p h6s=>?_) fun h6 h6p h6s=>?_
 try simp only[Q,Pat.cs_len] at h6p
 exfalso;apply hc4;refine⟨by omega,fun hh=>?_⟩;rw[hh] at h6p;exact absurd h6p (by decide)
 try simp only[Q,Pat.cs_len] at h6p
 refine so ty28 ?_
 refine tv ?_
 refine rn [(900,some (rdB b (mutP b p q).2))] (.cons (.cellA ty28 rfl rfl rfl) .nil) (.agg (.cons (.eqd ?_) (.cons (.eqd ?_) (.cons (.eqd ?_) (.cons (.eqd ?_) (.cons (.eqd ?_) (.cons (.gld ?_) .nil))))))) ⟨rfl,rfl⟩ (SubO.get ⟨.inr ?_,⟨.inl rfl,trivial⟩⟩) (zaF rfl)
 rotate_left 7
 try simp only[Q,Pat.cs_len] at h5p
 refine sq (fun h7 h7p h7s=>?_) fun h7 h7p h7s=>?_
 try simp only[Q,Pat.cs_len] at h7p
 refine si [0,1,2] [_,_,_] sl62 tz3 ?_
 refine wd zhb (zcE (p:=q+1) (l:=[10,-1,5]) hb (by omega) (by simp) (by simp)) rfl rfl ⟨rfl,trivial⟩ ?_
 refine ev ?_
 refine so ty3 ?_
 refine tv ?_
 refine so ty28 ?_
 refine tv ?_
 refine rn [(900,some (rdB b (mutP b p q).2))] (.cons (.cellA ty28 rfl rfl rfl) .nil) (.agg (.cons (.eqd ?_) (.cons (.eqd ?_) (.cons (.eqd ?_) (.cons (.eqd ?_) (.cons (.eqd ?_) (.cons (.gld ?_) .nil))))))) ⟨rfl,rfl⟩ (SubO.get ⟨.inr ?_,⟨.inl rfl,trivial⟩⟩) (zaF rfl)
 rotate_left 7
 try simp only[Q,Pat.cs_len] at h7p
 refine so ty28 ?_
 refine tv ?_
 refine rn [(900,some (rdB b (mutP b p q).2))] (.cons (.cellA ty28 rfl rfl rfl) .nil) (.agg (.cons (.eqd ?_) (.cons (.eqd ?_) (.cons (.eqd ?_) (.cons (.eqd ?_) (.cons (.eqd ?_) (.cons (.gld ?_) .nil))))))) ⟨rfl,rfl⟩ (SubO.get ⟨.inr ?_,⟨.inl rfl,trivial⟩⟩) (zaF rfl)
 rotate_left 7
 all_goals (((unfold mutP;first|(rw[if_pos (by omega)];all_goals first|rfl|(show _=Pat.cs (p.kids++[zcB]);rw[Pat.cs_app];all_goals rfl))|(rw[if_neg (by omega),if_pos (by omega)];all_goals first|rfl|(show _=Pat.cs (p.kids++[zcB]);rw[Pat.cs_app];all_goals rfl))|(rw[if_neg (by omega),if_neg (by omega),if_pos (by omega)];all_goals first|rfl|(show _=Pat.cs (p.kids++[zcB]);rw[Pat.cs_app];all_goals rfl))|(rw[if_neg (by omega),if_neg (by omega),if_neg (by omega),if_pos (by omega)];all_goals first|rfl|(show _=Pat.cs (p.kids++[zcB]);rw[Pat.cs_app];all_goals rfl))|(have hnk:p.kids=[]:=(by rcases hke:p.kids with _|⟨y,r⟩;rfl;exact absurd ⟨by omega,by rw[hke];simp⟩ hc4);rw[if_neg (by omega),if_neg (by omega),if_neg (by omega),if_neg (by omega),if_pos (by omega),hnk];all_goals rfl)|(rw[if_neg (by omega),if_neg (by omega),if_neg (by omega),if_neg (by omega),if_pos (by omega)];all_goals first|rfl|(show _=Pat.cs (p.kids++[zcB]);rw[Pat.cs_app];all_goals rfl))|(rw[if_neg (by omega),if_neg (by omega),if_neg (by omega),if_neg (by omega),if_neg (by omega),if_pos (by omega)];all_goals first|rfl|(show _=Pat.cs (p.kids++[zcB]);rw[Pat.cs_app];all_goals rfl))|(rw[if_neg (by omega),if_neg (by omega),if_neg (by omega),if_neg (by omega),if_neg (by omega),if_neg (by omega)];all_goals first|rfl|(show _=Pat.cs (p.kids++[zcB]);rw[Pat.cs_app];all_goals rfl)));done))
theorem zmp {b:Str} (hb:b.length≤2000){p:Pat}{q:Nat} (hq:q≤1000000) (hok:p.ok) (hc4:zay b q 30=4){y:Pat}{r:List Pat} (hk4:p.kids=y::r):
  FnD Tryz.prog 90 [.ref 900 0,.agg [.d (.i p.op),.d (.i p.ctor),.d (.i p.n),.d (.i p.m),.d (.i p.var),.d (zad p.kids)]] [(900,some (rdB b q))]
   (.agg [.d (.i (mutP b p q).1.op),.d (.i (mutP b p q).1.ctor),.d (.i (mutP b p q).1.n),.d (.i (mutP b p q).1.m),.d (.i (mutP b p q).1.var),.d (zad (mutP b p q).1.kids)]) [(900,some (rdB b (mutP b p q).2))]:=by
 rw[Pat.ok_iff] at hok
 have hkl:=Pat.cs_len p.kids
 have hcs:Pat.cs p.kids=y.cc::Pat.cs r:=by rw[Pat.cs_cc,hk4,List.map_cons,←Pat.cs_cc]
 have hrl:(Pat.cs p.kids).length=(Pat.cs r).length+1:=by rw[hcs];rfl
 have hmu:mutP b p q=(⟨p.op,p.ctor,p.n,p.m,p.var,zcB::r⟩,q+1):=by
  unfold mutP;rw[if_neg (by omega),if_neg (by omega),if_neg (by omega),if_neg (by omega),if_pos hc4,hk4];rfl
 refine bd Tryz.f90 57 [] [17] fun w0 F0 own kept hk=>?_
 refine bx 3003 ?_
 refine ab 3004 tz28 ?_
 refine tv ?_
 refine ab 3005 tz28 ?_
 refine so ty28 ?_
 refine tv ?_
 refine Walk.sliceEmptyGV 1 sl26 .none rfl rfl ?_
 refine ev ?_
 refine Walk.appendM hk rfl (by rw[hcs];simp) sl26 zz28 .none rfl rfl rfl rfl (zgm rfl (by rfl)) (by intro x hx;exact Pat.cs_rows x hx) (by simp[Pat.cs_len];omega) (by simp[Pat.cs_len];omega) ?_
 refine ev ?_
 refine so ty26 ?_
 refine tv ?_
 refine wd zdf (zbg (p:=q) (n:=30) hb (by omega) (by omega)) rfl rfl ⟨rfl,trivial⟩ ?_
 refine tv ?_
 refine sq (fun h1 h1p h1s=>?_) fun h1 h1p h1s=>?_
 try simp only[Q,Pat.cs_len] at h1p
 exfalso;omega
 try simp only[Q,Pat.cs_len] at h1p
 refine sq (fun h2 h2p h2s=>?_) fun h2 h2p h2s=>?_
 try simp only[Q,Pat.cs_len] at h2p
 exfalso;omega
 try simp only[Q,Pat.cs_len] at h2p
 refine sq (fun h3 h3p h3s=>?_) fun h3 h3p h3s=>?_
 try simp only[Q,Pat.cs_len] at h3p
 exfalso;omega
 try simp only[Q,Pat.cs_len] at h3p
 refine sq (fun h4 h4p h4s=>?_) fun h4 h4p h4s=>?_
 try simp only[Q,Pat.cs_len] at h4p
 exfalso;omega
 try simp only[Q,Pat.cs_len] at h4p
 refine sq (fun h5 h5p h5s=>?_) fun h5 h5p h5s=>?_
 try simp only[Q,Pat.cs_len] at h5p
 refine sq (fun h6 h6p h6s=>?_) fun h6 h6p h6s=>?_
 try simp only[Q,Pat.cs_len] at h6p
 refine bu [0] [_] st28 ?_
 refine Walk.idxM (i:=0) sl26 .none rfl rfl rfl rfl (by simp;omega) ?_
 refine Walk.store ty28 .none rfl rfl rfl rfl rfl rfl (by simp) ((put0 hcs rfl)) ?_
 refine tv ?_
 refine CWp.frzC hk 3005 5 1 _ 6 rfl rfl rfl rfl rfl (by rw[List.nil_append,hrl];exact zvW rfl rfl (fun x hx=>Pat.cs_rows x hx)) rfl ?_
 refine evc [] [] ?_
 refine so ty28 ?_
 refine tv ?_
 refine rn [(900,some (rdB b (mutP b p q).2))] (.cons (.cellA ty28 rfl rfl rfl) .nil) (.agg (.cons (.eqd ?_) (.cons (.eqd ?_) (.cons (.eqd ?_) (.cons (.eqd ?_) (.cons (.eqd ?_) (.cons (.eqd ?_) .nil))))))) ⟨rfl,rfl⟩ (SubO.get ⟨.inr ?_,⟨.inl rfl,trivial⟩⟩) (zaF rfl)
 rotate_left 7
 try simp only[Q,Pat.cs_len] at h6p
 exfalso;rw[List.nil_append,hrl] at h6p;omega
 try simp only[Q,Pat.cs_len] at h5p
 exfalso;omega
 all_goals (((rw[hmu];all_goals rfl);done))
theorem zk3 {b:Str} (hb:b.length≤2000){p:Pat}{q:Nat} (hq:q≤1000000) (hok:p.ok):
  FnD Tryz.prog 90 [.ref 900 0,.agg [.d (.i p.op),.d (.i p.ctor),.d (.i p.n),.d (.i p.m),.d (.i p.var),.d (zad p.kids)]] [(900,some (rdB b q))]
   (.agg [.d (.i (mutP b p q).1.op),.d (.i (mutP b p q).1.ctor),.d (.i (mutP b p q).1.n),.d (.i (mutP b p q).1.m),.d (.i (mutP b p q).1.var),.d (zad (mutP b p q).1.kids)]) [(900,some (rdB b (mutP b p q).2))]:=by
 by_cases h:zay b q 30=4∧p.kids≠[]
 ·cases hk:p.kids with
  |nil=>exact absurd hk h.2
  |cons y r=>rw[←hk];exact zmp hb hq hok h.1 hk
 ·exact zmo hb hq hok h
theorem FnD.boxD {P:Program}{f:FuncId}{i n k:Nat}{args:List AV}{cs:List AV}{es:List (List D)} (hc:zbS n k (cs.take (n*k))=some es) (h:FnD P f args [] (.ms i n) [(i,some (.box cs))]):FnD P f args [] (.d (.sl es)) []:=by
 intro G w vals hok
 refine(h G w vals hok).mono ?_
 rintro e w' ⟨v,r',hp',G',rfl,⟨rfl,rfl⟩,hret⟩
 have gi:getH ([(i,some (Res.box cs))]++[]) i=some (.box cs):=by simp[getH]
 obtain⟨b,us,et,q1,q2,q3,q4,q5⟩:=hret.heap i _ gi
 have hown:∀b,b∉zcN G []:=fun b hb=>by simp[zcN] at hb
 have hnew:w.heap.size≤b:=(hret.new i (by rw[gi];rfl) b (by rw[q1];simp)).resolve_left (hown b)
 have hlt:b<w'.heap.size:=by
  rcases Nat.lt_or_ge b w'.heap.size with h|h
  ·exact h
  ·rw[Array.getElem?_eq_none h] at q2;cases q2
 let G2:Gh:={ G' with F:=fun x=>bif Nat.beq x b then us.size else G'.F x }
 have hin:G2.F b=us.size:=by simp[G2]
 have hout:∀x,x≠b→G2.F x=G'.F x:=fun x hx=>by
  have:Nat.beq x b=false:=by
   cases h:Nat.beq x b with
   |true=>exact absurd (Nat.eq_of_beq_eq_true h) hx
   |false=>rfl
  simp[G2,this]
 have hle:∀x o,o<G'.F x→o<G2.F x:=fun x o ho=>by
  by_cases hx:x=b
  ·subst hx;rw[q4] at ho;omega
  ·rw[hout x hx];exact ho
 refine⟨v,_,_,G2,rfl,⟨rfl,rfl⟩,zuM hret.res q1 q2 q3 q5 hin (fun y o ho=>⟨hle y o ho,rfl⟩) hc,fun id x hx=>(by cases hx),fun id id' h1=>(by cases h1),fun id h1=>(by cases h1), ?_,fun x hx=>?_,fun id hi=>(by simp[zbY,getH] at hi)⟩
 ·have hf:=hret.frm
  exact⟨hf.os,hf.tape,hf.output,hf.size,fun x hx hn=>⟨(hf.block x hx hn).1,by rw[hout x (by omega)];exact(hf.block x hx hn).2⟩,fun x o ho=>⟨hle x o (hf.cell x o ho).1,(hf.cell x o ho).2⟩⟩
 ·rw[hout x (by omega)];exact hret.top x hx
def pd (s:List Pat):List AV:=(s.map Pat.cc).flatten.map .d
theorem zeL (a b:List Pat):pd (a++b)=pd a++pd b:=by simp[pd]
theorem zl7 (x:Pat):pd [x]=[.d (.i x.op),.d (.i x.ctor),.d (.i x.n),.d (.i x.m),.d (.i x.var),.d (zad x.kids)]:=rfl
theorem zhW (s:List Pat):(pd s).length=s.length*6:=by
 induction s with
 |nil=>rfl
 |cons x r ih=>rw[show x::r=[x]++r from rfl,zeL,List.length_append,ih,zl7];simp;omega
theorem zps {s:List Pat}{i:Nat} (h:i<s.length):pd s=pd (s.take i)++(pd [nth s i]++pd (s.drop (i+1))):=by
 rw[←zeL,←zeL]
 congr 1
 rw[show [nth s i]++s.drop (i+1)=nth s i::s.drop (i+1) from rfl,←zaW h,List.take_append_drop]
theorem zhV (s:List Pat):AV.idsL (pd s)=[]:=by
 unfold pd
 induction (s.map Pat.cc).flatten with
 |nil=>rfl
 |cons x r ih=>rw[List.map_cons,AV.idsL,ih];rfl
theorem zsL {s:List Pat}{i:Nat} (h:i<s.length):cutC (pd s) (i*6) 6=some [.d (.i (nth s i).op),.d (.i (nth s i).ctor),.d (.i (nth s i).n),.d (.i (nth s i).m),.d (.i (nth s i).var),.d (zad (nth s i).kids)]:=by
 rw[zps h,zsn (by rw[zhW,List.length_take];omega) (r:=pd [nth s i])]
 ·rfl
 ·rw[zl7];first|exact zuE|(simp[cutC];done)
theorem zwa {s:List Pat}{i:Nat} (h:i<s.length){t:Pat}:putC (pd s) (i*6) [.d (.i t.op),.d (.i t.ctor),.d (.i t.n),.d (.i t.m),.d (.i t.var),.d (zad t.kids)]=some (pd (s.set i t)):=by
 rw[zps h,zsN (by rw[zhW,List.length_take];omega) (B':=pd [t]++pd (s.drop (i+1))) (by rw[zl7,zl7];simp[putC])]
 rw[List.set_eq_take_append_cons_drop,if_pos h,←zeL,←zeL]
 rfl
abbrev z6:List AV:=[.d (.i 0),.d (.i 0),.d (.i 0),.d (.i 0),.d (.i 0),.nils]
theorem zu0 {s:List Pat}{i n:Nat} (hn:s.length=n) (h:i≤n):putC (pd s) (i*6) (za8 (n-i) z6)=some (pd (s.take i)++za8 (n-i) z6):=by
 subst hn
 have e:pd s=pd (s.take i)++(pd (s.drop i)++[]):=by
  rw[List.append_nil,←zeL,List.take_append_drop]
 have e2:putC (pd (s.take i)++(pd (s.drop i)++[])) (i*6) (za8 (s.length-i) z6)=some (pd (s.take i)++(za8 (s.length-i) z6++[])):=by
  rw[ztH (by rw[zhW,List.length_take];omega) ?_]
  rw[zhW,List.length_drop,zei];rfl
 rw[←e,List.append_nil] at e2
 exact e2
theorem ztC {s:List Pat}{tl:List AV}:zbS s.length 6 ((pd s++tl).take (s.length*6))=some (s.map Pat.cc):=by
 rw[List.take_append_of_le_length (by rw[zhW];exact Nat.le_refl _),List.take_of_length_le (by rw[zhW];exact Nat.le_refl _)]
 have:=zem (f:=Pat.cc) (k:=6) (l:=s) (fun _ _=>rfl)
 rw[←this]
 congr 1
 unfold pd
 induction s with
 |nil=>rfl
 |cons x r ih=>
  simp only[List.map_cons,List.flatten_cons,List.map_append,List.flatMap_cons]
  exact congrArg (_++·) (ih (zem (fun _ _=>rfl)))
theorem Pat.cs_ccs (l:List Pat):Pat.cs l=l.map Pat.cc:=by
 rw[Pat.cs_eq];exact List.map_congr_left (fun v _=>Pat.c_eq v)
theorem Ex.cs_ccs (l:List Ex):Ex.cs l=l.map Ex.cc:=by
 rw[Ex.cs_eq];exact List.map_congr_left (fun v _=>Ex.c_eq v)
theorem zej {xs:List Pat}{f:Nat}{caps:List AV}{hp:Hp}{p:Pat→Bool} (hs:xs.length≤1000000000000) (hcal:Callee Tryz.prog f)
  (hf:∀t∈xs,FnD Tryz.prog f ([.agg [.d (.i t.op),.d (.i t.ctor),.d (.i t.n),.d (.i t.m),.d (.i t.var),.d (zad t.kids)]]++caps) hp (.d (.bool (p t))) []) (k1:subH hp hp) (k2:zed hp=true) (k3:zbf hp [] (.d .nilp) []=true):
  FnD Tryz.prog 152 [.d (zad xs),.fn f caps] hp (.d (.i (idxF p xs 0))) []:=by
 rw[show zad xs=D.sl (xs.map Pat.cc) by show D.sl (Pat.cs xs)=_;rw[Pat.cs_ccs]]
 refine bd Tryz.f152 19 [] [] fun w0 F0 own kept hk=>?_
 refine CWp.loopX (ι:=List (Pat)×List (Pat)) hk (fun x=>[(8,.d (.i (x.1.length:Int)))]) [4,5,9,10,11,12,13,14,15,16,17,18] (fun x=>[]) (fun x=>x.1++x.2=xs∧idxF p x.2 x.1.length=idxF p xs 0) (fun x=>x.2.length) ([],xs) ⟨by simp,rfl⟩ ⟨⟨_,rfl,LeA.eqi ?_⟩,trivial⟩ trivial (fun x=>zh9 hp) (fun x hg1=>?_)
 focus (first|rfl|(simp;done)|(simp_all;done)|omega)
 obtain⟨pre,rest⟩:=x
 dsimp only at hg1 ⊢
 refine evc [] [] ?_
 refine sq (fun h1 h1p h1s=>?_) fun h1 h1p h1s=>?_
 try simp only[Q] at h1p
 rcases rest with _|⟨y,rest⟩
 ·exfalso;simp_all
 refine Walk.idx sl26 .none rfl rfl rfl rfl (zaK hg1.1) rfl ?_
 refine ev ?_
 refine Walk.callV (cr:=[]) hcal (hf y (by rw[←hg1.1];simp)) rfl .none rfl rfl rfl (LeL.refl _) k1 k2 (zdA k3 _) rfl ?_
 refine tv ?_
 refine sq (fun h2 h2p h2s=>?_) fun h2 h2p h2s=>?_
 try simp only[Q] at h2p
 focus (refine rn [] (r1 rfl) (.eqd ?_) ⟨rfl,rfl⟩ (fun _ _ h=>h) (fun _ h=>h);all_goals (rw[←hg1.2];simp[idxF,h1s,h1p,h2s,h2p]))
 try simp only[Q] at h2p
 refine ar ?_
 refine Exists.intro ((pre++[y],rest)) ⟨⟨(by have hz:=hg1.1;rw[←hz];simp),(by rw[←hg1.2];simp[idxF,h2s])⟩,(by simp),Sub.x (by kernel_rfl) (by kernel_rfl) ⟨⟨_,rfl,LeA.eqi ?_⟩,trivial⟩ (by simp) (by simp[zdF]) trivial⟩
 focus (first|rfl|(simp;done)|(simp_all;done)|omega)
 try simp only[Q] at h1p
 have hrest:rest=[]:=by
  rcases rest with _|⟨a,b⟩
  ·rfl
  ·exfalso;have hz:=congrArg List.length (hg1.1);simp only[List.length_append,List.length_cons,List.length_map] at hz;omega
 subst hrest
 focus (refine rn [] (r1 rfl) (.eqd ?_) ⟨rfl,rfl⟩ (fun _ _ h=>h) (fun _ h=>h);all_goals (rw[←hg1.2];simp[idxF,h1s,h1p]))
theorem zgd {xs:List Pat}{f:Nat}{caps:List AV}{hp:Hp}{p:Pat→Bool} (hs:xs.length≤1000000000000) (hcal:Callee Tryz.prog f)
  (hf:∀t∈xs,FnD Tryz.prog f ([.agg [.d (.i t.op),.d (.i t.ctor),.d (.i t.n),.d (.i t.m),.d (.i t.var),.d (zad t.kids)]]++caps) hp (.d (.bool (p t))) []) (k1:subH hp hp) (k2:zed hp=true) (k3:zbf hp [] (.d .nilp) []=true):
  FnD Tryz.prog 94 [.d (zad xs),.fn f caps] hp (.d (.bool (xs.any p))) []:=by
 refine bd Tryz.f94 9 [] [] fun w0 F0 own kept hk=>?_
 refine Walk.call (cr:=[]) zlh (zej hs hcal hf k1 k2 k3) rfl .none rfl rfl (LeL.refl _) k1 k2 (zdA k3 _) rfl ?_
 refine ev ?_
 refine rn [] (r1 rfl) (.eqd ?_) ⟨rfl,rfl⟩ (fun _ _ h=>h) (fun _ h=>h)
 rotate_left
 all_goals (exact congrArg D.bool (zfo p xs 0))
theorem zer {xs:List Pat}{f:Nat}{B2 B3:List AV}{p:Pat→Bool} (hs:xs.length≤1000000000000) (hcal:Callee Tryz.prog f) (hB2:AV.idsL B2=[]) (hB3:AV.idsL B3=[])
  (hf:∀t∈xs,FnD Tryz.prog f [.agg [.d (.i t.op),.d (.i t.ctor),.d (.i t.n),.d (.i t.m),.d (.i t.var),.d (zad t.kids)],.ref 3003 0,.ref 3004 0] [(3003,some (.box B2)),(3004,some (.box B3))] (.d (.bool (p t))) []):
  FnD Tryz.prog 152 [.ms 1 xs.length,.fn f [.ref 3003 0,.ref 3004 0]] [(1,some (.box (pd xs))),(3003,some (.box B2)),(3004,some (.box B3))] (.d (.i (idxF p xs 0))) []:=by
 refine bd Tryz.f152 19 [15] [] fun w0 F0 own kept hk=>?_
 refine CWp.loopX (ι:=Nat) hk (fun i=>[(8,.d (.i (i:Int)))]) [4,5,9,10,11,12,13,14,15,16,17,18] (fun i=>[]) (fun i=>i≤xs.length∧idxF p (xs.drop i) i=idxF p xs 0) (fun i=>xs.length-i) 0 ⟨by omega,rfl⟩ ⟨⟨_,rfl,LeA.eqi ?_⟩,trivial⟩ trivial (fun x=>rfl) (fun i hg1=>?_)
 focus (rfl)
 refine evc [15] [] ?_
 refine sq (fun h1 h1p h1s=>?_) fun h1 h1p h1s=>?_
 try simp only[Q] at h1p
 refine Walk.idxM sl26 .none rfl rfl rfl rfl (by first|omega|(simp ;omega)) ?_
 refine Walk.loadBA ty28 .none rfl rfl rfl ((zsL (by omega))) ?_
 refine Walk.callV (cr:=[]) hcal (hf (nth xs i) (zae (by omega))) rfl .none rfl rfl rfl (LeL.refl _) ⟨rfl,rfl,trivial⟩ rfl (by simp only[zbf,List.all_cons,List.all_nil,zcg,zbU,AV.idsL,AV.ids,hB2,hB3,List.map_cons,List.map_nil];rfl) rfl ?_
 refine tv ?_
 refine sq (fun h2 h2p h2s=>?_) fun h2 h2p h2s=>?_
 try simp only[Q] at h2p
 focus (refine rn [] (r1 rfl) (.eqd ?_) ⟨rfl,rfl⟩ (SubH.get ⟨rfl,⟨rfl,⟨rfl,trivial⟩⟩⟩) (fun _ h=>h);all_goals ((rw[←hg1.2,zaW (by omega)];simp[idxF,h1s,h1p,h2s,h2p];done)))
 try simp only[Q] at h2p
 refine ar ?_
 refine Exists.intro (i+1) ⟨⟨by omega,(by rw[←hg1.2,zaW (l:=xs) (i:=i) (by omega)];simp_all[idxF])⟩,(by omega),sx ⟨⟨_,rfl,LeA.eqi ?_⟩,trivial⟩ trivial⟩
 focus (rfl)
 try simp only[Q] at h1p
 focus (refine rn [] (r1 rfl) (.eqd ?_) ⟨rfl,rfl⟩ (SubH.get ⟨rfl,⟨rfl,⟨rfl,trivial⟩⟩⟩) (fun _ h=>h);all_goals ((rw[←hg1.2,List.drop_eq_nil_of_le (by omega)];rfl)))
theorem zg8 {xs:List Pat}{f:Nat}{B2 B3:List AV}{p:Pat→Bool} (hs:xs.length≤1000000000000) (hcal:Callee Tryz.prog f) (hB2:AV.idsL B2=[]) (hB3:AV.idsL B3=[])
  (hf:∀t∈xs,FnD Tryz.prog f [.agg [.d (.i t.op),.d (.i t.ctor),.d (.i t.n),.d (.i t.m),.d (.i t.var),.d (zad t.kids)],.ref 3003 0,.ref 3004 0] [(3003,some (.box B2)),(3004,some (.box B3))] (.d (.bool (p t))) []):
  ∃tl:List AV,AV.idsL tl=[]∧FnD Tryz.prog 146 [.ms 1 xs.length,.fn f [.ref 3003 0,.ref 3004 0]] [(1,some (.box (pd xs))),(3003,some (.box B2)),(3004,some (.box B3))]
   (.ms 1 (xs.filter fun t=> !p t).length) [(1,some (.box (pd (xs.filter fun t=> !p t)++tl)))]:=by
 have hok3:zbf [(1,some (.box (pd xs))),(3003,some (.box B2)),(3004,some (.box B3))] [] (.d .nilp) []=true:=by
  simp only[zbf,List.all_cons,List.all_nil,zcg,zbU,AV.idsL,AV.ids,zhV,hB2,hB3,List.map_cons,List.map_nil];rfl
 rcases znA p xs 0 with ⟨hi,hall⟩|⟨k,hi,hk1,hk2⟩
 ·have hfil:(xs.filter fun t=> !p t)=xs:=List.filter_eq_self.2 (fun x hx=>by simp[hall x hx])
  refine⟨[],rfl, ?_⟩
  rw[hfil,List.append_nil]
  refine bd Tryz.f146 42 [] [] fun w0 F0 own kept hk=>?_
  refine Walk.call (cr:=[]) zlh (zer hs hcal hB2 hB3 hf) rfl .none rfl rfl (.cons (LeA.msn (by first|rfl|(simp;done))) (.cons (.refl _) .nil)) ⟨rfl,rfl,rfl,trivial⟩ rfl (zdA hok3 _) rfl ?_
  refine ev ?_
  refine sq (fun h1 h1p h1s=>?_) fun h1 h1p h1s=>?_
  try simp only[Q] at h1p
  refine rn [(1,some (.box (pd xs)))] (r1 rfl) (.refl _) ⟨rfl,rfl⟩ (SubO.get ⟨.inr ?_,⟨.inl rfl,⟨.inr rfl,⟨.inr rfl,trivial⟩⟩⟩⟩) (zaF rfl)
  rotate_left
  try simp only[Q] at h1p
  exfalso;simp[hi] at h1
  all_goals (((first|rfl|(simp;done));done))
 ·skip
  have hlen:(xs.filter fun t=> !p t).length≤xs.length:=List.length_filter_le _ _
  refine⟨za8 (xs.length-(xs.filter fun t=> !p t).length) z6,ziH rfl, ?_⟩
  refine bd Tryz.f146 42 [25] [] fun w0 F0 own kept hk=>?_
  refine Walk.call (cr:=[]) zlh (zer hs hcal hB2 hB3 hf) rfl .none rfl rfl (.cons (LeA.msn (by first|rfl|(simp;done))) (.cons (.refl _) .nil)) ⟨rfl,rfl,rfl,trivial⟩ rfl (zdA hok3 _) rfl ?_
  refine evs [25] [] ?_
  refine sq (fun h1 h1p h1s=>?_) fun h1 h1p h1s=>?_
  try simp only[Q] at h1p
  exfalso;simp[hi] at h1<;>omega
  try simp only[Q] at h1p
  refine ar ?_
  refine CWp.loopX (ι:=List Pat×Nat×Nat) hk (fun x=>[(6,.d (.i (x.2.1:Int))),(5,.d (.i (x.2.2:Int)))]) [7,16,17,18,19,20,21,22,23,24,25,26,27,28,29,30,31,32,33,34,35] (fun x=>[(1,some (.box (pd x.1)))]) (fun x=>x.1.length=xs.length∧x.2.1≤xs.length∧x.2.2≤x.2.1∧x.1.take x.2.2=(xs.take x.2.1).filter (fun t=> !p t)∧x.1.drop x.2.1=xs.drop x.2.1) (fun x=>xs.length-x.2.1) (xs,k+1,k) ⟨rfl,by dsimp only;omega,by dsimp only;omega,hk2.symm,rfl⟩ ⟨⟨_,rfl,LeA.eqi ?_⟩,⟨⟨_,rfl,LeA.eqi ?_⟩,trivial⟩⟩ ⟨?_,trivial⟩ (fun x=>rfl) (fun x hg1=>?_)
  iterate 2 focus ((simp_all;done))
  focus (rfl)
  refine evc [25] [] ?_
  refine sq (fun h2 h2p h2s=>?_) fun h2 h2p h2s=>?_
  try simp only[Q] at h2p
  refine Walk.idxM sl26 .none rfl rfl rfl rfl (by first|omega|(simp ;omega)) ?_
  refine Walk.loadBA ty28 .none rfl rfl rfl (((zsL (s:=x.1) (by omega)).trans (by rw[zqd hg1.2.2.2.2 hg1.1 (by omega)]))) ?_
  refine Walk.alloc (id:=3007) tz28 rfl .none rfl (by(simp only[zaA,occH,occE,Res.ids,List.cons_append,List.nil_append,AV.idsL,AV.ids,zal,zak,zav,zaO,List.map_cons,List.map_nil,upC,hB2,hB3,zhV];rfl)) (by(simp only[zaA,occH,occE,Res.ids,List.cons_append,List.nil_append,AV.idsL,AV.ids,zal,zak,zav,zaO,List.map_cons,List.map_nil,upC,hB2,hB3,zhV];rfl)) (by(simp only[zaA,occH,occE,Res.ids,List.cons_append,List.nil_append,AV.idsL,AV.ids,zal,zak,zav,zaO,List.map_cons,List.map_nil,upC,hB2,hB3,zhV];rfl)) ?_
  refine so ty28 ?_
  refine tv ?_
  refine Walk.callV (cr:=[]) hcal (hf (nth xs x.2.1) (zae (by omega))) rfl .none rfl rfl rfl (LeL.refl _) ⟨rfl,rfl,trivial⟩ rfl (by simp only[zbf,List.all_cons,List.all_nil,zcg,zbU,AV.idsL,AV.ids,hB2,hB3,List.map_cons,List.map_nil];rfl) rfl ?_
  refine evs [25] [] ?_
  refine sq (fun h3 h3p h3s=>?_) fun h3 h3p h3s=>?_
  try simp only[Q] at h3p
  refine Walk.idxM sl26 .none rfl rfl rfl rfl (by first|omega|(simp ;omega)) ?_
  refine Walk.store ty28 .none rfl rfl rfl rfl rfl rfl (by simp) ((zwa (by omega))) ?_
  refine tv ?_
  refine ar ?_
  refine ar ?_
  refine Exists.intro ((if p (nth xs x.2.1) then x.1 else x.1.set x.2.2 (nth xs x.2.1),x.2.1+1,if p (nth xs x.2.1) then x.2.2 else x.2.2+1)) ⟨(by
      obtain⟨g1,g2,g3,g4,g5⟩:=hg1
      have hlt:x.2.1<xs.length:=by omega
      have h7:=zgQ (p:=fun t=> !p t) hlt
      refine⟨by dsimp only;split<;>simp[g1],by dsimp only;omega,by dsimp only;split<;>omega, ?_, ?_⟩
      ·dsimp only
       rw[h7,←g4]
       cases hp:p (nth xs x.2.1) with
       |true=>simp
       |false=>simp only[Bool.false_eq_true,if_false,Bool.not_false,if_true];rw[ziS (by omega)]
      ·dsimp only
       split
       ·exact zhd g5
       ·(rw[zoa g3];exact zhd g5)),(by dsimp only;omega),sx ⟨⟨_,rfl,LeA.eqi ?_⟩,⟨⟨_,rfl,LeA.eqi ?_⟩,trivial⟩⟩ ⟨?_,trivial⟩⟩
  iterate 2 focus ((simp_all;done))
  focus ((show some (Res.box _)=some (Res.box _);dsimp only;split<;>first|rfl|(exfalso;simp_all;done)))
  try simp only[Q] at h3p
  refine ar ?_
  refine Exists.intro ((if p (nth xs x.2.1) then x.1 else x.1.set x.2.2 (nth xs x.2.1),x.2.1+1,if p (nth xs x.2.1) then x.2.2 else x.2.2+1)) ⟨(by
      obtain⟨g1,g2,g3,g4,g5⟩:=hg1
      have hlt:x.2.1<xs.length:=by omega
      have h7:=zgQ (p:=fun t=> !p t) hlt
      refine⟨by dsimp only;split<;>simp[g1],by dsimp only;omega,by dsimp only;split<;>omega, ?_, ?_⟩
      ·dsimp only
       rw[h7,←g4]
       cases hp:p (nth xs x.2.1) with
       |true=>simp
       |false=>simp only[Bool.false_eq_true,if_false,Bool.not_false,if_true];rw[ziS (by omega)]
      ·dsimp only
       split
       ·exact zhd g5
       ·exact zhd g5),(by dsimp only;omega),sx ⟨⟨_,rfl,LeA.eqi ?_⟩,⟨⟨_,rfl,LeA.eqi ?_⟩,trivial⟩⟩ ⟨?_,trivial⟩⟩
  iterate 2 focus ((simp_all;done))
  focus ((show some (Res.box _)=some (Res.box _);dsimp only;split<;>first|rfl|(exfalso;simp_all;done)))
  try simp only[Q] at h2p
  refine Walk.cutM_l sl26 .none rfl rfl rfl rfl (by omega) ?_
  refine Walk.clearB sl26 tz28 rfl (by decide) rfl .none rfl rfl (zu0 hg1.1 (by omega)) ?_
  refine tv ?_
  refine Walk.cutM_h sl26 .none rfl rfl rfl rfl (by omega) ?_
  refine evs [25] [] ?_
  refine rn [(1,some (.box (pd (xs.filter fun t=> !p t)++za8 (xs.length-(xs.filter fun t=> !p t).length) z6)))] (r1 rfl) (LeA.msn ?_) ⟨rfl,rfl⟩ (SubO.get ⟨.inr ?_,⟨.inl rfl,⟨.inr rfl,⟨.inr rfl,trivial⟩⟩⟩⟩) (zaF rfl)
  rotate_left 2
  all_goals (first|((first|rfl|(obtain⟨g1,g2,g3,g4,g5⟩:=hg1;have e:x.2.1=xs.length:=(by omega);rw[e,List.take_length] at g4;rw[←g4,List.length_take];omega));done)|((obtain⟨g1,g2,g3,g4,g5⟩:=hg1;have e:x.2.1=xs.length:=(by omega);rw[e,List.take_length] at g4;have e2:(xs.filter fun t=> !p t).length=x.2.2:=(by rw[←g4,List.length_take];omega);rw[e2,←g4];rfl)))
theorem zgw {f:Nat}{caps:List AV}{hp:Hp} (hcal:Callee Tryz.prog f) (k1:subH hp hp) (k2:zed hp=true) (k3:zbf hp [] (.d .nilp) []=true):
  FnD Tryz.prog 146 [.d (.sl []),.fn f caps] hp (.d (.sl [])) []:=by
 have hz:=zej (xs:=[]) (p:=fun _=>false) (f:=f) (caps:=caps) (hp:=hp) (by simp) hcal (fun t ht=>by simp at ht) k1 k2 k3
 refine bd Tryz.f146 42 [] [] fun w0 F0 own kept hk=>?_
 refine Walk.call (cr:=[]) zlh (hz) rfl .none rfl rfl (LeL.refl _) k1 k2 (zdA k3 _) rfl ?_
 refine ev ?_
 refine sq (fun h1 h1p h1s=>?_) fun h1 h1p h1s=>?_
 try simp only[Q] at h1p
 focus (refine rn [] (r1 rfl) (.eqd ?_) ⟨rfl,rfl⟩ (fun _ _ h=>h) (fun _ h=>h);all_goals (rfl))
 try simp only[Q] at h1p
 exfalso;simp[idxF] at h1
theorem zjI {xs:List Pat} (hs:xs.length≤1000000000000) (hne:xs≠[]):FnD Tryz.prog 147 [.d (zad xs)] [] (.ms 1 xs.length) [(1,some (.box (pd xs)))]:=by
 have hcs:Pat.cs xs≠[]:=fun h=>hne ((Pat.cs_nil xs).1 h)
 refine Fn.body (fn:=Tryz.f147) (n:=8) rfl rfl rfl rfl rfl (fun w0 F0 own kept hk=>?_)
 refine CWp.splitNil 0 rfl (fun hx0=>?_) ?_
 refine evc [4] [] ?_
 refine Walk.eqNilT sl26 .none rfl rfl ?_
 refine tv ?_
 refine sqT ?_
 exfalso;exact hcs hx0
 refine evc [4] [] ?_
 refine Walk.eqNilF sl26 .none rfl rfl ?_
 refine tv ?_
 refine sqF ?_
 refine Walk.sliceEmptyGV 1 sl26 .none rfl rfl ?_
 refine evs [4] [] ?_
 refine Walk.appendM hk rfl (by simp[hcs]) sl26 zz28 .none rfl rfl rfl rfl (zgm rfl (by rfl)) (by intro y hy;rw[Pat.cs_cd] at hy;obtain⟨z,_,rfl⟩:=List.mem_map.1 hy;rfl) (by simp[Pat.cs_len];omega) (by simp[Pat.cs_len];omega) ?_
 refine evs [4] [] ?_
 refine rn [(1,some (.box (pd xs)))] (r1 rfl) (LeA.msn ?_) ⟨rfl,rfl⟩ (SubH.get ⟨?_,trivial⟩) (zaF rfl)
 rotate_left 2
 all_goals (first|((first|rfl|(simp[Pat.cs_len];done));done)|(first|rfl|(show some (Res.box _)=some (Res.box _);unfold pd;rw[←Pat.cs_cd];rfl)))
theorem zkP {w:List Data} (hs:Spa w){ta tk:Int} (ht:InS (w.length*4) ⟨ta,tk⟩){p:Pat} (hp:zac w 11 ⟨ta,tk⟩ p=true):
  FnD Tryz.prog 148 [.agg [.d (.i p.op),.d (.i p.ctor),.d (.i p.n),.d (.i p.m),.d (.i p.var),.d (zad p.kids)],.ref 3003 0,.ref 3004 0] [(3003,some (.box [.d (sPtr w (zai w))])),(3004,some (.box [.d (.i ta),.d (.i tk)]))] (.d (.bool (zaQ w (zai w) 11 ⟨ta,tk⟩ p))) []:=by
 refine bd Tryz.f148 9 [] [] fun w0 F0 own kept hk=>?_
 refine bx 3001 ?_
 refine ev ?_
 refine wc zia (zcs hs.dp 11 (zgr _ hp) ht (zgI hs 11 ht hp).1) rfl rfl ?_
 refine ev ?_
 focus (refine rn [] (r1 rfl) (.eqd ?_) ⟨rfl,rfl⟩ (SubH.get ⟨rfl,⟨rfl,trivial⟩⟩) (fun _ h=>h);all_goals (rfl))
theorem zhR {w:List Data} (hs:Spa w){ta tk:Int} (ht:InS (w.length*4) ⟨ta,tk⟩){l:List Pat} (hl:∀a∈l,zac w 11 ⟨ta,tk⟩ a=true) (hb:l.length≤1000000000000):
  FnD Tryz.prog 92 [.d (sPtr w (zai w)),.agg [.d (.i ta),.d (.i tk)],.d (zad l)] [] (.d (zad (l.filter (zbe w ⟨ta,tk⟩)))) []:=by
 by_cases hne:l=[]
 ·subst hne
  have hcl:FnD Tryz.prog 147 [.d (.sl [])] [] (.d (.sl [])) []:=(zfh (xs:=[]) (by simp)).glD
  refine bd Tryz.f92 11 [] [] fun w0 F0 own kept hk=>?_
  refine bx 3003 ?_
  refine bx 3004 ?_
  refine ev ?_
  refine wc zoJ (hcl) rfl rfl ?_
  refine Walk.closure (xs:=[_,_]) rfl .none rfl rfl ?_
  refine Walk.call (cr:=[]) zr2 (zgw (hp:=[(3003,some (.box [.d (sPtr w (zai w))])),(3004,some (.box [.d (.i ta),.d (.i tk)]))]) zr3 ⟨rfl,rfl,trivial⟩ rfl rfl) rfl .none rfl rfl (LeL.refl _) ⟨rfl,rfl,trivial⟩ rfl rfl rfl ?_
  refine ev ?_
  focus (refine rn0 (r1 rfl) (.eqd ?_);all_goals (rfl))
 ·obtain⟨tl,htl,hdel⟩:=zg8 (xs:=l) (p:=fun a=>zaQ w (zai w) 11 ⟨ta,tk⟩ a) hb zr3 (B2:=[.d (sPtr w (zai w))]) (B3:=[.d (.i ta),.d (.i tk)]) rfl rfl (fun a ha=>zkP hs ht (hl a ha))
  have key:FnD Tryz.prog 92 [.d (sPtr w (zai w)),.agg [.d (.i ta),.d (.i tk)],.d (zad l)] [] (.ms 1 (l.filter (zbe w ⟨ta,tk⟩)).length) [(1,some (.box (pd (l.filter (zbe w ⟨ta,tk⟩))++tl)))]:=by
   refine bd Tryz.f92 11 [] [] fun w0 F0 own kept hk=>?_
   refine bx 3003 ?_
   refine bx 3004 ?_
   refine ev ?_
   refine Walk.call (cr:=[1]) zoJ (zjI hb hne) rfl .none rfl rfl (LeL.refl _) trivial rfl (by simp only[zbf,List.all_cons,List.all_nil,zcg,zbU,AV.idsL,AV.ids,zhV,zal,htl,List.map_cons,List.map_nil];rfl) rfl ?_
   refine Walk.closure (xs:=[_,_]) rfl .none rfl rfl ?_
   refine Walk.call (cr:=[]) zr2 (hdel) rfl .none rfl rfl (.cons (LeA.msn (by first|rfl|(simp;done))) (.cons (.refl _) .nil)) ⟨rfl,rfl,rfl,trivial⟩ rfl (by simp only[zbf,List.all_cons,List.all_nil,zcg,zbU,AV.idsL,AV.ids,zhV,zal,htl,List.map_cons,List.map_nil];rfl) rfl ?_
   refine ev ?_
   refine rn [(1,some (.box (pd (l.filter (zbe w ⟨ta,tk⟩))++tl)))] (r1 rfl) (LeA.msn ?_) ⟨rfl,rfl⟩ (SubH.get ⟨?_,trivial⟩) (zaF rfl)
   rotate_left 2
   all_goals (first|((rfl);done)|(rfl))
  have h2:=key.boxD (k:=6) ztC
  rw[←Pat.cs_cd] at h2
  exact h2
theorem zmK {α β:Type}{g:α→List β}{K:Nat}:∀(l:List α),(∀x∈l,(g x).length≤K)→(l.flatMap g).length≤l.length*K
 | [],_=>by simp
 |x::r,h=>by
  have h1:=h x (by simp)
  have h2:=zmK r (fun y hy=>h y (by simp[hy]))
  rw[List.flatMap_cons,List.length_append,List.length_cons,Nat.add_mul];omega
theorem zf3 {w:List Data}{t:Ty}{l away:List Pat}{i:Nat} (h:i<away.length):subL w t l (away.drop i)=if (zbF w t l (nth away i)).length≤400 then subL w t (zbF w t l (nth away i)) (away.drop (i+1)) else none:=by
 rw[zaW h,subL]
theorem zpP {w:List Data}{t:Ty}{l away:List Pat}{i:Nat} (h:away.length≤i):subL w t l (away.drop i)=some l:=by
 rw[List.drop_eq_nil_of_le h,subL]
theorem zgs (p:Pat):(zaD p).length≤40:=by unfold zaD;split;assumption;simp
theorem zku {w:List Data}{t:Ty}{p:Pat} (h:zas w 10 t p=true):∀x∈zaD p,zac w 10 t x=true:=fun x hx=>by
 unfold zaD at hx
 split at hx
 ·exact zfv 10 h x hx
 ·simp at hx
theorem zgf {w:List Data}{t:Ty}:∀(away l r:List Pat),(∀a∈l,zac w 11 t a=true)→l.length≤400→(∀b∈away,zac w 10 t b=true)→subL w t l away=some r→r.length≤400∧∀x∈r,zac w 11 t x=true
 | [],l,r,hl,hn,_,h=>by rw[subL] at h;cases h;exact⟨hn,hl⟩
 |b::away,l,r,hl,hn,hb,h=>by
  rw[subL] at h
  split at h
  ·rename_i h4
   exact zgf away _ r (zec hl (hb b (by simp))) h4 (fun x hx=>hb x (by simp[hx])) h
  ·cases h
theorem zlK {w:List Data} (hs:Spa w){ta tk:Int} (ht:InS (w.length*4) ⟨ta,tk⟩){l away:List Pat} (hl:∀a∈l,zac w 11 ⟨ta,tk⟩ a=true) (hb:∀b∈away,zac w 10 ⟨ta,tk⟩ b=true) (hll:l.length≤400) (hal:away.length≤2000):
  FnD Tryz.prog 49 [.d (sPtr w (zai w)),.agg [.d (.i ta),.d (.i tk)],.d (zad l),.d (zad away)] [] (.tup [.d (zad ((zaJ w ⟨ta,tk⟩ l away).getD [])),.d (.bool (zaJ w ⟨ta,tk⟩ l away).isSome)]) []:=by
 have hlf:(l.filter (zbe w ⟨ta,tk⟩)).length≤l.length:=List.length_filter_le _ _
 have hmb:∀(c:List Pat) (i:Nat),(∀a∈c,zac w 11 ⟨ta,tk⟩ a=true)→i<away.length→∀x∈c,(zaq w 10 ⟨ta,tk⟩ x (nth away i)).length≤20000000:=fun c i hc hi x hx=>zft hs (by omega) (by omega) ht (hc x hx) (hb _ (zae hi))
 have hnp:∀(c:List Pat) (i:Nat),(∀a∈c,zac w 11 ⟨ta,tk⟩ a=true)→i<away.length→∀x∈(c.flatMap fun a=>zaq w 10 ⟨ta,tk⟩ a (nth away i)),zac w 11 ⟨ta,tk⟩ x=true:=fun c i hc hi x hx=>by
  obtain⟨a,ha,hx⟩:=List.mem_flatMap.1 hx
  exact ze4 10 11 (by omega) (hc a ha) (hb _ (zae hi)) x hx
 have hpre:∀ {pre rest c:List Pat}{y:Pat} (i:Nat),(∀a∈c,zac w 11 ⟨ta,tk⟩ a=true)→c.length≤400→i<away.length→pre++y::rest=c→(pre.flatMap fun a=>zaq w 10 ⟨ta,tk⟩ a (nth away i)).length≤8000000000∧(zaq w 10 ⟨ta,tk⟩ y (nth away i)).length≤20000000:=fun {pre rest c y} i hc h4 hi h=>by
  have h1:=zmK (g:=fun a=>zaq w 10 ⟨ta,tk⟩ a (nth away i)) (K:=20000000) pre (fun x hx=>hmb c i hc hi x (by rw[←h];simp[hx]))
  have h2:=hmb c i hc hi y (by rw[←h];simp)
  have h3:=congrArg List.length h
  simp only[List.length_append,List.length_cons] at h3
  exact⟨by omega,h2⟩
 refine bd Tryz.f49 48 [12] [11] fun w0 F0 own kept hk=>?_
 refine bx 3005 ?_
 refine evs [12] [] ?_
 refine wc zud (zhR hs ht hl (by omega)) rfl rfl ?_
 refine evs [12] [] ?_
 refine CWp.loopX (ι:=Nat×List Pat) hk (fun s=>[(21,.d (.i (s.1:Int))),(2,.d (zad s.2))]) [8,9,11,12,14,22,23,24,25,26,27,28,29,30,31,32,33,34,35,36,37,38,39,40,41,42,43,44,45,46] (fun s=>[]) (fun s=>s.1≤away.length∧subL w ⟨ta,tk⟩ s.2 (away.drop s.1)=zaJ w ⟨ta,tk⟩ l away∧(∀a∈s.2,zac w 11 ⟨ta,tk⟩ a=true)∧s.2.length≤400) (fun s=>away.length-s.1) (0,l.filter (zbe w ⟨ta,tk⟩)) ⟨by simp,rfl,fun a ha=>hl a (List.mem_filter.1 ha).1,by dsimp only;omega⟩ ⟨⟨_,rfl,LeA.eqi ?_⟩,⟨⟨_,rfl, ?_⟩,trivial⟩⟩ trivial (fun x=>rfl) (fun s hg1=>?_)
 focus (rfl)
 focus (exact LeA.refl _)
 refine evc [12] [11] ?_
 refine sq (fun h1 h1p h1s=>?_) fun h1 h1p h1s=>?_
 try simp only[Q,Pat.cs_len] at h1p
 refine Walk.idx sl26 .none rfl rfl rfl rfl (zaH (by omega)) rfl ?_
 refine evs [12] [] ?_
 refine ab 3011 tz28 ?_
 refine so ty28 ?_
 refine tv ?_
 refine Walk.assignNil 9 6 .none rfl rfl ?_
 refine tv ?_
 refine CWp.loopX (ι:=List (Pat)×List (Pat)) hk (fun x=>[(27,.d (.i (x.1.length:Int))),(12,.gl 9 (Pat.cs (x.1.flatMap fun a=>zaq w 10 ⟨ta,tk⟩ a (nth away s.1))))]) [14,28,29,30,31,32,33,34,35,36,37,38] (fun x=>[(9,some (.tok ((Pat.cs (x.1.flatMap fun a=>zaq w 10 ⟨ta,tk⟩ a (nth away s.1)))).length 6))]) (fun x=>x.1++x.2=s.2) (fun x=>x.2.length) ([],s.2) (by simp) ⟨⟨_,rfl,LeA.eqi ?_⟩,⟨⟨_,rfl,LeA.glg ?_⟩,trivial⟩⟩ ⟨zab ?_,trivial⟩ (fun x=>rfl) (fun x hg2=>?_)
 iterate 3 focus (rfl)
 obtain⟨pre,rest⟩:=x
 dsimp only at hg2 ⊢
 refine evc [12] [11] ?_
 refine sq (fun h2 h2p h2s=>?_) fun h2 h2p h2s=>?_
 try simp only[Q,Pat.cs_len] at h2p
 rcases rest with _|⟨y,rest⟩
 ·exfalso;simp_all
 refine Walk.idx sl26 .none rfl rfl rfl rfl (Pat.cs_at' hg2) rfl ?_
 refine evs [12] [] ?_
 refine ab 3014 tz28 ?_
 refine so ty28 ?_
 refine tv ?_
 refine wc zri (ziL hs 10 11 (by omega) (by omega) (by omega) ht (hg1.2.2.1 y (by rw[←hg2];simp)) (hb _ (zae (by omega)))) rfl rfl ?_
 refine ap sl26 zz28 rfl rfl rfl (by exact zbD _) (by have h9:=hpre s.1 hg1.2.2.1 hg1.2.2.2 (by omega) hg2;simp only[Pat.cs_len];omega) ?_
 refine asg ?_
 refine tv ?_
 refine ar ?_
 refine Exists.intro ((pre++[y],rest)) ⟨(by have hz:=hg2;rw[←hz];simp),(by simp),sx ⟨⟨_,rfl,LeA.eqi ?_⟩,⟨⟨_,rfl,LeA.glg ?_⟩,trivial⟩⟩ ⟨zab ?_,trivial⟩⟩
 iterate 3 focus (first|(rw[List.flatMap_append,Pat.cs_cd,Pat.cs_cd,Pat.cs_cd,List.map_append];simp;done)|(simp[Pat.cs_len];done))
 try simp only[Q,Pat.cs_len] at h2p
 have hrest:rest=[]:=by
  rcases rest with _|⟨a,b⟩
  ·rfl
  ·exfalso;have hz:=congrArg List.length (hg2);simp only[List.length_append,List.length_cons,List.length_map] at hz;omega
 subst hrest
 obtain rfl:pre=s.2:=(by simpa using hg2)
 refine evc [12] [] ?_
 refine Walk.call (cr:=[]) zud (zhR hs ht (l:=s.2.flatMap fun a=>zaq w 10 ⟨ta,tk⟩ a (nth away s.1)) (hnp s.2 s.1 hg1.2.2.1 (by omega)) (by have:=zmK (g:=fun a=>zaq w 10 ⟨ta,tk⟩ a (nth away s.1)) (K:=20000000) s.2 (hmb s.2 s.1 hg1.2.2.1 (by omega));omega)) rfl .none rfl rfl (.cons (.refl _) (.cons (.refl _) (.cons (.gl _ _) .nil))) trivial rfl rfl rfl ?_
 refine evs [12] [] ?_
 refine sq (fun h3 h3p h3s=>?_) fun h3 h3p h3s=>?_
 try simp only[Q,Pat.cs_len] at h3p
 refine rn0 (r2 rfl rfl) (.tup (.cons (.nild ?_) (.cons (.eqd ?_) .nil)))
 rotate_left 2
 try simp only[Q,Pat.cs_len] at h3p
 refine ar ?_
 refine Exists.intro ((s.1+1,zbF w ⟨ta,tk⟩ s.2 (nth away s.1))) ⟨(by
    have h4:(zbF w ⟨ta,tk⟩ s.2 (nth away s.1)).length≤400:=by unfold zbF;omega
    refine⟨by dsimp only;omega, ?_,zec hg1.2.2.1 (hb _ (zae (by omega))),h4⟩
    have e:=zf3 (w:=w) (t:=⟨ta,tk⟩) (l:=s.2) (away:=away) (i:=s.1) (by omega)
    rw[if_pos h4] at e
    dsimp only
    rw[←e];exact hg1.2.1),(by dsimp only;omega),sx ⟨⟨_,rfl,LeA.eqi ?_⟩,⟨⟨_,rfl, ?_⟩,trivial⟩⟩ trivial⟩
 focus (rfl)
 focus (exact LeA.refl _)
 try simp only[Q,Pat.cs_len] at h1p
 refine rn0 (r2 rfl rfl) (.tup (.cons (.eqd ?_) (.cons (.eqd ?_) .nil)))
 rotate_left 2
 all_goals (first|(rw[←hg1.2.1,zf3 (by omega),if_neg (by unfold zbF;omega)];rfl)|(rw[←hg1.2.1,zpP (by omega)];rfl))
theorem zkR {w:List Data} (hs:Spa w){f:Nat→Nat}{ta tk:Int} (ht:InS (w.length*4) ⟨ta,tk⟩){p:Pat} (hp:p.ok):
  FnD Tryz.prog 95 [.agg [.d (.i p.op),.d (.i p.ctor),.d (.i p.n),.d (.i p.m),.d (.i p.var),.d (zad p.kids)],.ref 3004 0,.ref 3005 0] [(3004,some (.box [.d (sPtr w f)])),(3005,some (.box [.d (.i ta),.d (.i tk)]))] (.d (.bool (!isP w ⟨ta,tk⟩ p))) []:=by
 refine bd Tryz.f95 13 [] [] fun w0 F0 own kept hk=>?_
 refine bx 3001 ?_
 refine ev ?_
 refine wc zou (zek hs.dp.wt (zbQ ht) hp) rfl rfl ?_
 refine evd [] [] ?_
 refine dr ?_
 refine rn [] (r1 rfl) (.eqd ?_) ⟨rfl,rfl⟩ (SubH.get ⟨rfl,⟨rfl,trivial⟩⟩) (fun _ h=>h)
 rotate_left
 all_goals (rfl)
theorem zhS {w:List Data} (hs:Spa w){f:Nat→Nat}{ta tk:Int} (ht:InS (w.length*4) ⟨ta,tk⟩){l:List Pat}{ok:Bool} (hl:∀a∈l,a.ok) (hb:l.length≤1000000000000):
  FnD Tryz.prog 50 [.d (sPtr w f),.agg [.d (.i ta),.d (.i tk)],.d (zad l),.d (.bool ok)] [] (.tup [.d (zad (if (ok&&l.all (isP w ⟨ta,tk⟩))=true then l else [])),.d (.bool (ok&&l.all (isP w ⟨ta,tk⟩)))]) []:=by
 have hall:(l.any fun p=> !isP w ⟨ta,tk⟩ p) = !(l.all (isP w ⟨ta,tk⟩)):=by
  induction l with
  |nil=>rfl
  |cons x r ih=>rw[List.any_cons,List.all_cons,ih (fun a ha=>hl a (by simp[ha])) (by simp at hb;omega),Bool.not_and]
 have hcf:=zgd (xs:=l) (p:=fun p=> !isP w ⟨ta,tk⟩ p) (caps:=[.ref 3004 0,.ref 3005 0]) (hp:=[(3004,some (.box [.d (sPtr w f)])),(3005,some (.box [.d (.i ta),.d (.i tk)]))]) hb zwu (fun q hq=>zkR hs ht (hl q hq)) ⟨rfl,rfl,trivial⟩ rfl rfl
 rw[hall] at hcf
 clear hall
 generalize l.all (isP w ⟨ta,tk⟩)=q at hcf ⊢
 refine bd Tryz.f50 19 [] [] fun w0 F0 own kept hk=>?_
 refine bx 3004 ?_
 refine bx 3005 ?_
 refine ev ?_
 refine sq (fun h1 h1p h1s=>?_) fun h1 h1p h1s=>?_
 try simp only[Q] at h1p
 refine sqT ?_
 refine rn0 (r2 rfl rfl) (.tup (.cons (.nild ?_) (.cons (.eqd ?_) .nil)))
 rotate_left 2
 try simp only[Q] at h1p
 refine Walk.closure (xs:=[_,_]) rfl (.some rfl rfl h1) rfl rfl ?_
 refine Walk.call (cr:=[]) zwt (hcf) rfl (.some rfl rfl h1) rfl rfl (LeL.refl _) ⟨rfl,rfl,trivial⟩ rfl rfl rfl ?_
 refine evs [] [(12,false)] ?_ ⟨⟨_,rfl,h1⟩,trivial⟩
 refine sq (fun h3 h3p h3s=>?_) fun h3 h3p h3s=>?_
 try simp only[Q] at h3p
 refine rn0 (r2 rfl rfl) (.tup (.cons (.nild ?_) (.cons (.eqd ?_) .nil)))
 rotate_left 2
 try simp only[Q] at h3p
 refine wc zwv (ziV hb hl) rfl rfl ?_
 refine ev ?_
 refine rn0 (r2 rfl rfl) (.tup (.cons (.eqd ?_) (.cons (.eqd ?_) .nil)))
 rotate_left 2
 all_goals ((cases ok<;>cases q<;>first|rfl|(exfalso;simp_all;done)))
mutual
def hitP:Pat→Val→Bool
 | .mk op c n m _ ks,v=>if op=3 then zar v.num n m else if op=4 then decide (c=v.ctor)&&hitL ks v.kids else true
def hitL:List Pat→List Val→Bool
 |p::r,v::s=>hitP p v&&hitL r s
 |_,_=>true
end
theorem zmO (p:Pat) (v:Val):hitP p v=if p.op=3 then zar v.num p.n p.m else if p.op=4 then decide (p.ctor=v.ctor)&&hitL p.kids v.kids else true:=by
 cases p;unfold hitP;rfl
theorem zeY {p:Pat}{v:Val} (h:p.op=1):hitP p v=true:=by rw[zmO,if_neg (by omega),if_neg (by omega)]
theorem zhh {p:Pat}{v:Val} (h:p.op=3):hitP p v=zar v.num p.n p.m:=by rw[zmO,if_pos h]
theorem zcR {p:Pat}{v:Val} (h:p.op=4):hitP p v=(decide (p.ctor=v.ctor)&&hitL p.kids v.kids):=by rw[zmO,if_neg (by omega),if_pos h]
theorem zkJ:∀ {l:List Pat}{s:List Val},l.length=s.length→(hitL l s=true↔∀i,i<l.length→hitP (nth l i) (nth s i)=true)
 | [],[],_=>by simp[hitL]
 |p::r,v::s,h=>by
  have ih:=zkJ (l:=r) (s:=s) (by simpa using h)
  simp only[hitL,Bool.and_eq_true,ih]
  constructor
  ·rintro ⟨h1,h2⟩ i hi
   cases i with
   |zero=>exact h1
   |succ i=>exact h2 i (by simpa using hi)
  ·intro h1
   exact⟨h1 0 (by simp),fun i hi=>h1 (i+1) (by simpa using hi)⟩
 | [],_::_,h=>by simp at h
 |_::_,[],h=>by simp at h
theorem zkI {α:Type}:∀(l:List α) (s:List Val),hitL (l.map fun _=>anyQ) s=true
 | [],_=>by simp[hitL]
 |_::_,[]=>by simp[hitL]
 |_::r,v::s=>by simp only[List.map_cons,hitL,zkI r s,Bool.and_true];exact zeY rfl
theorem zfS:∀(l:List Pat) (s:List Val) (p:Pat) (v:Val),l.length=s.length→hitL (l++[p]) (s++[v])=(hitL l s&&hitP p v)
 | [],[],p,v,_=>by simp[hitL]
 |q::r,x::s,p,v,h=>by
  simp only[List.cons_append,hitL,zfS r s p v (by simpa using h),Bool.and_assoc]
 | [],_::_,_,_,h=>by simp at h
 |_::_,[],_,_,h=>by simp at h
theorem zpb:∀(l:List Pat) (s:List Val) (r:List Pat) (q:List Val),l.length=s.length→hitL (l++r) (s++q)=(hitL l s&&hitL r q)
 | [],[],r,q,_=>by simp[hitL]
 |p::l,x::s,r,q,h=>by
  simp only[List.cons_append,hitL,zpb l s r q (by simpa using h),Bool.and_assoc]
 | [],_::_,_,_,h=>by simp at h
 |_::_,[],_,_,h=>by simp at h
theorem ztl {w:List Data}{m:Nat}{t:Ty}{v:Val} (h:zaP w m t v=true) (ht:t.data = -1):0≤v.num∧v.num≤9:=by
 cases m with
 |zero=>simp[zaP] at h
 |succ m=>
  unfold zaP at h
  rw[if_pos ht] at h
  simp only[Bool.and_eq_true,decide_eq_true_eq] at h
  omega
theorem zpx:∀(ls:List (List Pat)) (vs:List Val) (out:List (List Pat)) (v0:List Val),ls.length=vs.length→(∀q∈out,q.length=v0.length)→
  ((∃l∈ls.foldl za3 out,hitL l (v0++vs)=true)↔(∃q∈out,hitL q v0=true)∧∀i,i<ls.length→∃x∈nth ls i,hitP x (nth vs i)=true)
 | [],[],out,v0,_,_=>by simp
 |l::r,v::s,out,v0,h,ho=>by
  have ih:=zpx r s (za3 out l) (v0++[v]) (by simpa using h) (fun q hq=>by
   unfold za3 at hq
   obtain⟨q0,h1,h2⟩:=List.mem_flatMap.1 hq
   obtain⟨c,h3,rfl⟩:=List.mem_map.1 h2
   simp[ho q0 h1])
  rw[List.append_assoc] at ih
  rw[List.foldl_cons,show v0++v::s=v0++([v]++s) from rfl,ih]
  constructor
  ·rintro ⟨⟨q,hq,hh⟩,h2⟩
   unfold za3 at hq
   obtain⟨q0,h3,h4⟩:=List.mem_flatMap.1 hq
   obtain⟨c,h5,rfl⟩:=List.mem_map.1 h4
   rw[zfS q0 v0 c v (ho q0 h3),Bool.and_eq_true] at hh
   refine⟨⟨q0,h3,hh.1⟩,fun i hi=>?_⟩
   cases i with
   |zero=>exact⟨c,h5,hh.2⟩
   |succ i=>exact h2 i (by simpa using hi)
  ·rintro ⟨⟨q,hq,hh⟩,h2⟩
   obtain⟨c,h5,h6⟩:=h2 0 (by simp)
   refine⟨⟨q++[c], ?_, ?_⟩,fun i hi=>h2 (i+1) (by simpa using hi)⟩
   ·unfold za3
    exact List.mem_flatMap.2 ⟨q,hq,List.mem_map.2 ⟨c,h5,rfl⟩⟩
   ·rw[zfS q v0 c v (ho q hq),hh];exact h6
 | [],_::_,_,_,h,_=>by simp at h
 |_::_,[],_,_,h,_=>by simp at h
theorem zlP {f:Pat→Val→List Bd×Bool}:∀ {a:List Pat}{b:List Val}{acc:List Bd},a.length=b.length→((zhU f a b acc).2=true↔∀i,i<a.length→(f (nth a i) (nth b i)).2=true)
 | [],[],acc,_=>by simp[zhU]
 |p::r,v::s,acc,h=>by
  unfold zhU
  by_cases hp:(f p v).2=true
  ·rw[if_pos hp,zlP (a:=r) (b:=s) (by simpa using h)]
   constructor
   ·intro h1 i hi
    cases i with
    |zero=>exact hp
    |succ i=>exact h1 i (by simpa using hi)
   ·intro h1 i hi
    exact h1 (i+1) (by simpa using hi)
  ·rw[if_neg hp]
   constructor
   ·intro h1;cases h1
   ·intro h1;exact absurd (h1 0 (by simp)) hp
 | [],_::_,_,h=>by simp at h
 |_::_,[],_,h=>by simp at h
theorem zc8 {p:Pat} (h5:p.op≠5) (hk:p.kids=[]):zap p=[p]:=by
 rw[zcQ h5,hk]
 cases p
 simp only[zaZ] at hk
 subst hk
 simp[zdL,zbZ,zeI,mk_n,mk_m,zgZ]
theorem zep {w:List Data}:∀(n m:Nat){t:Ty}{p:Pat}{v:Val},zas w n t p=true→zaP w m t v=true→((za9 n p v).2=true↔∃x∈zap (zat p),hitP x v=true)
 |0,m,t,p,v,h,_=>by simp[zas] at h
 |n+1,0,t,p,v,_,h=>by simp[zaP] at h
 |n+1,m+1,t,p,v,h,hv=>by
  rcases ziB h with h1|h2|h3|h4|h5|h6
  ·have hk:=zeg h (by omega) (by omega) (by omega)
   rw[zuO h1,zbd,if_neg (by omega),if_neg (by omega),zc8 (by rw[zbZ];omega) (by rw[zaZ,hk];rfl)]
   simp only[List.mem_singleton,exists_eq_left,true_iff]
   exact zeY h1
  ·rw[zuP h2,zbd,if_pos h2,zb0]
   simp only[List.mem_singleton,exists_eq_left,true_iff]
   exact zeY rfl
  ·have hk:=zeg h (by omega) (by omega) (by omega)
   rw[zuQ h3,zbd,if_neg (by omega),if_neg (by omega),zc8 (by rw[zbZ];omega) (by rw[zaZ,hk];rfl)]
   simp only[List.mem_singleton,exists_eq_left]
   rw[zhh (p:= .mk p.op p.ctor p.n p.m p.var (p.kids.map zat)) h3]
   exact Iff.rfl
  ·have hs:=h
   unfold zas at hs
   rw[Bool.and_eq_true,zaR h4] at hs
   have hl:=zhB hs.2
   rw[zbd,if_neg (by omega),if_neg (by omega),zcQ (by rw[zbZ];omega)]
   have hd:t.data≠ -1:=fun e=>by
    have:=zb3 hs.1 h4
    unfold zah at this;rw[if_pos e] at this;simp at this
   obtain⟨f1,f2,f3⟩:=zeE hv hd
   by_cases hc:p.ctor=v.ctor
   ·rw[zuR h4 hc]
    rw[hc] at hl hs
    have hlen:p.kids.length=v.kids.length:=by omega
    rw[zlP hlen]
    have hp:=zpx ((p.kids.map zat).map zap) v.kids [[]] [] (by simp[hlen]) (by simp)
    simp only[List.nil_append,List.mem_singleton,exists_eq_left,hitL,true_and,List.length_map] at hp
    have hih:∀i,i<p.kids.length→((za9 n (nth p.kids i) (nth v.kids i)).2=true↔∃x∈nth ((p.kids.map zat).map zap) i,hitP x (nth v.kids i)=true):=fun i hi=>by
     rw[zep n m (zfk hl hs.2 i (by omega)) (f3 i (by omega))]
     have e:nth ((p.kids.map zat).map zap) i=zap (zat (nth p.kids i)):=by
      rw[zaG (by simpa using hi),zaG hi];simp
     rw[e]
    constructor
    ·intro h1
     obtain⟨l,hl2,hh⟩:=hp.2 (fun i hi=>(hih i hi).1 (h1 i hi))
     refine⟨_,List.mem_map.2 ⟨l,hl2,rfl⟩, ?_⟩
     rw[zcR (by rw[zbZ];exact h4)]
     simp only[zeI,zaZ,hc,hh,decide_true,Bool.and_self]
    ·rintro ⟨x,hx,hh⟩ i hi
     obtain⟨l,hl2,rfl⟩:=List.mem_map.1 hx
     rw[zcR (by rw[zbZ];exact h4),Bool.and_eq_true] at hh
     exact(hih i hi).2 (hp.1 ⟨l,hl2,hh.2⟩ i hi)
   ·rw[ztu h4 hc]
    constructor
    ·intro h1;cases h1
    ·rintro ⟨x,hx,hh⟩
     obtain⟨l,hl2,rfl⟩:=List.mem_map.1 hx
     rw[zcR (by rw[zbZ];exact h4),Bool.and_eq_true] at hh
     exact absurd (of_decide_eq_true hh.1) hc
  ·obtain⟨l2,s0,s1⟩:=zeO h h5
   have ee:p.kids.map zat=[zat (nth p.kids 0),zat (nth p.kids 1)]:=by
    match hk:p.kids,l2 with
    | [a,b],_=>rfl
   rw[zbd,if_neg (by omega),if_neg (by omega),zde (by rw[zbZ];exact h5) (by rw[zaZ];simpa using l2),zaZ,ee]
   have i0:=zep n (m+1) s0 hv
   have i1:=zep n (m+1) s1 hv
   have e0:nth [zat (nth p.kids 0),zat (nth p.kids 1)] 0=zat (nth p.kids 0):=rfl
   have e1:nth [zat (nth p.kids 0),zat (nth p.kids 1)] 1=zat (nth p.kids 1):=rfl
   rw[e0,e1]
   by_cases hm:(za9 n (nth p.kids 0) v).2=true
   ·rw[ztv h5 hm]
    obtain⟨x,hx,hh⟩:=i0.1 hm
    simp only[true_iff]
    exact⟨x,List.mem_append_left _ hx,hh⟩
   ·rw[ztw h5 (by simpa using hm),i1]
    constructor
    ·rintro ⟨x,hx,hh⟩
     exact⟨x,List.mem_append_right _ hx,hh⟩
    ·rintro ⟨x,hx,hh⟩
     rcases List.mem_append.1 hx with hx|hx
     ·exact absurd (i0.2 ⟨x,hx,hh⟩) hm
     ·exact⟨x,hx,hh⟩
  ·obtain⟨l1,s0⟩:=zeN h h6
   rw[zuS h6,zbd,if_neg (by omega),if_pos ⟨h6,fun e=>by rw[e] at l1;simp at l1⟩]
   exact zep n (m+1) s0 hv
theorem znD {f:Pat→Pat→Option Pat}:∀ {a b:List Pat}{acc:List Pat}{s q:List Val},a.length=b.length→a.length=s.length→acc.length=q.length→
  (∀i,i<a.length→match f (nth a i) (nth b i) with
   |none=>(hitP (nth a i) (nth s i)&&hitP (nth b i) (nth s i))=false
   |some x=>hitP x (nth s i)=(hitP (nth a i) (nth s i)&&hitP (nth b i) (nth s i)))→
  match zbo f a b acc with
   |none=>(hitL a s&&hitL b s)=false
   |some l=>hitL l (q++s)=(hitL acc q&&(hitL a s&&hitL b s))
 | [],[],acc,[],q,_,_,ha,_=>by simp[zbo,hitL]
 |p::r,p2::r2,acc,v::s,q,h1,h2,ha,hf=>by
  have h0:=hf 0 (by simp)
  have e1:nth (p::r) 0=p:=rfl
  have e2:nth (p2::r2) 0=p2:=rfl
  have e3:nth (v::s) 0=v:=rfl
  rw[e1,e2,e3] at h0
  unfold zbo
  cases hx:f p p2 with
  |none=>
   rw[hx] at h0
   simp only[hitL]
   dsimp only at h0
   cases ha1:hitP p v<;>cases hb1:hitP p2 v<;>simp_all
  |some x=>
   rw[hx] at h0
   dsimp only at h0 ⊢
   have ih:=znD (f:=f) (a:=r) (b:=r2) (acc:=acc++[x]) (s:=s) (q:=q++[v]) (by simpa using h1) (by simpa using h2) (by simp[ha]) (fun i hi=>hf (i+1) (by simpa using hi))
   cases hm:zbo f r r2 (acc++[x]) with
   |none=>
    rw[hm] at ih
    dsimp only at ih ⊢
    simp only[hitL]
    cases ha1:hitP p v<;>cases hb1:hitP p2 v<;>simp_all
   |some l=>
    rw[hm] at ih
    dsimp only at ih ⊢
    rw[show q++v::s=q++[v]++s by simp,ih,zfS acc q x v ha,h0]
    simp only[hitL]
    cases hitL acc q<;>cases hitP p v<;>cases hitP p2 v<;>cases hitL r s<;>cases hitL r2 s<;>rfl
 | [],_::_,_,_,_,h,_,_,_=>by simp at h
 |_::_,[],_,_,_,h,_,_,_=>by simp at h
 | [],[],_,_::_,_,_,h,_,_=>by simp at h
 |_::_,_::_,_,[],_,_,h,_,_=>by simp at h
theorem zqj {x a b c d:Int}:zar x (maxQ a c) (minQ b d)=(zar x a b&&zar x c d):=by
 unfold zar maxQ minQ
 rw[Bool.eq_iff_iff]
 simp only[Bool.and_eq_true,decide_eq_true_eq]
 split<;>split<;>omega
theorem ziv {w:List Data}:∀(k m:Nat){t:Ty}{a b:Pat}{v:Val},zac w k t a=true→zac w k t b=true→zaP w m t v=true→∀n,k≤n→match zan n a b with
  |none=>(hitP a v&&hitP b v)=false
  |some x=>hitP x v=(hitP a v&&hitP b v)
 |0,m,t,a,b,v,ha,_,_,_,_=>by simp[zac] at ha
 |k+1,0,t,a,b,v,_,_,hv,_,_=>by simp[zaP] at hv
 |k+1,m+1,t,a,b,v,_,_,_,0,h=>by omega
 |k+1,m+1,t,a,b,v,ha,hb,hv,n+1,hn=>by
  by_cases h1:a.op=1
  ·rw[zfW h1];dsimp only;rw[zeY h1,Bool.true_and]
  by_cases h2:b.op=1
  ·rw[zgX h1 h2];dsimp only;rw[zeY h2,Bool.and_true]
  have hs:=zbM ha hb h1 h2
  have oa:=zbc ha
  by_cases h3:a.op=3
  ·rw[zgY h3 h2,zhh h3,zhh (p:=b) (by omega),←zqj]
   split
   ·rename_i x hx
    split at hx
    ·cases hx
    ·unfold zar
     simp only[Bool.and_eq_false_iff,decide_eq_false_iff_not]
     omega
   ·rename_i x hx
    split at hx
    ·cases hx;rfl
    ·cases hx
  have h4:a.op=4:=by omega
  have hb4:b.op=4:=by omega
  rw[zcR h4,zcR hb4]
  obtain⟨m1,m2,m3,m4⟩:=zax ha h4
  obtain⟨n1,n2,n3,n4⟩:=zax hb hb4
  obtain⟨f1,f2,f3⟩:=zeE hv m2
  by_cases hc:a.ctor=b.ctor
  ·rw[zfX h4 h2 hc]
   rw[←hc] at n3 ⊢
   by_cases hcv:a.ctor=v.ctor
   ·rw[decide_eq_true hcv]
    have hl:=znD (f:=zan n) (a:=a.kids) (b:=b.kids) (acc:=[]) (s:=v.kids) (q:=[]) (by omega) (by rw[hcv] at m3;omega) rfl (fun i hi=>by
     have ka:=zaE ha (i:=i) hi
     have kb:=zaE hb (i:=i) (by omega)
     rw[zaR h4,hcv] at ka
     rw[zaR hb4,←hc,hcv] at kb
     exact ziv k m ka kb (f3 i (by rw[hcv] at m3;omega)) n (by omega))
    cases hx:zbo (zan n) a.kids b.kids [] with
    |none=>
     rw[hx] at hl
     dsimp only[Option.map_none] at hl ⊢
     rw[Bool.true_and,Bool.true_and];exact hl
    |some l=>
     rw[hx] at hl
     dsimp only[Option.map_some] at hl ⊢
     rw[zcR (by rfl)]
     show(decide (a.ctor=v.ctor)&&hitL l v.kids)=_
     rw[decide_eq_true hcv]
     simpa [hitL] using hl
   ·rw[decide_eq_false hcv]
    cases hx:zbo (zan n) a.kids b.kids [] with
    |none=>rfl
    |some l=>
     dsimp only[Option.map_some]
     rw[zcR (by rfl)]
     show(decide (a.ctor=v.ctor)&&hitL l v.kids)=_
     rw[decide_eq_false hcv];rfl
  ·rw[zfq h4 h2 hc]
   dsimp only
   by_cases hcv:a.ctor=v.ctor
   ·rw[decide_eq_false (p:=b.ctor=v.ctor) (by omega)];simp
   ·rw[decide_eq_false hcv];simp
def one (b:Bool):Nat:=if b=true then 1 else 0
theorem znk {a b:Int}{v:Val}:(zbE a b).countP (fun x=>hitP x v)=one (zar v.num a b):=by
 unfold zbE one
 split
 ·rw[List.countP_singleton,zhh rfl];rfl
 ·rename_i h
  have:zar v.num a b=false:=by unfold zar;simp only[Bool.and_eq_false_iff,decide_eq_false_iff_not];omega
  rw[this];rfl
theorem zsl {c:Int}{pre:List Pat}{s:List Pat}{v0:Val}{vf vs:List Val}{v:Val} (hv:v.kids=vf++v0::vs) (hl:pre.length=vf.length) (l:List Pat):
  (l.map (fun z=>zaS c (pre++[z]++s))).countP (fun x=>hitP x v)=one (decide (c=v.ctor)&&(hitL pre vf&&hitL s vs))*l.countP (fun z=>hitP z v0):=by
 rw[List.countP_map]
 have hz:∀z,hitP (zaS c (pre++[z]++s)) v=((decide (c=v.ctor)&&(hitL pre vf&&hitL s vs))&&hitP z v0):=fun z=>by
  rw[zcR rfl]
  show(decide (c=v.ctor)&&hitL (pre++[z]++s) v.kids)=_
  rw[hv,show vf++v0::vs=vf++([v0]++vs) by simp,List.append_assoc,zpb pre vf _ _ hl]
  show(decide (c=v.ctor)&&(hitL pre vf&&(hitP z v0&&hitL s vs)))=_
  cases decide (c=v.ctor)<;>cases hitL pre vf<;>cases hitP z v0<;>cases hitL s vs<;>rfl
 cases hb:(decide (c=v.ctor)&&(hitL pre vf&&hitL s vs)) with
 |true=>
  rw[show one true=1 from rfl,Nat.one_mul]
  congr 1
  funext z
  show hitP (zaS c (pre++[z]++s)) v=_
  rw[hz,hb,Bool.true_and]
 |false=>
  rw[show one false=0 from rfl,Nat.zero_mul]
  rw[List.countP_eq_zero]
  intro z _
  show ¬hitP (zaS c (pre++[z]++s)) v=true
  rw[hz,hb];simp
theorem zts:∀d f x y s b:Bool,one (d&&(f&&s))*one (x&& !y)+one (d&&((f&&(x&&y))&&(s&& !b)))=one (d&&(f&&((x&&s)&& !(y&&b)))):=by decide
theorem ztr:∀d f x y s b:Bool,(x&&y)=false→one (d&&(f&&s))*one (x&& !y)+0=one (d&&(f&&((x&&s)&& !(y&&b)))):=by decide
theorem zsK {x la ha bn bm:Int} (h:bn≤bm):one (zar x la (minQ ha (bn-1)))+one (zar x (maxQ la (bm+1)) ha)=one (zar x la ha&& !zar x bn bm):=by
 have e1:zar x la (minQ ha (bn-1))=(zar x la ha&&decide (x<bn)):=by
  unfold zar minQ
  rw[Bool.eq_iff_iff]
  simp only[Bool.and_eq_true,decide_eq_true_eq]
  split<;>omega
 have e2:zar x (maxQ la (bm+1)) ha=(zar x la ha&&decide (bm<x)):=by
  unfold zar maxQ
  rw[Bool.eq_iff_iff]
  simp only[Bool.and_eq_true,decide_eq_true_eq]
  split<;>omega
 have e3:zar x bn bm=(!decide (x<bn)&& !decide (bm<x)):=by
  unfold zar
  rw[Bool.eq_iff_iff]
  simp only[Bool.and_eq_true,Bool.not_eq_true',decide_eq_true_eq,decide_eq_false_iff_not]
  omega
 have key:∀q u v:Bool,(u&&v)=false→one (q&&u)+one (q&&v)=one (q&& !(!u&& !v)):=by decide
 rw[e1,e2,e3]
 refine key _ _ _ ?_
 rw[Bool.and_eq_false_iff,decide_eq_false_iff_not,decide_eq_false_iff_not]
 omega
theorem zlV {w:List Data}{f:Ty→Pat→Pat→List Pat}{m:Nat}{c:Int}{v:Val}:
  ∀ {us:List Ty}{xs bs front:List Pat}{vf vs:List Val},v.kids=vf++vs→front.length=vf.length→us.length=xs.length→bs.length=xs.length→vs.length=xs.length→
   (∀j,j<xs.length→zac w 11 (nth us j) (nth xs j)=true∧zac w 11 (nth us j) (nth bs j)=true∧zaP w m (nth us j) (nth vs j)=true∧(f (nth us j) (nth xs j) (nth bs j)).countP (fun x=>hitP x (nth vs j))=one (hitP (nth xs j) (nth vs j)&& !hitP (nth bs j) (nth vs j)))→
   (zaI f c us xs bs front).countP (fun x=>hitP x v)=one (decide (c=v.ctor)&&(hitL front vf&&(hitL xs vs&& !hitL bs vs)))
 | [],[],[],front,vf,[],_,_,_,_,_,_=>by
  simp only[zaI,List.countP_nil,hitL]
  cases decide (c=v.ctor)<;>cases hitL front vf<;>rfl
 |u::us,x::xs,y::bs,front,vf,v0::vs,hv,hfl,h1,h2,h3,hf=>by
  have h0:=hf 0 (by simp)
  have e0:nth (u::us) 0=u:=rfl
  have e1:nth (x::xs) 0=x:=rfl
  have e2:nth (y::bs) 0=y:=rfl
  have e3:nth (v0::vs) 0=v0:=rfl
  rw[e0,e1,e2,e3] at h0
  unfold zaI
  rw[List.countP_append,zsl hv hfl,h0.2.2.2]
  have hm:=ziv 11 m h0.1 h0.2.1 h0.2.2.1 11 (Nat.le_refl _)
  cases hq:zan 11 x y with
  |none=>
   rw[hq] at hm
   dsimp only at hm ⊢
   simp only[List.countP_nil,hitL]
   exact ztr _ _ _ _ _ _ hm
  |some both=>
   rw[hq] at hm
   dsimp only at hm ⊢
   have ih:=zlV (w:=w) (f:=f) (m:=m) (c:=c) (v:=v) (us:=us) (xs:=xs) (bs:=bs) (front:=front++[both]) (vf:=vf++[v0]) (vs:=vs) (by rw[hv];simp) (by simp[hfl]) (by simpa using h1) (by simpa using h2) (by simpa using h3) (fun j hj=>hf (j+1) (by simpa using hj))
   rw[ih,zfS front vf both v0 hfl,hm]
   simp only[hitL]
   exact zts _ _ _ _ _ _
 | [],_::_,_,_,_,_,_,_,h,_,_,_=>by simp at h
 |_::_,[],_,_,_,_,_,_,h,_,_,_=>by simp at h
 |_,[],_::_,_,_,_,_,_,_,h,_,_=>by simp at h
 |_,_::_,[],_,_,_,_,_,_,h,_,_=>by simp at h
 |_,[],_,_,_,_::_,_,_,_,_,h,_=>by simp at h
 |_,_::_,_,_,_,[],_,_,_,_,h,_=>by simp at h
theorem zkp {f:Ty→Pat→Pat→List Pat}{c:Int}{x:Pat}:∀ {us:List Ty}{xs bs front:List Pat},x∈zaI f c us xs bs front→∃l,x=zaS c l
 |u::us,a::xs,y::bs,front,h=>by
  unfold zaI at h
  rcases List.mem_append.1 h with h|h
  ·obtain⟨z,_,rfl⟩:=List.mem_map.1 h
   exact⟨_,rfl⟩
  ·cases hq:zan 11 a y with
   |none=>rw[hq] at h;simp at h
   |some b=>rw[hq] at h;exact zkp h
 | [],_,_,_,h=>by simp[zaI] at h
 |_::_,[],_,_,h=>by simp[zaI] at h
 |_::_,_::_,[],_,h=>by simp[zaI] at h
theorem znj {c0:Int}{g:Int→List Pat}{v:Val}{k:Nat}:∀ {l:List Int},l.Nodup→c0∈l→(∀c∈l,c≠c0→(g c).countP (fun x=>hitP x v)=0)→(g c0).countP (fun x=>hitP x v)=k→(l.flatMap g).countP (fun x=>hitP x v)=k
 | [],_,h,_,_=>by simp at h
 |a::r,hn,hm,hz,hk=>by
  rw[List.flatMap_cons,List.countP_append]
  have hn':=List.nodup_cons.1 hn
  by_cases ha:a=c0
  ·subst ha
   have h0:(r.flatMap g).countP (fun x=>hitP x v)=0:=by
    rw[List.countP_eq_zero]
    intro x hx
    obtain⟨c,hc,hx⟩:=List.mem_flatMap.1 hx
    have:=hz c (by simp[hc]) (fun e=>hn'.1 (e ▸ hc))
    rw[List.countP_eq_zero] at this
    exact this x hx
   omega
  ·have h1:=hz a (by simp) ha
   have h2:=znj (g:=g) (v:=v) (k:=k) hn'.2 (by simpa [Ne.symm ha] using hm) (fun c hc=>hz c (by simp[hc])) hk
   omega
section
variable {w:List Data} (hs:Spa w)
include hs
theorem znK:∀(n m k:Nat){t:Ty}{a b:Pat}{v:Val},n<m→m≤12→InS (w.length*4) t→zac w m t a=true→zac w n t b=true→zaP w k t v=true→(zaq w n t a b).countP (fun x=>hitP x v)=one (hitP a v&& !hitP b v)
 |0,m,k,t,a,b,v,_,_,_,_,hb,_=>by simp[zac] at hb
 |n+1,0,k,t,a,b,v,hn,_,_,_,_,_=>by omega
 |n+1,m+1,0,t,a,b,v,_,_,_,_,_,hv=>by simp[zaP] at hv
 |n+1,m+1,k+1,t,a,b,v,hn,h12,ht,ha,hb,hv=>by
  have hcc:∀a,zac w (m+1) t a=true→a.op=4→b.op=4→(zbP (zaq w n) w t a b).countP (fun x=>hitP x v)=one (hitP a v&& !hitP b v):=fun a ha h4 h4b=>by
   obtain⟨m1,m2,m3,m4⟩:=zax ha h4
   obtain⟨n1,n2,n3,n4⟩:=zax hb h4b
   obtain⟨f1,f2,f3⟩:=zeE hv m2
   rw[zcR h4,zcR h4b]
   unfold zbP
   split
   ·rename_i hc
    by_cases hcv:a.ctor=v.ctor
    ·have:=zlV (w:=w) (f:=zaq w n) (m:=k) (c:=a.ctor) (v:=v) (us:=zaa w t a.ctor) (xs:=a.kids) (bs:=b.kids) (front:=[]) (vf:=[]) (vs:=v.kids) rfl rfl m3.symm (by rw[←hc] at n3;omega) (by rw[hcv] at m3;omega) (fun j hj=>by
      have ka:=zaE ha (i:=j) hj
      have kb:=zaE hb (i:=j) (by rw[←hc] at n3;omega)
      rw[zaR h4] at ka
      rw[zaR h4b,←hc] at kb
      have kv:=f3 j (by rw[hcv] at m3;omega)
      rw[←hcv] at kv
      exact⟨zcY (by omega) ka,zcY (by omega) kb,kv,znK n m k (by omega) (by omega) (zbl hs.dp ht m1 _ (zae (by omega))) ka kb kv⟩)
     rw[this,←hc]
     simp only[hitL,one]
     cases decide (a.ctor=v.ctor)<;>cases hitL a.kids v.kids<;>cases hitL b.kids v.kids<;>rfl
    ·have hz:(zaI (zaq w n) a.ctor (zaa w t a.ctor) a.kids b.kids []).countP (fun x=>hitP x v)=0:=by
      rw[List.countP_eq_zero]
      intro x hx
      obtain⟨l,rfl⟩:=zkp hx
      rw[zcR rfl]
      show ¬(decide (a.ctor=v.ctor)&&hitL l v.kids)=true
      rw[decide_eq_false hcv];simp
     rw[hz,decide_eq_false hcv];rfl
   ·rename_i hc
    rw[List.countP_singleton,zcR h4]
    by_cases hcv:a.ctor=v.ctor
    ·rw[decide_eq_false (p:=b.ctor=v.ctor) (by omega)]
     simp only[Bool.false_and,Bool.not_false,Bool.and_true,one]
    ·rw[decide_eq_false hcv];rfl
  rcases zbc hb with h1|h3|h4
  ·rw[zeH h1,zeY h1];simp[one]
  ·have hd:=(zbt hb h3).1
   have hl:=zkT ha hd
   have ib:=zbt hb h3
   have fn:=ztl hv hd
   rw[zgH h3,zdG,List.countP_append,znk,znk,zhh h3]
   have hav:hitP a v=zar v.num (lowQ a) (zb6 a):=by
    unfold lowQ zb6
    rcases zbc ha with h|h|h
    ·rw[zeY h,if_pos h,if_pos h]
     unfold zar
     rw[decide_eq_true (p:=0≤v.num) (by omega),decide_eq_true (p:=v.num≤9) (by omega)];rfl
    ·rw[zhh h,if_neg (by omega),if_neg (by omega)]
    ·exact absurd hd (zax ha h).2.1
   rw[hav]
   exact zsK ib.2.2.1
  ·by_cases ha1:a.op=1
   ·rw[zfs h4 ha1,zeY ha1,Bool.true_and]
    have hdt:=(zax hb h4).2.1
    obtain⟨f1,f2,f3⟩:=zeE hv hdt
    obtain⟨q,rfl⟩:∃q,m=q+1:=⟨m-1,by omega⟩
    refine znj (c0:=v.ctor) (hs.ctors t ht).2 f1 (fun c hc hne=>?_) ?_
    ·rw[hcc _ (zcl hc) rfl h4,zcR rfl]
     show one ((decide (c=v.ctor)&&_)&&_)=0
     rw[decide_eq_false hne];rfl
    ·rw[hcc _ (zcl f1) rfl h4,zcR (p:=zbz w t v.ctor) rfl]
     show one ((decide (v.ctor=v.ctor)&&hitL ((zaa w t v.ctor).map fun _=>anyQ) v.kids)&& !hitP b v)=_
     rw[zkI,decide_eq_true rfl];rfl
   ·have ha4:a.op=4:=by have:=zbM ha hb ha1 (by omega);omega
    rw[zcH h4 ha4]
    exact hcc a ha ha4 h4
theorem zjl:∀(n m:Nat){t:Ty}{p:Pat}{v:Val},InS (w.length*4) t→zac w n t p=true→zaP w m t v=true→hitP p v=true→zaQ w (zai w) n t p=false
 |0,m,t,p,v,_,h,_,_=>by simp[zac] at h
 |n+1,0,t,p,v,_,_,h,_=>by simp[zaP] at h
 |n+1,m+1,t,p,v,ht,hp,hv,hh=>by
  rcases zbc hp with h1|h3|h4
  ·rw[zeC h1]
   have:=zuL hs.dp ht hv
   exact decide_eq_false (by omega)
  ·exact zj0 hp h3
  ·cases he:zaQ w (zai w) (n+1) t p with
   |false=>rfl
   |true=>
    exfalso
    obtain⟨i,hi,hd⟩:=zkC hp h4 he
    obtain⟨m1,m2,m3,m4⟩:=zax hp h4
    obtain⟨f1,f2,f3⟩:=zeE hv m2
    rw[zcR h4,Bool.and_eq_true] at hh
    have hc:=of_decide_eq_true hh.1
    rw[hc] at m3
    have hk:=(zkJ (by omega)).1 hh.2 i hi
    have hpk:=zaE hp hi
    rw[zaR h4] at hpk
    have:=zjl n m (zbl hs.dp ht m1 _ (zae (by rw[hc];omega))) hpk (by rw[hc];exact f3 i (by omega)) hk
    rw[this] at hd;cases hd
theorem zlq {t:Ty}{v:Val}{m:Nat} (ht:InS (w.length*4) t) (hv:zaP w m t v=true){l:List Pat} (hl:∀a∈l,zac w 11 t a=true):(l.filter (zbe w t)).countP (fun x=>hitP x v)=l.countP (fun x=>hitP x v):=by
 rw[List.countP_filter]
 refine List.countP_congr (fun x hx=>?_)
 simp only[Bool.and_eq_true]
 constructor
 ·exact fun h=>h.1
 ·intro h
  refine⟨h, ?_⟩
  unfold zbe
  rw[zjl hs 11 m ht (hl x hx) hv h];rfl
theorem ztA {t:Ty}{v:Val}{m:Nat} (ht:InS (w.length*4) t) (hv:zaP w m t v=true){b:Pat} (hb:zac w 10 t b=true){l:List Pat} (hl:∀a∈l,zac w 11 t a=true):
  (zbF w t l b).countP (fun x=>hitP x v)=if hitP b v=true then 0 else l.countP (fun x=>hitP x v):=by
 unfold zbF
 rw[zlq hs ht hv (fun x hx=>by
  obtain⟨a,ha,hx⟩:=List.mem_flatMap.1 hx
  exact ze4 10 11 (by omega) (hl a ha) hb x hx)]
 induction l with
 |nil=>simp
 |cons a r ih=>
  rw[List.flatMap_cons,List.countP_append,ih (fun x hx=>hl x (by simp[hx])),znK hs 10 11 m (by omega) (by omega) ht (hl a (by simp)) hb hv,List.countP_cons]
  unfold one
  cases hitP b v<;>cases hitP a v<;>simp<;>omega
theorem zq7 {t:Ty}{v:Val}{m:Nat} (ht:InS (w.length*4) t) (hv:zaP w m t v=true):∀ {away l r:List Pat},(∀b∈away,zac w 10 t b=true)→(∀a∈l,zac w 11 t a=true)→subL w t l away=some r→
  r.countP (fun x=>hitP x v)=if away.any (fun b=>hitP b v)=true then 0 else l.countP (fun x=>hitP x v)
 | [],l,r,_,_,h=>by rw[subL] at h;cases h;simp
 |b::away,l,r,hb,hl,h=>by
  rw[subL] at h
  split at h
  ·rw[zq7 ht hv (fun x hx=>hb x (by simp[hx])) (zec hl (hb b (by simp))) h,ztA hs ht hv (hb b (by simp)) hl,List.any_cons]
   cases hitP b v<;>cases away.any (fun b=>hitP b v)<;>simp
  ·cases h
theorem zqk {t:Ty}{v:Val}{m:Nat} (ht:InS (w.length*4) t) (hv:zaP w m t v=true){away l r:List Pat} (hb:∀b∈away,zac w 10 t b=true) (hl:∀a∈l,zac w 11 t a=true) (h:zaJ w t l away=some r):
  r.countP (fun x=>hitP x v)=if away.any (fun b=>hitP b v)=true then 0 else l.countP (fun x=>hitP x v):=by
 unfold zaJ at h
 rw[zq7 hs ht hv hb (fun a ha=>hl a (List.mem_filter.1 ha).1) h,zlq hs ht hv hl]
end
theorem zly {w:List Data}{g:Ty→Val→Bool}{F:Ty→List Val} (hF:∀u x,x∈F u→g u x=true):∀(us:List Ty) (vs:List Ty) (acc:List (List Val)),(∀l∈acc,all2 g vs l=true)→
  ∀l∈(us.map F).foldl (fun acc l=>acc.flatMap fun o=>l.map fun y=>o++[y]) acc,all2 g (vs++us) l=true
 | [],vs,acc,h,l,hl=>by rw[List.append_nil];exact h l hl
 |u::us,vs,acc,h,l,hl=>by
  rw[show vs++u::us=vs++[u]++us by simp]
  refine zly (w:=w) hF us (vs++[u]) _ (fun q hq=>?_) l hl
  obtain⟨o,h1,h2⟩:=List.mem_flatMap.1 hq
  obtain⟨y,h3,rfl⟩:=List.mem_map.1 h2
  have ho:=h o h1
  have hy:=hF u y h3
  clear hl hq h2 h1 h
  induction vs generalizing o with
  |nil=>
   cases o with
   |nil=>simp[all2,hy]
   |cons a r=>simp[all2] at ho
  |cons b s ih=>
   cases o with
   |nil=>simp[all2] at ho
   |cons a r=>
    simp only[all2,Bool.and_eq_true,List.cons_append] at ho ⊢
    exact⟨ho.1,ih r ho.2⟩
theorem zlz {w:List Data}:∀(n:Nat){t:Ty}{v:Val},v∈zj2 w n t→zaP w n t v=true
 |0,t,v,h=>by simp[zj2] at h
 |n+1,t,v,h=>by
  unfold zj2 at h
  unfold zaP
  by_cases ht:t.data = -1
  ·rw[if_pos ht] at h ⊢
   unfold zeU at h
   obtain⟨i,hi,rfl⟩:=List.mem_map.1 h
   rw[List.mem_range] at hi
   simp only[Bool.and_eq_true,decide_eq_true_eq]
   exact⟨rfl,by show(0:Int)≤(i:Int);omega,by show(i:Int)≤9;omega,rfl⟩
  ·rw[if_neg ht] at h ⊢
   obtain⟨c,hc,h⟩:=List.mem_flatMap.1 h
   obtain⟨l,hl,rfl⟩:=List.mem_map.1 h
   rw[if_pos ⟨rfl,hc⟩]
   have:=zly (w:=w) (g:=zaP w n) (F:=zj2 w n) (fun u x hx=>zlz n hx) (zaa w t c) [] [[]] (by simp[all2]) l hl
   exact(by simpa using this:all2 (zaP w n) (zaa w t c) l=true)
theorem zlw {w:List Data}:∀(n:Nat){t:Ty}{v:Val},zaP w n t v=true→zaP w (n+1) t v=true
 |0,t,v,h=>by simp[zaP] at h
 |n+1,t,v,h=>by
  rw[zaP] at h ⊢
  split
  ·rename_i hd;rw[if_pos hd] at h;exact h
  ·rename_i hd
   rw[if_neg hd] at h
   split at h
   ·rename_i hc
    rw[if_pos hc]
    exact zgJ (fun x _ y _ hxy=>zlw n hxy) h
   ·cases h
theorem zik {w:List Data}{n m:Nat} (h:n≤m){t:Ty}{v:Val} (hv:zaP w n t v=true):zaP w m t v=true:=by
 induction h with
 |refl=>exact hv
 |step _ ih=>exact zlw _ ih
theorem Vals.size_of {m:Nat}:∀ {l:List Val},(∀k∈l,k.size≤m)→Vals.size l≤l.length*m
 | [],_=>by simp[Vals.size]
 |x::r,h=>by
  have h1:=h x (by simp)
  have h2:=Vals.size_of (l:=r) (fun y hy=>h y (by simp[hy]))
  simp only[Vals.size,List.length_cons,Nat.succ_mul];omega
end Go.Proofs.YtpgdedpljcedpaaGreat
