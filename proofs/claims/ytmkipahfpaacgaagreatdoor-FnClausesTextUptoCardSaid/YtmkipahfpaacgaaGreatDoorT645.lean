/-
  THE LAW FnClausesText: whatever the arguments of bulk at most 1048576 are, the call returns true, and the arguments read as before.
  Conditions: the bulk alone.
-/
import Derived.Test.YtmkipahfpaacgaaGreatDoorT644
namespace Go.Proofs.YtmkipahfpaacgaaGreatDoor
open Go
set_option linter.unusedSimpArgs false
set_option linter.unusedVariables false
set_option maxRecDepth 100000
set_option maxHeartbeats 4000000
theorem zgo (x c:UInt8) (r:Str):Lib.indexByte (x::r) c=if x=c then 0 else if Lib.indexByte r c = -1 then -1 else Lib.indexByte r c+1:=by
 have e:Lib.indexByte (x::r) c=if (x == c)=true then 0 else if (Lib.indexByte r c == -1)=true then -1 else Lib.indexByte r c+1:=rfl
 rw[e];by_cases h:x=c
 ·simp[h]
 ·rw[if_neg (by simpa using h),if_neg h];by_cases h2:Lib.indexByte r c = -1
  ·rw[if_pos (by simpa using h2),if_pos h2]
  ·rw[if_neg (by simpa using h2),if_neg h2]
theorem zjv (c:UInt8):∀(s cur:Str),(Lib.indexByte s c = -1/\cutL c cur s=[cur++s]/\Lib.countByte s c=0)\/
  ∃k:Nat,Lib.indexByte s c=(k:Int)/\k<s.length/\cutL c cur s=(cur++s.take k)::cutL c [] (s.drop (k+1))/\Lib.countByte s c=Lib.countByte (s.drop (k+1)) c+1
 | [],cur=> .inl ⟨rfl,by simp[cutL],rfl⟩
 |x::r,cur=>by
  rw[zgo];by_cases h:x=c
  ·right
   refine⟨0,by rw[if_pos h];rfl,by simp,by rw[cutL,if_pos h];simp, ?_⟩;unfold Lib.countByte;rw[List.count_cons];simp[h]
  ·rw[if_neg h,cutL,if_neg h];have hc:Lib.countByte (x::r) c=Lib.countByte r c:=by
    unfold Lib.countByte;rw[List.count_cons,if_neg (by simpa using h),Nat.add_zero]
   rw[hc];rcases zjv c r (cur++[x]) with ⟨h1,h2,h3⟩|⟨k,h1,h2,h3,h4⟩
   ·exact .inl ⟨by rw[if_pos h1],by rw[h2];simp,h3⟩
   ·refine .inr ⟨k+1, ?_,by simp;omega,by rw[h3];simp,by rw[h4];simp⟩;rw[if_neg od,h1];omega
theorem zq3 (c:UInt8) (s:Str):Lib.countByte s c<=s.length:=List.count_le_length
def spB (n:Nat) (done:List Str):List AV:=done.map (fun s=> .d (.str s))++List.replicate (n-done.length) (.d (.str []))
theorem zfz (n:Nat) (done:List Str):AV.idsL (spB n done)=[]:=by
 unfold spB;induction done with
 |nil=>
  simp only[List.map_nil,List.nil_append,xak,Nat.sub_zero];induction n with
  |zero=>rfl
  |succ n ih=>rw[List.replicate_succ,AV.idsL,ih];rfl
 |cons x r ih=>
  simp only[xaf,xai,AV.idsL,AV.ids,List.nil_append];have key:∀(l:List Str) (m:Nat),AV.idsL (l.map (fun s=>AV.d (.str s))++List.replicate m (.d (.str [])))=[]:=fun l m=>by
   induction l with
   |nil=>induction m with
    |zero=>rfl
    |succ n ih=>rw[List.map_nil,List.nil_append] at ih ⊢;rw[List.replicate_succ,AV.idsL,ih];rfl
   |cons x r ih=>rw[xaf,xai,AV.idsL,ih];rfl
  exact key _ _
theorem zqq:∀(n:Nat),zbG n [.d (.str [])]=spB n []
 |0=>rfl
 |n+1=>by
  have ih:=zqq n;unfold spB at ih ⊢;simp only[List.map_nil,List.nil_append,xak,Nat.sub_zero] at ih ⊢;rw[zbG,ih,List.replicate_succ];rfl
theorem zpN {n i:Nat}{done:List Str}{p:Str} (hi:i=done.length) (h:i<n):putC (spB n done) i [.d (.str p)]=some (spB n (done++[p])):=by
 subst hi;unfold spB;have e:n-done.length=(n-(done++[p]).length)+1:=by simp;omega
 rw[e,List.replicate_succ,xag,xar];have key:∀(a b:List AV) (x v:AV),putC (a++x::b) a.length [v]=some (a++v::b):=by
  intro a;induction a with
  |nil=>intro b x v;simp only[List.nil_append,xak,putC]
  |cons y r ih=>intro b x v;simp only[xai,xab,putC,ih]
 have:=key (done.map fun s=>AV.d (.str s)) (List.replicate (n-(done++[p]).length) (.d (.str []))) (.d (.str [])) (.d (.str p));rw[xac] at this;exact this
theorem zrZ {n m:Nat}{done:List Str} (hn:n=done.length) (hm:m=done.length):zbT m 1 (spB n done)=some (done.map fun s=>[.str s]):=by
 subst hn hm;unfold spB;rw[Nat.sub_self,List.replicate_zero,xaq];have h:=zdO (f:=fun s:Str=>[D.str s]) (k:=1) (l:=done) (fun _ _=>rfl);have e:(done.flatMap fun x=>([D.str x]).map AV.d)=done.map fun s=>AV.d (.str s):=by
  clear h;induction done with
  |nil=>rfl
  |cons x r ih=>rw[List.flatMap_cons,ih];rfl
 rw[e] at h;exact h
def cutB (c:UInt8) (s:Str):Str×Str×Bool:=if Lib.indexByte s c<0 then (s,[],false) else (s.take (Lib.indexByte s c).toNat,s.drop ((Lib.indexByte s c).toNat+1),true)
theorem zlT {c:UInt8}{s:Str} (h:Lib.indexByte s c<0):cutB c s=(s,[],false):=if_pos h
theorem zj5 {c:UInt8}{s:Str}{k:Nat} (h:Lib.indexByte s c=(k:Int)):cutB c s=(s.take k,s.drop (k+1),true):=by
 unfold cutB;rw[if_neg od,h];rfl
theorem ziv {s:Str}{c:UInt8}:Ext2 Tryz.prog 301 (.str s) (.int .u8 (c.toNat:Int)) (.i (Lib.indexByte s c)):=
 Ext2.index (fn:=Tryz.f301) rfl oh rfl oi oi
theorem zk0 {s:Str}{c:UInt8}:Ext2 Tryz.prog 272 (.str s) (.int .u8 (c.toNat:Int)) (.i ((Lib.countByte s c:Nat):Int)):=
 Ext2.count (fn:=Tryz.f272) rfl oh rfl oi oi
theorem zgP {s:Str}{c:UInt8}:FnD Tryz.prog 273 [.d (.str s),.d (.int .u8 (c.toNat:Int))] [] (.d (.i (Lib.indexByte s c))) []:=by
 refine bd Tryz.f273 8 [] [] fun _ _ _ _ hk=>?_;refine Walk.ext2 ziv I .none I I I (ev ?_);focus (refine rq ?_;all_goals (first|rfl|(simp[];done)|(simp_all;done)|(simp_all;omega)|omega))
theorem ztJ {c:UInt8}:Lib.indexByte [c] c=0:=by rw[zgo,if_pos rfl]
theorem zdS {s q:Str}{c:UInt8} (hq:q.length=1) (h0:q[0]?=some c):FnD Tryz.prog 216 [.d (.str s),.d (.str q)] [] (.d (.i (Lib.indexByte s c))) []:=by
 have hs:q=s->Lib.indexByte s c=0:=fun e=>by
  subst e;match q,hq,h0 with
  | [x],_,h=>simp at h;subst h;exact ztJ
 refine bd Tryz.f216 143 [] [] fun _ _ _ _ hk=>?_;apply sq<;>intro h1 h1p h1s<;>(try simp only[Q] at h1p);exfalso;omega;apply sq<;>intro h2 h2p h2s<;>(try simp only[Q] at h2p);refine rq ?_;rotate_left;apply sq<;>intro h3 h3p h3s<;>(try simp only[Q] at h3p);refine xbF (i:=0) un9 .none I I I I h0 (wc zu3 zgP I I ?_);refine ev (rq ?_);rotate_left;exfalso;omega;all_goals (first|rfl|(rw[hs ol];done))
theorem zlF {s q:Str}{c:UInt8} (hq:q.length=1) (h0:q[0]?=some c):FnD Tryz.prog 215 [.d (.str s),.d (.str q)] [] (.d (.i (Lib.indexByte s c))) []:=by
 refine bd Tryz.f215 8 [] [] fun _ _ _ _ hk=>?_;refine wc znE (zdS hq h0) I I ?_;refine ev ?_;focus (refine rq ?_;all_goals (first|rfl|(simp[];done)|(simp_all;done)|(simp_all;omega)|omega))
theorem zlE {s q:Str}{c:UInt8} (hq:q.length=1) (h0:q[0]?=some c):FnD Tryz.prog 214 [.d (.str s),.d (.str q)] [] (.d (.i ((Lib.countByte s c:Nat):Int))) []:=by
 refine bd Tryz.f214 34 [] [] fun _ _ _ _ hk=>?_;apply sq<;>intro h1 h1p h1s<;>(try simp only[Q] at h1p);exfalso;omega;apply sq<;>intro h2 h2p h2s<;>(try simp only[Q] at h2p);refine xbF (i:=0) un9 .none I I I I h0 (Walk.ext2 zk0 I .none I I I (ev ?_));focus (refine rq ?_;all_goals (first|rfl|(simp[h1s,h1p,h2s,h2p];done)|(simp_all;done)|(simp_all;omega)|omega))
 exfalso;omega
theorem ot{p:Prop}(h:p:=by first|rfl|(simp only[zaz,occH,occE,Res.ids,xai,List.nil_append,AV.idsL,AV.ids,zaj,zai,zar,zaP,xaf,List.map_nil,upC,zfz];rfl)):p:=h
theorem zjn {s q:Str}{c:UInt8} (hs:s.length<=1048576) (hq:q.length=1) (h0:q[0]?=some c) (hne:¬q=[]):FnD Tryz.prog 127 [.d (.str s),.d (.str q),.d (.i 0),.d (.i (-1))] [] (.d (zb0 (cutL c [] s))) []:=by
 have hci:=fun(s:Str)=>zjv c s [];have hcl:=zq3 c s;generalize hN:Lib.countByte s c=N at *;have hct:=zlE (s:=s) hq h0;rw[hN] at hct;have hk5:∀x:List Str×Str,x.1.length+Lib.countByte x.2 c=N->(¬Lib.indexByte x.2 c<0\/x.1.length<N)->∃k:Nat,Lib.indexByte x.2 c=(k:Int)/\k<x.2.length/\cutL c [] x.2=x.2.take k::cutL c [] (x.2.drop (k+1))/\Lib.countByte x.2 c=Lib.countByte (x.2.drop (k+1)) c+1:=fun x h h2=>by
  rcases hci x.2 with ⟨e1,e2,e3⟩|⟨k,e1,e2,e3,e4⟩
  ·exfalso;omega
  ·exact⟨k,e1,e2,e3,e4⟩
 have hk0:∀x:List Str×Str,x.1.length+Lib.countByte x.2 c=N->¬x.1.length<N->cutL c [] x.2=[x.2]:=fun x h h2=>by
  rcases hci x.2 with ⟨e1,e2,e3⟩|⟨k,e1,e2,e3,e4⟩
  ·exact e2
  ·exfalso;omega
 clear hci;have hmin:(if (s.length:Int)+1<(N:Int)+1 then (s.length:Int)+1 else (N:Int)+1)=((N+1:Nat):Int):=by rw[if_neg od];rfl
 refine bd Tryz.f127 66 [] [999999] fun _ _ _ _ hk=>?_;apply sq<;>intro h1 h1p h1s<;>(try simp only[Q,hmin] at h1p);exfalso;omega;apply sq<;>intro h2 h2p h2s<;>(try simp only[Q,hmin] at h2p);exfalso;exact absurd ol hne;apply sq<;>intro h3 h3p h3s<;>(try simp only[Q,hmin] at h3p);refine Walk.call (cr:=[]) zuR hct I .none I I (LeL.refl _) O I (by first|rfl|(simp only[zbi,List.all_cons,List.all_nil,zcw,zb9,AV.idsL,AV.ids,zaj,zai,xaf,List.map_nil,zfz];rfl)) ot ?_;refine ev (ar (ar (Walk.minI .none I I I (ev (Walk.make (id:=70) (m:=N+1) sl84 tz9 I oh (zin I) .none I (xam (fun z:Int=>some (AV.d (D.i z))) hmin) (xam (fun z:Int=>some (AV.d (D.i z))) hmin) oq oq ot ot ot ?_)))));refine ev (ar (xaA (ι:=List Str×Str) hk (fun x=>[(10,.d (.i (x.1.length:Int))),(0,.d (.str x.2))]) [11,34,35,36,37,38,39,40,41,42,43,44,45,46,47,48,49,50,51,52,53,54,55,56,57] (fun x=>[(70,some (.box (spB (N+1) x.1)))]) (fun x=>x.1.length+Lib.countByte x.2 c=N/\cutL c [] s=x.1++cutL c [] x.2/\x.2.length<=s.length) (fun x=>x.2.length) ([],s) ⟨by simpa using hN,by simp,Nat.le_refl _⟩ ⟨⟨_,I,xaK ?_⟩,⟨⟨_,I,xaL ?_⟩,O⟩⟩ ⟨?_,O⟩ (fun x=>rfl) (fun x hg1=>?_)));iterate 2 focus (first|rfl|(simp;done)|(simp_all;done)|omega)
 focus (first|rfl|(show some (Res.box _)=some (Res.box _);rw[zqq];all_goals rfl))
 refine evc [] [999999] ?_;apply sq<;>intro h4 h4p h4s<;>(try simp only[Q,hmin] at h4p);refine Walk.call (cr:=[]) zuS (zlF (s:=x.2) hq h0) I .none I I (LeL.refl _) O I (by first|rfl|(simp only[zbi,List.all_cons,List.all_nil,zcw,zb9,AV.idsL,AV.ids,zaj,zai,xaf,List.map_nil,zfz];rfl)) ot ?_;refine ev ?_;apply sq<;>intro h5 h5p h5s<;>(try simp only[Q,hmin] at h5p);exfalso;obtain⟨k,e1,e2,e3,e4⟩:=hk5 x hg1.1 (.inr od);omega;obtain⟨k,e1,e2,e3,e4⟩:=hk5 x hg1.1 (.inl ol);refine ar (xbw (b:=k) un9 .none I I I od od ?_);refine xbE sl84 .none I I I I od ?_;refine Walk.store ty9 .none I I I I I I oe ((zpN (by simp;done) od)) ?_;apply tv;refine ar (xbx (b:=k+1) un9 .none I I I od od ?_);refine ev (ar (xaj ((x.1++[x.2.take k],x.2.drop (k+1))) ⟨⟨by simp;omega,by rw[hg1.2.1,e3];simp,by simp;omega⟩,om,sx ⟨⟨_,I,xaK ?_⟩,⟨⟨_,I,xaL ?_⟩,O⟩⟩ ⟨?_,O⟩⟩));iterate 2 focus (first|rfl|(simp;done)|(simp_all;done)|omega)
 focus (first|rfl|(show some (Res.box _)=some (Res.box _);rw[zqq];all_goals rfl))
 refine xbE sl84 .none I I I I od ?_;refine Walk.store ty9 .none I I I I I I oe ((zpN (by simp;done) od)) ?_;apply tv;refine ar (Walk.cutM_h (b:=x.1.length+1) sl84 .none I I I od od ?_);refine ev (CWp.frz hk 8 70 _ _ I I (zrZ om (by simp;done)) I ?_);refine CWp.ret (rq ?_);rotate_left;exfalso;omega;all_goals (rw[hg1.2.1,hk0 x hg1.1 od])
theorem zkw {s:Str}{c:UInt8} (hs:s.length<=1048576):FnD Tryz.prog 57 [.d (.str s),.d (.str [c])] [] (.d (zb0 (cutL c [] s))) []:=by
 refine bd Tryz.f57 8 [] [] fun _ _ _ _ hk=>?_;refine wc zus (zjn hs I I oe) I I ?_;refine ev ?_;focus (refine rq ?_;all_goals (first|rfl|(simp[];done)|(simp_all;done)|(simp_all;omega)|omega))
theorem zjQ {s q:Str}{c:UInt8} (hs:s.length<=1048576) (hq:q.length=1) (h0:q[0]?=some c):FnD Tryz.prog 128 [.d (.str s),.d (.str q)] [] (.tup [.d (.str (cutB c s).1),.d (.str (cutB c s).2.1),.d (.bool (cutB c s).2.2)]) []:=by
 rcases zjv c s [] with ⟨e1,e2,e3⟩|⟨k,e1,e2,e3,e4⟩
 ·rw[zlT od];refine bd Tryz.f128 23 [] [] fun _ _ _ _ hk=>?_;refine wc znE (zdS hq h0) I I ?_;refine ev ?_;apply sq<;>intro h1 h1p h1s<;>(try simp only[Q] at h1p);exfalso;omega;refine rn0 (.cons (.tmp I) (.cons (.tmp I) (.cons (.tmp I) .nil))) (.tup (qeee ?_ ?_ ?_));rotate_left 3;all_goals (rfl)
 ·rw[zj5 e1];refine bd Tryz.f128 23 [] [] fun _ _ _ _ hk=>?_;refine wc znE (zdS hq h0) I I ?_;refine ev ?_;apply sq<;>intro h1 h1p h1s<;>(try simp only[Q] at h1p);refine xbw (b:=k) un9 .none I I I od od ?_;refine evd [] [] (ar (xbx (b:=k+1) un9 .none I I I od od ?_));refine evd [] [] (dr (rn0 (.cons (.tmp I) (.cons (.tmp I) (.cons (.tmp I) .nil))) (.tup (qeee ?_ ?_ ?_))));rotate_left 3;exfalso;omega;all_goals (rfl)
theorem zmp {s:Str}{c:UInt8} (hs:s.length<=1048576):FnD Tryz.prog 58 [.d (.str s),.d (.str [c])] [] (.tup [.d (.str (cutB c s).1),.d (.str (cutB c s).2.1),.d (.bool (cutB c s).2.2)]) []:=by
 refine bd Tryz.f58 13 [] [] fun _ _ _ _ hk=>?_;refine wc zut (zjQ hs I I) I I ?_;refine ev (rn0 (.cons (.tmp I) (.cons (.tmp I) (.cons (.tmp I) .nil))) (.tup (qeee ?_ ?_ ?_)));rotate_left 3;all_goals (rfl)
def rpR (w:List Data) (t:Ty) (s:Str):Pat×Rd:=patR w 10 t ⟨s,false⟩
def rpOk (w:List Data) (t:Ty) (s:Str):Bool:= !(rpR w t s).2.bad&&(decide ((rpR w t s).2.s=[])&&isP w t (rpR w t s).1)
def ze9 (s:Str):Prop:=¬s.length=3\/((nth s 0).toNat:Int)<97\/122<((nth s 0).toNat:Int)\/((nth s 2).toNat:Int)<48\/57<((nth s 2).toNat:Int)
instance (s:Str):Decidable (ze9 s):=by unfold ze9;infer_instance
def rgV (s:Str):Gd:=if ze9 s then ⟨0,0,0⟩ else ⟨if ((nth s 1).toNat:Int)=61 then 2 else 1,((nth s 0).toNat:Int)-97,((nth s 2).toNat:Int)-48⟩
def rgOk (s:Str):Bool:=if ze9 s then false else decide (((nth s 1).toNat:Int)=60)||decide (((nth s 1).toNat:Int)=61)
def zdC (w:List Data) (t:Ty) (p:Str):Bool:= !rpOk w t (cutB 32 p).1||((cutB 32 p).2.2&& !rgOk (cutB 32 p).2.1)
def piC (w:List Data) (t:Ty) (p:Str):Cl:=⟨(rpR w t (cutB 32 p).1).1,if (cutB 32 p).2.2=true then rgV (cutB 32 p).2.1 else ⟨0,0,0⟩⟩
def pcI (w:List Data) (t:Ty) (s:Str):Option (List Cl):=
 if zaK w t=false then none else if s=[] then some [] else if 8<(pcP s).length then none else if (pcP s).any (zdC w t)=true then none
 else if zaM w t ((pcP s).map (piC w t))=true then some ((pcP s).map (piC w t)) else none
theorem zsi (c:UInt8) (s:Str):(cutB c s).1.length<=s.length/\(cutB c s).2.1.length<=s.length:=by
 unfold cutB;split
 ·simp
 ·simp;omega
theorem ziy {w:List Data} (hw:WT w) (hA3:A3 w){a k:Int} (ht:TyIn w.length ⟨a,k⟩){s:Str} (hs:s.length<=1000000000000):
  FnD Tryz.prog 99 [.d (zah w),.agg [.d (.i a),.d (.i k)],.d (.str s)] [] (.tup [.agg [.d (.i (rpR w ⟨a,k⟩ s).1.op),.d (.i (rpR w ⟨a,k⟩ s).1.ctor),.d (.i (rpR w ⟨a,k⟩ s).1.n),.d (.i (rpR w ⟨a,k⟩ s).1.m),.d (.i (rpR w ⟨a,k⟩ s).1.var),.d (zau (rpR w ⟨a,k⟩ s).1.kids)],.d (.bool (rpOk w ⟨a,k⟩ s))]) []:=by
 have hp:=zew hw hA3 10 (a:=a) (k:=k) (r:=⟨s,false⟩) (Nat.le_refl _) ht hs;have hok:=zjB hA3 10 (t:=⟨a,k⟩) ⟨s,false⟩ ht;rw[show(11:Int)-((10:Nat):Int)=1 from by decide] at hp;have hv:=zjK hw ht hok.1;have e1:rpOk w ⟨a,k⟩ s=(!(patR w 10 ⟨a,k⟩ ⟨s,false⟩).2.bad&&(decide ((patR w 10 ⟨a,k⟩ ⟨s,false⟩).2.s=[])&&isP w ⟨a,k⟩ (patR w 10 ⟨a,k⟩ ⟨s,false⟩).1)):=rfl;rw[e1,show rpR w ⟨a,k⟩ s=patR w 10 ⟨a,k⟩ ⟨s,false⟩ from rfl];generalize patR w 10 ⟨a,k⟩ ⟨s,false⟩=z at *;refine bd Tryz.f99 36 [] [] fun _ _ _ _ hk=>?_;refine bx 3004 ?_;refine ab 3006 tz60 ?_;refine ev (bu [0,1] [_,_] zv7 ?_);refine bx 901 ?_;refine ev (wd zdZ hp I I ⟨I,O⟩ ?_);refine ab 3009 tz60 ?_;refine so ty60 ?_;apply tv;apply sq<;>intro h1 h1p h1s<;>(try simp only[Q] at h1p);apply sq<;>intro h2 h2p h2s<;>(try simp only[Q] at h2p);refine Walk.call (cr:=[]) zue hv I (.some I I h2) I I (LeL.refl _) O I I I (evd [] [(30,true)] ?_ ⟨⟨_,I,h2⟩,O⟩);refine so ty60 ?_;refine evd [] [] (dr (rn0 (rc ty60) (.tup (.cons (.agg (qeeeeee ?_ ?_ ?_ ?_ ?_ ?_)) (qe ?_)))));rotate_left 7;refine so ty60 ?_;refine evd [] [] (dr (rn0 (rc ty60) (.tup (.cons (.agg (qeeeeee ?_ ?_ ?_ ?_ ?_ ?_)) (qe ?_)))));rotate_left 7;refine sqF ?_;refine so ty60 ?_;refine evd [] [] (dr (rn0 (rc ty60) (.tup (.cons (.agg (qeeeeee ?_ ?_ ?_ ?_ ?_ ?_)) (qe ?_)))));rotate_left 7;all_goals (first|rfl|(simp_all;done))
theorem zoE {x k:Int} (h1:k<=x) (h2:x<=255) (hk:0<=k):IntKind.i64.wrap (IntKind.u8.wrap (x-k))=x-k:=by
 rw[zeV,zcV od];omega
theorem zrP {s:Str} (h:ze9 s):rgV s=⟨0,0,0⟩/\rgOk s=false:=⟨if_pos h,if_pos h⟩
theorem zql {s:Str} (h:¬ze9 s) (h1:((nth s 1).toNat:Int)=61):rgV s=⟨2,((nth s 0).toNat:Int)-97,((nth s 2).toNat:Int)-48⟩/\rgOk s=true:=by
 unfold rgV rgOk;rw[if_neg h,if_neg h,if_pos h1];exact⟨rfl,by rw[xax h1,Bool.or_true]⟩
theorem znn {s:Str} (h:¬ze9 s) (h1:¬((nth s 1).toNat:Int)=61):rgV s=⟨1,((nth s 0).toNat:Int)-97,((nth s 2).toNat:Int)-48⟩/\rgOk s=decide (((nth s 1).toNat:Int)=60):=by
 unfold rgV rgOk;rw[if_neg h,if_neg h,if_neg h1];exact⟨rfl,by rw[xaw h1,Bool.or_false]⟩
theorem zjM {s:Str} (hs:s.length<=1000000000000):FnD Tryz.prog 111 [.d (.str s)] [] (.tup [.agg [.d (.i (rgV s).op),.d (.i (rgV s).var),.d (.i (rgV s).n)],.d (.bool (rgOk s))]) []:=by
 have v0:=zfR (nth s 0);have v2:=zfR (nth s 2);have b0:=(nth s 0).toNat_lt;have b2:=(nth s 2).toNat_lt;have q0:(¬s.length=3\/((nth s 0).toNat:Int)<97\/122<((nth s 0).toNat:Int)\/((nth s 2).toNat:Int)<48\/57<((nth s 2).toNat:Int))->rgV s=⟨0,0,0⟩/\rgOk s=false:=zrP;have q1:¬(¬s.length=3\/((nth s 0).toNat:Int)<97\/122<((nth s 0).toNat:Int)\/((nth s 2).toNat:Int)<48\/57<((nth s 2).toNat:Int))->((nth s 1).toNat:Int)=61->rgV s=⟨2,((nth s 0).toNat:Int)-97,((nth s 2).toNat:Int)-48⟩/\rgOk s=true:=zql;have q2:¬(¬s.length=3\/((nth s 0).toNat:Int)<97\/122<((nth s 0).toNat:Int)\/((nth s 2).toNat:Int)<48\/57<((nth s 2).toNat:Int))->¬((nth s 1).toNat:Int)=61->rgV s=⟨1,((nth s 0).toNat:Int)-97,((nth s 2).toNat:Int)-48⟩/\rgOk s=decide (((nth s 1).toNat:Int)=60):=znn;generalize rgV s=g at *;generalize rgOk s=o at *;refine bd Tryz.f111 51 [31,35] [] fun _ _ _ _ hk=>?_;refine ab 3002 zlK ?_;refine evs [31,35] [] ?_;apply sq<;>intro h1 h1p h1s<;>(try simp only[Q,xal] at h1p);refine sqT ?_;refine sqT ?_;refine sqT ?_;refine sqT ?_;refine bu [] [] zff ?_;refine so zby ?_;refine evs [31,35] [] (rn0 (rc zby) (.tup (.cons (.agg (qeee ?_ ?_ ?_)) (qe ?_))));rotate_left 4;refine xbF (i:=0) un9 (.some I I h1) I I I I (zaS od) ?_;refine evs [31,35] [(8,false)] ?_ ⟨⟨_,I,h1⟩,O⟩;apply sq<;>intro h3 h3p h3s<;>(try simp only[Q,xal] at h3p);refine sqT ?_;refine sqT ?_;refine sqT ?_;refine bu [] [] zff ?_;refine so zby ?_;refine evs [31,35] [] (rn0 (rc zby) (.tup (.cons (.agg (qeee ?_ ?_ ?_)) (qe ?_))));rotate_left 4;refine xbF (i:=0) un9 (.some I I h3) I I I I (zaS od) ?_;refine evs [31,35] [(13,false)] ?_ ⟨⟨_,I,h3⟩,O⟩;apply sq<;>intro h5 h5p h5s<;>(try simp only[Q,xal] at h5p);refine sqT ?_;refine sqT ?_;refine bu [] [] zff ?_;refine so zby ?_;refine evs [31,35] [] (rn0 (rc zby) (.tup (.cons (.agg (qeee ?_ ?_ ?_)) (qe ?_))));rotate_left 4;refine xbF (i:=2) un9 (.some I I h5) I I I I (zaS od) ?_;refine evs [31,35] [(18,false)] ?_ ⟨⟨_,I,h5⟩,O⟩;apply sq<;>intro h7 h7p h7s<;>(try simp only[Q,xal] at h7p);refine sqT ?_;refine bu [] [] zff ?_;refine so zby ?_;refine evs [31,35] [] (rn0 (rc zby) (.tup (.cons (.agg (qeee ?_ ?_ ?_)) (qe ?_))));rotate_left 4;refine xbF (i:=2) un9 (.some I I h7) I I I I (zaS od) ?_;refine evs [31,35] [(23,false)] ?_ ⟨⟨_,I,h7⟩,O⟩;apply sq<;>intro h9 h9p h9s<;>(try simp only[Q,xal] at h9p);refine bu [] [] zff ?_;refine so zby ?_;refine evs [31,35] [] (rn0 (rc zby) (.tup (.cons (.agg (qeee ?_ ?_ ?_)) (qe ?_))));rotate_left 4;refine xbF (i:=0) un9 .none I I I I (zaS od) ?_;refine xbX .none I I I (xbv oy un3 .none I I ?_);refine evd [31,35] [] (xbF (i:=2) un9 .none I I I I (zaS od) ?_);refine xbX .none I I I (xbv oy un3 .none I I ?_);refine bu [0,1,2] [_,_,_] zff ?_;refine ab 3004 zlK ?_;refine so zby ?_;refine dr (xbF (i:=1) un9 .none I I I I (zaS od) ?_);refine evs [31,35] [] ?_;apply sq<;>intro h10 h10p h10s<;>(try simp only[Q,xal] at h10p);refine so ty3 ?_;apply tv;refine xbF (i:=1) un9 .none I I I I (zaS od) ?_;refine evd [31,35] [] ?_;apply sq<;>intro h11 h11p h11s<;>(try simp only[Q,xal] at h11p);refine so zby ?_;refine evd [31,35] [] (dr (rn0 (rc zby) (.tup (.cons (.agg (qeee ?_ ?_ ?_)) (qe ?_)))));rotate_left 4;refine xbF (i:=1) un9 (.some I I h11) I I I I (zaS od) ?_;refine evd [31,35] [(46,false)] ?_ ⟨⟨_,I,h11⟩,O⟩;refine so zby ?_;refine evd [31,35] [] (dr (rn0 (rc zby) (.tup (.cons (.agg (qeee ?_ ?_ ?_)) (qe ?_)))));rotate_left 4;refine xbF (i:=1) un9 .none I I I I (zaS od) ?_;refine evd [31,35] [] ?_;apply sq<;>intro h12 h12p h12s<;>(try simp only[Q,xal] at h12p);refine so zby ?_;refine evd [31,35] [] (dr (rn0 (rc zby) (.tup (.cons (.agg (qeee ?_ ?_ ?_)) (qe ?_)))));rotate_left 4;refine xbF (i:=1) un9 (.some I I h12) I I I I (zaS od) ?_;refine evd [31,35] [(46,false)] ?_ ⟨⟨_,I,h12⟩,O⟩;refine so zby ?_;refine evd [31,35] [] (dr (rn0 (rc zby) (.tup (.cons (.agg (qeee ?_ ?_ ?_)) (qe ?_)))));rotate_left 4;all_goals (first|(exfalso;omega)|(rw[(q0 od).1];all_goals rfl)|(rw[(q0 od).2];all_goals rfl)|(rw[(q1 od od).1];all_goals first|rfl|exact xam D.i (zoE od od od))|(rw[(q1 od od).2];all_goals first|rfl|exact xam D.bool (xax od).symm|exact xam D.bool (xax od)|exact xam D.bool (decide_eq_decide.2 od))|(rw[(q2 od od).1];all_goals first|rfl|exact xam D.i (zoE od od od))|(rw[(q2 od od).2];all_goals first|rfl|exact xam D.bool (xax od).symm|exact xam D.bool (xax od)|exact xam D.bool (decide_eq_decide.2 od)))
theorem zpx {w:List Data}{t:Ty}{s:Str} (h0:zaK w t=true) (h1:¬s=[]){y:Str} (hy:y∈pcP s) (hb:zdC w t y=true):pcI w t s=none:=by
 unfold pcI;rw[if_neg (by rw[h0];simp),if_neg h1];split
 ·rfl
 ·rw[if_pos (List.any_eq_true.2 ⟨y,hy,hb⟩)]
theorem zom {w:List Data}{t:Ty}{s:Str} (h0:zaK w t=true) (h1:¬s=[]) (h2:8<(pcP s).length):pcI w t s=none:=by
 unfold pcI;rw[if_neg (by rw[h0];simp),if_neg h1,if_pos h2]
theorem zjD {w:List Data}{t:Ty} (h0:zaK w t=true):pcI w t []=some []:=by
 unfold pcI;rw[if_neg (by rw[h0];simp),if_pos rfl]
theorem zon {w:List Data}{t:Ty}{s:Str} (h0:zaK w t=false):pcI w t s=none:=if_pos h0
theorem zjC {w:List Data}{t:Ty}{s:Str} (h0:zaK w t=true) (h1:¬s=[]) (h2:¬8<(pcP s).length) (h3:∀y∈pcP s,zdC w t y=false):
  pcI w t s=if zaM w t ((pcP s).map (piC w t))=true then some ((pcP s).map (piC w t)) else none:=by
 unfold pcI;rw[if_neg (by rw[h0];simp),if_neg h1,if_neg h2,if_neg (by rw[List.any_eq_true];rintro ⟨y,hy,hb⟩;rw[h3 y hy] at hb;cases hb)]
theorem ze2 {w:List Data} (hs:WSmall w){a k:Int}{s:Str} (hsl:s.length<=1048576):
  FnD Tryz.prog 47 [.d (zah w),.agg [.d (.i a),.d (.i k)],.d (.str s)] [] (.tup [.d (zbu ((pcI w ⟨a,k⟩ s).getD [])),.d (.bool (pcI w ⟨a,k⟩ s).isSome)]) []:=by
 have h0:=zf1 hs (a:=a) (b:=k);cases htv:zaK w ⟨a,k⟩ with
 |false=>
  rw[htv] at h0;rw[zon htv];refine bd Tryz.f47 75 [] [] fun _ _ _ _ hk=>?_;refine bx 3004 ?_;refine ev (wc zni h0 I I ?_);refine ev ?_;apply sq<;>intro h1 h1p h1s<;>(try simp only[Q] at h1p);refine rn0 (r2 I I) (.tup (qne ?_ ?_));rotate_left 2;exfalso;simp at *;all_goals (rfl)
 |true=>
  rw[htv] at h0;obtain⟨wv,ht,_⟩:=zcn htv;have hw:=zco hs wv;have hA:=zik hs wv;have q1:=fun y=>zpx (s:=s) (y:=y) htv;have q2:=zom (s:=s) htv;have q3:=zjD htv;have q4:=zjC (s:=s) htv;have hpl:∀y∈pcP s,y.length<=s.length:=fun y hy=>by have:=zgy 47 s [] y hy;simpa using this
  have hcl:=fun y:Str=>zsi 32 y;have hspl:FnD Tryz.prog 57 [.d (.str s),.d (.str [47])] [] (.d (zb0 (pcP s))) []:=zkw hsl;have hcut:=fun(y:Str) (hy:y∈pcP s)=>zmp (s:=y) (c:=32) (by have:=hpl y hy;omega);have hrp:=fun(y:Str) (hy:y∈pcP s)=>ziy hw hA ht (s:=(cutB 32 y).1) (by have:=hpl y hy;have:=(hcl y).1;omega);have hrg:=fun(y:Str) (hy:y∈pcP s)=>zjM (s:=(cutB 32 y).2.1) (by have:=hpl y hy;have:=(hcl y).2;omega);have hpb:∀y,zdC w ⟨a,k⟩ y=(!rpOk w ⟨a,k⟩ (cutB 32 y).1||((cutB 32 y).2.2&& !rgOk (cutB 32 y).2.1)):=fun _=>rfl;have hpc1:∀y,(cutB 32 y).2.2=true->piC w ⟨a,k⟩ y=⟨(rpR w ⟨a,k⟩ (cutB 32 y).1).1,rgV (cutB 32 y).2.1⟩:=fun y h=>by unfold piC;rw[if_pos h]
  have hpc0:∀y,(cutB 32 y).2.2=false->piC w ⟨a,k⟩ y=⟨(rpR w ⟨a,k⟩ (cutB 32 y).1).1,⟨0,0,0⟩⟩:=fun y h=>by unfold piC;rw[if_neg (by rw[h];simp)]
  have hpok:∀y,(piC w ⟨a,k⟩ y).pat.ok:=fun y=>(zjB hA 10 (t:=⟨a,k⟩) ⟨(cutB 32 y).1,false⟩ ht).1;have hcv:=fun(l:List Str) (hl:l.length<=8)=>zdA hs (a:=a) (k:=k) (l:=l.map (piC w ⟨a,k⟩)) ⟨by rw[xac];omega,fun c hc=>by obtain⟨y,_,rfl⟩:=List.mem_map.1 hc;exact hpok y⟩;have hpbT:∀y,(rpOk w ⟨a,k⟩ (cutB 32 y).1=false\/((cutB 32 y).2.2=true/\rgOk (cutB 32 y).2.1=false))->zdC w ⟨a,k⟩ y=true:=fun y h=>by
   rw[hpb];rcases h with h|⟨h1,h2⟩
   ·rw[h];rfl
   ·rw[h1,h2];simp
  have hpbF:∀y,rpOk w ⟨a,k⟩ (cutB 32 y).1=true->((cutB 32 y).2.2=false\/rgOk (cutB 32 y).2.1=true)->zdC w ⟨a,k⟩ y=false:=fun y h1 h=>by
   rw[hpb,h1];rcases h with h|h
   ·rw[h];rfl
   ·rw[h];simp
  generalize pcP s=P at *;by_cases hsn:s=[]
  ·subst hsn;rw[q3];refine bd Tryz.f47 75 [] [] fun _ _ _ _ hk=>?_;refine bx 3004 ?_;refine ev (wc zni h0 I I ?_);refine ev ?_;apply sq<;>intro h1 h1p h1s<;>(try simp only[Q] at h1p);exfalso;simp at *;apply sq<;>intro h2 h2p h2s<;>(try simp only[Q] at h2p);refine rn0 (r2 I I) (.tup (qne ?_ ?_));rotate_left 2;exfalso;simp at *;all_goals (rfl)
  refine bd Tryz.f47 75 [9] [] fun _ _ _ _ hk=>?_;refine bx 3004 ?_;refine evs [9] [] (wc zni h0 I I ?_);refine evs [9] [] ?_;apply sq<;>intro h1 h1p h1s<;>(try simp only[Q,xal,xac] at h1p);exfalso;simp at *;apply sq<;>intro h2 h2p h2s<;>(try simp only[Q,xal,xac] at h2p);exfalso;exact hsn ol;refine wc zvN hspl I I ?_;refine evs [9] [] ?_;apply sq<;>intro h3 h3p h3s<;>(try simp only[Q,xal,xac] at h3p);refine rn0 (r2 I I) (.tup (qne ?_ ?_));rotate_left 2;refine xbl 1 9 .none I I ?_;apply tv;refine xaA (ι:=List (Str)×List (Str)) hk (fun x=>[(32,.d (.i (x.1.length:Int))),(9,.gl 1 ((x.1.map (piC w ⟨a,k⟩)).map Cl.c))]) [6,7,11,12,13,14,15,16,17,18,33,34,35,36,37,38,39,40,41,42,43,44,45,46,47,48,49,50,51,52,53,54,55,56,57,58,59,60,61,62,63,64,65,66,67,68] (fun x=>[(1,some (.tok (((x.1.map (piC w ⟨a,k⟩)).map Cl.c)).length 9))]) (fun x=>x.1++x.2=P/\∀z∈x.1,zdC w ⟨a,k⟩ z=false) (fun x=>x.2.length) ([],P) ⟨by simp,by simp⟩ ⟨⟨_,I,xaK ?_⟩,⟨⟨_,I,LeA.glg ?_⟩,O⟩⟩ ⟨zag ?_,O⟩ (fun x=>rfl) (fun x hg1=>?_);iterate 3 focus (first|rfl|(simp;done)|omega|(simp only[xag,xaf,List.map_nil];rw[hpc1 y ou];done)|(simp only[xag,xaf,List.map_nil];rw[hpc0 y ou];done)|(simp;omega))
  obtain⟨pre,rest⟩:=x;dsimp only at hg1 ⊢;refine evc [9] [] ?_;apply sq<;>intro h4 h4p h4s<;>(try simp only[Q,xal,xac] at h4p);rcases rest with _|⟨y,rest⟩
  ·exfalso;simp_all
  refine ixq sl84 I I I (zaE hg1.1) I (evs [9] [] (wc zvO (hcut y (by rw[<-hg1.1];simp)) I I ?_));refine evs [9] [] (wc zvQ (hrp y (by rw[<-hg1.1];simp)) I I ?_);refine evs [9] [] (ab 3015 tz60 ?_);refine so ty60 ?_;refine evs [9] [] (bu [0] [_] znp ?_);refine ab 3017 zep ?_;refine so zhc ?_;apply tv;apply sq<;>intro h5 h5p h5s<;>(try simp only[Q,xal,xac] at h5p);refine wc zui (hrg y (by rw[<-hg1.1];simp)) I I ?_;refine evs [9] [] (so zby ?_);refine evs [9] [] ?_;apply sq<;>intro h6 h6p h6s<;>(try simp only[Q,xal,xac] at h6p);refine sqT ?_;refine rn0 (r2 I I) (.tup (qne ?_ ?_));rotate_left 2;apply sq<;>intro h8 h8p h8s<;>(try simp only[Q,xal,xac] at h8p);refine rn0 (r2 I I) (.tup (qne ?_ ?_));rotate_left 2;refine si [0] [_] sl74 zep ?_;refine Walk.append sl74 zgm I .none I I I I (zdk I (by first|rfl|(simp;done)|(simp;omega))) ox om om ?_;refine asg ?_;apply tv;refine ar (xaj ((pre++[y],rest)) ⟨⟨(by have hz:=hg1.1;rw[<-hz];simp),(by intro z hz;rcases List.mem_append.1 hz with hz|hz;exact hg1.2 z hz;rw[List.mem_singleton.1 hz];exact hpbF y ou (by first|exact .inl ol|exact .inr ol|exact .inl o0|exact .inr o0))⟩,oe,sx ⟨⟨_,I,xaK ?_⟩,⟨⟨_,I,LeA.glg ?_⟩,O⟩⟩ ⟨zag ?_,O⟩⟩);iterate 3 focus (first|rfl|(simp;done)|omega|(simp only[xag,xaf,List.map_nil];rw[hpc1 y ou];done)|(simp only[xag,xaf,List.map_nil];rw[hpc0 y ou];done)|(simp;omega))
  apply sq<;>intro h9 h9p h9s<;>(try simp only[Q,xal,xac] at h9p);refine sqT ?_;refine rn0 (r2 I I) (.tup (qne ?_ ?_));rotate_left 2;apply sq<;>intro h11 h11p h11s<;>(try simp only[Q,xal,xac] at h11p);refine rn0 (r2 I I) (.tup (qne ?_ ?_));rotate_left 2;refine si [0] [_] sl74 zep ?_;refine Walk.append sl74 zgm I .none I I I I (zdk I (by first|rfl|(simp;done)|(simp;omega))) ox om om ?_;refine asg ?_;apply tv;refine ar (xaj ((pre++[y],rest)) ⟨⟨(by have hz:=hg1.1;rw[<-hz];simp),(by intro z hz;rcases List.mem_append.1 hz with hz|hz;exact hg1.2 z hz;rw[List.mem_singleton.1 hz];exact hpbF y ou (by first|exact .inl ol|exact .inr ol|exact .inl o0|exact .inr o0))⟩,oe,sx ⟨⟨_,I,xaK ?_⟩,⟨⟨_,I,LeA.glg ?_⟩,O⟩⟩ ⟨zag ?_,O⟩⟩);iterate 3 focus (first|rfl|(simp;done)|omega|(simp only[xag,xaf,List.map_nil];rw[hpc1 y ou];done)|(simp only[xag,xaf,List.map_nil];rw[hpc0 y ou];done)|(simp;omega))
  have hrest:rest=[]:=by
   rcases rest with _|⟨a,b⟩
   ·rfl
   ·exfalso;have hz:=xam List.length (hg1.1);simp only[xaa,xab,xac] at hz;omega
  subst hrest;refine Walk.call (cr:=[]) zkP (hcv pre (by have h9:=xam List.length hg1.1;simp only[xaq] at h9;omega)) I .none I I (.cons (.refl _) (.cons (.refl _) (.cons (.gl _ _) .nil))) O I I I ?_;refine evs [9] [] ?_;apply sq<;>intro h12 h12p h12s<;>(try simp only[Q,xal,xac] at h12p);refine rn0 (r2 I I) (.tup (qne ?_ ?_));rotate_left 2;refine rn0 (r2 I I) (.tup (qge ?_ ?_));rotate_left 2;all_goals (first|contradiction|(rw[q2 hsn od];all_goals rfl)|(rw[q1 y hsn (by rw[<-hg1.1];simp) (hpbT y (by first|exact .inl ol|exact .inr ⟨by assumption,by assumption⟩))];all_goals rfl)|(have h9:pre=P:=(by have h8:=hg1.1;simpa using h8);subst h9;rw[q4 hsn od hg1.2];first|(rw[if_pos ol];all_goals rfl)|(rw[if_neg (ne_true_of_eq_false ol)];all_goals rfl)))
set_option maxHeartbeats 2000000
def jnS (c:UInt8):Bool->List Str->Str
 |_,[]=>[]
 |b,y::r=>((if b=true then [] else [c])++y)++jnS c false r
theorem zlU (c:UInt8):∀(s cur:Str),jnS c true (cutL c cur s)=cur++s
 | [],cur=>by simp[cutL,jnS]
 |x::r,cur=>by
  rw[cutL];split
  ·rename_i h;subst h;have ih:=zlU x r [];cases hq:cutL x [] r with
   |nil=>have:=zfo x r [];rw[hq] at this;simp at this
   |cons y ys=>
    rw[hq] at ih;simp only[jnS,if_true,List.nil_append] at ih;rw[jnS,jnS];simp only[if_true,List.nil_append,Bool.false_eq_true,if_false,xai,xar];rw[ih]
  ·rw[zlU c r (cur++[x])];simp
theorem zhU {c:UInt8}:∀ {y:Str} (r cur:Str),c∉y->cutL c cur (y++r)=cutL c (cur++y) r
 | [],r,cur,_=>by simp
 |x::y,r,cur,h=>by
  simp only[List.mem_cons,not_or] at h;rw[xai,cutL,if_neg (fun e=>h.1 e.symm),zhU r (cur++[x]) h.2];simp
theorem zn8 {c:UInt8}:∀ {ys:List Str},ys≠[]->(∀y∈ys,c∉y)->cutL c [] (jnS c true ys)=ys
 | [],h,_=>absurd rfl h
 | [y],_,h=>by
  rw[jnS,jnS,if_pos rfl,List.nil_append,zhU [] [] (h y oe)];rfl
 |y::z::r,_,h=>by
  have ih:=zn8 (c:=c) (ys:=z::r) oe (fun u hu=>h u (by simp[hu]));have e:jnS c true (y::z::r)=y++(c::jnS c true (z::r)):=by simp[jnS]
  rw[e,zhU _ [] (h y oe),cutL,if_pos rfl,ih];rfl
theorem zn7 {c:UInt8}:∀ {s:Str}{k:Nat},Lib.indexByte s c=(k:Int)->s=s.take k++c::s.drop (k+1)/\c∉s.take k
 | [],k,h=>by have:Lib.indexByte [] c = -1:=rfl;omega
 |x::r,k,h=>by
  rw[zgo] at h;by_cases hx:x=c
  ·rw[if_pos hx] at h;obtain rfl:k=0:=by omega
   subst hx;simp
  ·rw[if_neg hx] at h;by_cases h2:Lib.indexByte r c = -1
   ·rw[if_pos h2] at h;omega
   ·rw[if_neg h2] at h;have hk:=Lib.indexByte_ge r c;obtain⟨k',rfl⟩:∃k',k=k'+1:=⟨k-1,by omega⟩;obtain⟨e1,e2⟩:=zn7 (c:=c) (s:=r) (k:=k') od;refine⟨?_, ?_⟩
    ·rw[List.take_succ_cons,List.drop_succ_cons,xai,<-e1]
    ·rw[List.take_succ_cons,List.mem_cons,not_or];exact⟨fun e=>hx e.symm,e2⟩
theorem zs8 {c:UInt8}:∀ {s:Str},c∉s->Lib.indexByte s c = -1
 | [],_=>rfl
 |x::r,h=>by
  simp only[List.mem_cons,not_or] at h;rw[zgo,if_neg (fun e=>h.1 e.symm),if_pos (zs8 h.2)]
theorem zs7 {c:UInt8}:∀ {y r:Str},c∉y->Lib.indexByte (y++c::r) c=(y.length:Int)
 | [],r,_=>by rw[List.nil_append,zgo,if_pos rfl];rfl
 |x::y,r,h=>by
  simp only[List.mem_cons,not_or] at h;have ih:=zs7 (c:=c) (y:=y) (r:=r) h.2;rw[xai,zgo,if_neg (fun e=>h.1 e.symm),if_neg od,ih];simp
theorem ztN {l:Str}{c:UInt8} (hc:zaJ c=false):∀ {n:Nat},n<=lowL l->c∉l.take n:=by
 induction l with
 |nil=>intro n _;simp
 |cons x r ih=>
  intro n hn;cases n with
  |zero=>simp
  |succ n=>
   unfold lowL at hn;split at hn
   ·rename_i hx;rw[List.take_succ_cons,List.mem_cons,not_or];exact⟨fun e=>(by rw[e,hx] at hc;cases hc),ih od⟩
   ·omega
theorem zsA {s:Str}{c:UInt8} (hc:zaJ c=false) (hu:zba c=false):c∉s.take (zax s):=by
 cases s with
 |nil=>simp
 |cons x r=>
  rw[zax];split
  ·rename_i hx;rw[List.take_succ_cons,List.mem_cons,not_or];exact⟨fun e=>(by rw[e,hx] at hu;cases hu),ztN hc (Nat.le_refl _)⟩
  ·simp
theorem zpD {α:Type}{f:Ty->Str->α->Str->Prop}{c:UInt8} (h0:c≠40) (h1:c≠44) (hf:∀t s p s',f t s p s'->c∉s'->c∉s):∀(ts:List Ty) (b:Bool) (s:Str) (ps:List α) (s':Str),RdsK f b ts s ps s'->c∉s'->c∉s
 | [],b,s,ps,s',h,hn=>by obtain⟨rfl,rfl⟩:=h;exact hn
 |t::ts,b,s,ps,s',h,hn=>by
  obtain⟨l,p,m,qs,rfl,q1,q2,rfl⟩:=h;have:=hf t _ _ _ q1 (zpD h0 h1 hf ts false _ _ _ q2 hn);rw[List.mem_cons,not_or];exact⟨by split;exact h0;exact h1,this⟩
theorem zpF {w:List Data}{c:UInt8} (hl:zaJ c=false) (hu:zba c=false) (hd:za9 c=false) (k1:c≠95/\c≠64/\c≠45/\c≠40/\c≠124/\c≠41/\c≠44):∀(n:Nat) (t:Ty) (s:Str) (p:Pat) (s':Str),RdsP w n t s p s'->c∉s'->c∉s
 |0,t,s,p,s',h,_=>h.elim
 |n+1,t,s,p,s',h,hn=>by
  have ih:=zpF (w:=w) hl hu hd k1 n;have nl:∀ {x:UInt8},zaJ x=true->c≠x:=fun {x} h e=>by rw[<-e,hl] at h;cases h
  have nd:∀ {x:UInt8},za9 x=true->c≠x:=fun {x} h e=>by rw[<-e,hd] at h;cases h
  have nc:∀ {x:UInt8}{l:Str},c≠x->c∉l->c∉x::l:=fun {x l} a b=>by rw[List.mem_cons,not_or];exact⟨a,b⟩
  obtain⟨k95,k64,k45,k40,k124,k41,k44⟩:=k1;rcases h with ⟨rfl,rfl⟩|⟨x,hx,rfl,hh,rfl⟩|⟨x,l,q,hx,rfl,hq,rfl⟩|⟨x,hx,rfl,hh,rfl⟩|⟨x,d,hx,hd',hne,rfl,rfl⟩|⟨l,x,m,y,rfl,h1,h2,rfl⟩|⟨ks,m,n1,n2,hK,hm,rfl⟩
  ·exact nc k95 hn
  ·exact nc (nl hx) hn
  ·exact nc (nl hx) (nc k64 (ih t _ _ _ hq hn))
  ·exact nc (nd hx) hn
  ·exact nc (nd hx) (nc k45 (nc (nd hd') hn))
  ·exact nc k40 (ih t _ _ _ h1 (nc k124 (ih t _ _ _ h2 (nc k41 hn))))
  ·have hmn:c∉m:=by rw[hm];split;exact nc k41 hn;exact hn
   have hdn:=zpD k40 k44 ih _ _ _ _ _ hK hmn;have e2:s=s.take (zax s)++s.drop (zax s):=(List.take_append_drop _ _).symm;rw[e2,List.mem_append,not_or];exact⟨zsA hl hu,hdn⟩
theorem zrK {w:List Data}{c:UInt8} (hc:c=32\/c=47):∀(n:Nat) (t:Ty) (s:Str) (p:Pat) (s':Str),RdsP w n t s p s'->c∉s'->c∉s:=
 zpF (by rcases hc with rfl|rfl<;>decide) (by rcases hc with rfl|rfl<;>decide) (by rcases hc with rfl|rfl<;>decide) (by rcases hc with rfl|rfl<;>decide)
theorem zov {w:List Data}{n:Nat}{t:Ty}{s:Str}{p:Pat}{s':Str} (h:RdsP w n t s p s'):s≠[]:=by
 cases n with
 |zero=>exact h.elim
 |succ n=>
  rcases h with ⟨rfl,rfl⟩|⟨x,hx,rfl,hh,rfl⟩|⟨x,l,q,hx,rfl,hq,rfl⟩|⟨x,hx,rfl,hh,rfl⟩|⟨x,d,hx,hd',hne,rfl,rfl⟩|⟨l,x,m,y,rfl,h1,h2,rfl⟩|⟨ks,m,n1,n2,hK,hm,rfl⟩
  ·simp
  ·simp
  ·simp
  ·simp
  ·simp
  ·simp
  ·intro e;subst e;exact absurd n1 oh
theorem zm4 {f:Ty->Pat->List Vt}{v:Vt}:∀ {ts:List Ty}{ks:List Pat},v∈za5 f ts ks->∃i,i<ts.length/\i<ks.length/\v∈f (nth ts i) (nth ks i)
 | [],_,h=>by simp[za5] at h
 |_::_,[],h=>by simp[za5] at h
 |t::ts,k::ks,h=>by
  simp only[za5,List.mem_append] at h;rcases h with h|h
  ·exact⟨0,by simp,by simp,h⟩
  ·obtain⟨i,h1,h2,h3⟩:=zm4 h;exact⟨i+1,by simpa using h1,by simpa using h2,h3⟩
theorem zpT {w:List Data}:∀(n:Nat){t:Ty}{p:Pat},zas w n t p=true->∀v∈zaG w n t p,0<=v.var/\v.var<=5
 |0,t,p,h,v,hv=>by simp[zas] at h
 |n+1,t,p,h,v,hv=>by
  have ih:=fun {t:Ty}{p:Pat}=>zpT (w:=w) n (t:=t) (p:=p);obtain⟨ho,hl⟩:=zce h;rw[zaG,List.mem_append] at hv;rcases hv with hv|hv
  ·unfold zaQ at hv;split at hv
   ·rename_i hop;rw[List.mem_singleton] at hv;rw[hv];exact zkl ho hop
   ·simp at hv
  ·obtain⟨i,h1,h2,h3⟩:=zm4 hv;have hpre:i<(zab w t p).length/\nth (zcU w t p) i=nth (zab w t p) i:=by
    unfold zcU at h1 ⊢;split at h1
    ·rename_i h5;rw[if_pos h5];rw[List.length_take] at h1;refine⟨by omega, ?_⟩;rw[zaV (by rw[List.length_take];omega),zaV od,List.getElem_take]
    ·rename_i h5;rw[if_neg h5];exact⟨h1,rfl⟩
   rw[hpre.2] at h3;exact ih (zbs h h2) v h3
theorem zvS {c:UInt8}{y:Str} (h:c∉y):cutL c [] y=[y]:=by
 have:=zhU (c:=c) (y:=y) [] [] h;rw[xaq] at this;rw[this];rfl
theorem zt1 {z:Str} (h:rgOk z=true):∃c x d,z=[c,x,d]/\zaJ c=true/\za9 d=true/\((x=60/\rgV z=⟨1,(c.toNat:Int)-97,(d.toNat:Int)-48⟩)\/(x=61/\rgV z=⟨2,(c.toNat:Int)-97,(d.toNat:Int)-48⟩)):=by
 by_cases hb:ze9 z
 ·rw[(zrP hb).2] at h;cases h
 have hb':=hb;unfold ze9 at hb';simp only[not_or,Decidable.not_not] at hb';obtain⟨h3,h1,h2,h4,h5⟩:=hb';match z,h3,hb,h,h1,h2,h4,h5 with
 | [c,x,d],_,hb,h,h1,h2,h4,h5=>
  have n0:nth [c,x,d] 0=c:=rfl;have n1:nth [c,x,d] 1=x:=rfl;have n2:nth [c,x,d] 2=d:=rfl;rw[n0] at h1 h2;rw[n2] at h4 h5;refine⟨c,x,d,rfl,zfJ od od,zhV od od, ?_⟩;by_cases hx:((nth [c,x,d] 1).toNat:Int)=61
  ·right
   refine⟨b_eq (k:=61) od (by rw[n1] at hx;exact hx), ?_⟩;rw[(zql hb hx).1,n0,n2]
  ·left
   rw[(znn hb hx).2] at h;refine⟨b_eq (k:=60) od (by have:=xas h;rw[n1] at this;exact this), ?_⟩;rw[(znn hb hx).1,n0,n2]
theorem zv5 {c x d:UInt8} (hc:zaJ c=true) (hd:za9 d=true) (hx:x=60\/x=61):rgOk [c,x,d]=true/\rgV [c,x,d]=⟨if x=60 then 1 else 2,(c.toNat:Int)-97,(d.toNat:Int)-48⟩:=by
 have l:=ze6 hc;have g:=zeu hd;have hb:¬ze9 [c,x,d]:=by
  unfold ze9;have n0:nth [c,x,d] 0=c:=rfl;have n2:nth [c,x,d] 2=d:=rfl;rw[n0,n2];rintro (h|h|h|h|h)
  ·exact h I
  all_goals omega
 rcases hx with rfl|rfl
 ·have:=znn hb (show ¬(((60:UInt8).toNat:Int))=61 by decide);exact⟨this.2,this.1⟩
 ·have:=zql hb (show(((61:UInt8).toNat:Int))=61 by decide);exact⟨this.2,this.1⟩
theorem zsn {c x d:UInt8} (hx:x=60\/x=61):zcD [c,x,d]=⟨if x=60 then 1 else 2,(c.toNat:Int)-97,(d.toNat:Int)-48⟩:=by
 rcases hx with rfl|rfl<;>rfl
theorem zpJ {w:List Data} (hA:A3 w){t:Ty} (ht:TyIn w.length t){z:Str} (h:rpOk w t z=true):
  RdsP w 10 t z (rpR w t z).1 []/\zap w 10 t (rpR w t z).1=z/\zaA w z 10 t 0=((rpR w t z).1,(z.length:Int)):=by
 unfold rpOk at h;simp only[xad,Bool.not_eq_true',xah] at h;obtain⟨h1,h2,h3⟩:=h;obtain⟨_,hR⟩:=zol w 10 t ⟨z,false⟩ h1;have hs:(patR w 10 t ⟨z,false⟩).2.s=[]:=h2;rw[hs] at hR;obtain⟨m,a1,a2,a3⟩:=zmT hA z 10 t _ _ _ 0 ht hR rfl (Nat.zero_le _);have hm:m=z.length:=by
  rcases Nat.lt_or_ge m z.length with h4|h4
  ·rw[zbk h4] at a2;cases a2
  ·omega
 refine⟨hR, ?_,by rw[hm] at a3;exact a3⟩;have:=zow 10 t _ _ _ hR;rw[xaq] at this;exact this.symm
theorem zl6 {w:List Data} (hA:A3 w){t:Ty} (ht:TyIn w.length t){y:Str} (h:zdC w t y=false):
  za4 w t (piC w t y)=y/\ze8 w t y=false/\pcC w t y=piC w t y:=by
 unfold zdC at h;simp only[Bool.or_eq_false_iff,Bool.not_eq_false',Bool.and_eq_false_iff] at h;obtain⟨h1,h2⟩:=h;rcases zjv 32 y [] with ⟨e1,e2,e3⟩|⟨k,e1,e2,e3,e4⟩
 ·have hc:=zlT (c:=32) (s:=y) od;rw[hc] at h1 h2;obtain⟨r1,r2,r3⟩:=zpJ hA ht h1;have hw:wdsV y=[y]:=e2;have hp:piC w t y=⟨(rpR w t y).1,⟨0,0,0⟩⟩:=by unfold piC;rw[hc];rfl
  have hprv:prV w t y=((rpR w t y).1,(y.length:Int)):=by unfold prV;rw[hw];exact r3
  refine⟨?_, ?_, ?_⟩
  ·rw[hp];unfold za4;rw[if_neg (show ¬(0:Int)=1 by decide),if_neg (show ¬(0:Int)=2 by decide)];exact r2
  ·unfold ze8;rw[hprv,hw];show(!decide ((y.length:Int)=(y.length:Int))||(decide (y=[])||decide (2<1)))=false
   rw[xax rfl,xaw (zov r1)];rfl
  ·rw[hp];unfold pcC;rw[hprv,hw];rfl
 ·have hc:=zj5 (c:=32) (s:=y) e1;rw[hc] at h1 h2;obtain⟨r1,r2,r3⟩:=zpJ hA ht h1;have hg:rgOk (y.drop (k+1))=true:=by rcases h2 with h2|h2;cases h2;exact h2
  obtain⟨c,x,d,hz,hlc,hdd,hop⟩:=zt1 hg;have l:=ze6 hlc;have g:=zeu hdd;have hx:x=60\/x=61:=hop.imp (·.1) (·.1);have hn32:(32:UInt8)∉y.drop (k+1):=by
   rw[hz];simp only[List.mem_cons,xau,or_false,not_or];refine⟨fun e=>?_,fun e=>?_,fun e=>?_⟩
   ·rw[<-e] at hlc;revert hlc;decide
   ·rcases hx with rfl|rfl<;>revert e<;>decide
   ·rw[<-e] at hdd;revert hdd;decide
  have hw:wdsV y=[y.take k,y.drop (k+1)]:=by
   have e5:cutL 32 [] y=([]++y.take k)::cutL 32 [] (y.drop (k+1)):=e3;rw[zvS hn32] at e5;exact e5
  have hy:=(zn7 e1).1;have hp:piC w t y=⟨(rpR w t (y.take k)).1,rgV (y.drop (k+1))⟩:=by unfold piC;rw[hc];rfl
  have hprv:prV w t y=((rpR w t (y.take k)).1,((y.take k).length:Int)):=by unfold prV;rw[hw];exact r3
  refine⟨?_, ?_, ?_⟩
  ·rw[hp];unfold za4;rw[hz] at hy;rcases hop with ⟨rfl,hr⟩|⟨rfl,hr⟩
   ·rw[hr,if_pos rfl];show zap w 10 t (rpR w t (y.take k)).1++[32]++letV ((c.toNat:Int)-97)++[60]++decV ((d.toNat:Int)-48)=y
    rw[r2,zfN hlc,zet hdd];refine Eq.trans ?_ hy.symm;simp
   ·rw[hr,if_neg (show ¬(2:Int)=1 by decide),if_pos rfl];show zap w 10 t (rpR w t (y.take k)).1++[32]++letV ((c.toNat:Int)-97)++[61]++decV ((d.toNat:Int)-48)=y
    rw[r2,zfN hlc,zet hdd];refine Eq.trans ?_ hy.symm;simp
  ·unfold ze8;rw[hprv,hw];show(!decide (((y.take k).length:Int)=((y.take k).length:Int))||(decide (y.take k=[])||decide (2<2)))=false
   rw[xax rfl,xaw (zov r1)];rfl
  ·rw[hp];unfold pcC;rw[hprv,hw];show Cl.mk _ (zcD (y.drop (k+1)))=_
   rw[hz,zsn hx];rw[hz] at hop;rcases hop with ⟨rfl,hr⟩|⟨rfl,hr⟩
   ·rw[hr];rfl
   ·rw[hr];rfl
theorem zkS {w:List Data}{t:Ty}:∀(l:List Cl) (b:Bool),za7 w t b l=jnS 47 b (l.map (za4 w t))
 | [],b=>rfl
 |c::r,b=>by rw[za7,xaf,jnS,zkS r false]
theorem zpy {w:List Data}{t:Ty}{s:Str} (h:∀y∈pcP s,ze8 w t y=false):∀ {n:Nat},n<=(pcP s).length->pcN w t s n=some (((pcP s).take n).map (pcC w t))
 |0,_=>rfl
 |n+1,hn=>by
  have ih:=zpy h (n:=n) od;rw[zkp ih (h _ (zam od))];congr 1
  have e:(pcP s)[n]?=some (nth (pcP s) n):=str_at' od;rw[List.take_add_one,e,xag];rfl
where str_at' {l:List Str}{i:Nat} (h:i<l.length):l[i]?=some (nth l i):=by rw[zaV h];exact xan h
theorem znN {w:List Data}{t:Ty} (h:zaK w t=true):zaM w t []=true:=by unfold zaM;rw[h];rfl
theorem zvC {w:List Data} (hA:A3 w){t:Ty} (ht:TyIn w.length t){s:Str}{l:List Cl} (h:pcI w t s=some l):pcV w t s=some l:=by
 unfold pcI at h;split at h
 ·cases h
 rename_i h0;have h0':zaK w t=true:=by simpa using h0
 split at h
 ·rename_i hs;cases h
  exact zl7 h0' (by unfold zcd;rw[if_pos hs];rfl) (znN h0') hs.symm
 rename_i hs;split at h
 ·cases h
 rename_i h8;split at h
 ·cases h
 rename_i hb;have hb':∀y∈pcP s,zdC w t y=false:=fun y hy=>by
  cases e:zdC w t y with
  |false=>rfl
  |true=>exact absurd (List.any_eq_true.2 ⟨y,hy,e⟩) hb
 split at h
 ·rename_i hv;cases h
  have hmap:(pcP s).map (pcC w t)=(pcP s).map (piC w t):=List.map_congr_left (fun y hy=>(zl6 hA ht (hb' y hy)).2.2);have hlim:zcd s=(pcP s).length:=by unfold zcd;rw[if_neg hs,if_pos od]
  refine zl7 h0' ?_ hv ?_
  ·rw[hlim,zpy (fun y hy=>(zl6 hA ht (hb' y hy)).2.1) (Nat.le_refl _),List.take_length,hmap]
  ·rw[zkS,List.map_map];have:(pcP s).map (za4 w t ∘ piC w t)=pcP s:=by
    conv=>rhs;rw[<-List.map_id (pcP s)]
    exact List.map_congr_left (fun y hy=>(zl6 hA ht (hb' y hy)).1)
   rw[this];have:=zlU 47 s [];rw[List.nil_append] at this;exact this
 ·cases h
theorem zo1 {w:List Data}{t:Ty}{c:Cl} (h:clOk w t c=true):(c.g.op=0/\c.g.var=0/\c.g.n=0)\/((c.g.op=1\/c.g.op=2)/\0<=c.g.n/\c.g.n<=9/\0<=c.g.var/\c.g.var<=5):=by
 obtain⟨hp,hsh,hvars⟩:=zc2 h;unfold clOk at h;rw[xad] at h;have h2:=h.2;unfold gdOk at h2;by_cases h0:c.g.op=0
 ·rw[if_pos h0] at h2;exact .inl ⟨h0,xas h2⟩
 ·rw[if_neg h0,xad] at h2;have h3:=xas h2.1;have h4:=xas h2.2;rw[<-hvars] at h4;have:=zpT 10 hsh _ h4;exact .inr ⟨by omega,h3.2.2.1,h3.2.2.2,this.1,this.2⟩
theorem zeN {w:List Data} (hw:WT w) (hN:NmOk w){t:Ty} (ht:TyIn w.length t){c:Cl} (h:clOk w t c=true):
  zdC w t (za4 w t c)=false/\piC w t (za4 w t c)=c/\(47:UInt8)∉za4 w t c/\za4 w t c≠[]:=by
 obtain⟨hp,hsh,_⟩:=zc2 h;have hR:=zjc hw hN 10 t c.pat [] ht hsh zsN;rw[xaq] at hR;have hpr:rpR w t (zap w 10 t c.pat)=(c.pat,⟨[],false⟩):=zpw w 10 t _ _ _ hR;have hok:rpOk w t (zap w 10 t c.pat)=true:=by unfold rpOk;rw[hpr];exact hp
 have n32:=zrK (c:=32) (.inl rfl) 10 t _ _ _ hR oe;have n47:=zrK (c:=47) (.inr rfl) 10 t _ _ _ hR oe;have hne:=zov hR;obtain⟨pt,g⟩:=c;rcases zo1 h with ⟨g0,g1,g2⟩|⟨g0,g1,g2,g3,g4⟩
 ·have ht':za4 w t ⟨pt,g⟩=zap w 10 t pt:=by unfold za4;rw[if_neg od,if_neg od]
  rw[ht'];have hc:=zlT (c:=32) (s:=zap w 10 t pt) (by rw[zs8 n32];decide);refine⟨?_, ?_,n47,hne⟩
  ·unfold zdC;rw[hc];show(!rpOk w t (zap w 10 t pt)||(false&&_))=false
   rw[hok];rfl
  ·unfold piC;rw[hc];show Cl.mk (rpR w t (zap w 10 t pt)).1 (if false=true then _ else _)=_
   rw[hpr];obtain⟨a,b,d⟩:=g;simp only at g0 g1 g2;subst g0 g1 g2;rfl
 ·change g.op=1\/g.op=2 at g0
  change 0<=g.n at g1
  change g.n<=9 at g2
  change 0<=g.var at g3
  change g.var<=5 at g4
  obtain⟨v,hv,hv2⟩:=zod g3 od;obtain⟨d,hd,hd2⟩:=znU g1 g2;obtain⟨x,hx,hxt⟩:∃x:UInt8,(x=60\/x=61)/\za4 w t ⟨pt,g⟩=zap w 10 t pt++32::[v,x,d]/\g.op=if x=60 then 1 else 2:=by
   rcases g0 with g0|g0
   ·refine⟨60,.inl rfl, ?_,g0⟩;unfold za4;rw[if_pos g0];show zap w 10 t pt++[32]++letV g.var++[60]++decV g.n=_
    rw[hv2,hd2,zfN hv,zet hd];simp
   ·refine⟨61,.inr rfl, ?_,g0⟩;unfold za4;rw[if_neg (show ¬g.op=1 by omega),if_pos g0];show zap w 10 t pt++[32]++letV g.var++[61]++decV g.n=_
    rw[hv2,hd2,zfN hv,zet hd];simp
  obtain⟨hxt,hop⟩:=hxt;rw[hxt];have hc:=zj5 (c:=32) (s:=zap w 10 t pt++32::[v,x,d]) (zs7 n32);rw[show(zap w 10 t pt++32::[v,x,d]).take (zap w 10 t pt).length=zap w 10 t pt by simp,show(zap w 10 t pt++32::[v,x,d]).drop ((zap w 10 t pt).length+1)=[v,x,d] by simp] at hc;obtain⟨r1,r2⟩:=zv5 hv hd hx;refine⟨?_, ?_, ?_,by simp⟩
  ·unfold zdC;rw[hc];show(!rpOk w t (zap w 10 t pt)||(true&& !rgOk [v,x,d]))=false
   rw[hok,r1];rfl
  ·unfold piC;rw[hc];show Cl.mk (rpR w t (zap w 10 t pt)).1 (if true=true then rgV [v,x,d] else _)=_
   rw[hpr,if_pos rfl,r2,<-hop,<-hv2,<-hd2]
  ·simp only[List.mem_append,List.mem_cons,xau,or_false,not_or];refine⟨n47,by decide,fun e=>?_,fun e=>?_,fun e=>?_⟩
   ·rw[<-e] at hv;revert hv;decide
   ·rcases hx with rfl|rfl<;>revert e<;>decide
   ·rw[<-e] at hd;revert hd;decide
theorem zvB {w:List Data} (hw:WT w) (hN:NmOk w){t:Ty} (ht:TyIn w.length t){s:Str}{l:List Cl} (h:pcV w t s=some l):pcI w t s=some l:=by
 unfold pcV at h;split at h
 ·rename_i h0;cases e:pcN w t s (zcd s) with
  |none=>rw[e] at h;cases h
  |some r=>
   rw[e] at h;dsimp only at h;split at h
   ·rename_i hv;cases h
    obtain⟨hv,htx⟩:=hv;obtain⟨_,hl8,hcl⟩:=zd3 hv;have hc':∀c∈l,clOk w t c=true:=fun c hm=>by
     obtain⟨i,hi,rfl⟩:=List.getElem_of_mem hm;rw[<-zaV hi];exact hcl i hi
    by_cases hl:l=[]
    ·subst hl;have hs:s=[]:=htx.symm;rw[hs];exact zjD h0
    ·have hP:pcP s=l.map (za4 w t):=by
      unfold pcP;rw[<-htx,zkS];exact zn8 (by simpa using hl) (fun y hy=>by obtain⟨c,hc,rfl⟩:=List.mem_map.1 hy;exact(zeN hw hN ht (hc' c hc)).2.2.1)
     have hs:¬s=[]:=fun hs=>by
      rw[hs] at htx;cases l with
      |nil=>exact hl I
      |cons c r=>
       rw[za7] at htx;have:=(List.append_eq_nil_iff.1 (List.append_eq_nil_iff.1 htx).1).2;exact(zeN hw hN ht (hc' c oe)).2.2.2 this
     have hmap:(pcP s).map (piC w t)=l:=by
      rw[hP,List.map_map];conv=>rhs;rw[<-List.map_id l]
      exact List.map_congr_left (fun c hc=>(zeN hw hN ht (hc' c hc)).2.1)
     rw[zjC h0 hs (by rw[hP,xac];omega) (fun y hy=>by rw[hP] at hy;obtain⟨c,hc,rfl⟩:=List.mem_map.1 hy;exact(zeN hw hN ht (hc' c hc)).1),hmap,if_pos hv]
   ·cases h
 ·cases h
theorem ztg {w:List Data} (hs:WSmall w){a k:Int} (s:Str):pcI w ⟨a,k⟩ s=pcV w ⟨a,k⟩ s:=by
 cases htv:zaK w ⟨a,k⟩ with
 |false=>rw[zon htv,zrF htv]
 |true=>
  obtain⟨wv,ht,_⟩:=zcn htv;have hw:=zco hs wv;have hA:=zik hs wv;cases e:pcI w ⟨a,k⟩ s with
  |some l=>exact(zvC hA ht e).symm
  |none=>
   cases e2:pcV w ⟨a,k⟩ s with
   |none=>rfl
   |some l=>rw[zvB hw (zoM wv) ht e2] at e;cases e
set_option maxHeartbeats 4000000
theorem zko {w:List Data} (hw:WT w) (hb:TB w){n:Nat}
  (ih:∀ {a k:Int}{p:Pat},zas w n ⟨a,k⟩ p=true->TyIn w.length ⟨a,k⟩->p.ok->p.size<=10000000->FnD Tryz.prog 98 [.d (zah w),.agg [.d (.i a),.d (.i k)],.agg [.d (.i p.op),.d (.i p.ctor),.d (.i p.n),.d (.i p.m),.d (.i p.var),.d (zau p.kids)]] [] (.d (.str (zap w n ⟨a,k⟩ p))) [])
  {a k:Int}{p:Pat} (h:zas w (n+1) ⟨a,k⟩ p=true) (ht:TyIn w.length ⟨a,k⟩) (hok:p.ok) (hsz:p.size<=10000000):
  FnD Tryz.prog 98 [.d (zah w),.agg [.d (.i a),.d (.i k)],.agg [.d (.i p.op),.d (.i p.ctor),.d (.i p.n),.d (.i p.m),.d (.i p.var),.d (zau p.kids)]] [] (.d (.str (zap w (n+1) ⟨a,k⟩ p))) []:=by
 obtain⟨ho,hl⟩:=zce h;have hin:=zda hw ht ho;obtain⟨o1,o2,o3,o4⟩:=zoj ho;rw[xaV] at hsz;rw[xaU] at hok;have hkid:∀i,i<p.kids.length->FnD Tryz.prog 98 [.d (zah w),.agg [.d (.i (nth (zab w ⟨a,k⟩ p) i).data),.d (.i (nth (zab w ⟨a,k⟩ p) i).index)],.agg [.d (.i (nth p.kids i).op),.d (.i (nth p.kids i).ctor),.d (.i (nth p.kids i).n),.d (.i (nth p.kids i).m),.d (.i (nth p.kids i).var),.d (zau (nth p.kids i).kids)]] [] (.d (.str (zap w n (nth (zab w ⟨a,k⟩ p) i) (nth p.kids i)))) []:=fun i hi=>
  ih (a:=(nth (zab w ⟨a,k⟩ p) i).data) (k:=(nth (zab w ⟨a,k⟩ p) i).index) (zbs h hi) (hin _ (zam od)) (xaX hok.2 _ (zam hi)) (by have:=zi4 hi;omega)
 have hlen:∀i,i<p.kids.length->(zap w n (nth (zab w ⟨a,k⟩ p) i) (nth p.kids i)).length<=100000000:=fun i hi=>by
  have:=zdx hw hb n (a:=(nth (zab w ⟨a,k⟩ p) i).data) (k:=(nth (zab w ⟨a,k⟩ p) i).index) (zbs h hi) (hin _ (zam od));have h2:=zi4 hi;have h3:(zap w n (nth (zab w ⟨a,k⟩ p) i) (nth p.kids i)).length<=10*(nth p.kids i).size:=this;omega
 have hkt:=zke hw (p:=p) ht;rw[show zcF w ⟨a,k⟩ p=zab w ⟨a,k⟩ p from by unfold zcF;rw[if_neg (fun h=>h.2 (zcA ho h.1))]] at hkt;have q4:=fun(q:p.op=4)=>pt4 (n:=n) q hl;have q5:=fun(q:p.op=5)=>pt5 (n:=n) q hl;have q6:=fun(q:p.op=6)=>pt6 (n:=n) q hl;have k3:p.kids.length<=3:=by
  rcases o1 with q|q|q|q|q|q
  ·have:zab w ⟨a,k⟩ p=[]:=by unfold zab;rw[if_neg od,if_neg od,if_neg od]
   rw[hl,this];simp
  ·have:zab w ⟨a,k⟩ p=[]:=by unfold zab;rw[if_neg od,if_neg od,if_neg od]
   rw[hl,this];simp
  ·have:zab w ⟨a,k⟩ p=[]:=by unfold zab;rw[if_neg od,if_neg od,if_neg od]
   rw[hl,this];simp
  ·rw[hl,zdQ q];simp
  ·rw[hl,zeT q];simp
  ·rw[hl,zfD q];exact(zgF hw hb ht (o4 q)).2
 have e5:p.op=5->p.kids.length=2:=fun q=>by rw[hl,zdQ q];rfl
 have e6:p.op=6->p.kids.length=1:=fun q=>by rw[hl,zeT q];rfl
 have hc4:p.op=4->∃d:Nat,a=(d:Int)/\d<w.length/\∃j:Nat,p.ctor=(j:Int)/\j<(nth w d).ctors.length:=fun q=>by
  obtain⟨d,e,hd,j,hj0,hj⟩:=zbc ht (o4 q);exact⟨d,e,hd,j,hj0,hj⟩
 have hn4:p.op=4->(za6 w ⟨a,k⟩ p.ctor).length<=5:=fun q=>(zgF hw hb ht (o4 q)).1;change ∀i,i<p.kids.length->_ at hlen
 generalize hts:zab w ⟨a,k⟩ p=ts at *;have hkl:=fun(i:Nat) (hi:i<=p.kids.length)=>zrm hlen hi;have hkn:=fun(i j:Nat) (hi:i<=p.kids.length) (hj:j<i)=>zqb hlen hi hj;have hdl:=zbY;have hll:=zdf p.var;clear ih hts;by_cases h4:p.op=4
 ·obtain⟨d,rfl,hd,j,hj0,hj⟩:=hc4 h4;have hnm:za6 w ⟨(d:Int),k⟩ p.ctor=(nth (nth w d).ctors j).name:=by unfold za6;rw[hj0];rfl
  have hfin:=q4 h4;have hn:=hn4 h4;rw[hnm] at hfin hn;have hlv:=fun(i:Nat) (hi:i<=p.kids.length)=>zsv (hkl i hi);rw[hfin];clear q4 q5 q6 hc4 hn4;refine bd Tryz.f98 86 [8,65] [] fun _ _ _ _ hk=>?_;refine bx 3004 ?_;refine bx 3005 ?_;refine evs [8,65] [] (wc zqL hkt I I ?_);refine evs [8,65] [] (xbl 1 1 .none I I ?_);apply tv;refine xaA (ι:=Nat) hk (fun i=>[(18,.d (.i (i:Int))),(8,.gl 1 ((kTn (zap w n) ts p.kids i).map fun s:Str=>[D.str s]))]) [9,10,19,20,21,22,23,24,25,26,27,28,29,30,31,32,33] (fun i=>[(1,some (.tok (((kTn (zap w n) ts p.kids i).map fun s:Str=>[D.str s])).length 1))]) (fun i=>i<=p.kids.length) (fun i=>p.kids.length-i) 0 od ⟨⟨_,I,xaK ?_⟩,⟨⟨_,I,LeA.glg ?_⟩,O⟩⟩ ⟨zag ?_,O⟩ (fun x=>rfl) (fun i hg1=>?_);iterate 3 focus (first|rfl|omega|(rw[zh5,xag];all_goals rfl)|(simp[zdq];done)|(simp;omega))
  refine evc [8,65] [] ?_;apply sq<;>intro h1 h1p h1s<;>(try simp only[Q,xal,xaS,xac] at h1p);refine ixq sl58 I I I (zb2 od) I ?_;refine evs [8,65] [] (ab 3010 tz60 ?_);refine evs [8,65] [] (so ty60 ?_);apply tv;refine ixq zaL I I I (zan od) I ?_;refine evd [8,65] [] (wc zpZ (hkid i od) I I ?_);refine si [0] [_] sl84 tz9 ?_;refine ap sl84 zz9 I I I ox (by first|(simp[kTn];omega)|(have h9:=hlv i od;rw[zdq] at h9;have:i*(100000000+1)<=3*(100000000+1):=xav _ od;(try simp only[xaa]);omega)) ?_;refine asg ?_;refine dr (ar (xaj (i+1) ⟨od,od,sx ⟨⟨_,I,xaK ?_⟩,⟨⟨_,I,LeA.glg ?_⟩,O⟩⟩ ⟨zag ?_,O⟩⟩));iterate 3 focus (first|rfl|omega|(rw[zh5,xag];all_goals rfl)|(simp[zdq];done)|(simp;omega))
  apply sq<;>intro h2 h2p h2s<;>(try simp only[Q,xal,xaS,xac] at h2p);exfalso;omega;apply sq<;>intro h3 h3p h3s<;>(try simp only[Q,xal,xaS,xac] at h3p);exfalso;omega;apply sq<;>intro h4 h4p h4s<;>(try simp only[Q,xal,xaS,xac] at h4p);exfalso;omega;apply sq<;>intro h5 h5p h5s<;>(try simp only[Q,xal,xaS,xac] at h5p);refine ixq sl23 I I I (zan hd) I (evd [8,65] [] (ixq (i:=j) zbx I I hj0 (zan hj) I (evd [8,65] [] (Walk.call (cr:=[]) zuB (zl0 (l:=kTn (zap w n) ts p.kids i) (by rw[zdq];omega) (fun x hx=>by have:=hkl i od x hx;omega)) I .none I I (.cons (.gl _ _) .nil) O I I I ?_))));refine xbt .none I I I (by first|(simp[kTn];omega)|(have h9:=hlv i od;rw[zdq] at h9;have:i*(100000000+1)<=3*(100000000+1):=xav _ od;(try simp only[xaa]);omega)) ?_;refine evd [8,65] [] (dr (rq ?_));rotate_left;exfalso;omega;all_goals (have e1:i=p.kids.length:=od;subst e1;rfl)
 ·have f1:=tx1 (w:=w) (n:=n) (t:=⟨a,k⟩) (p:=p);have f2:=tx2 (w:=w) (n:=n) (t:=⟨a,k⟩) (p:=p);have f3:p.op=3->zap w (n+1) ⟨a,k⟩ p=if p.n=p.m then decV p.n else decV p.n++[45]++decV p.m:=fun q=>by
   by_cases hh:p.n=p.m
   ·rw[if_pos hh,tx3a q hh]
   ·rw[if_neg hh,tx3b q hh]
  clear q4 hc4 hn4;refine bd Tryz.f98 86 [8,71,72,76,77,81,85] [] fun _ _ _ _ hk=>?_;refine bx 3004 ?_;refine bx 3005 ?_;refine evs [8,71,72,76,77,81,85] [] (wc zqL hkt I I ?_);refine evs [8,71,72,76,77,81,85] [] (xbl 1 1 .none I I ?_);apply tv;refine xaA (ι:=Nat) hk (fun i=>[(18,.d (.i (i:Int))),(8,.gl 1 ((kTn (zap w n) ts p.kids i).map fun s:Str=>[D.str s]))]) [9,10,19,20,21,22,23,24,25,26,27,28,29,30,31,32,33] (fun i=>[(1,some (.tok (((kTn (zap w n) ts p.kids i).map fun s:Str=>[D.str s])).length 1))]) (fun i=>i<=p.kids.length) (fun i=>p.kids.length-i) 0 od ⟨⟨_,I,xaK ?_⟩,⟨⟨_,I,LeA.glg ?_⟩,O⟩⟩ ⟨zag ?_,O⟩ (fun x=>rfl) (fun i hg1=>?_);iterate 3 focus (first|rfl|omega|(rw[zh5,xag];all_goals rfl)|(simp[zdq];done)|(simp;omega))
  refine evc [8,71,72,76,77,81,85] [] ?_;apply sq<;>intro h1 h1p h1s<;>(try simp only[Q,xal,xaS,xac] at h1p);refine ixq sl58 I I I (zb2 od) I ?_;refine evs [8,71,72,76,77,81,85] [] (ab 3010 tz60 ?_);refine evs [8,71,72,76,77,81,85] [] (so ty60 ?_);apply tv;refine ixq zaL I I I (zan od) I ?_;refine evd [8,71,72,76,77,81,85] [] (wc zpZ (hkid i od) I I ?_);refine si [0] [_] sl84 tz9 ?_;refine ap sl84 zz9 I I I ox (by first|(simp[kTn];omega)|(have:=e5 od;have h8:=hkn i 0 od od;have h9:=hkn i 1 od od;(try simp only[xaa,xab,xak]);omega)|(have:=e6 od;have h8:=hkn i 0 od od;(try simp only[xaa,xab,xak]);omega)) ?_;refine asg ?_;refine dr (ar (xaj (i+1) ⟨od,od,sx ⟨⟨_,I,xaK ?_⟩,⟨⟨_,I,LeA.glg ?_⟩,O⟩⟩ ⟨zag ?_,O⟩⟩));iterate 3 focus (first|rfl|omega|(rw[zh5,xag];all_goals rfl)|(simp[zdq];done)|(simp;omega))
  apply sq<;>intro h2 h2p h2s<;>(try simp only[Q,xal,xaS,xac] at h2p);refine rq ?_;rotate_left;apply sq<;>intro h3 h3p h3s<;>(try simp only[Q,xal,xaS,xac] at h3p);refine wc zkD (zej (n:=p.var) (by have:=o2 od;omega) (by have:=o2 od;omega)) I I ?_;refine evs [8,71,72,76,77,81,85] [] (rq ?_);rotate_left;apply sq<;>intro h4 h4p h4s<;>(try simp only[Q,xal,xaS,xac] at h4p);refine wc zuE (zjL (n:=p.n) (m:=p.m) (by have:=o3 od;omega) (by have:=o3 od;omega) (by have:=o3 od;omega) (by have:=o3 od;omega)) I I ?_;refine evs [8,71,72,76,77,81,85] [] (rq ?_);rotate_left;apply sq<;>intro h5 h5p h5s<;>(try simp only[Q,xal,xaS,xac] at h5p);exfalso;omega;apply sq<;>intro h6 h6p h6s<;>(try simp only[Q,xal,xaS,xac] at h6p);refine xbD (i:=0) sl84 .none I I I I (zan (by rw[zdq];first|(have:=e5 od;omega)|(have:=e6 od;omega))) I ?_;refine evd [8,71,72,76,77,81,85] [] (xbt .none I I I (by first|(simp[kTn];omega)|(have:=e5 od;have h8:=hkn i 0 od od;have h9:=hkn i 1 od od;(try simp only[xaa,xab,xak]);omega)|(have:=e6 od;have h8:=hkn i 0 od od;(try simp only[xaa,xab,xak]);omega)) ?_);refine xbt .none I I I (by first|(simp[kTn];omega)|(have:=e5 od;have h8:=hkn i 0 od od;have h9:=hkn i 1 od od;(try simp only[xaa,xab,xak]);omega)|(have:=e6 od;have h8:=hkn i 0 od od;(try simp only[xaa,xab,xak]);omega)) ?_;refine evd [8,71,72,76,77,81,85] [] (xbD (i:=1) sl84 .none I I I I (zan (by rw[zdq];first|(have:=e5 od;omega)|(have:=e6 od;omega))) I ?_);refine evd [8,71,72,76,77,81,85] [] (xbt .none I I I (by first|(simp[kTn];omega)|(have:=e5 od;have h8:=hkn i 0 od od;have h9:=hkn i 1 od od;(try simp only[xaa,xab,xak]);omega)|(have:=e6 od;have h8:=hkn i 0 od od;(try simp only[xaa,xab,xak]);omega)) ?_);refine xbt .none I I I (by first|(simp[kTn];omega)|(have:=e5 od;have h8:=hkn i 0 od od;have h9:=hkn i 1 od od;(try simp only[xaa,xab,xak]);omega)|(have:=e6 od;have h8:=hkn i 0 od od;(try simp only[xaa,xab,xak]);omega)) ?_;refine evd [8,71,72,76,77,81,85] [] (dr (rq ?_));rotate_left;refine wc zkD (zej (n:=p.var) (by have:=o2 od;omega) (by have:=o2 od;omega)) I I ?_;refine xbt .none I I I (by first|(simp[kTn];omega)|(have:=e5 od;have h8:=hkn i 0 od od;have h9:=hkn i 1 od od;(try simp only[xaa,xab,xak]);omega)|(have:=e6 od;have h8:=hkn i 0 od od;(try simp only[xaa,xab,xak]);omega)) ?_;refine evd [8,71,72,76,77,81,85] [] (xbD (i:=0) sl84 .none I I I I (zan (by rw[zdq];first|(have:=e5 od;omega)|(have:=e6 od;omega))) I ?_);refine evd [8,71,72,76,77,81,85] [] (xbt .none I I I (by first|(simp[kTn];omega)|(have:=e5 od;have h8:=hkn i 0 od od;have h9:=hkn i 1 od od;(try simp only[xaa,xab,xak]);omega)|(have:=e6 od;have h8:=hkn i 0 od od;(try simp only[xaa,xab,xak]);omega)) ?_);refine evd [8,71,72,76,77,81,85] [] (dr (rq ?_));rotate_left;all_goals (have e1:i=p.kids.length:=od;subst e1;first|(rw[f1 od];done)|(rw[f2 od];done)|(rw[f3 od];done)|(rw[q5 od];all_goals rfl)|(rw[q6 od];all_goals rfl))
theorem zfk {w:List Data} (hw:WT w) (hb:TB w):∀(n:Nat){a k:Int}{p:Pat},zas w n ⟨a,k⟩ p=true->TyIn w.length ⟨a,k⟩->p.ok->p.size<=10000000->
  FnD Tryz.prog 98 [.d (zah w),.agg [.d (.i a),.d (.i k)],.agg [.d (.i p.op),.d (.i p.ctor),.d (.i p.n),.d (.i p.m),.d (.i p.var),.d (zau p.kids)]] [] (.d (.str (zap w n ⟨a,k⟩ p))) []
 |0,a,k,p,h,_,_,_=>by simp[zas] at h
 |n+1,a,k,p,h,ht,hok,hsz=>zko hw hb (fun {a k p} q1 q2 q3 q4=>zfk hw hb n q1 q2 q3 q4) h ht hok hsz
theorem zua {w:List Data}{t:Ty}{c:Cl} (h:c.g.op=0\/c.g.op=1\/c.g.op=2):(c.g.op=0->za4 w t c=zap w 10 t c.pat)/\(¬c.g.op=0->za4 w t c=zap w 10 t c.pat++([32]++(letV c.g.var++(if c.g.op=1 then [60] else [61])++decV c.g.n))):=by
 refine⟨fun q=>?_,fun q=>?_⟩
 ·unfold za4;rw[if_neg od,if_neg od]
 ·unfold za4;rcases h with h|h|h
  ·exact absurd h q
  ·rw[if_pos h,if_pos h];simp
  ·rw[if_neg od,if_pos h,if_neg od];simp
theorem ziw {w:List Data} (hw:WT w) (hb:TB w){a k:Int} (ht:TyIn w.length ⟨a,k⟩){l:List Cl} (hl:l.length<=8) (hv:∀c∈l,clOk w ⟨a,k⟩ c=true) (hok:∀c∈l,c.pat.ok) (hz:∀c∈l,c.pat.size<=10000000):
  FnD Tryz.prog 110 [.d (zah w),.agg [.d (.i a),.d (.i k)],.d (zbu l)] [] (.d (.str (za7 w ⟨a,k⟩ true l))) []:=by
 have hp:=fun(c:Cl) (hc:c∈l)=>zfk hw hb 10 (zc2 (hv c hc)).2.1 ht (hok c hc) (hz c hc);have hlen:=fun(c:Cl) (hc:c∈l)=>zmZ hw hb ht (hv c hc) (hz c hc);have hpl:=fun(c:Cl) (hc:c∈l)=>zdx hw hb 10 (zc2 (hv c hc)).2.1 ht;have hgd:=fun(c:Cl) (hc:c∈l)=>zo1 (hv c hc);have hg:=fun(c:Cl) (hc:c∈l)=>zua (w:=w) (t:=⟨a,k⟩) (c:=c) (by rcases hgd c hc with h|h<;>omega);have hgt:=fun(c:Cl) (hc:c∈l) (h:¬c.g.op=0)=>zjJ (o:=c.g.op) (v:=c.g.var) (n:=c.g.n) (by rcases hgd c hc with h|h<;>omega) (by rcases hgd c hc with h|h<;>omega) (by rcases hgd c hc with h|h<;>omega) (by rcases hgd c hc with h|h<;>omega);have hj:=zgV (sep:=[47]) (l:=l.map (za4 w ⟨a,k⟩)) (m:=100000010) (fun x hx=>by obtain⟨c,hc,rfl⟩:=List.mem_map.1 hx;exact hlen c hc);have hj2:(zcW [47] (l.map (za4 w ⟨a,k⟩))).length<=8*100000011:=Nat.le_trans hj (by rw[xac];exact xav _ hl);have hdl:=zbY;have hll:=zdf;rw[znO];refine bd Tryz.f110 39 [7,30,31] [10] fun _ _ _ _ hk=>?_;refine bx 3004 ?_;refine evs [7,30,31] [] (xbl 1 1 .none I I ?_);apply tv;refine xaA (ι:=List (Cl)×List (Cl)) hk (fun x=>[(13,.d (.i (x.1.length:Int))),(7,.gl 1 ((x.1.map (za4 w ⟨a,k⟩)).map fun s:Str=>[D.str s]))]) [9,10,14,15,16,17,18,19,20,21,22,23,24,25,26,27,28,29,30,31,32,33,34,35,36] (fun x=>[(1,some (.tok (((x.1.map (za4 w ⟨a,k⟩)).map fun s:Str=>[D.str s])).length 1))]) (fun x=>x.1++x.2=l) (fun x=>x.2.length) ([],l) oe ⟨⟨_,I,xaK ?_⟩,⟨⟨_,I,LeA.glg ?_⟩,O⟩⟩ ⟨zag ?_,O⟩ (fun x=>rfl) (fun x hg1=>?_);iterate 3 focus (first|rfl|(simp;done)|omega|(simp only[xag,xaf,List.map_nil];rw[(hg y (by rw[<-hg1];simp)).1 od];done)|(simp only[xag,xaf,List.map_nil];rw[(hg y (by rw[<-hg1];simp)).2 od];done)|(simp;omega))
 obtain⟨pre,rest⟩:=x;dsimp only at hg1 ⊢;refine evc [7,30,31] [10] ?_;apply sq<;>intro h1 h1p h1s<;>(try simp only[Q,xal,xac] at h1p);rcases rest with _|⟨y,rest⟩
 ·exfalso;simp_all
 refine ixq sl74 I I I (zaE hg1) I (evs [7,30,31] [] (ab 3009 zep ?_));refine so zhc ?_;apply tv;refine wc zpZ (hp y (by rw[<-hg1];simp)) I I ?_;refine evs [7,30,31] [] ?_;apply sq<;>intro h2 h2p h2s<;>(try simp only[Q,xal,xac] at h2p);refine wc zuI (hgt y (by rw[<-hg1];simp) od) I I ?_;refine xbt .none I I I (by first|(have h9:=xam List.length hg1;simp at h9;simp;omega)|(have h8:=hpl y (by rw[<-hg1];simp);have h7:=hz y (by rw[<-hg1];simp);have:=hdl y.g.n;have:=hll y.g.var;split<;>simp only[xaa,xab,xak]<;>omega)|(have h8:=hpl y (by rw[<-hg1];simp);have h7:=hz y (by rw[<-hg1];simp);have:=hdl y.g.n;have:=hll y.g.var;simp only[xaa,xab,xak];split<;>simp only[xab,xak]<;>omega)) ?_;refine xbt .none I I I (by first|(have h9:=xam List.length hg1;simp at h9;simp;omega)|(have h8:=hpl y (by rw[<-hg1];simp);have h7:=hz y (by rw[<-hg1];simp);have:=hdl y.g.n;have:=hll y.g.var;split<;>simp only[xaa,xab,xak]<;>omega)|(have h8:=hpl y (by rw[<-hg1];simp);have h7:=hz y (by rw[<-hg1];simp);have:=hdl y.g.n;have:=hll y.g.var;simp only[xaa,xab,xak];split<;>simp only[xab,xak]<;>omega)) ?_;refine evs [7,30,31] [] (si [0] [_] sl84 tz9 ?_);refine ap sl84 zz9 I I I ox (by first|(have h9:=xam List.length hg1;simp at h9;simp;omega)|(have h8:=hpl y (by rw[<-hg1];simp);have h7:=hz y (by rw[<-hg1];simp);have:=hdl y.g.n;have:=hll y.g.var;split<;>simp only[xaa,xab,xak]<;>omega)|(have h8:=hpl y (by rw[<-hg1];simp);have h7:=hz y (by rw[<-hg1];simp);have:=hdl y.g.n;have:=hll y.g.var;simp only[xaa,xab,xak];split<;>simp only[xab,xak]<;>omega)) ?_;refine asg ?_;apply tv;refine ar (xaj ((pre++[y],rest)) ⟨(by have hz:=hg1;rw[<-hz];simp),oe,sx ⟨⟨_,I,xaK ?_⟩,⟨⟨_,I,LeA.glg ?_⟩,O⟩⟩ ⟨zag ?_,O⟩⟩);iterate 3 focus (first|rfl|(simp;done)|omega|(simp only[xag,xaf,List.map_nil];rw[(hg y (by rw[<-hg1];simp)).1 od];done)|(simp only[xag,xaf,List.map_nil];rw[(hg y (by rw[<-hg1];simp)).2 od];done)|(simp;omega))
 refine si [0] [_] sl84 tz9 ?_;refine ap sl84 zz9 I I I ox (by first|(have h9:=xam List.length hg1;simp at h9;simp;omega)|(have h8:=hpl y (by rw[<-hg1];simp);have h7:=hz y (by rw[<-hg1];simp);have:=hdl y.g.n;have:=hll y.g.var;split<;>simp only[xaa,xab,xak]<;>omega)|(have h8:=hpl y (by rw[<-hg1];simp);have h7:=hz y (by rw[<-hg1];simp);have:=hdl y.g.n;have:=hll y.g.var;simp only[xaa,xab,xak];split<;>simp only[xab,xak]<;>omega)) ?_;refine asg ?_;apply tv;refine ar (xaj ((pre++[y],rest)) ⟨(by have hz:=hg1;rw[<-hz];simp),oe,sx ⟨⟨_,I,xaK ?_⟩,⟨⟨_,I,LeA.glg ?_⟩,O⟩⟩ ⟨zag ?_,O⟩⟩);iterate 3 focus (first|rfl|(simp;done)|omega|(simp only[xag,xaf,List.map_nil];rw[(hg y (by rw[<-hg1];simp)).1 od];done)|(simp only[xag,xaf,List.map_nil];rw[(hg y (by rw[<-hg1];simp)).2 od];done)|(simp;omega))
 have hrest:rest=[]:=by
  rcases rest with _|⟨a,b⟩
  ·rfl
  ·exfalso;have hz:=xam List.length (hg1);simp only[xaa,xab,xac] at hz;omega
 subst hrest;have h9:pre=l:=(by simpa using hg1);subst h9;refine evc [7,30,31] [] (Walk.call (cr:=[]) zqH (zha (l:=pre.map (za4 w ⟨a,k⟩)) (sep:=[47]) (by rw[xac];omega) od) I .none I I (.cons (.gl _ _) (.cons (.refl _) .nil)) O I I I ?_);refine evs [7,30,31] [] (rq ?_);rotate_left;all_goals (rfl)
set_option maxHeartbeats 2000000
def zdL:List Str:=[[76,61,78,105,108,124,67,111,110,115,40,73,44,76,41],
 [66,61,84,114,117,124,70,108,115,59,84,61,76,101,97,102,124,78,111,100,101,40,84,44,66,44,84,41],
 [69,61,78,117,109,40,73,41,58,49,124,66,111,108,40,66,41,58,50,124,65,100,100,40,69,49,44,69,49,41,58,49,124,73,102,40,69,50,44,69,42,44,69,42,41,59,66,61,84,114,117,124,70,108,115],
 [79,61,78,111,110,124,83,111,109,40,73,41,59,80,61,80,97,105,114,40,79,44,79,41],
 [86,61,69,110,100,58,49,124,83,111,109,101,40,73,44,86,49,41,58,50,124,84,119,111,40,86,42,41],
 [78,61,78,101,118,101,114,40,78,41,59,66,61,84,114,117,124,70,108,115,124,77,97,121,40,78,41],
 [83,61,82,101,100,124,71,114,101,101,110,124,66,108,117,101,124,77,105,120,40,83,44,83,41],
 []]
theorem zlH:zdL.length=8:=rfl
theorem zoG:∀t∈zdL,t.length<=100:=by decide
theorem zqs {i:Nat} (h:i<8):(nth zdL i).length<=100:=zoG _ (zam h)
def zaW (b:Str) (p:Nat):List Data:=(zdt (nth zdL (zad b p 7).toNat)).1
theorem zqk (b:Str) (p:Nat):(zad b p 7).toNat<7:=by have:=zbo (b:=b) (p:=p) (n:=7) od;omega
theorem zlu:FnD Tryz.prog 147 [] [] (.d (zb0 zdL)) []:=by
 refine bd Tryz.f147 2 [] [] fun _ _ _ _ hk=>?_;refine si [0,1,2,3,4,5,6,7] [_,_,_,_,_,_,_,_] sl84 tz9 ?_;refine ev (rq ?_);rotate_left;all_goals (rfl)
theorem zlw {b:Str}{p:Nat} (hb:b.length<=2000) (hp:p<=1000000):
  FnD Tryz.prog 242 [.ref 900 0] [(900,some (rdB b p))] (.d (zah (zaW b p))) [(900,some (rdB b (p+1)))]:=by
 have h7:=zqk b p;have ht8:=zlH;have hv:=zbo (b:=b) (p:=p) (n:=7) od;have hts:=zqs (i:=(zad b p 7).toNat) od;refine bd Tryz.f242 20 [] [] fun _ _ _ _ hk=>?_;refine wc zuA zlu I I ?_;refine ev (ar (wd zbg (zaD (n:=7) hb od od) I I ⟨I,O⟩ ?_));refine ixq (i:=(zad b p 7).toNat) sl84 I I od (zan (by rw[zlH];omega)) I ?_;refine ev (wc zuz (zjm (s:=nth zdL (zad b p 7).toNat) od) I I ?_);refine ev (rn [(900,some (rdB b (p+1)))] (r1 I) (.eqd ?_) ⟨I,I⟩ (SubO.get ⟨.inr ?_,⟨.inl I,O⟩⟩) (zak I));rotate_left 2;all_goals (first|((rfl);done)|(rfl))
def anyP:Pat:=⟨1,0,0,0,0,[]⟩
def dA (f:Ty->Nat->Pat×Nat):List Ty->Nat->List Pat×Nat
 | [],q=>([],q)
 |t::r,q=>((f t q).1::(dA f r (f t q).2).1,(dA f r (f t q).2).2)
def zaF (b:Str) (w:List Data):Nat->Ty->Nat->Pat×Nat
 |0,_,p=>(anyP,p)
 |d+1,t,p=>
  if d=0 then (anyP,p)
  else if zad b p 4=0 then (anyP,p+1)
  else if zad b (p+1) 6=0 then (⟨5,0,0,0,0,[(zaF b w d t (p+2)).1,(zaF b w d t (zaF b w d t (p+2)).2).1]⟩,(zaF b w d t (zaF b w d t (p+2)).2).2)
  else if t.data = -1 then (⟨3,0,zad b (p+2) 10,zad b (p+2) 10+zad b (p+3) (10-zad b (p+2) 10)*zad b (p+4) 2,0,[]⟩,p+5)
  else if (zao w t).length=0 then (anyP,p+2)
  else (⟨4,nth (zao w t) (zad b (p+2) (zao w t).length).toNat,0,0,0,(dA (zaF b w d) (zae w t (nth (zao w t) (zad b (p+2) (zao w t).length).toNat)) (p+3)).1⟩,
   (dA (zaF b w d) (zae w t (nth (zao w t) (zad b (p+2) (zao w t).length).toNat)) (p+3)).2)
def bdP:Nat->Nat
 |0=>0
 |d+1=>5+3*bdP d
def Few (w:List Data):Prop:=∀t c,c∈zao w t->TyIn w.length t->(zae w t c).length<=3/\∀u∈zae w t c,TyIn w.length u
theorem zsZ {f:Ty->Nat->Pat×Nat}{k:Nat}:∀(l:List Ty) (q:Nat),(∀t∈l,∀q,(f t q).2<=q+k)->(dA f l q).2<=q+l.length*k
 | [],q,_=>by simp[dA]
 |t::r,q,h=>by
  have h1:=h t oe q;have h2:=zsZ r (f t q).2 (fun x hx=>h x (by simp[hx]));simp only[dA,xab,Nat.add_mul];omega
theorem zq5 {f:Ty->Nat->Pat×Nat}:∀(l:List Ty) (q:Nat),(dA f l q).1.length=l.length
 | [],q=>rfl
 |t::r,q=>by simp only[dA,xab,zq5 r]
theorem zic {l:List Int}{b:Str}{p:Nat} (h:¬l.length=0):nth l (zad b p l.length).toNat∈l:=by
 have:=zbo (b:=b) (p:=p) (n:=(l.length:Int)) od;exact zam od
theorem zhW {b:Str}{w:List Data} (hf:Few w):∀(d:Nat) (t:Ty) (p:Nat),TyIn w.length t->(zaF b w d t p).2<=p+bdP d
 |0,t,p,_=>by simp[zaF,bdP]
 |d+1,t,p,ht=>by
  have ih:=fun t p ht=>zhW (b:=b) hf d t p ht;unfold zaF bdP;split
  ·dsimp only;omega
  ·split
   ·dsimp only;omega
   ·split
    ·dsimp only;have h1:=ih t (p+2) ht;have h2:=ih t (zaF b w d t (p+2)).2 ht;omega
    ·split
     ·dsimp only;omega
     ·split
      ·dsimp only;omega
      ·rename_i h5;dsimp only;have hm:=zic (b:=b) (p:=p+2) h5;have h3:=hf t _ hm ht;have h1:=zsZ (f:=zaF b w d) (k:=bdP d) (zae w t (nth (zao w t) (zad b (p+2) (zao w t).length).toNat)) (p+3) (fun u hu q=>ih u q (h3.2 u hu));have h4:(zae w t (nth (zao w t) (zad b (p+2) (zao w t).length).toNat)).length*bdP d<=3*bdP d:=xav _ h3.1;omega
theorem zr7 {w:List Data} (hs:WSmall w) (hv:zaT w=true):Few w:=by
 have hw:=zco hs hv;have hW:=(zcp w).1 hv;rintro ⟨a,k⟩ c hc ht
 obtain⟨d,rfl,h1,j,rfl,h3⟩:=zbc ht hc;refine⟨?_,fun u hu=>ziH hw h1 ⟨j,rfl,h3⟩ hu⟩;have hco:=hW.ctor _ (zam h1) _ (zam h3);simp only[zbz,xad,xah] at hco;simp only[zae,Int.toNat_natCast,xac];omega
theorem xaP (l:List Pat):Pat.cs l=l.map Pat.cc:=by
 rw[xaR];exact List.map_congr_left (fun v _=>xaM v)
section
variable {b:Str}{w:List Data}{d p:Nat}{a k:Int}
theorem zpb (h:d=0):zaF b w (d+1) ⟨a,k⟩ p=(anyP,p):=by simp only[zaF];rw[if_pos h]
theorem zpc (h:¬d=0) (h2:zad b p 4=0):zaF b w (d+1) ⟨a,k⟩ p=(anyP,p+1):=by simp only[zaF];rw[if_neg h,if_pos h2]
theorem zpd (h:¬d=0) (h2:¬zad b p 4=0) (h3:zad b (p+1) 6=0):zaF b w (d+1) ⟨a,k⟩ p =
  (⟨5,0,0,0,0,[(zaF b w d ⟨a,k⟩ (p+2)).1,(zaF b w d ⟨a,k⟩ (zaF b w d ⟨a,k⟩ (p+2)).2).1]⟩,(zaF b w d ⟨a,k⟩ (zaF b w d ⟨a,k⟩ (p+2)).2).2):=by
 simp only[zaF];rw[if_neg h,if_neg h2,if_pos h3]
theorem zpe (h:¬d=0) (h2:¬zad b p 4=0) (h3:¬zad b (p+1) 6=0) (h4:a = -1):zaF b w (d+1) ⟨a,k⟩ p =
  (⟨3,0,zad b (p+2) 10,zad b (p+2) 10+zad b (p+3) (10-zad b (p+2) 10)*zad b (p+4) 2,0,[]⟩,p+5):=by
 simp only[zaF];rw[if_neg h,if_neg h2,if_neg h3,if_pos h4]
theorem zpf (h:¬d=0) (h2:¬zad b p 4=0) (h3:¬zad b (p+1) 6=0) (h4:¬a = -1) (h5:(zao w ⟨a,k⟩).length=0):zaF b w (d+1) ⟨a,k⟩ p=(anyP,p+2):=by
 simp only[zaF];rw[if_neg h,if_neg h2,if_neg h3,if_neg h4,if_pos h5]
theorem zpg (h:¬d=0) (h2:¬zad b p 4=0) (h3:¬zad b (p+1) 6=0) (h4:¬a = -1) (h5:¬(zao w ⟨a,k⟩).length=0){cc:Int} (hc:nth (zao w ⟨a,k⟩) (zad b (p+2) (zao w ⟨a,k⟩).length).toNat=cc):zaF b w (d+1) ⟨a,k⟩ p =
  (⟨4,cc,0,0,0,(dA (zaF b w d) (zae w ⟨a,k⟩ cc) (p+3)).1⟩,(dA (zaF b w d) (zae w ⟨a,k⟩ cc) (p+3)).2):=by
 simp only[zaF];rw[if_neg h,if_neg h2,if_neg h3,if_neg h4,if_neg h5,hc]
end
theorem zeo {b:Str}{w:List Data} (hb:b.length<=2000) (hw:WT w) (hf:Few w):∀(d:Nat){a k m:Int}{p:Nat},m=d->d<=4->1<=d->p+bdP d<=1000000->TyIn w.length ⟨a,k⟩->
  FnD Tryz.prog 259 [.ref 900 0,.d (zah w),.agg [.d (.i a),.d (.i k)],.d (.i m)] [(900,some (rdB b p))]
   (.agg [.d (.i (zaF b w d ⟨a,k⟩ p).1.op),.d (.i (zaF b w d ⟨a,k⟩ p).1.ctor),.d (.i (zaF b w d ⟨a,k⟩ p).1.n),.d (.i (zaF b w d ⟨a,k⟩ p).1.m),.d (.i (zaF b w d ⟨a,k⟩ p).1.var),.d (zau (zaF b w d ⟨a,k⟩ p).1.kids)]) [(900,some (rdB b (zaF b w d ⟨a,k⟩ p).2))]
 |0,a,k,m,p,_,_,h1,_,_=>by omega
 |d+1,a,k,m,p,hm,hd4,_,hp,ht=>by
  have hcl:=zeq hw ht;have hbd:bdP (d+1)=5+3*bdP d:=rfl;have ih:=fun(t:Ty) (q:Nat) (ht:TyIn w.length t)=>zhW (b:=b) hf d t q ht;have v10:=zbo (b:=b) (p:=p+2) (n:=10) od;have v11:=zbo (b:=b) (p:=p+3) (n:=10-zad b (p+2) 10) od;have v12:=zbo (b:=b) (p:=p+4) (n:=2) od;have v13:0<=zad b (p+3) (10-zad b (p+2) 10)*zad b (p+4) 2/\zad b (p+3) (10-zad b (p+2) 10)*zad b (p+4) 2<=10:=by
   have h:zad b (p+4) 2=0\/zad b (p+4) 2=1:=by omega
   rcases h with h|h<;>rw[h]<;>omega
  have hvl:((((zao w ⟨a,k⟩).map fun n=>[D.i n]).length:Nat):Int)=(zao w ⟨a,k⟩).length:=by simp
  have v14:=fun h=>zbo (b:=b) (p:=p+2) (n:=((zao w ⟨a,k⟩).length:Int)) h;have hmem:=fun h=>zic (l:=zao w ⟨a,k⟩) (b:=b) (p:=p+2) h;generalize hcc:nth (zao w ⟨a,k⟩) (zad b (p+2) (zao w ⟨a,k⟩).length).toNat=cc at *;have hfw:=fun h=>hf ⟨a,k⟩ cc (hmem h) ht;have hat:¬(zao w ⟨a,k⟩).length=0->((zao w ⟨a,k⟩).map fun n=>[D.i n])[(zad b (p+2) (zao w ⟨a,k⟩).length).toNat]?=some [D.i cc]:=fun h=>by
   rw[<-hcc];exact zan (by have:=v14 od;omega)
  refine bd Tryz.f259 96 [] [] fun _ _ _ _ hk=>?_;refine bx 3006 ?_;refine ab 3008 tz60 ?_;apply tv;apply sq<;>intro h1 h1p h1s<;>(try simp only[Q] at h1p);refine sqT ?_;refine bu [0] [_] st60 ?_;refine so ty60 ?_;apply tv;refine rn [(900,some (rdB b (zaF b w (d+1) ⟨a,k⟩ p).2))] (ra ty60) (.agg (qeeeeen ?_ ?_ ?_ ?_ ?_ ?_)) ⟨I,I⟩ (SubO.get ⟨.inr ?_,⟨.inl I,O⟩⟩) (zak I);rotate_left 7;refine Walk.call (cr:=[]) zbg (zaD (p:=p) (n:=4) hb od od) I (.some I I h1) I I (LeL.refl _) ⟨I,O⟩ I I I ?_;refine evs [] [(16,false)] ?_ ⟨⟨_,I,h1⟩,O⟩;apply sq<;>intro h3 h3p h3s<;>(try simp only[Q] at h3p);refine bu [0] [_] st60 ?_;refine so ty60 ?_;apply tv;refine rn [(900,some (rdB b (zaF b w (d+1) ⟨a,k⟩ p).2))] (ra ty60) (.agg (qeeeeen ?_ ?_ ?_ ?_ ?_ ?_)) ⟨I,I⟩ (SubO.get ⟨.inr ?_,⟨.inl I,O⟩⟩) (zak I);rotate_left 7;refine wd zbg (zaD (p:=p+1) (n:=6) hb od od) I I ⟨I,O⟩ ?_;refine ev ?_;apply sq<;>intro h4 h4p h4s<;>(try simp only[Q] at h4p);refine ar (wd zkK (zeo hb hw hf d (p:=p+2) od od od od ht) I I ⟨I,O⟩ ?_);refine evd [] [] (ar (wd zkK (zeo hb hw hf d (p:=(zaF b w d ⟨a,k⟩ (p+2)).2) od od od (by have:=ih ⟨a,k⟩ (p+2) ht;omega) ht) I I ⟨I,O⟩ ?_));refine si [0,1] [_,_] sl58 tz60 ?_;refine bu [0,5] [_,_] st60 ?_;refine so ty60 ?_;refine dr (rn [(900,some (rdB b (zaF b w (d+1) ⟨a,k⟩ p).2))] (ra ty60) (.agg (qeeeeee ?_ ?_ ?_ ?_ ?_ ?_)) ⟨I,I⟩ (SubO.get ⟨.inr ?_,⟨.inl I,O⟩⟩) (zak I));rotate_left 7;apply sq<;>intro h5 h5p h5s<;>(try simp only[Q] at h5p);refine wd zbg (zaD (p:=p+2) (n:=10) hb od od) I I ⟨I,O⟩ ?_;refine ev (ar (wd zbg (zaD (p:=p+3) (n:=10-zad b (p+2) 10) hb od od) I I ⟨I,O⟩ ?_));refine ev (wd zbg (zaD (p:=p+4) (n:=2) hb od od) I I ⟨I,O⟩ ?_);refine ev (ar (ar (bu [0,2,3] [_,_,_] st60 ?_)));refine so ty60 ?_;apply tv;refine rn [(900,some (rdB b (zaF b w (d+1) ⟨a,k⟩ p).2))] (ra ty60) (.agg (qeeeeen ?_ ?_ ?_ ?_ ?_ ?_)) ⟨I,I⟩ (SubO.get ⟨.inr ?_,⟨.inl I,O⟩⟩) (zak I);rotate_left 7;refine wc zfM (zb4 hw ht) I I ?_;refine ev ?_;apply sq<;>intro h6 h6p h6s<;>(try simp only[Q] at h6p);refine bu [0] [_] st60 ?_;refine so ty60 ?_;apply tv;refine rn [(900,some (rdB b (zaF b w (d+1) ⟨a,k⟩ p).2))] (ra ty60) (.agg (qeeeeen ?_ ?_ ?_ ?_ ?_ ?_)) ⟨I,I⟩ (SubO.get ⟨.inr ?_,⟨.inl I,O⟩⟩) (zak I);rotate_left 7;refine wd zbg (zaD (p:=p+2) (n:=((((zao w ⟨a,k⟩).map fun n=>[D.i n]).length:Nat):Int)) hb od od) I I ⟨I,O⟩ ?_;refine xbB (i:=(zad b (p+2) (zao w ⟨a,k⟩).length).toNat) zaZ .none I I I (by rw[hvl];have:=v14 od;omega) (hat od) I ?_;refine ev (bu [0,1] [_,_] st60 ?_);refine ab 3011 tz60 ?_;refine so ty60 ?_;apply tv;refine wc zcj (zcB hw ht (hmem od)) I I ?_;refine ev (xaD 3011 5 1 6 I I I I (xaA (ι:=List (Ty)×List (Ty)×(Nat)×(List Pat)) hk (fun x=>[(13,.d (.i (x.1.length:Int)))]) [75,76,77,78,79,80,81,82,83,84,85,86,87,88,89,90,91,92,93,94] (fun x=>[(900,some (.box [.d (zbP b),.d (.i (x.2.2.1:Int))])),(3011,some (.box [.d (.i 4),.d (.i cc),.d (.i 0),.d (.i 0),.d (.i 0),.gl 1 (x.2.2.2.map Pat.cc)])),(1,some (.tok (x.2.2.2.map Pat.cc).length 6))]) (fun x=>x.1++x.2.1=zae w ⟨a,k⟩ cc/\x.2.2.1<=p+3+x.1.length*bdP d/\x.2.2.2.length=x.1.length/\(x.2.2.2++(dA (zaF b w d) x.2.1 x.2.2.1).1,(dA (zaF b w d) x.2.1 x.2.2.1).2)=dA (zaF b w d) (zae w ⟨a,k⟩ cc) (p+3)) (fun x=>x.2.1.length) ([],zae w ⟨a,k⟩ cc,p+3,[]) ⟨by simp,by simp,by simp,by simp⟩ ⟨⟨_,I,xaK ?_⟩,O⟩ ⟨?_,⟨?_,⟨zag ?_,O⟩⟩⟩ (fun x=>rfl) (fun x hg1=>?_)));focus (rfl)
  iterate 2 focus (first|rfl|(simp[getH];done))
  focus (rfl)
  obtain⟨pre,rest,q,ks⟩:=x;dsimp only at hg1 ⊢;refine evc [] [] ?_;apply sq<;>intro h7 h7p h7s<;>(try simp only[Q] at h7p);rcases rest with _|⟨y,rest⟩
  ·exfalso;simp_all
  have hpm:pre.length*bdP d<=2*bdP d:=xav _ (by have:=(hfw od).1;omega);refine ixq zaL I I I (zaE hg1.1) I (evd [] [] (ar (wd zkK (zeo hb hw hf d (a:=y.data) (k:=y.index) (p:=q) od od od od ((hfw od).2 y (by rw[<-hg1.1];simp))) I I ⟨I,O⟩ ?_)));refine si [0] [_] sl58 tz60 ?_;refine ap sl58 zz60 I I I oe (by have hz:=xam List.length hg1.1;have:=(hfw od).1;simp at hz ⊢;omega) ?_;refine evd [] [] (so ty58 ?_);refine dr (ar (xaj ((pre++[y],rest,(zaF b w d y q).2,ks++[(zaF b w d y q).1])) ⟨⟨(by have hz:=hg1.1;rw[<-hz];simp),⟨(by have:=ih y q ((hfw od).2 y (by rw[<-hg1.1];simp));simp only[xaa,xab,xak,Nat.add_mul];omega),(by simp[hg1.2.2.1]),(by rw[<-hg1.2.2.2];simp[dA])⟩⟩,oe,sx ⟨⟨_,I,xaK ?_⟩,O⟩ ⟨?_,⟨?_,⟨zag ?_,O⟩⟩⟩⟩));focus ((simp;done))
  iterate 2 focus (first|rfl|(simp[getH];done))
  focus ((simp;done))
  have hrest:rest=[]:=by
   rcases rest with _|⟨a,b⟩
   ·rfl
   ·exfalso;have hz:=xam List.length (hg1.1);simp only[xaa,xab,xac] at hz;omega
  subst hrest;refine so ty60 ?_;apply tv;refine rn [(900,some (rdB b (zaF b w (d+1) ⟨a,k⟩ p).2))] (ra ty60) (.agg (qeeeeeg ?_ ?_ ?_ ?_ ?_ ?_)) ⟨I,I⟩ (SubO.get ⟨.inr ?_,⟨.inl I,O⟩⟩) (zak I);rotate_left 7;all_goals (((first|(rw[zpb od];all_goals first|rfl|(show _=D.sl (Pat.cs _);rw[xaP];all_goals rfl)|(show _=Pat.cs _;rw[xaP];all_goals rfl))|(rw[zpc od od];all_goals first|rfl|(show _=D.sl (Pat.cs _);rw[xaP];all_goals rfl)|(show _=Pat.cs _;rw[xaP];all_goals rfl))|(rw[zpd od od od];all_goals first|rfl|(show _=D.sl (Pat.cs _);rw[xaP];all_goals rfl)|(show _=Pat.cs _;rw[xaP];all_goals rfl))|(rw[zpe od od od od];all_goals first|rfl|(show _=D.sl (Pat.cs _);rw[xaP];all_goals rfl)|(show _=Pat.cs _;rw[xaP];all_goals rfl))|(rw[zpf od od od od od];all_goals first|rfl|(show _=D.sl (Pat.cs _);rw[xaP];all_goals rfl)|(show _=Pat.cs _;rw[xaP];all_goals rfl))|(rw[zpg od od od od od hcc];have hfin:=hg1.2.2.2;simp only[dA,xaq] at hfin;rw[<-hfin];all_goals first|rfl|(show _=D.sl (Pat.cs _);rw[xaP];all_goals rfl)|(show _=Pat.cs _;rw[xaP];all_goals rfl)));done))
def namL (f:Pat->Int->Nat->Pat×Int×Nat):List Pat->Int->Nat->List Pat×Int×Nat
 | [],m,q=>([],m,q)
 |x::r,m,q=>((f x m q).1::(namL f r (f x m q).2.1 (f x m q).2.2).1,(namL f r (f x m q).2.1 (f x m q).2.2).2)
def namP (b:Str):Nat->Pat->Int->Nat->Pat×Int×Nat
 |0,p,m,q=>(p,m,q)
 |n+1,p,m,q=>
  if 5<m\/p.op=5\/p.op=3 then (p,m,q)
  else if p.op=1/\zad b q 2=0 then (⟨2,0,0,0,m,[]⟩,m+1,q+1)
  else if (namL (namP b n) p.kids m (if p.op=1 then q+1 else q)).2.1<=5 then
   (if zad b (namL (namP b n) p.kids m (if p.op=1 then q+1 else q)).2.2 6=0 then
    (⟨6,0,0,0,(namL (namP b n) p.kids m (if p.op=1 then q+1 else q)).2.1,[⟨p.op,p.ctor,p.n,p.m,p.var,(namL (namP b n) p.kids m (if p.op=1 then q+1 else q)).1⟩]⟩,
     (namL (namP b n) p.kids m (if p.op=1 then q+1 else q)).2.1+1,(namL (namP b n) p.kids m (if p.op=1 then q+1 else q)).2.2+1)
   else (⟨p.op,p.ctor,p.n,p.m,p.var,(namL (namP b n) p.kids m (if p.op=1 then q+1 else q)).1⟩,(namL (namP b n) p.kids m (if p.op=1 then q+1 else q)).2.1,(namL (namP b n) p.kids m (if p.op=1 then q+1 else q)).2.2+1))
  else (⟨p.op,p.ctor,p.n,p.m,p.var,(namL (namP b n) p.kids m (if p.op=1 then q+1 else q)).1⟩,(namL (namP b n) p.kids m (if p.op=1 then q+1 else q)).2.1,(namL (namP b n) p.kids m (if p.op=1 then q+1 else q)).2.2)
section
variable {b:Str}{n:Nat}{p:Pat}{m:Int}{q:Nat}{ks:List Pat}{zm:Int}{zq:Nat}
theorem ztb (h:5<m\/p.op=5\/p.op=3):namP b (n+1) p m q=(p,m,q):=by simp only[namP];rw[if_pos h]
theorem ztc (h:¬(5<m\/p.op=5\/p.op=3)) (h2:p.op=1/\zad b q 2=0):namP b (n+1) p m q=(⟨2,0,0,0,m,[]⟩,m+1,q+1):=by simp only[namP];rw[if_neg h,if_pos h2]
theorem ztd (h:¬(5<m\/p.op=5\/p.op=3)) (h2:¬(p.op=1/\zad b q 2=0)) (hz:(ks,zm,zq)=namL (namP b n) p.kids m (if p.op=1 then q+1 else q)) (h3:zm<=5) (h4:zad b zq 6=0):
  namP b (n+1) p m q=(⟨6,0,0,0,zm,[⟨p.op,p.ctor,p.n,p.m,p.var,ks⟩]⟩,zm+1,zq+1):=by
 simp only[namP];rw[if_neg h,if_neg h2,<-hz];dsimp only;rw[if_pos h3,if_pos h4]
theorem zte (h:¬(5<m\/p.op=5\/p.op=3)) (h2:¬(p.op=1/\zad b q 2=0)) (hz:(ks,zm,zq)=namL (namP b n) p.kids m (if p.op=1 then q+1 else q)) (h3:zm<=5) (h4:¬zad b zq 6=0):
  namP b (n+1) p m q=(⟨p.op,p.ctor,p.n,p.m,p.var,ks⟩,zm,zq+1):=by
 simp only[namP];rw[if_neg h,if_neg h2,<-hz];dsimp only;rw[if_pos h3,if_neg h4]
theorem ztf (h:¬(5<m\/p.op=5\/p.op=3)) (h2:¬(p.op=1/\zad b q 2=0)) (hz:(ks,zm,zq)=namL (namP b n) p.kids m (if p.op=1 then q+1 else q)) (h3:¬zm<=5):
  namP b (n+1) p m q=(⟨p.op,p.ctor,p.n,p.m,p.var,ks⟩,zm,zq):=by
 simp only[namP];rw[if_neg h,if_neg h2,<-hz];dsimp only;rw[if_neg h3]
end
def NamOk (p:Pat) (m:Int) (q:Nat) (r:Pat×Int×Nat):Prop:=m<=r.2.1/\r.2.1<=6/\r.2.2<=q+2*p.size/\r.1.size<=2*p.size/\(p.ok->r.1.ok)
theorem zps {f:Pat->Int->Nat->Pat×Int×Nat}:∀(l:List Pat) (m:Int) (q:Nat),(∀x∈l,∀m q,0<=m->m<=6->NamOk x m q (f x m q))->0<=m->m<=6->
  m<=(namL f l m q).2.1/\(namL f l m q).2.1<=6/\(namL f l m q).2.2<=q+2*Pats.size l/\Pats.size (namL f l m q).1<=2*Pats.size l/\(namL f l m q).1.length=l.length/\(Pats.ok l->Pats.ok (namL f l m q).1)
 | [],m,q,_,_,h6=>by simp[namL,Pats.size,h6]
 |x::r,m,q,h,h0,h6=>by
  obtain⟨a1,a2,a3,a4,a5⟩:=h x oe m q h0 h6;obtain⟨b1,b2,b3,b4,b5,b6⟩:=zps r (f x m q).2.1 (f x m q).2.2 (fun y hy=>h y (by simp[hy])) od a2;simp only[namL,Pats.size,xab];refine⟨by omega,by omega,by omega,by omega,by omega,fun ho=>?_⟩;exact⟨a5 ho.1,b6 ho.2⟩
theorem zl4 {b:Str}:∀(n:Nat) (p:Pat) (m:Int) (q:Nat),0<=m->m<=6->NamOk p m q (namP b n p m q)
 |0,p,m,q,h0,h6=>⟨by simp[namP],by simp[namP,h6],by simp[namP],by simp[namP];omega,fun h=>h⟩
 |n+1,p,m,q,h0,h6=>by
  have hs:=xaV p;by_cases h:5<m\/p.op=5\/p.op=3
  ·rw[ztb h];exact⟨Int.le_refl _,h6,by dsimp only;omega,by dsimp only;omega,fun h=>h⟩
  ·by_cases h2:p.op=1/\zad b q 2=0
   ·rw[ztc h h2];refine⟨by dsimp only;omega,by dsimp only;omega,by dsimp only;omega, ?_,fun _=>?_⟩
    ·show(Pat.mk 2 0 0 0 m []).size<=_;rw[xaV];simp only[Pat.kids,Pats.size];omega
    ·show(Pat.mk 2 0 0 0 m []).ok;rw[xaU];exact⟨by simp[Pat.kids],trivial⟩
   ·generalize hz:namL (namP b n) p.kids m (if p.op=1 then q+1 else q)=z;obtain⟨ks,zm,zq⟩:=z;have hq:(if p.op=1 then q+1 else q)<=q+1:=by split<;>omega
    obtain⟨b1,b2,b3,b4,b5,b6⟩:=zps (f:=namP b n) p.kids m (if p.op=1 then q+1 else q) (fun x _ m q h0 h6=>zl4 n x m q h0 h6) h0 h6;rw[hz] at b1 b2 b3 b4 b5 b6;dsimp only at b1 b2 b3 b4 b5 b6;have so:(Pat.mk p.op p.ctor p.n p.m p.var ks).size=1+Pats.size ks:=by rw[xaV];rfl
    have ko:p.ok->(Pat.mk p.op p.ctor p.n p.m p.var ks).ok:=fun h=>by
     rw[xaU] at h ⊢;exact⟨by show ks.length<=_;rw[b5];exact h.1,b6 h.2⟩
    by_cases h3:zm<=5
    ·by_cases h4:zad b zq 6=0
     ·rw[ztd h h2 hz.symm h3 h4];refine⟨by dsimp only;omega,by dsimp only;omega,by dsimp only;omega, ?_,fun hk=>?_⟩
      ·dsimp only;rw[xaV];simp only[Pat.kids,Pats.size];rw[so];omega
      ·dsimp only;rw[xaU];exact⟨by simp[Pat.kids],ko hk,trivial⟩
     ·rw[zte h h2 hz.symm h3 h4];exact⟨b1,b2,by dsimp only;omega,by dsimp only;rw[so];omega,ko⟩
    ·rw[ztf h h2 hz.symm h3];exact⟨b1,b2,by dsimp only;omega,by dsimp only;rw[so];omega,ko⟩
theorem zkh {f:Pat->Int->Nat->Pat×Int×Nat}{ks:List Pat}{zm:Int}{zq:Nat}{z:List Pat×Int×Nat} (h:(ks++(namL f [] zm zq).1,(namL f [] zm zq).2)=z):(ks,zm,zq)=z:=by
 rw[<-h];simp[namL]
theorem xaZ {l:List Pat}{y:Pat}:Pats.size (l++[y])=Pats.size l+y.size:=by
 have:=xa0 (pre:=l) (rest:=[]) (y:=y) rfl;simpa [Pats.size] using this
theorem zfB {b:Str} (hb:b.length<=2000):∀(n:Nat){p:Pat}{m:Int}{q:Nat},p.size<=n->p.ok->0<=m->m<=6->q+2*p.size<=1000000->
  FnD Tryz.prog 258 [.ref 900 0,.agg [.d (.i p.op),.d (.i p.ctor),.d (.i p.n),.d (.i p.m),.d (.i p.var),.d (zau p.kids)],.d (.i m)] [(900,some (rdB b q))] (.tup [.agg [.d (.i (namP b n p m q).1.op),.d (.i (namP b n p m q).1.ctor),.d (.i (namP b n p m q).1.n),.d (.i (namP b n p m q).1.m),.d (.i (namP b n p m q).1.var),.d (zau (namP b n p m q).1.kids)],.d (.i (namP b n p m q).2.1)]) [(900,some (rdB b (namP b n p m q).2.2))]
 |0,p,m,q,h,_,_,_,_=>by rw[xaV] at h;omega
 |n+1,p,m,q,kn,hok,k0,k6,hq=>by
  have hs:=xaV p;have hok':=hok;rw[xaU] at hok';have ih:=fun(x:Pat) (m:Int) (q:Nat) (h0:0<=m) (h6:m<=6)=>zl4 (b:=b) n x m q h0 h6;have hysz:∀ {pre rest:List Pat}{y:Pat},pre++y::rest=p.kids->y.size+Pats.size pre+Pats.size rest=Pats.size p.kids:=fun h=>by have:=xa0 h;omega
  have hq1:(if p.op=1 then q+1 else q)<=q+1:=by split<;>omega
  generalize hqq:(if p.op=1 then q+1 else q)=q1 at hq1;have hqa:p.op=1->q1=q+1:=fun h=>by rw[<-hqq,if_pos h]
  have hqb:¬p.op=1->q1=q:=fun h=>by rw[<-hqq,if_neg h]
  refine bd Tryz.f258 82 [] [] fun _ _ _ _ hk=>?_;refine bx 3004 ?_;refine ab 3006 tz60 ?_;refine ev ?_;apply sq<;>intro h1 h1p h1s<;>(try simp only[Q,xaS] at h1p);refine sqT ?_;refine sqT ?_;refine so ty60 ?_;refine ev (rn [(900,some (rdB b (namP b (n+1) p m q).2.2))] (rc ty60) (.tup (.cons (.agg (qeeeeee ?_ ?_ ?_ ?_ ?_ ?_)) (qe ?_))) ⟨I,I⟩ (SubO.get ⟨.inr ?_,⟨.inl I,O⟩⟩) (zak I));rotate_left 8;apply sq<;>intro h3 h3p h3s<;>(try simp only[Q,xaS] at h3p);refine sqT ?_;refine so ty60 ?_;refine ev (rn [(900,some (rdB b (namP b (n+1) p m q).2.2))] (rc ty60) (.tup (.cons (.agg (qeeeeee ?_ ?_ ?_ ?_ ?_ ?_)) (qe ?_))) ⟨I,I⟩ (SubO.get ⟨.inr ?_,⟨.inl I,O⟩⟩) (zak I));rotate_left 8;apply sq<;>intro h5 h5p h5s<;>(try simp only[Q,xaS] at h5p);refine so ty60 ?_;refine ev (rn [(900,some (rdB b (namP b (n+1) p m q).2.2))] (rc ty60) (.tup (.cons (.agg (qeeeeee ?_ ?_ ?_ ?_ ?_ ?_)) (qe ?_))) ⟨I,I⟩ (SubO.get ⟨.inr ?_,⟨.inl I,O⟩⟩) (zak I));rotate_left 8;apply sq<;>intro h6 h6p h6s<;>(try simp only[Q,xaS] at h6p);refine Walk.call (cr:=[]) zbg (zaD (p:=q) (n:=2) hb od od) I (.some I I h6) I I (LeL.refl _) ⟨I,O⟩ I I I ?_;refine evs [] [(30,true)] ?_ ⟨⟨_,I,h6⟩,O⟩;apply sq<;>intro h7 h7p h7s<;>(try simp only[Q,xaS] at h7p);refine bu [0,4] [_,_] st60 ?_;refine ev (ar (so ty60 ?_));refine ev (rn [(900,some (rdB b (namP b (n+1) p m q).2.2))] (rc ty60) (.tup (.cons (.agg (qeeeeen ?_ ?_ ?_ ?_ ?_ ?_)) (qe ?_))) ⟨I,I⟩ (SubO.get ⟨.inr ?_,⟨.inl I,O⟩⟩) (zak I));rotate_left 8;refine ab 3008 tz60 ?_;refine so ty60 ?_;apply tv;refine so ty58 ?_;apply tv;refine xaD 3008 5 1 6 I I I I (xaA (ι:=List (Pat)×List (Pat)×(Int)×(Nat)×(List Pat)) hk (fun x=>[(10,.d (.i (x.1.length:Int))),(9,.d (.i x.2.2.1))]) [11,12,42,43,44,45,46,47,48,49,50,51,52,53,54,55,56,57,58,59,60,61,62,63,64,65,66] (fun x=>[(900,some (.box [.d (zbP b),.d (.i (x.2.2.2.1:Int))])),(3008,some (.box [.d (.i p.op),.d (.i p.ctor),.d (.i p.n),.d (.i p.m),.d (.i p.var),.gl 1 (x.2.2.2.2.map Pat.cc)])),(1,some (.tok (x.2.2.2.2.map Pat.cc).length 6))]) (fun x=>x.1++x.2.1=p.kids/\0<=x.2.2.1/\x.2.2.1<=6/\x.2.2.2.1<=q1+2*Pats.size x.1/\x.2.2.2.2.length=x.1.length/\(x.2.2.2.2++(namL (namP b n) x.2.1 x.2.2.1 x.2.2.2.1).1,(namL (namP b n) x.2.1 x.2.2.1 x.2.2.2.1).2)=namL (namP b n) p.kids m q1) (fun x=>x.2.1.length) ([],p.kids,m,q1,[]) ⟨by simp,by simpa using k0,by simpa using k6,by simp[Pats.size],by simp,by simp⟩ ⟨⟨_,I,xaK ?_⟩,⟨⟨_,I,xaK ?_⟩,O⟩⟩ ⟨?_,⟨?_,⟨zag ?_,O⟩⟩⟩ (fun x=>rfl) (fun x hg1=>?_));iterate 2 focus ((simp;done))
  iterate 2 focus (first|(simp[getH];done)|(show some (Res.box _)=some (Res.box _);rw[hqa od];all_goals rfl))
  focus ((simp;done))
  obtain⟨pre,rest,zm,zq,ks⟩:=x;dsimp only at hg1 ⊢;refine evc [] [] ?_;apply sq<;>intro h8 h8p h8s<;>(try simp only[Q,xaS] at h8p);rcases rest with _|⟨y,rest⟩
  ·exfalso;simp_all
  have hni:=ih y zm zq hg1.2.1 hg1.2.2.1;have hn1:=hni.1;have hn2:=hni.2.1;have hn3:=hni.2.2.1;refine ixq sl58 I I I (xaO hg1.1) I (ev (wd znL (zfB hb n (p:=y) (m:=zm) (q:=zq) (by have:=hysz hg1.1;omega) (xaX hok'.2 y (by rw[<-hg1.1];simp)) od od (by have:=hysz hg1.1;omega)) I I ⟨I,O⟩ ?_));refine ev (ab 3011 tz60 ?_);refine so ty60 ?_;refine ev (si [0] [_] sl58 tz60 ?_);refine ap sl58 zz60 I I I oe (by have hz:=xam List.length hg1.1;simp at hz ⊢;omega) ?_;refine ev (so ty58 ?_);apply tv;refine ar (xaj ((pre++[y],rest,(namP b n y zm zq).2.1,(namP b n y zm zq).2.2,ks++[(namP b n y zm zq).1])) ⟨⟨(by have hz:=hg1.1;rw[<-hz];simp),⟨by dsimp only;omega,by dsimp only;omega,(by rw[xaZ];dsimp only;omega),(by simp[hg1.2.2.2.2.1]),(by rw[<-hg1.2.2.2.2.2];simp[namL])⟩⟩,oe,sx ⟨⟨_,I,xaK ?_⟩,⟨⟨_,I,xaK ?_⟩,O⟩⟩ ⟨?_,⟨?_,⟨zag ?_,O⟩⟩⟩⟩);iterate 2 focus ((simp;done))
  iterate 2 focus (first|rfl|(simp[getH];done))
  focus ((simp;done))
  have hrest:rest=[]:=by
   rcases rest with _|⟨a,b⟩
   ·rfl
   ·exfalso;have hz:=xam List.length (hg1.1);simp only[xaa,xab,xac] at hz;omega
  subst hrest;apply sq<;>intro h9 h9p h9s<;>(try simp only[Q,xaS] at h9p);refine Walk.call (cr:=[]) zbg (zaD (p:=zq) (n:=6) hb (by have e:=hg1.1;rw[xaq] at e;rw[<-e] at hs;omega) od) I (.some I I h9) I I (LeL.refl _) ⟨I,O⟩ I I I ?_;refine evs [] [(69,true)] ?_ ⟨⟨_,I,h9⟩,O⟩;apply sq<;>intro h10 h10p h10s<;>(try simp only[Q,xaS] at h10p);refine si [0] [_] sl58 tz60 ?_;refine bu [0,4,5] [_,_,_] st60 ?_;refine ev (ar (so ty60 ?_));refine ev (rn [(900,some (rdB b (namP b (n+1) p m q).2.2))] (rc ty60) (.tup (.cons (.agg (qeeeeee ?_ ?_ ?_ ?_ ?_ ?_)) (qe ?_))) ⟨I,I⟩ (SubO.get ⟨.inr ?_,⟨.inl I,O⟩⟩) (zak I));rotate_left 8;refine so ty60 ?_;refine ev (rn [(900,some (rdB b (namP b (n+1) p m q).2.2))] (rc ty60) (.tup (.cons (.agg (qeeeeeg ?_ ?_ ?_ ?_ ?_ ?_)) (qe ?_))) ⟨I,I⟩ (SubO.get ⟨.inr ?_,⟨.inl I,O⟩⟩) (zak I));rotate_left 8;refine sqF ?_;refine so ty60 ?_;refine ev (rn [(900,some (rdB b (namP b (n+1) p m q).2.2))] (rc ty60) (.tup (.cons (.agg (qeeeeeg ?_ ?_ ?_ ?_ ?_ ?_)) (qe ?_))) ⟨I,I⟩ (SubO.get ⟨.inr ?_,⟨.inl I,O⟩⟩) (zak I));rotate_left 8;refine sqF ?_;refine ab 3008 tz60 ?_;refine so ty60 ?_;apply tv;refine so ty58 ?_;apply tv;refine xaD 3008 5 1 6 I I I I (xaA (ι:=List (Pat)×List (Pat)×(Int)×(Nat)×(List Pat)) hk (fun x=>[(10,.d (.i (x.1.length:Int))),(9,.d (.i x.2.2.1))]) [11,12,42,43,44,45,46,47,48,49,50,51,52,53,54,55,56,57,58,59,60,61,62,63,64,65,66] (fun x=>[(900,some (.box [.d (zbP b),.d (.i (x.2.2.2.1:Int))])),(3008,some (.box [.d (.i p.op),.d (.i p.ctor),.d (.i p.n),.d (.i p.m),.d (.i p.var),.gl 1 (x.2.2.2.2.map Pat.cc)])),(1,some (.tok (x.2.2.2.2.map Pat.cc).length 6))]) (fun x=>x.1++x.2.1=p.kids/\0<=x.2.2.1/\x.2.2.1<=6/\x.2.2.2.1<=q1+2*Pats.size x.1/\x.2.2.2.2.length=x.1.length/\(x.2.2.2.2++(namL (namP b n) x.2.1 x.2.2.1 x.2.2.2.1).1,(namL (namP b n) x.2.1 x.2.2.1 x.2.2.2.1).2)=namL (namP b n) p.kids m q1) (fun x=>x.2.1.length) ([],p.kids,m,q1,[]) ⟨by simp,by simpa using k0,by simpa using k6,by simp[Pats.size],by simp,by simp⟩ ⟨⟨_,I,xaK ?_⟩,⟨⟨_,I,xaK ?_⟩,O⟩⟩ ⟨?_,⟨?_,⟨zag ?_,O⟩⟩⟩ (fun x=>rfl) (fun x hg1=>?_));iterate 2 focus ((simp;done))
  iterate 2 focus (first|(simp[getH];done)|(show some (Res.box _)=some (Res.box _);rw[hqb od];all_goals rfl))
  focus ((simp;done))
  obtain⟨pre,rest,zm,zq,ks⟩:=x;dsimp only at hg1 ⊢;refine evc [] [] ?_;apply sq<;>intro h13 h13p h13s<;>(try simp only[Q,xaS] at h13p);rcases rest with _|⟨y,rest⟩
  ·exfalso;simp_all
  have hni:=ih y zm zq hg1.2.1 hg1.2.2.1;have hn1:=hni.1;have hn2:=hni.2.1;have hn3:=hni.2.2.1;refine ixq sl58 I I I (xaO hg1.1) I (ev (wd znL (zfB hb n (p:=y) (m:=zm) (q:=zq) (by have:=hysz hg1.1;omega) (xaX hok'.2 y (by rw[<-hg1.1];simp)) od od (by have:=hysz hg1.1;omega)) I I ⟨I,O⟩ ?_));refine ev (ab 3011 tz60 ?_);refine so ty60 ?_;refine ev (si [0] [_] sl58 tz60 ?_);refine ap sl58 zz60 I I I oe (by have hz:=xam List.length hg1.1;simp at hz ⊢;omega) ?_;refine ev (so ty58 ?_);apply tv;refine ar (xaj ((pre++[y],rest,(namP b n y zm zq).2.1,(namP b n y zm zq).2.2,ks++[(namP b n y zm zq).1])) ⟨⟨(by have hz:=hg1.1;rw[<-hz];simp),⟨by dsimp only;omega,by dsimp only;omega,(by rw[xaZ];dsimp only;omega),(by simp[hg1.2.2.2.2.1]),(by rw[<-hg1.2.2.2.2.2];simp[namL])⟩⟩,oe,sx ⟨⟨_,I,xaK ?_⟩,⟨⟨_,I,xaK ?_⟩,O⟩⟩ ⟨?_,⟨?_,⟨zag ?_,O⟩⟩⟩⟩);iterate 2 focus ((simp;done))
  iterate 2 focus (first|rfl|(simp[getH];done))
  focus ((simp;done))
  have hrest:rest=[]:=by
   rcases rest with _|⟨a,b⟩
   ·rfl
   ·exfalso;have hz:=xam List.length (hg1.1);simp only[xaa,xab,xac] at hz;omega
  subst hrest;apply sq<;>intro h14 h14p h14s<;>(try simp only[Q,xaS] at h14p);refine Walk.call (cr:=[]) zbg (zaD (p:=zq) (n:=6) hb (by have e:=hg1.1;rw[xaq] at e;rw[<-e] at hs;omega) od) I (.some I I h14) I I (LeL.refl _) ⟨I,O⟩ I I I ?_;refine evs [] [(69,true)] ?_ ⟨⟨_,I,h14⟩,O⟩;apply sq<;>intro h15 h15p h15s<;>(try simp only[Q,xaS] at h15p);refine si [0] [_] sl58 tz60 ?_;refine bu [0,4,5] [_,_,_] st60 ?_;refine ev (ar (so ty60 ?_));refine ev (rn [(900,some (rdB b (namP b (n+1) p m q).2.2))] (rc ty60) (.tup (.cons (.agg (qeeeeee ?_ ?_ ?_ ?_ ?_ ?_)) (qe ?_))) ⟨I,I⟩ (SubO.get ⟨.inr ?_,⟨.inl I,O⟩⟩) (zak I));rotate_left 8;refine so ty60 ?_;refine ev (rn [(900,some (rdB b (namP b (n+1) p m q).2.2))] (rc ty60) (.tup (.cons (.agg (qeeeeeg ?_ ?_ ?_ ?_ ?_ ?_)) (qe ?_))) ⟨I,I⟩ (SubO.get ⟨.inr ?_,⟨.inl I,O⟩⟩) (zak I));rotate_left 8;refine sqF ?_;refine so ty60 ?_;refine ev (rn [(900,some (rdB b (namP b (n+1) p m q).2.2))] (rc ty60) (.tup (.cons (.agg (qeeeeeg ?_ ?_ ?_ ?_ ?_ ?_)) (qe ?_))) ⟨I,I⟩ (SubO.get ⟨.inr ?_,⟨.inl I,O⟩⟩) (zak I));rotate_left 8;all_goals ((first|(rw[ztb od];all_goals first|rfl|(show _=D.sl (Pat.cs _);rw[xaP];all_goals rfl)|(show _=Pat.cs _;rw[xaP];all_goals rfl)|(show _=D.sl [[D.i _,D.i _,D.i _,D.i _,D.i _,D.sl (Pat.cs _)]];rw[xaP];all_goals rfl))|(rw[ztc od ⟨by omega,by omega⟩];all_goals first|rfl|(show _=D.sl (Pat.cs _);rw[xaP];all_goals rfl)|(show _=Pat.cs _;rw[xaP];all_goals rfl)|(show _=D.sl [[D.i _,D.i _,D.i _,D.i _,D.i _,D.sl (Pat.cs _)]];rw[xaP];all_goals rfl))|(have hz:(ks,zm,zq)=namL (namP b n) p.kids m (if p.op=1 then q+1 else q):=(by rw[hqq];exact zkh hg1.2.2.2.2.2);rw[ztd od (fun hh=>by omega) hz od od];all_goals first|rfl|(show _=D.sl (Pat.cs _);rw[xaP];all_goals rfl)|(show _=Pat.cs _;rw[xaP];all_goals rfl)|(show _=D.sl [[D.i _,D.i _,D.i _,D.i _,D.i _,D.sl (Pat.cs _)]];rw[xaP];all_goals rfl))|(have hz:(ks,zm,zq)=namL (namP b n) p.kids m (if p.op=1 then q+1 else q):=(by rw[hqq];exact zkh hg1.2.2.2.2.2);rw[zte od (fun hh=>by omega) hz od od];all_goals first|rfl|(show _=D.sl (Pat.cs _);rw[xaP];all_goals rfl)|(show _=Pat.cs _;rw[xaP];all_goals rfl)|(show _=D.sl [[D.i _,D.i _,D.i _,D.i _,D.i _,D.sl (Pat.cs _)]];rw[xaP];all_goals rfl))|(have hz:(ks,zm,zq)=namL (namP b n) p.kids m (if p.op=1 then q+1 else q):=(by rw[hqq];exact zkh hg1.2.2.2.2.2);rw[ztf od (fun hh=>by omega) hz od];all_goals first|rfl|(show _=D.sl (Pat.cs _);rw[xaP];all_goals rfl)|(show _=Pat.cs _;rw[xaP];all_goals rfl)|(show _=D.sl [[D.i _,D.i _,D.i _,D.i _,D.i _,D.sl (Pat.cs _)]];rw[xaP];all_goals rfl))))
def szP:Nat->Nat
 |0=>1
 |d+1=>1+3*szP d
theorem zt8 (d:Nat):1<=szP d:=by cases d<;>simp only[szP]<;>omega
theorem zhs:anyP.size=1/\anyP.ok:=⟨by rw[xaV];rfl,by rw[xaU];exact⟨by simp[anyP,Pat.kids],trivial⟩⟩
theorem zs0 {f:Ty->Nat->Pat×Nat}{k:Nat}:∀(l:List Ty) (q:Nat),(∀t∈l,∀q,(f t q).1.size<=k/\(f t q).1.ok)->Pats.size (dA f l q).1<=l.length*k/\Pats.ok (dA f l q).1
 | [],q,_=>by simp[dA,Pats.size,Pats.ok]
 |t::r,q,h=>by
  have h1:=h t oe q;have h2:=zs0 r (f t q).2 (fun x hx=>h x (by simp[hx]));simp only[dA,xab,Nat.add_mul,Pats.size];exact⟨by omega,h1.2,h2.2⟩
theorem zj8 {b:Str}{w:List Data} (hf:Few w):∀(d:Nat) (t:Ty) (p:Nat),TyIn w.length t->(zaF b w d t p).1.size<=szP d/\(zaF b w d t p).1.ok
 |0,t,p,_=>by simp only[zaF,szP];have:=zhs;exact⟨by omega,this.2⟩
 |d+1,⟨a,k⟩,p,ht=>by
  have ih:=fun t p ht=>zj8 (b:=b) hf d t p ht;have ha:=zhs;have hp:=zt8 d;simp only[szP];by_cases c1:d=0
  ·rw[zpb c1];exact⟨by dsimp only;omega,ha.2⟩
  by_cases c2:zad b p 4=0
  ·rw[zpc c1 c2];exact⟨by dsimp only;omega,ha.2⟩
  by_cases c3:zad b (p+1) 6=0
  ·rw[zpd c1 c2 c3];have h1:=ih ⟨a,k⟩ (p+2) ht;have h2:=ih ⟨a,k⟩ (zaF b w d ⟨a,k⟩ (p+2)).2 ht;refine⟨?_, ?_⟩
   ·dsimp only;rw[xaV];simp only[Pat.kids,Pats.size];omega
   ·dsimp only;rw[xaU];exact⟨by simp[Pat.kids],h1.2,h2.2,trivial⟩
  by_cases c4:a = -1
  ·rw[zpe c1 c2 c3 c4];refine⟨?_, ?_⟩
   ·dsimp only;rw[xaV];simp only[Pat.kids,Pats.size];omega
   ·dsimp only;rw[xaU];exact⟨by simp[Pat.kids],trivial⟩
  by_cases c5:(zao w ⟨a,k⟩).length=0
  ·rw[zpf c1 c2 c3 c4 c5];exact⟨by dsimp only;omega,ha.2⟩
  ·rw[zpg c1 c2 c3 c4 c5 rfl];have hm:=zic (b:=b) (p:=p+2) c5;have h3:=hf ⟨a,k⟩ _ hm ht;have h1:=zs0 (f:=zaF b w d) (k:=szP d) _ (p+3) (fun u hu q=>ih u q (h3.2 u hu));have h2:=zq5 (f:=zaF b w d) (zae w ⟨a,k⟩ (nth (zao w ⟨a,k⟩) (zad b (p+2) (zao w ⟨a,k⟩).length).toNat)) (p+3);have h4:(zae w ⟨a,k⟩ (nth (zao w ⟨a,k⟩) (zad b (p+2) (zao w ⟨a,k⟩).length).toNat)).length*szP d<=3*szP d:=xav _ h3.1;refine⟨?_, ?_⟩
   ·dsimp only;rw[xaV];simp only[Pat.kids];omega
   ·dsimp only;rw[xaU];exact⟨by simp only[Pat.kids];omega,h1.2⟩
theorem zkk {b:Str}{p:Nat}{l:List Int} (h:1<=l.length):numV b p l∈l:=by
 have:=zbo (b:=b) (p:=p) (n:=(l.length:Int)) od;exact zam od
theorem num4 (b:Str) (p:Nat):1<=numV b p [3,2,4,1]/\numV b p [3,2,4,1]<=4:=by
 have:=zkk (b:=b) (p:=p) (l:=[3,2,4,1]) oe;simp only[List.mem_cons,xau,or_false] at this;omega
theorem zoF {d:Nat} (h:d<=4):szP d<=121/\bdP d<=200:=by
 have:d=0\/d=1\/d=2\/d=3\/d=4:=by omega
 rcases this with rfl|rfl|rfl|rfl|rfl<;>decide
def zct (b:Str) (w:List Data) (t:Ty) (p:Nat):Pat×Int×Nat:=
 namP b (zaF b w (numV b p [3,2,4,1]).toNat t (p+1)).1.size (zaF b w (numV b p [3,2,4,1]).toNat t (p+1)).1 0 (zaF b w (numV b p [3,2,4,1]).toNat t (p+1)).2
def zbB (b:Str) (w:List Data) (t:Ty) (p:Nat):Pat:=if isP w t (zct b w t p).1 then (zct b w t p).1 else anyP
theorem zg2 {b:Str}{w:List Data} (hf:Few w){t:Ty} (ht:TyIn w.length t) (p:Nat):(zct b w t p).2.2<=p+500/\(zct b w t p).1.size<=242/\(zct b w t p).1.ok:=by
 have h4:=num4 b p;have hs:=zoF (d:=(numV b p [3,2,4,1]).toNat) od;have h1:=zj8 (b:=b) hf (numV b p [3,2,4,1]).toNat t (p+1) ht;have h2:=zhW (b:=b) hf (numV b p [3,2,4,1]).toNat t (p+1) ht;have h3:=zl4 (b:=b) (zaF b w (numV b p [3,2,4,1]).toNat t (p+1)).1.size (zaF b w (numV b p [3,2,4,1]).toNat t (p+1)).1 0 (zaF b w (numV b p [3,2,4,1]).toNat t (p+1)).2 od od;obtain⟨_,_,n3,n4,n5⟩:=h3;exact⟨by unfold zct;omega,by unfold zct;omega,n5 h1.2⟩
theorem zlm {b:Str}{w:List Data} (hf:Few w){t:Ty} (ht:TyIn w.length t) (p:Nat):(zbB b w t p).size<=242/\(zbB b w t p).ok:=by
 have h:=zg2 (b:=b) hf ht p;have ha:=zhs;unfold zbB;split
 ·exact⟨h.2.1,h.2.2⟩
 ·exact⟨by omega,ha.2⟩
theorem zmn {b:Str}{w:List Data} (hb:b.length<=2000) (hw:WT w) (hf:Few w){a k:Int}{p:Nat} (hp:p<=100000) (ht:TyIn w.length ⟨a,k⟩):
  FnD Tryz.prog 189 [.ref 900 0,.d (zah w),.agg [.d (.i a),.d (.i k)]] [(900,some (rdB b p))]
   (.agg [.d (.i (zbB b w ⟨a,k⟩ p).op),.d (.i (zbB b w ⟨a,k⟩ p).ctor),.d (.i (zbB b w ⟨a,k⟩ p).n),.d (.i (zbB b w ⟨a,k⟩ p).m),.d (.i (zbB b w ⟨a,k⟩ p).var),.d (zau (zbB b w ⟨a,k⟩ p).kids)]) [(900,some (rdB b (zct b w ⟨a,k⟩ p).2.2))]:=by
 have h4:=num4 b p;have hs:=zoF (d:=(numV b p [3,2,4,1]).toNat) od;have h1:=zj8 (b:=b) hf (numV b p [3,2,4,1]).toNat ⟨a,k⟩ (p+1) ht;have h2:=zhW (b:=b) hf (numV b p [3,2,4,1]).toNat ⟨a,k⟩ (p+1) ht;have hr:=zg2 (b:=b) hf ht p;have hnum:=zbp (b:=b) (p:=p) (l:=[3,2,4,1]) hb od oe oe;have hdr:=zeo hb hw hf (numV b p [3,2,4,1]).toNat (a:=a) (k:=k) (m:=numV b p [3,2,4,1]) (p:=p+1) od od od od ht;have hnm:=zfB hb (zaF b w (numV b p [3,2,4,1]).toNat ⟨a,k⟩ (p+1)).1.size (m:=0) (q:=(zaF b w (numV b p [3,2,4,1]).toNat ⟨a,k⟩ (p+1)).2) (Nat.le_refl _) h1.2 od od od;have hsp:zbB b w ⟨a,k⟩ p=if isP w ⟨a,k⟩ (zct b w ⟨a,k⟩ p).1 then (zct b w ⟨a,k⟩ p).1 else anyP:=rfl
 rw[show namP b (zaF b w (numV b p [3,2,4,1]).toNat ⟨a,k⟩ (p+1)).1.size (zaF b w (numV b p [3,2,4,1]).toNat ⟨a,k⟩ (p+1)).1 0 (zaF b w (numV b p [3,2,4,1]).toNat ⟨a,k⟩ (p+1)).2=zct b w ⟨a,k⟩ p from rfl] at hnm;generalize numV b p [3,2,4,1]=m at *;refine bd Tryz.f189 28 [] [] fun _ _ _ _ hk=>?_;refine bx 3005 ?_;refine ab 3006 tz60 ?_;apply tv;refine si [0,1,2,3] [_,_,_,_] zaZ tz3 ?_;refine wd zcQ hnum I I ⟨I,O⟩ ?_;refine wd zkK hdr I I ⟨I,O⟩ ?_;refine wd znL hnm I I ⟨I,O⟩ ?_;refine evd [] [] (ab 3007 tz60 ?_);refine so ty60 ?_;refine evd [] [] (dr (wc znz (zgN hw ht hr.2.2 od) I I ?_));refine ev ?_;apply sq<;>intro h1 h1p h1s<;>(try simp only[Q] at h1p);refine bu [0] [_] st60 ?_;refine so ty60 ?_;apply tv;refine rn [(900,some (rdB b (zct b w ⟨a,k⟩ p).2.2))] (ra ty60) (.agg (qeeeeen ?_ ?_ ?_ ?_ ?_ ?_)) ⟨I,I⟩ (SubO.get ⟨.inr ?_,⟨.inl I,O⟩⟩) (zak I);rotate_left 7;refine so ty60 ?_;apply tv;refine rn [(900,some (rdB b (zct b w ⟨a,k⟩ p).2.2))] (ra ty60) (.agg (qeeeeee ?_ ?_ ?_ ?_ ?_ ?_)) ⟨I,I⟩ (SubO.get ⟨.inr ?_,⟨.inl I,O⟩⟩) (zak I);rotate_left 7;all_goals (first|((first|(rw[hsp,if_neg (by rw[h1s];simp)];all_goals rfl)|(rw[hsp,if_pos h1s];all_goals rfl));done)|(rfl))
section
variable {c:Ctx}{all:Array Oper}{chk:List Rec->Prop}{os:List Oper}{recs:List Rec}{env:Env}{hp:Hp}{Q:St->Prop}
variable {d ty:Nat}{pos:String}{af:Array Edge}{g:Option (Nat×Bool)}{pg:List (Nat×AV)}{t yt:TypeId}{x y:Operand}
theorem xbi {id k e yb:Nat}{xs ys:List (List D)}{vy:AV}{ids:List Nat} (hkp:KeptIn c.kept ids) (hid:zaB id ids=false) (hne:xs++ys≠[]) (ht:SlT c.P t e k yb) (hz:ZeroT c.P e k) (hg:GH all env g pg) (hd:Nat.blt d c.n=true)
  (hx:opd env x=some (.gv id xs)) (hy:opd env y=some vy) (hyd:vy.toD=some (.sl ys)) (htok:getH hp id=some (.tok xs.length k)) (hky:∀y,y∈ys->y.length=k)
  (hb:(xs.length+ys.length)*yb<=140737488355328) (hm:xs.length+ys.length<=9223372036854775807)
  (hn:Walk c all chk os (zal (pg++(opF x (.gv id xs)++opF y vy)) [(id,.tok xs.length k)] [] ⟨some (d,.ms id (xs++ys).length),[(id,some (.box ((xs++ys).flatten.map .d)))]⟩::recs)
   ⟨(d,.ms id (xs++ys).length)::env,(id,some (.box ((xs++ys).flatten.map .d)))::hp⟩ Q):
  Walk c all chk (⟨some d,.call ⟨.builtin .append,#[x,y],#[t,t]⟩,ty,pos,af,g⟩::os) recs ⟨env,hp⟩ Q:=by
 refine⟨pg++(opF x (.gv id xs)++opF y vy),[(id,.tok xs.length k)],[],_, ?_,zaq hg.facts (zaq (zaO hx) (zaO hy)),hh1 htok,by simp,hn⟩;intro s a w hrel hp' hh _ K Q' hK;obtain⟨G,hr⟩:=hrel;have e1:=hr.opd (zaR hx (fun p hm=>hp' p (by simp[hm])));have e2:=hr.opd (zaR hy (fun p hm=>hp' p (by simp[hm])));obtain⟨i,z,z1,z2,z3⟩:=hz.out;obtain⟨v',w',G',hrun,hR,hA⟩:=ziG hr ht ⟨i,z1,z2,z3⟩ (hh1' hh) e1 (e2.toD hyd) hky hb hm ty;unfold wpO;rw[if_pos (hg.gf.wanted hr (fun p hm=>hp' p (by simp[hm])))];unfold Oper.wp;have:(execOp a.eval ⟨some d,.call ⟨.builtin .append,#[x,y],#[t,t]⟩,ty,pos,af,g⟩).run c.P w = .ok (.value v') w':=by
  simp only[execOp,resolve,invoke,builtin,Sem.run_bind,Sem.run_pure,Result.andThen_ok,List.map_toArray,xaf,List.map_nil,hrun]
 rw[this,Oper.upon_value];have hV:Rel c ⟨(d,.gv id (xs++ys))::s.env,(id,some (.tok (xs.length+ys.length) k))::s.hp⟩ (a.put (some d) v') w':=⟨G',hR.put hA hd⟩;rcases Rel.fixV hkp d id k (xs:=xs++ys) (by simp[getE]) (by rw[zaa,if_pos rfl,xaa]) hid hV with ⟨h,_⟩|⟨_,h⟩
 ·exact absurd h hne
 ·refine hK _ _ (h.congr (fun j=>?_) (fun j=>?_))
  ·show getE ((d,_)::s.env) j=getE ((d,_)::(d,_)::s.env) j
   simp only[getE];cases Nat.beq d j<;>rfl
  ·show getH ((id,_)::s.hp) j=getH ((id,_)::(id,_)::s.hp) j
   rw[zaa,zaa,zaa];by_cases hj:j=id
   ·rw[if_pos hj,if_pos hj]
   ·rw[if_neg hj,if_neg hj,if_neg hj]
end
def zb7:Pat:=⟨2,0,0,0,0,[]⟩
def mutP (b:Str) (p:Pat) (q:Nat):Pat×Nat:=
 if zad b q 30=0 then (⟨numV b (q+1) [0,7,1,2,5],p.ctor,p.n,p.m,p.var,p.kids⟩,q+2)
 else if zad b q 30=1 then (⟨p.op,p.ctor,p.n,p.m,numV b (q+1) [6,-1,1],p.kids⟩,q+2)
 else if zad b q 30=2 then (⟨p.op,numV b (q+1) [9,-1,1],p.n,p.m,p.var,p.kids⟩,q+2)
 else if zad b q 30=3 then (⟨p.op,p.ctor,p.n,p.m,p.var,p.kids++[zb7]⟩,q+1)
 else if zad b q 30=4 then (⟨p.op,p.ctor,p.n,p.m,p.var,p.kids.set 0 zb7⟩,q+1)
 else if zad b q 30=5 then (⟨p.op,p.ctor,numV b (q+1) [10,-1,5],p.m,p.var,p.kids⟩,q+2)
 else (⟨p.op,p.ctor,p.n,p.m,p.var,p.kids⟩,q+1)
theorem put0 {l:List (List D)}{x:List D}{r:List (List D)}{v:List AV} (h:l=x::r) (hx:x.length=v.length):putC (l.flatten.map .d) 0 v=some (v++r.flatten.map .d):=by
 subst h;rw[List.flatten_cons,xag];have key:∀(a b:List AV),a.length=b.length->∀(c:List AV),putC (a++c) 0 b=some (b++c):=by
  intro a;induction a with
  |nil=>intro b h c;cases b with
   |nil=>cases c<;>rfl
   |cons=>simp at h
  |cons y a ih=>intro b h c;cases b with
   |nil=>simp at h
   |cons z b=>
    have:=ih b (by simpa using h) c;simp only[xai,putC,this]
 exact key _ _ (by simpa using hx) _
theorem znM {k:Nat}{v:List AV}{vd:List D}{r:List (List D)} (hv:toDL v=some vd) (hk:v.length=k) (hr:∀x∈r,x.length=k):zbT (r.length+1) k (v++r.flatten.map .d)=some (vd::r):=by
 have h1:cutC (v++r.flatten.map .d) 0 k=some v:=zmy hk;have h2:(v++r.flatten.map AV.d).drop k=r.flatten.map .d:=by rw[<-hk];simp
 have h3:=zdO (f:=fun x:List D=>x) (k:=k) (l:=r) hr;have h4:(r.flatMap fun x=>x.map AV.d)=r.flatten.map .d:=by rw[List.map_flatten];rfl
 rw[h4,List.map_id'] at h3;simp only[zbT,h1,hv,h2,h3]
theorem xaN (a b:List Pat):Pat.cs (a++b)=Pat.cs a++Pat.cs b:=by
 rw[xaP,xaP,xaP,xag]
theorem zlz {b:Str} (hb:b.length<=2000){p:Pat}{q:Nat} (hq:q<=1000000) (hok:p.ok) (hc4:¬(zad b q 30=4/\p.kids≠[])):
  FnD Tryz.prog 182 [.ref 900 0,.agg [.d (.i p.op),.d (.i p.ctor),.d (.i p.n),.d (.i p.m),.d (.i p.var),.d (zau p.kids)]] [(900,some (rdB b q))]
   (.agg [.d (.i (mutP b p q).1.op),.d (.i (mutP b p q).1.ctor),.d (.i (mutP b p q).1.n),.d (.i (mutP b p q).1.m),.d (.i (mutP b p q).1.var),.d (zau (mutP b p q).1.kids)]) [(900,some (rdB b (mutP b p q).2))]:=by
 rw[xaU] at hok;have hkl:=xaS p.kids;refine bd Tryz.f182 57 [] [] fun _ _ _ _ hk=>?_;refine bx 3003 ?_;refine ab 3004 tz60 ?_;apply tv;refine ab 3005 tz60 ?_;refine so ty60 ?_;apply tv;refine xbS 1 sl58 .none I I (ev (ap sl58 zz60 I I I (by(intro x hx;exact xaT x hx)) (by simp[xaS];omega) ?_));refine ev (so ty58 ?_);apply tv;refine wd zbg (zaD (p:=q) (n:=30) hb od od) I I ⟨I,O⟩ ?_;apply tv;apply sq<;>intro h1 h1p h1s<;>(try simp only[Q,xaS] at h1p);refine si [0,1,2,3,4] [_,_,_,_,_] zaZ tz3 ?_;refine wd zcQ (zbp (p:=q+1) (l:=[0,7,1,2,5]) hb od oe oe) I I ⟨I,O⟩ ?_;refine ev (so ty3 ?_);apply tv;refine so ty60 ?_;apply tv;refine rn [(900,some (rdB b (mutP b p q).2))] (ra ty60) (.agg (qeeeeeg ?_ ?_ ?_ ?_ ?_ ?_)) ⟨I,I⟩ (SubO.get ⟨.inr ?_,⟨.inl I,O⟩⟩) (zak I);rotate_left 7;apply sq<;>intro h2 h2p h2s<;>(try simp only[Q,xaS] at h2p);refine si [0,1,2] [_,_,_] zaZ tz3 ?_;refine wd zcQ (zbp (p:=q+1) (l:=[6,-1,1]) hb od oe oe) I I ⟨I,O⟩ ?_;refine ev (so ty3 ?_);apply tv;refine so ty60 ?_;apply tv;refine rn [(900,some (rdB b (mutP b p q).2))] (ra ty60) (.agg (qeeeeeg ?_ ?_ ?_ ?_ ?_ ?_)) ⟨I,I⟩ (SubO.get ⟨.inr ?_,⟨.inl I,O⟩⟩) (zak I);rotate_left 7;apply sq<;>intro h3 h3p h3s<;>(try simp only[Q,xaS] at h3p);refine si [0,1,2] [_,_,_] zaZ tz3 ?_;refine wd zcQ (zbp (p:=q+1) (l:=[9,-1,1]) hb od oe oe) I I ⟨I,O⟩ ?_;refine ev (so ty3 ?_);apply tv;refine so ty60 ?_;apply tv;refine rn [(900,some (rdB b (mutP b p q).2))] (ra ty60) (.agg (qeeeeeg ?_ ?_ ?_ ?_ ?_ ?_)) ⟨I,I⟩ (SubO.get ⟨.inr ?_,⟨.inl I,O⟩⟩) (zak I);rotate_left 7;apply sq<;>intro h4 h4p h4s<;>(try simp only[Q,xaS] at h4p);refine bu [0] [_] st60 ?_;refine si [0] [_] sl58 tz60 ?_;refine ap sl58 zz60 I I I (by(intro x hx;simp only[List.mem_singleton] at hx;subst hx;rfl)) (by simp[xaS];omega) ?_;refine ev (so ty58 ?_);apply tv;refine so ty60 ?_;apply tv;refine rn [(900,some (rdB b (mutP b p q).2))] (ra ty60) (.agg (qeeeeeg ?_ ?_ ?_ ?_ ?_ ?_)) ⟨I,I⟩ (SubO.get ⟨.inr ?_,⟨.inl I,O⟩⟩) (zak I);rotate_left 7;apply sq<;>intro h5 h5p h5s<;>(try simp only[Q,xaS] at h5p);apply sq<;>intro h6 h6p h6s<;>(try simp only[Q,xaS] at h6p);exfalso;apply hc4;refine⟨by omega,fun hh=>?_⟩;rw[hh] at h6p;exact absurd h6p oh;refine so ty60 ?_;apply tv;refine rn [(900,some (rdB b (mutP b p q).2))] (ra ty60) (.agg (qeeeeeg ?_ ?_ ?_ ?_ ?_ ?_)) ⟨I,I⟩ (SubO.get ⟨.inr ?_,⟨.inl I,O⟩⟩) (zak I);rotate_left 7;apply sq<;>intro h7 h7p h7s<;>(try simp only[Q,xaS] at h7p);refine si [0,1,2] [_,_,_] zaZ tz3 ?_;refine wd zcQ (zbp (p:=q+1) (l:=[10,-1,5]) hb od oe oe) I I ⟨I,O⟩ ?_;refine ev (so ty3 ?_);apply tv;refine so ty60 ?_;apply tv;refine rn [(900,some (rdB b (mutP b p q).2))] (ra ty60) (.agg (qeeeeeg ?_ ?_ ?_ ?_ ?_ ?_)) ⟨I,I⟩ (SubO.get ⟨.inr ?_,⟨.inl I,O⟩⟩) (zak I);rotate_left 7;refine so ty60 ?_;apply tv;refine rn [(900,some (rdB b (mutP b p q).2))] (ra ty60) (.agg (qeeeeeg ?_ ?_ ?_ ?_ ?_ ?_)) ⟨I,I⟩ (SubO.get ⟨.inr ?_,⟨.inl I,O⟩⟩) (zak I);rotate_left 7;all_goals (((unfold mutP;first|(rw[if_pos od];all_goals first|rfl|(show _=Pat.cs (p.kids++[zb7]);rw[xaN];all_goals rfl))|(rw[if_neg od,if_pos od];all_goals first|rfl|(show _=Pat.cs (p.kids++[zb7]);rw[xaN];all_goals rfl))|(rw[if_neg od,if_neg od,if_pos od];all_goals first|rfl|(show _=Pat.cs (p.kids++[zb7]);rw[xaN];all_goals rfl))|(rw[if_neg od,if_neg od,if_neg od,if_pos od];all_goals first|rfl|(show _=Pat.cs (p.kids++[zb7]);rw[xaN];all_goals rfl))|(have hnk:p.kids=[]:=(by rcases hke:p.kids with _|⟨y,r⟩;rfl;exact absurd ⟨by omega,by rw[hke];simp⟩ hc4);rw[if_neg od,if_neg od,if_neg od,if_neg od,if_pos od,hnk];all_goals rfl)|(rw[if_neg od,if_neg od,if_neg od,if_neg od,if_pos od];all_goals first|rfl|(show _=Pat.cs (p.kids++[zb7]);rw[xaN];all_goals rfl))|(rw[if_neg od,if_neg od,if_neg od,if_neg od,if_neg od,if_pos od];all_goals first|rfl|(show _=Pat.cs (p.kids++[zb7]);rw[xaN];all_goals rfl))|(rw[if_neg od,if_neg od,if_neg od,if_neg od,if_neg od,if_neg od];all_goals first|rfl|(show _=Pat.cs (p.kids++[zb7]);rw[xaN];all_goals rfl)));done))
theorem zlA {b:Str} (hb:b.length<=2000){p:Pat}{q:Nat} (hq:q<=1000000) (hok:p.ok) (hc4:zad b q 30=4){y:Pat}{r:List Pat} (hk4:p.kids=y::r):
  FnD Tryz.prog 182 [.ref 900 0,.agg [.d (.i p.op),.d (.i p.ctor),.d (.i p.n),.d (.i p.m),.d (.i p.var),.d (zau p.kids)]] [(900,some (rdB b q))]
   (.agg [.d (.i (mutP b p q).1.op),.d (.i (mutP b p q).1.ctor),.d (.i (mutP b p q).1.n),.d (.i (mutP b p q).1.m),.d (.i (mutP b p q).1.var),.d (zau (mutP b p q).1.kids)]) [(900,some (rdB b (mutP b p q).2))]:=by
 rw[xaU] at hok;have hkl:=xaS p.kids;have hcs:Pat.cs p.kids=y.cc::Pat.cs r:=by rw[xaP,hk4,xaf,<-xaP]
 have hrl:(Pat.cs p.kids).length=(Pat.cs r).length+1:=by rw[hcs];rfl
 have hmu:mutP b p q=(⟨p.op,p.ctor,p.n,p.m,p.var,zb7::r⟩,q+1):=by
  unfold mutP;rw[if_neg od,if_neg od,if_neg od,if_neg od,if_pos hc4,hk4];rfl
 refine bd Tryz.f182 57 [] [17] fun _ _ _ _ hk=>?_;refine bx 3003 ?_;refine ab 3004 tz60 ?_;apply tv;refine ab 3005 tz60 ?_;refine so ty60 ?_;apply tv;refine xbU 1 sl58 .none I I (ev (xbi hk I (by rw[hcs];simp) sl58 zz60 .none I I I I (zdk I o8) (by intro x hx;exact xaT x hx) (by simp[xaS];omega) (by simp[xaS];omega) ?_));refine ev (so ty58 ?_);apply tv;refine wd zbg (zaD (p:=q) (n:=30) hb od od) I I ⟨I,O⟩ ?_;apply tv;apply sq<;>intro h1 h1p h1s<;>(try simp only[Q,xaS] at h1p);exfalso;omega;apply sq<;>intro h2 h2p h2s<;>(try simp only[Q,xaS] at h2p);exfalso;omega;apply sq<;>intro h3 h3p h3s<;>(try simp only[Q,xaS] at h3p);exfalso;omega;apply sq<;>intro h4 h4p h4s<;>(try simp only[Q,xaS] at h4p);exfalso;omega;apply sq<;>intro h5 h5p h5s<;>(try simp only[Q,xaS] at h5p);apply sq<;>intro h6 h6p h6s<;>(try simp only[Q,xaS] at h6p);refine bu [0] [_] st60 ?_;refine xbE (i:=0) sl58 .none I I I I om ?_;refine Walk.store ty60 .none I I I I I I oe ((put0 hcs I)) ?_;apply tv;refine CWp.frzC hk 3005 5 1 _ 6 I I I I I (by rw[List.nil_append,hrl];exact znM rfl rfl (fun x hx=>xaT x hx)) I ?_;refine evc [] [] (so ty60 ?_);apply tv;refine rn [(900,some (rdB b (mutP b p q).2))] (ra ty60) (.agg (qeeeeee ?_ ?_ ?_ ?_ ?_ ?_)) ⟨I,I⟩ (SubO.get ⟨.inr ?_,⟨.inl I,O⟩⟩) (zak I);rotate_left 7;exfalso;rw[List.nil_append,hrl] at h6p;omega;exfalso;omega;all_goals (((rw[hmu];all_goals rfl);done))
theorem zgO {b:Str} (hb:b.length<=2000){p:Pat}{q:Nat} (hq:q<=1000000) (hok:p.ok):
  FnD Tryz.prog 182 [.ref 900 0,.agg [.d (.i p.op),.d (.i p.ctor),.d (.i p.n),.d (.i p.m),.d (.i p.var),.d (zau p.kids)]] [(900,some (rdB b q))]
   (.agg [.d (.i (mutP b p q).1.op),.d (.i (mutP b p q).1.ctor),.d (.i (mutP b p q).1.n),.d (.i (mutP b p q).1.m),.d (.i (mutP b p q).1.var),.d (zau (mutP b p q).1.kids)]) [(900,some (rdB b (mutP b p q).2))]:=by
 by_cases h:zad b q 30=4/\p.kids≠[]
 ·cases hk:p.kids with
  |nil=>exact absurd hk h.2
  |cons y r=>rw[<-hk];exact zlA hb hq hok h.1 hk
 ·exact zlz hb hq hok h
structure CaseW (w:List Data):Prop where
 small:WSmall w
 valid:zaT w=true
 one:1<=w.length
 ct:∀k:Int,k=0\/k=1\/k=2->1<=(zao w ⟨0,k⟩).length
theorem xaW:∀l:List Pat,l.length<=Pats.size l
 | []=>Nat.zero_le _
 |v::r=>by
  have:=xaW r;have h:=xaV v;simp only[xab,Pats.size];omega
theorem zpL {x:Pat} (hx:x.ok):∀ {l:List Pat}{i:Nat},Pats.ok l->Pats.ok (l.set i x)
 | [],_,_=>by simp[Pats.ok]
 |y::r,0,h=>⟨hx,h.2⟩
 |y::r,i+1,h=>⟨h.1,zpL hx h.2⟩
theorem zoZ {x:Pat} (hx:x.ok):∀ {l:List Pat},Pats.ok l->Pats.ok (l++[x])
 | [],_=>⟨hx,trivial⟩
 |y::r,h=>⟨h.1,zoZ hx h.2⟩
theorem zl9 {x:Pat}:∀ {l:List Pat}{i:Nat},Pats.size (l.set i x)<=Pats.size l+x.size
 | [],_=>by simp[Pats.size]
 |y::r,0=>by simp only[List.set_cons_zero,Pats.size];omega
 |y::r,i+1=>by have:=zl9 (x:=x) (l:=r) (i:=i);simp only[List.set_cons_succ,Pats.size];omega
theorem ztP {b:Str}{p:Pat}{q:Nat} (hs:p.size<=1000) (hok:p.ok):(mutP b p q).1.size<=2000/\(mutP b p q).1.ok:=by
 have hv:zb7.size=1/\zb7.ok:=⟨by rw[xaV];rfl,by rw[xaU];exact⟨by simp[zb7,Pat.kids],trivial⟩⟩;have h0:=xaV p;rw[xaU] at hok;have same:∀a c n m v:Int,(Pat.mk a c n m v p.kids).size<=2000/\(Pat.mk a c n m v p.kids).ok:=fun a c n m v=>by
  refine⟨by rw[xaV];show 1+Pats.size p.kids<=_;omega,by rw[xaU];exact hok⟩
 unfold mutP;split;exact same _ _ _ _ _
 split;exact same _ _ _ _ _
 split;exact same _ _ _ _ _
 split
 ·refine⟨?_, ?_⟩
  ·dsimp only;rw[xaV];show 1+Pats.size (p.kids++[zb7])<=_;rw[xaZ];omega
  ·dsimp only;rw[xaU];refine⟨?_,zoZ hv.2 hok.2⟩;show(p.kids++[zb7]).length<=_
   have:=xaW p.kids;simp only[xaa,List.length_singleton];omega
 split
 ·refine⟨?_, ?_⟩
  ·dsimp only;rw[xaV];show 1+Pats.size (p.kids.set 0 zb7)<=_;have:=zl9 (x:=zb7) (l:=p.kids) (i:=0);omega
  ·dsimp only;rw[xaU];exact⟨by show(p.kids.set 0 zb7).length<=_;rw[List.length_set];exact hok.1,zpL hv.2 hok.2⟩
 split;exact same _ _ _ _ _
 exact same _ _ _ _ _
theorem ztE (l:List Ty):FlatR (l.map Ty.c):=by
 intro x hx y hy;obtain⟨t,_,rfl⟩:=List.mem_map.1 hx;simp only[Ty.c,List.mem_cons,xau,or_false] at hy;rcases hy with rfl|rfl<;>rfl
theorem zhF {w:List Data} (hs:WSmall w):FnD Tryz.prog 205 [.d (zah w)] [] (.gt 61 (w.map Data.c)) [(61,some (.tok (w.map Data.c).length 2))]:=by
 have hl:=hs.len;refine bd Tryz.f205 55 [] [12] fun _ _ _ _ hk=>?_;refine xbT 61 sl23 .none I I (ev (xaA (ι:=List (Data)×List (Data)) hk (fun x=>[(4,.d (.i (x.1.length:Int))),(3,.gt 61 (x.1.map Data.c))]) [5,6,7,9,10,11,12,13,14,15,16,17,18,19,20,21,22,23,24,25,26,27,28,29,30,31,32,33,34,35,36,37,38,39,40,41,42,43,44,45,46,47,48,49,50,51,52,53] (fun x=>[(61,some (.tok ((x.1.map Data.c)).length 2))]) (fun x=>x.1++x.2=w) (fun x=>x.2.length) ([],w) oe ⟨⟨_,I,xaK ?_⟩,⟨⟨_,I,LeA.gtg ?_⟩,O⟩⟩ ⟨zag ?_,O⟩ (fun x=>rfl) (fun x hg1=>?_)));iterate 3 focus (rfl)
 obtain⟨pre,rest⟩:=x;dsimp only at hg1 ⊢;refine evc [] [12] ?_;apply sq<;>intro h1 h1p h1s<;>(try simp only[Q] at h1p);rcases rest with _|⟨y,rest⟩
 ·exfalso;simp_all
 have hcl:=(hs.cs (d:=y) (by rw[<-hg1];simp)).len;have hyn:=(hs.data y (by rw[<-hg1];simp)).1;refine ixq sl23 I I I (zaE hg1) I (ev (bu [0] [_] ztk ?_));refine ab 3005 zjG ?_;refine so zqt ?_;apply tv;refine CWp.tokBT 3005 1 62 3 I I I I (xaA (ι:=List (Ctor)×List (Ctor)) hk (fun x=>[(6,.d (.i (x.1.length:Int)))]) [7,21,22,23,24,25,26,27,28,29,30,31,32,33,34,35,36,37,38,39,40,41,42,43,44,45,46,47,48,49] (fun x=>[(3005,some (.box [.d (.str y.name),.gt 62 (x.1.map Ctor.c)])),(62,some (.tok (x.1.map Ctor.c).length 3))]) (fun x=>x.1++x.2=y.ctors) (fun x=>x.2.length) ([],y.ctors) oe ⟨⟨_,I,xaK ?_⟩,O⟩ ⟨?_,⟨zag ?_,O⟩⟩ (fun x=>rfl) (fun x hg2=>?_));focus (rfl)
 focus (first|rfl|(simp[getH];done))
 focus (rfl)
 obtain⟨pre2,rest2⟩:=x;dsimp only at hg2 ⊢;refine evc [] [12] (ixq sl23 I I I (zaE hg1) I (ev ?_));apply sq<;>intro h2 h2p h2s<;>(try simp only[Q] at h2p);rcases rest2 with _|⟨z,rest2⟩
 ·exfalso;simp_all
 have hza:=((hs.cs (d:=y) (by rw[<-hg1];simp)).ctor z (by rw[<-hg2];simp)).2;refine ixq sl23 I I I (zaE hg1) I (ev (ixq zbx I I I (zaE hg2) I (ev (ab 3007 zfh ?_))));refine so zcK ?_;apply tv;refine xbT 63 zaL .none I I (ev (xbk zaL zz38 .none I I I I (zdk I o8) oe (ztE _) om om ?_));refine ev (so zlJ ?_);apply tv;refine xbV (id:=3047) zbx zfh I oh (ks:=[0]) (xs:=[_]) I I oh oh .none I I I I I I I ?_;refine xbj hk I zbx ztt .none I I I I (zdk I o8) I (.sc I (.gt I (by first|rfl|(simp;done)) (.sc I .nil))) I I om om ?_;refine ev (so zhd ?_);apply tv;refine ar (xaj ((pre2++[z],rest2)) ⟨(by have hz:=hg2;rw[<-hz];simp),oe,sx ⟨⟨_,I,xaK ?_⟩,O⟩ ⟨?_,⟨zag ?_,O⟩⟩⟩);focus ((simp;done))
 focus (first|rfl|(simp[getH];done))
 focus ((simp;done))
 have hrest2:rest2=[]:=by
  rcases rest2 with _|⟨a,b⟩
  ·rfl
  ·exfalso;have hz:=xam List.length (hg2);simp only[xaa,xab,xac] at hz;omega
 subst hrest2;rw[xaq] at hg2;subst hg2;refine evc [] [] (xbV (id:=3052) sl23 zjG I oh (ks:=[0]) (xs:=[_]) I I oh oh .none I I I I I I I ?_);refine xbj hk I sl23 zqB .none I I I I (zdk I o8) I (.sc I (.gt I (by first|rfl|(simp;done)) .nil)) I I om om ?_;refine ev (ar (xaj ((pre++[y],rest)) ⟨(by have hz:=hg1;rw[<-hz];simp),oe,sx ⟨⟨_,I,xaK ?_⟩,⟨⟨_,I,LeA.gtg ?_⟩,O⟩⟩ ⟨zag ?_,O⟩⟩));iterate 3 focus ((simp;done))
 have hrest:rest=[]:=by
  rcases rest with _|⟨a,b⟩
  ·rfl
  ·exfalso;have hz:=xam List.length (hg1);simp only[xaa,xab,xac] at hz;omega
 subst hrest;refine rn [(61,some (.tok (w.map Data.c).length 2))] (r1 I) (.gtg ?_) ⟨I,I⟩ (SubH.get ⟨?_,O⟩) (zak I);rotate_left 2;all_goals (((rw[xaq] at hg1;subst hg1;rfl);done))
def nmsD:List Str:=[[73],[],[97],[76,76],[90]]
def nmsC:List Str:=[[],[110,105,108],[84,111,111,108,111,110,103],[88]]
def mutY (b:Str) (p:Nat) (c:Int) (nm:Str) (c0:Ctor) (cr:List Ctor):Data×Nat:=
 if c=0 then (⟨ofV b p nmsD,c0::cr⟩,p+1)
 else if c=1 then (⟨nm,[]⟩,p)
 else if c=2 then (⟨nm,⟨ofV b p nmsC,c0.args,c0.index⟩::cr⟩,p+1)
 else if c=3 then (⟨nm,⟨c0.name,c0.args++[⟨numV b p [9,-2,0,-1],numV b (p+1) [0,4,-1,-2]⟩],c0.index⟩::cr⟩,p+2)
 else if c=4 then (⟨nm,⟨c0.name,c0.args,numV b p [4,-1,1]⟩::cr⟩,p+1)
 else (⟨nm,c0::cr⟩,p)
def mutW (b:Str) (p:Nat) (w:List Data):List Data×Nat:=
 match (nth w (zad b p w.length).toNat).ctors with
 | []=>(w,p+1)
 |c0::cr=>
  if zad b (p+1) 30=5 then (w++[nth w (zad b p w.length).toNat],p+2)
  else (w.set (zad b p w.length).toNat (mutY b (p+2) (zad b (p+1) 30) (nth w (zad b p w.length).toNat).name c0 cr).1,(mutY b (p+2) (zad b (p+1) 30) (nth w (zad b p w.length).toNat).name c0 cr).2)
section
variable {b:Str}{p:Nat}{c:Int}{nm:Str}{c0:Ctor}{cr:List Ctor}
theorem zvu (h:c=0):mutY b p c nm c0 cr=(⟨ofV b p nmsD,c0::cr⟩,p+1):=by unfold mutY;rw[if_pos h]
theorem zvv (h0:¬c=0) (h:c=1):mutY b p c nm c0 cr=(⟨nm,[]⟩,p):=by unfold mutY;rw[if_neg h0,if_pos h]
theorem zvw (h0:¬c=0) (h1:¬c=1) (h:c=2):mutY b p c nm c0 cr=(⟨nm,⟨ofV b p nmsC,c0.args,c0.index⟩::cr⟩,p+1):=by unfold mutY;rw[if_neg h0,if_neg h1,if_pos h]
theorem zvx (h0:¬c=0) (h1:¬c=1) (h2:¬c=2) (h:c=3):mutY b p c nm c0 cr=(⟨nm,⟨c0.name,c0.args++[⟨numV b p [9,-2,0,-1],numV b (p+1) [0,4,-1,-2]⟩],c0.index⟩::cr⟩,p+2):=by unfold mutY;rw[if_neg h0,if_neg h1,if_neg h2,if_pos h]
theorem zvy (h0:¬c=0) (h1:¬c=1) (h2:¬c=2) (h3:¬c=3) (h:c=4):mutY b p c nm c0 cr=(⟨nm,⟨c0.name,c0.args,numV b p [4,-1,1]⟩::cr⟩,p+1):=by unfold mutY;rw[if_neg h0,if_neg h1,if_neg h2,if_neg h3,if_pos h]
theorem zvz (h0:¬c=0) (h1:¬c=1) (h2:¬c=2) (h3:¬c=3) (h:¬c=4):mutY b p c nm c0 cr=(⟨nm,c0::cr⟩,p):=by unfold mutY;rw[if_neg h0,if_neg h1,if_neg h2,if_neg h3,if_neg h]
end
theorem ztR (b:Str) (p:Nat) (w:List Data):p+1<=(mutW b p w).2/\(mutW b p w).2<=p+4:=by
 unfold mutW;split
 ·dsimp only;omega
 ·split
  ·dsimp only;omega
  ·unfold mutY;repeat' split
   all_goals dsimp only;omega
theorem zpu {α:Type} [Inhabited α]{pre rest:List α}{y:α}:nth (pre++y::rest) pre.length=y:=zvA rfl
theorem zt2 {α:Type}{pre rest:List α}{y z:α}:(pre++y::rest).set pre.length z=pre++z::rest:=by
 rw[List.set_append_right _ _ (Nat.le_refl _)];simp
theorem zsy {b:Str}{p:Nat}{pre rest:List Data}{nm:Str}{c0:Ctor}{cr:List Ctor} (h:zad b p (pre++⟨nm,c0::cr⟩::rest).length=pre.length) (h5:¬zad b (p+1) 30=5):
  mutW b p (pre++⟨nm,c0::cr⟩::rest)=(pre++(mutY b (p+2) (zad b (p+1) 30) nm c0 cr).1::rest,(mutY b (p+2) (zad b (p+1) 30) nm c0 cr).2):=by
 unfold mutW;rw[h,Int.toNat_natCast,zpu];dsimp only;rw[if_neg h5,zt2]
theorem zkm {α:Type}{f:α->List D} (m:Bool):∀l:List α,(zay m (l.map f)).map zhC=l.flatMap fun x=>(f x).map .d
 | []=>rfl
 |x::r=>by
  rw[xaf,zcf,xag,zkm m r,List.flatMap_cons];congr 1
  rw[List.map_map];refine List.map_congr_left (fun y _=>?_);cases y<;>rfl
theorem zeL {α:Type}{f:α->List D}{k:Nat}{m1 m2:Bool}{pre rest:List α}{z:α}{mid:List AV}{n:Nat} (hk:∀x,(f x).length=k) (hm:mid.map zhC=(f z).map .d) (hn:n=(pre++z::rest).length):
  zbT n k ((zay m1 (pre.map f)++(mid++zay m2 (rest.map f))).map zhC)=some ((pre++z::rest).map f):=by
 rw[xag,xag,zkm,zkm,hm,hn];have:=zdO (f:=f) (k:=k) (l:=pre++z::rest) (fun x _=>hk x);rw[List.flatMap_append,List.flatMap_cons] at this;exact this
theorem zsE (m:Bool) (x:List D) (r:List (List D)){l:List AV} (h:x.map (ownD m)++zay m r=l):zay m (x::r)=l:=by rw[zcf];exact h
theorem zrC {α:Type}{f:α->List D} (m:Bool){pre rest:List α}{y:α}{l:List AV} (h:(f y).map (ownD m)++zay m (rest.map f)=l):zay m ((pre++y::rest).map f)=zay m (pre.map f)++l:=by
 rw[xag,zlf,xaf,zcf,h]
theorem zlr {b:Str}{p:Nat}{pre rest:List Data}{y:Data} (hb:b.length<=2000) (hp:p<=1000000) (hs:WSmall (pre++y::rest)) (hd:zad b p (pre++y::rest).length=pre.length) (h5:y.ctors=[]\/zad b (p+1) 30=5):
  FnD Tryz.prog 121 [.ref 900 0,.d (zah (pre++y::rest))] [(900,some (rdB b p))] (.d (zah (if y.ctors=[] then pre++y::rest else (pre++y::rest)++[y]))) [(900,some (rdB b (if y.ctors=[] then p+1 else p+2)))]:=by
 have hl:=hs.len;have hpk:=zaD (p:=p) (n:=(((pre++y::rest).map Data.c).length:Int)) hb od (by simp at hl ⊢;omega);have hpk2:=zaD (p:=p+1) (n:=30) hb od od;have hpv:zad b p (((pre++y::rest).map Data.c).length:Int)=pre.length:=by rw[xac];exact hd
 rw[hpv] at hpk;have hat:((pre++y::rest).map Data.c)[pre.length]?=some (Data.c y):=by simp
 generalize hw:pre++y::rest=w at *;generalize hc:zad b (p+1) 30=c at *;have hlm:((w.map Data.c).length:Int)=w.length:=by simp
 refine bd Tryz.f121 99 [] [2] fun _ _ _ _ hk=>?_;refine Walk.call (cr:=[61]) zqN (zhF hs) I .none I I (LeL.refl _) O I o8 o8 ?_;refine ev (CWp.gtGl 5 61 64 2 I I oe I ?_);refine evc [] [] (wd zbg hpk I I ⟨I,O⟩ ?_);refine ev (xbD sl23 .none I I I I hat I (ev ?_));apply sq<;>intro h1 h1p h1s<;>(try simp only[Q] at h1p);refine rn [(900,some (rdB b (if y.ctors=[] then p+1 else p+2)))] (r1 I) (.gld ?_) ⟨I,I⟩ (SubO.get ⟨.inr ?_,⟨.inl I,O⟩⟩) (zak I);rotate_left 2;have hc5:c=5:=h5.resolve_left (by simpa using h1p);refine wd zbg hpk2 I I ⟨I,O⟩ ?_;apply tv;apply sq<;>intro h2 h2p h2s<;>(try simp only[Q] at h2p);exfalso;omega;apply sq<;>intro h3 h3p h3s<;>(try simp only[Q] at h3p);exfalso;omega;apply sq<;>intro h4 h4p h4s<;>(try simp only[Q] at h4p);exfalso;omega;apply sq<;>intro h5 h5p h5s<;>(try simp only[Q] at h5p);exfalso;omega;apply sq<;>intro h6 h6p h6s<;>(try simp only[Q] at h6p);exfalso;omega;apply sq<;>intro h7 h7p h7s<;>(try simp only[Q] at h7p);refine xbD sl23 .none I I I I hat I (ev (si [0] [_] sl23 zjG ?_));refine ap sl23 zqB I I I (by intro x hx;simp only[List.mem_singleton] at hx;subst hx;rfl) (by simp at hl ⊢;omega) ?_;refine ev (rn [(900,some (rdB b (if y.ctors=[] then p+1 else p+2)))] (r1 I) (.gld ?_) ⟨I,I⟩ (SubO.get ⟨.inr ?_,⟨.inl I,O⟩⟩) (zak I));rotate_left 2;exfalso;omega;all_goals (((first|(rw[if_pos (by simpa using h1p)];all_goals rfl)|(rw[if_neg (by simpa using h1p)];all_goals first|rfl|(show _=(w++[y]).map Data.c;rw[xag];rfl)|(show D.sl _=D.sl ((w++[y]).map Data.c);rw[xag];rfl)));done))
theorem oz{p:Prop}(h:p:=by intro x _;rfl):p:=h
theorem zls {b:Str}{p:Nat}{pre rest:List Data}{nm:Str}{c0:Ctor}{cr:List Ctor} (hb:b.length<=2000) (hp:p<=1000000) (hs:WSmall (pre++⟨nm,c0::cr⟩::rest)) (hd:zad b p (pre++⟨nm,c0::cr⟩::rest).length=pre.length) (h5:¬zad b (p+1) 30=5):
  FnD Tryz.prog 121 [.ref 900 0,.d (zah (pre++⟨nm,c0::cr⟩::rest))] [(900,some (rdB b p))] (.d (zah (pre++(mutY b (p+2) (zad b (p+1) 30) nm c0 cr).1::rest))) [(900,some (rdB b (mutY b (p+2) (zad b (p+1) 30) nm c0 cr).2))]:=by
 have hl:=hs.len;have hpk:=zaD (p:=p) (n:=(((pre++⟨nm,c0::cr⟩::rest).map Data.c).length:Int)) hb od (by simp at hl ⊢;omega);have hpk2:=zaD (p:=p+1) (n:=30) hb od od;have hpv:zad b p (((pre++⟨nm,c0::cr⟩::rest).map Data.c).length:Int)=pre.length:=by rw[xac];exact hd
 rw[hpv] at hpk;have hal:c0.args.length<=1000000000000:=((hs.ctor ⟨nm,c0::cr⟩ oe) c0 oe).2;generalize hc:zad b (p+1) 30=c at *;have hlw:pre.length<((pre++⟨nm,c0::cr⟩::rest).map Data.c).length:=by simp
 refine bd Tryz.f121 99 [17,45,57,62,65,83] [2,3,7,9,11,13,15,18] fun _ _ _ _ hk=>?_;refine Walk.call (cr:=[61]) zqN (zhF hs) I .none I I (LeL.refl _) O I o8 o8 ?_;refine evs [17,45,57,62,65,83] [] (CWp.fixT hk 5 61 2 I I I (fun hx=>absurd hx oe) (fun hx=>?_));refine evc [17,45,57,62,65,83] [] (Walk.call (cr:=[]) zbg hpk I .none I I (LeL.refl _) ⟨I,O⟩ I o8 o8 ?_);refine evs [17,45,57,62,65,83] [] (xaB 61 (zay true (pre.map Data.c)++(.d (.str nm):: .own true (.sl ((c0::cr).map Ctor.c))::zay true (rest.map Data.c))) I (zrC true I) (CWp.split 61 (pre.length*2+1) 62 I (zcR (zbL (k:=2) true oz) I) oe (by(simp only[zaz,occH,occE,Res.ids,xai,List.nil_append,AV.idsL,AV.ids,zaj,zai,zar,zaP,xaf,List.map_nil,upC];rfl)) (zd8 (zbL (k:=2) true oz) zeQ) ?_));refine xaB 62 (.d (.str c0.name):: .own true (.sl (c0.args.map Ty.c)):: .d (.i c0.index)::zay true (cr.map Ctor.c)) I (zsE true _ _ I) (evc [17,45,57,62,65,83] [] (xbE sl23 .none I I I I od ?_));refine evs [17,45,57,62,65,83] [] (xbI zhd .none I I I ((by rw[zcR (zbL (k:=2) true oz) rfl];rfl)) ?_);refine evs [17,45,57,62,65,83] [] ?_;apply sq<;>intro h1 h1p h1s<;>(try simp only[Q] at h1p);exfalso;simp at h1;omega;refine Walk.call (cr:=[]) zbg hpk2 I .none I I (LeL.refl _) ⟨I,O⟩ I o8 o8 ?_;apply tv;apply sq<;>intro h2 h2p h2s<;>(try simp only[Q] at h2p);try rfl
 refine evc [17,45,57,62,65,83] [] (si [0,1,2,3,4] [_,_,_,_,_] sl84 tz9 ?_);refine Walk.call (cr:=[]) znA (zij (p:=p+2) (l:=nmsD) hb od (by simp[nmsD]) (by simp[nmsD])) I .none I I (LeL.refl _) ⟨I,O⟩ I o8 o8 ?_;refine xbE sl23 .none I I I I od ?_;refine evs [17,45,57,62,65,83] [] (xbW ty9 .none I I I I I I oe ((zd8 (zbL (k:=2) true oz) zpB)) ?_);apply tv;try rfl
 refine xaB 62 (zay true ((c0::cr).map Ctor.c)) I (by rw[xaf,zcf];rfl) ?_;refine CWp.merge hk 61 (pre.length*2+1) 62 3 _ I (zcR (zbL (k:=2) true oz) I) oe I (by intro x hx;obtain⟨y,_,rfl⟩:=List.mem_map.1 hx;rfl) I I (zd8 (zbL (k:=2) true oz) zeQ) ?_;refine CWp.frzTree hk 5 61 _ 2 (es:=(pre++(⟨(ofV b (p+2) nmsD),c0::cr⟩:Data)::rest).map Data.c) I I (zeL (z:=(⟨(ofV b (p+2) nmsD),c0::cr⟩:Data)) (mid:=[.d (.str (ofV b (p+2) nmsD)),.own false (.sl ((c0::cr).map Ctor.c))]) (fun _=>rfl) I oe) I ?_;refine evc [17,45,57,62,65,83] [] (rn [(900,some (rdB b (mutY b (p+2) c nm c0 cr).2))] (r1 I) (.eqd ?_) ⟨I,I⟩ (SubO.get ⟨.inr ?_,⟨.inl I,O⟩⟩) (zak I));rotate_left 2;apply sq<;>intro h3 h3p h3s<;>(try simp only[Q] at h3p);try rfl
 refine evc [17,45,57,62,65,83] [] (xbR zbx .none I (xbE sl23 .none I I I I od ?_));refine evs [17,45,57,62,65,83] [] (xbW zhd .none I I I I I I oe ((zd8 (zbL (k:=2) true oz) zeQ)) ?_);apply tv;try rfl
 refine CWp.frzTree hk 5 61 _ 2 (es:=(pre++(⟨nm,[]⟩:Data)::rest).map Data.c) I I (zeL (z:=(⟨nm,[]⟩:Data)) (mid:=[.d (.str nm),.d (.sl [])]) (fun _=>rfl) I oe) I ?_;refine evc [17,45,57,62,65,83] [] (rn [(900,some (rdB b (mutY b (p+2) c nm c0 cr).2))] (r1 I) (.eqd ?_) ⟨I,I⟩ (SubO.get ⟨.inr ?_,⟨.inl I,O⟩⟩) (zak I));rotate_left 2;apply sq<;>intro h4 h4p h4s<;>(try simp only[Q] at h4p);try rfl
 refine evc [17,45,57,62,65,83] [] (xbE sl23 .none I I I I od ?_);refine evd [17,45,57,62,65,83] [] (xbI zhd .none I I I ((by rw[zcR (zbL (k:=2) true oz) rfl];rfl)) ?_);refine evd [17,45,57,62,65,83] [] (si [0,1,2,3] [_,_,_,_] sl84 tz9 ?_);refine Walk.call (cr:=[]) znA (zij (p:=p+2) (l:=nmsC) hb od (by simp[nmsC]) (by simp[nmsC])) I .none I I (LeL.refl _) ⟨I,O⟩ I o8 o8 ?_;refine xbE (i:=0) zbx .none I I I I (by(simp;done)) (evd [17,45,57,62,65,83] [] (xbW ty9 .none I I I I I I oe ((zpB)) ?_));refine dr ?_;try rfl
 refine xaB 62 (zay true (((⟨ofV b (p+2) nmsC,c0.args,c0.index⟩:Ctor)::cr).map Ctor.c)) I (by rw[xaf,zcf];rfl) ?_;refine CWp.merge hk 61 (pre.length*2+1) 62 3 _ I (zcR (zbL (k:=2) true oz) I) oe I (by intro x hx;obtain⟨y,_,rfl⟩:=List.mem_map.1 hx;rfl) I I (zd8 (zbL (k:=2) true oz) zeQ) ?_;refine CWp.frzTree hk 5 61 _ 2 (es:=(pre++(⟨nm,(⟨ofV b (p+2) nmsC,c0.args,c0.index⟩:Ctor)::cr⟩:Data)::rest).map Data.c) I I (zeL (z:=(⟨nm,(⟨ofV b (p+2) nmsC,c0.args,c0.index⟩:Ctor)::cr⟩:Data)) (mid:=[.d (.str nm),.own false (.sl (((⟨ofV b (p+2) nmsC,c0.args,c0.index⟩:Ctor)::cr).map Ctor.c))]) (fun _=>rfl) I oe) I ?_;refine evc [17,45,57,62,65,83] [] (rn [(900,some (rdB b (mutY b (p+2) c nm c0 cr).2))] (r1 I) (.eqd ?_) ⟨I,I⟩ (SubO.get ⟨.inr ?_,⟨.inl I,O⟩⟩) (zak I));rotate_left 2;apply sq<;>intro h5 h5p h5s<;>(try simp only[Q] at h5p);refine CWp.splitT 62 1 63 2 I I (by intro x hx;obtain⟨y,_,rfl⟩:=List.mem_map.1 hx;rfl) (by(simp only[zaz,occH,occE,Res.ids,xai,List.nil_append,AV.idsL,AV.ids,zaj,zai,zar,zaP,xaf,List.map_nil,upC];rfl)) I ?_;refine evc [17,45,57,62,65,83] [] (xbE sl23 .none I I I I od ?_);refine evd [17,45,57,62,65,83] [] (xbI zhd .none I I I ((by rw[zcR (zbL (k:=2) true oz) rfl];rfl)) ?_);refine evd [17,45,57,62,65,83] [] (xbE sl23 .none I I I I od ?_);refine evd [17,45,57,62,65,83] [] (xbI zhd .none I I I ((by rw[zcR (zbL (k:=2) true oz) rfl];rfl)) ?_);refine xbE (i:=0) zbx .none I I I I (by(simp;done)) (evd [17,45,57,62,65,83] [] (xbI zlJ .none I I I ((I)) (evd [17,45,57,62,65,83] [] (si [0,1,2,3] [_,_,_,_] zaZ tz3 ?_))));refine Walk.call (cr:=[]) zcQ (zbp (p:=p+2) (l:=[9,-2,0,-1]) hb od oe oe) I .none I I (LeL.refl _) ⟨I,O⟩ I o8 o8 ?_;refine evd [17,45,57,62,65,83] [] (si [0,1,2,3] [_,_,_,_] zaZ tz3 ?_);refine Walk.call (cr:=[]) zcQ (zbp (p:=p+3) (l:=[0,4,-1,-2]) hb od oe oe) I .none I I (LeL.refl _) ⟨I,O⟩ I o8 o8 ?_;refine bu [0,1] [_,_] st38 ?_;refine si [0] [_] zaL tz38 ?_;refine xbk zaL zz38 .none I I I I (zdk I o8) (by intro x hx;simp only[List.mem_singleton] at hx;subst hx;rfl) (by intro x hx y hy;simp only[List.mem_singleton] at hx;subst hx;simp only[List.mem_cons,xau,or_false] at hy;rcases hy with rfl|rfl<;>rfl) om om ?_;refine xbE (i:=0) zbx .none I I I I (by(simp;done)) (evd [17,45,57,62,65,83] [] (xbW zlJ .none I I I I I I oe ((zeQ)) ?_));refine dr ?_;try rfl
 refine CWp.mergeT 62 1 63 2 I I I oe I ?_;refine xaB 62 (.d (.str c0.name):: .own true (.sl ((c0.args++[(⟨numV b (p+2) [9,-2,0,-1],numV b (p+3) [0,4,-1,-2]⟩:Ty)]).map Ty.c)):: .d (.i c0.index)::zay true (cr.map Ctor.c)) I (by rw[xag];rfl) ?_;refine xaB 62 (zay true (((⟨c0.name,c0.args++[(⟨numV b (p+2) [9,-2,0,-1],numV b (p+3) [0,4,-1,-2]⟩:Ty)],c0.index⟩:Ctor)::cr).map Ctor.c)) I (by rw[xaf,zcf];rfl) ?_;refine CWp.merge hk 61 (pre.length*2+1) 62 3 _ I (zcR (zbL (k:=2) true oz) I) oe I (by intro x hx;obtain⟨y,_,rfl⟩:=List.mem_map.1 hx;rfl) I I (zd8 (zbL (k:=2) true oz) zeQ) ?_;refine CWp.frzTree hk 5 61 _ 2 (es:=(pre++(⟨nm,(⟨c0.name,c0.args++[(⟨numV b (p+2) [9,-2,0,-1],numV b (p+3) [0,4,-1,-2]⟩:Ty)],c0.index⟩:Ctor)::cr⟩:Data)::rest).map Data.c) I I (zeL (z:=(⟨nm,(⟨c0.name,c0.args++[(⟨numV b (p+2) [9,-2,0,-1],numV b (p+3) [0,4,-1,-2]⟩:Ty)],c0.index⟩:Ctor)::cr⟩:Data)) (mid:=[.d (.str nm),.own false (.sl (((⟨c0.name,c0.args++[(⟨numV b (p+2) [9,-2,0,-1],numV b (p+3) [0,4,-1,-2]⟩:Ty)],c0.index⟩:Ctor)::cr).map Ctor.c))]) (fun _=>rfl) I oe) I ?_;refine evc [17,45,57,62,65,83] [] (rn [(900,some (rdB b (mutY b (p+2) c nm c0 cr).2))] (r1 I) (.eqd ?_) ⟨I,I⟩ (SubO.get ⟨.inr ?_,⟨.inl I,O⟩⟩) (zak I));rotate_left 2;apply sq<;>intro h6 h6p h6s<;>(try simp only[Q] at h6p);try rfl
 refine evc [17,45,57,62,65,83] [] (xbE sl23 .none I I I I od ?_);refine evd [17,45,57,62,65,83] [] (xbI zhd .none I I I ((by rw[zcR (zbL (k:=2) true oz) rfl];rfl)) ?_);refine evd [17,45,57,62,65,83] [] (si [0,1,2] [_,_,_] zaZ tz3 ?_);refine Walk.call (cr:=[]) zcQ (zbp (p:=p+2) (l:=[4,-1,1]) hb od oe oe) I .none I I (LeL.refl _) ⟨I,O⟩ I o8 o8 ?_;refine xbE (i:=0) zbx .none I I I I (by(simp;done)) (evd [17,45,57,62,65,83] [] (xbW ty3 .none I I I I I I oe ((ztZ)) ?_));refine dr ?_;try rfl
 refine xaB 62 (zay true (((⟨c0.name,c0.args,numV b (p+2) [4,-1,1]⟩:Ctor)::cr).map Ctor.c)) I (by rw[xaf,zcf];rfl) ?_;refine CWp.merge hk 61 (pre.length*2+1) 62 3 _ I (zcR (zbL (k:=2) true oz) I) oe I (by intro x hx;obtain⟨y,_,rfl⟩:=List.mem_map.1 hx;rfl) I I (zd8 (zbL (k:=2) true oz) zeQ) ?_;refine CWp.frzTree hk 5 61 _ 2 (es:=(pre++(⟨nm,(⟨c0.name,c0.args,numV b (p+2) [4,-1,1]⟩:Ctor)::cr⟩:Data)::rest).map Data.c) I I (zeL (z:=(⟨nm,(⟨c0.name,c0.args,numV b (p+2) [4,-1,1]⟩:Ctor)::cr⟩:Data)) (mid:=[.d (.str nm),.own false (.sl (((⟨c0.name,c0.args,numV b (p+2) [4,-1,1]⟩:Ctor)::cr).map Ctor.c))]) (fun _=>rfl) I oe) I ?_;refine evc [17,45,57,62,65,83] [] (rn [(900,some (rdB b (mutY b (p+2) c nm c0 cr).2))] (r1 I) (.eqd ?_) ⟨I,I⟩ (SubO.get ⟨.inr ?_,⟨.inl I,O⟩⟩) (zak I));rotate_left 2;apply sq<;>intro h7 h7p h7s<;>(try simp only[Q] at h7p);exfalso;omega;try rfl
 refine xaB 62 (zay true ((c0::cr).map Ctor.c)) I (by rw[xaf,zcf];rfl) ?_;refine CWp.merge hk 61 (pre.length*2+1) 62 3 _ I (zcR (zbL (k:=2) true oz) I) oe I (by intro x hx;obtain⟨y,_,rfl⟩:=List.mem_map.1 hx;rfl) I I (zd8 (zbL (k:=2) true oz) zeQ) ?_;refine CWp.frzTree hk 5 61 _ 2 (es:=(pre++(⟨nm,c0::cr⟩:Data)::rest).map Data.c) I I (zeL (z:=(⟨nm,c0::cr⟩:Data)) (mid:=[.d (.str nm),.own false (.sl ((c0::cr).map Ctor.c))]) (fun _=>rfl) I oe) I ?_;refine evc [17,45,57,62,65,83] [] (rn [(900,some (rdB b (mutY b (p+2) c nm c0 cr).2))] (r1 I) (.eqd ?_) ⟨I,I⟩ (SubO.get ⟨.inr ?_,⟨.inl I,O⟩⟩) (zak I));rotate_left 2;all_goals (((first|(rw[zvu od];all_goals rfl)|(rw[zvv od od];all_goals rfl)|(rw[zvw od od od];all_goals rfl)|(rw[zvx od od od od];all_goals rfl)|(rw[zvy od od od od od];all_goals rfl)|(rw[zvz od od od od od];all_goals rfl));done))
def smB (n:Nat) (w:List Data):Bool:=decide (w.length<=n)&&w.all fun d=>decide (d.name.length<=n)&&(decide (d.ctors.length<=n)&&d.ctors.all fun c=>decide (c.name.length<=n)&&decide (c.args.length<=n))
structure Sm (n:Nat) (w:List Data):Prop where
 len:w.length<=n
 data:∀d∈w,d.name.length<=n/\d.ctors.length<=n
 ctor:∀d∈w,∀c∈d.ctors,c.name.length<=n/\c.args.length<=n
theorem zrX {n:Nat}{w:List Data} (h:smB n w=true):Sm n w:=by
 simp only[smB,xad,xah,List.all_eq_true] at h;exact⟨h.1,fun d hd=>⟨(h.2 d hd).1,(h.2 d hd).2.1⟩,fun d hd c hc=>(h.2 d hd).2.2 c hc⟩
theorem Sm.small {n:Nat}{w:List Data} (h:Sm n w) (hn:n<=1000000000000):WSmall w:=
 ⟨Nat.le_trans h.len hn,fun d hd=>⟨Nat.le_trans (h.data d hd).1 hn,Nat.le_trans (h.data d hd).2 hn⟩,fun d hd c hc=>⟨Nat.le_trans (h.ctor d hd c hc).1 hn,Nat.le_trans (h.ctor d hd c hc).2 hn⟩⟩
theorem zoi {b:Str}{p:Nat}{l:List Str}{n:Nat} (h:∀s∈l,s.length<=n) (hl:1<=l.length):(ofV b p l).length<=n:=by
 have:=zbo (b:=b) (p:=p) (n:=(l.length:Int)) od;exact h _ (zam od)
theorem Sm.mut {n:Nat}{w:List Data} (h:Sm n w) (b:Str) (p:Nat):Sm (n+10) (mutW b p w).1:=by
 have up:Sm (n+10) w:=⟨by have:=h.len;omega,fun d hd=>by have:=h.data d hd;omega,fun d hd c hc=>by have:=h.ctor d hd c hc;omega⟩;unfold mutW;split
 ·exact up
 rename_i c0 cr hc;by_cases hi:(zad b p w.length).toNat<w.length
 ·have hy:nth w (zad b p w.length).toNat∈w:=zam hi;generalize nth w (zad b p w.length).toNat=y at hc hy ⊢;have hyc:=h.ctor y hy;have hyd:=h.data y hy;rw[hc] at hyc hyd;have hy0:=hyc c0 oe;split
  ·refine⟨by simp only[xaa,xab,xak];have:=h.len;omega,fun d hd=>?_,fun d hd c hc'=>?_⟩
   ·rcases List.mem_append.1 hd with h1|h1
    ·exact up.data d h1
    ·simp only[List.mem_singleton] at h1;subst h1;exact up.data d hy
   ·rcases List.mem_append.1 hd with h1|h1
    ·exact up.ctor d h1 c hc'
    ·simp only[List.mem_singleton] at h1;subst h1;exact up.ctor d hy c hc'
  ·have hz:∀z:Data,z.name.length<=n+10->z.ctors.length<=n+10->(∀c∈z.ctors,c.name.length<=n+10/\c.args.length<=n+10)->Sm (n+10) (w.set (zad b p w.length).toNat z):=fun z z1 z2 z3=>by
    refine⟨by rw[List.length_set];exact up.len,fun d hd=>?_,fun d hd c hc'=>?_⟩
    ·rcases List.mem_or_eq_of_mem_set hd with h1|rfl
     ·exact up.data d h1
     ·exact⟨z1,z2⟩
    ·rcases List.mem_or_eq_of_mem_set hd with h1|rfl
     ·exact up.ctor d h1 c hc'
     ·exact z3 c hc'
   have n1:(ofV b (p+2) nmsD).length<=10:=zoi oh oh;have n2:(ofV b (p+2) nmsC).length<=10:=zoi oh oh;have hl2:(c0::cr).length<=n+10:=by omega
   have hcr:∀c∈cr,c.name.length<=n+10/\c.args.length<=n+10:=fun c hc=>by have:=hyc c (by simp[hc]);omega
   have hc0:c0.name.length<=n+10/\c0.args.length<=n+10:=by omega
   have cons:∀c:Ctor,c.name.length<=n+10/\c.args.length<=n+10->∀x∈c::cr,x.name.length<=n+10/\x.args.length<=n+10:=fun c h1 x hx=>by
    rcases List.mem_cons.1 hx with rfl|hx
    ·exact h1
    ·exact hcr x hx
   unfold mutY;repeat' split
   ·exact hz _ o7 hl2 (cons _ hc0)
   ·exact hz _ o7 oe oe
   ·exact hz _ o7 (by simpa using hl2) (cons _ ⟨by dsimp only;omega,hc0.2⟩)
   ·exact hz _ o7 (by simpa using hl2) (cons _ ⟨hc0.1,by simp only[xaa,xab,xak];omega⟩)
   ·exact hz _ o7 (by simpa using hl2) (cons _ ⟨hc0.1,hc0.2⟩)
   ·exact hz _ o7 hl2 (cons _ hc0)
 ·have hn:nth w (zad b p w.length).toNat=default:=by simp[nth,List.getD,List.getElem?_eq_none (Nat.le_of_not_lt hi)]
  rw[hn] at hc;cases hc
theorem zkr {b:Str}{p:Nat}{w:List Data} (hb:b.length<=2000) (hp:p<=1000000) (hs:WSmall w) (hne:1<=w.length):
  FnD Tryz.prog 121 [.ref 900 0,.d (zah w)] [(900,some (rdB b p))] (.d (zah (mutW b p w).1)) [(900,some (rdB b (mutW b p w).2))]:=by
 have hv:=zbo (b:=b) (p:=p) (n:=(w.length:Int)) od;have hlt:(zad b p w.length).toNat<w.length:=by omega
 obtain⟨pre,y,rest,hw,hpl⟩:∃pre y rest,w=pre++y::rest/\pre.length=(zad b p w.length).toNat:=
  ⟨w.take (zad b p w.length).toNat,w[(zad b p w.length).toNat],w.drop ((zad b p w.length).toNat+1),by rw[List.getElem_cons_drop,List.take_append_drop],by rw[List.length_take];omega⟩
 have hd:zad b p w.length=pre.length:=by omega
 subst hw;obtain⟨nm,cs⟩:=y;by_cases h5:cs=[]\/zad b (p+1) 30=5
 ·have h:=zlr (b:=b) (p:=p) hb hp hs hd h5;have hm:mutW b p (pre++⟨nm,cs⟩::rest)=(if cs=[] then pre++⟨nm,cs⟩::rest else (pre++⟨nm,cs⟩::rest)++[⟨nm,cs⟩],if cs=[] then p+1 else p+2):=by
   unfold mutW;rw[hd,Int.toNat_natCast,zpu];dsimp only;cases cs with
   |nil=>rfl
   |cons c0 cr=>
    have:=h5.resolve_left oe;simp only;rw[if_pos this,if_neg oe,if_neg oe]
  rw[hm];exact h
 ·rw[not_or] at h5;cases cs with
  |nil=>exact absurd I h5.1
  |cons c0 cr=>
   rw[zsy hd h5.2];exact zls hb hp hs hd h5.2
theorem zqy:((List.range 7).all fun i=>smB 10 (zdt (nth zdL i)).1&&(zaT (zdt (nth zdL i)).1&&decide (1<=(zdt (nth zdL i)).1.length)))=true:=by kernel_rfl
structure WorldD (w:List Data):Prop where
 sm:Sm 10 w
 small:WSmall w
 valid:zaT w=true
 one:1<=w.length
theorem zcM (b:Str) (p:Nat):WorldD (zaW b p):=by
 have h:=List.all_eq_true.1 zqy (zad b p 7).toNat (List.mem_range.2 (zqk b p));simp only[xad,xah] at h;exact⟨zrX h.1,(zrX h.1).small od,h.2.1,h.2.2⟩
theorem zqe (b:Str) (p q:Nat):WSmall (mutW b q (zaW b p)).1:=((zcM b p).sm.mut b q).small od
theorem zmi {w:List Data} (hw:WT w){n:Nat}{f:Nat->Nat}{a k c:Int} (ht:TyIn w.length ⟨a,k⟩) (hc:c∈zao w ⟨a,k⟩) (hn:n<=100) (hb:∀s,f s<=100000) (hin:∀u∈zae w ⟨a,k⟩ c,InS n u):
  FnD Tryz.prog 244 [.d (zah w),.d (zkX n f),.agg [.d (.i a),.d (.i k)],.d (.i c)] [] (.d (.i (most w f ⟨a,k⟩ c))) []:=by
 have hl:=ziI hw ht hc;have hd:=zp4 hb od;refine bd Tryz.f244 37 [] [] fun _ _ _ _ hk=>?_;refine bx 3006 ?_;refine ev (wc zcj (zcB hw ht hc) I I ?_);refine ev (xaA (ι:=List (Ty)×List (Ty)×(Nat)) hk (fun x=>[(11,.d (.i (x.1.length:Int))),(10,.d (.i (x.2.2:Int)))]) [8,12,17,18,19,20,21,22,23,24,25,26,27,28,29,30,31,32,33,34] (fun x=>[]) (fun x=>x.1++x.2.1=zae w ⟨a,k⟩ c/\x.2.2<=100000/\zbK f x.2.2 x.2.1=zbK f 0 (zae w ⟨a,k⟩ c)) (fun x=>x.2.1.length) ([],zae w ⟨a,k⟩ c,0) ⟨by simp,by simp,I⟩ ⟨⟨_,I,xaK ?_⟩,⟨⟨_,I,xaK ?_⟩,O⟩⟩ O (fun x=>rfl) (fun x hg1=>?_));iterate 2 focus (first|rfl|(simp;done)|omega|(dsimp only;omega))
 obtain⟨pre,rest,m⟩:=x;dsimp only at hg1 ⊢;refine evc [] [] ?_;apply sq<;>intro h1 h1p h1s<;>(try simp only[Q] at h1p);rcases rest with _|⟨y,rest⟩
 ·exfalso;simp_all
 have hdy:=hd y;have hye:dv f ⟨y.data,y.index⟩=dv f y:=rfl;refine ixq zaL I I I (zaE hg1.1) I (ev (wc zkF (zfb (f:=f) (a:=y.data) (k:=y.index) (hin y (by rw[<-hg1.1];simp)) hn) I I ?_));refine ev ?_;apply sq<;>intro h2 h2p h2s<;>(try simp only[Q] at h2p);refine rq ?_;rotate_left;apply sq<;>intro h3 h3p h3s<;>(try simp only[Q] at h3p);refine ar (xaj ((pre++[y],rest,max m (dv f y))) ⟨⟨(by have hz:=hg1.1;rw[<-hz];simp),⟨(by have:=hd y;dsimp only;omega),(by rw[<-hg1.2.2];simp only[zbK];rw[if_neg (by have:=hd y;omega)])⟩⟩,oe,sx ⟨⟨_,I,xaK ?_⟩,⟨⟨_,I,xaK ?_⟩,O⟩⟩ O⟩);iterate 2 focus (first|rfl|(simp;done)|omega|(dsimp only;omega))
 refine ar (xaj ((pre++[y],rest,max m (dv f y))) ⟨⟨(by have hz:=hg1.1;rw[<-hz];simp),⟨(by have:=hd y;dsimp only;omega),(by rw[<-hg1.2.2];simp only[zbK];rw[if_neg (by have:=hd y;omega)])⟩⟩,oe,sx ⟨⟨_,I,xaK ?_⟩,⟨⟨_,I,xaK ?_⟩,O⟩⟩ O⟩);iterate 2 focus (first|rfl|(simp;done)|omega|(dsimp only;omega))
 have hrest:rest=[]:=by
  rcases rest with _|⟨a,b⟩
  ·rfl
  ·exfalso;have hz:=xam List.length (hg1.1);simp only[xaa,xab,xac] at hz;omega
 subst hrest;refine ar (rq ?_);rotate_left;all_goals (refine xam D.i ?_;unfold most;rw[<-hg1.2.2];first|(simp only[zbK];rw[if_pos od];rfl)|(simp only[zbK];omega))
def hdB (w:List Data):Nat->Ty->Bool
 |0,_=>false
 |d+1,t=>decide (t.data = -1)||(za8 w t).any fun c=>decide (t.data≠ -1)&&(zae w t c).all (hdB w d)
theorem zlY (w:List Data):∀(d:Nat) (t:Ty),hdB w d t=true↔Hd w d t
 |0,t=>by simp[hdB,Hd]
 |d+1,t=>by
  simp only[hdB,Hd,Bool.or_eq_true,xah,List.any_eq_true,xad,List.all_eq_true,zlY w d]
def Low (w:List Data):Prop:=∀s,zav w s<=3
theorem zvp {w:List Data} (hd:Dp w) (h:(List.range (w.length*4)).all (fun s=> !hdB w 4 (tyS s)||hdB w 3 (tyS s))=true):Low w:=by
 intro s;by_cases hs:s<w.length*4
 ·obtain⟨h1,h2⟩:=zd6 hd.cl (w.length*4+1);by_cases h0:zav w s=0
  ·omega
  ·have hh:=h1 s hs (Nat.pos_of_ne_zero h0);have h3:=ziW hd.cl (d:=3) od (fun s hs hh=>by
    have:=List.all_eq_true.1 h s (List.mem_range.2 hs);rw[(zlY w 4 (tyS s)).2 hh] at this;exact(zlY w 3 _).1 (by simpa using this)) _ s hs hh
   by_cases h4:3<=w.length*4+1
   ·exact(h2 s hs 3 h4 h3).2
   ·omega
 ·have h0:=zh3 (w:=w) (i:=s) od (w.length*4+1);show zb6 w (w.length*4+1) s<=3
  omega
theorem zqz:((List.range 7).all fun i=>(List.range ((zdt (nth zdL i)).1.length*4)).all fun s=> !hdB (zdt (nth zdL i)).1 4 (tyS s)||hdB (zdt (nth zdL i)).1 3 (tyS s))=true:=by kernel_rfl
structure WorldL (w:List Data):Prop where
 dp:Dp w
 low:Low w
 few:Few w
theorem zfi (b:Str) (p:Nat):WorldL (zaW b p):=by
 have ho:=zcM b p;have hd:=zsQ ho.small ho.valid;exact⟨hd,zvp hd (List.all_eq_true.1 zqz (zad b p 7).toNat (List.mem_range.2 (zqk b p))),zr7 ho.small ho.valid⟩
theorem zrt {w:List Data} (hd:Dp w){t:Ty} (ht:InS (w.length*4) t) (hne:¬t.data = -1) (h:0<dv (zav w) t):∃c∈zao w t,0<most w (zav w) t c/\most w (zav w) t c=dv (zav w) t:=by
 obtain⟨h1,h2⟩:Snd w (zav w)/\Cmp w (w.length*4+1) (zav w):=zd6 hd.cl (w.length*4+1);have hcmp:∀k,Cmp w k (zav w):=fun k=>by
  have h3:=(zd6 hd.cl (max k (w.length*4+1))).2;rw[ztI hd.cl (Nat.le_max_right _ _)] at h3;exact fun s hs d hdk hh=>h3 s hs d od hh
 have hv:zao w t=za8 w t:=by unfold zao;rw[if_neg hne]
 have hh:Hd w (dv (zav w) t) t:=zp5 h1 ht h;rcases hd0:dv (zav w) t with _|e
 ·omega
 rw[hd0] at hh;rcases hh with hh|⟨c,hc,_,hu⟩
 ·exact absurd hh hne
 have hin:=zj1 hd ht (c:=c) (by rw[hv];exact hc);have hp:=zi7 (f:=zav w) (l:=zae w t c) (m:=0) (k:=e) (Nat.zero_le _) (fun u hu'=>znW (hcmp e) (hin u hu') (hu u hu'));refine⟨c,by rw[hv];exact hc,hp.1, ?_⟩;have hle:most w (zav w) t c<=e+1:=hp.2;have hpos:0<most w (zav w) t c:=hp.1

 have hsn:=zgX (f:=zav w) (l:=zae w t c) (m:=0) hp.1;have hH:Hd w (most w (zav w) t c) t:=by
  obtain⟨q,hq⟩:∃q,most w (zav w) t c=q+1:=⟨most w (zav w) t c-1,by omega⟩;rw[hq];refine .inr ⟨c,hc,hne,fun u hu'=>?_⟩;have hx:=hsn.2 u hu';have hlt:dv (zav w) u<most w (zav w) t c:=hx.2;exact Hd_le od (zp5 h1 (hin u hu') hx.1)
 have hge:=(znW (hcmp _) ht hH).2;omega
def zei (w:List Data) (f:Nat->Nat) (t:Ty) (m c:Int):Bool:=decide (0<most w f t c)&&decide ((most w f t c:Int)<=m\/most w f t c=dv f t)
def zb5 (w:List Data) (f:Nat->Nat) (t:Ty) (m:Int):List Int:=(zao w t).filter (zei w f t m)
theorem zn1 {P:Int->Bool}{pre:List Int}{y:Int} (h:P y=true):((pre++[y]).filter P).map (fun n=>[D.i n])=(pre.filter P).map (fun n=>[D.i n])++[[D.i y]]:=by simp[List.filter_append,h]
theorem ztD {P:Int->Bool}{pre:List Int}{y:Int} (h:P y=false):((pre++[y]).filter P).map (fun n=>[D.i n])=(pre.filter P).map (fun n=>[D.i n]):=by simp[List.filter_append,h]
def dV (f:Ty->Nat->Val×Nat):List Ty->Nat->List Val×Nat
 | [],q=>([],q)
 |t::r,q=>((f t q).1::(dV f r (f t q).2).1,(dV f r (f t q).2).2)
def zbQ (b:Str) (w:List Data) (f:Nat->Nat):Nat->Ty->Int->Nat->Val×Nat
 |0,_,_,p=>(.mk 0 0 [],p)
 |n+1,t,m,p=>
  if t.data = -1 then (.mk (-1) (zad b p 10) [],p+1)
  else (.mk (nth (zb5 w f t m) (zad b p (zb5 w f t m).length).toNat) 0 (dV (fun u q=>zbQ b w f n u (m-1) q) (zae w t (nth (zb5 w f t m) (zad b p (zb5 w f t m).length).toNat)) (p+1)).1,
   (dV (fun u q=>zbQ b w f n u (m-1) q) (zae w t (nth (zb5 w f t m) (zad b p (zb5 w f t m).length).toNat)) (p+1)).2)
abbrev dW (b:Str) (w:List Data) (n:Nat) (m:Int):Ty->Nat->Val×Nat:=fun u x=>zbQ b w (zav w) n u (m-1) x
def bdV:Nat->Nat
 |0=>0
 |d+1=>1+3*bdV d
def szV:Nat->Nat
 |0=>1
 |d+1=>1+3*szV d
theorem zs1 {f:Ty->Nat->Val×Nat}{k:Nat}:∀(l:List Ty) (q:Nat),(∀t∈l,∀q,(f t q).2<=q+k)->(dV f l q).2<=q+l.length*k
 | [],q,_=>by simp[dV]
 |t::r,q,h=>by
  have h1:=h t oe q;have h2:=zs1 r (f t q).2 (fun x hx=>h x (by simp[hx]));simp only[dV,xab,Nat.add_mul];omega
theorem zq6 {f:Ty->Nat->Val×Nat}:∀(l:List Ty) (q:Nat),(dV f l q).1.length=l.length
 | [],q=>rfl
 |t::r,q=>by simp only[dV,xab,zq6 r]
theorem zs2 {f:Ty->Nat->Val×Nat}{k:Nat}:∀(l:List Ty) (q:Nat),(∀t∈l,∀q,(f t q).1.size<=k/\(f t q).1.ok)->Vals.size (dV f l q).1<=l.length*k/\Vals.ok (dV f l q).1
 | [],q,_=>by simp[dV,Vals.size,Vals.ok]
 |t::r,q,h=>by
  have h1:=h t oe q;have h2:=zs2 r (f t q).2 (fun x hx=>h x (by simp[hx]));simp only[dV,xab,Nat.add_mul,Vals.size,Vals.ok];exact⟨by omega,h1.2,h2.2⟩
theorem ziT {w:List Data}{f:Nat->Nat}{t:Ty}{m c:Int} (h:c∈zb5 w f t m):c∈zao w t/\0<most w f t c/\((most w f t c:Int)<=m\/most w f t c=dv f t):=by
 have:=List.mem_filter.1 h;simpa [zei] using this
structure Deep (w:List Data) (n:Nat) (t:Ty) (m:Int):Prop where
 ins:InS (w.length*4) t
 pos:0<dv (zav w) t
 le:dv (zav w) t<=n
 ml:m<=n
theorem zn0 {w:List Data} (hd:Dp w){n:Nat}{t:Ty}{m:Int} (h:Deep w n t m) (hne:¬t.data = -1):1<=(zb5 w (zav w) t m).length:=by
 obtain⟨c,hc,h1,h2⟩:=zrt hd h.ins hne h.pos;exact List.length_pos_of_mem (a:=c) (List.mem_filter.2 ⟨hc,by have:=h.pos;simp[zei,h2,this]⟩)
theorem znT {w:List Data} (hd:Dp w){n:Nat}{t:Ty}{m c:Int} (h:Deep w (n+1) t m) (hc:c∈zb5 w (zav w) t m):∀u∈zae w t c,Deep w n u (m-1):=by
 intro u hu;obtain⟨h1,h2,h3⟩:=ziT hc;have hin:=zj1 hd h.ins h1 u hu;have hs:=(zgX (f:=zav w) (l:=zae w t c) (m:=0) h2).2 u hu;have hlt:dv (zav w) u<most w (zav w) t c:=hs.2;have:=h.le;have:=h.ml;exact⟨hin,hs.1,by rcases h3 with h3|h3<;>omega,by omega⟩
theorem zmR {w:List Data} (hd:Dp w){n:Nat}{t:Ty}{m:Int} (h:Deep w n t m) (hne:¬t.data = -1) (b:Str) (p:Nat):nth (zb5 w (zav w) t m) (zad b p (zb5 w (zav w) t m).length).toNat∈zb5 w (zav w) t m:=
 zic (by have:=zn0 hd h hne;omega)
theorem zhX {b:Str}{w:List Data} (hd:Dp w) (hf:Few w):∀(n:Nat) (t:Ty) (m:Int) (p:Nat),Deep w n t m->(zbQ b w (zav w) n t m p).2<=p+bdV n/\(zbQ b w (zav w) n t m p).1.size<=szV n/\(zbQ b w (zav w) n t m p).1.ok
 |0,t,m,p,h=>by have:=h.pos;have:=h.le;omega
 |n+1,t,m,p,h=>by
  simp only[zbQ,bdV,szV];split
  ·refine⟨by dsimp only;omega, ?_, ?_⟩
   ·simp only[Val.size,Vals.size];omega
   ·simp[Val.ok,Vals.ok]
  ·rename_i hne;have hm:=zmR hd h hne b p;generalize nth (zb5 w (zav w) t m) (zad b p (zb5 w (zav w) t m).length).toNat=c at *;have hk:=znT hd h hm;have h3:=(hf t c (ziT hm).1 (zkf h.ins)).1;have h1:=zs1 (f:=fun u q=>zbQ b w (zav w) n u (m-1) q) (k:=bdV n) (zae w t c) (p+1) (fun u hu q=>(zhX hd hf n u (m-1) q (hk u hu)).1);have h2:=zs2 (f:=fun u q=>zbQ b w (zav w) n u (m-1) q) (k:=szV n) (zae w t c) (p+1) (fun u hu q=>(zhX hd hf n u (m-1) q (hk u hu)).2);have h4:(zae w t c).length*bdV n<=3*bdV n:=xav _ h3;have h5:(zae w t c).length*szV n<=3*szV n:=xav _ h3;have h6:=zq6 (f:=fun u q=>zbQ b w (zav w) n u (m-1) q) (zae w t c) (p+1);refine⟨by dsimp only;omega, ?_, ?_⟩
   ·simp only[Val.size];omega
   ·simp only[Val.ok];exact⟨by omega,h2.2⟩
section
variable {b:Str}{w:List Data}{f:Nat->Nat}{n p:Nat}{t:Ty}{m:Int}
theorem ztB (h:t.data = -1):zbQ b w f (n+1) t m p=(.mk (-1) (zad b p 10) [],p+1):=by simp only[zbQ];rw[if_pos h]
theorem ztC (h:¬t.data = -1){c:Int} (hc:nth (zb5 w f t m) (zad b p (zb5 w f t m).length).toNat=c):zbQ b w f (n+1) t m p =
  (.mk c 0 (dV (fun u q=>zbQ b w f n u (m-1) q) (zae w t c) (p+1)).1,(dV (fun u q=>zbQ b w f n u (m-1) q) (zae w t c) (p+1)).2):=by
 simp only[zbQ];rw[if_neg h,hc]
end
theorem zhI {b:Str}{w:List Data} (hb:b.length<=2000) (hd:Dp w) (hf:Few w):∀(n:Nat){a k m:Int}{p:Nat},Deep w n ⟨a,k⟩ m->(n:Int)-10<=m->n<=5->p+bdV n<=1000000->
  FnD Tryz.prog 168 [.ref 900 0,.d (zah w),.d (zkX (w.length*4) (zav w)),.agg [.d (.i a),.d (.i k)],.d (.i m)] [(900,some (rdB b p))]
   (.agg [.d (.i (zbQ b w (zav w) n ⟨a,k⟩ m p).1.ctor),.d (.i (zbQ b w (zav w) n ⟨a,k⟩ m p).1.num),.d (zjx (zbQ b w (zav w) n ⟨a,k⟩ m p).1.kids)]) [(900,some (rdB b (zbQ b w (zav w) n ⟨a,k⟩ m p).2))]
 |0,a,k,m,p,h,_,_,_=>by have:=h.pos;have:=h.le;omega
 |n+1,a,k,m,p,h,hm,hn5,hp=>by
  have ht:=zkf h.ins;have hml:=h.ml;have h4:=hd.four;have hbd:bdV (n+1)=1+3*bdV n:=rfl;have hfb:∀s,zav w s<=100000:=zpG hd (k:=w.length*4+1) (s:=0) od od (pre:=[]) oe;have hcl:=zeq hd.wt ht;have hfl:(zb5 w (zav w) ⟨a,k⟩ m).length<=(zao w ⟨a,k⟩).length:=List.length_filter_le _ _;have hflm:((((zao w ⟨a,k⟩).filter (zei w (zav w) ⟨a,k⟩ m)).map fun n=>[D.i n]).length:Int)=(zb5 w (zav w) ⟨a,k⟩ m).length:=by rw[xac];rfl
  have hfp:=fun hne=>zn0 hd h hne;have v14:=fun hh=>zbo (b:=b) (p:=p) (n:=((zb5 w (zav w) ⟨a,k⟩ m).length:Int)) hh;have hmem:=fun hne=>zmR hd h hne b p;have hdm:=ztB (b:=b) (w:=w) (f:=zav w) (n:=n) (p:=p) (t:=⟨a,k⟩) (m:=m);have hdm2:=fun hne=>ztC (b:=b) (w:=w) (f:=zav w) (n:=n) (p:=p) (t:=⟨a,k⟩) (m:=m) hne rfl;generalize hcc:nth (zb5 w (zav w) ⟨a,k⟩ m) (zad b p (zb5 w (zav w) ⟨a,k⟩ m).length).toNat=cc at *;have hfm:=fun hne=>ziT (hmem hne);have hkid:=fun hne=>znT hd h (hmem hne);have hfw:=fun hne=>(hf ⟨a,k⟩ cc (hfm hne).1 ht).1;have hok:=fun u q hu=>zhX (b:=b) hd hf n u (m-1) q hu;have hat:¬a = -1->(((zao w ⟨a,k⟩).filter (zei w (zav w) ⟨a,k⟩ m)).map fun n=>[D.i n])[(zad b p (zb5 w (zav w) ⟨a,k⟩ m).length).toNat]?=some [D.i cc]:=fun hne=>by
   rw[<-hcc];exact zan (l:=zb5 w (zav w) ⟨a,k⟩ m) (by have:=v14 (by have:=hfp hne;omega);omega)
  refine bd Tryz.f168 98 [] [9,11] fun _ _ _ _ hk=>?_;refine bx 3008 ?_;refine ab 3010 zhe ?_;apply tv;apply sq<;>intro h1 h1p h1s<;>(try simp only[Q] at h1p);refine wd zbg (zaD (p:=p) (n:=10) hb od od) I I ⟨I,O⟩ ?_;refine bu [0,1] [_,_] ztl ?_;refine so zdX ?_;apply tv;refine rn [(900,some (rdB b (zbQ b w (zav w) (n+1) ⟨a,k⟩ m p).2))] (ra zdX) (.agg (qeen ?_ ?_ ?_)) ⟨I,I⟩ (SubO.get ⟨.inr ?_,⟨.inl I,O⟩⟩) (zak I);rotate_left 4;refine wc zfM (zb4 hd.wt ht) I I ?_;refine ev (xbS 5 zaZ .none I I (ev (xaA (ι:=List (Int)×List (Int)) hk (fun x=>[(13,.d (.i (x.1.length:Int))),(12,.gl 5 ((x.1.filter (zei w (zav w) ⟨a,k⟩ m)).map fun n=>[D.i n]))]) [14,28,29,30,31,32,33,34,35,36,37,38,39,40,41,42,43,44,45,46,47,48,49,50,51,52,53,54,55,56,57,58,59,60,61,62] (fun x=>[(5,some (.tok (((x.1.filter (zei w (zav w) ⟨a,k⟩ m)).map fun n=>[D.i n])).length 1))]) (fun x=>x.1++x.2=zao w ⟨a,k⟩) (fun x=>x.2.length) ([],zao w ⟨a,k⟩) oe ⟨⟨_,I,xaK ?_⟩,⟨⟨_,I,LeA.glg ?_⟩,O⟩⟩ ⟨zag ?_,O⟩ (fun x=>rfl) (fun x hg1=>?_))));iterate 3 focus (rfl)
  obtain⟨pre,rest⟩:=x;dsimp only at hg1 ⊢;refine evc [] [9,11] ?_;apply sq<;>intro h2 h2p h2s<;>(try simp only[Q] at h2p);rcases rest with _|⟨y,rest⟩
  ·exfalso;simp_all
  refine ixq zaZ I I I (zaE hg1) I (evd [] [] (wc zqR (zmi hd.wt ht (c:=y) (by rw[<-hg1];simp) od hfb (zj1 hd h.ins (by rw[<-hg1];simp))) I I ?_));refine evd [] [] (dr (xaC (xbh 14 [(55,.d (.bool (zei w (zav w) ⟨a,k⟩ m y)))] [42,43,44,45,46,47,48,49,50,51,52,53,54] ?_ ?_)));refine ev ?_;apply sq<;>intro h3 h3p h3s<;>(try simp only[Q] at h3p);apply sq<;>intro h4 h4p h4s<;>(try simp only[Q] at h4p);focus (exact jn I (xaJ (by(unfold zei;rw[xat];simp_all;done))))
  refine Walk.call (cr:=[]) zkF (zfb h.ins od) I (.some I I h4) I I (LeL.refl _) O I I I ?_;refine evs [] [(44,true),(48,false)] ?_ ⟨⟨_,I,h3⟩,⟨_,I,h4⟩,O⟩;focus (exact jn I (xaJ (by(unfold zei;rw[xat];simp_all;omega))))
  focus (exact jn I (xaJ (by(unfold zei;rw[xat];simp_all;done))))
  refine xbg ?_;apply tv;apply sq<;>intro h5 h5p h5s<;>(try simp only[Q] at h5p);refine ixq zaZ I I I (zaE hg1) I (ev (si [0] [_] zaZ tz3 ?_));refine ap zaZ zz3 I I I oe (by(have hz:=xam List.length hg1;have hq:=List.length_filter_le (zei w (zav w) ⟨a,k⟩ m) pre;simp at hz ⊢;omega)) ?_;refine ev (ar (xaj ((pre++[y],rest)) ⟨(by have hz:=hg1;rw[<-hz];simp),oe,sx ⟨⟨_,I,xaK ?_⟩,⟨⟨_,I,LeA.glg ?_⟩,O⟩⟩ ⟨zag ?_,O⟩⟩));iterate 3 focus (first|(simp;done)|(rw[zn1 ol];all_goals rfl)|(rw[zn1 ol];simp;done))
  refine ar (xaj ((pre++[y],rest)) ⟨(by have hz:=hg1;rw[<-hz];simp),oe,sx ⟨⟨_,I,xaK ?_⟩,⟨⟨_,I,LeA.glg ?_⟩,O⟩⟩ ⟨zag ?_,O⟩⟩);iterate 3 focus (first|(simp;done)|(rw[ztD ol];all_goals rfl))
  have hrest:rest=[]:=by
   rcases rest with _|⟨a,b⟩
   ·rfl
   ·exfalso;have hz:=xam List.length (hg1);simp only[xaa,xab,xac] at hz;omega
  subst hrest;rw[xaq] at hg1;subst hg1;refine evc [] [] (wd zbg (zaD (p:=p) (n:=((((zao w ⟨a,k⟩).filter (zei w (zav w) ⟨a,k⟩ m)).map fun n=>[D.i n]).length:Int)) hb od od) I I ⟨I,O⟩ ?_);refine xbD (i:=(zad b p (zb5 w (zav w) ⟨a,k⟩ m).length).toNat) zaZ .none I I I (by rw[hflm];have:=v14 (by have:=hfp od;omega);omega) (hat od) I ?_;refine ev (bu [0] [_] ztl ?_);refine ab 3015 zhe ?_;refine so zdX ?_;apply tv;refine wc zcj (zcB hd.wt ht (hfm od).1) I I ?_;refine ev (xaD 3015 2 1 3 I I I I (xaA (ι:=List (Ty)×List (Ty)×(Nat)×(List Val)) hk (fun x=>[(17,.d (.i (x.1.length:Int)))]) [76,77,78,79,80,81,82,83,84,85,86,87,88,89,90,91,92,93,94,95,96] (fun x=>[(900,some (.box [.d (zbP b),.d (.i (x.2.2.1:Int))])),(3015,some (.box [.d (.i cc),.d (.i 0),.gl 1 (x.2.2.2.map Val.cc)])),(1,some (.tok (x.2.2.2.map Val.cc).length 3))]) (fun x=>x.1++x.2.1=zae w ⟨a,k⟩ cc/\x.2.2.1<=p+1+x.1.length*bdV n/\x.2.2.2.length=x.1.length/\(x.2.2.2++(dV (dW b w n m) x.2.1 x.2.2.1).1,(dV (dW b w n m) x.2.1 x.2.2.1).2)=dV (dW b w n m) (zae w ⟨a,k⟩ cc) (p+1)) (fun x=>x.2.1.length) ([],zae w ⟨a,k⟩ cc,p+1,[]) ⟨by simp,by simp,by simp,by simp⟩ ⟨⟨_,I,xaK ?_⟩,O⟩ ⟨?_,⟨?_,⟨zag ?_,O⟩⟩⟩ (fun x=>rfl) (fun x hg2=>?_)));focus (rfl)
  iterate 2 focus (first|rfl|(simp[getH];done))
  focus (rfl)
  obtain⟨pre,rest,q,ks⟩:=x;dsimp only at hg2 ⊢;refine evc [] [9,11] ?_;apply sq<;>intro h6 h6p h6s<;>(try simp only[Q] at h6p);rcases rest with _|⟨y,rest⟩
  ·exfalso;simp_all
  have hfw3:=hfw od;have hpm:pre.length*bdV n<=2*bdV n:=xav _ (by have hz:=xam List.length hg2.1;have:=hfw od;simp at hz;omega);refine ixq zaL I I I (zaE hg2.1) I (evd [] [] (ar (wd znB (zhI hb hd hf n (a:=y.data) (k:=y.index) (m:=m-1) (p:=q) (hkid od y (by rw[<-hg2.1];simp)) od od od) I I ⟨I,O⟩ ?_)));refine si [0] [_] ztj zhe ?_;refine ap ztj zwb I I I oe (by(have hz:=xam List.length hg2.1;have:=hfw od;simp at hz ⊢;omega)) ?_;refine evd [] [] (so zv9 ?_);refine dr (ar (xaj ((pre++[y],rest,(zbQ b w (zav w) n y (m-1) q).2,ks++[(zbQ b w (zav w) n y (m-1) q).1])) ⟨⟨(by have hz:=hg2.1;rw[<-hz];simp),⟨(by have:=(hok y q (hkid od y (by rw[<-hg2.1];simp))).1;simp only[xaa,xab,xak,Nat.add_mul];omega),(by simp[hg2.2.2.1]),(by rw[<-hg2.2.2.2];simp[dV])⟩⟩,oe,sx ⟨⟨_,I,xaK ?_⟩,O⟩ ⟨?_,⟨?_,⟨zag ?_,O⟩⟩⟩⟩));focus ((simp;done))
  iterate 2 focus (first|rfl|(simp[getH];done))
  focus ((simp;done))
  have hrest:rest=[]:=by
   rcases rest with _|⟨a,b⟩
   ·rfl
   ·exfalso;have hz:=xam List.length (hg2.1);simp only[xaa,xab,xac] at hz;omega
  subst hrest;refine so zdX ?_;apply tv;refine rn [(900,some (rdB b (zbQ b w (zav w) (n+1) ⟨a,k⟩ m p).2))] (ra zdX) (.agg (qeeg ?_ ?_ ?_)) ⟨I,I⟩ (SubO.get ⟨.inr ?_,⟨.inl I,O⟩⟩) (zak I);rotate_left 4;all_goals (((first|(rw[hdm od];all_goals rfl)|(rw[hdm2 od];have hfin:=hg2.2.2.2;simp only[dV,xaq] at hfin;rw[<-hfin];all_goals first|rfl|(show _=D.sl (Val.cs _);rw[Val.cs_cc];all_goals rfl)|(show _=Val.cs _;rw[Val.cs_cc];all_goals rfl)));done))
set_option maxRecDepth 1000000
set_option maxRecDepth 100000
def uv (x:Int):Int:=if x=3 then 1 else if x=0\/x=1 then 0 else -1
def fN (y:Nat):Nat:=(y ^^^ (y / 64)) % 24
def uN (y:Nat):Int:=uv (fN y:Int)
def wS (D:Nat):Nat->Nat->Int
 |0,_=>0
 |n+1,y=>uN y+wS D n (y+D)
theorem zlO (D:Nat):∀m n y,wS D (m+n) y=wS D m y+wS D n (y+m*D)
 |0,n,y=>by simp[wS]
 |m+1,n,y=>by
  rw[show m+1+n=(m+n)+1 by omega];simp only[wS];rw[zlO D m n (y+D),show y+D+m*D=y+(m+1)*D by rw[Nat.add_mul];omega];omega
def g8 (r:Nat):Nat:=(r % 8) ^^^ (r / 64 % 8)
theorem zvk (y:Nat):fN y % 8=g8 (y % 512):=by
 unfold fN g8;rw[Nat.mod_mod_of_dvd _ oh,show(8:Nat)=2 ^ 3 from rfl,Nat.xor_mod_two_pow];congr 1
 ·omega
 ·omega
def um (r:Nat):Int:=if r=3 then 1 else if r=0\/r=1 then 0 else -1
theorem zns (y:Nat):uN y<=um (g8 (y % 512)):=by
 rw[<-zvk];have h:fN y<24:=Nat.mod_lt _ od;unfold uN;generalize fN y=x at *;have key:∀x:Nat,x<24->uv (x:Int)<=um (x % 8):=by decide
 exact key x h
def zv4:Bool:=(List.range 512).all fun r=>[128,384].all fun E=>decide (um (g8 r)+um (g8 ((r+E) % 512))+um (g8 ((r+2*E) % 512))+um (g8 ((r+3*E) % 512))<= -1)
theorem zsG:zv4=true:=by kernel_rfl
theorem quad {E:Nat} (hE:E % 512=128\/E % 512=384) (y:Nat):uN y+uN (y+E)+uN (y+2*E)+uN (y+3*E)<= -1:=by
 have h:=List.all_eq_true.1 zsG (y % 512) (List.mem_range.2 (Nat.mod_lt _ od));have h2:=List.all_eq_true.1 h (E % 512) (by rcases hE with e|e<;>rw[e]<;>simp);have h3:=xas h2;have a0:=zns y;have a1:=zns (y+E);have a2:=zns (y+2*E);have a3:=zns (y+3*E);rw[show(y+E) % 512=(y % 512+E % 512) % 512 by omega] at a1;rw[show(y+2*E) % 512=(y % 512+2*(E % 512)) % 512 by omega] at a2;rw[show(y+3*E) % 512=(y % 512+3*(E % 512)) % 512 by omega] at a3;omega
theorem zti {D E:Nat} (hE:E % 512=128\/E % 512=384):∀n y,wS D n y+wS D n (y+E)+wS D n (y+2*E)+wS D n (y+3*E)<= -n
 |0,y=>by simp[wS]
 |n+1,y=>by
  have h1:=quad hE y;have h2:=zti (D:=D) hE n (y+D);simp only[wS];rw[show y+E+D=y+D+E by omega,show y+2*E+D=y+D+2*E by omega,show y+3*E+D=y+D+3*E by omega];omega
theorem four {D h:Nat} (hE:h*D % 512=128\/h*D % 512=384) (y:Nat):wS D (h+(h+(h+h))) y<= -h:=by
 have:=zti (D:=D) hE h y;rw[zlO,zlO,zlO,show y+h*D+h*D=y+2*(h*D) by omega,show y+2*(h*D)+h*D=y+3*(h*D) by omega];omega
def mutV (b:Str):Nat->Nat->Val->Option (Val×Nat)
 |0,_,_=>none
 |n+1,p,v=>
  if zad b p 24=0 then some (.mk (numV b (p+1) [0,1,-1,9,-2]) v.num v.kids,p+2)
  else if zad b p 24=1 then some (.mk v.ctor (numV b (p+1) [10,-1,1]) v.kids,p+2)
  else if zad b p 24=2 then some (.mk v.ctor v.num (v.kids++[.mk (-1) 0 []]),p+1)
  else if zad b p 24=3 then
   match v.kids with
   | []=>some (.mk v.ctor v.num v.kids,p+1)
   |k::r=>
    match mutV b n (p+1) k with
    |none=>none
    |some (k1,p1)=>
     match mutV b n p1 k1 with
     |none=>none
     |some (k2,p2)=>some (.mk v.ctor v.num (k2::r),p2)
  else some (.mk v.ctor v.num v.kids,p+1)
theorem xbd:∀a b:List Val,Vals.size (a++b)=Vals.size a+Vals.size b
 | [],b=>by simp[Vals.size]
 |x::r,b=>by simp only[xai,Vals.size,xbd r b];omega
theorem xba (a n:Int) (k:List Val):(Val.mk a n k).size=1+Vals.size k:=rfl
theorem ztQ {b:Str}{n p:Nat}{v:Val}{k:Val}{r:List Val} (h:zad b p 24=3) (hk:v.kids=k::r){v':Val}{q:Nat} (hm:mutV b (n+1) p v=some (v',q)):
  ∃k1 p1 k2,mutV b n (p+1) k=some (k1,p1)/\mutV b n p1 k1=some (k2,q)/\v' = .mk v.ctor v.num (k2::r):=by
 simp only[mutV] at hm;rw[if_neg od,if_neg od,if_neg od,if_pos h,hk] at hm;cases h1:mutV b n (p+1) k with
 |none=>simp[h1] at hm
 |some x=>
  obtain⟨k1,p1⟩:=x;cases h2:mutV b n p1 k1 with
  |none=>simp[h1,h2] at hm
  |some y=>
   obtain⟨k2,p2⟩:=y;simp only[h1,h2,xae,Prod.mk.injEq] at hm;obtain⟨rfl,rfl⟩:=hm;exact⟨k1,p1,k2,rfl,h2,rfl⟩
theorem zl3 {b:Str}:∀ {n:Nat}{p:Nat}{v v':Val}{q:Nat},mutV b n p v=some (v',q)->p<q/\v'.size<=v.size+(q-p)
 |0,p,v,v',q,h=>by simp[mutV] at h
 |n+1,p,v,v',q,h=>by
  have hv:=xa9 v;by_cases h3:zad b p 24=3
  ·cases hk:v.kids with
   |nil=>
    simp only[mutV] at h;rw[if_neg od,if_neg od,if_neg od,if_pos h3,hk] at h;simp only[xae,Prod.mk.injEq] at h;obtain⟨rfl,rfl⟩:=h;rw[xba];simp only[Vals.size];omega
   |cons k r=>
    obtain⟨k1,p1,k2,h1,h2,rfl⟩:=ztQ h3 hk h;have a1:=zl3 h1;have a2:=zl3 h2;rw[hk] at hv;rw[xba];simp only[Vals.size] at hv ⊢;omega
  ·simp only[mutV] at h;split at h
   ·simp only[xae,Prod.mk.injEq] at h;obtain⟨rfl,rfl⟩:=h;rw[xba];omega
   split at h
   ·simp only[xae,Prod.mk.injEq] at h;obtain⟨rfl,rfl⟩:=h;rw[xba];omega
   split at h
   ·simp only[xae,Prod.mk.injEq] at h;obtain⟨rfl,rfl⟩:=h;rw[xba,xbd];simp only[Vals.size,Val.size];omega
   ·simp only[xae,Prod.mk.injEq] at h;obtain⟨rfl,rfl⟩:=h;rw[xba];omega
def zeC (b:Str) (p:Nat):Ty:=⟨zad b (p+1) (zaW b p).length,numV b (p+2) [0,0,1,2]⟩
def typT (b:Str) (p:Nat):Ty:=if dv (zav (zaW b p)) (zeC b p)=0 then ⟨-1,0⟩ else zeC b p
def typV (b:Str) (p:Nat):Val×Nat:=zbQ b (zaW b p) (zav (zaW b p)) 4 (typT b p) (numV b (p+3) [3,2,4,1]) (p+4)
theorem zvn {n:Nat}{a k:Int} (h1:0<=a) (h2:a<n) (h3:0<=k) (h4:k<=3):InS (n*4) ⟨a,k⟩:=by
 refine .inr ⟨?_, ?_⟩
 ·simp only[zen];omega
 ·obtain⟨i,rfl⟩:=Int.eq_ofNat_of_zero_le h1;obtain⟨m,rfl⟩:=Int.eq_ofNat_of_zero_le h3;simp only[zen,Int.toNat_natCast];exact zr2 od
theorem zpv (b:Str) (p:Nat):0<=numV b p [0,0,1,2]/\numV b p [0,0,1,2]<=3:=by
 have:=zkk (b:=b) (p:=p) (l:=[0,0,1,2]) oe;simp only[List.mem_cons,xau,or_false] at this;omega
theorem zoJ (b:Str) (p:Nat):InS ((zaW b p).length*4) (zeC b p):=by
 have h1:=zbo (b:=b) (p:=p+1) (n:=((zaW b p).length:Int)) (by have:=(zcM b p).one;omega);have h2:=zpv b (p+2);exact zvn h1.1 h1.2 h2.1 h2.2
theorem zjp (b:Str) (p:Nat):Deep (zaW b p) 4 (typT b p) (numV b (p+3) [3,2,4,1]):=by
 have hl:=zfi b p;have h4:=num4 b (p+3);unfold typT;split
 ·exact⟨.inl rfl,by simp[dv],by simp[dv],by omega⟩
 ·rename_i h;have:=zp4 (f:=zav (zaW b p)) (b:=3) hl.low od (zeC b p);exact⟨zoJ b p,by omega,by omega,by omega⟩
theorem zpR (b:Str) (p:Nat):(typV b p).2<=p+44/\(typV b p).1.size<=121/\(typV b p).1.ok:=by
 have hl:=zfi b p;have h:=zhX (b:=b) hl.dp hl.few 4 (typT b p) (numV b (p+3) [3,2,4,1]) (p+4) (zjp b p);have e1:bdV 4=40:=by decide
 have e2:szV 4=121:=by decide
 unfold typV;exact⟨by omega,by omega,h.2.2⟩
theorem zlx {b:Str}{p:Nat} (hb:b.length<=2000) (hp:p<=100000):
  FnD Tryz.prog 163 [.ref 900 0] [(900,some (rdB b p))] (.tup [.d (zah (zaW b p)),.agg [.d (.i (typT b p).data),.d (.i (typT b p).index)],.agg [.d (.i (typV b p).1.ctor),.d (.i (typV b p).1.num),.d (zjx (typV b p).1.kids)]]) [(900,some (rdB b (typV b p).2))]:=by
 have ho:=zcM b p;have hl:=zfi b p;have h4:=num4 b (p+3);have hin:=zoJ b p;have hdeep:=zjp b p;have hT:typT b p=if dv (zav (zaW b p)) (zeC b p)=0 then ⟨-1,0⟩ else zeC b p:=rfl
 have hV:typV b p=zbQ b (zaW b p) (zav (zaW b p)) 4 (typT b p) (numV b (p+3) [3,2,4,1]) (p+4):=rfl;have e1:bdV 4=40:=by decide
 have hwd:=zlw (p:=p) hb od;have hpk:=zaD (b:=b) (p:=p+1) (n:=(((zaW b p).map Data.c).length:Int)) hb od (by have:=ho.small.len;simp;omega);rw[show zad b (p+1) (((zaW b p).map Data.c).length:Int)=(zeC b p).data by rw[xac];rfl] at hpk;have hnu:=zbp (b:=b) (p:=p+2) (l:=[0,0,1,2]) hb od oe oe;rw[show numV b (p+2) [0,0,1,2]=(zeC b p).index from rfl] at hnu;have hdr:=fun(t:Ty) (h:Deep (zaW b p) 4 t (numV b (p+3) [3,2,4,1]))=>zhI hb hl.dp hl.few 4 (a:=t.data) (k:=t.index) (p:=p+4) h od od od;have hdp:=zfb (f:=zav (zaW b p)) (a:=(zeC b p).data) (k:=(zeC b p).index) hin (by have:=hl.dp.four;omega);have htb:=zlt hl.dp;generalize zaW b p=w at *;generalize zeC b p=t0 at *;obtain⟨a0,k0⟩:=t0;have hdr2:=hdr ⟨-1,0⟩;have hdr3:=hdr ⟨a0,k0⟩;clear hdr;dsimp only at hT hV hdr2 hdr3;refine bd Tryz.f163 35 [] [] fun _ _ _ _ hk=>?_;refine ab 3003 tz38 ?_;refine ab 3004 zhe ?_;apply tv;refine wd zuY hwd I I ⟨I,O⟩ ?_;refine ev (wc zuD htb I I ?_);refine ev (wd zbg hpk I I ⟨I,O⟩ ?_);refine ev (si [0,1,2,3] [_,_,_,_] zaZ tz3 ?_);refine wd zcQ hnu I I ⟨I,O⟩ ?_;refine bu [0,1] [_,_] st38 ?_;refine ab 3007 tz38 ?_;refine so ty38 ?_;apply tv;refine wc zkF hdp I I ?_;refine ev ?_;apply sq<;>intro h1 h1p h1s<;>(try simp only[Q] at h1p);have HDR:=hdr2 (by rw[if_pos od] at hT;rw[<-hT];exact hdeep);refine bu [0] [_] st38 ?_;refine so ty38 ?_;apply tv;refine si [0,1,2,3] [_,_,_,_] zaZ tz3 ?_;refine wd zcQ (zbp (b:=b) (p:=p+3) (l:=[3,2,4,1]) hb od oe oe) I I ⟨I,O⟩ ?_;refine wd znB HDR I I ⟨I,O⟩ ?_;refine evd [] [] (so ty38 ?_);refine so zdX ?_;refine dr (rn [(900,some (rdB b (typV b p).2))] (.cons (.tmp I) (.cons (.cellA ty38 I I I) (ra zdX))) (.tup (.cons (.eqd ?_) (.cons (.agg (qee ?_ ?_)) (.cons (.agg (qeee ?_ ?_ ?_)) .nil)))) ⟨I,I⟩ (SubO.get ⟨.inr ?_,⟨.inl I,O⟩⟩) (zak I));rotate_left 7;have HDR:=hdr3 (by rw[if_neg od] at hT;rw[<-hT];exact hdeep);refine si [0,1,2,3] [_,_,_,_] zaZ tz3 ?_;refine wd zcQ (zbp (b:=b) (p:=p+3) (l:=[3,2,4,1]) hb od oe oe) I I ⟨I,O⟩ ?_;refine wd znB HDR I I ⟨I,O⟩ ?_;refine evd [] [] (so ty38 ?_);refine so zdX ?_;refine dr (rn [(900,some (rdB b (typV b p).2))] (.cons (.tmp I) (.cons (.cellA ty38 I I I) (ra zdX))) (.tup (.cons (.eqd ?_) (.cons (.agg (qee ?_ ?_)) (.cons (.agg (qeee ?_ ?_ ?_)) .nil)))) ⟨I,I⟩ (SubO.get ⟨.inr ?_,⟨.inl I,O⟩⟩) (zak I));rotate_left 7;all_goals (first|((first|(rw[if_pos od] at hT;rw[hV,hT];all_goals rfl)|(rw[if_neg od] at hT;rw[hV,hT];all_goals rfl)|(rw[if_pos od] at hT;rw[hT];all_goals rfl)|(rw[if_neg od] at hT;rw[hT];all_goals rfl)|rfl);done)|(first|(rw[if_pos od] at hT;rw[hV,hT];all_goals rfl)|(rw[if_neg od] at hT;rw[hV,hT];all_goals rfl)))
mutual
theorem Val.ok_sz:∀v:Val,v.size<=1000000000000->v.ok
 | .mk a n ks,h=>by
  have h1:1+Vals.size ks<=1000000000000:=h;exact⟨by have:=xbb ks;omega,xbc ks od⟩
theorem xbc:∀l:List Val,Vals.size l<=1000000000000->Vals.ok l
 | [],_=>trivial
 |v::r,h=>by
  have h1:v.size+Vals.size r<=1000000000000:=h;exact⟨Val.ok_sz v od,xbc r od⟩
theorem xbb:∀l:List Val,l.length<=Vals.size l
 | []=>Nat.zero_le _
 |v::r=>by
  have h1:=xbb r;have h2:=xa9 v;show r.length+1<=v.size+Vals.size r
  omega
end
theorem Val.cs_app (a b:List Val):Val.cs (a++b)=Val.cs a++Val.cs b:=by rw[xa8,xa8,xa8,xag]
structure MutOf (b:Str) (p:Nat) (v v':Val) (q:Nat):Prop where
 some_:∃n,mutV b n p v=some (v',q)
 q:q<=3010000
theorem MutOf.size {b:Str}{p:Nat}{v v':Val}{q:Nat} (h:MutOf b p v v' q):v'.size<=v.size+3010000:=by
 obtain⟨n,hn⟩:=h.some_;have:=zl3 hn;have:=h.q;omega
def g0:Gd:=⟨0,0,0⟩
def zbV (b:Str) (x:Vt) (g:Gd) (q:Nat):Gd×Nat:=if x.ty.data = -1 then (if zad b q 2=0 then (⟨1+zad b (q+1) 2,x.var,zad b (q+2) 10⟩,q+3) else (g,q+1)) else (g,q)
def gdL (b:Str):List Vt->Gd->Nat->Gd×Nat
 | [],g,q=>(g,q)
 |x::r,g,q=>gdL b r (zbV b x g q).1 (zbV b x g q).2
theorem zhZ {b:Str}{x:Vt}{g:Gd}{q:Nat} (h:x.ty.data = -1) (h2:zad b q 2=0):zbV b x g q=(⟨1+zad b (q+1) 2,x.var,zad b (q+2) 10⟩,q+3):=by unfold zbV;rw[if_pos h,if_pos h2]
theorem zh0 {b:Str}{x:Vt}{g:Gd}{q:Nat} (h:x.ty.data = -1) (h2:¬zad b q 2=0):zbV b x g q=(g,q+1):=by unfold zbV;rw[if_pos h,if_neg h2]
theorem zh1 {b:Str}{x:Vt}{g:Gd}{q:Nat} (h:¬x.ty.data = -1):zbV b x g q=(g,q):=by unfold zbV;rw[if_neg h]
theorem zgS (b:Str) (x:Vt) (g:Gd) (q:Nat):q<=(zbV b x g q).2/\(zbV b x g q).2<=q+3:=by unfold zbV;split;split;all_goals (dsimp only;omega)
theorem zn4 (b:Str):∀(l:List Vt) (g:Gd) (q:Nat),(gdL b l g q).2<=q+3*l.length
 | [],g,q=>by simp[gdL]
 |x::r,g,q=>by
  unfold gdL;have h1:=zgS b x g q;have h2:=zn4 b r (zbV b x g q).1 (zbV b x g q).2;simp only[xab];omega
def clD (b:Str) (w:List Data) (t:Ty) (q:Nat):Cl×Nat:=
 (⟨zbB b w t q,(gdL b (zdb w t (zbB b w t q)) g0 (zct b w t q).2.2).1⟩,(gdL b (zdb w t (zbB b w t q)) g0 (zct b w t q).2.2).2)
theorem ztG {w:List Data}{t:Ty}:isP w t anyP=true:=by
 have e:zab w t anyP=[]:=by unfold zab;rw[if_neg oh,if_neg oh,if_neg oh]
 have ho:ownP w t anyP=true:=by simp[ownP,anyP,Pat.op,Pat.n,Pat.m,Pat.var,Pat.ctor]
 have h:zas w 10 t anyP=true:=by
  show(ownP w t anyP&&all2 _ (zab w t anyP) anyP.kids)=true
  rw[e,ho];rfl
 have h2:anyP.size=1:=zhs.1;have h3:linP w 10 t anyP=true:=by
  unfold linP;rw[e];rfl
 unfold isP;rw[h,h3,h2];rfl
theorem zjZ (b:Str) (w:List Data) (t:Ty) (q:Nat):isP w t (zbB b w t q)=true:=by
 unfold zbB;split
 ·assumption
 ·exact ztG
theorem zqY {b:Str}{w:List Data} (hf:Few w){t:Ty} (ht:TyIn w.length t) (q:Nat):(clD b w t q).2<=q+518/\(clD b w t q).1.pat.size<=242/\(clD b w t q).1.pat.ok:=by
 have h1:=zg2 (b:=b) hf ht q;have h2:=zlm (b:=b) hf ht q;have h3:=zim w t (zbB b w t q);have h4:=zn4 b (zdb w t (zbB b w t q)) g0 (zct b w t q).2.2;exact⟨by unfold clD;dsimp only;omega,h2⟩
theorem zkt {b:Str}{w:List Data} (hb:b.length<=2000) (hw:WT w) (hf:Few w){a k:Int}{p:Nat} (hp:p<=100000) (ht:TyIn w.length ⟨a,k⟩):
  FnD Tryz.prog 266 [.ref 900 0,.d (zah w),.agg [.d (.i a),.d (.i k)]] [(900,some (rdB b p))]
   (.agg [.d (.i (clD b w ⟨a,k⟩ p).1.pat.op),.d (.i (clD b w ⟨a,k⟩ p).1.pat.ctor),.d (.i (clD b w ⟨a,k⟩ p).1.pat.n),.d (.i (clD b w ⟨a,k⟩ p).1.pat.m),.d (.i (clD b w ⟨a,k⟩ p).1.pat.var),.d (zau (clD b w ⟨a,k⟩ p).1.pat.kids),.d (.i (clD b w ⟨a,k⟩ p).1.g.op),.d (.i (clD b w ⟨a,k⟩ p).1.g.var),.d (.i (clD b w ⟨a,k⟩ p).1.g.n)])
   [(900,some (rdB b (clD b w ⟨a,k⟩ p).2))]:=by
 have h1:=zg2 (b:=b) hf ht p;have h2:=zlm (b:=b) hf ht p;have h3:=zim w ⟨a,k⟩ (zbB b w ⟨a,k⟩ p);have hip:=zjZ b w ⟨a,k⟩ p;have hsh:zas w 10 ⟨a,k⟩ (zbB b w ⟨a,k⟩ p)=true:=by unfold isP at hip;simp only[xad] at hip;exact hip.1
 have hva:=zc8 hw hsh od ht h2.2 od;rw[<-zhf hip] at hva;have hso:=zmn hb hw hf hp ht;have hgb:=zn4 b;have hpb:=fun q=>zbo (b:=b) (p:=q) (n:=2) od;unfold clD;dsimp only;generalize zbB b w ⟨a,k⟩ p=pt at *;generalize zdb w ⟨a,k⟩ pt=L at *;generalize (zct b w ⟨a,k⟩ p).2.2=q0 at *;refine bd Tryz.f266 51 [] [] fun _ _ _ _ hk=>?_;refine bx 3005 ?_;refine ab 3006 zep ?_;apply tv;refine wd zuF hso I I ⟨I,O⟩ ?_;refine bu [0] [_] znp ?_;refine ab 3007 zep ?_;refine so zhc ?_;apply tv;refine wc zgu hva I I ?_;refine ev (xaA (ι:=List (Vt)×List (Vt)×(Nat)×(Gd)) hk (fun x=>[(9,.d (.i (x.1.length:Int)))]) [20,21,22,23,24,25,26,27,28,29,30,31,32,33,34,35,36,37,38,39,40,41,42,43,44,45,46,47,48,49] (fun x=>[(900,some (.box [.d (zbP b),.d (.i (x.2.2.1:Int))])),(3007,some (.box [.d (.i pt.op),.d (.i pt.ctor),.d (.i pt.n),.d (.i pt.m),.d (.i pt.var),.d (zau pt.kids),.d (.i x.2.2.2.op),.d (.i x.2.2.2.var),.d (.i x.2.2.2.n)]))]) (fun x=>x.1++x.2.1=L/\x.2.2.1<=q0+3*x.1.length/\gdL b x.2.1 x.2.2.2 x.2.2.1=gdL b L g0 q0) (fun x=>x.2.1.length) ([],L,q0,g0) ⟨by simp,by simp,I⟩ ⟨⟨_,I,xaK ?_⟩,O⟩ ⟨?_,⟨?_,O⟩⟩ (fun x=>rfl) (fun x hg1=>?_));focus (first|rfl|(simp;done)|omega)
 iterate 2 focus (first|rfl|(rw[zhZ od od];all_goals rfl)|(rw[zh0 od od];all_goals rfl)|(rw[zh1 od];all_goals rfl))
 obtain⟨pre,rest,q,g⟩:=x;dsimp only at hg1 ⊢;refine evc [] [] ?_;apply sq<;>intro h1 h1p h1s<;>(try simp only[Q] at h1p);rcases rest with _|⟨y,rest⟩
 ·exfalso;simp_all
 have hpl:pre.length<=6:=(by have hz:=xam List.length hg1.1;simp at hz;omega);refine ixq sl36 I I I (zaE hg1.1) I (ev ?_);apply sq<;>intro h2 h2p h2s<;>(try simp only[Q] at h2p);refine Walk.call (cr:=[]) zbg (zaD (p:=q) (n:=2) hb od od) I (.some I I h2) I I (LeL.refl _) ⟨I,O⟩ I I I ?_;refine evs [] [(33,true)] ?_ ⟨⟨_,I,h2⟩,O⟩;apply sq<;>intro h3 h3p h3s<;>(try simp only[Q] at h3p);refine wd zbg (zaD (p:=q+1) (n:=2) hb od od) I I ⟨I,O⟩ ?_;refine evd [] [] (ar ?_ (by have:=hpb (q+1);constructor<;>omega));refine ixq sl36 I I I (zaE hg1.1) I (evd [] [] (wd zbg (zaD (p:=q+2) (n:=10) hb od od) I I ⟨I,O⟩ ?_));refine bu [0,1,2] [_,_,_] zff ?_;refine evd [] [] (so zby ?_);refine dr (ar ?_ (by have:=hpb (q+1);constructor<;>omega));refine xaj ((pre++[y],rest,(zbV b y g q).2,(zbV b y g q).1)) ⟨⟨(by have hz:=hg1.1;rw[<-hz];simp),⟨(by have:=zgS b y g q;simp only[xaa,xab,xak];omega),(by rw[<-hg1.2.2];simp[gdL])⟩⟩,oe,sx ⟨⟨_,I,xaK ?_⟩,O⟩ ⟨?_,⟨?_,O⟩⟩⟩;focus (first|rfl|(simp;done)|omega)
 iterate 2 focus (first|rfl|(rw[zhZ od od];all_goals rfl)|(rw[zh0 od od];all_goals rfl)|(rw[zh1 od];all_goals rfl))
 refine ar ?_ (by have:=hpb (q+1);constructor<;>omega);refine xaj ((pre++[y],rest,(zbV b y g q).2,(zbV b y g q).1)) ⟨⟨(by have hz:=hg1.1;rw[<-hz];simp),⟨(by have:=zgS b y g q;simp only[xaa,xab,xak];omega),(by rw[<-hg1.2.2];simp[gdL])⟩⟩,oe,sx ⟨⟨_,I,xaK ?_⟩,O⟩ ⟨?_,⟨?_,O⟩⟩⟩;focus (first|rfl|(simp;done)|omega)
 iterate 2 focus (first|rfl|(rw[zhZ od od];all_goals rfl)|(rw[zh0 od od];all_goals rfl)|(rw[zh1 od];all_goals rfl))
 refine sqF ?_;refine ar ?_ (by have:=hpb (q+1);constructor<;>omega);refine xaj ((pre++[y],rest,(zbV b y g q).2,(zbV b y g q).1)) ⟨⟨(by have hz:=hg1.1;rw[<-hz];simp),⟨(by have:=zgS b y g q;simp only[xaa,xab,xak];omega),(by rw[<-hg1.2.2];simp[gdL])⟩⟩,oe,sx ⟨⟨_,I,xaK ?_⟩,O⟩ ⟨?_,⟨?_,O⟩⟩⟩;focus (first|rfl|(simp;done)|omega)
 iterate 2 focus (first|rfl|(rw[zhZ od od];all_goals rfl)|(rw[zh0 od od];all_goals rfl)|(rw[zh1 od];all_goals rfl))
 have hrest:rest=[]:=by
  rcases rest with _|⟨a,b⟩
  ·rfl
  ·exfalso;have hz:=xam List.length (hg1.1);simp only[xaa,xab,xac] at hz;omega
 subst hrest;refine so zhc ?_;apply tv;refine rn [(900,some (rdB b (gdL b L g0 q0).2))] (ra zhc) (.agg (qeeeeeeeee ?_ ?_ ?_ ?_ ?_ ?_ ?_ ?_ ?_)) ⟨I,I⟩ (SubO.get ⟨.inr ?_,⟨.inl I,O⟩⟩) (zak I);rotate_left 10;all_goals (first|((first|rfl|(rw[<-hg1.2.2,gdL];all_goals rfl));done)|(first|(rw[<-hg1.2.2,gdL];all_goals rfl)|rfl))
theorem ztH {w:List Data}{t:Ty}{p:Pat} (h:isP w t p=true):zas w 10 t p=true:=by
 unfold isP at h;simp only[xad] at h;exact h.1
theorem zsF {w:List Data} (hs:WSmall w){t:Ty}{l:List Cl} (h:zaM w t l=true):pcI w t (za7 w t true l)=some l:=by
 obtain⟨a,k⟩:=t;obtain⟨htv,hl8,hcl⟩:=zd3 h;obtain⟨wv,ht,_⟩:=zcn htv;have hw:=zco hs wv;have hN:=zoM wv;have hc':∀c∈l,clOk w ⟨a,k⟩ c=true:=fun c hm=>by
  obtain⟨i,hi,rfl⟩:=List.getElem_of_mem hm;rw[<-zaV hi];exact hcl i hi
 by_cases hl:l=[]
 ·subst hl;exact zjD htv
 ·have hP:pcP (za7 w ⟨a,k⟩ true l)=l.map (za4 w ⟨a,k⟩):=by
   unfold pcP;rw[zkS];exact zn8 (by simpa using hl) (fun y hy=>by obtain⟨c,hc,rfl⟩:=List.mem_map.1 hy;exact(zeN hw hN ht (hc' c hc)).2.2.1)
  have hs:¬za7 w ⟨a,k⟩ true l=[]:=fun hs=>by
   cases l with
   |nil=>exact hl I
   |cons c r=>
    rw[za7] at hs;have:=(List.append_eq_nil_iff.1 (List.append_eq_nil_iff.1 hs).1).2;exact(zeN hw hN ht (hc' c oe)).2.2.2 this
  have hmap:(pcP (za7 w ⟨a,k⟩ true l)).map (piC w ⟨a,k⟩)=l:=by
   rw[hP,List.map_map];conv=>rhs;rw[<-List.map_id l]
   exact List.map_congr_left (fun c hc=>(zeN hw hN ht (hc' c hc)).2.1)
  rw[zjC htv hs (by rw[hP,xac];omega) (fun y hy=>by rw[hP] at hy;obtain⟨c,hc,rfl⟩:=List.mem_map.1 hy;exact(zeN hw hN ht (hc' c hc)).1),hmap,if_pos h]
theorem zoo {w:List Data} (hs:WSmall w){t:Ty}{s:Str}{l:List Cl} (h:pcI w t s=some l):zaM w t l=true/\za7 w t true l=s:=by
 obtain⟨a,k⟩:=t;rw[ztg hs] at h;unfold pcV at h;split at h
 ·cases e:pcN w ⟨a,k⟩ s (zcd s) with
  |none=>rw[e] at h;cases h
  |some r=>
   rw[e] at h;dsimp only at h;split at h
   ·rename_i hv;cases h;exact hv
   ·cases h
 ·cases h
set_option maxHeartbeats 4000000
def zeX (b:Str) (p:Nat) (s:Str) (bits:List Str):Str×Nat:=
 if s.length=0 then (s,p) else if zad b p 2=0 then (s,p+1)
 else (s.take (zad b (p+1) s.length).toNat++ofV b (p+2) bits++s.drop ((zad b (p+1) s.length).toNat+(zad b (p+3) 2).toNat),p+4)
theorem ztv {b:Str}{p:Nat}{s:Str}{bits:List Str} (h:s.length=0):zeX b p s bits=(s,p):=if_pos h
theorem ztw {b:Str}{p:Nat}{s:Str}{bits:List Str} (h:¬s.length=0) (h2:zad b p 2=0):zeX b p s bits=(s,p+1):=by unfold zeX;rw[if_neg h,if_pos h2]
theorem ztx {b:Str}{p:Nat}{s:Str}{bits:List Str} (h:¬s.length=0) (h2:¬zad b p 2=0):zeX b p s bits=(s.take (zad b (p+1) s.length).toNat++ofV b (p+2) bits++s.drop ((zad b (p+1) s.length).toNat+(zad b (p+3) 2).toNat),p+4):=by unfold zeX;rw[if_neg h,if_neg h2]
theorem zrz {b:Str}{p:Nat}{l:List Str}{m:Nat} (h1:1<=l.length) (h:∀x∈l,x.length<=m):(ofV b p l).length<=m:=by
 have:=zbo (b:=b) (p:=p) (n:=(l.length:Int)) od;exact h _ (zam od)
theorem zqE {b:Str}{p:Nat}{s:Str}{bits:List Str} (h1:1<=bits.length) (h:∀x∈bits,x.length<=10):(zeX b p s bits).1.length<=s.length+10:=by
 have h2:=zrz (b:=b) (p:=p+2) h1 h;unfold zeX;split
 ·dsimp only;omega
 split
 ·dsimp only;omega
 ·simp only[xaa,List.length_take,List.length_drop];omega
theorem zmc {b:Str}{p:Nat}{s:Str}{bits:List Str} (hb:b.length<=2000) (hp:p<=1000000) (hs:s.length<=1000000000) (h1:1<=bits.length) (h2:bits.length<=1000) (h3:∀x∈bits,x.length<=10):
  FnD Tryz.prog 73 [.ref 900 0,.d (.str s),.d (zb0 bits)] [(900,some (rdB b p))] (.d (.str (zeX b p s bits).1)) [(900,some (rdB b (zeX b p s bits).2))]:=by
 have h5:=zrz (b:=b) (p:=p+2) h1 h3;have v1:=fun h=>zbo (b:=b) (p:=p+1) (n:=(s.length:Int)) h;have v3:=zbo (b:=b) (p:=p+3) (n:=2) od;have q0:=fun h=>ztv (b:=b) (p:=p) (s:=s) (bits:=bits) h;have q1:=fun h h2=>ztw (b:=b) (p:=p) (s:=s) (bits:=bits) h h2;have q2:=fun h h2=>ztx (b:=b) (p:=p) (s:=s) (bits:=bits) h h2;generalize zeX b p s bits=z at *;have hk1:=zaD (p:=p) (n:=2) hb od od;have hk2:=zaD (p:=p+1) (n:=(s.length:Int)) hb od od;have hk4:=zaD (p:=p+3) (n:=2) hb od od;have hof:=zij (p:=p+2) (l:=bits) hb od h1 h2;generalize zad b p 2=k1 at *;generalize zad b (p+1) (s.length:Int)=k2 at *;generalize zad b (p+3) 2=k4 at *;generalize ofV b (p+2) bits=o at *;refine bd Tryz.f73 35 [27,34] [] fun _ _ _ _ hk=>?_;apply sq<;>intro h1 h1p h1s<;>(try simp only[Q,xal] at h1p);refine sqT ?_;refine rn [(900,some (rdB b z.2))] (r1 I) (.eqd ?_) ⟨I,I⟩ (SubO.get ⟨.inr ?_,⟨.inl I,O⟩⟩) (zak I);rotate_left 2;refine Walk.call (cr:=[]) zbg hk1 I (.some I I h1) I I (LeL.refl _) ⟨I,O⟩ I I I (evs [27,34] [(11,false)] ?_ ⟨⟨_,I,h1⟩,O⟩);apply sq<;>intro h3 h3p h3s<;>(try simp only[Q,xal] at h3p);refine rn [(900,some (rdB b z.2))] (r1 I) (.eqd ?_) ⟨I,I⟩ (SubO.get ⟨.inr ?_,⟨.inl I,O⟩⟩) (zak I);rotate_left 2;refine wd zbg hk2 I I ⟨I,O⟩ ?_;refine evs [27,34] [] (xbw (b:=k2.toNat) un9 .none I I I (by have:=v1 od;omega) (by have:=v1 od;omega) ?_);refine evd [27,34] [] (wd znA hof I I ⟨I,O⟩ ?_);refine xbt .none I I I oq ?_;refine evd [27,34] [] (wd zbg hk4 I I ⟨I,O⟩ ?_);refine evd [27,34] [] (ar ?_ (by have:=v1 od;constructor<;>omega));refine xbx (b:=k2.toNat+k4.toNat) un9 .none I I I (by have:=v1 od;omega) (by have:=v1 od;omega) ?_;refine xbt .none I I I oq ?_;refine evd [27,34] [] (dr (rn [(900,some (rdB b z.2))] (r1 I) (.eqd ?_) ⟨I,I⟩ (SubO.get ⟨.inr ?_,⟨.inl I,O⟩⟩) (zak I)));rotate_left 2;all_goals (first|((first|(rw[q0 od];all_goals rfl)|(rw[q1 od od];all_goals rfl)|(rw[q2 od od];all_goals rfl));done)|(first|(rw[q0 od];all_goals rfl)|(rw[q1 od od];all_goals rfl)|(rw[q2 od od];all_goals rfl)))
set_option maxHeartbeats 2000000
def clL (b:Str) (w:List Data) (t:Ty):Nat->Nat->List Cl×Nat
 |0,q=>([],q)
 |n+1,q=>((clD b w t q).1::(clL b w t n (clD b w t q).2).1,(clL b w t n (clD b w t q).2).2)
def CSm (l:List Cl):Prop:=∀c∈l,c.pat.size<=400/\c.pat.ok
theorem zq0 {b:Str}{w:List Data} (hf:Few w){t:Ty} (ht:TyIn w.length t):∀(n q:Nat),(clL b w t n q).2<=q+518*n/\(clL b w t n q).1.length=n/\CSm (clL b w t n q).1
 |0,q=>⟨by simp[clL],rfl,fun c hc=>by simp[clL] at hc⟩
 |n+1,q=>by
  have h1:=zqY (b:=b) hf ht q;have h2:=zq0 (b:=b) hf ht n (clD b w t q).2;unfold clL;refine⟨by dsimp only;omega,by simp[h2.2.1],fun c hc=>?_⟩;rcases List.mem_cons.1 hc with rfl|hc
  ·exact⟨by omega,h1.2.2⟩
  ·exact h2.2.2 c hc
theorem num6 (b:Str) (p:Nat):0<=numV b p [3,2,4,5,1,0]/\numV b p [3,2,4,5,1,0]<=5:=by
 have:=zkk (b:=b) (p:=p) (l:=[3,2,4,5,1,0]) oe;simp only[List.mem_cons,xau,or_false] at this;omega
def clS (b:Str) (w:List Data) (t:Ty) (q:Nat):List Cl×Nat:=clL b w t (numV b q [3,2,4,5,1,0]).toNat (q+1)
theorem zvd {b:Str}{w:List Data} (hf:Few w){t:Ty} (ht:TyIn w.length t) (q:Nat):(clS b w t q).2<=q+2591/\(clS b w t q).1.length<=5/\CSm (clS b w t q).1:=by
 have h:=zq0 (b:=b) hf ht (numV b q [3,2,4,5,1,0]).toNat (q+1);have h2:=num6 b q;unfold clS;exact⟨by omega,by omega,h.2.2⟩
theorem zmo {b:Str}{w:List Data} (hb:b.length<=2000) (hw:WT w) (hf:Few w){a k:Int}{p:Nat} (hp:p<=90000) (ht:TyIn w.length ⟨a,k⟩):
  FnD Tryz.prog 204 [.ref 900 0,.d (zah w),.agg [.d (.i a),.d (.i k)]] [(900,some (rdB b p))] (.d (zbu (clS b w ⟨a,k⟩ p).1)) [(900,some (rdB b (clS b w ⟨a,k⟩ p).2))]:=by
 have h6:=num6 b p;have hnu:=zbp (b:=b) (p:=p) (l:=[3,2,4,5,1,0]) hb od oe oe;have hok:=fun q=>zqY (b:=b) hf ht q;unfold clS;obtain⟨n0,hn0⟩:∃n:Nat,numV b p [3,2,4,5,1,0]=(n:Int):=⟨_,(Int.toNat_of_nonneg h6.1).symm⟩;rw[hn0] at h6 hnu ⊢;rw[Int.toNat_natCast];refine bd Tryz.f204 25 [] [] fun _ _ _ _ hk=>?_;refine bx 3005 ?_;refine ev (xbS 1 sl74 .none I I (ev (si [0,1,2,3,4,5] [_,_,_,_,_,_] zaZ tz3 ?_)));refine wd zcQ hnu I I ⟨I,O⟩ ?_;refine ev (xaA (ι:=Nat×List Cl×Nat) hk (fun x=>[(8,.d (.i (x.1:Int))),(7,.gl 1 (x.2.1.map Cl.c))]) [13,14,15,16,17,18,19,20,21,22,23] (fun x=>[(900,some (.box [.d (zbP b),.d (.i (x.2.2:Int))])),(1,some (.tok ((x.2.1.map Cl.c)).length 9))]) (fun x=>x.1<=n0/\x.2.2+518*x.1<=p+1+518*n0/\x.2.1.length+x.1<=5/\(x.2.1++(clL b w ⟨a,k⟩ x.1 x.2.2).1,(clL b w ⟨a,k⟩ x.1 x.2.2).2)=clL b w ⟨a,k⟩ n0 (p+1)) (fun x=>x.1) (n0,[],p+1) ⟨by simp,by simp,by simp;omega,by simp⟩ ⟨⟨_,I,xaK ?_⟩,⟨⟨_,I,LeA.glg ?_⟩,O⟩⟩ ⟨?_,⟨zag ?_,O⟩⟩ (fun x=>rfl) (fun x hg1=>?_));iterate 2 focus (first|rfl|omega|(simp;done)|(dsimp only;omega)|(simp;omega))
 focus (first|rfl|(simp[getH];done))
 focus (first|rfl|omega|(simp;done)|(dsimp only;omega)|(simp;omega))
 refine evc [] [] ?_;apply sq<;>intro h1 h1p h1s<;>(try simp only[Q,xal] at h1p);refine wd zu1 (zkt (p:=x.2.2) hb hw hf od ht) I I ⟨I,O⟩ ?_;refine si [0] [_] sl74 zep ?_;refine Walk.append sl74 zgm I .none I I I I (zdk I (by first|rfl|(simp;done)|(simp;omega))) (by intro y hy;simp at hy;subst hy;rfl) om om ?_;refine ev (ar (xaj ((x.1-1,x.2.1++[(clD b w ⟨a,k⟩ x.2.2).1],(clD b w ⟨a,k⟩ x.2.2).2)) ⟨⟨by dsimp only;omega,by have:=hok x.2.2;dsimp only;omega,by simp;omega,by rw[<-hg1.2.2.2];obtain⟨m,hm⟩:∃m,x.1=m+1:=⟨x.1-1,by omega⟩;dsimp only;rw[hm];simp[clL]⟩,o7,sx ⟨⟨_,I,xaK ?_⟩,⟨⟨_,I,LeA.glg ?_⟩,O⟩⟩ ⟨?_,⟨zag ?_,O⟩⟩⟩));iterate 2 focus (first|rfl|omega|(simp;done)|(dsimp only;omega)|(simp;omega))
 focus (first|rfl|(simp[getH];done))
 focus (first|rfl|omega|(simp;done)|(dsimp only;omega)|(simp;omega))
 refine rn [(900,some (rdB b (clL b w ⟨a,k⟩ n0 (p+1)).2))] (r1 I) (.gld ?_) ⟨I,I⟩ (SubO.get ⟨.inr ?_,⟨.inl I,O⟩⟩) (zak I);rotate_left 2;all_goals (first|((first|rfl|(rw[<-hg1.2.2.2,show x.1=0 by omega];simp[clL];done)|(rw[<-hg1.2.2.2,show x.1=0 by omega,clL];all_goals rfl));done)|(first|rfl|(rw[<-hg1.2.2.2,show x.1=0 by omega];simp[clL];done)|(rw[<-hg1.2.2.2,show x.1=0 by omega,clL];all_goals rfl)))
theorem zoK (b:Str) (p:Nat):TyIn (zaW b p).length (typT b p):=zkf (zjp b p).ins
def rnL (b:Str):List Cl×Nat:=clS b (zaW b 0) (typT b 0) (typV b 0).2
theorem zlk (b:Str):(rnL b).2<=2700/\(rnL b).1.length<=5/\CSm (rnL b).1:=by
 have h1:=(zpR b 0).1;have h2:=zvd (b:=b) (zfi b 0).few (zoK b 0) (typV b 0).2;unfold rnL;exact⟨by omega,h2.2⟩
theorem zg8 {b:Str} (hb:b.length<=2000):
  FnD Tryz.prog 119 [.ref 900 0] [(900,some (rdB b 0))] (.tup [.d (zah (zaW b 0)),.agg [.d (.i (typT b 0).data),.d (.i (typT b 0).index)],.d (zbu (rnL b).1),.agg [.d (.i (typV b 0).1.ctor),.d (.i (typV b 0).1.num),.d (zjx (typV b 0).1.kids)]]) [(900,some (rdB b (rnL b).2))]:=by
 have hl:=zfi b 0;have hv:=(zpR b 0).1;have hty:=zlx (p:=0) hb od;have hcl:=zmo (p:=(typV b 0).2) (a:=(typT b 0).data) (k:=(typT b 0).index) hb hl.dp.wt hl.few od (zoK b 0);rw[show clS b (zaW b 0) ⟨(typT b 0).data,(typT b 0).index⟩ (typV b 0).2=rnL b from rfl] at hcl;generalize rnL b=z at *;refine bd Tryz.f119 22 [] [] fun _ _ _ _ hk=>?_;refine ab 3003 tz38 ?_;refine ev (ab 3005 zhe ?_);apply tv;refine wd zuC hty I I ⟨I,O⟩ ?_;refine ev (ab 3007 tz38 ?_);refine ab 3008 zhe ?_;refine ev (so ty38 ?_);refine so zdX ?_;apply tv;refine wd zuM hcl I I ⟨I,O⟩ ?_;refine evd [] [] (so ty38 ?_);refine evd [] [] (so zdX ?_);refine dr ?_;focus (refine rn [(900,some (rdB b z.2))] (.cons (.tmp I) (.cons (.cellA ty38 I I I) (.cons (.tmp I) (ra zdX)))) (.tup (.cons (.eqd ?_) (.cons (.agg (qee ?_ ?_)) (.cons (.eqd ?_) (.cons (.agg (qeee ?_ ?_ ?_)) .nil))))) ⟨I,I⟩ (SubO.get ⟨.inr o8,⟨.inl I,O⟩⟩) (zak I);all_goals (first|rfl|(simp[];done)|(simp_all;done)|(simp_all;omega)|omega))
def anyC:Cl:=⟨⟨1,0,0,0,0,[]⟩,⟨0,0,0⟩⟩
def mutC (b:Str) (l:List Cl) (q:Nat):List Cl×Nat:=
 if zad b q 24=0 then (match l with
  | []=>([],q+1)
  |y::r=>(⟨y.pat,⟨numV b (q+1) [1,2,3,-1],numV b (q+2) [0,5,9],numV b (q+3) [3,10,-1]⟩⟩::r,q+4))
 else if zad b q 24=1 then (match l with
  | []=>([],q+1)
  |y::r=>(⟨(mutP b (mutP b y.pat (q+1)).1 (mutP b y.pat (q+1)).2).1,y.g⟩::r,(mutP b (mutP b y.pat (q+1)).1 (mutP b y.pat (q+1)).2).2))
 else if zad b q 24=2 then (l++List.replicate (9-l.length) anyC,q+1)
 else (l,q+1)
theorem zoh (b:Str) (p:Pat) (q:Nat):(mutP b p q).2<=q+2:=by
 unfold mutP;repeat' split
 all_goals (dsimp only;omega)
theorem zl2 {b:Str}{p:Pat}{q m:Nat} (hs:p.size<=m) (hm:m<=1000) (hok:p.ok):(mutP b p q).1.size<=m+1/\(mutP b p q).1.ok:=by
 have hv:zb7.size=1/\zb7.ok:=⟨by rw[xaV];rfl,by rw[xaU];exact⟨by simp[zb7,Pat.kids],trivial⟩⟩;refine⟨?_,(ztP od hok).2⟩;have h0:=xaV p;have same:∀a c n m' v:Int,(Pat.mk a c n m' v p.kids).size<=m+1:=fun a c n m' v=>by
  rw[xaV];show 1+Pats.size p.kids<=_;omega
 unfold mutP;split;exact same _ _ _ _ _
 split;exact same _ _ _ _ _
 split;exact same _ _ _ _ _
 split
 ·dsimp only;rw[xaV];show 1+Pats.size (p.kids++[zb7])<=_;rw[xaZ];omega
 split
 ·dsimp only;rw[xaV];show 1+Pats.size (p.kids.set 0 zb7)<=_;have:=zl9 (x:=zb7) (l:=p.kids) (i:=0);omega
 split;exact same _ _ _ _ _
 exact same _ _ _ _ _
theorem ztO {b:Str}{l:List Cl}{q:Nat} (h:CSm l) (hl:l.length<=6):(mutC b l q).2<=q+5/\(mutC b l q).1.length<=9/\∀c∈(mutC b l q).1,c.pat.size<=4000/\c.pat.ok:=by
 have hs:∀c∈l,c.pat.size<=4000/\c.pat.ok:=fun c hc=>⟨by have:=(h c hc).1;omega,(h c hc).2⟩;unfold mutC;split
 ·cases l with
  |nil=>exact⟨by simp,by simp,by simp⟩
  |cons y r=>
   simp only[xab] at hl;refine⟨by simp,by simp;omega,fun c hc=>?_⟩;rcases List.mem_cons.1 hc with rfl|hc
   ·exact hs y oe
   ·exact hs c (by simp[hc])
 split
 ·cases l with
  |nil=>exact⟨by simp,by simp,by simp⟩
  |cons y r=>
   have h1:=h y oe;have h2:=zoh b y.pat (q+1);have h3:=zoh b (mutP b y.pat (q+1)).1 (mutP b y.pat (q+1)).2;simp only[xab] at hl;refine⟨by dsimp only;omega,by simp;omega,fun c hc=>?_⟩;rcases List.mem_cons.1 hc with rfl|hc
   ·have h4:=zl2 (b:=b) (p:=y.pat) (q:=q+1) (m:=400) h1.1 od h1.2;have h5:=zl2 (b:=b) (p:=(mutP b y.pat (q+1)).1) (q:=(mutP b y.pat (q+1)).2) (m:=401) h4.1 od h4.2;exact⟨by have:=h5.1;dsimp only;omega,h5.2⟩
   ·exact hs c (by simp[hc])
 split
 ·refine⟨by simp,by simp;omega,fun c hc=>?_⟩;rcases List.mem_append.1 hc with hc|hc
  ·exact hs c hc
  ·rw[List.eq_of_mem_replicate hc];have ha:=zhs;exact⟨by show anyP.size<=_;omega,ha.2⟩
 ·exact⟨by simp,by dsimp only;omega,hs⟩
theorem zvq {b:Str}{y:Cl}{r:List Cl}{q:Nat} (h:zad b q 24=0):mutC b (y::r) q=(⟨y.pat,⟨numV b (q+1) [1,2,3,-1],numV b (q+2) [0,5,9],numV b (q+3) [3,10,-1]⟩⟩::r,q+4):=by unfold mutC;rw[if_pos h]
theorem zvr {b:Str}{y:Cl}{r:List Cl}{q:Nat} (h:zad b q 24=1):mutC b (y::r) q=(⟨(mutP b (mutP b y.pat (q+1)).1 (mutP b y.pat (q+1)).2).1,y.g⟩::r,(mutP b (mutP b y.pat (q+1)).1 (mutP b y.pat (q+1)).2).2):=by unfold mutC;rw[if_neg od,if_pos h]
theorem zvs {b:Str}{l:List Cl}{q:Nat} (h:zad b q 24=2):mutC b l q=(l++List.replicate (9-l.length) anyC,q+1):=by unfold mutC;rw[if_neg od,if_neg od,if_pos h]
theorem zvt {b:Str}{l:List Cl}{q:Nat} (h0:¬zad b q 24=0) (h1:¬zad b q 24=1) (h2:¬zad b q 24=2):mutC b l q=(l,q+1):=by unfold mutC;rw[if_neg h0,if_neg h1,if_neg h2]
theorem zsx {b:Str}{l:List Cl}{q:Nat} (h0:zad b q 24=0\/zad b q 24=1) (h:l.length=0):mutC b l q=(l,q+1):=by
 obtain rfl:=List.eq_nil_of_length_eq_zero h;unfold mutC;rcases h0 with h0|h0
 ·rw[if_pos h0]
 ·rw[if_neg od,if_pos h0]
theorem putG {y:Cl}{r:List Cl}{a b c:AV}:putC (((y::r).map Cl.c).flatten.map AV.d) 6 [a,b,c]=some ([.d (.i y.pat.op),.d (.i y.pat.ctor),.d (.i y.pat.n),.d (.i y.pat.m),.d (.i y.pat.var),.d (.sl (Pat.cs y.pat.kids)),a,b,c]++(r.map Cl.c).flatten.map .d):=by
 simp[putC]
theorem zv3 {y:Cl}{r:List Cl}{a b c d e f:AV}:putC (((y::r).map Cl.c).flatten.map AV.d) 0 [a,b,c,d,e,f]=some ([a,b,c,d,e,f,.d (.i y.g.op),.d (.i y.g.var),.d (.i y.g.n)]++(r.map Cl.c).flatten.map .d):=by
 simp[putC]
theorem zvR {y:Cl}{r:List Cl}:cutC (((y::r).map Cl.c).flatten.map AV.d) 0 6=some [.d (.i y.pat.op),.d (.i y.pat.ctor),.d (.i y.pat.n),.d (.i y.pat.m),.d (.i y.pat.var),.d (.sl (Pat.cs y.pat.kids))]:=by
 simp[cutC]
theorem zhv (l:List Cl):∀x∈l.map Cl.c,x.length=9:=by
 intro x hx;obtain⟨y,_,rfl⟩:=List.mem_map.1 hx;rfl
theorem zsb (l:List Cl) (i:Nat):(l++List.replicate i anyC).map Cl.c++[Cl.c anyC]=(l++List.replicate (i+1) anyC).map Cl.c:=by
 rw[List.replicate_succ',<-xar,xag (l₁:=l++List.replicate i anyC)];rfl
theorem zg7 {b:Str} (hb:b.length<=2000){l:List Cl}{q:Nat} (hq:q<=10000) (hl:l.length<=6) (hc:¬((zad b q 24=0\/zad b q 24=1)/\l≠[])):
  FnD Tryz.prog 198 [.ref 900 0,.d (zbu l)] [(900,some (rdB b q))] (.d (zbu (mutC b l q).1)) [(900,some (rdB b (mutC b l q).2))]:=by
 have hnil:l≠[]->zad b q 24≠0/\zad b q 24≠1:=fun h=>by
  constructor
  ·intro h2;exact hc ⟨.inl h2,h⟩
  ·intro h2;exact hc ⟨.inr h2,h⟩
 refine bd Tryz.f198 56 [] [] fun _ _ _ _ hk=>?_;refine xbS 1 sl74 .none I I (ev (Walk.append sl74 zgm I .none I I I I (zdk I o8) (by exact zhv _) om om ?_));refine ev (wd zbg (zaD (p:=q) (n:=24) hb od od) I I ⟨I,O⟩ ?_);apply tv;apply sq<;>intro h1 h1p h1s<;>(try simp only[Q,xal] at h1p);apply sq<;>intro h2 h2p h2s<;>(try simp only[Q,xal] at h2p);exfalso;have hne:l≠[]:=(fun hh=>by rw[hh] at h2p;exact absurd h2p oh);exact(hnil hne).1 od;have hz0:l.length=0:=(by have hq:=h2p;simp only[List.nil_append,xac] at hq;omega);refine rn [(900,some (rdB b (mutC b l q).2))] (r1 I) (.gld ?_) ⟨I,I⟩ (SubO.get ⟨.inr ?_,⟨.inl I,O⟩⟩) (zak I);rotate_left 2;apply sq<;>intro h3 h3p h3s<;>(try simp only[Q,xal] at h3p);apply sq<;>intro h4 h4p h4s<;>(try simp only[Q,xal] at h4p);exfalso;have hne:l≠[]:=(fun hh=>by rw[hh] at h4p;exact absurd h4p oh);exact(hnil hne).2 od;have hz0:l.length=0:=(by have hq:=h4p;simp only[List.nil_append,xac] at hq;omega);refine rn [(900,some (rdB b (mutC b l q).2))] (r1 I) (.gld ?_) ⟨I,I⟩ (SubO.get ⟨.inr ?_,⟨.inl I,O⟩⟩) (zak I);rotate_left 2;apply sq<;>intro h5 h5p h5s<;>(try simp only[Q,xal] at h5p);refine xaA (ι:=Nat) hk (fun i=>[(5,.gl 1 ((l++List.replicate i anyC).map Cl.c))]) [47,48,49,50,51,52,53,54] (fun i=>[(1,some (.tok (((l++List.replicate i anyC).map Cl.c)).length 9))]) (fun i=>i<=9-l.length/\zad b q 24=2) (fun i=>9-l.length-i) 0 ⟨by omega,by omega⟩ ⟨⟨_,I,LeA.glg ?_⟩,O⟩ ⟨zag ?_,O⟩ (fun x=>rfl) (fun i hg1=>?_);iterate 2 focus ((simp;done))
 refine evc [] [] ?_;apply sq<;>intro h6 h6p h6s<;>(try simp only[Q,xal] at h6p);refine bu [0] [_] st60 ?_;refine bu [0] [_] znp ?_;refine si [0] [_] sl74 zep ?_;refine Walk.append sl74 zgm I .none I I I I (zdk I (by(simp;done))) (by(intro y hy;simp at hy;subst hy;rfl)) om om ?_;refine ev (xaj (i+1) ⟨⟨by simp at *;omega,hg1.2⟩,o9,sx ⟨⟨_,I,LeA.glg ?_⟩,O⟩ ⟨zag ?_,O⟩⟩);iterate 2 focus (first|exact zsb l i|(simp;omega))
 refine rn [(900,some (rdB b (mutC b l q).2))] (r1 I) (.gld ?_) ⟨I,I⟩ (SubO.get ⟨.inr ?_,⟨.inl I,O⟩⟩) (zak I);rotate_left 2;refine rn [(900,some (rdB b (mutC b l q).2))] (r1 I) (.gld ?_) ⟨I,I⟩ (SubO.get ⟨.inr ?_,⟨.inl I,O⟩⟩) (zak I);rotate_left 2;all_goals (((first|(rw[zsx od od];all_goals rfl)|(rw[zvs od,show 9-l.length=i by simp at *;omega];all_goals first|rfl|(simp;done))|(rw[zvt od od od];all_goals rfl));done))
theorem zlC {b:Str} (hb:b.length<=2000){y:Cl}{r:List Cl}{q:Nat} (hq:q<=10000) (hl:(y::r).length<=6) (hc:zad b q 24=0):
  FnD Tryz.prog 198 [.ref 900 0,.d (zbu (y::r))] [(900,some (rdB b q))] (.d (zbu (mutC b (y::r) q).1)) [(900,some (rdB b (mutC b (y::r) q).2))]:=by
 have hrl:((y::r).map Cl.c).length=(r.map Cl.c).length+1:=rfl;rw[zvq hc];refine bd Tryz.f198 56 [] [999999] fun _ _ _ _ hk=>?_;refine xbU 1 sl74 .none I I (ev (xbi hk I oe sl74 zgm .none I I I I (zdk I o8) (by exact zhv _) o9 o9 ?_));refine ev (wd zbg (zaD (p:=q) (n:=24) hb od od) I I ⟨I,O⟩ ?_);apply tv;apply sq<;>intro h1 h1p h1s;apply sq<;>intro h2 h2p h2s;refine si [0,1,2,3] [_,_,_,_] zaZ tz3 ?_;refine wd zcQ (zbp (p:=q+1) (l:=[1,2,3,-1]) hb od oe oe) I I ⟨I,O⟩ ?_;refine ev (si [0,1,2] [_,_,_] zaZ tz3 ?_);refine wd zcQ (zbp (p:=q+2) (l:=[0,5,9]) hb od oe oe) I I ⟨I,O⟩ ?_;refine ev (si [0,1,2] [_,_,_] zaZ tz3 ?_);refine wd zcQ (zbp (p:=q+3) (l:=[3,10,-1]) hb od oe oe) I I ⟨I,O⟩ ?_;refine bu [0,1,2] [_,_,_] zff ?_;refine xbE (i:=0) sl74 .none I I I I (by first|(simp;done)|(simp;omega)) ?_;refine ev (Walk.store zby .none I I I I I I oe ((putG)) ?_);apply tv;refine CWp.frz hk 4 1 _ _ I I (by rw[List.nil_append,hrl];exact znM rfl rfl (zhv r)) I ?_;refine CWp.ret (rn [(900,some (rdB b (q+4)))] (r1 I) (.eqd ?_) ⟨I,I⟩ (SubO.get ⟨.inr ?_,⟨.inl I,O⟩⟩) (zak I));rotate_left 2;try simp only[Q,xal] at h2p
 exfalso;rw[List.nil_append,hrl] at h2p;omega;try simp only[Q,xal] at h1p
 exfalso;omega;all_goals (first|((rfl);done)|(rfl))
theorem zlD {b:Str} (hb:b.length<=2000){y:Cl}{r:List Cl}{q:Nat} (hq:q<=10000) (hl:(y::r).length<=6) (hsm:y.pat.size<=400/\y.pat.ok) (hc:zad b q 24=1):
  FnD Tryz.prog 198 [.ref 900 0,.d (zbu (y::r))] [(900,some (rdB b q))] (.d (zbu (mutC b (y::r) q).1)) [(900,some (rdB b (mutC b (y::r) q).2))]:=by
 have hrl:((y::r).map Cl.c).length=(r.map Cl.c).length+1:=rfl;rw[zvr hc];have h1:=zl2 (b:=b) (p:=y.pat) (q:=q+1) (m:=400) hsm.1 od hsm.2;have h2:=zoh b y.pat (q+1);have i1:=zgO hb (p:=y.pat) (q:=q+1) od hsm.2;have i2:=zgO hb (p:=(mutP b y.pat (q+1)).1) (q:=(mutP b y.pat (q+1)).2) od h1.2;generalize mutP b y.pat (q+1)=z at *;generalize mutP b z.1 z.2=z2 at *;refine bd Tryz.f198 56 [40] [999999] fun _ _ _ _ hk=>?_;refine xbU 1 sl74 .none I I (evs [40] [] (xbi hk I oe sl74 zgm .none I I I I (zdk I o8) (by exact zhv _) o9 o9 ?_));refine evs [40] [] (wd zbg (zaD (p:=q) (n:=24) hb od od) I I ⟨I,O⟩ ?_);apply tv;apply sq<;>intro h1 h1p h1s;try simp only[Q,xal] at h1p
 exfalso;omega;apply sq<;>intro h2 h2p h2s;apply sq<;>intro h3 h3p h3s;refine xbE (i:=0) sl74 .none I I I I (by first|(simp;done)|(simp;omega)) ?_;refine evs [40] [] (xbH ty60 .none I I I ((zvR)) (wd zqK i1 I I ⟨I,O⟩ ?_));refine wd zqK i2 I I ⟨I,O⟩ ?_;refine xbE (i:=0) sl74 .none I I I I (by first|(simp;done)|(simp;omega)) ?_;refine evs [40] [] (Walk.store ty60 .none I I I I I I oe ((zv3)) ?_);apply tv;refine CWp.frz hk 4 1 _ _ I I (by rw[List.nil_append,hrl];exact znM rfl rfl (zhv r)) I ?_;refine CWp.ret (rn [(900,some (rdB b z2.2))] (r1 I) (.eqd ?_) ⟨I,I⟩ (SubO.get ⟨.inr ?_,⟨.inl I,O⟩⟩) (zak I));rotate_left 2;try simp only[Q,xal] at h3p
 exfalso;rw[List.nil_append,hrl] at h3p;omega;try simp only[Q,xal] at h2p
 exfalso;omega;all_goals (first|((rfl);done)|(rfl))
theorem zku {b:Str} (hb:b.length<=2000){l:List Cl}{q:Nat} (hq:q<=10000) (hl:l.length<=6) (hs:CSm l):
  FnD Tryz.prog 198 [.ref 900 0,.d (zbu l)] [(900,some (rdB b q))] (.d (zbu (mutC b l q).1)) [(900,some (rdB b (mutC b l q).2))]:=by
 cases l with
 |nil=>exact zg7 hb hq hl (fun h=>h.2 I)
 |cons y r=>
  by_cases h0:zad b q 24=0
  ·exact zlC hb hq hl h0
  ·by_cases h1:zad b q 24=1
   ·exact zlD hb hq hl (hs y oe) h1
   ·exact zg7 hb hq hl (fun h=>by rcases h.1 with h|h;exact h0 h;exact h1 h)
set_option maxHeartbeats 4000000
theorem zqu (b:Str) (p:Nat):zaK (zaW b p) (typT b p)=true:=by
 have hv:=(zcM b p).valid;have h1:=zbo (b:=b) (p:=p+1) (n:=((zaW b p).length:Int)) (by have:=(zcM b p).one;omega);have h2:=zpv b (p+2);unfold zaK;rw[hv,Bool.true_and];unfold typT;split
 ·rfl
 ·unfold zdM zaC zeC;simp only[Bool.or_eq_true,xad,xah];right
  exact⟨⟨by omega,by omega⟩,by omega,by omega⟩
theorem zrk {b:Str}{L:List Vt}{x:Vt}{g:Gd}{q:Nat} (hx:x∈L) (hx2:x.ty.data = -1->x.ty.index=0) (hg:gdOk g L=true):gdOk (zbV b x g q).1 L=true:=by
 unfold zbV;split
 ·rename_i hd;split
  ·have h1:=zbo (b:=b) (p:=q+1) (n:=2) od;have h2:=zbo (b:=b) (p:=q+2) (n:=10) od;unfold gdOk;dsimp only;rw[if_neg od,xax (show _ from⟨by omega,by omega,by omega,by omega⟩),Bool.true_and,xah];obtain⟨v,⟨d,k⟩⟩:=x;have hd':d = -1:=hd;have hk':k=0:=hx2 hd;subst hd' hk';exact hx
  ·exact hg
 ·exact hg
theorem zrj {b:Str}{L:List Vt}:∀(l:List Vt) (g:Gd) (q:Nat),(∀x∈l,x∈L/\(x.ty.data = -1->x.ty.index=0))->gdOk g L=true->gdOk (gdL b l g q).1 L=true
 | [],g,q,_,hg=>hg
 |x::r,g,q,h,hg=>by
  unfold gdL;exact zrj r _ _ (fun y hy=>h y (by simp[hy])) (zrk (h x oe).1 (h x oe).2 hg)
theorem zqZ {b:Str}{w:List Data} (hw:WT w) (haz:AZ w){t:Ty} (ht:TyOk w.length t) (q:Nat):clOk w t (clD b w t q).1=true:=by
 have h1:=zjZ b w t q;unfold clOk;rw[xad];refine⟨h1, ?_⟩;have hv:∀x∈zdb w t (zbB b w t q),TyOk w.length x.ty:=fun x hx=>by
  rw[zhf h1] at hx;exact zkz hw haz 10 (ztH h1) ht x hx
 exact zrj (zdb w t (zbB b w t q)) g0 _ (fun x hx=>⟨hx,(hv x hx).2⟩) I
theorem zmt {b:Str}{w:List Data} (hw:WT w) (haz:AZ w){t:Ty} (ht:TyOk w.length t):∀(n q:Nat),∀c∈(clL b w t n q).1,clOk w t c=true
 |0,q,c,hc=>by simp[clL] at hc
 |n+1,q,c,hc=>by
  unfold clL at hc;rcases List.mem_cons.1 hc with rfl|hc
  ·exact zqZ hw haz ht q
  ·exact zmt hw haz ht n _ c hc
theorem zrQ (b:Str):zaM (zaW b 0) (typT b 0) (rnL b).1=true:=by
 have hl:=(zlk b).2.1;have hs:=(zcM b 0).small;have tv:=zqu b 0;obtain⟨wv,_,_⟩:=zcn tv;have hc:∀c∈(rnL b).1,clOk (zaW b 0) (typT b 0) c=true:=zmt (zco hs wv) (zoL wv) (ztp tv) _ _;exact zo2 tv od (fun i hi=>hc _ (zam hi))
def fcV (w:List Data) (a k:Int) (l:List Cl):Str:=if zaM w ⟨a,k⟩ l=true then za7 w ⟨a,k⟩ true l else []
theorem zhz {w:List Data}{a k:Int}{l:List Cl} (h:zaM w ⟨a,k⟩ l=true):fcV w a k l=za7 w ⟨a,k⟩ true l:=if_pos h
theorem znZ {w:List Data}{a k:Int}{l:List Cl} (h:zaM w ⟨a,k⟩ l=false):fcV w a k l=[]:=if_neg (by rw[h];simp)
theorem zlR {w:List Data}{t:Ty}{c:Cl} (h:clOk w t c=true):c.pat.size<=60:=by
 have h1:=(zc2 h).1;unfold isP at h1;simp only[xad,xah] at h1;omega
theorem zhT {w:List Data}{t:Ty}{l:List Cl} (h:zaM w t l=true):∀c∈l,clOk w t c=true:=fun c hm=>by
 obtain⟨i,hi,rfl⟩:=List.getElem_of_mem hm;rw[<-zaV hi];exact(zd3 h).2.2 i hi
theorem zjS {w:List Data} (hs:WSmall w){a k:Int}{l:List Cl} (h:zaM w ⟨a,k⟩ l=true):(za7 w ⟨a,k⟩ true l).length<=10000:=by
 obtain⟨tv,hl8,_⟩:=zd3 h;obtain⟨wv,ht,_⟩:=zcn tv;have hw:=zco hs wv;have hb:=zgQ wv;have hc:=zhT h;have hx:∀x∈l.map (za4 w ⟨a,k⟩),x.length<=700:=fun x hx=>by
  obtain⟨c,hcm,rfl⟩:=List.mem_map.1 hx;have h1:=zc2 (hc c hcm);have h2:=zdx hw hb 10 h1.2.1 ht;have h3:=zlR (hc c hcm);have h4:=zdf c.g.var;have h5:=zbY c.g.n;unfold za4;split
  ·simp only[xaa,xab,xak];omega
  split
  ·simp only[xaa,xab,xak];omega
  ·omega
 have hj:=zgV (sep:=[47]) hx;rw[znO];rw[xac] at hj;have:l.length*(700+[(47:UInt8)].length)<=8*701:=xav _ hl8;omega
theorem zoV {w:List Data} (hs:WSmall w){a k:Int}{s:Str}:ClsOk ((pcI w ⟨a,k⟩ s).getD []):=by
 cases h:pcI w ⟨a,k⟩ s with
 |none=>exact⟨by simp,by simp⟩
 |some l=>
  show ClsOk l
  cases htv:zaK w ⟨a,k⟩ with
  |false=>rw[zon htv] at h;cases h
  |true=>
   obtain⟨wv,ht,_⟩:=zcn htv;have hA:=zik hs wv;have hv:=(zoo hs h).1;have h8:=(zd3 hv).2.1;refine⟨by omega,fun c hc=>?_⟩;by_cases hsn:s=[]
   ·subst hsn;rw[zjD htv] at h;obtain rfl:=Option.some.inj h;simp at hc
   ·by_cases hm:8<(pcP s).length
    ·rw[zom htv hsn hm] at h;cases h
    ·by_cases hg:∀y∈pcP s,zdC w ⟨a,k⟩ y=false
     ·rw[zjC htv hsn hm hg] at h;split at h
      ·obtain rfl:=Option.some.inj h;obtain⟨y,_,rfl⟩:=List.mem_map.1 hc;exact(zjB hA 10 (t:=⟨a,k⟩) ⟨(cutB 32 y).1,false⟩ ht).1
      ·cases h
     ·obtain⟨y,hy⟩:=Classical.not_forall.1 hg;obtain⟨hy1,hy2⟩:=Classical.not_imp.1 hy;rw[zpx htv hsn hy1 (by simpa using hy2)] at h;cases h
theorem zeJ {w:List Data} (hs:WSmall w){a k:Int}{l:List Cl} (hl:ClsOk l):FnD Tryz.prog 46 [.d (zah w),.agg [.d (.i a),.d (.i k)],.d (zbu l)] [] (.d (.str (fcV w a k l))) []:=by
 have hv:=zdA hs (a:=a) (k:=k) hl;cases h:zaM w ⟨a,k⟩ l with
 |false=>
  rw[h] at hv;rw[znZ h];refine bd Tryz.f46 16 [] [] fun _ _ _ _ hk=>?_;refine bx 3004 ?_;refine ev (wc zkP hv I I ?_);refine ev ?_;apply sq<;>intro h1 h1p h1s<;>(try simp only[Q] at h1p);focus (refine rq ?_;all_goals (first|rfl|(simp[h1s,h1p];done)|(simp_all;done)|(simp_all;omega)|omega))
  exfalso;simp at *
 |true=>
  rw[h] at hv;rw[zhz h];obtain⟨tv,hl8,_⟩:=zd3 h;obtain⟨wv,ht,_⟩:=zcn tv;have hc:=zhT h;have htx:=ziw (zco hs wv) (zgQ wv) (a:=a) (k:=k) ht hl8 hc hl.2 (fun c hm=>by have:=zlR (hc c hm);omega);refine bd Tryz.f46 16 [] [] fun _ _ _ _ hk=>?_;refine bx 3004 ?_;refine ev (wc zkP hv I I ?_);refine ev ?_;apply sq<;>intro h1 h1p h1s<;>(try simp only[Q] at h1p);exfalso;simp at *;refine wc zuh htx I I ?_;refine ev ?_;focus (refine rq ?_;all_goals (first|rfl|(simp[h1s,h1p];done)|(simp_all;done)|(simp_all;omega)|omega))
theorem zhE {w:List Data} (hs:WSmall w){a k:Int}{l:List Cl} (hl:ClsOk l) (hz:ClsSz l):FnD Tryz.prog 49 [.d (zah w),.agg [.d (.i a),.d (.i k)],.d (zbu l)] [] (.d (.str (fcV w a k l))) []:=by
 have hv:=zdD hs (a:=a) (k:=k) hl hz;cases h:zaM w ⟨a,k⟩ l with
 |false=>
  rw[h] at hv;rw[znZ h];refine bd Tryz.f49 16 [] [] fun _ _ _ _ hk=>?_;refine bx 3004 ?_;refine ev (wc zhS hv I I ?_);refine ev ?_;apply sq<;>intro h1 h1p h1s<;>(try simp only[Q] at h1p);focus (refine rq ?_;all_goals (first|rfl|(simp[h1s,h1p];done)|(simp_all;done)|(simp_all;omega)|omega))
  exfalso;simp at *
 |true=>
  rw[h] at hv;rw[zhz h];have hc:=zhT h;have htx:=zfe hs (a:=a) (k:=k) hl (fun c hm=>by have:=zlR (hc c hm);omega) h;refine bd Tryz.f49 16 [] [] fun _ _ _ _ hk=>?_;refine bx 3004 ?_;refine ev (wc zhS hv I I ?_);refine ev ?_;apply sq<;>intro h1 h1p h1s<;>(try simp only[Q] at h1p);exfalso;simp at *;refine wc ziJ htx I I ?_;refine ev ?_;focus (refine rq ?_;all_goals (first|rfl|(simp[h1s,h1p];done)|(simp_all;done)|(simp_all;omega)|omega))
def cvW (b:Str):List Data:=(mutW b (rnL b).2 (zaW b 0)).1
def cvL (b:Str):List Cl:=(mutC b (rnL b).1 (mutW b (rnL b).2 (zaW b 0)).2).1
theorem zvh (b:Str):ClsOk (cvL b)/\ClsSz (cvL b):=by
 have h:=zlk b;have h2:=(ztO (b:=b) (q:=(mutW b (rnL b).2 (zaW b 0)).2) h.2.2 od).2;exact⟨⟨by have:=h2.1;unfold cvL;omega,fun c hc=>(h2.2 c hc).2⟩,fun c hc=>by have:=(h2.2 c hc).1;omega⟩
theorem zq4 (b:Str):WSmall (cvW b):=zqe b 0 _
theorem zgL {b:Str} (hb:b.length<=1000000000000):
  FnD Tryz.prog 109 [.d (zbP b)] [] (.tup [.d (zah (cvW (b.take 2000))),.agg [.d (.i (typT (b.take 2000) 0).data),.d (.i (typT (b.take 2000) 0).index)],.d (zbu (cvL (b.take 2000)))]) []:=by
 have hop:=zg5 hb;have hb2:(b.take 2000).length<=2000:=by rw[List.length_take];omega
 generalize b.take 2000=e at *;have ho:=zcM e 0;have hr:=zlk e;have hbd:=ztR e (rnL e).2 (zaW e 0);have hty:=zg8 hb2;have hmw:=zkr (p:=(rnL e).2) hb2 od ho.small ho.one;have hmu:=zku hb2 (l:=(rnL e).1) (q:=(mutW e (rnL e).2 (zaW e 0)).2) od od hr.2.2;rw[show(mutC e (rnL e).1 (mutW e (rnL e).2 (zaW e 0)).2).1=cvL e from rfl] at hmu;rw[show(mutW e (rnL e).2 (zaW e 0)).1=cvW e from rfl] at hmw;generalize (mutC e (rnL e).1 (mutW e (rnL e).2 (zaW e 0)).2).2=q2 at *;generalize (mutW e (rnL e).2 (zaW e 0)).2=q1 at *;generalize cvL e=l1 at *;generalize cvW e=w1 at *;generalize rnL e=z at *;refine bd Tryz.f109 26 [] [] fun _ _ _ _ hk=>?_;refine ab 3003 tz38 ?_;refine ev (Walk.call (cr:=[900]) zsX hop I .none I I (LeL.refl _) O I oo og ?_);refine ev (wd zqG hty I I ⟨I,O⟩ ?_);refine ev (ab 3007 tz38 ?_);refine ab 3009 zhe ?_;refine ev (so ty38 ?_);refine ev (so zdX ?_);apply tv;refine wd zuq hmw I I ⟨I,O⟩ ?_;refine evd [] [] (wd zuH hmu I I ⟨I,O⟩ ?_);refine evd [] [] (so ty38 ?_);refine evd [] [] (dr ?_);focus (refine rn0 (.cons (.tmp I) (rc ty38)) (.tup (.cons (.eqd ?_) (.cons (.agg (qee ?_ ?_)) (qe ?_))));all_goals (first|rfl|(simp[];done)|(simp_all;done)|(simp_all;omega)|omega))
theorem zgh {b:Str} (hb:b.length<=1000000000000):
  FnD Tryz.prog 45 [.d (zbP b)] [] (.tup [.d (zah (cvW (b.take 2000))),.agg [.d (.i (typT (b.take 2000) 0).data),.d (.i (typT (b.take 2000) 0).index)],.d (zbu (cvL (b.take 2000)))]) []:=by
 have hd:=zgL hb;refine bd Tryz.f45 10 [] [] fun _ _ _ _ hk=>?_;refine ab 3003 tz38 ?_;refine ev (wc zug hd I I ?_);refine ev (so ty38 ?_);refine ev ?_;focus (refine rn0 (.cons (.tmp I) (rc ty38)) (.tup (.cons (.eqd ?_) (.cons (.agg (qee ?_ ?_)) (qe ?_))));all_goals (first|rfl|(simp[];done)|(simp_all;done)|(simp_all;omega)|omega))
theorem zgM {b:Str} (hb:b.length<=1000000000000):∃s:Str,s.length<=100000/\
  FnD Tryz.prog 52 [.d (zbP b)] [] (.tup [.d (zah (zaW (b.take 2000) 0)),.agg [.d (.i (typT (b.take 2000) 0).data),.d (.i (typT (b.take 2000) 0).index)],.d (.str s)]) []:=by
 have hop:=zg5 hb;have hb2:(b.take 2000).length<=2000:=by rw[List.length_take];omega
 generalize b.take 2000=e at *;have ho:=zcM e 0;have hr:=zlk e;have hv:=zrQ e;have hty:=zg8 hb2;have htx:=zfe ho.small (a:=(typT e 0).data) (k:=(typT e 0).index) (l:=(rnL e).1) ⟨by omega,fun c hc=>(hr.2.2 c hc).2⟩ (fun c hc=>by have:=(hr.2.2 c hc).1;omega) hv;have hlt:=zjS ho.small (a:=(typT e 0).data) (k:=(typT e 0).index) hv;generalize hS:za7 (zaW e 0) ⟨(typT e 0).data,(typT e 0).index⟩ true (rnL e).1=s0 at *;have hbe:=zmc (b:=e) (p:=(rnL e).2) (s:=s0) (bits:=[[],[47],[32],[95],[97,60,51],[40],[49]]) hb2 od od oh oh oh;have hbl:=zqE (b:=e) (p:=(rnL e).2) (s:=s0) (bits:=[[],[47],[32],[95],[97,60,51],[40],[49]]) oh oh;refine⟨_,Nat.le_trans hbl od, ?_⟩;generalize zeX e (rnL e).2 s0 [[],[47],[32],[95],[97,60,51],[40],[49]]=z at *;clear hS hv;refine bd Tryz.f52 28 [] [] fun _ _ _ _ hk=>?_;refine ab 3003 tz38 ?_;refine ev (Walk.call (cr:=[900]) zsX hop I .none I I (LeL.refl _) O I oo og ?_);refine ev (wd zqG hty I I ⟨I,O⟩ ?_);refine ev (ab 3007 tz38 ?_);refine ab 3009 zhe ?_;refine ev (so ty38 ?_);refine ev (so zdX ?_);apply tv;refine wc ziJ htx I I ?_;refine si [0,1,2,3,4,5,6] [_,_,_,_,_,_,_] sl84 tz9 ?_;refine wd zvP hbe I I ⟨I,O⟩ ?_;refine evd [] [] (so ty38 ?_);refine evd [] [] (dr ?_);focus (refine rn0 (.cons (.tmp I) (rc ty38)) (.tup (.cons (.eqd ?_) (.cons (.agg (qee ?_ ?_)) (qe ?_))));all_goals (first|rfl|(simp[];done)|(simp_all;done)|(simp_all;omega)|omega))
set_option maxHeartbeats 2000000
theorem zgg {xs:List Pat}{f:Nat} (hs:xs.length<=1000000000000) (hcal:Callee Tryz.prog f)
  (hf:∀p∈xs,FnD Tryz.prog f [.agg [.d (.i p.op),.d (.i p.ctor),.d (.i p.n),.d (.i p.m),.d (.i p.var),.d (zau p.kids)],.agg [.d (.i p.op),.d (.i p.ctor),.d (.i p.n),.d (.i p.m),.d (.i p.var),.d (zau p.kids)]] [] (.d (.bool true)) []):
  FnD Tryz.prog 104 [.d (zau xs),.d (zau xs),.fn f []] [] (.d (.bool true)) []:=by
 refine bd Tryz.f104 32 [] [] fun _ _ _ _ hk=>?_;apply sq<;>intro h1 h1p h1s<;>(try simp only[Q,xaS] at h1p);exfalso;simp at h1;refine xaA (ι:=List (Pat)×List (Pat)) hk (fun x=>[(17,.d (.i (x.1.length:Int)))]) [6,7,8,9,18,19,20,21,22,23,24,25,26,27,28,29,30,31] (fun x=>[]) (fun x=>x.1++x.2=xs) (fun x=>x.2.length) ([],xs) oe ⟨⟨_,I,xaK ?_⟩,O⟩ O (fun x=>rfl) (fun x hg1=>?_);focus ((simp_all;done))
 obtain⟨pre,rest⟩:=x;dsimp only at hg1 ⊢;refine evc [] [] ?_;apply sq<;>intro h2 h2p h2s<;>(try simp only[Q,xaS] at h2p);rcases rest with _|⟨y,rest⟩
 ·exfalso;simp_all
 refine ixq sl58 I I I (xaO hg1) I (ev (ab 3008 tz60 ?_));refine ev (so ty60 ?_);apply tv;refine ixq sl58 I I I (xaO hg1) I (ev (ab 3009 tz60 ?_));refine so ty60 ?_;apply tv;refine xbr (cr:=[]) hcal (hf y (by rw[<-hg1];simp)) I .none I I I (LeL.refl _) O I I I ?_;refine ev ?_;apply sq<;>intro h3 h3p h3s<;>(try simp only[Q,xaS] at h3p);exfalso;simp at h3;refine ar (xaj ((pre++[y],rest)) ⟨(by have hz:=hg1;rw[<-hz];simp),oe,sx ⟨⟨_,I,xaK ?_⟩,O⟩ O⟩);focus ((simp_all;done))
 have hrest:rest=[]:=by
  rcases rest with _|⟨a,b⟩
  ·rfl
  ·exfalso;have hz:=xam List.length (hg1);simp only[xaa,xab,xac] at hz;omega
 subst hrest;refine rq ?_;rotate_left;all_goals (rfl)
theorem zeK:∀(n:Nat){p:Pat},p.size<=n->p.ok->FnD Tryz.prog 40 [.agg [.d (.i p.op),.d (.i p.ctor),.d (.i p.n),.d (.i p.m),.d (.i p.var),.d (zau p.kids)],.agg [.d (.i p.op),.d (.i p.ctor),.d (.i p.n),.d (.i p.m),.d (.i p.var),.d (zau p.kids)]] [] (.d (.bool true)) []
 |0,p,h,_=>by rw[xaV] at h;omega
 |n+1,p,h,hok=>by
  rw[xaV] at h;rw[xaU] at hok;refine bd Tryz.f40 45 [] [] fun _ _ _ _ hk=>?_;refine bx 3002 ?_;refine bx 3003 ?_;refine ev ?_;apply sq<;>intro h1 h1p h1s<;>(try simp only[Q] at h1p);apply sq<;>intro h2 h2p h2s<;>(try simp only[Q] at h2p);apply sq<;>intro h3 h3p h3s<;>(try simp only[Q] at h3p);apply sq<;>intro h4 h4p h4s<;>(try simp only[Q] at h4p);apply sq<;>intro h5 h5p h5s<;>(try simp only[Q] at h5p);refine Walk.call (cr:=[]) zuf (zgg hok.1 zsT (fun x hx=>zeK n (by have:=xaY hx;omega) (xaX hok.2 x hx))) I (.some I I h5) I I (LeL.refl _) O I I I ?_;refine evs [] [(38,true)] ?_ ⟨⟨_,I,h5⟩,O⟩;focus (refine rq ?_;all_goals ((simp_all;done)))
  focus (refine rq ?_;all_goals ((simp_all;done)))
  refine sqF ?_;focus (refine rq ?_;all_goals ((simp_all;done)))
  refine sqF ?_;refine sqF ?_;focus (refine rq ?_;all_goals ((simp_all;done)))
  refine sqF ?_;refine sqF ?_;refine sqF ?_;focus (refine rq ?_;all_goals ((simp_all;done)))
  refine sqF ?_;refine sqF ?_;refine sqF ?_;refine sqF ?_;focus (refine rq ?_;all_goals ((simp_all;done)))
theorem zgK {xs:List Cl}{f:Nat} (hs:xs.length<=1000000000000) (hcal:Callee Tryz.prog f)
  (hf:∀c∈xs,FnD Tryz.prog f [.agg [.d (.i c.pat.op),.d (.i c.pat.ctor),.d (.i c.pat.n),.d (.i c.pat.m),.d (.i c.pat.var),.d (zau c.pat.kids),.d (.i c.g.op),.d (.i c.g.var),.d (.i c.g.n)],.agg [.d (.i c.pat.op),.d (.i c.pat.ctor),.d (.i c.pat.n),.d (.i c.pat.m),.d (.i c.pat.var),.d (zau c.pat.kids),.d (.i c.g.op),.d (.i c.g.var),.d (.i c.g.n)]] [] (.d (.bool true)) []):
  FnD Tryz.prog 117 [.d (zbu xs),.d (zbu xs),.fn f []] [] (.d (.bool true)) []:=by
 refine bd Tryz.f117 32 [] [] fun _ _ _ _ hk=>?_;apply sq<;>intro h1 h1p h1s<;>(try simp only[Q] at h1p);exfalso;simp at h1;refine xaA (ι:=List (Cl)×List (Cl)) hk (fun x=>[(17,.d (.i (x.1.length:Int)))]) [6,7,8,9,18,19,20,21,22,23,24,25,26,27,28,29,30,31] (fun x=>[]) (fun x=>x.1++x.2=xs) (fun x=>x.2.length) ([],xs) oe ⟨⟨_,I,xaK ?_⟩,O⟩ O (fun x=>rfl) (fun x hg1=>?_);focus ((simp_all;done))
 obtain⟨pre,rest⟩:=x;dsimp only at hg1 ⊢;refine evc [] [] ?_;apply sq<;>intro h2 h2p h2s<;>(try simp only[Q] at h2p);rcases rest with _|⟨y,rest⟩
 ·exfalso;simp_all
 refine ixq sl74 I I I (zaE hg1) I (ev (ab 3008 zep ?_));refine ev (so zhc ?_);apply tv;refine ixq sl74 I I I (zaE hg1) I (ev (ab 3009 zep ?_));refine so zhc ?_;apply tv;refine xbr (cr:=[]) hcal (hf y (by rw[<-hg1];simp)) I .none I I I (LeL.refl _) O I I I ?_;refine ev ?_;apply sq<;>intro h3 h3p h3s<;>(try simp only[Q] at h3p);exfalso;simp at h3;refine ar (xaj ((pre++[y],rest)) ⟨(by have hz:=hg1;rw[<-hz];simp),oe,sx ⟨⟨_,I,xaK ?_⟩,O⟩ O⟩);focus ((simp_all;done))
 have hrest:rest=[]:=by
  rcases rest with _|⟨a,b⟩
  ·rfl
  ·exfalso;have hz:=xam List.length (hg1);simp only[xaa,xab,xac] at hz;omega
 subst hrest;refine rq ?_;rotate_left;all_goals (rfl)
theorem zhA {c:Cl} (hc:c.pat.ok):FnD Tryz.prog 118 [.agg [.d (.i c.pat.op),.d (.i c.pat.ctor),.d (.i c.pat.n),.d (.i c.pat.m),.d (.i c.pat.var),.d (zau c.pat.kids),.d (.i c.g.op),.d (.i c.g.var),.d (.i c.g.n)],.agg [.d (.i c.pat.op),.d (.i c.pat.ctor),.d (.i c.pat.n),.d (.i c.pat.m),.d (.i c.pat.var),.d (zau c.pat.kids),.d (.i c.g.op),.d (.i c.g.var),.d (.i c.g.n)]] [] (.d (.bool true)) []:=by
 refine bd Tryz.f118 17 [15] [] fun _ _ _ _ hk=>?_;refine bx 3002 ?_;refine bx 3003 ?_;refine evs [15] [] (wc zsT (zeK _ (Nat.le_refl _) hc) I I ?_);refine evs [15] [] ?_;apply sq<;>intro h1 h1p h1s<;>(try simp only[Q] at h1p);refine xbz zs5 (.some I I h1) I I I I I (evs [15] [(10,true)] ?_ ⟨⟨_,I,h1⟩,O⟩);focus (refine rq ?_;all_goals (first|rfl|(simp[h1s,h1p];done)|(simp_all;done)|(simp_all;omega)|omega))
 focus (refine rq ?_;all_goals (first|rfl|(simp[h1s,h1p];done)|(simp_all;done)|(simp_all;omega)|omega))
theorem zeI {l:List Cl} (hl:ClsOk l):FnD Tryz.prog 51 [.d (zbu l),.d (zbu l)] [] (.d (.bool true)) []:=by
 refine bd Tryz.f51 8 [] [] fun _ _ _ _ hk=>?_;refine wc zun (zgK hl.1 zuo (fun c hc=>zhA (hl.2 c hc))) I I ?_;refine ev (rq ?_);rotate_left;all_goals (rfl)
set_option maxHeartbeats 4000000
theorem zhB {b c:Str} (hb:b.length<=1000000000000) (hc:c.length<=1000000000000):FnD Tryz.prog 8 [.d (zbP b),.d (zbP c)] [] (.d (.bool true)) []:=by
 have hd1:=zgh hb;obtain⟨tx,htl,hd2⟩:=zgM hc;have hw1:=zq4 (b.take 2000);have hw2:=(zcM (c.take 2000) 0).small;have hp:=zvh (b.take 2000);generalize cvW (b.take 2000)=w1 at *;generalize typT (b.take 2000) 0=t1 at *;generalize cvL (b.take 2000)=l1 at *;generalize zaW (c.take 2000) 0=w2 at *;generalize typT (c.take 2000) 0=t2 at *;have f1:=zeJ hw1 (a:=t1.data) (k:=t1.index) hp.1;have f2:=zhE hw1 (a:=t1.data) (k:=t1.index) hp.1 hp.2;have f3:=zdA hw1 (a:=t1.data) (k:=t1.index) hp.1;have f4:=zdD hw1 (a:=t1.data) (k:=t1.index) hp.1 hp.2;have hfl:(fcV w1 t1.data t1.index l1).length<=1048576:=by
  cases h:zaM w1 ⟨t1.data,t1.index⟩ l1 with
  |false=>rw[znZ h];simp
  |true=>rw[zhz h];have:=zjS hw1 h;omega
 have f5:=ze2 hw1 (a:=t1.data) (k:=t1.index) hfl;have f6:=zeI hp.1;have g1:=ze2 hw2 (a:=t2.data) (k:=t2.index) (s:=tx) od;have g2:=zih hw2 (a:=t2.data) (k:=t2.index) (s:=tx) od;rw[<-ztg hw2] at g2;have hqk:=zoV hw2 (a:=t2.data) (k:=t2.index) (s:=tx);have g3:=zeI hqk;have g4:=zeJ hw2 (a:=t2.data) (k:=t2.index) hqk;have hfin:(pcI w2 ⟨t2.data,t2.index⟩ tx).isSome=true->fcV w2 t2.data t2.index ((pcI w2 ⟨t2.data,t2.index⟩ tx).getD [])=tx:=fun h=>by
  obtain⟨q,hq⟩:=Option.isSome_iff_exists.1 h;obtain⟨h1,h2⟩:=zoo hw2 hq;rw[hq];show fcV w2 t2.data t2.index q=tx
  rw[zhz h1,h2]
 generalize (pcI w2 ⟨t2.data,t2.index⟩ tx).getD []=q2 at *;generalize (pcI w2 ⟨t2.data,t2.index⟩ tx).isSome=o2 at *;have hbl:((b.map zhR).length:Int)=b.length:=by simp
 have hcl:((c.map zhR).length:Int)=c.length:=by simp
 cases hv:zaM w1 ⟨t1.data,t1.index⟩ l1 with
 |false=>
  rw[hv] at f3 f4;generalize fcV w1 t1.data t1.index l1=s1 at *;generalize (pcI w1 ⟨t1.data,t1.index⟩ s1).getD []=q1 at *;generalize (pcI w1 ⟨t1.data,t1.index⟩ s1).isSome=o1 at *;refine bd Tryz.f8 115 [60,97] [] fun _ _ _ _ hk=>?_;apply sq<;>intro h1 h1p h1s<;>(try simp only[Q,xal] at h1p);refine sqT ?_;refine rq ?_;rotate_left;apply sq<;>intro h3 h3p h3s<;>(try simp only[Q,xal] at h3p);refine rq ?_;rotate_left;refine wc zsU hd1 I I ?_;refine evs [60,97] [] (ab 3006 tz38 ?_);refine evs [60,97] [] (so ty38 ?_);refine evs [60,97] [] (wc zkN f1 I I ?_);refine evs [60,97] [] (wc zkO f5 I I ?_);refine evs [60,97] [] (wc zkP f3 I I ?_);refine evs [60,97] [] (wc zsV f2 I I ?_);refine evs [60,97] [] ?_;apply sq<;>intro h4 h4p h4s<;>(try simp only[Q,xal] at h4p);refine sqT ?_;refine sqT ?_;refine rq ?_;rotate_left;refine Walk.call (cr:=[]) zhS f4 I (.some I I h4) I I (LeL.refl _) O I I I (Walk.neB un4 (.some I I h4) I I I (evs [60,97] [(54,false)] ?_ ⟨⟨_,I,h4⟩,O⟩));apply sq<;>intro h6 h6p h6s<;>(try simp only[Q,xal] at h6p);refine sqT ?_;refine rq ?_;rotate_left;apply sq<;>intro h8 h8p h8s<;>(try simp only[Q,xal] at h8p);exfalso;simp_all;refine sqF ?_;refine wc zpX hd2 I I ?_;refine evs [60,97] [] (ab 3013 tz38 ?_);refine evs [60,97] [] (so ty38 ?_);refine evs [60,97] [] (wc zkO g1 I I ?_);refine evs [60,97] [] (wc zpY g2 I I ?_);refine evs [60,97] [] (Walk.eqB un4 .none I I I (evs [60,97] [] ?_));apply sq<;>intro h10 h10p h10s<;>(try simp only[Q,xal] at h10p);refine Walk.call (cr:=[]) znh g3 I (.some I I h10) I I (LeL.refl _) O I I I (evs [60,97] [(98,true)] ?_ ⟨⟨_,I,h10⟩,O⟩);apply sq<;>intro h11 h11p h11s<;>(try simp only[Q,xal] at h11p);apply sq<;>intro h12 h12p h12s<;>(try simp only[Q,xal] at h12p);refine rq ?_;rotate_left;refine Walk.call (cr:=[]) zkN g4 I (.some I I h12) I I (LeL.refl _) O I I I (evs [60,97] [(103,true),(106,false)] ?_ ⟨⟨_,I,h11⟩,⟨_,I,h12⟩,O⟩);refine rq ?_;rotate_left;refine rq ?_;rotate_left;refine sqF ?_;refine rq ?_;rotate_left;all_goals (first|rfl|(simp_all;done))
 |true=>
  rw[hv] at f3 f4;have e5:pcI w1 ⟨t1.data,t1.index⟩ (fcV w1 t1.data t1.index l1)=some l1:=by rw[zhz hv];exact zsF hw1 hv
  rw[e5] at f5;generalize fcV w1 t1.data t1.index l1=s1 at *;clear e5;refine bd Tryz.f8 115 [60,97] [] fun _ _ _ _ hk=>?_;apply sq<;>intro h1 h1p h1s<;>(try simp only[Q,xal] at h1p);refine sqT ?_;refine rq ?_;rotate_left;apply sq<;>intro h3 h3p h3s<;>(try simp only[Q,xal] at h3p);refine rq ?_;rotate_left;refine wc zsU hd1 I I ?_;refine evs [60,97] [] (ab 3006 tz38 ?_);refine evs [60,97] [] (so ty38 ?_);refine evs [60,97] [] (wc zkN f1 I I ?_);refine evs [60,97] [] (wc zkO f5 I I ?_);refine evs [60,97] [] (wc zkP f3 I I ?_);refine evs [60,97] [] (wc zsV f2 I I ?_);refine evs [60,97] [] ?_;apply sq<;>intro h4 h4p h4s<;>(try simp only[Q,xal] at h4p);refine sqT ?_;refine sqT ?_;refine rq ?_;rotate_left;refine Walk.call (cr:=[]) zhS f4 I (.some I I h4) I I (LeL.refl _) O I I I (Walk.neB un4 (.some I I h4) I I I (evs [60,97] [(54,false)] ?_ ⟨⟨_,I,h4⟩,O⟩));apply sq<;>intro h6 h6p h6s<;>(try simp only[Q,xal] at h6p);refine sqT ?_;refine rq ?_;rotate_left;apply sq<;>intro h8 h8p h8s<;>(try simp only[Q,xal] at h8p);apply sq<;>intro h9 h9p h9s<;>(try simp only[Q,xal] at h9p);refine sqT ?_;refine rq ?_;rotate_left;refine Walk.call (cr:=[]) znh f6 I (.some I I h9) I I (LeL.refl _) O I I I (evs [60,97] [(62,false),(64,true),(67,false)] ?_ ⟨⟨_,I,h6⟩,⟨_,I,h8⟩,⟨_,I,h9⟩,O⟩);apply sq<;>intro h11 h11p h11s<;>(try simp only[Q,xal] at h11p);refine rq ?_;rotate_left;refine wc zpX hd2 I I ?_;refine evs [60,97] [] (ab 3013 tz38 ?_);refine evs [60,97] [] (so ty38 ?_);refine evs [60,97] [] (wc zkO g1 I I ?_);refine evs [60,97] [] (wc zpY g2 I I ?_);refine evs [60,97] [] (Walk.eqB un4 .none I I I (evs [60,97] [] ?_));apply sq<;>intro h12 h12p h12s<;>(try simp only[Q,xal] at h12p);refine Walk.call (cr:=[]) znh g3 I (.some I I h12) I I (LeL.refl _) O I I I (evs [60,97] [(98,true)] ?_ ⟨⟨_,I,h12⟩,O⟩);apply sq<;>intro h13 h13p h13s<;>(try simp only[Q,xal] at h13p);apply sq<;>intro h14 h14p h14s<;>(try simp only[Q,xal] at h14p);refine rq ?_;rotate_left;refine Walk.call (cr:=[]) zkN g4 I (.some I I h14) I I (LeL.refl _) O I I I (evs [60,97] [(103,true),(106,false)] ?_ ⟨⟨_,I,h13⟩,⟨_,I,h14⟩,O⟩);refine rq ?_;rotate_left;refine rq ?_;rotate_left;refine sqF ?_;refine rq ?_;rotate_left;refine sqF ?_;refine wc zpX hd2 I I ?_;refine evs [60,97] [] (ab 3013 tz38 ?_);refine evs [60,97] [] (so ty38 ?_);refine evs [60,97] [] (wc zkO g1 I I ?_);refine evs [60,97] [] (wc zpY g2 I I ?_);refine evs [60,97] [] (Walk.eqB un4 .none I I I (evs [60,97] [] ?_));apply sq<;>intro h16 h16p h16s<;>(try simp only[Q,xal] at h16p);refine Walk.call (cr:=[]) znh g3 I (.some I I h16) I I (LeL.refl _) O I I I (evs [60,97] [(98,true)] ?_ ⟨⟨_,I,h16⟩,O⟩);apply sq<;>intro h17 h17p h17s<;>(try simp only[Q,xal] at h17p);apply sq<;>intro h18 h18p h18s<;>(try simp only[Q,xal] at h18p);refine rq ?_;rotate_left;refine Walk.call (cr:=[]) zkN g4 I (.some I I h18) I I (LeL.refl _) O I I I (evs [60,97] [(103,true),(106,false)] ?_ ⟨⟨_,I,h17⟩,⟨_,I,h18⟩,O⟩);refine rq ?_;rotate_left;refine rq ?_;rotate_left;refine sqF ?_;refine rq ?_;rotate_left;all_goals (first|rfl|(simp_all;done))
end Go.Proofs.YtmkipahfpaacgaaGreatDoor
namespace Go.Proofs.YtmkipahfpaacgaaGreatDoor
open Go Go.ChangeShapes Go.WideShapes Go.ChangeAt Go.RowKit
set_option linter.unusedSimpArgs false
set_option linter.unusedVariables false
set_option linter.unusedVariables false
def FW (W:World) (b:Nat):Nat:=match W.heap[b]? with
 |some (.cells cs _ _)=>cs.size
 |_=>0
theorem FW_cell {W:World}{b o:Nat}{v:Value} (h:W.cell? ⟨b,o,none⟩=some v):o<FW W b:=by
 unfold World.cell? at h;unfold FW;simp only at h;split at h
 ·rename_i c t fr hb;simp only[hb];simp only[Option.isSome_none,Bool.false_eq_true,if_false] at h;exact(Array.getElem?_eq_some_iff.1 h).1
 ·cases h
theorem FW_top {W:World}{b:Nat} (h:W.heap.size<=b):FW W b=0:=by
 unfold FW;rw[Array.getElem?_eq_none h]
structure RelL (W:World) (xs:List D) (cs:List Value):Prop where
 len:xs.length=cs.length
 rel:∀i (h1:i<xs.length) (h2:i<cs.length),RelD (FW W) W xs[i] cs[i]
theorem RelL.append {W:World}{xs ys:List D}{cs ds:List Value} (h:RelL W xs cs) (k:RelL W ys ds):RelL W (xs++ys) (cs++ds):=by
 refine⟨by simp[h.len,k.len],fun i h1 h2=>?_⟩;by_cases hi:i<xs.length
 ·rw[List.getElem_append_left hi,List.getElem_append_left (by rw[<-h.len];exact hi)];exact h.rel i hi (by rw[<-h.len];exact hi)
 ·have hl:=h.len;rw[List.getElem_append_right od,List.getElem_append_right od];have e:i-xs.length=i-cs.length:=by omega
  have h1':i-xs.length<ys.length:=by simp only[xaa] at h1;omega
  have h2':i-cs.length<ds.length:=by simp only[xaa] at h2;omega
  have:=k.rel (i-xs.length) h1' od;simp only[e] at this ⊢;exact this
def Dec (P:Program) (W:World) (n:Nat) (t:TypeId){α:Type} (f:α->List D) (m:α->Nat) (R:α->Prop):Prop:=
 ∀(H:Type) (enc:TypeId×Value->H) (cs:List Value) (x:DataW H×List MemPlace),DataW.trod enc P W 0 (fun _=>true) true n t cs=some x->
  ∃a,RelL W (f a) cs/\m a+1<=Rows.uptoBulk x.1/\R a
section
variable {P:Program}{W:World}{n:Nat}{t:TypeId}
theorem Dec.zero {α:Type}{f:α->List D}{m:α->Nat}{R:α->Prop}:Dec P W 0 t f m R:=fun H enc cs x h=>by simp[DataW.trod] at h
theorem Dec.map {α β:Type}{f:α->List D}{m:α->Nat}{R:α->Prop}{f':β->List D}{m':β->Nat}{R':β->Prop} (g:α->β) (h:Dec P W n t f m R)
  (h1:∀a,f' (g a)=f a) (h2:∀a,m' (g a)<=m a) (h3:∀a,R a->R' (g a)):Dec P W n t f' m' R':=fun H enc cs x hx=>by
 obtain⟨a,q1,q2,q3⟩:=h H enc cs x hx;exact⟨g a,by rw[h1];exact q1,by have:=h2 a;omega,h3 a q3⟩
theorem RelL.one {x:D}{v:Value} (h:RelD (FW W) W x v):RelL W [x] [v]:=
 ⟨rfl,fun i h1 h2=>by
  have:i=0:=by simp at h1;omega
  subst this;exact h⟩
theorem Dec.int {k:IntKind} (ht:P.underlying t=some (.int k)):Dec P W n t (fun z:Int=>[.int k z]) (fun _=>0) (fun z=>(Lit.int k z).wf=true):=fun H enc cs x h=>by
 obtain⟨z,rfl,rfl,hw⟩:=DataW.trod_int ht h;exact⟨z,.one (.int k z),by simp[Rows.uptoBulk],hw⟩
theorem Dec.bool (ht:P.underlying t=some .bool):Dec P W n t (fun z:Bool=>[.bool z]) (fun _=>0) (fun _=>True):=fun H enc cs x h=>by
 obtain⟨z,rfl,rfl⟩:=DataW.trod_bool ht h;exact⟨z,.one (.bool z),by simp[Rows.uptoBulk],trivial⟩
theorem Dec.str (ht:P.underlying t=some .string):Dec P W n t (fun s:Str=>[.str s]) (fun s=>s.length) (fun _=>True):=fun H enc cs x h=>by
 obtain⟨s,rfl,rfl,hw⟩:=DataW.trod_string ht h;exact⟨s.data.toList,.one (by have:=RelD.str (F:=FW W) (w:=W) s.data.toList;simpa using this),by simp[Rows.uptoBulk],trivial⟩
def sumM {α:Type} (m:α->Nat):List α->Nat
 | []=>0
 |a::r=>m a+1+sumM m r
theorem zkx {α:Type} (m:α->Nat):∀l:List α,l.length<=sumM m l
 | []=>by simp[sumM]
 |a::r=>by have:=zkx m r;simp only[sumM,xab];omega
theorem zjR {α β:Type}{Q:Nat->α->β->Prop}:∀(l:List β) (o:Nat),(∀i (h:i<l.length),∃a,Q (o+i) a l[i])->∃zs:List α,zs.length=l.length/\∀i (h:i<l.length) (h':i<zs.length),Q (o+i) zs[i] l[i]
 | [],o,_=>⟨[],rfl,fun i h=>by simp at h⟩
 |b::r,o,h=>by
  obtain⟨a,ha⟩:=h 0 oe;obtain⟨zs,h1,h2⟩:=zjR (Q:=Q) r (o+1) (fun i hi=>by
   have:=h (i+1) om;rw[show o+1+i=o+(i+1) by omega];simpa using this)
  refine⟨a::zs,by simp[h1],fun i hi hi'=>?_⟩;cases i with
  |zero=>exact ha
  |succ i=>
   have:=h2 i (by simpa using hi) (by simpa using hi');rw[show o+1+i=o+(i+1) by omega] at this;simpa using this
theorem znx {H α:Type}{m:α->Nat}:∀ {zs:List α}{xs:List (DataW H)},zs.length=xs.length->(∀i (h:i<zs.length) (h':i<xs.length),m zs[i]+1<=Rows.uptoBulk xs[i])->sumM m zs<=Rows.uptoBulkAll xs
 | [],[],_,_=>by simp[sumM,Rows.uptoBulkAll]
 |a::zs,x::xs,hl,h=>by
  have h0:=h 0 oe oe;have ih:=znx (m:=m) (zs:=zs) (xs:=xs) (by simpa using hl) (fun i h1 h2=>by
   have:=h (i+1) om om;simpa using this)
  simp only[sumM,Rows.uptoBulkAll];simp only[List.getElem_cons_zero] at h0;omega
 | [],_::_,hl,_=>by simp at hl
 |_::_,[],hl,_=>by simp at hl
theorem Dec.sl {α:Type}{f:α->List D}{m:α->Nat}{R:α->Prop}{e:TypeId}{k:Nat} (ht:P.underlying t=some (.slice e)) (hc:P.cellsOf e=k+1) (hk:∀a,(f a).length=k+1) (he:Dec P W n e f m R):
  Dec P W (n+1) t (fun l:List α=>[.sl (l.map f)]) (fun l=>sumM m l) (fun l=>∀a∈l,R a):=fun H enc cs x h=>by
 rcases DataW.trod_slice ht h with ⟨rfl,rfl⟩|⟨a,len,cap,elems,rest,n',hn,rfl,rfl,_,hcap,_,hlen,hel,_,_⟩
 ·exact⟨[],.one .nil,by simp[sumM,Rows.uptoBulk],fun a h=>by simp at h⟩
 obtain rfl:n=n':=by omega
 have each:∀i (hi:i<elems.length),∃y,(∃cs,W.cells? 0 (a.add (i*(k+1))) (k+1)=some cs/\RelL W (f y) cs)/\m y+1<=Rows.uptoBulk (elems[i]).1/\R y:=by
  intro i hi;have:=hel i od;rw[hc,xan hi,Option.bind_eq_some_iff] at this;obtain⟨cs,h1,h2⟩:=this;obtain⟨y,h3,h4,h5⟩:=he H enc cs _ h2;exact⟨y,⟨cs,h1,h3⟩,h4,h5⟩
 obtain⟨zs,hal,has⟩:=zjR (Q:=fun i y (el:DataW H×List MemPlace)=>(∃cs,W.cells? 0 (a.add (i*(k+1))) (k+1)=some cs/\RelL W (f y) cs)/\m y+1<=Rows.uptoBulk el.1/\R y) elems 0 (fun i hi=>by simpa using each i hi);refine⟨zs,.one ?_, ?_,fun y hy=>?_⟩
 ·by_cases h0:zs=[]
  ·subst h0;have hz:len=0:=by simp at hal;omega
   subst hz;obtain⟨b,o,s⟩:=a;cases s with
   |none=>exact .sl [] 0 b o cap (fun _=>undef) oe oe (fun n hn=>by simp at hn) (fun i hi=>by simp at hi)
   |some s=>exact .emp b o s cap
  ·have hpos:0<zs.length:=List.length_pos_iff.2 h0;obtain⟨⟨cs0,hc0,hr0⟩,_⟩:=has 0 od hpos;have hspot:a.spot=none:=by
    have h1:=(World.cells?_some hc0).2.2 0 od;have h2:0<cs0.length:=by have:=(World.cells?_some hc0).2.1;omega
    simp only[Nat.add_zero,Nat.zero_mul,Addr.add,if_true,xan h2] at h1;unfold World.cell? at h1;split at h1
    ·cases hs:a.spot with
     |none=>rfl
     |some s=>simp[hs] at h1
    ·cases h1
   obtain⟨b,o,s⟩:=a;simp only at hspot;subst hspot;have hlen':(zs.map f).length=len:=by simp;omega
   have hmulk:∀i j,i<zs.length->j<k+1->i*(k+1)+j<zs.length*(k+1):=fun i j hi hj=>by
    have:(i+1)*(k+1)<=zs.length*(k+1):=xav _ od;rw[Nat.add_mul,Nat.one_mul] at this;omega
   have cellAt:∀i (hi:i<zs.length) j (hj:j<(f zs[i]).length),∃v,W.cell? ⟨b,o+(i*(k+1)+j),none⟩=some v/\RelD (FW W) W ((f zs[i])[j]) v:=fun i hi j hj=>by
    obtain⟨⟨cs,hc1,hr1⟩,_⟩:=has i od hi;have hjk:j<k+1:=by have:=hk zs[i];omega
    obtain⟨_,q1,q2⟩:=World.cells?_some hc1;have q3:=q2 j hjk;rw[xan od] at q3;refine⟨cs[j], ?_,hr1.rel j hj od⟩;rw[<-q3];congr 1
    simp only[Nat.zero_add,Addr.add];split<;>split<;>simp_all<;>omega
   have hv:((zs.map f).length,cap)=(len,cap):=by rw[hlen']
   have goal:RelD (FW W) W (.sl (zs.map f)) (.slice (some ⟨b,o,none⟩) (zs.map f).length cap):=by
    refine .sl _ (k+1) b o cap (fun q=>(W.cell? ⟨b,o+q,none⟩).getD undef) (fun y hy=>?_) od (fun q hq=>?_) (fun i hi j hj=>?_)
    ·obtain⟨y',_,rfl⟩:=List.mem_map.1 hy;exact hk y'
    ·have hq':q<zs.length*(k+1):=by simpa using hq
     have hi:q / (k+1)<zs.length:=Nat.div_lt_of_lt_mul (by rw[Nat.mul_comm];exact hq');have hj:q % (k+1)<k+1:=Nat.mod_lt _ od;obtain⟨v,h1,_⟩:=cellAt _ hi (q % (k+1)) (by rw[hk];exact hj);rw[Nat.div_add_mod'] at h1;exact⟨FW_cell h1,by rw[h1];rfl⟩
    ·have hi':i<zs.length:=by simpa using hi
     simp only[List.getElem_map] at hj ⊢;obtain⟨v,h1,h2⟩:=cellAt i hi' j hj;show RelD (FW W) W _ ((W.cell? ⟨b,o+(i*(k+1)+j),none⟩).getD undef)
     rw[h1];exact h2
   rw[hlen'] at goal;exact goal
 ·have:=znx (m:=m) (zs:=zs) (xs:=elems.map (·.1)) (by simp[hal]) (fun i h1 h2=>by
   have:=(has i (by simpa using h2) h1).2.1;simpa using this)
  simp only[Rows.uptoBulk];omega
 ·obtain⟨i,hi,rfl⟩:=List.getElem_of_mem hy;exact(has i od hi).2.2
def DecF (P:Program) (W:World) (n o K:Nat) (fs:List Field){α:Type} (f:α->List D) (m:α->Nat) (R:α->Prop):Prop:=
 ∀(H:Type) (enc:TypeId×Value->H) (cs:List Value) (xs:List (DataW H×List MemPlace)),cs.length=K->xs.length=fs.length->
  (∀(i:Nat) (fd:Field),fs[i]?=some fd->DataW.trod enc P W 0 (fun _=>true) true n fd.type ((cs.drop fd.offset).take (P.cellsOf fd.type))=xs[i]?)->
  ∃a,RelL W (f a) (cs.drop o)/\m a<=Rows.uptoBulkAll (xs.map (·.1))/\R a
theorem DecF.nil {K:Nat}:DecF P W n K K [] (fun _:Unit=>[]) (fun _=>0) (fun _=>True):=fun H enc cs xs h1 h2 _=>
 ⟨(),by rw[List.drop_of_length_le od];exact⟨rfl,fun i h=>by simp at h⟩,by simp,trivial⟩
theorem DecF.cons {α β:Type}{f:α->List D}{m:α->Nat}{R:α->Prop}{f2:β->List D}{m2:β->Nat}{R2:β->Prop}{o K k:Nat}{fd:Field}{fs:List Field}
  (h1:Dec P W n fd.type f m R) (ho:fd.offset=o) (hc:P.cellsOf fd.type=k) (h2:DecF P W n (o+k) K fs f2 m2 R2):
  DecF P W n o K (fd::fs) (fun p:α×β=>f p.1++f2 p.2) (fun p=>m p.1+1+m2 p.2) (fun p=>R p.1/\R2 p.2):=fun H enc cs xs hK hl hx=>by
 cases xs with
 |nil=>simp at hl
 |cons y ys=>
  have h0:=hx 0 fd oe;simp only[List.getElem?_cons_zero] at h0;rw[ho,hc] at h0;obtain⟨a,q1,q2,q3⟩:=h1 H enc _ _ h0;obtain⟨b,r1,r2,r3⟩:=h2 H enc cs ys hK (by simpa using hl) (fun i fd' hi=>by
   have:=hx (i+1) fd' (by simpa using hi);simpa using this)
  refine⟨(a,b), ?_, ?_,q3,r3⟩
  ·have:cs.drop o=(cs.drop o).take k++cs.drop (o+k):=by
    rw[<-List.drop_drop,List.take_append_drop]
   rw[this];exact q1.append r1
  ·simp only[xaf,Rows.uptoBulkAll];omega
theorem Dec.struct {α:Type}{f:α->List D}{m:α->Nat}{R:α->Prop}{fs:Array Field} (ht:P.underlying t=some (.struct fs)){K:Nat} (hK:P.cellsOf t=K) (h:DecF P W n 0 K fs.toList f m R):
  Dec P W (n+1) t f m R:=fun H enc cs x hx=>by
 obtain⟨xs,n',hn,rfl,hl,hxl,hf⟩:=DataW.trod_struct ht hx;obtain rfl:n=n':=by omega
 obtain⟨a,q1,q2,q3⟩:=h H enc cs xs od (by simpa using hxl) (fun i fd hi=>hf i fd (by simpa using hi));refine⟨a,by simpa using q1, ?_,q3⟩;simp only[Rows.uptoBulk];omega
end
section
variable {P:Program}{W:World}{base:Nat}{t:TypeId}{v:Value}{H:Type}{enc:TypeId×Value->H}{d:DataW H}{ps:List MemPlace}
theorem zqC {α:Type}{e:TypeId}{f:α->List D}{m:α->Nat}{R:α->Prop}{k:Nat} (ht:P.underlying t=some (.slice e)) (hc:P.cellsOf e=k+1) (hk:∀a,(f a).length=k+1) (hd:∀n,Dec P W n e f m R)
  (hval:Value.okWide P W .any base t v) (h:DataW.Trod enc P W 0 (fun _=>true) true t v d ps):
  ∃l:List α,(∀G T,G.F=FW W->RelA G T W (.d (.sl (l.map f))) v)/\sumM m l+1<=Rows.uptoBulk d/\∀a∈l,R a:=by
 obtain⟨n,hn⟩:=h;cases n with
 |zero=>simp[DataW.trod] at hn
 |succ n=>
  obtain⟨l,h1,h2,h3⟩:=Dec.sl ht hc hk (hd n) H enc _ _ hn;have hcells:v.cells.toList=[v]:=by
   cases v with
   |agg cs=>simp only[Value.okWide,ht,Cell.okWide,Cell.ok] at hval
   |_=>rfl
  rw[hcells] at h1;exact⟨l,fun G T hG=> .d (by rw[hG];simpa using h1.rel 0 oe oe),h2,h3⟩
end
section
variable {P:Program}{H:Type}{enc:TypeId×Value->H}
theorem ziu (hl:laidOutB P=true){W W':World} (hb:Below W.heap.size W W'):∀ {ts:List TypeId}{vs:List Value}{ds:List (DataW H)}{ps:List MemPlace},
  (∀t∈ts,P.readableRec t=true/\t<P.types.size)->DataW.TrodAll enc P W 0 (fun _=>true) true ts vs ds ps->(∀x∈ps,x.block<W.heap.size)->
  DataW.TrodAll enc P W' 0 (fun b=>decide (b<W.heap.size)) true ts vs ds ps
 | [],[],[],ps,_,h,_=>h
 |t::ts,v::vs,d::ds,ps,hr,h,hlt=>by
  obtain⟨p,q,h1,h2,rfl⟩:=h;exact⟨p,q,Below.trod hl (hr t oe).1 (hr t oe).2 h1 hb (fun x hx=>hlt x (by simp[hx])),
   ziu hl hb (fun t ht=>hr t (by simp[ht])) h2 (fun x hx=>hlt x (by simp[hx])),rfl⟩
theorem zsu {f:Func}{s:ChangeSpec}{W W':World}{args:Array Value}{ds gs:List (DataW H)}{before:List MemPlace}{tb:TypeId}
  (hW:DataW.Whole enc P f.params.toList s.vars false W args.toList ds gs before) (hvars:s.vars=[]) (hrt:f.resultTypes = #[tb]) (htb:P.underlying tb=some .bool)
  (hs:s.fn H (ds++gs)={ results:=[.lit (.bool true)],args:=ds }) (hl:laidOutB P=true) (hr:∀t∈f.params.toList,P.readableRec t=true/\t<P.types.size)
  (hb:Below W.heap.size W W'):s.post enc P f false true false false W args (.bool true) W':=by
 have hlt:∀p∈before,p.block<W.heap.size:=fun p hp=>hW.lt p hp;have hW0:=hW;obtain⟨p,q,hA,hV,rfl,hfz,_⟩:=hW;rw[hvars] at hV;cases gs with
 |cons g gs=>exact hV.elim
 |nil=>
  have hq:q=[]:=hV;subst hq;simp only[xaq] at *;refine⟨ds,[],p,[],p,[],by simpa [hvars] using hW0, ?_, ?_, ?_,World.keptBut_mono (fun x hx=>⟨hx,.inr (.inl hx)⟩) (hb.frame (·∈p)),fun h=>by cases h⟩
  ·simp only[xaq,hs,hrt];exact trodAll_cons_mk (shut_bool htb _) trodAll_mk0
  ·simp only[xaq,hs];exact ziu hl hb hr hA hlt
  ·simp only[hvars,xaq,hs];rfl
theorem zrr {f:FuncId}{avs:List AV}{W:World}{args:Array Value}{r:AV} (hf:FnD P f avs [] r [])
  (hargs:∀G T,G.F=FW W->AllR G T W avs args):Calls P f args W fun e W'=>∃v G',e = .returned v/\RelA G' (fun _=>none) W' r v/\Below W.heap.size W W':=by
 let G:Gh:={ F:=FW W,loc:=fun _=>[] }
 refine(hf G W args ⟨hargs G _ rfl,fun id r h=>(by simp[getH] at h),fun id id' h=>(by simp[getH] at h),fun b hb=>FW_top hb⟩).mono ?_;rintro e W' ⟨v,r',hp',G',rfl,⟨rfl,rfl⟩,h⟩
 exact⟨v,G',rfl,h.res,⟨h.frm.os,h.frm.tape,h.frm.output,h.frm.size,fun b hb=>(h.frm.block b hb (by simp[zds])).1⟩⟩
theorem RelA.bool_true {G:Gh}{T:TokF}{w:World}{v:Value} (h:RelA G T w (.d (.bool true)) v):v = .bool true:=by
 cases h with|d h=>cases h;rfl
theorem zse {H:Type}{l:List (DataW H)} (hk:Rows.uptoSmall H l=true):Rows.uptoBulkAll l<=1048576:=xas hk
end
set_option maxRecDepth 100000
theorem zo9 (W:World) (n:Nat):Dec Tryz.prog W n 5 (fun x:UInt8=>[D.int .u8 (x.toNat:Int)]) (fun _=>0) (fun _=>True):=fun H enc cs x hx=>by
 obtain⟨z,q1,q2,q3⟩:=Dec.int (k:= .u8) Tryz.underlying5 H enc cs x hx;have h:0<=z/\z<=255:=by
  simp[Lit.wf,IntKind.wrap,IntKind.signed,IntKind.bits,IntKind.min,IntKind.max] at q3;omega
 refine⟨UInt8.ofNat z.toNat, ?_,q2,trivial⟩;have e:(((UInt8.ofNat z.toNat).toNat:Nat):Int)=z:=by
  rw[UInt8.toNat_ofNat',Nat.mod_eq_of_lt od];omega
 show RelL W [D.int .u8 (((UInt8.ofNat z.toNat).toNat:Nat):Int)] cs
 rw[e];exact q1
end Go.Proofs.YtmkipahfpaacgaaGreatDoor
