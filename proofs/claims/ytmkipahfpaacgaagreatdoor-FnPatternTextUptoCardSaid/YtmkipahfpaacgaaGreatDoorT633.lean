/-
  THE ABSTRACT WALK AND THE WALKS, part 3 of 5.
-/
import Derived.Test.YtmkipahfpaacgaaGreatDoorT632
namespace Go.Proofs.YtmkipahfpaacgaaGreatDoor
open Go
set_option linter.unusedSimpArgs false
set_option linter.unusedVariables false
set_option maxRecDepth 100000
set_option maxHeartbeats 2000000
def cutL (c:UInt8):Str->Str->List Str
 |cur,[]=>[cur]
 |cur,x::r=>if x=c then cur::cutL c [] r else cutL c (cur++[x]) r
theorem zdI (c:UInt8):∀(s cur:Str),(cutL c cur s).length<=s.length+1
 | [],cur=>by simp[cutL]
 |x::r,cur=>by
  simp only[cutL];split
  ·have:=zdI c r [];simp only[xab];omega
  ·have:=zdI c r (cur++[x]);simp only[xab];omega
theorem zha (c:UInt8):∀(s cur:Str),1<=(cutL c cur s).length
 | [],cur=>by simp[cutL]
 |x::r,cur=>by
  simp only[cutL];split
  ·simp
  ·exact zha c r (cur++[x])
theorem zg9 (c:UInt8):∀(s cur:Str) (t:Str),t∈cutL c cur s->t.length<=cur.length+s.length
 | [],cur,t,h=>by simp only[cutL,List.mem_singleton] at h;subst h;simp
 |x::r,cur,t,h=>by
  simp only[cutL] at h;split at h
  ·rcases List.mem_cons.1 h with rfl|h
   ·simp
   ·have:=zg9 c r [] t h;simp only[xab,xak] at this ⊢;omega
  ·have:=zg9 c r (cur++[x]) t h;simp only[xaa,xab,xak] at this ⊢;omega
theorem za9 {s:Str}{i:Nat} (h:i<s.length):s[i]?=some (nth s i):=by rw[za1 h];exact xan h
theorem zi6 {s:Str}{f i:Nat} (hf:f<=i) (h:i<s.length):(s.take (i+1)).drop f=(s.take i).drop f++[nth s i]:=by
 rw[List.take_add_one,xan h,List.drop_append_of_le_length oo,za1 h];rfl
theorem zi7 {s:Str}{f i:Nat}:(s.drop f).take (i-f)=(s.take i).drop f:=by rw[List.drop_take]
theorem zcb {s:Str}{c:UInt8} (hs:s.length<=1000000000000):FnD Tryz.prog 74 [.d (.str s),.d (.int .u8 (c.toNat:Int))] [] (.d (zcJ (cutL c [] s))) []:=by
 have hu:∀a:UInt8,((a.toNat:Int)=(c.toNat:Int))↔a=c:=fun a=>by rw[xal];exact UInt8.toNat_inj
 refine bd Tryz.f74 36 [] [] fun _ _ _ _ hk=>?_;refine xbR 1 sl84 .none I I (ev (xaA (ι:=Nat×Nat×List Str) hk (fun x=>[(7,.d (.i (x.1:Int))),(6,.d (.i (x.2.1:Int))),(5,.gl 1 (x.2.2.map fun n=>[D.str n]))]) [9,10,11,12,13,14,15,16,17,18,19,20,21,22,23,24,25,26,27,28,29,30,31,32,33,34] (fun x=>[(1,some (.tok ((x.2.2.map fun n=>[D.str n])).length 1))]) (fun x=>x.1<=s.length+1/\x.2.2.length<=x.1/\if x.1=s.length+1 then x.2.2=cutL c [] s else x.2.1<=x.1/\x.2.2++cutL c ((s.take x.1).drop x.2.1) (s.drop x.1)=cutL c [] s) (fun x=>s.length+1-x.1) (0,0,[]) ⟨by simp,by simp,by rw[if_neg oe];simp⟩ ⟨⟨_,I,xaK ?_⟩,⟨⟨_,I,xaK ?_⟩,⟨⟨_,I,LeA.glg ?_⟩,O⟩⟩⟩ ⟨zag ?_,O⟩ (fun x=>rfl) (fun x hg1=>?_)));iterate 4 focus (rfl)
 refine evc [] [] ?_;apply sq<;>intro h1 h1p h1s<;>(try simp only[Q,hu] at h1p);have hne:¬x.1=s.length+1:=od;have hcond:=hg1.2.2;rw[if_neg hne] at hcond;have hle:=hcond.1;apply sq<;>intro h2 h2p h2s<;>(try simp only[Q,hu] at h2p);refine sqT ?_;refine xbx un9 .none I I I I I I od od ?_;refine si [0] [_] sl84 tz9 ?_;refine ap sl84 zz9 I I I oe oo ?_;refine ev (ar (ar ?_));refine xaj (if x.1=s.length\/nth s x.1=c then (x.1+1,x.1+1,x.2.2++[(s.take x.1).drop x.2.1]) else (x.1+1,x.2.1,x.2.2)) ⟨(by
    have hne:¬x.1=s.length+1:=by omega
    rw[if_neg hne] at hg1;obtain⟨g1,g2,g3,g4⟩:=hg1;by_cases he:x.1=s.length
    ·rw[if_pos (.inl he)];refine⟨by dsimp only;omega,by simp;omega, ?_⟩;dsimp only;rw[if_pos od,<-g4,he,List.drop_length];rfl
    ·have hlt:x.1<s.length:=by omega
     rw[zbc hlt] at g4;by_cases hc:nth s x.1=c
     ·rw[if_pos (.inr hc)];refine⟨by dsimp only;omega,by simp;omega, ?_⟩;dsimp only;rw[if_neg od];refine⟨by omega, ?_⟩;rw[<-g4,cutL,if_pos hc,xar];simp
     ·rw[if_neg (by simp[he,hc])];refine⟨by dsimp only;omega,by dsimp only;omega, ?_⟩;dsimp only;rw[if_neg od];refine⟨by omega, ?_⟩;rw[<-g4,cutL,if_neg hc,zi6 g3 hlt]),(by split<;>(dsimp only;omega)),sx ⟨⟨_,rfl,xaK ?_⟩,⟨⟨_,rfl,xaK ?_⟩,⟨⟨_,rfl,LeA.glg ?_⟩,trivial⟩⟩⟩ ⟨zag ?_,trivial⟩⟩
 iterate 4 focus ((split<;>first|(simp[zi7];done)|(simp;done)|(exfalso;simp_all;done)|(exfalso;simp_all;omega)))
 refine xbD un9 (.some I I h2) I I I I (za9 od) ?_;refine evs [] [(19,false)] ?_ ⟨⟨_,I,h2⟩,O⟩;apply sq<;>intro h4 h4p h4s<;>(try simp only[Q,hu] at h4p);refine xbx un9 .none I I I I I I od od ?_;refine si [0] [_] sl84 tz9 ?_;refine ap sl84 zz9 I I I oe oo ?_;refine ev (ar (ar ?_));refine xaj (if x.1=s.length\/nth s x.1=c then (x.1+1,x.1+1,x.2.2++[(s.take x.1).drop x.2.1]) else (x.1+1,x.2.1,x.2.2)) ⟨(by
    have hne:¬x.1=s.length+1:=by omega
    rw[if_neg hne] at hg1;obtain⟨g1,g2,g3,g4⟩:=hg1;by_cases he:x.1=s.length
    ·rw[if_pos (.inl he)];refine⟨by dsimp only;omega,by simp;omega, ?_⟩;dsimp only;rw[if_pos od,<-g4,he,List.drop_length];rfl
    ·have hlt:x.1<s.length:=by omega
     rw[zbc hlt] at g4;by_cases hc:nth s x.1=c
     ·rw[if_pos (.inr hc)];refine⟨by dsimp only;omega,by simp;omega, ?_⟩;dsimp only;rw[if_neg od];refine⟨by omega, ?_⟩;rw[<-g4,cutL,if_pos hc,xar];simp
     ·rw[if_neg (by simp[he,hc])];refine⟨by dsimp only;omega,by dsimp only;omega, ?_⟩;dsimp only;rw[if_neg od];refine⟨by omega, ?_⟩;rw[<-g4,cutL,if_neg hc,zi6 g3 hlt]),(by split<;>(dsimp only;omega)),sx ⟨⟨_,rfl,xaK ?_⟩,⟨⟨_,rfl,xaK ?_⟩,⟨⟨_,rfl,LeA.glg ?_⟩,trivial⟩⟩⟩ ⟨zag ?_,trivial⟩⟩
 iterate 4 focus ((split<;>first|(simp[zi7];done)|(simp;done)|(exfalso;simp_all;done)|(exfalso;simp_all;omega)))
 refine ar ?_;refine xaj (if x.1=s.length\/nth s x.1=c then (x.1+1,x.1+1,x.2.2++[(s.take x.1).drop x.2.1]) else (x.1+1,x.2.1,x.2.2)) ⟨(by
    have hne:¬x.1=s.length+1:=by omega
    rw[if_neg hne] at hg1;obtain⟨g1,g2,g3,g4⟩:=hg1;by_cases he:x.1=s.length
    ·rw[if_pos (.inl he)];refine⟨by dsimp only;omega,by simp;omega, ?_⟩;dsimp only;rw[if_pos od,<-g4,he,List.drop_length];rfl
    ·have hlt:x.1<s.length:=by omega
     rw[zbc hlt] at g4;by_cases hc:nth s x.1=c
     ·rw[if_pos (.inr hc)];refine⟨by dsimp only;omega,by simp;omega, ?_⟩;dsimp only;rw[if_neg od];refine⟨by omega, ?_⟩;rw[<-g4,cutL,if_pos hc,xar];simp
     ·rw[if_neg (by simp[he,hc])];refine⟨by dsimp only;omega,by dsimp only;omega, ?_⟩;dsimp only;rw[if_neg od];refine⟨by omega, ?_⟩;rw[<-g4,cutL,if_neg hc,zi6 g3 hlt]),(by split<;>(dsimp only;omega)),sx ⟨⟨_,rfl,xaK ?_⟩,⟨⟨_,rfl,xaK ?_⟩,⟨⟨_,rfl,LeA.glg ?_⟩,trivial⟩⟩⟩ ⟨zag ?_,trivial⟩⟩
 iterate 4 focus ((split<;>first|rfl|(exfalso;simp_all;done)|(exfalso;simp_all;omega)))
 refine rn0 (r1 I) (.gld ?_);rotate_left;all_goals (have e:x.1=s.length+1:=od;rw[if_pos e] at hg1;rw[hg1.2.2])
def zoo (names:List Str) (s:Str):Int:=if s=[73] then -1 else if s∈names then idxF (fun n=>decide (n=s)) names 0 else -2
theorem zkX {names:List Str}{s:Str} (hn:names.length<=1000000000000):FnD Tryz.prog 232 [.d (zcJ names),.d (.str s)] [] (.d (.i (zoo names s))) []:=by
 refine bd Tryz.f232 21 [] [] fun _ _ _ _ hk=>?_;apply sq<;>intro h1 h1p h1s<;>(try simp only[Q] at h1p);refine rq ?_;rotate_left;refine xaA (ι:=List (Str)×List (Str)) hk (fun x=>[(5,.d (.i (x.1.length:Int)))]) [4,8,9,10,11,12,13,14,15,16,17,18,19,20] (fun x=>[]) (fun x=>x.1++x.2=names/\s∉x.1/\idxF (fun n=>decide (n=s)) x.2 x.1.length=idxF (fun n=>decide (n=s)) names 0) (fun x=>x.2.length) ([],names) ⟨by simp,by simp,I⟩ ⟨⟨_,I,xaK ?_⟩,O⟩ O (fun x=>rfl) (fun x hg1=>?_);focus (rfl)
 obtain⟨pre,rest⟩:=x;dsimp only at hg1 ⊢;refine evc [] [] ?_;apply sq<;>intro h2 h2p h2s<;>(try simp only[Q] at h2p);rcases rest with _|⟨y,rest⟩
 ·exfalso;simp_all
 refine ixq sl84 I I I (zaI hg1.1) I (ev ?_);apply sq<;>intro h3 h3p h3s<;>(try simp only[Q] at h3p);refine rq ?_;rotate_left;refine ar (xaj ((pre++[y],rest)) ⟨⟨(by have hz:=hg1.1;rw[<-hz];simp),⟨(by have h1:=hg1.2.1;simp_all[eq_comm]),(by rw[<-hg1.2.2];simp_all[idxF])⟩⟩,oe,sx ⟨⟨_,I,xaK ?_⟩,O⟩ O⟩);focus ((simp;done))
 have hrest:rest=[]:=by
  rcases rest with _|⟨a,b⟩
  ·rfl
  ·exfalso;have hz:=xam List.length (hg1.1);simp only[xaa,xab,xac] at hz;omega
 subst hrest;refine rq ?_;rotate_left;all_goals (refine xam D.i ?_;unfold zoo;by_cases hz:s=[73]<;>by_cases hm:s∈names<;>simp only[hz,hm,if_true,if_false];all_goals first|(exfalso;simp_all;done)|(exfalso;apply hm;subst h3p;rw[<-hg1.1];simp;done)|(exfalso;apply hg1.2.1;rw[<-hg1.1,xaq] at hm;exact hm)|(rw[<-hg1.2.2];simp_all[idxF];done))
def zel (names:List Str) (s:Str):Ty:=
 if s=[] then ⟨-2,0⟩
 else ⟨zoo names (s.take 1),if s.drop 1=[42] then -1 else if s.length=2/\48<=(nth s 1).toNat/\(nth s 1).toNat<=57 then ((nth s 1).toNat:Int)-48 else 0⟩
theorem zjN {b:UInt8} (h1:48<=b.toNat) (h2:b.toNat<=57):IntKind.i64.wrap (IntKind.u8.wrap ((b.toNat:Int)-48))=(b.toNat:Int)-48:=by
 rw[ze3,zcZ od];omega
theorem zeS {names:List Str}{s:Str} (hn:names.length<=1000000000000) (hs:s.length<=1000000000000):
  FnD Tryz.prog 150 [.d (zcJ names),.d (.str s)] [] (.agg [.d (.i (zel names s).data),.d (.i (zel names s).index)]) []:=by
 have hlen:s≠[]->1<=s.length:=fun h=>by rcases s with _|⟨a,r⟩;exact absurd I h;simp
 refine bd Tryz.f150 39 [35] [] fun _ _ _ _ hk=>?_;refine ab 3004 tz38 ?_;apply tv;apply sq<;>intro h1 h1p h1s<;>(try simp only[Q] at h1p);refine bu [0] [_] st38 ?_;refine so ty38 ?_;apply tv;refine rn0 (ra ty38) (.agg (qee ?_ ?_));rotate_left 2;refine xbv (b:=1) un9 .none I I I I (by have:=hlen ox;omega) ?_;refine wc zsu (zkX (names:=names) (s:=s.take 1) hn) I I ?_;refine bu [0] [_] st38 ?_;refine ab 3005 tz38 ?_;refine so ty38 ?_;apply tv;refine xbw (b:=1) un9 .none I I I I (by have:=hlen ox;omega) ?_;refine evs [35] [] ?_;apply sq<;>intro h2 h2p h2s<;>(try simp only[Q] at h2p);refine so ty3 ?_;apply tv;refine so ty38 ?_;apply tv;refine rn0 (ra ty38) (.agg (qee ?_ ?_));rotate_left 2;apply sq<;>intro h3 h3p h3s<;>(try simp only[Q] at h3p);refine xbD (i:=1) un9 (.some I I h3) I I I I (za9 (by simp_all;omega)) ?_;refine evs [35] [(23,true)] ?_ ⟨⟨_,I,h3⟩,O⟩;apply sq<;>intro h4 h4p h4s<;>(try simp only[Q] at h4p);refine xbD (i:=1) un9 (.some I I h4) I I I I (za9 (by simp_all;omega)) ?_;refine evs [35] [(28,true)] ?_ ⟨⟨_,I,h4⟩,O⟩;apply sq<;>intro h5 h5p h5s<;>(try simp only[Q] at h5p);refine xbD (i:=1) un9 .none I I I I (za9 (by simp_all;omega)) ?_;refine xbW .none I I I (xbu ow un3 .none I I ?_);refine evs [35] [] (so ty3 ?_);apply tv;refine so ty38 ?_;apply tv;refine rn0 (ra ty38) (.agg (qee ?_ ?_));rotate_left 2;refine so ty38 ?_;apply tv;refine rn0 (ra ty38) (.agg (qee ?_ ?_));rotate_left 2;refine sqF ?_;refine so ty38 ?_;apply tv;refine rn0 (ra ty38) (.agg (qee ?_ ?_));rotate_left 2;refine sqF ?_;refine sqF ?_;refine so ty38 ?_;apply tv;refine rn0 (ra ty38) (.agg (qee ?_ ?_));rotate_left 2;all_goals (unfold zel;first|(rw[zjN (b:=nth s 1) od od,if_neg h1p];dsimp only;rw[if_neg h2p,if_pos ⟨by omega,by omega,by omega⟩];done)|(rw[if_pos h1p];done)|(rw[if_neg h1p];done)|(rw[if_neg h1p];dsimp only;rw[if_pos h2p];done)|(rw[if_neg h1p];dsimp only;rw[if_neg h2p,if_neg (fun hh=>by omega)];done))
def zmu (s:Str):Prop:=2<s.length/\nth s (s.length-2)=58
instance (s:Str):Decidable (zmu s):=inferInstanceAs (Decidable (_/\_))
def zfV (names:List Str) (ix:Int) (s:Str):Ctor:=
 let parts:=cutL 40 [] s
 ⟨nth parts 0,if parts.length<2\/(nth parts 1).length=0 then [] else ((cutL 44 [] ((nth parts 1).take ((nth parts 1).length-1))).take 4).map (zel names),ix⟩
def zcf (names:List Str) (s:Str):Ctor:=
 if zmu s then zfV names (((nth s (s.length-1)).toNat:Int)-48) (s.take (s.length-2)) else zfV names 0 s
theorem zfn {α β:Type} [Inhabited α]{f:α->β}{l:List α}{i:Nat} (h:i<l.length):(l.map f).take (i+1)=(l.map f).take i++[f (nth l i)]:=by
 rw[List.take_add_one,List.getElem?_map,xan h];simp[nth,List.getD,h]
theorem zlF {α:Type}{l:List α}{i:Nat} (h:i=4\/(i<=4/\l.length<=i)):l.take i=l.take 4:=by
 rcases h with rfl|⟨h1,h2⟩
 ·rfl
 ·rw[List.take_of_length_le h2,List.take_of_length_le od]
theorem zoJ {a b:UInt8}:((a.toNat:Int)=(b.toNat:Int))↔a=b:=by rw[xal];exact UInt8.toNat_inj
theorem zqc (a:UInt8):IntKind.i64.wrap (a.toNat:Int)=(a.toNat:Int):=by have:=a.toNat_lt;exact zcZ od
theorem zdJ {c:UInt8}{s:Str}{i:Nat} (h:i<(cutL c [] s).length):(nth (cutL c [] s) i).length<=s.length:=by
 have:=zg9 c s [] _ (zao h);simpa using this
theorem oq{p:Prop}(h:p:=by first|omega|(simp;omega)):p:=h
theorem zhM {names:List Str}{s:Str} (hn:names.length<=1000000000000) (hs:s.length<=1000000):
  FnD Tryz.prog 230 [.d (zcJ names),.d (.str s)] [] (.agg [.d (.str (zcf names s).name),.d (zbK (zcf names s).args),.d (.i (zcf names s).index)]) []:=by
 have hwb:=zqc (nth s (s.length-1));have hwl:=(nth s (s.length-1)).toNat_lt;by_cases hc:zmu s
 ·have hc1:=hc.1;have hct:(s.take (s.length-2)).length=s.length-2:=by rw[List.length_take];omega
  have hcl:=zdI 40 (s.take (s.length-2)) [];have hcp:=zha 40 (s.take (s.length-2)) [];have hn1:=fun h=>zdJ (c:=40) (s:=s.take (s.length-2)) (i:=1) h;have hal:=zdI 44 ((nth (cutL 40 [] (s.take (s.length-2))) 1).take ((nth (cutL 40 [] (s.take (s.length-2))) 1).length-1)) [];refine bd Tryz.f230 83 [] [2,7] fun _ _ _ _ hk=>?_;refine ab 3004 zeO ?_;apply tv;refine bu [] [] zrl ?_;refine ab 3005 zeO ?_;refine so zcs ?_;apply tv;refine xaC (xbh 11 [(20,.d (.bool true))] [10,11,12,13,14,15,16,17,18,19] ?_ ?_);refine ev ?_;apply sq<;>intro h1 h1p h1s;refine ar (xbD (i:=s.length-2) un9 (.some I I h1) I I I od (za9 od) ?_);refine evs [] [(13,true)] ?_ ⟨⟨_,I,h1⟩,O⟩;exact jn I (xaJ (by(exact xax (xam (fun z:UInt8=>(z.toNat:Int)) hc.2))));try simp only[Q,List.length_take] at h1p
  exact jn I (xaJ (by(exfalso;omega)));refine xbg ?_;apply tv;apply sq<;>intro h2 h2p h2s;refine ar (xbD (i:=s.length-1) un9 .none I I I od (za9 od) ?_);refine xbu ow un3 .none I I ?_;refine ev (ar (so ty3 ?_));apply tv;refine ar (xbv (b:=s.length-2) un9 .none I I I od od ?_);refine ev (wc zgj (zcb (s:=s.take (s.length-2)) (c:=40) oq) I I ?_);refine ev (ixq (i:=0) sl84 I I I (zam od) I ?_);refine ev (so ty9 ?_);apply tv;refine xaC (xbh 10 [(49,.d (.bool (decide ((cutL 40 [] (s.take (s.length-2))).length<2\/(nth (cutL 40 [] (s.take (s.length-2))) 1).length=0))))] [40,41,42,43,44,45,46,47,48] ?_ ?_);refine ev ?_;apply sq<;>intro h3 h3p h3s<;>(try simp only[Q,List.length_take] at h3p);exact jn I (xaJ (by(refine(xax ?_).symm;omega)));refine xbz (i:=1) sl84 (.some I I h3) I I I I (zam od) I ?_;refine evs [] [(43,false)] ?_ ⟨⟨_,I,h3⟩,O⟩;exact jn I (xaJ (by(refine decide_eq_decide.2 ?_;omega)));refine xbg ?_;apply tv;apply sq<;>intro h4 h4p h4s;refine so zcs ?_;apply tv;refine rn0 (ra zcs) (.agg (qene ?_ ?_ ?_));rotate_left 3;try simp only[Q,List.length_take] at h4p
  refine ixq (i:=1) sl84 I I I (zam od) I ?_;refine evd [] [] (ixq (i:=1) sl84 I I I (zam od) I ?_);refine evd [] [] (ar (xbv (b:=(nth (cutL 40 [] (s.take (s.length-2))) 1).length-1) un9 .none I I I od od ?_));refine wc zgj (zcb (s:=(nth (cutL 40 [] (s.take (s.length-2))) 1).take ((nth (cutL 40 [] (s.take (s.length-2))) 1).length-1)) (c:=44) oo) I I ?_;refine evd [] [] (dr (xaD 3005 1 1 2 I I I I (xaA (ι:=Nat) hk (fun i=>[(8,.d (.i (i:Int)))]) [61,62,63,64,65,66,67,68,69,70,71,72,73,74,75,76,77,78,79,80,81] (fun i=>[(3005,some (.box [.d (.str (nth (cutL 40 [] (s.take (s.length-2))) 0)),.gl 1 (((((cutL 44 [] ((nth (cutL 40 [] (s.take (s.length-2))) 1).take ((nth (cutL 40 [] (s.take (s.length-2))) 1).length-1))).map (zel names)).take i)).map Ty.c),.d (.i (((nth s (s.length-1)).toNat:Int)-48))])),(1,some (.tok (((((cutL 44 [] ((nth (cutL 40 [] (s.take (s.length-2))) 1).take ((nth (cutL 40 [] (s.take (s.length-2))) 1).length-1))).map (zel names)).take i)).map Ty.c).length 2))]) (fun i=>i<=4/\i<=(cutL 44 [] ((nth (cutL 40 [] (s.take (s.length-2))) 1).take ((nth (cutL 40 [] (s.take (s.length-2))) 1).length-1))).length) (fun i=>4-i) 0 ⟨by omega,by omega⟩ ⟨⟨_,I,xaK ?_⟩,O⟩ ⟨?_,⟨zag ?_,O⟩⟩ (fun x=>rfl) (fun i hg1=>?_))));focus (rfl)
  focus ((show some (Res.box _)=some (Res.box _);rw[hwb];rfl))
  focus (rfl)
  refine evc [] [2,7] ?_;apply sq<;>intro h5 h5p h5s<;>(try simp only[Q,List.length_take] at h5p);apply sq<;>intro h6 h6p h6s<;>(try simp only[Q,List.length_take] at h6p);refine ixq sl84 I I I (zam od) I ?_;refine evd [] [] (wc zoX (zeS (names:=names) (s:=nth (cutL 44 [] ((nth (cutL 40 [] (s.take (s.length-2))) 1).take ((nth (cutL 40 [] (s.take (s.length-2))) 1).length-1))) i) hn (by have:=zdJ (c:=44) (s:=(nth (cutL 40 [] (s.take (s.length-2))) 1).take ((nth (cutL 40 [] (s.take (s.length-2))) 1).length-1)) (i:=i) od;simp at this;omega)) I I ?_);refine si [0] [_] zaJ tz38 ?_;refine ap zaJ zz38 I I I oe oo ?_;refine evd [] [] (so zkw ?_);refine dr (ar (xaj (i+1) ⟨⟨by omega,by omega⟩,od,sx ⟨⟨_,I,xaK ?_⟩,O⟩ ⟨?_,⟨zag ?_,O⟩⟩⟩));focus (rfl)
  focus ((show some (Res.box _)=some (Res.box _);rw[zfn od];simp;done))
  focus ((simp;omega))
  refine so zcs ?_;apply tv;refine rn0 (ra zcs) (.agg (qege ?_ ?_ ?_));rotate_left 3;refine sqF ?_;refine so zcs ?_;apply tv;refine rn0 (ra zcs) (.agg (qege ?_ ?_ ?_));rotate_left 3;try simp only[Q,List.length_take] at h2p
  exact absurd h2 oe;all_goals (unfold zcf;rw[if_pos hc];first|rfl|(rw[hwb];rfl)|(unfold zfV;dsimp only;by_cases hq:(cutL 40 [] (s.take (s.length-2))).length<2\/(nth (cutL 40 [] (s.take (s.length-2))) 1).length=0;all_goals first|(exfalso;exact(of_decide_eq_false h4) hq)|(exfalso;exact hq (xas h4))|(rw[if_pos hq];done)|(rw[if_pos hq];rfl)|(rw[if_neg hq,<-List.map_take,zlF od];done)))
 ·skip
  have hcl:=zdI 40 (s) [];have hcp:=zha 40 (s) [];have hn1:=fun h=>zdJ (c:=40) (s:=s) (i:=1) h;have hal:=zdI 44 ((nth (cutL 40 [] (s)) 1).take ((nth (cutL 40 [] (s)) 1).length-1)) [];refine bd Tryz.f230 83 [] [2,7] fun _ _ _ _ hk=>?_;refine ab 3004 zeO ?_;apply tv;refine bu [] [] zrl ?_;refine ab 3005 zeO ?_;refine so zcs ?_;apply tv;refine xaC (xbh 11 [(20,.d (.bool false))] [10,11,12,13,14,15,16,17,18,19] ?_ ?_);refine ev ?_;apply sq<;>intro h1 h1p h1s;try simp only[Q,List.length_take] at h1p
  refine ar (xbD (i:=s.length-2) un9 (.some I I h1) I I I od (za9 od) ?_);refine evs [] [(13,true)] ?_ ⟨⟨_,I,h1⟩,O⟩;exact jn I (xaJ (by(exact xaw (fun hh=>hc ⟨by omega,(zoJ (b:=58)).1 hh⟩))));exact jn I (xaJ o7);refine xbg ?_;apply tv;apply sq<;>intro h2 h2p h2s;exact absurd h2 oe;refine wc zgj (zcb (s:=s) (c:=40) oq) I I ?_;refine ev (ixq (i:=0) sl84 I I I (zam od) I ?_);refine ev (so ty9 ?_);apply tv;refine xaC (xbh 10 [(49,.d (.bool (decide ((cutL 40 [] s).length<2\/(nth (cutL 40 [] s) 1).length=0))))] [40,41,42,43,44,45,46,47,48] ?_ ?_);refine ev ?_;apply sq<;>intro h3 h3p h3s<;>(try simp only[Q,List.length_take] at h3p);exact jn I (xaJ (by(refine(xax ?_).symm;omega)));refine xbz (i:=1) sl84 (.some I I h3) I I I I (zam od) I ?_;refine evs [] [(43,false)] ?_ ⟨⟨_,I,h3⟩,O⟩;exact jn I (xaJ (by(refine decide_eq_decide.2 ?_;omega)));refine xbg ?_;apply tv;apply sq<;>intro h4 h4p h4s;refine so zcs ?_;apply tv;refine rn0 (ra zcs) (.agg (qene ?_ ?_ ?_));rotate_left 3;try simp only[Q,List.length_take] at h4p
  refine ixq (i:=1) sl84 I I I (zam od) I ?_;refine evd [] [] (ixq (i:=1) sl84 I I I (zam od) I ?_);refine evd [] [] (ar (xbv (b:=(nth (cutL 40 [] s) 1).length-1) un9 .none I I I od od ?_));refine wc zgj (zcb (s:=(nth (cutL 40 [] s) 1).take ((nth (cutL 40 [] s) 1).length-1)) (c:=44) oo) I I ?_;refine evd [] [] (dr (xaD 3005 1 1 2 I I I I (xaA (ι:=Nat) hk (fun i=>[(8,.d (.i (i:Int)))]) [61,62,63,64,65,66,67,68,69,70,71,72,73,74,75,76,77,78,79,80,81] (fun i=>[(3005,some (.box [.d (.str (nth (cutL 40 [] (s)) 0)),.gl 1 (((((cutL 44 [] ((nth (cutL 40 [] (s)) 1).take ((nth (cutL 40 [] (s)) 1).length-1))).map (zel names)).take i)).map Ty.c),.d (.i (0))])),(1,some (.tok (((((cutL 44 [] ((nth (cutL 40 [] (s)) 1).take ((nth (cutL 40 [] (s)) 1).length-1))).map (zel names)).take i)).map Ty.c).length 2))]) (fun i=>i<=4/\i<=(cutL 44 [] ((nth (cutL 40 [] (s)) 1).take ((nth (cutL 40 [] (s)) 1).length-1))).length) (fun i=>4-i) 0 ⟨by omega,by omega⟩ ⟨⟨_,I,xaK ?_⟩,O⟩ ⟨?_,⟨zag ?_,O⟩⟩ (fun x=>rfl) (fun i hg1=>?_))));focus (rfl)
  focus (rfl)
  focus (rfl)
  refine evc [] [2,7] ?_;apply sq<;>intro h5 h5p h5s<;>(try simp only[Q,List.length_take] at h5p);apply sq<;>intro h6 h6p h6s<;>(try simp only[Q,List.length_take] at h6p);refine ixq sl84 I I I (zam od) I ?_;refine evd [] [] (wc zoX (zeS (names:=names) (s:=nth (cutL 44 [] ((nth (cutL 40 [] s) 1).take ((nth (cutL 40 [] s) 1).length-1))) i) hn (by have:=zdJ (c:=44) (s:=(nth (cutL 40 [] (s)) 1).take ((nth (cutL 40 [] (s)) 1).length-1)) (i:=i) od;simp at this;omega)) I I ?_);refine si [0] [_] zaJ tz38 ?_;refine ap zaJ zz38 I I I oe oo ?_;refine evd [] [] (so zkw ?_);refine dr (ar (xaj (i+1) ⟨⟨by omega,by omega⟩,od,sx ⟨⟨_,I,xaK ?_⟩,O⟩ ⟨?_,⟨zag ?_,O⟩⟩⟩));focus (rfl)
  focus ((show some (Res.box _)=some (Res.box _);rw[zfn od];simp;done))
  focus ((simp;omega))
  refine so zcs ?_;apply tv;refine rn0 (ra zcs) (.agg (qege ?_ ?_ ?_));rotate_left 3;refine sqF ?_;refine so zcs ?_;apply tv;refine rn0 (ra zcs) (.agg (qege ?_ ?_ ?_));rotate_left 3;all_goals (unfold zcf;rw[if_neg hc];first|rfl|(unfold zfV;dsimp only;by_cases hq:(cutL 40 [] (s)).length<2\/(nth (cutL 40 [] (s)) 1).length=0;all_goals first|(exfalso;exact(of_decide_eq_false h4) hq)|(exfalso;exact hq (xas h4))|(rw[if_pos hq];done)|(rw[if_pos hq];rfl)|(rw[if_neg hq,<-List.map_take,zlF od];done)))
def decV (n:Int):Str:=strN [IntKind.u8.wrap (48+n)]
theorem zdj (n:Int):(decV n).length=1:=rfl
def zh7 (n:Int):Str:=if n=0 then [] else if n = -1 then [42] else decV n
theorem zjX (n:Int):(zh7 n).length<=1:=by unfold zh7;split;simp;split;simp;rw[zdj];omega
def zfg (w:List Data) (t:Ty):Str:=if t.data = -1 then [73] else (nth w t.data.toNat).name++zh7 t.index
def zcV (w:List Data):Bool->List Ty->Str
 |_,[]=>[]
 |b,t::r=>((if b then [40] else [44])++zfg w t)++zcV w false r
def zb8 (w:List Data) (c:Ctor):Str:=
 let o:=c.name++zcV w true c.args
 let p:=if 0<c.args.length then o++[41] else o
 if 0<c.index then (p++[58])++decV c.index else p
def zbQ (w:List Data):Bool->List Ctor->Str
 |_,[]=>[]
 |b,c::r=>((if b then [] else [124])++zb8 w c)++zbQ w false r
def zgN (w:List Data):Bool->List Data->Str
 |_,[]=>[]
 |b,d::r=>((if b then [] else [59])++(d.name++[61])++zbQ w true d.ctors)++zgN w false r
def zet (w:List Data):Str:=zgN w true w
structure TB (w:List Data):Prop where
 len:w.length<=4
 dn:∀d∈w,d.name.length<=1/\d.ctors.length<=4
 cn:∀d∈w,∀c∈d.ctors,c.name.length<=5/\c.args.length<=3/\0<=c.index/\c.index<=3
 ar:∀d∈w,∀c∈d.ctors,∀t∈c.args,(t.data = -1\/(0<=t.data/\t.data.toNat<w.length))/\ -1<=t.index/\t.index<=3
theorem zdS {w:List Data} (hv:zaP w=true):TB w:=by
 have hW:=(zcA w).1 hv;refine⟨hW.len,fun d hd=>?_,fun d hd c hc=>?_,fun d hd c hc t ht=>?_⟩
 ·have h:=hW.data d hd;have h1:=h.1;simp only[za4,xad,xah] at h1;omega
 ·have h:=hW.ctor d hd c hc;simp only[zbt,zct,zaE,xad,xah] at h;omega
 ·have h:=hW.ctor d hd c hc;simp only[zbt,xad,Bool.not_eq_true',List.any_eq_false] at h;have hax:zbB w.length t=true:=by
   have:=h.2.2.2 t ht;cases h:zbB w.length t with
   |true=>rfl
   |false=>rw[h] at this;exact absurd I this
  simp only[zbB,zaE,Bool.or_eq_true,xad,xah,and_true] at hax;omega
theorem zfI {w:List Data} (hb:TB w){t:Ty} (ht:t.data = -1\/(0<=t.data/\t.data.toNat<w.length)):(zfg w t).length<=2:=by
 unfold zfg;split
 ·simp
 ·rename_i h;have h1:=(hb.dn _ (zao (l:=w) (i:=t.data.toNat) od)).1;have h2:=zjX t.index;simp only[xaa];omega
theorem zfS {w:List Data} (hb:TB w):∀(l:List Ty) (b:Bool),(∀t∈l,t.data = -1\/(0<=t.data/\t.data.toNat<w.length))->(zcV w b l).length<=3*l.length
 | [],_,_=>by simp[zcV]
 |t::r,b,h=>by
  have h1:=zfI hb (h t oe);have h2:=zfS hb r false (fun x hx=>h x (by simp[hx]));simp only[zcV,xaa,xab];have h3:(if b=true then [(40:UInt8)] else [44]).length=1:=by split<;>rfl
  omega
theorem zmq {w:List Data} (hb:TB w){c:Ctor} (h1:c.name.length<=5/\c.args.length<=3) (h2:∀t∈c.args,t.data = -1\/(0<=t.data/\t.data.toNat<w.length)):(zb8 w c).length<=20:=by
 have h3:=zfS hb c.args true h2;unfold zb8;dsimp only;have h4:=zdj c.index;split<;>split<;>simp only[xaa,xab,xak]<;>omega
theorem ziY {w:List Data}:∀(l:List Ctor) (b:Bool),(∀c∈l,(zb8 w c).length<=20)->(zbQ w b l).length<=21*l.length
 | [],_,_=>by simp[zbQ]
 |c::r,b,h=>by
  have h1:=h c oe;have h2:=ziY r false (fun x hx=>h x (by simp[hx]));simp only[zbQ,xaa,xab];have h3:(if b=true then ([]:Str) else [124]).length<=1:=by split<;>simp
  omega
theorem zcz {n:Int} (h0:0<=n) (h9:n<=9):FnD Tryz.prog 157 [.d (.i n)] [] (.d (.str (decV n))) []:=by
 refine bd Tryz.f157 31 [30] [] fun _ _ _ _ hk=>?_;apply sq<;>intro h1 h1p h1s<;>(try simp only[Q] at h1p);exfalso;omega;apply sq<;>intro h2 h2p h2s<;>(try simp only[Q] at h2p);exfalso;omega;refine xaA (ι:=Unit) hk (fun x=>[(0,.d (.i n)),(3,.d (.str []))]) [12,13,14,15,16,17,18,19,20,21,22,23] (fun x=>[]) (fun x=>True) (fun x=>0) () O ⟨⟨_,I,xaK ?_⟩,⟨⟨_,I,xaL ?_⟩,O⟩⟩ O (fun x=>rfl) (fun x hg1=>?_);iterate 2 focus (first|rfl|omega)
 refine evc [30] [] ?_;apply sq<;>intro h3 h3p h3s<;>(try simp only[Q] at h3p);exfalso;omega;refine ar (xbu (by rw[un3];rfl) un5 .none I I ?_);refine si [0] [_] sl22 tz5 ?_;refine xbn sl22 un9 oj .none I I I (by first|rfl|exact zgo _) ?_;refine evs [30] [] (xbs .none I I I (by simp[strN]) ?_);refine evs [30] [] (rq ?_);rotate_left;all_goals (rfl)
theorem zkh {n:Int} (h0 : -1<=n) (h9:n<=9):FnD Tryz.prog 279 [.d (.i n)] [] (.d (.str (zh7 n))) []:=by
 refine bd Tryz.f279 10 [] [] fun _ _ _ _ hk=>?_;apply sq<;>intro h1 h1p h1s<;>(try simp only[Q] at h1p);refine rq ?_;rotate_left;apply sq<;>intro h2 h2p h2s<;>(try simp only[Q] at h2p);refine rq ?_;rotate_left;refine wc zgK (zcz od od) I I ?_;refine ev (rq ?_);rotate_left;all_goals (refine xam D.str ?_;unfold zh7;first|(rw[if_pos od];done)|(rw[if_neg od,if_pos od];done)|(rw[if_neg od,if_neg od];done)|(rw[if_pos od];rfl))
theorem zgZ {w:List Data} (hb:TB w){a k:Int} (ha:a = -1\/(0<=a/\a.toNat<w.length)) (hk : -1<=k/\k<=3):FnD Tryz.prog 225 [.d (zah w),.agg [.d (.i a),.d (.i k)]] [] (.d (.str (zfg w ⟨a,k⟩))) []:=by
 have hl:=zjX k;have hdn:a≠ -1->(nth w a.toNat).name.length<=1:=fun h=>(hb.dn _ (zao (l:=w) (i:=a.toNat) od)).1;refine bd Tryz.f225 18 [17] [] fun _ _ _ _ hk=>?_;refine bx 3003 ?_;refine evs [17] [] ?_;apply sq<;>intro h1 h1p h1s<;>(try simp only[Q] at h1p);refine rq ?_;rotate_left;refine ixq (i:=a.toNat) sl23 I I od (zam od) I ?_;refine evd [17] [] (wc zsC (zkh od od) I I ?_);refine xbs .none I I I (by have:=hdn h1p;omega) ?_;refine evd [17] [] (dr (rq ?_));rotate_left;all_goals (refine xam D.str ?_;unfold zfg;first|(rw[if_pos ol];done)|(rw[if_neg ol];done))
theorem zcT {w:List Data} (hb:TB w){s:Str}{l:List Ty}{k:Int} (hs:s.length<=5) (hl:l.length<=3) (hk:0<=k/\k<=3)
  (hl2:∀t∈l,(t.data = -1\/(0<=t.data/\t.data.toNat<w.length))/\ -1<=t.index/\t.index<=3):
  FnD Tryz.prog 281 [.d (zah w),.agg [.d (.str s),.d (zbK l),.d (.i k)]] [] (.d (.str (zb8 w ⟨s,l,k⟩))) []:=by
 have hall:=zfS hb l true (fun t ht=>(hl2 t ht).1);have hdl:=zdj k;refine bd Tryz.f281 47 [19,21,30,36,41,45] [] fun _ _ _ _ hk=>?_;refine bx 3003 ?_;refine evs [19,21,30,36,41,45] [] (xaA (ι:=List (Ty)×List (Ty)×(Str)) hk (fun x=>[(6,.d (.i (x.1.length:Int))),(5,.d (.str x.2.2))]) [9,10,11,12,13,14,15,16,17,18,19,20,21,22,23,24,25,26,27,28,29,30] (fun x=>[]) (fun x=>x.1++x.2.1=l/\x.2.2.length<=5+3*x.1.length/\x.2.2++zcV w (decide (x.1.length=0)) x.2.1=s++zcV w true l) (fun x=>x.2.1.length) ([],l,s) ⟨by simp,by simp;omega,by simp⟩ ⟨⟨_,I,xaK ?_⟩,⟨⟨_,I,xaL ?_⟩,O⟩⟩ O (fun x=>rfl) (fun x hg1=>?_));iterate 2 focus (first|rfl|(dsimp only;rw[if_pos od,xar];done))
 obtain⟨pre,rest,o⟩:=x;dsimp only at hg1 ⊢;refine evc [19,21,30,36,41,45] [] ?_;apply sq<;>intro h1 h1p h1s<;>(try simp only[Q] at h1p);rcases rest with _|⟨y,rest⟩
 ·exfalso;simp_all
 have hq:(zfg w ⟨y.data,y.index⟩).length<=2:=zfI hb (hl2 y (by rw[<-hg1.1];simp)).1;apply sq<;>intro h2 h2p h2s<;>(try simp only[Q] at h2p);refine xbs .none I I I (by have hz:=xam List.length hg1.1;simp only[xaa,xab,xak] at hz ⊢;omega) ?_;refine evs [19,21,30,36,41,45] [] (ixq zaJ I I I (zaI hg1.1) I (evs [19,21,30,36,41,45] [] (wc zo3 (zgZ hb (a:=y.data) (k:=y.index) (hl2 y (by rw[<-hg1.1];simp)).1 (hl2 y (by rw[<-hg1.1];simp)).2) I I ?_)));refine xbs .none I I I (by have hz:=xam List.length hg1.1;simp only[xaa,xab,xak] at hz ⊢;omega) ?_;refine evs [19,21,30,36,41,45] [] (ar (xaj ((pre++[y],rest,o++((if pre.length=0 then [40] else [44])++zfg w y))) ⟨⟨(by have hz:=hg1.1;rw[<-hz];simp),⟨(by have hq:=zfI hb (hl2 y (by rw[<-hg1.1];simp)).1;have h3:(if pre.length=0 then [(40:UInt8)] else [44]).length=1:=(by split<;>rfl);simp only[xaa,xab,xak];omega),(by rw[<-hg1.2.2];simp[zcV])⟩⟩,oe,sx ⟨⟨_,I,xaK ?_⟩,⟨⟨_,I,xaL ?_⟩,O⟩⟩ O⟩));iterate 2 focus (first|(simp;done)|(dsimp only;rw[if_pos od,xar];done))
 refine xbs .none I I I (by have hz:=xam List.length hg1.1;simp only[xaa,xab,xak] at hz ⊢;omega) ?_;refine evs [19,21,30,36,41,45] [] (ixq zaJ I I I (zaI hg1.1) I (evs [19,21,30,36,41,45] [] (wc zo3 (zgZ hb (a:=y.data) (k:=y.index) (hl2 y (by rw[<-hg1.1];simp)).1 (hl2 y (by rw[<-hg1.1];simp)).2) I I ?_)));refine xbs .none I I I (by have hz:=xam List.length hg1.1;simp only[xaa,xab,xak] at hz ⊢;omega) ?_;refine evs [19,21,30,36,41,45] [] (ar (xaj ((pre++[y],rest,o++((if pre.length=0 then [40] else [44])++zfg w y))) ⟨⟨(by have hz:=hg1.1;rw[<-hz];simp),⟨(by have hq:=zfI hb (hl2 y (by rw[<-hg1.1];simp)).1;have h3:(if pre.length=0 then [(40:UInt8)] else [44]).length=1:=(by split<;>rfl);simp only[xaa,xab,xak];omega),(by rw[<-hg1.2.2];simp[zcV])⟩⟩,oe,sx ⟨⟨_,I,xaK ?_⟩,⟨⟨_,I,xaL ?_⟩,O⟩⟩ O⟩));iterate 2 focus (first|(simp;done)|(dsimp only;rw[if_pos od,xar];done)|(dsimp only;rw[if_neg od,xar];done))
 have hrest:rest=[]:=by
  rcases rest with _|⟨a,b⟩
  ·rfl
  ·exfalso;have hz:=xam List.length (hg1.1);simp only[xaa,xab,xac] at hz;omega
 subst hrest;apply sq<;>intro h3 h3p h3s<;>(try simp only[Q] at h3p);refine xbs .none I I I (by have hz:=xam List.length hg1.1;simp only[xaa,xab,xak] at hz ⊢;omega) ?_;refine evs [19,21,30,36,41,45] [] ?_;apply sq<;>intro h4 h4p h4s<;>(try simp only[Q] at h4p);refine xbs .none I I I (by have hz:=xam List.length hg1.1;simp only[xaa,xab,xak] at hz ⊢;omega) ?_;refine evs [19,21,30,36,41,45] [] (wc zgK (zcz od od) I I ?_);refine xbs .none I I I (by have hz:=xam List.length hg1.1;simp only[xaa,xab,xak] at hz ⊢;omega) ?_;refine evs [19,21,30,36,41,45] [] (rq ?_);rotate_left;refine rq ?_;rotate_left;apply sq<;>intro h5 h5p h5s<;>(try simp only[Q] at h5p);refine xbs .none I I I (by have hz:=xam List.length hg1.1;simp only[xaa,xab,xak] at hz ⊢;omega) ?_;refine evs [19,21,30,36,41,45] [] (wc zgK (zcz od od) I I ?_);refine xbs .none I I I (by have hz:=xam List.length hg1.1;simp only[xaa,xab,xak] at hz ⊢;omega) ?_;refine evs [19,21,30,36,41,45] [] (rq ?_);rotate_left;refine rq ?_;rotate_left;all_goals (refine xam D.str ?_;have hfin:=hg1.2.2;simp only[zcV,xaq] at hfin;unfold zb8;dsimp only;rw[<-hfin];first|(rw[if_pos od,if_pos (by simp at *;omega)];done)|(rw[if_pos od,if_neg (by simp at *;omega)];done)|(rw[if_neg od,if_pos (by simp at *;omega)];done)|(rw[if_neg od,if_neg (by simp at *;omega)];done))
theorem zk2 {w:List Data} (hb:TB w):FnD Tryz.prog 231 [.d (zah w)] [] (.d (.str (zet w))) []:=by
 have hwl:=hb.len;have hct:∀d∈w,∀c∈d.ctors,(zb8 w c).length<=20:=fun d hd c hc=>zmq hb ⟨(hb.cn d hd c hc).1,(hb.cn d hd c hc).2.1⟩ (fun t ht=>(hb.ar d hd c hc t ht).1);refine bd Tryz.f231 51 [15,22,23,37,49] [] fun _ _ _ _ hk=>?_;refine xaA (ι:=List (Data)×List (Data)×(Str)) hk (fun x=>[(4,.d (.i (x.1.length:Int))),(3,.d (.str x.2.2))]) [5,6,7,8,9,10,11,12,13,14,15,16,17,18,19,20,21,22,23,24,25,26,27,28,29,30,31,32,33,34,35,36,37,38,39,40,41,42,43,44,45,46,47,48,49] (fun x=>[]) (fun x=>x.1++x.2.1=w/\x.2.2.length<=100*x.1.length/\x.2.2++zgN w (decide (x.1.length=0)) x.2.1=zet w) (fun x=>x.2.1.length) ([],w,[]) ⟨by simp,by simp,by simp[zet]⟩ ⟨⟨_,I,xaK ?_⟩,⟨⟨_,I,xaL ?_⟩,O⟩⟩ O (fun x=>rfl) (fun x hg1=>?_);iterate 2 focus (first|rfl|(rw[hfin];simp;done))
 obtain⟨pre,rest,o⟩:=x;dsimp only at hg1 ⊢;refine evc [15,22,23,37,49] [] ?_;apply sq<;>intro h1 h1p h1s<;>(try simp only[Q] at h1p);rcases rest with _|⟨y,rest⟩
 ·exfalso;simp_all
 have hym:y∈w:=(by rw[<-hg1.1];simp);have hyd:=hb.dn y hym;have hpl:pre.length<4:=od;have hcl:=ziY (w:=w) y.ctors true (hct y hym);apply sq<;>intro h2 h2p h2s<;>(try simp only[Q] at h2p);refine xbs .none I I I (by(try simp only[xaa,xab,xak]);omega) (evs [15,22,23,37,49] [] (ixq sl23 I I I (zaI hg1.1) I (evs [15,22,23,37,49] [] (xbs .none I I I (by(try simp only[xaa,xab,xak]);omega) (xbs .none I I I (by(try simp only[xaa,xab,xak]);omega) (evs [15,22,23,37,49] [] (xaA (ι:=List (Ctor)×List (Ctor)×(Str)) hk (fun x=>[(5,.d (.i (x.1.length:Int))),(3,.d (.str x.2.2))]) [24,25,26,27,28,29,30,31,32,33,34,35,36,37,38,39,40,41,42,43,44,45,46,47,48,49] (fun x=>[]) (fun x=>x.1++x.2.1=y.ctors/\x.2.2.length<=100*pre.length+4+21*x.1.length/\x.2.2++zbQ w (decide (x.1.length=0)) x.2.1=(o++((if pre.length=0 then [] else [59])++(y.name++[61])))++zbQ w true y.ctors) (fun x=>x.2.1.length) ([],y.ctors,o++((if pre.length=0 then [] else [59])++(y.name++[61]))) ⟨by simp,(by have h3:(if pre.length=0 then ([]:Str) else [59]).length<=1:=(by split<;>simp);simp only[xaa,xab,xak];omega),by simp⟩ ⟨⟨_,I,xaK ?_⟩,⟨⟨_,I,xaL ?_⟩,O⟩⟩ O (fun x=>rfl) (fun x hg2=>?_))))))));iterate 2 focus (first|rfl|(rw[if_neg od];simp;done))
 obtain⟨pre2,rest2,q⟩:=x;dsimp only at hg2 ⊢;refine evc [15,22,23,37,49] [] (ixq sl23 I I I (zaI hg1.1) I (evs [15,22,23,37,49] [] ?_));apply sq<;>intro h3 h3p h3s<;>(try simp only[Q] at h3p);rcases rest2 with _|⟨c,rest2⟩
 ·exfalso;simp_all
 have hcm:=hct y hym c (by rw[<-hg2.1];simp);have hce:(zb8 w ⟨c.name,c.args,c.index⟩).length<=20:=hcm;have hp2:=xam List.length hg2.1;simp only[xaa,xab] at hp2;apply sq<;>intro h4 h4p h4s<;>(try simp only[Q] at h4p);refine xbs .none I I I (by(try simp only[xaa,xab,xak]);omega) (evs [15,22,23,37,49] [] (ixq sl23 I I I (zaI hg1.1) I (evs [15,22,23,37,49] [] (ixq zbo I I I (zaI hg2.1) I (evs [15,22,23,37,49] [] (wc zjD (zcT hb (s:=c.name) (l:=c.args) (k:=c.index) (hb.cn y hym c (by rw[<-hg2.1];simp)).1 (hb.cn y hym c (by rw[<-hg2.1];simp)).2.1 (hb.cn y hym c (by rw[<-hg2.1];simp)).2.2 (hb.ar y hym c (by rw[<-hg2.1];simp))) I I ?_))))));refine xbs .none I I I (by(try simp only[xaa,xab,xak]);omega) (evs [15,22,23,37,49] [] (ar (xaj ((pre2++[c],rest2,q++((if pre2.length=0 then [] else [124])++zb8 w c))) ⟨⟨(by have hz:=hg2.1;rw[<-hz];simp),⟨(by have h3:(if pre2.length=0 then ([]:Str) else [124]).length<=1:=(by split<;>simp);simp only[xaa,xab,xak];omega),(by rw[<-hg2.2.2];simp[zbQ])⟩⟩,oe,sx ⟨⟨_,I,xaK ?_⟩,⟨⟨_,I,xaL ?_⟩,O⟩⟩ O⟩)));iterate 2 focus (first|rfl|(rw[if_neg od];simp;done))
 refine ixq sl23 I I I (zaI hg1.1) I (evs [15,22,23,37,49] [] (ixq zbo I I I (zaI hg2.1) I (evs [15,22,23,37,49] [] (wc zjD (zcT hb (s:=c.name) (l:=c.args) (k:=c.index) (hb.cn y hym c (by rw[<-hg2.1];simp)).1 (hb.cn y hym c (by rw[<-hg2.1];simp)).2.1 (hb.cn y hym c (by rw[<-hg2.1];simp)).2.2 (hb.ar y hym c (by rw[<-hg2.1];simp))) I I ?_))));refine xbs .none I I I (by(try simp only[xaa,xab,xak]);omega) (evs [15,22,23,37,49] [] (ar (xaj ((pre2++[c],rest2,q++((if pre2.length=0 then [] else [124])++zb8 w c))) ⟨⟨(by have hz:=hg2.1;rw[<-hz];simp),⟨(by have h3:(if pre2.length=0 then ([]:Str) else [124]).length<=1:=(by split<;>simp);simp only[xaa,xab,xak];omega),(by rw[<-hg2.2.2];simp[zbQ])⟩⟩,oe,sx ⟨⟨_,I,xaK ?_⟩,⟨⟨_,I,xaL ?_⟩,O⟩⟩ O⟩)));iterate 2 focus (first|rfl|(rw[if_neg od];simp;done)|(rw[if_pos od];simp;done))
 have hrest2:rest2=[]:=by
  rcases rest2 with _|⟨a,b⟩
  ·rfl
  ·exfalso;have hz:=xam List.length (hg2.1);simp only[xaa,xab,xac] at hz;omega
 subst hrest2;refine ar ?_;have hfin:=hg2.2.2;simp only[zbQ,xaq] at hfin;refine xaj ((pre++[y],rest,o++((if pre.length=0 then [] else [59])++(y.name++[61])++zbQ w true y.ctors))) ⟨⟨(by have hz:=hg1.1;rw[<-hz];simp),⟨(by have h3:(if pre.length=0 then ([]:Str) else [59]).length<=1:=(by split<;>simp);simp only[xaa,xab,xak];omega),(by rw[<-hg1.2.2];simp[zgN])⟩⟩,oe,sx ⟨⟨_,I,xaK ?_⟩,⟨⟨_,I,xaL ?_⟩,O⟩⟩ O⟩;iterate 2 focus (first|rfl|(simp;done)|(rw[hfin];simp;done))
 refine ixq sl23 I I I (zaI hg1.1) I (evs [15,22,23,37,49] [] (xbs .none I I I (by(try simp only[xaa,xab,xak]);omega) (xbs .none I I I (by(try simp only[xaa,xab,xak]);omega) (evs [15,22,23,37,49] [] (xaA (ι:=List (Ctor)×List (Ctor)×(Str)) hk (fun x=>[(5,.d (.i (x.1.length:Int))),(3,.d (.str x.2.2))]) [24,25,26,27,28,29,30,31,32,33,34,35,36,37,38,39,40,41,42,43,44,45,46,47,48,49] (fun x=>[]) (fun x=>x.1++x.2.1=y.ctors/\x.2.2.length<=100*pre.length+4+21*x.1.length/\x.2.2++zbQ w (decide (x.1.length=0)) x.2.1=(o++((if pre.length=0 then [] else [59])++(y.name++[61])))++zbQ w true y.ctors) (fun x=>x.2.1.length) ([],y.ctors,o++((if pre.length=0 then [] else [59])++(y.name++[61]))) ⟨by simp,(by have h3:(if pre.length=0 then ([]:Str) else [59]).length<=1:=(by split<;>simp);simp only[xaa,xab,xak];omega),by simp⟩ ⟨⟨_,I,xaK ?_⟩,⟨⟨_,I,xaL ?_⟩,O⟩⟩ O (fun x=>rfl) (fun x hg2=>?_))))));iterate 2 focus (first|rfl|(rw[if_neg od];simp;done)|(rw[if_pos od];simp;done))
 obtain⟨pre2,rest2,q⟩:=x;dsimp only at hg2 ⊢;refine evc [15,22,23,37,49] [] (ixq sl23 I I I (zaI hg1.1) I (evs [15,22,23,37,49] [] ?_));apply sq<;>intro h5 h5p h5s<;>(try simp only[Q] at h5p);rcases rest2 with _|⟨c,rest2⟩
 ·exfalso;simp_all
 have hcm:=hct y hym c (by rw[<-hg2.1];simp);have hce:(zb8 w ⟨c.name,c.args,c.index⟩).length<=20:=hcm;have hp2:=xam List.length hg2.1;simp only[xaa,xab] at hp2;apply sq<;>intro h6 h6p h6s<;>(try simp only[Q] at h6p);refine xbs .none I I I (by(try simp only[xaa,xab,xak]);omega) (evs [15,22,23,37,49] [] (ixq sl23 I I I (zaI hg1.1) I (evs [15,22,23,37,49] [] (ixq zbo I I I (zaI hg2.1) I (evs [15,22,23,37,49] [] (wc zjD (zcT hb (s:=c.name) (l:=c.args) (k:=c.index) (hb.cn y hym c (by rw[<-hg2.1];simp)).1 (hb.cn y hym c (by rw[<-hg2.1];simp)).2.1 (hb.cn y hym c (by rw[<-hg2.1];simp)).2.2 (hb.ar y hym c (by rw[<-hg2.1];simp))) I I ?_))))));refine xbs .none I I I (by(try simp only[xaa,xab,xak]);omega) (evs [15,22,23,37,49] [] (ar (xaj ((pre2++[c],rest2,q++((if pre2.length=0 then [] else [124])++zb8 w c))) ⟨⟨(by have hz:=hg2.1;rw[<-hz];simp),⟨(by have h3:(if pre2.length=0 then ([]:Str) else [124]).length<=1:=(by split<;>simp);simp only[xaa,xab,xak];omega),(by rw[<-hg2.2.2];simp[zbQ])⟩⟩,oe,sx ⟨⟨_,I,xaK ?_⟩,⟨⟨_,I,xaL ?_⟩,O⟩⟩ O⟩)));iterate 2 focus (first|rfl|(rw[if_neg od];simp;done))
 refine ixq sl23 I I I (zaI hg1.1) I (evs [15,22,23,37,49] [] (ixq zbo I I I (zaI hg2.1) I (evs [15,22,23,37,49] [] (wc zjD (zcT hb (s:=c.name) (l:=c.args) (k:=c.index) (hb.cn y hym c (by rw[<-hg2.1];simp)).1 (hb.cn y hym c (by rw[<-hg2.1];simp)).2.1 (hb.cn y hym c (by rw[<-hg2.1];simp)).2.2 (hb.ar y hym c (by rw[<-hg2.1];simp))) I I ?_))));refine xbs .none I I I (by(try simp only[xaa,xab,xak]);omega) (evs [15,22,23,37,49] [] (ar (xaj ((pre2++[c],rest2,q++((if pre2.length=0 then [] else [124])++zb8 w c))) ⟨⟨(by have hz:=hg2.1;rw[<-hz];simp),⟨(by have h3:(if pre2.length=0 then ([]:Str) else [124]).length<=1:=(by split<;>simp);simp only[xaa,xab,xak];omega),(by rw[<-hg2.2.2];simp[zbQ])⟩⟩,oe,sx ⟨⟨_,I,xaK ?_⟩,⟨⟨_,I,xaL ?_⟩,O⟩⟩ O⟩)));iterate 2 focus (first|rfl|(rw[if_neg od];simp;done)|(rw[if_pos od];simp;done))
 have hrest2:rest2=[]:=by
  rcases rest2 with _|⟨a,b⟩
  ·rfl
  ·exfalso;have hz:=xam List.length (hg2.1);simp only[xaa,xab,xac] at hz;omega
 subst hrest2;refine ar ?_;have hfin:=hg2.2.2;simp only[zbQ,xaq] at hfin;refine xaj ((pre++[y],rest,o++((if pre.length=0 then [] else [59])++(y.name++[61])++zbQ w true y.ctors))) ⟨⟨(by have hz:=hg1.1;rw[<-hz];simp),⟨(by have h3:(if pre.length=0 then ([]:Str) else [59]).length<=1:=(by split<;>simp);simp only[xaa,xab,xak];omega),(by rw[<-hg1.2.2];simp[zgN])⟩⟩,oe,sx ⟨⟨_,I,xaK ?_⟩,⟨⟨_,I,xaL ?_⟩,O⟩⟩ O⟩;iterate 2 focus (first|rfl|(simp;done)|(rw[hfin];simp;done))
 have hrest:rest=[]:=by
  rcases rest with _|⟨a,b⟩
  ·rfl
  ·exfalso;have hz:=xam List.length (hg1.1);simp only[xaa,xab,xac] at hz;omega
 subst hrest;refine rq ?_;rotate_left;all_goals (refine xam D.str ?_;have hfin:=hg1.2.2;simp only[zgN,xaq] at hfin;exact hfin)
def pwL (s:Str):List Str:=cutL 59 [] s
def pwP (s:Str) (i:Nat):List Str:=cutL 61 [] (nth (pwL s) i)
def pwC (s:Str) (i:Nat):List Str:=cutL 124 [] (nth (pwP s i) 1)
def zbm (s:Str):Nat:=if s=[] then 0 else min (pwL s).length 5
def zch (s:Str) (n:Nat):List Str:=(List.range n).map fun i=>nth (pwP s i) 0
def zii (s:Str) (i:Nat):Data:=⟨nth (pwP s i) 0,((pwC s i).take 5).map (zcf (zch s (zbm s)))⟩
def zcq (s:Str) (n:Nat):List Data:=(List.range n).map (zii s)
def zf7 (s:Str):Bool:=(List.range (zbm s)).all (fun i=>decide ((pwP s i).length=2))&&(zaP (zcq s (zbm s))&&decide (zet (zcq s (zbm s))=s))
def zdc (s:Str):List Data×Bool:=if zf7 s then (zcq s (zbm s),true) else ([],false)
theorem zmS (s:Str):zbm s<=(pwL s).length/\zbm s<=5:=by unfold zbm;split<;>omega
theorem zdO {s:Str}{i:Nat}:i<zbm s↔(i<(pwL s).length/\i<=4)/\s≠[]:=by
 unfold zbm;split
 ·rename_i h;simp[h]
 ·rename_i h;simp only[h,ne_eq,not_false_eq_true,and_true];omega
theorem zaR (s:Str) (n:Nat):(zch s n).length=n:=by simp[zch]
theorem zmT (s:Str) (n:Nat):zch s (n+1)=zch s n++[nth (pwP s n) 0]:=by unfold zch;rw[List.range_succ,xag];rfl
theorem zka (s:Str) (n:Nat):zcq s (n+1)=zcq s n++[zii s n]:=by unfold zcq;rw[List.range_succ,xag];rfl
theorem zrM {s:Str}{n m:Nat} (h:m<n):((zch s n).map fun n=>[D.str n])[m]?=some [D.str (nth (pwP s m) 0)]:=by
 simp[zch,h]
theorem znW {s:Str}{i:Nat} (h:i<(pwL s).length):(nth (pwL s) i).length<=s.length:=zdJ h
theorem ziL {s:Str}{i j:Nat} (h:i<(pwL s).length) (hj:j<(pwP s i).length):(nth (pwP s i) j).length<=s.length:=Nat.le_trans (zdJ hj) (znW h)
theorem zrT {s:Str}{i k:Nat} (h:k<(pwC s i).length):(nth (pwC s i) k).length<=(nth (pwP s i) 1).length:=zdJ h
theorem zp5 {α:Type}{l:List α}{i:Nat} (h:i=5\/(i<=5/\l.length<=i)):l.take i=l.take 5:=by
 rcases h with rfl|⟨h1,h2⟩
 ·rfl
 ·rw[List.take_of_length_le h2,List.take_of_length_le od]
theorem zoy {c:UInt8}{s:Str}:(nth (cutL c [] s) 0).length<=s.length:=zdJ (zha c s [])
theorem zmO {names:List Str}{s:Str}:(zcf names s).name.length<=s.length/\(zcf names s).args.length<=4:=by
 have key:∀(ix:Int) (t:Str),(zfV names ix t).name.length<=t.length/\(zfV names ix t).args.length<=4:=by
  intro ix t;refine⟨zoy, ?_⟩;unfold zfV;dsimp only;split
  ·simp
  ·simp only[xac,List.length_take];omega
 unfold zcf;split
 ·have:=key (((nth s (s.length-1)).toNat:Int)-48) (s.take (s.length-2));rw[List.length_take] at this;omega
 ·exact key 0 s
theorem zpR {s:Str} (hs:s.length<=1000000) (h2:∀j,j<zbm s->(pwP s j).length=2):WSmall (zcq s (zbm s)):=by
 have hl:=zmS s;have hd:∀d∈zcq s (zbm s),∃i,i<zbm s/\d=zii s i:=fun d hd=>by
  obtain⟨i,hi,rfl⟩:=List.mem_map.1 hd;exact⟨i,List.mem_range.1 hi,rfl⟩
 refine⟨by simp only[zcq,xac,List.length_range];omega,fun d hd'=>?_,fun d hd' c hc=>?_⟩
 ·obtain⟨i,hi,rfl⟩:=hd d hd';have:=ziL (s:=s) (i:=i) (j:=0) od (by rw[h2 i hi];omega);refine⟨?_, ?_⟩
  ·show(nth (pwP s i) 0).length<=_;omega
  ·simp only[zii,xac,List.length_take];omega
 ·obtain⟨i,hi,rfl⟩:=hd d hd';obtain⟨t,ht,rfl⟩:=List.mem_map.1 hc;have h3:=ziL (s:=s) (i:=i) (j:=1) od (by rw[h2 i hi];omega);have h4:t.length<=(nth (pwP s i) 1).length:=by simpa using zg9 124 (nth (pwP s i) 1) [] t (List.mem_of_mem_take ht)
  have h5:=zmO (names:=zch s (zbm s)) (s:=t);omega
theorem ztk {s:Str} (hs:s.length<=1000000):FnD Tryz.prog 74 [.d (.str s),.d (.int .u8 59)] [] (.d (zcJ (pwL s))) []:=zcb (s:=s) (c:=59) od
theorem zqZ {s:Str}{i:Nat} (hs:s.length<=1000000) (h:i<(pwL s).length):FnD Tryz.prog 74 [.d (.str (nth (pwL s) i)),.d (.int .u8 61)] [] (.d (zcJ (pwP s i))) []:=zcb (s:=nth (pwL s) i) (c:=61) (by have:=znW h;omega)
theorem ztj {s:Str}{i:Nat} (hs:s.length<=1000000) (h:i<(pwL s).length) (h2:(pwP s i).length=2):FnD Tryz.prog 74 [.d (.str (nth (pwP s i) 1)),.d (.int .u8 124)] [] (.d (zcJ (pwC s i))) []:=
 zcb (s:=nth (pwP s i) 1) (c:=124) (by have:=ziL (j:=1) h od;omega)
theorem ziU {w:List Data} (hs:WSmall w):FnD Tryz.prog 68 [.d (zah w)] [] (.d (.bool (zaP w))) []:=by
 rw[<-zfs];exact zfe hs
theorem znD {s:Str} (h:zf7 s=false):zdc s=([],false):=by unfold zdc;rw[if_neg (by rw[h];simp)]
theorem zqn {s:Str} (h:zf7 s=true):zdc s=(zcq s (zbm s),true):=by unfold zdc;rw[if_pos h]
theorem zqm {s:Str}{i:Nat} (h:i<zbm s) (h2:¬(pwP s i).length=2):zf7 s=false:=by
 unfold zf7;rw[zcL h (by simpa using h2),Bool.false_and]
theorem zlj {s:Str} (h:∀j,j<zbm s->(pwP s j).length=2):zf7 s=(zaP (zcq s (zbm s))&&decide (zet (zcq s (zbm s))=s)):=by
 unfold zf7;rw[zc5 (fun i hi=>by simpa using h i hi),Bool.true_and]
theorem ziv {s:Str} (hs:s.length<=100000):FnD Tryz.prog 146 [.d (.str s)] [] (.tup [.d (zah (zdc s).1),.d (.bool (zdc s).2)]) []:=by
 have hl:=zmS s;have hcl:(pwL s).length<=s.length+1:=zdI 59 s [];have hccl:∀i,(pwC s i).length<=(nth (pwP s i) 1).length+1:=fun i=>zdI 124 _ [];have hnl:=zaR s;refine bd Tryz.f146 101 [] [5,17,21] fun _ _ _ _ hk=>?_;refine xbR 1 sl23 .none I I (ev (xbR 2 sl84 .none I I (ev (wc zgj (ztk (s:=s) od) I I ?_))));refine ev (xaA (ι:=Nat) hk (fun i=>[(7,.d (.i (i:Int))),(5,.gl 2 ((zch s i).map fun n=>[D.str n]))]) [2,3,8,17,18,19,20,21,22,23,24,25,26,27,28,29,30,31,32,33,34,35,36,37,38,39,40,41,42,43,44,45] (fun i=>[(2,some (.tok (((zch s i).map fun n=>[D.str n])).length 1))]) (fun i=>i<=zbm s/\∀j,j<i->(pwP s j).length=2) (fun i=>zbm s-i) 0 ⟨by omega,fun j h=>absurd h od⟩ ⟨⟨_,I,xaK ?_⟩,⟨⟨_,I,LeA.glg ?_⟩,O⟩⟩ ⟨zag ?_,O⟩ (fun x=>rfl) (fun i hg1=>?_));iterate 3 focus (rfl)
 refine evc [] [5,17,21] (xaC (xbh 12 [(28,.d (.bool (decide (i<zbm s))))] [17,18,19,20,21,22,23,24,25,26,27] ?_ ?_));refine ev ?_;apply sq<;>intro h1 h1p h1s<;>(try simp only[Q,zaR] at h1p);apply sq<;>intro h2 h2p h2s<;>(try simp only[Q,zaR] at h2p);focus (exact jn I (xaJ (by(rw[xat];simp_all[zdO];omega))))
 focus (exact jn I (xaJ (by(rw[xat];simp_all[zdO];omega))))
 refine sqF ?_;focus (exact jn I (xaJ (by(rw[xat];simp_all[zdO];omega))))
 refine xbg ?_;apply tv;apply sq<;>intro h3 h3p h3s<;>(try simp only[Q,zaR] at h3p);refine ixq sl84 I I I (zam od) I ?_;refine ev (wc zgj (zqZ (s:=s) (i:=i) od od) I I ?_);refine ev ?_;apply sq<;>intro h4 h4p h4s<;>(try simp only[Q,zaR] at h4p);refine xbQ sl23 .none I (ev (rn0 (r2 I I) (.tup (qee ?_ ?_))));rotate_left 2;refine ixq (i:=0) sl84 I I I (zam od) I ?_;refine ev (si [0] [_] sl84 tz9 ?_);refine ap sl84 zz9 I I I oe (by simp[zaR,zcq];omega) ?_;refine ev (ar (xaj (i+1) ⟨⟨by omega,za5 hg1.2 od⟩,od,sx ⟨⟨_,I,xaK ?_⟩,⟨⟨_,I,LeA.glg ?_⟩,O⟩⟩ ⟨zag ?_,O⟩⟩));iterate 3 focus (first|rfl|(rw[zmT];simp;done))
 obtain rfl:i=zbm s:=od;refine xaA (ι:=Nat) hk (fun m=>[(9,.d (.i (m:Int))),(4,.gl 1 ((zcq s m).map Data.c))]) [10,11,12,46,47,48,49,50,51,52,53,54,55,56,57,58,59,60,61,62,63,64,65,66,67,68,69,70,71,72,73,74,75,76,77,78,79,80,81,82,83,84,85,86,87,88,89] (fun m=>[(1,some (.tok (((zcq s m).map Data.c)).length 2))]) (fun m=>m<=zbm s) (fun m=>zbm s-m) 0 od ⟨⟨_,I,xaK ?_⟩,⟨⟨_,I,LeA.glg ?_⟩,O⟩⟩ ⟨zag ?_,O⟩ (fun x=>rfl) (fun m hg2=>?_);iterate 3 focus (rfl)
 refine evc [] [5,17,21] ?_;apply sq<;>intro h5 h5p h5s<;>(try simp only[Q,zaR] at h5p);refine ixq sl84 I I I (zam od) I ?_;refine ev (wc zgj (zqZ (s:=s) (i:=m) od od) I I ?_);refine ixq (i:=1) sl84 I I I (zam (by(rw[hg1.2 m od];omega))) I ?_;refine ev (wc zgj (ztj (s:=s) (i:=m) od od (hg1.2 m od)) I I ?_);refine ev (xbB sl84 .none I I I I (zrM od) I ?_);refine ev (bu [0] [_] zrj ?_);refine ab 3011 ziO ?_;refine so zoI ?_;apply tv;refine xaD 3011 1 3 3 I I I I (xaA (ι:=Nat) hk (fun k=>[(12,.d (.i (k:Int)))]) [65,66,67,68,69,70,71,72,73,74,75,76,77,78,79,80,81,82,83,84,85] (fun k=>[(3011,some (.box [.d (.str (nth (pwP s m) 0)),.gl 3 ((((pwC s m).map (zcf (zch s (zbm s)))).take k).map Ctor.c)])),(3,some (.tok ((((pwC s m).map (zcf (zch s (zbm s)))).take k).map Ctor.c).length 3))]) (fun k=>k<=5/\k<=(pwC s m).length) (fun k=>5-k) 0 ⟨by omega,by omega⟩ ⟨⟨_,I,xaK ?_⟩,O⟩ ⟨?_,⟨zag ?_,O⟩⟩ (fun x=>rfl) (fun k hg3=>?_));focus (rfl)
 focus (rfl)
 focus (rfl)
 refine evc [] [5,17,21] (xaC (xbh 8 [(72,.d (.bool (decide (k<(pwC s m).length/\k<=4))))] [65,66,67,68,69,70,71] ?_ ?_));refine ev ?_;apply sq<;>intro h6 h6p h6s<;>(try simp only[Q,zaR] at h6p);focus (exact jn I (xaJ (by(rw[xat];simp_all[zdO];omega))))
 focus (exact jn I (xaJ (by(rw[xat];simp_all[zdO];omega))))
 refine xbg ?_;apply tv;apply sq<;>intro h7 h7p h7s<;>(try simp only[Q,zaR] at h7p);refine ixq sl84 I I I (zam od) I ?_;refine evd [] [] (Walk.call (cr:=[]) zss (zhM (names:=zch s (zbm s)) (s:=nth (pwC s m) k) (by rw[hnl];omega) (by have h1:=ziL (s:=s) (i:=m) (j:=1) od (by rw[hg1.2 m od];omega);have h2:=zrT (s:=s) (i:=m) (k:=k) od;omega)) I .none I I (.cons (.gl _ _) (.cons (.refl _) .nil)) O I I I ?_);refine si [0] [_] zbo zeO ?_;refine ap zbo zrs I I I oe (by simp[zaR,zcq];omega) ?_;refine evd [] [] (so zgy ?_);refine dr (ar (xaj (k+1) ⟨⟨by omega,by omega⟩,od,sx ⟨⟨_,I,xaK ?_⟩,O⟩ ⟨?_,⟨zag ?_,O⟩⟩⟩));focus (rfl)
 focus ((show some (Res.box _)=some (Res.box _);rw[zfn od];simp;done))
 focus ((simp;omega))
 refine si [0] [_] sl23 ziO ?_;refine ap sl23 zoP I I I oe (by simp[zaR,zcq];omega) ?_;refine ev (ar (xaj (m+1) ⟨od,od,sx ⟨⟨_,I,xaK ?_⟩,⟨⟨_,I,LeA.glg ?_⟩,O⟩⟩ ⟨zag ?_,O⟩⟩));iterate 3 focus (first|rfl|(rw[zka];simp;done)|(rw[zka,xag];simp only[xaf,List.map_nil,zii,Data.c];rw[<-List.map_take,zp5 od];done))
 obtain rfl:m=zbm s:=od;refine xaC (xbh 9 [(98,.d (.bool (!(zaP (zcq s (zbm s))&&decide (zet (zcq s (zbm s))=s)))))] [90,91,92,93,94,95,96,97] ?_ ?_);refine ev (Walk.call (cr:=[]) zqX (ziU (zpR od hg1.2)) I .none I I (.cons (.gl _ _) .nil) O I I I ?_);refine ev ?_;apply sq<;>intro h8 h8p h8s<;>(try simp only[Q,zaR] at h8p);focus (exact jn I (xaJ (by(rw[xat];simp_all[zdO];done))))
 refine Walk.call (cr:=[]) zst (zk2 (zdS ol)) I (.some I I h8) I I (.cons (.gl _ _) .nil) O I I I ?_;refine evs [] [(93,false)] ?_ ⟨⟨_,I,h8⟩,O⟩;focus (exact jn I (xaJ (by(rw[xat];simp_all[zdO];done))))
 refine xbg ?_;apply tv;apply sq<;>intro h9 h9p h9s<;>(try simp only[Q,zaR] at h9p);refine xbQ sl23 .none I (ev (rn0 (r2 I I) (.tup (qee ?_ ?_))));rotate_left 2;refine rn0 (r2 I I) (.tup (qge ?_ ?_));rotate_left 2;all_goals (first|(have hq:=zqm (s:=s) (i:=i) h3p (fun h=>h4p od);rw[znD hq];all_goals rfl)|(have hr:=zlj hg1.2;rw[h9s] at hr;rw[znD hr];all_goals rfl)|(have hr:=zlj hg1.2;rw[h9s] at hr;rw[zqn hr];all_goals rfl))
def ztl (n:Nat):UInt8:=UInt8.ofNat (IntKind.u8.wrap (48+(n:Int) % 10)).toNat
def digs (n:Nat):Str:=if n=0 then [] else digs (n / 10)++[ztl n]
def znO (n:Nat):Str:=109::digs n
def Ty.one (k:Int) (_:Ty):Ty:=⟨k,k+1⟩
def Ty.sz (_:Ty):Int:=2
def Ctor.one (k:Int) (x:Ctor):Ctor:=⟨znO k.toNat,mkL Ty.one Ty.sz (k+1) x.args,k+1+szL Ty.sz x.args⟩
def Ctor.sz (x:Ctor):Int:=2+szL Ty.sz x.args
def Data.one (k:Int) (x:Data):Data:=⟨znO k.toNat,mkL Ctor.one Ctor.sz (k+1) x.ctors⟩
def Data.sz (x:Data):Int:=1+szL Ctor.sz x.ctors
def Pat.op:Pat->Int | .mk a0 _ _ _ _ _=>a0
def Pat.ctor:Pat->Int | .mk _ a1 _ _ _ _=>a1
def Pat.n:Pat->Int | .mk _ _ a2 _ _ _=>a2
def Pat.m:Pat->Int | .mk _ _ _ a3 _ _=>a3
def Pat.var:Pat->Int | .mk _ _ _ _ a4 _=>a4
def Pat.kids:Pat->List Pat | .mk _ _ _ _ _ k=>k
abbrev Pat.cc (v:Pat):List D:=[.i v.op,.i v.ctor,.i v.n,.i v.m,.i v.var,.sl (Pat.cs v.kids)]
theorem xaM (v:Pat):v.c=v.cc:=by cases v;rfl
theorem Pat.eta (v:Pat):Pat.mk v.op v.ctor v.n v.m v.var v.kids=v:=by cases v;rfl
theorem xaO {pre:List Pat}{x:Pat}{rest xs:List Pat} (h:pre++x::rest=xs):(Pat.cs xs)[pre.length]?=some x.cc:=by rw[xaR,<-xaM];exact zaI h
mutual
def zoz:Pat->Pat->Bool
 | .mk a0 a1 a2 a3 a4 ks,.mk b0 b1 b2 b3 b4 ls=>decide (a0=b0)&&(decide (a1=b1)&&(decide (a2=b2)&&(decide (a3=b3)&&(decide (a4=b4)&&zj8 ks ls))))
def zj8:List Pat->List Pat->Bool
 | [],[]=>true
 |x::r,y::s=>zoz x y&&zj8 r s
 |_,_=>false
end
mutual
def Pat.ok:Pat->Prop
 | .mk _ _ _ _ _ ks=>ks.length<=1000000000000/\Pats.ok ks
def Pats.ok:List Pat->Prop
 | []=>True
 |v::r=>v.ok/\Pats.ok r
end
theorem xaX:∀ {l:List Pat},Pats.ok l->∀v,v∈l->v.ok
 |x::r,h,v,hv=>by
  simp only[Pats.ok] at h;rcases List.mem_cons.1 hv with rfl|hv
  ·exact h.1
  ·exact xaX h.2 v hv
mutual
def Pat.size:Pat->Nat
 | .mk _ _ _ _ _ ks=>1+Pats.size ks
def Pats.size:List Pat->Nat
 | []=>0
 |v::r=>v.size+Pats.size r
end
theorem xaY:∀ {l:List Pat}{v:Pat},v∈l->v.size<=Pats.size l
 |x::r,v,hv=>by
  simp only[Pats.size];rcases List.mem_cons.1 hv with rfl|hv
  ·omega
  ·have:=xaY hv;omega
theorem zbT {l:List Pat}{i:Nat} (h:i<l.length):(Pat.cs l)[i]?=some (nth l i).cc:=by
 rw[xaR,<-xaM];exact zam h
theorem xaU (v:Pat):v.ok↔v.kids.length<=1000000000000/\Pats.ok v.kids:=by cases v;rfl
theorem xaV (v:Pat):v.size=1+Pats.size v.kids:=by cases v;rfl
mutual
theorem zoA:∀v:Pat,zoz v v=true
 | .mk _ _ _ _ _ ks=>by simp[zoz,zi1 ks]
theorem zi1:∀l:List Pat,zj8 l l=true
 | []=>rfl
 |v::r=>by simp[zj8,zoA v,zi1 r]
end
theorem Pat.c_len (v:Pat):v.c.length=6:=by cases v;rfl
theorem xaT {l:List Pat}:∀x,x∈Pat.cs l->x.length=6:=by
 intro x hx;rw[xaR] at hx;obtain⟨y,_,rfl⟩:=List.mem_map.1 hx;exact y.c_len
mutual
def mPat:Pat->Nat
 | .mk _ _ _ _ _ ks=>zj0 ks
def zj0:List Pat->Nat
 | []=>0
 |v::r=>1+mPat v+zj0 r
end
mutual
def Pat.szM:Pat->Int
 | .mk _ _ _ _ _ ks=>5+Pats.szM ks
def Pats.szM:List Pat->Int
 | []=>0
 |v::r=>v.szM+Pats.szM r
end
mutual
def Pat.one (k:Int):Pat->Pat
 | .mk _ _ _ _ _ ks=> .mk k (k+1) (k+1+1) (k+1+1+1) (k+1+1+1+1) (Pats.one (k+1+1+1+1+1) ks)
def Pats.one (k:Int):List Pat->List Pat
 | []=>[]
 |v::r=>v.one k::Pats.one (k+v.szM) r
end
mutual
theorem Pat.szM_nn:∀v:Pat,0<=v.szM
 | .mk _ _ _ _ _ ks=>by have:=xa2 ks;simp only[Pat.szM];omega
theorem xa2:∀l:List Pat,0<=Pats.szM l
 | []=>by simp[Pats.szM]
 |v::r=>by have:=Pat.szM_nn v;have:=xa2 r;simp only[Pats.szM];omega
end
mutual
theorem Pat.szM_le:∀v:Pat,v.szM<=5+5*(mPat v:Int)
 | .mk _ _ _ _ _ ks=>by have:=xa1 ks;simp only[Pat.szM,mPat];omega
theorem xa1:∀l:List Pat,Pats.szM l<=5*(zj0 l:Int)
 | []=>by simp[Pats.szM,zj0]
 |v::r=>by have:=Pat.szM_le v;have:=xa1 r;simp only[Pats.szM,zj0];omega
end
structure Vt where
 var:Int
 ty:Ty
 deriving DecidableEq,Inhabited
abbrev Vt.c (t:Vt):List D:=[.i t.var,.i t.ty.data,.i t.ty.index]
abbrev zc7 (l:List Vt):D:= .sl (l.map Vt.c)
def zan (w:List Data) (t:Ty):List Int:=if t.data = -1 then [] else za2 w t
def zab (w:List Data) (t:Ty) (p:Pat):List Ty:=if p.op=4 then zac w t p.ctor else if p.op=5 then [t,t] else if p.op=6 then [t] else []
def ownP (w:List Data) (t:Ty) (p:Pat):Bool:=decide (((p.op=2\/p.op=6)->0<=p.var/\p.var<=5)/\(¬(p.op=2\/p.op=6)->p.var=0)/\(p.op≠3->p.n=0/\p.m=0)/\(p.op≠4->p.ctor=0)/\
 (p.op=1\/p.op=2\/p.op=5\/p.op=6\/(p.op=3/\t.data = -1/\0<=p.n/\p.n<=p.m/\p.m<=9)\/(p.op=4/\p.ctor∈zan w t)))
def okP (w:List Data) (t:Ty) (p:Pat):Bool:=ownP w t p&&decide (p.kids.length=(zab w t p).length)
def zcn (w:List Data) (t:Ty) (p:Pat):List Ty:=if p.op=4/\p.ctor∉zan w t then [] else zab w t p
def zat (w:List Data):Nat->Ty->Pat->Bool
 |0,_,_=>false
 |n+1,t,p=>ownP w t p&&all2 (zat w n) (zab w t p) p.kids
def zaO (t:Ty) (p:Pat):List Vt:=if p.op=2\/p.op=6 then [⟨p.var,t⟩] else []
def zbh (f:Ty->Pat->List Vt):List Ty->List Pat->List Vt
 |a::r,b::s=>f a b++zbh f r s
 |_,_=>[]
def zec (w:List Data) (t:Ty) (p:Pat):List Ty:=if p.op=5 then (zab w t p).take 1 else zab w t p
def zaM (w:List Data):Nat->Ty->Pat->List Vt
 |0,_,_=>[]
 |n+1,t,p=>zaO t p++zbh (zaM w n) (zec w t p) p.kids
def zbH (l:List Vt) (n:Int):Int:=idxF (fun v=>decide (v.var=n)) l 0
def zdo (a b:List Vt):Bool:=a.all (fun v=>decide (0<=zbH b v.var/\(nth b (zbH b v.var).toNat).ty=v.ty))&&decide (a.length=b.length)
def zlX (l:List Vt):Bool:=(List.range l.length).all fun(i:Nat)=>decide (zbH l (nth l i).var=(i:Int))
def zdP (a b:List Vt):Bool:=decide (a.length=b.length)&& !a.any fun v=> !decide (v∈b)
def zcR (l:List Vt):Bool:=decide (l.map Vt.var).Nodup
def linP (w:List Data):Nat->Ty->Pat->Bool
 |0,_,_=>true
 |n+1,t,p=>all2 (linP w n) (zab w t p) p.kids&&(if p.op=5 then zdo (zaM w n t (nth p.kids 0)) (zaM w n t (nth p.kids 1)) else zlX (zaM w (n+1) t p))
theorem zhe (l:List Vt) (n:Int):(zbH l n = -1/\∀v∈l,v.var≠n)\/∃k:Nat,zbH l n=k/\k<l.length/\(nth l k).var=n/\∀j,j<k->(nth l j).var≠n:=by
 have key:∀(l:List Vt) (i:Nat),(idxF (fun v=>decide (v.var=n)) l i = -1/\∀v∈l,v.var≠n)\/∃k:Nat,idxF (fun v=>decide (v.var=n)) l i=((i+k:Nat):Int)/\k<l.length/\(nth l k).var=n/\∀j,j<k->(nth l j).var≠n:=by
  intro l;induction l with
  |nil=>intro i;exact .inl ⟨I,by simp⟩
  |cons x r ih=>
   intro i;unfold idxF;by_cases h:x.var=n
   ·exact .inr ⟨0,by simp[h],by simp,by simpa [nth] using h,fun j hj=>absurd hj od⟩
   ·rcases ih (i+1) with ⟨h1,h2⟩|⟨k,h1,h2,h3,h4⟩
    ·exact .inl ⟨by simpa [h] using h1,fun v hv=>by rcases List.mem_cons.1 hv with rfl|hv;exact h;exact h2 v hv⟩
    ·refine .inr ⟨k+1, ?_,by simpa using h2,by simpa [nth] using h3,fun j hj=>?_⟩
     ·simp only[h,decide_false,Bool.false_eq_true,if_false];rw[h1];congr 1;omega
     ·cases j with
      |zero=>simpa [nth] using h
      |succ j=>simpa [nth] using h4 j od
 rcases key l 0 with h|⟨k,h1,h2⟩
 ·exact .inl h
 ·exact .inr ⟨k,by unfold zbH;simpa using h1,h2⟩
theorem zlt {l:List Vt}:(l.map Vt.var).Nodup↔∀i j,i<j->j<l.length->(nth l i).var≠(nth l j).var:=by
 unfold List.Nodup;rw[List.pairwise_iff_getElem];constructor
 ·intro h i j hij hj;have:=h i j oo (by simpa using hj) hij;simp only[List.getElem_map] at this;rw[za1 od,za1 hj];exact this
 ·intro h i j hi hj hij;simp only[xac] at hi hj;simp only[List.getElem_map];rw[<-za1 hi,<-za1 hj];exact h i j hij hj
theorem zlu {l:List Vt} (h:(l.map Vt.var).Nodup){i j:Nat} (hi:i<l.length) (hj:j<l.length) (he:(nth l i).var=(nth l j).var):i=j:=by
 have h1:=zlt.1 h;rcases Nat.lt_trichotomy i j with h2|h2|h2
 ·exact absurd he (h1 i j h2 hj)
 ·exact h2
 ·exact absurd he.symm (h1 j i h2 hi)
theorem zms (l:List Vt):zlX l=zcR l:=by
 unfold zcR;by_cases h:(l.map Vt.var).Nodup
 ·rw[xax h];refine zc5 (fun i hi=>xax ?_);rcases zhe l (nth l i).var with ⟨_,h2⟩|⟨k,h1,h2,h3,h4⟩
  ·exact absurd I (h2 _ (zao hi))
  ·rw[h1,zlu h h2 hi h3]
 ·rw[xaw h];cases hd:zlX l with
  |false=>rfl
  |true=>
   refine absurd ?_ h;rw[zlt];intro i j hij hj he;have h1:=List.all_eq_true.1 hd i (List.mem_range.2 od);have h2:=List.all_eq_true.1 hd j (List.mem_range.2 hj);simp only[xah] at h1 h2;rw[he,h2] at h1;omega
theorem zob {a b:List Vt} (hb:zcR b=true):zdo a b=zdP a b:=by
 unfold zcR at hb;simp only[xah] at hb;unfold zdo zdP;rw[Bool.and_comm];congr 1
 rw[xat];simp only[List.all_eq_true,Bool.not_eq_true',List.any_eq_false,xah,Bool.not_eq_true,decide_eq_false_iff_not,Decidable.not_not];refine forall_congr' fun v=>forall_congr' fun hv=>?_;rcases zhe b v.var with ⟨h1,h2⟩|⟨k,h1,h2,h3,h4⟩
 ·rw[h1];exact⟨fun h=>absurd h.1 od,fun h=>absurd rfl (h2 v h)⟩
 ·rw[h1];simp only[Int.toNat_natCast];constructor
  ·rintro ⟨_,h⟩
   have:nth b k=v:=by
    have e:∀x y:Vt,x.var=y.var->x.ty=y.ty->x=y:=fun x y h1 h2=>by cases x;cases y;simp_all
    exact e _ _ h3 h
   rw[<-this];exact zao h2
  ·intro h;refine⟨by omega, ?_⟩;obtain⟨j,hj,he⟩:=List.getElem_of_mem h;have h5:nth b j=v:=by rw[za1 hj];exact he
   have:=zlu hb h2 hj (by rw[h3,h5]);rw[this,h5]
def zbb (g:Ty->Pat->Int->Option (List Vt)×Int) (or:Bool):List Ty->List Pat->Nat->List Vt->Int->Option (List Vt)×Int
 |a::r,b::s,i,acc,c=>match (g a b c).1 with
  |none=>(none,(g a b c).2)
  |some l=>if or=true/\i=1 then (if zdP acc l=true then zbb g or r s (i+1) acc (g a b c).2 else (none,(g a b c).2)) else zbb g or r s (i+1) (acc++l) (g a b c).2
 |_,_,_,acc,c=>(some acc,c)
def finV (r:Option (List Vt)×Int):Option (List Vt)×Int:=match r.1 with
 |none=>r
 |some l=>if zcR l=true then r else (none,r.2)
def zaH (w:List Data):Nat->Ty->Pat->Int->Option (List Vt)×Int
 |0,_,_,c=>(none,c+1)
 |n+1,t,p,c=>if 60<c+1 then (none,c+1) else if okP w t p=true then finV (zbb (zaH w n) (decide (p.op=5)) (zab w t p) p.kids 0 (zaO t p) (c+1)) else (none,c+1)
def zbN (w:List Data) (n:Nat) (t:Ty) (p:Pat) (c:Int):Bool:=zat w n t p&&(decide (c+(p.size:Int)<=60)&&linP w n t p)
theorem zie (w:List Data):∀(n:Nat) (t:Ty) (p:Pat),zat w n t p=true->linP w n t p=true->zcR (zaM w n t p)=true
 |0,t,p,h,_=>by simp[zat] at h
 |n+1,t,p,h,hl=>by
  by_cases h5:p.op=5
  ·simp only[zat,linP,xad,if_pos h5] at h hl;have e1:zab w t p=[t,t]:=by unfold zab;rw[if_neg od,if_pos h5]
   rw[e1] at h hl;rcases hk:p.kids with _|⟨x,_|⟨y,_|⟨z,r⟩⟩⟩
   ·rw[hk] at h;simp[all2] at h
   ·rw[hk] at h;simp[all2] at h
   ·rw[hk] at h hl;simp only[all2,xad,and_true] at h hl;have:=zie w n t x h.2.1 hl.1.1;have e2:zaM w (n+1) t p=zaM w n t x:=by
     simp only[zaM,zaO,zec,e1,hk,if_pos h5];rw[if_neg od];simp[zbh]
    rw[e2];exact this
   ·rw[hk] at h;simp[all2] at h
  ·simp only[linP,if_neg h5,xad] at hl;rw[<-zms];exact hl.2
theorem zm0 {w:List Data}{n:Nat} (ih:∀t p c,((zaH w n t p c).1=if zbN w n t p c=true then some (zaM w n t p) else none)/\(zbN w n t p c=true->(zaH w n t p c).2=c+p.size)):
  ∀(a:List Ty) (b:List Pat) (i:Nat) (acc:List Vt) (c:Int),a.length=b.length->c<=60->
   ((zbb (zaH w n) false a b i acc c).1=if (all2 (zat w n) a b&&(decide (c+(Pats.size b:Int)<=60)&&all2 (linP w n) a b))=true then some (acc++zbh (zaM w n) a b) else none)/\
   ((all2 (zat w n) a b&&(decide (c+(Pats.size b:Int)<=60)&&all2 (linP w n) a b))=true->(zbb (zaH w n) false a b i acc c).2=c+Pats.size b)
 | [],[],i,acc,c,_,hc=>by simp[zbb,all2,Pats.size,zbh,hc]
 |x::r,y::s,i,acc,c,hl,hc=>by
  obtain⟨h1,h2⟩:=ih x y c;have hps:Pats.size (y::s)=y.size+Pats.size s:=rfl;simp only[zbb,zbh];by_cases hw:zbN w n x y c=true
  ·have h3:=h2 hw;rw[if_pos hw] at h1;rw[h1];simp only[Bool.false_eq_true,false_and,if_false];have h4:=hw;simp only[zbN,xad,xah] at h4;obtain⟨h5,h6⟩:=zm0 ih r s (i+1) (acc++zaM w n x y) (zaH w n x y c).2 (by simpa using hl) od;have e:(all2 (zat w n) (x::r) (y::s)&&(decide (c+(Pats.size (y::s):Int)<=60)&&all2 (linP w n) (x::r) (y::s)))=(all2 (zat w n) r s&&(decide ((zaH w n x y c).2+(Pats.size s:Int)<=60)&&all2 (linP w n) r s)):=by
    rw[all2,all2,h4.1,h4.2.2,h3];simp only[Bool.true_and];congr 2
    exact decide_eq_decide.2 od
   rw[e];refine⟨?_,fun hx=>?_⟩
   ·rw[h5,xar]
   ·rw[h6 hx,h3];omega
  ·rw[if_neg hw] at h1;rw[h1];simp only;have hf:¬(all2 (zat w n) (x::r) (y::s)&&(decide (c+(Pats.size (y::s):Int)<=60)&&all2 (linP w n) (x::r) (y::s)))=true:=fun h=>by
    simp only[all2,xad,xah] at h;refine hw ?_;simp only[zbN,xad,xah];refine⟨h.1.1, ?_,h.2.2.1⟩;have:=h.2.1;omega
   rw[if_neg hf];exact⟨rfl,fun h=>absurd h hf⟩
 | [],_::_,_,_,_,hl,_=>by simp at hl
 |_::_,[],_,_,_,hl,_=>by simp at hl
theorem zf9 (w:List Data):∀(n:Nat) (t:Ty) (p:Pat) (c:Int),((zaH w n t p c).1=if zbN w n t p c=true then some (zaM w n t p) else none)/\(zbN w n t p c=true->(zaH w n t p c).2=c+p.size)
 |0,t,p,c=>by simp[zaH,zbN,zat]
 |n+1,t,p,c=>by
  have hsz:=xaV p;unfold zaH;by_cases h1:60<c+1
  ·have hf:¬zbN w (n+1) t p c=true:=fun h=>by
    simp only[zbN,xad,xah] at h;omega
   rw[if_pos h1,if_neg hf];exact⟨rfl,fun h=>absurd h hf⟩
  rw[if_neg h1];by_cases h2:okP w t p=true
  ·rw[if_pos h2];have h2':=h2;simp only[okP,xad,xah] at h2';by_cases h5:p.op=5
   ·have e1:zab w t p=[t,t]:=by unfold zab;rw[if_neg od,if_pos h5]
    have e3:zaO t p=[]:=by unfold zaO;rw[if_neg od]
    rw[e1] at h2';rcases hk:p.kids with _|⟨x,_|⟨y,_|⟨z,r⟩⟩⟩
    ·rw[hk] at h2';simp at h2'
    ·rw[hk] at h2';simp at h2'
    ·have e4:zaM w (n+1) t p=zaM w n t x:=by
      simp only[zaM,zec,e1,hk,if_pos h5,e3];simp[zbh]
     have e5:zbN w (n+1) t p c=((zat w n t x&&zat w n t y)&&(decide (c+1+(x.size:Int)+y.size<=60)&&((linP w n t x&&linP w n t y)&&zdo (zaM w n t x) (zaM w n t y)))):=by
      simp only[zbN,zat,linP,h2'.1,e1,hk,all2,if_pos h5,Bool.and_true,Bool.true_and,nth,List.getD_cons_zero,List.getD_cons_succ];congr 2
      refine decide_eq_decide.2 ?_;rw[hsz,hk];simp only[Pats.size];push_cast;omega
     rw[e4,e5,e1,e3];obtain⟨a1,a2⟩:=zf9 w n t x (c+1);simp only[zbb,h5,decide_true];by_cases w1:zbN w n t x (c+1)=true
     ·have a3:=a2 w1;rw[if_pos w1] at a1;have b1:=w1;simp only[zbN,xad,xah] at b1;obtain⟨d1,d2⟩:=zf9 w n t y (zaH w n t x (c+1)).2;rw[a1];simp only[true_and,Nat.zero_ne_one,if_false,List.nil_append];by_cases w2:zbN w n t y (zaH w n t x (c+1)).2=true
      ·have d3:=d2 w2;rw[if_pos w2] at d1;have b2:=w2;simp only[zbN,xad,xah] at b2;rw[d1];simp only[Nat.zero_add,if_true];have n1:=zie w n t x b1.1 b1.2.2;have n2:=zie w n t y b2.1 b2.2.2;have e6:((zat w n t x&&zat w n t y)&&(decide (c+1+(x.size:Int)+y.size<=60)&&((linP w n t x&&linP w n t y)&&zdo (zaM w n t x) (zaM w n t y))))=zdP (zaM w n t x) (zaM w n t y):=by
        rw[b1.1,b2.1,b1.2.2,b2.2.2,zob n2,xax od];simp
       rw[e6];by_cases hs:zdP (zaM w n t x) (zaM w n t y)=true
       ·rw[if_pos hs,if_pos hs];simp only[finV,n1,if_true];refine⟨trivial,fun _=>?_⟩;rw[d3,a3,hsz,hk];simp only[Pats.size];push_cast;omega
       ·rw[if_neg hs,if_neg hs];simp only[finV];exact⟨trivial,fun h=>absurd h hs⟩
      ·rw[if_neg w2] at d1;rw[d1];simp only[finV];have hf:¬((zat w n t x&&zat w n t y)&&(decide (c+1+(x.size:Int)+y.size<=60)&&((linP w n t x&&linP w n t y)&&zdo (zaM w n t x) (zaM w n t y))))=true:=fun h=>by
        simp only[xad,xah] at h;refine w2 ?_;simp only[zbN,xad,xah];exact⟨h.1.2,by omega,h.2.2.1.2⟩
       rw[if_neg hf];exact⟨rfl,fun h=>absurd h hf⟩
     ·rw[if_neg w1] at a1;rw[a1];simp only[finV];have hf:¬((zat w n t x&&zat w n t y)&&(decide (c+1+(x.size:Int)+y.size<=60)&&((linP w n t x&&linP w n t y)&&zdo (zaM w n t x) (zaM w n t y))))=true:=fun h=>by
       simp only[xad,xah] at h;refine w1 ?_;simp only[zbN,xad,xah];exact⟨h.1.1,by omega,h.2.2.1.1⟩
      rw[if_neg hf];exact⟨rfl,fun h=>absurd h hf⟩
    ·rw[hk] at h2';simp at h2'
   ·have e0:(decide (p.op=5))=false:=xaw h5;rw[e0];obtain⟨a1,a2⟩:=zm0 (fun t p c=>zf9 w n t p c) (zab w t p) p.kids 0 (zaO t p) (c+1) h2'.2.symm od;have e4:zaM w (n+1) t p=zaO t p++zbh (zaM w n) (zab w t p) p.kids:=by simp only[zaM,zec,if_neg h5]
    have e5:zbN w (n+1) t p c=((all2 (zat w n) (zab w t p) p.kids&&(decide (c+1+(Pats.size p.kids:Int)<=60)&&all2 (linP w n) (zab w t p) p.kids))&&zcR (zaM w (n+1) t p)):=by
     have:decide (c+(p.size:Int)<=60)=decide (c+1+(Pats.size p.kids:Int)<=60):=decide_eq_decide.2 od;simp only[zbN,zat,linP,h2'.1,if_neg h5,Bool.true_and,zms,this,Bool.and_assoc]
    rw[e5];by_cases hw:(all2 (zat w n) (zab w t p) p.kids&&(decide (c+1+(Pats.size p.kids:Int)<=60)&&all2 (linP w n) (zab w t p) p.kids))=true
    ·rw[if_pos hw,<-e4] at a1;have a3:=a2 hw;rw[hw,Bool.true_and];unfold finV;rw[a1];by_cases hn:zcR (zaM w (n+1) t p)=true
     ·simp only[hn,if_true];exact⟨a1,fun _=>by rw[a3];omega⟩
     ·simp only[hn,Bool.false_eq_true,if_false];exact⟨trivial,fun h=>absurd h oe⟩
    ·rw[if_neg hw] at a1;have hw':(all2 (zat w n) (zab w t p) p.kids&&(decide (c+1+(Pats.size p.kids:Int)<=60)&&all2 (linP w n) (zab w t p) p.kids))=false:=by simpa using hw
     rw[hw',Bool.false_and];unfold finV;rw[a1];simp[a1]
  ·have hf:¬zbN w (n+1) t p c=true:=fun h=>by
    simp only[zbN,zat,xad,xah] at h;refine h2 ?_;simp only[okP,xad,xah];refine⟨h.1.1, ?_⟩;by_cases hl:(zab w t p).length=p.kids.length
    ·exact hl.symm
    ·have:=zg4 (f:=zat w n) hl;rw[this] at h;simp at h
   rw[if_neg h2,if_neg hf];exact⟨rfl,fun h=>absurd h hf⟩
mutual
def cntP (m:Int):Pat->Int
 | .mk _ _ _ _ _ ks=>zcN m 1 ks
def zcN (m n:Int):List Pat->Int
 | []=>n
 |k::r=>if n<=m then zcN m (n+cntP (m-n) k) r else n
end
theorem zrx (m:Int) (v:Pat):cntP m v=zcN m 1 v.kids:=by cases v;rfl
theorem zjL {m n:Int}{l:List Pat} (h:¬n<=m):zcN m n l=n:=by cases l<;>simp[zcN,h]
mutual
theorem ziE:∀(v:Pat) (m:Int),1<=cntP m v/\cntP m v<=v.size
 | .mk _ _ _ _ _ ks,m=>by
  have:=zi5 ks m 1 od;simp only[cntP,Pat.size];push_cast;omega
theorem zi5:∀(l:List Pat) (m n:Int),1<=n->1<=zcN m n l/\zcN m n l<=n+Pats.size l
 | [],m,n,h=>by simp[zcN,Pats.size];omega
 |k::r,m,n,h=>by
  have h1:=ziE k (m-n);have h2:=zi5 r m (n+cntP (m-n) k) od;simp only[zcN,Pats.size];split
  ·push_cast;omega
  ·push_cast;omega
end
mutual
theorem zmo:∀(v:Pat) (m:Int),(cntP m v<=m↔(v.size:Int)<=m)/\(cntP m v<=m->cntP m v=v.size)
 | .mk _ _ _ _ _ ks,m=>by
  have:=zla ks m 1;simp only[cntP,Pat.size];push_cast;exact this
theorem zla:∀(l:List Pat) (m n:Int),(zcN m n l<=m↔n+(Pats.size l:Int)<=m)/\(zcN m n l<=m->zcN m n l=n+Pats.size l)
 | [],m,n=>by simp[zcN,Pats.size]
 |k::r,m,n=>by
  have h1:=zmo k (m-n);have h2:=zla r m (n+cntP (m-n) k);have h3:=zi5 r m (n+cntP (m-n) k);have h4:=ziE k (m-n);simp only[zcN,Pats.size];push_cast
  by_cases hn:n<=m
  ·rw[if_pos hn];by_cases h5:cntP (m-n) k<=m-n
   ·have h6:=h1.2 h5;rw[h6] at h2 ⊢;constructor
    ·rw[h2.1];constructor<;>intro h<;>omega
    ·intro h;rw[h2.2 h];omega
   ·have h7:¬(k.size:Int)<=m-n:=fun h=>h5 (h1.1.2 h);have h8:¬n+cntP (m-n) k<=m:=by omega
    rw[zjL h8];constructor
    ·constructor<;>intro h<;>omega
    ·intro h;omega
  ·rw[if_neg hn];constructor
   ·constructor<;>intro h<;>omega
   ·intro h;omega
end
theorem xa0 {pre rest l:List Pat}{y:Pat} (h:pre++y::rest=l):Pats.size l=Pats.size pre+y.size+Pats.size rest:=by
 subst h;induction pre with
 |nil=>simp[Pats.size]
 |cons x r ih=>simp only[xai,Pats.size,ih];omega
theorem zen {l:List Pat}{i:Nat} (h:i<l.length):(nth l i).size<=Pats.size l:=xaY (zao h)
theorem zj9 {l:List Pat}{i:Nat} (h:i<l.length):Pats.size (l.drop i)=(nth l i).size+Pats.size (l.drop (i+1)):=by
 rw[zbc h];rfl
theorem o0{p:Prop}(h:p:=by dsimp only;omega):p:=h
theorem zeI:∀(n:Nat){v:Pat}{m:Int},v.size<=n->v.size<=1000000000000->v.ok->0<=m->m<=1000000000000->FnD Tryz.prog 187 [.agg [.d (.i v.op),.d (.i v.ctor),.d (.i v.n),.d (.i v.m),.d (.i v.var),.d (zax v.kids)],.d (.i m)] [] (.d (.i (cntP m v))) []
 |0,v,m,h,_,_,_,_=>by rw[xaV] at h;omega
 |n+1,v,m,h,hb,hok,m0,m1=>by
  rw[xaV] at h hb;rw[xaU] at hok;rw[zrx];refine bd Tryz.f187 31 [] [] fun _ _ _ _ hk=>?_;refine bx 3002 ?_;refine ev (xaA (ι:=Nat×Int) hk (fun x=>[(6,.d (.i (x.1:Int))),(5,.d (.i x.2))]) [7,8,9,10,11,12,13,14,15,16,17,18,19,20,21,22,23,24,25,26,27,28,29] (fun x=>[]) (fun x=>x.1<=v.kids.length/\zcN m x.2 (v.kids.drop x.1)=zcN m 1 v.kids/\1<=x.2/\x.2+Pats.size (v.kids.drop x.1)<=1+Pats.size v.kids) (fun x=>v.kids.length-x.1) (0,1) ⟨by simp,by simp,by simp,by simp⟩ ⟨⟨_,I,xaK ?_⟩,⟨⟨_,I,xaK ?_⟩,O⟩⟩ O (fun x=>rfl) (fun x hg1=>?_));iterate 2 focus (rfl)
  refine evc [] [] ?_;apply sq<;>intro h1 h1p h1s<;>(try simp only[Q,xaS] at h1p);apply sq<;>intro h2 h2p h2s<;>(try simp only[Q,xaS] at h2p);refine ixq sl58 I I I (zbT od) I ?_;refine ev (ar ?_ (by(constructor<;>omega)));refine wc zmg (zeI n (v:=nth v.kids x.1) (by have:=zen (l:=v.kids) (i:=x.1) od;omega) (by have:=zen (l:=v.kids) (i:=x.1) od;omega) (xaX hok.2 _ (zao od)) od od) I I ?_;refine ev (ar ?_ (by(have hz:=ziE (nth v.kids x.1) (m-x.2);have hs:=zj9 (l:=v.kids) (i:=x.1) od;constructor<;>omega)));refine ar ?_ (by(constructor<;>omega));refine xaj ((x.1+1,x.2+cntP (m-x.2) (nth v.kids x.1))) ⟨(by
      have hz:=ziE (nth v.kids x.1) (m-x.2);have hs:=zj9 (l:=v.kids) (i:=x.1) od;refine⟨by dsimp only;omega, ?_,by dsimp only;omega,by dsimp only;omega⟩;rw[<-hg1.2.1,zbc (l:=v.kids) (i:=x.1) od,zcN,if_pos od]),o0,sx ⟨⟨_,rfl,xaK ?_⟩,⟨⟨_,rfl,xaK ?_⟩,trivial⟩⟩ trivial⟩
  iterate 2 focus (rfl)
  refine rq ?_;rotate_left;refine sqF ?_;refine rq ?_;rotate_left;all_goals (refine xam D.i ?_;rw[<-hg1.2.1];first|(rw[List.drop_eq_nil_of_le od];rfl)|(rw[zjL od]))
set_option maxHeartbeats 4000000
theorem zgA {w:List Data}{d:Nat}{k:Int}:zan w ⟨d,k⟩=za2 w ⟨d,k⟩:=by unfold zan;rw[if_neg (by simp only;omega)]
theorem zfK {w:List Data}{k:Int}:zan w ⟨-1,k⟩=[]:=by unfold zan;rw[if_pos rfl]
theorem zd4 {w:List Data} (hw:WT w){a k:Int} (ht:TyIn w.length ⟨a,k⟩):(zan w ⟨a,k⟩).length<=1000000000000:=by
 rcases ht with ha|⟨d,hd,hlt⟩
 ·simp only at ha;subst ha;rw[zfK];exact Nat.zero_le _
 ·simp only at hd;subst hd;rw[zgA];exact zne hw
theorem za7 {w:List Data}{a k c:Int} (ht:TyIn w.length ⟨a,k⟩) (h:c∈zan w ⟨a,k⟩):∃d:Nat,a=d/\d<w.length/\PlaceIn w d c:=by
 rcases ht with ha|⟨d,hd,hlt⟩
 ·simp only at ha;subst ha;rw[zfK] at h;simp at h
 ·simp only at hd;subst hd;rw[zgA] at h;exact⟨d,rfl,hlt,zmQ h⟩
theorem zdg {w:List Data} (hw:WT w){a k:Int}{p:Pat} (ht:TyIn w.length ⟨a,k⟩) (h:ownP w ⟨a,k⟩ p=true):∀t∈zab w ⟨a,k⟩ p,TyIn w.length t:=by
 intro t hm;unfold zab at hm;split at hm
 ·rename_i h4;unfold ownP at h;have h':=xas h;have hc:p.ctor∈zan w ⟨a,k⟩:=by
   rcases h'.2.2.2.2 with h|h|h|h|h|h
   ·omega
   ·omega
   ·omega
   ·omega
   ·omega
   ·exact h.2
  obtain⟨d,rfl,h1,h2⟩:=za7 ht hc;exact zhP hw h1 h2 hm
 ·split at hm
  ·simp only[List.mem_cons,xau,or_false] at hm;rcases hm with rfl|rfl<;>exact ht
  ·split at hm
   ·simp only[List.mem_cons,xau,or_false] at hm;subst hm;exact ht
   ·simp at hm
theorem zfJ {w:List Data} (hw:WT w){a k:Int}{p:Pat} (ht:TyIn w.length ⟨a,k⟩) (h:p.op=4->p.ctor∈zan w ⟨a,k⟩):(zab w ⟨a,k⟩ p).length<=1000000000000:=by
 unfold zab;split
 ·rename_i h4;obtain⟨d,rfl,h1,h2⟩:=za7 ht (h h4);exact zg5 hw h1 h2
 ·split
  ·simp
  ·split<;>simp
def ze7 (op:Int):Int:=if op=5 then 2 else if op=6 then 1 else if op=4 then -1 else 0
theorem zk4 {op:Int}:FnD Tryz.prog 280 [.d (.i op)] [] (.d (.i (ze7 op))) []:=by
 refine bd Tryz.f280 10 [] [] fun _ _ _ _ hk=>?_;apply sq<;>intro h1 h1p h1s;refine rq ?_;rotate_left;apply sq<;>intro h2 h2p h2s;refine rq ?_;rotate_left;apply sq<;>intro h3 h3p h3s;refine rq ?_;rotate_left;refine rq ?_;rotate_left;all_goals (refine xam D.i ?_;simp only[ze7];simp_all)
theorem zbU {w:List Data} (hw:WT w){a k:Int} (ht:TyIn w.length ⟨a,k⟩):FnD Tryz.prog 243 [.d (zah w),.agg [.d (.i a),.d (.i k)]] [] (.d (zcx (zan w ⟨a,k⟩))) []:=by
 rcases ht with ha|⟨d,hd,hlt⟩
 ·simp only at ha;subst ha;rw[zfK];exact zhL
 ·simp only at hd;subst hd;rw[zgA];exact zkf hw hlt
theorem zck {w:List Data} (hw:WT w){a k c:Int} (ht:TyIn w.length ⟨a,k⟩) (hc:c∈zan w ⟨a,k⟩):FnD Tryz.prog 159 [.d (zah w),.agg [.d (.i a),.d (.i k)],.d (.i c)] [] (.d (zbK (zac w ⟨a,k⟩ c))) []:=by
 obtain⟨d,rfl,h1,h2⟩:=za7 ht hc;exact zkS hw h1 h2
theorem zfp {w:List Data} (hw:WT w){a k:Int}{p:Pat} (ht:TyIn w.length ⟨a,k⟩):
  FnD Tryz.prog 256 [.d (zah w),.agg [.d (.i a),.d (.i k)],.agg [.d (.i p.op),.d (.i p.ctor),.d (.i p.n),.d (.i p.m),.d (.i p.var),.d (zax p.kids)]] [] (.d (.bool (ownP w ⟨a,k⟩ p))) []:=by
 have hcl:=zd4 hw ht;refine bd Tryz.f256 96 [] [1,2,4,13] fun _ _ _ _ hk=>?_;refine bx 3004 ?_;refine bx 3005 ?_;refine ev (xaC (xbh 8 [(15,.d (.bool (decide (p.op=2\/p.op=6))))] [8,9,10,11,12,13,14] ?_ ?_));refine ev ?_;apply sq<;>intro h1 h1p h1s;exact jnb I;exact jnb I;refine xbg (ev (xaC (xbh 11 [(26,.d (.bool (decide ((p.op=2\/p.op=6)/\(p.var<0\/5<p.var)))))] [16,17,18,19,20,21,22,23,24,25] ?_ ?_)));refine ev ?_;apply sq<;>intro h2 h2p h2s;apply sq<;>intro h3 h3p h3s;exact jnb I;exact jnb I;exact jnb I;refine xbh 9 [(35,.d (.bool (decide ((p.op=2\/p.op=6)/\(p.var<0\/5<p.var)\/¬(p.op=2\/p.op=6)/\p.var≠0))))] [27,28,29,30,31,32,33,34] ?_ ?_;refine ev ?_;apply sq<;>intro h4 h4p h4s;exact jnb I;apply sq<;>intro h5 h5p h5s;exact jnb I;exact jnb I;refine xbg ?_;apply tv;apply sq<;>intro h6 h6p h6s;refine rq ?_;rotate_left;refine xaC (xbh 13 [(48,.d (.bool (decide (p.op≠3/\(p.n≠0\/p.m≠0)))))] [36,37,38,39,40,41,42,43,44,45,46,47] ?_ ?_);refine ev ?_;apply sq<;>intro h7 h7p h7s;apply sq<;>intro h8 h8p h8s;exact jnb I;exact jnb I;exact jnb I;refine xbh 10 [(58,.d (.bool (decide (p.op≠3/\(p.n≠0\/p.m≠0)\/p.op≠4/\p.ctor≠0))))] [49,50,51,52,53,54,55,56,57] ?_ ?_;refine ev ?_;apply sq<;>intro h9 h9p h9s;exact jnb I;apply sq<;>intro h10 h10p h10s;exact jnb I;exact jnb I;refine xbg ?_;apply tv;apply sq<;>intro h11 h11p h11s;refine rq ?_;rotate_left;apply sq<;>intro h12 h12p h12s;apply sq<;>intro h13 h13p h13s;refine rq ?_;rotate_left;apply sq<;>intro h14 h14p h14s;refine xaC (xbh 8 [(75,.d (.bool (decide (a = -1/\0<=p.n))))] [68,69,70,71,72,73,74] ?_ ?_);refine ev ?_;apply sq<;>intro h15 h15p h15s;exact jnb I;exact jnb I;refine xbh 7 [(82,.d (.bool (decide (a = -1/\0<=p.n/\p.n<=p.m))))] [76,77,78,79,80,81] ?_ ?_;refine ev ?_;apply sq<;>intro h16 h16p h16s;exact jnb I;exact jnb I;refine xbh 5 [(87,.d (.bool (decide (a = -1/\0<=p.n/\p.n<=p.m/\p.m<=9))))] [83,84,85,86] ?_ ?_;refine ev ?_;apply sq<;>intro h17 h17p h17s;exact jnb I;exact jnb I;refine xbg (ev (rq ?_));rotate_left;apply sq<;>intro h18 h18p h18s;refine wc zfc (zbU hw ht) I I ?_;refine evd [] [] (wc zjE (zee hcl) I I ?_);refine evd [] [] (dr (rq ?_));rotate_left;refine rq ?_;rotate_left;apply sq<;>intro h19 h19p h19s;apply sq<;>intro h20 h20p h20s;refine rq ?_;rotate_left;apply sq<;>intro h21 h21p h21s;refine xaC (xbh 8 [(75,.d (.bool (decide (a = -1/\0<=p.n))))] [68,69,70,71,72,73,74] ?_ ?_);refine ev ?_;apply sq<;>intro h22 h22p h22s;exact jnb I;exact jnb I;refine xbh 7 [(82,.d (.bool (decide (a = -1/\0<=p.n/\p.n<=p.m))))] [76,77,78,79,80,81] ?_ ?_;refine ev ?_;apply sq<;>intro h23 h23p h23s;exact jnb I;exact jnb I;refine xbh 5 [(87,.d (.bool (decide (a = -1/\0<=p.n/\p.n<=p.m/\p.m<=9))))] [83,84,85,86] ?_ ?_;refine ev ?_;apply sq<;>intro h24 h24p h24s;exact jnb I;exact jnb I;refine xbg (ev (rq ?_));rotate_left;apply sq<;>intro h25 h25p h25s;refine wc zfc (zbU hw ht) I I ?_;refine evd [] [] (wc zjE (zee hcl) I I ?_);refine evd [] [] (dr (rq ?_));rotate_left;refine rq ?_;rotate_left;apply sq<;>intro h26 h26p h26s;apply sq<;>intro h27 h27p h27s;refine rq ?_;rotate_left;apply sq<;>intro h28 h28p h28s;refine xaC (xbh 8 [(75,.d (.bool (decide (a = -1/\0<=p.n))))] [68,69,70,71,72,73,74] ?_ ?_);refine ev ?_;apply sq<;>intro h29 h29p h29s;exact jnb I;exact jnb I;refine xbh 7 [(82,.d (.bool (decide (a = -1/\0<=p.n/\p.n<=p.m))))] [76,77,78,79,80,81] ?_ ?_;refine ev ?_;apply sq<;>intro h30 h30p h30s;exact jnb I;exact jnb I;refine xbh 5 [(87,.d (.bool (decide (a = -1/\0<=p.n/\p.n<=p.m/\p.m<=9))))] [83,84,85,86] ?_ ?_;refine ev ?_;apply sq<;>intro h31 h31p h31s;exact jnb I;exact jnb I;refine xbg (ev (rq ?_));rotate_left;apply sq<;>intro h32 h32p h32s;refine wc zfc (zbU hw ht) I I ?_;refine evd [] [] (wc zjE (zee hcl) I I ?_);refine evd [] [] (dr (rq ?_));rotate_left;refine rq ?_;rotate_left;apply sq<;>intro h33 h33p h33s;refine rq ?_;rotate_left;apply sq<;>intro h34 h34p h34s;refine xaC (xbh 8 [(75,.d (.bool (decide (a = -1/\0<=p.n))))] [68,69,70,71,72,73,74] ?_ ?_);refine ev ?_;apply sq<;>intro h35 h35p h35s;exact jnb I;exact jnb I;refine xbh 7 [(82,.d (.bool (decide (a = -1/\0<=p.n/\p.n<=p.m))))] [76,77,78,79,80,81] ?_ ?_;refine ev ?_;apply sq<;>intro h36 h36p h36s;exact jnb I;exact jnb I;refine xbh 5 [(87,.d (.bool (decide (a = -1/\0<=p.n/\p.n<=p.m/\p.m<=9))))] [83,84,85,86] ?_ ?_;refine ev ?_;apply sq<;>intro h37 h37p h37s;exact jnb I;exact jnb I;refine xbg (ev (rq ?_));rotate_left;apply sq<;>intro h38 h38p h38s;refine wc zfc (zbU hw ht) I I ?_;refine evd [] [] (wc zjE (zee hcl) I I ?_);refine evd [] [] (dr (rq ?_));rotate_left;refine rq ?_;rotate_left;all_goals (refine xam D.bool ?_;unfold ownP;rw[xat];by_cases hmem:p.ctor∈zan w ⟨a,k⟩<;>(simp only[hmem,and_true,and_false,or_false,xah,xad,Bool.false_eq_true,true_iff,false_iff];simp only[xah,decide_eq_false_iff_not] at *;omega))
theorem zcU {w:List Data} (hw:WT w){a k:Int}{p:Pat} (ht:TyIn w.length ⟨a,k⟩) (h:p.op=4->p.ctor∈zan w ⟨a,k⟩):
  FnD Tryz.prog 229 [.d (zah w),.agg [.d (.i a),.d (.i k)],.agg [.d (.i p.op),.d (.i p.ctor),.d (.i p.n),.d (.i p.m),.d (.i p.var),.d (zax p.kids)]] [] (.d (zbK (zab w ⟨a,k⟩ p))) []:=by
 by_cases h4:p.op=4
 ·have e:zab w ⟨a,k⟩ p=zac w ⟨a,k⟩ p.ctor:=by unfold zab;rw[if_pos h4]
  rw[e];refine bd Tryz.f229 30 [] [] fun _ _ _ _ hk=>?_;refine bx 3004 ?_;refine bx 3005 ?_;refine ev ?_;apply sq<;>intro h1 h1p h1s;refine wc zb7 (zck hw ht (h h4)) I I ?_;refine ev (rq ?_);rotate_left;exfalso;simp_all;all_goals (rfl)
 ·have e:zab w ⟨a,k⟩ p=List.replicate (ze7 p.op).toNat ⟨a,k⟩:=by
   unfold zab ze7;rw[if_neg h4];by_cases h5:p.op=5
   ·rw[if_pos h5,if_pos h5];rfl
   ·rw[if_neg h5,if_neg h5];by_cases h6:p.op=6
    ·rw[if_pos h6,if_pos h6];rfl
    ·rw[if_neg h6,if_neg h6,if_neg h4];rfl
  have hb:0<=ze7 p.op/\ze7 p.op<=2:=by unfold ze7;split<;>(try split)<;>(try split)<;>omega
  rw[e];refine bd Tryz.f229 30 [] [] fun _ _ _ _ hk=>?_;refine bx 3004 ?_;refine bx 3005 ?_;refine ev ?_;apply sq<;>intro h1 h1p h1s;exfalso;simp_all;refine xbR 5 zaJ .none I I (ev (xaA (ι:=Nat) hk (fun i=>[(8,.d (.i (i:Int))),(7,.gl 5 ((List.replicate i (⟨a,k⟩:Ty)).map Ty.c))]) [18,19,20,21,22,23,24,25,26,27,28] (fun i=>[(5,some (.tok (((List.replicate i (⟨a,k⟩:Ty)).map Ty.c)).length 2))]) (fun i=>(i:Int)<=ze7 p.op) (fun i=>(ze7 p.op).toNat-i) 0 od ⟨⟨_,I,xaK ?_⟩,⟨⟨_,I,LeA.glg ?_⟩,O⟩⟩ ⟨zag ?_,O⟩ (fun x=>rfl) (fun i hg1=>?_)));iterate 3 focus (rfl)
  refine evc [] [] (wc zsD zk4 I I ?_);refine ev ?_;apply sq<;>intro h2 h2p h2s<;>(try simp only[Q] at h2p);refine si [0] [_] zaJ tz38 ?_;refine ap zaJ zz38 I I I oe oo ?_;refine ev (ar (xaj (i+1) ⟨od,od,sx ⟨⟨_,I,xaK ?_⟩,⟨⟨_,I,LeA.glg ?_⟩,O⟩⟩ ⟨zag ?_,O⟩⟩));iterate 3 focus ((simp[List.replicate_succ'];done))
  refine rn0 (r1 I) (.gld ?_);rotate_left;all_goals ((obtain rfl:i=(ze7 p.op).toNat:=by omega);simp)
theorem zcr {w:List Data}{n:Nat}{t:Ty}{p:Pat} (h:zat w (n+1) t p=true):ownP w t p=true/\p.kids.length=(zab w t p).length:=by
 simp only[zat,xad] at h;refine⟨h.1, ?_⟩;by_cases hl:(zab w t p).length=p.kids.length
 ·exact hl.symm
 ·rw[zg4 hl] at h;simp at h
theorem zcD {w:List Data}{t:Ty}{p:Pat} (h:ownP w t p=true):p.op=4->p.ctor∈zan w t:=by
 intro h4;unfold ownP at h;have h':=(xas h).2.2.2.2;rcases h' with h|h|h|h|h|h
 ·omega
 ·omega
 ·omega
 ·omega
 ·omega
 ·exact h.2
theorem zmM {w:List Data}{t:Ty}{p:Pat} (h:ownP w t p=true):(p.op=2\/p.op=6)->0<=p.var/\p.var<=5:=by
 unfold ownP at h;exact(xas h).1
theorem zeJ {w:List Data} (hw:WT w):∀(n:Nat){a k m:Int}{p:Pat},m=n->n<=1000->TyIn w.length ⟨a,k⟩->p.ok->
  FnD Tryz.prog 186 [.d (zah w),.agg [.d (.i a),.d (.i k)],.agg [.d (.i p.op),.d (.i p.ctor),.d (.i p.n),.d (.i p.m),.d (.i p.var),.d (zax p.kids)],.d (.i m)] [] (.d (.bool (zat w n ⟨a,k⟩ p))) []
 |0,a,k,m,p,hm,_,ht,hok=>by
  refine bd Tryz.f186 50 [] [1] fun _ _ _ _ hk=>?_;refine bx 3005 ?_;refine bx 3006 ?_;refine ev (xaC (xbh 9 [(19,.d (.bool true))] [11,12,13,14,15,16,17,18] ?_ ?_));refine ev ?_;apply sq<;>intro h1 h1p h1s;exact jnb I;refine Walk.call (cr:=[]) zml (zfp hw ht) I (.some I I h1) I I (LeL.refl _) O I I I (evs [] [(13,false)] ?_ ⟨⟨_,I,h1⟩,O⟩);exact jnb I;refine xbg ?_;apply tv;apply sq<;>intro h2 h2p h2s;refine rq ?_;rotate_left;exact absurd h2 oe;all_goals (rfl)
 |n+1,a,k,m,p,hm,hn,ht,hok=>by
  rw[xaU] at hok;by_cases ho:ownP w ⟨a,k⟩ p=true
  ·have hin:=zdg hw ht ho;have hlen:=zfJ hw ht (zcD ho);refine bd Tryz.f186 50 [] [1] fun _ _ _ _ hk=>?_;refine bx 3005 ?_;refine bx 3006 ?_;refine ev (xaC (xbh 9 [(19,.d (.bool false))] [11,12,13,14,15,16,17,18] ?_ ?_));refine ev ?_;apply sq<;>intro h1 h1p h1s;exact jnb I;refine Walk.call (cr:=[]) zml (zfp hw ht) I (.some I I h1) I I (LeL.refl _) O I I I (evs [] [(13,false)] ?_ ⟨⟨_,I,h1⟩,O⟩);exact jnb I;refine xbg ?_;apply tv;apply sq<;>intro h2 h2p h2s;exact absurd h2 oe;refine wc zhS (zcU hw ht (zcD ho)) I I ?_;refine ev ?_;apply sq<;>intro h3 h3p h3s;refine rq ?_;rotate_left;try simp only[Q,xaS] at h3p
   refine xaA (ι:=Nat) hk (fun i=>[(10,.d (.i (i:Int)))]) [8,30,31,32,33,34,35,36,37,38,39,40,41,42,43,44,45,46,47,48,49] (fun i=>[]) (fun i=>i<=(zab w ⟨a,k⟩ p).length/\∀i',i'<i->zat w n (nth (zab w ⟨a,k⟩ p) i') (nth p.kids i')=true) (fun i=>(zab w ⟨a,k⟩ p).length-i) 0 ⟨by omega,fun _ h=>absurd h od⟩ ⟨⟨_,I,xaK ?_⟩,O⟩ O (fun x=>rfl) (fun i hg1=>?_);focus (first|(simp;done)|(simp_all;done))
   refine evc [] [1] ?_;apply sq<;>intro h4 h4p h4s;try simp only[Q,xaS] at h4p
   refine ixq zaJ I I I (zam od) I ?_;refine evd [] [] (ixq sl58 I I I (zbT od) I ?_);refine evd [] [] (ar (wc zmf (zeJ hw n od od (hin _ (zao od)) (xaX hok.2 _ (zao od))) I I ?_));refine evd [] [] (dr ?_);apply sq<;>intro h5 h5p h5s;refine rq ?_;rotate_left;try simp only[Q,xaS] at h5p
   refine ar (xaj (i+1) ⟨⟨by omega,za5 hg1.2 ol⟩,od,sx ⟨⟨_,I,xaK ?_⟩,O⟩ O⟩);focus (first|(simp;done)|(simp_all;done))
   refine rq ?_;rotate_left;all_goals (refine xam D.bool ?_;unfold zat;rw[ho,Bool.true_and];first|(rw[zg4 (by simp[xaS] at *;omega)])|(rw[zfi (by simp[xaS] at *;omega) (fun x hx=>hg1.2 x (by simp[xaS] at *;omega))])|(rw[zdU (i:=i) (by simp[xaS] at *;omega) (by simp[xaS] at *;omega) ol]))
  ·have ho':ownP w ⟨a,k⟩ p=false:=by simpa using ho
   refine bd Tryz.f186 50 [] [1] fun _ _ _ _ hk=>?_;refine bx 3005 ?_;refine bx 3006 ?_;refine ev (xaC (xbh 9 [(19,.d (.bool true))] [11,12,13,14,15,16,17,18] ?_ ?_));refine ev ?_;apply sq<;>intro h1 h1p h1s;exact jnb I;refine Walk.call (cr:=[]) zml (zfp hw ht) I (.some I I h1) I I (LeL.refl _) O I I I (evs [] [(13,false)] ?_ ⟨⟨_,I,h1⟩,O⟩);exact jnb I;refine xbg ?_;apply tv;apply sq<;>intro h2 h2p h2s;refine rq ?_;rotate_left;exact absurd h2 oe;all_goals (refine xam D.bool ?_;unfold zat;rw[ho'];rfl)
theorem zg1 {l:List Vt}{n:Int} (h:l.length<=1000000000000):FnD Tryz.prog 240 [.d (zc7 l),.d (.i n)] [] (.d (.i (zbH l n))) []:=by
 refine bd Tryz.f240 20 [] [] fun _ _ _ _ hk=>?_;refine xaA (ι:=List (Vt)×List (Vt)) hk (fun x=>[(5,.d (.i (x.1.length:Int)))]) [4,6,7,8,9,10,11,12,13,14,15,16,17,18,19] (fun x=>[]) (fun x=>x.1++x.2=l/\idxF (fun v=>decide (v.var=n)) x.2 x.1.length=idxF (fun v=>decide (v.var=n)) l 0) (fun x=>x.2.length) ([],l) ⟨by simp,I⟩ ⟨⟨_,I,xaK ?_⟩,O⟩ O (fun x=>rfl) (fun x hg1=>?_);focus (rfl)
 obtain⟨pre,rest⟩:=x;dsimp only at hg1 ⊢;refine evc [] [] ?_;apply sq<;>intro h1 h1p h1s<;>(try simp only[Q] at h1p);rcases rest with _|⟨y,rest⟩
 ·exfalso;simp_all
 refine ixq sl36 I I I (zaI hg1.1) I (ev ?_);apply sq<;>intro h2 h2p h2s<;>(try simp only[Q] at h2p);focus (refine rq ?_;all_goals (refine xam D.i ?_;unfold zbH;rw[<-hg1.2];simp[idxF,h1s,h1p,h2s,h2p]))
 refine ar (xaj ((pre++[y],rest)) ⟨⟨(by have hz:=hg1.1;rw[<-hz];simp),(by rw[<-hg1.2];simp_all[idxF])⟩,oe,sx ⟨⟨_,I,xaK ?_⟩,O⟩ O⟩);focus ((simp;done))
 have hrest:rest=[]:=by
  rcases rest with _|⟨a,b⟩
  ·rfl
  ·exfalso;have hz:=xam List.length (hg1.1);simp only[xaa,xab,xac] at hz;omega
 subst hrest;focus (refine rq ?_;all_goals (refine xam D.i ?_;unfold zbH;rw[<-hg1.2];simp[idxF,h1s,h1p]))
theorem znc {a b:List Vt}{i:Nat} (h:i<a.length) (h2:¬(0<=zbH b (nth a i).var/\(nth b (zbH b (nth a i).var).toNat).ty=(nth a i).ty)):zdo a b=false:=by
 unfold zdo;have:(a.all fun v=>decide (0<=zbH b v.var/\(nth b (zbH b v.var).toNat).ty=v.ty))=false:=List.all_eq_false.2 ⟨_,zao h,by simpa using h2⟩;rw[this,Bool.false_and]
theorem zoc {a b:List Vt} (h:∀i,i<a.length->0<=zbH b (nth a i).var/\(nth b (zbH b (nth a i).var).toNat).ty=(nth a i).ty):zdo a b=decide (a.length=b.length):=by
 unfold zdo;have:(a.all fun v=>decide (0<=zbH b v.var/\(nth b (zbH b v.var).toNat).ty=v.ty))=true:=by
  rw[List.all_eq_true];intro v hv;obtain⟨j,hj,he⟩:=List.getElem_of_mem hv;have:=h j hj;rw[za1 hj,he] at this;exact xax this
 rw[this,Bool.true_and]
theorem zmw {l:List Vt}{n:Int} (h:0<=zbH l n):(zbH l n).toNat<l.length/\((zbH l n).toNat:Int)=zbH l n:=by
 rcases zhe l n with ⟨h1,_⟩|⟨k,h1,h2,_⟩
 ·omega
 ·rw[h1];simpa using h2
theorem zp8 {t u:Ty}:t=u↔t.data=u.data/\t.index=u.index:=by
 cases t;cases u;simp
theorem zkp {x y:List Vt} (hx:x.length<=1000000000000) (hy:y.length<=1000000000000):FnD Tryz.prog 257 [.d (zc7 x),.d (zc7 y)] [] (.d (.bool (zdo x y))) []:=by
 refine bd Tryz.f257 40 [33] [] fun _ _ _ _ hk=>?_;refine xaA (ι:=Nat) hk (fun i=>[(5,.d (.i (i:Int)))]) [4,6,7,8,9,10,11,12,13,14,15,16,17,18,19,20,21,22,23,24,25,26,27,28,29,30,31,32,33,34] (fun i=>[]) (fun i=>i<=x.length/\∀j,j<i->0<=zbH y (nth x j).var/\(nth y (zbH y (nth x j).var).toNat).ty=(nth x j).ty) (fun i=>x.length-i) 0 ⟨by omega,fun _ h=>absurd h od⟩ ⟨⟨_,I,xaK ?_⟩,O⟩ O (fun x=>rfl) (fun i hg1=>?_);focus (rfl)
 refine evc [33] [] ?_;apply sq<;>intro h1 h1p h1s<;>(try simp only[Q] at h1p);refine ixq sl36 I I I (zam od) I ?_;refine evs [33] [] (wc zo6 (zg1 hy) I I ?_);refine evs [33] [] ?_;apply sq<;>intro h2 h2p h2s<;>(try simp only[Q] at h2p);refine dr (sqT ?_);refine rq ?_;rotate_left;refine xbz (i:=(zbH y (nth x i).var).toNat) sl36 (.some I I h2) I I I (zmw (l:=y) (n:=(nth x i).var) od).2.symm (zam (by exact(zmw (l:=y) (n:=(nth x i).var) od).1)) I ?_;refine evd [33] [(22,false)] ?_ ⟨⟨_,I,h2⟩,O⟩;refine xbz sl36 (.some I I h2) I I I I (zam od) I ?_;refine evd [33] [(22,false)] ?_ ⟨⟨_,I,h2⟩,O⟩;refine Walk.neV eq38 (.some I I h2) I I I I I (evd [33] [(22,false)] ?_ ⟨⟨_,I,h2⟩,O⟩);refine dr ?_;apply sq<;>intro h4 h4p h4s<;>(try simp only[Q] at h4p);refine rq ?_;rotate_left;refine ar (xaj (i+1) ⟨⟨by omega,za5 hg1.2 (by rw[zp8];first|omega|(simp at h4;omega))⟩,od,sx ⟨⟨_,I,xaK ?_⟩,O⟩ O⟩);focus (rfl)
 refine rq ?_;rotate_left;all_goals (refine xam D.bool ?_;first|(refine(znc (i:=i) od ?_).symm;simp only[zp8];first|omega|(simp at h4;omega))|(rw[zoc (fun j hj=>hg1.2 j (by simp at h1p;omega))];exact decide_eq_decide.2 oo))
theorem ziy {f:Ty->Pat->List Vt} (hf:∀t p,(f t p).length<=p.size):∀(a:List Ty) (b:List Pat),(zbh f a b).length<=Pats.size b
 | [],[]=>by simp[zbh]
 | [],_::_=>by simp[zbh]
 |_::_,[]=>by simp[zbh]
 |x::r,y::s=>by
  have h1:=ziy hf r s;have h2:=hf x y;simp only[zbh,xaa,Pats.size];omega
theorem zes (w:List Data):∀(n:Nat) (t:Ty) (p:Pat),(zaM w n t p).length<=p.size
 |0,t,p=>by simp[zaM]
 |n+1,t,p=>by
  have h1:=ziy (zes w n) (zec w t p) p.kids;have h2:(zaO t p).length<=1:=by unfold zaO;split<;>simp
  rw[xaV];simp only[zaM,xaa];omega
theorem zhx {f:Ty->Pat->List Vt}:∀ {a:List Ty}{b:List Pat}{i:Nat},i<a.length->i<b.length->zbh f (a.take (i+1)) (b.take (i+1))=zbh f (a.take i) (b.take i)++f (nth a i) (nth b i)
 |x::r,y::s,0,_,_=>by simp[zbh,nth]
 |x::r,y::s,i+1,h1,h2=>by
  have:=zhx (f:=f) (a:=r) (b:=s) (i:=i) (by simpa using h1) (by simpa using h2);simp only[List.take_succ_cons,zbh];rw[this,xar];rfl
theorem zky {f:Ty->Pat->List Vt}:∀ {a:List Ty}{b:List Pat}{i:Nat},zbh f (a.take i) (b.take i)=zbh f (a.take i) b
 | [],b,i=>by simp[zbh]
 |x::r,[],i=>by simp[zbh]
 |x::r,y::s,0=>by simp[zbh]
 |x::r,y::s,i+1=>by simp only[List.take_succ_cons,zbh];rw[zky]
theorem zna {f:Ty->Pat->List Vt} (hf:∀t p,(f t p).length<=p.size){a:List Ty}{b:List Pat}{i:Nat} (h:i<b.length):(zbh f (a.take i) (b.take i)).length+(nth b i).size<=Pats.size b:=by
 have h1:=ziy hf (a.take i) (b.take i);have h2:=xa0 (pre:=b.take i) (y:=nth b i) (rest:=b.drop (i+1)) (l:=b) (by rw[<-zbc h,List.take_append_drop]);omega
def zde (w:List Data) (t:Ty) (p:Pat):Nat:=(zec w t p).length
theorem ziz (w:List Data) (t:Ty) (p:Pat):zde w t p=if p.op=5 then 1 else (zab w t p).length:=by
 unfold zde zec;by_cases h5:p.op=5
 ·rw[if_pos h5,if_pos h5];have:zab w t p=[t,t]:=by unfold zab;rw[if_neg od,if_pos h5]
  rw[this];rfl
 ·rw[if_neg h5,if_neg h5]
theorem zlJ {w:List Data}{f:Ty->Pat->List Vt}{t:Ty}{p:Pat} (hl:p.kids.length=(zab w t p).length){i:Nat} (h:i=zde w t p):zbh f ((zab w t p).take i) (p.kids.take i)=zbh f (zec w t p) p.kids:=by
 subst h;rw[zky];congr 1
 rw[ziz];unfold zec;by_cases h5:p.op=5
 ·rw[if_pos h5,if_pos h5]
 ·rw[if_neg h5,if_neg h5,List.take_length]
theorem zbx {w:List Data}{n:Nat}{t:Ty}{p:Pat} (h:zat w (n+1) t p=true){i:Nat} (hi:i<p.kids.length):zat w n (nth (zab w t p) i) (nth p.kids i)=true:=by
 have hl:=(zcr h).2;cases hs:zat w n (nth (zab w t p) i) (nth p.kids i) with
 |true=>rfl
 |false=>
  have:=zdU (f:=zat w n) (a:=zab w t p) (b:=p.kids) (i:=i) od hl.symm hs;simp only[zat,this,Bool.and_false] at h;cases h
theorem ze1 {w:List Data} (hw:WT w):∀(n:Nat){a k:Int}{p:Pat}{xs:List Vt},zat w n ⟨a,k⟩ p=true->n<=1000->TyIn w.length ⟨a,k⟩->p.ok->xs.length+p.size<=2000000000000->
  FnD Tryz.prog 143 [.gl 5 (xs.map Vt.c),.d (zah w),.agg [.d (.i a),.d (.i k)],.agg [.d (.i p.op),.d (.i p.ctor),.d (.i p.n),.d (.i p.m),.d (.i p.var),.d (zax p.kids)]] [(5,some (.tok (xs.map Vt.c).length 3))]
   (.gl 5 ((xs++zaM w n ⟨a,k⟩ p).map Vt.c)) [(5,some (.tok ((xs++zaM w n ⟨a,k⟩ p).map Vt.c).length 3))]
 |0,a,k,p,xs,hs,_,_,_,_=>by simp[zat] at hs
 |n+1,a,k,p,xs,hs,hn,ht,hok,hb=>by
  rw[xaU] at hok;rw[xaV] at hb;obtain⟨ho,hl⟩:=zcr hs;have hin:=zdg hw ht ho;have hlen:=zfJ hw ht (zcD ho);have hvc5:p.op=5->zde w ⟨a,k⟩ p=1:=fun h=>by rw[ziz,if_pos h]
  have hvc:¬p.op=5->zde w ⟨a,k⟩ p=(zab w ⟨a,k⟩ p).length:=fun h=>by rw[ziz,if_neg h]
  have hv2:zde w ⟨a,k⟩ p<=p.kids.length:=by
   unfold zde zec;split
   ·rw[List.length_take];omega
   ·omega
  have e5:p.op=5->(zab w ⟨a,k⟩ p).length=2:=fun h5=>by unfold zab;rw[if_neg od,if_pos h5];rfl
  have hnm:(zaO ⟨a,k⟩ p).length<=1:=by unfold zaO;split<;>simp
  refine bd Tryz.f143 58 [] [1,5,6] fun _ _ _ _ hk=>?_;refine bx 3006 ?_;refine bx 3007 ?_;refine ev (xaC (xbh 8 [(18,.d (.bool (decide (p.op=2\/p.op=6))))] [11,12,13,14,15,16,17] ?_ ?_));refine ev ?_;apply sq<;>intro h1 h1p h1s;exact jnb I;exact jnb I;refine xbg ?_;apply tv;apply sq<;>intro h2 h2p h2s<;>(try simp only[Q,xaS] at h2p);refine bu [0,1] [_,_] zrm ?_;refine si [0] [_] sl36 zl3 ?_;refine ap sl36 zl5 I I I oe oo ?_;refine ev (wc zhS (zcU hw ht (zcD ho)) I I ?_);refine ev (CWp.loopT 5 6 (ι:=Nat) hk (fun i=>[(0,.gl 5 ((xs++zaO ⟨a,k⟩ p++zbh (zaM w n) ((zab w ⟨a,k⟩ p).take i) (p.kids.take i)).map Vt.c)),(10,.d (.i (i:Int)))]) [30,31,32,33,34,35,36,37,38,39,40,41,42,43,44,45,46,47,48,49,50,51,52,53,54,55,56] (fun i=>[(5,some (.tok ((xs++zaO ⟨a,k⟩ p++zbh (zaM w n) ((zab w ⟨a,k⟩ p).take i) (p.kids.take i)).map Vt.c).length 3))]) (fun i=>i<=zde w ⟨a,k⟩ p) (fun i=>zde w ⟨a,k⟩ p-i) 0 od ⟨⟨_,I,LeA.glg ?_⟩,⟨⟨_,I,xaK ?_⟩,O⟩⟩ ⟨zag ?_,O⟩ (fun x=>rfl) (fun i hg1=>?_));iterate 3 focus ((simp[zbh,zaO, *];done))
  refine evc [] [1,5,6] (xaC (xbh 13 [(42,.d (.bool (decide (i<zde w ⟨a,k⟩ p))))] [30,31,32,33,34,35,36,37,38,39,40,41] ?_ ?_));refine ev ?_;apply sq<;>intro h3 h3p h3s;apply sq<;>intro h4 h4p h4s;exact jnb I;exact jnb I;exact jnb I;refine xbg ?_;apply tv;apply sq<;>intro h5 h5p h5s<;>(try simp only[Q,xaS] at h5p);refine ixq zaJ I I I (zam od) I ?_;refine evd [] [] (ixq sl58 I I I (zbT od) I ?_);refine evd [] [] (xbp 6 zhR (ze1 hw n (a:=(nth (zab w ⟨a,k⟩ p) i).data) (k:=(nth (zab w ⟨a,k⟩ p) i).index) (p:=nth p.kids i) (xs:=xs++zaO ⟨a,k⟩ p++zbh (zaM w n) ((zab w ⟨a,k⟩ p).take i) (p.kids.take i)) (zbx hs od) od (hin _ (zao od)) (xaX hok.2 _ (zao od)) (by have:=zna (zes w n) (a:=zab w ⟨a,k⟩ p) (b:=p.kids) (i:=i) od;simp only[xaa];omega)) I .none I I (.cons (.refl _) (.cons (.refl _) (.cons (.refl _) (.cons (.refl _) .nil)))) I o7 ?_);refine evd [] [] (dr (CWp.retok 0 6 5 I I I I I (evc [] [] (ar (xaj (i+1) ⟨od,od,sx ⟨⟨_,I,LeA.glg ?_⟩,⟨⟨_,I,xaK ?_⟩,O⟩⟩ ⟨zag ?_,O⟩⟩)))));iterate 3 focus (first|rfl|(rw[zhx od od];simp[xar];done))
  refine rn [(5,some (.tok ((xs++zaM w (n+1) ⟨a,k⟩ p).map Vt.c).length 3))] (r1 I) (.glg ?_) ⟨I,I⟩ (SubO.get ⟨.inr ?_,⟨.inl I,O⟩⟩) (zai I);rotate_left 2;refine wc zhS (zcU hw ht (zcD ho)) I I ?_;refine ev (CWp.loopT 5 6 (ι:=Nat) hk (fun i=>[(0,.gl 5 ((xs++zaO ⟨a,k⟩ p++zbh (zaM w n) ((zab w ⟨a,k⟩ p).take i) (p.kids.take i)).map Vt.c)),(10,.d (.i (i:Int)))]) [30,31,32,33,34,35,36,37,38,39,40,41,42,43,44,45,46,47,48,49,50,51,52,53,54,55,56] (fun i=>[(5,some (.tok ((xs++zaO ⟨a,k⟩ p++zbh (zaM w n) ((zab w ⟨a,k⟩ p).take i) (p.kids.take i)).map Vt.c).length 3))]) (fun i=>i<=zde w ⟨a,k⟩ p) (fun i=>zde w ⟨a,k⟩ p-i) 0 od ⟨⟨_,I,LeA.glg ?_⟩,⟨⟨_,I,xaK ?_⟩,O⟩⟩ ⟨zag ?_,O⟩ (fun x=>rfl) (fun i hg1=>?_));iterate 3 focus ((simp[zbh,zaO, *];done))
  refine evc [] [1,5,6] (xaC (xbh 13 [(42,.d (.bool (decide (i<zde w ⟨a,k⟩ p))))] [30,31,32,33,34,35,36,37,38,39,40,41] ?_ ?_));refine ev ?_;apply sq<;>intro h6 h6p h6s<;>(try simp only[Q,xaS] at h6p);apply sq<;>intro h7 h7p h7s<;>(try simp only[Q,xaS] at h7p);exact jnb I;exact jnb I;exact jnb I;refine xbg ?_;apply tv;apply sq<;>intro h8 h8p h8s<;>(try simp only[Q,xaS] at h8p);refine ixq zaJ I I I (zam od) I ?_;refine evd [] [] (ixq sl58 I I I (zbT od) I ?_);refine evd [] [] (xbp 6 zhR (ze1 hw n (a:=(nth (zab w ⟨a,k⟩ p) i).data) (k:=(nth (zab w ⟨a,k⟩ p) i).index) (p:=nth p.kids i) (xs:=xs++zaO ⟨a,k⟩ p++zbh (zaM w n) ((zab w ⟨a,k⟩ p).take i) (p.kids.take i)) (zbx hs od) od (hin _ (zao od)) (xaX hok.2 _ (zao od)) (by have:=zna (zes w n) (a:=zab w ⟨a,k⟩ p) (b:=p.kids) (i:=i) od;simp only[xaa];omega)) I .none I I (.cons (.refl _) (.cons (.refl _) (.cons (.refl _) (.cons (.refl _) .nil)))) I o7 ?_);refine evd [] [] (dr (CWp.retok 0 6 5 I I I I I (evc [] [] (ar (xaj (i+1) ⟨od,od,sx ⟨⟨_,I,LeA.glg ?_⟩,⟨⟨_,I,xaK ?_⟩,O⟩⟩ ⟨zag ?_,O⟩⟩)))));iterate 3 focus (first|rfl|(rw[zhx od od];simp[xar];done))
  refine rn [(5,some (.tok ((xs++zaM w (n+1) ⟨a,k⟩ p).map Vt.c).length 3))] (r1 I) (.glg ?_) ⟨I,I⟩ (SubO.get ⟨.inr ?_,⟨.inl I,O⟩⟩) (zai I);rotate_left 2;all_goals (first|((rw[zaM,<-zlJ (f:=zaM w n) hl (i:=i) od];simp);done)|((show some (Res.tok _ _)=some (Res.tok _ _);congr 2;rw[zaM,<-zlJ (f:=zaM w n) hl (i:=i) od];simp)))
theorem zeK {w:List Data} (hw:WT w){n:Nat}{a k:Int}{p:Pat} (hs:zat w n ⟨a,k⟩ p=true) (hn:n<=1000) (ht:TyIn w.length ⟨a,k⟩) (hok:p.ok) (hb:p.size<=1000000000000):
  FnD Tryz.prog 143 [.nils,.d (zah w),.agg [.d (.i a),.d (.i k)],.agg [.d (.i p.op),.d (.i p.ctor),.d (.i p.n),.d (.i p.m),.d (.i p.var),.d (zax p.kids)]] [] (.d (zc7 (zaM w n ⟨a,k⟩ p))) []:=by
 have h:=ze1 hw n (xs:=[]) hs hn ht hok (by simp only[xak];omega);exact FnD.nilTok (by simp[AV.idsL,AV.ids]) h
theorem znf {l:List Vt}{i:Nat} (h:i<l.length) (h2:¬zbH l (nth l i).var=i):zlX l=false:=zcL h (by simpa using h2)
theorem zeh {w:List Data} (hw:WT w):∀(n:Nat){a k:Int}{p:Pat},zat w n ⟨a,k⟩ p=true->n<=1000->TyIn w.length ⟨a,k⟩->p.ok->p.size<=1000000000000->
  FnD Tryz.prog 188 [.d (zah w),.agg [.d (.i a),.d (.i k)],.agg [.d (.i p.op),.d (.i p.ctor),.d (.i p.n),.d (.i p.m),.d (.i p.var),.d (zax p.kids)]] [] (.d (.bool (linP w n ⟨a,k⟩ p))) []
 |0,a,k,p,hs,_,_,_,_=>by simp[zat] at hs
 |n+1,a,k,p,hs,hn,ht,hok,hb=>by
  have hok':=hok;rw[xaU] at hok;have hb':=hb;rw[xaV] at hb';obtain⟨ho,hl⟩:=zcr hs;have hin:=zdg hw ht ho;have hlen:=zfJ hw ht (zcD ho);have hvl:=zes w (n+1) ⟨a,k⟩ p;have hsz:∀i,i<p.kids.length->(nth p.kids i).size<=1000000000000:=fun i hi=>by have:=zen hi;omega
  by_cases hop5:p.op=5
  ·have e1:zab w ⟨a,k⟩ p=[⟨a,k⟩,⟨a,k⟩]:=by unfold zab;rw[if_neg od,if_pos hop5]
   have hl2:p.kids.length=2:=by rw[hl,e1];rfl
   have s0:zat w n ⟨a,k⟩ (nth p.kids 0)=true:=by have:=zbx hs (i:=0) od;rw[e1] at this;exact this
   have s1:zat w n ⟨a,k⟩ (nth p.kids 1)=true:=by have:=zbx hs (i:=1) od;rw[e1] at this;exact this
   have v0:=zes w n ⟨a,k⟩ (nth p.kids 0);have v1:=zes w n ⟨a,k⟩ (nth p.kids 1);have z0:=hsz 0 od;have z1:=hsz 1 od;refine bd Tryz.f188 70 [] [] fun _ _ _ _ hk=>?_;refine bx 3004 ?_;refine bx 3005 ?_;refine ev (wc zhS (zcU hw ht (zcD ho)) I I ?_);refine ev (xaA (ι:=Nat) hk (fun i=>[(8,.d (.i (i:Int)))]) [6,15,16,17,18,19,20,21,22,23,24,25,26,27,28,29,30,31,32] (fun i=>[]) (fun i=>i<=(zab w ⟨a,k⟩ p).length/\∀i',i'<i->linP w n (nth (zab w ⟨a,k⟩ p) i') (nth p.kids i')=true) (fun i=>(zab w ⟨a,k⟩ p).length-i) 0 ⟨by omega,fun _ h=>absurd h od⟩ ⟨⟨_,I,xaK ?_⟩,O⟩ O (fun x=>rfl) (fun i hg1=>?_));focus (first|rfl|(simp;done))
   refine evc [] [] ?_;apply sq<;>intro h1 h1p h1s<;>(try simp only[Q,xaS] at h1p);refine ixq zaJ I I I (zam od) I ?_;refine evd [] [] (ixq sl58 I I I (zbT od) I ?_);refine evd [] [] (wc zjy (zeh hw n (zbx hs od) od (hin _ (zao od)) (xaX hok.2 _ (zao od)) (hsz _ od)) I I ?_);refine evd [] [] (dr ?_);apply sq<;>intro h2 h2p h2s<;>(try simp only[Q,xaS] at h2p);refine rq ?_;rotate_left;refine ar (xaj (i+1) ⟨⟨by omega,za5 hg1.2 ol⟩,od,sx ⟨⟨_,I,xaK ?_⟩,O⟩ O⟩);focus (first|rfl|(simp;done))
   apply sq<;>intro h3 h3p h3s<;>(try simp only[Q,xaS] at h3p);refine ixq (i:=0) sl58 I I I (zbT od) I ?_;refine evd [] [] (wc zhR (zeK hw s0 od ht (xaX hok.2 _ (zao od)) z0) I I ?_);refine evd [] [] (ixq (i:=1) sl58 I I I (zbT od) I ?_);refine evd [] [] (wc zhR (zeK hw s1 od ht (xaX hok.2 _ (zao od)) z1) I I ?_);refine wc zsy (zkp od od) I I ?_;refine evd [] [] (dr (rq ?_));rotate_left;exfalso;simp_all;all_goals (refine xam D.bool ?_;unfold linP;rw[if_pos hop5];first|(rw[zfi od (fun x hx=>hg1.2 x od),Bool.true_and])|(rw[zdU (i:=i) od od ol,Bool.false_and]))
  ·skip
   refine bd Tryz.f188 70 [] [] fun _ _ _ _ hk=>?_;refine bx 3004 ?_;refine bx 3005 ?_;refine ev (wc zhS (zcU hw ht (zcD ho)) I I ?_);refine ev (xaA (ι:=Nat) hk (fun i=>[(8,.d (.i (i:Int)))]) [6,15,16,17,18,19,20,21,22,23,24,25,26,27,28,29,30,31,32] (fun i=>[]) (fun i=>i<=(zab w ⟨a,k⟩ p).length/\∀i',i'<i->linP w n (nth (zab w ⟨a,k⟩ p) i') (nth p.kids i')=true) (fun i=>(zab w ⟨a,k⟩ p).length-i) 0 ⟨by omega,fun _ h=>absurd h od⟩ ⟨⟨_,I,xaK ?_⟩,O⟩ O (fun x=>rfl) (fun i hg1=>?_));focus (first|rfl|(simp;done))
   refine evc [] [] ?_;apply sq<;>intro h1 h1p h1s<;>(try simp only[Q,xaS] at h1p);refine ixq zaJ I I I (zam od) I ?_;refine evd [] [] (ixq sl58 I I I (zbT od) I ?_);refine evd [] [] (wc zjy (zeh hw n (zbx hs od) od (hin _ (zao od)) (xaX hok.2 _ (zao od)) (hsz _ od)) I I ?_);refine evd [] [] (dr ?_);apply sq<;>intro h2 h2p h2s<;>(try simp only[Q,xaS] at h2p);refine rq ?_;rotate_left;refine ar (xaj (i+1) ⟨⟨by omega,za5 hg1.2 ol⟩,od,sx ⟨⟨_,I,xaK ?_⟩,O⟩ O⟩);focus (first|rfl|(simp;done))
   apply sq<;>intro h3 h3p h3s<;>(try simp only[Q,xaS] at h3p);exfalso;simp_all;refine wc zhR (zeK hw hs hn ht hok' hb) I I ?_;refine ev (xaA (ι:=Nat) hk (fun j=>[(10,.d (.i (j:Int)))]) [6,55,56,57,58,59,60,61,62,63,64,65,66,67,68,69] (fun j=>[]) (fun j=>j<=(zaM w (n+1) ⟨a,k⟩ p).length/\∀j',j'<j->zbH (zaM w (n+1) ⟨a,k⟩ p) (nth (zaM w (n+1) ⟨a,k⟩ p) j').var=(j':Int)) (fun j=>(zaM w (n+1) ⟨a,k⟩ p).length-j) 0 ⟨by omega,fun _ h=>absurd h od⟩ ⟨⟨_,I,xaK ?_⟩,O⟩ O (fun x=>rfl) (fun j hg2=>?_));focus (first|rfl|(simp;done))
   refine evc [] [] ?_;apply sq<;>intro h4 h4p h4s<;>(try simp only[Q,xaS] at h4p);refine ixq sl36 I I I (zam od) I ?_;refine ev (wc zo6 (zg1 od) I I ?_);refine ev ?_;apply sq<;>intro h5 h5p h5s<;>(try simp only[Q,xaS] at h5p);refine rq ?_;rotate_left;refine ar (xaj (j+1) ⟨⟨by omega,za5 hg2.2 od⟩,od,sx ⟨⟨_,I,xaK ?_⟩,O⟩ O⟩);focus (first|rfl|(simp;done))
   refine rq ?_;rotate_left;all_goals (refine xam D.bool ?_;unfold linP;rw[if_neg hop5];first|(rw[zdU (i:=i) od od ol,Bool.false_and];done)|(rw[zfi od (fun x hx=>hg1.2 x od),Bool.true_and];first|(rw[znf (i:=j) od od];done)|(symm;exact zc5 (fun x hx=>xax (hg2.2 x od)))))
def isP (w:List Data) (t:Ty) (p:Pat):Bool:=zat w 10 t p&&(decide ((p.size:Int)<=60)&&linP w 10 t p)
theorem zge {w:List Data} (hw:WT w){a k:Int}{p:Pat} (ht:TyIn w.length ⟨a,k⟩) (hok:p.ok) (hb:p.size<=1000000000000):
  FnD Tryz.prog 103 [.d (zah w),.agg [.d (.i a),.d (.i k)],.agg [.d (.i p.op),.d (.i p.ctor),.d (.i p.n),.d (.i p.m),.d (.i p.var),.d (zax p.kids)]] [] (.d (.bool (isP w ⟨a,k⟩ p))) []:=by
 have hc:=zmo p 60;by_cases hs:zat w 10 ⟨a,k⟩ p=true
 ·skip
  refine bd Tryz.f103 22 [] [1] fun _ _ _ _ hk=>?_;refine bx 3004 ?_;refine bx 3005 ?_;refine ev (xaC (xbh 9 [(15,.d (.bool (decide ((p.size:Int)<=60))))] [7,8,9,10,11,12,13,14] ?_ ?_));refine ev (wc zmf (zeJ hw 10 od od ht hok) I I ?_);refine ev ?_;apply sq<;>intro h1 h1p h1s;refine Walk.call (cr:=[]) zmg (zeI _ (Nat.le_refl _) hb hok od od) I (.some I I h1) I I (LeL.refl _) O I I I ?_;refine evs [] [(11,true)] ?_ ⟨⟨_,I,h1⟩,O⟩;exact jnb I;exact jnb I;refine xbg (ev ?_);apply sq<;>intro h2 h2p h2s;refine Walk.call (cr:=[]) zjy (zeh hw 10 hs od ht hok hb) I (.some I I h2) I I (LeL.refl _) O I I I ?_;refine evs [] [(16,true)] ?_ ⟨⟨_,I,h2⟩,O⟩;refine rq ?_;rotate_left;refine rq ?_;rotate_left;all_goals (refine xam D.bool ?_;unfold isP;simp only[hs,Bool.true_and];first|(simp_all;done)|(simp_all;intro;omega))
 ·have hs':zat w 10 ⟨a,k⟩ p=false:=by simpa using hs
  refine bd Tryz.f103 22 [] [1] fun _ _ _ _ hk=>?_;refine bx 3004 ?_;refine bx 3005 ?_;refine ev (xaC (xbh 9 [(15,.d (.bool false))] [7,8,9,10,11,12,13,14] ?_ ?_));refine ev (wc zmf (zeJ hw 10 od od ht hok) I I ?_);refine ev ?_;apply sq<;>intro h1 h1p h1s;refine Walk.call (cr:=[]) zmg (zeI _ (Nat.le_refl _) hb hok od od) I (.some I I h1) I I (LeL.refl _) O I I I ?_;refine evs [] [(11,true)] ?_ ⟨⟨_,I,h1⟩,O⟩;exact jnb I;exact jnb I;refine xbg (ev ?_);apply sq<;>intro h2 h2p h2s;refine Walk.call (cr:=[]) zjy (show FnD Tryz.prog 188 [.d (zah w),.agg [.d (.i a),.d (.i k)],.agg [.d (.i p.op),.d (.i p.ctor),.d (.i p.n),.d (.i p.m),.d (.i p.var),.d (zax p.kids)]] [] (.d (.bool true)) [] from absurd (by assumption:(false:Bool)=true) oe) I (.some I I h2) I I (LeL.refl _) O I I I ?_;refine evs [] [(16,true)] ?_ ⟨⟨_,I,h2⟩,O⟩;refine rq ?_;rotate_left;refine rq ?_;rotate_left;all_goals (refine xam D.bool ?_;unfold isP;simp_all)
set_option maxHeartbeats 2000000
inductive Ex where
 |mk (op n ctor:Int) (kids:List Ex)
 deriving Inhabited
mutual
def Ex.c:Ex->List D
 | .mk op n ctor kids=>[.i op,.i n,.i ctor,.sl (Ex.cs kids)]
def Ex.cs:List Ex->List (List D)
 | []=>[]
 |v::r=>v.c::Ex.cs r
end
abbrev zsN (l:List Ex):D:= .sl (Ex.cs l)
theorem xaH:∀l:List Ex,Ex.cs l=l.map Ex.c
 | []=>rfl
 |v::r=>by simp[Ex.cs,xaH r]
theorem Ex.cs_len (l:List Ex):(Ex.cs l).length=l.length:=by simp[xaH]
def Ex.op:Ex->Int | .mk a0 _ _ _=>a0
def Ex.n:Ex->Int | .mk _ a1 _ _=>a1
def Ex.ctor:Ex->Int | .mk _ _ a2 _=>a2
def Ex.kids:Ex->List Ex | .mk _ _ _ k=>k
abbrev Ex.cc (v:Ex):List D:=[.i v.op,.i v.n,.i v.ctor,.sl (Ex.cs v.kids)]
theorem Ex.c_eq (v:Ex):v.c=v.cc:=by cases v;rfl
theorem Ex.eta (v:Ex):Ex.mk v.op v.n v.ctor v.kids=v:=by cases v;rfl
theorem Ex.cs_at' {pre:List Ex}{x:Ex}{rest xs:List Ex} (h:pre++x::rest=xs):(Ex.cs xs)[pre.length]?=some x.cc:=by rw[xaH,<-Ex.c_eq];exact zaI h
mutual
def exEq:Ex->Ex->Bool
 | .mk a0 a1 a2 ks,.mk b0 b1 b2 ls=>decide (a0=b0)&&(decide (a1=b1)&&(decide (a2=b2)&&zlY ks ls))
def zlY:List Ex->List Ex->Bool
 | [],[]=>true
 |x::r,y::s=>exEq x y&&zlY r s
 |_,_=>false
end
mutual
def Ex.ok:Ex->Prop
 | .mk _ _ _ ks=>ks.length<=1000000000000/\Exs.ok ks
def Exs.ok:List Ex->Prop
 | []=>True
 |v::r=>v.ok/\Exs.ok r
end
theorem Exs.ok_mem:∀ {l:List Ex},Exs.ok l->∀v,v∈l->v.ok
 |x::r,h,v,hv=>by
  simp only[Exs.ok] at h;rcases List.mem_cons.1 hv with rfl|hv
  ·exact h.1
  ·exact Exs.ok_mem h.2 v hv
mutual
def Ex.size:Ex->Nat
 | .mk _ _ _ ks=>1+Exs.size ks
def Exs.size:List Ex->Nat
 | []=>0
 |v::r=>v.size+Exs.size r
end
theorem Exs.size_mem:∀ {l:List Ex}{v:Ex},v∈l->v.size<=Exs.size l
 |x::r,v,hv=>by
  simp only[Exs.size];rcases List.mem_cons.1 hv with rfl|hv
  ·omega
  ·have:=Exs.size_mem hv;omega
theorem Ex.ok_iff (v:Ex):v.ok↔v.kids.length<=1000000000000/\Exs.ok v.kids:=by cases v;rfl
theorem Ex.size_eq (v:Ex):v.size=1+Exs.size v.kids:=by cases v;rfl
mutual
theorem zpp:∀v:Ex,exEq v v=true
 | .mk _ _ _ ks=>by simp[exEq,zjQ ks]
theorem zjQ:∀l:List Ex,zlY l l=true
 | []=>rfl
 |v::r=>by simp[zlY,zpp v,zjQ r]
end
theorem Ex.cs_cc (l:List Ex):Ex.cs l=l.map Ex.cc:=by
 rw[xaH];exact List.map_congr_left (fun v _=>Ex.c_eq v)
mutual
def mEx:Ex->Nat
 | .mk _ _ _ ks=>mExs ks
def mExs:List Ex->Nat
 | []=>0
 |v::r=>1+mEx v+mExs r
end
structure Gd where
 op:Int
 var:Int
 n:Int
 deriving Inhabited
structure Cl where
 pat:Pat
 g:Gd
 deriving Inhabited
structure Ft where
 arg:Ty
 res:Ty
 deriving Inhabited
structure Fu where
 ty:Ft
 cls:List Cl
 bodies:List Ex
 deriving Inhabited
abbrev Cl.c (x:Cl):List D:=[.i x.pat.op,.i x.pat.ctor,.i x.pat.n,.i x.pat.m,.i x.pat.var,.sl (Pat.cs x.pat.kids),.i x.g.op,.i x.g.var,.i x.g.n]
abbrev zsM (l:List Cl):D:= .sl (l.map Cl.c)
abbrev Ft.c (x:Ft):List D:=[.i x.arg.data,.i x.arg.index,.i x.res.data,.i x.res.index]
abbrev Fu.c (x:Fu):List D:=[.i x.ty.arg.data,.i x.ty.arg.index,.i x.ty.res.data,.i x.ty.res.index,zsM x.cls,zsN x.bodies]
theorem zbO {w:List Data} (hs:WSmall w) (hv:zaP w=true):WT w:=WV.wt hs ((zcA w).1 hv)
set_option maxHeartbeats 4000000
theorem zeB {p:Pat}{b1 b2 b3:Bool}{k:Int}:FnD Tryz.prog 293 [.agg [.d (.i p.op),.d (.i p.ctor),.d (.i p.n),.d (.i p.m),.d (.i p.var),.d (zax p.kids)],.d (.bool b1),.d (.bool b2),.d (.bool b3),.d (.i k)] []
  (.d (.bool (decide ((b1=true\/p.ctor=0)/\(b2=true\/p.n=0/\p.m=0)/\(b3=true\/p.var=0)/\(p.kids.length:Int)=k)))) []:=by
 refine bd Tryz.f293 45 [] [1] fun _ _ _ _ hk=>?_;refine bx 3005 ?_;refine ev (xaC (xbh 6 [(16,.d (.bool (decide (b1=true\/p.ctor=0))))] [11,12,13,14,15] ?_ ?_));refine ev ?_;apply sq<;>intro h1 h1p h1s;focus (exact jn I (xaJ (by(first|rfl|(rw[xat];simp_all[xaS];done)))))
 focus (exact jn I (xaJ (by(first|rfl|(rw[xat];simp_all[xaS];done)))))
 refine xbh 13 [(29,.d (.bool (decide ((b1=true\/p.ctor=0)/\(b2=true\/p.n=0/\p.m=0)))))] [17,18,19,20,21,22,23,24,25,26,27,28] ?_ ?_;refine ev ?_;apply sq<;>intro h2 h2p h2s;apply sq<;>intro h3 h3p h3s;focus (exact jn I (xaJ (by(first|rfl|(rw[xat];simp_all[xaS];done)))))
 apply sq<;>intro h4 h4p h4s;focus (exact jn I (xaJ (by(first|rfl|(rw[xat];simp_all[xaS];done)))))
 focus (exact jn I (xaJ (by(first|rfl|(rw[xat];simp_all[xaS];done)))))
 focus (exact jn I (xaJ (by(first|rfl|(rw[xat];simp_all[xaS];done)))))
 refine xbh 8 [(37,.d (.bool (decide ((b1=true\/p.ctor=0)/\(b2=true\/p.n=0/\p.m=0)/\(b3=true\/p.var=0)))))] [30,31,32,33,34,35,36] ?_ ?_;refine ev ?_;apply sq<;>intro h5 h5p h5s;apply sq<;>intro h6 h6p h6s;focus (exact jn I (xaJ (by(first|rfl|(rw[xat];simp_all[xaS];done)))))
 focus (exact jn I (xaJ (by(first|rfl|(rw[xat];simp_all[xaS];done)))))
 focus (exact jn I (xaJ (by(first|rfl|(rw[xat];simp_all[xaS];done)))))
 refine xbh 7 [(44,.d (.bool (decide ((b1=true\/p.ctor=0)/\(b2=true\/p.n=0/\p.m=0)/\(b3=true\/p.var=0)/\(p.kids.length:Int)=k))))] [38,39,40,41,42,43] ?_ ?_;refine ev ?_;apply sq<;>intro h7 h7p h7s;focus (exact jn I (xaJ (by(first|rfl|(rw[xat];simp_all[xaS];done)))))
 focus (exact jn I (xaJ (by(first|rfl|(rw[xat];simp_all[xaS];done)))))
 refine xbg (ev (rq ?_));rotate_left;all_goals (rfl)
theorem ze5 {p:Pat}{k:Int}:FnD Tryz.prog 293 [.agg [.d (.i p.op),.d (.i p.ctor),.d (.i p.n),.d (.i p.m),.d (.i p.var),.d (zax p.kids)],.d (.bool false),.d (.bool false),.d (.bool false),.d (.i k)] []
  (.d (.bool (decide (p.ctor=0/\(p.n=0/\p.m=0)/\p.var=0/\(p.kids.length:Int)=k)))) []:=by
 have:=zeB (p:=p) (b1:=false) (b2:=false) (b3:=false) (k:=k);simpa only[Bool.false_eq_true,false_or] using this
theorem ze6 {p:Pat}{k:Int}:FnD Tryz.prog 293 [.agg [.d (.i p.op),.d (.i p.ctor),.d (.i p.n),.d (.i p.m),.d (.i p.var),.d (zax p.kids)],.d (.bool false),.d (.bool false),.d (.bool true),.d (.i k)] []
  (.d (.bool (decide (p.ctor=0/\(p.n=0/\p.m=0)/\(p.kids.length:Int)=k)))) []:=by
 have:=zeB (p:=p) (b1:=false) (b2:=false) (b3:=true) (k:=k);simpa only[Bool.false_eq_true,false_or,true_or,true_and] using this
theorem ziZ {p:Pat}{k:Int}:FnD Tryz.prog 293 [.agg [.d (.i p.op),.d (.i p.ctor),.d (.i p.n),.d (.i p.m),.d (.i p.var),.d (zax p.kids)],.d (.bool false),.d (.bool true),.d (.bool false),.d (.i k)] []
  (.d (.bool (decide (p.ctor=0/\p.var=0/\(p.kids.length:Int)=k)))) []:=by
 have:=zeB (p:=p) (b1:=false) (b2:=true) (b3:=false) (k:=k);simpa only[Bool.false_eq_true,false_or,true_or,true_and] using this
theorem znh {p:Pat}{k:Int}:FnD Tryz.prog 293 [.agg [.d (.i p.op),.d (.i p.ctor),.d (.i p.n),.d (.i p.m),.d (.i p.var),.d (zax p.kids)],.d (.bool true),.d (.bool false),.d (.bool false),.d (.i k)] []
  (.d (.bool (decide ((p.n=0/\p.m=0)/\p.var=0/\(p.kids.length:Int)=k)))) []:=by
 have:=zeB (p:=p) (b1:=true) (b2:=false) (b3:=false) (k:=k);simpa only[Bool.false_eq_true,false_or,true_or,true_and] using this
theorem zed {v:Int}:FnD Tryz.prog 136 [.d (.i v)] [] (.d (.bool (zaE v 0 5))) []:=by
 refine bd Tryz.f136 5 [] [] fun _ _ _ _ hk=>?_;refine wc zfb zbR I I ?_;refine ev (rq ?_);rotate_left;all_goals (rfl)
theorem zeX {w:List Data} (hw:WT w){a k:Int} (ht:TyIn w.length ⟨a,k⟩):FnD Tryz.prog 236 [.d (zah w),.agg [.d (.i a),.d (.i k)]] [] (.d (zcx (zan w ⟨a,k⟩))) []:=by
 rcases ht with ha|⟨d,hd,hlt⟩
 ·simp only at ha;subst ha;rw[zfK];exact zhE
 ·simp only at hd;subst hd;rw[zgA];exact zjW hw hlt
theorem zgl {w:List Data} (hw:WT w){a k c:Int} (ht:TyIn w.length ⟨a,k⟩) (hc:c∈zan w ⟨a,k⟩):FnD Tryz.prog 237 [.d (zah w),.agg [.d (.i a),.d (.i k)],.d (.i c)] [] (.d (zbK (zac w ⟨a,k⟩ c))) []:=by
 obtain⟨d,rfl,h1,h2⟩:=za7 ht hc;exact zjb hw h1 h2
theorem zhA {w:List Data} (hw:WT w){a k:Int}{p:Pat} (ht:TyIn w.length ⟨a,k⟩):
  FnD Tryz.prog 252 [.d (zah w),.agg [.d (.i a),.d (.i k)],.agg [.d (.i p.op),.d (.i p.ctor),.d (.i p.n),.d (.i p.m),.d (.i p.var),.d (zax p.kids)]] [] (.tup [.d (zbK (zcn w ⟨a,k⟩ p)),.d (.bool (okP w ⟨a,k⟩ p))]) []:=by
 have hcl:=zd4 hw ht;have ty4:p.op=4->p.ctor∉zan w ⟨a,k⟩->zcn w ⟨a,k⟩ p=[]:=fun h4 hm=>by unfold zcn;rw[if_pos ⟨h4,hm⟩]
 have ty4':p.op=4->p.ctor∈zan w ⟨a,k⟩->zcn w ⟨a,k⟩ p=zac w ⟨a,k⟩ p.ctor:=fun h4 hm=>by unfold zcn zab;rw[if_neg (fun h=>h.2 hm),if_pos h4]
 have ty5:p.op=5->zcn w ⟨a,k⟩ p=[⟨a,k⟩,⟨a,k⟩]:=fun h5=>by unfold zcn zab;rw[if_neg od,if_neg od,if_pos h5]
 have ty6:p.op=6->zcn w ⟨a,k⟩ p=[⟨a,k⟩]:=fun h6=>by unfold zcn zab;rw[if_neg od,if_neg od,if_neg od,if_pos h6]
 have ty0:¬p.op=4->¬p.op=5->¬p.op=6->zcn w ⟨a,k⟩ p=[]:=fun h4 h5 h6=>by unfold zcn zab;rw[if_neg (fun h=>h4 h.1),if_neg h4,if_neg h5,if_neg h6]
 have ln4:p.op=4->(zab w ⟨a,k⟩ p).length=(zac w ⟨a,k⟩ p.ctor).length:=fun h4=>by unfold zab;rw[if_pos h4]
 have ln5:p.op=5->(zab w ⟨a,k⟩ p).length=2:=fun h5=>by unfold zab;rw[if_neg od,if_pos h5];rfl
 have ln6:p.op=6->(zab w ⟨a,k⟩ p).length=1:=fun h6=>by unfold zab;rw[if_neg od,if_neg od,if_pos h6];rfl
 have ln0:¬p.op=4->¬p.op=5->¬p.op=6->(zab w ⟨a,k⟩ p).length=0:=fun h4 h5 h6=>by unfold zab;rw[if_neg h4,if_neg h5,if_neg h6];rfl
 have okI:∀b:Bool,(b=true↔((((p.op=2\/p.op=6)->0<=p.var/\p.var<=5)/\(¬(p.op=2\/p.op=6)->p.var=0)/\(p.op≠3->p.n=0/\p.m=0)/\(p.op≠4->p.ctor=0)/\
   (p.op=1\/p.op=2\/p.op=5\/p.op=6\/(p.op=3/\a = -1/\0<=p.n/\p.n<=p.m/\p.m<=9)\/(p.op=4/\p.ctor∈zan w ⟨a,k⟩)))/\p.kids.length=(zab w ⟨a,k⟩ p).length))->b=okP w ⟨a,k⟩ p:=fun b h=>by
  rw[xat,h];unfold okP ownP;simp only[xad,xah]
 by_cases hmem:p.ctor∈zan w ⟨a,k⟩
 ·have hargs:=zgl hw ht hmem;have hal:(zac w ⟨a,k⟩ p.ctor).length<=1000000000000:=by
   obtain⟨d,rfl,h1,h2⟩:=za7 ht hmem;exact zg5 hw h1 h2
  simp only[hmem,and_true] at okI;refine bd Tryz.f252 87 [] [5] fun _ _ _ _ hk=>?_;refine bx 3004 ?_;refine bx 3005 ?_;refine ev ?_;apply sq<;>intro h1 h1p h1s<;>(try simp only[Q] at h1p);refine wc zdG ze5 I I ?_;refine ev (rn0 (r2 I I) (.tup (qne ?_ ?_)));rotate_left 2;apply sq<;>intro h2 h2p h2s<;>(try simp only[Q] at h2p);refine xaC (xbh 7 [(23,.d (.bool (decide ((p.ctor=0/\(p.n=0/\p.m=0)/\(p.kids.length:Int)=0)/\0<=p.var/\p.var<=5))))] [17,18,19,20,21,22] ?_ ?_);refine ev (wc zdG ze6 I I ?_);refine ev ?_;apply sq<;>intro h3 h3p h3s<;>(try simp only[Q] at h3p);refine Walk.call (cr:=[]) zjw zed I (.some I I h3) I I (LeL.refl _) O I I I (evs [] [(19,true)] ?_ ⟨⟨_,I,h3⟩,O⟩);exact jn I (xaJ (by(rw[xat];simp only[xah,zaE,xad,Bool.false_eq_true,false_iff,true_iff];omega)));exact jn I (xaJ (by(rw[xat];simp only[xah,zaE,xad,Bool.false_eq_true,false_iff,true_iff];omega)));refine xbg (ev (rn0 (r2 I I) (.tup (qne ?_ ?_))));rotate_left 2;apply sq<;>intro h4 h4p h4s<;>(try simp only[Q] at h4p);apply sq<;>intro h5 h5p h5s<;>(try simp only[Q] at h5p);refine Walk.call (cr:=[]) zdG ziZ I (.some I I h5) I I (LeL.refl _) O I I I (evd [] [(29,true)] ?_ ⟨⟨_,I,h5⟩,O⟩);apply sq<;>intro h6 h6p h6s<;>(try simp only[Q] at h6p);apply sq<;>intro h7 h7p h7s<;>(try simp only[Q] at h7p);apply sq<;>intro h8 h8p h8s<;>(try simp only[Q] at h8p);refine dr (rn0 (r2 I I) (.tup (qne ?_ ?_)));rotate_left 2;refine dr (rn0 (r2 I I) (.tup (qne ?_ ?_)));rotate_left 2;refine sqF ?_;refine dr (rn0 (r2 I I) (.tup (qne ?_ ?_)));rotate_left 2;refine sqF ?_;refine sqF ?_;refine dr (rn0 (r2 I I) (.tup (qne ?_ ?_)));rotate_left 2;refine sqF ?_;refine sqF ?_;refine sqF ?_;refine dr (rn0 (r2 I I) (.tup (qne ?_ ?_)));rotate_left 2;apply sq<;>intro h9 h9p h9s<;>(try simp only[Q] at h9p);refine wc zmj (zeX hw ht) I I ?_;refine evd [] [] (wc zo5 (zeb hcl) I I ?_);refine evd [] [] (dr ?_);apply sq<;>intro h10 h10p h10s<;>(try simp only[Q] at h10p);exfalso;simp_all;refine wc zhT hargs I I ?_;refine ev (wc zdG znh I I ?_);refine ev (rn0 (r2 I I) (.tup (qee ?_ ?_)));rotate_left 2;apply sq<;>intro h11 h11p h11s<;>(try simp only[Q] at h11p);refine si [0,1] [_,_] zaJ tz38 ?_;refine evd [] [] (wc zdG ze5 I I ?_);refine evd [] [] (dr (rn0 (r2 I I) (.tup (qee ?_ ?_))));rotate_left 2;apply sq<;>intro h12 h12p h12s<;>(try simp only[Q] at h12p);refine si [0] [_] zaJ tz38 ?_;refine evd [] [] (wc zdG ze6 I I ?_);refine evd [] [] ?_;apply sq<;>intro h13 h13p h13s<;>(try simp only[Q] at h13p);refine Walk.call (cr:=[]) zjw zed I (.some I I h13) I I (LeL.refl _) O I I I (evd [] [(82,true)] ?_ ⟨⟨_,I,h13⟩,O⟩);refine dr (rn0 (r2 I I) (.tup (qee ?_ ?_)));rotate_left 2;refine dr (rn0 (r2 I I) (.tup (qee ?_ ?_)));rotate_left 2;refine rn0 (r2 I I) (.tup (qne ?_ ?_));rotate_left 2;all_goals (first|(refine xam D.bool (okI _ ?_);(try simp only[xah,Bool.false_eq_true,zaE,xad,xac,true_iff,false_iff]);omega)|(rw[ty0 od od od];first|done|rfl)|(rw[ty5 od];first|done|rfl)|(rw[ty6 od];first|done|rfl)|(rw[ty4' od hmem];first|done|rfl))
 ·simp only[hmem,and_false,or_false] at okI;refine bd Tryz.f252 87 [] [5] fun _ _ _ _ hk=>?_;refine bx 3004 ?_;refine bx 3005 ?_;refine ev ?_;apply sq<;>intro h1 h1p h1s<;>(try simp only[Q] at h1p);refine wc zdG ze5 I I ?_;refine ev (rn0 (r2 I I) (.tup (qne ?_ ?_)));rotate_left 2;apply sq<;>intro h2 h2p h2s<;>(try simp only[Q] at h2p);refine xaC (xbh 7 [(23,.d (.bool (decide ((p.ctor=0/\(p.n=0/\p.m=0)/\(p.kids.length:Int)=0)/\0<=p.var/\p.var<=5))))] [17,18,19,20,21,22] ?_ ?_);refine ev (wc zdG ze6 I I ?_);refine ev ?_;apply sq<;>intro h3 h3p h3s<;>(try simp only[Q] at h3p);refine Walk.call (cr:=[]) zjw zed I (.some I I h3) I I (LeL.refl _) O I I I (evs [] [(19,true)] ?_ ⟨⟨_,I,h3⟩,O⟩);exact jn I (xaJ (by(rw[xat];simp only[xah,zaE,xad,Bool.false_eq_true,false_iff,true_iff];omega)));exact jn I (xaJ (by(rw[xat];simp only[xah,zaE,xad,Bool.false_eq_true,false_iff,true_iff];omega)));refine xbg (ev (rn0 (r2 I I) (.tup (qne ?_ ?_))));rotate_left 2;apply sq<;>intro h4 h4p h4s<;>(try simp only[Q] at h4p);apply sq<;>intro h5 h5p h5s<;>(try simp only[Q] at h5p);refine Walk.call (cr:=[]) zdG ziZ I (.some I I h5) I I (LeL.refl _) O I I I (evd [] [(29,true)] ?_ ⟨⟨_,I,h5⟩,O⟩);apply sq<;>intro h6 h6p h6s<;>(try simp only[Q] at h6p);apply sq<;>intro h7 h7p h7s<;>(try simp only[Q] at h7p);apply sq<;>intro h8 h8p h8s<;>(try simp only[Q] at h8p);refine dr (rn0 (r2 I I) (.tup (qne ?_ ?_)));rotate_left 2;refine dr (rn0 (r2 I I) (.tup (qne ?_ ?_)));rotate_left 2;refine sqF ?_;refine dr (rn0 (r2 I I) (.tup (qne ?_ ?_)));rotate_left 2;refine sqF ?_;refine sqF ?_;refine dr (rn0 (r2 I I) (.tup (qne ?_ ?_)));rotate_left 2;refine sqF ?_;refine sqF ?_;refine sqF ?_;refine dr (rn0 (r2 I I) (.tup (qne ?_ ?_)));rotate_left 2;apply sq<;>intro h9 h9p h9s<;>(try simp only[Q] at h9p);refine wc zmj (zeX hw ht) I I ?_;refine evd [] [] (wc zo5 (zeb hcl) I I ?_);refine evd [] [] (dr ?_);apply sq<;>intro h10 h10p h10s<;>(try simp only[Q] at h10p);refine rn0 (r2 I I) (.tup (qne ?_ ?_));rotate_left 2;exfalso;simp_all;apply sq<;>intro h11 h11p h11s<;>(try simp only[Q] at h11p);refine si [0,1] [_,_] zaJ tz38 ?_;refine evd [] [] (wc zdG ze5 I I ?_);refine evd [] [] (dr (rn0 (r2 I I) (.tup (qee ?_ ?_))));rotate_left 2;apply sq<;>intro h12 h12p h12s<;>(try simp only[Q] at h12p);refine si [0] [_] zaJ tz38 ?_;refine evd [] [] (wc zdG ze6 I I ?_);refine evd [] [] ?_;apply sq<;>intro h13 h13p h13s<;>(try simp only[Q] at h13p);refine Walk.call (cr:=[]) zjw zed I (.some I I h13) I I (LeL.refl _) O I I I (evd [] [(82,true)] ?_ ⟨⟨_,I,h13⟩,O⟩);refine dr (rn0 (r2 I I) (.tup (qee ?_ ?_)));rotate_left 2;refine dr (rn0 (r2 I I) (.tup (qee ?_ ?_)));rotate_left 2;refine rn0 (r2 I I) (.tup (qne ?_ ?_));rotate_left 2;all_goals (first|(refine xam D.bool (okI _ ?_);(try simp only[xah,Bool.false_eq_true,zaE,xad,xac,true_iff,false_iff]);omega)|(rw[ty0 od od od];first|done|rfl)|(rw[ty5 od];first|done|rfl)|(rw[ty6 od];first|done|rfl)|(rw[ty4 od hmem];first|done|rfl))
theorem zqa {t u:Vt}:t=u↔t.var=u.var/\t.ty.data=u.ty.data/\t.ty.index=u.ty.index:=by
 rcases t with ⟨a,b,c⟩;rcases u with ⟨d,e,f⟩;simp
def zoq (l:List Vt) (v:Vt):Int:=idxF (fun x=>decide (v=x)) l 0
theorem zir {l:List Vt}{v:Vt} (h:l.length<=1000000000000):FnD Tryz.prog 297 [.d (zc7 l),.agg [.d (.i v.var),.d (.i v.ty.data),.d (.i v.ty.index)]] [] (.d (.i (zoq l v))) []:=by
 refine bd Tryz.f297 19 [16] [] fun _ _ _ _ hk=>?_;refine bx 3003 ?_;refine evs [16] [] (xaA (ι:=List (Vt)×List (Vt)) hk (fun x=>[(8,.d (.i (x.1.length:Int)))]) [4,5,9,10,11,12,13,14,15,16,17,18] (fun x=>[]) (fun x=>x.1++x.2=l/\idxF (fun x=>decide (v=x)) x.2 x.1.length=idxF (fun x=>decide (v=x)) l 0) (fun x=>x.2.length) ([],l) ⟨by simp,I⟩ ⟨⟨_,I,xaK ?_⟩,O⟩ O (fun x=>rfl) (fun x hg1=>?_));focus (first|rfl|omega)
 obtain⟨pre,rest⟩:=x;dsimp only at hg1 ⊢;refine evc [16] [] ?_;apply sq<;>intro h1 h1p h1s<;>(try simp only[Q] at h1p);rcases rest with _|⟨y,rest⟩
 ·exfalso;simp_all
 refine ixq sl36 I I I (zaI hg1.1) I (evd [16] [] (Walk.eqV2 ztm .none I I I I I (dr ?_)));apply sq<;>intro h2 h2p h2s<;>(try simp only[Q] at h2p);refine rq ?_;rotate_left;refine ar (xaj ((pre++[y],rest)) ⟨⟨(by have hz:=hg1.1;rw[<-hz];simp),(by rw[<-hg1.2];simp[idxF];simp_all[zqa])⟩,oe,sx ⟨⟨_,I,xaK ?_⟩,O⟩ O⟩);focus (first|rfl|(simp;done)|omega)
 have hrest:rest=[]:=by
  rcases rest with _|⟨a,b⟩
  ·rfl
  ·exfalso;have hz:=xam List.length (hg1.1);simp only[xaa,xab,xac] at hz;omega
 subst hrest;refine rq ?_;rotate_left;all_goals (unfold zoq;rw[<-hg1.2];simp_all[idxF,zqa])
theorem zgV {l:List Vt}{v:Vt} (h:l.length<=1000000000000):FnD Tryz.prog 265 [.d (zc7 l),.agg [.d (.i v.var),.d (.i v.ty.data),.d (.i v.ty.index)]] [] (.d (.bool (decide (v∈l)))) []:=by
 refine bd Tryz.f265 9 [] [] fun _ _ _ _ hk=>?_;refine bx 3003 ?_;refine ev (wc zsH (zir h) I I ?_);refine ev (rq ?_);rotate_left;all_goals (refine xam D.bool ?_;rw[show zoq l v=idxF (fun x=>decide (v=x)) l 0 from rfl,zf0];simp[List.any_eq,eq_comm])
theorem zgJ {xs:List Vt}{f:Nat}{caps:List AV}{hp:Hp}{p:Vt->Bool} (hs:xs.length<=1000000000000) (hcal:Callee Tryz.prog f)
  (hf:∀t∈xs,FnD Tryz.prog f ([.agg [.d (.i t.var),.d (.i t.ty.data),.d (.i t.ty.index)]]++caps) hp (.d (.bool (p t))) []) (k1:subH hp hp) (k2:ze8 hp=true) (k3:zbu hp [] (.d .nilp) []=true):
  FnD Tryz.prog 282 [.d (zc7 xs),.fn f caps] hp (.d (.i (idxF p xs 0))) []:=by
 refine bd Tryz.f282 19 [] [] fun _ _ _ _ hk=>?_;refine xaA (ι:=List (Vt)×List (Vt)) hk (fun x=>[(8,.d (.i (x.1.length:Int)))]) [4,5,9,10,11,12,13,14,15,16,17,18] (fun x=>[]) (fun x=>x.1++x.2=xs/\idxF p x.2 x.1.length=idxF p xs 0) (fun x=>x.2.length) ([],xs) ⟨by simp,I⟩ ⟨⟨_,I,xaK ?_⟩,O⟩ O (fun x=>zjv hp) (fun x hg1=>?_);focus (first|rfl|omega)
 obtain⟨pre,rest⟩:=x;dsimp only at hg1 ⊢;refine evc [] [] ?_;apply sq<;>intro h1 h1p h1s<;>(try simp only[Q] at h1p);rcases rest with _|⟨y,rest⟩
 ·exfalso;simp_all
 refine ixq sl36 I I I (zaI hg1.1) I (ev (xbq (cr:=[]) hcal (hf y (by rw[<-hg1.1];simp)) I .none I I I (LeL.refl _) k1 k2 (zhr k3 _) I ?_));apply tv;apply sq<;>intro h2 h2p h2s<;>(try simp only[Q] at h2p);focus (refine rn [] (r1 I) (.eqd ?_) ⟨I,I⟩ (fun _ _ h=>h) (fun _ h=>h);all_goals (rw[<-hg1.2];simp[idxF,h1s,h1p,h2s,h2p]))
 refine ar (xaj ((pre++[y],rest)) ⟨⟨(by have hz:=hg1.1;rw[<-hz];simp),(by rw[<-hg1.2];simp[idxF,h2s])⟩,oe,Sub.x oj oj ⟨⟨_,I,xaK ?_⟩,O⟩ oe (by simp[zdH]) O⟩);focus (first|rfl|(simp;done)|omega)
 have hrest:rest=[]:=by
  rcases rest with _|⟨a,b⟩
  ·rfl
  ·exfalso;have hz:=xam List.length (hg1.1);simp only[xaa,xab,xac] at hz;omega
 subst hrest;focus (refine rn [] (r1 I) (.eqd ?_) ⟨I,I⟩ (fun _ _ h=>h) (fun _ h=>h);all_goals (rw[<-hg1.2];simp[idxF,h1s,h1p]))
theorem zfF {xs:List Vt}{f:Nat}{caps:List AV}{hp:Hp}{p:Vt->Bool} (hs:xs.length<=1000000000000) (hcal:Callee Tryz.prog f)
  (hf:∀t∈xs,FnD Tryz.prog f ([.agg [.d (.i t.var),.d (.i t.ty.data),.d (.i t.ty.index)]]++caps) hp (.d (.bool (p t))) []) (k1:subH hp hp) (k2:ze8 hp=true) (k3:zbu hp [] (.d .nilp) []=true):
  FnD Tryz.prog 303 [.d (zc7 xs),.fn f caps] hp (.d (.bool (xs.any p))) []:=by
 refine bd Tryz.f303 9 [] [] fun _ _ _ _ hk=>?_;refine Walk.call (cr:=[]) zsE (zgJ hs hcal hf k1 k2 k3) I .none I I (LeL.refl _) k1 k2 (zhr k3 _) I (ev (rn [] (r1 I) (.eqd ?_) ⟨I,I⟩ (fun _ _ h=>h) (fun _ h=>h)));rotate_left;all_goals (exact xam D.bool (zf0 p xs 0))
theorem zh6 {b:List Vt}{v:Vt} (h:b.length<=1000000000000):FnD Tryz.prog 304 [.agg [.d (.i v.var),.d (.i v.ty.data),.d (.i v.ty.index)],.ref 3003 0] [(3003,some (.box [.d (zc7 b)]))] (.d (.bool (!decide (v∈b)))) []:=by
 refine bd Tryz.f304 8 [] [] fun _ _ _ _ hk=>?_;refine bx 3001 ?_;refine ev (wc zsz (zgV h) I I ?_);refine ev (rn [] (r1 I) (.eqd ?_) ⟨I,I⟩ (SubH.get ⟨I,O⟩) (fun _ h=>h));rotate_left;all_goals (rfl)
theorem zf1 {x y:List Vt} (hx:x.length<=1000000000000) (hy:y.length<=1000000000000):FnD Tryz.prog 277 [.d (zc7 x),.d (zc7 y)] [] (.d (.bool (zdP x y))) []:=by
 refine bd Tryz.f277 16 [] [] fun _ _ _ _ hk=>?_;refine bx 3003 ?_;refine ev ?_;apply sq<;>intro h1 h1p h1s;refine xbt (xs:=[_]) I (.some I I h1) I I (Walk.call (cr:=[]) zsI (zfF (p:=fun v=> !decide (v∈y)) hx zsJ (fun t _=>zh6 hy) ⟨I,O⟩ I I) I (.some I I h1) I I (LeL.refl _) ⟨I,O⟩ I I I (evs [] [(10,true)] ?_ ⟨⟨_,I,h1⟩,O⟩));refine rq ?_;rotate_left;refine rq ?_;rotate_left;all_goals (refine xam D.bool ?_;unfold zdP;first|(simp_all;done)|(simp_all;intro hz;omega))
def metA (s:List Int):List AV:=(List.range 6).map fun(i:Nat)=> .d (.bool (decide ((i:Int)∈s)))
theorem zmH {s:List Int}{v:Int} (h0:0<=v) (h1:v<=5):(metA s)[v.toNat]?=some (.d (.bool (decide (v∈s)))):=by
 unfold metA;rw[List.getElem?_map,List.getElem?_range od];simp only[Option.map_some];rw[Int.toNat_of_nonneg h0]
theorem zmI {s:List Int}{v:Int} (h0:0<=v) (h1:v<=5):putC (metA s) v.toNat [.d (.bool true)]=some (metA (s++[v])):=by
 have e:v=0\/v=1\/v=2\/v=3\/v=4\/v=5:=by omega
 rcases e with rfl|rfl|rfl|rfl|rfl|rfl<;>simp[metA,putC,List.range_succ]
theorem zpF (t:Ty) (p:Pat):(zaO t p).length<=1:=by unfold zaO;split<;>simp
theorem zlv:∀ {a b:List Int},a.Nodup->(∀x∈a,x∈b)->a.length<=b.length
 | [],b,_,_=>by simp
 |x::r,b,hn,hs=>by
  have hn':=List.nodup_cons.1 hn;have hx:=hs x oe;have h:=zlv (a:=r) (b:=b.erase x) hn'.2 (fun y hy=>by
   have hne:y≠x:=fun e=>hn'.1 (e ▸ hy);exact(List.mem_erase_of_ne hne).2 (hs y (by simp[hy])))
  rw[List.length_erase_of_mem hx] at h;have:=List.length_pos_of_mem hx;simp only[xab];omega
def InR (l:List Vt):Prop:=∀v∈l,0<=v.var/\v.var<=5
theorem zpI {l:List Vt} (h:InR l) (hn:zcR l=true):l.length<=6:=by
 unfold zcR at hn;have h1:=xas hn;have h2:∀x∈l.map Vt.var,x∈[(0:Int),1,2,3,4,5]:=fun x hx=>by
  obtain⟨v,hv,rfl⟩:=List.mem_map.1 hx;have:=h v hv;simp only[List.mem_cons,xau,or_false];omega
 have:=zlv h1 h2;simpa using this
theorem zjm {g:Ty->Pat->Int->Option (List Vt)×Int}{or:Bool} (hg:∀t p c l,(g t p c).1=some l->InR l):∀(a:List Ty) (b:List Pat) (i:Nat) (acc:List Vt) (c:Int) (l:List Vt),InR acc->(zbb g or a b i acc c).1=some l->InR l
 | [],b,i,acc,c,l,ha,h=>by simp only[zbb,xae] at h;subst h;exact ha
 |_::_,[],i,acc,c,l,ha,h=>by simp only[zbb,xae] at h;subst h;exact ha
 |x::r,y::s,i,acc,c,l,ha,h=>by
  simp only[zbb] at h;cases hh:(g x y c).1 with
  |none=>rw[hh] at h;cases h
  |some m=>
   rw[hh] at h;simp only at h;split at h
   ·split at h
    ·exact zjm hg r s (i+1) acc _ l ha h
    ·cases h
   ·refine zjm hg r s (i+1) _ _ l (fun v hv=>?_) h;rcases List.mem_append.1 hv with hv|hv
    ·exact ha v hv
    ·exact hg x y c m hh v hv
theorem zm1 (w:List Data):∀(n:Nat) (t:Ty) (p:Pat) (c:Int) (l:List Vt),(zaH w n t p c).1=some l->InR l/\zcR l=true
 |0,t,p,c,l,h=>by simp[zaH] at h
 |n+1,t,p,c,l,h=>by
  unfold zaH at h;split at h
  ·cases h
  ·split at h
   ·rename_i h60 ho;have ho':ownP w t p=true:=by unfold okP at ho;simp only[xad] at ho;exact ho.1
    cases hk:(zbb (zaH w n) (decide (p.op=5)) (zab w t p) p.kids 0 (zaO t p) (c+1)).1 with
    |none=>unfold finV at h;rw[hk] at h;simp only at h;rw[hk] at h;cases h
    |some m=>
     have hi:InR m:=zjm (fun t p c l h=>(zm1 w n t p c l h).1) _ _ _ _ _ m (fun v hv=>by
      unfold zaO at hv;split at hv
      ·rename_i hop;simp only[List.mem_cons,xau,or_false] at hv;subst hv;exact zmM ho' hop
      ·simp at hv) hk
     unfold finV at h;rw[hk] at h;simp only at h;split at h
     ·rename_i hn;rw[hk] at h;cases h
      exact⟨hi,hn⟩
     ·cases h
   ·cases h
theorem zqJ (w:List Data) (n:Nat) (t:Ty) (p:Pat) (c:Int) (h:(zaH w n t p c).1.isSome=true):c+1<=(zaH w n t p c).2/\(zaH w n t p c).2<=60:=by
 have h1:=zf9 w n t p c;by_cases hw:zbN w n t p c=true
 ·have h2:=h1.2 hw;simp only[zbN,xad,xah] at hw;have:=xaV p;omega
 ·rw[if_neg hw] at h1;rw[h1.1] at h;cases h
def zdm (o:Option (List Vt)):List Vt:=o.getD []
theorem zoE {g:Ty->Pat->Int->Option (List Vt)×Int}{or:Bool}{a:List Ty}{b:List Pat}{i:Nat}{acc:List Vt}{c:Int} (ha:i<a.length) (hl:b.length=a.length) (h:(g (nth a i) (nth b i) c).1.isSome=false):
  zbb g or (a.drop i) (b.drop i) i acc c=(none,(g (nth a i) (nth b i) c).2):=by
 rw[zbc ha,zbc (l:=b) od,zbb];cases hh:(g (nth a i) (nth b i) c).1 with
 |none=>rfl
 |some l=>rw[hh] at h;cases h
theorem zpW {g:Ty->Pat->Int->Option (List Vt)×Int}{or:Bool}{a:List Ty}{b:List Pat}{i:Nat}{acc:List Vt}{c:Int} (ha:i<a.length) (hl:b.length=a.length) (h:(g (nth a i) (nth b i) c).1.isSome=true) (ho:or=true/\i=1) (hs:zdP acc (zdm (g (nth a i) (nth b i) c).1)=false):
  zbb g or (a.drop i) (b.drop i) i acc c=(none,(g (nth a i) (nth b i) c).2):=by
 rw[zbc ha,zbc (l:=b) od,zbb];cases hh:(g (nth a i) (nth b i) c).1 with
 |none=>rfl
 |some l=>rw[hh] at hs;simp only[zdm,Option.getD_some] at hs;simp only[if_pos ho,hs,Bool.false_eq_true,if_false]
theorem zoD {g:Ty->Pat->Int->Option (List Vt)×Int}{or:Bool}{a:List Ty}{b:List Pat}{i:Nat}{acc:List Vt}{c:Int} (ha:i<a.length) (hl:b.length=a.length) (h:(g (nth a i) (nth b i) c).1.isSome=true) (hs:(or=true/\i=1)->zdP acc (zdm (g (nth a i) (nth b i) c).1)=true):
  zbb g or (a.drop i) (b.drop i) i acc c=zbb g or (a.drop (i+1)) (b.drop (i+1)) (i+1) (if or=true/\i=1 then acc else acc++zdm (g (nth a i) (nth b i) c).1) (g (nth a i) (nth b i) c).2:=by
 rw[zbc ha,zbc (l:=b) od,zbb];cases hh:(g (nth a i) (nth b i) c).1 with
 |none=>rw[hh] at h;cases h
 |some l=>
  by_cases ho:or=true/\i=1
  ·have:=hs ho;rw[hh] at this;simp only[zdm,Option.getD_some] at this;simp only[if_pos ho,this,if_true]
  ·simp only[if_neg ho,zdm,Option.getD_some]
theorem zpX {g:Ty->Pat->Int->Option (List Vt)×Int}{or:Bool}{a:List Ty}{b:List Pat}{i:Nat}{acc:List Vt}{c:Int} (ha:a.length<=i):zbb g or (a.drop i) (b.drop i) i acc c=(some acc,c):=by
 rw[List.drop_eq_nil_of_le ha,zbb];intro a r b s h;cases h
theorem zga (w:List Data) (n:Nat) (t:Ty) (p:Pat) (c:Int):InR (zdm (zaH w n t p c).1)/\(zdm (zaH w n t p c).1).length<=6:=by
 cases h:(zaH w n t p c).1 with
 |none=>exact⟨fun v hv=>by simp[zdm] at hv,by simp[zdm]⟩
 |some l=>
  have:=zm1 w n t p c l h;exact⟨this.1,zpI this.1 this.2⟩
structure GoodS (w:List Data) (n:Nat) (t:Ty) (p:Pat) (c:Int) (x:Nat×List Vt×Int):Prop where
 le:x.1<=p.kids.length
 eq:zbb (zaH w n) (decide (p.op=5)) ((zab w t p).drop x.1) (p.kids.drop x.1) x.1 x.2.1 x.2.2=zbb (zaH w n) (decide (p.op=5)) (zab w t p) p.kids 0 (zaO t p) (c+1)
 lc:(x.1:Int)<=x.2.2
 c0:0<=x.2.2
 c1:x.2.2<=60
 len:x.2.1.length<=1+6*x.1
 inr:InR x.2.1
def zcd (w:List Data) (n:Nat) (t:Ty) (p:Pat) (x:Nat×List Vt×Int):Nat×List Vt×Int:=
 (x.1+1,if decide (p.op=5)=true/\x.1=1 then x.2.1 else x.2.1++zdm (zaH w n (nth (zab w t p) x.1) (nth p.kids x.1) x.2.2).1,(zaH w n (nth (zab w t p) x.1) (nth p.kids x.1) x.2.2).2)
theorem GoodS.next {w:List Data}{n:Nat}{t:Ty}{p:Pat}{c:Int}{x:Nat×List Vt×Int} (hl:p.kids.length=(zab w t p).length) (hg:GoodS w n t p c x) (hlt:x.1<p.kids.length)
  (hz:(zaH w n (nth (zab w t p) x.1) (nth p.kids x.1) x.2.2).1.isSome=true) (hs:(decide (p.op=5)=true/\x.1=1)->zdP x.2.1 (zdm (zaH w n (nth (zab w t p) x.1) (nth p.kids x.1) x.2.2).1)=true):
  GoodS w n t p c (zcd w n t p x):=by
 obtain⟨h1,h2,h3,h4,h5,h6,h7⟩:=hg;have hb:=zqJ w n _ _ _ hz;have ho:=zga w n (nth (zab w t p) x.1) (nth p.kids x.1) x.2.2;refine⟨by unfold zcd;dsimp only;omega, ?_,by unfold zcd;dsimp only;omega,by unfold zcd;dsimp only;omega,by unfold zcd;dsimp only;omega, ?_, ?_⟩
 ·rw[<-h2,zoD od hl hz hs];rfl
 ·unfold zcd;dsimp only;split
  ·omega
  ·rw[xaa];omega
 ·unfold zcd;dsimp only;split
  ·exact h7
  ·intro v hv;rcases List.mem_append.1 hv with hv|hv
   ·exact h7 v hv
   ·exact ho.1 v hv
theorem GoodS.none {w:List Data}{n:Nat}{t:Ty}{p:Pat}{c:Int}{x:Nat×List Vt×Int} (hl:p.kids.length=(zab w t p).length) (hg:GoodS w n t p c x) (hlt:x.1<p.kids.length)
  (hz:(zaH w n (nth (zab w t p) x.1) (nth p.kids x.1) x.2.2).1.isSome=false):
  finV (zbb (zaH w n) (decide (p.op=5)) (zab w t p) p.kids 0 (zaO t p) (c+1))=(none,(zaH w n (nth (zab w t p) x.1) (nth p.kids x.1) x.2.2).2):=by
 rw[<-hg.eq,zoE od hl hz];rfl
theorem GoodS.bad {w:List Data}{n:Nat}{t:Ty}{p:Pat}{c:Int}{x:Nat×List Vt×Int} (hl:p.kids.length=(zab w t p).length) (hg:GoodS w n t p c x) (hlt:x.1<p.kids.length)
  (hz:(zaH w n (nth (zab w t p) x.1) (nth p.kids x.1) x.2.2).1.isSome=true) (ho:p.op=5/\x.1=1) (hs:zdP x.2.1 (zdm (zaH w n (nth (zab w t p) x.1) (nth p.kids x.1) x.2.2).1)=false):
  finV (zbb (zaH w n) (decide (p.op=5)) (zab w t p) p.kids 0 (zaO t p) (c+1))=(Option.none,(zaH w n (nth (zab w t p) x.1) (nth p.kids x.1) x.2.2).2):=by
 rw[<-hg.eq,zpW od hl hz (by simpa using ho) hs];rfl
theorem GoodS.fin {w:List Data}{n:Nat}{t:Ty}{p:Pat}{c:Int}{x:Nat×List Vt×Int} (hl:p.kids.length=(zab w t p).length) (hg:GoodS w n t p c x) (hge:p.kids.length<=x.1):
  finV (zbb (zaH w n) (decide (p.op=5)) (zab w t p) p.kids 0 (zaO t p) (c+1))=(if zcR x.2.1=true then some x.2.1 else Option.none,x.2.2):=by
 rw[<-hg.eq,zpX od];unfold finV;simp only;split<;>rfl
theorem zpH {pre rest l:List Vt}{y:Vt} (h:pre++y::rest=l) (hm:y.var∈pre.map Vt.var):zcR l=false:=by
 unfold zcR;refine xaw (fun hn=>?_);rw[<-h,xag,xaf,List.nodup_append] at hn;exact hn.2.2 _ hm _ oe I
theorem zj4 {pre:List Vt}{y:Vt} (h:(pre.map Vt.var).Nodup) (hm:y.var∉pre.map Vt.var):((pre++[y]).map Vt.var).Nodup:=by
 rw[xag,List.nodup_append];exact⟨h,by simp,fun a ha b hb=>by simp at hb;subst hb;exact fun e=>hm (e ▸ ha)⟩
def retV (r:Option (List Vt)×Int):AV:= .tup [.d (zc7 (zdm r.1)),.d (.bool r.1.isSome)]
theorem zdv {w:List Data} (hw:WT w):∀(n:Nat){a k d c:Int}{p:Pat},d+n=11->n<=10->TyIn w.length ⟨a,k⟩->p.ok->0<=c->c<=1000000000000->
  FnD Tryz.prog 217 [.d (zah w),.agg [.d (.i a),.d (.i k)],.agg [.d (.i p.op),.d (.i p.ctor),.d (.i p.n),.d (.i p.m),.d (.i p.var),.d (zax p.kids)],.d (.i d),.ref 950 0] [(950,some (.box [.d (.i c)]))]
   (retV (zaH w n ⟨a,k⟩ p c)) [(950,some (.box [.d (.i (zaH w n ⟨a,k⟩ p c).2)]))]
 |0,a,k,d,c,p,hd,_,_,_,c0,c1=>by
  refine bd Tryz.f217 114 [] [2] fun _ _ _ _ hk=>?_;refine bx 3006 ?_;refine bx 3007 ?_;refine ev (ar (so ty3 ?_));apply tv;refine xaC (xbh 8 [(34,.d (.bool true))] [27,28,29,30,31,32,33] ?_ ?_);refine ev ?_;apply sq<;>intro h1 h1p h1s;exact jnb I;exact jnb I;refine xbg ?_;apply tv;apply sq<;>intro h2 h2p h2s;refine rn [(950,some (.box [.d (.i (zaH w 0 ⟨a,k⟩ p c).2)]))] (r2 I I) (.tup (qne ?_ ?_)) ⟨I,I⟩ (SubO.get ⟨.inr ?_,⟨.inl I,O⟩⟩) (zai I);rotate_left 3;exact absurd h2 oe;all_goals (first|((rfl);done)|(rfl))
 |n+1,a,k,d,c,p,hd,hn,ht,hok,c0,c1=>by
  by_cases h60:60<c+1
  ·have e:zaH w (n+1) ⟨a,k⟩ p c=(none,c+1):=by unfold zaH;rw[if_pos h60]
   rw[e];refine bd Tryz.f217 114 [] [2] fun _ _ _ _ hk=>?_;refine bx 3006 ?_;refine bx 3007 ?_;refine ev (ar (so ty3 ?_));apply tv;refine xaC (xbh 8 [(34,.d (.bool true))] [27,28,29,30,31,32,33] ?_ ?_);refine ev ?_;apply sq<;>intro h1 h1p h1s;exact jnb I;exact jnb I;refine xbg ?_;apply tv;apply sq<;>intro h2 h2p h2s;refine rn [(950,some (.box [.d (.i (c+1))]))] (r2 I I) (.tup (qne ?_ ?_)) ⟨I,I⟩ (SubO.get ⟨.inr ?_,⟨.inl I,O⟩⟩) (zai I);rotate_left 3;exact absurd h2 oe;all_goals (first|((rfl);done)|(rfl))
  have hsh:=zhA hw (p:=p) ht;by_cases hop:okP w ⟨a,k⟩ p=true
  ·have hok':=hok;rw[xaU] at hok;have hop':=hop;unfold okP at hop';simp only[xad,xah] at hop';obtain⟨ho,hl⟩:=hop';have hin:=zdg hw ht ho;have hlen:=zfJ hw ht (zcD ho);have hst:zcn w ⟨a,k⟩ p=zab w ⟨a,k⟩ p:=by unfold zcn;rw[if_neg (fun h=>h.2 (zcD ho h.1))]
   rw[hst,hop] at hsh;have e:zaH w (n+1) ⟨a,k⟩ p c=finV (zbb (zaH w n) (decide (p.op=5)) (zab w ⟨a,k⟩ p) p.kids 0 (zaO ⟨a,k⟩ p) (c+1)):=by
    conv=>lhs;unfold zaH
    rw[if_neg h60,if_pos hop]
   have hnr:InR (zaO ⟨a,k⟩ p):=fun v hv=>by
    unfold zaO at hv;split at hv
    ·rename_i hop;simp only[List.mem_cons,xau,or_false] at hv;subst hv;exact zmM ho hop
    ·simp at hv
   have hnl:=zpF ⟨a,k⟩ p;rw[e];refine bd Tryz.f217 114 [14,108] [2,8,17] fun _ _ _ _ hk=>?_;refine bx 3006 ?_;refine bx 3007 ?_;refine evs [14,108] [] (ar (so ty3 ?_));apply tv;refine xaC (xbh 8 [(34,.d (.bool false))] [27,28,29,30,31,32,33] ?_ ?_);refine evs [14,108] [] ?_;apply sq<;>intro h1 h1p h1s;exact jnb I;exact jnb I;refine xbg ?_;apply tv;apply sq<;>intro h2 h2p h2s;exact absurd h2 oe;refine wc zmk hsh I I ?_;refine evs [14,108] [] ?_;apply sq<;>intro h3 h3p h3s;exact absurd h3 oe;refine xbk 5 3 .none I I ?_;apply tv;refine xaC (xbh 8 [(51,.d (.bool (decide (p.op=2\/p.op=6))))] [44,45,46,47,48,49,50] ?_ ?_);refine evs [14,108] [] ?_;apply sq<;>intro h4 h4p h4s;exact jnb I;exact jnb I;refine xbg ?_;apply tv;apply sq<;>intro h5 h5p h5s;refine bu [0,1] [_,_] zrm ?_;refine si [0] [_] sl36 zl3 ?_;refine ap sl36 zl5 I I I oe (by(simp;done)) ?_;refine asg ?_;apply tv;refine xaA (ι:=Nat×List Vt×Int) hk (fun z=>[(62,.d (.i (z.1:Int))),(14,.gl 5 (z.2.1.map Vt.c))]) [10,11,15,16,17,18,63,64,65,66,67,68,69,70,71,72,73,74,75,76,77,78,79,80,81,82,83,84,85,86,87,88,89,90,91,92,93,94,95,96,97,98] (fun z=>[(950,some (.box [.d (.i z.2.2)])),(5,some (.tok ((z.2.1.map Vt.c)).length 3))]) (fun z=>GoodS w n ⟨a,k⟩ p c z) (fun z=>p.kids.length-z.1) (0,zaO ⟨a,k⟩ p,c+1) ⟨by simp,by simp,by dsimp only;omega,by dsimp only;omega,by dsimp only;omega,by dsimp only;omega,hnr⟩ ⟨⟨_,I,xaK ?_⟩,⟨⟨_,I,LeA.glg ?_⟩,O⟩⟩ ⟨?_,⟨zag ?_,O⟩⟩ (fun x=>rfl) (fun z hg1=>?_);iterate 2 focus (first|rfl|(simp_all[zaO];done))
   focus (first|rfl|(simp[getH];done))
   focus (first|rfl|(simp_all[zaO];done))
   obtain⟨s1,_,s3,s4,s5,s6,s7⟩:=id hg1;refine evc [14,108] [2,8,17] ?_;apply sq<;>intro h6 h6p h6s<;>(try simp only[Q,xaS] at h6p);refine ixq sl58 I I I (zbT od) I ?_;refine evs [14,108] [] (ab 3016 tz60 ?_);refine evs [14,108] [] (so ty60 ?_);apply tv;refine ixq zaJ I I I (zam od) I ?_;refine evd [14,108] [] (ar (wd zmh (zdv hw n (a:=(nth (zab w ⟨a,k⟩ p) z.1).data) (k:=(nth (zab w ⟨a,k⟩ p) z.1).index) (c:=z.2.2) (p:=nth p.kids z.1) od od (hin _ (zao od)) (xaX hok.2 _ (zao od)) od od) I I ⟨I,O⟩ ?_));refine evd [14,108] [] (dr ?_);apply sq<;>intro h7 h7p h7s;refine rn [(950,some (.box [.d (.i (finV (zbb (zaH w n) (decide (p.op=5)) (zab w ⟨a,k⟩ p) p.kids 0 (zaO ⟨a,k⟩ p) (c+1))).2)]))] (r2 I I) (.tup (qne ?_ ?_)) ⟨I,I⟩ (SubO.get ⟨.inr ?_,⟨.inl I,O⟩⟩) (zai I);rotate_left 3;refine xaC (xbh 7 [(93,.d (.bool (decide (p.op=5/\z.1=1))))] [87,88,89,90,91,92] ?_ ?_);refine evs [14,108] [] ?_;apply sq<;>intro h8 h8p h8s;exact jnb I;exact jnb I;refine xbg (evs [14,108] [] ?_);apply sq<;>intro h9 h9p h9s<;>(try simp only[Q,xaS] at h9p);refine Walk.call (cr:=[]) zpa (zf1 od (by have hz:=(zga w n ⟨(nth (zab w ⟨a,k⟩ p) z.1).data,(nth (zab w ⟨a,k⟩ p) z.1).index⟩ (nth p.kids z.1) z.2.2).2;omega)) I .none I I (.cons (.gl _ _) (.cons (.refl _) .nil)) O I I I ?_;refine evs [14,108] [] ?_;apply sq<;>intro h10 h10p h10s<;>(try simp only[Q,xaS] at h10p);refine rn [(950,some (.box [.d (.i (finV (zbb (zaH w n) (decide (p.op=5)) (zab w ⟨a,k⟩ p) p.kids 0 (zaO ⟨a,k⟩ p) (c+1))).2)]))] (r2 I I) (.tup (qne ?_ ?_)) ⟨I,I⟩ (SubO.get ⟨.inr ?_,⟨.inl I,O⟩⟩) (zai I);rotate_left 3;refine ar (xaj ((zcd w n ⟨a,k⟩ p z)) ⟨(hg1.next hl od ox (fun ho=>by simp_all)),(by unfold zcd;dsimp only;omega),sx ⟨⟨_,I,xaK ?_⟩,⟨⟨_,I,LeA.glg ?_⟩,O⟩⟩ ⟨?_,⟨zag ?_,O⟩⟩⟩);iterate 2 focus (first|rfl|(simp_all[zaO];done))
   focus (first|rfl|(simp[getH];done))
   focus (first|rfl|(simp_all[zaO];done))
   refine ap sl36 zl5 I I I oe (by first|(simp;done)|(have hz:=(zga w n ⟨(nth (zab w ⟨a,k⟩ p) z.1).data,(nth (zab w ⟨a,k⟩ p) z.1).index⟩ (nth p.kids z.1) z.2.2).2;simp;omega)) ?_;refine asg ?_;apply tv;refine ar (xaj ((zcd w n ⟨a,k⟩ p z)) ⟨(hg1.next hl od ox (fun ho=>by simp_all)),(by unfold zcd;dsimp only;omega),sx ⟨⟨_,I,xaK ?_⟩,⟨⟨_,I,LeA.glg ?_⟩,O⟩⟩ ⟨?_,⟨zag ?_,O⟩⟩⟩);iterate 2 focus (first|rfl|(simp_all[zaO];done)|(unfold zcd;dsimp only;rw[if_neg ox];simp;done))
   focus (first|rfl|(simp[getH];done))
   focus (first|rfl|(simp_all[zaO];done)|(unfold zcd;dsimp only;rw[if_neg ox];simp;done))
   refine ab 3019 zrq ?_;apply tv;refine xaA (ι:=List (Vt)×List (Vt)) hk (fun x=>[(101,.d (.i (x.1.length:Int)))]) [10,11,21,102,103,104,105,106,107,108,109,110,111,112] (fun x=>[(3019,some (.box (metA (x.1.map Vt.var))))]) (fun x=>x.1++x.2=z.2.1/\(x.1.map Vt.var).Nodup) (fun x=>x.2.length) ([],z.2.1) ⟨by simp,by simp⟩ ⟨⟨_,I,xaK ?_⟩,O⟩ ⟨?_,O⟩ (fun x=>rfl) (fun x hg2=>?_);focus (first|rfl|omega)
   focus (first|rfl|(simp[getH];done))
   obtain⟨pre,rest⟩:=x;dsimp only at hg2 ⊢;refine evc [14,108] [2,8,17] ?_;apply sq<;>intro h11 h11p h11s<;>(try simp only[Q,xaS] at h11p);rcases rest with _|⟨y,rest⟩
   ·exfalso;simp_all
   have hy:=s7 y (by rw[<-hg2.1];simp);refine xbB sl36 .none I I I I (zaI hg2.1) I (evs [14,108] [] (ab 3021 zl3 ?_));refine so zrp ?_;apply tv;refine xbA (i:=y.var.toNat) zlV .none I I I (Int.toNat_of_nonneg hy.1).symm od ?_;refine xbE ty4 .none I I I ((by simpa using zmH hy.1 hy.2)) ?_;apply tv;apply sq<;>intro h12 h12p h12s<;>(try simp only[Q,xaS] at h12p);refine rn [(950,some (.box [.d (.i (finV (zbb (zaH w n) (decide (p.op=5)) (zab w ⟨a,k⟩ p) p.kids 0 (zaO ⟨a,k⟩ p) (c+1))).2)]))] (r2 I I) (.tup (qne ?_ ?_)) ⟨I,I⟩ (SubO.get ⟨.inr ?_,⟨.inl I,O⟩⟩) (zai I);rotate_left 3;refine xbA (i:=y.var.toNat) zlV .none I I I (Int.toNat_of_nonneg hy.1).symm od ?_;refine Walk.store ty4 .none I I I I I I oe ((by simpa using zmI hy.1 hy.2)) ?_;apply tv;refine ar (xaj ((pre++[y],rest)) ⟨⟨(by have hz:=hg2.1;rw[<-hz];simp),(zj4 hg2.2 ox)⟩,oe,sx ⟨⟨_,I,xaK ?_⟩,O⟩ ⟨?_,O⟩⟩);focus (first|rfl|(simp;done)|omega)
   focus (first|rfl|(simp[getH];done))
   have hrest:rest=[]:=by
    rcases rest with _|⟨a,b⟩
    ·rfl
    ·exfalso;have hz:=xam List.length (hg2.1);simp only[xaa,xab,xac] at hz;omega
   subst hrest;refine rn [(950,some (.box [.d (.i (finV (zbb (zaH w n) (decide (p.op=5)) (zab w ⟨a,k⟩ p) p.kids 0 (zaO ⟨a,k⟩ p) (c+1))).2)]))] (r2 I I) (.tup (qge ?_ ?_)) ⟨I,I⟩ (SubO.get ⟨.inr ?_,⟨.inl I,O⟩⟩) (zai I);rotate_left 3;try simp only[Q,xaS] at h5p
   refine xaA (ι:=Nat×List Vt×Int) hk (fun z=>[(62,.d (.i (z.1:Int))),(14,.gl 5 (z.2.1.map Vt.c))]) [10,11,15,16,17,18,63,64,65,66,67,68,69,70,71,72,73,74,75,76,77,78,79,80,81,82,83,84,85,86,87,88,89,90,91,92,93,94,95,96,97,98] (fun z=>[(950,some (.box [.d (.i z.2.2)])),(5,some (.tok ((z.2.1.map Vt.c)).length 3))]) (fun z=>GoodS w n ⟨a,k⟩ p c z) (fun z=>p.kids.length-z.1) (0,zaO ⟨a,k⟩ p,c+1) ⟨by simp,by simp,by dsimp only;omega,by dsimp only;omega,by dsimp only;omega,by dsimp only;omega,hnr⟩ ⟨⟨_,I,xaK ?_⟩,⟨⟨_,I,LeA.glg ?_⟩,O⟩⟩ ⟨?_,⟨zag ?_,O⟩⟩ (fun x=>rfl) (fun z hg1=>?_);iterate 2 focus (first|rfl|(simp_all[zaO];done))
   focus (first|rfl|(simp[getH];done))
   focus (first|rfl|(simp_all[zaO];done))
   obtain⟨s1,_,s3,s4,s5,s6,s7⟩:=id hg1;refine evc [14,108] [2,8,17] ?_;apply sq<;>intro h13 h13p h13s<;>(try simp only[Q,xaS] at h13p);refine ixq sl58 I I I (zbT od) I ?_;refine evs [14,108] [] (ab 3016 tz60 ?_);refine evs [14,108] [] (so ty60 ?_);apply tv;refine ixq zaJ I I I (zam od) I ?_;refine evd [14,108] [] (ar (wd zmh (zdv hw n (a:=(nth (zab w ⟨a,k⟩ p) z.1).data) (k:=(nth (zab w ⟨a,k⟩ p) z.1).index) (c:=z.2.2) (p:=nth p.kids z.1) od od (hin _ (zao od)) (xaX hok.2 _ (zao od)) od od) I I ⟨I,O⟩ ?_));refine evd [14,108] [] (dr ?_);apply sq<;>intro h14 h14p h14s<;>(try simp only[Q,xaS] at h14p);refine rn [(950,some (.box [.d (.i (finV (zbb (zaH w n) (decide (p.op=5)) (zab w ⟨a,k⟩ p) p.kids 0 (zaO ⟨a,k⟩ p) (c+1))).2)]))] (r2 I I) (.tup (qne ?_ ?_)) ⟨I,I⟩ (SubO.get ⟨.inr ?_,⟨.inl I,O⟩⟩) (zai I);rotate_left 3;refine xaC (xbh 7 [(93,.d (.bool (decide (p.op=5/\z.1=1))))] [87,88,89,90,91,92] ?_ ?_);refine evs [14,108] [] ?_;apply sq<;>intro h15 h15p h15s<;>(try simp only[Q,xaS] at h15p);exact jnb I;exact jnb I;refine xbg (evs [14,108] [] ?_);apply sq<;>intro h16 h16p h16s<;>(try simp only[Q,xaS] at h16p);refine Walk.call (cr:=[]) zpa (zf1 od (by have hz:=(zga w n ⟨(nth (zab w ⟨a,k⟩ p) z.1).data,(nth (zab w ⟨a,k⟩ p) z.1).index⟩ (nth p.kids z.1) z.2.2).2;omega)) I .none I I (.cons (.gl _ _) (.cons (.refl _) .nil)) O I I I ?_;refine evs [14,108] [] ?_;apply sq<;>intro h17 h17p h17s<;>(try simp only[Q,xaS] at h17p);refine rn [(950,some (.box [.d (.i (finV (zbb (zaH w n) (decide (p.op=5)) (zab w ⟨a,k⟩ p) p.kids 0 (zaO ⟨a,k⟩ p) (c+1))).2)]))] (r2 I I) (.tup (qne ?_ ?_)) ⟨I,I⟩ (SubO.get ⟨.inr ?_,⟨.inl I,O⟩⟩) (zai I);rotate_left 3;refine ar (xaj ((zcd w n ⟨a,k⟩ p z)) ⟨(hg1.next hl od ox (fun ho=>by simp_all)),(by unfold zcd;dsimp only;omega),sx ⟨⟨_,I,xaK ?_⟩,⟨⟨_,I,LeA.glg ?_⟩,O⟩⟩ ⟨?_,⟨zag ?_,O⟩⟩⟩);iterate 2 focus (first|rfl|(simp_all[zaO];done)|(unfold zcd;dsimp only;rw[if_pos ox];done))
   focus (first|rfl|(simp[getH];done))
   focus (first|rfl|(simp_all[zaO];done)|(unfold zcd;dsimp only;rw[if_pos ox];done))
   refine ap sl36 zl5 I I I oe (by first|(simp;done)|(have hz:=(zga w n ⟨(nth (zab w ⟨a,k⟩ p) z.1).data,(nth (zab w ⟨a,k⟩ p) z.1).index⟩ (nth p.kids z.1) z.2.2).2;simp;omega)) ?_;refine asg ?_;apply tv;refine ar (xaj ((zcd w n ⟨a,k⟩ p z)) ⟨(hg1.next hl od ox (fun ho=>by simp_all)),(by unfold zcd;dsimp only;omega),sx ⟨⟨_,I,xaK ?_⟩,⟨⟨_,I,LeA.glg ?_⟩,O⟩⟩ ⟨?_,⟨zag ?_,O⟩⟩⟩);iterate 2 focus (first|rfl|(simp_all[zaO];done)|(unfold zcd;dsimp only;rw[if_neg ox];simp;done))
   focus (first|rfl|(simp[getH];done))
   focus (first|rfl|(simp_all[zaO];done)|(unfold zcd;dsimp only;rw[if_neg ox];simp;done))
   refine ab 3019 zrq ?_;apply tv;refine xaA (ι:=List (Vt)×List (Vt)) hk (fun x=>[(101,.d (.i (x.1.length:Int)))]) [10,11,21,102,103,104,105,106,107,108,109,110,111,112] (fun x=>[(3019,some (.box (metA (x.1.map Vt.var))))]) (fun x=>x.1++x.2=z.2.1/\(x.1.map Vt.var).Nodup) (fun x=>x.2.length) ([],z.2.1) ⟨by simp,by simp⟩ ⟨⟨_,I,xaK ?_⟩,O⟩ ⟨?_,O⟩ (fun x=>rfl) (fun x hg2=>?_);focus (first|rfl|omega)
   focus (first|rfl|(simp[getH];done))
   obtain⟨pre,rest⟩:=x;dsimp only at hg2 ⊢;refine evc [14,108] [2,8,17] ?_;apply sq<;>intro h18 h18p h18s<;>(try simp only[Q,xaS] at h18p);rcases rest with _|⟨y,rest⟩
   ·exfalso;simp_all
   have hy:=s7 y (by rw[<-hg2.1];simp);refine xbB sl36 .none I I I I (zaI hg2.1) I (evs [14,108] [] (ab 3021 zl3 ?_));refine so zrp ?_;apply tv;refine xbA (i:=y.var.toNat) zlV .none I I I (Int.toNat_of_nonneg hy.1).symm od ?_;refine xbE ty4 .none I I I ((by simpa using zmH hy.1 hy.2)) ?_;apply tv;apply sq<;>intro h19 h19p h19s<;>(try simp only[Q,xaS] at h19p);refine rn [(950,some (.box [.d (.i (finV (zbb (zaH w n) (decide (p.op=5)) (zab w ⟨a,k⟩ p) p.kids 0 (zaO ⟨a,k⟩ p) (c+1))).2)]))] (r2 I I) (.tup (qne ?_ ?_)) ⟨I,I⟩ (SubO.get ⟨.inr ?_,⟨.inl I,O⟩⟩) (zai I);rotate_left 3;refine xbA (i:=y.var.toNat) zlV .none I I I (Int.toNat_of_nonneg hy.1).symm od ?_;refine Walk.store ty4 .none I I I I I I oe ((by simpa using zmI hy.1 hy.2)) ?_;apply tv;refine ar (xaj ((pre++[y],rest)) ⟨⟨(by have hz:=hg2.1;rw[<-hz];simp),(zj4 hg2.2 ox)⟩,oe,sx ⟨⟨_,I,xaK ?_⟩,O⟩ ⟨?_,O⟩⟩);focus (first|rfl|(simp;done)|omega)
   focus (first|rfl|(simp[getH];done))
   have hrest:rest=[]:=by
    rcases rest with _|⟨a,b⟩
    ·rfl
    ·exfalso;have hz:=xam List.length (hg2.1);simp only[xaa,xab,xac] at hz;omega
   subst hrest;refine rn [(950,some (.box [.d (.i (finV (zbb (zaH w n) (decide (p.op=5)) (zab w ⟨a,k⟩ p) p.kids 0 (zaO ⟨a,k⟩ p) (c+1))).2)]))] (r2 I I) (.tup (qge ?_ ?_)) ⟨I,I⟩ (SubO.get ⟨.inr ?_,⟨.inl I,O⟩⟩) (zai I);rotate_left 3;all_goals (((first|(rw[hg1.none hl od ol];first|done|rfl)|(rw[hg1.bad hl od ol ol ol];first|done|rfl)|(rw[hg1.fin hl od,if_neg (by rw[zpH hg2.1 ol];simp)];first|done|rfl)|(rw[hg1.fin hl od,if_pos (by have hz:=hg2.1;rw[xaq] at hz;rw[<-hz];exact xax hg2.2)];first|done|rfl));done))
  ·have hopf:okP w ⟨a,k⟩ p=false:=by simpa using hop
   have e:zaH w (n+1) ⟨a,k⟩ p c=(none,c+1):=by unfold zaH;rw[if_neg h60,if_neg hop]
   rw[e];rw[hopf] at hsh;refine bd Tryz.f217 114 [] [2] fun _ _ _ _ hk=>?_;refine bx 3006 ?_;refine bx 3007 ?_;refine ev (ar (so ty3 ?_));apply tv;refine xaC (xbh 8 [(34,.d (.bool false))] [27,28,29,30,31,32,33] ?_ ?_);refine ev ?_;apply sq<;>intro h1 h1p h1s;exact jnb I;exact jnb I;refine xbg ?_;apply tv;apply sq<;>intro h2 h2p h2s;exact absurd h2 oe;refine wc zmk hsh I I ?_;refine ev ?_;apply sq<;>intro h3 h3p h3s;refine rn [(950,some (.box [.d (.i (c+1))]))] (r2 I I) (.tup (qne ?_ ?_)) ⟨I,I⟩ (SubO.get ⟨.inr ?_,⟨.inl I,O⟩⟩) (zai I);rotate_left 3;exact absurd h3 oe;all_goals (first|((rfl);done)|(rfl))
theorem zts (w:List Data) (t:Ty) (p:Pat):(zaH w 10 t p 0).1.isSome=isP w t p:=by
 have h:=(zf9 w 10 t p 0).1;rw[h];unfold zbN isP;rw[Int.zero_add];split
 ·rename_i hz;rw[hz];rfl
 ·rename_i hz;cases hc:(zat w 10 t p&&(decide ((p.size:Int)<=60)&&linP w 10 t p)) with
  |true=>exact absurd hc hz
  |false=>rfl
theorem zhF {w:List Data} (hw:WT w){a k:Int}{p:Pat} (ht:TyIn w.length ⟨a,k⟩) (hok:p.ok):
  FnD Tryz.prog 131 [.d (zah w),.agg [.d (.i a),.d (.i k)],.agg [.d (.i p.op),.d (.i p.ctor),.d (.i p.n),.d (.i p.m),.d (.i p.var),.d (zax p.kids)]] [] (.tup [.d (zc7 (zdm (zaH w 10 ⟨a,k⟩ p 0).1)),.d (.bool (isP w ⟨a,k⟩ p))]) []:=by
 rw[<-zts];refine bd Tryz.f131 15 [] [] fun _ _ _ _ hk=>?_;refine bx 3004 ?_;refine bx 3005 ?_;refine ev (ab 950 tz3 ?_);refine so ty3 ?_;apply tv;refine wd zmh (zdv hw 10 (c:=0) od od ht hok od od) I I ⟨I,O⟩ ?_;refine ev (rn0 (r2 I I) (.tup (qee ?_ ?_)));rotate_left 2;all_goals (rfl)
theorem zfr {w:List Data} (hw:WT w){a k:Int}{p:Pat} (ht:TyIn w.length ⟨a,k⟩) (hok:p.ok):
  FnD Tryz.prog 101 [.d (zah w),.agg [.d (.i a),.d (.i k)],.agg [.d (.i p.op),.d (.i p.ctor),.d (.i p.n),.d (.i p.m),.d (.i p.var),.d (zax p.kids)]] [] (.d (.bool (isP w ⟨a,k⟩ p))) []:=by
 refine bd Tryz.f101 17 [] [] fun _ _ _ _ hk=>?_;refine bx 3004 ?_;refine bx 3005 ?_;refine ev (wc zr8 (zhF hw ht hok) I I ?_);refine ev (rq ?_);rotate_left;all_goals (rfl)
set_option maxHeartbeats 2000000
mutual
def cntE (m:Int):Ex->Int
 | .mk _ _ _ ks=>zdV m 1 ks
def zdV (m n:Int):List Ex->Int
 | []=>n
 |k::r=>if n<=m then zdV m (n+cntE (m-n) k) r else n
end
theorem zoj {m n:Int}{l:List Ex} (h:¬n<=m):zdV m n l=n:=by cases l<;>simp[zdV,h]
mutual
theorem znp:∀(v:Ex) (m:Int),1<=cntE m v/\cntE m v<=v.size
 | .mk _ _ _ ks,m=>by
  have:=zi4 ks m 1 od;simp only[cntE,Ex.size];push_cast;omega
theorem zi4:∀(l:List Ex) (m n:Int),1<=n->1<=zdV m n l/\zdV m n l<=n+Exs.size l
 | [],m,n,h=>by simp[zdV,Exs.size];omega
 |k::r,m,n,h=>by
  have h1:=znp k (m-n);have h2:=zi4 r m (n+cntE (m-n) k) od;simp only[zdV,Exs.size];split
  ·push_cast;omega
  ·push_cast;omega
end
mutual
theorem zqh:∀(v:Ex) (m:Int),(cntE m v<=m↔(v.size:Int)<=m)/\(cntE m v<=m->cntE m v=v.size)
 | .mk _ _ _ ks,m=>by
  have:=zk9 ks m 1;simp only[cntE,Ex.size];push_cast;exact this
theorem zk9:∀(l:List Ex) (m n:Int),(zdV m n l<=m↔n+(Exs.size l:Int)<=m)/\(zdV m n l<=m->zdV m n l=n+Exs.size l)
 | [],m,n=>by simp[zdV,Exs.size]
 |k::r,m,n=>by
  have h1:=zqh k (m-n);have h2:=zk9 r m (n+cntE (m-n) k);have h3:=zi4 r m (n+cntE (m-n) k);have h4:=znp k (m-n);simp only[zdV,Exs.size];push_cast
  by_cases hn:n<=m
  ·rw[if_pos hn];by_cases h5:cntE (m-n) k<=m-n
   ·have h6:=h1.2 h5;rw[h6] at h2 ⊢;constructor
    ·rw[h2.1];constructor<;>intro h<;>omega
    ·intro h;rw[h2.2 h];omega
   ·have h7:¬(k.size:Int)<=m-n:=fun h=>h5 (h1.1.2 h);have h8:¬n+cntE (m-n) k<=m:=by omega
    rw[zoj h8];constructor
    ·constructor<;>intro h<;>omega
    ·intro h;omega
  ·rw[if_neg hn];constructor
   ·constructor<;>intro h<;>omega
   ·intro h;omega
end
def tyS (s:Nat):Ty:=⟨((s / 4:Nat):Int),((s % 4:Nat):Int)⟩
def zd1 (t:Ty):Nat:=t.data.toNat*4+t.index.toNat
def dv (f:Nat->Nat) (t:Ty):Nat:=if t.data = -1 then 1 else f (zd1 t)
def zbC (f:Nat->Nat):Nat->List Ty->Nat
 |m,[]=>m+1
 |m,t::r=>if dv f t=0 then 0 else zbC f (max m (dv f t)) r
def most (w:List Data) (f:Nat->Nat) (t:Ty) (c:Int):Nat:=zbC f 0 (zac w t c)
def updF (f:Nat->Nat) (s n:Nat):Nat->Nat:=fun i=>if i=s then n else f i
def zbE (w:List Data) (s:Nat) (f:Nat->Nat) (c:Int):Nat->Nat:=
 if 0<most w f (tyS s) c/\(f s=0\/most w f (tyS s) c<f s) then updF f s (most w f (tyS s) c) else f
def zdn (w:List Data) (f:Nat->Nat) (s:Nat):Nat->Nat:=(za2 w (tyS s)).foldl (zbE w s) f
def zgx (w:List Data) (f:Nat->Nat):Nat->Nat:=(List.range (w.length*4)).foldl (zdn w) f
def zbW (w:List Data):Nat->Nat->Nat
 |0=>fun _=>0
 |k+1=>zgx w (zbW w k)
def zau (w:List Data):Nat->Nat:=zbW w (w.length*4+1)
def Hd (w:List Data):Nat->Ty->Prop
 |0,_=>False
 |d+1,t=>t.data = -1\/∃c∈za2 w t,t.data≠ -1/\∀u∈zac w t c,Hd w d u
def InS (n:Nat) (u:Ty):Prop:=u.data = -1\/(zd1 u<n/\tyS (zd1 u)=u)
def ClosedT (w:List Data):Prop:=∀s,s<w.length*4->∀c∈za2 w (tyS s),∀u∈zac w (tyS s) c,InS (w.length*4) u
theorem zjs (s:Nat):(tyS s).data≠ -1:=by simp only[tyS];omega
theorem Hd_mono (w:List Data):∀(d:Nat) (t:Ty),Hd w d t->Hd w (d+1) t
 |0,_,h=>h.elim
 |d+1,t,h=>by
  rcases h with h|⟨c,hc,h1,h⟩
  ·exact .inl h
  ·exact .inr ⟨c,hc,h1,fun u hu=>Hd_mono w d u (h u hu)⟩
theorem Hd_le {w:List Data}{d e:Nat}{t:Ty} (h:d<=e) (hd:Hd w d t):Hd w e t:=by
 induction h with
 |refl=>exact hd
 |step _ ih=>exact Hd_mono w _ t ih
section
variable {w:List Data}
def Bet (f g:Nat->Nat):Prop:=∀s,0<f s->0<g s/\g s<=f s
def Snd (w:List Data) (f:Nat->Nat):Prop:=∀s,s<w.length*4->0<f s->Hd w (f s) (tyS s)
def Cmp (w:List Data) (k:Nat) (f:Nat->Nat):Prop:=∀s,s<w.length*4->∀d,d<=k->Hd w d (tyS s)->0<f s/\f s<=d
theorem Bet.refl (f:Nat->Nat):Bet f f:=fun s h=>⟨h,Nat.le_refl _⟩
theorem Bet.trans {f g h:Nat->Nat} (a:Bet f g) (b:Bet g h):Bet f h:=fun s hs=>⟨(b s (a s hs).1).1,Nat.le_trans (b s (a s hs).1).2 (a s hs).2⟩
theorem Cmp.bet {k:Nat}{f g:Nat->Nat} (h:Cmp w k f) (b:Bet f g):Cmp w k g:=fun s hs d hd hh=>
 ⟨(b s (h s hs d hd hh).1).1,Nat.le_trans (b s (h s hs d hd hh).1).2 (h s hs d hd hh).2⟩
theorem zif {f:Nat->Nat}:∀ {l:List Ty}{m k:Nat},m<=k->(∀u∈l,0<dv f u/\dv f u<=k)->0<zbC f m l/\zbC f m l<=k+1
 | [],m,k,hm,_=>by simp only[zbC];omega
 |t::r,m,k,hm,h=>by
  have h1:=h t oe;simp only[zbC];rw[if_neg od];exact zif od (fun u hu=>h u (by simp[hu]))
theorem zgm {f:Nat->Nat}:∀ {l:List Ty}{m:Nat},0<zbC f m l->m<zbC f m l/\∀u∈l,0<dv f u/\dv f u<zbC f m l
 | [],m,_=>⟨by simp only[zbC];omega,fun u hu=>by simp at hu⟩
 |t::r,m,h=>by
  simp only[zbC] at h ⊢;by_cases h0:dv f t=0
  ·rw[if_pos h0] at h;omega
  ·rw[if_neg h0] at h ⊢;obtain⟨h1,h2⟩:=zgm h;refine⟨by omega,fun u hu=>?_⟩;rcases List.mem_cons.1 hu with rfl|hu
   ·omega
   ·exact h2 u hu
theorem zom {f:Nat->Nat} (hs:Snd w f){u:Ty} (hu:InS (w.length*4) u) (h:0<dv f u):Hd w (dv f u) u:=by
 unfold dv at h ⊢;split
 ·rename_i he;exact .inl he
 ·rename_i he;rw[if_neg he] at h;rcases hu with hu|⟨h1,h2⟩
  ·exact absurd hu he
  ·have:=hs _ h1 h;rwa [h2] at this
theorem zmt {k:Nat}{f:Nat->Nat} (hc:Cmp w k f){u:Ty} (hu:InS (w.length*4) u) (h:Hd w k u):0<dv f u/\dv f u<=k:=by
 unfold dv;split
 ·cases k with
  |zero=>exact h.elim
  |succ k=>omega
 ·rename_i he;rcases hu with hu|⟨h1,h2⟩
  ·exact absurd hu he
  ·exact hc _ h1 k (Nat.le_refl _) (by rw[h2];exact h)
theorem zlB {s:Nat}{f:Nat->Nat}{c:Int}:Bet f (zbE w s f c):=by
 intro i hi;unfold zbE;split
 ·rename_i h;unfold updF;split
  ·subst i;omega
  ·omega
 ·omega
theorem zpU (hcl:ClosedT w){s:Nat}{f:Nat->Nat}{c:Int} (hs:s<w.length*4) (hc:c∈za2 w (tyS s)) (h:Snd w f):Snd w (zbE w s f c):=by
 unfold zbE;split
 ·rename_i hn;intro i hi h0;unfold updF at h0 ⊢;by_cases he:i=s
  ·subst he;rw[if_pos rfl] at h0 ⊢;obtain⟨h1,h2⟩:=zgm (m:=0) hn.1;obtain⟨n,hn'⟩:∃n,most w f (tyS i) c=n+1:=⟨most w f (tyS i) c-1,by omega⟩;rw[hn'];refine .inr ⟨c,hc,zjs _,fun u hu=>?_⟩;have h3:=h2 u hu;have h4:zbC f 0 (zac w (tyS i) c)=n+1:=hn';exact Hd_le od (zom h (hcl i hi c hc u hu) h3.1)
  ·rw[if_neg he] at h0 ⊢;exact h i hi h0
 ·exact h
theorem zpS (hcl:ClosedT w){s k:Nat}{f:Nat->Nat}{c:Int} (hs:s<w.length*4) (hc:c∈za2 w (tyS s)) (h:Cmp w k f) (hh:∀u∈zac w (tyS s) c,Hd w k u):
  0<zbE w s f c s/\zbE w s f c s<=k+1:=by
 have hm:=zif (f:=f) (m:=0) (k:=k) od (fun u hu=>zmt h (hcl s hs c hc u hu) (hh u hu));have hm':0<most w f (tyS s) c/\most w f (tyS s) c<=k+1:=hm;unfold zbE;split
 ·unfold updF;rw[if_pos rfl];exact hm'
 ·rename_i hn;have:¬(f s=0\/most w f (tyS s) c<f s):=fun h2=>hn ⟨hm'.1,h2⟩;omega
theorem znZ (hcl:ClosedT w){s k:Nat} (hs:s<w.length*4):∀(C:List Int) (f:Nat->Nat),(∀c∈C,c∈za2 w (tyS s))->Snd w f->Cmp w k f->
  Bet f (C.foldl (zbE w s) f)/\Snd w (C.foldl (zbE w s) f)/\∀c∈C,(∀u∈zac w (tyS s) c,Hd w k u)->0<C.foldl (zbE w s) f s/\C.foldl (zbE w s) f s<=k+1
 | [],f,_,h1,_=>⟨Bet.refl f,h1,fun c hc=>by simp at hc⟩
 |c::r,f,hC,h1,h2=>by
  have hc:=hC c oe;obtain⟨g1,g2,g3⟩:=znZ hcl hs r (zbE w s f c) (fun x hx=>hC x (by simp[hx])) (zpU hcl hs hc h1) (h2.bet zlB);refine⟨zlB.trans g1,g2,fun x hx hh=>?_⟩;rcases List.mem_cons.1 hx with rfl|hx
  ·obtain⟨q1,q2⟩:=zpS hcl hs hc h2 hh;exact⟨(g1 s q1).1,Nat.le_trans (g1 s q1).2 q2⟩
  ·exact g3 x hx hh
theorem zqM (hcl:ClosedT w){s k:Nat} (hs:s<w.length*4){f:Nat->Nat} (h1:Snd w f) (h2:Cmp w k f):
  Bet f (zdn w f s)/\Snd w (zdn w f s)/\∀d,d<=k+1->Hd w d (tyS s)->0<zdn w f s s/\zdn w f s s<=d:=by
 obtain⟨g1,g2,g3⟩:=znZ hcl hs (za2 w (tyS s)) f (fun c hc=>hc) h1 h2;refine⟨g1,g2,fun d hd hh=>?_⟩;rcases Nat.lt_or_ge d (k+1) with h|h
 ·have:=h2 s hs d od hh;exact⟨(g1 s this.1).1,Nat.le_trans (g1 s this.1).2 this.2⟩
 ·obtain rfl:d=k+1:=by omega
  rcases hh with hh|⟨c,hc,_,hh⟩
  ·exact absurd hh (zjs s)
  ·exact g3 c hc hh
theorem zlD (hcl:ClosedT w){k:Nat}:∀(L:List Nat) (f:Nat->Nat),(∀s∈L,s<w.length*4)->Snd w f->Cmp w k f->
  Bet f (L.foldl (zdn w) f)/\Snd w (L.foldl (zdn w) f)/\∀s∈L,∀d,d<=k+1->Hd w d (tyS s)->0<L.foldl (zdn w) f s/\L.foldl (zdn w) f s<=d
 | [],f,_,h1,_=>⟨Bet.refl f,h1,fun s hs=>by simp at hs⟩
 |s::r,f,hL,h1,h2=>by
  obtain⟨p1,p2,p3⟩:=zqM hcl (hL s oe) h1 h2;obtain⟨g1,g2,g3⟩:=zlD hcl r (zdn w f s) (fun x hx=>hL x (by simp[hx])) p2 (h2.bet p1);refine⟨p1.trans g1,g2,fun x hx d hd hh=>?_⟩;rcases List.mem_cons.1 hx with rfl|hx
  ·have:=p3 d hd hh;exact⟨(g1 x this.1).1,Nat.le_trans (g1 x this.1).2 this.2⟩
  ·exact g3 x hx d hd hh
theorem zp4 (hcl:ClosedT w){k:Nat}{f:Nat->Nat} (h1:Snd w f) (h2:Cmp w k f):Bet f (zgx w f)/\Snd w (zgx w f)/\Cmp w (k+1) (zgx w f):=by
 obtain⟨g1,g2,g3⟩:=zlD hcl (List.range (w.length*4)) f (fun s hs=>List.mem_range.1 hs) h1 h2;exact⟨g1,g2,fun s hs d hd hh=>g3 s (List.mem_range.2 hs) d hd hh⟩
theorem zdL (hcl:ClosedT w):∀k,Snd w (zbW w k)/\Cmp w k (zbW w k)
 |0=>⟨fun s _ h=>absurd h (by simp[zbW]),fun s _ d hd hh=>by
   obtain rfl:d=0:=by omega
   exact hh.elim⟩
 |k+1=>(zp4 hcl (zdL hcl k).1 (zdL hcl k).2).2
theorem zh3 (hcl:ClosedT w){d:Nat} (h1:1<=d) (h:∀s,s<w.length*4->Hd w (d+1) (tyS s)->Hd w d (tyS s)):∀e s,s<w.length*4->Hd w e (tyS s)->Hd w d (tyS s)
 |0,s,_,hh=>hh.elim
 |e+1,s,hs,hh=>by
  refine h s hs ?_;rcases hh with hh|⟨c,hc,h2,hh⟩
  ·exact .inl hh
  ·refine .inr ⟨c,hc,h2,fun u hu=>?_⟩;rcases hcl s hs c hc u hu with hi|⟨q1,q2⟩
   ·cases d with
    |zero=>omega
    |succ d=>exact .inl hi
   ·have:=zh3 hcl h1 h e _ q1 (by rw[q2];exact hh u hu);rwa [q2] at this
open Classical in
noncomputable def cntH (w:List Data) (d:Nat):Nat:=(List.range (w.length*4)).countP (fun s=>decide (Hd w d (tyS s)))
theorem zlb {p q:Nat->Bool}:∀ {l:List Nat},(∀x∈l,p x=true->q x=true)->(∃x∈l,p x=false/\q x=true)->l.countP p<l.countP q
 | [],_,h=>by obtain⟨x,hx,_⟩:=h;simp at hx
 |y::r,hpq,h=>by
  have hle:r.countP p<=r.countP q:=List.countP_mono_left (fun x hx hp=>hpq x (by simp[hx]) hp);rw[List.countP_cons,List.countP_cons];obtain⟨x,hx,h1,h2⟩:=h;rcases List.mem_cons.1 hx with rfl|hx
  ·rw[h1,h2];simp only[Bool.false_eq_true,if_false,if_true];omega
  ·have:=zlb (fun x hx hp=>hpq x (by simp[hx]) hp) ⟨x,hx,h1,h2⟩;have h3:=hpq y oe;cases hp:p y with
   |false=>simp only[Bool.false_eq_true,if_false];omega
   |true=>rw[h3 hp];simp only[if_true];omega
open Classical in
theorem zsL {d:Nat} (h:¬ ∀s,s<w.length*4->Hd w (d+1) (tyS s)->Hd w d (tyS s)):cntH w d<cntH w (d+1):=by
 have h2:∃s,s<w.length*4/\Hd w (d+1) (tyS s)/\¬Hd w d (tyS s):=by
  refine Classical.byContradiction fun hn=>h fun s hs hh=>Classical.byContradiction fun hd=>hn ⟨s,hs,hh,hd⟩
 obtain⟨s,hs,h3,h4⟩:=h2;unfold cntH;exact zlb (fun x _ hx=>by rw[xah] at hx ⊢;exact Hd_mono w d _ hx) ⟨s,List.mem_range.2 hs,by simp[h4],by simp[h3]⟩
theorem zpe:∀m,(∀d,1<=d->d<=m->¬ ∀s,s<w.length*4->Hd w (d+1) (tyS s)->Hd w d (tyS s))->m<=cntH w (m+1)
 |0,_=>Nat.zero_le _
 |m+1,h=>by
  have:=zpe m (fun d h1 h2=>h d h1 od);have:=zsL (w:=w) (d:=m+1) (h (m+1) od od);omega
theorem zsQ (hcl:ClosedT w){e s:Nat} (hs:s<w.length*4) (h:Hd w e (tyS s)):Hd w (w.length*4+1) (tyS s):=by
 have hex:∃d,1<=d/\d<=w.length*4+1/\∀s,s<w.length*4->Hd w (d+1) (tyS s)->Hd w d (tyS s):=by
  refine Classical.byContradiction fun hn=>?_;have h1:=zpe (w:=w) (w.length*4+1) (fun d h1 h2 h3=>hn ⟨d,h1,h2,h3⟩);have h2:cntH w (w.length*4+1+1)<=(List.range (w.length*4)).length:=List.countP_le_length;rw[List.length_range] at h2;omega
 obtain⟨d,h1,h2,h3⟩:=hex;exact Hd_le h2 (zh3 hcl h1 h3 e s hs h)
theorem zpT {s i:Nat}{f:Nat->Nat}{c:Int} (h:i≠s):zbE w s f c i=f i:=by
 unfold zbE;split
 ·unfold updF;rw[if_neg h]
 ·rfl
theorem zn0 {s i:Nat} (h:i≠s):∀(C:List Int) (f:Nat->Nat),C.foldl (zbE w s) f i=f i
 | [],_=>rfl
 |c::r,f=>by rw[List.foldl_cons,zn0 h r,zpT h]
theorem zlE {i:Nat}:∀(L:List Nat) (f:Nat->Nat),i∉L->L.foldl (zdn w) f i=f i
 | [],_,_=>rfl
 |s::r,f,h=>by
  simp only[List.mem_cons,not_or] at h;rw[List.foldl_cons,zlE r _ h.2];exact zn0 h.1 _ _
theorem zhh {i:Nat} (h:w.length*4<=i):∀k,zbW w k i=0
 |0=>rfl
 |k+1=>by
  show zgx w (zbW w k) i=0
  unfold zgx;rw[zlE _ _ oo,zhh h k]
theorem zrF (hcl:ClosedT w){k:Nat} (hk:w.length*4+1<=k):zbW w k=zau w:=by
 have key:∀a b,w.length*4+1<=a->w.length*4+1<=b->∀s,s<w.length*4->0<zbW w a s->0<zbW w b s/\zbW w b s<=zbW w a s:=by
  intro a b ha hb s hs h0;have h1:=(zdL hcl a).1 s hs h0;have h2:=zsQ hcl hs h1;have h3:=(zdL hcl a).2 s hs _ ha h2;exact(zdL hcl b).2 s hs _ od h1
 funext s
 rcases Nat.lt_or_ge s (w.length*4) with hs|hs
 ·have h1:=key k (w.length*4+1) hk (Nat.le_refl _) s hs;have h2:=key (w.length*4+1) k (Nat.le_refl _) hk s hs;show zbW w k s=zbW w (w.length*4+1) s
  omega
 ·show zbW w k s=zbW w (w.length*4+1) s
  rw[zhh hs,zhh hs]
def Strict (f g:Nat->Nat):Prop:=∃s,0<g s/\(f s=0\/g s<f s)
theorem Strict.bet {f g h:Nat->Nat} (a:Strict f g) (b:Bet g h):Strict f h:=by
 obtain⟨s,h1,h2⟩:=a;have:=b s h1;exact⟨s,this.1,by omega⟩
theorem zmJ {f:Nat->Nat}{b:Nat} (hb:∀s,f s<=b) (h1:1<=b):∀ {l:List Ty}{m:Nat},m<=b->zbC f m l<=b+1
 | [],m,hm=>by simp only[zbC];omega
 |t::r,m,hm=>by
  simp only[zbC];split
  ·omega
  ·refine zmJ hb h1 ?_;have:dv f t<=b:=by
    unfold dv;split
    ·exact h1
    ·exact hb _
   omega
theorem zqH {s:Nat}{f:Nat->Nat}{c:Int}{b:Nat} (hb:∀s,f s<=b) (h1:1<=b):∀i,zbE w s f c i<=b+1:=by
 intro i;unfold zbE;split
 ·unfold updF;split
  ·exact zmJ hb h1 (Nat.zero_le _)
  ·have:=hb i;omega
 ·have:=hb i;omega
theorem zmX {s:Nat}:∀(C:List Int) (f:Nat->Nat) (b:Nat),(∀s,f s<=b)->1<=b->∀i,C.foldl (zbE w s) f i<=b+C.length
 | [],f,b,hb,_,i=>by have:=hb i;simpa using this
 |c::r,f,b,hb,h1,i=>by
  have:=zmX (s:=s) r (zbE w s f c) (b+1) (zqH hb h1) od i;rw[List.foldl_cons,xab];omega
theorem zjq {m:Nat}:∀(L:List Nat) (f:Nat->Nat) (b:Nat),(∀s∈L,(za2 w (tyS s)).length<=m)->(∀s,f s<=b)->1<=b->∀i,L.foldl (zdn w) f i<=b+L.length*m
 | [],f,b,_,hb,_,i=>by have:=hb i;simpa using this
 |s::r,f,b,hm,hb,h1,i=>by
  have h2:=zmX (w:=w) (s:=s) (za2 w (tyS s)) f b hb h1;have h3:=hm s oe;have:=zjq r (zdn w f s) (b+m) (fun x hx=>hm x (by simp[hx])) (fun j=>by have:=h2 j;show _<=_;unfold zdn;omega) od i;rw[List.foldl_cons,xab,Nat.add_mul];omega
theorem znH {m:Nat} (hm:∀s,s<w.length*4->(za2 w (tyS s)).length<=m):∀k i,zbW w k i<=1+k*(w.length*4*m)
 |0,i=>by simp[zbW]
 |k+1,i=>by
  have:=zjq (w:=w) (m:=m) (List.range (w.length*4)) (zbW w k) (1+k*(w.length*4*m)) (fun s hs=>hm s (List.mem_range.1 hs)) (znH hm k) od i;show zgx w (zbW w k) i<=_
  unfold zgx;rw[List.length_range] at this;rw[Nat.add_mul];omega
end
def tabC (n:Nat) (f:Nat->Nat):List AV:=(List.range n).map fun s=> .d (.i (f s:Int))
abbrev zjO (n:Nat) (f:Nat->Nat):D:= .sl ((List.range n).map fun s=>[D.i (f s:Int)])
theorem zk6 {n i s:Nat}{f:Nat->Nat} (h:s<n) (e:i=s):(tabC n f)[i]?=some (.d (.i (f s:Int))):=by
 subst e;simp[tabC,h]
theorem zbg {n:Nat}{f:Nat->Nat}:AV.idsL (tabC n f)=[]:=by
 unfold tabC;induction List.range n with
 |nil=>rfl
 |cons x r ih=>rw[xaf,AV.idsL,ih];rfl
theorem zpc {n:Nat}{f:Nat->Nat}:zbP n 1 (tabC n f)=some ((List.range n).map fun s=>[D.i (f s:Int)]):=by
 have:=zd6 (f:=fun s=>[D.i (f s:Int)]) (k:=1) (l:=List.range n) (fun _ _=>rfl);rw[List.length_range] at this;rw[<-this];congr 1
 unfold tabC;induction List.range n with
 |nil=>rfl
 |cons x r ih=>rw[xaf,List.flatMap_cons,ih];rfl
theorem znU {v:AV}:∀ {cs:List AV}{i:Nat},i<cs.length->putC cs i [v]=some (cs.set i v)
 |x::r,0,_=>by cases r<;>rfl
 |x::r,i+1,h=>by
  have:=znU (v:=v) (cs:=r) (i:=i) (by simpa using h);simp only[putC,this,List.set_cons_succ]
theorem zr1 {n i s v:Nat}{f:Nat->Nat}{x:Int} (h:s<n) (e:i=s) (ex:x=(v:Int)):putC (tabC n f) i [.d (.i x)]=some (tabC n (updF f s v)):=by
 subst e ex;rw[znU (by simp[tabC,h])];congr 1
 refine List.ext_getElem (by simp[tabC]) (fun j h1 h2=>?_);simp only[tabC,xac,List.length_range] at h2;rw[List.getElem_set];simp only[tabC,List.getElem_map,List.getElem_range,updF];by_cases hj:i=j
 ·subst hj;simp
 ·rw[if_neg hj,if_neg (fun h=>hj h.symm)]
theorem InS.facts {n:Nat}{a k:Int} (h:InS n ⟨a,k⟩) (ha:¬a = -1):zd1 ⟨a,k⟩<n/\a*4+k=(zd1 ⟨a,k⟩:Int)/\0<=a/\0<=k/\k<=3/\a<=n:=by
 rcases h with h|⟨h1,h2⟩
 ·exact absurd h ha
 ·have e1:=xam Ty.data h2;have e2:=xam Ty.index h2;simp only[tyS] at e1 e2;omega
theorem zq4 {f:Nat->Nat}{a k:Int} (ha:¬a = -1):dv f ⟨a,k⟩=f (zd1 ⟨a,k⟩):=by unfold dv;rw[if_neg ha]
theorem zpm {f:Nat->Nat}{a k:Int} (ha:a = -1):dv f ⟨a,k⟩=1:=by unfold dv;rw[if_pos ha]
theorem zol {f:Nat->Nat}{b:Nat} (hb:∀s,f s<=b) (h1:1<=b) (t:Ty):dv f t<=b:=by
 unfold dv;split
 ·exact h1
 ·exact hb _
theorem zgY {a k:Int} (ha:0<=a/\a<=1000) (hk:0<=k/\k<=1000):FnD Tryz.prog 245 [.agg [.d (.i a),.d (.i k)]] [] (.d (.i (a*4+k))) []:=by
 refine bd Tryz.f245 9 [] [] fun _ _ _ _ hk=>?_;refine bx 3001 ?_;refine ev (ar (ar ?_));focus (refine rq ?_;all_goals ((simp[];done)))
theorem oi{p:Prop}(h:p:=by first|rfl|(simp only[zaB,occH,occE,Res.ids,xai,List.nil_append,AV.idsL,AV.ids,zal,zaj,zaw,zaT,xaf,List.map_nil,upC,zbg];rfl)):p:=h
theorem ot{p:Prop}(h:p:=by first|rfl|(simp only[zbu,List.all_cons,List.all_nil,zcO,zcm,AV.idsL,AV.ids,zal,zaj,xaf,List.map_nil,zbg];rfl)):p:=h
theorem zkg {n:Nat}{f:Nat->Nat}{a k:Int} (h:InS n ⟨a,k⟩) (hn:n<=100):
  FnD Tryz.prog 166 [.ms 70 n,.agg [.d (.i a),.d (.i k)]] [(70,some (.box (tabC n f)))] (.d (.i (dv f ⟨a,k⟩))) []:=by
 have hs:=h.facts;refine bd Tryz.f166 13 [12] [] fun _ _ _ _ hk=>?_;refine Walk.box (id:=3003) .none I I I oi oi oi oi ?_;refine evs [12] [] ?_;apply sq<;>intro h1 h1p h1s<;>(try simp only[Q] at h1p);refine rn [] (r1 I) (.eqd ?_) ⟨I,I⟩ (SubH.get ⟨I,O⟩) (fun _ h=>h);rotate_left;refine Walk.call (cr:=[]) zo8 (zgY (by have:=hs h1p;omega) (by have:=hs h1p;omega)) I .none I I (LeL.refl _) O I ot oi ?_;refine xbC (i:=zd1 ⟨a,k⟩) zaW .none I I I (hs h1p).2.1 ((hs h1p).1) (xbE ty3 .none I I I ((zk6 (hs h1p).1 od)) ?_);refine evs [12] [] (rn [] (r1 I) (.eqd ?_) ⟨I,I⟩ (SubH.get ⟨I,O⟩) (fun _ h=>h));rotate_left;all_goals (first|(rw[zpm ol];rfl)|(rw[zq4 ol]))
theorem zeH {n:Nat}{f:Nat->Nat}{a k:Int} (h:InS n ⟨a,k⟩) (hn:n<=100):
  FnD Tryz.prog 166 [.d (zjO n f),.agg [.d (.i a),.d (.i k)]] [] (.d (.i (dv f ⟨a,k⟩))) []:=by
 have hs:=h.facts;refine bd Tryz.f166 13 [] [] fun _ _ _ _ hk=>?_;refine bx 3003 ?_;refine ev ?_;apply sq<;>intro h1 h1p h1s<;>(try simp only[Q] at h1p);refine rq ?_;rotate_left;refine wc zo8 (zgY (by have:=hs h1p;omega) (by have:=hs h1p;omega)) I I ?_;refine ixq (i:=zd1 ⟨a,k⟩) zaW I I (hs h1p).2.1 (by simp[(hs h1p).1];rfl) I ?_;refine ev (rq ?_);rotate_left;all_goals (first|(rw[zpm ol];rfl)|(rw[zq4 ol]))
theorem zhQ {w:List Data} (hw:WT w){a k c:Int} (ht:TyIn w.length ⟨a,k⟩) (hc:c∈zan w ⟨a,k⟩):(zac w ⟨a,k⟩ c).length<=1000000000000:=by
 obtain⟨d,rfl,h1,h2⟩:=za7 ht hc;exact zg5 hw h1 h2
theorem zk0 {w:List Data} (hw:WT w){n:Nat}{f:Nat->Nat}{a k c:Int} (ht:TyIn w.length ⟨a,k⟩) (hc:c∈zan w ⟨a,k⟩) (hn:n<=100) (hb:∀s,f s<=100000) (hin:∀u∈zac w ⟨a,k⟩ c,InS n u):
  FnD Tryz.prog 244 [.d (zah w),.ms 70 n,.agg [.d (.i a),.d (.i k)],.d (.i c)] [(70,some (.box (tabC n f)))] (.d (.i (most w f ⟨a,k⟩ c))) []:=by
 have hl:=zhQ hw ht hc;have hd:=zol hb od;refine bd Tryz.f244 37 [] [] fun _ _ _ _ hk=>?_;refine Walk.box (id:=3006) .none I I I (by(simp only[zaB,occH,occE,Res.ids,xai,List.nil_append,AV.idsL,AV.ids,zal,zaj,zaw,zaT,xaf,List.map_nil,upC,zbg];rfl)) (by(simp only[zaB,occH,occE,Res.ids,xai,List.nil_append,AV.idsL,AV.ids,zal,zaj,zaw,zaT,xaf,List.map_nil,upC,zbg];rfl)) (by(simp only[zaB,occH,occE,Res.ids,xai,List.nil_append,AV.idsL,AV.ids,zal,zaj,zaw,zaT,xaf,List.map_nil,upC,zbg];rfl)) (by(simp only[zaB,occH,occE,Res.ids,xai,List.nil_append,AV.idsL,AV.ids,zal,zaj,zaw,zaT,xaf,List.map_nil,upC,zbg];rfl)) (ev (Walk.call (cr:=[]) zb7 (zck hw ht hc) I .none I I (LeL.refl _) O I ot oi ?_));refine ev (xaA (ι:=List (Ty)×List (Ty)×(Nat)) hk (fun x=>[(11,.d (.i (x.1.length:Int))),(10,.d (.i (x.2.2:Int)))]) [8,12,17,18,19,20,21,22,23,24,25,26,27,28,29,30,31,32,33,34] (fun x=>[]) (fun x=>x.1++x.2.1=zac w ⟨a,k⟩ c/\x.2.2<=100000/\zbC f x.2.2 x.2.1=zbC f 0 (zac w ⟨a,k⟩ c)) (fun x=>x.2.1.length) ([],zac w ⟨a,k⟩ c,0) ⟨by simp,by simp,I⟩ ⟨⟨_,I,xaK ?_⟩,⟨⟨_,I,xaK ?_⟩,O⟩⟩ O (fun x=>rfl) (fun x hg1=>?_));iterate 2 focus ((simp;done))
 obtain⟨pre,rest,m⟩:=x;dsimp only at hg1 ⊢;refine evc [] [] ?_;apply sq<;>intro h1 h1p h1s<;>(try simp only[Q] at h1p);rcases rest with _|⟨y,rest⟩
 ·exfalso;simp_all
 have hdy:=hd y;have hye:dv f ⟨y.data,y.index⟩=dv f y:=rfl;refine ixq zaJ I I I (zaI hg1.1) I (ev (Walk.call (cr:=[]) zjx (zkg (f:=f) (a:=y.data) (k:=y.index) (hin y (by rw[<-hg1.1];simp)) hn) I .none I I (.cons (LeA.msn (by first|rfl|(simp;done))) (.cons (.refl _) .nil)) ⟨I,O⟩ I ot oi ?_));refine ev ?_;apply sq<;>intro h2 h2p h2s<;>(try simp only[Q] at h2p);refine rn [] (r1 I) (.eqd ?_) ⟨I,I⟩ (SubH.get ⟨I,O⟩) (fun _ h=>h);rotate_left;apply sq<;>intro h3 h3p h3s<;>(try simp only[Q] at h3p);refine ar (xaj ((pre++[y],rest,max m (dv f y))) ⟨⟨(by have hz:=hg1.1;rw[<-hz];simp),⟨(by have:=hd y;dsimp only;omega),(by rw[<-hg1.2.2];simp only[zbC];rw[if_neg (by have:=hd y;omega)])⟩⟩,oe,sx ⟨⟨_,I,xaK ?_⟩,⟨⟨_,I,xaK ?_⟩,O⟩⟩ O⟩);iterate 2 focus (first|(simp;done)|(dsimp only;omega))
 refine ar (xaj ((pre++[y],rest,max m (dv f y))) ⟨⟨(by have hz:=hg1.1;rw[<-hz];simp),⟨(by have:=hd y;dsimp only;omega),(by rw[<-hg1.2.2];simp only[zbC];rw[if_neg (by have:=hd y;omega)])⟩⟩,oe,sx ⟨⟨_,I,xaK ?_⟩,⟨⟨_,I,xaK ?_⟩,O⟩⟩ O⟩);iterate 2 focus (first|(simp;done)|(dsimp only;omega))
 have hrest:rest=[]:=by
  rcases rest with _|⟨a,b⟩
  ·rfl
  ·exfalso;have hz:=xam List.length (hg1.1);simp only[xaa,xab,xac] at hz;omega
 subst hrest;refine ar (rn [] (r1 I) (.eqd ?_) ⟨I,I⟩ (SubH.get ⟨I,O⟩) (fun _ h=>h));rotate_left;all_goals (refine xam D.i ?_;unfold most;rw[<-hg1.2.2];first|(simp only[zbC];rw[if_pos od];rfl)|(simp only[zbC];omega))
structure Dp (w:List Data):Prop where
 wt:WT w
 cl:ClosedT w
 four:w.length<=4
 ct:∀s,s<w.length*4->(za2 w (tyS s)).length<=4
def midT (w:List Data) (k s:Nat):Nat->Nat:=(List.range s).foldl (zdn w) (zbW w k)
def rowT (w:List Data) (k s:Nat) (pre:List Int):Nat->Nat:=pre.foldl (zbE w s) (midT w k s)
theorem zlo {w:List Data}{k s:Nat}:rowT w k s (za2 w (tyS s))=midT w k (s+1):=by
 unfold rowT midT;rw[List.range_succ,List.foldl_append];rfl
theorem zio {w:List Data}{k s:Nat}{pre:List Int}{c:Int}:rowT w k s (pre++[c])=zbE w s (rowT w k s pre) c:=by
 unfold rowT;rw[List.foldl_append];rfl
theorem znY {w:List Data} (hd:Dp w){k s:Nat} (hk:k<=20) (hs:s<=w.length*4){pre:List Int} (hp:pre.length<=4) (i:Nat):rowT w k s pre i<=100000:=by
 have h4:=hd.four;have h1:=znH (w:=w) (m:=4) hd.ct k;have h2:=zjq (w:=w) (m:=4) (List.range s) (zbW w k) _ (fun x hx=>hd.ct x (by have:=List.mem_range.1 hx;omega)) h1 od;have h3:=zmX (w:=w) (s:=s) pre (midT w k s) _ h2 od i;have e1:k*(w.length*4*4)<=20*(4*4*4):=Nat.mul_le_mul hk od;rw[List.length_range] at h3;show pre.foldl (zbE w s) (midT w k s) i<=100000
 omega
theorem zp7 {w:List Data}{s:Nat} (h:s<w.length*4):TyIn w.length (tyS s):= .inr ⟨s / 4,rfl,by omega⟩
theorem znb {w:List Data}{s:Nat}:zan w (tyS s)=za2 w (tyS s):=by unfold zan;rw[if_neg (zjs s)]
theorem znm (m:Nat):zbF (m+1) [.d (.i 0)]=zbF m [.d (.i 0)]++[AV.d (.i 0)]:=by
 induction m with
 |zero=>rfl
 |succ m ihm=>
  show [AV.d (.i 0)]++zbF (m+1) [.d (.i 0)]=([AV.d (.i 0)]++zbF m [.d (.i 0)])++[AV.d (.i 0)]
  rw[ihm,xar]
theorem zlM (n:Nat):zbF n [.d (.i 0)]=tabC n (fun _=>0):=by
 unfold tabC;induction n with
 |zero=>rfl
 |succ n ih=>rw[znm,ih,List.range_succ,xag];rfl
theorem zim {w:List Data}{s:Nat}{f:Nat->Nat}{c:Int} (h:decide ((0:Int)<(most w f (tyS s) c:Int)/\((f s:Int)=0\/(most w f (tyS s) c:Int)<(f s:Int)))=true):zbE w s f c=updF f s (most w f (tyS s) c):=by
 rw[xah] at h;unfold zbE;rw[if_pos od]
theorem zil {w:List Data}{s:Nat}{f:Nat->Nat}{c:Int} (h:decide ((0:Int)<(most w f (tyS s) c:Int)/\((f s:Int)=0\/(most w f (tyS s) c:Int)<(f s:Int)))=false):zbE w s f c=f:=by
 rw[decide_eq_false_iff_not] at h;unfold zbE;rw[if_neg od]
theorem zkV {w:List Data} (hw:WT w){s:Nat} (hs:s<w.length*4):FnD Tryz.prog 243 [.d (zah w),.agg [.d (.i ((s:Int) / 4)),.d (.i ((s:Int) % 4))]] [] (.d (zcx (za2 w (tyS s)))) []:=by
 rw[<-znb];exact zbU hw (zp7 hs)
theorem zlS {w:List Data} (hd:Dp w){f:Nat->Nat}{s:Nat}{c:Int} (hs:s<w.length*4) (hc:c∈za2 w (tyS s)) (hb:∀s,f s<=100000):
  FnD Tryz.prog 244 [.d (zah w),.ms 70 (w.length*4),.agg [.d (.i ((s:Int) / 4)),.d (.i ((s:Int) % 4))],.d (.i c)] [(70,some (.box (tabC (w.length*4) f)))] (.d (.i (most w f (tyS s) c))) []:=
 have h4:=hd.four;zk0 (a:=(tyS s).data) (k:=(tyS s).index) hd.wt (zp7 hs) (by rw[<-znb] at hc;exact hc) od hb (fun u hu=>hd.cl s hs c hc u hu)
theorem zkk {w:List Data} (hd:Dp w):FnD Tryz.prog 164 [.d (zah w)] [] (.d (zjO (w.length*4) (zau w))) []:=by
 have hw:=hd.wt;have h4:=hd.four;refine bd Tryz.f164 70 [27,29,54,61] [14,999999] fun _ _ _ _ hk=>?_;refine ar (Walk.make (id:=70) (m:=w.length*4) zaW tz3 I oh (zkC I) .none I (xam (fun z:Int=>some (AV.d (D.i z))) (by simp:((w.map Data.c).length:Int)*4=((w.length*4:Nat):Int))) (xam (fun z:Int=>some (AV.d (D.i z))) (by simp:((w.map Data.c).length:Int)*4=((w.length*4:Nat):Int))) od od oi oi oi ?_);refine evs [27,29,54,61] [] (xaA (ι:=Nat) hk (fun n=>[(4,.d (.i (n:Int)))]) [5,6,7,8,9,14,15,16,17,18,19,20,21,22,23,24,25,26,27,28,29,30,31,32,33,34,35,36,37,38,39,40,41,42,43,44,45,46,47,48,49,50,51,52,53,54,55,56,57,58,59,60,61,62,63,64,65,66,67,68] (fun n=>[(70,some (.box (tabC (w.length*4) (zbW w n))))]) (fun n=>n<=w.length*4+1) (fun n=>w.length*4+1-n) 0 oe ⟨⟨_,I,xaK ?_⟩,O⟩ ⟨?_,O⟩ (fun x=>rfl) (fun n hg1=>?_));focus ((simp;done))
 focus ((show some (Res.box _)=some (Res.box _);rw[zlM];rfl))
 refine evc [27,29,54,61] [14,999999] ?_;apply sq<;>intro h1 h1p h1s<;>(try simp only[Q] at h1p);refine xaA (ι:=Nat) hk (fun s=>[(5,.d (.i (s:Int)))]) [6,7,8,9,20,21,22,23,24,25,26,27,28,29,30,31,32,33,34,35,36,37,38,39,40,41,42,43,44,45,46,47,48,49,50,51,52,53,54,55,56,57,58,59,60,61,62,63,64,65,66,67,68] (fun s=>[(70,some (.box (tabC (w.length*4) (midT w n s))))]) (fun s=>s<=w.length*4) (fun s=>w.length*4-s) 0 oe ⟨⟨_,I,xaK ?_⟩,O⟩ ⟨?_,O⟩ (fun x=>rfl) (fun s hg2=>?_);focus ((simp;done))
 focus (first|rfl|(show some (Res.box _)=some (Res.box _);rw[<-zlo,<-hg3,xaq]))
 refine evc [27,29,54,61] [14,999999] ?_;apply sq<;>intro h2 h2p h2s<;>(try simp only[Q] at h2p);refine xbN .none I I I od ?_;refine evs [27,29,54,61] [] (xbP .none I I I od ?_);refine bu [0,1] [_,_] st38 ?_;refine Walk.alloc (id:=3006) tz38 I .none I (by(simp only[zaB,occH,occE,Res.ids,xai,List.nil_append,AV.idsL,AV.ids,zal,zaj,zaw,zaT,xaf,List.map_nil,upC,zbg];rfl)) (by(simp only[zaB,occH,occE,Res.ids,xai,List.nil_append,AV.idsL,AV.ids,zal,zaj,zaw,zaT,xaf,List.map_nil,upC,zbg];rfl)) (by(simp only[zaB,occH,occE,Res.ids,xai,List.nil_append,AV.idsL,AV.ids,zal,zaj,zaw,zaT,xaf,List.map_nil,upC,zbg];rfl)) (so ty38 ?_);apply tv;refine Walk.call (cr:=[]) zfc (zkV hw (s:=s) od) I .none I I (LeL.refl _) O I ot oi ?_;refine evs [27,29,54,61] [] (xaA (ι:=List (Int)×List (Int)) hk (fun x=>[(8,.d (.i (x.1.length:Int)))]) [9,34,35,36,37,38,39,40,41,42,43,44,45,46,47,48,49,50,51,52,53,54,55,56,57,58,59,60,61,62,63,64,65,66,67,68] (fun x=>[(70,some (.box (tabC (w.length*4) (rowT w n s x.1))))]) (fun x=>x.1++x.2=za2 w (tyS s)) (fun x=>x.2.length) ([],za2 w (tyS s)) oe ⟨⟨_,I,xaK ?_⟩,O⟩ ⟨?_,O⟩ (fun x=>rfl) (fun x hg3=>?_));focus ((simp;done))
 focus (first|rfl|(show some (Res.box _)=some (Res.box _);rw[zio];first|(rw[zim ol];done)|(rw[zil ol];done)))
 obtain⟨pre,rest⟩:=x;dsimp only at hg3 ⊢;have hct:=hd.ct s od;refine evc [27,29,54,61] [14,999999] ?_;apply sq<;>intro h3 h3p h3s<;>(try simp only[Q] at h3p);rcases rest with _|⟨c,rest⟩
 ·exfalso;simp_all
 refine ixq zaW I I I (zaI hg3) I (evd [27,29,54,61] [] (Walk.call (cr:=[]) zo7 (zlS hd (f:=rowT w n s pre) (s:=s) (c:=c) od (by rw[<-hg3];simp) (znY hd od od (by have:=hd.ct s od;have hz:=xam List.length hg3;simp at hz;omega))) I .none I I (.cons (.refl _) (.cons (LeA.msn (by first|rfl|(simp;done))) (.cons (.refl _) (.cons (.refl _) .nil)))) ⟨I,O⟩ I ot oi ?_));refine evd [27,29,54,61] [] (dr (xaC (xbh 17 [(64,.d (.bool (decide ((0:Int)<(most w (rowT w n s pre) (tyS s) c:Int)/\((rowT w n s pre s:Int)=0\/(most w (rowT w n s pre) (tyS s) c:Int)<(rowT w n s pre s:Int))))))] [48,49,50,51,52,53,54,55,56,57,58,59,60,61,62,63] ?_ ?_)));refine evs [27,29,54,61] [] ?_;apply sq<;>intro h4 h4p h4s<;>(try simp only[Q] at h4p);refine xbC (i:=s) zaW (.some I I h4) I I I I od ?_;refine xbE ty3 (.some I I h4) I I I ((zk6 (s:=s) od od)) ?_;refine evs [27,29,54,61] [(50,true)] ?_ ⟨⟨_,I,h4⟩,O⟩;apply sq<;>intro h5 h5p h5s<;>(try simp only[Q] at h5p);exact jnb I;refine xbC (i:=s) zaW (.some I I h5) I I I I od ?_;refine xbE ty3 (.some I I h5) I I I ((zk6 (s:=s) od od)) ?_;refine evs [27,29,54,61] [(50,true),(56,false)] ?_ ⟨⟨_,I,h4⟩,⟨_,I,h5⟩,O⟩;exact jnb I;exact jnb I;refine xbg ?_;apply tv;apply sq<;>intro h6 h6p h6s<;>(try simp only[Q] at h6p);refine xbC (i:=s) zaW .none I I I I od ?_;refine Walk.store ty3 .none I I I I I I oe ((zr1 (s:=s) (v:=most w (rowT w n s pre) (tyS s) c) od od I)) ?_;apply tv;refine ar (xaj ((pre++[c],rest)) ⟨(by have hz:=hg3;rw[<-hz];simp),oe,sx ⟨⟨_,I,xaK ?_⟩,O⟩ ⟨?_,O⟩⟩);focus ((simp;done))
 focus ((show some (Res.box _)=some (Res.box _);rw[zio];first|(rw[zim ol];done)|(rw[zil ol];done)))
 refine ar (xaj ((pre++[c],rest)) ⟨(by have hz:=hg3;rw[<-hz];simp),oe,sx ⟨⟨_,I,xaK ?_⟩,O⟩ ⟨?_,O⟩⟩);focus ((simp;done))
 focus ((show some (Res.box _)=some (Res.box _);rw[zio];first|(rw[zim ol];done)|(rw[zil ol];done)))
 have hrest:rest=[]:=by
  rcases rest with _|⟨a,b⟩
  ·rfl
  ·exfalso;have hz:=xam List.length (hg3);simp only[xaa,xab,xac] at hz;omega
 subst hrest;refine ar (xaj (s+1) ⟨od,od,sx ⟨⟨_,I,xaK ?_⟩,O⟩ ⟨?_,O⟩⟩);focus ((simp;done))
 focus ((show some (Res.box _)=some (Res.box _);rw[<-zlo,<-hg3,xaq]))
 refine ar (xaj (n+1) ⟨od,od,sx ⟨⟨_,I,xaK ?_⟩,O⟩ ⟨?_,O⟩⟩);focus ((simp;done))
 focus (first|(show some (Res.box _)=some (Res.box _);rw[zlM];rfl)|(have e:s=w.length*4:=od;rw[e];rfl))
 refine CWp.frz hk 2 70 _ _ I I zpc I (CWp.ret (rq ?_));rotate_left;all_goals ((have e:n=w.length*4+1:=od;rw[e];rfl))
theorem zp6 {i j:Nat} (h:j<4):tyS (i*4+j)=⟨(i:Int),(j:Int)⟩:=by
 unfold tyS;rw[show(i*4+j) / 4=i by omega,show(i*4+j) % 4=j by omega]
theorem zqR {w:List Data} (hs:WSmall w) (hv:zaP w=true):Dp w:=by
 have hw:=zbO hs hv;have hW:=(zcA w).1 hv;refine⟨hw,fun s hs c hc u hu=>?_,hW.len,fun s hs=>?_⟩
 ·obtain⟨j,rfl,hj⟩:=zmQ (d:=s / 4) (k:=((s % 4:Nat):Int)) hc;have hu':u∈zac w ⟨((s / 4:Nat):Int),((s % 4:Nat):Int)⟩ (j:Int):=hu;simp only[zac,Int.toNat_natCast,List.mem_map] at hu';obtain⟨x,hx,rfl⟩:=hu';have hco:=hW.ctor _ (zao (l:=w) (i:=s / 4) od) _ (zao hj);simp only[zbt,xad,Bool.not_eq_true',List.any_eq_false] at hco;have hax:zbB w.length x=true:=by
   have:=hco.2.2.2 x hx;cases h:zbB w.length x with
   |true=>rfl
   |false=>rw[h] at this;exact absurd I this
  have hci:=hco.2.2.1;simp only[zbB,zaE,Bool.or_eq_true,xad,xah,and_true] at hax hci;have key:∀y:Ty,(y.data = -1\/(0<=y.data/\y.data<w.length/\0<=y.index/\y.index<=3))->InS (w.length*4) y:=by
   rintro ⟨a,k⟩ h
   rcases h with h|⟨h1,h2,h3,h4⟩
   ·exact .inl h
   ·refine .inr ⟨?_, ?_⟩
    ·simp only[zd1] at *;omega
    ·obtain⟨i,rfl⟩:=Int.eq_ofNat_of_zero_le h1;obtain⟨m,rfl⟩:=Int.eq_ofNat_of_zero_le h3;simp only[zd1,Int.toNat_natCast];exact zp6 (by simp only at h4;omega)
  refine key _ ?_;unfold zcE zci;split
  ·dsimp only;rcases hax with h|h
   ·omega
   ·right
    refine⟨by omega,by omega, ?_⟩;split<;>omega
  ·rcases hax with h|h
   ·exact .inl h.1
   ·right;omega
 ·have h1:=zfk (tyS s).index (nth w (tyS s).data.toNat).ctors 0;have h2:=(hW.data _ (zao (l:=w) (i:=s / 4) od)).2.2;show(zaU (tyS s).index 0 (nth w (tyS s).data.toNat).ctors).length<=4
  have e:(tyS s).data.toNat=s / 4:=by simp only[tyS,Int.toNat_natCast]
  rw[e] at h1 ⊢;omega
theorem zje {n:Nat}{t:Ty} (h:InS (n*4) t):TyIn n t:=by
 rcases h with h|⟨h1,h2⟩
 ·exact .inl h
 ·refine .inr ⟨zd1 t / 4, ?_,by omega⟩;have:=xam Ty.data h2;exact this.symm
theorem zi3 {w:List Data} (hd:Dp w){t:Ty}{c:Int} (ht:InS (w.length*4) t) (hc:c∈zan w t):∀u∈zac w t c,InS (w.length*4) u:=by
 rcases ht with h|⟨h1,h2⟩
 ·unfold zan at hc;rw[if_pos h] at hc;simp at hc
 ·have hx:=hd.cl _ h1;rw[h2] at hx;have:c∈za2 w t:=by
   unfold zan at hc;split at hc
   ·simp at hc
   ·exact hc
  exact hx c this
structure PKids (w:List Data) (n:Nat) (a k k':Int) (p:Pat):Prop where
 len5:p.op=5->p.kids.length=2
 len6:p.op=6->p.kids.length=1
 len4:p.op=4->p.kids.length=(zac w ⟨a,k⟩ p.ctor).length
 one:p.op=5\/p.op=6->zat w n ⟨a,k'⟩ (nth p.kids 0)=true
 two:p.op=5->zat w n ⟨a,k'⟩ (nth p.kids 1)=true
 arg:p.op=4->∀i,i<(zac w ⟨a,k⟩ p.ctor).length->zat w n ⟨(nth (zac w ⟨a,k⟩ p.ctor) i).data,(nth (zac w ⟨a,k'⟩ p.ctor) i).index⟩ (nth p.kids i)=true
 mem:p.op=4->p.ctor∈zan w ⟨a,k'⟩
 ops:p.op=1\/p.op=2\/(p.op=3/\a = -1)\/p.op=4\/p.op=5\/p.op=6
theorem zcc {w:List Data}{a k:Int} (h:zbs w ⟨a,k⟩=true):zaP w=true/\TyIn w.length ⟨a,k⟩/\(a≠ -1->0<=a/\a.toNat<w.length/\0<=k/\k<=3):=by
 unfold zbs at h;rw[xad] at h;obtain⟨h1,h2⟩:=h;simp only[zgg,zaE,Bool.or_eq_true,xad,xah,and_true] at h2;refine⟨h1, ?_,fun ha=>by omega⟩;rcases h2 with h|h
 ·exact .inl h.1
 ·exact .inr ⟨a.toNat,by simp only;omega,by omega⟩
def zb2 (w:List Data) (a k:Int) (p:Pat):Bool:=zbs w ⟨a,k⟩&&isP w ⟨a,k⟩ p
structure PVal (w:List Data) (a k:Int) (p:Pat):Prop where
 dp:Dp w
 tin:TyIn w.length ⟨a,k⟩
 shape:zat w 10 ⟨a,k⟩ p=true
 rng:a≠ -1->0<=a/\a.toNat<w.length/\0<=k/\k<=3
theorem zeA {w:List Data} (hs:WSmall w){a k:Int}{p:Pat} (hok:p.ok):
  FnD Tryz.prog 38 [.d (zah w),.agg [.d (.i a),.d (.i k)],.agg [.d (.i p.op),.d (.i p.ctor),.d (.i p.n),.d (.i p.m),.d (.i p.var),.d (zax p.kids)]] [] (.d (.bool (zb2 w a k p))) []:=by
 refine bd Tryz.f38 16 [] [] fun _ _ _ _ hk=>?_;refine bx 3004 ?_;refine bx 3005 ?_;refine ev (wc zof (zfq hs) I I ?_);refine ev ?_;apply sq<;>intro h1 h1p h1s;refine Walk.call (cr:=[]) zoT (zfr (zbO hs (zcc h1s).1) (zcc h1s).2.1 hok) I (.some I I h1) I I (LeL.refl _) O I I I (evs [] [(10,true)] ?_ ⟨⟨_,I,h1⟩,O⟩);refine rq ?_;rotate_left;refine rq ?_;rotate_left;all_goals (refine xam D.bool ?_;unfold zb2;simp_all)
theorem zgd {w:List Data}{a b:Int} (hs:WSmall w):FnD Tryz.prog 102 [.d (zah w),.agg [.d (.i a),.d (.i b)]] [] (.d (.bool (zbs w ⟨a,b⟩))) []:=by
 rw[<-zrX];exact ziT hs
theorem zeG {w:List Data} (hs:WSmall w){a k:Int}{p:Pat} (hok:p.ok) (hb:p.size<=1000000000000):
  FnD Tryz.prog 39 [.d (zah w),.agg [.d (.i a),.d (.i k)],.agg [.d (.i p.op),.d (.i p.ctor),.d (.i p.n),.d (.i p.m),.d (.i p.var),.d (zax p.kids)]] [] (.d (.bool (zb2 w a k p))) []:=by
 refine bd Tryz.f39 16 [] [] fun _ _ _ _ hk=>?_;refine bx 3004 ?_;refine bx 3005 ?_;refine ev (wc zma (zgd hs) I I ?_);refine ev ?_;apply sq<;>intro h1 h1p h1s;refine Walk.call (cr:=[]) zmb (zge (zbO hs (zcc h1s).1) (zcc h1s).2.1 hok hb) I (.some I I h1) I I (LeL.refl _) O I I I (evs [] [(10,true)] ?_ ⟨⟨_,I,h1⟩,O⟩);refine rq ?_;rotate_left;refine rq ?_;rotate_left;all_goals (refine xam D.bool ?_;unfold zb2;simp_all)
def zbn (s:Str) (a:Int) (c:UInt8):Bool:=decide (0<=a)&&(decide (a<(s.length:Int))&&decide (nth s a.toNat=c))
theorem zgs {s:Str}{a:Int}{c:UInt8} (h:zbn s a c=true):0<=a/\a<(s.length:Int):=by
 unfold zbn at h;simp only[xad,xah] at h;exact⟨h.1,h.2.1⟩
theorem zaK {s:Str}{a:Int}{c:UInt8} (hs:s.length<=1000000000000):FnD Tryz.prog 192 [.d (.str s),.d (.i a),.d (.int .u8 (c.toNat:Int))] [] (.d (.bool (zbn s a c))) []:=by
 by_cases h0:0<=a
 ·obtain⟨n,rfl⟩:=Int.eq_ofNat_of_zero_le h0;refine bd Tryz.f192 22 [] [] fun _ _ _ _ hk=>?_;apply sq<;>intro h1 h1p h1s;apply sq<;>intro h2 h2p h2s;try simp only[Q,zoJ] at h2p
  refine xbD un9 (.some I I h2) I I I I (za9 od) ?_;refine evs [] [(15,true)] ?_ ⟨⟨_,I,h2⟩,O⟩;refine rq ?_;rotate_left;refine rq ?_;rotate_left;refine sqF ?_;refine rq ?_;rotate_left;all_goals (refine xam D.bool ?_;unfold zbn;rw[show decide (nth s ((n:Int)).toNat=c)=decide (((nth s n).toNat:Int)=(c.toNat:Int)) from by rw[decide_eq_decide];exact zoJ.symm];first|(simp_all;done)|(simp_all;omega))
 ·have hv:zbn s a c=false:=by unfold zbn;rw[xaw h0];rfl
  rw[hv];refine bd Tryz.f192 22 [] [] fun _ _ _ _ hk=>?_;apply sq<;>intro h1 h1p h1s;exfalso;first|omega|(simp at h1p;omega)
  refine sqF ?_;refine rq ?_;rotate_left;all_goals (first|rfl|(simp_all;done))
def lowL:Str->Nat
 | []=>0
 |x::r=>if zaQ x=true then lowL r+1 else 0
def zaz:Str->Nat
 | []=>0
 |x::r=>if zba x=true then lowL r+1 else 0
theorem znM:∀s:Str,lowL s<=s.length
 | []=>Nat.le_refl _
 |x::r=>by
  have:=znM r;show(if zaQ x=true then lowL r+1 else 0)<=_
  split<;>simp<;>omega
theorem zf3:∀s:Str,zaz s<=s.length
 | []=>Nat.le_refl _
 |x::r=>by
  have:=znM r;show(if zba x=true then lowL r+1 else 0)<=_
  split<;>simp<;>omega
def zbw (s:Str) (n:Nat):Str:=(s.drop n).take (zaz (s.drop n))
theorem zlp {s:Str}{n e:Nat} (hn:n<=e) (he:e<s.length) (hg:(if e=n then n+zaz (s.drop n) else e+lowL (s.drop e))=n+zaz (s.drop n))
  (hc:(e=n/\zba (nth s e)=true)\/(n<e/\zaQ (nth s e)=true)):(if e+1=n then n+zaz (s.drop n) else e+1+lowL (s.drop (e+1)))=n+zaz (s.drop n):=by
 rw[if_neg od];have hd:s.drop e=nth s e::s.drop (e+1):=zbc he;rcases hc with ⟨rfl,h⟩|⟨h1,h⟩
 ·rw[hd,zaz,if_pos h];omega
 ·rw[if_neg od,hd,lowL,if_pos h] at hg;omega
theorem zlq {s:Str}{n e:Nat} (hn:n<=e) (he:e<=s.length) (hg:(if e=n then n+zaz (s.drop n) else e+lowL (s.drop e))=n+zaz (s.drop n))
  (hc:e=s.length\/(e=n/\zba (nth s e)=false)\/(n<e/\zaQ (nth s e)=false)):e=n+zaz (s.drop n):=by
 by_cases hl:e=s.length
 ·subst hl;by_cases hen:s.length=n
  ·subst hen;rw[List.drop_length];simp[zaz]
  ·rw[if_neg hen,List.drop_length] at hg;simpa [lowL] using hg
 ·have hd:s.drop e=nth s e::s.drop (e+1):=zbc od;rcases hc with h|⟨rfl,h⟩|⟨h1,h⟩
  ·exact absurd h hl
  ·rw[hd,zaz,if_neg (by rw[h];simp)];omega
  ·rw[if_neg od,hd,lowL,if_neg (by rw[h];simp)] at hg;omega
theorem zbe {s:Str}{n:Nat} (hs:s.length<=1000000000000) (hn:n<=s.length):FnD Tryz.prog 170 [.d (.str s),.d (.i n)] [] (.tup [.d (.str (zbw s n)),.d (.i ((n+zaz (s.drop n):Nat):Int))]) []:=by
 have hle:=zf3 (s.drop n);rw[List.length_drop] at hle;have hstop:=fun(e:Nat)=>zlq (s:=s) (n:=n) (e:=e);have hstep:=fun(e:Nat)=>zlp (s:=s) (n:=n) (e:=e);refine bd Tryz.f170 47 [] [] fun _ _ _ _ hk=>?_;refine xaA (ι:=Nat) hk (fun e=>[(6,.d (.i (e:Int)))]) [8,9,10,11,12,13,14,15,16,17,18,19,20,21,22,23,24,25,26,27,28,29,30,31,32,33,34,35,36,37,38,39,40,41] (fun e=>[]) (fun e=>n<=e/\e<=s.length/\(if e=n then n+zaz (s.drop n) else e+lowL (s.drop e))=n+zaz (s.drop n)) (fun e=>s.length-e) n ⟨Nat.le_refl _,hn,by rw[if_pos rfl]⟩ ⟨⟨_,I,xaK ?_⟩,O⟩ O (fun x=>rfl) (fun e hg1=>?_);focus (first|rfl|(simp;done)|omega)
 refine evc [] [] ?_;apply sq<;>intro h1 h1p h1s<;>(try simp only[Q,xal] at h1p);apply sq<;>intro h2 h2p h2s<;>(try simp only[Q,xal] at h2p);refine xbD un9 (.some I I h2) I I I I (za9 od) ?_;refine Walk.call (cr:=[]) zmi (zfo (n:=((nth s e).toNat:Int))) I (.some I I h2) I I (LeL.refl _) O I I I (evs [] [(12,true),(16,true)] ?_ ⟨⟨_,I,h1⟩,⟨_,I,h2⟩,O⟩);apply sq<;>intro h3 h3p h3s;try simp only[Q,xal] at h3p
 refine sqT ?_;refine ar (xaj (e+1) ⟨⟨by omega,by omega,hstep e hg1.1 od hg1.2.2 (by exact .inl ⟨by omega,by assumption⟩)⟩,od,sx ⟨⟨_,I,xaK ?_⟩,O⟩ O⟩);focus (first|rfl|(simp;done)|omega)
 apply sq<;>intro h5 h5p h5s;try simp only[Q,xal] at h5p
 refine xbD un9 (.some I I h5) I I I I (za9 od) ?_;refine evs [] [(12,true),(22,false),(26,true)] ?_ ⟨⟨_,I,h1⟩,⟨_,I,h3⟩,⟨_,I,h5⟩,O⟩;apply sq<;>intro h6 h6p h6s;try simp only[Q,xal] at h6p
 refine xbD un9 (.some I I h6) I I I I (za9 od) ?_;refine evs [] [(12,true),(22,false),(32,true)] ?_ ⟨⟨_,I,h1⟩,⟨_,I,h3⟩,⟨_,I,h6⟩,O⟩;apply sq<;>intro h7 h7p h7s;try simp only[Q,xal] at h7p
 refine ar (xaj (e+1) ⟨⟨by omega,by omega,hstep e hg1.1 od hg1.2.2 (by exact .inr ⟨by omega,by unfold zaQ;rw[xad,xah,xah];omega⟩)⟩,od,sx ⟨⟨_,I,xaK ?_⟩,O⟩ O⟩);focus (first|rfl|(simp;done)|omega)
 refine xbx un9 .none I I I I I I od od ?_;refine ev (rn0 (r2 I I) (.tup (qee ?_ ?_)));rotate_left 2;refine sqF ?_;refine xbx un9 .none I I I I I I od od ?_;refine ev (rn0 (r2 I I) (.tup (qee ?_ ?_)));rotate_left 2;refine sqF ?_;refine sqF ?_;refine xbx un9 .none I I I I I I od od ?_;refine ev (rn0 (r2 I I) (.tup (qee ?_ ?_)));rotate_left 2;refine sqF ?_;apply sq<;>intro h10 h10p h10s<;>(try simp only[Q,xal] at h10p);refine xbD un9 (.some I I h10) I I I I (za9 od) ?_;refine evs [] [(12,true),(22,false),(26,true)] ?_ ⟨⟨_,I,h1⟩,⟨_,I,I⟩,⟨_,I,h10⟩,O⟩;apply sq<;>intro h11 h11p h11s<;>(try simp only[Q,xal] at h11p);refine xbD un9 (.some I I h11) I I I I (za9 od) ?_;refine evs [] [(12,true),(22,false),(32,true)] ?_ ⟨⟨_,I,h1⟩,⟨_,I,I⟩,⟨_,I,h11⟩,O⟩;apply sq<;>intro h12 h12p h12s<;>(try simp only[Q,xal] at h12p);refine ar (xaj (e+1) ⟨⟨by omega,by omega,hstep e hg1.1 od hg1.2.2 (by exact .inr ⟨by omega,by unfold zaQ;rw[xad,xah,xah];omega⟩)⟩,od,sx ⟨⟨_,I,xaK ?_⟩,O⟩ O⟩);focus (first|rfl|(simp;done)|omega)
 refine xbx un9 .none I I I I I I od od ?_;refine ev (rn0 (r2 I I) (.tup (qee ?_ ?_)));rotate_left 2;refine sqF ?_;refine xbx un9 .none I I I I I I od od ?_;refine ev (rn0 (r2 I I) (.tup (qee ?_ ?_)));rotate_left 2;refine sqF ?_;refine sqF ?_;refine xbx un9 .none I I I I I I od od ?_;refine ev (rn0 (r2 I I) (.tup (qee ?_ ?_)));rotate_left 2;refine sqF ?_;refine xbx un9 .none I I I I I I od od ?_;refine ev (rn0 (r2 I I) (.tup (qee ?_ ?_)));rotate_left 2;all_goals (have hE:=hstop e hg1.1 hg1.2.1 hg1.2.2 (by first|exact .inl od|exact .inr (.inl ⟨by omega,by assumption⟩)|exact .inr (.inr ⟨by omega,by unfold zaQ;rw[Bool.and_eq_false_iff,decide_eq_false_iff_not,decide_eq_false_iff_not];omega⟩));first|(rw[<-hE];done)|(unfold zbw;rw[show e-n=zaz (s.drop n) by omega];done)|(unfold zbw;rw[<-zi7,show e-n=zaz (s.drop n) by omega];done))
theorem zjd {w:List Data} (hw:WT w){a k:Int}{p:Pat} (ht:TyIn w.length ⟨a,k⟩):
  FnD Tryz.prog 183 [.d (zah w),.agg [.d (.i a),.d (.i k)],.agg [.d (.i p.op),.d (.i p.ctor),.d (.i p.n),.d (.i p.m),.d (.i p.var),.d (zax p.kids)]] [] (.d (zbK (zcn w ⟨a,k⟩ p))) []:=by
 have hsh:=zhA hw (p:=p) ht;refine bd Tryz.f183 17 [] [] fun _ _ _ _ hk=>?_;refine bx 3004 ?_;refine bx 3005 ?_;refine ev (wc zmk hsh I I ?_);refine ev (rq ?_);rotate_left;all_goals (rfl)
mutual
theorem zoL:∀v:Val,zoK v v=true
 | .mk _ _ ks=>by simp[zoK,zi2 ks]
theorem zi2:∀l:List Val,zkx l l=true
 | []=>rfl
 |v::r=>by simp[zkx,zoL v,zi2 r]
end
theorem Val.c_len (v:Val):v.c.length=3:=by cases v;rfl
theorem Val.cs_rows {l:List Val}:∀x,x∈Val.cs l->x.length=3:=by
 intro x hx;rw[xa8] at hx;obtain⟨y,_,rfl⟩:=List.mem_map.1 hx;exact y.c_len
mutual
def mVal:Val->Nat
 | .mk _ _ ks=>zj1 ks
def zj1:List Val->Nat
 | []=>0
 |v::r=>1+mVal v+zj1 r
end
mutual
def Val.szM:Val->Int
 | .mk _ _ ks=>2+Vals.szM ks
def Vals.szM:List Val->Int
 | []=>0
 |v::r=>v.szM+Vals.szM r
end
mutual
def Val.one (k:Int):Val->Val
 | .mk _ _ ks=> .mk k (k+1) (Vals.one (k+1+1) ks)
def Vals.one (k:Int):List Val->List Val
 | []=>[]
 |v::r=>v.one k::Vals.one (k+v.szM) r
end
mutual
theorem Val.szM_nn:∀v:Val,0<=v.szM
 | .mk _ _ ks=>by have:=xbf ks;simp only[Val.szM];omega
theorem xbf:∀l:List Val,0<=Vals.szM l
 | []=>by simp[Vals.szM]
 |v::r=>by have:=Val.szM_nn v;have:=xbf r;simp only[Vals.szM];omega
end
mutual
theorem Val.szM_le:∀v:Val,v.szM<=2+2*(mVal v:Int)
 | .mk _ _ ks=>by have:=xbe ks;simp only[Val.szM,mVal];omega
theorem xbe:∀l:List Val,Vals.szM l<=2*(zj1 l:Int)
 | []=>by simp[Vals.szM,zj1]
 |v::r=>by have:=Val.szM_le v;have:=xbe r;simp only[Vals.szM,zj1];omega
end
def zq6 (w:List Data):Nat->Ty->Val->Bool
 |0,_,_=>false
 |n+1,t,v=>if t.data = -1 then decide (v.ctor = -1)&&(decide (0<=v.num)&&(decide (v.num<=9)&&decide (v.kids.length=0)))
   else if v.num=0/\v.ctor∈za2 w t then all2 (zq6 w n) (zac w t v.ctor) v.kids else false
mutual
def cntV (m:Int):Val->Int
 | .mk _ _ ks=>cntL m 1 ks
def cntL (m n:Int):List Val->Int
 | []=>n
 |k::r=>if n<=m then cntL m (n+cntV (m-n) k) r else n
end
theorem zpd {m n:Int}{l:List Val} (h:¬n<=m):cntL m n l=n:=by cases l<;>simp[cntL,h]
mutual
theorem znt:∀(v:Val) (m:Int),1<=cntV m v/\cntV m v<=v.size
 | .mk _ _ ks,m=>by
  have:=zkE ks m 1 od;simp only[cntV,Val.size];push_cast;omega
theorem zkE:∀(l:List Val) (m n:Int),1<=n->1<=cntL m n l/\cntL m n l<=n+Vals.size l
 | [],m,n,h=>by simp[cntL,Vals.size];omega
 |k::r,m,n,h=>by
  have h1:=znt k (m-n);have h2:=zkE r m (n+cntV (m-n) k) od;simp only[cntL,Vals.size];split
  ·push_cast;omega
  ·push_cast;omega
end
mutual
theorem zqi:∀(v:Val) (m:Int),(cntV m v<=m↔(v.size:Int)<=m)/\(cntV m v<=m->cntV m v=v.size)
 | .mk _ _ ks,m=>by
  have:=zmn ks m 1;simp only[cntV,Val.size];push_cast;exact this
theorem zmn:∀(l:List Val) (m n:Int),(cntL m n l<=m↔n+(Vals.size l:Int)<=m)/\(cntL m n l<=m->cntL m n l=n+Vals.size l)
 | [],m,n=>by simp[cntL,Vals.size]
 |k::r,m,n=>by
  have h1:=zqi k (m-n);have h2:=zmn r m (n+cntV (m-n) k);have h3:=zkE r m (n+cntV (m-n) k);have h4:=znt k (m-n);simp only[cntL,Vals.size];push_cast
  by_cases hn:n<=m
  ·rw[if_pos hn];by_cases h5:cntV (m-n) k<=m-n
   ·have h6:=h1.2 h5;rw[h6] at h2 ⊢;constructor
    ·rw[h2.1];constructor<;>intro h<;>omega
    ·intro h;rw[h2.2 h];omega
   ·have h7:¬(k.size:Int)<=m-n:=fun h=>h5 (h1.1.2 h);have h8:¬n+cntV (m-n) k<=m:=by omega
    rw[zpd h8];constructor
    ·constructor<;>intro h<;>omega
    ·intro h;omega
  ·rw[if_neg hn];constructor
   ·constructor<;>intro h<;>omega
   ·intro h;omega
end
theorem Vals.size_split {pre rest l:List Val}{y:Val} (h:pre++y::rest=l):Vals.size l=Vals.size pre+y.size+Vals.size rest:=by
 subst h;induction pre with
 |nil=>simp[Vals.size]
 |cons x r ih=>simp only[xai,Vals.size,ih];omega
structure Bd where
 var:Int
 val:Val
def Bd.c (b:Bd):List D:=[.i b.var,.i b.val.ctor,.i b.val.num,ziH b.val.kids]
instance:Inhabited Bd:=⟨⟨0,default⟩⟩
def BdOk (m:Nat) (l:List Bd):Prop:=∀x∈l,x.val.ok/\x.val.size<=m
theorem BdOk.app {m:Nat}{a b:List Bd} (h1:BdOk m a) (h2:BdOk m b):BdOk m (a++b):=fun x hx=>by
 rcases List.mem_append.1 hx with h|h
 ·exact h1 x h
 ·exact h2 x h
theorem BdOk.mono {m k:Nat}{a:List Bd} (h:BdOk m a) (hk:m<=k):BdOk k a:=fun x hx=>⟨(h x hx).1,Nat.le_trans (h x hx).2 hk⟩
theorem ztd {w:List Data}{t:Ty}{p:Pat} (h:p.op=5):zab w t p=[t,t]:=by unfold zab;rw[if_neg od,if_pos h]
theorem zte {w:List Data}{t:Ty}{p:Pat} (h:p.op=6):zab w t p=[t]:=by unfold zab;rw[if_neg od,if_neg od,if_pos h]
theorem zpZ {w:List Data}{n:Nat}{t:Ty}{p:Pat} (h:zat w (n+1) t p=true) (h5:p.op=5):p.kids.length=2/\zat w n t (nth p.kids 0)=true/\zat w n t (nth p.kids 1)=true:=by
 have hl:=(zcr h).2;have h0:=fun i hi=>zbx h (i:=i) hi;rw[ztd h5] at hl h0;have hl':p.kids.length=2:=hl;exact⟨hl',h0 0 od,h0 1 od⟩
theorem zpY {w:List Data}{n:Nat}{t:Ty}{p:Pat} (h:zat w (n+1) t p=true) (h6:p.op=6):p.kids.length=1/\zat w n t (nth p.kids 0)=true:=by
 have hl:=(zcr h).2;have h0:=fun i hi=>zbx h (i:=i) hi;rw[zte h6] at hl h0;have hl':p.kids.length=1:=hl;exact⟨hl',h0 0 od⟩
abbrev anyQ:Pat:= .mk 1 0 0 0 0 []
abbrev zbq:Pat:= .mk 0 0 0 0 0 []
mutual
def zg7:Pat->Pat
 | .mk op c n m v ks=>if op=2 then anyQ else if op=6/\ks≠[] then zjU ks else .mk op c n m v (zg6 ks)
def zjU:List Pat->Pat
 | []=>anyQ
 |k::_=>zg7 k
def zg6:List Pat->List Pat
 | []=>[]
 |k::r=>zg7 k::zg6 r
end
theorem zl7:∀l:List Pat,zg6 l=l.map zg7
 | []=>rfl
 |k::r=>by simp[zg6,zl7 r]
def ztu (out:List (List Pat)) (l:List Pat):List (List Pat):=out.flatMap fun q=>l.map fun c=>q++[c]
def ztq (ls:List (List Pat)):List (List Pat):=ls.foldl ztu [[]]
mutual
def zm3:Pat->List Pat
 | .mk op c n m v ks=>if op=5 then ztc ks else (ztq (zn6 ks)).map fun l=> .mk op c n m v l
def ztc:List Pat->List Pat
 | []=>[]
 |a::r=>zm3 a++zrY r
def zrY:List Pat->List Pat
 | []=>[]
 |b::_=>zm3 b
def zn6:List Pat->List (List Pat)
 | []=>[]
 |k::r=>zm3 k::zn6 r
end
mutual
def cntS:Pat->Int
 | .mk op _ _ _ _ ks=>if op=5 then cntO ks 0 else cntM ks 1
def cntO:List Pat->Int->Int
 | [],n=>n
 |k::r,n=>cntO r (cap (n+cntS k))
def cntM:List Pat->Int->Int
 | [],n=>n
 |k::r,n=>cntM r (cap (n*cntS k))
end
mutual
theorem zns:∀p:Pat,0<=cntS p/\cntS p<=401
 | .mk op _ _ _ _ ks=>by
  unfold cntS;split
  ·exact znr ks 0 od od
  ·exact znq ks 1 od od
theorem znr:∀(l:List Pat) (n:Int),0<=n->n<=401->0<=cntO l n/\cntO l n<=401
 | [],n,h1,h2=>⟨h1,h2⟩
 |k::r,n,h1,h2=>by
  unfold cntO;have h3:=zns k;have h4:=zpb (x:=n+cntS k) od;exact znr r _ h4.1 h4.2
theorem znq:∀(l:List Pat) (n:Int),0<=n->n<=401->0<=cntM l n/\cntM l n<=401
 | [],n,h1,h2=>⟨h1,h2⟩
 |k::r,n,h1,h2=>by
  unfold cntM;have h3:=zns k;have h4:=zpb (x:=n*cntS k) (Int.mul_nonneg h1 h3.1);exact znq r _ h4.1 h4.2
end
mutual
theorem zno:∀p:Pat,p.ok->(zg7 p).ok
 | .mk op c n m v ks,h=>by
  unfold zg7;split
  ·exact⟨by simp,trivial⟩
  ·split
   ·exact zqo ks h.2
   ·exact⟨by rw[zl7,xac];exact h.1,zl8 ks h.2⟩
theorem zqo:∀l:List Pat,Pats.ok l->(zjU l).ok
 | [],_=>⟨by simp,trivial⟩
 |k::r,h=>zno k h.1
theorem zl8:∀l:List Pat,Pats.ok l->Pats.ok (zg6 l)
 | [],_=>trivial
 |k::r,h=>⟨zno k h.1,zl8 r h.2⟩
end
mutual
theorem zk7:∀p:Pat,(zg7 p).size<=p.size
 | .mk op c n m v ks=>by
  unfold zg7;split
  ·simp[anyQ,Pat.size,Pats.size]
  ·split
   ·have:=zop ks;simp only[Pat.size];omega
   ·have:=zju ks;simp only[Pat.size];omega
theorem zop:∀l:List Pat,(zjU l).size<=1+Pats.size l
 | []=>by simp[zjU,anyQ,Pat.size,Pats.size]
 |k::r=>by have:=zk7 k;simp only[zjU,Pats.size];omega
theorem zju:∀l:List Pat,Pats.size (zg6 l)<=Pats.size l
 | []=>Nat.le_refl _
 |k::r=>by have:=zk7 k;have:=zju r;simp only[zg6,Pats.size];omega
end
def zfX (env:Env) (hp:Hp) (j:Nat):Bool:=
 (match getH hp j with|none=>true|some _=>false)&&(env.all fun x=>match getE env x.1 with|some v=> !zaA j v.ids|none=>true)&&(hp.all fun x=>match getH hp x.1 with|some r=> !zaA j r.ids|none=>true)
theorem zmB:∀ {env:Env}{i:Nat}{v:AV},getE env i=some v->∃u,(i,u)∈env
 |(k,x)::r,i,v,h=>by
  simp only[getE] at h;cases hb:Nat.beq k i with
  |true=>obtain rfl:=xap hb;exact⟨x,by simp⟩
  |false=>
   simp only[hb,cond_false] at h;obtain⟨u,hu⟩:=zmB h;exact⟨u,List.mem_cons_of_mem _ hu⟩
theorem zd7 {env:Env}{hp:Hp}{j:Nat} (h:zfX env hp j=true):getH hp j=none/\zcp j ⟨env,hp⟩:=by
 simp only[zfX,xad,List.all_eq_true] at h;obtain⟨⟨h1,h2⟩,h3⟩:=h;refine⟨?_,fun i v hv hm=>?_,fun i r hr hm=>?_⟩
 ·cases hg:getH hp j with
  |none=>rfl
  |some x=>simp[hg] at h1
 ·obtain⟨u,hu⟩:=zmB hv;have:=h2 _ hu;rw[show getE env (i,u).1=some v from hv] at this;change (!zaA j v.ids)=true at this
  rw[zas.2 hm] at this;cases this
 ·obtain⟨u,hu⟩:=zhf hr;have:=h3 _ hu;rw[show getH hp (i,u).1=some r from hr] at this;change (!zaA j r.ids)=true at this
  rw[zas.2 hm] at this;cases this
theorem Val.cs_cc (l:List Val):Val.cs l=l.map Val.cc:=by
 rw[xa8];exact List.map_congr_left (fun v _=>Val.c_eq v)
theorem xaQ (l:List Pat):Pat.cs l=l.map Pat.cc:=by
 rw[xaR];exact List.map_congr_left (fun v _=>xaM v)
theorem zem (l:List Pat):∀x∈l.map Pat.cc,x.length=6:=fun x hx=>by
 obtain⟨y,_,rfl⟩:=List.mem_map.1 hx;rfl
def za0 (w:List Data) (t:Ty) (k:Int):Str:=(nth (nth w t.data.toNat).ctors k.toNat).name
def isNm (w:List Data) (t:Ty) (s:Str) (k:Int):Bool:=decide (za0 w t k=s)
def nmV (w:List Data) (t:Ty) (s:Str):Int:=((zan w t).find? (isNm w t s)).getD (-1)
theorem zfP {w:List Data}{t:Ty}{s:Str} (h:¬nmV w t s<0):nmV w t s∈zan w t:=by
 unfold nmV at h ⊢;cases e:(zan w t).find? (isNm w t s) with
 |none=>rw[e] at h;simp at h
 |some k=>exact List.mem_of_find?_eq_some e
theorem zk3 {w:List Data} (hw:WT w){a k:Int} (ht:TyIn w.length ⟨a,k⟩){s:Str}:
  FnD Tryz.prog 171 [.d (zah w),.agg [.d (.i a),.d (.i k)],.d (.str s)] [] (.d (.i (nmV w ⟨a,k⟩ s))) []:=by
 have hct:=zbU hw ht;have hpl:=fun(c:Int) (h:c∈zan w ⟨a,k⟩)=>za7 ht h;have hcl:=zd4 hw ht;have hnm:∀(d m:Nat),a=d->(za0 w ⟨a,k⟩ (m:Int))=(nth (nth w d).ctors m).name:=fun d m h=>by unfold za0;subst h;rfl
 have hdef:nmV w ⟨a,k⟩ s=((zan w ⟨a,k⟩).find? (isNm w ⟨a,k⟩ s)).getD (-1):=rfl;rw[hdef];have hisn:∀c,isNm w ⟨a,k⟩ s c=decide (za0 w ⟨a,k⟩ c=s):=fun _=>rfl;generalize zan w ⟨a,k⟩=l at *;refine bd Tryz.f171 37 [] [] fun _ _ _ _ hk=>?_;refine bx 3004 ?_;refine ev (wc zfc hct I I ?_);refine ev (xaA (ι:=List (Int)×List (Int)) hk (fun x=>[(8,.d (.i (x.1.length:Int)))]) [6,12,13,14,15,16,17,18,19,20,21,22,23,24,25,26,27,28,29,30,31,32,33,34,35,36] (fun x=>[]) (fun x=>x.1++x.2=l/\x.2.find? (isNm w ⟨a,k⟩ s)=l.find? (isNm w ⟨a,k⟩ s)) (fun x=>x.2.length) ([],l) ⟨by simp,I⟩ ⟨⟨_,I,xaK ?_⟩,O⟩ O (fun x=>rfl) (fun x hg1=>?_));focus (rfl)
 obtain⟨pre,rest⟩:=x;dsimp only at hg1 ⊢;refine evc [] [] ?_;apply sq<;>intro h1 h1p h1s<;>(try simp only[Q,xal] at h1p);rcases rest with _|⟨y,rest⟩
 ·exfalso;simp_all
 refine xbz (i:=(hpl y (by rw[<-hg1.1];simp)).choose) sl23 .none I I I (hpl y (by rw[<-hg1.1];simp)).choose_spec.1 (zam (hpl y (by rw[<-hg1.1];simp)).choose_spec.2.1) I ?_;refine evd [] [] (ixq zaW I I I (zaI hg1.1) I (evd [] [] (xbz (i:=(hpl y (by rw[<-hg1.1];simp)).choose_spec.2.2.choose) zbo .none I I I (hpl y (by rw[<-hg1.1];simp)).choose_spec.2.2.choose_spec.1 (zam (hpl y (by rw[<-hg1.1];simp)).choose_spec.2.2.choose_spec.2) I ?_)));refine evd [] [] (dr ?_);apply sq<;>intro h2 h2p h2s<;>(try simp only[Q,xal] at h2p);refine ixq zaW I I I (zaI hg1.1) I (ev (rq ?_));rotate_left;refine ar (xaj ((pre++[y],rest)) ⟨⟨(by have hz:=hg1.1;rw[<-hz];simp),(by rw[<-hg1.2,List.find?_cons_of_neg];rw[hisn,(hpl y (by rw[<-hg1.1];simp)).choose_spec.2.2.choose_spec.1,hnm _ _ (hpl y (by rw[<-hg1.1];simp)).choose_spec.1];simp_all)⟩,oe,sx ⟨⟨_,I,xaK ?_⟩,O⟩ O⟩);focus ((simp;done))
 have hrest:rest=[]:=by
  rcases rest with _|⟨a,b⟩
  ·rfl
  ·exfalso;have hz:=xam List.length (hg1.1);simp only[xaa,xab,xac] at hz;omega
 subst hrest;refine rq ?_;rotate_left;all_goals ((refine xam D.i ?_;rw[<-hg1.2];first|rfl|(rw[List.find?_cons_of_pos (by rw[hisn,(hpl y (by rw[<-hg1.1];simp)).choose_spec.2.2.choose_spec.1,hnm _ _ (hpl y (by rw[<-hg1.1];simp)).choose_spec.1];simp_all)];rfl)))
def zbj (x:UInt8):Bool:=decide (48<=(x.toNat:Int))&&decide ((x.toNat:Int)<=57)
def digV (s:Str) (n:Nat):Int:=((nth s n).toNat:Int)-48
def intP (s:Str) (n:Nat):Pat×Int:=
 if zbn s ((n:Int)+1) 45=true/\n+2<s.length/\zbj (nth s (n+2))=true then (.mk 3 0 (digV s n) (digV s (n+2)) 0 [],(n:Int)+3)
 else (.mk 3 0 (digV s n) (digV s n) 0 [],(n:Int)+1)
theorem znw {x:UInt8} (h:zbj x=true):IntKind.i64.wrap (IntKind.u8.wrap ((x.toNat:Int)-48))=(x.toNat:Int)-48:=by
 unfold zbj at h;rw[xad,xah,xah] at h;exact zjN od od
theorem zlT {s:Str}{n:Nat} (hs:s.length<=1000000000000) (hn:n<s.length) (hd:zbj (nth s n)=true):
  FnD Tryz.prog 190 [.d (.str s),.d (.i n)] [] (.tup [.agg [.d (.i (intP s n).1.op),.d (.i (intP s n).1.ctor),.d (.i (intP s n).1.n),.d (.i (intP s n).1.m),.d (.i (intP s n).1.var),.d (zax (intP s n).1.kids)],.d (.i (intP s n).2)]) []:=by
 have w1:=znw hd;by_cases hc:zbn s ((n:Int)+1) 45=true/\n+2<s.length/\zbj (nth s (n+2))=true
 ·have w2:=znw hc.2.2;have e:intP s n=(.mk 3 0 (digV s n) (digV s (n+2)) 0 [],(n:Int)+3):=by unfold intP;rw[if_pos hc]
  rw[e];obtain⟨c1,c2,c3⟩:=hc;have hsg:=zaK (s:=s) (a:=(n:Int)+1) (c:=45) hs;rw[c1] at hsg;unfold zbj at c3;rw[xad,xah,xah] at c3;refine bd Tryz.f190 52 [10,42] [] fun _ _ _ _ hk=>?_;refine ab 3004 tz60 ?_;refine evs [10,42] [] (xbD un9 .none I I I I (za9 od) ?_);refine xbW .none I I I (xbu ow un3 .none I I ?_);refine evs [10,42] [] (ar (wc zbX hsg I I ?_));refine evs [10,42] [] ?_;apply sq<;>intro h1 h1p h1s;refine ar ?_;apply sq<;>intro h2 h2p h2s;refine ar (xbD (i:=((n+2:Nat))) un9 (.some I I h2) I I I od (za9 od) ?_);refine evs [10,42] [(23,true)] ?_ ⟨⟨_,I,h2⟩,O⟩;apply sq<;>intro h3 h3p h3s;refine ar (xbD (i:=((n+2:Nat))) un9 (.some I I h3) I I I od (za9 od) ?_);refine evs [10,42] [(30,true)] ?_ ⟨⟨_,I,h3⟩,O⟩;apply sq<;>intro h4 h4p h4s;refine ar (xbD (i:=((n+2:Nat))) un9 .none I I I od (za9 od) ?_);refine xbW .none I I I (xbu ow un3 .none I I ?_);refine bu [0,2,3] [_,_,_] st60 ?_;refine evs [10,42] [] (ar (so ty60 ?_));refine evs [10,42] [] (rn0 (rc ty60) (.tup (.cons (.agg (qeeeeen ?_ ?_ ?_ ?_ ?_ ?_)) (qe ?_))));rotate_left 7;try simp only[Q,xal] at h4p
  focus (exfalso;omega)
  try simp only[Q,xal] at h3p
  refine sqF ?_;focus (exfalso;omega)
  try simp only[Q,xal] at h2p
  refine sqF ?_;refine sqF ?_;focus (exfalso;omega)
  refine sqF ?_;refine sqF ?_;refine sqF ?_;focus (exfalso;contradiction)
  all_goals (first|rfl|(refine xam D.i ?_;first|rfl|omega|exact w1|exact w2))
 ·have e:intP s n=(.mk 3 0 (digV s n) (digV s n) 0 [],(n:Int)+1):=by unfold intP;rw[if_neg hc]
  rw[e];have hsg:=zaK (s:=s) (a:=(n:Int)+1) (c:=45) hs;have hdg:∀x:UInt8,zbj x=(decide (48<=(x.toNat:Int))&&decide ((x.toNat:Int)<=57)):=fun _=>rfl;have hno:zbn s ((n:Int)+1) 45=true->n+2<s.length->48<=((nth s (n+2)).toNat:Int)->((nth s (n+2)).toNat:Int)<=57->False:=fun h1 h2 h3 h4=>hc ⟨h1,h2,by rw[hdg,xad,xah,xah];exact⟨h3,h4⟩⟩;refine bd Tryz.f190 52 [10] [] fun _ _ _ _ hk=>?_;refine ab 3004 tz60 ?_;refine evs [10] [] (xbD un9 .none I I I I (za9 od) ?_);refine xbW .none I I I (xbu ow un3 .none I I ?_);refine evs [10] [] (ar (wc zbX hsg I I ?_));refine evs [10] [] ?_;apply sq<;>intro h1 h1p h1s;refine ar ?_;apply sq<;>intro h2 h2p h2s;try simp only[Q,xal] at h2p
  refine ar (xbD (i:=((n+2:Nat))) un9 (.some I I h2) I I I od (za9 od) ?_);refine evs [10] [(23,true)] ?_ ⟨⟨_,I,h2⟩,O⟩;apply sq<;>intro h3 h3p h3s;try simp only[Q,xal] at h3p
  refine ar (xbD (i:=((n+2:Nat))) un9 (.some I I h3) I I I od (za9 od) ?_);refine evs [10] [(30,true)] ?_ ⟨⟨_,I,h3⟩,O⟩;apply sq<;>intro h4 h4p h4s;try simp only[Q,xal] at h4p
  exfalso;exact hno ol od od od;refine bu [0,2,3] [_,_,_] st60 ?_;refine evs [10] [] (ar (so ty60 ?_));refine evs [10] [] (rn0 (rc ty60) (.tup (.cons (.agg (qeeeeen ?_ ?_ ?_ ?_ ?_ ?_)) (qe ?_))));rotate_left 7;refine sqF ?_;refine bu [0,2,3] [_,_,_] st60 ?_;refine evs [10] [] (ar (so ty60 ?_));refine evs [10] [] (rn0 (rc ty60) (.tup (.cons (.agg (qeeeeen ?_ ?_ ?_ ?_ ?_ ?_)) (qe ?_))));rotate_left 7;refine sqF ?_;refine sqF ?_;refine bu [0,2,3] [_,_,_] st60 ?_;refine evs [10] [] (ar (so ty60 ?_));refine evs [10] [] (rn0 (rc ty60) (.tup (.cons (.agg (qeeeeen ?_ ?_ ?_ ?_ ?_ ?_)) (qe ?_))));rotate_left 7;refine sqF ?_;refine sqF ?_;refine sqF ?_;refine bu [0,2,3] [_,_,_] st60 ?_;refine evs [10] [] (ar (so ty60 ?_));refine evs [10] [] (rn0 (rc ty60) (.tup (.cons (.agg (qeeeeen ?_ ?_ ?_ ?_ ?_ ?_)) (qe ?_))));rotate_left 7;all_goals (first|rfl|(refine xam D.i ?_;first|rfl|omega|exact w1))
def kidL (f:Ty->Int->Pat×Int) (s:Str):List Ty->List UInt8->Int->Option (List Pat×Int)
 | [],_,a=>some ([],a)
 |_::_,[],_=>none
 |t::ts,c::cs,a=>if zbn s a c=true then (match kidL f s ts cs (f t (a+1)).2 with|none=>none|some r=>some ((f t (a+1)).1::r.1,r.2)) else none
def kidV (f:Ty->Int->Pat×Int) (s:Str) (ts:List Ty) (sg:List UInt8) (a:Int):List Pat×Int:=(kidL f s ts sg a).getD ([],-1)
def zaq (w:List Data) (s:Str):Nat->Ty->Int->Pat×Int
 |0,_,_=>(zbq,-1)
 |n+1,t,a=>
  if a<0\/(s.length:Int)<=a then (zbq,-1)
  else if nth s a.toNat=95 then (.mk 1 0 0 0 0 [],a+1)
  else if zbj (nth s a.toNat)=true then intP s a.toNat
  else if nth s a.toNat=40 then (if zbn s (kidV (zaq w s n) s [t,t] [40,124] a).2 41=true then (.mk 5 0 0 0 0 (kidV (zaq w s n) s [t,t] [40,124] a).1,(kidV (zaq w s n) s [t,t] [40,124] a).2+1) else (zbq,-1))
  else if zaQ (nth s a.toNat)=true/\zbn s (a+1) 64=true then (.mk 6 0 0 0 (((nth s a.toNat).toNat:Int)-97) (kidV (zaq w s n) s [t] [64] (a+1)).1,(kidV (zaq w s n) s [t] [64] (a+1)).2)
  else if zaQ (nth s a.toNat)=true then (.mk 2 0 0 0 (((nth s a.toNat).toNat:Int)-97) [],a+1)
  else if nmV w t (zbw s a.toNat)<0 then (zbq,-1)
  else if (zac w t (nmV w t (zbw s a.toNat))).length=0 then (.mk 4 (nmV w t (zbw s a.toNat)) 0 0 0 (kidV (zaq w s n) s (zac w t (nmV w t (zbw s a.toNat))) [40,44,44] ((a.toNat+zaz (s.drop a.toNat):Nat):Int)).1,(kidV (zaq w s n) s (zac w t (nmV w t (zbw s a.toNat))) [40,44,44] ((a.toNat+zaz (s.drop a.toNat):Nat):Int)).2)
  else if zbn s (kidV (zaq w s n) s (zac w t (nmV w t (zbw s a.toNat))) [40,44,44] ((a.toNat+zaz (s.drop a.toNat):Nat):Int)).2 41=true then (.mk 4 (nmV w t (zbw s a.toNat)) 0 0 0 (kidV (zaq w s n) s (zac w t (nmV w t (zbw s a.toNat))) [40,44,44] ((a.toNat+zaz (s.drop a.toNat):Nat):Int)).1,(kidV (zaq w s n) s (zac w t (nmV w t (zbw s a.toNat))) [40,44,44] ((a.toNat+zaz (s.drop a.toNat):Nat):Int)).2+1)
  else (zbq,-1)
def EndIn (s:Str) (a:Int):Prop:= -1<=a/\a<=(s.length:Int)
theorem zqq {s:Str}{n:Nat} (hn:n<s.length):EndIn s (intP s n).2:=by
 unfold intP EndIn;split
 ·rename_i h;have:=h.2.1;dsimp only;omega
 ·dsimp only;omega
theorem zmE {f:Ty->Int->Pat×Int}{s:Str} (hf:∀t a,EndIn s (f t a).2):∀(ts:List Ty) (sg:List UInt8) (a:Int),EndIn s a->∀r,kidL f s ts sg a=some r->EndIn s r.2/\r.1.length=ts.length
 | [],_,a,ha,r,h=>by rw[kidL] at h;cases h;exact⟨ha,rfl⟩
 |_::_,[],_,_,r,h=>by rw[kidL] at h;cases h
 |t::ts,c::cs,a,ha,r,h=>by
  rw[kidL] at h;split at h
  ·cases e:kidL f s ts cs (f t (a+1)).2 with
   |none=>rw[e] at h;cases h
   |some r2=>
    rw[e] at h;cases h;have:=zmE hf ts cs _ (hf t (a+1)) r2 e;exact⟨this.1,by simp[this.2]⟩
  ·cases h
theorem zhm {f:Ty->Int->Pat×Int}{s:Str} (hf:∀t a,EndIn s (f t a).2){ts:List Ty}{sg:List UInt8}{a:Int} (ha:EndIn s a):EndIn s (kidV f s ts sg a).2:=by
 unfold kidV;cases e:kidL f s ts sg a with
 |none=>exact⟨Int.le_refl _,by simp[Option.getD]<;>omega⟩
 |some r=>exact(zmE hf ts sg a ha r e).1
theorem zjh {s:Str}{a:Int} (h0:0<=a) (h1:a<(s.length:Int)):EndIn s ((a.toNat+zaz (s.drop a.toNat):Nat):Int):=by
 have:=zf3 (s.drop a.toNat);rw[List.length_drop] at this;exact⟨by omega,by omega⟩
theorem zfB {w:List Data}{s:Str}:∀(n:Nat) (t:Ty) (a:Int),EndIn s (zaq w s n t a).2
 |0,_,_=>⟨by simp[zaq],by simp[zaq]<;>omega⟩
 |n+1,t,a=>by
  have ih:=zfB (w:=w) (s:=s) n;have z:EndIn s ((zbq,(-1:Int)):Pat×Int).2:=⟨Int.le_refl _,by dsimp only;omega⟩;unfold zaq;split
  ·exact z
  rename_i ha;have ha0:0<=a:=by omega
  have ha1:a<(s.length:Int):=by omega
  have hst:∀ {b:Int},zbn s b 41=true->EndIn s (b+1):=fun h=>by have:=zgs h;exact⟨by omega,by omega⟩
  split
  ·exact⟨by dsimp only;omega,by dsimp only;omega⟩
  split
  ·exact zqq od
  split
  ·split
   ·rename_i h;exact hst h
   ·exact z
  split
  ·rename_i h;exact zhm ih (by have:=zgs h.2;exact⟨by omega,by omega⟩)
  split
  ·exact⟨by dsimp only;omega,by dsimp only;omega⟩
  split
  ·exact z
  split
  ·exact zhm ih (zjh ha0 ha1)
  split
  ·rename_i h;exact hst h
  ·exact z
theorem zll {f:Ty->Int->Pat×Int}{s:Str}{ts:List Ty}{sg:List UInt8}{i:Nat}{a:Int} (hi:i<ts.length) (hg:ts.length<=sg.length):
  kidL f s (ts.drop i) (sg.drop i) a=if zbn s a (nth sg i)=true then (match kidL f s (ts.drop (i+1)) (sg.drop (i+1)) (f (nth ts i) (a+1)).2 with|none=>none|some r=>some ((f (nth ts i) (a+1)).1::r.1,r.2)) else none:=by
 rw[zbc hi,zbc (show i<sg.length by omega),kidL]
def addK (acc:List Pat):Option (List Pat×Int)->Option (List Pat×Int)
 |none=>none
 |some r=>some (acc++r.1,r.2)
theorem zqd (o:Option (List Pat×Int)):addK [] o=o:=by cases o<;>rfl
theorem zqu {f:Ty->Int->Pat×Int}{s:Str}{ts:List Ty}{sg:List UInt8}{i:Nat}{a:Int}{acc:List Pat}{o:Option (List Pat×Int)} (hi:i<ts.length) (hg:ts.length<=sg.length)
  (h:addK acc (kidL f s (ts.drop i) (sg.drop i) a)=o) (hs:zbn s a (nth sg i)=true):
  addK (acc++[(f (nth ts i) (a+1)).1]) (kidL f s (ts.drop (i+1)) (sg.drop (i+1)) (f (nth ts i) (a+1)).2)=o:=by
 rw[<-h,zll hi hg,if_pos hs];cases kidL f s (ts.drop (i+1)) (sg.drop (i+1)) (f (nth ts i) (a+1)).2 with
 |none=>rfl
 |some r=>simp[addK]
theorem zrH {f:Ty->Int->Pat×Int}{s:Str}{ts:List Ty}{sg:List UInt8}{i:Nat}{a:Int}{acc:List Pat}{o:Option (List Pat×Int)} (hi:i<ts.length) (hg:ts.length<=sg.length)
  (h:addK acc (kidL f s (ts.drop i) (sg.drop i) a)=o) (hs:zbn s a (nth sg i)=false):o=none:=by
 rw[<-h,zll hi hg,if_neg (by rw[hs];simp)];rfl
theorem zrI {f:Ty->Int->Pat×Int}{s:Str}{ts:List Ty}{sg:List UInt8}{i:Nat}{a:Int}{acc:List Pat}{o:Option (List Pat×Int)} (hi:ts.length<=i)
  (h:addK acc (kidL f s (ts.drop i) (sg.drop i) a)=o):o=some (acc,a):=by
 rw[<-h,List.drop_eq_nil_of_le hi,kidL];simp[addK]
theorem zlU {w:List Data}{s:Str} (hs:s.length<=1000000000000 / 2){ts:List Ty}{sg:List UInt8} (hg:ts.length<=sg.length) (hg2:sg.length<=3){a0 dep:Int} (ha0:EndIn s a0){f:Ty->Int->Pat×Int} (hfe:∀t a,EndIn s (f t a).2)
  (hf:∀t∈ts,∀a,EndIn s a->FnD Tryz.prog 106 [.d (zah w),.agg [.d (.i t.data),.d (.i t.index)],.d (.str s),.d (.i a),.d (.i dep)] [] (.tup [.agg [.d (.i (f t a).1.op),.d (.i (f t a).1.ctor),.d (.i (f t a).1.n),.d (.i (f t a).1.m),.d (.i (f t a).1.var),.d (zax (f t a).1.kids)],.d (.i (f t a).2)]) []):
  FnD Tryz.prog 191 [.d (zah w),.d (zbK ts),.d (zbY sg),.d (.str s),.d (.i a0),.d (.i dep)] [] (.tup [.d (zax (kidV f s ts sg a0).1),.d (.i (kidV f s ts sg a0).2)]) []:=by
 unfold kidV;generalize ho:kidL f s ts sg a0=o;have hsl:s.length<=1000000000000:=by omega
 have hbad:=fun(i:Nat) (a:Int) (acc:List Pat)=>zrH (f:=f) (s:=s) (ts:=ts) (sg:=sg) (i:=i) (a:=a) (acc:=acc) (o:=o);have hend:=fun(i:Nat) (a:Int) (acc:List Pat)=>zrI (f:=f) (s:=s) (ts:=ts) (sg:=sg) (i:=i) (a:=a) (acc:=acc) (o:=o);have hnext:=fun(i:Nat) (a:Int) (acc:List Pat)=>zqu (f:=f) (s:=s) (ts:=ts) (sg:=sg) (i:=i) (a:=a) (acc:=acc) (o:=o);refine bd Tryz.f191 53 [] [] fun _ _ _ _ hk=>?_;refine xbR 1 sl58 .none I I (ev (xaA (ι:=Nat×List Pat×Int) hk (fun x=>[(15,.d (.i (x.1:Int))),(14,.gl 1 (x.2.1.map Pat.cc)),(4,.d (.i x.2.2))]) [12,13,16,17,19,20,21,22,23,24,25,26,27,28,29,30,31,32,33,34,35,36,37,38,39,40,41,42,43,44,45,46,47,48,49,50] (fun x=>[(1,some (.tok ((x.2.1.map Pat.cc)).length 6))]) (fun x=>x.1<=ts.length/\x.2.1.length<=x.1/\(-1<=x.2.2/\x.2.2<=(s.length:Int))/\addK x.2.1 (kidL f s (ts.drop x.1) (sg.drop x.1) x.2.2)=o) (fun x=>ts.length-x.1) (0,[],a0) ⟨by simp,by simp,ha0,by rw[zqd];exact ho⟩ ⟨⟨_,I,xaK ?_⟩,⟨⟨_,I,LeA.glg ?_⟩,⟨⟨_,I,xaK ?_⟩,O⟩⟩⟩ ⟨zag ?_,O⟩ (fun x=>rfl) (fun x hg1=>?_)));iterate 4 focus (rfl)
 refine evc [] [] ?_;apply sq<;>intro h1 h1p h1s<;>(try simp only[Q,xal,xac] at h1p);refine ixq sl22 I I I (zam od) I ?_;refine ev (wc zbX (zaK (s:=s) (a:=x.2.2) (c:=nth sg x.1) hsl) I I ?_);refine ev ?_;apply sq<;>intro h2 h2p h2s;refine rn0 (r2 I I) (.tup (qne ?_ ?_));rotate_left 2;try simp only[Q,xal,xac] at h2p
 refine ixq zaJ I I I (zam od) I ?_;refine ev (ar (wc zoV (hf (nth ts x.1) (zao od) (x.2.2+1) (by have:=zgs (s:=s) (a:=x.2.2) ol;exact⟨by omega,by omega⟩)) I I ?_));refine ev (ab 3016 tz60 ?_);refine so ty60 ?_;refine ev (si [0] [_] sl58 tz60 ?_);refine ap sl58 zz60 I I I (by intro x hx;simp at hx;subst hx;rfl) oo ?_;refine ev (ar (xaj ((x.1+1,x.2.1++[(f (nth ts x.1) (x.2.2+1)).1],(f (nth ts x.1) (x.2.2+1)).2)) ⟨⟨by dsimp only;omega,by simp;omega,hfe _ _,hnext x.1 x.2.2 x.2.1 od hg hg1.2.2.2 ol⟩,o0,sx ⟨⟨_,I,xaK ?_⟩,⟨⟨_,I,LeA.glg ?_⟩,⟨⟨_,I,xaK ?_⟩,O⟩⟩⟩ ⟨zag ?_,O⟩⟩));iterate 4 focus ((simp;done))
 refine rn0 (r2 I I) (.tup (qge ?_ ?_));rotate_left 2;all_goals (first|(rw[hbad x.1 x.2.2 x.2.1 od hg hg1.2.2.2 ol];rfl)|(rw[hend x.1 x.2.2 x.2.1 od hg1.2.2.2];first|rfl|exact(xaQ _).symm))
set_option maxHeartbeats 4000000
theorem zeY {x:Int} (h1:97<=x) (h2:x<=122):IntKind.i64.wrap (IntKind.u8.wrap (x-97))=x-97:=by
 rw[ze3,zcZ od];omega
section
variable {w:List Data}{s:Str}{n m:Nat}{t:Ty}
theorem zs8 {a:Int} (h:a<0\/(s.length:Int)<=a):zaq w s (n+1) t a=(zbq,-1):=by unfold zaq;rw[if_pos h]
variable (hm:m<s.length)
include hm
theorem zkb:¬((m:Int)<0\/(s.length:Int)<=(m:Int)):=by omega
omit hm in
theorem ziG {x:UInt8} (h1:48<=(x.toNat:Int)) (h2:(x.toNat:Int)<=57):zbj x=true:=by unfold zbj;rw[xad,xah,xah];exact⟨h1,h2⟩
omit hm in
theorem ziF {x:UInt8} (h:¬(48<=(x.toNat:Int)/\(x.toNat:Int)<=57)):¬zbj x=true:=by unfold zbj;rw[xad,xah,xah];exact h
omit hm in
theorem zfy {x:UInt8} (h1:97<=(x.toNat:Int)) (h2:(x.toNat:Int)<=122):zaQ x=true:=by unfold zaQ;rw[xad,xah,xah];exact⟨h1,h2⟩
omit hm in
theorem zho {x:UInt8} (h:¬(97<=(x.toNat:Int)/\(x.toNat:Int)<=122)):¬zaQ x=true:=by unfold zaQ;rw[xad,xah,xah];exact h
omit hm in
theorem b_eq {x:UInt8}{k:Nat} (hk:k<256) (h:(x.toNat:Int)=(k:Int)):x=UInt8.ofNat k:=by
 rw[<-UInt8.toNat_inj,UInt8.toNat_ofNat_of_lt' hk];omega
omit hm in
theorem b_ne {x y:UInt8} (h:¬(x.toNat:Int)=(y.toNat:Int)):¬x=y:=fun e=>h (by rw[e])
theorem zpO (h:((nth s m).toNat:Int)=95):zaq w s (n+1) t (m:Int)=(.mk 1 0 0 0 0 [],(m:Int)+1):=by
 unfold zaq;rw[if_neg (zkb hm),if_pos (show nth s ((m:Int)).toNat=95 from b_eq (k:=95) od h)]
theorem zmU (h1:48<=((nth s m).toNat:Int)) (h2:((nth s m).toNat:Int)<=57):zaq w s (n+1) t (m:Int)=intP s m:=by
 unfold zaq;rw[if_neg (zkb hm),if_neg (show ¬nth s ((m:Int)).toNat=95 from b_ne (by show ¬((nth s m).toNat:Int)=95;omega)),if_pos (show zbj (nth s ((m:Int)).toNat)=true from ziG h1 h2)];rfl
theorem zrf (h:((nth s m).toNat:Int)=40):zaq w s (n+1) t (m:Int)=(if zbn s (kidV (zaq w s n) s [t,t] [40,124] (m:Int)).2 41=true then (.mk 5 0 0 0 0 (kidV (zaq w s n) s [t,t] [40,124] (m:Int)).1,(kidV (zaq w s n) s [t,t] [40,124] (m:Int)).2+1) else (zbq,-1)):=by
 rw[zaq];rw[if_neg (zkb hm),if_neg (show ¬nth s ((m:Int)).toNat=95 from b_ne (by show ¬((nth s m).toNat:Int)=95;omega)),if_neg (show ¬zbj (nth s ((m:Int)).toNat)=true from ziF (by show ¬(48<=((nth s m).toNat:Int)/\((nth s m).toNat:Int)<=57);omega)),if_pos (show nth s ((m:Int)).toNat=40 from b_eq (k:=40) od h)]
theorem zmV (h1:97<=((nth s m).toNat:Int)) (h2:((nth s m).toNat:Int)<=122):zaq w s (n+1) t (m:Int)=if zbn s ((m:Int)+1) 64=true then (.mk 6 0 0 0 (((nth s m).toNat:Int)-97) (kidV (zaq w s n) s [t] [64] ((m:Int)+1)).1,(kidV (zaq w s n) s [t] [64] ((m:Int)+1)).2) else (.mk 2 0 0 0 (((nth s m).toNat:Int)-97) [],(m:Int)+1):=by
 rw[zaq];rw[if_neg (zkb hm),if_neg (show ¬nth s ((m:Int)).toNat=95 from b_ne (by show ¬((nth s m).toNat:Int)=95;omega)),if_neg (show ¬zbj (nth s ((m:Int)).toNat)=true from ziF (by show ¬(48<=((nth s m).toNat:Int)/\((nth s m).toNat:Int)<=57);omega)),if_neg (show ¬nth s ((m:Int)).toNat=40 from b_ne (by show ¬((nth s m).toNat:Int)=40;omega))];by_cases hg:zbn s ((m:Int)+1) 64=true
 ·rw[if_pos ⟨zfy h1 h2,hg⟩,if_pos hg];rfl
 ·rw[if_neg (fun h=>hg h.2),if_pos (show zaQ (nth s ((m:Int)).toNat)=true from zfy h1 h2),if_neg hg];rfl
def conP (w:List Data) (s:Str) (n:Nat) (t:Ty) (m:Nat):Pat×Int:=
 if nmV w t (zbw s m)<0 then (zbq,-1)
 else if (zac w t (nmV w t (zbw s m))).length=0 then (.mk 4 (nmV w t (zbw s m)) 0 0 0 (kidV (zaq w s n) s (zac w t (nmV w t (zbw s m))) [40,44,44] ((m+zaz (s.drop m):Nat):Int)).1,(kidV (zaq w s n) s (zac w t (nmV w t (zbw s m))) [40,44,44] ((m+zaz (s.drop m):Nat):Int)).2)
 else if zbn s (kidV (zaq w s n) s (zac w t (nmV w t (zbw s m))) [40,44,44] ((m+zaz (s.drop m):Nat):Int)).2 41=true then (.mk 4 (nmV w t (zbw s m)) 0 0 0 (kidV (zaq w s n) s (zac w t (nmV w t (zbw s m))) [40,44,44] ((m+zaz (s.drop m):Nat):Int)).1,(kidV (zaq w s n) s (zac w t (nmV w t (zbw s m))) [40,44,44] ((m+zaz (s.drop m):Nat):Int)).2+1)
 else (zbq,-1)
theorem zpP (h1:¬((nth s m).toNat:Int)=95) (h2:¬(48<=((nth s m).toNat:Int)/\((nth s m).toNat:Int)<=57)) (h3:¬((nth s m).toNat:Int)=40) (h4:¬(97<=((nth s m).toNat:Int)/\((nth s m).toNat:Int)<=122)):
  zaq w s (n+1) t (m:Int)=conP w s n t m:=by
 rw[zaq];rw[if_neg (zkb hm),if_neg (show ¬nth s ((m:Int)).toNat=95 from b_ne (by show ¬((nth s m).toNat:Int)=95;omega)),if_neg (show ¬zbj (nth s ((m:Int)).toNat)=true from ziF h2),if_neg (show ¬nth s ((m:Int)).toNat=40 from b_ne (by show ¬((nth s m).toNat:Int)=40;omega)),
  if_neg (fun h=>zho h4 h.1),if_neg (show ¬zaQ (nth s ((m:Int)).toNat)=true from zho h4)]
 rfl
end
def A3 (w:List Data):Prop:=∀t c,TyIn w.length t->c∈zan w t->(zac w t c).length<=3/\∀u∈zac w t c,TyIn w.length u
theorem zgu {w:List Data}{s:Str} (hw:WT w) (hA3:A3 w) (hs:s.length<=1000000000000 / 2):∀(n:Nat){a k:Int}{b:Int},n<=1000->TyIn w.length ⟨a,k⟩->EndIn s b->
  FnD Tryz.prog 106 [.d (zah w),.agg [.d (.i a),.d (.i k)],.d (.str s),.d (.i b),.d (.i n)] [] (.tup [.agg [.d (.i (zaq w s n ⟨a,k⟩ b).1.op),.d (.i (zaq w s n ⟨a,k⟩ b).1.ctor),.d (.i (zaq w s n ⟨a,k⟩ b).1.n),.d (.i (zaq w s n ⟨a,k⟩ b).1.m),.d (.i (zaq w s n ⟨a,k⟩ b).1.var),.d (zax (zaq w s n ⟨a,k⟩ b).1.kids)],.d (.i (zaq w s n ⟨a,k⟩ b).2)]) []
 |0,a,k,b,_,_,_=>by
  rw[show zaq w s 0 ⟨a,k⟩ b=(zbq,-1) from rfl];refine bd Tryz.f106 172 [] [] fun _ _ _ _ hk=>?_;refine bx 3006 ?_;refine ab 3010 tz60 ?_;refine ev ?_;apply sq<;>intro h1 h1p h1s<;>(try simp only[Q] at h1p);refine sqT ?_;refine sqT ?_;refine bu [] [] st60 ?_;refine so ty60 ?_;refine ev ?_;focus (refine rn0 (rc ty60) (.tup (.cons (.agg (qeeeeen ?_ ?_ ?_ ?_ ?_ ?_)) (qe ?_)));all_goals (first|rfl|(simp[h1s,h1p];done)|(simp_all;done)|(simp_all;omega)|omega))
  focus (exfalso;first|omega|(simp at h1p;done))
 |n+1,a,k,b,hn,ht,hb=>by
  have hsl:s.length<=1000000000000:=by omega
  by_cases hout:b<0\/(s.length:Int)<=b
  ·rw[zs8 hout];obtain⟨hb1,hb2⟩:=hb;refine bd Tryz.f106 172 [] [] fun _ _ _ _ hk=>?_;refine bx 3006 ?_;refine ab 3010 tz60 ?_;refine ev ?_;apply sq<;>intro h1 h1p h1s<;>(try simp only[Q] at h1p);refine sqT ?_;refine sqT ?_;refine bu [] [] st60 ?_;refine so ty60 ?_;refine ev ?_;focus (refine rn0 (rc ty60) (.tup (.cons (.agg (qeeeeen ?_ ?_ ?_ ?_ ?_ ?_)) (qe ?_)));all_goals (first|rfl|(simp[h1s,h1p];done)|(simp_all;done)|(simp_all;omega)|omega))
   apply sq<;>intro h3 h3p h3s<;>(try simp only[Q] at h3p);refine sqT ?_;refine bu [] [] st60 ?_;refine so ty60 ?_;refine ev ?_;focus (refine rn0 (rc ty60) (.tup (.cons (.agg (qeeeeen ?_ ?_ ?_ ?_ ?_ ?_)) (qe ?_)));all_goals (first|rfl|(simp[h1s,h1p,h3s,h3p];done)|(simp_all;done)|(simp_all;omega)|omega))
   apply sq<;>intro h5 h5p h5s<;>(try simp only[Q] at h5p);refine bu [] [] st60 ?_;refine so ty60 ?_;refine ev ?_;focus (refine rn0 (rc ty60) (.tup (.cons (.agg (qeeeeen ?_ ?_ ?_ ?_ ?_ ?_)) (qe ?_)));all_goals (first|rfl|(simp[h1s,h1p,h3s,h3p,h5s,h5p];done)|(simp_all;done)|(simp_all;omega)|omega))
   focus (exfalso;first|omega|(simp at h5p;done))
  obtain⟨m,rfl⟩:=Int.eq_ofNat_of_zero_le (show 0<=b by omega);have hm:m<s.length:=by omega
  have hkid:∀(ts:List Ty) (sg:List UInt8) (a0:Int),ts.length<=sg.length->sg.length<=3->(∀t∈ts,TyIn w.length t)->EndIn s a0->
    FnD Tryz.prog 191 [.d (zah w),.d (zbK ts),.d (zbY sg),.d (.str s),.d (.i a0),.d (.i (((n+1:Nat):Int)-1))] [] (.tup [.d (zax (kidV (zaq w s n) s ts sg a0).1),.d (.i (kidV (zaq w s n) s ts sg a0).2)]) []:=fun ts sg a0 h1 h2 h3' h4=>by
   rw[show(((n+1:Nat):Int)-1)=(n:Int) by omega];exact zlU hs h1 h2 h4 (zfB n) (fun t ht' b hb'=>zgu hw hA3 hs n (a:=t.data) (k:=t.index) od (h3' t ht') hb')
  have hk1:=hkid [⟨a,k⟩,⟨a,k⟩] [40,124] (m:Int) oe oe (by intro t h;simp at h;subst h;exact ht) hb;have hk2:=fun h=>hkid [⟨a,k⟩] [64] ((m:Int)+1) oe oe (by intro t h;simp at h;subst h;exact ht) h;have hk3:=fun(h:¬nmV w ⟨a,k⟩ (zbw s m)<0)=>hkid (zac w ⟨a,k⟩ (nmV w ⟨a,k⟩ (zbw s m))) [40,44,44] ((m+zaz (s.drop m):Nat):Int) (by have:=(hA3 _ _ ht (zfP h)).1;simp;omega) oe (hA3 _ _ ht (zfP h)).2 (zjh (a:=(m:Int)) od od);have he1:EndIn s (kidV (zaq w s n) s [⟨a,k⟩,⟨a,k⟩] [40,124] (m:Int)).2:=zhm (zfB n) hb;have he3:EndIn s (kidV (zaq w s n) s (zac w ⟨a,k⟩ (nmV w ⟨a,k⟩ (zbw s m))) [40,44,44] ((m+zaz (s.drop m):Nat):Int)).2:=zhm (zfB n) (zjh (a:=(m:Int)) od od);have hnl:=zf3 (s.drop m);rw[List.length_drop] at hnl;have q0:=zpO (w:=w) (t:=⟨a,k⟩) (n:=n) hm;have q1:=zmU (w:=w) (t:=⟨a,k⟩) (n:=n) hm;have q2:=zrf (w:=w) (t:=⟨a,k⟩) (n:=n) hm;have q3:=zmV (w:=w) (t:=⟨a,k⟩) (n:=n) hm;have q4:=zpP (w:=w) (t:=⟨a,k⟩) (n:=n) hm;unfold conP at q4;have hag:=fun(h:¬nmV w ⟨a,k⟩ (zbw s m)<0)=>zck hw ht (zfP h);have hnm:=zk3 hw ht (s:=zbw s m);generalize hK1:kidV (zaq w s n) s [⟨a,k⟩,⟨a,k⟩] [40,124] (m:Int)=K1 at *;generalize hK2:kidV (zaq w s n) s [⟨a,k⟩] [64] ((m:Int)+1)=K2 at *;generalize hK3:kidV (zaq w s n) s (zac w ⟨a,k⟩ (nmV w ⟨a,k⟩ (zbw s m))) [40,44,44] ((m+zaz (s.drop m):Nat):Int)=K3 at *;clear hK1 hK2 hK3 hkid;generalize nmV w ⟨a,k⟩ (zbw s m)=cc at *;generalize zac w ⟨a,k⟩ cc=ts at *;generalize zaq w s (n+1) ⟨a,k⟩ (m:Int)=R at *;have q2a:=fun(h:((nth s m).toNat:Int)=40) (hs:zbn s K1.2 41=true)=>(q2 h).trans (if_pos hs);have q2b:=fun(h:((nth s m).toNat:Int)=40) (hs:zbn s K1.2 41=false)=>(q2 h).trans (if_neg (by rw[hs];simp));have q3a:=fun(h:97<=((nth s m).toNat:Int)) (h':((nth s m).toNat:Int)<=122) (hs:zbn s ((m:Int)+1) 64=true)=>(q3 h h').trans (if_pos hs);have q3b:=fun(h:97<=((nth s m).toNat:Int)) (h':((nth s m).toNat:Int)<=122) (hs:zbn s ((m:Int)+1) 64=false)=>(q3 h h').trans (if_neg (by rw[hs];simp));have q4a:=fun a1 a2 a3 a4 (hs:cc<0)=>(q4 a1 a2 a3 a4).trans (if_pos hs);have q4b:=fun a1 a2 a3 a4 (hs:¬cc<0) (h0:ts.length=0)=>((q4 a1 a2 a3 a4).trans (if_neg hs)).trans (if_pos h0);have q4c:=fun a1 a2 a3 a4 (hs:¬cc<0) (h0:¬ts.length=0) (h9:zbn s K3.2 41=true)=>(((q4 a1 a2 a3 a4).trans (if_neg hs)).trans (if_neg h0)).trans (if_pos h9);have q4d:=fun a1 a2 a3 a4 (hs:¬cc<0) (h0:¬ts.length=0) (h9:zbn s K3.2 41=false)=>(((q4 a1 a2 a3 a4).trans (if_neg hs)).trans (if_neg h0)).trans (if_neg (by rw[h9];simp));clear q2 q3 q4;obtain⟨he1a,he1b⟩:=he1;obtain⟨he3a,he3b⟩:=he3;refine bd Tryz.f106 172 [110,123] [] fun _ _ _ _ hk=>?_;refine bx 3006 ?_;refine ab 3010 tz60 ?_;refine evs [110,123] [] ?_;apply sq<;>intro h1 h1p h1s<;>(try simp only[Q,xal,xac] at h1p);refine sqT ?_;refine sqT ?_;focus (exfalso;first|omega|(simp at HP;done))
  apply sq<;>intro h3 h3p h3s<;>(try simp only[Q,xal,xac] at h3p);refine sqT ?_;focus (exfalso;first|omega|(simp at HP;done))
  apply sq<;>intro h5 h5p h5s<;>(try simp only[Q,xal,xac] at h5p);focus (exfalso;first|omega|(simp at h5p;done))
  refine xbD un9 .none I I I I (za9 od) ?_;refine evs [110,123] [] ?_;apply sq<;>intro h6 h6p h6s<;>(try simp only[Q,xal,xac] at h6p);refine bu [0] [_] st60 ?_;refine evs [110,123] [] (ar (so ty60 ?_));refine evs [110,123] [] (rn0 (rc ty60) (.tup (.cons (.agg (qeeeeen ?_ ?_ ?_ ?_ ?_ ?_)) (qe ?_))));rotate_left 7;apply sq<;>intro h7 h7p h7s<;>(try simp only[Q,xal,xac] at h7p);apply sq<;>intro h8 h8p h8s<;>(try simp only[Q,xal,xac] at h8p);refine wc zsm (zlT hsl hm (ziG od od)) I I ?_;refine evs [110,123] [] (so ty60 ?_);refine evs [110,123] [] (rn0 (rc ty60) (.tup (.cons (.agg (qeeeeee ?_ ?_ ?_ ?_ ?_ ?_)) (qe ?_))));rotate_left 7;apply sq<;>intro h9 h9p h9s<;>(try simp only[Q,xal,xac] at h9p);refine si [0,1] [_,_] zaJ tz38 ?_;refine si [0,1] [_,_] sl22 tz5 ?_;refine evs [110,123] [] (ar (wc zcl hk1 I I ?_));refine evs [110,123] [] (wc zbX (zaK (s:=s) (a:=K1.2) (c:=41) hsl) I I ?_);refine evs [110,123] [] ?_;apply sq<;>intro h10 h10p h10s<;>(try simp only[Q,xal,xac] at h10p);refine bu [] [] st60 ?_;refine so ty60 ?_;refine evs [110,123] [] (rn0 (rc ty60) (.tup (.cons (.agg (qeeeeen ?_ ?_ ?_ ?_ ?_ ?_)) (qe ?_))));rotate_left 7;refine bu [0,5] [_,_] st60 ?_;refine evs [110,123] [] (ar (so ty60 ?_));refine evs [110,123] [] (rn0 (rc ty60) (.tup (.cons (.agg (qeeeeee ?_ ?_ ?_ ?_ ?_ ?_)) (qe ?_))));rotate_left 7;apply sq<;>intro h11 h11p h11s<;>(try simp only[Q,xal,xac] at h11p);apply sq<;>intro h12 h12p h12s<;>(try simp only[Q,xal,xac] at h12p);refine ar (Walk.call (cr:=[]) zbX (zaK (s:=s) (a:=(m:Int)+1) (c:=64) hsl) I (.some I I h12) I I (LeL.refl _) O I I I (evs [110,123] [(90,true)] ?_ ⟨⟨_,I,h12⟩,O⟩));apply sq<;>intro h13 h13p h13s<;>(try simp only[Q,xal,xac] at h13p);refine si [0] [_] zaJ tz38 ?_;refine si [0] [_] sl22 tz5 ?_;refine evs [110,123] [] (ar (ar (wc zcl (hk2 ⟨by omega,by omega⟩) I I ?_)));refine evs [110,123] [] (xbW .none I I I (xbu ow un3 .none I I ?_));refine evs [110,123] [] (bu [0,4,5] [_,_,_] st60 ?_);refine evs [110,123] [] (so ty60 ?_);refine evs [110,123] [] (rn0 (rc ty60) (.tup (.cons (.agg (qeeeeee ?_ ?_ ?_ ?_ ?_ ?_)) (qe ?_))));rotate_left 7;apply sq<;>intro h14 h14p h14s<;>(try simp only[Q,xal,xac] at h14p);apply sq<;>intro h15 h15p h15s<;>(try simp only[Q,xal,xac] at h15p);refine xbW .none I I I (xbu ow un3 .none I I ?_);refine bu [0,4] [_,_] st60 ?_;refine evs [110,123] [] (ar (so ty60 ?_));refine evs [110,123] [] (rn0 (rc ty60) (.tup (.cons (.agg (qeeeeen ?_ ?_ ?_ ?_ ?_ ?_)) (qe ?_))));rotate_left 7;refine wc zdp (zbe (s:=s) (n:=m) hsl od) I I ?_;refine evs [110,123] [] (wc zdq hnm I I ?_);refine evs [110,123] [] ?_;apply sq<;>intro h16 h16p h16s<;>(try simp only[Q,xal,xac] at h16p);refine bu [] [] st60 ?_;refine so ty60 ?_;refine evs [110,123] [] (rn0 (rc ty60) (.tup (.cons (.agg (qeeeeen ?_ ?_ ?_ ?_ ?_ ?_)) (qe ?_))));rotate_left 7;refine wc zb7 (hag od) I I ?_;refine evs [110,123] [] (si [0,1,2] [_,_,_] sl22 tz5 ?_);refine evs [110,123] [] (ar (wc zcl (hk3 od) I I ?_));refine evs [110,123] [] (bu [0,1,5] [_,_,_] st60 ?_);refine ab 3023 tz60 ?_;refine so ty60 ?_;apply tv;apply sq<;>intro h17 h17p h17s<;>(try simp only[Q,xal,xac] at h17p);refine so ty60 ?_;refine evs [110,123] [] (rn0 (rc ty60) (.tup (.cons (.agg (qeeeeee ?_ ?_ ?_ ?_ ?_ ?_)) (qe ?_))));rotate_left 7;refine wc zbX (zaK (s:=s) (a:=K3.2) (c:=41) hsl) I I ?_;refine evs [110,123] [] ?_;apply sq<;>intro h18 h18p h18s<;>(try simp only[Q,xal,xac] at h18p);refine bu [] [] st60 ?_;refine so ty60 ?_;refine evs [110,123] [] (rn0 (rc ty60) (.tup (.cons (.agg (qeeeeen ?_ ?_ ?_ ?_ ?_ ?_)) (qe ?_))));rotate_left 7;refine ar (so ty60 ?_);refine evs [110,123] [] (rn0 (rc ty60) (.tup (.cons (.agg (qeeeeee ?_ ?_ ?_ ?_ ?_ ?_)) (qe ?_))));rotate_left 7;refine sqF ?_;refine wc zdp (zbe (s:=s) (n:=m) hsl od) I I ?_;refine evs [110,123] [] (wc zdq hnm I I ?_);refine evs [110,123] [] ?_;apply sq<;>intro h20 h20p h20s<;>(try simp only[Q,xal,xac] at h20p);refine bu [] [] st60 ?_;refine so ty60 ?_;refine evs [110,123] [] (rn0 (rc ty60) (.tup (.cons (.agg (qeeeeen ?_ ?_ ?_ ?_ ?_ ?_)) (qe ?_))));rotate_left 7;refine wc zb7 (hag od) I I ?_;refine evs [110,123] [] (si [0,1,2] [_,_,_] sl22 tz5 ?_);refine evs [110,123] [] (ar (wc zcl (hk3 od) I I ?_));refine evs [110,123] [] (bu [0,1,5] [_,_,_] st60 ?_);refine ab 3023 tz60 ?_;refine so ty60 ?_;apply tv;apply sq<;>intro h21 h21p h21s<;>(try simp only[Q,xal,xac] at h21p);refine so ty60 ?_;refine evs [110,123] [] (rn0 (rc ty60) (.tup (.cons (.agg (qeeeeee ?_ ?_ ?_ ?_ ?_ ?_)) (qe ?_))));rotate_left 7;refine wc zbX (zaK (s:=s) (a:=K3.2) (c:=41) hsl) I I ?_;refine evs [110,123] [] ?_;apply sq<;>intro h22 h22p h22s<;>(try simp only[Q,xal,xac] at h22p);refine bu [] [] st60 ?_;refine so ty60 ?_;refine evs [110,123] [] (rn0 (rc ty60) (.tup (.cons (.agg (qeeeeen ?_ ?_ ?_ ?_ ?_ ?_)) (qe ?_))));rotate_left 7;refine ar (so ty60 ?_);refine evs [110,123] [] (rn0 (rc ty60) (.tup (.cons (.agg (qeeeeee ?_ ?_ ?_ ?_ ?_ ?_)) (qe ?_))));rotate_left 7;refine sqF ?_;apply sq<;>intro h24 h24p h24s<;>(try simp only[Q,xal,xac] at h24p);apply sq<;>intro h25 h25p h25s<;>(try simp only[Q,xal,xac] at h25p);refine xbW .none I I I (xbu ow un3 .none I I ?_);refine bu [0,4] [_,_] st60 ?_;refine evs [110,123] [] (ar (so ty60 ?_));refine evs [110,123] [] (rn0 (rc ty60) (.tup (.cons (.agg (qeeeeen ?_ ?_ ?_ ?_ ?_ ?_)) (qe ?_))));rotate_left 7;refine wc zdp (zbe (s:=s) (n:=m) hsl od) I I ?_;refine evs [110,123] [] (wc zdq hnm I I ?_);refine evs [110,123] [] ?_;apply sq<;>intro h26 h26p h26s<;>(try simp only[Q,xal,xac] at h26p);refine bu [] [] st60 ?_;refine so ty60 ?_;refine evs [110,123] [] (rn0 (rc ty60) (.tup (.cons (.agg (qeeeeen ?_ ?_ ?_ ?_ ?_ ?_)) (qe ?_))));rotate_left 7;refine wc zb7 (hag od) I I ?_;refine evs [110,123] [] (si [0,1,2] [_,_,_] sl22 tz5 ?_);refine evs [110,123] [] (ar (wc zcl (hk3 od) I I ?_));refine evs [110,123] [] (bu [0,1,5] [_,_,_] st60 ?_);refine ab 3023 tz60 ?_;refine so ty60 ?_;apply tv;apply sq<;>intro h27 h27p h27s<;>(try simp only[Q,xal,xac] at h27p);refine so ty60 ?_;refine evs [110,123] [] (rn0 (rc ty60) (.tup (.cons (.agg (qeeeeee ?_ ?_ ?_ ?_ ?_ ?_)) (qe ?_))));rotate_left 7;refine wc zbX (zaK (s:=s) (a:=K3.2) (c:=41) hsl) I I ?_;refine evs [110,123] [] ?_;apply sq<;>intro h28 h28p h28s<;>(try simp only[Q,xal,xac] at h28p);refine bu [] [] st60 ?_;refine so ty60 ?_;refine evs [110,123] [] (rn0 (rc ty60) (.tup (.cons (.agg (qeeeeen ?_ ?_ ?_ ?_ ?_ ?_)) (qe ?_))));rotate_left 7;refine ar (so ty60 ?_);refine evs [110,123] [] (rn0 (rc ty60) (.tup (.cons (.agg (qeeeeee ?_ ?_ ?_ ?_ ?_ ?_)) (qe ?_))));rotate_left 7;refine sqF ?_;refine wc zdp (zbe (s:=s) (n:=m) hsl od) I I ?_;refine evs [110,123] [] (wc zdq hnm I I ?_);refine evs [110,123] [] ?_;apply sq<;>intro h30 h30p h30s<;>(try simp only[Q,xal,xac] at h30p);refine bu [] [] st60 ?_;refine so ty60 ?_;refine evs [110,123] [] (rn0 (rc ty60) (.tup (.cons (.agg (qeeeeen ?_ ?_ ?_ ?_ ?_ ?_)) (qe ?_))));rotate_left 7;refine wc zb7 (hag od) I I ?_;refine evs [110,123] [] (si [0,1,2] [_,_,_] sl22 tz5 ?_);refine evs [110,123] [] (ar (wc zcl (hk3 od) I I ?_));refine evs [110,123] [] (bu [0,1,5] [_,_,_] st60 ?_);refine ab 3023 tz60 ?_;refine so ty60 ?_;apply tv;apply sq<;>intro h31 h31p h31s<;>(try simp only[Q,xal,xac] at h31p);refine so ty60 ?_;refine evs [110,123] [] (rn0 (rc ty60) (.tup (.cons (.agg (qeeeeee ?_ ?_ ?_ ?_ ?_ ?_)) (qe ?_))));rotate_left 7;refine wc zbX (zaK (s:=s) (a:=K3.2) (c:=41) hsl) I I ?_;refine evs [110,123] [] ?_;apply sq<;>intro h32 h32p h32s<;>(try simp only[Q,xal,xac] at h32p);refine bu [] [] st60 ?_;refine so ty60 ?_;refine evs [110,123] [] (rn0 (rc ty60) (.tup (.cons (.agg (qeeeeen ?_ ?_ ?_ ?_ ?_ ?_)) (qe ?_))));rotate_left 7;refine ar (so ty60 ?_);refine evs [110,123] [] (rn0 (rc ty60) (.tup (.cons (.agg (qeeeeee ?_ ?_ ?_ ?_ ?_ ?_)) (qe ?_))));rotate_left 7;refine sqF ?_;refine sqF ?_;apply sq<;>intro h34 h34p h34s<;>(try simp only[Q,xal,xac] at h34p);apply sq<;>intro h35 h35p h35s<;>(try simp only[Q,xal,xac] at h35p);refine xbW .none I I I (xbu ow un3 .none I I ?_);refine bu [0,4] [_,_] st60 ?_;refine evs [110,123] [] (ar (so ty60 ?_));refine evs [110,123] [] (rn0 (rc ty60) (.tup (.cons (.agg (qeeeeen ?_ ?_ ?_ ?_ ?_ ?_)) (qe ?_))));rotate_left 7;refine wc zdp (zbe (s:=s) (n:=m) hsl od) I I ?_;refine evs [110,123] [] (wc zdq hnm I I ?_);refine evs [110,123] [] ?_;apply sq<;>intro h36 h36p h36s<;>(try simp only[Q,xal,xac] at h36p);refine bu [] [] st60 ?_;refine so ty60 ?_;refine evs [110,123] [] (rn0 (rc ty60) (.tup (.cons (.agg (qeeeeen ?_ ?_ ?_ ?_ ?_ ?_)) (qe ?_))));rotate_left 7;refine wc zb7 (hag od) I I ?_;refine evs [110,123] [] (si [0,1,2] [_,_,_] sl22 tz5 ?_);refine evs [110,123] [] (ar (wc zcl (hk3 od) I I ?_));refine evs [110,123] [] (bu [0,1,5] [_,_,_] st60 ?_);refine ab 3023 tz60 ?_;refine so ty60 ?_;apply tv;apply sq<;>intro h37 h37p h37s<;>(try simp only[Q,xal,xac] at h37p);refine so ty60 ?_;refine evs [110,123] [] (rn0 (rc ty60) (.tup (.cons (.agg (qeeeeee ?_ ?_ ?_ ?_ ?_ ?_)) (qe ?_))));rotate_left 7;refine wc zbX (zaK (s:=s) (a:=K3.2) (c:=41) hsl) I I ?_;refine evs [110,123] [] ?_;apply sq<;>intro h38 h38p h38s<;>(try simp only[Q,xal,xac] at h38p);refine bu [] [] st60 ?_;refine so ty60 ?_;refine evs [110,123] [] (rn0 (rc ty60) (.tup (.cons (.agg (qeeeeen ?_ ?_ ?_ ?_ ?_ ?_)) (qe ?_))));rotate_left 7;refine ar (so ty60 ?_);refine evs [110,123] [] (rn0 (rc ty60) (.tup (.cons (.agg (qeeeeee ?_ ?_ ?_ ?_ ?_ ?_)) (qe ?_))));rotate_left 7;refine sqF ?_;refine wc zdp (zbe (s:=s) (n:=m) hsl od) I I ?_;refine evs [110,123] [] (wc zdq hnm I I ?_);refine evs [110,123] [] ?_;apply sq<;>intro h40 h40p h40s<;>(try simp only[Q,xal,xac] at h40p);refine bu [] [] st60 ?_;refine so ty60 ?_;refine evs [110,123] [] (rn0 (rc ty60) (.tup (.cons (.agg (qeeeeen ?_ ?_ ?_ ?_ ?_ ?_)) (qe ?_))));rotate_left 7;refine wc zb7 (hag od) I I ?_;refine evs [110,123] [] (si [0,1,2] [_,_,_] sl22 tz5 ?_);refine evs [110,123] [] (ar (wc zcl (hk3 od) I I ?_));refine evs [110,123] [] (bu [0,1,5] [_,_,_] st60 ?_);refine ab 3023 tz60 ?_;refine so ty60 ?_;apply tv;apply sq<;>intro h41 h41p h41s<;>(try simp only[Q,xal,xac] at h41p);refine so ty60 ?_;refine evs [110,123] [] (rn0 (rc ty60) (.tup (.cons (.agg (qeeeeee ?_ ?_ ?_ ?_ ?_ ?_)) (qe ?_))));rotate_left 7;refine wc zbX (zaK (s:=s) (a:=K3.2) (c:=41) hsl) I I ?_;refine evs [110,123] [] ?_;apply sq<;>intro h42 h42p h42s<;>(try simp only[Q,xal,xac] at h42p);refine bu [] [] st60 ?_;refine so ty60 ?_;refine evs [110,123] [] (rn0 (rc ty60) (.tup (.cons (.agg (qeeeeen ?_ ?_ ?_ ?_ ?_ ?_)) (qe ?_))));rotate_left 7;refine ar (so ty60 ?_);refine evs [110,123] [] (rn0 (rc ty60) (.tup (.cons (.agg (qeeeeee ?_ ?_ ?_ ?_ ?_ ?_)) (qe ?_))));rotate_left 7;refine sqF ?_;apply sq<;>intro h44 h44p h44s<;>(try simp only[Q,xal,xac] at h44p);refine si [0,1] [_,_] zaJ tz38 ?_;refine si [0,1] [_,_] sl22 tz5 ?_;refine evs [110,123] [] (ar (wc zcl hk1 I I ?_));refine evs [110,123] [] (wc zbX (zaK (s:=s) (a:=K1.2) (c:=41) hsl) I I ?_);refine evs [110,123] [] ?_;apply sq<;>intro h45 h45p h45s<;>(try simp only[Q,xal,xac] at h45p);refine bu [] [] st60 ?_;refine so ty60 ?_;refine evs [110,123] [] (rn0 (rc ty60) (.tup (.cons (.agg (qeeeeen ?_ ?_ ?_ ?_ ?_ ?_)) (qe ?_))));rotate_left 7;refine bu [0,5] [_,_] st60 ?_;refine evs [110,123] [] (ar (so ty60 ?_));refine evs [110,123] [] (rn0 (rc ty60) (.tup (.cons (.agg (qeeeeee ?_ ?_ ?_ ?_ ?_ ?_)) (qe ?_))));rotate_left 7;apply sq<;>intro h46 h46p h46s<;>(try simp only[Q,xal,xac] at h46p);apply sq<;>intro h47 h47p h47s<;>(try simp only[Q,xal,xac] at h47p);refine ar (Walk.call (cr:=[]) zbX (zaK (s:=s) (a:=(m:Int)+1) (c:=64) hsl) I (.some I I h47) I I (LeL.refl _) O I I I (evs [110,123] [(90,true)] ?_ ⟨⟨_,I,h47⟩,O⟩));apply sq<;>intro h48 h48p h48s<;>(try simp only[Q,xal,xac] at h48p);refine si [0] [_] zaJ tz38 ?_;refine si [0] [_] sl22 tz5 ?_;refine evs [110,123] [] (ar (ar (wc zcl (hk2 ⟨by omega,by omega⟩) I I ?_)));refine evs [110,123] [] (xbW .none I I I (xbu ow un3 .none I I ?_));refine evs [110,123] [] (bu [0,4,5] [_,_,_] st60 ?_);refine evs [110,123] [] (so ty60 ?_);refine evs [110,123] [] (rn0 (rc ty60) (.tup (.cons (.agg (qeeeeee ?_ ?_ ?_ ?_ ?_ ?_)) (qe ?_))));rotate_left 7;apply sq<;>intro h49 h49p h49s<;>(try simp only[Q,xal,xac] at h49p);apply sq<;>intro h50 h50p h50s<;>(try simp only[Q,xal,xac] at h50p);refine xbW .none I I I (xbu ow un3 .none I I ?_);refine bu [0,4] [_,_] st60 ?_;refine evs [110,123] [] (ar (so ty60 ?_));refine evs [110,123] [] (rn0 (rc ty60) (.tup (.cons (.agg (qeeeeen ?_ ?_ ?_ ?_ ?_ ?_)) (qe ?_))));rotate_left 7;refine wc zdp (zbe (s:=s) (n:=m) hsl od) I I ?_;refine evs [110,123] [] (wc zdq hnm I I ?_);refine evs [110,123] [] ?_;apply sq<;>intro h51 h51p h51s<;>(try simp only[Q,xal,xac] at h51p);refine bu [] [] st60 ?_;refine so ty60 ?_;refine evs [110,123] [] (rn0 (rc ty60) (.tup (.cons (.agg (qeeeeen ?_ ?_ ?_ ?_ ?_ ?_)) (qe ?_))));rotate_left 7;refine wc zb7 (hag od) I I ?_;refine evs [110,123] [] (si [0,1,2] [_,_,_] sl22 tz5 ?_);refine evs [110,123] [] (ar (wc zcl (hk3 od) I I ?_));refine evs [110,123] [] (bu [0,1,5] [_,_,_] st60 ?_);refine ab 3023 tz60 ?_;refine so ty60 ?_;apply tv;apply sq<;>intro h52 h52p h52s<;>(try simp only[Q,xal,xac] at h52p);refine so ty60 ?_;refine evs [110,123] [] (rn0 (rc ty60) (.tup (.cons (.agg (qeeeeee ?_ ?_ ?_ ?_ ?_ ?_)) (qe ?_))));rotate_left 7;refine wc zbX (zaK (s:=s) (a:=K3.2) (c:=41) hsl) I I ?_;refine evs [110,123] [] ?_;apply sq<;>intro h53 h53p h53s<;>(try simp only[Q,xal,xac] at h53p);refine bu [] [] st60 ?_;refine so ty60 ?_;refine evs [110,123] [] (rn0 (rc ty60) (.tup (.cons (.agg (qeeeeen ?_ ?_ ?_ ?_ ?_ ?_)) (qe ?_))));rotate_left 7;refine ar (so ty60 ?_);refine evs [110,123] [] (rn0 (rc ty60) (.tup (.cons (.agg (qeeeeee ?_ ?_ ?_ ?_ ?_ ?_)) (qe ?_))));rotate_left 7;refine sqF ?_;refine wc zdp (zbe (s:=s) (n:=m) hsl od) I I ?_;refine evs [110,123] [] (wc zdq hnm I I ?_);refine evs [110,123] [] ?_;apply sq<;>intro h55 h55p h55s<;>(try simp only[Q,xal,xac] at h55p);refine bu [] [] st60 ?_;refine so ty60 ?_;refine evs [110,123] [] (rn0 (rc ty60) (.tup (.cons (.agg (qeeeeen ?_ ?_ ?_ ?_ ?_ ?_)) (qe ?_))));rotate_left 7;refine wc zb7 (hag od) I I ?_;refine evs [110,123] [] (si [0,1,2] [_,_,_] sl22 tz5 ?_);refine evs [110,123] [] (ar (wc zcl (hk3 od) I I ?_));refine evs [110,123] [] (bu [0,1,5] [_,_,_] st60 ?_);refine ab 3023 tz60 ?_;refine so ty60 ?_;apply tv;apply sq<;>intro h56 h56p h56s<;>(try simp only[Q,xal,xac] at h56p);refine so ty60 ?_;refine evs [110,123] [] (rn0 (rc ty60) (.tup (.cons (.agg (qeeeeee ?_ ?_ ?_ ?_ ?_ ?_)) (qe ?_))));rotate_left 7;refine wc zbX (zaK (s:=s) (a:=K3.2) (c:=41) hsl) I I ?_;refine evs [110,123] [] ?_;apply sq<;>intro h57 h57p h57s<;>(try simp only[Q,xal,xac] at h57p);refine bu [] [] st60 ?_;refine so ty60 ?_;refine evs [110,123] [] (rn0 (rc ty60) (.tup (.cons (.agg (qeeeeen ?_ ?_ ?_ ?_ ?_ ?_)) (qe ?_))));rotate_left 7;refine ar (so ty60 ?_);refine evs [110,123] [] (rn0 (rc ty60) (.tup (.cons (.agg (qeeeeee ?_ ?_ ?_ ?_ ?_ ?_)) (qe ?_))));rotate_left 7;refine sqF ?_;apply sq<;>intro h59 h59p h59s<;>(try simp only[Q,xal,xac] at h59p);apply sq<;>intro h60 h60p h60s<;>(try simp only[Q,xal,xac] at h60p);refine xbW .none I I I (xbu ow un3 .none I I ?_);refine bu [0,4] [_,_] st60 ?_;refine evs [110,123] [] (ar (so ty60 ?_));refine evs [110,123] [] (rn0 (rc ty60) (.tup (.cons (.agg (qeeeeen ?_ ?_ ?_ ?_ ?_ ?_)) (qe ?_))));rotate_left 7;refine wc zdp (zbe (s:=s) (n:=m) hsl od) I I ?_;refine evs [110,123] [] (wc zdq hnm I I ?_);refine evs [110,123] [] ?_;apply sq<;>intro h61 h61p h61s<;>(try simp only[Q,xal,xac] at h61p);refine bu [] [] st60 ?_;refine so ty60 ?_;refine evs [110,123] [] (rn0 (rc ty60) (.tup (.cons (.agg (qeeeeen ?_ ?_ ?_ ?_ ?_ ?_)) (qe ?_))));rotate_left 7;refine wc zb7 (hag od) I I ?_;refine evs [110,123] [] (si [0,1,2] [_,_,_] sl22 tz5 ?_);refine evs [110,123] [] (ar (wc zcl (hk3 od) I I ?_));refine evs [110,123] [] (bu [0,1,5] [_,_,_] st60 ?_);refine ab 3023 tz60 ?_;refine so ty60 ?_;apply tv;apply sq<;>intro h62 h62p h62s<;>(try simp only[Q,xal,xac] at h62p);refine so ty60 ?_;refine evs [110,123] [] (rn0 (rc ty60) (.tup (.cons (.agg (qeeeeee ?_ ?_ ?_ ?_ ?_ ?_)) (qe ?_))));rotate_left 7;refine wc zbX (zaK (s:=s) (a:=K3.2) (c:=41) hsl) I I ?_;refine evs [110,123] [] ?_;apply sq<;>intro h63 h63p h63s<;>(try simp only[Q,xal,xac] at h63p);refine bu [] [] st60 ?_;refine so ty60 ?_;refine evs [110,123] [] (rn0 (rc ty60) (.tup (.cons (.agg (qeeeeen ?_ ?_ ?_ ?_ ?_ ?_)) (qe ?_))));rotate_left 7;refine ar (so ty60 ?_);refine evs [110,123] [] (rn0 (rc ty60) (.tup (.cons (.agg (qeeeeee ?_ ?_ ?_ ?_ ?_ ?_)) (qe ?_))));rotate_left 7;refine sqF ?_;refine wc zdp (zbe (s:=s) (n:=m) hsl od) I I ?_;refine evs [110,123] [] (wc zdq hnm I I ?_);refine evs [110,123] [] ?_;apply sq<;>intro h65 h65p h65s<;>(try simp only[Q,xal,xac] at h65p);refine bu [] [] st60 ?_;refine so ty60 ?_;refine evs [110,123] [] (rn0 (rc ty60) (.tup (.cons (.agg (qeeeeen ?_ ?_ ?_ ?_ ?_ ?_)) (qe ?_))));rotate_left 7;refine wc zb7 (hag od) I I ?_;refine evs [110,123] [] (si [0,1,2] [_,_,_] sl22 tz5 ?_);refine evs [110,123] [] (ar (wc zcl (hk3 od) I I ?_));refine evs [110,123] [] (bu [0,1,5] [_,_,_] st60 ?_);refine ab 3023 tz60 ?_;refine so ty60 ?_;apply tv;apply sq<;>intro h66 h66p h66s<;>(try simp only[Q,xal,xac] at h66p);refine so ty60 ?_;refine evs [110,123] [] (rn0 (rc ty60) (.tup (.cons (.agg (qeeeeee ?_ ?_ ?_ ?_ ?_ ?_)) (qe ?_))));rotate_left 7;refine wc zbX (zaK (s:=s) (a:=K3.2) (c:=41) hsl) I I ?_;refine evs [110,123] [] ?_;apply sq<;>intro h67 h67p h67s<;>(try simp only[Q,xal,xac] at h67p);refine bu [] [] st60 ?_;refine so ty60 ?_;refine evs [110,123] [] (rn0 (rc ty60) (.tup (.cons (.agg (qeeeeen ?_ ?_ ?_ ?_ ?_ ?_)) (qe ?_))));rotate_left 7;refine ar (so ty60 ?_);refine evs [110,123] [] (rn0 (rc ty60) (.tup (.cons (.agg (qeeeeee ?_ ?_ ?_ ?_ ?_ ?_)) (qe ?_))));rotate_left 7;refine sqF ?_;refine sqF ?_;apply sq<;>intro h69 h69p h69s<;>(try simp only[Q,xal,xac] at h69p);apply sq<;>intro h70 h70p h70s<;>(try simp only[Q,xal,xac] at h70p);refine xbW .none I I I (xbu ow un3 .none I I ?_);refine bu [0,4] [_,_] st60 ?_;refine evs [110,123] [] (ar (so ty60 ?_));refine evs [110,123] [] (rn0 (rc ty60) (.tup (.cons (.agg (qeeeeen ?_ ?_ ?_ ?_ ?_ ?_)) (qe ?_))));rotate_left 7;refine wc zdp (zbe (s:=s) (n:=m) hsl od) I I ?_;refine evs [110,123] [] (wc zdq hnm I I ?_);refine evs [110,123] [] ?_;apply sq<;>intro h71 h71p h71s<;>(try simp only[Q,xal,xac] at h71p);refine bu [] [] st60 ?_;refine so ty60 ?_;refine evs [110,123] [] (rn0 (rc ty60) (.tup (.cons (.agg (qeeeeen ?_ ?_ ?_ ?_ ?_ ?_)) (qe ?_))));rotate_left 7;refine wc zb7 (hag od) I I ?_;refine evs [110,123] [] (si [0,1,2] [_,_,_] sl22 tz5 ?_);refine evs [110,123] [] (ar (wc zcl (hk3 od) I I ?_));refine evs [110,123] [] (bu [0,1,5] [_,_,_] st60 ?_);refine ab 3023 tz60 ?_;refine so ty60 ?_;apply tv;apply sq<;>intro h72 h72p h72s<;>(try simp only[Q,xal,xac] at h72p);refine so ty60 ?_;refine evs [110,123] [] (rn0 (rc ty60) (.tup (.cons (.agg (qeeeeee ?_ ?_ ?_ ?_ ?_ ?_)) (qe ?_))));rotate_left 7;refine wc zbX (zaK (s:=s) (a:=K3.2) (c:=41) hsl) I I ?_;refine evs [110,123] [] ?_;apply sq<;>intro h73 h73p h73s<;>(try simp only[Q,xal,xac] at h73p);refine bu [] [] st60 ?_;refine so ty60 ?_;refine evs [110,123] [] (rn0 (rc ty60) (.tup (.cons (.agg (qeeeeen ?_ ?_ ?_ ?_ ?_ ?_)) (qe ?_))));rotate_left 7;refine ar (so ty60 ?_);refine evs [110,123] [] (rn0 (rc ty60) (.tup (.cons (.agg (qeeeeee ?_ ?_ ?_ ?_ ?_ ?_)) (qe ?_))));rotate_left 7;refine sqF ?_;refine wc zdp (zbe (s:=s) (n:=m) hsl od) I I ?_;refine evs [110,123] [] (wc zdq hnm I I ?_);refine evs [110,123] [] ?_;apply sq<;>intro h75 h75p h75s<;>(try simp only[Q,xal,xac] at h75p);refine bu [] [] st60 ?_;refine so ty60 ?_;refine evs [110,123] [] (rn0 (rc ty60) (.tup (.cons (.agg (qeeeeen ?_ ?_ ?_ ?_ ?_ ?_)) (qe ?_))));rotate_left 7;refine wc zb7 (hag od) I I ?_;refine evs [110,123] [] (si [0,1,2] [_,_,_] sl22 tz5 ?_);refine evs [110,123] [] (ar (wc zcl (hk3 od) I I ?_));refine evs [110,123] [] (bu [0,1,5] [_,_,_] st60 ?_);refine ab 3023 tz60 ?_;refine so ty60 ?_;apply tv;apply sq<;>intro h76 h76p h76s<;>(try simp only[Q,xal,xac] at h76p);refine so ty60 ?_;refine evs [110,123] [] (rn0 (rc ty60) (.tup (.cons (.agg (qeeeeee ?_ ?_ ?_ ?_ ?_ ?_)) (qe ?_))));rotate_left 7;refine wc zbX (zaK (s:=s) (a:=K3.2) (c:=41) hsl) I I ?_;refine evs [110,123] [] ?_;apply sq<;>intro h77 h77p h77s<;>(try simp only[Q,xal,xac] at h77p);refine bu [] [] st60 ?_;refine so ty60 ?_;refine evs [110,123] [] (rn0 (rc ty60) (.tup (.cons (.agg (qeeeeen ?_ ?_ ?_ ?_ ?_ ?_)) (qe ?_))));rotate_left 7;refine ar (so ty60 ?_);refine evs [110,123] [] (rn0 (rc ty60) (.tup (.cons (.agg (qeeeeee ?_ ?_ ?_ ?_ ?_ ?_)) (qe ?_))));rotate_left 7;all_goals (first|(rw[q0 od];all_goals rfl)|(rw[q1 od od];done)|(rw[q1 od od];all_goals rfl)|(rw[q2a od ol];all_goals rfl)|(rw[q2b od ol];all_goals rfl)|(rw[q3a od od ol];all_goals first|(rw[zeY od od];all_goals rfl)|rfl)|(rw[q3b od od ol];all_goals first|(rw[zeY od od];all_goals rfl)|rfl)|(rw[q4a od od od od od];all_goals rfl)|(rw[q4b od od od od od od];all_goals rfl)|(rw[q4c od od od od od od ol];all_goals rfl)|(rw[q4d od od od od od od ol];all_goals rfl)|(exfalso;omega))
def letV (n:Int):Str:=strN [IntKind.u8.wrap (97+IntKind.u8.wrap n)]
theorem zhn (n:Int):(letV n).length=1:=rfl
def zbl {α:Type} (f:Ty->α->Str):Bool->List Ty->List α->Str
 |b,t::ts,p::ps=>((if b=true then [40] else [44])++f t p)++zbl f false ts ps
 |_,_,_=>[]
theorem zkt {α:Type} [Inhabited α]{f:Ty->α->Str}:∀(i:Nat){b:Bool}{ts:List Ty}{ks:List α},i<ts.length->i<ks.length->
  zbl f b (ts.take (i+1)) (ks.take (i+1))=zbl f b (ts.take i) (ks.take i)++((if b=true/\i=0 then [40] else [44])++f (nth ts i) (nth ks i))
 |_,_,[],_,h,_=>by simp at h
 |_,_,_::_,[],_,h=>by simp at h
 |0,b,t::ts,k::ks,_,_=>by
  simp only[List.take_succ_cons,List.take_zero,zbl,xaq,List.nil_append,and_true];rfl
 |i+1,b,t::ts,k::ks,h1,h2=>by
  have ih:=zkt (f:=f) i (b:=false) (ts:=ts) (ks:=ks) (by simpa using h1) (by simpa using h2);rw[if_neg (fun h=>absurd h.1 oe)] at ih;have e:(if b=true/\i+1=0 then ([40]:Str) else [44])=[44]:=if_neg od;rw[List.take_succ_cons,List.take_succ_cons,zbl,ih,List.take_succ_cons,List.take_succ_cons,zbl,e,xar ((if b=true then [40] else [44])++f t k)];rfl
theorem zlC:∀(l:List Pat) (i:Nat),Pats.size (l.take i)<=Pats.size l
 | [],i=>by simp
 |x::r,0=>by simp[Pats.size]
 |x::r,i+1=>by
  have:=zlC r i;rw[List.take_succ_cons,Pats.size,Pats.size];omega
theorem ziw {f:Ty->Pat->Str}:∀(b:Bool) (ts:List Ty) (ks:List Pat),(∀i,i<ts.length->i<ks.length->(f (nth ts i) (nth ks i)).length<=10*(nth ks i).size)->(zbl f b ts ks).length<=ks.length+10*Pats.size ks
 |_,[],ks,_=>by simp[zbl]
 |_,_::_,[],_=>by simp[zbl]
 |b,t::ts,k::ks,h=>by
  have ih:=ziw false ts ks (fun i h1 h2=>h (i+1) (by simpa using h1) (by simpa using h2));have h0:=h 0 oe oe;have h0':(f t k).length<=10*k.size:=h0;have h3:(if b=true then [(40:UInt8)] else [44]).length=1:=by split<;>rfl
  rw[zbl,xaa,xaa,Pats.size,h3];simp only[xab];omega
def zar (w:List Data):Nat->Ty->Pat->Str
 |0,_,_=>[]
 |n+1,t,p=>
  if p.op=1 then [95]
  else if p.op=2 then letV p.var
  else if p.op=3 then (if p.n=p.m then decV p.n else decV p.n++[45]++decV p.m)
  else if p.op=5 then [40]++zar w n t (nth p.kids 0)++[124]++zar w n t (nth p.kids 1)++[41]
  else if p.op=6 then letV p.var++[64]++zar w n t (nth p.kids 0)
  else (za0 w t p.ctor++zbl (zar w n) true (zac w t p.ctor) p.kids)++(if 0<(zac w t p.ctor).length then [41] else [])
theorem zf4 {w:List Data} (hw:WT w) (hb:TB w){a k c:Int} (ht:TyIn w.length ⟨a,k⟩) (hc:c∈zan w ⟨a,k⟩):(za0 w ⟨a,k⟩ c).length<=5/\(zac w ⟨a,k⟩ c).length<=3:=by
 obtain⟨d,rfl,hd,j,rfl,hj⟩:=za7 ht hc;have:=hb.cn (nth w d) (zao hd) (nth (nth w d).ctors j) (zao hj);refine⟨this.1, ?_⟩;unfold zac;simp only[xac];exact this.2.1
theorem zmN {w:List Data}{t:Ty}{p:Pat} (h:ownP w t p=true):(p.op=1\/p.op=2\/p.op=3\/p.op=5\/p.op=6\/p.op=4)/\((p.op=2\/p.op=6)->0<=p.var/\p.var<=5)/\(p.op=3->0<=p.n/\p.n<=p.m/\p.m<=9)/\(p.op=4->p.ctor∈zan w t):=by
 unfold ownP at h;have h':=xas h;refine⟨?_,h'.1,fun h3=>?_,fun h4=>?_⟩
 ·rcases h'.2.2.2.2 with h|h|h|h|h|h<;>omega
 ·rcases h'.2.2.2.2 with h|h|h|h|h|h<;>omega
 ·rcases h'.2.2.2.2 with h|h|h|h|h|h
  all_goals first|exact h.2|omega
theorem ze2 {w:List Data}{t:Ty}{p:Pat} (h:p.op=4):zab w t p=zac w t p.ctor:=by unfold zab;rw[if_pos h]
theorem zdu {w:List Data}{t:Ty}{p:Pat} (h:p.op=5):zab w t p=[t,t]:=by unfold zab;rw[if_neg od,if_pos h]
theorem zer {w:List Data}{t:Ty}{p:Pat} (h:p.op=6):zab w t p=[t]:=by unfold zab;rw[if_neg od,if_neg od,if_pos h]
theorem zib {l:List Pat}{i:Nat} (h:i<l.length):(nth l i).size<=Pats.size l:=xaY (zao h)
theorem zeq {w:List Data} (hw:WT w) (hb:TB w):∀(n:Nat){a k:Int}{p:Pat},zat w n ⟨a,k⟩ p=true->TyIn w.length ⟨a,k⟩->(zar w n ⟨a,k⟩ p).length<=10*p.size
 |0,a,k,p,h,_=>by simp[zat] at h
 |n+1,a,k,p,h,ht=>by
  obtain⟨ho,hl⟩:=zcr h;have hin:=zdg hw ht ho;obtain⟨o1,o2,o3,o4⟩:=zmN ho;have hk:∀i,i<p.kids.length->(zar w n (nth (zab w ⟨a,k⟩ p) i) (nth p.kids i)).length<=10*(nth p.kids i).size:=fun i hi=>
   zeq hw hb n (a:=(nth (zab w ⟨a,k⟩ p) i).data) (k:=(nth (zab w ⟨a,k⟩ p) i).index) (zbx h hi) (hin _ (zao od))
  rw[xaV];unfold zar;split
  ·simp;omega
  split
  ·rw[zhn];omega
  split
  ·split
   ·rw[zdj];omega
   ·simp only[xaa,zdj,xab,xak];omega
  split
  ·rename_i h5;rw[zdu h5] at hl hk;have hl2:p.kids.length=2:=hl;have k0:=hk 0 od;have k1:=hk 1 od;have k0':(zar w n ⟨a,k⟩ (nth p.kids 0)).length<=10*(nth p.kids 0).size:=k0;have k1':(zar w n ⟨a,k⟩ (nth p.kids 1)).length<=10*(nth p.kids 1).size:=k1;have hs:(nth p.kids 0).size+(nth p.kids 1).size=Pats.size p.kids:=by
    generalize p.kids=l at *;rcases l with _|⟨x,_|⟨y,_|⟨z,r⟩⟩⟩
    ·simp at hl2
    ·simp at hl2
    ·simp[Pats.size,nth]
    ·simp at hl2
   simp only[xaa,xab,xak];omega
  split
  ·rename_i h6;rw[zer h6] at hl hk;have hl2:p.kids.length=1:=hl;have k0':(zar w n ⟨a,k⟩ (nth p.kids 0)).length<=10*(nth p.kids 0).size:=hk 0 od;have:=zib (l:=p.kids) (i:=0) od;simp only[xaa,zhn,xab,xak];omega
  ·have h4:p.op=4:=by omega
   rw[ze2 h4] at hl hk;have:=zf4 hw hb ht (o4 h4);have h1:=ziw (f:=zar w n) true (zac w ⟨a,k⟩ p.ctor) p.kids (fun i h1 h2=>hk i h2);have h3:(if 0<(zac w ⟨a,k⟩ p.ctor).length then [(41:UInt8)] else []).length<=1:=by split<;>simp
   simp only[xaa];omega
theorem zgf {n:Int}:FnD Tryz.prog 158 [.d (.i n)] [] (.d (.str (letV n))) []:=by
 refine bd Tryz.f158 8 [5] [] fun _ _ _ _ hk=>?_;refine xbu (by rw[un3];rfl) un5 .none I I ?_;refine Walk.addW .none I I I (si [0] [_] sl22 tz5 ?_);refine xbn sl22 un9 oj .none I I I (by first|rfl|exact zgo _) ?_;refine evs [5] [] ?_;focus (refine rq ?_;all_goals (rfl))
section
variable {w:List Data}{n:Nat}{t:Ty}{p:Pat}
theorem tx1 (h:p.op=1):zar w (n+1) t p=[95]:=by unfold zar;rw[if_pos h]
theorem tx2 (h:p.op=2):zar w (n+1) t p=letV p.var:=by unfold zar;rw[if_neg od,if_pos h]
theorem tx3a (h:p.op=3) (h2:p.n=p.m):zar w (n+1) t p=decV p.n:=by unfold zar;rw[if_neg od,if_neg od,if_pos h,if_pos h2]
theorem tx3b (h:p.op=3) (h2:¬p.n=p.m):zar w (n+1) t p=decV p.n++[45]++decV p.m:=by unfold zar;rw[if_neg od,if_neg od,if_pos h,if_neg h2]
theorem tx5 (h:p.op=5):zar w (n+1) t p=[40]++zar w n t (nth p.kids 0)++[124]++zar w n t (nth p.kids 1)++[41]:=by rw[zar];rw[if_neg od,if_neg od,if_neg od,if_pos h]
theorem tx6 (h:p.op=6):zar w (n+1) t p=letV p.var++[64]++zar w n t (nth p.kids 0):=by rw[zar];rw[if_neg od,if_neg od,if_neg od,if_neg od,if_pos h]
theorem tx4 (h:p.op=4):zar w (n+1) t p=(za0 w t p.ctor++zbl (zar w n) true (zac w t p.ctor) p.kids)++(if 0<(zac w t p.ctor).length then [41] else []):=by rw[zar];rw[if_neg od,if_neg od,if_neg od,if_neg od,if_neg od]
end
theorem zd3 {w:List Data} (hw:WT w) (hb:TB w):∀(n:Nat){a k:Int}{p:Pat},zat w n ⟨a,k⟩ p=true->TyIn w.length ⟨a,k⟩->p.ok->p.size<=10000000->
  FnD Tryz.prog 100 [.d (zah w),.agg [.d (.i a),.d (.i k)],.agg [.d (.i p.op),.d (.i p.ctor),.d (.i p.n),.d (.i p.m),.d (.i p.var),.d (zax p.kids)]] [] (.d (.str (zar w n ⟨a,k⟩ p))) []
 |0,a,k,p,h,_,_,_=>by simp[zat] at h
 |n+1,a,k,p,h,ht,hok,hsz=>by
  obtain⟨ho,hl⟩:=zcr h;have hin:=zdg hw ht ho;obtain⟨o1,o2,o3,o4⟩:=zmN ho;rw[xaV] at hsz;rw[xaU] at hok;have hkid:∀i,i<p.kids.length->∀t,t=nth (zab w ⟨a,k⟩ p) i->FnD Tryz.prog 100 [.d (zah w),.agg [.d (.i t.data),.d (.i t.index)],.agg [.d (.i (nth p.kids i).op),.d (.i (nth p.kids i).ctor),.d (.i (nth p.kids i).n),.d (.i (nth p.kids i).m),.d (.i (nth p.kids i).var),.d (zax (nth p.kids i).kids)]] [] (.d (.str (zar w n t (nth p.kids i)))) []:=fun i hi t e=>by
   subst e;exact zd3 hw hb n (a:=(nth (zab w ⟨a,k⟩ p) i).data) (k:=(nth (zab w ⟨a,k⟩ p) i).index) (zbx h hi) (hin _ (zao od)) (xaX hok.2 _ (zao hi)) (by have:=zib hi;omega)
  have hlen:∀i,i<p.kids.length->∀t,t=nth (zab w ⟨a,k⟩ p) i->(zar w n t (nth p.kids i)).length<=100000000:=fun i hi t e=>by
   subst e;have:=zeq hw hb n (a:=(nth (zab w ⟨a,k⟩ p) i).data) (k:=(nth (zab w ⟨a,k⟩ p) i).index) (zbx h hi) (hin _ (zao od));have h2:=zib hi;have h3:(zar w n (nth (zab w ⟨a,k⟩ p) i) (nth p.kids i)).length<=10*(nth p.kids i).size:=this;omega
  by_cases h4:p.op=4
  ·rw[ze2 h4] at hl hkid hlen;have hc:=o4 h4;obtain⟨n1,n2⟩:=zf4 hw hb ht hc;have hag:=zck hw ht hc;obtain⟨d,rfl,hd,j,hj0,hj⟩:=za7 ht hc;have hnm:za0 w ⟨(d:Int),k⟩ p.ctor=(nth (nth w d).ctors j).name:=by unfold za0;rw[hj0];rfl
   have hnx:=fun i=>zkt (f:=zar w n) i (b:=true) (ts:=zac w ⟨(d:Int),k⟩ p.ctor) (ks:=p.kids);have htl:∀i,i<=3->(zbl (zar w n) true ((zac w ⟨(d:Int),k⟩ p.ctor).take i) (p.kids.take i)).length<=1000000000:=fun i hi=>by
    have h1:=ziw (f:=zar w n) true ((zac w ⟨(d:Int),k⟩ p.ctor).take i) (p.kids.take i) (fun i' q1 q2=>by
     rw[List.length_take] at q1 q2;have e1:nth ((zac w ⟨(d:Int),k⟩ p.ctor).take i) i'=nth (zac w ⟨(d:Int),k⟩ p.ctor) i':=by rw[za1 (by rw[List.length_take];omega),za1 od,List.getElem_take]
     have e2:nth (p.kids.take i) i'=nth p.kids i':=by rw[za1 (by rw[List.length_take];omega),za1 od,List.getElem_take]
     rw[e1,e2];have:=zeq hw hb n (a:=(nth (zab w ⟨(d:Int),k⟩ p) i').data) (k:=(nth (zab w ⟨(d:Int),k⟩ p) i').index) (zbx h (i:=i') od) (hin _ (zao (by rw[ze2 h4];omega)));rw[ze2 h4] at this;exact this)
    have h2:=zlC p.kids i;rw[List.length_take] at h1;omega
   rw[tx4 h4,hnm];have hfin:=List.take_length (l:=zac w ⟨(d:Int),k⟩ p.ctor);have hfin2:=List.take_length (l:=p.kids);generalize zac w ⟨(d:Int),k⟩ p.ctor=ts at *;refine bd Tryz.f100 118 [96,98,111,116] [] fun _ _ _ _ hk=>?_;refine bx 3004 ?_;refine bx 3005 ?_;refine evs [96,98,111,116] [] ?_;apply sq<;>intro h1 h1p h1s;try simp only[Q,xal,xaS,xac] at h1p
   exfalso;omega;apply sq<;>intro h2 h2p h2s;try simp only[Q,xal,xaS,xac] at h2p
   exfalso;omega;apply sq<;>intro h3 h3p h3s;try simp only[Q,xal,xaS,xac] at h3p
   exfalso;omega;apply sq<;>intro h4 h4p h4s;try simp only[Q,xal,xaS,xac] at h4p
   exfalso;omega;apply sq<;>intro h5 h5p h5s;try simp only[Q,xal,xaS,xac] at h5p
   exfalso;omega;refine ixq sl23 I I I (zam hd) I (evd [96,98,111,116] [] (ixq (i:=j) zbo I I hj0 (zam hj) I (evd [96,98,111,116] [] (dr (wc zb7 hag I I ?_)))));refine evs [96,98,111,116] [] (xaA (ι:=Nat) hk (fun i=>[(9,.d (.i (i:Int))),(7,.d (.str ((nth (nth w d).ctors j).name++zbl (zar w n) true (ts.take i) (p.kids.take i))))]) [87,88,89,90,91,92,93,94,95,96,97,98,99,100,101,102,103,104,105,106,107,108,109,110,111] (fun i=>[]) (fun i=>i<=ts.length) (fun i=>ts.length-i) 0 od ⟨⟨_,I,xaK ?_⟩,⟨⟨_,I,xaL ?_⟩,O⟩⟩ O (fun x=>rfl) (fun i hg1=>?_));iterate 2 focus ((simp[zbl];done))
   refine evc [96,98,111,116] [] ?_;apply sq<;>intro h6 h6p h6s<;>(try simp only[Q,xal,xaS,xac] at h6p);apply sq<;>intro h7 h7p h7s<;>(try simp only[Q,xal,xaS,xac] at h7p);refine xbs .none I I I (by rw[hnm] at n1;have:=htl i od;(have:=hlen i od (nth ts i) rfl;simp only[xaa,xab,xak];omega)) ?_;refine evs [96,98,111,116] [] (ixq zaJ I I I (zam od) I ?_);refine evd [96,98,111,116] [] (ixq sl58 I I I (zbT od) I ?_);refine evd [96,98,111,116] [] (wc zfa (hkid i od (nth ts i) I) I I ?_);refine xbs .none I I I (by rw[hnm] at n1;have:=htl i od;(have:=hlen i od (nth ts i) rfl;simp only[xaa,xab,xak];omega)) ?_;refine evd [96,98,111,116] [] (dr (ar (xaj (i+1) ⟨od,od,sx ⟨⟨_,I,xaK ?_⟩,⟨⟨_,I,xaL ?_⟩,O⟩⟩ O⟩)));iterate 2 focus (first|rfl|(rw[hnx i od od,if_pos ⟨rfl,by omega⟩];simp;done))
   refine xbs .none I I I (by rw[hnm] at n1;have:=htl i od;(have:=hlen i od (nth ts i) rfl;simp only[xaa,xab,xak];omega)) ?_;refine evs [96,98,111,116] [] (ixq zaJ I I I (zam od) I ?_);refine evd [96,98,111,116] [] (ixq sl58 I I I (zbT od) I ?_);refine evd [96,98,111,116] [] (wc zfa (hkid i od (nth ts i) I) I I ?_);refine xbs .none I I I (by rw[hnm] at n1;have:=htl i od;(have:=hlen i od (nth ts i) rfl;simp only[xaa,xab,xak];omega)) ?_;refine evd [96,98,111,116] [] (dr (ar (xaj (i+1) ⟨od,od,sx ⟨⟨_,I,xaK ?_⟩,⟨⟨_,I,xaL ?_⟩,O⟩⟩ O⟩)));iterate 2 focus (first|rfl|(rw[hnx i od od,if_neg od];simp;done))
   apply sq<;>intro h8 h8p h8s<;>(try simp only[Q,xal,xaS,xac] at h8p);refine xbs .none I I I (by rw[hnm] at n1;have:=htl i od;(simp only[xaa,xab,xak];omega)) ?_;refine evs [96,98,111,116] [] (rq ?_);rotate_left;refine rq ?_;rotate_left;all_goals (have e1:i=ts.length:=od;subst e1;rw[hfin,show ts.length=p.kids.length by omega,hfin2];first|(rw[if_pos od];done)|(rw[if_neg od,xaq];done))
  ·have e5:p.op=5->p.kids.length=2:=fun h=>by rw[zdu h] at hl;exact hl
   have e6:p.op=6->p.kids.length=1:=fun h=>by rw[zer h] at hl;exact hl
   have hk0:=fun(h:p.op=5\/p.op=6)=>hkid 0 (by rcases h with h|h;rw[e5 h];omega;rw[e6 h];omega) ⟨a,k⟩ (by rcases h with h|h;rw[zdu h];rfl;rw[zer h];rfl);have hk1:=fun(h:p.op=5)=>hkid 1 (by rw[e5 h];omega) ⟨a,k⟩ (by rw[zdu h];rfl);have hn0:=fun(h:p.op=5\/p.op=6)=>hlen 0 (by rcases h with h|h;rw[e5 h];omega;rw[e6 h];omega) ⟨a,k⟩ (by rcases h with h|h;rw[zdu h];rfl;rw[zer h];rfl);have hn1:=fun(h:p.op=5)=>hlen 1 (by rw[e5 h];omega) ⟨a,k⟩ (by rw[zdu h];rfl);have hdl:=zdj;have hll:=zhn p.var;refine bd Tryz.f100 118 [32,36,46,47,55,56,62,70] [] fun _ _ _ _ hk=>?_;refine bx 3004 ?_;refine bx 3005 ?_;refine evs [32,36,46,47,55,56,62,70] [] ?_;apply sq<;>intro h1 h1p h1s<;>(try simp only[Q,xal,xaS] at h1p);refine rq ?_;rotate_left;apply sq<;>intro h2 h2p h2s<;>(try simp only[Q,xal,xaS] at h2p);refine wc zoZ (zgf (n:=p.var)) I I ?_;refine evs [32,36,46,47,55,56,62,70] [] (rq ?_);rotate_left;apply sq<;>intro h3 h3p h3s<;>(try simp only[Q,xal,xaS] at h3p);apply sq<;>intro h4 h4p h4s<;>(try simp only[Q,xal,xaS] at h4p);refine wc zgK (zcz (n:=p.n) (by have:=o3 od;omega) (by have:=o3 od;omega)) I I ?_;refine evs [32,36,46,47,55,56,62,70] [] (rq ?_);rotate_left;refine wc zgK (zcz (n:=p.n) (by have:=o3 od;omega) (by have:=o3 od;omega)) I I ?_;refine xbs .none I I I (by(simp only[xaa,xab,xak,hdl];omega)) (evd [32,36,46,47,55,56,62,70] [] (wc zgK (zcz (n:=p.m) (by have:=o3 od;omega) (by have:=o3 od;omega)) I I ?_));refine xbs .none I I I (by(simp only[xaa,xab,xak,hdl];omega)) (evd [32,36,46,47,55,56,62,70] [] (dr (rq ?_)));rotate_left;apply sq<;>intro h5 h5p h5s<;>(try simp only[Q,xal,xaS] at h5p);refine ixq (i:=0) sl58 I I I (zbT (by(rw[e5 od];omega))) I ?_;refine evd [32,36,46,47,55,56,62,70] [] (wc zfa (hk0 od) I I ?_);refine xbs .none I I I (by(have:=hn0 (.inl od);have:=hn1 od;simp only[xaa,xab,xak];omega)) ?_;refine xbs .none I I I (by(have:=hn0 (.inl od);have:=hn1 od;simp only[xaa,xab,xak];omega)) ?_;refine evd [32,36,46,47,55,56,62,70] [] (ixq (i:=1) sl58 I I I (zbT (by(rw[e5 od];omega))) I ?_);refine evd [32,36,46,47,55,56,62,70] [] (wc zfa (hk1 od) I I ?_);refine xbs .none I I I (by(have:=hn0 (.inl od);have:=hn1 od;simp only[xaa,xab,xak];omega)) ?_;refine xbs .none I I I (by(have:=hn0 (.inl od);have:=hn1 od;simp only[xaa,xab,xak];omega)) ?_;refine evd [32,36,46,47,55,56,62,70] [] (dr (rq ?_));rotate_left;apply sq<;>intro h6 h6p h6s<;>(try simp only[Q,xal,xaS] at h6p);refine wc zoZ (zgf (n:=p.var)) I I ?_;refine xbs .none I I I (by(have:=hn0 (.inr od);simp only[xaa,xab,xak];omega)) ?_;refine evd [32,36,46,47,55,56,62,70] [] (ixq (i:=0) sl58 I I I (zbT (by(rw[e6 od];omega))) I ?_);refine evd [32,36,46,47,55,56,62,70] [] (wc zfa (hk0 od) I I ?_);refine xbs .none I I I (by(have:=hn0 (.inr od);simp only[xaa,xab,xak];omega)) ?_;refine evd [32,36,46,47,55,56,62,70] [] (dr (rq ?_));rotate_left;exfalso;omega;all_goals (first|(rw[tx1 od];done)|(rw[tx2 od];done)|(rw[tx3a od od];done)|(rw[tx3b od od];done)|(rw[tx5 od];done)|(rw[tx6 od];done))
set_option maxHeartbeats 2000000
set_option maxHeartbeats 4000000
set_option maxHeartbeats 2000000
structure MatchOk (w:List Data) (n m:Nat) (t:Ty) (p:Pat) (v:Val):Prop where
 shape:zat w n t p=true
 fits:zq6 w m t v=true
 pok:p.ok
 vok:v.ok
 psz:p.size<=100
 vsz:v.size<=100
theorem MatchOk.two {w:List Data}{n m:Nat}{t:Ty}{p:Pat}{v:Val} (h:MatchOk w (n+1) m t p v) (h5:p.op=5):
  p.kids.length=2/\MatchOk w n m t (nth p.kids 0) v/\MatchOk w n m t (nth p.kids 1) v:=by
 obtain⟨hl,s0,s1⟩:=zpZ h.shape h5;have hpk:=(xaU p).1 h.pok;have hps:=xaV p;have z0:=zen (l:=p.kids) (i:=0) od;have z1:=zen (l:=p.kids) (i:=1) od;have hs:=h.psz;exact⟨hl,⟨s0,h.fits,xaX hpk.2 _ (zao od),h.vok,by omega,h.vsz⟩,⟨s1,h.fits,xaX hpk.2 _ (zao od),h.vok,by omega,h.vsz⟩⟩
theorem MatchOk.one {w:List Data}{n m:Nat}{t:Ty}{p:Pat}{v:Val} (h:MatchOk w (n+1) m t p v) (h6:p.op=6):
  p.kids.length=1/\MatchOk w n m t (nth p.kids 0) v:=by
 obtain⟨hl,s0⟩:=zpY h.shape h6;have hpk:=(xaU p).1 h.pok;have hps:=xaV p;have z0:=zen (l:=p.kids) (i:=0) od;have hs:=h.psz;exact⟨hl,⟨s0,h.fits,xaX hpk.2 _ (zao od),h.vok,by omega,h.vsz⟩⟩
structure VarsOk (l:List Bd) (vs:List Vt):Prop where
 len:l.length=vs.length
 nod:(l.map Bd.var).Nodup
 sub:∀x∈l.map Bd.var,x∈vs.map Vt.var
set_option maxHeartbeats 4000000
end Go.Proofs.YtmkipahfpaacgaaGreatDoor
