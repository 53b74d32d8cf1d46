/-
  THE ABSTRACT WALK AND THE WALKS, part 3 of 5.
-/
import Derived.Test.YtmkipahfpaacgaaGreatDoorT642
namespace Go.Proofs.YtmkipahfpaacgaaGreatDoor
open Go
set_option linter.unusedSimpArgs false
set_option linter.unusedVariables false
set_option maxRecDepth 100000
set_option maxHeartbeats 2000000
def cutL (c:UInt8):Str->Str->List Str
 |cur,[]=>[cur]
 |cur,x::r=>if x=c then cur::cutL c [] r else cutL c (cur++[x]) r
theorem zd4 (c:UInt8):∀(s cur:Str),(cutL c cur s).length<=s.length+1
 | [],cur=>by simp[cutL]
 |x::r,cur=>by
  simp only[cutL];split
  ·have:=zd4 c r [];simp only[xab];omega
  ·have:=zd4 c r (cur++[x]);simp only[xab];omega
theorem zfo (c:UInt8):∀(s cur:Str),1<=(cutL c cur s).length
 | [],cur=>by simp[cutL]
 |x::r,cur=>by
  simp only[cutL];split
  ·simp
  ·exact zfo c r (cur++[x])
theorem zgy (c:UInt8):∀(s cur:Str) (t:Str),t∈cutL c cur s->t.length<=cur.length+s.length
 | [],cur,t,h=>by simp only[cutL,List.mem_singleton] at h;subst h;simp
 |x::r,cur,t,h=>by
  simp only[cutL] at h;split at h
  ·rcases List.mem_cons.1 h with rfl|h
   ·simp
   ·have:=zgy c r [] t h;simp only[xab,xak] at this ⊢;omega
  ·have:=zgy c r (cur++[x]) t h;simp only[xaa,xab,xak] at this ⊢;omega
theorem zaS {s:Str}{i:Nat} (h:i<s.length):s[i]?=some (nth s i):=by rw[zaV h];exact xan h
theorem zj4 {s:Str}{f i:Nat} (hf:f<=i) (h:i<s.length):(s.take (i+1)).drop f=(s.take i).drop f++[nth s i]:=by
 rw[List.take_add_one,xan h,List.drop_append_of_le_length om,zaV h];rfl
theorem zj6 {s:Str}{f i:Nat}:(s.drop f).take (i-f)=(s.take i).drop f:=by rw[List.drop_take]
theorem zbN {s:Str}{c:UInt8} (hs:s.length<=1000000000000):FnD Tryz.prog 74 [.d (.str s),.d (.int .u8 (c.toNat:Int))] [] (.d (zb0 (cutL c [] s))) []:=by
 have hu:∀a:UInt8,((a.toNat:Int)=(c.toNat:Int))↔a=c:=fun a=>by rw[xal];exact UInt8.toNat_inj
 refine bd Tryz.f74 36 [] [] fun _ _ _ _ hk=>?_;refine xbS 1 sl84 .none I I (ev (xaA (ι:=Nat×Nat×List Str) hk (fun x=>[(7,.d (.i (x.1:Int))),(6,.d (.i (x.2.1:Int))),(5,.gl 1 (x.2.2.map fun n=>[D.str n]))]) [9,10,11,12,13,14,15,16,17,18,19,20,21,22,23,24,25,26,27,28,29,30,31,32,33,34] (fun x=>[(1,some (.tok ((x.2.2.map fun n=>[D.str n])).length 1))]) (fun x=>x.1<=s.length+1/\x.2.2.length<=x.1/\if x.1=s.length+1 then x.2.2=cutL c [] s else x.2.1<=x.1/\x.2.2++cutL c ((s.take x.1).drop x.2.1) (s.drop x.1)=cutL c [] s) (fun x=>s.length+1-x.1) (0,0,[]) ⟨by simp,by simp,by rw[if_neg oe];simp⟩ ⟨⟨_,I,xaK ?_⟩,⟨⟨_,I,xaK ?_⟩,⟨⟨_,I,LeA.glg ?_⟩,O⟩⟩⟩ ⟨zag ?_,O⟩ (fun x=>rfl) (fun x hg1=>?_)));iterate 4 focus (rfl)
 refine evc [] [] ?_;apply sq<;>intro h1 h1p h1s<;>(try simp only[Q,hu] at h1p);have hne:¬x.1=s.length+1:=od;have hcond:=hg1.2.2;rw[if_neg hne] at hcond;have hle:=hcond.1;apply sq<;>intro h2 h2p h2s<;>(try simp only[Q,hu] at h2p);refine sqT ?_;refine xby un9 .none I I I I I I od od ?_;refine si [0] [_] sl84 tz9 ?_;refine ap sl84 zz9 I I I oe om ?_;refine ev (ar (ar ?_));refine xaj (if x.1=s.length\/nth s x.1=c then (x.1+1,x.1+1,x.2.2++[(s.take x.1).drop x.2.1]) else (x.1+1,x.2.1,x.2.2)) ⟨(by
    have hne:¬x.1=s.length+1:=by omega
    rw[if_neg hne] at hg1;obtain⟨g1,g2,g3,g4⟩:=hg1;by_cases he:x.1=s.length
    ·rw[if_pos (.inl he)];refine⟨by dsimp only;omega,by simp;omega, ?_⟩;dsimp only;rw[if_pos od,<-g4,he,List.drop_length];rfl
    ·have hlt:x.1<s.length:=by omega
     rw[zbk hlt] at g4;by_cases hc:nth s x.1=c
     ·rw[if_pos (.inr hc)];refine⟨by dsimp only;omega,by simp;omega, ?_⟩;dsimp only;rw[if_neg od];refine⟨by omega, ?_⟩;rw[<-g4,cutL,if_pos hc,xar];simp
     ·rw[if_neg (by simp[he,hc])];refine⟨by dsimp only;omega,by dsimp only;omega, ?_⟩;dsimp only;rw[if_neg od];refine⟨by omega, ?_⟩;rw[<-g4,cutL,if_neg hc,zj4 g3 hlt]),(by split<;>(dsimp only;omega)),sx ⟨⟨_,rfl,xaK ?_⟩,⟨⟨_,rfl,xaK ?_⟩,⟨⟨_,rfl,LeA.glg ?_⟩,trivial⟩⟩⟩ ⟨zag ?_,trivial⟩⟩
 iterate 4 focus ((split<;>first|(simp[zj6];done)|(simp;done)|(exfalso;simp_all;done)|(exfalso;simp_all;omega)))
 refine xbF un9 (.some I I h2) I I I I (zaS od) ?_;refine evs [] [(19,false)] ?_ ⟨⟨_,I,h2⟩,O⟩;apply sq<;>intro h4 h4p h4s<;>(try simp only[Q,hu] at h4p);refine xby un9 .none I I I I I I od od ?_;refine si [0] [_] sl84 tz9 ?_;refine ap sl84 zz9 I I I oe om ?_;refine ev (ar (ar ?_));refine xaj (if x.1=s.length\/nth s x.1=c then (x.1+1,x.1+1,x.2.2++[(s.take x.1).drop x.2.1]) else (x.1+1,x.2.1,x.2.2)) ⟨(by
    have hne:¬x.1=s.length+1:=by omega
    rw[if_neg hne] at hg1;obtain⟨g1,g2,g3,g4⟩:=hg1;by_cases he:x.1=s.length
    ·rw[if_pos (.inl he)];refine⟨by dsimp only;omega,by simp;omega, ?_⟩;dsimp only;rw[if_pos od,<-g4,he,List.drop_length];rfl
    ·have hlt:x.1<s.length:=by omega
     rw[zbk hlt] at g4;by_cases hc:nth s x.1=c
     ·rw[if_pos (.inr hc)];refine⟨by dsimp only;omega,by simp;omega, ?_⟩;dsimp only;rw[if_neg od];refine⟨by omega, ?_⟩;rw[<-g4,cutL,if_pos hc,xar];simp
     ·rw[if_neg (by simp[he,hc])];refine⟨by dsimp only;omega,by dsimp only;omega, ?_⟩;dsimp only;rw[if_neg od];refine⟨by omega, ?_⟩;rw[<-g4,cutL,if_neg hc,zj4 g3 hlt]),(by split<;>(dsimp only;omega)),sx ⟨⟨_,rfl,xaK ?_⟩,⟨⟨_,rfl,xaK ?_⟩,⟨⟨_,rfl,LeA.glg ?_⟩,trivial⟩⟩⟩ ⟨zag ?_,trivial⟩⟩
 iterate 4 focus ((split<;>first|(simp[zj6];done)|(simp;done)|(exfalso;simp_all;done)|(exfalso;simp_all;omega)))
 refine ar ?_;refine xaj (if x.1=s.length\/nth s x.1=c then (x.1+1,x.1+1,x.2.2++[(s.take x.1).drop x.2.1]) else (x.1+1,x.2.1,x.2.2)) ⟨(by
    have hne:¬x.1=s.length+1:=by omega
    rw[if_neg hne] at hg1;obtain⟨g1,g2,g3,g4⟩:=hg1;by_cases he:x.1=s.length
    ·rw[if_pos (.inl he)];refine⟨by dsimp only;omega,by simp;omega, ?_⟩;dsimp only;rw[if_pos od,<-g4,he,List.drop_length];rfl
    ·have hlt:x.1<s.length:=by omega
     rw[zbk hlt] at g4;by_cases hc:nth s x.1=c
     ·rw[if_pos (.inr hc)];refine⟨by dsimp only;omega,by simp;omega, ?_⟩;dsimp only;rw[if_neg od];refine⟨by omega, ?_⟩;rw[<-g4,cutL,if_pos hc,xar];simp
     ·rw[if_neg (by simp[he,hc])];refine⟨by dsimp only;omega,by dsimp only;omega, ?_⟩;dsimp only;rw[if_neg od];refine⟨by omega, ?_⟩;rw[<-g4,cutL,if_neg hc,zj4 g3 hlt]),(by split<;>(dsimp only;omega)),sx ⟨⟨_,rfl,xaK ?_⟩,⟨⟨_,rfl,xaK ?_⟩,⟨⟨_,rfl,LeA.glg ?_⟩,trivial⟩⟩⟩ ⟨zag ?_,trivial⟩⟩
 iterate 4 focus ((split<;>first|rfl|(exfalso;simp_all;done)|(exfalso;simp_all;omega)))
 refine rn0 (r1 I) (.gld ?_);rotate_left;all_goals (have e:x.1=s.length+1:=od;rw[if_pos e] at hg1;rw[hg1.2.2])
def zp7 (names:List Str) (s:Str):Int:=if s=[73] then -1 else if s∈names then idxF (fun n=>decide (n=s)) names 0 else -2
theorem zmg {names:List Str}{s:Str} (hn:names.length<=1000000000000):FnD Tryz.prog 232 [.d (zb0 names),.d (.str s)] [] (.d (.i (zp7 names s))) []:=by
 refine bd Tryz.f232 21 [] [] fun _ _ _ _ hk=>?_;apply sq<;>intro h1 h1p h1s<;>(try simp only[Q] at h1p);refine rq ?_;rotate_left;refine xaA (ι:=List (Str)×List (Str)) hk (fun x=>[(5,.d (.i (x.1.length:Int)))]) [4,8,9,10,11,12,13,14,15,16,17,18,19,20] (fun x=>[]) (fun x=>x.1++x.2=names/\s∉x.1/\idxF (fun n=>decide (n=s)) x.2 x.1.length=idxF (fun n=>decide (n=s)) names 0) (fun x=>x.2.length) ([],names) ⟨by simp,by simp,I⟩ ⟨⟨_,I,xaK ?_⟩,O⟩ O (fun x=>rfl) (fun x hg1=>?_);focus (rfl)
 obtain⟨pre,rest⟩:=x;dsimp only at hg1 ⊢;refine evc [] [] ?_;apply sq<;>intro h2 h2p h2s<;>(try simp only[Q] at h2p);rcases rest with _|⟨y,rest⟩
 ·exfalso;simp_all
 refine ixq sl84 I I I (zaE hg1.1) I (ev ?_);apply sq<;>intro h3 h3p h3s<;>(try simp only[Q] at h3p);refine rq ?_;rotate_left;refine ar (xaj ((pre++[y],rest)) ⟨⟨(by have hz:=hg1.1;rw[<-hz];simp),⟨(by have h1:=hg1.2.1;simp_all[eq_comm]),(by rw[<-hg1.2.2];simp_all[idxF])⟩⟩,oe,sx ⟨⟨_,I,xaK ?_⟩,O⟩ O⟩);focus ((simp;done))
 have hrest:rest=[]:=by
  rcases rest with _|⟨a,b⟩
  ·rfl
  ·exfalso;have hz:=xam List.length (hg1.1);simp only[xaa,xab,xac] at hz;omega
 subst hrest;refine rq ?_;rotate_left;all_goals (refine xam D.i ?_;unfold zp7;by_cases hz:s=[73]<;>by_cases hm:s∈names<;>simp only[hz,hm,if_true,if_false];all_goals first|(exfalso;simp_all;done)|(exfalso;apply hm;subst h3p;rw[<-hg1.1];simp;done)|(exfalso;apply hg1.2.1;rw[<-hg1.1,xaq] at hm;exact hm)|(rw[<-hg1.2.2];simp_all[idxF];done))
def zeM (names:List Str) (s:Str):Ty:=
 if s=[] then ⟨-2,0⟩
 else ⟨zp7 names (s.take 1),if s.drop 1=[42] then -1 else if s.length=2/\48<=(nth s 1).toNat/\(nth s 1).toNat<=57 then ((nth s 1).toNat:Int)-48 else 0⟩
theorem zkW {b:UInt8} (h1:48<=b.toNat) (h2:b.toNat<=57):IntKind.i64.wrap (IntKind.u8.wrap ((b.toNat:Int)-48))=(b.toNat:Int)-48:=by
 rw[zeV,zcV od];omega
theorem zfm {names:List Str}{s:Str} (hn:names.length<=1000000000000) (hs:s.length<=1000000000000):
  FnD Tryz.prog 150 [.d (zb0 names),.d (.str s)] [] (.agg [.d (.i (zeM names s).data),.d (.i (zeM names s).index)]) []:=by
 have hlen:s≠[]->1<=s.length:=fun h=>by rcases s with _|⟨a,r⟩;exact absurd I h;simp
 refine bd Tryz.f150 39 [35] [] fun _ _ _ _ hk=>?_;refine ab 3004 tz38 ?_;apply tv;apply sq<;>intro h1 h1p h1s<;>(try simp only[Q] at h1p);refine bu [0] [_] st38 ?_;refine so ty38 ?_;apply tv;refine rn0 (ra ty38) (.agg (qee ?_ ?_));rotate_left 2;refine xbw (b:=1) un9 .none I I I I (by have:=hlen o0;omega) ?_;refine wc zuW (zmg (names:=names) (s:=s.take 1) hn) I I ?_;refine bu [0] [_] st38 ?_;refine ab 3005 tz38 ?_;refine so ty38 ?_;apply tv;refine xbx (b:=1) un9 .none I I I I (by have:=hlen o0;omega) ?_;refine evs [35] [] ?_;apply sq<;>intro h2 h2p h2s<;>(try simp only[Q] at h2p);refine so ty3 ?_;apply tv;refine so ty38 ?_;apply tv;refine rn0 (ra ty38) (.agg (qee ?_ ?_));rotate_left 2;apply sq<;>intro h3 h3p h3s<;>(try simp only[Q] at h3p);refine xbF (i:=1) un9 (.some I I h3) I I I I (zaS (by simp_all;omega)) ?_;refine evs [35] [(23,true)] ?_ ⟨⟨_,I,h3⟩,O⟩;apply sq<;>intro h4 h4p h4s<;>(try simp only[Q] at h4p);refine xbF (i:=1) un9 (.some I I h4) I I I I (zaS (by simp_all;omega)) ?_;refine evs [35] [(28,true)] ?_ ⟨⟨_,I,h4⟩,O⟩;apply sq<;>intro h5 h5p h5s<;>(try simp only[Q] at h5p);refine xbF (i:=1) un9 .none I I I I (zaS (by simp_all;omega)) ?_;refine xbX .none I I I (xbv oy un3 .none I I ?_);refine evs [35] [] (so ty3 ?_);apply tv;refine so ty38 ?_;apply tv;refine rn0 (ra ty38) (.agg (qee ?_ ?_));rotate_left 2;refine so ty38 ?_;apply tv;refine rn0 (ra ty38) (.agg (qee ?_ ?_));rotate_left 2;refine sqF ?_;refine so ty38 ?_;apply tv;refine rn0 (ra ty38) (.agg (qee ?_ ?_));rotate_left 2;refine sqF ?_;refine sqF ?_;refine so ty38 ?_;apply tv;refine rn0 (ra ty38) (.agg (qee ?_ ?_));rotate_left 2;all_goals (unfold zeM;first|(rw[zkW (b:=nth s 1) od od,if_neg h1p];dsimp only;rw[if_neg h2p,if_pos ⟨by omega,by omega,by omega⟩];done)|(rw[if_pos h1p];done)|(rw[if_neg h1p];done)|(rw[if_neg h1p];dsimp only;rw[if_pos h2p];done)|(rw[if_neg h1p];dsimp only;rw[if_neg h2p,if_neg (fun hh=>by omega)];done))
def znX (s:Str):Prop:=2<s.length/\nth s (s.length-2)=58
instance (s:Str):Decidable (znX s):=inferInstanceAs (Decidable (_/\_))
def zgx (names:List Str) (ix:Int) (s:Str):Ctor:=
 let parts:=cutL 40 [] s
 ⟨nth parts 0,if parts.length<2\/(nth parts 1).length=0 then [] else ((cutL 44 [] ((nth parts 1).take ((nth parts 1).length-1))).take 4).map (zeM names),ix⟩
def zcs (names:List Str) (s:Str):Ctor:=
 if znX s then zgx names (((nth s (s.length-1)).toNat:Int)-48) (s.take (s.length-2)) else zgx names 0 s
theorem zfY {α β:Type} [Inhabited α]{f:α->β}{l:List α}{i:Nat} (h:i<l.length):(l.map f).take (i+1)=(l.map f).take i++[f (nth l i)]:=by
 rw[List.take_add_one,List.getElem?_map,xan h];simp[nth,List.getD,h]
theorem zmY {α:Type}{l:List α}{i:Nat} (h:i=4\/(i<=4/\l.length<=i)):l.take i=l.take 4:=by
 rcases h with rfl|⟨h1,h2⟩
 ·rfl
 ·rw[List.take_of_length_le h2,List.take_of_length_le od]
theorem zqv {a b:UInt8}:((a.toNat:Int)=(b.toNat:Int))↔a=b:=by rw[xal];exact UInt8.toNat_inj
theorem zfR (a:UInt8):IntKind.i64.wrap (a.toNat:Int)=(a.toNat:Int):=by have:=a.toNat_lt;exact zcV od
theorem zde {c:UInt8}{s:Str}{i:Nat} (h:i<(cutL c [] s).length):(nth (cutL c [] s) i).length<=s.length:=by
 have:=zgy c s [] _ (zam h);simpa using this
theorem oq{p:Prop}(h:p:=by first|omega|(simp;omega)):p:=h
theorem ziE {names:List Str}{s:Str} (hn:names.length<=1000000000000) (hs:s.length<=1000000):
  FnD Tryz.prog 230 [.d (zb0 names),.d (.str s)] [] (.agg [.d (.str (zcs names s).name),.d (zbU (zcs names s).args),.d (.i (zcs names s).index)]) []:=by
 have hwb:=zfR (nth s (s.length-1));have hwl:=(nth s (s.length-1)).toNat_lt;by_cases hc:znX s
 ·have hc1:=hc.1;have hct:(s.take (s.length-2)).length=s.length-2:=by rw[List.length_take];omega
  have hcl:=zd4 40 (s.take (s.length-2)) [];have hcp:=zfo 40 (s.take (s.length-2)) [];have hn1:=fun h=>zde (c:=40) (s:=s.take (s.length-2)) (i:=1) h;have hal:=zd4 44 ((nth (cutL 40 [] (s.take (s.length-2))) 1).take ((nth (cutL 40 [] (s.take (s.length-2))) 1).length-1)) [];refine bd Tryz.f230 83 [] [2,7] fun _ _ _ _ hk=>?_;refine ab 3004 zfh ?_;apply tv;refine bu [] [] ztm ?_;refine ab 3005 zfh ?_;refine so zcK ?_;apply tv;refine xaC (xbh 11 [(20,.d (.bool true))] [10,11,12,13,14,15,16,17,18,19] ?_ ?_);refine ev ?_;apply sq<;>intro h1 h1p h1s;refine ar (xbF (i:=s.length-2) un9 (.some I I h1) I I I od (zaS od) ?_);refine evs [] [(13,true)] ?_ ⟨⟨_,I,h1⟩,O⟩;exact jn I (xaJ (by(exact xax (xam (fun z:UInt8=>(z.toNat:Int)) hc.2))));try simp only[Q,List.length_take] at h1p
  exact jn I (xaJ (by(exfalso;omega)));refine xbg ?_;apply tv;apply sq<;>intro h2 h2p h2s;refine ar (xbF (i:=s.length-1) un9 .none I I I od (zaS od) ?_);refine xbv oy un3 .none I I ?_;refine ev (ar (so ty3 ?_));apply tv;refine ar (xbw (b:=s.length-2) un9 .none I I I od od ?_);refine ev (wc zfE (zbN (s:=s.take (s.length-2)) (c:=40) oq) I I ?_);refine ev (ixq (i:=0) sl84 I I I (zan od) I ?_);refine ev (so ty9 ?_);apply tv;refine xaC (xbh 10 [(49,.d (.bool (decide ((cutL 40 [] (s.take (s.length-2))).length<2\/(nth (cutL 40 [] (s.take (s.length-2))) 1).length=0))))] [40,41,42,43,44,45,46,47,48] ?_ ?_);refine ev ?_;apply sq<;>intro h3 h3p h3s<;>(try simp only[Q,List.length_take] at h3p);exact jn I (xaJ (by(refine(xax ?_).symm;omega)));refine xbB (i:=1) sl84 (.some I I h3) I I I I (zan od) I ?_;refine evs [] [(43,false)] ?_ ⟨⟨_,I,h3⟩,O⟩;exact jn I (xaJ (by(refine decide_eq_decide.2 ?_;omega)));refine xbg ?_;apply tv;apply sq<;>intro h4 h4p h4s;refine so zcK ?_;apply tv;refine rn0 (ra zcK) (.agg (qene ?_ ?_ ?_));rotate_left 3;try simp only[Q,List.length_take] at h4p
  refine ixq (i:=1) sl84 I I I (zan od) I ?_;refine evd [] [] (ixq (i:=1) sl84 I I I (zan od) I ?_);refine evd [] [] (ar (xbw (b:=(nth (cutL 40 [] (s.take (s.length-2))) 1).length-1) un9 .none I I I od od ?_));refine wc zfE (zbN (s:=(nth (cutL 40 [] (s.take (s.length-2))) 1).take ((nth (cutL 40 [] (s.take (s.length-2))) 1).length-1)) (c:=44) om) I I ?_;refine evd [] [] (dr (xaD 3005 1 1 2 I I I I (xaA (ι:=Nat) hk (fun i=>[(8,.d (.i (i:Int)))]) [61,62,63,64,65,66,67,68,69,70,71,72,73,74,75,76,77,78,79,80,81] (fun i=>[(3005,some (.box [.d (.str (nth (cutL 40 [] (s.take (s.length-2))) 0)),.gl 1 (((((cutL 44 [] ((nth (cutL 40 [] (s.take (s.length-2))) 1).take ((nth (cutL 40 [] (s.take (s.length-2))) 1).length-1))).map (zeM names)).take i)).map Ty.c),.d (.i (((nth s (s.length-1)).toNat:Int)-48))])),(1,some (.tok (((((cutL 44 [] ((nth (cutL 40 [] (s.take (s.length-2))) 1).take ((nth (cutL 40 [] (s.take (s.length-2))) 1).length-1))).map (zeM names)).take i)).map Ty.c).length 2))]) (fun i=>i<=4/\i<=(cutL 44 [] ((nth (cutL 40 [] (s.take (s.length-2))) 1).take ((nth (cutL 40 [] (s.take (s.length-2))) 1).length-1))).length) (fun i=>4-i) 0 ⟨by omega,by omega⟩ ⟨⟨_,I,xaK ?_⟩,O⟩ ⟨?_,⟨zag ?_,O⟩⟩ (fun x=>rfl) (fun i hg1=>?_))));focus (rfl)
  focus ((show some (Res.box _)=some (Res.box _);rw[hwb];rfl))
  focus (rfl)
  refine evc [] [2,7] ?_;apply sq<;>intro h5 h5p h5s<;>(try simp only[Q,List.length_take] at h5p);apply sq<;>intro h6 h6p h6s<;>(try simp only[Q,List.length_take] at h6p);refine ixq sl84 I I I (zan od) I ?_;refine evd [] [] (wc zqJ (zfm (names:=names) (s:=nth (cutL 44 [] ((nth (cutL 40 [] (s.take (s.length-2))) 1).take ((nth (cutL 40 [] (s.take (s.length-2))) 1).length-1))) i) hn (by have:=zde (c:=44) (s:=(nth (cutL 40 [] (s.take (s.length-2))) 1).take ((nth (cutL 40 [] (s.take (s.length-2))) 1).length-1)) (i:=i) od;simp at this;omega)) I I ?_);refine si [0] [_] zaL tz38 ?_;refine ap zaL zz38 I I I oe om ?_;refine evd [] [] (so zlJ ?_);refine dr (ar (xaj (i+1) ⟨⟨by omega,by omega⟩,od,sx ⟨⟨_,I,xaK ?_⟩,O⟩ ⟨?_,⟨zag ?_,O⟩⟩⟩));focus (rfl)
  focus ((show some (Res.box _)=some (Res.box _);rw[zfY od];simp;done))
  focus ((simp;omega))
  refine so zcK ?_;apply tv;refine rn0 (ra zcK) (.agg (qege ?_ ?_ ?_));rotate_left 3;refine sqF ?_;refine so zcK ?_;apply tv;refine rn0 (ra zcK) (.agg (qege ?_ ?_ ?_));rotate_left 3;try simp only[Q,List.length_take] at h2p
  exact absurd h2 oe;all_goals (unfold zcs;rw[if_pos hc];first|rfl|(rw[hwb];rfl)|(unfold zgx;dsimp only;by_cases hq:(cutL 40 [] (s.take (s.length-2))).length<2\/(nth (cutL 40 [] (s.take (s.length-2))) 1).length=0;all_goals first|(exfalso;exact(of_decide_eq_false h4) hq)|(exfalso;exact hq (xas h4))|(rw[if_pos hq];done)|(rw[if_pos hq];rfl)|(rw[if_neg hq,<-List.map_take,zmY od];done)))
 ·skip
  have hcl:=zd4 40 (s) [];have hcp:=zfo 40 (s) [];have hn1:=fun h=>zde (c:=40) (s:=s) (i:=1) h;have hal:=zd4 44 ((nth (cutL 40 [] (s)) 1).take ((nth (cutL 40 [] (s)) 1).length-1)) [];refine bd Tryz.f230 83 [] [2,7] fun _ _ _ _ hk=>?_;refine ab 3004 zfh ?_;apply tv;refine bu [] [] ztm ?_;refine ab 3005 zfh ?_;refine so zcK ?_;apply tv;refine xaC (xbh 11 [(20,.d (.bool false))] [10,11,12,13,14,15,16,17,18,19] ?_ ?_);refine ev ?_;apply sq<;>intro h1 h1p h1s;try simp only[Q,List.length_take] at h1p
  refine ar (xbF (i:=s.length-2) un9 (.some I I h1) I I I od (zaS od) ?_);refine evs [] [(13,true)] ?_ ⟨⟨_,I,h1⟩,O⟩;exact jn I (xaJ (by(exact xaw (fun hh=>hc ⟨by omega,(zqv (b:=58)).1 hh⟩))));exact jn I (xaJ o8);refine xbg ?_;apply tv;apply sq<;>intro h2 h2p h2s;exact absurd h2 oe;refine wc zfE (zbN (s:=s) (c:=40) oq) I I ?_;refine ev (ixq (i:=0) sl84 I I I (zan od) I ?_);refine ev (so ty9 ?_);apply tv;refine xaC (xbh 10 [(49,.d (.bool (decide ((cutL 40 [] s).length<2\/(nth (cutL 40 [] s) 1).length=0))))] [40,41,42,43,44,45,46,47,48] ?_ ?_);refine ev ?_;apply sq<;>intro h3 h3p h3s<;>(try simp only[Q,List.length_take] at h3p);exact jn I (xaJ (by(refine(xax ?_).symm;omega)));refine xbB (i:=1) sl84 (.some I I h3) I I I I (zan od) I ?_;refine evs [] [(43,false)] ?_ ⟨⟨_,I,h3⟩,O⟩;exact jn I (xaJ (by(refine decide_eq_decide.2 ?_;omega)));refine xbg ?_;apply tv;apply sq<;>intro h4 h4p h4s;refine so zcK ?_;apply tv;refine rn0 (ra zcK) (.agg (qene ?_ ?_ ?_));rotate_left 3;try simp only[Q,List.length_take] at h4p
  refine ixq (i:=1) sl84 I I I (zan od) I ?_;refine evd [] [] (ixq (i:=1) sl84 I I I (zan od) I ?_);refine evd [] [] (ar (xbw (b:=(nth (cutL 40 [] s) 1).length-1) un9 .none I I I od od ?_));refine wc zfE (zbN (s:=(nth (cutL 40 [] s) 1).take ((nth (cutL 40 [] s) 1).length-1)) (c:=44) om) I I ?_;refine evd [] [] (dr (xaD 3005 1 1 2 I I I I (xaA (ι:=Nat) hk (fun i=>[(8,.d (.i (i:Int)))]) [61,62,63,64,65,66,67,68,69,70,71,72,73,74,75,76,77,78,79,80,81] (fun i=>[(3005,some (.box [.d (.str (nth (cutL 40 [] (s)) 0)),.gl 1 (((((cutL 44 [] ((nth (cutL 40 [] (s)) 1).take ((nth (cutL 40 [] (s)) 1).length-1))).map (zeM names)).take i)).map Ty.c),.d (.i (0))])),(1,some (.tok (((((cutL 44 [] ((nth (cutL 40 [] (s)) 1).take ((nth (cutL 40 [] (s)) 1).length-1))).map (zeM names)).take i)).map Ty.c).length 2))]) (fun i=>i<=4/\i<=(cutL 44 [] ((nth (cutL 40 [] (s)) 1).take ((nth (cutL 40 [] (s)) 1).length-1))).length) (fun i=>4-i) 0 ⟨by omega,by omega⟩ ⟨⟨_,I,xaK ?_⟩,O⟩ ⟨?_,⟨zag ?_,O⟩⟩ (fun x=>rfl) (fun i hg1=>?_))));focus (rfl)
  focus (rfl)
  focus (rfl)
  refine evc [] [2,7] ?_;apply sq<;>intro h5 h5p h5s<;>(try simp only[Q,List.length_take] at h5p);apply sq<;>intro h6 h6p h6s<;>(try simp only[Q,List.length_take] at h6p);refine ixq sl84 I I I (zan od) I ?_;refine evd [] [] (wc zqJ (zfm (names:=names) (s:=nth (cutL 44 [] ((nth (cutL 40 [] s) 1).take ((nth (cutL 40 [] s) 1).length-1))) i) hn (by have:=zde (c:=44) (s:=(nth (cutL 40 [] (s)) 1).take ((nth (cutL 40 [] (s)) 1).length-1)) (i:=i) od;simp at this;omega)) I I ?_);refine si [0] [_] zaL tz38 ?_;refine ap zaL zz38 I I I oe om ?_;refine evd [] [] (so zlJ ?_);refine dr (ar (xaj (i+1) ⟨⟨by omega,by omega⟩,od,sx ⟨⟨_,I,xaK ?_⟩,O⟩ ⟨?_,⟨zag ?_,O⟩⟩⟩));focus (rfl)
  focus ((show some (Res.box _)=some (Res.box _);rw[zfY od];simp;done))
  focus ((simp;omega))
  refine so zcK ?_;apply tv;refine rn0 (ra zcK) (.agg (qege ?_ ?_ ?_));rotate_left 3;refine sqF ?_;refine so zcK ?_;apply tv;refine rn0 (ra zcK) (.agg (qege ?_ ?_ ?_));rotate_left 3;all_goals (unfold zcs;rw[if_neg hc];first|rfl|(unfold zgx;dsimp only;by_cases hq:(cutL 40 [] (s)).length<2\/(nth (cutL 40 [] (s)) 1).length=0;all_goals first|(exfalso;exact(of_decide_eq_false h4) hq)|(exfalso;exact hq (xas h4))|(rw[if_pos hq];done)|(rw[if_pos hq];rfl)|(rw[if_neg hq,<-List.map_take,zmY od];done)))
def decV (n:Int):Str:=strN [IntKind.u8.wrap (48+n)]
theorem zbY (n:Int):(decV n).length=1:=rfl
def zi0 (n:Int):Str:=if n=0 then [] else if n = -1 then [42] else decV n
theorem zk7 (n:Int):(zi0 n).length<=1:=by unfold zi0;split;simp;split;simp;rw[zbY];omega
def zfQ (w:List Data) (t:Ty):Str:=if t.data = -1 then [73] else (nth w t.data.toNat).name++zi0 t.index
def zdc (w:List Data):Bool->List Ty->Str
 |_,[]=>[]
 |b,t::r=>((if b then [40] else [44])++zfQ w t)++zdc w false r
def zck (w:List Data) (c:Ctor):Str:=
 let o:=c.name++zdc w true c.args
 let p:=if 0<c.args.length then o++[41] else o
 if 0<c.index then (p++[58])++decV c.index else p
def zbZ (w:List Data):Bool->List Ctor->Str
 |_,[]=>[]
 |b,c::r=>((if b then [] else [124])++zck w c)++zbZ w false r
def zhw (w:List Data):Bool->List Data->Str
 |_,[]=>[]
 |b,d::r=>((if b then [] else [59])++(d.name++[61])++zbZ w true d.ctors)++zhw w false r
def zeU (w:List Data):Str:=zhw w true w
structure TB (w:List Data):Prop where
 len:w.length<=4
 dn:∀d∈w,d.name.length<=1/\d.ctors.length<=4
 cn:∀d∈w,∀c∈d.ctors,c.name.length<=5/\c.args.length<=3/\0<=c.index/\c.index<=3
 ar:∀d∈w,∀c∈d.ctors,∀t∈c.args,(t.data = -1\/(0<=t.data/\t.data.toNat<w.length))/\ -1<=t.index/\t.index<=3
theorem zgQ {w:List Data} (hv:zaT w=true):TB w:=by
 have hW:=(zcp w).1 hv;refine⟨hW.len,fun d hd=>?_,fun d hd c hc=>?_,fun d hd c hc t ht=>?_⟩
 ·have h:=hW.data d hd;have h1:=h.1;simp only[zbe,xad,xah] at h1;omega
 ·have h:=hW.ctor d hd c hc;simp only[zbz,zcL,zaC,xad,xah] at h;omega
 ·have h:=hW.ctor d hd c hc;simp only[zbz,xad,Bool.not_eq_true',List.any_eq_false] at h;have hax:zbH w.length t=true:=by
   have:=h.2.2.2 t ht;cases h:zbH w.length t with
   |true=>rfl
   |false=>rw[h] at this;exact absurd I this
  simp only[zbH,zaC,Bool.or_eq_true,xad,xah,and_true] at hax;omega
theorem zgi {w:List Data} (hb:TB w){t:Ty} (ht:t.data = -1\/(0<=t.data/\t.data.toNat<w.length)):(zfQ w t).length<=2:=by
 unfold zfQ;split
 ·simp
 ·rename_i h;have h1:=(hb.dn _ (zam (l:=w) (i:=t.data.toNat) od)).1;have h2:=zk7 t.index;simp only[xaa];omega
theorem zgt {w:List Data} (hb:TB w):∀(l:List Ty) (b:Bool),(∀t∈l,t.data = -1\/(0<=t.data/\t.data.toNat<w.length))->(zdc w b l).length<=3*l.length
 | [],_,_=>by simp[zdc]
 |t::r,b,h=>by
  have h1:=zgi hb (h t oe);have h2:=zgt hb r false (fun x hx=>h x (by simp[hx]));simp only[zdc,xaa,xab];have h3:(if b=true then [(40:UInt8)] else [44]).length=1:=by split<;>rfl
  omega
theorem znS {w:List Data} (hb:TB w){c:Ctor} (h1:c.name.length<=5/\c.args.length<=3) (h2:∀t∈c.args,t.data = -1\/(0<=t.data/\t.data.toNat<w.length)):(zck w c).length<=20:=by
 have h3:=zgt hb c.args true h2;unfold zck;dsimp only;have h4:=zbY c.index;split<;>split<;>simp only[xaa,xab,xak]<;>omega
theorem zjV {w:List Data}:∀(l:List Ctor) (b:Bool),(∀c∈l,(zck w c).length<=20)->(zbZ w b l).length<=21*l.length
 | [],_,_=>by simp[zbZ]
 |c::r,b,h=>by
  have h1:=h c oe;have h2:=zjV r false (fun x hx=>h x (by simp[hx]));simp only[zbZ,xaa,xab];have h3:(if b=true then ([]:Str) else [124]).length<=1:=by split<;>simp
  omega
theorem zb3 {n:Int} (h0:0<=n) (h9:n<=9):FnD Tryz.prog 157 [.d (.i n)] [] (.d (.str (decV n))) []:=by
 refine bd Tryz.f157 31 [30] [] fun _ _ _ _ hk=>?_;apply sq<;>intro h1 h1p h1s<;>(try simp only[Q] at h1p);exfalso;omega;apply sq<;>intro h2 h2p h2s<;>(try simp only[Q] at h2p);exfalso;omega;refine xaA (ι:=Unit) hk (fun x=>[(0,.d (.i n)),(3,.d (.str []))]) [12,13,14,15,16,17,18,19,20,21,22,23] (fun x=>[]) (fun x=>True) (fun x=>0) () O ⟨⟨_,I,xaK ?_⟩,⟨⟨_,I,xaL ?_⟩,O⟩⟩ O (fun x=>rfl) (fun x hg1=>?_);iterate 2 focus (first|rfl|omega)
 refine evc [30] [] ?_;apply sq<;>intro h3 h3p h3s<;>(try simp only[Q] at h3p);exfalso;omega;refine ar (xbv (by rw[un3];rfl) un5 .none I I ?_);refine si [0] [_] sl22 tz5 ?_;refine xbo sl22 un9 oi .none I I I (by first|rfl|exact zgZ _) ?_;refine evs [30] [] (xbt .none I I I (by simp[strN]) ?_);refine evs [30] [] (rq ?_);rotate_left;all_goals (rfl)
theorem zlq {n:Int} (h0 : -1<=n) (h9:n<=9):FnD Tryz.prog 279 [.d (.i n)] [] (.d (.str (zi0 n))) []:=by
 refine bd Tryz.f279 10 [] [] fun _ _ _ _ hk=>?_;apply sq<;>intro h1 h1p h1s<;>(try simp only[Q] at h1p);refine rq ?_;rotate_left;apply sq<;>intro h2 h2p h2s<;>(try simp only[Q] at h2p);refine rq ?_;rotate_left;refine wc zfL (zb3 od od) I I ?_;refine ev (rq ?_);rotate_left;all_goals (refine xam D.str ?_;unfold zi0;first|(rw[if_pos od];done)|(rw[if_neg od,if_pos od];done)|(rw[if_neg od,if_neg od];done)|(rw[if_pos od];rfl))
theorem zhH {w:List Data} (hb:TB w){a k:Int} (ha:a = -1\/(0<=a/\a.toNat<w.length)) (hk : -1<=k/\k<=3):FnD Tryz.prog 225 [.d (zah w),.agg [.d (.i a),.d (.i k)]] [] (.d (.str (zfQ w ⟨a,k⟩))) []:=by
 have hl:=zk7 k;have hdn:a≠ -1->(nth w a.toNat).name.length<=1:=fun h=>(hb.dn _ (zam (l:=w) (i:=a.toNat) od)).1;refine bd Tryz.f225 18 [17] [] fun _ _ _ _ hk=>?_;refine bx 3003 ?_;refine evs [17] [] ?_;apply sq<;>intro h1 h1p h1s<;>(try simp only[Q] at h1p);refine rq ?_;rotate_left;refine ixq (i:=a.toNat) sl23 I I od (zan od) I ?_;refine evd [17] [] (wc zu5 (zlq od od) I I ?_);refine xbt .none I I I (by have:=hdn h1p;omega) ?_;refine evd [17] [] (dr (rq ?_));rotate_left;all_goals (refine xam D.str ?_;unfold zfQ;first|(rw[if_pos ol];done)|(rw[if_neg ol];done))
theorem zc6 {w:List Data} (hb:TB w){s:Str}{l:List Ty}{k:Int} (hs:s.length<=5) (hl:l.length<=3) (hk:0<=k/\k<=3)
  (hl2:∀t∈l,(t.data = -1\/(0<=t.data/\t.data.toNat<w.length))/\ -1<=t.index/\t.index<=3):
  FnD Tryz.prog 281 [.d (zah w),.agg [.d (.str s),.d (zbU l),.d (.i k)]] [] (.d (.str (zck w ⟨s,l,k⟩))) []:=by
 have hall:=zgt hb l true (fun t ht=>(hl2 t ht).1);have hdl:=zbY k;refine bd Tryz.f281 47 [19,21,30,36,41,45] [] fun _ _ _ _ hk=>?_;refine bx 3003 ?_;refine evs [19,21,30,36,41,45] [] (xaA (ι:=List (Ty)×List (Ty)×(Str)) hk (fun x=>[(6,.d (.i (x.1.length:Int))),(5,.d (.str x.2.2))]) [9,10,11,12,13,14,15,16,17,18,19,20,21,22,23,24,25,26,27,28,29,30] (fun x=>[]) (fun x=>x.1++x.2.1=l/\x.2.2.length<=5+3*x.1.length/\x.2.2++zdc w (decide (x.1.length=0)) x.2.1=s++zdc w true l) (fun x=>x.2.1.length) ([],l,s) ⟨by simp,by simp;omega,by simp⟩ ⟨⟨_,I,xaK ?_⟩,⟨⟨_,I,xaL ?_⟩,O⟩⟩ O (fun x=>rfl) (fun x hg1=>?_));iterate 2 focus (first|rfl|(dsimp only;rw[if_pos od,xar];done))
 obtain⟨pre,rest,o⟩:=x;dsimp only at hg1 ⊢;refine evc [19,21,30,36,41,45] [] ?_;apply sq<;>intro h1 h1p h1s<;>(try simp only[Q] at h1p);rcases rest with _|⟨y,rest⟩
 ·exfalso;simp_all
 have hq:(zfQ w ⟨y.data,y.index⟩).length<=2:=zgi hb (hl2 y (by rw[<-hg1.1];simp)).1;apply sq<;>intro h2 h2p h2s<;>(try simp only[Q] at h2p);refine xbt .none I I I (by have hz:=xam List.length hg1.1;simp only[xaa,xab,xak] at hz ⊢;omega) ?_;refine evs [19,21,30,36,41,45] [] (ixq zaL I I I (zaE hg1.1) I (evs [19,21,30,36,41,45] [] (wc zqO (zhH hb (a:=y.data) (k:=y.index) (hl2 y (by rw[<-hg1.1];simp)).1 (hl2 y (by rw[<-hg1.1];simp)).2) I I ?_)));refine xbt .none I I I (by have hz:=xam List.length hg1.1;simp only[xaa,xab,xak] at hz ⊢;omega) ?_;refine evs [19,21,30,36,41,45] [] (ar (xaj ((pre++[y],rest,o++((if pre.length=0 then [40] else [44])++zfQ w y))) ⟨⟨(by have hz:=hg1.1;rw[<-hz];simp),⟨(by have hq:=zgi hb (hl2 y (by rw[<-hg1.1];simp)).1;have h3:(if pre.length=0 then [(40:UInt8)] else [44]).length=1:=(by split<;>rfl);simp only[xaa,xab,xak];omega),(by rw[<-hg1.2.2];simp[zdc])⟩⟩,oe,sx ⟨⟨_,I,xaK ?_⟩,⟨⟨_,I,xaL ?_⟩,O⟩⟩ O⟩));iterate 2 focus (first|(simp;done)|(dsimp only;rw[if_pos od,xar];done))
 refine xbt .none I I I (by have hz:=xam List.length hg1.1;simp only[xaa,xab,xak] at hz ⊢;omega) ?_;refine evs [19,21,30,36,41,45] [] (ixq zaL I I I (zaE hg1.1) I (evs [19,21,30,36,41,45] [] (wc zqO (zhH hb (a:=y.data) (k:=y.index) (hl2 y (by rw[<-hg1.1];simp)).1 (hl2 y (by rw[<-hg1.1];simp)).2) I I ?_)));refine xbt .none I I I (by have hz:=xam List.length hg1.1;simp only[xaa,xab,xak] at hz ⊢;omega) ?_;refine evs [19,21,30,36,41,45] [] (ar (xaj ((pre++[y],rest,o++((if pre.length=0 then [40] else [44])++zfQ w y))) ⟨⟨(by have hz:=hg1.1;rw[<-hz];simp),⟨(by have hq:=zgi hb (hl2 y (by rw[<-hg1.1];simp)).1;have h3:(if pre.length=0 then [(40:UInt8)] else [44]).length=1:=(by split<;>rfl);simp only[xaa,xab,xak];omega),(by rw[<-hg1.2.2];simp[zdc])⟩⟩,oe,sx ⟨⟨_,I,xaK ?_⟩,⟨⟨_,I,xaL ?_⟩,O⟩⟩ O⟩));iterate 2 focus (first|(simp;done)|(dsimp only;rw[if_pos od,xar];done)|(dsimp only;rw[if_neg od,xar];done))
 have hrest:rest=[]:=by
  rcases rest with _|⟨a,b⟩
  ·rfl
  ·exfalso;have hz:=xam List.length (hg1.1);simp only[xaa,xab,xac] at hz;omega
 subst hrest;apply sq<;>intro h3 h3p h3s<;>(try simp only[Q] at h3p);refine xbt .none I I I (by have hz:=xam List.length hg1.1;simp only[xaa,xab,xak] at hz ⊢;omega) ?_;refine evs [19,21,30,36,41,45] [] ?_;apply sq<;>intro h4 h4p h4s<;>(try simp only[Q] at h4p);refine xbt .none I I I (by have hz:=xam List.length hg1.1;simp only[xaa,xab,xak] at hz ⊢;omega) ?_;refine evs [19,21,30,36,41,45] [] (wc zfL (zb3 od od) I I ?_);refine xbt .none I I I (by have hz:=xam List.length hg1.1;simp only[xaa,xab,xak] at hz ⊢;omega) ?_;refine evs [19,21,30,36,41,45] [] (rq ?_);rotate_left;refine rq ?_;rotate_left;apply sq<;>intro h5 h5p h5s<;>(try simp only[Q] at h5p);refine xbt .none I I I (by have hz:=xam List.length hg1.1;simp only[xaa,xab,xak] at hz ⊢;omega) ?_;refine evs [19,21,30,36,41,45] [] (wc zfL (zb3 od od) I I ?_);refine xbt .none I I I (by have hz:=xam List.length hg1.1;simp only[xaa,xab,xak] at hz ⊢;omega) ?_;refine evs [19,21,30,36,41,45] [] (rq ?_);rotate_left;refine rq ?_;rotate_left;all_goals (refine xam D.str ?_;have hfin:=hg1.2.2;simp only[zdc,xaq] at hfin;unfold zck;dsimp only;rw[<-hfin];first|(rw[if_pos od,if_pos o9];done)|(rw[if_pos od,if_neg o9];done)|(rw[if_neg od,if_pos o9];done)|(rw[if_neg od,if_neg o9];done))
theorem zmk {w:List Data} (hb:TB w):FnD Tryz.prog 231 [.d (zah w)] [] (.d (.str (zeU w))) []:=by
 have hwl:=hb.len;have hct:∀d∈w,∀c∈d.ctors,(zck w c).length<=20:=fun d hd c hc=>znS hb ⟨(hb.cn d hd c hc).1,(hb.cn d hd c hc).2.1⟩ (fun t ht=>(hb.ar d hd c hc t ht).1);refine bd Tryz.f231 51 [15,22,23,37,49] [] fun _ _ _ _ hk=>?_;refine xaA (ι:=List (Data)×List (Data)×(Str)) hk (fun x=>[(4,.d (.i (x.1.length:Int))),(3,.d (.str x.2.2))]) [5,6,7,8,9,10,11,12,13,14,15,16,17,18,19,20,21,22,23,24,25,26,27,28,29,30,31,32,33,34,35,36,37,38,39,40,41,42,43,44,45,46,47,48,49] (fun x=>[]) (fun x=>x.1++x.2.1=w/\x.2.2.length<=100*x.1.length/\x.2.2++zhw w (decide (x.1.length=0)) x.2.1=zeU w) (fun x=>x.2.1.length) ([],w,[]) ⟨by simp,by simp,by simp[zeU]⟩ ⟨⟨_,I,xaK ?_⟩,⟨⟨_,I,xaL ?_⟩,O⟩⟩ O (fun x=>rfl) (fun x hg1=>?_);iterate 2 focus (first|rfl|(rw[hfin];simp;done))
 obtain⟨pre,rest,o⟩:=x;dsimp only at hg1 ⊢;refine evc [15,22,23,37,49] [] ?_;apply sq<;>intro h1 h1p h1s<;>(try simp only[Q] at h1p);rcases rest with _|⟨y,rest⟩
 ·exfalso;simp_all
 have hym:y∈w:=(by rw[<-hg1.1];simp);have hyd:=hb.dn y hym;have hpl:pre.length<4:=od;have hcl:=zjV (w:=w) y.ctors true (hct y hym);apply sq<;>intro h2 h2p h2s<;>(try simp only[Q] at h2p);refine xbt .none I I I (by(try simp only[xaa,xab,xak]);omega) (evs [15,22,23,37,49] [] (ixq sl23 I I I (zaE hg1.1) I (evs [15,22,23,37,49] [] (xbt .none I I I (by(try simp only[xaa,xab,xak]);omega) (xbt .none I I I (by(try simp only[xaa,xab,xak]);omega) (evs [15,22,23,37,49] [] (xaA (ι:=List (Ctor)×List (Ctor)×(Str)) hk (fun x=>[(5,.d (.i (x.1.length:Int))),(3,.d (.str x.2.2))]) [24,25,26,27,28,29,30,31,32,33,34,35,36,37,38,39,40,41,42,43,44,45,46,47,48,49] (fun x=>[]) (fun x=>x.1++x.2.1=y.ctors/\x.2.2.length<=100*pre.length+4+21*x.1.length/\x.2.2++zbZ w (decide (x.1.length=0)) x.2.1=(o++((if pre.length=0 then [] else [59])++(y.name++[61])))++zbZ w true y.ctors) (fun x=>x.2.1.length) ([],y.ctors,o++((if pre.length=0 then [] else [59])++(y.name++[61]))) ⟨by simp,(by have h3:(if pre.length=0 then ([]:Str) else [59]).length<=1:=(by split<;>simp);simp only[xaa,xab,xak];omega),by simp⟩ ⟨⟨_,I,xaK ?_⟩,⟨⟨_,I,xaL ?_⟩,O⟩⟩ O (fun x=>rfl) (fun x hg2=>?_))))))));iterate 2 focus (first|rfl|(rw[if_neg od];simp;done))
 obtain⟨pre2,rest2,q⟩:=x;dsimp only at hg2 ⊢;refine evc [15,22,23,37,49] [] (ixq sl23 I I I (zaE hg1.1) I (evs [15,22,23,37,49] [] ?_));apply sq<;>intro h3 h3p h3s<;>(try simp only[Q] at h3p);rcases rest2 with _|⟨c,rest2⟩
 ·exfalso;simp_all
 have hcm:=hct y hym c (by rw[<-hg2.1];simp);have hce:(zck w ⟨c.name,c.args,c.index⟩).length<=20:=hcm;have hp2:=xam List.length hg2.1;simp only[xaa,xab] at hp2;apply sq<;>intro h4 h4p h4s<;>(try simp only[Q] at h4p);refine xbt .none I I I (by(try simp only[xaa,xab,xak]);omega) (evs [15,22,23,37,49] [] (ixq sl23 I I I (zaE hg1.1) I (evs [15,22,23,37,49] [] (ixq zbx I I I (zaE hg2.1) I (evs [15,22,23,37,49] [] (wc zkL (zc6 hb (s:=c.name) (l:=c.args) (k:=c.index) (hb.cn y hym c (by rw[<-hg2.1];simp)).1 (hb.cn y hym c (by rw[<-hg2.1];simp)).2.1 (hb.cn y hym c (by rw[<-hg2.1];simp)).2.2 (hb.ar y hym c (by rw[<-hg2.1];simp))) I I ?_))))));refine xbt .none I I I (by(try simp only[xaa,xab,xak]);omega) (evs [15,22,23,37,49] [] (ar (xaj ((pre2++[c],rest2,q++((if pre2.length=0 then [] else [124])++zck w c))) ⟨⟨(by have hz:=hg2.1;rw[<-hz];simp),⟨(by have h3:(if pre2.length=0 then ([]:Str) else [124]).length<=1:=(by split<;>simp);simp only[xaa,xab,xak];omega),(by rw[<-hg2.2.2];simp[zbZ])⟩⟩,oe,sx ⟨⟨_,I,xaK ?_⟩,⟨⟨_,I,xaL ?_⟩,O⟩⟩ O⟩)));iterate 2 focus (first|rfl|(rw[if_neg od];simp;done))
 refine ixq sl23 I I I (zaE hg1.1) I (evs [15,22,23,37,49] [] (ixq zbx I I I (zaE hg2.1) I (evs [15,22,23,37,49] [] (wc zkL (zc6 hb (s:=c.name) (l:=c.args) (k:=c.index) (hb.cn y hym c (by rw[<-hg2.1];simp)).1 (hb.cn y hym c (by rw[<-hg2.1];simp)).2.1 (hb.cn y hym c (by rw[<-hg2.1];simp)).2.2 (hb.ar y hym c (by rw[<-hg2.1];simp))) I I ?_))));refine xbt .none I I I (by(try simp only[xaa,xab,xak]);omega) (evs [15,22,23,37,49] [] (ar (xaj ((pre2++[c],rest2,q++((if pre2.length=0 then [] else [124])++zck w c))) ⟨⟨(by have hz:=hg2.1;rw[<-hz];simp),⟨(by have h3:(if pre2.length=0 then ([]:Str) else [124]).length<=1:=(by split<;>simp);simp only[xaa,xab,xak];omega),(by rw[<-hg2.2.2];simp[zbZ])⟩⟩,oe,sx ⟨⟨_,I,xaK ?_⟩,⟨⟨_,I,xaL ?_⟩,O⟩⟩ O⟩)));iterate 2 focus (first|rfl|(rw[if_neg od];simp;done)|(rw[if_pos od];simp;done))
 have hrest2:rest2=[]:=by
  rcases rest2 with _|⟨a,b⟩
  ·rfl
  ·exfalso;have hz:=xam List.length (hg2.1);simp only[xaa,xab,xac] at hz;omega
 subst hrest2;refine ar ?_;have hfin:=hg2.2.2;simp only[zbZ,xaq] at hfin;refine xaj ((pre++[y],rest,o++((if pre.length=0 then [] else [59])++(y.name++[61])++zbZ w true y.ctors))) ⟨⟨(by have hz:=hg1.1;rw[<-hz];simp),⟨(by have h3:(if pre.length=0 then ([]:Str) else [59]).length<=1:=(by split<;>simp);simp only[xaa,xab,xak];omega),(by rw[<-hg1.2.2];simp[zhw])⟩⟩,oe,sx ⟨⟨_,I,xaK ?_⟩,⟨⟨_,I,xaL ?_⟩,O⟩⟩ O⟩;iterate 2 focus (first|rfl|(simp;done)|(rw[hfin];simp;done))
 refine ixq sl23 I I I (zaE hg1.1) I (evs [15,22,23,37,49] [] (xbt .none I I I (by(try simp only[xaa,xab,xak]);omega) (xbt .none I I I (by(try simp only[xaa,xab,xak]);omega) (evs [15,22,23,37,49] [] (xaA (ι:=List (Ctor)×List (Ctor)×(Str)) hk (fun x=>[(5,.d (.i (x.1.length:Int))),(3,.d (.str x.2.2))]) [24,25,26,27,28,29,30,31,32,33,34,35,36,37,38,39,40,41,42,43,44,45,46,47,48,49] (fun x=>[]) (fun x=>x.1++x.2.1=y.ctors/\x.2.2.length<=100*pre.length+4+21*x.1.length/\x.2.2++zbZ w (decide (x.1.length=0)) x.2.1=(o++((if pre.length=0 then [] else [59])++(y.name++[61])))++zbZ w true y.ctors) (fun x=>x.2.1.length) ([],y.ctors,o++((if pre.length=0 then [] else [59])++(y.name++[61]))) ⟨by simp,(by have h3:(if pre.length=0 then ([]:Str) else [59]).length<=1:=(by split<;>simp);simp only[xaa,xab,xak];omega),by simp⟩ ⟨⟨_,I,xaK ?_⟩,⟨⟨_,I,xaL ?_⟩,O⟩⟩ O (fun x=>rfl) (fun x hg2=>?_))))));iterate 2 focus (first|rfl|(rw[if_neg od];simp;done)|(rw[if_pos od];simp;done))
 obtain⟨pre2,rest2,q⟩:=x;dsimp only at hg2 ⊢;refine evc [15,22,23,37,49] [] (ixq sl23 I I I (zaE hg1.1) I (evs [15,22,23,37,49] [] ?_));apply sq<;>intro h5 h5p h5s<;>(try simp only[Q] at h5p);rcases rest2 with _|⟨c,rest2⟩
 ·exfalso;simp_all
 have hcm:=hct y hym c (by rw[<-hg2.1];simp);have hce:(zck w ⟨c.name,c.args,c.index⟩).length<=20:=hcm;have hp2:=xam List.length hg2.1;simp only[xaa,xab] at hp2;apply sq<;>intro h6 h6p h6s<;>(try simp only[Q] at h6p);refine xbt .none I I I (by(try simp only[xaa,xab,xak]);omega) (evs [15,22,23,37,49] [] (ixq sl23 I I I (zaE hg1.1) I (evs [15,22,23,37,49] [] (ixq zbx I I I (zaE hg2.1) I (evs [15,22,23,37,49] [] (wc zkL (zc6 hb (s:=c.name) (l:=c.args) (k:=c.index) (hb.cn y hym c (by rw[<-hg2.1];simp)).1 (hb.cn y hym c (by rw[<-hg2.1];simp)).2.1 (hb.cn y hym c (by rw[<-hg2.1];simp)).2.2 (hb.ar y hym c (by rw[<-hg2.1];simp))) I I ?_))))));refine xbt .none I I I (by(try simp only[xaa,xab,xak]);omega) (evs [15,22,23,37,49] [] (ar (xaj ((pre2++[c],rest2,q++((if pre2.length=0 then [] else [124])++zck w c))) ⟨⟨(by have hz:=hg2.1;rw[<-hz];simp),⟨(by have h3:(if pre2.length=0 then ([]:Str) else [124]).length<=1:=(by split<;>simp);simp only[xaa,xab,xak];omega),(by rw[<-hg2.2.2];simp[zbZ])⟩⟩,oe,sx ⟨⟨_,I,xaK ?_⟩,⟨⟨_,I,xaL ?_⟩,O⟩⟩ O⟩)));iterate 2 focus (first|rfl|(rw[if_neg od];simp;done))
 refine ixq sl23 I I I (zaE hg1.1) I (evs [15,22,23,37,49] [] (ixq zbx I I I (zaE hg2.1) I (evs [15,22,23,37,49] [] (wc zkL (zc6 hb (s:=c.name) (l:=c.args) (k:=c.index) (hb.cn y hym c (by rw[<-hg2.1];simp)).1 (hb.cn y hym c (by rw[<-hg2.1];simp)).2.1 (hb.cn y hym c (by rw[<-hg2.1];simp)).2.2 (hb.ar y hym c (by rw[<-hg2.1];simp))) I I ?_))));refine xbt .none I I I (by(try simp only[xaa,xab,xak]);omega) (evs [15,22,23,37,49] [] (ar (xaj ((pre2++[c],rest2,q++((if pre2.length=0 then [] else [124])++zck w c))) ⟨⟨(by have hz:=hg2.1;rw[<-hz];simp),⟨(by have h3:(if pre2.length=0 then ([]:Str) else [124]).length<=1:=(by split<;>simp);simp only[xaa,xab,xak];omega),(by rw[<-hg2.2.2];simp[zbZ])⟩⟩,oe,sx ⟨⟨_,I,xaK ?_⟩,⟨⟨_,I,xaL ?_⟩,O⟩⟩ O⟩)));iterate 2 focus (first|rfl|(rw[if_neg od];simp;done)|(rw[if_pos od];simp;done))
 have hrest2:rest2=[]:=by
  rcases rest2 with _|⟨a,b⟩
  ·rfl
  ·exfalso;have hz:=xam List.length (hg2.1);simp only[xaa,xab,xac] at hz;omega
 subst hrest2;refine ar ?_;have hfin:=hg2.2.2;simp only[zbZ,xaq] at hfin;refine xaj ((pre++[y],rest,o++((if pre.length=0 then [] else [59])++(y.name++[61])++zbZ w true y.ctors))) ⟨⟨(by have hz:=hg1.1;rw[<-hz];simp),⟨(by have h3:(if pre.length=0 then ([]:Str) else [59]).length<=1:=(by split<;>simp);simp only[xaa,xab,xak];omega),(by rw[<-hg1.2.2];simp[zhw])⟩⟩,oe,sx ⟨⟨_,I,xaK ?_⟩,⟨⟨_,I,xaL ?_⟩,O⟩⟩ O⟩;iterate 2 focus (first|rfl|(simp;done)|(rw[hfin];simp;done))
 have hrest:rest=[]:=by
  rcases rest with _|⟨a,b⟩
  ·rfl
  ·exfalso;have hz:=xam List.length (hg1.1);simp only[xaa,xab,xac] at hz;omega
 subst hrest;refine rq ?_;rotate_left;all_goals (refine xam D.str ?_;have hfin:=hg1.2.2;simp only[zhw,xaq] at hfin;exact hfin)
def pwL (s:Str):List Str:=cutL 59 [] s
def pwP (s:Str) (i:Nat):List Str:=cutL 61 [] (nth (pwL s) i)
def pwC (s:Str) (i:Nat):List Str:=cutL 124 [] (nth (pwP s i) 1)
def zbv (s:Str):Nat:=if s=[] then 0 else min (pwL s).length 5
def zcx (s:Str) (n:Nat):List Str:=(List.range n).map fun i=>nth (pwP s i) 0
def zjb (s:Str) (i:Nat):Data:=⟨nth (pwP s i) 0,((pwC s i).take 5).map (zcs (zcx s (zbv s)))⟩
def zcJ (s:Str) (n:Nat):List Data:=(List.range n).map (zjb s)
def zgI (s:Str):Bool:=(List.range (zbv s)).all (fun i=>decide ((pwP s i).length=2))&&(zaT (zcJ s (zbv s))&&decide (zeU (zcJ s (zbv s))=s))
def zdt (s:Str):List Data×Bool:=if zgI s then (zcJ s (zbv s),true) else ([],false)
theorem zor (s:Str):zbv s<=(pwL s).length/\zbv s<=5:=by unfold zbv;split<;>omega
theorem zd9 {s:Str}{i:Nat}:i<zbv s↔(i<(pwL s).length/\i<=4)/\s≠[]:=by
 unfold zbv;split
 ·rename_i h;simp[h]
 ·rename_i h;simp only[h,ne_eq,not_false_eq_true,and_true];omega
theorem zaU (s:Str) (n:Nat):(zcx s n).length=n:=by simp[zcx]
theorem zos (s:Str) (n:Nat):zcx s (n+1)=zcx s n++[nth (pwP s n) 0]:=by unfold zcx;rw[List.range_succ,xag];rfl
theorem zli (s:Str) (n:Nat):zcJ s (n+1)=zcJ s n++[zjb s n]:=by unfold zcJ;rw[List.range_succ,xag];rfl
theorem ztS {s:Str}{n m:Nat} (h:m<n):((zcx s n).map fun n=>[D.str n])[m]?=some [D.str (nth (pwP s m) 0)]:=by
 simp[zcx,h]
theorem zpC {s:Str}{i:Nat} (h:i<(pwL s).length):(nth (pwL s) i).length<=s.length:=zde h
theorem zjE {s:Str}{i j:Nat} (h:i<(pwL s).length) (hj:j<(pwP s i).length):(nth (pwP s i) j).length<=s.length:=Nat.le_trans (zde hj) (zpC h)
theorem zt0 {s:Str}{i k:Nat} (h:k<(pwC s i).length):(nth (pwC s i) k).length<=(nth (pwP s i) 1).length:=zde h
theorem zr1 {α:Type}{l:List α}{i:Nat} (h:i=5\/(i<=5/\l.length<=i)):l.take i=l.take 5:=by
 rcases h with rfl|⟨h1,h2⟩
 ·rfl
 ·rw[List.take_of_length_le h2,List.take_of_length_le od]
theorem zqh {c:UInt8}{s:Str}:(nth (cutL c [] s) 0).length<=s.length:=zde (zfo c s [])
theorem zok {names:List Str}{s:Str}:(zcs names s).name.length<=s.length/\(zcs names s).args.length<=4:=by
 have key:∀(ix:Int) (t:Str),(zgx names ix t).name.length<=t.length/\(zgx names ix t).args.length<=4:=by
  intro ix t;refine⟨zqh, ?_⟩;unfold zgx;dsimp only;split
  ·simp
  ·simp only[xac,List.length_take];omega
 unfold zcs;split
 ·have:=key (((nth s (s.length-1)).toNat:Int)-48) (s.take (s.length-2));rw[List.length_take] at this;omega
 ·exact key 0 s
theorem zrJ {s:Str} (hs:s.length<=1000000) (h2:∀j,j<zbv s->(pwP s j).length=2):WSmall (zcJ s (zbv s)):=by
 have hl:=zor s;have hd:∀d∈zcJ s (zbv s),∃i,i<zbv s/\d=zjb s i:=fun d hd=>by
  obtain⟨i,hi,rfl⟩:=List.mem_map.1 hd;exact⟨i,List.mem_range.1 hi,rfl⟩
 refine⟨by simp only[zcJ,xac,List.length_range];omega,fun d hd'=>?_,fun d hd' c hc=>?_⟩
 ·obtain⟨i,hi,rfl⟩:=hd d hd';have:=zjE (s:=s) (i:=i) (j:=0) od (by rw[h2 i hi];omega);refine⟨?_, ?_⟩
  ·show(nth (pwP s i) 0).length<=_;omega
  ·simp only[zjb,xac,List.length_take];omega
 ·obtain⟨i,hi,rfl⟩:=hd d hd';obtain⟨t,ht,rfl⟩:=List.mem_map.1 hc;have h3:=zjE (s:=s) (i:=i) (j:=1) od (by rw[h2 i hi];omega);have h4:t.length<=(nth (pwP s i) 1).length:=by simpa using zgy 124 (nth (pwP s i) 1) [] t (List.mem_of_mem_take ht)
  have h5:=zok (names:=zcx s (zbv s)) (s:=t);omega
theorem zvU {s:Str} (hs:s.length<=1000000):FnD Tryz.prog 74 [.d (.str s),.d (.int .u8 59)] [] (.d (zb0 (pwL s))) []:=zbN (s:=s) (c:=59) od
theorem zsY {s:Str}{i:Nat} (hs:s.length<=1000000) (h:i<(pwL s).length):FnD Tryz.prog 74 [.d (.str (nth (pwL s) i)),.d (.int .u8 61)] [] (.d (zb0 (pwP s i))) []:=zbN (s:=nth (pwL s) i) (c:=61) (by have:=zpC h;omega)
theorem zvT {s:Str}{i:Nat} (hs:s.length<=1000000) (h:i<(pwL s).length) (h2:(pwP s i).length=2):FnD Tryz.prog 74 [.d (.str (nth (pwP s i) 1)),.d (.int .u8 124)] [] (.d (zb0 (pwC s i))) []:=
 zbN (s:=nth (pwP s i) 1) (c:=124) (by have:=zjE (j:=1) h od;omega)
theorem zjP {w:List Data} (hs:WSmall w):FnD Tryz.prog 68 [.d (zah w)] [] (.d (.bool (zaT w))) []:=by
 rw[<-zf2];exact zfO hs
theorem zph {s:Str} (h:zgI s=false):zdt s=([],false):=by unfold zdt;rw[if_neg (by rw[h];simp)]
theorem zsm {s:Str} (h:zgI s=true):zdt s=(zcJ s (zbv s),true):=by unfold zdt;rw[if_pos h]
theorem zsl {s:Str}{i:Nat} (h:i<zbv s) (h2:¬(pwP s i).length=2):zgI s=false:=by
 unfold zgI;rw[zc1 h (by simpa using h2),Bool.false_and]
theorem zmE {s:Str} (h:∀j,j<zbv s->(pwP s j).length=2):zgI s=(zaT (zcJ s (zbv s))&&decide (zeU (zcJ s (zbv s))=s)):=by
 unfold zgI;rw[zdo (fun i hi=>by simpa using h i hi),Bool.true_and]
theorem zjm {s:Str} (hs:s.length<=100000):FnD Tryz.prog 146 [.d (.str s)] [] (.tup [.d (zah (zdt s).1),.d (.bool (zdt s).2)]) []:=by
 have hl:=zor s;have hcl:(pwL s).length<=s.length+1:=zd4 59 s [];have hccl:∀i,(pwC s i).length<=(nth (pwP s i) 1).length+1:=fun i=>zd4 124 _ [];have hnl:=zaU s;refine bd Tryz.f146 101 [] [5,17,21] fun _ _ _ _ hk=>?_;refine xbS 1 sl23 .none I I (ev (xbS 2 sl84 .none I I (ev (wc zfE (zvU (s:=s) od) I I ?_))));refine ev (xaA (ι:=Nat) hk (fun i=>[(7,.d (.i (i:Int))),(5,.gl 2 ((zcx s i).map fun n=>[D.str n]))]) [2,3,8,17,18,19,20,21,22,23,24,25,26,27,28,29,30,31,32,33,34,35,36,37,38,39,40,41,42,43,44,45] (fun i=>[(2,some (.tok (((zcx s i).map fun n=>[D.str n])).length 1))]) (fun i=>i<=zbv s/\∀j,j<i->(pwP s j).length=2) (fun i=>zbv s-i) 0 ⟨by omega,fun j h=>absurd h od⟩ ⟨⟨_,I,xaK ?_⟩,⟨⟨_,I,LeA.glg ?_⟩,O⟩⟩ ⟨zag ?_,O⟩ (fun x=>rfl) (fun i hg1=>?_));iterate 3 focus (rfl)
 refine evc [] [5,17,21] (xaC (xbh 12 [(28,.d (.bool (decide (i<zbv s))))] [17,18,19,20,21,22,23,24,25,26,27] ?_ ?_));refine ev ?_;apply sq<;>intro h1 h1p h1s<;>(try simp only[Q,zaU] at h1p);apply sq<;>intro h2 h2p h2s<;>(try simp only[Q,zaU] at h2p);focus (exact jn I (xaJ (by(rw[xat];simp_all[zd9];omega))))
 focus (exact jn I (xaJ (by(rw[xat];simp_all[zd9];omega))))
 refine sqF ?_;focus (exact jn I (xaJ (by(rw[xat];simp_all[zd9];omega))))
 refine xbg ?_;apply tv;apply sq<;>intro h3 h3p h3s<;>(try simp only[Q,zaU] at h3p);refine ixq sl84 I I I (zan od) I ?_;refine ev (wc zfE (zsY (s:=s) (i:=i) od od) I I ?_);refine ev ?_;apply sq<;>intro h4 h4p h4s<;>(try simp only[Q,zaU] at h4p);refine xbR sl23 .none I (ev (rn0 (r2 I I) (.tup (qee ?_ ?_))));rotate_left 2;refine ixq (i:=0) sl84 I I I (zan od) I ?_;refine ev (si [0] [_] sl84 tz9 ?_);refine ap sl84 zz9 I I I oe (by simp[zaU,zcJ];omega) ?_;refine ev (ar (xaj (i+1) ⟨⟨by omega,zbb hg1.2 od⟩,od,sx ⟨⟨_,I,xaK ?_⟩,⟨⟨_,I,LeA.glg ?_⟩,O⟩⟩ ⟨zag ?_,O⟩⟩));iterate 3 focus (first|rfl|(rw[zos];simp;done))
 obtain rfl:i=zbv s:=od;refine xaA (ι:=Nat) hk (fun m=>[(9,.d (.i (m:Int))),(4,.gl 1 ((zcJ s m).map Data.c))]) [10,11,12,46,47,48,49,50,51,52,53,54,55,56,57,58,59,60,61,62,63,64,65,66,67,68,69,70,71,72,73,74,75,76,77,78,79,80,81,82,83,84,85,86,87,88,89] (fun m=>[(1,some (.tok (((zcJ s m).map Data.c)).length 2))]) (fun m=>m<=zbv s) (fun m=>zbv s-m) 0 od ⟨⟨_,I,xaK ?_⟩,⟨⟨_,I,LeA.glg ?_⟩,O⟩⟩ ⟨zag ?_,O⟩ (fun x=>rfl) (fun m hg2=>?_);iterate 3 focus (rfl)
 refine evc [] [5,17,21] ?_;apply sq<;>intro h5 h5p h5s<;>(try simp only[Q,zaU] at h5p);refine ixq sl84 I I I (zan od) I ?_;refine ev (wc zfE (zsY (s:=s) (i:=m) od od) I I ?_);refine ixq (i:=1) sl84 I I I (zan (by(rw[hg1.2 m od];omega))) I ?_;refine ev (wc zfE (zvT (s:=s) (i:=m) od od (hg1.2 m od)) I I ?_);refine ev (xbD sl84 .none I I I I (ztS od) I ?_);refine ev (bu [0] [_] ztk ?_);refine ab 3011 zjG ?_;refine so zqt ?_;apply tv;refine xaD 3011 1 3 3 I I I I (xaA (ι:=Nat) hk (fun k=>[(12,.d (.i (k:Int)))]) [65,66,67,68,69,70,71,72,73,74,75,76,77,78,79,80,81,82,83,84,85] (fun k=>[(3011,some (.box [.d (.str (nth (pwP s m) 0)),.gl 3 ((((pwC s m).map (zcs (zcx s (zbv s)))).take k).map Ctor.c)])),(3,some (.tok ((((pwC s m).map (zcs (zcx s (zbv s)))).take k).map Ctor.c).length 3))]) (fun k=>k<=5/\k<=(pwC s m).length) (fun k=>5-k) 0 ⟨by omega,by omega⟩ ⟨⟨_,I,xaK ?_⟩,O⟩ ⟨?_,⟨zag ?_,O⟩⟩ (fun x=>rfl) (fun k hg3=>?_));focus (rfl)
 focus (rfl)
 focus (rfl)
 refine evc [] [5,17,21] (xaC (xbh 8 [(72,.d (.bool (decide (k<(pwC s m).length/\k<=4))))] [65,66,67,68,69,70,71] ?_ ?_));refine ev ?_;apply sq<;>intro h6 h6p h6s<;>(try simp only[Q,zaU] at h6p);focus (exact jn I (xaJ (by(rw[xat];simp_all[zd9];omega))))
 focus (exact jn I (xaJ (by(rw[xat];simp_all[zd9];omega))))
 refine xbg ?_;apply tv;apply sq<;>intro h7 h7p h7s<;>(try simp only[Q,zaU] at h7p);refine ixq sl84 I I I (zan od) I ?_;refine evd [] [] (Walk.call (cr:=[]) zuU (ziE (names:=zcx s (zbv s)) (s:=nth (pwC s m) k) (by rw[hnl];omega) (by have h1:=zjE (s:=s) (i:=m) (j:=1) od (by rw[hg1.2 m od];omega);have h2:=zt0 (s:=s) (i:=m) (k:=k) od;omega)) I .none I I (.cons (.gl _ _) (.cons (.refl _) .nil)) O I I I ?_);refine si [0] [_] zbx zfh ?_;refine ap zbx ztt I I I oe (by simp[zaU,zcJ];omega) ?_;refine evd [] [] (so zhd ?_);refine dr (ar (xaj (k+1) ⟨⟨by omega,by omega⟩,od,sx ⟨⟨_,I,xaK ?_⟩,O⟩ ⟨?_,⟨zag ?_,O⟩⟩⟩));focus (rfl)
 focus ((show some (Res.box _)=some (Res.box _);rw[zfY od];simp;done))
 focus ((simp;omega))
 refine si [0] [_] sl23 zjG ?_;refine ap sl23 zqB I I I oe (by simp[zaU,zcJ];omega) ?_;refine ev (ar (xaj (m+1) ⟨od,od,sx ⟨⟨_,I,xaK ?_⟩,⟨⟨_,I,LeA.glg ?_⟩,O⟩⟩ ⟨zag ?_,O⟩⟩));iterate 3 focus (first|rfl|(rw[zli];simp;done)|(rw[zli,xag];simp only[xaf,List.map_nil,zjb,Data.c];rw[<-List.map_take,zr1 od];done))
 obtain rfl:m=zbv s:=od;refine xaC (xbh 9 [(98,.d (.bool (!(zaT (zcJ s (zbv s))&&decide (zeU (zcJ s (zbv s))=s)))))] [90,91,92,93,94,95,96,97] ?_ ?_);refine ev (Walk.call (cr:=[]) zsW (zjP (zrJ od hg1.2)) I .none I I (.cons (.gl _ _) .nil) O I I I ?_);refine ev ?_;apply sq<;>intro h8 h8p h8s<;>(try simp only[Q,zaU] at h8p);focus (exact jn I (xaJ (by(rw[xat];simp_all[zd9];done))))
 refine Walk.call (cr:=[]) zuV (zmk (zgQ ol)) I (.some I I h8) I I (.cons (.gl _ _) .nil) O I I I ?_;refine evs [] [(93,false)] ?_ ⟨⟨_,I,h8⟩,O⟩;focus (exact jn I (xaJ (by(rw[xat];simp_all[zd9];done))))
 refine xbg ?_;apply tv;apply sq<;>intro h9 h9p h9s<;>(try simp only[Q,zaU] at h9p);refine xbR sl23 .none I (ev (rn0 (r2 I I) (.tup (qee ?_ ?_))));rotate_left 2;refine rn0 (r2 I I) (.tup (qge ?_ ?_));rotate_left 2;all_goals (first|(have hq:=zsl (s:=s) (i:=i) h3p (fun h=>h4p od);rw[zph hq];all_goals rfl)|(have hr:=zmE hg1.2;rw[h9s] at hr;rw[zph hr];all_goals rfl)|(have hr:=zmE hg1.2;rw[h9s] at hr;rw[zsm hr];all_goals rfl))
def zvV (n:Nat):UInt8:=UInt8.ofNat (IntKind.u8.wrap (48+(n:Int) % 10)).toNat
def digs (n:Nat):Str:=if n=0 then [] else digs (n / 10)++[zvV n]
def zpr (n:Nat):Str:=109::digs n
def Ty.one (k:Int) (_:Ty):Ty:=⟨k,k+1⟩
def Ty.sz (_:Ty):Int:=2
def Ctor.one (k:Int) (x:Ctor):Ctor:=⟨zpr k.toNat,mkL Ty.one Ty.sz (k+1) x.args,k+1+szL Ty.sz x.args⟩
def Ctor.sz (x:Ctor):Int:=2+szL Ty.sz x.args
def Data.one (k:Int) (x:Data):Data:=⟨zpr k.toNat,mkL Ctor.one Ctor.sz (k+1) x.ctors⟩
def Data.sz (x:Data):Int:=1+szL Ctor.sz x.ctors
def Pat.op:Pat->Int | .mk a0 _ _ _ _ _=>a0
def Pat.ctor:Pat->Int | .mk _ a1 _ _ _ _=>a1
def Pat.n:Pat->Int | .mk _ _ a2 _ _ _=>a2
def Pat.m:Pat->Int | .mk _ _ _ a3 _ _=>a3
def Pat.var:Pat->Int | .mk _ _ _ _ a4 _=>a4
def Pat.kids:Pat->List Pat | .mk _ _ _ _ _ k=>k
abbrev Pat.cc (v:Pat):List D:=[.i v.op,.i v.ctor,.i v.n,.i v.m,.i v.var,.sl (Pat.cs v.kids)]
theorem xaM (v:Pat):v.c=v.cc:=by cases v;rfl
theorem Pat.eta (v:Pat):Pat.mk v.op v.ctor v.n v.m v.var v.kids=v:=by cases v;rfl
theorem xaO {pre:List Pat}{x:Pat}{rest xs:List Pat} (h:pre++x::rest=xs):(Pat.cs xs)[pre.length]?=some x.cc:=by rw[xaR,<-xaM];exact zaE h
mutual
def zqi:Pat->Pat->Bool
 | .mk a0 a1 a2 a3 a4 ks,.mk b0 b1 b2 b3 b4 ls=>decide (a0=b0)&&(decide (a1=b1)&&(decide (a2=b2)&&(decide (a3=b3)&&(decide (a4=b4)&&zlg ks ls))))
def zlg:List Pat->List Pat->Bool
 | [],[]=>true
 |x::r,y::s=>zqi x y&&zlg r s
 |_,_=>false
end
mutual
def Pat.ok:Pat->Prop
 | .mk _ _ _ _ _ ks=>ks.length<=1000000000000/\Pats.ok ks
def Pats.ok:List Pat->Prop
 | []=>True
 |v::r=>v.ok/\Pats.ok r
end
theorem xaX:∀ {l:List Pat},Pats.ok l->∀v,v∈l->v.ok
 |x::r,h,v,hv=>by
  simp only[Pats.ok] at h;rcases List.mem_cons.1 hv with rfl|hv
  ·exact h.1
  ·exact xaX h.2 v hv
mutual
def Pat.size:Pat->Nat
 | .mk _ _ _ _ _ ks=>1+Pats.size ks
def Pats.size:List Pat->Nat
 | []=>0
 |v::r=>v.size+Pats.size r
end
theorem xaY:∀ {l:List Pat}{v:Pat},v∈l->v.size<=Pats.size l
 |x::r,v,hv=>by
  simp only[Pats.size];rcases List.mem_cons.1 hv with rfl|hv
  ·omega
  ·have:=xaY hv;omega
theorem zb2 {l:List Pat}{i:Nat} (h:i<l.length):(Pat.cs l)[i]?=some (nth l i).cc:=by
 rw[xaR,<-xaM];exact zan h
theorem xaU (v:Pat):v.ok↔v.kids.length<=1000000000000/\Pats.ok v.kids:=by cases v;rfl
theorem xaV (v:Pat):v.size=1+Pats.size v.kids:=by cases v;rfl
mutual
theorem zqj:∀v:Pat,zqi v v=true
 | .mk _ _ _ _ _ ks=>by simp[zqi,zjY ks]
theorem zjY:∀l:List Pat,zlg l l=true
 | []=>rfl
 |v::r=>by simp[zlg,zqj v,zjY r]
end
theorem Pat.c_len (v:Pat):v.c.length=6:=by cases v;rfl
theorem xaT {l:List Pat}:∀x,x∈Pat.cs l->x.length=6:=by
 intro x hx;rw[xaR] at hx;obtain⟨y,_,rfl⟩:=List.mem_map.1 hx;exact y.c_len
mutual
def mPat:Pat->Nat
 | .mk _ _ _ _ _ ks=>zk8 ks
def zk8:List Pat->Nat
 | []=>0
 |v::r=>1+mPat v+zk8 r
end
mutual
def Pat.szM:Pat->Int
 | .mk _ _ _ _ _ ks=>5+Pats.szM ks
def Pats.szM:List Pat->Int
 | []=>0
 |v::r=>v.szM+Pats.szM r
end
mutual
def Pat.one (k:Int):Pat->Pat
 | .mk _ _ _ _ _ ks=> .mk k (k+1) (k+1+1) (k+1+1+1) (k+1+1+1+1) (Pats.one (k+1+1+1+1+1) ks)
def Pats.one (k:Int):List Pat->List Pat
 | []=>[]
 |v::r=>v.one k::Pats.one (k+v.szM) r
end
mutual
theorem Pat.szM_nn:∀v:Pat,0<=v.szM
 | .mk _ _ _ _ _ ks=>by have:=xa2 ks;simp only[Pat.szM];omega
theorem xa2:∀l:List Pat,0<=Pats.szM l
 | []=>by simp[Pats.szM]
 |v::r=>by have:=Pat.szM_nn v;have:=xa2 r;simp only[Pats.szM];omega
end
mutual
theorem Pat.szM_le:∀v:Pat,v.szM<=5+5*(mPat v:Int)
 | .mk _ _ _ _ _ ks=>by have:=xa1 ks;simp only[Pat.szM,mPat];omega
theorem xa1:∀l:List Pat,Pats.szM l<=5*(zk8 l:Int)
 | []=>by simp[Pats.szM,zk8]
 |v::r=>by have:=Pat.szM_le v;have:=xa1 r;simp only[Pats.szM,zk8];omega
end
structure Vt where
 var:Int
 ty:Ty
 deriving DecidableEq,Inhabited
abbrev Vt.c (t:Vt):List D:=[.i t.var,.i t.ty.data,.i t.ty.index]
abbrev zcS (l:List Vt):D:= .sl (l.map Vt.c)
def zao (w:List Data) (t:Ty):List Int:=if t.data = -1 then [] else za8 w t
def zab (w:List Data) (t:Ty) (p:Pat):List Ty:=if p.op=4 then zae w t p.ctor else if p.op=5 then [t,t] else if p.op=6 then [t] else []
def ownP (w:List Data) (t:Ty) (p:Pat):Bool:=decide (((p.op=2\/p.op=6)->0<=p.var/\p.var<=5)/\(¬(p.op=2\/p.op=6)->p.var=0)/\(p.op≠3->p.n=0/\p.m=0)/\(p.op≠4->p.ctor=0)/\
 (p.op=1\/p.op=2\/p.op=5\/p.op=6\/(p.op=3/\t.data = -1/\0<=p.n/\p.n<=p.m/\p.m<=9)\/(p.op=4/\p.ctor∈zao w t)))
def okP (w:List Data) (t:Ty) (p:Pat):Bool:=ownP w t p&&decide (p.kids.length=(zab w t p).length)
def zcF (w:List Data) (t:Ty) (p:Pat):List Ty:=if p.op=4/\p.ctor∉zao w t then [] else zab w t p
def zas (w:List Data):Nat->Ty->Pat->Bool
 |0,_,_=>false
 |n+1,t,p=>ownP w t p&&all2 (zas w n) (zab w t p) p.kids
def zaQ (t:Ty) (p:Pat):List Vt:=if p.op=2\/p.op=6 then [⟨p.var,t⟩] else []
def za5 (f:Ty->Pat->List Vt):List Ty->List Pat->List Vt
 |a::r,b::s=>f a b++za5 f r s
 |_,_=>[]
def zcU (w:List Data) (t:Ty) (p:Pat):List Ty:=if p.op=5 then (zab w t p).take 1 else zab w t p
def zaG (w:List Data):Nat->Ty->Pat->List Vt
 |0,_,_=>[]
 |n+1,t,p=>zaQ t p++za5 (zaG w n) (zcU w t p) p.kids
def zbE (l:List Vt) (n:Int):Int:=idxF (fun v=>decide (v.var=n)) l 0
def zdH (a b:List Vt):Bool:=a.all (fun v=>decide (0<=zbE b v.var/\(nth b (zbE b v.var).toNat).ty=v.ty))&&decide (a.length=b.length)
def znj (l:List Vt):Bool:=(List.range l.length).all fun(i:Nat)=>decide (zbE l (nth l i).var=(i:Int))
def zea (a b:List Vt):Bool:=decide (a.length=b.length)&& !a.any fun v=> !decide (v∈b)
def zcE (l:List Vt):Bool:=decide (l.map Vt.var).Nodup
def linP (w:List Data):Nat->Ty->Pat->Bool
 |0,_,_=>true
 |n+1,t,p=>all2 (linP w n) (zab w t p) p.kids&&(if p.op=5 then zdH (zaG w n t (nth p.kids 0)) (zaG w n t (nth p.kids 1)) else znj (zaG w (n+1) t p))
theorem ze0 (l:List Vt) (n:Int):(zbE l n = -1/\∀v∈l,v.var≠n)\/∃k:Nat,zbE l n=k/\k<l.length/\(nth l k).var=n/\∀j,j<k->(nth l j).var≠n:=by
 have key:∀(l:List Vt) (i:Nat),(idxF (fun v=>decide (v.var=n)) l i = -1/\∀v∈l,v.var≠n)\/∃k:Nat,idxF (fun v=>decide (v.var=n)) l i=((i+k:Nat):Int)/\k<l.length/\(nth l k).var=n/\∀j,j<k->(nth l j).var≠n:=by
  intro l;induction l with
  |nil=>intro i;exact .inl ⟨I,by simp⟩
  |cons x r ih=>
   intro i;unfold idxF;by_cases h:x.var=n
   ·exact .inr ⟨0,by simp[h],by simp,by simpa [nth] using h,fun j hj=>absurd hj od⟩
   ·rcases ih (i+1) with ⟨h1,h2⟩|⟨k,h1,h2,h3,h4⟩
    ·exact .inl ⟨by simpa [h] using h1,fun v hv=>by rcases List.mem_cons.1 hv with rfl|hv;exact h;exact h2 v hv⟩
    ·refine .inr ⟨k+1, ?_,by simpa using h2,by simpa [nth] using h3,fun j hj=>?_⟩
     ·simp only[h,decide_false,Bool.false_eq_true,if_false];rw[h1];congr 1;omega
     ·cases j with
      |zero=>simpa [nth] using h
      |succ j=>simpa [nth] using h4 j od
 rcases key l 0 with h|⟨k,h1,h2⟩
 ·exact .inl h
 ·exact .inr ⟨k,by unfold zbE;simpa using h1,h2⟩
theorem zmN {l:List Vt}:(l.map Vt.var).Nodup↔∀i j,i<j->j<l.length->(nth l i).var≠(nth l j).var:=by
 unfold List.Nodup;rw[List.pairwise_iff_getElem];constructor
 ·intro h i j hij hj;have:=h i j om (by simpa using hj) hij;simp only[List.getElem_map] at this;rw[zaV od,zaV hj];exact this
 ·intro h i j hi hj hij;simp only[xac] at hi hj;simp only[List.getElem_map];rw[<-zaV hi,<-zaV hj];exact h i j hij hj
theorem zi9 {l:List Vt} (h:(l.map Vt.var).Nodup){i j:Nat} (hi:i<l.length) (hj:j<l.length) (he:(nth l i).var=(nth l j).var):i=j:=by
 have h1:=zmN.1 h;rcases Nat.lt_trichotomy i j with h2|h2|h2
 ·exact absurd he (h1 i j h2 hj)
 ·exact h2
 ·exact absurd he.symm (h1 j i h2 hi)
theorem znV (l:List Vt):znj l=zcE l:=by
 unfold zcE;by_cases h:(l.map Vt.var).Nodup
 ·rw[xax h];refine zdo (fun i hi=>xax ?_);rcases ze0 l (nth l i).var with ⟨_,h2⟩|⟨k,h1,h2,h3,h4⟩
  ·exact absurd I (h2 _ (zam hi))
  ·rw[h1,zi9 h h2 hi h3]
 ·rw[xaw h];cases hd:znj l with
  |false=>rfl
  |true=>
   refine absurd ?_ h;rw[zmN];intro i j hij hj he;have h1:=List.all_eq_true.1 hd i (List.mem_range.2 od);have h2:=List.all_eq_true.1 hd j (List.mem_range.2 hj);simp only[xah] at h1 h2;rw[he,h2] at h1;omega
theorem zpV {a b:List Vt} (hb:zcE b=true):zdH a b=zea a b:=by
 unfold zcE at hb;simp only[xah] at hb;unfold zdH zea;rw[Bool.and_comm];congr 1
 rw[xat];simp only[List.all_eq_true,Bool.not_eq_true',List.any_eq_false,xah,Bool.not_eq_true,decide_eq_false_iff_not,Decidable.not_not];refine forall_congr' fun v=>forall_congr' fun hv=>?_;rcases ze0 b v.var with ⟨h1,h2⟩|⟨k,h1,h2,h3,h4⟩
 ·rw[h1];exact⟨fun h=>absurd h.1 od,fun h=>absurd rfl (h2 v h)⟩
 ·rw[h1];simp only[Int.toNat_natCast];constructor
  ·rintro ⟨_,h⟩
   have:nth b k=v:=by
    have e:∀x y:Vt,x.var=y.var->x.ty=y.ty->x=y:=fun x y h1 h2=>by cases x;cases y;simp_all
    exact e _ _ h3 h
   rw[<-this];exact zam h2
  ·intro h;refine⟨by omega, ?_⟩;obtain⟨j,hj,he⟩:=List.getElem_of_mem h;have h5:nth b j=v:=by rw[zaV hj];exact he
   have:=zi9 hb h2 hj (by rw[h3,h5]);rw[this,h5]
def zbj (g:Ty->Pat->Int->Option (List Vt)×Int) (or:Bool):List Ty->List Pat->Nat->List Vt->Int->Option (List Vt)×Int
 |a::r,b::s,i,acc,c=>match (g a b c).1 with
  |none=>(none,(g a b c).2)
  |some l=>if or=true/\i=1 then (if zea acc l=true then zbj g or r s (i+1) acc (g a b c).2 else (none,(g a b c).2)) else zbj g or r s (i+1) (acc++l) (g a b c).2
 |_,_,_,acc,c=>(some acc,c)
def finV (r:Option (List Vt)×Int):Option (List Vt)×Int:=match r.1 with
 |none=>r
 |some l=>if zcE l=true then r else (none,r.2)
def zaI (w:List Data):Nat->Ty->Pat->Int->Option (List Vt)×Int
 |0,_,_,c=>(none,c+1)
 |n+1,t,p,c=>if 60<c+1 then (none,c+1) else if okP w t p=true then finV (zbj (zaI w n) (decide (p.op=5)) (zab w t p) p.kids 0 (zaQ t p) (c+1)) else (none,c+1)
def zbO (w:List Data) (n:Nat) (t:Ty) (p:Pat) (c:Int):Bool:=zas w n t p&&(decide (c+(p.size:Int)<=60)&&linP w n t p)
theorem zgW (w:List Data):∀(n:Nat) (t:Ty) (p:Pat),zas w n t p=true->linP w n t p=true->zcE (zaG w n t p)=true
 |0,t,p,h,_=>by simp[zas] at h
 |n+1,t,p,h,hl=>by
  by_cases h5:p.op=5
  ·simp only[zas,linP,xad,if_pos h5] at h hl;have e1:zab w t p=[t,t]:=by unfold zab;rw[if_neg od,if_pos h5]
   rw[e1] at h hl;rcases hk:p.kids with _|⟨x,_|⟨y,_|⟨z,r⟩⟩⟩
   ·rw[hk] at h;simp[all2] at h
   ·rw[hk] at h;simp[all2] at h
   ·rw[hk] at h hl;simp only[all2,xad,and_true] at h hl;have:=zgW w n t x h.2.1 hl.1.1;have e2:zaG w (n+1) t p=zaG w n t x:=by
     simp only[zaG,zaQ,zcU,e1,hk,if_pos h5];rw[if_neg od];simp[za5]
    rw[e2];exact this
   ·rw[hk] at h;simp[all2] at h
  ·simp only[linP,if_neg h5,xad] at hl;rw[<-znV];exact hl.2
theorem zoz {w:List Data}{n:Nat} (ih:∀t p c,((zaI w n t p c).1=if zbO w n t p c=true then some (zaG w n t p) else none)/\(zbO w n t p c=true->(zaI w n t p c).2=c+p.size)):
  ∀(a:List Ty) (b:List Pat) (i:Nat) (acc:List Vt) (c:Int),a.length=b.length->c<=60->
   ((zbj (zaI w n) false a b i acc c).1=if (all2 (zas w n) a b&&(decide (c+(Pats.size b:Int)<=60)&&all2 (linP w n) a b))=true then some (acc++za5 (zaG w n) a b) else none)/\
   ((all2 (zas w n) a b&&(decide (c+(Pats.size b:Int)<=60)&&all2 (linP w n) a b))=true->(zbj (zaI w n) false a b i acc c).2=c+Pats.size b)
 | [],[],i,acc,c,_,hc=>by simp[zbj,all2,Pats.size,za5,hc]
 |x::r,y::s,i,acc,c,hl,hc=>by
  obtain⟨h1,h2⟩:=ih x y c;have hps:Pats.size (y::s)=y.size+Pats.size s:=rfl;simp only[zbj,za5];by_cases hw:zbO w n x y c=true
  ·have h3:=h2 hw;rw[if_pos hw] at h1;rw[h1];simp only[Bool.false_eq_true,false_and,if_false];have h4:=hw;simp only[zbO,xad,xah] at h4;obtain⟨h5,h6⟩:=zoz ih r s (i+1) (acc++zaG w n x y) (zaI w n x y c).2 (by simpa using hl) od;have e:(all2 (zas w n) (x::r) (y::s)&&(decide (c+(Pats.size (y::s):Int)<=60)&&all2 (linP w n) (x::r) (y::s)))=(all2 (zas w n) r s&&(decide ((zaI w n x y c).2+(Pats.size s:Int)<=60)&&all2 (linP w n) r s)):=by
    rw[all2,all2,h4.1,h4.2.2,h3];simp only[Bool.true_and];congr 2
    exact decide_eq_decide.2 od
   rw[e];refine⟨?_,fun hx=>?_⟩
   ·rw[h5,xar]
   ·rw[h6 hx,h3];omega
  ·rw[if_neg hw] at h1;rw[h1];simp only;have hf:¬(all2 (zas w n) (x::r) (y::s)&&(decide (c+(Pats.size (y::s):Int)<=60)&&all2 (linP w n) (x::r) (y::s)))=true:=fun h=>by
    simp only[all2,xad,xah] at h;refine hw ?_;simp only[zbO,xad,xah];refine⟨h.1.1, ?_,h.2.2.1⟩;have:=h.2.1;omega
   rw[if_neg hf];exact⟨rfl,fun h=>absurd h hf⟩
 | [],_::_,_,_,_,hl,_=>by simp at hl
 |_::_,[],_,_,_,hl,_=>by simp at hl
theorem zfx (w:List Data):∀(n:Nat) (t:Ty) (p:Pat) (c:Int),((zaI w n t p c).1=if zbO w n t p c=true then some (zaG w n t p) else none)/\(zbO w n t p c=true->(zaI w n t p c).2=c+p.size)
 |0,t,p,c=>by simp[zaI,zbO,zas]
 |n+1,t,p,c=>by
  have hsz:=xaV p;unfold zaI;by_cases h1:60<c+1
  ·have hf:¬zbO w (n+1) t p c=true:=fun h=>by
    simp only[zbO,xad,xah] at h;omega
   rw[if_pos h1,if_neg hf];exact⟨rfl,fun h=>absurd h hf⟩
  rw[if_neg h1];by_cases h2:okP w t p=true
  ·rw[if_pos h2];have h2':=h2;simp only[okP,xad,xah] at h2';by_cases h5:p.op=5
   ·have e1:zab w t p=[t,t]:=by unfold zab;rw[if_neg od,if_pos h5]
    have e3:zaQ t p=[]:=by unfold zaQ;rw[if_neg od]
    rw[e1] at h2';rcases hk:p.kids with _|⟨x,_|⟨y,_|⟨z,r⟩⟩⟩
    ·rw[hk] at h2';simp at h2'
    ·rw[hk] at h2';simp at h2'
    ·have e4:zaG w (n+1) t p=zaG w n t x:=by
      simp only[zaG,zcU,e1,hk,if_pos h5,e3];simp[za5]
     have e5:zbO w (n+1) t p c=((zas w n t x&&zas w n t y)&&(decide (c+1+(x.size:Int)+y.size<=60)&&((linP w n t x&&linP w n t y)&&zdH (zaG w n t x) (zaG w n t y)))):=by
      simp only[zbO,zas,linP,h2'.1,e1,hk,all2,if_pos h5,Bool.and_true,Bool.true_and,nth,List.getD_cons_zero,List.getD_cons_succ];congr 2
      refine decide_eq_decide.2 ?_;rw[hsz,hk];simp only[Pats.size];push_cast;omega
     rw[e4,e5,e1,e3];obtain⟨a1,a2⟩:=zfx w n t x (c+1);simp only[zbj,h5,decide_true];by_cases w1:zbO w n t x (c+1)=true
     ·have a3:=a2 w1;rw[if_pos w1] at a1;have b1:=w1;simp only[zbO,xad,xah] at b1;obtain⟨d1,d2⟩:=zfx w n t y (zaI w n t x (c+1)).2;rw[a1];simp only[true_and,Nat.zero_ne_one,if_false,List.nil_append];by_cases w2:zbO w n t y (zaI w n t x (c+1)).2=true
      ·have d3:=d2 w2;rw[if_pos w2] at d1;have b2:=w2;simp only[zbO,xad,xah] at b2;rw[d1];simp only[Nat.zero_add,if_true];have n1:=zgW w n t x b1.1 b1.2.2;have n2:=zgW w n t y b2.1 b2.2.2;have e6:((zas w n t x&&zas w n t y)&&(decide (c+1+(x.size:Int)+y.size<=60)&&((linP w n t x&&linP w n t y)&&zdH (zaG w n t x) (zaG w n t y))))=zea (zaG w n t x) (zaG w n t y):=by
        rw[b1.1,b2.1,b1.2.2,b2.2.2,zpV n2,xax od];simp
       rw[e6];by_cases hs:zea (zaG w n t x) (zaG w n t y)=true
       ·rw[if_pos hs,if_pos hs];simp only[finV,n1,if_true];refine⟨trivial,fun _=>?_⟩;rw[d3,a3,hsz,hk];simp only[Pats.size];push_cast;omega
       ·rw[if_neg hs,if_neg hs];simp only[finV];exact⟨trivial,fun h=>absurd h hs⟩
      ·rw[if_neg w2] at d1;rw[d1];simp only[finV];have hf:¬((zas w n t x&&zas w n t y)&&(decide (c+1+(x.size:Int)+y.size<=60)&&((linP w n t x&&linP w n t y)&&zdH (zaG w n t x) (zaG w n t y))))=true:=fun h=>by
        simp only[xad,xah] at h;refine w2 ?_;simp only[zbO,xad,xah];exact⟨h.1.2,by omega,h.2.2.1.2⟩
       rw[if_neg hf];exact⟨rfl,fun h=>absurd h hf⟩
     ·rw[if_neg w1] at a1;rw[a1];simp only[finV];have hf:¬((zas w n t x&&zas w n t y)&&(decide (c+1+(x.size:Int)+y.size<=60)&&((linP w n t x&&linP w n t y)&&zdH (zaG w n t x) (zaG w n t y))))=true:=fun h=>by
       simp only[xad,xah] at h;refine w1 ?_;simp only[zbO,xad,xah];exact⟨h.1.1,by omega,h.2.2.1.1⟩
      rw[if_neg hf];exact⟨rfl,fun h=>absurd h hf⟩
    ·rw[hk] at h2';simp at h2'
   ·have e0:(decide (p.op=5))=false:=xaw h5;rw[e0];obtain⟨a1,a2⟩:=zoz (fun t p c=>zfx w n t p c) (zab w t p) p.kids 0 (zaQ t p) (c+1) h2'.2.symm od;have e4:zaG w (n+1) t p=zaQ t p++za5 (zaG w n) (zab w t p) p.kids:=by simp only[zaG,zcU,if_neg h5]
    have e5:zbO w (n+1) t p c=((all2 (zas w n) (zab w t p) p.kids&&(decide (c+1+(Pats.size p.kids:Int)<=60)&&all2 (linP w n) (zab w t p) p.kids))&&zcE (zaG w (n+1) t p)):=by
     have:decide (c+(p.size:Int)<=60)=decide (c+1+(Pats.size p.kids:Int)<=60):=decide_eq_decide.2 od;simp only[zbO,zas,linP,h2'.1,if_neg h5,Bool.true_and,znV,this,Bool.and_assoc]
    rw[e5];by_cases hw:(all2 (zas w n) (zab w t p) p.kids&&(decide (c+1+(Pats.size p.kids:Int)<=60)&&all2 (linP w n) (zab w t p) p.kids))=true
    ·rw[if_pos hw,<-e4] at a1;have a3:=a2 hw;rw[hw,Bool.true_and];unfold finV;rw[a1];by_cases hn:zcE (zaG w (n+1) t p)=true
     ·simp only[hn,if_true];exact⟨a1,fun _=>by rw[a3];omega⟩
     ·simp only[hn,Bool.false_eq_true,if_false];exact⟨trivial,fun h=>absurd h oe⟩
    ·rw[if_neg hw] at a1;have hw':(all2 (zas w n) (zab w t p) p.kids&&(decide (c+1+(Pats.size p.kids:Int)<=60)&&all2 (linP w n) (zab w t p) p.kids))=false:=by simpa using hw
     rw[hw',Bool.false_and];unfold finV;rw[a1];simp[a1]
  ·have hf:¬zbO w (n+1) t p c=true:=fun h=>by
    simp only[zbO,zas,xad,xah] at h;refine h2 ?_;simp only[okP,xad,xah];refine⟨h.1.1, ?_⟩;by_cases hl:(zab w t p).length=p.kids.length
    ·exact hl.symm
    ·have:=zhM (f:=zas w n) hl;rw[this] at h;simp at h
   rw[if_neg h2,if_neg hf];exact⟨rfl,fun h=>absurd h hf⟩
mutual
def cntP (m:Int):Pat->Int
 | .mk _ _ _ _ _ ks=>zc3 m 1 ks
def zc3 (m n:Int):List Pat->Int
 | []=>n
 |k::r=>if n<=m then zc3 m (n+cntP (m-n) k) r else n
end
theorem ztz (m:Int) (v:Pat):cntP m v=zc3 m 1 v.kids:=by cases v;rfl
theorem zkU {m n:Int}{l:List Pat} (h:¬n<=m):zc3 m n l=n:=by cases l<;>simp[zc3,h]
mutual
theorem zju:∀(v:Pat) (m:Int),1<=cntP m v/\cntP m v<=v.size
 | .mk _ _ _ _ _ ks,m=>by
  have:=zj3 ks m 1 od;simp only[cntP,Pat.size];push_cast;omega
theorem zj3:∀(l:List Pat) (m n:Int),1<=n->1<=zc3 m n l/\zc3 m n l<=n+Pats.size l
 | [],m,n,h=>by simp[zc3,Pats.size];omega
 |k::r,m,n,h=>by
  have h1:=zju k (m-n);have h2:=zj3 r m (n+cntP (m-n) k) od;simp only[zc3,Pats.size];split
  ·push_cast;omega
  ·push_cast;omega
end
mutual
theorem znQ:∀(v:Pat) (m:Int),(cntP m v<=m↔(v.size:Int)<=m)/\(cntP m v<=m->cntP m v=v.size)
 | .mk _ _ _ _ _ ks,m=>by
  have:=zmv ks m 1;simp only[cntP,Pat.size];push_cast;exact this
theorem zmv:∀(l:List Pat) (m n:Int),(zc3 m n l<=m↔n+(Pats.size l:Int)<=m)/\(zc3 m n l<=m->zc3 m n l=n+Pats.size l)
 | [],m,n=>by simp[zc3,Pats.size]
 |k::r,m,n=>by
  have h1:=znQ k (m-n);have h2:=zmv r m (n+cntP (m-n) k);have h3:=zj3 r m (n+cntP (m-n) k);have h4:=zju k (m-n);simp only[zc3,Pats.size];push_cast
  by_cases hn:n<=m
  ·rw[if_pos hn];by_cases h5:cntP (m-n) k<=m-n
   ·have h6:=h1.2 h5;rw[h6] at h2 ⊢;constructor
    ·rw[h2.1];constructor<;>intro h<;>omega
    ·intro h;rw[h2.2 h];omega
   ·have h7:¬(k.size:Int)<=m-n:=fun h=>h5 (h1.1.2 h);have h8:¬n+cntP (m-n) k<=m:=by omega
    rw[zkU h8];constructor
    ·constructor<;>intro h<;>omega
    ·intro h;omega
  ·rw[if_neg hn];constructor
   ·constructor<;>intro h<;>omega
   ·intro h;omega
end
theorem xa0 {pre rest l:List Pat}{y:Pat} (h:pre++y::rest=l):Pats.size l=Pats.size pre+y.size+Pats.size rest:=by
 subst h;induction pre with
 |nil=>simp[Pats.size]
 |cons x r ih=>simp only[xai,Pats.size,ih];omega
theorem zeP {l:List Pat}{i:Nat} (h:i<l.length):(nth l i).size<=Pats.size l:=xaY (zam h)
theorem zlh {l:List Pat}{i:Nat} (h:i<l.length):Pats.size (l.drop i)=(nth l i).size+Pats.size (l.drop (i+1)):=by
 rw[zbk h];rfl
theorem o7{p:Prop}(h:p:=by dsimp only;omega):p:=h
theorem zfc:∀(n:Nat){v:Pat}{m:Int},v.size<=n->v.size<=1000000000000->v.ok->0<=m->m<=1000000000000->FnD Tryz.prog 187 [.agg [.d (.i v.op),.d (.i v.ctor),.d (.i v.n),.d (.i v.m),.d (.i v.var),.d (zau v.kids)],.d (.i m)] [] (.d (.i (cntP m v))) []
 |0,v,m,h,_,_,_,_=>by rw[xaV] at h;omega
 |n+1,v,m,h,hb,hok,m0,m1=>by
  rw[xaV] at h hb;rw[xaU] at hok;rw[ztz];refine bd Tryz.f187 31 [] [] fun _ _ _ _ hk=>?_;refine bx 3002 ?_;refine ev (xaA (ι:=Nat×Int) hk (fun x=>[(6,.d (.i (x.1:Int))),(5,.d (.i x.2))]) [7,8,9,10,11,12,13,14,15,16,17,18,19,20,21,22,23,24,25,26,27,28,29] (fun x=>[]) (fun x=>x.1<=v.kids.length/\zc3 m x.2 (v.kids.drop x.1)=zc3 m 1 v.kids/\1<=x.2/\x.2+Pats.size (v.kids.drop x.1)<=1+Pats.size v.kids) (fun x=>v.kids.length-x.1) (0,1) ⟨by simp,by simp,by simp,by simp⟩ ⟨⟨_,I,xaK ?_⟩,⟨⟨_,I,xaK ?_⟩,O⟩⟩ O (fun x=>rfl) (fun x hg1=>?_));iterate 2 focus (rfl)
  refine evc [] [] ?_;apply sq<;>intro h1 h1p h1s<;>(try simp only[Q,xaS] at h1p);apply sq<;>intro h2 h2p h2s<;>(try simp only[Q,xaS] at h2p);refine ixq sl58 I I I (zb2 od) I ?_;refine ev (ar ?_ (by(constructor<;>omega)));refine wc znD (zfc n (v:=nth v.kids x.1) (by have:=zeP (l:=v.kids) (i:=x.1) od;omega) (by have:=zeP (l:=v.kids) (i:=x.1) od;omega) (xaX hok.2 _ (zam od)) od od) I I ?_;refine ev (ar ?_ (by(have hz:=zju (nth v.kids x.1) (m-x.2);have hs:=zlh (l:=v.kids) (i:=x.1) od;constructor<;>omega)));refine ar ?_ (by(constructor<;>omega));refine xaj ((x.1+1,x.2+cntP (m-x.2) (nth v.kids x.1))) ⟨(by
      have hz:=zju (nth v.kids x.1) (m-x.2);have hs:=zlh (l:=v.kids) (i:=x.1) od;refine⟨by dsimp only;omega, ?_,by dsimp only;omega,by dsimp only;omega⟩;rw[<-hg1.2.1,zbk (l:=v.kids) (i:=x.1) od,zc3,if_pos od]),o7,sx ⟨⟨_,rfl,xaK ?_⟩,⟨⟨_,rfl,xaK ?_⟩,trivial⟩⟩ trivial⟩
  iterate 2 focus (rfl)
  refine rq ?_;rotate_left;refine sqF ?_;refine rq ?_;rotate_left;all_goals (refine xam D.i ?_;rw[<-hg1.2.1];first|(rw[List.drop_eq_nil_of_le od];rfl)|(rw[zkU od]))
set_option maxHeartbeats 4000000
theorem zhg {w:List Data}{d:Nat}{k:Int}:zao w ⟨d,k⟩=za8 w ⟨d,k⟩:=by unfold zao;rw[if_neg (by simp only;omega)]
theorem zgk {w:List Data}{k:Int}:zao w ⟨-1,k⟩=[]:=by unfold zao;rw[if_pos rfl]
theorem zeq {w:List Data} (hw:WT w){a k:Int} (ht:TyIn w.length ⟨a,k⟩):(zao w ⟨a,k⟩).length<=1000000000000:=by
 rcases ht with ha|⟨d,hd,hlt⟩
 ·simp only at ha;subst ha;rw[zgk];exact Nat.zero_le _
 ·simp only at hd;subst hd;rw[zhg];exact zoR hw
theorem zbc {w:List Data}{a k c:Int} (ht:TyIn w.length ⟨a,k⟩) (h:c∈zao w ⟨a,k⟩):∃d:Nat,a=d/\d<w.length/\PlaceIn w d c:=by
 rcases ht with ha|⟨d,hd,hlt⟩
 ·simp only at ha;subst ha;rw[zgk] at h;simp at h
 ·simp only at hd;subst hd;rw[zhg] at h;exact⟨d,rfl,hlt,zop h⟩
theorem zda {w:List Data} (hw:WT w){a k:Int}{p:Pat} (ht:TyIn w.length ⟨a,k⟩) (h:ownP w ⟨a,k⟩ p=true):∀t∈zab w ⟨a,k⟩ p,TyIn w.length t:=by
 intro t hm;unfold zab at hm;split at hm
 ·rename_i h4;unfold ownP at h;have h':=xas h;have hc:p.ctor∈zao w ⟨a,k⟩:=by
   rcases h'.2.2.2.2 with h|h|h|h|h|h
   ·omega
   ·omega
   ·omega
   ·omega
   ·omega
   ·exact h.2
  obtain⟨d,rfl,h1,h2⟩:=zbc ht hc;exact ziH hw h1 h2 hm
 ·split at hm
  ·simp only[List.mem_cons,xau,or_false] at hm;rcases hm with rfl|rfl<;>exact ht
  ·split at hm
   ·simp only[List.mem_cons,xau,or_false] at hm;subst hm;exact ht
   ·simp at hm
theorem zgj {w:List Data} (hw:WT w){a k:Int}{p:Pat} (ht:TyIn w.length ⟨a,k⟩) (h:p.op=4->p.ctor∈zao w ⟨a,k⟩):(zab w ⟨a,k⟩ p).length<=1000000000000:=by
 unfold zab;split
 ·rename_i h4;obtain⟨d,rfl,h1,h2⟩:=zbc ht (h h4);exact zhN hw h1 h2
 ·split
  ·simp
  ·split<;>simp
def zfI (op:Int):Int:=if op=5 then 2 else if op=6 then 1 else if op=4 then -1 else 0
theorem zmm {op:Int}:FnD Tryz.prog 280 [.d (.i op)] [] (.d (.i (zfI op))) []:=by
 refine bd Tryz.f280 10 [] [] fun _ _ _ _ hk=>?_;apply sq<;>intro h1 h1p h1s;refine rq ?_;rotate_left;apply sq<;>intro h2 h2p h2s;refine rq ?_;rotate_left;apply sq<;>intro h3 h3p h3s;refine rq ?_;rotate_left;refine rq ?_;rotate_left;all_goals (refine xam D.i ?_;simp only[zfI];simp_all)
theorem zb4 {w:List Data} (hw:WT w){a k:Int} (ht:TyIn w.length ⟨a,k⟩):FnD Tryz.prog 243 [.d (zah w),.agg [.d (.i a),.d (.i k)]] [] (.d (zcP (zao w ⟨a,k⟩))) []:=by
 rcases ht with ha|⟨d,hd,hlt⟩
 ·simp only at ha;subst ha;rw[zgk];exact ziD
 ·simp only at hd;subst hd;rw[zhg];exact zlo hw hlt
theorem zcB {w:List Data} (hw:WT w){a k c:Int} (ht:TyIn w.length ⟨a,k⟩) (hc:c∈zao w ⟨a,k⟩):FnD Tryz.prog 159 [.d (zah w),.agg [.d (.i a),.d (.i k)],.d (.i c)] [] (.d (zbU (zae w ⟨a,k⟩ c))) []:=by
 obtain⟨d,rfl,h1,h2⟩:=zbc ht hc;exact zmb hw h1 h2
theorem zf0 {w:List Data} (hw:WT w){a k:Int}{p:Pat} (ht:TyIn w.length ⟨a,k⟩):
  FnD Tryz.prog 256 [.d (zah w),.agg [.d (.i a),.d (.i k)],.agg [.d (.i p.op),.d (.i p.ctor),.d (.i p.n),.d (.i p.m),.d (.i p.var),.d (zau p.kids)]] [] (.d (.bool (ownP w ⟨a,k⟩ p))) []:=by
 have hcl:=zeq hw ht;refine bd Tryz.f256 96 [] [1,2,4,13] fun _ _ _ _ hk=>?_;refine bx 3004 ?_;refine bx 3005 ?_;refine ev (xaC (xbh 8 [(15,.d (.bool (decide (p.op=2\/p.op=6))))] [8,9,10,11,12,13,14] ?_ ?_));refine ev ?_;apply sq<;>intro h1 h1p h1s;exact jnb I;exact jnb I;refine xbg (ev (xaC (xbh 11 [(26,.d (.bool (decide ((p.op=2\/p.op=6)/\(p.var<0\/5<p.var)))))] [16,17,18,19,20,21,22,23,24,25] ?_ ?_)));refine ev ?_;apply sq<;>intro h2 h2p h2s;apply sq<;>intro h3 h3p h3s;exact jnb I;exact jnb I;exact jnb I;refine xbh 9 [(35,.d (.bool (decide ((p.op=2\/p.op=6)/\(p.var<0\/5<p.var)\/¬(p.op=2\/p.op=6)/\p.var≠0))))] [27,28,29,30,31,32,33,34] ?_ ?_;refine ev ?_;apply sq<;>intro h4 h4p h4s;exact jnb I;apply sq<;>intro h5 h5p h5s;exact jnb I;exact jnb I;refine xbg ?_;apply tv;apply sq<;>intro h6 h6p h6s;refine rq ?_;rotate_left;refine xaC (xbh 13 [(48,.d (.bool (decide (p.op≠3/\(p.n≠0\/p.m≠0)))))] [36,37,38,39,40,41,42,43,44,45,46,47] ?_ ?_);refine ev ?_;apply sq<;>intro h7 h7p h7s;apply sq<;>intro h8 h8p h8s;exact jnb I;exact jnb I;exact jnb I;refine xbh 10 [(58,.d (.bool (decide (p.op≠3/\(p.n≠0\/p.m≠0)\/p.op≠4/\p.ctor≠0))))] [49,50,51,52,53,54,55,56,57] ?_ ?_;refine ev ?_;apply sq<;>intro h9 h9p h9s;exact jnb I;apply sq<;>intro h10 h10p h10s;exact jnb I;exact jnb I;refine xbg ?_;apply tv;apply sq<;>intro h11 h11p h11s;refine rq ?_;rotate_left;apply sq<;>intro h12 h12p h12s;apply sq<;>intro h13 h13p h13s;refine rq ?_;rotate_left;apply sq<;>intro h14 h14p h14s;refine xaC (xbh 8 [(75,.d (.bool (decide (a = -1/\0<=p.n))))] [68,69,70,71,72,73,74] ?_ ?_);refine ev ?_;apply sq<;>intro h15 h15p h15s;exact jnb I;exact jnb I;refine xbh 7 [(82,.d (.bool (decide (a = -1/\0<=p.n/\p.n<=p.m))))] [76,77,78,79,80,81] ?_ ?_;refine ev ?_;apply sq<;>intro h16 h16p h16s;exact jnb I;exact jnb I;refine xbh 5 [(87,.d (.bool (decide (a = -1/\0<=p.n/\p.n<=p.m/\p.m<=9))))] [83,84,85,86] ?_ ?_;refine ev ?_;apply sq<;>intro h17 h17p h17s;exact jnb I;exact jnb I;refine xbg (ev (rq ?_));rotate_left;apply sq<;>intro h18 h18p h18s;refine wc zfM (zb4 hw ht) I I ?_;refine evd [] [] (wc zkM (zeB hcl) I I ?_);refine evd [] [] (dr (rq ?_));rotate_left;refine rq ?_;rotate_left;apply sq<;>intro h19 h19p h19s;apply sq<;>intro h20 h20p h20s;refine rq ?_;rotate_left;apply sq<;>intro h21 h21p h21s;refine xaC (xbh 8 [(75,.d (.bool (decide (a = -1/\0<=p.n))))] [68,69,70,71,72,73,74] ?_ ?_);refine ev ?_;apply sq<;>intro h22 h22p h22s;exact jnb I;exact jnb I;refine xbh 7 [(82,.d (.bool (decide (a = -1/\0<=p.n/\p.n<=p.m))))] [76,77,78,79,80,81] ?_ ?_;refine ev ?_;apply sq<;>intro h23 h23p h23s;exact jnb I;exact jnb I;refine xbh 5 [(87,.d (.bool (decide (a = -1/\0<=p.n/\p.n<=p.m/\p.m<=9))))] [83,84,85,86] ?_ ?_;refine ev ?_;apply sq<;>intro h24 h24p h24s;exact jnb I;exact jnb I;refine xbg (ev (rq ?_));rotate_left;apply sq<;>intro h25 h25p h25s;refine wc zfM (zb4 hw ht) I I ?_;refine evd [] [] (wc zkM (zeB hcl) I I ?_);refine evd [] [] (dr (rq ?_));rotate_left;refine rq ?_;rotate_left;apply sq<;>intro h26 h26p h26s;apply sq<;>intro h27 h27p h27s;refine rq ?_;rotate_left;apply sq<;>intro h28 h28p h28s;refine xaC (xbh 8 [(75,.d (.bool (decide (a = -1/\0<=p.n))))] [68,69,70,71,72,73,74] ?_ ?_);refine ev ?_;apply sq<;>intro h29 h29p h29s;exact jnb I;exact jnb I;refine xbh 7 [(82,.d (.bool (decide (a = -1/\0<=p.n/\p.n<=p.m))))] [76,77,78,79,80,81] ?_ ?_;refine ev ?_;apply sq<;>intro h30 h30p h30s;exact jnb I;exact jnb I;refine xbh 5 [(87,.d (.bool (decide (a = -1/\0<=p.n/\p.n<=p.m/\p.m<=9))))] [83,84,85,86] ?_ ?_;refine ev ?_;apply sq<;>intro h31 h31p h31s;exact jnb I;exact jnb I;refine xbg (ev (rq ?_));rotate_left;apply sq<;>intro h32 h32p h32s;refine wc zfM (zb4 hw ht) I I ?_;refine evd [] [] (wc zkM (zeB hcl) I I ?_);refine evd [] [] (dr (rq ?_));rotate_left;refine rq ?_;rotate_left;apply sq<;>intro h33 h33p h33s;refine rq ?_;rotate_left;apply sq<;>intro h34 h34p h34s;refine xaC (xbh 8 [(75,.d (.bool (decide (a = -1/\0<=p.n))))] [68,69,70,71,72,73,74] ?_ ?_);refine ev ?_;apply sq<;>intro h35 h35p h35s;exact jnb I;exact jnb I;refine xbh 7 [(82,.d (.bool (decide (a = -1/\0<=p.n/\p.n<=p.m))))] [76,77,78,79,80,81] ?_ ?_;refine ev ?_;apply sq<;>intro h36 h36p h36s;exact jnb I;exact jnb I;refine xbh 5 [(87,.d (.bool (decide (a = -1/\0<=p.n/\p.n<=p.m/\p.m<=9))))] [83,84,85,86] ?_ ?_;refine ev ?_;apply sq<;>intro h37 h37p h37s;exact jnb I;exact jnb I;refine xbg (ev (rq ?_));rotate_left;apply sq<;>intro h38 h38p h38s;refine wc zfM (zb4 hw ht) I I ?_;refine evd [] [] (wc zkM (zeB hcl) I I ?_);refine evd [] [] (dr (rq ?_));rotate_left;refine rq ?_;rotate_left;all_goals (refine xam D.bool ?_;unfold ownP;rw[xat];by_cases hmem:p.ctor∈zao w ⟨a,k⟩<;>(simp only[hmem,and_true,and_false,or_false,xah,xad,Bool.false_eq_true,true_iff,false_iff];simp only[xah,decide_eq_false_iff_not] at *;omega))
theorem zc7 {w:List Data} (hw:WT w){a k:Int}{p:Pat} (ht:TyIn w.length ⟨a,k⟩) (h:p.op=4->p.ctor∈zao w ⟨a,k⟩):
  FnD Tryz.prog 229 [.d (zah w),.agg [.d (.i a),.d (.i k)],.agg [.d (.i p.op),.d (.i p.ctor),.d (.i p.n),.d (.i p.m),.d (.i p.var),.d (zau p.kids)]] [] (.d (zbU (zab w ⟨a,k⟩ p))) []:=by
 by_cases h4:p.op=4
 ·have e:zab w ⟨a,k⟩ p=zae w ⟨a,k⟩ p.ctor:=by unfold zab;rw[if_pos h4]
  rw[e];refine bd Tryz.f229 30 [] [] fun _ _ _ _ hk=>?_;refine bx 3004 ?_;refine bx 3005 ?_;refine ev ?_;apply sq<;>intro h1 h1p h1s;refine wc zcj (zcB hw ht (h h4)) I I ?_;refine ev (rq ?_);rotate_left;exfalso;simp_all;all_goals (rfl)
 ·have e:zab w ⟨a,k⟩ p=List.replicate (zfI p.op).toNat ⟨a,k⟩:=by
   unfold zab zfI;rw[if_neg h4];by_cases h5:p.op=5
   ·rw[if_pos h5,if_pos h5];rfl
   ·rw[if_neg h5,if_neg h5];by_cases h6:p.op=6
    ·rw[if_pos h6,if_pos h6];rfl
    ·rw[if_neg h6,if_neg h6,if_neg h4];rfl
  have hb:0<=zfI p.op/\zfI p.op<=2:=by unfold zfI;split<;>(try split)<;>(try split)<;>omega
  rw[e];refine bd Tryz.f229 30 [] [] fun _ _ _ _ hk=>?_;refine bx 3004 ?_;refine bx 3005 ?_;refine ev ?_;apply sq<;>intro h1 h1p h1s;exfalso;simp_all;refine xbS 5 zaL .none I I (ev (xaA (ι:=Nat) hk (fun i=>[(8,.d (.i (i:Int))),(7,.gl 5 ((List.replicate i (⟨a,k⟩:Ty)).map Ty.c))]) [18,19,20,21,22,23,24,25,26,27,28] (fun i=>[(5,some (.tok (((List.replicate i (⟨a,k⟩:Ty)).map Ty.c)).length 2))]) (fun i=>(i:Int)<=zfI p.op) (fun i=>(zfI p.op).toNat-i) 0 od ⟨⟨_,I,xaK ?_⟩,⟨⟨_,I,LeA.glg ?_⟩,O⟩⟩ ⟨zag ?_,O⟩ (fun x=>rfl) (fun i hg1=>?_)));iterate 3 focus (rfl)
  refine evc [] [] (wc zu6 zmm I I ?_);refine ev ?_;apply sq<;>intro h2 h2p h2s<;>(try simp only[Q] at h2p);refine si [0] [_] zaL tz38 ?_;refine ap zaL zz38 I I I oe om ?_;refine ev (ar (xaj (i+1) ⟨od,od,sx ⟨⟨_,I,xaK ?_⟩,⟨⟨_,I,LeA.glg ?_⟩,O⟩⟩ ⟨zag ?_,O⟩⟩));iterate 3 focus ((simp[List.replicate_succ'];done))
  refine rn0 (r1 I) (.gld ?_);rotate_left;all_goals ((obtain rfl:i=(zfI p.op).toNat:=by omega);simp)
theorem zce {w:List Data}{n:Nat}{t:Ty}{p:Pat} (h:zas w (n+1) t p=true):ownP w t p=true/\p.kids.length=(zab w t p).length:=by
 simp only[zas,xad] at h;refine⟨h.1, ?_⟩;by_cases hl:(zab w t p).length=p.kids.length
 ·exact hl.symm
 ·rw[zhM hl] at h;simp at h
theorem zcA {w:List Data}{t:Ty}{p:Pat} (h:ownP w t p=true):p.op=4->p.ctor∈zao w t:=by
 intro h4;unfold ownP at h;have h':=(xas h).2.2.2.2;rcases h' with h|h|h|h|h|h
 ·omega
 ·omega
 ·omega
 ·omega
 ·omega
 ·exact h.2
theorem zkl {w:List Data}{t:Ty}{p:Pat} (h:ownP w t p=true):(p.op=2\/p.op=6)->0<=p.var/\p.var<=5:=by
 unfold ownP at h;exact(xas h).1
theorem zfd {w:List Data} (hw:WT w):∀(n:Nat){a k m:Int}{p:Pat},m=n->n<=1000->TyIn w.length ⟨a,k⟩->p.ok->
  FnD Tryz.prog 186 [.d (zah w),.agg [.d (.i a),.d (.i k)],.agg [.d (.i p.op),.d (.i p.ctor),.d (.i p.n),.d (.i p.m),.d (.i p.var),.d (zau p.kids)],.d (.i m)] [] (.d (.bool (zas w n ⟨a,k⟩ p))) []
 |0,a,k,m,p,hm,_,ht,hok=>by
  refine bd Tryz.f186 50 [] [1] fun _ _ _ _ hk=>?_;refine bx 3005 ?_;refine bx 3006 ?_;refine ev (xaC (xbh 9 [(19,.d (.bool true))] [11,12,13,14,15,16,17,18] ?_ ?_));refine ev ?_;apply sq<;>intro h1 h1p h1s;exact jnb I;refine Walk.call (cr:=[]) znK (zf0 hw ht) I (.some I I h1) I I (LeL.refl _) O I I I (evs [] [(13,false)] ?_ ⟨⟨_,I,h1⟩,O⟩);exact jnb I;refine xbg ?_;apply tv;apply sq<;>intro h2 h2p h2s;refine rq ?_;rotate_left;exact absurd h2 oe;all_goals (rfl)
 |n+1,a,k,m,p,hm,hn,ht,hok=>by
  rw[xaU] at hok;by_cases ho:ownP w ⟨a,k⟩ p=true
  ·have hin:=zda hw ht ho;have hlen:=zgj hw ht (zcA ho);refine bd Tryz.f186 50 [] [1] fun _ _ _ _ hk=>?_;refine bx 3005 ?_;refine bx 3006 ?_;refine ev (xaC (xbh 9 [(19,.d (.bool false))] [11,12,13,14,15,16,17,18] ?_ ?_));refine ev ?_;apply sq<;>intro h1 h1p h1s;exact jnb I;refine Walk.call (cr:=[]) znK (zf0 hw ht) I (.some I I h1) I I (LeL.refl _) O I I I (evs [] [(13,false)] ?_ ⟨⟨_,I,h1⟩,O⟩);exact jnb I;refine xbg ?_;apply tv;apply sq<;>intro h2 h2p h2s;exact absurd h2 oe;refine wc ziL (zc7 hw ht (zcA ho)) I I ?_;refine ev ?_;apply sq<;>intro h3 h3p h3s;refine rq ?_;rotate_left;try simp only[Q,xaS] at h3p
   refine xaA (ι:=Nat) hk (fun i=>[(10,.d (.i (i:Int)))]) [8,30,31,32,33,34,35,36,37,38,39,40,41,42,43,44,45,46,47,48,49] (fun i=>[]) (fun i=>i<=(zab w ⟨a,k⟩ p).length/\∀i',i'<i->zas w n (nth (zab w ⟨a,k⟩ p) i') (nth p.kids i')=true) (fun i=>(zab w ⟨a,k⟩ p).length-i) 0 ⟨by omega,fun _ h=>absurd h od⟩ ⟨⟨_,I,xaK ?_⟩,O⟩ O (fun x=>rfl) (fun i hg1=>?_);focus (first|(simp;done)|(simp_all;done))
   refine evc [] [1] ?_;apply sq<;>intro h4 h4p h4s;try simp only[Q,xaS] at h4p
   refine ixq zaL I I I (zan od) I ?_;refine evd [] [] (ixq sl58 I I I (zb2 od) I ?_);refine evd [] [] (ar (wc znC (zfd hw n od od (hin _ (zam od)) (xaX hok.2 _ (zam od))) I I ?_));refine evd [] [] (dr ?_);apply sq<;>intro h5 h5p h5s;refine rq ?_;rotate_left;try simp only[Q,xaS] at h5p
   refine ar (xaj (i+1) ⟨⟨by omega,zbb hg1.2 ol⟩,od,sx ⟨⟨_,I,xaK ?_⟩,O⟩ O⟩);focus (first|(simp;done)|(simp_all;done))
   refine rq ?_;rotate_left;all_goals (refine xam D.bool ?_;unfold zas;rw[ho,Bool.true_and];first|(rw[zhM (by simp[xaS] at *;omega)])|(rw[zfT (by simp[xaS] at *;omega) (fun x hx=>hg1.2 x (by simp[xaS] at *;omega))])|(rw[zef (i:=i) (by simp[xaS] at *;omega) (by simp[xaS] at *;omega) ol]))
  ·have ho':ownP w ⟨a,k⟩ p=false:=by simpa using ho
   refine bd Tryz.f186 50 [] [1] fun _ _ _ _ hk=>?_;refine bx 3005 ?_;refine bx 3006 ?_;refine ev (xaC (xbh 9 [(19,.d (.bool true))] [11,12,13,14,15,16,17,18] ?_ ?_));refine ev ?_;apply sq<;>intro h1 h1p h1s;exact jnb I;refine Walk.call (cr:=[]) znK (zf0 hw ht) I (.some I I h1) I I (LeL.refl _) O I I I (evs [] [(13,false)] ?_ ⟨⟨_,I,h1⟩,O⟩);exact jnb I;refine xbg ?_;apply tv;apply sq<;>intro h2 h2p h2s;refine rq ?_;rotate_left;exact absurd h2 oe;all_goals (refine xam D.bool ?_;unfold zas;rw[ho'];rfl)
theorem zfA {l:List Vt}{n:Int} (h:l.length<=1000000000000):FnD Tryz.prog 240 [.d (zcS l),.d (.i n)] [] (.d (.i (zbE l n))) []:=by
 refine bd Tryz.f240 20 [] [] fun _ _ _ _ hk=>?_;refine xaA (ι:=List (Vt)×List (Vt)) hk (fun x=>[(5,.d (.i (x.1.length:Int)))]) [4,6,7,8,9,10,11,12,13,14,15,16,17,18,19] (fun x=>[]) (fun x=>x.1++x.2=l/\idxF (fun v=>decide (v.var=n)) x.2 x.1.length=idxF (fun v=>decide (v.var=n)) l 0) (fun x=>x.2.length) ([],l) ⟨by simp,I⟩ ⟨⟨_,I,xaK ?_⟩,O⟩ O (fun x=>rfl) (fun x hg1=>?_);focus (rfl)
 obtain⟨pre,rest⟩:=x;dsimp only at hg1 ⊢;refine evc [] [] ?_;apply sq<;>intro h1 h1p h1s<;>(try simp only[Q] at h1p);rcases rest with _|⟨y,rest⟩
 ·exfalso;simp_all
 refine ixq sl36 I I I (zaE hg1.1) I (ev ?_);apply sq<;>intro h2 h2p h2s<;>(try simp only[Q] at h2p);focus (refine rq ?_;all_goals (refine xam D.i ?_;unfold zbE;rw[<-hg1.2];simp[idxF,h1s,h1p,h2s,h2p]))
 refine ar (xaj ((pre++[y],rest)) ⟨⟨(by have hz:=hg1.1;rw[<-hz];simp),(by rw[<-hg1.2];simp_all[idxF])⟩,oe,sx ⟨⟨_,I,xaK ?_⟩,O⟩ O⟩);focus ((simp;done))
 have hrest:rest=[]:=by
  rcases rest with _|⟨a,b⟩
  ·rfl
  ·exfalso;have hz:=xam List.length (hg1.1);simp only[xaa,xab,xac] at hz;omega
 subst hrest;focus (refine rq ?_;all_goals (refine xam D.i ?_;unfold zbE;rw[<-hg1.2];simp[idxF,h1s,h1p]))
theorem zoP {a b:List Vt}{i:Nat} (h:i<a.length) (h2:¬(0<=zbE b (nth a i).var/\(nth b (zbE b (nth a i).var).toNat).ty=(nth a i).ty)):zdH a b=false:=by
 unfold zdH;have:(a.all fun v=>decide (0<=zbE b v.var/\(nth b (zbE b v.var).toNat).ty=v.ty))=false:=List.all_eq_false.2 ⟨_,zam h,by simpa using h2⟩;rw[this,Bool.false_and]
theorem zpW {a b:List Vt} (h:∀i,i<a.length->0<=zbE b (nth a i).var/\(nth b (zbE b (nth a i).var).toNat).ty=(nth a i).ty):zdH a b=decide (a.length=b.length):=by
 unfold zdH;have:(a.all fun v=>decide (0<=zbE b v.var/\(nth b (zbE b v.var).toNat).ty=v.ty))=true:=by
  rw[List.all_eq_true];intro v hv;obtain⟨j,hj,he⟩:=List.getElem_of_mem hv;have:=h j hj;rw[zaV hj,he] at this;exact xax this
 rw[this,Bool.true_and]
theorem zj9 {l:List Vt}{n:Int} (h:0<=zbE l n):(zbE l n).toNat<l.length/\((zbE l n).toNat:Int)=zbE l n:=by
 rcases ze0 l n with ⟨h1,_⟩|⟨k,h1,h2,_⟩
 ·omega
 ·rw[h1];simpa using h2
theorem zr4 {t u:Ty}:t=u↔t.data=u.data/\t.index=u.index:=by
 cases t;cases u;simp
theorem zly {x y:List Vt} (hx:x.length<=1000000000000) (hy:y.length<=1000000000000):FnD Tryz.prog 257 [.d (zcS x),.d (zcS y)] [] (.d (.bool (zdH x y))) []:=by
 refine bd Tryz.f257 40 [33] [] fun _ _ _ _ hk=>?_;refine xaA (ι:=Nat) hk (fun i=>[(5,.d (.i (i:Int)))]) [4,6,7,8,9,10,11,12,13,14,15,16,17,18,19,20,21,22,23,24,25,26,27,28,29,30,31,32,33,34] (fun i=>[]) (fun i=>i<=x.length/\∀j,j<i->0<=zbE y (nth x j).var/\(nth y (zbE y (nth x j).var).toNat).ty=(nth x j).ty) (fun i=>x.length-i) 0 ⟨by omega,fun _ h=>absurd h od⟩ ⟨⟨_,I,xaK ?_⟩,O⟩ O (fun x=>rfl) (fun i hg1=>?_);focus (rfl)
 refine evc [33] [] ?_;apply sq<;>intro h1 h1p h1s<;>(try simp only[Q] at h1p);refine ixq sl36 I I I (zan od) I ?_;refine evs [33] [] (wc znI (zfA hy) I I ?_);refine evs [33] [] ?_;apply sq<;>intro h2 h2p h2s<;>(try simp only[Q] at h2p);refine dr (sqT ?_);refine rq ?_;rotate_left;refine xbB (i:=(zbE y (nth x i).var).toNat) sl36 (.some I I h2) I I I (zj9 (l:=y) (n:=(nth x i).var) od).2.symm (zan (by exact(zj9 (l:=y) (n:=(nth x i).var) od).1)) I ?_;refine evd [33] [(22,false)] ?_ ⟨⟨_,I,h2⟩,O⟩;refine xbB sl36 (.some I I h2) I I I I (zan od) I ?_;refine evd [33] [(22,false)] ?_ ⟨⟨_,I,h2⟩,O⟩;refine Walk.neV eq38 (.some I I h2) I I I I I (evd [33] [(22,false)] ?_ ⟨⟨_,I,h2⟩,O⟩);refine dr ?_;apply sq<;>intro h4 h4p h4s<;>(try simp only[Q] at h4p);refine rq ?_;rotate_left;refine ar (xaj (i+1) ⟨⟨by omega,zbb hg1.2 (by rw[zr4];first|omega|(simp at h4;omega))⟩,od,sx ⟨⟨_,I,xaK ?_⟩,O⟩ O⟩);focus (rfl)
 refine rq ?_;rotate_left;all_goals (refine xam D.bool ?_;first|(refine(zoP (i:=i) od ?_).symm;simp only[zr4];first|omega|(simp at h4;omega))|(rw[zpW (fun j hj=>hg1.2 j (by simp at h1p;omega))];exact decide_eq_decide.2 om))
theorem zjq {f:Ty->Pat->List Vt} (hf:∀t p,(f t p).length<=p.size):∀(a:List Ty) (b:List Pat),(za5 f a b).length<=Pats.size b
 | [],[]=>by simp[za5]
 | [],_::_=>by simp[za5]
 |_::_,[]=>by simp[za5]
 |x::r,y::s=>by
  have h1:=zjq hf r s;have h2:=hf x y;simp only[za5,xaa,Pats.size];omega
theorem zed (w:List Data):∀(n:Nat) (t:Ty) (p:Pat),(zaG w n t p).length<=p.size
 |0,t,p=>by simp[zaG]
 |n+1,t,p=>by
  have h1:=zjq (zed w n) (zcU w t p) p.kids;have h2:(zaQ t p).length<=1:=by unfold zaQ;split<;>simp
  rw[xaV];simp only[zaG,xaa];omega
theorem zil {f:Ty->Pat->List Vt}:∀ {a:List Ty}{b:List Pat}{i:Nat},i<a.length->i<b.length->za5 f (a.take (i+1)) (b.take (i+1))=za5 f (a.take i) (b.take i)++f (nth a i) (nth b i)
 |x::r,y::s,0,_,_=>by simp[za5,nth]
 |x::r,y::s,i+1,h1,h2=>by
  have:=zil (f:=f) (a:=r) (b:=s) (i:=i) (by simpa using h1) (by simpa using h2);simp only[List.take_succ_cons,za5];rw[this,xar];rfl
theorem zlM {f:Ty->Pat->List Vt}:∀ {a:List Ty}{b:List Pat}{i:Nat},za5 f (a.take i) (b.take i)=za5 f (a.take i) b
 | [],b,i=>by simp[za5]
 |x::r,[],i=>by simp[za5]
 |x::r,y::s,0=>by simp[za5]
 |x::r,y::s,i+1=>by simp only[List.take_succ_cons,za5];rw[zlM]
theorem zoN {f:Ty->Pat->List Vt} (hf:∀t p,(f t p).length<=p.size){a:List Ty}{b:List Pat}{i:Nat} (h:i<b.length):(za5 f (a.take i) (b.take i)).length+(nth b i).size<=Pats.size b:=by
 have h1:=zjq hf (a.take i) (b.take i);have h2:=xa0 (pre:=b.take i) (y:=nth b i) (rest:=b.drop (i+1)) (l:=b) (by rw[<-zbk h,List.take_append_drop]);omega
def zdv (w:List Data) (t:Ty) (p:Pat):Nat:=(zcU w t p).length
theorem zjr (w:List Data) (t:Ty) (p:Pat):zdv w t p=if p.op=5 then 1 else (zab w t p).length:=by
 unfold zdv zcU;by_cases h5:p.op=5
 ·rw[if_pos h5,if_pos h5];have:zab w t p=[t,t]:=by unfold zab;rw[if_neg od,if_pos h5]
  rw[this];rfl
 ·rw[if_neg h5,if_neg h5]
theorem zm3 {w:List Data}{f:Ty->Pat->List Vt}{t:Ty}{p:Pat} (hl:p.kids.length=(zab w t p).length){i:Nat} (h:i=zdv w t p):za5 f ((zab w t p).take i) (p.kids.take i)=za5 f (zcU w t p) p.kids:=by
 subst h;rw[zlM];congr 1
 rw[zjr];unfold zcU;by_cases h5:p.op=5
 ·rw[if_pos h5,if_pos h5]
 ·rw[if_neg h5,if_neg h5,List.take_length]
theorem zbs {w:List Data}{n:Nat}{t:Ty}{p:Pat} (h:zas w (n+1) t p=true){i:Nat} (hi:i<p.kids.length):zas w n (nth (zab w t p) i) (nth p.kids i)=true:=by
 have hl:=(zce h).2;cases hs:zas w n (nth (zab w t p) i) (nth p.kids i) with
 |true=>rfl
 |false=>
  have:=zef (f:=zas w n) (a:=zab w t p) (b:=p.kids) (i:=i) od hl.symm hs;simp only[zas,this,Bool.and_false] at h;cases h
theorem zfC {w:List Data} (hw:WT w):∀(n:Nat){a k:Int}{p:Pat}{xs:List Vt},zas w n ⟨a,k⟩ p=true->n<=1000->TyIn w.length ⟨a,k⟩->p.ok->xs.length+p.size<=2000000000000->
  FnD Tryz.prog 143 [.gl 5 (xs.map Vt.c),.d (zah w),.agg [.d (.i a),.d (.i k)],.agg [.d (.i p.op),.d (.i p.ctor),.d (.i p.n),.d (.i p.m),.d (.i p.var),.d (zau p.kids)]] [(5,some (.tok (xs.map Vt.c).length 3))]
   (.gl 5 ((xs++zaG w n ⟨a,k⟩ p).map Vt.c)) [(5,some (.tok ((xs++zaG w n ⟨a,k⟩ p).map Vt.c).length 3))]
 |0,a,k,p,xs,hs,_,_,_,_=>by simp[zas] at hs
 |n+1,a,k,p,xs,hs,hn,ht,hok,hb=>by
  rw[xaU] at hok;rw[xaV] at hb;obtain⟨ho,hl⟩:=zce hs;have hin:=zda hw ht ho;have hlen:=zgj hw ht (zcA ho);have hvc5:p.op=5->zdv w ⟨a,k⟩ p=1:=fun h=>by rw[zjr,if_pos h]
  have hvc:¬p.op=5->zdv w ⟨a,k⟩ p=(zab w ⟨a,k⟩ p).length:=fun h=>by rw[zjr,if_neg h]
  have hv2:zdv w ⟨a,k⟩ p<=p.kids.length:=by
   unfold zdv zcU;split
   ·rw[List.length_take];omega
   ·omega
  have e5:p.op=5->(zab w ⟨a,k⟩ p).length=2:=fun h5=>by unfold zab;rw[if_neg od,if_pos h5];rfl
  have hnm:(zaQ ⟨a,k⟩ p).length<=1:=by unfold zaQ;split<;>simp
  refine bd Tryz.f143 58 [] [1,5,6] fun _ _ _ _ hk=>?_;refine bx 3006 ?_;refine bx 3007 ?_;refine ev (xaC (xbh 8 [(18,.d (.bool (decide (p.op=2\/p.op=6))))] [11,12,13,14,15,16,17] ?_ ?_));refine ev ?_;apply sq<;>intro h1 h1p h1s;exact jnb I;exact jnb I;refine xbg ?_;apply tv;apply sq<;>intro h2 h2p h2s<;>(try simp only[Q,xaS] at h2p);refine bu [0,1] [_,_] zqr ?_;refine si [0] [_] sl36 znr ?_;refine ap sl36 znt I I I oe om ?_;refine ev (wc ziL (zc7 hw ht (zcA ho)) I I ?_);refine ev (CWp.loopT 5 6 (ι:=Nat) hk (fun i=>[(0,.gl 5 ((xs++zaQ ⟨a,k⟩ p++za5 (zaG w n) ((zab w ⟨a,k⟩ p).take i) (p.kids.take i)).map Vt.c)),(10,.d (.i (i:Int)))]) [30,31,32,33,34,35,36,37,38,39,40,41,42,43,44,45,46,47,48,49,50,51,52,53,54,55,56] (fun i=>[(5,some (.tok ((xs++zaQ ⟨a,k⟩ p++za5 (zaG w n) ((zab w ⟨a,k⟩ p).take i) (p.kids.take i)).map Vt.c).length 3))]) (fun i=>i<=zdv w ⟨a,k⟩ p) (fun i=>zdv w ⟨a,k⟩ p-i) 0 od ⟨⟨_,I,LeA.glg ?_⟩,⟨⟨_,I,xaK ?_⟩,O⟩⟩ ⟨zag ?_,O⟩ (fun x=>rfl) (fun i hg1=>?_));iterate 3 focus ((simp[za5,zaQ, *];done))
  refine evc [] [1,5,6] (xaC (xbh 13 [(42,.d (.bool (decide (i<zdv w ⟨a,k⟩ p))))] [30,31,32,33,34,35,36,37,38,39,40,41] ?_ ?_));refine ev ?_;apply sq<;>intro h3 h3p h3s;apply sq<;>intro h4 h4p h4s;exact jnb I;exact jnb I;exact jnb I;refine xbg ?_;apply tv;apply sq<;>intro h5 h5p h5s<;>(try simp only[Q,xaS] at h5p);refine ixq zaL I I I (zan od) I ?_;refine evd [] [] (ixq sl58 I I I (zb2 od) I ?_);refine evd [] [] (xbq 6 zgu (zfC hw n (a:=(nth (zab w ⟨a,k⟩ p) i).data) (k:=(nth (zab w ⟨a,k⟩ p) i).index) (p:=nth p.kids i) (xs:=xs++zaQ ⟨a,k⟩ p++za5 (zaG w n) ((zab w ⟨a,k⟩ p).take i) (p.kids.take i)) (zbs hs od) od (hin _ (zam od)) (xaX hok.2 _ (zam od)) (by have:=zoN (zed w n) (a:=zab w ⟨a,k⟩ p) (b:=p.kids) (i:=i) od;simp only[xaa];omega)) I .none I I (.cons (.refl _) (.cons (.refl _) (.cons (.refl _) (.cons (.refl _) .nil)))) I o8 ?_);refine evd [] [] (dr (CWp.retok 0 6 5 I I I I I (evc [] [] (ar (xaj (i+1) ⟨od,od,sx ⟨⟨_,I,LeA.glg ?_⟩,⟨⟨_,I,xaK ?_⟩,O⟩⟩ ⟨zag ?_,O⟩⟩)))));iterate 3 focus (first|rfl|(rw[zil od od];simp[xar];done))
  refine rn [(5,some (.tok ((xs++zaG w (n+1) ⟨a,k⟩ p).map Vt.c).length 3))] (r1 I) (.glg ?_) ⟨I,I⟩ (SubO.get ⟨.inr ?_,⟨.inl I,O⟩⟩) (zak I);rotate_left 2;refine wc ziL (zc7 hw ht (zcA ho)) I I ?_;refine ev (CWp.loopT 5 6 (ι:=Nat) hk (fun i=>[(0,.gl 5 ((xs++zaQ ⟨a,k⟩ p++za5 (zaG w n) ((zab w ⟨a,k⟩ p).take i) (p.kids.take i)).map Vt.c)),(10,.d (.i (i:Int)))]) [30,31,32,33,34,35,36,37,38,39,40,41,42,43,44,45,46,47,48,49,50,51,52,53,54,55,56] (fun i=>[(5,some (.tok ((xs++zaQ ⟨a,k⟩ p++za5 (zaG w n) ((zab w ⟨a,k⟩ p).take i) (p.kids.take i)).map Vt.c).length 3))]) (fun i=>i<=zdv w ⟨a,k⟩ p) (fun i=>zdv w ⟨a,k⟩ p-i) 0 od ⟨⟨_,I,LeA.glg ?_⟩,⟨⟨_,I,xaK ?_⟩,O⟩⟩ ⟨zag ?_,O⟩ (fun x=>rfl) (fun i hg1=>?_));iterate 3 focus ((simp[za5,zaQ, *];done))
  refine evc [] [1,5,6] (xaC (xbh 13 [(42,.d (.bool (decide (i<zdv w ⟨a,k⟩ p))))] [30,31,32,33,34,35,36,37,38,39,40,41] ?_ ?_));refine ev ?_;apply sq<;>intro h6 h6p h6s<;>(try simp only[Q,xaS] at h6p);apply sq<;>intro h7 h7p h7s<;>(try simp only[Q,xaS] at h7p);exact jnb I;exact jnb I;exact jnb I;refine xbg ?_;apply tv;apply sq<;>intro h8 h8p h8s<;>(try simp only[Q,xaS] at h8p);refine ixq zaL I I I (zan od) I ?_;refine evd [] [] (ixq sl58 I I I (zb2 od) I ?_);refine evd [] [] (xbq 6 zgu (zfC hw n (a:=(nth (zab w ⟨a,k⟩ p) i).data) (k:=(nth (zab w ⟨a,k⟩ p) i).index) (p:=nth p.kids i) (xs:=xs++zaQ ⟨a,k⟩ p++za5 (zaG w n) ((zab w ⟨a,k⟩ p).take i) (p.kids.take i)) (zbs hs od) od (hin _ (zam od)) (xaX hok.2 _ (zam od)) (by have:=zoN (zed w n) (a:=zab w ⟨a,k⟩ p) (b:=p.kids) (i:=i) od;simp only[xaa];omega)) I .none I I (.cons (.refl _) (.cons (.refl _) (.cons (.refl _) (.cons (.refl _) .nil)))) I o8 ?_);refine evd [] [] (dr (CWp.retok 0 6 5 I I I I I (evc [] [] (ar (xaj (i+1) ⟨od,od,sx ⟨⟨_,I,LeA.glg ?_⟩,⟨⟨_,I,xaK ?_⟩,O⟩⟩ ⟨zag ?_,O⟩⟩)))));iterate 3 focus (first|rfl|(rw[zil od od];simp[xar];done))
  refine rn [(5,some (.tok ((xs++zaG w (n+1) ⟨a,k⟩ p).map Vt.c).length 3))] (r1 I) (.glg ?_) ⟨I,I⟩ (SubO.get ⟨.inr ?_,⟨.inl I,O⟩⟩) (zak I);rotate_left 2;all_goals (first|((rw[zaG,<-zm3 (f:=zaG w n) hl (i:=i) od];simp);done)|((show some (Res.tok _ _)=some (Res.tok _ _);congr 2;rw[zaG,<-zm3 (f:=zaG w n) hl (i:=i) od];simp)))
theorem zc8 {w:List Data} (hw:WT w){n:Nat}{a k:Int}{p:Pat} (hs:zas w n ⟨a,k⟩ p=true) (hn:n<=1000) (ht:TyIn w.length ⟨a,k⟩) (hok:p.ok) (hb:p.size<=1000000000000):
  FnD Tryz.prog 143 [.nils,.d (zah w),.agg [.d (.i a),.d (.i k)],.agg [.d (.i p.op),.d (.i p.ctor),.d (.i p.n),.d (.i p.m),.d (.i p.var),.d (zau p.kids)]] [] (.d (zcS (zaG w n ⟨a,k⟩ p))) []:=by
 have h:=zfC hw n (xs:=[]) hs hn ht hok (by simp only[xak];omega);exact FnD.nilTok (by simp[AV.idsL,AV.ids]) h
theorem zoS {l:List Vt}{i:Nat} (h:i<l.length) (h2:¬zbE l (nth l i).var=i):znj l=false:=zc1 h (by simpa using h2)
theorem zeG {w:List Data} (hw:WT w):∀(n:Nat){a k:Int}{p:Pat},zas w n ⟨a,k⟩ p=true->n<=1000->TyIn w.length ⟨a,k⟩->p.ok->p.size<=1000000000000->
  FnD Tryz.prog 188 [.d (zah w),.agg [.d (.i a),.d (.i k)],.agg [.d (.i p.op),.d (.i p.ctor),.d (.i p.n),.d (.i p.m),.d (.i p.var),.d (zau p.kids)]] [] (.d (.bool (linP w n ⟨a,k⟩ p))) []
 |0,a,k,p,hs,_,_,_,_=>by simp[zas] at hs
 |n+1,a,k,p,hs,hn,ht,hok,hb=>by
  have hok':=hok;rw[xaU] at hok;have hb':=hb;rw[xaV] at hb';obtain⟨ho,hl⟩:=zce hs;have hin:=zda hw ht ho;have hlen:=zgj hw ht (zcA ho);have hvl:=zed w (n+1) ⟨a,k⟩ p;have hsz:∀i,i<p.kids.length->(nth p.kids i).size<=1000000000000:=fun i hi=>by have:=zeP hi;omega
  by_cases hop5:p.op=5
  ·have e1:zab w ⟨a,k⟩ p=[⟨a,k⟩,⟨a,k⟩]:=by unfold zab;rw[if_neg od,if_pos hop5]
   have hl2:p.kids.length=2:=by rw[hl,e1];rfl
   have s0:zas w n ⟨a,k⟩ (nth p.kids 0)=true:=by have:=zbs hs (i:=0) od;rw[e1] at this;exact this
   have s1:zas w n ⟨a,k⟩ (nth p.kids 1)=true:=by have:=zbs hs (i:=1) od;rw[e1] at this;exact this
   have v0:=zed w n ⟨a,k⟩ (nth p.kids 0);have v1:=zed w n ⟨a,k⟩ (nth p.kids 1);have z0:=hsz 0 od;have z1:=hsz 1 od;refine bd Tryz.f188 70 [] [] fun _ _ _ _ hk=>?_;refine bx 3004 ?_;refine bx 3005 ?_;refine ev (wc ziL (zc7 hw ht (zcA ho)) I I ?_);refine ev (xaA (ι:=Nat) hk (fun i=>[(8,.d (.i (i:Int)))]) [6,15,16,17,18,19,20,21,22,23,24,25,26,27,28,29,30,31,32] (fun i=>[]) (fun i=>i<=(zab w ⟨a,k⟩ p).length/\∀i',i'<i->linP w n (nth (zab w ⟨a,k⟩ p) i') (nth p.kids i')=true) (fun i=>(zab w ⟨a,k⟩ p).length-i) 0 ⟨by omega,fun _ h=>absurd h od⟩ ⟨⟨_,I,xaK ?_⟩,O⟩ O (fun x=>rfl) (fun i hg1=>?_));focus (first|rfl|(simp;done))
   refine evc [] [] ?_;apply sq<;>intro h1 h1p h1s<;>(try simp only[Q,xaS] at h1p);refine ixq zaL I I I (zan od) I ?_;refine evd [] [] (ixq sl58 I I I (zb2 od) I ?_);refine evd [] [] (wc zkG (zeG hw n (zbs hs od) od (hin _ (zam od)) (xaX hok.2 _ (zam od)) (hsz _ od)) I I ?_);refine evd [] [] (dr ?_);apply sq<;>intro h2 h2p h2s<;>(try simp only[Q,xaS] at h2p);refine rq ?_;rotate_left;refine ar (xaj (i+1) ⟨⟨by omega,zbb hg1.2 ol⟩,od,sx ⟨⟨_,I,xaK ?_⟩,O⟩ O⟩);focus (first|rfl|(simp;done))
   apply sq<;>intro h3 h3p h3s<;>(try simp only[Q,xaS] at h3p);refine ixq (i:=0) sl58 I I I (zb2 od) I ?_;refine evd [] [] (wc zgu (zc8 hw s0 od ht (xaX hok.2 _ (zam od)) z0) I I ?_);refine evd [] [] (ixq (i:=1) sl58 I I I (zb2 od) I ?_);refine evd [] [] (wc zgu (zc8 hw s1 od ht (xaX hok.2 _ (zam od)) z1) I I ?_);refine wc zu0 (zly od od) I I ?_;refine evd [] [] (dr (rq ?_));rotate_left;exfalso;simp_all;all_goals (refine xam D.bool ?_;unfold linP;rw[if_pos hop5];first|(rw[zfT od (fun x hx=>hg1.2 x od),Bool.true_and])|(rw[zef (i:=i) od od ol,Bool.false_and]))
  ·skip
   refine bd Tryz.f188 70 [] [] fun _ _ _ _ hk=>?_;refine bx 3004 ?_;refine bx 3005 ?_;refine ev (wc ziL (zc7 hw ht (zcA ho)) I I ?_);refine ev (xaA (ι:=Nat) hk (fun i=>[(8,.d (.i (i:Int)))]) [6,15,16,17,18,19,20,21,22,23,24,25,26,27,28,29,30,31,32] (fun i=>[]) (fun i=>i<=(zab w ⟨a,k⟩ p).length/\∀i',i'<i->linP w n (nth (zab w ⟨a,k⟩ p) i') (nth p.kids i')=true) (fun i=>(zab w ⟨a,k⟩ p).length-i) 0 ⟨by omega,fun _ h=>absurd h od⟩ ⟨⟨_,I,xaK ?_⟩,O⟩ O (fun x=>rfl) (fun i hg1=>?_));focus (first|rfl|(simp;done))
   refine evc [] [] ?_;apply sq<;>intro h1 h1p h1s<;>(try simp only[Q,xaS] at h1p);refine ixq zaL I I I (zan od) I ?_;refine evd [] [] (ixq sl58 I I I (zb2 od) I ?_);refine evd [] [] (wc zkG (zeG hw n (zbs hs od) od (hin _ (zam od)) (xaX hok.2 _ (zam od)) (hsz _ od)) I I ?_);refine evd [] [] (dr ?_);apply sq<;>intro h2 h2p h2s<;>(try simp only[Q,xaS] at h2p);refine rq ?_;rotate_left;refine ar (xaj (i+1) ⟨⟨by omega,zbb hg1.2 ol⟩,od,sx ⟨⟨_,I,xaK ?_⟩,O⟩ O⟩);focus (first|rfl|(simp;done))
   apply sq<;>intro h3 h3p h3s<;>(try simp only[Q,xaS] at h3p);exfalso;simp_all;refine wc zgu (zc8 hw hs hn ht hok' hb) I I ?_;refine ev (xaA (ι:=Nat) hk (fun j=>[(10,.d (.i (j:Int)))]) [6,55,56,57,58,59,60,61,62,63,64,65,66,67,68,69] (fun j=>[]) (fun j=>j<=(zaG w (n+1) ⟨a,k⟩ p).length/\∀j',j'<j->zbE (zaG w (n+1) ⟨a,k⟩ p) (nth (zaG w (n+1) ⟨a,k⟩ p) j').var=(j':Int)) (fun j=>(zaG w (n+1) ⟨a,k⟩ p).length-j) 0 ⟨by omega,fun _ h=>absurd h od⟩ ⟨⟨_,I,xaK ?_⟩,O⟩ O (fun x=>rfl) (fun j hg2=>?_));focus (first|rfl|(simp;done))
   refine evc [] [] ?_;apply sq<;>intro h4 h4p h4s<;>(try simp only[Q,xaS] at h4p);refine ixq sl36 I I I (zan od) I ?_;refine ev (wc znI (zfA od) I I ?_);refine ev ?_;apply sq<;>intro h5 h5p h5s<;>(try simp only[Q,xaS] at h5p);refine rq ?_;rotate_left;refine ar (xaj (j+1) ⟨⟨by omega,zbb hg2.2 od⟩,od,sx ⟨⟨_,I,xaK ?_⟩,O⟩ O⟩);focus (first|rfl|(simp;done))
   refine rq ?_;rotate_left;all_goals (refine xam D.bool ?_;unfold linP;rw[if_neg hop5];first|(rw[zef (i:=i) od od ol,Bool.false_and];done)|(rw[zfT od (fun x hx=>hg1.2 x od),Bool.true_and];first|(rw[zoS (i:=j) od od];done)|(symm;exact zdo (fun x hx=>xax (hg2.2 x od)))))
def isP (w:List Data) (t:Ty) (p:Pat):Bool:=zas w 10 t p&&(decide ((p.size:Int)<=60)&&linP w 10 t p)
theorem zgN {w:List Data} (hw:WT w){a k:Int}{p:Pat} (ht:TyIn w.length ⟨a,k⟩) (hok:p.ok) (hb:p.size<=1000000000000):
  FnD Tryz.prog 103 [.d (zah w),.agg [.d (.i a),.d (.i k)],.agg [.d (.i p.op),.d (.i p.ctor),.d (.i p.n),.d (.i p.m),.d (.i p.var),.d (zau p.kids)]] [] (.d (.bool (isP w ⟨a,k⟩ p))) []:=by
 have hc:=znQ p 60;by_cases hs:zas w 10 ⟨a,k⟩ p=true
 ·skip
  refine bd Tryz.f103 22 [] [1] fun _ _ _ _ hk=>?_;refine bx 3004 ?_;refine bx 3005 ?_;refine ev (xaC (xbh 9 [(15,.d (.bool (decide ((p.size:Int)<=60))))] [7,8,9,10,11,12,13,14] ?_ ?_));refine ev (wc znC (zfd hw 10 od od ht hok) I I ?_);refine ev ?_;apply sq<;>intro h1 h1p h1s;refine Walk.call (cr:=[]) znD (zfc _ (Nat.le_refl _) hb hok od od) I (.some I I h1) I I (LeL.refl _) O I I I ?_;refine evs [] [(11,true)] ?_ ⟨⟨_,I,h1⟩,O⟩;exact jnb I;exact jnb I;refine xbg (ev ?_);apply sq<;>intro h2 h2p h2s;refine Walk.call (cr:=[]) zkG (zeG hw 10 hs od ht hok hb) I (.some I I h2) I I (LeL.refl _) O I I I ?_;refine evs [] [(16,true)] ?_ ⟨⟨_,I,h2⟩,O⟩;refine rq ?_;rotate_left;refine rq ?_;rotate_left;all_goals (refine xam D.bool ?_;unfold isP;simp only[hs,Bool.true_and];first|(simp_all;done)|(simp_all;intro;omega))
 ·have hs':zas w 10 ⟨a,k⟩ p=false:=by simpa using hs
  refine bd Tryz.f103 22 [] [1] fun _ _ _ _ hk=>?_;refine bx 3004 ?_;refine bx 3005 ?_;refine ev (xaC (xbh 9 [(15,.d (.bool false))] [7,8,9,10,11,12,13,14] ?_ ?_));refine ev (wc znC (zfd hw 10 od od ht hok) I I ?_);refine ev ?_;apply sq<;>intro h1 h1p h1s;refine Walk.call (cr:=[]) znD (zfc _ (Nat.le_refl _) hb hok od od) I (.some I I h1) I I (LeL.refl _) O I I I ?_;refine evs [] [(11,true)] ?_ ⟨⟨_,I,h1⟩,O⟩;exact jnb I;exact jnb I;refine xbg (ev ?_);apply sq<;>intro h2 h2p h2s;refine Walk.call (cr:=[]) zkG (show FnD Tryz.prog 188 [.d (zah w),.agg [.d (.i a),.d (.i k)],.agg [.d (.i p.op),.d (.i p.ctor),.d (.i p.n),.d (.i p.m),.d (.i p.var),.d (zau p.kids)]] [] (.d (.bool true)) [] from absurd (by assumption:(false:Bool)=true) oe) I (.some I I h2) I I (LeL.refl _) O I I I ?_;refine evs [] [(16,true)] ?_ ⟨⟨_,I,h2⟩,O⟩;refine rq ?_;rotate_left;refine rq ?_;rotate_left;all_goals (refine xam D.bool ?_;unfold isP;simp_all)
set_option maxHeartbeats 2000000
inductive Ex where
 |mk (op n ctor:Int) (kids:List Ex)
 deriving Inhabited
mutual
def Ex.c:Ex->List D
 | .mk op n ctor kids=>[.i op,.i n,.i ctor,.sl (Ex.cs kids)]
def Ex.cs:List Ex->List (List D)
 | []=>[]
 |v::r=>v.c::Ex.cs r
end
abbrev zvi (l:List Ex):D:= .sl (Ex.cs l)
theorem xaH:∀l:List Ex,Ex.cs l=l.map Ex.c
 | []=>rfl
 |v::r=>by simp[Ex.cs,xaH r]
theorem Ex.cs_len (l:List Ex):(Ex.cs l).length=l.length:=by simp[xaH]
def Ex.op:Ex->Int | .mk a0 _ _ _=>a0
def Ex.n:Ex->Int | .mk _ a1 _ _=>a1
def Ex.ctor:Ex->Int | .mk _ _ a2 _=>a2
def Ex.kids:Ex->List Ex | .mk _ _ _ k=>k
abbrev Ex.cc (v:Ex):List D:=[.i v.op,.i v.n,.i v.ctor,.sl (Ex.cs v.kids)]
theorem Ex.c_eq (v:Ex):v.c=v.cc:=by cases v;rfl
theorem Ex.eta (v:Ex):Ex.mk v.op v.n v.ctor v.kids=v:=by cases v;rfl
theorem Ex.cs_at' {pre:List Ex}{x:Ex}{rest xs:List Ex} (h:pre++x::rest=xs):(Ex.cs xs)[pre.length]?=some x.cc:=by rw[xaH,<-Ex.c_eq];exact zaE h
mutual
def exEq:Ex->Ex->Bool
 | .mk a0 a1 a2 ks,.mk b0 b1 b2 ls=>decide (a0=b0)&&(decide (a1=b1)&&(decide (a2=b2)&&znk ks ls))
def znk:List Ex->List Ex->Bool
 | [],[]=>true
 |x::r,y::s=>exEq x y&&znk r s
 |_,_=>false
end
mutual
def Ex.ok:Ex->Prop
 | .mk _ _ _ ks=>ks.length<=1000000000000/\Exs.ok ks
def Exs.ok:List Ex->Prop
 | []=>True
 |v::r=>v.ok/\Exs.ok r
end
theorem Exs.ok_mem:∀ {l:List Ex},Exs.ok l->∀v,v∈l->v.ok
 |x::r,h,v,hv=>by
  simp only[Exs.ok] at h;rcases List.mem_cons.1 hv with rfl|hv
  ·exact h.1
  ·exact Exs.ok_mem h.2 v hv
mutual
def Ex.size:Ex->Nat
 | .mk _ _ _ ks=>1+Exs.size ks
def Exs.size:List Ex->Nat
 | []=>0
 |v::r=>v.size+Exs.size r
end
theorem Exs.size_mem:∀ {l:List Ex}{v:Ex},v∈l->v.size<=Exs.size l
 |x::r,v,hv=>by
  simp only[Exs.size];rcases List.mem_cons.1 hv with rfl|hv
  ·omega
  ·have:=Exs.size_mem hv;omega
theorem Ex.ok_iff (v:Ex):v.ok↔v.kids.length<=1000000000000/\Exs.ok v.kids:=by cases v;rfl
theorem Ex.size_eq (v:Ex):v.size=1+Exs.size v.kids:=by cases v;rfl
mutual
theorem zre:∀v:Ex,exEq v v=true
 | .mk _ _ _ ks=>by simp[exEq,zkZ ks]
theorem zkZ:∀l:List Ex,znk l l=true
 | []=>rfl
 |v::r=>by simp[znk,zre v,zkZ r]
end
theorem Ex.cs_cc (l:List Ex):Ex.cs l=l.map Ex.cc:=by
 rw[xaH];exact List.map_congr_left (fun v _=>Ex.c_eq v)
mutual
def mEx:Ex->Nat
 | .mk _ _ _ ks=>mExs ks
def mExs:List Ex->Nat
 | []=>0
 |v::r=>1+mEx v+mExs r
end
structure Gd where
 op:Int
 var:Int
 n:Int
 deriving Inhabited
structure Cl where
 pat:Pat
 g:Gd
 deriving Inhabited
structure Ft where
 arg:Ty
 res:Ty
 deriving Inhabited
structure Fu where
 ty:Ft
 cls:List Cl
 bodies:List Ex
 deriving Inhabited
abbrev Cl.c (x:Cl):List D:=[.i x.pat.op,.i x.pat.ctor,.i x.pat.n,.i x.pat.m,.i x.pat.var,.sl (Pat.cs x.pat.kids),.i x.g.op,.i x.g.var,.i x.g.n]
abbrev zbu (l:List Cl):D:= .sl (l.map Cl.c)
abbrev Ft.c (x:Ft):List D:=[.i x.arg.data,.i x.arg.index,.i x.res.data,.i x.res.index]
abbrev Fu.c (x:Fu):List D:=[.i x.ty.arg.data,.i x.ty.arg.index,.i x.ty.res.data,.i x.ty.res.index,zbu x.cls,zvi x.bodies]
def ClsOk (l:List Cl):Prop:=l.length<=1000000000000/\∀c∈l,c.pat.ok
theorem zco {w:List Data} (hs:WSmall w) (hv:zaT w=true):WT w:=WV.wt hs ((zcp w).1 hv)
set_option maxHeartbeats 4000000
theorem ze3 {p:Pat}{b1 b2 b3:Bool}{k:Int}:FnD Tryz.prog 293 [.agg [.d (.i p.op),.d (.i p.ctor),.d (.i p.n),.d (.i p.m),.d (.i p.var),.d (zau p.kids)],.d (.bool b1),.d (.bool b2),.d (.bool b3),.d (.i k)] []
  (.d (.bool (decide ((b1=true\/p.ctor=0)/\(b2=true\/p.n=0/\p.m=0)/\(b3=true\/p.var=0)/\(p.kids.length:Int)=k)))) []:=by
 refine bd Tryz.f293 45 [] [1] fun _ _ _ _ hk=>?_;refine bx 3005 ?_;refine ev (xaC (xbh 6 [(16,.d (.bool (decide (b1=true\/p.ctor=0))))] [11,12,13,14,15] ?_ ?_));refine ev ?_;apply sq<;>intro h1 h1p h1s;focus (exact jn I (xaJ (by(first|rfl|(rw[xat];simp_all[xaS];done)))))
 focus (exact jn I (xaJ (by(first|rfl|(rw[xat];simp_all[xaS];done)))))
 refine xbh 13 [(29,.d (.bool (decide ((b1=true\/p.ctor=0)/\(b2=true\/p.n=0/\p.m=0)))))] [17,18,19,20,21,22,23,24,25,26,27,28] ?_ ?_;refine ev ?_;apply sq<;>intro h2 h2p h2s;apply sq<;>intro h3 h3p h3s;focus (exact jn I (xaJ (by(first|rfl|(rw[xat];simp_all[xaS];done)))))
 apply sq<;>intro h4 h4p h4s;focus (exact jn I (xaJ (by(first|rfl|(rw[xat];simp_all[xaS];done)))))
 focus (exact jn I (xaJ (by(first|rfl|(rw[xat];simp_all[xaS];done)))))
 focus (exact jn I (xaJ (by(first|rfl|(rw[xat];simp_all[xaS];done)))))
 refine xbh 8 [(37,.d (.bool (decide ((b1=true\/p.ctor=0)/\(b2=true\/p.n=0/\p.m=0)/\(b3=true\/p.var=0)))))] [30,31,32,33,34,35,36] ?_ ?_;refine ev ?_;apply sq<;>intro h5 h5p h5s;apply sq<;>intro h6 h6p h6s;focus (exact jn I (xaJ (by(first|rfl|(rw[xat];simp_all[xaS];done)))))
 focus (exact jn I (xaJ (by(first|rfl|(rw[xat];simp_all[xaS];done)))))
 focus (exact jn I (xaJ (by(first|rfl|(rw[xat];simp_all[xaS];done)))))
 refine xbh 7 [(44,.d (.bool (decide ((b1=true\/p.ctor=0)/\(b2=true\/p.n=0/\p.m=0)/\(b3=true\/p.var=0)/\(p.kids.length:Int)=k))))] [38,39,40,41,42,43] ?_ ?_;refine ev ?_;apply sq<;>intro h7 h7p h7s;focus (exact jn I (xaJ (by(first|rfl|(rw[xat];simp_all[xaS];done)))))
 focus (exact jn I (xaJ (by(first|rfl|(rw[xat];simp_all[xaS];done)))))
 refine xbg (ev (rq ?_));rotate_left;all_goals (rfl)
theorem zfG {p:Pat}{k:Int}:FnD Tryz.prog 293 [.agg [.d (.i p.op),.d (.i p.ctor),.d (.i p.n),.d (.i p.m),.d (.i p.var),.d (zau p.kids)],.d (.bool false),.d (.bool false),.d (.bool false),.d (.i k)] []
  (.d (.bool (decide (p.ctor=0/\(p.n=0/\p.m=0)/\p.var=0/\(p.kids.length:Int)=k)))) []:=by
 have:=ze3 (p:=p) (b1:=false) (b2:=false) (b3:=false) (k:=k);simpa only[Bool.false_eq_true,false_or] using this
theorem zfH {p:Pat}{k:Int}:FnD Tryz.prog 293 [.agg [.d (.i p.op),.d (.i p.ctor),.d (.i p.n),.d (.i p.m),.d (.i p.var),.d (zau p.kids)],.d (.bool false),.d (.bool false),.d (.bool true),.d (.i k)] []
  (.d (.bool (decide (p.ctor=0/\(p.n=0/\p.m=0)/\(p.kids.length:Int)=k)))) []:=by
 have:=ze3 (p:=p) (b1:=false) (b2:=false) (b3:=true) (k:=k);simpa only[Bool.false_eq_true,false_or,true_or,true_and] using this
theorem zjW {p:Pat}{k:Int}:FnD Tryz.prog 293 [.agg [.d (.i p.op),.d (.i p.ctor),.d (.i p.n),.d (.i p.m),.d (.i p.var),.d (zau p.kids)],.d (.bool false),.d (.bool true),.d (.bool false),.d (.i k)] []
  (.d (.bool (decide (p.ctor=0/\p.var=0/\(p.kids.length:Int)=k)))) []:=by
 have:=ze3 (p:=p) (b1:=false) (b2:=true) (b3:=false) (k:=k);simpa only[Bool.false_eq_true,false_or,true_or,true_and] using this
theorem zoU {p:Pat}{k:Int}:FnD Tryz.prog 293 [.agg [.d (.i p.op),.d (.i p.ctor),.d (.i p.n),.d (.i p.m),.d (.i p.var),.d (zau p.kids)],.d (.bool true),.d (.bool false),.d (.bool false),.d (.i k)] []
  (.d (.bool (decide ((p.n=0/\p.m=0)/\p.var=0/\(p.kids.length:Int)=k)))) []:=by
 have:=ze3 (p:=p) (b1:=true) (b2:=false) (b3:=false) (k:=k);simpa only[Bool.false_eq_true,false_or,true_or,true_and] using this
theorem zez {v:Int}:FnD Tryz.prog 136 [.d (.i v)] [] (.d (.bool (zaC v 0 5))) []:=by
 refine bd Tryz.f136 5 [] [] fun _ _ _ _ hk=>?_;refine wc zes zbD I I ?_;refine ev (rq ?_);rotate_left;all_goals (rfl)
theorem zft {w:List Data} (hw:WT w){a k:Int} (ht:TyIn w.length ⟨a,k⟩):FnD Tryz.prog 236 [.d (zah w),.agg [.d (.i a),.d (.i k)]] [] (.d (zcP (zao w ⟨a,k⟩))) []:=by
 rcases ht with ha|⟨d,hd,hlt⟩
 ·simp only at ha;subst ha;rw[zgk];exact zix
 ·simp only at hd;subst hd;rw[zhg];exact zk5 hw hlt
theorem zgU {w:List Data} (hw:WT w){a k c:Int} (ht:TyIn w.length ⟨a,k⟩) (hc:c∈zao w ⟨a,k⟩):FnD Tryz.prog 237 [.d (zah w),.agg [.d (.i a),.d (.i k)],.d (.i c)] [] (.d (zbU (zae w ⟨a,k⟩ c))) []:=by
 obtain⟨d,rfl,h1,h2⟩:=zbc ht hc;exact zkb hw h1 h2
theorem zir {w:List Data} (hw:WT w){a k:Int}{p:Pat} (ht:TyIn w.length ⟨a,k⟩):
  FnD Tryz.prog 252 [.d (zah w),.agg [.d (.i a),.d (.i k)],.agg [.d (.i p.op),.d (.i p.ctor),.d (.i p.n),.d (.i p.m),.d (.i p.var),.d (zau p.kids)]] [] (.tup [.d (zbU (zcF w ⟨a,k⟩ p)),.d (.bool (okP w ⟨a,k⟩ p))]) []:=by
 have hcl:=zeq hw ht;have ty4:p.op=4->p.ctor∉zao w ⟨a,k⟩->zcF w ⟨a,k⟩ p=[]:=fun h4 hm=>by unfold zcF;rw[if_pos ⟨h4,hm⟩]
 have ty4':p.op=4->p.ctor∈zao w ⟨a,k⟩->zcF w ⟨a,k⟩ p=zae w ⟨a,k⟩ p.ctor:=fun h4 hm=>by unfold zcF zab;rw[if_neg (fun h=>h.2 hm),if_pos h4]
 have ty5:p.op=5->zcF w ⟨a,k⟩ p=[⟨a,k⟩,⟨a,k⟩]:=fun h5=>by unfold zcF zab;rw[if_neg od,if_neg od,if_pos h5]
 have ty6:p.op=6->zcF w ⟨a,k⟩ p=[⟨a,k⟩]:=fun h6=>by unfold zcF zab;rw[if_neg od,if_neg od,if_neg od,if_pos h6]
 have ty0:¬p.op=4->¬p.op=5->¬p.op=6->zcF w ⟨a,k⟩ p=[]:=fun h4 h5 h6=>by unfold zcF zab;rw[if_neg (fun h=>h4 h.1),if_neg h4,if_neg h5,if_neg h6]
 have ln4:p.op=4->(zab w ⟨a,k⟩ p).length=(zae w ⟨a,k⟩ p.ctor).length:=fun h4=>by unfold zab;rw[if_pos h4]
 have ln5:p.op=5->(zab w ⟨a,k⟩ p).length=2:=fun h5=>by unfold zab;rw[if_neg od,if_pos h5];rfl
 have ln6:p.op=6->(zab w ⟨a,k⟩ p).length=1:=fun h6=>by unfold zab;rw[if_neg od,if_neg od,if_pos h6];rfl
 have ln0:¬p.op=4->¬p.op=5->¬p.op=6->(zab w ⟨a,k⟩ p).length=0:=fun h4 h5 h6=>by unfold zab;rw[if_neg h4,if_neg h5,if_neg h6];rfl
 have okI:∀b:Bool,(b=true↔((((p.op=2\/p.op=6)->0<=p.var/\p.var<=5)/\(¬(p.op=2\/p.op=6)->p.var=0)/\(p.op≠3->p.n=0/\p.m=0)/\(p.op≠4->p.ctor=0)/\
   (p.op=1\/p.op=2\/p.op=5\/p.op=6\/(p.op=3/\a = -1/\0<=p.n/\p.n<=p.m/\p.m<=9)\/(p.op=4/\p.ctor∈zao w ⟨a,k⟩)))/\p.kids.length=(zab w ⟨a,k⟩ p).length))->b=okP w ⟨a,k⟩ p:=fun b h=>by
  rw[xat,h];unfold okP ownP;simp only[xad,xah]
 by_cases hmem:p.ctor∈zao w ⟨a,k⟩
 ·have hargs:=zgU hw ht hmem;have hal:(zae w ⟨a,k⟩ p.ctor).length<=1000000000000:=by
   obtain⟨d,rfl,h1,h2⟩:=zbc ht hmem;exact zhN hw h1 h2
  simp only[hmem,and_true] at okI;refine bd Tryz.f252 87 [] [5] fun _ _ _ _ hk=>?_;refine bx 3004 ?_;refine bx 3005 ?_;refine ev ?_;apply sq<;>intro h1 h1p h1s<;>(try simp only[Q] at h1p);refine wc zd2 zfG I I ?_;refine ev (rn0 (r2 I I) (.tup (qne ?_ ?_)));rotate_left 2;apply sq<;>intro h2 h2p h2s<;>(try simp only[Q] at h2p);refine xaC (xbh 7 [(23,.d (.bool (decide ((p.ctor=0/\(p.n=0/\p.m=0)/\(p.kids.length:Int)=0)/\0<=p.var/\p.var<=5))))] [17,18,19,20,21,22] ?_ ?_);refine ev (wc zd2 zfH I I ?_);refine ev ?_;apply sq<;>intro h3 h3p h3s<;>(try simp only[Q] at h3p);refine Walk.call (cr:=[]) zkC zez I (.some I I h3) I I (LeL.refl _) O I I I (evs [] [(19,true)] ?_ ⟨⟨_,I,h3⟩,O⟩);exact jn I (xaJ (by(rw[xat];simp only[xah,zaC,xad,Bool.false_eq_true,false_iff,true_iff];omega)));exact jn I (xaJ (by(rw[xat];simp only[xah,zaC,xad,Bool.false_eq_true,false_iff,true_iff];omega)));refine xbg (ev (rn0 (r2 I I) (.tup (qne ?_ ?_))));rotate_left 2;apply sq<;>intro h4 h4p h4s<;>(try simp only[Q] at h4p);apply sq<;>intro h5 h5p h5s<;>(try simp only[Q] at h5p);refine Walk.call (cr:=[]) zd2 zjW I (.some I I h5) I I (LeL.refl _) O I I I (evd [] [(29,true)] ?_ ⟨⟨_,I,h5⟩,O⟩);apply sq<;>intro h6 h6p h6s<;>(try simp only[Q] at h6p);apply sq<;>intro h7 h7p h7s<;>(try simp only[Q] at h7p);apply sq<;>intro h8 h8p h8s<;>(try simp only[Q] at h8p);refine dr (rn0 (r2 I I) (.tup (qne ?_ ?_)));rotate_left 2;refine dr (rn0 (r2 I I) (.tup (qne ?_ ?_)));rotate_left 2;refine sqF ?_;refine dr (rn0 (r2 I I) (.tup (qne ?_ ?_)));rotate_left 2;refine sqF ?_;refine sqF ?_;refine dr (rn0 (r2 I I) (.tup (qne ?_ ?_)));rotate_left 2;refine sqF ?_;refine sqF ?_;refine sqF ?_;refine dr (rn0 (r2 I I) (.tup (qne ?_ ?_)));rotate_left 2;apply sq<;>intro h9 h9p h9s<;>(try simp only[Q] at h9p);refine wc znH (zft hw ht) I I ?_;refine evd [] [] (wc zqQ (zey hcl) I I ?_);refine evd [] [] (dr ?_);apply sq<;>intro h10 h10p h10s<;>(try simp only[Q] at h10p);exfalso;simp_all;refine wc ziM hargs I I ?_;refine ev (wc zd2 zoU I I ?_);refine ev (rn0 (r2 I I) (.tup (qee ?_ ?_)));rotate_left 2;apply sq<;>intro h11 h11p h11s<;>(try simp only[Q] at h11p);refine si [0,1] [_,_] zaL tz38 ?_;refine evd [] [] (wc zd2 zfG I I ?_);refine evd [] [] (dr (rn0 (r2 I I) (.tup (qee ?_ ?_))));rotate_left 2;apply sq<;>intro h12 h12p h12s<;>(try simp only[Q] at h12p);refine si [0] [_] zaL tz38 ?_;refine evd [] [] (wc zd2 zfH I I ?_);refine evd [] [] ?_;apply sq<;>intro h13 h13p h13s<;>(try simp only[Q] at h13p);refine Walk.call (cr:=[]) zkC zez I (.some I I h13) I I (LeL.refl _) O I I I (evd [] [(82,true)] ?_ ⟨⟨_,I,h13⟩,O⟩);refine dr (rn0 (r2 I I) (.tup (qee ?_ ?_)));rotate_left 2;refine dr (rn0 (r2 I I) (.tup (qee ?_ ?_)));rotate_left 2;refine rn0 (r2 I I) (.tup (qne ?_ ?_));rotate_left 2;all_goals (first|(refine xam D.bool (okI _ ?_);(try simp only[xah,Bool.false_eq_true,zaC,xad,xac,true_iff,false_iff]);omega)|(rw[ty0 od od od];first|done|rfl)|(rw[ty5 od];first|done|rfl)|(rw[ty6 od];first|done|rfl)|(rw[ty4' od hmem];first|done|rfl))
 ·simp only[hmem,and_false,or_false] at okI;refine bd Tryz.f252 87 [] [5] fun _ _ _ _ hk=>?_;refine bx 3004 ?_;refine bx 3005 ?_;refine ev ?_;apply sq<;>intro h1 h1p h1s<;>(try simp only[Q] at h1p);refine wc zd2 zfG I I ?_;refine ev (rn0 (r2 I I) (.tup (qne ?_ ?_)));rotate_left 2;apply sq<;>intro h2 h2p h2s<;>(try simp only[Q] at h2p);refine xaC (xbh 7 [(23,.d (.bool (decide ((p.ctor=0/\(p.n=0/\p.m=0)/\(p.kids.length:Int)=0)/\0<=p.var/\p.var<=5))))] [17,18,19,20,21,22] ?_ ?_);refine ev (wc zd2 zfH I I ?_);refine ev ?_;apply sq<;>intro h3 h3p h3s<;>(try simp only[Q] at h3p);refine Walk.call (cr:=[]) zkC zez I (.some I I h3) I I (LeL.refl _) O I I I (evs [] [(19,true)] ?_ ⟨⟨_,I,h3⟩,O⟩);exact jn I (xaJ (by(rw[xat];simp only[xah,zaC,xad,Bool.false_eq_true,false_iff,true_iff];omega)));exact jn I (xaJ (by(rw[xat];simp only[xah,zaC,xad,Bool.false_eq_true,false_iff,true_iff];omega)));refine xbg (ev (rn0 (r2 I I) (.tup (qne ?_ ?_))));rotate_left 2;apply sq<;>intro h4 h4p h4s<;>(try simp only[Q] at h4p);apply sq<;>intro h5 h5p h5s<;>(try simp only[Q] at h5p);refine Walk.call (cr:=[]) zd2 zjW I (.some I I h5) I I (LeL.refl _) O I I I (evd [] [(29,true)] ?_ ⟨⟨_,I,h5⟩,O⟩);apply sq<;>intro h6 h6p h6s<;>(try simp only[Q] at h6p);apply sq<;>intro h7 h7p h7s<;>(try simp only[Q] at h7p);apply sq<;>intro h8 h8p h8s<;>(try simp only[Q] at h8p);refine dr (rn0 (r2 I I) (.tup (qne ?_ ?_)));rotate_left 2;refine dr (rn0 (r2 I I) (.tup (qne ?_ ?_)));rotate_left 2;refine sqF ?_;refine dr (rn0 (r2 I I) (.tup (qne ?_ ?_)));rotate_left 2;refine sqF ?_;refine sqF ?_;refine dr (rn0 (r2 I I) (.tup (qne ?_ ?_)));rotate_left 2;refine sqF ?_;refine sqF ?_;refine sqF ?_;refine dr (rn0 (r2 I I) (.tup (qne ?_ ?_)));rotate_left 2;apply sq<;>intro h9 h9p h9s<;>(try simp only[Q] at h9p);refine wc znH (zft hw ht) I I ?_;refine evd [] [] (wc zqQ (zey hcl) I I ?_);refine evd [] [] (dr ?_);apply sq<;>intro h10 h10p h10s<;>(try simp only[Q] at h10p);refine rn0 (r2 I I) (.tup (qne ?_ ?_));rotate_left 2;exfalso;simp_all;apply sq<;>intro h11 h11p h11s<;>(try simp only[Q] at h11p);refine si [0,1] [_,_] zaL tz38 ?_;refine evd [] [] (wc zd2 zfG I I ?_);refine evd [] [] (dr (rn0 (r2 I I) (.tup (qee ?_ ?_))));rotate_left 2;apply sq<;>intro h12 h12p h12s<;>(try simp only[Q] at h12p);refine si [0] [_] zaL tz38 ?_;refine evd [] [] (wc zd2 zfH I I ?_);refine evd [] [] ?_;apply sq<;>intro h13 h13p h13s<;>(try simp only[Q] at h13p);refine Walk.call (cr:=[]) zkC zez I (.some I I h13) I I (LeL.refl _) O I I I (evd [] [(82,true)] ?_ ⟨⟨_,I,h13⟩,O⟩);refine dr (rn0 (r2 I I) (.tup (qee ?_ ?_)));rotate_left 2;refine dr (rn0 (r2 I I) (.tup (qee ?_ ?_)));rotate_left 2;refine rn0 (r2 I I) (.tup (qne ?_ ?_));rotate_left 2;all_goals (first|(refine xam D.bool (okI _ ?_);(try simp only[xah,Bool.false_eq_true,zaC,xad,xac,true_iff,false_iff]);omega)|(rw[ty0 od od od];first|done|rfl)|(rw[ty5 od];first|done|rfl)|(rw[ty6 od];first|done|rfl)|(rw[ty4 od hmem];first|done|rfl))
theorem zr9 {t u:Vt}:t=u↔t.var=u.var/\t.ty.data=u.ty.data/\t.ty.index=u.ty.index:=by
 rcases t with ⟨a,b,c⟩;rcases u with ⟨d,e,f⟩;simp
def zp9 (l:List Vt) (v:Vt):Int:=idxF (fun x=>decide (v=x)) l 0
theorem zji {l:List Vt}{v:Vt} (h:l.length<=1000000000000):FnD Tryz.prog 297 [.d (zcS l),.agg [.d (.i v.var),.d (.i v.ty.data),.d (.i v.ty.index)]] [] (.d (.i (zp9 l v))) []:=by
 refine bd Tryz.f297 19 [16] [] fun _ _ _ _ hk=>?_;refine bx 3003 ?_;refine evs [16] [] (xaA (ι:=List (Vt)×List (Vt)) hk (fun x=>[(8,.d (.i (x.1.length:Int)))]) [4,5,9,10,11,12,13,14,15,16,17,18] (fun x=>[]) (fun x=>x.1++x.2=l/\idxF (fun x=>decide (v=x)) x.2 x.1.length=idxF (fun x=>decide (v=x)) l 0) (fun x=>x.2.length) ([],l) ⟨by simp,I⟩ ⟨⟨_,I,xaK ?_⟩,O⟩ O (fun x=>rfl) (fun x hg1=>?_));focus (first|rfl|omega)
 obtain⟨pre,rest⟩:=x;dsimp only at hg1 ⊢;refine evc [16] [] ?_;apply sq<;>intro h1 h1p h1s<;>(try simp only[Q] at h1p);rcases rest with _|⟨y,rest⟩
 ·exfalso;simp_all
 refine ixq sl36 I I I (zaE hg1.1) I (evd [16] [] (Walk.eqV2 zvW .none I I I I I (dr ?_)));apply sq<;>intro h2 h2p h2s<;>(try simp only[Q] at h2p);refine rq ?_;rotate_left;refine ar (xaj ((pre++[y],rest)) ⟨⟨(by have hz:=hg1.1;rw[<-hz];simp),(by rw[<-hg1.2];simp[idxF];simp_all[zr9])⟩,oe,sx ⟨⟨_,I,xaK ?_⟩,O⟩ O⟩);focus (first|rfl|(simp;done)|omega)
 have hrest:rest=[]:=by
  rcases rest with _|⟨a,b⟩
  ·rfl
  ·exfalso;have hz:=xam List.length (hg1.1);simp only[xaa,xab,xac] at hz;omega
 subst hrest;refine rq ?_;rotate_left;all_goals (unfold zp9;rw[<-hg1.2];simp_all[idxF,zr9])
theorem zeS {l:List Vt}{v:Vt} (h:l.length<=1000000000000):FnD Tryz.prog 265 [.d (zcS l),.agg [.d (.i v.var),.d (.i v.ty.data),.d (.i v.ty.index)]] [] (.d (.bool (decide (v∈l)))) []:=by
 refine bd Tryz.f265 9 [] [] fun _ _ _ _ hk=>?_;refine bx 3003 ?_;refine ev (wc zva (zji h) I I ?_);refine ev (rq ?_);rotate_left;all_goals (refine xam D.bool ?_;rw[show zp9 l v=idxF (fun x=>decide (v=x)) l 0 from rfl,zfs];simp[List.any_eq,eq_comm])
theorem zhr {xs:List Vt}{f:Nat}{caps:List AV}{hp:Hp}{p:Vt->Bool} (hs:xs.length<=1000000000000) (hcal:Callee Tryz.prog f)
  (hf:∀t∈xs,FnD Tryz.prog f ([.agg [.d (.i t.var),.d (.i t.ty.data),.d (.i t.ty.index)]]++caps) hp (.d (.bool (p t))) []) (k1:subH hp hp) (k2:zeA hp=true) (k3:zbi hp [] (.d .nilp) []=true):
  FnD Tryz.prog 282 [.d (zcS xs),.fn f caps] hp (.d (.i (idxF p xs 0))) []:=by
 refine bd Tryz.f282 19 [] [] fun _ _ _ _ hk=>?_;refine xaA (ι:=List (Vt)×List (Vt)) hk (fun x=>[(8,.d (.i (x.1.length:Int)))]) [4,5,9,10,11,12,13,14,15,16,17,18] (fun x=>[]) (fun x=>x.1++x.2=xs/\idxF p x.2 x.1.length=idxF p xs 0) (fun x=>x.2.length) ([],xs) ⟨by simp,I⟩ ⟨⟨_,I,xaK ?_⟩,O⟩ O (fun x=>zhQ hp) (fun x hg1=>?_);focus (first|rfl|omega)
 obtain⟨pre,rest⟩:=x;dsimp only at hg1 ⊢;refine evc [] [] ?_;apply sq<;>intro h1 h1p h1s<;>(try simp only[Q] at h1p);rcases rest with _|⟨y,rest⟩
 ·exfalso;simp_all
 refine ixq sl36 I I I (zaE hg1.1) I (ev (xbr (cr:=[]) hcal (hf y (by rw[<-hg1.1];simp)) I .none I I I (LeL.refl _) k1 k2 (zfw k3 _) I ?_));apply tv;apply sq<;>intro h2 h2p h2s<;>(try simp only[Q] at h2p);focus (refine rn [] (r1 I) (.eqd ?_) ⟨I,I⟩ (fun _ _ h=>h) (fun _ h=>h);all_goals (rw[<-hg1.2];simp[idxF,h1s,h1p,h2s,h2p]))
 refine ar (xaj ((pre++[y],rest)) ⟨⟨(by have hz:=hg1.1;rw[<-hz];simp),(by rw[<-hg1.2];simp[idxF,h2s])⟩,oe,Sub.x oi oi ⟨⟨_,I,xaK ?_⟩,O⟩ oe (by simp[zdK]) O⟩);focus (first|rfl|(simp;done)|omega)
 have hrest:rest=[]:=by
  rcases rest with _|⟨a,b⟩
  ·rfl
  ·exfalso;have hz:=xam List.length (hg1.1);simp only[xaa,xab,xac] at hz;omega
 subst hrest;focus (refine rn [] (r1 I) (.eqd ?_) ⟨I,I⟩ (fun _ _ h=>h) (fun _ h=>h);all_goals (rw[<-hg1.2];simp[idxF,h1s,h1p]))
theorem zgf {xs:List Vt}{f:Nat}{caps:List AV}{hp:Hp}{p:Vt->Bool} (hs:xs.length<=1000000000000) (hcal:Callee Tryz.prog f)
  (hf:∀t∈xs,FnD Tryz.prog f ([.agg [.d (.i t.var),.d (.i t.ty.data),.d (.i t.ty.index)]]++caps) hp (.d (.bool (p t))) []) (k1:subH hp hp) (k2:zeA hp=true) (k3:zbi hp [] (.d .nilp) []=true):
  FnD Tryz.prog 303 [.d (zcS xs),.fn f caps] hp (.d (.bool (xs.any p))) []:=by
 refine bd Tryz.f303 9 [] [] fun _ _ _ _ hk=>?_;refine Walk.call (cr:=[]) zu7 (zhr hs hcal hf k1 k2 k3) I .none I I (LeL.refl _) k1 k2 (zfw k3 _) I (ev (rn [] (r1 I) (.eqd ?_) ⟨I,I⟩ (fun _ _ h=>h) (fun _ h=>h)));rotate_left;all_goals (exact xam D.bool (zfs p xs 0))
theorem ziZ {b:List Vt}{v:Vt} (h:b.length<=1000000000000):FnD Tryz.prog 304 [.agg [.d (.i v.var),.d (.i v.ty.data),.d (.i v.ty.index)],.ref 3003 0] [(3003,some (.box [.d (zcS b)]))] (.d (.bool (!decide (v∈b)))) []:=by
 refine bd Tryz.f304 8 [] [] fun _ _ _ _ hk=>?_;refine bx 3001 ?_;refine ev (wc zqU (zeS h) I I ?_);refine ev (rn [] (r1 I) (.eqd ?_) ⟨I,I⟩ (SubH.get ⟨I,O⟩) (fun _ h=>h));rotate_left;all_goals (rfl)
theorem zgD {x y:List Vt} (hx:x.length<=1000000000000) (hy:y.length<=1000000000000):FnD Tryz.prog 277 [.d (zcS x),.d (zcS y)] [] (.d (.bool (zea x y))) []:=by
 refine bd Tryz.f277 16 [] [] fun _ _ _ _ hk=>?_;refine bx 3003 ?_;refine ev ?_;apply sq<;>intro h1 h1p h1s;refine xbu (xs:=[_]) I (.some I I h1) I I (Walk.call (cr:=[]) zvb (zgf (p:=fun v=> !decide (v∈y)) hx zvc (fun t _=>ziZ hy) ⟨I,O⟩ I I) I (.some I I h1) I I (LeL.refl _) ⟨I,O⟩ I I I (evs [] [(10,true)] ?_ ⟨⟨_,I,h1⟩,O⟩));refine rq ?_;rotate_left;refine rq ?_;rotate_left;all_goals (refine xam D.bool ?_;unfold zea;first|(simp_all;done)|(simp_all;intro hz;omega))
def metA (s:List Int):List AV:=(List.range 6).map fun(i:Nat)=> .d (.bool (decide ((i:Int)∈s)))
theorem zoe {s:List Int}{v:Int} (h0:0<=v) (h1:v<=5):(metA s)[v.toNat]?=some (.d (.bool (decide (v∈s)))):=by
 unfold metA;rw[List.getElem?_map,List.getElem?_range od];simp only[Option.map_some];rw[Int.toNat_of_nonneg h0]
theorem zof {s:List Int}{v:Int} (h0:0<=v) (h1:v<=5):putC (metA s) v.toNat [.d (.bool true)]=some (metA (s++[v])):=by
 have e:v=0\/v=1\/v=2\/v=3\/v=4\/v=5:=by omega
 rcases e with rfl|rfl|rfl|rfl|rfl|rfl<;>simp[metA,putC,List.range_succ]
theorem zrv (t:Ty) (p:Pat):(zaQ t p).length<=1:=by unfold zaQ;split<;>simp
theorem zmO:∀ {a b:List Int},a.Nodup->(∀x∈a,x∈b)->a.length<=b.length
 | [],b,_,_=>by simp
 |x::r,b,hn,hs=>by
  have hn':=List.nodup_cons.1 hn;have hx:=hs x oe;have h:=zmO (a:=r) (b:=b.erase x) hn'.2 (fun y hy=>by
   have hne:y≠x:=fun e=>hn'.1 (e ▸ hy);exact(List.mem_erase_of_ne hne).2 (hs y (by simp[hy])))
  rw[List.length_erase_of_mem hx] at h;have:=List.length_pos_of_mem hx;simp only[xab];omega
def InR (l:List Vt):Prop:=∀v∈l,0<=v.var/\v.var<=5
theorem zry {l:List Vt} (h:InR l) (hn:zcE l=true):l.length<=6:=by
 unfold zcE at hn;have h1:=xas hn;have h2:∀x∈l.map Vt.var,x∈[(0:Int),1,2,3,4,5]:=fun x hx=>by
  obtain⟨v,hv,rfl⟩:=List.mem_map.1 hx;have:=h v hv;simp only[List.mem_cons,xau,or_false];omega
 have:=zmO h1 h2;simpa using this
theorem zkq {g:Ty->Pat->Int->Option (List Vt)×Int}{or:Bool} (hg:∀t p c l,(g t p c).1=some l->InR l):∀(a:List Ty) (b:List Pat) (i:Nat) (acc:List Vt) (c:Int) (l:List Vt),InR acc->(zbj g or a b i acc c).1=some l->InR l
 | [],b,i,acc,c,l,ha,h=>by simp only[zbj,xae] at h;subst h;exact ha
 |_::_,[],i,acc,c,l,ha,h=>by simp only[zbj,xae] at h;subst h;exact ha
 |x::r,y::s,i,acc,c,l,ha,h=>by
  simp only[zbj] at h;cases hh:(g x y c).1 with
  |none=>rw[hh] at h;cases h
  |some m=>
   rw[hh] at h;simp only at h;split at h
   ·split at h
    ·exact zkq hg r s (i+1) acc _ l ha h
    ·cases h
   ·refine zkq hg r s (i+1) _ _ l (fun v hv=>?_) h;rcases List.mem_append.1 hv with hv|hv
    ·exact ha v hv
    ·exact hg x y c m hh v hv
theorem zoA (w:List Data):∀(n:Nat) (t:Ty) (p:Pat) (c:Int) (l:List Vt),(zaI w n t p c).1=some l->InR l/\zcE l=true
 |0,t,p,c,l,h=>by simp[zaI] at h
 |n+1,t,p,c,l,h=>by
  unfold zaI at h;split at h
  ·cases h
  ·split at h
   ·rename_i h60 ho;have ho':ownP w t p=true:=by unfold okP at ho;simp only[xad] at ho;exact ho.1
    cases hk:(zbj (zaI w n) (decide (p.op=5)) (zab w t p) p.kids 0 (zaQ t p) (c+1)).1 with
    |none=>unfold finV at h;rw[hk] at h;simp only at h;rw[hk] at h;cases h
    |some m=>
     have hi:InR m:=zkq (fun t p c l h=>(zoA w n t p c l h).1) _ _ _ _ _ m (fun v hv=>by
      unfold zaQ at hv;split at hv
      ·rename_i hop;simp only[List.mem_cons,xau,or_false] at hv;subst hv;exact zkl ho' hop
      ·simp at hv) hk
     unfold finV at h;rw[hk] at h;simp only at h;split at h
     ·rename_i hn;rw[hk] at h;cases h
      exact⟨hi,hn⟩
     ·cases h
   ·cases h
theorem zsJ (w:List Data) (n:Nat) (t:Ty) (p:Pat) (c:Int) (h:(zaI w n t p c).1.isSome=true):c+1<=(zaI w n t p c).2/\(zaI w n t p c).2<=60:=by
 have h1:=zfx w n t p c;by_cases hw:zbO w n t p c=true
 ·have h2:=h1.2 hw;simp only[zbO,xad,xah] at hw;have:=xaV p;omega
 ·rw[if_neg hw] at h1;rw[h1.1] at h;cases h
def zdn (o:Option (List Vt)):List Vt:=o.getD []
theorem zqo {g:Ty->Pat->Int->Option (List Vt)×Int}{or:Bool}{a:List Ty}{b:List Pat}{i:Nat}{acc:List Vt}{c:Int} (ha:i<a.length) (hl:b.length=a.length) (h:(g (nth a i) (nth b i) c).1.isSome=false):
  zbj g or (a.drop i) (b.drop i) i acc c=(none,(g (nth a i) (nth b i) c).2):=by
 rw[zbk ha,zbk (l:=b) od,zbj];cases hh:(g (nth a i) (nth b i) c).1 with
 |none=>rfl
 |some l=>rw[hh] at h;cases h
theorem zrR {g:Ty->Pat->Int->Option (List Vt)×Int}{or:Bool}{a:List Ty}{b:List Pat}{i:Nat}{acc:List Vt}{c:Int} (ha:i<a.length) (hl:b.length=a.length) (h:(g (nth a i) (nth b i) c).1.isSome=true) (ho:or=true/\i=1) (hs:zea acc (zdn (g (nth a i) (nth b i) c).1)=false):
  zbj g or (a.drop i) (b.drop i) i acc c=(none,(g (nth a i) (nth b i) c).2):=by
 rw[zbk ha,zbk (l:=b) od,zbj];cases hh:(g (nth a i) (nth b i) c).1 with
 |none=>rfl
 |some l=>rw[hh] at hs;simp only[zdn,Option.getD_some] at hs;simp only[if_pos ho,hs,Bool.false_eq_true,if_false]
theorem zqn {g:Ty->Pat->Int->Option (List Vt)×Int}{or:Bool}{a:List Ty}{b:List Pat}{i:Nat}{acc:List Vt}{c:Int} (ha:i<a.length) (hl:b.length=a.length) (h:(g (nth a i) (nth b i) c).1.isSome=true) (hs:(or=true/\i=1)->zea acc (zdn (g (nth a i) (nth b i) c).1)=true):
  zbj g or (a.drop i) (b.drop i) i acc c=zbj g or (a.drop (i+1)) (b.drop (i+1)) (i+1) (if or=true/\i=1 then acc else acc++zdn (g (nth a i) (nth b i) c).1) (g (nth a i) (nth b i) c).2:=by
 rw[zbk ha,zbk (l:=b) od,zbj];cases hh:(g (nth a i) (nth b i) c).1 with
 |none=>rw[hh] at h;cases h
 |some l=>
  by_cases ho:or=true/\i=1
  ·have:=hs ho;rw[hh] at this;simp only[zdn,Option.getD_some] at this;simp only[if_pos ho,this,if_true]
  ·simp only[if_neg ho,zdn,Option.getD_some]
theorem zrS {g:Ty->Pat->Int->Option (List Vt)×Int}{or:Bool}{a:List Ty}{b:List Pat}{i:Nat}{acc:List Vt}{c:Int} (ha:a.length<=i):zbj g or (a.drop i) (b.drop i) i acc c=(some acc,c):=by
 rw[List.drop_eq_nil_of_le ha,zbj];intro a r b s h;cases h
theorem zfy (w:List Data) (n:Nat) (t:Ty) (p:Pat) (c:Int):InR (zdn (zaI w n t p c).1)/\(zdn (zaI w n t p c).1).length<=6:=by
 cases h:(zaI w n t p c).1 with
 |none=>exact⟨fun v hv=>by simp[zdn] at hv,by simp[zdn]⟩
 |some l=>
  have:=zoA w n t p c l h;exact⟨this.1,zry this.1 this.2⟩
structure GoodS (w:List Data) (n:Nat) (t:Ty) (p:Pat) (c:Int) (x:Nat×List Vt×Int):Prop where
 le:x.1<=p.kids.length
 eq:zbj (zaI w n) (decide (p.op=5)) ((zab w t p).drop x.1) (p.kids.drop x.1) x.1 x.2.1 x.2.2=zbj (zaI w n) (decide (p.op=5)) (zab w t p) p.kids 0 (zaQ t p) (c+1)
 lc:(x.1:Int)<=x.2.2
 c0:0<=x.2.2
 c1:x.2.2<=60
 len:x.2.1.length<=1+6*x.1
 inr:InR x.2.1
def zcq (w:List Data) (n:Nat) (t:Ty) (p:Pat) (x:Nat×List Vt×Int):Nat×List Vt×Int:=
 (x.1+1,if decide (p.op=5)=true/\x.1=1 then x.2.1 else x.2.1++zdn (zaI w n (nth (zab w t p) x.1) (nth p.kids x.1) x.2.2).1,(zaI w n (nth (zab w t p) x.1) (nth p.kids x.1) x.2.2).2)
theorem GoodS.next {w:List Data}{n:Nat}{t:Ty}{p:Pat}{c:Int}{x:Nat×List Vt×Int} (hl:p.kids.length=(zab w t p).length) (hg:GoodS w n t p c x) (hlt:x.1<p.kids.length)
  (hz:(zaI w n (nth (zab w t p) x.1) (nth p.kids x.1) x.2.2).1.isSome=true) (hs:(decide (p.op=5)=true/\x.1=1)->zea x.2.1 (zdn (zaI w n (nth (zab w t p) x.1) (nth p.kids x.1) x.2.2).1)=true):
  GoodS w n t p c (zcq w n t p x):=by
 obtain⟨h1,h2,h3,h4,h5,h6,h7⟩:=hg;have hb:=zsJ w n _ _ _ hz;have ho:=zfy w n (nth (zab w t p) x.1) (nth p.kids x.1) x.2.2;refine⟨by unfold zcq;dsimp only;omega, ?_,by unfold zcq;dsimp only;omega,by unfold zcq;dsimp only;omega,by unfold zcq;dsimp only;omega, ?_, ?_⟩
 ·rw[<-h2,zqn od hl hz hs];rfl
 ·unfold zcq;dsimp only;split
  ·omega
  ·rw[xaa];omega
 ·unfold zcq;dsimp only;split
  ·exact h7
  ·intro v hv;rcases List.mem_append.1 hv with hv|hv
   ·exact h7 v hv
   ·exact ho.1 v hv
theorem GoodS.none {w:List Data}{n:Nat}{t:Ty}{p:Pat}{c:Int}{x:Nat×List Vt×Int} (hl:p.kids.length=(zab w t p).length) (hg:GoodS w n t p c x) (hlt:x.1<p.kids.length)
  (hz:(zaI w n (nth (zab w t p) x.1) (nth p.kids x.1) x.2.2).1.isSome=false):
  finV (zbj (zaI w n) (decide (p.op=5)) (zab w t p) p.kids 0 (zaQ t p) (c+1))=(none,(zaI w n (nth (zab w t p) x.1) (nth p.kids x.1) x.2.2).2):=by
 rw[<-hg.eq,zqo od hl hz];rfl
theorem GoodS.bad {w:List Data}{n:Nat}{t:Ty}{p:Pat}{c:Int}{x:Nat×List Vt×Int} (hl:p.kids.length=(zab w t p).length) (hg:GoodS w n t p c x) (hlt:x.1<p.kids.length)
  (hz:(zaI w n (nth (zab w t p) x.1) (nth p.kids x.1) x.2.2).1.isSome=true) (ho:p.op=5/\x.1=1) (hs:zea x.2.1 (zdn (zaI w n (nth (zab w t p) x.1) (nth p.kids x.1) x.2.2).1)=false):
  finV (zbj (zaI w n) (decide (p.op=5)) (zab w t p) p.kids 0 (zaQ t p) (c+1))=(Option.none,(zaI w n (nth (zab w t p) x.1) (nth p.kids x.1) x.2.2).2):=by
 rw[<-hg.eq,zrR od hl hz (by simpa using ho) hs];rfl
theorem GoodS.fin {w:List Data}{n:Nat}{t:Ty}{p:Pat}{c:Int}{x:Nat×List Vt×Int} (hl:p.kids.length=(zab w t p).length) (hg:GoodS w n t p c x) (hge:p.kids.length<=x.1):
  finV (zbj (zaI w n) (decide (p.op=5)) (zab w t p) p.kids 0 (zaQ t p) (c+1))=(if zcE x.2.1=true then some x.2.1 else Option.none,x.2.2):=by
 rw[<-hg.eq,zrS od];unfold finV;simp only;split<;>rfl
theorem zrx {pre rest l:List Vt}{y:Vt} (h:pre++y::rest=l) (hm:y.var∈pre.map Vt.var):zcE l=false:=by
 unfold zcE;refine xaw (fun hn=>?_);rw[<-h,xag,xaf,List.nodup_append] at hn;exact hn.2.2 _ hm _ oe I
theorem zlc {pre:List Vt}{y:Vt} (h:(pre.map Vt.var).Nodup) (hm:y.var∉pre.map Vt.var):((pre++[y]).map Vt.var).Nodup:=by
 rw[xag,List.nodup_append];exact⟨h,by simp,fun a ha b hb=>by simp at hb;subst hb;exact fun e=>hm (e ▸ ha)⟩
def retV (r:Option (List Vt)×Int):AV:= .tup [.d (zcS (zdn r.1)),.d (.bool r.1.isSome)]
theorem zdR {w:List Data} (hw:WT w):∀(n:Nat){a k d c:Int}{p:Pat},d+n=11->n<=10->TyIn w.length ⟨a,k⟩->p.ok->0<=c->c<=1000000000000->
  FnD Tryz.prog 217 [.d (zah w),.agg [.d (.i a),.d (.i k)],.agg [.d (.i p.op),.d (.i p.ctor),.d (.i p.n),.d (.i p.m),.d (.i p.var),.d (zau p.kids)],.d (.i d),.ref 950 0] [(950,some (.box [.d (.i c)]))]
   (retV (zaI w n ⟨a,k⟩ p c)) [(950,some (.box [.d (.i (zaI w n ⟨a,k⟩ p c).2)]))]
 |0,a,k,d,c,p,hd,_,_,_,c0,c1=>by
  refine bd Tryz.f217 114 [] [2] fun _ _ _ _ hk=>?_;refine bx 3006 ?_;refine bx 3007 ?_;refine ev (ar (so ty3 ?_));apply tv;refine xaC (xbh 8 [(34,.d (.bool true))] [27,28,29,30,31,32,33] ?_ ?_);refine ev ?_;apply sq<;>intro h1 h1p h1s;exact jnb I;exact jnb I;refine xbg ?_;apply tv;apply sq<;>intro h2 h2p h2s;refine rn [(950,some (.box [.d (.i (zaI w 0 ⟨a,k⟩ p c).2)]))] (r2 I I) (.tup (qne ?_ ?_)) ⟨I,I⟩ (SubO.get ⟨.inr ?_,⟨.inl I,O⟩⟩) (zak I);rotate_left 3;exact absurd h2 oe;all_goals (first|((rfl);done)|(rfl))
 |n+1,a,k,d,c,p,hd,hn,ht,hok,c0,c1=>by
  by_cases h60:60<c+1
  ·have e:zaI w (n+1) ⟨a,k⟩ p c=(none,c+1):=by unfold zaI;rw[if_pos h60]
   rw[e];refine bd Tryz.f217 114 [] [2] fun _ _ _ _ hk=>?_;refine bx 3006 ?_;refine bx 3007 ?_;refine ev (ar (so ty3 ?_));apply tv;refine xaC (xbh 8 [(34,.d (.bool true))] [27,28,29,30,31,32,33] ?_ ?_);refine ev ?_;apply sq<;>intro h1 h1p h1s;exact jnb I;exact jnb I;refine xbg ?_;apply tv;apply sq<;>intro h2 h2p h2s;refine rn [(950,some (.box [.d (.i (c+1))]))] (r2 I I) (.tup (qne ?_ ?_)) ⟨I,I⟩ (SubO.get ⟨.inr ?_,⟨.inl I,O⟩⟩) (zak I);rotate_left 3;exact absurd h2 oe;all_goals (first|((rfl);done)|(rfl))
  have hsh:=zir hw (p:=p) ht;by_cases hop:okP w ⟨a,k⟩ p=true
  ·have hok':=hok;rw[xaU] at hok;have hop':=hop;unfold okP at hop';simp only[xad,xah] at hop';obtain⟨ho,hl⟩:=hop';have hin:=zda hw ht ho;have hlen:=zgj hw ht (zcA ho);have hst:zcF w ⟨a,k⟩ p=zab w ⟨a,k⟩ p:=by unfold zcF;rw[if_neg (fun h=>h.2 (zcA ho h.1))]
   rw[hst,hop] at hsh;have e:zaI w (n+1) ⟨a,k⟩ p c=finV (zbj (zaI w n) (decide (p.op=5)) (zab w ⟨a,k⟩ p) p.kids 0 (zaQ ⟨a,k⟩ p) (c+1)):=by
    conv=>lhs;unfold zaI
    rw[if_neg h60,if_pos hop]
   have hnr:InR (zaQ ⟨a,k⟩ p):=fun v hv=>by
    unfold zaQ at hv;split at hv
    ·rename_i hop;simp only[List.mem_cons,xau,or_false] at hv;subst hv;exact zkl ho hop
    ·simp at hv
   have hnl:=zrv ⟨a,k⟩ p;rw[e];refine bd Tryz.f217 114 [14,108] [2,8,17] fun _ _ _ _ hk=>?_;refine bx 3006 ?_;refine bx 3007 ?_;refine evs [14,108] [] (ar (so ty3 ?_));apply tv;refine xaC (xbh 8 [(34,.d (.bool false))] [27,28,29,30,31,32,33] ?_ ?_);refine evs [14,108] [] ?_;apply sq<;>intro h1 h1p h1s;exact jnb I;exact jnb I;refine xbg ?_;apply tv;apply sq<;>intro h2 h2p h2s;exact absurd h2 oe;refine wc znJ hsh I I ?_;refine evs [14,108] [] ?_;apply sq<;>intro h3 h3p h3s;exact absurd h3 oe;refine xbl 5 3 .none I I ?_;apply tv;refine xaC (xbh 8 [(51,.d (.bool (decide (p.op=2\/p.op=6))))] [44,45,46,47,48,49,50] ?_ ?_);refine evs [14,108] [] ?_;apply sq<;>intro h4 h4p h4s;exact jnb I;exact jnb I;refine xbg ?_;apply tv;apply sq<;>intro h5 h5p h5s;refine bu [0,1] [_,_] zqr ?_;refine si [0] [_] sl36 znr ?_;refine ap sl36 znt I I I oe (by(simp;done)) ?_;refine asg ?_;apply tv;refine xaA (ι:=Nat×List Vt×Int) hk (fun z=>[(62,.d (.i (z.1:Int))),(14,.gl 5 (z.2.1.map Vt.c))]) [10,11,15,16,17,18,63,64,65,66,67,68,69,70,71,72,73,74,75,76,77,78,79,80,81,82,83,84,85,86,87,88,89,90,91,92,93,94,95,96,97,98] (fun z=>[(950,some (.box [.d (.i z.2.2)])),(5,some (.tok ((z.2.1.map Vt.c)).length 3))]) (fun z=>GoodS w n ⟨a,k⟩ p c z) (fun z=>p.kids.length-z.1) (0,zaQ ⟨a,k⟩ p,c+1) ⟨by simp,by simp,by dsimp only;omega,by dsimp only;omega,by dsimp only;omega,by dsimp only;omega,hnr⟩ ⟨⟨_,I,xaK ?_⟩,⟨⟨_,I,LeA.glg ?_⟩,O⟩⟩ ⟨?_,⟨zag ?_,O⟩⟩ (fun x=>rfl) (fun z hg1=>?_);iterate 2 focus (first|rfl|(simp_all[zaQ];done))
   focus (first|rfl|(simp[getH];done))
   focus (first|rfl|(simp_all[zaQ];done))
   obtain⟨s1,_,s3,s4,s5,s6,s7⟩:=id hg1;refine evc [14,108] [2,8,17] ?_;apply sq<;>intro h6 h6p h6s<;>(try simp only[Q,xaS] at h6p);refine ixq sl58 I I I (zb2 od) I ?_;refine evs [14,108] [] (ab 3016 tz60 ?_);refine evs [14,108] [] (so ty60 ?_);apply tv;refine ixq zaL I I I (zan od) I ?_;refine evd [14,108] [] (ar (wd znF (zdR hw n (a:=(nth (zab w ⟨a,k⟩ p) z.1).data) (k:=(nth (zab w ⟨a,k⟩ p) z.1).index) (c:=z.2.2) (p:=nth p.kids z.1) od od (hin _ (zam od)) (xaX hok.2 _ (zam od)) od od) I I ⟨I,O⟩ ?_));refine evd [14,108] [] (dr ?_);apply sq<;>intro h7 h7p h7s;refine rn [(950,some (.box [.d (.i (finV (zbj (zaI w n) (decide (p.op=5)) (zab w ⟨a,k⟩ p) p.kids 0 (zaQ ⟨a,k⟩ p) (c+1))).2)]))] (r2 I I) (.tup (qne ?_ ?_)) ⟨I,I⟩ (SubO.get ⟨.inr ?_,⟨.inl I,O⟩⟩) (zak I);rotate_left 3;refine xaC (xbh 7 [(93,.d (.bool (decide (p.op=5/\z.1=1))))] [87,88,89,90,91,92] ?_ ?_);refine evs [14,108] [] ?_;apply sq<;>intro h8 h8p h8s;exact jnb I;exact jnb I;refine xbg (evs [14,108] [] ?_);apply sq<;>intro h9 h9p h9s<;>(try simp only[Q,xaS] at h9p);refine Walk.call (cr:=[]) zqV (zgD od (by have hz:=(zfy w n ⟨(nth (zab w ⟨a,k⟩ p) z.1).data,(nth (zab w ⟨a,k⟩ p) z.1).index⟩ (nth p.kids z.1) z.2.2).2;omega)) I .none I I (.cons (.gl _ _) (.cons (.refl _) .nil)) O I I I ?_;refine evs [14,108] [] ?_;apply sq<;>intro h10 h10p h10s<;>(try simp only[Q,xaS] at h10p);refine rn [(950,some (.box [.d (.i (finV (zbj (zaI w n) (decide (p.op=5)) (zab w ⟨a,k⟩ p) p.kids 0 (zaQ ⟨a,k⟩ p) (c+1))).2)]))] (r2 I I) (.tup (qne ?_ ?_)) ⟨I,I⟩ (SubO.get ⟨.inr ?_,⟨.inl I,O⟩⟩) (zak I);rotate_left 3;refine ar (xaj ((zcq w n ⟨a,k⟩ p z)) ⟨(hg1.next hl od o0 (fun ho=>by simp_all)),(by unfold zcq;dsimp only;omega),sx ⟨⟨_,I,xaK ?_⟩,⟨⟨_,I,LeA.glg ?_⟩,O⟩⟩ ⟨?_,⟨zag ?_,O⟩⟩⟩);iterate 2 focus (first|rfl|(simp_all[zaQ];done))
   focus (first|rfl|(simp[getH];done))
   focus (first|rfl|(simp_all[zaQ];done))
   refine ap sl36 znt I I I oe (by first|(simp;done)|(have hz:=(zfy w n ⟨(nth (zab w ⟨a,k⟩ p) z.1).data,(nth (zab w ⟨a,k⟩ p) z.1).index⟩ (nth p.kids z.1) z.2.2).2;simp;omega)) ?_;refine asg ?_;apply tv;refine ar (xaj ((zcq w n ⟨a,k⟩ p z)) ⟨(hg1.next hl od o0 (fun ho=>by simp_all)),(by unfold zcq;dsimp only;omega),sx ⟨⟨_,I,xaK ?_⟩,⟨⟨_,I,LeA.glg ?_⟩,O⟩⟩ ⟨?_,⟨zag ?_,O⟩⟩⟩);iterate 2 focus (first|rfl|(simp_all[zaQ];done)|(unfold zcq;dsimp only;rw[if_neg o0];simp;done))
   focus (first|rfl|(simp[getH];done))
   focus (first|rfl|(simp_all[zaQ];done)|(unfold zcq;dsimp only;rw[if_neg o0];simp;done))
   refine ab 3019 ztr ?_;apply tv;refine xaA (ι:=List (Vt)×List (Vt)) hk (fun x=>[(101,.d (.i (x.1.length:Int)))]) [10,11,21,102,103,104,105,106,107,108,109,110,111,112] (fun x=>[(3019,some (.box (metA (x.1.map Vt.var))))]) (fun x=>x.1++x.2=z.2.1/\(x.1.map Vt.var).Nodup) (fun x=>x.2.length) ([],z.2.1) ⟨by simp,by simp⟩ ⟨⟨_,I,xaK ?_⟩,O⟩ ⟨?_,O⟩ (fun x=>rfl) (fun x hg2=>?_);focus (first|rfl|omega)
   focus (first|rfl|(simp[getH];done))
   obtain⟨pre,rest⟩:=x;dsimp only at hg2 ⊢;refine evc [14,108] [2,8,17] ?_;apply sq<;>intro h11 h11p h11s<;>(try simp only[Q,xaS] at h11p);rcases rest with _|⟨y,rest⟩
   ·exfalso;simp_all
   have hy:=s7 y (by rw[<-hg2.1];simp);refine xbD sl36 .none I I I I (zaE hg2.1) I (evs [14,108] [] (ab 3021 znr ?_));refine so ztq ?_;apply tv;refine xbC (i:=y.var.toNat) zng .none I I I (Int.toNat_of_nonneg hy.1).symm od ?_;refine xbG ty4 .none I I I ((by simpa using zoe hy.1 hy.2)) ?_;apply tv;apply sq<;>intro h12 h12p h12s<;>(try simp only[Q,xaS] at h12p);refine rn [(950,some (.box [.d (.i (finV (zbj (zaI w n) (decide (p.op=5)) (zab w ⟨a,k⟩ p) p.kids 0 (zaQ ⟨a,k⟩ p) (c+1))).2)]))] (r2 I I) (.tup (qne ?_ ?_)) ⟨I,I⟩ (SubO.get ⟨.inr ?_,⟨.inl I,O⟩⟩) (zak I);rotate_left 3;refine xbC (i:=y.var.toNat) zng .none I I I (Int.toNat_of_nonneg hy.1).symm od ?_;refine Walk.store ty4 .none I I I I I I oe ((by simpa using zof hy.1 hy.2)) ?_;apply tv;refine ar (xaj ((pre++[y],rest)) ⟨⟨(by have hz:=hg2.1;rw[<-hz];simp),(zlc hg2.2 o0)⟩,oe,sx ⟨⟨_,I,xaK ?_⟩,O⟩ ⟨?_,O⟩⟩);focus (first|rfl|(simp;done)|omega)
   focus (first|rfl|(simp[getH];done))
   have hrest:rest=[]:=by
    rcases rest with _|⟨a,b⟩
    ·rfl
    ·exfalso;have hz:=xam List.length (hg2.1);simp only[xaa,xab,xac] at hz;omega
   subst hrest;refine rn [(950,some (.box [.d (.i (finV (zbj (zaI w n) (decide (p.op=5)) (zab w ⟨a,k⟩ p) p.kids 0 (zaQ ⟨a,k⟩ p) (c+1))).2)]))] (r2 I I) (.tup (qge ?_ ?_)) ⟨I,I⟩ (SubO.get ⟨.inr ?_,⟨.inl I,O⟩⟩) (zak I);rotate_left 3;try simp only[Q,xaS] at h5p
   refine xaA (ι:=Nat×List Vt×Int) hk (fun z=>[(62,.d (.i (z.1:Int))),(14,.gl 5 (z.2.1.map Vt.c))]) [10,11,15,16,17,18,63,64,65,66,67,68,69,70,71,72,73,74,75,76,77,78,79,80,81,82,83,84,85,86,87,88,89,90,91,92,93,94,95,96,97,98] (fun z=>[(950,some (.box [.d (.i z.2.2)])),(5,some (.tok ((z.2.1.map Vt.c)).length 3))]) (fun z=>GoodS w n ⟨a,k⟩ p c z) (fun z=>p.kids.length-z.1) (0,zaQ ⟨a,k⟩ p,c+1) ⟨by simp,by simp,by dsimp only;omega,by dsimp only;omega,by dsimp only;omega,by dsimp only;omega,hnr⟩ ⟨⟨_,I,xaK ?_⟩,⟨⟨_,I,LeA.glg ?_⟩,O⟩⟩ ⟨?_,⟨zag ?_,O⟩⟩ (fun x=>rfl) (fun z hg1=>?_);iterate 2 focus (first|rfl|(simp_all[zaQ];done))
   focus (first|rfl|(simp[getH];done))
   focus (first|rfl|(simp_all[zaQ];done))
   obtain⟨s1,_,s3,s4,s5,s6,s7⟩:=id hg1;refine evc [14,108] [2,8,17] ?_;apply sq<;>intro h13 h13p h13s<;>(try simp only[Q,xaS] at h13p);refine ixq sl58 I I I (zb2 od) I ?_;refine evs [14,108] [] (ab 3016 tz60 ?_);refine evs [14,108] [] (so ty60 ?_);apply tv;refine ixq zaL I I I (zan od) I ?_;refine evd [14,108] [] (ar (wd znF (zdR hw n (a:=(nth (zab w ⟨a,k⟩ p) z.1).data) (k:=(nth (zab w ⟨a,k⟩ p) z.1).index) (c:=z.2.2) (p:=nth p.kids z.1) od od (hin _ (zam od)) (xaX hok.2 _ (zam od)) od od) I I ⟨I,O⟩ ?_));refine evd [14,108] [] (dr ?_);apply sq<;>intro h14 h14p h14s<;>(try simp only[Q,xaS] at h14p);refine rn [(950,some (.box [.d (.i (finV (zbj (zaI w n) (decide (p.op=5)) (zab w ⟨a,k⟩ p) p.kids 0 (zaQ ⟨a,k⟩ p) (c+1))).2)]))] (r2 I I) (.tup (qne ?_ ?_)) ⟨I,I⟩ (SubO.get ⟨.inr ?_,⟨.inl I,O⟩⟩) (zak I);rotate_left 3;refine xaC (xbh 7 [(93,.d (.bool (decide (p.op=5/\z.1=1))))] [87,88,89,90,91,92] ?_ ?_);refine evs [14,108] [] ?_;apply sq<;>intro h15 h15p h15s<;>(try simp only[Q,xaS] at h15p);exact jnb I;exact jnb I;refine xbg (evs [14,108] [] ?_);apply sq<;>intro h16 h16p h16s<;>(try simp only[Q,xaS] at h16p);refine Walk.call (cr:=[]) zqV (zgD od (by have hz:=(zfy w n ⟨(nth (zab w ⟨a,k⟩ p) z.1).data,(nth (zab w ⟨a,k⟩ p) z.1).index⟩ (nth p.kids z.1) z.2.2).2;omega)) I .none I I (.cons (.gl _ _) (.cons (.refl _) .nil)) O I I I ?_;refine evs [14,108] [] ?_;apply sq<;>intro h17 h17p h17s<;>(try simp only[Q,xaS] at h17p);refine rn [(950,some (.box [.d (.i (finV (zbj (zaI w n) (decide (p.op=5)) (zab w ⟨a,k⟩ p) p.kids 0 (zaQ ⟨a,k⟩ p) (c+1))).2)]))] (r2 I I) (.tup (qne ?_ ?_)) ⟨I,I⟩ (SubO.get ⟨.inr ?_,⟨.inl I,O⟩⟩) (zak I);rotate_left 3;refine ar (xaj ((zcq w n ⟨a,k⟩ p z)) ⟨(hg1.next hl od o0 (fun ho=>by simp_all)),(by unfold zcq;dsimp only;omega),sx ⟨⟨_,I,xaK ?_⟩,⟨⟨_,I,LeA.glg ?_⟩,O⟩⟩ ⟨?_,⟨zag ?_,O⟩⟩⟩);iterate 2 focus (first|rfl|(simp_all[zaQ];done)|(unfold zcq;dsimp only;rw[if_pos o0];done))
   focus (first|rfl|(simp[getH];done))
   focus (first|rfl|(simp_all[zaQ];done)|(unfold zcq;dsimp only;rw[if_pos o0];done))
   refine ap sl36 znt I I I oe (by first|(simp;done)|(have hz:=(zfy w n ⟨(nth (zab w ⟨a,k⟩ p) z.1).data,(nth (zab w ⟨a,k⟩ p) z.1).index⟩ (nth p.kids z.1) z.2.2).2;simp;omega)) ?_;refine asg ?_;apply tv;refine ar (xaj ((zcq w n ⟨a,k⟩ p z)) ⟨(hg1.next hl od o0 (fun ho=>by simp_all)),(by unfold zcq;dsimp only;omega),sx ⟨⟨_,I,xaK ?_⟩,⟨⟨_,I,LeA.glg ?_⟩,O⟩⟩ ⟨?_,⟨zag ?_,O⟩⟩⟩);iterate 2 focus (first|rfl|(simp_all[zaQ];done)|(unfold zcq;dsimp only;rw[if_neg o0];simp;done))
   focus (first|rfl|(simp[getH];done))
   focus (first|rfl|(simp_all[zaQ];done)|(unfold zcq;dsimp only;rw[if_neg o0];simp;done))
   refine ab 3019 ztr ?_;apply tv;refine xaA (ι:=List (Vt)×List (Vt)) hk (fun x=>[(101,.d (.i (x.1.length:Int)))]) [10,11,21,102,103,104,105,106,107,108,109,110,111,112] (fun x=>[(3019,some (.box (metA (x.1.map Vt.var))))]) (fun x=>x.1++x.2=z.2.1/\(x.1.map Vt.var).Nodup) (fun x=>x.2.length) ([],z.2.1) ⟨by simp,by simp⟩ ⟨⟨_,I,xaK ?_⟩,O⟩ ⟨?_,O⟩ (fun x=>rfl) (fun x hg2=>?_);focus (first|rfl|omega)
   focus (first|rfl|(simp[getH];done))
   obtain⟨pre,rest⟩:=x;dsimp only at hg2 ⊢;refine evc [14,108] [2,8,17] ?_;apply sq<;>intro h18 h18p h18s<;>(try simp only[Q,xaS] at h18p);rcases rest with _|⟨y,rest⟩
   ·exfalso;simp_all
   have hy:=s7 y (by rw[<-hg2.1];simp);refine xbD sl36 .none I I I I (zaE hg2.1) I (evs [14,108] [] (ab 3021 znr ?_));refine so ztq ?_;apply tv;refine xbC (i:=y.var.toNat) zng .none I I I (Int.toNat_of_nonneg hy.1).symm od ?_;refine xbG ty4 .none I I I ((by simpa using zoe hy.1 hy.2)) ?_;apply tv;apply sq<;>intro h19 h19p h19s<;>(try simp only[Q,xaS] at h19p);refine rn [(950,some (.box [.d (.i (finV (zbj (zaI w n) (decide (p.op=5)) (zab w ⟨a,k⟩ p) p.kids 0 (zaQ ⟨a,k⟩ p) (c+1))).2)]))] (r2 I I) (.tup (qne ?_ ?_)) ⟨I,I⟩ (SubO.get ⟨.inr ?_,⟨.inl I,O⟩⟩) (zak I);rotate_left 3;refine xbC (i:=y.var.toNat) zng .none I I I (Int.toNat_of_nonneg hy.1).symm od ?_;refine Walk.store ty4 .none I I I I I I oe ((by simpa using zof hy.1 hy.2)) ?_;apply tv;refine ar (xaj ((pre++[y],rest)) ⟨⟨(by have hz:=hg2.1;rw[<-hz];simp),(zlc hg2.2 o0)⟩,oe,sx ⟨⟨_,I,xaK ?_⟩,O⟩ ⟨?_,O⟩⟩);focus (first|rfl|(simp;done)|omega)
   focus (first|rfl|(simp[getH];done))
   have hrest:rest=[]:=by
    rcases rest with _|⟨a,b⟩
    ·rfl
    ·exfalso;have hz:=xam List.length (hg2.1);simp only[xaa,xab,xac] at hz;omega
   subst hrest;refine rn [(950,some (.box [.d (.i (finV (zbj (zaI w n) (decide (p.op=5)) (zab w ⟨a,k⟩ p) p.kids 0 (zaQ ⟨a,k⟩ p) (c+1))).2)]))] (r2 I I) (.tup (qge ?_ ?_)) ⟨I,I⟩ (SubO.get ⟨.inr ?_,⟨.inl I,O⟩⟩) (zak I);rotate_left 3;all_goals (((first|(rw[hg1.none hl od ol];first|done|rfl)|(rw[hg1.bad hl od ol ol ol];first|done|rfl)|(rw[hg1.fin hl od,if_neg (by rw[zrx hg2.1 ol];simp)];first|done|rfl)|(rw[hg1.fin hl od,if_pos (by have hz:=hg2.1;rw[xaq] at hz;rw[<-hz];exact xax hg2.2)];first|done|rfl));done))
  ·have hopf:okP w ⟨a,k⟩ p=false:=by simpa using hop
   have e:zaI w (n+1) ⟨a,k⟩ p c=(none,c+1):=by unfold zaI;rw[if_neg h60,if_neg hop]
   rw[e];rw[hopf] at hsh;refine bd Tryz.f217 114 [] [2] fun _ _ _ _ hk=>?_;refine bx 3006 ?_;refine bx 3007 ?_;refine ev (ar (so ty3 ?_));apply tv;refine xaC (xbh 8 [(34,.d (.bool false))] [27,28,29,30,31,32,33] ?_ ?_);refine ev ?_;apply sq<;>intro h1 h1p h1s;exact jnb I;exact jnb I;refine xbg ?_;apply tv;apply sq<;>intro h2 h2p h2s;exact absurd h2 oe;refine wc znJ hsh I I ?_;refine ev ?_;apply sq<;>intro h3 h3p h3s;refine rn [(950,some (.box [.d (.i (c+1))]))] (r2 I I) (.tup (qne ?_ ?_)) ⟨I,I⟩ (SubO.get ⟨.inr ?_,⟨.inl I,O⟩⟩) (zak I);rotate_left 3;exact absurd h3 oe;all_goals (first|((rfl);done)|(rfl))
theorem zv6 (w:List Data) (t:Ty) (p:Pat):(zaI w 10 t p 0).1.isSome=isP w t p:=by
 have h:=(zfx w 10 t p 0).1;rw[h];unfold zbO isP;rw[Int.zero_add];split
 ·rename_i hz;rw[hz];rfl
 ·rename_i hz;cases hc:(zas w 10 t p&&(decide ((p.size:Int)<=60)&&linP w 10 t p)) with
  |true=>exact absurd hc hz
  |false=>rfl
theorem zfl {w:List Data} (hw:WT w){a k:Int}{p:Pat} (ht:TyIn w.length ⟨a,k⟩) (hok:p.ok):
  FnD Tryz.prog 131 [.d (zah w),.agg [.d (.i a),.d (.i k)],.agg [.d (.i p.op),.d (.i p.ctor),.d (.i p.n),.d (.i p.m),.d (.i p.var),.d (zau p.kids)]] [] (.tup [.d (zcS (zdn (zaI w 10 ⟨a,k⟩ p 0).1)),.d (.bool (isP w ⟨a,k⟩ p))]) []:=by
 rw[<-zv6];refine bd Tryz.f131 15 [] [] fun _ _ _ _ hk=>?_;refine bx 3004 ?_;refine bx 3005 ?_;refine ev (ab 950 tz3 ?_);refine so ty3 ?_;apply tv;refine wd znF (zdR hw 10 (c:=0) od od ht hok od od) I I ⟨I,O⟩ ?_;refine ev (rn0 (r2 I I) (.tup (qee ?_ ?_)));rotate_left 2;all_goals (rfl)
theorem zjK {w:List Data} (hw:WT w){a k:Int}{p:Pat} (ht:TyIn w.length ⟨a,k⟩) (hok:p.ok):
  FnD Tryz.prog 101 [.d (zah w),.agg [.d (.i a),.d (.i k)],.agg [.d (.i p.op),.d (.i p.ctor),.d (.i p.n),.d (.i p.m),.d (.i p.var),.d (zau p.kids)]] [] (.d (.bool (isP w ⟨a,k⟩ p))) []:=by
 refine bd Tryz.f101 17 [] [] fun _ _ _ _ hk=>?_;refine bx 3004 ?_;refine bx 3005 ?_;refine ev (wc zqI (zfl hw ht hok) I I ?_);refine ev (rq ?_);rotate_left;all_goals (rfl)
set_option maxHeartbeats 2000000
mutual
def cntE (m:Int):Ex->Int
 | .mk _ _ _ ks=>zeg m 1 ks
def zeg (m n:Int):List Ex->Int
 | []=>n
 |k::r=>if n<=m then zeg m (n+cntE (m-n) k) r else n
end
theorem zp2 {m n:Int}{l:List Ex} (h:¬n<=m):zeg m n l=n:=by cases l<;>simp[zeg,h]
mutual
theorem zo3:∀(v:Ex) (m:Int),1<=cntE m v/\cntE m v<=v.size
 | .mk _ _ _ ks,m=>by
  have:=zj2 ks m 1 od;simp only[cntE,Ex.size];push_cast;omega
theorem zj2:∀(l:List Ex) (m n:Int),1<=n->1<=zeg m n l/\zeg m n l<=n+Exs.size l
 | [],m,n,h=>by simp[zeg,Exs.size];omega
 |k::r,m,n,h=>by
  have h1:=zo3 k (m-n);have h2:=zj2 r m (n+cntE (m-n) k) od;simp only[zeg,Exs.size];split
  ·push_cast;omega
  ·push_cast;omega
end
mutual
theorem zsf:∀(v:Ex) (m:Int),(cntE m v<=m↔(v.size:Int)<=m)/\(cntE m v<=m->cntE m v=v.size)
 | .mk _ _ _ ks,m=>by
  have:=zmu ks m 1;simp only[cntE,Ex.size];push_cast;exact this
theorem zmu:∀(l:List Ex) (m n:Int),(zeg m n l<=m↔n+(Exs.size l:Int)<=m)/\(zeg m n l<=m->zeg m n l=n+Exs.size l)
 | [],m,n=>by simp[zeg,Exs.size]
 |k::r,m,n=>by
  have h1:=zsf k (m-n);have h2:=zmu r m (n+cntE (m-n) k);have h3:=zj2 r m (n+cntE (m-n) k);have h4:=zo3 k (m-n);simp only[zeg,Exs.size];push_cast
  by_cases hn:n<=m
  ·rw[if_pos hn];by_cases h5:cntE (m-n) k<=m-n
   ·have h6:=h1.2 h5;rw[h6] at h2 ⊢;constructor
    ·rw[h2.1];constructor<;>intro h<;>omega
    ·intro h;rw[h2.2 h];omega
   ·have h7:¬(k.size:Int)<=m-n:=fun h=>h5 (h1.1.2 h);have h8:¬n+cntE (m-n) k<=m:=by omega
    rw[zp2 h8];constructor
    ·constructor<;>intro h<;>omega
    ·intro h;omega
  ·rw[if_neg hn];constructor
   ·constructor<;>intro h<;>omega
   ·intro h;omega
end
def TyOk (n:Nat) (t:Ty):Prop:=TyIn n t/\(t.data = -1->t.index=0)
def gdOk (g:Gd) (vars:List Vt):Bool:=if g.op=0 then decide (g.var=0/\g.n=0) else decide (1<=g.op/\g.op<=2/\0<=g.n/\g.n<=9)&&decide ((⟨g.var,⟨-1,0⟩⟩:Vt)∈vars)
def zdb (w:List Data) (t:Ty) (p:Pat):List Vt:=zdn (zaI w 10 t p 0).1
def clOk (w:List Data) (t:Ty) (c:Cl):Bool:=isP w t c.pat&&gdOk c.g (zdb w t c.pat)
def zaM (w:List Data) (t:Ty) (l:List Cl):Bool:=zaK w t&&(decide ((l.length:Int)<=8)&& !l.any fun c=> !clOk w t c)
def tyS (s:Nat):Ty:=⟨((s / 4:Nat):Int),((s % 4:Nat):Int)⟩
def zen (t:Ty):Nat:=t.data.toNat*4+t.index.toNat
def dv (f:Nat->Nat) (t:Ty):Nat:=if t.data = -1 then 1 else f (zen t)
def zbK (f:Nat->Nat):Nat->List Ty->Nat
 |m,[]=>m+1
 |m,t::r=>if dv f t=0 then 0 else zbK f (max m (dv f t)) r
def most (w:List Data) (f:Nat->Nat) (t:Ty) (c:Int):Nat:=zbK f 0 (zae w t c)
def updF (f:Nat->Nat) (s n:Nat):Nat->Nat:=fun i=>if i=s then n else f i
def zbM (w:List Data) (s:Nat) (f:Nat->Nat) (c:Int):Nat->Nat:=
 if 0<most w f (tyS s) c/\(f s=0\/most w f (tyS s) c<f s) then updF f s (most w f (tyS s) c) else f
def zdF (w:List Data) (f:Nat->Nat) (s:Nat):Nat->Nat:=(za8 w (tyS s)).foldl (zbM w s) f
def zhb (w:List Data) (f:Nat->Nat):Nat->Nat:=(List.range (w.length*4)).foldl (zdF w) f
def zb6 (w:List Data):Nat->Nat->Nat
 |0=>fun _=>0
 |k+1=>zhb w (zb6 w k)
def zav (w:List Data):Nat->Nat:=zb6 w (w.length*4+1)
def Hd (w:List Data):Nat->Ty->Prop
 |0,_=>False
 |d+1,t=>t.data = -1\/∃c∈za8 w t,t.data≠ -1/\∀u∈zae w t c,Hd w d u
def InS (n:Nat) (u:Ty):Prop:=u.data = -1\/(zen u<n/\tyS (zen u)=u)
def ClosedT (w:List Data):Prop:=∀s,s<w.length*4->∀c∈za8 w (tyS s),∀u∈zae w (tyS s) c,InS (w.length*4) u
theorem zky (s:Nat):(tyS s).data≠ -1:=by simp only[tyS];omega
theorem Hd_mono (w:List Data):∀(d:Nat) (t:Ty),Hd w d t->Hd w (d+1) t
 |0,_,h=>h.elim
 |d+1,t,h=>by
  rcases h with h|⟨c,hc,h1,h⟩
  ·exact .inl h
  ·exact .inr ⟨c,hc,h1,fun u hu=>Hd_mono w d u (h u hu)⟩
theorem Hd_le {w:List Data}{d e:Nat}{t:Ty} (h:d<=e) (hd:Hd w d t):Hd w e t:=by
 induction h with
 |refl=>exact hd
 |step _ ih=>exact Hd_mono w _ t ih
section
variable {w:List Data}
def Bet (f g:Nat->Nat):Prop:=∀s,0<f s->0<g s/\g s<=f s
def Snd (w:List Data) (f:Nat->Nat):Prop:=∀s,s<w.length*4->0<f s->Hd w (f s) (tyS s)
def Cmp (w:List Data) (k:Nat) (f:Nat->Nat):Prop:=∀s,s<w.length*4->∀d,d<=k->Hd w d (tyS s)->0<f s/\f s<=d
theorem Bet.refl (f:Nat->Nat):Bet f f:=fun s h=>⟨h,Nat.le_refl _⟩
theorem Bet.trans {f g h:Nat->Nat} (a:Bet f g) (b:Bet g h):Bet f h:=fun s hs=>⟨(b s (a s hs).1).1,Nat.le_trans (b s (a s hs).1).2 (a s hs).2⟩
theorem Cmp.bet {k:Nat}{f g:Nat->Nat} (h:Cmp w k f) (b:Bet f g):Cmp w k g:=fun s hs d hd hh=>
 ⟨(b s (h s hs d hd hh).1).1,Nat.le_trans (b s (h s hs d hd hh).1).2 (h s hs d hd hh).2⟩
theorem zi7 {f:Nat->Nat}:∀ {l:List Ty}{m k:Nat},m<=k->(∀u∈l,0<dv f u/\dv f u<=k)->0<zbK f m l/\zbK f m l<=k+1
 | [],m,k,hm,_=>by simp only[zbK];omega
 |t::r,m,k,hm,h=>by
  have h1:=h t oe;simp only[zbK];rw[if_neg od];exact zi7 od (fun u hu=>h u (by simp[hu]))
theorem zgX {f:Nat->Nat}:∀ {l:List Ty}{m:Nat},0<zbK f m l->m<zbK f m l/\∀u∈l,0<dv f u/\dv f u<zbK f m l
 | [],m,_=>⟨by simp only[zbK];omega,fun u hu=>by simp at hu⟩
 |t::r,m,h=>by
  simp only[zbK] at h ⊢;by_cases h0:dv f t=0
  ·rw[if_pos h0] at h;omega
  ·rw[if_neg h0] at h ⊢;obtain⟨h1,h2⟩:=zgX h;refine⟨by omega,fun u hu=>?_⟩;rcases List.mem_cons.1 hu with rfl|hu
   ·omega
   ·exact h2 u hu
theorem zp5 {f:Nat->Nat} (hs:Snd w f){u:Ty} (hu:InS (w.length*4) u) (h:0<dv f u):Hd w (dv f u) u:=by
 unfold dv at h ⊢;split
 ·rename_i he;exact .inl he
 ·rename_i he;rw[if_neg he] at h;rcases hu with hu|⟨h1,h2⟩
  ·exact absurd hu he
  ·have:=hs _ h1 h;rwa [h2] at this
theorem znW {k:Nat}{f:Nat->Nat} (hc:Cmp w k f){u:Ty} (hu:InS (w.length*4) u) (h:Hd w k u):0<dv f u/\dv f u<=k:=by
 unfold dv;split
 ·cases k with
  |zero=>exact h.elim
  |succ k=>omega
 ·rename_i he;rcases hu with hu|⟨h1,h2⟩
  ·exact absurd hu he
  ·exact hc _ h1 k (Nat.le_refl _) (by rw[h2];exact h)
theorem zmU {s:Nat}{f:Nat->Nat}{c:Int}:Bet f (zbM w s f c):=by
 intro i hi;unfold zbM;split
 ·rename_i h;unfold updF;split
  ·subst i;omega
  ·omega
 ·omega
theorem zrN (hcl:ClosedT w){s:Nat}{f:Nat->Nat}{c:Int} (hs:s<w.length*4) (hc:c∈za8 w (tyS s)) (h:Snd w f):Snd w (zbM w s f c):=by
 unfold zbM;split
 ·rename_i hn;intro i hi h0;unfold updF at h0 ⊢;by_cases he:i=s
  ·subst he;rw[if_pos rfl] at h0 ⊢;obtain⟨h1,h2⟩:=zgX (m:=0) hn.1;obtain⟨n,hn'⟩:∃n,most w f (tyS i) c=n+1:=⟨most w f (tyS i) c-1,by omega⟩;rw[hn'];refine .inr ⟨c,hc,zky _,fun u hu=>?_⟩;have h3:=h2 u hu;have h4:zbK f 0 (zae w (tyS i) c)=n+1:=hn';exact Hd_le od (zp5 h (hcl i hi c hc u hu) h3.1)
  ·rw[if_neg he] at h0 ⊢;exact h i hi h0
 ·exact h
theorem zrL (hcl:ClosedT w){s k:Nat}{f:Nat->Nat}{c:Int} (hs:s<w.length*4) (hc:c∈za8 w (tyS s)) (h:Cmp w k f) (hh:∀u∈zae w (tyS s) c,Hd w k u):
  0<zbM w s f c s/\zbM w s f c s<=k+1:=by
 have hm:=zi7 (f:=f) (m:=0) (k:=k) od (fun u hu=>znW h (hcl s hs c hc u hu) (hh u hu));have hm':0<most w f (tyS s) c/\most w f (tyS s) c<=k+1:=hm;unfold zbM;split
 ·unfold updF;rw[if_pos rfl];exact hm'
 ·rename_i hn;have:¬(f s=0\/most w f (tyS s) c<f s):=fun h2=>hn ⟨hm'.1,h2⟩;omega
theorem zpH (hcl:ClosedT w){s k:Nat} (hs:s<w.length*4):∀(C:List Int) (f:Nat->Nat),(∀c∈C,c∈za8 w (tyS s))->Snd w f->Cmp w k f->
  Bet f (C.foldl (zbM w s) f)/\Snd w (C.foldl (zbM w s) f)/\∀c∈C,(∀u∈zae w (tyS s) c,Hd w k u)->0<C.foldl (zbM w s) f s/\C.foldl (zbM w s) f s<=k+1
 | [],f,_,h1,_=>⟨Bet.refl f,h1,fun c hc=>by simp at hc⟩
 |c::r,f,hC,h1,h2=>by
  have hc:=hC c oe;obtain⟨g1,g2,g3⟩:=zpH hcl hs r (zbM w s f c) (fun x hx=>hC x (by simp[hx])) (zrN hcl hs hc h1) (h2.bet zmU);refine⟨zmU.trans g1,g2,fun x hx hh=>?_⟩;rcases List.mem_cons.1 hx with rfl|hx
  ·obtain⟨q1,q2⟩:=zrL hcl hs hc h2 hh;exact⟨(g1 s q1).1,Nat.le_trans (g1 s q1).2 q2⟩
  ·exact g3 x hx hh
theorem zsL (hcl:ClosedT w){s k:Nat} (hs:s<w.length*4){f:Nat->Nat} (h1:Snd w f) (h2:Cmp w k f):
  Bet f (zdF w f s)/\Snd w (zdF w f s)/\∀d,d<=k+1->Hd w d (tyS s)->0<zdF w f s s/\zdF w f s s<=d:=by
 obtain⟨g1,g2,g3⟩:=zpH hcl hs (za8 w (tyS s)) f (fun c hc=>hc) h1 h2;refine⟨g1,g2,fun d hd hh=>?_⟩;rcases Nat.lt_or_ge d (k+1) with h|h
 ·have:=h2 s hs d od hh;exact⟨(g1 s this.1).1,Nat.le_trans (g1 s this.1).2 this.2⟩
 ·obtain rfl:d=k+1:=by omega
  rcases hh with hh|⟨c,hc,_,hh⟩
  ·exact absurd hh (zky s)
  ·exact g3 c hc hh
theorem zmW (hcl:ClosedT w){k:Nat}:∀(L:List Nat) (f:Nat->Nat),(∀s∈L,s<w.length*4)->Snd w f->Cmp w k f->
  Bet f (L.foldl (zdF w) f)/\Snd w (L.foldl (zdF w) f)/\∀s∈L,∀d,d<=k+1->Hd w d (tyS s)->0<L.foldl (zdF w) f s/\L.foldl (zdF w) f s<=d
 | [],f,_,h1,_=>⟨Bet.refl f,h1,fun s hs=>by simp at hs⟩
 |s::r,f,hL,h1,h2=>by
  obtain⟨p1,p2,p3⟩:=zsL hcl (hL s oe) h1 h2;obtain⟨g1,g2,g3⟩:=zmW hcl r (zdF w f s) (fun x hx=>hL x (by simp[hx])) p2 (h2.bet p1);refine⟨p1.trans g1,g2,fun x hx d hd hh=>?_⟩;rcases List.mem_cons.1 hx with rfl|hx
  ·have:=p3 d hd hh;exact⟨(g1 x this.1).1,Nat.le_trans (g1 x this.1).2 this.2⟩
  ·exact g3 x hx d hd hh
theorem zr0 (hcl:ClosedT w){k:Nat}{f:Nat->Nat} (h1:Snd w f) (h2:Cmp w k f):Bet f (zhb w f)/\Snd w (zhb w f)/\Cmp w (k+1) (zhb w f):=by
 obtain⟨g1,g2,g3⟩:=zmW hcl (List.range (w.length*4)) f (fun s hs=>List.mem_range.1 hs) h1 h2;exact⟨g1,g2,fun s hs d hd hh=>g3 s (List.mem_range.2 hs) d hd hh⟩
theorem zd6 (hcl:ClosedT w):∀k,Snd w (zb6 w k)/\Cmp w k (zb6 w k)
 |0=>⟨fun s _ h=>absurd h (by simp[zb6]),fun s _ d hd hh=>by
   obtain rfl:d=0:=by omega
   exact hh.elim⟩
 |k+1=>(zr0 hcl (zd6 hcl k).1 (zd6 hcl k).2).2
theorem ziW (hcl:ClosedT w){d:Nat} (h1:1<=d) (h:∀s,s<w.length*4->Hd w (d+1) (tyS s)->Hd w d (tyS s)):∀e s,s<w.length*4->Hd w e (tyS s)->Hd w d (tyS s)
 |0,s,_,hh=>hh.elim
 |e+1,s,hs,hh=>by
  refine h s hs ?_;rcases hh with hh|⟨c,hc,h2,hh⟩
  ·exact .inl hh
  ·refine .inr ⟨c,hc,h2,fun u hu=>?_⟩;rcases hcl s hs c hc u hu with hi|⟨q1,q2⟩
   ·cases d with
    |zero=>omega
    |succ d=>exact .inl hi
   ·have:=ziW hcl h1 h e _ q1 (by rw[q2];exact hh u hu);rwa [q2] at this
open Classical in
noncomputable def cntH (w:List Data) (d:Nat):Nat:=(List.range (w.length*4)).countP (fun s=>decide (Hd w d (tyS s)))
theorem zmw {p q:Nat->Bool}:∀ {l:List Nat},(∀x∈l,p x=true->q x=true)->(∃x∈l,p x=false/\q x=true)->l.countP p<l.countP q
 | [],_,h=>by obtain⟨x,hx,_⟩:=h;simp at hx
 |y::r,hpq,h=>by
  have hle:r.countP p<=r.countP q:=List.countP_mono_left (fun x hx hp=>hpq x (by simp[hx]) hp);rw[List.countP_cons,List.countP_cons];obtain⟨x,hx,h1,h2⟩:=h;rcases List.mem_cons.1 hx with rfl|hx
  ·rw[h1,h2];simp only[Bool.false_eq_true,if_false,if_true];omega
  ·have:=zmw (fun x hx hp=>hpq x (by simp[hx]) hp) ⟨x,hx,h1,h2⟩;have h3:=hpq y oe;cases hp:p y with
   |false=>simp only[Bool.false_eq_true,if_false];omega
   |true=>rw[h3 hp];simp only[if_true];omega
open Classical in
theorem zvg {d:Nat} (h:¬ ∀s,s<w.length*4->Hd w (d+1) (tyS s)->Hd w d (tyS s)):cntH w d<cntH w (d+1):=by
 have h2:∃s,s<w.length*4/\Hd w (d+1) (tyS s)/\¬Hd w d (tyS s):=by
  refine Classical.byContradiction fun hn=>h fun s hs hh=>Classical.byContradiction fun hd=>hn ⟨s,hs,hh,hd⟩
 obtain⟨s,hs,h3,h4⟩:=h2;unfold cntH;exact zmw (fun x _ hx=>by rw[xah] at hx ⊢;exact Hd_mono w d _ hx) ⟨s,List.mem_range.2 hs,by simp[h4],by simp[h3]⟩
theorem zq2:∀m,(∀d,1<=d->d<=m->¬ ∀s,s<w.length*4->Hd w (d+1) (tyS s)->Hd w d (tyS s))->m<=cntH w (m+1)
 |0,_=>Nat.zero_le _
 |m+1,h=>by
  have:=zq2 m (fun d h1 h2=>h d h1 od);have:=zvg (w:=w) (d:=m+1) (h (m+1) od od);omega
theorem zvm (hcl:ClosedT w){e s:Nat} (hs:s<w.length*4) (h:Hd w e (tyS s)):Hd w (w.length*4+1) (tyS s):=by
 have hex:∃d,1<=d/\d<=w.length*4+1/\∀s,s<w.length*4->Hd w (d+1) (tyS s)->Hd w d (tyS s):=by
  refine Classical.byContradiction fun hn=>?_;have h1:=zq2 (w:=w) (w.length*4+1) (fun d h1 h2 h3=>hn ⟨d,h1,h2,h3⟩);have h2:cntH w (w.length*4+1+1)<=(List.range (w.length*4)).length:=List.countP_le_length;rw[List.length_range] at h2;omega
 obtain⟨d,h1,h2,h3⟩:=hex;exact Hd_le h2 (ziW hcl h1 h3 e s hs h)
theorem zrM {s i:Nat}{f:Nat->Nat}{c:Int} (h:i≠s):zbM w s f c i=f i:=by
 unfold zbM;split
 ·unfold updF;rw[if_neg h]
 ·rfl
theorem zpI {s i:Nat} (h:i≠s):∀(C:List Int) (f:Nat->Nat),C.foldl (zbM w s) f i=f i
 | [],_=>rfl
 |c::r,f=>by rw[List.foldl_cons,zpI h r,zrM h]
theorem zmX {i:Nat}:∀(L:List Nat) (f:Nat->Nat),i∉L->L.foldl (zdF w) f i=f i
 | [],_,_=>rfl
 |s::r,f,h=>by
  simp only[List.mem_cons,not_or] at h;rw[List.foldl_cons,zmX r _ h.2];exact zpI h.1 _ _
theorem zh3 {i:Nat} (h:w.length*4<=i):∀k,zb6 w k i=0
 |0=>rfl
 |k+1=>by
  show zhb w (zb6 w k) i=0
  unfold zhb;rw[zmX _ _ om,zh3 h k]
theorem ztI (hcl:ClosedT w){k:Nat} (hk:w.length*4+1<=k):zb6 w k=zav w:=by
 have key:∀a b,w.length*4+1<=a->w.length*4+1<=b->∀s,s<w.length*4->0<zb6 w a s->0<zb6 w b s/\zb6 w b s<=zb6 w a s:=by
  intro a b ha hb s hs h0;have h1:=(zd6 hcl a).1 s hs h0;have h2:=zvm hcl hs h1;have h3:=(zd6 hcl a).2 s hs _ ha h2;exact(zd6 hcl b).2 s hs _ od h1
 funext s
 rcases Nat.lt_or_ge s (w.length*4) with hs|hs
 ·have h1:=key k (w.length*4+1) hk (Nat.le_refl _) s hs;have h2:=key (w.length*4+1) k (Nat.le_refl _) hk s hs;show zb6 w k s=zb6 w (w.length*4+1) s
  omega
 ·show zb6 w k s=zb6 w (w.length*4+1) s
  rw[zh3 hs,zh3 hs]
def Strict (f g:Nat->Nat):Prop:=∃s,0<g s/\(f s=0\/g s<f s)
theorem Strict.bet {f g h:Nat->Nat} (a:Strict f g) (b:Bet g h):Strict f h:=by
 obtain⟨s,h1,h2⟩:=a;have:=b s h1;exact⟨s,this.1,by omega⟩
theorem zog {f:Nat->Nat}{b:Nat} (hb:∀s,f s<=b) (h1:1<=b):∀ {l:List Ty}{m:Nat},m<=b->zbK f m l<=b+1
 | [],m,hm=>by simp only[zbK];omega
 |t::r,m,hm=>by
  simp only[zbK];split
  ·omega
  ·refine zog hb h1 ?_;have:dv f t<=b:=by
    unfold dv;split
    ·exact h1
    ·exact hb _
   omega
theorem zsH {s:Nat}{f:Nat->Nat}{c:Int}{b:Nat} (hb:∀s,f s<=b) (h1:1<=b):∀i,zbM w s f c i<=b+1:=by
 intro i;unfold zbM;split
 ·unfold updF;split
  ·exact zog hb h1 (Nat.zero_le _)
  ·have:=hb i;omega
 ·have:=hb i;omega
theorem zox {s:Nat}:∀(C:List Int) (f:Nat->Nat) (b:Nat),(∀s,f s<=b)->1<=b->∀i,C.foldl (zbM w s) f i<=b+C.length
 | [],f,b,hb,_,i=>by have:=hb i;simpa using this
 |c::r,f,b,hb,h1,i=>by
  have:=zox (s:=s) r (zbM w s f c) (b+1) (zsH hb h1) od i;rw[List.foldl_cons,xab];omega
theorem zkv {m:Nat}:∀(L:List Nat) (f:Nat->Nat) (b:Nat),(∀s∈L,(za8 w (tyS s)).length<=m)->(∀s,f s<=b)->1<=b->∀i,L.foldl (zdF w) f i<=b+L.length*m
 | [],f,b,_,hb,_,i=>by have:=hb i;simpa using this
 |s::r,f,b,hm,hb,h1,i=>by
  have h2:=zox (w:=w) (s:=s) (za8 w (tyS s)) f b hb h1;have h3:=hm s oe;have:=zkv r (zdF w f s) (b+m) (fun x hx=>hm x (by simp[hx])) (fun j=>by have:=h2 j;show _<=_;unfold zdF;omega) od i;rw[List.foldl_cons,xab,Nat.add_mul];omega
theorem zpk {m:Nat} (hm:∀s,s<w.length*4->(za8 w (tyS s)).length<=m):∀k i,zb6 w k i<=1+k*(w.length*4*m)
 |0,i=>by simp[zb6]
 |k+1,i=>by
  have:=zkv (w:=w) (m:=m) (List.range (w.length*4)) (zb6 w k) (1+k*(w.length*4*m)) (fun s hs=>hm s (List.mem_range.1 hs)) (zpk hm k) od i;show zhb w (zb6 w k) i<=_
  unfold zhb;rw[List.length_range] at this;rw[Nat.add_mul];omega
end
def tabC (n:Nat) (f:Nat->Nat):List AV:=(List.range n).map fun s=> .d (.i (f s:Int))
abbrev zkX (n:Nat) (f:Nat->Nat):D:= .sl ((List.range n).map fun s=>[D.i (f s:Int)])
theorem zmq {n i s:Nat}{f:Nat->Nat} (h:s<n) (e:i=s):(tabC n f)[i]?=some (.d (.i (f s:Int))):=by
 subst e;simp[tabC,h]
theorem zbq {n:Nat}{f:Nat->Nat}:AV.idsL (tabC n f)=[]:=by
 unfold tabC;induction List.range n with
 |nil=>rfl
 |cons x r ih=>rw[xaf,AV.idsL,ih];rfl
theorem zqX {n:Nat}{f:Nat->Nat}:zbT n 1 (tabC n f)=some ((List.range n).map fun s=>[D.i (f s:Int)]):=by
 have:=zdO (f:=fun s=>[D.i (f s:Int)]) (k:=1) (l:=List.range n) (fun _ _=>rfl);rw[List.length_range] at this;rw[<-this];congr 1
 unfold tabC;induction List.range n with
 |nil=>rfl
 |cons x r ih=>rw[xaf,List.flatMap_cons,ih];rfl
theorem zpA {v:AV}:∀ {cs:List AV}{i:Nat},i<cs.length->putC cs i [v]=some (cs.set i v)
 |x::r,0,_=>by cases r<;>rfl
 |x::r,i+1,h=>by
  have:=zpA (v:=v) (cs:=r) (i:=i) (by simpa using h);simp only[putC,this,List.set_cons_succ]
theorem zt9 {n i s v:Nat}{f:Nat->Nat}{x:Int} (h:s<n) (e:i=s) (ex:x=(v:Int)):putC (tabC n f) i [.d (.i x)]=some (tabC n (updF f s v)):=by
 subst e ex;rw[zpA (by simp[tabC,h])];congr 1
 refine List.ext_getElem (by simp[tabC]) (fun j h1 h2=>?_);simp only[tabC,xac,List.length_range] at h2;rw[List.getElem_set];simp only[tabC,List.getElem_map,List.getElem_range,updF];by_cases hj:i=j
 ·subst hj;simp
 ·rw[if_neg hj,if_neg (fun h=>hj h.symm)]
theorem InS.facts {n:Nat}{a k:Int} (h:InS n ⟨a,k⟩) (ha:¬a = -1):zen ⟨a,k⟩<n/\a*4+k=(zen ⟨a,k⟩:Int)/\0<=a/\0<=k/\k<=3/\a<=n:=by
 rcases h with h|⟨h1,h2⟩
 ·exact absurd h ha
 ·have e1:=xam Ty.data h2;have e2:=xam Ty.index h2;simp only[tyS] at e1 e2;omega
theorem zs3 {f:Nat->Nat}{a k:Int} (ha:¬a = -1):dv f ⟨a,k⟩=f (zen ⟨a,k⟩):=by unfold dv;rw[if_neg ha]
theorem zrb {f:Nat->Nat}{a k:Int} (ha:a = -1):dv f ⟨a,k⟩=1:=by unfold dv;rw[if_pos ha]
theorem zp4 {f:Nat->Nat}{b:Nat} (hb:∀s,f s<=b) (h1:1<=b) (t:Ty):dv f t<=b:=by
 unfold dv;split
 ·exact h1
 ·exact hb _
theorem zhG {a k:Int} (ha:0<=a/\a<=1000) (hk:0<=k/\k<=1000):FnD Tryz.prog 245 [.agg [.d (.i a),.d (.i k)]] [] (.d (.i (a*4+k))) []:=by
 refine bd Tryz.f245 9 [] [] fun _ _ _ _ hk=>?_;refine bx 3001 ?_;refine ev (ar (ar ?_));focus (refine rq ?_;all_goals ((simp[];done)))
theorem oj{p:Prop}(h:p:=by first|rfl|(simp only[zaz,occH,occE,Res.ids,xai,List.nil_append,AV.idsL,AV.ids,zaj,zai,zar,zaP,xaf,List.map_nil,upC,zbq];rfl)):p:=h
theorem ov{p:Prop}(h:p:=by first|rfl|(simp only[zbi,List.all_cons,List.all_nil,zcw,zb9,AV.idsL,AV.ids,zaj,zai,xaf,List.map_nil,zbq];rfl)):p:=h
theorem zlp {n:Nat}{f:Nat->Nat}{a k:Int} (h:InS n ⟨a,k⟩) (hn:n<=100):
  FnD Tryz.prog 166 [.ms 70 n,.agg [.d (.i a),.d (.i k)]] [(70,some (.box (tabC n f)))] (.d (.i (dv f ⟨a,k⟩))) []:=by
 have hs:=h.facts;refine bd Tryz.f166 13 [12] [] fun _ _ _ _ hk=>?_;refine Walk.box (id:=3003) .none I I I oj oj oj oj ?_;refine evs [12] [] ?_;apply sq<;>intro h1 h1p h1s<;>(try simp only[Q] at h1p);refine rn [] (r1 I) (.eqd ?_) ⟨I,I⟩ (SubH.get ⟨I,O⟩) (fun _ h=>h);rotate_left;refine Walk.call (cr:=[]) zqS (zhG (by have:=hs h1p;omega) (by have:=hs h1p;omega)) I .none I I (LeL.refl _) O I ov oj ?_;refine xbE (i:=zen ⟨a,k⟩) zaZ .none I I I (hs h1p).2.1 ((hs h1p).1) (xbG ty3 .none I I I ((zmq (hs h1p).1 od)) ?_);refine evs [12] [] (rn [] (r1 I) (.eqd ?_) ⟨I,I⟩ (SubH.get ⟨I,O⟩) (fun _ h=>h));rotate_left;all_goals (first|(rw[zrb ol];rfl)|(rw[zs3 ol]))
theorem zfb {n:Nat}{f:Nat->Nat}{a k:Int} (h:InS n ⟨a,k⟩) (hn:n<=100):
  FnD Tryz.prog 166 [.d (zkX n f),.agg [.d (.i a),.d (.i k)]] [] (.d (.i (dv f ⟨a,k⟩))) []:=by
 have hs:=h.facts;refine bd Tryz.f166 13 [] [] fun _ _ _ _ hk=>?_;refine bx 3003 ?_;refine ev ?_;apply sq<;>intro h1 h1p h1s<;>(try simp only[Q] at h1p);refine rq ?_;rotate_left;refine wc zqS (zhG (by have:=hs h1p;omega) (by have:=hs h1p;omega)) I I ?_;refine ixq (i:=zen ⟨a,k⟩) zaZ I I (hs h1p).2.1 (by simp[(hs h1p).1];rfl) I ?_;refine ev (rq ?_);rotate_left;all_goals (first|(rw[zrb ol];rfl)|(rw[zs3 ol]))
theorem ziI {w:List Data} (hw:WT w){a k c:Int} (ht:TyIn w.length ⟨a,k⟩) (hc:c∈zao w ⟨a,k⟩):(zae w ⟨a,k⟩ c).length<=1000000000000:=by
 obtain⟨d,rfl,h1,h2⟩:=zbc ht hc;exact zhN hw h1 h2
theorem zmj {w:List Data} (hw:WT w){n:Nat}{f:Nat->Nat}{a k c:Int} (ht:TyIn w.length ⟨a,k⟩) (hc:c∈zao w ⟨a,k⟩) (hn:n<=100) (hb:∀s,f s<=100000) (hin:∀u∈zae w ⟨a,k⟩ c,InS n u):
  FnD Tryz.prog 244 [.d (zah w),.ms 70 n,.agg [.d (.i a),.d (.i k)],.d (.i c)] [(70,some (.box (tabC n f)))] (.d (.i (most w f ⟨a,k⟩ c))) []:=by
 have hl:=ziI hw ht hc;have hd:=zp4 hb od;refine bd Tryz.f244 37 [] [] fun _ _ _ _ hk=>?_;refine Walk.box (id:=3006) .none I I I (by(simp only[zaz,occH,occE,Res.ids,xai,List.nil_append,AV.idsL,AV.ids,zaj,zai,zar,zaP,xaf,List.map_nil,upC,zbq];rfl)) (by(simp only[zaz,occH,occE,Res.ids,xai,List.nil_append,AV.idsL,AV.ids,zaj,zai,zar,zaP,xaf,List.map_nil,upC,zbq];rfl)) (by(simp only[zaz,occH,occE,Res.ids,xai,List.nil_append,AV.idsL,AV.ids,zaj,zai,zar,zaP,xaf,List.map_nil,upC,zbq];rfl)) (by(simp only[zaz,occH,occE,Res.ids,xai,List.nil_append,AV.idsL,AV.ids,zaj,zai,zar,zaP,xaf,List.map_nil,upC,zbq];rfl)) (ev (Walk.call (cr:=[]) zcj (zcB hw ht hc) I .none I I (LeL.refl _) O I ov oj ?_));refine ev (xaA (ι:=List (Ty)×List (Ty)×(Nat)) hk (fun x=>[(11,.d (.i (x.1.length:Int))),(10,.d (.i (x.2.2:Int)))]) [8,12,17,18,19,20,21,22,23,24,25,26,27,28,29,30,31,32,33,34] (fun x=>[]) (fun x=>x.1++x.2.1=zae w ⟨a,k⟩ c/\x.2.2<=100000/\zbK f x.2.2 x.2.1=zbK f 0 (zae w ⟨a,k⟩ c)) (fun x=>x.2.1.length) ([],zae w ⟨a,k⟩ c,0) ⟨by simp,by simp,I⟩ ⟨⟨_,I,xaK ?_⟩,⟨⟨_,I,xaK ?_⟩,O⟩⟩ O (fun x=>rfl) (fun x hg1=>?_));iterate 2 focus ((simp;done))
 obtain⟨pre,rest,m⟩:=x;dsimp only at hg1 ⊢;refine evc [] [] ?_;apply sq<;>intro h1 h1p h1s<;>(try simp only[Q] at h1p);rcases rest with _|⟨y,rest⟩
 ·exfalso;simp_all
 have hdy:=hd y;have hye:dv f ⟨y.data,y.index⟩=dv f y:=rfl;refine ixq zaL I I I (zaE hg1.1) I (ev (Walk.call (cr:=[]) zkF (zlp (f:=f) (a:=y.data) (k:=y.index) (hin y (by rw[<-hg1.1];simp)) hn) I .none I I (.cons (LeA.msn (by first|rfl|(simp;done))) (.cons (.refl _) .nil)) ⟨I,O⟩ I ov oj ?_));refine ev ?_;apply sq<;>intro h2 h2p h2s<;>(try simp only[Q] at h2p);refine rn [] (r1 I) (.eqd ?_) ⟨I,I⟩ (SubH.get ⟨I,O⟩) (fun _ h=>h);rotate_left;apply sq<;>intro h3 h3p h3s<;>(try simp only[Q] at h3p);refine ar (xaj ((pre++[y],rest,max m (dv f y))) ⟨⟨(by have hz:=hg1.1;rw[<-hz];simp),⟨(by have:=hd y;dsimp only;omega),(by rw[<-hg1.2.2];simp only[zbK];rw[if_neg (by have:=hd y;omega)])⟩⟩,oe,sx ⟨⟨_,I,xaK ?_⟩,⟨⟨_,I,xaK ?_⟩,O⟩⟩ O⟩);iterate 2 focus (first|(simp;done)|(dsimp only;omega))
 refine ar (xaj ((pre++[y],rest,max m (dv f y))) ⟨⟨(by have hz:=hg1.1;rw[<-hz];simp),⟨(by have:=hd y;dsimp only;omega),(by rw[<-hg1.2.2];simp only[zbK];rw[if_neg (by have:=hd y;omega)])⟩⟩,oe,sx ⟨⟨_,I,xaK ?_⟩,⟨⟨_,I,xaK ?_⟩,O⟩⟩ O⟩);iterate 2 focus (first|(simp;done)|(dsimp only;omega))
 have hrest:rest=[]:=by
  rcases rest with _|⟨a,b⟩
  ·rfl
  ·exfalso;have hz:=xam List.length (hg1.1);simp only[xaa,xab,xac] at hz;omega
 subst hrest;refine ar (rn [] (r1 I) (.eqd ?_) ⟨I,I⟩ (SubH.get ⟨I,O⟩) (fun _ h=>h));rotate_left;all_goals (refine xam D.i ?_;unfold most;rw[<-hg1.2.2];first|(simp only[zbK];rw[if_pos od];rfl)|(simp only[zbK];omega))
structure Dp (w:List Data):Prop where
 wt:WT w
 cl:ClosedT w
 four:w.length<=4
 ct:∀s,s<w.length*4->(za8 w (tyS s)).length<=4
def midT (w:List Data) (k s:Nat):Nat->Nat:=(List.range s).foldl (zdF w) (zb6 w k)
def rowT (w:List Data) (k s:Nat) (pre:List Int):Nat->Nat:=pre.foldl (zbM w s) (midT w k s)
theorem zmI {w:List Data}{k s:Nat}:rowT w k s (za8 w (tyS s))=midT w k (s+1):=by
 unfold rowT midT;rw[List.range_succ,List.foldl_append];rfl
theorem zjg {w:List Data}{k s:Nat}{pre:List Int}{c:Int}:rowT w k s (pre++[c])=zbM w s (rowT w k s pre) c:=by
 unfold rowT;rw[List.foldl_append];rfl
theorem zpG {w:List Data} (hd:Dp w){k s:Nat} (hk:k<=20) (hs:s<=w.length*4){pre:List Int} (hp:pre.length<=4) (i:Nat):rowT w k s pre i<=100000:=by
 have h4:=hd.four;have h1:=zpk (w:=w) (m:=4) hd.ct k;have h2:=zkv (w:=w) (m:=4) (List.range s) (zb6 w k) _ (fun x hx=>hd.ct x (by have:=List.mem_range.1 hx;omega)) h1 od;have h3:=zox (w:=w) (s:=s) pre (midT w k s) _ h2 od i;have e1:k*(w.length*4*4)<=20*(4*4*4):=Nat.mul_le_mul hk od;rw[List.length_range] at h3;show pre.foldl (zbM w s) (midT w k s) i<=100000
 omega
theorem zr3 {w:List Data}{s:Nat} (h:s<w.length*4):TyIn w.length (tyS s):= .inr ⟨s / 4,rfl,by omega⟩
theorem zoO {w:List Data}{s:Nat}:zao w (tyS s)=za8 w (tyS s):=by unfold zao;rw[if_neg (zky s)]
theorem zoY (m:Nat):zbG (m+1) [.d (.i 0)]=zbG m [.d (.i 0)]++[AV.d (.i 0)]:=by
 induction m with
 |zero=>rfl
 |succ m ihm=>
  show [AV.d (.i 0)]++zbG (m+1) [.d (.i 0)]=([AV.d (.i 0)]++zbG m [.d (.i 0)])++[AV.d (.i 0)]
  rw[ihm,xar]
theorem zm7 (n:Nat):zbG n [.d (.i 0)]=tabC n (fun _=>0):=by
 unfold tabC;induction n with
 |zero=>rfl
 |succ n ih=>rw[zoY,ih,List.range_succ,xag];rfl
theorem zje {w:List Data}{s:Nat}{f:Nat->Nat}{c:Int} (h:decide ((0:Int)<(most w f (tyS s) c:Int)/\((f s:Int)=0\/(most w f (tyS s) c:Int)<(f s:Int)))=true):zbM w s f c=updF f s (most w f (tyS s) c):=by
 rw[xah] at h;unfold zbM;rw[if_pos od]
theorem zjd {w:List Data}{s:Nat}{f:Nat->Nat}{c:Int} (h:decide ((0:Int)<(most w f (tyS s) c:Int)/\((f s:Int)=0\/(most w f (tyS s) c:Int)<(f s:Int)))=false):zbM w s f c=f:=by
 rw[decide_eq_false_iff_not] at h;unfold zbM;rw[if_neg od]
theorem zme {w:List Data} (hw:WT w){s:Nat} (hs:s<w.length*4):FnD Tryz.prog 243 [.d (zah w),.agg [.d (.i ((s:Int) / 4)),.d (.i ((s:Int) % 4))]] [] (.d (zcP (za8 w (tyS s)))) []:=by
 rw[<-zoO];exact zb4 hw (zr3 hs)
theorem znd {w:List Data} (hd:Dp w){f:Nat->Nat}{s:Nat}{c:Int} (hs:s<w.length*4) (hc:c∈za8 w (tyS s)) (hb:∀s,f s<=100000):
  FnD Tryz.prog 244 [.d (zah w),.ms 70 (w.length*4),.agg [.d (.i ((s:Int) / 4)),.d (.i ((s:Int) % 4))],.d (.i c)] [(70,some (.box (tabC (w.length*4) f)))] (.d (.i (most w f (tyS s) c))) []:=
 have h4:=hd.four;zmj (a:=(tyS s).data) (k:=(tyS s).index) hd.wt (zr3 hs) (by rw[<-zoO] at hc;exact hc) od hb (fun u hu=>hd.cl s hs c hc u hu)
theorem zlt {w:List Data} (hd:Dp w):FnD Tryz.prog 164 [.d (zah w)] [] (.d (zkX (w.length*4) (zav w))) []:=by
 have hw:=hd.wt;have h4:=hd.four;refine bd Tryz.f164 70 [27,29,54,61] [14,999999] fun _ _ _ _ hk=>?_;refine ar (Walk.make (id:=70) (m:=w.length*4) zaZ tz3 I oh (zin I) .none I (xam (fun z:Int=>some (AV.d (D.i z))) (by simp:((w.map Data.c).length:Int)*4=((w.length*4:Nat):Int))) (xam (fun z:Int=>some (AV.d (D.i z))) (by simp:((w.map Data.c).length:Int)*4=((w.length*4:Nat):Int))) od od oj oj oj ?_);refine evs [27,29,54,61] [] (xaA (ι:=Nat) hk (fun n=>[(4,.d (.i (n:Int)))]) [5,6,7,8,9,14,15,16,17,18,19,20,21,22,23,24,25,26,27,28,29,30,31,32,33,34,35,36,37,38,39,40,41,42,43,44,45,46,47,48,49,50,51,52,53,54,55,56,57,58,59,60,61,62,63,64,65,66,67,68] (fun n=>[(70,some (.box (tabC (w.length*4) (zb6 w n))))]) (fun n=>n<=w.length*4+1) (fun n=>w.length*4+1-n) 0 oe ⟨⟨_,I,xaK ?_⟩,O⟩ ⟨?_,O⟩ (fun x=>rfl) (fun n hg1=>?_));focus ((simp;done))
 focus ((show some (Res.box _)=some (Res.box _);rw[zm7];rfl))
 refine evc [27,29,54,61] [14,999999] ?_;apply sq<;>intro h1 h1p h1s<;>(try simp only[Q] at h1p);refine xaA (ι:=Nat) hk (fun s=>[(5,.d (.i (s:Int)))]) [6,7,8,9,20,21,22,23,24,25,26,27,28,29,30,31,32,33,34,35,36,37,38,39,40,41,42,43,44,45,46,47,48,49,50,51,52,53,54,55,56,57,58,59,60,61,62,63,64,65,66,67,68] (fun s=>[(70,some (.box (tabC (w.length*4) (midT w n s))))]) (fun s=>s<=w.length*4) (fun s=>w.length*4-s) 0 oe ⟨⟨_,I,xaK ?_⟩,O⟩ ⟨?_,O⟩ (fun x=>rfl) (fun s hg2=>?_);focus ((simp;done))
 focus (first|rfl|(show some (Res.box _)=some (Res.box _);rw[<-zmI,<-hg3,xaq]))
 refine evc [27,29,54,61] [14,999999] ?_;apply sq<;>intro h2 h2p h2s<;>(try simp only[Q] at h2p);refine xbO .none I I I od ?_;refine evs [27,29,54,61] [] (xbQ .none I I I od ?_);refine bu [0,1] [_,_] st38 ?_;refine Walk.alloc (id:=3006) tz38 I .none I (by(simp only[zaz,occH,occE,Res.ids,xai,List.nil_append,AV.idsL,AV.ids,zaj,zai,zar,zaP,xaf,List.map_nil,upC,zbq];rfl)) (by(simp only[zaz,occH,occE,Res.ids,xai,List.nil_append,AV.idsL,AV.ids,zaj,zai,zar,zaP,xaf,List.map_nil,upC,zbq];rfl)) (by(simp only[zaz,occH,occE,Res.ids,xai,List.nil_append,AV.idsL,AV.ids,zaj,zai,zar,zaP,xaf,List.map_nil,upC,zbq];rfl)) (so ty38 ?_);apply tv;refine Walk.call (cr:=[]) zfM (zme hw (s:=s) od) I .none I I (LeL.refl _) O I ov oj ?_;refine evs [27,29,54,61] [] (xaA (ι:=List (Int)×List (Int)) hk (fun x=>[(8,.d (.i (x.1.length:Int)))]) [9,34,35,36,37,38,39,40,41,42,43,44,45,46,47,48,49,50,51,52,53,54,55,56,57,58,59,60,61,62,63,64,65,66,67,68] (fun x=>[(70,some (.box (tabC (w.length*4) (rowT w n s x.1))))]) (fun x=>x.1++x.2=za8 w (tyS s)) (fun x=>x.2.length) ([],za8 w (tyS s)) oe ⟨⟨_,I,xaK ?_⟩,O⟩ ⟨?_,O⟩ (fun x=>rfl) (fun x hg3=>?_));focus ((simp;done))
 focus (first|rfl|(show some (Res.box _)=some (Res.box _);rw[zjg];first|(rw[zje ol];done)|(rw[zjd ol];done)))
 obtain⟨pre,rest⟩:=x;dsimp only at hg3 ⊢;have hct:=hd.ct s od;refine evc [27,29,54,61] [14,999999] ?_;apply sq<;>intro h3 h3p h3s<;>(try simp only[Q] at h3p);rcases rest with _|⟨c,rest⟩
 ·exfalso;simp_all
 refine ixq zaZ I I I (zaE hg3) I (evd [27,29,54,61] [] (Walk.call (cr:=[]) zqR (znd hd (f:=rowT w n s pre) (s:=s) (c:=c) od (by rw[<-hg3];simp) (zpG hd od od (by have:=hd.ct s od;have hz:=xam List.length hg3;simp at hz;omega))) I .none I I (.cons (.refl _) (.cons (LeA.msn (by first|rfl|(simp;done))) (.cons (.refl _) (.cons (.refl _) .nil)))) ⟨I,O⟩ I ov oj ?_));refine evd [27,29,54,61] [] (dr (xaC (xbh 17 [(64,.d (.bool (decide ((0:Int)<(most w (rowT w n s pre) (tyS s) c:Int)/\((rowT w n s pre s:Int)=0\/(most w (rowT w n s pre) (tyS s) c:Int)<(rowT w n s pre s:Int))))))] [48,49,50,51,52,53,54,55,56,57,58,59,60,61,62,63] ?_ ?_)));refine evs [27,29,54,61] [] ?_;apply sq<;>intro h4 h4p h4s<;>(try simp only[Q] at h4p);refine xbE (i:=s) zaZ (.some I I h4) I I I I od ?_;refine xbG ty3 (.some I I h4) I I I ((zmq (s:=s) od od)) ?_;refine evs [27,29,54,61] [(50,true)] ?_ ⟨⟨_,I,h4⟩,O⟩;apply sq<;>intro h5 h5p h5s<;>(try simp only[Q] at h5p);exact jnb I;refine xbE (i:=s) zaZ (.some I I h5) I I I I od ?_;refine xbG ty3 (.some I I h5) I I I ((zmq (s:=s) od od)) ?_;refine evs [27,29,54,61] [(50,true),(56,false)] ?_ ⟨⟨_,I,h4⟩,⟨_,I,h5⟩,O⟩;exact jnb I;exact jnb I;refine xbg ?_;apply tv;apply sq<;>intro h6 h6p h6s<;>(try simp only[Q] at h6p);refine xbE (i:=s) zaZ .none I I I I od ?_;refine Walk.store ty3 .none I I I I I I oe ((zt9 (s:=s) (v:=most w (rowT w n s pre) (tyS s) c) od od I)) ?_;apply tv;refine ar (xaj ((pre++[c],rest)) ⟨(by have hz:=hg3;rw[<-hz];simp),oe,sx ⟨⟨_,I,xaK ?_⟩,O⟩ ⟨?_,O⟩⟩);focus ((simp;done))
 focus ((show some (Res.box _)=some (Res.box _);rw[zjg];first|(rw[zje ol];done)|(rw[zjd ol];done)))
 refine ar (xaj ((pre++[c],rest)) ⟨(by have hz:=hg3;rw[<-hz];simp),oe,sx ⟨⟨_,I,xaK ?_⟩,O⟩ ⟨?_,O⟩⟩);focus ((simp;done))
 focus ((show some (Res.box _)=some (Res.box _);rw[zjg];first|(rw[zje ol];done)|(rw[zjd ol];done)))
 have hrest:rest=[]:=by
  rcases rest with _|⟨a,b⟩
  ·rfl
  ·exfalso;have hz:=xam List.length (hg3);simp only[xaa,xab,xac] at hz;omega
 subst hrest;refine ar (xaj (s+1) ⟨od,od,sx ⟨⟨_,I,xaK ?_⟩,O⟩ ⟨?_,O⟩⟩);focus ((simp;done))
 focus ((show some (Res.box _)=some (Res.box _);rw[<-zmI,<-hg3,xaq]))
 refine ar (xaj (n+1) ⟨od,od,sx ⟨⟨_,I,xaK ?_⟩,O⟩ ⟨?_,O⟩⟩);focus ((simp;done))
 focus (first|(show some (Res.box _)=some (Res.box _);rw[zm7];rfl)|(have e:s=w.length*4:=od;rw[e];rfl))
 refine CWp.frz hk 2 70 _ _ I I zqX I (CWp.ret (rq ?_));rotate_left;all_goals ((have e:n=w.length*4+1:=od;rw[e];rfl))
theorem zr2 {i j:Nat} (h:j<4):tyS (i*4+j)=⟨(i:Int),(j:Int)⟩:=by
 unfold tyS;rw[show(i*4+j) / 4=i by omega,show(i*4+j) % 4=j by omega]
theorem zsQ {w:List Data} (hs:WSmall w) (hv:zaT w=true):Dp w:=by
 have hw:=zco hs hv;have hW:=(zcp w).1 hv;refine⟨hw,fun s hs c hc u hu=>?_,hW.len,fun s hs=>?_⟩
 ·obtain⟨j,rfl,hj⟩:=zop (d:=s / 4) (k:=((s % 4:Nat):Int)) hc;have hu':u∈zae w ⟨((s / 4:Nat):Int),((s % 4:Nat):Int)⟩ (j:Int):=hu;simp only[zae,Int.toNat_natCast,List.mem_map] at hu';obtain⟨x,hx,rfl⟩:=hu';have hco:=hW.ctor _ (zam (l:=w) (i:=s / 4) od) _ (zam hj);simp only[zbz,xad,Bool.not_eq_true',List.any_eq_false] at hco;have hax:zbH w.length x=true:=by
   have:=hco.2.2.2 x hx;cases h:zbH w.length x with
   |true=>rfl
   |false=>rw[h] at this;exact absurd I this
  have hci:=hco.2.2.1;simp only[zbH,zaC,Bool.or_eq_true,xad,xah,and_true] at hax hci;have key:∀y:Ty,(y.data = -1\/(0<=y.data/\y.data<w.length/\0<=y.index/\y.index<=3))->InS (w.length*4) y:=by
   rintro ⟨a,k⟩ h
   rcases h with h|⟨h1,h2,h3,h4⟩
   ·exact .inl h
   ·refine .inr ⟨?_, ?_⟩
    ·simp only[zen] at *;omega
    ·obtain⟨i,rfl⟩:=Int.eq_ofNat_of_zero_le h1;obtain⟨m,rfl⟩:=Int.eq_ofNat_of_zero_le h3;simp only[zen,Int.toNat_natCast];exact zr2 (by simp only at h4;omega)
  refine key _ ?_;unfold zcG zcy;split
  ·dsimp only;rcases hax with h|h
   ·omega
   ·right
    refine⟨by omega,by omega, ?_⟩;split<;>omega
  ·rcases hax with h|h
   ·exact .inl h.1
   ·right;omega
 ·have h1:=zfV (tyS s).index (nth w (tyS s).data.toNat).ctors 0;have h2:=(hW.data _ (zam (l:=w) (i:=s / 4) od)).2.2;show(zaY (tyS s).index 0 (nth w (tyS s).data.toNat).ctors).length<=4
  have e:(tyS s).data.toNat=s / 4:=by simp only[tyS,Int.toNat_natCast]
  rw[e] at h1 ⊢;omega
theorem zkf {n:Nat}{t:Ty} (h:InS (n*4) t):TyIn n t:=by
 rcases h with h|⟨h1,h2⟩
 ·exact .inl h
 ·refine .inr ⟨zen t / 4, ?_,by omega⟩;have:=xam Ty.data h2;exact this.symm
theorem zj1 {w:List Data} (hd:Dp w){t:Ty}{c:Int} (ht:InS (w.length*4) t) (hc:c∈zao w t):∀u∈zae w t c,InS (w.length*4) u:=by
 rcases ht with h|⟨h1,h2⟩
 ·unfold zao at hc;rw[if_pos h] at hc;simp at hc
 ·have hx:=hd.cl _ h1;rw[h2] at hx;have:c∈za8 w t:=by
   unfold zao at hc;split at hc
   ·simp at hc
   ·exact hc
  exact hx c this
structure PKids (w:List Data) (n:Nat) (a k k':Int) (p:Pat):Prop where
 len5:p.op=5->p.kids.length=2
 len6:p.op=6->p.kids.length=1
 len4:p.op=4->p.kids.length=(zae w ⟨a,k⟩ p.ctor).length
 one:p.op=5\/p.op=6->zas w n ⟨a,k'⟩ (nth p.kids 0)=true
 two:p.op=5->zas w n ⟨a,k'⟩ (nth p.kids 1)=true
 arg:p.op=4->∀i,i<(zae w ⟨a,k⟩ p.ctor).length->zas w n ⟨(nth (zae w ⟨a,k⟩ p.ctor) i).data,(nth (zae w ⟨a,k'⟩ p.ctor) i).index⟩ (nth p.kids i)=true
 mem:p.op=4->p.ctor∈zao w ⟨a,k'⟩
 ops:p.op=1\/p.op=2\/(p.op=3/\a = -1)\/p.op=4\/p.op=5\/p.op=6
theorem zcn {w:List Data}{a k:Int} (h:zaK w ⟨a,k⟩=true):zaT w=true/\TyIn w.length ⟨a,k⟩/\(a≠ -1->0<=a/\a.toNat<w.length/\0<=k/\k<=3):=by
 unfold zaK at h;rw[xad] at h;obtain⟨h1,h2⟩:=h;simp only[zdM,zaC,Bool.or_eq_true,xad,xah,and_true] at h2;refine⟨h1, ?_,fun ha=>by omega⟩;rcases h2 with h|h
 ·exact .inl h.1
 ·exact .inr ⟨a.toNat,by simp only;omega,by omega⟩
structure PVal (w:List Data) (a k:Int) (p:Pat):Prop where
 dp:Dp w
 tin:TyIn w.length ⟨a,k⟩
 shape:zas w 10 ⟨a,k⟩ p=true
 rng:a≠ -1->0<=a/\a.toNat<w.length/\0<=k/\k<=3
theorem zeF {w:List Data}{a b:Int} (hs:WSmall w):FnD Tryz.prog 102 [.d (zah w),.agg [.d (.i a),.d (.i b)]] [] (.d (.bool (zaK w ⟨a,b⟩))) []:=by
 rw[<-zt5];exact zjO hs
theorem zhp {xs:List Cl}{f:Nat}{caps:List AV}{hp:Hp}{p:Cl->Bool} (hs:xs.length<=1000000000000) (hcal:Callee Tryz.prog f)
  (hf:∀t∈xs,FnD Tryz.prog f ([.agg [.d (.i t.pat.op),.d (.i t.pat.ctor),.d (.i t.pat.n),.d (.i t.pat.m),.d (.i t.pat.var),.d (zau t.pat.kids),.d (.i t.g.op),.d (.i t.g.var),.d (.i t.g.n)]]++caps) hp (.d (.bool (p t))) []) (k1:subH hp hp) (k2:zeA hp=true) (k3:zbi hp [] (.d .nilp) []=true):
  FnD Tryz.prog 200 [.d (zbu xs),.fn f caps] hp (.d (.i (idxF p xs 0))) []:=by
 refine bd Tryz.f200 19 [] [] fun _ _ _ _ hk=>?_;refine xaA (ι:=List (Cl)×List (Cl)) hk (fun x=>[(8,.d (.i (x.1.length:Int)))]) [4,5,9,10,11,12,13,14,15,16,17,18] (fun x=>[]) (fun x=>x.1++x.2=xs/\idxF p x.2 x.1.length=idxF p xs 0) (fun x=>x.2.length) ([],xs) ⟨by simp,I⟩ ⟨⟨_,I,xaK ?_⟩,O⟩ O (fun x=>zhQ hp) (fun x hg1=>?_);focus (first|rfl|(simp;done)|(simp_all;done)|omega)
 obtain⟨pre,rest⟩:=x;dsimp only at hg1 ⊢;refine evc [] [] ?_;apply sq<;>intro h1 h1p h1s<;>(try simp only[Q] at h1p);rcases rest with _|⟨y,rest⟩
 ·exfalso;simp_all
 refine ixq sl74 I I I (zaE hg1.1) I (ev (xbr (cr:=[]) hcal (hf y (by rw[<-hg1.1];simp)) I .none I I I (LeL.refl _) k1 k2 (zfw k3 _) I ?_));apply tv;apply sq<;>intro h2 h2p h2s<;>(try simp only[Q] at h2p);focus (refine rn [] (r1 I) (.eqd ?_) ⟨I,I⟩ (fun _ _ h=>h) (fun _ h=>h);all_goals (rw[<-hg1.2];simp[idxF,h1s,h1p,h2s,h2p]))
 refine ar (xaj ((pre++[y],rest)) ⟨⟨(by have hz:=hg1.1;rw[<-hz];simp),(by rw[<-hg1.2];simp[idxF,h2s])⟩,oe,Sub.x oi oi ⟨⟨_,I,xaK ?_⟩,O⟩ oe (by simp[zdK]) O⟩);focus (first|rfl|(simp;done)|(simp_all;done)|omega)
 have hrest:rest=[]:=by
  rcases rest with _|⟨a,b⟩
  ·rfl
  ·exfalso;have hz:=xam List.length (hg1.1);simp only[xaa,xab,xac] at hz;omega
 subst hrest;focus (refine rn [] (r1 I) (.eqd ?_) ⟨I,I⟩ (fun _ _ h=>h) (fun _ h=>h);all_goals (rw[<-hg1.2];simp[idxF,h1s,h1p]))
theorem zgd {xs:List Cl}{f:Nat}{caps:List AV}{hp:Hp}{p:Cl->Bool} (hs:xs.length<=1000000000000) (hcal:Callee Tryz.prog f)
  (hf:∀t∈xs,FnD Tryz.prog f ([.agg [.d (.i t.pat.op),.d (.i t.pat.ctor),.d (.i t.pat.n),.d (.i t.pat.m),.d (.i t.pat.var),.d (zau t.pat.kids),.d (.i t.g.op),.d (.i t.g.var),.d (.i t.g.n)]]++caps) hp (.d (.bool (p t))) []) (k1:subH hp hp) (k2:zeA hp=true) (k3:zbi hp [] (.d .nilp) []=true):
  FnD Tryz.prog 112 [.d (zbu xs),.fn f caps] hp (.d (.bool (xs.any p))) []:=by
 refine bd Tryz.f112 9 [] [] fun _ _ _ _ hk=>?_;refine Walk.call (cr:=[]) zuJ (zhp hs hcal hf k1 k2 k3) I .none I I (LeL.refl _) k1 k2 (zfw k3 _) I (ev (rn [] (r1 I) (.eqd ?_) ⟨I,I⟩ (fun _ _ h=>h) (fun _ h=>h)));rotate_left;all_goals (exact xam D.bool (zfs p xs 0))
theorem zim (w:List Data) (t:Ty) (p:Pat):(zdb w t p).length<=6:=(zfy w 10 t p 0).2
theorem zk6 {g:Gd}{vars:List Vt} (hv:vars.length<=1000000000000):FnD Tryz.prog 201 [.agg [.d (.i g.op),.d (.i g.var),.d (.i g.n)],.d (zcS vars)] [] (.d (.bool (gdOk g vars))) []:=by
 refine bd Tryz.f201 27 [10] [] fun _ _ _ _ hk=>?_;refine bx 3002 ?_;refine evs [10] [] ?_;apply sq<;>intro h1 h1p h1s<;>(try simp only[Q,zaC] at h1p);refine bu [] [] zff ?_;refine xbz zs5 .none I I I I I (evs [10] [] (rq ?_));rotate_left;refine wc zes zbD I I ?_;refine evs [10] [] ?_;apply sq<;>intro h2 h2p h2s<;>(try simp only[Q,zaC] at h2p);refine Walk.call (cr:=[]) zes zbD I (.some I I h2) I I (LeL.refl _) O I I I (evs [10] [(14,true)] ?_ ⟨⟨_,I,h2⟩,O⟩);apply sq<;>intro h3 h3p h3s<;>(try simp only[Q,zaC] at h3p);refine Walk.build st38 (ks:=[0]) (xs:=[_]) I I (.some I I h3) I I I (Walk.build zqr (ks:=[0,1]) (xs:=[_,_]) I I (.some I I h3) I I I (Walk.call (cr:=[]) zqU (zeS (v:=⟨g.var,⟨-1,0⟩⟩) hv) I (.some I I h3) I I (LeL.refl _) O I I I (evs [10] [(19,true)] ?_ ⟨⟨_,I,h3⟩,O⟩)));refine rq ?_;rotate_left;refine rq ?_;rotate_left;refine sqF ?_;refine rq ?_;rotate_left;all_goals (refine xam D.bool ?_;unfold gdOk;first|(rw[if_pos od];simp_all;done)|(rw[if_neg od];simp_all[zaC];done)|(rw[if_neg od];simp_all[zaC];omega))
theorem zkc {w:List Data} (hw:WT w){t:Ty}{c:Cl} (ht:TyIn w.length t) (hok:c.pat.ok):
  FnD Tryz.prog 114 [.d (zah w),.agg [.d (.i t.data),.d (.i t.index)],.agg [.d (.i c.pat.op),.d (.i c.pat.ctor),.d (.i c.pat.n),.d (.i c.pat.m),.d (.i c.pat.var),.d (zau c.pat.kids),.d (.i c.g.op),.d (.i c.g.var),.d (.i c.g.n)]] [] (.d (.bool (clOk w t c))) []:=by
 have ht':TyIn w.length ⟨t.data,t.index⟩:=ht;have hvl:=zim w t c.pat;refine bd Tryz.f114 24 [] [] fun _ _ _ _ hk=>?_;refine bx 3004 ?_;refine bx 3005 ?_;refine ev (wc zqI (zfl hw ht' hok) I I ?_);refine ev ?_;apply sq<;>intro h1 h1p h1s<;>(try simp only[Q] at h1p);refine Walk.call (cr:=[]) zuK (zk6 (g:=c.g) (vars:=zdb w t c.pat) od) I (.some I I h1) I I (LeL.refl _) O I I I ?_;refine evs [] [(18,true)] ?_ ⟨⟨_,I,h1⟩,O⟩;refine rq ?_;rotate_left;refine rq ?_;rotate_left;all_goals (refine xam D.bool ?_;unfold clOk;have hte:(⟨t.data,t.index⟩:Ty)=t:=rfl;(simp_all;done))
theorem zhn {w:List Data} (hw:WT w){a k:Int}{c:Cl} (ht:TyIn w.length ⟨a,k⟩) (hok:c.pat.ok):
  FnD Tryz.prog 113 [.agg [.d (.i c.pat.op),.d (.i c.pat.ctor),.d (.i c.pat.n),.d (.i c.pat.m),.d (.i c.pat.var),.d (zau c.pat.kids),.d (.i c.g.op),.d (.i c.g.var),.d (.i c.g.n)],.ref 3003 0,.ref 3004 0] [(3003,some (.box [.d (zah w)])),(3004,some (.box [.d (.i a),.d (.i k)]))] (.d (.bool (!clOk w ⟨a,k⟩ c))) []:=by
 refine bd Tryz.f113 10 [] [] fun _ _ _ _ hk=>?_;refine bx 3901 ?_;refine ev (wc zul (zkc (t:=⟨a,k⟩) (c:=c) hw ht hok) I I ?_);refine ev (rn [] (r1 I) (.eqd ?_) ⟨I,I⟩ (SubH.get ⟨I,⟨I,O⟩⟩) (fun _ h=>h));rotate_left;all_goals (rfl)
theorem zdA {w:List Data} (hs:WSmall w){a k:Int}{l:List Cl} (hl:ClsOk l):
  FnD Tryz.prog 48 [.d (zah w),.agg [.d (.i a),.d (.i k)],.d (zbu l)] [] (.d (.bool (zaM w ⟨a,k⟩ l))) []:=by
 have hll:=hl.1;refine bd Tryz.f48 21 [] [] fun _ _ _ _ hk=>?_;refine bx 3003 ?_;refine bx 3004 ?_;refine ev (wc zni (zf1 hs) I I ?_);refine ev ?_;apply sq<;>intro h1 h1p h1s<;>(try simp only[Q] at h1p);apply sq<;>intro h2 h2p h2s<;>(try simp only[Q] at h2p);refine xbu (xs:=[_,_]) I (.some I I h2) I I (Walk.call (cr:=[]) zuj (zgd (p:=fun c=> !clOk w ⟨a,k⟩ c) hl.1 zuk (fun t htm=>zhn (zco hs (zcn ol).1) (zcn ol).2.1 (hl.2 t htm)) ⟨I,I,O⟩ I I) I (.some I I h2) I I (LeL.refl _) ⟨I,I,O⟩ I I I ?_);refine evs [] [(15,true)] ?_ ⟨⟨_,I,h2⟩,O⟩;refine rq ?_;rotate_left;refine rq ?_;rotate_left;refine sqF ?_;refine rq ?_;rotate_left;all_goals (refine xam D.bool ?_;unfold zaM;first|(simp_all;done)|(simp_all;omega))
def AZ (w:List Data):Prop:=∀t c,c∈zao w t->TyIn w.length t->∀u∈zae w t c,u.data = -1->u.index=0
theorem zoL {w:List Data} (hv:zaT w=true):AZ w:=by
 have hW:=(zcp w).1 hv;rintro ⟨a,k⟩ c hc ht u hu hd
 obtain⟨d,rfl,h1,j,rfl,h3⟩:=zbc ht hc;have hco:=hW.ctor _ (zam h1) _ (zam h3);simp only[zbz,xad,xah,Bool.not_eq_true',List.any_eq_false,Bool.not_eq_false'] at hco;have hall:=hco.2.2.2;simp only[zae,Int.toNat_natCast] at hu;obtain⟨x,hx,rfl⟩:=List.mem_map.1 hu;have hxo:=hall x hx;simp only[zbH,zaC,Bool.or_eq_true,xad,xah,and_true,Bool.not_eq_true',Bool.not_eq_false] at hxo;unfold zcG at hd ⊢;split at hd
 ·rename_i hi;rw[if_pos hi];dsimp only at hd ⊢;omega
 ·rename_i hi;rw[if_neg hi];omega
theorem zr6 {n:Nat}{t:Ty} (h:zdM n t=true):TyOk n t:=by
 refine⟨zr5 h,fun hd=>?_⟩;simp only[zdM,zaC,Bool.or_eq_true,xad,xah,and_true] at h;omega
theorem zhf {w:List Data}{t:Ty}{p:Pat} (h:isP w t p=true):zdb w t p=zaG w 10 t p:=by
 unfold isP at h;simp only[xad,xah] at h;have e:=(zfx w 10 t p 0).1;have hw:zbO w 10 t p 0=true:=by
  unfold zbO;rw[h.1,h.2.2,xax od];rfl
 rw[if_pos hw] at e;unfold zdb;rw[e];rfl
theorem zr8 {w:List Data}{t:Ty}{p:Pat} (h:isP w t p=true):zcE (zaG w 10 t p)=true:=by
 unfold isP at h;simp only[xad] at h;exact zgW w 10 t p h.1 h.2.2
theorem zkz {w:List Data} (hw:WT w) (haz:AZ w):∀(n:Nat){t:Ty}{p:Pat},zas w n t p=true->TyOk w.length t->∀v∈zaG w n t p,TyOk w.length v.ty
 |0,t,p,h,_=>by simp[zas] at h
 |n+1,t,p,h,ht=>by
  obtain⟨ho,hlen⟩:=zce h;intro v hv;have hto:∀u∈zab w t p,TyOk w.length u:=fun u hu=>by
   refine⟨zda (a:=t.data) (k:=t.index) hw ht.1 ho u hu,fun hd=>?_⟩;unfold zab at hu;split at hu
   ·rename_i h4;exact haz t p.ctor (zcA ho h4) ht.1 u hu hd
   ·split at hu
    ·simp only[List.mem_cons,xau,or_false,or_self] at hu;rw[hu] at hd ⊢;exact ht.2 hd
    ·split at hu
     ·simp only[List.mem_cons,xau,or_false] at hu;rw[hu] at hd ⊢;exact ht.2 hd
     ·simp at hu
  simp only[zaG,List.mem_append] at hv;rcases hv with hv|hv
  ·unfold zaQ at hv;split at hv
   ·simp only[List.mem_cons,xau,or_false] at hv;rw[hv];exact ht
   ·simp at hv
  ·have key:∀(a:List Ty) (b:List Pat),(∀i,i<a.length->i<b.length->∀v∈zaG w n (nth a i) (nth b i),TyOk w.length v.ty)->∀v∈za5 (zaG w n) a b,TyOk w.length v.ty:=by
    intro a;induction a with
    |nil=>intro b _ v hv;simp[za5] at hv
    |cons x r ih=>
     intro b h v hv;cases b with
     |nil=>simp[za5] at hv
     |cons y s=>
      simp only[za5,List.mem_append] at hv;rcases hv with hv|hv
      ·exact h 0 oe oe v hv
      ·exact ih s (fun i h1 h2=>h (i+1) (by simpa using h1) (by simpa using h2)) v hv
   refine key (zcU w t p) p.kids (fun i h1 h2=>?_) v hv;have hvt:i<(zab w t p).length/\nth (zcU w t p) i=nth (zab w t p) i:=by
    unfold zcU at h1 ⊢;split at h1
    ·rename_i h5;rw[if_pos h5];rw[List.length_take] at h1;refine⟨by omega, ?_⟩;have:i=0:=by omega
     subst this;cases hT:zab w t p with
     |nil=>rfl
     |cons a b=>rfl
    ·rename_i h5;rw[if_neg h5];exact⟨h1,rfl⟩
   rw[hvt.2];exact zkz hw haz n (zbs h od) (hto _ (zam hvt.1))
def gdS (g:Gd) (vars:List Vt):Bool:=if g.op=0 then decide (g.var=0/\g.n=0) else decide (1<=g.op/\g.op<=2/\0<=g.n/\g.n<=9)&&(decide (0<=zbE vars g.var)&&decide ((nth vars (zbE vars g.var).toNat).ty.data = -1))
theorem zvl {n:Nat}{g:Gd}{vars:List Vt} (hn:zcE vars=true) (hv:∀v∈vars,TyOk n v.ty):gdS g vars=gdOk g vars:=by
 unfold gdS gdOk;split
 ·rfl
 ·congr 1
  have hnod:=xas hn;rw[xat];simp only[xad,xah];constructor
  ·rintro ⟨h1,h2⟩
   rcases ze0 vars g.var with ⟨h3,_⟩|⟨k,h3,h4,h5,_⟩
   ·omega
   ·rw[h3] at h2;simp only[Int.toNat_natCast] at h2;have hm:=zam h4;have ho:=(hv _ hm).2 h2;have:nth vars k=⟨g.var,⟨-1,0⟩⟩:=by
     generalize nth vars k=z at *;obtain⟨zv,⟨za,zk⟩⟩:=z;dsimp only at h5 h2 ho;rw[h5,h2,ho]
    rw[<-this];exact hm
  ·intro hm;rcases ze0 vars g.var with ⟨_,h4⟩|⟨k,h3,h4,h5,_⟩
   ·exact absurd I (h4 _ hm)
   ·refine⟨by omega, ?_⟩;rw[h3];simp only[Int.toNat_natCast];obtain⟨j,hj,e⟩:=List.getElem_of_mem hm;have ej:nth vars j=⟨g.var,⟨-1,0⟩⟩:=by simp[nth,List.getD,hj,e]
    have:k=j:=zi9 hnod h4 hj (by rw[h5,ej]);rw[this,ej]
theorem zlB {g:Gd}{vars:List Vt} (hv:vars.length<=1000000000000):FnD Tryz.prog 203 [.agg [.d (.i g.op),.d (.i g.var),.d (.i g.n)],.d (zcS vars)] [] (.d (.bool (gdS g vars))) []:=by
 have hlt:=fun h=>zj9 (l:=vars) (n:=g.var) h;refine bd Tryz.f203 50 [] [3] fun _ _ _ _ hk=>?_;refine bx 3002 ?_;refine ev ?_;apply sq<;>intro h1 h1p h1s<;>(try simp only[Q] at h1p);apply sq<;>intro h2 h2p h2s<;>(try simp only[Q] at h2p);refine rq ?_;rotate_left;refine rq ?_;rotate_left;refine xaC (xbh 18 [(34,.d (.bool (decide (¬(1<=g.op/\g.op<=2/\0<=g.n/\g.n<=9)))))] [17,18,19,20,21,22,23,24,25,26,27,28,29,30,31,32,33] ?_ ?_);refine ev ?_;apply sq<;>intro h3 h3p h3s<;>(try simp only[Q] at h3p);apply sq<;>intro h4 h4p h4s<;>(try simp only[Q] at h4p);refine sqT ?_;focus (exact jn I (xaJ (by((rw[xat];simp_all;omega)))))
 apply sq<;>intro h5 h5p h5s<;>(try simp only[Q] at h5p);focus (exact jn I (xaJ (by((rw[xat];simp_all;done)))))
 focus (exact jn I (xaJ (by((rw[xat];simp_all;done)))))
 refine sqF ?_;apply sq<;>intro h6 h6p h6s<;>(try simp only[Q] at h6p);focus (exact jn I (xaJ (by((rw[xat];simp_all;done)))))
 focus (exact jn I (xaJ (by((rw[xat];simp_all;done)))))
 refine xbg ?_;apply tv;apply sq<;>intro h7 h7p h7s<;>(try simp only[Q] at h7p);refine rq ?_;rotate_left;refine wc znI (zfA hv) I I ?_;refine ev ?_;apply sq<;>intro h8 h8p h8s<;>(try simp only[Q] at h8p);refine xbB (i:=(zbE vars g.var).toNat) sl36 (.some I I h8) I I I (by have:=hlt od;omega) (zan (by have:=hlt od;omega)) I ?_;refine evs [] [(41,true)] ?_ ⟨⟨_,I,h8⟩,O⟩;refine rq ?_;rotate_left;refine rq ?_;rotate_left;all_goals (refine xam D.bool ?_;unfold gdS;first|(rw[if_pos od];simp_all;done)|(rw[if_neg od,xaw od,Bool.false_and];done)|(rw[if_neg od,xax od,Bool.true_and,xaw od,Bool.false_and];done)|(rw[if_neg od];simp_all;done))
theorem zoC {w:List Data} (hw:WT w) (haz:AZ w){t:Ty}{c:Cl} (ht:TyOk w.length t) (hok:c.pat.ok) (hsz:c.pat.size<=1000000000000):
  FnD Tryz.prog 116 [.d (zah w),.agg [.d (.i t.data),.d (.i t.index)],.agg [.d (.i c.pat.op),.d (.i c.pat.ctor),.d (.i c.pat.n),.d (.i c.pat.m),.d (.i c.pat.var),.d (zau c.pat.kids),.d (.i c.g.op),.d (.i c.g.var),.d (.i c.g.n)]] [] (.d (.bool (clOk w t c))) []:=by
 have ht':TyIn w.length ⟨t.data,t.index⟩:=ht.1;have hcl:clOk w t c=(isP w t c.pat&&gdOk c.g (zdb w t c.pat)):=rfl;cases hp:isP w t c.pat with
 |false=>
  have hpi:=zgN hw ht' hok hsz;have hpi':FnD Tryz.prog 103 [.d (zah w),.agg [.d (.i t.data),.d (.i t.index)],.agg [.d (.i c.pat.op),.d (.i c.pat.ctor),.d (.i c.pat.n),.d (.i c.pat.m),.d (.i c.pat.var),.d (zau c.pat.kids)]] [] (.d (.bool false)) []:=by rw[<-hp];exact hpi
  rw[hcl,hp,Bool.false_and];refine bd Tryz.f116 22 [] [] fun _ _ _ _ hk=>?_;refine bx 3004 ?_;refine bx 3005 ?_;refine ev (wc znz hpi' I I ?_);refine evd [] [] ?_;apply sq<;>intro h1 h1p h1s<;>(try simp only[Q] at h1p);exfalso;contradiction;refine dr (rq ?_);rotate_left;all_goals (rfl)
 |true=>
  have hpi:=zgN hw ht' hok hsz;have hpi':FnD Tryz.prog 103 [.d (zah w),.agg [.d (.i t.data),.d (.i t.index)],.agg [.d (.i c.pat.op),.d (.i c.pat.ctor),.d (.i c.pat.n),.d (.i c.pat.m),.d (.i c.pat.var),.d (zau c.pat.kids)]] [] (.d (.bool true)) []:=by rw[<-hp];exact hpi
  have hsh:zas w 10 ⟨t.data,t.index⟩ c.pat=true:=by
   have:=hp;unfold isP at this;simp only[xad] at this;exact this.1
  have hvl:=zed w 10 ⟨t.data,t.index⟩ c.pat;have hge:=zvl (g:=c.g) (zr8 hp) (zkz hw haz 10 hsh ht);have hge':gdS c.g (zaG w 10 ⟨t.data,t.index⟩ c.pat)=gdOk c.g (zdb w t c.pat):=by rw[zhf hp];exact hge
  rw[hcl,hp,Bool.true_and,<-hge'];refine bd Tryz.f116 22 [] [] fun _ _ _ _ hk=>?_;refine bx 3004 ?_;refine bx 3005 ?_;refine ev (wc znz hpi' I I ?_);refine evd [] [] ?_;apply sq<;>intro h1 h1p h1s<;>(try simp only[Q] at h1p);refine Walk.call (cr:=[]) zgu (zc8 hw hsh od ht' hok hsz) I (.some I I h1) I I (LeL.refl _) O I I I ?_;refine Walk.call (cr:=[]) zuL (zlB (g:=c.g) od) I (.some I I h1) I I (LeL.refl _) O I I I ?_;refine evd [] [(12,true)] ?_ ⟨⟨_,I,h1⟩,O⟩;refine dr (rq ?_);rotate_left;exfalso;contradiction;all_goals (rfl)
def ClsSz (l:List Cl):Prop:=∀c∈l,c.pat.size<=1000000000000
theorem ztp {w:List Data}{t:Ty} (h:zaK w t=true):TyOk w.length t:=by
 unfold zaK at h;rw[xad] at h;exact zr6 h.2
theorem zve {w:List Data}{t:Ty}{l:List Cl}{i:Nat} (hi:i<l.length) (h:clOk w t (nth l i)=false):zaM w t l=false:=by
 unfold zaM;have:l.any (fun c=> !clOk w t c)=true:=List.any_eq_true.2 ⟨nth l i,zam hi,by rw[h];rfl⟩;rw[this];simp
theorem zo2 {w:List Data}{t:Ty}{l:List Cl} (ht:zaK w t=true) (hl:l.length<=8) (h:∀i,i<l.length->clOk w t (nth l i)=true):zaM w t l=true:=by
 unfold zaM;rw[ht,xax od,Bool.true_and,Bool.true_and,Bool.not_eq_true',List.any_eq_false];intro c hc;obtain⟨i,hi,rfl⟩:=List.getElem_of_mem hc;have:=h i hi;simp only[nth,List.getD,xan hi,Option.getD_some] at this;simp[this]
theorem zty {w:List Data}{t:Ty}{l:List Cl} (h:8<l.length):zaM w t l=false:=by
 unfold zaM;rw[xaw od,Bool.false_and,Bool.and_false]
theorem zvf {w:List Data}{t:Ty}{l:List Cl} (h:zaK w t=false):zaM w t l=false:=by
 unfold zaM;rw[h,Bool.false_and]
theorem zd3 {w:List Data}{t:Ty}{l:List Cl} (h:zaM w t l=true):zaK w t=true/\l.length<=8/\∀i,i<l.length->clOk w t (nth l i)=true:=by
 unfold zaM at h;simp only[xad,xah,Bool.not_eq_true',List.any_eq_false,Bool.not_eq_false'] at h;refine⟨h.1,by omega,fun i hi=>?_⟩;simpa using h.2.2 _ (zam hi)
theorem zc2 {w:List Data}{t:Ty}{c:Cl} (h:clOk w t c=true):isP w t c.pat=true/\zas w 10 t c.pat=true/\zaG w 10 t c.pat=zdb w t c.pat:=by
 unfold clOk at h;rw[xad] at h;refine⟨h.1, ?_,(zhf h.1).symm⟩;have:=h.1;unfold isP at this;simp only[xad] at this;exact this.1
theorem zdD {w:List Data} (hs:WSmall w){a k:Int}{l:List Cl} (hl:ClsOk l) (hz:ClsSz l):
  FnD Tryz.prog 50 [.d (zah w),.agg [.d (.i a),.d (.i k)],.d (zbu l)] [] (.d (.bool (zaM w ⟨a,k⟩ l))) []:=by
 have hll:=hl.1;refine bd Tryz.f50 31 [] [] fun _ _ _ _ hk=>?_;refine bx 3004 ?_;refine ev (wc zny (zeF hs) I I ?_);refine ev ?_;apply sq<;>intro h1 h1p h1s;refine sqT ?_;refine rq ?_;rotate_left;apply sq<;>intro h3 h3p h3s<;>(try simp only[Q,xal] at h3p);refine rq ?_;rotate_left;refine xaA (ι:=Nat) hk (fun i=>[(7,.d (.i (i:Int)))]) [6,17,18,19,20,21,22,23,24,25,26,27,28,29,30] (fun i=>[]) (fun i=>i<=l.length/\∀i',i'<i->clOk w ⟨a,k⟩ (nth l i')=true) (fun i=>l.length-i) 0 ⟨by omega,fun _ h=>absurd h od⟩ ⟨⟨_,I,xaK ?_⟩,O⟩ O (fun x=>rfl) (fun i hg1=>?_);focus (rfl)
 refine evc [] [] ?_;apply sq<;>intro h4 h4p h4s<;>(try simp only[Q,xal] at h4p);refine ixq sl74 I I I (zan od) I ?_;refine evd [] [] (wc zum (zoC (t:=⟨a,k⟩) (c:=nth l i) (zco hs (zcn ol).1) (zoL (zcn ol).1) (ztp ol) (hl.2 _ (zam od)) (hz _ (zam od))) I I ?_);refine evd [] [] (dr ?_);apply sq<;>intro h5 h5p h5s<;>(try simp only[Q,xal] at h5p);refine rq ?_;rotate_left;refine ar (xaj (i+1) ⟨⟨by omega,zbb hg1.2 ol⟩,od,sx ⟨⟨_,I,xaK ?_⟩,O⟩ O⟩);focus (rfl)
 refine rq ?_;rotate_left;all_goals (refine xam D.bool ?_;first|(rw[zvf ol];done)|(rw[zty od];done)|(rw[zve (i:=i) od ol];done)|(rw[zo2 ol od (fun x hx=>hg1.2 x od)];done))
def zbw (s:Str) (a:Int) (c:UInt8):Bool:=decide (0<=a)&&(decide (a<(s.length:Int))&&decide (nth s a.toNat=c))
theorem zg4 {s:Str}{a:Int}{c:UInt8} (h:zbw s a c=true):0<=a/\a<(s.length:Int):=by
 unfold zbw at h;simp only[xad,xah] at h;exact⟨h.1,h.2.1⟩
theorem zaN {s:Str}{a:Int}{c:UInt8} (hs:s.length<=1000000000000):FnD Tryz.prog 192 [.d (.str s),.d (.i a),.d (.int .u8 (c.toNat:Int))] [] (.d (.bool (zbw s a c))) []:=by
 by_cases h0:0<=a
 ·obtain⟨n,rfl⟩:=Int.eq_ofNat_of_zero_le h0;refine bd Tryz.f192 22 [] [] fun _ _ _ _ hk=>?_;apply sq<;>intro h1 h1p h1s;apply sq<;>intro h2 h2p h2s;try simp only[Q,zqv] at h2p
  refine xbF un9 (.some I I h2) I I I I (zaS od) ?_;refine evs [] [(15,true)] ?_ ⟨⟨_,I,h2⟩,O⟩;refine rq ?_;rotate_left;refine rq ?_;rotate_left;refine sqF ?_;refine rq ?_;rotate_left;all_goals (refine xam D.bool ?_;unfold zbw;rw[show decide (nth s ((n:Int)).toNat=c)=decide (((nth s n).toNat:Int)=(c.toNat:Int)) from by rw[decide_eq_decide];exact zqv.symm];first|(simp_all;done)|(simp_all;omega))
 ·have hv:zbw s a c=false:=by unfold zbw;rw[xaw h0];rfl
  rw[hv];refine bd Tryz.f192 22 [] [] fun _ _ _ _ hk=>?_;apply sq<;>intro h1 h1p h1s;exfalso;first|omega|(simp at h1p;omega)
  refine sqF ?_;refine rq ?_;rotate_left;all_goals (first|rfl|(simp_all;done))
def lowL:Str->Nat
 | []=>0
 |x::r=>if zaJ x=true then lowL r+1 else 0
def zax:Str->Nat
 | []=>0
 |x::r=>if zba x=true then lowL r+1 else 0
theorem zpp:∀s:Str,lowL s<=s.length
 | []=>Nat.le_refl _
 |x::r=>by
  have:=zpp r;show(if zaJ x=true then lowL r+1 else 0)<=_
  split<;>simp<;>omega
theorem zgE:∀s:Str,zax s<=s.length
 | []=>Nat.le_refl _
 |x::r=>by
  have:=zpp r;show(if zba x=true then lowL r+1 else 0)<=_
  split<;>simp<;>omega
def zbF (s:Str) (n:Nat):Str:=(s.drop n).take (zax (s.drop n))
theorem zmJ {s:Str}{n e:Nat} (hn:n<=e) (he:e<s.length) (hg:(if e=n then n+zax (s.drop n) else e+lowL (s.drop e))=n+zax (s.drop n))
  (hc:(e=n/\zba (nth s e)=true)\/(n<e/\zaJ (nth s e)=true)):(if e+1=n then n+zax (s.drop n) else e+1+lowL (s.drop (e+1)))=n+zax (s.drop n):=by
 rw[if_neg od];have hd:s.drop e=nth s e::s.drop (e+1):=zbk he;rcases hc with ⟨rfl,h⟩|⟨h1,h⟩
 ·rw[hd,zax,if_pos h];omega
 ·rw[if_neg od,hd,lowL,if_pos h] at hg;omega
theorem zmK {s:Str}{n e:Nat} (hn:n<=e) (he:e<=s.length) (hg:(if e=n then n+zax (s.drop n) else e+lowL (s.drop e))=n+zax (s.drop n))
  (hc:e=s.length\/(e=n/\zba (nth s e)=false)\/(n<e/\zaJ (nth s e)=false)):e=n+zax (s.drop n):=by
 by_cases hl:e=s.length
 ·subst hl;by_cases hen:s.length=n
  ·subst hen;rw[List.drop_length];simp[zax]
  ·rw[if_neg hen,List.drop_length] at hg;simpa [lowL] using hg
 ·have hd:s.drop e=nth s e::s.drop (e+1):=zbk od;rcases hc with h|⟨rfl,h⟩|⟨h1,h⟩
  ·exact absurd h hl
  ·rw[hd,zax,if_neg (by rw[h];simp)];omega
  ·rw[if_neg od,hd,lowL,if_neg (by rw[h];simp)] at hg;omega
theorem zbm {s:Str}{n:Nat} (hs:s.length<=1000000000000) (hn:n<=s.length):FnD Tryz.prog 170 [.d (.str s),.d (.i n)] [] (.tup [.d (.str (zbF s n)),.d (.i ((n+zax (s.drop n):Nat):Int))]) []:=by
 have hle:=zgE (s.drop n);rw[List.length_drop] at hle;have hstop:=fun(e:Nat)=>zmK (s:=s) (n:=n) (e:=e);have hstep:=fun(e:Nat)=>zmJ (s:=s) (n:=n) (e:=e);refine bd Tryz.f170 47 [] [] fun _ _ _ _ hk=>?_;refine xaA (ι:=Nat) hk (fun e=>[(6,.d (.i (e:Int)))]) [8,9,10,11,12,13,14,15,16,17,18,19,20,21,22,23,24,25,26,27,28,29,30,31,32,33,34,35,36,37,38,39,40,41] (fun e=>[]) (fun e=>n<=e/\e<=s.length/\(if e=n then n+zax (s.drop n) else e+lowL (s.drop e))=n+zax (s.drop n)) (fun e=>s.length-e) n ⟨Nat.le_refl _,hn,by rw[if_pos rfl]⟩ ⟨⟨_,I,xaK ?_⟩,O⟩ O (fun x=>rfl) (fun e hg1=>?_);focus (first|rfl|(simp;done)|omega)
 refine evc [] [] ?_;apply sq<;>intro h1 h1p h1s<;>(try simp only[Q,xal] at h1p);apply sq<;>intro h2 h2p h2s<;>(try simp only[Q,xal] at h2p);refine xbF un9 (.some I I h2) I I I I (zaS od) ?_;refine Walk.call (cr:=[]) znG (zfZ (n:=((nth s e).toNat:Int))) I (.some I I h2) I I (LeL.refl _) O I I I (evs [] [(12,true),(16,true)] ?_ ⟨⟨_,I,h1⟩,⟨_,I,h2⟩,O⟩);apply sq<;>intro h3 h3p h3s;try simp only[Q,xal] at h3p
 refine sqT ?_;refine ar (xaj (e+1) ⟨⟨by omega,by omega,hstep e hg1.1 od hg1.2.2 (by exact .inl ⟨by omega,by assumption⟩)⟩,od,sx ⟨⟨_,I,xaK ?_⟩,O⟩ O⟩);focus (first|rfl|(simp;done)|omega)
 apply sq<;>intro h5 h5p h5s;try simp only[Q,xal] at h5p
 refine xbF un9 (.some I I h5) I I I I (zaS od) ?_;refine evs [] [(12,true),(22,false),(26,true)] ?_ ⟨⟨_,I,h1⟩,⟨_,I,h3⟩,⟨_,I,h5⟩,O⟩;apply sq<;>intro h6 h6p h6s;try simp only[Q,xal] at h6p
 refine xbF un9 (.some I I h6) I I I I (zaS od) ?_;refine evs [] [(12,true),(22,false),(32,true)] ?_ ⟨⟨_,I,h1⟩,⟨_,I,h3⟩,⟨_,I,h6⟩,O⟩;apply sq<;>intro h7 h7p h7s;try simp only[Q,xal] at h7p
 refine ar (xaj (e+1) ⟨⟨by omega,by omega,hstep e hg1.1 od hg1.2.2 (by exact .inr ⟨by omega,by unfold zaJ;rw[xad,xah,xah];omega⟩)⟩,od,sx ⟨⟨_,I,xaK ?_⟩,O⟩ O⟩);focus (first|rfl|(simp;done)|omega)
 refine xby un9 .none I I I I I I od od ?_;refine ev (rn0 (r2 I I) (.tup (qee ?_ ?_)));rotate_left 2;refine sqF ?_;refine xby un9 .none I I I I I I od od ?_;refine ev (rn0 (r2 I I) (.tup (qee ?_ ?_)));rotate_left 2;refine sqF ?_;refine sqF ?_;refine xby un9 .none I I I I I I od od ?_;refine ev (rn0 (r2 I I) (.tup (qee ?_ ?_)));rotate_left 2;refine sqF ?_;apply sq<;>intro h10 h10p h10s<;>(try simp only[Q,xal] at h10p);refine xbF un9 (.some I I h10) I I I I (zaS od) ?_;refine evs [] [(12,true),(22,false),(26,true)] ?_ ⟨⟨_,I,h1⟩,⟨_,I,I⟩,⟨_,I,h10⟩,O⟩;apply sq<;>intro h11 h11p h11s<;>(try simp only[Q,xal] at h11p);refine xbF un9 (.some I I h11) I I I I (zaS od) ?_;refine evs [] [(12,true),(22,false),(32,true)] ?_ ⟨⟨_,I,h1⟩,⟨_,I,I⟩,⟨_,I,h11⟩,O⟩;apply sq<;>intro h12 h12p h12s<;>(try simp only[Q,xal] at h12p);refine ar (xaj (e+1) ⟨⟨by omega,by omega,hstep e hg1.1 od hg1.2.2 (by exact .inr ⟨by omega,by unfold zaJ;rw[xad,xah,xah];omega⟩)⟩,od,sx ⟨⟨_,I,xaK ?_⟩,O⟩ O⟩);focus (first|rfl|(simp;done)|omega)
 refine xby un9 .none I I I I I I od od ?_;refine ev (rn0 (r2 I I) (.tup (qee ?_ ?_)));rotate_left 2;refine sqF ?_;refine xby un9 .none I I I I I I od od ?_;refine ev (rn0 (r2 I I) (.tup (qee ?_ ?_)));rotate_left 2;refine sqF ?_;refine sqF ?_;refine xby un9 .none I I I I I I od od ?_;refine ev (rn0 (r2 I I) (.tup (qee ?_ ?_)));rotate_left 2;refine sqF ?_;refine xby un9 .none I I I I I I od od ?_;refine ev (rn0 (r2 I I) (.tup (qee ?_ ?_)));rotate_left 2;all_goals (have hE:=hstop e hg1.1 hg1.2.1 hg1.2.2 (by first|exact .inl od|exact .inr (.inl ⟨by omega,by assumption⟩)|exact .inr (.inr ⟨by omega,by unfold zaJ;rw[Bool.and_eq_false_iff,decide_eq_false_iff_not,decide_eq_false_iff_not];omega⟩));first|(rw[<-hE];done)|(unfold zbF;rw[show e-n=zax (s.drop n) by omega];done)|(unfold zbF;rw[<-zj6,show e-n=zax (s.drop n) by omega];done))
theorem zke {w:List Data} (hw:WT w){a k:Int}{p:Pat} (ht:TyIn w.length ⟨a,k⟩):
  FnD Tryz.prog 183 [.d (zah w),.agg [.d (.i a),.d (.i k)],.agg [.d (.i p.op),.d (.i p.ctor),.d (.i p.n),.d (.i p.m),.d (.i p.var),.d (zau p.kids)]] [] (.d (zbU (zcF w ⟨a,k⟩ p))) []:=by
 have hsh:=zir hw (p:=p) ht;refine bd Tryz.f183 17 [] [] fun _ _ _ _ hk=>?_;refine bx 3004 ?_;refine bx 3005 ?_;refine ev (wc znJ hsh I I ?_);refine ev (rq ?_);rotate_left;all_goals (rfl)
mutual
theorem zqx:∀v:Val,zqw v v=true
 | .mk _ _ ks=>by simp[zqw,zj0 ks]
theorem zj0:∀l:List Val,zlL l l=true
 | []=>rfl
 |v::r=>by simp[zlL,zqx v,zj0 r]
end
theorem Val.c_len (v:Val):v.c.length=3:=by cases v;rfl
theorem Val.cs_rows {l:List Val}:∀x,x∈Val.cs l->x.length=3:=by
 intro x hx;rw[xa8] at hx;obtain⟨y,_,rfl⟩:=List.mem_map.1 hx;exact y.c_len
mutual
def mVal:Val->Nat
 | .mk _ _ ks=>zk9 ks
def zk9:List Val->Nat
 | []=>0
 |v::r=>1+mVal v+zk9 r
end
mutual
def Val.szM:Val->Int
 | .mk _ _ ks=>2+Vals.szM ks
def Vals.szM:List Val->Int
 | []=>0
 |v::r=>v.szM+Vals.szM r
end
mutual
def Val.one (k:Int):Val->Val
 | .mk _ _ ks=> .mk k (k+1) (Vals.one (k+1+1) ks)
def Vals.one (k:Int):List Val->List Val
 | []=>[]
 |v::r=>v.one k::Vals.one (k+v.szM) r
end
mutual
theorem Val.szM_nn:∀v:Val,0<=v.szM
 | .mk _ _ ks=>by have:=xbf ks;simp only[Val.szM];omega
theorem xbf:∀l:List Val,0<=Vals.szM l
 | []=>by simp[Vals.szM]
 |v::r=>by have:=Val.szM_nn v;have:=xbf r;simp only[Vals.szM];omega
end
mutual
theorem Val.szM_le:∀v:Val,v.szM<=2+2*(mVal v:Int)
 | .mk _ _ ks=>by have:=xbe ks;simp only[Val.szM,mVal];omega
theorem xbe:∀l:List Val,Vals.szM l<=2*(zk9 l:Int)
 | []=>by simp[Vals.szM,zk9]
 |v::r=>by have:=Val.szM_le v;have:=xbe r;simp only[Vals.szM,zk9];omega
end
def zs6 (w:List Data):Nat->Ty->Val->Bool
 |0,_,_=>false
 |n+1,t,v=>if t.data = -1 then decide (v.ctor = -1)&&(decide (0<=v.num)&&(decide (v.num<=9)&&decide (v.kids.length=0)))
   else if v.num=0/\v.ctor∈za8 w t then all2 (zs6 w n) (zae w t v.ctor) v.kids else false
mutual
def cntV (m:Int):Val->Int
 | .mk _ _ ks=>cntL m 1 ks
def cntL (m n:Int):List Val->Int
 | []=>n
 |k::r=>if n<=m then cntL m (n+cntV (m-n) k) r else n
end
theorem zq1 {m n:Int}{l:List Val} (h:¬n<=m):cntL m n l=n:=by cases l<;>simp[cntL,h]
mutual
theorem zo7:∀(v:Val) (m:Int),1<=cntV m v/\cntV m v<=v.size
 | .mk _ _ ks,m=>by
  have:=zlS ks m 1 od;simp only[cntV,Val.size];push_cast;omega
theorem zlS:∀(l:List Val) (m n:Int),1<=n->1<=cntL m n l/\cntL m n l<=n+Vals.size l
 | [],m,n,h=>by simp[cntL,Vals.size];omega
 |k::r,m,n,h=>by
  have h1:=zo7 k (m-n);have h2:=zlS r m (n+cntV (m-n) k) od;simp only[cntL,Vals.size];split
  ·push_cast;omega
  ·push_cast;omega
end
mutual
theorem zsg:∀(v:Val) (m:Int),(cntV m v<=m↔(v.size:Int)<=m)/\(cntV m v<=m->cntV m v=v.size)
 | .mk _ _ ks,m=>by
  have:=znP ks m 1;simp only[cntV,Val.size];push_cast;exact this
theorem znP:∀(l:List Val) (m n:Int),(cntL m n l<=m↔n+(Vals.size l:Int)<=m)/\(cntL m n l<=m->cntL m n l=n+Vals.size l)
 | [],m,n=>by simp[cntL,Vals.size]
 |k::r,m,n=>by
  have h1:=zsg k (m-n);have h2:=znP r m (n+cntV (m-n) k);have h3:=zlS r m (n+cntV (m-n) k);have h4:=zo7 k (m-n);simp only[cntL,Vals.size];push_cast
  by_cases hn:n<=m
  ·rw[if_pos hn];by_cases h5:cntV (m-n) k<=m-n
   ·have h6:=h1.2 h5;rw[h6] at h2 ⊢;constructor
    ·rw[h2.1];constructor<;>intro h<;>omega
    ·intro h;rw[h2.2 h];omega
   ·have h7:¬(k.size:Int)<=m-n:=fun h=>h5 (h1.1.2 h);have h8:¬n+cntV (m-n) k<=m:=by omega
    rw[zq1 h8];constructor
    ·constructor<;>intro h<;>omega
    ·intro h;omega
  ·rw[if_neg hn];constructor
   ·constructor<;>intro h<;>omega
   ·intro h;omega
end
theorem Vals.size_split {pre rest l:List Val}{y:Val} (h:pre++y::rest=l):Vals.size l=Vals.size pre+y.size+Vals.size rest:=by
 subst h;induction pre with
 |nil=>simp[Vals.size]
 |cons x r ih=>simp only[xai,Vals.size,ih];omega
structure Bd where
 var:Int
 val:Val
def Bd.c (b:Bd):List D:=[.i b.var,.i b.val.ctor,.i b.val.num,zjx b.val.kids]
instance:Inhabited Bd:=⟨⟨0,default⟩⟩
def BdOk (m:Nat) (l:List Bd):Prop:=∀x∈l,x.val.ok/\x.val.size<=m
theorem BdOk.app {m:Nat}{a b:List Bd} (h1:BdOk m a) (h2:BdOk m b):BdOk m (a++b):=fun x hx=>by
 rcases List.mem_append.1 hx with h|h
 ·exact h1 x h
 ·exact h2 x h
theorem BdOk.mono {m k:Nat}{a:List Bd} (h:BdOk m a) (hk:m<=k):BdOk k a:=fun x hx=>⟨(h x hx).1,Nat.le_trans (h x hx).2 hk⟩
theorem zvK {w:List Data}{t:Ty}{p:Pat} (h:p.op=5):zab w t p=[t,t]:=by unfold zab;rw[if_neg od,if_pos h]
theorem zvL {w:List Data}{t:Ty}{p:Pat} (h:p.op=6):zab w t p=[t]:=by unfold zab;rw[if_neg od,if_neg od,if_pos h]
theorem zrU {w:List Data}{n:Nat}{t:Ty}{p:Pat} (h:zas w (n+1) t p=true) (h5:p.op=5):p.kids.length=2/\zas w n t (nth p.kids 0)=true/\zas w n t (nth p.kids 1)=true:=by
 have hl:=(zce h).2;have h0:=fun i hi=>zbs h (i:=i) hi;rw[zvK h5] at hl h0;have hl':p.kids.length=2:=hl;exact⟨hl',h0 0 od,h0 1 od⟩
theorem zrT {w:List Data}{n:Nat}{t:Ty}{p:Pat} (h:zas w (n+1) t p=true) (h6:p.op=6):p.kids.length=1/\zas w n t (nth p.kids 0)=true:=by
 have hl:=(zce h).2;have h0:=fun i hi=>zbs h (i:=i) hi;rw[zvL h6] at hl h0;have hl':p.kids.length=1:=hl;exact⟨hl',h0 0 od⟩
abbrev anyQ:Pat:= .mk 1 0 0 0 0 []
abbrev zdG:Pat:= .mk 0 0 0 0 0 []
mutual
def zhP:Pat->Pat
 | .mk op c n m v ks=>if op=2 then anyQ else if op=6/\ks≠[] then zk3 ks else .mk op c n m v (zhO ks)
def zk3:List Pat->Pat
 | []=>anyQ
 |k::_=>zhP k
def zhO:List Pat->List Pat
 | []=>[]
 |k::r=>zhP k::zhO r
end
theorem znv:∀l:List Pat,zhO l=l.map zhP
 | []=>rfl
 |k::r=>by simp[zhO,znv r]
def zv8 (out:List (List Pat)) (l:List Pat):List (List Pat):=out.flatMap fun q=>l.map fun c=>q++[c]
def zv2 (ls:List (List Pat)):List (List Pat):=ls.foldl zv8 [[]]
mutual
def zoD:Pat->List Pat
 | .mk op c n m v ks=>if op=5 then zvJ ks else (zv2 (zpO ks)).map fun l=> .mk op c n m v l
def zvJ:List Pat->List Pat
 | []=>[]
 |a::r=>zoD a++zt6 r
def zt6:List Pat->List Pat
 | []=>[]
 |b::_=>zoD b
def zpO:List Pat->List (List Pat)
 | []=>[]
 |k::r=>zoD k::zpO r
end
mutual
def cntS:Pat->Int
 | .mk op _ _ _ _ ks=>if op=5 then cntO ks 0 else cntM ks 1
def cntO:List Pat->Int->Int
 | [],n=>n
 |k::r,n=>cntO r (cap (n+cntS k))
def cntM:List Pat->Int->Int
 | [],n=>n
 |k::r,n=>cntM r (cap (n*cntS k))
end
mutual
theorem zo6:∀p:Pat,0<=cntS p/\cntS p<=401
 | .mk op _ _ _ _ ks=>by
  unfold cntS;split
  ·exact zo5 ks 0 od od
  ·exact zo4 ks 1 od od
theorem zo5:∀(l:List Pat) (n:Int),0<=n->n<=401->0<=cntO l n/\cntO l n<=401
 | [],n,h1,h2=>⟨h1,h2⟩
 |k::r,n,h1,h2=>by
  unfold cntO;have h3:=zo6 k;have h4:=zqW (x:=n+cntS k) od;exact zo5 r _ h4.1 h4.2
theorem zo4:∀(l:List Pat) (n:Int),0<=n->n<=401->0<=cntM l n/\cntM l n<=401
 | [],n,h1,h2=>⟨h1,h2⟩
 |k::r,n,h1,h2=>by
  unfold cntM;have h3:=zo6 k;have h4:=zqW (x:=n*cntS k) (Int.mul_nonneg h1 h3.1);exact zo4 r _ h4.1 h4.2
end
mutual
theorem zo0:∀p:Pat,p.ok->(zhP p).ok
 | .mk op c n m v ks,h=>by
  unfold zhP;split
  ·exact⟨by simp,trivial⟩
  ·split
   ·exact zso ks h.2
   ·exact⟨by rw[znv,xac];exact h.1,znw ks h.2⟩
theorem zso:∀l:List Pat,Pats.ok l->(zk3 l).ok
 | [],_=>⟨by simp,trivial⟩
 |k::r,h=>zo0 k h.1
theorem znw:∀l:List Pat,Pats.ok l->Pats.ok (zhO l)
 | [],_=>trivial
 |k::r,h=>⟨zo0 k h.1,znw r h.2⟩
end
mutual
theorem zmr:∀p:Pat,(zhP p).size<=p.size
 | .mk op c n m v ks=>by
  unfold zhP;split
  ·simp[anyQ,Pat.size,Pats.size]
  ·split
   ·have:=zp8 ks;simp only[Pat.size];omega
   ·have:=zkB ks;simp only[Pat.size];omega
theorem zp8:∀l:List Pat,(zk3 l).size<=1+Pats.size l
 | []=>by simp[zk3,anyQ,Pat.size,Pats.size]
 |k::r=>by have:=zmr k;simp only[zk3,Pats.size];omega
theorem zkB:∀l:List Pat,Pats.size (zhO l)<=Pats.size l
 | []=>Nat.le_refl _
 |k::r=>by have:=zmr k;have:=zkB r;simp only[zhO,Pats.size];omega
end
def zgA (env:Env) (hp:Hp) (j:Nat):Bool:=
 (match getH hp j with|none=>true|some _=>false)&&(env.all fun x=>match getE env x.1 with|some v=> !zaB j v.ids|none=>true)&&(hp.all fun x=>match getH hp x.1 with|some r=> !zaB j r.ids|none=>true)
theorem zn5:∀ {env:Env}{i:Nat}{v:AV},getE env i=some v->∃u,(i,u)∈env
 |(k,x)::r,i,v,h=>by
  simp only[getE] at h;cases hb:Nat.beq k i with
  |true=>obtain rfl:=xap hb;exact⟨x,by simp⟩
  |false=>
   simp only[hb,cond_false] at h;obtain⟨u,hu⟩:=zn5 h;exact⟨u,List.mem_cons_of_mem _ hu⟩
theorem zev {env:Env}{hp:Hp}{j:Nat} (h:zgA env hp j=true):getH hp j=none/\zcI j ⟨env,hp⟩:=by
 simp only[zgA,xad,List.all_eq_true] at h;obtain⟨⟨h1,h2⟩,h3⟩:=h;refine⟨?_,fun i v hv hm=>?_,fun i r hr hm=>?_⟩
 ·cases hg:getH hp j with
  |none=>rfl
  |some x=>simp[hg] at h1
 ·obtain⟨u,hu⟩:=zn5 hv;have:=h2 _ hu;rw[show getE env (i,u).1=some v from hv] at this;change (!zaB j v.ids)=true at this
  rw[zat.2 hm] at this;cases this
 ·obtain⟨u,hu⟩:=zh2 hr;have:=h3 _ hu;rw[show getH hp (i,u).1=some r from hr] at this;change (!zaB j r.ids)=true at this
  rw[zat.2 hm] at this;cases this
theorem Val.cs_cc (l:List Val):Val.cs l=l.map Val.cc:=by
 rw[xa8];exact List.map_congr_left (fun v _=>Val.c_eq v)
theorem xaQ (l:List Pat):Pat.cs l=l.map Pat.cc:=by
 rw[xaR];exact List.map_congr_left (fun v _=>xaM v)
theorem zeO (l:List Pat):∀x∈l.map Pat.cc,x.length=6:=fun x hx=>by
 obtain⟨y,_,rfl⟩:=List.mem_map.1 hx;rfl
def za6 (w:List Data) (t:Ty) (k:Int):Str:=(nth (nth w t.data.toNat).ctors k.toNat).name
def isNm (w:List Data) (t:Ty) (s:Str) (k:Int):Bool:=decide (za6 w t k=s)
def nmV (w:List Data) (t:Ty) (s:Str):Int:=((zao w t).find? (isNm w t s)).getD (-1)
theorem zgr {w:List Data}{t:Ty}{s:Str} (h:¬nmV w t s<0):nmV w t s∈zao w t:=by
 unfold nmV at h ⊢;cases e:(zao w t).find? (isNm w t s) with
 |none=>rw[e] at h;simp at h
 |some k=>exact List.mem_of_find?_eq_some e
theorem zml {w:List Data} (hw:WT w){a k:Int} (ht:TyIn w.length ⟨a,k⟩){s:Str}:
  FnD Tryz.prog 171 [.d (zah w),.agg [.d (.i a),.d (.i k)],.d (.str s)] [] (.d (.i (nmV w ⟨a,k⟩ s))) []:=by
 have hct:=zb4 hw ht;have hpl:=fun(c:Int) (h:c∈zao w ⟨a,k⟩)=>zbc ht h;have hcl:=zeq hw ht;have hnm:∀(d m:Nat),a=d->(za6 w ⟨a,k⟩ (m:Int))=(nth (nth w d).ctors m).name:=fun d m h=>by unfold za6;subst h;rfl
 have hdef:nmV w ⟨a,k⟩ s=((zao w ⟨a,k⟩).find? (isNm w ⟨a,k⟩ s)).getD (-1):=rfl;rw[hdef];have hisn:∀c,isNm w ⟨a,k⟩ s c=decide (za6 w ⟨a,k⟩ c=s):=fun _=>rfl;generalize zao w ⟨a,k⟩=l at *;refine bd Tryz.f171 37 [] [] fun _ _ _ _ hk=>?_;refine bx 3004 ?_;refine ev (wc zfM hct I I ?_);refine ev (xaA (ι:=List (Int)×List (Int)) hk (fun x=>[(8,.d (.i (x.1.length:Int)))]) [6,12,13,14,15,16,17,18,19,20,21,22,23,24,25,26,27,28,29,30,31,32,33,34,35,36] (fun x=>[]) (fun x=>x.1++x.2=l/\x.2.find? (isNm w ⟨a,k⟩ s)=l.find? (isNm w ⟨a,k⟩ s)) (fun x=>x.2.length) ([],l) ⟨by simp,I⟩ ⟨⟨_,I,xaK ?_⟩,O⟩ O (fun x=>rfl) (fun x hg1=>?_));focus (rfl)
 obtain⟨pre,rest⟩:=x;dsimp only at hg1 ⊢;refine evc [] [] ?_;apply sq<;>intro h1 h1p h1s<;>(try simp only[Q,xal] at h1p);rcases rest with _|⟨y,rest⟩
 ·exfalso;simp_all
 refine xbB (i:=(hpl y (by rw[<-hg1.1];simp)).choose) sl23 .none I I I (hpl y (by rw[<-hg1.1];simp)).choose_spec.1 (zan (hpl y (by rw[<-hg1.1];simp)).choose_spec.2.1) I ?_;refine evd [] [] (ixq zaZ I I I (zaE hg1.1) I (evd [] [] (xbB (i:=(hpl y (by rw[<-hg1.1];simp)).choose_spec.2.2.choose) zbx .none I I I (hpl y (by rw[<-hg1.1];simp)).choose_spec.2.2.choose_spec.1 (zan (hpl y (by rw[<-hg1.1];simp)).choose_spec.2.2.choose_spec.2) I ?_)));refine evd [] [] (dr ?_);apply sq<;>intro h2 h2p h2s<;>(try simp only[Q,xal] at h2p);refine ixq zaZ I I I (zaE hg1.1) I (ev (rq ?_));rotate_left;refine ar (xaj ((pre++[y],rest)) ⟨⟨(by have hz:=hg1.1;rw[<-hz];simp),(by rw[<-hg1.2,List.find?_cons_of_neg];rw[hisn,(hpl y (by rw[<-hg1.1];simp)).choose_spec.2.2.choose_spec.1,hnm _ _ (hpl y (by rw[<-hg1.1];simp)).choose_spec.1];simp_all)⟩,oe,sx ⟨⟨_,I,xaK ?_⟩,O⟩ O⟩);focus ((simp;done))
 have hrest:rest=[]:=by
  rcases rest with _|⟨a,b⟩
  ·rfl
  ·exfalso;have hz:=xam List.length (hg1.1);simp only[xaa,xab,xac] at hz;omega
 subst hrest;refine rq ?_;rotate_left;all_goals ((refine xam D.i ?_;rw[<-hg1.2];first|rfl|(rw[List.find?_cons_of_pos (by rw[hisn,(hpl y (by rw[<-hg1.1];simp)).choose_spec.2.2.choose_spec.1,hnm _ _ (hpl y (by rw[<-hg1.1];simp)).choose_spec.1];simp_all)];rfl)))
def za9 (x:UInt8):Bool:=decide (48<=(x.toNat:Int))&&decide ((x.toNat:Int)<=57)
def digV (s:Str) (n:Nat):Int:=((nth s n).toNat:Int)-48
def intP (s:Str) (n:Nat):Pat×Int:=
 if zbw s ((n:Int)+1) 45=true/\n+2<s.length/\za9 (nth s (n+2))=true then (.mk 3 0 (digV s n) (digV s (n+2)) 0 [],(n:Int)+3)
 else (.mk 3 0 (digV s n) (digV s n) 0 [],(n:Int)+1)
theorem zpa {x:UInt8} (h:za9 x=true):IntKind.i64.wrap (IntKind.u8.wrap ((x.toNat:Int)-48))=(x.toNat:Int)-48:=by
 unfold za9 at h;rw[xad,xah,xah] at h;exact zkW od od
theorem zne {s:Str}{n:Nat} (hs:s.length<=1000000000000) (hn:n<s.length) (hd:za9 (nth s n)=true):
  FnD Tryz.prog 190 [.d (.str s),.d (.i n)] [] (.tup [.agg [.d (.i (intP s n).1.op),.d (.i (intP s n).1.ctor),.d (.i (intP s n).1.n),.d (.i (intP s n).1.m),.d (.i (intP s n).1.var),.d (zau (intP s n).1.kids)],.d (.i (intP s n).2)]) []:=by
 have w1:=zpa hd;by_cases hc:zbw s ((n:Int)+1) 45=true/\n+2<s.length/\za9 (nth s (n+2))=true
 ·have w2:=zpa hc.2.2;have e:intP s n=(.mk 3 0 (digV s n) (digV s (n+2)) 0 [],(n:Int)+3):=by unfold intP;rw[if_pos hc]
  rw[e];obtain⟨c1,c2,c3⟩:=hc;have hsg:=zaN (s:=s) (a:=(n:Int)+1) (c:=45) hs;rw[c1] at hsg;unfold za9 at c3;rw[xad,xah,xah] at c3;refine bd Tryz.f190 52 [10,42] [] fun _ _ _ _ hk=>?_;refine ab 3004 tz60 ?_;refine evs [10,42] [] (xbF un9 .none I I I I (zaS od) ?_);refine xbX .none I I I (xbv oy un3 .none I I ?_);refine evs [10,42] [] (ar (wc zb8 hsg I I ?_));refine evs [10,42] [] ?_;apply sq<;>intro h1 h1p h1s;refine ar ?_;apply sq<;>intro h2 h2p h2s;refine ar (xbF (i:=((n+2:Nat))) un9 (.some I I h2) I I I od (zaS od) ?_);refine evs [10,42] [(23,true)] ?_ ⟨⟨_,I,h2⟩,O⟩;apply sq<;>intro h3 h3p h3s;refine ar (xbF (i:=((n+2:Nat))) un9 (.some I I h3) I I I od (zaS od) ?_);refine evs [10,42] [(30,true)] ?_ ⟨⟨_,I,h3⟩,O⟩;apply sq<;>intro h4 h4p h4s;refine ar (xbF (i:=((n+2:Nat))) un9 .none I I I od (zaS od) ?_);refine xbX .none I I I (xbv oy un3 .none I I ?_);refine bu [0,2,3] [_,_,_] st60 ?_;refine evs [10,42] [] (ar (so ty60 ?_));refine evs [10,42] [] (rn0 (rc ty60) (.tup (.cons (.agg (qeeeeen ?_ ?_ ?_ ?_ ?_ ?_)) (qe ?_))));rotate_left 7;try simp only[Q,xal] at h4p
  focus (exfalso;omega)
  try simp only[Q,xal] at h3p
  refine sqF ?_;focus (exfalso;omega)
  try simp only[Q,xal] at h2p
  refine sqF ?_;refine sqF ?_;focus (exfalso;omega)
  refine sqF ?_;refine sqF ?_;refine sqF ?_;focus (exfalso;contradiction)
  all_goals (first|rfl|(refine xam D.i ?_;first|rfl|omega|exact w1|exact w2))
 ·have e:intP s n=(.mk 3 0 (digV s n) (digV s n) 0 [],(n:Int)+1):=by unfold intP;rw[if_neg hc]
  rw[e];have hsg:=zaN (s:=s) (a:=(n:Int)+1) (c:=45) hs;have hdg:∀x:UInt8,za9 x=(decide (48<=(x.toNat:Int))&&decide ((x.toNat:Int)<=57)):=fun _=>rfl;have hno:zbw s ((n:Int)+1) 45=true->n+2<s.length->48<=((nth s (n+2)).toNat:Int)->((nth s (n+2)).toNat:Int)<=57->False:=fun h1 h2 h3 h4=>hc ⟨h1,h2,by rw[hdg,xad,xah,xah];exact⟨h3,h4⟩⟩;refine bd Tryz.f190 52 [10] [] fun _ _ _ _ hk=>?_;refine ab 3004 tz60 ?_;refine evs [10] [] (xbF un9 .none I I I I (zaS od) ?_);refine xbX .none I I I (xbv oy un3 .none I I ?_);refine evs [10] [] (ar (wc zb8 hsg I I ?_));refine evs [10] [] ?_;apply sq<;>intro h1 h1p h1s;refine ar ?_;apply sq<;>intro h2 h2p h2s;try simp only[Q,xal] at h2p
  refine ar (xbF (i:=((n+2:Nat))) un9 (.some I I h2) I I I od (zaS od) ?_);refine evs [10] [(23,true)] ?_ ⟨⟨_,I,h2⟩,O⟩;apply sq<;>intro h3 h3p h3s;try simp only[Q,xal] at h3p
  refine ar (xbF (i:=((n+2:Nat))) un9 (.some I I h3) I I I od (zaS od) ?_);refine evs [10] [(30,true)] ?_ ⟨⟨_,I,h3⟩,O⟩;apply sq<;>intro h4 h4p h4s;try simp only[Q,xal] at h4p
  exfalso;exact hno ol od od od;refine bu [0,2,3] [_,_,_] st60 ?_;refine evs [10] [] (ar (so ty60 ?_));refine evs [10] [] (rn0 (rc ty60) (.tup (.cons (.agg (qeeeeen ?_ ?_ ?_ ?_ ?_ ?_)) (qe ?_))));rotate_left 7;refine sqF ?_;refine bu [0,2,3] [_,_,_] st60 ?_;refine evs [10] [] (ar (so ty60 ?_));refine evs [10] [] (rn0 (rc ty60) (.tup (.cons (.agg (qeeeeen ?_ ?_ ?_ ?_ ?_ ?_)) (qe ?_))));rotate_left 7;refine sqF ?_;refine sqF ?_;refine bu [0,2,3] [_,_,_] st60 ?_;refine evs [10] [] (ar (so ty60 ?_));refine evs [10] [] (rn0 (rc ty60) (.tup (.cons (.agg (qeeeeen ?_ ?_ ?_ ?_ ?_ ?_)) (qe ?_))));rotate_left 7;refine sqF ?_;refine sqF ?_;refine sqF ?_;refine bu [0,2,3] [_,_,_] st60 ?_;refine evs [10] [] (ar (so ty60 ?_));refine evs [10] [] (rn0 (rc ty60) (.tup (.cons (.agg (qeeeeen ?_ ?_ ?_ ?_ ?_ ?_)) (qe ?_))));rotate_left 7;all_goals (first|rfl|(refine xam D.i ?_;first|rfl|omega|exact w1))
def kidL (f:Ty->Int->Pat×Int) (s:Str):List Ty->List UInt8->Int->Option (List Pat×Int)
 | [],_,a=>some ([],a)
 |_::_,[],_=>none
 |t::ts,c::cs,a=>if zbw s a c=true then (match kidL f s ts cs (f t (a+1)).2 with|none=>none|some r=>some ((f t (a+1)).1::r.1,r.2)) else none
def kidV (f:Ty->Int->Pat×Int) (s:Str) (ts:List Ty) (sg:List UInt8) (a:Int):List Pat×Int:=(kidL f s ts sg a).getD ([],-1)
def zaA (w:List Data) (s:Str):Nat->Ty->Int->Pat×Int
 |0,_,_=>(zdG,-1)
 |n+1,t,a=>
  if a<0\/(s.length:Int)<=a then (zdG,-1)
  else if nth s a.toNat=95 then (.mk 1 0 0 0 0 [],a+1)
  else if za9 (nth s a.toNat)=true then intP s a.toNat
  else if nth s a.toNat=40 then (if zbw s (kidV (zaA w s n) s [t,t] [40,124] a).2 41=true then (.mk 5 0 0 0 0 (kidV (zaA w s n) s [t,t] [40,124] a).1,(kidV (zaA w s n) s [t,t] [40,124] a).2+1) else (zdG,-1))
  else if zaJ (nth s a.toNat)=true/\zbw s (a+1) 64=true then (.mk 6 0 0 0 (((nth s a.toNat).toNat:Int)-97) (kidV (zaA w s n) s [t] [64] (a+1)).1,(kidV (zaA w s n) s [t] [64] (a+1)).2)
  else if zaJ (nth s a.toNat)=true then (.mk 2 0 0 0 (((nth s a.toNat).toNat:Int)-97) [],a+1)
  else if nmV w t (zbF s a.toNat)<0 then (zdG,-1)
  else if (zae w t (nmV w t (zbF s a.toNat))).length=0 then (.mk 4 (nmV w t (zbF s a.toNat)) 0 0 0 (kidV (zaA w s n) s (zae w t (nmV w t (zbF s a.toNat))) [40,44,44] ((a.toNat+zax (s.drop a.toNat):Nat):Int)).1,(kidV (zaA w s n) s (zae w t (nmV w t (zbF s a.toNat))) [40,44,44] ((a.toNat+zax (s.drop a.toNat):Nat):Int)).2)
  else if zbw s (kidV (zaA w s n) s (zae w t (nmV w t (zbF s a.toNat))) [40,44,44] ((a.toNat+zax (s.drop a.toNat):Nat):Int)).2 41=true then (.mk 4 (nmV w t (zbF s a.toNat)) 0 0 0 (kidV (zaA w s n) s (zae w t (nmV w t (zbF s a.toNat))) [40,44,44] ((a.toNat+zax (s.drop a.toNat):Nat):Int)).1,(kidV (zaA w s n) s (zae w t (nmV w t (zbF s a.toNat))) [40,44,44] ((a.toNat+zax (s.drop a.toNat):Nat):Int)).2+1)
  else (zdG,-1)
def EndIn (s:Str) (a:Int):Prop:= -1<=a/\a<=(s.length:Int)
theorem zsq {s:Str}{n:Nat} (hn:n<s.length):EndIn s (intP s n).2:=by
 unfold intP EndIn;split
 ·rename_i h;have:=h.2.1;dsimp only;omega
 ·dsimp only;omega
theorem zoa {f:Ty->Int->Pat×Int}{s:Str} (hf:∀t a,EndIn s (f t a).2):∀(ts:List Ty) (sg:List UInt8) (a:Int),EndIn s a->∀r,kidL f s ts sg a=some r->EndIn s r.2/\r.1.length=ts.length
 | [],_,a,ha,r,h=>by rw[kidL] at h;cases h;exact⟨ha,rfl⟩
 |_::_,[],_,_,r,h=>by rw[kidL] at h;cases h
 |t::ts,c::cs,a,ha,r,h=>by
  rw[kidL] at h;split at h
  ·cases e:kidL f s ts cs (f t (a+1)).2 with
   |none=>rw[e] at h;cases h
   |some r2=>
    rw[e] at h;cases h;have:=zoa hf ts cs _ (hf t (a+1)) r2 e;exact⟨this.1,by simp[this.2]⟩
  ·cases h
theorem zh9 {f:Ty->Int->Pat×Int}{s:Str} (hf:∀t a,EndIn s (f t a).2){ts:List Ty}{sg:List UInt8}{a:Int} (ha:EndIn s a):EndIn s (kidV f s ts sg a).2:=by
 unfold kidV;cases e:kidL f s ts sg a with
 |none=>exact⟨Int.le_refl _,by simp[Option.getD]<;>omega⟩
 |some r=>exact(zoa hf ts sg a ha r e).1
theorem zki {s:Str}{a:Int} (h0:0<=a) (h1:a<(s.length:Int)):EndIn s ((a.toNat+zax (s.drop a.toNat):Nat):Int):=by
 have:=zgE (s.drop a.toNat);rw[List.length_drop] at this;exact⟨by omega,by omega⟩
theorem zga {w:List Data}{s:Str}:∀(n:Nat) (t:Ty) (a:Int),EndIn s (zaA w s n t a).2
 |0,_,_=>⟨by simp[zaA],by simp[zaA]<;>omega⟩
 |n+1,t,a=>by
  have ih:=zga (w:=w) (s:=s) n;have z:EndIn s ((zdG,(-1:Int)):Pat×Int).2:=⟨Int.le_refl _,by dsimp only;omega⟩;unfold zaA;split
  ·exact z
  rename_i ha;have ha0:0<=a:=by omega
  have ha1:a<(s.length:Int):=by omega
  have hst:∀ {b:Int},zbw s b 41=true->EndIn s (b+1):=fun h=>by have:=zg4 h;exact⟨by omega,by omega⟩
  split
  ·exact⟨by dsimp only;omega,by dsimp only;omega⟩
  split
  ·exact zsq od
  split
  ·split
   ·rename_i h;exact hst h
   ·exact z
  split
  ·rename_i h;exact zh9 ih (by have:=zg4 h.2;exact⟨by omega,by omega⟩)
  split
  ·exact⟨by dsimp only;omega,by dsimp only;omega⟩
  split
  ·exact z
  split
  ·exact zh9 ih (zki ha0 ha1)
  split
  ·rename_i h;exact hst h
  ·exact z
theorem zmF {f:Ty->Int->Pat×Int}{s:Str}{ts:List Ty}{sg:List UInt8}{i:Nat}{a:Int} (hi:i<ts.length) (hg:ts.length<=sg.length):
  kidL f s (ts.drop i) (sg.drop i) a=if zbw s a (nth sg i)=true then (match kidL f s (ts.drop (i+1)) (sg.drop (i+1)) (f (nth ts i) (a+1)).2 with|none=>none|some r=>some ((f (nth ts i) (a+1)).1::r.1,r.2)) else none:=by
 rw[zbk hi,zbk (show i<sg.length by omega),kidL]
def addK (acc:List Pat):Option (List Pat×Int)->Option (List Pat×Int)
 |none=>none
 |some r=>some (acc++r.1,r.2)
theorem zsa (o:Option (List Pat×Int)):addK [] o=o:=by cases o<;>rfl
theorem zst {f:Ty->Int->Pat×Int}{s:Str}{ts:List Ty}{sg:List UInt8}{i:Nat}{a:Int}{acc:List Pat}{o:Option (List Pat×Int)} (hi:i<ts.length) (hg:ts.length<=sg.length)
  (h:addK acc (kidL f s (ts.drop i) (sg.drop i) a)=o) (hs:zbw s a (nth sg i)=true):
  addK (acc++[(f (nth ts i) (a+1)).1]) (kidL f s (ts.drop (i+1)) (sg.drop (i+1)) (f (nth ts i) (a+1)).2)=o:=by
 rw[<-h,zmF hi hg,if_pos hs];cases kidL f s (ts.drop (i+1)) (sg.drop (i+1)) (f (nth ts i) (a+1)).2 with
 |none=>rfl
 |some r=>simp[addK]
theorem ztL {f:Ty->Int->Pat×Int}{s:Str}{ts:List Ty}{sg:List UInt8}{i:Nat}{a:Int}{acc:List Pat}{o:Option (List Pat×Int)} (hi:i<ts.length) (hg:ts.length<=sg.length)
  (h:addK acc (kidL f s (ts.drop i) (sg.drop i) a)=o) (hs:zbw s a (nth sg i)=false):o=none:=by
 rw[<-h,zmF hi hg,if_neg (by rw[hs];simp)];rfl
theorem ztM {f:Ty->Int->Pat×Int}{s:Str}{ts:List Ty}{sg:List UInt8}{i:Nat}{a:Int}{acc:List Pat}{o:Option (List Pat×Int)} (hi:ts.length<=i)
  (h:addK acc (kidL f s (ts.drop i) (sg.drop i) a)=o):o=some (acc,a):=by
 rw[<-h,List.drop_eq_nil_of_le hi,kidL];simp[addK]
theorem ox{p:Prop}(h:p:=by intro x hx;simp at hx;subst hx;rfl):p:=h
theorem znf {w:List Data}{s:Str} (hs:s.length<=1000000000000 / 2){ts:List Ty}{sg:List UInt8} (hg:ts.length<=sg.length) (hg2:sg.length<=3){a0 dep:Int} (ha0:EndIn s a0){f:Ty->Int->Pat×Int} (hfe:∀t a,EndIn s (f t a).2)
  (hf:∀t∈ts,∀a,EndIn s a->FnD Tryz.prog 106 [.d (zah w),.agg [.d (.i t.data),.d (.i t.index)],.d (.str s),.d (.i a),.d (.i dep)] [] (.tup [.agg [.d (.i (f t a).1.op),.d (.i (f t a).1.ctor),.d (.i (f t a).1.n),.d (.i (f t a).1.m),.d (.i (f t a).1.var),.d (zau (f t a).1.kids)],.d (.i (f t a).2)]) []):
  FnD Tryz.prog 191 [.d (zah w),.d (zbU ts),.d (zbP sg),.d (.str s),.d (.i a0),.d (.i dep)] [] (.tup [.d (zau (kidV f s ts sg a0).1),.d (.i (kidV f s ts sg a0).2)]) []:=by
 unfold kidV;generalize ho:kidL f s ts sg a0=o;have hsl:s.length<=1000000000000:=by omega
 have hbad:=fun(i:Nat) (a:Int) (acc:List Pat)=>ztL (f:=f) (s:=s) (ts:=ts) (sg:=sg) (i:=i) (a:=a) (acc:=acc) (o:=o);have hend:=fun(i:Nat) (a:Int) (acc:List Pat)=>ztM (f:=f) (s:=s) (ts:=ts) (sg:=sg) (i:=i) (a:=a) (acc:=acc) (o:=o);have hnext:=fun(i:Nat) (a:Int) (acc:List Pat)=>zst (f:=f) (s:=s) (ts:=ts) (sg:=sg) (i:=i) (a:=a) (acc:=acc) (o:=o);refine bd Tryz.f191 53 [] [] fun _ _ _ _ hk=>?_;refine xbS 1 sl58 .none I I (ev (xaA (ι:=Nat×List Pat×Int) hk (fun x=>[(15,.d (.i (x.1:Int))),(14,.gl 1 (x.2.1.map Pat.cc)),(4,.d (.i x.2.2))]) [12,13,16,17,19,20,21,22,23,24,25,26,27,28,29,30,31,32,33,34,35,36,37,38,39,40,41,42,43,44,45,46,47,48,49,50] (fun x=>[(1,some (.tok ((x.2.1.map Pat.cc)).length 6))]) (fun x=>x.1<=ts.length/\x.2.1.length<=x.1/\(-1<=x.2.2/\x.2.2<=(s.length:Int))/\addK x.2.1 (kidL f s (ts.drop x.1) (sg.drop x.1) x.2.2)=o) (fun x=>ts.length-x.1) (0,[],a0) ⟨by simp,by simp,ha0,by rw[zsa];exact ho⟩ ⟨⟨_,I,xaK ?_⟩,⟨⟨_,I,LeA.glg ?_⟩,⟨⟨_,I,xaK ?_⟩,O⟩⟩⟩ ⟨zag ?_,O⟩ (fun x=>rfl) (fun x hg1=>?_)));iterate 4 focus (rfl)
 refine evc [] [] ?_;apply sq<;>intro h1 h1p h1s<;>(try simp only[Q,xal,xac] at h1p);refine ixq sl22 I I I (zan od) I ?_;refine ev (wc zb8 (zaN (s:=s) (a:=x.2.2) (c:=nth sg x.1) hsl) I I ?_);refine ev ?_;apply sq<;>intro h2 h2p h2s;refine rn0 (r2 I I) (.tup (qne ?_ ?_));rotate_left 2;try simp only[Q,xal,xac] at h2p
 refine ixq zaL I I I (zan od) I ?_;refine ev (ar (wc zqF (hf (nth ts x.1) (zam od) (x.2.2+1) (by have:=zg4 (s:=s) (a:=x.2.2) ol;exact⟨by omega,by omega⟩)) I I ?_));refine ev (ab 3016 tz60 ?_);refine so ty60 ?_;refine ev (si [0] [_] sl58 tz60 ?_);refine ap sl58 zz60 I I I ox om ?_;refine ev (ar (xaj ((x.1+1,x.2.1++[(f (nth ts x.1) (x.2.2+1)).1],(f (nth ts x.1) (x.2.2+1)).2)) ⟨⟨by dsimp only;omega,by simp;omega,hfe _ _,hnext x.1 x.2.2 x.2.1 od hg hg1.2.2.2 ol⟩,o7,sx ⟨⟨_,I,xaK ?_⟩,⟨⟨_,I,LeA.glg ?_⟩,⟨⟨_,I,xaK ?_⟩,O⟩⟩⟩ ⟨zag ?_,O⟩⟩));iterate 4 focus ((simp;done))
 refine rn0 (r2 I I) (.tup (qge ?_ ?_));rotate_left 2;all_goals (first|(rw[hbad x.1 x.2.2 x.2.1 od hg hg1.2.2.2 ol];rfl)|(rw[hend x.1 x.2.2 x.2.1 od hg1.2.2.2];first|rfl|exact(xaQ _).symm))
set_option maxHeartbeats 4000000
theorem zfu {x:Int} (h1:97<=x) (h2:x<=122):IntKind.i64.wrap (IntKind.u8.wrap (x-97))=x-97:=by
 rw[zeV,zcV od];omega
section
variable {w:List Data}{s:Str}{n m:Nat}{t:Ty}
theorem zvG {a:Int} (h:a<0\/(s.length:Int)<=a):zaA w s (n+1) t a=(zdG,-1):=by unfold zaA;rw[if_pos h]
variable (hm:m<s.length)
include hm
theorem zlj:¬((m:Int)<0\/(s.length:Int)<=(m:Int)):=by omega
omit hm in
theorem zhV {x:UInt8} (h1:48<=(x.toNat:Int)) (h2:(x.toNat:Int)<=57):za9 x=true:=by unfold za9;rw[xad,xah,xah];exact⟨h1,h2⟩
omit hm in
theorem zjw {x:UInt8} (h:¬(48<=(x.toNat:Int)/\(x.toNat:Int)<=57)):¬za9 x=true:=by unfold za9;rw[xad,xah,xah];exact h
omit hm in
theorem zfJ {x:UInt8} (h1:97<=(x.toNat:Int)) (h2:(x.toNat:Int)<=122):zaJ x=true:=by unfold zaJ;rw[xad,xah,xah];exact⟨h1,h2⟩
omit hm in
theorem zia {x:UInt8} (h:¬(97<=(x.toNat:Int)/\(x.toNat:Int)<=122)):¬zaJ x=true:=by unfold zaJ;rw[xad,xah,xah];exact h
omit hm in
theorem b_eq {x:UInt8}{k:Nat} (hk:k<256) (h:(x.toNat:Int)=(k:Int)):x=UInt8.ofNat k:=by
 rw[<-UInt8.toNat_inj,UInt8.toNat_ofNat_of_lt' hk];omega
omit hm in
theorem b_ne {x y:UInt8} (h:¬(x.toNat:Int)=(y.toNat:Int)):¬x=y:=fun e=>h (by rw[e])
theorem zrG (h:((nth s m).toNat:Int)=95):zaA w s (n+1) t (m:Int)=(.mk 1 0 0 0 0 [],(m:Int)+1):=by
 unfold zaA;rw[if_neg (zlj hm),if_pos (show nth s ((m:Int)).toNat=95 from b_eq (k:=95) od h)]
theorem zot (h1:48<=((nth s m).toNat:Int)) (h2:((nth s m).toNat:Int)<=57):zaA w s (n+1) t (m:Int)=intP s m:=by
 unfold zaA;rw[if_neg (zlj hm),if_neg (show ¬nth s ((m:Int)).toNat=95 from b_ne (by show ¬((nth s m).toNat:Int)=95;omega)),if_pos (show za9 (nth s ((m:Int)).toNat)=true from zhV h1 h2)];rfl
theorem zth (h:((nth s m).toNat:Int)=40):zaA w s (n+1) t (m:Int)=(if zbw s (kidV (zaA w s n) s [t,t] [40,124] (m:Int)).2 41=true then (.mk 5 0 0 0 0 (kidV (zaA w s n) s [t,t] [40,124] (m:Int)).1,(kidV (zaA w s n) s [t,t] [40,124] (m:Int)).2+1) else (zdG,-1)):=by
 rw[zaA];rw[if_neg (zlj hm),if_neg (show ¬nth s ((m:Int)).toNat=95 from b_ne (by show ¬((nth s m).toNat:Int)=95;omega)),if_neg (show ¬za9 (nth s ((m:Int)).toNat)=true from zjw (by show ¬(48<=((nth s m).toNat:Int)/\((nth s m).toNat:Int)<=57);omega)),if_pos (show nth s ((m:Int)).toNat=40 from b_eq (k:=40) od h)]
theorem zou (h1:97<=((nth s m).toNat:Int)) (h2:((nth s m).toNat:Int)<=122):zaA w s (n+1) t (m:Int)=if zbw s ((m:Int)+1) 64=true then (.mk 6 0 0 0 (((nth s m).toNat:Int)-97) (kidV (zaA w s n) s [t] [64] ((m:Int)+1)).1,(kidV (zaA w s n) s [t] [64] ((m:Int)+1)).2) else (.mk 2 0 0 0 (((nth s m).toNat:Int)-97) [],(m:Int)+1):=by
 rw[zaA];rw[if_neg (zlj hm),if_neg (show ¬nth s ((m:Int)).toNat=95 from b_ne (by show ¬((nth s m).toNat:Int)=95;omega)),if_neg (show ¬za9 (nth s ((m:Int)).toNat)=true from zjw (by show ¬(48<=((nth s m).toNat:Int)/\((nth s m).toNat:Int)<=57);omega)),if_neg (show ¬nth s ((m:Int)).toNat=40 from b_ne (by show ¬((nth s m).toNat:Int)=40;omega))];by_cases hg:zbw s ((m:Int)+1) 64=true
 ·rw[if_pos ⟨zfJ h1 h2,hg⟩,if_pos hg];rfl
 ·rw[if_neg (fun h=>hg h.2),if_pos (show zaJ (nth s ((m:Int)).toNat)=true from zfJ h1 h2),if_neg hg];rfl
def conP (w:List Data) (s:Str) (n:Nat) (t:Ty) (m:Nat):Pat×Int:=
 if nmV w t (zbF s m)<0 then (zdG,-1)
 else if (zae w t (nmV w t (zbF s m))).length=0 then (.mk 4 (nmV w t (zbF s m)) 0 0 0 (kidV (zaA w s n) s (zae w t (nmV w t (zbF s m))) [40,44,44] ((m+zax (s.drop m):Nat):Int)).1,(kidV (zaA w s n) s (zae w t (nmV w t (zbF s m))) [40,44,44] ((m+zax (s.drop m):Nat):Int)).2)
 else if zbw s (kidV (zaA w s n) s (zae w t (nmV w t (zbF s m))) [40,44,44] ((m+zax (s.drop m):Nat):Int)).2 41=true then (.mk 4 (nmV w t (zbF s m)) 0 0 0 (kidV (zaA w s n) s (zae w t (nmV w t (zbF s m))) [40,44,44] ((m+zax (s.drop m):Nat):Int)).1,(kidV (zaA w s n) s (zae w t (nmV w t (zbF s m))) [40,44,44] ((m+zax (s.drop m):Nat):Int)).2+1)
 else (zdG,-1)
theorem zrH (h1:¬((nth s m).toNat:Int)=95) (h2:¬(48<=((nth s m).toNat:Int)/\((nth s m).toNat:Int)<=57)) (h3:¬((nth s m).toNat:Int)=40) (h4:¬(97<=((nth s m).toNat:Int)/\((nth s m).toNat:Int)<=122)):
  zaA w s (n+1) t (m:Int)=conP w s n t m:=by
 rw[zaA];rw[if_neg (zlj hm),if_neg (show ¬nth s ((m:Int)).toNat=95 from b_ne (by show ¬((nth s m).toNat:Int)=95;omega)),if_neg (show ¬za9 (nth s ((m:Int)).toNat)=true from zjw h2),if_neg (show ¬nth s ((m:Int)).toNat=40 from b_ne (by show ¬((nth s m).toNat:Int)=40;omega)),
  if_neg (fun h=>zia h4 h.1),if_neg (show ¬zaJ (nth s ((m:Int)).toNat)=true from zia h4)]
 rfl
end
def A3 (w:List Data):Prop:=∀t c,TyIn w.length t->c∈zao w t->(zae w t c).length<=3/\∀u∈zae w t c,TyIn w.length u
theorem zg6 {w:List Data}{s:Str} (hw:WT w) (hA3:A3 w) (hs:s.length<=1000000000000 / 2):∀(n:Nat){a k:Int}{b:Int},n<=1000->TyIn w.length ⟨a,k⟩->EndIn s b->
  FnD Tryz.prog 106 [.d (zah w),.agg [.d (.i a),.d (.i k)],.d (.str s),.d (.i b),.d (.i n)] [] (.tup [.agg [.d (.i (zaA w s n ⟨a,k⟩ b).1.op),.d (.i (zaA w s n ⟨a,k⟩ b).1.ctor),.d (.i (zaA w s n ⟨a,k⟩ b).1.n),.d (.i (zaA w s n ⟨a,k⟩ b).1.m),.d (.i (zaA w s n ⟨a,k⟩ b).1.var),.d (zau (zaA w s n ⟨a,k⟩ b).1.kids)],.d (.i (zaA w s n ⟨a,k⟩ b).2)]) []
 |0,a,k,b,_,_,_=>by
  rw[show zaA w s 0 ⟨a,k⟩ b=(zdG,-1) from rfl];refine bd Tryz.f106 172 [] [] fun _ _ _ _ hk=>?_;refine bx 3006 ?_;refine ab 3010 tz60 ?_;refine ev ?_;apply sq<;>intro h1 h1p h1s<;>(try simp only[Q] at h1p);refine sqT ?_;refine sqT ?_;refine bu [] [] st60 ?_;refine so ty60 ?_;refine ev ?_;focus (refine rn0 (rc ty60) (.tup (.cons (.agg (qeeeeen ?_ ?_ ?_ ?_ ?_ ?_)) (qe ?_)));all_goals (first|rfl|(simp[h1s,h1p];done)|(simp_all;done)|(simp_all;omega)|omega))
  focus (exfalso;first|omega|(simp at h1p;done))
 |n+1,a,k,b,hn,ht,hb=>by
  have hsl:s.length<=1000000000000:=by omega
  by_cases hout:b<0\/(s.length:Int)<=b
  ·rw[zvG hout];obtain⟨hb1,hb2⟩:=hb;refine bd Tryz.f106 172 [] [] fun _ _ _ _ hk=>?_;refine bx 3006 ?_;refine ab 3010 tz60 ?_;refine ev ?_;apply sq<;>intro h1 h1p h1s<;>(try simp only[Q] at h1p);refine sqT ?_;refine sqT ?_;refine bu [] [] st60 ?_;refine so ty60 ?_;refine ev ?_;focus (refine rn0 (rc ty60) (.tup (.cons (.agg (qeeeeen ?_ ?_ ?_ ?_ ?_ ?_)) (qe ?_)));all_goals (first|rfl|(simp[h1s,h1p];done)|(simp_all;done)|(simp_all;omega)|omega))
   apply sq<;>intro h3 h3p h3s<;>(try simp only[Q] at h3p);refine sqT ?_;refine bu [] [] st60 ?_;refine so ty60 ?_;refine ev ?_;focus (refine rn0 (rc ty60) (.tup (.cons (.agg (qeeeeen ?_ ?_ ?_ ?_ ?_ ?_)) (qe ?_)));all_goals (first|rfl|(simp[h1s,h1p,h3s,h3p];done)|(simp_all;done)|(simp_all;omega)|omega))
   apply sq<;>intro h5 h5p h5s<;>(try simp only[Q] at h5p);refine bu [] [] st60 ?_;refine so ty60 ?_;refine ev ?_;focus (refine rn0 (rc ty60) (.tup (.cons (.agg (qeeeeen ?_ ?_ ?_ ?_ ?_ ?_)) (qe ?_)));all_goals (first|rfl|(simp[h1s,h1p,h3s,h3p,h5s,h5p];done)|(simp_all;done)|(simp_all;omega)|omega))
   focus (exfalso;first|omega|(simp at h5p;done))
  obtain⟨m,rfl⟩:=Int.eq_ofNat_of_zero_le (show 0<=b by omega);have hm:m<s.length:=by omega
  have hkid:∀(ts:List Ty) (sg:List UInt8) (a0:Int),ts.length<=sg.length->sg.length<=3->(∀t∈ts,TyIn w.length t)->EndIn s a0->
    FnD Tryz.prog 191 [.d (zah w),.d (zbU ts),.d (zbP sg),.d (.str s),.d (.i a0),.d (.i (((n+1:Nat):Int)-1))] [] (.tup [.d (zau (kidV (zaA w s n) s ts sg a0).1),.d (.i (kidV (zaA w s n) s ts sg a0).2)]) []:=fun ts sg a0 h1 h2 h3' h4=>by
   rw[show(((n+1:Nat):Int)-1)=(n:Int) by omega];exact znf hs h1 h2 h4 (zga n) (fun t ht' b hb'=>zg6 hw hA3 hs n (a:=t.data) (k:=t.index) od (h3' t ht') hb')
  have hk1:=hkid [⟨a,k⟩,⟨a,k⟩] [40,124] (m:Int) oe oe (by intro t h;simp at h;subst h;exact ht) hb;have hk2:=fun h=>hkid [⟨a,k⟩] [64] ((m:Int)+1) oe oe (by intro t h;simp at h;subst h;exact ht) h;have hk3:=fun(h:¬nmV w ⟨a,k⟩ (zbF s m)<0)=>hkid (zae w ⟨a,k⟩ (nmV w ⟨a,k⟩ (zbF s m))) [40,44,44] ((m+zax (s.drop m):Nat):Int) (by have:=(hA3 _ _ ht (zgr h)).1;simp;omega) oe (hA3 _ _ ht (zgr h)).2 (zki (a:=(m:Int)) od od);have he1:EndIn s (kidV (zaA w s n) s [⟨a,k⟩,⟨a,k⟩] [40,124] (m:Int)).2:=zh9 (zga n) hb;have he3:EndIn s (kidV (zaA w s n) s (zae w ⟨a,k⟩ (nmV w ⟨a,k⟩ (zbF s m))) [40,44,44] ((m+zax (s.drop m):Nat):Int)).2:=zh9 (zga n) (zki (a:=(m:Int)) od od);have hnl:=zgE (s.drop m);rw[List.length_drop] at hnl;have q0:=zrG (w:=w) (t:=⟨a,k⟩) (n:=n) hm;have q1:=zot (w:=w) (t:=⟨a,k⟩) (n:=n) hm;have q2:=zth (w:=w) (t:=⟨a,k⟩) (n:=n) hm;have q3:=zou (w:=w) (t:=⟨a,k⟩) (n:=n) hm;have q4:=zrH (w:=w) (t:=⟨a,k⟩) (n:=n) hm;unfold conP at q4;have hag:=fun(h:¬nmV w ⟨a,k⟩ (zbF s m)<0)=>zcB hw ht (zgr h);have hnm:=zml hw ht (s:=zbF s m);generalize hK1:kidV (zaA w s n) s [⟨a,k⟩,⟨a,k⟩] [40,124] (m:Int)=K1 at *;generalize hK2:kidV (zaA w s n) s [⟨a,k⟩] [64] ((m:Int)+1)=K2 at *;generalize hK3:kidV (zaA w s n) s (zae w ⟨a,k⟩ (nmV w ⟨a,k⟩ (zbF s m))) [40,44,44] ((m+zax (s.drop m):Nat):Int)=K3 at *;clear hK1 hK2 hK3 hkid;generalize nmV w ⟨a,k⟩ (zbF s m)=cc at *;generalize zae w ⟨a,k⟩ cc=ts at *;generalize zaA w s (n+1) ⟨a,k⟩ (m:Int)=R at *;have q2a:=fun(h:((nth s m).toNat:Int)=40) (hs:zbw s K1.2 41=true)=>(q2 h).trans (if_pos hs);have q2b:=fun(h:((nth s m).toNat:Int)=40) (hs:zbw s K1.2 41=false)=>(q2 h).trans (if_neg (by rw[hs];simp));have q3a:=fun(h:97<=((nth s m).toNat:Int)) (h':((nth s m).toNat:Int)<=122) (hs:zbw s ((m:Int)+1) 64=true)=>(q3 h h').trans (if_pos hs);have q3b:=fun(h:97<=((nth s m).toNat:Int)) (h':((nth s m).toNat:Int)<=122) (hs:zbw s ((m:Int)+1) 64=false)=>(q3 h h').trans (if_neg (by rw[hs];simp));have q4a:=fun a1 a2 a3 a4 (hs:cc<0)=>(q4 a1 a2 a3 a4).trans (if_pos hs);have q4b:=fun a1 a2 a3 a4 (hs:¬cc<0) (h0:ts.length=0)=>((q4 a1 a2 a3 a4).trans (if_neg hs)).trans (if_pos h0);have q4c:=fun a1 a2 a3 a4 (hs:¬cc<0) (h0:¬ts.length=0) (h9:zbw s K3.2 41=true)=>(((q4 a1 a2 a3 a4).trans (if_neg hs)).trans (if_neg h0)).trans (if_pos h9);have q4d:=fun a1 a2 a3 a4 (hs:¬cc<0) (h0:¬ts.length=0) (h9:zbw s K3.2 41=false)=>(((q4 a1 a2 a3 a4).trans (if_neg hs)).trans (if_neg h0)).trans (if_neg (by rw[h9];simp));clear q2 q3 q4;obtain⟨he1a,he1b⟩:=he1;obtain⟨he3a,he3b⟩:=he3;refine bd Tryz.f106 172 [110,123] [] fun _ _ _ _ hk=>?_;refine bx 3006 ?_;refine ab 3010 tz60 ?_;refine evs [110,123] [] ?_;apply sq<;>intro h1 h1p h1s<;>(try simp only[Q,xal,xac] at h1p);refine sqT ?_;refine sqT ?_;focus (exfalso;first|omega|(simp at HP;done))
  apply sq<;>intro h3 h3p h3s<;>(try simp only[Q,xal,xac] at h3p);refine sqT ?_;focus (exfalso;first|omega|(simp at HP;done))
  apply sq<;>intro h5 h5p h5s<;>(try simp only[Q,xal,xac] at h5p);focus (exfalso;first|omega|(simp at h5p;done))
  refine xbF un9 .none I I I I (zaS od) ?_;refine evs [110,123] [] ?_;apply sq<;>intro h6 h6p h6s<;>(try simp only[Q,xal,xac] at h6p);refine bu [0] [_] st60 ?_;refine evs [110,123] [] (ar (so ty60 ?_));refine evs [110,123] [] (rn0 (rc ty60) (.tup (.cons (.agg (qeeeeen ?_ ?_ ?_ ?_ ?_ ?_)) (qe ?_))));rotate_left 7;apply sq<;>intro h7 h7p h7s<;>(try simp only[Q,xal,xac] at h7p);apply sq<;>intro h8 h8p h8s<;>(try simp only[Q,xal,xac] at h8p);refine wc zuG (zne hsl hm (zhV od od)) I I ?_;refine evs [110,123] [] (so ty60 ?_);refine evs [110,123] [] (rn0 (rc ty60) (.tup (.cons (.agg (qeeeeee ?_ ?_ ?_ ?_ ?_ ?_)) (qe ?_))));rotate_left 7;apply sq<;>intro h9 h9p h9s<;>(try simp only[Q,xal,xac] at h9p);refine si [0,1] [_,_] zaL tz38 ?_;refine si [0,1] [_,_] sl22 tz5 ?_;refine evs [110,123] [] (ar (wc zcC hk1 I I ?_));refine evs [110,123] [] (wc zb8 (zaN (s:=s) (a:=K1.2) (c:=41) hsl) I I ?_);refine evs [110,123] [] ?_;apply sq<;>intro h10 h10p h10s<;>(try simp only[Q,xal,xac] at h10p);refine bu [] [] st60 ?_;refine so ty60 ?_;refine evs [110,123] [] (rn0 (rc ty60) (.tup (.cons (.agg (qeeeeen ?_ ?_ ?_ ?_ ?_ ?_)) (qe ?_))));rotate_left 7;refine bu [0,5] [_,_] st60 ?_;refine evs [110,123] [] (ar (so ty60 ?_));refine evs [110,123] [] (rn0 (rc ty60) (.tup (.cons (.agg (qeeeeee ?_ ?_ ?_ ?_ ?_ ?_)) (qe ?_))));rotate_left 7;apply sq<;>intro h11 h11p h11s<;>(try simp only[Q,xal,xac] at h11p);apply sq<;>intro h12 h12p h12s<;>(try simp only[Q,xal,xac] at h12p);refine ar (Walk.call (cr:=[]) zb8 (zaN (s:=s) (a:=(m:Int)+1) (c:=64) hsl) I (.some I I h12) I I (LeL.refl _) O I I I (evs [110,123] [(90,true)] ?_ ⟨⟨_,I,h12⟩,O⟩));apply sq<;>intro h13 h13p h13s<;>(try simp only[Q,xal,xac] at h13p);refine si [0] [_] zaL tz38 ?_;refine si [0] [_] sl22 tz5 ?_;refine evs [110,123] [] (ar (ar (wc zcC (hk2 ⟨by omega,by omega⟩) I I ?_)));refine evs [110,123] [] (xbX .none I I I (xbv oy un3 .none I I ?_));refine evs [110,123] [] (bu [0,4,5] [_,_,_] st60 ?_);refine evs [110,123] [] (so ty60 ?_);refine evs [110,123] [] (rn0 (rc ty60) (.tup (.cons (.agg (qeeeeee ?_ ?_ ?_ ?_ ?_ ?_)) (qe ?_))));rotate_left 7;apply sq<;>intro h14 h14p h14s<;>(try simp only[Q,xal,xac] at h14p);apply sq<;>intro h15 h15p h15s<;>(try simp only[Q,xal,xac] at h15p);refine xbX .none I I I (xbv oy un3 .none I I ?_);refine bu [0,4] [_,_] st60 ?_;refine evs [110,123] [] (ar (so ty60 ?_));refine evs [110,123] [] (rn0 (rc ty60) (.tup (.cons (.agg (qeeeeen ?_ ?_ ?_ ?_ ?_ ?_)) (qe ?_))));rotate_left 7;refine wc zdI (zbm (s:=s) (n:=m) hsl od) I I ?_;refine evs [110,123] [] (wc zdJ hnm I I ?_);refine evs [110,123] [] ?_;apply sq<;>intro h16 h16p h16s<;>(try simp only[Q,xal,xac] at h16p);refine bu [] [] st60 ?_;refine so ty60 ?_;refine evs [110,123] [] (rn0 (rc ty60) (.tup (.cons (.agg (qeeeeen ?_ ?_ ?_ ?_ ?_ ?_)) (qe ?_))));rotate_left 7;refine wc zcj (hag od) I I ?_;refine evs [110,123] [] (si [0,1,2] [_,_,_] sl22 tz5 ?_);refine evs [110,123] [] (ar (wc zcC (hk3 od) I I ?_));refine evs [110,123] [] (bu [0,1,5] [_,_,_] st60 ?_);refine ab 3023 tz60 ?_;refine so ty60 ?_;apply tv;apply sq<;>intro h17 h17p h17s<;>(try simp only[Q,xal,xac] at h17p);refine so ty60 ?_;refine evs [110,123] [] (rn0 (rc ty60) (.tup (.cons (.agg (qeeeeee ?_ ?_ ?_ ?_ ?_ ?_)) (qe ?_))));rotate_left 7;refine wc zb8 (zaN (s:=s) (a:=K3.2) (c:=41) hsl) I I ?_;refine evs [110,123] [] ?_;apply sq<;>intro h18 h18p h18s<;>(try simp only[Q,xal,xac] at h18p);refine bu [] [] st60 ?_;refine so ty60 ?_;refine evs [110,123] [] (rn0 (rc ty60) (.tup (.cons (.agg (qeeeeen ?_ ?_ ?_ ?_ ?_ ?_)) (qe ?_))));rotate_left 7;refine ar (so ty60 ?_);refine evs [110,123] [] (rn0 (rc ty60) (.tup (.cons (.agg (qeeeeee ?_ ?_ ?_ ?_ ?_ ?_)) (qe ?_))));rotate_left 7;refine sqF ?_;refine wc zdI (zbm (s:=s) (n:=m) hsl od) I I ?_;refine evs [110,123] [] (wc zdJ hnm I I ?_);refine evs [110,123] [] ?_;apply sq<;>intro h20 h20p h20s<;>(try simp only[Q,xal,xac] at h20p);refine bu [] [] st60 ?_;refine so ty60 ?_;refine evs [110,123] [] (rn0 (rc ty60) (.tup (.cons (.agg (qeeeeen ?_ ?_ ?_ ?_ ?_ ?_)) (qe ?_))));rotate_left 7;refine wc zcj (hag od) I I ?_;refine evs [110,123] [] (si [0,1,2] [_,_,_] sl22 tz5 ?_);refine evs [110,123] [] (ar (wc zcC (hk3 od) I I ?_));refine evs [110,123] [] (bu [0,1,5] [_,_,_] st60 ?_);refine ab 3023 tz60 ?_;refine so ty60 ?_;apply tv;apply sq<;>intro h21 h21p h21s<;>(try simp only[Q,xal,xac] at h21p);refine so ty60 ?_;refine evs [110,123] [] (rn0 (rc ty60) (.tup (.cons (.agg (qeeeeee ?_ ?_ ?_ ?_ ?_ ?_)) (qe ?_))));rotate_left 7;refine wc zb8 (zaN (s:=s) (a:=K3.2) (c:=41) hsl) I I ?_;refine evs [110,123] [] ?_;apply sq<;>intro h22 h22p h22s<;>(try simp only[Q,xal,xac] at h22p);refine bu [] [] st60 ?_;refine so ty60 ?_;refine evs [110,123] [] (rn0 (rc ty60) (.tup (.cons (.agg (qeeeeen ?_ ?_ ?_ ?_ ?_ ?_)) (qe ?_))));rotate_left 7;refine ar (so ty60 ?_);refine evs [110,123] [] (rn0 (rc ty60) (.tup (.cons (.agg (qeeeeee ?_ ?_ ?_ ?_ ?_ ?_)) (qe ?_))));rotate_left 7;refine sqF ?_;apply sq<;>intro h24 h24p h24s<;>(try simp only[Q,xal,xac] at h24p);apply sq<;>intro h25 h25p h25s<;>(try simp only[Q,xal,xac] at h25p);refine xbX .none I I I (xbv oy un3 .none I I ?_);refine bu [0,4] [_,_] st60 ?_;refine evs [110,123] [] (ar (so ty60 ?_));refine evs [110,123] [] (rn0 (rc ty60) (.tup (.cons (.agg (qeeeeen ?_ ?_ ?_ ?_ ?_ ?_)) (qe ?_))));rotate_left 7;refine wc zdI (zbm (s:=s) (n:=m) hsl od) I I ?_;refine evs [110,123] [] (wc zdJ hnm I I ?_);refine evs [110,123] [] ?_;apply sq<;>intro h26 h26p h26s<;>(try simp only[Q,xal,xac] at h26p);refine bu [] [] st60 ?_;refine so ty60 ?_;refine evs [110,123] [] (rn0 (rc ty60) (.tup (.cons (.agg (qeeeeen ?_ ?_ ?_ ?_ ?_ ?_)) (qe ?_))));rotate_left 7;refine wc zcj (hag od) I I ?_;refine evs [110,123] [] (si [0,1,2] [_,_,_] sl22 tz5 ?_);refine evs [110,123] [] (ar (wc zcC (hk3 od) I I ?_));refine evs [110,123] [] (bu [0,1,5] [_,_,_] st60 ?_);refine ab 3023 tz60 ?_;refine so ty60 ?_;apply tv;apply sq<;>intro h27 h27p h27s<;>(try simp only[Q,xal,xac] at h27p);refine so ty60 ?_;refine evs [110,123] [] (rn0 (rc ty60) (.tup (.cons (.agg (qeeeeee ?_ ?_ ?_ ?_ ?_ ?_)) (qe ?_))));rotate_left 7;refine wc zb8 (zaN (s:=s) (a:=K3.2) (c:=41) hsl) I I ?_;refine evs [110,123] [] ?_;apply sq<;>intro h28 h28p h28s<;>(try simp only[Q,xal,xac] at h28p);refine bu [] [] st60 ?_;refine so ty60 ?_;refine evs [110,123] [] (rn0 (rc ty60) (.tup (.cons (.agg (qeeeeen ?_ ?_ ?_ ?_ ?_ ?_)) (qe ?_))));rotate_left 7;refine ar (so ty60 ?_);refine evs [110,123] [] (rn0 (rc ty60) (.tup (.cons (.agg (qeeeeee ?_ ?_ ?_ ?_ ?_ ?_)) (qe ?_))));rotate_left 7;refine sqF ?_;refine wc zdI (zbm (s:=s) (n:=m) hsl od) I I ?_;refine evs [110,123] [] (wc zdJ hnm I I ?_);refine evs [110,123] [] ?_;apply sq<;>intro h30 h30p h30s<;>(try simp only[Q,xal,xac] at h30p);refine bu [] [] st60 ?_;refine so ty60 ?_;refine evs [110,123] [] (rn0 (rc ty60) (.tup (.cons (.agg (qeeeeen ?_ ?_ ?_ ?_ ?_ ?_)) (qe ?_))));rotate_left 7;refine wc zcj (hag od) I I ?_;refine evs [110,123] [] (si [0,1,2] [_,_,_] sl22 tz5 ?_);refine evs [110,123] [] (ar (wc zcC (hk3 od) I I ?_));refine evs [110,123] [] (bu [0,1,5] [_,_,_] st60 ?_);refine ab 3023 tz60 ?_;refine so ty60 ?_;apply tv;apply sq<;>intro h31 h31p h31s<;>(try simp only[Q,xal,xac] at h31p);refine so ty60 ?_;refine evs [110,123] [] (rn0 (rc ty60) (.tup (.cons (.agg (qeeeeee ?_ ?_ ?_ ?_ ?_ ?_)) (qe ?_))));rotate_left 7;refine wc zb8 (zaN (s:=s) (a:=K3.2) (c:=41) hsl) I I ?_;refine evs [110,123] [] ?_;apply sq<;>intro h32 h32p h32s<;>(try simp only[Q,xal,xac] at h32p);refine bu [] [] st60 ?_;refine so ty60 ?_;refine evs [110,123] [] (rn0 (rc ty60) (.tup (.cons (.agg (qeeeeen ?_ ?_ ?_ ?_ ?_ ?_)) (qe ?_))));rotate_left 7;refine ar (so ty60 ?_);refine evs [110,123] [] (rn0 (rc ty60) (.tup (.cons (.agg (qeeeeee ?_ ?_ ?_ ?_ ?_ ?_)) (qe ?_))));rotate_left 7;refine sqF ?_;refine sqF ?_;apply sq<;>intro h34 h34p h34s<;>(try simp only[Q,xal,xac] at h34p);apply sq<;>intro h35 h35p h35s<;>(try simp only[Q,xal,xac] at h35p);refine xbX .none I I I (xbv oy un3 .none I I ?_);refine bu [0,4] [_,_] st60 ?_;refine evs [110,123] [] (ar (so ty60 ?_));refine evs [110,123] [] (rn0 (rc ty60) (.tup (.cons (.agg (qeeeeen ?_ ?_ ?_ ?_ ?_ ?_)) (qe ?_))));rotate_left 7;refine wc zdI (zbm (s:=s) (n:=m) hsl od) I I ?_;refine evs [110,123] [] (wc zdJ hnm I I ?_);refine evs [110,123] [] ?_;apply sq<;>intro h36 h36p h36s<;>(try simp only[Q,xal,xac] at h36p);refine bu [] [] st60 ?_;refine so ty60 ?_;refine evs [110,123] [] (rn0 (rc ty60) (.tup (.cons (.agg (qeeeeen ?_ ?_ ?_ ?_ ?_ ?_)) (qe ?_))));rotate_left 7;refine wc zcj (hag od) I I ?_;refine evs [110,123] [] (si [0,1,2] [_,_,_] sl22 tz5 ?_);refine evs [110,123] [] (ar (wc zcC (hk3 od) I I ?_));refine evs [110,123] [] (bu [0,1,5] [_,_,_] st60 ?_);refine ab 3023 tz60 ?_;refine so ty60 ?_;apply tv;apply sq<;>intro h37 h37p h37s<;>(try simp only[Q,xal,xac] at h37p);refine so ty60 ?_;refine evs [110,123] [] (rn0 (rc ty60) (.tup (.cons (.agg (qeeeeee ?_ ?_ ?_ ?_ ?_ ?_)) (qe ?_))));rotate_left 7;refine wc zb8 (zaN (s:=s) (a:=K3.2) (c:=41) hsl) I I ?_;refine evs [110,123] [] ?_;apply sq<;>intro h38 h38p h38s<;>(try simp only[Q,xal,xac] at h38p);refine bu [] [] st60 ?_;refine so ty60 ?_;refine evs [110,123] [] (rn0 (rc ty60) (.tup (.cons (.agg (qeeeeen ?_ ?_ ?_ ?_ ?_ ?_)) (qe ?_))));rotate_left 7;refine ar (so ty60 ?_);refine evs [110,123] [] (rn0 (rc ty60) (.tup (.cons (.agg (qeeeeee ?_ ?_ ?_ ?_ ?_ ?_)) (qe ?_))));rotate_left 7;refine sqF ?_;refine wc zdI (zbm (s:=s) (n:=m) hsl od) I I ?_;refine evs [110,123] [] (wc zdJ hnm I I ?_);refine evs [110,123] [] ?_;apply sq<;>intro h40 h40p h40s<;>(try simp only[Q,xal,xac] at h40p);refine bu [] [] st60 ?_;refine so ty60 ?_;refine evs [110,123] [] (rn0 (rc ty60) (.tup (.cons (.agg (qeeeeen ?_ ?_ ?_ ?_ ?_ ?_)) (qe ?_))));rotate_left 7;refine wc zcj (hag od) I I ?_;refine evs [110,123] [] (si [0,1,2] [_,_,_] sl22 tz5 ?_);refine evs [110,123] [] (ar (wc zcC (hk3 od) I I ?_));refine evs [110,123] [] (bu [0,1,5] [_,_,_] st60 ?_);refine ab 3023 tz60 ?_;refine so ty60 ?_;apply tv;apply sq<;>intro h41 h41p h41s<;>(try simp only[Q,xal,xac] at h41p);refine so ty60 ?_;refine evs [110,123] [] (rn0 (rc ty60) (.tup (.cons (.agg (qeeeeee ?_ ?_ ?_ ?_ ?_ ?_)) (qe ?_))));rotate_left 7;refine wc zb8 (zaN (s:=s) (a:=K3.2) (c:=41) hsl) I I ?_;refine evs [110,123] [] ?_;apply sq<;>intro h42 h42p h42s<;>(try simp only[Q,xal,xac] at h42p);refine bu [] [] st60 ?_;refine so ty60 ?_;refine evs [110,123] [] (rn0 (rc ty60) (.tup (.cons (.agg (qeeeeen ?_ ?_ ?_ ?_ ?_ ?_)) (qe ?_))));rotate_left 7;refine ar (so ty60 ?_);refine evs [110,123] [] (rn0 (rc ty60) (.tup (.cons (.agg (qeeeeee ?_ ?_ ?_ ?_ ?_ ?_)) (qe ?_))));rotate_left 7;refine sqF ?_;apply sq<;>intro h44 h44p h44s<;>(try simp only[Q,xal,xac] at h44p);refine si [0,1] [_,_] zaL tz38 ?_;refine si [0,1] [_,_] sl22 tz5 ?_;refine evs [110,123] [] (ar (wc zcC hk1 I I ?_));refine evs [110,123] [] (wc zb8 (zaN (s:=s) (a:=K1.2) (c:=41) hsl) I I ?_);refine evs [110,123] [] ?_;apply sq<;>intro h45 h45p h45s<;>(try simp only[Q,xal,xac] at h45p);refine bu [] [] st60 ?_;refine so ty60 ?_;refine evs [110,123] [] (rn0 (rc ty60) (.tup (.cons (.agg (qeeeeen ?_ ?_ ?_ ?_ ?_ ?_)) (qe ?_))));rotate_left 7;refine bu [0,5] [_,_] st60 ?_;refine evs [110,123] [] (ar (so ty60 ?_));refine evs [110,123] [] (rn0 (rc ty60) (.tup (.cons (.agg (qeeeeee ?_ ?_ ?_ ?_ ?_ ?_)) (qe ?_))));rotate_left 7;apply sq<;>intro h46 h46p h46s<;>(try simp only[Q,xal,xac] at h46p);apply sq<;>intro h47 h47p h47s<;>(try simp only[Q,xal,xac] at h47p);refine ar (Walk.call (cr:=[]) zb8 (zaN (s:=s) (a:=(m:Int)+1) (c:=64) hsl) I (.some I I h47) I I (LeL.refl _) O I I I (evs [110,123] [(90,true)] ?_ ⟨⟨_,I,h47⟩,O⟩));apply sq<;>intro h48 h48p h48s<;>(try simp only[Q,xal,xac] at h48p);refine si [0] [_] zaL tz38 ?_;refine si [0] [_] sl22 tz5 ?_;refine evs [110,123] [] (ar (ar (wc zcC (hk2 ⟨by omega,by omega⟩) I I ?_)));refine evs [110,123] [] (xbX .none I I I (xbv oy un3 .none I I ?_));refine evs [110,123] [] (bu [0,4,5] [_,_,_] st60 ?_);refine evs [110,123] [] (so ty60 ?_);refine evs [110,123] [] (rn0 (rc ty60) (.tup (.cons (.agg (qeeeeee ?_ ?_ ?_ ?_ ?_ ?_)) (qe ?_))));rotate_left 7;apply sq<;>intro h49 h49p h49s<;>(try simp only[Q,xal,xac] at h49p);apply sq<;>intro h50 h50p h50s<;>(try simp only[Q,xal,xac] at h50p);refine xbX .none I I I (xbv oy un3 .none I I ?_);refine bu [0,4] [_,_] st60 ?_;refine evs [110,123] [] (ar (so ty60 ?_));refine evs [110,123] [] (rn0 (rc ty60) (.tup (.cons (.agg (qeeeeen ?_ ?_ ?_ ?_ ?_ ?_)) (qe ?_))));rotate_left 7;refine wc zdI (zbm (s:=s) (n:=m) hsl od) I I ?_;refine evs [110,123] [] (wc zdJ hnm I I ?_);refine evs [110,123] [] ?_;apply sq<;>intro h51 h51p h51s<;>(try simp only[Q,xal,xac] at h51p);refine bu [] [] st60 ?_;refine so ty60 ?_;refine evs [110,123] [] (rn0 (rc ty60) (.tup (.cons (.agg (qeeeeen ?_ ?_ ?_ ?_ ?_ ?_)) (qe ?_))));rotate_left 7;refine wc zcj (hag od) I I ?_;refine evs [110,123] [] (si [0,1,2] [_,_,_] sl22 tz5 ?_);refine evs [110,123] [] (ar (wc zcC (hk3 od) I I ?_));refine evs [110,123] [] (bu [0,1,5] [_,_,_] st60 ?_);refine ab 3023 tz60 ?_;refine so ty60 ?_;apply tv;apply sq<;>intro h52 h52p h52s<;>(try simp only[Q,xal,xac] at h52p);refine so ty60 ?_;refine evs [110,123] [] (rn0 (rc ty60) (.tup (.cons (.agg (qeeeeee ?_ ?_ ?_ ?_ ?_ ?_)) (qe ?_))));rotate_left 7;refine wc zb8 (zaN (s:=s) (a:=K3.2) (c:=41) hsl) I I ?_;refine evs [110,123] [] ?_;apply sq<;>intro h53 h53p h53s<;>(try simp only[Q,xal,xac] at h53p);refine bu [] [] st60 ?_;refine so ty60 ?_;refine evs [110,123] [] (rn0 (rc ty60) (.tup (.cons (.agg (qeeeeen ?_ ?_ ?_ ?_ ?_ ?_)) (qe ?_))));rotate_left 7;refine ar (so ty60 ?_);refine evs [110,123] [] (rn0 (rc ty60) (.tup (.cons (.agg (qeeeeee ?_ ?_ ?_ ?_ ?_ ?_)) (qe ?_))));rotate_left 7;refine sqF ?_;refine wc zdI (zbm (s:=s) (n:=m) hsl od) I I ?_;refine evs [110,123] [] (wc zdJ hnm I I ?_);refine evs [110,123] [] ?_;apply sq<;>intro h55 h55p h55s<;>(try simp only[Q,xal,xac] at h55p);refine bu [] [] st60 ?_;refine so ty60 ?_;refine evs [110,123] [] (rn0 (rc ty60) (.tup (.cons (.agg (qeeeeen ?_ ?_ ?_ ?_ ?_ ?_)) (qe ?_))));rotate_left 7;refine wc zcj (hag od) I I ?_;refine evs [110,123] [] (si [0,1,2] [_,_,_] sl22 tz5 ?_);refine evs [110,123] [] (ar (wc zcC (hk3 od) I I ?_));refine evs [110,123] [] (bu [0,1,5] [_,_,_] st60 ?_);refine ab 3023 tz60 ?_;refine so ty60 ?_;apply tv;apply sq<;>intro h56 h56p h56s<;>(try simp only[Q,xal,xac] at h56p);refine so ty60 ?_;refine evs [110,123] [] (rn0 (rc ty60) (.tup (.cons (.agg (qeeeeee ?_ ?_ ?_ ?_ ?_ ?_)) (qe ?_))));rotate_left 7;refine wc zb8 (zaN (s:=s) (a:=K3.2) (c:=41) hsl) I I ?_;refine evs [110,123] [] ?_;apply sq<;>intro h57 h57p h57s<;>(try simp only[Q,xal,xac] at h57p);refine bu [] [] st60 ?_;refine so ty60 ?_;refine evs [110,123] [] (rn0 (rc ty60) (.tup (.cons (.agg (qeeeeen ?_ ?_ ?_ ?_ ?_ ?_)) (qe ?_))));rotate_left 7;refine ar (so ty60 ?_);refine evs [110,123] [] (rn0 (rc ty60) (.tup (.cons (.agg (qeeeeee ?_ ?_ ?_ ?_ ?_ ?_)) (qe ?_))));rotate_left 7;refine sqF ?_;apply sq<;>intro h59 h59p h59s<;>(try simp only[Q,xal,xac] at h59p);apply sq<;>intro h60 h60p h60s<;>(try simp only[Q,xal,xac] at h60p);refine xbX .none I I I (xbv oy un3 .none I I ?_);refine bu [0,4] [_,_] st60 ?_;refine evs [110,123] [] (ar (so ty60 ?_));refine evs [110,123] [] (rn0 (rc ty60) (.tup (.cons (.agg (qeeeeen ?_ ?_ ?_ ?_ ?_ ?_)) (qe ?_))));rotate_left 7;refine wc zdI (zbm (s:=s) (n:=m) hsl od) I I ?_;refine evs [110,123] [] (wc zdJ hnm I I ?_);refine evs [110,123] [] ?_;apply sq<;>intro h61 h61p h61s<;>(try simp only[Q,xal,xac] at h61p);refine bu [] [] st60 ?_;refine so ty60 ?_;refine evs [110,123] [] (rn0 (rc ty60) (.tup (.cons (.agg (qeeeeen ?_ ?_ ?_ ?_ ?_ ?_)) (qe ?_))));rotate_left 7;refine wc zcj (hag od) I I ?_;refine evs [110,123] [] (si [0,1,2] [_,_,_] sl22 tz5 ?_);refine evs [110,123] [] (ar (wc zcC (hk3 od) I I ?_));refine evs [110,123] [] (bu [0,1,5] [_,_,_] st60 ?_);refine ab 3023 tz60 ?_;refine so ty60 ?_;apply tv;apply sq<;>intro h62 h62p h62s<;>(try simp only[Q,xal,xac] at h62p);refine so ty60 ?_;refine evs [110,123] [] (rn0 (rc ty60) (.tup (.cons (.agg (qeeeeee ?_ ?_ ?_ ?_ ?_ ?_)) (qe ?_))));rotate_left 7;refine wc zb8 (zaN (s:=s) (a:=K3.2) (c:=41) hsl) I I ?_;refine evs [110,123] [] ?_;apply sq<;>intro h63 h63p h63s<;>(try simp only[Q,xal,xac] at h63p);refine bu [] [] st60 ?_;refine so ty60 ?_;refine evs [110,123] [] (rn0 (rc ty60) (.tup (.cons (.agg (qeeeeen ?_ ?_ ?_ ?_ ?_ ?_)) (qe ?_))));rotate_left 7;refine ar (so ty60 ?_);refine evs [110,123] [] (rn0 (rc ty60) (.tup (.cons (.agg (qeeeeee ?_ ?_ ?_ ?_ ?_ ?_)) (qe ?_))));rotate_left 7;refine sqF ?_;refine wc zdI (zbm (s:=s) (n:=m) hsl od) I I ?_;refine evs [110,123] [] (wc zdJ hnm I I ?_);refine evs [110,123] [] ?_;apply sq<;>intro h65 h65p h65s<;>(try simp only[Q,xal,xac] at h65p);refine bu [] [] st60 ?_;refine so ty60 ?_;refine evs [110,123] [] (rn0 (rc ty60) (.tup (.cons (.agg (qeeeeen ?_ ?_ ?_ ?_ ?_ ?_)) (qe ?_))));rotate_left 7;refine wc zcj (hag od) I I ?_;refine evs [110,123] [] (si [0,1,2] [_,_,_] sl22 tz5 ?_);refine evs [110,123] [] (ar (wc zcC (hk3 od) I I ?_));refine evs [110,123] [] (bu [0,1,5] [_,_,_] st60 ?_);refine ab 3023 tz60 ?_;refine so ty60 ?_;apply tv;apply sq<;>intro h66 h66p h66s<;>(try simp only[Q,xal,xac] at h66p);refine so ty60 ?_;refine evs [110,123] [] (rn0 (rc ty60) (.tup (.cons (.agg (qeeeeee ?_ ?_ ?_ ?_ ?_ ?_)) (qe ?_))));rotate_left 7;refine wc zb8 (zaN (s:=s) (a:=K3.2) (c:=41) hsl) I I ?_;refine evs [110,123] [] ?_;apply sq<;>intro h67 h67p h67s<;>(try simp only[Q,xal,xac] at h67p);refine bu [] [] st60 ?_;refine so ty60 ?_;refine evs [110,123] [] (rn0 (rc ty60) (.tup (.cons (.agg (qeeeeen ?_ ?_ ?_ ?_ ?_ ?_)) (qe ?_))));rotate_left 7;refine ar (so ty60 ?_);refine evs [110,123] [] (rn0 (rc ty60) (.tup (.cons (.agg (qeeeeee ?_ ?_ ?_ ?_ ?_ ?_)) (qe ?_))));rotate_left 7;refine sqF ?_;refine sqF ?_;apply sq<;>intro h69 h69p h69s<;>(try simp only[Q,xal,xac] at h69p);apply sq<;>intro h70 h70p h70s<;>(try simp only[Q,xal,xac] at h70p);refine xbX .none I I I (xbv oy un3 .none I I ?_);refine bu [0,4] [_,_] st60 ?_;refine evs [110,123] [] (ar (so ty60 ?_));refine evs [110,123] [] (rn0 (rc ty60) (.tup (.cons (.agg (qeeeeen ?_ ?_ ?_ ?_ ?_ ?_)) (qe ?_))));rotate_left 7;refine wc zdI (zbm (s:=s) (n:=m) hsl od) I I ?_;refine evs [110,123] [] (wc zdJ hnm I I ?_);refine evs [110,123] [] ?_;apply sq<;>intro h71 h71p h71s<;>(try simp only[Q,xal,xac] at h71p);refine bu [] [] st60 ?_;refine so ty60 ?_;refine evs [110,123] [] (rn0 (rc ty60) (.tup (.cons (.agg (qeeeeen ?_ ?_ ?_ ?_ ?_ ?_)) (qe ?_))));rotate_left 7;refine wc zcj (hag od) I I ?_;refine evs [110,123] [] (si [0,1,2] [_,_,_] sl22 tz5 ?_);refine evs [110,123] [] (ar (wc zcC (hk3 od) I I ?_));refine evs [110,123] [] (bu [0,1,5] [_,_,_] st60 ?_);refine ab 3023 tz60 ?_;refine so ty60 ?_;apply tv;apply sq<;>intro h72 h72p h72s<;>(try simp only[Q,xal,xac] at h72p);refine so ty60 ?_;refine evs [110,123] [] (rn0 (rc ty60) (.tup (.cons (.agg (qeeeeee ?_ ?_ ?_ ?_ ?_ ?_)) (qe ?_))));rotate_left 7;refine wc zb8 (zaN (s:=s) (a:=K3.2) (c:=41) hsl) I I ?_;refine evs [110,123] [] ?_;apply sq<;>intro h73 h73p h73s<;>(try simp only[Q,xal,xac] at h73p);refine bu [] [] st60 ?_;refine so ty60 ?_;refine evs [110,123] [] (rn0 (rc ty60) (.tup (.cons (.agg (qeeeeen ?_ ?_ ?_ ?_ ?_ ?_)) (qe ?_))));rotate_left 7;refine ar (so ty60 ?_);refine evs [110,123] [] (rn0 (rc ty60) (.tup (.cons (.agg (qeeeeee ?_ ?_ ?_ ?_ ?_ ?_)) (qe ?_))));rotate_left 7;refine sqF ?_;refine wc zdI (zbm (s:=s) (n:=m) hsl od) I I ?_;refine evs [110,123] [] (wc zdJ hnm I I ?_);refine evs [110,123] [] ?_;apply sq<;>intro h75 h75p h75s<;>(try simp only[Q,xal,xac] at h75p);refine bu [] [] st60 ?_;refine so ty60 ?_;refine evs [110,123] [] (rn0 (rc ty60) (.tup (.cons (.agg (qeeeeen ?_ ?_ ?_ ?_ ?_ ?_)) (qe ?_))));rotate_left 7;refine wc zcj (hag od) I I ?_;refine evs [110,123] [] (si [0,1,2] [_,_,_] sl22 tz5 ?_);refine evs [110,123] [] (ar (wc zcC (hk3 od) I I ?_));refine evs [110,123] [] (bu [0,1,5] [_,_,_] st60 ?_);refine ab 3023 tz60 ?_;refine so ty60 ?_;apply tv;apply sq<;>intro h76 h76p h76s<;>(try simp only[Q,xal,xac] at h76p);refine so ty60 ?_;refine evs [110,123] [] (rn0 (rc ty60) (.tup (.cons (.agg (qeeeeee ?_ ?_ ?_ ?_ ?_ ?_)) (qe ?_))));rotate_left 7;refine wc zb8 (zaN (s:=s) (a:=K3.2) (c:=41) hsl) I I ?_;refine evs [110,123] [] ?_;apply sq<;>intro h77 h77p h77s<;>(try simp only[Q,xal,xac] at h77p);refine bu [] [] st60 ?_;refine so ty60 ?_;refine evs [110,123] [] (rn0 (rc ty60) (.tup (.cons (.agg (qeeeeen ?_ ?_ ?_ ?_ ?_ ?_)) (qe ?_))));rotate_left 7;refine ar (so ty60 ?_);refine evs [110,123] [] (rn0 (rc ty60) (.tup (.cons (.agg (qeeeeee ?_ ?_ ?_ ?_ ?_ ?_)) (qe ?_))));rotate_left 7;all_goals (first|(rw[q0 od];all_goals rfl)|(rw[q1 od od];done)|(rw[q1 od od];all_goals rfl)|(rw[q2a od ol];all_goals rfl)|(rw[q2b od ol];all_goals rfl)|(rw[q3a od od ol];all_goals first|(rw[zfu od od];all_goals rfl)|rfl)|(rw[q3b od od ol];all_goals first|(rw[zfu od od];all_goals rfl)|rfl)|(rw[q4a od od od od od];all_goals rfl)|(rw[q4b od od od od od od];all_goals rfl)|(rw[q4c od od od od od od ol];all_goals rfl)|(rw[q4d od od od od od od ol];all_goals rfl)|(exfalso;omega))
end Go.Proofs.YtmkipahfpaacgaaGreatDoor
