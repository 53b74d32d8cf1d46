/-
  THE ABSTRACT WALK AND THE WALKS, part 3 of 5.
-/
import Derived.Test.YtcjojgpodcjfcaaGreatDoorT612
namespace Go.Proofs.YtcjojgpodcjfcaaGreatDoor
open Go
set_option linter.unusedSimpArgs false
set_option linter.unusedVariables false
set_option maxRecDepth 100000
set_option maxHeartbeats 2000000
theorem zbm {α:Type} [Inhabited α]{l:List α}{i:Nat} (h:i<l.length):l.drop i=nth l i::l.drop (i+1):=by
 rw[zaY h];exact List.drop_eq_getElem_cons h
def all2 {α β:Type} (f:α->β->Bool):List α->List β->Bool
 | [],[]=>true
 |a::r,b::s=>f a b&&all2 f r s
 |_,_=>false
theorem zfV {α β:Type}{f:α->β->Bool}:∀ {a:List α}{b:List β},a.length≠b.length->all2 f a b=false
 | [],[],h=>by simp at h
 | [],_::_,_=>rfl
 |_::_,[],_=>rfl
 |x::r,y::s,h=>by simp[all2,zfV (a:=r) (b:=s) (by simpa using h)]
theorem zc1 {α β:Type} [Inhabited α] [Inhabited β]{f:α->β->Bool}{a:List α}{b:List β}{i:Nat} (h:i<a.length) (hl:a.length=b.length) (h2:f (nth a i) (nth b i)=false):all2 f a b=false:=by
 induction i generalizing a b with
 |zero=>
  cases a with
  |nil=>simp at h
  |cons x r=>
   cases b with
   |nil=>simp[all2]
   |cons y s=>simp[nth] at h2;simp[all2,h2]
 |succ i ih=>
  cases a with
  |nil=>simp at h
  |cons x r=>
   cases b with
   |nil=>simp[all2]
   |cons y s=>simp only[all2];rw[ih (a:=r) (b:=s) (by simpa using h) (by simpa using hl) (by simpa [nth] using h2)];simp
theorem zdW {α β:Type} [Inhabited α] [Inhabited β]{f:α->β->Bool}{a:List α}{b:List β} (hl:a.length=b.length) (h:∀i,i<a.length->f (nth a i) (nth b i)=true):all2 f a b=true:=by
 induction a generalizing b with
 |nil=>cases b with
  |nil=>simp[all2]
  |cons y s=>simp at hl
 |cons x r ih=>cases b with
  |nil=>simp at hl
  |cons y s=>
   have h0:=h 0 oh;simp only[all2];rw[ih (by simpa using hl) (fun i hi=>by simpa [nth] using h (i+1) (by simpa using hi))];simpa [nth] using h0
def idxI (l:List Int) (v:Int):Int:=idxF (fun x=>decide (v=x)) l 0
theorem zhR {l:List Int}{v:Int} (h:l.length<=1000000000000):FnD Tryz.prog 136 [.d (zc2 l),.d (.i v)] [] (.d (.i (idxI l v))) []:=by
 refine bd Tryz.f136 19 [] [] fun _ _ _ _ hk=>?_;refine xaD (ι:=List (Int)×List (Int)) hk (fun x=>[(8,.d (.i (x.1.length:Int)))]) [4,5,9,10,11,12,13,14,15,16,17,18] (fun x=>[]) (fun x=>x.1++x.2=l/\idxF (fun x=>decide (v=x)) x.2 x.1.length=idxF (fun x=>decide (v=x)) l 0) (fun x=>x.2.length) ([],l) ⟨by simp,I⟩ ⟨⟨_,I,xaT ?_⟩,O⟩ O (fun x=>rfl) (fun x hg1=>?_);focus (first|rfl|(simp;done)|(simp_all;done)|omega)
 obtain⟨pre,rest⟩:=x;dsimp only at hg1 ⊢;refine evc [] [] ?_;apply sq<;>intro h1 h1p h1s<;>(try simp only[Q] at h1p);rcases rest with _|⟨y,rest⟩
 ·exfalso;simp_all
 refine ixq zdi I I I (zbd hg1.1) I (ev ?_);apply sq<;>intro h2 h2p h2s<;>(try simp only[Q] at h2p);focus (refine rq ?_;all_goals (unfold idxI;rw[<-hg1.2];simp[idxF,h1s,h1p,h2s,h2p]))
 refine ar (xaj ((pre++[y],rest)) ⟨⟨(by have hz:=hg1.1;rw[<-hz];simp),(by rw[<-hg1.2];simp[idxF,h2p])⟩,oh,sx ⟨⟨_,I,xaT ?_⟩,O⟩ O⟩);focus (first|rfl|(simp;done)|(simp_all;done)|omega)
 have hrest:rest=[]:=by
  rcases rest with _|⟨a,b⟩
  ·rfl
  ·exfalso;have hz:=xam List.length (hg1.1);simp only[xaa,xab,xac] at hz;omega
 subst hrest;focus (refine rq ?_;all_goals (unfold idxI;rw[<-hg1.2];simp[idxF,h1s,h1p]))
theorem zdV {l:List Int}{v:Int} (h:l.length<=1000000000000):FnD Tryz.prog 133 [.d (zc2 l),.d (.i v)] [] (.d (.bool (decide (v∈l)))) []:=by
 refine bd Tryz.f133 9 [] [] fun _ _ _ _ hk=>?_;refine wc zrd (zhR h) I I ?_;refine ev (rq ?_);rotate_left;all_goals (refine xam D.bool ?_;rw[show idxI l v=idxF (fun x=>decide (v=x)) l 0 from rfl,zeR];simp[List.any_eq,eq_comm])
theorem zd1 {l:List Int}{v:Int} (h:l.length<=1000000000000):FnD Tryz.prog 130 [.d (zc2 l),.d (.i v)] [] (.d (.bool (decide (v∈l)))) []:=by
 refine bd Tryz.f130 18 [] [] fun _ _ _ _ hk=>?_;refine xaD (ι:=List (Int)×List (Int)) hk (fun x=>[(5,.d (.i (x.1.length:Int)))]) [4,6,7,8,9,10,11,12,13,14,15,16,17] (fun x=>[]) (fun x=>x.1++x.2=l/\v∉x.1) (fun x=>x.2.length) ([],l) ⟨by simp,by simp⟩ ⟨⟨_,I,xaT ?_⟩,O⟩ O (fun x=>rfl) (fun x hg1=>?_);focus (first|rfl|(simp;done)|(simp_all;done)|omega)
 obtain⟨pre,rest⟩:=x;dsimp only at hg1 ⊢;refine evc [] [] ?_;apply sq<;>intro h1 h1p h1s<;>(try simp only[Q] at h1p);rcases rest with _|⟨y,rest⟩
 ·exfalso;simp_all
 refine ixq zdi I I I (zbd hg1.1) I (ev ?_);apply sq<;>intro h2 h2p h2s<;>(try simp only[Q] at h2p);focus (refine rq ?_;all_goals (refine xam D.bool ?_;first|(symm;rw[xah,<-hg1.1];simp[h1s,h1p,h2s,h2p];done)|(symm;rw[decide_eq_false_iff_not,<-hg1.1];intro hm;simp at hm;exact absurd hm (by simpa using hg1.2))))
 refine ar (xaj ((pre++[y],rest)) ⟨⟨(by have hz:=hg1.1;rw[<-hz];simp),(by have:=hg1.2;simp[this,eq_comm];omega)⟩,oh,sx ⟨⟨_,I,xaT ?_⟩,O⟩ O⟩);focus (first|rfl|(simp;done)|(simp_all;done)|omega)
 have hrest:rest=[]:=by
  rcases rest with _|⟨a,b⟩
  ·rfl
  ·exfalso;have hz:=xam List.length (hg1.1);simp only[xaa,xab,xac] at hz;omega
 subst hrest;focus (refine rq ?_;all_goals (refine xam D.bool ?_;first|(symm;rw[xah,<-hg1.1];simp[h1s,h1p];done)|(symm;rw[decide_eq_false_iff_not,<-hg1.1];intro hm;simp at hm;exact absurd hm (by simpa using hg1.2))))
def cutL (c:UInt8):Str->Str->List Str
 |cur,[]=>[cur]
 |cur,x::r=>if x=c then cur::cutL c [] r else cutL c (cur++[x]) r
theorem zjb (c:UInt8):∀(s cur:Str),1<=(cutL c cur s).length
 | [],cur=>by simp[cutL]
 |x::r,cur=>by
  simp only[cutL];split
  ·simp
  ·exact zjb c r (cur++[x])
theorem zfZ (c:UInt8):∀(s cur:Str) (t:Str),t∈cutL c cur s->t.length<=cur.length+s.length
 | [],cur,t,h=>by simp only[cutL,List.mem_singleton] at h;subst h;simp
 |x::r,cur,t,h=>by
  simp only[cutL] at h;split at h
  ·rcases List.mem_cons.1 h with rfl|h
   ·simp
   ·have:=zfZ c r [] t h;simp only[xab,xak] at this ⊢;omega
  ·have:=zfZ c r (cur++[x]) t h;simp only[xaa,xab,xak] at this ⊢;omega
theorem zaZ {s:Str}{i:Nat} (h:i<s.length):s[i]?=some (nth s i):=by rw[zaY h];exact xan h
theorem zi9 {s:Str}{f i:Nat} (hf:f<=i) (h:i<s.length):(s.take (i+1)).drop f=(s.take i).drop f++[nth s i]:=by
 rw[List.take_add_one,xan h,List.drop_append_of_le_length ot,zaY h];rfl
theorem zjc {s:Str}{f i:Nat}:(s.drop f).take (i-f)=(s.take i).drop f:=by rw[List.drop_take]
theorem zg0 {s:Str}{c:UInt8} (hs:s.length<=1000000000000):FnD Tryz.prog 16 [.d (.str s),.d (.int .u8 (c.toNat:Int))] [] (.d (zeN (cutL c [] s))) []:=by
 have hu:∀a:UInt8,((a.toNat:Int)=(c.toNat:Int))↔a=c:=fun a=>by rw[xal];exact UInt8.toNat_inj
 refine bd Tryz.f16 36 [] [] fun _ _ _ _ hk=>?_;refine xb3 1 sl43 .none I I (ev (xaD (ι:=Nat×Nat×List Str) hk (fun x=>[(7,.d (.i (x.1:Int))),(6,.d (.i (x.2.1:Int))),(5,.gl 1 (x.2.2.map fun n=>[D.str n]))]) [9,10,11,12,13,14,15,16,17,18,19,20,21,22,23,24,25,26,27,28,29,30,31,32,33,34] (fun x=>[(1,some (.tok ((x.2.2.map fun n=>[D.str n])).length 1))]) (fun x=>x.1<=s.length+1/\x.2.2.length<=x.1/\if x.1=s.length+1 then x.2.2=cutL c [] s else x.2.1<=x.1/\x.2.2++cutL c ((s.take x.1).drop x.2.1) (s.drop x.1)=cutL c [] s) (fun x=>s.length+1-x.1) (0,0,[]) ⟨by simp,by simp,by rw[if_neg oh];simp⟩ ⟨⟨_,I,xaT ?_⟩,⟨⟨_,I,xaT ?_⟩,⟨⟨_,I,LeA.glg ?_⟩,O⟩⟩⟩ ⟨zar ?_,O⟩ (fun x=>rfl) (fun x hg1=>?_)));iterate 4 focus (rfl)
 refine evc [] [] ?_;apply sq<;>intro h1 h1p h1s<;>(try simp only[Q,hu] at h1p);have hne:¬x.1=s.length+1:=oe;have hcond:=hg1.2.2;rw[if_neg hne] at hcond;have hle:=hcond.1;apply sq<;>intro h2 h2p h2s<;>(try simp only[Q,hu] at h2p);refine sqT ?_;refine xbJ un9 .none I I I I I I oe oe ?_;refine si [0] [_] sl43 tz9 ?_;refine ap sl43 zz9 I I I oh ot ?_;refine ev (ar (ar ?_));refine xaj (if x.1=s.length\/nth s x.1=c then (x.1+1,x.1+1,x.2.2++[(s.take x.1).drop x.2.1]) else (x.1+1,x.2.1,x.2.2)) ⟨(by
    have hne:¬x.1=s.length+1:=by omega
    rw[if_neg hne] at hg1;obtain⟨g1,g2,g3,g4⟩:=hg1;by_cases he:x.1=s.length
    ·rw[if_pos (.inl he)];refine⟨by dsimp only;omega,by simp;omega, ?_⟩;dsimp only;rw[if_pos oe,<-g4,he,List.drop_length];rfl
    ·have hlt:x.1<s.length:=by omega
     rw[zbm hlt] at g4;by_cases hc:nth s x.1=c
     ·rw[if_pos (.inr hc)];refine⟨by dsimp only;omega,by simp;omega, ?_⟩;dsimp only;rw[if_neg oe];refine⟨by omega, ?_⟩;rw[<-g4,cutL,if_pos hc,xar];simp
     ·rw[if_neg (by simp[he,hc])];refine⟨by dsimp only;omega,by dsimp only;omega, ?_⟩;dsimp only;rw[if_neg oe];refine⟨by omega, ?_⟩;rw[<-g4,cutL,if_neg hc,zi9 g3 hlt]),(by split<;>(dsimp only;omega)),sx ⟨⟨_,rfl,xaT ?_⟩,⟨⟨_,rfl,xaT ?_⟩,⟨⟨_,rfl,LeA.glg ?_⟩,trivial⟩⟩⟩ ⟨zar ?_,trivial⟩⟩
 iterate 4 focus ((split<;>first|(simp[zjc];done)|(simp;done)|(exfalso;simp_all;done)|(exfalso;simp_all;omega)))
 refine xbO un9 (.some I I h2) I I I I (zaZ oe) ?_;refine evs [] [(19,false)] ?_ ⟨⟨_,I,h2⟩,O⟩;apply sq<;>intro h4 h4p h4s<;>(try simp only[Q,hu] at h4p);refine xbJ un9 .none I I I I I I oe oe ?_;refine si [0] [_] sl43 tz9 ?_;refine ap sl43 zz9 I I I oh ot ?_;refine ev (ar (ar ?_));refine xaj (if x.1=s.length\/nth s x.1=c then (x.1+1,x.1+1,x.2.2++[(s.take x.1).drop x.2.1]) else (x.1+1,x.2.1,x.2.2)) ⟨(by
    have hne:¬x.1=s.length+1:=by omega
    rw[if_neg hne] at hg1;obtain⟨g1,g2,g3,g4⟩:=hg1;by_cases he:x.1=s.length
    ·rw[if_pos (.inl he)];refine⟨by dsimp only;omega,by simp;omega, ?_⟩;dsimp only;rw[if_pos oe,<-g4,he,List.drop_length];rfl
    ·have hlt:x.1<s.length:=by omega
     rw[zbm hlt] at g4;by_cases hc:nth s x.1=c
     ·rw[if_pos (.inr hc)];refine⟨by dsimp only;omega,by simp;omega, ?_⟩;dsimp only;rw[if_neg oe];refine⟨by omega, ?_⟩;rw[<-g4,cutL,if_pos hc,xar];simp
     ·rw[if_neg (by simp[he,hc])];refine⟨by dsimp only;omega,by dsimp only;omega, ?_⟩;dsimp only;rw[if_neg oe];refine⟨by omega, ?_⟩;rw[<-g4,cutL,if_neg hc,zi9 g3 hlt]),(by split<;>(dsimp only;omega)),sx ⟨⟨_,rfl,xaT ?_⟩,⟨⟨_,rfl,xaT ?_⟩,⟨⟨_,rfl,LeA.glg ?_⟩,trivial⟩⟩⟩ ⟨zar ?_,trivial⟩⟩
 iterate 4 focus ((split<;>first|(simp[zjc];done)|(simp;done)|(exfalso;simp_all;done)|(exfalso;simp_all;omega)))
 refine ar ?_;refine xaj (if x.1=s.length\/nth s x.1=c then (x.1+1,x.1+1,x.2.2++[(s.take x.1).drop x.2.1]) else (x.1+1,x.2.1,x.2.2)) ⟨(by
    have hne:¬x.1=s.length+1:=by omega
    rw[if_neg hne] at hg1;obtain⟨g1,g2,g3,g4⟩:=hg1;by_cases he:x.1=s.length
    ·rw[if_pos (.inl he)];refine⟨by dsimp only;omega,by simp;omega, ?_⟩;dsimp only;rw[if_pos oe,<-g4,he,List.drop_length];rfl
    ·have hlt:x.1<s.length:=by omega
     rw[zbm hlt] at g4;by_cases hc:nth s x.1=c
     ·rw[if_pos (.inr hc)];refine⟨by dsimp only;omega,by simp;omega, ?_⟩;dsimp only;rw[if_neg oe];refine⟨by omega, ?_⟩;rw[<-g4,cutL,if_pos hc,xar];simp
     ·rw[if_neg (by simp[he,hc])];refine⟨by dsimp only;omega,by dsimp only;omega, ?_⟩;dsimp only;rw[if_neg oe];refine⟨by omega, ?_⟩;rw[<-g4,cutL,if_neg hc,zi9 g3 hlt]),(by split<;>(dsimp only;omega)),sx ⟨⟨_,rfl,xaT ?_⟩,⟨⟨_,rfl,xaT ?_⟩,⟨⟨_,rfl,LeA.glg ?_⟩,trivial⟩⟩⟩ ⟨zar ?_,trivial⟩⟩
 iterate 4 focus ((split<;>first|rfl|(exfalso;simp_all;done)|(exfalso;simp_all;omega)))
 refine rn0 (r1 I) (.gld ?_);rotate_left;all_goals (have e:x.1=s.length+1:=oe;rw[if_pos e] at hg1;rw[hg1.2.2])
theorem zn0 {b:UInt8} (h1:48<=b.toNat) (h2:b.toNat<=57):IntKind.i64.wrap (IntKind.u8.wrap ((b.toNat:Int)-48))=(b.toNat:Int)-48:=by
 rw[zfU,zdl oe];omega
def zrj (s:Str):Prop:=2<s.length/\nth s (s.length-2)=58
instance (s:Str):Decidable (zrj s):=inferInstanceAs (Decidable (_/\_))
theorem zqw {a b:UInt8}:((a.toNat:Int)=(b.toNat:Int))↔a=b:=by rw[xal];exact UInt8.toNat_inj
theorem zgC (a:UInt8):IntKind.i64.wrap (a.toNat:Int)=(a.toNat:Int):=by have:=a.toNat_lt;exact zdl oe
theorem zmm {c:UInt8}{s:Str}{i:Nat} (h:i<(cutL c [] s).length):(nth (cutL c [] s) i).length<=s.length:=by
 have:=zfZ c s [] _ (zaq h);simpa using this
def decV (n:Int):Str:=strN [IntKind.u8.wrap (48+n)]
theorem zeM (n:Int):(decV n).length=1:=rfl
structure TB (w:List Data):Prop where
 len:w.length<=4
 dn:∀d∈w,d.name.length<=1/\d.ctors.length<=4
 cn:∀d∈w,∀c∈d.ctors,c.name.length<=5/\c.args.length<=3/\0<=c.index/\c.index<=3
 ar:∀d∈w,∀c∈d.ctors,∀t∈c.args,(t.data = -1\/(0<=t.data/\t.data.toNat<w.length))/\ -1<=t.index/\t.index<=3
theorem zm0 {w:List Data} (hv:zbu w=true):TB w:=by
 have hW:=(zdb w).1 hv;refine⟨hW.len,fun d hd=>?_,fun d hd c hc=>?_,fun d hd c hc t ht=>?_⟩
 ·have h:=hW.data d hd;have h1:=h.1;simp only[zbi,xad,xah] at h1;omega
 ·have h:=hW.ctor d hd c hc;simp only[zbz,zcr,zaF,xad,xah] at h;omega
 ·have h:=hW.ctor d hd c hc;simp only[zbz,xad,Bool.not_eq_true',List.any_eq_false] at h;have hax:zbM w.length t=true:=by
   have:=h.2.2.2 t ht;cases h:zbM w.length t with
   |true=>rfl
   |false=>rw[h] at this;exact absurd I this
  simp only[zbM,zaF,Bool.or_eq_true,xad,xah,and_true] at hax;omega
theorem zc7 {n:Int} (h0:0<=n) (h9:n<=9):FnD Tryz.prog 72 [.d (.i n)] [] (.d (.str (decV n))) []:=by
 refine bd Tryz.f72 31 [30] [] fun _ _ _ _ hk=>?_;apply sq<;>intro h1 h1p h1s<;>(try simp only[Q] at h1p);exfalso;omega;apply sq<;>intro h2 h2p h2s<;>(try simp only[Q] at h2p);exfalso;omega;refine xaD (ι:=Unit) hk (fun x=>[(0,.d (.i n)),(3,.d (.str []))]) [12,13,14,15,16,17,18,19,20,21,22,23] (fun x=>[]) (fun x=>True) (fun x=>0) () O ⟨⟨_,I,xaT ?_⟩,⟨⟨_,I,xaU ?_⟩,O⟩⟩ O (fun x=>rfl) (fun x hg1=>?_);iterate 2 focus (first|rfl|omega)
 refine evc [30] [] ?_;apply sq<;>intro h3 h3p h3s<;>(try simp only[Q] at h3p);exfalso;omega;refine ar (xbG (by rw[un3];rfl) un5 .none I I ?_);refine si [0] [_] sl79 tz5 ?_;refine xbz sl79 un9 oj .none I I I (by first|rfl|exact zgt _) ?_;refine evs [30] [] (xbE .none I I I (by simp[strN]) ?_);refine evs [30] [] (rq ?_);rotate_left;all_goals (rfl)
def zjK (n:Nat):UInt8:=UInt8.ofNat (IntKind.u8.wrap (48+(n:Int) % 10)).toNat
def digs (n:Nat):Str:=if n=0 then [] else digs (n / 10)++[zjK n]
theorem zlb:digs 0=[]:=by unfold digs;rfl
theorem zmq {n:Nat} (h:0<n):digs n=digs (n / 10)++[zjK n]:=by
 conv=>lhs;unfold digs
 rw[if_neg oe]
theorem zmp:∀n:Nat,(digs n).length<=n
 |0=>by rw[zlb];simp
 |n+1=>by
  rw[zmq oe];have:=zmp ((n+1) / 10);simp only[xaa,xab,xak];omega
termination_by n=>n
decreasing_by omega
def ziJ (n:Nat):Str:=109::digs n
def Ty.one (k:Int) (_:Ty):Ty:=⟨k,k+1⟩
def Ty.sz (_:Ty):Int:=2
def Ctor.one (k:Int) (x:Ctor):Ctor:=⟨ziJ k.toNat,mkL Ty.one Ty.sz (k+1) x.args,k+1+szL Ty.sz x.args⟩
def Ctor.sz (x:Ctor):Int:=2+szL Ty.sz x.args
def Data.one (k:Int) (x:Data):Data:=⟨ziJ k.toNat,mkL Ctor.one Ctor.sz (k+1) x.ctors⟩
def Data.sz (x:Data):Int:=1+szL Ctor.sz x.ctors
theorem xbk (x:Ty):0<=x.sz:=by simp[Ty.sz]
theorem xaP (x:Ctor):0<=x.sz:=by have:=zaU (l:=x.args) xbk;unfold Ctor.sz;omega
theorem xaQ (x:Data):0<=x.sz:=by have:=zaU (l:=x.ctors) xaP;unfold Data.sz;omega
theorem znI:∀l:List Ty,szL Ty.sz l=2*l.length
 | []=>rfl
 |x::r=>by simp only[szL,znI r,Ty.sz,xab];omega
theorem zdF {α:Type}{sz:α->Int}{pre rest l:List α}{y:α} (h:pre++y::rest=l):szL sz l=szL sz pre+sz y+szL sz rest:=by
 subst h;rw[zhz];simp only[szL];omega
theorem zjl {n:Nat} (hn:0<n) (hb:(n:Int)<=1000000000000):FnD Tryz.prog 30 [.d (.i (n:Int))] [] (.d (.str (ziJ n))) []:=by
 have hl:=zmp n;refine bd Tryz.f30 20 [9,15,17,19] [] fun _ _ _ _ hk=>?_;apply sq<;>intro h1 h1p h1s<;>(try simp only[Q] at h1p);exfalso;omega;refine xaD (ι:=Nat×Str) hk (fun x=>[(0,.d (.i (x.1:Int))),(3,.d (.str x.2))]) [6,7,8,9,10,11,12,13,14,15,16,17] (fun x=>[]) (fun x=>digs x.1++x.2=digs n/\x.1<=n) (fun x=>x.1) (n,[]) oh ⟨⟨_,I,xaT ?_⟩,⟨⟨_,I,xaU ?_⟩,O⟩⟩ O (fun x=>rfl) (fun x hg1=>?_);iterate 2 focus (first|rfl|(dsimp only;omega)|(simp[strN,zjK];done))
 refine evc [9,15,17,19] [] ?_;apply sq<;>intro h2 h2p h2s<;>(try simp only[Q] at h2p);refine Walk.remI .none I I I oe ?_;refine evs [9,15,17,19] [] (ar (xbG (by rw[un3];rfl) un5 .none I I ?_));refine si [0] [_] sl79 tz5 ?_;refine xbz sl79 un9 oj .none I I I (by first|rfl|exact zgt _) ?_;refine evs [9,15,17,19] [] (xbE .none I I I (by have hz:=xam List.length hg1.1;simp[strN] at hz ⊢;omega) ?_);refine evs [9,15,17,19] [] (Walk.quoI .none I I I oe ?_);refine evs [9,15,17,19] [] (xaj ((x.1 / 10,zjK x.1::x.2)) ⟨⟨(by rw[<-hg1.1,zmq (n:=x.1) oe];simp),(by have:=hg1.2;dsimp only;omega)⟩,(by dsimp only;omega),sx ⟨⟨_,I,xaT ?_⟩,⟨⟨_,I,xaU ?_⟩,O⟩⟩ O⟩);iterate 2 focus (first|rfl|(dsimp only;omega)|(simp[strN,zjK];done))
 refine xbE .none I I I (by have hz:=xam List.length hg1.1;simp[strN] at hz ⊢;omega) ?_;refine evs [9,15,17,19] [] (rq ?_);rotate_left;all_goals (first|(exfalso;omega)|rfl|(refine xam D.str ?_;have hz:x.1=0:=oe;have hy:=hg1.1;rw[hz,zlb,List.nil_append] at hy;rw[hy];rfl))
theorem zgn {k:Int} (h0:0<k) (hb:k<=1000000000000):FnD Tryz.prog 30 [.d (.i k)] [] (.d (.str (ziJ k.toNat))) []:=by
 have hz:=zjl (n:=k.toNat) oe oe;rw[show((k.toNat:Nat):Int)=k by omega] at hz;exact hz
theorem od{p:Prop}(h:p:=by first|rfl|(simp only[zae,occH,occE,Res.ids,xai,List.nil_append,AV.idsL,AV.ids,zab,zaa,zad,zai,xaf,List.map_nil,upC];rfl)):p:=h
theorem og{p:Prop}(h:p:=by first|rfl|(simp only[zas,List.all_cons,List.all_nil,zaG,zay,AV.idsL,AV.ids,zab,zaa,xaf,List.map_nil];rfl)):p:=h
theorem zj2 {l:List Ty} (h:l.length<=1000000000000):FnD Tryz.prog 102 [.d (za9 l)] [] (.ms 61 l.length) [(61,some (.tree (zag false (l.map Ty.c))))]:=by
 refine bd Tryz.f102 23 [] [2] fun _ _ _ _ hk=>?_;refine xbU (id:=61) sl78 tz31 I oi (zcQ I) .none I I I ot ot I I I ?_;refine ev (CWp.boxTree 61 false I I (zfN _ _ _) (evc [] [] (xaD (ι:=List (Ty)×List (Ty)) hk (fun x=>[(4,.d (.i (x.1.length:Int)))]) [8,9,10,11,12,13,14,15,16,17,18,19,20,21] (fun x=>[(61,some (.tree (zag false (x.1.map Ty.c)++zaV x.2.length [.d (.i 0),.d (.i 0)])))]) (fun x=>x.1++x.2=l) (fun x=>x.2.length) ([],l) oh ⟨⟨_,I,xaT ?_⟩,O⟩ ⟨?_,O⟩ (fun x=>rfl) (fun x hg1=>?_))));focus (first|rfl|(simp;done)|(simp_all;done)|omega)
 focus (first|rfl|(show some (Res.tree _)=some (Res.tree _);rw[xag,List.map_singleton,<-zbX];rfl)|(show some (Res.tree _)=some (Res.tree _);simp[zbG];rfl))
 obtain⟨pre,rest⟩:=x;dsimp only at hg1 ⊢;refine evc [] [2] ?_;apply sq<;>intro h1 h1p h1s<;>(try simp only[Q] at h1p);rcases rest with _|⟨y,rest⟩
 ·exfalso;simp_all
 refine ixq zqr I I I (zbd hg1) I (ev (Walk.call (cr:=[]) cal7 zbO I .none I I (LeL.refl _) O I og od ?_));refine xbN sl78 .none I I I I ox ?_;refine xb6 ty31 .none I I I I I I oh ((zih (zec false ud) I)) ?_;apply tv;refine ar (xaj ((pre++[y],rest)) ⟨(by have hz:=hg1;rw[<-hz];simp),oh,sx ⟨⟨_,I,xaT ?_⟩,O⟩ ⟨?_,O⟩⟩);focus (first|rfl|(simp;done)|(simp_all;done)|omega)
 focus (first|rfl|(show some (Res.tree _)=some (Res.tree _);rw[xag,List.map_singleton,<-zbX];rfl)|(show some (Res.tree _)=some (Res.tree _);simp[zbG];rfl))
 have hrest:rest=[]:=by
  rcases rest with _|⟨a,b⟩
  ·rfl
  ·exfalso;have hz:=xam List.length (hg1);simp only[xaa,xab,xac] at hz;omega
 subst hrest;refine rn [(61,some (.tree (zag false (l.map Ty.c))))] (r1 I) (xaV ?_) ⟨I,I⟩ (SubH.get ⟨?_,O⟩) (zao I);rotate_left 2;all_goals (first|((first|rfl|(simp;done));done)|(first|rfl|(rw[xaq] at hg1;subst hg1;show some (Res.tree _)=some (Res.tree _);simp[zaV];done)))
theorem zkN {s:Str}{args:List Ty}{k:Int} (h:args.length<=1000000000000):FnD Tryz.prog 73 [.agg [.d (.str s),.d (za9 args),.d (.i k)]] [] (.agg [.d (.str s),.ms 61 args.length,.d (.i k)]) [(61,some (.tree (zag false (args.map Ty.c))))]:=by
 refine bd Tryz.f73 15 [] [] fun _ _ _ _ hk=>?_;refine bx 3001 ?_;refine ab 3002 zfc ?_;apply tv;refine ab 3003 zfc ?_;apply tv;refine so ty9 ?_;apply tv;refine Walk.call (cr:=[61]) zoj (zj2 h) I .none I I (LeL.refl _) O I og od ?_;refine ev (so ty78 ?_);apply tv;refine so ty3 ?_;apply tv;refine so zfb ?_;apply tv;focus (refine rn [(61,some (.tree (zag false (args.map Ty.c))))] (ra zfb) (.agg (.cons (.eqd ?_) (.cons (xaV ?_) (qe ?_)))) ⟨I,I⟩ (SubH.get ⟨I,O⟩) (zao I);all_goals (first|rfl|(simp[];done)|(simp_all;done)|(simp_all;omega)|omega))
theorem zj0 {l:List Ctor} (hs:CSmall l):FnD Tryz.prog 45 [.d (zbN l)] [] (.ms 62 l.length) [(62,some (.tree (zag false (l.map Ctor.c))))]:=by
 have h:=hs.len;refine bd Tryz.f45 23 [] [2,4] fun _ _ _ _ hk=>?_;refine xbU (id:=62) sl57 zfc I oi (zcQ I) .none I I I ot ot I I I ?_;refine ev (CWp.boxTree 62 false I I (zfN _ _ _) (evc [] [] (xaD (ι:=List (Ctor)×List (Ctor)) hk (fun x=>[(4,.d (.i (x.1.length:Int)))]) [8,9,10,11,12,13,14,15,16,17,18,19,20,21] (fun x=>[(62,some (.tree (zag false (x.1.map Ctor.c)++zaV x.2.length [.d (.str []),.own false (.sl []),.d (.i 0)])))]) (fun x=>x.1++x.2=l) (fun x=>x.2.length) ([],l) oh ⟨⟨_,I,xaT ?_⟩,O⟩ ⟨?_,O⟩ (fun x=>rfl) (fun x hg1=>?_))));focus (first|rfl|(simp;done)|(simp_all;done)|omega)
 focus (first|rfl|(show some (Res.tree _)=some (Res.tree _);rw[xag,List.map_singleton,<-zbX];rfl)|(show some (Res.tree _)=some (Res.tree _);simp[zbG];rfl))
 obtain⟨pre,rest⟩:=x;dsimp only at hg1 ⊢;refine evc [] [2,4] ?_;apply sq<;>intro h1 h1p h1s<;>(try simp only[Q] at h1p);rcases rest with _|⟨y,rest⟩
 ·exfalso;simp_all
 refine ixq sl39 I I I (zbd hg1) I (ev (Walk.call (cr:=[61]) zqd (zkN (hs.ctor y (by rw[<-hg1];simp)).2) I .none I I (LeL.refl _) O I og od ?_));refine xbN sl57 .none I I I I ox ?_;refine xb6 zfb .none I I I I I I oh ((zih (zec (k:=3) false ud) I)) ?_;apply tv;refine CWp.merge hk 62 (pre.length*3+1) 61 2 _ I (za5 (zec (k:=3) false ud) I) (by simp[zal]) I (by first|(intro x hx;simp at hx;obtain⟨y,_,rfl⟩:=hx;rfl)|(intro x hx;obtain⟨y,_,rfl⟩:=List.mem_map.1 hx;rfl)) I I (zaI (zec (k:=3) false ud) (zck I)) ?_;refine evc [] [] (ar (xaj ((pre++[y],rest)) ⟨(by have hz:=hg1;rw[<-hz];simp),oh,sx ⟨⟨_,I,xaT ?_⟩,O⟩ ⟨?_,O⟩⟩));focus (first|rfl|(simp;done)|(simp_all;done)|omega)
 focus (first|rfl|(show some (Res.tree _)=some (Res.tree _);rw[xag,List.map_singleton,<-zbX];rfl)|(show some (Res.tree _)=some (Res.tree _);simp[zbG];rfl))
 have hrest:rest=[]:=by
  rcases rest with _|⟨a,b⟩
  ·rfl
  ·exfalso;have hz:=xam List.length (hg1);simp only[xaa,xab,xac] at hz;omega
 subst hrest;refine rn [(62,some (.tree (zag false (l.map Ctor.c))))] (r1 I) (xaV ?_) ⟨I,I⟩ (SubH.get ⟨?_,O⟩) (zao I);rotate_left 2;all_goals (first|((first|rfl|(simp;done));done)|(first|rfl|(rw[xaq] at hg1;subst hg1;show some (Res.tree _)=some (Res.tree _);simp[zaV];done)))
theorem zkP {s:Str}{cs:List Ctor} (h:CSmall cs):FnD Tryz.prog 21 [.agg [.d (.str s),.d (zbN cs)]] [] (.agg [.d (.str s),.ms 62 cs.length]) [(62,some (.tree (zag false (cs.map Ctor.c))))]:=by
 refine bd Tryz.f21 12 [] [] fun _ _ _ _ hk=>?_;refine bx 3001 ?_;refine ab 3002 tz59 ?_;apply tv;refine ab 3003 tz59 ?_;apply tv;refine so ty9 ?_;apply tv;refine Walk.call (cr:=[62]) zp7 (zj0 h) I .none I I (LeL.refl _) O I og od ?_;refine ev (so ty57 ?_);apply tv;refine so ty59 ?_;apply tv;focus (refine rn [(62,some (.tree (zag false (cs.map Ctor.c))))] (ra ty59) (.agg (.cons (.eqd ?_) (.cons (xaV ?_) .nil))) ⟨I,I⟩ (SubH.get ⟨I,O⟩) (zao I);all_goals (first|rfl|(simp[];done)|(simp_all;done)|(simp_all;omega)|omega))
theorem zgp {l:List Data} (hs:WSmall l):FnD Tryz.prog 6 [.d (zam l)] [] (.ms 63 l.length) [(63,some (.tree (zag false (l.map Data.c))))]:=by
 have h:=hs.len;refine bd Tryz.f6 23 [] [2,4] fun _ _ _ _ hk=>?_;refine xbU (id:=63) sl29 tz59 I oi (zcQ I) .none I I I ot ot I I I ?_;refine ev (CWp.boxTree 63 false I I (zfN _ _ _) (evc [] [] (xaD (ι:=List (Data)×List (Data)) hk (fun x=>[(4,.d (.i (x.1.length:Int)))]) [8,9,10,11,12,13,14,15,16,17,18,19,20,21] (fun x=>[(63,some (.tree (zag false (x.1.map Data.c)++zaV x.2.length [.d (.str []),.own false (.sl [])])))]) (fun x=>x.1++x.2=l) (fun x=>x.2.length) ([],l) oh ⟨⟨_,I,xaT ?_⟩,O⟩ ⟨?_,O⟩ (fun x=>rfl) (fun x hg1=>?_))));focus (first|rfl|(simp;done)|(simp_all;done)|omega)
 focus (first|rfl|(show some (Res.tree _)=some (Res.tree _);rw[xag,List.map_singleton,<-zbX];rfl)|(show some (Res.tree _)=some (Res.tree _);simp[zbG];rfl))
 obtain⟨pre,rest⟩:=x;dsimp only at hg1 ⊢;refine evc [] [2,4] ?_;apply sq<;>intro h1 h1p h1s<;>(try simp only[Q] at h1p);rcases rest with _|⟨y,rest⟩
 ·exfalso;simp_all
 refine ixq sl22 I I I (zbd hg1) I (ev (Walk.call (cr:=[62]) zpX (zkP (hs.cs (d:=y) (by rw[<-hg1];simp))) I .none I I (LeL.refl _) O I og od ?_));refine xbN sl29 .none I I I I ox ?_;refine xb6 ty59 .none I I I I I I oh ((zih (zec (k:=2) false ud) I)) ?_;apply tv;refine CWp.merge hk 63 (pre.length*2+1) 62 3 _ I (za5 (zec (k:=2) false ud) I) (by simp[zal]) I (by first|(intro x hx;simp at hx;obtain⟨y,_,rfl⟩:=hx;rfl)|(intro x hx;obtain⟨y,_,rfl⟩:=List.mem_map.1 hx;rfl)) I I (zaI (zec (k:=2) false ud) (zck I)) ?_;refine evc [] [] (ar (xaj ((pre++[y],rest)) ⟨(by have hz:=hg1;rw[<-hz];simp),oh,sx ⟨⟨_,I,xaT ?_⟩,O⟩ ⟨?_,O⟩⟩));focus (first|rfl|(simp;done)|(simp_all;done)|omega)
 focus (first|rfl|(show some (Res.tree _)=some (Res.tree _);rw[xag,List.map_singleton,<-zbX];rfl)|(show some (Res.tree _)=some (Res.tree _);simp[zbG];rfl))
 have hrest:rest=[]:=by
  rcases rest with _|⟨a,b⟩
  ·rfl
  ·exfalso;have hz:=xam List.length (hg1);simp only[xaa,xab,xac] at hz;omega
 subst hrest;refine rn [(63,some (.tree (zag false (l.map Data.c))))] (r1 I) (xaV ?_) ⟨I,I⟩ (SubH.get ⟨?_,O⟩) (zao I);rotate_left 2;all_goals (first|((first|rfl|(simp;done));done)|(first|rfl|(rw[xaq] at hg1;subst hg1;show some (Res.tree _)=some (Res.tree _);simp[zaV];done)))
theorem oy{p:Prop}(h:p:=by intro x;rfl):p:=h
theorem ziW {m:Bool}{l:List Ty}{k:Int} (h0:0<=k) (h1:k+szL Ty.sz l<=1000000000000) (hl:l.length<=1000000000000):FnD Tryz.prog 58 [.ms 41 l.length,.d (.i k)] [(41,some (.tree (zag m (l.map Ty.c))))]
  (.d (.i (k+szL Ty.sz l))) [(41,some (.tree (zag m ((mkL Ty.one Ty.sz k l).map Ty.c))))]:=by
 refine bd Tryz.f58 27 [] [] fun _ _ _ _ hk=>?_;refine xaD (ι:=List (Ty)×List (Ty)×(Int)) hk (fun x=>[(5,.d (.i (x.1.length:Int))),(1,.d (.i x.2.2))]) [6,7,8,9,10,11,12,13,14,15,16,17,18,19,20,21,22,23,24,25] (fun x=>[(41,some (.tree (zag m ((mkL Ty.one Ty.sz k x.1).map Ty.c)++zag m (x.2.1.map Ty.c))))]) (fun x=>x.1++x.2.1=l/\x.2.2=k+szL Ty.sz x.1) (fun x=>x.2.1.length) ([],l,k) ⟨by simp,by simp[szL]⟩ ⟨⟨_,I,xaT ?_⟩,⟨⟨_,I,xaT ?_⟩,O⟩⟩ ⟨?_,O⟩ (fun x=>rfl) (fun x hg1=>?_);iterate 2 focus (first|rfl|(simp;done)|omega|(refine Eq.trans (b:=v+2) ?_ I;omega))
 focus (first|rfl|(show some (Res.tree _)=some (Res.tree _);rw[zbS,xag,List.map_singleton,<-zbX,hg1.2];rfl))
 obtain⟨pre,rest,v⟩:=x;dsimp only at hg1 ⊢;refine evc [] [] ?_;apply sq<;>intro h1 h1p h1s<;>(try simp only[Q] at h1p);rcases rest with _|⟨y,rest⟩
 ·exfalso;simp_all
 have hsp:=zdF (sz:=Ty.sz) hg1.1;have hnn:=zaU (l:=rest) xbk;have hnp:=zaU (l:=pre) xbk;have hys:Ty.sz y=2:=rfl;have hv:=hg1.2;refine xbN sl78 .none I I I I ox ?_;refine ev (xb6 ty3 .none I I I I I I oh ((zaI (zaK (kk:=2) m oy) zgY)) ?_);apply tv;refine ar (xbN sl78 .none I I I I ox ?_);refine ev (xb6 ty3 .none I I I I I I oh ((zaI (zaK (kk:=2) m oy) zc3)) ?_);apply tv;refine ar (ar (xaj ((pre++[y],rest,v+Ty.sz y)) ⟨⟨(by have hz:=hg1.1;rw[<-hz];simp),(by show v+Ty.sz y=_;rw[zcA,hg1.2];omega)⟩,oh,sx ⟨⟨_,I,xaT ?_⟩,⟨⟨_,I,xaT ?_⟩,O⟩⟩ ⟨?_,O⟩⟩));iterate 2 focus (first|rfl|(simp;done)|omega|(refine Eq.trans (b:=v+2) ?_ I;omega))
 focus (first|rfl|(show some (Res.tree _)=some (Res.tree _);rw[zbS,xag,List.map_singleton,<-zbX,hg1.2];rfl))
 have hrest:rest=[]:=by
  rcases rest with _|⟨a,b⟩
  ·rfl
  ·exfalso;have hz:=xam List.length (hg1.1);simp only[xaa,xab,xac] at hz;omega
 subst hrest;refine rn [(41,some (.tree (zag m ((mkL Ty.one Ty.sz k l).map Ty.c))))] (r1 I) (.eqd ?_) ⟨I,I⟩ (SubO.get ⟨.inr ?_,⟨.inl I,O⟩⟩) (zao I);rotate_left 2;all_goals (first|((first|rfl|(obtain⟨hg1,hv⟩:=hg1;rw[xaq] at hg1;subst hg1;rw[hv]));done)|(first|rfl|(obtain⟨hg1,_⟩:=hg1;rw[xaq] at hg1;subst hg1;show some (Res.tree _)=some (Res.tree _);simp[zbG];done)))
theorem zia {l:List Ty}{k:Int} (hl:l=[]):FnD Tryz.prog 58 [.d (.sl []),.d (.i k)] [] (.d (.i (k+szL Ty.sz l))) []:=by
 subst hl;refine bd Tryz.f58 27 [] [] fun _ _ _ _ hk=>?_;refine xaD (ι:=Unit) hk (fun x=>[(5,.d (.i 0)),(1,.d (.i k))]) [6,7,8,9,10,11,12,13,14,15,16,17,18,19,20,21,22,23,24,25] (fun x=>[]) (fun x=>True) (fun x=>0) () O ⟨⟨_,I,xaT ?_⟩,⟨⟨_,I,xaT ?_⟩,O⟩⟩ O (fun x=>rfl) (fun x hg1=>?_);iterate 2 focus (first|rfl|(simp;done)|(simp_all;done)|omega)
 refine evc [] [] ?_;apply sq<;>intro h1 h1p h1s<;>(try simp only[Q] at h1p);exfalso;revert h1;simp;refine rq ?_;rotate_left;all_goals (first|rfl|(simp[szL];done))
def ren (i j:Nat):AV->AV
 | .ms a n=>if a=i then .ms j n else .ms a n
 |x=>x
theorem o7{p:Prop}(h:p:=by first|rfl|(simp;done)):p:=h
theorem ziU {l:List Ctor}{k:Int} (h0:0<k) (h1:k+szL Ctor.sz l<=1000000000000) (hl:CSmall l):FnD Tryz.prog 31 [.ms 42 l.length,.d (.i k)] [(42,some (.tree (zag false (l.map Ctor.c))))]
  (.d (.i (k+szL Ctor.sz l))) [(42,some (.tree (zag false ((mkL Ctor.one Ctor.sz k l).map Ctor.c))))]:=by
 have hl0:=hl.len;refine bd Tryz.f31 35 [24] [6,7,1000009] fun _ _ _ _ hk=>?_;refine xaD (ι:=List (Ctor)×List (Ctor)×(Int)) hk (fun x=>[(5,.d (.i (x.1.length:Int))),(1,.d (.i x.2.2))]) [6,7,8,9,10,11,12,13,14,15,16,17,18,19,20,21,22,23,24,25,26,27,28,29,30,31,32,33] (fun x=>[(42,some (.tree (zag false ((mkL Ctor.one Ctor.sz k x.1).map Ctor.c)++zag false (x.2.1.map Ctor.c))))]) (fun x=>x.1++x.2.1=l/\x.2.2=k+szL Ctor.sz x.1) (fun x=>x.2.1.length) ([],l,k) ⟨by simp,by simp[szL]⟩ ⟨⟨_,I,xaT ?_⟩,⟨⟨_,I,xaT ?_⟩,O⟩⟩ ⟨?_,O⟩ (fun x=>rfl) (fun x hg1=>?_);iterate 2 focus (first|rfl|(simp;done)|omega|(refine Eq.trans (b:=v+Ctor.sz y) ?_ I;omega))
 focus (first|rfl|(show some (Res.tree _)=some (Res.tree _);rw[zbS,xag,List.map_singleton,<-zbX,<-hg1.2];rfl))
 obtain⟨pre,rest,v⟩:=x;dsimp only at hg1 ⊢;refine evc [24] [6,7,1000009] (cq (fun h1 h1p h1s=>?_) fun h1 h1p h1s=>?_);try simp only[Q] at h1p
 rcases rest with _|⟨y,rest⟩
 ·exfalso;simp_all
 have hsp:=zdF (sz:=Ctor.sz) hg1.1;have hnn:=zaU (l:=rest) xaP;have hnp:=zaU (l:=pre) xaP;have hys:Ctor.sz y=2+szL Ty.sz y.args:=rfl;have hya:=zaU (l:=y.args) xbk;have hv:=hg1.2;refine xaF 42 (zag false ((mkL Ctor.one Ctor.sz k pre).map Ctor.c)++(.d (.str y.name):: .own false (za9 y.args):: .d (.i y.index)::zag false (rest.map Ctor.c))) I I (evc [24] [6,7,1000009] (Walk.call (cr:=[]) zp3 (zgn oe oe) I .none I I (LeL.refl _) O I og od ?_));refine xbN sl57 .none I I I I ox ?_;refine evs [24] [] (xb6 ty9 .none I I I I I I oh ((zaI (zaK (kk:=3) false oy) zgY)) ?_);apply tv;refine ar ?_;by_cases hs2:y.args=[]
 refine xaz 42 (pre.length*3+1) I (za5 (zaK (kk:=3) false oy) I) (by simp[hs2]) (zaI (zaK (kk:=3) false oy) zc3) ?_;refine evc [24] [] (xbN sl57 .none I I I I ox ?_);refine evs [24] [] (xbT ty78 .none I I I ((by rw[za5 (zaK (kk:=3) false oy) rfl];rfl)) ?_);refine evs [24] [] (Walk.call (cr:=[]) zqa (zia hs2) I .none I I (LeL.refl _) O I og od ?_);refine evs [24] [] (xaB 42 (pre.length*3+1) false I (xs:=(mkL Ty.one Ty.sz (v+1) y.args).map Ty.c) I (za5 (zaK (kk:=3) false oy) I) (by simp[hs2,mkL]) (zaI (zaK (kk:=3) false oy) zc3) ?_);refine evc [24] [] (xbN sl57 .none I I I I ox ?_);refine evs [24] [] (xb6 ty3 .none I I I I I I oh ((zaI (zaK (kk:=3) false oy) ziO)) ?_);apply tv;refine ar (ar (xaj ((pre++[y],rest,v+Ctor.sz y)) ⟨⟨(by have hz:=hg1.1;rw[<-hz];simp),(by show v+Ctor.sz y=_;rw[zcA,hg1.2];omega)⟩,oh,sx ⟨⟨_,I,xaT ?_⟩,⟨⟨_,I,xaT ?_⟩,O⟩⟩ ⟨?_,O⟩⟩));iterate 2 focus (first|rfl|(simp;done)|omega|(refine Eq.trans (b:=v+Ctor.sz y) ?_ I;omega))
 focus (first|rfl|(show some (Res.tree _)=some (Res.tree _);rw[zbS,xag,List.map_singleton,<-zbX,<-hg1.2];rfl))
 refine CWp.split 42 (pre.length*3+1) 41 I (za5 (zaK (kk:=3) false oy) I) (by simp[hs2]) od (zaI (zaK (kk:=3) false oy) zc3) ?_;refine evc [24] [] (xbN sl57 .none I I I I ox ?_);refine evs [24] [] (xbT ty78 .none I I I ((by rw[za5 (zaK (kk:=3) false oy) rfl];rfl)) ?_);refine evs [24] [] (Walk.call (cr:=[]) zqa (ziW (m:=false) (l:=y.args) (k:=v+1) oe oe (hl.ctor y (by rw[<-hg1.1];simp)).2) I .none I I (.cons (xaV o7) (.cons (.refl _) .nil)) ⟨by first|rfl|(simp;rfl),O⟩ I og od ?_);refine evs [24] [] (CWp.merge hk 42 (pre.length*3+1) 41 2 _ I (za5 (zaK (kk:=3) false oy) I) (by simp[zal]) I (by first|(intro x hx;simp at hx;obtain⟨y,_,rfl⟩:=hx;rfl)|(intro x hx;obtain⟨y,_,rfl⟩:=List.mem_map.1 hx;rfl)) I I (zaI (zaK (kk:=3) false oy) zc3) ?_);refine evc [24] [] (xbN sl57 .none I I I I ox ?_);refine evs [24] [] (xb6 ty3 .none I I I I I I oh ((zaI (zaK (kk:=3) false oy) ziO)) ?_);apply tv;refine ar (ar (xaj ((pre++[y],rest,v+Ctor.sz y)) ⟨⟨(by have hz:=hg1.1;rw[<-hz];simp),(by show v+Ctor.sz y=_;rw[zcA,hg1.2];omega)⟩,oh,sx ⟨⟨_,I,xaT ?_⟩,⟨⟨_,I,xaT ?_⟩,O⟩⟩ ⟨?_,O⟩⟩));iterate 2 focus (first|rfl|(simp;done)|omega|(refine Eq.trans (b:=v+Ctor.sz y) ?_ I;omega))
 focus (first|rfl|(show some (Res.tree _)=some (Res.tree _);rw[zbS,xag,List.map_singleton,<-zbX,<-hg1.2];rfl))
 try simp only[Q] at h1p
 have hrest:rest=[]:=by
  rcases rest with _|⟨a,b⟩
  ·rfl
  ·exfalso;have hz:=xam List.length (hg1.1);simp only[xaa,xab,xac] at hz;omega
 subst hrest;refine evc [24] [6,7,1000009] (rn [(42,some (.tree (zag false ((mkL Ctor.one Ctor.sz k l).map Ctor.c))))] (r1 I) (.eqd ?_) ⟨I,I⟩ (SubO.get ⟨.inr ?_,⟨.inl I,O⟩⟩) (zao I));rotate_left 2;all_goals (first|((first|rfl|(obtain⟨hg1,hv⟩:=hg1;rw[xaq] at hg1;subst hg1;rw[hv]));done)|(first|rfl|(obtain⟨hg1,_⟩:=hg1;rw[xaq] at hg1;subst hg1;show some (Res.tree _)=some (Res.tree _);simp[zbG];done)))
theorem zh9 {l:List Ctor}{k:Int} (hl:l=[]):FnD Tryz.prog 31 [.d (.sl []),.d (.i k)] [] (.d (.i (k+szL Ctor.sz l))) []:=by
 subst hl;refine bd Tryz.f31 35 [] [] fun _ _ _ _ hk=>?_;refine xaD (ι:=Unit) hk (fun x=>[(5,.d (.i 0)),(1,.d (.i k))]) [6,7,8,9,10,11,12,13,14,15,16,17,18,19,20,21,22,23,24,25,26,27,28,29,30,31,32,33] (fun x=>[]) (fun x=>True) (fun x=>0) () O ⟨⟨_,I,xaT ?_⟩,⟨⟨_,I,xaT ?_⟩,O⟩⟩ O (fun x=>rfl) (fun x hg1=>?_);iterate 2 focus (first|rfl|(simp;done)|(simp_all;done)|omega)
 refine evc [] [] ?_;apply sq<;>intro h1 h1p h1s<;>(try simp only[Q] at h1p);exfalso;revert h1;simp;refine rq ?_;rotate_left;all_goals (first|rfl|(simp[szL];done))
theorem ziV {l:List Data}{k:Int} (h0:0<k) (h1:k+szL Data.sz l<=1000000000000) (hl:WSmall l):FnD Tryz.prog 11 [.ms 43 l.length,.d (.i k)] [(43,some (.tree (zag false (l.map Data.c))))]
  (.d (.i (k+szL Data.sz l))) [(43,some (.tree (zag false ((mkL Data.one Data.sz k l).map Data.c))))]:=by
 have hl0:=hl.len;refine bd Tryz.f11 28 [24] [3,6,1000009] fun _ _ _ _ hk=>?_;refine xaD (ι:=List (Data)×List (Data)×(Int)) hk (fun x=>[(5,.d (.i (x.1.length:Int))),(1,.d (.i x.2.2))]) [6,7,8,9,10,11,12,13,14,15,16,17,18,19,20,21,22,23,24,25,26] (fun x=>[(43,some (.tree (zag false ((mkL Data.one Data.sz k x.1).map Data.c)++zag false (x.2.1.map Data.c))))]) (fun x=>x.1++x.2.1=l/\x.2.2=k+szL Data.sz x.1) (fun x=>x.2.1.length) ([],l,k) ⟨by simp,by simp[szL]⟩ ⟨⟨_,I,xaT ?_⟩,⟨⟨_,I,xaT ?_⟩,O⟩⟩ ⟨?_,O⟩ (fun x=>rfl) (fun x hg1=>?_);iterate 2 focus (first|rfl|(simp;done)|omega|(refine Eq.trans (b:=v+Data.sz y) ?_ I;omega))
 focus (first|rfl|(show some (Res.tree _)=some (Res.tree _);rw[zbS,xag,List.map_singleton,<-zbX,<-hg1.2];rfl))
 obtain⟨pre,rest,v⟩:=x;dsimp only at hg1 ⊢;refine evc [24] [3,6,1000009] (cq (fun h1 h1p h1s=>?_) fun h1 h1p h1s=>?_);try simp only[Q] at h1p
 rcases rest with _|⟨y,rest⟩
 ·exfalso;simp_all
 have hsp:=zdF (sz:=Data.sz) hg1.1;have hnn:=zaU (l:=rest) xaQ;have hnp:=zaU (l:=pre) xaQ;have hys:Data.sz y=1+szL Ctor.sz y.ctors:=rfl;have hya:=zaU (l:=y.ctors) xaP;have hv:=hg1.2;refine xaF 43 (zag false ((mkL Data.one Data.sz k pre).map Data.c)++(.d (.str y.name):: .own false (zbN y.ctors)::zag false (rest.map Data.c))) I I (evc [24] [3,6,1000009] (Walk.call (cr:=[]) zp3 (zgn oe oe) I .none I I (LeL.refl _) O I og od ?_));refine xbN sl29 .none I I I I ox ?_;refine evs [24] [] (xb6 ty9 .none I I I I I I oh ((zaI (zaK (kk:=2) false oy) zgY)) ?_);apply tv;refine ar ?_;by_cases hs2:y.ctors=[]
 refine xaz 43 (pre.length*2+1) I (za5 (zaK (kk:=2) false oy) I) (by simp[hs2]) (zaI (zaK (kk:=2) false oy) zc3) ?_;refine evc [24] [] (xbN sl29 .none I I I I ox ?_);refine evs [24] [] (xbT ty57 .none I I I ((by rw[za5 (zaK (kk:=2) false oy) rfl];rfl)) ?_);refine evs [24] [] (Walk.call (cr:=[]) zp4 (zh9 hs2) I .none I I (LeL.refl _) O I og od ?_);refine evs [24] [] (xaB 43 (pre.length*2+1) false I (xs:=(mkL Ctor.one Ctor.sz (v+1) y.ctors).map Ctor.c) I (za5 (zaK (kk:=2) false oy) I) (by simp[hs2,mkL]) (zaI (zaK (kk:=2) false oy) zc3) ?_);refine evc [24] [] (ar (xaj ((pre++[y],rest,v+Data.sz y)) ⟨⟨(by have hz:=hg1.1;rw[<-hz];simp),(by show v+Data.sz y=_;rw[zcA,hg1.2];omega)⟩,oh,sx ⟨⟨_,I,xaT ?_⟩,⟨⟨_,I,xaT ?_⟩,O⟩⟩ ⟨?_,O⟩⟩));iterate 2 focus (first|rfl|(simp;done)|omega|(refine Eq.trans (b:=v+Data.sz y) ?_ I;omega))
 focus (first|rfl|(show some (Res.tree _)=some (Res.tree _);rw[zbS,xag,List.map_singleton,<-zbX,<-hg1.2];rfl))
 refine CWp.split 43 (pre.length*2+1) 42 I (za5 (zaK (kk:=2) false oy) I) (by simp[hs2]) od (zaI (zaK (kk:=2) false oy) zc3) ?_;refine evc [24] [] (xbN sl29 .none I I I I ox ?_);refine evs [24] [] (xbT ty57 .none I I I ((by rw[za5 (zaK (kk:=2) false oy) rfl];rfl)) ?_);refine evs [24] [] (Walk.call (cr:=[]) zp4 (ziU (l:=y.ctors) (k:=v+1) oe oe (hl.cs (d:=y) (by rw[<-hg1.1];simp))) I .none I I (.cons (xaV o7) (.cons (.refl _) .nil)) ⟨by first|rfl|(simp;rfl),O⟩ I og od ?_);refine evs [24] [] (CWp.merge hk 43 (pre.length*2+1) 42 3 _ I (za5 (zaK (kk:=2) false oy) I) (by simp[zal]) I (by first|(intro x hx;simp at hx;obtain⟨y,_,rfl⟩:=hx;rfl)|(intro x hx;obtain⟨y,_,rfl⟩:=List.mem_map.1 hx;rfl)) I I (zaI (zaK (kk:=2) false oy) zc3) ?_);refine evc [24] [] (ar (xaj ((pre++[y],rest,v+Data.sz y)) ⟨⟨(by have hz:=hg1.1;rw[<-hz];simp),(by show v+Data.sz y=_;rw[zcA,hg1.2];omega)⟩,oh,sx ⟨⟨_,I,xaT ?_⟩,⟨⟨_,I,xaT ?_⟩,O⟩⟩ ⟨?_,O⟩⟩));iterate 2 focus (first|rfl|(simp;done)|omega|(refine Eq.trans (b:=v+Data.sz y) ?_ I;omega))
 focus (first|rfl|(show some (Res.tree _)=some (Res.tree _);rw[zbS,xag,List.map_singleton,<-zbX,<-hg1.2];rfl))
 try simp only[Q] at h1p
 have hrest:rest=[]:=by
  rcases rest with _|⟨a,b⟩
  ·rfl
  ·exfalso;have hz:=xam List.length (hg1.1);simp only[xaa,xab,xac] at hz;omega
 subst hrest;refine evc [24] [3,6,1000009] (rn [(43,some (.tree (zag false ((mkL Data.one Data.sz k l).map Data.c))))] (r1 I) (.eqd ?_) ⟨I,I⟩ (SubO.get ⟨.inr ?_,⟨.inl I,O⟩⟩) (zao I));rotate_left 2;all_goals (first|((first|rfl|(obtain⟨hg1,hv⟩:=hg1;rw[xaq] at hg1;subst hg1;rw[hv]));done)|(first|rfl|(obtain⟨hg1,_⟩:=hg1;rw[xaq] at hg1;subst hg1;show some (Res.tree _)=some (Res.tree _);simp[zbG];done)))
def Pat.op:Pat->Int | .mk a0 _ _ _ _ _=>a0
def Pat.ctor:Pat->Int | .mk _ a1 _ _ _ _=>a1
def Pat.n:Pat->Int | .mk _ _ a2 _ _ _=>a2
def Pat.m:Pat->Int | .mk _ _ _ a3 _ _=>a3
def Pat.var:Pat->Int | .mk _ _ _ _ a4 _=>a4
def Pat.kids:Pat->List Pat | .mk _ _ _ _ _ k=>k
abbrev Pat.cc (v:Pat):List D:=[.i v.op,.i v.ctor,.i v.n,.i v.m,.i v.var,.sl (Pat.cs v.kids)]
theorem Pat.c_eq (v:Pat):v.c=v.cc:=by cases v;rfl
theorem Pat.eta (v:Pat):Pat.mk v.op v.ctor v.n v.m v.var v.kids=v:=by cases v;rfl
mutual
def zfa:Pat->Pat->Bool
 | .mk a0 a1 a2 a3 a4 ks,.mk b0 b1 b2 b3 b4 ls=>decide (a0=b0)&&(decide (a1=b1)&&(decide (a2=b2)&&(decide (a3=b3)&&(decide (a4=b4)&&zb6 ks ls))))
def zb6:List Pat->List Pat->Bool
 | [],[]=>true
 |x::r,y::s=>zfa x y&&zb6 r s
 |_,_=>false
end
mutual
def Pat.ok:Pat->Prop
 | .mk _ _ _ _ _ ks=>ks.length<=1000000000000/\Pats.ok ks
def Pats.ok:List Pat->Prop
 | []=>True
 |v::r=>v.ok/\Pats.ok r
end
theorem xa9:∀ {l:List Pat},Pats.ok l->∀v,v∈l->v.ok
 |x::r,h,v,hv=>by
  simp only[Pats.ok] at h;rcases List.mem_cons.1 hv with rfl|hv
  ·exact h.1
  ·exact xa9 h.2 v hv
mutual
def Pat.size:Pat->Nat
 | .mk _ _ _ _ _ ks=>1+Pats.size ks
def Pats.size:List Pat->Nat
 | []=>0
 |v::r=>v.size+Pats.size r
end
theorem xbb:∀ {l:List Pat}{v:Pat},v∈l->v.size<=Pats.size l
 |x::r,v,hv=>by
  simp only[Pats.size];rcases List.mem_cons.1 hv with rfl|hv
  ·omega
  ·have:=xbb hv;omega
theorem zkc:∀ {a b:List Pat},a.length≠b.length->zb6 a b=false
 | [],[],h=>by simp at h
 | [],_::_,_=>by simp[zb6]
 |_::_,[],_=>by simp[zb6]
 |x::r,y::s,h=>by simp[zb6,zkc (a:=r) (b:=s) (by simpa using h)]
theorem zbQ {l:List Pat}{i:Nat} (h:i<l.length):(Pat.cs l)[i]?=some (nth l i).cc:=by
 rw[xaX,<-Pat.c_eq];exact zau h
theorem xa1 (v:Pat):v.ok↔v.kids.length<=1000000000000/\Pats.ok v.kids:=by cases v;rfl
theorem xa4 (v:Pat):v.size=1+Pats.size v.kids:=by cases v;rfl
theorem zpF (v w:Pat):zfa v w=(decide (v.op=w.op)&&(decide (v.ctor=w.ctor)&&(decide (v.n=w.n)&&(decide (v.m=w.m)&&(decide (v.var=w.var)&&zb6 v.kids w.kids))))):=by cases v;cases w;rfl
theorem zjr {a b:List Pat}{i:Nat} (h:i<a.length) (h2:zfa (nth a i) (nth b i)=false):zb6 a b=false:=by
 induction i generalizing a b with
 |zero=>
  cases a with
  |nil=>simp at h
  |cons x r=>
   cases b with
   |nil=>simp[zb6]
   |cons y s=>simp[nth] at h2;simp[zb6,h2]
 |succ i ih=>
  cases a with
  |nil=>simp at h
  |cons x r=>
   cases b with
   |nil=>simp[zb6]
   |cons y s=>simp only[zb6];rw[ih (a:=r) (b:=s) (by simpa using h) (by simpa [nth] using h2)];simp
theorem zkd {a b:List Pat} (hl:a.length=b.length) (h:∀i,i<a.length->zfa (nth a i) (nth b i)=true):zb6 a b=true:=by
 induction a generalizing b with
 |nil=>cases b with
  |nil=>simp[zb6]
  |cons y s=>simp at hl
 |cons x r ih=>cases b with
  |nil=>simp at hl
  |cons y s=>
   have h0:=h 0 oh;simp only[zb6];rw[ih (by simpa using hl) (fun i hi=>by simpa [nth] using h (i+1) (by simpa using hi))];simpa [nth] using h0
mutual
theorem zkb:∀v:Pat,zfa v v=true
 | .mk _ _ _ _ _ ks=>by simp[zfa,zi5 ks]
theorem zi5:∀l:List Pat,zb6 l l=true
 | []=>rfl
 |v::r=>by simp[zb6,zkb v,zi5 r]
end
theorem zlK (m:Bool) (y:Pat) (rest:List Pat):zag m (Pat.cs (y::rest)) = .d (.i y.op):: .d (.i y.ctor):: .d (.i y.n):: .d (.i y.m):: .d (.i y.var):: .own m (zaC y.kids)::zag m (Pat.cs rest):=by
 cases y;rfl
theorem zfr (m:Bool) (l:List Pat) (y:Pat):zag m (Pat.cs (l++[y]))=zag m (Pat.cs l)++[.d (.i y.op),.d (.i y.ctor),.d (.i y.n),.d (.i y.m),.d (.i y.var),.own m (zaC y.kids)]:=by
 rw[xaX,xag,<-xaX,zgu];congr 1
 cases y;rfl
theorem Pat.c_len (v:Pat):v.c.length=6:=by cases v;rfl
theorem xa0 {l:List Pat}:∀x,x∈Pat.cs l->x.length=6:=by
 intro x hx;rw[xaX] at hx;obtain⟨y,_,rfl⟩:=List.mem_map.1 hx;exact y.c_len
theorem xaZ (l:List Pat):Pat.cs l=[]↔l=[]:=by rw[xaX];simp
theorem zbh (m:Bool) (l:List Pat):(zag m (Pat.cs l)).length=l.length*6:=by
 rw[zbW (k:=6) xa0,xaY]
mutual
def mPat:Pat->Nat
 | .mk _ _ _ _ _ ks=>zj3 ks
def zj3:List Pat->Nat
 | []=>0
 |v::r=>1+mPat v+zj3 r
end
theorem zh8 {l m:List Pat} (h:l.length<=1000000000000)
  (hf:∀a∈l,∀b:Pat,FnD Tryz.prog 55 [.agg [.d (.i a.op),.d (.i a.ctor),.d (.i a.n),.d (.i a.m),.d (.i a.var),.d (zaC a.kids)],.agg [.d (.i b.op),.d (.i b.ctor),.d (.i b.n),.d (.i b.m),.d (.i b.var),.d (zaC b.kids)]] [] (.d (.bool (zfa a b))) []):
  FnD Tryz.prog 92 [.d (zaC l),.d (zaC m)] [] (.d (.bool (zb6 l m))) []:=by
 refine bd Tryz.f92 27 [] [] fun _ _ _ _ hk=>?_;apply sq<;>intro h1 h1p h1s<;>(try simp only[Q,xal,xaY] at h1p);refine rq ?_;rotate_left;refine xaD (ι:=Nat) hk (fun i=>[(5,.d (.i (i:Int)))]) [4,11,12,13,14,15,16,17,18,19,20,21,22,23,24,25,26] (fun i=>[]) (fun i=>i<=l.length/\∀i',i'<i->zfa (nth l i') (nth m i')=true) (fun i=>l.length-i) 0 ⟨by omega,fun _ h=>absurd h oe⟩ ⟨⟨_,I,xaT ?_⟩,O⟩ O (fun x=>rfl) (fun i hg1=>?_);focus (first|rfl|(simp;done)|(simp_all;done)|omega)
 refine evc [] [] ?_;apply sq<;>intro h2 h2p h2s<;>(try simp only[Q,xal,xaY] at h2p);refine ixq sl45 I I I (zbQ oe) I ?_;refine evd [] [] (ixq sl45 I I I (zbQ oe) I ?_);refine evd [] [] (wc zp9 (hf _ (zaq oe) _) I I ?_);refine evd [] [] (dr ?_);apply sq<;>intro h3 h3p h3s<;>(try simp only[Q,xal,xaY] at h3p);refine rq ?_;rotate_left;refine ar (xaj (i+1) ⟨⟨by omega,za0 hg1.2 ol⟩,oe,sx ⟨⟨_,I,xaT ?_⟩,O⟩ O⟩);focus (first|rfl|(simp;done)|(simp_all;done)|omega)
 refine rq ?_;rotate_left;all_goals (refine xam D.bool ?_;first|(refine(zkc ?_).symm;omega)|(refine(zkd oe (fun x hx=>hg1.2 x oe)).symm)|(refine(zjr (i:=i) oe ?_).symm;assumption))
theorem zfx:∀(n:Nat){a b:Pat},a.size<=n->a.ok->FnD Tryz.prog 55 [.agg [.d (.i a.op),.d (.i a.ctor),.d (.i a.n),.d (.i a.m),.d (.i a.var),.d (zaC a.kids)],.agg [.d (.i b.op),.d (.i b.ctor),.d (.i b.n),.d (.i b.m),.d (.i b.var),.d (zaC b.kids)]] [] (.d (.bool (zfa a b))) []
 |0,a,b,h,_=>by rw[xa4] at h;omega
 |n+1,a,b,h,hok=>by
  rw[xa4] at h;rw[xa1] at hok;rw[zpF];refine bd Tryz.f55 36 [] [] fun _ _ _ _ hk=>?_;refine bx 3002 ?_;refine bx 3003 ?_;refine ev ?_;apply sq<;>intro h1 h1p h1s<;>(try simp only[Q] at h1p);focus (refine rq ?_;all_goals (refine xam D.bool ?_;simp[h1s,h1p]))
  apply sq<;>intro h2 h2p h2s<;>(try simp only[Q] at h2p);focus (refine rq ?_;all_goals (refine xam D.bool ?_;simp[h1s,h1p,h2s,h2p]))
  apply sq<;>intro h3 h3p h3s<;>(try simp only[Q] at h3p);focus (refine rq ?_;all_goals (refine xam D.bool ?_;simp[h1s,h1p,h2s,h2p,h3s,h3p]))
  apply sq<;>intro h4 h4p h4s<;>(try simp only[Q] at h4p);focus (refine rq ?_;all_goals (refine xam D.bool ?_;simp[h1s,h1p,h2s,h2p,h3s,h3p,h4s,h4p]))
  apply sq<;>intro h5 h5p h5s<;>(try simp only[Q] at h5p);focus (refine rq ?_;all_goals (refine xam D.bool ?_;simp[h1s,h1p,h2s,h2p,h3s,h3p,h4s,h4p,h5s,h5p]))
  refine wc zrX (zh8 hok.1 (fun x hx y=>zfx n (by have:=xbb hx;omega) (xa9 hok.2 x hx))) I I ?_;refine ev ?_;apply sq<;>intro h6 h6p h6s<;>(try simp only[Q] at h6p);focus (refine rq ?_;all_goals (refine xam D.bool ?_;simp[h1s,h1p,h2s,h2p,h3s,h3p,h4s,h4p,h5s,h5p,h6s,h6p]))
  focus (refine rq ?_;all_goals (refine xam D.bool ?_;simp[h1s,h1p,h2s,h2p,h3s,h3p,h4s,h4p,h5s,h5p,h6s,h6p]))
mutual
def Pat.szM:Pat->Int
 | .mk _ _ _ _ _ ks=>5+Pats.szM ks
def Pats.szM:List Pat->Int
 | []=>0
 |v::r=>v.szM+Pats.szM r
end
mutual
def Pat.one (k:Int):Pat->Pat
 | .mk _ _ _ _ _ ks=> .mk k (k+1) (k+1+1) (k+1+1+1) (k+1+1+1+1) (Pats.one (k+1+1+1+1+1) ks)
def Pats.one (k:Int):List Pat->List Pat
 | []=>[]
 |v::r=>v.one k::Pats.one (k+v.szM) r
end
theorem xbd:∀l:List Pat,Pats.szM l=szL Pat.szM l
 | []=>rfl
 |v::r=>by simp only[Pats.szM,szL,xbd r]
theorem xba:∀(l:List Pat) (k:Int),Pats.one k l=mkL Pat.one Pat.szM k l
 | [],_=>rfl
 |v::r,k=>by simp only[Pats.one,mkL,xba r]
theorem xa5 (v:Pat):v.szM=5+szL Pat.szM v.kids:=by cases v;simp only[Pat.szM,Pat.kids,xbd]
theorem xa2 (v:Pat) (k:Int):(v.one k).kids=mkL Pat.one Pat.szM (k+1+1+1+1+1) v.kids:=by cases v;simp only[Pat.one,Pat.kids,xba]
theorem xa3 (v:Pat) (k:Int):(Pat.one k v).op=k/\(Pat.one k v).ctor=k+1/\(Pat.one k v).n=k+1+1/\(Pat.one k v).m=k+1+1+1/\(Pat.one k v).var=k+1+1+1+1:=by cases v;exact⟨rfl,rfl,rfl,rfl,rfl⟩
mutual
theorem xa7:∀v:Pat,0<=v.szM
 | .mk _ _ _ _ _ ks=>by have:=xbf ks;simp only[Pat.szM];omega
theorem xbf:∀l:List Pat,0<=Pats.szM l
 | []=>by simp[Pats.szM]
 |v::r=>by have:=xa7 v;have:=xbf r;simp only[Pats.szM];omega
end
mutual
theorem xa6:∀v:Pat,v.szM<=5+5*(mPat v:Int)
 | .mk _ _ _ _ _ ks=>by have:=xbe ks;simp only[Pat.szM,mPat];omega
theorem xbe:∀l:List Pat,Pats.szM l<=5*(zj3 l:Int)
 | []=>by simp[Pats.szM,zj3]
 |v::r=>by have:=xa6 v;have:=xbe r;simp only[Pats.szM,zj3];omega
end
theorem zea {l:List Pat}{k:Int} (hl:l=[]):FnD Tryz.prog 32 [.d (.sl []),.d (.i k)] [] (.d (.i (k+szL Pat.szM l))) []:=by
 subst hl;refine bd Tryz.f32 55 [] [] fun _ _ _ _ hk=>?_;refine xaD (ι:=Unit) hk (fun x=>[(5,.d (.i 0)),(1,.d (.i k))]) [6,7,8,9,10,11,12,13,14,15,16,17,18,19,20,21,22,23,24,25,26,27,28,29,30,31,32,33,34,35,36,37,38,39,40,41,42,43,44,45,46,47,48,49,50,51,52,53] (fun x=>[]) (fun x=>True) (fun x=>0) () O ⟨⟨_,I,xaT ?_⟩,⟨⟨_,I,xaT ?_⟩,O⟩⟩ O (fun x=>rfl) (fun x hg1=>?_);iterate 2 focus (first|rfl|(simp;done)|(simp_all;done)|omega)
 refine evc [] [] ?_;apply sq<;>intro h1 h1p h1s<;>(try simp only[Q] at h1p);exfalso;revert h1;simp;refine rq ?_;rotate_left;all_goals (first|rfl|(simp[szL];done))
theorem zf4 {m:Bool}{n:Nat}{k:Int}{r:D}{xs ys:List (List D)} (h:FnD Tryz.prog 32 [.ms 46 n,.d (.i k)] [(46,some (.tree (zag m xs)))] (.d r) [(46,some (.tree (zag false ys)))]):
  FnD Tryz.prog 32 [.ms 47 n,.d (.i k)] [(47,some (.tree (zag m xs)))] (.d r) [(47,some (.tree (zag false ys)))]:=FnD.ren rfl (zaa _ _) (zaa _ _) h 47
theorem oo{p:Prop}(h:p:=by first|omega|(simp[xaZ,xaY,Pat.cs];omega)):p:=h
theorem uc{p:Prop}(h:p:=by rw[zal]):p:=h
theorem zhl:∀(n:Nat){m:Bool}{l:List Pat}{k:Int},Pats.size l<=n->0<k->k+szL Pat.szM l<=1000000000000->l.length<=1000000000000->Pats.ok l->FnD Tryz.prog 32 [.ms 46 l.length,.d (.i k)] [(46,some (.tree (zag m (Pat.cs l))))]
  (.d (.i (k+szL Pat.szM l))) [(46,some (.tree (zag false (Pat.cs (mkL Pat.one Pat.szM k l)))))]:=by
 intro n;induction n with
 |zero=>
  intro m l k h h0 h1 hl hok;have hl0:l=[]:=by
   cases l with
   |nil=>rfl
   |cons v r=>simp only[Pats.size,xa4] at h;omega
  subst hl0;refine bd Tryz.f32 55 [] [] fun _ _ _ _ hk=>?_;refine xaD (ι:=Unit) hk (fun x=>[(5,.d (.i 0)),(1,.d (.i k))]) [6,7,8,9,10,11,12,13,14,15,16,17,18,19,20,21,22,23,24,25,26,27,28,29,30,31,32,33,34,35,36,37,38,39,40,41,42,43,44,45,46,47,48,49,50,51,52,53] (fun x=>[]) (fun x=>True) (fun x=>0) () O ⟨⟨_,I,xaT ?_⟩,⟨⟨_,I,xaT ?_⟩,O⟩⟩ O (fun x=>rfl) (fun x hg1=>?_);iterate 2 focus (first|rfl|(simp;done)|(simp_all;done)|omega)
  refine evc [] [] ?_;apply sq<;>intro h1 h1p h1s<;>(try simp only[Q] at h1p);exfalso;revert h1;simp;refine rn [(46,some (.tree (zag false (Pat.cs (mkL Pat.one Pat.szM k []))))) ] (r1 I) (.eqd ?_) ⟨I,I⟩ (SubO.get ⟨.inr ?_,⟨.inl I,O⟩⟩) (zao I);rotate_left 2;all_goals (first|((first|rfl|(simp[szL];done));done)|(rfl))
 |succ n ih=>
  intro m l k h h0 h1 hl hok;refine bd Tryz.f32 55 [51] [3,14,1000009] fun _ _ _ _ hk=>?_;refine xaD (ι:=List (Pat)×List (Pat)×(Int)) hk (fun x=>[(5,.d (.i (x.1.length:Int))),(1,.d (.i x.2.2))]) [6,7,8,9,10,11,12,13,14,15,16,17,18,19,20,21,22,23,24,25,26,27,28,29,30,31,32,33,34,35,36,37,38,39,40,41,42,43,44,45,46,47,48,49,50,51,52,53] (fun x=>[(46,some (.tree (zag false (Pat.cs (mkL Pat.one Pat.szM k x.1))++zag m (Pat.cs x.2.1))))]) (fun x=>x.1++x.2.1=l/\x.2.2=k+szL Pat.szM x.1) (fun x=>x.2.1.length) ([],l,k) ⟨by simp,by simp[szL]⟩ ⟨⟨_,I,xaT ?_⟩,⟨⟨_,I,xaT ?_⟩,O⟩⟩ ⟨?_,O⟩ (fun x=>rfl) (fun x hg1=>?_);iterate 2 focus (first|rfl|(simp;done)|omega|(refine Eq.trans (b:=v+Pat.szM y) ?_ I;omega))
  focus (first|rfl|(show some (Res.tree _)=some (Res.tree _);rw[zbS,zfr,<-hg1.2,xa2];simp only[xa3 y v,xar,xai,List.nil_append]))
  obtain⟨pre,rest,v⟩:=x;dsimp only at hg1 ⊢;refine evc [51] [3,14,1000009] (cq (fun h1 h1p h1s=>?_) fun h1 h1p h1s=>?_);try simp only[Q] at h1p
  rcases rest with _|⟨y,rest⟩
  ·exfalso;simp_all
  have hsp:=zdF (sz:=Pat.szM) hg1.1;have hnn:=zaU (l:=rest) xa7;have hnp:=zaU (l:=pre) xa7;have hys:=xa5 y;have hya:=zaU (l:=y.kids) xa7;have hv:=hg1.2;refine xaF 46 (zag false (Pat.cs (mkL Pat.one Pat.szM k pre))++(.d (.i y.op):: .d (.i y.ctor):: .d (.i y.n):: .d (.i y.m):: .d (.i y.var):: .own m (zaC y.kids)::zag m (Pat.cs rest))) I (by rw[zlK]) ?_;refine evc [51] [3,14,1000009] (xbN sl45 .none I I I I oo ?_);refine evs [51] [] (xb6 ty3 .none I I I I I I oh ((zaI ((zbh false _).trans uc) zgY)) ?_);apply tv;refine ar (xbN sl45 .none I I I I oo ?_);refine evs [51] [] (xb6 ty3 .none I I I I I I oh ((zaI ((zbh false _).trans uc) zc3)) ?_);apply tv;refine ar (xbN sl45 .none I I I I oo ?_);refine evs [51] [] (xb6 ty3 .none I I I I I I oh ((zaI ((zbh false _).trans uc) ziO)) ?_);apply tv;refine ar (xbN sl45 .none I I I I oo ?_);refine evs [51] [] (xb6 ty3 .none I I I I I I oh ((zaI ((zbh false _).trans uc) znw)) ?_);apply tv;refine ar (xbN sl45 .none I I I I oo ?_);refine evs [51] [] (xb6 ty3 .none I I I I I I oh ((zaI ((zbh false _).trans uc) znx)) ?_);apply tv;refine ar ?_;by_cases hs2:y.kids=[]
  refine xaz 46 (pre.length*6+5) I (za5 ((zbh false _).trans uc) I) (by simp[hs2,xaZ,xaY,Pat.cs]) (zaI ((zbh false _).trans uc) zef) ?_;refine evc [51] [] (xbN sl45 .none I I I I oo ?_);refine evs [51] [] (xbT ty45 .none I I I ((by rw[za5 ((zbh false _).trans uc) rfl];rfl)) ?_);refine evs [51] [] (Walk.call (cr:=[]) zlQ (zea hs2) I .none I I (LeL.refl _) O I og od ?_);refine evs [51] [] (xaB 46 (pre.length*6+5) false I (xs:=Pat.cs (mkL Pat.one Pat.szM (v+1+1+1+1+1) y.kids)) I (za5 ((zbh false _).trans uc) I) (by simp[hs2,mkL,Pat.cs]) (zaI ((zbh false _).trans uc) zef) ?_);refine evc [51] [] (ar (xaj ((pre++[y],rest,v+Pat.szM y)) ⟨⟨(by have hz:=hg1.1;rw[<-hz];simp),(by show v+Pat.szM y=_;rw[zcA,hg1.2];omega)⟩,oh,sx ⟨⟨_,I,xaT ?_⟩,⟨⟨_,I,xaT ?_⟩,O⟩⟩ ⟨?_,O⟩⟩));iterate 2 focus (first|rfl|(simp;done)|omega|(refine Eq.trans (b:=v+Pat.szM y) ?_ I;omega))
  focus (first|rfl|(show some (Res.tree _)=some (Res.tree _);rw[zbS,zfr,<-hg1.2,xa2];simp only[xa3 y v,xar,xai,List.nil_append]))
  refine CWp.split 46 (pre.length*6+5) 47 I (za5 ((zbh false _).trans uc) I) (by simp[hs2,xaZ,xaY,Pat.cs]) od (zaI ((zbh false _).trans uc) zef) ?_;refine evc [51] [] (xbN sl45 .none I I I I oo ?_);refine evs [51] [] (xbT ty45 .none I I I ((by rw[za5 ((zbh false _).trans uc) rfl];rfl)) ?_);refine evs [51] [] (Walk.call (cr:=[]) zlQ (zf4 (ih (l:=y.kids) (k:=v+1+1+1+1+1) (by have hm:=xbb (v:=y) (l:=l) (by rw[<-hg1.1];simp);rw[xa4] at hm;omega) oe oe ((xa1 y).1 (xa9 hok y (by rw[<-hg1.1];simp))).1 ((xa1 y).1 (xa9 hok y (by rw[<-hg1.1];simp))).2)) I .none I I (.cons (xaV (by first|rfl|(simp[xaZ,xaY,Pat.cs];done))) (.cons (.refl _) .nil)) ⟨by first|rfl|(simp;rfl),O⟩ I og od ?_);refine evs [51] [] (CWp.merge hk 46 (pre.length*6+5) 47 6 _ I (za5 ((zbh false _).trans uc) I) (by simp[zal,xaZ,xaY,Pat.cs]) I xa0 I I (zaI ((zbh false _).trans uc) zef) ?_);refine evc [51] [] (ar (xaj ((pre++[y],rest,v+Pat.szM y)) ⟨⟨(by have hz:=hg1.1;rw[<-hz];simp),(by show v+Pat.szM y=_;rw[zcA,hg1.2];omega)⟩,oh,sx ⟨⟨_,I,xaT ?_⟩,⟨⟨_,I,xaT ?_⟩,O⟩⟩ ⟨?_,O⟩⟩));iterate 2 focus (first|rfl|(simp;done)|omega|(refine Eq.trans (b:=v+Pat.szM y) ?_ I;omega))
  focus (first|rfl|(show some (Res.tree _)=some (Res.tree _);rw[zbS,zfr,<-hg1.2,xa2];simp only[xa3 y v,xar,xai,List.nil_append]))
  try simp only[Q] at h1p
  have hrest:rest=[]:=by
   rcases rest with _|⟨a,b⟩
   ·rfl
   ·exfalso;have hz:=xam List.length (hg1.1);simp only[xaa,xab,xac] at hz;omega
  subst hrest;refine evc [51] [3,14,1000009] (rn [(46,some (.tree (zag false (Pat.cs (mkL Pat.one Pat.szM k l)))))] (r1 I) (.eqd ?_) ⟨I,I⟩ (SubO.get ⟨.inr ?_,⟨.inl I,O⟩⟩) (zao I));rotate_left 2;all_goals (first|((first|rfl|(obtain⟨hg1,hv⟩:=hg1;rw[xaq] at hg1;subst hg1;rw[hv]));done)|(first|rfl|(obtain⟨hg1,_⟩:=hg1;rw[xaq] at hg1;subst hg1;show some (Res.tree _)=some (Res.tree _);simp[zbG,Pat.cs];done)))
structure Vt where
 var:Int
 ty:Ty
 deriving DecidableEq,Inhabited
abbrev Vt.c (t:Vt):List D:=[.i t.var,.i t.ty.data,.i t.ty.index]
abbrev zcy (l:List Vt):D:= .sl (l.map Vt.c)
def zaW (w:List Data) (t:Ty):List Int:=if t.data = -1 then [] else zdq w t
def zaf (w:List Data) (t:Ty) (p:Pat):List Ty:=if p.op=4 then zan w t p.ctor else if p.op=5 then [t,t] else if p.op=6 then [t] else []
def ownP (w:List Data) (t:Ty) (p:Pat):Bool:=decide (((p.op=2\/p.op=6)->0<=p.var/\p.var<=5)/\(¬(p.op=2\/p.op=6)->p.var=0)/\(p.op≠3->p.n=0/\p.m=0)/\(p.op≠4->p.ctor=0)/\
 (p.op=1\/p.op=2\/p.op=5\/p.op=6\/(p.op=3/\t.data = -1/\0<=p.n/\p.n<=p.m/\p.m<=9)\/(p.op=4/\p.ctor∈zaW w t)))
def okP (w:List Data) (t:Ty) (p:Pat):Bool:=ownP w t p&&decide (p.kids.length=(zaf w t p).length)
def zc5 (w:List Data) (t:Ty) (p:Pat):List Ty:=if p.op=4/\p.ctor∉zaW w t then [] else zaf w t p
def zav (w:List Data):Nat->Ty->Pat->Bool
 |0,_,_=>false
 |n+1,t,p=>ownP w t p&&all2 (zav w n) (zaf w t p) p.kids
def zaS (t:Ty) (p:Pat):List Vt:=if p.op=2\/p.op=6 then [⟨p.var,t⟩] else []
def za7 (f:Ty->Pat->List Vt):List Ty->List Pat->List Vt
 |a::r,b::s=>f a b++za7 f r s
 |_,_=>[]
def zcB (w:List Data) (t:Ty) (p:Pat):List Ty:=if p.op=5 then (zaf w t p).take 1 else zaf w t p
def zaJ (w:List Data):Nat->Ty->Pat->List Vt
 |0,_,_=>[]
 |n+1,t,p=>zaS t p++za7 (zaJ w n) (zcB w t p) p.kids
def zbA (l:List Vt) (n:Int):Int:=idxF (fun v=>decide (v.var=n)) l 0
def zdm (a b:List Vt):Bool:=a.all (fun v=>decide (0<=zbA b v.var/\(nth b (zbA b v.var).toNat).ty=v.ty))&&decide (a.length=b.length)
def zlU (l:List Vt):Bool:=(List.range l.length).all fun(i:Nat)=>decide (zbA l (nth l i).var=(i:Int))
def zdD (a b:List Vt):Bool:=decide (a.length=b.length)&& !a.any fun v=> !decide (v∈b)
def zcn (l:List Vt):Bool:=decide (l.map Vt.var).Nodup
def linP (w:List Data):Nat->Ty->Pat->Bool
 |0,_,_=>true
 |n+1,t,p=>all2 (linP w n) (zaf w t p) p.kids&&(if p.op=5 then zdm (zaJ w n t (nth p.kids 0)) (zaJ w n t (nth p.kids 1)) else zlU (zaJ w (n+1) t p))
theorem zem (l:List Vt) (n:Int):(zbA l n = -1/\∀v∈l,v.var≠n)\/∃k:Nat,zbA l n=k/\k<l.length/\(nth l k).var=n/\∀j,j<k->(nth l j).var≠n:=by
 have key:∀(l:List Vt) (i:Nat),(idxF (fun v=>decide (v.var=n)) l i = -1/\∀v∈l,v.var≠n)\/∃k:Nat,idxF (fun v=>decide (v.var=n)) l i=((i+k:Nat):Int)/\k<l.length/\(nth l k).var=n/\∀j,j<k->(nth l j).var≠n:=by
  intro l;induction l with
  |nil=>intro i;exact .inl ⟨I,by simp⟩
  |cons x r ih=>
   intro i;unfold idxF;by_cases h:x.var=n
   ·exact .inr ⟨0,by simp[h],by simp,by simpa [nth] using h,fun j hj=>absurd hj oe⟩
   ·rcases ih (i+1) with ⟨h1,h2⟩|⟨k,h1,h2,h3,h4⟩
    ·exact .inl ⟨by simpa [h] using h1,fun v hv=>by rcases List.mem_cons.1 hv with rfl|hv;exact h;exact h2 v hv⟩
    ·refine .inr ⟨k+1, ?_,by simpa using h2,by simpa [nth] using h3,fun j hj=>?_⟩
     ·simp only[h,decide_false,Bool.false_eq_true,if_false];rw[h1];congr 1;omega
     ·cases j with
      |zero=>simpa [nth] using h
      |succ j=>simpa [nth] using h4 j oe
 rcases key l 0 with h|⟨k,h1,h2⟩
 ·exact .inl h
 ·exact .inr ⟨k,by unfold zbA;simpa using h1,h2⟩
theorem zlo {l:List Vt}:(l.map Vt.var).Nodup↔∀i j,i<j->j<l.length->(nth l i).var≠(nth l j).var:=by
 unfold List.Nodup;rw[List.pairwise_iff_getElem];constructor
 ·intro h i j hij hj;have:=h i j ot (by simpa using hj) hij;simp only[List.getElem_map] at this;rw[zaY oe,zaY hj];exact this
 ·intro h i j hi hj hij;simp only[xac] at hi hj;simp only[List.getElem_map];rw[<-zaY hi,<-zaY hj];exact h i j hij hj
theorem zid {l:List Vt} (h:(l.map Vt.var).Nodup){i j:Nat} (hi:i<l.length) (hj:j<l.length) (he:(nth l i).var=(nth l j).var):i=j:=by
 have h1:=zlo.1 h;rcases Nat.lt_trichotomy i j with h2|h2|h2
 ·exact absurd he (h1 i j h2 hj)
 ·exact h2
 ·exact absurd he.symm (h1 j i h2 hi)
theorem zmr (l:List Vt):zlU l=zcn l:=by
 unfold zcn;by_cases h:(l.map Vt.var).Nodup
 ·rw[xax h];refine zdK (fun i hi=>xax ?_);rcases zem l (nth l i).var with ⟨_,h2⟩|⟨k,h1,h2,h3,h4⟩
  ·exact absurd I (h2 _ (zaq hi))
  ·rw[h1,zid h h2 hi h3]
 ·rw[xaw h];cases hd:zlU l with
  |false=>rfl
  |true=>
   refine absurd ?_ h;rw[zlo];intro i j hij hj he;have h1:=List.all_eq_true.1 hd i (List.mem_range.2 oe);have h2:=List.all_eq_true.1 hd j (List.mem_range.2 hj);simp only[xah] at h1 h2;rw[he,h2] at h1;omega
theorem znM {a b:List Vt} (hb:zcn b=true):zdm a b=zdD a b:=by
 unfold zcn at hb;simp only[xah] at hb;unfold zdm zdD;rw[Bool.and_comm];congr 1
 rw[xat];simp only[List.all_eq_true,Bool.not_eq_true',List.any_eq_false,xah,Bool.not_eq_true,decide_eq_false_iff_not,Decidable.not_not];refine forall_congr' fun v=>forall_congr' fun hv=>?_;rcases zem b v.var with ⟨h1,h2⟩|⟨k,h1,h2,h3,h4⟩
 ·rw[h1];exact⟨fun h=>absurd h.1 oe,fun h=>absurd rfl (h2 v h)⟩
 ·rw[h1];simp only[Int.toNat_natCast];constructor
  ·rintro ⟨_,h⟩
   have:nth b k=v:=by
    have e:∀x y:Vt,x.var=y.var->x.ty=y.ty->x=y:=fun x y h1 h2=>by cases x;cases y;simp_all
    exact e _ _ h3 h
   rw[<-this];exact zaq h2
  ·intro h;refine⟨by omega, ?_⟩;obtain⟨j,hj,he⟩:=List.getElem_of_mem h;have h5:nth b j=v:=by rw[zaY hj];exact he
   have:=zid hb h2 hj (by rw[h3,h5]);rw[this,h5]
def zbl (g:Ty->Pat->Int->Option (List Vt)×Int) (or:Bool):List Ty->List Pat->Nat->List Vt->Int->Option (List Vt)×Int
 |a::r,b::s,i,acc,c=>match (g a b c).1 with
  |none=>(none,(g a b c).2)
  |some l=>if or=true/\i=1 then (if zdD acc l=true then zbl g or r s (i+1) acc (g a b c).2 else (none,(g a b c).2)) else zbl g or r s (i+1) (acc++l) (g a b c).2
 |_,_,_,acc,c=>(some acc,c)
def finV (r:Option (List Vt)×Int):Option (List Vt)×Int:=match r.1 with
 |none=>r
 |some l=>if zcn l=true then r else (none,r.2)
def zaL (w:List Data):Nat->Ty->Pat->Int->Option (List Vt)×Int
 |0,_,_,c=>(none,c+1)
 |n+1,t,p,c=>if 60<c+1 then (none,c+1) else if okP w t p=true then finV (zbl (zaL w n) (decide (p.op=5)) (zaf w t p) p.kids 0 (zaS t p) (c+1)) else (none,c+1)
def zbJ (w:List Data) (n:Nat) (t:Ty) (p:Pat) (c:Int):Bool:=zav w n t p&&(decide (c+(p.size:Int)<=60)&&linP w n t p)
theorem zgr (w:List Data):∀(n:Nat) (t:Ty) (p:Pat),zav w n t p=true->linP w n t p=true->zcn (zaJ w n t p)=true
 |0,t,p,h,_=>by simp[zav] at h
 |n+1,t,p,h,hl=>by
  by_cases h5:p.op=5
  ·simp only[zav,linP,xad,if_pos h5] at h hl;have e1:zaf w t p=[t,t]:=by unfold zaf;rw[if_neg oe,if_pos h5]
   rw[e1] at h hl;rcases hk:p.kids with _|⟨x,_|⟨y,_|⟨z,r⟩⟩⟩
   ·rw[hk] at h;simp[all2] at h
   ·rw[hk] at h;simp[all2] at h
   ·rw[hk] at h hl;simp only[all2,xad,and_true] at h hl;have:=zgr w n t x h.2.1 hl.1.1;have e2:zaJ w (n+1) t p=zaJ w n t x:=by
     simp only[zaJ,zaS,zcB,e1,hk,if_pos h5];rw[if_neg oe];simp[za7]
    rw[e2];exact this
   ·rw[hk] at h;simp[all2] at h
  ·simp only[linP,if_neg h5,xad] at hl;rw[<-zmr];exact hl.2
theorem zmS {w:List Data}{n:Nat} (ih:∀t p c,((zaL w n t p c).1=if zbJ w n t p c=true then some (zaJ w n t p) else none)/\(zbJ w n t p c=true->(zaL w n t p c).2=c+p.size)):
  ∀(a:List Ty) (b:List Pat) (i:Nat) (acc:List Vt) (c:Int),a.length=b.length->c<=60->
   ((zbl (zaL w n) false a b i acc c).1=if (all2 (zav w n) a b&&(decide (c+(Pats.size b:Int)<=60)&&all2 (linP w n) a b))=true then some (acc++za7 (zaJ w n) a b) else none)/\
   ((all2 (zav w n) a b&&(decide (c+(Pats.size b:Int)<=60)&&all2 (linP w n) a b))=true->(zbl (zaL w n) false a b i acc c).2=c+Pats.size b)
 | [],[],i,acc,c,_,hc=>by simp[zbl,all2,Pats.size,za7,hc]
 |x::r,y::s,i,acc,c,hl,hc=>by
  obtain⟨h1,h2⟩:=ih x y c;have hps:Pats.size (y::s)=y.size+Pats.size s:=rfl;simp only[zbl,za7];by_cases hw:zbJ w n x y c=true
  ·have h3:=h2 hw;rw[if_pos hw] at h1;rw[h1];simp only[Bool.false_eq_true,false_and,if_false];have h4:=hw;simp only[zbJ,xad,xah] at h4;obtain⟨h5,h6⟩:=zmS ih r s (i+1) (acc++zaJ w n x y) (zaL w n x y c).2 (by simpa using hl) oe;have e:(all2 (zav w n) (x::r) (y::s)&&(decide (c+(Pats.size (y::s):Int)<=60)&&all2 (linP w n) (x::r) (y::s)))=(all2 (zav w n) r s&&(decide ((zaL w n x y c).2+(Pats.size s:Int)<=60)&&all2 (linP w n) r s)):=by
    rw[all2,all2,h4.1,h4.2.2,h3];simp only[Bool.true_and];congr 2
    exact decide_eq_decide.2 oe
   rw[e];refine⟨?_,fun hx=>?_⟩
   ·rw[h5,xar]
   ·rw[h6 hx,h3];omega
  ·rw[if_neg hw] at h1;rw[h1];simp only;have hf:¬(all2 (zav w n) (x::r) (y::s)&&(decide (c+(Pats.size (y::s):Int)<=60)&&all2 (linP w n) (x::r) (y::s)))=true:=fun h=>by
    simp only[all2,xad,xah] at h;refine hw ?_;simp only[zbJ,xad,xah];refine⟨h.1.1, ?_,h.2.2.1⟩;have:=h.2.1;omega
   rw[if_neg hf];exact⟨rfl,fun h=>absurd h hf⟩
 | [],_::_,_,_,_,hl,_=>by simp at hl
 |_::_,[],_,_,_,hl,_=>by simp at hl
theorem zeV (w:List Data):∀(n:Nat) (t:Ty) (p:Pat) (c:Int),((zaL w n t p c).1=if zbJ w n t p c=true then some (zaJ w n t p) else none)/\(zbJ w n t p c=true->(zaL w n t p c).2=c+p.size)
 |0,t,p,c=>by simp[zaL,zbJ,zav]
 |n+1,t,p,c=>by
  have hsz:=xa4 p;unfold zaL;by_cases h1:60<c+1
  ·have hf:¬zbJ w (n+1) t p c=true:=fun h=>by
    simp only[zbJ,xad,xah] at h;omega
   rw[if_pos h1,if_neg hf];exact⟨rfl,fun h=>absurd h hf⟩
  rw[if_neg h1];by_cases h2:okP w t p=true
  ·rw[if_pos h2];have h2':=h2;simp only[okP,xad,xah] at h2';by_cases h5:p.op=5
   ·have e1:zaf w t p=[t,t]:=by unfold zaf;rw[if_neg oe,if_pos h5]
    have e3:zaS t p=[]:=by unfold zaS;rw[if_neg oe]
    rw[e1] at h2';rcases hk:p.kids with _|⟨x,_|⟨y,_|⟨z,r⟩⟩⟩
    ·rw[hk] at h2';simp at h2'
    ·rw[hk] at h2';simp at h2'
    ·have e4:zaJ w (n+1) t p=zaJ w n t x:=by
      simp only[zaJ,zcB,e1,hk,if_pos h5,e3];simp[za7]
     have e5:zbJ w (n+1) t p c=((zav w n t x&&zav w n t y)&&(decide (c+1+(x.size:Int)+y.size<=60)&&((linP w n t x&&linP w n t y)&&zdm (zaJ w n t x) (zaJ w n t y)))):=by
      simp only[zbJ,zav,linP,h2'.1,e1,hk,all2,if_pos h5,Bool.and_true,Bool.true_and,nth,List.getD_cons_zero,List.getD_cons_succ];congr 2
      refine decide_eq_decide.2 ?_;rw[hsz,hk];simp only[Pats.size];push_cast;omega
     rw[e4,e5,e1,e3];obtain⟨a1,a2⟩:=zeV w n t x (c+1);simp only[zbl,h5,decide_true];by_cases w1:zbJ w n t x (c+1)=true
     ·have a3:=a2 w1;rw[if_pos w1] at a1;have b1:=w1;simp only[zbJ,xad,xah] at b1;obtain⟨d1,d2⟩:=zeV w n t y (zaL w n t x (c+1)).2;rw[a1];simp only[true_and,Nat.zero_ne_one,if_false,List.nil_append];by_cases w2:zbJ w n t y (zaL w n t x (c+1)).2=true
      ·have d3:=d2 w2;rw[if_pos w2] at d1;have b2:=w2;simp only[zbJ,xad,xah] at b2;rw[d1];simp only[Nat.zero_add,if_true];have n1:=zgr w n t x b1.1 b1.2.2;have n2:=zgr w n t y b2.1 b2.2.2;have e6:((zav w n t x&&zav w n t y)&&(decide (c+1+(x.size:Int)+y.size<=60)&&((linP w n t x&&linP w n t y)&&zdm (zaJ w n t x) (zaJ w n t y))))=zdD (zaJ w n t x) (zaJ w n t y):=by
        rw[b1.1,b2.1,b1.2.2,b2.2.2,znM n2,xax oe];simp
       rw[e6];by_cases hs:zdD (zaJ w n t x) (zaJ w n t y)=true
       ·rw[if_pos hs,if_pos hs];simp only[finV,n1,if_true];refine⟨trivial,fun _=>?_⟩;rw[d3,a3,hsz,hk];simp only[Pats.size];push_cast;omega
       ·rw[if_neg hs,if_neg hs];simp only[finV];exact⟨trivial,fun h=>absurd h hs⟩
      ·rw[if_neg w2] at d1;rw[d1];simp only[finV];have hf:¬((zav w n t x&&zav w n t y)&&(decide (c+1+(x.size:Int)+y.size<=60)&&((linP w n t x&&linP w n t y)&&zdm (zaJ w n t x) (zaJ w n t y))))=true:=fun h=>by
        simp only[xad,xah] at h;refine w2 ?_;simp only[zbJ,xad,xah];exact⟨h.1.2,by omega,h.2.2.1.2⟩
       rw[if_neg hf];exact⟨rfl,fun h=>absurd h hf⟩
     ·rw[if_neg w1] at a1;rw[a1];simp only[finV];have hf:¬((zav w n t x&&zav w n t y)&&(decide (c+1+(x.size:Int)+y.size<=60)&&((linP w n t x&&linP w n t y)&&zdm (zaJ w n t x) (zaJ w n t y))))=true:=fun h=>by
       simp only[xad,xah] at h;refine w1 ?_;simp only[zbJ,xad,xah];exact⟨h.1.1,by omega,h.2.2.1.1⟩
      rw[if_neg hf];exact⟨rfl,fun h=>absurd h hf⟩
    ·rw[hk] at h2';simp at h2'
   ·have e0:(decide (p.op=5))=false:=xaw h5;rw[e0];obtain⟨a1,a2⟩:=zmS (fun t p c=>zeV w n t p c) (zaf w t p) p.kids 0 (zaS t p) (c+1) h2'.2.symm oe;have e4:zaJ w (n+1) t p=zaS t p++za7 (zaJ w n) (zaf w t p) p.kids:=by simp only[zaJ,zcB,if_neg h5]
    have e5:zbJ w (n+1) t p c=((all2 (zav w n) (zaf w t p) p.kids&&(decide (c+1+(Pats.size p.kids:Int)<=60)&&all2 (linP w n) (zaf w t p) p.kids))&&zcn (zaJ w (n+1) t p)):=by
     have:decide (c+(p.size:Int)<=60)=decide (c+1+(Pats.size p.kids:Int)<=60):=decide_eq_decide.2 oe;simp only[zbJ,zav,linP,h2'.1,if_neg h5,Bool.true_and,zmr,this,Bool.and_assoc]
    rw[e5];by_cases hw:(all2 (zav w n) (zaf w t p) p.kids&&(decide (c+1+(Pats.size p.kids:Int)<=60)&&all2 (linP w n) (zaf w t p) p.kids))=true
    ·rw[if_pos hw,<-e4] at a1;have a3:=a2 hw;rw[hw,Bool.true_and];unfold finV;rw[a1];by_cases hn:zcn (zaJ w (n+1) t p)=true
     ·simp only[hn,if_true];exact⟨a1,fun _=>by rw[a3];omega⟩
     ·simp only[hn,Bool.false_eq_true,if_false];exact⟨trivial,fun h=>absurd h oh⟩
    ·rw[if_neg hw] at a1;have hw':(all2 (zav w n) (zaf w t p) p.kids&&(decide (c+1+(Pats.size p.kids:Int)<=60)&&all2 (linP w n) (zaf w t p) p.kids))=false:=by simpa using hw
     rw[hw',Bool.false_and];unfold finV;rw[a1];simp[a1]
  ·have hf:¬zbJ w (n+1) t p c=true:=fun h=>by
    simp only[zbJ,zav,xad,xah] at h;refine h2 ?_;simp only[okP,xad,xah];refine⟨h.1.1, ?_⟩;by_cases hl:(zaf w t p).length=p.kids.length
    ·exact hl.symm
    ·have:=zfV (f:=zav w n) hl;rw[this] at h;simp at h
   rw[if_neg h2,if_neg hf];exact⟨rfl,fun h=>absurd h hf⟩
mutual
def cntP (m:Int):Pat->Int
 | .mk _ _ _ _ _ ks=>zcL m 1 ks
def zcL (m n:Int):List Pat->Int
 | []=>n
 |k::r=>if n<=m then zcL m (n+cntP (m-n) k) r else n
end
theorem zqC (m:Int) (v:Pat):cntP m v=zcL m 1 v.kids:=by cases v;rfl
theorem zjI {m n:Int}{l:List Pat} (h:¬n<=m):zcL m n l=n:=by cases l<;>simp[zcL,h]
mutual
theorem ziC:∀(v:Pat) (m:Int),1<=cntP m v/\cntP m v<=v.size
 | .mk _ _ _ _ _ ks,m=>by
  have:=zi8 ks m 1 oe;simp only[cntP,Pat.size];push_cast;omega
theorem zi8:∀(l:List Pat) (m n:Int),1<=n->1<=zcL m n l/\zcL m n l<=n+Pats.size l
 | [],m,n,h=>by simp[zcL,Pats.size];omega
 |k::r,m,n,h=>by
  have h1:=ziC k (m-n);have h2:=zi8 r m (n+cntP (m-n) k) oe;simp only[zcL,Pats.size];split
  ·push_cast;omega
  ·push_cast;omega
end
mutual
theorem zmj:∀(v:Pat) (m:Int),(cntP m v<=m↔(v.size:Int)<=m)/\(cntP m v<=m->cntP m v=v.size)
 | .mk _ _ _ _ _ ks,m=>by
  have:=zk9 ks m 1;simp only[cntP,Pat.size];push_cast;exact this
theorem zk9:∀(l:List Pat) (m n:Int),(zcL m n l<=m↔n+(Pats.size l:Int)<=m)/\(zcL m n l<=m->zcL m n l=n+Pats.size l)
 | [],m,n=>by simp[zcL,Pats.size]
 |k::r,m,n=>by
  have h1:=zmj k (m-n);have h2:=zk9 r m (n+cntP (m-n) k);have h3:=zi8 r m (n+cntP (m-n) k);have h4:=ziC k (m-n);simp only[zcL,Pats.size];push_cast
  by_cases hn:n<=m
  ·rw[if_pos hn];by_cases h5:cntP (m-n) k<=m-n
   ·have h6:=h1.2 h5;rw[h6] at h2 ⊢;constructor
    ·rw[h2.1];constructor<;>intro h<;>omega
    ·intro h;rw[h2.2 h];omega
   ·have h7:¬(k.size:Int)<=m-n:=fun h=>h5 (h1.1.2 h);have h8:¬n+cntP (m-n) k<=m:=by omega
    rw[zjI h8];constructor
    ·constructor<;>intro h<;>omega
    ·intro h;omega
  ·rw[if_neg hn];constructor
   ·constructor<;>intro h<;>omega
   ·intro h;omega
end
theorem xbc {pre rest l:List Pat}{y:Pat} (h:pre++y::rest=l):Pats.size l=Pats.size pre+y.size+Pats.size rest:=by
 subst h;induction pre with
 |nil=>simp[Pats.size]
 |cons x r ih=>simp only[xai,Pats.size,ih];omega
theorem zee {l:List Pat}{i:Nat} (h:i<l.length):(nth l i).size<=Pats.size l:=xbb (zaq h)
theorem zkf {l:List Pat}{i:Nat} (h:i<l.length):Pats.size (l.drop i)=(nth l i).size+Pats.size (l.drop (i+1)):=by
 rw[zbm h];rfl
theorem zeF:∀(n:Nat){v:Pat}{m:Int},v.size<=n->v.size<=1000000000000->v.ok->0<=m->m<=1000000000000->FnD Tryz.prog 98 [.agg [.d (.i v.op),.d (.i v.ctor),.d (.i v.n),.d (.i v.m),.d (.i v.var),.d (zaC v.kids)],.d (.i m)] [] (.d (.i (cntP m v))) []
 |0,v,m,h,_,_,_,_=>by rw[xa4] at h;omega
 |n+1,v,m,h,hb,hok,m0,m1=>by
  rw[xa4] at h hb;rw[xa1] at hok;rw[zqC];refine bd Tryz.f98 31 [] [] fun _ _ _ _ hk=>?_;refine bx 3002 ?_;refine ev (xaD (ι:=Nat×Int) hk (fun x=>[(6,.d (.i (x.1:Int))),(5,.d (.i x.2))]) [7,8,9,10,11,12,13,14,15,16,17,18,19,20,21,22,23,24,25,26,27,28,29] (fun x=>[]) (fun x=>x.1<=v.kids.length/\zcL m x.2 (v.kids.drop x.1)=zcL m 1 v.kids/\1<=x.2/\x.2+Pats.size (v.kids.drop x.1)<=1+Pats.size v.kids) (fun x=>v.kids.length-x.1) (0,1) ⟨by simp,by simp,by simp,by simp⟩ ⟨⟨_,I,xaT ?_⟩,⟨⟨_,I,xaT ?_⟩,O⟩⟩ O (fun x=>rfl) (fun x hg1=>?_));iterate 2 focus (rfl)
  refine evc [] [] ?_;apply sq<;>intro h1 h1p h1s<;>(try simp only[Q,xaY] at h1p);apply sq<;>intro h2 h2p h2s<;>(try simp only[Q,xaY] at h2p);refine ixq sl45 I I I (zbQ oe) I ?_;refine ev (ar ?_ (by(constructor<;>omega)));refine wc znV (zeF n (v:=nth v.kids x.1) (by have:=zee (l:=v.kids) (i:=x.1) oe;omega) (by have:=zee (l:=v.kids) (i:=x.1) oe;omega) (xa9 hok.2 _ (zaq oe)) oe oe) I I ?_;refine ev (ar ?_ (by(have hz:=ziC (nth v.kids x.1) (m-x.2);have hs:=zkf (l:=v.kids) (i:=x.1) oe;constructor<;>omega)));refine ar ?_ (by(constructor<;>omega));refine xaj ((x.1+1,x.2+cntP (m-x.2) (nth v.kids x.1))) ⟨(by
      have hz:=ziC (nth v.kids x.1) (m-x.2);have hs:=zkf (l:=v.kids) (i:=x.1) oe;refine⟨by dsimp only;omega, ?_,by dsimp only;omega,by dsimp only;omega⟩;rw[<-hg1.2.1,zbm (l:=v.kids) (i:=x.1) oe,zcL,if_pos oe]),(by dsimp only;omega),sx ⟨⟨_,rfl,xaT ?_⟩,⟨⟨_,rfl,xaT ?_⟩,trivial⟩⟩ trivial⟩
  iterate 2 focus (rfl)
  refine rq ?_;rotate_left;refine sqF ?_;refine rq ?_;rotate_left;all_goals (refine xam D.i ?_;rw[<-hg1.2.1];first|(rw[List.drop_eq_nil_of_le oe];rfl)|(rw[zjI oe]))
set_option maxHeartbeats 4000000
theorem zgB {w:List Data}{d:Nat}{k:Int}:zaW w ⟨d,k⟩=zdq w ⟨d,k⟩:=by unfold zaW;rw[if_neg (by simp only;omega)]
theorem zfK {w:List Data}{k:Int}:zaW w ⟨-1,k⟩=[]:=by unfold zaW;rw[if_pos rfl]
theorem zfL {w:List Data} (hw:WT w){a k:Int} (ht:TyIn w.length ⟨a,k⟩):(zaW w ⟨a,k⟩).length<=1000000000000:=by
 rcases ht with ha|⟨d,hd,hlt⟩
 ·simp only at ha;subst ha;rw[zfK];exact Nat.zero_le _
 ·simp only at hd;subst hd;rw[zgB];exact zm5 hw
theorem zbw {w:List Data}{a k c:Int} (ht:TyIn w.length ⟨a,k⟩) (h:c∈zaW w ⟨a,k⟩):∃d:Nat,a=d/\d<w.length/\PlaceIn w d c:=by
 rcases ht with ha|⟨d,hd,hlt⟩
 ·simp only at ha;subst ha;rw[zfK] at h;simp at h
 ·simp only at hd;subst hd;rw[zgB] at h;exact⟨d,rfl,hlt,zpG h⟩
theorem zdf {w:List Data} (hw:WT w){a k:Int}{p:Pat} (ht:TyIn w.length ⟨a,k⟩) (h:ownP w ⟨a,k⟩ p=true):∀t∈zaf w ⟨a,k⟩ p,TyIn w.length t:=by
 intro t hm;unfold zaf at hm;split at hm
 ·rename_i h4;unfold ownP at h;have h':=xas h;have hc:p.ctor∈zaW w ⟨a,k⟩:=by
   rcases h'.2.2.2.2 with h|h|h|h|h|h
   ·omega
   ·omega
   ·omega
   ·omega
   ·omega
   ·exact h.2
  obtain⟨d,rfl,h1,h2⟩:=zbw ht hc;exact zk4 hw h1 h2 hm
 ·split at hm
  ·simp only[List.mem_cons,xau,or_false] at hm;rcases hm with rfl|rfl<;>exact ht
  ·split at hm
   ·simp only[List.mem_cons,xau,or_false] at hm;subst hm;exact ht
   ·simp at hm
theorem zfJ {w:List Data} (hw:WT w){a k:Int}{p:Pat} (ht:TyIn w.length ⟨a,k⟩) (h:p.op=4->p.ctor∈zaW w ⟨a,k⟩):(zaf w ⟨a,k⟩ p).length<=1000000000000:=by
 unfold zaf;split
 ·rename_i h4;obtain⟨d,rfl,h1,h2⟩:=zbw ht (h h4);exact zjy hw h1 h2
 ·split
  ·simp
  ·split<;>simp
def ze8 (op:Int):Int:=if op=5 then 2 else if op=6 then 1 else if op=4 then -1 else 0
theorem zk2 {op:Int}:FnD Tryz.prog 121 [.d (.i op)] [] (.d (.i (ze8 op))) []:=by
 refine bd Tryz.f121 10 [] [] fun _ _ _ _ hk=>?_;apply sq<;>intro h1 h1p h1s;refine rq ?_;rotate_left;apply sq<;>intro h2 h2p h2s;refine rq ?_;rotate_left;apply sq<;>intro h3 h3p h3s;refine rq ?_;rotate_left;refine rq ?_;rotate_left;all_goals (refine xam D.i ?_;simp only[ze8];simp_all)
theorem zc8 {w:List Data} (hw:WT w){a k:Int} (ht:TyIn w.length ⟨a,k⟩):FnD Tryz.prog 65 [.d (zam w),.agg [.d (.i a),.d (.i k)]] [] (.d (zc2 (zaW w ⟨a,k⟩))) []:=by
 rcases ht with ha|⟨d,hd,hlt⟩
 ·simp only at ha;subst ha;rw[zfK];exact zhS
 ·simp only at hd;subst hd;rw[zgB];exact zkk hw hlt
theorem zfs {w:List Data} (hw:WT w){a k c:Int} (ht:TyIn w.length ⟨a,k⟩) (hc:c∈zaW w ⟨a,k⟩):FnD Tryz.prog 42 [.d (zam w),.agg [.d (.i a),.d (.i k)],.d (.i c)] [] (.d (za9 (zan w ⟨a,k⟩ c))) []:=by
 obtain⟨d,rfl,h1,h2⟩:=zbw ht hc;exact zkX hw h1 h2
theorem zfu {w:List Data} (hw:WT w){a k:Int}{p:Pat} (ht:TyIn w.length ⟨a,k⟩):
  FnD Tryz.prog 119 [.d (zam w),.agg [.d (.i a),.d (.i k)],.agg [.d (.i p.op),.d (.i p.ctor),.d (.i p.n),.d (.i p.m),.d (.i p.var),.d (zaC p.kids)]] [] (.d (.bool (ownP w ⟨a,k⟩ p))) []:=by
 have hcl:=zfL hw ht;refine bd Tryz.f119 96 [] [1,2,4,13] fun _ _ _ _ hk=>?_;refine bx 3004 ?_;refine bx 3005 ?_;refine ev (xaG (xbt 8 [(15,.d (.bool (decide (p.op=2\/p.op=6))))] [8,9,10,11,12,13,14] ?_ ?_));refine ev ?_;apply sq<;>intro h1 h1p h1s;exact jnb I;exact jnb I;refine xbs (ev (xaG (xbt 11 [(26,.d (.bool (decide ((p.op=2\/p.op=6)/\(p.var<0\/5<p.var)))))] [16,17,18,19,20,21,22,23,24,25] ?_ ?_)));refine ev ?_;apply sq<;>intro h2 h2p h2s;apply sq<;>intro h3 h3p h3s;exact jnb I;exact jnb I;exact jnb I;refine xbt 9 [(35,.d (.bool (decide ((p.op=2\/p.op=6)/\(p.var<0\/5<p.var)\/¬(p.op=2\/p.op=6)/\p.var≠0))))] [27,28,29,30,31,32,33,34] ?_ ?_;refine ev ?_;apply sq<;>intro h4 h4p h4s;exact jnb I;apply sq<;>intro h5 h5p h5s;exact jnb I;exact jnb I;refine xbs ?_;apply tv;apply sq<;>intro h6 h6p h6s;refine rq ?_;rotate_left;refine xaG (xbt 13 [(48,.d (.bool (decide (p.op≠3/\(p.n≠0\/p.m≠0)))))] [36,37,38,39,40,41,42,43,44,45,46,47] ?_ ?_);refine ev ?_;apply sq<;>intro h7 h7p h7s;apply sq<;>intro h8 h8p h8s;exact jnb I;exact jnb I;exact jnb I;refine xbt 10 [(58,.d (.bool (decide (p.op≠3/\(p.n≠0\/p.m≠0)\/p.op≠4/\p.ctor≠0))))] [49,50,51,52,53,54,55,56,57] ?_ ?_;refine ev ?_;apply sq<;>intro h9 h9p h9s;exact jnb I;apply sq<;>intro h10 h10p h10s;exact jnb I;exact jnb I;refine xbs ?_;apply tv;apply sq<;>intro h11 h11p h11s;refine rq ?_;rotate_left;apply sq<;>intro h12 h12p h12s;apply sq<;>intro h13 h13p h13s;refine rq ?_;rotate_left;apply sq<;>intro h14 h14p h14s;refine xaG (xbt 8 [(75,.d (.bool (decide (a = -1/\0<=p.n))))] [68,69,70,71,72,73,74] ?_ ?_);refine ev ?_;apply sq<;>intro h15 h15p h15s;exact jnb I;exact jnb I;refine xbt 7 [(82,.d (.bool (decide (a = -1/\0<=p.n/\p.n<=p.m))))] [76,77,78,79,80,81] ?_ ?_;refine ev ?_;apply sq<;>intro h16 h16p h16s;exact jnb I;exact jnb I;refine xbt 5 [(87,.d (.bool (decide (a = -1/\0<=p.n/\p.n<=p.m/\p.m<=9))))] [83,84,85,86] ?_ ?_;refine ev ?_;apply sq<;>intro h17 h17p h17s;exact jnb I;exact jnb I;refine xbs (ev (rq ?_));rotate_left;apply sq<;>intro h18 h18p h18s;refine wc zjD (zc8 hw ht) I I ?_;refine evd [] [] (wc zjA (zd1 hcl) I I ?_);refine evd [] [] (dr (rq ?_));rotate_left;refine rq ?_;rotate_left;apply sq<;>intro h19 h19p h19s;apply sq<;>intro h20 h20p h20s;refine rq ?_;rotate_left;apply sq<;>intro h21 h21p h21s;refine xaG (xbt 8 [(75,.d (.bool (decide (a = -1/\0<=p.n))))] [68,69,70,71,72,73,74] ?_ ?_);refine ev ?_;apply sq<;>intro h22 h22p h22s;exact jnb I;exact jnb I;refine xbt 7 [(82,.d (.bool (decide (a = -1/\0<=p.n/\p.n<=p.m))))] [76,77,78,79,80,81] ?_ ?_;refine ev ?_;apply sq<;>intro h23 h23p h23s;exact jnb I;exact jnb I;refine xbt 5 [(87,.d (.bool (decide (a = -1/\0<=p.n/\p.n<=p.m/\p.m<=9))))] [83,84,85,86] ?_ ?_;refine ev ?_;apply sq<;>intro h24 h24p h24s;exact jnb I;exact jnb I;refine xbs (ev (rq ?_));rotate_left;apply sq<;>intro h25 h25p h25s;refine wc zjD (zc8 hw ht) I I ?_;refine evd [] [] (wc zjA (zd1 hcl) I I ?_);refine evd [] [] (dr (rq ?_));rotate_left;refine rq ?_;rotate_left;apply sq<;>intro h26 h26p h26s;apply sq<;>intro h27 h27p h27s;refine rq ?_;rotate_left;apply sq<;>intro h28 h28p h28s;refine xaG (xbt 8 [(75,.d (.bool (decide (a = -1/\0<=p.n))))] [68,69,70,71,72,73,74] ?_ ?_);refine ev ?_;apply sq<;>intro h29 h29p h29s;exact jnb I;exact jnb I;refine xbt 7 [(82,.d (.bool (decide (a = -1/\0<=p.n/\p.n<=p.m))))] [76,77,78,79,80,81] ?_ ?_;refine ev ?_;apply sq<;>intro h30 h30p h30s;exact jnb I;exact jnb I;refine xbt 5 [(87,.d (.bool (decide (a = -1/\0<=p.n/\p.n<=p.m/\p.m<=9))))] [83,84,85,86] ?_ ?_;refine ev ?_;apply sq<;>intro h31 h31p h31s;exact jnb I;exact jnb I;refine xbs (ev (rq ?_));rotate_left;apply sq<;>intro h32 h32p h32s;refine wc zjD (zc8 hw ht) I I ?_;refine evd [] [] (wc zjA (zd1 hcl) I I ?_);refine evd [] [] (dr (rq ?_));rotate_left;refine rq ?_;rotate_left;apply sq<;>intro h33 h33p h33s;refine rq ?_;rotate_left;apply sq<;>intro h34 h34p h34s;refine xaG (xbt 8 [(75,.d (.bool (decide (a = -1/\0<=p.n))))] [68,69,70,71,72,73,74] ?_ ?_);refine ev ?_;apply sq<;>intro h35 h35p h35s;exact jnb I;exact jnb I;refine xbt 7 [(82,.d (.bool (decide (a = -1/\0<=p.n/\p.n<=p.m))))] [76,77,78,79,80,81] ?_ ?_;refine ev ?_;apply sq<;>intro h36 h36p h36s;exact jnb I;exact jnb I;refine xbt 5 [(87,.d (.bool (decide (a = -1/\0<=p.n/\p.n<=p.m/\p.m<=9))))] [83,84,85,86] ?_ ?_;refine ev ?_;apply sq<;>intro h37 h37p h37s;exact jnb I;exact jnb I;refine xbs (ev (rq ?_));rotate_left;apply sq<;>intro h38 h38p h38s;refine wc zjD (zc8 hw ht) I I ?_;refine evd [] [] (wc zjA (zd1 hcl) I I ?_);refine evd [] [] (dr (rq ?_));rotate_left;refine rq ?_;rotate_left;all_goals (refine xam D.bool ?_;unfold ownP;rw[xat];by_cases hmem:p.ctor∈zaW w ⟨a,k⟩<;>(simp only[hmem,and_true,and_false,or_false,xah,xad,Bool.false_eq_true,true_iff,false_iff];simp only[xah,decide_eq_false_iff_not] at *;omega))
theorem zcO {w:List Data} (hw:WT w){a k:Int}{p:Pat} (ht:TyIn w.length ⟨a,k⟩) (h:p.op=4->p.ctor∈zaW w ⟨a,k⟩):
  FnD Tryz.prog 101 [.d (zam w),.agg [.d (.i a),.d (.i k)],.agg [.d (.i p.op),.d (.i p.ctor),.d (.i p.n),.d (.i p.m),.d (.i p.var),.d (zaC p.kids)]] [] (.d (za9 (zaf w ⟨a,k⟩ p))) []:=by
 by_cases h4:p.op=4
 ·have e:zaf w ⟨a,k⟩ p=zan w ⟨a,k⟩ p.ctor:=by unfold zaf;rw[if_pos h4]
  rw[e];refine bd Tryz.f101 30 [] [] fun _ _ _ _ hk=>?_;refine bx 3004 ?_;refine bx 3005 ?_;refine ev ?_;apply sq<;>intro h1 h1p h1s;refine wc zdv (zfs hw ht (h h4)) I I ?_;refine ev (rq ?_);rotate_left;exfalso;simp_all;all_goals (rfl)
 ·have e:zaf w ⟨a,k⟩ p=List.replicate (ze8 p.op).toNat ⟨a,k⟩:=by
   unfold zaf ze8;rw[if_neg h4];by_cases h5:p.op=5
   ·rw[if_pos h5,if_pos h5];rfl
   ·rw[if_neg h5,if_neg h5];by_cases h6:p.op=6
    ·rw[if_pos h6,if_pos h6];rfl
    ·rw[if_neg h6,if_neg h6,if_neg h4];rfl
  have hb:0<=ze8 p.op/\ze8 p.op<=2:=by unfold ze8;split<;>(try split)<;>(try split)<;>omega
  rw[e];refine bd Tryz.f101 30 [] [] fun _ _ _ _ hk=>?_;refine bx 3004 ?_;refine bx 3005 ?_;refine ev ?_;apply sq<;>intro h1 h1p h1s;exfalso;simp_all;refine xb3 5 sl78 .none I I (ev (xaD (ι:=Nat) hk (fun i=>[(8,.d (.i (i:Int))),(7,.gl 5 ((List.replicate i (⟨a,k⟩:Ty)).map Ty.c))]) [18,19,20,21,22,23,24,25,26,27,28] (fun i=>[(5,some (.tok (((List.replicate i (⟨a,k⟩:Ty)).map Ty.c)).length 2))]) (fun i=>(i:Int)<=ze8 p.op) (fun i=>(ze8 p.op).toNat-i) 0 oe ⟨⟨_,I,xaT ?_⟩,⟨⟨_,I,LeA.glg ?_⟩,O⟩⟩ ⟨zar ?_,O⟩ (fun x=>rfl) (fun i hg1=>?_)));iterate 3 focus (rfl)
  refine evc [] [] (wc zq7 zk2 I I ?_);refine ev ?_;apply sq<;>intro h2 h2p h2s<;>(try simp only[Q] at h2p);refine si [0] [_] sl78 tz31 ?_;refine ap sl78 zz31 I I I oh ot ?_;refine ev (ar (xaj (i+1) ⟨oe,oe,sx ⟨⟨_,I,xaT ?_⟩,⟨⟨_,I,LeA.glg ?_⟩,O⟩⟩ ⟨zar ?_,O⟩⟩));iterate 3 focus ((simp[List.replicate_succ'];done))
  refine rn0 (r1 I) (.gld ?_);rotate_left;all_goals ((obtain rfl:i=(ze8 p.op).toNat:=by omega);simp)
theorem zcc {w:List Data}{n:Nat}{t:Ty}{p:Pat} (h:zav w (n+1) t p=true):ownP w t p=true/\p.kids.length=(zaf w t p).length:=by
 simp only[zav,xad] at h;refine⟨h.1, ?_⟩;by_cases hl:(zaf w t p).length=p.kids.length
 ·exact hl.symm
 ·rw[zfV hl] at h;simp at h
theorem zcz {w:List Data}{t:Ty}{p:Pat} (h:ownP w t p=true):p.op=4->p.ctor∈zaW w t:=by
 intro h4;unfold ownP at h;have h':=(xas h).2.2.2.2;rcases h' with h|h|h|h|h|h
 ·omega
 ·omega
 ·omega
 ·omega
 ·omega
 ·exact h.2
theorem zjq {w:List Data}{t:Ty}{p:Pat} (h:ownP w t p=true):(p.op=2\/p.op=6)->0<=p.var/\p.var<=5:=by
 unfold ownP at h;exact(xas h).1
theorem zeG {w:List Data} (hw:WT w):∀(n:Nat){a k m:Int}{p:Pat},m=n->n<=1000->TyIn w.length ⟨a,k⟩->p.ok->
  FnD Tryz.prog 97 [.d (zam w),.agg [.d (.i a),.d (.i k)],.agg [.d (.i p.op),.d (.i p.ctor),.d (.i p.n),.d (.i p.m),.d (.i p.var),.d (zaC p.kids)],.d (.i m)] [] (.d (.bool (zav w n ⟨a,k⟩ p))) []
 |0,a,k,m,p,hm,_,ht,hok=>by
  refine bd Tryz.f97 50 [] [1] fun _ _ _ _ hk=>?_;refine bx 3005 ?_;refine bx 3006 ?_;refine ev (xaG (xbt 9 [(19,.d (.bool true))] [11,12,13,14,15,16,17,18] ?_ ?_));refine ev ?_;apply sq<;>intro h1 h1p h1s;exact jnb I;refine Walk.call (cr:=[]) zme (zfu hw ht) I (.some I I h1) I I (LeL.refl _) O I I I (evs [] [(13,false)] ?_ ⟨⟨_,I,h1⟩,O⟩);exact jnb I;refine xbs ?_;apply tv;apply sq<;>intro h2 h2p h2s;refine rq ?_;rotate_left;exact absurd h2 oh;all_goals (rfl)
 |n+1,a,k,m,p,hm,hn,ht,hok=>by
  rw[xa1] at hok;by_cases ho:ownP w ⟨a,k⟩ p=true
  ·have hin:=zdf hw ht ho;have hlen:=zfJ hw ht (zcz ho);refine bd Tryz.f97 50 [] [1] fun _ _ _ _ hk=>?_;refine bx 3005 ?_;refine bx 3006 ?_;refine ev (xaG (xbt 9 [(19,.d (.bool false))] [11,12,13,14,15,16,17,18] ?_ ?_));refine ev ?_;apply sq<;>intro h1 h1p h1s;exact jnb I;refine Walk.call (cr:=[]) zme (zfu hw ht) I (.some I I h1) I I (LeL.refl _) O I I I (evs [] [(13,false)] ?_ ⟨⟨_,I,h1⟩,O⟩);exact jnb I;refine xbs ?_;apply tv;apply sq<;>intro h2 h2p h2s;exact absurd h2 oh;refine wc zhU (zcO hw ht (zcz ho)) I I ?_;refine ev ?_;apply sq<;>intro h3 h3p h3s;refine rq ?_;rotate_left;try simp only[Q,xaY] at h3p
   refine xaD (ι:=Nat) hk (fun i=>[(10,.d (.i (i:Int)))]) [8,30,31,32,33,34,35,36,37,38,39,40,41,42,43,44,45,46,47,48,49] (fun i=>[]) (fun i=>i<=(zaf w ⟨a,k⟩ p).length/\∀i',i'<i->zav w n (nth (zaf w ⟨a,k⟩ p) i') (nth p.kids i')=true) (fun i=>(zaf w ⟨a,k⟩ p).length-i) 0 ⟨by omega,fun _ h=>absurd h oe⟩ ⟨⟨_,I,xaT ?_⟩,O⟩ O (fun x=>rfl) (fun i hg1=>?_);focus (first|(simp;done)|(simp_all;done))
   refine evc [] [1] ?_;apply sq<;>intro h4 h4p h4s;try simp only[Q,xaY] at h4p
   refine ixq sl78 I I I (zau oe) I ?_;refine evd [] [] (ixq sl45 I I I (zbQ oe) I ?_);refine evd [] [] (ar (wc znU (zeG hw n oe oe (hin _ (zaq oe)) (xa9 hok.2 _ (zaq oe))) I I ?_));refine evd [] [] (dr ?_);apply sq<;>intro h5 h5p h5s;refine rq ?_;rotate_left;try simp only[Q,xaY] at h5p
   refine ar (xaj (i+1) ⟨⟨by omega,za0 hg1.2 ol⟩,oe,sx ⟨⟨_,I,xaT ?_⟩,O⟩ O⟩);focus (first|(simp;done)|(simp_all;done))
   refine rq ?_;rotate_left;all_goals (refine xam D.bool ?_;unfold zav;rw[ho,Bool.true_and];first|(rw[zfV (by simp[xaY] at *;omega)])|(rw[zdW (by simp[xaY] at *;omega) (fun x hx=>hg1.2 x (by simp[xaY] at *;omega))])|(rw[zc1 (i:=i) (by simp[xaY] at *;omega) (by simp[xaY] at *;omega) ol]))
  ·have ho':ownP w ⟨a,k⟩ p=false:=by simpa using ho
   refine bd Tryz.f97 50 [] [1] fun _ _ _ _ hk=>?_;refine bx 3005 ?_;refine bx 3006 ?_;refine ev (xaG (xbt 9 [(19,.d (.bool true))] [11,12,13,14,15,16,17,18] ?_ ?_));refine ev ?_;apply sq<;>intro h1 h1p h1s;exact jnb I;refine Walk.call (cr:=[]) zme (zfu hw ht) I (.some I I h1) I I (LeL.refl _) O I I I (evs [] [(13,false)] ?_ ⟨⟨_,I,h1⟩,O⟩);exact jnb I;refine xbs ?_;apply tv;apply sq<;>intro h2 h2p h2s;refine rq ?_;rotate_left;exact absurd h2 oh;all_goals (refine xam D.bool ?_;unfold zav;rw[ho'];rfl)
theorem zeY {l:List Vt}{n:Int} (h:l.length<=1000000000000):FnD Tryz.prog 100 [.d (zcy l),.d (.i n)] [] (.d (.i (zbA l n))) []:=by
 refine bd Tryz.f100 20 [] [] fun _ _ _ _ hk=>?_;refine xaD (ι:=List (Vt)×List (Vt)) hk (fun x=>[(5,.d (.i (x.1.length:Int)))]) [4,6,7,8,9,10,11,12,13,14,15,16,17,18,19] (fun x=>[]) (fun x=>x.1++x.2=l/\idxF (fun v=>decide (v.var=n)) x.2 x.1.length=idxF (fun v=>decide (v.var=n)) l 0) (fun x=>x.2.length) ([],l) ⟨by simp,I⟩ ⟨⟨_,I,xaT ?_⟩,O⟩ O (fun x=>rfl) (fun x hg1=>?_);focus (rfl)
 obtain⟨pre,rest⟩:=x;dsimp only at hg1 ⊢;refine evc [] [] ?_;apply sq<;>intro h1 h1p h1s<;>(try simp only[Q] at h1p);rcases rest with _|⟨y,rest⟩
 ·exfalso;simp_all
 refine ixq zcZ I I I (zbd hg1.1) I (ev ?_);apply sq<;>intro h2 h2p h2s<;>(try simp only[Q] at h2p);focus (refine rq ?_;all_goals (refine xam D.i ?_;unfold zbA;rw[<-hg1.2];simp[idxF,h1s,h1p,h2s,h2p]))
 refine ar (xaj ((pre++[y],rest)) ⟨⟨(by have hz:=hg1.1;rw[<-hz];simp),(by rw[<-hg1.2];simp_all[idxF])⟩,oh,sx ⟨⟨_,I,xaT ?_⟩,O⟩ O⟩);focus ((simp;done))
 have hrest:rest=[]:=by
  rcases rest with _|⟨a,b⟩
  ·rfl
  ·exfalso;have hz:=xam List.length (hg1.1);simp only[xaa,xab,xac] at hz;omega
 subst hrest;focus (refine rq ?_;all_goals (refine xam D.i ?_;unfold zbA;rw[<-hg1.2];simp[idxF,h1s,h1p]))
theorem zm3 {a b:List Vt}{i:Nat} (h:i<a.length) (h2:¬(0<=zbA b (nth a i).var/\(nth b (zbA b (nth a i).var).toNat).ty=(nth a i).ty)):zdm a b=false:=by
 unfold zdm;have:(a.all fun v=>decide (0<=zbA b v.var/\(nth b (zbA b v.var).toNat).ty=v.ty))=false:=List.all_eq_false.2 ⟨_,zaq h,by simpa using h2⟩;rw[this,Bool.false_and]
theorem znN {a b:List Vt} (h:∀i,i<a.length->0<=zbA b (nth a i).var/\(nth b (zbA b (nth a i).var).toNat).ty=(nth a i).ty):zdm a b=decide (a.length=b.length):=by
 unfold zdm;have:(a.all fun v=>decide (0<=zbA b v.var/\(nth b (zbA b v.var).toNat).ty=v.ty))=true:=by
  rw[List.all_eq_true];intro v hv;obtain⟨j,hj,he⟩:=List.getElem_of_mem hv;have:=h j hj;rw[zaY hj,he] at this;exact xax this
 rw[this,Bool.true_and]
theorem zje {l:List Vt}{n:Int} (h:0<=zbA l n):(zbA l n).toNat<l.length/\((zbA l n).toNat:Int)=zbA l n:=by
 rcases zem l n with ⟨h1,_⟩|⟨k,h1,h2,_⟩
 ·omega
 ·rw[h1];simpa using h2
theorem zpe {t u:Ty}:t=u↔t.data=u.data/\t.index=u.index:=by
 cases t;cases u;simp
theorem zkm {x y:List Vt} (hx:x.length<=1000000000000) (hy:y.length<=1000000000000):FnD Tryz.prog 120 [.d (zcy x),.d (zcy y)] [] (.d (.bool (zdm x y))) []:=by
 refine bd Tryz.f120 40 [33] [] fun _ _ _ _ hk=>?_;refine xaD (ι:=Nat) hk (fun i=>[(5,.d (.i (i:Int)))]) [4,6,7,8,9,10,11,12,13,14,15,16,17,18,19,20,21,22,23,24,25,26,27,28,29,30,31,32,33,34] (fun i=>[]) (fun i=>i<=x.length/\∀j,j<i->0<=zbA y (nth x j).var/\(nth y (zbA y (nth x j).var).toNat).ty=(nth x j).ty) (fun i=>x.length-i) 0 ⟨by omega,fun _ h=>absurd h oe⟩ ⟨⟨_,I,xaT ?_⟩,O⟩ O (fun x=>rfl) (fun i hg1=>?_);focus (rfl)
 refine evc [33] [] ?_;apply sq<;>intro h1 h1p h1s<;>(try simp only[Q] at h1p);refine ixq zcZ I I I (zau oe) I ?_;refine evs [33] [] (wc zmb (zeY hy) I I ?_);refine evs [33] [] ?_;apply sq<;>intro h2 h2p h2s<;>(try simp only[Q] at h2p);refine dr (sqT ?_);refine rq ?_;rotate_left;refine xbL (i:=(zbA y (nth x i).var).toNat) zcZ (.some I I h2) I I I (zje (l:=y) (n:=(nth x i).var) oe).2.symm (zau (by exact(zje (l:=y) (n:=(nth x i).var) oe).1)) I ?_;refine evd [33] [(22,false)] ?_ ⟨⟨_,I,h2⟩,O⟩;refine xbL zcZ (.some I I h2) I I I I (zau oe) I ?_;refine evd [33] [(22,false)] ?_ ⟨⟨_,I,h2⟩,O⟩;refine Walk.neV eq31 (.some I I h2) I I I I I (evd [33] [(22,false)] ?_ ⟨⟨_,I,h2⟩,O⟩);refine dr ?_;apply sq<;>intro h4 h4p h4s<;>(try simp only[Q] at h4p);refine rq ?_;rotate_left;refine ar (xaj (i+1) ⟨⟨by omega,za0 hg1.2 (by rw[zpe];first|omega|(simp at h4;omega))⟩,oe,sx ⟨⟨_,I,xaT ?_⟩,O⟩ O⟩);focus (rfl)
 refine rq ?_;rotate_left;all_goals (refine xam D.bool ?_;first|(refine(zm3 (i:=i) oe ?_).symm;simp only[zpe];first|omega|(simp at h4;omega))|(rw[znN (fun j hj=>hg1.2 j (by simp at h1p;omega))];exact decide_eq_decide.2 ot))
theorem zix {f:Ty->Pat->List Vt} (hf:∀t p,(f t p).length<=p.size):∀(a:List Ty) (b:List Pat),(za7 f a b).length<=Pats.size b
 | [],[]=>by simp[za7]
 | [],_::_=>by simp[za7]
 |_::_,[]=>by simp[za7]
 |x::r,y::s=>by
  have h1:=zix hf r s;have h2:=hf x y;simp only[za7,xaa,Pats.size];omega
theorem zdI (w:List Data):∀(n:Nat) (t:Ty) (p:Pat),(zaJ w n t p).length<=p.size
 |0,t,p=>by simp[zaJ]
 |n+1,t,p=>by
  have h1:=zix (zdI w n) (zcB w t p) p.kids;have h2:(zaS t p).length<=1:=by unfold zaS;split<;>simp
  rw[xa4];simp only[zaJ,xaa];omega
theorem zhA {f:Ty->Pat->List Vt}:∀ {a:List Ty}{b:List Pat}{i:Nat},i<a.length->i<b.length->za7 f (a.take (i+1)) (b.take (i+1))=za7 f (a.take i) (b.take i)++f (nth a i) (nth b i)
 |x::r,y::s,0,_,_=>by simp[za7,nth]
 |x::r,y::s,i+1,h1,h2=>by
  have:=zhA (f:=f) (a:=r) (b:=s) (i:=i) (by simpa using h1) (by simpa using h2);simp only[List.take_succ_cons,za7];rw[this,xar];rfl
theorem zkv {f:Ty->Pat->List Vt}:∀ {a:List Ty}{b:List Pat}{i:Nat},za7 f (a.take i) (b.take i)=za7 f (a.take i) b
 | [],b,i=>by simp[za7]
 |x::r,[],i=>by simp[za7]
 |x::r,y::s,0=>by simp[za7]
 |x::r,y::s,i+1=>by simp only[List.take_succ_cons,za7];rw[zkv]
theorem zm1 {f:Ty->Pat->List Vt} (hf:∀t p,(f t p).length<=p.size){a:List Ty}{b:List Pat}{i:Nat} (h:i<b.length):(za7 f (a.take i) (b.take i)).length+(nth b i).size<=Pats.size b:=by
 have h1:=zix hf (a.take i) (b.take i);have h2:=xbc (pre:=b.take i) (y:=nth b i) (rest:=b.drop (i+1)) (l:=b) (by rw[<-zbm h,List.take_append_drop]);omega
def zda (w:List Data) (t:Ty) (p:Pat):Nat:=(zcB w t p).length
theorem ziy (w:List Data) (t:Ty) (p:Pat):zda w t p=if p.op=5 then 1 else (zaf w t p).length:=by
 unfold zda zcB;by_cases h5:p.op=5
 ·rw[if_pos h5,if_pos h5];have:zaf w t p=[t,t]:=by unfold zaf;rw[if_neg oe,if_pos h5]
  rw[this];rfl
 ·rw[if_neg h5,if_neg h5]
theorem zlB {w:List Data}{f:Ty->Pat->List Vt}{t:Ty}{p:Pat} (hl:p.kids.length=(zaf w t p).length){i:Nat} (h:i=zda w t p):za7 f ((zaf w t p).take i) (p.kids.take i)=za7 f (zcB w t p) p.kids:=by
 subst h;rw[zkv];congr 1
 rw[ziy];unfold zcB;by_cases h5:p.op=5
 ·rw[if_pos h5,if_pos h5]
 ·rw[if_neg h5,if_neg h5,List.take_length]
theorem zbC {w:List Data}{n:Nat}{t:Ty}{p:Pat} (h:zav w (n+1) t p=true){i:Nat} (hi:i<p.kids.length):zav w n (nth (zaf w t p) i) (nth p.kids i)=true:=by
 have hl:=(zcc h).2;cases hs:zav w n (nth (zaf w t p) i) (nth p.kids i) with
 |true=>rfl
 |false=>
  have:=zc1 (f:=zav w n) (a:=zaf w t p) (b:=p.kids) (i:=i) oe hl.symm hs;simp only[zav,this,Bool.and_false] at h;cases h
theorem zeZ {w:List Data} (hw:WT w):∀(n:Nat){a k:Int}{p:Pat}{xs:List Vt},zav w n ⟨a,k⟩ p=true->n<=1000->TyIn w.length ⟨a,k⟩->p.ok->xs.length+p.size<=2000000000000->
  FnD Tryz.prog 69 [.gl 5 (xs.map Vt.c),.d (zam w),.agg [.d (.i a),.d (.i k)],.agg [.d (.i p.op),.d (.i p.ctor),.d (.i p.n),.d (.i p.m),.d (.i p.var),.d (zaC p.kids)]] [(5,some (.tok (xs.map Vt.c).length 3))]
   (.gl 5 ((xs++zaJ w n ⟨a,k⟩ p).map Vt.c)) [(5,some (.tok ((xs++zaJ w n ⟨a,k⟩ p).map Vt.c).length 3))]
 |0,a,k,p,xs,hs,_,_,_,_=>by simp[zav] at hs
 |n+1,a,k,p,xs,hs,hn,ht,hok,hb=>by
  rw[xa1] at hok;rw[xa4] at hb;obtain⟨ho,hl⟩:=zcc hs;have hin:=zdf hw ht ho;have hlen:=zfJ hw ht (zcz ho);have hvc5:p.op=5->zda w ⟨a,k⟩ p=1:=fun h=>by rw[ziy,if_pos h]
  have hvc:¬p.op=5->zda w ⟨a,k⟩ p=(zaf w ⟨a,k⟩ p).length:=fun h=>by rw[ziy,if_neg h]
  have hv2:zda w ⟨a,k⟩ p<=p.kids.length:=by
   unfold zda zcB;split
   ·rw[List.length_take];omega
   ·omega
  have e5:p.op=5->(zaf w ⟨a,k⟩ p).length=2:=fun h5=>by unfold zaf;rw[if_neg oe,if_pos h5];rfl
  have hnm:(zaS ⟨a,k⟩ p).length<=1:=by unfold zaS;split<;>simp
  refine bd Tryz.f69 58 [] [1,5,6] fun _ _ _ _ hk=>?_;refine bx 3006 ?_;refine bx 3007 ?_;refine ev (xaG (xbt 8 [(18,.d (.bool (decide (p.op=2\/p.op=6))))] [11,12,13,14,15,16,17] ?_ ?_));refine ev ?_;apply sq<;>intro h1 h1p h1s;exact jnb I;exact jnb I;refine xbs ?_;apply tv;apply sq<;>intro h2 h2p h2s<;>(try simp only[Q,xaY] at h2p);refine bu [0,1] [_,_] zof ?_;refine si [0] [_] zcZ zl3 ?_;refine ap zcZ zl5 I I I oh ot ?_;refine ev (wc zhU (zcO hw ht (zcz ho)) I I ?_);refine ev (CWp.loopT 5 6 (ι:=Nat) hk (fun i=>[(0,.gl 5 ((xs++zaS ⟨a,k⟩ p++za7 (zaJ w n) ((zaf w ⟨a,k⟩ p).take i) (p.kids.take i)).map Vt.c)),(10,.d (.i (i:Int)))]) [30,31,32,33,34,35,36,37,38,39,40,41,42,43,44,45,46,47,48,49,50,51,52,53,54,55,56] (fun i=>[(5,some (.tok ((xs++zaS ⟨a,k⟩ p++za7 (zaJ w n) ((zaf w ⟨a,k⟩ p).take i) (p.kids.take i)).map Vt.c).length 3))]) (fun i=>i<=zda w ⟨a,k⟩ p) (fun i=>zda w ⟨a,k⟩ p-i) 0 oe ⟨⟨_,I,LeA.glg ?_⟩,⟨⟨_,I,xaT ?_⟩,O⟩⟩ ⟨zar ?_,O⟩ (fun x=>rfl) (fun i hg1=>?_));iterate 3 focus ((simp[za7,zaS, *];done))
  refine evc [] [1,5,6] (xaG (xbt 13 [(42,.d (.bool (decide (i<zda w ⟨a,k⟩ p))))] [30,31,32,33,34,35,36,37,38,39,40,41] ?_ ?_));refine ev ?_;apply sq<;>intro h3 h3p h3s;apply sq<;>intro h4 h4p h4s;exact jnb I;exact jnb I;exact jnb I;refine xbs ?_;apply tv;apply sq<;>intro h5 h5p h5s<;>(try simp only[Q,xaY] at h5p);refine ixq sl78 I I I (zau oe) I ?_;refine evd [] [] (ixq sl45 I I I (zbQ oe) I ?_);refine evd [] [] (xbB 6 ziz (zeZ hw n (a:=(nth (zaf w ⟨a,k⟩ p) i).data) (k:=(nth (zaf w ⟨a,k⟩ p) i).index) (p:=nth p.kids i) (xs:=xs++zaS ⟨a,k⟩ p++za7 (zaJ w n) ((zaf w ⟨a,k⟩ p).take i) (p.kids.take i)) (zbC hs oe) oe (hin _ (zaq oe)) (xa9 hok.2 _ (zaq oe)) (by have:=zm1 (zdI w n) (a:=zaf w ⟨a,k⟩ p) (b:=p.kids) (i:=i) oe;simp only[xaa];omega)) I .none I I (.cons (.refl _) (.cons (.refl _) (.cons (.refl _) (.cons (.refl _) .nil)))) I (by rfl) ?_);refine evd [] [] (dr (CWp.retok 0 6 5 I I I I I (evc [] [] (ar (xaj (i+1) ⟨oe,oe,sx ⟨⟨_,I,LeA.glg ?_⟩,⟨⟨_,I,xaT ?_⟩,O⟩⟩ ⟨zar ?_,O⟩⟩)))));iterate 3 focus (first|rfl|(rw[zhA oe oe];simp[xar];done))
  refine rn [(5,some (.tok ((xs++zaJ w (n+1) ⟨a,k⟩ p).map Vt.c).length 3))] (r1 I) (.glg ?_) ⟨I,I⟩ (SubO.get ⟨.inr ?_,⟨.inl I,O⟩⟩) (zao I);rotate_left 2;refine wc zhU (zcO hw ht (zcz ho)) I I ?_;refine ev (CWp.loopT 5 6 (ι:=Nat) hk (fun i=>[(0,.gl 5 ((xs++zaS ⟨a,k⟩ p++za7 (zaJ w n) ((zaf w ⟨a,k⟩ p).take i) (p.kids.take i)).map Vt.c)),(10,.d (.i (i:Int)))]) [30,31,32,33,34,35,36,37,38,39,40,41,42,43,44,45,46,47,48,49,50,51,52,53,54,55,56] (fun i=>[(5,some (.tok ((xs++zaS ⟨a,k⟩ p++za7 (zaJ w n) ((zaf w ⟨a,k⟩ p).take i) (p.kids.take i)).map Vt.c).length 3))]) (fun i=>i<=zda w ⟨a,k⟩ p) (fun i=>zda w ⟨a,k⟩ p-i) 0 oe ⟨⟨_,I,LeA.glg ?_⟩,⟨⟨_,I,xaT ?_⟩,O⟩⟩ ⟨zar ?_,O⟩ (fun x=>rfl) (fun i hg1=>?_));iterate 3 focus ((simp[za7,zaS, *];done))
  refine evc [] [1,5,6] (xaG (xbt 13 [(42,.d (.bool (decide (i<zda w ⟨a,k⟩ p))))] [30,31,32,33,34,35,36,37,38,39,40,41] ?_ ?_));refine ev ?_;apply sq<;>intro h6 h6p h6s<;>(try simp only[Q,xaY] at h6p);apply sq<;>intro h7 h7p h7s<;>(try simp only[Q,xaY] at h7p);exact jnb I;exact jnb I;exact jnb I;refine xbs ?_;apply tv;apply sq<;>intro h8 h8p h8s<;>(try simp only[Q,xaY] at h8p);refine ixq sl78 I I I (zau oe) I ?_;refine evd [] [] (ixq sl45 I I I (zbQ oe) I ?_);refine evd [] [] (xbB 6 ziz (zeZ hw n (a:=(nth (zaf w ⟨a,k⟩ p) i).data) (k:=(nth (zaf w ⟨a,k⟩ p) i).index) (p:=nth p.kids i) (xs:=xs++zaS ⟨a,k⟩ p++za7 (zaJ w n) ((zaf w ⟨a,k⟩ p).take i) (p.kids.take i)) (zbC hs oe) oe (hin _ (zaq oe)) (xa9 hok.2 _ (zaq oe)) (by have:=zm1 (zdI w n) (a:=zaf w ⟨a,k⟩ p) (b:=p.kids) (i:=i) oe;simp only[xaa];omega)) I .none I I (.cons (.refl _) (.cons (.refl _) (.cons (.refl _) (.cons (.refl _) .nil)))) I (by rfl) ?_);refine evd [] [] (dr (CWp.retok 0 6 5 I I I I I (evc [] [] (ar (xaj (i+1) ⟨oe,oe,sx ⟨⟨_,I,LeA.glg ?_⟩,⟨⟨_,I,xaT ?_⟩,O⟩⟩ ⟨zar ?_,O⟩⟩)))));iterate 3 focus (first|rfl|(rw[zhA oe oe];simp[xar];done))
  refine rn [(5,some (.tok ((xs++zaJ w (n+1) ⟨a,k⟩ p).map Vt.c).length 3))] (r1 I) (.glg ?_) ⟨I,I⟩ (SubO.get ⟨.inr ?_,⟨.inl I,O⟩⟩) (zao I);rotate_left 2;all_goals (first|((rw[zaJ,<-zlB (f:=zaJ w n) hl (i:=i) oe];simp);done)|((show some (Res.tok _ _)=some (Res.tok _ _);congr 2;rw[zaJ,<-zlB (f:=zaJ w n) hl (i:=i) oe];simp)))
theorem zdz {w:List Data} (hw:WT w){n:Nat}{a k:Int}{p:Pat} (hs:zav w n ⟨a,k⟩ p=true) (hn:n<=1000) (ht:TyIn w.length ⟨a,k⟩) (hok:p.ok) (hb:p.size<=1000000000000):
  FnD Tryz.prog 69 [.nils,.d (zam w),.agg [.d (.i a),.d (.i k)],.agg [.d (.i p.op),.d (.i p.ctor),.d (.i p.n),.d (.i p.m),.d (.i p.var),.d (zaC p.kids)]] [] (.d (zcy (zaJ w n ⟨a,k⟩ p))) []:=by
 have h:=zeZ hw n (xs:=[]) hs hn ht hok (by simp only[xak];omega);exact FnD.nilTok (by simp[AV.idsL,AV.ids]) h
theorem zm6 {l:List Vt}{i:Nat} (h:i<l.length) (h2:¬zbA l (nth l i).var=i):zlU l=false:=zdu h (by simpa using h2)
theorem zd7 {w:List Data} (hw:WT w):∀(n:Nat){a k:Int}{p:Pat},zav w n ⟨a,k⟩ p=true->n<=1000->TyIn w.length ⟨a,k⟩->p.ok->p.size<=1000000000000->
  FnD Tryz.prog 99 [.d (zam w),.agg [.d (.i a),.d (.i k)],.agg [.d (.i p.op),.d (.i p.ctor),.d (.i p.n),.d (.i p.m),.d (.i p.var),.d (zaC p.kids)]] [] (.d (.bool (linP w n ⟨a,k⟩ p))) []
 |0,a,k,p,hs,_,_,_,_=>by simp[zav] at hs
 |n+1,a,k,p,hs,hn,ht,hok,hb=>by
  have hok':=hok;rw[xa1] at hok;have hb':=hb;rw[xa4] at hb';obtain⟨ho,hl⟩:=zcc hs;have hin:=zdf hw ht ho;have hlen:=zfJ hw ht (zcz ho);have hvl:=zdI w (n+1) ⟨a,k⟩ p;have hsz:∀i,i<p.kids.length->(nth p.kids i).size<=1000000000000:=fun i hi=>by have:=zee hi;omega
  by_cases hop5:p.op=5
  ·have e1:zaf w ⟨a,k⟩ p=[⟨a,k⟩,⟨a,k⟩]:=by unfold zaf;rw[if_neg oe,if_pos hop5]
   have hl2:p.kids.length=2:=by rw[hl,e1];rfl
   have s0:zav w n ⟨a,k⟩ (nth p.kids 0)=true:=by have:=zbC hs (i:=0) oe;rw[e1] at this;exact this
   have s1:zav w n ⟨a,k⟩ (nth p.kids 1)=true:=by have:=zbC hs (i:=1) oe;rw[e1] at this;exact this
   have v0:=zdI w n ⟨a,k⟩ (nth p.kids 0);have v1:=zdI w n ⟨a,k⟩ (nth p.kids 1);have z0:=hsz 0 oe;have z1:=hsz 1 oe;refine bd Tryz.f99 70 [] [] fun _ _ _ _ hk=>?_;refine bx 3004 ?_;refine bx 3005 ?_;refine ev (wc zhU (zcO hw ht (zcz ho)) I I ?_);refine ev (xaD (ι:=Nat) hk (fun i=>[(8,.d (.i (i:Int)))]) [6,15,16,17,18,19,20,21,22,23,24,25,26,27,28,29,30,31,32] (fun i=>[]) (fun i=>i<=(zaf w ⟨a,k⟩ p).length/\∀i',i'<i->linP w n (nth (zaf w ⟨a,k⟩ p) i') (nth p.kids i')=true) (fun i=>(zaf w ⟨a,k⟩ p).length-i) 0 ⟨by omega,fun _ h=>absurd h oe⟩ ⟨⟨_,I,xaT ?_⟩,O⟩ O (fun x=>rfl) (fun i hg1=>?_));focus (first|rfl|(simp;done))
   refine evc [] [] ?_;apply sq<;>intro h1 h1p h1s<;>(try simp only[Q,xaY] at h1p);refine ixq sl78 I I I (zau oe) I ?_;refine evd [] [] (ixq sl45 I I I (zbQ oe) I ?_);refine evd [] [] (wc zlT (zd7 hw n (zbC hs oe) oe (hin _ (zaq oe)) (xa9 hok.2 _ (zaq oe)) (hsz _ oe)) I I ?_);refine evd [] [] (dr ?_);apply sq<;>intro h2 h2p h2s<;>(try simp only[Q,xaY] at h2p);refine rq ?_;rotate_left;refine ar (xaj (i+1) ⟨⟨by omega,za0 hg1.2 ol⟩,oe,sx ⟨⟨_,I,xaT ?_⟩,O⟩ O⟩);focus (first|rfl|(simp;done))
   apply sq<;>intro h3 h3p h3s<;>(try simp only[Q,xaY] at h3p);refine ixq (i:=0) sl45 I I I (zbQ oe) I ?_;refine evd [] [] (wc ziz (zdz hw s0 oe ht (xa9 hok.2 _ (zaq oe)) z0) I I ?_);refine evd [] [] (ixq (i:=1) sl45 I I I (zbQ oe) I ?_);refine evd [] [] (wc ziz (zdz hw s1 oe ht (xa9 hok.2 _ (zaq oe)) z1) I I ?_);refine wc zq6 (zkm oe oe) I I ?_;refine evd [] [] (dr (rq ?_));rotate_left;exfalso;simp_all;all_goals (refine xam D.bool ?_;unfold linP;rw[if_pos hop5];first|(rw[zdW oe (fun x hx=>hg1.2 x oe),Bool.true_and])|(rw[zc1 (i:=i) oe oe ol,Bool.false_and]))
  ·skip
   refine bd Tryz.f99 70 [] [] fun _ _ _ _ hk=>?_;refine bx 3004 ?_;refine bx 3005 ?_;refine ev (wc zhU (zcO hw ht (zcz ho)) I I ?_);refine ev (xaD (ι:=Nat) hk (fun i=>[(8,.d (.i (i:Int)))]) [6,15,16,17,18,19,20,21,22,23,24,25,26,27,28,29,30,31,32] (fun i=>[]) (fun i=>i<=(zaf w ⟨a,k⟩ p).length/\∀i',i'<i->linP w n (nth (zaf w ⟨a,k⟩ p) i') (nth p.kids i')=true) (fun i=>(zaf w ⟨a,k⟩ p).length-i) 0 ⟨by omega,fun _ h=>absurd h oe⟩ ⟨⟨_,I,xaT ?_⟩,O⟩ O (fun x=>rfl) (fun i hg1=>?_));focus (first|rfl|(simp;done))
   refine evc [] [] ?_;apply sq<;>intro h1 h1p h1s<;>(try simp only[Q,xaY] at h1p);refine ixq sl78 I I I (zau oe) I ?_;refine evd [] [] (ixq sl45 I I I (zbQ oe) I ?_);refine evd [] [] (wc zlT (zd7 hw n (zbC hs oe) oe (hin _ (zaq oe)) (xa9 hok.2 _ (zaq oe)) (hsz _ oe)) I I ?_);refine evd [] [] (dr ?_);apply sq<;>intro h2 h2p h2s<;>(try simp only[Q,xaY] at h2p);refine rq ?_;rotate_left;refine ar (xaj (i+1) ⟨⟨by omega,za0 hg1.2 ol⟩,oe,sx ⟨⟨_,I,xaT ?_⟩,O⟩ O⟩);focus (first|rfl|(simp;done))
   apply sq<;>intro h3 h3p h3s<;>(try simp only[Q,xaY] at h3p);exfalso;simp_all;refine wc ziz (zdz hw hs hn ht hok' hb) I I ?_;refine ev (xaD (ι:=Nat) hk (fun j=>[(10,.d (.i (j:Int)))]) [6,55,56,57,58,59,60,61,62,63,64,65,66,67,68,69] (fun j=>[]) (fun j=>j<=(zaJ w (n+1) ⟨a,k⟩ p).length/\∀j',j'<j->zbA (zaJ w (n+1) ⟨a,k⟩ p) (nth (zaJ w (n+1) ⟨a,k⟩ p) j').var=(j':Int)) (fun j=>(zaJ w (n+1) ⟨a,k⟩ p).length-j) 0 ⟨by omega,fun _ h=>absurd h oe⟩ ⟨⟨_,I,xaT ?_⟩,O⟩ O (fun x=>rfl) (fun j hg2=>?_));focus (first|rfl|(simp;done))
   refine evc [] [] ?_;apply sq<;>intro h4 h4p h4s<;>(try simp only[Q,xaY] at h4p);refine ixq zcZ I I I (zau oe) I ?_;refine ev (wc zmb (zeY oe) I I ?_);refine ev ?_;apply sq<;>intro h5 h5p h5s<;>(try simp only[Q,xaY] at h5p);refine rq ?_;rotate_left;refine ar (xaj (j+1) ⟨⟨by omega,za0 hg2.2 oe⟩,oe,sx ⟨⟨_,I,xaT ?_⟩,O⟩ O⟩);focus (first|rfl|(simp;done))
   refine rq ?_;rotate_left;all_goals (refine xam D.bool ?_;unfold linP;rw[if_neg hop5];first|(rw[zc1 (i:=i) oe oe ol,Bool.false_and];done)|(rw[zdW oe (fun x hx=>hg1.2 x oe),Bool.true_and];first|(rw[zm6 (i:=j) oe oe];done)|(symm;exact zdK (fun x hx=>xax (hg2.2 x oe)))))
def isP (w:List Data) (t:Ty) (p:Pat):Bool:=zav w 10 t p&&(decide ((p.size:Int)<=60)&&linP w 10 t p)
theorem zit {w:List Data} (hw:WT w){a k:Int}{p:Pat} (ht:TyIn w.length ⟨a,k⟩) (hok:p.ok) (hb:p.size<=1000000000000):
  FnD Tryz.prog 67 [.d (zam w),.agg [.d (.i a),.d (.i k)],.agg [.d (.i p.op),.d (.i p.ctor),.d (.i p.n),.d (.i p.m),.d (.i p.var),.d (zaC p.kids)]] [] (.d (.bool (isP w ⟨a,k⟩ p))) []:=by
 have hc:=zmj p 60;by_cases hs:zav w 10 ⟨a,k⟩ p=true
 ·skip
  refine bd Tryz.f67 22 [] [1] fun _ _ _ _ hk=>?_;refine bx 3004 ?_;refine bx 3005 ?_;refine ev (xaG (xbt 9 [(15,.d (.bool (decide ((p.size:Int)<=60))))] [7,8,9,10,11,12,13,14] ?_ ?_));refine ev (wc znU (zeG hw 10 oe oe ht hok) I I ?_);refine ev ?_;apply sq<;>intro h1 h1p h1s;refine Walk.call (cr:=[]) znV (zeF _ (Nat.le_refl _) hb hok oe oe) I (.some I I h1) I I (LeL.refl _) O I I I ?_;refine evs [] [(11,true)] ?_ ⟨⟨_,I,h1⟩,O⟩;exact jnb I;exact jnb I;refine xbs (ev ?_);apply sq<;>intro h2 h2p h2s;refine Walk.call (cr:=[]) zlT (zd7 hw 10 hs oe ht hok hb) I (.some I I h2) I I (LeL.refl _) O I I I ?_;refine evs [] [(16,true)] ?_ ⟨⟨_,I,h2⟩,O⟩;refine rq ?_;rotate_left;refine rq ?_;rotate_left;all_goals (refine xam D.bool ?_;unfold isP;simp only[hs,Bool.true_and];first|(simp_all;done)|(simp_all;intro;omega))
 ·have hs':zav w 10 ⟨a,k⟩ p=false:=by simpa using hs
  refine bd Tryz.f67 22 [] [1] fun _ _ _ _ hk=>?_;refine bx 3004 ?_;refine bx 3005 ?_;refine ev (xaG (xbt 9 [(15,.d (.bool false))] [7,8,9,10,11,12,13,14] ?_ ?_));refine ev (wc znU (zeG hw 10 oe oe ht hok) I I ?_);refine ev ?_;apply sq<;>intro h1 h1p h1s;refine Walk.call (cr:=[]) znV (zeF _ (Nat.le_refl _) hb hok oe oe) I (.some I I h1) I I (LeL.refl _) O I I I ?_;refine evs [] [(11,true)] ?_ ⟨⟨_,I,h1⟩,O⟩;exact jnb I;exact jnb I;refine xbs (ev ?_);apply sq<;>intro h2 h2p h2s;refine Walk.call (cr:=[]) zlT (show FnD Tryz.prog 99 [.d (zam w),.agg [.d (.i a),.d (.i k)],.agg [.d (.i p.op),.d (.i p.ctor),.d (.i p.n),.d (.i p.m),.d (.i p.var),.d (zaC p.kids)]] [] (.d (.bool true)) [] from absurd (by assumption:(false:Bool)=true) oh) I (.some I I h2) I I (LeL.refl _) O I I I ?_;refine evs [] [(16,true)] ?_ ⟨⟨_,I,h2⟩,O⟩;refine rq ?_;rotate_left;refine rq ?_;rotate_left;all_goals (refine xam D.bool ?_;unfold isP;simp_all)
set_option maxHeartbeats 2000000
inductive Ex where
 |mk (op n ctor:Int) (kids:List Ex)
 deriving Inhabited
mutual
def Ex.c:Ex->List D
 | .mk op n ctor kids=>[.i op,.i n,.i ctor,.sl (Ex.cs kids)]
def Ex.cs:List Ex->List (List D)
 | []=>[]
 |v::r=>v.c::Ex.cs r
end
abbrev zri (l:List Ex):D:= .sl (Ex.cs l)
theorem Ex.cs_eq:∀l:List Ex,Ex.cs l=l.map Ex.c
 | []=>rfl
 |v::r=>by simp[Ex.cs,Ex.cs_eq r]
theorem Ex.cs_len (l:List Ex):(Ex.cs l).length=l.length:=by simp[Ex.cs_eq]
def Ex.op:Ex->Int | .mk a0 _ _ _=>a0
def Ex.n:Ex->Int | .mk _ a1 _ _=>a1
def Ex.ctor:Ex->Int | .mk _ _ a2 _=>a2
def Ex.kids:Ex->List Ex | .mk _ _ _ k=>k
abbrev Ex.cc (v:Ex):List D:=[.i v.op,.i v.n,.i v.ctor,.sl (Ex.cs v.kids)]
theorem Ex.c_eq (v:Ex):v.c=v.cc:=by cases v;rfl
theorem Ex.eta (v:Ex):Ex.mk v.op v.n v.ctor v.kids=v:=by cases v;rfl
mutual
def exEq:Ex->Ex->Bool
 | .mk a0 a1 a2 ks,.mk b0 b1 b2 ls=>decide (a0=b0)&&(decide (a1=b1)&&(decide (a2=b2)&&zlV ks ls))
def zlV:List Ex->List Ex->Bool
 | [],[]=>true
 |x::r,y::s=>exEq x y&&zlV r s
 |_,_=>false
end
mutual
def Ex.ok:Ex->Prop
 | .mk _ _ _ ks=>ks.length<=1000000000000/\Exs.ok ks
def Exs.ok:List Ex->Prop
 | []=>True
 |v::r=>v.ok/\Exs.ok r
end
theorem Exs.ok_mem:∀ {l:List Ex},Exs.ok l->∀v,v∈l->v.ok
 |x::r,h,v,hv=>by
  simp only[Exs.ok] at h;rcases List.mem_cons.1 hv with rfl|hv
  ·exact h.1
  ·exact Exs.ok_mem h.2 v hv
mutual
def Ex.size:Ex->Nat
 | .mk _ _ _ ks=>1+Exs.size ks
def Exs.size:List Ex->Nat
 | []=>0
 |v::r=>v.size+Exs.size r
end
theorem Exs.size_mem:∀ {l:List Ex}{v:Ex},v∈l->v.size<=Exs.size l
 |x::r,v,hv=>by
  simp only[Exs.size];rcases List.mem_cons.1 hv with rfl|hv
  ·omega
  ·have:=Exs.size_mem hv;omega
theorem Ex.ok_iff (v:Ex):v.ok↔v.kids.length<=1000000000000/\Exs.ok v.kids:=by cases v;rfl
theorem Ex.size_eq (v:Ex):v.size=1+Exs.size v.kids:=by cases v;rfl
mutual
theorem zoA:∀v:Ex,exEq v v=true
 | .mk _ _ _ ks=>by simp[exEq,zjM ks]
theorem zjM:∀l:List Ex,zlV l l=true
 | []=>rfl
 |v::r=>by simp[zlV,zoA v,zjM r]
end
mutual
def mEx:Ex->Nat
 | .mk _ _ _ ks=>mExs ks
def mExs:List Ex->Nat
 | []=>0
 |v::r=>1+mEx v+mExs r
end
structure Gd where
 op:Int
 var:Int
 n:Int
 deriving Inhabited
structure Cl where
 pat:Pat
 g:Gd
 deriving Inhabited
structure Ft where
 arg:Ty
 res:Ty
 deriving Inhabited
structure Fu where
 ty:Ft
 cls:List Cl
 bodies:List Ex
 deriving Inhabited
abbrev Cl.c (x:Cl):List D:=[.i x.pat.op,.i x.pat.ctor,.i x.pat.n,.i x.pat.m,.i x.pat.var,.sl (Pat.cs x.pat.kids),.i x.g.op,.i x.g.var,.i x.g.n]
abbrev zcx (l:List Cl):D:= .sl (l.map Cl.c)
abbrev Ft.c (x:Ft):List D:=[.i x.arg.data,.i x.arg.index,.i x.res.data,.i x.res.index]
abbrev Fu.c (x:Fu):List D:=[.i x.ty.arg.data,.i x.ty.arg.index,.i x.ty.res.data,.i x.ty.res.index,zcx x.cls,zri x.bodies]
def ClsOk (l:List Cl):Prop:=l.length<=1000000000000/\∀c∈l,c.pat.ok
def mCl (c:Cl):Nat:=mPat c.pat
def mCls (l:List Cl):Nat:=l.length+(l.map mCl).sum
def gdEq (a b:Gd):Bool:=decide (a.op=b.op)&&(decide (a.var=b.var)&&decide (a.n=b.n))
def clEq (a b:Cl):Bool:=zfa a.pat b.pat&&gdEq a.g b.g
def zqg (a b:List Cl):Bool:=all2 clEq a b
theorem zk3 {α:Type}{f:α->α->Bool} (h:∀x,f x x=true):∀l:List α,all2 f l l=true
 | []=>rfl
 |x::r=>by simp[all2,h x,zk3 h r]
theorem zop (a:Cl):clEq a a=true:=by simp[clEq,gdEq,zkb]
theorem zfB (l:List Cl):zqg l l=true:=zk3 zop l
theorem zjV {a b:Gd}:FnD Tryz.prog 56 [.agg [.d (.i a.op),.d (.i a.var),.d (.i a.n)],.agg [.d (.i b.op),.d (.i b.var),.d (.i b.n)]] [] (.d (.bool (gdEq a b))) []:=by
 refine bd Tryz.f56 20 [] [] fun _ _ _ _ hk=>?_;refine bx 3002 ?_;refine bx 3003 ?_;refine ev ?_;apply sq<;>intro h1 h1p h1s<;>(try simp only[Q] at h1p);focus (refine rq ?_;all_goals (refine xam D.bool ?_;simp[gdEq,h1s,h1p]))
 apply sq<;>intro h2 h2p h2s<;>(try simp only[Q] at h2p);focus (refine rq ?_;all_goals (refine xam D.bool ?_;simp[gdEq,h1s,h1p,h2s,h2p]))
 apply sq<;>intro h3 h3p h3s<;>(try simp only[Q] at h3p);focus (refine rq ?_;all_goals (refine xam D.bool ?_;simp[gdEq,h1s,h1p,h2s,h2p,h3s,h3p]))
 focus (refine rq ?_;all_goals (refine xam D.bool ?_;simp[gdEq,h1s,h1p,h2s,h2p,h3s,h3p]))
theorem zjk {a b:Cl} (hok:a.pat.ok):
  FnD Tryz.prog 28 [.agg [.d (.i a.pat.op),.d (.i a.pat.ctor),.d (.i a.pat.n),.d (.i a.pat.m),.d (.i a.pat.var),.d (zaC a.pat.kids),.d (.i a.g.op),.d (.i a.g.var),.d (.i a.g.n)],.agg [.d (.i b.pat.op),.d (.i b.pat.ctor),.d (.i b.pat.n),.d (.i b.pat.m),.d (.i b.pat.var),.d (zaC b.pat.kids),.d (.i b.g.op),.d (.i b.g.var),.d (.i b.g.n)]] [] (.d (.bool (clEq a b))) []:=by
 refine bd Tryz.f28 17 [] [] fun _ _ _ _ hk=>?_;refine bx 3002 ?_;refine bx 3003 ?_;refine ev (wc zp9 (zfx (a:=a.pat) (b:=b.pat) _ (Nat.le_refl _) hok) I I ?_);refine ev ?_;apply sq<;>intro h1 h1p h1s<;>(try simp only[Q] at h1p);focus (refine rq ?_;all_goals (refine xam D.bool ?_;simp[clEq,h1s,h1p]))
 refine wc zrK (zjV (a:=a.g) (b:=b.g)) I I ?_;refine ev ?_;apply sq<;>intro h2 h2p h2s<;>(try simp only[Q] at h2p);focus (refine rq ?_;all_goals (refine xam D.bool ?_;simp[clEq,h1s,h1p,h2s,h2p]))
 focus (refine rq ?_;all_goals (refine xam D.bool ?_;simp[clEq,h1s,h1p,h2s,h2p]))
theorem zbZ {l m:List Cl} (hs:ClsOk l):FnD Tryz.prog 9 [.d (zcx l),.d (zcx m)] [] (.d (.bool (zqg l m))) []:=by
 have h:=hs.1;refine bd Tryz.f9 27 [] [] fun _ _ _ _ hk=>?_;apply sq<;>intro h1 h1p h1s<;>(try simp only[Q,xal] at h1p);refine rq ?_;rotate_left;refine xaD (ι:=Nat) hk (fun i=>[(5,.d (.i (i:Int)))]) [4,11,12,13,14,15,16,17,18,19,20,21,22,23,24,25,26] (fun i=>[]) (fun i=>i<=l.length/\∀i',i'<i->clEq (nth l i') (nth m i')=true) (fun i=>l.length-i) 0 ⟨by omega,fun _ h=>absurd h oe⟩ ⟨⟨_,I,xaT ?_⟩,O⟩ O (fun x=>rfl) (fun i hg1=>?_);focus (first|rfl|(simp;done)|(simp_all;done)|omega)
 refine evc [] [] ?_;apply sq<;>intro h2 h2p h2s<;>(try simp only[Q,xal] at h2p);refine ixq sl26 I I I (zau oe) I ?_;refine evd [] [] (ixq sl26 I I I (zau oe) I ?_);refine evd [] [] (wc zrw (zjk (a:=nth l i) (b:=nth m i) (hs.2 _ (zaq oe))) I I ?_);refine evd [] [] (dr ?_);apply sq<;>intro h3 h3p h3s<;>(try simp only[Q,xal] at h3p);refine rq ?_;rotate_left;refine ar (xaj (i+1) ⟨⟨by omega,za0 hg1.2 ol⟩,oe,sx ⟨⟨_,I,xaT ?_⟩,O⟩ O⟩);focus (first|rfl|(simp;done)|(simp_all;done)|omega)
 refine rq ?_;rotate_left;all_goals (refine xam D.bool ?_;first|(refine(zfV ?_).symm;omega)|(refine(zdW oe (fun x hx=>hg1.2 x oe)).symm)|(refine(zc1 (i:=i) oe oe ?_).symm;assumption))
theorem ziv:∀l:List Ctor,szL Ctor.sz l<=2*(zfj l:Int)
 | []=>by simp[szL,zfj]
 |x::r=>by
  have ih:=ziv r;simp only[szL,Ctor.sz,znI,zfj,zew,mTys,xab,xaf,List.sum_cons] at ih ⊢;omega
theorem zgb:∀l:List Data,szL Data.sz l<=2*(zfk l:Int)
 | []=>by simp[szL,zfk]
 |x::r=>by
  have ih:=zgb r;have h2:=ziv x.ctors;simp only[szL,Data.sz,zfk,zex,xab,xaf,List.sum_cons] at ih ⊢;omega
theorem zdH {w:List Data} (hs:WSmall w) (hv:zbu w=true):WT w:=WV.wt hs ((zdb w).1 hv)
set_option maxHeartbeats 4000000
theorem zer {p:Pat}{b1 b2 b3:Bool}{k:Int}:FnD Tryz.prog 131 [.agg [.d (.i p.op),.d (.i p.ctor),.d (.i p.n),.d (.i p.m),.d (.i p.var),.d (zaC p.kids)],.d (.bool b1),.d (.bool b2),.d (.bool b3),.d (.i k)] []
  (.d (.bool (decide ((b1=true\/p.ctor=0)/\(b2=true\/p.n=0/\p.m=0)/\(b3=true\/p.var=0)/\(p.kids.length:Int)=k)))) []:=by
 refine bd Tryz.f131 45 [] [1] fun _ _ _ _ hk=>?_;refine bx 3005 ?_;refine ev (xaG (xbt 6 [(16,.d (.bool (decide (b1=true\/p.ctor=0))))] [11,12,13,14,15] ?_ ?_));refine ev ?_;apply sq<;>intro h1 h1p h1s;focus (exact jn I (xaS (by(first|rfl|(rw[xat];simp_all[xaY];done)))))
 focus (exact jn I (xaS (by(first|rfl|(rw[xat];simp_all[xaY];done)))))
 refine xbt 13 [(29,.d (.bool (decide ((b1=true\/p.ctor=0)/\(b2=true\/p.n=0/\p.m=0)))))] [17,18,19,20,21,22,23,24,25,26,27,28] ?_ ?_;refine ev ?_;apply sq<;>intro h2 h2p h2s;apply sq<;>intro h3 h3p h3s;focus (exact jn I (xaS (by(first|rfl|(rw[xat];simp_all[xaY];done)))))
 apply sq<;>intro h4 h4p h4s;focus (exact jn I (xaS (by(first|rfl|(rw[xat];simp_all[xaY];done)))))
 focus (exact jn I (xaS (by(first|rfl|(rw[xat];simp_all[xaY];done)))))
 focus (exact jn I (xaS (by(first|rfl|(rw[xat];simp_all[xaY];done)))))
 refine xbt 8 [(37,.d (.bool (decide ((b1=true\/p.ctor=0)/\(b2=true\/p.n=0/\p.m=0)/\(b3=true\/p.var=0)))))] [30,31,32,33,34,35,36] ?_ ?_;refine ev ?_;apply sq<;>intro h5 h5p h5s;apply sq<;>intro h6 h6p h6s;focus (exact jn I (xaS (by(first|rfl|(rw[xat];simp_all[xaY];done)))))
 focus (exact jn I (xaS (by(first|rfl|(rw[xat];simp_all[xaY];done)))))
 focus (exact jn I (xaS (by(first|rfl|(rw[xat];simp_all[xaY];done)))))
 refine xbt 7 [(44,.d (.bool (decide ((b1=true\/p.ctor=0)/\(b2=true\/p.n=0/\p.m=0)/\(b3=true\/p.var=0)/\(p.kids.length:Int)=k))))] [38,39,40,41,42,43] ?_ ?_;refine ev ?_;apply sq<;>intro h7 h7p h7s;focus (exact jn I (xaS (by(first|rfl|(rw[xat];simp_all[xaY];done)))))
 focus (exact jn I (xaS (by(first|rfl|(rw[xat];simp_all[xaY];done)))))
 refine xbs (ev (rq ?_));rotate_left;all_goals (rfl)
theorem ze6 {p:Pat}{k:Int}:FnD Tryz.prog 131 [.agg [.d (.i p.op),.d (.i p.ctor),.d (.i p.n),.d (.i p.m),.d (.i p.var),.d (zaC p.kids)],.d (.bool false),.d (.bool false),.d (.bool false),.d (.i k)] []
  (.d (.bool (decide (p.ctor=0/\(p.n=0/\p.m=0)/\p.var=0/\(p.kids.length:Int)=k)))) []:=by
 have:=zer (p:=p) (b1:=false) (b2:=false) (b3:=false) (k:=k);simpa only[Bool.false_eq_true,false_or] using this
theorem ze7 {p:Pat}{k:Int}:FnD Tryz.prog 131 [.agg [.d (.i p.op),.d (.i p.ctor),.d (.i p.n),.d (.i p.m),.d (.i p.var),.d (zaC p.kids)],.d (.bool false),.d (.bool false),.d (.bool true),.d (.i k)] []
  (.d (.bool (decide (p.ctor=0/\(p.n=0/\p.m=0)/\(p.kids.length:Int)=k)))) []:=by
 have:=zer (p:=p) (b1:=false) (b2:=false) (b3:=true) (k:=k);simpa only[Bool.false_eq_true,false_or,true_or,true_and] using this
theorem zi4 {p:Pat}{k:Int}:FnD Tryz.prog 131 [.agg [.d (.i p.op),.d (.i p.ctor),.d (.i p.n),.d (.i p.m),.d (.i p.var),.d (zaC p.kids)],.d (.bool false),.d (.bool true),.d (.bool false),.d (.i k)] []
  (.d (.bool (decide (p.ctor=0/\p.var=0/\(p.kids.length:Int)=k)))) []:=by
 have:=zer (p:=p) (b1:=false) (b2:=true) (b3:=false) (k:=k);simpa only[Bool.false_eq_true,false_or,true_or,true_and] using this
theorem zm8 {p:Pat}{k:Int}:FnD Tryz.prog 131 [.agg [.d (.i p.op),.d (.i p.ctor),.d (.i p.n),.d (.i p.m),.d (.i p.var),.d (zaC p.kids)],.d (.bool true),.d (.bool false),.d (.bool false),.d (.i k)] []
  (.d (.bool (decide ((p.n=0/\p.m=0)/\p.var=0/\(p.kids.length:Int)=k)))) []:=by
 have:=zer (p:=p) (b1:=true) (b2:=false) (b3:=false) (k:=k);simpa only[Bool.false_eq_true,false_or,true_or,true_and] using this
theorem zdZ {v:Int}:FnD Tryz.prog 132 [.d (.i v)] [] (.d (.bool (zaF v 0 5))) []:=by
 refine bd Tryz.f132 5 [] [] fun _ _ _ _ hk=>?_;refine wc ze1 zby I I ?_;refine ev (rq ?_);rotate_left;all_goals (rfl)
theorem zeS {w:List Data} (hw:WT w){a k:Int} (ht:TyIn w.length ⟨a,k⟩):FnD Tryz.prog 115 [.d (zam w),.agg [.d (.i a),.d (.i k)]] [] (.d (zc2 (zaW w ⟨a,k⟩))) []:=by
 rcases ht with ha|⟨d,hd,hlt⟩
 ·simp only at ha;subst ha;rw[zfK];exact zhJ
 ·simp only at hd;subst hd;rw[zgB];exact zjS hw hlt
theorem zeq {w:List Data} (hw:WT w){a k c:Int} (ht:TyIn w.length ⟨a,k⟩) (hc:c∈zaW w ⟨a,k⟩):FnD Tryz.prog 87 [.d (zam w),.agg [.d (.i a),.d (.i k)],.d (.i c)] [] (.d (za9 (zan w ⟨a,k⟩ c))) []:=by
 obtain⟨d,rfl,h1,h2⟩:=zbw ht hc;exact zjh hw h1 h2
theorem zlI {w:List Data} (hw:WT w){a k:Int}{p:Pat} (ht:TyIn w.length ⟨a,k⟩):
  FnD Tryz.prog 126 [.d (zam w),.agg [.d (.i a),.d (.i k)],.agg [.d (.i p.op),.d (.i p.ctor),.d (.i p.n),.d (.i p.m),.d (.i p.var),.d (zaC p.kids)]] [] (.tup [.d (za9 (zc5 w ⟨a,k⟩ p)),.d (.bool (okP w ⟨a,k⟩ p))]) []:=by
 have hcl:=zfL hw ht;have ty4:p.op=4->p.ctor∉zaW w ⟨a,k⟩->zc5 w ⟨a,k⟩ p=[]:=fun h4 hm=>by unfold zc5;rw[if_pos ⟨h4,hm⟩]
 have ty4':p.op=4->p.ctor∈zaW w ⟨a,k⟩->zc5 w ⟨a,k⟩ p=zan w ⟨a,k⟩ p.ctor:=fun h4 hm=>by unfold zc5 zaf;rw[if_neg (fun h=>h.2 hm),if_pos h4]
 have ty5:p.op=5->zc5 w ⟨a,k⟩ p=[⟨a,k⟩,⟨a,k⟩]:=fun h5=>by unfold zc5 zaf;rw[if_neg oe,if_neg oe,if_pos h5]
 have ty6:p.op=6->zc5 w ⟨a,k⟩ p=[⟨a,k⟩]:=fun h6=>by unfold zc5 zaf;rw[if_neg oe,if_neg oe,if_neg oe,if_pos h6]
 have ty0:¬p.op=4->¬p.op=5->¬p.op=6->zc5 w ⟨a,k⟩ p=[]:=fun h4 h5 h6=>by unfold zc5 zaf;rw[if_neg (fun h=>h4 h.1),if_neg h4,if_neg h5,if_neg h6]
 have ln4:p.op=4->(zaf w ⟨a,k⟩ p).length=(zan w ⟨a,k⟩ p.ctor).length:=fun h4=>by unfold zaf;rw[if_pos h4]
 have ln5:p.op=5->(zaf w ⟨a,k⟩ p).length=2:=fun h5=>by unfold zaf;rw[if_neg oe,if_pos h5];rfl
 have ln6:p.op=6->(zaf w ⟨a,k⟩ p).length=1:=fun h6=>by unfold zaf;rw[if_neg oe,if_neg oe,if_pos h6];rfl
 have ln0:¬p.op=4->¬p.op=5->¬p.op=6->(zaf w ⟨a,k⟩ p).length=0:=fun h4 h5 h6=>by unfold zaf;rw[if_neg h4,if_neg h5,if_neg h6];rfl
 have okI:∀b:Bool,(b=true↔((((p.op=2\/p.op=6)->0<=p.var/\p.var<=5)/\(¬(p.op=2\/p.op=6)->p.var=0)/\(p.op≠3->p.n=0/\p.m=0)/\(p.op≠4->p.ctor=0)/\
   (p.op=1\/p.op=2\/p.op=5\/p.op=6\/(p.op=3/\a = -1/\0<=p.n/\p.n<=p.m/\p.m<=9)\/(p.op=4/\p.ctor∈zaW w ⟨a,k⟩)))/\p.kids.length=(zaf w ⟨a,k⟩ p).length))->b=okP w ⟨a,k⟩ p:=fun b h=>by
  rw[xat,h];unfold okP ownP;simp only[xad,xah]
 by_cases hmem:p.ctor∈zaW w ⟨a,k⟩
 ·have hargs:=zeq hw ht hmem;have hal:(zan w ⟨a,k⟩ p.ctor).length<=1000000000000:=by
   obtain⟨d,rfl,h1,h2⟩:=zbw ht hmem;exact zjy hw h1 h2
  simp only[hmem,and_true] at okI;refine bd Tryz.f126 87 [] [5] fun _ _ _ _ hk=>?_;refine bx 3004 ?_;refine bx 3005 ?_;refine ev ?_;apply sq<;>intro h1 h1p h1s<;>(try simp only[Q] at h1p);refine wc zdA ze6 I I ?_;refine ev (rn0 (r2 I I) (.tup (qne ?_ ?_)));rotate_left 2;apply sq<;>intro h2 h2p h2s<;>(try simp only[Q] at h2p);refine xaG (xbt 7 [(23,.d (.bool (decide ((p.ctor=0/\(p.n=0/\p.m=0)/\(p.kids.length:Int)=0)/\0<=p.var/\p.var<=5))))] [17,18,19,20,21,22] ?_ ?_);refine ev (wc zdA ze7 I I ?_);refine ev ?_;apply sq<;>intro h3 h3p h3s<;>(try simp only[Q] at h3p);refine Walk.call (cr:=[]) zjB zdZ I (.some I I h3) I I (LeL.refl _) O I I I (evs [] [(19,true)] ?_ ⟨⟨_,I,h3⟩,O⟩);exact jn I (xaS (by(rw[xat];simp only[xah,zaF,xad,Bool.false_eq_true,false_iff,true_iff];omega)));exact jn I (xaS (by(rw[xat];simp only[xah,zaF,xad,Bool.false_eq_true,false_iff,true_iff];omega)));refine xbs (ev (rn0 (r2 I I) (.tup (qne ?_ ?_))));rotate_left 2;apply sq<;>intro h4 h4p h4s<;>(try simp only[Q] at h4p);apply sq<;>intro h5 h5p h5s<;>(try simp only[Q] at h5p);refine Walk.call (cr:=[]) zdA zi4 I (.some I I h5) I I (LeL.refl _) O I I I (evd [] [(29,true)] ?_ ⟨⟨_,I,h5⟩,O⟩);apply sq<;>intro h6 h6p h6s<;>(try simp only[Q] at h6p);apply sq<;>intro h7 h7p h7s<;>(try simp only[Q] at h7p);apply sq<;>intro h8 h8p h8s<;>(try simp only[Q] at h8p);refine dr (rn0 (r2 I I) (.tup (qne ?_ ?_)));rotate_left 2;refine dr (rn0 (r2 I I) (.tup (qne ?_ ?_)));rotate_left 2;refine sqF ?_;refine dr (rn0 (r2 I I) (.tup (qne ?_ ?_)));rotate_left 2;refine sqF ?_;refine sqF ?_;refine dr (rn0 (r2 I I) (.tup (qne ?_ ?_)));rotate_left 2;refine sqF ?_;refine sqF ?_;refine sqF ?_;refine dr (rn0 (r2 I I) (.tup (qne ?_ ?_)));rotate_left 2;apply sq<;>intro h9 h9p h9s<;>(try simp only[Q] at h9p);refine wc zmc (zeS hw ht) I I ?_;refine evd [] [] (wc zon (zdV hcl) I I ?_);refine evd [] [] (dr ?_);apply sq<;>intro h10 h10p h10s<;>(try simp only[Q] at h10p);exfalso;simp_all;refine wc zfA hargs I I ?_;refine ev (wc zdA zm8 I I ?_);refine ev (rn0 (r2 I I) (.tup (qee ?_ ?_)));rotate_left 2;apply sq<;>intro h11 h11p h11s<;>(try simp only[Q] at h11p);refine si [0,1] [_,_] sl78 tz31 ?_;refine evd [] [] (wc zdA ze6 I I ?_);refine evd [] [] (dr (rn0 (r2 I I) (.tup (qee ?_ ?_))));rotate_left 2;apply sq<;>intro h12 h12p h12s<;>(try simp only[Q] at h12p);refine si [0] [_] sl78 tz31 ?_;refine evd [] [] (wc zdA ze7 I I ?_);refine evd [] [] ?_;apply sq<;>intro h13 h13p h13s<;>(try simp only[Q] at h13p);refine Walk.call (cr:=[]) zjB zdZ I (.some I I h13) I I (LeL.refl _) O I I I (evd [] [(82,true)] ?_ ⟨⟨_,I,h13⟩,O⟩);refine dr (rn0 (r2 I I) (.tup (qee ?_ ?_)));rotate_left 2;refine dr (rn0 (r2 I I) (.tup (qee ?_ ?_)));rotate_left 2;refine rn0 (r2 I I) (.tup (qne ?_ ?_));rotate_left 2;all_goals (first|(refine xam D.bool (okI _ ?_);(try simp only[xah,Bool.false_eq_true,zaF,xad,xac,true_iff,false_iff]);omega)|(rw[ty0 oe oe oe];first|done|rfl)|(rw[ty5 oe];first|done|rfl)|(rw[ty6 oe];first|done|rfl)|(rw[ty4' oe hmem];first|done|rfl))
 ·simp only[hmem,and_false,or_false] at okI;refine bd Tryz.f126 87 [] [5] fun _ _ _ _ hk=>?_;refine bx 3004 ?_;refine bx 3005 ?_;refine ev ?_;apply sq<;>intro h1 h1p h1s<;>(try simp only[Q] at h1p);refine wc zdA ze6 I I ?_;refine ev (rn0 (r2 I I) (.tup (qne ?_ ?_)));rotate_left 2;apply sq<;>intro h2 h2p h2s<;>(try simp only[Q] at h2p);refine xaG (xbt 7 [(23,.d (.bool (decide ((p.ctor=0/\(p.n=0/\p.m=0)/\(p.kids.length:Int)=0)/\0<=p.var/\p.var<=5))))] [17,18,19,20,21,22] ?_ ?_);refine ev (wc zdA ze7 I I ?_);refine ev ?_;apply sq<;>intro h3 h3p h3s<;>(try simp only[Q] at h3p);refine Walk.call (cr:=[]) zjB zdZ I (.some I I h3) I I (LeL.refl _) O I I I (evs [] [(19,true)] ?_ ⟨⟨_,I,h3⟩,O⟩);exact jn I (xaS (by(rw[xat];simp only[xah,zaF,xad,Bool.false_eq_true,false_iff,true_iff];omega)));exact jn I (xaS (by(rw[xat];simp only[xah,zaF,xad,Bool.false_eq_true,false_iff,true_iff];omega)));refine xbs (ev (rn0 (r2 I I) (.tup (qne ?_ ?_))));rotate_left 2;apply sq<;>intro h4 h4p h4s<;>(try simp only[Q] at h4p);apply sq<;>intro h5 h5p h5s<;>(try simp only[Q] at h5p);refine Walk.call (cr:=[]) zdA zi4 I (.some I I h5) I I (LeL.refl _) O I I I (evd [] [(29,true)] ?_ ⟨⟨_,I,h5⟩,O⟩);apply sq<;>intro h6 h6p h6s<;>(try simp only[Q] at h6p);apply sq<;>intro h7 h7p h7s<;>(try simp only[Q] at h7p);apply sq<;>intro h8 h8p h8s<;>(try simp only[Q] at h8p);refine dr (rn0 (r2 I I) (.tup (qne ?_ ?_)));rotate_left 2;refine dr (rn0 (r2 I I) (.tup (qne ?_ ?_)));rotate_left 2;refine sqF ?_;refine dr (rn0 (r2 I I) (.tup (qne ?_ ?_)));rotate_left 2;refine sqF ?_;refine sqF ?_;refine dr (rn0 (r2 I I) (.tup (qne ?_ ?_)));rotate_left 2;refine sqF ?_;refine sqF ?_;refine sqF ?_;refine dr (rn0 (r2 I I) (.tup (qne ?_ ?_)));rotate_left 2;apply sq<;>intro h9 h9p h9s<;>(try simp only[Q] at h9p);refine wc zmc (zeS hw ht) I I ?_;refine evd [] [] (wc zon (zdV hcl) I I ?_);refine evd [] [] (dr ?_);apply sq<;>intro h10 h10p h10s<;>(try simp only[Q] at h10p);refine rn0 (r2 I I) (.tup (qne ?_ ?_));rotate_left 2;exfalso;simp_all;apply sq<;>intro h11 h11p h11s<;>(try simp only[Q] at h11p);refine si [0,1] [_,_] sl78 tz31 ?_;refine evd [] [] (wc zdA ze6 I I ?_);refine evd [] [] (dr (rn0 (r2 I I) (.tup (qee ?_ ?_))));rotate_left 2;apply sq<;>intro h12 h12p h12s<;>(try simp only[Q] at h12p);refine si [0] [_] sl78 tz31 ?_;refine evd [] [] (wc zdA ze7 I I ?_);refine evd [] [] ?_;apply sq<;>intro h13 h13p h13s<;>(try simp only[Q] at h13p);refine Walk.call (cr:=[]) zjB zdZ I (.some I I h13) I I (LeL.refl _) O I I I (evd [] [(82,true)] ?_ ⟨⟨_,I,h13⟩,O⟩);refine dr (rn0 (r2 I I) (.tup (qee ?_ ?_)));rotate_left 2;refine dr (rn0 (r2 I I) (.tup (qee ?_ ?_)));rotate_left 2;refine rn0 (r2 I I) (.tup (qne ?_ ?_));rotate_left 2;all_goals (first|(refine xam D.bool (okI _ ?_);(try simp only[xah,Bool.false_eq_true,zaF,xad,xac,true_iff,false_iff]);omega)|(rw[ty0 oe oe oe];first|done|rfl)|(rw[ty5 oe];first|done|rfl)|(rw[ty6 oe];first|done|rfl)|(rw[ty4 oe hmem];first|done|rfl))
theorem zpi {t u:Vt}:t=u↔t.var=u.var/\t.ty.data=u.ty.data/\t.ty.index=u.ty.index:=by
 rcases t with ⟨a,b,c⟩;rcases u with ⟨d,e,f⟩;simp
def zn3 (l:List Vt) (v:Vt):Int:=idxF (fun x=>decide (v=x)) l 0
theorem zin {l:List Vt}{v:Vt} (h:l.length<=1000000000000):FnD Tryz.prog 128 [.d (zcy l),.agg [.d (.i v.var),.d (.i v.ty.data),.d (.i v.ty.index)]] [] (.d (.i (zn3 l v))) []:=by
 refine bd Tryz.f128 19 [16] [] fun _ _ _ _ hk=>?_;refine bx 3003 ?_;refine evs [16] [] (xaD (ι:=List (Vt)×List (Vt)) hk (fun x=>[(8,.d (.i (x.1.length:Int)))]) [4,5,9,10,11,12,13,14,15,16,17,18] (fun x=>[]) (fun x=>x.1++x.2=l/\idxF (fun x=>decide (v=x)) x.2 x.1.length=idxF (fun x=>decide (v=x)) l 0) (fun x=>x.2.length) ([],l) ⟨by simp,I⟩ ⟨⟨_,I,xaT ?_⟩,O⟩ O (fun x=>rfl) (fun x hg1=>?_));focus (first|rfl|omega)
 obtain⟨pre,rest⟩:=x;dsimp only at hg1 ⊢;refine evc [16] [] ?_;apply sq<;>intro h1 h1p h1s<;>(try simp only[Q] at h1p);rcases rest with _|⟨y,rest⟩
 ·exfalso;simp_all
 refine ixq zcZ I I I (zbd hg1.1) I (evd [16] [] (Walk.eqV2 zr3 .none I I I I I (dr ?_)));apply sq<;>intro h2 h2p h2s<;>(try simp only[Q] at h2p);refine rq ?_;rotate_left;refine ar (xaj ((pre++[y],rest)) ⟨⟨(by have hz:=hg1.1;rw[<-hz];simp),(by rw[<-hg1.2];simp[idxF];simp_all[zpi])⟩,oh,sx ⟨⟨_,I,xaT ?_⟩,O⟩ O⟩);focus (first|rfl|(simp;done)|omega)
 have hrest:rest=[]:=by
  rcases rest with _|⟨a,b⟩
  ·rfl
  ·exfalso;have hz:=xam List.length (hg1.1);simp only[xaa,xab,xac] at hz;omega
 subst hrest;refine rq ?_;rotate_left;all_goals (unfold zn3;rw[<-hg1.2];simp_all[idxF,zpi])
theorem zeg {l:List Vt}{v:Vt} (h:l.length<=1000000000000):FnD Tryz.prog 117 [.d (zcy l),.agg [.d (.i v.var),.d (.i v.ty.data),.d (.i v.ty.index)]] [] (.d (.bool (decide (v∈l)))) []:=by
 refine bd Tryz.f117 9 [] [] fun _ _ _ _ hk=>?_;refine bx 3003 ?_;refine ev (wc zq9 (zin h) I I ?_);refine ev (rq ?_);rotate_left;all_goals (refine xam D.bool ?_;rw[show zn3 l v=idxF (fun x=>decide (v=x)) l 0 from rfl,zeR];simp[List.any_eq,eq_comm])
theorem zgQ {xs:List Vt}{f:Nat}{caps:List AV}{hp:Hp}{p:Vt->Bool} (hs:xs.length<=1000000000000) (hcal:Callee Tryz.prog f)
  (hf:∀t∈xs,FnD Tryz.prog f ([.agg [.d (.i t.var),.d (.i t.ty.data),.d (.i t.ty.index)]]++caps) hp (.d (.bool (p t))) []) (k1:subH hp hp) (k2:zd0 hp=true) (k3:zas hp [] (.d .nilp) []=true):
  FnD Tryz.prog 137 [.d (zcy xs),.fn f caps] hp (.d (.i (idxF p xs 0))) []:=by
 refine bd Tryz.f137 19 [] [] fun _ _ _ _ hk=>?_;refine xaD (ι:=List (Vt)×List (Vt)) hk (fun x=>[(8,.d (.i (x.1.length:Int)))]) [4,5,9,10,11,12,13,14,15,16,17,18] (fun x=>[]) (fun x=>x.1++x.2=xs/\idxF p x.2 x.1.length=idxF p xs 0) (fun x=>x.2.length) ([],xs) ⟨by simp,I⟩ ⟨⟨_,I,xaT ?_⟩,O⟩ O (fun x=>zhb hp) (fun x hg1=>?_);focus (first|rfl|omega)
 obtain⟨pre,rest⟩:=x;dsimp only at hg1 ⊢;refine evc [] [] ?_;apply sq<;>intro h1 h1p h1s<;>(try simp only[Q] at h1p);rcases rest with _|⟨y,rest⟩
 ·exfalso;simp_all
 refine ixq zcZ I I I (zbd hg1.1) I (ev (xbC (cr:=[]) hcal (hf y (by rw[<-hg1.1];simp)) I .none I I I (LeL.refl _) k1 k2 (zeU k3 _) I ?_));apply tv;apply sq<;>intro h2 h2p h2s<;>(try simp only[Q] at h2p);focus (refine rn [] (r1 I) (.eqd ?_) ⟨I,I⟩ (fun _ _ h=>h) (fun _ h=>h);all_goals (rw[<-hg1.2];simp[idxF,h1s,h1p,h2s,h2p]))
 refine ar (xaj ((pre++[y],rest)) ⟨⟨(by have hz:=hg1.1;rw[<-hz];simp),(by rw[<-hg1.2];simp[idxF,h2s])⟩,oh,Sub.x oj oj ⟨⟨_,I,xaT ?_⟩,O⟩ oh (by simp[zdn]) O⟩);focus (first|rfl|(simp;done)|omega)
 have hrest:rest=[]:=by
  rcases rest with _|⟨a,b⟩
  ·rfl
  ·exfalso;have hz:=xam List.length (hg1.1);simp only[xaa,xab,xac] at hz;omega
 subst hrest;focus (refine rn [] (r1 I) (.eqd ?_) ⟨I,I⟩ (fun _ _ h=>h) (fun _ h=>h);all_goals (rw[<-hg1.2];simp[idxF,h1s,h1p]))
theorem zfI {xs:List Vt}{f:Nat}{caps:List AV}{hp:Hp}{p:Vt->Bool} (hs:xs.length<=1000000000000) (hcal:Callee Tryz.prog f)
  (hf:∀t∈xs,FnD Tryz.prog f ([.agg [.d (.i t.var),.d (.i t.ty.data),.d (.i t.ty.index)]]++caps) hp (.d (.bool (p t))) []) (k1:subH hp hp) (k2:zd0 hp=true) (k3:zas hp [] (.d .nilp) []=true):
  FnD Tryz.prog 134 [.d (zcy xs),.fn f caps] hp (.d (.bool (xs.any p))) []:=by
 refine bd Tryz.f134 9 [] [] fun _ _ _ _ hk=>?_;refine Walk.call (cr:=[]) zre (zgQ hs hcal hf k1 k2 k3) I .none I I (LeL.refl _) k1 k2 (zeU k3 _) I (ev (rn [] (r1 I) (.eqd ?_) ⟨I,I⟩ (fun _ _ h=>h) (fun _ h=>h)));rotate_left;all_goals (exact xam D.bool (zeR p xs 0))
theorem zh3 {b:List Vt}{v:Vt} (h:b.length<=1000000000000):FnD Tryz.prog 135 [.agg [.d (.i v.var),.d (.i v.ty.data),.d (.i v.ty.index)],.ref 3003 0] [(3003,some (.box [.d (zcy b)]))] (.d (.bool (!decide (v∈b)))) []:=by
 refine bd Tryz.f135 8 [] [] fun _ _ _ _ hk=>?_;refine bx 3001 ?_;refine ev (wc zok (zeg h) I I ?_);refine ev (rn [] (r1 I) (.eqd ?_) ⟨I,I⟩ (SubH.get ⟨I,O⟩) (fun _ h=>h));rotate_left;all_goals (rfl)
theorem zf3 {x y:List Vt} (hx:x.length<=1000000000000) (hy:y.length<=1000000000000):FnD Tryz.prog 127 [.d (zcy x),.d (zcy y)] [] (.d (.bool (zdD x y))) []:=by
 refine bd Tryz.f127 16 [] [] fun _ _ _ _ hk=>?_;refine bx 3003 ?_;refine ev ?_;apply sq<;>intro h1 h1p h1s;refine xbF (xs:=[_]) I (.some I I h1) I I (Walk.call (cr:=[]) zrb (zfI (p:=fun v=> !decide (v∈y)) hx zrc (fun t _=>zh3 hy) ⟨I,O⟩ I I) I (.some I I h1) I I (LeL.refl _) ⟨I,O⟩ I I I (evs [] [(10,true)] ?_ ⟨⟨_,I,h1⟩,O⟩));refine rq ?_;rotate_left;refine rq ?_;rotate_left;all_goals (refine xam D.bool ?_;unfold zdD;first|(simp_all;done)|(simp_all;intro hz;omega))
def metA (s:List Int):List AV:=(List.range 6).map fun(i:Nat)=> .d (.bool (decide ((i:Int)∈s)))
theorem zmH {s:List Int}{v:Int} (h0:0<=v) (h1:v<=5):(metA s)[v.toNat]?=some (.d (.bool (decide (v∈s)))):=by
 unfold metA;rw[List.getElem?_map,List.getElem?_range oe];simp only[Option.map_some];rw[Int.toNat_of_nonneg h0]
theorem zmI {s:List Int}{v:Int} (h0:0<=v) (h1:v<=5):putC (metA s) v.toNat [.d (.bool true)]=some (metA (s++[v])):=by
 have e:v=0\/v=1\/v=2\/v=3\/v=4\/v=5:=by omega
 rcases e with rfl|rfl|rfl|rfl|rfl|rfl<;>simp[metA,putC,List.range_succ]
theorem zoO (t:Ty) (p:Pat):(zaS t p).length<=1:=by unfold zaS;split<;>simp
theorem zlp:∀ {a b:List Int},a.Nodup->(∀x∈a,x∈b)->a.length<=b.length
 | [],b,_,_=>by simp
 |x::r,b,hn,hs=>by
  have hn':=List.nodup_cons.1 hn;have hx:=hs x oh;have h:=zlp (a:=r) (b:=b.erase x) hn'.2 (fun y hy=>by
   have hne:y≠x:=fun e=>hn'.1 (e ▸ hy);exact(List.mem_erase_of_ne hne).2 (hs y (by simp[hy])))
  rw[List.length_erase_of_mem hx] at h;have:=List.length_pos_of_mem hx;simp only[xab];omega
def InR (l:List Vt):Prop:=∀v∈l,0<=v.var/\v.var<=5
theorem zoR {l:List Vt} (h:InR l) (hn:zcn l=true):l.length<=6:=by
 unfold zcn at hn;have h1:=xas hn;have h2:∀x∈l.map Vt.var,x∈[(0:Int),1,2,3,4,5]:=fun x hx=>by
  obtain⟨v,hv,rfl⟩:=List.mem_map.1 hx;have:=h v hv;simp only[List.mem_cons,xau,or_false];omega
 have:=zlp h1 h2;simpa using this
theorem zjv {g:Ty->Pat->Int->Option (List Vt)×Int}{or:Bool} (hg:∀t p c l,(g t p c).1=some l->InR l):∀(a:List Ty) (b:List Pat) (i:Nat) (acc:List Vt) (c:Int) (l:List Vt),InR acc->(zbl g or a b i acc c).1=some l->InR l
 | [],b,i,acc,c,l,ha,h=>by simp only[zbl,xae] at h;subst h;exact ha
 |_::_,[],i,acc,c,l,ha,h=>by simp only[zbl,xae] at h;subst h;exact ha
 |x::r,y::s,i,acc,c,l,ha,h=>by
  simp only[zbl] at h;cases hh:(g x y c).1 with
  |none=>rw[hh] at h;cases h
  |some m=>
   rw[hh] at h;simp only at h;split at h
   ·split at h
    ·exact zjv hg r s (i+1) acc _ l ha h
    ·cases h
   ·refine zjv hg r s (i+1) _ _ l (fun v hv=>?_) h;rcases List.mem_append.1 hv with hv|hv
    ·exact ha v hv
    ·exact hg x y c m hh v hv
theorem zmT (w:List Data):∀(n:Nat) (t:Ty) (p:Pat) (c:Int) (l:List Vt),(zaL w n t p c).1=some l->InR l/\zcn l=true
 |0,t,p,c,l,h=>by simp[zaL] at h
 |n+1,t,p,c,l,h=>by
  unfold zaL at h;split at h
  ·cases h
  ·split at h
   ·rename_i h60 ho;have ho':ownP w t p=true:=by unfold okP at ho;simp only[xad] at ho;exact ho.1
    cases hk:(zbl (zaL w n) (decide (p.op=5)) (zaf w t p) p.kids 0 (zaS t p) (c+1)).1 with
    |none=>unfold finV at h;rw[hk] at h;simp only at h;rw[hk] at h;cases h
    |some m=>
     have hi:InR m:=zjv (fun t p c l h=>(zmT w n t p c l h).1) _ _ _ _ _ m (fun v hv=>by
      unfold zaS at hv;split at hv
      ·rename_i hop;simp only[List.mem_cons,xau,or_false] at hv;subst hv;exact zjq ho' hop
      ·simp at hv) hk
     unfold finV at h;rw[hk] at h;simp only at h;split at h
     ·rename_i hn;rw[hk] at h;cases h
      exact⟨hi,hn⟩
     ·cases h
   ·cases h
theorem zpJ (w:List Data) (n:Nat) (t:Ty) (p:Pat) (c:Int) (h:(zaL w n t p c).1.isSome=true):c+1<=(zaL w n t p c).2/\(zaL w n t p c).2<=60:=by
 have h1:=zeV w n t p c;by_cases hw:zbJ w n t p c=true
 ·have h2:=h1.2 hw;simp only[zbJ,xad,xah] at hw;have:=xa4 p;omega
 ·rw[if_neg hw] at h1;rw[h1.1] at h;cases h
def zc0 (o:Option (List Vt)):List Vt:=o.getD []
theorem zoc {g:Ty->Pat->Int->Option (List Vt)×Int}{or:Bool}{a:List Ty}{b:List Pat}{i:Nat}{acc:List Vt}{c:Int} (ha:i<a.length) (hl:b.length=a.length) (h:(g (nth a i) (nth b i) c).1.isSome=false):
  zbl g or (a.drop i) (b.drop i) i acc c=(none,(g (nth a i) (nth b i) c).2):=by
 rw[zbm ha,zbm (l:=b) oe,zbl];cases hh:(g (nth a i) (nth b i) c).1 with
 |none=>rfl
 |some l=>rw[hh] at h;cases h
theorem zo6 {g:Ty->Pat->Int->Option (List Vt)×Int}{or:Bool}{a:List Ty}{b:List Pat}{i:Nat}{acc:List Vt}{c:Int} (ha:i<a.length) (hl:b.length=a.length) (h:(g (nth a i) (nth b i) c).1.isSome=true) (ho:or=true/\i=1) (hs:zdD acc (zc0 (g (nth a i) (nth b i) c).1)=false):
  zbl g or (a.drop i) (b.drop i) i acc c=(none,(g (nth a i) (nth b i) c).2):=by
 rw[zbm ha,zbm (l:=b) oe,zbl];cases hh:(g (nth a i) (nth b i) c).1 with
 |none=>rfl
 |some l=>rw[hh] at hs;simp only[zc0,Option.getD_some] at hs;simp only[if_pos ho,hs,Bool.false_eq_true,if_false]
theorem zob {g:Ty->Pat->Int->Option (List Vt)×Int}{or:Bool}{a:List Ty}{b:List Pat}{i:Nat}{acc:List Vt}{c:Int} (ha:i<a.length) (hl:b.length=a.length) (h:(g (nth a i) (nth b i) c).1.isSome=true) (hs:(or=true/\i=1)->zdD acc (zc0 (g (nth a i) (nth b i) c).1)=true):
  zbl g or (a.drop i) (b.drop i) i acc c=zbl g or (a.drop (i+1)) (b.drop (i+1)) (i+1) (if or=true/\i=1 then acc else acc++zc0 (g (nth a i) (nth b i) c).1) (g (nth a i) (nth b i) c).2:=by
 rw[zbm ha,zbm (l:=b) oe,zbl];cases hh:(g (nth a i) (nth b i) c).1 with
 |none=>rw[hh] at h;cases h
 |some l=>
  by_cases ho:or=true/\i=1
  ·have:=hs ho;rw[hh] at this;simp only[zc0,Option.getD_some] at this;simp only[if_pos ho,this,if_true]
  ·simp only[if_neg ho,zc0,Option.getD_some]
theorem zo7 {g:Ty->Pat->Int->Option (List Vt)×Int}{or:Bool}{a:List Ty}{b:List Pat}{i:Nat}{acc:List Vt}{c:Int} (ha:a.length<=i):zbl g or (a.drop i) (b.drop i) i acc c=(some acc,c):=by
 rw[List.drop_eq_nil_of_le ha,zbl];intro a r b s h;cases h
theorem zeW (w:List Data) (n:Nat) (t:Ty) (p:Pat) (c:Int):InR (zc0 (zaL w n t p c).1)/\(zc0 (zaL w n t p c).1).length<=6:=by
 cases h:(zaL w n t p c).1 with
 |none=>exact⟨fun v hv=>by simp[zc0] at hv,by simp[zc0]⟩
 |some l=>
  have:=zmT w n t p c l h;exact⟨this.1,zoR this.1 this.2⟩
structure GoodS (w:List Data) (n:Nat) (t:Ty) (p:Pat) (c:Int) (x:Nat×List Vt×Int):Prop where
 le:x.1<=p.kids.length
 eq:zbl (zaL w n) (decide (p.op=5)) ((zaf w t p).drop x.1) (p.kids.drop x.1) x.1 x.2.1 x.2.2=zbl (zaL w n) (decide (p.op=5)) (zaf w t p) p.kids 0 (zaS t p) (c+1)
 lc:(x.1:Int)<=x.2.2
 c0:0<=x.2.2
 c1:x.2.2<=60
 len:x.2.1.length<=1+6*x.1
 inr:InR x.2.1
def zcb (w:List Data) (n:Nat) (t:Ty) (p:Pat) (x:Nat×List Vt×Int):Nat×List Vt×Int:=
 (x.1+1,if decide (p.op=5)=true/\x.1=1 then x.2.1 else x.2.1++zc0 (zaL w n (nth (zaf w t p) x.1) (nth p.kids x.1) x.2.2).1,(zaL w n (nth (zaf w t p) x.1) (nth p.kids x.1) x.2.2).2)
theorem GoodS.next {w:List Data}{n:Nat}{t:Ty}{p:Pat}{c:Int}{x:Nat×List Vt×Int} (hl:p.kids.length=(zaf w t p).length) (hg:GoodS w n t p c x) (hlt:x.1<p.kids.length)
  (hz:(zaL w n (nth (zaf w t p) x.1) (nth p.kids x.1) x.2.2).1.isSome=true) (hs:(decide (p.op=5)=true/\x.1=1)->zdD x.2.1 (zc0 (zaL w n (nth (zaf w t p) x.1) (nth p.kids x.1) x.2.2).1)=true):
  GoodS w n t p c (zcb w n t p x):=by
 obtain⟨h1,h2,h3,h4,h5,h6,h7⟩:=hg;have hb:=zpJ w n _ _ _ hz;have ho:=zeW w n (nth (zaf w t p) x.1) (nth p.kids x.1) x.2.2;refine⟨by unfold zcb;dsimp only;omega, ?_,by unfold zcb;dsimp only;omega,by unfold zcb;dsimp only;omega,by unfold zcb;dsimp only;omega, ?_, ?_⟩
 ·rw[<-h2,zob oe hl hz hs];rfl
 ·unfold zcb;dsimp only;split
  ·omega
  ·rw[xaa];omega
 ·unfold zcb;dsimp only;split
  ·exact h7
  ·intro v hv;rcases List.mem_append.1 hv with hv|hv
   ·exact h7 v hv
   ·exact ho.1 v hv
theorem GoodS.none {w:List Data}{n:Nat}{t:Ty}{p:Pat}{c:Int}{x:Nat×List Vt×Int} (hl:p.kids.length=(zaf w t p).length) (hg:GoodS w n t p c x) (hlt:x.1<p.kids.length)
  (hz:(zaL w n (nth (zaf w t p) x.1) (nth p.kids x.1) x.2.2).1.isSome=false):
  finV (zbl (zaL w n) (decide (p.op=5)) (zaf w t p) p.kids 0 (zaS t p) (c+1))=(none,(zaL w n (nth (zaf w t p) x.1) (nth p.kids x.1) x.2.2).2):=by
 rw[<-hg.eq,zoc oe hl hz];rfl
theorem GoodS.bad {w:List Data}{n:Nat}{t:Ty}{p:Pat}{c:Int}{x:Nat×List Vt×Int} (hl:p.kids.length=(zaf w t p).length) (hg:GoodS w n t p c x) (hlt:x.1<p.kids.length)
  (hz:(zaL w n (nth (zaf w t p) x.1) (nth p.kids x.1) x.2.2).1.isSome=true) (ho:p.op=5/\x.1=1) (hs:zdD x.2.1 (zc0 (zaL w n (nth (zaf w t p) x.1) (nth p.kids x.1) x.2.2).1)=false):
  finV (zbl (zaL w n) (decide (p.op=5)) (zaf w t p) p.kids 0 (zaS t p) (c+1))=(Option.none,(zaL w n (nth (zaf w t p) x.1) (nth p.kids x.1) x.2.2).2):=by
 rw[<-hg.eq,zo6 oe hl hz (by simpa using ho) hs];rfl
theorem GoodS.fin {w:List Data}{n:Nat}{t:Ty}{p:Pat}{c:Int}{x:Nat×List Vt×Int} (hl:p.kids.length=(zaf w t p).length) (hg:GoodS w n t p c x) (hge:p.kids.length<=x.1):
  finV (zbl (zaL w n) (decide (p.op=5)) (zaf w t p) p.kids 0 (zaS t p) (c+1))=(if zcn x.2.1=true then some x.2.1 else Option.none,x.2.2):=by
 rw[<-hg.eq,zo7 oe];unfold finV;simp only;split<;>rfl
theorem zoQ {pre rest l:List Vt}{y:Vt} (h:pre++y::rest=l) (hm:y.var∈pre.map Vt.var):zcn l=false:=by
 unfold zcn;refine xaw (fun hn=>?_);rw[<-h,xag,xaf,List.nodup_append] at hn;exact hn.2.2 _ hm _ oh I
theorem zj8 {pre:List Vt}{y:Vt} (h:(pre.map Vt.var).Nodup) (hm:y.var∉pre.map Vt.var):((pre++[y]).map Vt.var).Nodup:=by
 rw[xag,List.nodup_append];exact⟨h,by simp,fun a ha b hb=>by simp at hb;subst hb;exact fun e=>hm (e ▸ ha)⟩
def retV (r:Option (List Vt)×Int):AV:= .tup [.d (zcy (zc0 r.1)),.d (.bool r.1.isSome)]
theorem zds {w:List Data} (hw:WT w):∀(n:Nat){a k d c:Int}{p:Pat},d+n=11->n<=10->TyIn w.length ⟨a,k⟩->p.ok->0<=c->c<=1000000000000->
  FnD Tryz.prog 116 [.d (zam w),.agg [.d (.i a),.d (.i k)],.agg [.d (.i p.op),.d (.i p.ctor),.d (.i p.n),.d (.i p.m),.d (.i p.var),.d (zaC p.kids)],.d (.i d),.ref 950 0] [(950,some (.box [.d (.i c)]))]
   (retV (zaL w n ⟨a,k⟩ p c)) [(950,some (.box [.d (.i (zaL w n ⟨a,k⟩ p c).2)]))]
 |0,a,k,d,c,p,hd,_,_,_,c0,c1=>by
  refine bd Tryz.f116 114 [] [2] fun _ _ _ _ hk=>?_;refine bx 3006 ?_;refine bx 3007 ?_;refine ev (ar (so ty3 ?_));apply tv;refine xaG (xbt 8 [(34,.d (.bool true))] [27,28,29,30,31,32,33] ?_ ?_);refine ev ?_;apply sq<;>intro h1 h1p h1s;exact jnb I;exact jnb I;refine xbs ?_;apply tv;apply sq<;>intro h2 h2p h2s;refine rn [(950,some (.box [.d (.i (zaL w 0 ⟨a,k⟩ p c).2)]))] (r2 I I) (.tup (qne ?_ ?_)) ⟨I,I⟩ (SubO.get ⟨.inr ?_,⟨.inl I,O⟩⟩) (zao I);rotate_left 3;exact absurd h2 oh;all_goals (first|((rfl);done)|(rfl))
 |n+1,a,k,d,c,p,hd,hn,ht,hok,c0,c1=>by
  by_cases h60:60<c+1
  ·have e:zaL w (n+1) ⟨a,k⟩ p c=(none,c+1):=by unfold zaL;rw[if_pos h60]
   rw[e];refine bd Tryz.f116 114 [] [2] fun _ _ _ _ hk=>?_;refine bx 3006 ?_;refine bx 3007 ?_;refine ev (ar (so ty3 ?_));apply tv;refine xaG (xbt 8 [(34,.d (.bool true))] [27,28,29,30,31,32,33] ?_ ?_);refine ev ?_;apply sq<;>intro h1 h1p h1s;exact jnb I;exact jnb I;refine xbs ?_;apply tv;apply sq<;>intro h2 h2p h2s;refine rn [(950,some (.box [.d (.i (c+1))]))] (r2 I I) (.tup (qne ?_ ?_)) ⟨I,I⟩ (SubO.get ⟨.inr ?_,⟨.inl I,O⟩⟩) (zao I);rotate_left 3;exact absurd h2 oh;all_goals (first|((rfl);done)|(rfl))
  have hsh:=zlI hw (p:=p) ht;by_cases hop:okP w ⟨a,k⟩ p=true
  ·have hok':=hok;rw[xa1] at hok;have hop':=hop;unfold okP at hop';simp only[xad,xah] at hop';obtain⟨ho,hl⟩:=hop';have hin:=zdf hw ht ho;have hlen:=zfJ hw ht (zcz ho);have hst:zc5 w ⟨a,k⟩ p=zaf w ⟨a,k⟩ p:=by unfold zc5;rw[if_neg (fun h=>h.2 (zcz ho h.1))]
   rw[hst,hop] at hsh;have e:zaL w (n+1) ⟨a,k⟩ p c=finV (zbl (zaL w n) (decide (p.op=5)) (zaf w ⟨a,k⟩ p) p.kids 0 (zaS ⟨a,k⟩ p) (c+1)):=by
    conv=>lhs;unfold zaL
    rw[if_neg h60,if_pos hop]
   have hnr:InR (zaS ⟨a,k⟩ p):=fun v hv=>by
    unfold zaS at hv;split at hv
    ·rename_i hop;simp only[List.mem_cons,xau,or_false] at hv;subst hv;exact zjq ho hop
    ·simp at hv
   have hnl:=zoO ⟨a,k⟩ p;rw[e];refine bd Tryz.f116 114 [14,108] [2,8,17] fun _ _ _ _ hk=>?_;refine bx 3006 ?_;refine bx 3007 ?_;refine evs [14,108] [] (ar (so ty3 ?_));apply tv;refine xaG (xbt 8 [(34,.d (.bool false))] [27,28,29,30,31,32,33] ?_ ?_);refine evs [14,108] [] ?_;apply sq<;>intro h1 h1p h1s;exact jnb I;exact jnb I;refine xbs ?_;apply tv;apply sq<;>intro h2 h2p h2s;exact absurd h2 oh;refine wc zol hsh I I ?_;refine evs [14,108] [] ?_;apply sq<;>intro h3 h3p h3s;exact absurd h3 oh;refine xbw 5 3 .none I I ?_;apply tv;refine xaG (xbt 8 [(51,.d (.bool (decide (p.op=2\/p.op=6))))] [44,45,46,47,48,49,50] ?_ ?_);refine evs [14,108] [] ?_;apply sq<;>intro h4 h4p h4s;exact jnb I;exact jnb I;refine xbs ?_;apply tv;apply sq<;>intro h5 h5p h5s;refine bu [0,1] [_,_] zof ?_;refine si [0] [_] zcZ zl3 ?_;refine ap zcZ zl5 I I I oh (by(simp;done)) ?_;refine asg ?_;apply tv;refine xaD (ι:=Nat×List Vt×Int) hk (fun z=>[(62,.d (.i (z.1:Int))),(14,.gl 5 (z.2.1.map Vt.c))]) [10,11,15,16,17,18,63,64,65,66,67,68,69,70,71,72,73,74,75,76,77,78,79,80,81,82,83,84,85,86,87,88,89,90,91,92,93,94,95,96,97,98] (fun z=>[(950,some (.box [.d (.i z.2.2)])),(5,some (.tok ((z.2.1.map Vt.c)).length 3))]) (fun z=>GoodS w n ⟨a,k⟩ p c z) (fun z=>p.kids.length-z.1) (0,zaS ⟨a,k⟩ p,c+1) ⟨by simp,by simp,by dsimp only;omega,by dsimp only;omega,by dsimp only;omega,by dsimp only;omega,hnr⟩ ⟨⟨_,I,xaT ?_⟩,⟨⟨_,I,LeA.glg ?_⟩,O⟩⟩ ⟨?_,⟨zar ?_,O⟩⟩ (fun x=>rfl) (fun z hg1=>?_);iterate 2 focus (first|rfl|(simp_all[zaS];done))
   focus (first|rfl|(simp[getH];done))
   focus (first|rfl|(simp_all[zaS];done))
   obtain⟨s1,_,s3,s4,s5,s6,s7⟩:=id hg1;refine evc [14,108] [2,8,17] ?_;apply sq<;>intro h6 h6p h6s<;>(try simp only[Q,xaY] at h6p);refine ixq sl45 I I I (zbQ oe) I ?_;refine evs [14,108] [] (ab 3016 tz47 ?_);refine evs [14,108] [] (so ty47 ?_);apply tv;refine ixq sl78 I I I (zau oe) I ?_;refine evd [14,108] [] (ar (wd zmd (zds hw n (a:=(nth (zaf w ⟨a,k⟩ p) z.1).data) (k:=(nth (zaf w ⟨a,k⟩ p) z.1).index) (c:=z.2.2) (p:=nth p.kids z.1) oe oe (hin _ (zaq oe)) (xa9 hok.2 _ (zaq oe)) oe oe) I I ⟨I,O⟩ ?_));refine evd [14,108] [] (dr ?_);apply sq<;>intro h7 h7p h7s;refine rn [(950,some (.box [.d (.i (finV (zbl (zaL w n) (decide (p.op=5)) (zaf w ⟨a,k⟩ p) p.kids 0 (zaS ⟨a,k⟩ p) (c+1))).2)]))] (r2 I I) (.tup (qne ?_ ?_)) ⟨I,I⟩ (SubO.get ⟨.inr ?_,⟨.inl I,O⟩⟩) (zao I);rotate_left 3;refine xaG (xbt 7 [(93,.d (.bool (decide (p.op=5/\z.1=1))))] [87,88,89,90,91,92] ?_ ?_);refine evs [14,108] [] ?_;apply sq<;>intro h8 h8p h8s;exact jnb I;exact jnb I;refine xbs (evs [14,108] [] ?_);apply sq<;>intro h9 h9p h9s<;>(try simp only[Q,xaY] at h9p);refine Walk.call (cr:=[]) zom (zf3 oe (by have hz:=(zeW w n ⟨(nth (zaf w ⟨a,k⟩ p) z.1).data,(nth (zaf w ⟨a,k⟩ p) z.1).index⟩ (nth p.kids z.1) z.2.2).2;omega)) I .none I I (.cons (.gl _ _) (.cons (.refl _) .nil)) O I I I ?_;refine evs [14,108] [] ?_;apply sq<;>intro h10 h10p h10s<;>(try simp only[Q,xaY] at h10p);refine rn [(950,some (.box [.d (.i (finV (zbl (zaL w n) (decide (p.op=5)) (zaf w ⟨a,k⟩ p) p.kids 0 (zaS ⟨a,k⟩ p) (c+1))).2)]))] (r2 I I) (.tup (qne ?_ ?_)) ⟨I,I⟩ (SubO.get ⟨.inr ?_,⟨.inl I,O⟩⟩) (zao I);rotate_left 3;refine ar (xaj ((zcb w n ⟨a,k⟩ p z)) ⟨(hg1.next hl oe o8 (fun ho=>by simp_all)),(by unfold zcb;dsimp only;omega),sx ⟨⟨_,I,xaT ?_⟩,⟨⟨_,I,LeA.glg ?_⟩,O⟩⟩ ⟨?_,⟨zar ?_,O⟩⟩⟩);iterate 2 focus (first|rfl|(simp_all[zaS];done))
   focus (first|rfl|(simp[getH];done))
   focus (first|rfl|(simp_all[zaS];done))
   refine ap zcZ zl5 I I I oh (by first|(simp;done)|(have hz:=(zeW w n ⟨(nth (zaf w ⟨a,k⟩ p) z.1).data,(nth (zaf w ⟨a,k⟩ p) z.1).index⟩ (nth p.kids z.1) z.2.2).2;simp;omega)) ?_;refine asg ?_;apply tv;refine ar (xaj ((zcb w n ⟨a,k⟩ p z)) ⟨(hg1.next hl oe o8 (fun ho=>by simp_all)),(by unfold zcb;dsimp only;omega),sx ⟨⟨_,I,xaT ?_⟩,⟨⟨_,I,LeA.glg ?_⟩,O⟩⟩ ⟨?_,⟨zar ?_,O⟩⟩⟩);iterate 2 focus (first|rfl|(simp_all[zaS];done)|(unfold zcb;dsimp only;rw[if_neg o8];simp;done))
   focus (first|rfl|(simp[getH];done))
   focus (first|rfl|(simp_all[zaS];done)|(unfold zcb;dsimp only;rw[if_neg o8];simp;done))
   refine ab 3019 zqu ?_;apply tv;refine xaD (ι:=List (Vt)×List (Vt)) hk (fun x=>[(101,.d (.i (x.1.length:Int)))]) [10,11,21,102,103,104,105,106,107,108,109,110,111,112] (fun x=>[(3019,some (.box (metA (x.1.map Vt.var))))]) (fun x=>x.1++x.2=z.2.1/\(x.1.map Vt.var).Nodup) (fun x=>x.2.length) ([],z.2.1) ⟨by simp,by simp⟩ ⟨⟨_,I,xaT ?_⟩,O⟩ ⟨?_,O⟩ (fun x=>rfl) (fun x hg2=>?_);focus (first|rfl|omega)
   focus (first|rfl|(simp[getH];done))
   obtain⟨pre,rest⟩:=x;dsimp only at hg2 ⊢;refine evc [14,108] [2,8,17] ?_;apply sq<;>intro h11 h11p h11s<;>(try simp only[Q,xaY] at h11p);rcases rest with _|⟨y,rest⟩
   ·exfalso;simp_all
   have hy:=s7 y (by rw[<-hg2.1];simp);refine Walk.idxG zcZ .none I I I I (zbd hg2.1) I (evs [14,108] [] (ab 3021 zl3 ?_));refine so zqt ?_;apply tv;refine xbM (i:=y.var.toNat) zlO .none I I I (Int.toNat_of_nonneg hy.1).symm oe ?_;refine xbR ty4 .none I I I ((by simpa using zmH hy.1 hy.2)) ?_;apply tv;apply sq<;>intro h12 h12p h12s<;>(try simp only[Q,xaY] at h12p);refine rn [(950,some (.box [.d (.i (finV (zbl (zaL w n) (decide (p.op=5)) (zaf w ⟨a,k⟩ p) p.kids 0 (zaS ⟨a,k⟩ p) (c+1))).2)]))] (r2 I I) (.tup (qne ?_ ?_)) ⟨I,I⟩ (SubO.get ⟨.inr ?_,⟨.inl I,O⟩⟩) (zao I);rotate_left 3;refine xbM (i:=y.var.toNat) zlO .none I I I (Int.toNat_of_nonneg hy.1).symm oe ?_;refine Walk.store ty4 .none I I I I I I oh ((by simpa using zmI hy.1 hy.2)) ?_;apply tv;refine ar (xaj ((pre++[y],rest)) ⟨⟨(by have hz:=hg2.1;rw[<-hz];simp),(zj8 hg2.2 o8)⟩,oh,sx ⟨⟨_,I,xaT ?_⟩,O⟩ ⟨?_,O⟩⟩);focus (first|rfl|(simp;done)|omega)
   focus (first|rfl|(simp[getH];done))
   have hrest:rest=[]:=by
    rcases rest with _|⟨a,b⟩
    ·rfl
    ·exfalso;have hz:=xam List.length (hg2.1);simp only[xaa,xab,xac] at hz;omega
   subst hrest;refine rn [(950,some (.box [.d (.i (finV (zbl (zaL w n) (decide (p.op=5)) (zaf w ⟨a,k⟩ p) p.kids 0 (zaS ⟨a,k⟩ p) (c+1))).2)]))] (r2 I I) (.tup (qge ?_ ?_)) ⟨I,I⟩ (SubO.get ⟨.inr ?_,⟨.inl I,O⟩⟩) (zao I);rotate_left 3;try simp only[Q,xaY] at h5p
   refine xaD (ι:=Nat×List Vt×Int) hk (fun z=>[(62,.d (.i (z.1:Int))),(14,.gl 5 (z.2.1.map Vt.c))]) [10,11,15,16,17,18,63,64,65,66,67,68,69,70,71,72,73,74,75,76,77,78,79,80,81,82,83,84,85,86,87,88,89,90,91,92,93,94,95,96,97,98] (fun z=>[(950,some (.box [.d (.i z.2.2)])),(5,some (.tok ((z.2.1.map Vt.c)).length 3))]) (fun z=>GoodS w n ⟨a,k⟩ p c z) (fun z=>p.kids.length-z.1) (0,zaS ⟨a,k⟩ p,c+1) ⟨by simp,by simp,by dsimp only;omega,by dsimp only;omega,by dsimp only;omega,by dsimp only;omega,hnr⟩ ⟨⟨_,I,xaT ?_⟩,⟨⟨_,I,LeA.glg ?_⟩,O⟩⟩ ⟨?_,⟨zar ?_,O⟩⟩ (fun x=>rfl) (fun z hg1=>?_);iterate 2 focus (first|rfl|(simp_all[zaS];done))
   focus (first|rfl|(simp[getH];done))
   focus (first|rfl|(simp_all[zaS];done))
   obtain⟨s1,_,s3,s4,s5,s6,s7⟩:=id hg1;refine evc [14,108] [2,8,17] ?_;apply sq<;>intro h13 h13p h13s<;>(try simp only[Q,xaY] at h13p);refine ixq sl45 I I I (zbQ oe) I ?_;refine evs [14,108] [] (ab 3016 tz47 ?_);refine evs [14,108] [] (so ty47 ?_);apply tv;refine ixq sl78 I I I (zau oe) I ?_;refine evd [14,108] [] (ar (wd zmd (zds hw n (a:=(nth (zaf w ⟨a,k⟩ p) z.1).data) (k:=(nth (zaf w ⟨a,k⟩ p) z.1).index) (c:=z.2.2) (p:=nth p.kids z.1) oe oe (hin _ (zaq oe)) (xa9 hok.2 _ (zaq oe)) oe oe) I I ⟨I,O⟩ ?_));refine evd [14,108] [] (dr ?_);apply sq<;>intro h14 h14p h14s<;>(try simp only[Q,xaY] at h14p);refine rn [(950,some (.box [.d (.i (finV (zbl (zaL w n) (decide (p.op=5)) (zaf w ⟨a,k⟩ p) p.kids 0 (zaS ⟨a,k⟩ p) (c+1))).2)]))] (r2 I I) (.tup (qne ?_ ?_)) ⟨I,I⟩ (SubO.get ⟨.inr ?_,⟨.inl I,O⟩⟩) (zao I);rotate_left 3;refine xaG (xbt 7 [(93,.d (.bool (decide (p.op=5/\z.1=1))))] [87,88,89,90,91,92] ?_ ?_);refine evs [14,108] [] ?_;apply sq<;>intro h15 h15p h15s<;>(try simp only[Q,xaY] at h15p);exact jnb I;exact jnb I;refine xbs (evs [14,108] [] ?_);apply sq<;>intro h16 h16p h16s<;>(try simp only[Q,xaY] at h16p);refine Walk.call (cr:=[]) zom (zf3 oe (by have hz:=(zeW w n ⟨(nth (zaf w ⟨a,k⟩ p) z.1).data,(nth (zaf w ⟨a,k⟩ p) z.1).index⟩ (nth p.kids z.1) z.2.2).2;omega)) I .none I I (.cons (.gl _ _) (.cons (.refl _) .nil)) O I I I ?_;refine evs [14,108] [] ?_;apply sq<;>intro h17 h17p h17s<;>(try simp only[Q,xaY] at h17p);refine rn [(950,some (.box [.d (.i (finV (zbl (zaL w n) (decide (p.op=5)) (zaf w ⟨a,k⟩ p) p.kids 0 (zaS ⟨a,k⟩ p) (c+1))).2)]))] (r2 I I) (.tup (qne ?_ ?_)) ⟨I,I⟩ (SubO.get ⟨.inr ?_,⟨.inl I,O⟩⟩) (zao I);rotate_left 3;refine ar (xaj ((zcb w n ⟨a,k⟩ p z)) ⟨(hg1.next hl oe o8 (fun ho=>by simp_all)),(by unfold zcb;dsimp only;omega),sx ⟨⟨_,I,xaT ?_⟩,⟨⟨_,I,LeA.glg ?_⟩,O⟩⟩ ⟨?_,⟨zar ?_,O⟩⟩⟩);iterate 2 focus (first|rfl|(simp_all[zaS];done)|(unfold zcb;dsimp only;rw[if_pos o8];done))
   focus (first|rfl|(simp[getH];done))
   focus (first|rfl|(simp_all[zaS];done)|(unfold zcb;dsimp only;rw[if_pos o8];done))
   refine ap zcZ zl5 I I I oh (by first|(simp;done)|(have hz:=(zeW w n ⟨(nth (zaf w ⟨a,k⟩ p) z.1).data,(nth (zaf w ⟨a,k⟩ p) z.1).index⟩ (nth p.kids z.1) z.2.2).2;simp;omega)) ?_;refine asg ?_;apply tv;refine ar (xaj ((zcb w n ⟨a,k⟩ p z)) ⟨(hg1.next hl oe o8 (fun ho=>by simp_all)),(by unfold zcb;dsimp only;omega),sx ⟨⟨_,I,xaT ?_⟩,⟨⟨_,I,LeA.glg ?_⟩,O⟩⟩ ⟨?_,⟨zar ?_,O⟩⟩⟩);iterate 2 focus (first|rfl|(simp_all[zaS];done)|(unfold zcb;dsimp only;rw[if_neg o8];simp;done))
   focus (first|rfl|(simp[getH];done))
   focus (first|rfl|(simp_all[zaS];done)|(unfold zcb;dsimp only;rw[if_neg o8];simp;done))
   refine ab 3019 zqu ?_;apply tv;refine xaD (ι:=List (Vt)×List (Vt)) hk (fun x=>[(101,.d (.i (x.1.length:Int)))]) [10,11,21,102,103,104,105,106,107,108,109,110,111,112] (fun x=>[(3019,some (.box (metA (x.1.map Vt.var))))]) (fun x=>x.1++x.2=z.2.1/\(x.1.map Vt.var).Nodup) (fun x=>x.2.length) ([],z.2.1) ⟨by simp,by simp⟩ ⟨⟨_,I,xaT ?_⟩,O⟩ ⟨?_,O⟩ (fun x=>rfl) (fun x hg2=>?_);focus (first|rfl|omega)
   focus (first|rfl|(simp[getH];done))
   obtain⟨pre,rest⟩:=x;dsimp only at hg2 ⊢;refine evc [14,108] [2,8,17] ?_;apply sq<;>intro h18 h18p h18s<;>(try simp only[Q,xaY] at h18p);rcases rest with _|⟨y,rest⟩
   ·exfalso;simp_all
   have hy:=s7 y (by rw[<-hg2.1];simp);refine Walk.idxG zcZ .none I I I I (zbd hg2.1) I (evs [14,108] [] (ab 3021 zl3 ?_));refine so zqt ?_;apply tv;refine xbM (i:=y.var.toNat) zlO .none I I I (Int.toNat_of_nonneg hy.1).symm oe ?_;refine xbR ty4 .none I I I ((by simpa using zmH hy.1 hy.2)) ?_;apply tv;apply sq<;>intro h19 h19p h19s<;>(try simp only[Q,xaY] at h19p);refine rn [(950,some (.box [.d (.i (finV (zbl (zaL w n) (decide (p.op=5)) (zaf w ⟨a,k⟩ p) p.kids 0 (zaS ⟨a,k⟩ p) (c+1))).2)]))] (r2 I I) (.tup (qne ?_ ?_)) ⟨I,I⟩ (SubO.get ⟨.inr ?_,⟨.inl I,O⟩⟩) (zao I);rotate_left 3;refine xbM (i:=y.var.toNat) zlO .none I I I (Int.toNat_of_nonneg hy.1).symm oe ?_;refine Walk.store ty4 .none I I I I I I oh ((by simpa using zmI hy.1 hy.2)) ?_;apply tv;refine ar (xaj ((pre++[y],rest)) ⟨⟨(by have hz:=hg2.1;rw[<-hz];simp),(zj8 hg2.2 o8)⟩,oh,sx ⟨⟨_,I,xaT ?_⟩,O⟩ ⟨?_,O⟩⟩);focus (first|rfl|(simp;done)|omega)
   focus (first|rfl|(simp[getH];done))
   have hrest:rest=[]:=by
    rcases rest with _|⟨a,b⟩
    ·rfl
    ·exfalso;have hz:=xam List.length (hg2.1);simp only[xaa,xab,xac] at hz;omega
   subst hrest;refine rn [(950,some (.box [.d (.i (finV (zbl (zaL w n) (decide (p.op=5)) (zaf w ⟨a,k⟩ p) p.kids 0 (zaS ⟨a,k⟩ p) (c+1))).2)]))] (r2 I I) (.tup (qge ?_ ?_)) ⟨I,I⟩ (SubO.get ⟨.inr ?_,⟨.inl I,O⟩⟩) (zao I);rotate_left 3;all_goals (((first|(rw[hg1.none hl oe ol];first|done|rfl)|(rw[hg1.bad hl oe ol ol ol];first|done|rfl)|(rw[hg1.fin hl oe,if_neg (by rw[zoQ hg2.1 ol];simp)];first|done|rfl)|(rw[hg1.fin hl oe,if_pos (by have hz:=hg2.1;rw[xaq] at hz;rw[<-hz];exact xax hg2.2)];first|done|rfl));done))
  ·have hopf:okP w ⟨a,k⟩ p=false:=by simpa using hop
   have e:zaL w (n+1) ⟨a,k⟩ p c=(none,c+1):=by unfold zaL;rw[if_neg h60,if_neg hop]
   rw[e];rw[hopf] at hsh;refine bd Tryz.f116 114 [] [2] fun _ _ _ _ hk=>?_;refine bx 3006 ?_;refine bx 3007 ?_;refine ev (ar (so ty3 ?_));apply tv;refine xaG (xbt 8 [(34,.d (.bool false))] [27,28,29,30,31,32,33] ?_ ?_);refine ev ?_;apply sq<;>intro h1 h1p h1s;exact jnb I;exact jnb I;refine xbs ?_;apply tv;apply sq<;>intro h2 h2p h2s;exact absurd h2 oh;refine wc zol hsh I I ?_;refine ev ?_;apply sq<;>intro h3 h3p h3s;refine rn [(950,some (.box [.d (.i (c+1))]))] (r2 I I) (.tup (qne ?_ ?_)) ⟨I,I⟩ (SubO.get ⟨.inr ?_,⟨.inl I,O⟩⟩) (zao I);rotate_left 3;exact absurd h3 oh;all_goals (first|((rfl);done)|(rfl))
theorem zsa (w:List Data) (t:Ty) (p:Pat):(zaL w 10 t p 0).1.isSome=isP w t p:=by
 have h:=(zeV w 10 t p 0).1;rw[h];unfold zbJ isP;rw[Int.zero_add];split
 ·rename_i hz;rw[hz];rfl
 ·rename_i hz;cases hc:(zav w 10 t p&&(decide ((p.size:Int)<=60)&&linP w 10 t p)) with
  |true=>exact absurd hc hz
  |false=>rfl
theorem zeI {w:List Data} (hw:WT w){a k:Int}{p:Pat} (ht:TyIn w.length ⟨a,k⟩) (hok:p.ok):
  FnD Tryz.prog 89 [.d (zam w),.agg [.d (.i a),.d (.i k)],.agg [.d (.i p.op),.d (.i p.ctor),.d (.i p.n),.d (.i p.m),.d (.i p.var),.d (zaC p.kids)]] [] (.tup [.d (zcy (zc0 (zaL w 10 ⟨a,k⟩ p 0).1)),.d (.bool (isP w ⟨a,k⟩ p))]) []:=by
 rw[<-zsa];refine bd Tryz.f89 15 [] [] fun _ _ _ _ hk=>?_;refine bx 3004 ?_;refine bx 3005 ?_;refine ev (ab 950 tz3 ?_);refine so ty3 ?_;apply tv;refine wd zmd (zds hw 10 (c:=0) oe oe ht hok oe oe) I I ⟨I,O⟩ ?_;refine ev (rn0 (r2 I I) (.tup (qee ?_ ?_)));rotate_left 2;all_goals (rfl)
theorem zfv {w:List Data} (hw:WT w){a k:Int}{p:Pat} (ht:TyIn w.length ⟨a,k⟩) (hok:p.ok):
  FnD Tryz.prog 51 [.d (zam w),.agg [.d (.i a),.d (.i k)],.agg [.d (.i p.op),.d (.i p.ctor),.d (.i p.n),.d (.i p.m),.d (.i p.var),.d (zaC p.kids)]] [] (.d (.bool (isP w ⟨a,k⟩ p))) []:=by
 refine bd Tryz.f51 17 [] [] fun _ _ _ _ hk=>?_;refine bx 3004 ?_;refine bx 3005 ?_;refine ev (wc zqf (zeI hw ht hok) I I ?_);refine ev (rq ?_);rotate_left;all_goals (rfl)
set_option maxHeartbeats 2000000
mutual
def cntE (m:Int):Ex->Int
 | .mk _ _ _ ks=>zdL m 1 ks
def zdL (m n:Int):List Ex->Int
 | []=>n
 |k::r=>if n<=m then zdL m (n+cntE (m-n) k) r else n
end
theorem znY {m n:Int}{l:List Ex} (h:¬n<=m):zdL m n l=n:=by cases l<;>simp[zdL,h]
mutual
theorem znc:∀(v:Ex) (m:Int),1<=cntE m v/\cntE m v<=v.size
 | .mk _ _ _ ks,m=>by
  have:=zi7 ks m 1 oe;simp only[cntE,Ex.size];push_cast;omega
theorem zi7:∀(l:List Ex) (m n:Int),1<=n->1<=zdL m n l/\zdL m n l<=n+Exs.size l
 | [],m,n,h=>by simp[zdL,Exs.size];omega
 |k::r,m,n,h=>by
  have h1:=znc k (m-n);have h2:=zi7 r m (n+cntE (m-n) k) oe;simp only[zdL,Exs.size];split
  ·push_cast;omega
  ·push_cast;omega
end
mutual
theorem zpo:∀(v:Ex) (m:Int),(cntE m v<=m↔(v.size:Int)<=m)/\(cntE m v<=m->cntE m v=v.size)
 | .mk _ _ _ ks,m=>by
  have:=zk8 ks m 1;simp only[cntE,Ex.size];push_cast;exact this
theorem zk8:∀(l:List Ex) (m n:Int),(zdL m n l<=m↔n+(Exs.size l:Int)<=m)/\(zdL m n l<=m->zdL m n l=n+Exs.size l)
 | [],m,n=>by simp[zdL,Exs.size]
 |k::r,m,n=>by
  have h1:=zpo k (m-n);have h2:=zk8 r m (n+cntE (m-n) k);have h3:=zi7 r m (n+cntE (m-n) k);have h4:=znc k (m-n);simp only[zdL,Exs.size];push_cast
  by_cases hn:n<=m
  ·rw[if_pos hn];by_cases h5:cntE (m-n) k<=m-n
   ·have h6:=h1.2 h5;rw[h6] at h2 ⊢;constructor
    ·rw[h2.1];constructor<;>intro h<;>omega
    ·intro h;rw[h2.2 h];omega
   ·have h7:¬(k.size:Int)<=m-n:=fun h=>h5 (h1.1.2 h);have h8:¬n+cntE (m-n) k<=m:=by omega
    rw[znY h8];constructor
    ·constructor<;>intro h<;>omega
    ·intro h;omega
  ·rw[if_neg hn];constructor
   ·constructor<;>intro h<;>omega
   ·intro h;omega
end
def TyOk (n:Nat) (t:Ty):Prop:=TyIn n t/\(t.data = -1->t.index=0)
def gdOk (g:Gd) (vars:List Vt):Bool:=if g.op=0 then decide (g.var=0/\g.n=0) else decide (1<=g.op/\g.op<=2/\0<=g.n/\g.n<=9)&&decide ((⟨g.var,⟨-1,0⟩⟩:Vt)∈vars)
def zfn (w:List Data) (t:Ty) (p:Pat):List Vt:=zc0 (zaL w 10 t p 0).1
def clOk (w:List Data) (t:Ty) (c:Cl):Bool:=isP w t c.pat&&gdOk c.g (zfn w t c.pat)
def za8 (w:List Data) (t:Ty) (l:List Cl):Bool:=zaO w t&&(decide ((l.length:Int)<=8)&& !l.any fun c=> !clOk w t c)
def tyS (s:Nat):Ty:=⟨((s / 4:Nat):Int),((s % 4:Nat):Int)⟩
def zl0 (t:Ty):Nat:=t.data.toNat*4+t.index.toNat
def InS (n:Nat) (u:Ty):Prop:=u.data = -1\/(zl0 u<n/\tyS (zl0 u)=u)
def ClosedT (w:List Data):Prop:=∀s,s<w.length*4->∀c∈zdq w (tyS s),∀u∈zan w (tyS s) c,InS (w.length*4) u
section
variable {w:List Data}
def Bet (f g:Nat->Nat):Prop:=∀s,0<f s->0<g s/\g s<=f s
theorem Bet.refl (f:Nat->Nat):Bet f f:=fun s h=>⟨h,Nat.le_refl _⟩
theorem Bet.trans {f g h:Nat->Nat} (a:Bet f g) (b:Bet g h):Bet f h:=fun s hs=>⟨(b s (a s hs).1).1,Nat.le_trans (b s (a s hs).1).2 (a s hs).2⟩
end
theorem InS.facts {n:Nat}{a k:Int} (h:InS n ⟨a,k⟩) (ha:¬a = -1):zl0 ⟨a,k⟩<n/\a*4+k=(zl0 ⟨a,k⟩:Int)/\0<=a/\0<=k/\k<=3/\a<=n:=by
 rcases h with h|⟨h1,h2⟩
 ·exact absurd h ha
 ·have e1:=xam Ty.data h2;have e2:=xam Ty.index h2;simp only[tyS] at e1 e2;omega
structure Dp (w:List Data):Prop where
 wt:WT w
 cl:ClosedT w
 four:w.length<=4
 ct:∀s,s<w.length*4->(zdq w (tyS s)).length<=4
structure PKids (w:List Data) (n:Nat) (a k k':Int) (p:Pat):Prop where
 len5:p.op=5->p.kids.length=2
 len6:p.op=6->p.kids.length=1
 len4:p.op=4->p.kids.length=(zan w ⟨a,k⟩ p.ctor).length
 one:p.op=5\/p.op=6->zav w n ⟨a,k'⟩ (nth p.kids 0)=true
 two:p.op=5->zav w n ⟨a,k'⟩ (nth p.kids 1)=true
 arg:p.op=4->∀i,i<(zan w ⟨a,k⟩ p.ctor).length->zav w n ⟨(nth (zan w ⟨a,k⟩ p.ctor) i).data,(nth (zan w ⟨a,k'⟩ p.ctor) i).index⟩ (nth p.kids i)=true
 mem:p.op=4->p.ctor∈zaW w ⟨a,k'⟩
 ops:p.op=1\/p.op=2\/(p.op=3/\a = -1)\/p.op=4\/p.op=5\/p.op=6
theorem zcU {w:List Data}{a k:Int} (h:zaO w ⟨a,k⟩=true):zbu w=true/\TyIn w.length ⟨a,k⟩/\(a≠ -1->0<=a/\a.toNat<w.length/\0<=k/\k<=3):=by
 unfold zaO at h;rw[xad] at h;obtain⟨h1,h2⟩:=h;simp only[zdG,zaF,Bool.or_eq_true,xad,xah,and_true] at h2;refine⟨h1, ?_,fun ha=>by omega⟩;rcases h2 with h|h
 ·exact .inl h.1
 ·exact .inr ⟨a.toNat,by simp only;omega,by omega⟩
structure PVal (w:List Data) (a k:Int) (p:Pat):Prop where
 dp:Dp w
 tin:TyIn w.length ⟨a,k⟩
 shape:zav w 10 ⟨a,k⟩ p=true
 rng:a≠ -1->0<=a/\a.toNat<w.length/\0<=k/\k<=3
theorem zd6 {w:List Data}{a b:Int} (hs:WSmall w):FnD Tryz.prog 15 [.d (zam w),.agg [.d (.i a),.d (.i b)]] [] (.d (.bool (zaO w ⟨a,b⟩))) []:=by
 rw[<-zqT];exact ziZ hs
theorem zgO {xs:List Cl}{f:Nat}{caps:List AV}{hp:Hp}{p:Cl->Bool} (hs:xs.length<=1000000000000) (hcal:Callee Tryz.prog f)
  (hf:∀t∈xs,FnD Tryz.prog f ([.agg [.d (.i t.pat.op),.d (.i t.pat.ctor),.d (.i t.pat.n),.d (.i t.pat.m),.d (.i t.pat.var),.d (zaC t.pat.kids),.d (.i t.g.op),.d (.i t.g.var),.d (.i t.g.n)]]++caps) hp (.d (.bool (p t))) []) (k1:subH hp hp) (k2:zd0 hp=true) (k3:zas hp [] (.d .nilp) []=true):
  FnD Tryz.prog 90 [.d (zcx xs),.fn f caps] hp (.d (.i (idxF p xs 0))) []:=by
 refine bd Tryz.f90 19 [] [] fun _ _ _ _ hk=>?_;refine xaD (ι:=List (Cl)×List (Cl)) hk (fun x=>[(8,.d (.i (x.1.length:Int)))]) [4,5,9,10,11,12,13,14,15,16,17,18] (fun x=>[]) (fun x=>x.1++x.2=xs/\idxF p x.2 x.1.length=idxF p xs 0) (fun x=>x.2.length) ([],xs) ⟨by simp,I⟩ ⟨⟨_,I,xaT ?_⟩,O⟩ O (fun x=>zhb hp) (fun x hg1=>?_);focus (rfl)
 obtain⟨pre,rest⟩:=x;dsimp only at hg1 ⊢;refine evc [] [] ?_;apply sq<;>intro h1 h1p h1s<;>(try simp only[Q] at h1p);rcases rest with _|⟨y,rest⟩
 ·exfalso;simp_all
 refine ixq sl26 I I I (zbd hg1.1) I (ev (xbC (cr:=[]) hcal (hf y (by rw[<-hg1.1];simp)) I .none I I I (LeL.refl _) k1 k2 (zeU k3 _) I ?_));apply tv;apply sq<;>intro h2 h2p h2s<;>(try simp only[Q] at h2p);focus (refine rn [] (r1 I) (.eqd ?_) ⟨I,I⟩ (fun _ _ h=>h) (fun _ h=>h);all_goals (rw[<-hg1.2];simp[idxF,h1s,h1p,h2s,h2p]))
 refine ar (xaj ((pre++[y],rest)) ⟨⟨(by have hz:=hg1.1;rw[<-hz];simp),(by rw[<-hg1.2];simp[idxF,h2s])⟩,oh,Sub.x oj oj ⟨⟨_,I,xaT ?_⟩,O⟩ oh (by simp[zdn]) O⟩);focus ((simp;done))
 have hrest:rest=[]:=by
  rcases rest with _|⟨a,b⟩
  ·rfl
  ·exfalso;have hz:=xam List.length (hg1.1);simp only[xaa,xab,xac] at hz;omega
 subst hrest;focus (refine rn [] (r1 I) (.eqd ?_) ⟨I,I⟩ (fun _ _ h=>h) (fun _ h=>h);all_goals (rw[<-hg1.2];simp[idxF,h1s,h1p]))
theorem zfG {xs:List Cl}{f:Nat}{caps:List AV}{hp:Hp}{p:Cl->Bool} (hs:xs.length<=1000000000000) (hcal:Callee Tryz.prog f)
  (hf:∀t∈xs,FnD Tryz.prog f ([.agg [.d (.i t.pat.op),.d (.i t.pat.ctor),.d (.i t.pat.n),.d (.i t.pat.m),.d (.i t.pat.var),.d (zaC t.pat.kids),.d (.i t.g.op),.d (.i t.g.var),.d (.i t.g.n)]]++caps) hp (.d (.bool (p t))) []) (k1:subH hp hp) (k2:zd0 hp=true) (k3:zas hp [] (.d .nilp) []=true):
  FnD Tryz.prog 52 [.d (zcx xs),.fn f caps] hp (.d (.bool (xs.any p))) []:=by
 refine bd Tryz.f52 9 [] [] fun _ _ _ _ hk=>?_;refine Walk.call (cr:=[]) zrV (zgO hs hcal hf k1 k2 k3) I .none I I (LeL.refl _) k1 k2 (zeU k3 _) I (ev (rn [] (r1 I) (.eqd ?_) ⟨I,I⟩ (fun _ _ h=>h) (fun _ h=>h)));rotate_left;all_goals (exact xam D.bool (zeR p xs 0))
theorem zoi (w:List Data) (t:Ty) (p:Pat):(zfn w t p).length<=6:=(zeW w 10 t p 0).2
theorem zjT {g:Gd}{vars:List Vt} (hv:vars.length<=1000000000000):FnD Tryz.prog 91 [.agg [.d (.i g.op),.d (.i g.var),.d (.i g.n)],.d (zcy vars)] [] (.d (.bool (gdOk g vars))) []:=by
 refine bd Tryz.f91 27 [10] [] fun _ _ _ _ hk=>?_;refine bx 3002 ?_;refine evs [10] [] ?_;apply sq<;>intro h1 h1p h1s<;>(try simp only[Q,zaF] at h1p);refine bu [] [] st51 ?_;refine Walk.eqV eq51 .none I I I I I (evs [10] [] (rq ?_));rotate_left;refine wc ze1 zby I I ?_;refine evs [10] [] ?_;apply sq<;>intro h2 h2p h2s<;>(try simp only[Q,zaF] at h2p);refine Walk.call (cr:=[]) ze1 zby I (.some I I h2) I I (LeL.refl _) O I I I (evs [10] [(14,true)] ?_ ⟨⟨_,I,h2⟩,O⟩);apply sq<;>intro h3 h3p h3s<;>(try simp only[Q,zaF] at h3p);refine Walk.build st31 (ks:=[0]) (xs:=[_]) I I (.some I I h3) I I I (Walk.build zof (ks:=[0,1]) (xs:=[_,_]) I I (.some I I h3) I I I (Walk.call (cr:=[]) zok (zeg (v:=⟨g.var,⟨-1,0⟩⟩) hv) I (.some I I h3) I I (LeL.refl _) O I I I (evs [10] [(19,true)] ?_ ⟨⟨_,I,h3⟩,O⟩)));refine rq ?_;rotate_left;refine rq ?_;rotate_left;refine sqF ?_;refine rq ?_;rotate_left;all_goals (refine xam D.bool ?_;unfold gdOk;first|(rw[if_pos oe];simp_all;done)|(rw[if_neg oe];simp_all[zaF];done)|(rw[if_neg oe];simp_all[zaF];omega))
theorem zji {w:List Data} (hw:WT w){t:Ty}{c:Cl} (ht:TyIn w.length t) (hok:c.pat.ok):
  FnD Tryz.prog 54 [.d (zam w),.agg [.d (.i t.data),.d (.i t.index)],.agg [.d (.i c.pat.op),.d (.i c.pat.ctor),.d (.i c.pat.n),.d (.i c.pat.m),.d (.i c.pat.var),.d (zaC c.pat.kids),.d (.i c.g.op),.d (.i c.g.var),.d (.i c.g.n)]] [] (.d (.bool (clOk w t c))) []:=by
 have ht':TyIn w.length ⟨t.data,t.index⟩:=ht;have hvl:=zoi w t c.pat;refine bd Tryz.f54 24 [] [] fun _ _ _ _ hk=>?_;refine bx 3004 ?_;refine bx 3005 ?_;refine ev (wc zqf (zeI hw ht' hok) I I ?_);refine ev ?_;apply sq<;>intro h1 h1p h1s<;>(try simp only[Q] at h1p);refine Walk.call (cr:=[]) zrW (zjT (g:=c.g) (vars:=zfn w t c.pat) oe) I (.some I I h1) I I (LeL.refl _) O I I I ?_;refine evs [] [(18,true)] ?_ ⟨⟨_,I,h1⟩,O⟩;refine rq ?_;rotate_left;refine rq ?_;rotate_left;all_goals (refine xam D.bool ?_;unfold clOk;have hte:(⟨t.data,t.index⟩:Ty)=t:=rfl;(simp_all;done))
theorem zgL {w:List Data} (hw:WT w){a k:Int}{c:Cl} (ht:TyIn w.length ⟨a,k⟩) (hok:c.pat.ok):
  FnD Tryz.prog 53 [.agg [.d (.i c.pat.op),.d (.i c.pat.ctor),.d (.i c.pat.n),.d (.i c.pat.m),.d (.i c.pat.var),.d (zaC c.pat.kids),.d (.i c.g.op),.d (.i c.g.var),.d (.i c.g.n)],.ref 3003 0,.ref 3004 0] [(3003,some (.box [.d (zam w)])),(3004,some (.box [.d (.i a),.d (.i k)]))] (.d (.bool (!clOk w ⟨a,k⟩ c))) []:=by
 refine bd Tryz.f53 10 [] [] fun _ _ _ _ hk=>?_;refine bx 3901 ?_;refine ev (wc zrJ (zji (t:=⟨a,k⟩) (c:=c) hw ht hok) I I ?_);refine ev (rn [] (r1 I) (.eqd ?_) ⟨I,I⟩ (SubH.get ⟨I,⟨I,O⟩⟩) (fun _ h=>h));rotate_left;all_goals (rfl)
theorem zep {w:List Data} (hs:WSmall w){a k:Int}{l:List Cl} (hl:ClsOk l):
  FnD Tryz.prog 27 [.d (zam w),.agg [.d (.i a),.d (.i k)],.d (zcx l)] [] (.d (.bool (za8 w ⟨a,k⟩ l))) []:=by
 have hll:=hl.1;refine bd Tryz.f27 21 [] [] fun _ _ _ _ hk=>?_;refine bx 3003 ?_;refine bx 3004 ?_;refine ev (wc zjC (zdO hs) I I ?_);refine ev ?_;apply sq<;>intro h1 h1p h1s<;>(try simp only[Q] at h1p);apply sq<;>intro h2 h2p h2s<;>(try simp only[Q] at h2p);refine xbF (xs:=[_,_]) I (.some I I h2) I I (Walk.call (cr:=[]) zrH (zfG (p:=fun c=> !clOk w ⟨a,k⟩ c) hl.1 zrI (fun t htm=>zgL (zdH hs (zcU ol).1) (zcU ol).2.1 (hl.2 t htm)) ⟨I,I,O⟩ I I) I (.some I I h2) I I (LeL.refl _) ⟨I,I,O⟩ I I I ?_);refine evs [] [(15,true)] ?_ ⟨⟨_,I,h2⟩,O⟩;refine rq ?_;rotate_left;refine rq ?_;rotate_left;refine sqF ?_;refine rq ?_;rotate_left;all_goals (refine xam D.bool ?_;unfold za8;first|(simp_all;done)|(simp_all;omega))
def AZ (w:List Data):Prop:=∀t c,c∈zaW w t->TyIn w.length t->∀u∈zan w t c,u.data = -1->u.index=0
theorem zpO {w:List Data} (hv:zbu w=true):AZ w:=by
 have hW:=(zdb w).1 hv;rintro ⟨a,k⟩ c hc ht u hu hd
 obtain⟨d,rfl,h1,j,rfl,h3⟩:=zbw ht hc;have hco:=hW.ctor _ (zaq h1) _ (zaq h3);simp only[zbz,xad,xah,Bool.not_eq_true',List.any_eq_false,Bool.not_eq_false'] at hco;have hall:=hco.2.2.2;simp only[zan,Int.toNat_natCast] at hu;obtain⟨x,hx,rfl⟩:=List.mem_map.1 hu;have hxo:=hall x hx;simp only[zbM,zaF,Bool.or_eq_true,xad,xah,and_true,Bool.not_eq_true',Bool.not_eq_false] at hxo;unfold zcC at hd ⊢;split at hd
 ·rename_i hi;rw[if_pos hi];dsimp only at hd ⊢;omega
 ·rename_i hi;rw[if_neg hi];omega
theorem zpg {n:Nat}{t:Ty} (h:zdG n t=true):TyOk n t:=by
 refine⟨zpf h,fun hd=>?_⟩;simp only[zdG,zaF,Bool.or_eq_true,xad,xah,and_true] at h;omega
theorem zlD {w:List Data}{t:Ty}{p:Pat} (h:isP w t p=true):zfn w t p=zaJ w 10 t p:=by
 unfold isP at h;simp only[xad,xah] at h;have e:=(zeV w 10 t p 0).1;have hw:zbJ w 10 t p 0=true:=by
  unfold zbJ;rw[h.1,h.2.2,xax oe];rfl
 rw[if_pos hw] at e;unfold zfn;rw[e];rfl
theorem zph {w:List Data}{t:Ty}{p:Pat} (h:isP w t p=true):zcn (zaJ w 10 t p)=true:=by
 unfold isP at h;simp only[xad] at h;exact zgr w 10 t p h.1 h.2.2
theorem zm2 {w:List Data} (hw:WT w) (haz:AZ w):∀(n:Nat){t:Ty}{p:Pat},zav w n t p=true->TyOk w.length t->∀v∈zaJ w n t p,TyOk w.length v.ty
 |0,t,p,h,_=>by simp[zav] at h
 |n+1,t,p,h,ht=>by
  obtain⟨ho,hlen⟩:=zcc h;intro v hv;have hto:∀u∈zaf w t p,TyOk w.length u:=fun u hu=>by
   refine⟨zdf (a:=t.data) (k:=t.index) hw ht.1 ho u hu,fun hd=>?_⟩;unfold zaf at hu;split at hu
   ·rename_i h4;exact haz t p.ctor (zcz ho h4) ht.1 u hu hd
   ·split at hu
    ·simp only[List.mem_cons,xau,or_false,or_self] at hu;rw[hu] at hd ⊢;exact ht.2 hd
    ·split at hu
     ·simp only[List.mem_cons,xau,or_false] at hu;rw[hu] at hd ⊢;exact ht.2 hd
     ·simp at hu
  simp only[zaJ,List.mem_append] at hv;rcases hv with hv|hv
  ·unfold zaS at hv;split at hv
   ·simp only[List.mem_cons,xau,or_false] at hv;rw[hv];exact ht
   ·simp at hv
  ·have key:∀(a:List Ty) (b:List Pat),(∀i,i<a.length->i<b.length->∀v∈zaJ w n (nth a i) (nth b i),TyOk w.length v.ty)->∀v∈za7 (zaJ w n) a b,TyOk w.length v.ty:=by
    intro a;induction a with
    |nil=>intro b _ v hv;simp[za7] at hv
    |cons x r ih=>
     intro b h v hv;cases b with
     |nil=>simp[za7] at hv
     |cons y s=>
      simp only[za7,List.mem_append] at hv;rcases hv with hv|hv
      ·exact h 0 oh oh v hv
      ·exact ih s (fun i h1 h2=>h (i+1) (by simpa using h1) (by simpa using h2)) v hv
   refine key (zcB w t p) p.kids (fun i h1 h2=>?_) v hv;have hvt:i<(zaf w t p).length/\nth (zcB w t p) i=nth (zaf w t p) i:=by
    unfold zcB at h1 ⊢;split at h1
    ·rename_i h5;rw[if_pos h5];rw[List.length_take] at h1;refine⟨by omega, ?_⟩;have:i=0:=by omega
     subst this;cases hT:zaf w t p with
     |nil=>rfl
     |cons a b=>rfl
    ·rename_i h5;rw[if_neg h5];exact⟨h1,rfl⟩
   rw[hvt.2];exact zm2 hw haz n (zbC h oe) (hto _ (zaq hvt.1))
def gdS (g:Gd) (vars:List Vt):Bool:=if g.op=0 then decide (g.var=0/\g.n=0) else decide (1<=g.op/\g.op<=2/\0<=g.n/\g.n<=9)&&(decide (0<=zbA vars g.var)&&decide ((nth vars (zbA vars g.var).toNat).ty.data = -1))
theorem zrl {n:Nat}{g:Gd}{vars:List Vt} (hn:zcn vars=true) (hv:∀v∈vars,TyOk n v.ty):gdS g vars=gdOk g vars:=by
 unfold gdS gdOk;split
 ·rfl
 ·congr 1
  have hnod:=xas hn;rw[xat];simp only[xad,xah];constructor
  ·rintro ⟨h1,h2⟩
   rcases zem vars g.var with ⟨h3,_⟩|⟨k,h3,h4,h5,_⟩
   ·omega
   ·rw[h3] at h2;simp only[Int.toNat_natCast] at h2;have hm:=zaq h4;have ho:=(hv _ hm).2 h2;have:nth vars k=⟨g.var,⟨-1,0⟩⟩:=by
     generalize nth vars k=z at *;obtain⟨zv,⟨za,zk⟩⟩:=z;dsimp only at h5 h2 ho;rw[h5,h2,ho]
    rw[<-this];exact hm
  ·intro hm;rcases zem vars g.var with ⟨_,h4⟩|⟨k,h3,h4,h5,_⟩
   ·exact absurd I (h4 _ hm)
   ·refine⟨by omega, ?_⟩;rw[h3];simp only[Int.toNat_natCast];obtain⟨j,hj,e⟩:=List.getElem_of_mem hm;have ej:nth vars j=⟨g.var,⟨-1,0⟩⟩:=by simp[nth,List.getD,hj,e]
    have:k=j:=zid hnod h4 hj (by rw[h5,ej]);rw[this,ej]
theorem zkn {g:Gd}{vars:List Vt} (hv:vars.length<=1000000000000):FnD Tryz.prog 68 [.agg [.d (.i g.op),.d (.i g.var),.d (.i g.n)],.d (zcy vars)] [] (.d (.bool (gdS g vars))) []:=by
 have hlt:=fun h=>zje (l:=vars) (n:=g.var) h;refine bd Tryz.f68 50 [] [3] fun _ _ _ _ hk=>?_;refine bx 3002 ?_;refine ev ?_;apply sq<;>intro h1 h1p h1s<;>(try simp only[Q] at h1p);apply sq<;>intro h2 h2p h2s<;>(try simp only[Q] at h2p);refine rq ?_;rotate_left;refine rq ?_;rotate_left;refine xaG (xbt 18 [(34,.d (.bool (decide (¬(1<=g.op/\g.op<=2/\0<=g.n/\g.n<=9)))))] [17,18,19,20,21,22,23,24,25,26,27,28,29,30,31,32,33] ?_ ?_);refine ev ?_;apply sq<;>intro h3 h3p h3s<;>(try simp only[Q] at h3p);apply sq<;>intro h4 h4p h4s<;>(try simp only[Q] at h4p);refine sqT ?_;focus (exact jn I (xaS (by((rw[xat];simp_all;omega)))))
 apply sq<;>intro h5 h5p h5s<;>(try simp only[Q] at h5p);focus (exact jn I (xaS (by((rw[xat];simp_all;done)))))
 focus (exact jn I (xaS (by((rw[xat];simp_all;done)))))
 refine sqF ?_;apply sq<;>intro h6 h6p h6s<;>(try simp only[Q] at h6p);focus (exact jn I (xaS (by((rw[xat];simp_all;done)))))
 focus (exact jn I (xaS (by((rw[xat];simp_all;done)))))
 refine xbs ?_;apply tv;apply sq<;>intro h7 h7p h7s<;>(try simp only[Q] at h7p);refine rq ?_;rotate_left;refine wc zmb (zeY hv) I I ?_;refine ev ?_;apply sq<;>intro h8 h8p h8s<;>(try simp only[Q] at h8p);refine xbL (i:=(zbA vars g.var).toNat) zcZ (.some I I h8) I I I (by have:=hlt oe;omega) (zau (by have:=hlt oe;omega)) I ?_;refine evs [] [(41,true)] ?_ ⟨⟨_,I,h8⟩,O⟩;refine rq ?_;rotate_left;refine rq ?_;rotate_left;all_goals (refine xam D.bool ?_;unfold gdS;first|(rw[if_pos oe];simp_all;done)|(rw[if_neg oe,xaw oe,Bool.false_and];done)|(rw[if_neg oe,xax oe,Bool.true_and,xaw oe,Bool.false_and];done)|(rw[if_neg oe];simp_all;done))
theorem zmV {w:List Data} (hw:WT w) (haz:AZ w){t:Ty}{c:Cl} (ht:TyOk w.length t) (hok:c.pat.ok) (hsz:c.pat.size<=1000000000000):
  FnD Tryz.prog 43 [.d (zam w),.agg [.d (.i t.data),.d (.i t.index)],.agg [.d (.i c.pat.op),.d (.i c.pat.ctor),.d (.i c.pat.n),.d (.i c.pat.m),.d (.i c.pat.var),.d (zaC c.pat.kids),.d (.i c.g.op),.d (.i c.g.var),.d (.i c.g.n)]] [] (.d (.bool (clOk w t c))) []:=by
 have ht':TyIn w.length ⟨t.data,t.index⟩:=ht.1;have hcl:clOk w t c=(isP w t c.pat&&gdOk c.g (zfn w t c.pat)):=rfl;cases hp:isP w t c.pat with
 |false=>
  have hpi:=zit hw ht' hok hsz;have hpi':FnD Tryz.prog 67 [.d (zam w),.agg [.d (.i t.data),.d (.i t.index)],.agg [.d (.i c.pat.op),.d (.i c.pat.ctor),.d (.i c.pat.n),.d (.i c.pat.m),.d (.i c.pat.var),.d (zaC c.pat.kids)]] [] (.d (.bool false)) []:=by rw[<-hp];exact hpi
  rw[hcl,hp,Bool.false_and];refine bd Tryz.f43 22 [] [] fun _ _ _ _ hk=>?_;refine bx 3004 ?_;refine bx 3005 ?_;refine ev (wc zqc hpi' I I ?_);refine evd [] [] ?_;apply sq<;>intro h1 h1p h1s<;>(try simp only[Q] at h1p);exfalso;contradiction;refine dr (rq ?_);rotate_left;all_goals (rfl)
 |true=>
  have hpi:=zit hw ht' hok hsz;have hpi':FnD Tryz.prog 67 [.d (zam w),.agg [.d (.i t.data),.d (.i t.index)],.agg [.d (.i c.pat.op),.d (.i c.pat.ctor),.d (.i c.pat.n),.d (.i c.pat.m),.d (.i c.pat.var),.d (zaC c.pat.kids)]] [] (.d (.bool true)) []:=by rw[<-hp];exact hpi
  have hsh:zav w 10 ⟨t.data,t.index⟩ c.pat=true:=by
   have:=hp;unfold isP at this;simp only[xad] at this;exact this.1
  have hvl:=zdI w 10 ⟨t.data,t.index⟩ c.pat;have hge:=zrl (g:=c.g) (zph hp) (zm2 hw haz 10 hsh ht);have hge':gdS c.g (zaJ w 10 ⟨t.data,t.index⟩ c.pat)=gdOk c.g (zfn w t c.pat):=by rw[zlD hp];exact hge
  rw[hcl,hp,Bool.true_and,<-hge'];refine bd Tryz.f43 22 [] [] fun _ _ _ _ hk=>?_;refine bx 3004 ?_;refine bx 3005 ?_;refine ev (wc zqc hpi' I I ?_);refine evd [] [] ?_;apply sq<;>intro h1 h1p h1s<;>(try simp only[Q] at h1p);refine Walk.call (cr:=[]) ziz (zdz hw hsh oe ht' hok hsz) I (.some I I h1) I I (LeL.refl _) O I I I ?_;refine Walk.call (cr:=[]) zrR (zkn (g:=c.g) oe) I (.some I I h1) I I (LeL.refl _) O I I I ?_;refine evd [] [(12,true)] ?_ ⟨⟨_,I,h1⟩,O⟩;refine dr (rq ?_);rotate_left;exfalso;contradiction;all_goals (rfl)
def ClsSz (l:List Cl):Prop:=∀c∈l,c.pat.size<=1000000000000
theorem zsc {w:List Data}{t:Ty} (h:zaO w t=true):TyOk w.length t:=by
 unfold zaO at h;rw[xad] at h;exact zpg h.2
theorem zrf {w:List Data}{t:Ty}{l:List Cl}{i:Nat} (hi:i<l.length) (h:clOk w t (nth l i)=false):za8 w t l=false:=by
 unfold za8;have:l.any (fun c=> !clOk w t c)=true:=List.any_eq_true.2 ⟨nth l i,zaq hi,by rw[h];rfl⟩;rw[this];simp
theorem zqA {w:List Data}{t:Ty}{l:List Cl} (ht:zaO w t=true) (hl:l.length<=8) (h:∀i,i<l.length->clOk w t (nth l i)=true):za8 w t l=true:=by
 unfold za8;rw[ht,xax oe,Bool.true_and,Bool.true_and,Bool.not_eq_true',List.any_eq_false];intro c hc;obtain⟨i,hi,rfl⟩:=List.getElem_of_mem hc;have:=h i hi;simp only[nth,List.getD,xan hi,Option.getD_some] at this;simp[this]
theorem zqB {w:List Data}{t:Ty}{l:List Cl} (h:8<l.length):za8 w t l=false:=by
 unfold za8;rw[xaw oe,Bool.false_and,Bool.and_false]
theorem zrg {w:List Data}{t:Ty}{l:List Cl} (h:zaO w t=false):za8 w t l=false:=by
 unfold za8;rw[h,Bool.false_and]
theorem zk7 {w:List Data}{t:Ty}{l:List Cl} (h:za8 w t l=true):zaO w t=true/\l.length<=8/\∀i,i<l.length->clOk w t (nth l i)=true:=by
 unfold za8 at h;simp only[xad,xah,Bool.not_eq_true',List.any_eq_false,Bool.not_eq_false'] at h;refine⟨h.1,by omega,fun i hi=>?_⟩;simpa using h.2.2 _ (zaq hi)
theorem zfe {w:List Data}{t:Ty}{c:Cl} (h:clOk w t c=true):isP w t c.pat=true/\zav w 10 t c.pat=true/\zaJ w 10 t c.pat=zfn w t c.pat:=by
 unfold clOk at h;rw[xad] at h;refine⟨h.1, ?_,(zlD h.1).symm⟩;have:=h.1;unfold isP at this;simp only[xad] at this;exact this.1
theorem zhu {w:List Data} (hs:WSmall w){a k:Int}{l:List Cl} (hl:ClsOk l) (hz:ClsSz l):
  FnD Tryz.prog 19 [.d (zam w),.agg [.d (.i a),.d (.i k)],.d (zcx l)] [] (.d (.bool (za8 w ⟨a,k⟩ l))) []:=by
 have hll:=hl.1;refine bd Tryz.f19 31 [] [] fun _ _ _ _ hk=>?_;refine bx 3004 ?_;refine ev (wc znP (zd6 hs) I I ?_);refine ev ?_;apply sq<;>intro h1 h1p h1s;refine sqT ?_;refine rq ?_;rotate_left;apply sq<;>intro h3 h3p h3s<;>(try simp only[Q,xal] at h3p);refine rq ?_;rotate_left;refine xaD (ι:=Nat) hk (fun i=>[(7,.d (.i (i:Int)))]) [6,17,18,19,20,21,22,23,24,25,26,27,28,29,30] (fun i=>[]) (fun i=>i<=l.length/\∀i',i'<i->clOk w ⟨a,k⟩ (nth l i')=true) (fun i=>l.length-i) 0 ⟨by omega,fun _ h=>absurd h oe⟩ ⟨⟨_,I,xaT ?_⟩,O⟩ O (fun x=>rfl) (fun i hg1=>?_);focus (rfl)
 refine evc [] [] ?_;apply sq<;>intro h4 h4p h4s<;>(try simp only[Q,xal] at h4p);refine ixq sl26 I I I (zau oe) I ?_;refine evd [] [] (wc zrC (zmV (t:=⟨a,k⟩) (c:=nth l i) (zdH hs (zcU ol).1) (zpO (zcU ol).1) (zsc ol) (hl.2 _ (zaq oe)) (hz _ (zaq oe))) I I ?_);refine evd [] [] (dr ?_);apply sq<;>intro h5 h5p h5s<;>(try simp only[Q,xal] at h5p);refine rq ?_;rotate_left;refine ar (xaj (i+1) ⟨⟨by omega,za0 hg1.2 ol⟩,oe,sx ⟨⟨_,I,xaT ?_⟩,O⟩ O⟩);focus (rfl)
 refine rq ?_;rotate_left;all_goals (refine xam D.bool ?_;first|(rw[zrg ol];done)|(rw[zqB oe];done)|(rw[zrf (i:=i) oe ol];done)|(rw[zqA ol oe (fun x hx=>hg1.2 x oe)];done))
def zbv (s:Str) (a:Int) (c:UInt8):Bool:=decide (0<=a)&&(decide (a<(s.length:Int))&&decide (nth s a.toNat=c))
theorem zgw {s:Str}{a:Int}{c:UInt8} (h:zbv s a c=true):0<=a/\a<(s.length:Int):=by
 unfold zbv at h;simp only[xad,xah] at h;exact⟨h.1,h.2.1⟩
theorem zaQ {s:Str}{a:Int}{c:UInt8} (hs:s.length<=1000000000000):FnD Tryz.prog 39 [.d (.str s),.d (.i a),.d (.int .u8 (c.toNat:Int))] [] (.d (.bool (zbv s a c))) []:=by
 by_cases h0:0<=a
 ·obtain⟨n,rfl⟩:=Int.eq_ofNat_of_zero_le h0;refine bd Tryz.f39 22 [] [] fun _ _ _ _ hk=>?_;apply sq<;>intro h1 h1p h1s;apply sq<;>intro h2 h2p h2s;try simp only[Q,zqw] at h2p
  refine xbO un9 (.some I I h2) I I I I (zaZ oe) ?_;refine evs [] [(15,true)] ?_ ⟨⟨_,I,h2⟩,O⟩;refine rq ?_;rotate_left;refine rq ?_;rotate_left;refine sqF ?_;refine rq ?_;rotate_left;all_goals (refine xam D.bool ?_;unfold zbv;rw[show decide (nth s ((n:Int)).toNat=c)=decide (((nth s n).toNat:Int)=(c.toNat:Int)) from by rw[decide_eq_decide];exact zqw.symm];first|(simp_all;done)|(simp_all;omega))
 ·have hv:zbv s a c=false:=by unfold zbv;rw[xaw h0];rfl
  rw[hv];refine bd Tryz.f39 22 [] [] fun _ _ _ _ hk=>?_;apply sq<;>intro h1 h1p h1s;exfalso;first|omega|(simp at h1p;omega)
  refine sqF ?_;refine rq ?_;rotate_left;all_goals (first|rfl|(simp_all;done))
def lowL:Str->Nat
 | []=>0
 |x::r=>if zaN x=true then lowL r+1 else 0
def zaA:Str->Nat
 | []=>0
 |x::r=>if zbc x=true then lowL r+1 else 0
theorem znn:∀s:Str,lowL s<=s.length
 | []=>Nat.le_refl _
 |x::r=>by
  have:=znn r;show(if zaN x=true then lowL r+1 else 0)<=_
  split<;>simp<;>omega
theorem zf5:∀s:Str,zaA s<=s.length
 | []=>Nat.le_refl _
 |x::r=>by
  have:=znn r;show(if zbc x=true then lowL r+1 else 0)<=_
  split<;>simp<;>omega
def zbB (s:Str) (n:Nat):Str:=(s.drop n).take (zaA (s.drop n))
theorem zll {s:Str}{n e:Nat} (hn:n<=e) (he:e<s.length) (hg:(if e=n then n+zaA (s.drop n) else e+lowL (s.drop e))=n+zaA (s.drop n))
  (hc:(e=n/\zbc (nth s e)=true)\/(n<e/\zaN (nth s e)=true)):(if e+1=n then n+zaA (s.drop n) else e+1+lowL (s.drop (e+1)))=n+zaA (s.drop n):=by
 rw[if_neg oe];have hd:s.drop e=nth s e::s.drop (e+1):=zbm he;rcases hc with ⟨rfl,h⟩|⟨h1,h⟩
 ·rw[hd,zaA,if_pos h];omega
 ·rw[if_neg oe,hd,lowL,if_pos h] at hg;omega
theorem zlm {s:Str}{n e:Nat} (hn:n<=e) (he:e<=s.length) (hg:(if e=n then n+zaA (s.drop n) else e+lowL (s.drop e))=n+zaA (s.drop n))
  (hc:e=s.length\/(e=n/\zbc (nth s e)=false)\/(n<e/\zaN (nth s e)=false)):e=n+zaA (s.drop n):=by
 by_cases hl:e=s.length
 ·subst hl;by_cases hen:s.length=n
  ·subst hen;rw[List.drop_length];simp[zaA]
  ·rw[if_neg hen,List.drop_length] at hg;simpa [lowL] using hg
 ·have hd:s.drop e=nth s e::s.drop (e+1):=zbm oe;rcases hc with h|⟨rfl,h⟩|⟨h1,h⟩
  ·exact absurd h hl
  ·rw[hd,zaA,if_neg (by rw[h];simp)];omega
  ·rw[if_neg oe,hd,lowL,if_neg (by rw[h];simp)] at hg;omega
theorem zbo {s:Str}{n:Nat} (hs:s.length<=1000000000000) (hn:n<=s.length):FnD Tryz.prog 40 [.d (.str s),.d (.i n)] [] (.tup [.d (.str (zbB s n)),.d (.i ((n+zaA (s.drop n):Nat):Int))]) []:=by
 have hle:=zf5 (s.drop n);rw[List.length_drop] at hle;have hstop:=fun(e:Nat)=>zlm (s:=s) (n:=n) (e:=e);have hstep:=fun(e:Nat)=>zll (s:=s) (n:=n) (e:=e);refine bd Tryz.f40 47 [] [] fun _ _ _ _ hk=>?_;refine xaD (ι:=Nat) hk (fun e=>[(6,.d (.i (e:Int)))]) [8,9,10,11,12,13,14,15,16,17,18,19,20,21,22,23,24,25,26,27,28,29,30,31,32,33,34,35,36,37,38,39,40,41] (fun e=>[]) (fun e=>n<=e/\e<=s.length/\(if e=n then n+zaA (s.drop n) else e+lowL (s.drop e))=n+zaA (s.drop n)) (fun e=>s.length-e) n ⟨Nat.le_refl _,hn,by rw[if_pos rfl]⟩ ⟨⟨_,I,xaT ?_⟩,O⟩ O (fun x=>rfl) (fun e hg1=>?_);focus (first|rfl|(simp;done)|omega)
 refine evc [] [] ?_;apply sq<;>intro h1 h1p h1s<;>(try simp only[Q,xal] at h1p);apply sq<;>intro h2 h2p h2s<;>(try simp only[Q,xal] at h2p);refine xbO un9 (.some I I h2) I I I I (zaZ oe) ?_;refine Walk.call (cr:=[]) znS (zft (n:=((nth s e).toNat:Int))) I (.some I I h2) I I (LeL.refl _) O I I I (evs [] [(12,true),(16,true)] ?_ ⟨⟨_,I,h1⟩,⟨_,I,h2⟩,O⟩);apply sq<;>intro h3 h3p h3s;try simp only[Q,xal] at h3p
 refine sqT ?_;refine ar (xaj (e+1) ⟨⟨by omega,by omega,hstep e hg1.1 oe hg1.2.2 (by exact .inl ⟨by omega,by assumption⟩)⟩,oe,sx ⟨⟨_,I,xaT ?_⟩,O⟩ O⟩);focus (first|rfl|(simp;done)|omega)
 apply sq<;>intro h5 h5p h5s;try simp only[Q,xal] at h5p
 refine xbO un9 (.some I I h5) I I I I (zaZ oe) ?_;refine evs [] [(12,true),(22,false),(26,true)] ?_ ⟨⟨_,I,h1⟩,⟨_,I,h3⟩,⟨_,I,h5⟩,O⟩;apply sq<;>intro h6 h6p h6s;try simp only[Q,xal] at h6p
 refine xbO un9 (.some I I h6) I I I I (zaZ oe) ?_;refine evs [] [(12,true),(22,false),(32,true)] ?_ ⟨⟨_,I,h1⟩,⟨_,I,h3⟩,⟨_,I,h6⟩,O⟩;apply sq<;>intro h7 h7p h7s;try simp only[Q,xal] at h7p
 refine ar (xaj (e+1) ⟨⟨by omega,by omega,hstep e hg1.1 oe hg1.2.2 (by exact .inr ⟨by omega,by unfold zaN;rw[xad,xah,xah];omega⟩)⟩,oe,sx ⟨⟨_,I,xaT ?_⟩,O⟩ O⟩);focus (first|rfl|(simp;done)|omega)
 refine xbJ un9 .none I I I I I I oe oe ?_;refine ev (rn0 (r2 I I) (.tup (qee ?_ ?_)));rotate_left 2;refine sqF ?_;refine xbJ un9 .none I I I I I I oe oe ?_;refine ev (rn0 (r2 I I) (.tup (qee ?_ ?_)));rotate_left 2;refine sqF ?_;refine sqF ?_;refine xbJ un9 .none I I I I I I oe oe ?_;refine ev (rn0 (r2 I I) (.tup (qee ?_ ?_)));rotate_left 2;refine sqF ?_;apply sq<;>intro h10 h10p h10s<;>(try simp only[Q,xal] at h10p);refine xbO un9 (.some I I h10) I I I I (zaZ oe) ?_;refine evs [] [(12,true),(22,false),(26,true)] ?_ ⟨⟨_,I,h1⟩,⟨_,I,I⟩,⟨_,I,h10⟩,O⟩;apply sq<;>intro h11 h11p h11s<;>(try simp only[Q,xal] at h11p);refine xbO un9 (.some I I h11) I I I I (zaZ oe) ?_;refine evs [] [(12,true),(22,false),(32,true)] ?_ ⟨⟨_,I,h1⟩,⟨_,I,I⟩,⟨_,I,h11⟩,O⟩;apply sq<;>intro h12 h12p h12s<;>(try simp only[Q,xal] at h12p);refine ar (xaj (e+1) ⟨⟨by omega,by omega,hstep e hg1.1 oe hg1.2.2 (by exact .inr ⟨by omega,by unfold zaN;rw[xad,xah,xah];omega⟩)⟩,oe,sx ⟨⟨_,I,xaT ?_⟩,O⟩ O⟩);focus (first|rfl|(simp;done)|omega)
 refine xbJ un9 .none I I I I I I oe oe ?_;refine ev (rn0 (r2 I I) (.tup (qee ?_ ?_)));rotate_left 2;refine sqF ?_;refine xbJ un9 .none I I I I I I oe oe ?_;refine ev (rn0 (r2 I I) (.tup (qee ?_ ?_)));rotate_left 2;refine sqF ?_;refine sqF ?_;refine xbJ un9 .none I I I I I I oe oe ?_;refine ev (rn0 (r2 I I) (.tup (qee ?_ ?_)));rotate_left 2;refine sqF ?_;refine xbJ un9 .none I I I I I I oe oe ?_;refine ev (rn0 (r2 I I) (.tup (qee ?_ ?_)));rotate_left 2;all_goals (have hE:=hstop e hg1.1 hg1.2.1 hg1.2.2 (by first|exact .inl oe|exact .inr (.inl ⟨by omega,by assumption⟩)|exact .inr (.inr ⟨by omega,by unfold zaN;rw[Bool.and_eq_false_iff,decide_eq_false_iff_not,decide_eq_false_iff_not];omega⟩));first|(rw[<-hE];done)|(unfold zbB;rw[show e-n=zaA (s.drop n) by omega];done)|(unfold zbB;rw[<-zjc,show e-n=zaA (s.drop n) by omega];done))
structure Rd where
 s:List UInt8
 bad:Bool
abbrev rdC (w:List Data) (r:Rd):List AV:=[.d (zam w),.d (.str r.s),.d (.bool r.bad)]
def zaw (r:Rd):UInt8:=if r.bad=true\/r.s=[] then 0 else nth r.s 0
def oneR (r:Rd):Rd:=if zaw r=0 then ⟨r.s,true⟩ else ⟨r.s.tail,r.bad⟩
def zaP (r:Rd) (b:UInt8):Rd:=⟨(oneR r).s,decide (zaw r≠b)||(oneR r).bad⟩
theorem zeb {r:Rd} (h:r.bad=true\/r.s=[]):zaw r=0:=if_pos h
theorem zkQ {r:Rd} (h:¬(r.bad=true\/r.s=[])):zaw r=nth r.s 0:=if_neg h
def digR (r:Rd):Rd:=if zaw r<48\/57<zaw r then ⟨(oneR r).s,true⟩ else oneR r
def zcX (r:Rd):Int:=if zaw r<48\/57<zaw r then 0 else (((zaw r).toNat-48:Nat):Int)
theorem za2 {w:List Data}{r:Rd}:FnD Tryz.prog 80 [.ref 901 0] [(901,some (.box (rdC w r)))] (.d (.int .u8 ((zaw r).toNat:Int))) []:=by
 have q0:=fun h=>zeb (r:=r) h;have q1:=fun h=>zkQ (r:=r) h;refine bd Tryz.f80 19 [] [] fun _ _ _ _ hk=>?_;apply sq<;>intro h1 h1p h1s<;>(try simp only[Q] at h1p);refine sqT ?_;refine rn [] (r1 I) (.eqd ?_) ⟨I,I⟩ (SubH.get ⟨I,O⟩) (fun _ h=>h);rotate_left;apply sq<;>intro h3 h3p h3s<;>(try simp only[Q] at h3p);refine rn [] (r1 I) (.eqd ?_) ⟨I,I⟩ (SubH.get ⟨I,O⟩) (fun _ h=>h);rotate_left;refine xbO (i:=0) un9 .none I I I I (zaZ (i:=0) (by have:r.s≠[]:=o8;exact List.length_pos_iff.2 this)) ?_;refine ev (rn [] (r1 I) (.eqd ?_) ⟨I,I⟩ (SubH.get ⟨I,O⟩) (fun _ h=>h));rotate_left;all_goals (first|(rw[q0 o8];rfl)|(rw[q1 o8];done)|(rw[q1 o8];rfl))
theorem zoS {r:Rd} (h:zaw r=0):oneR r=⟨r.s,true⟩:=if_pos h
theorem zoT {r:Rd} (h:¬zaw r=0):oneR r=⟨r.s.tail,r.bad⟩:=if_neg h
theorem u8_0 {b:UInt8}:((b.toNat:Int)=0)↔b=0:=by
 constructor
 ·intro h;have:b.toNat=0:=by omega
  exact UInt8.toNat_inj.1 this
 ·intro h;subst h;rfl
theorem zaE {w:List Data}{r:Rd}:FnD Tryz.prog 81 [.ref 901 0] [(901,some (.box (rdC w r)))] (.d (.int .u8 ((zaw r).toNat:Int))) [(901,some (.box (rdC w (oneR r))))]:=by
 have q0:=fun h=>zoS (r:=r) h;have q1:=fun h=>zoT (r:=r) h;have q2:¬zaw r=0->1<=r.s.length:=fun h=>by
  cases hs:r.s with
  |nil=>exact absurd (zeb (.inr hs)) h
  |cons x l=>simp
 refine bd Tryz.f81 20 [] [] fun _ _ _ _ hk=>?_;refine wd zei za2 I I ⟨I,O⟩ ?_;refine ev ?_;apply sq<;>intro h1 h1p h1s<;>(try simp only[Q,u8_0] at h1p);refine so ty4 ?_;apply tv;refine rn [(901,some (.box (rdC w (oneR r))))] (r1 I) (.eqd ?_) ⟨I,I⟩ (SubO.get ⟨.inr ?_,⟨.inl I,O⟩⟩) (zao I);rotate_left 2;refine xbI (b:=1) un9 .none I I I I (by first|omega|(simp;omega)|(have:=q2 ol;simp;omega)) ?_;refine ev (so ty9 ?_);apply tv;refine rn [(901,some (.box (rdC w (oneR r))))] (r1 I) (.eqd ?_) ⟨I,I⟩ (SubO.get ⟨.inr ?_,⟨.inl I,O⟩⟩) (zao I);rotate_left 2;all_goals (first|((first|rfl|(rw[show zaw r=0 by assumption];rfl));done)|(first|(rw[q0 ol];rfl)|(rw[q1 ol];simp[rdC];rfl)))
theorem zaz {w:List Data}{r:Rd}{b:UInt8}:FnD Tryz.prog 84 [.ref 901 0,.d (.int .u8 (b.toNat:Int))] [(901,some (.box (rdC w r)))] (.tup []) [(901,some (.box (rdC w (zaP r b))))]:=by
 refine bd Tryz.f84 17 [] [] fun _ _ _ _ hk=>?_;refine wd zcf zaE I I ⟨I,O⟩ ?_;refine ev ?_;apply sq<;>intro h1 h1p h1s<;>(try simp only[Q] at h1p);refine so ty4 ?_;apply tv;refine rn [(901,some (.box (rdC w (zaP r b))))] .nil (.refl _) ⟨I,I⟩ (SubO.get ⟨.inr ?_,⟨.inl I,O⟩⟩) (zao I);rotate_left;refine so ty4 ?_;apply tv;refine rn [(901,some (.box (rdC w (zaP r b))))] .nil (.refl _) ⟨I,I⟩ (SubO.get ⟨.inr ?_,⟨.inl I,O⟩⟩) (zao I);rotate_left;all_goals (first|((rfl);done)|(show some (Res.box [_,_,_])=some (Res.box [_,_,_]);unfold zaP;first|rfl|(simp_all;done)|(simp_all[UInt8.toNat_inj,xal];done)))
theorem rdW {n:Nat} (h:48<=n) (h2:n<2 ^ 8):IntKind.i64.wrap (IntKind.u8.wrap ((n:Int)-48))=((n-48:Nat):Int):=by
 have e:((n:Int)-48)=((n-48:Nat):Int):=by omega
 have h3:IntKind.u8.wrap ((n-48:Nat):Int)=((n-48:Nat):Int):=by
  unfold IntKind.wrap;simp only[IntKind.signed,IntKind.bits];simp;omega
 rw[e,h3,zdl ⟨by omega,by omega⟩]
theorem zou {r:Rd} (h:(zaw r).toNat<48\/57<(zaw r).toNat):digR r=⟨(oneR r).s,true⟩/\zcX r=0:=by
 have h':zaw r<48\/57<zaw r:=h;exact⟨if_pos h',if_pos h'⟩
theorem zov {r:Rd} (h:¬((zaw r).toNat<48\/57<(zaw r).toNat)):digR r=oneR r/\zcX r=(((zaw r).toNat-48:Nat):Int):=by
 have h':¬(zaw r<48\/57<zaw r):=h;exact⟨if_neg h',if_neg h'⟩
theorem o9{p:Prop}(h:p:=by rw[un5];rfl):p:=h
theorem zbp {w:List Data}{r:Rd}:FnD Tryz.prog 83 [.ref 901 0] [(901,some (.box (rdC w r)))] (.d (.i (zcX r))) [(901,some (.box (rdC w (digR r))))]:=by
 have q0:=fun h=>zou (r:=r) h;have q1:=fun h=>zov (r:=r) h;have q2:=(zaw r).toNat_lt;refine bd Tryz.f83 18 [16] [] fun _ _ _ _ hk=>?_;refine wd zcf zaE I I ⟨I,O⟩ ?_;refine evs [16] [] ?_;apply sq<;>intro h1 h1p h1s<;>(try simp only[Q] at h1p);refine sqT ?_;refine so ty4 ?_;apply tv;refine rn [(901,some (.box (rdC w (digR r))))] (r1 I) (.eqd ?_) ⟨I,I⟩ (SubO.get ⟨.inr ?_,⟨.inl I,O⟩⟩) (zao I);rotate_left 2;apply sq<;>intro h3 h3p h3s<;>(try simp only[Q] at h3p);refine so ty4 ?_;apply tv;refine rn [(901,some (.box (rdC w (digR r))))] (r1 I) (.eqd ?_) ⟨I,I⟩ (SubO.get ⟨.inr ?_,⟨.inl I,O⟩⟩) (zao I);rotate_left 2;refine xb7 .none I I I (xbG o9 un3 .none I I ?_);refine evs [16] [] (rn [(901,some (.box (rdC w (digR r))))] (r1 I) (.eqd ?_) ⟨I,I⟩ (SubO.get ⟨.inr ?_,⟨.inl I,O⟩⟩) (zao I));rotate_left 2;all_goals (first|((first|(rw[(q0 oe).1];rfl)|(rw[(q1 oe).1];rfl)|(rw[(q0 oe).2];all_goals rfl)|(rw[(q1 oe).2,rdW oe q2];all_goals rfl));done)|(first|(rw[(q0 oe).1];rfl)|(rw[(q1 oe).1];rfl)|(rw[(q0 oe).2];all_goals rfl)|(rw[(q1 oe).2,rdW oe q2];all_goals rfl)))
mutual
theorem zoh:∀v:Val,zog v v=true
 | .mk _ _ ks=>by simp[zog,zi6 ks]
theorem zi6:∀l:List Val,zku l l=true
 | []=>rfl
 |v::r=>by simp[zku,zoh v,zi6 r]
end
theorem Val.c_len (v:Val):v.c.length=3:=by cases v;rfl
theorem Val.cs_rows {l:List Val}:∀x,x∈Val.cs l->x.length=3:=by
 intro x hx;rw[xbn] at hx;obtain⟨y,_,rfl⟩:=List.mem_map.1 hx;exact y.c_len
theorem Val.cs_nil (l:List Val):Val.cs l=[]↔l=[]:=by rw[xbn];simp
mutual
def mVal:Val->Nat
 | .mk _ _ ks=>zj4 ks
def zj4:List Val->Nat
 | []=>0
 |v::r=>1+mVal v+zj4 r
end
mutual
def Val.szM:Val->Int
 | .mk _ _ ks=>2+Vals.szM ks
def Vals.szM:List Val->Int
 | []=>0
 |v::r=>v.szM+Vals.szM r
end
mutual
def Val.one (k:Int):Val->Val
 | .mk _ _ ks=> .mk k (k+1) (Vals.one (k+1+1) ks)
def Vals.one (k:Int):List Val->List Val
 | []=>[]
 |v::r=>v.one k::Vals.one (k+v.szM) r
end
theorem xbp:∀l:List Val,Vals.szM l=szL Val.szM l
 | []=>rfl
 |v::r=>by simp only[Vals.szM,szL,xbp r]
theorem xbo:∀(l:List Val) (k:Int),Vals.one k l=mkL Val.one Val.szM k l
 | [],_=>rfl
 |v::r,k=>by simp only[Vals.one,mkL,xbo r]
theorem Val.szM_kids (v:Val):v.szM=2+szL Val.szM v.kids:=by cases v;simp only[Val.szM,Val.kids,xbp]
theorem Val.one_kids (v:Val) (k:Int):(v.one k).kids=mkL Val.one Val.szM (k+1+1) v.kids:=by cases v;simp only[Val.one,Val.kids,xbo]
theorem Val.one_sc (v:Val) (k:Int):(Val.one k v).ctor=k/\(Val.one k v).num=k+1:=by cases v;exact⟨rfl,rfl⟩
mutual
theorem Val.szM_nn:∀v:Val,0<=v.szM
 | .mk _ _ ks=>by have:=xbr ks;simp only[Val.szM];omega
theorem xbr:∀l:List Val,0<=Vals.szM l
 | []=>by simp[Vals.szM]
 |v::r=>by have:=Val.szM_nn v;have:=xbr r;simp only[Vals.szM];omega
end
mutual
theorem Val.szM_le:∀v:Val,v.szM<=2+2*(mVal v:Int)
 | .mk _ _ ks=>by have:=xbq ks;simp only[Val.szM,mVal];omega
theorem xbq:∀l:List Val,Vals.szM l<=2*(zj4 l:Int)
 | []=>by simp[Vals.szM,zj4]
 |v::r=>by have:=Val.szM_le v;have:=xbq r;simp only[Vals.szM,zj4];omega
end
def zqj (w:List Data):Nat->Ty->Val->Bool
 |0,_,_=>false
 |n+1,t,v=>if t.data = -1 then decide (v.ctor = -1)&&(decide (0<=v.num)&&(decide (v.num<=9)&&decide (v.kids.length=0)))
   else if v.num=0/\v.ctor∈zdq w t then all2 (zqj w n) (zan w t v.ctor) v.kids else false
mutual
def cntV (m:Int):Val->Int
 | .mk _ _ ks=>cntL m 1 ks
def cntL (m n:Int):List Val->Int
 | []=>n
 |k::r=>if n<=m then cntL m (n+cntV (m-n) k) r else n
end
theorem zoq {m n:Int}{l:List Val} (h:¬n<=m):cntL m n l=n:=by cases l<;>simp[cntL,h]
mutual
theorem zng:∀(v:Val) (m:Int),1<=cntV m v/\cntV m v<=v.size
 | .mk _ _ ks,m=>by
  have:=zkz ks m 1 oe;simp only[cntV,Val.size];push_cast;omega
theorem zkz:∀(l:List Val) (m n:Int),1<=n->1<=cntL m n l/\cntL m n l<=n+Vals.size l
 | [],m,n,h=>by simp[cntL,Vals.size];omega
 |k::r,m,n,h=>by
  have h1:=zng k (m-n);have h2:=zkz r m (n+cntV (m-n) k) oe;simp only[cntL,Vals.size];split
  ·push_cast;omega
  ·push_cast;omega
end
mutual
theorem zpp:∀(v:Val) (m:Int),(cntV m v<=m↔(v.size:Int)<=m)/\(cntV m v<=m->cntV m v=v.size)
 | .mk _ _ ks,m=>by
  have:=zmi ks m 1;simp only[cntV,Val.size];push_cast;exact this
theorem zmi:∀(l:List Val) (m n:Int),(cntL m n l<=m↔n+(Vals.size l:Int)<=m)/\(cntL m n l<=m->cntL m n l=n+Vals.size l)
 | [],m,n=>by simp[cntL,Vals.size]
 |k::r,m,n=>by
  have h1:=zpp k (m-n);have h2:=zmi r m (n+cntV (m-n) k);have h3:=zkz r m (n+cntV (m-n) k);have h4:=zng k (m-n);simp only[cntL,Vals.size];push_cast
  by_cases hn:n<=m
  ·rw[if_pos hn];by_cases h5:cntV (m-n) k<=m-n
   ·have h6:=h1.2 h5;rw[h6] at h2 ⊢;constructor
    ·rw[h2.1];constructor<;>intro h<;>omega
    ·intro h;rw[h2.2 h];omega
   ·have h7:¬(k.size:Int)<=m-n:=fun h=>h5 (h1.1.2 h);have h8:¬n+cntV (m-n) k<=m:=by omega
    rw[zoq h8];constructor
    ·constructor<;>intro h<;>omega
    ·intro h;omega
  ·rw[if_neg hn];constructor
   ·constructor<;>intro h<;>omega
   ·intro h;omega
end
theorem Vals.size_split {pre rest l:List Val}{y:Val} (h:pre++y::rest=l):Vals.size l=Vals.size pre+y.size+Vals.size rest:=by
 subst h;induction pre with
 |nil=>simp[Vals.size]
 |cons x r ih=>simp only[xai,Vals.size,ih];omega
structure Bd where
 var:Int
 val:Val
def Bd.c (b:Bd):List D:=[.i b.var,.i b.val.ctor,.i b.val.num,zqG b.val.kids]
instance:Inhabited Bd:=⟨⟨0,default⟩⟩
def BdOk (m:Nat) (l:List Bd):Prop:=∀x∈l,x.val.ok/\x.val.size<=m
theorem BdOk.app {m:Nat}{a b:List Bd} (h1:BdOk m a) (h2:BdOk m b):BdOk m (a++b):=fun x hx=>by
 rcases List.mem_append.1 hx with h|h
 ·exact h1 x h
 ·exact h2 x h
theorem BdOk.mono {m k:Nat}{a:List Bd} (h:BdOk m a) (hk:m<=k):BdOk k a:=fun x hx=>⟨(h x hx).1,Nat.le_trans (h x hx).2 hk⟩
theorem zrr {w:List Data}{t:Ty}{p:Pat} (h:p.op=5):zaf w t p=[t,t]:=by unfold zaf;rw[if_neg oe,if_pos h]
theorem zrs {w:List Data}{t:Ty}{p:Pat} (h:p.op=6):zaf w t p=[t]:=by unfold zaf;rw[if_neg oe,if_neg oe,if_pos h]
theorem zo9 {w:List Data}{n:Nat}{t:Ty}{p:Pat} (h:zav w (n+1) t p=true) (h5:p.op=5):p.kids.length=2/\zav w n t (nth p.kids 0)=true/\zav w n t (nth p.kids 1)=true:=by
 have hl:=(zcc h).2;have h0:=fun i hi=>zbC h (i:=i) hi;rw[zrr h5] at hl h0;have hl':p.kids.length=2:=hl;exact⟨hl',h0 0 oe,h0 1 oe⟩
theorem zo8 {w:List Data}{n:Nat}{t:Ty}{p:Pat} (h:zav w (n+1) t p=true) (h6:p.op=6):p.kids.length=1/\zav w n t (nth p.kids 0)=true:=by
 have hl:=(zcc h).2;have h0:=fun i hi=>zbC h (i:=i) hi;rw[zrs h6] at hl h0;have hl':p.kids.length=1:=hl;exact⟨hl',h0 0 oe⟩
abbrev anyQ:Pat:= .mk 1 0 0 0 0 []
abbrev zcP:Pat:= .mk 0 0 0 0 0 []
mutual
def zha:Pat->Pat
 | .mk op c n m v ks=>if op=2 then anyQ else if op=6/\ks≠[] then zjQ ks else .mk op c n m v (zg9 ks)
def zjQ:List Pat->Pat
 | []=>anyQ
 |k::_=>zha k
def zg9:List Pat->List Pat
 | []=>[]
 |k::r=>zha k::zg9 r
end
theorem zl8:∀l:List Pat,zg9 l=l.map zha
 | []=>rfl
 |k::r=>by simp[zg9,zl8 r]
def zsb (out:List (List Pat)) (l:List Pat):List (List Pat):=out.flatMap fun q=>l.map fun c=>q++[c]
def zr8 (ls:List (List Pat)):List (List Pat):=ls.foldl zsb [[]]
mutual
def zmW:Pat->List Pat
 | .mk op c n m v ks=>if op=5 then zrq ks else (zr8 (znG ks)).map fun l=> .mk op c n m v l
def zrq:List Pat->List Pat
 | []=>[]
 |a::r=>zmW a++zqU r
def zqU:List Pat->List Pat
 | []=>[]
 |b::_=>zmW b
def znG:List Pat->List (List Pat)
 | []=>[]
 |k::r=>zmW k::znG r
end
mutual
def cntS:Pat->Int
 | .mk op _ _ _ _ ks=>if op=5 then cntO ks 0 else cntM ks 1
def cntO:List Pat->Int->Int
 | [],n=>n
 |k::r,n=>cntO r (cap (n+cntS k))
def cntM:List Pat->Int->Int
 | [],n=>n
 |k::r,n=>cntM r (cap (n*cntS k))
end
mutual
theorem znf:∀p:Pat,0<=cntS p/\cntS p<=401
 | .mk op _ _ _ _ ks=>by
  unfold cntS;split
  ·exact zne ks 0 oe oe
  ·exact znd ks 1 oe oe
theorem zne:∀(l:List Pat) (n:Int),0<=n->n<=401->0<=cntO l n/\cntO l n<=401
 | [],n,h1,h2=>⟨h1,h2⟩
 |k::r,n,h1,h2=>by
  unfold cntO;have h3:=znf k;have h4:=zoo (x:=n+cntS k) oe;exact zne r _ h4.1 h4.2
theorem znd:∀(l:List Pat) (n:Int),0<=n->n<=401->0<=cntM l n/\cntM l n<=401
 | [],n,h1,h2=>⟨h1,h2⟩
 |k::r,n,h1,h2=>by
  unfold cntM;have h3:=znf k;have h4:=zoo (x:=n*cntS k) (Int.mul_nonneg h1 h3.1);exact znd r _ h4.1 h4.2
end
mutual
theorem znb:∀p:Pat,p.ok->(zha p).ok
 | .mk op c n m v ks,h=>by
  unfold zha;split
  ·exact⟨by simp,trivial⟩
  ·split
   ·exact zpt ks h.2
   ·exact⟨by rw[zl8,xac];exact h.1,zl9 ks h.2⟩
theorem zpt:∀l:List Pat,Pats.ok l->(zjQ l).ok
 | [],_=>⟨by simp,trivial⟩
 |k::r,h=>znb k h.1
theorem zl9:∀l:List Pat,Pats.ok l->Pats.ok (zg9 l)
 | [],_=>trivial
 |k::r,h=>⟨znb k h.1,zl9 r h.2⟩
end
mutual
theorem zk5:∀p:Pat,(zha p).size<=p.size
 | .mk op c n m v ks=>by
  unfold zha;split
  ·simp[anyQ,Pat.size,Pats.size]
  ·split
   ·have:=zn2 ks;simp only[Pat.size];omega
   ·have:=zjz ks;simp only[Pat.size];omega
theorem zn2:∀l:List Pat,(zjQ l).size<=1+Pats.size l
 | []=>by simp[zjQ,anyQ,Pat.size,Pats.size]
 |k::r=>by have:=zk5 k;simp only[zjQ,Pats.size];omega
theorem zjz:∀l:List Pat,Pats.size (zg9 l)<=Pats.size l
 | []=>Nat.le_refl _
 |k::r=>by have:=zk5 k;have:=zjz r;simp only[zg9,Pats.size];omega
end
def zdS (env:Env) (hp:Hp) (j:Nat):Bool:=
 (match getH hp j with|none=>true|some _=>false)&&(env.all fun x=>match getE env x.1 with|some v=> !zaH j v.ids|none=>true)&&(hp.all fun x=>match getH hp x.1 with|some r=> !zaH j r.ids|none=>true)
theorem zmw:∀ {env:Env}{i:Nat}{v:AV},getE env i=some v->∃u,(i,u)∈env
 |(k,x)::r,i,v,h=>by
  simp only[getE] at h;cases hb:Nat.beq k i with
  |true=>obtain rfl:=xap hb;exact⟨x,by simp⟩
  |false=>
   simp only[hb,cond_false] at h;obtain⟨u,hu⟩:=zmw h;exact⟨u,List.mem_cons_of_mem _ hu⟩
theorem zcq {env:Env}{hp:Hp}{j:Nat} (h:zdS env hp j=true):getH hp j=none/\zbV j ⟨env,hp⟩:=by
 simp only[zdS,xad,List.all_eq_true] at h;obtain⟨⟨h1,h2⟩,h3⟩:=h;refine⟨?_,fun i v hv hm=>?_,fun i r hr hm=>?_⟩
 ·cases hg:getH hp j with
  |none=>rfl
  |some x=>simp[hg] at h1
 ·obtain⟨u,hu⟩:=zmw hv;have:=h2 _ hu;rw[show getE env (i,u).1=some v from hv] at this;change (!zaH j v.ids)=true at this
  rw[zat.2 hm] at this;cases this
 ·obtain⟨u,hu⟩:=zhf hr;have:=h3 _ hu;rw[show getH hp (i,u).1=some r from hr] at this;change (!zaH j r.ids)=true at this
  rw[zat.2 hm] at this;cases this
theorem xaW (l:List Pat):Pat.cs l=l.map Pat.cc:=by
 rw[xaX];exact List.map_congr_left (fun v _=>Pat.c_eq v)
theorem zed (l:List Pat):∀x∈l.map Pat.cc,x.length=6:=fun x hx=>by
 obtain⟨y,_,rfl⟩:=List.mem_map.1 hx;rfl
def zbj (w:List Data) (t:Ty) (k:Int):Str:=(nth (nth w t.data.toNat).ctors k.toNat).name
def isNm (w:List Data) (t:Ty) (s:Str) (k:Int):Bool:=decide (zbj w t k=s)
def nmV (w:List Data) (t:Ty) (s:Str):Int:=((zaW w t).find? (isNm w t s)).getD (-1)
theorem zfS {w:List Data}{t:Ty}{s:Str} (h:¬nmV w t s<0):nmV w t s∈zaW w t:=by
 unfold nmV at h ⊢;cases e:(zaW w t).find? (isNm w t s) with
 |none=>rw[e] at h;simp at h
 |some k=>exact List.mem_of_find?_eq_some e
theorem zk1 {w:List Data} (hw:WT w){a k:Int} (ht:TyIn w.length ⟨a,k⟩){s:Str}:
  FnD Tryz.prog 41 [.d (zam w),.agg [.d (.i a),.d (.i k)],.d (.str s)] [] (.d (.i (nmV w ⟨a,k⟩ s))) []:=by
 have hct:=zc8 hw ht;have hpl:=fun(c:Int) (h:c∈zaW w ⟨a,k⟩)=>zbw ht h;have hcl:=zfL hw ht;have hnm:∀(d m:Nat),a=d->(zbj w ⟨a,k⟩ (m:Int))=(nth (nth w d).ctors m).name:=fun d m h=>by unfold zbj;subst h;rfl
 have hdef:nmV w ⟨a,k⟩ s=((zaW w ⟨a,k⟩).find? (isNm w ⟨a,k⟩ s)).getD (-1):=rfl;rw[hdef];have hisn:∀c,isNm w ⟨a,k⟩ s c=decide (zbj w ⟨a,k⟩ c=s):=fun _=>rfl;generalize zaW w ⟨a,k⟩=l at *;refine bd Tryz.f41 37 [] [] fun _ _ _ _ hk=>?_;refine bx 3004 ?_;refine ev (wc zjD hct I I ?_);refine ev (xaD (ι:=List (Int)×List (Int)) hk (fun x=>[(8,.d (.i (x.1.length:Int)))]) [6,12,13,14,15,16,17,18,19,20,21,22,23,24,25,26,27,28,29,30,31,32,33,34,35,36] (fun x=>[]) (fun x=>x.1++x.2=l/\x.2.find? (isNm w ⟨a,k⟩ s)=l.find? (isNm w ⟨a,k⟩ s)) (fun x=>x.2.length) ([],l) ⟨by simp,I⟩ ⟨⟨_,I,xaT ?_⟩,O⟩ O (fun x=>rfl) (fun x hg1=>?_));focus (rfl)
 obtain⟨pre,rest⟩:=x;dsimp only at hg1 ⊢;refine evc [] [] ?_;apply sq<;>intro h1 h1p h1s<;>(try simp only[Q,xal] at h1p);rcases rest with _|⟨y,rest⟩
 ·exfalso;simp_all
 refine xbL (i:=(hpl y (by rw[<-hg1.1];simp)).choose) sl29 .none I I I (hpl y (by rw[<-hg1.1];simp)).choose_spec.1 (zau (hpl y (by rw[<-hg1.1];simp)).choose_spec.2.1) I ?_;refine evd [] [] (ixq zdi I I I (zbd hg1.1) I (evd [] [] (xbL (i:=(hpl y (by rw[<-hg1.1];simp)).choose_spec.2.2.choose) sl57 .none I I I (hpl y (by rw[<-hg1.1];simp)).choose_spec.2.2.choose_spec.1 (zau (hpl y (by rw[<-hg1.1];simp)).choose_spec.2.2.choose_spec.2) I ?_)));refine evd [] [] (dr ?_);apply sq<;>intro h2 h2p h2s<;>(try simp only[Q,xal] at h2p);refine ixq zdi I I I (zbd hg1.1) I (ev (rq ?_));rotate_left;refine ar (xaj ((pre++[y],rest)) ⟨⟨(by have hz:=hg1.1;rw[<-hz];simp),(by rw[<-hg1.2,List.find?_cons_of_neg];rw[hisn,(hpl y (by rw[<-hg1.1];simp)).choose_spec.2.2.choose_spec.1,hnm _ _ (hpl y (by rw[<-hg1.1];simp)).choose_spec.1];simp_all)⟩,oh,sx ⟨⟨_,I,xaT ?_⟩,O⟩ O⟩);focus ((simp;done))
 have hrest:rest=[]:=by
  rcases rest with _|⟨a,b⟩
  ·rfl
  ·exfalso;have hz:=xam List.length (hg1.1);simp only[xaa,xab,xac] at hz;omega
 subst hrest;refine rq ?_;rotate_left;all_goals ((refine xam D.i ?_;rw[<-hg1.2];first|rfl|(rw[List.find?_cons_of_pos (by rw[hisn,(hpl y (by rw[<-hg1.1];simp)).choose_spec.2.2.choose_spec.1,hnm _ _ (hpl y (by rw[<-hg1.1];simp)).choose_spec.1];simp_all)];rfl)))
def zbb (x:UInt8):Bool:=decide (48<=(x.toNat:Int))&&decide ((x.toNat:Int)<=57)
def digV (s:Str) (n:Nat):Int:=((nth s n).toNat:Int)-48
def intP (s:Str) (n:Nat):Pat×Int:=
 if zbv s ((n:Int)+1) 45=true/\n+2<s.length/\zbb (nth s (n+2))=true then (.mk 3 0 (digV s n) (digV s (n+2)) 0 [],(n:Int)+3)
 else (.mk 3 0 (digV s n) (digV s n) 0 [],(n:Int)+1)
theorem zni {x:UInt8} (h:zbb x=true):IntKind.i64.wrap (IntKind.u8.wrap ((x.toNat:Int)-48))=(x.toNat:Int)-48:=by
 unfold zbb at h;rw[xad,xah,xah] at h;exact zn0 oe oe
theorem zlM {s:Str}{n:Nat} (hs:s.length<=1000000000000) (hn:n<s.length) (hd:zbb (nth s n)=true):
  FnD Tryz.prog 37 [.d (.str s),.d (.i n)] [] (.tup [.agg [.d (.i (intP s n).1.op),.d (.i (intP s n).1.ctor),.d (.i (intP s n).1.n),.d (.i (intP s n).1.m),.d (.i (intP s n).1.var),.d (zaC (intP s n).1.kids)],.d (.i (intP s n).2)]) []:=by
 have w1:=zni hd;by_cases hc:zbv s ((n:Int)+1) 45=true/\n+2<s.length/\zbb (nth s (n+2))=true
 ·have w2:=zni hc.2.2;have e:intP s n=(.mk 3 0 (digV s n) (digV s (n+2)) 0 [],(n:Int)+3):=by unfold intP;rw[if_pos hc]
  rw[e];obtain⟨c1,c2,c3⟩:=hc;have hsg:=zaQ (s:=s) (a:=(n:Int)+1) (c:=45) hs;rw[c1] at hsg;unfold zbb at c3;rw[xad,xah,xah] at c3;refine bd Tryz.f37 52 [10,42] [] fun _ _ _ _ hk=>?_;refine ab 3004 tz47 ?_;refine evs [10,42] [] (xbO un9 .none I I I I (zaZ oe) ?_);refine xb7 .none I I I (xbG o9 un3 .none I I ?_);refine evs [10,42] [] (ar (wc zco hsg I I ?_));refine evs [10,42] [] ?_;apply sq<;>intro h1 h1p h1s;refine ar ?_;apply sq<;>intro h2 h2p h2s;refine ar (xbO (i:=((n+2:Nat))) un9 (.some I I h2) I I I oe (zaZ oe) ?_);refine evs [10,42] [(23,true)] ?_ ⟨⟨_,I,h2⟩,O⟩;apply sq<;>intro h3 h3p h3s;refine ar (xbO (i:=((n+2:Nat))) un9 (.some I I h3) I I I oe (zaZ oe) ?_);refine evs [10,42] [(30,true)] ?_ ⟨⟨_,I,h3⟩,O⟩;apply sq<;>intro h4 h4p h4s;refine ar (xbO (i:=((n+2:Nat))) un9 .none I I I oe (zaZ oe) ?_);refine xb7 .none I I I (xbG o9 un3 .none I I ?_);refine bu [0,2,3] [_,_,_] st47 ?_;refine evs [10,42] [] (ar (so ty47 ?_));refine evs [10,42] [] (rn0 (rc ty47) (.tup (.cons (.agg (qeeeeen ?_ ?_ ?_ ?_ ?_ ?_)) (qe ?_))));rotate_left 7;try simp only[Q,xal] at h4p
  focus (exfalso;omega)
  try simp only[Q,xal] at h3p
  refine sqF ?_;focus (exfalso;omega)
  try simp only[Q,xal] at h2p
  refine sqF ?_;refine sqF ?_;focus (exfalso;omega)
  refine sqF ?_;refine sqF ?_;refine sqF ?_;focus (exfalso;contradiction)
  all_goals (first|rfl|(refine xam D.i ?_;first|rfl|omega|exact w1|exact w2))
 ·have e:intP s n=(.mk 3 0 (digV s n) (digV s n) 0 [],(n:Int)+1):=by unfold intP;rw[if_neg hc]
  rw[e];have hsg:=zaQ (s:=s) (a:=(n:Int)+1) (c:=45) hs;have hdg:∀x:UInt8,zbb x=(decide (48<=(x.toNat:Int))&&decide ((x.toNat:Int)<=57)):=fun _=>rfl;have hno:zbv s ((n:Int)+1) 45=true->n+2<s.length->48<=((nth s (n+2)).toNat:Int)->((nth s (n+2)).toNat:Int)<=57->False:=fun h1 h2 h3 h4=>hc ⟨h1,h2,by rw[hdg,xad,xah,xah];exact⟨h3,h4⟩⟩;refine bd Tryz.f37 52 [10] [] fun _ _ _ _ hk=>?_;refine ab 3004 tz47 ?_;refine evs [10] [] (xbO un9 .none I I I I (zaZ oe) ?_);refine xb7 .none I I I (xbG o9 un3 .none I I ?_);refine evs [10] [] (ar (wc zco hsg I I ?_));refine evs [10] [] ?_;apply sq<;>intro h1 h1p h1s;refine ar ?_;apply sq<;>intro h2 h2p h2s;try simp only[Q,xal] at h2p
  refine ar (xbO (i:=((n+2:Nat))) un9 (.some I I h2) I I I oe (zaZ oe) ?_);refine evs [10] [(23,true)] ?_ ⟨⟨_,I,h2⟩,O⟩;apply sq<;>intro h3 h3p h3s;try simp only[Q,xal] at h3p
  refine ar (xbO (i:=((n+2:Nat))) un9 (.some I I h3) I I I oe (zaZ oe) ?_);refine evs [10] [(30,true)] ?_ ⟨⟨_,I,h3⟩,O⟩;apply sq<;>intro h4 h4p h4s;try simp only[Q,xal] at h4p
  exfalso;exact hno ol oe oe oe;refine bu [0,2,3] [_,_,_] st47 ?_;refine evs [10] [] (ar (so ty47 ?_));refine evs [10] [] (rn0 (rc ty47) (.tup (.cons (.agg (qeeeeen ?_ ?_ ?_ ?_ ?_ ?_)) (qe ?_))));rotate_left 7;refine sqF ?_;refine bu [0,2,3] [_,_,_] st47 ?_;refine evs [10] [] (ar (so ty47 ?_));refine evs [10] [] (rn0 (rc ty47) (.tup (.cons (.agg (qeeeeen ?_ ?_ ?_ ?_ ?_ ?_)) (qe ?_))));rotate_left 7;refine sqF ?_;refine sqF ?_;refine bu [0,2,3] [_,_,_] st47 ?_;refine evs [10] [] (ar (so ty47 ?_));refine evs [10] [] (rn0 (rc ty47) (.tup (.cons (.agg (qeeeeen ?_ ?_ ?_ ?_ ?_ ?_)) (qe ?_))));rotate_left 7;refine sqF ?_;refine sqF ?_;refine sqF ?_;refine bu [0,2,3] [_,_,_] st47 ?_;refine evs [10] [] (ar (so ty47 ?_));refine evs [10] [] (rn0 (rc ty47) (.tup (.cons (.agg (qeeeeen ?_ ?_ ?_ ?_ ?_ ?_)) (qe ?_))));rotate_left 7;all_goals (first|rfl|(refine xam D.i ?_;first|rfl|omega|exact w1))
def kidL (f:Ty->Int->Pat×Int) (s:Str):List Ty->List UInt8->Int->Option (List Pat×Int)
 | [],_,a=>some ([],a)
 |_::_,[],_=>none
 |t::ts,c::cs,a=>if zbv s a c=true then (match kidL f s ts cs (f t (a+1)).2 with|none=>none|some r=>some ((f t (a+1)).1::r.1,r.2)) else none
def kidV (f:Ty->Int->Pat×Int) (s:Str) (ts:List Ty) (sg:List UInt8) (a:Int):List Pat×Int:=(kidL f s ts sg a).getD ([],-1)
def zaB (w:List Data) (s:Str):Nat->Ty->Int->Pat×Int
 |0,_,_=>(zcP,-1)
 |n+1,t,a=>
  if a<0\/(s.length:Int)<=a then (zcP,-1)
  else if nth s a.toNat=95 then (.mk 1 0 0 0 0 [],a+1)
  else if zbb (nth s a.toNat)=true then intP s a.toNat
  else if nth s a.toNat=40 then (if zbv s (kidV (zaB w s n) s [t,t] [40,124] a).2 41=true then (.mk 5 0 0 0 0 (kidV (zaB w s n) s [t,t] [40,124] a).1,(kidV (zaB w s n) s [t,t] [40,124] a).2+1) else (zcP,-1))
  else if zaN (nth s a.toNat)=true/\zbv s (a+1) 64=true then (.mk 6 0 0 0 (((nth s a.toNat).toNat:Int)-97) (kidV (zaB w s n) s [t] [64] (a+1)).1,(kidV (zaB w s n) s [t] [64] (a+1)).2)
  else if zaN (nth s a.toNat)=true then (.mk 2 0 0 0 (((nth s a.toNat).toNat:Int)-97) [],a+1)
  else if nmV w t (zbB s a.toNat)<0 then (zcP,-1)
  else if (zan w t (nmV w t (zbB s a.toNat))).length=0 then (.mk 4 (nmV w t (zbB s a.toNat)) 0 0 0 (kidV (zaB w s n) s (zan w t (nmV w t (zbB s a.toNat))) [40,44,44] ((a.toNat+zaA (s.drop a.toNat):Nat):Int)).1,(kidV (zaB w s n) s (zan w t (nmV w t (zbB s a.toNat))) [40,44,44] ((a.toNat+zaA (s.drop a.toNat):Nat):Int)).2)
  else if zbv s (kidV (zaB w s n) s (zan w t (nmV w t (zbB s a.toNat))) [40,44,44] ((a.toNat+zaA (s.drop a.toNat):Nat):Int)).2 41=true then (.mk 4 (nmV w t (zbB s a.toNat)) 0 0 0 (kidV (zaB w s n) s (zan w t (nmV w t (zbB s a.toNat))) [40,44,44] ((a.toNat+zaA (s.drop a.toNat):Nat):Int)).1,(kidV (zaB w s n) s (zan w t (nmV w t (zbB s a.toNat))) [40,44,44] ((a.toNat+zaA (s.drop a.toNat):Nat):Int)).2+1)
  else (zcP,-1)
def EndIn (s:Str) (a:Int):Prop:= -1<=a/\a<=(s.length:Int)
theorem zpv {s:Str}{n:Nat} (hn:n<s.length):EndIn s (intP s n).2:=by
 unfold intP EndIn;split
 ·rename_i h;have:=h.2.1;dsimp only;omega
 ·dsimp only;omega
theorem zmB {f:Ty->Int->Pat×Int}{s:Str} (hf:∀t a,EndIn s (f t a).2):∀(ts:List Ty) (sg:List UInt8) (a:Int),EndIn s a->∀r,kidL f s ts sg a=some r->EndIn s r.2/\r.1.length=ts.length
 | [],_,a,ha,r,h=>by rw[kidL] at h;cases h;exact⟨ha,rfl⟩
 |_::_,[],_,_,r,h=>by rw[kidL] at h;cases h
 |t::ts,c::cs,a,ha,r,h=>by
  rw[kidL] at h;split at h
  ·cases e:kidL f s ts cs (f t (a+1)).2 with
   |none=>rw[e] at h;cases h
   |some r2=>
    rw[e] at h;cases h;have:=zmB hf ts cs _ (hf t (a+1)) r2 e;exact⟨this.1,by simp[this.2]⟩
  ·cases h
theorem zhk {f:Ty->Int->Pat×Int}{s:Str} (hf:∀t a,EndIn s (f t a).2){ts:List Ty}{sg:List UInt8}{a:Int} (ha:EndIn s a):EndIn s (kidV f s ts sg a).2:=by
 unfold kidV;cases e:kidL f s ts sg a with
 |none=>exact⟨Int.le_refl _,by simp[Option.getD]<;>omega⟩
 |some r=>exact(zmB hf ts sg a ha r e).1
theorem zjn {s:Str}{a:Int} (h0:0<=a) (h1:a<(s.length:Int)):EndIn s ((a.toNat+zaA (s.drop a.toNat):Nat):Int):=by
 have:=zf5 (s.drop a.toNat);rw[List.length_drop] at this;exact⟨by omega,by omega⟩
theorem zfF {w:List Data}{s:Str}:∀(n:Nat) (t:Ty) (a:Int),EndIn s (zaB w s n t a).2
 |0,_,_=>⟨by simp[zaB],by simp[zaB]<;>omega⟩
 |n+1,t,a=>by
  have ih:=zfF (w:=w) (s:=s) n;have z:EndIn s ((zcP,(-1:Int)):Pat×Int).2:=⟨Int.le_refl _,by dsimp only;omega⟩;unfold zaB;split
  ·exact z
  rename_i ha;have ha0:0<=a:=by omega
  have ha1:a<(s.length:Int):=by omega
  have hst:∀ {b:Int},zbv s b 41=true->EndIn s (b+1):=fun h=>by have:=zgw h;exact⟨by omega,by omega⟩
  split
  ·exact⟨by dsimp only;omega,by dsimp only;omega⟩
  split
  ·exact zpv oe
  split
  ·split
   ·rename_i h;exact hst h
   ·exact z
  split
  ·rename_i h;exact zhk ih (by have:=zgw h.2;exact⟨by omega,by omega⟩)
  split
  ·exact⟨by dsimp only;omega,by dsimp only;omega⟩
  split
  ·exact z
  split
  ·exact zhk ih (zjn ha0 ha1)
  split
  ·rename_i h;exact hst h
  ·exact z
theorem zlh {f:Ty->Int->Pat×Int}{s:Str}{ts:List Ty}{sg:List UInt8}{i:Nat}{a:Int} (hi:i<ts.length) (hg:ts.length<=sg.length):
  kidL f s (ts.drop i) (sg.drop i) a=if zbv s a (nth sg i)=true then (match kidL f s (ts.drop (i+1)) (sg.drop (i+1)) (f (nth ts i) (a+1)).2 with|none=>none|some r=>some ((f (nth ts i) (a+1)).1::r.1,r.2)) else none:=by
 rw[zbm hi,zbm (show i<sg.length by omega),kidL]
def addK (acc:List Pat):Option (List Pat×Int)->Option (List Pat×Int)
 |none=>none
 |some r=>some (acc++r.1,r.2)
theorem zpk (o:Option (List Pat×Int)):addK [] o=o:=by cases o<;>rfl
theorem zpw {f:Ty->Int->Pat×Int}{s:Str}{ts:List Ty}{sg:List UInt8}{i:Nat}{a:Int}{acc:List Pat}{o:Option (List Pat×Int)} (hi:i<ts.length) (hg:ts.length<=sg.length)
  (h:addK acc (kidL f s (ts.drop i) (sg.drop i) a)=o) (hs:zbv s a (nth sg i)=true):
  addK (acc++[(f (nth ts i) (a+1)).1]) (kidL f s (ts.drop (i+1)) (sg.drop (i+1)) (f (nth ts i) (a+1)).2)=o:=by
 rw[<-h,zlh hi hg,if_pos hs];cases kidL f s (ts.drop (i+1)) (sg.drop (i+1)) (f (nth ts i) (a+1)).2 with
 |none=>rfl
 |some r=>simp[addK]
theorem zqM {f:Ty->Int->Pat×Int}{s:Str}{ts:List Ty}{sg:List UInt8}{i:Nat}{a:Int}{acc:List Pat}{o:Option (List Pat×Int)} (hi:i<ts.length) (hg:ts.length<=sg.length)
  (h:addK acc (kidL f s (ts.drop i) (sg.drop i) a)=o) (hs:zbv s a (nth sg i)=false):o=none:=by
 rw[<-h,zlh hi hg,if_neg (by rw[hs];simp)];rfl
theorem zqN {f:Ty->Int->Pat×Int}{s:Str}{ts:List Ty}{sg:List UInt8}{i:Nat}{a:Int}{acc:List Pat}{o:Option (List Pat×Int)} (hi:ts.length<=i)
  (h:addK acc (kidL f s (ts.drop i) (sg.drop i) a)=o):o=some (acc,a):=by
 rw[<-h,List.drop_eq_nil_of_le hi,kidL];simp[addK]
theorem zlN {w:List Data}{s:Str} (hs:s.length<=1000000000000 / 2){ts:List Ty}{sg:List UInt8} (hg:ts.length<=sg.length) (hg2:sg.length<=3){a0 dep:Int} (ha0:EndIn s a0){f:Ty->Int->Pat×Int} (hfe:∀t a,EndIn s (f t a).2)
  (hf:∀t∈ts,∀a,EndIn s a->FnD Tryz.prog 17 [.d (zam w),.agg [.d (.i t.data),.d (.i t.index)],.d (.str s),.d (.i a),.d (.i dep)] [] (.tup [.agg [.d (.i (f t a).1.op),.d (.i (f t a).1.ctor),.d (.i (f t a).1.n),.d (.i (f t a).1.m),.d (.i (f t a).1.var),.d (zaC (f t a).1.kids)],.d (.i (f t a).2)]) []):
  FnD Tryz.prog 38 [.d (zam w),.d (za9 ts),.d (zms sg),.d (.str s),.d (.i a0),.d (.i dep)] [] (.tup [.d (zaC (kidV f s ts sg a0).1),.d (.i (kidV f s ts sg a0).2)]) []:=by
 unfold kidV;generalize ho:kidL f s ts sg a0=o;have hsl:s.length<=1000000000000:=by omega
 have hbad:=fun(i:Nat) (a:Int) (acc:List Pat)=>zqM (f:=f) (s:=s) (ts:=ts) (sg:=sg) (i:=i) (a:=a) (acc:=acc) (o:=o);have hend:=fun(i:Nat) (a:Int) (acc:List Pat)=>zqN (f:=f) (s:=s) (ts:=ts) (sg:=sg) (i:=i) (a:=a) (acc:=acc) (o:=o);have hnext:=fun(i:Nat) (a:Int) (acc:List Pat)=>zpw (f:=f) (s:=s) (ts:=ts) (sg:=sg) (i:=i) (a:=a) (acc:=acc) (o:=o);refine bd Tryz.f38 53 [] [] fun _ _ _ _ hk=>?_;refine xb3 1 sl45 .none I I (ev (xaD (ι:=Nat×List Pat×Int) hk (fun x=>[(15,.d (.i (x.1:Int))),(14,.gl 1 (x.2.1.map Pat.cc)),(4,.d (.i x.2.2))]) [12,13,16,17,19,20,21,22,23,24,25,26,27,28,29,30,31,32,33,34,35,36,37,38,39,40,41,42,43,44,45,46,47,48,49,50] (fun x=>[(1,some (.tok ((x.2.1.map Pat.cc)).length 6))]) (fun x=>x.1<=ts.length/\x.2.1.length<=x.1/\(-1<=x.2.2/\x.2.2<=(s.length:Int))/\addK x.2.1 (kidL f s (ts.drop x.1) (sg.drop x.1) x.2.2)=o) (fun x=>ts.length-x.1) (0,[],a0) ⟨by simp,by simp,ha0,by rw[zpk];exact ho⟩ ⟨⟨_,I,xaT ?_⟩,⟨⟨_,I,LeA.glg ?_⟩,⟨⟨_,I,xaT ?_⟩,O⟩⟩⟩ ⟨zar ?_,O⟩ (fun x=>rfl) (fun x hg1=>?_)));iterate 4 focus (rfl)
 refine evc [] [] ?_;apply sq<;>intro h1 h1p h1s<;>(try simp only[Q,xal,xac] at h1p);refine ixq sl79 I I I (zau oe) I ?_;refine ev (wc zco (zaQ (s:=s) (a:=x.2.2) (c:=nth sg x.1) hsl) I I ?_);refine ev ?_;apply sq<;>intro h2 h2p h2s;refine rn0 (r2 I I) (.tup (qne ?_ ?_));rotate_left 2;try simp only[Q,xal,xac] at h2p
 refine ixq sl78 I I I (zau oe) I ?_;refine ev (ar (wc zpW (hf (nth ts x.1) (zaq oe) (x.2.2+1) (by have:=zgw (s:=s) (a:=x.2.2) ol;exact⟨by omega,by omega⟩)) I I ?_));refine ev (ab 3016 tz47 ?_);refine so ty47 ?_;refine ev (si [0] [_] sl45 tz47 ?_);refine ap sl45 zz47 I I I (by intro x hx;simp at hx;subst hx;rfl) ot ?_;refine ev (ar (xaj ((x.1+1,x.2.1++[(f (nth ts x.1) (x.2.2+1)).1],(f (nth ts x.1) (x.2.2+1)).2)) ⟨⟨by dsimp only;omega,by simp;omega,hfe _ _,hnext x.1 x.2.2 x.2.1 oe hg hg1.2.2.2 ol⟩,(by dsimp only;omega),sx ⟨⟨_,I,xaT ?_⟩,⟨⟨_,I,LeA.glg ?_⟩,⟨⟨_,I,xaT ?_⟩,O⟩⟩⟩ ⟨zar ?_,O⟩⟩));iterate 4 focus ((simp;done))
 refine rn0 (r2 I I) (.tup (qge ?_ ?_));rotate_left 2;all_goals (first|(rw[hbad x.1 x.2.2 x.2.1 oe hg hg1.2.2.2 ol];rfl)|(rw[hend x.1 x.2.2 x.2.1 oe hg1.2.2.2];first|rfl|exact(xaW _).symm))
set_option maxHeartbeats 4000000
theorem zba {x:Int} (h1:97<=x) (h2:x<=122):IntKind.i64.wrap (IntKind.u8.wrap (x-97))=x-97:=by
 rw[zfU,zdl oe];omega
section
variable {w:List Data}{s:Str}{n m:Nat}{t:Ty}
theorem zrp {a:Int} (h:a<0\/(s.length:Int)<=a):zaB w s (n+1) t a=(zcP,-1):=by unfold zaB;rw[if_pos h]
variable (hm:m<s.length)
include hm
theorem zkg:¬((m:Int)<0\/(s.length:Int)<=(m:Int)):=by omega
omit hm in
theorem zhd {x:UInt8} (h1:48<=(x.toNat:Int)) (h2:(x.toNat:Int)<=57):zbb x=true:=by unfold zbb;rw[xad,xah,xah];exact⟨h1,h2⟩
omit hm in
theorem ziE {x:UInt8} (h:¬(48<=(x.toNat:Int)/\(x.toNat:Int)<=57)):¬zbb x=true:=by unfold zbb;rw[xad,xah,xah];exact h
omit hm in
theorem ze9 {x:UInt8} (h1:97<=(x.toNat:Int)) (h2:(x.toNat:Int)<=122):zaN x=true:=by unfold zaN;rw[xad,xah,xah];exact⟨h1,h2⟩
omit hm in
theorem zhm {x:UInt8} (h:¬(97<=(x.toNat:Int)/\(x.toNat:Int)<=122)):¬zaN x=true:=by unfold zaN;rw[xad,xah,xah];exact h
omit hm in
theorem b_eq {x:UInt8}{k:Nat} (hk:k<256) (h:(x.toNat:Int)=(k:Int)):x=UInt8.ofNat k:=by
 rw[<-UInt8.toNat_inj,UInt8.toNat_ofNat_of_lt' hk];omega
omit hm in
theorem b_ne {x y:UInt8} (h:¬(x.toNat:Int)=(y.toNat:Int)):¬x=y:=fun e=>h (by rw[e])
theorem zo2 (h:((nth s m).toNat:Int)=95):zaB w s (n+1) t (m:Int)=(.mk 1 0 0 0 0 [],(m:Int)+1):=by
 unfold zaB;rw[if_neg (zkg hm),if_pos (show nth s ((m:Int)).toNat=95 from b_eq (k:=95) oe h)]
theorem zmM (h1:48<=((nth s m).toNat:Int)) (h2:((nth s m).toNat:Int)<=57):zaB w s (n+1) t (m:Int)=intP s m:=by
 unfold zaB;rw[if_neg (zkg hm),if_neg (show ¬nth s ((m:Int)).toNat=95 from b_ne (by show ¬((nth s m).toNat:Int)=95;omega)),if_pos (show zbb (nth s ((m:Int)).toNat)=true from zhd h1 h2)];rfl
theorem zqq (h:((nth s m).toNat:Int)=40):zaB w s (n+1) t (m:Int)=(if zbv s (kidV (zaB w s n) s [t,t] [40,124] (m:Int)).2 41=true then (.mk 5 0 0 0 0 (kidV (zaB w s n) s [t,t] [40,124] (m:Int)).1,(kidV (zaB w s n) s [t,t] [40,124] (m:Int)).2+1) else (zcP,-1)):=by
 rw[zaB];rw[if_neg (zkg hm),if_neg (show ¬nth s ((m:Int)).toNat=95 from b_ne (by show ¬((nth s m).toNat:Int)=95;omega)),if_neg (show ¬zbb (nth s ((m:Int)).toNat)=true from ziE (by show ¬(48<=((nth s m).toNat:Int)/\((nth s m).toNat:Int)<=57);omega)),if_pos (show nth s ((m:Int)).toNat=40 from b_eq (k:=40) oe h)]
theorem zmN (h1:97<=((nth s m).toNat:Int)) (h2:((nth s m).toNat:Int)<=122):zaB w s (n+1) t (m:Int)=if zbv s ((m:Int)+1) 64=true then (.mk 6 0 0 0 (((nth s m).toNat:Int)-97) (kidV (zaB w s n) s [t] [64] ((m:Int)+1)).1,(kidV (zaB w s n) s [t] [64] ((m:Int)+1)).2) else (.mk 2 0 0 0 (((nth s m).toNat:Int)-97) [],(m:Int)+1):=by
 rw[zaB];rw[if_neg (zkg hm),if_neg (show ¬nth s ((m:Int)).toNat=95 from b_ne (by show ¬((nth s m).toNat:Int)=95;omega)),if_neg (show ¬zbb (nth s ((m:Int)).toNat)=true from ziE (by show ¬(48<=((nth s m).toNat:Int)/\((nth s m).toNat:Int)<=57);omega)),if_neg (show ¬nth s ((m:Int)).toNat=40 from b_ne (by show ¬((nth s m).toNat:Int)=40;omega))];by_cases hg:zbv s ((m:Int)+1) 64=true
 ·rw[if_pos ⟨ze9 h1 h2,hg⟩,if_pos hg];rfl
 ·rw[if_neg (fun h=>hg h.2),if_pos (show zaN (nth s ((m:Int)).toNat)=true from ze9 h1 h2),if_neg hg];rfl
def conP (w:List Data) (s:Str) (n:Nat) (t:Ty) (m:Nat):Pat×Int:=
 if nmV w t (zbB s m)<0 then (zcP,-1)
 else if (zan w t (nmV w t (zbB s m))).length=0 then (.mk 4 (nmV w t (zbB s m)) 0 0 0 (kidV (zaB w s n) s (zan w t (nmV w t (zbB s m))) [40,44,44] ((m+zaA (s.drop m):Nat):Int)).1,(kidV (zaB w s n) s (zan w t (nmV w t (zbB s m))) [40,44,44] ((m+zaA (s.drop m):Nat):Int)).2)
 else if zbv s (kidV (zaB w s n) s (zan w t (nmV w t (zbB s m))) [40,44,44] ((m+zaA (s.drop m):Nat):Int)).2 41=true then (.mk 4 (nmV w t (zbB s m)) 0 0 0 (kidV (zaB w s n) s (zan w t (nmV w t (zbB s m))) [40,44,44] ((m+zaA (s.drop m):Nat):Int)).1,(kidV (zaB w s n) s (zan w t (nmV w t (zbB s m))) [40,44,44] ((m+zaA (s.drop m):Nat):Int)).2+1)
 else (zcP,-1)
theorem zo3 (h1:¬((nth s m).toNat:Int)=95) (h2:¬(48<=((nth s m).toNat:Int)/\((nth s m).toNat:Int)<=57)) (h3:¬((nth s m).toNat:Int)=40) (h4:¬(97<=((nth s m).toNat:Int)/\((nth s m).toNat:Int)<=122)):
  zaB w s (n+1) t (m:Int)=conP w s n t m:=by
 rw[zaB];rw[if_neg (zkg hm),if_neg (show ¬nth s ((m:Int)).toNat=95 from b_ne (by show ¬((nth s m).toNat:Int)=95;omega)),if_neg (show ¬zbb (nth s ((m:Int)).toNat)=true from ziE h2),if_neg (show ¬nth s ((m:Int)).toNat=40 from b_ne (by show ¬((nth s m).toNat:Int)=40;omega)),
  if_neg (fun h=>zhm h4 h.1),if_neg (show ¬zaN (nth s ((m:Int)).toNat)=true from zhm h4)]
 rfl
end
def A3 (w:List Data):Prop:=∀t c,TyIn w.length t->c∈zaW w t->(zan w t c).length<=3/\∀u∈zan w t c,TyIn w.length u
theorem zgx {w:List Data}{s:Str} (hw:WT w) (hA3:A3 w) (hs:s.length<=1000000000000 / 2):∀(n:Nat){a k:Int}{b:Int},n<=1000->TyIn w.length ⟨a,k⟩->EndIn s b->
  FnD Tryz.prog 17 [.d (zam w),.agg [.d (.i a),.d (.i k)],.d (.str s),.d (.i b),.d (.i n)] [] (.tup [.agg [.d (.i (zaB w s n ⟨a,k⟩ b).1.op),.d (.i (zaB w s n ⟨a,k⟩ b).1.ctor),.d (.i (zaB w s n ⟨a,k⟩ b).1.n),.d (.i (zaB w s n ⟨a,k⟩ b).1.m),.d (.i (zaB w s n ⟨a,k⟩ b).1.var),.d (zaC (zaB w s n ⟨a,k⟩ b).1.kids)],.d (.i (zaB w s n ⟨a,k⟩ b).2)]) []
 |0,a,k,b,_,_,_=>by
  rw[show zaB w s 0 ⟨a,k⟩ b=(zcP,-1) from rfl];refine bd Tryz.f17 172 [] [] fun _ _ _ _ hk=>?_;refine bx 3006 ?_;refine ab 3010 tz47 ?_;refine ev ?_;apply sq<;>intro h1 h1p h1s<;>(try simp only[Q] at h1p);refine sqT ?_;refine sqT ?_;refine bu [] [] st47 ?_;refine so ty47 ?_;refine ev ?_;focus (refine rn0 (rc ty47) (.tup (.cons (.agg (qeeeeen ?_ ?_ ?_ ?_ ?_ ?_)) (qe ?_)));all_goals (first|rfl|(simp[h1s,h1p];done)|(simp_all;done)|(simp_all;omega)|omega))
  focus (exfalso;first|omega|(simp at h1p;done))
 |n+1,a,k,b,hn,ht,hb=>by
  have hsl:s.length<=1000000000000:=by omega
  by_cases hout:b<0\/(s.length:Int)<=b
  ·rw[zrp hout];obtain⟨hb1,hb2⟩:=hb;refine bd Tryz.f17 172 [] [] fun _ _ _ _ hk=>?_;refine bx 3006 ?_;refine ab 3010 tz47 ?_;refine ev ?_;apply sq<;>intro h1 h1p h1s<;>(try simp only[Q] at h1p);refine sqT ?_;refine sqT ?_;refine bu [] [] st47 ?_;refine so ty47 ?_;refine ev ?_;focus (refine rn0 (rc ty47) (.tup (.cons (.agg (qeeeeen ?_ ?_ ?_ ?_ ?_ ?_)) (qe ?_)));all_goals (first|rfl|(simp[h1s,h1p];done)|(simp_all;done)|(simp_all;omega)|omega))
   apply sq<;>intro h3 h3p h3s<;>(try simp only[Q] at h3p);refine sqT ?_;refine bu [] [] st47 ?_;refine so ty47 ?_;refine ev ?_;focus (refine rn0 (rc ty47) (.tup (.cons (.agg (qeeeeen ?_ ?_ ?_ ?_ ?_ ?_)) (qe ?_)));all_goals (first|rfl|(simp[h1s,h1p,h3s,h3p];done)|(simp_all;done)|(simp_all;omega)|omega))
   apply sq<;>intro h5 h5p h5s<;>(try simp only[Q] at h5p);refine bu [] [] st47 ?_;refine so ty47 ?_;refine ev ?_;focus (refine rn0 (rc ty47) (.tup (.cons (.agg (qeeeeen ?_ ?_ ?_ ?_ ?_ ?_)) (qe ?_)));all_goals (first|rfl|(simp[h1s,h1p,h3s,h3p,h5s,h5p];done)|(simp_all;done)|(simp_all;omega)|omega))
   focus (exfalso;first|omega|(simp at h5p;done))
  obtain⟨m,rfl⟩:=Int.eq_ofNat_of_zero_le (show 0<=b by omega);have hm:m<s.length:=by omega
  have hkid:∀(ts:List Ty) (sg:List UInt8) (a0:Int),ts.length<=sg.length->sg.length<=3->(∀t∈ts,TyIn w.length t)->EndIn s a0->
    FnD Tryz.prog 38 [.d (zam w),.d (za9 ts),.d (zms sg),.d (.str s),.d (.i a0),.d (.i (((n+1:Nat):Int)-1))] [] (.tup [.d (zaC (kidV (zaB w s n) s ts sg a0).1),.d (.i (kidV (zaB w s n) s ts sg a0).2)]) []:=fun ts sg a0 h1 h2 h3' h4=>by
   rw[show(((n+1:Nat):Int)-1)=(n:Int) by omega];exact zlN hs h1 h2 h4 (zfF n) (fun t ht' b hb'=>zgx hw hA3 hs n (a:=t.data) (k:=t.index) oe (h3' t ht') hb')
  have hk1:=hkid [⟨a,k⟩,⟨a,k⟩] [40,124] (m:Int) oh oh (by intro t h;simp at h;subst h;exact ht) hb;have hk2:=fun h=>hkid [⟨a,k⟩] [64] ((m:Int)+1) oh oh (by intro t h;simp at h;subst h;exact ht) h;have hk3:=fun(h:¬nmV w ⟨a,k⟩ (zbB s m)<0)=>hkid (zan w ⟨a,k⟩ (nmV w ⟨a,k⟩ (zbB s m))) [40,44,44] ((m+zaA (s.drop m):Nat):Int) (by have:=(hA3 _ _ ht (zfS h)).1;simp;omega) oh (hA3 _ _ ht (zfS h)).2 (zjn (a:=(m:Int)) oe oe);have he1:EndIn s (kidV (zaB w s n) s [⟨a,k⟩,⟨a,k⟩] [40,124] (m:Int)).2:=zhk (zfF n) hb;have he3:EndIn s (kidV (zaB w s n) s (zan w ⟨a,k⟩ (nmV w ⟨a,k⟩ (zbB s m))) [40,44,44] ((m+zaA (s.drop m):Nat):Int)).2:=zhk (zfF n) (zjn (a:=(m:Int)) oe oe);have hnl:=zf5 (s.drop m);rw[List.length_drop] at hnl;have q0:=zo2 (w:=w) (t:=⟨a,k⟩) (n:=n) hm;have q1:=zmM (w:=w) (t:=⟨a,k⟩) (n:=n) hm;have q2:=zqq (w:=w) (t:=⟨a,k⟩) (n:=n) hm;have q3:=zmN (w:=w) (t:=⟨a,k⟩) (n:=n) hm;have q4:=zo3 (w:=w) (t:=⟨a,k⟩) (n:=n) hm;unfold conP at q4;have hag:=fun(h:¬nmV w ⟨a,k⟩ (zbB s m)<0)=>zfs hw ht (zfS h);have hnm:=zk1 hw ht (s:=zbB s m);generalize hK1:kidV (zaB w s n) s [⟨a,k⟩,⟨a,k⟩] [40,124] (m:Int)=K1 at *;generalize hK2:kidV (zaB w s n) s [⟨a,k⟩] [64] ((m:Int)+1)=K2 at *;generalize hK3:kidV (zaB w s n) s (zan w ⟨a,k⟩ (nmV w ⟨a,k⟩ (zbB s m))) [40,44,44] ((m+zaA (s.drop m):Nat):Int)=K3 at *;clear hK1 hK2 hK3 hkid;generalize nmV w ⟨a,k⟩ (zbB s m)=cc at *;generalize zan w ⟨a,k⟩ cc=ts at *;generalize zaB w s (n+1) ⟨a,k⟩ (m:Int)=R at *;have q2a:=fun(h:((nth s m).toNat:Int)=40) (hs:zbv s K1.2 41=true)=>(q2 h).trans (if_pos hs);have q2b:=fun(h:((nth s m).toNat:Int)=40) (hs:zbv s K1.2 41=false)=>(q2 h).trans (if_neg (by rw[hs];simp));have q3a:=fun(h:97<=((nth s m).toNat:Int)) (h':((nth s m).toNat:Int)<=122) (hs:zbv s ((m:Int)+1) 64=true)=>(q3 h h').trans (if_pos hs);have q3b:=fun(h:97<=((nth s m).toNat:Int)) (h':((nth s m).toNat:Int)<=122) (hs:zbv s ((m:Int)+1) 64=false)=>(q3 h h').trans (if_neg (by rw[hs];simp));have q4a:=fun a1 a2 a3 a4 (hs:cc<0)=>(q4 a1 a2 a3 a4).trans (if_pos hs);have q4b:=fun a1 a2 a3 a4 (hs:¬cc<0) (h0:ts.length=0)=>((q4 a1 a2 a3 a4).trans (if_neg hs)).trans (if_pos h0);have q4c:=fun a1 a2 a3 a4 (hs:¬cc<0) (h0:¬ts.length=0) (h9:zbv s K3.2 41=true)=>(((q4 a1 a2 a3 a4).trans (if_neg hs)).trans (if_neg h0)).trans (if_pos h9);have q4d:=fun a1 a2 a3 a4 (hs:¬cc<0) (h0:¬ts.length=0) (h9:zbv s K3.2 41=false)=>(((q4 a1 a2 a3 a4).trans (if_neg hs)).trans (if_neg h0)).trans (if_neg (by rw[h9];simp));clear q2 q3 q4;obtain⟨he1a,he1b⟩:=he1;obtain⟨he3a,he3b⟩:=he3;refine bd Tryz.f17 172 [110,123] [] fun _ _ _ _ hk=>?_;refine bx 3006 ?_;refine ab 3010 tz47 ?_;refine evs [110,123] [] ?_;apply sq<;>intro h1 h1p h1s<;>(try simp only[Q,xal,xac] at h1p);refine sqT ?_;refine sqT ?_;focus (exfalso;first|omega|(simp at HP;done))
  apply sq<;>intro h3 h3p h3s<;>(try simp only[Q,xal,xac] at h3p);refine sqT ?_;focus (exfalso;first|omega|(simp at HP;done))
  apply sq<;>intro h5 h5p h5s<;>(try simp only[Q,xal,xac] at h5p);focus (exfalso;first|omega|(simp at h5p;done))
  refine xbO un9 .none I I I I (zaZ oe) ?_;refine evs [110,123] [] ?_;apply sq<;>intro h6 h6p h6s<;>(try simp only[Q,xal,xac] at h6p);refine bu [0] [_] st47 ?_;refine evs [110,123] [] (ar (so ty47 ?_));refine evs [110,123] [] (rn0 (rc ty47) (.tup (.cons (.agg (qeeeeen ?_ ?_ ?_ ?_ ?_ ?_)) (qe ?_))));rotate_left 7;apply sq<;>intro h7 h7p h7s<;>(try simp only[Q,xal,xac] at h7p);apply sq<;>intro h8 h8p h8s<;>(try simp only[Q,xal,xac] at h8p);refine wc zrB (zlM hsl hm (zhd oe oe)) I I ?_;refine evs [110,123] [] (so ty47 ?_);refine evs [110,123] [] (rn0 (rc ty47) (.tup (.cons (.agg (qeeeeee ?_ ?_ ?_ ?_ ?_ ?_)) (qe ?_))));rotate_left 7;apply sq<;>intro h9 h9p h9s<;>(try simp only[Q,xal,xac] at h9p);refine si [0,1] [_,_] sl78 tz31 ?_;refine si [0,1] [_,_] sl79 tz5 ?_;refine evs [110,123] [] (ar (wc zcV hk1 I I ?_));refine evs [110,123] [] (wc zco (zaQ (s:=s) (a:=K1.2) (c:=41) hsl) I I ?_);refine evs [110,123] [] ?_;apply sq<;>intro h10 h10p h10s<;>(try simp only[Q,xal,xac] at h10p);refine bu [] [] st47 ?_;refine so ty47 ?_;refine evs [110,123] [] (rn0 (rc ty47) (.tup (.cons (.agg (qeeeeen ?_ ?_ ?_ ?_ ?_ ?_)) (qe ?_))));rotate_left 7;refine bu [0,5] [_,_] st47 ?_;refine evs [110,123] [] (ar (so ty47 ?_));refine evs [110,123] [] (rn0 (rc ty47) (.tup (.cons (.agg (qeeeeee ?_ ?_ ?_ ?_ ?_ ?_)) (qe ?_))));rotate_left 7;apply sq<;>intro h11 h11p h11s<;>(try simp only[Q,xal,xac] at h11p);apply sq<;>intro h12 h12p h12s<;>(try simp only[Q,xal,xac] at h12p);refine ar (Walk.call (cr:=[]) zco (zaQ (s:=s) (a:=(m:Int)+1) (c:=64) hsl) I (.some I I h12) I I (LeL.refl _) O I I I (evs [110,123] [(90,true)] ?_ ⟨⟨_,I,h12⟩,O⟩));apply sq<;>intro h13 h13p h13s<;>(try simp only[Q,xal,xac] at h13p);refine si [0] [_] sl78 tz31 ?_;refine si [0] [_] sl79 tz5 ?_;refine evs [110,123] [] (ar (ar (wc zcV (hk2 ⟨by omega,by omega⟩) I I ?_)));refine evs [110,123] [] (xb7 .none I I I (xbG o9 un3 .none I I ?_));refine evs [110,123] [] (bu [0,4,5] [_,_,_] st47 ?_);refine evs [110,123] [] (so ty47 ?_);refine evs [110,123] [] (rn0 (rc ty47) (.tup (.cons (.agg (qeeeeee ?_ ?_ ?_ ?_ ?_ ?_)) (qe ?_))));rotate_left 7;apply sq<;>intro h14 h14p h14s<;>(try simp only[Q,xal,xac] at h14p);apply sq<;>intro h15 h15p h15s<;>(try simp only[Q,xal,xac] at h15p);refine xb7 .none I I I (xbG o9 un3 .none I I ?_);refine bu [0,4] [_,_] st47 ?_;refine evs [110,123] [] (ar (so ty47 ?_));refine evs [110,123] [] (rn0 (rc ty47) (.tup (.cons (.agg (qeeeeen ?_ ?_ ?_ ?_ ?_ ?_)) (qe ?_))));rotate_left 7;refine wc zdX (zbo (s:=s) (n:=m) hsl oe) I I ?_;refine evs [110,123] [] (wc zdY hnm I I ?_);refine evs [110,123] [] ?_;apply sq<;>intro h16 h16p h16s<;>(try simp only[Q,xal,xac] at h16p);refine bu [] [] st47 ?_;refine so ty47 ?_;refine evs [110,123] [] (rn0 (rc ty47) (.tup (.cons (.agg (qeeeeen ?_ ?_ ?_ ?_ ?_ ?_)) (qe ?_))));rotate_left 7;refine wc zdv (hag oe) I I ?_;refine evs [110,123] [] (si [0,1,2] [_,_,_] sl79 tz5 ?_);refine evs [110,123] [] (ar (wc zcV (hk3 oe) I I ?_));refine evs [110,123] [] (bu [0,1,5] [_,_,_] st47 ?_);refine ab 3023 tz47 ?_;refine so ty47 ?_;apply tv;apply sq<;>intro h17 h17p h17s<;>(try simp only[Q,xal,xac] at h17p);refine so ty47 ?_;refine evs [110,123] [] (rn0 (rc ty47) (.tup (.cons (.agg (qeeeeee ?_ ?_ ?_ ?_ ?_ ?_)) (qe ?_))));rotate_left 7;refine wc zco (zaQ (s:=s) (a:=K3.2) (c:=41) hsl) I I ?_;refine evs [110,123] [] ?_;apply sq<;>intro h18 h18p h18s<;>(try simp only[Q,xal,xac] at h18p);refine bu [] [] st47 ?_;refine so ty47 ?_;refine evs [110,123] [] (rn0 (rc ty47) (.tup (.cons (.agg (qeeeeen ?_ ?_ ?_ ?_ ?_ ?_)) (qe ?_))));rotate_left 7;refine ar (so ty47 ?_);refine evs [110,123] [] (rn0 (rc ty47) (.tup (.cons (.agg (qeeeeee ?_ ?_ ?_ ?_ ?_ ?_)) (qe ?_))));rotate_left 7;refine sqF ?_;refine wc zdX (zbo (s:=s) (n:=m) hsl oe) I I ?_;refine evs [110,123] [] (wc zdY hnm I I ?_);refine evs [110,123] [] ?_;apply sq<;>intro h20 h20p h20s<;>(try simp only[Q,xal,xac] at h20p);refine bu [] [] st47 ?_;refine so ty47 ?_;refine evs [110,123] [] (rn0 (rc ty47) (.tup (.cons (.agg (qeeeeen ?_ ?_ ?_ ?_ ?_ ?_)) (qe ?_))));rotate_left 7;refine wc zdv (hag oe) I I ?_;refine evs [110,123] [] (si [0,1,2] [_,_,_] sl79 tz5 ?_);refine evs [110,123] [] (ar (wc zcV (hk3 oe) I I ?_));refine evs [110,123] [] (bu [0,1,5] [_,_,_] st47 ?_);refine ab 3023 tz47 ?_;refine so ty47 ?_;apply tv;apply sq<;>intro h21 h21p h21s<;>(try simp only[Q,xal,xac] at h21p);refine so ty47 ?_;refine evs [110,123] [] (rn0 (rc ty47) (.tup (.cons (.agg (qeeeeee ?_ ?_ ?_ ?_ ?_ ?_)) (qe ?_))));rotate_left 7;refine wc zco (zaQ (s:=s) (a:=K3.2) (c:=41) hsl) I I ?_;refine evs [110,123] [] ?_;apply sq<;>intro h22 h22p h22s<;>(try simp only[Q,xal,xac] at h22p);refine bu [] [] st47 ?_;refine so ty47 ?_;refine evs [110,123] [] (rn0 (rc ty47) (.tup (.cons (.agg (qeeeeen ?_ ?_ ?_ ?_ ?_ ?_)) (qe ?_))));rotate_left 7;refine ar (so ty47 ?_);refine evs [110,123] [] (rn0 (rc ty47) (.tup (.cons (.agg (qeeeeee ?_ ?_ ?_ ?_ ?_ ?_)) (qe ?_))));rotate_left 7;refine sqF ?_;apply sq<;>intro h24 h24p h24s<;>(try simp only[Q,xal,xac] at h24p);apply sq<;>intro h25 h25p h25s<;>(try simp only[Q,xal,xac] at h25p);refine xb7 .none I I I (xbG o9 un3 .none I I ?_);refine bu [0,4] [_,_] st47 ?_;refine evs [110,123] [] (ar (so ty47 ?_));refine evs [110,123] [] (rn0 (rc ty47) (.tup (.cons (.agg (qeeeeen ?_ ?_ ?_ ?_ ?_ ?_)) (qe ?_))));rotate_left 7;refine wc zdX (zbo (s:=s) (n:=m) hsl oe) I I ?_;refine evs [110,123] [] (wc zdY hnm I I ?_);refine evs [110,123] [] ?_;apply sq<;>intro h26 h26p h26s<;>(try simp only[Q,xal,xac] at h26p);refine bu [] [] st47 ?_;refine so ty47 ?_;refine evs [110,123] [] (rn0 (rc ty47) (.tup (.cons (.agg (qeeeeen ?_ ?_ ?_ ?_ ?_ ?_)) (qe ?_))));rotate_left 7;refine wc zdv (hag oe) I I ?_;refine evs [110,123] [] (si [0,1,2] [_,_,_] sl79 tz5 ?_);refine evs [110,123] [] (ar (wc zcV (hk3 oe) I I ?_));refine evs [110,123] [] (bu [0,1,5] [_,_,_] st47 ?_);refine ab 3023 tz47 ?_;refine so ty47 ?_;apply tv;apply sq<;>intro h27 h27p h27s<;>(try simp only[Q,xal,xac] at h27p);refine so ty47 ?_;refine evs [110,123] [] (rn0 (rc ty47) (.tup (.cons (.agg (qeeeeee ?_ ?_ ?_ ?_ ?_ ?_)) (qe ?_))));rotate_left 7;refine wc zco (zaQ (s:=s) (a:=K3.2) (c:=41) hsl) I I ?_;refine evs [110,123] [] ?_;apply sq<;>intro h28 h28p h28s<;>(try simp only[Q,xal,xac] at h28p);refine bu [] [] st47 ?_;refine so ty47 ?_;refine evs [110,123] [] (rn0 (rc ty47) (.tup (.cons (.agg (qeeeeen ?_ ?_ ?_ ?_ ?_ ?_)) (qe ?_))));rotate_left 7;refine ar (so ty47 ?_);refine evs [110,123] [] (rn0 (rc ty47) (.tup (.cons (.agg (qeeeeee ?_ ?_ ?_ ?_ ?_ ?_)) (qe ?_))));rotate_left 7;refine sqF ?_;refine wc zdX (zbo (s:=s) (n:=m) hsl oe) I I ?_;refine evs [110,123] [] (wc zdY hnm I I ?_);refine evs [110,123] [] ?_;apply sq<;>intro h30 h30p h30s<;>(try simp only[Q,xal,xac] at h30p);refine bu [] [] st47 ?_;refine so ty47 ?_;refine evs [110,123] [] (rn0 (rc ty47) (.tup (.cons (.agg (qeeeeen ?_ ?_ ?_ ?_ ?_ ?_)) (qe ?_))));rotate_left 7;refine wc zdv (hag oe) I I ?_;refine evs [110,123] [] (si [0,1,2] [_,_,_] sl79 tz5 ?_);refine evs [110,123] [] (ar (wc zcV (hk3 oe) I I ?_));refine evs [110,123] [] (bu [0,1,5] [_,_,_] st47 ?_);refine ab 3023 tz47 ?_;refine so ty47 ?_;apply tv;apply sq<;>intro h31 h31p h31s<;>(try simp only[Q,xal,xac] at h31p);refine so ty47 ?_;refine evs [110,123] [] (rn0 (rc ty47) (.tup (.cons (.agg (qeeeeee ?_ ?_ ?_ ?_ ?_ ?_)) (qe ?_))));rotate_left 7;refine wc zco (zaQ (s:=s) (a:=K3.2) (c:=41) hsl) I I ?_;refine evs [110,123] [] ?_;apply sq<;>intro h32 h32p h32s<;>(try simp only[Q,xal,xac] at h32p);refine bu [] [] st47 ?_;refine so ty47 ?_;refine evs [110,123] [] (rn0 (rc ty47) (.tup (.cons (.agg (qeeeeen ?_ ?_ ?_ ?_ ?_ ?_)) (qe ?_))));rotate_left 7;refine ar (so ty47 ?_);refine evs [110,123] [] (rn0 (rc ty47) (.tup (.cons (.agg (qeeeeee ?_ ?_ ?_ ?_ ?_ ?_)) (qe ?_))));rotate_left 7;refine sqF ?_;refine sqF ?_;apply sq<;>intro h34 h34p h34s<;>(try simp only[Q,xal,xac] at h34p);apply sq<;>intro h35 h35p h35s<;>(try simp only[Q,xal,xac] at h35p);refine xb7 .none I I I (xbG o9 un3 .none I I ?_);refine bu [0,4] [_,_] st47 ?_;refine evs [110,123] [] (ar (so ty47 ?_));refine evs [110,123] [] (rn0 (rc ty47) (.tup (.cons (.agg (qeeeeen ?_ ?_ ?_ ?_ ?_ ?_)) (qe ?_))));rotate_left 7;refine wc zdX (zbo (s:=s) (n:=m) hsl oe) I I ?_;refine evs [110,123] [] (wc zdY hnm I I ?_);refine evs [110,123] [] ?_;apply sq<;>intro h36 h36p h36s<;>(try simp only[Q,xal,xac] at h36p);refine bu [] [] st47 ?_;refine so ty47 ?_;refine evs [110,123] [] (rn0 (rc ty47) (.tup (.cons (.agg (qeeeeen ?_ ?_ ?_ ?_ ?_ ?_)) (qe ?_))));rotate_left 7;refine wc zdv (hag oe) I I ?_;refine evs [110,123] [] (si [0,1,2] [_,_,_] sl79 tz5 ?_);refine evs [110,123] [] (ar (wc zcV (hk3 oe) I I ?_));refine evs [110,123] [] (bu [0,1,5] [_,_,_] st47 ?_);refine ab 3023 tz47 ?_;refine so ty47 ?_;apply tv;apply sq<;>intro h37 h37p h37s<;>(try simp only[Q,xal,xac] at h37p);refine so ty47 ?_;refine evs [110,123] [] (rn0 (rc ty47) (.tup (.cons (.agg (qeeeeee ?_ ?_ ?_ ?_ ?_ ?_)) (qe ?_))));rotate_left 7;refine wc zco (zaQ (s:=s) (a:=K3.2) (c:=41) hsl) I I ?_;refine evs [110,123] [] ?_;apply sq<;>intro h38 h38p h38s<;>(try simp only[Q,xal,xac] at h38p);refine bu [] [] st47 ?_;refine so ty47 ?_;refine evs [110,123] [] (rn0 (rc ty47) (.tup (.cons (.agg (qeeeeen ?_ ?_ ?_ ?_ ?_ ?_)) (qe ?_))));rotate_left 7;refine ar (so ty47 ?_);refine evs [110,123] [] (rn0 (rc ty47) (.tup (.cons (.agg (qeeeeee ?_ ?_ ?_ ?_ ?_ ?_)) (qe ?_))));rotate_left 7;refine sqF ?_;refine wc zdX (zbo (s:=s) (n:=m) hsl oe) I I ?_;refine evs [110,123] [] (wc zdY hnm I I ?_);refine evs [110,123] [] ?_;apply sq<;>intro h40 h40p h40s<;>(try simp only[Q,xal,xac] at h40p);refine bu [] [] st47 ?_;refine so ty47 ?_;refine evs [110,123] [] (rn0 (rc ty47) (.tup (.cons (.agg (qeeeeen ?_ ?_ ?_ ?_ ?_ ?_)) (qe ?_))));rotate_left 7;refine wc zdv (hag oe) I I ?_;refine evs [110,123] [] (si [0,1,2] [_,_,_] sl79 tz5 ?_);refine evs [110,123] [] (ar (wc zcV (hk3 oe) I I ?_));refine evs [110,123] [] (bu [0,1,5] [_,_,_] st47 ?_);refine ab 3023 tz47 ?_;refine so ty47 ?_;apply tv;apply sq<;>intro h41 h41p h41s<;>(try simp only[Q,xal,xac] at h41p);refine so ty47 ?_;refine evs [110,123] [] (rn0 (rc ty47) (.tup (.cons (.agg (qeeeeee ?_ ?_ ?_ ?_ ?_ ?_)) (qe ?_))));rotate_left 7;refine wc zco (zaQ (s:=s) (a:=K3.2) (c:=41) hsl) I I ?_;refine evs [110,123] [] ?_;apply sq<;>intro h42 h42p h42s<;>(try simp only[Q,xal,xac] at h42p);refine bu [] [] st47 ?_;refine so ty47 ?_;refine evs [110,123] [] (rn0 (rc ty47) (.tup (.cons (.agg (qeeeeen ?_ ?_ ?_ ?_ ?_ ?_)) (qe ?_))));rotate_left 7;refine ar (so ty47 ?_);refine evs [110,123] [] (rn0 (rc ty47) (.tup (.cons (.agg (qeeeeee ?_ ?_ ?_ ?_ ?_ ?_)) (qe ?_))));rotate_left 7;refine sqF ?_;apply sq<;>intro h44 h44p h44s<;>(try simp only[Q,xal,xac] at h44p);refine si [0,1] [_,_] sl78 tz31 ?_;refine si [0,1] [_,_] sl79 tz5 ?_;refine evs [110,123] [] (ar (wc zcV hk1 I I ?_));refine evs [110,123] [] (wc zco (zaQ (s:=s) (a:=K1.2) (c:=41) hsl) I I ?_);refine evs [110,123] [] ?_;apply sq<;>intro h45 h45p h45s<;>(try simp only[Q,xal,xac] at h45p);refine bu [] [] st47 ?_;refine so ty47 ?_;refine evs [110,123] [] (rn0 (rc ty47) (.tup (.cons (.agg (qeeeeen ?_ ?_ ?_ ?_ ?_ ?_)) (qe ?_))));rotate_left 7;refine bu [0,5] [_,_] st47 ?_;refine evs [110,123] [] (ar (so ty47 ?_));refine evs [110,123] [] (rn0 (rc ty47) (.tup (.cons (.agg (qeeeeee ?_ ?_ ?_ ?_ ?_ ?_)) (qe ?_))));rotate_left 7;apply sq<;>intro h46 h46p h46s<;>(try simp only[Q,xal,xac] at h46p);apply sq<;>intro h47 h47p h47s<;>(try simp only[Q,xal,xac] at h47p);refine ar (Walk.call (cr:=[]) zco (zaQ (s:=s) (a:=(m:Int)+1) (c:=64) hsl) I (.some I I h47) I I (LeL.refl _) O I I I (evs [110,123] [(90,true)] ?_ ⟨⟨_,I,h47⟩,O⟩));apply sq<;>intro h48 h48p h48s<;>(try simp only[Q,xal,xac] at h48p);refine si [0] [_] sl78 tz31 ?_;refine si [0] [_] sl79 tz5 ?_;refine evs [110,123] [] (ar (ar (wc zcV (hk2 ⟨by omega,by omega⟩) I I ?_)));refine evs [110,123] [] (xb7 .none I I I (xbG o9 un3 .none I I ?_));refine evs [110,123] [] (bu [0,4,5] [_,_,_] st47 ?_);refine evs [110,123] [] (so ty47 ?_);refine evs [110,123] [] (rn0 (rc ty47) (.tup (.cons (.agg (qeeeeee ?_ ?_ ?_ ?_ ?_ ?_)) (qe ?_))));rotate_left 7;apply sq<;>intro h49 h49p h49s<;>(try simp only[Q,xal,xac] at h49p);apply sq<;>intro h50 h50p h50s<;>(try simp only[Q,xal,xac] at h50p);refine xb7 .none I I I (xbG o9 un3 .none I I ?_);refine bu [0,4] [_,_] st47 ?_;refine evs [110,123] [] (ar (so ty47 ?_));refine evs [110,123] [] (rn0 (rc ty47) (.tup (.cons (.agg (qeeeeen ?_ ?_ ?_ ?_ ?_ ?_)) (qe ?_))));rotate_left 7;refine wc zdX (zbo (s:=s) (n:=m) hsl oe) I I ?_;refine evs [110,123] [] (wc zdY hnm I I ?_);refine evs [110,123] [] ?_;apply sq<;>intro h51 h51p h51s<;>(try simp only[Q,xal,xac] at h51p);refine bu [] [] st47 ?_;refine so ty47 ?_;refine evs [110,123] [] (rn0 (rc ty47) (.tup (.cons (.agg (qeeeeen ?_ ?_ ?_ ?_ ?_ ?_)) (qe ?_))));rotate_left 7;refine wc zdv (hag oe) I I ?_;refine evs [110,123] [] (si [0,1,2] [_,_,_] sl79 tz5 ?_);refine evs [110,123] [] (ar (wc zcV (hk3 oe) I I ?_));refine evs [110,123] [] (bu [0,1,5] [_,_,_] st47 ?_);refine ab 3023 tz47 ?_;refine so ty47 ?_;apply tv;apply sq<;>intro h52 h52p h52s<;>(try simp only[Q,xal,xac] at h52p);refine so ty47 ?_;refine evs [110,123] [] (rn0 (rc ty47) (.tup (.cons (.agg (qeeeeee ?_ ?_ ?_ ?_ ?_ ?_)) (qe ?_))));rotate_left 7;refine wc zco (zaQ (s:=s) (a:=K3.2) (c:=41) hsl) I I ?_;refine evs [110,123] [] ?_;apply sq<;>intro h53 h53p h53s<;>(try simp only[Q,xal,xac] at h53p);refine bu [] [] st47 ?_;refine so ty47 ?_;refine evs [110,123] [] (rn0 (rc ty47) (.tup (.cons (.agg (qeeeeen ?_ ?_ ?_ ?_ ?_ ?_)) (qe ?_))));rotate_left 7;refine ar (so ty47 ?_);refine evs [110,123] [] (rn0 (rc ty47) (.tup (.cons (.agg (qeeeeee ?_ ?_ ?_ ?_ ?_ ?_)) (qe ?_))));rotate_left 7;refine sqF ?_;refine wc zdX (zbo (s:=s) (n:=m) hsl oe) I I ?_;refine evs [110,123] [] (wc zdY hnm I I ?_);refine evs [110,123] [] ?_;apply sq<;>intro h55 h55p h55s<;>(try simp only[Q,xal,xac] at h55p);refine bu [] [] st47 ?_;refine so ty47 ?_;refine evs [110,123] [] (rn0 (rc ty47) (.tup (.cons (.agg (qeeeeen ?_ ?_ ?_ ?_ ?_ ?_)) (qe ?_))));rotate_left 7;refine wc zdv (hag oe) I I ?_;refine evs [110,123] [] (si [0,1,2] [_,_,_] sl79 tz5 ?_);refine evs [110,123] [] (ar (wc zcV (hk3 oe) I I ?_));refine evs [110,123] [] (bu [0,1,5] [_,_,_] st47 ?_);refine ab 3023 tz47 ?_;refine so ty47 ?_;apply tv;apply sq<;>intro h56 h56p h56s<;>(try simp only[Q,xal,xac] at h56p);refine so ty47 ?_;refine evs [110,123] [] (rn0 (rc ty47) (.tup (.cons (.agg (qeeeeee ?_ ?_ ?_ ?_ ?_ ?_)) (qe ?_))));rotate_left 7;refine wc zco (zaQ (s:=s) (a:=K3.2) (c:=41) hsl) I I ?_;refine evs [110,123] [] ?_;apply sq<;>intro h57 h57p h57s<;>(try simp only[Q,xal,xac] at h57p);refine bu [] [] st47 ?_;refine so ty47 ?_;refine evs [110,123] [] (rn0 (rc ty47) (.tup (.cons (.agg (qeeeeen ?_ ?_ ?_ ?_ ?_ ?_)) (qe ?_))));rotate_left 7;refine ar (so ty47 ?_);refine evs [110,123] [] (rn0 (rc ty47) (.tup (.cons (.agg (qeeeeee ?_ ?_ ?_ ?_ ?_ ?_)) (qe ?_))));rotate_left 7;refine sqF ?_;apply sq<;>intro h59 h59p h59s<;>(try simp only[Q,xal,xac] at h59p);apply sq<;>intro h60 h60p h60s<;>(try simp only[Q,xal,xac] at h60p);refine xb7 .none I I I (xbG o9 un3 .none I I ?_);refine bu [0,4] [_,_] st47 ?_;refine evs [110,123] [] (ar (so ty47 ?_));refine evs [110,123] [] (rn0 (rc ty47) (.tup (.cons (.agg (qeeeeen ?_ ?_ ?_ ?_ ?_ ?_)) (qe ?_))));rotate_left 7;refine wc zdX (zbo (s:=s) (n:=m) hsl oe) I I ?_;refine evs [110,123] [] (wc zdY hnm I I ?_);refine evs [110,123] [] ?_;apply sq<;>intro h61 h61p h61s<;>(try simp only[Q,xal,xac] at h61p);refine bu [] [] st47 ?_;refine so ty47 ?_;refine evs [110,123] [] (rn0 (rc ty47) (.tup (.cons (.agg (qeeeeen ?_ ?_ ?_ ?_ ?_ ?_)) (qe ?_))));rotate_left 7;refine wc zdv (hag oe) I I ?_;refine evs [110,123] [] (si [0,1,2] [_,_,_] sl79 tz5 ?_);refine evs [110,123] [] (ar (wc zcV (hk3 oe) I I ?_));refine evs [110,123] [] (bu [0,1,5] [_,_,_] st47 ?_);refine ab 3023 tz47 ?_;refine so ty47 ?_;apply tv;apply sq<;>intro h62 h62p h62s<;>(try simp only[Q,xal,xac] at h62p);refine so ty47 ?_;refine evs [110,123] [] (rn0 (rc ty47) (.tup (.cons (.agg (qeeeeee ?_ ?_ ?_ ?_ ?_ ?_)) (qe ?_))));rotate_left 7;refine wc zco (zaQ (s:=s) (a:=K3.2) (c:=41) hsl) I I ?_;refine evs [110,123] [] ?_;apply sq<;>intro h63 h63p h63s<;>(try simp only[Q,xal,xac] at h63p);refine bu [] [] st47 ?_;refine so ty47 ?_;refine evs [110,123] [] (rn0 (rc ty47) (.tup (.cons (.agg (qeeeeen ?_ ?_ ?_ ?_ ?_ ?_)) (qe ?_))));rotate_left 7;refine ar (so ty47 ?_);refine evs [110,123] [] (rn0 (rc ty47) (.tup (.cons (.agg (qeeeeee ?_ ?_ ?_ ?_ ?_ ?_)) (qe ?_))));rotate_left 7;refine sqF ?_;refine wc zdX (zbo (s:=s) (n:=m) hsl oe) I I ?_;refine evs [110,123] [] (wc zdY hnm I I ?_);refine evs [110,123] [] ?_;apply sq<;>intro h65 h65p h65s<;>(try simp only[Q,xal,xac] at h65p);refine bu [] [] st47 ?_;refine so ty47 ?_;refine evs [110,123] [] (rn0 (rc ty47) (.tup (.cons (.agg (qeeeeen ?_ ?_ ?_ ?_ ?_ ?_)) (qe ?_))));rotate_left 7;refine wc zdv (hag oe) I I ?_;refine evs [110,123] [] (si [0,1,2] [_,_,_] sl79 tz5 ?_);refine evs [110,123] [] (ar (wc zcV (hk3 oe) I I ?_));refine evs [110,123] [] (bu [0,1,5] [_,_,_] st47 ?_);refine ab 3023 tz47 ?_;refine so ty47 ?_;apply tv;apply sq<;>intro h66 h66p h66s<;>(try simp only[Q,xal,xac] at h66p);refine so ty47 ?_;refine evs [110,123] [] (rn0 (rc ty47) (.tup (.cons (.agg (qeeeeee ?_ ?_ ?_ ?_ ?_ ?_)) (qe ?_))));rotate_left 7;refine wc zco (zaQ (s:=s) (a:=K3.2) (c:=41) hsl) I I ?_;refine evs [110,123] [] ?_;apply sq<;>intro h67 h67p h67s<;>(try simp only[Q,xal,xac] at h67p);refine bu [] [] st47 ?_;refine so ty47 ?_;refine evs [110,123] [] (rn0 (rc ty47) (.tup (.cons (.agg (qeeeeen ?_ ?_ ?_ ?_ ?_ ?_)) (qe ?_))));rotate_left 7;refine ar (so ty47 ?_);refine evs [110,123] [] (rn0 (rc ty47) (.tup (.cons (.agg (qeeeeee ?_ ?_ ?_ ?_ ?_ ?_)) (qe ?_))));rotate_left 7;refine sqF ?_;refine sqF ?_;apply sq<;>intro h69 h69p h69s<;>(try simp only[Q,xal,xac] at h69p);apply sq<;>intro h70 h70p h70s<;>(try simp only[Q,xal,xac] at h70p);refine xb7 .none I I I (xbG o9 un3 .none I I ?_);refine bu [0,4] [_,_] st47 ?_;refine evs [110,123] [] (ar (so ty47 ?_));refine evs [110,123] [] (rn0 (rc ty47) (.tup (.cons (.agg (qeeeeen ?_ ?_ ?_ ?_ ?_ ?_)) (qe ?_))));rotate_left 7;refine wc zdX (zbo (s:=s) (n:=m) hsl oe) I I ?_;refine evs [110,123] [] (wc zdY hnm I I ?_);refine evs [110,123] [] ?_;apply sq<;>intro h71 h71p h71s<;>(try simp only[Q,xal,xac] at h71p);refine bu [] [] st47 ?_;refine so ty47 ?_;refine evs [110,123] [] (rn0 (rc ty47) (.tup (.cons (.agg (qeeeeen ?_ ?_ ?_ ?_ ?_ ?_)) (qe ?_))));rotate_left 7;refine wc zdv (hag oe) I I ?_;refine evs [110,123] [] (si [0,1,2] [_,_,_] sl79 tz5 ?_);refine evs [110,123] [] (ar (wc zcV (hk3 oe) I I ?_));refine evs [110,123] [] (bu [0,1,5] [_,_,_] st47 ?_);refine ab 3023 tz47 ?_;refine so ty47 ?_;apply tv;apply sq<;>intro h72 h72p h72s<;>(try simp only[Q,xal,xac] at h72p);refine so ty47 ?_;refine evs [110,123] [] (rn0 (rc ty47) (.tup (.cons (.agg (qeeeeee ?_ ?_ ?_ ?_ ?_ ?_)) (qe ?_))));rotate_left 7;refine wc zco (zaQ (s:=s) (a:=K3.2) (c:=41) hsl) I I ?_;refine evs [110,123] [] ?_;apply sq<;>intro h73 h73p h73s<;>(try simp only[Q,xal,xac] at h73p);refine bu [] [] st47 ?_;refine so ty47 ?_;refine evs [110,123] [] (rn0 (rc ty47) (.tup (.cons (.agg (qeeeeen ?_ ?_ ?_ ?_ ?_ ?_)) (qe ?_))));rotate_left 7;refine ar (so ty47 ?_);refine evs [110,123] [] (rn0 (rc ty47) (.tup (.cons (.agg (qeeeeee ?_ ?_ ?_ ?_ ?_ ?_)) (qe ?_))));rotate_left 7;refine sqF ?_;refine wc zdX (zbo (s:=s) (n:=m) hsl oe) I I ?_;refine evs [110,123] [] (wc zdY hnm I I ?_);refine evs [110,123] [] ?_;apply sq<;>intro h75 h75p h75s<;>(try simp only[Q,xal,xac] at h75p);refine bu [] [] st47 ?_;refine so ty47 ?_;refine evs [110,123] [] (rn0 (rc ty47) (.tup (.cons (.agg (qeeeeen ?_ ?_ ?_ ?_ ?_ ?_)) (qe ?_))));rotate_left 7;refine wc zdv (hag oe) I I ?_;refine evs [110,123] [] (si [0,1,2] [_,_,_] sl79 tz5 ?_);refine evs [110,123] [] (ar (wc zcV (hk3 oe) I I ?_));refine evs [110,123] [] (bu [0,1,5] [_,_,_] st47 ?_);refine ab 3023 tz47 ?_;refine so ty47 ?_;apply tv;apply sq<;>intro h76 h76p h76s<;>(try simp only[Q,xal,xac] at h76p);refine so ty47 ?_;refine evs [110,123] [] (rn0 (rc ty47) (.tup (.cons (.agg (qeeeeee ?_ ?_ ?_ ?_ ?_ ?_)) (qe ?_))));rotate_left 7;refine wc zco (zaQ (s:=s) (a:=K3.2) (c:=41) hsl) I I ?_;refine evs [110,123] [] ?_;apply sq<;>intro h77 h77p h77s<;>(try simp only[Q,xal,xac] at h77p);refine bu [] [] st47 ?_;refine so ty47 ?_;refine evs [110,123] [] (rn0 (rc ty47) (.tup (.cons (.agg (qeeeeen ?_ ?_ ?_ ?_ ?_ ?_)) (qe ?_))));rotate_left 7;refine ar (so ty47 ?_);refine evs [110,123] [] (rn0 (rc ty47) (.tup (.cons (.agg (qeeeeee ?_ ?_ ?_ ?_ ?_ ?_)) (qe ?_))));rotate_left 7;all_goals (first|(rw[q0 oe];all_goals rfl)|(rw[q1 oe oe];done)|(rw[q1 oe oe];all_goals rfl)|(rw[q2a oe ol];all_goals rfl)|(rw[q2b oe ol];all_goals rfl)|(rw[q3a oe oe ol];all_goals first|(rw[zba oe oe];all_goals rfl)|rfl)|(rw[q3b oe oe ol];all_goals first|(rw[zba oe oe];all_goals rfl)|rfl)|(rw[q4a oe oe oe oe oe];all_goals rfl)|(rw[q4b oe oe oe oe oe oe];all_goals rfl)|(rw[q4c oe oe oe oe oe oe ol];all_goals rfl)|(rw[q4d oe oe oe oe oe oe ol];all_goals rfl)|(exfalso;omega))
set_option maxHeartbeats 2000000
def zbf (r:Rd):Rd:=⟨r.s.drop (zaA r.s),r.bad||decide (zaA r.s=0)⟩
def zcN (r:Rd):Str:=r.s.take (zaA r.s)
def zcu (w:List Data) (t:Ty) (r:Rd):Bool:= !(zbf r).bad&& !decide (nmV w t (zcN r)<0)
def zbt (w:List Data) (t:Ty) (r:Rd):Rd:=if zcu w t r=true then zbf r else ⟨(zbf r).s,true⟩
def zbg (w:List Data) (t:Ty) (r:Rd):Int:=if zcu w t r=true then nmV w t (zcN r) else 0
def zbe (f:Ty->Rd->Pat×Rd):Bool->List Ty->Rd->List Pat×Rd
 |_,[],r=>([],r)
 |b,t::ts,r=>if r.bad=true then ([],r) else
  ((f t (zaP r (if b=true then 40 else 44))).1::(zbe f false ts (f t (zaP r (if b=true then 40 else 44))).2).1,(zbe f false ts (f t (zaP r (if b=true then 40 else 44))).2).2)
def zb3 (ts:List Ty) (r:Rd):Rd:=if 0<ts.length then zaP r 41 else r
def patR (w:List Data):Nat->Ty->Rd->Pat×Rd
 |0,_,r=>(zcP,⟨r.s,true⟩)
 |n+1,t,r=>
  if zaw r=0 then (zcP,⟨r.s,true⟩)
  else if zaw r=95 then (.mk 1 0 0 0 0 [],oneR r)
  else if zaN (zaw r)=true then
   (if zaw (oneR r)=64 then (.mk 6 0 0 0 (((zaw r).toNat:Int)-97) [(patR w n t (oneR (oneR r))).1],(patR w n t (oneR (oneR r))).2)
    else (.mk 2 0 0 0 (((zaw r).toNat:Int)-97) [],oneR r))
  else if zbb (zaw r)=true then
   (if zaw (digR r)=45 then (.mk 3 0 (zcX r) (zcX (oneR (digR r))) 0 [],⟨(digR (oneR (digR r))).s,(digR (oneR (digR r))).bad||decide (zcX (oneR (digR r))=zcX r)⟩)
    else (.mk 3 0 (zcX r) (zcX r) 0 [],digR r))
  else if zaw r=40 then
   (.mk 5 0 0 0 0 [(patR w n t (oneR r)).1,(patR w n t (zaP (patR w n t (oneR r)).2 124)).1],zaP (patR w n t (zaP (patR w n t (oneR r)).2 124)).2 41)
  else if (zbt w t r).bad=true then (.mk 4 (zbg w t r) 0 0 0 [],zbt w t r)
  else (.mk 4 (zbg w t r) 0 0 0 (zbe (patR w n) true (zan w t (zbg w t r)) (zbt w t r)).1,zb3 (zan w t (zbg w t r)) (zbe (patR w n) true (zan w t (zbg w t r)) (zbt w t r)).2)
theorem zcj (r:Rd):(oneR r).s.length<=r.s.length:=by unfold oneR;split<;>simp
theorem zde (r:Rd) (b:UInt8):(zaP r b).s.length<=r.s.length:=zcj r
theorem zjd (r:Rd):(digR r).s.length<=r.s.length:=by unfold digR;split<;>exact zcj r
theorem zoP (r:Rd):(zbf r).s.length<=r.s.length:=by unfold zbf;simp
theorem zgj (w:List Data) (t:Ty) (r:Rd):(zbt w t r).s.length<=r.s.length:=by unfold zbt;split<;>exact zoP r
theorem zoH (ts:List Ty) (r:Rd):(zb3 ts r).s.length<=r.s.length:=by
 unfold zb3;split
 ·exact zde r _
 ·exact Nat.le_refl _
theorem zlj {f:Ty->Rd->Pat×Rd} (hf:∀t r,(f t r).2.s.length<=r.s.length):∀(ts:List Ty) (b:Bool) (r:Rd),(zbe f b ts r).2.s.length<=r.s.length
 | [],b,r=>Nat.le_refl _
 |t::ts,b,r=>by
  rw[zbe];split
  ·exact Nat.le_refl _
  ·exact Nat.le_trans (zlj hf ts false _) (Nat.le_trans (hf t _) (zde r _))
theorem zf8 (w:List Data):∀(n:Nat) (t:Ty) (r:Rd),(patR w n t r).2.s.length<=r.s.length
 |0,t,r=>Nat.le_refl _
 |n+1,t,r=>by
  have ih:=zf8 w n;rw[patR];split
  ·exact Nat.le_refl _
  split
  ·exact zcj r
  split
  ·split
   ·exact Nat.le_trans (ih t _) (Nat.le_trans (zcj _) (zcj r))
   ·exact zcj r
  split
  ·split
   ·exact Nat.le_trans (zjd _) (Nat.le_trans (zcj _) (zjd r))
   ·exact zjd r
  split
  ·exact Nat.le_trans (zde _ _) (Nat.le_trans (ih t _) (Nat.le_trans (zde _ _) (Nat.le_trans (ih t _) (zcj r))))
  split
  ·exact zgj w t r
  ·exact Nat.le_trans (zoH _ _) (Nat.le_trans (zlj ih _ _ _) (zgj w t r))
theorem zmE {f:Ty->Rd->Pat×Rd}{M:Nat}:∀(ts:List Ty) (b:Bool) (r:Rd),(∀t∈ts,∀r,(f t r).1.ok/\(f t r).1.size<=M)->Pats.ok (zbe f b ts r).1/\Pats.size (zbe f b ts r).1<=ts.length*M/\(zbe f b ts r).1.length<=ts.length
 | [],b,r,_=>⟨trivial,by simp[zbe,Pats.size],by simp[zbe]⟩
 |t::ts,b,r,hf=>by
  rw[zbe];split
  ·exact⟨trivial,by simp[Pats.size],by simp⟩
  ·obtain⟨h1,h2,h3⟩:=zmE ts false (f t (zaP r (if b=true then 40 else 44))).2 (fun u hu=>hf u (by simp[hu]));have h0:=hf t oh (zaP r (if b=true then 40 else 44));refine⟨⟨h0.1,h1⟩, ?_,by simp only[xab];omega⟩;rw[Pats.size,xab,Nat.add_mul];omega
theorem ze3 {w:List Data}{t:Ty}{r:Rd} (h:(zbt w t r).bad=false):zcu w t r=true/\zbg w t r=nmV w t (zcN r)/\zbg w t r∈zaW w t/\zbt w t r=zbf r:=by
 have h1:zcu w t r=true:=by
  cases e:zcu w t r with
  |true=>rfl
  |false=>unfold zbt at h;rw[if_neg (by rw[e];simp)] at h;cases h
 have h2:zbg w t r=nmV w t (zcN r):=by unfold zbg;rw[if_pos h1]
 refine⟨h1,h2, ?_,by unfold zbt;rw[if_pos h1]⟩;rw[h2];unfold zcu at h1;simp only[xad,Bool.not_eq_true',decide_eq_false_iff_not] at h1;exact zfS h1.2
theorem zfT {w:List Data} (hA:A3 w):∀(n:Nat){t:Ty} (r:Rd),TyIn w.length t->(patR w n t r).1.ok/\(patR w n t r).1.size<=4 ^ n
 |0,t,r,_=>⟨by rw[xa1];exact⟨by simp[patR,Pat.kids],trivial⟩,by rw[xa4];simp[patR,Pat.kids,Pats.size]⟩
 |n+1,t,r,ht=>by
  have ih:=fun {t:Ty} (r:Rd) (h:TyIn w.length t)=>zfT hA n r h;have hp:1<=4 ^ n:=Nat.pow_pos oe;have he:4 ^ (n+1)=4*4 ^ n:=by rw[Nat.pow_succ];omega
  have node:∀ {x1 x2 x3 x4 x5:Int}{l:List Pat},l.length<=3->Pats.ok l->Pats.size l<=3*4 ^ n->(Pat.mk x1 x2 x3 x4 x5 l).ok/\(Pat.mk x1 x2 x3 x4 x5 l).size<=4 ^ (n+1):=fun {x1 x2 x3 x4 x5 l} k3 k1 k2=>by
   refine⟨by rw[xa1];exact⟨by show l.length<=_;omega,k1⟩, ?_⟩;rw[xa4];show 1+Pats.size l<=_
   omega
  have leaf:∀ {x1 x2 x3 x4 x5:Int},(Pat.mk x1 x2 x3 x4 x5 []).ok/\(Pat.mk x1 x2 x3 x4 x5 []).size<=4 ^ (n+1):=node oh trivial (by simp[Pats.size]);rw[patR];split
  ·exact leaf
  split
  ·exact leaf
  split
  ·split
   ·have k:=ih (oneR (oneR r)) ht;exact node oh ⟨k.1,O⟩ (by simp only[Pats.size];omega)
   ·exact leaf
  split
  ·split<;>exact leaf
  split
  ·have k:=ih (oneR r) ht;have k2:=ih (zaP (patR w n t (oneR r)).2 124) ht;exact node oh ⟨k.1,k2.1,O⟩ (by simp only[Pats.size];omega)
  split
  ·exact leaf
  ·rename_i hb;have hm:=(ze3 (w:=w) (t:=t) (r:=r) (by simpa using hb)).2.2.1;have hA':=hA t _ ht hm;obtain⟨k1,k2,k3⟩:=zmE (f:=patR w n) (zan w t (zbg w t r)) true (zbt w t r) (fun u hu r=>ih r (hA'.2 u hu));refine node oe k1 (Nat.le_trans k2 (xav _ hA'.1))
theorem zn8 {s:Str}{e:Nat} (he:e<s.length) (hg:(if e=0 then zaA s else e+lowL (s.drop e))=zaA s)
  (hc:(e=0/\zbc (nth s e)=true)\/(0<e/\zaN (nth s e)=true)):(if e+1=0 then zaA s else e+1+lowL (s.drop (e+1)))=zaA s:=by
 have:=zll (s:=s) (n:=0) (e:=e) oe he (by simpa using hg) hc;simpa using this
theorem zn9 {s:Str}{e:Nat} (he:e<=s.length) (hg:(if e=0 then zaA s else e+lowL (s.drop e))=zaA s)
  (hc:e=s.length\/(e=0/\zbc (nth s e)=false)\/(0<e/\zaN (nth s e)=false)):e=zaA s:=by
 have:=zlm (s:=s) (n:=0) (e:=e) oe he (by simpa using hg) hc;simpa using this
theorem up_y {x:UInt8} (h1:65<=(x.toNat:Int)) (h2:(x.toNat:Int)<=90):zbc x=true:=by unfold zbc;rw[xad,xah,xah];exact⟨h1,h2⟩
theorem up_f {x:UInt8} (h:¬(65<=(x.toNat:Int)/\(x.toNat:Int)<=90)):zbc x=false:=by unfold zbc;rw[Bool.and_eq_false_iff,decide_eq_false_iff_not,decide_eq_false_iff_not];omega
theorem zqm {x:UInt8} (h:¬(97<=(x.toNat:Int)/\(x.toNat:Int)<=122)):zaN x=false:=by unfold zaN;rw[Bool.and_eq_false_iff,decide_eq_false_iff_not,decide_eq_false_iff_not];omega
theorem ou{p:Prop}(h:p:=by first|omega|(simp;omega)):p:=h
theorem zhO {w:List Data}{r:Rd} (hs:r.s.length<=1000000000000):FnD Tryz.prog 114 [.ref 901 0] [(901,some (.box (rdC w r)))] (.d (.str (zcN r))) [(901,some (.box (rdC w (zbf r))))]:=by
 have hle:=zf5 r.s;have hstop:=fun(e:Nat)=>zn9 (s:=r.s) (e:=e);have hstep:=fun(e:Nat)=>zn8 (s:=r.s) (e:=e);refine bd Tryz.f114 85 [] [] fun _ _ _ _ hk=>?_;refine xaD (ι:=Nat) hk (fun e=>[(3,.d (.i (e:Int)))]) [5,6,7,8,9,10,11,12,13,14,15,16,17,18,19,20,21,22,23,24,25,26,27,28,29,30,31,32,33,34,35,36,37,38,39,40,41,42,43,44,45,46,47,48,49,50,51,52,53,54,55,56,57] (fun e=>[]) (fun e=>e<=r.s.length/\(if e=0 then zaA r.s else e+lowL (r.s.drop e))=zaA r.s) (fun e=>r.s.length-e) 0 ⟨Nat.zero_le _,if_pos I⟩ ⟨⟨_,I,xaT ?_⟩,O⟩ O (fun x=>rfl) (fun e hg1=>?_);focus (first|rfl|(simp;done)|omega)
 refine evc [] [] ?_;apply sq<;>intro h1 h1p h1s<;>(try simp only[Q,xal] at h1p);apply sq<;>intro h2 h2p h2s<;>(try simp only[Q,xal] at h2p);refine xbO un9 (.some I I h2) I I I I (zaZ oe) ?_;refine evs [] [(12,true),(15,true)] ?_ ⟨⟨_,I,h1⟩,⟨_,I,h2⟩,O⟩;apply sq<;>intro h3 h3p h3s<;>(try simp only[Q,xal] at h3p);refine xbO un9 (.some I I h3) I I I I (zaZ oe) ?_;refine evs [] [(12,true),(24,true)] ?_ ⟨⟨_,I,h1⟩,⟨_,I,h3⟩,O⟩;apply sq<;>intro h4 h4p h4s<;>(try simp only[Q,xal] at h4p);refine sqT ?_;refine ar (xaj (e+1) ⟨⟨by omega,hstep e oe hg1.2 (by first|exact .inl ⟨by omega,up_y oe oe⟩|exact .inr ⟨by omega,ze9 oe oe⟩)⟩,oe,sx ⟨⟨_,I,xaT ?_⟩,O⟩ O⟩);focus (first|rfl|(simp;done)|omega)
 apply sq<;>intro h6 h6p h6s<;>(try simp only[Q,xal] at h6p);refine xbO un9 (.some I I h6) I I I I (zaZ oe) ?_;refine evs [] [(12,true),(33,false),(36,true)] ?_ ⟨⟨_,I,h1⟩,⟨_,I,h4⟩,⟨_,I,h6⟩,O⟩;apply sq<;>intro h7 h7p h7s<;>(try simp only[Q,xal] at h7p);refine xbO un9 (.some I I h7) I I I I (zaZ oe) ?_;refine evs [] [(12,true),(33,false),(45,true)] ?_ ⟨⟨_,I,h1⟩,⟨_,I,h4⟩,⟨_,I,h7⟩,O⟩;apply sq<;>intro h8 h8p h8s<;>(try simp only[Q,xal] at h8p);refine ar (xaj (e+1) ⟨⟨by omega,hstep e oe hg1.2 (by first|exact .inl ⟨by omega,up_y oe oe⟩|exact .inr ⟨by omega,ze9 oe oe⟩)⟩,oe,sx ⟨⟨_,I,xaT ?_⟩,O⟩ O⟩);focus (first|rfl|(simp;done)|omega)
 refine xbH un9 .none I I I I ou ?_;refine ev (xbI un9 .none I I I I ou ?_);refine evd [] [] ?_;apply sq<;>intro h9 h9p h9s<;>(try simp only[Q,xal] at h9p);refine so ty9 ?_;refine evd [] [] (so ty4 ?_);refine dr (rn [(901,some (.box (rdC w (zbf r))))] (r1 I) (.eqd ?_) ⟨I,I⟩ (SubO.get ⟨.inr ?_,⟨.inl I,O⟩⟩) (zao I));rotate_left 2;refine so ty9 ?_;refine evd [] [] (so ty4 ?_);refine dr (rn [(901,some (.box (rdC w (zbf r))))] (r1 I) (.eqd ?_) ⟨I,I⟩ (SubO.get ⟨.inr ?_,⟨.inl I,O⟩⟩) (zao I));rotate_left 2;refine sqF ?_;refine xbH un9 .none I I I I ou ?_;refine ev (xbI un9 .none I I I I ou ?_);refine evd [] [] ?_;apply sq<;>intro h11 h11p h11s<;>(try simp only[Q,xal] at h11p);refine so ty9 ?_;refine evd [] [] (so ty4 ?_);refine dr (rn [(901,some (.box (rdC w (zbf r))))] (r1 I) (.eqd ?_) ⟨I,I⟩ (SubO.get ⟨.inr ?_,⟨.inl I,O⟩⟩) (zao I));rotate_left 2;refine so ty9 ?_;refine evd [] [] (so ty4 ?_);refine dr (rn [(901,some (.box (rdC w (zbf r))))] (r1 I) (.eqd ?_) ⟨I,I⟩ (SubO.get ⟨.inr ?_,⟨.inl I,O⟩⟩) (zao I));rotate_left 2;refine sqF ?_;refine sqF ?_;refine xbH un9 .none I I I I ou ?_;refine ev (xbI un9 .none I I I I ou ?_);refine evd [] [] ?_;apply sq<;>intro h13 h13p h13s<;>(try simp only[Q,xal] at h13p);refine so ty9 ?_;refine evd [] [] (so ty4 ?_);refine dr (rn [(901,some (.box (rdC w (zbf r))))] (r1 I) (.eqd ?_) ⟨I,I⟩ (SubO.get ⟨.inr ?_,⟨.inl I,O⟩⟩) (zao I));rotate_left 2;refine so ty9 ?_;refine evd [] [] (so ty4 ?_);refine dr (rn [(901,some (.box (rdC w (zbf r))))] (r1 I) (.eqd ?_) ⟨I,I⟩ (SubO.get ⟨.inr ?_,⟨.inl I,O⟩⟩) (zao I));rotate_left 2;refine sqF ?_;apply sq<;>intro h14 h14p h14s<;>(try simp only[Q,xal] at h14p);refine xbO un9 (.some I I h14) I I I I (zaZ oe) ?_;refine evs [] [(12,true),(33,false),(36,true)] ?_ ⟨⟨_,I,h1⟩,⟨_,I,I⟩,⟨_,I,h14⟩,O⟩;apply sq<;>intro h15 h15p h15s<;>(try simp only[Q,xal] at h15p);refine xbO un9 (.some I I h15) I I I I (zaZ oe) ?_;refine evs [] [(12,true),(33,false),(45,true)] ?_ ⟨⟨_,I,h1⟩,⟨_,I,I⟩,⟨_,I,h15⟩,O⟩;apply sq<;>intro h16 h16p h16s<;>(try simp only[Q,xal] at h16p);refine ar (xaj (e+1) ⟨⟨by omega,hstep e oe hg1.2 (by first|exact .inl ⟨by omega,up_y oe oe⟩|exact .inr ⟨by omega,ze9 oe oe⟩)⟩,oe,sx ⟨⟨_,I,xaT ?_⟩,O⟩ O⟩);focus (first|rfl|(simp;done)|omega)
 refine xbH un9 .none I I I I ou ?_;refine ev (xbI un9 .none I I I I ou ?_);refine evd [] [] ?_;apply sq<;>intro h17 h17p h17s<;>(try simp only[Q,xal] at h17p);refine so ty9 ?_;refine evd [] [] (so ty4 ?_);refine dr (rn [(901,some (.box (rdC w (zbf r))))] (r1 I) (.eqd ?_) ⟨I,I⟩ (SubO.get ⟨.inr ?_,⟨.inl I,O⟩⟩) (zao I));rotate_left 2;refine so ty9 ?_;refine evd [] [] (so ty4 ?_);refine dr (rn [(901,some (.box (rdC w (zbf r))))] (r1 I) (.eqd ?_) ⟨I,I⟩ (SubO.get ⟨.inr ?_,⟨.inl I,O⟩⟩) (zao I));rotate_left 2;refine sqF ?_;refine xbH un9 .none I I I I ou ?_;refine ev (xbI un9 .none I I I I ou ?_);refine evd [] [] ?_;apply sq<;>intro h19 h19p h19s<;>(try simp only[Q,xal] at h19p);refine so ty9 ?_;refine evd [] [] (so ty4 ?_);refine dr (rn [(901,some (.box (rdC w (zbf r))))] (r1 I) (.eqd ?_) ⟨I,I⟩ (SubO.get ⟨.inr ?_,⟨.inl I,O⟩⟩) (zao I));rotate_left 2;refine so ty9 ?_;refine evd [] [] (so ty4 ?_);refine dr (rn [(901,some (.box (rdC w (zbf r))))] (r1 I) (.eqd ?_) ⟨I,I⟩ (SubO.get ⟨.inr ?_,⟨.inl I,O⟩⟩) (zao I));rotate_left 2;refine sqF ?_;refine sqF ?_;refine xbH un9 .none I I I I ou ?_;refine ev (xbI un9 .none I I I I ou ?_);refine evd [] [] ?_;apply sq<;>intro h21 h21p h21s<;>(try simp only[Q,xal] at h21p);refine so ty9 ?_;refine evd [] [] (so ty4 ?_);refine dr (rn [(901,some (.box (rdC w (zbf r))))] (r1 I) (.eqd ?_) ⟨I,I⟩ (SubO.get ⟨.inr ?_,⟨.inl I,O⟩⟩) (zao I));rotate_left 2;refine so ty9 ?_;refine evd [] [] (so ty4 ?_);refine dr (rn [(901,some (.box (rdC w (zbf r))))] (r1 I) (.eqd ?_) ⟨I,I⟩ (SubO.get ⟨.inr ?_,⟨.inl I,O⟩⟩) (zao I));rotate_left 2;refine sqF ?_;refine sqF ?_;apply sq<;>intro h22 h22p h22s<;>(try simp only[Q,xal] at h22p);refine xbO un9 (.some I I h22) I I I I (zaZ oe) ?_;refine evs [] [(12,true),(33,false),(36,true)] ?_ ⟨⟨_,I,h1⟩,⟨_,I,I⟩,⟨_,I,h22⟩,O⟩;apply sq<;>intro h23 h23p h23s<;>(try simp only[Q,xal] at h23p);refine xbO un9 (.some I I h23) I I I I (zaZ oe) ?_;refine evs [] [(12,true),(33,false),(45,true)] ?_ ⟨⟨_,I,h1⟩,⟨_,I,I⟩,⟨_,I,h23⟩,O⟩;apply sq<;>intro h24 h24p h24s<;>(try simp only[Q,xal] at h24p);refine ar (xaj (e+1) ⟨⟨by omega,hstep e oe hg1.2 (by first|exact .inl ⟨by omega,up_y oe oe⟩|exact .inr ⟨by omega,ze9 oe oe⟩)⟩,oe,sx ⟨⟨_,I,xaT ?_⟩,O⟩ O⟩);focus (first|rfl|(simp;done)|omega)
 refine xbH un9 .none I I I I ou ?_;refine ev (xbI un9 .none I I I I ou ?_);refine evd [] [] ?_;apply sq<;>intro h25 h25p h25s<;>(try simp only[Q,xal] at h25p);refine so ty9 ?_;refine evd [] [] (so ty4 ?_);refine dr (rn [(901,some (.box (rdC w (zbf r))))] (r1 I) (.eqd ?_) ⟨I,I⟩ (SubO.get ⟨.inr ?_,⟨.inl I,O⟩⟩) (zao I));rotate_left 2;refine so ty9 ?_;refine evd [] [] (so ty4 ?_);refine dr (rn [(901,some (.box (rdC w (zbf r))))] (r1 I) (.eqd ?_) ⟨I,I⟩ (SubO.get ⟨.inr ?_,⟨.inl I,O⟩⟩) (zao I));rotate_left 2;refine sqF ?_;refine xbH un9 .none I I I I ou ?_;refine ev (xbI un9 .none I I I I ou ?_);refine evd [] [] ?_;apply sq<;>intro h27 h27p h27s<;>(try simp only[Q,xal] at h27p);refine so ty9 ?_;refine evd [] [] (so ty4 ?_);refine dr (rn [(901,some (.box (rdC w (zbf r))))] (r1 I) (.eqd ?_) ⟨I,I⟩ (SubO.get ⟨.inr ?_,⟨.inl I,O⟩⟩) (zao I));rotate_left 2;refine so ty9 ?_;refine evd [] [] (so ty4 ?_);refine dr (rn [(901,some (.box (rdC w (zbf r))))] (r1 I) (.eqd ?_) ⟨I,I⟩ (SubO.get ⟨.inr ?_,⟨.inl I,O⟩⟩) (zao I));rotate_left 2;refine sqF ?_;refine sqF ?_;refine xbH un9 .none I I I I ou ?_;refine ev (xbI un9 .none I I I I ou ?_);refine evd [] [] ?_;apply sq<;>intro h29 h29p h29s<;>(try simp only[Q,xal] at h29p);refine so ty9 ?_;refine evd [] [] (so ty4 ?_);refine dr (rn [(901,some (.box (rdC w (zbf r))))] (r1 I) (.eqd ?_) ⟨I,I⟩ (SubO.get ⟨.inr ?_,⟨.inl I,O⟩⟩) (zao I));rotate_left 2;refine so ty9 ?_;refine evd [] [] (so ty4 ?_);refine dr (rn [(901,some (.box (rdC w (zbf r))))] (r1 I) (.eqd ?_) ⟨I,I⟩ (SubO.get ⟨.inr ?_,⟨.inl I,O⟩⟩) (zao I));rotate_left 2;refine sqF ?_;refine xbH un9 .none I I I I ou ?_;refine ev (xbI un9 .none I I I I ou ?_);refine evd [] [] ?_;apply sq<;>intro h31 h31p h31s<;>(try simp only[Q,xal] at h31p);refine so ty9 ?_;refine evd [] [] (so ty4 ?_);refine dr (rn [(901,some (.box (rdC w (zbf r))))] (r1 I) (.eqd ?_) ⟨I,I⟩ (SubO.get ⟨.inr ?_,⟨.inl I,O⟩⟩) (zao I));rotate_left 2;refine so ty9 ?_;refine evd [] [] (so ty4 ?_);refine dr (rn [(901,some (.box (rdC w (zbf r))))] (r1 I) (.eqd ?_) ⟨I,I⟩ (SubO.get ⟨.inr ?_,⟨.inl I,O⟩⟩) (zao I));rotate_left 2;all_goals (first|((have hE:=hstop e hg1.1 hg1.2 (by first|exact .inl oe|exact .inr (.inl ⟨by omega,up_f oe⟩)|exact .inr (.inr ⟨by omega,zqm oe⟩));first|(show some (Res.box [_,_,_])=some (Res.box [_,_,_]);unfold zbf;rw[<-hE];first|rfl|(simp[*];done)|(simp_all;done)|(simp;omega))|(unfold zcN;rw[<-hE];done)|(unfold zcN;rw[<-hE];simp;done));done)|(have hE:=hstop e hg1.1 hg1.2 (by first|exact .inl oe|exact .inr (.inl ⟨by omega,up_f oe⟩)|exact .inr (.inr ⟨by omega,zqm oe⟩));first|(show some (Res.box [_,_,_])=some (Res.box [_,_,_]);unfold zbf;rw[<-hE];first|rfl|(simp[*];done)|(simp_all;done)|(simp;omega))|(unfold zcN;rw[<-hE];done)|(unfold zcN;rw[<-hE];simp;done)))
theorem oq{p:Prop}(h:p:=by first|assumption|(simp_all;done)):p:=h
theorem zeJ {w:List Data} (hw:WT w){a k:Int} (ht:TyIn w.length ⟨a,k⟩){r:Rd} (hs:r.s.length<=1000000000000):FnD Tryz.prog 85 [.ref 901 0,.agg [.d (.i a),.d (.i k)]] [(901,some (.box (rdC w r)))] (.d (.i (zbg w ⟨a,k⟩ r))) [(901,some (.box (rdC w (zbt w ⟨a,k⟩ r))))]:=by
 have hct:=zeS hw ht;have hnmc:=zhO (w:=w) (r:=r) hs;have hpl:=fun(c:Int) (h:c∈zaW w ⟨a,k⟩)=>zbw ht h;have hcl:=zfL hw ht;have hnm:∀(d m:Nat),a=d->(zbj w ⟨a,k⟩ (m:Int))=(nth (nth w d).ctors m).name:=fun d m h=>by unfold zbj;subst h;rfl
 have hok:zcu w ⟨a,k⟩ r=(!(zbf r).bad&& !decide (nmV w ⟨a,k⟩ (zcN r)<0)):=rfl;have hdef:nmV w ⟨a,k⟩ (zcN r)=((zaW w ⟨a,k⟩).find? (isNm w ⟨a,k⟩ (zcN r))).getD (-1):=rfl;have hR1:zcu w ⟨a,k⟩ r=true->zbt w ⟨a,k⟩ r=zbf r/\zbg w ⟨a,k⟩ r=nmV w ⟨a,k⟩ (zcN r):=fun h=>⟨if_pos h,if_pos h⟩;have hR0:zcu w ⟨a,k⟩ r=false->zbt w ⟨a,k⟩ r=⟨(zbf r).s,true⟩/\zbg w ⟨a,k⟩ r=0:=fun h=>⟨if_neg (by rw[h];simp),if_neg (by rw[h];simp)⟩;rw[hdef] at hok hR1;have hisn:∀c,isNm w ⟨a,k⟩ (zcN r) c=decide (zbj w ⟨a,k⟩ c=zcN r):=fun _=>rfl;have hge:∀c∈zaW w ⟨a,k⟩,0<=c:=fun c h=>by obtain⟨d,_,_,j,hj,_⟩:=hpl c h;omega
 generalize zaW w ⟨a,k⟩=l at *;generalize zbt w ⟨a,k⟩ r=X at *;generalize zbg w ⟨a,k⟩ r=Y at *;generalize zcu w ⟨a,k⟩ r=Z at *;generalize zbf r=q at *;generalize zcN r=nm at *;have hfin:∀(y:Int),y∈l->q.bad=false->l.find? (isNm w ⟨a,k⟩ nm)=some y->X=q/\Y=y:=fun y hy hb hf=>by
  have hz:Z=true:=by rw[hok,hb,hf];simp;exact hge y hy
  have:=hR1 hz;rw[hf] at this;exact this
 have hfn:q.bad=true\/l.find? (isNm w ⟨a,k⟩ nm)=none->X=⟨q.s,true⟩/\Y=0:=fun h=>by
  refine hR0 ?_;rw[hok];rcases h with h|h
  ·rw[h];rfl
  ·rw[h];simp
 have hnmY:∀y (h:y∈l),zbj w ⟨a,k⟩ y=(nth (nth w (hpl y h).choose).ctors (hpl y h).choose_spec.2.2.choose).name:=fun y h=>
  (xam (zbj w ⟨a,k⟩) (hpl y h).choose_spec.2.2.choose_spec.1).trans (hnm _ _ (hpl y h).choose_spec.1)
 have hfound:∀(y:Int) (rest:List Int) (h:y∈l),((y::rest).find? (isNm w ⟨a,k⟩ nm)=l.find? (isNm w ⟨a,k⟩ nm)\/q.bad=true)->q.bad=false->(nth (nth w (hpl y h).choose).ctors (hpl y h).choose_spec.2.2.choose).name=nm->X=q/\Y=y:=fun y rest h hg hb hn=>by
  refine hfin y h hb ?_;rcases hg with hg|hg
  ·rw[<-hg,List.find?_cons_of_pos (by rw[hisn,hnmY y h];exact xax hn)]
  ·rw[hb] at hg;cases hg
 have hnext:∀(y:Int) (rest:List Int) (h:y∈l),((y::rest).find? (isNm w ⟨a,k⟩ nm)=l.find? (isNm w ⟨a,k⟩ nm)\/q.bad=true)->(q.bad=true\/¬(nth (nth w (hpl y h).choose).ctors (hpl y h).choose_spec.2.2.choose).name=nm)->(rest.find? (isNm w ⟨a,k⟩ nm)=l.find? (isNm w ⟨a,k⟩ nm)\/q.bad=true):=fun y rest h hg hn=>by
  rcases hn with hn|hn
  ·exact .inr hn
  ·rcases hg with hg|hg
   ·exact .inl (by rw[<-hg,List.find?_cons_of_neg (by rw[hisn,hnmY y h,xaw hn];simp)])
   ·exact .inr hg
 clear hok hR0 hR1 hdef;refine bd Tryz.f85 48 [] [] fun _ _ _ _ hk=>?_;refine bx 3003 ?_;refine ev (wd zq4 hnmc I I ⟨I,O⟩ ?_);refine ev (wc zmc hct I I ?_);refine evd [] [] (dr (xaD (ι:=List (Int)×List (Int)) hk (fun x=>[(17,.d (.i (x.1.length:Int)))]) [4,7,18,19,20,21,22,23,24,25,26,27,28,29,30,31,32,33,34,35,36,37,38,39,40,41,42,43,44] (fun x=>[]) (fun x=>x.1++x.2=l/\(x.2.find? (isNm w ⟨a,k⟩ nm)=l.find? (isNm w ⟨a,k⟩ nm)\/q.bad=true)) (fun x=>x.2.length) ([],l) ⟨by simp,.inl I⟩ ⟨⟨_,I,xaT ?_⟩,O⟩ O (fun x=>rfl) (fun x hg1=>?_)));focus (first|rfl|(simp;done)|(simp_all;done)|omega)
 obtain⟨pre,rest⟩:=x;dsimp only at hg1 ⊢;refine evc [] [] ?_;apply sq<;>intro h1 h1p h1s<;>(try simp only[Q,xal] at h1p);rcases rest with _|⟨y,rest⟩
 ·exfalso;simp_all
 refine ixq zdi I I I (zbd hg1.1) I (ev ?_);apply sq<;>intro h2 h2p h2s<;>(try simp only[Q,xal] at h2p);refine xbL (i:=(hpl y (by rw[<-hg1.1];simp)).choose) sl29 (.some I I h2) I I I (hpl y (by rw[<-hg1.1];simp)).choose_spec.1 (zau (hpl y (by rw[<-hg1.1];simp)).choose_spec.2.1) I ?_;refine evd [] [(26,true)] ?_ ⟨⟨_,I,h2⟩,O⟩;refine xbL (i:=(hpl y (by rw[<-hg1.1];simp)).choose_spec.2.2.choose) sl57 (.some I I h2) I I I (hpl y (by rw[<-hg1.1];simp)).choose_spec.2.2.choose_spec.1 (zau (hpl y (by rw[<-hg1.1];simp)).choose_spec.2.2.choose_spec.2) I ?_;refine evd [] [(26,true)] ?_ ⟨⟨_,I,h2⟩,O⟩;refine dr ?_;apply sq<;>intro h3 h3p h3s<;>(try simp only[Q,xal] at h3p);refine rn [(901,some (.box (rdC w X)))] (r1 I) (.eqd ?_) ⟨I,I⟩ (SubO.get ⟨.inr ?_,⟨.inl I,O⟩⟩) (zao I);rotate_left 2;refine ar (xaj ((pre++[y],rest)) ⟨⟨(by have hz:=hg1.1;rw[<-hz];simp),(hnext y _ (by rw[<-hg1.1];simp) hg1.2 (by first|exact .inr ol|exact .inl ol|exact .inl o8))⟩,oh,sx ⟨⟨_,I,xaT ?_⟩,O⟩ O⟩);focus (first|rfl|(simp;done)|(simp_all;done)|omega)
 refine dr (sqF ?_);refine ar (xaj ((pre++[y],rest)) ⟨⟨(by have hz:=hg1.1;rw[<-hz];simp),(hnext y _ (by rw[<-hg1.1];simp) hg1.2 (by first|exact .inr ol|exact .inl ol|exact .inl o8))⟩,oh,sx ⟨⟨_,I,xaT ?_⟩,O⟩ O⟩);focus (first|rfl|(simp;done)|(simp_all;done)|omega)
 have hrest:rest=[]:=by
  rcases rest with _|⟨a,b⟩
  ·rfl
  ·exfalso;have hz:=xam List.length (hg1.1);simp only[xaa,xab,xac] at hz;omega
 subst hrest;refine so ty4 ?_;apply tv;refine rn [(901,some (.box (rdC w X)))] (r1 I) (.eqd ?_) ⟨I,I⟩ (SubO.get ⟨.inr ?_,⟨.inl I,O⟩⟩) (zao I);rotate_left 2;all_goals (first|((first|(obtain⟨e1,e2⟩:=hfound y rest (by rw[<-hg1.1];simp) hg1.2 oq ol;first|(rw[e1];all_goals rfl)|(rw[e2];all_goals rfl))|(obtain⟨e1,e2⟩:=hfn (by have h9:=hg1.2;simp only[List.find?_nil] at h9;exact h9.symm.imp id (fun h=>h.symm));first|(rw[e1];all_goals rfl)|(rw[e2];all_goals rfl)));done)|(first|(obtain⟨e1,e2⟩:=hfound y rest (by rw[<-hg1.1];simp) hg1.2 oq ol;first|(rw[e1];all_goals rfl)|(rw[e2];all_goals rfl))|(obtain⟨e1,e2⟩:=hfn (by have h9:=hg1.2;simp only[List.find?_nil] at h9;exact h9.symm.imp id (fun h=>h.symm));first|(rw[e1];all_goals rfl)|(rw[e2];all_goals rfl))))
end Go.Proofs.YtcjojgpodcjfcaaGreatDoor
