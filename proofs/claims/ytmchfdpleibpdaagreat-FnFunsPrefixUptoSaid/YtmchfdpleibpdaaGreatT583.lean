/-
  THE ABSTRACT WALK AND THE WALKS, part 3 of 6: the parts G1, F19, F31, F32, F33, F34, Ta, F90, F91, F12, F15, F20, F21, F24, F25, F13, G2, F22, F26, F23, F27, F35, F28, F29, F36, F37, F92, F93, F38, Val, F7, F94.
-/
import Derived.Test.YtmchfdpleibpdaaGreatT582
namespace Go.Proofs.YtmchfdpleibpdaaGreat
open Go
set_option linter.unusedSimpArgs false
set_option linter.unusedVariables false
set_option maxRecDepth 100000
set_option maxHeartbeats 2000000
theorem zbd {α:Type} [Inhabited α]{l:List α}{i:Nat} (h:i<l.length):l.drop i=nth l i::l.drop (i+1):=by
 rw[zaL h];exact List.drop_eq_getElem_cons h
def all2 {α β:Type} (f:α->β->Bool):List α->List β->Bool
 | [],[]=>true
 |a::r,b::s=>f a b&&all2 f r s
 |_,_=>false
theorem zgn {α β:Type}{f:α->β->Bool}:∀ {a:List α}{b:List β},a.length≠b.length->all2 f a b=false
 | [],[],h=>by simp at h
 | [],_::_,_=>rfl
 |_::_,[],_=>rfl
 |x::r,y::s,h=>by simp[all2,zgn (a:=r) (b:=s) (by simpa using h)]
theorem zb2 {α β:Type} [Inhabited α] [Inhabited β]{f:α->β->Bool}{a:List α}{b:List β}{i:Nat} (h:i<a.length) (hl:a.length=b.length) (h2:f (nth a i) (nth b i)=false):all2 f a b=false:=by
 induction i generalizing a b with
 |zero=>
  cases a with
  |nil=>simp at h
  |cons x r=>
   cases b with
   |nil=>simp[all2]
   |cons y s=>simp[nth] at h2;simp[all2,h2]
 |succ i ih=>
  cases a with
  |nil=>simp at h
  |cons x r=>
   cases b with
   |nil=>simp[all2]
   |cons y s=>simp only[all2];rw[ih (a:=r) (b:=s) (by simpa using h) (by simpa using hl) (by simpa [nth] using h2)];simp
theorem zdJ {α β:Type} [Inhabited α] [Inhabited β]{f:α->β->Bool}{a:List α}{b:List β} (hl:a.length=b.length) (h:∀i,i<a.length->f (nth a i) (nth b i)=true):all2 f a b=true:=by
 induction a generalizing b with
 |nil=>cases b with
  |nil=>simp[all2]
  |cons y s=>simp at hl
 |cons x r ih=>cases b with
  |nil=>simp at hl
  |cons y s=>
   have h0:=h 0 (by simp);simp only[all2];rw[ih (by simpa using hl) (fun i hi=>by simpa [nth] using h (i+1) (by simpa using hi))];simpa [nth] using h0
def idxI (l:List Int) (v:Int):Int:=idxF (fun x=>decide (v=x)) l 0
theorem zig {l:List Int}{v:Int} (h:l.length<=1000000000000):FnD Tryz.prog 242 [.d (zb4 l),.d (.i v)] [] (.d (.i (idxI l v))) []:=by
 refine bd Tryz.f242 19 [] [] fun w0 F0 own kept hk=>?_;refine xak (ι:=List (Int)×List (Int)) hk (fun x=>[(8,.d (.i (x.1.length:Int)))]) [4,5,9,10,11,12,13,14,15,16,17,18] (fun x=>[]) (fun x=>x.1++x.2=l/\idxF (fun x=>decide (v=x)) x.2 x.1.length=idxF (fun x=>decide (v=x)) l 0) (fun x=>x.2.length) ([],l) ⟨by simp,rfl⟩ ⟨⟨_,rfl,xap ?_⟩,trivial⟩ trivial (fun x=>rfl) (fun x hg1=>?_);focus (first|rfl|(simp;done)|(simp_all;done)|omega)
 obtain⟨pre,rest⟩:=x;dsimp only at hg1 ⊢;refine evc [] [] ?_;refine sq ?_ ?_<;>intro h1 h1p h1s<;>(try simp only[Q] at h1p);rcases rest with _|⟨y,rest⟩
 ·exfalso;simp_all
 refine Walk.idx sl37 .none rfl rfl rfl rfl (zaH hg1.1) rfl ?_;refine ev ?_;refine sq ?_ ?_<;>intro h2 h2p h2s<;>(try simp only[Q] at h2p);focus (refine rq ?_;all_goals (unfold idxI;rw[<-hg1.2];simp[idxF,h1s,h1p,h2s,h2p]))
 refine ar ?_;refine xah ((pre++[y],rest)) ⟨⟨(by have hz:=hg1.1;rw[<-hz];simp),(by rw[<-hg1.2];simp[idxF,h2p])⟩,(by simp),sx ⟨⟨_,rfl,xap ?_⟩,trivial⟩ trivial⟩;focus (first|rfl|(simp;done)|(simp_all;done)|omega)
 have hrest:rest=[]:=by
  rcases rest with _|⟨a,b⟩
  ·rfl
  ·exfalso;have hz:=congrArg List.length (hg1.1);simp only[xaa,xab,xac] at hz;omega
 subst hrest;focus (refine rq ?_;all_goals (unfold idxI;rw[<-hg1.2];simp[idxF,h1s,h1p]))
theorem zcb {l:List Int}{v:Int} (h:l.length<=1000000000000):FnD Tryz.prog 187 [.d (zb4 l),.d (.i v)] [] (.d (.bool (decide (v∈l)))) []:=by
 refine bd Tryz.f187 9 [] [] fun w0 F0 own kept hk=>?_;refine wc zsT (zig h) rfl rfl ?_;refine ev ?_;refine rq ?_;rotate_left;all_goals (refine congrArg D.bool ?_;rw[show idxI l v=idxF (fun x=>decide (v=x)) l 0 from rfl,zeE];simp[List.any_eq,eq_comm])
theorem zcV {l:List Int}{v:Int} (h:l.length<=1000000000000):FnD Tryz.prog 248 [.d (zb4 l),.d (.i v)] [] (.d (.bool (decide (v∈l)))) []:=by
 refine bd Tryz.f248 18 [] [] fun w0 F0 own kept hk=>?_;refine xak (ι:=List (Int)×List (Int)) hk (fun x=>[(5,.d (.i (x.1.length:Int)))]) [4,6,7,8,9,10,11,12,13,14,15,16,17] (fun x=>[]) (fun x=>x.1++x.2=l/\v∉x.1) (fun x=>x.2.length) ([],l) ⟨by simp,by simp⟩ ⟨⟨_,rfl,xap ?_⟩,trivial⟩ trivial (fun x=>rfl) (fun x hg1=>?_);focus (first|rfl|(simp;done)|(simp_all;done)|omega)
 obtain⟨pre,rest⟩:=x;dsimp only at hg1 ⊢;refine evc [] [] ?_;refine sq ?_ ?_<;>intro h1 h1p h1s<;>(try simp only[Q] at h1p);rcases rest with _|⟨y,rest⟩
 ·exfalso;simp_all
 refine Walk.idx sl37 .none rfl rfl rfl rfl (zaH hg1.1) rfl ?_;refine ev ?_;refine sq ?_ ?_<;>intro h2 h2p h2s<;>(try simp only[Q] at h2p);focus (refine rq ?_;all_goals (refine congrArg D.bool ?_;first|(symm;rw[decide_eq_true_eq,<-hg1.1];simp[h1s,h1p,h2s,h2p];done)|(symm;rw[decide_eq_false_iff_not,<-hg1.1];intro hm;simp at hm;exact absurd hm (by simpa using hg1.2))))
 refine ar ?_;refine xah ((pre++[y],rest)) ⟨⟨(by have hz:=hg1.1;rw[<-hz];simp),(by have:=hg1.2;simp[this,eq_comm];omega)⟩,(by simp),sx ⟨⟨_,rfl,xap ?_⟩,trivial⟩ trivial⟩;focus (first|rfl|(simp;done)|(simp_all;done)|omega)
 have hrest:rest=[]:=by
  rcases rest with _|⟨a,b⟩
  ·rfl
  ·exfalso;have hz:=congrArg List.length (hg1.1);simp only[xaa,xab,xac] at hz;omega
 subst hrest;focus (refine rq ?_;all_goals (refine congrArg D.bool ?_;first|(symm;rw[decide_eq_true_eq,<-hg1.1];simp[h1s,h1p];done)|(symm;rw[decide_eq_false_iff_not,<-hg1.1];intro hm;simp at hm;exact absurd hm (by simpa using hg1.2))))
def cutL (c:UInt8):Str->Str->List Str
 |cur,[]=>[cur]
 |cur,x::r=>if x=c then cur::cutL c [] r else cutL c (cur++[x]) r
theorem zd4 (c:UInt8):∀(s cur:Str),(cutL c cur s).length<=s.length+1
 | [],cur=>by simp[cutL]
 |x::r,cur=>by
  simp only[cutL];split
  ·have:=zd4 c r [];simp only[xab];omega
  ·have:=zd4 c r (cur++[x]);simp only[xab];omega
theorem zff (c:UInt8):∀(s cur:Str),1<=(cutL c cur s).length
 | [],cur=>by simp[cutL]
 |x::r,cur=>by
  simp only[cutL];split
  ·simp
  ·exact zff c r (cur++[x])
theorem zhC (c:UInt8):∀(s cur:Str) (t:Str),t∈cutL c cur s->t.length<=cur.length+s.length
 | [],cur,t,h=>by simp only[cutL,List.mem_singleton] at h;subst h;simp
 |x::r,cur,t,h=>by
  simp only[cutL] at h;split at h
  ·rcases List.mem_cons.1 h with rfl|h
   ·simp
   ·have:=zhC c r [] t h;simp only[xab,xai] at this ⊢;omega
  ·have:=zhC c r (cur++[x]) t h;simp only[xaa,xab,xai] at this ⊢;omega
theorem zaZ {s:Str}{i:Nat} (h:i<s.length):s[i]?=some (nth s i):=by rw[zaL h];exact List.getElem?_eq_getElem h
theorem zjH {s:Str}{f i:Nat} (hf:f<=i) (h:i<s.length):(s.take (i+1)).drop f=(s.take i).drop f++[nth s i]:=by
 rw[List.take_add_one,List.getElem?_eq_getElem h,List.drop_append_of_le_length (by simp;omega),zaL h];rfl
theorem zjI {s:Str}{f i:Nat}:(s.drop f).take (i-f)=(s.take i).drop f:=by rw[List.drop_take]
theorem zbb {s:Str}{c:UInt8} (hs:s.length<=1000000000000):FnD Tryz.prog 117 [.d (.str s),.d (.int .u8 (c.toNat:Int))] [] (.d (zbY (cutL c [] s))) []:=by
 have hu:∀a:UInt8,((a.toNat:Int)=(c.toNat:Int))↔a=c:=fun a=>by rw[Int.natCast_inj];exact UInt8.toNat_inj
 refine bd Tryz.f117 36 [] [] fun w0 F0 own kept hk=>?_;refine xa6 1 zaD .none rfl rfl ?_;refine ev ?_;refine xak (ι:=Nat×Nat×List Str) hk (fun x=>[(7,.d (.i (x.1:Int))),(6,.d (.i (x.2.1:Int))),(5,.gl 1 (x.2.2.map fun n=>[D.str n]))]) [9,10,11,12,13,14,15,16,17,18,19,20,21,22,23,24,25,26,27,28,29,30,31,32,33,34] (fun x=>[(1,some (.tok ((x.2.2.map fun n=>[D.str n])).length 1))]) (fun x=>x.1<=s.length+1/\x.2.2.length<=x.1/\if x.1=s.length+1 then x.2.2=cutL c [] s else x.2.1<=x.1/\x.2.2++cutL c ((s.take x.1).drop x.2.1) (s.drop x.1)=cutL c [] s) (fun x=>s.length+1-x.1) (0,0,[]) ⟨by simp,by simp,by rw[if_neg (by simp)];simp⟩ ⟨⟨_,rfl,xap ?_⟩,⟨⟨_,rfl,xap ?_⟩,⟨⟨_,rfl,LeA.glg ?_⟩,trivial⟩⟩⟩ ⟨zaf ?_,trivial⟩ (fun x=>rfl) (fun x hg1=>?_);iterate 4 focus (rfl)
 refine evc [] [] ?_;refine sq ?_ ?_<;>intro h1 h1p h1s<;>(try simp only[Q,hu] at h1p);have hne:¬x.1=s.length+1:=(by omega);have hcond:=hg1.2.2;rw[if_neg hne] at hcond;have hle:=hcond.1;refine sq ?_ ?_<;>intro h2 h2p h2s<;>(try simp only[Q,hu] at h2p);refine sqT ?_;refine xaJ un9 .none rfl rfl rfl rfl rfl rfl (by omega) (by omega) ?_;refine si [0] [_] zaD tz9 ?_;refine ap zaD zz9 rfl rfl rfl (by simp) (by simp;omega) ?_;refine ev ?_;refine ar ?_;refine ar ?_;refine xah (if x.1=s.length\/nth s x.1=c then (x.1+1,x.1+1,x.2.2++[(s.take x.1).drop x.2.1]) else (x.1+1,x.2.1,x.2.2)) ⟨(by
    have hne:¬x.1=s.length+1:=by omega
    rw[if_neg hne] at hg1;obtain⟨g1,g2,g3,g4⟩:=hg1;by_cases he:x.1=s.length
    ·rw[if_pos (.inl he)];refine⟨by dsimp only;omega,by simp;omega, ?_⟩;dsimp only;rw[if_pos (by omega),<-g4,he,List.drop_length];rfl
    ·have hlt:x.1<s.length:=by omega
     rw[zbd hlt] at g4;by_cases hc:nth s x.1=c
     ·rw[if_pos (.inr hc)];refine⟨by dsimp only;omega,by simp;omega, ?_⟩;dsimp only;rw[if_neg (by omega)];refine⟨by omega, ?_⟩;rw[<-g4,cutL,if_pos hc,List.append_assoc];simp
     ·rw[if_neg (by simp[he,hc])];refine⟨by dsimp only;omega,by dsimp only;omega, ?_⟩;dsimp only;rw[if_neg (by omega)];refine⟨by omega, ?_⟩;rw[<-g4,cutL,if_neg hc,zjH g3 hlt]),(by split<;>(dsimp only;omega)),sx ⟨⟨_,rfl,xap ?_⟩,⟨⟨_,rfl,xap ?_⟩,⟨⟨_,rfl,LeA.glg ?_⟩,trivial⟩⟩⟩ ⟨zaf ?_,trivial⟩⟩
 iterate 4 focus ((split<;>first|(simp[zjI];done)|(simp;done)|(exfalso;simp_all;done)|(exfalso;simp_all;omega)))
 refine xaR un9 (.some rfl rfl h2) rfl rfl rfl rfl (zaZ (by omega)) ?_;refine evs [] [(19,false)] ?_ ⟨⟨_,rfl,h2⟩,trivial⟩;refine sq ?_ ?_<;>intro h4 h4p h4s<;>(try simp only[Q,hu] at h4p);refine xaJ un9 .none rfl rfl rfl rfl rfl rfl (by omega) (by omega) ?_;refine si [0] [_] zaD tz9 ?_;refine ap zaD zz9 rfl rfl rfl (by simp) (by simp;omega) ?_;refine ev ?_;refine ar ?_;refine ar ?_;refine xah (if x.1=s.length\/nth s x.1=c then (x.1+1,x.1+1,x.2.2++[(s.take x.1).drop x.2.1]) else (x.1+1,x.2.1,x.2.2)) ⟨(by
    have hne:¬x.1=s.length+1:=by omega
    rw[if_neg hne] at hg1;obtain⟨g1,g2,g3,g4⟩:=hg1;by_cases he:x.1=s.length
    ·rw[if_pos (.inl he)];refine⟨by dsimp only;omega,by simp;omega, ?_⟩;dsimp only;rw[if_pos (by omega),<-g4,he,List.drop_length];rfl
    ·have hlt:x.1<s.length:=by omega
     rw[zbd hlt] at g4;by_cases hc:nth s x.1=c
     ·rw[if_pos (.inr hc)];refine⟨by dsimp only;omega,by simp;omega, ?_⟩;dsimp only;rw[if_neg (by omega)];refine⟨by omega, ?_⟩;rw[<-g4,cutL,if_pos hc,List.append_assoc];simp
     ·rw[if_neg (by simp[he,hc])];refine⟨by dsimp only;omega,by dsimp only;omega, ?_⟩;dsimp only;rw[if_neg (by omega)];refine⟨by omega, ?_⟩;rw[<-g4,cutL,if_neg hc,zjH g3 hlt]),(by split<;>(dsimp only;omega)),sx ⟨⟨_,rfl,xap ?_⟩,⟨⟨_,rfl,xap ?_⟩,⟨⟨_,rfl,LeA.glg ?_⟩,trivial⟩⟩⟩ ⟨zaf ?_,trivial⟩⟩
 iterate 4 focus ((split<;>first|(simp[zjI];done)|(simp;done)|(exfalso;simp_all;done)|(exfalso;simp_all;omega)))
 refine ar ?_;refine xah (if x.1=s.length\/nth s x.1=c then (x.1+1,x.1+1,x.2.2++[(s.take x.1).drop x.2.1]) else (x.1+1,x.2.1,x.2.2)) ⟨(by
    have hne:¬x.1=s.length+1:=by omega
    rw[if_neg hne] at hg1;obtain⟨g1,g2,g3,g4⟩:=hg1;by_cases he:x.1=s.length
    ·rw[if_pos (.inl he)];refine⟨by dsimp only;omega,by simp;omega, ?_⟩;dsimp only;rw[if_pos (by omega),<-g4,he,List.drop_length];rfl
    ·have hlt:x.1<s.length:=by omega
     rw[zbd hlt] at g4;by_cases hc:nth s x.1=c
     ·rw[if_pos (.inr hc)];refine⟨by dsimp only;omega,by simp;omega, ?_⟩;dsimp only;rw[if_neg (by omega)];refine⟨by omega, ?_⟩;rw[<-g4,cutL,if_pos hc,List.append_assoc];simp
     ·rw[if_neg (by simp[he,hc])];refine⟨by dsimp only;omega,by dsimp only;omega, ?_⟩;dsimp only;rw[if_neg (by omega)];refine⟨by omega, ?_⟩;rw[<-g4,cutL,if_neg hc,zjH g3 hlt]),(by split<;>(dsimp only;omega)),sx ⟨⟨_,rfl,xap ?_⟩,⟨⟨_,rfl,xap ?_⟩,⟨⟨_,rfl,LeA.glg ?_⟩,trivial⟩⟩⟩ ⟨zaf ?_,trivial⟩⟩
 iterate 4 focus ((split<;>first|rfl|(exfalso;simp_all;done)|(exfalso;simp_all;omega)))
 refine rn0 (r1 rfl) (.gld ?_);rotate_left;all_goals (have e:x.1=s.length+1:=(by omega);rw[if_pos e] at hg1;rw[hg1.2.2])
def zo2 (names:List Str) (s:Str):Int:=if s=[73] then -1 else if s∈names then idxF (fun n=>decide (n=s)) names 0 else -2
theorem zlI {names:List Str}{s:Str} (hn:names.length<=1000000000000):FnD Tryz.prog 226 [.d (zbY names),.d (.str s)] [] (.d (.i (zo2 names s))) []:=by
 refine bd Tryz.f226 21 [] [] fun w0 F0 own kept hk=>?_;refine sq ?_ ?_<;>intro h1 h1p h1s<;>(try simp only[Q] at h1p);refine rq ?_;rotate_left;refine xak (ι:=List (Str)×List (Str)) hk (fun x=>[(5,.d (.i (x.1.length:Int)))]) [4,8,9,10,11,12,13,14,15,16,17,18,19,20] (fun x=>[]) (fun x=>x.1++x.2=names/\s∉x.1/\idxF (fun n=>decide (n=s)) x.2 x.1.length=idxF (fun n=>decide (n=s)) names 0) (fun x=>x.2.length) ([],names) ⟨by simp,by simp,rfl⟩ ⟨⟨_,rfl,xap ?_⟩,trivial⟩ trivial (fun x=>rfl) (fun x hg1=>?_);focus (rfl)
 obtain⟨pre,rest⟩:=x;dsimp only at hg1 ⊢;refine evc [] [] ?_;refine sq ?_ ?_<;>intro h2 h2p h2s<;>(try simp only[Q] at h2p);rcases rest with _|⟨y,rest⟩
 ·exfalso;simp_all
 refine Walk.idx zaD .none rfl rfl rfl rfl (zaH hg1.1) rfl ?_;refine ev ?_;refine sq ?_ ?_<;>intro h3 h3p h3s<;>(try simp only[Q] at h3p);refine rq ?_;rotate_left;refine ar ?_;refine xah ((pre++[y],rest)) ⟨⟨(by have hz:=hg1.1;rw[<-hz];simp),⟨(by have h1:=hg1.2.1;simp_all[eq_comm]),(by rw[<-hg1.2.2];simp_all[idxF])⟩⟩,(by simp),sx ⟨⟨_,rfl,xap ?_⟩,trivial⟩ trivial⟩;focus ((simp;done))
 have hrest:rest=[]:=by
  rcases rest with _|⟨a,b⟩
  ·rfl
  ·exfalso;have hz:=congrArg List.length (hg1.1);simp only[xaa,xab,xac] at hz;omega
 subst hrest;refine rq ?_;rotate_left;all_goals (refine congrArg D.i ?_;unfold zo2;by_cases hz:s=[73]<;>by_cases hm:s∈names<;>simp only[hz,hm,if_true,if_false];all_goals first|(exfalso;simp_all;done)|(exfalso;apply hm;subst h3p;rw[<-hg1.1];simp;done)|(exfalso;apply hg1.2.1;rw[<-hg1.1,List.append_nil] at hm;exact hm)|(rw[<-hg1.2.2];simp_all[idxF];done))
def zcj (names:List Str) (s:Str):Ty:=
 if s=[] then ⟨-2,0⟩
 else ⟨zo2 names (s.take 1),if s.drop 1=[42] then -1 else if s.length=2/\48<=(nth s 1).toNat/\(nth s 1).toNat<=57 then ((nth s 1).toNat:Int)-48 else 0⟩
theorem zhE {b:UInt8} (h1:48<=b.toNat) (h2:b.toNat<=57):IntKind.i64.wrap (IntKind.u8.wrap ((b.toNat:Int)-48))=(b.toNat:Int)-48:=by
 rw[zlM,zb8 (by omega)];omega
theorem zdT {names:List Str}{s:Str} (hn:names.length<=1000000000000) (hs:s.length<=1000000000000):
  FnD Tryz.prog 175 [.d (zbY names),.d (.str s)] [] (.agg [.d (.i (zcj names s).data),.d (.i (zcj names s).index)]) []:=by
 have hlen:s≠[]->1<=s.length:=fun h=>by rcases s with _|⟨a,r⟩;exact absurd rfl h;simp
 refine bd Tryz.f175 39 [35] [] fun w0 F0 own kept hk=>?_;refine ab 3004 tz29 ?_;refine tv ?_;refine sq ?_ ?_<;>intro h1 h1p h1s<;>(try simp only[Q] at h1p);refine bu [0] [_] st29 ?_;refine so ty29 ?_;refine tv ?_;refine rn0 (.cons (.cellA ty29 rfl rfl rfl) .nil) (.agg (.cons (.eqd ?_) (.cons (.eqd ?_) .nil)));rotate_left 2;refine xaI (b:=1) un9 .none rfl rfl rfl rfl (by have:=hlen (by simp_all);omega) ?_;refine wc zsN (zlI (names:=names) (s:=s.take 1) hn) rfl rfl ?_;refine bu [0] [_] st29 ?_;refine ab 3005 tz29 ?_;refine so ty29 ?_;refine tv ?_;refine Walk.cutS_l (b:=1) un9 .none rfl rfl rfl rfl (by have:=hlen (by simp_all);omega) ?_;refine evs [35] [] ?_;refine sq ?_ ?_<;>intro h2 h2p h2s<;>(try simp only[Q] at h2p);refine so ty3 ?_;refine tv ?_;refine so ty29 ?_;refine tv ?_;refine rn0 (.cons (.cellA ty29 rfl rfl rfl) .nil) (.agg (.cons (.eqd ?_) (.cons (.eqd ?_) .nil)));rotate_left 2;refine sq ?_ ?_<;>intro h3 h3p h3s<;>(try simp only[Q] at h3p);refine xaR (i:=1) un9 (.some rfl rfl h3) rfl rfl rfl rfl (zaZ (by simp_all;omega)) ?_;refine evs [35] [(23,true)] ?_ ⟨⟨_,rfl,h3⟩,trivial⟩;refine sq ?_ ?_<;>intro h4 h4p h4s<;>(try simp only[Q] at h4p);refine xaR (i:=1) un9 (.some rfl rfl h4) rfl rfl rfl rfl (zaZ (by simp_all;omega)) ?_;refine evs [35] [(28,true)] ?_ ⟨⟨_,rfl,h4⟩,trivial⟩;refine sq ?_ ?_<;>intro h5 h5p h5s<;>(try simp only[Q] at h5p);refine xaR (i:=1) un9 .none rfl rfl rfl rfl (zaZ (by simp_all;omega)) ?_;refine xbc .none rfl rfl rfl ?_;refine xaH (by rw[un5];rfl) un3 .none rfl rfl ?_;refine evs [35] [] ?_;refine so ty3 ?_;refine tv ?_;refine so ty29 ?_;refine tv ?_;refine rn0 (.cons (.cellA ty29 rfl rfl rfl) .nil) (.agg (.cons (.eqd ?_) (.cons (.eqd ?_) .nil)));rotate_left 2;refine so ty29 ?_;refine tv ?_;refine rn0 (.cons (.cellA ty29 rfl rfl rfl) .nil) (.agg (.cons (.eqd ?_) (.cons (.eqd ?_) .nil)));rotate_left 2;refine sqF ?_;refine so ty29 ?_;refine tv ?_;refine rn0 (.cons (.cellA ty29 rfl rfl rfl) .nil) (.agg (.cons (.eqd ?_) (.cons (.eqd ?_) .nil)));rotate_left 2;refine sqF ?_;refine sqF ?_;refine so ty29 ?_;refine tv ?_;refine rn0 (.cons (.cellA ty29 rfl rfl rfl) .nil) (.agg (.cons (.eqd ?_) (.cons (.eqd ?_) .nil)));rotate_left 2;all_goals (unfold zcj;first|(rw[zhE (b:=nth s 1) (by omega) (by omega),if_neg h1p];dsimp only;rw[if_neg h2p,if_pos ⟨by omega,by omega,by omega⟩];done)|(rw[if_pos h1p];done)|(rw[if_neg h1p];done)|(rw[if_neg h1p];dsimp only;rw[if_pos h2p];done)|(rw[if_neg h1p];dsimp only;rw[if_neg h2p,if_neg (fun hh=>by omega)];done))
def znr (s:Str):Prop:=2<s.length/\nth s (s.length-2)=58
instance (s:Str):Decidable (znr s):=inferInstanceAs (Decidable (_/\_))
def zgs (names:List Str) (ix:Int) (s:Str):Ctor:=
 let parts:=cutL 40 [] s
 ⟨nth parts 0,if parts.length<2\/(nth parts 1).length=0 then [] else ((cutL 44 [] ((nth parts 1).take ((nth parts 1).length-1))).take 4).map (zcj names),ix⟩
def zce (names:List Str) (s:Str):Ctor:=
 if znr s then zgs names (((nth s (s.length-1)).toNat:Int)-48) (s.take (s.length-2)) else zgs names 0 s
theorem zfR {α β:Type} [Inhabited α]{f:α->β}{l:List α}{i:Nat} (h:i<l.length):(l.map f).take (i+1)=(l.map f).take i++[f (nth l i)]:=by
 rw[List.take_add_one,List.getElem?_map,List.getElem?_eq_getElem h];simp[nth,List.getD,h]
theorem zmm {α:Type}{l:List α}{i:Nat} (h:i=4\/(i<=4/\l.length<=i)):l.take i=l.take 4:=by
 rcases h with rfl|⟨h1,h2⟩
 ·rfl
 ·rw[List.take_of_length_le h2,List.take_of_length_le (by omega)]
theorem zjh {a b:UInt8}:((a.toNat:Int)=(b.toNat:Int))↔a=b:=by rw[Int.natCast_inj];exact UInt8.toNat_inj
theorem zi4 (a:UInt8):IntKind.i64.wrap (a.toNat:Int)=(a.toNat:Int):=by have:=a.toNat_lt;exact zb8 (by omega)
theorem zbV {c:UInt8}{s:Str}{i:Nat} (h:i<(cutL c [] s).length):(nth (cutL c [] s) i).length<=s.length:=by
 have:=zhC c s [] _ (zaj h);simpa using this
theorem zij {names:List Str}{s:Str} (hn:names.length<=1000000000000) (hs:s.length<=1000000):
  FnD Tryz.prog 118 [.d (zbY names),.d (.str s)] [] (.agg [.d (.str (zce names s).name),.d (zbI (zce names s).args),.d (.i (zce names s).index)]) []:=by
 have hwb:=zi4 (nth s (s.length-1));have hwl:=(nth s (s.length-1)).toNat_lt;by_cases hc:znr s
 ·have hc1:=hc.1;have hct:(s.take (s.length-2)).length=s.length-2:=by rw[List.length_take];omega
  have hcl:=zd4 40 (s.take (s.length-2)) [];have hcp:=zff 40 (s.take (s.length-2)) [];have hn1:=fun h=>zbV (c:=40) (s:=s.take (s.length-2)) (i:=1) h;have hal:=zd4 44 ((nth (cutL 40 [] (s.take (s.length-2))) 1).take ((nth (cutL 40 [] (s.take (s.length-2))) 1).length-1)) [];refine bd Tryz.f118 83 [] [2,7] fun w0 F0 own kept hk=>?_;refine ab 3004 ze7 ?_;refine tv ?_;refine bu [] [] zrK ?_;refine ab 3005 ze7 ?_;refine so zcA ?_;refine tv ?_;refine xam ?_;refine xau 11 [(20,.d (.bool (true)))] [10,11,12,13,14,15,16,17,18,19] ?_ ?_;refine ev ?_;refine sq ?_ ?_<;>intro h1 h1p h1s;refine ar ?_;refine xaR (i:=s.length-2) un9 (.some rfl rfl h1) rfl rfl rfl (by omega) (zaZ (by omega)) ?_;refine evs [] [(13,true)] ?_ ⟨⟨_,rfl,h1⟩,trivial⟩;exact jn rfl (xao (by(exact decide_eq_true (congrArg (fun z:UInt8=>(z.toNat:Int)) hc.2))));try simp only[Q,List.length_take] at h1p
  exact jn rfl (xao (by(exfalso;omega)));refine xat ?_;refine tv ?_;refine sq ?_ ?_<;>intro h2 h2p h2s;refine ar ?_;refine xaR (i:=s.length-1) un9 .none rfl rfl rfl (by omega) (zaZ (by omega)) ?_;refine xaH (by rw[un5];rfl) un3 .none rfl rfl ?_;refine ev ?_;refine ar ?_;refine so ty3 ?_;refine tv ?_;refine ar ?_;refine xaI (b:=s.length-2) un9 .none rfl rfl rfl (by omega) (by omega) ?_;refine ev ?_;refine wc zbF (zbb (s:=s.take (s.length-2)) (c:=40) (by first|omega|(simp;omega))) rfl rfl ?_;refine ev ?_;refine Walk.idx (i:=0) zaD .none rfl rfl rfl rfl (zae (by omega)) rfl ?_;refine ev ?_;refine so ty9 ?_;refine tv ?_;refine xam ?_;refine xau 10 [(49,.d (.bool (decide ((cutL 40 [] (s.take (s.length-2))).length<2\/(nth (cutL 40 [] (s.take (s.length-2))) 1).length=0))))] [40,41,42,43,44,45,46,47,48] ?_ ?_;refine ev ?_;refine sq ?_ ?_<;>intro h3 h3p h3s<;>(try simp only[Q,List.length_take] at h3p);exact jn rfl (xao (by(refine(decide_eq_true ?_).symm;omega)));refine Walk.idx (i:=1) zaD (.some rfl rfl h3) rfl rfl rfl rfl (zae (by omega)) rfl ?_;refine evs [] [(43,false)] ?_ ⟨⟨_,rfl,h3⟩,trivial⟩;exact jn rfl (xao (by(refine decide_eq_decide.2 ?_;omega)));refine xat ?_;refine tv ?_;refine sq ?_ ?_<;>intro h4 h4p h4s;refine so zcA ?_;refine tv ?_;refine rn0 (.cons (.cellA zcA rfl rfl rfl) .nil) (.agg (.cons (.eqd ?_) (.cons (.nild ?_) (.cons (.eqd ?_) .nil))));rotate_left 3;try simp only[Q,List.length_take] at h4p
  refine Walk.idx (i:=1) zaD .none rfl rfl rfl rfl (zae (by omega)) rfl ?_;refine evd [] [] ?_;refine Walk.idx (i:=1) zaD .none rfl rfl rfl rfl (zae (by omega)) rfl ?_;refine evd [] [] ?_;refine ar ?_;refine xaI (b:=(nth (cutL 40 [] (s.take (s.length-2))) 1).length-1) un9 .none rfl rfl rfl (by omega) (by omega) ?_;refine wc zbF (zbb (s:=(nth (cutL 40 [] (s.take (s.length-2))) 1).take ((nth (cutL 40 [] (s.take (s.length-2))) 1).length-1)) (c:=44) (by simp;omega)) rfl rfl ?_;refine evd [] [] ?_;refine dr ?_;refine CWp.tokB 3005 1 1 2 rfl rfl rfl rfl ?_;refine xak (ι:=Nat) hk (fun i=>[(8,.d (.i (i:Int)))]) [61,62,63,64,65,66,67,68,69,70,71,72,73,74,75,76,77,78,79,80,81] (fun i=>[(3005,some (.box [.d (.str (nth (cutL 40 [] (s.take (s.length-2))) 0)),.gl 1 (((((cutL 44 [] ((nth (cutL 40 [] (s.take (s.length-2))) 1).take ((nth (cutL 40 [] (s.take (s.length-2))) 1).length-1))).map (zcj names)).take i)).map Ty.c),.d (.i (((nth s (s.length-1)).toNat:Int)-48))])),(1,some (.tok (((((cutL 44 [] ((nth (cutL 40 [] (s.take (s.length-2))) 1).take ((nth (cutL 40 [] (s.take (s.length-2))) 1).length-1))).map (zcj names)).take i)).map Ty.c).length 2))]) (fun i=>i<=4/\i<=(cutL 44 [] ((nth (cutL 40 [] (s.take (s.length-2))) 1).take ((nth (cutL 40 [] (s.take (s.length-2))) 1).length-1))).length) (fun i=>4-i) 0 ⟨by omega,by omega⟩ ⟨⟨_,rfl,xap ?_⟩,trivial⟩ ⟨?_,⟨zaf ?_,trivial⟩⟩ (fun x=>rfl) (fun i hg1=>?_);focus (rfl)
  focus ((show some (Res.box _)=some (Res.box _);rw[hwb];rfl))
  focus (rfl)
  refine evc [] [2,7] ?_;refine sq ?_ ?_<;>intro h5 h5p h5s<;>(try simp only[Q,List.length_take] at h5p);refine sq ?_ ?_<;>intro h6 h6p h6s<;>(try simp only[Q,List.length_take] at h6p);refine Walk.idx zaD .none rfl rfl rfl rfl (zae (by omega)) rfl ?_;refine evd [] [] ?_;refine wc zkg (zdT (names:=names) (s:=nth (cutL 44 [] ((nth (cutL 40 [] (s.take (s.length-2))) 1).take ((nth (cutL 40 [] (s.take (s.length-2))) 1).length-1))) i) hn (by have:=zbV (c:=44) (s:=(nth (cutL 40 [] (s.take (s.length-2))) 1).take ((nth (cutL 40 [] (s.take (s.length-2))) 1).length-1)) (i:=i) (by omega);simp at this;omega)) rfl rfl ?_;refine si [0] [_] zax tz29 ?_;refine ap zax zz29 rfl rfl rfl (by simp) (by simp;omega) ?_;refine evd [] [] ?_;refine so zlj ?_;refine dr ?_;refine ar ?_;refine xah (i+1) ⟨⟨by omega,by omega⟩,(by omega),sx ⟨⟨_,rfl,xap ?_⟩,trivial⟩ ⟨?_,⟨zaf ?_,trivial⟩⟩⟩;focus (rfl)
  focus ((show some (Res.box _)=some (Res.box _);rw[zfR (by omega)];simp;done))
  focus ((simp;omega))
  refine so zcA ?_;refine tv ?_;refine rn0 (.cons (.cellA zcA rfl rfl rfl) .nil) (.agg (.cons (.eqd ?_) (.cons (.gld ?_) (.cons (.eqd ?_) .nil))));rotate_left 3;refine sqF ?_;refine so zcA ?_;refine tv ?_;refine rn0 (.cons (.cellA zcA rfl rfl rfl) .nil) (.agg (.cons (.eqd ?_) (.cons (.gld ?_) (.cons (.eqd ?_) .nil))));rotate_left 3;try simp only[Q,List.length_take] at h2p
  exact absurd h2 (by simp);all_goals (unfold zce;rw[if_pos hc];first|rfl|(rw[hwb];rfl)|(unfold zgs;dsimp only;by_cases hq:(cutL 40 [] (s.take (s.length-2))).length<2\/(nth (cutL 40 [] (s.take (s.length-2))) 1).length=0;all_goals first|(exfalso;exact(of_decide_eq_false h4) hq)|(exfalso;exact hq (of_decide_eq_true h4))|(rw[if_pos hq];done)|(rw[if_pos hq];rfl)|(rw[if_neg hq,<-List.map_take,zmm (by omega)];done)))
 ·skip
  have hcl:=zd4 40 (s) [];have hcp:=zff 40 (s) [];have hn1:=fun h=>zbV (c:=40) (s:=s) (i:=1) h;have hal:=zd4 44 ((nth (cutL 40 [] (s)) 1).take ((nth (cutL 40 [] (s)) 1).length-1)) [];refine bd Tryz.f118 83 [] [2,7] fun w0 F0 own kept hk=>?_;refine ab 3004 ze7 ?_;refine tv ?_;refine bu [] [] zrK ?_;refine ab 3005 ze7 ?_;refine so zcA ?_;refine tv ?_;refine xam ?_;refine xau 11 [(20,.d (.bool (false)))] [10,11,12,13,14,15,16,17,18,19] ?_ ?_;refine ev ?_;refine sq ?_ ?_<;>intro h1 h1p h1s;try simp only[Q,List.length_take] at h1p
  refine ar ?_;refine xaR (i:=s.length-2) un9 (.some rfl rfl h1) rfl rfl rfl (by omega) (zaZ (by omega)) ?_;refine evs [] [(13,true)] ?_ ⟨⟨_,rfl,h1⟩,trivial⟩;exact jn rfl (xao (by(exact decide_eq_false (fun hh=>hc ⟨by omega,(zjh (b:=58)).1 hh⟩))));exact jn rfl (xao (by rfl));refine xat ?_;refine tv ?_;refine sq ?_ ?_<;>intro h2 h2p h2s;exact absurd h2 (by simp);refine wc zbF (zbb (s:=s) (c:=40) (by first|omega|(simp;omega))) rfl rfl ?_;refine ev ?_;refine Walk.idx (i:=0) zaD .none rfl rfl rfl rfl (zae (by omega)) rfl ?_;refine ev ?_;refine so ty9 ?_;refine tv ?_;refine xam ?_;refine xau 10 [(49,.d (.bool (decide ((cutL 40 [] (s)).length<2\/(nth (cutL 40 [] (s)) 1).length=0))))] [40,41,42,43,44,45,46,47,48] ?_ ?_;refine ev ?_;refine sq ?_ ?_<;>intro h3 h3p h3s<;>(try simp only[Q,List.length_take] at h3p);exact jn rfl (xao (by(refine(decide_eq_true ?_).symm;omega)));refine Walk.idx (i:=1) zaD (.some rfl rfl h3) rfl rfl rfl rfl (zae (by omega)) rfl ?_;refine evs [] [(43,false)] ?_ ⟨⟨_,rfl,h3⟩,trivial⟩;exact jn rfl (xao (by(refine decide_eq_decide.2 ?_;omega)));refine xat ?_;refine tv ?_;refine sq ?_ ?_<;>intro h4 h4p h4s;refine so zcA ?_;refine tv ?_;refine rn0 (.cons (.cellA zcA rfl rfl rfl) .nil) (.agg (.cons (.eqd ?_) (.cons (.nild ?_) (.cons (.eqd ?_) .nil))));rotate_left 3;try simp only[Q,List.length_take] at h4p
  refine Walk.idx (i:=1) zaD .none rfl rfl rfl rfl (zae (by omega)) rfl ?_;refine evd [] [] ?_;refine Walk.idx (i:=1) zaD .none rfl rfl rfl rfl (zae (by omega)) rfl ?_;refine evd [] [] ?_;refine ar ?_;refine xaI (b:=(nth (cutL 40 [] (s)) 1).length-1) un9 .none rfl rfl rfl (by omega) (by omega) ?_;refine wc zbF (zbb (s:=(nth (cutL 40 [] (s)) 1).take ((nth (cutL 40 [] (s)) 1).length-1)) (c:=44) (by simp;omega)) rfl rfl ?_;refine evd [] [] ?_;refine dr ?_;refine CWp.tokB 3005 1 1 2 rfl rfl rfl rfl ?_;refine xak (ι:=Nat) hk (fun i=>[(8,.d (.i (i:Int)))]) [61,62,63,64,65,66,67,68,69,70,71,72,73,74,75,76,77,78,79,80,81] (fun i=>[(3005,some (.box [.d (.str (nth (cutL 40 [] (s)) 0)),.gl 1 (((((cutL 44 [] ((nth (cutL 40 [] (s)) 1).take ((nth (cutL 40 [] (s)) 1).length-1))).map (zcj names)).take i)).map Ty.c),.d (.i (0))])),(1,some (.tok (((((cutL 44 [] ((nth (cutL 40 [] (s)) 1).take ((nth (cutL 40 [] (s)) 1).length-1))).map (zcj names)).take i)).map Ty.c).length 2))]) (fun i=>i<=4/\i<=(cutL 44 [] ((nth (cutL 40 [] (s)) 1).take ((nth (cutL 40 [] (s)) 1).length-1))).length) (fun i=>4-i) 0 ⟨by omega,by omega⟩ ⟨⟨_,rfl,xap ?_⟩,trivial⟩ ⟨?_,⟨zaf ?_,trivial⟩⟩ (fun x=>rfl) (fun i hg1=>?_);focus (rfl)
  focus (rfl)
  focus (rfl)
  refine evc [] [2,7] ?_;refine sq ?_ ?_<;>intro h5 h5p h5s<;>(try simp only[Q,List.length_take] at h5p);refine sq ?_ ?_<;>intro h6 h6p h6s<;>(try simp only[Q,List.length_take] at h6p);refine Walk.idx zaD .none rfl rfl rfl rfl (zae (by omega)) rfl ?_;refine evd [] [] ?_;refine wc zkg (zdT (names:=names) (s:=nth (cutL 44 [] ((nth (cutL 40 [] (s)) 1).take ((nth (cutL 40 [] (s)) 1).length-1))) i) hn (by have:=zbV (c:=44) (s:=(nth (cutL 40 [] (s)) 1).take ((nth (cutL 40 [] (s)) 1).length-1)) (i:=i) (by omega);simp at this;omega)) rfl rfl ?_;refine si [0] [_] zax tz29 ?_;refine ap zax zz29 rfl rfl rfl (by simp) (by simp;omega) ?_;refine evd [] [] ?_;refine so zlj ?_;refine dr ?_;refine ar ?_;refine xah (i+1) ⟨⟨by omega,by omega⟩,(by omega),sx ⟨⟨_,rfl,xap ?_⟩,trivial⟩ ⟨?_,⟨zaf ?_,trivial⟩⟩⟩;focus (rfl)
  focus ((show some (Res.box _)=some (Res.box _);rw[zfR (by omega)];simp;done))
  focus ((simp;omega))
  refine so zcA ?_;refine tv ?_;refine rn0 (.cons (.cellA zcA rfl rfl rfl) .nil) (.agg (.cons (.eqd ?_) (.cons (.gld ?_) (.cons (.eqd ?_) .nil))));rotate_left 3;refine sqF ?_;refine so zcA ?_;refine tv ?_;refine rn0 (.cons (.cellA zcA rfl rfl rfl) .nil) (.agg (.cons (.eqd ?_) (.cons (.gld ?_) (.cons (.eqd ?_) .nil))));rotate_left 3;all_goals (unfold zce;rw[if_neg hc];first|rfl|(unfold zgs;dsimp only;by_cases hq:(cutL 40 [] (s)).length<2\/(nth (cutL 40 [] (s)) 1).length=0;all_goals first|(exfalso;exact(of_decide_eq_false h4) hq)|(exfalso;exact hq (of_decide_eq_true h4))|(rw[if_pos hq];done)|(rw[if_pos hq];rfl)|(rw[if_neg hq,<-List.map_take,zmm (by omega)];done)))
def decV (n:Int):Str:=strN [IntKind.u8.wrap (48+n)]
theorem zcm (n:Int):(decV n).length=1:=rfl
def ziA (n:Int):Str:=if n=0 then [] else if n = -1 then [42] else decV n
theorem zkF (n:Int):(ziA n).length<=1:=by unfold ziA;split;simp;split;simp;rw[zcm];omega
def zdN (w:List Data) (t:Ty):Str:=if t.data = -1 then [73] else (nth w t.data.toNat).name++ziA t.index
def zdc (w:List Data):Bool->List Ty->Str
 |_,[]=>[]
 |b,t::r=>((if b then [40] else [44])++zdN w t)++zdc w false r
def zb3 (w:List Data) (c:Ctor):Str:=
 let o:=c.name++zdc w true c.args
 let p:=if 0<c.args.length then o++[41] else o
 if 0<c.index then (p++[58])++decV c.index else p
def zbU (w:List Data):Bool->List Ctor->Str
 |_,[]=>[]
 |b,c::r=>((if b then [] else [124])++zb3 w c)++zbU w false r
def zhi (w:List Data):Bool->List Data->Str
 |_,[]=>[]
 |b,d::r=>((if b then [] else [59])++(d.name++[61])++zbU w true d.ctors)++zhi w false r
def zeR (w:List Data):Str:=zhi w true w
structure TB (w:List Data):Prop where
 len:w.length<=4
 dn:∀d∈w,d.name.length<=1/\d.ctors.length<=4
 cn:∀d∈w,∀c∈d.ctors,c.name.length<=5/\c.args.length<=3/\0<=c.index/\c.index<=3
 ar:∀d∈w,∀c∈d.ctors,∀t∈c.args,(t.data = -1\/(0<=t.data/\t.data.toNat<w.length))/\ -1<=t.index/\t.index<=3
theorem zh3 {w:List Data} (hv:zaC w=true):TB w:=by
 have hW:=(zer w).1 hv;refine⟨hW.len,fun d hd=>?_,fun d hd c hc=>?_,fun d hd c hc t ht=>?_⟩
 ·have h:=hW.data d hd;have h1:=h.1;simp only[zbf,xad,decide_eq_true_eq] at h1;omega
 ·have h:=hW.ctor d hd c hc;simp only[zbH,zc1,zal,xad,decide_eq_true_eq] at h;omega
 ·have h:=hW.ctor d hd c hc;simp only[zbH,xad,Bool.not_eq_true',List.any_eq_false] at h;have hax:zbn w.length t=true:=by
   have:=h.2.2.2 t ht;cases h:zbn w.length t with
   |true=>rfl
   |false=>rw[h] at this;exact absurd rfl this
  simp only[zbn,zal,Bool.or_eq_true,xad,decide_eq_true_eq,and_true] at hax;omega
theorem zeq {w:List Data} (hb:TB w){t:Ty} (ht:t.data = -1\/(0<=t.data/\t.data.toNat<w.length)):(zdN w t).length<=2:=by
 unfold zdN;split
 ·simp
 ·rename_i h;have h1:=(hb.dn _ (zaj (l:=w) (i:=t.data.toNat) (by omega))).1;have h2:=zkF t.index;simp only[xaa];omega
theorem zgo {w:List Data} (hb:TB w):∀(l:List Ty) (b:Bool),(∀t∈l,t.data = -1\/(0<=t.data/\t.data.toNat<w.length))->(zdc w b l).length<=3*l.length
 | [],_,_=>by simp[zdc]
 |t::r,b,h=>by
  have h1:=zeq hb (h t (by simp));have h2:=zgo hb r false (fun x hx=>h x (by simp[hx]));simp only[zdc,xaa,xab];have h3:(if b=true then [(40:UInt8)] else [44]).length=1:=by split<;>rfl
  omega
theorem zno {w:List Data} (hb:TB w){c:Ctor} (h1:c.name.length<=5/\c.args.length<=3) (h2:∀t∈c.args,t.data = -1\/(0<=t.data/\t.data.toNat<w.length)):(zb3 w c).length<=20:=by
 have h3:=zgo hb c.args true h2;unfold zb3;dsimp only;have h4:=zcm c.index;split<;>split<;>simp only[xaa,xab,xai]<;>omega
theorem zjv {w:List Data}:∀(l:List Ctor) (b:Bool),(∀c∈l,(zb3 w c).length<=20)->(zbU w b l).length<=21*l.length
 | [],_,_=>by simp[zbU]
 |c::r,b,h=>by
  have h1:=h c (by simp);have h2:=zjv r false (fun x hx=>h x (by simp[hx]));simp only[zbU,xaa,xab];have h3:(if b=true then ([]:Str) else [124]).length<=1:=by split<;>simp
  omega
theorem zbz {n:Int} (h0:0<=n) (h9:n<=9):FnD Tryz.prog 228 [.d (.i n)] [] (.d (.str (decV n))) []:=by
 refine bd Tryz.f228 31 [30] [] fun w0 F0 own kept hk=>?_;refine sq ?_ ?_<;>intro h1 h1p h1s<;>(try simp only[Q] at h1p);exfalso;omega;refine sq ?_ ?_<;>intro h2 h2p h2s<;>(try simp only[Q] at h2p);exfalso;omega;refine xak (ι:=Unit) hk (fun x=>[(0,.d (.i n)),(3,.d (.str []))]) [12,13,14,15,16,17,18,19,20,21,22,23] (fun x=>[]) (fun x=>True) (fun x=>0) () trivial ⟨⟨_,rfl,xap ?_⟩,⟨⟨_,rfl,xaq ?_⟩,trivial⟩⟩ trivial (fun x=>rfl) (fun x hg1=>?_);iterate 2 focus (first|rfl|omega)
 refine evc [30] [] ?_;refine sq ?_ ?_<;>intro h3 h3p h3s<;>(try simp only[Q] at h3p);exfalso;omega;refine ar ?_;refine xaH (by rw[un3];rfl) un5 .none rfl rfl ?_;refine si [0] [_] sl22 tz5 ?_;refine xaC sl22 un9 (by kernel_rfl) .none rfl rfl rfl (by first|rfl|exact ziH _) ?_;refine evs [30] [] ?_;refine xaF .none rfl rfl rfl (by simp[strN]) ?_;refine evs [30] [] ?_;refine rq ?_;rotate_left;all_goals (rfl)
theorem zk7 {n:Int} (h0 : -1<=n) (h9:n<=9):FnD Tryz.prog 262 [.d (.i n)] [] (.d (.str (ziA n))) []:=by
 refine bd Tryz.f262 10 [] [] fun w0 F0 own kept hk=>?_;refine sq ?_ ?_<;>intro h1 h1p h1s<;>(try simp only[Q] at h1p);refine rq ?_;rotate_left;refine sq ?_ ?_<;>intro h2 h2p h2s<;>(try simp only[Q] at h2p);refine rq ?_;rotate_left;refine wc zev (zbz (by omega) (by omega)) rfl rfl ?_;refine ev ?_;refine rq ?_;rotate_left;all_goals (refine congrArg D.str ?_;unfold ziA;first|(rw[if_pos (by omega)];done)|(rw[if_neg (by omega),if_pos (by omega)];done)|(rw[if_neg (by omega),if_neg (by omega)];done)|(rw[if_pos (by omega)];rfl))
theorem zeo {w:List Data} (hb:TB w){a k:Int} (ha:a = -1\/(0<=a/\a.toNat<w.length)) (hk : -1<=k/\k<=3):FnD Tryz.prog 227 [.d (zak w),.agg [.d (.i a),.d (.i k)]] [] (.d (.str (zdN w ⟨a,k⟩))) []:=by
 have hl:=zkF k;have hdn:a≠ -1->(nth w a.toNat).name.length<=1:=fun h=>(hb.dn _ (zaj (l:=w) (i:=a.toNat) (by omega))).1;refine bd Tryz.f227 18 [17] [] fun w0 F0 own kept hk=>?_;refine bx 3003 ?_;refine evs [17] [] ?_;refine sq ?_ ?_<;>intro h1 h1p h1s<;>(try simp only[Q] at h1p);refine rq ?_;rotate_left;refine Walk.idx (i:=a.toNat) sl23 .none rfl rfl rfl (by omega) (zae (by omega)) rfl ?_;refine evd [17] [] ?_;refine wc zsU (zk7 (by omega) (by omega)) rfl rfl ?_;refine xaF .none rfl rfl rfl (by have:=hdn h1p;omega) ?_;refine evd [17] [] ?_;refine dr ?_;refine rq ?_;rotate_left;all_goals (refine congrArg D.str ?_;unfold zdN;first|(rw[if_pos (by assumption)];done)|(rw[if_neg (by assumption)];done))
theorem zc6 {w:List Data} (hb:TB w){s:Str}{l:List Ty}{k:Int} (hs:s.length<=5) (hl:l.length<=3) (hk:0<=k/\k<=3)
  (hl2:∀t∈l,(t.data = -1\/(0<=t.data/\t.data.toNat<w.length))/\ -1<=t.index/\t.index<=3):
  FnD Tryz.prog 176 [.d (zak w),.agg [.d (.str s),.d (zbI l),.d (.i k)]] [] (.d (.str (zb3 w ⟨s,l,k⟩))) []:=by
 have hall:=zgo hb l true (fun t ht=>(hl2 t ht).1);have hdl:=zcm k;refine bd Tryz.f176 47 [19,21,30,36,41,45] [] fun w0 F0 own kept hk=>?_;refine bx 3003 ?_;refine evs [19,21,30,36,41,45] [] ?_;refine xak (ι:=List (Ty)×List (Ty)×(Str)) hk (fun x=>[(6,.d (.i (x.1.length:Int))),(5,.d (.str x.2.2))]) [9,10,11,12,13,14,15,16,17,18,19,20,21,22,23,24,25,26,27,28,29,30] (fun x=>[]) (fun x=>x.1++x.2.1=l/\x.2.2.length<=5+3*x.1.length/\x.2.2++zdc w (decide (x.1.length=0)) x.2.1=s++zdc w true l) (fun x=>x.2.1.length) ([],l,s) ⟨by simp,by simp;omega,by simp⟩ ⟨⟨_,rfl,xap ?_⟩,⟨⟨_,rfl,xaq ?_⟩,trivial⟩⟩ trivial (fun x=>rfl) (fun x hg1=>?_);iterate 2 focus (first|rfl|(dsimp only;rw[if_pos (by omega),List.append_assoc];done))
 obtain⟨pre,rest,o⟩:=x;dsimp only at hg1 ⊢;refine evc [19,21,30,36,41,45] [] ?_;refine sq ?_ ?_<;>intro h1 h1p h1s<;>(try simp only[Q] at h1p);rcases rest with _|⟨y,rest⟩
 ·exfalso;simp_all
 have hq:(zdN w ⟨y.data,y.index⟩).length<=2:=zeq hb (hl2 y (by rw[<-hg1.1];simp)).1;refine sq ?_ ?_<;>intro h2 h2p h2s<;>(try simp only[Q] at h2p);refine xaF .none rfl rfl rfl (by have hz:=congrArg List.length hg1.1;simp only[xaa,xab,xai] at hz ⊢;omega) ?_;refine evs [19,21,30,36,41,45] [] ?_;refine Walk.idx zax .none rfl rfl rfl rfl (zaH hg1.1) rfl ?_;refine evs [19,21,30,36,41,45] [] ?_;refine wc zkl (zeo hb (a:=y.data) (k:=y.index) (hl2 y (by rw[<-hg1.1];simp)).1 (hl2 y (by rw[<-hg1.1];simp)).2) rfl rfl ?_;refine xaF .none rfl rfl rfl (by have hz:=congrArg List.length hg1.1;simp only[xaa,xab,xai] at hz ⊢;omega) ?_;refine evs [19,21,30,36,41,45] [] ?_;refine ar ?_;refine xah ((pre++[y],rest,o++((if pre.length=0 then [40] else [44])++zdN w y))) ⟨⟨(by have hz:=hg1.1;rw[<-hz];simp),⟨(by have hq:=zeq hb (hl2 y (by rw[<-hg1.1];simp)).1;have h3:(if pre.length=0 then [(40:UInt8)] else [44]).length=1:=(by split<;>rfl);simp only[xaa,xab,xai];omega),(by rw[<-hg1.2.2];simp[zdc])⟩⟩,(by simp),sx ⟨⟨_,rfl,xap ?_⟩,⟨⟨_,rfl,xaq ?_⟩,trivial⟩⟩ trivial⟩;iterate 2 focus (first|(simp;done)|(dsimp only;rw[if_pos (by omega),List.append_assoc];done))
 refine xaF .none rfl rfl rfl (by have hz:=congrArg List.length hg1.1;simp only[xaa,xab,xai] at hz ⊢;omega) ?_;refine evs [19,21,30,36,41,45] [] ?_;refine Walk.idx zax .none rfl rfl rfl rfl (zaH hg1.1) rfl ?_;refine evs [19,21,30,36,41,45] [] ?_;refine wc zkl (zeo hb (a:=y.data) (k:=y.index) (hl2 y (by rw[<-hg1.1];simp)).1 (hl2 y (by rw[<-hg1.1];simp)).2) rfl rfl ?_;refine xaF .none rfl rfl rfl (by have hz:=congrArg List.length hg1.1;simp only[xaa,xab,xai] at hz ⊢;omega) ?_;refine evs [19,21,30,36,41,45] [] ?_;refine ar ?_;refine xah ((pre++[y],rest,o++((if pre.length=0 then [40] else [44])++zdN w y))) ⟨⟨(by have hz:=hg1.1;rw[<-hz];simp),⟨(by have hq:=zeq hb (hl2 y (by rw[<-hg1.1];simp)).1;have h3:(if pre.length=0 then [(40:UInt8)] else [44]).length=1:=(by split<;>rfl);simp only[xaa,xab,xai];omega),(by rw[<-hg1.2.2];simp[zdc])⟩⟩,(by simp),sx ⟨⟨_,rfl,xap ?_⟩,⟨⟨_,rfl,xaq ?_⟩,trivial⟩⟩ trivial⟩;iterate 2 focus (first|(simp;done)|(dsimp only;rw[if_pos (by omega),List.append_assoc];done)|(dsimp only;rw[if_neg (by omega),List.append_assoc];done))
 have hrest:rest=[]:=by
  rcases rest with _|⟨a,b⟩
  ·rfl
  ·exfalso;have hz:=congrArg List.length (hg1.1);simp only[xaa,xab,xac] at hz;omega
 subst hrest;refine sq ?_ ?_<;>intro h3 h3p h3s<;>(try simp only[Q] at h3p);refine xaF .none rfl rfl rfl (by have hz:=congrArg List.length hg1.1;simp only[xaa,xab,xai] at hz ⊢;omega) ?_;refine evs [19,21,30,36,41,45] [] ?_;refine sq ?_ ?_<;>intro h4 h4p h4s<;>(try simp only[Q] at h4p);refine xaF .none rfl rfl rfl (by have hz:=congrArg List.length hg1.1;simp only[xaa,xab,xai] at hz ⊢;omega) ?_;refine evs [19,21,30,36,41,45] [] ?_;refine wc zev (zbz (by omega) (by omega)) rfl rfl ?_;refine xaF .none rfl rfl rfl (by have hz:=congrArg List.length hg1.1;simp only[xaa,xab,xai] at hz ⊢;omega) ?_;refine evs [19,21,30,36,41,45] [] ?_;refine rq ?_;rotate_left;refine rq ?_;rotate_left;refine sq ?_ ?_<;>intro h5 h5p h5s<;>(try simp only[Q] at h5p);refine xaF .none rfl rfl rfl (by have hz:=congrArg List.length hg1.1;simp only[xaa,xab,xai] at hz ⊢;omega) ?_;refine evs [19,21,30,36,41,45] [] ?_;refine wc zev (zbz (by omega) (by omega)) rfl rfl ?_;refine xaF .none rfl rfl rfl (by have hz:=congrArg List.length hg1.1;simp only[xaa,xab,xai] at hz ⊢;omega) ?_;refine evs [19,21,30,36,41,45] [] ?_;refine rq ?_;rotate_left;refine rq ?_;rotate_left;all_goals (refine congrArg D.str ?_;have hfin:=hg1.2.2;simp only[zdc,List.append_nil] at hfin;unfold zb3;dsimp only;rw[<-hfin];first|(rw[if_pos (by omega),if_pos (by simp at *;omega)];done)|(rw[if_pos (by omega),if_neg (by simp at *;omega)];done)|(rw[if_neg (by omega),if_pos (by simp at *;omega)];done)|(rw[if_neg (by omega),if_neg (by simp at *;omega)];done))
theorem zlK {w:List Data} (hb:TB w):FnD Tryz.prog 119 [.d (zak w)] [] (.d (.str (zeR w))) []:=by
 have hwl:=hb.len;have hct:∀d∈w,∀c∈d.ctors,(zb3 w c).length<=20:=fun d hd c hc=>zno hb ⟨(hb.cn d hd c hc).1,(hb.cn d hd c hc).2.1⟩ (fun t ht=>(hb.ar d hd c hc t ht).1);refine bd Tryz.f119 51 [15,22,23,37,49] [] fun w0 F0 own kept hk=>?_;refine xak (ι:=List (Data)×List (Data)×(Str)) hk (fun x=>[(4,.d (.i (x.1.length:Int))),(3,.d (.str x.2.2))]) [5,6,7,8,9,10,11,12,13,14,15,16,17,18,19,20,21,22,23,24,25,26,27,28,29,30,31,32,33,34,35,36,37,38,39,40,41,42,43,44,45,46,47,48,49] (fun x=>[]) (fun x=>x.1++x.2.1=w/\x.2.2.length<=100*x.1.length/\x.2.2++zhi w (decide (x.1.length=0)) x.2.1=zeR w) (fun x=>x.2.1.length) ([],w,[]) ⟨by simp,by simp,by simp[zeR]⟩ ⟨⟨_,rfl,xap ?_⟩,⟨⟨_,rfl,xaq ?_⟩,trivial⟩⟩ trivial (fun x=>rfl) (fun x hg1=>?_);iterate 2 focus (first|rfl|(rw[hfin];simp;done))
 obtain⟨pre,rest,o⟩:=x;dsimp only at hg1 ⊢;refine evc [15,22,23,37,49] [] ?_;refine sq ?_ ?_<;>intro h1 h1p h1s<;>(try simp only[Q] at h1p);rcases rest with _|⟨y,rest⟩
 ·exfalso;simp_all
 have hym:y∈w:=(by rw[<-hg1.1];simp);have hyd:=hb.dn y hym;have hpl:pre.length<4:=(by omega);have hcl:=zjv (w:=w) y.ctors true (hct y hym);refine sq ?_ ?_<;>intro h2 h2p h2s<;>(try simp only[Q] at h2p);refine xaF .none rfl rfl rfl (by(try simp only[xaa,xab,xai]);omega) ?_;refine evs [15,22,23,37,49] [] ?_;refine Walk.idx sl23 .none rfl rfl rfl rfl (zaH hg1.1) rfl ?_;refine evs [15,22,23,37,49] [] ?_;refine xaF .none rfl rfl rfl (by(try simp only[xaa,xab,xai]);omega) ?_;refine xaF .none rfl rfl rfl (by(try simp only[xaa,xab,xai]);omega) ?_;refine evs [15,22,23,37,49] [] ?_;refine xak (ι:=List (Ctor)×List (Ctor)×(Str)) hk (fun x=>[(5,.d (.i (x.1.length:Int))),(3,.d (.str x.2.2))]) [24,25,26,27,28,29,30,31,32,33,34,35,36,37,38,39,40,41,42,43,44,45,46,47,48,49] (fun x=>[]) (fun x=>x.1++x.2.1=y.ctors/\x.2.2.length<=100*pre.length+4+21*x.1.length/\x.2.2++zbU w (decide (x.1.length=0)) x.2.1=(o++((if pre.length=0 then [] else [59])++(y.name++[61])))++zbU w true y.ctors) (fun x=>x.2.1.length) ([],y.ctors,o++((if pre.length=0 then [] else [59])++(y.name++[61]))) ⟨by simp,(by have h3:(if pre.length=0 then ([]:Str) else [59]).length<=1:=(by split<;>simp);simp only[xaa,xab,xai];omega),by simp⟩ ⟨⟨_,rfl,xap ?_⟩,⟨⟨_,rfl,xaq ?_⟩,trivial⟩⟩ trivial (fun x=>rfl) (fun x hg2=>?_);iterate 2 focus (first|rfl|(rw[if_neg (by omega)];simp;done))
 obtain⟨pre2,rest2,q⟩:=x;dsimp only at hg2 ⊢;refine evc [15,22,23,37,49] [] ?_;refine Walk.idx sl23 .none rfl rfl rfl rfl (zaH hg1.1) rfl ?_;refine evs [15,22,23,37,49] [] ?_;refine sq ?_ ?_<;>intro h3 h3p h3s<;>(try simp only[Q] at h3p);rcases rest2 with _|⟨c,rest2⟩
 ·exfalso;simp_all
 have hcm:=hct y hym c (by rw[<-hg2.1];simp);have hce:(zb3 w ⟨c.name,c.args,c.index⟩).length<=20:=hcm;have hp2:=congrArg List.length hg2.1;simp only[xaa,xab] at hp2;refine sq ?_ ?_<;>intro h4 h4p h4s<;>(try simp only[Q] at h4p);refine xaF .none rfl rfl rfl (by(try simp only[xaa,xab,xai]);omega) ?_;refine evs [15,22,23,37,49] [] ?_;refine Walk.idx sl23 .none rfl rfl rfl rfl (zaH hg1.1) rfl ?_;refine evs [15,22,23,37,49] [] ?_;refine Walk.idx zbw .none rfl rfl rfl rfl (zaH hg2.1) rfl ?_;refine evs [15,22,23,37,49] [] ?_;refine wc zkh (zc6 hb (s:=c.name) (l:=c.args) (k:=c.index) (hb.cn y hym c (by rw[<-hg2.1];simp)).1 (hb.cn y hym c (by rw[<-hg2.1];simp)).2.1 (hb.cn y hym c (by rw[<-hg2.1];simp)).2.2 (hb.ar y hym c (by rw[<-hg2.1];simp))) rfl rfl ?_;refine xaF .none rfl rfl rfl (by(try simp only[xaa,xab,xai]);omega) ?_;refine evs [15,22,23,37,49] [] ?_;refine ar ?_;refine xah ((pre2++[c],rest2,q++((if pre2.length=0 then [] else [124])++zb3 w c))) ⟨⟨(by have hz:=hg2.1;rw[<-hz];simp),⟨(by have h3:(if pre2.length=0 then ([]:Str) else [124]).length<=1:=(by split<;>simp);simp only[xaa,xab,xai];omega),(by rw[<-hg2.2.2];simp[zbU])⟩⟩,(by simp),sx ⟨⟨_,rfl,xap ?_⟩,⟨⟨_,rfl,xaq ?_⟩,trivial⟩⟩ trivial⟩;iterate 2 focus (first|rfl|(rw[if_neg (by omega)];simp;done))
 refine Walk.idx sl23 .none rfl rfl rfl rfl (zaH hg1.1) rfl ?_;refine evs [15,22,23,37,49] [] ?_;refine Walk.idx zbw .none rfl rfl rfl rfl (zaH hg2.1) rfl ?_;refine evs [15,22,23,37,49] [] ?_;refine wc zkh (zc6 hb (s:=c.name) (l:=c.args) (k:=c.index) (hb.cn y hym c (by rw[<-hg2.1];simp)).1 (hb.cn y hym c (by rw[<-hg2.1];simp)).2.1 (hb.cn y hym c (by rw[<-hg2.1];simp)).2.2 (hb.ar y hym c (by rw[<-hg2.1];simp))) rfl rfl ?_;refine xaF .none rfl rfl rfl (by(try simp only[xaa,xab,xai]);omega) ?_;refine evs [15,22,23,37,49] [] ?_;refine ar ?_;refine xah ((pre2++[c],rest2,q++((if pre2.length=0 then [] else [124])++zb3 w c))) ⟨⟨(by have hz:=hg2.1;rw[<-hz];simp),⟨(by have h3:(if pre2.length=0 then ([]:Str) else [124]).length<=1:=(by split<;>simp);simp only[xaa,xab,xai];omega),(by rw[<-hg2.2.2];simp[zbU])⟩⟩,(by simp),sx ⟨⟨_,rfl,xap ?_⟩,⟨⟨_,rfl,xaq ?_⟩,trivial⟩⟩ trivial⟩;iterate 2 focus (first|rfl|(rw[if_neg (by omega)];simp;done)|(rw[if_pos (by omega)];simp;done))
 have hrest2:rest2=[]:=by
  rcases rest2 with _|⟨a,b⟩
  ·rfl
  ·exfalso;have hz:=congrArg List.length (hg2.1);simp only[xaa,xab,xac] at hz;omega
 subst hrest2;refine ar ?_;have hfin:=hg2.2.2;simp only[zbU,List.append_nil] at hfin;refine xah ((pre++[y],rest,o++((if pre.length=0 then [] else [59])++(y.name++[61])++zbU w true y.ctors))) ⟨⟨(by have hz:=hg1.1;rw[<-hz];simp),⟨(by have h3:(if pre.length=0 then ([]:Str) else [59]).length<=1:=(by split<;>simp);simp only[xaa,xab,xai];omega),(by rw[<-hg1.2.2];simp[zhi])⟩⟩,(by simp),sx ⟨⟨_,rfl,xap ?_⟩,⟨⟨_,rfl,xaq ?_⟩,trivial⟩⟩ trivial⟩;iterate 2 focus (first|rfl|(simp;done)|(rw[hfin];simp;done))
 refine Walk.idx sl23 .none rfl rfl rfl rfl (zaH hg1.1) rfl ?_;refine evs [15,22,23,37,49] [] ?_;refine xaF .none rfl rfl rfl (by(try simp only[xaa,xab,xai]);omega) ?_;refine xaF .none rfl rfl rfl (by(try simp only[xaa,xab,xai]);omega) ?_;refine evs [15,22,23,37,49] [] ?_;refine xak (ι:=List (Ctor)×List (Ctor)×(Str)) hk (fun x=>[(5,.d (.i (x.1.length:Int))),(3,.d (.str x.2.2))]) [24,25,26,27,28,29,30,31,32,33,34,35,36,37,38,39,40,41,42,43,44,45,46,47,48,49] (fun x=>[]) (fun x=>x.1++x.2.1=y.ctors/\x.2.2.length<=100*pre.length+4+21*x.1.length/\x.2.2++zbU w (decide (x.1.length=0)) x.2.1=(o++((if pre.length=0 then [] else [59])++(y.name++[61])))++zbU w true y.ctors) (fun x=>x.2.1.length) ([],y.ctors,o++((if pre.length=0 then [] else [59])++(y.name++[61]))) ⟨by simp,(by have h3:(if pre.length=0 then ([]:Str) else [59]).length<=1:=(by split<;>simp);simp only[xaa,xab,xai];omega),by simp⟩ ⟨⟨_,rfl,xap ?_⟩,⟨⟨_,rfl,xaq ?_⟩,trivial⟩⟩ trivial (fun x=>rfl) (fun x hg2=>?_);iterate 2 focus (first|rfl|(rw[if_neg (by omega)];simp;done)|(rw[if_pos (by omega)];simp;done))
 obtain⟨pre2,rest2,q⟩:=x;dsimp only at hg2 ⊢;refine evc [15,22,23,37,49] [] ?_;refine Walk.idx sl23 .none rfl rfl rfl rfl (zaH hg1.1) rfl ?_;refine evs [15,22,23,37,49] [] ?_;refine sq ?_ ?_<;>intro h5 h5p h5s<;>(try simp only[Q] at h5p);rcases rest2 with _|⟨c,rest2⟩
 ·exfalso;simp_all
 have hcm:=hct y hym c (by rw[<-hg2.1];simp);have hce:(zb3 w ⟨c.name,c.args,c.index⟩).length<=20:=hcm;have hp2:=congrArg List.length hg2.1;simp only[xaa,xab] at hp2;refine sq ?_ ?_<;>intro h6 h6p h6s<;>(try simp only[Q] at h6p);refine xaF .none rfl rfl rfl (by(try simp only[xaa,xab,xai]);omega) ?_;refine evs [15,22,23,37,49] [] ?_;refine Walk.idx sl23 .none rfl rfl rfl rfl (zaH hg1.1) rfl ?_;refine evs [15,22,23,37,49] [] ?_;refine Walk.idx zbw .none rfl rfl rfl rfl (zaH hg2.1) rfl ?_;refine evs [15,22,23,37,49] [] ?_;refine wc zkh (zc6 hb (s:=c.name) (l:=c.args) (k:=c.index) (hb.cn y hym c (by rw[<-hg2.1];simp)).1 (hb.cn y hym c (by rw[<-hg2.1];simp)).2.1 (hb.cn y hym c (by rw[<-hg2.1];simp)).2.2 (hb.ar y hym c (by rw[<-hg2.1];simp))) rfl rfl ?_;refine xaF .none rfl rfl rfl (by(try simp only[xaa,xab,xai]);omega) ?_;refine evs [15,22,23,37,49] [] ?_;refine ar ?_;refine xah ((pre2++[c],rest2,q++((if pre2.length=0 then [] else [124])++zb3 w c))) ⟨⟨(by have hz:=hg2.1;rw[<-hz];simp),⟨(by have h3:(if pre2.length=0 then ([]:Str) else [124]).length<=1:=(by split<;>simp);simp only[xaa,xab,xai];omega),(by rw[<-hg2.2.2];simp[zbU])⟩⟩,(by simp),sx ⟨⟨_,rfl,xap ?_⟩,⟨⟨_,rfl,xaq ?_⟩,trivial⟩⟩ trivial⟩;iterate 2 focus (first|rfl|(rw[if_neg (by omega)];simp;done))
 refine Walk.idx sl23 .none rfl rfl rfl rfl (zaH hg1.1) rfl ?_;refine evs [15,22,23,37,49] [] ?_;refine Walk.idx zbw .none rfl rfl rfl rfl (zaH hg2.1) rfl ?_;refine evs [15,22,23,37,49] [] ?_;refine wc zkh (zc6 hb (s:=c.name) (l:=c.args) (k:=c.index) (hb.cn y hym c (by rw[<-hg2.1];simp)).1 (hb.cn y hym c (by rw[<-hg2.1];simp)).2.1 (hb.cn y hym c (by rw[<-hg2.1];simp)).2.2 (hb.ar y hym c (by rw[<-hg2.1];simp))) rfl rfl ?_;refine xaF .none rfl rfl rfl (by(try simp only[xaa,xab,xai]);omega) ?_;refine evs [15,22,23,37,49] [] ?_;refine ar ?_;refine xah ((pre2++[c],rest2,q++((if pre2.length=0 then [] else [124])++zb3 w c))) ⟨⟨(by have hz:=hg2.1;rw[<-hz];simp),⟨(by have h3:(if pre2.length=0 then ([]:Str) else [124]).length<=1:=(by split<;>simp);simp only[xaa,xab,xai];omega),(by rw[<-hg2.2.2];simp[zbU])⟩⟩,(by simp),sx ⟨⟨_,rfl,xap ?_⟩,⟨⟨_,rfl,xaq ?_⟩,trivial⟩⟩ trivial⟩;iterate 2 focus (first|rfl|(rw[if_neg (by omega)];simp;done)|(rw[if_pos (by omega)];simp;done))
 have hrest2:rest2=[]:=by
  rcases rest2 with _|⟨a,b⟩
  ·rfl
  ·exfalso;have hz:=congrArg List.length (hg2.1);simp only[xaa,xab,xac] at hz;omega
 subst hrest2;refine ar ?_;have hfin:=hg2.2.2;simp only[zbU,List.append_nil] at hfin;refine xah ((pre++[y],rest,o++((if pre.length=0 then [] else [59])++(y.name++[61])++zbU w true y.ctors))) ⟨⟨(by have hz:=hg1.1;rw[<-hz];simp),⟨(by have h3:(if pre.length=0 then ([]:Str) else [59]).length<=1:=(by split<;>simp);simp only[xaa,xab,xai];omega),(by rw[<-hg1.2.2];simp[zhi])⟩⟩,(by simp),sx ⟨⟨_,rfl,xap ?_⟩,⟨⟨_,rfl,xaq ?_⟩,trivial⟩⟩ trivial⟩;iterate 2 focus (first|rfl|(simp;done)|(rw[hfin];simp;done))
 have hrest:rest=[]:=by
  rcases rest with _|⟨a,b⟩
  ·rfl
  ·exfalso;have hz:=congrArg List.length (hg1.1);simp only[xaa,xab,xac] at hz;omega
 subst hrest;refine rq ?_;rotate_left;all_goals (refine congrArg D.str ?_;have hfin:=hg1.2.2;simp only[zhi,List.append_nil] at hfin;exact hfin)
def pwL (s:Str):List Str:=cutL 59 [] s
def pwP (s:Str) (i:Nat):List Str:=cutL 61 [] (nth (pwL s) i)
def pwC (s:Str) (i:Nat):List Str:=cutL 124 [] (nth (pwP s i) 1)
def zbv (s:Str):Nat:=if s=[] then 0 else min (pwL s).length 5
def zck (s:Str) (n:Nat):List Str:=(List.range n).map fun i=>nth (pwP s i) 0
def ziL (s:Str) (i:Nat):Data:=⟨nth (pwP s i) 0,((pwC s i).take 5).map (zce (zck s (zbv s)))⟩
def zcx (s:Str) (n:Nat):List Data:=(List.range n).map (ziL s)
def zfI (s:Str):Bool:=(List.range (zbv s)).all (fun i=>decide ((pwP s i).length=2))&&(zaC (zcx s (zbv s))&&decide (zeR (zcx s (zbv s))=s))
def zc3 (s:Str):List Data×Bool:=if zfI s then (zcx s (zbv s),true) else ([],false)
theorem znW (s:Str):zbv s<=(pwL s).length/\zbv s<=5:=by unfold zbv;split<;>omega
theorem zea {s:Str}{i:Nat}:i<zbv s↔(i<(pwL s).length/\i<=4)/\s≠[]:=by
 unfold zbv;split
 ·rename_i h;simp[h]
 ·rename_i h;simp only[h,ne_eq,not_false_eq_true,and_true];omega
theorem zaP (s:Str) (n:Nat):(zck s n).length=n:=by simp[zck]
theorem znX (s:Str) (n:Nat):zck s (n+1)=zck s n++[nth (pwP s n) 0]:=by unfold zck;rw[List.range_succ,xaf];rfl
theorem zkR (s:Str) (n:Nat):zcx s (n+1)=zcx s n++[ziL s n]:=by unfold zcx;rw[List.range_succ,xaf];rfl
theorem zsa {s:Str}{n m:Nat} (h:m<n):((zck s n).map fun n=>[D.str n])[m]?=some [D.str (nth (pwP s m) 0)]:=by
 simp[zck,h]
theorem zoM {s:Str}{i:Nat} (h:i<(pwL s).length):(nth (pwL s) i).length<=s.length:=zbV h
theorem zjb {s:Str}{i j:Nat} (h:i<(pwL s).length) (hj:j<(pwP s i).length):(nth (pwP s i) j).length<=s.length:=Nat.le_trans (zbV hj) (zoM h)
theorem zsi {s:Str}{i k:Nat} (h:k<(pwC s i).length):(nth (pwC s i) k).length<=(nth (pwP s i) 1).length:=zbV h
theorem zqB {α:Type}{l:List α}{i:Nat} (h:i=5\/(i<=5/\l.length<=i)):l.take i=l.take 5:=by
 rcases h with rfl|⟨h1,h2⟩
 ·rfl
 ·rw[List.take_of_length_le h2,List.take_of_length_le (by omega)]
theorem zo8 {c:UInt8}{s:Str}:(nth (cutL c [] s) 0).length<=s.length:=zbV (zff c s [])
theorem znL {names:List Str}{s:Str}:(zce names s).name.length<=s.length/\(zce names s).args.length<=4:=by
 have key:∀(ix:Int) (t:Str),(zgs names ix t).name.length<=t.length/\(zgs names ix t).args.length<=4:=by
  intro ix t;refine⟨zo8, ?_⟩;unfold zgs;dsimp only;split
  ·simp
  ·simp only[xac,List.length_take];omega
 unfold zce;split
 ·have:=key (((nth s (s.length-1)).toNat:Int)-48) (s.take (s.length-2));rw[List.length_take] at this;omega
 ·exact key 0 s
theorem zmj {s:Str} (hs:s.length<=1000000) (h2:∀j,j<zbv s->(pwP s j).length=2):WSmall (zcx s (zbv s)):=by
 have hl:=znW s;have hd:∀d∈zcx s (zbv s),∃i,i<zbv s/\d=ziL s i:=fun d hd=>by
  obtain⟨i,hi,rfl⟩:=List.mem_map.1 hd;exact⟨i,List.mem_range.1 hi,rfl⟩
 refine⟨by simp only[zcx,xac,List.length_range];omega,fun d hd'=>?_,fun d hd' c hc=>?_⟩
 ·obtain⟨i,hi,rfl⟩:=hd d hd';have:=zjb (s:=s) (i:=i) (j:=0) (by omega) (by rw[h2 i hi];omega);refine⟨?_, ?_⟩
  ·show(nth (pwP s i) 0).length<=_;omega
  ·simp only[ziL,xac,List.length_take];omega
 ·obtain⟨i,hi,rfl⟩:=hd d hd';obtain⟨t,ht,rfl⟩:=List.mem_map.1 hc;have h3:=zjb (s:=s) (i:=i) (j:=1) (by omega) (by rw[h2 i hi];omega);have h4:t.length<=(nth (pwP s i) 1).length:=by simpa using zhC 124 (nth (pwP s i) 1) [] t (List.mem_of_mem_take ht)
  have h5:=znL (names:=zck s (zbv s)) (s:=t);omega
theorem zt4 {s:Str} (hs:s.length<=1000000):FnD Tryz.prog 117 [.d (.str s),.d (.int .u8 59)] [] (.d (zbY (pwL s))) []:=zbb (s:=s) (c:=59) (by omega)
theorem zru {s:Str}{i:Nat} (hs:s.length<=1000000) (h:i<(pwL s).length):FnD Tryz.prog 117 [.d (.str (nth (pwL s) i)),.d (.int .u8 61)] [] (.d (zbY (pwP s i))) []:=zbb (s:=nth (pwL s) i) (c:=61) (by have:=zoM h;omega)
theorem zt3 {s:Str}{i:Nat} (hs:s.length<=1000000) (h:i<(pwL s).length) (h2:(pwP s i).length=2):FnD Tryz.prog 117 [.d (.str (nth (pwP s i) 1)),.d (.int .u8 124)] [] (.d (zbY (pwC s i))) []:=
 zbb (s:=nth (pwP s i) 1) (c:=124) (by have:=zjb (j:=1) h (by omega);omega)
theorem zeu {w:List Data} (hs:WSmall w):FnD Tryz.prog 35 [.d (zak w)] [] (.d (.bool (zaC w))) []:=by
 rw[<-zet];exact zee hs
theorem zox {s:Str} (h:zfI s=false):zc3 s=([],false):=by unfold zc3;rw[if_neg (by rw[h];simp)]
theorem zqX {s:Str} (h:zfI s=true):zc3 s=(zcx s (zbv s),true):=by unfold zc3;rw[if_pos h]
theorem zqW {s:Str}{i:Nat} (h:i<zbv s) (h2:¬(pwP s i).length=2):zfI s=false:=by
 unfold zfI;rw[zcW h (by simpa using h2),Bool.false_and]
theorem zl5 {s:Str} (h:∀j,j<zbv s->(pwP s j).length=2):zfI s=(zaC (zcx s (zbv s))&&decide (zeR (zcx s (zbv s))=s)):=by
 unfold zfI;rw[zdn (fun i hi=>by simpa using h i hi),Bool.true_and]
theorem ziS {s:Str} (hs:s.length<=100000):FnD Tryz.prog 56 [.d (.str s)] [] (.tup [.d (zak (zc3 s).1),.d (.bool (zc3 s).2)]) []:=by
 have hl:=znW s;have hcl:(pwL s).length<=s.length+1:=zd4 59 s [];have hccl:∀i,(pwC s i).length<=(nth (pwP s i) 1).length+1:=fun i=>zd4 124 _ [];have hnl:=zaP s;refine bd Tryz.f56 101 [] [5,17,21] fun w0 F0 own kept hk=>?_;refine xa6 1 sl23 .none rfl rfl ?_;refine ev ?_;refine xa6 2 zaD .none rfl rfl ?_;refine ev ?_;refine wc zbF (zt4 (s:=s) (by omega)) rfl rfl ?_;refine ev ?_;refine xak (ι:=Nat) hk (fun i=>[(7,.d (.i (i:Int))),(5,.gl 2 ((zck s i).map fun n=>[D.str n]))]) [2,3,8,17,18,19,20,21,22,23,24,25,26,27,28,29,30,31,32,33,34,35,36,37,38,39,40,41,42,43,44,45] (fun i=>[(2,some (.tok (((zck s i).map fun n=>[D.str n])).length 1))]) (fun i=>i<=zbv s/\∀j,j<i->(pwP s j).length=2) (fun i=>zbv s-i) 0 ⟨by omega,fun j h=>absurd h (by omega)⟩ ⟨⟨_,rfl,xap ?_⟩,⟨⟨_,rfl,LeA.glg ?_⟩,trivial⟩⟩ ⟨zaf ?_,trivial⟩ (fun x=>rfl) (fun i hg1=>?_);iterate 3 focus (rfl)
 refine evc [] [5,17,21] ?_;refine xam ?_;refine xau 12 [(28,.d (.bool (decide (i<zbv s))))] [17,18,19,20,21,22,23,24,25,26,27] ?_ ?_;refine ev ?_;refine sq ?_ ?_<;>intro h1 h1p h1s<;>(try simp only[Q,zaP] at h1p);refine sq ?_ ?_<;>intro h2 h2p h2s<;>(try simp only[Q,zaP] at h2p);focus (exact jn rfl (xao (by(rw[Bool.eq_iff_iff];simp_all[zea];omega))))
 focus (exact jn rfl (xao (by(rw[Bool.eq_iff_iff];simp_all[zea];omega))))
 refine sqF ?_;focus (exact jn rfl (xao (by(rw[Bool.eq_iff_iff];simp_all[zea];omega))))
 refine xat ?_;refine tv ?_;refine sq ?_ ?_<;>intro h3 h3p h3s<;>(try simp only[Q,zaP] at h3p);refine Walk.idx zaD .none rfl rfl rfl rfl (zae (by omega)) rfl ?_;refine ev ?_;refine wc zbF (zru (s:=s) (i:=i) (by omega) (by omega)) rfl rfl ?_;refine ev ?_;refine sq ?_ ?_<;>intro h4 h4p h4s<;>(try simp only[Q,zaP] at h4p);refine xa5 sl23 .none rfl ?_;refine ev ?_;refine rn0 (r2 rfl rfl) (.tup (.cons (.eqd ?_) (.cons (.eqd ?_) .nil)));rotate_left 2;refine Walk.idx (i:=0) zaD .none rfl rfl rfl rfl (zae (by omega)) rfl ?_;refine ev ?_;refine si [0] [_] zaD tz9 ?_;refine ap zaD zz9 rfl rfl rfl (by simp) (by simp[zaP,zcx];omega) ?_;refine ev ?_;refine ar ?_;refine xah (i+1) ⟨⟨by omega,zaN hg1.2 (by omega)⟩,(by omega),sx ⟨⟨_,rfl,xap ?_⟩,⟨⟨_,rfl,LeA.glg ?_⟩,trivial⟩⟩ ⟨zaf ?_,trivial⟩⟩;iterate 3 focus (first|rfl|(rw[znX];simp;done))
 obtain rfl:i=zbv s:=(by omega);refine xak (ι:=Nat) hk (fun m=>[(9,.d (.i (m:Int))),(4,.gl 1 ((zcx s m).map Data.c))]) [10,11,12,46,47,48,49,50,51,52,53,54,55,56,57,58,59,60,61,62,63,64,65,66,67,68,69,70,71,72,73,74,75,76,77,78,79,80,81,82,83,84,85,86,87,88,89] (fun m=>[(1,some (.tok (((zcx s m).map Data.c)).length 2))]) (fun m=>m<=zbv s) (fun m=>zbv s-m) 0 (by omega) ⟨⟨_,rfl,xap ?_⟩,⟨⟨_,rfl,LeA.glg ?_⟩,trivial⟩⟩ ⟨zaf ?_,trivial⟩ (fun x=>rfl) (fun m hg2=>?_);iterate 3 focus (rfl)
 refine evc [] [5,17,21] ?_;refine sq ?_ ?_<;>intro h5 h5p h5s<;>(try simp only[Q,zaP] at h5p);refine Walk.idx zaD .none rfl rfl rfl rfl (zae (by omega)) rfl ?_;refine ev ?_;refine wc zbF (zru (s:=s) (i:=m) (by omega) (by omega)) rfl rfl ?_;refine Walk.idx (i:=1) zaD .none rfl rfl rfl rfl (zae (by(rw[hg1.2 m (by omega)];omega))) rfl ?_;refine ev ?_;refine wc zbF (zt3 (s:=s) (i:=m) (by omega) (by omega) (hg1.2 m (by omega))) rfl rfl ?_;refine ev ?_;refine xaP zaD .none rfl rfl rfl rfl (zsa (by omega)) rfl ?_;refine ev ?_;refine bu [0] [_] zrI ?_;refine ab 3011 zjg ?_;refine so zpn ?_;refine tv ?_;refine CWp.tokB 3011 1 3 3 rfl rfl rfl rfl ?_;refine xak (ι:=Nat) hk (fun k=>[(12,.d (.i (k:Int)))]) [65,66,67,68,69,70,71,72,73,74,75,76,77,78,79,80,81,82,83,84,85] (fun k=>[(3011,some (.box [.d (.str (nth (pwP s m) 0)),.gl 3 ((((pwC s m).map (zce (zck s (zbv s)))).take k).map Ctor.c)])),(3,some (.tok ((((pwC s m).map (zce (zck s (zbv s)))).take k).map Ctor.c).length 3))]) (fun k=>k<=5/\k<=(pwC s m).length) (fun k=>5-k) 0 ⟨by omega,by omega⟩ ⟨⟨_,rfl,xap ?_⟩,trivial⟩ ⟨?_,⟨zaf ?_,trivial⟩⟩ (fun x=>rfl) (fun k hg3=>?_);focus (rfl)
 focus (rfl)
 focus (rfl)
 refine evc [] [5,17,21] ?_;refine xam ?_;refine xau 8 [(72,.d (.bool (decide (k<(pwC s m).length/\k<=4))))] [65,66,67,68,69,70,71] ?_ ?_;refine ev ?_;refine sq ?_ ?_<;>intro h6 h6p h6s<;>(try simp only[Q,zaP] at h6p);focus (exact jn rfl (xao (by(rw[Bool.eq_iff_iff];simp_all[zea];omega))))
 focus (exact jn rfl (xao (by(rw[Bool.eq_iff_iff];simp_all[zea];omega))))
 refine xat ?_;refine tv ?_;refine sq ?_ ?_<;>intro h7 h7p h7s<;>(try simp only[Q,zaP] at h7p);refine Walk.idx zaD .none rfl rfl rfl rfl (zae (by omega)) rfl ?_;refine evd [] [] ?_;refine Walk.call (cr:=[]) zsw (zij (names:=zck s (zbv s)) (s:=nth (pwC s m) k) (by rw[hnl];omega) (by have h1:=zjb (s:=s) (i:=m) (j:=1) (by omega) (by rw[hg1.2 m (by omega)];omega);have h2:=zsi (s:=s) (i:=m) (k:=k) (by omega);omega)) rfl .none rfl rfl (.cons (.gl _ _) (.cons (.refl _) .nil)) trivial rfl rfl rfl ?_;refine si [0] [_] zbw ze7 ?_;refine ap zbw zrR rfl rfl rfl (by simp) (by simp[zaP,zcx];omega) ?_;refine evd [] [] ?_;refine so zgX ?_;refine dr ?_;refine ar ?_;refine xah (k+1) ⟨⟨by omega,by omega⟩,(by omega),sx ⟨⟨_,rfl,xap ?_⟩,trivial⟩ ⟨?_,⟨zaf ?_,trivial⟩⟩⟩;focus (rfl)
 focus ((show some (Res.box _)=some (Res.box _);rw[zfR (by omega)];simp;done))
 focus ((simp;omega))
 refine si [0] [_] sl23 zjg ?_;refine ap sl23 zpv rfl rfl rfl (by simp) (by simp[zaP,zcx];omega) ?_;refine ev ?_;refine ar ?_;refine xah (m+1) ⟨(by omega),(by omega),sx ⟨⟨_,rfl,xap ?_⟩,⟨⟨_,rfl,LeA.glg ?_⟩,trivial⟩⟩ ⟨zaf ?_,trivial⟩⟩;iterate 3 focus (first|rfl|(rw[zkR];simp;done)|(rw[zkR,xaf];simp only[xae,List.map_nil,ziL,Data.c];rw[<-List.map_take,zqB (by omega)];done))
 obtain rfl:m=zbv s:=(by omega);refine xam ?_;refine xau 9 [(98,.d (.bool (!(zaC (zcx s (zbv s))&&decide (zeR (zcx s (zbv s))=s)))))] [90,91,92,93,94,95,96,97] ?_ ?_;refine ev ?_;refine Walk.call (cr:=[]) zhA (zeu (zmj (by omega) hg1.2)) rfl .none rfl rfl (.cons (.gl _ _) .nil) trivial rfl rfl rfl ?_;refine ev ?_;refine sq ?_ ?_<;>intro h8 h8p h8s<;>(try simp only[Q,zaP] at h8p);focus (exact jn rfl (xao (by(rw[Bool.eq_iff_iff];simp_all[zea];done))))
 refine Walk.call (cr:=[]) zsx (zlK (zh3 (by assumption))) rfl (.some rfl rfl h8) rfl rfl (.cons (.gl _ _) .nil) trivial rfl rfl rfl ?_;refine evs [] [(93,false)] ?_ ⟨⟨_,rfl,h8⟩,trivial⟩;focus (exact jn rfl (xao (by(rw[Bool.eq_iff_iff];simp_all[zea];done))))
 refine xat ?_;refine tv ?_;refine sq ?_ ?_<;>intro h9 h9p h9s<;>(try simp only[Q,zaP] at h9p);refine xa5 sl23 .none rfl ?_;refine ev ?_;refine rn0 (r2 rfl rfl) (.tup (.cons (.eqd ?_) (.cons (.eqd ?_) .nil)));rotate_left 2;refine rn0 (r2 rfl rfl) (.tup (.cons (.gld ?_) (.cons (.eqd ?_) .nil)));rotate_left 2;all_goals (first|(have hq:=zqW (s:=s) (i:=i) h3p (fun h=>h4p (by omega));rw[zox hq];all_goals rfl)|(have hr:=zl5 hg1.2;rw[h9s] at hr;rw[zox hr];all_goals rfl)|(have hr:=zl5 hg1.2;rw[h9s] at hr;rw[zqX hr];all_goals rfl))
def zdM:List Str:=[[76,61,78,105,108,124,67,111,110,115,40,73,44,76,41],
 [66,61,84,114,117,124,70,108,115,59,84,61,76,101,97,102,124,78,111,100,101,40,84,44,66,44,84,41],
 [69,61,78,117,109,40,73,41,58,49,124,66,111,108,40,66,41,58,50,124,65,100,100,40,69,49,44,69,49,41,58,49,124,73,102,40,69,50,44,69,42,44,69,42,41,59,66,61,84,114,117,124,70,108,115],
 [79,61,78,111,110,124,83,111,109,40,73,41,59,80,61,80,97,105,114,40,79,44,79,41],
 [86,61,69,110,100,58,49,124,83,111,109,101,40,73,44,86,49,41,58,50,124,84,119,111,40,86,42,41],
 [78,61,78,101,118,101,114,40,78,41,59,66,61,84,114,117,124,70,108,115,124,77,97,121,40,78,41],
 [83,61,82,101,100,124,71,114,101,101,110,124,66,108,117,101,124,77,105,120,40,83,44,83,41],
 []]
theorem zpm:zdM.length=8:=rfl
theorem zn7:∀t∈zdM,t.length<=100:=by decide
theorem zlh {i:Nat} (h:i<8):(nth zdM i).length<=100:=zn7 _ (zaj h)
theorem znM {s:Str} (hs:s.length<=100000):WSmall (zc3 s).1:=by
 unfold zc3;split
 ·rename_i h;refine zmj (by omega) (fun j hj=>?_);unfold zfI at h;rw[xad,List.all_eq_true] at h;simpa using h.1 j (List.mem_range.2 hj)
 ·exact⟨by simp,fun d hd=>by simp at hd,fun d hd=>by simp at hd⟩
def zi2 (b:Str) (p:Nat):List Data:=(zc3 (nth zdM (zap b p 7).toNat)).1
theorem zpd (b:Str) (p:Nat):(zap b p 7).toNat<7:=by have:=zd9 (b:=b) (p:=p) (n:=7) (by omega);omega
theorem zi3 {b:Str}{p:Nat}:WSmall (zi2 b p):=znM (by have h:=zpd b p;have:=zlh (i:=(zap b p 7).toNat) (by omega);omega)
theorem zla:FnD Tryz.prog 57 [] [] (.d (zbY zdM)) []:=by
 refine bd Tryz.f57 2 [] [] fun w0 F0 own kept hk=>?_;refine si [0,1,2,3,4,5,6,7] [_,_,_,_,_,_,_,_] zaD tz9 ?_;refine ev ?_;refine rq ?_;rotate_left;all_goals (rfl)
end Go.Proofs.YtmchfdpleibpdaaGreat
namespace Go.Proofs.YtmchfdpleibpdaaGreat
open Go
set_option linter.unusedSimpArgs false
set_option linter.unusedVariables false
theorem zl3 (L:List Nat) (hp:Hp) (i:Nat):getH (L.map (fun j=>(j,(none:Option Res)))++hp) i=if i∈L then none else getH hp i:=by
 induction L with
 |nil=>simp
 |cons x r ih=>
  simp only[xae,xag,zad,List.mem_cons];by_cases h:i=x
  ·subst h;simp
  ·simp[h,ih]
section
variable {c:Ctx}
theorem R.drop {G:Gh}{s:St}{a:Act}{w:World} (hr:R c G s a w) (L:List Nat) (hk:∀i l,c.kept i=some l->i∉L):R c G ⟨s.env,L.map (fun j=>(j,none))++s.hp⟩ a w:=by
 have hg:=zl3 L s.hp;have hT:∀i p,tokf (L.map (fun j=>(j,(none:Option Res)))++s.hp) i=some p->tokf s.hp i=some p:=fun i p h=>by
  obtain⟨n,k⟩:=p;have:=zam.1 h;rw[hg] at this;split at this
  ·cases this
  ·exact zam.2 this
 have hm:∀ {x:AV}{v:Value},RelA G (tokf s.hp) w x v->RelA G (tokf (L.map (fun j=>(j,(none:Option Res)))++s.hp)) w x v:=fun hx=>
  hx.mono (fun _ _ ho=>⟨ho,rfl⟩) (fun _ _=> .inl rfl) (fun i _ p hp=>⟨hT i p hp,fun _ _=>⟨rfl,rfl⟩⟩)
 have hs:∀i r,getH (L.map (fun j=>(j,(none:Option Res)))++s.hp) i=some r->getH s.hp i=some r:=fun i r h=>by
  rw[hg] at h;split at h
  ·cases h
  ·exact h
 have hss:∀i,(getH (L.map (fun j=>(j,(none:Option Res)))++s.hp) i).isSome->(getH s.hp i).isSome:=fun i h=>by
  obtain⟨r,hr⟩:=Option.isSome_iff_exists.1 h;rw[hs i r hr];rfl
 refine⟨hr.size,hr.defers,fun i v h=>hm (hr.slots i v h),fun i r h=>?_,fun i j h1 h2=>hr.disj i j (hss i h1) (hss j h2),fun i h=>hr.new i (hss i h),hr.frm,hr.top,fun i l hl=>?_⟩
 ·have hh:=hr.heap i r (hs i r h);cases r with
  |box cs=>
   obtain⟨b,vs,e,h1,h2,h3,h4,h5⟩:=hh;exact⟨b,vs,e,h1,h2,h3,h4,fun j hj hv=>hm (h5 j hj hv)⟩
  |tok m k=>exact hh
  |map ks=>exact hh
  |tree cs=>exact zbi hh rfl (fun _ _=>⟨rfl,rfl⟩) (Nat.le_refl _) (fun _ _ _=>hm)
 ·obtain⟨k1,k2,k3⟩:=hr.kept i l hl;refine⟨k1, ?_, ?_⟩
  ·show(getH (L.map (fun j=>(j,(none:Option Res)))++s.hp) i).isSome
   rw[hg,if_neg (hk i l hl)];exact k2
  ·show tokf (L.map (fun j=>(j,(none:Option Res)))++s.hp) i=none
   cases h:tokf (L.map (fun j=>(j,(none:Option Res)))++s.hp) i with
   |none=>rfl
   |some p=>rw[hT i p h] at k3;cases k3
theorem R.retokG {G G':Gh}{s:St}{a:Act}{w w':World} (hr:R c G s a w){id n n' k:Nat} (htok:getH s.hp id=some (.tok n k)) (hlt:n<n')
  (hF:∀b o,o<G.F b->o<G'.F b/\w'.cell? ⟨b,o,none⟩=w.cell? ⟨b,o,none⟩) (hloc:∀i,i≠id->G'.loc i=G.loc i)
  (hoth:∀b,b<w.heap.size->b∉G.loc id->w'.heap[b]?=w.heap[b]?/\G'.F b=G.F b)
  (hid:∀b,b∈G'.loc id->b<w'.heap.size) (hnew:∀b,b∈G'.loc id->b∈G.loc id\/w.heap.size<=b\/((b∈c.own\/c.w0.heap.size<=b)/\∀i,i≠id->(getH s.hp i).isSome->b∉G.loc i))
  (hos:w'.os=w.os) (htp:w'.tape=w.tape) (hou:w'.output=w.output) (hsz:w.heap.size<=w'.heap.size) (htop:∀b,w'.heap.size<=b->G'.F b=0):
  R c G' { s with hp:=(id,some (.tok n' k))::s.hp } a w':=by
 have hT:tokf s.hp id=some (n,k):=zam.2 htok;have hT1:tokf ((id,some (.tok n' k))::s.hp) id=some (n',k):=zam.2 (by rw[zad,if_pos rfl]);have hT2:∀i,i≠id->tokf ((id,some (.tok n' k))::s.hp) i=tokf s.hp i:=fun i hi=>by
  unfold tokf;rw[zad,if_neg hi]
 have bound:∀i r,getH s.hp i=some r->∀b,b∈G.loc i->b<w.heap.size:=fun i r h=>(hr.heap i r h).bound;have apart:∀i r,i≠id->getH s.hp i=some r->∀b,b∈G.loc i->b∉G.loc id:=fun i r hi h b hb=>hr.disj i id (by rw[h];rfl) (by rw[htok];rfl) hi b hb;have hm:∀ {x:AV}{v:Value},RelA G (tokf s.hp) w x v->RelA G' (tokf ((id,some (.tok n' k))::s.hp)) w' x v:=fun hx=>
  hx.retok hF hT hlt hT1 hT2 hloc (fun i p hi hp b hb=>by
   obtain⟨m,k'⟩:=p;have h1:=zam.1 hp;exact hoth b (bound i _ h1 b hb) (apart i _ hi h1 b hb))
 have hsome:∀i,(getH ((id,some (.tok n' k))::s.hp) i).isSome->(getH s.hp i).isSome:=fun i h=>by
  rw[zad] at h;split at h
  ·rename_i e;subst e;rw[htok];rfl
  ·exact h
 have hidnew:=hr.new id (by rw[htok];rfl);have far:∀b,b∈G'.loc id->∀i r,i≠id->getH s.hp i=some r->b∉G.loc i:=fun b hb i r hi h hbj=>by
  rcases hnew b hb with h1|h1|h1
  ·exact apart i r hi h b hbj h1
  ·have:=bound i r h b hbj;omega
  ·exact h1.2 i hi (by rw[h];rfl) hbj
 refine⟨hr.size,hr.defers,fun i v h=>hm (hr.slots i v h),fun i r h=>?_,fun i j h1 h2 h3 b hb=>?_,fun i h b hb=>?_,
  hr.frm.trans (own1:=G.loc id) ⟨hos,htp,hou,hsz,hoth,hF⟩ hidnew,htop,fun i l hl=>?_⟩
 ·rw[zad] at h;by_cases hi:i=id
  ·subst hi;rw[if_pos rfl] at h;cases h
   exact hid
  ·rw[if_neg hi] at h;have hh:=hr.heap i r h;have ho:∀b,b∈G.loc i->w'.heap[b]?=w.heap[b]?/\G'.F b=G.F b:=fun b hb=>hoth b (bound i r h b hb) (apart i r hi h b hb);cases r with
   |box cs=>
    obtain⟨b,vs,e,h1,h2,h3,h4,h5⟩:=hh;obtain⟨o1,o2⟩:=ho b (by simp[h1]);exact⟨b,vs,e,(hloc i hi).trans h1,o1.trans h2,h3,o2.trans h4,fun j hj hv=>hm (h5 j hj hv)⟩
   |tok m k'=>exact fun b h1=>Nat.lt_of_lt_of_le (hh b (by rw[hloc i hi] at h1;exact h1)) (by omega)
   |map ks=>
    obtain⟨b,es,cl,h1,h2,h3,h4⟩:=hh;obtain⟨o1,o2⟩:=ho b (by simp[h1]);exact⟨b,es,cl,(hloc i hi).trans h1,o1.trans h2,o2.trans h3,h4⟩
   |tree cs=>exact zbi hh (hloc i hi) ho (by omega) (fun _ _ _=>hm)
 ·have s1:=hsome i h1;have s2:=hsome j h2;obtain⟨r1,hr1⟩:=Option.isSome_iff_exists.1 s1;obtain⟨r2,hr2⟩:=Option.isSome_iff_exists.1 s2;by_cases hi:i=id
  ·subst hi;rw[hloc j (Ne.symm h3)];exact far b hb j r2 (Ne.symm h3) hr2
  ·rw[hloc i hi] at hb;by_cases hj:j=id
   ·subst hj;exact fun hbj=>far b hbj i r1 hi hr1 hb
   ·rw[hloc j hj];exact hr.disj i j s1 s2 h3 b hb
 ·have s1:=hsome i h;by_cases hi:i=id
  ·subst hi;rcases hnew b hb with h' | h' | h'
   ·exact hidnew b h'
   ·right;have:=hr.frm.size;omega
   ·exact h'.1
  ·rw[hloc i hi] at hb;exact hr.new i s1 b hb
 ·have hk:=hr.kept i l hl;have hi:i≠id:=fun e=>by subst e;rw[hT] at hk;simp at hk
  refine⟨(congrArg List.head? (hloc i hi)).trans hk.1, ?_,(hT2 i hi).trans hk.2.2⟩;show(getH ((id,some (.tok n' k))::s.hp) i).isSome
  rw[zad,if_neg hi];exact hk.2.1
inductive RowT (hp:Hp):List AV->List D->List (Nat×Nat×Nat)->Prop
 |nil:RowT hp [] [] []
 |sc {x cs ds js} (hs:zjc x=true) (h:RowT hp cs ds js):RowT hp (.d x::cs) (x::ds) js
 |ni {cs ds js} (h:RowT hp cs ds js):RowT hp (.nils::cs) (.sl []::ds) js
 |gt {j zs n k cs ds js} (hj:getH hp j=some (.tok n k)) (hn:n=zs.length) (h:RowT hp cs ds js):RowT hp (.gt j zs::cs) (.sl zs::ds) ((j,n,k)::js)
theorem RowT.toks {hp:Hp}{cs:List AV}{ds:List D}{js:List (Nat×Nat×Nat)} (h:RowT hp cs ds js):∀q,q∈js->getH hp q.1=some (.tok q.2.1 q.2.2):=by
 induction h with
 |nil=>intro q hq;simp at hq
 |sc _ _ ih=>exact ih
 |ni _ ih=>exact ih
 |gt hj _ _ ih=>
  intro q hq;rcases List.mem_cons.1 hq with rfl|hq
  ·exact hj
  ·exact ih q hq
theorem RowT.move {hp hp':Hp}{cs:List AV}{ds:List D}{js:List (Nat×Nat×Nat)} (h:RowT hp cs ds js):(∀q,q∈js->getH hp' q.1=some (.tok q.2.1 q.2.2))->RowT hp' cs ds js:=by
 induction h with
 |nil=>intro _;exact .nil
 |sc hs _ ih=>intro h;exact .sc hs (ih h)
 |ni _ ih=>intro h;exact .ni (ih h)
 |gt hj hn _ ih=>intro h;exact .gt (h (_,_,_) List.mem_cons_self) hn (ih fun q hq=>h q (List.mem_cons_of_mem _ hq))
theorem RowT.len {hp:Hp}{cs:List AV}{ds:List D}{js:List (Nat×Nat×Nat)} (h:RowT hp cs ds js):ds.length=cs.length:=by
 induction h with
 |nil=>rfl
 |sc _ _ ih=>simp[ih]
 |ni _ ih=>simp[ih]
 |gt _ _ _ ih=>simp[ih]
theorem RowT.trees {G:Gh}{hp:Hp}{w:World}{cs:List AV}{ds:List D}{js:List (Nat×Nat×Nat)} (h:RowT hp cs ds js):∀ {vs:List Value},vs.length=cs.length->
  (∀i (hi:i<cs.length) (hv:i<vs.length),RelA G (tokf hp) w cs[i] vs[i])->
  ∃Sl:List (List Nat),Sl.length=cs.length/\(∀i (hi:i<ds.length) (hv:i<vs.length) (hs:i<Sl.length),TreeD true w ds[i] vs[i] Sl[i])/\Sl.flatten=js.flatMap (fun q=>G.loc q.1)/\
   (∀u,u∈vs->u.oneCell'=true)/\∀q,q∈js->(G.loc q.1).Nodup/\∀b,b∈G.loc q.1->G.F b=0:=by
 induction h with
 |nil=>
  intro vs hl _;have:vs=[]:=List.eq_nil_of_length_eq_zero hl;subst this;exact⟨[],rfl,fun i hi=>by simp at hi,rfl,by simp,by simp⟩
 | @sc x cs ds js hs h ih=>
  intro vs hl hrel;match vs,hl with
  |v::vs,hl=>
   obtain⟨Sl,h1,h2,h3,h4,h5⟩:=ih (vs:=vs) (by simpa using hl) (fun i hi hv=>hrel (i+1) (by simpa using hi) (by simpa using hv));have h0:=(hrel 0 (by simp) (by simp)).d_inv;simp only[List.getElem_cons_zero] at h0;obtain⟨f1,f2⟩:=zf8 hs;refine⟨[]::Sl,by simp[h1],fun i hi hv hs'=>?_,by simpa using h3,fun u hu=>?_,h5⟩
   ·cases i with
    |zero=>exact TreeD.ofFlat f1 (.inr f2) h0
    |succ i=>exact h2 i (by simpa using hi) (by simpa using hv) (by simpa using hs')
   ·rcases List.mem_cons.1 hu with rfl|hu
    ·exact h0.one
    ·exact h4 u hu
 | @ni cs ds js h ih=>
  intro vs hl hrel;match vs,hl with
  |v::vs,hl=>
   obtain⟨Sl,h1,h2,h3,h4,h5⟩:=ih (vs:=vs) (by simpa using hl) (fun i hi hv=>hrel (i+1) (by simpa using hi) (by simpa using hv));have h0:=hrel 0 (by simp) (by simp);simp only[List.getElem_cons_zero] at h0;have hv:v = .slice none 0 0:=by cases h0;rfl
   subst hv;refine⟨[]::Sl,by simp[h1],fun i hi hv hs'=>?_,by simpa using h3,fun u hu=>?_,h5⟩
   ·cases i with
    |zero=>exact .nil
    |succ i=>exact h2 i (by simpa using hi) (by simpa using hv) (by simpa using hs')
   ·rcases List.mem_cons.1 hu with rfl|hu
    ·rfl
    ·exact h4 u hu
 | @gt j zs n k cs ds js hj hn h ih=>
  intro vs hl hrel;match vs,hl with
  |v::vs,hl=>
   obtain⟨Sl,h1,h2,h3,h4,h5⟩:=ih (vs:=vs) (by simpa using hl) (fun i hi hv=>hrel (i+1) (by simpa using hi) (by simpa using hv));have h0:=hrel 0 (by simp) (by simp);simp only[List.getElem_cons_zero] at h0;obtain⟨⟨ad,cap0,hv0⟩,hcl⟩:=h0.gt_inv;obtain⟨hkx,htip⟩:=(hcl n k (zam.2 hj)).2 hn;have key:TreeD true w (.sl zs) v (G.loc j)/\(G.loc j).Nodup/\∀b,b∈G.loc j->G.F b=0:=by
    rcases htip with ⟨e1,e2,e3⟩|⟨b,cap,us,e,Ss,e1,e2,e3,e4,e5,e6,e7,e8⟩
    ·have hz:zs=[]:=List.eq_nil_of_length_eq_zero (by omega);subst hz;rw[e1,e3];exact⟨.nil,by simp,by simp⟩
    ·refine⟨?_,e6,e7⟩;subst hn;rw[e1,e2];exact TreeD.sl (m:=true) zs k b cap us e Ss hkx e5 e3 e4 e8.1 (fun _ hz=>e8.2 (by rw[hz];rfl))
   refine⟨G.loc j::Sl,by simp[h1],fun i hi hv hs'=>?_,by simp[h3],fun u hu=>?_,fun q hq=>?_⟩
   ·cases i with
    |zero=>exact key.1
    |succ i=>exact h2 i (by simpa using hi) (by simpa using hv) (by simpa using hs')
   ·rcases List.mem_cons.1 hu with rfl|hu
    ·rw[hv0];rfl
    ·exact h4 u hu
   ·rcases List.mem_cons.1 hq with rfl|hq
    ·exact key.2
    ·exact h5 q hq
def ndB:List Nat->Bool
 | []=>true
 |x::r=> !zaB x r&&ndB r
theorem zmc:∀ {l:List Nat},ndB l=true->l.Nodup
 | [],_=> .nil
 |x::r,h=>by
  simp only[ndB,xad,Bool.not_eq_true'] at h;refine List.nodup_cons.2 ⟨fun hm=>?_,zmc h.2⟩;rw[zay.2 hm] at h;cases h.1
theorem zkK {loc:Nat->List Nat}:∀ {l:List Nat},l.Nodup->(∀j,j∈l->(loc j).Nodup)->(∀i j,i∈l->j∈l->i≠j->∀b,b∈loc i->b∉loc j)->(l.flatMap loc).Nodup
 | [],_,_,_=>by simp
 |x::r,h,h1,h2=>by
  have hn:=List.nodup_cons.1 h;simp only[List.flatMap_cons,List.nodup_append,List.mem_flatMap];refine⟨h1 x (by simp),zkK hn.2 (fun j hj=>h1 j (by simp[hj])) (fun i j hi hj=>h2 i j (by simp[hi]) (by simp[hj])),fun b hb b' hb' e=>?_⟩;obtain⟨j,hj,hbj⟩:=hb';subst e;exact h2 x j (by simp) (by simp[hj]) (fun e=>by subst e;exact hn.1 hj) b hb hbj
theorem zen {α:Type}{f:Nat->List α} (n m:Nat):(List.range (n+m)).flatMap f=(List.range n).flatMap f++(List.range m).flatMap (fun i=>f (n+i)):=by
 rw[List.range_add,List.flatMap_append];congr 1
 simp[List.flatMap_map]
theorem zgS {α:Type}:∀(l:List (List α)),(List.range l.length).flatMap (fun i=>l.getD i [])=l.flatten
 | []=>rfl
 |x::r=>by
  rw[xab,show r.length+1=1+r.length by omega,zen];simp only[List.flatten_cons,<-zgS r];congr 1
  ·simp[List.range_succ]
  ·congr 1;funext i;rw[show 1+i=i+1 by omega];rfl
theorem zfa {α:Type}{f g:Nat->List α} (n:Nat) (h:∀i,i<n->f i=g i):(List.range n).flatMap f=(List.range n).flatMap g:=by
 induction n with
 |zero=>rfl
 |succ n ih=>rw[zen,zen,ih (fun i hi=>h i (by omega))];simp[h n (by omega)]
theorem zik {t:TypeId}{G:Gh}{s:St}{a:Act}{w:World}{hp1:Hp} (hr:R c G ⟨s.env,hp1⟩ a w){id m k e yb cap2:Nat}{xs ys:List (List D)}{v:Value}{a0:Addr}{news:List Value}{Sl:List (List Nat)} (ht:SlT c.P t e k yb){z:Value} (hz:∃i,c.P.info? e=some i/\i.zero=some z/\z.cells.size=k)
  (htok1:getH hp1 id=some (.tok xs.length k)) (hkx:∀x,x∈xs->x.length=k) (htip:TipT G w id xs.length k v xs) (hky:∀y,y∈ys->y.length=k) (hym:ys.length=m) (hmpos:0<m)
  (hnl:news.length=m*k) (hnews:∀j u,news[j]?=some u->w.cell? (a0.add j)=some u) (hone:∀u,u∈news->u.oneCell'=true) (hSl:Sl.length=m*k)
  (htr:∀i (hi:i<ys.length) j (hj:j<ys[i].length) (hv:i*k+j<news.length),TreeD true w ys[i][j] news[i*k+j] (Sl.getD (i*k+j) []))
  (newNodup:Sl.flatten.Nodup) (newF:∀b,b∈Sl.flatten->G.F b=0) (newLt:∀b,b∈Sl.flatten->b<w.heap.size) (newOwn:∀b,b∈Sl.flatten->b∈c.own\/c.w0.heap.size<=b)
  (newApart1:∀b,b∈Sl.flatten->∀i,i≠id->(getH hp1 i).isSome->b∉G.loc i) (newNe:∀x,x∈Sl.flatten->x∉G.loc id)
  (hb:(xs.length+m)*yb<=140737488355328) (hm:xs.length+m<=9223372036854775807) (opt:TypeId):
  ∃v' w' G',(Builtin.append_ #[t,t] opt #[v,.slice (some a0) m cap2]).run c.P w = .ok v' w'/\
   R c G' ⟨s.env,(id,some (.tok (xs.length+m) k))::hp1⟩ a w'/\
   RelA G' (tokf ((id,some (.tok (xs.length+m) k))::hp1)) w' (.gt id (xs++ys)) v':=by
 obtain⟨i,hi1,hi2,hi3⟩:=ht.inf;obtain⟨i',z1,z2,z3⟩:=hz;rw[hi1] at z1;cases z1
 have hT':tokf ((id,some (.tok (xs.length+m) k))::hp1) id=some (xs.length+m,k):=zam.2 (by rw[zad,if_pos rfl]);have hlt:∀b o,o<G.F b->b<w.heap.size:=fun b o ho=>by
  rcases Nat.lt_or_ge b w.heap.size with h|h
  ·exact h
  ·rw[hr.top b h] at ho;omega
 have hkx':∀x,x∈xs++ys->x.length=k:=fun x hx=>by
  rcases List.mem_append.1 hx with h|h
  ·exact hkx x h
  ·exact hky x h
 have hmul1:(xs.length+m)*k=xs.length*k+m*k:=by rw[Nat.add_mul]
 have hlen':(xs++ys).length=xs.length+m:=by rw[xaa,hym]
 let Sn:(Nat->List Nat)->Nat->List Nat:=fun Ss q=>if q<xs.length*k then Ss q else Sl.getD (q-xs.length*k) []
 have hSn:∀Ss,(List.range ((xs.length+m)*k)).flatMap (Sn Ss)=(List.range (xs.length*k)).flatMap Ss++Sl.flatten:=fun Ss=>by
  rw[hmul1,zen];congr 1
  ·exact zfa _ (fun i hi=>by simp[Sn,hi])
  ·rw[<-zgS Sl,hSl];refine zfa _ (fun i hi=>?_);simp only[Sn];rw[if_neg (by omega),show xs.length*k+i-xs.length*k=i by omega]

 have trees:∀(Ss:Nat->List Nat) (olds:List Value) (tail:List Value) (w':World),olds.length=xs.length*k->(∀b,b∈(List.range (xs.length*k)).flatMap Ss++Sl.flatten->w'.heap[b]?=w.heap[b]?)->
   (∀i (hi:i<xs.length) j (hj:j<xs[i].length),TreeD true w xs[i][j] (olds.getD (i*k+j) undef) (Ss (i*k+j)))->
   ∀i (hi:i<(xs++ys).length) j (hj:j<(xs++ys)[i].length),TreeD true w' (xs++ys)[i][j] ((olds++news++tail).toArray.getD (i*k+j) undef) (Sn Ss (i*k+j)):=by
  intro Ss olds tail w' hol hw hold i hi j hj;by_cases hix:i<xs.length
  ·have e0:(xs++ys)[i]=xs[i]:=List.getElem_append_left hix;have hj':j<xs[i].length:=by rw[<-e0];exact hj
   have h1:xs[i].length=k:=hkx _ (List.getElem_mem hix);have hlt':i*k+j<xs.length*k:=zcQ hix (by omega);have e1:(olds++news++tail).toArray.getD (i*k+j) undef=olds.getD (i*k+j) undef:=by
    simp[List.getD,List.append_assoc,List.getElem?_append_left (show i*k+j<olds.length by omega)]
   have e2:Sn Ss (i*k+j)=Ss (i*k+j):=by simp[Sn,hlt']
   rw[e1,e2];have e3:(xs++ys)[i][j]=xs[i][j]:=by congr 1
   rw[e3];refine(hold i hix j hj').mono (fun b hb=>hw b ?_);exact List.mem_append_left _ (List.mem_flatMap.2 ⟨i*k+j,List.mem_range.2 hlt',hb⟩)
  ·have hiy:i-xs.length<ys.length:=by omega
   have e0:(xs++ys)[i]=ys[i-xs.length]:=List.getElem_append_right (by omega);have hj':j<ys[i-xs.length].length:=by rw[<-e0];exact hj
   have e3:(xs++ys)[i][j]=ys[i-xs.length][j]:=by congr 1
   have hjk:j<k:=by rw[<-hky _ (List.getElem_mem hiy)];exact hj'
   have hq:(i-xs.length)*k+j<m*k:=zcQ (by omega) hjk;have hpos:i*k+j=xs.length*k+((i-xs.length)*k+j):=by
    rw[show i*k=xs.length*k+(i-xs.length)*k by rw[<-Nat.add_mul];congr 1;omega];omega
   have hjn:(i-xs.length)*k+j<news.length:=by omega
   have e1:(olds++news++tail).toArray.getD (i*k+j) undef=news[(i-xs.length)*k+j]:=by
    rw[hpos,<-hol];simp[List.getD,List.append_assoc,List.getElem?_append_right,List.getElem?_append_left hjn,hjn]
   have hjs:(i-xs.length)*k+j<Sl.length:=by omega
   have e2:Sn Ss (i*k+j)=Sl.getD ((i-xs.length)*k+j) []:=by
    simp only[Sn];rw[hpos,if_neg (by omega),show xs.length*k+((i-xs.length)*k+j)-xs.length*k=(i-xs.length)*k+j by omega]
   rw[e1,e2,e3];refine(htr _ hiy j hj' hjn).mono (fun b hb=>hw b ?_);have e4:Sl.getD ((i-xs.length)*k+j) []=Sl[(i-xs.length)*k+j]:=by simp[List.getD,hjs]
   rw[e4] at hb;exact List.mem_append_right _ (List.mem_flatten.2 ⟨_,List.getElem_mem hjs,hb⟩)
 have hidlt:∀b,b∈G.loc id->b<w.heap.size:=(hr.heap id _ htok1).bound

 have fresh:∀(Ss:Nat->List Nat) (olds:List Value) (nc:Nat),olds.length=xs.length*k->xs.length+m<=nc->
   ((List.range (xs.length*k)).flatMap Ss).Nodup->(∀b,b∈(List.range (xs.length*k)).flatMap Ss->b∈G.loc id/\G.F b=0)->
   (∀i (hi:i<xs.length) j (hj:j<xs[i].length),TreeD true w xs[i][j] (olds.getD (i*k+j) undef) (Ss (i*k+j)))->
   ∃G',R c G' ⟨s.env,(id,some (.tok (xs.length+m) k))::hp1⟩ a (w.drew.alloc (.cells (olds.toArray++news.toArray++Builtin.zeroCells z.cells (nc-(xs.length+m))) e))/\
    RelA G' (tokf ((id,some (.tok (xs.length+m) k))::hp1)) (w.drew.alloc (.cells (olds.toArray++news.toArray++Builtin.zeroCells z.cells (nc-(xs.length+m))) e))
     (.gt id (xs++ys)) (.slice (some ⟨w.heap.size,0,none⟩) (xs.length+m) nc):=by
  intro Ss olds nc hol hnc' hndS hSin hold;let cs':Array Value:=olds.toArray++news.toArray++Builtin.zeroCells z.cells (nc-(xs.length+m))
  let G':Gh:={ F:=G.F,loc:=fun j=>bif Nat.beq j id then w.heap.size::(List.range ((xs.length+m)*k)).flatMap (Sn Ss) else G.loc j }
  have hcs:cs'.size=nc*k:=by
   simp only[cs',Array.size_append,List.size_toArray,size_zeroCells,z3,hol,hnl];rw[<-hmul1,<-Nat.add_mul];congr 1;omega
  have hcell:∀b o,o<G.F b->o<G'.F b/\(w.drew.alloc (.cells cs' e)).cell? ⟨b,o,none⟩=w.cell? ⟨b,o,none⟩:=fun b o ho=>by
   have hb:=hlt b o ho;exact⟨ho,by rw[World.cell?_alloc_lt w.drew _ _ hb];rfl⟩
  have hlocne:∀j,j≠id->G'.loc j=G.loc j:=fun j hj=>by simp[G',zb0 hj]
  have hlocid:G'.loc id=w.heap.size::(List.range ((xs.length+m)*k)).flatMap (Sn Ss):=by simp[G']
  have hlocid':G'.loc id=w.heap.size::((List.range (xs.length*k)).flatMap Ss++Sl.flatten):=by rw[hlocid,hSn]
  have hmem:∀b,b∈(List.range (xs.length*k)).flatMap Ss++Sl.flatten->b<w.heap.size:=fun b hb=>by
   rcases List.mem_append.1 hb with h|h
   ·exact hidlt b (hSin b h).1
   ·exact newLt b h
  refine⟨G',hr.retokG (G':=G') htok1 (by omega) hcell hlocne (fun b hb _=>⟨zdb (w:=w.drew) hb,rfl⟩) (fun b hb=>?_) (fun b hb=>?_) rfl rfl rfl (by simp) (fun b hb=>?_), ?_⟩
  ·rw[hlocid'] at hb;have hsz1:(w.drew.alloc (.cells cs' e)).heap.size=w.heap.size+1:=by simp
   show b<(w.drew.alloc (.cells cs' e)).heap.size
   rw[hsz1];rcases List.mem_cons.1 hb with rfl|hb
   ·exact Nat.lt_succ_self _
   ·exact Nat.lt_succ_of_lt (hmem b hb)
  ·rw[hlocid'] at hb;rcases List.mem_cons.1 hb with rfl|hb
   ·exact .inr (.inl (Nat.le_refl _))
   ·rcases List.mem_append.1 hb with h|h
    ·exact .inl (hSin b h).1
    ·exact .inr (.inr ⟨newOwn b h,newApart1 b h⟩)
  ·have hb':w.heap.size+1<=b:=by simpa using hb
   exact hr.top b (by omega)
  refine .gt ⟨_,_,by rw[hlen']⟩ (fun n' k' hm'=>?_);rw[hT'] at hm';cases hm'
  have hnodup:(G'.loc id).Nodup:=by
   rw[hlocid'];refine List.nodup_cons.2 ⟨fun h=>absurd (hmem _ h) (Nat.lt_irrefl _),List.nodup_append.2 ⟨hndS,newNodup,fun b hb b' hb' e=>?_⟩⟩;subst e;exact newNe b hb' (hSin b hb).1
  refine⟨by rw[hlen'];exact Nat.le_refl _,fun _=>⟨hkx',.inr ⟨w.heap.size,nc,cs',e,Sn Ss,hlocid,rfl,zda (w:=w.drew),by rw[hcs];exact Nat.le_refl _,hnc',hnodup,fun b hb=>?_, ?_,fun h=>by omega⟩⟩⟩
  ·rw[hlocid'] at hb;rcases List.mem_cons.1 hb with rfl|hb
   ·exact hr.top _ (Nat.le_refl _)
   ·rcases List.mem_append.1 hb with h|h
    ·exact(hSin b h).2
    ·exact newF b h
  ·have:=trees Ss olds (Builtin.zeroCells z.cells (nc-(xs.length+m))).toList (w.drew.alloc (.cells cs' e)) hol (fun b hb=>zdb (w:=w.drew) (hmem b hb)) hold;have ec:cs'=(olds++news++(Builtin.zeroCells z.cells (nc-(xs.length+m))).toList).toArray:=by
    apply Array.ext';simp[cs']
   intro i hi j hj;rw[ec];exact this i hi j hj
 rcases htip with ⟨h1,h2,h3⟩|⟨b,cap,cs,et,Ss,h1,h2,h3,h4,h5,h6,h7,h8,_⟩
 ·
  have hx0:xs=[]:=List.eq_nil_of_length_eq_zero h2;subst hx0;subst h3;have hm':m<=9223372036854775807:=by simpa using hm
  have hb':m*yb<=140737488355328:=by simpa using hb
  have hrun:=run_append_nil (P:=c.P) w t opt e i z ht.und hi1 z2 a0 m cap2 news (by rw[hi2,hnl]) hnews hmpos (by omega) (by rw[hi3];omega);obtain⟨G',hR,hA⟩:=fresh (fun _=>[]) [] (grownCap w m 0 e) (by simp) (by
   have:=grownCap_ge w m 0 e;simpa using this) (by simp) (fun b hb=>by simp at hb) (fun i hi=>by simp at hi)
  simp only[List.nil_append,xai,Nat.zero_add,Array.empty_append] at hR hA hrun ⊢;exact⟨_,_,G',hrun,hR,hA⟩
 ·subst h2;have hmul:xs.length*k<=cs.size:=Nat.le_trans (Nat.mul_le_mul_right _ h5) h4;have hold:∀i (hi:i<xs.length) j (hj:j<xs[i].length),TreeD true w xs[i][j] ((cs.toList.take (xs.length*k)).getD (i*k+j) undef) (Ss (i*k+j)):=fun i hi j hj=>by
   have h9:xs[i].length=k:=hkx _ (List.getElem_mem hi);have hlt':i*k+j<xs.length*k:=zcQ hi (by omega);have e1:(cs.toList.take (xs.length*k)).getD (i*k+j) undef=cs.getD (i*k+j) undef:=by
    have hs:i*k+j<cs.size:=by omega
    simp[List.getD,List.getElem?_take,hlt',Array.getD,hs]
   rw[e1];exact h8 i hi j hj
  have hbl:b∈G.loc id:=by rw[h1];simp
  have hbs:b<w.heap.size:=hidlt b hbl;have h1n:(b::(List.range (xs.length*k)).flatMap Ss).Nodup:=by rw[<-h1];exact h6
  have hin:∀x,x∈(List.range (xs.length*k)).flatMap Ss->x∈G.loc id/\G.F x=0:=fun x hx=>by
   have:x∈G.loc id:=by rw[h1];exact List.mem_cons_of_mem _ hx
   exact⟨this,h7 x this⟩
  by_cases hroom:xs.length+m<=cap
  ·
   have hfit:xs.length*i.size+news.length<=cs.size:=by
    rw[hi2,hnl,<-hmul1];exact Nat.le_trans (Nat.mul_le_mul_right _ hroom) h4
   have hrun:=zdD (P:=c.P) t opt e i ht.und hi1 b xs.length cap cs et h3 a0 m cap2 news (by rw[hi2,hnl]) hnews hone hroom hfit;rw[hi2] at hrun hfit;let rw':Array Value:=(cs.toList.take (xs.length*k)++news++cs.toList.drop (xs.length*k+news.length)).toArray
   have hrs:rw'.size=cs.size:=by
    simp only[rw',List.size_toArray,xaa,List.length_take,List.length_drop,Array.length_toList];omega
   let G':Gh:={ F:=G.F,loc:=fun j=>bif Nat.beq j id then b::(List.range ((xs.length+m)*k)).flatMap (Sn Ss) else G.loc j }
   have hlocne:∀j,j≠id->G'.loc j=G.loc j:=fun j hj=>by simp[G',zb0 hj]
   have hlocid:G'.loc id=b::(List.range ((xs.length+m)*k)).flatMap (Sn Ss):=by simp[G']
   have hlocid':G'.loc id=b::((List.range (xs.length*k)).flatMap Ss++Sl.flatten):=by rw[hlocid,hSn]
   have hFb:G.F b=0:=h7 b hbl;have hcell:∀b' o,o<G.F b'->o<G'.F b'/\(w.setRow b rw').cell? ⟨b',o,none⟩=w.cell? ⟨b',o,none⟩:=fun b' o ho=>by
    have hbb:b'≠b:=fun e=>by subst e;omega
    exact⟨ho,cell_setRow_other w b rw' _ hbb⟩
   have hmem:∀x,x∈(List.range (xs.length*k)).flatMap Ss++Sl.flatten->x<w.heap.size/\x≠b:=fun x hx=>by
    rcases List.mem_append.1 hx with h|h
    ·exact⟨hidlt x (hin x h).1,fun e=>by subst e;exact(List.nodup_cons.1 h1n).1 h⟩
    ·exact⟨newLt x h,fun e=>by subst e;exact newNe x h hbl⟩
   refine⟨_,_,G',hrun,hr.retokG (G':=G') htok1 (by omega) hcell hlocne (fun b' hb' hn=>?_) (fun x hx=>?_) (fun x hx=>?_) rfl rfl rfl (by simp) (fun b' hb'=>?_), ?_⟩
   ·have hne:b'≠b:=fun e=>hn (by rw[e];exact hbl);exact⟨setRow_other w b b' rw' hne,rfl⟩
   ·rw[hlocid'] at hx;have:(w.setRow b rw').heap.size=w.heap.size:=by simp
    rw[this];rcases List.mem_cons.1 hx with rfl|hx
    ·exact hbs
    ·exact(hmem x hx).1
   ·rw[hlocid'] at hx;rcases List.mem_cons.1 hx with rfl|hx
    ·exact .inl hbl
    ·rcases List.mem_append.1 hx with h|h
     ·exact .inl (hin x h).1
     ·exact .inr (.inr ⟨newOwn x h,newApart1 x h⟩)
   ·have hb2':w.heap.size<=b':=by simpa using hb'
    exact hr.top b' hb2'
   ·refine .gt ⟨_,_,by rw[hlen']⟩ (fun n' k' hm'=>?_);rw[hT'] at hm';cases hm'
    have hnodup:(G'.loc id).Nodup:=by
     rw[hlocid'];refine List.nodup_cons.2 ⟨fun h=>absurd rfl (hmem _ h).2,List.nodup_append.2 ⟨(List.nodup_cons.1 h1n).2,newNodup,fun x hx x' hx' e=>?_⟩⟩;subst e;exact newNe x hx' (hin x hx).1
    refine⟨by rw[hlen'];exact Nat.le_refl _,fun _=>⟨hkx',.inr ⟨b,cap,rw',et,Sn Ss,hlocid,rfl,setRow_heap w b cs rw' et _ h3,by rw[hrs];exact h4,hroom,hnodup,fun x hx=>?_, ?_,fun h=>by omega⟩⟩⟩
    ·rw[hlocid'] at hx;rcases List.mem_cons.1 hx with rfl|hx
     ·exact hFb
     ·rcases List.mem_append.1 hx with h|h
      ·exact(hin x h).2
      ·exact newF x h
    ·exact trees Ss (cs.toList.take (xs.length*k)) _ (w.setRow b rw') (by simp;omega) (fun x hx=>setRow_other w b x rw' (hmem x hx).2) hold
  ·
   have hrun:=run_append_grow (P:=c.P) w t opt e i z ht.und hi1 z2 ⟨b,0,none⟩ xs.length cap (cs.toList.take (xs.length*k)) (by rw[hi2];simp;omega)
    (fun j u hj=>by
     rw[zb1];obtain⟨hj1,hj2⟩:=List.getElem?_eq_some_iff.1 hj;simp only[List.getElem_take] at hj2;have hjs:j<cs.size:=by simp at hj1;omega
     simp only[World.cell?,h3,Option.isSome_none,Bool.false_eq_true,if_false,Nat.zero_add];rw[Array.getElem?_eq_getElem hjs,<-hj2];simp) a0 m cap2 news (by rw[hi2,hnl]) hnews (by omega) (by omega) (by rw[hi3];exact growslice_fits (by omega) hb)
   obtain⟨G',hR,hA⟩:=fresh Ss (cs.toList.take (xs.length*k)) (grownCap w (xs.length+m) cap e) (by simp;omega) (by have:=grownCap_ge w (xs.length+m) cap e;omega) (List.nodup_cons.1 h1n).2 hin hold;exact⟨_,_,G',hrun,hR,hA⟩
theorem zm2 {t:TypeId}{G:Gh}{s:St}{a:Act}{w:World} (hr:R c G s a w){id b0 m k e yb:Nat}{xs:List (List D)}{cells:List AV}{row:List D}{js:List (Nat×Nat×Nat)}{v u:Value} (ht:SlT c.P t e k yb){z:Value} (hz:∃i,c.P.info? e=some i/\i.zero=some z/\z.cells.size=k)
  (hkb:∀l,c.kept b0≠some l) (htok:getH s.hp id=some (.tok xs.length k)) (hbox:getH s.hp b0=some (.box cells)) (hrow:RowT s.hp cells row js) (hck:cells.length=k) (hnd:ndB (id::js.map (·.1))=true)
  (hv:RelA G (tokf s.hp) w (.gt id xs) v) (hu:RelA G (tokf s.hp) w (.ms b0 m) u) (hm1:m=1)
  (hb:(xs.length+1)*yb<=140737488355328) (hm:xs.length+1<=9223372036854775807) (opt:TypeId):
  ∃v' w' G',(Builtin.append_ #[t,t] opt #[v,u]).run c.P w = .ok v' w'/\
   R c G' ⟨s.env,(id,some (.tok (xs.length+1) k))::((b0::js.map (·.1)).map (fun j=>(j,none))++s.hp)⟩ a w'/\
   RelA G' (tokf ((id,some (.tok (xs.length+1) k))::((b0::js.map (·.1)).map (fun j=>(j,none))++s.hp))) w' (.gt id (xs++[row])) v':=by
 subst hm1;obtain⟨⟨base,cap0,hv0⟩,hcl⟩:=hv.gt_inv;have hT:tokf s.hp id=some (xs.length,k):=zam.2 htok;obtain⟨hkx,htip⟩:=(hcl _ _ hT).2 rfl

 obtain⟨bb,us,eb,hl0,hat0,hlen0,hF0,hcell0⟩:=hr.heap b0 _ hbox;have hu':∃cap2,u = .slice (some ⟨bb,0,none⟩) 1 cap2/\1<=cap2:=by
  cases hu with
  | @ms _ _ b cap h hT hcap=>
   have:b=bb:=zcG h hl0;subst this;exact⟨cap,rfl,hcap⟩
 obtain⟨cap2,rfl,hcap2⟩:=hu';let news:List Value:=us.toList.take k
 have hks:k<=us.size:=by omega
 have hnl:news.length=k:=by simp[news];omega
 have hnews:∀j u,news[j]?=some u->w.cell? ((⟨bb,0,none⟩:Addr).add j)=some u:=fun j u hj=>by
  obtain⟨hj1,hj2⟩:=List.getElem?_eq_some_iff.1 hj;simp only[news,List.getElem_take] at hj2;have hjs:j<us.size:=by omega
  rw[zb1];simp only[World.cell?,hat0,Option.isSome_none,Bool.false_eq_true,if_false,Nat.zero_add];rw[Array.getElem?_eq_getElem hjs,<-hj2];simp
 have hrel:∀i (hi:i<cells.length) (hv:i<news.length),RelA G (tokf s.hp) w cells[i] news[i]:=fun i hi hv=>by
  have:=hcell0 i hi (by omega);have e1:news[i]=us[i]'(by omega):=by simp[news]
  rw[e1];exact this
 obtain⟨Sl,hSl,htr,hfl,hone,hjn⟩:=hrow.trees (by rw[hnl,hck]) hrel;have hrl:row.length=k:=by rw[hrow.len,hck]
 have hnd':=zmc hnd;have hnd2:=List.nodup_cons.1 hnd';have htoks:=hrow.toks;have tokJ:∀j,j∈js.map (·.1)->∃n q,getH s.hp j=some (.tok n q):=fun j hj=>by
  obtain⟨q,hq,rfl⟩:=List.mem_map.1 hj;exact⟨_,_,htoks q hq⟩
 have hflm:js.flatMap (fun q=>G.loc q.1)=(js.map (·.1)).flatMap G.loc:=by rw[List.flatMap_map]
 rw[hflm] at hfl;have newIn:∀b,b∈Sl.flatten->∃j,j∈js.map (·.1)/\b∈G.loc j:=fun b hb=>by rw[hfl] at hb;exact List.mem_flatMap.1 hb
 have hdr:=hr.drop (b0::js.map (·.1)) (fun i l hk hm=>by
  rcases List.mem_cons.1 hm with rfl|hm
  ·exact hkb l hk
  ·obtain⟨n,q,h⟩:=tokJ i hm;have:=(hr.kept i l hk).2.2;rw[zam.2 h] at this;cases this)
 have hidb:id∉b0::js.map (·.1):=fun hm=>by
  rcases List.mem_cons.1 hm with rfl|hm
  ·rw[htok] at hbox;cases hbox
  ·exact hnd2.1 hm
 have hg1:∀i,getH ((b0::js.map (·.1)).map (fun j=>(j,(none:Option Res)))++s.hp) i=if i∈b0::js.map (·.1) then none else getH s.hp i:=fun i=>zl3 _ _ _
 exact zik (s:=s) hdr (m:=1) (ys:=[row]) (Sl:=Sl) (news:=news) ht hz (by rw[hg1,if_neg hidb];exact htok) hkx htip (fun y hy=>by simp only[List.mem_singleton] at hy;rw[hy];exact hrl) rfl (by omega)
  (by omega) hnews hone (by rw[hSl,hck];omega)
  (fun i hi j hj hvn=>by
   have:i=0:=by simpa using hi
   subst this;simp only[Nat.zero_mul,Nat.zero_add] at hvn ⊢;have hj':j<row.length:=hj;have hjs:j<Sl.length:=by omega
   have e4:Sl.getD j []=Sl[j]:=by simp[List.getD,hjs]
   rw[e4];exact htr j hj' hvn hjs)
  (by
   rw[hfl];refine zkK hnd2.2 (fun j hj=>?_) (fun i j hi hj hne=>?_)
   ·obtain⟨q,hq,rfl⟩:=List.mem_map.1 hj;exact(hjn q hq).1
   ·obtain⟨n1,q1,h1⟩:=tokJ i hi;obtain⟨n2,q2,h2⟩:=tokJ j hj;exact hr.disj i j (by rw[h1];rfl) (by rw[h2];rfl) hne)
  (fun b hb=>by
   obtain⟨j,hj,hbj⟩:=newIn b hb;obtain⟨q,hq,rfl⟩:=List.mem_map.1 hj;exact(hjn q hq).2 b hbj)
  (fun b hb=>by
   obtain⟨j,hj,hbj⟩:=newIn b hb;obtain⟨n1,q1,h1⟩:=tokJ j hj;exact(hr.heap j _ h1).bound b hbj)
  (fun b hb=>by
   obtain⟨j,hj,hbj⟩:=newIn b hb;obtain⟨n1,q1,h1⟩:=tokJ j hj;exact hr.new j (by rw[h1];rfl) b hbj)
  (fun b hb i _ hs=>by
   rw[hg1] at hs;split at hs
   ·cases hs
   ·rename_i hni;intro hbi;obtain⟨j,hj,hbj⟩:=newIn b hb;obtain⟨n1,q1,h1⟩:=tokJ j hj;exact hr.disj j i (by rw[h1];rfl) hs (fun e=>by subst e;exact hni (List.mem_cons_of_mem _ hj)) b hbj hbi)
  (fun b hb hbi=>by
   obtain⟨j,hj,hbj⟩:=newIn b hb;obtain⟨n1,q1,h1⟩:=tokJ j hj;exact hr.disj j id (by rw[h1];rfl) (by rw[htok];rfl) (fun e=>by subst e;exact hnd2.1 hj) b hbj hbi) hb hm opt
theorem zmz {t:TypeId}{G:Gh}{s:St}{a:Act}{w:World} (hr:R c G s a w){id k e yb:Nat}{xs ys:List (List D)}{v u:Value} (ht:SlT c.P t e k yb){z:Value} (hz:∃i,c.P.info? e=some i/\i.zero=some z/\z.cells.size=k)
  (htok:getH s.hp id=some (.tok xs.length k)) (hv:RelA G (tokf s.hp) w (.gt id xs) v) (hu:RelD G.F w (.sl ys) u) (hky:∀y,y∈ys->y.length=k) (hf:FlatR ys)
  (hb:(xs.length+ys.length)*yb<=140737488355328) (hm:xs.length+ys.length<=9223372036854775807) (opt:TypeId):
  ∃v' w' G',(Builtin.append_ #[t,t] opt #[v,u]).run c.P w = .ok v' w'/\
   R c G' ⟨s.env,(id,some (.tok (xs.length+ys.length) k))::s.hp⟩ a w'/\
   RelA G' (tokf ((id,some (.tok (xs.length+ys.length) k))::s.hp)) w' (.gt id (xs++ys)) v':=by
 obtain⟨⟨base,cap0,hv0⟩,hcl⟩:=hv.gt_inv;have hT:tokf s.hp id=some (xs.length,k):=zam.2 htok;obtain⟨hkx,htip⟩:=(hcl _ _ hT).2 rfl;by_cases hm0:ys=[]
 ·subst hm0;obtain⟨i,hi1,hi2,hi3⟩:=ht.inf;have hle:∃base cap,v = .slice base xs.length cap/\xs.length<=cap:=by
   rcases htip with ⟨h1,h2,h3⟩|⟨b,cap,cs,et,Ss,h1,h2,h3,h4,h5,_⟩
   ·exact⟨none,0,by rw[h2];exact h3,by omega⟩
   ·exact⟨_,cap,h2,h5⟩
  obtain⟨base,cap,rfl,hle⟩:=hle;obtain⟨oa,oc,rfl⟩:∃oa oc,u = .slice oa 0 oc:=by obtain⟨oa,oc,h⟩:=hu.sl_len;exact⟨oa,oc,h⟩
  refine⟨_,w,G,zdY t opt e i ht.und hi1 base xs.length cap hle oa oc,hr.same htok, ?_⟩;show RelA G (tokf ((id,some (.tok xs.length k))::s.hp)) w (.gt id (xs++[])) _
  rw[zfM htok,List.append_nil];exact hv
 obtain⟨oa0,cap0',_,h0,_⟩|⟨b2,off2,cap2,news,rfl,hcap2,hnl,hnc,hn1,hnr⟩:=hu.sl_cells hky
 ·exact absurd h0 hm0
 have hfl:∀n:Nat,(List.replicate n ([]:List Nat)).flatten=[]:=zan;exact zik (s:=s) hr (m:=ys.length) (ys:=ys) (Sl:=List.replicate (ys.length*k) []) (news:=news) ht hz htok hkx htip hky rfl (List.length_pos_iff.2 hm0)
  hnl (fun j u hj=>by rw[zb1];exact(hnc j u hj).2) hn1 (by simp)
  (fun i hi j hj hvn=>by
   have e4:(List.replicate (ys.length*k) ([]:List Nat)).getD (i*k+j) []=[]:=by
    simp only[List.getD,List.getElem?_replicate];split<;>rfl
   rw[e4];have hs:=zf8 (hf _ (List.getElem_mem hi) _ (List.getElem_mem hj));exact TreeD.ofFlat hs.1 (.inr hs.2) (hnr i hi j hj hvn))
  (by rw[hfl];exact .nil) (fun b hb=>by rw[hfl] at hb;cases hb) (fun b hb=>by rw[hfl] at hb;cases hb) (fun b hb=>by rw[hfl] at hb;cases hb) (fun b hb=>by rw[hfl] at hb;cases hb) (fun b hb=>by rw[hfl] at hb;cases hb) hb hm opt
theorem R.mkTokT {G:Gh}{s:St}{a:Act}{w:World} (hr:R c G s a w){id:Nat} (k:Nat) (h0:getH s.hp id=none) (hocc:zcP id s):
  ∃G',R c G' { s with hp:=(id,some (.tok 0 k))::s.hp } a w/\RelA G' (tokf ((id,some (.tok 0 k))::s.hp)) w (.gt id []) (.slice none 0 0):=by
 have h1:=hr.rename h0 hocc [];have hl:(fun i=>bif Nat.beq i id then ([]:List Nat) else G.loc i) id=[]:=by simp
 refine⟨_,h1.name h0 hocc (fun b hb=>by simp at hb) (fun i _ b _ hb=>by simp at hb) (fun b hb=>by simp at hb), ?_⟩;refine .gt ⟨none,0,rfl⟩ (fun n k' hT=>?_);have:=zam.1 hT;rw[zad,if_pos rfl] at this;cases this
 exact⟨Nat.le_refl _,fun _=>⟨by simp,.inl ⟨hl,rfl,rfl⟩⟩⟩
end
section
variable {c:Ctx}{all:Array Oper}{chk:List Rec->Prop}{os:List Oper}{recs:List Rec}{env:Env}{hp:Hp}{Q:St->Prop}
variable {d ty:Nat}{pos:String}{af:Array Edge}{g:Option (Nat×Bool)}{pg:List (Nat×AV)}
variable {t yt:TypeId}{x y:Operand}
theorem xaw {ids:List Nat}{id b0 m k e yb:Nat}{xs:List (List D)}{cells:List AV}{row:List D}{js:List (Nat×Nat×Nat)} (hkp:KeptIn c.kept ids) (hkb:zaB b0 ids=false) (ht:SlT c.P t e k yb) (hz:ZeroT c.P e k) (hg:GH all env g pg) (hd:Nat.blt d c.n=true)
  (hx:opd env x=some (.gt id xs)) (hy:opd env y=some (.ms b0 m)) (hm1:m=1) (htok:getH hp id=some (.tok xs.length k)) (hbox:getH hp b0=some (.box cells)) (hrow:RowT hp cells row js) (hck:cells.length=k) (hnd:ndB (id::js.map (·.1))=true)
  (hb:(xs.length+1)*yb<=140737488355328) (hm:xs.length+1<=9223372036854775807)
  (hn:Walk c all chk os (zao (pg++(opF x (.gt id xs)++opF y (.ms b0 m))) ((id,.tok xs.length k)::(b0,.box cells)::js.map (fun q=>(q.1,.tok q.2.1 q.2.2))) [] ⟨some (d,.gt id (xs++[row])),(id,some (.tok (xs.length+1) k))::(b0::js.map (·.1)).map (fun j=>(j,none))⟩::recs)
   ⟨(d,.gt id (xs++[row]))::env,(id,some (.tok (xs.length+1) k))::((b0::js.map (·.1)).map (fun j=>(j,none))++hp)⟩ Q):
  Walk c all chk (⟨some d,.call ⟨.builtin .append,#[x,y],#[t,t]⟩,ty,pos,af,g⟩::os) recs ⟨env,hp⟩ Q:=by
 refine⟨pg++(opF x (.gt id xs)++opF y (.ms b0 m)),(id,.tok xs.length k)::(b0,.box cells)::js.map (fun q=>(q.1,.tok q.2.1 q.2.2)),[],_, ?_,zar hg.facts (zar (zaR hx) (zaR hy)),fun p hm=>?_,by simp,hn⟩
 ·intro s a w hrel hp' hh _ K Q' hK;obtain⟨G,hr⟩:=hrel;have e1:=hr.opd (zaS hx (fun p hm=>hp' p (by simp[hm])));have e2:=hr.opd (zaS hy (fun p hm=>hp' p (by simp[hm])));obtain⟨i,z,z1,z2,z3⟩:=hz.out;obtain⟨v',w',G',hrun,hR,hA⟩:=zm2 hr ht ⟨i,z1,z2,z3⟩ (fun l hl=>by have:=zay.2 (hkp.mem _ l hl);rw[this] at hkb;cases hkb) (hh (id,_) (by simp)) (hh (b0,_) (by simp))
   (hrow.move (fun q hq=>hh (q.1,.tok q.2.1 q.2.2) (by simp only[List.mem_cons,List.mem_map];exact .inr (.inr ⟨q,hq,rfl⟩)))) hck hnd e1 e2 hm1 hb hm ty
  unfold wpO;rw[if_pos (hg.gf.wanted hr (fun p hm=>hp' p (by simp[hm])))];unfold Oper.wp;have:(execOp a.eval ⟨some d,.call ⟨.builtin .append,#[x,y],#[t,t]⟩,ty,pos,af,g⟩).run c.P w = .ok (.value v') w':=by
   simp only[execOp,resolve,invoke,builtin,Sem.run_bind,Sem.run_pure,Result.andThen_ok,List.map_toArray,xae,List.map_nil,hrun]
  rw[this,Oper.upon_value];exact hK _ _ ⟨G',hR.put hA hd⟩
 ·rcases List.mem_cons.1 hm with rfl|hm
  ·exact htok
  rcases List.mem_cons.1 hm with rfl|hm
  ·exact hbox
  ·obtain⟨q,hq,rfl⟩:=List.mem_map.1 hm;exact hrow.toks q hq
end
section
variable {c:Ctx}{env:Env}{hp:Hp}{K:Kt}{code:Code}{ids:List Nat}
theorem zlw {G:Gh}{w:World}{id n k:Nat}{xs:List (List D)}{v:Value} (hn:n=xs.length) (hk:∀x,x∈xs->x.length=k) (h:TipT G w id n k v xs):
  TreeD true w (.sl xs) v (G.loc id)/\(G.loc id).Nodup/\∀b,b∈G.loc id->G.F b=0:=by
 rcases h with ⟨e1,e2,e3⟩|⟨b,cap,us,e,Ss,e1,e2,e3,e4,e5,e6,e7,e8⟩
 ·have hz:xs=[]:=List.eq_nil_of_length_eq_zero (by omega);subst hz;rw[e1,e3];exact⟨.nil,by simp,by simp⟩
 ·refine⟨?_,e6,e7⟩;subst hn;rw[e1,e2];exact TreeD.sl (m:=true) xs k b cap us e Ss hk e5 e3 e4 e8.1 (fun _ hz=>e8.2 (by rw[hz];rfl))
theorem CWp.tokBT (b off id k:Nat){cs cs':List AV} (hb:getH hp b=some (.box cs)) (h:cs[off]?=some .nils) (hput:putC cs off [.gt id []]=some cs') (hf:zai env hp [id]=true)
  (hn:CWp c code ⟨env,(b,some (.box cs'))::(id,some (.tok 0 k))::hp⟩ K):CWp c code ⟨env,hp⟩ K:=by
 intro a w hrel;obtain⟨G,hr⟩:=hrel;obtain⟨h0,hocc⟩:=za9 hf id (by simp);obtain⟨G',h1,h2⟩:=hr.mkTokT k h0 hocc;have hne:b≠id:=fun e=>by subst e;have h0':getH hp b=none:=h0;rw[h0'] at hb;cases hb
 have hb':getH ((id,some (Res.tok 0 k))::hp) b=some (.box cs):=by rw[zad,if_neg hne];exact hb
 obtain⟨bl,vs,e,e1,e2,e3,e4,e5⟩:=h1.heap b _ hb';obtain⟨hlt,hv⟩:=List.getElem?_eq_some_iff.1 h;have hlv:off<vs.size:=by omega
 have hval:vs[off] = .slice none 0 0:=by
  have:=e5 off hlt hlv;rw[hv] at this;generalize vs[off]=v at *;cases this;rfl
 have hall:PreR G' (tokf ((id,some (.tok 0 k))::hp)) w cs' vs:=by
  obtain⟨p1,p2,p3⟩:=zbQ hput;refine⟨by omega,fun i hi hvi=>?_⟩;have:=p3 i;rw[List.getElem?_eq_getElem hi] at this;by_cases hio:i=off
  ·subst hio;rw[if_pos (by simp)] at this;simp only[Nat.sub_self,List.getElem?_cons_zero,Option.some.injEq] at this;rw[this,hval];exact h2
  ·rw[if_neg (by simp only[xab,xai];omega)] at this;have hic:i<cs.length:=by omega
   rw[List.getElem?_eq_getElem hic] at this;rw[Option.some.inj this];exact e5 i hic hvi
 have:=h1.setBox (vs':=vs) hb' e1 e2 e4 hall;have hw:w.setRow bl vs=w:=setRow_self w bl vs e _ e2;rw[hw] at this;exact hn a w ⟨G',this⟩
theorem R.gtGl {G:Gh}{a:Act}{w:World} (hr:R c G ⟨env,hp⟩ a w){id id2 n k:Nat}{xs:List (List D)}{v:Value} (hv:RelA G (tokf hp) w (.gt id xs) v) (hb:getH hp id=some (.tok n k)) (hn:n=xs.length) (hf:zai env hp [id2]=true):
  ∃G',R c G' ⟨env,(id2,some (.tok n k))::(id,none)::hp⟩ a w/\RelA G' (tokf ((id2,some (.tok n k))::(id,none)::hp)) w (.gl id2 xs) v:=by
 obtain⟨h0,hocc⟩:=za9 hf id2 (by simp);have h0':getH hp id2=none:=h0;have hne:id2≠id:=fun e=>by subst e;rw[h0'] at hb;cases hb
 obtain⟨⟨ad,cap0,hv0⟩,hcl⟩:=hv.gt_inv;obtain⟨hkx,htip⟩:=(hcl _ _ (zam.2 hb)).2 hn;have s1:(getH hp id).isSome:=by rw[hb];rfl
 have hbd:=(hr.heap id _ hb).bound;let hd:List Nat:=(G.loc id).take 1
 let G':Gh:={ F:=fun x=>bif zaB x hd then n*k else bif zaB x (G.loc id) then szB w x else G.F x,loc:=fun i=>bif Nat.beq i id2 then hd else G.loc i }
 have hdsub:∀x,x∈hd->x∈G.loc id:=fun x hx=>List.mem_of_mem_take hx;have l1:G'.loc id2=hd:=by simp[G']
 have l3:∀i,i≠id2->G'.loc i=G.loc i:=fun i h2=>by simp[G',zb0 h2]
 have nel:∀ {x:Nat}{l:List Nat},x∉l->zaB x l=false:=fun {x l} hx=>by
  cases h:zaB x l with
  |true=>exact absurd (zay.1 h) hx
  |false=>rfl
 have hout:∀x,x∉G.loc id->G'.F x=G.F x:=fun x hx=>by simp[G',nel hx,nel (fun h=>hx (hdsub x h))]
 have hF0:∀x,x∈G.loc id->G.F x=0:=(zlw hn hkx htip).2.2;have g1:getH ((id2,some (Res.tok n k))::(id,none)::hp) id2=some (.tok n k):=by rw[zad,if_pos rfl]
 have g2:getH ((id2,some (Res.tok n k))::(id,none)::hp) id=none:=by rw[zad,if_neg (Ne.symm hne),zad,if_pos rfl]
 have t2:tokf ((id2,some (Res.tok n k))::(id,none)::hp) id=none:=by unfold tokf;rw[g2]
 have t1:tokf ((id2,some (Res.tok n k))::(id,none)::hp) id2=some (n,k):=zam.2 g1;have hturn:Turn c G ⟨env,hp⟩ w G' ((id2,some (.tok n k))::(id,none)::hp) [id,id2]:=by
  refine⟨fun i hi=>?_,fun i hi=>?_,fun x hx=>?_,fun x o ho=>?_,fun x hx=>?_,fun i hi=>?_,fun i hi hs x hx=>?_,fun i hi j hj hij h1 h2 x hx=>?_,fun i hi l hl=>?_⟩
  ·simp only[List.mem_cons,List.not_mem_nil,or_false,not_or] at hi;rw[zad,if_neg hi.2,zad,if_neg hi.1]
  ·simp only[List.mem_cons,List.not_mem_nil,or_false,not_or] at hi;exact l3 i hi.2
  ·exact hout x (hx id (by simp) s1)
  ·by_cases hx:x∈G.loc id
   ·rw[hF0 x hx] at ho;omega
   ·rw[hout x hx];exact ho
  ·by_cases hx':x∈G.loc id
   ·have:=hbd x hx';omega
   ·rw[hout x hx'];exact hr.top x hx
  ·simp only[List.mem_cons,List.not_mem_nil,or_false] at hi;rcases hi with rfl|rfl
   ·exact .inr ⟨.inl (l3 i (Ne.symm hne)),fun p hp=>by rw[t2] at hp;cases hp⟩
   ·exact .inl hocc
  ·simp only[List.mem_cons,List.not_mem_nil,or_false] at hi;rcases hi with rfl|rfl
   ·rw[g2] at hs;cases hs
   ·rw[l1] at hx;exact⟨id,by simp,s1,hdsub x hx⟩
  ·simp only[List.mem_cons,List.not_mem_nil,or_false] at hi hj;rcases hi with rfl|rfl
   ·rw[g2] at h1;cases h1
   ·rcases hj with rfl|rfl
    ·rw[g2] at h2;cases h2
    ·exact absurd rfl hij
  ·simp only[List.mem_cons,List.not_mem_nil,or_false] at hi;have hk0:=hr.kept i l hl;rcases hi with rfl|rfl
   ·have:=hk0.2.2;rw[show(⟨env,hp⟩:St).hp=hp from rfl,zam.2 hb] at this;cases this
   ·have:=hk0.2.1;rw[show(⟨env,hp⟩:St).hp=hp from rfl,h0'] at this;cases this
 refine⟨G',hturn.fin hr (fun i hi r hri=>?_), ?_⟩
 ·simp only[List.mem_cons,List.not_mem_nil,or_false] at hi;rcases hi with rfl|rfl
  ·rw[g2] at hri;cases hri
  ·rw[g1] at hri;cases hri
   intro b hb;rw[l1] at hb;exact hbd b (hdsub b hb)
 ·rcases htip with ⟨e1,e2,e3⟩|⟨b,cap,us,e,Ss,e1,e2,e3,e4,e5,e6,e7,e8,e9⟩
  ·have hz:xs=[]:=List.eq_nil_of_length_eq_zero (by omega);subst hz;rw[e3];refine .gl .nil (fun n' k' hT=>?_);rw[t1] at hT;cases hT;exact⟨by simp,fun _=>⟨hkx,.inl ⟨by rw[l1];simp[hd,e1],e2,rfl⟩⟩⟩
  ·have hhd:hd=[b]:=by simp[hd,e1]
   have hFb:G'.F b=n*k:=by simp[G',hhd,zaB]
   have hbn:∀x,x∈(List.range (n*k)).flatMap Ss->G'.F x=szB w x:=fun x hx=>by
    have hxb:x≠b:=fun e=>by subst e;rw[e1] at e6;exact(List.nodup_cons.1 e6).1 hx
    have h1:zaB x hd=false:=nel (by rw[hhd];simp[hxb]);have h2:zaB x (G.loc id)=true:=zay.2 (by rw[e1];exact List.mem_cons_of_mem _ hx);simp[G',h1,h2]
   rw[e2];have hle:n*k<=us.size:=Nat.le_trans (Nat.mul_le_mul_right _ e5) e4;have hrd:RelD G'.F w (.sl xs) (.slice (some ⟨b,0,none⟩) n cap):=by
    subst hn;refine .sl xs k b 0 cap (fun q=>us.getD q undef) hkx e5 (fun q hq=>⟨by rw[hFb];omega, ?_⟩) (fun i hi j hj=>(e8 i hi j hj).toD (fun x hx=>?_))
    ·have:q<us.size:=by omega
     simp[World.cell?,e3,this]
    ·rw[hbn x (List.mem_flatMap.2 ⟨_,List.mem_range.2 (zcQ hi (by rw[<-hkx _ (List.getElem_mem hi)];exact hj)),hx⟩)];exact Nat.le_refl _
   refine .gl hrd (fun n' k' hT=>?_);rw[t1] at hT;cases hT;exact⟨by omega,fun _=>⟨hkx,.inr ⟨b,cap,us,e,by rw[l1,hhd],rfl,hFb,e3,e4,e5⟩⟩⟩
theorem CWp.gtGl (t id id2 k:Nat){n:Nat}{xs:List (List D)} (ht:getE env t=some (.gt id xs)) (hb:getH hp id=some (.tok n k)) (hn:n=xs.length) (hf:zai env hp [id2]=true)
  (hx:CWp c code ⟨(t,.gl id2 xs)::env,(id2,some (.tok n k))::(id,none)::hp⟩ K):CWp c code ⟨env,hp⟩ K:=by
 rintro a w ⟨G,hr⟩
 obtain⟨G',h1,h2⟩:=hr.gtGl (hr.slots t _ ht) hb hn hf;exact hx a w ⟨G',h1.slot h2⟩
theorem CWp.splitT (id off id' k:Nat){xs:List (List D)}{cs cs':List AV} (hb:getH hp id=some (.tree cs)) (hc:cs[off]?=some (.own true (.sl xs))) (hk:∀x,x∈xs->x.length=k)
  (hf:zai env hp [id']=true) (hput:putC cs off [.gt id' xs]=some cs')
  (hn:CWp c code ⟨env,(id',some (.tok xs.length k))::(id,some (.tree cs'))::hp⟩ K):CWp c code ⟨env,hp⟩ K:=by
 rintro a w ⟨G,hr⟩
 obtain⟨h0,hocc⟩:=za9 hf id' (by simp);obtain⟨b,vs,e,Ss,hT⟩:=hr.heap id _ hb;obtain⟨hoff,hcv⟩:=List.getElem?_eq_some_iff.1 hc;have hov:off<vs.size:=by have:=hT.len;omega
 have hcell:=hT.cell off hoff hov;rw[hcv] at hcell;have hne:id≠id':=fun e=>by subst e;have h0':getH hp id=none:=h0;rw[h0'] at hb;cases hb
 obtain⟨p1,p2,p3⟩:=zbQ hput;have hTD:TreeD true w (.sl xs) vs[off] (Ss off):=hcell;generalize hv:vs[off]=v at hTD;let Ss':Nat->List Nat:=fun i=>if i=off then [] else Ss i
 let G':Gh:={ G with loc:=fun i=>bif Nat.beq i id' then Ss off else bif Nat.beq i id then b::(List.range cs'.length).flatMap Ss' else G.loc i }
 have l1:G'.loc id'=Ss off:=by simp[G']
 have l2:G'.loc id=b::(List.range cs'.length).flatMap Ss':=by simp[G',zb0 hne]
 have l3:∀i,i≠id'->i≠id->G'.loc i=G.loc i:=fun i h1 h2=>by simp[G',zb0 h1,zb0 h2]
 have hnd:=hT.nodup;rw[hT.loc] at hnd;have hnd':=List.nodup_cons.1 hnd;have hsubS:∀x,x∈Ss off->x∈G.loc id:=fun x hx=>by
  rw[hT.loc];exact List.mem_cons_of_mem _ (List.mem_flatMap.2 ⟨off,List.mem_range.2 hoff,hx⟩)
 have hsubl:((List.range cs'.length).flatMap Ss').Sublist ((List.range cs.length).flatMap Ss):=by
  rw[p1];refine zdk hnd'.2 (fun i hi=>?_);simp only[Ss'];split
  ·exact List.nil_sublist _
  ·exact List.Sublist.refl _
 have hsub2:∀x,x∈G'.loc id->x∈G.loc id:=fun x hx=>by
  rw[l2] at hx;rw[hT.loc];rcases List.mem_cons.1 hx with h|h
  ·simp[h]
  ·exact List.mem_cons_of_mem _ (hsubl.subset h)
 have g1:getH ((id',some (Res.tok xs.length k))::(id,some (.tree cs'))::hp) id'=some (.tok xs.length k):=by rw[zad,if_pos rfl]
 have g2:getH ((id',some (Res.tok xs.length k))::(id,some (.tree cs'))::hp) id=some (.tree cs'):=by rw[zad,if_neg hne,zad,if_pos rfl]
 have hturn:Turn c G ⟨env,hp⟩ w G' ((id',some (.tok xs.length k))::(id,some (.tree cs'))::hp) [id,id']:=by
  refine⟨fun i hi=>?_,fun i hi=>?_,fun _ _=>rfl,fun _ _ h=>h,hr.top,fun i hi=>?_,fun i hi hs x hx=>?_,fun i hi j hj hij _ _ x hx=>?_,fun i hi l hl=>?_⟩
  ·simp only[List.mem_cons,List.not_mem_nil,or_false,not_or] at hi;rw[zad,if_neg hi.2,zad,if_neg hi.1]
  ·simp only[List.mem_cons,List.not_mem_nil,or_false,not_or] at hi;exact l3 i hi.2 hi.1
  ·simp only[List.mem_cons,List.not_mem_nil,or_false] at hi;rcases hi with rfl|rfl
   ·right
    have ht:tokf ((id',some (Res.tok xs.length k))::(i,some (.tree cs'))::hp) i=none:=by unfold tokf;rw[g2]
    refine⟨.inr ⟨ht,by rw[l2,hT.loc];rfl⟩,fun p hp=>by rw[ht] at hp;cases hp⟩
   ·exact .inl hocc
  ·simp only[List.mem_cons,List.not_mem_nil,or_false] at hi;have hs':(getH hp id).isSome:=by rw[hb];rfl
   rcases hi with rfl|rfl
   ·exact⟨i,by simp,hs',hsub2 x hx⟩
   ·rw[l1] at hx;exact⟨id,by simp,hs',hsubS x hx⟩
  ·simp only[List.mem_cons,List.not_mem_nil,or_false] at hi hj;have key:∀x,x∈Ss off->x∉G'.loc id:=by
    intro x hx hx2;rw[l2] at hx2;rcases List.mem_cons.1 hx2 with h|h
    ·exact hnd'.1 (List.mem_flatMap.2 ⟨off,List.mem_range.2 hoff,h ▸ hx⟩)
    ·obtain⟨j,hj,hxj⟩:=List.mem_flatMap.1 h;simp only[Ss'] at hxj;split at hxj
     ·simp at hxj
     ·rename_i hjo;exact zfQ List.nodup_range hnd'.2 off j (List.mem_range.2 hoff) (by rw[p1] at hj;exact hj) (Ne.symm hjo) x hx hxj
   rcases hi with rfl|rfl<;>rcases hj with rfl|rfl
   ·exact absurd rfl hij
   ·rw[l1];exact fun h=>key x h hx
   ·rw[l1] at hx;exact key x hx
   ·exact absurd rfl hij
  ·simp only[List.mem_cons,List.not_mem_nil,or_false] at hi;have hk0:=hr.kept i l hl;rcases hi with rfl|rfl
   ·refine⟨?_,by rw[g2];rfl,by unfold tokf;rw[g2]⟩;rw[l2,<-hk0.1,hT.loc];rfl
   ·have h0':getH hp i=none:=h0;have:=hk0.2.1;rw[show(⟨env,hp⟩:St).hp=hp from rfl,h0'] at this;cases this
 have hgt:RelA G' (tokf ((id',some (.tok xs.length k))::(id,some (.tree cs'))::hp)) w (.gt id' xs) v:=by
  refine .gt (by
   have hTD2:=hTD;generalize Ss off=So at hTD2;cases hTD2 with
   |nil=>exact⟨_,_,rfl⟩
   |emp _ _ _ _ h=>cases h
   |em0 _ _ _ h=>cases h
   |sl _ _ _ _ _ _ _ _ _ _ _ _ _=>exact⟨_,_,rfl⟩) (fun n' k' hm'=>?_)
  have:=zam.1 hm';rw[g1] at this;cases this
  refine⟨Nat.le_refl _,fun _=>⟨hk, ?_⟩⟩;have hndS:=zhP hnd'.2 off (List.mem_range.2 hoff);have hF:∀x,x∈Ss off->G.F x=0:=fun x hx=>(hT.mine x (hsubS x hx)).1;unfold TipT;rw[l1];generalize Ss off=So at hTD hndS hF;cases hTD with
  |nil=>exact .inl ⟨rfl,rfl,rfl⟩
  |emp _ _ _ _ h=>cases h
  |em0 _ _ _ h=>cases h
  |sl _ k1 b1 cap cs1 e1 Ss1 hk1 hcap hb1 hc1 hr1 hz1=>
   by_cases hx:xs=[]
   ·subst hx;have hc0:=hz1 rfl rfl;subst hc0;refine .inr ⟨b1,0,cs1,e1,Ss1,by simp,rfl,hb1,by simp,Nat.le_refl _,hndS,hF,fun i hi=>by simp at hi,fun _=>rfl⟩
   ·have hkk:k1=k:=by
     obtain⟨x,hx'⟩:=List.exists_mem_of_ne_nil _ hx;rw[<-hk1 x hx',hk x hx']
    subst hkk;exact .inr ⟨b1,cap,cs1,e1,Ss1,rfl,rfl,hb1,hc1,hcap,hndS,hF,hr1,fun h=>absurd (List.eq_nil_of_length_eq_zero h) hx⟩
 refine hn a w ⟨G',hturn.fin hr (fun i hi r hri=>?_)⟩;simp only[List.mem_cons,List.not_mem_nil,or_false] at hi;rcases hi with rfl|rfl
 ·rw[g2] at hri;cases hri
  refine⟨b,vs,e,Ss',l2,hT.at_,by rw[p1];exact hT.len, ?_,fun x hx=>hT.mine x (hsub2 x hx),fun j hj hjv=>?_⟩
  ·rw[l2];exact List.nodup_cons.2 ⟨fun h=>hnd'.1 (hsubl.subset h),hsubl.nodup hnd'.2⟩
  ·have h3:=p3 j;rw[List.getElem?_eq_getElem hj] at h3;by_cases hjo:j=off
   ·subst hjo;rw[if_pos (by simp)] at h3;simp only[Nat.sub_self,List.getElem?_cons_zero,Option.some.injEq] at h3;rw[h3,hv];exact⟨by simp[Ss'],hgt⟩
   ·rw[if_neg (by simp only[xab,xai];omega)] at h3;have hjc:j<cs.length:=by omega
    rw[List.getElem?_eq_getElem hjc] at h3;rw[Option.some.inj h3];have h4:=hT.cell j hjc hjv;have h5:Ss' j=Ss j:=by simp[Ss',hjo]
    rw[h5];exact h4.map (hturn.cell hr hb (List.getElem_mem hjc)) (fun _ _=>rfl)
 ·rw[g1] at hri;cases hri
  intro x hx;rw[l1] at hx;exact(hT.mine x (hsubS x hx)).2
theorem CWp.mergeT (id off id' k:Nat){n:Nat}{xs:List (List D)}{cs cs':List AV} (hb:getH hp id=some (.tree cs)) (hc:cs[off]?=some (.gt id' xs)) (hb':getH hp id'=some (.tok n k)) (hnl:n=xs.length)
  (hput:putC cs off [.own true (.sl xs)]=some cs')
  (hn:CWp c code ⟨env,(id',none)::(id,some (.tree cs'))::hp⟩ K):CWp c code ⟨env,hp⟩ K:=by
 rintro a w ⟨G,hr⟩
 have hne:id≠id':=fun e=>by subst e;rw[hb] at hb';cases hb'
 obtain⟨b,vs,e,Ss,hT⟩:=hr.heap id _ hb;obtain⟨hoff,hcv⟩:=List.getElem?_eq_some_iff.1 hc;have hov:off<vs.size:=by have:=hT.len;omega
 have hcell:=hT.cell off hoff hov;rw[hcv] at hcell;obtain⟨hS0,hgt⟩:=hcell;obtain⟨_,hcl⟩:=hgt.gt_inv;obtain⟨hkx,htip⟩:=(hcl _ _ (zam.2 hb')).2 hnl;obtain⟨hTr,hnd1,hF1⟩:=zlw hnl hkx htip;have hbd1:=(hr.heap id' _ hb').bound;obtain⟨p1,p2,p3⟩:=zbQ hput;let Ss':Nat->List Nat:=fun i=>if i=off then G.loc id' else Ss i
 let G':Gh:={ G with loc:=fun i=>bif Nat.beq i id then b::(List.range cs'.length).flatMap Ss' else G.loc i }
 have l1:G'.loc id=b::(List.range cs'.length).flatMap Ss':=by simp[G']
 have l3:∀i,i≠id->G'.loc i=G.loc i:=fun i h2=>by simp[G',zb0 h2]
 have hnd:=hT.nodup;rw[hT.loc] at hnd;have hnd':=List.nodup_cons.1 hnd;have s1:(getH hp id).isSome:=by rw[hb];rfl
 have s2:(getH hp id').isSome:=by rw[hb'];rfl
 have hapart:∀x,x∈G.loc id->x∉G.loc id':=hr.disj id id' s1 s2 hne;have hmem:∀x,x∈G'.loc id->x∈G.loc id\/x∈G.loc id':=fun x hx=>by
  rw[l1] at hx;rcases List.mem_cons.1 hx with h|h
  ·left;rw[hT.loc,h];simp
  ·obtain⟨j,hj,hxj⟩:=List.mem_flatMap.1 h;simp only[Ss'] at hxj;split at hxj
   ·exact .inr hxj
   ·left
    rw[hT.loc];rw[p1] at hj;exact List.mem_cons_of_mem _ (List.mem_flatMap.2 ⟨j,hj,hxj⟩)
 have g1:getH ((id',none)::(id,some (Res.tree cs'))::hp) id'=none:=by rw[zad,if_pos rfl]
 have g2:getH ((id',none)::(id,some (Res.tree cs'))::hp) id=some (.tree cs'):=by rw[zad,if_neg hne,zad,if_pos rfl]
 have t1:tokf ((id',none)::(id,some (Res.tree cs'))::hp) id'=none:=by unfold tokf;rw[g1]
 have t2:tokf ((id',none)::(id,some (Res.tree cs'))::hp) id=none:=by unfold tokf;rw[g2]
 have hturn:Turn c G ⟨env,hp⟩ w G' ((id',none)::(id,some (.tree cs'))::hp) [id,id']:=by
  refine⟨fun i hi=>?_,fun i hi=>?_,fun _ _=>rfl,fun _ _ h=>h,hr.top,fun i hi=>?_,fun i hi hs x hx=>?_,fun i hi j hj hij h1 h2 x hx=>?_,fun i hi l hl=>?_⟩
  ·simp only[List.mem_cons,List.not_mem_nil,or_false,not_or] at hi;rw[zad,if_neg hi.2,zad,if_neg hi.1]
  ·simp only[List.mem_cons,List.not_mem_nil,or_false,not_or] at hi;exact l3 i hi.1
  ·simp only[List.mem_cons,List.not_mem_nil,or_false] at hi;right
   rcases hi with rfl|rfl
   ·exact⟨.inr ⟨t2,by rw[l1,hT.loc];rfl⟩,fun p hp=>by rw[t2] at hp;cases hp⟩
   ·exact⟨.inl (l3 i (Ne.symm hne)),fun p hp=>by rw[t1] at hp;cases hp⟩
  ·simp only[List.mem_cons,List.not_mem_nil,or_false] at hi;rcases hi with rfl|rfl
   ·rcases hmem x hx with h|h
    ·exact⟨i,by simp,s1,h⟩
    ·exact⟨id',by simp,s2,h⟩
   ·rw[g1] at hs;cases hs
  ·simp only[List.mem_cons,List.not_mem_nil,or_false] at hi hj;rcases hi with rfl|rfl
   ·rcases hj with rfl|rfl
    ·exact absurd rfl hij
    ·rw[g1] at h2;cases h2
   ·rw[g1] at h1;cases h1
  ·simp only[List.mem_cons,List.not_mem_nil,or_false] at hi;have hk0:=hr.kept i l hl;rcases hi with rfl|rfl
   ·refine⟨?_,by rw[g2];rfl,t2⟩;rw[l1,<-hk0.1,hT.loc];rfl
   ·have:=hk0.2.2;rw[show(⟨env,hp⟩:St).hp=hp from rfl,zam.2 hb'] at this;cases this
 refine hn a w ⟨G',hturn.fin hr (fun i hi r hri=>?_)⟩;simp only[List.mem_cons,List.not_mem_nil,or_false] at hi;rcases hi with rfl|rfl
 ·rw[g2] at hri;cases hri
  refine⟨b,vs,e,Ss',l1,hT.at_,by rw[p1];exact hT.len, ?_,fun x hx=>?_,fun j hj hjv=>?_⟩
  ·rw[l1,List.nodup_cons];constructor
   ·intro h;obtain⟨j,hj,hxj⟩:=List.mem_flatMap.1 h;rw[p1] at hj;simp only[Ss'] at hxj;split at hxj
    ·exact hapart b (by rw[hT.loc];simp) hxj
    ·exact hnd'.1 (List.mem_flatMap.2 ⟨j,hj,hxj⟩)
   ·rw[p1];refine zes List.nodup_range hnd'.2 hnd1 (fun x hx j hj _ hxj=>?_);exact hapart x (by rw[hT.loc];exact List.mem_cons_of_mem _ (List.mem_flatMap.2 ⟨j,hj,hxj⟩)) hx
  ·rcases hmem x hx with h|h
   ·exact hT.mine x h
   ·exact⟨hF1 x h,hbd1 x h⟩
  ·have h3:=p3 j;rw[List.getElem?_eq_getElem hj] at h3;by_cases hjo:j=off
   ·subst hjo;rw[if_pos (by simp)] at h3;simp only[Nat.sub_self,List.getElem?_cons_zero,Option.some.injEq] at h3;rw[h3];have h5:Ss' j=G.loc id':=by simp[Ss']
    rw[h5];exact hTr
   ·rw[if_neg (by simp only[xab,xai];omega)] at h3;have hjc:j<cs.length:=by omega
    rw[List.getElem?_eq_getElem hjc] at h3;rw[Option.some.inj h3];have h4:=hT.cell j hjc hjv;have h5:Ss' j=Ss j:=by simp[Ss',hjo]
    rw[h5];exact h4.map (hturn.cell hr hb (List.getElem_mem hjc)) (fun _ _=>rfl)
 ·rw[g1] at hri;cases hri
end
section
variable {c:Ctx}{all:Array Oper}{chk:List Rec->Prop}{os:List Oper}{recs:List Rec}{env:Env}{hp:Hp}{Q:St->Prop}
variable {d ty:Nat}{pos:String}{af:Array Edge}{g:Option (Nat×Bool)}{pg:List (Nat×AV)}
variable {t yt:TypeId}{x y:Operand}
theorem xax {id k e yb:Nat}{xs ys:List (List D)}{vy:AV} (ht:SlT c.P t e k yb) (hz:ZeroT c.P e k) (hg:GH all env g pg) (hd:Nat.blt d c.n=true)
  (hx:opd env x=some (.gt id xs)) (hy:opd env y=some vy) (hyd:vy.toD=some (.sl ys)) (htok:getH hp id=some (.tok xs.length k)) (hky:∀y,y∈ys->y.length=k) (hf:FlatR ys)
  (hb:(xs.length+ys.length)*yb<=140737488355328) (hm:xs.length+ys.length<=9223372036854775807)
  (hn:Walk c all chk os (zao (pg++(opF x (.gt id xs)++opF y vy)) [(id,.tok xs.length k)] [] ⟨some (d,.gt id (xs++ys)),[(id,some (.tok (xs.length+ys.length) k))]⟩::recs)
   ⟨(d,.gt id (xs++ys))::env,(id,some (.tok (xs.length+ys.length) k))::hp⟩ Q):
  Walk c all chk (⟨some d,.call ⟨.builtin .append,#[x,y],#[t,t]⟩,ty,pos,af,g⟩::os) recs ⟨env,hp⟩ Q:=by
 refine⟨pg++(opF x (.gt id xs)++opF y vy),[(id,.tok xs.length k)],[],_, ?_,zar hg.facts (zar (zaR hx) (zaR hy)),hh1 htok,by simp,hn⟩;intro s a w hrel hp' hh _ K Q' hK;obtain⟨G,hr⟩:=hrel;have e1:=hr.opd (zaS hx (fun p hm=>hp' p (by simp[hm])));have e2:=hr.opd (zaS hy (fun p hm=>hp' p (by simp[hm])));obtain⟨i,z,z1,z2,z3⟩:=hz.out;obtain⟨v',w',G',hrun,hR,hA⟩:=zmz hr ht ⟨i,z1,z2,z3⟩ (hh1' hh) e1 (e2.toD hyd) hky hf hb hm ty;unfold wpO;rw[if_pos (hg.gf.wanted hr (fun p hm=>hp' p (by simp[hm])))];unfold Oper.wp;have:(execOp a.eval ⟨some d,.call ⟨.builtin .append,#[x,y],#[t,t]⟩,ty,pos,af,g⟩).run c.P w = .ok (.value v') w':=by
  simp only[execOp,resolve,invoke,builtin,Sem.run_bind,Sem.run_pure,Result.andThen_ok,List.map_toArray,xae,List.map_nil,hrun]
 rw[this,Oper.upon_value];exact hK _ _ ⟨G',hR.put hA hd⟩
theorem xba {parts:Array (Nat×Operand)}{n:Nat}{ks:List Nat}{xs:List Operand}{vs zs r:List AV}{e k yb id:Nat} (ht:SlT c.P t e k yb) (hz:TyZ c.P e k zs) (hzk:zs.length=k) (hk:0<k)
  (hparts:parts=(ks.zip xs).toArray) (hlen:ks.length=xs.length) (hsmall:n*k<=16777216) (hpos:0<n) (hg:GH all env g pg) (hd:Nat.blt d c.n=true) (hx:opdL env xs=some vs)
  (hf:zf1 (fun i=>some (i*k,k)) (zdO n zs) (ks.zip vs)=some r) (hid:zaB id (AV.idsL r)=false) (h0:getH hp id=none) (ho1:occE id env=false) (ho2:occH id hp=false)
  (hn:Walk c all chk os (zao (pg++opFL xs vs) [] [id] ⟨some (d,.ms id n),[(id,some (.box r))]⟩::recs) ⟨(d,.ms id n)::env,(id,some (.box r))::hp⟩ Q):
  Walk c all chk (⟨some d,.buildSlice t n parts,ty,pos,af,g⟩::os) recs ⟨env,hp⟩ Q:=by
 subst hparts;refine xaY hg hd hx h0 ho1 ho2 hid (fun a G T w h=>?_) hn;obtain⟨ie,hi1,hi2,hi3⟩:=ht.inf;obtain⟨i',z,z1,z2,z3,z4⟩:=hz.inf;rw[hi1] at z1;cases z1
 have hz0:=zd3 (G:=G) (T:=T) (w:=w) z4;have hzr:=zmy (by simpa using hz0) n (by omega);obtain⟨lv,hlv,hal⟩:=zf2 (ks.zip vs) (ks.zip (xs.map a.eval)) _ r _ hf hzr (by simp[h.1]) (zpu h hlen);have hpos':¬n*ie.size=0:=by rw[hi2];exact Nat.ne_of_gt (Nat.mul_pos hpos hk)
 have hrun:=run_buildSlice (P:=c.P) w t e n ((ks.zip xs).toArray.map fun(i,x)=>(i,a.eval x)) lv ie z ht.und hi1 z3 (by rw[hi2];omega) hpos' (by
  rw[hi2,<-hlv];congr 1
  ·rw[hzk]
  ·simp[List.zip_map_right,Prod.map])
 refine⟨_,lv,e, ?_,hal,fun G' T' w' hl hT=> .ms (by rw[hl];rfl) hT (Nat.le_refl _)⟩;simp only[execOp,Sem.run_bind,hrun,Result.andThen_ok,Sem.run_pure]
theorem xa8 {t:TypeId}{e k yb:Nat} (id:Nat) (ht:SlT c.P t e k yb) (hg:GH all env g pg) (hd:Nat.blt d c.n=true) (hfr:zai env hp [id]=true)
  (hn:Walk c all chk os (zao (pg++opFL [] []) [] [id] ⟨some (d,.gt id []),[(id,some (.tok 0 k))]⟩::recs) ⟨(d,.gt id [])::env,(id,some (.tok 0 k))::hp⟩ Q):
  Walk c all chk (⟨some d,.buildSlice t 0 #[],ty,pos,af,g⟩::os) recs ⟨env,hp⟩ Q:=by
 refine⟨pg++opFL [] [],[],[id],_, ?_,zar hg.facts (zbX rfl),by simp,za9 hfr,hn⟩;intro s a w hrel hp' hh hcr K Q' hK;obtain⟨G,hr⟩:=hrel;obtain⟨h0,hocc⟩:=hcr id (by simp);obtain⟨ie,hi1,hi2,hi3⟩:=ht.inf;have e1:(execOp a.eval ⟨some d,.buildSlice t 0 #[],ty,pos,af,g⟩).run c.P w = .ok (.value (.slice (some ⟨w.heap.size,0,none⟩) 0 0)) (w.alloc (.cells #[] e)):=by
  simp[execOp,Instr.buildSlice,run_underlying ht.und,sizeOf,zeb hi1,Instr.fill,newRow,Array.range_zero']
 have hr':=(hr.alloc (.cells #[] e) 0).rename h0 hocc [w.heap.size];have hloc:∀i,i≠id->(bif Nat.beq i id then [w.heap.size] else G.loc i)=G.loc i:=fun i h=>by rw[zb0 h];rfl
 have hR:=hr'.name (r:= .tok 0 k) h0 hocc (fun b hb=>by simp at hb;subst hb;simp) (fun i hi b hb=>by
  have hi':i≠id:=fun e=>by subst e;rw[h0] at hi;cases hi
  have hb':b∈G.loc i:=by have:=hloc i hi';simp only[this] at hb;exact hb
  obtain⟨r,hrr⟩:=Option.isSome_iff_exists.1 hi;have hlt:b<w.heap.size:=(hr.heap i r hrr).bound b hb';simp;omega) (fun b hb=>by
  simp at hb;subst hb;exact .inr hr.frm.size)
 unfold wpO;rw[if_pos (hg.gf.wanted hr (fun p hm=>hp' p (by simp[hm])))];unfold Oper.wp;rw[e1,Oper.upon_value];refine hK _ _ ⟨_,hR.put (v:= .gt id []) (.gt ⟨_,_,rfl⟩ (fun n k' hT=>?_)) hd⟩;have:=zam.1 hT;have h2:getH ((id,some (Res.tok 0 k))::s.hp) id=some (.tok n k'):=this;rw[zad,if_pos rfl] at h2;cases h2
 refine⟨Nat.le_refl _,fun _=>⟨by simp,.inr ⟨w.heap.size,0,#[],e,fun _=>[],by simp,rfl,zda,by simp,Nat.le_refl _,by simp,fun b hb=>?_,fun i hi=>by simp at hi,fun _=>rfl⟩⟩⟩;simp at hb;subst hb;simp
end
end Go.Proofs.YtmchfdpleibpdaaGreat
namespace Go.Proofs.YtmchfdpleibpdaaGreat
open Go
set_option linter.unusedSimpArgs false
set_option linter.unusedVariables false
set_option maxRecDepth 100000
set_option maxHeartbeats 2000000
theorem zr4 (l:List Ty):FlatR (l.map Ty.c):=by
 intro x hx y hy;obtain⟨t,_,rfl⟩:=List.mem_map.1 hx;simp only[Ty.c,List.mem_cons,List.not_mem_nil,or_false] at hy;rcases hy with rfl|rfl<;>rfl
theorem zhr {w:List Data} (hs:WSmall w):FnD Tryz.prog 59 [.d (zak w)] [] (.gt 61 (w.map Data.c)) [(61,some (.tok (w.map Data.c).length 2))]:=by
 have hl:=hs.len;refine bd Tryz.f59 55 [] [12] fun w0 F0 own kept hk=>?_;refine xa8 61 sl23 .none rfl rfl ?_;refine ev ?_;refine xak (ι:=List (Data)×List (Data)) hk (fun x=>[(4,.d (.i (x.1.length:Int))),(3,.gt 61 (x.1.map Data.c))]) [5,6,7,9,10,11,12,13,14,15,16,17,18,19,20,21,22,23,24,25,26,27,28,29,30,31,32,33,34,35,36,37,38,39,40,41,42,43,44,45,46,47,48,49,50,51,52,53] (fun x=>[(61,some (.tok ((x.1.map Data.c)).length 2))]) (fun x=>x.1++x.2=w) (fun x=>x.2.length) ([],w) (by simp) ⟨⟨_,rfl,xap ?_⟩,⟨⟨_,rfl,LeA.gtg ?_⟩,trivial⟩⟩ ⟨zaf ?_,trivial⟩ (fun x=>rfl) (fun x hg1=>?_);iterate 3 focus (rfl)
 obtain⟨pre,rest⟩:=x;dsimp only at hg1 ⊢;refine evc [] [12] ?_;refine sq ?_ ?_<;>intro h1 h1p h1s<;>(try simp only[Q] at h1p);rcases rest with _|⟨y,rest⟩
 ·exfalso;simp_all
 have hcl:=(hs.cs (d:=y) (by rw[<-hg1];simp)).len;have hyn:=(hs.data y (by rw[<-hg1];simp)).1;refine Walk.idx sl23 .none rfl rfl rfl rfl (zaH hg1) rfl ?_;refine ev ?_;refine bu [0] [_] zrI ?_;refine ab 3005 zjg ?_;refine so zpn ?_;refine tv ?_;refine CWp.tokBT 3005 1 62 3 rfl rfl rfl rfl ?_;refine xak (ι:=List (Ctor)×List (Ctor)) hk (fun x=>[(6,.d (.i (x.1.length:Int)))]) [7,21,22,23,24,25,26,27,28,29,30,31,32,33,34,35,36,37,38,39,40,41,42,43,44,45,46,47,48,49] (fun x=>[(3005,some (.box [.d (.str y.name),.gt 62 (x.1.map Ctor.c)])),(62,some (.tok (x.1.map Ctor.c).length 3))]) (fun x=>x.1++x.2=y.ctors) (fun x=>x.2.length) ([],y.ctors) (by simp) ⟨⟨_,rfl,xap ?_⟩,trivial⟩ ⟨?_,⟨zaf ?_,trivial⟩⟩ (fun x=>rfl) (fun x hg2=>?_);focus (rfl)
 focus (first|rfl|(simp[getH];done))
 focus (rfl)
 obtain⟨pre2,rest2⟩:=x;dsimp only at hg2 ⊢;refine evc [] [12] ?_;refine Walk.idx sl23 .none rfl rfl rfl rfl (zaH hg1) rfl ?_;refine ev ?_;refine sq ?_ ?_<;>intro h2 h2p h2s<;>(try simp only[Q] at h2p);rcases rest2 with _|⟨z,rest2⟩
 ·exfalso;simp_all
 have hza:=((hs.cs (d:=y) (by rw[<-hg1];simp)).ctor z (by rw[<-hg2];simp)).2;refine Walk.idx sl23 .none rfl rfl rfl rfl (zaH hg1) rfl ?_;refine ev ?_;refine Walk.idx zbw .none rfl rfl rfl rfl (zaH hg2) rfl ?_;refine ev ?_;refine ab 3007 ze7 ?_;refine so zcA ?_;refine tv ?_;refine xa8 63 zax .none rfl rfl ?_;refine ev ?_;refine xax zax zz29 .none rfl rfl rfl rfl (zaW rfl (by rfl)) (by simp) (zr4 _) (by simp;omega) (by simp;omega) ?_;refine ev ?_;refine so zlj ?_;refine tv ?_;refine xba (id:=3047) zbw ze7 rfl (by decide) (ks:=[0]) (xs:=[_]) rfl rfl (by decide) (by decide) .none rfl rfl rfl rfl rfl rfl rfl ?_;refine xaw hk rfl zbw zrR .none rfl rfl rfl rfl (zaW rfl (by rfl)) rfl (.sc rfl (.gt rfl (by first|rfl|(simp;done)) (.sc rfl .nil))) rfl rfl (by simp;omega) (by simp;omega) ?_;refine ev ?_;refine so zgX ?_;refine tv ?_;refine ar ?_;refine xah ((pre2++[z],rest2)) ⟨(by have hz:=hg2;rw[<-hz];simp),(by simp),sx ⟨⟨_,rfl,xap ?_⟩,trivial⟩ ⟨?_,⟨zaf ?_,trivial⟩⟩⟩;focus ((simp;done))
 focus (first|rfl|(simp[getH];done))
 focus ((simp;done))
 have hrest2:rest2=[]:=by
  rcases rest2 with _|⟨a,b⟩
  ·rfl
  ·exfalso;have hz:=congrArg List.length (hg2);simp only[xaa,xab,xac] at hz;omega
 subst hrest2;rw[List.append_nil] at hg2;subst hg2;refine evc [] [] ?_;refine xba (id:=3052) sl23 zjg rfl (by decide) (ks:=[0]) (xs:=[_]) rfl rfl (by decide) (by decide) .none rfl rfl rfl rfl rfl rfl rfl ?_;refine xaw hk rfl sl23 zpv .none rfl rfl rfl rfl (zaW rfl (by rfl)) rfl (.sc rfl (.gt rfl (by first|rfl|(simp;done)) .nil)) rfl rfl (by simp;omega) (by simp;omega) ?_;refine ev ?_;refine ar ?_;refine xah ((pre++[y],rest)) ⟨(by have hz:=hg1;rw[<-hz];simp),(by simp),sx ⟨⟨_,rfl,xap ?_⟩,⟨⟨_,rfl,LeA.gtg ?_⟩,trivial⟩⟩ ⟨zaf ?_,trivial⟩⟩;iterate 3 focus ((simp;done))
 have hrest:rest=[]:=by
  rcases rest with _|⟨a,b⟩
  ·rfl
  ·exfalso;have hz:=congrArg List.length (hg1);simp only[xaa,xab,xac] at hz;omega
 subst hrest;refine rn [(61,some (.tok (w.map Data.c).length 2))] (r1 rfl) (.gtg ?_) ⟨rfl,rfl⟩ (SubH.get ⟨?_,trivial⟩) (zaI rfl);rotate_left 2;all_goals (((rw[List.append_nil] at hg1;subst hg1;rfl);done))
def nmsD:List Str:=[[73],[],[97],[76,76],[90]]
def nmsC:List Str:=[[],[110,105,108],[84,111,111,108,111,110,103],[88]]
def mutY (b:Str) (p:Nat) (c:Int) (nm:Str) (c0:Ctor) (cr:List Ctor):Data×Nat:=
 if c=0 then (⟨ofV b p nmsD,c0::cr⟩,p+1)
 else if c=1 then (⟨nm,[]⟩,p)
 else if c=2 then (⟨nm,⟨ofV b p nmsC,c0.args,c0.index⟩::cr⟩,p+1)
 else if c=3 then (⟨nm,⟨c0.name,c0.args++[⟨numV b p [9,-2,0,-1],numV b (p+1) [0,4,-1,-2]⟩],c0.index⟩::cr⟩,p+2)
 else if c=4 then (⟨nm,⟨c0.name,c0.args,numV b p [4,-1,1]⟩::cr⟩,p+1)
 else (⟨nm,c0::cr⟩,p)
def mutW (b:Str) (p:Nat) (w:List Data):List Data×Nat:=
 match (nth w (zap b p w.length).toNat).ctors with
 | []=>(w,p+1)
 |c0::cr=>
  if zap b (p+1) 30=5 then (w++[nth w (zap b p w.length).toNat],p+2)
  else (w.set (zap b p w.length).toNat (mutY b (p+2) (zap b (p+1) 30) (nth w (zap b p w.length).toNat).name c0 cr).1,(mutY b (p+2) (zap b (p+1) 30) (nth w (zap b p w.length).toNat).name c0 cr).2)
section
variable {b:Str}{p:Nat}{c:Int}{nm:Str}{c0:Ctor}{cr:List Ctor}
theorem zta (h:c=0):mutY b p c nm c0 cr=(⟨ofV b p nmsD,c0::cr⟩,p+1):=by unfold mutY;rw[if_pos h]
theorem ztb (h0:¬c=0) (h:c=1):mutY b p c nm c0 cr=(⟨nm,[]⟩,p):=by unfold mutY;rw[if_neg h0,if_pos h]
theorem ztc (h0:¬c=0) (h1:¬c=1) (h:c=2):mutY b p c nm c0 cr=(⟨nm,⟨ofV b p nmsC,c0.args,c0.index⟩::cr⟩,p+1):=by unfold mutY;rw[if_neg h0,if_neg h1,if_pos h]
theorem ztd (h0:¬c=0) (h1:¬c=1) (h2:¬c=2) (h:c=3):mutY b p c nm c0 cr=(⟨nm,⟨c0.name,c0.args++[⟨numV b p [9,-2,0,-1],numV b (p+1) [0,4,-1,-2]⟩],c0.index⟩::cr⟩,p+2):=by unfold mutY;rw[if_neg h0,if_neg h1,if_neg h2,if_pos h]
theorem zte (h0:¬c=0) (h1:¬c=1) (h2:¬c=2) (h3:¬c=3) (h:c=4):mutY b p c nm c0 cr=(⟨nm,⟨c0.name,c0.args,numV b p [4,-1,1]⟩::cr⟩,p+1):=by unfold mutY;rw[if_neg h0,if_neg h1,if_neg h2,if_neg h3,if_pos h]
theorem ztf (h0:¬c=0) (h1:¬c=1) (h2:¬c=2) (h3:¬c=3) (h:¬c=4):mutY b p c nm c0 cr=(⟨nm,c0::cr⟩,p):=by unfold mutY;rw[if_neg h0,if_neg h1,if_neg h2,if_neg h3,if_neg h]
end
theorem zr9 (b:Str) (p:Nat) (w:List Data):p+1<=(mutW b p w).2/\(mutW b p w).2<=p+4:=by
 unfold mutW;split
 ·dsimp only;omega
 ·split
  ·dsimp only;omega
  ·unfold mutY;repeat' split
   all_goals dsimp only;omega
theorem zoG {α:Type} [Inhabited α]{pre rest:List α}{y:α}:nth (pre++y::rest) pre.length=y:=ztg rfl
theorem zsk {α:Type}{pre rest:List α}{y z:α}:(pre++y::rest).set pre.length z=pre++z::rest:=by
 rw[List.set_append_right _ _ (Nat.le_refl _)];simp
theorem zq5 {b:Str}{p:Nat}{pre rest:List Data}{nm:Str}{c0:Ctor}{cr:List Ctor} (h:zap b p (pre++⟨nm,c0::cr⟩::rest).length=pre.length) (h5:¬zap b (p+1) 30=5):
  mutW b p (pre++⟨nm,c0::cr⟩::rest)=(pre++(mutY b (p+2) (zap b (p+1) 30) nm c0 cr).1::rest,(mutY b (p+2) (zap b (p+1) 30) nm c0 cr).2):=by
 unfold mutW;rw[h,Int.toNat_natCast,zoG];dsimp only;rw[if_neg h5,zsk]
theorem zjU {α:Type}{f:α->List D} (m:Bool):∀l:List α,(zau m (l.map f)).map zhn=l.flatMap fun x=>(f x).map .d
 | []=>rfl
 |x::r=>by
  rw[xae,zbZ,xaf,zjU m r,List.flatMap_cons];congr 1
  rw[List.map_map];refine List.map_congr_left (fun y _=>?_);cases y<;>rfl
theorem zeN {α:Type}{f:α->List D}{k:Nat}{m1 m2:Bool}{pre rest:List α}{z:α}{mid:List AV}{n:Nat} (hk:∀x,(f x).length=k) (hm:mid.map zhn=(f z).map .d) (hn:n=(pre++z::rest).length):
  zbG n k ((zau m1 (pre.map f)++(mid++zau m2 (rest.map f))).map zhn)=some ((pre++z::rest).map f):=by
 rw[xaf,xaf,zjU,zjU,hm,hn];have:=zfr (f:=f) (k:=k) (l:=pre++z::rest) (fun x _=>hk x);rw[List.flatMap_append,List.flatMap_cons] at this;exact this
theorem zq7 (m:Bool) (x:List D) (r:List (List D)){l:List AV} (h:x.map (ownD m)++zau m r=l):zau m (x::r)=l:=by rw[zbZ];exact h
theorem zql {α:Type}{f:α->List D} (m:Bool){pre rest:List α}{y:α}{l:List AV} (h:(f y).map (ownD m)++zau m (rest.map f)=l):zau m ((pre++y::rest).map f)=zau m (pre.map f)++l:=by
 rw[xaf,zkO,xae,zbZ,h]
theorem zk8 {b:Str}{p:Nat}{pre rest:List Data}{y:Data} (hb:b.length<=2000) (hp:p<=1000000) (hs:WSmall (pre++y::rest)) (hd:zap b p (pre++y::rest).length=pre.length) (h5:y.ctors=[]\/zap b (p+1) 30=5):
  FnD Tryz.prog 26 [.ref 900 0,.d (zak (pre++y::rest))] [(900,some (rdB b p))] (.d (zak (if y.ctors=[] then pre++y::rest else (pre++y::rest)++[y]))) [(900,some (rdB b (if y.ctors=[] then p+1 else p+2)))]:=by
 have hl:=hs.len;have hpk:=zaT (p:=p) (n:=(((pre++y::rest).map Data.c).length:Int)) hb (by omega) (by simp at hl ⊢;omega);have hpk2:=zaT (p:=p+1) (n:=30) hb (by omega) (by omega);have hpv:zap b p (((pre++y::rest).map Data.c).length:Int)=pre.length:=by rw[xac];exact hd
 rw[hpv] at hpk;have hat:((pre++y::rest).map Data.c)[pre.length]?=some (Data.c y):=by simp
 generalize hw:pre++y::rest=w at *;generalize hc:zap b (p+1) 30=c at *;have hlm:((w.map Data.c).length:Int)=w.length:=by simp
 refine bd Tryz.f26 99 [] [2] fun w0 F0 own kept hk=>?_;refine Walk.call (cr:=[61]) zrp (zhr hs) rfl .none rfl rfl (LeL.refl _) trivial rfl (by rfl) (by rfl) ?_;refine ev ?_;refine CWp.gtGl 5 61 64 2 rfl rfl (by simp) rfl ?_;refine evc [] [] ?_;refine wd zch (hpk) rfl rfl ⟨rfl,trivial⟩ ?_;refine ev ?_;refine xaP sl23 .none rfl rfl rfl rfl (hat) rfl ?_;refine ev ?_;refine sq ?_ ?_<;>intro h1 h1p h1s<;>(try simp only[Q] at h1p);refine rn [(900,some (rdB b (if y.ctors=[] then p+1 else p+2)))] (r1 rfl) (.gld ?_) ⟨rfl,rfl⟩ (SubO.get ⟨.inr ?_,⟨.inl rfl,trivial⟩⟩) (zaI rfl);rotate_left 2;have hc5:c=5:=h5.resolve_left (by simpa using h1p);refine wd zch (hpk2) rfl rfl ⟨rfl,trivial⟩ ?_;refine tv ?_;refine sq ?_ ?_<;>intro h2 h2p h2s<;>(try simp only[Q] at h2p);exfalso;omega;refine sq ?_ ?_<;>intro h3 h3p h3s<;>(try simp only[Q] at h3p);exfalso;omega;refine sq ?_ ?_<;>intro h4 h4p h4s<;>(try simp only[Q] at h4p);exfalso;omega;refine sq ?_ ?_<;>intro h5 h5p h5s<;>(try simp only[Q] at h5p);exfalso;omega;refine sq ?_ ?_<;>intro h6 h6p h6s<;>(try simp only[Q] at h6p);exfalso;omega;refine sq ?_ ?_<;>intro h7 h7p h7s<;>(try simp only[Q] at h7p);refine xaP sl23 .none rfl rfl rfl rfl (hat) rfl ?_;refine ev ?_;refine si [0] [_] sl23 zjg ?_;refine ap sl23 zpv rfl rfl rfl (by intro x hx;simp only[List.mem_singleton] at hx;subst hx;rfl) (by simp at hl ⊢;omega) ?_;refine ev ?_;refine rn [(900,some (rdB b (if y.ctors=[] then p+1 else p+2)))] (r1 rfl) (.gld ?_) ⟨rfl,rfl⟩ (SubO.get ⟨.inr ?_,⟨.inl rfl,trivial⟩⟩) (zaI rfl);rotate_left 2;exfalso;omega;all_goals (((first|(rw[if_pos (by simpa using h1p)];all_goals rfl)|(rw[if_neg (by simpa using h1p)];all_goals first|rfl|(show _=(w++[y]).map Data.c;rw[xaf];rfl)|(show D.sl _=D.sl ((w++[y]).map Data.c);rw[xaf];rfl)));done))
theorem zk9 {b:Str}{p:Nat}{pre rest:List Data}{nm:Str}{c0:Ctor}{cr:List Ctor} (hb:b.length<=2000) (hp:p<=1000000) (hs:WSmall (pre++⟨nm,c0::cr⟩::rest)) (hd:zap b p (pre++⟨nm,c0::cr⟩::rest).length=pre.length) (h5:¬zap b (p+1) 30=5):
  FnD Tryz.prog 26 [.ref 900 0,.d (zak (pre++⟨nm,c0::cr⟩::rest))] [(900,some (rdB b p))] (.d (zak (pre++(mutY b (p+2) (zap b (p+1) 30) nm c0 cr).1::rest))) [(900,some (rdB b (mutY b (p+2) (zap b (p+1) 30) nm c0 cr).2))]:=by
 have hl:=hs.len;have hpk:=zaT (p:=p) (n:=(((pre++⟨nm,c0::cr⟩::rest).map Data.c).length:Int)) hb (by omega) (by simp at hl ⊢;omega);have hpk2:=zaT (p:=p+1) (n:=30) hb (by omega) (by omega);have hpv:zap b p (((pre++⟨nm,c0::cr⟩::rest).map Data.c).length:Int)=pre.length:=by rw[xac];exact hd
 rw[hpv] at hpk;have hal:c0.args.length<=1000000000000:=((hs.ctor ⟨nm,c0::cr⟩ (by simp)) c0 (by simp)).2;generalize hc:zap b (p+1) 30=c at *;have hlw:pre.length<((pre++⟨nm,c0::cr⟩::rest).map Data.c).length:=by simp
 refine bd Tryz.f26 99 [17,45,57,62,65,83] [2,3,7,9,11,13,15,18] fun w0 F0 own kept hk=>?_;refine Walk.call (cr:=[61]) zrp (zhr hs) rfl .none rfl rfl (LeL.refl _) trivial rfl (by rfl) (by rfl) ?_;refine evs [17,45,57,62,65,83] [] ?_;refine CWp.fixT hk 5 61 2 rfl rfl rfl (fun hx=>absurd hx (by simp)) (fun hx=>?_);refine evc [17,45,57,62,65,83] [] ?_;refine Walk.call (cr:=[]) zch (hpk) rfl .none rfl rfl (LeL.refl _) ⟨rfl,trivial⟩ rfl (by rfl) (by rfl) ?_;refine evs [17,45,57,62,65,83] [] ?_;refine xal 61 (zau true (pre.map Data.c)++(.d (.str nm):: .own true (.sl ((c0::cr).map Ctor.c))::zau true (rest.map Data.c))) rfl (zql true rfl) ?_;refine CWp.split 61 (pre.length*2+1) 62 rfl (zcF (zbK (k:=2) true (by intro x _;rfl)) rfl) (by simp) (by(simp only[zai,occH,occE,Res.ids,xag,List.nil_append,AV.idsL,AV.ids,zab,zaa,zac,zan,xae,List.map_nil,upC];rfl)) (zdC (zbK (k:=2) true (by intro x _;rfl)) zeP) ?_;refine xal 62 (.d (.str c0.name):: .own true (.sl (c0.args.map Ty.c)):: .d (.i c0.index)::zau true (cr.map Ctor.c)) rfl (zq7 true _ _ rfl) ?_;refine evc [17,45,57,62,65,83] [] ?_;refine xaQ sl23 .none rfl rfl rfl rfl (by omega) ?_;refine evs [17,45,57,62,65,83] [] ?_;refine xaX zgX .none rfl rfl rfl ((by rw[zcF (zbK (k:=2) true (by intro x _;rfl)) rfl];rfl)) ?_;refine evs [17,45,57,62,65,83] [] ?_;refine sq ?_ ?_<;>intro h1 h1p h1s<;>(try simp only[Q] at h1p);exfalso;simp at h1;omega;refine Walk.call (cr:=[]) zch (hpk2) rfl .none rfl rfl (LeL.refl _) ⟨rfl,trivial⟩ rfl (by rfl) (by rfl) ?_;refine tv ?_;refine sq ?_ ?_<;>intro h2 h2p h2s<;>(try simp only[Q] at h2p);try rfl
 refine evc [17,45,57,62,65,83] [] ?_;refine si [0,1,2,3,4] [_,_,_,_,_] zaD tz9 ?_;refine Walk.call (cr:=[]) zrq (zlf (p:=p+2) (l:=nmsD) hb (by omega) (by simp[nmsD]) (by simp[nmsD])) rfl .none rfl rfl (LeL.refl _) ⟨rfl,trivial⟩ rfl (by rfl) (by rfl) ?_;refine xaQ sl23 .none rfl rfl rfl rfl (by omega) ?_;refine evs [17,45,57,62,65,83] [] ?_;refine xbb ty9 .none rfl rfl rfl rfl rfl rfl (by simp) ((zdC (zbK (k:=2) true (by intro x _;rfl)) zoL)) ?_;refine tv ?_;try rfl
 refine xal 62 (zau true ((c0::cr).map Ctor.c)) rfl (by rw[xae,zbZ];rfl) ?_;refine CWp.merge hk 61 (pre.length*2+1) 62 3 _ rfl (zcF (zbK (k:=2) true (by intro x _;rfl)) rfl) (by simp) rfl (by intro x hx;obtain⟨y,_,rfl⟩:=List.mem_map.1 hx;rfl) rfl rfl (zdC (zbK (k:=2) true (by intro x _;rfl)) zeP) ?_;refine CWp.frzTree hk 5 61 _ 2 (es:=(pre++(⟨(ofV b (p+2) nmsD),c0::cr⟩:Data)::rest).map Data.c) rfl rfl (zeN (z:=(⟨(ofV b (p+2) nmsD),c0::cr⟩:Data)) (mid:=[.d (.str (ofV b (p+2) nmsD)),.own false (.sl ((c0::cr).map Ctor.c))]) (fun _=>rfl) rfl (by simp)) rfl ?_;refine evc [17,45,57,62,65,83] [] ?_;refine rn [(900,some (rdB b (mutY b (p+2) c nm c0 cr).2))] (r1 rfl) (.eqd ?_) ⟨rfl,rfl⟩ (SubO.get ⟨.inr ?_,⟨.inl rfl,trivial⟩⟩) (zaI rfl);rotate_left 2;refine sq ?_ ?_<;>intro h3 h3p h3s<;>(try simp only[Q] at h3p);try rfl
 refine evc [17,45,57,62,65,83] [] ?_;refine xa5 zbw .none rfl ?_;refine xaQ sl23 .none rfl rfl rfl rfl (by omega) ?_;refine evs [17,45,57,62,65,83] [] ?_;refine xbb zgX .none rfl rfl rfl rfl rfl rfl (by simp) ((zdC (zbK (k:=2) true (by intro x _;rfl)) zeP)) ?_;refine tv ?_;try rfl
 refine CWp.frzTree hk 5 61 _ 2 (es:=(pre++(⟨nm,[]⟩:Data)::rest).map Data.c) rfl rfl (zeN (z:=(⟨nm,[]⟩:Data)) (mid:=[.d (.str nm),.d (.sl [])]) (fun _=>rfl) rfl (by simp)) rfl ?_;refine evc [17,45,57,62,65,83] [] ?_;refine rn [(900,some (rdB b (mutY b (p+2) c nm c0 cr).2))] (r1 rfl) (.eqd ?_) ⟨rfl,rfl⟩ (SubO.get ⟨.inr ?_,⟨.inl rfl,trivial⟩⟩) (zaI rfl);rotate_left 2;refine sq ?_ ?_<;>intro h4 h4p h4s<;>(try simp only[Q] at h4p);try rfl
 refine evc [17,45,57,62,65,83] [] ?_;refine xaQ sl23 .none rfl rfl rfl rfl (by omega) ?_;refine evd [17,45,57,62,65,83] [] ?_;refine xaX zgX .none rfl rfl rfl ((by rw[zcF (zbK (k:=2) true (by intro x _;rfl)) rfl];rfl)) ?_;refine evd [17,45,57,62,65,83] [] ?_;refine si [0,1,2,3] [_,_,_,_] zaD tz9 ?_;refine Walk.call (cr:=[]) zrq (zlf (p:=p+2) (l:=nmsC) hb (by omega) (by simp[nmsC]) (by simp[nmsC])) rfl .none rfl rfl (LeL.refl _) ⟨rfl,trivial⟩ rfl (by rfl) (by rfl) ?_;refine xaQ (i:=0) zbw .none rfl rfl rfl rfl (by(simp;done)) ?_;refine evd [17,45,57,62,65,83] [] ?_;refine xbb ty9 .none rfl rfl rfl rfl rfl rfl (by simp) ((zoL)) ?_;refine dr ?_;try rfl
 refine xal 62 (zau true (((⟨ofV b (p+2) nmsC,c0.args,c0.index⟩:Ctor)::cr).map Ctor.c)) rfl (by rw[xae,zbZ];rfl) ?_;refine CWp.merge hk 61 (pre.length*2+1) 62 3 _ rfl (zcF (zbK (k:=2) true (by intro x _;rfl)) rfl) (by simp) rfl (by intro x hx;obtain⟨y,_,rfl⟩:=List.mem_map.1 hx;rfl) rfl rfl (zdC (zbK (k:=2) true (by intro x _;rfl)) zeP) ?_;refine CWp.frzTree hk 5 61 _ 2 (es:=(pre++(⟨nm,(⟨ofV b (p+2) nmsC,c0.args,c0.index⟩:Ctor)::cr⟩:Data)::rest).map Data.c) rfl rfl (zeN (z:=(⟨nm,(⟨ofV b (p+2) nmsC,c0.args,c0.index⟩:Ctor)::cr⟩:Data)) (mid:=[.d (.str nm),.own false (.sl (((⟨ofV b (p+2) nmsC,c0.args,c0.index⟩:Ctor)::cr).map Ctor.c))]) (fun _=>rfl) rfl (by simp)) rfl ?_;refine evc [17,45,57,62,65,83] [] ?_;refine rn [(900,some (rdB b (mutY b (p+2) c nm c0 cr).2))] (r1 rfl) (.eqd ?_) ⟨rfl,rfl⟩ (SubO.get ⟨.inr ?_,⟨.inl rfl,trivial⟩⟩) (zaI rfl);rotate_left 2;refine sq ?_ ?_<;>intro h5 h5p h5s<;>(try simp only[Q] at h5p);refine CWp.splitT 62 1 63 2 rfl rfl (by intro x hx;obtain⟨y,_,rfl⟩:=List.mem_map.1 hx;rfl) (by(simp only[zai,occH,occE,Res.ids,xag,List.nil_append,AV.idsL,AV.ids,zab,zaa,zac,zan,xae,List.map_nil,upC];rfl)) rfl ?_;refine evc [17,45,57,62,65,83] [] ?_;refine xaQ sl23 .none rfl rfl rfl rfl (by omega) ?_;refine evd [17,45,57,62,65,83] [] ?_;refine xaX zgX .none rfl rfl rfl ((by rw[zcF (zbK (k:=2) true (by intro x _;rfl)) rfl];rfl)) ?_;refine evd [17,45,57,62,65,83] [] ?_;refine xaQ sl23 .none rfl rfl rfl rfl (by omega) ?_;refine evd [17,45,57,62,65,83] [] ?_;refine xaX zgX .none rfl rfl rfl ((by rw[zcF (zbK (k:=2) true (by intro x _;rfl)) rfl];rfl)) ?_;refine xaQ (i:=0) zbw .none rfl rfl rfl rfl (by(simp;done)) ?_;refine evd [17,45,57,62,65,83] [] ?_;refine xaX zlj .none rfl rfl rfl ((rfl)) ?_;refine evd [17,45,57,62,65,83] [] ?_;refine si [0,1,2,3] [_,_,_,_] sl37 tz3 ?_;refine Walk.call (cr:=[]) zi5 (zdR (p:=p+2) (l:=[9,-2,0,-1]) hb (by omega) (by simp) (by simp)) rfl .none rfl rfl (LeL.refl _) ⟨rfl,trivial⟩ rfl (by rfl) (by rfl) ?_;refine evd [17,45,57,62,65,83] [] ?_;refine si [0,1,2,3] [_,_,_,_] sl37 tz3 ?_;refine Walk.call (cr:=[]) zi5 (zdR (p:=p+3) (l:=[0,4,-1,-2]) hb (by omega) (by simp) (by simp)) rfl .none rfl rfl (LeL.refl _) ⟨rfl,trivial⟩ rfl (by rfl) (by rfl) ?_;refine bu [0,1] [_,_] st29 ?_;refine si [0] [_] zax tz29 ?_;refine xax zax zz29 .none rfl rfl rfl rfl (zaW rfl (by rfl)) (by intro x hx;simp only[List.mem_singleton] at hx;subst hx;rfl) (by intro x hx y hy;simp only[List.mem_singleton] at hx;subst hx;simp only[List.mem_cons,List.not_mem_nil,or_false] at hy;rcases hy with rfl|rfl<;>rfl) (by simp;omega) (by simp;omega) ?_;refine xaQ (i:=0) zbw .none rfl rfl rfl rfl (by(simp;done)) ?_;refine evd [17,45,57,62,65,83] [] ?_;refine xbb zlj .none rfl rfl rfl rfl rfl rfl (by simp) ((zeP)) ?_;refine dr ?_;try rfl
 refine CWp.mergeT 62 1 63 2 rfl rfl rfl (by simp) rfl ?_;refine xal 62 (.d (.str c0.name):: .own true (.sl ((c0.args++[(⟨numV b (p+2) [9,-2,0,-1],numV b (p+3) [0,4,-1,-2]⟩:Ty)]).map Ty.c)):: .d (.i c0.index)::zau true (cr.map Ctor.c)) rfl (by rw[xaf];rfl) ?_;refine xal 62 (zau true (((⟨c0.name,c0.args++[(⟨numV b (p+2) [9,-2,0,-1],numV b (p+3) [0,4,-1,-2]⟩:Ty)],c0.index⟩:Ctor)::cr).map Ctor.c)) rfl (by rw[xae,zbZ];rfl) ?_;refine CWp.merge hk 61 (pre.length*2+1) 62 3 _ rfl (zcF (zbK (k:=2) true (by intro x _;rfl)) rfl) (by simp) rfl (by intro x hx;obtain⟨y,_,rfl⟩:=List.mem_map.1 hx;rfl) rfl rfl (zdC (zbK (k:=2) true (by intro x _;rfl)) zeP) ?_;refine CWp.frzTree hk 5 61 _ 2 (es:=(pre++(⟨nm,(⟨c0.name,c0.args++[(⟨numV b (p+2) [9,-2,0,-1],numV b (p+3) [0,4,-1,-2]⟩:Ty)],c0.index⟩:Ctor)::cr⟩:Data)::rest).map Data.c) rfl rfl (zeN (z:=(⟨nm,(⟨c0.name,c0.args++[(⟨numV b (p+2) [9,-2,0,-1],numV b (p+3) [0,4,-1,-2]⟩:Ty)],c0.index⟩:Ctor)::cr⟩:Data)) (mid:=[.d (.str nm),.own false (.sl (((⟨c0.name,c0.args++[(⟨numV b (p+2) [9,-2,0,-1],numV b (p+3) [0,4,-1,-2]⟩:Ty)],c0.index⟩:Ctor)::cr).map Ctor.c))]) (fun _=>rfl) rfl (by simp)) rfl ?_;refine evc [17,45,57,62,65,83] [] ?_;refine rn [(900,some (rdB b (mutY b (p+2) c nm c0 cr).2))] (r1 rfl) (.eqd ?_) ⟨rfl,rfl⟩ (SubO.get ⟨.inr ?_,⟨.inl rfl,trivial⟩⟩) (zaI rfl);rotate_left 2;refine sq ?_ ?_<;>intro h6 h6p h6s<;>(try simp only[Q] at h6p);try rfl
 refine evc [17,45,57,62,65,83] [] ?_;refine xaQ sl23 .none rfl rfl rfl rfl (by omega) ?_;refine evd [17,45,57,62,65,83] [] ?_;refine xaX zgX .none rfl rfl rfl ((by rw[zcF (zbK (k:=2) true (by intro x _;rfl)) rfl];rfl)) ?_;refine evd [17,45,57,62,65,83] [] ?_;refine si [0,1,2] [_,_,_] sl37 tz3 ?_;refine Walk.call (cr:=[]) zi5 (zdR (p:=p+2) (l:=[4,-1,1]) hb (by omega) (by simp) (by simp)) rfl .none rfl rfl (LeL.refl _) ⟨rfl,trivial⟩ rfl (by rfl) (by rfl) ?_;refine xaQ (i:=0) zbw .none rfl rfl rfl rfl (by(simp;done)) ?_;refine evd [17,45,57,62,65,83] [] ?_;refine xbb ty3 .none rfl rfl rfl rfl rfl rfl (by simp) ((zsh)) ?_;refine dr ?_;try rfl
 refine xal 62 (zau true (((⟨c0.name,c0.args,numV b (p+2) [4,-1,1]⟩:Ctor)::cr).map Ctor.c)) rfl (by rw[xae,zbZ];rfl) ?_;refine CWp.merge hk 61 (pre.length*2+1) 62 3 _ rfl (zcF (zbK (k:=2) true (by intro x _;rfl)) rfl) (by simp) rfl (by intro x hx;obtain⟨y,_,rfl⟩:=List.mem_map.1 hx;rfl) rfl rfl (zdC (zbK (k:=2) true (by intro x _;rfl)) zeP) ?_;refine CWp.frzTree hk 5 61 _ 2 (es:=(pre++(⟨nm,(⟨c0.name,c0.args,numV b (p+2) [4,-1,1]⟩:Ctor)::cr⟩:Data)::rest).map Data.c) rfl rfl (zeN (z:=(⟨nm,(⟨c0.name,c0.args,numV b (p+2) [4,-1,1]⟩:Ctor)::cr⟩:Data)) (mid:=[.d (.str nm),.own false (.sl (((⟨c0.name,c0.args,numV b (p+2) [4,-1,1]⟩:Ctor)::cr).map Ctor.c))]) (fun _=>rfl) rfl (by simp)) rfl ?_;refine evc [17,45,57,62,65,83] [] ?_;refine rn [(900,some (rdB b (mutY b (p+2) c nm c0 cr).2))] (r1 rfl) (.eqd ?_) ⟨rfl,rfl⟩ (SubO.get ⟨.inr ?_,⟨.inl rfl,trivial⟩⟩) (zaI rfl);rotate_left 2;refine sq ?_ ?_<;>intro h7 h7p h7s<;>(try simp only[Q] at h7p);exfalso;omega;try rfl
 refine xal 62 (zau true ((c0::cr).map Ctor.c)) rfl (by rw[xae,zbZ];rfl) ?_;refine CWp.merge hk 61 (pre.length*2+1) 62 3 _ rfl (zcF (zbK (k:=2) true (by intro x _;rfl)) rfl) (by simp) rfl (by intro x hx;obtain⟨y,_,rfl⟩:=List.mem_map.1 hx;rfl) rfl rfl (zdC (zbK (k:=2) true (by intro x _;rfl)) zeP) ?_;refine CWp.frzTree hk 5 61 _ 2 (es:=(pre++(⟨nm,c0::cr⟩:Data)::rest).map Data.c) rfl rfl (zeN (z:=(⟨nm,c0::cr⟩:Data)) (mid:=[.d (.str nm),.own false (.sl ((c0::cr).map Ctor.c))]) (fun _=>rfl) rfl (by simp)) rfl ?_;refine evc [17,45,57,62,65,83] [] ?_;refine rn [(900,some (rdB b (mutY b (p+2) c nm c0 cr).2))] (r1 rfl) (.eqd ?_) ⟨rfl,rfl⟩ (SubO.get ⟨.inr ?_,⟨.inl rfl,trivial⟩⟩) (zaI rfl);rotate_left 2;all_goals (((first|(rw[zta (by omega)];all_goals rfl)|(rw[ztb (by omega) (by omega)];all_goals rfl)|(rw[ztc (by omega) (by omega) (by omega)];all_goals rfl)|(rw[ztd (by omega) (by omega) (by omega) (by omega)];all_goals rfl)|(rw[zte (by omega) (by omega) (by omega) (by omega) (by omega)];all_goals rfl)|(rw[ztf (by omega) (by omega) (by omega) (by omega) (by omega)];all_goals rfl));done))
def zt5 (n:Nat):UInt8:=UInt8.ofNat (IntKind.u8.wrap (48+(n:Int) % 10)).toNat
def digs (n:Nat):Str:=if n=0 then [] else digs (n / 10)++[zt5 n]
def zoD (n:Nat):Str:=109::digs n
def Ty.one (k:Int) (_:Ty):Ty:=⟨k,k+1⟩
def Ty.sz (_:Ty):Int:=2
def Ctor.one (k:Int) (x:Ctor):Ctor:=⟨zoD k.toNat,mkL Ty.one Ty.sz (k+1) x.args,k+1+szL Ty.sz x.args⟩
def Ctor.sz (x:Ctor):Int:=2+szL Ty.sz x.args
def Data.one (k:Int) (x:Data):Data:=⟨zoD k.toNat,mkL Ctor.one Ctor.sz (k+1) x.ctors⟩
def Data.sz (x:Data):Int:=1+szL Ctor.sz x.ctors
def Pat.op:Pat->Int | .mk a0 _ _ _ _ _=>a0
def Pat.ctor:Pat->Int | .mk _ a1 _ _ _ _=>a1
def Pat.n:Pat->Int | .mk _ _ a2 _ _ _=>a2
def Pat.m:Pat->Int | .mk _ _ _ a3 _ _=>a3
def Pat.var:Pat->Int | .mk _ _ _ _ a4 _=>a4
def Pat.kids:Pat->List Pat | .mk _ _ _ _ _ k=>k
abbrev Pat.cc (v:Pat):List D:=[.i v.op,.i v.ctor,.i v.n,.i v.m,.i v.var,.sl (Pat.cs v.kids)]
theorem Pat.c_eq (v:Pat):v.c=v.cc:=by cases v;rfl
theorem Pat.eta (v:Pat):Pat.mk v.op v.ctor v.n v.m v.var v.kids=v:=by cases v;rfl
theorem Pat.cs_at' {pre:List Pat}{x:Pat}{rest xs:List Pat} (h:pre++x::rest=xs):(Pat.cs xs)[pre.length]?=some x.cc:=by rw[Pat.cs_eq,<-Pat.c_eq];exact zaH h
mutual
def zo9:Pat->Pat->Bool
 | .mk a0 a1 a2 a3 a4 ks,.mk b0 b1 b2 b3 b4 ls=>decide (a0=b0)&&(decide (a1=b1)&&(decide (a2=b2)&&(decide (a3=b3)&&(decide (a4=b4)&&zkP ks ls))))
def zkP:List Pat->List Pat->Bool
 | [],[]=>true
 |x::r,y::s=>zo9 x y&&zkP r s
 |_,_=>false
end
mutual
def Pat.ok:Pat->Prop
 | .mk _ _ _ _ _ ks=>ks.length<=1000000000000/\Pats.ok ks
def Pats.ok:List Pat->Prop
 | []=>True
 |v::r=>v.ok/\Pats.ok r
end
theorem Pats.ok_mem:∀ {l:List Pat},Pats.ok l->∀v,v∈l->v.ok
 |x::r,h,v,hv=>by
  simp only[Pats.ok] at h;rcases List.mem_cons.1 hv with rfl|hv
  ·exact h.1
  ·exact Pats.ok_mem h.2 v hv
mutual
def Pat.size:Pat->Nat
 | .mk _ _ _ _ _ ks=>1+Pats.size ks
def Pats.size:List Pat->Nat
 | []=>0
 |v::r=>v.size+Pats.size r
end
theorem Pats.size_mem:∀ {l:List Pat}{v:Pat},v∈l->v.size<=Pats.size l
 |x::r,v,hv=>by
  simp only[Pats.size];rcases List.mem_cons.1 hv with rfl|hv
  ·omega
  ·have:=Pats.size_mem hv;omega
theorem zb5 {l:List Pat}{i:Nat} (h:i<l.length):(Pat.cs l)[i]?=some (nth l i).cc:=by
 rw[Pat.cs_eq,<-Pat.c_eq];exact zae h
theorem Pat.ok_iff (v:Pat):v.ok↔v.kids.length<=1000000000000/\Pats.ok v.kids:=by cases v;rfl
theorem Pat.size_eq (v:Pat):v.size=1+Pats.size v.kids:=by cases v;rfl
mutual
theorem zpa:∀v:Pat,zo9 v v=true
 | .mk _ _ _ _ _ ks=>by simp[zo9,zjz ks]
theorem zjz:∀l:List Pat,zkP l l=true
 | []=>rfl
 |v::r=>by simp[zkP,zpa v,zjz r]
end
theorem Pat.c_len (v:Pat):v.c.length=6:=by cases v;rfl
theorem Pat.cs_rows {l:List Pat}:∀x,x∈Pat.cs l->x.length=6:=by
 intro x hx;rw[Pat.cs_eq] at hx;obtain⟨y,_,rfl⟩:=List.mem_map.1 hx;exact y.c_len
mutual
def mPat:Pat->Nat
 | .mk _ _ _ _ _ ks=>zkI ks
def zkI:List Pat->Nat
 | []=>0
 |v::r=>1+mPat v+zkI r
end
mutual
def Pat.szM:Pat->Int
 | .mk _ _ _ _ _ ks=>5+Pats.szM ks
def Pats.szM:List Pat->Int
 | []=>0
 |v::r=>v.szM+Pats.szM r
end
mutual
def Pat.one (k:Int):Pat->Pat
 | .mk _ _ _ _ _ ks=> .mk k (k+1) (k+1+1) (k+1+1+1) (k+1+1+1+1) (Pats.one (k+1+1+1+1+1) ks)
def Pats.one (k:Int):List Pat->List Pat
 | []=>[]
 |v::r=>v.one k::Pats.one (k+v.szM) r
end
mutual
theorem Pat.szM_nn:∀v:Pat,0<=v.szM
 | .mk _ _ _ _ _ ks=>by have:=Pats.szM_nn ks;simp only[Pat.szM];omega
theorem Pats.szM_nn:∀l:List Pat,0<=Pats.szM l
 | []=>by simp[Pats.szM]
 |v::r=>by have:=Pat.szM_nn v;have:=Pats.szM_nn r;simp only[Pats.szM];omega
end
mutual
theorem Pat.szM_le:∀v:Pat,v.szM<=5+5*(mPat v:Int)
 | .mk _ _ _ _ _ ks=>by have:=Pats.szM_le ks;simp only[Pat.szM,mPat];omega
theorem Pats.szM_le:∀l:List Pat,Pats.szM l<=5*(zkI l:Int)
 | []=>by simp[Pats.szM,zkI]
 |v::r=>by have:=Pat.szM_le v;have:=Pats.szM_le r;simp only[Pats.szM,zkI];omega
end
structure Vt where
 var:Int
 ty:Ty
 deriving DecidableEq,Inhabited
abbrev Vt.c (t:Vt):List D:=[.i t.var,.i t.ty.data,.i t.ty.index]
abbrev zbt (l:List Vt):D:= .sl (l.map Vt.c)
def zaJ (w:List Data) (t:Ty):List Int:=if t.data = -1 then [] else zdq w t
def zah (w:List Data) (t:Ty) (p:Pat):List Ty:=if p.op=4 then zaq w t p.ctor else if p.op=5 then [t,t] else if p.op=6 then [t] else []
def ownP (w:List Data) (t:Ty) (p:Pat):Bool:=decide (((p.op=2\/p.op=6)->0<=p.var/\p.var<=5)/\(¬(p.op=2\/p.op=6)->p.var=0)/\(p.op≠3->p.n=0/\p.m=0)/\(p.op≠4->p.ctor=0)/\
 (p.op=1\/p.op=2\/p.op=5\/p.op=6\/(p.op=3/\t.data = -1/\0<=p.n/\p.n<=p.m/\p.m<=9)\/(p.op=4/\p.ctor∈zaJ w t)))
def okP (w:List Data) (t:Ty) (p:Pat):Bool:=ownP w t p&&decide (p.kids.length=(zah w t p).length)
def zds (w:List Data) (t:Ty) (p:Pat):List Ty:=if p.op=4/\p.ctor∉zaJ w t then [] else zah w t p
def zav (w:List Data):Nat->Ty->Pat->Bool
 |0,_,_=>false
 |n+1,t,p=>ownP w t p&&all2 (zav w n) (zah w t p) p.kids
def zaM (t:Ty) (p:Pat):List Vt:=if p.op=2\/p.op=6 then [⟨p.var,t⟩] else []
def zbc (f:Ty->Pat->List Vt):List Ty->List Pat->List Vt
 |a::r,b::s=>f a b++zbc f r s
 |_,_=>[]
def zdu (w:List Data) (t:Ty) (p:Pat):List Ty:=if p.op=5 then (zah w t p).take 1 else zah w t p
def zaE (w:List Data):Nat->Ty->Pat->List Vt
 |0,_,_=>[]
 |n+1,t,p=>zaM t p++zbc (zaE w n) (zdu w t p) p.kids
def zaV (l:List Vt) (n:Int):Int:=idxF (fun v=>decide (v.var=n)) l 0
def zdI (a b:List Vt):Bool:=a.all (fun v=>decide (0<=zaV b v.var/\(nth b (zaV b v.var).toNat).ty=v.ty))&&decide (a.length=b.length)
def zmP (l:List Vt):Bool:=(List.range l.length).all fun(i:Nat)=>decide (zaV l (nth l i).var=(i:Int))
def zec (a b:List Vt):Bool:=decide (a.length=b.length)&& !a.any fun v=> !decide (v∈b)
def zcs (l:List Vt):Bool:=decide (l.map Vt.var).Nodup
def linP (w:List Data):Nat->Ty->Pat->Bool
 |0,_,_=>true
 |n+1,t,p=>all2 (linP w n) (zah w t p) p.kids&&(if p.op=5 then zdI (zaE w n t (nth p.kids 0)) (zaE w n t (nth p.kids 1)) else zmP (zaE w (n+1) t p))
theorem zeU (l:List Vt) (n:Int):(zaV l n = -1/\∀v∈l,v.var≠n)\/∃k:Nat,zaV l n=k/\k<l.length/\(nth l k).var=n/\∀j,j<k->(nth l j).var≠n:=by
 have key:∀(l:List Vt) (i:Nat),(idxF (fun v=>decide (v.var=n)) l i = -1/\∀v∈l,v.var≠n)\/∃k:Nat,idxF (fun v=>decide (v.var=n)) l i=((i+k:Nat):Int)/\k<l.length/\(nth l k).var=n/\∀j,j<k->(nth l j).var≠n:=by
  intro l;induction l with
  |nil=>intro i;exact .inl ⟨rfl,by simp⟩
  |cons x r ih=>
   intro i;unfold idxF;by_cases h:x.var=n
   ·exact .inr ⟨0,by simp[h],by simp,by simpa [nth] using h,fun j hj=>absurd hj (by omega)⟩
   ·rcases ih (i+1) with ⟨h1,h2⟩|⟨k,h1,h2,h3,h4⟩
    ·exact .inl ⟨by simpa [h] using h1,fun v hv=>by rcases List.mem_cons.1 hv with rfl|hv;exact h;exact h2 v hv⟩
    ·refine .inr ⟨k+1, ?_,by simpa using h2,by simpa [nth] using h3,fun j hj=>?_⟩
     ·simp only[h,decide_false,Bool.false_eq_true,if_false];rw[h1];congr 1;omega
     ·cases j with
      |zero=>simpa [nth] using h
      |succ j=>simpa [nth] using h4 j (by omega)
 rcases key l 0 with h|⟨k,h1,h2⟩
 ·exact .inl h
 ·exact .inr ⟨k,by unfold zaV;simpa using h1,h2⟩
theorem zmd {l:List Vt}:(l.map Vt.var).Nodup↔∀i j,i<j->j<l.length->(nth l i).var≠(nth l j).var:=by
 unfold List.Nodup;rw[List.pairwise_iff_getElem];constructor
 ·intro h i j hij hj;have:=h i j (by simp;omega) (by simpa using hj) hij;simp only[List.getElem_map] at this;rw[zaL (by omega),zaL hj];exact this
 ·intro h i j hi hj hij;simp only[xac] at hi hj;simp only[List.getElem_map];rw[<-zaL hi,<-zaL hj];exact h i j hij hj
theorem ziG {l:List Vt} (h:(l.map Vt.var).Nodup){i j:Nat} (hi:i<l.length) (hj:j<l.length) (he:(nth l i).var=(nth l j).var):i=j:=by
 have h1:=zmd.1 h;rcases Nat.lt_trichotomy i j with h2|h2|h2
 ·exact absurd he (h1 i j h2 hj)
 ·exact h2
 ·exact absurd he.symm (h1 j i h2 hi)
theorem znq (l:List Vt):zmP l=zcs l:=by
 unfold zcs;by_cases h:(l.map Vt.var).Nodup
 ·rw[decide_eq_true h];refine zdn (fun i hi=>decide_eq_true ?_);rcases zeU l (nth l i).var with ⟨_,h2⟩|⟨k,h1,h2,h3,h4⟩
  ·exact absurd rfl (h2 _ (zaj hi))
  ·rw[h1,ziG h h2 hi h3]
 ·rw[decide_eq_false h];cases hd:zmP l with
  |false=>rfl
  |true=>
   refine absurd ?_ h;rw[zmd];intro i j hij hj he;have h1:=List.all_eq_true.1 hd i (List.mem_range.2 (by omega));have h2:=List.all_eq_true.1 hd j (List.mem_range.2 hj);simp only[decide_eq_true_eq] at h1 h2;rw[he,h2] at h1;omega
theorem zoR {a b:List Vt} (hb:zcs b=true):zdI a b=zec a b:=by
 unfold zcs at hb;simp only[decide_eq_true_eq] at hb;unfold zdI zec;rw[Bool.and_comm];congr 1
 rw[Bool.eq_iff_iff];simp only[List.all_eq_true,Bool.not_eq_true',List.any_eq_false,decide_eq_true_eq,Bool.not_eq_true,decide_eq_false_iff_not,Decidable.not_not];refine forall_congr' fun v=>forall_congr' fun hv=>?_;rcases zeU b v.var with ⟨h1,h2⟩|⟨k,h1,h2,h3,h4⟩
 ·rw[h1];exact⟨fun h=>absurd h.1 (by omega),fun h=>absurd rfl (h2 v h)⟩
 ·rw[h1];simp only[Int.toNat_natCast];constructor
  ·rintro ⟨_,h⟩
   have:nth b k=v:=by
    have e:∀x y:Vt,x.var=y.var->x.ty=y.ty->x=y:=fun x y h1 h2=>by cases x;cases y;simp_all
    exact e _ _ h3 h
   rw[<-this];exact zaj h2
  ·intro h;refine⟨by omega, ?_⟩;obtain⟨j,hj,he⟩:=List.getElem_of_mem h;have h5:nth b j=v:=by rw[zaL hj];exact he
   have:=ziG hb h2 hj (by rw[h3,h5]);rw[this,h5]
def zbj (g:Ty->Pat->Int->Option (List Vt)×Int) (or:Bool):List Ty->List Pat->Nat->List Vt->Int->Option (List Vt)×Int
 |a::r,b::s,i,acc,c=>match (g a b c).1 with
  |none=>(none,(g a b c).2)
  |some l=>if or=true/\i=1 then (if zec acc l=true then zbj g or r s (i+1) acc (g a b c).2 else (none,(g a b c).2)) else zbj g or r s (i+1) (acc++l) (g a b c).2
 |_,_,_,acc,c=>(some acc,c)
def finV (r:Option (List Vt)×Int):Option (List Vt)×Int:=match r.1 with
 |none=>r
 |some l=>if zcs l=true then r else (none,r.2)
def zaK (w:List Data):Nat->Ty->Pat->Int->Option (List Vt)×Int
 |0,_,_,c=>(none,c+1)
 |n+1,t,p,c=>if 60<c+1 then (none,c+1) else if okP w t p=true then finV (zbj (zaK w n) (decide (p.op=5)) (zah w t p) p.kids 0 (zaM t p) (c+1)) else (none,c+1)
def zbM (w:List Data) (n:Nat) (t:Ty) (p:Pat) (c:Int):Bool:=zav w n t p&&(decide (c+(p.size:Int)<=60)&&linP w n t p)
theorem zgO (w:List Data):∀(n:Nat) (t:Ty) (p:Pat),zav w n t p=true->linP w n t p=true->zcs (zaE w n t p)=true
 |0,t,p,h,_=>by simp[zav] at h
 |n+1,t,p,h,hl=>by
  by_cases h5:p.op=5
  ·simp only[zav,linP,xad,if_pos h5] at h hl;have e1:zah w t p=[t,t]:=by unfold zah;rw[if_neg (by omega),if_pos h5]
   rw[e1] at h hl;rcases hk:p.kids with _|⟨x,_|⟨y,_|⟨z,r⟩⟩⟩
   ·rw[hk] at h;simp[all2] at h
   ·rw[hk] at h;simp[all2] at h
   ·rw[hk] at h hl;simp only[all2,xad,and_true] at h hl;have:=zgO w n t x h.2.1 hl.1.1;have e2:zaE w (n+1) t p=zaE w n t x:=by
     simp only[zaE,zaM,zdu,e1,hk,if_pos h5];rw[if_neg (by omega)];simp[zbc]
    rw[e2];exact this
   ·rw[hk] at h;simp[all2] at h
  ·simp only[linP,if_neg h5,xad] at hl;rw[<-znq];exact hl.2
theorem zn1 {w:List Data}{n:Nat} (ih:∀t p c,((zaK w n t p c).1=if zbM w n t p c=true then some (zaE w n t p) else none)/\(zbM w n t p c=true->(zaK w n t p c).2=c+p.size)):
  ∀(a:List Ty) (b:List Pat) (i:Nat) (acc:List Vt) (c:Int),a.length=b.length->c<=60->
   ((zbj (zaK w n) false a b i acc c).1=if (all2 (zav w n) a b&&(decide (c+(Pats.size b:Int)<=60)&&all2 (linP w n) a b))=true then some (acc++zbc (zaE w n) a b) else none)/\
   ((all2 (zav w n) a b&&(decide (c+(Pats.size b:Int)<=60)&&all2 (linP w n) a b))=true->(zbj (zaK w n) false a b i acc c).2=c+Pats.size b)
 | [],[],i,acc,c,_,hc=>by simp[zbj,all2,Pats.size,zbc,hc]
 |x::r,y::s,i,acc,c,hl,hc=>by
  obtain⟨h1,h2⟩:=ih x y c;have hps:Pats.size (y::s)=y.size+Pats.size s:=rfl;simp only[zbj,zbc];by_cases hw:zbM w n x y c=true
  ·have h3:=h2 hw;rw[if_pos hw] at h1;rw[h1];simp only[Bool.false_eq_true,false_and,if_false];have h4:=hw;simp only[zbM,xad,decide_eq_true_eq] at h4;obtain⟨h5,h6⟩:=zn1 ih r s (i+1) (acc++zaE w n x y) (zaK w n x y c).2 (by simpa using hl) (by omega);have e:(all2 (zav w n) (x::r) (y::s)&&(decide (c+(Pats.size (y::s):Int)<=60)&&all2 (linP w n) (x::r) (y::s)))=(all2 (zav w n) r s&&(decide ((zaK w n x y c).2+(Pats.size s:Int)<=60)&&all2 (linP w n) r s)):=by
    rw[all2,all2,h4.1,h4.2.2,h3];simp only[Bool.true_and];congr 2
    exact decide_eq_decide.2 (by omega)
   rw[e];refine⟨?_,fun hx=>?_⟩
   ·rw[h5,List.append_assoc]
   ·rw[h6 hx,h3];omega
  ·rw[if_neg hw] at h1;rw[h1];simp only;have hf:¬(all2 (zav w n) (x::r) (y::s)&&(decide (c+(Pats.size (y::s):Int)<=60)&&all2 (linP w n) (x::r) (y::s)))=true:=fun h=>by
    simp only[all2,xad,decide_eq_true_eq] at h;refine hw ?_;simp only[zbM,xad,decide_eq_true_eq];refine⟨h.1.1, ?_,h.2.2.1⟩;have:=h.2.1;omega
   rw[if_neg hf];exact⟨rfl,fun h=>absurd h hf⟩
 | [],_::_,_,_,_,hl,_=>by simp at hl
 |_::_,[],_,_,_,hl,_=>by simp at hl
theorem zfm (w:List Data):∀(n:Nat) (t:Ty) (p:Pat) (c:Int),((zaK w n t p c).1=if zbM w n t p c=true then some (zaE w n t p) else none)/\(zbM w n t p c=true->(zaK w n t p c).2=c+p.size)
 |0,t,p,c=>by simp[zaK,zbM,zav]
 |n+1,t,p,c=>by
  have hsz:=Pat.size_eq p;unfold zaK;by_cases h1:60<c+1
  ·have hf:¬zbM w (n+1) t p c=true:=fun h=>by
    simp only[zbM,xad,decide_eq_true_eq] at h;omega
   rw[if_pos h1,if_neg hf];exact⟨rfl,fun h=>absurd h hf⟩
  rw[if_neg h1];by_cases h2:okP w t p=true
  ·rw[if_pos h2];have h2':=h2;simp only[okP,xad,decide_eq_true_eq] at h2';by_cases h5:p.op=5
   ·have e1:zah w t p=[t,t]:=by unfold zah;rw[if_neg (by omega),if_pos h5]
    have e3:zaM t p=[]:=by unfold zaM;rw[if_neg (by omega)]
    rw[e1] at h2';rcases hk:p.kids with _|⟨x,_|⟨y,_|⟨z,r⟩⟩⟩
    ·rw[hk] at h2';simp at h2'
    ·rw[hk] at h2';simp at h2'
    ·have e4:zaE w (n+1) t p=zaE w n t x:=by
      simp only[zaE,zdu,e1,hk,if_pos h5,e3];simp[zbc]
     have e5:zbM w (n+1) t p c=((zav w n t x&&zav w n t y)&&(decide (c+1+(x.size:Int)+y.size<=60)&&((linP w n t x&&linP w n t y)&&zdI (zaE w n t x) (zaE w n t y)))):=by
      simp only[zbM,zav,linP,h2'.1,e1,hk,all2,if_pos h5,Bool.and_true,Bool.true_and,nth,List.getD_cons_zero,List.getD_cons_succ];congr 2
      refine decide_eq_decide.2 ?_;rw[hsz,hk];simp only[Pats.size];push_cast;omega
     rw[e4,e5,e1,e3];obtain⟨a1,a2⟩:=zfm w n t x (c+1);simp only[zbj,h5,decide_true];by_cases w1:zbM w n t x (c+1)=true
     ·have a3:=a2 w1;rw[if_pos w1] at a1;have b1:=w1;simp only[zbM,xad,decide_eq_true_eq] at b1;obtain⟨d1,d2⟩:=zfm w n t y (zaK w n t x (c+1)).2;rw[a1];simp only[true_and,Nat.zero_ne_one,if_false,List.nil_append];by_cases w2:zbM w n t y (zaK w n t x (c+1)).2=true
      ·have d3:=d2 w2;rw[if_pos w2] at d1;have b2:=w2;simp only[zbM,xad,decide_eq_true_eq] at b2;rw[d1];simp only[Nat.zero_add,if_true];have n1:=zgO w n t x b1.1 b1.2.2;have n2:=zgO w n t y b2.1 b2.2.2;have e6:((zav w n t x&&zav w n t y)&&(decide (c+1+(x.size:Int)+y.size<=60)&&((linP w n t x&&linP w n t y)&&zdI (zaE w n t x) (zaE w n t y))))=zec (zaE w n t x) (zaE w n t y):=by
        rw[b1.1,b2.1,b1.2.2,b2.2.2,zoR n2,decide_eq_true (by omega)];simp
       rw[e6];by_cases hs:zec (zaE w n t x) (zaE w n t y)=true
       ·rw[if_pos hs,if_pos hs];simp only[finV,n1,if_true];refine⟨trivial,fun _=>?_⟩;rw[d3,a3,hsz,hk];simp only[Pats.size];push_cast;omega
       ·rw[if_neg hs,if_neg hs];simp only[finV];exact⟨trivial,fun h=>absurd h hs⟩
      ·rw[if_neg w2] at d1;rw[d1];simp only[finV];have hf:¬((zav w n t x&&zav w n t y)&&(decide (c+1+(x.size:Int)+y.size<=60)&&((linP w n t x&&linP w n t y)&&zdI (zaE w n t x) (zaE w n t y))))=true:=fun h=>by
        simp only[xad,decide_eq_true_eq] at h;refine w2 ?_;simp only[zbM,xad,decide_eq_true_eq];exact⟨h.1.2,by omega,h.2.2.1.2⟩
       rw[if_neg hf];exact⟨rfl,fun h=>absurd h hf⟩
     ·rw[if_neg w1] at a1;rw[a1];simp only[finV];have hf:¬((zav w n t x&&zav w n t y)&&(decide (c+1+(x.size:Int)+y.size<=60)&&((linP w n t x&&linP w n t y)&&zdI (zaE w n t x) (zaE w n t y))))=true:=fun h=>by
       simp only[xad,decide_eq_true_eq] at h;refine w1 ?_;simp only[zbM,xad,decide_eq_true_eq];exact⟨h.1.1,by omega,h.2.2.1.1⟩
      rw[if_neg hf];exact⟨rfl,fun h=>absurd h hf⟩
    ·rw[hk] at h2';simp at h2'
   ·have e0:(decide (p.op=5))=false:=decide_eq_false h5;rw[e0];obtain⟨a1,a2⟩:=zn1 (fun t p c=>zfm w n t p c) (zah w t p) p.kids 0 (zaM t p) (c+1) h2'.2.symm (by omega);have e4:zaE w (n+1) t p=zaM t p++zbc (zaE w n) (zah w t p) p.kids:=by simp only[zaE,zdu,if_neg h5]
    have e5:zbM w (n+1) t p c=((all2 (zav w n) (zah w t p) p.kids&&(decide (c+1+(Pats.size p.kids:Int)<=60)&&all2 (linP w n) (zah w t p) p.kids))&&zcs (zaE w (n+1) t p)):=by
     have:decide (c+(p.size:Int)<=60)=decide (c+1+(Pats.size p.kids:Int)<=60):=decide_eq_decide.2 (by omega);simp only[zbM,zav,linP,h2'.1,if_neg h5,Bool.true_and,znq,this,Bool.and_assoc]
    rw[e5];by_cases hw:(all2 (zav w n) (zah w t p) p.kids&&(decide (c+1+(Pats.size p.kids:Int)<=60)&&all2 (linP w n) (zah w t p) p.kids))=true
    ·rw[if_pos hw,<-e4] at a1;have a3:=a2 hw;rw[hw,Bool.true_and];unfold finV;rw[a1];by_cases hn:zcs (zaE w (n+1) t p)=true
     ·simp only[hn,if_true];exact⟨a1,fun _=>by rw[a3];omega⟩
     ·simp only[hn,Bool.false_eq_true,if_false];exact⟨trivial,fun h=>absurd h (by simp)⟩
    ·rw[if_neg hw] at a1;have hw':(all2 (zav w n) (zah w t p) p.kids&&(decide (c+1+(Pats.size p.kids:Int)<=60)&&all2 (linP w n) (zah w t p) p.kids))=false:=by simpa using hw
     rw[hw',Bool.false_and];unfold finV;rw[a1];simp[a1]
  ·have hf:¬zbM w (n+1) t p c=true:=fun h=>by
    simp only[zbM,zav,xad,decide_eq_true_eq] at h;refine h2 ?_;simp only[okP,xad,decide_eq_true_eq];refine⟨h.1.1, ?_⟩;by_cases hl:(zah w t p).length=p.kids.length
    ·exact hl.symm
    ·have:=zgn (f:=zav w n) hl;rw[this] at h;simp at h
   rw[if_neg h2,if_neg hf];exact⟨rfl,fun h=>absurd h hf⟩
mutual
def cntP (m:Int):Pat->Int
 | .mk _ _ _ _ _ ks=>zcY m 1 ks
def zcY (m n:Int):List Pat->Int
 | []=>n
 |k::r=>if n<=m then zcY m (n+cntP (m-n) k) r else n
end
theorem zr1 (m:Int) (v:Pat):cntP m v=zcY m 1 v.kids:=by cases v;rfl
theorem zkv {m n:Int}{l:List Pat} (h:¬n<=m):zcY m n l=n:=by cases l<;>simp[zcY,h]
mutual
theorem zi7:∀(v:Pat) (m:Int),1<=cntP m v/\cntP m v<=v.size
 | .mk _ _ _ _ _ ks,m=>by
  have:=zjF ks m 1 (by omega);simp only[cntP,Pat.size];push_cast;omega
theorem zjF:∀(l:List Pat) (m n:Int),1<=n->1<=zcY m n l/\zcY m n l<=n+Pats.size l
 | [],m,n,h=>by simp[zcY,Pats.size];omega
 |k::r,m,n,h=>by
  have h1:=zi7 k (m-n);have h2:=zjF r m (n+cntP (m-n) k) (by omega);simp only[zcY,Pats.size];split
  ·push_cast;omega
  ·push_cast;omega
end
mutual
theorem znl:∀(v:Pat) (m:Int),(cntP m v<=m↔(v.size:Int)<=m)/\(cntP m v<=m->cntP m v=v.size)
 | .mk _ _ _ _ _ ks,m=>by
  have:=zlR ks m 1;simp only[cntP,Pat.size];push_cast;exact this
theorem zlR:∀(l:List Pat) (m n:Int),(zcY m n l<=m↔n+(Pats.size l:Int)<=m)/\(zcY m n l<=m->zcY m n l=n+Pats.size l)
 | [],m,n=>by simp[zcY,Pats.size]
 |k::r,m,n=>by
  have h1:=znl k (m-n);have h2:=zlR r m (n+cntP (m-n) k);have h3:=zjF r m (n+cntP (m-n) k);have h4:=zi7 k (m-n);simp only[zcY,Pats.size];push_cast
  by_cases hn:n<=m
  ·rw[if_pos hn];by_cases h5:cntP (m-n) k<=m-n
   ·have h6:=h1.2 h5;rw[h6] at h2 ⊢;constructor
    ·rw[h2.1];constructor<;>intro h<;>omega
    ·intro h;rw[h2.2 h];omega
   ·have h7:¬(k.size:Int)<=m-n:=fun h=>h5 (h1.1.2 h);have h8:¬n+cntP (m-n) k<=m:=by omega
    rw[zkv h8];constructor
    ·constructor<;>intro h<;>omega
    ·intro h;omega
  ·rw[if_neg hn];constructor
   ·constructor<;>intro h<;>omega
   ·intro h;omega
end
theorem Pats.size_split {pre rest l:List Pat}{y:Pat} (h:pre++y::rest=l):Pats.size l=Pats.size pre+y.size+Pats.size rest:=by
 subst h;induction pre with
 |nil=>simp[Pats.size]
 |cons x r ih=>simp only[xag,Pats.size,ih];omega
theorem zeO {l:List Pat}{i:Nat} (h:i<l.length):(nth l i).size<=Pats.size l:=Pats.size_mem (zaj h)
theorem zkQ {l:List Pat}{i:Nat} (h:i<l.length):Pats.size (l.drop i)=(nth l i).size+Pats.size (l.drop (i+1)):=by
 rw[zbd h];rfl
theorem ze4:∀(n:Nat){v:Pat}{m:Int},v.size<=n->v.size<=1000000000000->v.ok->0<=m->m<=1000000000000->FnD Tryz.prog 244 [.agg [.d (.i v.op),.d (.i v.ctor),.d (.i v.n),.d (.i v.m),.d (.i v.var),.d (zaQ v.kids)],.d (.i m)] [] (.d (.i (cntP m v))) []
 |0,v,m,h,_,_,_,_=>by rw[Pat.size_eq] at h;omega
 |n+1,v,m,h,hb,hok,m0,m1=>by
  rw[Pat.size_eq] at h hb;rw[Pat.ok_iff] at hok;rw[zr1];refine bd Tryz.f244 31 [] [] fun w0 F0 own kept hk=>?_;refine bx 3002 ?_;refine ev ?_;refine xak (ι:=Nat×Int) hk (fun x=>[(6,.d (.i (x.1:Int))),(5,.d (.i x.2))]) [7,8,9,10,11,12,13,14,15,16,17,18,19,20,21,22,23,24,25,26,27,28,29] (fun x=>[]) (fun x=>x.1<=v.kids.length/\zcY m x.2 (v.kids.drop x.1)=zcY m 1 v.kids/\1<=x.2/\x.2+Pats.size (v.kids.drop x.1)<=1+Pats.size v.kids) (fun x=>v.kids.length-x.1) (0,1) ⟨by simp,by simp,by simp,by simp⟩ ⟨⟨_,rfl,xap ?_⟩,⟨⟨_,rfl,xap ?_⟩,trivial⟩⟩ trivial (fun x=>rfl) (fun x hg1=>?_);iterate 2 focus (rfl)
  refine evc [] [] ?_;refine sq ?_ ?_<;>intro h1 h1p h1s<;>(try simp only[Q,Pat.cs_len] at h1p);refine sq ?_ ?_<;>intro h2 h2p h2s<;>(try simp only[Q,Pat.cs_len] at h2p);refine Walk.idx sl72 .none rfl rfl rfl rfl (zb5 (by omega)) rfl ?_;refine ev ?_;refine ar ?_ (by(constructor<;>omega));refine wc znf (ze4 n (v:=nth v.kids x.1) (by have:=zeO (l:=v.kids) (i:=x.1) (by omega);omega) (by have:=zeO (l:=v.kids) (i:=x.1) (by omega);omega) (Pats.ok_mem hok.2 _ (zaj (by omega))) (by omega) (by omega)) rfl rfl ?_;refine ev ?_;refine ar ?_ (by(have hz:=zi7 (nth v.kids x.1) (m-x.2);have hs:=zkQ (l:=v.kids) (i:=x.1) (by omega);constructor<;>omega));refine ar ?_ (by(constructor<;>omega));refine xah ((x.1+1,x.2+cntP (m-x.2) (nth v.kids x.1))) ⟨(by
      have hz:=zi7 (nth v.kids x.1) (m-x.2);have hs:=zkQ (l:=v.kids) (i:=x.1) (by omega);refine⟨by dsimp only;omega, ?_,by dsimp only;omega,by dsimp only;omega⟩;rw[<-hg1.2.1,zbd (l:=v.kids) (i:=x.1) (by omega),zcY,if_pos (by omega)]),(by dsimp only;omega),sx ⟨⟨_,rfl,xap ?_⟩,⟨⟨_,rfl,xap ?_⟩,trivial⟩⟩ trivial⟩
  iterate 2 focus (rfl)
  refine rq ?_;rotate_left;refine sqF ?_;refine rq ?_;rotate_left;all_goals (refine congrArg D.i ?_;rw[<-hg1.2.1];first|(rw[List.drop_eq_nil_of_le (by omega)];rfl)|(rw[zkv (by omega)]))
end Go.Proofs.YtmchfdpleibpdaaGreat
namespace Go.Proofs.YtmchfdpleibpdaaGreat
open Go
set_option linter.unusedSimpArgs false
set_option linter.unusedVariables false
set_option maxRecDepth 100000
set_option maxHeartbeats 4000000
theorem zgZ {w:List Data}{d:Nat}{k:Int}:zaJ w ⟨d,k⟩=zdq w ⟨d,k⟩:=by unfold zaJ;rw[if_neg (by simp only;omega)]
theorem zgf {w:List Data}{k:Int}:zaJ w ⟨-1,k⟩=[]:=by unfold zaJ;rw[if_pos rfl]
theorem ze8 {w:List Data} (hw:WT w){a k:Int} (ht:TyIn w.length ⟨a,k⟩):(zaJ w ⟨a,k⟩).length<=1000000000000:=by
 rcases ht with ha|⟨d,hd,hlt⟩
 ·simp only at ha;subst ha;rw[zgf];exact Nat.zero_le _
 ·simp only at hd;subst hd;rw[zgZ];exact zof hw
theorem zbA {w:List Data}{a k c:Int} (ht:TyIn w.length ⟨a,k⟩) (h:c∈zaJ w ⟨a,k⟩):∃d:Nat,a=d/\d<w.length/\PlaceIn w d c:=by
 rcases ht with ha|⟨d,hd,hlt⟩
 ·simp only at ha;subst ha;rw[zgf] at h;simp at h
 ·simp only at hd;subst hd;rw[zgZ] at h;exact⟨d,rfl,hlt,zra h⟩
theorem zef {w:List Data} (hw:WT w){a k:Int}{p:Pat} (ht:TyIn w.length ⟨a,k⟩) (h:ownP w ⟨a,k⟩ p=true):∀t∈zah w ⟨a,k⟩ p,TyIn w.length t:=by
 intro t hm;unfold zah at hm;split at hm
 ·rename_i h4;unfold ownP at h;have h':=of_decide_eq_true h;have hc:p.ctor∈zaJ w ⟨a,k⟩:=by
   rcases h'.2.2.2.2 with h|h|h|h|h|h
   ·omega
   ·omega
   ·omega
   ·omega
   ·omega
   ·exact h.2
  obtain⟨d,rfl,h1,h2⟩:=zbA ht hc;exact zim hw h1 h2 hm
 ·split at hm
  ·simp only[List.mem_cons,List.not_mem_nil,or_false] at hm;rcases hm with rfl|rfl<;>exact ht
  ·split at hm
   ·simp only[List.mem_cons,List.not_mem_nil,or_false] at hm;subst hm;exact ht
   ·simp at hm
theorem zgd {w:List Data} (hw:WT w){a k:Int}{p:Pat} (ht:TyIn w.length ⟨a,k⟩) (h:p.op=4->p.ctor∈zaJ w ⟨a,k⟩):(zah w ⟨a,k⟩ p).length<=1000000000000:=by
 unfold zah;split
 ·rename_i h4;obtain⟨d,rfl,h1,h2⟩:=zbA ht (h h4);exact zkb hw h1 h2
 ·split
  ·simp
  ·split<;>simp
def zfv (op:Int):Int:=if op=5 then 2 else if op=6 then 1 else if op=4 then -1 else 0
theorem zlL {op:Int}:FnD Tryz.prog 190 [.d (.i op)] [] (.d (.i (zfv op))) []:=by
 refine bd Tryz.f190 10 [] [] fun w0 F0 own kept hk=>?_;refine sq ?_ ?_<;>intro h1 h1p h1s;refine rq ?_;rotate_left;refine sq ?_ ?_<;>intro h2 h2p h2s;refine rq ?_;rotate_left;refine sq ?_ ?_<;>intro h3 h3p h3s;refine rq ?_;rotate_left;refine rq ?_;rotate_left;all_goals (refine congrArg D.i ?_;simp only[zfv];simp_all)
theorem zb7 {w:List Data} (hw:WT w){a k:Int} (ht:TyIn w.length ⟨a,k⟩):FnD Tryz.prog 145 [.d (zak w),.agg [.d (.i a),.d (.i k)]] [] (.d (zb4 (zaJ w ⟨a,k⟩))) []:=by
 rcases ht with ha|⟨d,hd,hlt⟩
 ·simp only at ha;subst ha;rw[zgf];exact zii
 ·simp only at hd;subst hd;rw[zgZ];exact zk6 hw hlt
theorem zcU {w:List Data} (hw:WT w){a k c:Int} (ht:TyIn w.length ⟨a,k⟩) (hc:c∈zaJ w ⟨a,k⟩):FnD Tryz.prog 146 [.d (zak w),.agg [.d (.i a),.d (.i k)],.d (.i c)] [] (.d (zbI (zaq w ⟨a,k⟩ c))) []:=by
 obtain⟨d,rfl,h1,h2⟩:=zbA ht hc;exact zlF hw h1 h2
theorem zfT {w:List Data} (hw:WT w){a k:Int}{p:Pat} (ht:TyIn w.length ⟨a,k⟩):
  FnD Tryz.prog 272 [.d (zak w),.agg [.d (.i a),.d (.i k)],.agg [.d (.i p.op),.d (.i p.ctor),.d (.i p.n),.d (.i p.m),.d (.i p.var),.d (zaQ p.kids)]] [] (.d (.bool (ownP w ⟨a,k⟩ p))) []:=by
 have hcl:=ze8 hw ht;refine bd Tryz.f272 96 [] [1,2,4,13] fun w0 F0 own kept hk=>?_;refine bx 3004 ?_;refine bx 3005 ?_;refine ev ?_;refine xam ?_;refine xau 8 [(15,.d (.bool (decide (p.op=2\/p.op=6))))] [8,9,10,11,12,13,14] ?_ ?_;refine ev ?_;refine sq ?_ ?_<;>intro h1 h1p h1s;exact jnb rfl;exact jnb rfl;refine xat ?_;refine ev ?_;refine xam ?_;refine xau 11 [(26,.d (.bool (decide ((p.op=2\/p.op=6)/\(p.var<0\/5<p.var)))))] [16,17,18,19,20,21,22,23,24,25] ?_ ?_;refine ev ?_;refine sq ?_ ?_<;>intro h2 h2p h2s;refine sq ?_ ?_<;>intro h3 h3p h3s;exact jnb rfl;exact jnb rfl;exact jnb rfl;refine xau 9 [(35,.d (.bool (decide ((p.op=2\/p.op=6)/\(p.var<0\/5<p.var)\/¬(p.op=2\/p.op=6)/\p.var≠0))))] [27,28,29,30,31,32,33,34] ?_ ?_;refine ev ?_;refine sq ?_ ?_<;>intro h4 h4p h4s;exact jnb rfl;refine sq ?_ ?_<;>intro h5 h5p h5s;exact jnb rfl;exact jnb rfl;refine xat ?_;refine tv ?_;refine sq ?_ ?_<;>intro h6 h6p h6s;refine rq ?_;rotate_left;refine xam ?_;refine xau 13 [(48,.d (.bool (decide (p.op≠3/\(p.n≠0\/p.m≠0)))))] [36,37,38,39,40,41,42,43,44,45,46,47] ?_ ?_;refine ev ?_;refine sq ?_ ?_<;>intro h7 h7p h7s;refine sq ?_ ?_<;>intro h8 h8p h8s;exact jnb rfl;exact jnb rfl;exact jnb rfl;refine xau 10 [(58,.d (.bool (decide (p.op≠3/\(p.n≠0\/p.m≠0)\/p.op≠4/\p.ctor≠0))))] [49,50,51,52,53,54,55,56,57] ?_ ?_;refine ev ?_;refine sq ?_ ?_<;>intro h9 h9p h9s;exact jnb rfl;refine sq ?_ ?_<;>intro h10 h10p h10s;exact jnb rfl;exact jnb rfl;refine xat ?_;refine tv ?_;refine sq ?_ ?_<;>intro h11 h11p h11s;refine rq ?_;rotate_left;refine sq ?_ ?_<;>intro h12 h12p h12s;refine sq ?_ ?_<;>intro h13 h13p h13s;refine rq ?_;rotate_left;refine sq ?_ ?_<;>intro h14 h14p h14s;refine xam ?_;refine xau 8 [(75,.d (.bool (decide (a = -1/\0<=p.n))))] [68,69,70,71,72,73,74] ?_ ?_;refine ev ?_;refine sq ?_ ?_<;>intro h15 h15p h15s;exact jnb rfl;exact jnb rfl;refine xau 7 [(82,.d (.bool (decide (a = -1/\0<=p.n/\p.n<=p.m))))] [76,77,78,79,80,81] ?_ ?_;refine ev ?_;refine sq ?_ ?_<;>intro h16 h16p h16s;exact jnb rfl;exact jnb rfl;refine xau 5 [(87,.d (.bool (decide (a = -1/\0<=p.n/\p.n<=p.m/\p.m<=9))))] [83,84,85,86] ?_ ?_;refine ev ?_;refine sq ?_ ?_<;>intro h17 h17p h17s;exact jnb rfl;exact jnb rfl;refine xat ?_;refine ev ?_;refine rq ?_;rotate_left;refine sq ?_ ?_<;>intro h18 h18p h18s;refine wc zgp (zb7 hw ht) rfl rfl ?_;refine evd [] [] ?_;refine wc zhf (zcV hcl) rfl rfl ?_;refine evd [] [] ?_;refine dr ?_;refine rq ?_;rotate_left;refine rq ?_;rotate_left;refine sq ?_ ?_<;>intro h19 h19p h19s;refine sq ?_ ?_<;>intro h20 h20p h20s;refine rq ?_;rotate_left;refine sq ?_ ?_<;>intro h21 h21p h21s;refine xam ?_;refine xau 8 [(75,.d (.bool (decide (a = -1/\0<=p.n))))] [68,69,70,71,72,73,74] ?_ ?_;refine ev ?_;refine sq ?_ ?_<;>intro h22 h22p h22s;exact jnb rfl;exact jnb rfl;refine xau 7 [(82,.d (.bool (decide (a = -1/\0<=p.n/\p.n<=p.m))))] [76,77,78,79,80,81] ?_ ?_;refine ev ?_;refine sq ?_ ?_<;>intro h23 h23p h23s;exact jnb rfl;exact jnb rfl;refine xau 5 [(87,.d (.bool (decide (a = -1/\0<=p.n/\p.n<=p.m/\p.m<=9))))] [83,84,85,86] ?_ ?_;refine ev ?_;refine sq ?_ ?_<;>intro h24 h24p h24s;exact jnb rfl;exact jnb rfl;refine xat ?_;refine ev ?_;refine rq ?_;rotate_left;refine sq ?_ ?_<;>intro h25 h25p h25s;refine wc zgp (zb7 hw ht) rfl rfl ?_;refine evd [] [] ?_;refine wc zhf (zcV hcl) rfl rfl ?_;refine evd [] [] ?_;refine dr ?_;refine rq ?_;rotate_left;refine rq ?_;rotate_left;refine sq ?_ ?_<;>intro h26 h26p h26s;refine sq ?_ ?_<;>intro h27 h27p h27s;refine rq ?_;rotate_left;refine sq ?_ ?_<;>intro h28 h28p h28s;refine xam ?_;refine xau 8 [(75,.d (.bool (decide (a = -1/\0<=p.n))))] [68,69,70,71,72,73,74] ?_ ?_;refine ev ?_;refine sq ?_ ?_<;>intro h29 h29p h29s;exact jnb rfl;exact jnb rfl;refine xau 7 [(82,.d (.bool (decide (a = -1/\0<=p.n/\p.n<=p.m))))] [76,77,78,79,80,81] ?_ ?_;refine ev ?_;refine sq ?_ ?_<;>intro h30 h30p h30s;exact jnb rfl;exact jnb rfl;refine xau 5 [(87,.d (.bool (decide (a = -1/\0<=p.n/\p.n<=p.m/\p.m<=9))))] [83,84,85,86] ?_ ?_;refine ev ?_;refine sq ?_ ?_<;>intro h31 h31p h31s;exact jnb rfl;exact jnb rfl;refine xat ?_;refine ev ?_;refine rq ?_;rotate_left;refine sq ?_ ?_<;>intro h32 h32p h32s;refine wc zgp (zb7 hw ht) rfl rfl ?_;refine evd [] [] ?_;refine wc zhf (zcV hcl) rfl rfl ?_;refine evd [] [] ?_;refine dr ?_;refine rq ?_;rotate_left;refine rq ?_;rotate_left;refine sq ?_ ?_<;>intro h33 h33p h33s;refine rq ?_;rotate_left;refine sq ?_ ?_<;>intro h34 h34p h34s;refine xam ?_;refine xau 8 [(75,.d (.bool (decide (a = -1/\0<=p.n))))] [68,69,70,71,72,73,74] ?_ ?_;refine ev ?_;refine sq ?_ ?_<;>intro h35 h35p h35s;exact jnb rfl;exact jnb rfl;refine xau 7 [(82,.d (.bool (decide (a = -1/\0<=p.n/\p.n<=p.m))))] [76,77,78,79,80,81] ?_ ?_;refine ev ?_;refine sq ?_ ?_<;>intro h36 h36p h36s;exact jnb rfl;exact jnb rfl;refine xau 5 [(87,.d (.bool (decide (a = -1/\0<=p.n/\p.n<=p.m/\p.m<=9))))] [83,84,85,86] ?_ ?_;refine ev ?_;refine sq ?_ ?_<;>intro h37 h37p h37s;exact jnb rfl;exact jnb rfl;refine xat ?_;refine ev ?_;refine rq ?_;rotate_left;refine sq ?_ ?_<;>intro h38 h38p h38s;refine wc zgp (zb7 hw ht) rfl rfl ?_;refine evd [] [] ?_;refine wc zhf (zcV hcl) rfl rfl ?_;refine evd [] [] ?_;refine dr ?_;refine rq ?_;rotate_left;refine rq ?_;rotate_left;all_goals (refine congrArg D.bool ?_;unfold ownP;rw[Bool.eq_iff_iff];by_cases hmem:p.ctor∈zaJ w ⟨a,k⟩<;>(simp only[hmem,and_true,and_false,or_false,decide_eq_true_eq,xad,Bool.false_eq_true,true_iff,false_iff];simp only[decide_eq_true_eq,decide_eq_false_iff_not] at *;omega))
theorem zc7 {w:List Data} (hw:WT w){a k:Int}{p:Pat} (ht:TyIn w.length ⟨a,k⟩) (h:p.op=4->p.ctor∈zaJ w ⟨a,k⟩):
  FnD Tryz.prog 136 [.d (zak w),.agg [.d (.i a),.d (.i k)],.agg [.d (.i p.op),.d (.i p.ctor),.d (.i p.n),.d (.i p.m),.d (.i p.var),.d (zaQ p.kids)]] [] (.d (zbI (zah w ⟨a,k⟩ p))) []:=by
 by_cases h4:p.op=4
 ·have e:zah w ⟨a,k⟩ p=zaq w ⟨a,k⟩ p.ctor:=by unfold zah;rw[if_pos h4]
  rw[e];refine bd Tryz.f136 30 [] [] fun w0 F0 own kept hk=>?_;refine bx 3004 ?_;refine bx 3005 ?_;refine ev ?_;refine sq ?_ ?_<;>intro h1 h1p h1s;refine wc zbT (zcU hw ht (h h4)) rfl rfl ?_;refine ev ?_;refine rq ?_;rotate_left;exfalso;simp_all;all_goals (rfl)
 ·have e:zah w ⟨a,k⟩ p=List.replicate (zfv p.op).toNat ⟨a,k⟩:=by
   unfold zah zfv;rw[if_neg h4];by_cases h5:p.op=5
   ·rw[if_pos h5,if_pos h5];rfl
   ·rw[if_neg h5,if_neg h5];by_cases h6:p.op=6
    ·rw[if_pos h6,if_pos h6];rfl
    ·rw[if_neg h6,if_neg h6,if_neg h4];rfl
  have hb:0<=zfv p.op/\zfv p.op<=2:=by unfold zfv;split<;>(try split)<;>(try split)<;>omega
  rw[e];refine bd Tryz.f136 30 [] [] fun w0 F0 own kept hk=>?_;refine bx 3004 ?_;refine bx 3005 ?_;refine ev ?_;refine sq ?_ ?_<;>intro h1 h1p h1s;exfalso;simp_all;refine xa6 5 zax .none rfl rfl ?_;refine ev ?_;refine xak (ι:=Nat) hk (fun i=>[(8,.d (.i (i:Int))),(7,.gl 5 ((List.replicate i (⟨a,k⟩:Ty)).map Ty.c))]) [18,19,20,21,22,23,24,25,26,27,28] (fun i=>[(5,some (.tok (((List.replicate i (⟨a,k⟩:Ty)).map Ty.c)).length 2))]) (fun i=>(i:Int)<=zfv p.op) (fun i=>(zfv p.op).toNat-i) 0 (by omega) ⟨⟨_,rfl,xap ?_⟩,⟨⟨_,rfl,LeA.glg ?_⟩,trivial⟩⟩ ⟨zaf ?_,trivial⟩ (fun x=>rfl) (fun i hg1=>?_);iterate 3 focus (rfl)
  refine evc [] [] ?_;refine wc zsK (zlL) rfl rfl ?_;refine ev ?_;refine sq ?_ ?_<;>intro h2 h2p h2s<;>(try simp only[Q] at h2p);refine si [0] [_] zax tz29 ?_;refine ap zax zz29 rfl rfl rfl (by simp) (by simp;omega) ?_;refine ev ?_;refine ar ?_;refine xah (i+1) ⟨(by omega),(by omega),sx ⟨⟨_,rfl,xap ?_⟩,⟨⟨_,rfl,LeA.glg ?_⟩,trivial⟩⟩ ⟨zaf ?_,trivial⟩⟩;iterate 3 focus ((simp[List.replicate_succ'];done))
  refine rn0 (r1 rfl) (.gld ?_);rotate_left;all_goals ((obtain rfl:i=(zfv p.op).toNat:=by omega);simp)
theorem zc5 {w:List Data}{n:Nat}{t:Ty}{p:Pat} (h:zav w (n+1) t p=true):ownP w t p=true/\p.kids.length=(zah w t p).length:=by
 simp only[zav,xad] at h;refine⟨h.1, ?_⟩;by_cases hl:(zah w t p).length=p.kids.length
 ·exact hl.symm
 ·rw[zgn hl] at h;simp at h
theorem zcI {w:List Data}{t:Ty}{p:Pat} (h:ownP w t p=true):p.op=4->p.ctor∈zaJ w t:=by
 intro h4;unfold ownP at h;have h':=(of_decide_eq_true h).2.2.2.2;rcases h' with h|h|h|h|h|h
 ·omega
 ·omega
 ·omega
 ·omega
 ·omega
 ·exact h.2
theorem znK {w:List Data}{t:Ty}{p:Pat} (h:ownP w t p=true):(p.op=2\/p.op=6)->0<=p.var/\p.var<=5:=by
 unfold ownP at h;exact(of_decide_eq_true h).1
theorem ze5 {w:List Data} (hw:WT w):∀(n:Nat){a k m:Int}{p:Pat},m=n->n<=1000->TyIn w.length ⟨a,k⟩->p.ok->
  FnD Tryz.prog 243 [.d (zak w),.agg [.d (.i a),.d (.i k)],.agg [.d (.i p.op),.d (.i p.ctor),.d (.i p.n),.d (.i p.m),.d (.i p.var),.d (zaQ p.kids)],.d (.i m)] [] (.d (.bool (zav w n ⟨a,k⟩ p))) []
 |0,a,k,m,p,hm,_,ht,hok=>by
  refine bd Tryz.f243 50 [] [1] fun w0 F0 own kept hk=>?_;refine bx 3005 ?_;refine bx 3006 ?_;refine ev ?_;refine xam ?_;refine xau 9 [(19,.d (.bool (true)))] [11,12,13,14,15,16,17,18] ?_ ?_;refine ev ?_;refine sq ?_ ?_<;>intro h1 h1p h1s;exact jnb rfl;refine Walk.call (cr:=[]) zng (zfT hw ht) rfl (.some rfl rfl h1) rfl rfl (LeL.refl _) trivial rfl rfl rfl ?_;refine evs [] [(13,false)] ?_ ⟨⟨_,rfl,h1⟩,trivial⟩;exact jnb rfl;refine xat ?_;refine tv ?_;refine sq ?_ ?_<;>intro h2 h2p h2s;refine rq ?_;rotate_left;exact absurd h2 (by simp);all_goals (rfl)
 |n+1,a,k,m,p,hm,hn,ht,hok=>by
  rw[Pat.ok_iff] at hok;by_cases ho:ownP w ⟨a,k⟩ p=true
  ·have hin:=zef hw ht ho;have hlen:=zgd hw ht (zcI ho);refine bd Tryz.f243 50 [] [1] fun w0 F0 own kept hk=>?_;refine bx 3005 ?_;refine bx 3006 ?_;refine ev ?_;refine xam ?_;refine xau 9 [(19,.d (.bool (false)))] [11,12,13,14,15,16,17,18] ?_ ?_;refine ev ?_;refine sq ?_ ?_<;>intro h1 h1p h1s;exact jnb rfl;refine Walk.call (cr:=[]) zng (zfT hw ht) rfl (.some rfl rfl h1) rfl rfl (LeL.refl _) trivial rfl rfl rfl ?_;refine evs [] [(13,false)] ?_ ⟨⟨_,rfl,h1⟩,trivial⟩;exact jnb rfl;refine xat ?_;refine tv ?_;refine sq ?_ ?_<;>intro h2 h2p h2s;exact absurd h2 (by simp);refine wc zio (zc7 hw ht (zcI ho)) rfl rfl ?_;refine ev ?_;refine sq ?_ ?_<;>intro h3 h3p h3s;refine rq ?_;rotate_left;try simp only[Q,Pat.cs_len] at h3p
   refine xak (ι:=Nat) hk (fun i=>[(10,.d (.i (i:Int)))]) [8,30,31,32,33,34,35,36,37,38,39,40,41,42,43,44,45,46,47,48,49] (fun i=>[]) (fun i=>i<=(zah w ⟨a,k⟩ p).length/\∀i',i'<i->zav w n (nth (zah w ⟨a,k⟩ p) i') (nth p.kids i')=true) (fun i=>(zah w ⟨a,k⟩ p).length-i) 0 ⟨by omega,fun _ h=>absurd h (by omega)⟩ ⟨⟨_,rfl,xap ?_⟩,trivial⟩ trivial (fun x=>rfl) (fun i hg1=>?_);focus (first|(simp;done)|(simp_all;done))
   refine evc [] [1] ?_;refine sq ?_ ?_<;>intro h4 h4p h4s;try simp only[Q,Pat.cs_len] at h4p
   refine Walk.idx zax .none rfl rfl rfl rfl (zae (by omega)) rfl ?_;refine evd [] [] ?_;refine Walk.idx sl72 .none rfl rfl rfl rfl (zb5 (by omega)) rfl ?_;refine evd [] [] ?_;refine ar ?_;refine wc zne (ze5 hw n (by omega) (by omega) (hin _ (zaj (by omega))) (Pats.ok_mem hok.2 _ (zaj (by omega)))) rfl rfl ?_;refine evd [] [] ?_;refine dr ?_;refine sq ?_ ?_<;>intro h5 h5p h5s;refine rq ?_;rotate_left;try simp only[Q,Pat.cs_len] at h5p
   refine ar ?_;refine xah (i+1) ⟨⟨by omega,zaN hg1.2 (by assumption)⟩,(by omega),sx ⟨⟨_,rfl,xap ?_⟩,trivial⟩ trivial⟩;focus (first|(simp;done)|(simp_all;done))
   refine rq ?_;rotate_left;all_goals (refine congrArg D.bool ?_;unfold zav;rw[ho,Bool.true_and];first|(rw[zgn (by simp[Pat.cs_len] at *;omega)])|(rw[zdJ (by simp[Pat.cs_len] at *;omega) (fun x hx=>hg1.2 x (by simp[Pat.cs_len] at *;omega))])|(rw[zb2 (i:=i) (by simp[Pat.cs_len] at *;omega) (by simp[Pat.cs_len] at *;omega) (by assumption)]))
  ·have ho':ownP w ⟨a,k⟩ p=false:=by simpa using ho
   refine bd Tryz.f243 50 [] [1] fun w0 F0 own kept hk=>?_;refine bx 3005 ?_;refine bx 3006 ?_;refine ev ?_;refine xam ?_;refine xau 9 [(19,.d (.bool (true)))] [11,12,13,14,15,16,17,18] ?_ ?_;refine ev ?_;refine sq ?_ ?_<;>intro h1 h1p h1s;exact jnb rfl;refine Walk.call (cr:=[]) zng (zfT hw ht) rfl (.some rfl rfl h1) rfl rfl (LeL.refl _) trivial rfl rfl rfl ?_;refine evs [] [(13,false)] ?_ ⟨⟨_,rfl,h1⟩,trivial⟩;exact jnb rfl;refine xat ?_;refine tv ?_;refine sq ?_ ?_<;>intro h2 h2p h2s;refine rq ?_;rotate_left;exact absurd h2 (by simp);all_goals (refine congrArg D.bool ?_;unfold zav;rw[ho'];rfl)
theorem zcE {l:List Vt}{n:Int} (h:l.length<=1000000000000):FnD Tryz.prog 246 [.d (zbt l),.d (.i n)] [] (.d (.i (zaV l n))) []:=by
 refine bd Tryz.f246 20 [] [] fun w0 F0 own kept hk=>?_;refine xak (ι:=List (Vt)×List (Vt)) hk (fun x=>[(5,.d (.i (x.1.length:Int)))]) [4,6,7,8,9,10,11,12,13,14,15,16,17,18,19] (fun x=>[]) (fun x=>x.1++x.2=l/\idxF (fun v=>decide (v.var=n)) x.2 x.1.length=idxF (fun v=>decide (v.var=n)) l 0) (fun x=>x.2.length) ([],l) ⟨by simp,rfl⟩ ⟨⟨_,rfl,xap ?_⟩,trivial⟩ trivial (fun x=>rfl) (fun x hg1=>?_);focus (rfl)
 obtain⟨pre,rest⟩:=x;dsimp only at hg1 ⊢;refine evc [] [] ?_;refine sq ?_ ?_<;>intro h1 h1p h1s<;>(try simp only[Q] at h1p);rcases rest with _|⟨y,rest⟩
 ·exfalso;simp_all
 refine Walk.idx sl66 .none rfl rfl rfl rfl (zaH hg1.1) rfl ?_;refine ev ?_;refine sq ?_ ?_<;>intro h2 h2p h2s<;>(try simp only[Q] at h2p);focus (refine rq ?_;all_goals (refine congrArg D.i ?_;unfold zaV;rw[<-hg1.2];simp[idxF,h1s,h1p,h2s,h2p]))
 refine ar ?_;refine xah ((pre++[y],rest)) ⟨⟨(by have hz:=hg1.1;rw[<-hz];simp),(by rw[<-hg1.2];simp_all[idxF])⟩,(by simp),sx ⟨⟨_,rfl,xap ?_⟩,trivial⟩ trivial⟩;focus ((simp;done))
 have hrest:rest=[]:=by
  rcases rest with _|⟨a,b⟩
  ·rfl
  ·exfalso;have hz:=congrArg List.length (hg1.1);simp only[xaa,xab,xac] at hz;omega
 subst hrest;focus (refine rq ?_;all_goals (refine congrArg D.i ?_;unfold zaV;rw[<-hg1.2];simp[idxF,h1s,h1p]))
theorem zob {a b:List Vt}{i:Nat} (h:i<a.length) (h2:¬(0<=zaV b (nth a i).var/\(nth b (zaV b (nth a i).var).toNat).ty=(nth a i).ty)):zdI a b=false:=by
 unfold zdI;have:(a.all fun v=>decide (0<=zaV b v.var/\(nth b (zaV b v.var).toNat).ty=v.ty))=false:=List.all_eq_false.2 ⟨_,zaj h,by simpa using h2⟩;rw[this,Bool.false_and]
theorem zoS {a b:List Vt} (h:∀i,i<a.length->0<=zaV b (nth a i).var/\(nth b (zaV b (nth a i).var).toNat).ty=(nth a i).ty):zdI a b=decide (a.length=b.length):=by
 unfold zdI;have:(a.all fun v=>decide (0<=zaV b v.var/\(nth b (zaV b v.var).toNat).ty=v.ty))=true:=by
  rw[List.all_eq_true];intro v hv;obtain⟨j,hj,he⟩:=List.getElem_of_mem hv;have:=h j hj;rw[zaL hj,he] at this;exact decide_eq_true this
 rw[this,Bool.true_and]
theorem zgu {l:List Vt}{n:Int} (h:0<=zaV l n):(zaV l n).toNat<l.length/\((zaV l n).toNat:Int)=zaV l n:=by
 rcases zeU l n with ⟨h1,_⟩|⟨k,h1,h2,_⟩
 ·omega
 ·rw[h1];simpa using h2
theorem zqC {t u:Ty}:t=u↔t.data=u.data/\t.index=u.index:=by
 cases t;cases u;simp
theorem zlc {x y:List Vt} (hx:x.length<=1000000000000) (hy:y.length<=1000000000000):FnD Tryz.prog 273 [.d (zbt x),.d (zbt y)] [] (.d (.bool (zdI x y))) []:=by
 refine bd Tryz.f273 40 [33] [] fun w0 F0 own kept hk=>?_;refine xak (ι:=Nat) hk (fun i=>[(5,.d (.i (i:Int)))]) [4,6,7,8,9,10,11,12,13,14,15,16,17,18,19,20,21,22,23,24,25,26,27,28,29,30,31,32,33,34] (fun i=>[]) (fun i=>i<=x.length/\∀j,j<i->0<=zaV y (nth x j).var/\(nth y (zaV y (nth x j).var).toNat).ty=(nth x j).ty) (fun i=>x.length-i) 0 ⟨by omega,fun _ h=>absurd h (by omega)⟩ ⟨⟨_,rfl,xap ?_⟩,trivial⟩ trivial (fun x=>rfl) (fun i hg1=>?_);focus (rfl)
 refine evc [33] [] ?_;refine sq ?_ ?_<;>intro h1 h1p h1s<;>(try simp only[Q] at h1p);refine Walk.idx sl66 .none rfl rfl rfl rfl (zae (by omega)) rfl ?_;refine evs [33] [] ?_;refine wc zhe (zcE hy) rfl rfl ?_;refine evs [33] [] ?_;refine sq ?_ ?_<;>intro h2 h2p h2s<;>(try simp only[Q] at h2p);refine dr ?_;refine sqT ?_;refine rq ?_;rotate_left;refine Walk.idx (i:=(zaV y (nth x i).var).toNat) sl66 (.some rfl rfl h2) rfl rfl rfl (zgu (l:=y) (n:=(nth x i).var) (by omega)).2.symm (zae (by exact(zgu (l:=y) (n:=(nth x i).var) (by omega)).1)) rfl ?_;refine evd [33] [(22,false)] ?_ ⟨⟨_,rfl,h2⟩,trivial⟩;refine Walk.idx sl66 (.some rfl rfl h2) rfl rfl rfl rfl (zae (by omega)) rfl ?_;refine evd [33] [(22,false)] ?_ ⟨⟨_,rfl,h2⟩,trivial⟩;refine Walk.neV eq29 (.some rfl rfl h2) rfl rfl rfl rfl rfl ?_;refine evd [33] [(22,false)] ?_ ⟨⟨_,rfl,h2⟩,trivial⟩;refine dr ?_;refine sq ?_ ?_<;>intro h4 h4p h4s<;>(try simp only[Q] at h4p);refine rq ?_;rotate_left;refine ar ?_;refine xah (i+1) ⟨⟨by omega,zaN hg1.2 (by rw[zqC];first|omega|(simp at h4;omega))⟩,(by omega),sx ⟨⟨_,rfl,xap ?_⟩,trivial⟩ trivial⟩;focus (rfl)
 refine rq ?_;rotate_left;all_goals (refine congrArg D.bool ?_;first|(refine(zob (i:=i) (by omega) ?_).symm;simp only[zqC];first|omega|(simp at h4;omega))|(rw[zoS (fun j hj=>hg1.2 j (by simp at h1p;omega))];exact decide_eq_decide.2 (by simp;omega)))
theorem ziZ {f:Ty->Pat->List Vt} (hf:∀t p,(f t p).length<=p.size):∀(a:List Ty) (b:List Pat),(zbc f a b).length<=Pats.size b
 | [],[]=>by simp[zbc]
 | [],_::_=>by simp[zbc]
 |_::_,[]=>by simp[zbc]
 |x::r,y::s=>by
  have h1:=ziZ hf r s;have h2:=hf x y;simp only[zbc,xaa,Pats.size];omega
theorem zeh (w:List Data):∀(n:Nat) (t:Ty) (p:Pat),(zaE w n t p).length<=p.size
 |0,t,p=>by simp[zaE]
 |n+1,t,p=>by
  have h1:=ziZ (zeh w n) (zdu w t p) p.kids;have h2:(zaM t p).length<=1:=by unfold zaM;split<;>simp
  rw[Pat.size_eq];simp only[zaE,xaa];omega
theorem zh4 {f:Ty->Pat->List Vt}:∀ {a:List Ty}{b:List Pat}{i:Nat},i<a.length->i<b.length->zbc f (a.take (i+1)) (b.take (i+1))=zbc f (a.take i) (b.take i)++f (nth a i) (nth b i)
 |x::r,y::s,0,_,_=>by simp[zbc,nth]
 |x::r,y::s,i+1,h1,h2=>by
  have:=zh4 (f:=f) (a:=r) (b:=s) (i:=i) (by simpa using h1) (by simpa using h2);simp only[List.take_succ_cons,zbc];rw[this,List.append_assoc];rfl
theorem zln {f:Ty->Pat->List Vt}:∀ {a:List Ty}{b:List Pat}{i:Nat},zbc f (a.take i) (b.take i)=zbc f (a.take i) b
 | [],b,i=>by simp[zbc]
 |x::r,[],i=>by simp[zbc]
 |x::r,y::s,0=>by simp[zbc]
 |x::r,y::s,i+1=>by simp only[List.take_succ_cons,zbc];rw[zln]
theorem zn9 {f:Ty->Pat->List Vt} (hf:∀t p,(f t p).length<=p.size){a:List Ty}{b:List Pat}{i:Nat} (h:i<b.length):(zbc f (a.take i) (b.take i)).length+(nth b i).size<=Pats.size b:=by
 have h1:=ziZ hf (a.take i) (b.take i);have h2:=Pats.size_split (pre:=b.take i) (y:=nth b i) (rest:=b.drop (i+1)) (l:=b) (by rw[<-zbd h,List.take_append_drop]);omega
def zdt (w:List Data) (t:Ty) (p:Pat):Nat:=(zdu w t p).length
theorem zi0 (w:List Data) (t:Ty) (p:Pat):zdt w t p=if p.op=5 then 1 else (zah w t p).length:=by
 unfold zdt zdu;by_cases h5:p.op=5
 ·rw[if_pos h5,if_pos h5];have:zah w t p=[t,t]:=by unfold zah;rw[if_neg (by omega),if_pos h5]
  rw[this];rfl
 ·rw[if_neg h5,if_neg h5]
theorem zmt {w:List Data}{f:Ty->Pat->List Vt}{t:Ty}{p:Pat} (hl:p.kids.length=(zah w t p).length){i:Nat} (h:i=zdt w t p):zbc f ((zah w t p).take i) (p.kids.take i)=zbc f (zdu w t p) p.kids:=by
 subst h;rw[zln];congr 1
 rw[zi0];unfold zdu;by_cases h5:p.op=5
 ·rw[if_pos h5,if_pos h5]
 ·rw[if_neg h5,if_neg h5,List.take_length]
theorem zbL {w:List Data}{n:Nat}{t:Ty}{p:Pat} (h:zav w (n+1) t p=true){i:Nat} (hi:i<p.kids.length):zav w n (nth (zah w t p) i) (nth p.kids i)=true:=by
 have hl:=(zc5 h).2;cases hs:zav w n (nth (zah w t p) i) (nth p.kids i) with
 |true=>rfl
 |false=>
  have:=zb2 (f:=zav w n) (a:=zah w t p) (b:=p.kids) (i:=i) (by omega) hl.symm hs;simp only[zav,this,Bool.and_false] at h;cases h
theorem zep {w:List Data} (hw:WT w):∀(n:Nat){a k:Int}{p:Pat}{xs:List Vt},zav w n ⟨a,k⟩ p=true->n<=1000->TyIn w.length ⟨a,k⟩->p.ok->xs.length+p.size<=2000000000000->
  FnD Tryz.prog 80 [.gl 5 (xs.map Vt.c),.d (zak w),.agg [.d (.i a),.d (.i k)],.agg [.d (.i p.op),.d (.i p.ctor),.d (.i p.n),.d (.i p.m),.d (.i p.var),.d (zaQ p.kids)]] [(5,some (.tok (xs.map Vt.c).length 3))]
   (.gl 5 ((xs++zaE w n ⟨a,k⟩ p).map Vt.c)) [(5,some (.tok ((xs++zaE w n ⟨a,k⟩ p).map Vt.c).length 3))]
 |0,a,k,p,xs,hs,_,_,_,_=>by simp[zav] at hs
 |n+1,a,k,p,xs,hs,hn,ht,hok,hb=>by
  rw[Pat.ok_iff] at hok;rw[Pat.size_eq] at hb;obtain⟨ho,hl⟩:=zc5 hs;have hin:=zef hw ht ho;have hlen:=zgd hw ht (zcI ho);have hvc5:p.op=5->zdt w ⟨a,k⟩ p=1:=fun h=>by rw[zi0,if_pos h]
  have hvc:¬p.op=5->zdt w ⟨a,k⟩ p=(zah w ⟨a,k⟩ p).length:=fun h=>by rw[zi0,if_neg h]
  have hv2:zdt w ⟨a,k⟩ p<=p.kids.length:=by
   unfold zdt zdu;split
   ·rw[List.length_take];omega
   ·omega
  have e5:p.op=5->(zah w ⟨a,k⟩ p).length=2:=fun h5=>by unfold zah;rw[if_neg (by omega),if_pos h5];rfl
  have hnm:(zaM ⟨a,k⟩ p).length<=1:=by unfold zaM;split<;>simp
  refine bd Tryz.f80 58 [] [1,5,6] fun w0 F0 own kept hk=>?_;refine bx 3006 ?_;refine bx 3007 ?_;refine ev ?_;refine xam ?_;refine xau 8 [(18,.d (.bool (decide (p.op=2\/p.op=6))))] [11,12,13,14,15,16,17] ?_ ?_;refine ev ?_;refine sq ?_ ?_<;>intro h1 h1p h1s;exact jnb rfl;exact jnb rfl;refine xat ?_;refine tv ?_;refine sq ?_ ?_<;>intro h2 h2p h2s<;>(try simp only[Q,Pat.cs_len] at h2p);refine bu [0,1] [_,_] zpl ?_;refine si [0] [_] sl66 zmY ?_;refine ap sl66 zm0 rfl rfl rfl (by simp) (by simp;omega) ?_;refine ev ?_;refine wc zio (zc7 hw ht (zcI ho)) rfl rfl ?_;refine ev ?_;refine CWp.loopT 5 6 (ι:=Nat) hk (fun i=>[(0,.gl 5 ((xs++zaM ⟨a,k⟩ p++zbc (zaE w n) ((zah w ⟨a,k⟩ p).take i) (p.kids.take i)).map Vt.c)),(10,.d (.i (i:Int)))]) [30,31,32,33,34,35,36,37,38,39,40,41,42,43,44,45,46,47,48,49,50,51,52,53,54,55,56] (fun i=>[(5,some (.tok ((xs++zaM ⟨a,k⟩ p++zbc (zaE w n) ((zah w ⟨a,k⟩ p).take i) (p.kids.take i)).map Vt.c).length 3))]) (fun i=>i<=zdt w ⟨a,k⟩ p) (fun i=>zdt w ⟨a,k⟩ p-i) 0 (by omega) ⟨⟨_,rfl,LeA.glg ?_⟩,⟨⟨_,rfl,xap ?_⟩,trivial⟩⟩ ⟨zaf ?_,trivial⟩ (fun x=>rfl) (fun i hg1=>?_);iterate 3 focus ((simp[zbc,zaM, *];done))
  refine evc [] [1,5,6] ?_;refine xam ?_;refine xau 13 [(42,.d (.bool (decide (i<zdt w ⟨a,k⟩ p))))] [30,31,32,33,34,35,36,37,38,39,40,41] ?_ ?_;refine ev ?_;refine sq ?_ ?_<;>intro h3 h3p h3s;refine sq ?_ ?_<;>intro h4 h4p h4s;exact jnb rfl;exact jnb rfl;exact jnb rfl;refine xat ?_;refine tv ?_;refine sq ?_ ?_<;>intro h5 h5p h5s<;>(try simp only[Q,Pat.cs_len] at h5p);refine Walk.idx zax .none rfl rfl rfl rfl (zae (by omega)) rfl ?_;refine evd [] [] ?_;refine Walk.idx sl72 .none rfl rfl rfl rfl (zb5 (by omega)) rfl ?_;refine evd [] [] ?_;refine xaD 6 zfY (zep hw n (a:=(nth (zah w ⟨a,k⟩ p) i).data) (k:=(nth (zah w ⟨a,k⟩ p) i).index) (p:=nth p.kids i) (xs:=xs++zaM ⟨a,k⟩ p++zbc (zaE w n) ((zah w ⟨a,k⟩ p).take i) (p.kids.take i)) (zbL hs (by omega)) (by omega) (hin _ (zaj (by omega))) (Pats.ok_mem hok.2 _ (zaj (by omega))) (by have:=zn9 (zeh w n) (a:=zah w ⟨a,k⟩ p) (b:=p.kids) (i:=i) (by omega);simp only[xaa];omega)) rfl .none rfl rfl (.cons (.refl _) (.cons (.refl _) (.cons (.refl _) (.cons (.refl _) .nil)))) rfl (by rfl) ?_;refine evd [] [] ?_;refine dr ?_;refine CWp.retok 0 6 5 rfl rfl rfl rfl rfl ?_;refine evc [] [] ?_;refine ar ?_;refine xah (i+1) ⟨(by omega),(by omega),sx ⟨⟨_,rfl,LeA.glg ?_⟩,⟨⟨_,rfl,xap ?_⟩,trivial⟩⟩ ⟨zaf ?_,trivial⟩⟩;iterate 3 focus (first|rfl|(rw[zh4 (by omega) (by omega)];simp[List.append_assoc];done))
  refine rn [(5,some (.tok ((xs++zaE w (n+1) ⟨a,k⟩ p).map Vt.c).length 3))] (r1 rfl) (.glg ?_) ⟨rfl,rfl⟩ (SubO.get ⟨.inr ?_,⟨.inl rfl,trivial⟩⟩) (zaI rfl);rotate_left 2;refine wc zio (zc7 hw ht (zcI ho)) rfl rfl ?_;refine ev ?_;refine CWp.loopT 5 6 (ι:=Nat) hk (fun i=>[(0,.gl 5 ((xs++zaM ⟨a,k⟩ p++zbc (zaE w n) ((zah w ⟨a,k⟩ p).take i) (p.kids.take i)).map Vt.c)),(10,.d (.i (i:Int)))]) [30,31,32,33,34,35,36,37,38,39,40,41,42,43,44,45,46,47,48,49,50,51,52,53,54,55,56] (fun i=>[(5,some (.tok ((xs++zaM ⟨a,k⟩ p++zbc (zaE w n) ((zah w ⟨a,k⟩ p).take i) (p.kids.take i)).map Vt.c).length 3))]) (fun i=>i<=zdt w ⟨a,k⟩ p) (fun i=>zdt w ⟨a,k⟩ p-i) 0 (by omega) ⟨⟨_,rfl,LeA.glg ?_⟩,⟨⟨_,rfl,xap ?_⟩,trivial⟩⟩ ⟨zaf ?_,trivial⟩ (fun x=>rfl) (fun i hg1=>?_);iterate 3 focus ((simp[zbc,zaM, *];done))
  refine evc [] [1,5,6] ?_;refine xam ?_;refine xau 13 [(42,.d (.bool (decide (i<zdt w ⟨a,k⟩ p))))] [30,31,32,33,34,35,36,37,38,39,40,41] ?_ ?_;refine ev ?_;refine sq ?_ ?_<;>intro h6 h6p h6s<;>(try simp only[Q,Pat.cs_len] at h6p);refine sq ?_ ?_<;>intro h7 h7p h7s<;>(try simp only[Q,Pat.cs_len] at h7p);exact jnb rfl;exact jnb rfl;exact jnb rfl;refine xat ?_;refine tv ?_;refine sq ?_ ?_<;>intro h8 h8p h8s<;>(try simp only[Q,Pat.cs_len] at h8p);refine Walk.idx zax .none rfl rfl rfl rfl (zae (by omega)) rfl ?_;refine evd [] [] ?_;refine Walk.idx sl72 .none rfl rfl rfl rfl (zb5 (by omega)) rfl ?_;refine evd [] [] ?_;refine xaD 6 zfY (zep hw n (a:=(nth (zah w ⟨a,k⟩ p) i).data) (k:=(nth (zah w ⟨a,k⟩ p) i).index) (p:=nth p.kids i) (xs:=xs++zaM ⟨a,k⟩ p++zbc (zaE w n) ((zah w ⟨a,k⟩ p).take i) (p.kids.take i)) (zbL hs (by omega)) (by omega) (hin _ (zaj (by omega))) (Pats.ok_mem hok.2 _ (zaj (by omega))) (by have:=zn9 (zeh w n) (a:=zah w ⟨a,k⟩ p) (b:=p.kids) (i:=i) (by omega);simp only[xaa];omega)) rfl .none rfl rfl (.cons (.refl _) (.cons (.refl _) (.cons (.refl _) (.cons (.refl _) .nil)))) rfl (by rfl) ?_;refine evd [] [] ?_;refine dr ?_;refine CWp.retok 0 6 5 rfl rfl rfl rfl rfl ?_;refine evc [] [] ?_;refine ar ?_;refine xah (i+1) ⟨(by omega),(by omega),sx ⟨⟨_,rfl,LeA.glg ?_⟩,⟨⟨_,rfl,xap ?_⟩,trivial⟩⟩ ⟨zaf ?_,trivial⟩⟩;iterate 3 focus (first|rfl|(rw[zh4 (by omega) (by omega)];simp[List.append_assoc];done))
  refine rn [(5,some (.tok ((xs++zaE w (n+1) ⟨a,k⟩ p).map Vt.c).length 3))] (r1 rfl) (.glg ?_) ⟨rfl,rfl⟩ (SubO.get ⟨.inr ?_,⟨.inl rfl,trivial⟩⟩) (zaI rfl);rotate_left 2;all_goals (first|((rw[zaE,<-zmt (f:=zaE w n) hl (i:=i) (by omega)];simp);done)|((show some (Res.tok _ _)=some (Res.tok _ _);congr 2;rw[zaE,<-zmt (f:=zaE w n) hl (i:=i) (by omega)];simp)))
theorem zc8 {w:List Data} (hw:WT w){n:Nat}{a k:Int}{p:Pat} (hs:zav w n ⟨a,k⟩ p=true) (hn:n<=1000) (ht:TyIn w.length ⟨a,k⟩) (hok:p.ok) (hb:p.size<=1000000000000):
  FnD Tryz.prog 80 [.nils,.d (zak w),.agg [.d (.i a),.d (.i k)],.agg [.d (.i p.op),.d (.i p.ctor),.d (.i p.n),.d (.i p.m),.d (.i p.var),.d (zaQ p.kids)]] [] (.d (zbt (zaE w n ⟨a,k⟩ p))) []:=by
 have h:=zep hw n (xs:=[]) hs hn ht hok (by simp only[xai];omega);exact FnD.nilTok (by simp[AV.idsL,AV.ids]) h
theorem zog {l:List Vt}{i:Nat} (h:i<l.length) (h2:¬zaV l (nth l i).var=i):zmP l=false:=zcW h (by simpa using h2)
theorem zeH {w:List Data} (hw:WT w):∀(n:Nat){a k:Int}{p:Pat},zav w n ⟨a,k⟩ p=true->n<=1000->TyIn w.length ⟨a,k⟩->p.ok->p.size<=1000000000000->
  FnD Tryz.prog 245 [.d (zak w),.agg [.d (.i a),.d (.i k)],.agg [.d (.i p.op),.d (.i p.ctor),.d (.i p.n),.d (.i p.m),.d (.i p.var),.d (zaQ p.kids)]] [] (.d (.bool (linP w n ⟨a,k⟩ p))) []
 |0,a,k,p,hs,_,_,_,_=>by simp[zav] at hs
 |n+1,a,k,p,hs,hn,ht,hok,hb=>by
  have hok':=hok;rw[Pat.ok_iff] at hok;have hb':=hb;rw[Pat.size_eq] at hb';obtain⟨ho,hl⟩:=zc5 hs;have hin:=zef hw ht ho;have hlen:=zgd hw ht (zcI ho);have hvl:=zeh w (n+1) ⟨a,k⟩ p;have hsz:∀i,i<p.kids.length->(nth p.kids i).size<=1000000000000:=fun i hi=>by have:=zeO hi;omega
  by_cases hop5:p.op=5
  ·have e1:zah w ⟨a,k⟩ p=[⟨a,k⟩,⟨a,k⟩]:=by unfold zah;rw[if_neg (by omega),if_pos hop5]
   have hl2:p.kids.length=2:=by rw[hl,e1];rfl
   have s0:zav w n ⟨a,k⟩ (nth p.kids 0)=true:=by have:=zbL hs (i:=0) (by omega);rw[e1] at this;exact this
   have s1:zav w n ⟨a,k⟩ (nth p.kids 1)=true:=by have:=zbL hs (i:=1) (by omega);rw[e1] at this;exact this
   have v0:=zeh w n ⟨a,k⟩ (nth p.kids 0);have v1:=zeh w n ⟨a,k⟩ (nth p.kids 1);have z0:=hsz 0 (by omega);have z1:=hsz 1 (by omega);refine bd Tryz.f245 70 [] [] fun w0 F0 own kept hk=>?_;refine bx 3004 ?_;refine bx 3005 ?_;refine ev ?_;refine wc zio (zc7 hw ht (zcI ho)) rfl rfl ?_;refine ev ?_;refine xak (ι:=Nat) hk (fun i=>[(8,.d (.i (i:Int)))]) [6,15,16,17,18,19,20,21,22,23,24,25,26,27,28,29,30,31,32] (fun i=>[]) (fun i=>i<=(zah w ⟨a,k⟩ p).length/\∀i',i'<i->linP w n (nth (zah w ⟨a,k⟩ p) i') (nth p.kids i')=true) (fun i=>(zah w ⟨a,k⟩ p).length-i) 0 ⟨by omega,fun _ h=>absurd h (by omega)⟩ ⟨⟨_,rfl,xap ?_⟩,trivial⟩ trivial (fun x=>rfl) (fun i hg1=>?_);focus (first|rfl|(simp;done))
   refine evc [] [] ?_;refine sq ?_ ?_<;>intro h1 h1p h1s<;>(try simp only[Q,Pat.cs_len] at h1p);refine Walk.idx zax .none rfl rfl rfl rfl (zae (by omega)) rfl ?_;refine evd [] [] ?_;refine Walk.idx sl72 .none rfl rfl rfl rfl (zb5 (by omega)) rfl ?_;refine evd [] [] ?_;refine wc zkm (zeH hw n (zbL hs (by omega)) (by omega) (hin _ (zaj (by omega))) (Pats.ok_mem hok.2 _ (zaj (by omega))) (hsz _ (by omega))) rfl rfl ?_;refine evd [] [] ?_;refine dr ?_;refine sq ?_ ?_<;>intro h2 h2p h2s<;>(try simp only[Q,Pat.cs_len] at h2p);refine rq ?_;rotate_left;refine ar ?_;refine xah (i+1) ⟨⟨by omega,zaN hg1.2 (by assumption)⟩,(by omega),sx ⟨⟨_,rfl,xap ?_⟩,trivial⟩ trivial⟩;focus (first|rfl|(simp;done))
   refine sq ?_ ?_<;>intro h3 h3p h3s<;>(try simp only[Q,Pat.cs_len] at h3p);refine Walk.idx (i:=0) sl72 .none rfl rfl rfl rfl (zb5 (by omega)) rfl ?_;refine evd [] [] ?_;refine wc zfY (zc8 hw s0 (by omega) ht (Pats.ok_mem hok.2 _ (zaj (by omega))) z0) rfl rfl ?_;refine evd [] [] ?_;refine Walk.idx (i:=1) sl72 .none rfl rfl rfl rfl (zb5 (by omega)) rfl ?_;refine evd [] [] ?_;refine wc zfY (zc8 hw s1 (by omega) ht (Pats.ok_mem hok.2 _ (zaj (by omega))) z1) rfl rfl ?_;refine wc zsX (zlc (by omega) (by omega)) rfl rfl ?_;refine evd [] [] ?_;refine dr ?_;refine rq ?_;rotate_left;exfalso;simp_all;all_goals (refine congrArg D.bool ?_;unfold linP;rw[if_pos hop5];first|(rw[zdJ (by omega) (fun x hx=>hg1.2 x (by omega)),Bool.true_and])|(rw[zb2 (i:=i) (by omega) (by omega) (by assumption),Bool.false_and]))
  ·skip
   refine bd Tryz.f245 70 [] [] fun w0 F0 own kept hk=>?_;refine bx 3004 ?_;refine bx 3005 ?_;refine ev ?_;refine wc zio (zc7 hw ht (zcI ho)) rfl rfl ?_;refine ev ?_;refine xak (ι:=Nat) hk (fun i=>[(8,.d (.i (i:Int)))]) [6,15,16,17,18,19,20,21,22,23,24,25,26,27,28,29,30,31,32] (fun i=>[]) (fun i=>i<=(zah w ⟨a,k⟩ p).length/\∀i',i'<i->linP w n (nth (zah w ⟨a,k⟩ p) i') (nth p.kids i')=true) (fun i=>(zah w ⟨a,k⟩ p).length-i) 0 ⟨by omega,fun _ h=>absurd h (by omega)⟩ ⟨⟨_,rfl,xap ?_⟩,trivial⟩ trivial (fun x=>rfl) (fun i hg1=>?_);focus (first|rfl|(simp;done))
   refine evc [] [] ?_;refine sq ?_ ?_<;>intro h1 h1p h1s<;>(try simp only[Q,Pat.cs_len] at h1p);refine Walk.idx zax .none rfl rfl rfl rfl (zae (by omega)) rfl ?_;refine evd [] [] ?_;refine Walk.idx sl72 .none rfl rfl rfl rfl (zb5 (by omega)) rfl ?_;refine evd [] [] ?_;refine wc zkm (zeH hw n (zbL hs (by omega)) (by omega) (hin _ (zaj (by omega))) (Pats.ok_mem hok.2 _ (zaj (by omega))) (hsz _ (by omega))) rfl rfl ?_;refine evd [] [] ?_;refine dr ?_;refine sq ?_ ?_<;>intro h2 h2p h2s<;>(try simp only[Q,Pat.cs_len] at h2p);refine rq ?_;rotate_left;refine ar ?_;refine xah (i+1) ⟨⟨by omega,zaN hg1.2 (by assumption)⟩,(by omega),sx ⟨⟨_,rfl,xap ?_⟩,trivial⟩ trivial⟩;focus (first|rfl|(simp;done))
   refine sq ?_ ?_<;>intro h3 h3p h3s<;>(try simp only[Q,Pat.cs_len] at h3p);exfalso;simp_all;refine wc zfY (zc8 hw hs hn ht hok' hb) rfl rfl ?_;refine ev ?_;refine xak (ι:=Nat) hk (fun j=>[(10,.d (.i (j:Int)))]) [6,55,56,57,58,59,60,61,62,63,64,65,66,67,68,69] (fun j=>[]) (fun j=>j<=(zaE w (n+1) ⟨a,k⟩ p).length/\∀j',j'<j->zaV (zaE w (n+1) ⟨a,k⟩ p) (nth (zaE w (n+1) ⟨a,k⟩ p) j').var=(j':Int)) (fun j=>(zaE w (n+1) ⟨a,k⟩ p).length-j) 0 ⟨by omega,fun _ h=>absurd h (by omega)⟩ ⟨⟨_,rfl,xap ?_⟩,trivial⟩ trivial (fun x=>rfl) (fun j hg2=>?_);focus (first|rfl|(simp;done))
   refine evc [] [] ?_;refine sq ?_ ?_<;>intro h4 h4p h4s<;>(try simp only[Q,Pat.cs_len] at h4p);refine Walk.idx sl66 .none rfl rfl rfl rfl (zae (by omega)) rfl ?_;refine ev ?_;refine wc zhe (zcE (by omega)) rfl rfl ?_;refine ev ?_;refine sq ?_ ?_<;>intro h5 h5p h5s<;>(try simp only[Q,Pat.cs_len] at h5p);refine rq ?_;rotate_left;refine ar ?_;refine xah (j+1) ⟨⟨by omega,zaN hg2.2 (by omega)⟩,(by omega),sx ⟨⟨_,rfl,xap ?_⟩,trivial⟩ trivial⟩;focus (first|rfl|(simp;done))
   refine rq ?_;rotate_left;all_goals (refine congrArg D.bool ?_;unfold linP;rw[if_neg hop5];first|(rw[zb2 (i:=i) (by omega) (by omega) (by assumption),Bool.false_and];done)|(rw[zdJ (by omega) (fun x hx=>hg1.2 x (by omega)),Bool.true_and];first|(rw[zog (i:=j) (by omega) (by omega)];done)|(symm;exact zdn (fun x hx=>decide_eq_true (hg2.2 x (by omega))))))
def isP (w:List Data) (t:Ty) (p:Pat):Bool:=zav w 10 t p&&(decide ((p.size:Int)<=60)&&linP w 10 t p)
theorem ziU {w:List Data} (hw:WT w){a k:Int}{p:Pat} (ht:TyIn w.length ⟨a,k⟩) (hok:p.ok) (hb:p.size<=1000000000000):
  FnD Tryz.prog 188 [.d (zak w),.agg [.d (.i a),.d (.i k)],.agg [.d (.i p.op),.d (.i p.ctor),.d (.i p.n),.d (.i p.m),.d (.i p.var),.d (zaQ p.kids)]] [] (.d (.bool (isP w ⟨a,k⟩ p))) []:=by
 have hc:=znl p 60;by_cases hs:zav w 10 ⟨a,k⟩ p=true
 ·skip
  refine bd Tryz.f188 22 [] [1] fun w0 F0 own kept hk=>?_;refine bx 3004 ?_;refine bx 3005 ?_;refine ev ?_;refine xam ?_;refine xau 9 [(15,.d (.bool (decide ((p.size:Int)<=60))))] [7,8,9,10,11,12,13,14] ?_ ?_;refine ev ?_;refine wc zne (ze5 hw 10 (by omega) (by omega) ht hok) rfl rfl ?_;refine ev ?_;refine sq ?_ ?_<;>intro h1 h1p h1s;refine Walk.call (cr:=[]) znf (ze4 _ (Nat.le_refl _) hb hok (by omega) (by omega)) rfl (.some rfl rfl h1) rfl rfl (LeL.refl _) trivial rfl rfl rfl ?_;refine evs [] [(11,true)] ?_ ⟨⟨_,rfl,h1⟩,trivial⟩;exact jnb rfl;exact jnb rfl;refine xat ?_;refine ev ?_;refine sq ?_ ?_<;>intro h2 h2p h2s;refine Walk.call (cr:=[]) zkm (zeH hw 10 hs (by omega) ht hok hb) rfl (.some rfl rfl h2) rfl rfl (LeL.refl _) trivial rfl rfl rfl ?_;refine evs [] [(16,true)] ?_ ⟨⟨_,rfl,h2⟩,trivial⟩;refine rq ?_;rotate_left;refine rq ?_;rotate_left;all_goals (refine congrArg D.bool ?_;unfold isP;simp only[hs,Bool.true_and];first|(simp_all;done)|(simp_all;intro;omega))
 ·have hs':zav w 10 ⟨a,k⟩ p=false:=by simpa using hs
  refine bd Tryz.f188 22 [] [1] fun w0 F0 own kept hk=>?_;refine bx 3004 ?_;refine bx 3005 ?_;refine ev ?_;refine xam ?_;refine xau 9 [(15,.d (.bool (false)))] [7,8,9,10,11,12,13,14] ?_ ?_;refine ev ?_;refine wc zne (ze5 hw 10 (by omega) (by omega) ht hok) rfl rfl ?_;refine ev ?_;refine sq ?_ ?_<;>intro h1 h1p h1s;refine Walk.call (cr:=[]) znf (ze4 _ (Nat.le_refl _) hb hok (by omega) (by omega)) rfl (.some rfl rfl h1) rfl rfl (LeL.refl _) trivial rfl rfl rfl ?_;refine evs [] [(11,true)] ?_ ⟨⟨_,rfl,h1⟩,trivial⟩;exact jnb rfl;exact jnb rfl;refine xat ?_;refine ev ?_;refine sq ?_ ?_<;>intro h2 h2p h2s;refine Walk.call (cr:=[]) zkm (show FnD Tryz.prog 245 [.d (zak w),.agg [.d (.i a),.d (.i k)],.agg [.d (.i p.op),.d (.i p.ctor),.d (.i p.n),.d (.i p.m),.d (.i p.var),.d (zaQ p.kids)]] [] (.d (.bool true)) [] from absurd (by assumption:(false:Bool)=true) (by simp)) rfl (.some rfl rfl h2) rfl rfl (LeL.refl _) trivial rfl rfl rfl ?_;refine evs [] [(16,true)] ?_ ⟨⟨_,rfl,h2⟩,trivial⟩;refine rq ?_;rotate_left;refine rq ?_;rotate_left;all_goals (refine congrArg D.bool ?_;unfold isP;simp_all)
end Go.Proofs.YtmchfdpleibpdaaGreat
namespace Go.Proofs.YtmchfdpleibpdaaGreat
open Go
set_option linter.unusedSimpArgs false
set_option linter.unusedVariables false
def tyS (s:Nat):Ty:=⟨((s / 4:Nat):Int),((s % 4:Nat):Int)⟩
def zkX (t:Ty):Nat:=t.data.toNat*4+t.index.toNat
def dv (f:Nat->Nat) (t:Ty):Nat:=if t.data = -1 then 1 else f (zkX t)
def zrA (f:Nat->Nat):Nat->List Ty->Nat
 |m,[]=>m+1
 |m,t::r=>if dv f t=0 then 0 else zrA f (max m (dv f t)) r
def most (w:List Data) (f:Nat->Nat) (t:Ty) (c:Int):Nat:=zrA f 0 (zaq w t c)
def updF (f:Nat->Nat) (s n:Nat):Nat->Nat:=fun i=>if i=s then n else f i
def zuf (w:List Data) (s:Nat) (f:Nat->Nat) (c:Int):Nat->Nat:=
 if 0<most w f (tyS s) c/\(f s=0\/most w f (tyS s) c<f s) then updF f s (most w f (tyS s) c) else f
def zui (w:List Data) (f:Nat->Nat) (s:Nat):Nat->Nat:=(zdq w (tyS s)).foldl (zuf w s) f
def zuj (w:List Data) (f:Nat->Nat):Nat->Nat:=(List.range (w.length*4)).foldl (zui w) f
def zrx (w:List Data):Nat->Nat->Nat
 |0=>fun _=>0
 |k+1=>zuj w (zrx w k)
def znp (w:List Data):Nat->Nat:=zrx w (w.length*4+1)
def InS (n:Nat) (u:Ty):Prop:=u.data = -1\/(zkX u<n/\tyS (zkX u)=u)
def ClosedT (w:List Data):Prop:=∀s,s<w.length*4->∀c∈zdq w (tyS s),∀u∈zaq w (tyS s) c,InS (w.length*4) u
section
variable {w:List Data}
def Bet (f g:Nat->Nat):Prop:=∀s,0<f s->0<g s/\g s<=f s
theorem Bet.refl (f:Nat->Nat):Bet f f:=fun s h=>⟨h,Nat.le_refl _⟩
theorem Bet.trans {f g h:Nat->Nat} (a:Bet f g) (b:Bet g h):Bet f h:=fun s hs=>⟨(b s (a s hs).1).1,Nat.le_trans (b s (a s hs).1).2 (a s hs).2⟩
end
end Go.Proofs.YtmchfdpleibpdaaGreat
namespace Go.Proofs.YtmchfdpleibpdaaGreat
open Go
set_option linter.unusedSimpArgs false
set_option linter.unusedVariables false
set_option maxRecDepth 100000
set_option maxHeartbeats 2000000
theorem dr2 (ids:List Nat){os:List Oper}{s:St}{rs:List Rec}{Y:Prop} (h:Y) (h2:zai s.env s.hp ids=true) (h1:(zfd 0 os&&zhh (zc4 [] os) [] 0 rs)=true:=by kernel_rfl)
  (h3:rs.flatMap (·.cr)=ids:=by kernel_rfl):chkB os s rs=true/\Y:=by
 refine⟨?_,h⟩;have key:∀ {l:List Nat},zai s.env s.hp l=true->∀id∈l,(!occE id s.env&& !occH id s.hp)=true:=by
  intro l;induction l with
  |nil=>intro _ id hm;simp at hm
  |cons i r ih=>
   intro h id hm;simp only[zai,xad,Bool.not_eq_true'] at h;rcases List.mem_cons.1 hm with rfl|hm
   ·simp[h.1.1.2,h.1.2]
   ·exact ih h.2 id hm
 rw[xad] at h1;unfold chkB;rw[h1.1,h1.2,Bool.true_and,Bool.and_true,List.all_eq_true];intro r hr;rw[List.all_eq_true];intro id hid;exact key h2 id (by rw[<-h3];exact List.mem_flatMap.2 ⟨r,hr,hid⟩)
theorem zho {v:AV}:∀ {cs:List AV}{i:Nat},i<cs.length->putC cs i [v]=some (cs.set i v)
 |x::r,0,_=>by cases r<;>rfl
 |x::r,i+1,h=>by
  have:=zho (v:=v) (cs:=r) (i:=i) (by simpa using h);simp only[putC,this,List.set_cons_succ]
theorem InS.facts {n:Nat}{a k:Int} (h:InS n ⟨a,k⟩) (ha:¬a = -1):zkX ⟨a,k⟩<n/\a*4+k=(zkX ⟨a,k⟩:Int)/\0<=a/\0<=k/\k<=3/\a<=n:=by
 rcases h with h|⟨h1,h2⟩
 ·exact absurd h ha
 ·have e1:=congrArg Ty.data h2;have e2:=congrArg Ty.index h2;simp only[tyS] at e1 e2;omega
structure Dp (w:List Data):Prop where
 wt:WT w
 cl:ClosedT w
 four:w.length<=4
 ct:∀s,s<w.length*4->(zdq w (tyS s)).length<=4
theorem zdh {w:List Data} (hs:WSmall w) (hv:zaC w=true):WT w:=WV.wt hs ((zer w).1 hv)
theorem zpr {w:List Data} (hv:zaC w=true):w.length<=4:=by
 unfold zaC at hv;simp only[xad,decide_eq_true_eq] at hv;omega
end Go.Proofs.YtmchfdpleibpdaaGreat
namespace Go.Proofs.YtmchfdpleibpdaaGreat
open Go
set_option linter.unusedSimpArgs false
set_option linter.unusedVariables false
set_option maxRecDepth 100000
set_option maxHeartbeats 4000000
theorem zeY {p:Pat}{b1 b2 b3:Bool}{k:Int}:FnD Tryz.prog 237 [.agg [.d (.i p.op),.d (.i p.ctor),.d (.i p.n),.d (.i p.m),.d (.i p.var),.d (zaQ p.kids)],.d (.bool b1),.d (.bool b2),.d (.bool b3),.d (.i k)] []
  (.d (.bool (decide ((b1=true\/p.ctor=0)/\(b2=true\/p.n=0/\p.m=0)/\(b3=true\/p.var=0)/\(p.kids.length:Int)=k)))) []:=by
 refine bd Tryz.f237 45 [] [1] fun w0 F0 own kept hk=>?_;refine bx 3005 ?_;refine ev ?_;refine xam ?_;refine xau 6 [(16,.d (.bool (decide (b1=true\/p.ctor=0))))] [11,12,13,14,15] ?_ ?_;refine ev ?_;refine sq ?_ ?_<;>intro h1 h1p h1s;focus (exact jn rfl (xao (by(first|rfl|(rw[Bool.eq_iff_iff];simp_all[Pat.cs_len];done)))))
 focus (exact jn rfl (xao (by(first|rfl|(rw[Bool.eq_iff_iff];simp_all[Pat.cs_len];done)))))
 refine xau 13 [(29,.d (.bool (decide ((b1=true\/p.ctor=0)/\(b2=true\/p.n=0/\p.m=0)))))] [17,18,19,20,21,22,23,24,25,26,27,28] ?_ ?_;refine ev ?_;refine sq ?_ ?_<;>intro h2 h2p h2s;refine sq ?_ ?_<;>intro h3 h3p h3s;focus (exact jn rfl (xao (by(first|rfl|(rw[Bool.eq_iff_iff];simp_all[Pat.cs_len];done)))))
 refine sq ?_ ?_<;>intro h4 h4p h4s;focus (exact jn rfl (xao (by(first|rfl|(rw[Bool.eq_iff_iff];simp_all[Pat.cs_len];done)))))
 focus (exact jn rfl (xao (by(first|rfl|(rw[Bool.eq_iff_iff];simp_all[Pat.cs_len];done)))))
 focus (exact jn rfl (xao (by(first|rfl|(rw[Bool.eq_iff_iff];simp_all[Pat.cs_len];done)))))
 refine xau 8 [(37,.d (.bool (decide ((b1=true\/p.ctor=0)/\(b2=true\/p.n=0/\p.m=0)/\(b3=true\/p.var=0)))))] [30,31,32,33,34,35,36] ?_ ?_;refine ev ?_;refine sq ?_ ?_<;>intro h5 h5p h5s;refine sq ?_ ?_<;>intro h6 h6p h6s;focus (exact jn rfl (xao (by(first|rfl|(rw[Bool.eq_iff_iff];simp_all[Pat.cs_len];done)))))
 focus (exact jn rfl (xao (by(first|rfl|(rw[Bool.eq_iff_iff];simp_all[Pat.cs_len];done)))))
 focus (exact jn rfl (xao (by(first|rfl|(rw[Bool.eq_iff_iff];simp_all[Pat.cs_len];done)))))
 refine xau 7 [(44,.d (.bool (decide ((b1=true\/p.ctor=0)/\(b2=true\/p.n=0/\p.m=0)/\(b3=true\/p.var=0)/\(p.kids.length:Int)=k))))] [38,39,40,41,42,43] ?_ ?_;refine ev ?_;refine sq ?_ ?_<;>intro h7 h7p h7s;focus (exact jn rfl (xao (by(first|rfl|(rw[Bool.eq_iff_iff];simp_all[Pat.cs_len];done)))))
 focus (exact jn rfl (xao (by(first|rfl|(rw[Bool.eq_iff_iff];simp_all[Pat.cs_len];done)))))
 refine xat ?_;refine ev ?_;refine rq ?_;rotate_left;all_goals (rfl)
theorem zft {p:Pat}{k:Int}:FnD Tryz.prog 237 [.agg [.d (.i p.op),.d (.i p.ctor),.d (.i p.n),.d (.i p.m),.d (.i p.var),.d (zaQ p.kids)],.d (.bool false),.d (.bool false),.d (.bool false),.d (.i k)] []
  (.d (.bool (decide (p.ctor=0/\(p.n=0/\p.m=0)/\p.var=0/\(p.kids.length:Int)=k)))) []:=by
 have:=zeY (p:=p) (b1:=false) (b2:=false) (b3:=false) (k:=k);simpa only[Bool.false_eq_true,false_or] using this
theorem zfu {p:Pat}{k:Int}:FnD Tryz.prog 237 [.agg [.d (.i p.op),.d (.i p.ctor),.d (.i p.n),.d (.i p.m),.d (.i p.var),.d (zaQ p.kids)],.d (.bool false),.d (.bool false),.d (.bool true),.d (.i k)] []
  (.d (.bool (decide (p.ctor=0/\(p.n=0/\p.m=0)/\(p.kids.length:Int)=k)))) []:=by
 have:=zeY (p:=p) (b1:=false) (b2:=false) (b3:=true) (k:=k);simpa only[Bool.false_eq_true,false_or,true_or,true_and] using this
theorem zjy {p:Pat}{k:Int}:FnD Tryz.prog 237 [.agg [.d (.i p.op),.d (.i p.ctor),.d (.i p.n),.d (.i p.m),.d (.i p.var),.d (zaQ p.kids)],.d (.bool false),.d (.bool true),.d (.bool false),.d (.i k)] []
  (.d (.bool (decide (p.ctor=0/\p.var=0/\(p.kids.length:Int)=k)))) []:=by
 have:=zeY (p:=p) (b1:=false) (b2:=true) (b3:=false) (k:=k);simpa only[Bool.false_eq_true,false_or,true_or,true_and] using this
theorem zoh {p:Pat}{k:Int}:FnD Tryz.prog 237 [.agg [.d (.i p.op),.d (.i p.ctor),.d (.i p.n),.d (.i p.m),.d (.i p.var),.d (zaQ p.kids)],.d (.bool true),.d (.bool false),.d (.bool false),.d (.i k)] []
  (.d (.bool (decide ((p.n=0/\p.m=0)/\p.var=0/\(p.kids.length:Int)=k)))) []:=by
 have:=zeY (p:=p) (b1:=true) (b2:=false) (b3:=false) (k:=k);simpa only[Bool.false_eq_true,false_or,true_or,true_and] using this
theorem zeA {v:Int}:FnD Tryz.prog 68 [.d (.i v)] [] (.d (.bool (zal v 0 5))) []:=by
 refine bd Tryz.f68 5 [] [] fun w0 F0 own kept hk=>?_;refine wc zdx (za3) rfl rfl ?_;refine ev ?_;refine rq ?_;rotate_left;all_goals (rfl)
theorem zek {w:List Data} (hw:WT w){a k:Int} (ht:TyIn w.length ⟨a,k⟩):FnD Tryz.prog 156 [.d (zak w),.agg [.d (.i a),.d (.i k)]] [] (.d (zb4 (zaJ w ⟨a,k⟩))) []:=by
 rcases ht with ha|⟨d,hd,hlt⟩
 ·simp only at ha;subst ha;rw[zgf];exact zie
 ·simp only at hd;subst hd;rw[zgZ];exact zkC hw hlt
theorem zgM {w:List Data} (hw:WT w){a k c:Int} (ht:TyIn w.length ⟨a,k⟩) (hc:c∈zaJ w ⟨a,k⟩):FnD Tryz.prog 157 [.d (zak w),.agg [.d (.i a),.d (.i k)],.d (.i c)] [] (.d (zbI (zaq w ⟨a,k⟩ c))) []:=by
 obtain⟨d,rfl,h1,h2⟩:=zbA ht hc;exact zjN hw h1 h2
theorem zmC {w:List Data} (hw:WT w){a k:Int}{p:Pat} (ht:TyIn w.length ⟨a,k⟩):
  FnD Tryz.prog 183 [.d (zak w),.agg [.d (.i a),.d (.i k)],.agg [.d (.i p.op),.d (.i p.ctor),.d (.i p.n),.d (.i p.m),.d (.i p.var),.d (zaQ p.kids)]] [] (.tup [.d (zbI (zds w ⟨a,k⟩ p)),.d (.bool (okP w ⟨a,k⟩ p))]) []:=by
 have hcl:=ze8 hw ht;have ty4:p.op=4->p.ctor∉zaJ w ⟨a,k⟩->zds w ⟨a,k⟩ p=[]:=fun h4 hm=>by unfold zds;rw[if_pos ⟨h4,hm⟩]
 have ty4':p.op=4->p.ctor∈zaJ w ⟨a,k⟩->zds w ⟨a,k⟩ p=zaq w ⟨a,k⟩ p.ctor:=fun h4 hm=>by unfold zds zah;rw[if_neg (fun h=>h.2 hm),if_pos h4]
 have ty5:p.op=5->zds w ⟨a,k⟩ p=[⟨a,k⟩,⟨a,k⟩]:=fun h5=>by unfold zds zah;rw[if_neg (by omega),if_neg (by omega),if_pos h5]
 have ty6:p.op=6->zds w ⟨a,k⟩ p=[⟨a,k⟩]:=fun h6=>by unfold zds zah;rw[if_neg (by omega),if_neg (by omega),if_neg (by omega),if_pos h6]
 have ty0:¬p.op=4->¬p.op=5->¬p.op=6->zds w ⟨a,k⟩ p=[]:=fun h4 h5 h6=>by unfold zds zah;rw[if_neg (fun h=>h4 h.1),if_neg h4,if_neg h5,if_neg h6]
 have ln4:p.op=4->(zah w ⟨a,k⟩ p).length=(zaq w ⟨a,k⟩ p.ctor).length:=fun h4=>by unfold zah;rw[if_pos h4]
 have ln5:p.op=5->(zah w ⟨a,k⟩ p).length=2:=fun h5=>by unfold zah;rw[if_neg (by omega),if_pos h5];rfl
 have ln6:p.op=6->(zah w ⟨a,k⟩ p).length=1:=fun h6=>by unfold zah;rw[if_neg (by omega),if_neg (by omega),if_pos h6];rfl
 have ln0:¬p.op=4->¬p.op=5->¬p.op=6->(zah w ⟨a,k⟩ p).length=0:=fun h4 h5 h6=>by unfold zah;rw[if_neg h4,if_neg h5,if_neg h6];rfl
 have okI:∀b:Bool,(b=true↔((((p.op=2\/p.op=6)->0<=p.var/\p.var<=5)/\(¬(p.op=2\/p.op=6)->p.var=0)/\(p.op≠3->p.n=0/\p.m=0)/\(p.op≠4->p.ctor=0)/\
   (p.op=1\/p.op=2\/p.op=5\/p.op=6\/(p.op=3/\a = -1/\0<=p.n/\p.n<=p.m/\p.m<=9)\/(p.op=4/\p.ctor∈zaJ w ⟨a,k⟩)))/\p.kids.length=(zah w ⟨a,k⟩ p).length))->b=okP w ⟨a,k⟩ p:=fun b h=>by
  rw[Bool.eq_iff_iff,h];unfold okP ownP;simp only[xad,decide_eq_true_eq]
 by_cases hmem:p.ctor∈zaJ w ⟨a,k⟩
 ·have hargs:=zgM hw ht hmem;have hal:(zaq w ⟨a,k⟩ p.ctor).length<=1000000000000:=by
   obtain⟨d,rfl,h1,h2⟩:=zbA ht hmem;exact zkb hw h1 h2
  simp only[hmem,and_true] at okI;refine bd Tryz.f183 87 [] [5] fun w0 F0 own kept hk=>?_;refine bx 3004 ?_;refine bx 3005 ?_;refine ev ?_;refine sq ?_ ?_<;>intro h1 h1p h1s<;>(try simp only[Q] at h1p);refine wc zd2 (zft) rfl rfl ?_;refine ev ?_;refine rn0 (r2 rfl rfl) (.tup (.cons (.nild ?_) (.cons (.eqd ?_) .nil)));rotate_left 2;refine sq ?_ ?_<;>intro h2 h2p h2s<;>(try simp only[Q] at h2p);refine xam ?_;refine xau 7 [(23,.d (.bool (decide ((p.ctor=0/\(p.n=0/\p.m=0)/\(p.kids.length:Int)=0)/\0<=p.var/\p.var<=5))))] [17,18,19,20,21,22] ?_ ?_;refine ev ?_;refine wc zd2 (zfu) rfl rfl ?_;refine ev ?_;refine sq ?_ ?_<;>intro h3 h3p h3s<;>(try simp only[Q] at h3p);refine Walk.call (cr:=[]) zmN (zeA) rfl (.some rfl rfl h3) rfl rfl (LeL.refl _) trivial rfl rfl rfl ?_;refine evs [] [(19,true)] ?_ ⟨⟨_,rfl,h3⟩,trivial⟩;exact jn rfl (xao (by(rw[Bool.eq_iff_iff];simp only[decide_eq_true_eq,zal,xad,Bool.false_eq_true,false_iff,true_iff];omega)));exact jn rfl (xao (by(rw[Bool.eq_iff_iff];simp only[decide_eq_true_eq,zal,xad,Bool.false_eq_true,false_iff,true_iff];omega)));refine xat ?_;refine ev ?_;refine rn0 (r2 rfl rfl) (.tup (.cons (.nild ?_) (.cons (.eqd ?_) .nil)));rotate_left 2;refine sq ?_ ?_<;>intro h4 h4p h4s<;>(try simp only[Q] at h4p);refine sq ?_ ?_<;>intro h5 h5p h5s<;>(try simp only[Q] at h5p);refine Walk.call (cr:=[]) zd2 (zjy) rfl (.some rfl rfl h5) rfl rfl (LeL.refl _) trivial rfl rfl rfl ?_;refine evd [] [(29,true)] ?_ ⟨⟨_,rfl,h5⟩,trivial⟩;refine sq ?_ ?_<;>intro h6 h6p h6s<;>(try simp only[Q] at h6p);refine sq ?_ ?_<;>intro h7 h7p h7s<;>(try simp only[Q] at h7p);refine sq ?_ ?_<;>intro h8 h8p h8s<;>(try simp only[Q] at h8p);refine dr ?_;refine rn0 (r2 rfl rfl) (.tup (.cons (.nild ?_) (.cons (.eqd ?_) .nil)));rotate_left 2;refine dr ?_;refine rn0 (r2 rfl rfl) (.tup (.cons (.nild ?_) (.cons (.eqd ?_) .nil)));rotate_left 2;refine sqF ?_;refine dr ?_;refine rn0 (r2 rfl rfl) (.tup (.cons (.nild ?_) (.cons (.eqd ?_) .nil)));rotate_left 2;refine sqF ?_;refine sqF ?_;refine dr ?_;refine rn0 (r2 rfl rfl) (.tup (.cons (.nild ?_) (.cons (.eqd ?_) .nil)));rotate_left 2;refine sqF ?_;refine sqF ?_;refine sqF ?_;refine dr ?_;refine rn0 (r2 rfl rfl) (.tup (.cons (.nild ?_) (.cons (.eqd ?_) .nil)));rotate_left 2;refine sq ?_ ?_<;>intro h9 h9p h9s<;>(try simp only[Q] at h9p);refine wc zkf (zek hw ht) rfl rfl ?_;refine evd [] [] ?_;refine wc zkk (zcb hcl) rfl rfl ?_;refine evd [] [] ?_;refine dr ?_;refine sq ?_ ?_<;>intro h10 h10p h10s<;>(try simp only[Q] at h10p);exfalso;simp_all;refine wc zpD (hargs) rfl rfl ?_;refine ev ?_;refine wc zd2 (zoh) rfl rfl ?_;refine ev ?_;refine rn0 (r2 rfl rfl) (.tup (.cons (.eqd ?_) (.cons (.eqd ?_) .nil)));rotate_left 2;refine sq ?_ ?_<;>intro h11 h11p h11s<;>(try simp only[Q] at h11p);refine si [0,1] [_,_] zax tz29 ?_;refine evd [] [] ?_;refine wc zd2 (zft) rfl rfl ?_;refine evd [] [] ?_;refine dr ?_;refine rn0 (r2 rfl rfl) (.tup (.cons (.eqd ?_) (.cons (.eqd ?_) .nil)));rotate_left 2;refine sq ?_ ?_<;>intro h12 h12p h12s<;>(try simp only[Q] at h12p);refine si [0] [_] zax tz29 ?_;refine evd [] [] ?_;refine wc zd2 (zfu) rfl rfl ?_;refine evd [] [] ?_;refine sq ?_ ?_<;>intro h13 h13p h13s<;>(try simp only[Q] at h13p);refine Walk.call (cr:=[]) zmN (zeA) rfl (.some rfl rfl h13) rfl rfl (LeL.refl _) trivial rfl rfl rfl ?_;refine evd [] [(82,true)] ?_ ⟨⟨_,rfl,h13⟩,trivial⟩;refine dr ?_;refine rn0 (r2 rfl rfl) (.tup (.cons (.eqd ?_) (.cons (.eqd ?_) .nil)));rotate_left 2;refine dr ?_;refine rn0 (r2 rfl rfl) (.tup (.cons (.eqd ?_) (.cons (.eqd ?_) .nil)));rotate_left 2;refine rn0 (r2 rfl rfl) (.tup (.cons (.nild ?_) (.cons (.eqd ?_) .nil)));rotate_left 2;all_goals (first|(refine congrArg D.bool (okI _ ?_);(try simp only[decide_eq_true_eq,Bool.false_eq_true,zal,xad,xac,true_iff,false_iff]);omega)|(rw[ty0 (by omega) (by omega) (by omega)];first|done|rfl)|(rw[ty5 (by omega)];first|done|rfl)|(rw[ty6 (by omega)];first|done|rfl)|(rw[ty4' (by omega) hmem];first|done|rfl))
 ·simp only[hmem,and_false,or_false] at okI;refine bd Tryz.f183 87 [] [5] fun w0 F0 own kept hk=>?_;refine bx 3004 ?_;refine bx 3005 ?_;refine ev ?_;refine sq ?_ ?_<;>intro h1 h1p h1s<;>(try simp only[Q] at h1p);refine wc zd2 (zft) rfl rfl ?_;refine ev ?_;refine rn0 (r2 rfl rfl) (.tup (.cons (.nild ?_) (.cons (.eqd ?_) .nil)));rotate_left 2;refine sq ?_ ?_<;>intro h2 h2p h2s<;>(try simp only[Q] at h2p);refine xam ?_;refine xau 7 [(23,.d (.bool (decide ((p.ctor=0/\(p.n=0/\p.m=0)/\(p.kids.length:Int)=0)/\0<=p.var/\p.var<=5))))] [17,18,19,20,21,22] ?_ ?_;refine ev ?_;refine wc zd2 (zfu) rfl rfl ?_;refine ev ?_;refine sq ?_ ?_<;>intro h3 h3p h3s<;>(try simp only[Q] at h3p);refine Walk.call (cr:=[]) zmN (zeA) rfl (.some rfl rfl h3) rfl rfl (LeL.refl _) trivial rfl rfl rfl ?_;refine evs [] [(19,true)] ?_ ⟨⟨_,rfl,h3⟩,trivial⟩;exact jn rfl (xao (by(rw[Bool.eq_iff_iff];simp only[decide_eq_true_eq,zal,xad,Bool.false_eq_true,false_iff,true_iff];omega)));exact jn rfl (xao (by(rw[Bool.eq_iff_iff];simp only[decide_eq_true_eq,zal,xad,Bool.false_eq_true,false_iff,true_iff];omega)));refine xat ?_;refine ev ?_;refine rn0 (r2 rfl rfl) (.tup (.cons (.nild ?_) (.cons (.eqd ?_) .nil)));rotate_left 2;refine sq ?_ ?_<;>intro h4 h4p h4s<;>(try simp only[Q] at h4p);refine sq ?_ ?_<;>intro h5 h5p h5s<;>(try simp only[Q] at h5p);refine Walk.call (cr:=[]) zd2 (zjy) rfl (.some rfl rfl h5) rfl rfl (LeL.refl _) trivial rfl rfl rfl ?_;refine evd [] [(29,true)] ?_ ⟨⟨_,rfl,h5⟩,trivial⟩;refine sq ?_ ?_<;>intro h6 h6p h6s<;>(try simp only[Q] at h6p);refine sq ?_ ?_<;>intro h7 h7p h7s<;>(try simp only[Q] at h7p);refine sq ?_ ?_<;>intro h8 h8p h8s<;>(try simp only[Q] at h8p);refine dr ?_;refine rn0 (r2 rfl rfl) (.tup (.cons (.nild ?_) (.cons (.eqd ?_) .nil)));rotate_left 2;refine dr ?_;refine rn0 (r2 rfl rfl) (.tup (.cons (.nild ?_) (.cons (.eqd ?_) .nil)));rotate_left 2;refine sqF ?_;refine dr ?_;refine rn0 (r2 rfl rfl) (.tup (.cons (.nild ?_) (.cons (.eqd ?_) .nil)));rotate_left 2;refine sqF ?_;refine sqF ?_;refine dr ?_;refine rn0 (r2 rfl rfl) (.tup (.cons (.nild ?_) (.cons (.eqd ?_) .nil)));rotate_left 2;refine sqF ?_;refine sqF ?_;refine sqF ?_;refine dr ?_;refine rn0 (r2 rfl rfl) (.tup (.cons (.nild ?_) (.cons (.eqd ?_) .nil)));rotate_left 2;refine sq ?_ ?_<;>intro h9 h9p h9s<;>(try simp only[Q] at h9p);refine wc zkf (zek hw ht) rfl rfl ?_;refine evd [] [] ?_;refine wc zkk (zcb hcl) rfl rfl ?_;refine evd [] [] ?_;refine dr ?_;refine sq ?_ ?_<;>intro h10 h10p h10s<;>(try simp only[Q] at h10p);refine rn0 (r2 rfl rfl) (.tup (.cons (.nild ?_) (.cons (.eqd ?_) .nil)));rotate_left 2;exfalso;simp_all;refine sq ?_ ?_<;>intro h11 h11p h11s<;>(try simp only[Q] at h11p);refine si [0,1] [_,_] zax tz29 ?_;refine evd [] [] ?_;refine wc zd2 (zft) rfl rfl ?_;refine evd [] [] ?_;refine dr ?_;refine rn0 (r2 rfl rfl) (.tup (.cons (.eqd ?_) (.cons (.eqd ?_) .nil)));rotate_left 2;refine sq ?_ ?_<;>intro h12 h12p h12s<;>(try simp only[Q] at h12p);refine si [0] [_] zax tz29 ?_;refine evd [] [] ?_;refine wc zd2 (zfu) rfl rfl ?_;refine evd [] [] ?_;refine sq ?_ ?_<;>intro h13 h13p h13s<;>(try simp only[Q] at h13p);refine Walk.call (cr:=[]) zmN (zeA) rfl (.some rfl rfl h13) rfl rfl (LeL.refl _) trivial rfl rfl rfl ?_;refine evd [] [(82,true)] ?_ ⟨⟨_,rfl,h13⟩,trivial⟩;refine dr ?_;refine rn0 (r2 rfl rfl) (.tup (.cons (.eqd ?_) (.cons (.eqd ?_) .nil)));rotate_left 2;refine dr ?_;refine rn0 (r2 rfl rfl) (.tup (.cons (.eqd ?_) (.cons (.eqd ?_) .nil)));rotate_left 2;refine rn0 (r2 rfl rfl) (.tup (.cons (.nild ?_) (.cons (.eqd ?_) .nil)));rotate_left 2;all_goals (first|(refine congrArg D.bool (okI _ ?_);(try simp only[decide_eq_true_eq,Bool.false_eq_true,zal,xad,xac,true_iff,false_iff]);omega)|(rw[ty0 (by omega) (by omega) (by omega)];first|done|rfl)|(rw[ty5 (by omega)];first|done|rfl)|(rw[ty6 (by omega)];first|done|rfl)|(rw[ty4 (by omega) hmem];first|done|rfl))
theorem zqG {t u:Vt}:t=u↔t.var=u.var/\t.ty.data=u.ty.data/\t.ty.index=u.ty.index:=by
 rcases t with ⟨a,b,c⟩;rcases u with ⟨d,e,f⟩;simp
def zo4 (l:List Vt) (v:Vt):Int:=idxF (fun x=>decide (v=x)) l 0
theorem ziO {l:List Vt}{v:Vt} (h:l.length<=1000000000000):FnD Tryz.prog 236 [.d (zbt l),.agg [.d (.i v.var),.d (.i v.ty.data),.d (.i v.ty.index)]] [] (.d (.i (zo4 l v))) []:=by
 refine bd Tryz.f236 19 [16] [] fun w0 F0 own kept hk=>?_;refine bx 3003 ?_;refine evs [16] [] ?_;refine xak (ι:=List (Vt)×List (Vt)) hk (fun x=>[(8,.d (.i (x.1.length:Int)))]) [4,5,9,10,11,12,13,14,15,16,17,18] (fun x=>[]) (fun x=>x.1++x.2=l/\idxF (fun x=>decide (v=x)) x.2 x.1.length=idxF (fun x=>decide (v=x)) l 0) (fun x=>x.2.length) ([],l) ⟨by simp,rfl⟩ ⟨⟨_,rfl,xap ?_⟩,trivial⟩ trivial (fun x=>rfl) (fun x hg1=>?_);focus (first|rfl|omega)
 obtain⟨pre,rest⟩:=x;dsimp only at hg1 ⊢;refine evc [16] [] ?_;refine sq ?_ ?_<;>intro h1 h1p h1s<;>(try simp only[Q] at h1p);rcases rest with _|⟨y,rest⟩
 ·exfalso;simp_all
 refine Walk.idx sl66 .none rfl rfl rfl rfl (zaH hg1.1) rfl ?_;refine evd [16] [] ?_;refine Walk.eqV2 zt7 .none rfl rfl rfl rfl rfl ?_;refine dr ?_;refine sq ?_ ?_<;>intro h2 h2p h2s<;>(try simp only[Q] at h2p);refine rq ?_;rotate_left;refine ar ?_;refine xah ((pre++[y],rest)) ⟨⟨(by have hz:=hg1.1;rw[<-hz];simp),(by rw[<-hg1.2];simp[idxF];simp_all[zqG])⟩,(by simp),sx ⟨⟨_,rfl,xap ?_⟩,trivial⟩ trivial⟩;focus (first|rfl|(simp;done)|omega)
 have hrest:rest=[]:=by
  rcases rest with _|⟨a,b⟩
  ·rfl
  ·exfalso;have hz:=congrArg List.length (hg1.1);simp only[xaa,xab,xac] at hz;omega
 subst hrest;refine rq ?_;rotate_left;all_goals (unfold zo4;rw[<-hg1.2];simp_all[idxF,zqG])
theorem zeQ {l:List Vt}{v:Vt} (h:l.length<=1000000000000):FnD Tryz.prog 182 [.d (zbt l),.agg [.d (.i v.var),.d (.i v.ty.data),.d (.i v.ty.index)]] [] (.d (.bool (decide (v∈l)))) []:=by
 refine bd Tryz.f182 9 [] [] fun w0 F0 own kept hk=>?_;refine bx 3003 ?_;refine ev ?_;refine wc zsP (ziO h) rfl rfl ?_;refine ev ?_;refine rq ?_;rotate_left;all_goals (refine congrArg D.bool ?_;rw[show zo4 l v=idxF (fun x=>decide (v=x)) l 0 from rfl,zeE];simp[List.any_eq,eq_comm])
theorem zex {xs:List Vt}{f:Nat}{caps:List AV}{hp:Hp}{p:Vt->Bool} (hs:xs.length<=1000000000000) (hcal:Callee Tryz.prog f)
  (hf:∀t∈xs,FnD Tryz.prog f ([.agg [.d (.i t.var),.d (.i t.ty.data),.d (.i t.ty.index)]]++caps) hp (.d (.bool (p t))) []) (k1:subH hp hp) (k2:zdX hp=true) (k3:zaY hp [] (.d .nilp) []=true):
  FnD Tryz.prog 240 [.d (zbt xs),.fn f caps] hp (.d (.i (idxF p xs 0))) []:=by
 refine bd Tryz.f240 19 [] [] fun w0 F0 own kept hk=>?_;refine xak (ι:=List (Vt)×List (Vt)) hk (fun x=>[(8,.d (.i (x.1.length:Int)))]) [4,5,9,10,11,12,13,14,15,16,17,18] (fun x=>[]) (fun x=>x.1++x.2=xs/\idxF p x.2 x.1.length=idxF p xs 0) (fun x=>x.2.length) ([],xs) ⟨by simp,rfl⟩ ⟨⟨_,rfl,xap ?_⟩,trivial⟩ trivial (fun x=>zfX hp) (fun x hg1=>?_);focus (first|rfl|omega)
 obtain⟨pre,rest⟩:=x;dsimp only at hg1 ⊢;refine evc [] [] ?_;refine sq ?_ ?_<;>intro h1 h1p h1s<;>(try simp only[Q] at h1p);rcases rest with _|⟨y,rest⟩
 ·exfalso;simp_all
 refine Walk.idx sl66 .none rfl rfl rfl rfl (zaH hg1.1) rfl ?_;refine ev ?_;refine xaE (cr:=[]) hcal (hf y (by rw[<-hg1.1];simp)) rfl .none rfl rfl rfl (LeL.refl _) k1 k2 (zd8 k3 _) rfl ?_;refine tv ?_;refine sq ?_ ?_<;>intro h2 h2p h2s<;>(try simp only[Q] at h2p);focus (refine rn [] (r1 rfl) (.eqd ?_) ⟨rfl,rfl⟩ (fun _ _ h=>h) (fun _ h=>h);all_goals (rw[<-hg1.2];simp[idxF,h1s,h1p,h2s,h2p]))
 refine ar ?_;refine xah ((pre++[y],rest)) ⟨⟨(by have hz:=hg1.1;rw[<-hz];simp),(by rw[<-hg1.2];simp[idxF,h2s])⟩,(by simp),Sub.x (by kernel_rfl) (by kernel_rfl) ⟨⟨_,rfl,xap ?_⟩,trivial⟩ (by simp) (by simp[zdp]) trivial⟩;focus (first|rfl|(simp;done)|omega)
 have hrest:rest=[]:=by
  rcases rest with _|⟨a,b⟩
  ·rfl
  ·exfalso;have hz:=congrArg List.length (hg1.1);simp only[xaa,xab,xac] at hz;omega
 subst hrest;focus (refine rn [] (r1 rfl) (.eqd ?_) ⟨rfl,rfl⟩ (fun _ _ h=>h) (fun _ h=>h);all_goals (rw[<-hg1.2];simp[idxF,h1s,h1p]))
theorem zgc {xs:List Vt}{f:Nat}{caps:List AV}{hp:Hp}{p:Vt->Bool} (hs:xs.length<=1000000000000) (hcal:Callee Tryz.prog f)
  (hf:∀t∈xs,FnD Tryz.prog f ([.agg [.d (.i t.var),.d (.i t.ty.data),.d (.i t.ty.index)]]++caps) hp (.d (.bool (p t))) []) (k1:subH hp hp) (k2:zdX hp=true) (k3:zaY hp [] (.d .nilp) []=true):
  FnD Tryz.prog 238 [.d (zbt xs),.fn f caps] hp (.d (.bool (xs.any p))) []:=by
 refine bd Tryz.f238 9 [] [] fun w0 F0 own kept hk=>?_;refine Walk.call (cr:=[]) zpN (zex hs hcal hf k1 k2 k3) rfl .none rfl rfl (LeL.refl _) k1 k2 (zd8 k3 _) rfl ?_;refine ev ?_;refine rn [] (r1 rfl) (.eqd ?_) ⟨rfl,rfl⟩ (fun _ _ h=>h) (fun _ h=>h);rotate_left;all_goals (exact congrArg D.bool (zeE p xs 0))
theorem ziy {b:List Vt}{v:Vt} (h:b.length<=1000000000000):FnD Tryz.prog 239 [.agg [.d (.i v.var),.d (.i v.ty.data),.d (.i v.ty.index)],.ref 3003 0] [(3003,some (.box [.d (zbt b)]))] (.d (.bool (!decide (v∈b)))) []:=by
 refine bd Tryz.f239 8 [] [] fun w0 F0 own kept hk=>?_;refine bx 3001 ?_;refine ev ?_;refine wc zpG (zeQ h) rfl rfl ?_;refine ev ?_;refine rn [] (r1 rfl) (.eqd ?_) ⟨rfl,rfl⟩ (SubH.get ⟨rfl,trivial⟩) (fun _ h=>h);rotate_left;all_goals (rfl)
theorem zgx {x y:List Vt} (hx:x.length<=1000000000000) (hy:y.length<=1000000000000):FnD Tryz.prog 184 [.d (zbt x),.d (zbt y)] [] (.d (.bool (zec x y))) []:=by
 refine bd Tryz.f184 16 [] [] fun w0 F0 own kept hk=>?_;refine bx 3003 ?_;refine ev ?_;refine sq ?_ ?_<;>intro h1 h1p h1s;refine xaG (xs:=[_]) rfl (.some rfl rfl h1) rfl rfl ?_;refine Walk.call (cr:=[]) zsQ (zgc (p:=fun v=> !decide (v∈y)) hx zsR (fun t _=>ziy hy) ⟨rfl,trivial⟩ rfl rfl) rfl (.some rfl rfl h1) rfl rfl (LeL.refl _) ⟨rfl,trivial⟩ rfl rfl rfl ?_;refine evs [] [(10,true)] ?_ ⟨⟨_,rfl,h1⟩,trivial⟩;refine rq ?_;rotate_left;refine rq ?_;rotate_left;all_goals (refine congrArg D.bool ?_;unfold zec;first|(simp_all;done)|(simp_all;intro hz;omega))
def metA (s:List Int):List AV:=(List.range 6).map fun(i:Nat)=> .d (.bool (decide ((i:Int)∈s)))
theorem znH {s:List Int}{v:Int} (h0:0<=v) (h1:v<=5):(metA s)[v.toNat]?=some (.d (.bool (decide (v∈s)))):=by
 unfold metA;rw[List.getElem?_map,List.getElem?_range (by omega)];simp only[Option.map_some];rw[Int.toNat_of_nonneg h0]
theorem znI {s:List Int}{v:Int} (h0:0<=v) (h1:v<=5):putC (metA s) v.toNat [.d (.bool true)]=some (metA (s++[v])):=by
 have e:v=0\/v=1\/v=2\/v=3\/v=4\/v=5:=by omega
 rcases e with rfl|rfl|rfl|rfl|rfl|rfl<;>simp[metA,putC,List.range_succ]
theorem zqf (t:Ty) (p:Pat):(zaM t p).length<=1:=by unfold zaM;split<;>simp
theorem zme:∀ {a b:List Int},a.Nodup->(∀x∈a,x∈b)->a.length<=b.length
 | [],b,_,_=>by simp
 |x::r,b,hn,hs=>by
  have hn':=List.nodup_cons.1 hn;have hx:=hs x (by simp);have h:=zme (a:=r) (b:=b.erase x) hn'.2 (fun y hy=>by
   have hne:y≠x:=fun e=>hn'.1 (e ▸ hy);exact(List.mem_erase_of_ne hne).2 (hs y (by simp[hy])))
  rw[List.length_erase_of_mem hx] at h;have:=List.length_pos_of_mem hx;simp only[xab];omega
def InR (l:List Vt):Prop:=∀v∈l,0<=v.var/\v.var<=5
theorem zqj {l:List Vt} (h:InR l) (hn:zcs l=true):l.length<=6:=by
 unfold zcs at hn;have h1:=of_decide_eq_true hn;have h2:∀x∈l.map Vt.var,x∈[(0:Int),1,2,3,4,5]:=fun x hx=>by
  obtain⟨v,hv,rfl⟩:=List.mem_map.1 hx;have:=h v hv;simp only[List.mem_cons,List.not_mem_nil,or_false];omega
 have:=zme h1 h2;simpa using this
theorem zjZ {g:Ty->Pat->Int->Option (List Vt)×Int}{or:Bool} (hg:∀t p c l,(g t p c).1=some l->InR l):∀(a:List Ty) (b:List Pat) (i:Nat) (acc:List Vt) (c:Int) (l:List Vt),InR acc->(zbj g or a b i acc c).1=some l->InR l
 | [],b,i,acc,c,l,ha,h=>by simp only[zbj,Option.some.injEq] at h;subst h;exact ha
 |_::_,[],i,acc,c,l,ha,h=>by simp only[zbj,Option.some.injEq] at h;subst h;exact ha
 |x::r,y::s,i,acc,c,l,ha,h=>by
  simp only[zbj] at h;cases hh:(g x y c).1 with
  |none=>rw[hh] at h;cases h
  |some m=>
   rw[hh] at h;simp only at h;split at h
   ·split at h
    ·exact zjZ hg r s (i+1) acc _ l ha h
    ·cases h
   ·refine zjZ hg r s (i+1) _ _ l (fun v hv=>?_) h;rcases List.mem_append.1 hv with hv|hv
    ·exact ha v hv
    ·exact hg x y c m hh v hv
theorem zn2 (w:List Data):∀(n:Nat) (t:Ty) (p:Pat) (c:Int) (l:List Vt),(zaK w n t p c).1=some l->InR l/\zcs l=true
 |0,t,p,c,l,h=>by simp[zaK] at h
 |n+1,t,p,c,l,h=>by
  unfold zaK at h;split at h
  ·cases h
  ·split at h
   ·rename_i h60 ho;have ho':ownP w t p=true:=by unfold okP at ho;simp only[xad] at ho;exact ho.1
    cases hk:(zbj (zaK w n) (decide (p.op=5)) (zah w t p) p.kids 0 (zaM t p) (c+1)).1 with
    |none=>unfold finV at h;rw[hk] at h;simp only at h;rw[hk] at h;cases h
    |some m=>
     have hi:InR m:=zjZ (fun t p c l h=>(zn2 w n t p c l h).1) _ _ _ _ _ m (fun v hv=>by
      unfold zaM at hv;split at hv
      ·rename_i hop;simp only[List.mem_cons,List.not_mem_nil,or_false] at hv;subst hv;exact znK ho' hop
      ·simp at hv) hk
     unfold finV at h;rw[hk] at h;simp only at h;split at h
     ·rename_i hn;rw[hk] at h;cases h
      exact⟨hi,hn⟩
     ·cases h
   ·cases h
theorem zrg (w:List Data) (n:Nat) (t:Ty) (p:Pat) (c:Int) (h:(zaK w n t p c).1.isSome=true):c+1<=(zaK w n t p c).2/\(zaK w n t p c).2<=60:=by
 have h1:=zfm w n t p c;by_cases hw:zbM w n t p c=true
 ·have h2:=h1.2 hw;simp only[zbM,xad,decide_eq_true_eq] at hw;have:=Pat.size_eq p;omega
 ·rw[if_neg hw] at h1;rw[h1.1] at h;cases h
def zdl (o:Option (List Vt)):List Vt:=o.getD []
theorem zpi {g:Ty->Pat->Int->Option (List Vt)×Int}{or:Bool}{a:List Ty}{b:List Pat}{i:Nat}{acc:List Vt}{c:Int} (ha:i<a.length) (hl:b.length=a.length) (h:(g (nth a i) (nth b i) c).1.isSome=false):
  zbj g or (a.drop i) (b.drop i) i acc c=(none,(g (nth a i) (nth b i) c).2):=by
 rw[zbd ha,zbd (l:=b) (by omega),zbj];cases hh:(g (nth a i) (nth b i) c).1 with
 |none=>rfl
 |some l=>rw[hh] at h;cases h
theorem zqv {g:Ty->Pat->Int->Option (List Vt)×Int}{or:Bool}{a:List Ty}{b:List Pat}{i:Nat}{acc:List Vt}{c:Int} (ha:i<a.length) (hl:b.length=a.length) (h:(g (nth a i) (nth b i) c).1.isSome=true) (ho:or=true/\i=1) (hs:zec acc (zdl (g (nth a i) (nth b i) c).1)=false):
  zbj g or (a.drop i) (b.drop i) i acc c=(none,(g (nth a i) (nth b i) c).2):=by
 rw[zbd ha,zbd (l:=b) (by omega),zbj];cases hh:(g (nth a i) (nth b i) c).1 with
 |none=>rfl
 |some l=>rw[hh] at hs;simp only[zdl,Option.getD_some] at hs;simp only[if_pos ho,hs,Bool.false_eq_true,if_false]
theorem zph {g:Ty->Pat->Int->Option (List Vt)×Int}{or:Bool}{a:List Ty}{b:List Pat}{i:Nat}{acc:List Vt}{c:Int} (ha:i<a.length) (hl:b.length=a.length) (h:(g (nth a i) (nth b i) c).1.isSome=true) (hs:(or=true/\i=1)->zec acc (zdl (g (nth a i) (nth b i) c).1)=true):
  zbj g or (a.drop i) (b.drop i) i acc c=zbj g or (a.drop (i+1)) (b.drop (i+1)) (i+1) (if or=true/\i=1 then acc else acc++zdl (g (nth a i) (nth b i) c).1) (g (nth a i) (nth b i) c).2:=by
 rw[zbd ha,zbd (l:=b) (by omega),zbj];cases hh:(g (nth a i) (nth b i) c).1 with
 |none=>rw[hh] at h;cases h
 |some l=>
  by_cases ho:or=true/\i=1
  ·have:=hs ho;rw[hh] at this;simp only[zdl,Option.getD_some] at this;simp only[if_pos ho,this,if_true]
  ·simp only[if_neg ho,zdl,Option.getD_some]
theorem zqw {g:Ty->Pat->Int->Option (List Vt)×Int}{or:Bool}{a:List Ty}{b:List Pat}{i:Nat}{acc:List Vt}{c:Int} (ha:a.length<=i):zbj g or (a.drop i) (b.drop i) i acc c=(some acc,c):=by
 rw[List.drop_eq_nil_of_le ha,zbj];intro a r b s h;cases h
theorem zfo (w:List Data) (n:Nat) (t:Ty) (p:Pat) (c:Int):InR (zdl (zaK w n t p c).1)/\(zdl (zaK w n t p c).1).length<=6:=by
 cases h:(zaK w n t p c).1 with
 |none=>exact⟨fun v hv=>by simp[zdl] at hv,by simp[zdl]⟩
 |some l=>
  have:=zn2 w n t p c l h;exact⟨this.1,zqj this.1 this.2⟩
structure GoodS (w:List Data) (n:Nat) (t:Ty) (p:Pat) (c:Int) (x:Nat×List Vt×Int):Prop where
 le:x.1<=p.kids.length
 eq:zbj (zaK w n) (decide (p.op=5)) ((zah w t p).drop x.1) (p.kids.drop x.1) x.1 x.2.1 x.2.2=zbj (zaK w n) (decide (p.op=5)) (zah w t p) p.kids 0 (zaM t p) (c+1)
 lc:(x.1:Int)<=x.2.2
 c0:0<=x.2.2
 c1:x.2.2<=60
 len:x.2.1.length<=1+6*x.1
 inr:InR x.2.1
def zb9 (w:List Data) (n:Nat) (t:Ty) (p:Pat) (x:Nat×List Vt×Int):Nat×List Vt×Int:=
 (x.1+1,if decide (p.op=5)=true/\x.1=1 then x.2.1 else x.2.1++zdl (zaK w n (nth (zah w t p) x.1) (nth p.kids x.1) x.2.2).1,(zaK w n (nth (zah w t p) x.1) (nth p.kids x.1) x.2.2).2)
theorem GoodS.next {w:List Data}{n:Nat}{t:Ty}{p:Pat}{c:Int}{x:Nat×List Vt×Int} (hl:p.kids.length=(zah w t p).length) (hg:GoodS w n t p c x) (hlt:x.1<p.kids.length)
  (hz:(zaK w n (nth (zah w t p) x.1) (nth p.kids x.1) x.2.2).1.isSome=true) (hs:(decide (p.op=5)=true/\x.1=1)->zec x.2.1 (zdl (zaK w n (nth (zah w t p) x.1) (nth p.kids x.1) x.2.2).1)=true):
  GoodS w n t p c (zb9 w n t p x):=by
 obtain⟨h1,h2,h3,h4,h5,h6,h7⟩:=hg;have hb:=zrg w n _ _ _ hz;have ho:=zfo w n (nth (zah w t p) x.1) (nth p.kids x.1) x.2.2;refine⟨by unfold zb9;dsimp only;omega, ?_,by unfold zb9;dsimp only;omega,by unfold zb9;dsimp only;omega,by unfold zb9;dsimp only;omega, ?_, ?_⟩
 ·rw[<-h2,zph (by omega) hl hz hs];rfl
 ·unfold zb9;dsimp only;split
  ·omega
  ·rw[xaa];omega
 ·unfold zb9;dsimp only;split
  ·exact h7
  ·intro v hv;rcases List.mem_append.1 hv with hv|hv
   ·exact h7 v hv
   ·exact ho.1 v hv
theorem GoodS.none {w:List Data}{n:Nat}{t:Ty}{p:Pat}{c:Int}{x:Nat×List Vt×Int} (hl:p.kids.length=(zah w t p).length) (hg:GoodS w n t p c x) (hlt:x.1<p.kids.length)
  (hz:(zaK w n (nth (zah w t p) x.1) (nth p.kids x.1) x.2.2).1.isSome=false):
  finV (zbj (zaK w n) (decide (p.op=5)) (zah w t p) p.kids 0 (zaM t p) (c+1))=(none,(zaK w n (nth (zah w t p) x.1) (nth p.kids x.1) x.2.2).2):=by
 rw[<-hg.eq,zpi (by omega) hl hz];rfl
theorem GoodS.bad {w:List Data}{n:Nat}{t:Ty}{p:Pat}{c:Int}{x:Nat×List Vt×Int} (hl:p.kids.length=(zah w t p).length) (hg:GoodS w n t p c x) (hlt:x.1<p.kids.length)
  (hz:(zaK w n (nth (zah w t p) x.1) (nth p.kids x.1) x.2.2).1.isSome=true) (ho:p.op=5/\x.1=1) (hs:zec x.2.1 (zdl (zaK w n (nth (zah w t p) x.1) (nth p.kids x.1) x.2.2).1)=false):
  finV (zbj (zaK w n) (decide (p.op=5)) (zah w t p) p.kids 0 (zaM t p) (c+1))=(Option.none,(zaK w n (nth (zah w t p) x.1) (nth p.kids x.1) x.2.2).2):=by
 rw[<-hg.eq,zqv (by omega) hl hz (by simpa using ho) hs];rfl
theorem GoodS.fin {w:List Data}{n:Nat}{t:Ty}{p:Pat}{c:Int}{x:Nat×List Vt×Int} (hl:p.kids.length=(zah w t p).length) (hg:GoodS w n t p c x) (hge:p.kids.length<=x.1):
  finV (zbj (zaK w n) (decide (p.op=5)) (zah w t p) p.kids 0 (zaM t p) (c+1))=(if zcs x.2.1=true then some x.2.1 else Option.none,x.2.2):=by
 rw[<-hg.eq,zqw (by omega)];unfold finV;simp only;split<;>rfl
theorem zqi {pre rest l:List Vt}{y:Vt} (h:pre++y::rest=l) (hm:y.var∈pre.map Vt.var):zcs l=false:=by
 unfold zcs;refine decide_eq_false (fun hn=>?_);rw[<-h,xaf,xae,List.nodup_append] at hn;exact hn.2.2 _ hm _ (by simp) rfl
theorem zkL {pre:List Vt}{y:Vt} (h:(pre.map Vt.var).Nodup) (hm:y.var∉pre.map Vt.var):((pre++[y]).map Vt.var).Nodup:=by
 rw[xaf,List.nodup_append];exact⟨h,by simp,fun a ha b hb=>by simp at hb;subst hb;exact fun e=>hm (e ▸ ha)⟩
def retV (r:Option (List Vt)×Int):AV:= .tup [.d (zbt (zdl r.1)),.d (.bool r.1.isSome)]
theorem zdS {w:List Data} (hw:WT w):∀(n:Nat){a k d c:Int}{p:Pat},d+n=11->n<=10->TyIn w.length ⟨a,k⟩->p.ok->0<=c->c<=1000000000000->
  FnD Tryz.prog 130 [.d (zak w),.agg [.d (.i a),.d (.i k)],.agg [.d (.i p.op),.d (.i p.ctor),.d (.i p.n),.d (.i p.m),.d (.i p.var),.d (zaQ p.kids)],.d (.i d),.ref 950 0] [(950,some (.box [.d (.i c)]))]
   (retV (zaK w n ⟨a,k⟩ p c)) [(950,some (.box [.d (.i (zaK w n ⟨a,k⟩ p c).2)]))]
 |0,a,k,d,c,p,hd,_,_,_,c0,c1=>by
  refine bd Tryz.f130 114 [] [2] fun w0 F0 own kept hk=>?_;refine bx 3006 ?_;refine bx 3007 ?_;refine ev ?_;refine ar ?_;refine so ty3 ?_;refine tv ?_;refine xam ?_;refine xau 8 [(34,.d (.bool (true)))] [27,28,29,30,31,32,33] ?_ ?_;refine ev ?_;refine sq ?_ ?_<;>intro h1 h1p h1s;exact jnb rfl;exact jnb rfl;refine xat ?_;refine tv ?_;refine sq ?_ ?_<;>intro h2 h2p h2s;refine rn [(950,some (.box [.d (.i (zaK w 0 ⟨a,k⟩ p c).2)]))] (r2 rfl rfl) (.tup (.cons (.nild ?_) (.cons (.eqd ?_) .nil))) ⟨rfl,rfl⟩ (SubO.get ⟨.inr ?_,⟨.inl rfl,trivial⟩⟩) (zaI rfl);rotate_left 3;exact absurd h2 (by simp);all_goals (first|((rfl);done)|(rfl))
 |n+1,a,k,d,c,p,hd,hn,ht,hok,c0,c1=>by
  by_cases h60:60<c+1
  ·have e:zaK w (n+1) ⟨a,k⟩ p c=(none,c+1):=by unfold zaK;rw[if_pos h60]
   rw[e];refine bd Tryz.f130 114 [] [2] fun w0 F0 own kept hk=>?_;refine bx 3006 ?_;refine bx 3007 ?_;refine ev ?_;refine ar ?_;refine so ty3 ?_;refine tv ?_;refine xam ?_;refine xau 8 [(34,.d (.bool (true)))] [27,28,29,30,31,32,33] ?_ ?_;refine ev ?_;refine sq ?_ ?_<;>intro h1 h1p h1s;exact jnb rfl;exact jnb rfl;refine xat ?_;refine tv ?_;refine sq ?_ ?_<;>intro h2 h2p h2s;refine rn [(950,some (.box [.d (.i (c+1))]))] (r2 rfl rfl) (.tup (.cons (.nild ?_) (.cons (.eqd ?_) .nil))) ⟨rfl,rfl⟩ (SubO.get ⟨.inr ?_,⟨.inl rfl,trivial⟩⟩) (zaI rfl);rotate_left 3;exact absurd h2 (by simp);all_goals (first|((rfl);done)|(rfl))
  have hsh:=zmC hw (p:=p) ht;by_cases hop:okP w ⟨a,k⟩ p=true
  ·have hok':=hok;rw[Pat.ok_iff] at hok;have hop':=hop;unfold okP at hop';simp only[xad,decide_eq_true_eq] at hop';obtain⟨ho,hl⟩:=hop';have hin:=zef hw ht ho;have hlen:=zgd hw ht (zcI ho);have hst:zds w ⟨a,k⟩ p=zah w ⟨a,k⟩ p:=by unfold zds;rw[if_neg (fun h=>h.2 (zcI ho h.1))]
   rw[hst,hop] at hsh;have e:zaK w (n+1) ⟨a,k⟩ p c=finV (zbj (zaK w n) (decide (p.op=5)) (zah w ⟨a,k⟩ p) p.kids 0 (zaM ⟨a,k⟩ p) (c+1)):=by
    conv=>lhs;unfold zaK
    rw[if_neg h60,if_pos hop]
   have hnr:InR (zaM ⟨a,k⟩ p):=fun v hv=>by
    unfold zaM at hv;split at hv
    ·rename_i hop;simp only[List.mem_cons,List.not_mem_nil,or_false] at hv;subst hv;exact znK ho hop
    ·simp at hv
   have hnl:=zqf ⟨a,k⟩ p;rw[e];refine bd Tryz.f130 114 [14,108] [2,8,17] fun w0 F0 own kept hk=>?_;refine bx 3006 ?_;refine bx 3007 ?_;refine evs [14,108] [] ?_;refine ar ?_;refine so ty3 ?_;refine tv ?_;refine xam ?_;refine xau 8 [(34,.d (.bool (false)))] [27,28,29,30,31,32,33] ?_ ?_;refine evs [14,108] [] ?_;refine sq ?_ ?_<;>intro h1 h1p h1s;exact jnb rfl;exact jnb rfl;refine xat ?_;refine tv ?_;refine sq ?_ ?_<;>intro h2 h2p h2s;exact absurd h2 (by simp);refine wc zpH (hsh) rfl rfl ?_;refine evs [14,108] [] ?_;refine sq ?_ ?_<;>intro h3 h3p h3s;exact absurd h3 (by simp);refine xaz 5 3 .none rfl rfl ?_;refine tv ?_;refine xam ?_;refine xau 8 [(51,.d (.bool (decide (p.op=2\/p.op=6))))] [44,45,46,47,48,49,50] ?_ ?_;refine evs [14,108] [] ?_;refine sq ?_ ?_<;>intro h4 h4p h4s;exact jnb rfl;exact jnb rfl;refine xat ?_;refine tv ?_;refine sq ?_ ?_<;>intro h5 h5p h5s;refine bu [0,1] [_,_] zpl ?_;refine si [0] [_] sl66 zmY ?_;refine ap sl66 zm0 rfl rfl rfl (by simp) (by(simp;done)) ?_;refine asg ?_;refine tv ?_;refine xak (ι:=Nat×List Vt×Int) hk (fun z=>[(62,.d (.i (z.1:Int))),(14,.gl 5 (z.2.1.map Vt.c))]) [10,11,15,16,17,18,63,64,65,66,67,68,69,70,71,72,73,74,75,76,77,78,79,80,81,82,83,84,85,86,87,88,89,90,91,92,93,94,95,96,97,98] (fun z=>[(950,some (.box [.d (.i z.2.2)])),(5,some (.tok ((z.2.1.map Vt.c)).length 3))]) (fun z=>GoodS w n ⟨a,k⟩ p c z) (fun z=>p.kids.length-z.1) (0,zaM ⟨a,k⟩ p,c+1) ⟨by simp,by simp,by dsimp only;omega,by dsimp only;omega,by dsimp only;omega,by dsimp only;omega,hnr⟩ ⟨⟨_,rfl,xap ?_⟩,⟨⟨_,rfl,LeA.glg ?_⟩,trivial⟩⟩ ⟨?_,⟨zaf ?_,trivial⟩⟩ (fun x=>rfl) (fun z hg1=>?_);iterate 2 focus (first|rfl|(simp_all[zaM];done))
   focus (first|rfl|(simp[getH];done))
   focus (first|rfl|(simp_all[zaM];done))
   obtain⟨s1,_,s3,s4,s5,s6,s7⟩:=id hg1;refine evc [14,108] [2,8,17] ?_;refine sq ?_ ?_<;>intro h6 h6p h6s<;>(try simp only[Q,Pat.cs_len] at h6p);refine Walk.idx sl72 .none rfl rfl rfl rfl (zb5 (by omega)) rfl ?_;refine evs [14,108] [] ?_;refine ab 3016 tz74 ?_;refine evs [14,108] [] ?_;refine so ty74 ?_;refine tv ?_;refine Walk.idx zax .none rfl rfl rfl rfl (zae (by omega)) rfl ?_;refine evd [14,108] [] ?_;refine ar ?_;refine wd zm8 (zdS hw n (a:=(nth (zah w ⟨a,k⟩ p) z.1).data) (k:=(nth (zah w ⟨a,k⟩ p) z.1).index) (c:=z.2.2) (p:=nth p.kids z.1) (by omega) (by omega) (hin _ (zaj (by omega))) (Pats.ok_mem hok.2 _ (zaj (by omega))) (by omega) (by omega)) rfl rfl ⟨rfl,trivial⟩ ?_;refine evd [14,108] [] ?_;refine dr ?_;refine sq ?_ ?_<;>intro h7 h7p h7s;refine rn [(950,some (.box [.d (.i (finV (zbj (zaK w n) (decide (p.op=5)) (zah w ⟨a,k⟩ p) p.kids 0 (zaM ⟨a,k⟩ p) (c+1))).2)]))] (r2 rfl rfl) (.tup (.cons (.nild ?_) (.cons (.eqd ?_) .nil))) ⟨rfl,rfl⟩ (SubO.get ⟨.inr ?_,⟨.inl rfl,trivial⟩⟩) (zaI rfl);rotate_left 3;refine xam ?_;refine xau 7 [(93,.d (.bool (decide (p.op=5/\z.1=1))))] [87,88,89,90,91,92] ?_ ?_;refine evs [14,108] [] ?_;refine sq ?_ ?_<;>intro h8 h8p h8s;exact jnb rfl;exact jnb rfl;refine xat ?_;refine evs [14,108] [] ?_;refine sq ?_ ?_<;>intro h9 h9p h9s<;>(try simp only[Q,Pat.cs_len] at h9p);refine Walk.call (cr:=[]) zpI (zgx (by omega) (by have hz:=(zfo w n ⟨(nth (zah w ⟨a,k⟩ p) z.1).data,(nth (zah w ⟨a,k⟩ p) z.1).index⟩ (nth p.kids z.1) z.2.2).2;omega)) rfl .none rfl rfl (.cons (.gl _ _) (.cons (.refl _) .nil)) trivial rfl rfl rfl ?_;refine evs [14,108] [] ?_;refine sq ?_ ?_<;>intro h10 h10p h10s<;>(try simp only[Q,Pat.cs_len] at h10p);refine rn [(950,some (.box [.d (.i (finV (zbj (zaK w n) (decide (p.op=5)) (zah w ⟨a,k⟩ p) p.kids 0 (zaM ⟨a,k⟩ p) (c+1))).2)]))] (r2 rfl rfl) (.tup (.cons (.nild ?_) (.cons (.eqd ?_) .nil))) ⟨rfl,rfl⟩ (SubO.get ⟨.inr ?_,⟨.inl rfl,trivial⟩⟩) (zaI rfl);rotate_left 3;refine ar ?_;refine xah ((zb9 w n ⟨a,k⟩ p z)) ⟨(hg1.next hl (by omega) (by simp_all) (fun ho=>by simp_all)),(by unfold zb9;dsimp only;omega),sx ⟨⟨_,rfl,xap ?_⟩,⟨⟨_,rfl,LeA.glg ?_⟩,trivial⟩⟩ ⟨?_,⟨zaf ?_,trivial⟩⟩⟩;iterate 2 focus (first|rfl|(simp_all[zaM];done))
   focus (first|rfl|(simp[getH];done))
   focus (first|rfl|(simp_all[zaM];done))
   refine ap sl66 zm0 rfl rfl rfl (by simp) (by first|(simp;done)|(have hz:=(zfo w n ⟨(nth (zah w ⟨a,k⟩ p) z.1).data,(nth (zah w ⟨a,k⟩ p) z.1).index⟩ (nth p.kids z.1) z.2.2).2;simp;omega)) ?_;refine asg ?_;refine tv ?_;refine ar ?_;refine xah ((zb9 w n ⟨a,k⟩ p z)) ⟨(hg1.next hl (by omega) (by simp_all) (fun ho=>by simp_all)),(by unfold zb9;dsimp only;omega),sx ⟨⟨_,rfl,xap ?_⟩,⟨⟨_,rfl,LeA.glg ?_⟩,trivial⟩⟩ ⟨?_,⟨zaf ?_,trivial⟩⟩⟩;iterate 2 focus (first|rfl|(simp_all[zaM];done)|(unfold zb9;dsimp only;rw[if_neg (by simp_all)];simp;done))
   focus (first|rfl|(simp[getH];done))
   focus (first|rfl|(simp_all[zaM];done)|(unfold zb9;dsimp only;rw[if_neg (by simp_all)];simp;done))
   refine ab 3019 zpo ?_;refine tv ?_;refine xak (ι:=List (Vt)×List (Vt)) hk (fun x=>[(101,.d (.i (x.1.length:Int)))]) [10,11,21,102,103,104,105,106,107,108,109,110,111,112] (fun x=>[(3019,some (.box (metA (x.1.map Vt.var))))]) (fun x=>x.1++x.2=z.2.1/\(x.1.map Vt.var).Nodup) (fun x=>x.2.length) ([],z.2.1) ⟨by simp,by simp⟩ ⟨⟨_,rfl,xap ?_⟩,trivial⟩ ⟨?_,trivial⟩ (fun x=>rfl) (fun x hg2=>?_);focus (first|rfl|omega)
   focus (first|rfl|(simp[getH];done))
   obtain⟨pre,rest⟩:=x;dsimp only at hg2 ⊢;refine evc [14,108] [2,8,17] ?_;refine sq ?_ ?_<;>intro h11 h11p h11s<;>(try simp only[Q,Pat.cs_len] at h11p);rcases rest with _|⟨y,rest⟩
   ·exfalso;simp_all
   have hy:=s7 y (by rw[<-hg2.1];simp);refine xaP sl66 .none rfl rfl rfl rfl (zaH hg2.1) rfl ?_;refine evs [14,108] [] ?_;refine ab 3021 zmY ?_;refine so zrM ?_;refine tv ?_;refine xaO (i:=y.var.toNat) zmK .none rfl rfl rfl (Int.toNat_of_nonneg hy.1).symm (by omega) ?_;refine xaV ty4 .none rfl rfl rfl ((by simpa using znH hy.1 hy.2)) ?_;refine tv ?_;refine sq ?_ ?_<;>intro h12 h12p h12s<;>(try simp only[Q,Pat.cs_len] at h12p);refine rn [(950,some (.box [.d (.i (finV (zbj (zaK w n) (decide (p.op=5)) (zah w ⟨a,k⟩ p) p.kids 0 (zaM ⟨a,k⟩ p) (c+1))).2)]))] (r2 rfl rfl) (.tup (.cons (.nild ?_) (.cons (.eqd ?_) .nil))) ⟨rfl,rfl⟩ (SubO.get ⟨.inr ?_,⟨.inl rfl,trivial⟩⟩) (zaI rfl);rotate_left 3;refine xaO (i:=y.var.toNat) zmK .none rfl rfl rfl (Int.toNat_of_nonneg hy.1).symm (by omega) ?_;refine Walk.store ty4 .none rfl rfl rfl rfl rfl rfl (by simp) ((by simpa using znI hy.1 hy.2)) ?_;refine tv ?_;refine ar ?_;refine xah ((pre++[y],rest)) ⟨⟨(by have hz:=hg2.1;rw[<-hz];simp),(zkL hg2.2 (by simp_all))⟩,(by simp),sx ⟨⟨_,rfl,xap ?_⟩,trivial⟩ ⟨?_,trivial⟩⟩;focus (first|rfl|(simp;done)|omega)
   focus (first|rfl|(simp[getH];done))
   have hrest:rest=[]:=by
    rcases rest with _|⟨a,b⟩
    ·rfl
    ·exfalso;have hz:=congrArg List.length (hg2.1);simp only[xaa,xab,xac] at hz;omega
   subst hrest;refine rn [(950,some (.box [.d (.i (finV (zbj (zaK w n) (decide (p.op=5)) (zah w ⟨a,k⟩ p) p.kids 0 (zaM ⟨a,k⟩ p) (c+1))).2)]))] (r2 rfl rfl) (.tup (.cons (.gld ?_) (.cons (.eqd ?_) .nil))) ⟨rfl,rfl⟩ (SubO.get ⟨.inr ?_,⟨.inl rfl,trivial⟩⟩) (zaI rfl);rotate_left 3;try simp only[Q,Pat.cs_len] at h5p
   refine xak (ι:=Nat×List Vt×Int) hk (fun z=>[(62,.d (.i (z.1:Int))),(14,.gl 5 (z.2.1.map Vt.c))]) [10,11,15,16,17,18,63,64,65,66,67,68,69,70,71,72,73,74,75,76,77,78,79,80,81,82,83,84,85,86,87,88,89,90,91,92,93,94,95,96,97,98] (fun z=>[(950,some (.box [.d (.i z.2.2)])),(5,some (.tok ((z.2.1.map Vt.c)).length 3))]) (fun z=>GoodS w n ⟨a,k⟩ p c z) (fun z=>p.kids.length-z.1) (0,zaM ⟨a,k⟩ p,c+1) ⟨by simp,by simp,by dsimp only;omega,by dsimp only;omega,by dsimp only;omega,by dsimp only;omega,hnr⟩ ⟨⟨_,rfl,xap ?_⟩,⟨⟨_,rfl,LeA.glg ?_⟩,trivial⟩⟩ ⟨?_,⟨zaf ?_,trivial⟩⟩ (fun x=>rfl) (fun z hg1=>?_);iterate 2 focus (first|rfl|(simp_all[zaM];done))
   focus (first|rfl|(simp[getH];done))
   focus (first|rfl|(simp_all[zaM];done))
   obtain⟨s1,_,s3,s4,s5,s6,s7⟩:=id hg1;refine evc [14,108] [2,8,17] ?_;refine sq ?_ ?_<;>intro h13 h13p h13s<;>(try simp only[Q,Pat.cs_len] at h13p);refine Walk.idx sl72 .none rfl rfl rfl rfl (zb5 (by omega)) rfl ?_;refine evs [14,108] [] ?_;refine ab 3016 tz74 ?_;refine evs [14,108] [] ?_;refine so ty74 ?_;refine tv ?_;refine Walk.idx zax .none rfl rfl rfl rfl (zae (by omega)) rfl ?_;refine evd [14,108] [] ?_;refine ar ?_;refine wd zm8 (zdS hw n (a:=(nth (zah w ⟨a,k⟩ p) z.1).data) (k:=(nth (zah w ⟨a,k⟩ p) z.1).index) (c:=z.2.2) (p:=nth p.kids z.1) (by omega) (by omega) (hin _ (zaj (by omega))) (Pats.ok_mem hok.2 _ (zaj (by omega))) (by omega) (by omega)) rfl rfl ⟨rfl,trivial⟩ ?_;refine evd [14,108] [] ?_;refine dr ?_;refine sq ?_ ?_<;>intro h14 h14p h14s<;>(try simp only[Q,Pat.cs_len] at h14p);refine rn [(950,some (.box [.d (.i (finV (zbj (zaK w n) (decide (p.op=5)) (zah w ⟨a,k⟩ p) p.kids 0 (zaM ⟨a,k⟩ p) (c+1))).2)]))] (r2 rfl rfl) (.tup (.cons (.nild ?_) (.cons (.eqd ?_) .nil))) ⟨rfl,rfl⟩ (SubO.get ⟨.inr ?_,⟨.inl rfl,trivial⟩⟩) (zaI rfl);rotate_left 3;refine xam ?_;refine xau 7 [(93,.d (.bool (decide (p.op=5/\z.1=1))))] [87,88,89,90,91,92] ?_ ?_;refine evs [14,108] [] ?_;refine sq ?_ ?_<;>intro h15 h15p h15s<;>(try simp only[Q,Pat.cs_len] at h15p);exact jnb rfl;exact jnb rfl;refine xat ?_;refine evs [14,108] [] ?_;refine sq ?_ ?_<;>intro h16 h16p h16s<;>(try simp only[Q,Pat.cs_len] at h16p);refine Walk.call (cr:=[]) zpI (zgx (by omega) (by have hz:=(zfo w n ⟨(nth (zah w ⟨a,k⟩ p) z.1).data,(nth (zah w ⟨a,k⟩ p) z.1).index⟩ (nth p.kids z.1) z.2.2).2;omega)) rfl .none rfl rfl (.cons (.gl _ _) (.cons (.refl _) .nil)) trivial rfl rfl rfl ?_;refine evs [14,108] [] ?_;refine sq ?_ ?_<;>intro h17 h17p h17s<;>(try simp only[Q,Pat.cs_len] at h17p);refine rn [(950,some (.box [.d (.i (finV (zbj (zaK w n) (decide (p.op=5)) (zah w ⟨a,k⟩ p) p.kids 0 (zaM ⟨a,k⟩ p) (c+1))).2)]))] (r2 rfl rfl) (.tup (.cons (.nild ?_) (.cons (.eqd ?_) .nil))) ⟨rfl,rfl⟩ (SubO.get ⟨.inr ?_,⟨.inl rfl,trivial⟩⟩) (zaI rfl);rotate_left 3;refine ar ?_;refine xah ((zb9 w n ⟨a,k⟩ p z)) ⟨(hg1.next hl (by omega) (by simp_all) (fun ho=>by simp_all)),(by unfold zb9;dsimp only;omega),sx ⟨⟨_,rfl,xap ?_⟩,⟨⟨_,rfl,LeA.glg ?_⟩,trivial⟩⟩ ⟨?_,⟨zaf ?_,trivial⟩⟩⟩;iterate 2 focus (first|rfl|(simp_all[zaM];done)|(unfold zb9;dsimp only;rw[if_pos (by simp_all)];done))
   focus (first|rfl|(simp[getH];done))
   focus (first|rfl|(simp_all[zaM];done)|(unfold zb9;dsimp only;rw[if_pos (by simp_all)];done))
   refine ap sl66 zm0 rfl rfl rfl (by simp) (by first|(simp;done)|(have hz:=(zfo w n ⟨(nth (zah w ⟨a,k⟩ p) z.1).data,(nth (zah w ⟨a,k⟩ p) z.1).index⟩ (nth p.kids z.1) z.2.2).2;simp;omega)) ?_;refine asg ?_;refine tv ?_;refine ar ?_;refine xah ((zb9 w n ⟨a,k⟩ p z)) ⟨(hg1.next hl (by omega) (by simp_all) (fun ho=>by simp_all)),(by unfold zb9;dsimp only;omega),sx ⟨⟨_,rfl,xap ?_⟩,⟨⟨_,rfl,LeA.glg ?_⟩,trivial⟩⟩ ⟨?_,⟨zaf ?_,trivial⟩⟩⟩;iterate 2 focus (first|rfl|(simp_all[zaM];done)|(unfold zb9;dsimp only;rw[if_neg (by simp_all)];simp;done))
   focus (first|rfl|(simp[getH];done))
   focus (first|rfl|(simp_all[zaM];done)|(unfold zb9;dsimp only;rw[if_neg (by simp_all)];simp;done))
   refine ab 3019 zpo ?_;refine tv ?_;refine xak (ι:=List (Vt)×List (Vt)) hk (fun x=>[(101,.d (.i (x.1.length:Int)))]) [10,11,21,102,103,104,105,106,107,108,109,110,111,112] (fun x=>[(3019,some (.box (metA (x.1.map Vt.var))))]) (fun x=>x.1++x.2=z.2.1/\(x.1.map Vt.var).Nodup) (fun x=>x.2.length) ([],z.2.1) ⟨by simp,by simp⟩ ⟨⟨_,rfl,xap ?_⟩,trivial⟩ ⟨?_,trivial⟩ (fun x=>rfl) (fun x hg2=>?_);focus (first|rfl|omega)
   focus (first|rfl|(simp[getH];done))
   obtain⟨pre,rest⟩:=x;dsimp only at hg2 ⊢;refine evc [14,108] [2,8,17] ?_;refine sq ?_ ?_<;>intro h18 h18p h18s<;>(try simp only[Q,Pat.cs_len] at h18p);rcases rest with _|⟨y,rest⟩
   ·exfalso;simp_all
   have hy:=s7 y (by rw[<-hg2.1];simp);refine xaP sl66 .none rfl rfl rfl rfl (zaH hg2.1) rfl ?_;refine evs [14,108] [] ?_;refine ab 3021 zmY ?_;refine so zrM ?_;refine tv ?_;refine xaO (i:=y.var.toNat) zmK .none rfl rfl rfl (Int.toNat_of_nonneg hy.1).symm (by omega) ?_;refine xaV ty4 .none rfl rfl rfl ((by simpa using znH hy.1 hy.2)) ?_;refine tv ?_;refine sq ?_ ?_<;>intro h19 h19p h19s<;>(try simp only[Q,Pat.cs_len] at h19p);refine rn [(950,some (.box [.d (.i (finV (zbj (zaK w n) (decide (p.op=5)) (zah w ⟨a,k⟩ p) p.kids 0 (zaM ⟨a,k⟩ p) (c+1))).2)]))] (r2 rfl rfl) (.tup (.cons (.nild ?_) (.cons (.eqd ?_) .nil))) ⟨rfl,rfl⟩ (SubO.get ⟨.inr ?_,⟨.inl rfl,trivial⟩⟩) (zaI rfl);rotate_left 3;refine xaO (i:=y.var.toNat) zmK .none rfl rfl rfl (Int.toNat_of_nonneg hy.1).symm (by omega) ?_;refine Walk.store ty4 .none rfl rfl rfl rfl rfl rfl (by simp) ((by simpa using znI hy.1 hy.2)) ?_;refine tv ?_;refine ar ?_;refine xah ((pre++[y],rest)) ⟨⟨(by have hz:=hg2.1;rw[<-hz];simp),(zkL hg2.2 (by simp_all))⟩,(by simp),sx ⟨⟨_,rfl,xap ?_⟩,trivial⟩ ⟨?_,trivial⟩⟩;focus (first|rfl|(simp;done)|omega)
   focus (first|rfl|(simp[getH];done))
   have hrest:rest=[]:=by
    rcases rest with _|⟨a,b⟩
    ·rfl
    ·exfalso;have hz:=congrArg List.length (hg2.1);simp only[xaa,xab,xac] at hz;omega
   subst hrest;refine rn [(950,some (.box [.d (.i (finV (zbj (zaK w n) (decide (p.op=5)) (zah w ⟨a,k⟩ p) p.kids 0 (zaM ⟨a,k⟩ p) (c+1))).2)]))] (r2 rfl rfl) (.tup (.cons (.gld ?_) (.cons (.eqd ?_) .nil))) ⟨rfl,rfl⟩ (SubO.get ⟨.inr ?_,⟨.inl rfl,trivial⟩⟩) (zaI rfl);rotate_left 3;all_goals (((first|(rw[hg1.none hl (by omega) (by assumption)];first|done|rfl)|(rw[hg1.bad hl (by omega) (by assumption) (by assumption) (by assumption)];first|done|rfl)|(rw[hg1.fin hl (by omega),if_neg (by rw[zqi hg2.1 (by assumption)];simp)];first|done|rfl)|(rw[hg1.fin hl (by omega),if_pos (by have hz:=hg2.1;rw[List.append_nil] at hz;rw[<-hz];exact decide_eq_true hg2.2)];first|done|rfl));done))
  ·have hopf:okP w ⟨a,k⟩ p=false:=by simpa using hop
   have e:zaK w (n+1) ⟨a,k⟩ p c=(none,c+1):=by unfold zaK;rw[if_neg h60,if_neg hop]
   rw[e];rw[hopf] at hsh;refine bd Tryz.f130 114 [] [2] fun w0 F0 own kept hk=>?_;refine bx 3006 ?_;refine bx 3007 ?_;refine ev ?_;refine ar ?_;refine so ty3 ?_;refine tv ?_;refine xam ?_;refine xau 8 [(34,.d (.bool (false)))] [27,28,29,30,31,32,33] ?_ ?_;refine ev ?_;refine sq ?_ ?_<;>intro h1 h1p h1s;exact jnb rfl;exact jnb rfl;refine xat ?_;refine tv ?_;refine sq ?_ ?_<;>intro h2 h2p h2s;exact absurd h2 (by simp);refine wc zpH (hsh) rfl rfl ?_;refine ev ?_;refine sq ?_ ?_<;>intro h3 h3p h3s;refine rn [(950,some (.box [.d (.i (c+1))]))] (r2 rfl rfl) (.tup (.cons (.nild ?_) (.cons (.eqd ?_) .nil))) ⟨rfl,rfl⟩ (SubO.get ⟨.inr ?_,⟨.inl rfl,trivial⟩⟩) (zaI rfl);rotate_left 3;exact absurd h3 (by simp);all_goals (first|((rfl);done)|(rfl))
end Go.Proofs.YtmchfdpleibpdaaGreat
namespace Go.Proofs.YtmchfdpleibpdaaGreat
open Go
set_option linter.unusedSimpArgs false
set_option linter.unusedVariables false
set_option maxRecDepth 100000
set_option maxHeartbeats 2000000
end Go.Proofs.YtmchfdpleibpdaaGreat
namespace Go.Proofs.YtmchfdpleibpdaaGreat
open Go
set_option linter.unusedSimpArgs false
set_option linter.unusedVariables false
set_option maxRecDepth 100000
set_option maxHeartbeats 4000000
theorem zug (w:List Data) (t:Ty) (p:Pat):(zaK w 10 t p 0).1.isSome=isP w t p:=by
 have h:=(zfm w 10 t p 0).1;rw[h];unfold zbM isP;rw[Int.zero_add];split
 ·rename_i hz;rw[hz];rfl
 ·rename_i hz;cases hc:(zav w 10 t p&&(decide ((p.size:Int)<=60)&&linP w 10 t p)) with
  |true=>exact absurd hc hz
  |false=>rfl
theorem zfb {w:List Data} (hw:WT w){a k:Int}{p:Pat} (ht:TyIn w.length ⟨a,k⟩) (hok:p.ok):
  FnD Tryz.prog 73 [.d (zak w),.agg [.d (.i a),.d (.i k)],.agg [.d (.i p.op),.d (.i p.ctor),.d (.i p.n),.d (.i p.m),.d (.i p.var),.d (zaQ p.kids)]] [] (.tup [.d (zbt (zdl (zaK w 10 ⟨a,k⟩ p 0).1)),.d (.bool (isP w ⟨a,k⟩ p))]) []:=by
 rw[<-zug];refine bd Tryz.f73 15 [] [] fun w0 F0 own kept hk=>?_;refine bx 3004 ?_;refine bx 3005 ?_;refine ev ?_;refine ab 950 tz3 ?_;refine so ty3 ?_;refine tv ?_;refine wd zm8 (zdS hw 10 (c:=0) (by omega) (by omega) ht hok (by omega) (by omega)) rfl rfl ⟨rfl,trivial⟩ ?_;refine ev ?_;refine rn0 (r2 rfl rfl) (.tup (.cons (.eqd ?_) (.cons (.eqd ?_) .nil)));rotate_left 2;all_goals (rfl)
end Go.Proofs.YtmchfdpleibpdaaGreat
namespace Go.Proofs.YtmchfdpleibpdaaGreat
open Go
set_option linter.unusedSimpArgs false
set_option linter.unusedVariables false
set_option maxRecDepth 100000
set_option maxHeartbeats 2000000
structure PKids (w:List Data) (n:Nat) (a k k':Int) (p:Pat):Prop where
 len5:p.op=5->p.kids.length=2
 len6:p.op=6->p.kids.length=1
 len4:p.op=4->p.kids.length=(zaq w ⟨a,k⟩ p.ctor).length
 one:p.op=5\/p.op=6->zav w n ⟨a,k'⟩ (nth p.kids 0)=true
 two:p.op=5->zav w n ⟨a,k'⟩ (nth p.kids 1)=true
 arg:p.op=4->∀i,i<(zaq w ⟨a,k⟩ p.ctor).length->zav w n ⟨(nth (zaq w ⟨a,k⟩ p.ctor) i).data,(nth (zaq w ⟨a,k'⟩ p.ctor) i).index⟩ (nth p.kids i)=true
 mem:p.op=4->p.ctor∈zaJ w ⟨a,k'⟩
 ops:p.op=1\/p.op=2\/(p.op=3/\a = -1)\/p.op=4\/p.op=5\/p.op=6
def Few (w:List Data):Prop:=∀t c,c∈zaJ w t->TyIn w.length t->(zaq w t c).length<=3/\∀u∈zaq w t c,TyIn w.length u
theorem Pat.cs_cc (l:List Pat):Pat.cs l=l.map Pat.cc:=by
 rw[Pat.cs_eq];exact List.map_congr_left (fun v _=>Pat.c_eq v)
theorem zcM {w:List Data}{a k:Int} (h:zba w ⟨a,k⟩=true):zaC w=true/\TyIn w.length ⟨a,k⟩/\(a≠ -1->0<=a/\a.toNat<w.length/\0<=k/\k<=3):=by
 unfold zba at h;rw[xad] at h;obtain⟨h1,h2⟩:=h;simp only[za8,zal,Bool.or_eq_true,xad,decide_eq_true_eq,and_true] at h2;refine⟨h1, ?_,fun ha=>by omega⟩;rcases h2 with h|h
 ·exact .inl h.1
 ·exact .inr ⟨a.toNat,by simp only;omega,by omega⟩
structure PVal (w:List Data) (a k:Int) (p:Pat):Prop where
 dp:Dp w
 tin:TyIn w.length ⟨a,k⟩
 shape:zav w 10 ⟨a,k⟩ p=true
 rng:a≠ -1->0<=a/\a.toNat<w.length/\0<=k/\k<=3
theorem zdF {w:List Data}{a b:Int} (hs:WSmall w):FnD Tryz.prog 86 [.d (zak w),.agg [.d (.i a),.d (.i b)]] [] (.d (.bool (zba w ⟨a,b⟩))) []:=by
 rw[<-zsl];exact zjo hs
def smB (n:Nat) (w:List Data):Bool:=decide (w.length<=n)&&w.all fun d=>decide (d.name.length<=n)&&(decide (d.ctors.length<=n)&&d.ctors.all fun c=>decide (c.name.length<=n)&&decide (c.args.length<=n))
structure Sm (n:Nat) (w:List Data):Prop where
 len:w.length<=n
 data:∀d∈w,d.name.length<=n/\d.ctors.length<=n
 ctor:∀d∈w,∀c∈d.ctors,c.name.length<=n/\c.args.length<=n
theorem zqz {n:Nat}{w:List Data} (h:smB n w=true):Sm n w:=by
 simp only[smB,xad,decide_eq_true_eq,List.all_eq_true] at h;exact⟨h.1,fun d hd=>⟨(h.2 d hd).1,(h.2 d hd).2.1⟩,fun d hd c hc=>(h.2 d hd).2.2 c hc⟩
theorem Sm.small {n:Nat}{w:List Data} (h:Sm n w) (hn:n<=1000000000000):WSmall w:=
 ⟨Nat.le_trans h.len hn,fun d hd=>⟨Nat.le_trans (h.data d hd).1 hn,Nat.le_trans (h.data d hd).2 hn⟩,fun d hd c hc=>⟨Nat.le_trans (h.ctor d hd c hc).1 hn,Nat.le_trans (h.ctor d hd c hc).2 hn⟩⟩
theorem znJ {b:Str}{p:Nat}{l:List Str}{n:Nat} (h:∀s∈l,s.length<=n) (hl:1<=l.length):(ofV b p l).length<=n:=by
 have:=zd9 (b:=b) (p:=p) (n:=(l.length:Int)) (by omega);exact h _ (zaj (by omega))
theorem Sm.mut {n:Nat}{w:List Data} (h:Sm n w) (b:Str) (p:Nat):Sm (n+10) (mutW b p w).1:=by
 have up:Sm (n+10) w:=⟨by have:=h.len;omega,fun d hd=>by have:=h.data d hd;omega,fun d hd c hc=>by have:=h.ctor d hd c hc;omega⟩;unfold mutW;split
 ·exact up
 rename_i c0 cr hc;by_cases hi:(zap b p w.length).toNat<w.length
 ·have hy:nth w (zap b p w.length).toNat∈w:=zaj hi;generalize nth w (zap b p w.length).toNat=y at hc hy ⊢;have hyc:=h.ctor y hy;have hyd:=h.data y hy;rw[hc] at hyc hyd;have hy0:=hyc c0 (by simp);split
  ·refine⟨by simp only[xaa,xab,xai];have:=h.len;omega,fun d hd=>?_,fun d hd c hc'=>?_⟩
   ·rcases List.mem_append.1 hd with h1|h1
    ·exact up.data d h1
    ·simp only[List.mem_singleton] at h1;subst h1;exact up.data d hy
   ·rcases List.mem_append.1 hd with h1|h1
    ·exact up.ctor d h1 c hc'
    ·simp only[List.mem_singleton] at h1;subst h1;exact up.ctor d hy c hc'
  ·have hz:∀z:Data,z.name.length<=n+10->z.ctors.length<=n+10->(∀c∈z.ctors,c.name.length<=n+10/\c.args.length<=n+10)->Sm (n+10) (w.set (zap b p w.length).toNat z):=fun z z1 z2 z3=>by
    refine⟨by rw[List.length_set];exact up.len,fun d hd=>?_,fun d hd c hc'=>?_⟩
    ·rcases List.mem_or_eq_of_mem_set hd with h1|rfl
     ·exact up.data d h1
     ·exact⟨z1,z2⟩
    ·rcases List.mem_or_eq_of_mem_set hd with h1|rfl
     ·exact up.ctor d h1 c hc'
     ·exact z3 c hc'
   have n1:(ofV b (p+2) nmsD).length<=10:=znJ (by decide) (by decide);have n2:(ofV b (p+2) nmsC).length<=10:=znJ (by decide) (by decide);have hl2:(c0::cr).length<=n+10:=by omega
   have hcr:∀c∈cr,c.name.length<=n+10/\c.args.length<=n+10:=fun c hc=>by have:=hyc c (by simp[hc]);omega
   have hc0:c0.name.length<=n+10/\c0.args.length<=n+10:=by omega
   have cons:∀c:Ctor,c.name.length<=n+10/\c.args.length<=n+10->∀x∈c::cr,x.name.length<=n+10/\x.args.length<=n+10:=fun c h1 x hx=>by
    rcases List.mem_cons.1 hx with rfl|hx
    ·exact h1
    ·exact hcr x hx
   unfold mutY;repeat' split
   ·exact hz _ (by dsimp only;omega) hl2 (cons _ hc0)
   ·exact hz _ (by dsimp only;omega) (by simp) (by simp)
   ·exact hz _ (by dsimp only;omega) (by simpa using hl2) (cons _ ⟨by dsimp only;omega,hc0.2⟩)
   ·exact hz _ (by dsimp only;omega) (by simpa using hl2) (cons _ ⟨hc0.1,by simp only[xaa,xab,xai];omega⟩)
   ·exact hz _ (by dsimp only;omega) (by simpa using hl2) (cons _ ⟨hc0.1,hc0.2⟩)
   ·exact hz _ (by dsimp only;omega) hl2 (cons _ hc0)
 ·have hn:nth w (zap b p w.length).toNat=default:=by simp[nth,List.getD,List.getElem?_eq_none (Nat.le_of_not_lt hi)]
  rw[hn] at hc;cases hc
theorem zj7 {b:Str}{p:Nat}{w:List Data} (hb:b.length<=2000) (hp:p<=1000000) (hs:WSmall w) (hne:1<=w.length):
  FnD Tryz.prog 26 [.ref 900 0,.d (zak w)] [(900,some (rdB b p))] (.d (zak (mutW b p w).1)) [(900,some (rdB b (mutW b p w).2))]:=by
 have hv:=zd9 (b:=b) (p:=p) (n:=(w.length:Int)) (by omega);have hlt:(zap b p w.length).toNat<w.length:=by omega
 obtain⟨pre,y,rest,hw,hpl⟩:∃pre y rest,w=pre++y::rest/\pre.length=(zap b p w.length).toNat:=
  ⟨w.take (zap b p w.length).toNat,w[(zap b p w.length).toNat],w.drop ((zap b p w.length).toNat+1),by rw[List.getElem_cons_drop,List.take_append_drop],by rw[List.length_take];omega⟩
 have hd:zap b p w.length=pre.length:=by omega
 subst hw;obtain⟨nm,cs⟩:=y;by_cases h5:cs=[]\/zap b (p+1) 30=5
 ·have h:=zk8 (b:=b) (p:=p) hb hp hs hd h5;have hm:mutW b p (pre++⟨nm,cs⟩::rest)=(if cs=[] then pre++⟨nm,cs⟩::rest else (pre++⟨nm,cs⟩::rest)++[⟨nm,cs⟩],if cs=[] then p+1 else p+2):=by
   unfold mutW;rw[hd,Int.toNat_natCast,zoG];dsimp only;cases cs with
   |nil=>rfl
   |cons c0 cr=>
    have:=h5.resolve_left (by simp);simp only;rw[if_pos this,if_neg (by simp),if_neg (by simp)]
  rw[hm];exact h
 ·rw[not_or] at h5;cases cs with
  |nil=>exact absurd rfl h5.1
  |cons c0 cr=>
   rw[zq5 hd h5.2];exact zk9 hb hp hs hd h5.2
theorem zpt:((List.range 7).all fun i=>smB 10 (zc3 (nth zdM i)).1&&(zaC (zc3 (nth zdM i)).1&&decide (1<=(zc3 (nth zdM i)).1.length)))=true:=by kernel_rfl
structure WorldD (w:List Data):Prop where
 sm:Sm 10 w
 small:WSmall w
 valid:zaC w=true
 one:1<=w.length
theorem zmx (b:Str) (p:Nat):WorldD (zi2 b p):=by
 have h:=List.all_eq_true.1 zpt (zap b p 7).toNat (List.mem_range.2 (zpd b p));simp only[xad,decide_eq_true_eq] at h;exact⟨zqz h.1,(zqz h.1).small (by omega),h.2.1,h.2.2⟩
theorem zo7 (b:Str) (p q:Nat):WSmall (mutW b q (zi2 b p)).1:=((zmx b p).sm.mut b q).small (by omega)
def Low (w:List Data):Prop:=∀s,znp w s<=3
structure WorldL (w:List Data):Prop where
 dp:Dp w
 low:Low w
 few:Few w
structure Deep (w:List Data) (n:Nat) (t:Ty) (m:Int):Prop where
 ins:InS (w.length*4) t
 pos:0<dv (znp w) t
 le:dv (znp w) t<=n
 ml:m<=n
section
variable {c:Ctx}{all:Array Oper}{chk:List Rec->Prop}{os:List Oper}{recs:List Rec}{env:Env}{hp:Hp}{Q:St->Prop}
variable {d ty:Nat}{pos:String}{af:Array Edge}{g:Option (Nat×Bool)}{pg:List (Nat×AV)}{t yt:TypeId}{x y:Operand}
theorem Walk.appendM {id k e yb:Nat}{xs ys:List (List D)}{vy:AV}{ids:List Nat} (hkp:KeptIn c.kept ids) (hid:zaB id ids=false) (hne:xs++ys≠[]) (ht:SlT c.P t e k yb) (hz:ZeroT c.P e k) (hg:GH all env g pg) (hd:Nat.blt d c.n=true)
  (hx:opd env x=some (.gv id xs)) (hy:opd env y=some vy) (hyd:vy.toD=some (.sl ys)) (htok:getH hp id=some (.tok xs.length k)) (hky:∀y,y∈ys->y.length=k)
  (hb:(xs.length+ys.length)*yb<=140737488355328) (hm:xs.length+ys.length<=9223372036854775807)
  (hn:Walk c all chk os (zao (pg++(opF x (.gv id xs)++opF y vy)) [(id,.tok xs.length k)] [] ⟨some (d,.ms id (xs++ys).length),[(id,some (.box ((xs++ys).flatten.map .d)))]⟩::recs)
   ⟨(d,.ms id (xs++ys).length)::env,(id,some (.box ((xs++ys).flatten.map .d)))::hp⟩ Q):
  Walk c all chk (⟨some d,.call ⟨.builtin .append,#[x,y],#[t,t]⟩,ty,pos,af,g⟩::os) recs ⟨env,hp⟩ Q:=by
 refine⟨pg++(opF x (.gv id xs)++opF y vy),[(id,.tok xs.length k)],[],_, ?_,zar hg.facts (zar (zaR hx) (zaR hy)),hh1 htok,by simp,hn⟩;intro s a w hrel hp' hh _ K Q' hK;obtain⟨G,hr⟩:=hrel;have e1:=hr.opd (zaS hx (fun p hm=>hp' p (by simp[hm])));have e2:=hr.opd (zaS hy (fun p hm=>hp' p (by simp[hm])));obtain⟨i,z,z1,z2,z3⟩:=hz.out;obtain⟨v',w',G',hrun,hR,hA⟩:=zil hr ht ⟨i,z1,z2,z3⟩ (hh1' hh) e1 (e2.toD hyd) hky hb hm ty;unfold wpO;rw[if_pos (hg.gf.wanted hr (fun p hm=>hp' p (by simp[hm])))];unfold Oper.wp;have:(execOp a.eval ⟨some d,.call ⟨.builtin .append,#[x,y],#[t,t]⟩,ty,pos,af,g⟩).run c.P w = .ok (.value v') w':=by
  simp only[execOp,resolve,invoke,builtin,Sem.run_bind,Sem.run_pure,Result.andThen_ok,List.map_toArray,xae,List.map_nil,hrun]
 rw[this,Oper.upon_value];have hV:Rel c ⟨(d,.gv id (xs++ys))::s.env,(id,some (.tok (xs.length+ys.length) k))::s.hp⟩ (a.put (some d) v') w':=⟨G',hR.put hA hd⟩;rcases Rel.fixV hkp d id k (xs:=xs++ys) (by simp[getE]) (by rw[zad,if_pos rfl,xaa]) hid hV with ⟨h,_⟩|⟨_,h⟩
 ·exact absurd h hne
 ·refine hK _ _ (h.congr (fun j=>?_) (fun j=>?_))
  ·show getE ((d,_)::s.env) j=getE ((d,_)::(d,_)::s.env) j
   simp only[getE];cases Nat.beq d j<;>rfl
  ·show getH ((id,_)::s.hp) j=getH ((id,_)::(id,_)::s.hp) j
   rw[zad,zad,zad];by_cases hj:j=id
   ·rw[if_pos hj,if_pos hj]
   ·rw[if_neg hj,if_neg hj,if_neg hj]
end
theorem put0 {l:List (List D)}{x:List D}{r:List (List D)}{v:List AV} (h:l=x::r) (hx:x.length=v.length):putC (l.flatten.map .d) 0 v=some (v++r.flatten.map .d):=by
 subst h;rw[List.flatten_cons,xaf];have key:∀(a b:List AV),a.length=b.length->∀(c:List AV),putC (a++c) 0 b=some (b++c):=by
  intro a;induction a with
  |nil=>intro b h c;cases b with
   |nil=>cases c<;>rfl
   |cons=>simp at h
  |cons y a ih=>intro b h c;cases b with
   |nil=>simp at h
   |cons z b=>
    have:=ih b (by simpa using h) c;simp only[xag,putC,this]
 exact key _ _ (by simpa using hx) _
theorem zni {k:Nat}{v:List AV}{vd:List D}{r:List (List D)} (hv:toDL v=some vd) (hk:v.length=k) (hr:∀x∈r,x.length=k):zbG (r.length+1) k (v++r.flatten.map .d)=some (vd::r):=by
 have h1:cutC (v++r.flatten.map .d) 0 k=some v:=zeK hk;have h2:(v++r.flatten.map AV.d).drop k=r.flatten.map .d:=by rw[<-hk];simp
 have h3:=zfr (f:=fun x:List D=>x) (k:=k) (l:=r) hr;have h4:(r.flatMap fun x=>x.map AV.d)=r.flatten.map .d:=by rw[List.map_flatten];rfl
 rw[h4,List.map_id'] at h3;simp only[zbG,h1,hv,h2,h3]
theorem Pat.cs_app (a b:List Pat):Pat.cs (a++b)=Pat.cs a++Pat.cs b:=by
 rw[Pat.cs_cc,Pat.cs_cc,Pat.cs_cc,xaf]
end Go.Proofs.YtmchfdpleibpdaaGreat
namespace Go.Proofs.YtmchfdpleibpdaaGreat
open Go
set_option linter.unusedSimpArgs false
set_option linter.unusedVariables false
end Go.Proofs.YtmchfdpleibpdaaGreat
namespace Go.Proofs.YtmchfdpleibpdaaGreat
open Go
set_option linter.unusedSimpArgs false
set_option linter.unusedVariables false
set_option maxRecDepth 100000
set_option maxHeartbeats 2000000
theorem Val.cs_cc (l:List Val):Val.cs l=l.map Val.cc:=by
 rw[Val.cs_eq];exact List.map_congr_left (fun v _=>Val.c_eq v)
end Go.Proofs.YtmchfdpleibpdaaGreat
