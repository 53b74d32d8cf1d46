/-
  THE ABSTRACT WALK AND THE WALKS, part 3 of 5: the parts G1, F20, F21, F24, F25, F13, G2, F22, F26, F23, F27, F28, F29, F40, F14, F16, F42, Val, F7, F8, Wu, F9, F10, F11, F17, F43, F44, F45, F46, F50, F51, F52, F53, F54, F55, F56, F57, F58, F60, F170, F171, F185, F172, Ta, G7.
-/
import Derived.Test.YtmchfdpleibpdaaGreatU602
namespace Go.Proofs.YtmchfdpleibpdaaGreat
open Go
set_option linter.unusedSimpArgs false
set_option linter.unusedVariables false
set_option maxRecDepth 100000
set_option maxHeartbeats 2000000
theorem zb0 {α:Type} [Inhabited α]{l:List α}{i:Nat} (h:i<l.length):l.drop i=nth l i::l.drop (i+1):=by
 rw[zaD h];exact List.drop_eq_getElem_cons h
def all2 {α β:Type} (f:α->β->Bool):List α->List β->Bool
 | [],[]=>true
 |a::r,b::s=>f a b&&all2 f r s
 |_,_=>false
theorem zeV {α β:Type}{f:α->β->Bool}:∀ {a:List α}{b:List β},a.length≠b.length->all2 f a b=false
 | [],[],h=>by simp at h
 | [],_::_,_=>rfl
 |_::_,[],_=>rfl
 |x::r,y::s,h=>by simp[all2,zeV (a:=r) (b:=s) (by simpa using h)]
theorem zcm {α β:Type} [Inhabited α] [Inhabited β]{f:α->β->Bool}{a:List α}{b:List β}{i:Nat} (h:i<a.length) (hl:a.length=b.length) (h2:f (nth a i) (nth b i)=false):all2 f a b=false:=by
 induction i generalizing a b with
 |zero=>
  cases a with
  |nil=>simp at h
  |cons x r=>
   cases b with
   |nil=>simp[all2]
   |cons y s=>simp[nth] at h2;simp[all2,h2]
 |succ i ih=>
  cases a with
  |nil=>simp at h
  |cons x r=>
   cases b with
   |nil=>simp[all2]
   |cons y s=>simp only[all2];rw[ih (a:=r) (b:=s) (by simpa using h) (by simpa using hl) (by simpa [nth] using h2)];simp
theorem zd3 {α β:Type} [Inhabited α] [Inhabited β]{f:α->β->Bool}{a:List α}{b:List β} (hl:a.length=b.length) (h:∀i,i<a.length->f (nth a i) (nth b i)=true):all2 f a b=true:=by
 induction a generalizing b with
 |nil=>cases b with
  |nil=>simp[all2]
  |cons y s=>simp at hl
 |cons x r ih=>cases b with
  |nil=>simp at hl
  |cons y s=>
   have h0:=h 0 og;simp only[all2];rw[ih (by simpa using hl) (fun i hi=>by simpa [nth] using h (i+1) (by simpa using hi))];simpa [nth] using h0
def idxI (l:List Int) (v:Int):Int:=idxF (fun x=>decide (v=x)) l 0
theorem zij {l:List Int}{v:Int} (h:l.length<=1000000000000):FnD Tryz.prog 242 [.d (zaH l),.d (.i v)] [] (.d (.i (idxI l v))) []:=by
 refine bd Tryz.f242 19 [] [] fun _ _ _ _ hk=>?_;refine xaD (ι:=List (Int)×List (Int)) hk (fun x=>[(8,.d (.i (x.1.length:Int)))]) [4,5,9,10,11,12,13,14,15,16,17,18] (fun x=>[]) (fun x=>x.1++x.2=l/\idxF (fun x=>decide (v=x)) x.2 x.1.length=idxF (fun x=>decide (v=x)) l 0) (fun x=>x.2.length) ([],l) ⟨by simp,Z⟩ ⟨⟨_,Z,xaQ ?_⟩,I⟩ I (fun x=>rfl) (fun x hg1=>?_);focus (first|rfl|(simp;done)|(simp_all;done)|omega)
 obtain⟨pre,rest⟩:=x;dsimp only at hg1 ⊢;refine evc [] [] ?_;apply sq<;>intro h1 h1p h1s<;>(try simp only[Q] at h1p);rcases rest with _|⟨y,rest⟩
 ·exfalso;simp_all
 refine ixq sl37 Z Z Z (zaL hg1.1) Z (ev ?_);apply sq<;>intro h2 h2p h2s<;>(try simp only[Q] at h2p);focus (refine rq ?_;all_goals (unfold idxI;rw[<-hg1.2];simp[idxF,h1s,h1p,h2s,h2p]))
 refine ar (xaj ((pre++[y],rest)) ⟨⟨(by have hz:=hg1.1;rw[<-hz];simp),(by rw[<-hg1.2];simp[idxF,h2p])⟩,og,sx ⟨⟨_,Z,xaQ ?_⟩,I⟩ I⟩);focus (first|rfl|(simp;done)|(simp_all;done)|omega)
 have hrest:rest=[]:=by
  rcases rest with _|⟨a,b⟩
  ·rfl
  ·exfalso;have hz:=xam List.length (hg1.1);simp only[xaa,xab,xac] at hz;omega
 subst hrest;focus (refine rq ?_;all_goals (unfold idxI;rw[<-hg1.2];simp[idxF,h1s,h1p]))
theorem zd1 {l:List Int}{v:Int} (h:l.length<=1000000000000):FnD Tryz.prog 187 [.d (zaH l),.d (.i v)] [] (.d (.bool (decide (v∈l)))) []:=by
 refine bd Tryz.f187 9 [] [] fun _ _ _ _ hk=>?_;refine wc zs8 (zij h) Z Z ?_;refine ev (rq ?_);rotate_left;all_goals (refine xam D.bool ?_;rw[show idxI l v=idxF (fun x=>decide (v=x)) l 0 from rfl,ze3];simp[List.any_eq,eq_comm])
theorem zec {l:List Int}{v:Int} (h:l.length<=1000000000000):FnD Tryz.prog 248 [.d (zaH l),.d (.i v)] [] (.d (.bool (decide (v∈l)))) []:=by
 refine bd Tryz.f248 18 [] [] fun _ _ _ _ hk=>?_;refine xaD (ι:=List (Int)×List (Int)) hk (fun x=>[(5,.d (.i (x.1.length:Int)))]) [4,6,7,8,9,10,11,12,13,14,15,16,17] (fun x=>[]) (fun x=>x.1++x.2=l/\v∉x.1) (fun x=>x.2.length) ([],l) ⟨by simp,by simp⟩ ⟨⟨_,Z,xaQ ?_⟩,I⟩ I (fun x=>rfl) (fun x hg1=>?_);focus (first|rfl|(simp;done)|(simp_all;done)|omega)
 obtain⟨pre,rest⟩:=x;dsimp only at hg1 ⊢;refine evc [] [] ?_;apply sq<;>intro h1 h1p h1s<;>(try simp only[Q] at h1p);rcases rest with _|⟨y,rest⟩
 ·exfalso;simp_all
 refine ixq sl37 Z Z Z (zaL hg1.1) Z (ev ?_);apply sq<;>intro h2 h2p h2s<;>(try simp only[Q] at h2p);focus (refine rq ?_;all_goals (refine xam D.bool ?_;first|(symm;rw[xah,<-hg1.1];simp[h1s,h1p,h2s,h2p];done)|(symm;rw[decide_eq_false_iff_not,<-hg1.1];intro hm;simp at hm;exact absurd hm (by simpa using hg1.2))))
 refine ar (xaj ((pre++[y],rest)) ⟨⟨(by have hz:=hg1.1;rw[<-hz];simp),(by have:=hg1.2;simp[this,eq_comm];omega)⟩,og,sx ⟨⟨_,Z,xaQ ?_⟩,I⟩ I⟩);focus (first|rfl|(simp;done)|(simp_all;done)|omega)
 have hrest:rest=[]:=by
  rcases rest with _|⟨a,b⟩
  ·rfl
  ·exfalso;have hz:=xam List.length (hg1.1);simp only[xaa,xab,xac] at hz;omega
 subst hrest;focus (refine rq ?_;all_goals (refine xam D.bool ?_;first|(symm;rw[xah,<-hg1.1];simp[h1s,h1p];done)|(symm;rw[decide_eq_false_iff_not,<-hg1.1];intro hm;simp at hm;exact absurd hm (by simpa using hg1.2))))
structure Vt where
 var:Int
 ty:Ty
 deriving DecidableEq,Inhabited
abbrev Vt.c (t:Vt):List D:=[.i t.var,.i t.ty.data,.i t.ty.index]
abbrev zcq (l:List Vt):D:= .sl (l.map Vt.c)
def za0 (w:List Data) (t:Ty):List Int:=if t.data = -1 then [] else zaG w t
def zag (w:List Data) (t:Ty) (p:Pat):List Ty:=if p.op=4 then zaB w t p.ctor else if p.op=5 then [t,t] else if p.op=6 then [t] else []
def ownP (w:List Data) (t:Ty) (p:Pat):Bool:=decide (((p.op=2\/p.op=6)->0<=p.var/\p.var<=5)/\(¬(p.op=2\/p.op=6)->p.var=0)/\(p.op≠3->p.n=0/\p.m=0)/\(p.op≠4->p.ctor=0)/\
 (p.op=1\/p.op=2\/p.op=5\/p.op=6\/(p.op=3/\t.data = -1/\0<=p.n/\p.n<=p.m/\p.m<=9)\/(p.op=4/\p.ctor∈za0 w t)))
def okP (w:List Data) (t:Ty) (p:Pat):Bool:=ownP w t p&&decide (p.kids.length=(zag w t p).length)
def zcX (w:List Data) (t:Ty) (p:Pat):List Ty:=if p.op=4/\p.ctor∉za0 w t then [] else zag w t p
def zaw (w:List Data):Nat->Ty->Pat->Bool
 |0,_,_=>false
 |n+1,t,p=>ownP w t p&&all2 (zaw w n) (zag w t p) p.kids
def zaN (t:Ty) (p:Pat):List Vt:=if p.op=2\/p.op=6 then [⟨p.var,t⟩] else []
def zaY (f:Ty->Pat->List Vt):List Ty->List Pat->List Vt
 |a::r,b::s=>f a b++zaY f r s
 |_,_=>[]
def zcg (w:List Data) (t:Ty) (p:Pat):List Ty:=if p.op=5 then (zag w t p).take 1 else zag w t p
def zaI (w:List Data):Nat->Ty->Pat->List Vt
 |0,_,_=>[]
 |n+1,t,p=>zaN t p++zaY (zaI w n) (zcg w t p) p.kids
def zbt (l:List Vt) (n:Int):Int:=idxF (fun v=>decide (v.var=n)) l 0
def zcS (a b:List Vt):Bool:=a.all (fun v=>decide (0<=zbt b v.var/\(nth b (zbt b v.var).toNat).ty=v.ty))&&decide (a.length=b.length)
def zmY (l:List Vt):Bool:=(List.range l.length).all fun(i:Nat)=>decide (zbt l (nth l i).var=(i:Int))
def zdd (a b:List Vt):Bool:=decide (a.length=b.length)&& !a.any fun v=> !decide (v∈b)
def zbQ (l:List Vt):Bool:=decide (l.map Vt.var).Nodup
def linP (w:List Data):Nat->Ty->Pat->Bool
 |0,_,_=>true
 |n+1,t,p=>all2 (linP w n) (zag w t p) p.kids&&(if p.op=5 then zcS (zaI w n t (nth p.kids 0)) (zaI w n t (nth p.kids 1)) else zmY (zaI w (n+1) t p))
theorem zex (l:List Vt) (n:Int):(zbt l n = -1/\∀v∈l,v.var≠n)\/∃k:Nat,zbt l n=k/\k<l.length/\(nth l k).var=n/\∀j,j<k->(nth l j).var≠n:=by
 have key:∀(l:List Vt) (i:Nat),(idxF (fun v=>decide (v.var=n)) l i = -1/\∀v∈l,v.var≠n)\/∃k:Nat,idxF (fun v=>decide (v.var=n)) l i=((i+k:Nat):Int)/\k<l.length/\(nth l k).var=n/\∀j,j<k->(nth l j).var≠n:=by
  intro l;induction l with
  |nil=>intro i;exact .inl ⟨Z,by simp⟩
  |cons x r ih=>
   intro i;unfold idxF;by_cases h:x.var=n
   ·exact .inr ⟨0,by simp[h],by simp,by simpa [nth] using h,fun j hj=>absurd hj od⟩
   ·rcases ih (i+1) with ⟨h1,h2⟩|⟨k,h1,h2,h3,h4⟩
    ·exact .inl ⟨by simpa [h] using h1,fun v hv=>by rcases List.mem_cons.1 hv with rfl|hv;exact h;exact h2 v hv⟩
    ·refine .inr ⟨k+1, ?_,by simpa using h2,by simpa [nth] using h3,fun j hj=>?_⟩
     ·simp only[h,decide_false,Bool.false_eq_true,if_false];rw[h1];congr 1;omega
     ·cases j with
      |zero=>simpa [nth] using h
      |succ j=>simpa [nth] using h4 j od
 rcases key l 0 with h|⟨k,h1,h2⟩
 ·exact .inl h
 ·exact .inr ⟨k,by unfold zbt;simpa using h1,h2⟩
theorem nodup_iff {l:List Vt}:(l.map Vt.var).Nodup↔∀i j,i<j->j<l.length->(nth l i).var≠(nth l j).var:=by
 unfold List.Nodup;rw[List.pairwise_iff_getElem];constructor
 ·intro h i j hij hj;have:=h i j ot (by simpa using hj) hij;simp only[List.getElem_map] at this;rw[zaD od,zaD hj];exact this
 ·intro h i j hi hj hij;simp only[xac] at hi hj;simp only[List.getElem_map];rw[<-zaD hi,<-zaD hj];exact h i j hij hj
theorem ziT {l:List Vt} (h:(l.map Vt.var).Nodup){i j:Nat} (hi:i<l.length) (hj:j<l.length) (he:(nth l i).var=(nth l j).var):i=j:=by
 have h1:=nodup_iff.1 h;rcases Nat.lt_trichotomy i j with h2|h2|h2
 ·exact absurd he (h1 i j h2 hj)
 ·exact h2
 ·exact absurd he.symm (h1 j i h2 hi)
theorem zny (l:List Vt):zmY l=zbQ l:=by
 unfold zbQ;by_cases h:(l.map Vt.var).Nodup
 ·rw[xax h];refine zdH (fun i hi=>xax ?_);rcases zex l (nth l i).var with ⟨_,h2⟩|⟨k,h1,h2,h3,h4⟩
  ·exact absurd Z (h2 _ (zai hi))
  ·rw[h1,ziT h h2 hi h3]
 ·rw[xaw h];cases hd:zmY l with
  |false=>rfl
  |true=>
   refine absurd ?_ h;rw[nodup_iff];intro i j hij hj he;have h1:=List.all_eq_true.1 hd i (List.mem_range.2 od);have h2:=List.all_eq_true.1 hd j (List.mem_range.2 hj);simp only[xah] at h1 h2;rw[he,h2] at h1;omega
theorem zks {a b:List Vt} (hb:zbQ b=true):zcS a b=zdd a b:=by
 unfold zbQ at hb;simp only[xah] at hb;unfold zcS zdd;rw[Bool.and_comm];congr 1
 rw[xat];simp only[List.all_eq_true,Bool.not_eq_true',List.any_eq_false,xah,Bool.not_eq_true,decide_eq_false_iff_not,Decidable.not_not];refine forall_congr' fun v=>forall_congr' fun hv=>?_;rcases zex b v.var with ⟨h1,h2⟩|⟨k,h1,h2,h3,h4⟩
 ·rw[h1];exact⟨fun h=>absurd h.1 od,fun h=>absurd rfl (h2 v h)⟩
 ·rw[h1];simp only[Int.toNat_natCast];constructor
  ·rintro ⟨_,h⟩
   have:nth b k=v:=by
    have e:∀x y:Vt,x.var=y.var->x.ty=y.ty->x=y:=fun x y h1 h2=>by cases x;cases y;simp_all
    exact e _ _ h3 h
   rw[<-this];exact zai h2
  ·intro h;refine⟨by omega, ?_⟩;obtain⟨j,hj,he⟩:=List.getElem_of_mem h;have h5:nth b j=v:=by rw[zaD hj];exact he
   have:=ziT hb h2 hj (by rw[h3,h5]);rw[this,h5]
def za9 (g:Ty->Pat->Int->Option (List Vt)×Int) (or:Bool):List Ty->List Pat->Nat->List Vt->Int->Option (List Vt)×Int
 |a::r,b::s,i,acc,c=>match (g a b c).1 with
  |none=>(none,(g a b c).2)
  |some l=>if or=true/\i=1 then (if zdd acc l=true then za9 g or r s (i+1) acc (g a b c).2 else (none,(g a b c).2)) else za9 g or r s (i+1) (acc++l) (g a b c).2
 |_,_,_,acc,c=>(some acc,c)
def finV (r:Option (List Vt)×Int):Option (List Vt)×Int:=match r.1 with
 |none=>r
 |some l=>if zbQ l=true then r else (none,r.2)
def zaM (w:List Data):Nat->Ty->Pat->Int->Option (List Vt)×Int
 |0,_,_,c=>(none,c+1)
 |n+1,t,p,c=>if 60<c+1 then (none,c+1) else if okP w t p=true then finV (za9 (zaM w n) (decide (p.op=5)) (zag w t p) p.kids 0 (zaN t p) (c+1)) else (none,c+1)
def zbC (w:List Data) (n:Nat) (t:Ty) (p:Pat) (c:Int):Bool:=zaw w n t p&&(decide (c+(p.size:Int)<=60)&&linP w n t p)
theorem zdA (w:List Data):∀(n:Nat) (t:Ty) (p:Pat),zaw w n t p=true->linP w n t p=true->zbQ (zaI w n t p)=true
 |0,t,p,h,_=>by simp[zaw] at h
 |n+1,t,p,h,hl=>by
  by_cases h5:p.op=5
  ·simp only[zaw,linP,xad,if_pos h5] at h hl;have e1:zag w t p=[t,t]:=by unfold zag;rw[if_neg od,if_pos h5]
   rw[e1] at h hl;rcases hk:p.kids with _|⟨x,_|⟨y,_|⟨z,r⟩⟩⟩
   ·rw[hk] at h;simp[all2] at h
   ·rw[hk] at h;simp[all2] at h
   ·rw[hk] at h hl;simp only[all2,xad,and_true] at h hl;have:=zdA w n t x h.2.1 hl.1.1;have e2:zaI w (n+1) t p=zaI w n t x:=by
     simp only[zaI,zaN,zcg,e1,hk,if_pos h5];rw[if_neg od];simp[zaY]
    rw[e2];exact this
   ·rw[hk] at h;simp[all2] at h
  ·simp only[linP,if_neg h5,xad] at hl;rw[<-zny];exact hl.2
theorem znZ {w:List Data}{n:Nat} (ih:∀t p c,((zaM w n t p c).1=if zbC w n t p c=true then some (zaI w n t p) else none)/\(zbC w n t p c=true->(zaM w n t p c).2=c+p.size)):
  ∀(a:List Ty) (b:List Pat) (i:Nat) (acc:List Vt) (c:Int),a.length=b.length->c<=60->
   ((za9 (zaM w n) false a b i acc c).1=if (all2 (zaw w n) a b&&(decide (c+(Pats.size b:Int)<=60)&&all2 (linP w n) a b))=true then some (acc++zaY (zaI w n) a b) else none)/\
   ((all2 (zaw w n) a b&&(decide (c+(Pats.size b:Int)<=60)&&all2 (linP w n) a b))=true->(za9 (zaM w n) false a b i acc c).2=c+Pats.size b)
 | [],[],i,acc,c,_,hc=>by simp[za9,all2,Pats.size,zaY,hc]
 |x::r,y::s,i,acc,c,hl,hc=>by
  obtain⟨h1,h2⟩:=ih x y c;have hps:Pats.size (y::s)=y.size+Pats.size s:=rfl;simp only[za9,zaY];by_cases hw:zbC w n x y c=true
  ·have h3:=h2 hw;rw[if_pos hw] at h1;rw[h1];simp only[Bool.false_eq_true,false_and,if_false];have h4:=hw;simp only[zbC,xad,xah] at h4;obtain⟨h5,h6⟩:=znZ ih r s (i+1) (acc++zaI w n x y) (zaM w n x y c).2 (by simpa using hl) od;have e:(all2 (zaw w n) (x::r) (y::s)&&(decide (c+(Pats.size (y::s):Int)<=60)&&all2 (linP w n) (x::r) (y::s)))=(all2 (zaw w n) r s&&(decide ((zaM w n x y c).2+(Pats.size s:Int)<=60)&&all2 (linP w n) r s)):=by
    rw[all2,all2,h4.1,h4.2.2,h3];simp only[Bool.true_and];congr 2
    exact decide_eq_decide.2 od
   rw[e];refine⟨?_,fun hx=>?_⟩
   ·rw[h5,xar]
   ·rw[h6 hx,h3];omega
  ·rw[if_neg hw] at h1;rw[h1];simp only;have hf:¬(all2 (zaw w n) (x::r) (y::s)&&(decide (c+(Pats.size (y::s):Int)<=60)&&all2 (linP w n) (x::r) (y::s)))=true:=fun h=>by
    simp only[all2,xad,xah] at h;refine hw ?_;simp only[zbC,xad,xah];refine⟨h.1.1, ?_,h.2.2.1⟩;have:=h.2.1;omega
   rw[if_neg hf];exact⟨rfl,fun h=>absurd h hf⟩
 | [],_::_,_,_,_,hl,_=>by simp at hl
 |_::_,[],_,_,_,hl,_=>by simp at hl
theorem ze5 (w:List Data):∀(n:Nat) (t:Ty) (p:Pat) (c:Int),((zaM w n t p c).1=if zbC w n t p c=true then some (zaI w n t p) else none)/\(zbC w n t p c=true->(zaM w n t p c).2=c+p.size)
 |0,t,p,c=>by simp[zaM,zbC,zaw]
 |n+1,t,p,c=>by
  have hsz:=xaZ p;unfold zaM;by_cases h1:60<c+1
  ·have hf:¬zbC w (n+1) t p c=true:=fun h=>by
    simp only[zbC,xad,xah] at h;omega
   rw[if_pos h1,if_neg hf];exact⟨rfl,fun h=>absurd h hf⟩
  rw[if_neg h1];by_cases h2:okP w t p=true
  ·rw[if_pos h2];have h2':=h2;simp only[okP,xad,xah] at h2';by_cases h5:p.op=5
   ·have e1:zag w t p=[t,t]:=by unfold zag;rw[if_neg od,if_pos h5]
    have e3:zaN t p=[]:=by unfold zaN;rw[if_neg od]
    rw[e1] at h2';rcases hk:p.kids with _|⟨x,_|⟨y,_|⟨z,r⟩⟩⟩
    ·rw[hk] at h2';simp at h2'
    ·rw[hk] at h2';simp at h2'
    ·have e4:zaI w (n+1) t p=zaI w n t x:=by
      simp only[zaI,zcg,e1,hk,if_pos h5,e3];simp[zaY]
     have e5:zbC w (n+1) t p c=((zaw w n t x&&zaw w n t y)&&(decide (c+1+(x.size:Int)+y.size<=60)&&((linP w n t x&&linP w n t y)&&zcS (zaI w n t x) (zaI w n t y)))):=by
      simp only[zbC,zaw,linP,h2'.1,e1,hk,all2,if_pos h5,Bool.and_true,Bool.true_and,nth,List.getD_cons_zero,List.getD_cons_succ];congr 2
      refine decide_eq_decide.2 ?_;rw[hsz,hk];simp only[Pats.size];push_cast;omega
     rw[e4,e5,e1,e3];obtain⟨a1,a2⟩:=ze5 w n t x (c+1);simp only[za9,h5,decide_true];by_cases w1:zbC w n t x (c+1)=true
     ·have a3:=a2 w1;rw[if_pos w1] at a1;have b1:=w1;simp only[zbC,xad,xah] at b1;obtain⟨d1,d2⟩:=ze5 w n t y (zaM w n t x (c+1)).2;rw[a1];simp only[true_and,Nat.zero_ne_one,if_false,List.nil_append];by_cases w2:zbC w n t y (zaM w n t x (c+1)).2=true
      ·have d3:=d2 w2;rw[if_pos w2] at d1;have b2:=w2;simp only[zbC,xad,xah] at b2;rw[d1];simp only[Nat.zero_add,if_true];have n1:=zdA w n t x b1.1 b1.2.2;have n2:=zdA w n t y b2.1 b2.2.2;have e6:((zaw w n t x&&zaw w n t y)&&(decide (c+1+(x.size:Int)+y.size<=60)&&((linP w n t x&&linP w n t y)&&zcS (zaI w n t x) (zaI w n t y))))=zdd (zaI w n t x) (zaI w n t y):=by
        rw[b1.1,b2.1,b1.2.2,b2.2.2,zks n2,xax od];simp
       rw[e6];by_cases hs:zdd (zaI w n t x) (zaI w n t y)=true
       ·rw[if_pos hs,if_pos hs];simp only[finV,n1,if_true];refine⟨trivial,fun _=>?_⟩;rw[d3,a3,hsz,hk];simp only[Pats.size];push_cast;omega
       ·rw[if_neg hs,if_neg hs];simp only[finV];exact⟨trivial,fun h=>absurd h hs⟩
      ·rw[if_neg w2] at d1;rw[d1];simp only[finV];have hf:¬((zaw w n t x&&zaw w n t y)&&(decide (c+1+(x.size:Int)+y.size<=60)&&((linP w n t x&&linP w n t y)&&zcS (zaI w n t x) (zaI w n t y))))=true:=fun h=>by
        simp only[xad,xah] at h;refine w2 ?_;simp only[zbC,xad,xah];exact⟨h.1.2,by omega,h.2.2.1.2⟩
       rw[if_neg hf];exact⟨rfl,fun h=>absurd h hf⟩
     ·rw[if_neg w1] at a1;rw[a1];simp only[finV];have hf:¬((zaw w n t x&&zaw w n t y)&&(decide (c+1+(x.size:Int)+y.size<=60)&&((linP w n t x&&linP w n t y)&&zcS (zaI w n t x) (zaI w n t y))))=true:=fun h=>by
       simp only[xad,xah] at h;refine w1 ?_;simp only[zbC,xad,xah];exact⟨h.1.1,by omega,h.2.2.1.1⟩
      rw[if_neg hf];exact⟨rfl,fun h=>absurd h hf⟩
    ·rw[hk] at h2';simp at h2'
   ·have e0:(decide (p.op=5))=false:=xaw h5;rw[e0];obtain⟨a1,a2⟩:=znZ (fun t p c=>ze5 w n t p c) (zag w t p) p.kids 0 (zaN t p) (c+1) h2'.2.symm od;have e4:zaI w (n+1) t p=zaN t p++zaY (zaI w n) (zag w t p) p.kids:=by simp only[zaI,zcg,if_neg h5]
    have e5:zbC w (n+1) t p c=((all2 (zaw w n) (zag w t p) p.kids&&(decide (c+1+(Pats.size p.kids:Int)<=60)&&all2 (linP w n) (zag w t p) p.kids))&&zbQ (zaI w (n+1) t p)):=by
     have:decide (c+(p.size:Int)<=60)=decide (c+1+(Pats.size p.kids:Int)<=60):=decide_eq_decide.2 od;simp only[zbC,zaw,linP,h2'.1,if_neg h5,Bool.true_and,zny,this,Bool.and_assoc]
    rw[e5];by_cases hw:(all2 (zaw w n) (zag w t p) p.kids&&(decide (c+1+(Pats.size p.kids:Int)<=60)&&all2 (linP w n) (zag w t p) p.kids))=true
    ·rw[if_pos hw,<-e4] at a1;have a3:=a2 hw;rw[hw,Bool.true_and];unfold finV;rw[a1];by_cases hn:zbQ (zaI w (n+1) t p)=true
     ·simp only[hn,if_true];exact⟨a1,fun _=>by rw[a3];omega⟩
     ·simp only[hn,Bool.false_eq_true,if_false];exact⟨trivial,fun h=>absurd h og⟩
    ·rw[if_neg hw] at a1;have hw':(all2 (zaw w n) (zag w t p) p.kids&&(decide (c+1+(Pats.size p.kids:Int)<=60)&&all2 (linP w n) (zag w t p) p.kids))=false:=by simpa using hw
     rw[hw',Bool.false_and];unfold finV;rw[a1];simp[a1]
  ·have hf:¬zbC w (n+1) t p c=true:=fun h=>by
    simp only[zbC,zaw,xad,xah] at h;refine h2 ?_;simp only[okP,xad,xah];refine⟨h.1.1, ?_⟩;by_cases hl:(zag w t p).length=p.kids.length
    ·exact hl.symm
    ·have:=zeV (f:=zaw w n) hl;rw[this] at h;simp at h
   rw[if_neg h2,if_neg hf];exact⟨rfl,fun h=>absurd h hf⟩
mutual
def cntP (m:Int):Pat->Int
 | .mk _ _ _ _ _ ks=>zcz m 1 ks
def zcz (m n:Int):List Pat->Int
 | []=>n
 |k::r=>if n<=m then zcz m (n+cntP (m-n) k) r else n
end
theorem zsi (m:Int) (v:Pat):cntP m v=zcz m 1 v.kids:=by cases v;rfl
theorem zkB {m n:Int}{l:List Pat} (h:¬n<=m):zcz m n l=n:=by cases l<;>simp[zcz,h]
mutual
theorem zjm:∀(v:Pat) (m:Int),1<=cntP m v/\cntP m v<=v.size
 | .mk _ _ _ _ _ ks,m=>by
  have:=zjZ ks m 1 od;simp only[cntP,Pat.size];push_cast;omega
theorem zjZ:∀(l:List Pat) (m n:Int),1<=n->1<=zcz m n l/\zcz m n l<=n+Pats.size l
 | [],m,n,h=>by simp[zcz,Pats.size];omega
 |k::r,m,n,h=>by
  have h1:=zjm k (m-n);have h2:=zjZ r m (n+cntP (m-n) k) od;simp only[zcz,Pats.size];split
  ·push_cast;omega
  ·push_cast;omega
end
mutual
theorem znv:∀(v:Pat) (m:Int),(cntP m v<=m↔(v.size:Int)<=m)/\(cntP m v<=m->cntP m v=v.size)
 | .mk _ _ _ _ _ ks,m=>by
  have:=zmg ks m 1;simp only[cntP,Pat.size];push_cast;exact this
theorem zmg:∀(l:List Pat) (m n:Int),(zcz m n l<=m↔n+(Pats.size l:Int)<=m)/\(zcz m n l<=m->zcz m n l=n+Pats.size l)
 | [],m,n=>by simp[zcz,Pats.size]
 |k::r,m,n=>by
  have h1:=znv k (m-n);have h2:=zmg r m (n+cntP (m-n) k);have h3:=zjZ r m (n+cntP (m-n) k);have h4:=zjm k (m-n);simp only[zcz,Pats.size];push_cast
  by_cases hn:n<=m
  ·rw[if_pos hn];by_cases h5:cntP (m-n) k<=m-n
   ·have h6:=h1.2 h5;rw[h6] at h2 ⊢;constructor
    ·rw[h2.1];constructor<;>intro h<;>omega
    ·intro h;rw[h2.2 h];omega
   ·have h7:¬(k.size:Int)<=m-n:=fun h=>h5 (h1.1.2 h);have h8:¬n+cntP (m-n) k<=m:=by omega
    rw[zkB h8];constructor
    ·constructor<;>intro h<;>omega
    ·intro h;omega
  ·rw[if_neg hn];constructor
   ·constructor<;>intro h<;>omega
   ·intro h;omega
end
theorem xa3 {pre rest l:List Pat}{y:Pat} (h:pre++y::rest=l):Pats.size l=Pats.size pre+y.size+Pats.size rest:=by
 subst h;induction pre with
 |nil=>simp[Pats.size]
 |cons x r ih=>simp only[xai,Pats.size,ih];omega
theorem zeq {l:List Pat}{i:Nat} (h:i<l.length):(nth l i).size<=Pats.size l:=xa2 (zai h)
theorem zlc {l:List Pat}{i:Nat} (h:i<l.length):Pats.size (l.drop i)=(nth l i).size+Pats.size (l.drop (i+1)):=by
 rw[zb0 h];rfl
theorem zeO:∀(n:Nat){v:Pat}{m:Int},v.size<=n->v.size<=1000000000000->v.ok->0<=m->m<=1000000000000->FnD Tryz.prog 244 [.agg [.d (.i v.op),.d (.i v.ctor),.d (.i v.n),.d (.i v.m),.d (.i v.var),.d (zau v.kids)],.d (.i m)] [] (.d (.i (cntP m v))) []
 |0,v,m,h,_,_,_,_=>by rw[xaZ] at h;omega
 |n+1,v,m,h,hb,hok,m0,m1=>by
  rw[xaZ] at h hb;rw[xaY] at hok;rw[zsi];refine bd Tryz.f244 31 [] [] fun _ _ _ _ hk=>?_;refine bx 3002 ?_;refine ev (xaD (ι:=Nat×Int) hk (fun x=>[(6,.d (.i (x.1:Int))),(5,.d (.i x.2))]) [7,8,9,10,11,12,13,14,15,16,17,18,19,20,21,22,23,24,25,26,27,28,29] (fun x=>[]) (fun x=>x.1<=v.kids.length/\zcz m x.2 (v.kids.drop x.1)=zcz m 1 v.kids/\1<=x.2/\x.2+Pats.size (v.kids.drop x.1)<=1+Pats.size v.kids) (fun x=>v.kids.length-x.1) (0,1) ⟨by simp,by simp,by simp,by simp⟩ ⟨⟨_,Z,xaQ ?_⟩,⟨⟨_,Z,xaQ ?_⟩,I⟩⟩ I (fun x=>rfl) (fun x hg1=>?_));iterate 2 focus (rfl)
  refine evc [] [] ?_;apply sq<;>intro h1 h1p h1s<;>(try simp only[Q,xaW] at h1p);apply sq<;>intro h2 h2p h2s<;>(try simp only[Q,xaW] at h2p);refine ixq sl72 Z Z Z (zaS od) Z ?_;refine ev (ar ?_ (by(constructor<;>omega)));refine wc znr (zeO n (v:=nth v.kids x.1) (by have:=zeq (l:=v.kids) (i:=x.1) od;omega) (by have:=zeq (l:=v.kids) (i:=x.1) od;omega) (xa0 hok.2 _ (zai od)) od od) Z Z ?_;refine ev (ar ?_ (by(have hz:=zjm (nth v.kids x.1) (m-x.2);have hs:=zlc (l:=v.kids) (i:=x.1) od;constructor<;>omega)));refine ar ?_ (by(constructor<;>omega));refine xaj ((x.1+1,x.2+cntP (m-x.2) (nth v.kids x.1))) ⟨(by
      have hz:=zjm (nth v.kids x.1) (m-x.2);have hs:=zlc (l:=v.kids) (i:=x.1) od;refine⟨by dsimp only;omega, ?_,by dsimp only;omega,by dsimp only;omega⟩;rw[<-hg1.2.1,zb0 (l:=v.kids) (i:=x.1) od,zcz,if_pos od]),(by dsimp only;omega),sx ⟨⟨_,rfl,xaQ ?_⟩,⟨⟨_,rfl,xaQ ?_⟩,trivial⟩⟩ trivial⟩
  iterate 2 focus (rfl)
  refine rq ?_;rotate_left;refine sqF ?_;refine rq ?_;rotate_left;all_goals (refine xam D.i ?_;rw[<-hg1.2.1];first|(rw[List.drop_eq_nil_of_le od];rfl)|(rw[zkB od]))
set_option maxHeartbeats 4000000
theorem zgU {w:List Data}{d:Nat}{k:Int}:za0 w ⟨d,k⟩=zaG w ⟨d,k⟩:=by unfold za0;rw[if_neg (by simp only;omega)]
theorem zgc {w:List Data}{k:Int}:za0 w ⟨-1,k⟩=[]:=by unfold za0;rw[if_pos rfl]
theorem zlx {w:List Data} (hw:WT w){a k:Int} (ht:TyIn w.length ⟨a,k⟩):(za0 w ⟨a,k⟩).length<=1000000000000:=by
 rcases ht with ha|⟨d,hd,hlt⟩
 ·simp only at ha;subst ha;rw[zgc];exact Nat.zero_le _
 ·simp only at hd;subst hd;rw[zgU];exact zdX hw
theorem zcN {w:List Data}{a k c:Int} (ht:TyIn w.length ⟨a,k⟩) (h:c∈za0 w ⟨a,k⟩):∃d:Nat,a=d/\d<w.length/\PlaceIn w d c:=by
 rcases ht with ha|⟨d,hd,hlt⟩
 ·simp only at ha;subst ha;rw[zgc] at h;simp at h
 ·simp only at hd;subst hd;rw[zgU] at h;exact⟨d,rfl,hlt,zbF h⟩
theorem zfE {w:List Data} (hw:WT w){a k:Int}{p:Pat} (ht:TyIn w.length ⟨a,k⟩) (h:ownP w ⟨a,k⟩ p=true):∀t∈zag w ⟨a,k⟩ p,TyIn w.length t:=by
 intro t hm;unfold zag at hm;split at hm
 ·rename_i h4;unfold ownP at h;have h':=xas h;have hc:p.ctor∈za0 w ⟨a,k⟩:=by
   rcases h'.2.2.2.2 with h|h|h|h|h|h
   ·omega
   ·omega
   ·omega
   ·omega
   ·omega
   ·exact h.2
  obtain⟨d,rfl,h1,h2⟩:=zcN ht hc;exact zds hw h1 h2 hm
 ·split at hm
  ·simp only[List.mem_cons,xau,or_false] at hm;rcases hm with rfl|rfl<;>exact ht
  ·split at hm
   ·simp only[List.mem_cons,xau,or_false] at hm;subst hm;exact ht
   ·simp at hm
theorem zgb {w:List Data} (hw:WT w){a k:Int}{p:Pat} (ht:TyIn w.length ⟨a,k⟩) (h:p.op=4->p.ctor∈za0 w ⟨a,k⟩):(zag w ⟨a,k⟩ p).length<=1000000000000:=by
 unfold zag;split
 ·rename_i h4;obtain⟨d,rfl,h1,h2⟩:=zcN ht (h h4);exact zc3 hw h1 h2
 ·split
  ·simp
  ·split<;>simp
def zfm (op:Int):Int:=if op=5 then 2 else if op=6 then 1 else if op=4 then -1 else 0
theorem zl8 {op:Int}:FnD Tryz.prog 190 [.d (.i op)] [] (.d (.i (zfm op))) []:=by
 refine bd Tryz.f190 10 [] [] fun _ _ _ _ hk=>?_;apply sq<;>intro h1 h1p h1s;refine rq ?_;rotate_left;apply sq<;>intro h2 h2p h2s;refine rq ?_;rotate_left;apply sq<;>intro h3 h3p h3s;refine rq ?_;rotate_left;refine rq ?_;rotate_left;all_goals (refine xam D.i ?_;simp only[zfm];simp_all)
theorem zdP {w:List Data} (hw:WT w){a k:Int} (ht:TyIn w.length ⟨a,k⟩):FnD Tryz.prog 145 [.d (zap w),.agg [.d (.i a),.d (.i k)]] [] (.d (zaH (za0 w ⟨a,k⟩))) []:=by
 rcases ht with ha|⟨d,hd,hlt⟩
 ·simp only at ha;subst ha;rw[zgc];exact zik
 ·simp only at hd;subst hd;rw[zgU];exact zeN hw hlt
theorem zmT {w:List Data} (hw:WT w){a k c:Int} (ht:TyIn w.length ⟨a,k⟩) (hc:c∈za0 w ⟨a,k⟩):FnD Tryz.prog 146 [.d (zap w),.agg [.d (.i a),.d (.i k)],.d (.i c)] [] (.d (zbn (zaB w ⟨a,k⟩ c))) []:=by
 obtain⟨d,rfl,h1,h2⟩:=zcN ht hc;exact ze7 hw h1 h2
theorem zfL {w:List Data} (hw:WT w){a k:Int}{p:Pat} (ht:TyIn w.length ⟨a,k⟩):
  FnD Tryz.prog 272 [.d (zap w),.agg [.d (.i a),.d (.i k)],.agg [.d (.i p.op),.d (.i p.ctor),.d (.i p.n),.d (.i p.m),.d (.i p.var),.d (zau p.kids)]] [] (.d (.bool (ownP w ⟨a,k⟩ p))) []:=by
 have hcl:=zlx hw ht;refine bd Tryz.f272 96 [] [1,2,4,13] fun _ _ _ _ hk=>?_;refine bx 3004 ?_;refine bx 3005 ?_;refine ev (xaF (xbq 8 [(15,.d (.bool (decide (p.op=2\/p.op=6))))] [8,9,10,11,12,13,14] ?_ ?_));refine ev ?_;apply sq<;>intro h1 h1p h1s;exact jnb Z;exact jnb Z;refine xbp (ev (xaF (xbq 11 [(26,.d (.bool (decide ((p.op=2\/p.op=6)/\(p.var<0\/5<p.var)))))] [16,17,18,19,20,21,22,23,24,25] ?_ ?_)));refine ev ?_;apply sq<;>intro h2 h2p h2s;apply sq<;>intro h3 h3p h3s;exact jnb Z;exact jnb Z;exact jnb Z;refine xbq 9 [(35,.d (.bool (decide ((p.op=2\/p.op=6)/\(p.var<0\/5<p.var)\/¬(p.op=2\/p.op=6)/\p.var≠0))))] [27,28,29,30,31,32,33,34] ?_ ?_;refine ev ?_;apply sq<;>intro h4 h4p h4s;exact jnb Z;apply sq<;>intro h5 h5p h5s;exact jnb Z;exact jnb Z;refine xbp ?_;apply tv;apply sq<;>intro h6 h6p h6s;refine rq ?_;rotate_left;refine xaF (xbq 13 [(48,.d (.bool (decide (p.op≠3/\(p.n≠0\/p.m≠0)))))] [36,37,38,39,40,41,42,43,44,45,46,47] ?_ ?_);refine ev ?_;apply sq<;>intro h7 h7p h7s;apply sq<;>intro h8 h8p h8s;exact jnb Z;exact jnb Z;exact jnb Z;refine xbq 10 [(58,.d (.bool (decide (p.op≠3/\(p.n≠0\/p.m≠0)\/p.op≠4/\p.ctor≠0))))] [49,50,51,52,53,54,55,56,57] ?_ ?_;refine ev ?_;apply sq<;>intro h9 h9p h9s;exact jnb Z;apply sq<;>intro h10 h10p h10s;exact jnb Z;exact jnb Z;refine xbp ?_;apply tv;apply sq<;>intro h11 h11p h11s;refine rq ?_;rotate_left;apply sq<;>intro h12 h12p h12s;apply sq<;>intro h13 h13p h13s;refine rq ?_;rotate_left;apply sq<;>intro h14 h14p h14s;refine xaF (xbq 8 [(75,.d (.bool (decide (a = -1/\0<=p.n))))] [68,69,70,71,72,73,74] ?_ ?_);refine ev ?_;apply sq<;>intro h15 h15p h15s;exact jnb Z;exact jnb Z;refine xbq 7 [(82,.d (.bool (decide (a = -1/\0<=p.n/\p.n<=p.m))))] [76,77,78,79,80,81] ?_ ?_;refine ev ?_;apply sq<;>intro h16 h16p h16s;exact jnb Z;exact jnb Z;refine xbq 5 [(87,.d (.bool (decide (a = -1/\0<=p.n/\p.n<=p.m/\p.m<=9))))] [83,84,85,86] ?_ ?_;refine ev ?_;apply sq<;>intro h17 h17p h17s;exact jnb Z;exact jnb Z;refine xbp (ev (rq ?_));rotate_left;apply sq<;>intro h18 h18p h18s;refine wc zhc (zdP hw ht) Z Z ?_;refine evd [] [] (wc zkx (zec hcl) Z Z ?_);refine evd [] [] (dr (rq ?_));rotate_left;refine rq ?_;rotate_left;apply sq<;>intro h19 h19p h19s;apply sq<;>intro h20 h20p h20s;refine rq ?_;rotate_left;apply sq<;>intro h21 h21p h21s;refine xaF (xbq 8 [(75,.d (.bool (decide (a = -1/\0<=p.n))))] [68,69,70,71,72,73,74] ?_ ?_);refine ev ?_;apply sq<;>intro h22 h22p h22s;exact jnb Z;exact jnb Z;refine xbq 7 [(82,.d (.bool (decide (a = -1/\0<=p.n/\p.n<=p.m))))] [76,77,78,79,80,81] ?_ ?_;refine ev ?_;apply sq<;>intro h23 h23p h23s;exact jnb Z;exact jnb Z;refine xbq 5 [(87,.d (.bool (decide (a = -1/\0<=p.n/\p.n<=p.m/\p.m<=9))))] [83,84,85,86] ?_ ?_;refine ev ?_;apply sq<;>intro h24 h24p h24s;exact jnb Z;exact jnb Z;refine xbp (ev (rq ?_));rotate_left;apply sq<;>intro h25 h25p h25s;refine wc zhc (zdP hw ht) Z Z ?_;refine evd [] [] (wc zkx (zec hcl) Z Z ?_);refine evd [] [] (dr (rq ?_));rotate_left;refine rq ?_;rotate_left;apply sq<;>intro h26 h26p h26s;apply sq<;>intro h27 h27p h27s;refine rq ?_;rotate_left;apply sq<;>intro h28 h28p h28s;refine xaF (xbq 8 [(75,.d (.bool (decide (a = -1/\0<=p.n))))] [68,69,70,71,72,73,74] ?_ ?_);refine ev ?_;apply sq<;>intro h29 h29p h29s;exact jnb Z;exact jnb Z;refine xbq 7 [(82,.d (.bool (decide (a = -1/\0<=p.n/\p.n<=p.m))))] [76,77,78,79,80,81] ?_ ?_;refine ev ?_;apply sq<;>intro h30 h30p h30s;exact jnb Z;exact jnb Z;refine xbq 5 [(87,.d (.bool (decide (a = -1/\0<=p.n/\p.n<=p.m/\p.m<=9))))] [83,84,85,86] ?_ ?_;refine ev ?_;apply sq<;>intro h31 h31p h31s;exact jnb Z;exact jnb Z;refine xbp (ev (rq ?_));rotate_left;apply sq<;>intro h32 h32p h32s;refine wc zhc (zdP hw ht) Z Z ?_;refine evd [] [] (wc zkx (zec hcl) Z Z ?_);refine evd [] [] (dr (rq ?_));rotate_left;refine rq ?_;rotate_left;apply sq<;>intro h33 h33p h33s;refine rq ?_;rotate_left;apply sq<;>intro h34 h34p h34s;refine xaF (xbq 8 [(75,.d (.bool (decide (a = -1/\0<=p.n))))] [68,69,70,71,72,73,74] ?_ ?_);refine ev ?_;apply sq<;>intro h35 h35p h35s;exact jnb Z;exact jnb Z;refine xbq 7 [(82,.d (.bool (decide (a = -1/\0<=p.n/\p.n<=p.m))))] [76,77,78,79,80,81] ?_ ?_;refine ev ?_;apply sq<;>intro h36 h36p h36s;exact jnb Z;exact jnb Z;refine xbq 5 [(87,.d (.bool (decide (a = -1/\0<=p.n/\p.n<=p.m/\p.m<=9))))] [83,84,85,86] ?_ ?_;refine ev ?_;apply sq<;>intro h37 h37p h37s;exact jnb Z;exact jnb Z;refine xbp (ev (rq ?_));rotate_left;apply sq<;>intro h38 h38p h38s;refine wc zhc (zdP hw ht) Z Z ?_;refine evd [] [] (wc zkx (zec hcl) Z Z ?_);refine evd [] [] (dr (rq ?_));rotate_left;refine rq ?_;rotate_left;all_goals (refine xam D.bool ?_;unfold ownP;rw[xat];by_cases hmem:p.ctor∈za0 w ⟨a,k⟩<;>(simp only[hmem,and_true,and_false,or_false,xah,xad,Bool.false_eq_true,true_iff,false_iff];simp only[xah,decide_eq_false_iff_not] at *;omega))
theorem zcG {w:List Data} (hw:WT w){a k:Int}{p:Pat} (ht:TyIn w.length ⟨a,k⟩) (h:p.op=4->p.ctor∈za0 w ⟨a,k⟩):
  FnD Tryz.prog 136 [.d (zap w),.agg [.d (.i a),.d (.i k)],.agg [.d (.i p.op),.d (.i p.ctor),.d (.i p.n),.d (.i p.m),.d (.i p.var),.d (zau p.kids)]] [] (.d (zbn (zag w ⟨a,k⟩ p))) []:=by
 by_cases h4:p.op=4
 ·have e:zag w ⟨a,k⟩ p=zaB w ⟨a,k⟩ p.ctor:=by unfold zag;rw[if_pos h4]
  rw[e];refine bd Tryz.f136 30 [] [] fun _ _ _ _ hk=>?_;refine bx 3004 ?_;refine bx 3005 ?_;refine ev ?_;apply sq<;>intro h1 h1p h1s;refine wc znm (zmT hw ht (h h4)) Z Z ?_;refine ev (rq ?_);rotate_left;exfalso;simp_all;all_goals (rfl)
 ·have e:zag w ⟨a,k⟩ p=List.replicate (zfm p.op).toNat ⟨a,k⟩:=by
   unfold zag zfm;rw[if_neg h4];by_cases h5:p.op=5
   ·rw[if_pos h5,if_pos h5];rfl
   ·rw[if_neg h5,if_neg h5];by_cases h6:p.op=6
    ·rw[if_pos h6,if_pos h6];rfl
    ·rw[if_neg h6,if_neg h6,if_neg h4];rfl
  have hb:0<=zfm p.op/\zfm p.op<=2:=by unfold zfm;split<;>(try split)<;>(try split)<;>omega
  rw[e];refine bd Tryz.f136 30 [] [] fun _ _ _ _ hk=>?_;refine bx 3004 ?_;refine bx 3005 ?_;refine ev ?_;apply sq<;>intro h1 h1p h1s;exfalso;simp_all;refine xbX 5 za3 .none Z Z (ev (xaD (ι:=Nat) hk (fun i=>[(8,.d (.i (i:Int))),(7,.gl 5 ((List.replicate i (⟨a,k⟩:Ty)).map Ty.c))]) [18,19,20,21,22,23,24,25,26,27,28] (fun i=>[(5,some (.tok (((List.replicate i (⟨a,k⟩:Ty)).map Ty.c)).length 2))]) (fun i=>(i:Int)<=zfm p.op) (fun i=>(zfm p.op).toNat-i) 0 od ⟨⟨_,Z,xaQ ?_⟩,⟨⟨_,Z,LeA.glg ?_⟩,I⟩⟩ ⟨zac ?_,I⟩ (fun x=>rfl) (fun i hg1=>?_)));iterate 3 focus (rfl)
  refine evc [] [] (wc zsW zl8 Z Z ?_);refine ev ?_;apply sq<;>intro h2 h2p h2s<;>(try simp only[Q] at h2p);refine si [0] [_] za3 tz29 ?_;refine ap za3 zz29 Z Z Z og ot ?_;refine ev (ar (xaj (i+1) ⟨od,od,sx ⟨⟨_,Z,xaQ ?_⟩,⟨⟨_,Z,LeA.glg ?_⟩,I⟩⟩ ⟨zac ?_,I⟩⟩));iterate 3 focus ((simp[List.replicate_succ'];done))
  refine rn0 (r1 Z) (.gld ?_);rotate_left;all_goals ((obtain rfl:i=(zfm p.op).toNat:=by omega);simp)
theorem zck {w:List Data}{n:Nat}{t:Ty}{p:Pat} (h:zaw w (n+1) t p=true):ownP w t p=true/\p.kids.length=(zag w t p).length:=by
 simp only[zaw,xad] at h;refine⟨h.1, ?_⟩;by_cases hl:(zag w t p).length=p.kids.length
 ·exact hl.symm
 ·rw[zeV hl] at h;simp at h
theorem zcs {w:List Data}{t:Ty}{p:Pat} (h:ownP w t p=true):p.op=4->p.ctor∈za0 w t:=by
 intro h4;unfold ownP at h;have h':=(xas h).2.2.2.2;rcases h' with h|h|h|h|h|h
 ·omega
 ·omega
 ·omega
 ·omega
 ·omega
 ·exact h.2
theorem znM {w:List Data}{t:Ty}{p:Pat} (h:ownP w t p=true):(p.op=2\/p.op=6)->0<=p.var/\p.var<=5:=by
 unfold ownP at h;exact(xas h).1
theorem zeP {w:List Data} (hw:WT w):∀(n:Nat){a k m:Int}{p:Pat},m=n->n<=1000->TyIn w.length ⟨a,k⟩->p.ok->
  FnD Tryz.prog 243 [.d (zap w),.agg [.d (.i a),.d (.i k)],.agg [.d (.i p.op),.d (.i p.ctor),.d (.i p.n),.d (.i p.m),.d (.i p.var),.d (zau p.kids)],.d (.i m)] [] (.d (.bool (zaw w n ⟨a,k⟩ p))) []
 |0,a,k,m,p,hm,_,ht,hok=>by
  refine bd Tryz.f243 50 [] [1] fun _ _ _ _ hk=>?_;refine bx 3005 ?_;refine bx 3006 ?_;refine ev (xaF (xbq 9 [(19,.d (.bool true))] [11,12,13,14,15,16,17,18] ?_ ?_));refine ev ?_;apply sq<;>intro h1 h1p h1s;exact jnb Z;refine Walk.call (cr:=[]) znt (zfL hw ht) Z (.some Z Z h1) Z Z (LeL.refl _) I Z Z Z (evs [] [(13,false)] ?_ ⟨⟨_,Z,h1⟩,I⟩);exact jnb Z;refine xbp ?_;apply tv;apply sq<;>intro h2 h2p h2s;refine rq ?_;rotate_left;exact absurd h2 og;all_goals (rfl)
 |n+1,a,k,m,p,hm,hn,ht,hok=>by
  rw[xaY] at hok;by_cases ho:ownP w ⟨a,k⟩ p=true
  ·have hin:=zfE hw ht ho;have hlen:=zgb hw ht (zcs ho);refine bd Tryz.f243 50 [] [1] fun _ _ _ _ hk=>?_;refine bx 3005 ?_;refine bx 3006 ?_;refine ev (xaF (xbq 9 [(19,.d (.bool false))] [11,12,13,14,15,16,17,18] ?_ ?_));refine ev ?_;apply sq<;>intro h1 h1p h1s;exact jnb Z;refine Walk.call (cr:=[]) znt (zfL hw ht) Z (.some Z Z h1) Z Z (LeL.refl _) I Z Z Z (evs [] [(13,false)] ?_ ⟨⟨_,Z,h1⟩,I⟩);exact jnb Z;refine xbp ?_;apply tv;apply sq<;>intro h2 h2p h2s;exact absurd h2 og;refine wc zim (zcG hw ht (zcs ho)) Z Z ?_;refine ev ?_;apply sq<;>intro h3 h3p h3s;refine rq ?_;rotate_left;try simp only[Q,xaW] at h3p
   refine xaD (ι:=Nat) hk (fun i=>[(10,.d (.i (i:Int)))]) [8,30,31,32,33,34,35,36,37,38,39,40,41,42,43,44,45,46,47,48,49] (fun i=>[]) (fun i=>i<=(zag w ⟨a,k⟩ p).length/\∀i',i'<i->zaw w n (nth (zag w ⟨a,k⟩ p) i') (nth p.kids i')=true) (fun i=>(zag w ⟨a,k⟩ p).length-i) 0 ⟨by omega,fun _ h=>absurd h od⟩ ⟨⟨_,Z,xaQ ?_⟩,I⟩ I (fun x=>rfl) (fun i hg1=>?_);focus (first|(simp;done)|(simp_all;done))
   refine evc [] [1] ?_;apply sq<;>intro h4 h4p h4s;try simp only[Q,xaW] at h4p
   refine ixq za3 Z Z Z (zao od) Z ?_;refine evd [] [] (ixq sl72 Z Z Z (zaS od) Z ?_);refine evd [] [] (ar (wc znq (zeP hw n od od (hin _ (zai od)) (xa0 hok.2 _ (zai od))) Z Z ?_));refine evd [] [] (dr ?_);apply sq<;>intro h5 h5p h5s;refine rq ?_;rotate_left;try simp only[Q,xaW] at h5p
   refine ar (xaj (i+1) ⟨⟨by omega,zaR hg1.2 ol⟩,od,sx ⟨⟨_,Z,xaQ ?_⟩,I⟩ I⟩);focus (first|(simp;done)|(simp_all;done))
   refine rq ?_;rotate_left;all_goals (refine xam D.bool ?_;unfold zaw;rw[ho,Bool.true_and];first|(rw[zeV (by simp[xaW] at *;omega)])|(rw[zd3 (by simp[xaW] at *;omega) (fun x hx=>hg1.2 x (by simp[xaW] at *;omega))])|(rw[zcm (i:=i) (by simp[xaW] at *;omega) (by simp[xaW] at *;omega) ol]))
  ·have ho':ownP w ⟨a,k⟩ p=false:=by simpa using ho
   refine bd Tryz.f243 50 [] [1] fun _ _ _ _ hk=>?_;refine bx 3005 ?_;refine bx 3006 ?_;refine ev (xaF (xbq 9 [(19,.d (.bool true))] [11,12,13,14,15,16,17,18] ?_ ?_));refine ev ?_;apply sq<;>intro h1 h1p h1s;exact jnb Z;refine Walk.call (cr:=[]) znt (zfL hw ht) Z (.some Z Z h1) Z Z (LeL.refl _) I Z Z Z (evs [] [(13,false)] ?_ ⟨⟨_,Z,h1⟩,I⟩);exact jnb Z;refine xbp ?_;apply tv;apply sq<;>intro h2 h2p h2s;refine rq ?_;rotate_left;exact absurd h2 og;all_goals (refine xam D.bool ?_;unfold zaw;rw[ho'];rfl)
theorem ze9 {l:List Vt}{n:Int} (h:l.length<=1000000000000):FnD Tryz.prog 246 [.d (zcq l),.d (.i n)] [] (.d (.i (zbt l n))) []:=by
 refine bd Tryz.f246 20 [] [] fun _ _ _ _ hk=>?_;refine xaD (ι:=List (Vt)×List (Vt)) hk (fun x=>[(5,.d (.i (x.1.length:Int)))]) [4,6,7,8,9,10,11,12,13,14,15,16,17,18,19] (fun x=>[]) (fun x=>x.1++x.2=l/\idxF (fun v=>decide (v.var=n)) x.2 x.1.length=idxF (fun v=>decide (v.var=n)) l 0) (fun x=>x.2.length) ([],l) ⟨by simp,Z⟩ ⟨⟨_,Z,xaQ ?_⟩,I⟩ I (fun x=>rfl) (fun x hg1=>?_);focus (rfl)
 obtain⟨pre,rest⟩:=x;dsimp only at hg1 ⊢;refine evc [] [] ?_;apply sq<;>intro h1 h1p h1s<;>(try simp only[Q] at h1p);rcases rest with _|⟨y,rest⟩
 ·exfalso;simp_all
 refine ixq sl66 Z Z Z (zaL hg1.1) Z (ev ?_);apply sq<;>intro h2 h2p h2s<;>(try simp only[Q] at h2p);focus (refine rq ?_;all_goals (refine xam D.i ?_;unfold zbt;rw[<-hg1.2];simp[idxF,h1s,h1p,h2s,h2p]))
 refine ar (xaj ((pre++[y],rest)) ⟨⟨(by have hz:=hg1.1;rw[<-hz];simp),(by rw[<-hg1.2];simp_all[idxF])⟩,og,sx ⟨⟨_,Z,xaQ ?_⟩,I⟩ I⟩);focus ((simp;done))
 have hrest:rest=[]:=by
  rcases rest with _|⟨a,b⟩
  ·rfl
  ·exfalso;have hz:=xam List.length (hg1.1);simp only[xaa,xab,xac] at hz;omega
 subst hrest;focus (refine rq ?_;all_goals (refine xam D.i ?_;unfold zbt;rw[<-hg1.2];simp[idxF,h1s,h1p]))
theorem zok {a b:List Vt}{i:Nat} (h:i<a.length) (h2:¬(0<=zbt b (nth a i).var/\(nth b (zbt b (nth a i).var).toNat).ty=(nth a i).ty)):zcS a b=false:=by
 unfold zcS;have:(a.all fun v=>decide (0<=zbt b v.var/\(nth b (zbt b v.var).toNat).ty=v.ty))=false:=List.all_eq_false.2 ⟨_,zai h,by simpa using h2⟩;rw[this,Bool.false_and]
theorem zo6 {a b:List Vt} (h:∀i,i<a.length->0<=zbt b (nth a i).var/\(nth b (zbt b (nth a i).var).toNat).ty=(nth a i).ty):zcS a b=decide (a.length=b.length):=by
 unfold zcS;have:(a.all fun v=>decide (0<=zbt b v.var/\(nth b (zbt b v.var).toNat).ty=v.ty))=true:=by
  rw[List.all_eq_true];intro v hv;obtain⟨j,hj,he⟩:=List.getElem_of_mem hv;have:=h j hj;rw[zaD hj,he] at this;exact xax this
 rw[this,Bool.true_and]
theorem zj0 {l:List Vt}{n:Int} (h:0<=zbt l n):(zbt l n).toNat<l.length/\((zbt l n).toNat:Int)=zbt l n:=by
 rcases zex l n with ⟨h1,_⟩|⟨k,h1,h2,_⟩
 ·omega
 ·rw[h1];simpa using h2
theorem zqT {t u:Ty}:t=u↔t.data=u.data/\t.index=u.index:=by
 cases t;cases u;simp
theorem zll {x y:List Vt} (hx:x.length<=1000000000000) (hy:y.length<=1000000000000):FnD Tryz.prog 273 [.d (zcq x),.d (zcq y)] [] (.d (.bool (zcS x y))) []:=by
 refine bd Tryz.f273 40 [33] [] fun _ _ _ _ hk=>?_;refine xaD (ι:=Nat) hk (fun i=>[(5,.d (.i (i:Int)))]) [4,6,7,8,9,10,11,12,13,14,15,16,17,18,19,20,21,22,23,24,25,26,27,28,29,30,31,32,33,34] (fun i=>[]) (fun i=>i<=x.length/\∀j,j<i->0<=zbt y (nth x j).var/\(nth y (zbt y (nth x j).var).toNat).ty=(nth x j).ty) (fun i=>x.length-i) 0 ⟨by omega,fun _ h=>absurd h od⟩ ⟨⟨_,Z,xaQ ?_⟩,I⟩ I (fun x=>rfl) (fun i hg1=>?_);focus (rfl)
 refine evc [33] [] ?_;apply sq<;>intro h1 h1p h1s<;>(try simp only[Q] at h1p);refine ixq sl66 Z Z Z (zao od) Z ?_;refine evs [33] [] (wc zns (ze9 hy) Z Z ?_);refine evs [33] [] ?_;apply sq<;>intro h2 h2p h2s<;>(try simp only[Q] at h2p);refine dr (sqT ?_);refine rq ?_;rotate_left;refine xbE (i:=(zbt y (nth x i).var).toNat) sl66 (.some Z Z h2) Z Z Z (zj0 (l:=y) (n:=(nth x i).var) od).2.symm (zao (by exact(zj0 (l:=y) (n:=(nth x i).var) od).1)) Z ?_;refine evd [33] [(22,false)] ?_ ⟨⟨_,Z,h2⟩,I⟩;refine xbE sl66 (.some Z Z h2) Z Z Z Z (zao od) Z ?_;refine evd [33] [(22,false)] ?_ ⟨⟨_,Z,h2⟩,I⟩;refine Walk.neV eq29 (.some Z Z h2) Z Z Z Z Z (evd [33] [(22,false)] ?_ ⟨⟨_,Z,h2⟩,I⟩);refine dr ?_;apply sq<;>intro h4 h4p h4s<;>(try simp only[Q] at h4p);refine rq ?_;rotate_left;refine ar (xaj (i+1) ⟨⟨by omega,zaR hg1.2 (by rw[zqT];first|omega|(simp at h4;omega))⟩,od,sx ⟨⟨_,Z,xaQ ?_⟩,I⟩ I⟩);focus (rfl)
 refine rq ?_;rotate_left;all_goals (refine xam D.bool ?_;first|(refine(zok (i:=i) od ?_).symm;simp only[zqT];first|omega|(simp at h4;omega))|(rw[zo6 (fun j hj=>hg1.2 j (by simp at h1p;omega))];exact decide_eq_decide.2 ot))
theorem zjf {f:Ty->Pat->List Vt} (hf:∀t p,(f t p).length<=p.size):∀(a:List Ty) (b:List Pat),(zaY f a b).length<=Pats.size b
 | [],[]=>by simp[zaY]
 | [],_::_=>by simp[zaY]
 |_::_,[]=>by simp[zaY]
 |x::r,y::s=>by
  have h1:=zjf hf r s;have h2:=hf x y;simp only[zaY,xaa,Pats.size];omega
theorem zdF (w:List Data):∀(n:Nat) (t:Ty) (p:Pat),(zaI w n t p).length<=p.size
 |0,t,p=>by simp[zaI]
 |n+1,t,p=>by
  have h1:=zjf (zdF w n) (zcg w t p) p.kids;have h2:(zaN t p).length<=1:=by unfold zaN;split<;>simp
  rw[xaZ];simp only[zaI,xaa];omega
theorem zh2 {f:Ty->Pat->List Vt}:∀ {a:List Ty}{b:List Pat}{i:Nat},i<a.length->i<b.length->zaY f (a.take (i+1)) (b.take (i+1))=zaY f (a.take i) (b.take i)++f (nth a i) (nth b i)
 |x::r,y::s,0,_,_=>by simp[zaY,nth]
 |x::r,y::s,i+1,h1,h2=>by
  have:=zh2 (f:=f) (a:=r) (b:=s) (i:=i) (by simpa using h1) (by simpa using h2);simp only[List.take_succ_cons,zaY];rw[this,xar];rfl
theorem zlw {f:Ty->Pat->List Vt}:∀ {a:List Ty}{b:List Pat}{i:Nat},zaY f (a.take i) (b.take i)=zaY f (a.take i) b
 | [],b,i=>by simp[zaY]
 |x::r,[],i=>by simp[zaY]
 |x::r,y::s,0=>by simp[zaY]
 |x::r,y::s,i+1=>by simp only[List.take_succ_cons,zaY];rw[zlw]
theorem zoi {f:Ty->Pat->List Vt} (hf:∀t p,(f t p).length<=p.size){a:List Ty}{b:List Pat}{i:Nat} (h:i<b.length):(zaY f (a.take i) (b.take i)).length+(nth b i).size<=Pats.size b:=by
 have h1:=zjf hf (a.take i) (b.take i);have h2:=xa3 (pre:=b.take i) (y:=nth b i) (rest:=b.drop (i+1)) (l:=b) (by rw[<-zb0 h,List.take_append_drop]);omega
def zcZ (w:List Data) (t:Ty) (p:Pat):Nat:=(zcg w t p).length
theorem zjg (w:List Data) (t:Ty) (p:Pat):zcZ w t p=if p.op=5 then 1 else (zag w t p).length:=by
 unfold zcZ zcg;by_cases h5:p.op=5
 ·rw[if_pos h5,if_pos h5];have:zag w t p=[t,t]:=by unfold zag;rw[if_neg od,if_pos h5]
  rw[this];rfl
 ·rw[if_neg h5,if_neg h5]
theorem zmI {w:List Data}{f:Ty->Pat->List Vt}{t:Ty}{p:Pat} (hl:p.kids.length=(zag w t p).length){i:Nat} (h:i=zcZ w t p):zaY f ((zag w t p).take i) (p.kids.take i)=zaY f (zcg w t p) p.kids:=by
 subst h;rw[zlw];congr 1
 rw[zjg];unfold zcg;by_cases h5:p.op=5
 ·rw[if_pos h5,if_pos h5]
 ·rw[if_neg h5,if_neg h5,List.take_length]
theorem zcj {w:List Data}{n:Nat}{t:Ty}{p:Pat} (h:zaw w (n+1) t p=true){i:Nat} (hi:i<p.kids.length):zaw w n (nth (zag w t p) i) (nth p.kids i)=true:=by
 have hl:=(zck h).2;cases hs:zaw w n (nth (zag w t p) i) (nth p.kids i) with
 |true=>rfl
 |false=>
  have:=zcm (f:=zaw w n) (a:=zag w t p) (b:=p.kids) (i:=i) od hl.symm hs;simp only[zaw,this,Bool.and_false] at h;cases h
theorem zfa {w:List Data} (hw:WT w):∀(n:Nat){a k:Int}{p:Pat}{xs:List Vt},zaw w n ⟨a,k⟩ p=true->n<=1000->TyIn w.length ⟨a,k⟩->p.ok->xs.length+p.size<=2000000000000->
  FnD Tryz.prog 80 [.gl 5 (xs.map Vt.c),.d (zap w),.agg [.d (.i a),.d (.i k)],.agg [.d (.i p.op),.d (.i p.ctor),.d (.i p.n),.d (.i p.m),.d (.i p.var),.d (zau p.kids)]] [(5,some (.tok (xs.map Vt.c).length 3))]
   (.gl 5 ((xs++zaI w n ⟨a,k⟩ p).map Vt.c)) [(5,some (.tok ((xs++zaI w n ⟨a,k⟩ p).map Vt.c).length 3))]
 |0,a,k,p,xs,hs,_,_,_,_=>by simp[zaw] at hs
 |n+1,a,k,p,xs,hs,hn,ht,hok,hb=>by
  rw[xaY] at hok;rw[xaZ] at hb;obtain⟨ho,hl⟩:=zck hs;have hin:=zfE hw ht ho;have hlen:=zgb hw ht (zcs ho);have hvc5:p.op=5->zcZ w ⟨a,k⟩ p=1:=fun h=>by rw[zjg,if_pos h]
  have hvc:¬p.op=5->zcZ w ⟨a,k⟩ p=(zag w ⟨a,k⟩ p).length:=fun h=>by rw[zjg,if_neg h]
  have hv2:zcZ w ⟨a,k⟩ p<=p.kids.length:=by
   unfold zcZ zcg;split
   ·rw[List.length_take];omega
   ·omega
  have e5:p.op=5->(zag w ⟨a,k⟩ p).length=2:=fun h5=>by unfold zag;rw[if_neg od,if_pos h5];rfl
  have hnm:(zaN ⟨a,k⟩ p).length<=1:=by unfold zaN;split<;>simp
  refine bd Tryz.f80 58 [] [1,5,6] fun _ _ _ _ hk=>?_;refine bx 3006 ?_;refine bx 3007 ?_;refine ev (xaF (xbq 8 [(18,.d (.bool (decide (p.op=2\/p.op=6))))] [11,12,13,14,15,16,17] ?_ ?_));refine ev ?_;apply sq<;>intro h1 h1p h1s;exact jnb Z;exact jnb Z;refine xbp ?_;apply tv;apply sq<;>intro h2 h2p h2s<;>(try simp only[Q,xaW] at h2p);refine bu [0,1] [_,_] zpF ?_;refine si [0] [_] sl66 zm6 ?_;refine ap sl66 zm7 Z Z Z og ot ?_;refine ev (wc zim (zcG hw ht (zcs ho)) Z Z ?_);refine ev (xaC 5 6 (ι:=Nat) hk (fun i=>[(0,.gl 5 ((xs++zaN ⟨a,k⟩ p++zaY (zaI w n) ((zag w ⟨a,k⟩ p).take i) (p.kids.take i)).map Vt.c)),(10,.d (.i (i:Int)))]) [30,31,32,33,34,35,36,37,38,39,40,41,42,43,44,45,46,47,48,49,50,51,52,53,54,55,56] (fun i=>[(5,some (.tok ((xs++zaN ⟨a,k⟩ p++zaY (zaI w n) ((zag w ⟨a,k⟩ p).take i) (p.kids.take i)).map Vt.c).length 3))]) (fun i=>i<=zcZ w ⟨a,k⟩ p) (fun i=>zcZ w ⟨a,k⟩ p-i) 0 od ⟨⟨_,Z,LeA.glg ?_⟩,⟨⟨_,Z,xaQ ?_⟩,I⟩⟩ ⟨zac ?_,I⟩ (fun x=>rfl) (fun i hg1=>?_));iterate 3 focus ((simp[zaY,zaN, *];done))
  refine evc [] [1,5,6] (xaF (xbq 13 [(42,.d (.bool (decide (i<zcZ w ⟨a,k⟩ p))))] [30,31,32,33,34,35,36,37,38,39,40,41] ?_ ?_));refine ev ?_;apply sq<;>intro h3 h3p h3s;apply sq<;>intro h4 h4p h4s;exact jnb Z;exact jnb Z;exact jnb Z;refine xbp ?_;apply tv;apply sq<;>intro h5 h5p h5s<;>(try simp only[Q,xaW] at h5p);refine ixq za3 Z Z Z (zao od) Z ?_;refine evd [] [] (ixq sl72 Z Z Z (zaS od) Z ?_);refine evd [] [] (xbw 6 zjk (zfa hw n (a:=(nth (zag w ⟨a,k⟩ p) i).data) (k:=(nth (zag w ⟨a,k⟩ p) i).index) (p:=nth p.kids i) (xs:=xs++zaN ⟨a,k⟩ p++zaY (zaI w n) ((zag w ⟨a,k⟩ p).take i) (p.kids.take i)) (zcj hs od) od (hin _ (zai od)) (xa0 hok.2 _ (zai od)) (by have:=zoi (zdF w n) (a:=zag w ⟨a,k⟩ p) (b:=p.kids) (i:=i) od;simp only[xaa];omega)) Z .none Z Z (.cons (.refl _) (.cons (.refl _) (.cons (.refl _) (.cons (.refl _) .nil)))) Z (by rfl) ?_);refine evd [] [] (dr (CWp.retok 0 6 5 Z Z Z Z Z (evc [] [] (ar (xaj (i+1) ⟨od,od,sx ⟨⟨_,Z,LeA.glg ?_⟩,⟨⟨_,Z,xaQ ?_⟩,I⟩⟩ ⟨zac ?_,I⟩⟩)))));iterate 3 focus (first|rfl|(rw[zh2 od od];simp[xar];done))
  refine rn [(5,some (.tok ((xs++zaI w (n+1) ⟨a,k⟩ p).map Vt.c).length 3))] (r1 Z) (.glg ?_) ⟨Z,Z⟩ (SubO.get ⟨.inr ?_,⟨.inl Z,I⟩⟩) (zaX Z);rotate_left 2;refine wc zim (zcG hw ht (zcs ho)) Z Z ?_;refine ev (xaC 5 6 (ι:=Nat) hk (fun i=>[(0,.gl 5 ((xs++zaN ⟨a,k⟩ p++zaY (zaI w n) ((zag w ⟨a,k⟩ p).take i) (p.kids.take i)).map Vt.c)),(10,.d (.i (i:Int)))]) [30,31,32,33,34,35,36,37,38,39,40,41,42,43,44,45,46,47,48,49,50,51,52,53,54,55,56] (fun i=>[(5,some (.tok ((xs++zaN ⟨a,k⟩ p++zaY (zaI w n) ((zag w ⟨a,k⟩ p).take i) (p.kids.take i)).map Vt.c).length 3))]) (fun i=>i<=zcZ w ⟨a,k⟩ p) (fun i=>zcZ w ⟨a,k⟩ p-i) 0 od ⟨⟨_,Z,LeA.glg ?_⟩,⟨⟨_,Z,xaQ ?_⟩,I⟩⟩ ⟨zac ?_,I⟩ (fun x=>rfl) (fun i hg1=>?_));iterate 3 focus ((simp[zaY,zaN, *];done))
  refine evc [] [1,5,6] (xaF (xbq 13 [(42,.d (.bool (decide (i<zcZ w ⟨a,k⟩ p))))] [30,31,32,33,34,35,36,37,38,39,40,41] ?_ ?_));refine ev ?_;apply sq<;>intro h6 h6p h6s<;>(try simp only[Q,xaW] at h6p);apply sq<;>intro h7 h7p h7s<;>(try simp only[Q,xaW] at h7p);exact jnb Z;exact jnb Z;exact jnb Z;refine xbp ?_;apply tv;apply sq<;>intro h8 h8p h8s<;>(try simp only[Q,xaW] at h8p);refine ixq za3 Z Z Z (zao od) Z ?_;refine evd [] [] (ixq sl72 Z Z Z (zaS od) Z ?_);refine evd [] [] (xbw 6 zjk (zfa hw n (a:=(nth (zag w ⟨a,k⟩ p) i).data) (k:=(nth (zag w ⟨a,k⟩ p) i).index) (p:=nth p.kids i) (xs:=xs++zaN ⟨a,k⟩ p++zaY (zaI w n) ((zag w ⟨a,k⟩ p).take i) (p.kids.take i)) (zcj hs od) od (hin _ (zai od)) (xa0 hok.2 _ (zai od)) (by have:=zoi (zdF w n) (a:=zag w ⟨a,k⟩ p) (b:=p.kids) (i:=i) od;simp only[xaa];omega)) Z .none Z Z (.cons (.refl _) (.cons (.refl _) (.cons (.refl _) (.cons (.refl _) .nil)))) Z (by rfl) ?_);refine evd [] [] (dr (CWp.retok 0 6 5 Z Z Z Z Z (evc [] [] (ar (xaj (i+1) ⟨od,od,sx ⟨⟨_,Z,LeA.glg ?_⟩,⟨⟨_,Z,xaQ ?_⟩,I⟩⟩ ⟨zac ?_,I⟩⟩)))));iterate 3 focus (first|rfl|(rw[zh2 od od];simp[xar];done))
  refine rn [(5,some (.tok ((xs++zaI w (n+1) ⟨a,k⟩ p).map Vt.c).length 3))] (r1 Z) (.glg ?_) ⟨Z,Z⟩ (SubO.get ⟨.inr ?_,⟨.inl Z,I⟩⟩) (zaX Z);rotate_left 2;all_goals (first|((rw[zaI,<-zmI (f:=zaI w n) hl (i:=i) od];simp);done)|((show some (Res.tok _ _)=some (Res.tok _ _);congr 2;rw[zaI,<-zmI (f:=zaI w n) hl (i:=i) od];simp)))
theorem zdp {w:List Data} (hw:WT w){n:Nat}{a k:Int}{p:Pat} (hs:zaw w n ⟨a,k⟩ p=true) (hn:n<=1000) (ht:TyIn w.length ⟨a,k⟩) (hok:p.ok) (hb:p.size<=1000000000000):
  FnD Tryz.prog 80 [.nils,.d (zap w),.agg [.d (.i a),.d (.i k)],.agg [.d (.i p.op),.d (.i p.ctor),.d (.i p.n),.d (.i p.m),.d (.i p.var),.d (zau p.kids)]] [] (.d (zcq (zaI w n ⟨a,k⟩ p))) []:=by
 have h:=zfa hw n (xs:=[]) hs hn ht hok (by simp only[xak];omega);exact xaN (by simp[AV.idsL,AV.ids]) h
theorem zoo {l:List Vt}{i:Nat} (h:i<l.length) (h2:¬zbt l (nth l i).var=i):zmY l=false:=zdj h (by simpa using h2)
theorem zel {w:List Data} (hw:WT w):∀(n:Nat){a k:Int}{p:Pat},zaw w n ⟨a,k⟩ p=true->n<=1000->TyIn w.length ⟨a,k⟩->p.ok->p.size<=1000000000000->
  FnD Tryz.prog 245 [.d (zap w),.agg [.d (.i a),.d (.i k)],.agg [.d (.i p.op),.d (.i p.ctor),.d (.i p.n),.d (.i p.m),.d (.i p.var),.d (zau p.kids)]] [] (.d (.bool (linP w n ⟨a,k⟩ p))) []
 |0,a,k,p,hs,_,_,_,_=>by simp[zaw] at hs
 |n+1,a,k,p,hs,hn,ht,hok,hb=>by
  have hok':=hok;rw[xaY] at hok;have hb':=hb;rw[xaZ] at hb';obtain⟨ho,hl⟩:=zck hs;have hin:=zfE hw ht ho;have hlen:=zgb hw ht (zcs ho);have hvl:=zdF w (n+1) ⟨a,k⟩ p;have hsz:∀i,i<p.kids.length->(nth p.kids i).size<=1000000000000:=fun i hi=>by have:=zeq hi;omega
  by_cases hop5:p.op=5
  ·have e1:zag w ⟨a,k⟩ p=[⟨a,k⟩,⟨a,k⟩]:=by unfold zag;rw[if_neg od,if_pos hop5]
   have hl2:p.kids.length=2:=by rw[hl,e1];rfl
   have s0:zaw w n ⟨a,k⟩ (nth p.kids 0)=true:=by have:=zcj hs (i:=0) od;rw[e1] at this;exact this
   have s1:zaw w n ⟨a,k⟩ (nth p.kids 1)=true:=by have:=zcj hs (i:=1) od;rw[e1] at this;exact this
   have v0:=zdF w n ⟨a,k⟩ (nth p.kids 0);have v1:=zdF w n ⟨a,k⟩ (nth p.kids 1);have z0:=hsz 0 od;have z1:=hsz 1 od;refine bd Tryz.f245 70 [] [] fun _ _ _ _ hk=>?_;refine bx 3004 ?_;refine bx 3005 ?_;refine ev (wc zim (zcG hw ht (zcs ho)) Z Z ?_);refine ev (xaD (ι:=Nat) hk (fun i=>[(8,.d (.i (i:Int)))]) [6,15,16,17,18,19,20,21,22,23,24,25,26,27,28,29,30,31,32] (fun i=>[]) (fun i=>i<=(zag w ⟨a,k⟩ p).length/\∀i',i'<i->linP w n (nth (zag w ⟨a,k⟩ p) i') (nth p.kids i')=true) (fun i=>(zag w ⟨a,k⟩ p).length-i) 0 ⟨by omega,fun _ h=>absurd h od⟩ ⟨⟨_,Z,xaQ ?_⟩,I⟩ I (fun x=>rfl) (fun i hg1=>?_));focus (first|rfl|(simp;done))
   refine evc [] [] ?_;apply sq<;>intro h1 h1p h1s<;>(try simp only[Q,xaW] at h1p);refine ixq za3 Z Z Z (zao od) Z ?_;refine evd [] [] (ixq sl72 Z Z Z (zaS od) Z ?_);refine evd [] [] (wc zkw (zel hw n (zcj hs od) od (hin _ (zai od)) (xa0 hok.2 _ (zai od)) (hsz _ od)) Z Z ?_);refine evd [] [] (dr ?_);apply sq<;>intro h2 h2p h2s<;>(try simp only[Q,xaW] at h2p);refine rq ?_;rotate_left;refine ar (xaj (i+1) ⟨⟨by omega,zaR hg1.2 ol⟩,od,sx ⟨⟨_,Z,xaQ ?_⟩,I⟩ I⟩);focus (first|rfl|(simp;done))
   apply sq<;>intro h3 h3p h3s<;>(try simp only[Q,xaW] at h3p);refine ixq (i:=0) sl72 Z Z Z (zaS od) Z ?_;refine evd [] [] (wc zjk (zdp hw s0 od ht (xa0 hok.2 _ (zai od)) z0) Z Z ?_);refine evd [] [] (ixq (i:=1) sl72 Z Z Z (zaS od) Z ?_);refine evd [] [] (wc zjk (zdp hw s1 od ht (xa0 hok.2 _ (zai od)) z1) Z Z ?_);refine wc zta (zll od od) Z Z ?_;refine evd [] [] (dr (rq ?_));rotate_left;exfalso;simp_all;all_goals (refine xam D.bool ?_;unfold linP;rw[if_pos hop5];first|(rw[zd3 od (fun x hx=>hg1.2 x od),Bool.true_and])|(rw[zcm (i:=i) od od ol,Bool.false_and]))
  ·skip
   refine bd Tryz.f245 70 [] [] fun _ _ _ _ hk=>?_;refine bx 3004 ?_;refine bx 3005 ?_;refine ev (wc zim (zcG hw ht (zcs ho)) Z Z ?_);refine ev (xaD (ι:=Nat) hk (fun i=>[(8,.d (.i (i:Int)))]) [6,15,16,17,18,19,20,21,22,23,24,25,26,27,28,29,30,31,32] (fun i=>[]) (fun i=>i<=(zag w ⟨a,k⟩ p).length/\∀i',i'<i->linP w n (nth (zag w ⟨a,k⟩ p) i') (nth p.kids i')=true) (fun i=>(zag w ⟨a,k⟩ p).length-i) 0 ⟨by omega,fun _ h=>absurd h od⟩ ⟨⟨_,Z,xaQ ?_⟩,I⟩ I (fun x=>rfl) (fun i hg1=>?_));focus (first|rfl|(simp;done))
   refine evc [] [] ?_;apply sq<;>intro h1 h1p h1s<;>(try simp only[Q,xaW] at h1p);refine ixq za3 Z Z Z (zao od) Z ?_;refine evd [] [] (ixq sl72 Z Z Z (zaS od) Z ?_);refine evd [] [] (wc zkw (zel hw n (zcj hs od) od (hin _ (zai od)) (xa0 hok.2 _ (zai od)) (hsz _ od)) Z Z ?_);refine evd [] [] (dr ?_);apply sq<;>intro h2 h2p h2s<;>(try simp only[Q,xaW] at h2p);refine rq ?_;rotate_left;refine ar (xaj (i+1) ⟨⟨by omega,zaR hg1.2 ol⟩,od,sx ⟨⟨_,Z,xaQ ?_⟩,I⟩ I⟩);focus (first|rfl|(simp;done))
   apply sq<;>intro h3 h3p h3s<;>(try simp only[Q,xaW] at h3p);exfalso;simp_all;refine wc zjk (zdp hw hs hn ht hok' hb) Z Z ?_;refine ev (xaD (ι:=Nat) hk (fun j=>[(10,.d (.i (j:Int)))]) [6,55,56,57,58,59,60,61,62,63,64,65,66,67,68,69] (fun j=>[]) (fun j=>j<=(zaI w (n+1) ⟨a,k⟩ p).length/\∀j',j'<j->zbt (zaI w (n+1) ⟨a,k⟩ p) (nth (zaI w (n+1) ⟨a,k⟩ p) j').var=(j':Int)) (fun j=>(zaI w (n+1) ⟨a,k⟩ p).length-j) 0 ⟨by omega,fun _ h=>absurd h od⟩ ⟨⟨_,Z,xaQ ?_⟩,I⟩ I (fun x=>rfl) (fun j hg2=>?_));focus (first|rfl|(simp;done))
   refine evc [] [] ?_;apply sq<;>intro h4 h4p h4s<;>(try simp only[Q,xaW] at h4p);refine ixq sl66 Z Z Z (zao od) Z ?_;refine ev (wc zns (ze9 od) Z Z ?_);refine ev ?_;apply sq<;>intro h5 h5p h5s<;>(try simp only[Q,xaW] at h5p);refine rq ?_;rotate_left;refine ar (xaj (j+1) ⟨⟨by omega,zaR hg2.2 od⟩,od,sx ⟨⟨_,Z,xaQ ?_⟩,I⟩ I⟩);focus (first|rfl|(simp;done))
   refine rq ?_;rotate_left;all_goals (refine xam D.bool ?_;unfold linP;rw[if_neg hop5];first|(rw[zcm (i:=i) od od ol,Bool.false_and];done)|(rw[zd3 od (fun x hx=>hg1.2 x od),Bool.true_and];first|(rw[zoo (i:=j) od od];done)|(symm;exact zdH (fun x hx=>xax (hg2.2 x od)))))
def isP (w:List Data) (t:Ty) (p:Pat):Bool:=zaw w 10 t p&&(decide ((p.size:Int)<=60)&&linP w 10 t p)
theorem zjb {w:List Data} (hw:WT w){a k:Int}{p:Pat} (ht:TyIn w.length ⟨a,k⟩) (hok:p.ok) (hb:p.size<=1000000000000):
  FnD Tryz.prog 188 [.d (zap w),.agg [.d (.i a),.d (.i k)],.agg [.d (.i p.op),.d (.i p.ctor),.d (.i p.n),.d (.i p.m),.d (.i p.var),.d (zau p.kids)]] [] (.d (.bool (isP w ⟨a,k⟩ p))) []:=by
 have hc:=znv p 60;by_cases hs:zaw w 10 ⟨a,k⟩ p=true
 ·skip
  refine bd Tryz.f188 22 [] [1] fun _ _ _ _ hk=>?_;refine bx 3004 ?_;refine bx 3005 ?_;refine ev (xaF (xbq 9 [(15,.d (.bool (decide ((p.size:Int)<=60))))] [7,8,9,10,11,12,13,14] ?_ ?_));refine ev (wc znq (zeP hw 10 od od ht hok) Z Z ?_);refine ev ?_;apply sq<;>intro h1 h1p h1s;refine Walk.call (cr:=[]) znr (zeO _ (Nat.le_refl _) hb hok od od) Z (.some Z Z h1) Z Z (LeL.refl _) I Z Z Z ?_;refine evs [] [(11,true)] ?_ ⟨⟨_,Z,h1⟩,I⟩;exact jnb Z;exact jnb Z;refine xbp (ev ?_);apply sq<;>intro h2 h2p h2s;refine Walk.call (cr:=[]) zkw (zel hw 10 hs od ht hok hb) Z (.some Z Z h2) Z Z (LeL.refl _) I Z Z Z ?_;refine evs [] [(16,true)] ?_ ⟨⟨_,Z,h2⟩,I⟩;refine rq ?_;rotate_left;refine rq ?_;rotate_left;all_goals (refine xam D.bool ?_;unfold isP;simp only[hs,Bool.true_and];first|(simp_all;done)|(simp_all;intro;omega))
 ·have hs':zaw w 10 ⟨a,k⟩ p=false:=by simpa using hs
  refine bd Tryz.f188 22 [] [1] fun _ _ _ _ hk=>?_;refine bx 3004 ?_;refine bx 3005 ?_;refine ev (xaF (xbq 9 [(15,.d (.bool false))] [7,8,9,10,11,12,13,14] ?_ ?_));refine ev (wc znq (zeP hw 10 od od ht hok) Z Z ?_);refine ev ?_;apply sq<;>intro h1 h1p h1s;refine Walk.call (cr:=[]) znr (zeO _ (Nat.le_refl _) hb hok od od) Z (.some Z Z h1) Z Z (LeL.refl _) I Z Z Z ?_;refine evs [] [(11,true)] ?_ ⟨⟨_,Z,h1⟩,I⟩;exact jnb Z;exact jnb Z;refine xbp (ev ?_);apply sq<;>intro h2 h2p h2s;refine Walk.call (cr:=[]) zkw (show FnD Tryz.prog 245 [.d (zap w),.agg [.d (.i a),.d (.i k)],.agg [.d (.i p.op),.d (.i p.ctor),.d (.i p.n),.d (.i p.m),.d (.i p.var),.d (zau p.kids)]] [] (.d (.bool true)) [] from absurd (by assumption:(false:Bool)=true) og) Z (.some Z Z h2) Z Z (LeL.refl _) I Z Z Z ?_;refine evs [] [(16,true)] ?_ ⟨⟨_,Z,h2⟩,I⟩;refine rq ?_;rotate_left;refine rq ?_;rotate_left;all_goals (refine xam D.bool ?_;unfold isP;simp_all)
def tyS (s:Nat):Ty:=⟨((s / 4:Nat):Int),((s % 4:Nat):Int)⟩
def zfq (t:Ty):Nat:=t.data.toNat*4+t.index.toNat
def dv (f:Nat->Nat) (t:Ty):Nat:=if t.data = -1 then 1 else f (zfq t)
def zrZ (f:Nat->Nat):Nat->List Ty->Nat
 |m,[]=>m+1
 |m,t::r=>if dv f t=0 then 0 else zrZ f (max m (dv f t)) r
def most (w:List Data) (f:Nat->Nat) (t:Ty) (c:Int):Nat:=zrZ f 0 (zaB w t c)
def InS (n:Nat) (u:Ty):Prop:=u.data = -1\/(zfq u<n/\tyS (zfq u)=u)
def ClosedT (w:List Data):Prop:=∀s,s<w.length*4->∀c∈zaG w (tyS s),∀u∈zaB w (tyS s) c,InS (w.length*4) u
section
variable {w:List Data}
def Bet (f g:Nat->Nat):Prop:=∀s,0<f s->0<g s/\g s<=f s
theorem Bet.refl (f:Nat->Nat):Bet f f:=fun s h=>⟨h,Nat.le_refl _⟩
theorem Bet.trans {f g h:Nat->Nat} (a:Bet f g) (b:Bet g h):Bet f h:=fun s hs=>⟨(b s (a s hs).1).1,Nat.le_trans (b s (a s hs).1).2 (a s hs).2⟩
def Strict (f g:Nat->Nat):Prop:=∃s,0<g s/\(f s=0\/g s<f s)
theorem Strict.ne {f g:Nat->Nat} (a:Strict f g):f≠g:=by
 rintro rfl
 obtain⟨s,h1,h2⟩:=a;omega
end
set_option maxHeartbeats 2000000
theorem zoU {v:AV}:∀ {cs:List AV}{i:Nat},i<cs.length->putC cs i [v]=some (cs.set i v)
 |x::r,0,_=>by cases r<;>rfl
 |x::r,i+1,h=>by
  have:=zoU (v:=v) (cs:=r) (i:=i) (by simpa using h);simp only[putC,this,List.set_cons_succ]
theorem InS.facts {n:Nat}{a k:Int} (h:InS n ⟨a,k⟩) (ha:¬a = -1):zfq ⟨a,k⟩<n/\a*4+k=(zfq ⟨a,k⟩:Int)/\0<=a/\0<=k/\k<=3/\a<=n:=by
 rcases h with h|⟨h1,h2⟩
 ·exact absurd h ha
 ·have e1:=xam Ty.data h2;have e2:=xam Ty.index h2;simp only[tyS] at e1 e2;omega
structure Dp (w:List Data):Prop where
 wt:WT w
 cl:ClosedT w
 four:w.length<=4
 ct:∀s,s<w.length*4->(zaG w (tyS s)).length<=4
theorem zkq {w:List Data} (hs:WSmall w) (hv:zbp w=true):WT w:=WV.wt hs ((zco w).1 hv)
set_option maxHeartbeats 4000000
theorem zeB {p:Pat}{b1 b2 b3:Bool}{k:Int}:FnD Tryz.prog 237 [.agg [.d (.i p.op),.d (.i p.ctor),.d (.i p.n),.d (.i p.m),.d (.i p.var),.d (zau p.kids)],.d (.bool b1),.d (.bool b2),.d (.bool b3),.d (.i k)] []
  (.d (.bool (decide ((b1=true\/p.ctor=0)/\(b2=true\/p.n=0/\p.m=0)/\(b3=true\/p.var=0)/\(p.kids.length:Int)=k)))) []:=by
 refine bd Tryz.f237 45 [] [1] fun _ _ _ _ hk=>?_;refine bx 3005 ?_;refine ev (xaF (xbq 6 [(16,.d (.bool (decide (b1=true\/p.ctor=0))))] [11,12,13,14,15] ?_ ?_));refine ev ?_;apply sq<;>intro h1 h1p h1s;focus (exact jn Z (xaP (by(first|rfl|(rw[xat];simp_all[xaW];done)))))
 focus (exact jn Z (xaP (by(first|rfl|(rw[xat];simp_all[xaW];done)))))
 refine xbq 13 [(29,.d (.bool (decide ((b1=true\/p.ctor=0)/\(b2=true\/p.n=0/\p.m=0)))))] [17,18,19,20,21,22,23,24,25,26,27,28] ?_ ?_;refine ev ?_;apply sq<;>intro h2 h2p h2s;apply sq<;>intro h3 h3p h3s;focus (exact jn Z (xaP (by(first|rfl|(rw[xat];simp_all[xaW];done)))))
 apply sq<;>intro h4 h4p h4s;focus (exact jn Z (xaP (by(first|rfl|(rw[xat];simp_all[xaW];done)))))
 focus (exact jn Z (xaP (by(first|rfl|(rw[xat];simp_all[xaW];done)))))
 focus (exact jn Z (xaP (by(first|rfl|(rw[xat];simp_all[xaW];done)))))
 refine xbq 8 [(37,.d (.bool (decide ((b1=true\/p.ctor=0)/\(b2=true\/p.n=0/\p.m=0)/\(b3=true\/p.var=0)))))] [30,31,32,33,34,35,36] ?_ ?_;refine ev ?_;apply sq<;>intro h5 h5p h5s;apply sq<;>intro h6 h6p h6s;focus (exact jn Z (xaP (by(first|rfl|(rw[xat];simp_all[xaW];done)))))
 focus (exact jn Z (xaP (by(first|rfl|(rw[xat];simp_all[xaW];done)))))
 focus (exact jn Z (xaP (by(first|rfl|(rw[xat];simp_all[xaW];done)))))
 refine xbq 7 [(44,.d (.bool (decide ((b1=true\/p.ctor=0)/\(b2=true\/p.n=0/\p.m=0)/\(b3=true\/p.var=0)/\(p.kids.length:Int)=k))))] [38,39,40,41,42,43] ?_ ?_;refine ev ?_;apply sq<;>intro h7 h7p h7s;focus (exact jn Z (xaP (by(first|rfl|(rw[xat];simp_all[xaW];done)))))
 focus (exact jn Z (xaP (by(first|rfl|(rw[xat];simp_all[xaW];done)))))
 refine xbp (ev (rq ?_));rotate_left;all_goals (rfl)
theorem zfk {p:Pat}{k:Int}:FnD Tryz.prog 237 [.agg [.d (.i p.op),.d (.i p.ctor),.d (.i p.n),.d (.i p.m),.d (.i p.var),.d (zau p.kids)],.d (.bool false),.d (.bool false),.d (.bool false),.d (.i k)] []
  (.d (.bool (decide (p.ctor=0/\(p.n=0/\p.m=0)/\p.var=0/\(p.kids.length:Int)=k)))) []:=by
 have:=zeB (p:=p) (b1:=false) (b2:=false) (b3:=false) (k:=k);simpa only[Bool.false_eq_true,false_or] using this
theorem zfl {p:Pat}{k:Int}:FnD Tryz.prog 237 [.agg [.d (.i p.op),.d (.i p.ctor),.d (.i p.n),.d (.i p.m),.d (.i p.var),.d (zau p.kids)],.d (.bool false),.d (.bool false),.d (.bool true),.d (.i k)] []
  (.d (.bool (decide (p.ctor=0/\(p.n=0/\p.m=0)/\(p.kids.length:Int)=k)))) []:=by
 have:=zeB (p:=p) (b1:=false) (b2:=false) (b3:=true) (k:=k);simpa only[Bool.false_eq_true,false_or,true_or,true_and] using this
theorem zjO {p:Pat}{k:Int}:FnD Tryz.prog 237 [.agg [.d (.i p.op),.d (.i p.ctor),.d (.i p.n),.d (.i p.m),.d (.i p.var),.d (zau p.kids)],.d (.bool false),.d (.bool true),.d (.bool false),.d (.i k)] []
  (.d (.bool (decide (p.ctor=0/\p.var=0/\(p.kids.length:Int)=k)))) []:=by
 have:=zeB (p:=p) (b1:=false) (b2:=true) (b3:=false) (k:=k);simpa only[Bool.false_eq_true,false_or,true_or,true_and] using this
theorem zos {p:Pat}{k:Int}:FnD Tryz.prog 237 [.agg [.d (.i p.op),.d (.i p.ctor),.d (.i p.n),.d (.i p.m),.d (.i p.var),.d (zau p.kids)],.d (.bool true),.d (.bool false),.d (.bool false),.d (.i k)] []
  (.d (.bool (decide ((p.n=0/\p.m=0)/\p.var=0/\(p.kids.length:Int)=k)))) []:=by
 have:=zeB (p:=p) (b1:=true) (b2:=false) (b3:=false) (k:=k);simpa only[Bool.false_eq_true,false_or,true_or,true_and] using this
theorem zd8 {v:Int}:FnD Tryz.prog 68 [.d (.i v)] [] (.d (.bool (zat v 0 5))) []:=by
 refine bd Tryz.f68 5 [] [] fun _ _ _ _ hk=>?_;refine wc zd4 zba Z Z ?_;refine ev (rq ?_);rotate_left;all_goals (rfl)
theorem zhl {w:List Data} (hw:WT w){a k:Int} (ht:TyIn w.length ⟨a,k⟩):FnD Tryz.prog 156 [.d (zap w),.agg [.d (.i a),.d (.i k)]] [] (.d (zaH (za0 w ⟨a,k⟩))) []:=by
 rcases ht with ha|⟨d,hd,hlt⟩
 ·simp only at ha;subst ha;rw[zgc];exact zif
 ·simp only at hd;subst hd;rw[zgU];exact zeA hw hlt
theorem zkN {w:List Data} (hw:WT w){a k c:Int} (ht:TyIn w.length ⟨a,k⟩) (hc:c∈za0 w ⟨a,k⟩):FnD Tryz.prog 157 [.d (zap w),.agg [.d (.i a),.d (.i k)],.d (.i c)] [] (.d (zbn (zaB w ⟨a,k⟩ c))) []:=by
 obtain⟨d,rfl,h1,h2⟩:=zcN ht hc;exact zef hw h1 h2
theorem zmP {w:List Data} (hw:WT w){a k:Int}{p:Pat} (ht:TyIn w.length ⟨a,k⟩):
  FnD Tryz.prog 183 [.d (zap w),.agg [.d (.i a),.d (.i k)],.agg [.d (.i p.op),.d (.i p.ctor),.d (.i p.n),.d (.i p.m),.d (.i p.var),.d (zau p.kids)]] [] (.tup [.d (zbn (zcX w ⟨a,k⟩ p)),.d (.bool (okP w ⟨a,k⟩ p))]) []:=by
 have hcl:=zlx hw ht;have ty4:p.op=4->p.ctor∉za0 w ⟨a,k⟩->zcX w ⟨a,k⟩ p=[]:=fun h4 hm=>by unfold zcX;rw[if_pos ⟨h4,hm⟩]
 have ty4':p.op=4->p.ctor∈za0 w ⟨a,k⟩->zcX w ⟨a,k⟩ p=zaB w ⟨a,k⟩ p.ctor:=fun h4 hm=>by unfold zcX zag;rw[if_neg (fun h=>h.2 hm),if_pos h4]
 have ty5:p.op=5->zcX w ⟨a,k⟩ p=[⟨a,k⟩,⟨a,k⟩]:=fun h5=>by unfold zcX zag;rw[if_neg od,if_neg od,if_pos h5]
 have ty6:p.op=6->zcX w ⟨a,k⟩ p=[⟨a,k⟩]:=fun h6=>by unfold zcX zag;rw[if_neg od,if_neg od,if_neg od,if_pos h6]
 have ty0:¬p.op=4->¬p.op=5->¬p.op=6->zcX w ⟨a,k⟩ p=[]:=fun h4 h5 h6=>by unfold zcX zag;rw[if_neg (fun h=>h4 h.1),if_neg h4,if_neg h5,if_neg h6]
 have ln4:p.op=4->(zag w ⟨a,k⟩ p).length=(zaB w ⟨a,k⟩ p.ctor).length:=fun h4=>by unfold zag;rw[if_pos h4]
 have ln5:p.op=5->(zag w ⟨a,k⟩ p).length=2:=fun h5=>by unfold zag;rw[if_neg od,if_pos h5];rfl
 have ln6:p.op=6->(zag w ⟨a,k⟩ p).length=1:=fun h6=>by unfold zag;rw[if_neg od,if_neg od,if_pos h6];rfl
 have ln0:¬p.op=4->¬p.op=5->¬p.op=6->(zag w ⟨a,k⟩ p).length=0:=fun h4 h5 h6=>by unfold zag;rw[if_neg h4,if_neg h5,if_neg h6];rfl
 have okI:∀b:Bool,(b=true↔((((p.op=2\/p.op=6)->0<=p.var/\p.var<=5)/\(¬(p.op=2\/p.op=6)->p.var=0)/\(p.op≠3->p.n=0/\p.m=0)/\(p.op≠4->p.ctor=0)/\
   (p.op=1\/p.op=2\/p.op=5\/p.op=6\/(p.op=3/\a = -1/\0<=p.n/\p.n<=p.m/\p.m<=9)\/(p.op=4/\p.ctor∈za0 w ⟨a,k⟩)))/\p.kids.length=(zag w ⟨a,k⟩ p).length))->b=okP w ⟨a,k⟩ p:=fun b h=>by
  rw[xat,h];unfold okP ownP;simp only[xad,xah]
 by_cases hmem:p.ctor∈za0 w ⟨a,k⟩
 ·have hargs:=zkN hw ht hmem;have hal:(zaB w ⟨a,k⟩ p.ctor).length<=1000000000000:=by
   obtain⟨d,rfl,h1,h2⟩:=zcN ht hmem;exact zc3 hw h1 h2
  simp only[hmem,and_true] at okI;refine bd Tryz.f183 87 [] [5] fun _ _ _ _ hk=>?_;refine bx 3004 ?_;refine bx 3005 ?_;refine ev ?_;apply sq<;>intro h1 h1p h1s<;>(try simp only[Q] at h1p);refine wc zdt zfk Z Z ?_;refine ev (rn0 (r2 Z Z) (.tup (qne ?_ ?_)));rotate_left 2;apply sq<;>intro h2 h2p h2s<;>(try simp only[Q] at h2p);refine xaF (xbq 7 [(23,.d (.bool (decide ((p.ctor=0/\(p.n=0/\p.m=0)/\(p.kids.length:Int)=0)/\0<=p.var/\p.var<=5))))] [17,18,19,20,21,22] ?_ ?_);refine ev (wc zdt zfl Z Z ?_);refine ev ?_;apply sq<;>intro h3 h3p h3s<;>(try simp only[Q] at h3p);refine Walk.call (cr:=[]) zmX zd8 Z (.some Z Z h3) Z Z (LeL.refl _) I Z Z Z (evs [] [(19,true)] ?_ ⟨⟨_,Z,h3⟩,I⟩);exact jn Z (xaP (by(rw[xat];simp only[xah,zat,xad,Bool.false_eq_true,false_iff,true_iff];omega)));exact jn Z (xaP (by(rw[xat];simp only[xah,zat,xad,Bool.false_eq_true,false_iff,true_iff];omega)));refine xbp (ev (rn0 (r2 Z Z) (.tup (qne ?_ ?_))));rotate_left 2;apply sq<;>intro h4 h4p h4s<;>(try simp only[Q] at h4p);apply sq<;>intro h5 h5p h5s<;>(try simp only[Q] at h5p);refine Walk.call (cr:=[]) zdt zjO Z (.some Z Z h5) Z Z (LeL.refl _) I Z Z Z (evd [] [(29,true)] ?_ ⟨⟨_,Z,h5⟩,I⟩);apply sq<;>intro h6 h6p h6s<;>(try simp only[Q] at h6p);apply sq<;>intro h7 h7p h7s<;>(try simp only[Q] at h7p);apply sq<;>intro h8 h8p h8s<;>(try simp only[Q] at h8p);refine dr (rn0 (r2 Z Z) (.tup (qne ?_ ?_)));rotate_left 2;refine dr (rn0 (r2 Z Z) (.tup (qne ?_ ?_)));rotate_left 2;refine sqF ?_;refine dr (rn0 (r2 Z Z) (.tup (qne ?_ ?_)));rotate_left 2;refine sqF ?_;refine sqF ?_;refine dr (rn0 (r2 Z Z) (.tup (qne ?_ ?_)));rotate_left 2;refine sqF ?_;refine sqF ?_;refine sqF ?_;refine dr (rn0 (r2 Z Z) (.tup (qne ?_ ?_)));rotate_left 2;apply sq<;>intro h9 h9p h9s<;>(try simp only[Q] at h9p);refine wc zkv (zhl hw ht) Z Z ?_;refine evd [] [] (wc zp7 (zd1 hcl) Z Z ?_);refine evd [] [] (dr ?_);apply sq<;>intro h10 h10p h10s<;>(try simp only[Q] at h10p);exfalso;simp_all;refine wc zno hargs Z Z ?_;refine ev (wc zdt zos Z Z ?_);refine ev (rn0 (r2 Z Z) (.tup (qee ?_ ?_)));rotate_left 2;apply sq<;>intro h11 h11p h11s<;>(try simp only[Q] at h11p);refine si [0,1] [_,_] za3 tz29 ?_;refine evd [] [] (wc zdt zfk Z Z ?_);refine evd [] [] (dr (rn0 (r2 Z Z) (.tup (qee ?_ ?_))));rotate_left 2;apply sq<;>intro h12 h12p h12s<;>(try simp only[Q] at h12p);refine si [0] [_] za3 tz29 ?_;refine evd [] [] (wc zdt zfl Z Z ?_);refine evd [] [] ?_;apply sq<;>intro h13 h13p h13s<;>(try simp only[Q] at h13p);refine Walk.call (cr:=[]) zmX zd8 Z (.some Z Z h13) Z Z (LeL.refl _) I Z Z Z (evd [] [(82,true)] ?_ ⟨⟨_,Z,h13⟩,I⟩);refine dr (rn0 (r2 Z Z) (.tup (qee ?_ ?_)));rotate_left 2;refine dr (rn0 (r2 Z Z) (.tup (qee ?_ ?_)));rotate_left 2;refine rn0 (r2 Z Z) (.tup (qne ?_ ?_));rotate_left 2;all_goals (first|(refine xam D.bool (okI _ ?_);(try simp only[xah,Bool.false_eq_true,zat,xad,xac,true_iff,false_iff]);omega)|(rw[ty0 od od od];first|done|rfl)|(rw[ty5 od];first|done|rfl)|(rw[ty6 od];first|done|rfl)|(rw[ty4' od hmem];first|done|rfl))
 ·simp only[hmem,and_false,or_false] at okI;refine bd Tryz.f183 87 [] [5] fun _ _ _ _ hk=>?_;refine bx 3004 ?_;refine bx 3005 ?_;refine ev ?_;apply sq<;>intro h1 h1p h1s<;>(try simp only[Q] at h1p);refine wc zdt zfk Z Z ?_;refine ev (rn0 (r2 Z Z) (.tup (qne ?_ ?_)));rotate_left 2;apply sq<;>intro h2 h2p h2s<;>(try simp only[Q] at h2p);refine xaF (xbq 7 [(23,.d (.bool (decide ((p.ctor=0/\(p.n=0/\p.m=0)/\(p.kids.length:Int)=0)/\0<=p.var/\p.var<=5))))] [17,18,19,20,21,22] ?_ ?_);refine ev (wc zdt zfl Z Z ?_);refine ev ?_;apply sq<;>intro h3 h3p h3s<;>(try simp only[Q] at h3p);refine Walk.call (cr:=[]) zmX zd8 Z (.some Z Z h3) Z Z (LeL.refl _) I Z Z Z (evs [] [(19,true)] ?_ ⟨⟨_,Z,h3⟩,I⟩);exact jn Z (xaP (by(rw[xat];simp only[xah,zat,xad,Bool.false_eq_true,false_iff,true_iff];omega)));exact jn Z (xaP (by(rw[xat];simp only[xah,zat,xad,Bool.false_eq_true,false_iff,true_iff];omega)));refine xbp (ev (rn0 (r2 Z Z) (.tup (qne ?_ ?_))));rotate_left 2;apply sq<;>intro h4 h4p h4s<;>(try simp only[Q] at h4p);apply sq<;>intro h5 h5p h5s<;>(try simp only[Q] at h5p);refine Walk.call (cr:=[]) zdt zjO Z (.some Z Z h5) Z Z (LeL.refl _) I Z Z Z (evd [] [(29,true)] ?_ ⟨⟨_,Z,h5⟩,I⟩);apply sq<;>intro h6 h6p h6s<;>(try simp only[Q] at h6p);apply sq<;>intro h7 h7p h7s<;>(try simp only[Q] at h7p);apply sq<;>intro h8 h8p h8s<;>(try simp only[Q] at h8p);refine dr (rn0 (r2 Z Z) (.tup (qne ?_ ?_)));rotate_left 2;refine dr (rn0 (r2 Z Z) (.tup (qne ?_ ?_)));rotate_left 2;refine sqF ?_;refine dr (rn0 (r2 Z Z) (.tup (qne ?_ ?_)));rotate_left 2;refine sqF ?_;refine sqF ?_;refine dr (rn0 (r2 Z Z) (.tup (qne ?_ ?_)));rotate_left 2;refine sqF ?_;refine sqF ?_;refine sqF ?_;refine dr (rn0 (r2 Z Z) (.tup (qne ?_ ?_)));rotate_left 2;apply sq<;>intro h9 h9p h9s<;>(try simp only[Q] at h9p);refine wc zkv (zhl hw ht) Z Z ?_;refine evd [] [] (wc zp7 (zd1 hcl) Z Z ?_);refine evd [] [] (dr ?_);apply sq<;>intro h10 h10p h10s<;>(try simp only[Q] at h10p);refine rn0 (r2 Z Z) (.tup (qne ?_ ?_));rotate_left 2;exfalso;simp_all;apply sq<;>intro h11 h11p h11s<;>(try simp only[Q] at h11p);refine si [0,1] [_,_] za3 tz29 ?_;refine evd [] [] (wc zdt zfk Z Z ?_);refine evd [] [] (dr (rn0 (r2 Z Z) (.tup (qee ?_ ?_))));rotate_left 2;apply sq<;>intro h12 h12p h12s<;>(try simp only[Q] at h12p);refine si [0] [_] za3 tz29 ?_;refine evd [] [] (wc zdt zfl Z Z ?_);refine evd [] [] ?_;apply sq<;>intro h13 h13p h13s<;>(try simp only[Q] at h13p);refine Walk.call (cr:=[]) zmX zd8 Z (.some Z Z h13) Z Z (LeL.refl _) I Z Z Z (evd [] [(82,true)] ?_ ⟨⟨_,Z,h13⟩,I⟩);refine dr (rn0 (r2 Z Z) (.tup (qee ?_ ?_)));rotate_left 2;refine dr (rn0 (r2 Z Z) (.tup (qee ?_ ?_)));rotate_left 2;refine rn0 (r2 Z Z) (.tup (qne ?_ ?_));rotate_left 2;all_goals (first|(refine xam D.bool (okI _ ?_);(try simp only[xah,Bool.false_eq_true,zat,xad,xac,true_iff,false_iff]);omega)|(rw[ty0 od od od];first|done|rfl)|(rw[ty5 od];first|done|rfl)|(rw[ty6 od];first|done|rfl)|(rw[ty4 od hmem];first|done|rfl))
theorem zqY {t u:Vt}:t=u↔t.var=u.var/\t.ty.data=u.ty.data/\t.ty.index=u.ty.index:=by
 rcases t with ⟨a,b,c⟩;rcases u with ⟨d,e,f⟩;simp
def zps (l:List Vt) (v:Vt):Int:=idxF (fun x=>decide (v=x)) l 0
theorem zi4 {l:List Vt}{v:Vt} (h:l.length<=1000000000000):FnD Tryz.prog 236 [.d (zcq l),.agg [.d (.i v.var),.d (.i v.ty.data),.d (.i v.ty.index)]] [] (.d (.i (zps l v))) []:=by
 refine bd Tryz.f236 19 [16] [] fun _ _ _ _ hk=>?_;refine bx 3003 ?_;refine evs [16] [] (xaD (ι:=List (Vt)×List (Vt)) hk (fun x=>[(8,.d (.i (x.1.length:Int)))]) [4,5,9,10,11,12,13,14,15,16,17,18] (fun x=>[]) (fun x=>x.1++x.2=l/\idxF (fun x=>decide (v=x)) x.2 x.1.length=idxF (fun x=>decide (v=x)) l 0) (fun x=>x.2.length) ([],l) ⟨by simp,Z⟩ ⟨⟨_,Z,xaQ ?_⟩,I⟩ I (fun x=>rfl) (fun x hg1=>?_));focus (first|rfl|omega)
 obtain⟨pre,rest⟩:=x;dsimp only at hg1 ⊢;refine evc [16] [] ?_;apply sq<;>intro h1 h1p h1s<;>(try simp only[Q] at h1p);rcases rest with _|⟨y,rest⟩
 ·exfalso;simp_all
 refine ixq sl66 Z Z Z (zaL hg1.1) Z (evd [16] [] (Walk.eqV2 zt3 .none Z Z Z Z Z (dr ?_)));apply sq<;>intro h2 h2p h2s<;>(try simp only[Q] at h2p);refine rq ?_;rotate_left;refine ar (xaj ((pre++[y],rest)) ⟨⟨(by have hz:=hg1.1;rw[<-hz];simp),(by rw[<-hg1.2];simp[idxF];simp_all[zqY])⟩,og,sx ⟨⟨_,Z,xaQ ?_⟩,I⟩ I⟩);focus (first|rfl|(simp;done)|omega)
 have hrest:rest=[]:=by
  rcases rest with _|⟨a,b⟩
  ·rfl
  ·exfalso;have hz:=xam List.length (hg1.1);simp only[xaa,xab,xac] at hz;omega
 subst hrest;refine rq ?_;rotate_left;all_goals (unfold zps;rw[<-hg1.2];simp_all[idxF,zqY])
theorem zer {l:List Vt}{v:Vt} (h:l.length<=1000000000000):FnD Tryz.prog 182 [.d (zcq l),.agg [.d (.i v.var),.d (.i v.ty.data),.d (.i v.ty.index)]] [] (.d (.bool (decide (v∈l)))) []:=by
 refine bd Tryz.f182 9 [] [] fun _ _ _ _ hk=>?_;refine bx 3003 ?_;refine ev (wc zs4 (zi4 h) Z Z ?_);refine ev (rq ?_);rotate_left;all_goals (refine xam D.bool ?_;rw[show zps l v=idxF (fun x=>decide (v=x)) l 0 from rfl,ze3];simp[List.any_eq,eq_comm])
theorem zg9 {xs:List Vt}{f:Nat}{caps:List AV}{hp:Hp}{p:Vt->Bool} (hs:xs.length<=1000000000000) (hcal:Callee Tryz.prog f)
  (hf:∀t∈xs,FnD Tryz.prog f ([.agg [.d (.i t.var),.d (.i t.ty.data),.d (.i t.ty.index)]]++caps) hp (.d (.bool (p t))) []) (k1:subH hp hp) (k2:zdM hp=true) (k3:zbi hp [] (.d .nilp) []=true):
  FnD Tryz.prog 240 [.d (zcq xs),.fn f caps] hp (.d (.i (idxF p xs 0))) []:=by
 refine bd Tryz.f240 19 [] [] fun _ _ _ _ hk=>?_;refine xaD (ι:=List (Vt)×List (Vt)) hk (fun x=>[(8,.d (.i (x.1.length:Int)))]) [4,5,9,10,11,12,13,14,15,16,17,18] (fun x=>[]) (fun x=>x.1++x.2=xs/\idxF p x.2 x.1.length=idxF p xs 0) (fun x=>x.2.length) ([],xs) ⟨by simp,Z⟩ ⟨⟨_,Z,xaQ ?_⟩,I⟩ I (fun x=>zfT hp) (fun x hg1=>?_);focus (first|rfl|omega)
 obtain⟨pre,rest⟩:=x;dsimp only at hg1 ⊢;refine evc [] [] ?_;apply sq<;>intro h1 h1p h1s<;>(try simp only[Q] at h1p);rcases rest with _|⟨y,rest⟩
 ·exfalso;simp_all
 refine ixq sl66 Z Z Z (zaL hg1.1) Z (ev (xby (cr:=[]) hcal (hf y (by rw[<-hg1.1];simp)) Z .none Z Z Z (LeL.refl _) k1 k2 (zei k3 _) Z ?_));apply tv;apply sq<;>intro h2 h2p h2s<;>(try simp only[Q] at h2p);focus (refine rn [] (r1 Z) (.eqd ?_) ⟨Z,Z⟩ (fun _ _ h=>h) (fun _ h=>h);all_goals (rw[<-hg1.2];simp[idxF,h1s,h1p,h2s,h2p]))
 refine ar (xaj ((pre++[y],rest)) ⟨⟨(by have hz:=hg1.1;rw[<-hz];simp),(by rw[<-hg1.2];simp[idxF,h2s])⟩,og,Sub.x oi oi ⟨⟨_,Z,xaQ ?_⟩,I⟩ og (by simp[zcU]) I⟩);focus (first|rfl|(simp;done)|omega)
 have hrest:rest=[]:=by
  rcases rest with _|⟨a,b⟩
  ·rfl
  ·exfalso;have hz:=xam List.length (hg1.1);simp only[xaa,xab,xac] at hz;omega
 subst hrest;focus (refine rn [] (r1 Z) (.eqd ?_) ⟨Z,Z⟩ (fun _ _ h=>h) (fun _ h=>h);all_goals (rw[<-hg1.2];simp[idxF,h1s,h1p]))
theorem zf7 {xs:List Vt}{f:Nat}{caps:List AV}{hp:Hp}{p:Vt->Bool} (hs:xs.length<=1000000000000) (hcal:Callee Tryz.prog f)
  (hf:∀t∈xs,FnD Tryz.prog f ([.agg [.d (.i t.var),.d (.i t.ty.data),.d (.i t.ty.index)]]++caps) hp (.d (.bool (p t))) []) (k1:subH hp hp) (k2:zdM hp=true) (k3:zbi hp [] (.d .nilp) []=true):
  FnD Tryz.prog 238 [.d (zcq xs),.fn f caps] hp (.d (.bool (xs.any p))) []:=by
 refine bd Tryz.f238 9 [] [] fun _ _ _ _ hk=>?_;refine Walk.call (cr:=[]) zs7 (zg9 hs hcal hf k1 k2 k3) Z .none Z Z (LeL.refl _) k1 k2 (zei k3 _) Z (ev (rn [] (r1 Z) (.eqd ?_) ⟨Z,Z⟩ (fun _ _ h=>h) (fun _ h=>h)));rotate_left;all_goals (exact xam D.bool (ze3 p xs 0))
theorem ziJ {b:List Vt}{v:Vt} (h:b.length<=1000000000000):FnD Tryz.prog 239 [.agg [.d (.i v.var),.d (.i v.ty.data),.d (.i v.ty.index)],.ref 3003 0] [(3003,some (.box [.d (zcq b)]))] (.d (.bool (!decide (v∈b)))) []:=by
 refine bd Tryz.f239 8 [] [] fun _ _ _ _ hk=>?_;refine bx 3001 ?_;refine ev (wc zp4 (zer h) Z Z ?_);refine ev (rn [] (r1 Z) (.eqd ?_) ⟨Z,Z⟩ (SubH.get ⟨Z,I⟩) (fun _ h=>h));rotate_left;all_goals (rfl)
theorem zgr {x y:List Vt} (hx:x.length<=1000000000000) (hy:y.length<=1000000000000):FnD Tryz.prog 184 [.d (zcq x),.d (zcq y)] [] (.d (.bool (zdd x y))) []:=by
 refine bd Tryz.f184 16 [] [] fun _ _ _ _ hk=>?_;refine bx 3003 ?_;refine ev ?_;apply sq<;>intro h1 h1p h1s;refine xbz (xs:=[_]) Z (.some Z Z h1) Z Z (Walk.call (cr:=[]) zs5 (zf7 (p:=fun v=> !decide (v∈y)) hx zs6 (fun t _=>ziJ hy) ⟨Z,I⟩ Z Z) Z (.some Z Z h1) Z Z (LeL.refl _) ⟨Z,I⟩ Z Z Z (evs [] [(10,true)] ?_ ⟨⟨_,Z,h1⟩,I⟩));refine rq ?_;rotate_left;refine rq ?_;rotate_left;all_goals (refine xam D.bool ?_;unfold zdd;first|(simp_all;done)|(simp_all;intro hz;omega))
def metA (s:List Int):List AV:=(List.range 6).map fun(i:Nat)=> .d (.bool (decide ((i:Int)∈s)))
theorem znJ {s:List Int}{v:Int} (h0:0<=v) (h1:v<=5):(metA s)[v.toNat]?=some (.d (.bool (decide (v∈s)))):=by
 unfold metA;rw[List.getElem?_map,List.getElem?_range od];simp only[Option.map_some];rw[Int.toNat_of_nonneg h0]
theorem znK {s:List Int}{v:Int} (h0:0<=v) (h1:v<=5):putC (metA s) v.toNat [.d (.bool true)]=some (metA (s++[v])):=by
 have e:v=0\/v=1\/v=2\/v=3\/v=4\/v=5:=by omega
 rcases e with rfl|rfl|rfl|rfl|rfl|rfl<;>simp[metA,putC,List.range_succ]
theorem zqz (t:Ty) (p:Pat):(zaN t p).length<=1:=by unfold zaN;split<;>simp
theorem zgL:∀ {a b:List Int},a.Nodup->(∀x∈a,x∈b)->a.length<=b.length
 | [],b,_,_=>by simp
 |x::r,b,hn,hs=>by
  have hn':=List.nodup_cons.1 hn;have hx:=hs x og;have h:=zgL (a:=r) (b:=b.erase x) hn'.2 (fun y hy=>by
   have hne:y≠x:=fun e=>hn'.1 (e ▸ hy);exact(List.mem_erase_of_ne hne).2 (hs y (by simp[hy])))
  rw[List.length_erase_of_mem hx] at h;have:=List.length_pos_of_mem hx;simp only[xab];omega
def InR (l:List Vt):Prop:=∀v∈l,0<=v.var/\v.var<=5
theorem zqB {l:List Vt} (h:InR l) (hn:zbQ l=true):l.length<=6:=by
 unfold zbQ at hn;have h1:=xas hn;have h2:∀x∈l.map Vt.var,x∈[(0:Int),1,2,3,4,5]:=fun x hx=>by
  obtain⟨v,hv,rfl⟩:=List.mem_map.1 hx;have:=h v hv;simp only[List.mem_cons,xau,or_false];omega
 have:=zgL h1 h2;simpa using this
theorem zkf {g:Ty->Pat->Int->Option (List Vt)×Int}{or:Bool} (hg:∀t p c l,(g t p c).1=some l->InR l):∀(a:List Ty) (b:List Pat) (i:Nat) (acc:List Vt) (c:Int) (l:List Vt),InR acc->(za9 g or a b i acc c).1=some l->InR l
 | [],b,i,acc,c,l,ha,h=>by simp only[za9,xae] at h;subst h;exact ha
 |_::_,[],i,acc,c,l,ha,h=>by simp only[za9,xae] at h;subst h;exact ha
 |x::r,y::s,i,acc,c,l,ha,h=>by
  simp only[za9] at h;cases hh:(g x y c).1 with
  |none=>rw[hh] at h;cases h
  |some m=>
   rw[hh] at h;simp only at h;split at h
   ·split at h
    ·exact zkf hg r s (i+1) acc _ l ha h
    ·cases h
   ·refine zkf hg r s (i+1) _ _ l (fun v hv=>?_) h;rcases List.mem_append.1 hv with hv|hv
    ·exact ha v hv
    ·exact hg x y c m hh v hv
theorem zn0 (w:List Data):∀(n:Nat) (t:Ty) (p:Pat) (c:Int) (l:List Vt),(zaM w n t p c).1=some l->InR l/\zbQ l=true
 |0,t,p,c,l,h=>by simp[zaM] at h
 |n+1,t,p,c,l,h=>by
  unfold zaM at h;split at h
  ·cases h
  ·split at h
   ·rename_i h60 ho;have ho':ownP w t p=true:=by unfold okP at ho;simp only[xad] at ho;exact ho.1
    cases hk:(za9 (zaM w n) (decide (p.op=5)) (zag w t p) p.kids 0 (zaN t p) (c+1)).1 with
    |none=>unfold finV at h;rw[hk] at h;simp only at h;rw[hk] at h;cases h
    |some m=>
     have hi:InR m:=zkf (fun t p c l h=>(zn0 w n t p c l h).1) _ _ _ _ _ m (fun v hv=>by
      unfold zaN at hv;split at hv
      ·rename_i hop;simp only[List.mem_cons,xau,or_false] at hv;subst hv;exact znM ho' hop
      ·simp at hv) hk
     unfold finV at h;rw[hk] at h;simp only at h;split at h
     ·rename_i hn;rw[hk] at h;cases h
      exact⟨hi,hn⟩
     ·cases h
   ·cases h
theorem zrw (w:List Data) (n:Nat) (t:Ty) (p:Pat) (c:Int) (h:(zaM w n t p c).1.isSome=true):c+1<=(zaM w n t p c).2/\(zaM w n t p c).2<=60:=by
 have h1:=ze5 w n t p c;by_cases hw:zbC w n t p c=true
 ·have h2:=h1.2 hw;simp only[zbC,xad,xah] at hw;have:=xaZ p;omega
 ·rw[if_neg hw] at h1;rw[h1.1] at h;cases h
def zcR (o:Option (List Vt)):List Vt:=o.getD []
theorem zpA {g:Ty->Pat->Int->Option (List Vt)×Int}{or:Bool}{a:List Ty}{b:List Pat}{i:Nat}{acc:List Vt}{c:Int} (ha:i<a.length) (hl:b.length=a.length) (h:(g (nth a i) (nth b i) c).1.isSome=false):
  za9 g or (a.drop i) (b.drop i) i acc c=(none,(g (nth a i) (nth b i) c).2):=by
 rw[zb0 ha,zb0 (l:=b) od,za9];cases hh:(g (nth a i) (nth b i) c).1 with
 |none=>rfl
 |some l=>rw[hh] at h;cases h
theorem zqL {g:Ty->Pat->Int->Option (List Vt)×Int}{or:Bool}{a:List Ty}{b:List Pat}{i:Nat}{acc:List Vt}{c:Int} (ha:i<a.length) (hl:b.length=a.length) (h:(g (nth a i) (nth b i) c).1.isSome=true) (ho:or=true/\i=1) (hs:zdd acc (zcR (g (nth a i) (nth b i) c).1)=false):
  za9 g or (a.drop i) (b.drop i) i acc c=(none,(g (nth a i) (nth b i) c).2):=by
 rw[zb0 ha,zb0 (l:=b) od,za9];cases hh:(g (nth a i) (nth b i) c).1 with
 |none=>rfl
 |some l=>rw[hh] at hs;simp only[zcR,Option.getD_some] at hs;simp only[if_pos ho,hs,Bool.false_eq_true,if_false]
theorem zpz {g:Ty->Pat->Int->Option (List Vt)×Int}{or:Bool}{a:List Ty}{b:List Pat}{i:Nat}{acc:List Vt}{c:Int} (ha:i<a.length) (hl:b.length=a.length) (h:(g (nth a i) (nth b i) c).1.isSome=true) (hs:(or=true/\i=1)->zdd acc (zcR (g (nth a i) (nth b i) c).1)=true):
  za9 g or (a.drop i) (b.drop i) i acc c=za9 g or (a.drop (i+1)) (b.drop (i+1)) (i+1) (if or=true/\i=1 then acc else acc++zcR (g (nth a i) (nth b i) c).1) (g (nth a i) (nth b i) c).2:=by
 rw[zb0 ha,zb0 (l:=b) od,za9];cases hh:(g (nth a i) (nth b i) c).1 with
 |none=>rw[hh] at h;cases h
 |some l=>
  by_cases ho:or=true/\i=1
  ·have:=hs ho;rw[hh] at this;simp only[zcR,Option.getD_some] at this;simp only[if_pos ho,this,if_true]
  ·simp only[if_neg ho,zcR,Option.getD_some]
theorem zqM {g:Ty->Pat->Int->Option (List Vt)×Int}{or:Bool}{a:List Ty}{b:List Pat}{i:Nat}{acc:List Vt}{c:Int} (ha:a.length<=i):za9 g or (a.drop i) (b.drop i) i acc c=(some acc,c):=by
 rw[List.drop_eq_nil_of_le ha,za9];intro a r b s h;cases h
theorem ze6 (w:List Data) (n:Nat) (t:Ty) (p:Pat) (c:Int):InR (zcR (zaM w n t p c).1)/\(zcR (zaM w n t p c).1).length<=6:=by
 cases h:(zaM w n t p c).1 with
 |none=>exact⟨fun v hv=>by simp[zcR] at hv,by simp[zcR]⟩
 |some l=>
  have:=zn0 w n t p c l h;exact⟨this.1,zqB this.1 this.2⟩
structure GoodS (w:List Data) (n:Nat) (t:Ty) (p:Pat) (c:Int) (x:Nat×List Vt×Int):Prop where
 le:x.1<=p.kids.length
 eq:za9 (zaM w n) (decide (p.op=5)) ((zag w t p).drop x.1) (p.kids.drop x.1) x.1 x.2.1 x.2.2=za9 (zaM w n) (decide (p.op=5)) (zag w t p) p.kids 0 (zaN t p) (c+1)
 lc:(x.1:Int)<=x.2.2
 c0:0<=x.2.2
 c1:x.2.2<=60
 len:x.2.1.length<=1+6*x.1
 inr:InR x.2.1
def zb4 (w:List Data) (n:Nat) (t:Ty) (p:Pat) (x:Nat×List Vt×Int):Nat×List Vt×Int:=
 (x.1+1,if decide (p.op=5)=true/\x.1=1 then x.2.1 else x.2.1++zcR (zaM w n (nth (zag w t p) x.1) (nth p.kids x.1) x.2.2).1,(zaM w n (nth (zag w t p) x.1) (nth p.kids x.1) x.2.2).2)
theorem GoodS.next {w:List Data}{n:Nat}{t:Ty}{p:Pat}{c:Int}{x:Nat×List Vt×Int} (hl:p.kids.length=(zag w t p).length) (hg:GoodS w n t p c x) (hlt:x.1<p.kids.length)
  (hz:(zaM w n (nth (zag w t p) x.1) (nth p.kids x.1) x.2.2).1.isSome=true) (hs:(decide (p.op=5)=true/\x.1=1)->zdd x.2.1 (zcR (zaM w n (nth (zag w t p) x.1) (nth p.kids x.1) x.2.2).1)=true):
  GoodS w n t p c (zb4 w n t p x):=by
 obtain⟨h1,h2,h3,h4,h5,h6,h7⟩:=hg;have hb:=zrw w n _ _ _ hz;have ho:=ze6 w n (nth (zag w t p) x.1) (nth p.kids x.1) x.2.2;refine⟨by unfold zb4;dsimp only;omega, ?_,by unfold zb4;dsimp only;omega,by unfold zb4;dsimp only;omega,by unfold zb4;dsimp only;omega, ?_, ?_⟩
 ·rw[<-h2,zpz od hl hz hs];rfl
 ·unfold zb4;dsimp only;split
  ·omega
  ·rw[xaa];omega
 ·unfold zb4;dsimp only;split
  ·exact h7
  ·intro v hv;rcases List.mem_append.1 hv with hv|hv
   ·exact h7 v hv
   ·exact ho.1 v hv
theorem GoodS.none {w:List Data}{n:Nat}{t:Ty}{p:Pat}{c:Int}{x:Nat×List Vt×Int} (hl:p.kids.length=(zag w t p).length) (hg:GoodS w n t p c x) (hlt:x.1<p.kids.length)
  (hz:(zaM w n (nth (zag w t p) x.1) (nth p.kids x.1) x.2.2).1.isSome=false):
  finV (za9 (zaM w n) (decide (p.op=5)) (zag w t p) p.kids 0 (zaN t p) (c+1))=(none,(zaM w n (nth (zag w t p) x.1) (nth p.kids x.1) x.2.2).2):=by
 rw[<-hg.eq,zpA od hl hz];rfl
theorem GoodS.bad {w:List Data}{n:Nat}{t:Ty}{p:Pat}{c:Int}{x:Nat×List Vt×Int} (hl:p.kids.length=(zag w t p).length) (hg:GoodS w n t p c x) (hlt:x.1<p.kids.length)
  (hz:(zaM w n (nth (zag w t p) x.1) (nth p.kids x.1) x.2.2).1.isSome=true) (ho:p.op=5/\x.1=1) (hs:zdd x.2.1 (zcR (zaM w n (nth (zag w t p) x.1) (nth p.kids x.1) x.2.2).1)=false):
  finV (za9 (zaM w n) (decide (p.op=5)) (zag w t p) p.kids 0 (zaN t p) (c+1))=(Option.none,(zaM w n (nth (zag w t p) x.1) (nth p.kids x.1) x.2.2).2):=by
 rw[<-hg.eq,zqL od hl hz (by simpa using ho) hs];rfl
theorem GoodS.fin {w:List Data}{n:Nat}{t:Ty}{p:Pat}{c:Int}{x:Nat×List Vt×Int} (hl:p.kids.length=(zag w t p).length) (hg:GoodS w n t p c x) (hge:p.kids.length<=x.1):
  finV (za9 (zaM w n) (decide (p.op=5)) (zag w t p) p.kids 0 (zaN t p) (c+1))=(if zbQ x.2.1=true then some x.2.1 else Option.none,x.2.2):=by
 rw[<-hg.eq,zqM od];unfold finV;simp only;split<;>rfl
theorem zqA {pre rest l:List Vt}{y:Vt} (h:pre++y::rest=l) (hm:y.var∈pre.map Vt.var):zbQ l=false:=by
 unfold zbQ;refine xaw (fun hn=>?_);rw[<-h,xag,xaf,List.nodup_append] at hn;exact hn.2.2 _ hm _ og Z
theorem zk6 {pre:List Vt}{y:Vt} (h:(pre.map Vt.var).Nodup) (hm:y.var∉pre.map Vt.var):((pre++[y]).map Vt.var).Nodup:=by
 rw[xag,List.nodup_append];exact⟨h,by simp,fun a ha b hb=>by simp at hb;subst hb;exact fun e=>hm (e ▸ ha)⟩
def retV (r:Option (List Vt)×Int):AV:= .tup [.d (zcq (zcR r.1)),.d (.bool r.1.isSome)]
theorem zdi {w:List Data} (hw:WT w):∀(n:Nat){a k d c:Int}{p:Pat},d+n=11->n<=10->TyIn w.length ⟨a,k⟩->p.ok->0<=c->c<=1000000000000->
  FnD Tryz.prog 130 [.d (zap w),.agg [.d (.i a),.d (.i k)],.agg [.d (.i p.op),.d (.i p.ctor),.d (.i p.n),.d (.i p.m),.d (.i p.var),.d (zau p.kids)],.d (.i d),.ref 950 0] [(950,some (.box [.d (.i c)]))]
   (retV (zaM w n ⟨a,k⟩ p c)) [(950,some (.box [.d (.i (zaM w n ⟨a,k⟩ p c).2)]))]
 |0,a,k,d,c,p,hd,_,_,_,c0,c1=>by
  refine bd Tryz.f130 114 [] [2] fun _ _ _ _ hk=>?_;refine bx 3006 ?_;refine bx 3007 ?_;refine ev (ar (so ty3 ?_));apply tv;refine xaF (xbq 8 [(34,.d (.bool true))] [27,28,29,30,31,32,33] ?_ ?_);refine ev ?_;apply sq<;>intro h1 h1p h1s;exact jnb Z;exact jnb Z;refine xbp ?_;apply tv;apply sq<;>intro h2 h2p h2s;refine rn [(950,some (.box [.d (.i (zaM w 0 ⟨a,k⟩ p c).2)]))] (r2 Z Z) (.tup (qne ?_ ?_)) ⟨Z,Z⟩ (SubO.get ⟨.inr ?_,⟨.inl Z,I⟩⟩) (zaX Z);rotate_left 3;exact absurd h2 og;all_goals (first|((rfl);done)|(rfl))
 |n+1,a,k,d,c,p,hd,hn,ht,hok,c0,c1=>by
  by_cases h60:60<c+1
  ·have e:zaM w (n+1) ⟨a,k⟩ p c=(none,c+1):=by unfold zaM;rw[if_pos h60]
   rw[e];refine bd Tryz.f130 114 [] [2] fun _ _ _ _ hk=>?_;refine bx 3006 ?_;refine bx 3007 ?_;refine ev (ar (so ty3 ?_));apply tv;refine xaF (xbq 8 [(34,.d (.bool true))] [27,28,29,30,31,32,33] ?_ ?_);refine ev ?_;apply sq<;>intro h1 h1p h1s;exact jnb Z;exact jnb Z;refine xbp ?_;apply tv;apply sq<;>intro h2 h2p h2s;refine rn [(950,some (.box [.d (.i (c+1))]))] (r2 Z Z) (.tup (qne ?_ ?_)) ⟨Z,Z⟩ (SubO.get ⟨.inr ?_,⟨.inl Z,I⟩⟩) (zaX Z);rotate_left 3;exact absurd h2 og;all_goals (first|((rfl);done)|(rfl))
  have hsh:=zmP hw (p:=p) ht;by_cases hop:okP w ⟨a,k⟩ p=true
  ·have hok':=hok;rw[xaY] at hok;have hop':=hop;unfold okP at hop';simp only[xad,xah] at hop';obtain⟨ho,hl⟩:=hop';have hin:=zfE hw ht ho;have hlen:=zgb hw ht (zcs ho);have hst:zcX w ⟨a,k⟩ p=zag w ⟨a,k⟩ p:=by unfold zcX;rw[if_neg (fun h=>h.2 (zcs ho h.1))]
   rw[hst,hop] at hsh;have e:zaM w (n+1) ⟨a,k⟩ p c=finV (za9 (zaM w n) (decide (p.op=5)) (zag w ⟨a,k⟩ p) p.kids 0 (zaN ⟨a,k⟩ p) (c+1)):=by
    conv=>lhs;unfold zaM
    rw[if_neg h60,if_pos hop]
   have hnr:InR (zaN ⟨a,k⟩ p):=fun v hv=>by
    unfold zaN at hv;split at hv
    ·rename_i hop;simp only[List.mem_cons,xau,or_false] at hv;subst hv;exact znM ho hop
    ·simp at hv
   have hnl:=zqz ⟨a,k⟩ p;rw[e];refine bd Tryz.f130 114 [14,108] [2,8,17] fun _ _ _ _ hk=>?_;refine bx 3006 ?_;refine bx 3007 ?_;refine evs [14,108] [] (ar (so ty3 ?_));apply tv;refine xaF (xbq 8 [(34,.d (.bool false))] [27,28,29,30,31,32,33] ?_ ?_);refine evs [14,108] [] ?_;apply sq<;>intro h1 h1p h1s;exact jnb Z;exact jnb Z;refine xbp ?_;apply tv;apply sq<;>intro h2 h2p h2s;exact absurd h2 og;refine wc zp5 hsh Z Z ?_;refine evs [14,108] [] ?_;apply sq<;>intro h3 h3p h3s;exact absurd h3 og;refine xbs 5 3 .none Z Z ?_;apply tv;refine xaF (xbq 8 [(51,.d (.bool (decide (p.op=2\/p.op=6))))] [44,45,46,47,48,49,50] ?_ ?_);refine evs [14,108] [] ?_;apply sq<;>intro h4 h4p h4s;exact jnb Z;exact jnb Z;refine xbp ?_;apply tv;apply sq<;>intro h5 h5p h5s;refine bu [0,1] [_,_] zpF ?_;refine si [0] [_] sl66 zm6 ?_;refine ap sl66 zm7 Z Z Z og (by(simp;done)) ?_;refine asg ?_;apply tv;refine xaD (ι:=Nat×List Vt×Int) hk (fun z=>[(62,.d (.i (z.1:Int))),(14,.gl 5 (z.2.1.map Vt.c))]) [10,11,15,16,17,18,63,64,65,66,67,68,69,70,71,72,73,74,75,76,77,78,79,80,81,82,83,84,85,86,87,88,89,90,91,92,93,94,95,96,97,98] (fun z=>[(950,some (.box [.d (.i z.2.2)])),(5,some (.tok ((z.2.1.map Vt.c)).length 3))]) (fun z=>GoodS w n ⟨a,k⟩ p c z) (fun z=>p.kids.length-z.1) (0,zaN ⟨a,k⟩ p,c+1) ⟨by simp,by simp,by dsimp only;omega,by dsimp only;omega,by dsimp only;omega,by dsimp only;omega,hnr⟩ ⟨⟨_,Z,xaQ ?_⟩,⟨⟨_,Z,LeA.glg ?_⟩,I⟩⟩ ⟨?_,⟨zac ?_,I⟩⟩ (fun x=>rfl) (fun z hg1=>?_);iterate 2 focus (first|rfl|(simp_all[zaN];done))
   focus (first|rfl|(simp[getH];done))
   focus (first|rfl|(simp_all[zaN];done))
   obtain⟨s1,_,s3,s4,s5,s6,s7⟩:=id hg1;refine evc [14,108] [2,8,17] ?_;apply sq<;>intro h6 h6p h6s<;>(try simp only[Q,xaW] at h6p);refine ixq sl72 Z Z Z (zaS od) Z ?_;refine evs [14,108] [] (ab 3016 tz74 ?_);refine evs [14,108] [] (so ty74 ?_);apply tv;refine ixq za3 Z Z Z (zao od) Z ?_;refine evd [14,108] [] (ar (wd znk (zdi hw n (a:=(nth (zag w ⟨a,k⟩ p) z.1).data) (k:=(nth (zag w ⟨a,k⟩ p) z.1).index) (c:=z.2.2) (p:=nth p.kids z.1) od od (hin _ (zai od)) (xa0 hok.2 _ (zai od)) od od) Z Z ⟨Z,I⟩ ?_));refine evd [14,108] [] (dr ?_);apply sq<;>intro h7 h7p h7s;refine rn [(950,some (.box [.d (.i (finV (za9 (zaM w n) (decide (p.op=5)) (zag w ⟨a,k⟩ p) p.kids 0 (zaN ⟨a,k⟩ p) (c+1))).2)]))] (r2 Z Z) (.tup (qne ?_ ?_)) ⟨Z,Z⟩ (SubO.get ⟨.inr ?_,⟨.inl Z,I⟩⟩) (zaX Z);rotate_left 3;refine xaF (xbq 7 [(93,.d (.bool (decide (p.op=5/\z.1=1))))] [87,88,89,90,91,92] ?_ ?_);refine evs [14,108] [] ?_;apply sq<;>intro h8 h8p h8s;exact jnb Z;exact jnb Z;refine xbp (evs [14,108] [] ?_);apply sq<;>intro h9 h9p h9s<;>(try simp only[Q,xaW] at h9p);refine Walk.call (cr:=[]) zp6 (zgr od (by have hz:=(ze6 w n ⟨(nth (zag w ⟨a,k⟩ p) z.1).data,(nth (zag w ⟨a,k⟩ p) z.1).index⟩ (nth p.kids z.1) z.2.2).2;omega)) Z .none Z Z (.cons (.gl _ _) (.cons (.refl _) .nil)) I Z Z Z ?_;refine evs [14,108] [] ?_;apply sq<;>intro h10 h10p h10s<;>(try simp only[Q,xaW] at h10p);refine rn [(950,some (.box [.d (.i (finV (za9 (zaM w n) (decide (p.op=5)) (zag w ⟨a,k⟩ p) p.kids 0 (zaN ⟨a,k⟩ p) (c+1))).2)]))] (r2 Z Z) (.tup (qne ?_ ?_)) ⟨Z,Z⟩ (SubO.get ⟨.inr ?_,⟨.inl Z,I⟩⟩) (zaX Z);rotate_left 3;refine ar (xaj ((zb4 w n ⟨a,k⟩ p z)) ⟨(hg1.next hl od (by simp_all) (fun ho=>by simp_all)),(by unfold zb4;dsimp only;omega),sx ⟨⟨_,Z,xaQ ?_⟩,⟨⟨_,Z,LeA.glg ?_⟩,I⟩⟩ ⟨?_,⟨zac ?_,I⟩⟩⟩);iterate 2 focus (first|rfl|(simp_all[zaN];done))
   focus (first|rfl|(simp[getH];done))
   focus (first|rfl|(simp_all[zaN];done))
   refine ap sl66 zm7 Z Z Z og (by first|(simp;done)|(have hz:=(ze6 w n ⟨(nth (zag w ⟨a,k⟩ p) z.1).data,(nth (zag w ⟨a,k⟩ p) z.1).index⟩ (nth p.kids z.1) z.2.2).2;simp;omega)) ?_;refine asg ?_;apply tv;refine ar (xaj ((zb4 w n ⟨a,k⟩ p z)) ⟨(hg1.next hl od (by simp_all) (fun ho=>by simp_all)),(by unfold zb4;dsimp only;omega),sx ⟨⟨_,Z,xaQ ?_⟩,⟨⟨_,Z,LeA.glg ?_⟩,I⟩⟩ ⟨?_,⟨zac ?_,I⟩⟩⟩);iterate 2 focus (first|rfl|(simp_all[zaN];done)|(unfold zb4;dsimp only;rw[if_neg (by simp_all)];simp;done))
   focus (first|rfl|(simp[getH];done))
   focus (first|rfl|(simp_all[zaN];done)|(unfold zb4;dsimp only;rw[if_neg (by simp_all)];simp;done))
   refine ab 3019 zr7 ?_;apply tv;refine xaD (ι:=List (Vt)×List (Vt)) hk (fun x=>[(101,.d (.i (x.1.length:Int)))]) [10,11,21,102,103,104,105,106,107,108,109,110,111,112] (fun x=>[(3019,some (.box (metA (x.1.map Vt.var))))]) (fun x=>x.1++x.2=z.2.1/\(x.1.map Vt.var).Nodup) (fun x=>x.2.length) ([],z.2.1) ⟨by simp,by simp⟩ ⟨⟨_,Z,xaQ ?_⟩,I⟩ ⟨?_,I⟩ (fun x=>rfl) (fun x hg2=>?_);focus (first|rfl|omega)
   focus (first|rfl|(simp[getH];done))
   obtain⟨pre,rest⟩:=x;dsimp only at hg2 ⊢;refine evc [14,108] [2,8,17] ?_;apply sq<;>intro h11 h11p h11s<;>(try simp only[Q,xaW] at h11p);rcases rest with _|⟨y,rest⟩
   ·exfalso;simp_all
   have hy:=s7 y (by rw[<-hg2.1];simp);refine Walk.idxG sl66 .none Z Z Z Z (zaL hg2.1) Z (evs [14,108] [] (ab 3021 zm6 ?_));refine so zr6 ?_;apply tv;refine xbF (i:=y.var.toNat) zmW .none Z Z Z (Int.toNat_of_nonneg hy.1).symm od ?_;refine xbL ty4 .none Z Z Z ((by simpa using znJ hy.1 hy.2)) ?_;apply tv;apply sq<;>intro h12 h12p h12s<;>(try simp only[Q,xaW] at h12p);refine rn [(950,some (.box [.d (.i (finV (za9 (zaM w n) (decide (p.op=5)) (zag w ⟨a,k⟩ p) p.kids 0 (zaN ⟨a,k⟩ p) (c+1))).2)]))] (r2 Z Z) (.tup (qne ?_ ?_)) ⟨Z,Z⟩ (SubO.get ⟨.inr ?_,⟨.inl Z,I⟩⟩) (zaX Z);rotate_left 3;refine xbF (i:=y.var.toNat) zmW .none Z Z Z (Int.toNat_of_nonneg hy.1).symm od ?_;refine Walk.store ty4 .none Z Z Z Z Z Z og ((by simpa using znK hy.1 hy.2)) ?_;apply tv;refine ar (xaj ((pre++[y],rest)) ⟨⟨(by have hz:=hg2.1;rw[<-hz];simp),(zk6 hg2.2 (by simp_all))⟩,og,sx ⟨⟨_,Z,xaQ ?_⟩,I⟩ ⟨?_,I⟩⟩);focus (first|rfl|(simp;done)|omega)
   focus (first|rfl|(simp[getH];done))
   have hrest:rest=[]:=by
    rcases rest with _|⟨a,b⟩
    ·rfl
    ·exfalso;have hz:=xam List.length (hg2.1);simp only[xaa,xab,xac] at hz;omega
   subst hrest;refine rn [(950,some (.box [.d (.i (finV (za9 (zaM w n) (decide (p.op=5)) (zag w ⟨a,k⟩ p) p.kids 0 (zaN ⟨a,k⟩ p) (c+1))).2)]))] (r2 Z Z) (.tup (qge ?_ ?_)) ⟨Z,Z⟩ (SubO.get ⟨.inr ?_,⟨.inl Z,I⟩⟩) (zaX Z);rotate_left 3;try simp only[Q,xaW] at h5p
   refine xaD (ι:=Nat×List Vt×Int) hk (fun z=>[(62,.d (.i (z.1:Int))),(14,.gl 5 (z.2.1.map Vt.c))]) [10,11,15,16,17,18,63,64,65,66,67,68,69,70,71,72,73,74,75,76,77,78,79,80,81,82,83,84,85,86,87,88,89,90,91,92,93,94,95,96,97,98] (fun z=>[(950,some (.box [.d (.i z.2.2)])),(5,some (.tok ((z.2.1.map Vt.c)).length 3))]) (fun z=>GoodS w n ⟨a,k⟩ p c z) (fun z=>p.kids.length-z.1) (0,zaN ⟨a,k⟩ p,c+1) ⟨by simp,by simp,by dsimp only;omega,by dsimp only;omega,by dsimp only;omega,by dsimp only;omega,hnr⟩ ⟨⟨_,Z,xaQ ?_⟩,⟨⟨_,Z,LeA.glg ?_⟩,I⟩⟩ ⟨?_,⟨zac ?_,I⟩⟩ (fun x=>rfl) (fun z hg1=>?_);iterate 2 focus (first|rfl|(simp_all[zaN];done))
   focus (first|rfl|(simp[getH];done))
   focus (first|rfl|(simp_all[zaN];done))
   obtain⟨s1,_,s3,s4,s5,s6,s7⟩:=id hg1;refine evc [14,108] [2,8,17] ?_;apply sq<;>intro h13 h13p h13s<;>(try simp only[Q,xaW] at h13p);refine ixq sl72 Z Z Z (zaS od) Z ?_;refine evs [14,108] [] (ab 3016 tz74 ?_);refine evs [14,108] [] (so ty74 ?_);apply tv;refine ixq za3 Z Z Z (zao od) Z ?_;refine evd [14,108] [] (ar (wd znk (zdi hw n (a:=(nth (zag w ⟨a,k⟩ p) z.1).data) (k:=(nth (zag w ⟨a,k⟩ p) z.1).index) (c:=z.2.2) (p:=nth p.kids z.1) od od (hin _ (zai od)) (xa0 hok.2 _ (zai od)) od od) Z Z ⟨Z,I⟩ ?_));refine evd [14,108] [] (dr ?_);apply sq<;>intro h14 h14p h14s<;>(try simp only[Q,xaW] at h14p);refine rn [(950,some (.box [.d (.i (finV (za9 (zaM w n) (decide (p.op=5)) (zag w ⟨a,k⟩ p) p.kids 0 (zaN ⟨a,k⟩ p) (c+1))).2)]))] (r2 Z Z) (.tup (qne ?_ ?_)) ⟨Z,Z⟩ (SubO.get ⟨.inr ?_,⟨.inl Z,I⟩⟩) (zaX Z);rotate_left 3;refine xaF (xbq 7 [(93,.d (.bool (decide (p.op=5/\z.1=1))))] [87,88,89,90,91,92] ?_ ?_);refine evs [14,108] [] ?_;apply sq<;>intro h15 h15p h15s<;>(try simp only[Q,xaW] at h15p);exact jnb Z;exact jnb Z;refine xbp (evs [14,108] [] ?_);apply sq<;>intro h16 h16p h16s<;>(try simp only[Q,xaW] at h16p);refine Walk.call (cr:=[]) zp6 (zgr od (by have hz:=(ze6 w n ⟨(nth (zag w ⟨a,k⟩ p) z.1).data,(nth (zag w ⟨a,k⟩ p) z.1).index⟩ (nth p.kids z.1) z.2.2).2;omega)) Z .none Z Z (.cons (.gl _ _) (.cons (.refl _) .nil)) I Z Z Z ?_;refine evs [14,108] [] ?_;apply sq<;>intro h17 h17p h17s<;>(try simp only[Q,xaW] at h17p);refine rn [(950,some (.box [.d (.i (finV (za9 (zaM w n) (decide (p.op=5)) (zag w ⟨a,k⟩ p) p.kids 0 (zaN ⟨a,k⟩ p) (c+1))).2)]))] (r2 Z Z) (.tup (qne ?_ ?_)) ⟨Z,Z⟩ (SubO.get ⟨.inr ?_,⟨.inl Z,I⟩⟩) (zaX Z);rotate_left 3;refine ar (xaj ((zb4 w n ⟨a,k⟩ p z)) ⟨(hg1.next hl od (by simp_all) (fun ho=>by simp_all)),(by unfold zb4;dsimp only;omega),sx ⟨⟨_,Z,xaQ ?_⟩,⟨⟨_,Z,LeA.glg ?_⟩,I⟩⟩ ⟨?_,⟨zac ?_,I⟩⟩⟩);iterate 2 focus (first|rfl|(simp_all[zaN];done)|(unfold zb4;dsimp only;rw[if_pos (by simp_all)];done))
   focus (first|rfl|(simp[getH];done))
   focus (first|rfl|(simp_all[zaN];done)|(unfold zb4;dsimp only;rw[if_pos (by simp_all)];done))
   refine ap sl66 zm7 Z Z Z og (by first|(simp;done)|(have hz:=(ze6 w n ⟨(nth (zag w ⟨a,k⟩ p) z.1).data,(nth (zag w ⟨a,k⟩ p) z.1).index⟩ (nth p.kids z.1) z.2.2).2;simp;omega)) ?_;refine asg ?_;apply tv;refine ar (xaj ((zb4 w n ⟨a,k⟩ p z)) ⟨(hg1.next hl od (by simp_all) (fun ho=>by simp_all)),(by unfold zb4;dsimp only;omega),sx ⟨⟨_,Z,xaQ ?_⟩,⟨⟨_,Z,LeA.glg ?_⟩,I⟩⟩ ⟨?_,⟨zac ?_,I⟩⟩⟩);iterate 2 focus (first|rfl|(simp_all[zaN];done)|(unfold zb4;dsimp only;rw[if_neg (by simp_all)];simp;done))
   focus (first|rfl|(simp[getH];done))
   focus (first|rfl|(simp_all[zaN];done)|(unfold zb4;dsimp only;rw[if_neg (by simp_all)];simp;done))
   refine ab 3019 zr7 ?_;apply tv;refine xaD (ι:=List (Vt)×List (Vt)) hk (fun x=>[(101,.d (.i (x.1.length:Int)))]) [10,11,21,102,103,104,105,106,107,108,109,110,111,112] (fun x=>[(3019,some (.box (metA (x.1.map Vt.var))))]) (fun x=>x.1++x.2=z.2.1/\(x.1.map Vt.var).Nodup) (fun x=>x.2.length) ([],z.2.1) ⟨by simp,by simp⟩ ⟨⟨_,Z,xaQ ?_⟩,I⟩ ⟨?_,I⟩ (fun x=>rfl) (fun x hg2=>?_);focus (first|rfl|omega)
   focus (first|rfl|(simp[getH];done))
   obtain⟨pre,rest⟩:=x;dsimp only at hg2 ⊢;refine evc [14,108] [2,8,17] ?_;apply sq<;>intro h18 h18p h18s<;>(try simp only[Q,xaW] at h18p);rcases rest with _|⟨y,rest⟩
   ·exfalso;simp_all
   have hy:=s7 y (by rw[<-hg2.1];simp);refine Walk.idxG sl66 .none Z Z Z Z (zaL hg2.1) Z (evs [14,108] [] (ab 3021 zm6 ?_));refine so zr6 ?_;apply tv;refine xbF (i:=y.var.toNat) zmW .none Z Z Z (Int.toNat_of_nonneg hy.1).symm od ?_;refine xbL ty4 .none Z Z Z ((by simpa using znJ hy.1 hy.2)) ?_;apply tv;apply sq<;>intro h19 h19p h19s<;>(try simp only[Q,xaW] at h19p);refine rn [(950,some (.box [.d (.i (finV (za9 (zaM w n) (decide (p.op=5)) (zag w ⟨a,k⟩ p) p.kids 0 (zaN ⟨a,k⟩ p) (c+1))).2)]))] (r2 Z Z) (.tup (qne ?_ ?_)) ⟨Z,Z⟩ (SubO.get ⟨.inr ?_,⟨.inl Z,I⟩⟩) (zaX Z);rotate_left 3;refine xbF (i:=y.var.toNat) zmW .none Z Z Z (Int.toNat_of_nonneg hy.1).symm od ?_;refine Walk.store ty4 .none Z Z Z Z Z Z og ((by simpa using znK hy.1 hy.2)) ?_;apply tv;refine ar (xaj ((pre++[y],rest)) ⟨⟨(by have hz:=hg2.1;rw[<-hz];simp),(zk6 hg2.2 (by simp_all))⟩,og,sx ⟨⟨_,Z,xaQ ?_⟩,I⟩ ⟨?_,I⟩⟩);focus (first|rfl|(simp;done)|omega)
   focus (first|rfl|(simp[getH];done))
   have hrest:rest=[]:=by
    rcases rest with _|⟨a,b⟩
    ·rfl
    ·exfalso;have hz:=xam List.length (hg2.1);simp only[xaa,xab,xac] at hz;omega
   subst hrest;refine rn [(950,some (.box [.d (.i (finV (za9 (zaM w n) (decide (p.op=5)) (zag w ⟨a,k⟩ p) p.kids 0 (zaN ⟨a,k⟩ p) (c+1))).2)]))] (r2 Z Z) (.tup (qge ?_ ?_)) ⟨Z,Z⟩ (SubO.get ⟨.inr ?_,⟨.inl Z,I⟩⟩) (zaX Z);rotate_left 3;all_goals (((first|(rw[hg1.none hl od ol];first|done|rfl)|(rw[hg1.bad hl od ol ol ol];first|done|rfl)|(rw[hg1.fin hl od,if_neg (by rw[zqA hg2.1 ol];simp)];first|done|rfl)|(rw[hg1.fin hl od,if_pos (by have hz:=hg2.1;rw[xaq] at hz;rw[<-hz];exact xax hg2.2)];first|done|rfl));done))
  ·have hopf:okP w ⟨a,k⟩ p=false:=by simpa using hop
   have e:zaM w (n+1) ⟨a,k⟩ p c=(none,c+1):=by unfold zaM;rw[if_neg h60,if_neg hop]
   rw[e];rw[hopf] at hsh;refine bd Tryz.f130 114 [] [2] fun _ _ _ _ hk=>?_;refine bx 3006 ?_;refine bx 3007 ?_;refine ev (ar (so ty3 ?_));apply tv;refine xaF (xbq 8 [(34,.d (.bool false))] [27,28,29,30,31,32,33] ?_ ?_);refine ev ?_;apply sq<;>intro h1 h1p h1s;exact jnb Z;exact jnb Z;refine xbp ?_;apply tv;apply sq<;>intro h2 h2p h2s;exact absurd h2 og;refine wc zp5 hsh Z Z ?_;refine ev ?_;apply sq<;>intro h3 h3p h3s;refine rn [(950,some (.box [.d (.i (c+1))]))] (r2 Z Z) (.tup (qne ?_ ?_)) ⟨Z,Z⟩ (SubO.get ⟨.inr ?_,⟨.inl Z,I⟩⟩) (zaX Z);rotate_left 3;exact absurd h3 og;all_goals (first|((rfl);done)|(rfl))
set_option maxHeartbeats 2000000
theorem zqS {i j:Nat} (h:j<4):tyS (i*4+j)=⟨(i:Int),(j:Int)⟩:=by
 unfold tyS;rw[show(i*4+j) / 4=i by omega,show(i*4+j) % 4=j by omega]
set_option maxHeartbeats 4000000
theorem zt5 (w:List Data) (t:Ty) (p:Pat):(zaM w 10 t p 0).1.isSome=isP w t p:=by
 have h:=(ze5 w 10 t p 0).1;rw[h];unfold zbC isP;rw[Int.zero_add];split
 ·rename_i hz;rw[hz];rfl
 ·rename_i hz;cases hc:(zaw w 10 t p&&(decide ((p.size:Int)<=60)&&linP w 10 t p)) with
  |true=>exact absurd hc hz
  |false=>rfl
theorem zig {w:List Data} (hw:WT w){a k:Int}{p:Pat} (ht:TyIn w.length ⟨a,k⟩) (hok:p.ok):
  FnD Tryz.prog 73 [.d (zap w),.agg [.d (.i a),.d (.i k)],.agg [.d (.i p.op),.d (.i p.ctor),.d (.i p.n),.d (.i p.m),.d (.i p.var),.d (zau p.kids)]] [] (.tup [.d (zcq (zcR (zaM w 10 ⟨a,k⟩ p 0).1)),.d (.bool (isP w ⟨a,k⟩ p))]) []:=by
 rw[<-zt5];refine bd Tryz.f73 15 [] [] fun _ _ _ _ hk=>?_;refine bx 3004 ?_;refine bx 3005 ?_;refine ev (ab 950 tz3 ?_);refine so ty3 ?_;apply tv;refine wd znk (zdi hw 10 (c:=0) od od ht hok od od) Z Z ⟨Z,I⟩ ?_;refine ev (rn0 (r2 Z Z) (.tup (qee ?_ ?_)));rotate_left 2;all_goals (rfl)
set_option maxHeartbeats 2000000
theorem zrH {w:List Data} (hs:WSmall w) (hv:zbp w=true):Dp w:=by
 have hw:=zkq hs hv;have hW:=(zco w).1 hv;refine⟨hw,fun s hs c hc u hu=>?_,hW.len,fun s hs=>?_⟩
 ·obtain⟨j,rfl,hj⟩:=zbF (d:=s / 4) (k:=((s % 4:Nat):Int)) hc;have hu':u∈zaB w ⟨((s / 4:Nat):Int),((s % 4:Nat):Int)⟩ (j:Int):=hu;simp only[zaB,Int.toNat_natCast,List.mem_map] at hu';obtain⟨x,hx,rfl⟩:=hu';have hco:=hW.ctor _ (zai (l:=w) (i:=s / 4) od) _ (zai hj);simp only[zbw,xad,Bool.not_eq_true',List.any_eq_false] at hco;have hax:zbJ w.length x=true:=by
   have:=hco.2.2.2 x hx;cases h:zbJ w.length x with
   |true=>rfl
   |false=>rw[h] at this;exact absurd Z this
  have hci:=hco.2.2.1;simp only[zbJ,zat,Bool.or_eq_true,xad,xah,and_true] at hax hci;have key:∀y:Ty,(y.data = -1\/(0<=y.data/\y.data<w.length/\0<=y.index/\y.index<=3))->InS (w.length*4) y:=by
   rintro ⟨a,k⟩ h
   rcases h with h|⟨h1,h2,h3,h4⟩
   ·exact .inl h
   ·refine .inr ⟨?_, ?_⟩
    ·simp only[zfq] at *;omega
    ·obtain⟨i,rfl⟩:=Int.eq_ofNat_of_zero_le h1;obtain⟨m,rfl⟩:=Int.eq_ofNat_of_zero_le h3;simp only[zfq,Int.toNat_natCast];exact zqS (by simp only at h4;omega)
  refine key _ ?_;unfold zch zcc;split
  ·dsimp only;rcases hax with h|h
   ·omega
   ·right
    refine⟨by omega,by omega, ?_⟩;split<;>omega
  ·rcases hax with h|h
   ·exact .inl h.1
   ·right;omega
 ·have h1:=zfH (tyS s).index (nth w (tyS s).data.toNat).ctors 0;have h2:=(hW.data _ (zai (l:=w) (i:=s / 4) od)).2.2;show(zaQ (tyS s).index 0 (nth w (tyS s).data.toNat).ctors).length<=4
  have e:(tyS s).data.toNat=s / 4:=by simp only[tyS,Int.toNat_natCast]
  rw[e] at h1 ⊢;omega
theorem zrk {n:Nat}{t:Ty} (h:InS (n*4) t):TyIn n t:=by
 rcases h with h|⟨h1,h2⟩
 ·exact .inl h
 ·refine .inr ⟨zfq t / 4, ?_,by omega⟩;have:=xam Ty.data h2;exact this.symm
theorem zq3 {w:List Data} (hd:Dp w){t:Ty}{c:Int} (ht:InS (w.length*4) t) (hc:c∈za0 w t):∀u∈zaB w t c,InS (w.length*4) u:=by
 rcases ht with h|⟨h1,h2⟩
 ·unfold za0 at hc;rw[if_pos h] at hc;simp at hc
 ·have hx:=hd.cl _ h1;rw[h2] at hx;have:c∈zaG w t:=by
   unfold za0 at hc;split at hc
   ·simp at hc
   ·exact hc
  exact hx c this
structure PKids (w:List Data) (n:Nat) (a k k':Int) (p:Pat):Prop where
 len5:p.op=5->p.kids.length=2
 len6:p.op=6->p.kids.length=1
 len4:p.op=4->p.kids.length=(zaB w ⟨a,k⟩ p.ctor).length
 one:p.op=5\/p.op=6->zaw w n ⟨a,k'⟩ (nth p.kids 0)=true
 two:p.op=5->zaw w n ⟨a,k'⟩ (nth p.kids 1)=true
 arg:p.op=4->∀i,i<(zaB w ⟨a,k⟩ p.ctor).length->zaw w n ⟨(nth (zaB w ⟨a,k⟩ p.ctor) i).data,(nth (zaB w ⟨a,k'⟩ p.ctor) i).index⟩ (nth p.kids i)=true
 mem:p.op=4->p.ctor∈za0 w ⟨a,k'⟩
 ops:p.op=1\/p.op=2\/(p.op=3/\a = -1)\/p.op=4\/p.op=5\/p.op=6
theorem zgA {w:List Data}{a k:Int} (h:za2 w ⟨a,k⟩=true):zbp w=true/\TyIn w.length ⟨a,k⟩/\(a≠ -1->0<=a/\a.toNat<w.length/\0<=k/\k<=3):=by
 unfold za2 at h;rw[xad] at h;obtain⟨h1,h2⟩:=h;simp only[zdE,zat,Bool.or_eq_true,xad,xah,and_true] at h2;refine⟨h1, ?_,fun ha=>by omega⟩;rcases h2 with h|h
 ·exact .inl h.1
 ·exact .inr ⟨a.toNat,by simp only;omega,by omega⟩
theorem ztj {n d j:Nat} (hd:d<n) (hj:j<4):InS (n*4) ⟨(d:Int),(j:Int)⟩:=
 .inr ⟨by simp only[zfq,Int.toNat_natCast];omega,by simp only[zfq,Int.toNat_natCast];exact zqS hj⟩
structure PVal (w:List Data) (a k:Int) (p:Pat):Prop where
 dp:Dp w
 tin:TyIn w.length ⟨a,k⟩
 shape:zaw w 10 ⟨a,k⟩ p=true
 rng:a≠ -1->0<=a/\a.toNat<w.length/\0<=k/\k<=3
theorem zki {w:List Data}{a b:Int} (hs:WSmall w):FnD Tryz.prog 86 [.d (zap w),.agg [.d (.i a),.d (.i b)]] [] (.d (.bool (za2 w ⟨a,b⟩))) []:=by
 rw[<-zoY];exact zfS hs
theorem zcI {α β:Type} [Inhabited α] [Inhabited β]{f:α->β->Bool}{a:List α}{b:List β} (hl:a.length=b.length) (h:all2 f a b=true):∀i,i<a.length->f (nth a i) (nth b i)=true:=fun i hi=>by
 cases hf:f (nth a i) (nth b i) with
 |true=>rfl
 |false=>rw[zcm hi hl hf] at h;exact absurd h og
mutual
theorem zpL:∀v:Val,zpK v v=true
 | .mk _ _ ks=>by simp[zpK,zjT ks]
theorem zjT:∀l:List Val,zlv l l=true
 | []=>rfl
 |v::r=>by simp[zlv,zpL v,zjT r]
end
theorem Val.c_len (v:Val):v.c.length=3:=by cases v;rfl
theorem Val.cs_rows {l:List Val}:∀x,x∈Val.cs l->x.length=3:=by
 intro x hx;rw[xbf] at hx;obtain⟨y,_,rfl⟩:=List.mem_map.1 hx;exact y.c_len
mutual
def mVal:Val->Nat
 | .mk _ _ ks=>zk4 ks
def zk4:List Val->Nat
 | []=>0
 |v::r=>1+mVal v+zk4 r
end
mutual
def Val.szM:Val->Int
 | .mk _ _ ks=>2+Vals.szM ks
def Vals.szM:List Val->Int
 | []=>0
 |v::r=>v.szM+Vals.szM r
end
mutual
def Val.one (k:Int):Val->Val
 | .mk _ _ ks=> .mk k (k+1) (Vals.one (k+1+1) ks)
def Vals.one (k:Int):List Val->List Val
 | []=>[]
 |v::r=>v.one k::Vals.one (k+v.szM) r
end
mutual
theorem Val.szM_nn:∀v:Val,0<=v.szM
 | .mk _ _ ks=>by have:=xbo ks;simp only[Val.szM];omega
theorem xbo:∀l:List Val,0<=Vals.szM l
 | []=>by simp[Vals.szM]
 |v::r=>by have:=Val.szM_nn v;have:=xbo r;simp only[Vals.szM];omega
end
mutual
theorem Val.szM_le:∀v:Val,v.szM<=2+2*(mVal v:Int)
 | .mk _ _ ks=>by have:=xbn ks;simp only[Val.szM,mVal];omega
theorem xbn:∀l:List Val,Vals.szM l<=2*(zk4 l:Int)
 | []=>by simp[Vals.szM,zk4]
 |v::r=>by have:=Val.szM_le v;have:=xbn r;simp only[Vals.szM,zk4];omega
end
def zbz (w:List Data):Nat->Ty->Val->Bool
 |0,_,_=>false
 |n+1,t,v=>if t.data = -1 then decide (v.ctor = -1)&&(decide (0<=v.num)&&(decide (v.num<=9)&&decide (v.kids.length=0)))
   else if v.num=0/\v.ctor∈zaG w t then all2 (zbz w n) (zaB w t v.ctor) v.kids else false
mutual
def cntV (m:Int):Val->Int
 | .mk _ _ ks=>cntL m 1 ks
def cntL (m n:Int):List Val->Int
 | []=>n
 |k::r=>if n<=m then cntL m (n+cntV (m-n) k) r else n
end
theorem zqc {m n:Int}{l:List Val} (h:¬n<=m):cntL m n l=n:=by cases l<;>simp[cntL,h]
mutual
theorem zoE:∀(v:Val) (m:Int),1<=cntV m v/\cntV m v<=v.size
 | .mk _ _ ks,m=>by
  have:=zlE ks m 1 od;simp only[cntV,Val.size];push_cast;omega
theorem zlE:∀(l:List Val) (m n:Int),1<=n->1<=cntL m n l/\cntL m n l<=n+Vals.size l
 | [],m,n,h=>by simp[cntL,Vals.size];omega
 |k::r,m,n,h=>by
  have h1:=zoE k (m-n);have h2:=zlE r m (n+cntV (m-n) k) od;simp only[cntL,Vals.size];split
  ·push_cast;omega
  ·push_cast;omega
end
mutual
theorem zrc:∀(v:Val) (m:Int),(cntV m v<=m↔(v.size:Int)<=m)/\(cntV m v<=m->cntV m v=v.size)
 | .mk _ _ ks,m=>by
  have:=znu ks m 1;simp only[cntV,Val.size];push_cast;exact this
theorem znu:∀(l:List Val) (m n:Int),(cntL m n l<=m↔n+(Vals.size l:Int)<=m)/\(cntL m n l<=m->cntL m n l=n+Vals.size l)
 | [],m,n=>by simp[cntL,Vals.size]
 |k::r,m,n=>by
  have h1:=zrc k (m-n);have h2:=znu r m (n+cntV (m-n) k);have h3:=zlE r m (n+cntV (m-n) k);have h4:=zoE k (m-n);simp only[cntL,Vals.size];push_cast
  by_cases hn:n<=m
  ·rw[if_pos hn];by_cases h5:cntV (m-n) k<=m-n
   ·have h6:=h1.2 h5;rw[h6] at h2 ⊢;constructor
    ·rw[h2.1];constructor<;>intro h<;>omega
    ·intro h;rw[h2.2 h];omega
   ·have h7:¬(k.size:Int)<=m-n:=fun h=>h5 (h1.1.2 h);have h8:¬n+cntV (m-n) k<=m:=by omega
    rw[zqc h8];constructor
    ·constructor<;>intro h<;>omega
    ·intro h;omega
  ·rw[if_neg hn];constructor
   ·constructor<;>intro h<;>omega
   ·intro h;omega
end
theorem Vals.size_split {pre rest l:List Val}{y:Val} (h:pre++y::rest=l):Vals.size l=Vals.size pre+y.size+Vals.size rest:=by
 subst h;induction pre with
 |nil=>simp[Vals.size]
 |cons x r ih=>simp only[xai,Vals.size,ih];omega
def isV (w:List Data) (t:Ty) (v:Val):Bool:=zbz w 10 t v&&decide ((v.size:Int)<=60)
theorem zgV {α β:Type}{f:α->β->Bool}{a:List α}{b:List β} (h:all2 f a b=true):a.length=b.length:=by
 by_cases e:a.length=b.length
 ·exact e
 ·rw[zeV e] at h;exact absurd h og
structure Bd where
 var:Int
 val:Val
def Bd.c (b:Bd):List D:=[.i b.var,.i b.val.ctor,.i b.val.num,zbg b.val.kids]
abbrev zgl (l:List Bd):D:= .sl (l.map Bd.c)
instance:Inhabited Bd:=⟨⟨0,default⟩⟩
def BdOk (m:Nat) (l:List Bd):Prop:=∀x∈l,x.val.ok/\x.val.size<=m
theorem BdOk.app {m:Nat}{a b:List Bd} (h1:BdOk m a) (h2:BdOk m b):BdOk m (a++b):=fun x hx=>by
 rcases List.mem_append.1 hx with h|h
 ·exact h1 x h
 ·exact h2 x h
theorem BdOk.mono {m k:Nat}{a:List Bd} (h:BdOk m a) (hk:m<=k):BdOk k a:=fun x hx=>⟨(h x hx).1,Nat.le_trans (h x hx).2 hk⟩
theorem zto {w:List Data}{t:Ty}{p:Pat} (h:p.op=5):zag w t p=[t,t]:=by unfold zag;rw[if_neg od,if_pos h]
theorem ztp {w:List Data}{t:Ty}{p:Pat} (h:p.op=6):zag w t p=[t]:=by unfold zag;rw[if_neg od,if_neg od,if_pos h]
theorem zqO {w:List Data}{n:Nat}{t:Ty}{p:Pat} (h:zaw w (n+1) t p=true) (h5:p.op=5):p.kids.length=2/\zaw w n t (nth p.kids 0)=true/\zaw w n t (nth p.kids 1)=true:=by
 have hl:=(zck h).2;have h0:=fun i hi=>zcj h (i:=i) hi;rw[zto h5] at hl h0;have hl':p.kids.length=2:=hl;exact⟨hl',h0 0 od,h0 1 od⟩
theorem zqN {w:List Data}{n:Nat}{t:Ty}{p:Pat} (h:zaw w (n+1) t p=true) (h6:p.op=6):p.kids.length=1/\zaw w n t (nth p.kids 0)=true:=by
 have hl:=(zck h).2;have h0:=fun i hi=>zcj h (i:=i) hi;rw[ztp h6] at hl h0;have hl':p.kids.length=1:=hl;exact⟨hl',h0 0 od⟩
theorem zqo {w:List Data}{m:Nat}{t:Ty}{v:Val} (h:zbz w (m+1) t v=true) (hd:t.data≠ -1):v.ctor∈za0 w t/\(zaB w t v.ctor).length=v.kids.length/\∀i,i<v.kids.length->zbz w m (nth (zaB w t v.ctor) i) (nth v.kids i)=true:=by
 unfold zbz at h;rw[if_neg hd] at h;split at h
 ·rename_i hc;have hl:=zgV h;exact⟨by unfold za0;rw[if_neg hd];exact hc.2,hl,fun i hi=>zcI hl h i od⟩
 ·exact absurd h og
def zbB (ls:List (List Val)):List (List Val):=ls.foldl (fun acc l=>acc.flatMap fun o=>l.map fun y=>o++[y]) [[]]
def zfv:List Val:=(List.range 10).map fun(n:Nat)=>Val.mk (-1) n []
def zaC (w:List Data):Nat->Ty->List Val
 |0,_=>[]
 |n+1,t=>if t.data = -1 then zfv else (zaG w t).flatMap fun c=>(zbB ((zaB w t c).map (zaC w n))).map (Val.mk c 0)
def tupV (most:Nat) (ls:List (List Val)):List (List Val):=ls.foldl (fun acc l=>(acc.flatMap fun o=>l.map fun y=>o++[y]).take (most+1)) [[]]
def allV (w:List Data) (most:Nat):Nat->Ty->List Val
 |0,_=>[]
 |n+1,t=>if t.data = -1 then zfv else ((zaG w t).flatMap fun c=>(tupV most ((zaB w t c).map (allV w most n))).map (Val.mk c 0)).take (most+1)
def zbj:List Nat->Nat
 | []=>1
 |a::r=>a*zbj r
theorem zrB (acc:List (List Val)) (l:List Val):(acc.flatMap fun o=>l.map fun y=>o++[y]).length=acc.length*l.length:=by
 induction acc with
 |nil=>simp
 |cons a r ih=>simp only[List.flatMap_cons,xaa,xac,ih,xab,Nat.add_mul];omega
theorem zqq (ls:List (List Val)):∀acc:List (List Val),(ls.foldl (fun acc l=>acc.flatMap fun o=>l.map fun y=>o++[y]) acc).length=acc.length*zbj (ls.map List.length):=by
 induction ls with
 |nil=>intro acc;simp[zbj]
 |cons l r ih=>intro acc;simp only[List.foldl_cons,ih,zrB,xaf,zbj,Nat.mul_assoc]
theorem zfy (ls:List (List Val)):(zbB ls).length=zbj (ls.map List.length):=by unfold zbB;rw[zqq];simp
theorem ziZ (a b:List Nat):zbj (a++b)=zbj a*zbj b:=by
 induction a with
 |nil=>simp[zbj]
 |cons x r ih=>simp only[xai,zbj,ih,Nat.mul_assoc]
theorem zpw {l:List Nat} (h:0∈l):zbj l=0:=by
 induction l with
 |nil=>simp at h
 |cons x r ih=>
  rcases List.mem_cons.1 h with h|h
  ·simp[zbj,<-h]
  ·simp[zbj,ih h]
theorem zmz {l:List Nat} (h:∀x,x∈l->0<x):0<zbj l:=by
 induction l with
 |nil=>simp[zbj]
 |cons x r ih=>exact Nat.mul_pos (h x og) (ih (fun y hy=>h y (List.mem_cons_of_mem _ hy)))
def capN (n:Nat):Nat:=if 401<n then 401 else n
theorem zq6 (a b:Nat):capN (capN a*capN b)=capN (a*b):=by
 have key:∀x y:Nat,401<x->capN (401*capN y)=capN (x*y):=fun x y hx=>by
  rcases Nat.eq_zero_or_pos y with h|h
  ·subst h;simp[capN]
  ·have h1:401*1<=x*y:=Nat.mul_le_mul od h;have h2:1<=capN y:=by unfold capN;split<;>omega
   have h3:401*1<=401*capN y:=Nat.mul_le_mul_left _ h2;have e1:capN (401*capN y)=401:=by
    generalize capN y=z at *;unfold capN;split
    ·rfl
    ·rename_i h4;omega
   have e2:capN (x*y)=401:=by
    unfold capN;split
    ·rfl
    ·rename_i h4;omega
   rw[e1,e2]
 by_cases ha:401<a
 ·have:capN a=401:=by simp[capN,ha]
  rw[this];exact key a b ha
 ·have e1:capN a=a:=by simp[capN,ha]
  by_cases hb:401<b
  ·have:capN b=401:=by simp[capN,hb]
   rw[this,e1,Nat.mul_comm,Nat.mul_comm a b];have:=key b a hb;rw[e1] at this;exact this
  ·have e2:capN b=b:=by simp[capN,hb]
   rw[e1,e2]
theorem zgf (a:Nat):(401<a/\capN a=401)\/(a<=401/\capN a=a):=by unfold capN;split<;>omega
theorem zq5 (a b:Nat):capN (capN a+capN b)=capN (a+b):=by
 have h1:=zgf a;have h2:=zgf b;have h3:=zgf (a+b);have h4:=zgf (capN a+capN b);omega
theorem zoy (n:Nat):cap (n:Int)=(capN n:Int):=by unfold cap capN;split<;>split<;>omega
theorem znx {f:Ty->Int}{g:Ty->Nat} (h:∀t,f t=(capN (g t):Int)) (l:List Ty):zen f l=(capN (zbj (l.map g)):Int):=by
 have key:∀(l:List Ty) (m:Nat),l.foldl (fun n a=>cap (n*f a)) (capN m:Int)=(capN (m*zbj (l.map g)):Int):=by
  intro l;induction l with
  |nil=>intro m;simp[zbj]
  |cons a r ih=>
   intro m;simp only[List.foldl_cons,xaf,zbj];rw[h a];have:cap ((capN m:Int)*(capN (g a):Int))=(capN (m*g a):Int):=by
    rw[<-Int.natCast_mul,zoy,zq6]
   rw[this,ih,Nat.mul_assoc]
 have:=key l 1;simpa [zen,capN] using this
theorem zon {f:Int->Int}{g:Int->Nat} (h:∀c,f c=(capN (g c):Int)) (l:List Int):zed f l=(capN ((l.map g).sum):Int):=by
 have key:∀(l:List Int) (m:Nat),l.foldl (fun s c=>cap (s+f c)) (capN m:Int)=(capN (m+(l.map g).sum):Int):=by
  intro l;induction l with
  |nil=>intro m;simp
  |cons a r ih=>
   intro m;simp only[List.foldl_cons,xaf,List.sum_cons];rw[h a];have:cap ((capN m:Int)+(capN (g a):Int))=(capN (m+g a):Int):=by
    rw[<-Int.natCast_add,zoy,zq5]
   rw[this,ih,Nat.add_assoc]
 have:=key l 0;simpa [zed,capN] using this
theorem zjM {α β:Type} (f:α->List β) (l:List α):(l.flatMap f).length=(l.map fun a=>(f a).length).sum:=by
 induction l with
 |nil=>rfl
 |cons a r ih=>simp[ih]
theorem zeo (w:List Data):∀(n:Nat) (t:Ty),zbh w n t=(capN (zaC w n t).length:Int)
 |0,t=>by simp[zbh,zaC,capN]
 |n+1,t=>by
  unfold zbh zaC;split
  ·simp[zfv,capN]
  ·rw[zon (g:=fun c=>((zbB ((zaB w t c).map (zaC w n))).map (Val.mk c 0)).length) (fun c=>?_),zjM];rw[znx (g:=fun t=>(zaC w n t).length) (fun t=>zeo w n t),xac,zfy,List.map_map];rfl
theorem zdz {w:List Data}{n:Nat}{t:Ty} (h:zbh w n t<=400):((zaC w n t).length:Int)=zbh w n t:=by
 rw[zeo] at h ⊢;unfold capN at *;split at h
 ·omega
 ·rename_i h1;simp[h1]
theorem zkD {w:List Data}{n:Nat}{t:Ty}:zbh w n t=0↔zaC w n t=[]:=by
 rw[zeo,<-List.length_eq_zero_iff];unfold capN;split<;>omega
theorem zqG {w:List Data}{n:Nat}{l:List Ty} (h:(l.any fun a=>decide (zbh w n a=0))=true):zbB (l.map (zaC w n))=[]:=by
 rw[<-List.length_eq_zero_iff,zfy];obtain⟨a,ha,h0⟩:=List.any_eq_true.1 h;refine zpw ?_;simp only[List.map_map,List.mem_map];refine⟨a,ha, ?_⟩;have:=zkD.1 (xas h0);simp[this]
theorem zrq {w:List Data}{n:Nat}{t:Ty} (ht:t.data≠ -1) (hc:zbh w (n+1) t<=400){c:Int} (hm:c∈zaG w t){pre rest:List Ty}{y:Ty} (he:pre++y::rest=zaB w t c)
  (h0:((zaB w t c).any fun a=>decide (zbh w n a=0))=false):(zbB ((pre++[y]).map (zaC w n))).length<=400/\(zaC w n y).length<=400/\(zbB (pre.map (zaC w n))).length<=400:=by
 have h1:=zdz hc;have h2:(zbB ((zaB w t c).map (zaC w n))).length<=(zaC w (n+1) t).length:=by
  have e:zaC w (n+1) t=(zaG w t).flatMap fun c=>(zbB ((zaB w t c).map (zaC w n))).map (Val.mk c 0):=by rw[zaC,if_neg ht]
  obtain⟨l1,l2,hl⟩:=List.append_of_mem hm;rw[e,hl];simp;omega
 have hpos:∀a,a∈zaB w t c->0<(zaC w n a).length:=fun a ha=>by
  have:=(List.any_eq_false.1 h0) a ha;simp only[xah] at this;have h3:zaC w n a≠[]:=fun h=>this (zkD.2 h);exact List.length_pos_iff.2 h3
 have h3:(zbB ((zaB w t c).map (zaC w n))).length=zbj ((pre.map fun a=>(zaC w n a).length))*((zaC w n y).length*zbj (rest.map fun a=>(zaC w n a).length)):=by
  rw[zfy,<-he];simp only[xag,xaf,List.map_map,ziZ,zbj];rfl
 have h4:(zbB ((pre++[y]).map (zaC w n))).length=zbj (pre.map fun a=>(zaC w n a).length)*(zaC w n y).length:=by
  rw[zfy];simp only[xag,xaf,List.map_nil,List.map_map,ziZ,zbj,Nat.mul_one];rfl
 have p1:0<zbj (rest.map fun a=>(zaC w n a).length):=zmz (fun x hx=>by
  obtain⟨a,ha,rfl⟩:=List.mem_map.1 hx;exact hpos a (by rw[<-he];simp[ha]))
 have p2:0<zbj (pre.map fun a=>(zaC w n a).length):=zmz (fun x hx=>by
  obtain⟨a,ha,rfl⟩:=List.mem_map.1 hx;exact hpos a (by rw[<-he];simp[ha]))
 have h5:zbj (pre.map fun a=>(zaC w n a).length)*(zaC w n y).length<=zbj ((pre.map fun a=>(zaC w n a).length))*((zaC w n y).length*zbj (rest.map fun a=>(zaC w n a).length)):=by
  rw[<-Nat.mul_assoc];exact Nat.le_mul_of_pos_right _ p1
 have h6:(zaC w n y).length<=zbj (pre.map fun a=>(zaC w n a).length)*(zaC w n y).length:=Nat.le_mul_of_pos_left _ p2;have h7:zbj (pre.map fun a=>(zaC w n a).length)<=zbj (pre.map fun a=>(zaC w n a).length)*(zaC w n y).length:=Nat.le_mul_of_pos_right _ (hpos y (by rw[<-he];simp));have h8:(zbB (pre.map (zaC w n))).length=zbj (pre.map fun a=>(zaC w n a).length):=by rw[zfy,List.map_map];rfl
 omega
theorem zgz {α β:Type} (m:Nat) (f:α->List β):∀l:List α,(l.flatMap fun a=>(f a).take m).take m=(l.flatMap f).take m
 | []=>rfl
 |a::r=>by
  simp only[List.flatMap_cons,List.take_append,List.take_take,Nat.min_self,List.length_take];by_cases h:m<=(f a).length
  ·have e1:m-min m (f a).length=0:=by omega
   have e2:m-(f a).length=0:=by omega
   rw[e1,e2];simp
  ·have e1:min m (f a).length=(f a).length:=by omega
   rw[e1];congr 1

   have key:∀(m':Nat),m'<=m->(r.flatMap fun a=>(f a).take m).take m'=(r.flatMap f).take m':=fun m' hm'=>by
    have:=xam (List.take m') (zgz m f r);rwa [List.take_take,List.take_take,Nat.min_eq_left hm'] at this
   exact key _ od
theorem zhq {α β:Type} (m:Nat) (f:α->List β) (hf:∀a,0<(f a).length):∀(l:List α),((l.take m).flatMap f).take m=(l.flatMap f).take m
 | []=>by simp
 |a::r=>by
  cases m with
  |zero=>simp
  |succ m=>
   simp only[List.take_succ_cons,List.flatMap_cons,List.take_append];congr 1
   have key:∀(m':Nat),m'<=m->((r.take m).flatMap f).take m'=(r.flatMap f).take m':=fun m' hm'=>by
    have:=xam (List.take m') (zhq m f hf r);rwa [List.take_take,List.take_take,Nat.min_eq_left hm'] at this
   exact key _ (by have:=hf a;omega)
theorem zqR (m:Nat) (acc:List (List Val)) (l:List Val):(((acc.take m).flatMap fun o=>(l.take m).map fun y=>o++[y])).take m=(acc.flatMap fun o=>l.map fun y=>o++[y]).take m:=by
 have h1:∀a:List (List Val),((a.flatMap fun o=>(l.take m).map fun y=>o++[y])).take m=(a.flatMap fun o=>l.map fun y=>o++[y]).take m:=fun a=>by
  have:=zgz m (fun o:List Val=>l.map fun y=>o++[y]) a;simpa [List.map_take] using this
 rw[h1];by_cases hl:l=[]
 ·subst hl;simp only[List.map_nil];have e:∀a:List (List Val),(a.flatMap fun _=>([]:List (List Val)))=[]:=fun a=>by simp
  rw[e,e]
 ·exact zhq m _ (fun o=>by simpa using List.length_pos_iff.2 hl) acc
theorem zsr (m:Nat) (ls:List (List Val)):tupV m (ls.map (List.take (m+1)))=(zbB ls).take (m+1):=by
 unfold tupV zbB;have key:∀(ls acc:List (List Val)),(ls.map (List.take (m+1))).foldl (fun acc l=>(acc.flatMap fun o=>l.map fun y=>o++[y]).take (m+1)) (acc.take (m+1))=(ls.foldl (fun acc l=>acc.flatMap fun o=>l.map fun y=>o++[y]) acc).take (m+1):=by
  intro ls;induction ls with
  |nil=>intro acc;rfl
  |cons l r ih=>intro acc;simp only[xaf,List.foldl_cons,zqR];exact ih _
 have:=key ls [[]];simpa using this
theorem zji (w:List Data) (m:Nat) (hm:9<=m):∀(n:Nat) (t:Ty),allV w m n t=(zaC w n t).take (m+1)
 |0,t=>by simp[allV,zaC]
 |n+1,t=>by
  unfold allV zaC;split
  ·rw[List.take_of_length_le (by simp[zfv];omega)]
  ·have e:∀c,tupV m ((zaB w t c).map (allV w m n))=(zbB ((zaB w t c).map (zaC w n))).take (m+1):=fun c=>by
    rw[<-zsr,List.map_map];congr 1
    exact List.map_congr_left (fun a _=>zji w m hm n a)
   simp only[e,List.map_take];exact zgz (m+1) (fun c=>(zbB ((zaB w t c).map (zaC w n))).map (Val.mk c 0)) _
theorem ztn (m:Nat) (ls:List (List Val)) (acc:List (List Val)) (h:acc.length<=m+1):(ls.foldl (fun acc l=>(acc.flatMap fun o=>l.map fun y=>o++[y]).take (m+1)) acc).length<=m+1:=by
 induction ls generalizing acc with
 |nil=>exact h
 |cons l r ih=>exact ih _ ot
theorem zm9 (w:List Data) (m:Nat) (hm:9<=m) (n:Nat) (t:Ty):(allV w m n t).length<=m+1:=by
 rw[zji w m hm];simp;omega
theorem xbe (l:List Val):Val.cs l=l.map Val.cc:=by
 rw[xbf];exact List.map_congr_left (fun v _=>xbc v)
theorem zii {xs:List Val} (hs:xs.length<=1000000000000):FnD Tryz.prog 160 [.d (zbg xs)] [] (.gl 77 (Val.cs xs)) [(77,some (.tok (Val.cs xs).length 3))]:=by
 refine Fn.body (fn:=Tryz.f160) (n:=8) Z Z Z Z Z (fun _ _ _ _ hk=>?_);refine xaH 0 Z (fun hx0=>?_) ?_;refine evc [2,4] [] (asg ?_);apply tv;refine xbC sl99 .none Z Z ?_;apply tv;refine sqT ?_;refine xbs 77 3 .none Z Z ?_;apply tv;refine rn [(77,some (.tok (Val.cs xs).length 3))] (r1 Z) (.glg ?_) ⟨Z,Z⟩ (SubH.get ⟨?_,I⟩) (zaX Z);rotate_left 2;refine evc [2,4] [] (asg ?_);apply tv;refine xbB sl99 .none Z Z ?_;apply tv;refine sqF ?_;refine xbX 77 sl99 .none Z Z (evs [2,4] [] (ap sl99 zdr Z Z Z (by intro y hy;rw[xbe] at hy;obtain⟨z,_,rfl⟩:=List.mem_map.1 hy;rfl) (by simp[xbg];omega) ?_));refine asg ?_;apply tv;refine rn [(77,some (.tok (Val.cs xs).length 3))] (r1 Z) (.glg ?_) ⟨Z,Z⟩ (SubH.get ⟨?_,I⟩) (zaX Z);rotate_left 2;all_goals (first|((first|rfl|exact hx0.symm|(simp;done));done)|(first|rfl|(simp[hx0];rfl)|(simp;rfl)))
theorem zeg:∀(n:Nat){v:Val},v.size<=n->v.ok->FnD Tryz.prog 103 [.agg [.d (.i v.ctor),.d (.i v.num),.d (zbg v.kids)]] [] (.agg [.d (.i v.ctor),.d (.i v.num),.d (zbg v.kids)]) []
 |0,v,h,_=>by rw[xbi] at h;omega
 |n+1,v,h,hok=>by
  rw[xbi] at h;rw[xbh] at hok;have hok1:=hok.1;refine bd Tryz.f103 27 [] [] fun _ _ _ _ hk=>?_;refine bx 3001 ?_;refine ab 3002 zbM ?_;apply tv;refine bu [0,1] [_,_] zf9 ?_;refine ab 3003 zbM ?_;refine so zb6 ?_;apply tv;refine CWp.tokB 3003 2 7 3 Z Z Z Z (xaD (ι:=List (Val)×List (Val)) hk (fun x=>[(14,.d (.i (x.1.length:Int)))]) [5,15,16,17,18,19,20,21,22,23,24,25] (fun x=>[(3003,some (.box [.d (.i v.ctor),.d (.i v.num),.gl 7 (x.1.map Val.cc)])),(7,some (.tok (x.1.map Val.cc).length 3))]) (fun x=>x.1++x.2=v.kids) (fun x=>x.2.length) ([],v.kids) og ⟨⟨_,Z,xaQ ?_⟩,I⟩ ⟨?_,⟨zac ?_,I⟩⟩ (fun x=>rfl) (fun x hg1=>?_));focus (rfl)
  focus (first|rfl|(simp[getH];done))
  focus (rfl)
  obtain⟨pre,rest⟩:=x;dsimp only at hg1 ⊢;refine evc [] [] ?_;apply sq<;>intro h1 h1p h1s<;>(try simp only[Q,xbg] at h1p);rcases rest with _|⟨y,rest⟩
  ·exfalso;simp_all
  refine ixq sl99 Z Z Z (xbd hg1) Z (ev (ab 3005 zbM ?_));refine so zb6 ?_;apply tv;refine wc znj (zeg n (v:=y) (by have:=xbl (l:=v.kids) (v:=y) (by rw[<-hg1];simp);omega) (xbj hok.2 y (by rw[<-hg1];simp))) Z Z ?_;refine si [0] [_] sl99 zbM ?_;refine ap sl99 zdr Z Z Z og (by have:=xam List.length hg1;simp at this;simp;omega) ?_;refine evd [] [] (so ty99 ?_);refine dr (ar (xaj ((pre++[y],rest)) ⟨(by have hz:=hg1;rw[<-hz];simp),og,sx ⟨⟨_,Z,xaQ ?_⟩,I⟩ ⟨?_,⟨zac ?_,I⟩⟩⟩));focus ((simp;done))
  focus (first|rfl|(simp[getH];done))
  focus ((simp;done))
  have hrest:rest=[]:=by
   rcases rest with _|⟨a,b⟩
   ·rfl
   ·exfalso;have hz:=xam List.length (hg1);simp only[xaa,xab,xac] at hz;omega
  subst hrest;refine so zb6 ?_;apply tv;refine rn0 (ra zb6) (.agg (qeeg ?_ ?_ ?_));rotate_left 3;all_goals (first|rfl|(rw[xaq] at hg1;rw[<-hg1,xbe];done))
theorem ze8:∀(n:Nat){v:Val},v.size<=n->v.ok->FnD Tryz.prog 88 [.agg [.d (.i v.ctor),.d (.i v.num),.d (zbg v.kids)]] [] (.agg [.d (.i v.ctor),.d (.i v.num),.d (zbg v.kids)]) []
 |0,v,h,_=>by rw[xbi] at h;omega
 |n+1,v,h,hok=>by
  rw[xbi] at h;rw[xbh] at hok;have hok1:=hok.1;refine bd Tryz.f88 29 [] [] fun _ _ _ _ hk=>?_;refine bx 3001 ?_;refine ab 3002 zbM ?_;apply tv;refine bu [0,1] [_,_] zf9 ?_;refine ab 3003 zbM ?_;refine so zb6 ?_;apply tv;refine CWp.tokB 3003 2 7 3 Z Z Z Z (xaD (ι:=List (Val)×List (Val)) hk (fun x=>[(4,.d (.i (x.1.length:Int)))]) [10,11,12,13,14,15,16,17,18,19,20,21,22,23,24,25,26,27] (fun x=>[(3003,some (.box [.d (.i v.ctor),.d (.i v.num),.gl 7 (x.1.map Val.cc)])),(7,some (.tok (x.1.map Val.cc).length 3))]) (fun x=>x.1++x.2=v.kids) (fun x=>x.2.length) ([],v.kids) og ⟨⟨_,Z,xaQ ?_⟩,I⟩ ⟨?_,⟨zac ?_,I⟩⟩ (fun x=>rfl) (fun x hg1=>?_));focus (first|rfl|(simp;done)|(simp_all;done)|omega|(simp;omega))
  focus (first|rfl|(simp[getH];done))
  focus (first|rfl|(simp;done)|(simp_all;done)|omega|(simp;omega))
  obtain⟨pre,rest⟩:=x;dsimp only at hg1 ⊢;refine evc [] [] ?_;apply sq<;>intro h1 h1p h1s<;>(try simp only[Q,xbg] at h1p);rcases rest with _|⟨y,rest⟩
  ·exfalso;simp_all
  refine ixq sl99 Z Z Z (xbd hg1) Z (evd [] [] (wc zph (ze8 n (v:=y) (by have:=xbl (l:=v.kids) (v:=y) (by rw[<-hg1];simp);omega) (xbj hok.2 y (by rw[<-hg1];simp))) Z Z ?_));refine si [0] [_] sl99 zbM ?_;refine ap sl99 zdr Z Z Z og (by have:=xam List.length hg1;simp at this;simp;omega) ?_;refine evd [] [] (so ty99 ?_);refine dr (ar (xaj ((pre++[y],rest)) ⟨(by have hz:=hg1;rw[<-hz];simp),og,sx ⟨⟨_,Z,xaQ ?_⟩,I⟩ ⟨?_,⟨zac ?_,I⟩⟩⟩));focus (first|rfl|(simp;done)|(simp_all;done)|omega|(simp;omega))
  focus (first|rfl|(simp[getH];done))
  focus (first|rfl|(simp;done)|(simp_all;done)|omega|(simp;omega))
  have hrest:rest=[]:=by
   rcases rest with _|⟨a,b⟩
   ·rfl
   ·exfalso;have hz:=xam List.length (hg1);simp only[xaa,xab,xac] at hz;omega
  subst hrest;refine so zb6 ?_;apply tv;refine rn0 (ra zb6) (.agg (qeeg ?_ ?_ ?_));rotate_left 3;all_goals (first|rfl|(rw[xaq] at hg1;rw[<-hg1,xbe];done))
def zd5 (w:List Data) (n:Nat) (t:Ty) (c:Int):List Val:=(zbB ((zaB w t c).map (zaC w n))).map (Val.mk c 0)
theorem ziv (w:List Data) (n:Nat) (t:Ty) (c:Int):(zbB ((zaB w t c).map (zaC w n))).length=(zd5 w n t c).length:=by unfold zd5;simp
theorem zjN {w:List Data}{n:Nat}{t:Ty} (ht:t.data≠ -1):zaC w (n+1) t=(zaG w t).flatMap (zd5 w n t):=by rw[zaC,if_neg ht];rfl
theorem zpm {w:List Data}{n:Nat}{t:Ty}{c:Int} (h:((zaB w t c).any fun a=>decide (zbh w n a=0))=true):zd5 w n t c=[]:=by
 unfold zd5;rw[zqG h];rfl
theorem zsn {w:List Data}{n:Nat}{t:Ty} (ht:t.data≠ -1) (hc:zbh w (n+1) t<=400){pre rest:List Int}{c:Int} (he:pre++c::rest=zaG w t):
  (pre.flatMap (zd5 w n t)).length+(zd5 w n t c).length<=400:=by
 have h:=zdz hc;rw[zjN ht,<-he] at h;simp at h;have h2:(pre.flatMap (zd5 w n t)).length=(pre.map fun a=>(zd5 w n t a).length).sum:=zjM _ _;omega
theorem zmy:∀ {ls:List (List Val)}{o:List Val},o∈zbB ls->o.length=ls.length:=by
 intro ls;have key:∀(ls acc:List (List Val)) (m:Nat),(∀o∈acc,o.length=m)->∀o∈ls.foldl (fun acc l=>acc.flatMap fun o=>l.map fun y=>o++[y]) acc,o.length=m+ls.length:=by
  intro ls;induction ls with
  |nil=>intro acc m h o ho;exact h o ho
  |cons l r ih=>
   intro acc m h o ho;have:=ih _ (m+1) (fun o' ho'=>by
    simp only[List.mem_flatMap,List.mem_map] at ho';obtain⟨p,hp,q,_,rfl⟩:=ho';simp[h p hp]) o ho
   simp only[xab];omega
 intro o ho;have:=key ls [[]] 0 og o ho;simpa using this
theorem zrl {c:Int}{ls:List (List Val)}{v:Val} (h:v∈(zbB ls).map (Val.mk c 0)):v.kids.length=ls.length:=by
 obtain⟨o,ho,rfl⟩:=List.mem_map.1 h;exact zmy ho
def zd7 (c:Int) (kids:List Val) (v:Val):List Val:=kids.map fun q=>Val.mk c 0 (v.kids++[q])
theorem ziD (c:Int) (ls:List (List Val)) (l:List Val):((zbB ls).map (Val.mk c 0)).flatMap (zd7 c l)=(zbB (ls++[l])).map (Val.mk c 0):=by
 unfold zbB;rw[List.foldl_append];generalize ls.foldl (fun acc l=>acc.flatMap fun o=>l.map fun y=>o++[y]) [[]]=acc;simp only[List.foldl_cons,List.foldl_nil,List.flatMap_map,List.map_flatMap,List.map_map];rfl
theorem zrn {c:Int}{L K pre3 rest3 pre4 rest4:List Val}{v q:Val}{N:Nat} (h3:pre3++v::rest3=L) (h4:pre4++q::rest4=K) (hN:(L.flatMap (zd7 c K)).length<=N):
  (pre3.flatMap (zd7 c K)++pre4.map fun q=>Val.mk c 0 (v.kids++[q])).length+1<=N:=by
 subst h3;have e:((pre3++v::rest3).flatMap (zd7 c K)).length=(pre3.flatMap (zd7 c K)).length+(K.length+(rest3.flatMap (zd7 c K)).length):=by simp[zd7]
 have e2:K.length=pre4.length+(rest4.length+1):=by rw[<-h4];simp
 simp only[xaa,xac] at *;omega
theorem zj7 {w:List Data} (hw:WT w){n:Nat}{m:Int} (hm:m=n+1) (hn:n<=1000){a k:Int} (ht:TyIn w.length ⟨a,k⟩):
  FnD Tryz.prog 159 [.agg [.d (.i a),.d (.i k)],.ref 3003 0,.ref 3005 0] [(3003,some (.box [.d (zap w)])),(3005,some (.box [.d (.i m)]))] (.d (.bool (decide (zbh w n ⟨a,k⟩=0)))) []:=by
 refine bd Tryz.f159 11 [] [] fun _ _ _ _ hk=>?_;refine bx 3103 ?_;refine ev (ar (wc zni (zdh hw n od hn ht) Z Z ?_));refine ev ?_;focus (refine rn [] (r1 Z) (.eqd ?_) ⟨Z,Z⟩ (SubH.get ⟨Z,⟨Z,I⟩⟩) (fun _ h=>h);all_goals ((simp[];done)))
theorem o7{p:Prop}(h:p:=by intro z hz;first|(obtain⟨_,_,rfl⟩:=List.mem_map.1 hz;rfl)|(simp at hz;rw[hz];rfl)):p:=h
theorem zhm {w:List Data} (hw:WT w):∀(n:Nat){a k m:Int},m=n->n<=1000->TyIn w.length ⟨a,k⟩->zbh w n ⟨a,k⟩<=400->
  FnD Tryz.prog 102 [.d (zap w),.agg [.d (.i a),.d (.i k)],.d (.i m)] [] (.d (zbg (zaC w n ⟨a,k⟩))) []
 |0,a,k,m,hm,_,_,_=>by
  refine bd Tryz.f102 97 [7] [] fun _ _ _ _ hk=>?_;refine bx 3003 ?_;refine bx 3004 ?_;refine bx 3005 ?_;refine evs [7] [] (xbs 1 3 .none Z Z ?_);apply tv;apply sq<;>intro h1 h1p h1s<;>(try simp only[Q] at h1p);refine rn0 (r1 Z) (.nild ?_);rotate_left;exfalso;simp at h1;omega;all_goals (rfl)
 |n+1,a,k,m,hm,hn,ht,hc=>by
  rcases ht with ha|⟨d,hd,hlt⟩
  ·have ha':a = -1:=ha;subst ha';refine bd Tryz.f102 97 [7] [] fun _ _ _ _ hk=>?_;refine bx 3003 ?_;refine bx 3004 ?_;refine bx 3005 ?_;refine evs [7] [] (xbs 1 3 .none Z Z ?_);apply tv;apply sq<;>intro h1 h1p h1s<;>(try simp only[Q] at h1p);exfalso;simp at h1;omega;apply sq<;>intro h2 h2p h2s<;>(try simp only[Q] at h2p);refine xaD (ι:=Nat) hk (fun i=>[(26,.d (.i (i:Int))),(7,.gl 1 (((List.range i).map fun(n:Nat)=>Val.mk (-1) n []).map Val.cc))]) [8,27,28,29,30,31,32,33,34] (fun i=>[(1,some (.tok ((((List.range i).map fun(n:Nat)=>Val.mk (-1) n []).map Val.cc)).length 3))]) (fun i=>i<=10) (fun i=>10-i) 0 og ⟨⟨_,Z,xaQ ?_⟩,⟨⟨_,Z,LeA.glg ?_⟩,I⟩⟩ ⟨zac ?_,I⟩ (fun x=>rfl) (fun i hg1=>?_);iterate 3 focus ((simp[List.range_succ,Val.ctor,Val.num,Val.kids];done))
   refine evc [7] [] ?_;apply sq<;>intro h3 h3p h3s<;>(try simp only[Q] at h3p);refine wc zsP zlM Z Z ?_;refine si [0] [_] sl99 zbM ?_;refine ap sl99 zdr Z Z Z og ot ?_;refine asg ?_;apply tv;refine ar (xaj (i+1) ⟨?_, ?_,sx ⟨⟨_,Z,xaQ ?_⟩,⟨⟨_,Z,LeA.glg ?_⟩,I⟩⟩ ⟨zac ?_,I⟩⟩);iterate 2 focus (first|omega|(simp_all;done))
   iterate 3 focus ((simp[List.range_succ,Val.ctor,Val.num,Val.kids];done))
   refine rn0 (r1 Z) (.gld ?_);rotate_left;exact absurd h2 og;all_goals (have e:i=10:=od;subst e;rw[zaC,if_pos rfl,xbe];rfl)
  have hd':a=(d:Int):=hd;subst hd';have hne:(⟨d,k⟩:Ty).data≠ -1:=by show(d:Int)≠ -1;omega
  have hcl:=zdX hw (d:=d) (k:=k);refine bd Tryz.f102 97 [7,16] [] fun _ _ _ _ hk=>?_;refine bx 3003 ?_;refine bx 3004 ?_;refine bx 3005 ?_;refine evs [7,16] [] (xbs 1 3 .none Z Z ?_);apply tv;apply sq<;>intro h1 h1p h1s<;>(try simp only[Q,xbg,xa9] at h1p);exfalso;simp at h1;omega;apply sq<;>intro h2 h2p h2s<;>(try simp only[Q,xbg,xa9] at h2p);exfalso;simp at h2<;>omega;refine wc zkv (zeA hw hlt) Z Z ?_;refine evs [7,16] [] (xaD (ι:=List (Int)×List (Int)) hk (fun x=>[(40,.d (.i (x.1.length:Int))),(7,.gl 1 ((x.1.flatMap (zd5 w n ⟨d,k⟩)).map Val.cc))]) [10,11,12,14,15,16,18,20,41,42,43,44,45,46,47,48,49,50,51,52,53,54,55,56,57,58,59,60,61,62,63,64,65,66,67,68,69,70,71,72,73,74,75,76,77,78,79,80,81,82,83,84,85,86,87,88,89,90,91,92,93,94,95] (fun x=>[(1,some (.tok (((x.1.flatMap (zd5 w n ⟨d,k⟩)).map Val.cc)).length 3))]) (fun x=>x.1++x.2=zaG w ⟨d,k⟩) (fun x=>x.2.length) ([],zaG w ⟨d,k⟩) og ⟨⟨_,Z,xaQ ?_⟩,⟨⟨_,Z,LeA.glg ?_⟩,I⟩⟩ ⟨zac ?_,I⟩ (fun x=>rfl) (fun x hg2=>?_));iterate 3 focus ((simp;done))
  obtain⟨pre,rest⟩:=x;dsimp only at hg2 ⊢;refine evc [7,16] [] ?_;apply sq<;>intro h3 h3p h3s<;>(try simp only[Q,xbg,xa9] at h3p);rcases rest with _|⟨c,rest⟩
  ·exfalso;simp_all
  have hal:=zc3 hw hlt (k:=k) (zbF (k:=k) (c:=c) (by rw[<-hg2];simp));have hpre:=zsn hne hc hg2;refine ixq sl37 Z Z Z (zaL hg2) Z (evs [7,16] [] (wc zno (zef hw hlt (zbF (k:=k) (c:=c) (by rw[<-hg2];simp))) Z Z ?_));refine evs [7,16] [] (xbz (xs:=[_,_]) Z .none Z Z (Walk.call (cr:=[]) zpV (zdo (p:=fun t=>decide (zbh w n t=0)) hal zsQ (fun t ht=>zj7 hw (n:=n) od od (zds hw hlt (k:=k) (zbF (k:=k) (c:=c) (by rw[<-hg2];simp)) ht)) ⟨Z,Z,I⟩ Z Z) Z .none Z Z (LeL.refl _) ⟨Z,Z,I⟩ Z Z Z ?_));apply tv;apply sq<;>intro h4 h4p h4s<;>(try simp only[Q,xbg,xa9] at h4p);refine ar (xaj ((pre++[c],rest)) ⟨(by have hz:=hg2;rw[<-hz];simp),og,sx ⟨⟨_,Z,xaQ ?_⟩,⟨⟨_,Z,LeA.glg ?_⟩,I⟩⟩ ⟨zac ?_,I⟩⟩);iterate 3 focus (first|(simp;done)|(rw[List.flatMap_append,xag];simp[zpm,h1s,h1p,h2s,h2p,h3s,h3p,h4s,h4p];done))
  refine bu [0] [_] zf9 ?_;refine xbZ 2 sl99 zbM Z oj (ks:=[0]) (xs:=[_]) Z Z oj oj .none Z Z Z Z Z ?_;refine evs [7,16] [] (xaD (ι:=List (Ty)×List (Ty)) hk (fun x=>[(56,.d (.i (x.1.length:Int))),(12,.d (.sl (((zbB (x.1.map (zaC w n))).map (Val.mk c 0)).map Val.cc)))]) [14,15,16,18,20,57,58,59,60,61,62,63,64,65,66,67,68,69,70,71,72,73,74,75,76,77,78,79,80,81,82,83,84,85,86,87,88,89,90,91] (fun x=>[]) (fun x=>x.1++x.2=zaB w ⟨d,k⟩ c) (fun x=>x.2.length) ([],zaB w ⟨d,k⟩ c) og ⟨⟨_,Z,xaQ ?_⟩,⟨⟨_,Z, ?_⟩,I⟩⟩ I (fun x=>rfl) (fun x hg3=>?_));focus ((simp;done))
  focus (((first|refine LeA.gld ?_|refine LeA.nild ?_);first|rfl|(simp;done)|(rw[xaq] at hg4;rw[hg4,ziD,xag];rfl)))
  obtain⟨pre2,rest2⟩:=x;dsimp only at hg3 ⊢;refine evc [7,16] [] ?_;apply sq<;>intro h5 h5p h5s<;>(try simp only[Q,xbg,xa9] at h5p);rcases rest2 with _|⟨y,rest2⟩
  ·exfalso;simp_all
  have hpl:=zrq hne hc (c:=c) (by rw[<-hg2];simp) hg3 ol;refine ixq za3 Z Z Z (zaL hg3) Z (evs [7,16] [] (ab 3014 tz29 ?_));refine so ty29 ?_;apply tv;refine ar (wc zpS (zhm hw n (a:=y.data) (k:=y.index) od od (zds hw hlt (k:=k) (zbF (k:=k) (c:=c) (by rw[<-hg2];simp)) (t:=y) (by rw[<-hg3];simp)) (by have e:=zdz (w:=w) (n:=n) (t:=y);have e2:=zeo w n y;have h3:=hpl.2.1;unfold capN at e2;split at e2<;>simp only[xa9] at * <;>omega)) Z Z ?_);refine evs [7,16] [] (xbs 3 3 .none Z Z ?_);apply tv;refine xaD (ι:=List (Val)×List (Val)) hk (fun x=>[(67,.d (.i (x.1.length:Int))),(16,.gl 3 ((x.1.flatMap (zd7 c (zaC w n y))).map Val.cc))]) [18,20,68,69,70,71,72,73,74,75,76,77,78,79,80,81,82,83,84,85,86,87,88,89] (fun x=>[(3,some (.tok (((x.1.flatMap (zd7 c (zaC w n y))).map Val.cc)).length 3))]) (fun x=>x.1++x.2=(zbB (pre2.map (zaC w n))).map (Val.mk c 0)) (fun x=>x.2.length) ([],(zbB (pre2.map (zaC w n))).map (Val.mk c 0)) og ⟨⟨_,Z,xaQ ?_⟩,⟨⟨_,Z,LeA.glg ?_⟩,I⟩⟩ ⟨zac ?_,I⟩ (fun x=>rfl) (fun x hg4=>?_);iterate 3 focus ((simp;done))
  obtain⟨pre3,rest3⟩:=x;dsimp only at hg4 ⊢;refine evc [7,16] [] ?_;apply sq<;>intro h6 h6p h6s<;>(try simp only[Q,xbg,xa9] at h6p);rcases rest3 with _|⟨v,rest3⟩
  ·exfalso;simp_all
  have hvk:=zrl (v:=v) (by rw[<-hg4];simp);rw[xac] at hvk;refine ixq sl99 Z Z Z (zaL hg4) Z (evs [7,16] [] (ab 3018 zbM ?_));refine so zb6 ?_;apply tv;refine xaD (ι:=List (Val)×List (Val)) hk (fun x=>[(73,.d (.i (x.1.length:Int))),(16,.gl 3 ((pre3.flatMap (zd7 c (zaC w n y))++x.1.map fun q=>Val.mk c 0 (v.kids++[q])).map Val.cc))]) [20,74,75,76,77,78,79,80,81,82,83,84,85,86,87,88] (fun x=>[(3,some (.tok (((pre3.flatMap (zd7 c (zaC w n y))++x.1.map fun q=>Val.mk c 0 (v.kids++[q])).map Val.cc)).length 3))]) (fun x=>x.1++x.2=zaC w n y) (fun x=>x.2.length) ([],zaC w n y) og ⟨⟨_,Z,xaQ ?_⟩,⟨⟨_,Z,LeA.glg ?_⟩,I⟩⟩ ⟨zac ?_,I⟩ (fun x=>rfl) (fun x hg5=>?_);iterate 3 focus ((simp;done))
  obtain⟨pre4,rest4⟩:=x;dsimp only at hg5 ⊢;refine evc [7,16] [] ?_;apply sq<;>intro h7 h7p h7s<;>(try simp only[Q,xbg,xa9] at h7p);rcases rest4 with _|⟨q,rest4⟩
  ·exfalso;simp_all
  have hml:=zrn hg4 hg5 (N:=400) (by rw[ziD,xac];have:=hpl.1;rwa [xag] at this);refine ixq sl99 Z Z Z (xbd hg5) Z (evs [7,16] [] (ab 3020 zbM ?_));refine so zb6 ?_;apply tv;refine Walk.call (cr:=[77]) zsR (zii (xs:=v.kids) od) Z .none Z Z (LeL.refl _) I Z Z Z ?_;refine evd [7,16] [] (si [0] [_] sl99 zbM ?_);refine ap sl99 zdr Z Z Z o7 (by first|(simp only[xac,xaa,xab,xak,xbg] at *;omega)|(rw[xaq] at hg3;rw[hg3];have h10:=ziv w n ⟨d,k⟩ c;simp only[xac];omega)) ?_;refine bu [0,2] [_,_] zf9 ?_;refine si [0] [_] sl99 zbM ?_;refine ap sl99 zdr Z Z Z o7 (by first|(simp only[xac,xaa,xab,xak,xbg] at *;omega)|(rw[xaq] at hg3;rw[hg3];have h10:=ziv w n ⟨d,k⟩ c;simp only[xac];omega)) ?_;refine asg ?_;refine dr (ar (xaj ((pre4++[q],rest4)) ⟨(by have hz:=hg5;rw[<-hz];simp),og,sx ⟨⟨_,Z,xaQ ?_⟩,⟨⟨_,Z,LeA.glg ?_⟩,I⟩⟩ ⟨zac ?_,I⟩⟩));iterate 3 focus (first|(simp;done)|(simp[Val.ctor,Val.num,Val.kids,xbe];done)|(simp;omega))
  have hrest4:rest4=[]:=by
   rcases rest4 with _|⟨a,b⟩
   ·rfl
   ·exfalso;have hz:=xam List.length (hg5);simp only[xaa,xab,xac] at hz;omega
  subst hrest4;refine ar (xaj ((pre3++[v],rest3)) ⟨(by have hz:=hg4;rw[<-hz];simp),og,sx ⟨⟨_,Z,xaQ ?_⟩,⟨⟨_,Z,LeA.glg ?_⟩,I⟩⟩ ⟨zac ?_,I⟩⟩);iterate 3 focus (first|(simp;done)|(rw[xaq] at hg5;rw[<-hg5];simp[zd7];done))
  have hrest3:rest3=[]:=by
   rcases rest3 with _|⟨a,b⟩
   ·rfl
   ·exfalso;have hz:=xam List.length (hg4);simp only[xaa,xab,xac] at hz;omega
  subst hrest3;refine ar (xaj ((pre2++[y],rest2)) ⟨(by have hz:=hg3;rw[<-hz];simp),og,sx ⟨⟨_,Z,xaQ ?_⟩,⟨⟨_,Z, ?_⟩,I⟩⟩ I⟩);focus ((simp;done))
  focus (((first|refine LeA.gld ?_|refine LeA.nild ?_);first|rfl|(simp;done)|(rw[xaq] at hg4;rw[hg4,ziD,xag];rfl)))
  have hrest2:rest2=[]:=by
   rcases rest2 with _|⟨a,b⟩
   ·rfl
   ·exfalso;have hz:=xam List.length (hg3);simp only[xaa,xab,xac] at hz;omega
  subst hrest2;refine ap sl99 zdr Z Z Z o7 (by first|(simp only[xac,xaa,xab,xak,xbg] at *;omega)|(rw[xaq] at hg3;rw[hg3];have h10:=ziv w n ⟨d,k⟩ c;simp only[xac];omega)) ?_;refine asg ?_;apply tv;refine ar (xaj ((pre++[c],rest)) ⟨(by have hz:=hg2;rw[<-hz];simp),og,sx ⟨⟨_,Z,xaQ ?_⟩,⟨⟨_,Z,LeA.glg ?_⟩,I⟩⟩ ⟨zac ?_,I⟩⟩);iterate 3 focus (first|(simp;done)|(rw[xaq] at hg3;rw[List.flatMap_append,xag,hg3];simp[zd5];done))
  have hrest:rest=[]:=by
   rcases rest with _|⟨a,b⟩
   ·rfl
   ·exfalso;have hz:=xam List.length (hg2);simp only[xaa,xab,xac] at hz;omega
  subst hrest;refine rn0 (r1 Z) (.gld ?_);rotate_left;all_goals (rw[xaq] at hg2;subst hg2;rw[zjN hne,xbe])
theorem zrt:∀ {ls:List (List Val)}{o:List Val},o∈zbB ls->∀x∈o,∃l∈ls,x∈l:=by
 intro ls;have key:∀(ls acc:List (List Val)) (Q:Val->Prop),(∀o∈acc,∀x∈o,Q x)->(∀l∈ls,∀x∈l,Q x)->∀o∈ls.foldl (fun acc l=>acc.flatMap fun o=>l.map fun y=>o++[y]) acc,∀x∈o,Q x:=by
  intro ls;induction ls with
  |nil=>intro acc Q h _ o ho;exact h o ho
  |cons l r ih=>
   intro acc Q h h2 o ho;refine ih _ Q (fun o' ho' x hx=>?_) (fun l' hl'=>h2 l' (List.mem_cons_of_mem _ hl')) o ho;simp only[List.mem_flatMap,List.mem_map] at ho';obtain⟨p,hp,q,hq,rfl⟩:=ho';simp only[List.mem_append,List.mem_singleton] at hx;rcases hx with hx|hx
   ·exact h p hp x hx
   ·subst hx;exact h2 l og x hq
 intro o ho;exact key ls [[]] (fun x=>∃l∈ls,x∈l) og (fun l hl x hx=>⟨l,hl,hx⟩) o ho
theorem xbk:∀ {l:List Val},(∀v∈l,v.ok)->Vals.ok l
 | [],_=>trivial
 |v::r,h=>⟨h v og,xbk (fun x hx=>h x (List.mem_cons_of_mem _ hx))⟩
theorem zj2 {w:List Data} (hw:WT w):∀(n:Nat){t:Ty},TyIn w.length t->∀v∈zaC w n t,v.ok
 |0,t,_,v,h=>by simp[zaC] at h
 |n+1,t,ht,v,h=>by
  unfold zaC at h;split at h
  ·simp only[zfv,List.mem_map] at h;obtain⟨i,_,rfl⟩:=h;exact⟨by simp,trivial⟩
  ·rename_i hne;obtain⟨c,hc,hv⟩:=List.mem_flatMap.1 h;obtain⟨o,ho,rfl⟩:=List.mem_map.1 hv;rcases ht with h0|⟨d,hd,hlt⟩
   ·exact absurd h0 hne
   obtain⟨a,k⟩:=t;have hd':a=(d:Int):=hd;subst hd';have hp:=zbF hc;refine⟨?_,xbk (fun x hx=>?_)⟩
   ·rw[zmy ho,xac];exact zc3 hw hlt hp
   ·obtain⟨l,hl,hxl⟩:=zrt ho x hx;obtain⟨y,hy,rfl⟩:=List.mem_map.1 hl;exact zj2 hw n (zds hw hlt hp hy) x hxl
def vut (w:List Data) (t:Ty) (m:Int):List Val×Bool:=if za2 w t&&(zat m 0 4&&decide (zbh w m.toNat t<=400)) then (zaC w m.toNat t,true) else ([],false)
theorem zo5 (w:List Data) (t:Ty) (m:Int):(vut w t m).1.length<=400:=by
 unfold vut;split
 ·rename_i h;simp only[xad,xah] at h;have:=zdz h.2.2;simp only;omega
 ·simp
theorem ziG {w:List Data} (hs:WSmall w){a k m:Int}:FnD Tryz.prog 47 [.d (zap w),.agg [.d (.i a),.d (.i k)],.d (.i m)] [] (.tup [.d (zbg (vut w ⟨a,k⟩ m).1),.d (.bool (vut w ⟨a,k⟩ m).2)]) []:=by
 refine bd Tryz.f47 43 [8] [] fun _ _ _ _ hk=>?_;refine bx 3004 ?_;refine evs [8] [] (wc zrN (zfM hs) Z Z ?_);refine evs [8] [] ?_;apply sq<;>intro h1 h1p h1s;refine sqT ?_;refine sqT ?_;focus (refine rn0 (r2 Z Z) (.tup (qne ?_ ?_));all_goals ((simp[vut,Val.cs,h1s,h1p];done)))
 refine Walk.call (cr:=[]) zd4 zba Z (.some Z Z h1) Z Z (LeL.refl _) I Z Z Z (evs [8] [(15,false)] ?_ ⟨⟨_,Z,h1⟩,I⟩);apply sq<;>intro h3 h3p h3s;refine sqT ?_;focus (refine rn0 (r2 Z Z) (.tup (qne ?_ ?_));all_goals ((simp[vut,Val.cs,h1s,h1p,h3s,h3p];done)))
 try simp only[Q,zat,xbg] at h3p
 refine Walk.call (cr:=[]) zni (zdh (zls hs ol) m.toNat od od (zlr ol)) Z (.some Z Z h3) Z Z (LeL.refl _) I Z Z Z ?_;refine evs [8] [(20,false)] ?_ ⟨⟨_,Z,h3⟩,I⟩;apply sq<;>intro h5 h5p h5s<;>(try simp only[Q,zat,xbg] at h5p);focus (refine rn0 (r2 Z Z) (.tup (qne ?_ ?_));all_goals (first|(simp only[vut];rw[if_neg (by intro hh;simp[zat] at hh;omega)];rfl)|(simp only[vut];rw[if_neg (by intro hh;simp[zat] at hh;omega)];done)))
 refine xbs 1 3 .none Z Z ?_;apply tv;refine wc zpS (zhm (zls hs ol) m.toNat od od (zlr ol) od) Z Z ?_;refine evs [8] [] (xaD (ι:=List (Val)×List (Val)) hk (fun x=>[(32,.d (.i (x.1.length:Int))),(8,.gl 1 (x.1.map Val.cc))]) [10,33,34,35,36,37,38,39,40,41] (fun x=>[(1,some (.tok ((x.1.map Val.cc)).length 3))]) (fun x=>x.1++x.2=zaC w m.toNat ⟨a,k⟩) (fun x=>x.2.length) ([],zaC w m.toNat ⟨a,k⟩) og ⟨⟨_,Z,xaQ ?_⟩,⟨⟨_,Z,LeA.glg ?_⟩,I⟩⟩ ⟨zac ?_,I⟩ (fun x=>rfl) (fun x hg1=>?_));iterate 3 focus (rfl)
 obtain⟨pre,rest⟩:=x;dsimp only at hg1 ⊢;have hlen:=zdz (w:=w) (n:=m.toNat) (t:=⟨a,k⟩) od;refine evc [8] [] ?_;apply sq<;>intro h6 h6p h6s<;>(try simp only[Q,zat,xbg] at h6p);rcases rest with _|⟨y,rest⟩
 ·exfalso;simp_all
 refine ixq sl99 Z Z Z (xbd hg1) Z (evs [8] [] (ab 3010 zbM ?_));refine so zb6 ?_;apply tv;refine wc znj (zeg y.size (Nat.le_refl _) (zj2 (zls hs ol) m.toNat (zlr (t:=⟨a,k⟩) ol) y (by rw[<-hg1];simp))) Z Z ?_;refine si [0] [_] sl99 zbM ?_;refine ap sl99 zdr Z Z Z og (by have h9:=xam List.length hg1;simp at h9;simp;omega) ?_;refine asg ?_;apply tv;refine ar (xaj ((pre++[y],rest)) ⟨(by have hz:=hg1;rw[<-hz];simp),og,sx ⟨⟨_,Z,xaQ ?_⟩,⟨⟨_,Z,LeA.glg ?_⟩,I⟩⟩ ⟨zac ?_,I⟩⟩);iterate 3 focus ((simp;done))
 have hrest:rest=[]:=by
  rcases rest with _|⟨a,b⟩
  ·rfl
  ·exfalso;have hz:=xam List.length (hg1);simp only[xaa,xab,xac] at hz;omega
 subst hrest;focus (refine rn0 (r2 Z Z) (.tup (qge ?_ ?_));all_goals (first|(rw[xaq] at hg1;subst hg1;simp only[vut];rw[if_pos (by simp[zat,h1s,h1p,h3s,h3p,h5s,h5p,h6s,h6p];omega),xbe];done)|(simp only[vut];rw[if_pos (by simp[zat,h1s,h1p,h3s,h3p,h5s,h5p,h6s,h6p];omega)];done)))
abbrev enc1 (o:List Val):List D:=[.sl (Val.cs o)]
abbrev znz (ls:List (List Val)):D:= .sl (ls.map enc1)
def zjw (l:List Val) (o:List Val):List (List Val):=l.map fun y=>o++[y]
theorem zdD {α:Type}{N:Nat}{X Y:List α} (h:N<=X.length):(X++Y).take N=X.take N:=by
 rw[List.take_append,(by omega:N-X.length=0)];simp
theorem zfe {α β:Type} [Inhabited β]{X:List α}{l:List β}{h:β->α}{j m:Nat} (hj:j<l.length) (hl:((X++(l.take j).map h).take (m+1)).length<=m):
  (X++(l.take (j+1)).map h).take (m+1)=(X++(l.take j).map h).take (m+1)++[h (nth l j)]:=by
 have e1:l.take (j+1)=l.take j++[nth l j]:=by rw[List.take_succ_eq_append_getElem hj,zaD hj]
 rw[List.length_take] at hl;have h2:(X++(l.take j).map h).length<=m:=by omega
 rw[e1,xag,<-xar,List.take_of_length_le (by simp at h2 ⊢;omega),List.take_of_length_le (l:=X++(l.take j).map h) od];rfl
theorem zma {α β:Type}{X:List α}{l:List β}{h:β->α}{j m:Nat} (hc:¬j<l.length\/¬((X++(l.take j).map h).take (m+1)).length<=m):
  (X++(l.take j).map h).take (m+1)=(X++l.map h).take (m+1):=by
 rcases hc with hc|hc
 ·rw[List.take_of_length_le (l:=l) od]
 ·rw[List.length_take] at hc;have e:l.map h=(l.take j).map h++(l.drop j).map h:=by rw[<-xag,List.take_append_drop]
  rw[e,<-xar,zdD (X:=X++(l.take j).map h) od]
theorem zcV {α β:Type} [Inhabited β]{l:List β}{g:β->List α}{j:Nat} (hj:j<l.length):(l.take (j+1)).flatMap g=(l.take j).flatMap g++g (nth l j):=by
 rw[List.take_succ_eq_append_getElem hj,List.flatMap_append,zaD hj];simp
theorem zbv {α β:Type}{l:List β}{g:β->List α}{j m:Nat} (hc:¬j<l.length\/¬(((l.take j).flatMap g).take (m+1)).length<=m):
  ((l.take j).flatMap g).take (m+1)=(l.flatMap g).take (m+1):=by
 rcases hc with hc|hc
 ·rw[List.take_of_length_le (l:=l) od]
 ·rw[List.length_take] at hc;have e:l.flatMap g=(l.take j).flatMap g++(l.drop j).flatMap g:=by rw[<-List.flatMap_append,List.take_append_drop]
  rw[e,zdD (X:=(l.take j).flatMap g) od]
theorem zko {X:List (List Val)}{l:List Val}{o:List Val}{j m:Nat} (hc:¬j<l.length\/¬((X++(l.take j).map fun y=>o++[y]).take (m+1)).length<=m):
  (X++(l.take j).map fun y=>o++[y]).take (m+1)=(X++zjw l o).take (m+1):=zma hc
theorem zbU (m:Nat) (ls:List (List Val)) (l:List Val):tupV m (ls++[l])=((tupV m ls).flatMap (zjw l)).take (m+1):=by
 unfold tupV;rw[List.foldl_append];rfl
theorem zkp (m:Nat) (ls:List (List Val)):(tupV m ls).length<=m+1:=ztn m ls [[]] og
theorem zrE (m:Nat):∀ {ls:List (List Val)}{o:List Val},o∈tupV m ls->o.length=ls.length:=by
 intro ls;have key:∀(ls acc:List (List Val)) (n:Nat),(∀o∈acc,o.length=n)->∀o∈ls.foldl (fun acc l=>(acc.flatMap fun o=>l.map fun y=>o++[y]).take (m+1)) acc,o.length=n+ls.length:=by
  intro ls;induction ls with
  |nil=>intro acc n h o ho;exact h o ho
  |cons l r ih=>
   intro acc n h o ho;have:=ih _ (n+1) (fun o' ho'=>by
    have ho':=List.mem_of_mem_take ho';simp only[List.mem_flatMap,List.mem_map] at ho';obtain⟨p,hp,q,_,rfl⟩:=ho';simp[h p hp]) o ho
   simp only[xab];omega
 intro o ho;have:=key ls [[]] 0 og o ho;simpa using this
theorem o4{p:Prop}(h:p:=by intro z hz;first|(rw[xbe] at hz;obtain⟨_,_,rfl⟩:=List.mem_map.1 hz;rfl)|(simp at hz;rw[hz];rfl)):p:=h
theorem zgP {ls:List (List Val)}{most:Nat} (hm:most<=1000) (hl:ls.length<=1000000000000) (hls:∀l∈ls,l.length<=1000000000000):FnD Tryz.prog 147 [.d (znz ls),.d (.i most)] [] (.d (znz (tupV most ls))) []:=by
 refine bd Tryz.f147 66 [] [] fun _ _ _ _ hk=>?_;refine xbW sl99 .none Z (si [0] [_] zda tz99 ?_);refine ev (xaD (ι:=List (List Val)×List (List Val)) hk (fun x=>[(6,.d (.i (x.1.length:Int))),(5,.d (.sl ((tupV most x.1).map enc1)))]) [7,8,9,12,13,14,15,16,17,18,19,20,21,22,23,24,25,26,27,28,29,30,31,32,33,34,35,36,37,38,39,40,41,42,43,44,45,46,47,48,49,50,51,52,53,54,55,56,57,58,59,60,61,62,63,64] (fun x=>[]) (fun x=>x.1++x.2=ls) (fun x=>x.2.length) ([],ls) og ⟨⟨_,Z,xaQ ?_⟩,⟨⟨_,Z, ?_⟩,I⟩⟩ I (fun x=>rfl) (fun x hg1=>?_));focus (first|rfl|(simp;done)|(rw[zbU,zbv od]))
 focus (first|exact LeA.refl _|((first|refine LeA.gld ?_|refine LeA.nild ?_);first|rfl|(simp;done)|(rw[zbU,zbv od]))|(refine LeA.eqsl ?_;first|rfl|(simp;done)|(rw[zbU,zbv od]))|(refine LeA.eqd ?_;first|rfl|(simp;done)|(rw[zbU,zbv od])))
 obtain⟨pre,rest⟩:=x;dsimp only at hg1 ⊢;refine evc [] [] ?_;apply sq<;>intro h1 h1p h1s<;>(try simp only[Q,xbg,Int.ofNat_lt,Int.ofNat_le] at h1p);rcases rest with _|⟨l,rest⟩
 ·exfalso;simp_all
 have hll:=hls l (by rw[<-hg1];simp);have htl:=zkp most pre;refine xbX 3 zda .none Z Z (ev (xaD (ι:=Nat) hk (fun k=>[(8,.d (.i (k:Int))),(7,.gl 3 (((((tupV most pre).take k).flatMap (zjw l)).take (most+1)).map enc1))]) [9,19,20,21,22,23,24,25,26,27,28,29,30,31,32,33,34,35,36,37,38,39,40,41,42,43,44,45,46,47,48,49,50,51,52,53,54,55,56,57,58,59,60,61,62,63] (fun k=>[(3,some (.tok ((((((tupV most pre).take k).flatMap (zjw l)).take (most+1)).map enc1)).length 1))]) (fun k=>k<=(tupV most pre).length) (fun k=>(tupV most pre).length-k) 0 og ⟨⟨_,Z,xaQ ?_⟩,⟨⟨_,Z,LeA.glg ?_⟩,I⟩⟩ ⟨zac ?_,I⟩ (fun x=>rfl) (fun k hg2=>?_)));iterate 3 focus (first|rfl|(simp;done)|(rw[zcV od,zko od])|(simp;omega))
 refine evc [] [] ?_;apply sq<;>intro h2 h2p h2s<;>(try simp only[Q,xbg,Int.ofNat_lt,Int.ofNat_le] at h2p);apply sq<;>intro h3 h3p h3s<;>(try simp only[Q,xbg,Int.ofNat_lt,Int.ofNat_le] at h3p);refine xaD (ι:=Nat) hk (fun j=>[(9,.d (.i (j:Int))),(7,.gl 3 (((((tupV most pre).take k).flatMap (zjw l)++(l.take j).map (fun y=>nth (tupV most pre) k++[y])).take (most+1)).map enc1))]) [31,32,33,34,35,36,37,38,39,40,41,42,43,44,45,46,47,48,49,50,51,52,53,54,55,56,57,58,59,60,61,62,63] (fun j=>[(3,some (.tok ((((((tupV most pre).take k).flatMap (zjw l)++(l.take j).map (fun y=>nth (tupV most pre) k++[y])).take (most+1)).map enc1)).length 1))]) (fun j=>j<=l.length) (fun j=>l.length-j) 0 og ⟨⟨_,Z,xaQ ?_⟩,⟨⟨_,Z,LeA.glg ?_⟩,I⟩⟩ ⟨zac ?_,I⟩ (fun x=>rfl) (fun j hg3=>?_);iterate 3 focus (first|rfl|(simp;done)|(rw[zfe od od,xag];simp[xbe];done)|(simp;omega))
 have hol:=zrE most (zai (l:=tupV most pre) (i:=k) od);refine evc [] [] (ixq zda Z Z Z (by first|exact zaL hg1|exact zao od) Z ?_);refine ev ?_;apply sq<;>intro h4 h4p h4s<;>(try simp only[Q,xbg,Int.ofNat_lt,Int.ofNat_le] at h4p);apply sq<;>intro h5 h5p h5s<;>(try simp only[Q,xbg,Int.ofNat_lt,Int.ofNat_le] at h5p);refine xbX 5 sl99 .none Z Z (evd [] [] (ixq zda Z Z Z (by first|exact zaL hg1|exact zao od) Z ?_));refine evd [] [] (ap sl99 zdr Z Z Z o4 (by first|(simp only[xac,xaa,xab,xak,xbg] at *;omega)) ?_);refine evd [] [] (ixq zda Z Z Z (by first|exact zaL hg1|exact zao od) Z ?_);refine evd [] [] (ixq sl99 Z Z Z (zmb od) Z ?_);refine evd [] [] (si [0] [_] sl99 zbM ?_);refine ap sl99 zdr Z Z Z o4 (by first|(simp only[xac,xaa,xab,xak,xbg] at *;omega)) ?_;refine si [0] [_] zda tz99 ?_;refine ap zda zz99 Z Z Z o4 (by first|(simp only[xac,xaa,xab,xak,xbg] at *;omega)) ?_;refine evd [] [] (dr (ar (xaj (j+1) ⟨?_, ?_,sx ⟨⟨_,Z,xaQ ?_⟩,⟨⟨_,Z,LeA.glg ?_⟩,I⟩⟩ ⟨zac ?_,I⟩⟩)));iterate 2 focus (first|omega|(simp_all;done)|(simp_all;omega))
 iterate 3 focus (first|rfl|(simp;done)|(rw[zfe od od,xag];simp[xbe];done)|(simp;omega))
 refine ar (xaj (k+1) ⟨?_, ?_,sx ⟨⟨_,Z,xaQ ?_⟩,⟨⟨_,Z,LeA.glg ?_⟩,I⟩⟩ ⟨zac ?_,I⟩⟩);iterate 2 focus (first|omega|(simp_all;done)|(simp_all;omega))
 iterate 3 focus (first|rfl|(simp;done)|(rw[zcV od,zko od])|(simp;omega))
 refine sqF ?_;refine ar (xaj (k+1) ⟨?_, ?_,sx ⟨⟨_,Z,xaQ ?_⟩,⟨⟨_,Z,LeA.glg ?_⟩,I⟩⟩ ⟨zac ?_,I⟩⟩);iterate 2 focus (first|omega|(simp_all;done)|(simp_all;omega))
 iterate 3 focus (first|rfl|(simp;done)|(rw[zcV od,zko od])|(simp;omega))
 refine ar (xaj ((pre++[l],rest)) ⟨(by have hz:=hg1;rw[<-hz];simp),og,sx ⟨⟨_,Z,xaQ ?_⟩,⟨⟨_,Z, ?_⟩,I⟩⟩ I⟩);focus (first|rfl|(simp;done)|(rw[zbU,zbv od]))
 focus (first|exact LeA.refl _|((first|refine LeA.gld ?_|refine LeA.nild ?_);first|rfl|(simp;done)|(rw[zbU,zbv od]))|(refine LeA.eqsl ?_;first|rfl|(simp;done)|(rw[zbU,zbv od]))|(refine LeA.eqd ?_;first|rfl|(simp;done)|(rw[zbU,zbv od])))
 refine sqF ?_;refine ar (xaj ((pre++[l],rest)) ⟨(by have hz:=hg1;rw[<-hz];simp),og,sx ⟨⟨_,Z,xaQ ?_⟩,⟨⟨_,Z, ?_⟩,I⟩⟩ I⟩);focus (first|rfl|(simp;done)|(rw[zbU,zbv od]))
 focus (first|exact LeA.refl _|((first|refine LeA.gld ?_|refine LeA.nild ?_);first|rfl|(simp;done)|(rw[zbU,zbv od]))|(refine LeA.eqsl ?_;first|rfl|(simp;done)|(rw[zbU,zbv od]))|(refine LeA.eqd ?_;first|rfl|(simp;done)|(rw[zbU,zbv od])))
 have hrest:rest=[]:=by
  rcases rest with _|⟨a,b⟩
  ·rfl
  ·exfalso;have hz:=xam List.length (hg1);simp only[xaa,xab,xac] at hz;omega
 subst hrest;refine rq ?_;rotate_left;all_goals ((rw[xaq] at hg1);subst hg1;rfl)
def allC (w:List Data) (n:Nat) (t:Ty) (c:Int):List Val:=(tupV 400 ((zaB w t c).map (allV w 400 n))).map (Val.mk c 0)
theorem zes {w:List Data}{n:Nat}{t:Ty} (ht:t.data≠ -1):allV w 400 (n+1) t=((zaG w t).flatMap (allC w n t)).take (400+1):=by rw[allV,if_neg ht];rfl
theorem zge {w:List Data}{n:Nat}{t:Ty}{X:List Val}{c:Int}{j:Nat} (hc:¬j<(tupV 400 ((zaB w t c).map (allV w 400 n))).length\/¬((X++((tupV 400 ((zaB w t c).map (allV w 400 n))).take j).map (Val.mk c 0)).take (400+1)).length<=400):
  (X++((tupV 400 ((zaB w t c).map (allV w 400 n))).take j).map (Val.mk c 0)).take (400+1)=(X++allC w n t c).take (400+1):=zma hc
theorem o6{p:Prop}(h:p:=by simp only[xac,xaa,xab,xak,xbg] at *;omega):p:=h
theorem zic {w:List Data} (hw:WT w):∀(n:Nat){a k m:Int},m=n->n<=1000->TyIn w.length ⟨a,k⟩->
  FnD Tryz.prog 87 [.d (zap w),.agg [.d (.i a),.d (.i k)],.d (.i m),.d (.i 400)] [] (.d (zbg (allV w 400 n ⟨a,k⟩))) []
 |0,a,k,m,hm,_,_=>by
  refine bd Tryz.f87 104 [] [] fun _ _ _ _ hk=>?_;refine bx 3005 ?_;refine ev (xbX 1 sl99 .none Z Z (ev ?_));apply sq<;>intro h1 h1p h1s<;>(try simp only[Q] at h1p);refine rn0 (r1 Z) (.gld ?_);rotate_left;exfalso;simp at h1;omega;all_goals (rfl)
 |n+1,a,k,m,hm,hn,ht=>by
  rcases ht with ha|⟨d,hd,hlt⟩
  ·have ha':a = -1:=ha;subst ha';refine bd Tryz.f87 104 [] [] fun _ _ _ _ hk=>?_;refine bx 3005 ?_;refine ev (xbX 1 sl99 .none Z Z (ev ?_));apply sq<;>intro h1 h1p h1s<;>(try simp only[Q] at h1p);exfalso;simp at h1;omega;apply sq<;>intro h2 h2p h2s<;>(try simp only[Q] at h2p);refine xaD (ι:=Nat) hk (fun i=>[(10,.d (.i (i:Int))),(9,.gl 1 (((List.range i).map fun(n:Nat)=>Val.mk (-1) n []).map Val.cc))]) [25,26,27,28,29,30,31,32,33] (fun i=>[(1,some (.tok ((((List.range i).map fun(n:Nat)=>Val.mk (-1) n []).map Val.cc)).length 3))]) (fun i=>i<=10) (fun i=>10-i) 0 og ⟨⟨_,Z,xaQ ?_⟩,⟨⟨_,Z,LeA.glg ?_⟩,I⟩⟩ ⟨zac ?_,I⟩ (fun x=>rfl) (fun i hg1=>?_);iterate 3 focus (first|rfl|(simp[List.range_succ,Val.ctor,Val.num,Val.kids];done)|(simp[List.range_succ,Val.ctor,Val.num,Val.kids,Val.cs];done)|(simp;omega))
   refine evc [] [] ?_;apply sq<;>intro h3 h3p h3s<;>(try simp only[Q] at h3p);refine bu [0,1] [_,_] zf9 ?_;refine si [0] [_] sl99 zbM ?_;refine ap sl99 zdr Z Z Z og ot ?_;refine ev (ar (xaj (i+1) ⟨?_, ?_,sx ⟨⟨_,Z,xaQ ?_⟩,⟨⟨_,Z,LeA.glg ?_⟩,I⟩⟩ ⟨zac ?_,I⟩⟩));iterate 2 focus (first|omega|(simp_all;done)|(simp_all;omega))
   iterate 3 focus (first|rfl|(simp[List.range_succ,Val.ctor,Val.num,Val.kids];done)|(simp[List.range_succ,Val.ctor,Val.num,Val.kids,Val.cs];done)|(simp;omega))
   refine rn0 (r1 Z) (.gld ?_);rotate_left;exact absurd h2 og;all_goals (have e:i=10:=od;subst e;rw[allV,if_pos rfl,xbe];rfl)
  have hd':a=(d:Int):=hd;subst hd';have hne:(⟨d,k⟩:Ty).data≠ -1:=by show(d:Int)≠ -1;omega
  have hcl:=zdX hw (d:=d) (k:=k);refine bd Tryz.f87 104 [] [] fun _ _ _ _ hk=>?_;refine bx 3005 ?_;refine ev (xbX 1 sl99 .none Z Z (ev ?_));apply sq<;>intro h1 h1p h1s<;>(try simp only[Q,xbg,xa9,Int.ofNat_lt,Int.ofNat_le] at h1p);exfalso;simp at h1;omega;apply sq<;>intro h2 h2p h2s<;>(try simp only[Q,xbg,xa9,Int.ofNat_lt,Int.ofNat_le] at h2p);exfalso;simp at h2<;>omega;refine wc zhc (zeN hw hlt) Z Z ?_;refine ev (xaD (ι:=Nat) hk (fun i=>[(12,.d (.i (i:Int))),(9,.gl 1 (((((zaG w ⟨d,k⟩).take i).flatMap (allC w n ⟨d,k⟩)).take (400+1)).map Val.cc))]) [13,14,15,16,17,38,39,40,41,42,43,44,45,46,47,48,49,50,51,52,53,54,55,56,57,58,59,60,61,62,63,64,65,66,67,68,69,70,71,72,73,74,75,76,77,78,79,80,81,82,83,84,85,86,87,88,89,90,91,92,93,94,95,96,97,98,99,100,101,102] (fun i=>[(1,some (.tok ((((((zaG w ⟨d,k⟩).take i).flatMap (allC w n ⟨d,k⟩)).take (400+1)).map Val.cc)).length 3))]) (fun i=>i<=(zaG w ⟨d,k⟩).length) (fun i=>(zaG w ⟨d,k⟩).length-i) 0 og ⟨⟨_,Z,xaQ ?_⟩,⟨⟨_,Z,LeA.glg ?_⟩,I⟩⟩ ⟨zac ?_,I⟩ (fun x=>rfl) (fun i hg2=>?_));iterate 3 focus (first|rfl|(simp;done)|(subst hg3;rw[zcV od,zge od])|(simp;omega))
  refine evc [] [] ?_;apply sq<;>intro h3 h3p h3s<;>(try simp only[Q,xbg,xa9,Int.ofNat_lt,Int.ofNat_le] at h3p);apply sq<;>intro h4 h4p h4s<;>(try simp only[Q,xbg,xa9,Int.ofNat_lt,Int.ofNat_le] at h4p);refine ixq sl37 Z Z Z (zao od) Z ?_;refine evd [] [] (wc znm (ze7 hw hlt (zbF (k:=k) (zai (l:=zaG w ⟨d,k⟩) (i:=i) od))) Z Z ?_);refine evd [] [] (dr (xbX 2 zda .none Z Z (ev (xaD (ι:=List (Ty)×List (Ty)) hk (fun x=>[(15,.d (.i (x.1.length:Int))),(14,.gl 2 ((x.1.map (allV w 400 n)).map enc1))]) [58,59,60,61,62,63,64,65,66,67,68,69,70,71,72,73,74,75] (fun x=>[(2,some (.tok (((x.1.map (allV w 400 n)).map enc1)).length 1))]) (fun x=>x.1++x.2=zaB w ⟨d,k⟩ (nth (zaG w ⟨d,k⟩) i)) (fun x=>x.2.length) ([],zaB w ⟨d,k⟩ (nth (zaG w ⟨d,k⟩) i)) og ⟨⟨_,Z,xaQ ?_⟩,⟨⟨_,Z,LeA.glg ?_⟩,I⟩⟩ ⟨zac ?_,I⟩ (fun x=>rfl) (fun x hg3=>?_)))));iterate 3 focus (first|rfl|(simp;done)|(simp;omega))
  obtain⟨pre2,rest2⟩:=x;dsimp only at hg3 ⊢;have hal:=zc3 hw hlt (k:=k) (zbF (k:=k) (zai (l:=zaG w ⟨d,k⟩) (i:=i) od));refine evc [] [] ?_;apply sq<;>intro h5 h5p h5s<;>(try simp only[Q,xbg,xa9,Int.ofNat_lt,Int.ofNat_le] at h5p);rcases rest2 with _|⟨y,rest2⟩
  ·exfalso;simp_all
  refine ixq za3 Z Z Z (zaL hg3) Z (ev (ar (wc zpg (zic hw n (a:=y.data) (k:=y.index) od od (zds hw hlt (k:=k) (zbF (k:=k) (zai (l:=zaG w ⟨d,k⟩) (i:=i) od)) (t:=y) (by rw[<-hg3];simp))) Z Z ?_)));refine si [0] [_] zda tz99 ?_;refine ap zda zz99 Z Z Z og o6 ?_;refine ev (ar (xaj ((pre2++[y],rest2)) ⟨(by have hz:=hg3;rw[<-hz];simp),og,sx ⟨⟨_,Z,xaQ ?_⟩,⟨⟨_,Z,LeA.glg ?_⟩,I⟩⟩ ⟨zac ?_,I⟩⟩));iterate 3 focus (first|rfl|(simp;done)|(simp;omega))
  have hrest2:rest2=[]:=by
   rcases rest2 with _|⟨a,b⟩
   ·rfl
   ·exfalso;have hz:=xam List.length (hg3);simp only[xaa,xab,xac] at hz;omega
  subst hrest2;refine Walk.call (cr:=[]) zpY (zgP (ls:=pre2.map (allV w 400 n)) (most:=400) od (by have h9:=xam List.length hg3;simp only[xaa,xak,xac] at h9 ⊢;omega) (by intro l hl;obtain⟨z,_,rfl⟩:=List.mem_map.1 hl;have:=zm9 w 400 od n z;omega)) Z .none Z Z (.cons (.gl _ _) (.cons (.refl _) .nil)) I Z Z Z ?_;refine ev (xaD (ι:=Nat) hk (fun j=>[(17,.d (.i (j:Int))),(9,.gl 1 (((((zaG w ⟨d,k⟩).take i).flatMap (allC w n ⟨d,k⟩)++((tupV 400 (pre2.map (allV w 400 n))).take j).map (Val.mk (nth (zaG w ⟨d,k⟩) i) 0)).take (400+1)).map Val.cc))]) [79,80,81,82,83,84,85,86,87,88,89,90,91,92,93,94,95,96,97,98,99,100,101,102] (fun j=>[(1,some (.tok ((((((zaG w ⟨d,k⟩).take i).flatMap (allC w n ⟨d,k⟩)++((tupV 400 (pre2.map (allV w 400 n))).take j).map (Val.mk (nth (zaG w ⟨d,k⟩) i) 0)).take (400+1)).map Val.cc)).length 3))]) (fun j=>j<=(tupV 400 (pre2.map (allV w 400 n))).length) (fun j=>(tupV 400 (pre2.map (allV w 400 n))).length-j) 0 og ⟨⟨_,Z,xaQ ?_⟩,⟨⟨_,Z,LeA.glg ?_⟩,I⟩⟩ ⟨zac ?_,I⟩ (fun x=>rfl) (fun j hg4=>?_));iterate 3 focus (first|rfl|(simp;done)|(rw[zfe od od,xag];first|rfl|(simp;done))|(simp;omega))
  (try rw[xaq] at hg3);have htl:=zkp 400 (pre2.map (allV w 400 n))
  refine evc [] [] ?_;apply sq<;>intro h6 h6p h6s<;>(try simp only[Q,xbg,xa9,Int.ofNat_lt,Int.ofNat_le] at h6p);apply sq<;>intro h7 h7p h7s<;>(try simp only[Q,xbg,xa9,Int.ofNat_lt,Int.ofNat_le] at h7p);refine ixq sl37 Z Z Z (zao od) Z ?_;refine evd [] [] (ixq zda Z Z Z (zao od) Z ?_);refine evd [] [] (bu [0,2] [_,_] zf9 ?_);refine si [0] [_] sl99 zbM ?_;refine ap sl99 zdr Z Z Z og o6 ?_;refine evd [] [] (dr (ar (xaj (j+1) ⟨?_, ?_,sx ⟨⟨_,Z,xaQ ?_⟩,⟨⟨_,Z,LeA.glg ?_⟩,I⟩⟩ ⟨zac ?_,I⟩⟩)));iterate 2 focus (first|omega|(simp_all;done)|(simp_all;omega))
  iterate 3 focus (first|rfl|(simp;done)|(rw[zfe od od,xag];first|rfl|(simp;done))|(simp;omega))
  refine ar (xaj (i+1) ⟨?_, ?_,sx ⟨⟨_,Z,xaQ ?_⟩,⟨⟨_,Z,LeA.glg ?_⟩,I⟩⟩ ⟨zac ?_,I⟩⟩);iterate 2 focus (first|omega|(simp_all;done)|(simp_all;omega))
  iterate 3 focus (first|rfl|(simp;done)|(subst hg3;rw[zcV od,zge od])|(simp;omega))
  refine sqF ?_;refine ar (xaj (i+1) ⟨?_, ?_,sx ⟨⟨_,Z,xaQ ?_⟩,⟨⟨_,Z,LeA.glg ?_⟩,I⟩⟩ ⟨zac ?_,I⟩⟩);iterate 2 focus (first|omega|(simp_all;done)|(simp_all;omega))
  iterate 3 focus (first|rfl|(simp;done)|(subst hg3;rw[zcV od,zge od])|(simp;omega))
  refine rn0 (r1 Z) (.gld ?_);rotate_left;refine sqF ?_;refine rn0 (r1 Z) (.gld ?_);rotate_left;all_goals (rw[zes hne,xbe,zbv od])
theorem zmU {w:List Data} (hw:WT w):∀(n:Nat){a k m:Int},m=n->n<=1000->TyIn w.length ⟨a,k⟩->
  FnD Tryz.prog 87 [.d (zap w),.agg [.d (.i a),.d (.i k)],.d (.i m),.d (.i 400)] [] (.gv 9 ((allV w 400 n ⟨a,k⟩).map Val.cc)) [(9,some (.tok ((allV w 400 n ⟨a,k⟩).map Val.cc).length 3))]
 |0,a,k,m,hm,_,_=>by
  refine bd Tryz.f87 104 [] [] fun _ _ _ _ hk=>?_;refine bx 3005 ?_;refine ev (xbY 9 sl99 .none Z Z (ev ?_));apply sq<;>intro h1 h1p h1s<;>(try simp only[Q] at h1p);refine rn [(9,some (.tok ((allV w 400 0 ⟨a,k⟩).map Val.cc).length 3))] (r1 Z) (.gvg ?_) ⟨Z,Z⟩ (SubH.get ⟨?_,I⟩) (zaX Z);rotate_left 2;exfalso;simp at h1;omega;all_goals (first|((rfl);done)|(first|rfl|(show some (Res.tok _ _)=some (Res.tok _ _);congr 1;rfl)))
 |n+1,a,k,m,hm,hn,ht=>by
  rcases ht with ha|⟨d,hd,hlt⟩
  ·have ha':a = -1:=ha;subst ha';refine bd Tryz.f87 104 [] [] fun _ _ _ _ hk=>?_;refine bx 3005 ?_;refine ev (xbY 9 sl99 .none Z Z (ev ?_));apply sq<;>intro h1 h1p h1s<;>(try simp only[Q] at h1p);exfalso;simp at h1;omega;apply sq<;>intro h2 h2p h2s<;>(try simp only[Q] at h2p);refine xaD (ι:=Nat) hk (fun i=>[(10,.d (.i (i:Int))),(9,.gv 9 (((List.range i).map fun(n:Nat)=>Val.mk (-1) n []).map Val.cc))]) [25,26,27,28,29,30,31,32,33] (fun i=>[(9,some (.tok ((((List.range i).map fun(n:Nat)=>Val.mk (-1) n []).map Val.cc)).length 3))]) (fun i=>i<=10) (fun i=>10-i) 0 og ⟨⟨_,Z,xaQ ?_⟩,⟨⟨_,Z,LeA.gvg ?_⟩,I⟩⟩ ⟨zac ?_,I⟩ (fun x=>rfl) (fun i hg1=>?_);iterate 3 focus (first|rfl|(simp[List.range_succ,Val.ctor,Val.num,Val.kids];done)|(simp[List.range_succ,Val.ctor,Val.num,Val.kids,Val.cs];done)|(simp;omega))
   refine evc [] [] ?_;apply sq<;>intro h3 h3p h3s<;>(try simp only[Q] at h3p);refine bu [0,1] [_,_] zf9 ?_;refine si [0] [_] sl99 zbM ?_;refine xbr sl99 zdr .none Z Z Z Z (zbG Z oq) og ot ot ?_;refine ev (ar (xaj (i+1) ⟨?_, ?_,sx ⟨⟨_,Z,xaQ ?_⟩,⟨⟨_,Z,LeA.gvg ?_⟩,I⟩⟩ ⟨zac ?_,I⟩⟩));iterate 2 focus (first|omega|(simp_all;done)|(simp_all;omega))
   iterate 3 focus (first|rfl|(simp[List.range_succ,Val.ctor,Val.num,Val.kids];done)|(simp[List.range_succ,Val.ctor,Val.num,Val.kids,Val.cs];done)|(simp;omega))
   refine rn [(9,some (.tok ((allV w 400 (n+1) ⟨(-1),k⟩).map Val.cc).length 3))] (r1 Z) (.gvg ?_) ⟨Z,Z⟩ (SubH.get ⟨?_,I⟩) (zaX Z);rotate_left 2;exact absurd h2 og;all_goals (first|((have e:i=10:=od;subst e;(first|(rw[allV,if_pos rfl];rfl)|(rw[allV,if_pos rfl];simp[zfv];done)));done)|(first|rfl|(show some (Res.tok _ _)=some (Res.tok _ _);congr 1;(obtain rfl:i=10:=by omega);(first|(rw[allV,if_pos rfl];rfl)|(rw[allV,if_pos rfl];simp[zfv];done)))))
  have hd':a=(d:Int):=hd;subst hd';have hne:(⟨d,k⟩:Ty).data≠ -1:=by show(d:Int)≠ -1;omega
  have hcl:=zdX hw (d:=d) (k:=k);refine bd Tryz.f87 104 [44,85] [] fun _ _ _ _ hk=>?_;refine bx 3005 ?_;refine evs [44,85] [] (xbY 9 sl99 .none Z Z (evs [44,85] [] ?_));apply sq<;>intro h1 h1p h1s<;>(try simp only[Q,xbg,xa9,Int.ofNat_lt,Int.ofNat_le] at h1p);exfalso;simp at h1;omega;apply sq<;>intro h2 h2p h2s<;>(try simp only[Q,xbg,xa9,Int.ofNat_lt,Int.ofNat_le] at h2p);exfalso;simp at h2<;>omega;refine wc zhc (zeN hw hlt) Z Z ?_;refine evs [44,85] [] (xaD (ι:=Nat) hk (fun i=>[(12,.d (.i (i:Int))),(9,.gv 9 (((((zaG w ⟨d,k⟩).take i).flatMap (allC w n ⟨d,k⟩)).take (400+1)).map Val.cc))]) [13,14,15,16,17,38,39,40,41,42,43,44,45,46,47,48,49,50,51,52,53,54,55,56,57,58,59,60,61,62,63,64,65,66,67,68,69,70,71,72,73,74,75,76,77,78,79,80,81,82,83,84,85,86,87,88,89,90,91,92,93,94,95,96,97,98,99,100,101,102] (fun i=>[(9,some (.tok ((((((zaG w ⟨d,k⟩).take i).flatMap (allC w n ⟨d,k⟩)).take (400+1)).map Val.cc)).length 3))]) (fun i=>i<=(zaG w ⟨d,k⟩).length) (fun i=>(zaG w ⟨d,k⟩).length-i) 0 og ⟨⟨_,Z,xaQ ?_⟩,⟨⟨_,Z,LeA.gvg ?_⟩,I⟩⟩ ⟨zac ?_,I⟩ (fun x=>rfl) (fun i hg2=>?_));iterate 3 focus (first|rfl|(simp;done)|(subst hg3;rw[zcV od,zge od])|(simp;omega))
  refine evc [44,85] [] ?_;apply sq<;>intro h3 h3p h3s<;>(try simp only[Q,xbg,xa9,Int.ofNat_lt,Int.ofNat_le] at h3p);refine xbK sl99 (.some Z Z h3) Z Z (evs [44,85] [(42,true)] ?_ ⟨⟨_,Z,h3⟩,I⟩);apply sq<;>intro h4 h4p h4s<;>(try simp only[Q,xbg,xa9,Int.ofNat_lt,Int.ofNat_le] at h4p);refine ixq sl37 Z Z Z (zao od) Z ?_;refine evd [44,85] [] (wc znm (ze7 hw hlt (zbF (k:=k) (zai (l:=zaG w ⟨d,k⟩) (i:=i) od))) Z Z ?_);refine evd [44,85] [] (dr (xbX 2 zda .none Z Z (evs [44,85] [] (xaD (ι:=List (Ty)×List (Ty)) hk (fun x=>[(15,.d (.i (x.1.length:Int))),(14,.gl 2 ((x.1.map (allV w 400 n)).map enc1))]) [58,59,60,61,62,63,64,65,66,67,68,69,70,71,72,73,74,75] (fun x=>[(2,some (.tok (((x.1.map (allV w 400 n)).map enc1)).length 1))]) (fun x=>x.1++x.2=zaB w ⟨d,k⟩ (nth (zaG w ⟨d,k⟩) i)) (fun x=>x.2.length) ([],zaB w ⟨d,k⟩ (nth (zaG w ⟨d,k⟩) i)) og ⟨⟨_,Z,xaQ ?_⟩,⟨⟨_,Z,LeA.glg ?_⟩,I⟩⟩ ⟨zac ?_,I⟩ (fun x=>rfl) (fun x hg3=>?_)))));iterate 3 focus (first|rfl|(simp;done)|(simp;omega))
  obtain⟨pre2,rest2⟩:=x;dsimp only at hg3 ⊢;have hal:=zc3 hw hlt (k:=k) (zbF (k:=k) (zai (l:=zaG w ⟨d,k⟩) (i:=i) od));refine evc [44,85] [] ?_;apply sq<;>intro h5 h5p h5s<;>(try simp only[Q,xbg,xa9,Int.ofNat_lt,Int.ofNat_le] at h5p);rcases rest2 with _|⟨y,rest2⟩
  ·exfalso;simp_all
  refine ixq za3 Z Z Z (zaL hg3) Z (evs [44,85] [] (ar (wc zpg (zic hw n (a:=y.data) (k:=y.index) od od (zds hw hlt (k:=k) (zbF (k:=k) (zai (l:=zaG w ⟨d,k⟩) (i:=i) od)) (t:=y) (by rw[<-hg3];simp))) Z Z ?_)));refine si [0] [_] zda tz99 ?_;refine ap zda zz99 Z Z Z og o6 ?_;refine evs [44,85] [] (ar (xaj ((pre2++[y],rest2)) ⟨(by have hz:=hg3;rw[<-hz];simp),og,sx ⟨⟨_,Z,xaQ ?_⟩,⟨⟨_,Z,LeA.glg ?_⟩,I⟩⟩ ⟨zac ?_,I⟩⟩));iterate 3 focus (first|rfl|(simp;done)|(simp;omega))
  have hrest2:rest2=[]:=by
   rcases rest2 with _|⟨a,b⟩
   ·rfl
   ·exfalso;have hz:=xam List.length (hg3);simp only[xaa,xab,xac] at hz;omega
  subst hrest2;refine Walk.call (cr:=[]) zpY (zgP (ls:=pre2.map (allV w 400 n)) (most:=400) od (by have h9:=xam List.length hg3;simp only[xaa,xak,xac] at h9 ⊢;omega) (by intro l hl;obtain⟨z,_,rfl⟩:=List.mem_map.1 hl;have:=zm9 w 400 od n z;omega)) Z .none Z Z (.cons (.gl _ _) (.cons (.refl _) .nil)) I Z Z Z ?_;refine evs [44,85] [] (xaD (ι:=Nat) hk (fun j=>[(17,.d (.i (j:Int))),(9,.gv 9 (((((zaG w ⟨d,k⟩).take i).flatMap (allC w n ⟨d,k⟩)++((tupV 400 (pre2.map (allV w 400 n))).take j).map (Val.mk (nth (zaG w ⟨d,k⟩) i) 0)).take (400+1)).map Val.cc))]) [79,80,81,82,83,84,85,86,87,88,89,90,91,92,93,94,95,96,97,98,99,100,101,102] (fun j=>[(9,some (.tok ((((((zaG w ⟨d,k⟩).take i).flatMap (allC w n ⟨d,k⟩)++((tupV 400 (pre2.map (allV w 400 n))).take j).map (Val.mk (nth (zaG w ⟨d,k⟩) i) 0)).take (400+1)).map Val.cc)).length 3))]) (fun j=>j<=(tupV 400 (pre2.map (allV w 400 n))).length) (fun j=>(tupV 400 (pre2.map (allV w 400 n))).length-j) 0 og ⟨⟨_,Z,xaQ ?_⟩,⟨⟨_,Z,LeA.gvg ?_⟩,I⟩⟩ ⟨zac ?_,I⟩ (fun x=>rfl) (fun j hg4=>?_));iterate 3 focus (first|rfl|(simp;done)|(rw[zfe od od,xag];first|rfl|(simp;done))|(simp;omega))
  (try rw[xaq] at hg3);have htl:=zkp 400 (pre2.map (allV w 400 n))
  refine evc [44,85] [] ?_;apply sq<;>intro h6 h6p h6s<;>(try simp only[Q,xbg,xa9,Int.ofNat_lt,Int.ofNat_le] at h6p);refine xbK sl99 (.some Z Z h6) Z Z (evs [44,85] [(83,true)] ?_ ⟨⟨_,Z,h6⟩,I⟩);apply sq<;>intro h7 h7p h7s<;>(try simp only[Q,xbg,xa9,Int.ofNat_lt,Int.ofNat_le] at h7p);refine ixq sl37 Z Z Z (zao od) Z ?_;refine evd [44,85] [] (ixq zda Z Z Z (zao od) Z ?_);refine evd [44,85] [] (bu [0,2] [_,_] zf9 ?_);refine si [0] [_] sl99 zbM ?_;refine xbr sl99 zdr .none Z Z Z Z (zbG Z oq) og o6 o6 ?_;refine evd [44,85] [] (dr (ar (xaj (j+1) ⟨?_, ?_,sx ⟨⟨_,Z,xaQ ?_⟩,⟨⟨_,Z,LeA.gvg ?_⟩,I⟩⟩ ⟨zac ?_,I⟩⟩)));iterate 2 focus (first|omega|(simp_all;done)|(simp_all;omega))
  iterate 3 focus (first|rfl|(simp;done)|(rw[zfe od od,xag];first|rfl|(simp;done))|(simp;omega))
  refine ar (xaj (i+1) ⟨?_, ?_,sx ⟨⟨_,Z,xaQ ?_⟩,⟨⟨_,Z,LeA.gvg ?_⟩,I⟩⟩ ⟨zac ?_,I⟩⟩);iterate 2 focus (first|omega|(simp_all;done)|(simp_all;omega))
  iterate 3 focus (first|rfl|(simp;done)|(subst hg3;rw[zcV od,zge od])|(simp;omega))
  refine sqF ?_;refine ar (xaj (i+1) ⟨?_, ?_,sx ⟨⟨_,Z,xaQ ?_⟩,⟨⟨_,Z,LeA.gvg ?_⟩,I⟩⟩ ⟨zac ?_,I⟩⟩);iterate 2 focus (first|omega|(simp_all;done)|(simp_all;omega))
  iterate 3 focus (first|rfl|(simp;done)|(subst hg3;rw[zcV od,zge od])|(simp;omega))
  refine rn [(9,some (.tok ((allV w 400 (n+1) ⟨(d:Int),k⟩).map Val.cc).length 3))] (r1 Z) (.gvg ?_) ⟨Z,Z⟩ (SubH.get ⟨?_,I⟩) (zaX Z);rotate_left 2;refine sqF ?_;refine rn [(9,some (.tok ((allV w 400 (n+1) ⟨(d:Int),k⟩).map Val.cc).length 3))] (r1 Z) (.gvg ?_) ⟨Z,Z⟩ (SubH.get ⟨?_,I⟩) (zaX Z);rotate_left 2;all_goals (first|(((first|(rw[zes hne,zbv od];done)|(rw[zes hne,zbv od])));done)|(first|rfl|(show some (Res.tok _ _)=some (Res.tok _ _);congr 1;(first|(rw[zes hne,zbv od];done)|(rw[zes hne,zbv od])))))
theorem zqh:∀ {L:List Val}{i:Nat},i<L.length->cutC (((L.map Val.cc).flatten).map AV.d) (i*3) 3=some [.d (.i (nth L i).ctor),.d (.i (nth L i).num),.d (.sl (Val.cs (nth L i).kids))]
 |x::r,0,_=>by simp[cutC,nth]
 |x::r,i+1,h=>by
  have:=zqh (L:=r) (i:=i) (by simpa using h);rw[show(i+1)*3=i*3+1+1+1 by omega];simp only[xaf,List.flatten_cons,xai,List.nil_append,cutC];exact this
theorem zqJ:∀ {L:List Val}{i:Nat},i<L.length->putC (((L.map Val.cc).flatten).map AV.d) (i*3) [.d (.i (nth L i).ctor),.d (.i (nth L i).num),.d (.sl (Val.cs (nth L i).kids))]=some (((L.map Val.cc).flatten).map AV.d)
 |x::r,0,_=>by simp[putC,nth]
 |x::r,i+1,h=>by
  have:=zqJ (L:=r) (i:=i) (by simpa using h);rw[show(i+1)*3=i*3+1+1+1 by omega];simp only[xaf,List.flatten_cons,xai,List.nil_append,putC];have e:nth (x::r) (i+1)=nth r i:=rfl;rw[e,this]
theorem zq8 (L:List Val):zbN (L.map Val.cc).length 3 (((L.map Val.cc).flatten).map AV.d)=some (L.map Val.cc):=by
 have:=zdW (f:=Val.cc) (k:=3) (l:=L) (fun _ _=>rfl);rw[xac,<-this];congr 1
 rw[List.map_flatten,List.flatMap_def,List.map_map];rfl
theorem zna {w:List Data}{t:Ty}{n:Nat}:(allV w 400 n t).length<=400->zbh w n t<=400/\allV w 400 n t=zaC w n t:=fun h=>by
 rw[zji w 400 od] at h ⊢;rw[List.length_take] at h;rw[List.take_of_length_le od,zeo];refine⟨?_,rfl⟩;have:=zgf (zaC w n t).length;omega
theorem zpP {w:List Data}{t:Ty}{n:Nat}:400<(allV w 400 n t).length->400<zbh w n t:=fun h=>by
 rw[zji w 400 od,List.length_take] at h;rw[zeo];have:=zgf (zaC w n t).length;omega
theorem zst {w:List Data}{t:Ty}{m:Int} (h1:za2 w t=true) (h2:0<=m) (h3:m<=4) (h4:(allV w 400 m.toNat t).length<=400):vut w t m=(allV w 400 m.toNat t,true):=by
 obtain⟨q1,q2⟩:=zna h4;unfold vut;rw[if_pos (by simp[zat,h1,h2,h3,q1]),q2]
theorem zrJ {w:List Data}{t:Ty}{m:Int} (h4:400<(allV w 400 m.toNat t).length):vut w t m=([],false):=by
 have:=zpP h4;unfold vut;rw[if_neg (by intro hh;simp at hh;omega)]
theorem zqZ {w:List Data}{t:Ty}{m:Int} (h:za2 w t=false\/m<0\/4<m):vut w t m=([],false):=by
 unfold vut;rw[if_neg (by intro hh;simp[zat] at hh;rcases h with h|h|h;(rw[h] at hh;exact absurd hh.1 og);omega;omega)]
theorem zjF {w:List Data}{a b:Int} (hs:WSmall w):FnD Tryz.prog 86 [.d (zap w),.agg [.d (.i a),.d (.i b)]] [] (.d (.bool (za2 w ⟨a,b⟩))) []:=by
 rw[<-zoY];exact zfS hs
theorem zi9 {w:List Data} (hs:WSmall w){a k m:Int}:FnD Tryz.prog 42 [.d (zap w),.agg [.d (.i a),.d (.i k)],.d (.i m)] [] (.tup [.d (zbg (vut w ⟨a,k⟩ m).1),.d (.bool (vut w ⟨a,k⟩ m).2)]) []:=by
 refine bd Tryz.f42 46 [28,42] [999999] fun _ _ _ _ hk=>?_;refine bx 3004 ?_;refine evs [28,42] [] (wc zrQ (zjF hs) Z Z ?_);refine evs [28,42] [] ?_;apply sq<;>intro h1 h1p h1s<;>(try simp only[Q,xbg,Int.ofNat_lt,Int.ofNat_le] at h1p);refine sqT ?_;refine sqT ?_;refine xbW sl99 .none Z (evs [28,42] [] (CWp.ret (rn0 (r2 Z Z) (.tup (qee ?_ ?_)))));rotate_left 2;apply sq<;>intro h3 h3p h3s<;>(try simp only[Q,xbg,Int.ofNat_lt,Int.ofNat_le] at h3p);refine sqT ?_;refine xbW sl99 .none Z (evs [28,42] [] (CWp.ret (rn0 (r2 Z Z) (.tup (qee ?_ ?_)))));rotate_left 2;apply sq<;>intro h5 h5p h5s<;>(try simp only[Q,xbg,Int.ofNat_lt,Int.ofNat_le] at h5p);refine xbW sl99 .none Z (evs [28,42] [] (CWp.ret (rn0 (r2 Z Z) (.tup (qee ?_ ?_)))));rotate_left 2;refine Walk.call (cr:=[9]) zpg (zmU (zls hs ol) m.toNat od od (zlr ol)) Z .none Z Z (LeL.refl _) I Z Z Z ?_;refine evs [28,42] [] (xbK sl99 .none Z Z (evs [28,42] [] ?_));apply sq<;>intro h6 h6p h6s<;>(try simp only[Q,xbg,Int.ofNat_lt,Int.ofNat_le] at h6p);refine xbW sl99 .none Z (evs [28,42] [] (CWp.ret (rn0 (r2 Z Z) (.tup (qee ?_ ?_)))));rotate_left 2;refine CWp.fixV hk 8 9 3 Z Z Z (fun hx1=>?_) (fun hx1=>?_);refine xaD (ι:=Unit) hk (fun u=>[(9,.d (.i 0))]) [31,32,33,34,35,36,37,38,39,40,41,42,43,44] (fun u=>[]) (fun u=>True) (fun u=>0) () I ⟨⟨_,Z,xaQ ?_⟩,I⟩ I (fun x=>rfl) (fun u hg1=>?_);focus (first|rfl|(simp;done)|(simp_all;done)|omega)
 refine evc [28,42] [999999] ?_;apply sq<;>intro h7 h7p h7s<;>(try simp only[Q,xbg,Int.ofNat_lt,Int.ofNat_le] at h7p);exfalso;simp at h7;refine CWp.ret (rn0 (r2 Z Z) (.tup (qee ?_ ?_)));rotate_left 2;refine xaD (ι:=Nat) hk (fun i=>[(9,.d (.i (i:Int)))]) [31,32,33,34,35,36,37,38,39,40,41,42,43,44] (fun i=>[(9,some (.box (((allV w 400 m.toNat ⟨a,k⟩).map Val.cc).flatten.map .d)))]) (fun i=>i<=(allV w 400 m.toNat ⟨a,k⟩).length) (fun i=>(allV w 400 m.toNat ⟨a,k⟩).length-i) 0 og ⟨⟨_,Z,xaQ ?_⟩,I⟩ ⟨?_,I⟩ (fun x=>rfl) (fun i hg1=>?_);focus (first|rfl|(simp;done)|(simp_all;done)|omega)
 focus (first|rfl|(simp[getH];done))
 refine evc [28,42] [999999] ?_;apply sq<;>intro h8 h8p h8s<;>(try simp only[Q,xbg,Int.ofNat_lt,Int.ofNat_le] at h8p);refine xbG sl99 .none Z Z Z Z (by first|omega|(simp[xbg,Int.ofNat_lt,Int.ofNat_le];omega)) ?_;refine xbM zb6 .none Z Z Z ((zqh od)) ?_;refine wc zph (ze8 (nth (allV w 400 m.toNat ⟨a,k⟩) i).size (Nat.le_refl _) (zj2 (zls hs ol) m.toNat (zlr (t:=⟨a,k⟩) ol) _ (by have h9:=(zna (w:=w) (t:=⟨a,k⟩) (n:=m.toNat) od).2;rw[<-h9];exact zai od))) Z Z ?_;refine xbG sl99 .none Z Z Z Z (by first|omega|(simp[xbg,Int.ofNat_lt,Int.ofNat_le];omega)) ?_;refine Walk.store zb6 .none Z Z Z Z Z Z og ((zqJ od)) ?_;apply tv;refine ar (xaj (i+1) ⟨?_, ?_,sx ⟨⟨_,Z,xaQ ?_⟩,I⟩ ⟨?_,I⟩⟩);iterate 2 focus (first|omega|(simp_all;done)|(simp_all;omega))
 focus (first|rfl|(simp;done)|(simp_all;done)|omega)
 focus (first|rfl|(simp[getH];done))
 refine CWp.frz hk 6 9 _ _ Z Z (zq8 _) Z (CWp.ret (rn0 (r2 Z Z) (.tup (qee ?_ ?_))));rotate_left 2;all_goals (first|(rw[zqZ]<;>first|rfl|(left;assumption)|(right;omega))|(rw[zrJ]<;>first|rfl|omega)|(rw[zst]<;>first|assumption|omega|rfl|exact xam D.sl (xbe _).symm|exact xam D.sl ((xbe _).trans hx1).symm))
abbrev bdA (b:Bd):List AV:=[.d (.i b.var),.d (.i b.val.ctor),.d (.i b.val.num),.d (zbg b.val.kids)]
theorem ztZ (b:UInt8):0<=IntKind.i64.wrap (b.toNat:Int)/\IntKind.i64.wrap (b.toNat:Int)<=255:=by
 have h:b.toNat<256:=b.toNat_lt;rw[zh3 ⟨by omega,by omega⟩];omega
theorem ar8 (b:UInt8):I64 (0+IntKind.i64.wrap (b.toNat:Int)):=by
 have:=ztZ b;constructor<;>omega
section
variable {c:Ctx}{env:Env}{hp:Hp}{K:Kt}
theorem CWp.condF {x y:Code} (hn:CWp c y ⟨env,hp⟩ K):CWp c (.cond (.const (.bool false)) x y) ⟨env,hp⟩ K:=by
 intro a w hr;have he:a.eval (.const (.bool false)) = .bool false:=rfl;exact wp_cond_split he (fun h=>by cases h) (fun _=>hn a w hr)
end
def cmpV (x y:Int):Int:=if x<y then -1 else if y<x then 1 else 0
theorem zhy {x y:Int}:cmpV x y<0↔x<y:=by
 unfold cmpV;split
 ·omega
 ·split<;>omega
theorem zqV {n:Int} (h:0<=n) (h2:n<=12):IntKind.u64.wrap n=n:=by
 obtain⟨k,rfl⟩:=Int.eq_ofNat_of_zero_le h;have:k<=12:=by omega
 have h3:k=0\/k=1\/k=2\/k=3\/k=4\/k=5\/k=6\/k=7\/k=8\/k=9\/k=10\/k=11\/k=12:=by omega
 rcases h3 with rfl|rfl|rfl|rfl|rfl|rfl|rfl|rfl|rfl|rfl|rfl|rfl|rfl<;>rfl
theorem zrF {n:Int} (h:0<=n) (h2:n<=12):IntKind.u8.wrap n=n:=by
 obtain⟨k,rfl⟩:=Int.eq_ofNat_of_zero_le h;have:k<=12:=by omega
 have h3:k=0\/k=1\/k=2\/k=3\/k=4\/k=5\/k=6\/k=7\/k=8\/k=9\/k=10\/k=11\/k=12:=by omega
 rcases h3 with rfl|rfl|rfl|rfl|rfl|rfl|rfl|rfl|rfl|rfl|rfl|rfl|rfl<;>rfl
theorem zis {x:Int}:FnD Tryz.prog 155 [.d (.i x)] [] (.d (.bool false)) []:=by
 refine bd Tryz.f155 6 [] [] fun _ _ _ _ hk=>?_;refine rq ?_;rotate_left;all_goals ((refine xam D.bool ?_;simp;done))
theorem zlD {x y:Int}:FnD Tryz.prog 100 [.d (.i x),.d (.i y)] [] (.d (.i (cmpV x y))) []:=by
 refine bd Tryz.f100 20 [] [] fun _ _ _ _ hk=>?_;refine wc zp1 zis Z Z ?_;refine ev (wc zp1 zis Z Z ?_);refine ev ?_;apply sq<;>intro h1 h1p h1s<;>(try simp only[Q] at h1p);apply sq<;>intro h2 h2p h2s<;>(try simp only[Q] at h2p);refine rq ?_;rotate_left;refine rq ?_;rotate_left;apply sq<;>intro h3 h3p h3s<;>(try simp only[Q] at h3p);refine rq ?_;rotate_left;apply sq<;>intro h4 h4p h4s<;>(try simp only[Q] at h4p);refine rq ?_;rotate_left;apply sq<;>intro h5 h5p h5s<;>(try simp only[Q] at h5p);refine rq ?_;rotate_left;refine rq ?_;rotate_left;all_goals (refine xam D.i ?_;unfold cmpV;first|(simp_all;done)|(rw[if_pos od];done)|(rw[if_neg od,if_neg od];done))
theorem zmL {m:Int} (h0:0<=m) (h12:m<=12):FnD Tryz.prog 207 [.d (.int .u64 m)] [] .any []:=by
 have hu:=zrF h0 h12;refine bd Tryz.f207 25 [4,8,14] [] fun _ _ _ _ hk=>?_;refine xbD .none Z Z Z ?_;apply tv;apply sq<;>intro h1 h1p h1s<;>(try simp only[Q] at h1p);exfalso;omega;refine xbD .none Z Z Z ?_;apply tv;apply sq<;>intro h2 h2p h2s<;>(try simp only[Q] at h2p);exfalso;omega;refine xbD .none Z Z Z ?_;apply tv;apply sq<;>intro h3 h3p h3s<;>(try simp only[Q] at h3p);exfalso;omega;refine xbA (k':= .u8) oi oi .none Z Z ?_;refine xbI (i:=m.toNat) un9 .none Z Z Z (by rw[hu];omega) (xan (by first|omega|(simp;omega))) ?_;refine xbA (by rw[un5];rfl) un3 .none Z Z ?_;refine evs [4,8,14] [] (ar ?_ (ar8 _));refine rn0 (r1 Z) (.any _)
theorem zs2:Callee Tryz.prog 207:=⟨fun args w=>zaf (fn:=Tryz.f207) rfl rfl oj args w⟩
theorem zjH {m:Int} (h0:0<=m) (h12:m<=12):FnD Tryz.prog 154 [.d (.int .u64 m)] [] .any []:=by
 refine Fn.body (fn:=Tryz.f154) (n:=8) Z Z Z Z Z (fun _ _ _ _ hk=>?_);refine sr (asg ?_);apply tv;refine CWp.seq (CWp.condF (CWp.skip (sr (mv ?_))));refine wc zs2 (zmL h0 h12) Z Z ?_;refine asg ?_;apply tv;refine CWp.ret ?_;refine⟨_,_,[],(.cons (.tmp rfl) .nil),(.any _),⟨rfl,rfl⟩,HSub.nil,zr1⟩
structure MatchOk (w:List Data) (n m:Nat) (t:Ty) (p:Pat) (v:Val):Prop where
 shape:zaw w n t p=true
 fits:zbz w m t v=true
 pok:p.ok
 vok:v.ok
 psz:p.size<=100
 vsz:v.size<=100
theorem MatchOk.two {w:List Data}{n m:Nat}{t:Ty}{p:Pat}{v:Val} (h:MatchOk w (n+1) m t p v) (h5:p.op=5):
  p.kids.length=2/\MatchOk w n m t (nth p.kids 0) v/\MatchOk w n m t (nth p.kids 1) v:=by
 obtain⟨hl,s0,s1⟩:=zqO h.shape h5;have hpk:=(xaY p).1 h.pok;have hps:=xaZ p;have z0:=zeq (l:=p.kids) (i:=0) od;have z1:=zeq (l:=p.kids) (i:=1) od;have hs:=h.psz;exact⟨hl,⟨s0,h.fits,xa0 hpk.2 _ (zai od),h.vok,by omega,h.vsz⟩,⟨s1,h.fits,xa0 hpk.2 _ (zai od),h.vok,by omega,h.vsz⟩⟩
theorem MatchOk.one {w:List Data}{n m:Nat}{t:Ty}{p:Pat}{v:Val} (h:MatchOk w (n+1) m t p v) (h6:p.op=6):
  p.kids.length=1/\MatchOk w n m t (nth p.kids 0) v:=by
 obtain⟨hl,s0⟩:=zqN h.shape h6;have hpk:=(xaY p).1 h.pok;have hps:=xaZ p;have z0:=zeq (l:=p.kids) (i:=0) od;have hs:=h.psz;exact⟨hl,⟨s0,h.fits,xa0 hpk.2 _ (zai od),h.vok,by omega,h.vsz⟩⟩
structure VarsOk (l:List Bd) (vs:List Vt):Prop where
 len:l.length=vs.length
 nod:(l.map Bd.var).Nodup
 sub:∀x∈l.map Bd.var,x∈vs.map Vt.var
theorem zpO {a b:List Vt} (ha:zbQ a=true) (hb:zbQ b=true) (h:zcS a b=true):a.length=b.length/\∀x∈b.map Vt.var,x∈a.map Vt.var:=by
 rw[zks hb] at h;unfold zdd at h;simp only[xad,xah,Bool.not_eq_true',List.any_eq_false,Bool.not_eq_true,decide_eq_false_iff_not,Classical.not_not] at h;have na:=xas ha;refine⟨h.1,fun x hx=>?_⟩;by_cases hm:x∈a.map Vt.var
 ·exact hm
 ·have:=zgL (a:=x::a.map Vt.var) (b:=b.map Vt.var) (List.nodup_cons.2 ⟨hm,na⟩) (fun y hy=>by
   rcases List.mem_cons.1 hy with rfl|hy
   ·exact hx
   ·obtain⟨z,hz,rfl⟩:=List.mem_map.1 hy;exact List.mem_map.2 ⟨z,h.2 z hz,Z⟩)
  simp only[xab,xac] at this;omega
inductive Ex where
 |mk (op n ctor:Int) (kids:List Ex)
 deriving Inhabited
mutual
def Ex.c:Ex->List D
 | .mk op n ctor kids=>[.i op,.i n,.i ctor,.sl (Ex.cs kids)]
def Ex.cs:List Ex->List (List D)
 | []=>[]
 |v::r=>v.c::Ex.cs r
end
abbrev ztf (l:List Ex):D:= .sl (Ex.cs l)
theorem xaK:∀l:List Ex,Ex.cs l=l.map Ex.c
 | []=>rfl
 |v::r=>by simp[Ex.cs,xaK r]
theorem Ex.cs_len (l:List Ex):(Ex.cs l).length=l.length:=by simp[xaK]
def Ex.op:Ex->Int | .mk a0 _ _ _=>a0
def Ex.n:Ex->Int | .mk _ a1 _ _=>a1
def Ex.ctor:Ex->Int | .mk _ _ a2 _=>a2
def Ex.kids:Ex->List Ex | .mk _ _ _ k=>k
abbrev Ex.cc (v:Ex):List D:=[.i v.op,.i v.n,.i v.ctor,.sl (Ex.cs v.kids)]
theorem Ex.c_eq (v:Ex):v.c=v.cc:=by cases v;rfl
theorem Ex.eta (v:Ex):Ex.mk v.op v.n v.ctor v.kids=v:=by cases v;rfl
theorem Ex.cs_at' {pre:List Ex}{x:Ex}{rest xs:List Ex} (h:pre++x::rest=xs):(Ex.cs xs)[pre.length]?=some x.cc:=by rw[xaK,<-Ex.c_eq];exact zaL h
mutual
def exEq:Ex->Ex->Bool
 | .mk a0 a1 a2 ks,.mk b0 b1 b2 ls=>decide (a0=b0)&&(decide (a1=b1)&&(decide (a2=b2)&&zmZ ks ls))
def zmZ:List Ex->List Ex->Bool
 | [],[]=>true
 |x::r,y::s=>exEq x y&&zmZ r s
 |_,_=>false
end
mutual
def Ex.ok:Ex->Prop
 | .mk _ _ _ ks=>ks.length<=1000000000000/\Exs.ok ks
def Exs.ok:List Ex->Prop
 | []=>True
 |v::r=>v.ok/\Exs.ok r
end
theorem Exs.ok_mem:∀ {l:List Ex},Exs.ok l->∀v,v∈l->v.ok
 |x::r,h,v,hv=>by
  simp only[Exs.ok] at h;rcases List.mem_cons.1 hv with rfl|hv
  ·exact h.1
  ·exact Exs.ok_mem h.2 v hv
mutual
def Ex.size:Ex->Nat
 | .mk _ _ _ ks=>1+Exs.size ks
def Exs.size:List Ex->Nat
 | []=>0
 |v::r=>v.size+Exs.size r
end
theorem Exs.size_mem:∀ {l:List Ex}{v:Ex},v∈l->v.size<=Exs.size l
 |x::r,v,hv=>by
  simp only[Exs.size];rcases List.mem_cons.1 hv with rfl|hv
  ·omega
  ·have:=Exs.size_mem hv;omega
theorem Ex.ok_iff (v:Ex):v.ok↔v.kids.length<=1000000000000/\Exs.ok v.kids:=by cases v;rfl
theorem Ex.size_eq (v:Ex):v.size=1+Exs.size v.kids:=by cases v;rfl
mutual
theorem zqn:∀v:Ex,exEq v v=true
 | .mk _ _ _ ks=>by simp[exEq,zkF ks]
theorem zkF:∀l:List Ex,zmZ l l=true
 | []=>rfl
 |v::r=>by simp[zmZ,zqn v,zkF r]
end
theorem Ex.cs_cc (l:List Ex):Ex.cs l=l.map Ex.cc:=by
 rw[xaK];exact List.map_congr_left (fun v _=>Ex.c_eq v)
mutual
def mEx:Ex->Nat
 | .mk _ _ _ ks=>mExs ks
def mExs:List Ex->Nat
 | []=>0
 |v::r=>1+mEx v+mExs r
end
structure Gd where
 op:Int
 var:Int
 n:Int
 deriving Inhabited
structure Cl where
 pat:Pat
 g:Gd
 deriving Inhabited
structure Ft where
 arg:Ty
 res:Ty
 deriving Inhabited
structure Fu where
 ty:Ft
 cls:List Cl
 bodies:List Ex
 deriving Inhabited
abbrev Cl.c (x:Cl):List D:=[.i x.pat.op,.i x.pat.ctor,.i x.pat.n,.i x.pat.m,.i x.pat.var,.sl (Pat.cs x.pat.kids),.i x.g.op,.i x.g.var,.i x.g.n]
abbrev zbD (l:List Cl):D:= .sl (l.map Cl.c)
abbrev Ft.c (x:Ft):List D:=[.i x.arg.data,.i x.arg.index,.i x.res.data,.i x.res.index]
abbrev Fu.c (x:Fu):List D:=[.i x.ty.arg.data,.i x.ty.arg.index,.i x.ty.res.data,.i x.ty.res.index,zbD x.cls,ztf x.bodies]
def ClsOk (l:List Cl):Prop:=l.length<=1000000000000/\∀c∈l,c.pat.ok
def mCl (c:Cl):Nat:=mPat c.pat
def mCls (l:List Cl):Nat:=l.length+(l.map mCl).sum
def gdEq (a b:Gd):Bool:=decide (a.op=b.op)&&(decide (a.var=b.var)&&decide (a.n=b.n))
def clEq (a b:Cl):Bool:=zfp a.pat b.pat&&gdEq a.g b.g
def zrV (a b:List Cl):Bool:=all2 clEq a b
theorem zmc {α:Type}{f:α->α->Bool} (h:∀x,f x x=true):∀l:List α,all2 f l l=true
 | []=>rfl
 |x::r=>by simp[all2,h x,zmc h r]
theorem zqa (a:Cl):clEq a a=true:=by simp[clEq,gdEq,zk9]
theorem zkz (l:List Cl):zrV l l=true:=zmc zqa l
theorem zj9 {c:Cl}{left:Int} (hok:c.pat.ok) (k0:0<=left) (k1:left<=1000000000000):
  FnD Tryz.prog 40 [.agg [.d (.i c.pat.op),.d (.i c.pat.ctor),.d (.i c.pat.n),.d (.i c.pat.m),.d (.i c.pat.var),.d (zau c.pat.kids),.d (.i c.g.op),.d (.i c.g.var),.d (.i c.g.n)],.d (.i left)] [] (.d (.i (szr left (mCl c)))) []:=by
 have z:=zbL (left:=left) (mCl c);refine bd Tryz.f40 12 [] [] fun _ _ _ _ hk=>?_;refine bx 3002 ?_;refine ev (wc zrP (zfO _ (Nat.le_refl _) hok k0 k1) Z Z ?_);refine ev ?_;apply sq<;>intro h1 h1p h1s<;>(try simp only[Q] at h1p);refine rq ?_;rotate_left;refine rq ?_;rotate_left;all_goals (refine xam D.i ?_;unfold mCl at *;omega)
theorem zjA {l:List Cl}{left:Int} (hs:ClsOk l) (k0:0<=left) (k1:left<=1000000000000):FnD Tryz.prog 12 [.d (zbD l),.d (.i left)] [] (.d (.i (szr left (mCls l)))) []:=by
 have h:=hs.1;have z:=zbL (left:=left) (mCls l);simp only[mCls] at z ⊢;refine bd Tryz.f12 27 [] [] fun _ _ _ _ hk=>?_;refine ar ?_;apply sq<;>intro h1 h1p h1s<;>(try simp only[Q] at h1p);refine rq ?_;rotate_left;refine xaD (ι:=List (Cl)×List (Cl)×(Int)) hk (fun x=>[(5,.d (.i (x.1.length:Int))),(1,.d (.i x.2.2))]) [4,12,13,14,15,16,17,18,19,20,21,22,23,24,25] (fun x=>[]) (fun x=>x.1++x.2.1=l/\x.2.2=left-l.length-(x.1.map mCl).sum/\0<=x.2.2) (fun x=>x.2.1.length) ([],l,left-l.length) ⟨by simp,by simp,by simp at *;omega⟩ ⟨⟨_,Z,xaQ ?_⟩,⟨⟨_,Z,xaQ ?_⟩,I⟩⟩ I (fun x=>rfl) (fun x hg1=>?_);iterate 2 focus (first|rfl|(simp;done))
 obtain⟨pre,rest,v⟩:=x;dsimp only at hg1 ⊢;refine evc [] [] ?_;apply sq<;>intro h2 h2p h2s<;>(try simp only[Q] at h2p);rcases rest with _|⟨y,rest⟩
 ·exfalso;simp_all
 refine ixq sl44 Z Z Z (zaL hg1.1) Z (ev (wc ztz (zj9 (c:=y) (hs.2 y (by rw[<-hg1.1];simp)) od od) Z Z ?_));refine ev ?_;apply sq<;>intro h3 h3p h3s<;>(try simp only[Q] at h3p);refine rq ?_;rotate_left;refine ar (xaj ((pre++[y],rest,szr v (mCl y))) ⟨⟨(by have hz:=hg1.1;rw[<-hz];simp),(by have e:=zc2 (f:=mCl) hg1.1;have z3:=zbL (left:=v) (mCl y);simp;omega)⟩,og,sx ⟨⟨_,Z,xaQ ?_⟩,⟨⟨_,Z,xaQ ?_⟩,I⟩⟩ I⟩);iterate 2 focus (first|rfl|(simp;done))
 have hrest:rest=[]:=by
  rcases rest with _|⟨a,b⟩
  ·rfl
  ·exfalso;have hz:=xam List.length (hg1.1);simp only[xaa,xab,xac] at hz;omega
 subst hrest;refine rq ?_;rotate_left;all_goals (refine xam D.i ?_;first|omega|(have e:=zc2 (f:=mCl) hg1.1;have z3:=zbL (left:=v) (mCl y);omega)|(rw[xaq] at hg1;rw[hg1.1] at hg1;omega))
theorem zk1 {a b c:Int}:FnD Tryz.prog 95 [.agg [.d (.i a),.d (.i b),.d (.i c)]] [] (.agg [.d (.i a),.d (.i b),.d (.i c)]) []:=by
 refine bd Tryz.f95 14 [] [] fun _ _ _ _ hk=>?_;refine bx 3001 ?_;refine ab 3002 tz76 ?_;apply tv;refine ab 3003 tz76 ?_;apply tv;refine so ty3 ?_;apply tv;refine so ty3 ?_;apply tv;refine so ty3 ?_;apply tv;refine so ty76 ?_;apply tv;focus (refine rn0 (ra ty76) (.agg (qeee ?_ ?_ ?_));all_goals (first|rfl|(simp[];done)|(simp_all;done)|(simp_all;omega)|omega))
theorem zka {c:Cl} (hok:c.pat.ok):
  FnD Tryz.prog 45 [.agg [.d (.i c.pat.op),.d (.i c.pat.ctor),.d (.i c.pat.n),.d (.i c.pat.m),.d (.i c.pat.var),.d (zau c.pat.kids),.d (.i c.g.op),.d (.i c.g.var),.d (.i c.g.n)]] [] (.agg [.d (.i c.pat.op),.d (.i c.pat.ctor),.d (.i c.pat.n),.d (.i c.pat.m),.d (.i c.pat.var),.d (zau c.pat.kids),.d (.i c.g.op),.d (.i c.g.var),.d (.i c.g.n)]) []:=by
 refine bd Tryz.f45 13 [] [] fun _ _ _ _ hk=>?_;refine bx 3001 ?_;refine ab 3002 tz78 ?_;apply tv;refine ab 3003 tz78 ?_;apply tv;refine wc zrS (zjB hok) Z Z ?_;refine ev (so ty74 ?_);apply tv;refine wc ztX zk1 Z Z ?_;refine ev (so ty76 ?_);apply tv;refine so ty78 ?_;apply tv;focus (refine rn0 (ra ty78) (.agg (qeeeeeeeee ?_ ?_ ?_ ?_ ?_ ?_ ?_ ?_ ?_));all_goals (first|rfl|(simp[];done)|(simp_all;done)|(simp_all;omega)|omega))
theorem zdU {l:List Cl} (hs:ClsOk l):FnD Tryz.prog 16 [.d (zbD l)] [] (.d (zbD l)) []:=by
 have h:=hs.1;refine bd Tryz.f16 23 [] [999999] fun _ _ _ _ hk=>?_;refine xbN (id:=3007) sl32 tz78 Z oj (zdT Z) .none Z Z Z ot ot Z Z Z ?_;refine ev (xaD (ι:=List (Cl)×List (Cl)) hk (fun x=>[(4,.d (.i (x.1.length:Int)))]) [8,9,10,11,12,13,14,15,16,17,18,19,20,21] (fun x=>[(3007,some (.box ((x.1.flatMap fun x=>(Cl.c x).map AV.d)++za1 x.2.length [.d (.i 0),.d (.i 0),.d (.i 0),.d (.i 0),.d (.i 0),.nils,.d (.i 0),.d (.i 0),.d (.i 0)])))]) (fun x=>x.1++x.2=l) (fun x=>x.2.length) ([],l) og ⟨⟨_,Z,xaQ ?_⟩,I⟩ ⟨?_,I⟩ (fun x=>rfl) (fun x hg1=>?_));focus (first|rfl|(simp;done)|(simp_all;done)|omega)
 focus (first|rfl|(show some (Res.box _)=some (Res.box _);simp;done))
 obtain⟨pre,rest⟩:=x;dsimp only at hg1 ⊢;refine evc [] [999999] ?_;apply sq<;>intro h1 h1p h1s<;>(try simp only[Q] at h1p);rcases rest with _|⟨y,rest⟩
 ·exfalso;simp_all
 refine ixq sl44 Z Z Z (zaL hg1) Z (ev (wc ztC (zka (c:=y) (hs.2 y (by rw[<-hg1];simp))) Z Z ?_));refine xbG sl32 .none Z Z Z Z (by first|omega|(simp ;omega)) ?_;refine Walk.store ty78 .none Z Z Z Z Z Z og ((zgN (k:=9) (by intro x _;rfl) (by first|rfl|simp) Z)) ?_;apply tv;refine ar (xaj ((pre++[y],rest)) ⟨(by have hz:=hg1;rw[<-hz];simp),og,sx ⟨⟨_,Z,xaQ ?_⟩,I⟩ ⟨?_,I⟩⟩);focus (first|rfl|(simp;done)|(simp_all;done)|omega)
 focus (first|rfl|(show some (Res.box _)=some (Res.box _);simp;done))
 have hrest:rest=[]:=by
  rcases rest with _|⟨a,b⟩
  ·rfl
  ·exfalso;have hz:=xam List.length (hg1);simp only[xaa,xab,xac] at hz;omega
 subst hrest;refine CWp.frz hk 2 3007 _ _ Z Z (zfg (f:=Cl.c) (k:=9) hg1 og (by intro x _;rfl)) Z ?_;refine CWp.ret ?_;focus (refine rq ?_;all_goals (first|rfl|(simp[h1s,h1p];done)|(simp_all;done)|(simp_all;omega)|omega))
theorem zkV {a b:Gd}:FnD Tryz.prog 110 [.agg [.d (.i a.op),.d (.i a.var),.d (.i a.n)],.agg [.d (.i b.op),.d (.i b.var),.d (.i b.n)]] [] (.d (.bool (gdEq a b))) []:=by
 refine bd Tryz.f110 20 [] [] fun _ _ _ _ hk=>?_;refine bx 3002 ?_;refine bx 3003 ?_;refine ev ?_;apply sq<;>intro h1 h1p h1s<;>(try simp only[Q] at h1p);focus (refine rq ?_;all_goals (refine xam D.bool ?_;simp[gdEq,h1s,h1p]))
 apply sq<;>intro h2 h2p h2s<;>(try simp only[Q] at h2p);focus (refine rq ?_;all_goals (refine xam D.bool ?_;simp[gdEq,h1s,h1p,h2s,h2p]))
 apply sq<;>intro h3 h3p h3s<;>(try simp only[Q] at h3p);focus (refine rq ?_;all_goals (refine xam D.bool ?_;simp[gdEq,h1s,h1p,h2s,h2p,h3s,h3p]))
 focus (refine rq ?_;all_goals (refine xam D.bool ?_;simp[gdEq,h1s,h1p,h2s,h2p,h3s,h3p]))
theorem zj8 {a b:Cl} (hok:a.pat.ok):
  FnD Tryz.prog 51 [.agg [.d (.i a.pat.op),.d (.i a.pat.ctor),.d (.i a.pat.n),.d (.i a.pat.m),.d (.i a.pat.var),.d (zau a.pat.kids),.d (.i a.g.op),.d (.i a.g.var),.d (.i a.g.n)],.agg [.d (.i b.pat.op),.d (.i b.pat.ctor),.d (.i b.pat.n),.d (.i b.pat.m),.d (.i b.pat.var),.d (zau b.pat.kids),.d (.i b.g.op),.d (.i b.g.var),.d (.i b.g.n)]] [] (.d (.bool (clEq a b))) []:=by
 refine bd Tryz.f51 17 [] [] fun _ _ _ _ hk=>?_;refine bx 3002 ?_;refine bx 3003 ?_;refine ev (wc zpU (zfN (a:=a.pat) (b:=b.pat) _ (Nat.le_refl _) hok) Z Z ?_);refine ev ?_;apply sq<;>intro h1 h1p h1s<;>(try simp only[Q] at h1p);focus (refine rq ?_;all_goals (refine xam D.bool ?_;simp[clEq,h1s,h1p]))
 refine wc zsB (zkV (a:=a.g) (b:=b.g)) Z Z ?_;refine ev ?_;apply sq<;>intro h2 h2p h2s<;>(try simp only[Q] at h2p);focus (refine rq ?_;all_goals (refine xam D.bool ?_;simp[clEq,h1s,h1p,h2s,h2p]))
 focus (refine rq ?_;all_goals (refine xam D.bool ?_;simp[clEq,h1s,h1p,h2s,h2p]))
theorem zjz {l m:List Cl} (hs:ClsOk l):FnD Tryz.prog 19 [.d (zbD l),.d (zbD m)] [] (.d (.bool (zrV l m))) []:=by
 have h:=hs.1;refine bd Tryz.f19 27 [] [] fun _ _ _ _ hk=>?_;apply sq<;>intro h1 h1p h1s<;>(try simp only[Q,xal] at h1p);refine rq ?_;rotate_left;refine xaD (ι:=Nat) hk (fun i=>[(5,.d (.i (i:Int)))]) [4,11,12,13,14,15,16,17,18,19,20,21,22,23,24,25,26] (fun i=>[]) (fun i=>i<=l.length/\∀i',i'<i->clEq (nth l i') (nth m i')=true) (fun i=>l.length-i) 0 ⟨by omega,fun _ h=>absurd h od⟩ ⟨⟨_,Z,xaQ ?_⟩,I⟩ I (fun x=>rfl) (fun i hg1=>?_);focus (first|rfl|(simp;done)|(simp_all;done)|omega)
 refine evc [] [] ?_;apply sq<;>intro h2 h2p h2s<;>(try simp only[Q,xal] at h2p);refine ixq sl32 Z Z Z (zao od) Z ?_;refine evd [] [] (ixq sl32 Z Z Z (zao od) Z ?_);refine evd [] [] (wc ztG (zj8 (a:=nth l i) (b:=nth m i) (hs.2 _ (zai od))) Z Z ?_);refine evd [] [] (dr ?_);apply sq<;>intro h3 h3p h3s<;>(try simp only[Q,xal] at h3p);refine rq ?_;rotate_left;refine ar (xaj (i+1) ⟨⟨by omega,zaR hg1.2 ol⟩,od,sx ⟨⟨_,Z,xaQ ?_⟩,I⟩ I⟩);focus (first|rfl|(simp;done)|(simp_all;done)|omega)
 refine rq ?_;rotate_left;all_goals (refine xam D.bool ?_;first|(refine(zeV ?_).symm;omega)|(refine(zd3 od (fun x hx=>hg1.2 x od)).symm)|(refine(zcm (i:=i) od od ?_).symm;assumption))
mutual
def cntE (m:Int):Ex->Int
 | .mk _ _ _ ks=>zdJ m 1 ks
def zdJ (m n:Int):List Ex->Int
 | []=>n
 |k::r=>if n<=m then zdJ m (n+cntE (m-n) k) r else n
end
theorem zpk {m n:Int}{l:List Ex} (h:¬n<=m):zdJ m n l=n:=by cases l<;>simp[zdJ,h]
mutual
theorem zoA:∀(v:Ex) (m:Int),1<=cntE m v/\cntE m v<=v.size
 | .mk _ _ _ ks,m=>by
  have:=zjY ks m 1 od;simp only[cntE,Ex.size];push_cast;omega
theorem zjY:∀(l:List Ex) (m n:Int),1<=n->1<=zdJ m n l/\zdJ m n l<=n+Exs.size l
 | [],m,n,h=>by simp[zdJ,Exs.size];omega
 |k::r,m,n,h=>by
  have h1:=zoA k (m-n);have h2:=zjY r m (n+cntE (m-n) k) od;simp only[zdJ,Exs.size];split
  ·push_cast;omega
  ·push_cast;omega
end
mutual
theorem zrb:∀(v:Ex) (m:Int),(cntE m v<=m↔(v.size:Int)<=m)/\(cntE m v<=m->cntE m v=v.size)
 | .mk _ _ _ ks,m=>by
  have:=zmf ks m 1;simp only[cntE,Ex.size];push_cast;exact this
theorem zmf:∀(l:List Ex) (m n:Int),(zdJ m n l<=m↔n+(Exs.size l:Int)<=m)/\(zdJ m n l<=m->zdJ m n l=n+Exs.size l)
 | [],m,n=>by simp[zdJ,Exs.size]
 |k::r,m,n=>by
  have h1:=zrb k (m-n);have h2:=zmf r m (n+cntE (m-n) k);have h3:=zjY r m (n+cntE (m-n) k);have h4:=zoA k (m-n);simp only[zdJ,Exs.size];push_cast
  by_cases hn:n<=m
  ·rw[if_pos hn];by_cases h5:cntE (m-n) k<=m-n
   ·have h6:=h1.2 h5;rw[h6] at h2 ⊢;constructor
    ·rw[h2.1];constructor<;>intro h<;>omega
    ·intro h;rw[h2.2 h];omega
   ·have h7:¬(k.size:Int)<=m-n:=fun h=>h5 (h1.1.2 h);have h8:¬n+cntE (m-n) k<=m:=by omega
    rw[zpk h8];constructor
    ·constructor<;>intro h<;>omega
    ·intro h;omega
  ·rw[if_neg hn];constructor
   ·constructor<;>intro h<;>omega
   ·intro h;omega
end
def TyOk (n:Nat) (t:Ty):Prop:=TyIn n t/\(t.data = -1->t.index=0)
def gdOk (g:Gd) (vars:List Vt):Bool:=if g.op=0 then decide (g.var=0/\g.n=0) else decide (1<=g.op/\g.op<=2/\0<=g.n/\g.n<=9)&&decide ((⟨g.var,⟨-1,0⟩⟩:Vt)∈vars)
def zgB (w:List Data) (t:Ty) (p:Pat):List Vt:=zcR (zaM w 10 t p 0).1
def clOk (w:List Data) (t:Ty) (c:Cl):Bool:=isP w t c.pat&&gdOk c.g (zgB w t c.pat)
def zaU (w:List Data) (t:Ty) (l:List Cl):Bool:=za2 w t&&(decide ((l.length:Int)<=8)&& !l.any fun c=> !clOk w t c)
theorem zg7 {xs:List Cl}{f:Nat}{caps:List AV}{hp:Hp}{p:Cl->Bool} (hs:xs.length<=1000000000000) (hcal:Callee Tryz.prog f)
  (hf:∀t∈xs,FnD Tryz.prog f ([.agg [.d (.i t.pat.op),.d (.i t.pat.ctor),.d (.i t.pat.n),.d (.i t.pat.m),.d (.i t.pat.var),.d (zau t.pat.kids),.d (.i t.g.op),.d (.i t.g.var),.d (.i t.g.n)]]++caps) hp (.d (.bool (p t))) []) (k1:subH hp hp) (k2:zdM hp=true) (k3:zbi hp [] (.d .nilp) []=true):
  FnD Tryz.prog 128 [.d (zbD xs),.fn f caps] hp (.d (.i (idxF p xs 0))) []:=by
 refine bd Tryz.f128 19 [] [] fun _ _ _ _ hk=>?_;refine xaD (ι:=List (Cl)×List (Cl)) hk (fun x=>[(8,.d (.i (x.1.length:Int)))]) [4,5,9,10,11,12,13,14,15,16,17,18] (fun x=>[]) (fun x=>x.1++x.2=xs/\idxF p x.2 x.1.length=idxF p xs 0) (fun x=>x.2.length) ([],xs) ⟨by simp,Z⟩ ⟨⟨_,Z,xaQ ?_⟩,I⟩ I (fun x=>zfT hp) (fun x hg1=>?_);focus (first|rfl|(simp;done)|(simp_all;done)|omega)
 obtain⟨pre,rest⟩:=x;dsimp only at hg1 ⊢;refine evc [] [] ?_;apply sq<;>intro h1 h1p h1s<;>(try simp only[Q] at h1p);rcases rest with _|⟨y,rest⟩
 ·exfalso;simp_all
 refine ixq sl32 Z Z Z (zaL hg1.1) Z (ev (xby (cr:=[]) hcal (hf y (by rw[<-hg1.1];simp)) Z .none Z Z Z (LeL.refl _) k1 k2 (zei k3 _) Z ?_));apply tv;apply sq<;>intro h2 h2p h2s<;>(try simp only[Q] at h2p);focus (refine rn [] (r1 Z) (.eqd ?_) ⟨Z,Z⟩ (fun _ _ h=>h) (fun _ h=>h);all_goals (rw[<-hg1.2];simp[idxF,h1s,h1p,h2s,h2p]))
 refine ar (xaj ((pre++[y],rest)) ⟨⟨(by have hz:=hg1.1;rw[<-hz];simp),(by rw[<-hg1.2];simp[idxF,h2s])⟩,og,Sub.x oi oi ⟨⟨_,Z,xaQ ?_⟩,I⟩ og (by simp[zcU]) I⟩);focus (first|rfl|(simp;done)|(simp_all;done)|omega)
 have hrest:rest=[]:=by
  rcases rest with _|⟨a,b⟩
  ·rfl
  ·exfalso;have hz:=xam List.length (hg1.1);simp only[xaa,xab,xac] at hz;omega
 subst hrest;focus (refine rn [] (r1 Z) (.eqd ?_) ⟨Z,Z⟩ (fun _ _ h=>h) (fun _ h=>h);all_goals (rw[<-hg1.2];simp[idxF,h1s,h1p]))
theorem zf6 {xs:List Cl}{f:Nat}{caps:List AV}{hp:Hp}{p:Cl->Bool} (hs:xs.length<=1000000000000) (hcal:Callee Tryz.prog f)
  (hf:∀t∈xs,FnD Tryz.prog f ([.agg [.d (.i t.pat.op),.d (.i t.pat.ctor),.d (.i t.pat.n),.d (.i t.pat.m),.d (.i t.pat.var),.d (zau t.pat.kids),.d (.i t.g.op),.d (.i t.g.var),.d (.i t.g.n)]]++caps) hp (.d (.bool (p t))) []) (k1:subH hp hp) (k2:zdM hp=true) (k3:zbi hp [] (.d .nilp) []=true):
  FnD Tryz.prog 70 [.d (zbD xs),.fn f caps] hp (.d (.bool (xs.any p))) []:=by
 refine bd Tryz.f70 9 [] [] fun _ _ _ _ hk=>?_;refine Walk.call (cr:=[]) zsF (zg7 hs hcal hf k1 k2 k3) Z .none Z Z (LeL.refl _) k1 k2 (zei k3 _) Z (ev (rn [] (r1 Z) (.eqd ?_) ⟨Z,Z⟩ (fun _ _ h=>h) (fun _ h=>h)));rotate_left;all_goals (exact xam D.bool (ze3 p xs 0))
theorem zpM (w:List Data) (t:Ty) (p:Pat):(zgB w t p).length<=6:=(ze6 w 10 t p 0).2
theorem zkQ {g:Gd}{vars:List Vt} (hv:vars.length<=1000000000000):FnD Tryz.prog 129 [.agg [.d (.i g.op),.d (.i g.var),.d (.i g.n)],.d (zcq vars)] [] (.d (.bool (gdOk g vars))) []:=by
 refine bd Tryz.f129 27 [10] [] fun _ _ _ _ hk=>?_;refine bx 3002 ?_;refine evs [10] [] ?_;apply sq<;>intro h1 h1p h1s<;>(try simp only[Q,zat] at h1p);refine bu [] [] st76 ?_;refine Walk.eqV eq76 .none Z Z Z Z Z (evs [10] [] (rq ?_));rotate_left;refine wc zd4 zba Z Z ?_;refine evs [10] [] ?_;apply sq<;>intro h2 h2p h2s<;>(try simp only[Q,zat] at h2p);refine Walk.call (cr:=[]) zd4 zba Z (.some Z Z h2) Z Z (LeL.refl _) I Z Z Z (evs [10] [(14,true)] ?_ ⟨⟨_,Z,h2⟩,I⟩);apply sq<;>intro h3 h3p h3s<;>(try simp only[Q,zat] at h3p);refine Walk.build st29 (ks:=[0]) (xs:=[_]) Z Z (.some Z Z h3) Z Z Z (Walk.build zpF (ks:=[0,1]) (xs:=[_,_]) Z Z (.some Z Z h3) Z Z Z (Walk.call (cr:=[]) zp4 (zer (v:=⟨g.var,⟨-1,0⟩⟩) hv) Z (.some Z Z h3) Z Z (LeL.refl _) I Z Z Z (evs [10] [(19,true)] ?_ ⟨⟨_,Z,h3⟩,I⟩)));refine rq ?_;rotate_left;refine rq ?_;rotate_left;refine sqF ?_;refine rq ?_;rotate_left;all_goals (refine xam D.bool ?_;unfold gdOk;first|(rw[if_pos od];simp_all;done)|(rw[if_neg od];simp_all[zat];done)|(rw[if_neg od];simp_all[zat];omega))
theorem zj4 {w:List Data} (hw:WT w){t:Ty}{c:Cl} (ht:TyIn w.length t) (hok:c.pat.ok):
  FnD Tryz.prog 72 [.d (zap w),.agg [.d (.i t.data),.d (.i t.index)],.agg [.d (.i c.pat.op),.d (.i c.pat.ctor),.d (.i c.pat.n),.d (.i c.pat.m),.d (.i c.pat.var),.d (zau c.pat.kids),.d (.i c.g.op),.d (.i c.g.var),.d (.i c.g.n)]] [] (.d (.bool (clOk w t c))) []:=by
 have ht':TyIn w.length ⟨t.data,t.index⟩:=ht;have hvl:=zpM w t c.pat;refine bd Tryz.f72 24 [] [] fun _ _ _ _ hk=>?_;refine bx 3004 ?_;refine bx 3005 ?_;refine ev (wc ztM (zig hw ht' hok) Z Z ?_);refine ev ?_;apply sq<;>intro h1 h1p h1s<;>(try simp only[Q] at h1p);refine Walk.call (cr:=[]) zsG (zkQ (g:=c.g) (vars:=zgB w t c.pat) od) Z (.some Z Z h1) Z Z (LeL.refl _) I Z Z Z ?_;refine evs [] [(18,true)] ?_ ⟨⟨_,Z,h1⟩,I⟩;refine rq ?_;rotate_left;refine rq ?_;rotate_left;all_goals (refine xam D.bool ?_;unfold clOk;have hte:(⟨t.data,t.index⟩:Ty)=t:=rfl;(simp_all;done))
theorem zg3 {w:List Data} (hw:WT w){a k:Int}{c:Cl} (ht:TyIn w.length ⟨a,k⟩) (hok:c.pat.ok):
  FnD Tryz.prog 71 [.agg [.d (.i c.pat.op),.d (.i c.pat.ctor),.d (.i c.pat.n),.d (.i c.pat.m),.d (.i c.pat.var),.d (zau c.pat.kids),.d (.i c.g.op),.d (.i c.g.var),.d (.i c.g.n)],.ref 3003 0,.ref 3004 0] [(3003,some (.box [.d (zap w)])),(3004,some (.box [.d (.i a),.d (.i k)]))] (.d (.bool (!clOk w ⟨a,k⟩ c))) []:=by
 refine bd Tryz.f71 10 [] [] fun _ _ _ _ hk=>?_;refine bx 3901 ?_;refine ev (wc ztL (zj4 (t:=⟨a,k⟩) (c:=c) hw ht hok) Z Z ?_);refine ev (rn [] (r1 Z) (.eqd ?_) ⟨Z,Z⟩ (SubH.get ⟨Z,⟨Z,I⟩⟩) (fun _ h=>h));rotate_left;all_goals (rfl)
theorem zc8 {w:List Data} (hs:WSmall w){a k:Int}{l:List Cl} (hl:ClsOk l):
  FnD Tryz.prog 31 [.d (zap w),.agg [.d (.i a),.d (.i k)],.d (zbD l)] [] (.d (.bool (zaU w ⟨a,k⟩ l))) []:=by
 have hll:=hl.1;refine bd Tryz.f31 21 [] [] fun _ _ _ _ hk=>?_;refine bx 3003 ?_;refine bx 3004 ?_;refine ev (wc zrN (zfM hs) Z Z ?_);refine ev ?_;apply sq<;>intro h1 h1p h1s<;>(try simp only[Q] at h1p);apply sq<;>intro h2 h2p h2s<;>(try simp only[Q] at h2p);refine xbz (xs:=[_,_]) Z (.some Z Z h2) Z Z (Walk.call (cr:=[]) ztJ (zf6 (p:=fun c=> !clOk w ⟨a,k⟩ c) hl.1 ztK (fun t htm=>zg3 (zkq hs (zgA ol).1) (zgA ol).2.1 (hl.2 t htm)) ⟨Z,Z,I⟩ Z Z) Z (.some Z Z h2) Z Z (LeL.refl _) ⟨Z,Z,I⟩ Z Z Z ?_);refine evs [] [(15,true)] ?_ ⟨⟨_,Z,h2⟩,I⟩;refine rq ?_;rotate_left;refine rq ?_;rotate_left;refine sqF ?_;refine rq ?_;rotate_left;all_goals (refine xam D.bool ?_;unfold zaU;first|(simp_all;done)|(simp_all;omega))
def AZ (w:List Data):Prop:=∀t c,c∈za0 w t->TyIn w.length t->∀u∈zaB w t c,u.data = -1->u.index=0
theorem zrG {w:List Data} (hv:zbp w=true):AZ w:=by
 have hW:=(zco w).1 hv;rintro ⟨a,k⟩ c hc ht u hu hd
 obtain⟨d,rfl,h1,j,rfl,h3⟩:=zcN ht hc;have hco:=hW.ctor _ (zai h1) _ (zai h3);simp only[zbw,xad,xah,Bool.not_eq_true',List.any_eq_false,Bool.not_eq_false'] at hco;have hall:=hco.2.2.2;simp only[zaB,Int.toNat_natCast] at hu;obtain⟨x,hx,rfl⟩:=List.mem_map.1 hu;have hxo:=hall x hx;simp only[zbJ,zat,Bool.or_eq_true,xad,xah,and_true,Bool.not_eq_true',Bool.not_eq_false] at hxo;unfold zch at hd ⊢;split at hd
 ·rename_i hi;rw[if_pos hi];dsimp only at hd ⊢;omega
 ·rename_i hi;rw[if_neg hi];omega
theorem zqU {n:Nat}{t:Ty} (h:zdE n t=true):TyOk n t:=by
 refine⟨zmH h,fun hd=>?_⟩;simp only[zdE,zat,Bool.or_eq_true,xad,xah,and_true] at h;omega
theorem zqW {w:List Data}{t:Ty}{p:Pat} (h:isP w t p=true):zgB w t p=zaI w 10 t p:=by
 unfold isP at h;simp only[xad,xah] at h;have e:=(ze5 w 10 t p 0).1;have hw:zbC w 10 t p 0=true:=by
  unfold zbC;rw[h.1,h.2.2,xax od];rfl
 rw[if_pos hw] at e;unfold zgB;rw[e];rfl
theorem zqX {w:List Data}{t:Ty}{p:Pat} (h:isP w t p=true):zbQ (zaI w 10 t p)=true:=by
 unfold isP at h;simp only[xad] at h;exact zdA w 10 t p h.1 h.2.2
theorem zoj {w:List Data} (hw:WT w) (haz:AZ w):∀(n:Nat){t:Ty}{p:Pat},zaw w n t p=true->TyOk w.length t->∀v∈zaI w n t p,TyOk w.length v.ty
 |0,t,p,h,_=>by simp[zaw] at h
 |n+1,t,p,h,ht=>by
  obtain⟨ho,hlen⟩:=zck h;intro v hv;have hto:∀u∈zag w t p,TyOk w.length u:=fun u hu=>by
   refine⟨zfE (a:=t.data) (k:=t.index) hw ht.1 ho u hu,fun hd=>?_⟩;unfold zag at hu;split at hu
   ·rename_i h4;exact haz t p.ctor (zcs ho h4) ht.1 u hu hd
   ·split at hu
    ·simp only[List.mem_cons,xau,or_false,or_self] at hu;rw[hu] at hd ⊢;exact ht.2 hd
    ·split at hu
     ·simp only[List.mem_cons,xau,or_false] at hu;rw[hu] at hd ⊢;exact ht.2 hd
     ·simp at hu
  simp only[zaI,List.mem_append] at hv;rcases hv with hv|hv
  ·unfold zaN at hv;split at hv
   ·simp only[List.mem_cons,xau,or_false] at hv;rw[hv];exact ht
   ·simp at hv
  ·have key:∀(a:List Ty) (b:List Pat),(∀i,i<a.length->i<b.length->∀v∈zaI w n (nth a i) (nth b i),TyOk w.length v.ty)->∀v∈zaY (zaI w n) a b,TyOk w.length v.ty:=by
    intro a;induction a with
    |nil=>intro b _ v hv;simp[zaY] at hv
    |cons x r ih=>
     intro b h v hv;cases b with
     |nil=>simp[zaY] at hv
     |cons y s=>
      simp only[zaY,List.mem_append] at hv;rcases hv with hv|hv
      ·exact h 0 og og v hv
      ·exact ih s (fun i h1 h2=>h (i+1) (by simpa using h1) (by simpa using h2)) v hv
   refine key (zcg w t p) p.kids (fun i h1 h2=>?_) v hv;have hvt:i<(zag w t p).length/\nth (zcg w t p) i=nth (zag w t p) i:=by
    unfold zcg at h1 ⊢;split at h1
    ·rename_i h5;rw[if_pos h5];rw[List.length_take] at h1;refine⟨by omega, ?_⟩;have:i=0:=by omega
     subst this;cases hT:zag w t p with
     |nil=>rfl
     |cons a b=>rfl
    ·rename_i h5;rw[if_neg h5];exact⟨h1,rfl⟩
   rw[hvt.2];exact zoj hw haz n (zcj h od) (hto _ (zai hvt.1))
def gdS (g:Gd) (vars:List Vt):Bool:=if g.op=0 then decide (g.var=0/\g.n=0) else decide (1<=g.op/\g.op<=2/\0<=g.n/\g.n<=9)&&(decide (0<=zbt vars g.var)&&decide ((nth vars (zbt vars g.var).toNat).ty.data = -1))
theorem zti {n:Nat}{g:Gd}{vars:List Vt} (hn:zbQ vars=true) (hv:∀v∈vars,TyOk n v.ty):gdS g vars=gdOk g vars:=by
 unfold gdS gdOk;split
 ·rfl
 ·congr 1
  have hnod:=xas hn;rw[xat];simp only[xad,xah];constructor
  ·rintro ⟨h1,h2⟩
   rcases zex vars g.var with ⟨h3,_⟩|⟨k,h3,h4,h5,_⟩
   ·omega
   ·rw[h3] at h2;simp only[Int.toNat_natCast] at h2;have hm:=zai h4;have ho:=(hv _ hm).2 h2;have:nth vars k=⟨g.var,⟨-1,0⟩⟩:=by
     generalize nth vars k=z at *;obtain⟨zv,⟨za,zk⟩⟩:=z;dsimp only at h5 h2 ho;rw[h5,h2,ho]
    rw[<-this];exact hm
  ·intro hm;rcases zex vars g.var with ⟨_,h4⟩|⟨k,h3,h4,h5,_⟩
   ·exact absurd Z (h4 _ hm)
   ·refine⟨by omega, ?_⟩;rw[h3];simp only[Int.toNat_natCast];obtain⟨j,hj,e⟩:=List.getElem_of_mem hm;have ej:nth vars j=⟨g.var,⟨-1,0⟩⟩:=by simp[nth,List.getD,hj,e]
    have:k=j:=ziT hnod h4 hj (by rw[h5,ej]);rw[this,ej]
theorem zlm {g:Gd}{vars:List Vt} (hv:vars.length<=1000000000000):FnD Tryz.prog 189 [.agg [.d (.i g.op),.d (.i g.var),.d (.i g.n)],.d (zcq vars)] [] (.d (.bool (gdS g vars))) []:=by
 have hlt:=fun h=>zj0 (l:=vars) (n:=g.var) h;refine bd Tryz.f189 50 [] [3] fun _ _ _ _ hk=>?_;refine bx 3002 ?_;refine ev ?_;apply sq<;>intro h1 h1p h1s<;>(try simp only[Q] at h1p);apply sq<;>intro h2 h2p h2s<;>(try simp only[Q] at h2p);refine rq ?_;rotate_left;refine rq ?_;rotate_left;refine xaF (xbq 18 [(34,.d (.bool (decide (¬(1<=g.op/\g.op<=2/\0<=g.n/\g.n<=9)))))] [17,18,19,20,21,22,23,24,25,26,27,28,29,30,31,32,33] ?_ ?_);refine ev ?_;apply sq<;>intro h3 h3p h3s<;>(try simp only[Q] at h3p);apply sq<;>intro h4 h4p h4s<;>(try simp only[Q] at h4p);refine sqT ?_;focus (exact jn Z (xaP (by((rw[xat];simp_all;omega)))))
 apply sq<;>intro h5 h5p h5s<;>(try simp only[Q] at h5p);focus (exact jn Z (xaP (by((rw[xat];simp_all;done)))))
 focus (exact jn Z (xaP (by((rw[xat];simp_all;done)))))
 refine sqF ?_;apply sq<;>intro h6 h6p h6s<;>(try simp only[Q] at h6p);focus (exact jn Z (xaP (by((rw[xat];simp_all;done)))))
 focus (exact jn Z (xaP (by((rw[xat];simp_all;done)))))
 refine xbp ?_;apply tv;apply sq<;>intro h7 h7p h7s<;>(try simp only[Q] at h7p);refine rq ?_;rotate_left;refine wc zns (ze9 hv) Z Z ?_;refine ev ?_;apply sq<;>intro h8 h8p h8s<;>(try simp only[Q] at h8p);refine xbE (i:=(zbt vars g.var).toNat) sl66 (.some Z Z h8) Z Z Z (by have:=hlt od;omega) (zao (by have:=hlt od;omega)) Z ?_;refine evs [] [(41,true)] ?_ ⟨⟨_,Z,h8⟩,I⟩;refine rq ?_;rotate_left;refine rq ?_;rotate_left;all_goals (refine xam D.bool ?_;unfold gdS;first|(rw[if_pos od];simp_all;done)|(rw[if_neg od,xaw od,Bool.false_and];done)|(rw[if_neg od,xax od,Bool.true_and,xaw od,Bool.false_and];done)|(rw[if_neg od];simp_all;done))
theorem zn7 {w:List Data} (hw:WT w) (haz:AZ w){t:Ty}{c:Cl} (ht:TyOk w.length t) (hok:c.pat.ok) (hsz:c.pat.size<=1000000000000):
  FnD Tryz.prog 135 [.d (zap w),.agg [.d (.i t.data),.d (.i t.index)],.agg [.d (.i c.pat.op),.d (.i c.pat.ctor),.d (.i c.pat.n),.d (.i c.pat.m),.d (.i c.pat.var),.d (zau c.pat.kids),.d (.i c.g.op),.d (.i c.g.var),.d (.i c.g.n)]] [] (.d (.bool (clOk w t c))) []:=by
 have ht':TyIn w.length ⟨t.data,t.index⟩:=ht.1;have hcl:clOk w t c=(isP w t c.pat&&gdOk c.g (zgB w t c.pat)):=rfl;cases hp:isP w t c.pat with
 |false=>
  have hpi:=zjb hw ht' hok hsz;have hpi':FnD Tryz.prog 188 [.d (zap w),.agg [.d (.i t.data),.d (.i t.index)],.agg [.d (.i c.pat.op),.d (.i c.pat.ctor),.d (.i c.pat.n),.d (.i c.pat.m),.d (.i c.pat.var),.d (zau c.pat.kids)]] [] (.d (.bool false)) []:=by rw[<-hp];exact hpi
  rw[hcl,hp,Bool.false_and];refine bd Tryz.f135 22 [] [] fun _ _ _ _ hk=>?_;refine bx 3004 ?_;refine bx 3005 ?_;refine ev (wc zp8 hpi' Z Z ?_);refine evd [] [] ?_;apply sq<;>intro h1 h1p h1s<;>(try simp only[Q] at h1p);exfalso;contradiction;refine dr (rq ?_);rotate_left;all_goals (rfl)
 |true=>
  have hpi:=zjb hw ht' hok hsz;have hpi':FnD Tryz.prog 188 [.d (zap w),.agg [.d (.i t.data),.d (.i t.index)],.agg [.d (.i c.pat.op),.d (.i c.pat.ctor),.d (.i c.pat.n),.d (.i c.pat.m),.d (.i c.pat.var),.d (zau c.pat.kids)]] [] (.d (.bool true)) []:=by rw[<-hp];exact hpi
  have hsh:zaw w 10 ⟨t.data,t.index⟩ c.pat=true:=by
   have:=hp;unfold isP at this;simp only[xad] at this;exact this.1
  have hvl:=zdF w 10 ⟨t.data,t.index⟩ c.pat;have hge:=zti (g:=c.g) (zqX hp) (zoj hw haz 10 hsh ht);have hge':gdS c.g (zaI w 10 ⟨t.data,t.index⟩ c.pat)=gdOk c.g (zgB w t c.pat):=by rw[zqW hp];exact hge
  rw[hcl,hp,Bool.true_and,<-hge'];refine bd Tryz.f135 22 [] [] fun _ _ _ _ hk=>?_;refine bx 3004 ?_;refine bx 3005 ?_;refine ev (wc zp8 hpi' Z Z ?_);refine evd [] [] ?_;apply sq<;>intro h1 h1p h1s<;>(try simp only[Q] at h1p);refine Walk.call (cr:=[]) zjk (zdp hw hsh od ht' hok hsz) Z (.some Z Z h1) Z Z (LeL.refl _) I Z Z Z ?_;refine Walk.call (cr:=[]) zsV (zlm (g:=c.g) od) Z (.some Z Z h1) Z Z (LeL.refl _) I Z Z Z ?_;refine evd [] [(12,true)] ?_ ⟨⟨_,Z,h1⟩,I⟩;refine dr (rq ?_);rotate_left;exfalso;contradiction;all_goals (rfl)
def ClsSz (l:List Cl):Prop:=∀c∈l,c.pat.size<=1000000000000
theorem zt7 {w:List Data}{t:Ty} (h:za2 w t=true):TyOk w.length t:=by
 unfold za2 at h;rw[xad] at h;exact zqU h.2
theorem ztb {w:List Data}{t:Ty}{l:List Cl}{i:Nat} (hi:i<l.length) (h:clOk w t (nth l i)=false):zaU w t l=false:=by
 unfold zaU;have:l.any (fun c=> !clOk w t c)=true:=List.any_eq_true.2 ⟨nth l i,zai hi,by rw[h];rfl⟩;rw[this];simp
theorem zsg {w:List Data}{t:Ty}{l:List Cl} (ht:za2 w t=true) (hl:l.length<=8) (h:∀i,i<l.length->clOk w t (nth l i)=true):zaU w t l=true:=by
 unfold zaU;rw[ht,xax od,Bool.true_and,Bool.true_and,Bool.not_eq_true',List.any_eq_false];intro c hc;obtain⟨i,hi,rfl⟩:=List.getElem_of_mem hc;have:=h i hi;simp only[nth,List.getD,xan hi,Option.getD_some] at this;simp[this]
theorem zsh {w:List Data}{t:Ty}{l:List Cl} (h:8<l.length):zaU w t l=false:=by
 unfold zaU;rw[xaw od,Bool.false_and,Bool.and_false]
theorem ztc {w:List Data}{t:Ty}{l:List Cl} (h:za2 w t=false):zaU w t l=false:=by
 unfold zaU;rw[h,Bool.false_and]
theorem zhU {w:List Data} (hs:WSmall w){a k:Int}{l:List Cl} (hl:ClsOk l) (hz:ClsSz l):
  FnD Tryz.prog 79 [.d (zap w),.agg [.d (.i a),.d (.i k)],.d (zbD l)] [] (.d (.bool (zaU w ⟨a,k⟩ l))) []:=by
 have hll:=hl.1;refine bd Tryz.f79 31 [] [] fun _ _ _ _ hk=>?_;refine bx 3004 ?_;refine ev (wc zrQ (zki hs) Z Z ?_);refine ev ?_;apply sq<;>intro h1 h1p h1s;refine sqT ?_;refine rq ?_;rotate_left;apply sq<;>intro h3 h3p h3s<;>(try simp only[Q,xal] at h3p);refine rq ?_;rotate_left;refine xaD (ι:=Nat) hk (fun i=>[(7,.d (.i (i:Int)))]) [6,17,18,19,20,21,22,23,24,25,26,27,28,29,30] (fun i=>[]) (fun i=>i<=l.length/\∀i',i'<i->clOk w ⟨a,k⟩ (nth l i')=true) (fun i=>l.length-i) 0 ⟨by omega,fun _ h=>absurd h od⟩ ⟨⟨_,Z,xaQ ?_⟩,I⟩ I (fun x=>rfl) (fun i hg1=>?_);focus (rfl)
 refine evc [] [] ?_;apply sq<;>intro h4 h4p h4s<;>(try simp only[Q,xal] at h4p);refine ixq sl32 Z Z Z (zao od) Z ?_;refine evd [] [] (wc zsI (zn7 (t:=⟨a,k⟩) (c:=nth l i) (zkq hs (zgA ol).1) (zrG (zgA ol).1) (zt7 ol) (hl.2 _ (zai od)) (hz _ (zai od))) Z Z ?_);refine evd [] [] (dr ?_);apply sq<;>intro h5 h5p h5s<;>(try simp only[Q,xal] at h5p);refine rq ?_;rotate_left;refine ar (xaj (i+1) ⟨⟨by omega,zaR hg1.2 ol⟩,od,sx ⟨⟨_,Z,xaQ ?_⟩,I⟩ I⟩);focus (rfl)
 refine rq ?_;rotate_left;all_goals (refine xam D.bool ?_;first|(rw[ztc ol];done)|(rw[zsh od];done)|(rw[ztb (i:=i) od ol];done)|(rw[zsg ol od (fun x hx=>hg1.2 x od)];done))
theorem zms {α:Type} [Inhabited α] (p:α->Bool):∀(l:List α) (i:Nat),(idxF p l i = -1/\∀v∈l,p v=false)\/∃k:Nat,idxF p l i=((i+k:Nat):Int)/\k<l.length/\p (nth l k)=true/\∀j,j<k->p (nth l j)=false
 | [],i=> .inl ⟨rfl,by simp⟩
 |x::r,i=>by
  unfold idxF;cases h:p x with
  |true=>exact .inr ⟨0,by simp,by simp,by simpa [nth] using h,fun j hj=>absurd hj od⟩
  |false=>
   rcases zms p r (i+1) with ⟨h1,h2⟩|⟨k,h1,h2,h3,h4⟩
   ·exact .inl ⟨by simpa using h1,fun v hv=>by rcases List.mem_cons.1 hv with rfl|hv;exact h;exact h2 v hv⟩
   ·refine .inr ⟨k+1, ?_,by simpa using h2,by simpa [nth] using h3,fun j hj=>?_⟩
    ·simp only[Bool.false_eq_true,if_false];rw[h1];congr 1;omega
    ·cases j with
     |zero=>simpa [nth] using h
     |succ j=>simpa [nth] using h4 j od
def zgF (l:List Bd) (n:Int):Int:=idxF (fun b=>decide (b.var=n)) l 0
def zkK (g:Gd) (b:Bd):Bool:=decide (b.val.ctor = -1)&&((decide (g.op=1)&&decide (b.val.num<g.n))||(decide (g.op=2)&&decide (b.val.num=g.n)))
def zb7 (g:Gd) (l:List Bd):Bool:=decide (g.op=0)||(decide (0<=zgF l g.var)&&zkK g (nth l (zgF l g.var).toNat))
theorem zhC (l:List Bd) (n:Int):(zgF l n = -1/\∀v∈l,v.var≠n)\/∃k:Nat,zgF l n=(k:Int)/\k<l.length/\(nth l k).var=n/\∀j,j<k->(nth l j).var≠n:=by
 rcases zms (fun b:Bd=>decide (b.var=n)) l 0 with ⟨h1,h2⟩|⟨k,h1,h2,h3,h4⟩
 ·exact .inl ⟨h1,fun v hv=>by simpa using h2 v hv⟩
 ·exact .inr ⟨k,by unfold zgF;rw[h1];simp,h2,by simpa using h3,fun j hj=>by simpa using h4 j hj⟩
theorem zrf {l:List Bd}{n:Int}{k:Nat} (hk:k<l.length) (h:(nth l k).var=n) (h2:∀j,j<k->¬(nth l j).var=n):zgF l n=(k:Int):=by
 rcases zhC l n with ⟨_,h4⟩|⟨i,h3,h4,h5,h6⟩
 ·exact absurd h (h4 _ (zai hk))
 ·rcases Nat.lt_trichotomy i k with hl|hl|hl
  ·exact absurd h5 (h2 i hl)
  ·rw[h3,hl]
  ·exact absurd h (h6 k hl)
theorem zrg {l:List Bd}{n:Int} (h2:∀j,j<l.length->¬(nth l j).var=n):zgF l n = -1:=by
 rcases zhC l n with ⟨h3,_⟩|⟨i,h3,h4,h5,h6⟩
 ·exact h3
 ·exact absurd h5 (h2 i h4)
theorem zoJ {g:Gd}{l:List Bd}{k:Nat} (h0:¬g.op=0) (hk:k<l.length) (h:(nth l k).var=g.var) (h2:∀j,j<k->¬(nth l j).var=g.var):zb7 g l=zkK g (nth l k):=by
 unfold zb7;rw[xaw h0,zrf hk h h2,xax od];simp
theorem zoK {g:Gd}{l:List Bd} (h0:¬g.op=0) (h2:∀j,j<l.length->¬(nth l j).var=g.var):zb7 g l=false:=by
 unfold zb7;rw[xaw h0,zrg h2];rfl
theorem zqv {g:Gd}{l:List Bd} (h0:g.op=0):zb7 g l=true:=by unfold zb7;rw[xax h0];rfl
theorem zoQ {α:Type} [Inhabited α]{l:List α}{i j:Nat}{x:α} (hi:i<l.length):nth (l.set i x) j=if i=j then x else nth l j:=by
 unfold nth;simp only[List.getD,List.getElem?_set];by_cases h:i=j
 ·subst h;simp[hi]
 ·simp[h]
theorem zd2 {xs:List Bd}{f:Nat}{caps:List AV}{hp:Hp}{p:Bd->Bool} (hs:xs.length<=1000000000000) (hcal:Callee Tryz.prog f)
  (hf:∀t∈xs,FnD Tryz.prog f ([.agg (bdA t)]++caps) hp (.d (.bool (p t))) []) (k1:subH hp hp) (k2:zdM hp=true) (k3:zbi hp [] (.d .nilp) []=true):
  FnD Tryz.prog 161 [.d (zgl xs),.fn f caps] hp (.d (.i (idxF p xs 0))) []:=by
 refine bd Tryz.f161 19 [] [] fun _ _ _ _ hk=>?_;refine xaD (ι:=List (Bd)×List (Bd)) hk (fun x=>[(8,.d (.i (x.1.length:Int)))]) [4,5,9,10,11,12,13,14,15,16,17,18] (fun x=>[]) (fun x=>x.1++x.2=xs/\idxF p x.2 x.1.length=idxF p xs 0) (fun x=>x.2.length) ([],xs) ⟨by simp,Z⟩ ⟨⟨_,Z,xaQ ?_⟩,I⟩ I (fun x=>zfT hp) (fun x hg1=>?_);focus (first|rfl|(simp;done)|(simp_all;done)|omega)
 obtain⟨pre,rest⟩:=x;dsimp only at hg1 ⊢;refine evc [] [] ?_;apply sq<;>intro h1 h1p h1s<;>(try simp only[Q] at h1p);rcases rest with _|⟨y,rest⟩
 ·exfalso;simp_all
 refine ixq zeb Z Z Z (zaL hg1.1) Z (ev (xby (cr:=[]) hcal (hf y (by rw[<-hg1.1];simp)) Z .none Z Z Z (LeL.refl _) k1 k2 (zei k3 _) Z ?_));apply tv;apply sq<;>intro h2 h2p h2s<;>(try simp only[Q] at h2p);focus (refine rn [] (r1 Z) (.eqd ?_) ⟨Z,Z⟩ (fun _ _ h=>h) (fun _ h=>h);all_goals (rw[<-hg1.2];simp[idxF,h1s,h1p,h2s,h2p]))
 refine ar (xaj ((pre++[y],rest)) ⟨⟨(by have hz:=hg1.1;rw[<-hz];simp),(by rw[<-hg1.2];simp[idxF,h2s])⟩,og,Sub.x oi oi ⟨⟨_,Z,xaQ ?_⟩,I⟩ og (by simp[zcU]) I⟩);focus (first|rfl|(simp;done)|(simp_all;done)|omega)
 have hrest:rest=[]:=by
  rcases rest with _|⟨a,b⟩
  ·rfl
  ·exfalso;have hz:=xam List.length (hg1.1);simp only[xaa,xab,xac] at hz;omega
 subst hrest;focus (refine rn [] (r1 Z) (.eqd ?_) ⟨Z,Z⟩ (fun _ _ h=>h) (fun _ h=>h);all_goals (rw[<-hg1.2];simp[idxF,h1s,h1p]))
theorem zez {x:Bd}{a b c:Int}:FnD Tryz.prog 162 [.agg (bdA x),.ref 3002 0] [(3002,some (.box [.d (.i a),.d (.i b),.d (.i c)]))] (.d (.bool (decide (x.var=b)))) []:=by
 refine bd Tryz.f162 9 [] [] fun _ _ _ _ hk=>?_;refine bx 3001 ?_;refine ev (rn [] (r1 Z) (.eqd ?_) ⟨Z,Z⟩ (SubH.get ⟨Z,I⟩) (fun _ h=>h));rotate_left;all_goals (rfl)
theorem ziF {g:Gd}{l:List Bd} (hl:l.length<=1000000000000):FnD Tryz.prog 107 [.agg [.d (.i g.op),.d (.i g.var),.d (.i g.n)],.d (zgl l)] [] (.d (.bool (zb7 g l))) []:=by
 have hsp:=zhC l g.var;have hfi:idxF (fun b:Bd=>decide (b.var=g.var)) l 0=zgF l g.var:=rfl;by_cases h0:g.op=0
 ·rw[zqv h0];refine bd Tryz.f107 50 [] [] fun _ _ _ _ hk=>?_;refine bx 3002 ?_;refine ev ?_;apply sq<;>intro h1 h1p h1s<;>(try simp only[Q] at h1p);refine rq ?_;rotate_left;exfalso;omega;all_goals (rfl)
 rcases hsp with ⟨h3,h4⟩|⟨k,h3,h4,h5,h6⟩
 ·rw[zoK h0 (fun j hj=>h4 _ (zai hj))];have hix:=zd2 (p:=fun b=>decide (b.var=g.var)) hl zp3 (fun t _=>zez (x:=t) (a:=g.op) (b:=g.var) (c:=g.n)) ⟨rfl,trivial⟩ rfl rfl;rw[hfi,h3] at hix;refine bd Tryz.f107 50 [] [] fun _ _ _ _ hk=>?_;refine bx 3002 ?_;refine ev ?_;apply sq<;>intro h1 h1p h1s<;>(try simp only[Q] at h1p);exfalso;omega;refine xbz (xs:=[_]) Z .none Z Z (wd zp2 hix Z Z ⟨Z,I⟩ ?_);refine ev ?_;apply sq<;>intro h2 h2p h2s<;>(try simp only[Q] at h2p);refine sqT ?_;refine rq ?_;rotate_left;exfalso;revert h2;simp;all_goals (rfl)
 ·rw[zoJ h0 h4 h5 h6];have hix:=zd2 (p:=fun b=>decide (b.var=g.var)) hl zp3 (fun t _=>zez (x:=t) (a:=g.op) (b:=g.var) (c:=g.n)) ⟨rfl,trivial⟩ rfl rfl;rw[hfi,h3] at hix;unfold zkK;refine bd Tryz.f107 50 [] [] fun _ _ _ _ hk=>?_;refine bx 3002 ?_;refine ev ?_;apply sq<;>intro h1 h1p h1s<;>(try simp only[Q] at h1p);exfalso;omega;refine xbz (xs:=[_]) Z .none Z Z (wd zp2 hix Z Z ⟨Z,I⟩ ?_);refine ev ?_;apply sq<;>intro h2 h2p h2s<;>(try simp only[Q] at h2p);exfalso;revert h2;simp;refine xbE zeb (.some Z Z h2) Z Z Z Z (zao h4) Z (evs [] [(15,false)] ?_ ⟨⟨_,Z,h2⟩,I⟩);apply sq<;>intro h3 h3p h3s<;>(try simp only[Q] at h3p);refine rq ?_;rotate_left;refine ixq zeb Z Z Z (zao h4) Z (ev ?_);apply sq<;>intro h4 h4p h4s<;>(try simp only[Q] at h4p);apply sq<;>intro h5 h5p h5s<;>(try simp only[Q] at h5p);refine rq ?_;rotate_left;apply sq<;>intro h6 h6p h6s<;>(try simp only[Q] at h6p);refine rq ?_;rotate_left;refine rq ?_;rotate_left;refine sqF ?_;apply sq<;>intro h7 h7p h7s<;>(try simp only[Q] at h7p);refine rq ?_;rotate_left;refine rq ?_;rotate_left;all_goals (refine xam D.bool ?_;first|(simp_all;done)|(rw[xat];simp_all;done)|(rw[xat];simp_all;omega))
theorem zi8 {g:Gd}{l:List Bd} (hl:l.length<=1000000000000):FnD Tryz.prog 90 [.agg [.d (.i g.op),.d (.i g.var),.d (.i g.n)],.d (zgl l)] [] (.d (.bool (zb7 g l))) []:=by
 refine bd Tryz.f90 59 [] [] fun _ _ _ _ hk=>?_;refine bx 3002 ?_;refine ev ?_;apply sq<;>intro h1 h1p h1s<;>(try simp only[Q,xal] at h1p);refine rq ?_;rotate_left;refine xaD (ι:=Nat) hk (fun i=>[(5,.d (.i (i:Int)))]) [4,6,10,11,12,13,14,15,16,17,18,19,20,21,22,23,24,25,26,27,28,29,30,31,32,33,34,35,36,37,38,39,40,41,42,43,44,45,46,47,48,49,50,51,52,53,54,55,56,57,58] (fun i=>[]) (fun i=>i<=l.length/\∀i',i'<i->¬(nth l i').var=g.var) (fun i=>l.length-i) 0 ⟨by omega,fun _ h=>absurd h od⟩ ⟨⟨_,Z,xaQ ?_⟩,I⟩ I (fun x=>rfl) (fun i hg1=>?_);focus (first|rfl|(simp;done)|(simp_all;done)|omega)
 refine evc [] [] ?_;apply sq<;>intro h2 h2p h2s<;>(try simp only[Q,xal] at h2p);refine ixq zeb Z Z Z (zao od) Z ?_;refine evd [] [] (dr ?_);apply sq<;>intro h3 h3p h3s<;>(try simp only[Q,xal] at h3p);refine ar (xaj (i+1) ⟨⟨by omega,zaR hg1.2 od⟩,od,sx ⟨⟨_,Z,xaQ ?_⟩,I⟩ I⟩);focus (first|rfl|(simp;done)|(simp_all;done)|omega)
 refine ixq zeb Z Z Z (zao od) Z ?_;refine ev (ixq zeb Z Z Z (zao od) Z ?_);refine ev ?_;apply sq<;>intro h4 h4p h4s<;>(try simp only[Q,xal] at h4p);apply sq<;>intro h5 h5p h5s<;>(try simp only[Q,xal] at h5p);apply sq<;>intro h6 h6p h6s<;>(try simp only[Q,xal] at h6p);refine rq ?_;rotate_left;apply sq<;>intro h7 h7p h7s<;>(try simp only[Q,xal] at h7p);refine rq ?_;rotate_left;refine rq ?_;rotate_left;refine sqF ?_;apply sq<;>intro h8 h8p h8s<;>(try simp only[Q,xal] at h8p);refine rq ?_;rotate_left;refine rq ?_;rotate_left;refine rq ?_;rotate_left;refine rq ?_;rotate_left;all_goals (refine xam D.bool ?_;first|(rw[zqv od];done)|(rw[zoK od (fun x hx=>hg1.2 x od)];done)|(rw[zoJ (k:=i) od od od hg1.2];unfold zkK;first|(simp_all;done)|(rw[xat];simp_all;done)|(rw[xat];simp_all;omega)))
theorem zfb {l:List Int}{i:Int} (h:l.length<=1000000):FnD Tryz.prog 193 [.d (zaH l),.d (.i i)] [] (.d (zaH (l++[i]))) []:=by
 refine bd Tryz.f193 11 [] [] fun _ _ _ _ hk=>?_;refine xbX 1 sl37 .none Z Z (ev (ap sl37 zz3 Z Z Z (by first|(intro x hx;simp at hx;subst hx;rfl)|(intro x hx;obtain⟨y,_,rfl⟩:=List.mem_map.1 hx;rfl)) ot ?_));refine ev (si [0] [_] sl37 tz3 ?_);refine ap sl37 zz3 Z Z Z (by first|(intro x hx;simp at hx;subst hx;rfl)|(intro x hx;obtain⟨y,_,rfl⟩:=List.mem_map.1 hx;rfl)) ot ?_;refine ev (rn0 (r1 Z) (.gld ?_));rotate_left;all_goals (first|rfl|(simp;done))
def atV:List Int->Val->Val
 | [],v=>v
 |i::r,v=>atV r (nth v.kids i.toNat)
def zby:List Int->Val->Prop
 | [],_=>True
 |i::r,v=>0<=i/\i.toNat<v.kids.length/\zby r (nth v.kids i.toNat)
theorem zjV:∀(l:List Int) (v:Val) (k:Nat),k<l.length->atV (l.take (k+1)) v=nth (atV (l.take k) v).kids (nth l k).toNat
 | [],_,_,h=>by simp at h
 |i::r,v,0,_=>by simp[atV,nth]
 |i::r,v,k+1,h=>by
  have:=zjV r (nth v.kids i.toNat) k (by simpa using h);rw[List.take_succ_cons,List.take_succ_cons,atV,atV,this];rfl
theorem ziX:∀(l:List Int) (v:Val) (k:Nat),zby l v->k<l.length->0<=nth l k/\(nth l k).toNat<(atV (l.take k) v).kids.length
 | [],_,_,_,h=>by simp at h
 |i::r,v,0,h,_=>⟨h.1,h.2.1⟩
 |i::r,v,k+1,h,hk=>by
  have:=ziX r (nth v.kids i.toNat) k h.2.2 (by simpa using hk);rw[List.take_succ_cons,atV];exact this
theorem zjc {l:List Int}{v:Val} (hl:l.length<=1000000) (h:zby l v):
  FnD Tryz.prog 92 [.agg [.d (.i v.ctor),.d (.i v.num),.d (zbg v.kids)],.d (zaH l)] [] (.agg [.d (.i (atV l v).ctor),.d (.i (atV l v).num),.d (zbg (atV l v).kids)]) []:=by
 have hin:=fun k=>ziX l v k h;have hnx:=fun k=>zjV l v k;refine bd Tryz.f92 21 [] [] fun _ _ _ _ hk=>?_;refine bx 3002 ?_;refine ab 3004 zbM ?_;apply tv;refine xaD (ι:=Nat) hk (fun k=>[(5,.d (.i (k:Int)))]) [6,7,8,9,10,11,12,13,14,15,16,17,18,19] (fun k=>[(3002,some (.box [.d (.i (atV (l.take k) v).ctor),.d (.i (atV (l.take k) v).num),.d (zbg (atV (l.take k) v).kids)]))]) (fun k=>k<=l.length) (fun k=>l.length-k) 0 od ⟨⟨_,Z,xaQ ?_⟩,I⟩ ⟨?_,I⟩ (fun x=>rfl) (fun k hg1=>?_);focus (first|rfl|omega)
 focus (first|rfl|(rw[hnx k od];rfl))
 refine evc [] [] ?_;apply sq<;>intro h1 h1p h1s<;>(try simp only[Q,xal,xac] at h1p);refine ixq sl37 Z Z Z (zao od) Z ?_;refine evd [] [] (ixq (i:=(nth l k).toNat) sl99 Z Z (by have:=hin k od;omega) (zmb (hin k od).2) Z ?_);refine evd [] [] (so zb6 ?_);refine dr (ar (xaj (k+1) ⟨od,od,sx ⟨⟨_,Z,xaQ ?_⟩,I⟩ ⟨?_,I⟩⟩));focus (first|rfl|omega)
 focus (first|rfl|(rw[hnx k od];rfl))
 refine so zb6 ?_;apply tv;refine rn0 (ra zb6) (.agg (qeee ?_ ?_ ?_));rotate_left 3;all_goals (rw[show k=l.length by omega,List.take_length])
structure Pb where
 var:Int
 path:List Int
 deriving Inhabited
abbrev Pb.c (x:Pb):List D:=[.i x.var,zaH x.path]
abbrev zcB (l:List Pb):D:= .sl (l.map Pb.c)
def zbK (l:List Pb) (n:Nat):List Pb:=(List.range n).flatMap fun(k:Nat)=>l.filter fun x=>decide (x.var=(k:Int))
theorem zil (l:List Pb) (n:Nat):zbK l (n+1)=zbK l n++l.filter fun x=>decide (x.var=(n:Int)):=by
 unfold zbK;rw[List.range_succ,List.flatMap_append];simp
theorem zgX (l:List Pb):∀n,(zbK l n).length<=n*l.length
 |0=>by simp[zbK]
 |n+1=>by
  have:=zgX l n;have h2:=List.length_filter_le (fun x:Pb=>decide (x.var=(n:Int))) l;rw[zil,xaa,Nat.add_mul];omega
theorem zln {l:List Pb} (hl:l.length<=1000000) (hp:∀x∈l,x.path.length<=1000000):FnD Tryz.prog 143 [.d (zcB l)] [] (.d (zcB (zbK l 6))) []:=by
 have hlen:=zgX l;have hnx:=zil l;refine bd Tryz.f143 37 [] [] fun _ _ _ _ hk=>?_;refine xbX 1 zcd .none Z Z (ev (xaD (ι:=Nat) hk (fun n=>[(4,.d (.i (n:Int))),(3,.gl 1 ((zbK l n).map Pb.c))]) [5,7,8,9,10,11,12,13,14,15,16,17,18,19,20,21,22,23,24,25,26,27,28,29,30,31,32,33,34,35] (fun n=>[(1,some (.tok (((zbK l n).map Pb.c)).length 2))]) (fun n=>n<=6) (fun n=>6-n) 0 od ⟨⟨_,Z,xaQ ?_⟩,⟨⟨_,Z,LeA.glg ?_⟩,I⟩⟩ ⟨zac ?_,I⟩ (fun x=>rfl) (fun n hg1=>?_)));iterate 3 focus (first|rfl|omega|(have hq:=hg2.2.1;simp only[List.filter_nil,xaq] at hq;rw[hq];done)|(simp;omega))
 refine evc [] [] ?_;apply sq<;>intro h1 h1p h1s<;>(try simp only[Q,xal,xac] at h1p);refine xaD (ι:=List (Pb)×List (Pb)×(List Pb)) hk (fun x=>[(5,.d (.i (x.1.length:Int))),(3,.gl 1 (x.2.2.map Pb.c))]) [11,12,13,14,15,16,17,18,19,20,21,22,23,24,25,26,27,28,29,30,31,32,33,34,35] (fun x=>[(1,some (.tok ((x.2.2.map Pb.c)).length 2))]) (fun x=>x.1++x.2.1=l/\x.2.2++x.2.1.filter (fun x=>decide (x.var=(n:Int)))=zbK l (n+1)/\x.2.2.length<=n*l.length+x.1.length) (fun x=>x.2.1.length) ([],l,zbK l n) ⟨by simp,(hnx n).symm,by have:=hlen n;simp;omega⟩ ⟨⟨_,Z,xaQ ?_⟩,⟨⟨_,Z,LeA.glg ?_⟩,I⟩⟩ ⟨zac ?_,I⟩ (fun x=>rfl) (fun x hg2=>?_);iterate 3 focus (first|rfl|omega|(simp;done)|(rw[if_neg od];done)|(have hq:y.var=(n:Int):=od;rw[if_pos hq,xag];all_goals first|rfl|(simp[hq];done)|(rw[<-hq];simp;done))|(simp;omega))
 obtain⟨pre,rest,o⟩:=x;dsimp only at hg2 ⊢;refine evc [] [] ?_;apply sq<;>intro h2 h2p h2s<;>(try simp only[Q,xal,xac] at h2p);rcases rest with _|⟨y,rest⟩
 ·exfalso;simp_all
 refine ixq zcd Z Z Z (zaL hg2.1) Z (ev ?_);apply sq<;>intro h3 h3p h3s<;>(try simp only[Q,xal,xac] at h3p);refine xbX 2 sl37 .none Z Z (ev (ixq zcd Z Z Z (zaL hg2.1) Z (ev (ap sl37 zz3 Z Z Z (by first|(intro x hx;simp at hx;subst hx;rfl)|(intro x hx;obtain⟨y,_,rfl⟩:=List.mem_map.1 hx;rfl)) (by have hq6:=xav l.length (show n<=6 by omega);have hyp:=hp y (by rw[<-hg2.1];simp);have hpl:pre.length<l.length:=(by rw[<-hg2.1];simp);have hol:=hg2.2.2;first|(simp;done)|(simp;omega)) ?_))));refine bu [0,1] [_,_] zm2 ?_;refine si [0] [_] zcd zlu ?_;refine ap zcd zm8 Z Z Z (by first|(intro x hx;simp at hx;subst hx;rfl)|(intro x hx;obtain⟨y,_,rfl⟩:=List.mem_map.1 hx;rfl)) (by have hq6:=xav l.length (show n<=6 by omega);have hyp:=hp y (by rw[<-hg2.1];simp);have hpl:pre.length<l.length:=(by rw[<-hg2.1];simp);have hol:=hg2.2.2;first|(simp;done)|(simp;omega)) ?_;refine ev (ar ?_);refine xaj ((pre++[y],rest,if y.var=(n:Int) then o++[y] else o)) ⟨⟨(by have hz:=hg2.1;rw[<-hz];simp),⟨by
    rw[<-hg2.2.1,List.filter_cons];by_cases q:y.var=(n:Int)
    ·rw[if_pos q,if_pos (by simpa using q)];simp
    ·rw[if_neg q,if_neg (by simpa using q)],by have:=hg2.2.2;split<;>simp<;>omega⟩⟩,og,sx ⟨⟨_,rfl,xaQ ?_⟩,⟨⟨_,rfl,LeA.glg ?_⟩,trivial⟩⟩ ⟨zac ?_,trivial⟩⟩
 iterate 3 focus (first|rfl|omega|(simp;done)|(rw[if_neg od];done)|(have hq:y.var=(n:Int):=od;rw[if_pos hq,xag];all_goals first|rfl|(simp[hq];done)|(rw[<-hq];simp;done))|(simp;omega))
 refine ar ?_;refine xaj ((pre++[y],rest,if y.var=(n:Int) then o++[y] else o)) ⟨⟨(by have hz:=hg2.1;rw[<-hz];simp),⟨by
    rw[<-hg2.2.1,List.filter_cons];by_cases q:y.var=(n:Int)
    ·rw[if_pos q,if_pos (by simpa using q)];simp
    ·rw[if_neg q,if_neg (by simpa using q)],by have:=hg2.2.2;split<;>simp<;>omega⟩⟩,og,sx ⟨⟨_,rfl,xaQ ?_⟩,⟨⟨_,rfl,LeA.glg ?_⟩,trivial⟩⟩ ⟨zac ?_,trivial⟩⟩
 iterate 3 focus (first|rfl|omega|(simp;done)|(rw[if_neg od];done)|(have hq:y.var=(n:Int):=od;rw[if_pos hq,xag];all_goals first|rfl|(simp[hq];done)|(rw[<-hq];simp;done))|(simp;omega))
 have hrest:rest=[]:=by
  rcases rest with _|⟨a,b⟩
  ·rfl
  ·exfalso;have hz:=xam List.length (hg2.1);simp only[xaa,xab,xac] at hz;omega
 subst hrest;refine ar (xaj (n+1) ⟨od,od,sx ⟨⟨_,Z,xaQ ?_⟩,⟨⟨_,Z,LeA.glg ?_⟩,I⟩⟩ ⟨zac ?_,I⟩⟩);iterate 3 focus (first|rfl|omega|(have hq:=hg2.2.1;simp only[List.filter_nil,xaq] at hq;rw[hq];done)|(simp;omega))
 refine rn0 (r1 Z) (.gld ?_);rotate_left;all_goals (first|rfl|(rw[show n=6 by omega];done))
structure Stp where
 op:Int
 path:List Int
 ctor:Int
 n:Int
 m:Int
 cl:Int
 binds:List Pb
 to:Int
 deriving Inhabited
abbrev Stp.c (x:Stp):List D:=[.i x.op,zaH x.path,.i x.ctor,.i x.n,.i x.m,.i x.cl,zcB x.binds,.i x.to]
abbrev zeZ (l:List Stp):D:= .sl (l.map Stp.c)
def zbA (ctor n m:Int) (v:Val):Bool:=decide (v.ctor=ctor)&&(!decide (ctor = -1)||(decide (n<=v.num)&&decide (v.num<=m)))
theorem zkn {op ctor n m to cl:Int}{path:List Int}{binds:List Pb}{v:Val}:
  FnD Tryz.prog 91 [.agg [.d (.i op),.d (zaH path),.d (.i ctor),.d (.i n),.d (.i m),.d (.i cl),.d (zcB binds),.d (.i to)],.agg [.d (.i v.ctor),.d (.i v.num),.d (zbg v.kids)]] [] (.d (.bool (zbA ctor n m v))) []:=by
 refine bd Tryz.f91 29 [] [] fun _ _ _ _ hk=>?_;refine bx 3002 ?_;refine bx 3003 ?_;refine ev ?_;apply sq<;>intro h1 h1p h1s<;>(try simp only[Q] at h1p);apply sq<;>intro h2 h2p h2s<;>(try simp only[Q] at h2p);refine rq ?_;rotate_left;apply sq<;>intro h3 h3p h3s<;>(try simp only[Q] at h3p);refine rq ?_;rotate_left;refine rq ?_;rotate_left;refine rq ?_;rotate_left;all_goals (refine xam D.bool ?_;unfold zbA;first|(simp_all;done)|(simp_all<;>omega)|(simp_all;intros;omega))
set_option maxHeartbeats 4000000
theorem zdc:∀ {l:List Pat}{i:Nat},i<l.length->Pats.size (l.take (i+1))=Pats.size (l.take i)+(nth l i).size
 | [],_,h=>by simp at h
 |x::r,0,_=>by simp[Pats.size,nth]
 |x::r,i+1,h=>by
  have:=zdc (l:=r) (i:=i) (by simpa using h);rw[List.take_succ_cons,List.take_succ_cons,Pats.size,Pats.size,this];show _=x.size+Pats.size (r.take i)+(nth r i).size
  omega
theorem zhX:∀(l:List Pat) (i:Nat),Pats.size (l.take i)<=Pats.size l
 | [],i=>by simp
 |x::r,0=>by simp[Pats.size]
 |x::r,i+1=>by
  have:=zhX r i;rw[List.take_succ_cons,Pats.size,Pats.size];omega
def zbu (p:Pat) (path:List Int) (i:Nat):List Int:=if p.op=4 then path++[(i:Int)] else path
def nmB (p:Pat) (path:List Int):List Pb:=if p.op=2\/p.op=6 then [⟨p.var,path⟩] else []
def zab (f:Pat->List Int->List Pb) (p:Pat) (path:List Int):Nat->List Pb
 |0=>[]
 |i+1=>zab f p path i++f (nth p.kids i) (zbu p path i)
def zar:Nat->Pat->List Int->List Pb
 |0,_,_=>[]
 |n+1,p,path=>nmB p path++zab (zar n) p path p.kids.length
theorem zgJ {f:Pat->List Int->List Pb}{p:Pat}{path:List Int} (hf:∀q path,(f q path).length<=q.size):∀i,i<=p.kids.length->(zab f p path i).length<=Pats.size (p.kids.take i)
 |0,_=>by simp[zab]
 |i+1,h=>by
  have ih:=zgJ (p:=p) (path:=path) hf i od;have h0:=hf (nth p.kids i) (zbu p path i);have hs:=zdc (l:=p.kids) (i:=i) od;rw[zab,xaa];omega
theorem zlX (p:Pat) (path:List Int):(nmB p path).length<=1:=by unfold nmB;split<;>simp
theorem zeu:∀(n:Nat) (p:Pat) (path:List Int),(zar n p path).length<=p.size
 |0,p,path=>by simp[zar]
 |n+1,p,path=>by
  have h1:=zlX p path;have h2:=zgJ (path:=path) (zeu n) (p:=p) p.kids.length (Nat.le_refl _);rw[List.take_length] at h2;rw[zar,xaa,xaZ];omega
theorem oo{p:Prop}(h:p:=by first|(simp;done)|(simp;omega)):p:=h
theorem znH {n:Nat} (ih:∀ {p:Pat}{xs:List Pb}{path:List Int},p.size<=n->p.ok->path.length+n<=1000000->xs.length+p.size<=1000000000000->
   FnD Tryz.prog 144 [.gl 5 (xs.map Pb.c),.agg [.d (.i p.op),.d (.i p.ctor),.d (.i p.n),.d (.i p.m),.d (.i p.var),.d (zau p.kids)],.d (zaH path)] [(5,some (.tok (xs.map Pb.c).length 2))] (.gl 5 ((xs++zar n p path).map Pb.c)) [(5,some (.tok ((xs++zar n p path).map Pb.c).length 2))])
  {p:Pat}{xs:List Pb}{path:List Int} (hz:p.size<=n+1) (hok:p.ok) (hpa:path.length+(n+1)<=1000000) (hb:xs.length+p.size<=1000000000000):
  FnD Tryz.prog 144 [.gl 5 (xs.map Pb.c),.agg [.d (.i p.op),.d (.i p.ctor),.d (.i p.n),.d (.i p.m),.d (.i p.var),.d (zau p.kids)],.d (zaH path)] [(5,some (.tok (xs.map Pb.c).length 2))] (.gl 5 ((xs++zar (n+1) p path).map Pb.c)) [(5,some (.tok ((xs++zar (n+1) p path).map Pb.c).length 2))]:=by
 rw[xaZ] at hz hb;rw[xaY] at hok;have hkl:=zgJ (path:=path) (zeu n) (p:=p);have hnl:=zlX p path;have hks:=fun i=>zhX p.kids i;have hk1:=fun i (h:i<p.kids.length)=>zdc (l:=p.kids) h;have hpl:∀i,(zbu p path i).length<=path.length+1:=fun i=>by unfold zbu;split<;>simp
 have hp4:∀i,p.op=4->zbu p path i=path++[(i:Int)]:=fun i h=>by unfold zbu;rw[if_pos h]
 have hpn:∀i,¬p.op=4->zbu p path i=path:=fun i h=>by unfold zbu;rw[if_neg h]
 have hn1:(p.op=2\/p.op=6)->nmB p path=[⟨p.var,path⟩]:=fun h=>by unfold nmB;rw[if_pos h]
 have hn0:¬(p.op=2\/p.op=6)->nmB p path=[]:=fun h=>by unfold nmB;rw[if_neg h]
 have hcall:∀i (h:i<p.kids.length) (q:List Int),q=zbu p path i->FnD Tryz.prog 144 [.gl 5 ((xs++nmB p path++zab (zar n) p path i).map Pb.c),.agg [.d (.i (nth p.kids i).op),.d (.i (nth p.kids i).ctor),.d (.i (nth p.kids i).n),.d (.i (nth p.kids i).m),.d (.i (nth p.kids i).var),.d (zau (nth p.kids i).kids)],.d (zaH q)] [(5,some (.tok ((xs++nmB p path++zab (zar n) p path i).map Pb.c).length 2))]
   (.gl 5 ((xs++nmB p path++zab (zar n) p path (i+1)).map Pb.c)) [(5,some (.tok ((xs++nmB p path++zab (zar n) p path (i+1)).map Pb.c).length 2))]:=fun i h q e=>by
  subst e;have h1:=hks (i+1);have h2:=hk1 i h;have h3:=hkl i od;have h4:=hpl i;have:=ih (p:=nth p.kids i) (xs:=xs++nmB p path++zab (zar n) p path i) (path:=zbu p path i) od (xa0 hok.2 _ (zai h)) od (by simp only[xaa];omega);rw[zab,<-xar (xs++nmB p path)];exact this
 have hfin:zar (n+1) p path=nmB p path++zab (zar n) p path p.kids.length:=rfl;rw[hfin];clear ih;refine bd Tryz.f144 49 [] [1,5] fun _ _ _ _ hk=>?_;refine bx 3004 ?_;refine ev (xaF (xbq 8 [(16,.d (.bool (decide (p.op=2\/p.op=6))))] [9,10,11,12,13,14,15] ?_ ?_));refine ev ?_;apply sq<;>intro h1 h1p h1s<;>(try simp only[Q,xaW,xal] at h1p);exact jnb Z;exact jnb Z;refine xbp ?_;apply tv;apply sq<;>intro h2 h2p h2s<;>(try simp only[Q,xaW,xal] at h2p);refine xbX 2 sl37 .none Z Z (evd [] [] (ap sl37 zz3 Z Z Z (by first|(intro x hx;simp at hx;subst hx;rfl)|(intro x hx;obtain⟨y,_,rfl⟩:=List.mem_map.1 hx;rfl)) oo ?_));refine bu [0,1] [_,_] zm2 ?_;refine si [0] [_] zcd zlu ?_;refine ap zcd zm8 Z Z Z (by first|(intro x hx;simp at hx;subst hx;rfl)|(intro x hx;obtain⟨y,_,rfl⟩:=List.mem_map.1 hx;rfl)) oo ?_;refine evd [] [] (dr (xaC 5 6 (ι:=Nat) hk (fun i=>[(0,.gl 5 ((xs++nmB p path++zab (zar n) p path i).map Pb.c)),(7,.d (.i (i:Int)))]) [8,26,27,28,29,30,31,32,33,34,35,36,37,38,39,40,41,42,43,44,45,46,47] (fun i=>[(5,some (.tok ((xs++nmB p path++zab (zar n) p path i).map Pb.c).length 2))]) (fun i=>i<=p.kids.length) (fun i=>p.kids.length-i) 0 od ⟨⟨_,Z,LeA.glg ?_⟩,⟨⟨_,Z,xaQ ?_⟩,I⟩⟩ ⟨zac ?_,I⟩ (fun x=>rfl) (fun i hg1=>?_)));iterate 3 focus (first|rfl|omega|(rw[hn1 od];simp[zab];done)|(rw[hn0 od];simp[zab];done)|(simp[zab,nmB, *];done)|(simp;omega))
 refine evc [] [1,5] ?_;apply sq<;>intro h3 h3p h3s<;>(try simp only[Q,xaW,xal] at h3p);apply sq<;>intro h4 h4p h4s<;>(try simp only[Q,xaW,xal] at h4p);refine wc znp (zfb (l:=path) (i:=(i:Int)) od) Z Z ?_;refine ev (ixq sl72 Z Z Z (zaS od) Z ?_);refine ev (xbw 6 zin (hcall i od _ (by first|exact(hp4 i od).symm|exact(hpn i od).symm)) Z .none Z Z (.cons (.refl _) (.cons (.refl _) (.cons (.refl _) .nil))) Z oe ?_);refine ev (CWp.retok 0 6 5 Z Z Z Z Z (evc [] [] (ar (xaj (i+1) ⟨od,od,sx ⟨⟨_,Z,LeA.glg ?_⟩,⟨⟨_,Z,xaQ ?_⟩,I⟩⟩ ⟨zac ?_,I⟩⟩))));iterate 3 focus (first|rfl|omega|(rw[hn1 od];simp[zab];done)|(rw[hn0 od];simp[zab];done)|(simp[zab,nmB, *];done)|(simp;omega))
 refine ixq sl72 Z Z Z (zaS od) Z ?_;refine ev (xbw 6 zin (hcall i od _ (by first|exact(hp4 i od).symm|exact(hpn i od).symm)) Z .none Z Z (.cons (.refl _) (.cons (.refl _) (.cons (.refl _) .nil))) Z oe ?_);refine ev (CWp.retok 0 6 5 Z Z Z Z Z (evc [] [] (ar (xaj (i+1) ⟨od,od,sx ⟨⟨_,Z,LeA.glg ?_⟩,⟨⟨_,Z,xaQ ?_⟩,I⟩⟩ ⟨zac ?_,I⟩⟩))));iterate 3 focus (first|rfl|omega|(rw[hn1 od];simp[zab];done)|(rw[hn0 od];simp[zab];done)|(simp[zab,nmB, *];done)|(simp;omega))
 refine rn [(5,some (.tok ((xs++(nmB p path++zab (zar n) p path p.kids.length)).map Pb.c).length 2))] (r1 Z) (.glg ?_) ⟨Z,Z⟩ (SubO.get ⟨.inr ?_,⟨.inl Z,I⟩⟩) (zaX Z);rotate_left 2;refine xaC 5 6 (ι:=Nat) hk (fun i=>[(0,.gl 5 ((xs++nmB p path++zab (zar n) p path i).map Pb.c)),(7,.d (.i (i:Int)))]) [8,26,27,28,29,30,31,32,33,34,35,36,37,38,39,40,41,42,43,44,45,46,47] (fun i=>[(5,some (.tok ((xs++nmB p path++zab (zar n) p path i).map Pb.c).length 2))]) (fun i=>i<=p.kids.length) (fun i=>p.kids.length-i) 0 od ⟨⟨_,Z,LeA.glg ?_⟩,⟨⟨_,Z,xaQ ?_⟩,I⟩⟩ ⟨zac ?_,I⟩ (fun x=>rfl) (fun i hg1=>?_);iterate 3 focus (first|rfl|omega|(rw[hn1 od];simp[zab];done)|(rw[hn0 od];simp[zab];done)|(simp[zab,nmB, *];done)|(simp;omega))
 refine evc [] [1,5] ?_;apply sq<;>intro h5 h5p h5s<;>(try simp only[Q,xaW,xal] at h5p);apply sq<;>intro h6 h6p h6s<;>(try simp only[Q,xaW,xal] at h6p);refine wc znp (zfb (l:=path) (i:=(i:Int)) od) Z Z ?_;refine ev (ixq sl72 Z Z Z (zaS od) Z ?_);refine ev (xbw 6 zin (hcall i od _ (by first|exact(hp4 i od).symm|exact(hpn i od).symm)) Z .none Z Z (.cons (.refl _) (.cons (.refl _) (.cons (.refl _) .nil))) Z oe ?_);refine ev (CWp.retok 0 6 5 Z Z Z Z Z (evc [] [] (ar (xaj (i+1) ⟨od,od,sx ⟨⟨_,Z,LeA.glg ?_⟩,⟨⟨_,Z,xaQ ?_⟩,I⟩⟩ ⟨zac ?_,I⟩⟩))));iterate 3 focus (first|rfl|omega|(rw[hn1 od];simp[zab];done)|(rw[hn0 od];simp[zab];done)|(simp[zab,nmB, *];done)|(simp;omega))
 refine ixq sl72 Z Z Z (zaS od) Z ?_;refine ev (xbw 6 zin (hcall i od _ (by first|exact(hp4 i od).symm|exact(hpn i od).symm)) Z .none Z Z (.cons (.refl _) (.cons (.refl _) (.cons (.refl _) .nil))) Z oe ?_);refine ev (CWp.retok 0 6 5 Z Z Z Z Z (evc [] [] (ar (xaj (i+1) ⟨od,od,sx ⟨⟨_,Z,LeA.glg ?_⟩,⟨⟨_,Z,xaQ ?_⟩,I⟩⟩ ⟨zac ?_,I⟩⟩))));iterate 3 focus (first|rfl|omega|(rw[hn1 od];simp[zab];done)|(rw[hn0 od];simp[zab];done)|(simp[zab,nmB, *];done)|(simp;omega))
 refine rn [(5,some (.tok ((xs++(nmB p path++zab (zar n) p path p.kids.length)).map Pb.c).length 2))] (r1 Z) (.glg ?_) ⟨Z,Z⟩ (SubO.get ⟨.inr ?_,⟨.inl Z,I⟩⟩) (zaX Z);rotate_left 2;all_goals (first|((rw[show i=p.kids.length by omega];simp);done)|((show some (Res.tok _ _)=some (Res.tok _ _);congr 2;rw[show i=p.kids.length by omega];simp)))
theorem zgQ:∀(n:Nat){p:Pat}{xs:List Pb}{path:List Int},p.size<=n->p.ok->path.length+n<=1000000->xs.length+p.size<=1000000000000->
   FnD Tryz.prog 144 [.gl 5 (xs.map Pb.c),.agg [.d (.i p.op),.d (.i p.ctor),.d (.i p.n),.d (.i p.m),.d (.i p.var),.d (zau p.kids)],.d (zaH path)] [(5,some (.tok (xs.map Pb.c).length 2))] (.gl 5 ((xs++zar n p path).map Pb.c)) [(5,some (.tok ((xs++zar n p path).map Pb.c).length 2))]
 |0,p,xs,path,h,_,_,_=>by rw[xaZ] at h;omega
 |n+1,p,xs,path,h,hok,hp,hb=>znH (fun {p xs path} a1 a2 a3 a4=>zgQ n a1 a2 a3 a4) h hok hp hb
theorem zkm {n:Nat}{p:Pat}{path:List Int} (h:p.size<=n) (hok:p.ok) (hp:path.length+n<=1000000):
  FnD Tryz.prog 144 [.nils,.agg [.d (.i p.op),.d (.i p.ctor),.d (.i p.n),.d (.i p.m),.d (.i p.var),.d (zau p.kids)],.d (zaH path)] [] (.d (zcB (zar n p path))) []:=by
 have h:=zgQ n (xs:=[]) h hok hp (by simp only[xak];omega);exact xaN (by simp[AV.idsL,AV.ids]) h
abbrev st4 (p:Pat) (path:List Int):Stp:=⟨1,path,p.ctor,0,0,0,[],0⟩
def zaV (f:Pat->List Int->List Stp) (p:Pat) (path:List Int):Nat->List Stp
 |0=>[]
 |i+1=>zaV f p path i++f (nth p.kids i) (path++[(i:Int)])
def zas:Nat->Pat->List Int->List Stp
 |0,_,_=>[]
 |n+1,p,path=>if p.op=6 then zas n (nth p.kids 0) path else if p.op=3 then [⟨1,path,-1,p.n,p.m,0,[],0⟩]
  else if p.op=4 then st4 p path::zaV (zas n) p path p.kids.length else []
def asOk:Nat->Pat->Prop
 |0,_=>True
 |n+1,p=>(p.op=6->0<p.kids.length)/\∀k∈p.kids,asOk n k
theorem ziN {f:Pat->List Int->List Stp}{p:Pat}{path:List Int} (hf:∀q path,(f q path).length<=q.size):∀i,i<=p.kids.length->(zaV f p path i).length<=Pats.size (p.kids.take i)
 |0,_=>by simp[zaV]
 |i+1,h=>by
  have ih:=ziN (p:=p) (path:=path) hf i od;have h0:=hf (nth p.kids i) (path++[(i:Int)]);have hs:=zdc (l:=p.kids) (i:=i) od;rw[zaV,xaa];omega
theorem zoR {l:List Pat}{i:Nat} (h:i<l.length):(nth l i).size<=Pats.size l:=xa2 (zai h)
theorem zdR:∀(n:Nat) (p:Pat) (path:List Int),(zas n p path).length<=p.size
 |0,p,path=>by simp[zas]
 |n+1,p,path=>by
  have hz:=xaZ p;have h2:=ziN (path:=path) (zdR n) (p:=p) p.kids.length (Nat.le_refl _);rw[List.take_length] at h2;rw[zas];split
  ·have h0:=zdR n (nth p.kids 0) path;by_cases hk:0<p.kids.length
   ·have:=zoR hk;omega
   ·have:nth p.kids 0=default:=by
     unfold nth;rw[List.getD_eq_getElem?_getD,List.getElem?_eq_none od];rfl
    rw[this] at h0 ⊢;have hd:(default:Pat).size=1:=rfl;omega
  split
  ·simp;omega
  split
  ·simp only[xab];omega
  ·simp
set_option maxHeartbeats 2000000
abbrev pbA (b:Pb):List AV:=[.d (.i b.var),.d (zaH b.path)]
def pbC (L:List Pb):List AV:=((L.map Pb.c).flatten).map AV.d
theorem zix:∀ {L:List Pb}{i:Nat},i<L.length->cutC (pbC L) (i*2) 2=some (pbA (nth L i))
 |x::r,0,_=>by simp[cutC,nth,pbC,Pb.c]
 |x::r,i+1,h=>by
  have:=zix (L:=r) (i:=i) (by simpa using h);rw[show(i+1)*2=i*2+1+1 by omega];exact this
theorem znV:∀ {L:List Pb}{i:Nat}{e:Pb},i<L.length->putC (pbC L) (i*2) (pbA e)=some (pbC (L.set i e))
 |x::r,0,e,_=>by simp[putC,pbC,Pb.c]
 |x::r,i+1,e,h=>by
  have:=znV (L:=r) (i:=i) (e:=e) (by simpa using h);rw[show(i+1)*2=i*2+1+1 by omega];show putC (.d _:: .d _::pbC r) (i*2+1+1) (pbA e)=_
  simp only[putC,this];rfl
theorem zra (L:List Pb):zbN (L.map Pb.c).length 2 (pbC L)=some (L.map Pb.c):=by
 have:=zdW (f:=Pb.c) (k:=2) (l:=L) (fun _ _=>rfl);rw[xac,<-this];congr 1
 unfold pbC;rw[List.map_flatten,List.flatMap_def,List.map_map];rfl
def zcH (L:List Pb) (j:Nat):List Pb:=(L.set (j+1) (nth L j)).set j (nth L (j+1))
theorem zgS {L:List Pb}{j:Nat}:(zcH L j).length=L.length:=by simp[zcH]
def zbX:Nat->List Pb->List Pb
 |0,L=>L
 |j+1,L=>if (nth L (j+1)).var<(nth L j).var then zbX j (zcH L j) else L
theorem zrx {j:Nat}{L:List Pb} (h:(nth L (j+1)).var<(nth L j).var):zbX (j+1) L=zbX j (zcH L j):=by
 conv=>lhs;unfold zbX
 rw[if_pos h]
theorem zpB {j:Nat}{L:List Pb} (h:¬(nth L (j+1)).var<(nth L j).var):zbX (j+1) L=L:=by
 unfold zbX;rw[if_neg h]
theorem zfA:∀(j:Nat) (L:List Pb),(zbX j L).length=L.length
 |0,_=>rfl
 |j+1,L=>by
  unfold zbX;split
  ·rw[zfA j,zgS]
  ·rfl
def zcw:Nat->Nat->List Pb->List Pb
 |0,_,L=>L
 |k+1,i,L=>zcw k (i+1) (zbX i L)
theorem zlh {n i:Nat}{L:List Pb} (h:i<n):zcw (n-i) i L=zcw (n-(i+1)) (i+1) (zbX i L):=by
 obtain⟨k,rfl⟩:∃k,n=i+1+k:=⟨n-(i+1),by omega⟩;rw[show i+1+k-i=k+1 by omega,show i+1+k-(i+1)=k by omega];rfl
theorem zqP {n i:Nat}{L:List Pb} (h:n<=i):zcw (n-i) i L=L:=by
 rw[show n-i=0 by omega];rfl
theorem zbb (L:List Pb):AV.idsL (pbC L)=[]:=by
 unfold pbC;generalize (L.map Pb.c).flatten=l;induction l with
 |nil=>rfl
 |cons x r ih=>simpa [AV.idsL,AV.ids] using ih
theorem zhP {j:Nat}{L:List Pb} (h:j=0\/¬(nth L j).var<(nth L (j-1)).var):zbX j L=L:=by
 cases j with
 |zero=>rfl
 |succ j=>exact zpB (h.resolve_left od)
theorem ziU {L L':List Pb}:zbi [(9,some (.box (pbC L)))] [(9,some (.box (pbC L')))] (AV.tup []) []=true:=by
 simp only[zbi,List.all_cons,List.all_nil,zc5,zcC,AV.idsL,AV.ids,zah,zbb,xaf,List.map_nil];rfl
theorem zg4 {a b:Pb}:FnD Tryz.prog 99 [.agg (pbA a),.agg (pbA b)] [] (.d (.i (cmpV a.var b.var))) []:=by
 refine bd Tryz.f99 10 [] [] fun _ _ _ _ hk=>?_;refine bx 3002 ?_;refine bx 3003 ?_;refine ev (wc zsw zlD Z Z ?_);refine ev (rq ?_);rotate_left;all_goals (rfl)
theorem zfK {L:List Pb}{f:Nat} (hn:L.length<=12) (hcal:Callee Tryz.prog f) (hf:∀a b:Pb,FnD Tryz.prog f ([.agg (pbA a),.agg (pbA b)]++[]) [] (.d (.i (cmpV a.var b.var))) []):
  FnD Tryz.prog 198 [.ms 9 L.length,.d (.i 0),.d (.i L.length),.fn f []] [(9,some (.box (pbC L)))] (.tup []) [(9,some (.box (pbC (zcw (L.length-1) 1 L))))]:=by
 refine bd Tryz.f198 53 [26,31,46,50] [] fun _ _ _ _ hk=>?_;refine ar (xaD (ι:=Nat×List Pb) hk (fun x=>[(8,.d (.i (x.1:Int)))]) [9,12,13,14,15,16,17,18,19,20,21,22,23,24,25,26,27,28,29,30,31,32,33,34,35,36,37,38,39,40,41,42,43,44,45,46,47,48,49,50,51,52] (fun x=>[(9,some (.box (pbC x.2)))]) (fun x=>1<=x.1/\x.1<=L.length+1/\x.2.length=L.length/\zcw (L.length-x.1) x.1 x.2=zcw (L.length-1) 1 L) (fun x=>L.length-x.1) (1,L) ⟨by simp,by simp,Z,Z⟩ ⟨⟨_,Z,xaQ ?_⟩,I⟩ ⟨?_,I⟩ (fun x=>rfl) (fun x hg1=>?_));focus (first|rfl|omega|(dsimp only;omega))
 focus (first|rfl|(show some (Res.box _)=some (Res.box _);rw[<-hg2.2.2,zhP (by first|(left;omega)|(right;rw[<-zhy];assumption))]))
 refine evc [26,31,46,50] [] ?_;apply sq<;>intro h1 h1p h1s<;>(try simp only[Q] at h1p);refine xaD (ι:=Nat×List Pb) hk (fun y=>[(9,.d (.i (y.1:Int)))]) [18,19,20,21,22,23,24,25,26,27,28,29,30,31,32,33,34,35,36,37,38,39,40,41,42,43,44,45,46,47,48,49,50,51,52] (fun y=>[(9,some (.box (pbC y.2)))]) (fun y=>y.1<=x.1/\y.2.length=L.length/\zbX y.1 y.2=zbX x.1 x.2) (fun y=>y.1) (x.1,x.2) ⟨Nat.le_refl _,hg1.2.2.1,Z⟩ ⟨⟨_,Z,xaQ ?_⟩,I⟩ ⟨?_,I⟩ (fun x=>rfl) (fun y hg2=>?_);focus (first|rfl|omega|(dsimp only;omega))
 focus (first|rfl|(show some (Res.box _)=some (Res.box _);unfold zcH;rw[show y.1-1+1=y.1 by omega]))
 refine evc [26,31,46,50] [] ?_;apply sq<;>intro h2 h2p h2s<;>(try simp only[Q] at h2p);refine xbG zcd (.some Z Z h2) Z Z Z Z od ?_;refine xbM zh0 (.some Z Z h2) Z Z Z ((zix od)) ?_;refine evd [26,31,46,50] [(21,true)] ?_ ⟨⟨_,Z,h2⟩,I⟩;refine ar (xbG (i:=y.1-1) zcd (.some Z Z h2) Z Z Z od od ?_);refine xbM zh0 (.some Z Z h2) Z Z Z ((zix od)) ?_;refine xby (cr:=[]) hcal (hf _ _) Z (.some Z Z h2) Z Z Z (LeL.refl _) I Z (by first|rfl|(simp only[zbi,List.all_cons,List.all_nil,zc5,zcC,AV.idsL,AV.ids,zah,zaj,xaf,List.map_nil,zbb];rfl)) (by first|rfl|(simp only[zaq,occH,occE,Res.ids,xai,List.nil_append,AV.idsL,AV.ids,zah,zaj,zal,zaF,xaf,List.map_nil,upC,zbb];rfl)) ?_;refine evd [26,31,46,50] [(21,true)] ?_ ⟨⟨_,Z,h2⟩,I⟩;refine dr ?_;apply sq<;>intro h3 h3p h3s<;>(try simp only[Q] at h3p);refine ar (ar (xbG (i:=y.1-1) zcd .none Z Z Z od od ?_));refine xbM zh0 .none Z Z Z ((zix od)) ?_;refine evd [26,31,46,50] [] (xbG zcd .none Z Z Z Z od ?_);refine xbM zh0 .none Z Z Z ((zix od)) ?_;refine xbG zcd .none Z Z Z Z od ?_;refine Walk.store zh0 .none Z Z Z Z Z Z og ((znV (by first|omega|(simp;omega)))) ?_;refine xbG (i:=y.1-1) zcd .none Z Z Z od od ?_;refine Walk.store zh0 .none Z Z Z Z Z Z og ((znV (by first|omega|(simp;omega)))) ?_;refine dr (ar (xaj ((y.1-1,zcH y.2 (y.1-1))) ⟨⟨by dsimp only;omega,by dsimp only;rw[zgS];exact hg2.2.1,by have hlt:(nth y.2 (y.1-1+1)).var<(nth y.2 (y.1-1)).var:=(by rw[show y.1-1+1=y.1 by omega];exact zhy.1 ol);have hk:=zrx hlt;rw[show y.1-1+1=y.1 by omega] at hk;dsimp only;rw[<-hk];exact hg2.2.2⟩,(by dsimp only;omega),sx ⟨⟨_,Z,xaQ ?_⟩,I⟩ ⟨?_,I⟩⟩));focus (first|rfl|omega|(dsimp only;omega))
 focus (first|rfl|(show some (Res.box _)=some (Res.box _);unfold zcH;rw[show y.1-1+1=y.1 by omega]))
 refine ar (xaj ((x.1+1,zbX x.1 x.2)) ⟨⟨by dsimp only;omega,by dsimp only;omega,by dsimp only;rw[zfA];exact hg1.2.2.1,by dsimp only;rw[<-zlh od];exact hg1.2.2.2⟩,(by dsimp only;omega),sx ⟨⟨_,Z,xaQ ?_⟩,I⟩ ⟨?_,I⟩⟩);focus (first|rfl|omega|(dsimp only;omega))
 focus (first|rfl|(show some (Res.box _)=some (Res.box _);rw[<-hg2.2.2,zhP (by first|(left;omega)|(right;rw[<-zhy];assumption))]))
 refine dr (sqF ?_);refine ar (xaj ((x.1+1,zbX x.1 x.2)) ⟨⟨by dsimp only;omega,by dsimp only;omega,by dsimp only;rw[zfA];exact hg1.2.2.1,by dsimp only;rw[<-zlh od];exact hg1.2.2.2⟩,(by dsimp only;omega),sx ⟨⟨_,Z,xaQ ?_⟩,I⟩ ⟨?_,I⟩⟩);focus (first|rfl|omega|(dsimp only;omega))
 focus (first|rfl|(show some (Res.box _)=some (Res.box _);rw[<-hg2.2.2,zhP (by first|(left;omega)|(right;rw[<-zhy];assumption))]))
 refine rn [(9,some (.box (pbC (zcw (L.length-1) 1 L))))] .nil (.refl _) ⟨Z,Z⟩ (SubO.get ⟨.inr ?_,⟨.inl Z,I⟩⟩) (zaX Z);rotate_left;all_goals (first|((rfl);done)|(show some (Res.box _)=some (Res.box _);rw[<-hg1.2.2.2,zqP od]))
theorem zfB {f:Nat}:FnD Tryz.prog 198 [.d (.sl []),.d (.i 0),.d (.i 0),.fn f []] [] (.tup []) []:=by
 refine bd Tryz.f198 53 [] [] fun _ _ _ _ hk=>?_;refine ar (xaD (ι:=Unit) hk (fun u=>[(8,.d (.i 1))]) [9,12,13,14,15,16,17,18,19,20,21,22,23,24,25,26,27,28,29,30,31,32,33,34,35,36,37,38,39,40,41,42,43,44,45,46,47,48,49,50,51,52] (fun u=>[]) (fun u=>True) (fun u=>0) () I ⟨⟨_,Z,xaQ ?_⟩,I⟩ I (fun x=>rfl) (fun u hg1=>?_));focus (first|rfl|(simp;done)|(simp_all;done)|omega)
 refine evc [] [] ?_;apply sq<;>intro h1 h1p h1s<;>(try simp only[Q] at h1p);exfalso;simp at h1;refine rn0 .nil (.refl _)
theorem zhQ {L:List Pb}{f:Nat} (hn:L.length<=12) (hcal:Callee Tryz.prog f) (hf:∀a b:Pb,FnD Tryz.prog f ([.agg (pbA a),.agg (pbA b)]++[]) [] (.d (.i (cmpV a.var b.var))) []):
  FnD Tryz.prog 153 [.ms 9 L.length,.d (.i 0),.d (.i L.length),.any,.fn f []] [(9,some (.box (pbC L)))] (.tup []) [(9,some (.box (pbC (zcw (L.length-1) 1 L))))]:=by
 refine bd Tryz.f153 148 [] [] fun _ _ _ _ hk=>?_;refine xaD (ι:=Unit) hk (fun u=>[(1,.d (.i 0)),(2,.d (.i (L.length:Int)))]) [3,10,11,12,13,14,15,16,17,18,19,20,21,22,23,24,25,26,27,28,29,30,31,32,33,34,35,36,37,38,39,40,41,42,43,44,45,46,47,48,49,50,51,52,53,54,55,56,57,58,59,60,61,62,63,64,65,66,67,68,69,70,71,72,73,74,75,76,77,78,79,80,81,82,83,84,85,86,87,88,89,90,91,92,93,94,95,96,97,98,99,100,101,102,103,104,105,106,107,108,109,110,111,112,113,114,115,116,117,118,119,120,121,122,123,124,125,126,127,128,129,130,131,132,133,134,135,136,137,138,139,140,141,142,143,144,145,146,147] (fun u=>[(9,some (.box (pbC L)))]) (fun u=>True) (fun u=>0) () I ⟨⟨_,Z,xaQ ?_⟩,⟨⟨_,Z,xaQ ?_⟩,I⟩⟩ ⟨?_,I⟩ (fun x=>rfl) (fun u hg1=>?_);iterate 2 focus (first|rfl|(simp;done)|(simp_all;done)|omega)
 focus (first|rfl|(simp[getH];done))
 refine evc [] [] (ar ?_);apply sq<;>intro h1 h1p h1s<;>(try simp only[Q] at h1p);refine Walk.call (cr:=[]) zp9 (zfK hn hcal hf) Z .none Z Z (.cons (xaR (by first|rfl|(simp;done))) (.cons (.refl _) (.cons (.refl _) (.cons (.refl _) .nil)))) ⟨Z,I⟩ Z ziU Z ?_;apply tv;refine rn [(9,some (.box (pbC (zcw (L.length-1) 1 L))))] .nil (.refl _) ⟨Z,Z⟩ (SubO.get ⟨.inr ?_,⟨.inl Z,I⟩⟩) (zaX Z);rotate_left;exfalso;omega;all_goals (first|((rfl);done)|(rfl))
theorem zhp {f:Nat}:FnD Tryz.prog 153 [.d (.sl []),.d (.i 0),.d (.i 0),.any,.fn f []] [] (.tup []) []:=by
 refine bd Tryz.f153 148 [] [] fun _ _ _ _ hk=>?_;refine xaD (ι:=Unit) hk (fun u=>[(1,.d (.i 0)),(2,.d (.i 0))]) [3,10,11,12,13,14,15,16,17,18,19,20,21,22,23,24,25,26,27,28,29,30,31,32,33,34,35,36,37,38,39,40,41,42,43,44,45,46,47,48,49,50,51,52,53,54,55,56,57,58,59,60,61,62,63,64,65,66,67,68,69,70,71,72,73,74,75,76,77,78,79,80,81,82,83,84,85,86,87,88,89,90,91,92,93,94,95,96,97,98,99,100,101,102,103,104,105,106,107,108,109,110,111,112,113,114,115,116,117,118,119,120,121,122,123,124,125,126,127,128,129,130,131,132,133,134,135,136,137,138,139,140,141,142,143,144,145,146,147] (fun u=>[]) (fun u=>True) (fun u=>0) () I ⟨⟨_,Z,xaQ ?_⟩,⟨⟨_,Z,xaQ ?_⟩,I⟩⟩ I (fun x=>rfl) (fun u hg1=>?_);iterate 2 focus (first|rfl|(simp;done)|(simp_all;done)|omega)
 refine evc [] [] (ar ?_);apply sq<;>intro h1 h1p h1s<;>(try simp only[Q] at h1p);refine wc zp9 zfB Z Z ?_;apply tv;refine rn0 .nil (.refl _);exfalso;simp at h1
theorem zho {L:List Pb}{f:Nat} (hn:L.length<=12) (hcal:Callee Tryz.prog f) (hf:∀a b:Pb,FnD Tryz.prog f ([.agg (pbA a),.agg (pbA b)]++[]) [] (.d (.i (cmpV a.var b.var))) []):
  FnD Tryz.prog 98 [.ms 9 L.length,.fn f []] [(9,some (.box (pbC L)))] (.tup []) [(9,some (.box (pbC (zcw (L.length-1) 1 L))))]:=by
 have hu:=zqV (n:=(L.length:Int)) od od;refine bd Tryz.f98 14 [] [] fun _ _ _ _ hk=>?_;refine xbA (k':= .u64) oi oi .none Z Z ?_;refine Walk.call (cr:=[]) zp0 (zjH (by rw[hu];omega) (by rw[hu];omega)) Z .none Z Z (LeL.refl _) I Z (by first|rfl|(simp only[zbi,List.all_cons,List.all_nil,zc5,zcC,AV.idsL,AV.ids,zah,zaj,xaf,List.map_nil,zbb];rfl)) (by first|rfl|(simp only[zaq,occH,occE,Res.ids,xai,List.nil_append,AV.idsL,AV.ids,zah,zaj,zal,zaF,xaf,List.map_nil,upC,zbb];rfl)) ?_;refine ev (Walk.call (cr:=[]) zpZ (zhQ hn hcal hf) Z .none Z Z (.cons (xaR (by first|rfl|(simp;done))) (.cons (.refl _) (.cons (.refl _) (.cons (.refl _) (.cons (.refl _) .nil))))) ⟨Z,I⟩ Z ziU Z ?_);apply tv;refine rn [(9,some (.box (pbC (zcw (L.length-1) 1 L))))] .nil (.refl _) ⟨Z,Z⟩ (SubO.get ⟨.inr ?_,⟨.inl Z,I⟩⟩) (zaX Z);rotate_left;all_goals (first|((rfl);done)|(rfl))
theorem zha {f:Nat}:FnD Tryz.prog 98 [.d (.sl []),.fn f []] [] (.tup []) []:=by
 refine bd Tryz.f98 14 [] [] fun _ _ _ _ hk=>?_;refine xbA (k':= .u64) oi oi .none Z Z ?_;refine wc zp0 (zjH (m:=IntKind.u64.wrap 0) oj oj) Z Z ?_;refine ev (wc zpZ zhp Z Z ?_);apply tv;refine rn0 .nil (.refl _)
theorem zpH {L:List Pb}{j:Nat} (h:j+1<L.length):(zcH L j).Perm L:=by
 have e:L=L.take j++nth L j::nth L (j+1)::L.drop (j+2):=by
  have h1:L.drop j=nth L j::L.drop (j+1):=zb0 od;have h2:L.drop (j+1)=nth L (j+1)::L.drop (j+2):=zb0 od;conv=>lhs;rw[<-List.take_append_drop j L,h1,h2]
 have hl:(L.take j).length=j:=by rw[List.length_take];omega
 generalize nth L j=x at e;generalize nth L (j+1)=y at e;generalize L.take j=A at *;generalize L.drop (j+2)=B at *;subst e;have n1:nth (A++x::y::B) j=x:=by rw[<-hl];simp[nth,List.getD]
 have n2:nth (A++x::y::B) (j+1)=y:=by rw[<-hl];simp[nth,List.getD]
 unfold zcH;rw[n1,n2];have s1:((A++x::y::B).set (j+1) x).set j y=A++y::x::B:=by
  rw[<-hl];simp
 rw[s1];exact(List.Perm.swap x y B).append_left A
theorem zlg:∀(j:Nat) (L:List Pb),j<L.length->(zbX j L).Perm L
 |0,L,_=>List.Perm.refl _
 |j+1,L,h=>by
  unfold zbX;split
  ·exact(zlg j (zcH L j) (by rw[zgS];omega)).trans (zpH h)
  ·exact List.Perm.refl _
theorem zli:∀(k i:Nat) (L:List Pb),i+k<=L.length->(zcw k i L).Perm L
 |0,_,_,_=>List.Perm.refl _
 |k+1,i,L,h=>by
  unfold zcw;exact(zli k (i+1) (zbX i L) (by rw[zfA];omega)).trans (zlg i L od)
def zfr (L:List Pb):List Pb:=zcw (L.length-1) 1 L
theorem zhT (L:List Pb):(zfr L).Perm L:=by
 cases L with
 |nil=>exact List.Perm.refl _
 |cons x r=>exact zli _ _ _ ot
theorem zfC (L:List Pb):(zfr L).length=L.length:=(zhT L).length_eq
theorem zjQ:∀(j i:Nat) (L:List Pb),j<=i->i<L.length->(∀a b,a<b->b<=i->a≠j->b≠j->(nth L a).var<=(nth L b).var)->(∀b,j<b->b<=i->(nth L j).var<=(nth L b).var)->
  ∀a b,a<b->b<=i->(nth (zbX j L) a).var<=(nth (zbX j L) b).var
 |0,i,L,hj,hi,h1,h2,a,b,hab,hb=>by
  show(nth L a).var<=(nth L b).var
  by_cases ha:a=0
  ·subst ha;exact h2 b hab hb
  ·exact h1 a b hab hb ha od
 |j+1,i,L,hj,hi,h1,h2,a,b,hab,hb=>by
  unfold zbX;split
  ·rename_i hlt;have hs:∀k,nth (zcH L j) k=if j=k then nth L (j+1) else if j+1=k then nth L j else nth L k:=fun k=>by
    unfold zcH;rw[zoQ ot,zoQ od]
   refine zjQ j i (zcH L j) od (by rw[zgS];omega) (fun a b hab hb ha hbj=>?_) (fun b hjb hb=>?_) a b hab hb
   ·have ea:nth (zcH L j) a=if j+1=a then nth L j else nth L a:=by rw[hs a,if_neg (fun h=>ha h.symm)]
    have eb:nth (zcH L j) b=if j+1=b then nth L j else nth L b:=by rw[hs b,if_neg (fun h=>hbj h.symm)]
    rw[ea,eb];by_cases e1:j+1=a
    ·rw[if_pos e1,if_neg od];exact h1 j b od hb od od
    ·rw[if_neg e1];by_cases e2:j+1=b
     ·rw[if_pos e2];exact h1 a j od od od od
     ·rw[if_neg e2];exact h1 a b hab hb od od
   ·have ea:nth (zcH L j) j=nth L (j+1):=by rw[hs j,if_pos rfl]
    have eb:nth (zcH L j) b=if j+1=b then nth L j else nth L b:=by rw[hs b,if_neg od]
    rw[ea,eb];by_cases e2:j+1=b
    ·rw[if_pos e2];omega
    ·rw[if_neg e2];exact h2 b od hb
  ·rename_i hge;by_cases ha:a=j+1
   ·subst ha;exact h2 b hab hb
   ·by_cases hbj:b=j+1
    ·subst hbj;by_cases haj:a=j
     ·subst haj;omega
     ·have:=h1 a j od od ha od;omega
    ·exact h1 a b hab hb ha hbj
theorem zjR:∀(k i:Nat) (L:List Pb),i+k<=L.length->(∀a b,a<b->b<i->(nth L a).var<=(nth L b).var)->∀a b,a<b->b<i+k->(nth (zcw k i L) a).var<=(nth (zcw k i L) b).var
 |0,i,L,_,h,a,b,hab,hb=>h a b hab hb
 |k+1,i,L,hl,h,a,b,hab,hb=>by
  unfold zcw;refine zjR k (i+1) (zbX i L) (by rw[zfA];omega) (fun a b hab hb=>?_) a b hab od;exact zjQ i i L (Nat.le_refl _) od (fun a b hab hb ha hbi=>h a b hab od) (fun b h1 h2=>by omega) a b hab od
theorem zn5 (L:List Pb):(zfr L).Pairwise fun x y=>x.var<=y.var:=by
 rw[List.pairwise_iff_getElem];intro i j hi hj hij;rw[<-zaD hi,<-zaD hj];have hl:=zfC L;refine zjR (L.length-1) 1 L od (fun a b hab hb=>by omega) i j hij od
theorem zjS:∀ {a b:List Pb},a.Pairwise (fun x y=>x.var<y.var)->b.Pairwise (fun x y=>x.var<y.var)->(∀x,x∈a↔x∈b)->a=b
 | [],[],_,_,_=>rfl
 | [],y::s,_,_,h=>absurd ((h y).2 og) og
 |x::r,[],_,_,h=>absurd ((h x).1 og) og
 |x::r,y::s,ha,hb,h=>by
  obtain⟨h1,h2⟩:=List.pairwise_cons.1 ha;obtain⟨h3,h4⟩:=List.pairwise_cons.1 hb;have e:x=y:=by
   rcases List.mem_cons.1 ((h x).1 og) with e|e
   ·exact e
   ·rcases List.mem_cons.1 ((h y).2 og) with e2|e2
    ·exact e2.symm
    ·have:=h3 x e;have:=h1 y e2;omega
  subst e;congr 1
  refine zjS h2 h4 (fun z=>?_);have hz:=h z;simp only[List.mem_cons] at hz;constructor
  ·intro hr;rcases hz.1 (.inr hr) with e|e
   ·subst e;have:=h1 z hr;omega
   ·exact e
  ·intro hs;rcases hz.2 (.inr hs) with e|e
   ·subst e;have:=h3 z hs;omega
   ·exact e
theorem zlC {L:List Pb} (hn:(L.map Pb.var).Nodup):(zbK L 6).Pairwise fun x y=>x.var<y.var:=by
 have key:∀(m:Nat),((List.range m).flatMap fun(n:Nat)=>L.filter fun b=>decide (b.var=(n:Int))).Pairwise fun x y=>x.var<y.var:=by
  intro m;induction m with
  |zero=>simp
  |succ m ih=>
   rw[List.range_succ,List.flatMap_append];refine List.pairwise_append.2 ⟨ih, ?_,fun x hx y hy=>?_⟩
   ·simp only[List.flatMap_cons,List.flatMap_nil,xaq];have hnd:(L.filter fun b=>decide (b.var=(m:Int))).Pairwise fun x y=>x.var≠y.var:=((List.pairwise_map.1 hn)).filter _;refine hnd.imp_of_mem (fun {x y} hx hy hne=>?_);simp only[List.mem_filter,xah] at hx hy;exact absurd (by rw[hx.2,hy.2]) hne
   ·simp only[List.mem_flatMap,List.mem_range,List.mem_filter,xah] at hx;simp only[List.flatMap_cons,List.flatMap_nil,xaq,List.mem_filter,xah] at hy;obtain⟨k,hk,_,e⟩:=hx;rw[e,hy.2];omega
 exact key 6
theorem znf {L:List Pb} (hn:(L.map Pb.var).Nodup) (hr:∀b∈L,0<=b.var/\b.var<=5):zbK L 6=zfr L:=by
 have hs:(zfr L).Pairwise fun x y=>x.var<y.var:=by
  have h1:=zn5 L;have h2:((zfr L).map Pb.var).Nodup:=((zhT L).map Pb.var).nodup_iff.2 hn;have h3:=List.pairwise_map.1 h2;exact h1.imp₂ (fun {a b} h4 h5=>by omega) h3
 refine zjS (zlC hn) hs (fun x=>?_);rw[(zhT L).mem_iff];unfold zbK;simp only[List.mem_flatMap,List.mem_range,List.mem_filter,xah];constructor
 ·rintro ⟨k,_,h,_⟩;exact h
 ·intro h;have:=hr x h;exact⟨x.var.toNat,by omega,h,by omega⟩
set_option maxHeartbeats 4000000
def zbm (l:List Pb) (v:Val):List Bd:=l.map fun x=>⟨x.var,atV x.path v⟩
theorem znc:∀(l:List Int) (v:Val),zby l v->v.ok->(atV l v).ok
 | [],v,_,h=>h
 |i::r,v,h,hv=>znc r (nth v.kids i.toNat) h.2.2 (by rw[xbh] at hv;exact xbj hv.2 _ (zai h.2.1))
theorem ou{p:Prop}(h:p:=by intro x hx;simp at hx;subst hx;rfl):p:=h
theorem zkl {l:List Pb}{v:Val} (hl:l.length<=1000000) (hp:∀x∈l,x.path.length<=1000000/\zby x.path v) (hok:v.ok):
  FnD Tryz.prog 89 [.d (zcB l),.agg [.d (.i v.ctor),.d (.i v.num),.d (zbg v.kids)]] [] (.d (zgl (zbm l v))) []:=by
 refine bd Tryz.f89 32 [] [] fun _ _ _ _ hk=>?_;refine bx 3003 ?_;refine ev (xbX 1 zeb .none Z Z (ev (xaD (ι:=List (Pb)×List (Pb)) hk (fun x=>[(6,.d (.i (x.1.length:Int))),(5,.gl 1 ((zbm x.1 v).map Bd.c))]) [8,9,10,11,12,13,14,15,16,17,18,19,20,21,22,23,24,25,26,27,28,29,30] (fun x=>[(1,some (.tok (((zbm x.1 v).map Bd.c)).length 4))]) (fun x=>x.1++x.2=l) (fun x=>x.2.length) ([],l) og ⟨⟨_,Z,xaQ ?_⟩,⟨⟨_,Z,LeA.glg ?_⟩,I⟩⟩ ⟨zac ?_,I⟩ (fun x=>rfl) (fun x hg1=>?_))));iterate 3 focus (first|rfl|(simp[zbm];done)|(simp[zbm,Bd.c];done)|(simp;omega))
 obtain⟨pre,rest⟩:=x;dsimp only at hg1 ⊢;refine evc [] [] ?_;apply sq<;>intro h1 h1p h1s<;>(try simp only[Q,xal,xac] at h1p);rcases rest with _|⟨y,rest⟩
 ·exfalso;simp_all
 refine ixq zcd Z Z Z (zaL hg1) Z (evd [] [] (ixq zcd Z Z Z (zaL hg1) Z (evd [] [] (wc zrR (zjc (hp y (by rw[<-hg1];simp)).1 (hp y (by rw[<-hg1];simp)).2) Z Z ?_))));refine wc zph (ze8 _ (Nat.le_refl _) (znc _ _ (hp y (by rw[<-hg1];simp)).2 hok)) Z Z ?_;refine bu [0,1] [_,_] zr2 ?_;refine si [0] [_] zeb zr8 ?_;refine ap zeb zsa Z Z Z ou (by have hz:=xam List.length hg1;simp[zbm] at hz ⊢;omega) ?_;refine evd [] [] (dr (ar (xaj ((pre++[y],rest)) ⟨(by have hz:=hg1;rw[<-hz];simp),og,sx ⟨⟨_,Z,xaQ ?_⟩,⟨⟨_,Z,LeA.glg ?_⟩,I⟩⟩ ⟨zac ?_,I⟩⟩)));iterate 3 focus (first|rfl|(simp[zbm];done)|(simp[zbm,Bd.c];done)|(simp;omega))
 have hrest:rest=[]:=by
  rcases rest with _|⟨a,b⟩
  ·rfl
  ·exfalso;have hz:=xam List.length (hg1);simp only[xaa,xab,xac] at hz;omega
 subst hrest;refine rn0 (r1 Z) (.gld ?_);rotate_left;all_goals (first|rfl|(rw[xaq] at hg1;subst hg1;rfl))
theorem zqu (L:List Nat) (hp:Hp) (i:Nat):getH (L.map (fun j=>(j,(none:Option Res)))++hp) i=if i∈L then none else getH hp i:=by
 induction L with
 |nil=>simp
 |cons x r ih=>
  simp only[xaf,xai,zad,List.mem_cons];by_cases h:i=x
  ·subst h;simp
  ·simp[h,ih]
section
variable {c:Ctx}
theorem R.drop {G:Gh}{s:St}{a:Act}{w:World} (hr:R c G s a w) (L:List Nat) (hk:∀i l,c.kept i=some l->i∉L):R c G ⟨s.env,L.map (fun j=>(j,none))++s.hp⟩ a w:=by
 have hg:=zqu L s.hp;have hT:∀i p,tokf (L.map (fun j=>(j,(none:Option Res)))++s.hp) i=some p->tokf s.hp i=some p:=fun i p h=>by
  obtain⟨n,k⟩:=p;have:=zak.1 h;rw[hg] at this;split at this
  ·cases this
  ·exact zak.2 this
 have hm:∀ {x:AV}{v:Value},RelA G (tokf s.hp) w x v->RelA G (tokf (L.map (fun j=>(j,(none:Option Res)))++s.hp)) w x v:=fun hx=>
  hx.mono (fun _ _ ho=>⟨ho,rfl⟩) (fun _ _=> .inl rfl) (fun i _ p hp=>⟨hT i p hp,fun _ _=>⟨rfl,rfl⟩⟩)
 have hs:∀i r,getH (L.map (fun j=>(j,(none:Option Res)))++s.hp) i=some r->getH s.hp i=some r:=fun i r h=>by
  rw[hg] at h;split at h
  ·cases h
  ·exact h
 have hss:∀i,(getH (L.map (fun j=>(j,(none:Option Res)))++s.hp) i).isSome->(getH s.hp i).isSome:=fun i h=>by
  obtain⟨r,hr⟩:=Option.isSome_iff_exists.1 h;rw[hs i r hr];rfl
 refine⟨hr.size,hr.defers,fun i v h=>hm (hr.slots i v h),fun i r h=>?_,fun i j h1 h2=>hr.disj i j (hss i h1) (hss j h2),fun i h=>hr.new i (hss i h),hr.frm,hr.top,fun i l hl=>?_⟩
 ·have hh:=hr.heap i r (hs i r h);cases r with
  |box cs=>
   obtain⟨b,vs,e,h1,h2,h3,h4,h5⟩:=hh;exact⟨b,vs,e,h1,h2,h3,h4,fun j hj hv=>hm (h5 j hj hv)⟩
  |tok m k=>exact hh
  |map ks=>exact hh
  |tree cs=>exact zaW hh Z (fun _ _=>⟨Z,Z⟩) (Nat.le_refl _) (fun _ _ _=>hm)
 ·obtain⟨k1,k2,k3⟩:=hr.kept i l hl;refine⟨k1, ?_, ?_⟩
  ·show(getH (L.map (fun j=>(j,(none:Option Res)))++s.hp) i).isSome
   rw[hg,if_neg (hk i l hl)];exact k2
  ·show tokf (L.map (fun j=>(j,(none:Option Res)))++s.hp) i=none
   cases h:tokf (L.map (fun j=>(j,(none:Option Res)))++s.hp) i with
   |none=>rfl
   |some p=>rw[hT i p h] at k3;cases k3
inductive RowT (hp:Hp):List AV->List D->List (Nat×Nat×Nat)->Prop
 |nil:RowT hp [] [] []
 |sc {x cs ds js} (hs:zjt x=true) (h:RowT hp cs ds js):RowT hp (.d x::cs) (x::ds) js
 |ni {cs ds js} (h:RowT hp cs ds js):RowT hp (.nils::cs) (.sl []::ds) js
 |gt {j zs n k cs ds js} (hj:getH hp j=some (.tok n k)) (hn:n=zs.length) (h:RowT hp cs ds js):RowT hp (.gt j zs::cs) (.sl zs::ds) ((j,n,k)::js)
theorem RowT.move {hp hp':Hp}{cs:List AV}{ds:List D}{js:List (Nat×Nat×Nat)} (h:RowT hp cs ds js):(∀q,q∈js->getH hp' q.1=some (.tok q.2.1 q.2.2))->RowT hp' cs ds js:=by
 induction h with
 |nil=>intro _;exact .nil
 |sc hs _ ih=>intro h;exact .sc hs (ih h)
 |ni _ ih=>intro h;exact .ni (ih h)
 |gt hj hn _ ih=>intro h;exact .gt (h (_,_,_) List.mem_cons_self) hn (ih fun q hq=>h q (List.mem_cons_of_mem _ hq))
theorem RowT.len {hp:Hp}{cs:List AV}{ds:List D}{js:List (Nat×Nat×Nat)} (h:RowT hp cs ds js):ds.length=cs.length:=by
 induction h with
 |nil=>rfl
 |sc _ _ ih=>simp[ih]
 |ni _ ih=>simp[ih]
 |gt _ _ _ ih=>simp[ih]
end
section
variable {c:Ctx}{env:Env}{hp:Hp}{K:Kt}{code:Code}{ids:List Nat}
theorem RelA.mc_eq {G:Gh}{T:TokF}{w:World}{id n cap:Nat}{v:Value} (h:RelA G T w (.mc id n cap) v):∃b,((G.loc id).head?=some b/\T id=none)/\v = .slice (some ⟨b,0,none⟩) n cap/\n<=cap:=by
 cases h with|mc h hT hcap=>exact⟨_,⟨h,hT⟩,rfl,hcap⟩
theorem Rel.fixC (hkp:KeptIn c.kept ids) (t id k:Nat){xs:List (List D)} (ht:getE env t=some (.gv id xs)) (hb:getH hp id=some (.tok xs.length k)) (hid:zaJ id ids=false) (hx0:xs≠[]){a:Act}{w:World} (hrel:Rel c ⟨env,hp⟩ a w):
  ∃cap,xs.length<=cap/\Rel c ⟨(t,.mc id xs.length cap)::env,(id,some (.box (xs.flatten.map .d++List.replicate ((cap-xs.length)*k) .any)))::hp⟩ a w:=by
 obtain⟨G,hr⟩:=hrel;have hT:tokf hp id=some (xs.length,k):=zak.2 hb;have hsl:=hr.slots t _ ht;obtain⟨⟨ad,cap0,hv0⟩,hcl⟩:=hsl.gv_inv;obtain⟨hkx,htip⟩:=(hcl _ _ hT).2 rfl;have hkne:∀i l,c.kept i=some l->i≠id:=fun i l hk e=>by
  subst e;have:=zav.2 (hkp.mem i l hk);rw[this] at hid;cases hid
 have hm:∀(r:Option Res),(∀n k,r≠some (.tok n k))->∀ {x:AV}{v:Value},RelA G (tokf hp) w x v->(r.isSome->id∉x.ids->True)->RelA G (tokf ((id,r)::hp)) w x v:=by
  intro r hnr x v hx _;refine hx.mono (fun _ _ ho=>⟨ho,Z⟩) (fun _ _=> .inl Z) (fun i _ p hp'=>?_);obtain⟨n,q⟩:=p;have:=zak.1 hp';rw[zad] at this;split at this
  ·exact absurd this (hnr n q)
  ·exact⟨zak.2 this,fun _ _=>⟨rfl,rfl⟩⟩
 have base:∀(r:Option Res) (v:AV),(∀n k,r≠some (.tok n k))->RelA G (tokf ((id,r)::hp)) w v (a.tmps.getD t undef)->(∀x,r=some x->RelR G (tokf ((id,r)::hp)) w id x)->
   Rel c ⟨(t,v)::env,(id,r)::hp⟩ a w:=by
  intro r v hnr hv hrr;have hsome:∀i,(getH ((id,r)::hp) i).isSome->(getH hp i).isSome:=fun i hi=>by
   rw[zad] at hi;split at hi
   ·rename_i e;subst e;rw[hb];rfl
   ·exact hi
  refine⟨G,hr.size,hr.defers,fun i x hi=>?_,fun i x hi=>?_,fun i j q1 q2=>hr.disj i j (hsome i q1) (hsome j q2),fun i q1=>hr.new i (hsome i q1),hr.frm,hr.top,fun i l hk=>?_⟩
  ·simp only[getE] at hi;cases hti:Nat.beq t i with
   |true=>
    have:=xap hti;subst this;simp only[hti,cond_true,xae] at hi;subst hi;exact hv
   |false=>
    simp only[hti,cond_false] at hi;exact hm r hnr (hr.slots i x hi) (fun _ _=>trivial)
  ·have hi':getH ((id,r)::hp) i=some x:=hi;rw[zad] at hi';split at hi'
   ·rename_i e;subst e;exact hrr x hi'
   ·have hh:=hr.heap i x hi';cases x with
    |box cs2=>
     obtain⟨b2,vs2,e2,q1,q2,q3,q4,q5⟩:=hh;exact⟨b2,vs2,e2,q1,q2,q3,q4,fun j hj hv=>hm r hnr (q5 j hj hv) (fun _ _=>trivial)⟩
    |tok m q=>exact hh
    |map ks=>exact hh
    |tree cs2=>exact zaW hh Z (fun _ _=>⟨Z,Z⟩) (Nat.le_refl _) (fun _ _ _ h=>hm r hnr h (fun _ _=>trivial))
  ·have hk':=hr.kept i l hk;have hne:=hkne i l hk;show(G.loc i).head?=l.head?/\(getH ((id,r)::hp) i).isSome/\tokf ((id,r)::hp) i=none
   have hg:getH ((id,r)::hp) i=getH hp i:=by rw[zad,if_neg hne]
   refine⟨hk'.1,by rw[hg];exact hk'.2.1, ?_⟩;have h2:=hk'.2.2;unfold tokf at h2 ⊢;rw[hg];exact h2
 rcases htip with ⟨h1,h2,h3⟩|⟨b,cap,cs,et,h1,h2,h3,h4,h5,h6,h7⟩
 ·exact absurd (List.eq_nil_of_length_eq_zero h2) hx0
 ·have hnt:tokf ((id,some (Res.box (xs.flatten.map .d++List.replicate ((cap-xs.length)*k) .any)))::hp) id=none:=by
   unfold tokf;rw[zad,if_pos rfl]
  have hmul:xs.length*k+(cap-xs.length)*k=cap*k:=by rw[<-Nat.add_mul];congr 1;omega
  refine⟨cap,h6,base (some (.box (xs.flatten.map .d++List.replicate ((cap-xs.length)*k) .any))) _ (fun _ _=>by simp) ?_ (fun x h=>?_)⟩
  ·have hv1:a.tmps.getD t undef = .slice (some ⟨b,0,none⟩) xs.length cap:=h2;rw[hv1];exact .mc (zej h1) hnt h6
  ·cases h
   refine⟨b,cs,et,h1,h4, ?_,h3,fun i hi hv=>?_⟩
   ·rw[xaa,xac,zb1 hkx,List.length_replicate];omega
   ·by_cases hi':i<xs.length*k
    ·have hlt:i<(xs.flatten.map AV.d).length:=by rw[xac,zb1 hkx];exact hi'
     rw[List.getElem_append_left hlt];have hkpos:0<k:=by
      rcases Nat.eq_zero_or_pos k with h|h
      ·subst h;simp at hi'
      ·exact h
     have hq:i / k<xs.length:=Nat.div_lt_of_lt_mul (by rw[Nat.mul_comm];exact hi');have hrm:i % k<k:=Nat.mod_lt _ hkpos;have e1:=zdw hkx hq hrm;rw[Nat.div_add_mod'] at e1;rw[xan hlt] at e1;rw[Option.some.inj e1];have h8:=h7 (i / k) hq (i % k) (by rw[hkx _ (xao hq)];exact hrm);rw[Nat.div_add_mod'] at h8;have e2:cs.getD i undef=cs[i]:=by simp[Array.getD,hv]
     rw[e2] at h8;exact .d h8
    ·have hge:(xs.flatten.map AV.d).length<=i:=by rw[xac,zb1 hkx];omega
     rw[List.getElem_append_right hge,List.getElem_replicate];exact .any _
theorem CWp.fixC (hkp:KeptIn c.kept ids) (t id k:Nat){xs:List (List D)} (ht:getE env t=some (.gv id xs)) (hb:getH hp id=some (.tok xs.length k)) (hid:zaJ id ids=false) (hx0:xs≠[])
  (hn:∀cap,xs.length<=cap->CWp c code ⟨(t,.mc id xs.length cap)::env,(id,some (.box (xs.flatten.map .d++List.replicate ((cap-xs.length)*k) .any)))::hp⟩ K):CWp c code ⟨env,hp⟩ K:=by
 intro a w hrel;obtain⟨cap,h,hr⟩:=Rel.fixC hkp t id k ht hb hid hx0 hrel;exact hn cap h a w hr
end
section
variable {c:Ctx}{all:Array Oper}{chk:List Rec->Prop}{os:List Oper}{recs:List Rec}{env:Env}{hp:Hp}{Q:St->Prop}
variable {d ty:Nat}{pos:String}{af:Array Edge}{g:Option (Nat×Bool)}{pg:List (Nat×AV)}
variable {t:TypeId}{x y:Operand}{id:Nat}
theorem xbH {e k yb m cap:Nat}{kd:IntKind}{n:Int}{i:Nat} (ht:SlT c.P t e k yb) (hg:GH all env g pg) (hd:Nat.blt d c.n=true)
  (hx:opd env x=some (.mc id m cap)) (hy:opd env y=some (.d (.int kd n))) (hi:n = ↑i) (hlt:i<m)
  (hn:Walk c all chk os (zan (pg++(opF x (.mc id m cap)++opF y (.d (.int kd n)))) [] [] ⟨some (d,.ref id (i*k)),[]⟩::recs) ⟨(d,.ref id (i*k))::env,hp⟩ Q):
  Walk c all chk (⟨some d,.indexAddr t x y,ty,pos,af,g⟩::os) recs ⟨env,hp⟩ Q:=by
 refine xbT hg hd hx hy (fun a G T w h1 h2=>?_) hn;obtain⟨b,hl,he,hcap⟩:=h1.mc_eq;refine⟨.pointer (some ⟨b,0+i*k,none⟩), ?_,by rw[Nat.zero_add];exact .ref hl.1 hl.2⟩;simp only[execOp,he,h2.int_eq,hi,Sem.run_bind,zdO ht hlt,Result.andThen_ok,Sem.run_pure]
end
end Go.Proofs.YtmchfdpleibpdaaGreat
