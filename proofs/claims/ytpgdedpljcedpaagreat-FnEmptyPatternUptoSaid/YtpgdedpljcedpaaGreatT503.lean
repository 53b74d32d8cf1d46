/-
  THE ABSTRACT WALK AND THE WALKS, part 3 of 5: the parts F20, F21, F24, F25, F13, G2, F22, F26, F23, F27, F28, F29, F40, G3, G4, F14, F16, F42, F50, F51, F52, F53, F54, F55, F56, F57, F58, F70, Val, F7.
-/
import Derived.Test.YtpgdedpljcedpaaGreatT502
namespace Go.Proofs.YtpgdedpljcedpaaGreat
open Go
set_option linter.unusedSimpArgs false
set_option linter.unusedVariables false
set_option maxRecDepth 100000
set_option maxHeartbeats 2000000
structure Vt where
 var:Int
 ty:Ty
 deriving DecidableEq,Inhabited
abbrev Vt.c (t:Vt):List D:=[.i t.var,.i t.ty.data,.i t.ty.index]
abbrev zdv (l:List Vt):D:= .sl (l.map Vt.c)
def zap (w:List Data) (t:Ty):List Int:=if t.data = -1 then [] else zaM w t
def zad (w:List Data) (t:Ty) (p:Pat):List Ty:=if p.op=4 then zab w t p.ctor else if p.op=5 then [t,t] else if p.op=6 then [t] else []
def ownP (w:List Data) (t:Ty) (p:Pat):Bool:=decide (((p.op=2\/p.op=6)->0<=p.var/\p.var<=5)/\(¬(p.op=2\/p.op=6)->p.var=0)/\(p.op≠3->p.n=0/\p.m=0)/\(p.op≠4->p.ctor=0)/\
 (p.op=1\/p.op=2\/p.op=5\/p.op=6\/(p.op=3/\t.data = -1/\0<=p.n/\p.n<=p.m/\p.m<=9)\/(p.op=4/\p.ctor∈zap w t)))
def okP (w:List Data) (t:Ty) (p:Pat):Bool:=ownP w t p&&decide (p.kids.length=(zad w t p).length)
def zcA (w:List Data) (t:Ty) (p:Pat):List Ty:=if p.op=4/\p.ctor∉zap w t then [] else zad w t p
def zas (w:List Data):Nat->Ty->Pat->Bool
 |0,_,_=>false
 |n+1,t,p=>ownP w t p&&all2 (zas w n) (zad w t p) p.kids
def zaR (t:Ty) (p:Pat):List Vt:=if p.op=2\/p.op=6 then [⟨p.var,t⟩] else []
def za8 (f:Ty->Pat->List Vt):List Ty->List Pat->List Vt
 |a::r,b::s=>f a b++za8 f r s
 |_,_=>[]
def zdz (w:List Data) (t:Ty) (p:Pat):List Ty:=if p.op=5 then (zad w t p).take 1 else zad w t p
def zaD (w:List Data):Nat->Ty->Pat->List Vt
 |0,_,_=>[]
 |n+1,t,p=>zaR t p++za8 (zaD w n) (zdz w t p) p.kids
def zbM (l:List Vt) (n:Int):Int:=idxF (fun v=>decide (v.var=n)) l 0
def zds (a b:List Vt):Bool:=a.all (fun v=>decide (0<=zbM b v.var/\(nth b (zbM b v.var).toNat).ty=v.ty))&&decide (a.length=b.length)
def zoO (l:List Vt):Bool:=(List.range l.length).all fun(i:Nat)=>decide (zbM l (nth l i).var=(i:Int))
def zdT (a b:List Vt):Bool:=decide (a.length=b.length)&& !a.any fun v=> !decide (v∈b)
def zcp (l:List Vt):Bool:=decide (l.map Vt.var).Nodup
def linP (w:List Data):Nat->Ty->Pat->Bool
 |0,_,_=>true
 |n+1,t,p=>all2 (linP w n) (zad w t p) p.kids&&(if p.op=5 then zds (zaD w n t (nth p.kids 0)) (zaD w n t (nth p.kids 1)) else zoO (zaD w (n+1) t p))
theorem ziv (l:List Vt) (n:Int):(zbM l n = -1/\∀v∈l,v.var≠n)\/∃k:Nat,zbM l n=k/\k<l.length/\(nth l k).var=n/\∀j,j<k->(nth l j).var≠n:=by
 have key:∀(l:List Vt) (i:Nat),(idxF (fun v=>decide (v.var=n)) l i = -1/\∀v∈l,v.var≠n)\/∃k:Nat,idxF (fun v=>decide (v.var=n)) l i=((i+k:Nat):Int)/\k<l.length/\(nth l k).var=n/\∀j,j<k->(nth l j).var≠n:=by
  intro l;induction l with
  |nil=>intro i;exact .inl ⟨rfl,by simp⟩
  |cons x r ih=>
   intro i;unfold idxF;by_cases h:x.var=n
   ·exact .inr ⟨0,by simp[h],by simp,by simpa [nth] using h,fun j hj=>absurd hj (by omega)⟩
   ·rcases ih (i+1) with ⟨h1,h2⟩|⟨k,h1,h2,h3,h4⟩
    ·exact .inl ⟨by simpa [h] using h1,fun v hv=>by rcases List.mem_cons.1 hv with rfl|hv;exact h;exact h2 v hv⟩
    ·refine .inr ⟨k+1, ?_,by simpa using h2,by simpa [nth] using h3,fun j hj=>?_⟩
     ·simp only[h,decide_false,Bool.false_eq_true,if_false];rw[h1];congr 1;omega
     ·cases j with
      |zero=>simpa [nth] using h
      |succ j=>simpa [nth] using h4 j (by omega)
 rcases key l 0 with h|⟨k,h1,h2⟩
 ·exact .inl h
 ·exact .inr ⟨k,by unfold zbM;simpa using h1,h2⟩
theorem zoc {l:List Vt}:(l.map Vt.var).Nodup↔∀i j,i<j->j<l.length->(nth l i).var≠(nth l j).var:=by
 unfold List.Nodup;rw[List.pairwise_iff_getElem];constructor
 ·intro h i j hij hj;have:=h i j (by simp;omega) (by simpa using hj) hij;simp only[List.getElem_map] at this;rw[za5 (by omega),za5 hj];exact this
 ·intro h i j hi hj hij;simp only[xac] at hi hj;simp only[List.getElem_map];rw[<-za5 hi,<-za5 hj];exact h i j hij hj
theorem zoe {l:List Vt} (h:(l.map Vt.var).Nodup){i j:Nat} (hi:i<l.length) (hj:j<l.length) (he:(nth l i).var=(nth l j).var):i=j:=by
 have h1:=zoc.1 h;rcases Nat.lt_trichotomy i j with h2|h2|h2
 ·exact absurd he (h1 i j h2 hj)
 ·exact h2
 ·exact absurd he.symm (h1 j i h2 hi)
theorem zpo (l:List Vt):zoO l=zcp l:=by
 unfold zcp;by_cases h:(l.map Vt.var).Nodup
 ·rw[decide_eq_true h];refine zdt (fun i hi=>decide_eq_true ?_);rcases ziv l (nth l i).var with ⟨_,h2⟩|⟨k,h1,h2,h3,h4⟩
  ·exact absurd rfl (h2 _ (zah hi))
  ·rw[h1,zoe h h2 hi h3]
 ·rw[decide_eq_false h];cases hd:zoO l with
  |false=>rfl
  |true=>
   refine absurd ?_ h;rw[zoc];intro i j hij hj he;have h1:=List.all_eq_true.1 hd i (List.mem_range.2 (by omega));have h2:=List.all_eq_true.1 hd j (List.mem_range.2 hj);simp only[decide_eq_true_eq] at h1 h2;rw[he,h2] at h1;omega
theorem zly {a b:List Vt} (hb:zcp b=true):zds a b=zdT a b:=by
 unfold zcp at hb;simp only[decide_eq_true_eq] at hb;unfold zds zdT;rw[Bool.and_comm];congr 1
 rw[Bool.eq_iff_iff];simp only[List.all_eq_true,Bool.not_eq_true',List.any_eq_false,decide_eq_true_eq,Bool.not_eq_true,decide_eq_false_iff_not,Decidable.not_not];refine forall_congr' fun v=>forall_congr' fun hv=>?_;rcases ziv b v.var with ⟨h1,h2⟩|⟨k,h1,h2,h3,h4⟩
 ·rw[h1];exact⟨fun h=>absurd h.1 (by omega),fun h=>absurd rfl (h2 v h)⟩
 ·rw[h1];simp only[Int.toNat_natCast];constructor
  ·rintro ⟨_,h⟩
   have:nth b k=v:=by
    have e:∀x y:Vt,x.var=y.var->x.ty=y.ty->x=y:=fun x y h1 h2=>by cases x;cases y;simp_all
    exact e _ _ h3 h
   rw[<-this];exact zah h2
  ·intro h;refine⟨by omega, ?_⟩;obtain⟨j,hj,he⟩:=List.getElem_of_mem h;have h5:nth b j=v:=by rw[za5 hj];exact he
   have:=zoe hb h2 hj (by rw[h3,h5]);rw[this,h5]
def zbi (g:Ty->Pat->Int->Option (List Vt)×Int) (or:Bool):List Ty->List Pat->Nat->List Vt->Int->Option (List Vt)×Int
 |a::r,b::s,i,acc,c=>match (g a b c).1 with
  |none=>(none,(g a b c).2)
  |some l=>if or=true/\i=1 then (if zdT acc l=true then zbi g or r s (i+1) acc (g a b c).2 else (none,(g a b c).2)) else zbi g or r s (i+1) (acc++l) (g a b c).2
 |_,_,_,acc,c=>(some acc,c)
def finV (r:Option (List Vt)×Int):Option (List Vt)×Int:=match r.1 with
 |none=>r
 |some l=>if zcp l=true then r else (none,r.2)
def zaS (w:List Data):Nat->Ty->Pat->Int->Option (List Vt)×Int
 |0,_,_,c=>(none,c+1)
 |n+1,t,p,c=>if 60<c+1 then (none,c+1) else if okP w t p=true then finV (zbi (zaS w n) (decide (p.op=5)) (zad w t p) p.kids 0 (zaR t p) (c+1)) else (none,c+1)
def zbI (w:List Data) (n:Nat) (t:Ty) (p:Pat) (c:Int):Bool:=zas w n t p&&(decide (c+(p.size:Int)<=60)&&linP w n t p)
theorem ze5 (w:List Data):∀(n:Nat) (t:Ty) (p:Pat),zas w n t p=true->linP w n t p=true->zcp (zaD w n t p)=true
 |0,t,p,h,_=>by simp[zas] at h
 |n+1,t,p,h,hl=>by
  by_cases h5:p.op=5
  ·simp only[zas,linP,xad,if_pos h5] at h hl;have e1:zad w t p=[t,t]:=by unfold zad;rw[if_neg (by omega),if_pos h5]
   rw[e1] at h hl;rcases hk:p.kids with _|⟨x,_|⟨y,_|⟨z,r⟩⟩⟩
   ·rw[hk] at h;simp[all2] at h
   ·rw[hk] at h;simp[all2] at h
   ·rw[hk] at h hl;simp only[all2,xad,and_true] at h hl;have:=ze5 w n t x h.2.1 hl.1.1;have e2:zaD w (n+1) t p=zaD w n t x:=by
     simp only[zaD,zaR,zdz,e1,hk,if_pos h5];rw[if_neg (by omega)];simp[za8]
    rw[e2];exact this
   ·rw[hk] at h;simp[all2] at h
  ·simp only[linP,if_neg h5,xad] at hl;rw[<-zpo];exact hl.2
theorem zp4 {w:List Data}{n:Nat} (ih:∀t p c,((zaS w n t p c).1=if zbI w n t p c=true then some (zaD w n t p) else none)/\(zbI w n t p c=true->(zaS w n t p c).2=c+p.size)):
  ∀(a:List Ty) (b:List Pat) (i:Nat) (acc:List Vt) (c:Int),a.length=b.length->c<=60->
   ((zbi (zaS w n) false a b i acc c).1=if (all2 (zas w n) a b&&(decide (c+(Pats.size b:Int)<=60)&&all2 (linP w n) a b))=true then some (acc++za8 (zaD w n) a b) else none)/\
   ((all2 (zas w n) a b&&(decide (c+(Pats.size b:Int)<=60)&&all2 (linP w n) a b))=true->(zbi (zaS w n) false a b i acc c).2=c+Pats.size b)
 | [],[],i,acc,c,_,hc=>by simp[zbi,all2,Pats.size,za8,hc]
 |x::r,y::s,i,acc,c,hl,hc=>by
  obtain⟨h1,h2⟩:=ih x y c;have hps:Pats.size (y::s)=y.size+Pats.size s:=rfl;simp only[zbi,za8];by_cases hw:zbI w n x y c=true
  ·have h3:=h2 hw;rw[if_pos hw] at h1;rw[h1];simp only[Bool.false_eq_true,false_and,if_false];have h4:=hw;simp only[zbI,xad,decide_eq_true_eq] at h4;obtain⟨h5,h6⟩:=zp4 ih r s (i+1) (acc++zaD w n x y) (zaS w n x y c).2 (by simpa using hl) (by omega);have e:(all2 (zas w n) (x::r) (y::s)&&(decide (c+(Pats.size (y::s):Int)<=60)&&all2 (linP w n) (x::r) (y::s)))=(all2 (zas w n) r s&&(decide ((zaS w n x y c).2+(Pats.size s:Int)<=60)&&all2 (linP w n) r s)):=by
    rw[all2,all2,h4.1,h4.2.2,h3];simp only[Bool.true_and];congr 2
    exact decide_eq_decide.2 (by omega)
   rw[e];refine⟨?_,fun hx=>?_⟩
   ·rw[h5,List.append_assoc]
   ·rw[h6 hx,h3];omega
  ·rw[if_neg hw] at h1;rw[h1];simp only;have hf:¬(all2 (zas w n) (x::r) (y::s)&&(decide (c+(Pats.size (y::s):Int)<=60)&&all2 (linP w n) (x::r) (y::s)))=true:=fun h=>by
    simp only[all2,xad,decide_eq_true_eq] at h;refine hw ?_;simp only[zbI,xad,decide_eq_true_eq];refine⟨h.1.1, ?_,h.2.2.1⟩;have:=h.2.1;omega
   rw[if_neg hf];exact⟨rfl,fun h=>absurd h hf⟩
 | [],_::_,_,_,_,hl,_=>by simp at hl
 |_::_,[],_,_,_,hl,_=>by simp at hl
theorem zfS (w:List Data):∀(n:Nat) (t:Ty) (p:Pat) (c:Int),((zaS w n t p c).1=if zbI w n t p c=true then some (zaD w n t p) else none)/\(zbI w n t p c=true->(zaS w n t p c).2=c+p.size)
 |0,t,p,c=>by simp[zaS,zbI,zas]
 |n+1,t,p,c=>by
  have hsz:=Pat.size_eq p;unfold zaS;by_cases h1:60<c+1
  ·have hf:¬zbI w (n+1) t p c=true:=fun h=>by
    simp only[zbI,xad,decide_eq_true_eq] at h;omega
   rw[if_pos h1,if_neg hf];exact⟨rfl,fun h=>absurd h hf⟩
  rw[if_neg h1];by_cases h2:okP w t p=true
  ·rw[if_pos h2];have h2':=h2;simp only[okP,xad,decide_eq_true_eq] at h2';by_cases h5:p.op=5
   ·have e1:zad w t p=[t,t]:=by unfold zad;rw[if_neg (by omega),if_pos h5]
    have e3:zaR t p=[]:=by unfold zaR;rw[if_neg (by omega)]
    rw[e1] at h2';rcases hk:p.kids with _|⟨x,_|⟨y,_|⟨z,r⟩⟩⟩
    ·rw[hk] at h2';simp at h2'
    ·rw[hk] at h2';simp at h2'
    ·have e4:zaD w (n+1) t p=zaD w n t x:=by
      simp only[zaD,zdz,e1,hk,if_pos h5,e3];simp[za8]
     have e5:zbI w (n+1) t p c=((zas w n t x&&zas w n t y)&&(decide (c+1+(x.size:Int)+y.size<=60)&&((linP w n t x&&linP w n t y)&&zds (zaD w n t x) (zaD w n t y)))):=by
      simp only[zbI,zas,linP,h2'.1,e1,hk,all2,if_pos h5,Bool.and_true,Bool.true_and,nth,List.getD_cons_zero,List.getD_cons_succ];congr 2
      refine decide_eq_decide.2 ?_;rw[hsz,hk];simp only[Pats.size];push_cast;omega
     rw[e4,e5,e1,e3];obtain⟨a1,a2⟩:=zfS w n t x (c+1);simp only[zbi,h5,decide_true];by_cases w1:zbI w n t x (c+1)=true
     ·have a3:=a2 w1;rw[if_pos w1] at a1;have b1:=w1;simp only[zbI,xad,decide_eq_true_eq] at b1;obtain⟨d1,d2⟩:=zfS w n t y (zaS w n t x (c+1)).2;rw[a1];simp only[true_and,Nat.zero_ne_one,if_false,List.nil_append];by_cases w2:zbI w n t y (zaS w n t x (c+1)).2=true
      ·have d3:=d2 w2;rw[if_pos w2] at d1;have b2:=w2;simp only[zbI,xad,decide_eq_true_eq] at b2;rw[d1];simp only[Nat.zero_add,if_true];have n1:=ze5 w n t x b1.1 b1.2.2;have n2:=ze5 w n t y b2.1 b2.2.2;have e6:((zas w n t x&&zas w n t y)&&(decide (c+1+(x.size:Int)+y.size<=60)&&((linP w n t x&&linP w n t y)&&zds (zaD w n t x) (zaD w n t y))))=zdT (zaD w n t x) (zaD w n t y):=by
        rw[b1.1,b2.1,b1.2.2,b2.2.2,zly n2,decide_eq_true (by omega)];simp
       rw[e6];by_cases hs:zdT (zaD w n t x) (zaD w n t y)=true
       ·rw[if_pos hs,if_pos hs];simp only[finV,n1,if_true];refine⟨trivial,fun _=>?_⟩;rw[d3,a3,hsz,hk];simp only[Pats.size];push_cast;omega
       ·rw[if_neg hs,if_neg hs];simp only[finV];exact⟨trivial,fun h=>absurd h hs⟩
      ·rw[if_neg w2] at d1;rw[d1];simp only[finV];have hf:¬((zas w n t x&&zas w n t y)&&(decide (c+1+(x.size:Int)+y.size<=60)&&((linP w n t x&&linP w n t y)&&zds (zaD w n t x) (zaD w n t y))))=true:=fun h=>by
        simp only[xad,decide_eq_true_eq] at h;refine w2 ?_;simp only[zbI,xad,decide_eq_true_eq];exact⟨h.1.2,by omega,h.2.2.1.2⟩
       rw[if_neg hf];exact⟨rfl,fun h=>absurd h hf⟩
     ·rw[if_neg w1] at a1;rw[a1];simp only[finV];have hf:¬((zas w n t x&&zas w n t y)&&(decide (c+1+(x.size:Int)+y.size<=60)&&((linP w n t x&&linP w n t y)&&zds (zaD w n t x) (zaD w n t y))))=true:=fun h=>by
       simp only[xad,decide_eq_true_eq] at h;refine w1 ?_;simp only[zbI,xad,decide_eq_true_eq];exact⟨h.1.1,by omega,h.2.2.1.1⟩
      rw[if_neg hf];exact⟨rfl,fun h=>absurd h hf⟩
    ·rw[hk] at h2';simp at h2'
   ·have e0:(decide (p.op=5))=false:=decide_eq_false h5;rw[e0];obtain⟨a1,a2⟩:=zp4 (fun t p c=>zfS w n t p c) (zad w t p) p.kids 0 (zaR t p) (c+1) h2'.2.symm (by omega);have e4:zaD w (n+1) t p=zaR t p++za8 (zaD w n) (zad w t p) p.kids:=by simp only[zaD,zdz,if_neg h5]
    have e5:zbI w (n+1) t p c=((all2 (zas w n) (zad w t p) p.kids&&(decide (c+1+(Pats.size p.kids:Int)<=60)&&all2 (linP w n) (zad w t p) p.kids))&&zcp (zaD w (n+1) t p)):=by
     have:decide (c+(p.size:Int)<=60)=decide (c+1+(Pats.size p.kids:Int)<=60):=decide_eq_decide.2 (by omega);simp only[zbI,zas,linP,h2'.1,if_neg h5,Bool.true_and,zpo,this,Bool.and_assoc]
    rw[e5];by_cases hw:(all2 (zas w n) (zad w t p) p.kids&&(decide (c+1+(Pats.size p.kids:Int)<=60)&&all2 (linP w n) (zad w t p) p.kids))=true
    ·rw[if_pos hw,<-e4] at a1;have a3:=a2 hw;rw[hw,Bool.true_and];unfold finV;rw[a1];by_cases hn:zcp (zaD w (n+1) t p)=true
     ·simp only[hn,if_true];exact⟨a1,fun _=>by rw[a3];omega⟩
     ·simp only[hn,Bool.false_eq_true,if_false];exact⟨trivial,fun h=>absurd h (by simp)⟩
    ·rw[if_neg hw] at a1;have hw':(all2 (zas w n) (zad w t p) p.kids&&(decide (c+1+(Pats.size p.kids:Int)<=60)&&all2 (linP w n) (zad w t p) p.kids))=false:=by simpa using hw
     rw[hw',Bool.false_and];unfold finV;rw[a1];simp[a1]
  ·have hf:¬zbI w (n+1) t p c=true:=fun h=>by
    simp only[zbI,zas,xad,decide_eq_true_eq] at h;refine h2 ?_;simp only[okP,xad,decide_eq_true_eq];refine⟨h.1.1, ?_⟩;by_cases hl:(zad w t p).length=p.kids.length
    ·exact hl.symm
    ·have:=zfD (f:=zas w n) hl;rw[this] at h;simp at h
   rw[if_neg h2,if_neg hf];exact⟨rfl,fun h=>absurd h hf⟩
mutual
def cntP (m:Int):Pat->Int
 | .mk _ _ _ _ _ ks=>zc2 m 1 ks
def zc2 (m n:Int):List Pat->Int
 | []=>n
 |k::r=>if n<=m then zc2 m (n+cntP (m-n) k) r else n
end
theorem zu4 (m:Int) (v:Pat):cntP m v=zc2 m 1 v.kids:=by cases v;rfl
theorem zlN {m n:Int}{l:List Pat} (h:¬n<=m):zc2 m n l=n:=by cases l<;>simp[zc2,h]
mutual
theorem zkj:∀(v:Pat) (m:Int),1<=cntP m v/\cntP m v<=v.size
 | .mk _ _ _ _ _ ks,m=>by
  have:=zk1 ks m 1 (by omega);simp only[cntP,Pat.size];push_cast;omega
theorem zk1:∀(l:List Pat) (m n:Int),1<=n->1<=zc2 m n l/\zc2 m n l<=n+Pats.size l
 | [],m,n,h=>by simp[zc2,Pats.size];omega
 |k::r,m,n,h=>by
  have h1:=zkj k (m-n);have h2:=zk1 r m (n+cntP (m-n) k) (by omega);simp only[zc2,Pats.size];split
  ·push_cast;omega
  ·push_cast;omega
end
mutual
theorem zpj:∀(v:Pat) (m:Int),(cntP m v<=m↔(v.size:Int)<=m)/\(cntP m v<=m->cntP m v=v.size)
 | .mk _ _ _ _ _ ks,m=>by
  have:=znM ks m 1;simp only[cntP,Pat.size];push_cast;exact this
theorem znM:∀(l:List Pat) (m n:Int),(zc2 m n l<=m↔n+(Pats.size l:Int)<=m)/\(zc2 m n l<=m->zc2 m n l=n+Pats.size l)
 | [],m,n=>by simp[zc2,Pats.size]
 |k::r,m,n=>by
  have h1:=zpj k (m-n);have h2:=znM r m (n+cntP (m-n) k);have h3:=zk1 r m (n+cntP (m-n) k);have h4:=zkj k (m-n);simp only[zc2,Pats.size];push_cast
  by_cases hn:n<=m
  ·rw[if_pos hn];by_cases h5:cntP (m-n) k<=m-n
   ·have h6:=h1.2 h5;rw[h6] at h2 ⊢;constructor
    ·rw[h2.1];constructor<;>intro h<;>omega
    ·intro h;rw[h2.2 h];omega
   ·have h7:¬(k.size:Int)<=m-n:=fun h=>h5 (h1.1.2 h);have h8:¬n+cntP (m-n) k<=m:=by omega
    rw[zlN h8];constructor
    ·constructor<;>intro h<;>omega
    ·intro h;omega
  ·rw[if_neg hn];constructor
   ·constructor<;>intro h<;>omega
   ·intro h;omega
end
theorem Pats.size_split {pre rest l:List Pat}{y:Pat} (h:pre++y::rest=l):Pats.size l=Pats.size pre+y.size+Pats.size rest:=by
 subst h;induction pre with
 |nil=>simp[Pats.size]
 |cons x r ih=>simp only[xag,Pats.size,ih];omega
theorem zbU {l:List Pat}{i:Nat} (h:i<l.length):(nth l i).size<=Pats.size l:=Pats.size_mem (zah h)
theorem zdN {l:List Pat}{i:Nat} (h:i<l.length):Pats.size (l.drop i)=(nth l i).size+Pats.size (l.drop (i+1)):=by
 rw[zaN h];rfl
theorem zfs:∀(n:Nat){v:Pat}{m:Int},v.size<=n->v.size<=1000000000000->v.ok->0<=m->m<=1000000000000->FnD Tryz.prog 160 [.agg [.d (.i v.op),.d (.i v.ctor),.d (.i v.n),.d (.i v.m),.d (.i v.var),.d (zaj v.kids)],.d (.i m)] [] (.d (.i (cntP m v))) []
 |0,v,m,h,_,_,_,_=>by rw[Pat.size_eq] at h;omega
 |n+1,v,m,h,hb,hok,m0,m1=>by
  rw[Pat.size_eq] at h hb;rw[Pat.ok_iff] at hok;rw[zu4];refine bd Tryz.f160 31 [] [] fun w0 F0 own kept hk=>?_;refine bx 3002 ?_;refine ev ?_;refine xak (ι:=Nat×Int) hk (fun x=>[(6,.d (.i (x.1:Int))),(5,.d (.i x.2))]) [7,8,9,10,11,12,13,14,15,16,17,18,19,20,21,22,23,24,25,26,27,28,29] (fun x=>[]) (fun x=>x.1<=v.kids.length/\zc2 m x.2 (v.kids.drop x.1)=zc2 m 1 v.kids/\1<=x.2/\x.2+Pats.size (v.kids.drop x.1)<=1+Pats.size v.kids) (fun x=>v.kids.length-x.1) (0,1) ⟨by simp,by simp,by simp,by simp⟩ ⟨⟨_,rfl,xar ?_⟩,⟨⟨_,rfl,xar ?_⟩,trivial⟩⟩ trivial (fun x=>rfl) (fun x hg1=>?_);iterate 2 focus (rfl)
  refine evc [] [] ?_;refine sq ?_ ?_<;>intro h1 h1p h1s<;>(try simp only[Q,Pat.cs_len] at h1p);refine sq ?_ ?_<;>intro h2 h2p h2s<;>(try simp only[Q,Pat.cs_len] at h2p);refine xaU sl26 .none rfl rfl rfl rfl (zaH (by omega)) rfl ?_;refine ev ?_;refine ar ?_ (by(constructor<;>omega));refine wc zpc (zfs n (v:=nth v.kids x.1) (by have:=zbU (l:=v.kids) (i:=x.1) (by omega);omega) (by have:=zbU (l:=v.kids) (i:=x.1) (by omega);omega) (Pats.ok_mem hok.2 _ (zah (by omega))) (by omega) (by omega)) rfl rfl ?_;refine ev ?_;refine ar ?_ (by(have hz:=zkj (nth v.kids x.1) (m-x.2);have hs:=zdN (l:=v.kids) (i:=x.1) (by omega);constructor<;>omega));refine ar ?_ (by(constructor<;>omega));refine xah ((x.1+1,x.2+cntP (m-x.2) (nth v.kids x.1))) ⟨(by
      have hz:=zkj (nth v.kids x.1) (m-x.2);have hs:=zdN (l:=v.kids) (i:=x.1) (by omega);refine⟨by dsimp only;omega, ?_,by dsimp only;omega,by dsimp only;omega⟩;rw[<-hg1.2.1,zaN (l:=v.kids) (i:=x.1) (by omega),zc2,if_pos (by omega)]),(by dsimp only;omega),sx ⟨⟨_,rfl,xar ?_⟩,⟨⟨_,rfl,xar ?_⟩,trivial⟩⟩ trivial⟩
  iterate 2 focus (rfl)
  refine rq ?_;rotate_left;refine sqF ?_;refine rq ?_;rotate_left;all_goals (refine congrArg D.i ?_;rw[<-hg1.2.1];first|(rw[List.drop_eq_nil_of_le (by omega)];rfl)|(rw[zlN (by omega)]))
end Go.Proofs.YtpgdedpljcedpaaGreat
namespace Go.Proofs.YtpgdedpljcedpaaGreat
open Go
set_option linter.unusedSimpArgs false
set_option linter.unusedVariables false
set_option maxRecDepth 100000
set_option maxHeartbeats 4000000
theorem zhP {w:List Data}{d:Nat}{k:Int}:zap w ⟨d,k⟩=zaM w ⟨d,k⟩:=by unfold zap;rw[if_neg (by simp only;omega)]
theorem zgR {w:List Data}{k:Int}:zap w ⟨-1,k⟩=[]:=by unfold zap;rw[if_pos rfl]
theorem zgS {w:List Data} (hw:WT w){a k:Int} (ht:TyIn w.length ⟨a,k⟩):(zap w ⟨a,k⟩).length<=1000000000000:=by
 rcases ht with ha|⟨d,hd,hlt⟩
 ·simp only at ha;subst ha;rw[zgR];exact Nat.zero_le _
 ·simp only at hd;subst hd;rw[zhP];exact zfW hw
theorem zcI {w:List Data}{a k c:Int} (ht:TyIn w.length ⟨a,k⟩) (h:c∈zap w ⟨a,k⟩):∃d:Nat,a=d/\d<w.length/\PlaceIn w d c:=by
 rcases ht with ha|⟨d,hd,hlt⟩
 ·simp only at ha;subst ha;rw[zgR] at h;simp at h
 ·simp only at hd;subst hd;rw[zhP] at h;exact⟨d,rfl,hlt,zb0 h⟩
theorem zhO {w:List Data} (hw:WT w){a k:Int}{p:Pat} (ht:TyIn w.length ⟨a,k⟩) (h:ownP w ⟨a,k⟩ p=true):∀t∈zad w ⟨a,k⟩ p,TyIn w.length t:=by
 intro t hm;unfold zad at hm;split at hm
 ·rename_i h4;unfold ownP at h;have h':=of_decide_eq_true h;have hc:p.ctor∈zap w ⟨a,k⟩:=by
   rcases h'.2.2.2.2 with h|h|h|h|h|h
   ·omega
   ·omega
   ·omega
   ·omega
   ·omega
   ·exact h.2
  obtain⟨d,rfl,h1,h2⟩:=zcI ht hc;exact zd4 hw h1 h2 hm
 ·split at hm
  ·simp only[List.mem_cons,List.not_mem_nil,or_false] at hm;rcases hm with rfl|rfl<;>exact ht
  ·split at hm
   ·simp only[List.mem_cons,List.not_mem_nil,or_false] at hm;subst hm;exact ht
   ·simp at hm
theorem zgQ {w:List Data} (hw:WT w){a k:Int}{p:Pat} (ht:TyIn w.length ⟨a,k⟩) (h:p.op=4->p.ctor∈zap w ⟨a,k⟩):(zad w ⟨a,k⟩ p).length<=1000000000000:=by
 unfold zad;split
 ·rename_i h4;obtain⟨d,rfl,h1,h2⟩:=zcI ht (h h4);exact zdG hw h1 h2
 ·split
  ·simp
  ·split<;>simp
def zf0 (op:Int):Int:=if op=5 then 2 else if op=6 then 1 else if op=4 then -1 else 0
theorem znD {op:Int}:FnD Tryz.prog 221 [.d (.i op)] [] (.d (.i (zf0 op))) []:=by
 refine bd Tryz.f221 10 [] [] fun w0 F0 own kept hk=>?_;refine sq ?_ ?_<;>intro h1 h1p h1s;refine rq ?_;rotate_left;refine sq ?_ ?_<;>intro h2 h2p h2s;refine rq ?_;rotate_left;refine sq ?_ ?_<;>intro h3 h3p h3s;refine rq ?_;rotate_left;refine rq ?_;rotate_left;all_goals (refine congrArg D.i ?_;simp only[zf0];simp_all)
theorem zch {w:List Data} (hw:WT w){a k:Int} (ht:TyIn w.length ⟨a,k⟩):FnD Tryz.prog 97 [.d (zan w),.agg [.d (.i a),.d (.i k)]] [] (.d (zcd (zap w ⟨a,k⟩))) []:=by
 rcases ht with ha|⟨d,hd,hlt⟩
 ·simp only at ha;subst ha;rw[zgR];exact zjd
 ·simp only at hd;subst hd;rw[zhP];exact zmE hw hlt
theorem zcy {w:List Data} (hw:WT w){a k c:Int} (ht:TyIn w.length ⟨a,k⟩) (hc:c∈zap w ⟨a,k⟩):FnD Tryz.prog 131 [.d (zan w),.agg [.d (.i a),.d (.i k)],.d (.i c)] [] (.d (zb9 (zab w ⟨a,k⟩ c))) []:=by
 obtain⟨d,rfl,h1,h2⟩:=zcI ht hc;exact znt hw h1 h2
theorem zgq {w:List Data} (hw:WT w){a k:Int}{p:Pat} (ht:TyIn w.length ⟨a,k⟩):
  FnD Tryz.prog 191 [.d (zan w),.agg [.d (.i a),.d (.i k)],.agg [.d (.i p.op),.d (.i p.ctor),.d (.i p.n),.d (.i p.m),.d (.i p.var),.d (zaj p.kids)]] [] (.d (.bool (ownP w ⟨a,k⟩ p))) []:=by
 have hcl:=zgS hw ht;refine bd Tryz.f191 96 [] [1,2,4,13] fun w0 F0 own kept hk=>?_;refine bx 3004 ?_;refine bx 3005 ?_;refine ev ?_;refine xam ?_;refine xaA 8 [(15,.d (.bool (decide (p.op=2\/p.op=6))))] [8,9,10,11,12,13,14] ?_ ?_;refine ev ?_;refine sq ?_ ?_<;>intro h1 h1p h1s;exact jnb rfl;exact jnb rfl;refine xaz ?_;refine ev ?_;refine xam ?_;refine xaA 11 [(26,.d (.bool (decide ((p.op=2\/p.op=6)/\(p.var<0\/5<p.var)))))] [16,17,18,19,20,21,22,23,24,25] ?_ ?_;refine ev ?_;refine sq ?_ ?_<;>intro h2 h2p h2s;refine sq ?_ ?_<;>intro h3 h3p h3s;exact jnb rfl;exact jnb rfl;exact jnb rfl;refine xaA 9 [(35,.d (.bool (decide ((p.op=2\/p.op=6)/\(p.var<0\/5<p.var)\/¬(p.op=2\/p.op=6)/\p.var≠0))))] [27,28,29,30,31,32,33,34] ?_ ?_;refine ev ?_;refine sq ?_ ?_<;>intro h4 h4p h4s;exact jnb rfl;refine sq ?_ ?_<;>intro h5 h5p h5s;exact jnb rfl;exact jnb rfl;refine xaz ?_;refine tv ?_;refine sq ?_ ?_<;>intro h6 h6p h6s;refine rq ?_;rotate_left;refine xam ?_;refine xaA 13 [(48,.d (.bool (decide (p.op≠3/\(p.n≠0\/p.m≠0)))))] [36,37,38,39,40,41,42,43,44,45,46,47] ?_ ?_;refine ev ?_;refine sq ?_ ?_<;>intro h7 h7p h7s;refine sq ?_ ?_<;>intro h8 h8p h8s;exact jnb rfl;exact jnb rfl;exact jnb rfl;refine xaA 10 [(58,.d (.bool (decide (p.op≠3/\(p.n≠0\/p.m≠0)\/p.op≠4/\p.ctor≠0))))] [49,50,51,52,53,54,55,56,57] ?_ ?_;refine ev ?_;refine sq ?_ ?_<;>intro h9 h9p h9s;exact jnb rfl;refine sq ?_ ?_<;>intro h10 h10p h10s;exact jnb rfl;exact jnb rfl;refine xaz ?_;refine tv ?_;refine sq ?_ ?_<;>intro h11 h11p h11s;refine rq ?_;rotate_left;refine sq ?_ ?_<;>intro h12 h12p h12s;refine sq ?_ ?_<;>intro h13 h13p h13s;refine rq ?_;rotate_left;refine sq ?_ ?_<;>intro h14 h14p h14s;refine xam ?_;refine xaA 8 [(75,.d (.bool (decide (a = -1/\0<=p.n))))] [68,69,70,71,72,73,74] ?_ ?_;refine ev ?_;refine sq ?_ ?_<;>intro h15 h15p h15s;exact jnb rfl;exact jnb rfl;refine xaA 7 [(82,.d (.bool (decide (a = -1/\0<=p.n/\p.n<=p.m))))] [76,77,78,79,80,81] ?_ ?_;refine ev ?_;refine sq ?_ ?_<;>intro h16 h16p h16s;exact jnb rfl;exact jnb rfl;refine xaA 5 [(87,.d (.bool (decide (a = -1/\0<=p.n/\p.n<=p.m/\p.m<=9))))] [83,84,85,86] ?_ ?_;refine ev ?_;refine sq ?_ ?_<;>intro h17 h17p h17s;exact jnb rfl;exact jnb rfl;refine xaz ?_;refine ev ?_;refine rq ?_;rotate_left;refine sq ?_ ?_<;>intro h18 h18p h18s;refine wc zim (zch hw ht) rfl rfl ?_;refine evd [] [] ?_;refine wc zlK (zeT hcl) rfl rfl ?_;refine evd [] [] ?_;refine dr ?_;refine rq ?_;rotate_left;refine rq ?_;rotate_left;refine sq ?_ ?_<;>intro h19 h19p h19s;refine sq ?_ ?_<;>intro h20 h20p h20s;refine rq ?_;rotate_left;refine sq ?_ ?_<;>intro h21 h21p h21s;refine xam ?_;refine xaA 8 [(75,.d (.bool (decide (a = -1/\0<=p.n))))] [68,69,70,71,72,73,74] ?_ ?_;refine ev ?_;refine sq ?_ ?_<;>intro h22 h22p h22s;exact jnb rfl;exact jnb rfl;refine xaA 7 [(82,.d (.bool (decide (a = -1/\0<=p.n/\p.n<=p.m))))] [76,77,78,79,80,81] ?_ ?_;refine ev ?_;refine sq ?_ ?_<;>intro h23 h23p h23s;exact jnb rfl;exact jnb rfl;refine xaA 5 [(87,.d (.bool (decide (a = -1/\0<=p.n/\p.n<=p.m/\p.m<=9))))] [83,84,85,86] ?_ ?_;refine ev ?_;refine sq ?_ ?_<;>intro h24 h24p h24s;exact jnb rfl;exact jnb rfl;refine xaz ?_;refine ev ?_;refine rq ?_;rotate_left;refine sq ?_ ?_<;>intro h25 h25p h25s;refine wc zim (zch hw ht) rfl rfl ?_;refine evd [] [] ?_;refine wc zlK (zeT hcl) rfl rfl ?_;refine evd [] [] ?_;refine dr ?_;refine rq ?_;rotate_left;refine rq ?_;rotate_left;refine sq ?_ ?_<;>intro h26 h26p h26s;refine sq ?_ ?_<;>intro h27 h27p h27s;refine rq ?_;rotate_left;refine sq ?_ ?_<;>intro h28 h28p h28s;refine xam ?_;refine xaA 8 [(75,.d (.bool (decide (a = -1/\0<=p.n))))] [68,69,70,71,72,73,74] ?_ ?_;refine ev ?_;refine sq ?_ ?_<;>intro h29 h29p h29s;exact jnb rfl;exact jnb rfl;refine xaA 7 [(82,.d (.bool (decide (a = -1/\0<=p.n/\p.n<=p.m))))] [76,77,78,79,80,81] ?_ ?_;refine ev ?_;refine sq ?_ ?_<;>intro h30 h30p h30s;exact jnb rfl;exact jnb rfl;refine xaA 5 [(87,.d (.bool (decide (a = -1/\0<=p.n/\p.n<=p.m/\p.m<=9))))] [83,84,85,86] ?_ ?_;refine ev ?_;refine sq ?_ ?_<;>intro h31 h31p h31s;exact jnb rfl;exact jnb rfl;refine xaz ?_;refine ev ?_;refine rq ?_;rotate_left;refine sq ?_ ?_<;>intro h32 h32p h32s;refine wc zim (zch hw ht) rfl rfl ?_;refine evd [] [] ?_;refine wc zlK (zeT hcl) rfl rfl ?_;refine evd [] [] ?_;refine dr ?_;refine rq ?_;rotate_left;refine rq ?_;rotate_left;refine sq ?_ ?_<;>intro h33 h33p h33s;refine rq ?_;rotate_left;refine sq ?_ ?_<;>intro h34 h34p h34s;refine xam ?_;refine xaA 8 [(75,.d (.bool (decide (a = -1/\0<=p.n))))] [68,69,70,71,72,73,74] ?_ ?_;refine ev ?_;refine sq ?_ ?_<;>intro h35 h35p h35s;exact jnb rfl;exact jnb rfl;refine xaA 7 [(82,.d (.bool (decide (a = -1/\0<=p.n/\p.n<=p.m))))] [76,77,78,79,80,81] ?_ ?_;refine ev ?_;refine sq ?_ ?_<;>intro h36 h36p h36s;exact jnb rfl;exact jnb rfl;refine xaA 5 [(87,.d (.bool (decide (a = -1/\0<=p.n/\p.n<=p.m/\p.m<=9))))] [83,84,85,86] ?_ ?_;refine ev ?_;refine sq ?_ ?_<;>intro h37 h37p h37s;exact jnb rfl;exact jnb rfl;refine xaz ?_;refine ev ?_;refine rq ?_;rotate_left;refine sq ?_ ?_<;>intro h38 h38p h38s;refine wc zim (zch hw ht) rfl rfl ?_;refine evd [] [] ?_;refine wc zlK (zeT hcl) rfl rfl ?_;refine evd [] [] ?_;refine dr ?_;refine rq ?_;rotate_left;refine rq ?_;rotate_left;all_goals (refine congrArg D.bool ?_;unfold ownP;rw[Bool.eq_iff_iff];by_cases hmem:p.ctor∈zap w ⟨a,k⟩<;>(simp only[hmem,and_true,and_false,or_false,decide_eq_true_eq,xad,Bool.false_eq_true,true_iff,false_iff];simp only[decide_eq_true_eq,decide_eq_false_iff_not] at *;omega))
theorem zdb {w:List Data} (hw:WT w){a k:Int}{p:Pat} (ht:TyIn w.length ⟨a,k⟩) (h:p.op=4->p.ctor∈zap w ⟨a,k⟩):
  FnD Tryz.prog 192 [.d (zan w),.agg [.d (.i a),.d (.i k)],.agg [.d (.i p.op),.d (.i p.ctor),.d (.i p.n),.d (.i p.m),.d (.i p.var),.d (zaj p.kids)]] [] (.d (zb9 (zad w ⟨a,k⟩ p))) []:=by
 by_cases h4:p.op=4
 ·have e:zad w ⟨a,k⟩ p=zab w ⟨a,k⟩ p.ctor:=by unfold zad;rw[if_pos h4]
  rw[e];refine bd Tryz.f192 30 [] [] fun w0 F0 own kept hk=>?_;refine bx 3004 ?_;refine bx 3005 ?_;refine ev ?_;refine sq ?_ ?_<;>intro h1 h1p h1s;refine wc zg1 (zcy hw ht (h h4)) rfl rfl ?_;refine ev ?_;refine rq ?_;rotate_left;exfalso;simp_all;all_goals (rfl)
 ·have e:zad w ⟨a,k⟩ p=List.replicate (zf0 p.op).toNat ⟨a,k⟩:=by
   unfold zad zf0;rw[if_neg h4];by_cases h5:p.op=5
   ·rw[if_pos h5,if_pos h5];rfl
   ·rw[if_neg h5,if_neg h5];by_cases h6:p.op=6
    ·rw[if_pos h6,if_pos h6];rfl
    ·rw[if_neg h6,if_neg h6,if_neg h4];rfl
  have hb:0<=zf0 p.op/\zf0 p.op<=2:=by unfold zf0;split<;>(try split)<;>(try split)<;>omega
  rw[e];refine bd Tryz.f192 30 [] [] fun w0 F0 own kept hk=>?_;refine bx 3004 ?_;refine bx 3005 ?_;refine ev ?_;refine sq ?_ ?_<;>intro h1 h1p h1s;exfalso;simp_all;refine xbi 5 zaT .none rfl rfl ?_;refine ev ?_;refine xak (ι:=Nat) hk (fun i=>[(8,.d (.i (i:Int))),(7,.gl 5 ((List.replicate i (⟨a,k⟩:Ty)).map Ty.c))]) [18,19,20,21,22,23,24,25,26,27,28] (fun i=>[(5,some (.tok (((List.replicate i (⟨a,k⟩:Ty)).map Ty.c)).length 2))]) (fun i=>(i:Int)<=zf0 p.op) (fun i=>(zf0 p.op).toNat-i) 0 (by omega) ⟨⟨_,rfl,xar ?_⟩,⟨⟨_,rfl,LeA.glg ?_⟩,trivial⟩⟩ ⟨zaa ?_,trivial⟩ (fun x=>rfl) (fun i hg1=>?_);iterate 3 focus (rfl)
  refine evc [] [] ?_;refine wc zwi (znD) rfl rfl ?_;refine ev ?_;refine sq ?_ ?_<;>intro h2 h2p h2s<;>(try simp only[Q] at h2p);refine si [0] [_] zaT tz25 ?_;refine ap zaT zz25 rfl rfl rfl (by simp) (by simp;omega) ?_;refine ev ?_;refine ar ?_;refine xah (i+1) ⟨(by omega),(by omega),sx ⟨⟨_,rfl,xar ?_⟩,⟨⟨_,rfl,LeA.glg ?_⟩,trivial⟩⟩ ⟨zaa ?_,trivial⟩⟩;iterate 3 focus ((simp[List.replicate_succ'];done))
  refine rn0 (r1 rfl) (.gld ?_);rotate_left;all_goals ((obtain rfl:i=(zf0 p.op).toNat:=by omega);simp)
theorem zbo {w:List Data}{n:Nat}{t:Ty}{p:Pat} (h:zas w (n+1) t p=true):ownP w t p=true/\p.kids.length=(zad w t p).length:=by
 simp only[zas,xad] at h;refine⟨h.1, ?_⟩;by_cases hl:(zad w t p).length=p.kids.length
 ·exact hl.symm
 ·rw[zfD hl] at h;simp at h
theorem zbK {w:List Data}{t:Ty}{p:Pat} (h:ownP w t p=true):p.op=4->p.ctor∈zap w t:=by
 intro h4;unfold ownP at h;have h':=(of_decide_eq_true h).2.2.2.2;rcases h' with h|h|h|h|h|h
 ·omega
 ·omega
 ·omega
 ·omega
 ·omega
 ·exact h.2
theorem zpU {w:List Data}{t:Ty}{p:Pat} (h:ownP w t p=true):(p.op=2\/p.op=6)->0<=p.var/\p.var<=5:=by
 unfold ownP at h;exact(of_decide_eq_true h).1
theorem zft {w:List Data} (hw:WT w):∀(n:Nat){a k m:Int}{p:Pat},m=n->n<=1000->TyIn w.length ⟨a,k⟩->p.ok->
  FnD Tryz.prog 159 [.d (zan w),.agg [.d (.i a),.d (.i k)],.agg [.d (.i p.op),.d (.i p.ctor),.d (.i p.n),.d (.i p.m),.d (.i p.var),.d (zaj p.kids)],.d (.i m)] [] (.d (.bool (zas w n ⟨a,k⟩ p))) []
 |0,a,k,m,p,hm,_,ht,hok=>by
  refine bd Tryz.f159 50 [] [1] fun w0 F0 own kept hk=>?_;refine bx 3005 ?_;refine bx 3006 ?_;refine ev ?_;refine xam ?_;refine xaA 9 [(19,.d (.bool (true)))] [11,12,13,14,15,16,17,18] ?_ ?_;refine ev ?_;refine sq ?_ ?_<;>intro h1 h1p h1s;exact jnb rfl;refine Walk.call (cr:=[]) zpg (zgq hw ht) rfl (.some rfl rfl h1) rfl rfl (LeL.refl _) trivial rfl rfl rfl ?_;refine evs [] [(13,false)] ?_ ⟨⟨_,rfl,h1⟩,trivial⟩;exact jnb rfl;refine xaz ?_;refine tv ?_;refine sq ?_ ?_<;>intro h2 h2p h2s;refine rq ?_;rotate_left;exact absurd h2 (by simp);all_goals (rfl)
 |n+1,a,k,m,p,hm,hn,ht,hok=>by
  rw[Pat.ok_iff] at hok;by_cases ho:ownP w ⟨a,k⟩ p=true
  ·have hin:=zhO hw ht ho;have hlen:=zgQ hw ht (zbK ho);refine bd Tryz.f159 50 [] [1] fun w0 F0 own kept hk=>?_;refine bx 3005 ?_;refine bx 3006 ?_;refine ev ?_;refine xam ?_;refine xaA 9 [(19,.d (.bool (false)))] [11,12,13,14,15,16,17,18] ?_ ?_;refine ev ?_;refine sq ?_ ?_<;>intro h1 h1p h1s;exact jnb rfl;refine Walk.call (cr:=[]) zpg (zgq hw ht) rfl (.some rfl rfl h1) rfl rfl (LeL.refl _) trivial rfl rfl rfl ?_;refine evs [] [(13,false)] ?_ ⟨⟨_,rfl,h1⟩,trivial⟩;exact jnb rfl;refine xaz ?_;refine tv ?_;refine sq ?_ ?_<;>intro h2 h2p h2s;exact absurd h2 (by simp);refine wc zjm (zdb hw ht (zbK ho)) rfl rfl ?_;refine ev ?_;refine sq ?_ ?_<;>intro h3 h3p h3s;refine rq ?_;rotate_left;try simp only[Q,Pat.cs_len] at h3p
   refine xak (ι:=Nat) hk (fun i=>[(10,.d (.i (i:Int)))]) [8,30,31,32,33,34,35,36,37,38,39,40,41,42,43,44,45,46,47,48,49] (fun i=>[]) (fun i=>i<=(zad w ⟨a,k⟩ p).length/\∀i',i'<i->zas w n (nth (zad w ⟨a,k⟩ p) i') (nth p.kids i')=true) (fun i=>(zad w ⟨a,k⟩ p).length-i) 0 ⟨by omega,fun _ h=>absurd h (by omega)⟩ ⟨⟨_,rfl,xar ?_⟩,trivial⟩ trivial (fun x=>rfl) (fun i hg1=>?_);focus (first|(simp;done)|(simp_all;done))
   refine evc [] [1] ?_;refine sq ?_ ?_<;>intro h4 h4p h4s;try simp only[Q,Pat.cs_len] at h4p
   refine xaU zaT .none rfl rfl rfl rfl (zat (by omega)) rfl ?_;refine evd [] [] ?_;refine xaU sl26 .none rfl rfl rfl rfl (zaH (by omega)) rfl ?_;refine evd [] [] ?_;refine ar ?_;refine wc zpb (zft hw n (by omega) (by omega) (hin _ (zah (by omega))) (Pats.ok_mem hok.2 _ (zah (by omega)))) rfl rfl ?_;refine evd [] [] ?_;refine dr ?_;refine sq ?_ ?_<;>intro h5 h5p h5s;refine rq ?_;rotate_left;try simp only[Q,Pat.cs_len] at h5p
   refine ar ?_;refine xah (i+1) ⟨⟨by omega,za7 hg1.2 (by assumption)⟩,(by omega),sx ⟨⟨_,rfl,xar ?_⟩,trivial⟩ trivial⟩;focus (first|(simp;done)|(simp_all;done))
   refine rq ?_;rotate_left;all_goals (refine congrArg D.bool ?_;unfold zas;rw[ho,Bool.true_and];first|(rw[zfD (by simp[Pat.cs_len] at *;omega)])|(rw[zb4 (by simp[Pat.cs_len] at *;omega) (fun x hx=>hg1.2 x (by simp[Pat.cs_len] at *;omega))])|(rw[zcb (i:=i) (by simp[Pat.cs_len] at *;omega) (by simp[Pat.cs_len] at *;omega) (by assumption)]))
  ·have ho':ownP w ⟨a,k⟩ p=false:=by simpa using ho
   refine bd Tryz.f159 50 [] [1] fun w0 F0 own kept hk=>?_;refine bx 3005 ?_;refine bx 3006 ?_;refine ev ?_;refine xam ?_;refine xaA 9 [(19,.d (.bool (true)))] [11,12,13,14,15,16,17,18] ?_ ?_;refine ev ?_;refine sq ?_ ?_<;>intro h1 h1p h1s;exact jnb rfl;refine Walk.call (cr:=[]) zpg (zgq hw ht) rfl (.some rfl rfl h1) rfl rfl (LeL.refl _) trivial rfl rfl rfl ?_;refine evs [] [(13,false)] ?_ ⟨⟨_,rfl,h1⟩,trivial⟩;exact jnb rfl;refine xaz ?_;refine tv ?_;refine sq ?_ ?_<;>intro h2 h2p h2s;refine rq ?_;rotate_left;exact absurd h2 (by simp);all_goals (refine congrArg D.bool ?_;unfold zas;rw[ho'];rfl)
theorem zih {l:List Vt}{n:Int} (h:l.length<=1000000000000):FnD Tryz.prog 194 [.d (zdv l),.d (.i n)] [] (.d (.i (zbM l n))) []:=by
 refine bd Tryz.f194 20 [] [] fun w0 F0 own kept hk=>?_;refine xak (ι:=List (Vt)×List (Vt)) hk (fun x=>[(5,.d (.i (x.1.length:Int)))]) [4,6,7,8,9,10,11,12,13,14,15,16,17,18,19] (fun x=>[]) (fun x=>x.1++x.2=l/\idxF (fun v=>decide (v.var=n)) x.2 x.1.length=idxF (fun v=>decide (v.var=n)) l 0) (fun x=>x.2.length) ([],l) ⟨by simp,rfl⟩ ⟨⟨_,rfl,xar ?_⟩,trivial⟩ trivial (fun x=>rfl) (fun x hg1=>?_);focus (rfl)
 obtain⟨pre,rest⟩:=x;dsimp only at hg1 ⊢;refine evc [] [] ?_;refine sq ?_ ?_<;>intro h1 h1p h1s<;>(try simp only[Q] at h1p);rcases rest with _|⟨y,rest⟩
 ·exfalso;simp_all
 refine xaU zdP .none rfl rfl rfl rfl (zaE hg1.1) rfl ?_;refine ev ?_;refine sq ?_ ?_<;>intro h2 h2p h2s<;>(try simp only[Q] at h2p);focus (refine rq ?_;all_goals (refine congrArg D.i ?_;unfold zbM;rw[<-hg1.2];simp[idxF,h1s,h1p,h2s,h2p]))
 refine ar ?_;refine xah ((pre++[y],rest)) ⟨⟨(by have hz:=hg1.1;rw[<-hz];simp),(by rw[<-hg1.2];simp_all[idxF])⟩,(by simp),sx ⟨⟨_,rfl,xar ?_⟩,trivial⟩ trivial⟩;focus ((simp;done))
 have hrest:rest=[]:=by
  rcases rest with _|⟨a,b⟩
  ·rfl
  ·exfalso;have hz:=congrArg List.length (hg1.1);simp only[xaa,xab,xac] at hz;omega
 subst hrest;focus (refine rq ?_;all_goals (refine congrArg D.i ?_;unfold zbM;rw[<-hg1.2];simp[idxF,h1s,h1p]))
theorem zqf {a b:List Vt}{i:Nat} (h:i<a.length) (h2:¬(0<=zbM b (nth a i).var/\(nth b (zbM b (nth a i).var).toNat).ty=(nth a i).ty)):zds a b=false:=by
 unfold zds;have:(a.all fun v=>decide (0<=zbM b v.var/\(nth b (zbM b v.var).toNat).ty=v.ty))=false:=List.all_eq_false.2 ⟨_,zah h,by simpa using h2⟩;rw[this,Bool.false_and]
theorem zrj {a b:List Vt} (h:∀i,i<a.length->0<=zbM b (nth a i).var/\(nth b (zbM b (nth a i).var).toNat).ty=(nth a i).ty):zds a b=decide (a.length=b.length):=by
 unfold zds;have:(a.all fun v=>decide (0<=zbM b v.var/\(nth b (zbM b v.var).toNat).ty=v.ty))=true:=by
  rw[List.all_eq_true];intro v hv;obtain⟨j,hj,he⟩:=List.getElem_of_mem hv;have:=h j hj;rw[za5 hj,he] at this;exact decide_eq_true this
 rw[this,Bool.true_and]
theorem zpt {l:List Vt}{n:Int} (h:0<=zbM l n):(zbM l n).toNat<l.length/\((zbM l n).toNat:Int)=zbM l n:=by
 rcases ziv l n with ⟨h1,_⟩|⟨k,h1,h2,_⟩
 ·omega
 ·rw[h1];simpa using h2
theorem ztk {t u:Ty}:t=u↔t.data=u.data/\t.index=u.index:=by
 cases t;cases u;simp
theorem zmM {x y:List Vt} (hx:x.length<=1000000000000) (hy:y.length<=1000000000000):FnD Tryz.prog 193 [.d (zdv x),.d (zdv y)] [] (.d (.bool (zds x y))) []:=by
 refine bd Tryz.f193 40 [33] [] fun w0 F0 own kept hk=>?_;refine xak (ι:=Nat) hk (fun i=>[(5,.d (.i (i:Int)))]) [4,6,7,8,9,10,11,12,13,14,15,16,17,18,19,20,21,22,23,24,25,26,27,28,29,30,31,32,33,34] (fun i=>[]) (fun i=>i<=x.length/\∀j,j<i->0<=zbM y (nth x j).var/\(nth y (zbM y (nth x j).var).toNat).ty=(nth x j).ty) (fun i=>x.length-i) 0 ⟨by omega,fun _ h=>absurd h (by omega)⟩ ⟨⟨_,rfl,xar ?_⟩,trivial⟩ trivial (fun x=>rfl) (fun i hg1=>?_);focus (rfl)
 refine evc [33] [] ?_;refine sq ?_ ?_<;>intro h1 h1p h1s<;>(try simp only[Q] at h1p);refine xaU zdP .none rfl rfl rfl rfl (zat (by omega)) rfl ?_;refine evs [33] [] ?_;refine wc zsl (zih hy) rfl rfl ?_;refine evs [33] [] ?_;refine sq ?_ ?_<;>intro h2 h2p h2s<;>(try simp only[Q] at h2p);refine dr ?_;refine sqT ?_;refine rq ?_;rotate_left;refine xaU (i:=(zbM y (nth x i).var).toNat) zdP (.some rfl rfl h2) rfl rfl rfl (zpt (l:=y) (n:=(nth x i).var) (by omega)).2.symm (zat (by exact(zpt (l:=y) (n:=(nth x i).var) (by omega)).1)) rfl ?_;refine evd [33] [(22,false)] ?_ ⟨⟨_,rfl,h2⟩,trivial⟩;refine xaU zdP (.some rfl rfl h2) rfl rfl rfl rfl (zat (by omega)) rfl ?_;refine evd [33] [(22,false)] ?_ ⟨⟨_,rfl,h2⟩,trivial⟩;refine Walk.neV eq25 (.some rfl rfl h2) rfl rfl rfl rfl rfl ?_;refine evd [33] [(22,false)] ?_ ⟨⟨_,rfl,h2⟩,trivial⟩;refine dr ?_;refine sq ?_ ?_<;>intro h4 h4p h4s<;>(try simp only[Q] at h4p);refine rq ?_;rotate_left;refine ar ?_;refine xah (i+1) ⟨⟨by omega,za7 hg1.2 (by rw[ztk];first|omega|(simp at h4;omega))⟩,(by omega),sx ⟨⟨_,rfl,xar ?_⟩,trivial⟩ trivial⟩;focus (rfl)
 refine rq ?_;rotate_left;all_goals (refine congrArg D.bool ?_;first|(refine(zqf (i:=i) (by omega) ?_).symm;simp only[ztk];first|omega|(simp at h4;omega))|(rw[zrj (fun j hj=>hg1.2 j (by simp at h1p;omega))];exact decide_eq_decide.2 (by simp;omega)))
theorem zke {f:Ty->Pat->List Vt} (hf:∀t p,(f t p).length<=p.size):∀(a:List Ty) (b:List Pat),(za8 f a b).length<=Pats.size b
 | [],[]=>by simp[za8]
 | [],_::_=>by simp[za8]
 |_::_,[]=>by simp[za8]
 |x::r,y::s=>by
  have h1:=zke hf r s;have h2:=hf x y;simp only[za8,xaa,Pats.size];omega
theorem zfb (w:List Data):∀(n:Nat) (t:Ty) (p:Pat),(zaD w n t p).length<=p.size
 |0,t,p=>by simp[zaD]
 |n+1,t,p=>by
  have h1:=zke (zfb w n) (zdz w t p) p.kids;have h2:(zaR t p).length<=1:=by unfold zaR;split<;>simp
  rw[Pat.size_eq];simp only[zaD,xaa];omega
theorem ziT {f:Ty->Pat->List Vt}:∀ {a:List Ty}{b:List Pat}{i:Nat},i<a.length->i<b.length->za8 f (a.take (i+1)) (b.take (i+1))=za8 f (a.take i) (b.take i)++f (nth a i) (nth b i)
 |x::r,y::s,0,_,_=>by simp[za8,nth]
 |x::r,y::s,i+1,h1,h2=>by
  have:=ziT (f:=f) (a:=r) (b:=s) (i:=i) (by simpa using h1) (by simpa using h2);simp only[List.take_succ_cons,za8];rw[this,List.append_assoc];rfl
theorem zmY {f:Ty->Pat->List Vt}:∀ {a:List Ty}{b:List Pat}{i:Nat},za8 f (a.take i) (b.take i)=za8 f (a.take i) b
 | [],b,i=>by simp[za8]
 |x::r,[],i=>by simp[za8]
 |x::r,y::s,0=>by simp[za8]
 |x::r,y::s,i+1=>by simp only[List.take_succ_cons,za8];rw[zmY]
theorem zqe {f:Ty->Pat->List Vt} (hf:∀t p,(f t p).length<=p.size){a:List Ty}{b:List Pat}{i:Nat} (h:i<b.length):(za8 f (a.take i) (b.take i)).length+(nth b i).size<=Pats.size b:=by
 have h1:=zke hf (a.take i) (b.take i);have h2:=Pats.size_split (pre:=b.take i) (y:=nth b i) (rest:=b.drop (i+1)) (l:=b) (by rw[<-zaN h,List.take_append_drop]);omega
def zdy (w:List Data) (t:Ty) (p:Pat):Nat:=(zdz w t p).length
theorem zkf (w:List Data) (t:Ty) (p:Pat):zdy w t p=if p.op=5 then 1 else (zad w t p).length:=by
 unfold zdy zdz;by_cases h5:p.op=5
 ·rw[if_pos h5,if_pos h5];have:zad w t p=[t,t]:=by unfold zad;rw[if_neg (by omega),if_pos h5]
  rw[this];rfl
 ·rw[if_neg h5,if_neg h5]
theorem zou {w:List Data}{f:Ty->Pat->List Vt}{t:Ty}{p:Pat} (hl:p.kids.length=(zad w t p).length){i:Nat} (h:i=zdy w t p):za8 f ((zad w t p).take i) (p.kids.take i)=za8 f (zdz w t p) p.kids:=by
 subst h;rw[zmY];congr 1
 rw[zkf];unfold zdz;by_cases h5:p.op=5
 ·rw[if_pos h5,if_pos h5]
 ·rw[if_neg h5,if_neg h5,List.take_length]
theorem zbw {w:List Data}{n:Nat}{t:Ty}{p:Pat} (h:zas w (n+1) t p=true){i:Nat} (hi:i<p.kids.length):zas w n (nth (zad w t p) i) (nth p.kids i)=true:=by
 have hl:=(zbo h).2;cases hs:zas w n (nth (zad w t p) i) (nth p.kids i) with
 |true=>rfl
 |false=>
  have:=zcb (f:=zas w n) (a:=zad w t p) (b:=p.kids) (i:=i) (by omega) hl.symm hs;simp only[zas,this,Bool.and_false] at h;cases h
theorem zfV {w:List Data} (hw:WT w):∀(n:Nat){a k:Int}{p:Pat}{xs:List Vt},zas w n ⟨a,k⟩ p=true->n<=1000->TyIn w.length ⟨a,k⟩->p.ok->xs.length+p.size<=2000000000000->
  FnD Tryz.prog 172 [.gl 5 (xs.map Vt.c),.d (zan w),.agg [.d (.i a),.d (.i k)],.agg [.d (.i p.op),.d (.i p.ctor),.d (.i p.n),.d (.i p.m),.d (.i p.var),.d (zaj p.kids)]] [(5,some (.tok (xs.map Vt.c).length 3))]
   (.gl 5 ((xs++zaD w n ⟨a,k⟩ p).map Vt.c)) [(5,some (.tok ((xs++zaD w n ⟨a,k⟩ p).map Vt.c).length 3))]
 |0,a,k,p,xs,hs,_,_,_,_=>by simp[zas] at hs
 |n+1,a,k,p,xs,hs,hn,ht,hok,hb=>by
  rw[Pat.ok_iff] at hok;rw[Pat.size_eq] at hb;obtain⟨ho,hl⟩:=zbo hs;have hin:=zhO hw ht ho;have hlen:=zgQ hw ht (zbK ho);have hvc5:p.op=5->zdy w ⟨a,k⟩ p=1:=fun h=>by rw[zkf,if_pos h]
  have hvc:¬p.op=5->zdy w ⟨a,k⟩ p=(zad w ⟨a,k⟩ p).length:=fun h=>by rw[zkf,if_neg h]
  have hv2:zdy w ⟨a,k⟩ p<=p.kids.length:=by
   unfold zdy zdz;split
   ·rw[List.length_take];omega
   ·omega
  have e5:p.op=5->(zad w ⟨a,k⟩ p).length=2:=fun h5=>by unfold zad;rw[if_neg (by omega),if_pos h5];rfl
  have hnm:(zaR ⟨a,k⟩ p).length<=1:=by unfold zaR;split<;>simp
  refine bd Tryz.f172 58 [] [1,5,6] fun w0 F0 own kept hk=>?_;refine bx 3006 ?_;refine bx 3007 ?_;refine ev ?_;refine xam ?_;refine xaA 8 [(18,.d (.bool (decide (p.op=2\/p.op=6))))] [11,12,13,14,15,16,17] ?_ ?_;refine ev ?_;refine sq ?_ ?_<;>intro h1 h1p h1s;exact jnb rfl;exact jnb rfl;refine xaz ?_;refine tv ?_;refine sq ?_ ?_<;>intro h2 h2p h2s<;>(try simp only[Q,Pat.cs_len] at h2p);refine bu [0,1] [_,_] zuQ ?_;refine si [0] [_] zdP zoZ ?_;refine ap zdP zo2 rfl rfl rfl (by simp) (by simp;omega) ?_;refine ev ?_;refine wc zjm (zdb hw ht (zbK ho)) rfl rfl ?_;refine ev ?_;refine CWp.loopT 5 6 (ι:=Nat) hk (fun i=>[(0,.gl 5 ((xs++zaR ⟨a,k⟩ p++za8 (zaD w n) ((zad w ⟨a,k⟩ p).take i) (p.kids.take i)).map Vt.c)),(10,.d (.i (i:Int)))]) [30,31,32,33,34,35,36,37,38,39,40,41,42,43,44,45,46,47,48,49,50,51,52,53,54,55,56] (fun i=>[(5,some (.tok ((xs++zaR ⟨a,k⟩ p++za8 (zaD w n) ((zad w ⟨a,k⟩ p).take i) (p.kids.take i)).map Vt.c).length 3))]) (fun i=>i<=zdy w ⟨a,k⟩ p) (fun i=>zdy w ⟨a,k⟩ p-i) 0 (by omega) ⟨⟨_,rfl,LeA.glg ?_⟩,⟨⟨_,rfl,xar ?_⟩,trivial⟩⟩ ⟨zaa ?_,trivial⟩ (fun x=>rfl) (fun i hg1=>?_);iterate 3 focus ((simp[za8,zaR, *];done))
  refine evc [] [1,5,6] ?_;refine xam ?_;refine xaA 13 [(42,.d (.bool (decide (i<zdy w ⟨a,k⟩ p))))] [30,31,32,33,34,35,36,37,38,39,40,41] ?_ ?_;refine ev ?_;refine sq ?_ ?_<;>intro h3 h3p h3s;refine sq ?_ ?_<;>intro h4 h4p h4s;exact jnb rfl;exact jnb rfl;exact jnb rfl;refine xaz ?_;refine tv ?_;refine sq ?_ ?_<;>intro h5 h5p h5s<;>(try simp only[Q,Pat.cs_len] at h5p);refine xaU zaT .none rfl rfl rfl rfl (zat (by omega)) rfl ?_;refine evd [] [] ?_;refine xaU sl26 .none rfl rfl rfl rfl (zaH (by omega)) rfl ?_;refine evd [] [] ?_;refine xaJ 6 zjl (zfV hw n (a:=(nth (zad w ⟨a,k⟩ p) i).data) (k:=(nth (zad w ⟨a,k⟩ p) i).index) (p:=nth p.kids i) (xs:=xs++zaR ⟨a,k⟩ p++za8 (zaD w n) ((zad w ⟨a,k⟩ p).take i) (p.kids.take i)) (zbw hs (by omega)) (by omega) (hin _ (zah (by omega))) (Pats.ok_mem hok.2 _ (zah (by omega))) (by have:=zqe (zfb w n) (a:=zad w ⟨a,k⟩ p) (b:=p.kids) (i:=i) (by omega);simp only[xaa];omega)) rfl .none rfl rfl (.cons (.refl _) (.cons (.refl _) (.cons (.refl _) (.cons (.refl _) .nil)))) rfl (by rfl) ?_;refine evd [] [] ?_;refine dr ?_;refine CWp.retok 0 6 5 rfl rfl rfl rfl rfl ?_;refine evc [] [] ?_;refine ar ?_;refine xah (i+1) ⟨(by omega),(by omega),sx ⟨⟨_,rfl,LeA.glg ?_⟩,⟨⟨_,rfl,xar ?_⟩,trivial⟩⟩ ⟨zaa ?_,trivial⟩⟩;iterate 3 focus (first|rfl|(rw[ziT (by omega) (by omega)];simp[List.append_assoc];done))
  refine rn [(5,some (.tok ((xs++zaD w (n+1) ⟨a,k⟩ p).map Vt.c).length 3))] (r1 rfl) (.glg ?_) ⟨rfl,rfl⟩ (SubO.get ⟨.inr ?_,⟨.inl rfl,trivial⟩⟩) (zax rfl);rotate_left 2;refine wc zjm (zdb hw ht (zbK ho)) rfl rfl ?_;refine ev ?_;refine CWp.loopT 5 6 (ι:=Nat) hk (fun i=>[(0,.gl 5 ((xs++zaR ⟨a,k⟩ p++za8 (zaD w n) ((zad w ⟨a,k⟩ p).take i) (p.kids.take i)).map Vt.c)),(10,.d (.i (i:Int)))]) [30,31,32,33,34,35,36,37,38,39,40,41,42,43,44,45,46,47,48,49,50,51,52,53,54,55,56] (fun i=>[(5,some (.tok ((xs++zaR ⟨a,k⟩ p++za8 (zaD w n) ((zad w ⟨a,k⟩ p).take i) (p.kids.take i)).map Vt.c).length 3))]) (fun i=>i<=zdy w ⟨a,k⟩ p) (fun i=>zdy w ⟨a,k⟩ p-i) 0 (by omega) ⟨⟨_,rfl,LeA.glg ?_⟩,⟨⟨_,rfl,xar ?_⟩,trivial⟩⟩ ⟨zaa ?_,trivial⟩ (fun x=>rfl) (fun i hg1=>?_);iterate 3 focus ((simp[za8,zaR, *];done))
  refine evc [] [1,5,6] ?_;refine xam ?_;refine xaA 13 [(42,.d (.bool (decide (i<zdy w ⟨a,k⟩ p))))] [30,31,32,33,34,35,36,37,38,39,40,41] ?_ ?_;refine ev ?_;refine sq ?_ ?_<;>intro h6 h6p h6s<;>(try simp only[Q,Pat.cs_len] at h6p);refine sq ?_ ?_<;>intro h7 h7p h7s<;>(try simp only[Q,Pat.cs_len] at h7p);exact jnb rfl;exact jnb rfl;exact jnb rfl;refine xaz ?_;refine tv ?_;refine sq ?_ ?_<;>intro h8 h8p h8s<;>(try simp only[Q,Pat.cs_len] at h8p);refine xaU zaT .none rfl rfl rfl rfl (zat (by omega)) rfl ?_;refine evd [] [] ?_;refine xaU sl26 .none rfl rfl rfl rfl (zaH (by omega)) rfl ?_;refine evd [] [] ?_;refine xaJ 6 zjl (zfV hw n (a:=(nth (zad w ⟨a,k⟩ p) i).data) (k:=(nth (zad w ⟨a,k⟩ p) i).index) (p:=nth p.kids i) (xs:=xs++zaR ⟨a,k⟩ p++za8 (zaD w n) ((zad w ⟨a,k⟩ p).take i) (p.kids.take i)) (zbw hs (by omega)) (by omega) (hin _ (zah (by omega))) (Pats.ok_mem hok.2 _ (zah (by omega))) (by have:=zqe (zfb w n) (a:=zad w ⟨a,k⟩ p) (b:=p.kids) (i:=i) (by omega);simp only[xaa];omega)) rfl .none rfl rfl (.cons (.refl _) (.cons (.refl _) (.cons (.refl _) (.cons (.refl _) .nil)))) rfl (by rfl) ?_;refine evd [] [] ?_;refine dr ?_;refine CWp.retok 0 6 5 rfl rfl rfl rfl rfl ?_;refine evc [] [] ?_;refine ar ?_;refine xah (i+1) ⟨(by omega),(by omega),sx ⟨⟨_,rfl,LeA.glg ?_⟩,⟨⟨_,rfl,xar ?_⟩,trivial⟩⟩ ⟨zaa ?_,trivial⟩⟩;iterate 3 focus (first|rfl|(rw[ziT (by omega) (by omega)];simp[List.append_assoc];done))
  refine rn [(5,some (.tok ((xs++zaD w (n+1) ⟨a,k⟩ p).map Vt.c).length 3))] (r1 rfl) (.glg ?_) ⟨rfl,rfl⟩ (SubO.get ⟨.inr ?_,⟨.inl rfl,trivial⟩⟩) (zax rfl);rotate_left 2;all_goals (first|((rw[zaD,<-zou (f:=zaD w n) hl (i:=i) (by omega)];simp);done)|((show some (Res.tok _ _)=some (Res.tok _ _);congr 2;rw[zaD,<-zou (f:=zaD w n) hl (i:=i) (by omega)];simp)))
theorem zfu {w:List Data} (hw:WT w){n:Nat}{a k:Int}{p:Pat} (hs:zas w n ⟨a,k⟩ p=true) (hn:n<=1000) (ht:TyIn w.length ⟨a,k⟩) (hok:p.ok) (hb:p.size<=1000000000000):
  FnD Tryz.prog 172 [.nils,.d (zan w),.agg [.d (.i a),.d (.i k)],.agg [.d (.i p.op),.d (.i p.ctor),.d (.i p.n),.d (.i p.m),.d (.i p.var),.d (zaj p.kids)]] [] (.d (zdv (zaD w n ⟨a,k⟩ p))) []:=by
 have h:=zfV hw n (xs:=[]) hs hn ht hok (by simp only[xai];omega);exact FnD.nilTok (by simp[AV.idsL,AV.ids]) h
theorem zqi {l:List Vt}{i:Nat} (h:i<l.length) (h2:¬zbM l (nth l i).var=i):zoO l=false:=zc1 h (by simpa using h2)
theorem ze1 {w:List Data} (hw:WT w):∀(n:Nat){a k:Int}{p:Pat},zas w n ⟨a,k⟩ p=true->n<=1000->TyIn w.length ⟨a,k⟩->p.ok->p.size<=1000000000000->
  FnD Tryz.prog 161 [.d (zan w),.agg [.d (.i a),.d (.i k)],.agg [.d (.i p.op),.d (.i p.ctor),.d (.i p.n),.d (.i p.m),.d (.i p.var),.d (zaj p.kids)]] [] (.d (.bool (linP w n ⟨a,k⟩ p))) []
 |0,a,k,p,hs,_,_,_,_=>by simp[zas] at hs
 |n+1,a,k,p,hs,hn,ht,hok,hb=>by
  have hok':=hok;rw[Pat.ok_iff] at hok;have hb':=hb;rw[Pat.size_eq] at hb';obtain⟨ho,hl⟩:=zbo hs;have hin:=zhO hw ht ho;have hlen:=zgQ hw ht (zbK ho);have hvl:=zfb w (n+1) ⟨a,k⟩ p;have hsz:∀i,i<p.kids.length->(nth p.kids i).size<=1000000000000:=fun i hi=>by have:=zbU hi;omega
  by_cases hop5:p.op=5
  ·have e1:zad w ⟨a,k⟩ p=[⟨a,k⟩,⟨a,k⟩]:=by unfold zad;rw[if_neg (by omega),if_pos hop5]
   have hl2:p.kids.length=2:=by rw[hl,e1];rfl
   have s0:zas w n ⟨a,k⟩ (nth p.kids 0)=true:=by have:=zbw hs (i:=0) (by omega);rw[e1] at this;exact this
   have s1:zas w n ⟨a,k⟩ (nth p.kids 1)=true:=by have:=zbw hs (i:=1) (by omega);rw[e1] at this;exact this
   have v0:=zfb w n ⟨a,k⟩ (nth p.kids 0);have v1:=zfb w n ⟨a,k⟩ (nth p.kids 1);have z0:=hsz 0 (by omega);have z1:=hsz 1 (by omega);refine bd Tryz.f161 70 [] [] fun w0 F0 own kept hk=>?_;refine bx 3004 ?_;refine bx 3005 ?_;refine ev ?_;refine wc zjm (zdb hw ht (zbK ho)) rfl rfl ?_;refine ev ?_;refine xak (ι:=Nat) hk (fun i=>[(8,.d (.i (i:Int)))]) [6,15,16,17,18,19,20,21,22,23,24,25,26,27,28,29,30,31,32] (fun i=>[]) (fun i=>i<=(zad w ⟨a,k⟩ p).length/\∀i',i'<i->linP w n (nth (zad w ⟨a,k⟩ p) i') (nth p.kids i')=true) (fun i=>(zad w ⟨a,k⟩ p).length-i) 0 ⟨by omega,fun _ h=>absurd h (by omega)⟩ ⟨⟨_,rfl,xar ?_⟩,trivial⟩ trivial (fun x=>rfl) (fun i hg1=>?_);focus (first|rfl|(simp;done))
   refine evc [] [] ?_;refine sq ?_ ?_<;>intro h1 h1p h1s<;>(try simp only[Q,Pat.cs_len] at h1p);refine xaU zaT .none rfl rfl rfl rfl (zat (by omega)) rfl ?_;refine evd [] [] ?_;refine xaU sl26 .none rfl rfl rfl rfl (zaH (by omega)) rfl ?_;refine evd [] [] ?_;refine wc zlH (ze1 hw n (zbw hs (by omega)) (by omega) (hin _ (zah (by omega))) (Pats.ok_mem hok.2 _ (zah (by omega))) (hsz _ (by omega))) rfl rfl ?_;refine evd [] [] ?_;refine dr ?_;refine sq ?_ ?_<;>intro h2 h2p h2s<;>(try simp only[Q,Pat.cs_len] at h2p);refine rq ?_;rotate_left;refine ar ?_;refine xah (i+1) ⟨⟨by omega,za7 hg1.2 (by assumption)⟩,(by omega),sx ⟨⟨_,rfl,xar ?_⟩,trivial⟩ trivial⟩;focus (first|rfl|(simp;done))
   refine sq ?_ ?_<;>intro h3 h3p h3s<;>(try simp only[Q,Pat.cs_len] at h3p);refine xaU (i:=0) sl26 .none rfl rfl rfl rfl (zaH (by omega)) rfl ?_;refine evd [] [] ?_;refine wc zjl (zfu hw s0 (by omega) ht (Pats.ok_mem hok.2 _ (zah (by omega))) z0) rfl rfl ?_;refine evd [] [] ?_;refine xaU (i:=1) sl26 .none rfl rfl rfl rfl (zaH (by omega)) rfl ?_;refine evd [] [] ?_;refine wc zjl (zfu hw s1 (by omega) ht (Pats.ok_mem hok.2 _ (zah (by omega))) z1) rfl rfl ?_;refine wc zv9 (zmM (by omega) (by omega)) rfl rfl ?_;refine evd [] [] ?_;refine dr ?_;refine rq ?_;rotate_left;exfalso;simp_all;all_goals (refine congrArg D.bool ?_;unfold linP;rw[if_pos hop5];first|(rw[zb4 (by omega) (fun x hx=>hg1.2 x (by omega)),Bool.true_and])|(rw[zcb (i:=i) (by omega) (by omega) (by assumption),Bool.false_and]))
  ·skip
   refine bd Tryz.f161 70 [] [] fun w0 F0 own kept hk=>?_;refine bx 3004 ?_;refine bx 3005 ?_;refine ev ?_;refine wc zjm (zdb hw ht (zbK ho)) rfl rfl ?_;refine ev ?_;refine xak (ι:=Nat) hk (fun i=>[(8,.d (.i (i:Int)))]) [6,15,16,17,18,19,20,21,22,23,24,25,26,27,28,29,30,31,32] (fun i=>[]) (fun i=>i<=(zad w ⟨a,k⟩ p).length/\∀i',i'<i->linP w n (nth (zad w ⟨a,k⟩ p) i') (nth p.kids i')=true) (fun i=>(zad w ⟨a,k⟩ p).length-i) 0 ⟨by omega,fun _ h=>absurd h (by omega)⟩ ⟨⟨_,rfl,xar ?_⟩,trivial⟩ trivial (fun x=>rfl) (fun i hg1=>?_);focus (first|rfl|(simp;done))
   refine evc [] [] ?_;refine sq ?_ ?_<;>intro h1 h1p h1s<;>(try simp only[Q,Pat.cs_len] at h1p);refine xaU zaT .none rfl rfl rfl rfl (zat (by omega)) rfl ?_;refine evd [] [] ?_;refine xaU sl26 .none rfl rfl rfl rfl (zaH (by omega)) rfl ?_;refine evd [] [] ?_;refine wc zlH (ze1 hw n (zbw hs (by omega)) (by omega) (hin _ (zah (by omega))) (Pats.ok_mem hok.2 _ (zah (by omega))) (hsz _ (by omega))) rfl rfl ?_;refine evd [] [] ?_;refine dr ?_;refine sq ?_ ?_<;>intro h2 h2p h2s<;>(try simp only[Q,Pat.cs_len] at h2p);refine rq ?_;rotate_left;refine ar ?_;refine xah (i+1) ⟨⟨by omega,za7 hg1.2 (by assumption)⟩,(by omega),sx ⟨⟨_,rfl,xar ?_⟩,trivial⟩ trivial⟩;focus (first|rfl|(simp;done))
   refine sq ?_ ?_<;>intro h3 h3p h3s<;>(try simp only[Q,Pat.cs_len] at h3p);exfalso;simp_all;refine wc zjl (zfu hw hs hn ht hok' hb) rfl rfl ?_;refine ev ?_;refine xak (ι:=Nat) hk (fun j=>[(10,.d (.i (j:Int)))]) [6,55,56,57,58,59,60,61,62,63,64,65,66,67,68,69] (fun j=>[]) (fun j=>j<=(zaD w (n+1) ⟨a,k⟩ p).length/\∀j',j'<j->zbM (zaD w (n+1) ⟨a,k⟩ p) (nth (zaD w (n+1) ⟨a,k⟩ p) j').var=(j':Int)) (fun j=>(zaD w (n+1) ⟨a,k⟩ p).length-j) 0 ⟨by omega,fun _ h=>absurd h (by omega)⟩ ⟨⟨_,rfl,xar ?_⟩,trivial⟩ trivial (fun x=>rfl) (fun j hg2=>?_);focus (first|rfl|(simp;done))
   refine evc [] [] ?_;refine sq ?_ ?_<;>intro h4 h4p h4s<;>(try simp only[Q,Pat.cs_len] at h4p);refine xaU zdP .none rfl rfl rfl rfl (zat (by omega)) rfl ?_;refine ev ?_;refine wc zsl (zih (by omega)) rfl rfl ?_;refine ev ?_;refine sq ?_ ?_<;>intro h5 h5p h5s<;>(try simp only[Q,Pat.cs_len] at h5p);refine rq ?_;rotate_left;refine ar ?_;refine xah (j+1) ⟨⟨by omega,za7 hg2.2 (by omega)⟩,(by omega),sx ⟨⟨_,rfl,xar ?_⟩,trivial⟩ trivial⟩;focus (first|rfl|(simp;done))
   refine rq ?_;rotate_left;all_goals (refine congrArg D.bool ?_;unfold linP;rw[if_neg hop5];first|(rw[zcb (i:=i) (by omega) (by omega) (by assumption),Bool.false_and];done)|(rw[zb4 (by omega) (fun x hx=>hg1.2 x (by omega)),Bool.true_and];first|(rw[zqi (i:=j) (by omega) (by omega)];done)|(symm;exact zdt (fun x hx=>decide_eq_true (hg2.2 x (by omega))))))
def isP (w:List Data) (t:Ty) (p:Pat):Bool:=zas w 10 t p&&(decide ((p.size:Int)<=60)&&linP w 10 t p)
theorem zj9 {w:List Data} (hw:WT w){a k:Int}{p:Pat} (ht:TyIn w.length ⟨a,k⟩) (hok:p.ok) (hb:p.size<=1000000000000):
  FnD Tryz.prog 101 [.d (zan w),.agg [.d (.i a),.d (.i k)],.agg [.d (.i p.op),.d (.i p.ctor),.d (.i p.n),.d (.i p.m),.d (.i p.var),.d (zaj p.kids)]] [] (.d (.bool (isP w ⟨a,k⟩ p))) []:=by
 have hc:=zpj p 60;by_cases hs:zas w 10 ⟨a,k⟩ p=true
 ·skip
  refine bd Tryz.f101 22 [] [1] fun w0 F0 own kept hk=>?_;refine bx 3004 ?_;refine bx 3005 ?_;refine ev ?_;refine xam ?_;refine xaA 9 [(15,.d (.bool (decide ((p.size:Int)<=60))))] [7,8,9,10,11,12,13,14] ?_ ?_;refine ev ?_;refine wc zpb (zft hw 10 (by omega) (by omega) ht hok) rfl rfl ?_;refine ev ?_;refine sq ?_ ?_<;>intro h1 h1p h1s;refine Walk.call (cr:=[]) zpc (zfs _ (Nat.le_refl _) hb hok (by omega) (by omega)) rfl (.some rfl rfl h1) rfl rfl (LeL.refl _) trivial rfl rfl rfl ?_;refine evs [] [(11,true)] ?_ ⟨⟨_,rfl,h1⟩,trivial⟩;exact jnb rfl;exact jnb rfl;refine xaz ?_;refine ev ?_;refine sq ?_ ?_<;>intro h2 h2p h2s;refine Walk.call (cr:=[]) zlH (ze1 hw 10 hs (by omega) ht hok hb) rfl (.some rfl rfl h2) rfl rfl (LeL.refl _) trivial rfl rfl rfl ?_;refine evs [] [(16,true)] ?_ ⟨⟨_,rfl,h2⟩,trivial⟩;refine rq ?_;rotate_left;refine rq ?_;rotate_left;all_goals (refine congrArg D.bool ?_;unfold isP;simp only[hs,Bool.true_and];first|(simp_all;done)|(simp_all;intro;omega))
 ·have hs':zas w 10 ⟨a,k⟩ p=false:=by simpa using hs
  refine bd Tryz.f101 22 [] [1] fun w0 F0 own kept hk=>?_;refine bx 3004 ?_;refine bx 3005 ?_;refine ev ?_;refine xam ?_;refine xaA 9 [(15,.d (.bool (false)))] [7,8,9,10,11,12,13,14] ?_ ?_;refine ev ?_;refine wc zpb (zft hw 10 (by omega) (by omega) ht hok) rfl rfl ?_;refine ev ?_;refine sq ?_ ?_<;>intro h1 h1p h1s;refine Walk.call (cr:=[]) zpc (zfs _ (Nat.le_refl _) hb hok (by omega) (by omega)) rfl (.some rfl rfl h1) rfl rfl (LeL.refl _) trivial rfl rfl rfl ?_;refine evs [] [(11,true)] ?_ ⟨⟨_,rfl,h1⟩,trivial⟩;exact jnb rfl;exact jnb rfl;refine xaz ?_;refine ev ?_;refine sq ?_ ?_<;>intro h2 h2p h2s;refine Walk.call (cr:=[]) zlH (show FnD Tryz.prog 161 [.d (zan w),.agg [.d (.i a),.d (.i k)],.agg [.d (.i p.op),.d (.i p.ctor),.d (.i p.n),.d (.i p.m),.d (.i p.var),.d (zaj p.kids)]] [] (.d (.bool true)) [] from absurd (by assumption:(false:Bool)=true) (by simp)) rfl (.some rfl rfl h2) rfl rfl (LeL.refl _) trivial rfl rfl rfl ?_;refine evs [] [(16,true)] ?_ ⟨⟨_,rfl,h2⟩,trivial⟩;refine rq ?_;rotate_left;refine rq ?_;rotate_left;all_goals (refine congrArg D.bool ?_;unfold isP;simp_all)
end Go.Proofs.YtpgdedpljcedpaaGreat
namespace Go.Proofs.YtpgdedpljcedpaaGreat
open Go
set_option linter.unusedSimpArgs false
set_option linter.unusedVariables false
def tyS (s:Nat):Ty:=⟨((s / 4:Nat):Int),((s % 4:Nat):Int)⟩
def zcm (t:Ty):Nat:=t.data.toNat*4+t.index.toNat
def dv (f:Nat->Nat) (t:Ty):Nat:=if t.data = -1 then 1 else f (zcm t)
def zbq (f:Nat->Nat):Nat->List Ty->Nat
 |m,[]=>m+1
 |m,t::r=>if dv f t=0 then 0 else zbq f (max m (dv f t)) r
def most (w:List Data) (f:Nat->Nat) (t:Ty) (c:Int):Nat:=zbq f 0 (zab w t c)
def updF (f:Nat->Nat) (s n:Nat):Nat->Nat:=fun i=>if i=s then n else f i
def zbA (w:List Data) (s:Nat) (f:Nat->Nat) (c:Int):Nat->Nat:=
 if 0<most w f (tyS s) c/\(f s=0\/most w f (tyS s) c<f s) then updF f s (most w f (tyS s) c) else f
def zdr (w:List Data) (f:Nat->Nat) (s:Nat):Nat->Nat:=(zaM w (tyS s)).foldl (zbA w s) f
def zgN (w:List Data) (f:Nat->Nat):Nat->Nat:=(List.range (w.length*4)).foldl (zdr w) f
def zba (w:List Data):Nat->Nat->Nat
 |0=>fun _=>0
 |k+1=>zgN w (zba w k)
def zai (w:List Data):Nat->Nat:=zba w (w.length*4+1)
def Hd (w:List Data):Nat->Ty->Prop
 |0,_=>False
 |d+1,t=>t.data = -1\/∃c∈zaM w t,t.data≠ -1/\∀u∈zab w t c,Hd w d u
def InS (n:Nat) (u:Ty):Prop:=u.data = -1\/(zcm u<n/\tyS (zcm u)=u)
def ClosedT (w:List Data):Prop:=∀s,s<w.length*4->∀c∈zaM w (tyS s),∀u∈zab w (tyS s) c,InS (w.length*4) u
theorem zlw (s:Nat):(tyS s).data≠ -1:=by simp only[tyS];omega
theorem Hd_mono (w:List Data):∀(d:Nat) (t:Ty),Hd w d t->Hd w (d+1) t
 |0,_,h=>h.elim
 |d+1,t,h=>by
  rcases h with h|⟨c,hc,h1,h⟩
  ·exact .inl h
  ·exact .inr ⟨c,hc,h1,fun u hu=>Hd_mono w d u (h u hu)⟩
theorem Hd_le {w:List Data}{d e:Nat}{t:Ty} (h:d<=e) (hd:Hd w d t):Hd w e t:=by
 induction h with
 |refl=>exact hd
 |step _ ih=>exact Hd_mono w _ t ih
section
variable {w:List Data}
def Bet (f g:Nat->Nat):Prop:=∀s,0<f s->0<g s/\g s<=f s
def Snd (w:List Data) (f:Nat->Nat):Prop:=∀s,s<w.length*4->0<f s->Hd w (f s) (tyS s)
def Cmp (w:List Data) (k:Nat) (f:Nat->Nat):Prop:=∀s,s<w.length*4->∀d,d<=k->Hd w d (tyS s)->0<f s/\f s<=d
theorem Bet.refl (f:Nat->Nat):Bet f f:=fun s h=>⟨h,Nat.le_refl _⟩
theorem Bet.trans {f g h:Nat->Nat} (a:Bet f g) (b:Bet g h):Bet f h:=fun s hs=>⟨(b s (a s hs).1).1,Nat.le_trans (b s (a s hs).1).2 (a s hs).2⟩
theorem Cmp.bet {k:Nat}{f g:Nat->Nat} (h:Cmp w k f) (b:Bet f g):Cmp w k g:=fun s hs d hd hh=>
 ⟨(b s (h s hs d hd hh).1).1,Nat.le_trans (b s (h s hs d hd hh).1).2 (h s hs d hd hh).2⟩
theorem zjL {f:Nat->Nat}:∀ {l:List Ty}{m k:Nat},m<=k->(∀u∈l,0<dv f u/\dv f u<=k)->0<zbq f m l/\zbq f m l<=k+1
 | [],m,k,hm,_=>by simp only[zbq];omega
 |t::r,m,k,hm,h=>by
  have h1:=h t (by simp);simp only[zbq];rw[if_neg (by omega)];exact zjL (by omega) (fun u hu=>h u (by simp[hu]))
theorem zhz {f:Nat->Nat}:∀ {l:List Ty}{m:Nat},0<zbq f m l->m<zbq f m l/\∀u∈l,0<dv f u/\dv f u<zbq f m l
 | [],m,_=>⟨by simp only[zbq];omega,fun u hu=>by simp at hu⟩
 |t::r,m,h=>by
  simp only[zbq] at h ⊢;by_cases h0:dv f t=0
  ·rw[if_pos h0] at h;omega
  ·rw[if_neg h0] at h ⊢;obtain⟨h1,h2⟩:=zhz h;refine⟨by omega,fun u hu=>?_⟩;rcases List.mem_cons.1 hu with rfl|hu
   ·omega
   ·exact h2 u hu
theorem zoQ {f:Nat->Nat} (hs:Snd w f){u:Ty} (hu:InS (w.length*4) u) (h:0<dv f u):Hd w (dv f u) u:=by
 unfold dv at h ⊢;split
 ·rename_i he;exact .inl he
 ·rename_i he;rw[if_neg he] at h;rcases hu with hu|⟨h1,h2⟩
  ·exact absurd hu he
  ·have:=hs _ h1 h;rwa [h2] at this
theorem zlS {k:Nat}{f:Nat->Nat} (hc:Cmp w k f){u:Ty} (hu:InS (w.length*4) u) (h:Hd w k u):0<dv f u/\dv f u<=k:=by
 unfold dv;split
 ·cases k with
  |zero=>exact h.elim
  |succ k=>omega
 ·rename_i he;rcases hu with hu|⟨h1,h2⟩
  ·exact absurd hu he
  ·exact hc _ h1 k (Nat.le_refl _) (by rw[h2];exact h)
theorem zjW {s:Nat}{f:Nat->Nat}{c:Int}:Bet f (zbA w s f c):=by
 intro i hi;unfold zbA;split
 ·rename_i h;unfold updF;split
  ·subst i;omega
  ·omega
 ·omega
theorem zs9 (hcl:ClosedT w){s:Nat}{f:Nat->Nat}{c:Int} (hs:s<w.length*4) (hc:c∈zaM w (tyS s)) (h:Snd w f):Snd w (zbA w s f c):=by
 unfold zbA;split
 ·rename_i hn;intro i hi h0;unfold updF at h0 ⊢;by_cases he:i=s
  ·subst he;rw[if_pos rfl] at h0 ⊢;obtain⟨h1,h2⟩:=zhz (m:=0) hn.1;obtain⟨n,hn'⟩:∃n,most w f (tyS i) c=n+1:=⟨most w f (tyS i) c-1,by omega⟩;rw[hn'];refine .inr ⟨c,hc,zlw _,fun u hu=>?_⟩;have h3:=h2 u hu;have h4:zbq f 0 (zab w (tyS i) c)=n+1:=hn';exact Hd_le (by omega) (zoQ h (hcl i hi c hc u hu) h3.1)
  ·rw[if_neg he] at h0 ⊢;exact h i hi h0
 ·exact h
theorem zs7 (hcl:ClosedT w){s k:Nat}{f:Nat->Nat}{c:Int} (hs:s<w.length*4) (hc:c∈zaM w (tyS s)) (h:Cmp w k f) (hh:∀u∈zab w (tyS s) c,Hd w k u):
  0<zbA w s f c s/\zbA w s f c s<=k+1:=by
 have hm:=zjL (f:=f) (m:=0) (k:=k) (by omega) (fun u hu=>zlS h (hcl s hs c hc u hu) (hh u hu));have hm':0<most w f (tyS s) c/\most w f (tyS s) c<=k+1:=hm;unfold zbA;split
 ·unfold updF;rw[if_pos rfl];exact hm'
 ·rename_i hn;have:¬(f s=0\/most w f (tyS s) c<f s):=fun h2=>hn ⟨hm'.1,h2⟩;omega
theorem zq8 (hcl:ClosedT w){s k:Nat} (hs:s<w.length*4):∀(C:List Int) (f:Nat->Nat),(∀c∈C,c∈zaM w (tyS s))->Snd w f->Cmp w k f->
  Bet f (C.foldl (zbA w s) f)/\Snd w (C.foldl (zbA w s) f)/\∀c∈C,(∀u∈zab w (tyS s) c,Hd w k u)->0<C.foldl (zbA w s) f s/\C.foldl (zbA w s) f s<=k+1
 | [],f,_,h1,_=>⟨Bet.refl f,h1,fun c hc=>by simp at hc⟩
 |c::r,f,hC,h1,h2=>by
  have hc:=hC c (by simp);obtain⟨g1,g2,g3⟩:=zq8 hcl hs r (zbA w s f c) (fun x hx=>hC x (by simp[hx])) (zs9 hcl hs hc h1) (h2.bet zjW);refine⟨zjW.trans g1,g2,fun x hx hh=>?_⟩;rcases List.mem_cons.1 hx with rfl|hx
  ·obtain⟨q1,q2⟩:=zs7 hcl hs hc h2 hh;exact⟨(g1 s q1).1,Nat.le_trans (g1 s q1).2 q2⟩
  ·exact g3 x hx hh
theorem zt9 (hcl:ClosedT w){s k:Nat} (hs:s<w.length*4){f:Nat->Nat} (h1:Snd w f) (h2:Cmp w k f):
  Bet f (zdr w f s)/\Snd w (zdr w f s)/\∀d,d<=k+1->Hd w d (tyS s)->0<zdr w f s s/\zdr w f s s<=d:=by
 obtain⟨g1,g2,g3⟩:=zq8 hcl hs (zaM w (tyS s)) f (fun c hc=>hc) h1 h2;refine⟨g1,g2,fun d hd hh=>?_⟩;rcases Nat.lt_or_ge d (k+1) with h|h
 ·have:=h2 s hs d (by omega) hh;exact⟨(g1 s this.1).1,Nat.le_trans (g1 s this.1).2 this.2⟩
 ·obtain rfl:d=k+1:=by omega
  rcases hh with hh|⟨c,hc,_,hh⟩
  ·exact absurd hh (zlw s)
  ·exact g3 c hc hh
theorem zon (hcl:ClosedT w){k:Nat}:∀(L:List Nat) (f:Nat->Nat),(∀s∈L,s<w.length*4)->Snd w f->Cmp w k f->
  Bet f (L.foldl (zdr w) f)/\Snd w (L.foldl (zdr w) f)/\∀s∈L,∀d,d<=k+1->Hd w d (tyS s)->0<L.foldl (zdr w) f s/\L.foldl (zdr w) f s<=d
 | [],f,_,h1,_=>⟨Bet.refl f,h1,fun s hs=>by simp at hs⟩
 |s::r,f,hL,h1,h2=>by
  obtain⟨p1,p2,p3⟩:=zt9 hcl (hL s (by simp)) h1 h2;obtain⟨g1,g2,g3⟩:=zon hcl r (zdr w f s) (fun x hx=>hL x (by simp[hx])) p2 (h2.bet p1);refine⟨p1.trans g1,g2,fun x hx d hd hh=>?_⟩;rcases List.mem_cons.1 hx with rfl|hx
  ·have:=p3 d hd hh;exact⟨(g1 x this.1).1,Nat.le_trans (g1 x this.1).2 this.2⟩
  ·exact g3 x hx d hd hh
theorem zth (hcl:ClosedT w){k:Nat}{f:Nat->Nat} (h1:Snd w f) (h2:Cmp w k f):Bet f (zgN w f)/\Snd w (zgN w f)/\Cmp w (k+1) (zgN w f):=by
 obtain⟨g1,g2,g3⟩:=zon hcl (List.range (w.length*4)) f (fun s hs=>List.mem_range.1 hs) h1 h2;exact⟨g1,g2,fun s hs d hd hh=>g3 s (List.mem_range.2 hs) d hd hh⟩
theorem zdj (hcl:ClosedT w):∀k,Snd w (zba w k)/\Cmp w k (zba w k)
 |0=>⟨fun s _ h=>absurd h (by simp[zba]),fun s _ d hd hh=>by
   obtain rfl:d=0:=by omega
   exact hh.elim⟩
 |k+1=>(zth hcl (zdj hcl k).1 (zdj hcl k).2).2
theorem zjx (hcl:ClosedT w){d:Nat} (h1:1<=d) (h:∀s,s<w.length*4->Hd w (d+1) (tyS s)->Hd w d (tyS s)):∀e s,s<w.length*4->Hd w e (tyS s)->Hd w d (tyS s)
 |0,s,_,hh=>hh.elim
 |e+1,s,hs,hh=>by
  refine h s hs ?_;rcases hh with hh|⟨c,hc,h2,hh⟩
  ·exact .inl hh
  ·refine .inr ⟨c,hc,h2,fun u hu=>?_⟩;rcases hcl s hs c hc u hu with hi|⟨q1,q2⟩
   ·cases d with
    |zero=>omega
    |succ d=>exact .inl hi
   ·have:=zjx hcl h1 h e _ q1 (by rw[q2];exact hh u hu);rwa [q2] at this
open Classical in
noncomputable def cntH (w:List Data) (d:Nat):Nat:=(List.range (w.length*4)).countP (fun s=>decide (Hd w d (tyS s)))
theorem znP {p q:Nat->Bool}:∀ {l:List Nat},(∀x∈l,p x=true->q x=true)->(∃x∈l,p x=false/\q x=true)->l.countP p<l.countP q
 | [],_,h=>by obtain⟨x,hx,_⟩:=h;simp at hx
 |y::r,hpq,h=>by
  have hle:r.countP p<=r.countP q:=List.countP_mono_left (fun x hx hp=>hpq x (by simp[hx]) hp);rw[List.countP_cons,List.countP_cons];obtain⟨x,hx,h1,h2⟩:=h;rcases List.mem_cons.1 hx with rfl|hx
  ·rw[h1,h2];simp only[Bool.false_eq_true,if_false,if_true];omega
  ·have:=znP (fun x hx hp=>hpq x (by simp[hx]) hp) ⟨x,hx,h1,h2⟩;have h3:=hpq y (by simp);cases hp:p y with
   |false=>simp only[Bool.false_eq_true,if_false];omega
   |true=>rw[h3 hp];simp only[if_true];omega
open Classical in
theorem zwp {d:Nat} (h:¬ ∀s,s<w.length*4->Hd w (d+1) (tyS s)->Hd w d (tyS s)):cntH w d<cntH w (d+1):=by
 have h2:∃s,s<w.length*4/\Hd w (d+1) (tyS s)/\¬Hd w d (tyS s):=by
  refine Classical.byContradiction fun hn=>h fun s hs hh=>Classical.byContradiction fun hd=>hn ⟨s,hs,hh,hd⟩
 obtain⟨s,hs,h3,h4⟩:=h2;unfold cntH;exact znP (fun x _ hx=>by rw[decide_eq_true_eq] at hx ⊢;exact Hd_mono w d _ hx) ⟨s,List.mem_range.2 hs,by simp[h4],by simp[h3]⟩
theorem zsx:∀m,(∀d,1<=d->d<=m->¬ ∀s,s<w.length*4->Hd w (d+1) (tyS s)->Hd w d (tyS s))->m<=cntH w (m+1)
 |0,_=>Nat.zero_le _
 |m+1,h=>by
  have:=zsx m (fun d h1 h2=>h d h1 (by omega));have:=zwp (w:=w) (d:=m+1) (h (m+1) (by omega) (by omega));omega
theorem zsM (hcl:ClosedT w){e s:Nat} (hs:s<w.length*4) (h:Hd w e (tyS s)):Hd w (w.length*4+1) (tyS s):=by
 have hex:∃d,1<=d/\d<=w.length*4+1/\∀s,s<w.length*4->Hd w (d+1) (tyS s)->Hd w d (tyS s):=by
  refine Classical.byContradiction fun hn=>?_;have h1:=zsx (w:=w) (w.length*4+1) (fun d h1 h2 h3=>hn ⟨d,h1,h2,h3⟩);have h2:cntH w (w.length*4+1+1)<=(List.range (w.length*4)).length:=List.countP_le_length;rw[List.length_range] at h2;omega
 obtain⟨d,h1,h2,h3⟩:=hex;exact Hd_le h2 (zjx hcl h1 h3 e s hs h)
theorem zs8 {s i:Nat}{f:Nat->Nat}{c:Int} (h:i≠s):zbA w s f c i=f i:=by
 unfold zbA;split
 ·unfold updF;rw[if_neg h]
 ·rfl
theorem zq9 {s i:Nat} (h:i≠s):∀(C:List Int) (f:Nat->Nat),C.foldl (zbA w s) f i=f i
 | [],_=>rfl
 |c::r,f=>by rw[List.foldl_cons,zq9 h r,zs8 h]
theorem zop {i:Nat}:∀(L:List Nat) (f:Nat->Nat),i∉L->L.foldl (zdr w) f i=f i
 | [],_,_=>rfl
 |s::r,f,h=>by
  simp only[List.mem_cons,not_or] at h;rw[List.foldl_cons,zop r _ h.2];exact zq9 h.1 _ _
theorem ziC {i:Nat} (h:w.length*4<=i):∀k,zba w k i=0
 |0=>rfl
 |k+1=>by
  show zgN w (zba w k) i=0
  unfold zgN;rw[zop _ _ (by simp;omega),ziC h k]
theorem zkn (hcl:ClosedT w){k:Nat} (hk:w.length*4+1<=k):zba w k=zai w:=by
 have key:∀a b,w.length*4+1<=a->w.length*4+1<=b->∀s,s<w.length*4->0<zba w a s->0<zba w b s/\zba w b s<=zba w a s:=by
  intro a b ha hb s hs h0;have h1:=(zdj hcl a).1 s hs h0;have h2:=zsM hcl hs h1;have h3:=(zdj hcl a).2 s hs _ ha h2;exact(zdj hcl b).2 s hs _ (by omega) h1
 funext s
 rcases Nat.lt_or_ge s (w.length*4) with hs|hs
 ·have h1:=key k (w.length*4+1) hk (Nat.le_refl _) s hs;have h2:=key (w.length*4+1) k (Nat.le_refl _) hk s hs;show zba w k s=zba w (w.length*4+1) s
  omega
 ·show zba w k s=zba w (w.length*4+1) s
  rw[ziC hs,ziC hs]
theorem ztJ (hcl:ClosedT w){k:Nat} (h:zba w (k+1)=zba w k):zba w k=zai w:=by
 have:∀j,zba w (k+j)=zba w k:=by
  intro j;induction j with
  |zero=>rfl
  |succ j ih=>
   show zgN w (zba w (k+j))=zba w k
   rw[ih];exact h
 rw[<-this (w.length*4+1)];exact zkn hcl (by omega)
def Strict (f g:Nat->Nat):Prop:=∃s,0<g s/\(f s=0\/g s<f s)
theorem Strict.bet {f g h:Nat->Nat} (a:Strict f g) (b:Bet g h):Strict f h:=by
 obtain⟨s,h1,h2⟩:=a;have:=b s h1;exact⟨s,this.1,by omega⟩
theorem Strict.ne {f g:Nat->Nat} (a:Strict f g):f≠g:=by
 rintro rfl
 obtain⟨s,h1,h2⟩:=a;omega
theorem znr {s:Nat}:∀(C:List Int) (f:Nat->Nat),Bet f (C.foldl (zbA w s) f)
 | [],f=>Bet.refl f
 |c::r,f=>zjW.trans (znr r _)
theorem zoo:∀(L:List Nat) (f:Nat->Nat),Bet f (L.foldl (zdr w) f)
 | [],f=>Bet.refl f
 |s::r,f=>(znr _ _).trans (zoo r _)
theorem zpR {f:Nat->Nat}{b:Nat} (hb:∀s,f s<=b) (h1:1<=b):∀ {l:List Ty}{m:Nat},m<=b->zbq f m l<=b+1
 | [],m,hm=>by simp only[zbq];omega
 |t::r,m,hm=>by
  simp only[zbq];split
  ·omega
  ·refine zpR hb h1 ?_;have:dv f t<=b:=by
    unfold dv;split
    ·exact h1
    ·exact hb _
   omega
theorem zt1 {s:Nat}{f:Nat->Nat}{c:Int}{b:Nat} (hb:∀s,f s<=b) (h1:1<=b):∀i,zbA w s f c i<=b+1:=by
 intro i;unfold zbA;split
 ·unfold updF;split
  ·exact zpR hb h1 (Nat.zero_le _)
  ·have:=hb i;omega
 ·have:=hb i;omega
theorem zp3 {s:Nat}:∀(C:List Int) (f:Nat->Nat) (b:Nat),(∀s,f s<=b)->1<=b->∀i,C.foldl (zbA w s) f i<=b+C.length
 | [],f,b,hb,_,i=>by have:=hb i;simpa using this
 |c::r,f,b,hb,h1,i=>by
  have:=zp3 (s:=s) r (zbA w s f c) (b+1) (zt1 hb h1) (by omega) i;rw[List.foldl_cons,xab];omega
theorem zlt {m:Nat}:∀(L:List Nat) (f:Nat->Nat) (b:Nat),(∀s∈L,(zaM w (tyS s)).length<=m)->(∀s,f s<=b)->1<=b->∀i,L.foldl (zdr w) f i<=b+L.length*m
 | [],f,b,_,hb,_,i=>by have:=hb i;simpa using this
 |s::r,f,b,hm,hb,h1,i=>by
  have h2:=zp3 (w:=w) (s:=s) (zaM w (tyS s)) f b hb h1;have h3:=hm s (by simp);have:=zlt r (zdr w f s) (b+m) (fun x hx=>hm x (by simp[hx])) (fun j=>by have:=h2 j;show _<=_;unfold zdr;omega) (by omega) i;rw[List.foldl_cons,xab,Nat.add_mul];omega
theorem zqY {m:Nat} (hm:∀s,s<w.length*4->(zaM w (tyS s)).length<=m):∀k i,zba w k i<=1+k*(w.length*4*m)
 |0,i=>by simp[zba]
 |k+1,i=>by
  have:=zlt (w:=w) (m:=m) (List.range (w.length*4)) (zba w k) (1+k*(w.length*4*m)) (fun s hs=>hm s (List.mem_range.1 hs)) (zqY hm k) (by omega) i;show zgN w (zba w k) i<=_
  unfold zgN;rw[List.length_range] at this;rw[Nat.add_mul];omega
end
end Go.Proofs.YtpgdedpljcedpaaGreat
namespace Go.Proofs.YtpgdedpljcedpaaGreat
open Go
set_option linter.unusedSimpArgs false
set_option linter.unusedVariables false
set_option maxRecDepth 100000
set_option maxHeartbeats 2000000
section
variable {c:Ctx}{all:Array Oper}{chk:List Rec->Prop}{os:List Oper}{recs:List Rec}{env:Env}{hp:Hp}{Q:St->Prop}
variable {d ty:Nat}{pos:String}{af:Array Edge}{g:Option (Nat×Bool)}{pg:List (Nat×AV)}
theorem Walk.buildZ {t n e m k:Nat}{zs:List AV} (ht:TyZ c.P t k zs) (ha:ArT c.P t n e m) (hg:GH all env g pg) (hd:Nat.blt d c.n=true)
  (hn:Walk c all chk os (zam (pg++[]) [] [] ⟨some (d,.agg zs),[]⟩::recs) ⟨(d,.agg zs)::env,hp⟩ Q):
  Walk c all chk (⟨some d,.build t #[],ty,pos,af,g⟩::os) recs ⟨env,hp⟩ Q:=by
 refine xba hg hd (fun a G T w=>?_) hn;obtain⟨i,z,h1,h2,h3,h4⟩:=ht.inf;obtain⟨j,h5,h6⟩:=ha.inf;have hz:=zbD (G:=G) (T:=T) (w:=w) h4;refine⟨.agg z.cells, ?_, ?_⟩
 ·have hb:c.P.built t []=some z.cells:=by
   unfold Program.built;simp only[h1,ha.und,h3,h5];rfl
  have:=run_build w t #[] z.cells hb;simp only[execOp,Sem.run_bind,Array.map_empty,this,Result.andThen_ok,Sem.run_pure]
 ·have hz':AllR G T w zs z.cells:=by simpa using hz
  exact .agg hz'.size hz'.rel
end
def tabC (n:Nat) (f:Nat->Nat):List AV:=(List.range n).map fun s=> .d (.i (f s:Int))
def tabD (n:Nat) (f:Nat->Nat):List D:=(List.range n).map fun s=> .i (f s:Int)
abbrev zjs (n:Nat) (f:Nat->Nat):D:= .sl ((List.range n).map fun s=>[D.i (f s:Int)])
theorem zkx {n i s:Nat}{f:Nat->Nat} (h:s<n) (e:i=s):(tabC n f)[i]?=some (.d (.i (f s:Int))):=by
 subst e;simp[tabC,h]
theorem zuc {n i s:Nat}{f:Nat->Nat} (h:s<n) (e:i=s):(tabD n f)[i]?=some (.i (f s:Int)):=by
 subst e;simp[tabD,h]
theorem zaA {n:Nat}{f:Nat->Nat}:AV.idsL (tabC n f)=[]:=by
 unfold tabC;induction List.range n with
 |nil=>rfl
 |cons x r ih=>rw[xae,AV.idsL,ih];rfl
theorem zud:∀ {n:Nat}{f:Nat->Nat},toDL (tabC n f)=some (tabD n f):=by
 intro n f;unfold tabC tabD;have:=zlv ((List.range n).map fun s=>D.i (f s:Int));rwa [List.map_map] at this
theorem zss {n:Nat}{f:Nat->Nat}:zbt n 1 (tabC n f)=some ((List.range n).map fun s=>[D.i (f s:Int)]):=by
 have:=zdf (f:=fun s=>[D.i (f s:Int)]) (k:=1) (l:=List.range n) (fun _ _=>rfl);rw[List.length_range] at this;rw[<-this];congr 1
 unfold tabC;induction List.range n with
 |nil=>rfl
 |cons x r ih=>rw[xae,List.flatMap_cons,ih];rfl
theorem zq5 {v:AV}:∀ {cs:List AV}{i:Nat},i<cs.length->putC cs i [v]=some (cs.set i v)
 |x::r,0,_=>by cases r<;>rfl
 |x::r,i+1,h=>by
  have:=zq5 (v:=v) (cs:=r) (i:=i) (by simpa using h);simp only[putC,this,List.set_cons_succ]
theorem zrh {n i s v:Nat}{f:Nat->Nat}{x:Int} (h:s<n) (e:i=s) (ex:x=(v:Int)):putC (tabC n f) i [.d (.i x)]=some (tabC n (updF f s v)):=by
 subst e ex;rw[zq5 (by simp[tabC,h])];congr 1
 refine List.ext_getElem (by simp[tabC]) (fun j h1 h2=>?_);simp only[tabC,xac,List.length_range] at h2;rw[List.getElem_set];simp only[tabC,List.getElem_map,List.getElem_range,updF];by_cases hj:i=j
 ·subst hj;simp
 ·rw[if_neg hj,if_neg (fun h=>hj h.symm)]
theorem InS.facts {n:Nat}{a k:Int} (h:InS n ⟨a,k⟩) (ha:¬a = -1):zcm ⟨a,k⟩<n/\a*4+k=(zcm ⟨a,k⟩:Int)/\0<=a/\0<=k/\k<=3/\a<=n:=by
 rcases h with h|⟨h1,h2⟩
 ·exact absurd h ha
 ·have e1:=congrArg Ty.data h2;have e2:=congrArg Ty.index h2;simp only[tyS] at e1 e2;omega
theorem zlT {f:Nat->Nat}{a k:Int} (ha:¬a = -1):dv f ⟨a,k⟩=f (zcm ⟨a,k⟩):=by unfold dv;rw[if_neg ha]
theorem zlU {f:Nat->Nat}{a k:Int} (ha:a = -1):dv f ⟨a,k⟩=1:=by unfold dv;rw[if_pos ha]
theorem zoP {f:Nat->Nat}{b:Nat} (hb:∀s,f s<=b) (h1:1<=b) (t:Ty):dv f t<=b:=by
 unfold dv;split
 ·exact h1
 ·exact hb _
theorem zie {a k:Int} (ha:0<=a/\a<=1000) (hk:0<=k/\k<=1000):FnD Tryz.prog 181 [.agg [.d (.i a),.d (.i k)]] [] (.d (.i (a*4+k))) []:=by
 refine bd Tryz.f181 9 [] [] fun w0 F0 own kept hk=>?_;refine bx 3001 ?_;refine ev ?_;refine ar ?_;refine ar ?_;focus (refine rq ?_;all_goals ((simp[];done)))
theorem zmF {n:Nat}{f:Nat->Nat}{a k:Int} (h:InS n ⟨a,k⟩) (hn:n<=100):
  FnD Tryz.prog 130 [.ms 70 n,.agg [.d (.i a),.d (.i k)]] [(70,some (.box (tabC n f)))] (.d (.i (dv f ⟨a,k⟩))) []:=by
 have hs:=h.facts;refine bd Tryz.f130 13 [12] [] fun w0 F0 own kept hk=>?_;refine Walk.box (id:=3003) .none rfl rfl rfl (by first|rfl|(simp only[zaw,occH,occE,Res.ids,xag,List.nil_append,AV.idsL,AV.ids,zag,zaf,zaq,zaF,xae,List.map_nil,upC,zaA];rfl)) (by first|rfl|(simp only[zaw,occH,occE,Res.ids,xag,List.nil_append,AV.idsL,AV.ids,zag,zaf,zaq,zaF,xae,List.map_nil,upC,zaA];rfl)) (by first|rfl|(simp only[zaw,occH,occE,Res.ids,xag,List.nil_append,AV.idsL,AV.ids,zag,zaf,zaq,zaF,xae,List.map_nil,upC,zaA];rfl)) (by first|rfl|(simp only[zaw,occH,occE,Res.ids,xag,List.nil_append,AV.idsL,AV.ids,zag,zaf,zaq,zaF,xae,List.map_nil,upC,zaA];rfl)) ?_;refine evs [12] [] ?_;refine sq ?_ ?_<;>intro h1 h1p h1s<;>(try simp only[Q] at h1p);refine rn [] (r1 rfl) (.eqd ?_) ⟨rfl,rfl⟩ (SubH.get ⟨rfl,trivial⟩) (fun _ h=>h);rotate_left;refine Walk.call (cr:=[]) zsj (zie (by have:=hs h1p;omega) (by have:=hs h1p;omega)) rfl .none rfl rfl (LeL.refl _) trivial rfl (by first|rfl|(simp only[za2,List.all_cons,List.all_nil,zbQ,zbz,AV.idsL,AV.ids,zag,zaf,xae,List.map_nil,zaA];rfl)) (by first|rfl|(simp only[zaw,occH,occE,Res.ids,xag,List.nil_append,AV.idsL,AV.ids,zag,zaf,zaq,zaF,xae,List.map_nil,upC,zaA];rfl)) ?_;refine xaY (i:=zcm ⟨a,k⟩) sl62 .none rfl rfl rfl (hs h1p).2.1 ((hs h1p).1) ?_;refine xa0 ty3 .none rfl rfl rfl ((zkx (hs h1p).1 (by omega))) ?_;refine evs [12] [] ?_;refine rn [] (r1 rfl) (.eqd ?_) ⟨rfl,rfl⟩ (SubH.get ⟨rfl,trivial⟩) (fun _ h=>h);rotate_left;all_goals (first|(rw[zlU (by assumption)];rfl)|(rw[zlT (by assumption)]))
theorem zd3 {n:Nat}{f:Nat->Nat}{a k:Int} (h:InS n ⟨a,k⟩) (hn:n<=100):
  FnD Tryz.prog 130 [.d (zjs n f),.agg [.d (.i a),.d (.i k)]] [] (.d (.i (dv f ⟨a,k⟩))) []:=by
 have hs:=h.facts;refine bd Tryz.f130 13 [] [] fun w0 F0 own kept hk=>?_;refine bx 3003 ?_;refine ev ?_;refine sq ?_ ?_<;>intro h1 h1p h1s<;>(try simp only[Q] at h1p);refine rq ?_;rotate_left;refine wc zsj (zie (by have:=hs h1p;omega) (by have:=hs h1p;omega)) rfl rfl ?_;refine xaU (i:=zcm ⟨a,k⟩) sl62 .none rfl rfl rfl (hs h1p).2.1 (by simp[(hs h1p).1];rfl) rfl ?_;refine ev ?_;refine rq ?_;rotate_left;all_goals (first|(rw[zlU (by assumption)];rfl)|(rw[zlT (by assumption)]))
theorem zg0 {w:List Data} (hw:WT w){a k c:Int} (ht:TyIn w.length ⟨a,k⟩) (hc:c∈zap w ⟨a,k⟩):(zab w ⟨a,k⟩ c).length<=1000000000000:=by
 obtain⟨d,rfl,h1,h2⟩:=zcI ht hc;exact zdG hw h1 h2
theorem znA {w:List Data} (hw:WT w){n:Nat}{f:Nat->Nat}{a k c:Int} (ht:TyIn w.length ⟨a,k⟩) (hc:c∈zap w ⟨a,k⟩) (hn:n<=100) (hb:∀s,f s<=100000) (hin:∀u∈zab w ⟨a,k⟩ c,InS n u):
  FnD Tryz.prog 98 [.d (zan w),.ms 70 n,.agg [.d (.i a),.d (.i k)],.d (.i c)] [(70,some (.box (tabC n f)))] (.d (.i (most w f ⟨a,k⟩ c))) []:=by
 have hl:=zg0 hw ht hc;have hd:=zoP hb (by omega);refine bd Tryz.f98 37 [] [] fun w0 F0 own kept hk=>?_;refine Walk.box (id:=3006) .none rfl rfl rfl (by(simp only[zaw,occH,occE,Res.ids,xag,List.nil_append,AV.idsL,AV.ids,zag,zaf,zaq,zaF,xae,List.map_nil,upC,zaA];rfl)) (by(simp only[zaw,occH,occE,Res.ids,xag,List.nil_append,AV.idsL,AV.ids,zag,zaf,zaq,zaF,xae,List.map_nil,upC,zaA];rfl)) (by(simp only[zaw,occH,occE,Res.ids,xag,List.nil_append,AV.idsL,AV.ids,zag,zaf,zaq,zaF,xae,List.map_nil,upC,zaA];rfl)) (by(simp only[zaw,occH,occE,Res.ids,xag,List.nil_append,AV.idsL,AV.ids,zag,zaf,zaq,zaF,xae,List.map_nil,upC,zaA];rfl)) ?_;refine ev ?_;refine Walk.call (cr:=[]) zg1 (zcy hw ht hc) rfl .none rfl rfl (LeL.refl _) trivial rfl (by first|rfl|(simp only[za2,List.all_cons,List.all_nil,zbQ,zbz,AV.idsL,AV.ids,zag,zaf,xae,List.map_nil,zaA];rfl)) (by first|rfl|(simp only[zaw,occH,occE,Res.ids,xag,List.nil_append,AV.idsL,AV.ids,zag,zaf,zaq,zaF,xae,List.map_nil,upC,zaA];rfl)) ?_;refine ev ?_;refine xak (ι:=List (Ty)×List (Ty)×(Nat)) hk (fun x=>[(11,.d (.i (x.1.length:Int))),(10,.d (.i (x.2.2:Int)))]) [8,12,17,18,19,20,21,22,23,24,25,26,27,28,29,30,31,32,33,34] (fun x=>[]) (fun x=>x.1++x.2.1=zab w ⟨a,k⟩ c/\x.2.2<=100000/\zbq f x.2.2 x.2.1=zbq f 0 (zab w ⟨a,k⟩ c)) (fun x=>x.2.1.length) ([],zab w ⟨a,k⟩ c,0) ⟨by simp,by simp,rfl⟩ ⟨⟨_,rfl,xar ?_⟩,⟨⟨_,rfl,xar ?_⟩,trivial⟩⟩ trivial (fun x=>rfl) (fun x hg1=>?_);iterate 2 focus ((simp;done))
 obtain⟨pre,rest,m⟩:=x;dsimp only at hg1 ⊢;refine evc [] [] ?_;refine sq ?_ ?_<;>intro h1 h1p h1s<;>(try simp only[Q] at h1p);rcases rest with _|⟨y,rest⟩
 ·exfalso;simp_all
 have hdy:=hd y;have hye:dv f ⟨y.data,y.index⟩=dv f y:=rfl;refine xaU zaT .none rfl rfl rfl rfl (zaE hg1.1) rfl ?_;refine ev ?_;refine Walk.call (cr:=[]) zhX (zmF (f:=f) (a:=y.data) (k:=y.index) (hin y (by rw[<-hg1.1];simp)) hn) rfl .none rfl rfl (.cons (xat (by first|rfl|(simp;done))) (.cons (.refl _) .nil)) ⟨rfl,trivial⟩ rfl (by first|rfl|(simp only[za2,List.all_cons,List.all_nil,zbQ,zbz,AV.idsL,AV.ids,zag,zaf,xae,List.map_nil,zaA];rfl)) (by first|rfl|(simp only[zaw,occH,occE,Res.ids,xag,List.nil_append,AV.idsL,AV.ids,zag,zaf,zaq,zaF,xae,List.map_nil,upC,zaA];rfl)) ?_;refine ev ?_;refine sq ?_ ?_<;>intro h2 h2p h2s<;>(try simp only[Q] at h2p);refine rn [] (r1 rfl) (.eqd ?_) ⟨rfl,rfl⟩ (SubH.get ⟨rfl,trivial⟩) (fun _ h=>h);rotate_left;refine sq ?_ ?_<;>intro h3 h3p h3s<;>(try simp only[Q] at h3p);refine ar ?_;refine xah ((pre++[y],rest,max m (dv f y))) ⟨⟨(by have hz:=hg1.1;rw[<-hz];simp),⟨(by have:=hd y;dsimp only;omega),(by rw[<-hg1.2.2];simp only[zbq];rw[if_neg (by have:=hd y;omega)])⟩⟩,(by simp),sx ⟨⟨_,rfl,xar ?_⟩,⟨⟨_,rfl,xar ?_⟩,trivial⟩⟩ trivial⟩;iterate 2 focus (first|(simp;done)|(dsimp only;omega))
 refine ar ?_;refine xah ((pre++[y],rest,max m (dv f y))) ⟨⟨(by have hz:=hg1.1;rw[<-hz];simp),⟨(by have:=hd y;dsimp only;omega),(by rw[<-hg1.2.2];simp only[zbq];rw[if_neg (by have:=hd y;omega)])⟩⟩,(by simp),sx ⟨⟨_,rfl,xar ?_⟩,⟨⟨_,rfl,xar ?_⟩,trivial⟩⟩ trivial⟩;iterate 2 focus (first|(simp;done)|(dsimp only;omega))
 have hrest:rest=[]:=by
  rcases rest with _|⟨a,b⟩
  ·rfl
  ·exfalso;have hz:=congrArg List.length (hg1.1);simp only[xaa,xab,xac] at hz;omega
 subst hrest;refine ar ?_;refine rn [] (r1 rfl) (.eqd ?_) ⟨rfl,rfl⟩ (SubH.get ⟨rfl,trivial⟩) (fun _ h=>h);rotate_left;all_goals (refine congrArg D.i ?_;unfold most;rw[<-hg1.2.2];first|(simp only[zbq];rw[if_pos (by omega)];rfl)|(simp only[zbq];omega))
structure Dp (w:List Data):Prop where
 wt:WT w
 cl:ClosedT w
 four:w.length<=4
 ct:∀s,s<w.length*4->(zaM w (tyS s)).length<=4
def midT (w:List Data) (k s:Nat):Nat->Nat:=(List.range s).foldl (zdr w) (zba w k)
def rowT (w:List Data) (k s:Nat) (pre:List Int):Nat->Nat:=pre.foldl (zbA w s) (midT w k s)
theorem zhy {w:List Data}{k s:Nat}:rowT w k s (zaM w (tyS s))=midT w k (s+1):=by
 unfold rowT midT;rw[List.range_succ,List.foldl_append];rfl
theorem zdD {w:List Data}{k s:Nat}{pre:List Int}{c:Int}:rowT w k s (pre++[c])=zbA w s (rowT w k s pre) c:=by
 unfold rowT;rw[List.foldl_append];rfl
theorem znq {w:List Data} (hd:Dp w){k s:Nat} (hk:k<=20) (hs:s<=w.length*4){pre:List Int} (hp:pre.length<=4) (i:Nat):rowT w k s pre i<=100000:=by
 have h4:=hd.four;have h1:=zqY (w:=w) (m:=4) hd.ct k;have h2:=zlt (w:=w) (m:=4) (List.range s) (zba w k) _ (fun x hx=>hd.ct x (by have:=List.mem_range.1 hx;omega)) h1 (by omega);have h3:=zp3 (w:=w) (s:=s) pre (midT w k s) _ h2 (by omega) i;have e1:k*(w.length*4*4)<=20*(4*4*4):=Nat.mul_le_mul hk (by omega);rw[List.length_range] at h3;show pre.foldl (zbA w s) (midT w k s) i<=100000
 omega
theorem ztj {w:List Data}{s:Nat} (h:s<w.length*4):TyIn w.length (tyS s):= .inr ⟨s / 4,rfl,by omega⟩
theorem ziU {w:List Data}{s:Nat}:zap w (tyS s)=zaM w (tyS s):=by unfold zap;rw[if_neg (zlw s)]
theorem zqA (m:Nat):za3 (m+1) [.d (.i 0)]=za3 m [.d (.i 0)]++[AV.d (.i 0)]:=by
 induction m with
 |zero=>rfl
 |succ m ihm=>
  show [AV.d (.i 0)]++za3 (m+1) [.d (.i 0)]=([AV.d (.i 0)]++za3 m [.d (.i 0)])++[AV.d (.i 0)]
  rw[ihm,List.append_assoc]
theorem zoz (n:Nat):za3 n [.d (.i 0)]=tabC n (fun _=>0):=by
 unfold tabC;induction n with
 |zero=>rfl
 |succ n ih=>rw[zqA,ih,List.range_succ,xaf];rfl
theorem zeg {w:List Data}{s:Nat}{f:Nat->Nat}{c:Int} (h:decide ((0:Int)<(most w f (tyS s) c:Int)/\((f s:Int)=0\/(most w f (tyS s) c:Int)<(f s:Int)))=true):zbA w s f c=updF f s (most w f (tyS s) c):=by
 rw[decide_eq_true_eq] at h;unfold zbA;rw[if_pos (by omega)]
theorem zdC {w:List Data}{s:Nat}{f:Nat->Nat}{c:Int} (h:decide ((0:Int)<(most w f (tyS s) c:Int)/\((f s:Int)=0\/(most w f (tyS s) c:Int)<(f s:Int)))=false):zbA w s f c=f:=by
 rw[decide_eq_false_iff_not] at h;unfold zbA;rw[if_neg (by omega)]
theorem znv {w:List Data} (hw:WT w){s:Nat} (hs:s<w.length*4):FnD Tryz.prog 97 [.d (zan w),.agg [.d (.i ((s:Int) / 4)),.d (.i ((s:Int) % 4))]] [] (.d (zcd (zaM w (tyS s)))) []:=by
 rw[<-ziU];exact zch hw (ztj hs)
theorem zoI {w:List Data} (hd:Dp w){f:Nat->Nat}{s:Nat}{c:Int} (hs:s<w.length*4) (hc:c∈zaM w (tyS s)) (hb:∀s,f s<=100000):
  FnD Tryz.prog 98 [.d (zan w),.ms 70 (w.length*4),.agg [.d (.i ((s:Int) / 4)),.d (.i ((s:Int) % 4))],.d (.i c)] [(70,some (.box (tabC (w.length*4) f)))] (.d (.i (most w f (tyS s) c))) []:=
 have h4:=hd.four;znA (a:=(tyS s).data) (k:=(tyS s).index) hd.wt (ztj hs) (by rw[<-ziU] at hc;exact hc) (by omega) hb (fun u hu=>hd.cl s hs c hc u hu)
theorem zhG {w:List Data} (hd:Dp w):FnD Tryz.prog 52 [.d (zan w)] [] (.d (zjs (w.length*4) (zai w))) []:=by
 have hw:=hd.wt;have h4:=hd.four;refine bd Tryz.f52 70 [27,29,54,61] [14,999999] fun w0 F0 own kept hk=>?_;refine ar ?_;refine Walk.make (id:=70) (m:=w.length*4) sl62 tz3 rfl (by decide) (ziV rfl) .none rfl (congrArg (fun z:Int=>some (AV.d (D.i z))) (by simp:((w.map Data.c).length:Int)*4=((w.length*4:Nat):Int))) (congrArg (fun z:Int=>some (AV.d (D.i z))) (by simp:((w.map Data.c).length:Int)*4=((w.length*4:Nat):Int))) (by omega) (by omega) (by first|rfl|(simp only[zaw,occH,occE,Res.ids,xag,List.nil_append,AV.idsL,AV.ids,zag,zaf,zaq,zaF,xae,List.map_nil,upC,zaA];rfl)) (by first|rfl|(simp only[zaw,occH,occE,Res.ids,xag,List.nil_append,AV.idsL,AV.ids,zag,zaf,zaq,zaF,xae,List.map_nil,upC,zaA];rfl)) (by first|rfl|(simp only[zaw,occH,occE,Res.ids,xag,List.nil_append,AV.idsL,AV.ids,zag,zaf,zaq,zaF,xae,List.map_nil,upC,zaA];rfl)) ?_;refine evs [27,29,54,61] [] ?_;refine xak (ι:=Nat) hk (fun n=>[(4,.d (.i (n:Int)))]) [5,6,7,8,9,14,15,16,17,18,19,20,21,22,23,24,25,26,27,28,29,30,31,32,33,34,35,36,37,38,39,40,41,42,43,44,45,46,47,48,49,50,51,52,53,54,55,56,57,58,59,60,61,62,63,64,65,66,67,68] (fun n=>[(70,some (.box (tabC (w.length*4) (zba w n))))]) (fun n=>n<=w.length*4+1) (fun n=>w.length*4+1-n) 0 (by simp) ⟨⟨_,rfl,xar ?_⟩,trivial⟩ ⟨?_,trivial⟩ (fun x=>rfl) (fun n hg1=>?_);focus ((simp;done))
 focus ((show some (Res.box _)=some (Res.box _);rw[zoz];rfl))
 refine evc [27,29,54,61] [14,999999] ?_;refine sq ?_ ?_<;>intro h1 h1p h1s<;>(try simp only[Q] at h1p);refine xak (ι:=Nat) hk (fun s=>[(5,.d (.i (s:Int)))]) [6,7,8,9,20,21,22,23,24,25,26,27,28,29,30,31,32,33,34,35,36,37,38,39,40,41,42,43,44,45,46,47,48,49,50,51,52,53,54,55,56,57,58,59,60,61,62,63,64,65,66,67,68] (fun s=>[(70,some (.box (tabC (w.length*4) (midT w n s))))]) (fun s=>s<=w.length*4) (fun s=>w.length*4-s) 0 (by simp) ⟨⟨_,rfl,xar ?_⟩,trivial⟩ ⟨?_,trivial⟩ (fun x=>rfl) (fun s hg2=>?_);focus ((simp;done))
 focus (first|rfl|(show some (Res.box _)=some (Res.box _);rw[<-zhy,<-hg3,List.append_nil]))
 refine evc [27,29,54,61] [14,999999] ?_;refine sq ?_ ?_<;>intro h2 h2p h2s<;>(try simp only[Q] at h2p);refine xbe .none rfl rfl rfl (by omega) ?_;refine evs [27,29,54,61] [] ?_;refine xbg .none rfl rfl rfl (by omega) ?_;refine bu [0,1] [_,_] st25 ?_;refine Walk.alloc (id:=3006) tz25 rfl .none rfl (by(simp only[zaw,occH,occE,Res.ids,xag,List.nil_append,AV.idsL,AV.ids,zag,zaf,zaq,zaF,xae,List.map_nil,upC,zaA];rfl)) (by(simp only[zaw,occH,occE,Res.ids,xag,List.nil_append,AV.idsL,AV.ids,zag,zaf,zaq,zaF,xae,List.map_nil,upC,zaA];rfl)) (by(simp only[zaw,occH,occE,Res.ids,xag,List.nil_append,AV.idsL,AV.ids,zag,zaf,zaq,zaF,xae,List.map_nil,upC,zaA];rfl)) ?_;refine so ty25 ?_;refine tv ?_;refine Walk.call (cr:=[]) zim (znv hw (s:=s) (by omega)) rfl .none rfl rfl (LeL.refl _) trivial rfl (by first|rfl|(simp only[za2,List.all_cons,List.all_nil,zbQ,zbz,AV.idsL,AV.ids,zag,zaf,xae,List.map_nil,zaA];rfl)) (by first|rfl|(simp only[zaw,occH,occE,Res.ids,xag,List.nil_append,AV.idsL,AV.ids,zag,zaf,zaq,zaF,xae,List.map_nil,upC,zaA];rfl)) ?_;refine evs [27,29,54,61] [] ?_;refine xak (ι:=List (Int)×List (Int)) hk (fun x=>[(8,.d (.i (x.1.length:Int)))]) [9,34,35,36,37,38,39,40,41,42,43,44,45,46,47,48,49,50,51,52,53,54,55,56,57,58,59,60,61,62,63,64,65,66,67,68] (fun x=>[(70,some (.box (tabC (w.length*4) (rowT w n s x.1))))]) (fun x=>x.1++x.2=zaM w (tyS s)) (fun x=>x.2.length) ([],zaM w (tyS s)) (by simp) ⟨⟨_,rfl,xar ?_⟩,trivial⟩ ⟨?_,trivial⟩ (fun x=>rfl) (fun x hg3=>?_);focus ((simp;done))
 focus (first|rfl|(show some (Res.box _)=some (Res.box _);rw[zdD];first|(rw[zeg (by assumption)];done)|(rw[zdC (by assumption)];done)))
 obtain⟨pre,rest⟩:=x;dsimp only at hg3 ⊢;have hct:=hd.ct s (by omega);refine evc [27,29,54,61] [14,999999] ?_;refine sq ?_ ?_<;>intro h3 h3p h3s<;>(try simp only[Q] at h3p);rcases rest with _|⟨c,rest⟩
 ·exfalso;simp_all
 refine xaU sl62 .none rfl rfl rfl rfl (zaE hg3) rfl ?_;refine evd [27,29,54,61] [] ?_;refine Walk.call (cr:=[]) zuv (zoI hd (f:=rowT w n s pre) (s:=s) (c:=c) (by omega) (by rw[<-hg3];simp) (znq hd (by omega) (by omega) (by have:=hd.ct s (by omega);have hz:=congrArg List.length hg3;simp at hz;omega))) rfl .none rfl rfl (.cons (.refl _) (.cons (xat (by first|rfl|(simp;done))) (.cons (.refl _) (.cons (.refl _) .nil)))) ⟨rfl,trivial⟩ rfl (by first|rfl|(simp only[za2,List.all_cons,List.all_nil,zbQ,zbz,AV.idsL,AV.ids,zag,zaf,xae,List.map_nil,zaA];rfl)) (by first|rfl|(simp only[zaw,occH,occE,Res.ids,xag,List.nil_append,AV.idsL,AV.ids,zag,zaf,zaq,zaF,xae,List.map_nil,upC,zaA];rfl)) ?_;refine evd [27,29,54,61] [] ?_;refine dr ?_;refine xam ?_;refine xaA 17 [(64,.d (.bool (decide ((0:Int)<(most w (rowT w n s pre) (tyS s) c:Int)/\((rowT w n s pre s:Int)=0\/(most w (rowT w n s pre) (tyS s) c:Int)<(rowT w n s pre s:Int))))))] [48,49,50,51,52,53,54,55,56,57,58,59,60,61,62,63] ?_ ?_;refine evs [27,29,54,61] [] ?_;refine sq ?_ ?_<;>intro h4 h4p h4s<;>(try simp only[Q] at h4p);refine xaY (i:=s) sl62 (.some rfl rfl h4) rfl rfl rfl rfl (by omega) ?_;refine xa0 ty3 (.some rfl rfl h4) rfl rfl rfl ((zkx (s:=s) (by omega) (by omega))) ?_;refine evs [27,29,54,61] [(50,true)] ?_ ⟨⟨_,rfl,h4⟩,trivial⟩;refine sq ?_ ?_<;>intro h5 h5p h5s<;>(try simp only[Q] at h5p);exact jnb rfl;refine xaY (i:=s) sl62 (.some rfl rfl h5) rfl rfl rfl rfl (by omega) ?_;refine xa0 ty3 (.some rfl rfl h5) rfl rfl rfl ((zkx (s:=s) (by omega) (by omega))) ?_;refine evs [27,29,54,61] [(50,true),(56,false)] ?_ ⟨⟨_,rfl,h4⟩,⟨_,rfl,h5⟩,trivial⟩;exact jnb rfl;exact jnb rfl;refine xaz ?_;refine tv ?_;refine sq ?_ ?_<;>intro h6 h6p h6s<;>(try simp only[Q] at h6p);refine xaY (i:=s) sl62 .none rfl rfl rfl rfl (by omega) ?_;refine Walk.store ty3 .none rfl rfl rfl rfl rfl rfl (by simp) ((zrh (s:=s) (v:=most w (rowT w n s pre) (tyS s) c) (by omega) (by omega) rfl)) ?_;refine tv ?_;refine ar ?_;refine xah ((pre++[c],rest)) ⟨(by have hz:=hg3;rw[<-hz];simp),(by simp),sx ⟨⟨_,rfl,xar ?_⟩,trivial⟩ ⟨?_,trivial⟩⟩;focus ((simp;done))
 focus ((show some (Res.box _)=some (Res.box _);rw[zdD];first|(rw[zeg (by assumption)];done)|(rw[zdC (by assumption)];done)))
 refine ar ?_;refine xah ((pre++[c],rest)) ⟨(by have hz:=hg3;rw[<-hz];simp),(by simp),sx ⟨⟨_,rfl,xar ?_⟩,trivial⟩ ⟨?_,trivial⟩⟩;focus ((simp;done))
 focus ((show some (Res.box _)=some (Res.box _);rw[zdD];first|(rw[zeg (by assumption)];done)|(rw[zdC (by assumption)];done)))
 have hrest:rest=[]:=by
  rcases rest with _|⟨a,b⟩
  ·rfl
  ·exfalso;have hz:=congrArg List.length (hg3);simp only[xaa,xab,xac] at hz;omega
 subst hrest;refine ar ?_;refine xah (s+1) ⟨(by omega),(by omega),sx ⟨⟨_,rfl,xar ?_⟩,trivial⟩ ⟨?_,trivial⟩⟩;focus ((simp;done))
 focus ((show some (Res.box _)=some (Res.box _);rw[<-zhy,<-hg3,List.append_nil]))
 refine ar ?_;refine xah (n+1) ⟨(by omega),(by omega),sx ⟨⟨_,rfl,xar ?_⟩,trivial⟩ ⟨?_,trivial⟩⟩;focus ((simp;done))
 focus (first|(show some (Res.box _)=some (Res.box _);rw[zoz];rfl)|(have e:s=w.length*4:=(by omega);rw[e];rfl))
 refine CWp.frz hk 2 70 _ _ rfl rfl zss rfl ?_;refine CWp.ret ?_;refine rq ?_;rotate_left;all_goals ((have e:n=w.length*4+1:=(by omega);rw[e];rfl))
theorem zn3 {α:Type} [Inhabited α] (p:α->Bool):∀(l:List α) (i:Nat),(idxF p l i = -1/\∀x∈l,p x=false)\/∃k:Nat,idxF p l i=((i+k:Nat):Int)/\k<l.length/\(l.take (k+1)).filter (fun x=> !p x)=l.take k
 | [],i=> .inl ⟨rfl,by simp⟩
 |x::r,i=>by
  unfold idxF;cases h:p x with
  |true=>exact .inr ⟨0,by simp,by simp,by simp[h]⟩
  |false=>
   rcases zn3 p r (i+1) with ⟨h1,h2⟩|⟨k,h1,h2,h3⟩
   ·exact .inl ⟨by simpa using h1,fun y hy=>by rcases List.mem_cons.1 hy with rfl|hy;exact h;exact h2 y hy⟩
   ·refine .inr ⟨k+1,by simp only[Bool.false_eq_true,if_false];rw[h1];congr 1;omega,by simpa using h2, ?_⟩;simp only[List.take_succ_cons,List.filter_cons,h,Bool.not_false,if_true,List.cons.injEq,true_and];simpa using h3
theorem zi5 {α:Type} [Inhabited α]{s:List α}{i:Nat}{t:α} (h:i<s.length):(s.set i t).take (i+1)=s.take i++[t]:=by
 rw[List.set_eq_take_append_cons_drop,if_pos h,List.take_append,List.take_take];have:(s.take i).length=i:=by simp;omega
 simp[this,Nat.min_eq_right]
theorem zoC {α:Type}{s:List α}{i j:Nat}{t:α} (h:i<=j):(s.set i t).drop (j+1)=s.drop (j+1):=by
 rw[List.drop_set,if_pos (by omega)]
theorem zg5 {α:Type} [Inhabited α]{p:α->Bool}{l:List α}{j:Nat} (h:j<l.length):(l.take (j+1)).filter p=(l.take j).filter p++(if p (nth l j) then [nth l j] else []):=by
 rw[List.take_add_one,List.getElem?_eq_getElem h,List.filter_append,za5 h];simp[List.filter_cons]
theorem zqs {α:Type} [Inhabited α]{s l:List α}{j:Nat} (h:s.drop j=l.drop j) (hl:s.length=l.length) (hj:j<l.length):nth s j=nth l j:=by
 have h1:=zaN (l:=s) (i:=j) (by omega);have h2:=zaN (l:=l) (i:=j) hj;rw[h1,h2] at h;exact(List.cons.inj h).1
theorem zhv {α:Type}{s l:List α}{j:Nat} (h:s.drop j=l.drop j):s.drop (j+1)=l.drop (j+1):=by
 have:=congrArg (List.drop 1) h;simpa [List.drop_drop,Nat.add_comm] using this
theorem zhp {w:List Data} (hs:WSmall w) (hv:za1 w=true):WT w:=WV.wt hs ((zci w).1 hv)
end Go.Proofs.YtpgdedpljcedpaaGreat
namespace Go.Proofs.YtpgdedpljcedpaaGreat
open Go
set_option linter.unusedSimpArgs false
set_option linter.unusedVariables false
set_option maxRecDepth 100000
set_option maxHeartbeats 4000000
theorem zfl {p:Pat}{b1 b2 b3:Bool}{k:Int}:FnD Tryz.prog 216 [.agg [.d (.i p.op),.d (.i p.ctor),.d (.i p.n),.d (.i p.m),.d (.i p.var),.d (zaj p.kids)],.d (.bool b1),.d (.bool b2),.d (.bool b3),.d (.i k)] []
  (.d (.bool (decide ((b1=true\/p.ctor=0)/\(b2=true\/p.n=0/\p.m=0)/\(b3=true\/p.var=0)/\(p.kids.length:Int)=k)))) []:=by
 refine bd Tryz.f216 45 [] [1] fun w0 F0 own kept hk=>?_;refine bx 3005 ?_;refine ev ?_;refine xam ?_;refine xaA 6 [(16,.d (.bool (decide (b1=true\/p.ctor=0))))] [11,12,13,14,15] ?_ ?_;refine ev ?_;refine sq ?_ ?_<;>intro h1 h1p h1s;focus (exact jn rfl (xaq (by(first|rfl|(rw[Bool.eq_iff_iff];simp_all[Pat.cs_len];done)))))
 focus (exact jn rfl (xaq (by(first|rfl|(rw[Bool.eq_iff_iff];simp_all[Pat.cs_len];done)))))
 refine xaA 13 [(29,.d (.bool (decide ((b1=true\/p.ctor=0)/\(b2=true\/p.n=0/\p.m=0)))))] [17,18,19,20,21,22,23,24,25,26,27,28] ?_ ?_;refine ev ?_;refine sq ?_ ?_<;>intro h2 h2p h2s;refine sq ?_ ?_<;>intro h3 h3p h3s;focus (exact jn rfl (xaq (by(first|rfl|(rw[Bool.eq_iff_iff];simp_all[Pat.cs_len];done)))))
 refine sq ?_ ?_<;>intro h4 h4p h4s;focus (exact jn rfl (xaq (by(first|rfl|(rw[Bool.eq_iff_iff];simp_all[Pat.cs_len];done)))))
 focus (exact jn rfl (xaq (by(first|rfl|(rw[Bool.eq_iff_iff];simp_all[Pat.cs_len];done)))))
 focus (exact jn rfl (xaq (by(first|rfl|(rw[Bool.eq_iff_iff];simp_all[Pat.cs_len];done)))))
 refine xaA 8 [(37,.d (.bool (decide ((b1=true\/p.ctor=0)/\(b2=true\/p.n=0/\p.m=0)/\(b3=true\/p.var=0)))))] [30,31,32,33,34,35,36] ?_ ?_;refine ev ?_;refine sq ?_ ?_<;>intro h5 h5p h5s;refine sq ?_ ?_<;>intro h6 h6p h6s;focus (exact jn rfl (xaq (by(first|rfl|(rw[Bool.eq_iff_iff];simp_all[Pat.cs_len];done)))))
 focus (exact jn rfl (xaq (by(first|rfl|(rw[Bool.eq_iff_iff];simp_all[Pat.cs_len];done)))))
 focus (exact jn rfl (xaq (by(first|rfl|(rw[Bool.eq_iff_iff];simp_all[Pat.cs_len];done)))))
 refine xaA 7 [(44,.d (.bool (decide ((b1=true\/p.ctor=0)/\(b2=true\/p.n=0/\p.m=0)/\(b3=true\/p.var=0)/\(p.kids.length:Int)=k))))] [38,39,40,41,42,43] ?_ ?_;refine ev ?_;refine sq ?_ ?_<;>intro h7 h7p h7s;focus (exact jn rfl (xaq (by(first|rfl|(rw[Bool.eq_iff_iff];simp_all[Pat.cs_len];done)))))
 focus (exact jn rfl (xaq (by(first|rfl|(rw[Bool.eq_iff_iff];simp_all[Pat.cs_len];done)))))
 refine xaz ?_;refine ev ?_;refine rq ?_;rotate_left;all_goals (rfl)
theorem zfY {p:Pat}{k:Int}:FnD Tryz.prog 216 [.agg [.d (.i p.op),.d (.i p.ctor),.d (.i p.n),.d (.i p.m),.d (.i p.var),.d (zaj p.kids)],.d (.bool false),.d (.bool false),.d (.bool false),.d (.i k)] []
  (.d (.bool (decide (p.ctor=0/\(p.n=0/\p.m=0)/\p.var=0/\(p.kids.length:Int)=k)))) []:=by
 have:=zfl (p:=p) (b1:=false) (b2:=false) (b3:=false) (k:=k);simpa only[Bool.false_eq_true,false_or] using this
theorem zfZ {p:Pat}{k:Int}:FnD Tryz.prog 216 [.agg [.d (.i p.op),.d (.i p.ctor),.d (.i p.n),.d (.i p.m),.d (.i p.var),.d (zaj p.kids)],.d (.bool false),.d (.bool false),.d (.bool true),.d (.i k)] []
  (.d (.bool (decide (p.ctor=0/\(p.n=0/\p.m=0)/\(p.kids.length:Int)=k)))) []:=by
 have:=zfl (p:=p) (b1:=false) (b2:=false) (b3:=true) (k:=k);simpa only[Bool.false_eq_true,false_or,true_or,true_and] using this
theorem zkR {p:Pat}{k:Int}:FnD Tryz.prog 216 [.agg [.d (.i p.op),.d (.i p.ctor),.d (.i p.n),.d (.i p.m),.d (.i p.var),.d (zaj p.kids)],.d (.bool false),.d (.bool true),.d (.bool false),.d (.i k)] []
  (.d (.bool (decide (p.ctor=0/\p.var=0/\(p.kids.length:Int)=k)))) []:=by
 have:=zfl (p:=p) (b1:=false) (b2:=true) (b3:=false) (k:=k);simpa only[Bool.false_eq_true,false_or,true_or,true_and] using this
theorem zqn {p:Pat}{k:Int}:FnD Tryz.prog 216 [.agg [.d (.i p.op),.d (.i p.ctor),.d (.i p.n),.d (.i p.m),.d (.i p.var),.d (zaj p.kids)],.d (.bool true),.d (.bool false),.d (.bool false),.d (.i k)] []
  (.d (.bool (decide ((p.n=0/\p.m=0)/\p.var=0/\(p.kids.length:Int)=k)))) []:=by
 have:=zfl (p:=p) (b1:=true) (b2:=false) (b3:=false) (k:=k);simpa only[Bool.false_eq_true,false_or,true_or,true_and] using this
theorem zeP {v:Int}:FnD Tryz.prog 217 [.d (.i v)] [] (.d (.bool (zar v 0 5))) []:=by
 refine bd Tryz.f217 5 [] [] fun w0 F0 own kept hk=>?_;refine wc zeM (zbj) rfl rfl ?_;refine ev ?_;refine rq ?_;rotate_left;all_goals (rfl)
theorem zet {w:List Data} (hw:WT w){a k:Int} (ht:TyIn w.length ⟨a,k⟩):FnD Tryz.prog 105 [.d (zan w),.agg [.d (.i a),.d (.i k)]] [] (.d (zcd (zap w ⟨a,k⟩))) []:=by
 rcases ht with ha|⟨d,hd,hlt⟩
 ·simp only at ha;subst ha;rw[zgR];exact zi7
 ·simp only at hd;subst hd;rw[zhP];exact zct hw hlt
theorem zc4 {w:List Data} (hw:WT w){a k c:Int} (ht:TyIn w.length ⟨a,k⟩) (hc:c∈zap w ⟨a,k⟩):FnD Tryz.prog 106 [.d (zan w),.agg [.d (.i a),.d (.i k)],.d (.i c)] [] (.d (zb9 (zab w ⟨a,k⟩ c))) []:=by
 obtain⟨d,rfl,h1,h2⟩:=zcI ht hc;exact zcN hw h1 h2
theorem zi0 {w:List Data} (hw:WT w){a k:Int}{p:Pat} (ht:TyIn w.length ⟨a,k⟩):
  FnD Tryz.prog 180 [.d (zan w),.agg [.d (.i a),.d (.i k)],.agg [.d (.i p.op),.d (.i p.ctor),.d (.i p.n),.d (.i p.m),.d (.i p.var),.d (zaj p.kids)]] [] (.tup [.d (zb9 (zcA w ⟨a,k⟩ p)),.d (.bool (okP w ⟨a,k⟩ p))]) []:=by
 have hcl:=zgS hw ht;have ty4:p.op=4->p.ctor∉zap w ⟨a,k⟩->zcA w ⟨a,k⟩ p=[]:=fun h4 hm=>by unfold zcA;rw[if_pos ⟨h4,hm⟩]
 have ty4':p.op=4->p.ctor∈zap w ⟨a,k⟩->zcA w ⟨a,k⟩ p=zab w ⟨a,k⟩ p.ctor:=fun h4 hm=>by unfold zcA zad;rw[if_neg (fun h=>h.2 hm),if_pos h4]
 have ty5:p.op=5->zcA w ⟨a,k⟩ p=[⟨a,k⟩,⟨a,k⟩]:=fun h5=>by unfold zcA zad;rw[if_neg (by omega),if_neg (by omega),if_pos h5]
 have ty6:p.op=6->zcA w ⟨a,k⟩ p=[⟨a,k⟩]:=fun h6=>by unfold zcA zad;rw[if_neg (by omega),if_neg (by omega),if_neg (by omega),if_pos h6]
 have ty0:¬p.op=4->¬p.op=5->¬p.op=6->zcA w ⟨a,k⟩ p=[]:=fun h4 h5 h6=>by unfold zcA zad;rw[if_neg (fun h=>h4 h.1),if_neg h4,if_neg h5,if_neg h6]
 have ln4:p.op=4->(zad w ⟨a,k⟩ p).length=(zab w ⟨a,k⟩ p.ctor).length:=fun h4=>by unfold zad;rw[if_pos h4]
 have ln5:p.op=5->(zad w ⟨a,k⟩ p).length=2:=fun h5=>by unfold zad;rw[if_neg (by omega),if_pos h5];rfl
 have ln6:p.op=6->(zad w ⟨a,k⟩ p).length=1:=fun h6=>by unfold zad;rw[if_neg (by omega),if_neg (by omega),if_pos h6];rfl
 have ln0:¬p.op=4->¬p.op=5->¬p.op=6->(zad w ⟨a,k⟩ p).length=0:=fun h4 h5 h6=>by unfold zad;rw[if_neg h4,if_neg h5,if_neg h6];rfl
 have okI:∀b:Bool,(b=true↔((((p.op=2\/p.op=6)->0<=p.var/\p.var<=5)/\(¬(p.op=2\/p.op=6)->p.var=0)/\(p.op≠3->p.n=0/\p.m=0)/\(p.op≠4->p.ctor=0)/\
   (p.op=1\/p.op=2\/p.op=5\/p.op=6\/(p.op=3/\a = -1/\0<=p.n/\p.n<=p.m/\p.m<=9)\/(p.op=4/\p.ctor∈zap w ⟨a,k⟩)))/\p.kids.length=(zad w ⟨a,k⟩ p).length))->b=okP w ⟨a,k⟩ p:=fun b h=>by
  rw[Bool.eq_iff_iff,h];unfold okP ownP;simp only[xad,decide_eq_true_eq]
 by_cases hmem:p.ctor∈zap w ⟨a,k⟩
 ·have hargs:=zc4 hw ht hmem;have hal:(zab w ⟨a,k⟩ p.ctor).length<=1000000000000:=by
   obtain⟨d,rfl,h1,h2⟩:=zcI ht hmem;exact zdG hw h1 h2
  simp only[hmem,and_true] at okI;refine bd Tryz.f180 87 [] [5] fun w0 F0 own kept hk=>?_;refine bx 3004 ?_;refine bx 3005 ?_;refine ev ?_;refine sq ?_ ?_<;>intro h1 h1p h1s<;>(try simp only[Q] at h1p);refine wc zd6 (zfY) rfl rfl ?_;refine ev ?_;refine rn0 (r2 rfl rfl) (.tup (.cons (.nild ?_) (.cons (.eqd ?_) .nil)));rotate_left 2;refine sq ?_ ?_<;>intro h2 h2p h2s<;>(try simp only[Q] at h2p);refine xam ?_;refine xaA 7 [(23,.d (.bool (decide ((p.ctor=0/\(p.n=0/\p.m=0)/\(p.kids.length:Int)=0)/\0<=p.var/\p.var<=5))))] [17,18,19,20,21,22] ?_ ?_;refine ev ?_;refine wc zd6 (zfZ) rfl rfl ?_;refine ev ?_;refine sq ?_ ?_<;>intro h3 h3p h3s<;>(try simp only[Q] at h3p);refine Walk.call (cr:=[]) zlJ (zeP) rfl (.some rfl rfl h3) rfl rfl (LeL.refl _) trivial rfl rfl rfl ?_;refine evs [] [(19,true)] ?_ ⟨⟨_,rfl,h3⟩,trivial⟩;exact jn rfl (xaq (by(rw[Bool.eq_iff_iff];simp only[decide_eq_true_eq,zar,xad,Bool.false_eq_true,false_iff,true_iff];omega)));exact jn rfl (xaq (by(rw[Bool.eq_iff_iff];simp only[decide_eq_true_eq,zar,xad,Bool.false_eq_true,false_iff,true_iff];omega)));refine xaz ?_;refine ev ?_;refine rn0 (r2 rfl rfl) (.tup (.cons (.nild ?_) (.cons (.eqd ?_) .nil)));rotate_left 2;refine sq ?_ ?_<;>intro h4 h4p h4s<;>(try simp only[Q] at h4p);refine sq ?_ ?_<;>intro h5 h5p h5s<;>(try simp only[Q] at h5p);refine Walk.call (cr:=[]) zd6 (zkR) rfl (.some rfl rfl h5) rfl rfl (LeL.refl _) trivial rfl rfl rfl ?_;refine evd [] [(29,true)] ?_ ⟨⟨_,rfl,h5⟩,trivial⟩;refine sq ?_ ?_<;>intro h6 h6p h6s<;>(try simp only[Q] at h6p);refine sq ?_ ?_<;>intro h7 h7p h7s<;>(try simp only[Q] at h7p);refine sq ?_ ?_<;>intro h8 h8p h8s<;>(try simp only[Q] at h8p);refine dr ?_;refine rn0 (r2 rfl rfl) (.tup (.cons (.nild ?_) (.cons (.eqd ?_) .nil)));rotate_left 2;refine dr ?_;refine rn0 (r2 rfl rfl) (.tup (.cons (.nild ?_) (.cons (.eqd ?_) .nil)));rotate_left 2;refine sqF ?_;refine dr ?_;refine rn0 (r2 rfl rfl) (.tup (.cons (.nild ?_) (.cons (.eqd ?_) .nil)));rotate_left 2;refine sqF ?_;refine sqF ?_;refine dr ?_;refine rn0 (r2 rfl rfl) (.tup (.cons (.nild ?_) (.cons (.eqd ?_) .nil)));rotate_left 2;refine sqF ?_;refine sqF ?_;refine sqF ?_;refine dr ?_;refine rn0 (r2 rfl rfl) (.tup (.cons (.nild ?_) (.cons (.eqd ?_) .nil)));rotate_left 2;refine sq ?_ ?_<;>intro h9 h9p h9s<;>(try simp only[Q] at h9p);refine wc zfe (zet hw ht) rfl rfl ?_;refine evd [] [] ?_;refine wc zjk (zbP hcl) rfl rfl ?_;refine evd [] [] ?_;refine dr ?_;refine sq ?_ ?_<;>intro h10 h10p h10s<;>(try simp only[Q] at h10p);exfalso;simp_all;refine wc zff (hargs) rfl rfl ?_;refine ev ?_;refine wc zd6 (zqn) rfl rfl ?_;refine ev ?_;refine rn0 (r2 rfl rfl) (.tup (.cons (.eqd ?_) (.cons (.eqd ?_) .nil)));rotate_left 2;refine sq ?_ ?_<;>intro h11 h11p h11s<;>(try simp only[Q] at h11p);refine si [0,1] [_,_] zaT tz25 ?_;refine evd [] [] ?_;refine wc zd6 (zfY) rfl rfl ?_;refine evd [] [] ?_;refine dr ?_;refine rn0 (r2 rfl rfl) (.tup (.cons (.eqd ?_) (.cons (.eqd ?_) .nil)));rotate_left 2;refine sq ?_ ?_<;>intro h12 h12p h12s<;>(try simp only[Q] at h12p);refine si [0] [_] zaT tz25 ?_;refine evd [] [] ?_;refine wc zd6 (zfZ) rfl rfl ?_;refine evd [] [] ?_;refine sq ?_ ?_<;>intro h13 h13p h13s<;>(try simp only[Q] at h13p);refine Walk.call (cr:=[]) zlJ (zeP) rfl (.some rfl rfl h13) rfl rfl (LeL.refl _) trivial rfl rfl rfl ?_;refine evd [] [(82,true)] ?_ ⟨⟨_,rfl,h13⟩,trivial⟩;refine dr ?_;refine rn0 (r2 rfl rfl) (.tup (.cons (.eqd ?_) (.cons (.eqd ?_) .nil)));rotate_left 2;refine dr ?_;refine rn0 (r2 rfl rfl) (.tup (.cons (.eqd ?_) (.cons (.eqd ?_) .nil)));rotate_left 2;refine rn0 (r2 rfl rfl) (.tup (.cons (.nild ?_) (.cons (.eqd ?_) .nil)));rotate_left 2;all_goals (first|(refine congrArg D.bool (okI _ ?_);(try simp only[decide_eq_true_eq,Bool.false_eq_true,zar,xad,xac,true_iff,false_iff]);omega)|(rw[ty0 (by omega) (by omega) (by omega)];first|done|rfl)|(rw[ty5 (by omega)];first|done|rfl)|(rw[ty6 (by omega)];first|done|rfl)|(rw[ty4' (by omega) hmem];first|done|rfl))
 ·simp only[hmem,and_false,or_false] at okI;refine bd Tryz.f180 87 [] [5] fun w0 F0 own kept hk=>?_;refine bx 3004 ?_;refine bx 3005 ?_;refine ev ?_;refine sq ?_ ?_<;>intro h1 h1p h1s<;>(try simp only[Q] at h1p);refine wc zd6 (zfY) rfl rfl ?_;refine ev ?_;refine rn0 (r2 rfl rfl) (.tup (.cons (.nild ?_) (.cons (.eqd ?_) .nil)));rotate_left 2;refine sq ?_ ?_<;>intro h2 h2p h2s<;>(try simp only[Q] at h2p);refine xam ?_;refine xaA 7 [(23,.d (.bool (decide ((p.ctor=0/\(p.n=0/\p.m=0)/\(p.kids.length:Int)=0)/\0<=p.var/\p.var<=5))))] [17,18,19,20,21,22] ?_ ?_;refine ev ?_;refine wc zd6 (zfZ) rfl rfl ?_;refine ev ?_;refine sq ?_ ?_<;>intro h3 h3p h3s<;>(try simp only[Q] at h3p);refine Walk.call (cr:=[]) zlJ (zeP) rfl (.some rfl rfl h3) rfl rfl (LeL.refl _) trivial rfl rfl rfl ?_;refine evs [] [(19,true)] ?_ ⟨⟨_,rfl,h3⟩,trivial⟩;exact jn rfl (xaq (by(rw[Bool.eq_iff_iff];simp only[decide_eq_true_eq,zar,xad,Bool.false_eq_true,false_iff,true_iff];omega)));exact jn rfl (xaq (by(rw[Bool.eq_iff_iff];simp only[decide_eq_true_eq,zar,xad,Bool.false_eq_true,false_iff,true_iff];omega)));refine xaz ?_;refine ev ?_;refine rn0 (r2 rfl rfl) (.tup (.cons (.nild ?_) (.cons (.eqd ?_) .nil)));rotate_left 2;refine sq ?_ ?_<;>intro h4 h4p h4s<;>(try simp only[Q] at h4p);refine sq ?_ ?_<;>intro h5 h5p h5s<;>(try simp only[Q] at h5p);refine Walk.call (cr:=[]) zd6 (zkR) rfl (.some rfl rfl h5) rfl rfl (LeL.refl _) trivial rfl rfl rfl ?_;refine evd [] [(29,true)] ?_ ⟨⟨_,rfl,h5⟩,trivial⟩;refine sq ?_ ?_<;>intro h6 h6p h6s<;>(try simp only[Q] at h6p);refine sq ?_ ?_<;>intro h7 h7p h7s<;>(try simp only[Q] at h7p);refine sq ?_ ?_<;>intro h8 h8p h8s<;>(try simp only[Q] at h8p);refine dr ?_;refine rn0 (r2 rfl rfl) (.tup (.cons (.nild ?_) (.cons (.eqd ?_) .nil)));rotate_left 2;refine dr ?_;refine rn0 (r2 rfl rfl) (.tup (.cons (.nild ?_) (.cons (.eqd ?_) .nil)));rotate_left 2;refine sqF ?_;refine dr ?_;refine rn0 (r2 rfl rfl) (.tup (.cons (.nild ?_) (.cons (.eqd ?_) .nil)));rotate_left 2;refine sqF ?_;refine sqF ?_;refine dr ?_;refine rn0 (r2 rfl rfl) (.tup (.cons (.nild ?_) (.cons (.eqd ?_) .nil)));rotate_left 2;refine sqF ?_;refine sqF ?_;refine sqF ?_;refine dr ?_;refine rn0 (r2 rfl rfl) (.tup (.cons (.nild ?_) (.cons (.eqd ?_) .nil)));rotate_left 2;refine sq ?_ ?_<;>intro h9 h9p h9s<;>(try simp only[Q] at h9p);refine wc zfe (zet hw ht) rfl rfl ?_;refine evd [] [] ?_;refine wc zjk (zbP hcl) rfl rfl ?_;refine evd [] [] ?_;refine dr ?_;refine sq ?_ ?_<;>intro h10 h10p h10s<;>(try simp only[Q] at h10p);refine rn0 (r2 rfl rfl) (.tup (.cons (.nild ?_) (.cons (.eqd ?_) .nil)));rotate_left 2;exfalso;simp_all;refine sq ?_ ?_<;>intro h11 h11p h11s<;>(try simp only[Q] at h11p);refine si [0,1] [_,_] zaT tz25 ?_;refine evd [] [] ?_;refine wc zd6 (zfY) rfl rfl ?_;refine evd [] [] ?_;refine dr ?_;refine rn0 (r2 rfl rfl) (.tup (.cons (.eqd ?_) (.cons (.eqd ?_) .nil)));rotate_left 2;refine sq ?_ ?_<;>intro h12 h12p h12s<;>(try simp only[Q] at h12p);refine si [0] [_] zaT tz25 ?_;refine evd [] [] ?_;refine wc zd6 (zfZ) rfl rfl ?_;refine evd [] [] ?_;refine sq ?_ ?_<;>intro h13 h13p h13s<;>(try simp only[Q] at h13p);refine Walk.call (cr:=[]) zlJ (zeP) rfl (.some rfl rfl h13) rfl rfl (LeL.refl _) trivial rfl rfl rfl ?_;refine evd [] [(82,true)] ?_ ⟨⟨_,rfl,h13⟩,trivial⟩;refine dr ?_;refine rn0 (r2 rfl rfl) (.tup (.cons (.eqd ?_) (.cons (.eqd ?_) .nil)));rotate_left 2;refine dr ?_;refine rn0 (r2 rfl rfl) (.tup (.cons (.eqd ?_) (.cons (.eqd ?_) .nil)));rotate_left 2;refine rn0 (r2 rfl rfl) (.tup (.cons (.nild ?_) (.cons (.eqd ?_) .nil)));rotate_left 2;all_goals (first|(refine congrArg D.bool (okI _ ?_);(try simp only[decide_eq_true_eq,Bool.false_eq_true,zar,xad,xac,true_iff,false_iff]);omega)|(rw[ty0 (by omega) (by omega) (by omega)];first|done|rfl)|(rw[ty5 (by omega)];first|done|rfl)|(rw[ty6 (by omega)];first|done|rfl)|(rw[ty4 (by omega) hmem];first|done|rfl))
theorem ztq {t u:Vt}:t=u↔t.var=u.var/\t.ty.data=u.ty.data/\t.ty.index=u.ty.index:=by
 rcases t with ⟨a,b,c⟩;rcases u with ⟨d,e,f⟩;simp
def zrB (l:List Vt) (v:Vt):Int:=idxF (fun x=>decide (v=x)) l 0
theorem zj3 {l:List Vt}{v:Vt} (h:l.length<=1000000000000):FnD Tryz.prog 227 [.d (zdv l),.agg [.d (.i v.var),.d (.i v.ty.data),.d (.i v.ty.index)]] [] (.d (.i (zrB l v))) []:=by
 refine bd Tryz.f227 19 [16] [] fun w0 F0 own kept hk=>?_;refine bx 3003 ?_;refine evs [16] [] ?_;refine xak (ι:=List (Vt)×List (Vt)) hk (fun x=>[(8,.d (.i (x.1.length:Int)))]) [4,5,9,10,11,12,13,14,15,16,17,18] (fun x=>[]) (fun x=>x.1++x.2=l/\idxF (fun x=>decide (v=x)) x.2 x.1.length=idxF (fun x=>decide (v=x)) l 0) (fun x=>x.2.length) ([],l) ⟨by simp,rfl⟩ ⟨⟨_,rfl,xar ?_⟩,trivial⟩ trivial (fun x=>rfl) (fun x hg1=>?_);focus (first|rfl|omega)
 obtain⟨pre,rest⟩:=x;dsimp only at hg1 ⊢;refine evc [16] [] ?_;refine sq ?_ ?_<;>intro h1 h1p h1s<;>(try simp only[Q] at h1p);rcases rest with _|⟨y,rest⟩
 ·exfalso;simp_all
 refine xaU zdP .none rfl rfl rfl rfl (zaE hg1.1) rfl ?_;refine evd [16] [] ?_;refine Walk.eqV2 zw1 .none rfl rfl rfl rfl rfl ?_;refine dr ?_;refine sq ?_ ?_<;>intro h2 h2p h2s<;>(try simp only[Q] at h2p);refine rq ?_;rotate_left;refine ar ?_;refine xah ((pre++[y],rest)) ⟨⟨(by have hz:=hg1.1;rw[<-hz];simp),(by rw[<-hg1.2];simp[idxF];simp_all[ztq])⟩,(by simp),sx ⟨⟨_,rfl,xar ?_⟩,trivial⟩ trivial⟩;focus (first|rfl|(simp;done)|omega)
 have hrest:rest=[]:=by
  rcases rest with _|⟨a,b⟩
  ·rfl
  ·exfalso;have hz:=congrArg List.length (hg1.1);simp only[xaa,xab,xac] at hz;omega
 subst hrest;refine rq ?_;rotate_left;all_goals (unfold zrB;rw[<-hg1.2];simp_all[idxF,ztq])
theorem zic {l:List Vt}{v:Vt} (h:l.length<=1000000000000):FnD Tryz.prog 209 [.d (zdv l),.agg [.d (.i v.var),.d (.i v.ty.data),.d (.i v.ty.index)]] [] (.d (.bool (decide (v∈l)))) []:=by
 refine bd Tryz.f209 9 [] [] fun w0 F0 own kept hk=>?_;refine bx 3003 ?_;refine ev ?_;refine wc zwj (zj3 h) rfl rfl ?_;refine ev ?_;refine rq ?_;rotate_left;all_goals (refine congrArg D.bool ?_;rw[show zrB l v=idxF (fun x=>decide (v=x)) l 0 from rfl,zfH];simp[List.any_eq,eq_comm])
theorem zhW {xs:List Vt}{f:Nat}{caps:List AV}{hp:Hp}{p:Vt->Bool} (hs:xs.length<=1000000000000) (hcal:Callee Tryz.prog f)
  (hf:∀t∈xs,FnD Tryz.prog f ([.agg [.d (.i t.var),.d (.i t.ty.data),.d (.i t.ty.index)]]++caps) hp (.d (.bool (p t))) []) (k1:subH hp hp) (k2:zex hp=true) (k3:za2 hp [] (.d .nilp) []=true):
  FnD Tryz.prog 232 [.d (zdv xs),.fn f caps] hp (.d (.i (idxF p xs 0))) []:=by
 refine bd Tryz.f232 19 [] [] fun w0 F0 own kept hk=>?_;refine xak (ι:=List (Vt)×List (Vt)) hk (fun x=>[(8,.d (.i (x.1.length:Int)))]) [4,5,9,10,11,12,13,14,15,16,17,18] (fun x=>[]) (fun x=>x.1++x.2=xs/\idxF p x.2 x.1.length=idxF p xs 0) (fun x=>x.2.length) ([],xs) ⟨by simp,rfl⟩ ⟨⟨_,rfl,xar ?_⟩,trivial⟩ trivial (fun x=>zik hp) (fun x hg1=>?_);focus (first|rfl|omega)
 obtain⟨pre,rest⟩:=x;dsimp only at hg1 ⊢;refine evc [] [] ?_;refine sq ?_ ?_<;>intro h1 h1p h1s<;>(try simp only[Q] at h1p);rcases rest with _|⟨y,rest⟩
 ·exfalso;simp_all
 refine xaU zdP .none rfl rfl rfl rfl (zaE hg1.1) rfl ?_;refine ev ?_;refine xaK (cr:=[]) hcal (hf y (by rw[<-hg1.1];simp)) rfl .none rfl rfl rfl (LeL.refl _) k1 k2 (zdL k3 _) rfl ?_;refine tv ?_;refine sq ?_ ?_<;>intro h2 h2p h2s<;>(try simp only[Q] at h2p);focus (refine rn [] (r1 rfl) (.eqd ?_) ⟨rfl,rfl⟩ (fun _ _ h=>h) (fun _ h=>h);all_goals (rw[<-hg1.2];simp[idxF,h1s,h1p,h2s,h2p]))
 refine ar ?_;refine xah ((pre++[y],rest)) ⟨⟨(by have hz:=hg1.1;rw[<-hz];simp),(by rw[<-hg1.2];simp[idxF,h2s])⟩,(by simp),Sub.x (by kernel_rfl) (by kernel_rfl) ⟨⟨_,rfl,xar ?_⟩,trivial⟩ (by simp) (by simp[zdS]) trivial⟩;focus (first|rfl|(simp;done)|omega)
 have hrest:rest=[]:=by
  rcases rest with _|⟨a,b⟩
  ·rfl
  ·exfalso;have hz:=congrArg List.length (hg1.1);simp only[xaa,xab,xac] at hz;omega
 subst hrest;focus (refine rn [] (r1 rfl) (.eqd ?_) ⟨rfl,rfl⟩ (fun _ _ h=>h) (fun _ h=>h);all_goals (rw[<-hg1.2];simp[idxF,h1s,h1p]))
theorem zgL {xs:List Vt}{f:Nat}{caps:List AV}{hp:Hp}{p:Vt->Bool} (hs:xs.length<=1000000000000) (hcal:Callee Tryz.prog f)
  (hf:∀t∈xs,FnD Tryz.prog f ([.agg [.d (.i t.var),.d (.i t.ty.data),.d (.i t.ty.index)]]++caps) hp (.d (.bool (p t))) []) (k1:subH hp hp) (k2:zex hp=true) (k3:za2 hp [] (.d .nilp) []=true):
  FnD Tryz.prog 229 [.d (zdv xs),.fn f caps] hp (.d (.bool (xs.any p))) []:=by
 refine bd Tryz.f229 9 [] [] fun w0 F0 own kept hk=>?_;refine Walk.call (cr:=[]) zwn (zhW hs hcal hf k1 k2 k3) rfl .none rfl rfl (LeL.refl _) k1 k2 (zdL k3 _) rfl ?_;refine ev ?_;refine rn [] (r1 rfl) (.eqd ?_) ⟨rfl,rfl⟩ (fun _ _ h=>h) (fun _ h=>h);rotate_left;all_goals (exact congrArg D.bool (zfH p xs 0))
theorem zjB {b:List Vt}{v:Vt} (h:b.length<=1000000000000):FnD Tryz.prog 230 [.agg [.d (.i v.var),.d (.i v.ty.data),.d (.i v.ty.index)],.ref 3003 0] [(3003,some (.box [.d (zdv b)]))] (.d (.bool (!decide (v∈b)))) []:=by
 refine bd Tryz.f230 8 [] [] fun w0 F0 own kept hk=>?_;refine bx 3001 ?_;refine ev ?_;refine wc zwf (zic h) rfl rfl ?_;refine ev ?_;refine rn [] (r1 rfl) (.eqd ?_) ⟨rfl,rfl⟩ (SubH.get ⟨rfl,trivial⟩) (fun _ h=>h);rotate_left;all_goals (rfl)
theorem zhb {x y:List Vt} (hx:x.length<=1000000000000) (hy:y.length<=1000000000000):FnD Tryz.prog 218 [.d (zdv x),.d (zdv y)] [] (.d (.bool (zdT x y))) []:=by
 refine bd Tryz.f218 16 [] [] fun w0 F0 own kept hk=>?_;refine bx 3003 ?_;refine ev ?_;refine sq ?_ ?_<;>intro h1 h1p h1s;refine xaM (xs:=[_]) rfl (.some rfl rfl h1) rfl rfl ?_;refine Walk.call (cr:=[]) zwl (zgL (p:=fun v=> !decide (v∈y)) hx zwm (fun t _=>zjB hy) ⟨rfl,trivial⟩ rfl rfl) rfl (.some rfl rfl h1) rfl rfl (LeL.refl _) ⟨rfl,trivial⟩ rfl rfl rfl ?_;refine evs [] [(10,true)] ?_ ⟨⟨_,rfl,h1⟩,trivial⟩;refine rq ?_;rotate_left;refine rq ?_;rotate_left;all_goals (refine congrArg D.bool ?_;unfold zdT;first|(simp_all;done)|(simp_all;intro hz;omega))
def metA (s:List Int):List AV:=(List.range 6).map fun(i:Nat)=> .d (.bool (decide ((i:Int)∈s)))
theorem zpP {s:List Int}{v:Int} (h0:0<=v) (h1:v<=5):(metA s)[v.toNat]?=some (.d (.bool (decide (v∈s)))):=by
 unfold metA;rw[List.getElem?_map,List.getElem?_range (by omega)];simp only[Option.map_some];rw[Int.toNat_of_nonneg h0]
theorem zpQ {s:List Int}{v:Int} (h0:0<=v) (h1:v<=5):putC (metA s) v.toNat [.d (.bool true)]=some (metA (s++[v])):=by
 have e:v=0\/v=1\/v=2\/v=3\/v=4\/v=5:=by omega
 rcases e with rfl|rfl|rfl|rfl|rfl|rfl<;>simp[metA,putC,List.range_succ]
theorem zsV (t:Ty) (p:Pat):(zaR t p).length<=1:=by unfold zaR;split<;>simp
theorem zjN:∀ {a b:List Int},a.Nodup->(∀x∈a,x∈b)->a.length<=b.length
 | [],b,_,_=>by simp
 |x::r,b,hn,hs=>by
  have hn':=List.nodup_cons.1 hn;have hx:=hs x (by simp);have h:=zjN (a:=r) (b:=b.erase x) hn'.2 (fun y hy=>by
   have hne:y≠x:=fun e=>hn'.1 (e ▸ hy);exact(List.mem_erase_of_ne hne).2 (hs y (by simp[hy])))
  rw[List.length_erase_of_mem hx] at h;have:=List.length_pos_of_mem hx;simp only[xab];omega
def InR (l:List Vt):Prop:=∀v∈l,0<=v.var/\v.var<=5
theorem zod {l:List Vt} (h:InR l) (hn:zcp l=true):l.length<=6:=by
 unfold zcp at hn;have h1:=of_decide_eq_true hn;have h2:∀x∈l.map Vt.var,x∈[(0:Int),1,2,3,4,5]:=fun x hx=>by
  obtain⟨v,hv,rfl⟩:=List.mem_map.1 hx;have:=h v hv;simp only[List.mem_cons,List.not_mem_nil,or_false];omega
 have:=zjN h1 h2;simpa using this
theorem zll {g:Ty->Pat->Int->Option (List Vt)×Int}{or:Bool} (hg:∀t p c l,(g t p c).1=some l->InR l):∀(a:List Ty) (b:List Pat) (i:Nat) (acc:List Vt) (c:Int) (l:List Vt),InR acc->(zbi g or a b i acc c).1=some l->InR l
 | [],b,i,acc,c,l,ha,h=>by simp only[zbi,Option.some.injEq] at h;subst h;exact ha
 |_::_,[],i,acc,c,l,ha,h=>by simp only[zbi,Option.some.injEq] at h;subst h;exact ha
 |x::r,y::s,i,acc,c,l,ha,h=>by
  simp only[zbi] at h;cases hh:(g x y c).1 with
  |none=>rw[hh] at h;cases h
  |some m=>
   rw[hh] at h;simp only at h;split at h
   ·split at h
    ·exact zll hg r s (i+1) acc _ l ha h
    ·cases h
   ·refine zll hg r s (i+1) _ _ l (fun v hv=>?_) h;rcases List.mem_append.1 hv with hv|hv
    ·exact ha v hv
    ·exact hg x y c m hh v hv
theorem zlm (w:List Data):∀(n:Nat) (t:Ty) (p:Pat) (c:Int) (l:List Vt),(zaS w n t p c).1=some l->InR l/\zcp l=true
 |0,t,p,c,l,h=>by simp[zaS] at h
 |n+1,t,p,c,l,h=>by
  unfold zaS at h;split at h
  ·cases h
  ·split at h
   ·rename_i h60 ho;have ho':ownP w t p=true:=by unfold okP at ho;simp only[xad] at ho;exact ho.1
    cases hk:(zbi (zaS w n) (decide (p.op=5)) (zad w t p) p.kids 0 (zaR t p) (c+1)).1 with
    |none=>unfold finV at h;rw[hk] at h;simp only at h;rw[hk] at h;cases h
    |some m=>
     have hi:InR m:=zll (fun t p c l h=>(zlm w n t p c l h).1) _ _ _ _ _ m (fun v hv=>by
      unfold zaR at hv;split at hv
      ·rename_i hop;simp only[List.mem_cons,List.not_mem_nil,or_false] at hv;subst hv;exact zpU ho' hop
      ·simp at hv) hk
     unfold finV at h;rw[hk] at h;simp only at h;split at h
     ·rename_i hn;rw[hk] at h;cases h
      exact⟨hi,hn⟩
     ·cases h
   ·cases h
theorem zt3 (w:List Data) (n:Nat) (t:Ty) (p:Pat) (c:Int) (h:(zaS w n t p c).1.isSome=true):c+1<=(zaS w n t p c).2/\(zaS w n t p c).2<=60:=by
 have h1:=zfS w n t p c;by_cases hw:zbI w n t p c=true
 ·have h2:=h1.2 hw;simp only[zbI,xad,decide_eq_true_eq] at hw;have:=Pat.size_eq p;omega
 ·rw[if_neg hw] at h1;rw[h1.1] at h;cases h
def zdQ (o:Option (List Vt)):List Vt:=o.getD []
theorem zrS {g:Ty->Pat->Int->Option (List Vt)×Int}{or:Bool}{a:List Ty}{b:List Pat}{i:Nat}{acc:List Vt}{c:Int} (ha:i<a.length) (hl:b.length=a.length) (h:(g (nth a i) (nth b i) c).1.isSome=false):
  zbi g or (a.drop i) (b.drop i) i acc c=(none,(g (nth a i) (nth b i) c).2):=by
 rw[zaN ha,zaN (l:=b) (by omega),zbi];cases hh:(g (nth a i) (nth b i) c).1 with
 |none=>rfl
 |some l=>rw[hh] at h;cases h
theorem ztb {g:Ty->Pat->Int->Option (List Vt)×Int}{or:Bool}{a:List Ty}{b:List Pat}{i:Nat}{acc:List Vt}{c:Int} (ha:i<a.length) (hl:b.length=a.length) (h:(g (nth a i) (nth b i) c).1.isSome=true) (ho:or=true/\i=1) (hs:zdT acc (zdQ (g (nth a i) (nth b i) c).1)=false):
  zbi g or (a.drop i) (b.drop i) i acc c=(none,(g (nth a i) (nth b i) c).2):=by
 rw[zaN ha,zaN (l:=b) (by omega),zbi];cases hh:(g (nth a i) (nth b i) c).1 with
 |none=>rfl
 |some l=>rw[hh] at hs;simp only[zdQ,Option.getD_some] at hs;simp only[if_pos ho,hs,Bool.false_eq_true,if_false]
theorem zrR {g:Ty->Pat->Int->Option (List Vt)×Int}{or:Bool}{a:List Ty}{b:List Pat}{i:Nat}{acc:List Vt}{c:Int} (ha:i<a.length) (hl:b.length=a.length) (h:(g (nth a i) (nth b i) c).1.isSome=true) (hs:(or=true/\i=1)->zdT acc (zdQ (g (nth a i) (nth b i) c).1)=true):
  zbi g or (a.drop i) (b.drop i) i acc c=zbi g or (a.drop (i+1)) (b.drop (i+1)) (i+1) (if or=true/\i=1 then acc else acc++zdQ (g (nth a i) (nth b i) c).1) (g (nth a i) (nth b i) c).2:=by
 rw[zaN ha,zaN (l:=b) (by omega),zbi];cases hh:(g (nth a i) (nth b i) c).1 with
 |none=>rw[hh] at h;cases h
 |some l=>
  by_cases ho:or=true/\i=1
  ·have:=hs ho;rw[hh] at this;simp only[zdQ,Option.getD_some] at this;simp only[if_pos ho,this,if_true]
  ·simp only[if_neg ho,zdQ,Option.getD_some]
theorem ztc {g:Ty->Pat->Int->Option (List Vt)×Int}{or:Bool}{a:List Ty}{b:List Pat}{i:Nat}{acc:List Vt}{c:Int} (ha:a.length<=i):zbi g or (a.drop i) (b.drop i) i acc c=(some acc,c):=by
 rw[List.drop_eq_nil_of_le ha,zbi];intro a r b s h;cases h
theorem zhi (w:List Data) (n:Nat) (t:Ty) (p:Pat) (c:Int):InR (zdQ (zaS w n t p c).1)/\(zdQ (zaS w n t p c).1).length<=6:=by
 cases h:(zaS w n t p c).1 with
 |none=>exact⟨fun v hv=>by simp[zdQ] at hv,by simp[zdQ]⟩
 |some l=>
  have:=zlm w n t p c l h;exact⟨this.1,zod this.1 this.2⟩
structure GoodS (w:List Data) (n:Nat) (t:Ty) (p:Pat) (c:Int) (x:Nat×List Vt×Int):Prop where
 le:x.1<=p.kids.length
 eq:zbi (zaS w n) (decide (p.op=5)) ((zad w t p).drop x.1) (p.kids.drop x.1) x.1 x.2.1 x.2.2=zbi (zaS w n) (decide (p.op=5)) (zad w t p) p.kids 0 (zaR t p) (c+1)
 lc:(x.1:Int)<=x.2.2
 c0:0<=x.2.2
 c1:x.2.2<=60
 len:x.2.1.length<=1+6*x.1
 inr:InR x.2.1
def zck (w:List Data) (n:Nat) (t:Ty) (p:Pat) (x:Nat×List Vt×Int):Nat×List Vt×Int:=
 (x.1+1,if decide (p.op=5)=true/\x.1=1 then x.2.1 else x.2.1++zdQ (zaS w n (nth (zad w t p) x.1) (nth p.kids x.1) x.2.2).1,(zaS w n (nth (zad w t p) x.1) (nth p.kids x.1) x.2.2).2)
theorem GoodS.next {w:List Data}{n:Nat}{t:Ty}{p:Pat}{c:Int}{x:Nat×List Vt×Int} (hl:p.kids.length=(zad w t p).length) (hg:GoodS w n t p c x) (hlt:x.1<p.kids.length)
  (hz:(zaS w n (nth (zad w t p) x.1) (nth p.kids x.1) x.2.2).1.isSome=true) (hs:(decide (p.op=5)=true/\x.1=1)->zdT x.2.1 (zdQ (zaS w n (nth (zad w t p) x.1) (nth p.kids x.1) x.2.2).1)=true):
  GoodS w n t p c (zck w n t p x):=by
 obtain⟨h1,h2,h3,h4,h5,h6,h7⟩:=hg;have hb:=zt3 w n _ _ _ hz;have ho:=zhi w n (nth (zad w t p) x.1) (nth p.kids x.1) x.2.2;refine⟨by unfold zck;dsimp only;omega, ?_,by unfold zck;dsimp only;omega,by unfold zck;dsimp only;omega,by unfold zck;dsimp only;omega, ?_, ?_⟩
 ·rw[<-h2,zrR (by omega) hl hz hs];rfl
 ·unfold zck;dsimp only;split
  ·omega
  ·rw[xaa];omega
 ·unfold zck;dsimp only;split
  ·exact h7
  ·intro v hv;rcases List.mem_append.1 hv with hv|hv
   ·exact h7 v hv
   ·exact ho.1 v hv
theorem GoodS.none {w:List Data}{n:Nat}{t:Ty}{p:Pat}{c:Int}{x:Nat×List Vt×Int} (hl:p.kids.length=(zad w t p).length) (hg:GoodS w n t p c x) (hlt:x.1<p.kids.length)
  (hz:(zaS w n (nth (zad w t p) x.1) (nth p.kids x.1) x.2.2).1.isSome=false):
  finV (zbi (zaS w n) (decide (p.op=5)) (zad w t p) p.kids 0 (zaR t p) (c+1))=(none,(zaS w n (nth (zad w t p) x.1) (nth p.kids x.1) x.2.2).2):=by
 rw[<-hg.eq,zrS (by omega) hl hz];rfl
theorem GoodS.bad {w:List Data}{n:Nat}{t:Ty}{p:Pat}{c:Int}{x:Nat×List Vt×Int} (hl:p.kids.length=(zad w t p).length) (hg:GoodS w n t p c x) (hlt:x.1<p.kids.length)
  (hz:(zaS w n (nth (zad w t p) x.1) (nth p.kids x.1) x.2.2).1.isSome=true) (ho:p.op=5/\x.1=1) (hs:zdT x.2.1 (zdQ (zaS w n (nth (zad w t p) x.1) (nth p.kids x.1) x.2.2).1)=false):
  finV (zbi (zaS w n) (decide (p.op=5)) (zad w t p) p.kids 0 (zaR t p) (c+1))=(Option.none,(zaS w n (nth (zad w t p) x.1) (nth p.kids x.1) x.2.2).2):=by
 rw[<-hg.eq,ztb (by omega) hl hz (by simpa using ho) hs];rfl
theorem GoodS.fin {w:List Data}{n:Nat}{t:Ty}{p:Pat}{c:Int}{x:Nat×List Vt×Int} (hl:p.kids.length=(zad w t p).length) (hg:GoodS w n t p c x) (hge:p.kids.length<=x.1):
  finV (zbi (zaS w n) (decide (p.op=5)) (zad w t p) p.kids 0 (zaR t p) (c+1))=(if zcp x.2.1=true then some x.2.1 else Option.none,x.2.2):=by
 rw[<-hg.eq,ztc (by omega)];unfold finV;simp only;split<;>rfl
theorem zsW {pre rest l:List Vt}{y:Vt} (h:pre++y::rest=l) (hm:y.var∈pre.map Vt.var):zcp l=false:=by
 unfold zcp;refine decide_eq_false (fun hn=>?_);rw[<-h,xaf,xae,List.nodup_append] at hn;exact hn.2.2 _ hm _ (by simp) rfl
theorem zml {pre:List Vt}{y:Vt} (h:(pre.map Vt.var).Nodup) (hm:y.var∉pre.map Vt.var):((pre++[y]).map Vt.var).Nodup:=by
 rw[xaf,List.nodup_append];exact⟨h,by simp,fun a ha b hb=>by simp at hb;subst hb;exact fun e=>hm (e ▸ ha)⟩
def retV (r:Option (List Vt)×Int):AV:= .tup [.d (zdv (zdQ r.1)),.d (.bool r.1.isSome)]
theorem zdW {w:List Data} (hw:WT w):∀(n:Nat){a k d c:Int}{p:Pat},d+n=11->n<=10->TyIn w.length ⟨a,k⟩->p.ok->0<=c->c<=1000000000000->
  FnD Tryz.prog 183 [.d (zan w),.agg [.d (.i a),.d (.i k)],.agg [.d (.i p.op),.d (.i p.ctor),.d (.i p.n),.d (.i p.m),.d (.i p.var),.d (zaj p.kids)],.d (.i d),.ref 950 0] [(950,some (.box [.d (.i c)]))]
   (retV (zaS w n ⟨a,k⟩ p c)) [(950,some (.box [.d (.i (zaS w n ⟨a,k⟩ p c).2)]))]
 |0,a,k,d,c,p,hd,_,_,_,c0,c1=>by
  refine bd Tryz.f183 114 [] [2] fun w0 F0 own kept hk=>?_;refine bx 3006 ?_;refine bx 3007 ?_;refine ev ?_;refine ar ?_;refine so ty3 ?_;refine tv ?_;refine xam ?_;refine xaA 8 [(34,.d (.bool (true)))] [27,28,29,30,31,32,33] ?_ ?_;refine ev ?_;refine sq ?_ ?_<;>intro h1 h1p h1s;exact jnb rfl;exact jnb rfl;refine xaz ?_;refine tv ?_;refine sq ?_ ?_<;>intro h2 h2p h2s;refine rn [(950,some (.box [.d (.i (zaS w 0 ⟨a,k⟩ p c).2)]))] (r2 rfl rfl) (.tup (.cons (.nild ?_) (.cons (.eqd ?_) .nil))) ⟨rfl,rfl⟩ (SubO.get ⟨.inr ?_,⟨.inl rfl,trivial⟩⟩) (zax rfl);rotate_left 3;exact absurd h2 (by simp);all_goals (first|((rfl);done)|(rfl))
 |n+1,a,k,d,c,p,hd,hn,ht,hok,c0,c1=>by
  by_cases h60:60<c+1
  ·have e:zaS w (n+1) ⟨a,k⟩ p c=(none,c+1):=by unfold zaS;rw[if_pos h60]
   rw[e];refine bd Tryz.f183 114 [] [2] fun w0 F0 own kept hk=>?_;refine bx 3006 ?_;refine bx 3007 ?_;refine ev ?_;refine ar ?_;refine so ty3 ?_;refine tv ?_;refine xam ?_;refine xaA 8 [(34,.d (.bool (true)))] [27,28,29,30,31,32,33] ?_ ?_;refine ev ?_;refine sq ?_ ?_<;>intro h1 h1p h1s;exact jnb rfl;exact jnb rfl;refine xaz ?_;refine tv ?_;refine sq ?_ ?_<;>intro h2 h2p h2s;refine rn [(950,some (.box [.d (.i (c+1))]))] (r2 rfl rfl) (.tup (.cons (.nild ?_) (.cons (.eqd ?_) .nil))) ⟨rfl,rfl⟩ (SubO.get ⟨.inr ?_,⟨.inl rfl,trivial⟩⟩) (zax rfl);rotate_left 3;exact absurd h2 (by simp);all_goals (first|((rfl);done)|(rfl))
  have hsh:=zi0 hw (p:=p) ht;by_cases hop:okP w ⟨a,k⟩ p=true
  ·have hok':=hok;rw[Pat.ok_iff] at hok;have hop':=hop;unfold okP at hop';simp only[xad,decide_eq_true_eq] at hop';obtain⟨ho,hl⟩:=hop';have hin:=zhO hw ht ho;have hlen:=zgQ hw ht (zbK ho);have hst:zcA w ⟨a,k⟩ p=zad w ⟨a,k⟩ p:=by unfold zcA;rw[if_neg (fun h=>h.2 (zbK ho h.1))]
   rw[hst,hop] at hsh;have e:zaS w (n+1) ⟨a,k⟩ p c=finV (zbi (zaS w n) (decide (p.op=5)) (zad w ⟨a,k⟩ p) p.kids 0 (zaR ⟨a,k⟩ p) (c+1)):=by
    conv=>lhs;unfold zaS
    rw[if_neg h60,if_pos hop]
   have hnr:InR (zaR ⟨a,k⟩ p):=fun v hv=>by
    unfold zaR at hv;split at hv
    ·rename_i hop;simp only[List.mem_cons,List.not_mem_nil,or_false] at hv;subst hv;exact zpU ho hop
    ·simp at hv
   have hnl:=zsV ⟨a,k⟩ p;rw[e];refine bd Tryz.f183 114 [14,108] [2,8,17] fun w0 F0 own kept hk=>?_;refine bx 3006 ?_;refine bx 3007 ?_;refine evs [14,108] [] ?_;refine ar ?_;refine so ty3 ?_;refine tv ?_;refine xam ?_;refine xaA 8 [(34,.d (.bool (false)))] [27,28,29,30,31,32,33] ?_ ?_;refine evs [14,108] [] ?_;refine sq ?_ ?_<;>intro h1 h1p h1s;exact jnb rfl;exact jnb rfl;refine xaz ?_;refine tv ?_;refine sq ?_ ?_<;>intro h2 h2p h2s;exact absurd h2 (by simp);refine wc zpd (hsh) rfl rfl ?_;refine evs [14,108] [] ?_;refine sq ?_ ?_<;>intro h3 h3p h3s;exact absurd h3 (by simp);refine xaF 5 3 .none rfl rfl ?_;refine tv ?_;refine xam ?_;refine xaA 8 [(51,.d (.bool (decide (p.op=2\/p.op=6))))] [44,45,46,47,48,49,50] ?_ ?_;refine evs [14,108] [] ?_;refine sq ?_ ?_<;>intro h4 h4p h4s;exact jnb rfl;exact jnb rfl;refine xaz ?_;refine tv ?_;refine sq ?_ ?_<;>intro h5 h5p h5s;refine bu [0,1] [_,_] zuQ ?_;refine si [0] [_] zdP zoZ ?_;refine ap zdP zo2 rfl rfl rfl (by simp) (by(simp;done)) ?_;refine asg ?_;refine tv ?_;refine xak (ι:=Nat×List Vt×Int) hk (fun z=>[(62,.d (.i (z.1:Int))),(14,.gl 5 (z.2.1.map Vt.c))]) [10,11,15,16,17,18,63,64,65,66,67,68,69,70,71,72,73,74,75,76,77,78,79,80,81,82,83,84,85,86,87,88,89,90,91,92,93,94,95,96,97,98] (fun z=>[(950,some (.box [.d (.i z.2.2)])),(5,some (.tok ((z.2.1.map Vt.c)).length 3))]) (fun z=>GoodS w n ⟨a,k⟩ p c z) (fun z=>p.kids.length-z.1) (0,zaR ⟨a,k⟩ p,c+1) ⟨by simp,by simp,by dsimp only;omega,by dsimp only;omega,by dsimp only;omega,by dsimp only;omega,hnr⟩ ⟨⟨_,rfl,xar ?_⟩,⟨⟨_,rfl,LeA.glg ?_⟩,trivial⟩⟩ ⟨?_,⟨zaa ?_,trivial⟩⟩ (fun x=>rfl) (fun z hg1=>?_);iterate 2 focus (first|rfl|(simp_all[zaR];done))
   focus (first|rfl|(simp[getH];done))
   focus (first|rfl|(simp_all[zaR];done))
   obtain⟨s1,_,s3,s4,s5,s6,s7⟩:=id hg1;refine evc [14,108] [2,8,17] ?_;refine sq ?_ ?_<;>intro h6 h6p h6s<;>(try simp only[Q,Pat.cs_len] at h6p);refine xaU sl26 .none rfl rfl rfl rfl (zaH (by omega)) rfl ?_;refine evs [14,108] [] ?_;refine ab 3016 tz28 ?_;refine evs [14,108] [] ?_;refine so ty28 ?_;refine tv ?_;refine xaU zaT .none rfl rfl rfl rfl (zat (by omega)) rfl ?_;refine evd [14,108] [] ?_;refine ar ?_;refine wc zpe (zdW hw n (a:=(nth (zad w ⟨a,k⟩ p) z.1).data) (k:=(nth (zad w ⟨a,k⟩ p) z.1).index) (c:=z.2.2) (p:=nth p.kids z.1) (by omega) (by omega) (hin _ (zah (by omega))) (Pats.ok_mem hok.2 _ (zah (by omega))) (by omega) (by omega)) rfl rfl ?_;refine evd [14,108] [] ?_;refine dr ?_;refine sq ?_ ?_<;>intro h7 h7p h7s;refine rn [(950,some (.box [.d (.i (finV (zbi (zaS w n) (decide (p.op=5)) (zad w ⟨a,k⟩ p) p.kids 0 (zaR ⟨a,k⟩ p) (c+1))).2)]))] (r2 rfl rfl) (.tup (.cons (.nild ?_) (.cons (.eqd ?_) .nil))) ⟨rfl,rfl⟩ (SubO.get ⟨.inr ?_,⟨.inl rfl,trivial⟩⟩) (zax rfl);rotate_left 3;refine xam ?_;refine xaA 7 [(93,.d (.bool (decide (p.op=5/\z.1=1))))] [87,88,89,90,91,92] ?_ ?_;refine evs [14,108] [] ?_;refine sq ?_ ?_<;>intro h8 h8p h8s;exact jnb rfl;exact jnb rfl;refine xaz ?_;refine evs [14,108] [] ?_;refine sq ?_ ?_<;>intro h9 h9p h9s<;>(try simp only[Q,Pat.cs_len] at h9p);refine Walk.call (cr:=[]) zsq (zhb (by omega) (by have hz:=(zhi w n ⟨(nth (zad w ⟨a,k⟩ p) z.1).data,(nth (zad w ⟨a,k⟩ p) z.1).index⟩ (nth p.kids z.1) z.2.2).2;omega)) rfl .none rfl rfl (.cons (.gl _ _) (.cons (.refl _) .nil)) trivial rfl rfl rfl ?_;refine evs [14,108] [] ?_;refine sq ?_ ?_<;>intro h10 h10p h10s<;>(try simp only[Q,Pat.cs_len] at h10p);refine rn [(950,some (.box [.d (.i (finV (zbi (zaS w n) (decide (p.op=5)) (zad w ⟨a,k⟩ p) p.kids 0 (zaR ⟨a,k⟩ p) (c+1))).2)]))] (r2 rfl rfl) (.tup (.cons (.nild ?_) (.cons (.eqd ?_) .nil))) ⟨rfl,rfl⟩ (SubO.get ⟨.inr ?_,⟨.inl rfl,trivial⟩⟩) (zax rfl);rotate_left 3;refine ar ?_;refine xah ((zck w n ⟨a,k⟩ p z)) ⟨(hg1.next hl (by omega) (by simp_all) (fun ho=>by simp_all)),(by unfold zck;dsimp only;omega),sx ⟨⟨_,rfl,xar ?_⟩,⟨⟨_,rfl,LeA.glg ?_⟩,trivial⟩⟩ ⟨?_,⟨zaa ?_,trivial⟩⟩⟩;iterate 2 focus (first|rfl|(simp_all[zaR];done))
   focus (first|rfl|(simp[getH];done))
   focus (first|rfl|(simp_all[zaR];done))
   refine ap zdP zo2 rfl rfl rfl (by simp) (by first|(simp;done)|(have hz:=(zhi w n ⟨(nth (zad w ⟨a,k⟩ p) z.1).data,(nth (zad w ⟨a,k⟩ p) z.1).index⟩ (nth p.kids z.1) z.2.2).2;simp;omega)) ?_;refine asg ?_;refine tv ?_;refine ar ?_;refine xah ((zck w n ⟨a,k⟩ p z)) ⟨(hg1.next hl (by omega) (by simp_all) (fun ho=>by simp_all)),(by unfold zck;dsimp only;omega),sx ⟨⟨_,rfl,xar ?_⟩,⟨⟨_,rfl,LeA.glg ?_⟩,trivial⟩⟩ ⟨?_,⟨zaa ?_,trivial⟩⟩⟩;iterate 2 focus (first|rfl|(simp_all[zaR];done)|(unfold zck;dsimp only;rw[if_neg (by simp_all)];simp;done))
   focus (first|rfl|(simp[getH];done))
   focus (first|rfl|(simp_all[zaR];done)|(unfold zck;dsimp only;rw[if_neg (by simp_all)];simp;done))
   refine ab 3019 zuT ?_;refine tv ?_;refine xak (ι:=List (Vt)×List (Vt)) hk (fun x=>[(101,.d (.i (x.1.length:Int)))]) [10,11,21,102,103,104,105,106,107,108,109,110,111,112] (fun x=>[(3019,some (.box (metA (x.1.map Vt.var))))]) (fun x=>x.1++x.2=z.2.1/\(x.1.map Vt.var).Nodup) (fun x=>x.2.length) ([],z.2.1) ⟨by simp,by simp⟩ ⟨⟨_,rfl,xar ?_⟩,trivial⟩ ⟨?_,trivial⟩ (fun x=>rfl) (fun x hg2=>?_);focus (first|rfl|omega)
   focus (first|rfl|(simp[getH];done))
   obtain⟨pre,rest⟩:=x;dsimp only at hg2 ⊢;refine evc [14,108] [2,8,17] ?_;refine sq ?_ ?_<;>intro h11 h11p h11s<;>(try simp only[Q,Pat.cs_len] at h11p);rcases rest with _|⟨y,rest⟩
   ·exfalso;simp_all
   have hy:=s7 y (by rw[<-hg2.1];simp);refine xaX zdP .none rfl rfl rfl rfl (zaE hg2.1) rfl ?_;refine evs [14,108] [] ?_;refine ab 3021 zoZ ?_;refine so zuS ?_;refine tv ?_;refine xaV (i:=y.var.toNat) zoK .none rfl rfl rfl (Int.toNat_of_nonneg hy.1).symm (by omega) ?_;refine xa0 ty4 .none rfl rfl rfl ((by simpa using zpP hy.1 hy.2)) ?_;refine tv ?_;refine sq ?_ ?_<;>intro h12 h12p h12s<;>(try simp only[Q,Pat.cs_len] at h12p);refine rn [(950,some (.box [.d (.i (finV (zbi (zaS w n) (decide (p.op=5)) (zad w ⟨a,k⟩ p) p.kids 0 (zaR ⟨a,k⟩ p) (c+1))).2)]))] (r2 rfl rfl) (.tup (.cons (.nild ?_) (.cons (.eqd ?_) .nil))) ⟨rfl,rfl⟩ (SubO.get ⟨.inr ?_,⟨.inl rfl,trivial⟩⟩) (zax rfl);rotate_left 3;refine xaV (i:=y.var.toNat) zoK .none rfl rfl rfl (Int.toNat_of_nonneg hy.1).symm (by omega) ?_;refine Walk.store ty4 .none rfl rfl rfl rfl rfl rfl (by simp) ((by simpa using zpQ hy.1 hy.2)) ?_;refine tv ?_;refine ar ?_;refine xah ((pre++[y],rest)) ⟨⟨(by have hz:=hg2.1;rw[<-hz];simp),(zml hg2.2 (by simp_all))⟩,(by simp),sx ⟨⟨_,rfl,xar ?_⟩,trivial⟩ ⟨?_,trivial⟩⟩;focus (first|rfl|(simp;done)|omega)
   focus (first|rfl|(simp[getH];done))
   have hrest:rest=[]:=by
    rcases rest with _|⟨a,b⟩
    ·rfl
    ·exfalso;have hz:=congrArg List.length (hg2.1);simp only[xaa,xab,xac] at hz;omega
   subst hrest;refine rn [(950,some (.box [.d (.i (finV (zbi (zaS w n) (decide (p.op=5)) (zad w ⟨a,k⟩ p) p.kids 0 (zaR ⟨a,k⟩ p) (c+1))).2)]))] (r2 rfl rfl) (.tup (.cons (.gld ?_) (.cons (.eqd ?_) .nil))) ⟨rfl,rfl⟩ (SubO.get ⟨.inr ?_,⟨.inl rfl,trivial⟩⟩) (zax rfl);rotate_left 3;try simp only[Q,Pat.cs_len] at h5p
   refine xak (ι:=Nat×List Vt×Int) hk (fun z=>[(62,.d (.i (z.1:Int))),(14,.gl 5 (z.2.1.map Vt.c))]) [10,11,15,16,17,18,63,64,65,66,67,68,69,70,71,72,73,74,75,76,77,78,79,80,81,82,83,84,85,86,87,88,89,90,91,92,93,94,95,96,97,98] (fun z=>[(950,some (.box [.d (.i z.2.2)])),(5,some (.tok ((z.2.1.map Vt.c)).length 3))]) (fun z=>GoodS w n ⟨a,k⟩ p c z) (fun z=>p.kids.length-z.1) (0,zaR ⟨a,k⟩ p,c+1) ⟨by simp,by simp,by dsimp only;omega,by dsimp only;omega,by dsimp only;omega,by dsimp only;omega,hnr⟩ ⟨⟨_,rfl,xar ?_⟩,⟨⟨_,rfl,LeA.glg ?_⟩,trivial⟩⟩ ⟨?_,⟨zaa ?_,trivial⟩⟩ (fun x=>rfl) (fun z hg1=>?_);iterate 2 focus (first|rfl|(simp_all[zaR];done))
   focus (first|rfl|(simp[getH];done))
   focus (first|rfl|(simp_all[zaR];done))
   obtain⟨s1,_,s3,s4,s5,s6,s7⟩:=id hg1;refine evc [14,108] [2,8,17] ?_;refine sq ?_ ?_<;>intro h13 h13p h13s<;>(try simp only[Q,Pat.cs_len] at h13p);refine xaU sl26 .none rfl rfl rfl rfl (zaH (by omega)) rfl ?_;refine evs [14,108] [] ?_;refine ab 3016 tz28 ?_;refine evs [14,108] [] ?_;refine so ty28 ?_;refine tv ?_;refine xaU zaT .none rfl rfl rfl rfl (zat (by omega)) rfl ?_;refine evd [14,108] [] ?_;refine ar ?_;refine wc zpe (zdW hw n (a:=(nth (zad w ⟨a,k⟩ p) z.1).data) (k:=(nth (zad w ⟨a,k⟩ p) z.1).index) (c:=z.2.2) (p:=nth p.kids z.1) (by omega) (by omega) (hin _ (zah (by omega))) (Pats.ok_mem hok.2 _ (zah (by omega))) (by omega) (by omega)) rfl rfl ?_;refine evd [14,108] [] ?_;refine dr ?_;refine sq ?_ ?_<;>intro h14 h14p h14s<;>(try simp only[Q,Pat.cs_len] at h14p);refine rn [(950,some (.box [.d (.i (finV (zbi (zaS w n) (decide (p.op=5)) (zad w ⟨a,k⟩ p) p.kids 0 (zaR ⟨a,k⟩ p) (c+1))).2)]))] (r2 rfl rfl) (.tup (.cons (.nild ?_) (.cons (.eqd ?_) .nil))) ⟨rfl,rfl⟩ (SubO.get ⟨.inr ?_,⟨.inl rfl,trivial⟩⟩) (zax rfl);rotate_left 3;refine xam ?_;refine xaA 7 [(93,.d (.bool (decide (p.op=5/\z.1=1))))] [87,88,89,90,91,92] ?_ ?_;refine evs [14,108] [] ?_;refine sq ?_ ?_<;>intro h15 h15p h15s<;>(try simp only[Q,Pat.cs_len] at h15p);exact jnb rfl;exact jnb rfl;refine xaz ?_;refine evs [14,108] [] ?_;refine sq ?_ ?_<;>intro h16 h16p h16s<;>(try simp only[Q,Pat.cs_len] at h16p);refine Walk.call (cr:=[]) zsq (zhb (by omega) (by have hz:=(zhi w n ⟨(nth (zad w ⟨a,k⟩ p) z.1).data,(nth (zad w ⟨a,k⟩ p) z.1).index⟩ (nth p.kids z.1) z.2.2).2;omega)) rfl .none rfl rfl (.cons (.gl _ _) (.cons (.refl _) .nil)) trivial rfl rfl rfl ?_;refine evs [14,108] [] ?_;refine sq ?_ ?_<;>intro h17 h17p h17s<;>(try simp only[Q,Pat.cs_len] at h17p);refine rn [(950,some (.box [.d (.i (finV (zbi (zaS w n) (decide (p.op=5)) (zad w ⟨a,k⟩ p) p.kids 0 (zaR ⟨a,k⟩ p) (c+1))).2)]))] (r2 rfl rfl) (.tup (.cons (.nild ?_) (.cons (.eqd ?_) .nil))) ⟨rfl,rfl⟩ (SubO.get ⟨.inr ?_,⟨.inl rfl,trivial⟩⟩) (zax rfl);rotate_left 3;refine ar ?_;refine xah ((zck w n ⟨a,k⟩ p z)) ⟨(hg1.next hl (by omega) (by simp_all) (fun ho=>by simp_all)),(by unfold zck;dsimp only;omega),sx ⟨⟨_,rfl,xar ?_⟩,⟨⟨_,rfl,LeA.glg ?_⟩,trivial⟩⟩ ⟨?_,⟨zaa ?_,trivial⟩⟩⟩;iterate 2 focus (first|rfl|(simp_all[zaR];done)|(unfold zck;dsimp only;rw[if_pos (by simp_all)];done))
   focus (first|rfl|(simp[getH];done))
   focus (first|rfl|(simp_all[zaR];done)|(unfold zck;dsimp only;rw[if_pos (by simp_all)];done))
   refine ap zdP zo2 rfl rfl rfl (by simp) (by first|(simp;done)|(have hz:=(zhi w n ⟨(nth (zad w ⟨a,k⟩ p) z.1).data,(nth (zad w ⟨a,k⟩ p) z.1).index⟩ (nth p.kids z.1) z.2.2).2;simp;omega)) ?_;refine asg ?_;refine tv ?_;refine ar ?_;refine xah ((zck w n ⟨a,k⟩ p z)) ⟨(hg1.next hl (by omega) (by simp_all) (fun ho=>by simp_all)),(by unfold zck;dsimp only;omega),sx ⟨⟨_,rfl,xar ?_⟩,⟨⟨_,rfl,LeA.glg ?_⟩,trivial⟩⟩ ⟨?_,⟨zaa ?_,trivial⟩⟩⟩;iterate 2 focus (first|rfl|(simp_all[zaR];done)|(unfold zck;dsimp only;rw[if_neg (by simp_all)];simp;done))
   focus (first|rfl|(simp[getH];done))
   focus (first|rfl|(simp_all[zaR];done)|(unfold zck;dsimp only;rw[if_neg (by simp_all)];simp;done))
   refine ab 3019 zuT ?_;refine tv ?_;refine xak (ι:=List (Vt)×List (Vt)) hk (fun x=>[(101,.d (.i (x.1.length:Int)))]) [10,11,21,102,103,104,105,106,107,108,109,110,111,112] (fun x=>[(3019,some (.box (metA (x.1.map Vt.var))))]) (fun x=>x.1++x.2=z.2.1/\(x.1.map Vt.var).Nodup) (fun x=>x.2.length) ([],z.2.1) ⟨by simp,by simp⟩ ⟨⟨_,rfl,xar ?_⟩,trivial⟩ ⟨?_,trivial⟩ (fun x=>rfl) (fun x hg2=>?_);focus (first|rfl|omega)
   focus (first|rfl|(simp[getH];done))
   obtain⟨pre,rest⟩:=x;dsimp only at hg2 ⊢;refine evc [14,108] [2,8,17] ?_;refine sq ?_ ?_<;>intro h18 h18p h18s<;>(try simp only[Q,Pat.cs_len] at h18p);rcases rest with _|⟨y,rest⟩
   ·exfalso;simp_all
   have hy:=s7 y (by rw[<-hg2.1];simp);refine xaX zdP .none rfl rfl rfl rfl (zaE hg2.1) rfl ?_;refine evs [14,108] [] ?_;refine ab 3021 zoZ ?_;refine so zuS ?_;refine tv ?_;refine xaV (i:=y.var.toNat) zoK .none rfl rfl rfl (Int.toNat_of_nonneg hy.1).symm (by omega) ?_;refine xa0 ty4 .none rfl rfl rfl ((by simpa using zpP hy.1 hy.2)) ?_;refine tv ?_;refine sq ?_ ?_<;>intro h19 h19p h19s<;>(try simp only[Q,Pat.cs_len] at h19p);refine rn [(950,some (.box [.d (.i (finV (zbi (zaS w n) (decide (p.op=5)) (zad w ⟨a,k⟩ p) p.kids 0 (zaR ⟨a,k⟩ p) (c+1))).2)]))] (r2 rfl rfl) (.tup (.cons (.nild ?_) (.cons (.eqd ?_) .nil))) ⟨rfl,rfl⟩ (SubO.get ⟨.inr ?_,⟨.inl rfl,trivial⟩⟩) (zax rfl);rotate_left 3;refine xaV (i:=y.var.toNat) zoK .none rfl rfl rfl (Int.toNat_of_nonneg hy.1).symm (by omega) ?_;refine Walk.store ty4 .none rfl rfl rfl rfl rfl rfl (by simp) ((by simpa using zpQ hy.1 hy.2)) ?_;refine tv ?_;refine ar ?_;refine xah ((pre++[y],rest)) ⟨⟨(by have hz:=hg2.1;rw[<-hz];simp),(zml hg2.2 (by simp_all))⟩,(by simp),sx ⟨⟨_,rfl,xar ?_⟩,trivial⟩ ⟨?_,trivial⟩⟩;focus (first|rfl|(simp;done)|omega)
   focus (first|rfl|(simp[getH];done))
   have hrest:rest=[]:=by
    rcases rest with _|⟨a,b⟩
    ·rfl
    ·exfalso;have hz:=congrArg List.length (hg2.1);simp only[xaa,xab,xac] at hz;omega
   subst hrest;refine rn [(950,some (.box [.d (.i (finV (zbi (zaS w n) (decide (p.op=5)) (zad w ⟨a,k⟩ p) p.kids 0 (zaR ⟨a,k⟩ p) (c+1))).2)]))] (r2 rfl rfl) (.tup (.cons (.gld ?_) (.cons (.eqd ?_) .nil))) ⟨rfl,rfl⟩ (SubO.get ⟨.inr ?_,⟨.inl rfl,trivial⟩⟩) (zax rfl);rotate_left 3;all_goals (((first|(rw[hg1.none hl (by omega) (by assumption)];first|done|rfl)|(rw[hg1.bad hl (by omega) (by assumption) (by assumption) (by assumption)];first|done|rfl)|(rw[hg1.fin hl (by omega),if_neg (by rw[zsW hg2.1 (by assumption)];simp)];first|done|rfl)|(rw[hg1.fin hl (by omega),if_pos (by have hz:=hg2.1;rw[List.append_nil] at hz;rw[<-hz];exact decide_eq_true hg2.2)];first|done|rfl));done))
  ·have hopf:okP w ⟨a,k⟩ p=false:=by simpa using hop
   have e:zaS w (n+1) ⟨a,k⟩ p c=(none,c+1):=by unfold zaS;rw[if_neg h60,if_neg hop]
   rw[e];rw[hopf] at hsh;refine bd Tryz.f183 114 [] [2] fun w0 F0 own kept hk=>?_;refine bx 3006 ?_;refine bx 3007 ?_;refine ev ?_;refine ar ?_;refine so ty3 ?_;refine tv ?_;refine xam ?_;refine xaA 8 [(34,.d (.bool (false)))] [27,28,29,30,31,32,33] ?_ ?_;refine ev ?_;refine sq ?_ ?_<;>intro h1 h1p h1s;exact jnb rfl;exact jnb rfl;refine xaz ?_;refine tv ?_;refine sq ?_ ?_<;>intro h2 h2p h2s;exact absurd h2 (by simp);refine wc zpd (hsh) rfl rfl ?_;refine ev ?_;refine sq ?_ ?_<;>intro h3 h3p h3s;refine rn [(950,some (.box [.d (.i (c+1))]))] (r2 rfl rfl) (.tup (.cons (.nild ?_) (.cons (.eqd ?_) .nil))) ⟨rfl,rfl⟩ (SubO.get ⟨.inr ?_,⟨.inl rfl,trivial⟩⟩) (zax rfl);rotate_left 3;exact absurd h3 (by simp);all_goals (first|((rfl);done)|(rfl))
end Go.Proofs.YtpgdedpljcedpaaGreat
namespace Go.Proofs.YtpgdedpljcedpaaGreat
open Go
set_option linter.unusedSimpArgs false
set_option linter.unusedVariables false
set_option maxRecDepth 100000
set_option maxHeartbeats 2000000
abbrev dPtr (f:Nat->Nat):D:= .ptr (tabD 16 f) 0
abbrev sPtr (w:List Data) (f:Nat->Nat):D:= .ptr [zan w,dPtr f] 0
theorem zkQ {n:Nat}{f:Nat->Nat}{a k:Int} (h:InS n ⟨a,k⟩) (hn:n<=16):
  FnD Tryz.prog 128 [.ref 71 0,.agg [.d (.i a),.d (.i k)]] [(71,some (.box (tabC 16 f)))] (.d (.i (dv f ⟨a,k⟩))) []:=by
 have hs:=h.facts;refine bd Tryz.f128 17 [16] [] fun w0 F0 own kept hk=>?_;refine Walk.box (id:=3003) .none rfl rfl rfl (by first|rfl|(simp only[zaw,occH,occE,Res.ids,xag,List.nil_append,AV.idsL,AV.ids,zag,zaf,zaq,zaF,xae,List.map_nil,upC,zaA];rfl)) (by first|rfl|(simp only[zaw,occH,occE,Res.ids,xag,List.nil_append,AV.idsL,AV.ids,zag,zaf,zaq,zaF,xae,List.map_nil,upC,zaA];rfl)) (by first|rfl|(simp only[zaw,occH,occE,Res.ids,xag,List.nil_append,AV.idsL,AV.ids,zag,zaf,zaq,zaF,xae,List.map_nil,upC,zaA];rfl)) (by first|rfl|(simp only[zaw,occH,occE,Res.ids,xag,List.nil_append,AV.idsL,AV.ids,zag,zaf,zaq,zaF,xae,List.map_nil,upC,zaA];rfl)) ?_;refine evs [16] [] ?_;refine sq ?_ ?_<;>intro h1 h1p h1s<;>(try simp only[Q] at h1p);refine rn [] (r1 rfl) (.eqd ?_) ⟨rfl,rfl⟩ (SubH.get ⟨rfl,trivial⟩) (fun _ h=>h);rotate_left;refine xaV (i:=a.toNat) zoJ .none rfl rfl rfl (by have:=hs h1p;omega) (by have:=hs h1p;omega) ?_;refine xaV (i:=k.toNat) zrk .none rfl rfl rfl (by have:=hs h1p;omega) (by have:=hs h1p;omega) ?_;refine xa0 ty3 .none rfl rfl rfl ((zkx (s:=zcm ⟨a,k⟩) (by have:=hs h1p;omega) (by have:=hs h1p;omega))) ?_;refine evd [16] [] ?_;refine dr ?_;refine rn [] (r1 rfl) (.eqd ?_) ⟨rfl,rfl⟩ (SubH.get ⟨rfl,trivial⟩) (fun _ h=>h);rotate_left;all_goals (first|(rw[zlU (by assumption)];rfl)|(rw[zlT (by assumption)]))
theorem zl6 {n:Nat}{f:Nat->Nat}{a k:Int} (h:InS n ⟨a,k⟩) (hn:n<=16):
  FnD Tryz.prog 128 [.d (dPtr f),.agg [.d (.i a),.d (.i k)]] [] (.d (.i (dv f ⟨a,k⟩))) []:=by
 have hs:=h.facts;refine bd Tryz.f128 17 [16] [] fun w0 F0 own kept hk=>?_;refine bx 3003 ?_;refine evs [16] [] ?_;refine sq ?_ ?_<;>intro h1 h1p h1s<;>(try simp only[Q] at h1p);refine rq ?_;rotate_left;refine xaW (i:=a.toNat) zoJ .none rfl rfl rfl (by have:=hs h1p;omega) (by have:=hs h1p;omega) ?_;refine xaW (i:=k.toNat) zrk .none rfl rfl rfl (by have:=hs h1p;omega) (by have:=hs h1p;omega) ?_;refine xa2 ty3 .none rfl rfl (zuc (s:=zcm ⟨a,k⟩) (by have:=hs h1p;omega) (by have:=hs h1p;omega)) ?_;refine evd [16] [] ?_;refine dr ?_;refine rq ?_;rotate_left;all_goals (first|(rw[zlU (by assumption)];rfl)|(rw[zlT (by assumption)]))
theorem zl5 {w:List Data} (hw:WT w){n:Nat}{f:Nat->Nat}{a k c:Int} (ht:TyIn w.length ⟨a,k⟩) (hc:c∈zap w ⟨a,k⟩) (hn:n<=16) (hb:∀s,f s<=100000) (hin:∀u∈zab w ⟨a,k⟩ c,InS n u):
  FnD Tryz.prog 145 [.ref 71 0,.d (zan w),.agg [.d (.i a),.d (.i k)],.d (.i c)] [(71,some (.box (tabC 16 f)))] (.d (.i (most w f ⟨a,k⟩ c))) []:=by
 have hl:=zg0 hw ht hc;have hd:=zoP hb (by omega);refine bd Tryz.f145 33 [] [] fun w0 F0 own kept hk=>?_;refine Walk.box (id:=3006) .none rfl rfl rfl (by first|rfl|(simp only[zaw,occH,occE,Res.ids,xag,List.nil_append,AV.idsL,AV.ids,zag,zaf,zaq,zaF,xae,List.map_nil,upC,zaA];rfl)) (by first|rfl|(simp only[zaw,occH,occE,Res.ids,xag,List.nil_append,AV.idsL,AV.ids,zag,zaf,zaq,zaF,xae,List.map_nil,upC,zaA];rfl)) (by first|rfl|(simp only[zaw,occH,occE,Res.ids,xag,List.nil_append,AV.idsL,AV.ids,zag,zaf,zaq,zaF,xae,List.map_nil,upC,zaA];rfl)) (by first|rfl|(simp only[zaw,occH,occE,Res.ids,xag,List.nil_append,AV.idsL,AV.ids,zag,zaf,zaq,zaF,xae,List.map_nil,upC,zaA];rfl)) ?_;refine ev ?_;refine Walk.call (cr:=[]) zff (zc4 hw ht hc) rfl .none rfl rfl (LeL.refl _) trivial rfl (by first|rfl|(simp only[za2,List.all_cons,List.all_nil,zbQ,zbz,AV.idsL,AV.ids,zag,zaf,xae,List.map_nil,zaA];rfl)) (by first|rfl|(simp only[zaw,occH,occE,Res.ids,xag,List.nil_append,AV.idsL,AV.ids,zag,zaf,zaq,zaF,xae,List.map_nil,upC,zaA];rfl)) ?_;refine ev ?_;refine xak (ι:=List (Ty)×List (Ty)×(Nat)) hk (fun x=>[(18,.d (.i (x.1.length:Int))),(9,.d (.i (x.2.2:Int)))]) [8,11,12,19,20,21,22,23,24,25,26,27,28,29,30] (fun x=>[]) (fun x=>x.1++x.2.1=zab w ⟨a,k⟩ c/\x.2.2<=100000/\zbq f x.2.2 x.2.1=zbq f 0 (zab w ⟨a,k⟩ c)) (fun x=>x.2.1.length) ([],zab w ⟨a,k⟩ c,0) ⟨by simp,by simp,rfl⟩ ⟨⟨_,rfl,xar ?_⟩,⟨⟨_,rfl,xar ?_⟩,trivial⟩⟩ trivial (fun x=>rfl) (fun x hg1=>?_);iterate 2 focus (first|rfl|(simp;done))
 obtain⟨pre,rest,m⟩:=x;dsimp only at hg1 ⊢;refine evc [] [] ?_;refine sq ?_ ?_<;>intro h1 h1p h1s<;>(try simp only[Q] at h1p);rcases rest with _|⟨y,rest⟩
 ·exfalso;simp_all
 have hdy:=hd y;have hye:dv f ⟨y.data,y.index⟩=dv f y:=rfl;refine xaU zaT .none rfl rfl rfl rfl (zaE hg1.1) rfl ?_;refine ev ?_;refine Walk.alloc (id:=3011) tz25 rfl .none rfl (by first|rfl|(simp only[zaw,occH,occE,Res.ids,xag,List.nil_append,AV.idsL,AV.ids,zag,zaf,zaq,zaF,xae,List.map_nil,upC,zaA];rfl)) (by first|rfl|(simp only[zaw,occH,occE,Res.ids,xag,List.nil_append,AV.idsL,AV.ids,zag,zaf,zaq,zaF,xae,List.map_nil,upC,zaA];rfl)) (by first|rfl|(simp only[zaw,occH,occE,Res.ids,xag,List.nil_append,AV.idsL,AV.ids,zag,zaf,zaq,zaF,xae,List.map_nil,upC,zaA];rfl)) ?_;refine so ty25 ?_;refine tv ?_;refine Walk.call (cr:=[]) zji (zkQ (f:=f) (a:=y.data) (k:=y.index) (hin y (by rw[<-hg1.1];simp)) hn) rfl .none rfl rfl (LeL.refl _) ⟨rfl,trivial⟩ rfl (by first|rfl|(simp only[za2,List.all_cons,List.all_nil,zbQ,zbz,AV.idsL,AV.ids,zag,zaf,xae,List.map_nil,zaA];rfl)) (by first|rfl|(simp only[zaw,occH,occE,Res.ids,xag,List.nil_append,AV.idsL,AV.ids,zag,zaf,zaq,zaF,xae,List.map_nil,upC,zaA];rfl)) ?_;refine ev ?_;refine sq ?_ ?_<;>intro h2 h2p h2s<;>(try simp only[Q] at h2p);refine rn [] (r1 rfl) (.eqd ?_) ⟨rfl,rfl⟩ (SubH.get ⟨rfl,trivial⟩) (fun _ h=>h);rotate_left;refine xa4 .none rfl rfl rfl ?_;refine ev ?_;refine ar ?_;refine xah ((pre++[y],rest,max m (dv f y))) ⟨⟨(by have hz:=hg1.1;rw[<-hz];simp),⟨(by have:=hd y;dsimp only;omega),(by rw[<-hg1.2.2];simp only[zbq];rw[if_neg (by have:=hd y;omega)])⟩⟩,(by simp),sx ⟨⟨_,rfl,xar ?_⟩,⟨⟨_,rfl,xar ?_⟩,trivial⟩⟩ trivial⟩;iterate 2 focus (first|rfl|(simp;done)|(dsimp only;omega))
 have hrest:rest=[]:=by
  rcases rest with _|⟨a,b⟩
  ·rfl
  ·exfalso;have hz:=congrArg List.length (hg1.1);simp only[xaa,xab,xac] at hz;omega
 subst hrest;refine ar ?_;refine rn [] (r1 rfl) (.eqd ?_) ⟨rfl,rfl⟩ (SubH.get ⟨rfl,trivial⟩) (fun _ h=>h);rotate_left;all_goals (refine congrArg D.i ?_;unfold most;rw[<-hg1.2.2];first|(simp only[zbq];rw[if_pos (by omega)];rfl)|(simp only[zbq];omega))
theorem zho {i j:Nat} (h:j<4):tyS (i*4+j)=⟨(i:Int),(j:Int)⟩:=by
 unfold tyS;rw[show(i*4+j) / 4=i by omega,show(i*4+j) % 4=j by omega]
theorem zqD {w:List Data}{k s:Nat}{pre:List Int}:Bet (zba w k) (rowT w k s pre):=(zoo _ _).trans (znr _ _)
theorem zka {w:List Data}{g f:Nat->Nat}{s:Nat}{c:Int} (hB:Bet g f)
  (h:decide ((0:Int)<(most w f (tyS s) c:Int)/\((f s:Int)=0\/(most w f (tyS s) c:Int)<(f s:Int)))=true):Strict g (zbA w s f c):=by
 rw[zeg h];rw[decide_eq_true_eq] at h;refine⟨s,by unfold updF;rw[if_pos rfl];omega, ?_⟩;unfold updF;rw[if_pos rfl];rcases Nat.eq_zero_or_pos (g s) with h0|h0
 ·exact .inl h0
 ·have:=hB s h0;right;omega
theorem zl2 {w:List Data} (hw:WT w){i j:Nat} (hi:i<w.length) (hj:j<4):FnD Tryz.prog 105 [.d (zan w),.agg [.d (.i (i:Int)),.d (.i (j:Int))]] [] (.d (zcd (zaM w (tyS (i*4+j))))) []:=by
 rw[<-ziU,zho hj];exact zet hw (.inr ⟨i,rfl,hi⟩)
theorem zl7 {w:List Data}{f:Nat->Nat}{i j:Nat} (hi:i<w.length) (h4:w.length<=4) (hj:j<4):
  FnD Tryz.prog 128 [.ref 71 0,.agg [.d (.i (i:Int)),.d (.i (j:Int))]] [(71,some (.box (tabC 16 f)))] (.d (.i (f (i*4+j)))) []:=by
 have h:=zkQ (n:=w.length*4) (f:=f) (a:=(i:Int)) (k:=(j:Int)) (.inr ⟨by simp only[zcm,Int.toNat_natCast];omega,by simp only[zcm,Int.toNat_natCast];exact zho hj⟩) (by omega);have e:zcm ⟨(i:Int),(j:Int)⟩=i*4+j:=by simp only[zcm,Int.toNat_natCast]
 rwa [zlT (by omega),e] at h
theorem znl {w:List Data} (hd:Dp w){f:Nat->Nat}{i j:Nat}{c:Int} (hi:i<w.length) (hj:j<4) (hc:c∈zaM w (tyS (i*4+j))) (hb:∀s,f s<=100000):
  FnD Tryz.prog 145 [.ref 71 0,.d (zan w),.agg [.d (.i (i:Int)),.d (.i (j:Int))],.d (.i c)] [(71,some (.box (tabC 16 f)))] (.d (.i (most w f (tyS (i*4+j)) c))) []:=by
 have h4:=hd.four;have hcl:=hd.cl (i*4+j) (by omega) c hc;rw[<-ziU,zho hj] at hc;rw[zho hj] at hcl ⊢;exact zl5 hd.wt (.inr ⟨i,rfl,hi⟩) hc (n:=w.length*4) (by omega) hb hcl
theorem zk9 {w:List Data} (hd:Dp w):FnD Tryz.prog 91 [.d (zan w)] [] (.d (dPtr (zai w))) []:=by
 have hw:=hd.wt;have hw4:=hd.four;have hlw:((w.map Data.c).length:Int)=w.length:=by simp
 refine bd Tryz.f91 64 [] [16,20] fun w0 F0 own kept hk=>?_;refine Walk.buildZ zw4 zoJ .none rfl ?_;refine Walk.box (id:=71) .none rfl rfl rfl (by first|rfl|(simp only[zaw,occH,occE,Res.ids,xag,List.nil_append,AV.idsL,AV.ids,zag,zaf,zaq,zaF,xae,List.map_nil,upC,zaA];rfl)) (by first|rfl|(simp only[zaw,occH,occE,Res.ids,xag,List.nil_append,AV.idsL,AV.ids,zag,zaf,zaq,zaF,xae,List.map_nil,upC,zaA];rfl)) (by first|rfl|(simp only[zaw,occH,occE,Res.ids,xag,List.nil_append,AV.idsL,AV.ids,zag,zaf,zaq,zaF,xae,List.map_nil,upC,zaA];rfl)) (by first|rfl|(simp only[zaw,occH,occE,Res.ids,xag,List.nil_append,AV.idsL,AV.ids,zag,zaf,zaq,zaF,xae,List.map_nil,upC,zaA];rfl)) ?_;refine ev ?_;refine xak (ι:=Nat×Bool) hk (fun o=>[(4,.d (.bool o.2))]) [5,6,7,9,10,13,14,15,16,17,18,19,20,21,22,23,24,25,26,27,28,29,30,31,32,33,34,35,36,37,38,39,40,41,42,43,44,45,46,47,48,49,50,51,52,53,54,55,56,57,58,59,60,61,62] (fun o=>[(71,some (.box (tabC 16 (zba w o.1))))]) (fun o=>(o.2=false->zba w o.1=zai w)/\(o.2=true->o.1<=w.length*4+1)) (fun o=>if o.2 then w.length*4+2-o.1 else 0) (0,true) ⟨by simp,by simp⟩ ⟨⟨_,rfl,xaq ?_⟩,trivial⟩ ⟨?_,trivial⟩ (fun x=>rfl) (fun o hg1=>?_);focus (first|rfl|(simp;done))
 focus (first|rfl|(have e:y.1=w.length:=(by omega);rw[e];rfl))
 refine evc [] [16,20] ?_;refine sq ?_ ?_<;>intro h1 h1p h1s<;>(try simp only[Q] at h1p);refine xak (ι:=Nat×Bool) hk (fun y=>[(16,.d (.i (y.1:Int))),(4,.d (.bool y.2))]) [5,6,7,9,10,17,18,19,20,21,22,23,24,25,26,27,28,29,30,31,32,33,34,35,36,37,38,39,40,41,42,43,44,45,46,47,48,49,50,51,52,53,54,55,56,57,58,59,60,61,62] (fun y=>[(71,some (.box (tabC 16 (midT w o.1 (y.1*4)))))]) (fun y=>y.1<=w.length/\(y.2=false->midT w o.1 (y.1*4)=zba w o.1)/\(y.2=true->Strict (zba w o.1) (midT w o.1 (y.1*4)))) (fun y=>w.length-y.1) (0,false) ⟨by simp,fun _=>rfl,by simp⟩ ⟨⟨_,rfl,xar ?_⟩,⟨⟨_,rfl,xaq ?_⟩,trivial⟩⟩ ⟨?_,trivial⟩ (fun x=>rfl) (fun y hg2=>?_);iterate 2 focus (first|rfl|(simp;done))
 focus (first|rfl|(have e:z.1=4:=(by omega);rw[e,<-Nat.succ_mul];rfl))
 have ho:=hg1.2 h1s;refine evc [] [16,20] ?_;refine sq ?_ ?_<;>intro h2 h2p h2s<;>(try simp only[Q] at h2p);refine xak (ι:=Nat×Bool) hk (fun z=>[(6,.d (.i (z.1:Int))),(4,.d (.bool z.2))]) [7,9,10,19,20,21,22,23,24,25,26,27,28,29,30,31,32,33,34,35,36,37,38,39,40,41,42,43,44,45,46,47,48,49,50,51,52,53,54,55,56,57,58,59,60,61] (fun z=>[(71,some (.box (tabC 16 (midT w o.1 (y.1*4+z.1)))))]) (fun z=>z.1<=4/\(z.2=false->midT w o.1 (y.1*4+z.1)=zba w o.1)/\(z.2=true->Strict (zba w o.1) (midT w o.1 (y.1*4+z.1)))) (fun z=>4-z.1) (0,y.2) ⟨by simp,hg2.2⟩ ⟨⟨_,rfl,xar ?_⟩,⟨⟨_,rfl,xaq ?_⟩,trivial⟩⟩ ⟨?_,trivial⟩ (fun x=>rfl) (fun z hg3=>?_);iterate 2 focus (first|rfl|(simp;done))
 focus (first|rfl|(show some (Res.box _)=some (Res.box _);rw[<-hg4.1,List.append_nil] at *;done))
 refine evc [] [16,20] ?_;refine sq ?_ ?_<;>intro h3 h3p h3s<;>(try simp only[Q] at h3p);refine bu [0,1] [_,_] st25 ?_;refine Walk.alloc (id:=3007) tz25 rfl .none rfl (by first|rfl|(simp only[zaw,occH,occE,Res.ids,xag,List.nil_append,AV.idsL,AV.ids,zag,zaf,zaq,zaF,xae,List.map_nil,upC,zaA];rfl)) (by first|rfl|(simp only[zaw,occH,occE,Res.ids,xag,List.nil_append,AV.idsL,AV.ids,zag,zaf,zaq,zaF,xae,List.map_nil,upC,zaA];rfl)) (by first|rfl|(simp only[zaw,occH,occE,Res.ids,xag,List.nil_append,AV.idsL,AV.ids,zag,zaf,zaq,zaF,xae,List.map_nil,upC,zaA];rfl)) ?_;refine so ty25 ?_;refine tv ?_;refine Walk.call (cr:=[]) zfe (zl2 hw (i:=y.1) (j:=z.1) (by omega) (by omega)) rfl .none rfl rfl (LeL.refl _) trivial rfl (by first|rfl|(simp only[za2,List.all_cons,List.all_nil,zbQ,zbz,AV.idsL,AV.ids,zag,zaf,xae,List.map_nil,zaA];rfl)) (by first|rfl|(simp only[zaw,occH,occE,Res.ids,xag,List.nil_append,AV.idsL,AV.ids,zag,zaf,zaq,zaF,xae,List.map_nil,upC,zaA];rfl)) ?_;refine ev ?_;refine xak (ι:=List (Int)×List (Int)×(Bool)) hk (fun x=>[(30,.d (.i (x.1.length:Int))),(4,.d (.bool x.2.2))]) [9,10,31,32,33,34,35,36,37,38,39,40,41,42,43,44,45,46,47,48,49,50,51,52,53,54,55,56,57,58,59,60,61] (fun x=>[(71,some (.box (tabC 16 (rowT w o.1 (y.1*4+z.1) x.1))))]) (fun x=>x.1++x.2.1=zaM w (tyS (y.1*4+z.1))/\(x.2.2=false->rowT w o.1 (y.1*4+z.1) x.1=zba w o.1)/\(x.2.2=true->Strict (zba w o.1) (rowT w o.1 (y.1*4+z.1) x.1))) (fun x=>x.2.1.length) ([],zaM w (tyS (y.1*4+z.1)),z.2) ⟨by simp,hg3.2⟩ ⟨⟨_,rfl,xar ?_⟩,⟨⟨_,rfl,xaq ?_⟩,trivial⟩⟩ ⟨?_,trivial⟩ (fun x=>rfl) (fun x hg4=>?_);iterate 2 focus (first|rfl|(simp;done))
 focus (first|rfl|(show some (Res.box _)=some (Res.box _);rw[zdD];first|(rw[zeg (by assumption)];done)|(rw[zdC (by assumption)];done)))
 obtain⟨pre,rest,b⟩:=x;dsimp only at hg4 ⊢;have hct:=hd.ct (y.1*4+z.1) (by omega);refine evc [] [16,20] ?_;refine sq ?_ ?_<;>intro h4 h4p h4s<;>(try simp only[Q] at h4p);rcases rest with _|⟨c,rest⟩
 ·exfalso;simp_all
 refine xaU sl62 .none rfl rfl rfl rfl (zaE hg4.1) rfl ?_;refine ev ?_;refine Walk.call (cr:=[]) zvV (znl hd (f:=rowT w o.1 (y.1*4+z.1) pre) (i:=y.1) (j:=z.1) (c:=c) (by omega) (by omega) (by rw[<-hg4.1];simp) (znq hd (by omega) (by omega) (by have hz:=congrArg List.length hg4.1;simp at hz;omega))) rfl .none rfl rfl (LeL.refl _) ⟨rfl,trivial⟩ rfl (by first|rfl|(simp only[za2,List.all_cons,List.all_nil,zbQ,zbz,AV.idsL,AV.ids,zag,zaf,xae,List.map_nil,zaA];rfl)) (by first|rfl|(simp only[zaw,occH,occE,Res.ids,xag,List.nil_append,AV.idsL,AV.ids,zag,zaf,zaq,zaF,xae,List.map_nil,upC,zaA];rfl)) ?_;refine ev ?_;refine xam ?_;refine xaA 15 [(53,.d (.bool (decide ((0:Int)<(most w (rowT w o.1 (y.1*4+z.1) pre) (tyS (y.1*4+z.1)) c:Int)/\((rowT w o.1 (y.1*4+z.1) pre (y.1*4+z.1):Int)=0\/(most w (rowT w o.1 (y.1*4+z.1) pre) (tyS (y.1*4+z.1)) c:Int)<(rowT w o.1 (y.1*4+z.1) pre (y.1*4+z.1):Int))))))] [39,40,41,42,43,44,45,46,47,48,49,50,51,52] ?_ ?_;refine ev ?_;refine sq ?_ ?_<;>intro h5 h5p h5s<;>(try simp only[Q] at h5p);refine Walk.call (cr:=[]) zji (zl7 (w:=w) (f:=rowT w o.1 (y.1*4+z.1) pre) (i:=y.1) (j:=z.1) (by omega) hw4 (by omega)) rfl (.some rfl rfl h5) rfl rfl (LeL.refl _) ⟨rfl,trivial⟩ rfl (by first|rfl|(simp only[za2,List.all_cons,List.all_nil,zbQ,zbz,AV.idsL,AV.ids,zag,zaf,xae,List.map_nil,zaA];rfl)) (by first|rfl|(simp only[zaw,occH,occE,Res.ids,xag,List.nil_append,AV.idsL,AV.ids,zag,zaf,zaq,zaF,xae,List.map_nil,upC,zaA];rfl)) ?_;refine evs [] [(41,true)] ?_ ⟨⟨_,rfl,h5⟩,trivial⟩;refine sq ?_ ?_<;>intro h6 h6p h6s<;>(try simp only[Q] at h6p);exact jnb rfl;refine Walk.call (cr:=[]) zji (zl7 (w:=w) (f:=rowT w o.1 (y.1*4+z.1) pre) (i:=y.1) (j:=z.1) (by omega) hw4 (by omega)) rfl (.some rfl rfl h6) rfl rfl (LeL.refl _) ⟨rfl,trivial⟩ rfl (by first|rfl|(simp only[za2,List.all_cons,List.all_nil,zbQ,zbz,AV.idsL,AV.ids,zag,zaf,xae,List.map_nil,zaA];rfl)) (by first|rfl|(simp only[zaw,occH,occE,Res.ids,xag,List.nil_append,AV.idsL,AV.ids,zag,zaf,zaq,zaF,xae,List.map_nil,upC,zaA];rfl)) ?_;refine evs [] [(41,true),(46,false)] ?_ ⟨⟨_,rfl,h5⟩,⟨_,rfl,h6⟩,trivial⟩;exact jnb rfl;exact jnb rfl;refine xaz ?_;refine tv ?_;refine sq ?_ ?_<;>intro h7 h7p h7s<;>(try simp only[Q] at h7p);refine xaV (i:=y.1) zoJ .none rfl rfl rfl rfl (by omega) ?_;refine xaV (i:=z.1) zrk .none rfl rfl rfl rfl (by omega) ?_;refine Walk.store ty3 .none rfl rfl rfl rfl rfl rfl (by simp) ((zrh (s:=y.1*4+z.1) (v:=most w (rowT w o.1 (y.1*4+z.1) pre) (tyS (y.1*4+z.1)) c) (by omega) (by omega) rfl)) ?_;refine ev ?_;refine ar ?_;refine xah ((pre++[c],rest,(decide ((0:Int)<(most w (rowT w o.1 (y.1*4+z.1) pre) (tyS (y.1*4+z.1)) c:Int)/\((rowT w o.1 (y.1*4+z.1) pre (y.1*4+z.1):Int)=0\/(most w (rowT w o.1 (y.1*4+z.1) pre) (tyS (y.1*4+z.1)) c:Int)<(rowT w o.1 (y.1*4+z.1) pre (y.1*4+z.1):Int))))||b)) ⟨⟨(by have hz:=hg4.1;rw[<-hz];simp),(by
    dsimp only;rw[zdD];cases hq:decide ((0:Int)<(most w (rowT w o.1 (y.1*4+z.1) pre) (tyS (y.1*4+z.1)) c:Int)/\((rowT w o.1 (y.1*4+z.1) pre (y.1*4+z.1):Int)=0\/(most w (rowT w o.1 (y.1*4+z.1) pre) (tyS (y.1*4+z.1)) c:Int)<(rowT w o.1 (y.1*4+z.1) pre (y.1*4+z.1):Int))) with
    |true=>exact⟨fun h=>by simp at h,fun _=>zka zqD hq⟩
    |false=>rw[zdC hq];exact hg4.2)⟩,(by simp),sx ⟨⟨_,rfl,xar ?_⟩,⟨⟨_,rfl,xaq ?_⟩,trivial⟩⟩ ⟨?_,trivial⟩⟩
 iterate 2 focus (first|rfl|(simp;done)|(rw[h7];rfl))
 focus (first|rfl|(show some (Res.box _)=some (Res.box _);rw[zdD];first|(rw[zeg (by assumption)];done)|(rw[zdC (by assumption)];done)))
 refine ar ?_;refine xah ((pre++[c],rest,(decide ((0:Int)<(most w (rowT w o.1 (y.1*4+z.1) pre) (tyS (y.1*4+z.1)) c:Int)/\((rowT w o.1 (y.1*4+z.1) pre (y.1*4+z.1):Int)=0\/(most w (rowT w o.1 (y.1*4+z.1) pre) (tyS (y.1*4+z.1)) c:Int)<(rowT w o.1 (y.1*4+z.1) pre (y.1*4+z.1):Int))))||b)) ⟨⟨(by have hz:=hg4.1;rw[<-hz];simp),(by
    dsimp only;rw[zdD];cases hq:decide ((0:Int)<(most w (rowT w o.1 (y.1*4+z.1) pre) (tyS (y.1*4+z.1)) c:Int)/\((rowT w o.1 (y.1*4+z.1) pre (y.1*4+z.1):Int)=0\/(most w (rowT w o.1 (y.1*4+z.1) pre) (tyS (y.1*4+z.1)) c:Int)<(rowT w o.1 (y.1*4+z.1) pre (y.1*4+z.1):Int))) with
    |true=>exact⟨fun h=>by simp at h,fun _=>zka zqD hq⟩
    |false=>rw[zdC hq];exact hg4.2)⟩,(by simp),sx ⟨⟨_,rfl,xar ?_⟩,⟨⟨_,rfl,xaq ?_⟩,trivial⟩⟩ ⟨?_,trivial⟩⟩
 iterate 2 focus (first|rfl|(simp;done)|(rw[h7];rfl))
 focus (first|rfl|(show some (Res.box _)=some (Res.box _);rw[zdD];first|(rw[zeg (by assumption)];done)|(rw[zdC (by assumption)];done)))
 have hrest:rest=[]:=by
  rcases rest with _|⟨a,b⟩
  ·rfl
  ·exfalso;have hz:=congrArg List.length (hg4.1);simp only[xaa,xab,xac] at hz;omega
 subst hrest;refine ar ?_;refine xah ((z.1+1,b)) ⟨(by
    obtain⟨p1,p2⟩:=hg4;rw[List.append_nil] at p1;rw[p1,zhy,Nat.add_assoc] at p2;exact⟨by dsimp only;omega,p2⟩),(by dsimp only;omega),sx ⟨⟨_,rfl,xar ?_⟩,⟨⟨_,rfl,xaq ?_⟩,trivial⟩⟩ ⟨?_,trivial⟩⟩
 iterate 2 focus (first|rfl|(simp;done))
 focus (first|rfl|(show some (Res.box _)=some (Res.box _);rw[<-hg4.1,List.append_nil] at *;done)|(show some (Res.box _)=some (Res.box _);rw[<-Nat.add_assoc,<-zhy,<-hg4.1,List.append_nil]))
 refine ar ?_;refine xah ((y.1+1,z.2)) ⟨(by
    have e:z.1=4:=by omega
    obtain⟨_,q1,q2⟩:=hg3;rw[e,<-Nat.succ_mul] at q1 q2;exact⟨by dsimp only;omega,q1,q2⟩),(by dsimp only;omega),sx ⟨⟨_,rfl,xar ?_⟩,⟨⟨_,rfl,xaq ?_⟩,trivial⟩⟩ ⟨?_,trivial⟩⟩
 iterate 2 focus (first|rfl|(simp;done))
 focus (first|rfl|(have e:z.1=4:=(by omega);rw[e,<-Nat.succ_mul];rfl))
 refine xah ((o.1+1,y.2)) ⟨⟨(fun h=>by
    have e:y.1=w.length:=by omega
    have h1:=hg2.2.1 h;rw[e] at h1;have h2:zba w (o.1+1)=zba w o.1:=h1;rw[h2];exact ztJ hd.cl h2),(fun h=>by
    have e:y.1=w.length:=by omega
    have h1:=hg2.2.2 h;rw[e] at h1;have h3:=hg1.2 h1s;show o.1+1<=w.length*4+1
    rcases Nat.lt_or_ge o.1 (w.length*4+1) with h4|h4
    ·omega
    ·refine absurd ?_ (Strict.ne h1);rw[zkn hd.cl h4];exact(zkn hd.cl (k:=o.1+1) (by omega)).symm)⟩,(by have h3:=hg1.2 h1s;rw[h1s];dsimp only;simp only[if_true];split<;>omega),sx ⟨⟨_,rfl,xaq ?_⟩,trivial⟩ ⟨?_,trivial⟩⟩
 focus (first|rfl|(simp;done))
 focus (first|rfl|(have e:y.1=w.length:=(by omega);rw[e];rfl))
 refine CWp.frzB hk 3 71 0 rfl rfl zud rfl ?_;refine evc [] [] ?_;refine rq ?_;rotate_left;all_goals (rw[hg1.1 h1s])
end Go.Proofs.YtpgdedpljcedpaaGreat
namespace Go.Proofs.YtpgdedpljcedpaaGreat
open Go
set_option linter.unusedSimpArgs false
set_option linter.unusedVariables false
set_option maxRecDepth 100000
set_option maxHeartbeats 4000000
theorem zw2 (w:List Data) (t:Ty) (p:Pat):(zaS w 10 t p 0).1.isSome=isP w t p:=by
 have h:=(zfS w 10 t p 0).1;rw[h];unfold zbI isP;rw[Int.zero_add];split
 ·rename_i hz;rw[hz];rfl
 ·rename_i hz;cases hc:(zas w 10 t p&&(decide ((p.size:Int)<=60)&&linP w 10 t p)) with
  |true=>exact absurd hc hz
  |false=>rfl
theorem zi9 {w:List Data} (hw:WT w){a k:Int}{p:Pat} (ht:TyIn w.length ⟨a,k⟩) (hok:p.ok):
  FnD Tryz.prog 132 [.d (zan w),.agg [.d (.i a),.d (.i k)],.agg [.d (.i p.op),.d (.i p.ctor),.d (.i p.n),.d (.i p.m),.d (.i p.var),.d (zaj p.kids)]] [] (.tup [.d (zdv (zdQ (zaS w 10 ⟨a,k⟩ p 0).1)),.d (.bool (isP w ⟨a,k⟩ p))]) []:=by
 rw[<-zw2];refine bd Tryz.f132 15 [] [] fun w0 F0 own kept hk=>?_;refine bx 3004 ?_;refine bx 3005 ?_;refine ev ?_;refine ab 950 tz3 ?_;refine so ty3 ?_;refine tv ?_;refine wc zpe (zdW hw 10 (c:=0) (by omega) (by omega) ht hok (by omega) (by omega)) rfl rfl ?_;refine ev ?_;refine rn0 (r2 rfl rfl) (.tup (.cons (.eqd ?_) (.cons (.eqd ?_) .nil)));rotate_left 2;all_goals (rfl)
theorem zeF {w:List Data} (hw:WT w){a k:Int}{p:Pat} (ht:TyIn w.length ⟨a,k⟩) (hok:p.ok):
  FnD Tryz.prog 77 [.d (zan w),.agg [.d (.i a),.d (.i k)],.agg [.d (.i p.op),.d (.i p.ctor),.d (.i p.n),.d (.i p.m),.d (.i p.var),.d (zaj p.kids)]] [] (.d (.bool (isP w ⟨a,k⟩ p))) []:=by
 refine bd Tryz.f77 17 [] [] fun w0 F0 own kept hk=>?_;refine bx 3004 ?_;refine bx 3005 ?_;refine ev ?_;refine wc zvT (zi9 hw ht hok) rfl rfl ?_;refine ev ?_;refine rq ?_;rotate_left;all_goals (rfl)
end Go.Proofs.YtpgdedpljcedpaaGreat
namespace Go.Proofs.YtpgdedpljcedpaaGreat
open Go
set_option linter.unusedSimpArgs false
set_option linter.unusedVariables false
set_option maxRecDepth 100000
set_option maxHeartbeats 2000000
theorem ziR {w:List Data} (hs:WSmall w) (hv:za1 w=true):Dp w:=by
 have hw:=zhp hs hv;have hW:=(zci w).1 hv;refine⟨hw,fun s hs c hc u hu=>?_,hW.len,fun s hs=>?_⟩
 ·obtain⟨j,rfl,hj⟩:=zb0 (d:=s / 4) (k:=((s % 4:Nat):Int)) hc;have hu':u∈zab w ⟨((s / 4:Nat):Int),((s % 4:Nat):Int)⟩ (j:Int):=hu;simp only[zab,Int.toNat_natCast,List.mem_map] at hu';obtain⟨x,hx,rfl⟩:=hu';have hco:=hW.ctor _ (zah (l:=w) (i:=s / 4) (by omega)) _ (zah hj);simp only[zbx,xad,Bool.not_eq_true',List.any_eq_false] at hco;have hax:zbF w.length x=true:=by
   have:=hco.2.2.2 x hx;cases h:zbF w.length x with
   |true=>rfl
   |false=>rw[h] at this;exact absurd rfl this
  have hci:=hco.2.2.1;simp only[zbF,zar,Bool.or_eq_true,xad,decide_eq_true_eq,and_true] at hax hci;have key:∀y:Ty,(y.data = -1\/(0<=y.data/\y.data<w.length/\0<=y.index/\y.index<=3))->InS (w.length*4) y:=by
   rintro ⟨a,k⟩ h
   rcases h with h|⟨h1,h2,h3,h4⟩
   ·exact .inl h
   ·refine .inr ⟨?_, ?_⟩
    ·simp only[zcm] at *;omega
    ·obtain⟨i,rfl⟩:=Int.eq_ofNat_of_zero_le h1;obtain⟨m,rfl⟩:=Int.eq_ofNat_of_zero_le h3;simp only[zcm,Int.toNat_natCast];exact zho (by simp only at h4;omega)
  refine key _ ?_;unfold zcs zcv;split
  ·dsimp only;rcases hax with h|h
   ·omega
   ·right
    refine⟨by omega,by omega, ?_⟩;split<;>omega
  ·rcases hax with h|h
   ·exact .inl h.1
   ·right;omega
 ·have h1:=zgj (tyS s).index (nth w (tyS s).data.toNat).ctors 0;have h2:=(hW.data _ (zah (l:=w) (i:=s / 4) (by omega))).2.2;show(zaX (tyS s).index 0 (nth w (tyS s).data.toNat).ctors).length<=4
  have e:(tyS s).data.toNat=s / 4:=by simp only[tyS,Int.toNat_natCast]
  rw[e] at h1 ⊢;omega
theorem zcO {n:Nat}{t:Ty} (h:InS (n*4) t):TyIn n t:=by
 rcases h with h|⟨h1,h2⟩
 ·exact .inl h
 ·refine .inr ⟨zcm t / 4, ?_,by omega⟩;have:=congrArg Ty.data h2;exact this.symm
theorem zbR {w:List Data} (hd:Dp w){t:Ty}{c:Int} (ht:InS (w.length*4) t) (hc:c∈zap w t):∀u∈zab w t c,InS (w.length*4) u:=by
 rcases ht with h|⟨h1,h2⟩
 ·unfold zap at hc;rw[if_pos h] at hc;simp at hc
 ·have hx:=hd.cl _ h1;rw[h2] at hx;have:c∈zaM w t:=by
   unfold zap at hc;split at hc
   ·simp at hc
   ·exact hc
  exact hx c this
theorem zjh {w:List Data}{a k k' c:Int}:(zab w ⟨a,k⟩ c).length=(zab w ⟨a,k'⟩ c).length/\∀i,(nth (zab w ⟨a,k⟩ c) i).data=(nth (zab w ⟨a,k'⟩ c) i).data:=by
 have hd:∀(k:Int) (t:Ty),(zcs k t).data=t.data:=fun k t=>by unfold zcs;split<;>rfl
 refine⟨by simp[zab],fun i=>?_⟩;unfold zab;dsimp only;generalize nth (nth w a.toNat).ctors c.toNat=q;simp only[nth,List.getD_eq_getElem?_getD,List.getElem?_map];cases q.args[i]? with
 |none=>rfl
 |some x=>simp only[Option.map_some,Option.getD_some,hd]
structure PKids (w:List Data) (n:Nat) (a k k':Int) (p:Pat):Prop where
 len5:p.op=5->p.kids.length=2
 len6:p.op=6->p.kids.length=1
 len4:p.op=4->p.kids.length=(zab w ⟨a,k⟩ p.ctor).length
 one:p.op=5\/p.op=6->zas w n ⟨a,k'⟩ (nth p.kids 0)=true
 two:p.op=5->zas w n ⟨a,k'⟩ (nth p.kids 1)=true
 arg:p.op=4->∀i,i<(zab w ⟨a,k⟩ p.ctor).length->zas w n ⟨(nth (zab w ⟨a,k⟩ p.ctor) i).data,(nth (zab w ⟨a,k'⟩ p.ctor) i).index⟩ (nth p.kids i)=true
 mem:p.op=4->p.ctor∈zap w ⟨a,k'⟩
 ops:p.op=1\/p.op=2\/(p.op=3/\a = -1)\/p.op=4\/p.op=5\/p.op=6
theorem zuM {w:List Data}{n:Nat}{a k k':Int}{p:Pat} (h:zas w (n+1) ⟨a,k'⟩ p=true):PKids w n a k k' p:=by
 obtain⟨ho,hl⟩:=zbo h;have hk:=fun i (hi:i<p.kids.length)=>zbw h hi;have ht4:p.op=4->zad w ⟨a,k'⟩ p=zab w ⟨a,k'⟩ p.ctor:=fun h=>by unfold zad;rw[if_pos h]
 have ht5:p.op=5->zad w ⟨a,k'⟩ p=[⟨a,k'⟩,⟨a,k'⟩]:=fun h=>by unfold zad;rw[if_neg (by omega),if_pos h]
 have ht6:p.op=6->zad w ⟨a,k'⟩ p=[⟨a,k'⟩]:=fun h=>by unfold zad;rw[if_neg (by omega),if_neg (by omega),if_pos h]
 have l5:p.op=5->p.kids.length=2:=fun h=>by rw[hl,ht5 h];rfl
 have l6:p.op=6->p.kids.length=1:=fun h=>by rw[hl,ht6 h];rfl
 refine⟨l5,l6,fun h=>by rw[hl,ht4 h,zjh.1],fun h=>?_,fun h=>?_,fun h i hi=>?_,zbK ho, ?_⟩
 ·rcases h with h|h
  ·have:=hk 0 (by rw[l5 h];omega);rwa [ht5 h] at this
  ·have:=hk 0 (by rw[l6 h];omega);rwa [ht6 h] at this
 ·have:=hk 1 (by rw[l5 h];omega);rwa [ht5 h] at this
 ·rw[(zjh (k':=k')).1] at hi;have:=hk i (by rw[hl,ht4 h];exact hi);rw[ht4 h] at this;rw[(zjh (k':=k')).2];exact this
 ·unfold ownP at ho;have:=of_decide_eq_true ho;obtain⟨_,_,_,_,q⟩:=this;simp only at q;omega
theorem zgt {w:List Data} (hd:Dp w):FnD Tryz.prog 47 [.d (zan w)] [] (.d (sPtr w (zai w))) []:=by
 refine bd Tryz.f47 8 [] [999999] fun w0 F0 own kept hk=>?_;refine wc zwT (zk9 hd) rfl rfl ?_;refine bu [0,1] [_,_] zw3 ?_;refine bx 3007 ?_;refine ev ?_;refine CWp.frzB hk 2 3007 0 rfl rfl rfl rfl ?_;refine CWp.ret ?_;focus (refine rn0 (r1 rfl) (.refl _);all_goals (first|rfl|(simp[];done)|(simp_all;done)|(simp_all;omega)|omega))
theorem zb2 {w:List Data}{a k:Int} (h:zbm w ⟨a,k⟩=true):za1 w=true/\TyIn w.length ⟨a,k⟩/\(a≠ -1->0<=a/\a.toNat<w.length/\0<=k/\k<=3):=by
 unfold zbm at h;rw[xad] at h;obtain⟨h1,h2⟩:=h;simp only[zfw,zar,Bool.or_eq_true,xad,decide_eq_true_eq,and_true] at h2;refine⟨h1, ?_,fun ha=>by omega⟩;rcases h2 with h|h
 ·exact .inl h.1
 ·exact .inr ⟨a.toNat,by simp only;omega,by omega⟩
theorem zjC {n d j:Nat} (hd:d<n) (hj:j<4):InS (n*4) ⟨(d:Int),(j:Int)⟩:=
 .inr ⟨by simp only[zcm,Int.toNat_natCast];omega,by simp only[zcm,Int.toNat_natCast];exact zho hj⟩
def zaW (w:List Data) (a k:Int) (p:Pat):Bool:=zbm w ⟨a,k⟩&&isP w ⟨a,k⟩ p
structure PVal (w:List Data) (a k:Int) (p:Pat):Prop where
 dp:Dp w
 tin:TyIn w.length ⟨a,k⟩
 shape:zas w 10 ⟨a,k⟩ p=true
 rng:a≠ -1->0<=a/\a.toNat<w.length/\0<=k/\k<=3
theorem pval {w:List Data} (hs:WSmall w){a k:Int}{p:Pat} (h:zaW w a k p=true):PVal w a k p:=by
 unfold zaW at h;rw[xad] at h;obtain⟨h1,h2,h3⟩:=zb2 h.1;have h4:=h.2;unfold isP at h4;simp only[xad] at h4;exact⟨ziR hs h1,h2,h4.1,h3⟩
theorem zcB {w:List Data} (hs:WSmall w){a k:Int}{p:Pat} (hok:p.ok):
  FnD Tryz.prog 34 [.d (zan w),.agg [.d (.i a),.d (.i k)],.agg [.d (.i p.op),.d (.i p.ctor),.d (.i p.n),.d (.i p.m),.d (.i p.var),.d (zaj p.kids)]] [] (.d (.bool (zaW w a k p))) []:=by
 refine bd Tryz.f34 16 [] [] fun w0 F0 own kept hk=>?_;refine bx 3004 ?_;refine bx 3005 ?_;refine ev ?_;refine wc zun (zgs hs) rfl rfl ?_;refine ev ?_;refine sq ?_ ?_<;>intro h1 h1p h1s;refine Walk.call (cr:=[]) zoN (zeF (zhp hs (zb2 h1s).1) (zb2 h1s).2.1 hok) rfl (.some rfl rfl h1) rfl rfl (LeL.refl _) trivial rfl rfl rfl ?_;refine evs [] [(10,true)] ?_ ⟨⟨_,rfl,h1⟩,trivial⟩;refine rq ?_;rotate_left;refine rq ?_;rotate_left;all_goals (refine congrArg D.bool ?_;unfold zaW;simp_all)
theorem zlp {w:List Data}{a b:Int} (hs:WSmall w):FnD Tryz.prog 118 [.d (zan w),.agg [.d (.i a),.d (.i b)]] [] (.d (.bool (zbm w ⟨a,b⟩))) []:=by
 rw[<-zvy];exact zkE hs
theorem ziP {w:List Data} (hs:WSmall w){a k:Int}{p:Pat} (hok:p.ok) (hb:p.size<=1000000000000):
  FnD Tryz.prog 75 [.d (zan w),.agg [.d (.i a),.d (.i k)],.agg [.d (.i p.op),.d (.i p.ctor),.d (.i p.n),.d (.i p.m),.d (.i p.var),.d (zaj p.kids)]] [] (.d (.bool (zaW w a k p))) []:=by
 refine bd Tryz.f75 16 [] [] fun w0 F0 own kept hk=>?_;refine bx 3004 ?_;refine bx 3005 ?_;refine ev ?_;refine wc zvP (zlp hs) rfl rfl ?_;refine ev ?_;refine sq ?_ ?_<;>intro h1 h1p h1s;refine Walk.call (cr:=[]) zr3 (zj9 (zhp hs (zb2 h1s).1) (zb2 h1s).2.1 hok hb) rfl (.some rfl rfl h1) rfl rfl (LeL.refl _) trivial rfl rfl rfl ?_;refine evs [] [(10,true)] ?_ ⟨⟨_,rfl,h1⟩,trivial⟩;refine rq ?_;rotate_left;refine rq ?_;rotate_left;all_goals (refine congrArg D.bool ?_;unfold zaW;simp_all)
def zaQ (w:List Data) (f:Nat->Nat):Nat->Ty->Pat->Bool
 |0,_,_=>true
 |n+1,t,p=>
  if p.op=1\/p.op=2 then decide (dv f t=0)
  else if p.op=5 then zaQ w f n t (nth p.kids 0)&&zaQ w f n t (nth p.kids 1)
  else !(all2 (fun u q=> !zaQ w f n u q) (zad w t p) p.kids)
theorem zbe {w:List Data}{f:Nat->Nat}{n:Nat}{t:Ty}{p:Pat}:zaQ w f (n+1) t p=if p.op=1\/p.op=2 then decide (dv f t=0)
  else if p.op=5 then zaQ w f n t (nth p.kids 0)&&zaQ w f n t (nth p.kids 1)
  else !(all2 (fun u q=> !zaQ w f n u q) (zad w t p) p.kids):=rfl
theorem zdE {α β:Type} [Inhabited α] [Inhabited β]{f:α->β->Bool}{a:List α}{b:List β} (hl:a.length=b.length) (h:all2 f a b=true):∀i,i<a.length->f (nth a i) (nth b i)=true:=fun i hi=>by
 cases hf:f (nth a i) (nth b i) with
 |true=>rfl
 |false=>rw[zcb hi hl hf] at h;exact absurd h (by simp)
theorem zov {w:List Data}{t:Ty}{c:Int} (h:c∈zap w t):c∈zaM w t:=by
 unfold zap at h;split at h
 ·simp at h
 ·exact h
def zdu (w:List Data) (a k:Int) (p:Pat):Bool:=zaW w a k p&&zaQ w (zai w) 10 ⟨a,k⟩ p
theorem zlb {w:List Data} (hw:WT w){a k:Int}{p:Pat} (ht:TyIn w.length ⟨a,k⟩):
  FnD Tryz.prog 129 [.d (zan w),.agg [.d (.i a),.d (.i k)],.agg [.d (.i p.op),.d (.i p.ctor),.d (.i p.n),.d (.i p.m),.d (.i p.var),.d (zaj p.kids)]] [] (.d (zb9 (zcA w ⟨a,k⟩ p))) []:=by
 have hsh:=zi0 hw (p:=p) ht;refine bd Tryz.f129 17 [] [] fun w0 F0 own kept hk=>?_;refine bx 3004 ?_;refine bx 3005 ?_;refine ev ?_;refine wc zpd (hsh) rfl rfl ?_;refine ev ?_;refine rq ?_;rotate_left;all_goals (rfl)
theorem zb5 {w:List Data} (hd:Dp w){f:Nat->Nat}:∀(n:Nat){a k:Int}{p:Pat},zas w n ⟨a,k⟩ p=true->InS (w.length*4) ⟨a,k⟩->p.ok->
  FnD Tryz.prog 74 [.d (sPtr w f),.agg [.d (.i a),.d (.i k)],.agg [.d (.i p.op),.d (.i p.ctor),.d (.i p.n),.d (.i p.m),.d (.i p.var),.d (zaj p.kids)]] [] (.d (.bool (zaQ w f n ⟨a,k⟩ p))) []
 |0,a,k,p,h,_,_=>by simp[zas] at h
 |n+1,a,k,p,h,hi,hok=>by
  rw[Pat.ok_iff] at hok;have hw:=hd.wt;have hw4:=hd.four;have ht:=zcO hi;have pk:=zuM (k:=k) h;obtain⟨ho,hlen⟩:=zbo h;have hkid:=fun i (hi:i<p.kids.length)=>zbw h hi;have hops:=pk.ops;have l5:=pk.len5;have hk1:=pk.one;have hk2:=pk.two;have hsT:zcA w ⟨a,k⟩ p=zad w ⟨a,k⟩ p:=by
   unfold zcA;rw[if_neg (fun h=>h.2 (pk.mem h.1))]
  have hkt:=zlb hw (p:=p) ht;rw[hsT] at hkt;have hins:∀i,i<(zad w ⟨a,k⟩ p).length->InS (w.length*4) (nth (zad w ⟨a,k⟩ p) i):=fun i hl=>by
   have hm:=zah hl;unfold zad at hm ⊢;split
   ·rename_i h4;rw[if_pos h4] at hm;exact zbR hd hi (pk.mem h4) _ hm
   ·rename_i h4;rw[if_neg h4] at hm;split
    ·rename_i h5;rw[if_pos h5] at hm;simp only[List.mem_cons,List.not_mem_nil,or_false,or_self] at hm;rw[hm];exact hi
    ·rename_i h5;rw[if_neg h5] at hm;split
     ·rename_i h6;rw[if_pos h6] at hm;simp only[List.mem_cons,List.not_mem_nil,or_false] at hm;rw[hm];exact hi
     ·rename_i h6;rw[if_neg h6] at hm;simp at hm
  have htl:(zad w ⟨a,k⟩ p).length<=1000000000000:=by have:=hok.1;omega
  refine bd Tryz.f74 61 [] [] fun w0 F0 own kept hk=>?_;refine bx 3004 ?_;refine bx 3005 ?_;refine ev ?_;refine sq ?_ ?_<;>intro h1 h1p h1s<;>(try simp only[Q,Pat.cs_len] at h1p);refine sq ?_ ?_<;>intro h2 h2p h2s<;>(try simp only[Q,Pat.cs_len] at h2p);refine wc zji (zl6 (n:=w.length*4) (f:=f) hi (by omega)) rfl rfl ?_;refine evd [] [] ?_;refine dr ?_;refine rq ?_;rotate_left;refine sq ?_ ?_<;>intro h3 h3p h3s<;>(try simp only[Q,Pat.cs_len] at h3p);refine xaU (i:=0) sl26 .none rfl rfl rfl rfl (zaH (by omega)) rfl ?_;refine evd [] [] ?_;refine wc zht (zb5 hd n (hk1 (by omega)) hi (Pats.ok_mem hok.2 _ (zah (i:=0) (by omega)))) rfl rfl ?_;refine evd [] [] ?_;refine sq ?_ ?_<;>intro h4 h4p h4s<;>(try simp only[Q,Pat.cs_len] at h4p);refine xaU (i:=1) sl26 (.some rfl rfl h4) rfl rfl rfl rfl (zaH (by omega)) rfl ?_;refine evd [] [(30,true)] ?_ ⟨⟨_,rfl,h4⟩,trivial⟩;refine Walk.call (cr:=[]) zht (zb5 hd n (hk2 (by omega)) hi (Pats.ok_mem hok.2 _ (zah (i:=1) (by omega)))) rfl (.some rfl rfl h4) rfl rfl (LeL.refl _) trivial rfl rfl rfl ?_;refine evd [] [(30,true)] ?_ ⟨⟨_,rfl,h4⟩,trivial⟩;refine dr ?_;refine rq ?_;rotate_left;refine dr ?_;refine rq ?_;rotate_left;refine wc zr9 (hkt) rfl rfl ?_;refine evd [] [] ?_;refine dr ?_;refine xak (ι:=Nat) hk (fun i=>[(47,.d (.i (i:Int)))]) [6,7,8,48,49,50,51,52,53,54,55,56,57,58,59,60] (fun i=>[]) (fun i=>i<=(zad w ⟨a,k⟩ p).length/\∀i',i'<i->zaQ w f n (nth (zad w ⟨a,k⟩ p) i') (nth p.kids i')=false) (fun i=>(zad w ⟨a,k⟩ p).length-i) 0 ⟨by omega,fun _ h=>absurd h (by omega)⟩ ⟨⟨_,rfl,xar ?_⟩,trivial⟩ trivial (fun x=>rfl) (fun i hg1=>?_);focus (rfl)
  refine evc [] [] ?_;refine sq ?_ ?_<;>intro h5 h5p h5s<;>(try simp only[Q,Pat.cs_len] at h5p);refine xaU zaT .none rfl rfl rfl rfl (zat (by omega)) rfl ?_;refine ev ?_;refine ab 3008 tz25 ?_;refine ev ?_;refine so ty25 ?_;refine tv ?_;refine xaU sl26 .none rfl rfl rfl rfl (zaH (by omega)) rfl ?_;refine evd [] [] ?_;refine wc zht (zb5 hd n (hkid i (by omega)) (hins i (by omega)) (Pats.ok_mem hok.2 _ (zah (by omega)))) rfl rfl ?_;refine dr ?_;refine sq ?_ ?_<;>intro h6 h6p h6s<;>(try simp only[Q,Pat.cs_len] at h6p);refine rq ?_;rotate_left;refine ar ?_;refine xah (i+1) ⟨⟨by omega,za7 hg1.2 (by assumption)⟩,(by omega),sx ⟨⟨_,rfl,xar ?_⟩,trivial⟩ trivial⟩;focus (rfl)
  refine rq ?_;rotate_left;refine sq ?_ ?_<;>intro h7 h7p h7s<;>(try simp only[Q,Pat.cs_len] at h7p);refine wc zji (zl6 (n:=w.length*4) (f:=f) hi (by omega)) rfl rfl ?_;refine evd [] [] ?_;refine dr ?_;refine rq ?_;rotate_left;refine sq ?_ ?_<;>intro h8 h8p h8s<;>(try simp only[Q,Pat.cs_len] at h8p);refine xaU (i:=0) sl26 .none rfl rfl rfl rfl (zaH (by omega)) rfl ?_;refine evd [] [] ?_;refine wc zht (zb5 hd n (hk1 (by omega)) hi (Pats.ok_mem hok.2 _ (zah (i:=0) (by omega)))) rfl rfl ?_;refine evd [] [] ?_;refine sq ?_ ?_<;>intro h9 h9p h9s<;>(try simp only[Q,Pat.cs_len] at h9p);refine xaU (i:=1) sl26 (.some rfl rfl h9) rfl rfl rfl rfl (zaH (by omega)) rfl ?_;refine evd [] [(30,true)] ?_ ⟨⟨_,rfl,h9⟩,trivial⟩;refine Walk.call (cr:=[]) zht (zb5 hd n (hk2 (by omega)) hi (Pats.ok_mem hok.2 _ (zah (i:=1) (by omega)))) rfl (.some rfl rfl h9) rfl rfl (LeL.refl _) trivial rfl rfl rfl ?_;refine evd [] [(30,true)] ?_ ⟨⟨_,rfl,h9⟩,trivial⟩;refine dr ?_;refine rq ?_;rotate_left;refine dr ?_;refine rq ?_;rotate_left;refine wc zr9 (hkt) rfl rfl ?_;refine evd [] [] ?_;refine dr ?_;refine xak (ι:=Nat) hk (fun i=>[(47,.d (.i (i:Int)))]) [6,7,8,48,49,50,51,52,53,54,55,56,57,58,59,60] (fun i=>[]) (fun i=>i<=(zad w ⟨a,k⟩ p).length/\∀i',i'<i->zaQ w f n (nth (zad w ⟨a,k⟩ p) i') (nth p.kids i')=false) (fun i=>(zad w ⟨a,k⟩ p).length-i) 0 ⟨by omega,fun _ h=>absurd h (by omega)⟩ ⟨⟨_,rfl,xar ?_⟩,trivial⟩ trivial (fun x=>rfl) (fun i hg1=>?_);focus (rfl)
  refine evc [] [] ?_;refine sq ?_ ?_<;>intro h10 h10p h10s<;>(try simp only[Q,Pat.cs_len] at h10p);refine xaU zaT .none rfl rfl rfl rfl (zat (by omega)) rfl ?_;refine ev ?_;refine ab 3008 tz25 ?_;refine ev ?_;refine so ty25 ?_;refine tv ?_;refine xaU sl26 .none rfl rfl rfl rfl (zaH (by omega)) rfl ?_;refine evd [] [] ?_;refine wc zht (zb5 hd n (hkid i (by omega)) (hins i (by omega)) (Pats.ok_mem hok.2 _ (zah (by omega)))) rfl rfl ?_;refine dr ?_;refine sq ?_ ?_<;>intro h11 h11p h11s<;>(try simp only[Q,Pat.cs_len] at h11p);refine rq ?_;rotate_left;refine ar ?_;refine xah (i+1) ⟨⟨by omega,za7 hg1.2 (by assumption)⟩,(by omega),sx ⟨⟨_,rfl,xar ?_⟩,trivial⟩ trivial⟩;focus (rfl)
  refine rq ?_;rotate_left;all_goals (refine congrArg D.bool ?_;rw[zbe];first|(rw[if_pos (by omega)];exact decide_eq_decide.2 (by omega))|(rw[if_neg (by omega),if_pos (by omega)];first|rfl|(simp_all;done))|(rw[if_neg (by omega),if_neg (by omega)];first|(rw[zcb (i:=i) (by omega) (by omega) (by show(!_)=false;rw[Bool.not_eq_false'];assumption)];rfl)|(rw[zb4 (by omega) (fun x hx=>by have:=hg1.2 x (by omega);simp_all)];rfl)))
theorem ziz {w:List Data} (hs:WSmall w){a k:Int}{p:Pat} (hok:p.ok):
  FnD Tryz.prog 32 [.d (zan w),.agg [.d (.i a),.d (.i k)],.agg [.d (.i p.op),.d (.i p.ctor),.d (.i p.n),.d (.i p.m),.d (.i p.var),.d (zaj p.kids)]] [] (.d (.bool (zdu w a k p))) []:=by
 have hpv:=zcB hs (a:=a) (k:=k) hok;have pv:=pval hs (a:=a) (k:=k) (p:=p);have hin:zaW w a k p=true->InS (w.length*4) ⟨a,k⟩:=fun hv=>by
  by_cases ha:a = -1
  ·exact .inl ha
  ·obtain⟨r1,r2,r3,r4⟩:=(pv hv).rng ha;obtain⟨d,rfl⟩:=Int.eq_ofNat_of_zero_le r1;obtain⟨q,rfl⟩:=Int.eq_ofNat_of_zero_le r3;exact zjC (by omega) (by omega)
 unfold zdu;refine bd Tryz.f32 18 [] [] fun w0 F0 own kept hk=>?_;refine bx 3004 ?_;refine bx 3005 ?_;refine ev ?_;refine wc zil (hpv) rfl rfl ?_;refine evd [] [] ?_;refine sq ?_ ?_<;>intro h1 h1p h1s<;>(try simp only[Q] at h1p);refine Walk.call (cr:=[]) zrm (zgt (pv (by assumption)).dp) rfl (.some rfl rfl h1) rfl rfl (LeL.refl _) trivial rfl rfl rfl ?_;refine evd [] [(11,true)] ?_ ⟨⟨_,rfl,h1⟩,trivial⟩;refine Walk.call (cr:=[]) zht (zb5 (pv (by assumption)).dp 10 (pv (by assumption)).shape (hin (by assumption)) hok) rfl (.some rfl rfl h1) rfl rfl (LeL.refl _) trivial rfl rfl rfl ?_;refine evd [] [(11,true)] ?_ ⟨⟨_,rfl,h1⟩,trivial⟩;refine dr ?_;refine rq ?_;rotate_left;refine dr ?_;refine rq ?_;rotate_left;all_goals (refine congrArg D.bool ?_;simp_all;done)
end Go.Proofs.YtpgdedpljcedpaaGreat
namespace Go.Proofs.YtpgdedpljcedpaaGreat
open Go
set_option linter.unusedSimpArgs false
set_option linter.unusedVariables false
section
variable {c:Ctx}{all:Array Oper}{chk:List Rec->Prop}{os:List Oper}{recs:List Rec}{env:Env}{hp:Hp}{Q:St->Prop}
variable {ty:Nat}{pos:String}{af:Array Edge}{g:Option (Nat×Bool)}{pg:List (Nat×AV)}{t:TypeId}{x:Operand}
theorem Walk.clearB {id off n k e yb:Nat}{cs cs' zs:List AV} (ht:SlT c.P t e k yb) (hz:TyZ c.P e k zs) (hzk:zs.length=k) (hk:0<k) (h1:zgY zs=true) (hg:GH all env g pg) (hx:opd env x=some (.mo id off n))
  (hb:getH hp id=some (.box cs)) (hput:putC cs off (za3 n zs)=some cs')
  (hn:Walk c all chk os (zam (pg++opF x (.mo id off n)) [(id,.box cs)] [] ⟨none,[(id,some (.box cs'))]⟩::recs) ⟨env,(id,some (.box cs'))::hp⟩ Q):
  Walk c all chk (⟨none,.call ⟨.builtin .clear,#[x],#[t]⟩,ty,pos,af,g⟩::os) recs ⟨env,hp⟩ Q:=by
 refine⟨pg++opF x (.mo id off n),[(id,.box cs)],[],_, ?_,zau hg.facts (zaU hx),hh1 hb,by simp,hn⟩;intro s a w hrel hp' hh _ K Q' hK;obtain⟨G,hr⟩:=hrel;have hbx:=hh1' hh;have e1:=hr.opd (zaV hx (fun p hm=>hp' p (by simp[hm])));obtain⟨bl,o,cap,hl,he,hcap,ho⟩:=e1.mo_eq;obtain⟨b',us,et,h2,h3,h4,h5,h6⟩:=hr.heap id _ hbx;obtain rfl:=zcx hl.1 h2;have hall:PreR G (tokf s.hp) w cs us:=⟨h4,h6⟩;unfold wpO;rw[if_pos (hg.gf.wanted hr (fun p hm=>hp' p (by simp[hm])))];unfold Oper.wp;rcases Nat.eq_zero_or_pos n with hn0|hn0
 ·subst hn0;have hcs:cs'=cs:=by
   simp only[za3] at hput;cases cs<;>simp only[putC,Option.some.injEq] at hput<;>exact hput.symm
  subst hcs;have hrun:(execOp a.eval ⟨none,.call ⟨.builtin .clear,#[x],#[t]⟩,ty,pos,af,g⟩).run c.P w = .ok (.value (.tuple #[])) w:=by
   simp[execOp,resolve,invoke,builtin,he,Builtin.clear_,run_underlying ht.und]
  rw[hrun,Oper.upon_value];refine hK _ _ ⟨G, ?_⟩;have hsame:∀i,getH ((id,some (Res.box cs'))::s.hp) i=getH s.hp i:=fun i=>by
   rw[zac];split
   ·rename_i e;subst e;exact hbx.symm
   ·rfl
  have htk:tokf ((id,some (Res.box cs'))::s.hp)=tokf s.hp:=by funext i;unfold tokf;rw[hsame]
  have:R c G ⟨s.env,(id,some (Res.box cs'))::s.hp⟩ a w:=
   ⟨hr.size,hr.defers,fun i v h=>by rw[htk];exact hr.slots i v h,fun i r h=>by rw[htk];exact hr.heap i r (by rw[<-hsame];exact h),
   fun i j h1 h2=>hr.disj i j (by rw[<-hsame];exact h1) (by rw[<-hsame];exact h2),fun i h=>hr.new i (by rw[<-hsame];exact h),hr.frm,hr.top,
   fun i l h'=>by
    show(G.loc i).head?=l.head?/\(getH ((id,some (Res.box cs'))::s.hp) i).isSome/\tokf ((id,some (Res.box cs'))::s.hp) i=none
    rw[hsame,htk];exact hr.kept i l h'⟩
  exact this.putNone
 ·obtain rfl:o=off:=ho.resolve_left (by omega);obtain⟨ie,z,z1,z2,z3,z4⟩:=hz.inf;have hz0:=zbD (G:=G) (T:=tokf s.hp) (w:=w) z4;have hzr:=zem (by simpa using hz0) n (by omega);have hzs:z.cells.size=k:=by have:=hz0.size;simp at this;omega
  let vl:List Value:=(Builtin.zeroCells z.cells n).toList
  have hvl:vl.toArray=(Array.range (n*zs.length)).map (z.cells[· % z.cells.size]!):=by
   simp only[vl,Builtin.zeroCells,Array.toArray_toList];rw[hzs,hzk]
  have hvr:AllR G (tokf s.hp) w (za3 n zs) vl.toArray:=by rw[hvl];exact hzr
  have hne:za3 n zs≠[]:=fun h=>by
   have:=congrArg List.length h;rw[zeD] at this;have h2:0<n*zs.length:=Nat.mul_pos hn0 (by omega);simp only[xai] at this;omega
  obtain⟨p1,p2,p3⟩:=zbN hput;have p2':=p2.resolve_left hne;have hsz:=hvr.size;have hsv:vl.toArray.size=vl.length:=by simp only[List.size_toArray]
  simp only[List.size_toArray] at hsz;have hzone:∀i (hi:i<zs.length) (hv:i<z.cells.size),z.cells[i].oneCell'=true:=fun i hi hv=>by
   have:=hz0.rel i hi (by simpa using hv);simp only[List.getElem_toArray,Array.getElem_toList] at this;exact this.one (zgx h1 _ (List.getElem_mem hi))
  have hst:=run_storeCells_at c.P bl o et vl 0 us w h3 (by omega) (fun u hu=>by
   simp only[vl,Builtin.zeroCells,Array.toList_map,List.mem_map] at hu;obtain⟨i,_,rfl⟩:=hu;have hm:i % z.cells.size<z.cells.size:=Nat.mod_lt _ (by omega);rw[getElem!_pos z.cells _ hm];exact hzone _ (by omega) hm)
  simp only[Nat.add_zero] at hst;have hrow:PreR G (tokf s.hp) w cs' (us.toList.take o++vl++us.toList.drop (o+vl.length)).toArray:=by
   refine hall.put hvr hput ?_ (fun i=>?_)
   ·simp only[List.size_toArray,xaa,List.length_take,List.length_drop,Array.length_toList];omega
   ·simp only[List.getElem?_toArray];rw[List.append_assoc,List.getElem?_append];simp only[List.length_take,Array.length_toList];by_cases hi:i<o
    ·rw[if_pos (by omega),if_neg (by omega)];simp[hi]
    ·rw[if_neg (by omega),List.getElem?_append];have hm:min o us.size=o:=by omega
     rw[hm];by_cases hi2:i<o+vl.length
     ·rw[if_pos (by omega),if_pos (by omega)]
     ·rw[if_neg (by omega),if_neg (by omega)];rw[List.getElem?_drop,show o+vl.length+(i-o-vl.length)=i by omega];simp
  have hrun:(execOp a.eval ⟨none,.call ⟨.builtin .clear,#[x],#[t]⟩,ty,pos,af,g⟩).run c.P w = .ok (.value (.tuple #[])) (w.setRow bl (us.toList.take o++vl++us.toList.drop (o+vl.length)).toArray):=by
   obtain⟨m,rfl⟩:∃m,n=m+1:=⟨n-1,by omega⟩;have hzv:(zeroValue e).run c.P w = .ok z w:=zlk z1 z3;simp only[vl] at hst;simp[execOp,resolve,invoke,builtin,he,Builtin.clear_,run_underlying ht.und,hzv,hst,vl]
  rw[hrun,Oper.upon_value];exact hK _ _ ⟨G,(hr.setBox hbx h2 h3 h5 hrow).putNone⟩
end
theorem zve {G G':Gh}{T T':TokF}{w:World}{id n k b:Nat}{us:Array Value}{e:TypeId}{x:Value}{cs:List AV}{es:List (List D)} (hx:RelA G T w (.ms id n) x) (h1:G.loc id=[b]) (h2:w.heap[b]?=some (.cells us e (0,0))) (h3:cs.length<=us.size)
  (h5:∀i (hi:i<cs.length) (hv:i<us.size),RelA G T w cs[i] us[i]) (hFb:G'.F b=us.size) (hcell:∀y o,o<G.F y->o<G'.F y/\w.cell? ⟨y,o,none⟩=w.cell? ⟨y,o,none⟩) (hc:zbt n k (cs.take (n*k))=some es):RelA G' T' w (.d (.sl es)) x:=by
 obtain⟨c1,c2,c3,c4⟩:=zdg hc;have c3':n*k<=cs.length:=by rw[List.length_take] at c3;omega
 obtain⟨b',cap,hl,he,hcap⟩:=hx.ms_eq;obtain rfl:=(zcx hl.1 h1).symm;rw[he];refine .d ?_;have hn':n=es.length:=c1.symm;rw[hn'];refine .sl es k b 0 cap (fun x=>us.getD x undef) c2 (by omega) (fun x hx=>?_) (fun i hi j hj=>?_)
 ·have h3':x<cs.length:=by rw[<-c1] at c3';omega
  have hxs:x<us.size:=Nat.lt_of_lt_of_le h3' h3;refine⟨by rw[hFb];omega, ?_⟩;simp[World.cell?,h2,hxs]
 ·have hjk:j<k:=by rw[<-c2 _ (List.getElem_mem hi)];exact hj
  have hltn:i*k+j<n*k:=by
   rw[<-c1];have:(i+1)*k<=es.length*k:=Nat.mul_le_mul_right _ (by omega);rw[Nat.add_mul] at this;omega
  have hlt:i*k+j<cs.length:=by omega
  have hlu:i*k+j<us.size:=by omega
  have h8:=c4 i hi j hj (by rw[List.length_take];omega);rw[List.getElem_take] at h8;have h6:=(h5 _ hlt hlu).toD h8;have h7:us.getD (i*k+j) undef=us[i*k+j]:=by simp[Array.getD,hlu]
  rw[h7];exact h6.mono hcell
def zpy (env:Env) (hp:Hp) (j:Nat):Bool:=
 (match getH hp j with|none=>true|some _=>false)&&(env.all fun x=>match getE env x.1 with|some v=> !zaP j v.ids|none=>true)&&(hp.all fun x=>match getH hp x.1 with|some r=> !zaP j r.ids|none=>true)
theorem zpz:∀ {env:Env}{i:Nat}{v:AV},getE env i=some v->∃u,(i,u)∈env
 |(k,x)::r,i,v,h=>by
  simp only[getE] at h;cases hb:Nat.beq k i with
  |true=>obtain rfl:=Nat.eq_of_beq_eq_true hb;exact⟨x,by simp⟩
  |false=>
   simp only[hb,cond_false] at h;obtain⟨u,hu⟩:=zpz h;exact⟨u,List.mem_cons_of_mem _ hu⟩
theorem zqk {env:Env}{hp:Hp}{j:Nat} (h:zpy env hp j=true):getH hp j=none/\zcW j ⟨env,hp⟩:=by
 simp only[zpy,xad,List.all_eq_true] at h;obtain⟨⟨h1,h2⟩,h3⟩:=h;refine⟨?_,fun i v hv hm=>?_,fun i r hr hm=>?_⟩
 ·cases hg:getH hp j with
  |none=>rfl
  |some x=>simp[hg] at h1
 ·obtain⟨u,hu⟩:=zpz hv;have:=h2 _ hu;rw[show getE env (i,u).1=some v from hv] at this;change (!zaP j v.ids)=true at this
  rw[zaL.2 hm] at this;cases this
 ·obtain⟨u,hu⟩:=zix hr;have:=h3 _ hu;rw[show getH hp (i,u).1=some r from hr] at this;change (!zaP j r.ids)=true at this
  rw[zaL.2 hm] at this;cases this
theorem CWp.tokDrop {c:Ctx}{env:Env}{hp:Hp}{K:Kt}{code:Code} (t i:Nat){n k:Nat}{xs:List (List D)} (ht:getE env t=some (.gl i xs)) (hi:getH hp i=some (.tok n k))
  (hn:CWp c code ⟨(t,.d (.sl xs))::env,(i,none)::hp⟩ K):CWp c code ⟨env,hp⟩ K:=by
 rintro a w ⟨G,hr⟩
 have g1:∀x,x≠i->getH ((i,none)::hp) x=getH hp x:=fun x h1=>by rw[zac,if_neg h1]
 have gi:getH ((i,none)::hp) i=none:=by rw[zac,if_pos rfl]
 have Ti:tokf hp i=some (n,k):=zao.2 hi;have Ti':tokf ((i,none)::hp) i=none:=by unfold tokf;rw[gi]
 have hT:Turn c G ⟨env,hp⟩ w G ((i,none)::hp) [i]:=by
  refine⟨fun x hx=>?_,fun x hx=>rfl,fun b _=>rfl,fun b o ho=>ho,hr.top,fun x hx=>?_,fun x hx hs b hb=>?_,fun x hx y hy hxy h1 h2 b hb=>?_,fun x hx l hl=>?_⟩
  ·simp only[List.mem_cons,List.not_mem_nil,or_false] at hx;exact g1 x hx
  ·simp only[List.mem_cons,List.not_mem_nil,or_false] at hx;subst hx;exact .inr ⟨.inl rfl,fun p hp'=>by rw[Ti'] at hp';cases hp'⟩
  ·simp only[List.mem_cons,List.not_mem_nil,or_false] at hx;subst hx;rw[gi] at hs;cases hs
  ·simp only[List.mem_cons,List.not_mem_nil,or_false] at hx hy;exact absurd (hx.trans hy.symm) hxy
  ·have hk:=hr.kept x l hl;simp only[List.mem_cons,List.not_mem_nil,or_false] at hx;subst hx;have:=hk.2.2;rw[show tokf (St.mk env hp).hp x=some (n,k) from Ti] at this;cases this
 have hR:=hT.fin hr (fun x hx r hxr=>by
  simp only[List.mem_cons,List.not_mem_nil,or_false] at hx;subst hx;rw[gi] at hxr;cases hxr)
 refine hn a w ⟨G,hR.slot ?_⟩;have hs:=hr.slots t _ ht;cases hs with
 |gl h h2=>exact .d h
theorem R.tokMove {c:Ctx}{G:Gh}{s:St}{a:Act}{w:World} (hr:R c G s a w) (i j:Nat){n k:Nat} (m:Nat) (hi:getH s.hp i=some (.tok n k)) (h0:getH s.hp j=none) (hocc:zcW j s):
  ∃G':Gh,R c G' ⟨s.env,(j,some (.tok m k))::(i,none)::s.hp⟩ a w/\G'.F=G.F/\G'.loc j=G.loc i/\tokf ((j,some (Res.tok m k))::(i,none)::s.hp) j=some (m,k):=by
 have hji:j≠i:=fun e=>by subst e;rw[h0] at hi;cases hi
 have g1:∀x,x≠j->x≠i->getH ((j,some (Res.tok m k))::(i,none)::s.hp) x=getH s.hp x:=fun x h1 h2=>by
  rw[zac,if_neg h1,zac,if_neg h2]
 have gj:getH ((j,some (Res.tok m k))::(i,none)::s.hp) j=some (.tok m k):=by rw[zac,if_pos rfl]
 have gi:getH ((j,some (Res.tok m k))::(i,none)::s.hp) i=none:=by rw[zac,if_neg (fun e=>hji e.symm),zac,if_pos rfl]
 have Ti:tokf s.hp i=some (n,k):=zao.2 hi;have Tj:tokf ((j,some (Res.tok m k))::(i,none)::s.hp) j=some (m,k):=zao.2 gj;have Ti':tokf ((j,some (Res.tok m k))::(i,none)::s.hp) i=none:=by unfold tokf;rw[gi]
 let G':Gh:={ G with loc:=fun x=>bif Nat.beq x j then G.loc i else G.loc x }
 have lj:G'.loc j=G.loc i:=by simp[G']
 have lo:∀x,x≠j->G'.loc x=G.loc x:=fun x h=>by simp[G',zcn h]
 have hsi:(getH s.hp i).isSome:=by rw[hi];rfl
 have hT:Turn c G s w G' ((j,some (Res.tok m k))::(i,none)::s.hp) [i,j]:=by
  refine⟨fun x hx=>?_,fun x hx=>?_,fun b _=>rfl,fun b o ho=>ho,hr.top,fun x hx=>?_,fun x hx hs b hb=>?_,fun x hx y hy hxy h1 h2 b hb=>?_,fun x hx l hl=>?_⟩
  ·simp only[List.mem_cons,List.not_mem_nil,or_false,not_or] at hx;exact g1 x hx.2 hx.1
  ·simp only[List.mem_cons,List.not_mem_nil,or_false,not_or] at hx;exact lo x hx.2
  ·simp only[List.mem_cons,List.not_mem_nil,or_false] at hx;rcases hx with rfl|rfl
   ·exact .inr ⟨.inl (lo _ (fun e=>hji e.symm)),fun p hp'=>by rw[Ti'] at hp';cases hp'⟩
   ·exact .inl hocc
  ·simp only[List.mem_cons,List.not_mem_nil,or_false] at hx;rcases hx with rfl|rfl
   ·rw[gi] at hs;cases hs
   ·exact⟨i,by simp,hsi,by rw[lj] at hb;exact hb⟩
  ·simp only[List.mem_cons,List.not_mem_nil,or_false] at hx hy;rcases hx with rfl|rfl
   ·rw[gi] at h1;cases h1
   ·rcases hy with rfl|rfl
    ·rw[gi] at h2;cases h2
    ·exact absurd rfl hxy
  ·have hk:=hr.kept x l hl;simp only[List.mem_cons,List.not_mem_nil,or_false] at hx;rcases hx with rfl|rfl
   ·have:=hk.2.2;rw[Ti] at this;cases this
   ·have:=hk.2.1;rw[h0] at this;cases this
 have hR:=hT.fin hr (fun x hx r hxr=>by
  simp only[List.mem_cons,List.not_mem_nil,or_false] at hx;rcases hx with rfl|rfl
  ·rw[gi] at hxr;cases hxr
  ·rw[gj] at hxr;cases hxr;intro b hb;rw[lj] at hb;exact hr.heap i _ hi b hb)
 exact⟨G',hR,rfl,lj,Tj⟩
theorem CWp.tokRen {c:Ctx}{env:Env}{hp:Hp}{K:Kt}{code:Code} (t i j:Nat){n k:Nat}{xs:List (List D)} (ht:getE env t=some (.gl i xs)) (hi:getH hp i=some (.tok n k)) (hf:zpy env hp j=true)
  (hn:CWp c code ⟨(t,.gl j xs)::env,(j,some (.tok n k))::(i,none)::hp⟩ K):CWp c code ⟨env,hp⟩ K:=by
 rintro a w ⟨G,hr⟩
 obtain⟨h0,hocc⟩:=zqk hf;have Ti:tokf hp i=some (n,k):=zao.2 hi;obtain⟨G',hR,hF,lj,Tj⟩:=hr.tokMove i j n hi h0 hocc;refine hn a w ⟨G',hR.slot ?_⟩;have hs:=hr.slots t _ ht;cases hs with
 |gl h h2=>
  refine .gl (by rw[hF];exact h) (fun n' k' hT'=>?_);have hT2:tokf ((j,some (Res.tok n k))::(i,none)::hp) j=some (n',k'):=hT';rw[Tj] at hT2;cases hT2
  obtain⟨q1,q2⟩:=h2 n k Ti;refine⟨q1,fun hn'=>⟨(q2 hn').1, ?_⟩⟩;have:=(q2 hn').2;unfold Tip at this ⊢;rw[lj,hF];exact this
section
variable {c:Ctx}{all:Array Oper}{chk:List Rec->Prop}{os:List Oper}{recs:List Rec}{env:Env}{hp:Hp}{Q:St->Prop}
variable {d ty:Nat}{pos:String}{af:Array Edge}{g:Option (Nat×Bool)}{pg:List (Nat×AV)}{t:TypeId}{x:Operand}
theorem Walk.cutV_h {id e k yb:Nat} (j:Nat){xs:List (List D)}{o:Operand}{kd:IntKind}{n:Int}{b:Nat} (ht:SlT c.P t e k yb) (hg:GH all env g pg) (hd:Nat.blt d c.n=true)
  (hx:opd env x=some (.gv id xs)) (htok:getH hp id=some (.tok xs.length k)) (ho:opd env o=some (.d (.int kd n))) (hi:n = ↑b) (hb:b<=xs.length) (hpos:0<xs.length) (hf:zaw env hp [j]=true)
  (hn:Walk c all chk os (zam (pg++(opF x (.gv id xs)++opF o (.d (.int kd n)))) [(id,.tok xs.length k)] [j] ⟨some (d,.gv j (xs.take b)),[(j,some (.tok b k)),(id,none)]⟩::recs)
   ⟨(d,.gv j (xs.take b))::env,(j,some (.tok b k))::(id,none)::hp⟩ Q):
  Walk c all chk (⟨some d,.slice t x none (some o) none,ty,pos,af,g⟩::os) recs ⟨env,hp⟩ Q:=by
 refine⟨pg++(opF x (.gv id xs)++opF o (.d (.int kd n))),[(id,.tok xs.length k)],[j],_, ?_,zau hg.facts (zau (zaU hx) (zaU ho)),hh1 htok,zbb hf,hn⟩;intro s a w hrel hp' hh hcr K Q' hK;obtain⟨G,hr⟩:=hrel;have e1:=hr.opd (zaV hx (fun p hm=>hp' p (by simp[hm])));have e2:=hr.opd (zaV ho (fun p hm=>hp' p (by simp[hm])));have htk:=hh1' hh;obtain⟨h0,hocc⟩:=hcr j (by simp);obtain⟨⟨ad,cap0,hv0⟩,hcl⟩:=e1.gv_inv;have Ti:tokf s.hp id=some (xs.length,k):=zao.2 htk;obtain⟨hkx,htip⟩:=(hcl _ _ Ti).2 rfl;rcases htip with ⟨_,q2,_⟩|⟨bl,cap,cs,et,q1,q2,q3,q4,q5,q6,q7⟩
 ·omega
 obtain⟨G',hR,hF,lj,Tj⟩:=hr.tokMove id j b htk h0 hocc;unfold wpO;rw[if_pos (hg.gf.wanted hr (fun p hm=>hp' p (by simp[hm])))];unfold Oper.wp;have hbd:=zeB (P:=c.P) (w:=w) true xs.length cap (lo:=none) (hi:=some (.int kd b)) (a:=0) (b:=b) (.inl ⟨rfl,rfl⟩) (.inr ⟨kd,rfl⟩) (Nat.zero_le _) (by omega);have hrun:(execOp a.eval ⟨some d,.slice t x none (some o) none,ty,pos,af,g⟩).run c.P w = .ok (.value (.slice (some ⟨bl,0,none⟩) b cap)) w:=by
  simp only[execOp,e2.int_eq,hi,q2,Option.map_none,Option.map_some,Instr.sliceAt,Sem.run_bind,run_underlying ht.und,Result.andThen_ok,Instr.slice,hbd,ht.run_size,Sem.run_pure,Nat.zero_mul,Nat.sub_zero,zb3,Nat.zero_add,ite_self]
 rw[hrun,Oper.upon_value];have hl:(xs.take b).length=b:=by rw[List.length_take];omega
 have hA:RelA G' (tokf ((j,some (Res.tok b k))::(id,none)::s.hp)) w (.gv j (xs.take b)) (.slice (some ⟨bl,0,none⟩) b cap):=by
  refine .gv ⟨some ⟨bl,0,none⟩,cap,by rw[hl]⟩ (fun n' k' hT'=>?_);rw[Tj] at hT';cases hT'
  refine⟨by omega,fun _=>⟨fun y hy=>hkx y (List.mem_of_mem_take hy),.inr ⟨bl,cap,cs,et,by rw[lj];exact q1,rfl,by rw[hF];exact q3,q4,q5,by omega,fun i hi' jj hj'=>?_⟩⟩⟩;have hix:i<xs.length:=by rw[hl] at hi';omega
  have h9:=q7 i hix jj (by simpa [List.getElem_take] using hj');rw[hF];simpa [List.getElem_take] using h9
 exact hK _ _ ⟨G',hR.put hA hd⟩
end
theorem FnD.glD {P:Program}{f:FuncId}{i n k:Nat}{args:List AV}{xs:List (List D)} (h:FnD P f args [] (.gl i xs) [(i,some (.tok n k))]):FnD P f args [] (.d (.sl xs)) []:=by
 intro G w vals hok;refine(h G w vals hok).mono ?_;rintro e w' ⟨v,r',hp',G',rfl,⟨rfl,rfl⟩,hret⟩
 refine⟨v,_,_,G',rfl,⟨rfl,rfl⟩, ?_,fun id x hx=>(by cases hx),fun id id' h1=>(by cases h1),fun id h1=>(by cases h1),hret.frm,hret.top,fun id hi=>(by simp[zbY,getH] at hi)⟩;have:=hret.res;cases this with
 |gl h1 h2=>exact .d h1
theorem FnD.gvD {P:Program}{f:FuncId}{i k:Nat}{args:List AV}{xs:List (List D)} (h:FnD P f args [] (.gv i xs) [(i,some (.tok xs.length k))]):FnD P f args [] (.d (.sl xs)) []:=by
 intro G w vals hok;refine(h G w vals hok).mono ?_;rintro e w' ⟨v,r',hp',G',rfl,⟨rfl,rfl⟩,hret⟩
 have gi:getH ([(i,some (Res.tok xs.length k))]++[]) i=some (.tok xs.length k):=by simp[getH]
 have Ti:tokf ([(i,some (Res.tok xs.length k))]++[]) i=some (xs.length,k):=zao.2 gi;have hown:∀b,b∉zcP G []:=fun b hb=>by simp[zcP] at hb
 have hnew:∀b,b∈G'.loc i->w.heap.size<=b:=fun b hb=>(hret.new i (by rw[gi];rfl) b hb).resolve_left (hown b);have hlt:∀b,b∈G'.loc i->b<w'.heap.size:=hret.heap i _ gi;have hres:=hret.res;obtain⟨hv,hcl⟩:=hres.gv_inv;obtain⟨hkx,htip⟩:=(hcl _ _ Ti).2 rfl;rcases htip with ⟨_,q2,q3⟩|⟨bl,cap,cs,et,q1,q2,q3,q4,q5,q6,q7⟩
 ·have hxs:xs=[]:=List.eq_nil_of_length_eq_zero q2;subst hxs;refine⟨v,_,_,G',rfl,⟨rfl,rfl⟩, ?_,fun id x hx=>(by cases hx),fun id id' h1=>(by cases h1),fun id h1=>(by cases h1),hret.frm,hret.top,fun id hi=>(by simp[zbY,getH] at hi)⟩;rw[q3];exact .d .nil
 ·let G2:Gh:={ G' with F:=fun x=>bif Nat.beq x bl then cs.size else G'.F x }
  have hin:G2.F bl=cs.size:=by simp[G2]
  have hout:∀x,x≠bl->G2.F x=G'.F x:=fun x hx=>by simp[G2,zcn hx]
  have hbl:bl∈G'.loc i:=by rw[q1];simp
  have hle:∀b o,o<G'.F b->o<G2.F b:=fun x o ho=>by
   by_cases hx:x=bl
   ·subst hx;rw[q3] at ho;omega
   ·rw[hout x hx];exact ho
  refine⟨v,_,_,G2,rfl,⟨rfl,rfl⟩, ?_,fun id x hx=>(by cases hx),fun id id' h1=>(by cases h1),fun id h1=>(by cases h1), ?_,fun x hx=>?_,fun id hi=>(by simp[zbY,getH] at hi)⟩
  ·rw[q2];have hsz:xs.length*k<=cs.size:=Nat.le_trans (Nat.mul_le_mul_right _ q6) q5;refine .d (.sl xs k bl 0 cap (fun n=>cs.getD n undef) hkx q6 (fun q hq=>⟨by rw[hin];omega, ?_⟩) (fun q hq jj hj=>?_))
   ·have:q<cs.size:=by omega
    simp[World.cell?,q4,this]
   ·exact(q7 q hq jj hj).mono (fun b o ho=>⟨hle b o ho,rfl⟩)
  ·have hf:=hret.frm;exact⟨hf.os,hf.tape,hf.output,hf.size,fun x hx hn=>⟨(hf.block x hx hn).1,by
    rw[hout x (fun e=>by subst e;have:=hnew x hbl;omega)];exact(hf.block x hx hn).2⟩,fun x o ho=>⟨hle x o (hf.cell x o ho).1,(hf.cell x o ho).2⟩⟩
  ·by_cases hx':x=bl
   ·subst hx';have:=hlt x hbl;omega
   ·rw[hout x hx'];exact hret.top x hx
theorem zoy {zs:List AV}:∀ {n i j:Nat},i<n->j<zs.length->(za3 n zs)[i*zs.length+j]?=zs[j]?
 |n+1,0,j,_,hj=>by
  simp only[za3,Nat.zero_mul,Nat.zero_add];rw[List.getElem?_append_left hj]
 |n+1,i+1,j,hi,hj=>by
  simp only[za3];rw[List.getElem?_append_right (by rw[Nat.add_mul];omega),show(i+1)*zs.length+j-zs.length=i*zs.length+j by rw[Nat.add_mul];omega];exact zoy (by omega) hj
section
variable {c:Ctx}
theorem R.freshV {G:Gh}{s:St}{a:Act}{w:World} (hr:R c G s a w){id k nc:Nat}{es:List (List D)}{cells:Array Value}{e:TypeId} (htok:getH s.hp id=some (.tok 0 k)) (hpos:0<es.length)
  (hk:∀x,x∈es->x.length=k) (hcs:cells.size=nc*k) (hn:es.length<=nc)
  (hrow:∀i (hi:i<es.length) j (hj:j<es[i].length),RelD G.F w es[i][j] (cells.getD (i*k+j) undef)):
  ∃G',R c G' { s with hp:=(id,some (.tok es.length k))::s.hp } a (w.drew.alloc (.cells cells e))/\
   RelA G' (tokf ((id,some (.tok es.length k))::s.hp)) (w.drew.alloc (.cells cells e)) (.gv id es) (.slice (some ⟨w.heap.size,0,none⟩) es.length nc):=by
 let G':Gh:={ F:=G.F,loc:=fun j=>bif Nat.beq j id then [w.heap.size] else G.loc j }
 have hlt:∀b o,o<G.F b->b<w.heap.size:=fun b o ho=>by
  rcases Nat.lt_or_ge b w.heap.size with h|h
  ·exact h
  ·rw[hr.top b h] at ho;omega
 have hcell:∀b o,o<G.F b->o<G'.F b/\(w.drew.alloc (.cells cells e)).cell? ⟨b,o,none⟩=w.cell? ⟨b,o,none⟩:=fun b o ho=>by
  have hb:=hlt b o ho;exact⟨ho,by rw[World.cell?_alloc_lt w.drew _ _ hb];rfl⟩
 have hlocne:∀j,j≠id->G'.loc j=G.loc j:=fun j hj=>by
  have:Nat.beq j id=false:=by
   cases h:Nat.beq j id with
   |true=>exact absurd (Nat.eq_of_beq_eq_true h) hj
   |false=>rfl
  simp[G',this]
 have hlocid:G'.loc id=[w.heap.size]:=by simp[G']
 have hT':tokf ((id,some (.tok es.length k))::s.hp) id=some (es.length,k):=zao.2 (by rw[zac,if_pos rfl]);refine⟨G',hr.retok (G':=G') htok hpos hcell hlocne (fun b hb _=>⟨zdd (w:=w.drew) hb,rfl⟩) (fun b hb=>by rw[hlocid] at hb;simp at hb;subst hb;simp)
  (fun b hb=>by rw[hlocid] at hb;simp at hb;exact .inr (by omega)) rfl rfl rfl (by simp) (fun b hb=>?_), ?_⟩
 ·have hb':w.heap.size+1<=b:=by simpa using hb
  exact hr.top b (by omega)
 refine .gv ⟨_,_,rfl⟩ (fun n' k' hm'=>?_);rw[hT'] at hm';cases hm'
 exact⟨Nat.le_refl _,fun _=>⟨hk,.inr ⟨w.heap.size,nc,cells,e,hlocid,rfl,hr.top _ (Nat.le_refl _),zdF (w:=w.drew),by rw[hcs];exact Nat.le_refl _,hn,fun i hi j hj=>(hrow i hi j hj).mono hcell⟩⟩⟩
end
section
variable {c:Ctx}{all:Array Oper}{chk:List Rec->Prop}{os:List Oper}{recs:List Rec}{env:Env}{hp:Hp}{Q:St->Prop}
variable {d ty:Nat}{pos:String}{af:Array Edge}{g:Option (Nat×Bool)}{pg:List (Nat×AV)}{t:TypeId}{x y:Operand}
theorem RelA.nils_eq {G:Gh}{T:TokF}{w:World}{v:Value} (h:RelA G T w .nils v):v = .slice none 0 0:=by cases h;rfl
theorem Walk.capN {at_ e k yb:Nat} (ht:SlT c.P at_ e k yb) (hg:GH all env g pg) (hd:Nat.blt d c.n=true) (hx:opd env x=some .nils)
  (hn:Walk c all chk os (zam (pg++opF x .nils) [] [] ⟨some (d,.d (.i 0)),[]⟩::recs) ⟨(d,.d (.i 0))::env,hp⟩ Q):
  Walk c all chk (⟨some d,.call ⟨.builtin .cap,#[x],#[at_]⟩,ty,pos,af,g⟩::os) recs ⟨env,hp⟩ Q:=
 xbb hg hd hx (fun a G T w h=>⟨.int .i64 (0:Nat),by
  simp[execOp,resolve,invoke,builtin,h.nils_eq,Builtin.cap_,run_underlying ht.und,goInt],.d (.int _ _)⟩) hn
theorem Walk.cutN_h {e k yb:Nat}{o:Operand}{kd:IntKind} (ht:SlT c.P t e k yb) (hg:GH all env g pg) (hd:Nat.blt d c.n=true)
  (hx:opd env x=some .nils) (ho:opd env o=some (.d (.int kd 0)))
  (hn:Walk c all chk os (zam (pg++(opF x .nils++opF o (.d (.int kd 0)))) [] [] ⟨some (d,.nils),[]⟩::recs) ⟨(d,.nils)::env,hp⟩ Q):
  Walk c all chk (⟨some d,.slice t x none (some o) none,ty,pos,af,g⟩::os) recs ⟨env,hp⟩ Q:=by
 refine xbc hg hd hx ho (fun a G T w h1 h2=>⟨.slice none 0 0, ?_,.nils⟩) hn;have hbd:=zeB (P:=c.P) (w:=w) true 0 0 (lo:=none) (hi:=some (.int kd (0:Nat))) (a:=0) (b:=0) (.inl ⟨rfl,rfl⟩) (.inr ⟨kd,rfl⟩) (Nat.le_refl _) (Nat.le_refl _);have e2:a.eval o = .int kd ((0:Nat):Int):=h2.int_eq;simp only[execOp,e2,h1.nils_eq,Option.map_none,Option.map_some,Instr.sliceAt,Sem.run_bind,run_underlying ht.und,Result.andThen_ok,Instr.slice,hbd,ht.run_size,Sem.run_pure,Nat.zero_mul,Nat.sub_zero,ite_self]
theorem Walk.growZ {e k yb n:Nat} (id:Nat){zs:List AV}{zr:List D}{tn:TypeId}{kn:IntKind}{m:Int} (ht:SlT c.P t e k yb) (htn:c.P.underlying tn=some (.int kn)) (hz:TyZ c.P e k zs) (hzk:zs.length=k) (hk:0<k) (hzr:toDL zs=some zr)
  (hg:GH all env g pg) (hd:Nat.blt d c.n=true) (hx:opd env x=some .nils) (hy:opd env y=some (.d (.i m))) (hm:m = ↑n) (hn0:0<n) (hb:n*yb<=281474976710656) (h63:(n:Int)<=9223372036854775807) (hf:zaw env hp [id]=true)
  (hn:Walk c all chk os (zam (pg++(opF x .nils++opF y (.d (.i m)))) [] [id] ⟨some (d,.gv id (List.replicate n zr)),[(id,some (.tok n k)),(id,some (.tok 0 k))]⟩::recs)
   ⟨(d,.gv id (List.replicate n zr))::env,(id,some (.tok n k))::(id,some (.tok 0 k))::hp⟩ Q):
  Walk c all chk (⟨some d,.call ⟨.builtin .append,#[x,y],#[t,tn]⟩,ty,pos,af,g⟩::os) recs ⟨env,hp⟩ Q:=by
 refine⟨pg++(opF x .nils++opF y (.d (.i m))),[],[id],_, ?_,zau hg.facts (zau (zaU hx) (zaU hy)),by simp,zbb hf,hn⟩;intro s a w hrel hp' hh hcr K Q' hK;obtain⟨G,hr⟩:=hrel;have e1:=(hr.opd (zaV hx (fun p hm=>hp' p (by simp[hm])))).nils_eq;have e2:=(hr.opd (zaV hy (fun p hm=>hp' p (by simp[hm])))).int_eq;obtain⟨h0,hocc⟩:=hcr id (by simp);obtain⟨G1,hr1,_⟩:=hr.mkTokV k h0 hocc;obtain⟨ie,hi1,hi2,hi3⟩:=ht.inf;obtain⟨i',z,z1,z2,z3,z4⟩:=hz.inf;rw[hi1] at z1;cases z1
 have hrun:=Go.Lib.run_append_nil_zeros (P:=c.P) w t tn ty e ie z .i64 kn ht.und htn hi1 z3 n hn0 (by omega) h63 (by rw[hi3];exact hb);have hz0:=zbD (G:=G1) (T:=tokf ((id,some (.tok 0 k))::s.hp)) (w:=w) z4;have hzz:=zem (by simpa using hz0) n (by omega);obtain⟨c1,c2⟩:=zhK hzr;have hsz:z.cells.size=k:=by have:=hz0.1;simp at this;omega
 have hle:n<=grownCap w n 0 e:=by have:=grownCap_ge w n 0 e;omega
 have ez:Builtin.zeroCells z.cells n=(Array.range (n*zs.length)).map (z.cells[· % z.cells.size]!):=by
  unfold Builtin.zeroCells;rw[hsz,hzk]
 rw[<-ez] at hzz;have hl:(List.replicate n zr).length=n:=List.length_replicate;have hcs:(Builtin.zeroCells z.cells n++Builtin.zeroCells z.cells (grownCap w n 0 e-n)).size=grownCap w n 0 e*k:=by
  simp only[Array.size_append,size_zeroCells,hsz,<-Nat.add_mul];congr 1;omega
 have key:∀i (hi:i<(List.replicate n zr).length) j (hj:j<(List.replicate n zr)[i].length),RelD G1.F w (List.replicate n zr)[i][j] ((Builtin.zeroCells z.cells n++Builtin.zeroCells z.cells (grownCap w n 0 e-n)).getD (i*k+j) undef):=by
  intro i hi j hj;have hi2:i<n:=by simpa using hi
  have hj2:j<zr.length:=by simpa using hj
  have hj3:j<zs.length:=by omega
  have hlt:i*k+j<(Builtin.zeroCells z.cells n).size:=by
   rw[size_zeroCells,hsz];have:(i+1)*k<=n*k:=Nat.mul_le_mul_right _ (by omega);rw[Nat.add_mul] at this;omega
  have hlz:i*k+j<(za3 n zs).length:=by have:=hzz.1;rw[<-this];exact hlt
  have h5:=hzz.2 (i*k+j) hlz hlt;have h6:=zoy (zs:=zs) hi2 hj3;rw[hzk,List.getElem?_eq_getElem hlz,List.getElem?_eq_getElem hj3] at h6;rw[Option.some.inj h6] at h5;have h7:=h5.toD (c2 j hj3 hj2);have e5:(Builtin.zeroCells z.cells n++Builtin.zeroCells z.cells (grownCap w n 0 e-n)).getD (i*k+j) undef=(Builtin.zeroCells z.cells n)[i*k+j]:=by
   rw[Array.getD_eq_getD_getElem?,Array.getElem?_append_left hlt,Array.getElem?_eq_getElem hlt];rfl
  rw[e5];simp only[List.getElem_replicate];exact h7
 obtain⟨G',hR,hA⟩:=hr1.freshV (nc:=grownCap w n 0 e) (e:=e) (es:=List.replicate n zr) (by rw[zac,if_pos rfl]) (by rw[hl];exact hn0) (fun y hy=>by obtain⟨_,rfl⟩:=List.mem_replicate.1 hy;omega) hcs (by rw[hl];exact hle) key;rw[hl] at hR hA;unfold wpO;rw[if_pos (hg.gf.wanted hr (fun p hm=>hp' p (by simp[hm])))];unfold Oper.wp;have:(execOp a.eval ⟨some d,.call ⟨.builtin .append,#[x,y],#[t,tn]⟩,ty,pos,af,g⟩).run c.P w = .ok (.value (.slice (some ⟨w.heap.size,0,none⟩) n (grownCap w n 0 e))) (w.drew.alloc (.cells (Builtin.zeroCells z.cells n++Builtin.zeroCells z.cells (grownCap w n 0 e-n)) e)):=by
  simp only[execOp,resolve,invoke,builtin,Sem.run_bind,Sem.run_pure,Result.andThen_ok,List.map_toArray,xae,List.map_nil,e1,e2,hm,hrun]
 rw[this,Oper.upon_value];exact hK _ _ ⟨G',hR.put hA hd⟩
end
end Go.Proofs.YtpgdedpljcedpaaGreat
namespace Go.Proofs.YtpgdedpljcedpaaGreat
open Go
set_option linter.unusedSimpArgs false
set_option linter.unusedVariables false
set_option maxRecDepth 100000
set_option maxHeartbeats 2000000
mutual
theorem zrZ:∀v:Val,zrY v v=true
 | .mk _ _ ks=>by simp[zrY,zkY ks]
theorem zkY:∀l:List Val,zmX l l=true
 | []=>rfl
 |v::r=>by simp[zmX,zrZ v,zkY r]
end
theorem Val.c_len (v:Val):v.c.length=3:=by cases v;rfl
theorem Val.cs_rows {l:List Val}:∀x,x∈Val.cs l->x.length=3:=by
 intro x hx;rw[Val.cs_eq] at hx;obtain⟨y,_,rfl⟩:=List.mem_map.1 hx;exact y.c_len
theorem Val.cs_nil (l:List Val):Val.cs l=[]↔l=[]:=by rw[Val.cs_eq];simp
mutual
def mVal:Val->Nat
 | .mk _ _ ks=>zmd ks
def zmd:List Val->Nat
 | []=>0
 |v::r=>1+mVal v+zmd r
end
mutual
def Val.szM:Val->Int
 | .mk _ _ ks=>2+Vals.szM ks
def Vals.szM:List Val->Int
 | []=>0
 |v::r=>v.szM+Vals.szM r
end
mutual
def Val.one (k:Int):Val->Val
 | .mk _ _ ks=> .mk k (k+1) (Vals.one (k+1+1) ks)
def Vals.one (k:Int):List Val->List Val
 | []=>[]
 |v::r=>v.one k::Vals.one (k+v.szM) r
end
mutual
theorem Val.szM_nn:∀v:Val,0<=v.szM
 | .mk _ _ ks=>by have:=Vals.szM_nn ks;simp only[Val.szM];omega
theorem Vals.szM_nn:∀l:List Val,0<=Vals.szM l
 | []=>by simp[Vals.szM]
 |v::r=>by have:=Val.szM_nn v;have:=Vals.szM_nn r;simp only[Vals.szM];omega
end
mutual
theorem Val.szM_le:∀v:Val,v.szM<=2+2*(mVal v:Int)
 | .mk _ _ ks=>by have:=Vals.szM_le ks;simp only[Val.szM,mVal];omega
theorem Vals.szM_le:∀l:List Val,Vals.szM l<=2*(zmd l:Int)
 | []=>by simp[Vals.szM,zmd]
 |v::r=>by have:=Val.szM_le v;have:=Vals.szM_le r;simp only[Vals.szM,zmd];omega
end
def zaC (w:List Data):Nat->Ty->Val->Bool
 |0,_,_=>false
 |n+1,t,v=>if t.data = -1 then decide (v.ctor = -1)&&(decide (0<=v.num)&&(decide (v.num<=9)&&decide (v.kids.length=0)))
   else if v.num=0/\v.ctor∈zaM w t then all2 (zaC w n) (zab w t v.ctor) v.kids else false
def zcF (g:Ty->Val->Int->Bool×Int):List Ty->List Val->Int->Bool×Int
 |a::r,b::s,c=>if (g a b c).1 then zcF g r s (g a b c).2 else (false,(g a b c).2)
 |_,_,c=>(true,c)
def zaY (w:List Data):Nat->Ty->Val->Int->Bool×Int
 |0,_,_,c=>(false,c+1)
 |n+1,t,v,c=>if 60<c+1 then (false,c+1)
   else if t.data = -1 then (decide (v.ctor = -1)&&(decide (0<=v.num)&&(decide (v.num<=9)&&decide (v.kids.length=0))),c+1)
   else if v.num=0/\v.ctor∈zaM w t then (if (zab w t v.ctor).length=v.kids.length then zcF (zaY w n) (zab w t v.ctor) v.kids (c+1) else (false,c+1))
   else (false,c+1)
theorem zp5 {w:List Data}{n:Nat} (ih:∀t v c,(zaY w n t v c).1=(zaC w n t v&&decide (c+(v.size:Int)<=60))/\((zaY w n t v c).1=true->(zaY w n t v c).2=c+v.size)):
  ∀(a:List Ty) (b:List Val) (c:Int),a.length=b.length->c<=60->(zcF (zaY w n) a b c).1=(all2 (zaC w n) a b&&decide (c+(Vals.size b:Int)<=60))/\((zcF (zaY w n) a b c).1=true->(zcF (zaY w n) a b c).2=c+Vals.size b)
 | [],[],c,_,hc=>by simp[zcF,all2,Vals.size,hc]
 |x::r,y::s,c,hl,hc=>by
  obtain⟨h1,h2⟩:=ih x y c;simp only[zcF,all2,Vals.size];cases hh:(zaY w n x y c).1 with
  |true=>
   have h3:=h2 hh;rw[hh] at h1;have h4:=h1.symm;simp only[xad,decide_eq_true_eq] at h4;obtain⟨h5,h6⟩:=zp5 ih r s (zaY w n x y c).2 (by simpa using hl) (by omega);simp only[if_true];rw[h5];refine⟨?_,fun hx=>?_⟩
   ·rw[h4.1,h3,Bool.true_and];congr 1
    exact decide_eq_decide.2 (by push_cast;omega)
   ·rw[<-h5] at hx;rw[h6 hx,h3];push_cast;omega
  |false=>
   rw[hh] at h1;simp only[Bool.false_eq_true,if_false,false_implies,and_true];have h4:=h1.symm;simp only[Bool.and_eq_false_imp,decide_eq_false_iff_not] at h4;symm
   cases hf:zaC w n x y with
   |false=>simp
   |true=>
    have:=h4 hf;have h7:¬(c+((y.size+Vals.size s:Nat):Int)<=60):=by push_cast;omega
    simp only[Bool.and_eq_false_imp];intro _;exact decide_eq_false h7
 | [],_::_,_,hl,_=>by simp at hl
 |_::_,[],_,hl,_=>by simp at hl
theorem xay {l:List Val} (h:l.length=0):Vals.size l=0:=by
 cases l with
 |nil=>rfl
 |cons x r=>simp at h
theorem zln (w:List Data):∀(n:Nat) (t:Ty) (v:Val) (c:Int),(zaY w n t v c).1=(zaC w n t v&&decide (c+(v.size:Int)<=60))/\((zaY w n t v c).1=true->(zaY w n t v c).2=c+v.size)
 |0,t,v,c=>by simp[zaY,zaC]
 |n+1,t,v,c=>by
  have hsz:=Val.size_eq v;unfold zaY zaC;by_cases h1:60<c+1
  ·rw[if_pos h1];simp only[Bool.false_eq_true,false_implies,and_true];symm
   simp only[Bool.and_eq_false_imp,decide_eq_false_iff_not];intro _;omega
  ·rw[if_neg h1];by_cases h2:t.data = -1
   ·rw[if_pos h2,if_pos h2];refine⟨?_,fun hx=>?_⟩
    ·by_cases hk:v.kids.length=0
     ·have:=xay hk;have h3:decide (c+(v.size:Int)<=60)=true:=decide_eq_true (by omega);rw[h3,Bool.and_true]
     ·simp[hk]
    ·simp only[xad,decide_eq_true_eq] at hx;have:=xay hx.2.2.2;simp only;omega
   ·rw[if_neg h2,if_neg h2];by_cases h3:v.num=0/\v.ctor∈zaM w t
    ·rw[if_pos h3,if_pos h3];by_cases h4:(zab w t v.ctor).length=v.kids.length
     ·rw[if_pos h4];obtain⟨h5,h6⟩:=zp5 (fun t v c=>zln w n t v c) (zab w t v.ctor) v.kids (c+1) h4 (by omega);refine⟨?_,fun hx=>?_⟩
      ·rw[h5];congr 1
       exact decide_eq_decide.2 (by omega)
      ·rw[h6 hx];omega
     ·rw[if_neg h4,zfD h4];simp
    ·rw[if_neg h3,if_neg h3];simp
mutual
def cntV (m:Int):Val->Int
 | .mk _ _ ks=>cntL m 1 ks
def cntL (m n:Int):List Val->Int
 | []=>n
 |k::r=>if n<=m then cntL m (n+cntV (m-n) k) r else n
end
theorem zst {m n:Int}{l:List Val} (h:¬n<=m):cntL m n l=n:=by cases l<;>simp[cntL,h]
mutual
theorem zqJ:∀(v:Val) (m:Int),1<=cntV m v/\cntV m v<=v.size
 | .mk _ _ ks,m=>by
  have:=zm8 ks m 1 (by omega);simp only[cntV,Val.size];push_cast;omega
theorem zm8:∀(l:List Val) (m n:Int),1<=n->1<=cntL m n l/\cntL m n l<=n+Vals.size l
 | [],m,n,h=>by simp[cntL,Vals.size];omega
 |k::r,m,n,h=>by
  have h1:=zqJ k (m-n);have h2:=zm8 r m (n+cntV (m-n) k) (by omega);simp only[cntL,Vals.size];split
  ·push_cast;omega
  ·push_cast;omega
end
mutual
theorem ztz:∀(v:Val) (m:Int),(cntV m v<=m↔(v.size:Int)<=m)/\(cntV m v<=m->cntV m v=v.size)
 | .mk _ _ ks,m=>by
  have:=zpi ks m 1;simp only[cntV,Val.size];push_cast;exact this
theorem zpi:∀(l:List Val) (m n:Int),(cntL m n l<=m↔n+(Vals.size l:Int)<=m)/\(cntL m n l<=m->cntL m n l=n+Vals.size l)
 | [],m,n=>by simp[cntL,Vals.size]
 |k::r,m,n=>by
  have h1:=ztz k (m-n);have h2:=zpi r m (n+cntV (m-n) k);have h3:=zm8 r m (n+cntV (m-n) k);have h4:=zqJ k (m-n);simp only[cntL,Vals.size];push_cast
  by_cases hn:n<=m
  ·rw[if_pos hn];by_cases h5:cntV (m-n) k<=m-n
   ·have h6:=h1.2 h5;rw[h6] at h2 ⊢;constructor
    ·rw[h2.1];constructor<;>intro h<;>omega
    ·intro h;rw[h2.2 h];omega
   ·have h7:¬(k.size:Int)<=m-n:=fun h=>h5 (h1.1.2 h);have h8:¬n+cntV (m-n) k<=m:=by omega
    rw[zst h8];constructor
    ·constructor<;>intro h<;>omega
    ·intro h;omega
  ·rw[if_neg hn];constructor
   ·constructor<;>intro h<;>omega
   ·intro h;omega
end
theorem Vals.size_split {pre rest l:List Val}{y:Val} (h:pre++y::rest=l):Vals.size l=Vals.size pre+y.size+Vals.size rest:=by
 subst h;induction pre with
 |nil=>simp[Vals.size]
 |cons x r ih=>simp only[xag,Vals.size,ih];omega
theorem ztS {l:List Val}{i:Nat} (h:i<l.length):(nth l i).size<=Vals.size l:=Vals.size_mem (zah h)
def isV (w:List Data) (t:Ty) (v:Val):Bool:=zaC w 10 t v&&decide ((v.size:Int)<=60)
theorem zmw {w:List Data}{n:Nat}{a:List Ty}{b:List Val}{i:Nat}{c:Int} (ha:i<a.length) (hl:a.length=b.length) (h:(zaY w n (nth a i) (nth b i) c).1=false):
  zcF (zaY w n) (a.drop i) (b.drop i) c=(false,(zaY w n (nth a i) (nth b i) c).2):=by
 rw[zaN ha,zaN (l:=b) (by omega),zcF,if_neg (by rw[h];simp)]
theorem zrT {w:List Data}{n:Nat}{a:List Ty}{b:List Val}{i:Nat}{c:Int} (ha:i<a.length) (hl:a.length=b.length) (h:(zaY w n (nth a i) (nth b i) c).1=true):
  zcF (zaY w n) (a.drop i) (b.drop i) c=zcF (zaY w n) (a.drop (i+1)) (b.drop (i+1)) (zaY w n (nth a i) (nth b i) c).2:=by
 rw[zaN ha,zaN (l:=b) (by omega),zcF,if_pos h]
theorem zol {w:List Data}{n:Nat}{a:List Ty}{b:List Val}{i:Nat}{c:Int} (ha:a.length<=i):zcF (zaY w n) (a.drop i) (b.drop i) c=(true,c):=by
 rw[List.drop_eq_nil_of_le ha,zcF];simp
theorem zt4 (w:List Data) (n:Nat) (t:Ty) (v:Val) (c:Int) (h:(zaY w n t v c).1=true):c<=(zaY w n t v c).2/\(zaY w n t v c).2<=60:=by
 have h1:=(zln w n t v c);have h2:=h1.2 h;rw[h1.1] at h;simp only[xad,decide_eq_true_eq] at h;omega
theorem zgu {w:List Data} (hw:WT w):∀(n:Nat){a k d c:Int}{v:Val},d+n=11->n<=10->TyIn w.length ⟨a,k⟩->v.ok->0<=c->c<=1000000000000->
  FnD Tryz.prog 111 [.d (zan w),.agg [.d (.i a),.d (.i k)],.agg [.d (.i v.ctor),.d (.i v.num),.d (zbG v.kids)],.d (.i d),.d (.bool false),.ref 950 0] [(950,some (.box [.d (.i c)]))]
   (.d (.bool (zaY w n ⟨a,k⟩ v c).1)) [(950,some (.box [.d (.i (zaY w n ⟨a,k⟩ v c).2)]))]
 |0,a,k,d,c,v,hd,_,_,_,c0,c1=>by
  refine bd Tryz.f111 108 [] [] fun w0 F0 own kept hk=>?_;refine bx 3007 ?_;refine bx 3008 ?_;refine ev ?_;refine ar ?_;refine so ty3 ?_;refine tv ?_;refine sq ?_ ?_<;>intro h1 h1p h1s<;>(try simp only[Q] at h1p);refine sqT ?_;refine rn [(950,some (.box [.d (.i (zaY w 0 ⟨a,k⟩ v c).2)]))] (r1 rfl) (.eqd ?_) ⟨rfl,rfl⟩ (SubO.get ⟨.inr ?_,⟨.inl rfl,trivial⟩⟩) (zax rfl);rotate_left 2;refine sq ?_ ?_<;>intro h3 h3p h3s<;>(try simp only[Q] at h3p);refine rn [(950,some (.box [.d (.i (zaY w 0 ⟨a,k⟩ v c).2)]))] (r1 rfl) (.eqd ?_) ⟨rfl,rfl⟩ (SubO.get ⟨.inr ?_,⟨.inl rfl,trivial⟩⟩) (zax rfl);rotate_left 2;exfalso;simp at *;omega;all_goals (first|((rfl);done)|(rfl))
 |n+1,a,k,d,c,v,hd,hn,ht,hok,c0,c1=>by
  by_cases h60:60<c+1
  ·skip
   refine bd Tryz.f111 108 [] [] fun w0 F0 own kept hk=>?_;refine bx 3007 ?_;refine bx 3008 ?_;refine ev ?_;refine ar ?_;refine so ty3 ?_;refine tv ?_;refine sq ?_ ?_<;>intro h1 h1p h1s<;>(try simp only[Q] at h1p);refine sqT ?_;refine rn [(950,some (.box [.d (.i (zaY w (n+1) ⟨a,k⟩ v c).2)]))] (r1 rfl) (.eqd ?_) ⟨rfl,rfl⟩ (SubO.get ⟨.inr ?_,⟨.inl rfl,trivial⟩⟩) (zax rfl);rotate_left 2;refine sq ?_ ?_<;>intro h3 h3p h3s<;>(try simp only[Q] at h3p);refine rn [(950,some (.box [.d (.i (zaY w (n+1) ⟨a,k⟩ v c).2)]))] (r1 rfl) (.eqd ?_) ⟨rfl,rfl⟩ (SubO.get ⟨.inr ?_,⟨.inl rfl,trivial⟩⟩) (zax rfl);rotate_left 2;exfalso;simp at *;omega;all_goals (first|((unfold zaY;rw[if_pos h60]);done)|((unfold zaY;rw[if_pos h60];rfl)))
  rcases ht with ha|⟨e,he,hlt⟩
  ·have ha':a = -1:=ha;subst ha';refine bd Tryz.f111 108 [] [] fun w0 F0 own kept hk=>?_;refine bx 3007 ?_;refine bx 3008 ?_;refine ev ?_;refine ar ?_;refine so ty3 ?_;refine tv ?_;refine sq ?_ ?_<;>intro h1 h1p h1s<;>(try simp only[Q] at h1p);refine sqT ?_;exfalso;simp at *;omega;refine sq ?_ ?_<;>intro h3 h3p h3s<;>(try simp only[Q] at h3p);exfalso;simp at *;omega;refine sqF ?_;refine sqF ?_;refine sq ?_ ?_<;>intro h5 h5p h5s<;>(try simp only[Q] at h5p);refine sq ?_ ?_<;>intro h6 h6p h6s<;>(try simp only[Q] at h6p);refine Walk.call (cr:=[]) zeM (zbj) rfl (.some rfl rfl h6) rfl rfl (LeL.refl _) trivial rfl rfl rfl ?_;refine evs [] [(52,true)] ?_ ⟨⟨_,rfl,h6⟩,trivial⟩;refine sq ?_ ?_<;>intro h7 h7p h7s<;>(try simp only[Q] at h7p);refine rn [(950,some (.box [.d (.i (zaY w (n+1) ⟨-1,k⟩ v c).2)]))] (r1 rfl) (.eqd ?_) ⟨rfl,rfl⟩ (SubO.get ⟨.inr ?_,⟨.inl rfl,trivial⟩⟩) (zax rfl);rotate_left 2;refine rn [(950,some (.box [.d (.i (zaY w (n+1) ⟨-1,k⟩ v c).2)]))] (r1 rfl) (.eqd ?_) ⟨rfl,rfl⟩ (SubO.get ⟨.inr ?_,⟨.inl rfl,trivial⟩⟩) (zax rfl);rotate_left 2;refine sqF ?_;refine rn [(950,some (.box [.d (.i (zaY w (n+1) ⟨-1,k⟩ v c).2)]))] (r1 rfl) (.eqd ?_) ⟨rfl,rfl⟩ (SubO.get ⟨.inr ?_,⟨.inl rfl,trivial⟩⟩) (zax rfl);rotate_left 2;exact absurd h5 (by simp);all_goals (first|((refine congrArg D.bool ?_;unfold zaY;rw[if_neg h60,if_pos rfl];simp only[zar] at *;first|(simp_all[Val.cs_len];done)|(simp_all[Val.cs_len];intro h1 h2;omega));done)|((unfold zaY;rw[if_neg h60,if_pos rfl];rfl)))
  have he':a=(e:Int):=he;subst he';have hok':=hok;rw[Val.ok_iff] at hok;have hcl:=zfW hw (d:=e) (k:=k);have hdn:¬(e:Int) = -1:=by omega
  by_cases hv:v.num=0/\v.ctor∈zaM w ⟨e,k⟩
  ·have hal:=zdG hw hlt (k:=k) (zb0 (k:=k) (c:=v.ctor) hv.2);by_cases hlen:(zab w ⟨e,k⟩ v.ctor).length=v.kids.length
   ·have hsc:zaY w (n+1) ⟨e,k⟩ v c=zcF (zaY w n) (zab w ⟨e,k⟩ v.ctor) v.kids (c+1):=by
     conv=>lhs;unfold zaY
     rw[if_neg h60,if_neg hdn,if_pos hv,if_pos hlen]
    rw[hsc];refine bd Tryz.f111 108 [] [] fun w0 F0 own kept hk=>?_;refine bx 3007 ?_;refine bx 3008 ?_;refine ev ?_;refine ar ?_ (by(constructor<;>omega));refine so ty3 ?_;refine tv ?_;refine sq ?_ ?_<;>intro h1 h1p h1s<;>(try simp only[Q,Val.cs_len,Ty.eta] at h1p);refine sqT ?_;exfalso;simp at *;omega;refine sq ?_ ?_<;>intro h3 h3p h3s<;>(try simp only[Q,Val.cs_len,Ty.eta] at h3p);exfalso;simp at *;omega;refine sqF ?_;refine sqF ?_;refine sq ?_ ?_<;>intro h5 h5p h5s<;>(try simp only[Q,Val.cs_len,Ty.eta] at h5p);exfalso;simp at * <;>omega;refine sq ?_ ?_<;>intro h6 h6p h6s<;>(try simp only[Q,Val.cs_len,Ty.eta] at h6p);refine dr ?_;refine sqT ?_;exfalso;have e1:=hv.1;have e2:=hv.2;simp_all;refine Walk.call (cr:=[]) zfe (zct hw hlt) rfl (.some rfl rfl h6) rfl rfl (LeL.refl _) trivial rfl rfl rfl ?_;refine evd [] [(67,false)] ?_ ⟨⟨_,rfl,h6⟩,trivial⟩;refine Walk.call (cr:=[]) zjk (zbP hcl) rfl (.some rfl rfl h6) rfl rfl (LeL.refl _) trivial rfl rfl rfl ?_;refine evd [] [(67,false)] ?_ ⟨⟨_,rfl,h6⟩,trivial⟩;refine dr ?_;refine sq ?_ ?_<;>intro h8 h8p h8s<;>(try simp only[Q,Val.cs_len,Ty.eta] at h8p);exfalso;have e1:=hv.1;have e2:=hv.2;simp_all;refine wc zff (zcN hw hlt (zb0 (k:=k) (c:=v.ctor) hv.2)) rfl rfl ?_;refine ev ?_;refine sq ?_ ?_<;>intro h9 h9p h9s<;>(try simp only[Q,Val.cs_len,Ty.eta] at h9p);exfalso;simp[Val.cs_len,hlen] at h9;refine xak (ι:=Nat×Int) hk (fun x=>[(90,.d (.i (x.1:Int)))]) [12,14,15,91,92,93,94,95,96,97,98,99,100,101,102,103,104,105,106,107] (fun x=>[(950,some (.box [.d (.i x.2)]))]) (fun x=>x.1<=v.kids.length/\zcF (zaY w n) ((zab w ⟨e,k⟩ v.ctor).drop x.1) (v.kids.drop x.1) x.2=zcF (zaY w n) (zab w ⟨e,k⟩ v.ctor) v.kids (c+1)/\0<=x.2/\x.2<=60) (fun x=>v.kids.length-x.1) (0,c+1) ⟨by simp,by simp,by dsimp only;omega,by dsimp only;omega⟩ ⟨⟨_,rfl,xar ?_⟩,trivial⟩ ⟨?_,trivial⟩ (fun x=>rfl) (fun x hg1=>?_);focus (rfl)
    focus (first|rfl|(simp[getH];done))
    refine evc [] [] ?_;refine sq ?_ ?_<;>intro h10 h10p h10s<;>(try simp only[Q,Val.cs_len,Ty.eta] at h10p);refine xaU sl37 .none rfl rfl rfl rfl (znG (by omega)) rfl ?_;refine ev ?_;refine ab 3015 tz44 ?_;refine ev ?_;refine so ty44 ?_;refine tv ?_;refine xaU zaT .none rfl rfl rfl rfl (zat (by omega)) rfl ?_;refine evd [] [] ?_;refine ar ?_ (by(constructor<;>omega));refine wc zr5 (zgu hw n (a:=(nth (zab w ⟨e,k⟩ v.ctor) x.1).data) (k:=(nth (zab w ⟨e,k⟩ v.ctor) x.1).index) (c:=x.2) (by omega) (by omega) (zd4 hw hlt (k:=k) (zb0 (k:=k) (c:=v.ctor) hv.2) (zah (by omega))) (Vals.ok_mem hok.2 _ (zah (by omega))) (by omega) (by omega)) rfl rfl ?_;refine evd [] [] ?_;refine dr ?_;refine sq ?_ ?_<;>intro h11 h11p h11s<;>(try simp only[Q,Val.cs_len,Ty.eta] at h11p);refine rn [(950,some (.box [.d (.i (zcF (zaY w n) (zab w ⟨e,k⟩ v.ctor) v.kids (c+1)).2)]))] (r1 rfl) (.eqd ?_) ⟨rfl,rfl⟩ (SubO.get ⟨.inr ?_,⟨.inl rfl,trivial⟩⟩) (zax rfl);rotate_left 2;refine ar ?_ (by(constructor<;>omega));refine xah ((x.1+1,(zaY w n (nth (zab w ⟨e,k⟩ v.ctor) x.1) (nth v.kids x.1) x.2).2)) ⟨(by
          have hz:(zaY w n (nth (zab w ⟨e,k⟩ v.ctor) x.1) (nth v.kids x.1) x.2).1=true:=by simp_all
          have hb:=zt4 w n _ _ _ hz;obtain⟨h1,h2,h3,h4⟩:=hg1;refine⟨by dsimp only;omega, ?_,by dsimp only;omega,by dsimp only;omega⟩;rw[<-h2,zrT (i:=x.1) (by omega) hlen hz]),(by dsimp only;omega),sx ⟨⟨_,rfl,xar ?_⟩,trivial⟩ ⟨?_,trivial⟩⟩
    focus (rfl)
    focus (first|rfl|(simp[getH];done))
    refine rn [(950,some (.box [.d (.i (zcF (zaY w n) (zab w ⟨e,k⟩ v.ctor) v.kids (c+1)).2)]))] (r1 rfl) (.eqd ?_) ⟨rfl,rfl⟩ (SubO.get ⟨.inr ?_,⟨.inl rfl,trivial⟩⟩) (zax rfl);rotate_left 2;all_goals (first|((refine congrArg D.bool ?_;first|(obtain⟨h1,h2,h3,h4⟩:=hg1;rw[<-h2,zol (by simp[Val.cs_len] at *;omega)])|(obtain⟨h1,h2,h3,h4⟩:=hg1;rw[<-h2,zmw (by simp[Val.cs_len] at *;omega) hlen (by simp_all)]));done)|(first|(obtain⟨h1,h2,h3,h4⟩:=hg1;show some (Res.box _)=some (Res.box _);rw[<-h2,zol (by simp[Val.cs_len] at *;omega)])|(obtain⟨h1,h2,h3,h4⟩:=hg1;show some (Res.box _)=some (Res.box _);rw[<-h2,zmw (by simp[Val.cs_len] at *;omega) hlen (by simp_all)])))
   ·have hsc:zaY w (n+1) ⟨e,k⟩ v c=(false,c+1):=by
     conv=>lhs;unfold zaY
     rw[if_neg h60,if_neg hdn,if_pos hv,if_neg hlen]
    rw[hsc];refine bd Tryz.f111 108 [] [] fun w0 F0 own kept hk=>?_;refine bx 3007 ?_;refine bx 3008 ?_;refine ev ?_;refine ar ?_;refine so ty3 ?_;refine tv ?_;refine sq ?_ ?_<;>intro h1 h1p h1s<;>(try simp only[Q,Val.cs_len] at h1p);refine sqT ?_;exfalso;simp at *;omega;refine sq ?_ ?_<;>intro h3 h3p h3s<;>(try simp only[Q,Val.cs_len] at h3p);exfalso;simp at *;omega;refine sqF ?_;refine sqF ?_;refine sq ?_ ?_<;>intro h5 h5p h5s<;>(try simp only[Q,Val.cs_len] at h5p);exfalso;simp at * <;>omega;refine sq ?_ ?_<;>intro h6 h6p h6s<;>(try simp only[Q,Val.cs_len] at h6p);refine dr ?_;refine sqT ?_;exfalso;have e1:=hv.1;have e2:=hv.2;simp_all;refine Walk.call (cr:=[]) zfe (zct hw hlt) rfl (.some rfl rfl h6) rfl rfl (LeL.refl _) trivial rfl rfl rfl ?_;refine evd [] [(67,false)] ?_ ⟨⟨_,rfl,h6⟩,trivial⟩;refine Walk.call (cr:=[]) zjk (zbP hcl) rfl (.some rfl rfl h6) rfl rfl (LeL.refl _) trivial rfl rfl rfl ?_;refine evd [] [(67,false)] ?_ ⟨⟨_,rfl,h6⟩,trivial⟩;refine dr ?_;refine sq ?_ ?_<;>intro h8 h8p h8s<;>(try simp only[Q,Val.cs_len] at h8p);exfalso;have e1:=hv.1;have e2:=hv.2;simp_all;refine wc zff (zcN hw hlt (zb0 (k:=k) (c:=v.ctor) hv.2)) rfl rfl ?_;refine ev ?_;refine sq ?_ ?_<;>intro h9 h9p h9s<;>(try simp only[Q,Val.cs_len] at h9p);refine rn [(950,some (.box [.d (.i (c+1))]))] (r1 rfl) (.eqd ?_) ⟨rfl,rfl⟩ (SubO.get ⟨.inr ?_,⟨.inl rfl,trivial⟩⟩) (zax rfl);rotate_left 2;exfalso;simp[Val.cs_len] at h9;omega;all_goals (first|((rfl);done)|(rfl))
  ·have hsc:zaY w (n+1) ⟨e,k⟩ v c=(false,c+1):=by
    conv=>lhs;unfold zaY
    rw[if_neg h60,if_neg hdn,if_neg hv]
   rw[hsc];refine bd Tryz.f111 108 [] [] fun w0 F0 own kept hk=>?_;refine bx 3007 ?_;refine bx 3008 ?_;refine ev ?_;refine ar ?_;refine so ty3 ?_;refine tv ?_;refine sq ?_ ?_<;>intro h1 h1p h1s<;>(try simp only[Q] at h1p);refine sqT ?_;exfalso;simp at *;omega;refine sq ?_ ?_<;>intro h3 h3p h3s<;>(try simp only[Q] at h3p);exfalso;simp at *;omega;refine sqF ?_;refine sqF ?_;refine sq ?_ ?_<;>intro h5 h5p h5s<;>(try simp only[Q] at h5p);exfalso;simp at * <;>omega;refine sq ?_ ?_<;>intro h6 h6p h6s<;>(try simp only[Q] at h6p);refine dr ?_;refine sqT ?_;refine rn [(950,some (.box [.d (.i (c+1))]))] (r1 rfl) (.eqd ?_) ⟨rfl,rfl⟩ (SubO.get ⟨.inr ?_,⟨.inl rfl,trivial⟩⟩) (zax rfl);rotate_left 2;refine Walk.call (cr:=[]) zfe (zct hw hlt) rfl (.some rfl rfl h6) rfl rfl (LeL.refl _) trivial rfl rfl rfl ?_;refine evd [] [(67,false)] ?_ ⟨⟨_,rfl,h6⟩,trivial⟩;refine Walk.call (cr:=[]) zjk (zbP hcl) rfl (.some rfl rfl h6) rfl rfl (LeL.refl _) trivial rfl rfl rfl ?_;refine evd [] [(67,false)] ?_ ⟨⟨_,rfl,h6⟩,trivial⟩;refine dr ?_;refine sq ?_ ?_<;>intro h8 h8p h8s<;>(try simp only[Q] at h8p);refine rn [(950,some (.box [.d (.i (c+1))]))] (r1 rfl) (.eqd ?_) ⟨rfl,rfl⟩ (SubO.get ⟨.inr ?_,⟨.inl rfl,trivial⟩⟩) (zax rfl);rotate_left 2;exfalso;simp_all;all_goals (first|((rfl);done)|(rfl))
theorem zl8 {w:List Data} (hw:WT w){a k:Int}{v:Val} (ht:TyIn w.length ⟨a,k⟩) (hok:v.ok):
  FnD Tryz.prog 64 [.d (zan w),.agg [.d (.i a),.d (.i k)],.agg [.d (.i v.ctor),.d (.i v.num),.d (zbG v.kids)]] [] (.d (.bool (isV w ⟨a,k⟩ v))) []:=by
 have hz:=(zln w 10 ⟨a,k⟩ v 0).1;rw[Int.zero_add] at hz;refine bd Tryz.f64 12 [] [] fun w0 F0 own kept hk=>?_;refine bx 3004 ?_;refine bx 3005 ?_;refine ev ?_;refine ab 950 tz3 ?_;refine so ty3 ?_;refine tv ?_;refine wc zr5 (zgu hw 10 (c:=0) (by omega) (by omega) ht hok (by omega) (by omega)) rfl rfl ?_;refine ev ?_;refine rq ?_;rotate_left;all_goals (rw[hz];rfl)
theorem zeH {α β:Type}{f:α->β->Bool}{a:List α}{b:List β} (h:all2 f a b=true):a.length=b.length:=by
 by_cases e:a.length=b.length
 ·exact e
 ·rw[zfD e] at h;exact absurd h (by simp)
structure Bd where
 var:Int
 val:Val
def Bd.c (b:Bd):List D:=[.i b.var,.i b.val.ctor,.i b.val.num,zbG b.val.kids]
abbrev zpq (l:List Bd):D:= .sl (l.map Bd.c)
instance:Inhabited Bd:=⟨⟨0,default⟩⟩
def zbl (f:Pat->Val->List Bd×Bool):List Pat->List Val->List Bd->List Bd×Bool
 |p::r,v::s,acc=>if (f p v).2=true then zbl f r s (acc++(f p v).1) else ([],false)
 |_,_,acc=>(acc,true)
def zav:Nat->Pat->Val->List Bd×Bool
 |0,_,_=>([],false)
 |n+1,p,v=>
  if p.op=1 then ([],true)
  else if p.op=2 then ([⟨p.var,v⟩],true)
  else if p.op=3 then ([],zar v.num p.n p.m)
  else if p.op=5 then (if (zav n (nth p.kids 0) v).2=true then ((zav n (nth p.kids 0) v).1,true) else zav n (nth p.kids 1) v)
  else if p.op=6 then (⟨p.var,v⟩::(zav n (nth p.kids 0) v).1,(zav n (nth p.kids 0) v).2)
  else if p.ctor=v.ctor then zbl (zav n) p.kids v.kids [] else ([],false)
section
variable {n:Nat}{p:Pat}{v:Val}
theorem zfK (h:p.op=1):zav (n+1) p v=([],true):=by unfold zav;rw[if_pos h]
theorem zfL (h:p.op=2):zav (n+1) p v=([⟨p.var,v⟩],true):=by unfold zav;rw[if_neg (by omega),if_pos h]
theorem ze6 (h:p.op=3):zav (n+1) p v=([],zar v.num p.n p.m):=by unfold zav;rw[if_neg (by omega),if_neg (by omega),if_pos h]
theorem zeY (h:p.op=5) (h2:(zav n (nth p.kids 0) v).2=true):zav (n+1) p v=((zav n (nth p.kids 0) v).1,true):=by
 conv=>lhs;unfold zav
 rw[if_neg (by omega),if_neg (by omega),if_neg (by omega),if_pos h,if_pos h2]
theorem zeZ (h:p.op=5) (h2:(zav n (nth p.kids 0) v).2=false):zav (n+1) p v=zav n (nth p.kids 1) v:=by
 conv=>lhs;unfold zav
 rw[if_neg (by omega),if_neg (by omega),if_neg (by omega),if_pos h,if_neg (by rw[h2];simp)]
theorem zev (h:p.op=6):zav (n+1) p v=(⟨p.var,v⟩::(zav n (nth p.kids 0) v).1,(zav n (nth p.kids 0) v).2):=by
 conv=>lhs;unfold zav
 rw[if_neg (by omega),if_neg (by omega),if_neg (by omega),if_neg (by omega),if_pos h]
theorem zfM (h:p.op=4) (h2:p.ctor=v.ctor):zav (n+1) p v=zbl (zav n) p.kids v.kids []:=by
 conv=>lhs;unfold zav
 rw[if_neg (by omega),if_neg (by omega),if_neg (by omega),if_neg (by omega),if_neg (by omega),if_pos h2]
theorem zfN (h:p.op=4) (h2:¬p.ctor=v.ctor):zav (n+1) p v=([],false):=by
 conv=>lhs;unfold zav
 rw[if_neg (by omega),if_neg (by omega),if_neg (by omega),if_neg (by omega),if_neg (by omega),if_neg h2]
end
theorem zme {f:Pat->Val->List Bd×Bool}:∀ {a:List Pat}{b:List Val}{acc:List Bd},(zbl f a b acc).2=true->∀i,i<a.length->i<b.length->(f (nth a i) (nth b i)).2=true
 | [],_,_,_,i,h,_=>by simp at h
 |_::_,[],_,_,i,_,h=>by simp at h
 |p::r,v::s,acc,h,i,h1,h2=>by
  unfold zbl at h;split at h
  ·rename_i hp;cases i with
   |zero=>exact hp
   |succ i=>exact zme h i (by simpa using h1) (by simpa using h2)
  ·exact absurd h (by simp)
theorem zkS {f:Pat->Val->List Bd×Bool}{a:List Pat}{b:List Val}{acc:List Bd}{i:Nat} (h1:i<a.length) (h2:i<b.length) (h:(f (nth a i) (nth b i)).2=true):
  zbl f (a.drop i) (b.drop i) acc=zbl f (a.drop (i+1)) (b.drop (i+1)) (acc++(f (nth a i) (nth b i)).1):=by
 rw[zaN h1,zaN h2];conv=>lhs;unfold zbl
 rw[if_pos h]
theorem zrD {f:Pat->Val->List Bd×Bool}{a:List Pat}{b:List Val}{acc:List Bd}{i:Nat} (h1:i<a.length) (h2:i<b.length) (h:(f (nth a i) (nth b i)).2=false):
  zbl f (a.drop i) (b.drop i) acc=([],false):=by
 rw[zaN h1,zaN h2];conv=>lhs;unfold zbl
 rw[if_neg (by rw[h];simp)]
theorem zmf {f:Pat->Val->List Bd×Bool}{a:List Pat}{b:List Val}{acc:List Bd}{i:Nat} (h1:a.length<=i):zbl f (a.drop i) (b.drop i) acc=(acc,true):=by
 rw[List.drop_eq_nil_of_le h1];cases b.drop i<;>rfl
def BdOk (m:Nat) (l:List Bd):Prop:=∀x∈l,x.val.ok/\x.val.size<=m
theorem BdOk.app {m:Nat}{a b:List Bd} (h1:BdOk m a) (h2:BdOk m b):BdOk m (a++b):=fun x hx=>by
 rcases List.mem_append.1 hx with h|h
 ·exact h1 x h
 ·exact h2 x h
theorem BdOk.mono {m k:Nat}{a:List Bd} (h:BdOk m a) (hk:m<=k):BdOk k a:=fun x hx=>⟨(h x hx).1,Nat.le_trans (h x hx).2 hk⟩
theorem zn6 {f:Pat->Val->List Bd×Bool}{m:Nat}:∀ {a:List Pat}{b:List Val}{acc:List Bd}{k:Nat},(∀p∈a,∀v∈b,BdOk m (f p v).1/\(f p v).1.length<=p.size)->BdOk m acc->acc.length<=k->BdOk m (zbl f a b acc).1/\(zbl f a b acc).1.length<=k+Pats.size a
 | [],b,acc,k,_,h2,h3=>by cases b<;>exact⟨h2,by simp only[zbl,Pats.size];omega⟩
 |_::_,[],acc,k,_,h2,h3=>⟨h2,by simp only[zbl];omega⟩
 |p::r,v::s,acc,k,h1,h2,h3=>by
  unfold zbl;split
  ·have h4:=h1 p (by simp) v (by simp);have:=zn6 (f:=f) (a:=r) (b:=s) (acc:=acc++(f p v).1) (k:=k+p.size) (fun q hq u hu=>h1 q (by simp[hq]) u (by simp[hu])) (h2.app h4.1) (by rw[xaa];omega);refine⟨this.1, ?_⟩;simp only[Pats.size];omega
  ·exact⟨fun x hx=>by simp at hx,by simp⟩
theorem ztm {w:List Data}{t:Ty}{p:Pat} (h:p.op=5):zad w t p=[t,t]:=by unfold zad;rw[if_neg (by omega),if_pos h]
theorem ztn {w:List Data}{t:Ty}{p:Pat} (h:p.op=6):zad w t p=[t]:=by unfold zad;rw[if_neg (by omega),if_neg (by omega),if_pos h]
theorem zbh {w:List Data}{t:Ty}{p:Pat} (h:p.op=4):zad w t p=zab w t p.ctor:=by unfold zad;rw[if_pos h]
theorem zeh {w:List Data}{n:Nat}{t:Ty}{p:Pat} (h:zas w (n+1) t p=true):p.op=1\/p.op=2\/p.op=3\/p.op=4\/p.op=5\/p.op=6:=by
 have h1:=(zbo h).1;unfold ownP at h1;have h2:=(of_decide_eq_true h1).2.2.2.2;omega
theorem zei {w:List Data}{n:Nat}{t:Ty}{p:Pat} (h:zas w (n+1) t p=true) (h5:p.op=5):p.kids.length=2/\zas w n t (nth p.kids 0)=true/\zas w n t (nth p.kids 1)=true:=by
 have hl:=(zbo h).2;have h0:=fun i hi=>zbw h (i:=i) hi;rw[ztm h5] at hl h0;have hl':p.kids.length=2:=hl;exact⟨hl',h0 0 (by omega),h0 1 (by omega)⟩
theorem zc9 {w:List Data}{n:Nat}{t:Ty}{p:Pat} (h:zas w (n+1) t p=true) (h6:p.op=6):p.kids.length=1/\zas w n t (nth p.kids 0)=true:=by
 have hl:=(zbo h).2;have h0:=fun i hi=>zbw h (i:=i) hi;rw[ztn h6] at hl h0;have hl':p.kids.length=1:=hl;exact⟨hl',h0 0 (by omega)⟩
theorem zed {w:List Data}:∀(n:Nat){t:Ty}{p:Pat}{v:Val},zas w n t p=true->v.ok->BdOk v.size (zav n p v).1/\(zav n p v).1.length<=p.size
 |0,t,p,v,h,_=>by simp[zas] at h
 |n+1,t,p,v,h,hv=>by
  have hs:=Pat.size_eq p;have hsv:=Val.size_eq v;have hv':=hv;rw[Val.ok_iff] at hv';have one:BdOk v.size [⟨p.var,v⟩]:=fun x hx=>by simp only[List.mem_singleton] at hx;subst hx;exact⟨hv,Nat.le_refl _⟩
  have nil:BdOk v.size []:=fun x hx=>by simp at hx
  by_cases h1:p.op=1
  ·rw[zfK h1];exact⟨nil,by simp⟩
  by_cases h2:p.op=2
  ·rw[zfL h2];exact⟨one,by simp only[List.length_singleton];omega⟩
  by_cases h3:p.op=3
  ·rw[ze6 h3];exact⟨nil,by simp⟩
  by_cases h5:p.op=5
  ·obtain⟨hl,s0,s1⟩:=zei h h5;have k0:=zed n s0 hv;have k1:=zed n s1 hv;have z0:=zbU (l:=p.kids) (i:=0) (by omega);have z1:=zbU (l:=p.kids) (i:=1) (by omega);cases hm:(zav n (nth p.kids 0) v).2 with
   |true=>rw[zeY h5 hm];exact⟨k0.1,by have:=k0.2;dsimp only;omega⟩
   |false=>rw[zeZ h5 hm];exact⟨k1.1,by have:=k1.2;omega⟩
  by_cases h6:p.op=6
  ·obtain⟨hl,s0⟩:=zc9 h h6;have k0:=zed n s0 hv;have z0:=zbU (l:=p.kids) (i:=0) (by omega);rw[zev h6];exact⟨one.app k0.1,by have:=k0.2;simp only[xab];omega⟩
  have h4:p.op=4:=by have:=zeh h;omega
  by_cases hc:p.ctor=v.ctor
  ·rw[zfM h4 hc];have:=zn6 (f:=zav n) (m:=v.size) (a:=p.kids) (b:=v.kids) (acc:=[]) (k:=0) (fun q hq u hu=>by
    obtain⟨i,hi,rfl⟩:=List.getElem_of_mem hq;have e:p.kids[i]=nth p.kids i:=by simp[nth,List.getD,hi]
    have:=zed n (v:=u) (zbw h hi) (Vals.ok_mem hv'.2 u hu);rw[e];exact⟨this.1.mono (by have:=Vals.size_mem hu;omega),this.2⟩) nil (by simp)
   exact⟨this.1,by have:=this.2;omega⟩
  ·rw[zfN h4 hc];exact⟨nil,by simp⟩
theorem zqU {w:List Data}:∀(m:Nat){t:Ty}{v:Val},zaC w m t v=true->Hd w m t
 |0,_,_,h=>by simp[zaC] at h
 |m+1,t,v,h=>by
  by_cases hd:t.data = -1
  ·exact .inl hd
  ·unfold zaC at h;rw[if_neg hd] at h;split at h
   ·rename_i hc;have hl:=zeH h;refine .inr ⟨v.ctor,hc.2,hd,fun u hu=>?_⟩;obtain⟨i,hi,rfl⟩:=List.getElem_of_mem hu;have:=zdE hl h i hi;have e:(zab w t v.ctor)[i]=nth (zab w t v.ctor) i:=by simp[nth,List.getD,hi]
    rw[e];exact zqU m this
   ·exact absurd h (by simp)
theorem znd {w:List Data} (hd:Dp w){m:Nat}{t:Ty}{v:Val} (ht:InS (w.length*4) t) (h:zaC w m t v=true):0<dv (zai w) t:=by
 have a:Snd w (zai w)/\Cmp w (w.length*4+1) (zai w):=zdj hd.cl (w.length*4+1);have h1:=zqU m h;rcases ht with ht|ht
 ·unfold dv;rw[if_pos ht];omega
 ·refine(zlS (k:=w.length*4+1) a.2 (.inr ht) ?_).1;have:=ht.2;rw[<-this] at h1 ⊢;exact zsM hd.cl ht.1 h1
theorem zdB {w:List Data}{m:Nat}{t:Ty}{v:Val} (h:zaC w (m+1) t v=true) (hd:t.data≠ -1):v.ctor∈zap w t/\(zab w t v.ctor).length=v.kids.length/\∀i,i<v.kids.length->zaC w m (nth (zab w t v.ctor) i) (nth v.kids i)=true:=by
 unfold zaC at h;rw[if_neg hd] at h;split at h
 ·rename_i hc;have hl:=zeH h;exact⟨by unfold zap;rw[if_neg hd];exact hc.2,hl,fun i hi=>zdE hl h i (by omega)⟩
 ·exact absurd h (by simp)
inductive Ex where
 |mk (op n ctor:Int) (kids:List Ex)
 deriving Inhabited
mutual
def Ex.c:Ex->List D
 | .mk op n ctor kids=>[.i op,.i n,.i ctor,.sl (Ex.cs kids)]
def Ex.cs:List Ex->List (List D)
 | []=>[]
 |v::r=>v.c::Ex.cs r
end
abbrev zws (l:List Ex):D:= .sl (Ex.cs l)
theorem Ex.cs_eq:∀l:List Ex,Ex.cs l=l.map Ex.c
 | []=>rfl
 |v::r=>by simp[Ex.cs,Ex.cs_eq r]
theorem Ex.cs_len (l:List Ex):(Ex.cs l).length=l.length:=by simp[Ex.cs_eq]
def Ex.op:Ex->Int | .mk a0 _ _ _=>a0
def Ex.n:Ex->Int | .mk _ a1 _ _=>a1
def Ex.ctor:Ex->Int | .mk _ _ a2 _=>a2
def Ex.kids:Ex->List Ex | .mk _ _ _ k=>k
abbrev Ex.cc (v:Ex):List D:=[.i v.op,.i v.n,.i v.ctor,.sl (Ex.cs v.kids)]
theorem Ex.c_eq (v:Ex):v.c=v.cc:=by cases v;rfl
theorem Ex.eta (v:Ex):Ex.mk v.op v.n v.ctor v.kids=v:=by cases v;rfl
theorem Ex.cs_at' {pre:List Ex}{x:Ex}{rest xs:List Ex} (h:pre++x::rest=xs):(Ex.cs xs)[pre.length]?=some x.cc:=by rw[Ex.cs_eq,<-Ex.c_eq];exact zaE h
mutual
def exEq:Ex->Ex->Bool
 | .mk a0 a1 a2 ks,.mk b0 b1 b2 ls=>decide (a0=b0)&&(decide (a1=b1)&&(decide (a2=b2)&&zoR ks ls))
def zoR:List Ex->List Ex->Bool
 | [],[]=>true
 |x::r,y::s=>exEq x y&&zoR r s
 |_,_=>false
end
mutual
def Ex.ok:Ex->Prop
 | .mk _ _ _ ks=>ks.length<=1000000000000/\Exs.ok ks
def Exs.ok:List Ex->Prop
 | []=>True
 |v::r=>v.ok/\Exs.ok r
end
theorem Exs.ok_mem:∀ {l:List Ex},Exs.ok l->∀v,v∈l->v.ok
 |x::r,h,v,hv=>by
  simp only[Exs.ok] at h;rcases List.mem_cons.1 hv with rfl|hv
  ·exact h.1
  ·exact Exs.ok_mem h.2 v hv
mutual
def Ex.size:Ex->Nat
 | .mk _ _ _ ks=>1+Exs.size ks
def Exs.size:List Ex->Nat
 | []=>0
 |v::r=>v.size+Exs.size r
end
theorem Exs.size_mem:∀ {l:List Ex}{v:Ex},v∈l->v.size<=Exs.size l
 |x::r,v,hv=>by
  simp only[Exs.size];rcases List.mem_cons.1 hv with rfl|hv
  ·omega
  ·have:=Exs.size_mem hv;omega
theorem Ex.ok_iff (v:Ex):v.ok↔v.kids.length<=1000000000000/\Exs.ok v.kids:=by cases v;rfl
theorem Ex.size_eq (v:Ex):v.size=1+Exs.size v.kids:=by cases v;rfl
mutual
theorem zsH:∀v:Ex,exEq v v=true
 | .mk _ _ _ ks=>by simp[exEq,zlV ks]
theorem zlV:∀l:List Ex,zoR l l=true
 | []=>rfl
 |v::r=>by simp[zoR,zsH v,zlV r]
end
theorem Ex.cs_cc (l:List Ex):Ex.cs l=l.map Ex.cc:=by
 rw[Ex.cs_eq];exact List.map_congr_left (fun v _=>Ex.c_eq v)
mutual
def mEx:Ex->Nat
 | .mk _ _ _ ks=>mExs ks
def mExs:List Ex->Nat
 | []=>0
 |v::r=>1+mEx v+mExs r
end
structure Gd where
 op:Int
 var:Int
 n:Int
 deriving Inhabited
structure Cl where
 pat:Pat
 g:Gd
 deriving Inhabited
structure Ft where
 arg:Ty
 res:Ty
 deriving Inhabited
structure Fu where
 ty:Ft
 cls:List Cl
 bodies:List Ex
 deriving Inhabited
abbrev Cl.c (x:Cl):List D:=[.i x.pat.op,.i x.pat.ctor,.i x.pat.n,.i x.pat.m,.i x.pat.var,.sl (Pat.cs x.pat.kids),.i x.g.op,.i x.g.var,.i x.g.n]
abbrev zwr (l:List Cl):D:= .sl (l.map Cl.c)
abbrev Ft.c (x:Ft):List D:=[.i x.arg.data,.i x.arg.index,.i x.res.data,.i x.res.index]
abbrev Fu.c (x:Fu):List D:=[.i x.ty.arg.data,.i x.ty.arg.index,.i x.ty.res.data,.i x.ty.res.index,zwr x.cls,zws x.bodies]
mutual
def cntE (m:Int):Ex->Int
 | .mk _ _ _ ks=>zeo m 1 ks
def zeo (m n:Int):List Ex->Int
 | []=>n
 |k::r=>if n<=m then zeo m (n+cntE (m-n) k) r else n
end
theorem zrs {m n:Int}{l:List Ex} (h:¬n<=m):zeo m n l=n:=by cases l<;>simp[zeo,h]
mutual
theorem zqF:∀(v:Ex) (m:Int),1<=cntE m v/\cntE m v<=v.size
 | .mk _ _ _ ks,m=>by
  have:=zk0 ks m 1 (by omega);simp only[cntE,Ex.size];push_cast;omega
theorem zk0:∀(l:List Ex) (m n:Int),1<=n->1<=zeo m n l/\zeo m n l<=n+Exs.size l
 | [],m,n,h=>by simp[zeo,Exs.size];omega
 |k::r,m,n,h=>by
  have h1:=zqF k (m-n);have h2:=zk0 r m (n+cntE (m-n) k) (by omega);simp only[zeo,Exs.size];split
  ·push_cast;omega
  ·push_cast;omega
end
mutual
theorem zty:∀(v:Ex) (m:Int),(cntE m v<=m↔(v.size:Int)<=m)/\(cntE m v<=m->cntE m v=v.size)
 | .mk _ _ _ ks,m=>by
  have:=znL ks m 1;simp only[cntE,Ex.size];push_cast;exact this
theorem znL:∀(l:List Ex) (m n:Int),(zeo m n l<=m↔n+(Exs.size l:Int)<=m)/\(zeo m n l<=m->zeo m n l=n+Exs.size l)
 | [],m,n=>by simp[zeo,Exs.size]
 |k::r,m,n=>by
  have h1:=zty k (m-n);have h2:=znL r m (n+cntE (m-n) k);have h3:=zk0 r m (n+cntE (m-n) k);have h4:=zqF k (m-n);simp only[zeo,Exs.size];push_cast
  by_cases hn:n<=m
  ·rw[if_pos hn];by_cases h5:cntE (m-n) k<=m-n
   ·have h6:=h1.2 h5;rw[h6] at h2 ⊢;constructor
    ·rw[h2.1];constructor<;>intro h<;>omega
    ·intro h;rw[h2.2 h];omega
   ·have h7:¬(k.size:Int)<=m-n:=fun h=>h5 (h1.1.2 h);have h8:¬n+cntE (m-n) k<=m:=by omega
    rw[zrs h8];constructor
    ·constructor<;>intro h<;>omega
    ·intro h;omega
  ·rw[if_neg hn];constructor
   ·constructor<;>intro h<;>omega
   ·intro h;omega
end
theorem zeR {a b c d e:Int}{l:List Pat}:(Pat.mk a b c d e l).op=a:=rfl
theorem zh6 {a b c d e:Int}{l:List Pat}:(Pat.mk a b c d e l).ctor=b:=rfl
theorem mk_n {a b c d e:Int}{l:List Pat}:(Pat.mk a b c d e l).n=c:=rfl
theorem mk_m {a b c d e:Int}{l:List Pat}:(Pat.mk a b c d e l).m=d:=rfl
theorem zmj {a b c d e:Int}{l:List Pat}:(Pat.mk a b c d e l).var=e:=rfl
theorem zcK {a b c d e:Int}{l:List Pat}:(Pat.mk a b c d e l).kids=l:=rfl
abbrev anyQ:Pat:= .mk 1 0 0 0 0 []
abbrev zuV:Pat:= .mk 0 0 0 0 0 []
mutual
def zaO:Pat->Pat
 | .mk op c n m v ks=>if op=2 then anyQ else if op=6/\ks≠[] then zkk ks else .mk op c n m v (zhs ks)
def zkk:List Pat->Pat
 | []=>anyQ
 |k::_=>zaO k
def zhs:List Pat->List Pat
 | []=>[]
 |k::r=>zaO k::zhs r
end
theorem zkZ:∀l:List Pat,zhs l=l.map zaO
 | []=>rfl
 |k::r=>by simp[zhs,zkZ r]
theorem zcL (p:Pat):zaO p=if p.op=2 then anyQ else if p.op=6/\p.kids≠[] then zaO (nth p.kids 0) else .mk p.op p.ctor p.n p.m p.var (p.kids.map zaO):=by
 cases p with|mk op c n m v ks=>
 have e:zaO (.mk op c n m v ks)=if op=2 then anyQ else if op=6/\ks≠[] then zkk ks else .mk op c n m v (zhs ks):=by conv=>lhs;unfold zaO
 rw[e,zkZ];by_cases h2:op=2
 ·rw[if_pos h2];exact(if_pos (c:=(Pat.mk op c n m v ks).op=2) h2).symm
 ·rw[if_neg h2];refine Eq.trans ?_ (if_neg (c:=(Pat.mk op c n m v ks).op=2) h2).symm;by_cases h6:op=6/\ks≠[]
  ·rw[if_pos h6];refine Eq.trans ?_ (if_pos (c:=(Pat.mk op c n m v ks).op=6/\(Pat.mk op c n m v ks).kids≠[]) h6).symm;cases ks with
   |nil=>exact absurd rfl h6.2
   |cons k r=>rfl
  ·rw[if_neg h6];exact(if_neg (c:=(Pat.mk op c n m v ks).op=6/\(Pat.mk op c n m v ks).kids≠[]) h6).symm
def zb8 (out:List (List Pat)) (l:List Pat):List (List Pat):=out.flatMap fun q=>l.map fun c=>q++[c]
def zeS (ls:List (List Pat)):List (List Pat):=ls.foldl zb8 [[]]
mutual
def zaz:Pat->List Pat
 | .mk op c n m v ks=>if op=5 then zwH ks else (zeS (zkw ks)).map fun l=> .mk op c n m v l
def zwH:List Pat->List Pat
 | []=>[]
 |a::r=>zaz a++zvz r
def zvz:List Pat->List Pat
 | []=>[]
 |b::_=>zaz b
def zkw:List Pat->List (List Pat)
 | []=>[]
 |k::r=>zaz k::zkw r
end
theorem zmR:∀l:List Pat,zkw l=l.map zaz
 | []=>rfl
 |k::r=>by simp[zkw,zmR r]
theorem zek {p:Pat} (h:p.op≠5):zaz p=(zeS (p.kids.map zaz)).map fun l=> .mk p.op p.ctor p.n p.m p.var l:=by
 cases p with|mk op c n m v ks=>
 have h':¬op=5:=h;conv=>lhs;unfold zaz
 rw[if_neg h',zmR];rfl
theorem zhm {p:Pat} (h:p.op=5) (hk:p.kids.length=2):zaz p=zaz (nth p.kids 0)++zaz (nth p.kids 1):=by
 cases p with|mk op c n m v ks=>
 have h':op=5:=h;conv=>lhs;unfold zaz
 rw[if_pos h'];have hk':ks.length=2:=hk;match ks,hk' with
 | [a,b],_=>rfl
mutual
def cntS:Pat->Int
 | .mk op _ _ _ _ ks=>if op=5 then cntO ks 0 else cntM ks 1
def cntO:List Pat->Int->Int
 | [],n=>n
 |k::r,n=>cntO r (cap (n+cntS k))
def cntM:List Pat->Int->Int
 | [],n=>n
 |k::r,n=>cntM r (cap (n*cntS k))
end
theorem zna (p:Pat):cntS p=if p.op=5 then cntO p.kids 0 else cntM p.kids 1:=by
 cases p with|mk op c n m v ks=>
 conv=>lhs;unfold cntS
 rfl
mutual
theorem zm9:∀p:Pat,0<=cntS p/\cntS p<=401
 | .mk op _ _ _ _ ks=>by
  unfold cntS;split
  ·exact zqI ks 0 (by omega) (by omega)
  ·exact zqG ks 1 (by omega) (by omega)
theorem zqI:∀(l:List Pat) (n:Int),0<=n->n<=401->0<=cntO l n/\cntO l n<=401
 | [],n,h1,h2=>⟨h1,h2⟩
 |k::r,n,h1,h2=>by
  unfold cntO;have h3:=zm9 k;have h4:=zf4 (x:=n+cntS k) (by omega);exact zqI r _ h4.1 h4.2
theorem zqG:∀(l:List Pat) (n:Int),0<=n->n<=401->0<=cntM l n/\cntM l n<=401
 | [],n,h1,h2=>⟨h1,h2⟩
 |k::r,n,h1,h2=>by
  unfold cntM;have h3:=zm9 k;have h4:=zf4 (x:=n*cntS k) (Int.mul_nonneg h1 h3.1);exact zqG r _ h4.1 h4.2
end
theorem zsv {l:List Pat}{i:Nat}{n:Int} (h:i<l.length):cntO (l.drop i) n=cntO (l.drop (i+1)) (cap (n+cntS (nth l i))):=by
 rw[zaN h];rfl
theorem zsu {l:List Pat}{i:Nat}{n:Int} (h:i<l.length):cntM (l.drop i) n=cntM (l.drop (i+1)) (cap (n*cntS (nth l i))):=by
 rw[zaN h];rfl
def binP:Nat->Pat->Bool
 |0,_=>false
 |n+1,p=>decide (p.op=5->p.kids.length=2)&&p.kids.all (binP n)
theorem zgT {n:Nat}{p:Pat} (h:binP (n+1) p=true){i:Nat} (hi:i<p.kids.length):binP n (nth p.kids i)=true:=by
 unfold binP at h;rw[xad,List.all_eq_true] at h;exact h.2 _ (zah hi)
theorem zm5 {n:Nat}{p:Pat} (h:binP (n+1) p=true) (h5:p.op=5):p.kids.length=2:=by
 unfold binP at h;rw[xad] at h;exact(of_decide_eq_true h.1) h5
theorem zo6:∀(n:Nat){p:Pat},binP n p=true->binP (n+1) p=true
 |0,p,h=>by simp[binP] at h
 |n+1,p,h=>by
  have h':=h;unfold binP at h ⊢;rw[xad,List.all_eq_true] at h ⊢;exact⟨h.1,fun k hk=>zo6 n (h.2 k hk)⟩
theorem zjZ {w:List Data}:∀(n:Nat){t:Ty}{p:Pat},zas w n t p=true->binP n (zaO p)=true
 |0,t,p,h=>by simp[zas] at h
 |n+1,t,p,h=>by
  obtain⟨ho,hlen⟩:=zbo h;have hany:binP (n+1) anyQ=true:=by simp[binP,anyQ,Pat.op,Pat.kids]
  rw[zcL];by_cases h2:p.op=2
  ·rw[if_pos h2];exact hany
  rw[if_neg h2];by_cases h6:p.op=6
  ·obtain⟨hl,s0⟩:=zc9 h h6;rw[if_pos ⟨h6,fun e=>by rw[e] at hl;simp at hl⟩];exact zo6 n (zjZ n s0)
  rw[if_neg (fun h=>h6 h.1)];unfold binP;rw[xad,List.all_eq_true];refine⟨decide_eq_true (fun h5=>?_),fun k hk=>?_⟩
  ·have:=(zei h h5).1;simpa [Pat.kids] using this
  ·simp only[Pat.kids,List.mem_map] at hk;obtain⟨x,hx,rfl⟩:=hk;obtain⟨i,hi,rfl⟩:=List.getElem_of_mem hx;have:=zjZ n (zbw h hi);have e:nth p.kids i=p.kids[i]:=za5 hi;rw[e] at this;exact this
theorem zhJ (out:List (List Pat)) (l:List Pat):(zb8 out l).length=out.length*l.length:=by
 unfold zb8;induction out with
 |nil=>simp
 |cons q r ih=>rw[List.flatMap_cons,xaa,ih,xac,xab,Nat.succ_mul];omega
theorem zrQ (ls:List (List Pat)) (l:List Pat):zeS (ls++[l])=zb8 (zeS ls) l:=by unfold zeS;rw[List.foldl_append];rfl
theorem zu3 {a b:Nat}:cap (cap (a:Int)*cap (b:Int))=cap ((a*b:Nat):Int):=by
 unfold cap;rcases Nat.eq_zero_or_pos a with rfl|ha
 ·simp
 rcases Nat.eq_zero_or_pos b with rfl|hb
 ·simp
 have h1:a<=a*b:=Nat.le_mul_of_pos_right a hb;have h2:b<=a*b:=Nat.le_mul_of_pos_left b ha;have hab:((a*b:Nat):Int)=(a:Int)*(b:Int):=by push_cast;rfl
 by_cases ca:401<(a:Int)
 ·rw[if_pos ca];by_cases cb:401<(b:Int)
  ·rw[if_pos cb,if_pos (by omega),if_pos (by omega)]
  ·rw[if_neg cb];have h3:(401:Int)*1<=401*(b:Int):=Int.mul_le_mul_of_nonneg_left (by omega) (by omega);rw[if_pos (show 401<((a*b:Nat):Int) by omega)];split<;>omega
 ·rw[if_neg ca];by_cases cb:401<(b:Int)
  ·rw[if_pos cb];have h3:(1:Int)*401<=(a:Int)*401:=Int.mul_le_mul_of_nonneg_right (by omega) (by omega);rw[if_pos (show 401<((a*b:Nat):Int) by omega)];split<;>omega
  ·rw[if_neg cb,hab]
theorem zu1 {a b:Nat}:cap (cap (a:Int)+cap (b:Int))=cap ((a+b:Nat):Int):=by
 unfold cap;push_cast
 split<;>split<;>split<;>(try split)<;>omega
theorem zu2 {x:Int}:cap (cap x)=cap x:=by unfold cap;split<;>(try split)<;>omega
theorem zqH:∀(l:List Pat) (out:List (List Pat)),(∀k∈l,cntS k=cap ((zaz k).length:Int)/\0<(zaz k).length)->cntM l (cap (out.length:Int))=cap (((l.map zaz).foldl zb8 out).length:Int)/\(0<out.length->0<((l.map zaz).foldl zb8 out).length)
 | [],out,_=>⟨rfl,fun h=>h⟩
 |k::r,out,h=>by
  have hk:=h k (by simp);unfold cntM;rw[hk.1,zu3];have:=zqH r (zb8 out (zaz k)) (fun x hx=>h x (by simp[hx]));rw[zhJ] at this;rw[xae,List.foldl_cons];exact⟨this.1,fun ho=>this.2 (Nat.mul_pos ho hk.2)⟩
theorem zlO:∀(n:Nat){p:Pat},binP n p=true->cntS p=cap ((zaz p).length:Int)/\0<(zaz p).length
 |0,p,h=>by simp[binP] at h
 |n+1,p,h=>by
  have ih:=fun i (hi:i<p.kids.length)=>zlO n (zgT h hi);rw[zna];by_cases h5:p.op=5
  ·have hl:=zm5 h h5;rw[if_pos h5,zhm h5 hl,xaa];have k0:=ih 0 (by omega);have k1:=ih 1 (by omega);have e:p.kids=[nth p.kids 0,nth p.kids 1]:=by
    match hk:p.kids,hl with
    | [a,b],_=>rfl
   refine⟨?_,by omega⟩;rw[e];simp only[cntO];rw[Int.zero_add,k0.1,zu2,k1.1];show cap (cap ((zaz (nth p.kids 0)).length:Int)+cap ((zaz (nth p.kids 1)).length:Int))=_
   rw[zu1];rfl
  ·rw[if_neg h5,zek h5,xac];have:=zqH p.kids [[]] (fun k hk=>by
    obtain⟨i,hi,rfl⟩:=List.getElem_of_mem hk;have:=ih i hi;simpa [nth,List.getD,hi] using this)
   exact⟨this.1,this.2 (by simp)⟩
theorem zg7:∀(ls:List (List Pat)) (out:List (List Pat)),(∀l∈ls,0<l.length)->out.length<=(ls.foldl zb8 out).length
 | [],out,_=>Nat.le_refl _
 |l::r,out,h=>by
  rw[List.foldl_cons];have h1:=zg7 r (zb8 out l) (fun x hx=>h x (by simp[hx]));rw[zhJ] at h1;have h2:out.length<=out.length*l.length:=Nat.le_mul_of_pos_right _ (h l (by simp));omega
theorem ziX:∀(ls:List (List Pat)) (out:List (List Pat)),(∀l∈ls,0<l.length)->0<out.length->∀l∈ls,l.length<=(ls.foldl zb8 out).length
 | [],out,_,_,l,hl=>by simp at hl
 |x::r,out,h,ho,l,hl=>by
  rw[List.foldl_cons];have hx:=h x (by simp);have hp:0<(zb8 out x).length:=by rw[zhJ];exact Nat.mul_pos ho hx
  rcases List.mem_cons.1 hl with rfl|hl
  ·have h1:=zg7 r (zb8 out l) (fun y hy=>h y (by simp[hy]));rw[zhJ] at h1;have h2:l.length<=out.length*l.length:=Nat.le_mul_of_pos_left _ ho;omega
  ·exact ziX r (zb8 out x) (fun y hy=>h y (by simp[hy])) hp l hl
theorem zhI {n:Nat}{p:Pat} (h:binP (n+1) p=true){i:Nat} (hi:i<p.kids.length):(zaz (nth p.kids i)).length<=(zaz p).length:=by
 by_cases h5:p.op=5
 ·have hl:=zm5 h h5;rw[zhm h5 hl,xaa];have:i=0\/i=1:=by omega
  rcases this with rfl|rfl<;>omega
 ·rw[zek h5,xac];refine ziX _ [[]] (fun l hl=>?_) (by simp) _ (List.mem_map.2 ⟨_,zah hi,rfl⟩);obtain⟨k,hk,rfl⟩:=List.mem_map.1 hl;obtain⟨j,hj,rfl⟩:=List.getElem_of_mem hk;have:=(zlO n (zgT h hj)).2;simpa [nth,List.getD,hj] using this
theorem zqw {n:Nat}{p:Pat} (h:binP (n+1) p=true) (h5:p.op≠5) (i:Nat):(zeS ((p.kids.take i).map zaz)).length<=(zaz p).length:=by
 rw[zek h5,xac];have e:p.kids.map zaz=(p.kids.take i).map zaz++(p.kids.drop i).map zaz:=by rw[<-xaf,List.take_append_drop]
 unfold zeS;rw[e,List.foldl_append];refine zg7 _ _ (fun l hl=>?_);obtain⟨k,hk,rfl⟩:=List.mem_map.1 hl;obtain⟨j,hj,rfl⟩:=List.getElem_of_mem (List.mem_of_mem_drop hk);have:=(zlO n (zgT h hj)).2;simpa [nth,List.getD,hj] using this
def zak (w:List Data):Nat->Ty->Pat->Bool
 |0,_,_=>false
 |n+1,t,p=>(ownP w t p&&decide (p.op=1\/p.op=3\/p.op=4))&&all2 (zak w n) (zad w t p) p.kids
theorem zfC {α β:Type}{f g:α->β->Bool}:∀ {a:List α}{b:List β},(∀x∈a,∀y∈b,f x y=true->g x y=true)->all2 f a b=true->all2 g a b=true
 | [],[],_,_=>rfl
 |x::r,y::s,h,h2=>by
  simp only[all2,xad] at h2 ⊢;exact⟨h x (by simp) y (by simp) h2.1,zfC (fun a ha b hb=>h a (by simp[ha]) b (by simp[hb])) h2.2⟩
 | [],_::_,_,h2=>by simp[all2] at h2
 |_::_,[],_,h2=>by simp[all2] at h2
theorem zgI {w:List Data}:∀(n:Nat){t:Ty}{p:Pat},zak w n t p=true->zas w n t p=true
 |0,t,p,h=>by simp[zak] at h
 |n+1,t,p,h=>by
  unfold zak at h;unfold zas;simp only[xad] at h ⊢;exact⟨h.1.1,zfC (fun x _ y _ hh=>zgI n hh) h.2⟩
theorem zga {w:List Data}:∀(n:Nat){t:Ty}{p:Pat},zak w n t p=true->zak w (n+1) t p=true
 |0,t,p,h=>by simp[zak] at h
 |n+1,t,p,h=>by
  unfold zak at h ⊢;simp only[xad] at h ⊢;exact⟨h.1,zfC (fun x _ y _ hh=>zga n hh) h.2⟩
theorem zce {w:List Data}{n:Nat}{t:Ty}{p:Pat} (h:zak w n t p=true):p.op=1\/p.op=3\/p.op=4:=by
 cases n with
 |zero=>simp[zak] at h
 |succ n=>unfold zak at h;simp only[xad] at h;exact of_decide_eq_true h.1.2
theorem zhd {w:List Data}{n:Nat}{t:Ty}{p:Pat} (h:zak w n t p=true):ownP w t p=true/\p.kids.length=(zad w t p).length:=by
 cases n with
 |zero=>simp[zak] at h
 |succ n=>exact zbo (zgI _ h)
theorem zbv {w:List Data}{n:Nat}{t:Ty}{p:Pat} (h:zak w (n+1) t p=true){i:Nat} (hi:i<p.kids.length):zak w n (nth (zad w t p) i) (nth p.kids i)=true:=by
 have hl:=(zhd h).2;unfold zak at h;simp only[xad] at h;exact zdE hl.symm h.2 i (by omega)
theorem zvo {w:List Data}{t:Ty}{p:Pat}{l:List Pat}:ownP w t (.mk p.op p.ctor p.n p.m p.var l)=ownP w t p:=rfl
theorem zto {w:List Data}{t:Ty}{p:Pat}{l:List Pat}:zad w t (.mk p.op p.ctor p.n p.m p.var l)=zad w t p:=rfl
theorem zjR:∀(ls:List (List Pat)) (out:List (List Pat)) (l:List Pat),l∈ls.foldl zb8 out->∃q∈out,∃r:List Pat,l=q++r/\r.length=ls.length/\∀i,i<ls.length->nth r i∈nth ls i
 | [],out,l,h=>⟨l,h,[],by simp,rfl,fun i hi=>by simp at hi⟩
 |x::rs,out,l,h=>by
  rw[List.foldl_cons] at h;obtain⟨q,hq,r,e,hl,hm⟩:=zjR rs (zb8 out x) l h;unfold zb8 at hq;simp only[List.mem_flatMap,List.mem_map] at hq;obtain⟨q0,hq0,c,hc,rfl⟩:=hq;refine⟨q0,hq0,c::r,by rw[e];simp,by simp[hl],fun i hi=>?_⟩;cases i with
  |zero=>exact hc
  |succ i=>exact hm i (by simpa using hi)
theorem znI {w:List Data}{n:Nat}{t:Ty}:zak w (n+1) t anyQ=true:=by
 unfold zak;have h1:zad w t anyQ=[]:=by unfold zad;rw[if_neg (by decide),if_neg (by decide),if_neg (by decide)]
 rw[h1];have h2:ownP w t anyQ=true:=by unfold ownP;exact decide_eq_true (by simp[anyQ,Pat.op,Pat.var,Pat.n,Pat.m,Pat.ctor])
 rw[h2];rfl
theorem zlA:zaz anyQ=[anyQ]:=by
 rw[zek (by decide)];rfl
theorem zfr {w:List Data}{n:Nat}{t:Ty}{p:Pat} (h:zas w (n+1) t p=true) (h4:p.op≠4) (h5:p.op≠5) (h6:p.op≠6):p.kids=[]:=by
 have hl:=(zbo h).2;unfold zad at hl;rw[if_neg h4,if_neg h5,if_neg h6] at hl;exact List.eq_nil_of_length_eq_zero hl
theorem zhe {w:List Data}:∀(n:Nat){t:Ty}{p:Pat},zas w n t p=true->∀x∈zaz (zaO p),zak w n t x=true
 |0,t,p,h=>by simp[zas] at h
 |n+1,t,p,h=>by
  obtain⟨ho,hlen⟩:=zbo h;have hop:=zeh h;intro x hx;rw[zcL] at hx;by_cases h2:p.op=2
  ·rw[if_pos h2,zlA,List.mem_singleton] at hx;rw[hx];exact znI
  rw[if_neg h2] at hx;by_cases h6:p.op=6
  ·obtain⟨hl,s0⟩:=zc9 h h6;rw[if_pos ⟨h6,fun e=>by rw[e] at hl;simp at hl⟩] at hx;exact zga n (zhe n s0 x hx)
  rw[if_neg (fun h=>h6 h.1)] at hx;by_cases h5:p.op=5
  ·obtain⟨hl,s0,s1⟩:=zei h h5;have hl2:(p.kids.map zaO).length=2:=by rw[xac];exact hl
   rw[zhm (p:= .mk p.op p.ctor p.n p.m p.var (p.kids.map zaO)) h5 hl2] at hx;have e0:nth (p.kids.map zaO) 0=zaO (nth p.kids 0):=by
    match hk:p.kids,hl with
    | [a,b],_=>rfl
   have e1:nth (p.kids.map zaO) 1=zaO (nth p.kids 1):=by
    match hk:p.kids,hl with
    | [a,b],_=>rfl
   simp only[zcK] at hx;rw[e0,e1] at hx;rcases List.mem_append.1 hx with hx|hx
   ·exact zga n (zhe n s0 x hx)
   ·exact zga n (zhe n s1 x hx)
  rw[zek (p:= .mk p.op p.ctor p.n p.m p.var (p.kids.map zaO)) h5] at hx;simp only[zcK,zeR,zh6,mk_n,mk_m,zmj,List.mem_map] at hx;obtain⟨l,hl,rfl⟩:=hx;obtain⟨q,hq,r,e,hlr,hm⟩:=zjR _ _ _ hl;rw[List.mem_singleton] at hq;rw[hq,List.nil_append] at e;subst e;simp only[List.map_map,xac] at hlr hm;unfold zak;rw[zvo,zto,ho,decide_eq_true (show _\/_\/_ from by rw[zeR];omega),Bool.true_and,Bool.true_and];refine zb4 (by rw[zcK];omega) (fun i hi=>?_);have hm':=hm i (by omega);have e2:nth (p.kids.map (zaz ∘ zaO)) i=zaz (zaO (nth p.kids i)):=by
   rw[za5 (by simp;omega)];simp[nth,List.getD,show i<p.kids.length by omega]
  rw[e2] at hm';exact zhe n (zbw h (by omega)) _ hm'
theorem Pats.ok_of:∀ {l:List Pat},(∀k∈l,k.ok)->Pats.ok l
 | [],_=>trivial
 |k::r,h=>⟨h k (by simp),Pats.ok_of (fun x hx=>h x (by simp[hx]))⟩
theorem Pats.size_of {m:Nat}:∀ {l:List Pat},(∀k∈l,k.size<=m)->Pats.size l<=l.length*m
 | [],_=>by simp[Pats.size]
 |k::r,h=>by
  have h1:=h k (by simp);have h2:=Pats.size_of (l:=r) (fun x hx=>h x (by simp[hx]));simp only[Pats.size,xab,Nat.succ_mul];omega
mutual
theorem zm4:∀p:Pat,p.ok->(zaO p).ok
 | .mk op c n m v ks,h=>by
  unfold zaO;split
  ·exact⟨by simp,trivial⟩
  ·split
   ·exact ztH ks h.2
   ·exact⟨by rw[zkZ,xac];exact h.1,zo5 ks h.2⟩
theorem ztH:∀l:List Pat,Pats.ok l->(zkk l).ok
 | [],_=>⟨by simp,trivial⟩
 |k::r,h=>zm4 k h.1
theorem zo5:∀l:List Pat,Pats.ok l->Pats.ok (zhs l)
 | [],_=>trivial
 |k::r,h=>⟨zm4 k h.1,zo5 r h.2⟩
end
mutual
theorem znJ:∀p:Pat,(zaO p).size<=p.size
 | .mk op c n m v ks=>by
  unfold zaO;split
  ·simp[anyQ,Pat.size,Pats.size]
  ·split
   ·have:=zrA ks;simp only[Pat.size];omega
   ·have:=zlB ks;simp only[Pat.size];omega
theorem zrA:∀l:List Pat,(zkk l).size<=1+Pats.size l
 | []=>by simp[zkk,anyQ,Pat.size,Pats.size]
 |k::r=>by have:=znJ k;simp only[zkk,Pats.size];omega
theorem zlB:∀l:List Pat,Pats.size (zhs l)<=Pats.size l
 | []=>Nat.le_refl _
 |k::r=>by have:=znJ k;have:=zlB r;simp only[zhs,Pats.size];omega
end
end Go.Proofs.YtpgdedpljcedpaaGreat
namespace Go.Proofs.YtpgdedpljcedpaaGreat
open Go
set_option linter.unusedSimpArgs false
set_option linter.unusedVariables false
def zb1 (ls:List (List Val)):List (List Val):=ls.foldl (fun acc l=>acc.flatMap fun o=>l.map fun y=>o++[y]) [[]]
def zlR:List Val:=(List.range 10).map fun(n:Nat)=>Val.mk (-1) n []
def zaJ (w:List Data):Nat->Ty->List Val
 |0,_=>[]
 |n+1,t=>if t.data = -1 then zlR else (zaM w t).flatMap fun c=>(zb1 ((zab w t c).map (zaJ w n))).map (Val.mk c 0)
def zbn:List Nat->Nat
 | []=>1
 |a::r=>a*zbn r
theorem zua (acc:List (List Val)) (l:List Val):(acc.flatMap fun o=>l.map fun y=>o++[y]).length=acc.length*l.length:=by
 induction acc with
 |nil=>simp
 |cons a r ih=>simp only[List.flatMap_cons,xaa,xac,ih,xab,Nat.add_mul];omega
theorem zsI (ls:List (List Val)):∀acc:List (List Val),(ls.foldl (fun acc l=>acc.flatMap fun o=>l.map fun y=>o++[y]) acc).length=acc.length*zbn (ls.map List.length):=by
 induction ls with
 |nil=>intro acc;simp[zbn]
 |cons l r ih=>intro acc;simp only[List.foldl_cons,ih,zua,xae,zbn,Nat.mul_assoc]
theorem zgb (ls:List (List Val)):(zb1 ls).length=zbn (ls.map List.length):=by unfold zb1;rw[zsI];simp
theorem zjQ (a b:List Nat):zbn (a++b)=zbn a*zbn b:=by
 induction a with
 |nil=>simp[zbn]
 |cons x r ih=>simp only[xag,zbn,ih,Nat.mul_assoc]
theorem zrP {l:List Nat} (h:0∈l):zbn l=0:=by
 induction l with
 |nil=>simp at h
 |cons x r ih=>
  rcases List.mem_cons.1 h with h|h
  ·simp[zbn,<-h]
  ·simp[zbn,ih h]
theorem zoj {l:List Nat} (h:∀x,x∈l->0<x):0<zbn l:=by
 induction l with
 |nil=>simp[zbn]
 |cons x r ih=>exact Nat.mul_pos (h x (by simp)) (ih (fun y hy=>h y (List.mem_cons_of_mem _ hy)))
def capN (n:Nat):Nat:=if 401<n then 401 else n
theorem ztw (a b:Nat):capN (capN a*capN b)=capN (a*b):=by
 have key:∀x y:Nat,401<x->capN (401*capN y)=capN (x*y):=fun x y hx=>by
  rcases Nat.eq_zero_or_pos y with h|h
  ·subst h;simp[capN]
  ·have h1:401*1<=x*y:=Nat.mul_le_mul (by omega) h;have h2:1<=capN y:=by unfold capN;split<;>omega
   have h3:401*1<=401*capN y:=Nat.mul_le_mul_left _ h2;have e1:capN (401*capN y)=401:=by
    generalize capN y=z at *;unfold capN;split
    ·rfl
    ·rename_i h4;omega
   have e2:capN (x*y)=401:=by
    unfold capN;split
    ·rfl
    ·rename_i h4;omega
   rw[e1,e2]
 by_cases ha:401<a
 ·have:capN a=401:=by simp[capN,ha]
  rw[this];exact key a b ha
 ·have e1:capN a=a:=by simp[capN,ha]
  by_cases hb:401<b
  ·have:capN b=401:=by simp[capN,hb]
   rw[this,e1,Nat.mul_comm,Nat.mul_comm a b];have:=key b a hb;rw[e1] at this;exact this
  ·have e2:capN b=b:=by simp[capN,hb]
   rw[e1,e2]
theorem zkh (a:Nat):(401<a/\capN a=401)\/(a<=401/\capN a=a):=by unfold capN;split<;>omega
theorem ztv (a b:Nat):capN (capN a+capN b)=capN (a+b):=by
 have h1:=zkh a;have h2:=zkh b;have h3:=zkh (a+b);have h4:=zkh (capN a+capN b);omega
theorem zqE (n:Nat):cap (n:Int)=(capN n:Int):=by unfold cap capN;split<;>split<;>omega
theorem zpk {f:Ty->Int}{g:Ty->Nat} (h:∀t,f t=(capN (g t):Int)) (l:List Ty):ze3 f l=(capN (zbn (l.map g)):Int):=by
 have key:∀(l:List Ty) (m:Nat),l.foldl (fun n a=>cap (n*f a)) (capN m:Int)=(capN (m*zbn (l.map g)):Int):=by
  intro l;induction l with
  |nil=>intro m;simp[zbn]
  |cons a r ih=>
   intro m;simp only[List.foldl_cons,xae,zbn];rw[h a];have:cap ((capN m:Int)*(capN (g a):Int))=(capN (m*g a):Int):=by
    rw[<-Int.natCast_mul,zqE,ztw]
   rw[this,ih,Nat.mul_assoc]
 have:=key l 1;simpa [ze3,capN] using this
theorem zqh {f:Int->Int}{g:Int->Nat} (h:∀c,f c=(capN (g c):Int)) (l:List Int):zeV f l=(capN ((l.map g).sum):Int):=by
 have key:∀(l:List Int) (m:Nat),l.foldl (fun s c=>cap (s+f c)) (capN m:Int)=(capN (m+(l.map g).sum):Int):=by
  intro l;induction l with
  |nil=>intro m;simp
  |cons a r ih=>
   intro m;simp only[List.foldl_cons,xae,List.sum_cons];rw[h a];have:cap ((capN m:Int)+(capN (g a):Int))=(capN (m+g a):Int):=by
    rw[<-Int.natCast_add,zqE,ztv]
   rw[this,ih,Nat.add_assoc]
 have:=key l 0;simpa [zeV,capN] using this
theorem zkO {α β:Type} (f:α->List β) (l:List α):(l.flatMap f).length=(l.map fun a=>(f a).length).sum:=by
 induction l with
 |nil=>rfl
 |cons a r ih=>simp[ih]
theorem zhu (w:List Data):∀(n:Nat) (t:Ty),zbu w n t=(capN (zaJ w n t).length:Int)
 |0,t=>by simp[zbu,zaJ,capN]
 |n+1,t=>by
  unfold zbu zaJ;split
  ·simp[zlR,capN]
  ·rw[zqh (g:=fun c=>((zb1 ((zab w t c).map (zaJ w n))).map (Val.mk c 0)).length) (fun c=>?_),zkO];rw[zpk (g:=fun t=>(zaJ w n t).length) (fun t=>zhu w n t),xac,zgb,List.map_map];rfl
theorem zec {w:List Data}{n:Nat}{t:Ty} (h:zbu w n t<=400):((zaJ w n t).length:Int)=zbu w n t:=by
 rw[zhu] at h ⊢;unfold capN at *;split at h
 ·omega
 ·rename_i h1;simp[h1]
theorem zlQ {w:List Data}{n:Nat}{t:Ty}:zbu w n t=0↔zaJ w n t=[]:=by
 rw[zhu,<-List.length_eq_zero_iff];unfold capN;split<;>omega
theorem zs1 {w:List Data}{n:Nat}{l:List Ty} (h:(l.any fun a=>decide (zbu w n a=0))=true):zb1 (l.map (zaJ w n))=[]:=by
 rw[<-List.length_eq_zero_iff,zgb];obtain⟨a,ha,h0⟩:=List.any_eq_true.1 h;refine zrP ?_;simp only[List.map_map,List.mem_map];refine⟨a,ha, ?_⟩;have:=zlQ.1 (of_decide_eq_true h0);simp[this]
theorem ztV {w:List Data}{n:Nat}{t:Ty} (ht:t.data≠ -1) (hc:zbu w (n+1) t<=400){c:Int} (hm:c∈zaM w t){pre rest:List Ty}{y:Ty} (he:pre++y::rest=zab w t c)
  (h0:((zab w t c).any fun a=>decide (zbu w n a=0))=false):(zb1 ((pre++[y]).map (zaJ w n))).length<=400/\(zaJ w n y).length<=400/\(zb1 (pre.map (zaJ w n))).length<=400:=by
 have h1:=zec hc;have h2:(zb1 ((zab w t c).map (zaJ w n))).length<=(zaJ w (n+1) t).length:=by
  have e:zaJ w (n+1) t=(zaM w t).flatMap fun c=>(zb1 ((zab w t c).map (zaJ w n))).map (Val.mk c 0):=by rw[zaJ,if_neg ht]
  obtain⟨l1,l2,hl⟩:=List.append_of_mem hm;rw[e,hl];simp;omega
 have hpos:∀a,a∈zab w t c->0<(zaJ w n a).length:=fun a ha=>by
  have:=(List.any_eq_false.1 h0) a ha;simp only[decide_eq_true_eq] at this;have h3:zaJ w n a≠[]:=fun h=>this (zlQ.2 h);exact List.length_pos_iff.2 h3
 have h3:(zb1 ((zab w t c).map (zaJ w n))).length=zbn ((pre.map fun a=>(zaJ w n a).length))*((zaJ w n y).length*zbn (rest.map fun a=>(zaJ w n a).length)):=by
  rw[zgb,<-he];simp only[xaf,xae,List.map_map,zjQ,zbn];rfl
 have h4:(zb1 ((pre++[y]).map (zaJ w n))).length=zbn (pre.map fun a=>(zaJ w n a).length)*(zaJ w n y).length:=by
  rw[zgb];simp only[xaf,xae,List.map_nil,List.map_map,zjQ,zbn,Nat.mul_one];rfl
 have p1:0<zbn (rest.map fun a=>(zaJ w n a).length):=zoj (fun x hx=>by
  obtain⟨a,ha,rfl⟩:=List.mem_map.1 hx;exact hpos a (by rw[<-he];simp[ha]))
 have p2:0<zbn (pre.map fun a=>(zaJ w n a).length):=zoj (fun x hx=>by
  obtain⟨a,ha,rfl⟩:=List.mem_map.1 hx;exact hpos a (by rw[<-he];simp[ha]))
 have h5:zbn (pre.map fun a=>(zaJ w n a).length)*(zaJ w n y).length<=zbn ((pre.map fun a=>(zaJ w n a).length))*((zaJ w n y).length*zbn (rest.map fun a=>(zaJ w n a).length)):=by
  rw[<-Nat.mul_assoc];exact Nat.le_mul_of_pos_right _ p1
 have h6:(zaJ w n y).length<=zbn (pre.map fun a=>(zaJ w n a).length)*(zaJ w n y).length:=Nat.le_mul_of_pos_left _ p2;have h7:zbn (pre.map fun a=>(zaJ w n a).length)<=zbn (pre.map fun a=>(zaJ w n a).length)*(zaJ w n y).length:=Nat.le_mul_of_pos_right _ (hpos y (by rw[<-he];simp));have h8:(zb1 (pre.map (zaJ w n))).length=zbn (pre.map fun a=>(zaJ w n a).length):=by rw[zgb,List.map_map];rfl
 omega
end Go.Proofs.YtpgdedpljcedpaaGreat
namespace Go.Proofs.YtpgdedpljcedpaaGreat
open Go
set_option linter.unusedSimpArgs false
set_option linter.unusedVariables false
set_option maxRecDepth 100000
set_option maxHeartbeats 2000000
theorem Val.cs_cc (l:List Val):Val.cs l=l.map Val.cc:=by
 rw[Val.cs_eq];exact List.map_congr_left (fun v _=>Val.c_eq v)
theorem zja {xs:List Val} (hs:xs.length<=1000000000000):FnD Tryz.prog 110 [.d (zbG xs)] [] (.gl 77 (Val.cs xs)) [(77,some (.tok (Val.cs xs).length 3))]:=by
 refine Fn.body (fn:=Tryz.f110) (n:=8) rfl rfl rfl rfl rfl (fun w0 F0 own kept hk=>?_);refine xan 0 rfl (fun hx0=>?_) ?_;refine evc [2,4] [] ?_;refine asg ?_;refine tv ?_;refine xaS sl37 .none rfl rfl ?_;refine tv ?_;refine sqT ?_;refine xaF 77 3 .none rfl rfl ?_;refine tv ?_;refine rn [(77,some (.tok (Val.cs xs).length 3))] (r1 rfl) (.glg ?_) ⟨rfl,rfl⟩ (SubH.get ⟨?_,trivial⟩) (zax rfl);rotate_left 2;refine evc [2,4] [] ?_;refine asg ?_;refine tv ?_;refine xaR sl37 .none rfl rfl ?_;refine tv ?_;refine sqF ?_;refine xbi 77 sl37 .none rfl rfl ?_;refine evs [2,4] [] ?_;refine ap sl37 zz44 rfl rfl rfl (by intro y hy;rw[Val.cs_cc] at hy;obtain⟨z,_,rfl⟩:=List.mem_map.1 hy;rfl) (by simp[Val.cs_len];omega) ?_;refine asg ?_;refine tv ?_;refine rn [(77,some (.tok (Val.cs xs).length 3))] (r1 rfl) (.glg ?_) ⟨rfl,rfl⟩ (SubH.get ⟨?_,trivial⟩) (zax rfl);rotate_left 2;all_goals (first|((first|rfl|exact hx0.symm|(simp;done));done)|(first|rfl|(simp[hx0];rfl)|(simp;rfl)))
theorem zeW:∀(n:Nat){v:Val},v.size<=n->v.ok->FnD Tryz.prog 63 [.agg [.d (.i v.ctor),.d (.i v.num),.d (zbG v.kids)]] [] (.agg [.d (.i v.ctor),.d (.i v.num),.d (zbG v.kids)]) []
 |0,v,h,_=>by rw[Val.size_eq] at h;omega
 |n+1,v,h,hok=>by
  rw[Val.size_eq] at h;rw[Val.ok_iff] at hok;have hok1:=hok.1;refine bd Tryz.f63 27 [] [] fun w0 F0 own kept hk=>?_;refine bx 3001 ?_;refine ab 3002 tz44 ?_;refine tv ?_;refine bu [0,1] [_,_] st44 ?_;refine ab 3003 tz44 ?_;refine so ty44 ?_;refine tv ?_;refine xao 3003 2 7 3 rfl rfl rfl rfl ?_;refine xak (ι:=List (Val)×List (Val)) hk (fun x=>[(14,.d (.i (x.1.length:Int)))]) [5,15,16,17,18,19,20,21,22,23,24,25] (fun x=>[(3003,some (.box [.d (.i v.ctor),.d (.i v.num),.gl 7 (x.1.map Val.cc)])),(7,some (.tok (x.1.map Val.cc).length 3))]) (fun x=>x.1++x.2=v.kids) (fun x=>x.2.length) ([],v.kids) (by simp) ⟨⟨_,rfl,xar ?_⟩,trivial⟩ ⟨?_,⟨zaa ?_,trivial⟩⟩ (fun x=>rfl) (fun x hg1=>?_);focus (rfl)
  focus (first|rfl|(simp[getH];done))
  focus (rfl)
  obtain⟨pre,rest⟩:=x;dsimp only at hg1 ⊢;refine evc [] [] ?_;refine sq ?_ ?_<;>intro h1 h1p h1s<;>(try simp only[Q,Val.cs_len] at h1p);rcases rest with _|⟨y,rest⟩
  ·exfalso;simp_all
  refine xaU sl37 .none rfl rfl rfl rfl (Val.cs_at hg1) rfl ?_;refine ev ?_;refine ab 3005 tz44 ?_;refine so ty44 ?_;refine tv ?_;refine wc zrp (zeW n (v:=y) (by have:=Vals.size_mem (l:=v.kids) (v:=y) (by rw[<-hg1];simp);omega) (Vals.ok_mem hok.2 y (by rw[<-hg1];simp))) rfl rfl ?_;refine si [0] [_] sl37 tz44 ?_;refine ap sl37 zz44 rfl rfl rfl (by simp) (by have:=congrArg List.length hg1;simp at this;simp;omega) ?_;refine evd [] [] ?_;refine so ty37 ?_;refine dr ?_;refine ar ?_;refine xah ((pre++[y],rest)) ⟨(by have hz:=hg1;rw[<-hz];simp),(by simp),sx ⟨⟨_,rfl,xar ?_⟩,trivial⟩ ⟨?_,⟨zaa ?_,trivial⟩⟩⟩;focus ((simp;done))
  focus (first|rfl|(simp[getH];done))
  focus ((simp;done))
  have hrest:rest=[]:=by
   rcases rest with _|⟨a,b⟩
   ·rfl
   ·exfalso;have hz:=congrArg List.length (hg1);simp only[xaa,xab,xac] at hz;omega
  subst hrest;refine so ty44 ?_;refine tv ?_;refine rn0 (.cons (.cellA ty44 rfl rfl rfl) .nil) (.agg (.cons (.eqd ?_) (.cons (.eqd ?_) (.cons (.gld ?_) .nil))));rotate_left 3;all_goals (first|rfl|(rw[List.append_nil] at hg1;rw[<-hg1,Val.cs_cc];done))
end Go.Proofs.YtpgdedpljcedpaaGreat
