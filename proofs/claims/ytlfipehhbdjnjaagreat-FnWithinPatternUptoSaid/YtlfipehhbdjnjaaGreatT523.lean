/-
  THE ABSTRACT WALK AND THE WALKS, part 3 of 6: the parts F20, F21, F24, F25, F22, F26, F23, F27, F28, F29, F40, F14, F16, F42, F50, F51, F52, F53, F54, F55, F56, F57, F58, F70, Val, F7, F8, Wu, F9, F71, F72, F74.
-/
import Derived.Test.YtlfipehhbdjnjaaGreatT522
namespace Go.Proofs.YtlfipehhbdjnjaaGreat
open Go
set_option linter.unusedSimpArgs false
set_option linter.unusedVariables false
set_option maxRecDepth 100000
set_option maxHeartbeats 2000000
structure Vt where
 var:Int
 ty:Ty
 deriving DecidableEq,Inhabited
abbrev Vt.c (t:Vt):List D:=[.i t.var,.i t.ty.data,.i t.ty.index]
abbrev zdB (l:List Vt):D:= .sl (l.map Vt.c)
def zai (w:List Data) (t:Ty):List Int:=if t.data = -1 then [] else zaW w t
def zac (w:List Data) (t:Ty) (p:Pat):List Ty:=if p.op=4 then zaa w t p.ctor else if p.op=5 then [t,t] else if p.op=6 then [t] else []
def ownP (w:List Data) (t:Ty) (p:Pat):Bool:=decide (((p.op=2\/p.op=6)->0<=p.var/\p.var<=5)/\(¬(p.op=2\/p.op=6)->p.var=0)/\(p.op≠3->p.n=0/\p.m=0)/\(p.op≠4->p.ctor=0)/\
 (p.op=1\/p.op=2\/p.op=5\/p.op=6\/(p.op=3/\t.data = -1/\0<=p.n/\p.n<=p.m/\p.m<=9)\/(p.op=4/\p.ctor∈zai w t)))
def okP (w:List Data) (t:Ty) (p:Pat):Bool:=ownP w t p&&decide (p.kids.length=(zac w t p).length)
def zco (w:List Data) (t:Ty) (p:Pat):List Ty:=if p.op=4/\p.ctor∉zai w t then [] else zac w t p
def zao (w:List Data):Nat->Ty->Pat->Bool
 |0,_,_=>false
 |n+1,t,p=>ownP w t p&&all2 (zao w n) (zac w t p) p.kids
def zaS (t:Ty) (p:Pat):List Vt:=if p.op=2\/p.op=6 then [⟨p.var,t⟩] else []
def zbe (f:Ty->Pat->List Vt):List Ty->List Pat->List Vt
 |a::r,b::s=>f a b++zbe f r s
 |_,_=>[]
def zdI (w:List Data) (t:Ty) (p:Pat):List Ty:=if p.op=5 then (zac w t p).take 1 else zac w t p
def zaJ (w:List Data):Nat->Ty->Pat->List Vt
 |0,_,_=>[]
 |n+1,t,p=>zaS t p++zbe (zaJ w n) (zdI w t p) p.kids
def zbX (l:List Vt) (n:Int):Int:=idxF (fun v=>decide (v.var=n)) l 0
def zdz (a b:List Vt):Bool:=a.all (fun v=>decide (0<=zbX b v.var/\(nth b (zbX b v.var).toNat).ty=v.ty))&&decide (a.length=b.length)
def zpH (l:List Vt):Bool:=(List.range l.length).all fun(i:Nat)=>decide (zbX l (nth l i).var=(i:Int))
def zd6 (a b:List Vt):Bool:=decide (a.length=b.length)&& !a.any fun v=> !decide (v∈b)
def zcz (l:List Vt):Bool:=decide (l.map Vt.var).Nodup
def linP (w:List Data):Nat->Ty->Pat->Bool
 |0,_,_=>true
 |n+1,t,p=>all2 (linP w n) (zac w t p) p.kids&&(if p.op=5 then zdz (zaJ w n t (nth p.kids 0)) (zaJ w n t (nth p.kids 1)) else zpH (zaJ w (n+1) t p))
theorem zi9 (l:List Vt) (n:Int):(zbX l n = -1/\∀v∈l,v.var≠n)\/∃k:Nat,zbX l n=k/\k<l.length/\(nth l k).var=n/\∀j,j<k->(nth l j).var≠n:=by
 have key:∀(l:List Vt) (i:Nat),(idxF (fun v=>decide (v.var=n)) l i = -1/\∀v∈l,v.var≠n)\/∃k:Nat,idxF (fun v=>decide (v.var=n)) l i=((i+k:Nat):Int)/\k<l.length/\(nth l k).var=n/\∀j,j<k->(nth l j).var≠n:=by
  intro l;induction l with
  |nil=>intro i;exact .inl ⟨rfl,by simp⟩
  |cons x r ih=>
   intro i;unfold idxF;by_cases h:x.var=n
   ·exact .inr ⟨0,by simp[h],by simp,by simpa [nth] using h,fun j hj=>absurd hj (by omega)⟩
   ·rcases ih (i+1) with ⟨h1,h2⟩|⟨k,h1,h2,h3,h4⟩
    ·exact .inl ⟨by simpa [h] using h1,fun v hv=>by rcases List.mem_cons.1 hv with rfl|hv;exact h;exact h2 v hv⟩
    ·refine .inr ⟨k+1, ?_,by simpa using h2,by simpa [nth] using h3,fun j hj=>?_⟩
     ·simp only[h,decide_false,Bool.false_eq_true,if_false];rw[h1];congr 1;omega
     ·cases j with
      |zero=>simpa [nth] using h
      |succ j=>simpa [nth] using h4 j (by omega)
 rcases key l 0 with h|⟨k,h1,h2⟩
 ·exact .inl h
 ·exact .inr ⟨k,by unfold zbX;simpa using h1,h2⟩
theorem zo2 {l:List Vt}:(l.map Vt.var).Nodup↔∀i j,i<j->j<l.length->(nth l i).var≠(nth l j).var:=by
 unfold List.Nodup;rw[List.pairwise_iff_getElem];constructor
 ·intro h i j hij hj;have:=h i j (by simp;omega) (by simpa using hj) hij;simp only[List.getElem_map] at this;rw[zaO (by omega),zaO hj];exact this
 ·intro h i j hi hj hij;simp only[xac] at hi hj;simp only[List.getElem_map];rw[<-zaO hi,<-zaO hj];exact h i j hij hj
theorem zo4 {l:List Vt} (h:(l.map Vt.var).Nodup){i j:Nat} (hi:i<l.length) (hj:j<l.length) (he:(nth l i).var=(nth l j).var):i=j:=by
 have h1:=zo2.1 h;rcases Nat.lt_trichotomy i j with h2|h2|h2
 ·exact absurd he (h1 i j h2 hj)
 ·exact h2
 ·exact absurd he.symm (h1 j i h2 hi)
theorem zqj (l:List Vt):zpH l=zcz l:=by
 unfold zcz;by_cases h:(l.map Vt.var).Nodup
 ·rw[decide_eq_true h];refine zdA (fun i hi=>decide_eq_true ?_);rcases zi9 l (nth l i).var with ⟨_,h2⟩|⟨k,h1,h2,h3,h4⟩
  ·exact absurd rfl (h2 _ (zae hi))
  ·rw[h1,zo4 h h2 hi h3]
 ·rw[decide_eq_false h];cases hd:zpH l with
  |false=>rfl
  |true=>
   refine absurd ?_ h;rw[zo2];intro i j hij hj he;have h1:=List.all_eq_true.1 hd i (List.mem_range.2 (by omega));have h2:=List.all_eq_true.1 hd j (List.mem_range.2 hj);simp only[decide_eq_true_eq] at h1 h2;rw[he,h2] at h1;omega
theorem zmc {a b:List Vt} (hb:zcz b=true):zdz a b=zd6 a b:=by
 unfold zcz at hb;simp only[decide_eq_true_eq] at hb;unfold zdz zd6;rw[Bool.and_comm];congr 1
 rw[Bool.eq_iff_iff];simp only[List.all_eq_true,Bool.not_eq_true',List.any_eq_false,decide_eq_true_eq,Bool.not_eq_true,decide_eq_false_iff_not,Decidable.not_not];refine forall_congr' fun v=>forall_congr' fun hv=>?_;rcases zi9 b v.var with ⟨h1,h2⟩|⟨k,h1,h2,h3,h4⟩
 ·rw[h1];exact⟨fun h=>absurd h.1 (by omega),fun h=>absurd rfl (h2 v h)⟩
 ·rw[h1];simp only[Int.toNat_natCast];constructor
  ·rintro ⟨_,h⟩
   have:nth b k=v:=by
    have e:∀x y:Vt,x.var=y.var->x.ty=y.ty->x=y:=fun x y h1 h2=>by cases x;cases y;simp_all
    exact e _ _ h3 h
   rw[<-this];exact zae h2
  ·intro h;refine⟨by omega, ?_⟩;obtain⟨j,hj,he⟩:=List.getElem_of_mem h;have h5:nth b j=v:=by rw[zaO hj];exact he
   have:=zo4 hb h2 hj (by rw[h3,h5]);rw[this,h5]
def zbo (g:Ty->Pat->Int->Option (List Vt)×Int) (or:Bool):List Ty->List Pat->Nat->List Vt->Int->Option (List Vt)×Int
 |a::r,b::s,i,acc,c=>match (g a b c).1 with
  |none=>(none,(g a b c).2)
  |some l=>if or=true/\i=1 then (if zd6 acc l=true then zbo g or r s (i+1) acc (g a b c).2 else (none,(g a b c).2)) else zbo g or r s (i+1) (acc++l) (g a b c).2
 |_,_,_,acc,c=>(some acc,c)
def finV (r:Option (List Vt)×Int):Option (List Vt)×Int:=match r.1 with
 |none=>r
 |some l=>if zcz l=true then r else (none,r.2)
def zaT (w:List Data):Nat->Ty->Pat->Int->Option (List Vt)×Int
 |0,_,_,c=>(none,c+1)
 |n+1,t,p,c=>if 60<c+1 then (none,c+1) else if okP w t p=true then finV (zbo (zaT w n) (decide (p.op=5)) (zac w t p) p.kids 0 (zaS t p) (c+1)) else (none,c+1)
def zbU (w:List Data) (n:Nat) (t:Ty) (p:Pat) (c:Int):Bool:=zao w n t p&&(decide (c+(p.size:Int)<=60)&&linP w n t p)
theorem ze8 (w:List Data):∀(n:Nat) (t:Ty) (p:Pat),zao w n t p=true->linP w n t p=true->zcz (zaJ w n t p)=true
 |0,t,p,h,_=>by simp[zao] at h
 |n+1,t,p,h,hl=>by
  by_cases h5:p.op=5
  ·simp only[zao,linP,xad,if_pos h5] at h hl;have e1:zac w t p=[t,t]:=by unfold zac;rw[if_neg (by omega),if_pos h5]
   rw[e1] at h hl;rcases hk:p.kids with _|⟨x,_|⟨y,_|⟨z,r⟩⟩⟩
   ·rw[hk] at h;simp[all2] at h
   ·rw[hk] at h;simp[all2] at h
   ·rw[hk] at h hl;simp only[all2,xad,and_true] at h hl;have:=ze8 w n t x h.2.1 hl.1.1;have e2:zaJ w (n+1) t p=zaJ w n t x:=by
     simp only[zaJ,zaS,zdI,e1,hk,if_pos h5];rw[if_neg (by omega)];simp[zbe]
    rw[e2];exact this
   ·rw[hk] at h;simp[all2] at h
  ·simp only[linP,if_neg h5,xad] at hl;rw[<-zqj];exact hl.2
theorem zrb {w:List Data}{n:Nat} (ih:∀t p c,((zaT w n t p c).1=if zbU w n t p c=true then some (zaJ w n t p) else none)/\(zbU w n t p c=true->(zaT w n t p c).2=c+p.size)):
  ∀(a:List Ty) (b:List Pat) (i:Nat) (acc:List Vt) (c:Int),a.length=b.length->c<=60->
   ((zbo (zaT w n) false a b i acc c).1=if (all2 (zao w n) a b&&(decide (c+(Pats.size b:Int)<=60)&&all2 (linP w n) a b))=true then some (acc++zbe (zaJ w n) a b) else none)/\
   ((all2 (zao w n) a b&&(decide (c+(Pats.size b:Int)<=60)&&all2 (linP w n) a b))=true->(zbo (zaT w n) false a b i acc c).2=c+Pats.size b)
 | [],[],i,acc,c,_,hc=>by simp[zbo,all2,Pats.size,zbe,hc]
 |x::r,y::s,i,acc,c,hl,hc=>by
  obtain⟨h1,h2⟩:=ih x y c;have hps:Pats.size (y::s)=y.size+Pats.size s:=rfl;simp only[zbo,zbe];by_cases hw:zbU w n x y c=true
  ·have h3:=h2 hw;rw[if_pos hw] at h1;rw[h1];simp only[Bool.false_eq_true,false_and,if_false];have h4:=hw;simp only[zbU,xad,decide_eq_true_eq] at h4;obtain⟨h5,h6⟩:=zrb ih r s (i+1) (acc++zaJ w n x y) (zaT w n x y c).2 (by simpa using hl) (by omega);have e:(all2 (zao w n) (x::r) (y::s)&&(decide (c+(Pats.size (y::s):Int)<=60)&&all2 (linP w n) (x::r) (y::s)))=(all2 (zao w n) r s&&(decide ((zaT w n x y c).2+(Pats.size s:Int)<=60)&&all2 (linP w n) r s)):=by
    rw[all2,all2,h4.1,h4.2.2,h3];simp only[Bool.true_and];congr 2
    exact decide_eq_decide.2 (by omega)
   rw[e];refine⟨?_,fun hx=>?_⟩
   ·rw[h5,List.append_assoc]
   ·rw[h6 hx,h3];omega
  ·rw[if_neg hw] at h1;rw[h1];simp only;have hf:¬(all2 (zao w n) (x::r) (y::s)&&(decide (c+(Pats.size (y::s):Int)<=60)&&all2 (linP w n) (x::r) (y::s)))=true:=fun h=>by
    simp only[all2,xad,decide_eq_true_eq] at h;refine hw ?_;simp only[zbU,xad,decide_eq_true_eq];refine⟨h.1.1, ?_,h.2.2.1⟩;have:=h.2.1;omega
   rw[if_neg hf];exact⟨rfl,fun h=>absurd h hf⟩
 | [],_::_,_,_,_,hl,_=>by simp at hl
 |_::_,[],_,_,_,hl,_=>by simp at hl
theorem zf9 (w:List Data):∀(n:Nat) (t:Ty) (p:Pat) (c:Int),((zaT w n t p c).1=if zbU w n t p c=true then some (zaJ w n t p) else none)/\(zbU w n t p c=true->(zaT w n t p c).2=c+p.size)
 |0,t,p,c=>by simp[zaT,zbU,zao]
 |n+1,t,p,c=>by
  have hsz:=Pat.size_eq p;unfold zaT;by_cases h1:60<c+1
  ·have hf:¬zbU w (n+1) t p c=true:=fun h=>by
    simp only[zbU,xad,decide_eq_true_eq] at h;omega
   rw[if_pos h1,if_neg hf];exact⟨rfl,fun h=>absurd h hf⟩
  rw[if_neg h1];by_cases h2:okP w t p=true
  ·rw[if_pos h2];have h2':=h2;simp only[okP,xad,decide_eq_true_eq] at h2';by_cases h5:p.op=5
   ·have e1:zac w t p=[t,t]:=by unfold zac;rw[if_neg (by omega),if_pos h5]
    have e3:zaS t p=[]:=by unfold zaS;rw[if_neg (by omega)]
    rw[e1] at h2';rcases hk:p.kids with _|⟨x,_|⟨y,_|⟨z,r⟩⟩⟩
    ·rw[hk] at h2';simp at h2'
    ·rw[hk] at h2';simp at h2'
    ·have e4:zaJ w (n+1) t p=zaJ w n t x:=by
      simp only[zaJ,zdI,e1,hk,if_pos h5,e3];simp[zbe]
     have e5:zbU w (n+1) t p c=((zao w n t x&&zao w n t y)&&(decide (c+1+(x.size:Int)+y.size<=60)&&((linP w n t x&&linP w n t y)&&zdz (zaJ w n t x) (zaJ w n t y)))):=by
      simp only[zbU,zao,linP,h2'.1,e1,hk,all2,if_pos h5,Bool.and_true,Bool.true_and,nth,List.getD_cons_zero,List.getD_cons_succ];congr 2
      refine decide_eq_decide.2 ?_;rw[hsz,hk];simp only[Pats.size];push_cast;omega
     rw[e4,e5,e1,e3];obtain⟨a1,a2⟩:=zf9 w n t x (c+1);simp only[zbo,h5,decide_true];by_cases w1:zbU w n t x (c+1)=true
     ·have a3:=a2 w1;rw[if_pos w1] at a1;have b1:=w1;simp only[zbU,xad,decide_eq_true_eq] at b1;obtain⟨d1,d2⟩:=zf9 w n t y (zaT w n t x (c+1)).2;rw[a1];simp only[true_and,Nat.zero_ne_one,if_false,List.nil_append];by_cases w2:zbU w n t y (zaT w n t x (c+1)).2=true
      ·have d3:=d2 w2;rw[if_pos w2] at d1;have b2:=w2;simp only[zbU,xad,decide_eq_true_eq] at b2;rw[d1];simp only[Nat.zero_add,if_true];have n1:=ze8 w n t x b1.1 b1.2.2;have n2:=ze8 w n t y b2.1 b2.2.2;have e6:((zao w n t x&&zao w n t y)&&(decide (c+1+(x.size:Int)+y.size<=60)&&((linP w n t x&&linP w n t y)&&zdz (zaJ w n t x) (zaJ w n t y))))=zd6 (zaJ w n t x) (zaJ w n t y):=by
        rw[b1.1,b2.1,b1.2.2,b2.2.2,zmc n2,decide_eq_true (by omega)];simp
       rw[e6];by_cases hs:zd6 (zaJ w n t x) (zaJ w n t y)=true
       ·rw[if_pos hs,if_pos hs];simp only[finV,n1,if_true];refine⟨trivial,fun _=>?_⟩;rw[d3,a3,hsz,hk];simp only[Pats.size];push_cast;omega
       ·rw[if_neg hs,if_neg hs];simp only[finV];exact⟨trivial,fun h=>absurd h hs⟩
      ·rw[if_neg w2] at d1;rw[d1];simp only[finV];have hf:¬((zao w n t x&&zao w n t y)&&(decide (c+1+(x.size:Int)+y.size<=60)&&((linP w n t x&&linP w n t y)&&zdz (zaJ w n t x) (zaJ w n t y))))=true:=fun h=>by
        simp only[xad,decide_eq_true_eq] at h;refine w2 ?_;simp only[zbU,xad,decide_eq_true_eq];exact⟨h.1.2,by omega,h.2.2.1.2⟩
       rw[if_neg hf];exact⟨rfl,fun h=>absurd h hf⟩
     ·rw[if_neg w1] at a1;rw[a1];simp only[finV];have hf:¬((zao w n t x&&zao w n t y)&&(decide (c+1+(x.size:Int)+y.size<=60)&&((linP w n t x&&linP w n t y)&&zdz (zaJ w n t x) (zaJ w n t y))))=true:=fun h=>by
       simp only[xad,decide_eq_true_eq] at h;refine w1 ?_;simp only[zbU,xad,decide_eq_true_eq];exact⟨h.1.1,by omega,h.2.2.1.1⟩
      rw[if_neg hf];exact⟨rfl,fun h=>absurd h hf⟩
    ·rw[hk] at h2';simp at h2'
   ·have e0:(decide (p.op=5))=false:=decide_eq_false h5;rw[e0];obtain⟨a1,a2⟩:=zrb (fun t p c=>zf9 w n t p c) (zac w t p) p.kids 0 (zaS t p) (c+1) h2'.2.symm (by omega);have e4:zaJ w (n+1) t p=zaS t p++zbe (zaJ w n) (zac w t p) p.kids:=by simp only[zaJ,zdI,if_neg h5]
    have e5:zbU w (n+1) t p c=((all2 (zao w n) (zac w t p) p.kids&&(decide (c+1+(Pats.size p.kids:Int)<=60)&&all2 (linP w n) (zac w t p) p.kids))&&zcz (zaJ w (n+1) t p)):=by
     have:decide (c+(p.size:Int)<=60)=decide (c+1+(Pats.size p.kids:Int)<=60):=decide_eq_decide.2 (by omega);simp only[zbU,zao,linP,h2'.1,if_neg h5,Bool.true_and,zqj,this,Bool.and_assoc]
    rw[e5];by_cases hw:(all2 (zao w n) (zac w t p) p.kids&&(decide (c+1+(Pats.size p.kids:Int)<=60)&&all2 (linP w n) (zac w t p) p.kids))=true
    ·rw[if_pos hw,<-e4] at a1;have a3:=a2 hw;rw[hw,Bool.true_and];unfold finV;rw[a1];by_cases hn:zcz (zaJ w (n+1) t p)=true
     ·simp only[hn,if_true];exact⟨a1,fun _=>by rw[a3];omega⟩
     ·simp only[hn,Bool.false_eq_true,if_false];exact⟨trivial,fun h=>absurd h (by simp)⟩
    ·rw[if_neg hw] at a1;have hw':(all2 (zao w n) (zac w t p) p.kids&&(decide (c+1+(Pats.size p.kids:Int)<=60)&&all2 (linP w n) (zac w t p) p.kids))=false:=by simpa using hw
     rw[hw',Bool.false_and];unfold finV;rw[a1];simp[a1]
  ·have hf:¬zbU w (n+1) t p c=true:=fun h=>by
    simp only[zbU,zao,xad,decide_eq_true_eq] at h;refine h2 ?_;simp only[okP,xad,decide_eq_true_eq];refine⟨h.1.1, ?_⟩;by_cases hl:(zac w t p).length=p.kids.length
    ·exact hl.symm
    ·have:=zfP (f:=zao w n) hl;rw[this] at h;simp at h
   rw[if_neg h2,if_neg hf];exact⟨rfl,fun h=>absurd h hf⟩
mutual
def cntP (m:Int):Pat->Int
 | .mk _ _ _ _ _ ks=>zdg m 1 ks
def zdg (m n:Int):List Pat->Int
 | []=>n
 |k::r=>if n<=m then zdg m (n+cntP (m-n) k) r else n
end
theorem zwv (m:Int) (v:Pat):cntP m v=zdg m 1 v.kids:=by cases v;rfl
theorem zmv {m n:Int}{l:List Pat} (h:¬n<=m):zdg m n l=n:=by cases l<;>simp[zdg,h]
mutual
theorem zkT:∀(v:Pat) (m:Int),1<=cntP m v/\cntP m v<=v.size
 | .mk _ _ _ _ _ ks,m=>by
  have:=zlD ks m 1 (by omega);simp only[cntP,Pat.size];push_cast;omega
theorem zlD:∀(l:List Pat) (m n:Int),1<=n->1<=zdg m n l/\zdg m n l<=n+Pats.size l
 | [],m,n,h=>by simp[zdg,Pats.size];omega
 |k::r,m,n,h=>by
  have h1:=zkT k (m-n);have h2:=zlD r m (n+cntP (m-n) k) (by omega);simp only[zdg,Pats.size];split
  ·push_cast;omega
  ·push_cast;omega
end
mutual
theorem zqe:∀(v:Pat) (m:Int),(cntP m v<=m↔(v.size:Int)<=m)/\(cntP m v<=m->cntP m v=v.size)
 | .mk _ _ _ _ _ ks,m=>by
  have:=zot ks m 1;simp only[cntP,Pat.size];push_cast;exact this
theorem zot:∀(l:List Pat) (m n:Int),(zdg m n l<=m↔n+(Pats.size l:Int)<=m)/\(zdg m n l<=m->zdg m n l=n+Pats.size l)
 | [],m,n=>by simp[zdg,Pats.size]
 |k::r,m,n=>by
  have h1:=zqe k (m-n);have h2:=zot r m (n+cntP (m-n) k);have h3:=zlD r m (n+cntP (m-n) k);have h4:=zkT k (m-n);simp only[zdg,Pats.size];push_cast
  by_cases hn:n<=m
  ·rw[if_pos hn];by_cases h5:cntP (m-n) k<=m-n
   ·have h6:=h1.2 h5;rw[h6] at h2 ⊢;constructor
    ·rw[h2.1];constructor<;>intro h<;>omega
    ·intro h;rw[h2.2 h];omega
   ·have h7:¬(k.size:Int)<=m-n:=fun h=>h5 (h1.1.2 h);have h8:¬n+cntP (m-n) k<=m:=by omega
    rw[zmv h8];constructor
    ·constructor<;>intro h<;>omega
    ·intro h;omega
  ·rw[if_neg hn];constructor
   ·constructor<;>intro h<;>omega
   ·intro h;omega
end
theorem Pats.size_split {pre rest l:List Pat}{y:Pat} (h:pre++y::rest=l):Pats.size l=Pats.size pre+y.size+Pats.size rest:=by
 subst h;induction pre with
 |nil=>simp[Pats.size]
 |cons x r ih=>simp only[xag,Pats.size,ih];omega
theorem zb7 {l:List Pat}{i:Nat} (h:i<l.length):(nth l i).size<=Pats.size l:=Pats.size_mem (zae h)
theorem zdY {l:List Pat}{i:Nat} (h:i<l.length):Pats.size (l.drop i)=(nth l i).size+Pats.size (l.drop (i+1)):=by
 rw[zaM h];rfl
theorem zfI:∀(n:Nat){v:Pat}{m:Int},v.size<=n->v.size<=1000000000000->v.ok->0<=m->m<=1000000000000->FnD Tryz.prog 297 [.agg [.d (.i v.op),.d (.i v.ctor),.d (.i v.n),.d (.i v.m),.d (.i v.var),.d (zad v.kids)],.d (.i m)] [] (.d (.i (cntP m v))) []
 |0,v,m,h,_,_,_,_=>by rw[Pat.size_eq] at h;omega
 |n+1,v,m,h,hb,hok,m0,m1=>by
  rw[Pat.size_eq] at h hb;rw[Pat.ok_iff] at hok;rw[zwv];refine bd Tryz.f297 31 [] [] fun w0 F0 own kept hk=>?_;refine bx 3002 ?_;refine ev ?_;refine xak (ι:=Nat×Int) hk (fun x=>[(6,.d (.i (x.1:Int))),(5,.d (.i x.2))]) [7,8,9,10,11,12,13,14,15,16,17,18,19,20,21,22,23,24,25,26,27,28,29] (fun x=>[]) (fun x=>x.1<=v.kids.length/\zdg m x.2 (v.kids.drop x.1)=zdg m 1 v.kids/\1<=x.2/\x.2+Pats.size (v.kids.drop x.1)<=1+Pats.size v.kids) (fun x=>v.kids.length-x.1) (0,1) ⟨by simp,by simp,by simp,by simp⟩ ⟨⟨_,rfl,xaq ?_⟩,⟨⟨_,rfl,xaq ?_⟩,trivial⟩⟩ trivial (fun x=>rfl) (fun x hg1=>?_);iterate 2 focus (rfl)
  refine evc [] [] ?_;refine sq ?_ ?_<;>intro h1 h1p h1s<;>(try simp only[Q,Pat.cs_len] at h1p);refine sq ?_ ?_<;>intro h2 h2p h2s<;>(try simp only[Q,Pat.cs_len] at h2p);refine xaU sl34 .none rfl rfl rfl rfl (zay (by omega)) rfl ?_;refine ev ?_;refine ar ?_ (by(constructor<;>omega));refine wc zqa (zfI n (v:=nth v.kids x.1) (by have:=zb7 (l:=v.kids) (i:=x.1) (by omega);omega) (by have:=zb7 (l:=v.kids) (i:=x.1) (by omega);omega) (Pats.ok_mem hok.2 _ (zae (by omega))) (by omega) (by omega)) rfl rfl ?_;refine ev ?_;refine ar ?_ (by(have hz:=zkT (nth v.kids x.1) (m-x.2);have hs:=zdY (l:=v.kids) (i:=x.1) (by omega);constructor<;>omega));refine ar ?_ (by(constructor<;>omega));refine xah ((x.1+1,x.2+cntP (m-x.2) (nth v.kids x.1))) ⟨(by
      have hz:=zkT (nth v.kids x.1) (m-x.2);have hs:=zdY (l:=v.kids) (i:=x.1) (by omega);refine⟨by dsimp only;omega, ?_,by dsimp only;omega,by dsimp only;omega⟩;rw[<-hg1.2.1,zaM (l:=v.kids) (i:=x.1) (by omega),zdg,if_pos (by omega)]),(by dsimp only;omega),sx ⟨⟨_,rfl,xaq ?_⟩,⟨⟨_,rfl,xaq ?_⟩,trivial⟩⟩ trivial⟩
  iterate 2 focus (rfl)
  refine rq ?_;rotate_left;refine sqF ?_;refine rq ?_;rotate_left;all_goals (refine congrArg D.i ?_;rw[<-hg1.2.1];first|(rw[List.drop_eq_nil_of_le (by omega)];rfl)|(rw[zmv (by omega)]))
end Go.Proofs.YtlfipehhbdjnjaaGreat
namespace Go.Proofs.YtlfipehhbdjnjaaGreat
open Go
set_option linter.unusedSimpArgs false
set_option linter.unusedVariables false
set_option maxRecDepth 100000
set_option maxHeartbeats 4000000
theorem zii {w:List Data}{d:Nat}{k:Int}:zai w ⟨d,k⟩=zaW w ⟨d,k⟩:=by unfold zai;rw[if_neg (by simp only;omega)]
theorem zhd {w:List Data}{k:Int}:zai w ⟨-1,k⟩=[]:=by unfold zai;rw[if_pos rfl]
theorem zfM {w:List Data} (hw:WT w){a k:Int} (ht:TyIn w.length ⟨a,k⟩):(zai w ⟨a,k⟩).length<=1000000000000:=by
 rcases ht with ha|⟨d,hd,hlt⟩
 ·simp only at ha;subst ha;rw[zhd];exact Nat.zero_le _
 ·simp only at hd;subst hd;rw[zii];exact zlk hw
theorem zcS {w:List Data}{a k c:Int} (ht:TyIn w.length ⟨a,k⟩) (h:c∈zai w ⟨a,k⟩):∃d:Nat,a=d/\d<w.length/\PlaceIn w d c:=by
 rcases ht with ha|⟨d,hd,hlt⟩
 ·simp only at ha;subst ha;rw[zhd] at h;simp at h
 ·simp only at hd;subst hd;rw[zii] at h;exact⟨d,rfl,hlt,zf7 h⟩
theorem zih {w:List Data} (hw:WT w){a k:Int}{p:Pat} (ht:TyIn w.length ⟨a,k⟩) (h:ownP w ⟨a,k⟩ p=true):∀t∈zac w ⟨a,k⟩ p,TyIn w.length t:=by
 intro t hm;unfold zac at hm;split at hm
 ·rename_i h4;unfold ownP at h;have h':=of_decide_eq_true h;have hc:p.ctor∈zai w ⟨a,k⟩:=by
   rcases h'.2.2.2.2 with h|h|h|h|h|h
   ·omega
   ·omega
   ·omega
   ·omega
   ·omega
   ·exact h.2
  obtain⟨d,rfl,h1,h2⟩:=zcS ht hc;exact zjS hw h1 h2 hm
 ·split at hm
  ·simp only[List.mem_cons,List.not_mem_nil,or_false] at hm;rcases hm with rfl|rfl<;>exact ht
  ·split at hm
   ·simp only[List.mem_cons,List.not_mem_nil,or_false] at hm;subst hm;exact ht
   ·simp at hm
theorem zhb {w:List Data} (hw:WT w){a k:Int}{p:Pat} (ht:TyIn w.length ⟨a,k⟩) (h:p.op=4->p.ctor∈zai w ⟨a,k⟩):(zac w ⟨a,k⟩ p).length<=1000000000000:=by
 unfold zac;split
 ·rename_i h4;obtain⟨d,rfl,h1,h2⟩:=zcS ht (h h4);exact zgT hw h1 h2
 ·split
  ·simp
  ·split<;>simp
def zgh (op:Int):Int:=if op=5 then 2 else if op=6 then 1 else if op=4 then -1 else 0
theorem zok {op:Int}:FnD Tryz.prog 319 [.d (.i op)] [] (.d (.i (zgh op))) []:=by
 refine bd Tryz.f319 10 [] [] fun w0 F0 own kept hk=>?_;refine sq ?_ ?_<;>intro h1 h1p h1s;refine rq ?_;rotate_left;refine sq ?_ ?_<;>intro h2 h2p h2s;refine rq ?_;rotate_left;refine sq ?_ ?_<;>intro h3 h3p h3s;refine rq ?_;rotate_left;refine rq ?_;rotate_left;all_goals (refine congrArg D.i ?_;simp only[zgh];simp_all)
theorem zb9 {w:List Data} (hw:WT w){a k:Int} (ht:TyIn w.length ⟨a,k⟩):FnD Tryz.prog 226 [.d (zam w),.agg [.d (.i a),.d (.i k)]] [] (.d (zcq (zai w ⟨a,k⟩))) []:=by
 rcases ht with ha|⟨d,hd,hlt⟩
 ·simp only at ha;subst ha;rw[zhd];exact zjN
 ·simp only at hd;subst hd;rw[zii];exact zno hw hlt
theorem zck {w:List Data} (hw:WT w){a k c:Int} (ht:TyIn w.length ⟨a,k⟩) (hc:c∈zai w ⟨a,k⟩):FnD Tryz.prog 254 [.d (zam w),.agg [.d (.i a),.d (.i k)],.d (.i c)] [] (.d (zcm (zaa w ⟨a,k⟩ c))) []:=by
 obtain⟨d,rfl,h1,h2⟩:=zcS ht hc;exact zob hw h1 h2
theorem zgN {w:List Data} (hw:WT w){a k:Int}{p:Pat} (ht:TyIn w.length ⟨a,k⟩):
  FnD Tryz.prog 351 [.d (zam w),.agg [.d (.i a),.d (.i k)],.agg [.d (.i p.op),.d (.i p.ctor),.d (.i p.n),.d (.i p.m),.d (.i p.var),.d (zad p.kids)]] [] (.d (.bool (ownP w ⟨a,k⟩ p))) []:=by
 have hcl:=zfM hw ht;refine bd Tryz.f351 96 [] [1,2,4,13] fun w0 F0 own kept hk=>?_;refine bx 3004 ?_;refine bx 3005 ?_;refine ev ?_;refine xal ?_;refine xaz 8 [(15,.d (.bool (decide (p.op=2\/p.op=6))))] [8,9,10,11,12,13,14] ?_ ?_;refine ev ?_;refine sq ?_ ?_<;>intro h1 h1p h1s;exact jnb rfl;exact jnb rfl;refine xay ?_;refine ev ?_;refine xal ?_;refine xaz 11 [(26,.d (.bool (decide ((p.op=2\/p.op=6)/\(p.var<0\/5<p.var)))))] [16,17,18,19,20,21,22,23,24,25] ?_ ?_;refine ev ?_;refine sq ?_ ?_<;>intro h2 h2p h2s;refine sq ?_ ?_<;>intro h3 h3p h3s;exact jnb rfl;exact jnb rfl;exact jnb rfl;refine xaz 9 [(35,.d (.bool (decide ((p.op=2\/p.op=6)/\(p.var<0\/5<p.var)\/¬(p.op=2\/p.op=6)/\p.var≠0))))] [27,28,29,30,31,32,33,34] ?_ ?_;refine ev ?_;refine sq ?_ ?_<;>intro h4 h4p h4s;exact jnb rfl;refine sq ?_ ?_<;>intro h5 h5p h5s;exact jnb rfl;exact jnb rfl;refine xay ?_;refine tv ?_;refine sq ?_ ?_<;>intro h6 h6p h6s;refine rq ?_;rotate_left;refine xal ?_;refine xaz 13 [(48,.d (.bool (decide (p.op≠3/\(p.n≠0\/p.m≠0)))))] [36,37,38,39,40,41,42,43,44,45,46,47] ?_ ?_;refine ev ?_;refine sq ?_ ?_<;>intro h7 h7p h7s;refine sq ?_ ?_<;>intro h8 h8p h8s;exact jnb rfl;exact jnb rfl;exact jnb rfl;refine xaz 10 [(58,.d (.bool (decide (p.op≠3/\(p.n≠0\/p.m≠0)\/p.op≠4/\p.ctor≠0))))] [49,50,51,52,53,54,55,56,57] ?_ ?_;refine ev ?_;refine sq ?_ ?_<;>intro h9 h9p h9s;exact jnb rfl;refine sq ?_ ?_<;>intro h10 h10p h10s;exact jnb rfl;exact jnb rfl;refine xay ?_;refine tv ?_;refine sq ?_ ?_<;>intro h11 h11p h11s;refine rq ?_;rotate_left;refine sq ?_ ?_<;>intro h12 h12p h12s;refine sq ?_ ?_<;>intro h13 h13p h13s;refine rq ?_;rotate_left;refine sq ?_ ?_<;>intro h14 h14p h14s;refine xal ?_;refine xaz 8 [(75,.d (.bool (decide (a = -1/\0<=p.n))))] [68,69,70,71,72,73,74] ?_ ?_;refine ev ?_;refine sq ?_ ?_<;>intro h15 h15p h15s;exact jnb rfl;exact jnb rfl;refine xaz 7 [(82,.d (.bool (decide (a = -1/\0<=p.n/\p.n<=p.m))))] [76,77,78,79,80,81] ?_ ?_;refine ev ?_;refine sq ?_ ?_<;>intro h16 h16p h16s;exact jnb rfl;exact jnb rfl;refine xaz 5 [(87,.d (.bool (decide (a = -1/\0<=p.n/\p.n<=p.m/\p.m<=9))))] [83,84,85,86] ?_ ?_;refine ev ?_;refine sq ?_ ?_<;>intro h17 h17p h17s;exact jnb rfl;exact jnb rfl;refine xay ?_;refine ev ?_;refine rq ?_;rotate_left;refine sq ?_ ?_<;>intro h18 h18p h18s;refine wc zgn (zb9 hw ht) rfl rfl ?_;refine evd [] [] ?_;refine wc zmo (zeU hcl) rfl rfl ?_;refine evd [] [] ?_;refine dr ?_;refine rq ?_;rotate_left;refine rq ?_;rotate_left;refine sq ?_ ?_<;>intro h19 h19p h19s;refine sq ?_ ?_<;>intro h20 h20p h20s;refine rq ?_;rotate_left;refine sq ?_ ?_<;>intro h21 h21p h21s;refine xal ?_;refine xaz 8 [(75,.d (.bool (decide (a = -1/\0<=p.n))))] [68,69,70,71,72,73,74] ?_ ?_;refine ev ?_;refine sq ?_ ?_<;>intro h22 h22p h22s;exact jnb rfl;exact jnb rfl;refine xaz 7 [(82,.d (.bool (decide (a = -1/\0<=p.n/\p.n<=p.m))))] [76,77,78,79,80,81] ?_ ?_;refine ev ?_;refine sq ?_ ?_<;>intro h23 h23p h23s;exact jnb rfl;exact jnb rfl;refine xaz 5 [(87,.d (.bool (decide (a = -1/\0<=p.n/\p.n<=p.m/\p.m<=9))))] [83,84,85,86] ?_ ?_;refine ev ?_;refine sq ?_ ?_<;>intro h24 h24p h24s;exact jnb rfl;exact jnb rfl;refine xay ?_;refine ev ?_;refine rq ?_;rotate_left;refine sq ?_ ?_<;>intro h25 h25p h25s;refine wc zgn (zb9 hw ht) rfl rfl ?_;refine evd [] [] ?_;refine wc zmo (zeU hcl) rfl rfl ?_;refine evd [] [] ?_;refine dr ?_;refine rq ?_;rotate_left;refine rq ?_;rotate_left;refine sq ?_ ?_<;>intro h26 h26p h26s;refine sq ?_ ?_<;>intro h27 h27p h27s;refine rq ?_;rotate_left;refine sq ?_ ?_<;>intro h28 h28p h28s;refine xal ?_;refine xaz 8 [(75,.d (.bool (decide (a = -1/\0<=p.n))))] [68,69,70,71,72,73,74] ?_ ?_;refine ev ?_;refine sq ?_ ?_<;>intro h29 h29p h29s;exact jnb rfl;exact jnb rfl;refine xaz 7 [(82,.d (.bool (decide (a = -1/\0<=p.n/\p.n<=p.m))))] [76,77,78,79,80,81] ?_ ?_;refine ev ?_;refine sq ?_ ?_<;>intro h30 h30p h30s;exact jnb rfl;exact jnb rfl;refine xaz 5 [(87,.d (.bool (decide (a = -1/\0<=p.n/\p.n<=p.m/\p.m<=9))))] [83,84,85,86] ?_ ?_;refine ev ?_;refine sq ?_ ?_<;>intro h31 h31p h31s;exact jnb rfl;exact jnb rfl;refine xay ?_;refine ev ?_;refine rq ?_;rotate_left;refine sq ?_ ?_<;>intro h32 h32p h32s;refine wc zgn (zb9 hw ht) rfl rfl ?_;refine evd [] [] ?_;refine wc zmo (zeU hcl) rfl rfl ?_;refine evd [] [] ?_;refine dr ?_;refine rq ?_;rotate_left;refine rq ?_;rotate_left;refine sq ?_ ?_<;>intro h33 h33p h33s;refine rq ?_;rotate_left;refine sq ?_ ?_<;>intro h34 h34p h34s;refine xal ?_;refine xaz 8 [(75,.d (.bool (decide (a = -1/\0<=p.n))))] [68,69,70,71,72,73,74] ?_ ?_;refine ev ?_;refine sq ?_ ?_<;>intro h35 h35p h35s;exact jnb rfl;exact jnb rfl;refine xaz 7 [(82,.d (.bool (decide (a = -1/\0<=p.n/\p.n<=p.m))))] [76,77,78,79,80,81] ?_ ?_;refine ev ?_;refine sq ?_ ?_<;>intro h36 h36p h36s;exact jnb rfl;exact jnb rfl;refine xaz 5 [(87,.d (.bool (decide (a = -1/\0<=p.n/\p.n<=p.m/\p.m<=9))))] [83,84,85,86] ?_ ?_;refine ev ?_;refine sq ?_ ?_<;>intro h37 h37p h37s;exact jnb rfl;exact jnb rfl;refine xay ?_;refine ev ?_;refine rq ?_;rotate_left;refine sq ?_ ?_<;>intro h38 h38p h38s;refine wc zgn (zb9 hw ht) rfl rfl ?_;refine evd [] [] ?_;refine wc zmo (zeU hcl) rfl rfl ?_;refine evd [] [] ?_;refine dr ?_;refine rq ?_;rotate_left;refine rq ?_;rotate_left;all_goals (refine congrArg D.bool ?_;unfold ownP;rw[Bool.eq_iff_iff];by_cases hmem:p.ctor∈zai w ⟨a,k⟩<;>(simp only[hmem,and_true,and_false,or_false,decide_eq_true_eq,xad,Bool.false_eq_true,true_iff,false_iff];simp only[decide_eq_true_eq,decide_eq_false_iff_not] at *;omega))
theorem zdn {w:List Data} (hw:WT w){a k:Int}{p:Pat} (ht:TyIn w.length ⟨a,k⟩) (h:p.op=4->p.ctor∈zai w ⟨a,k⟩):
  FnD Tryz.prog 252 [.d (zam w),.agg [.d (.i a),.d (.i k)],.agg [.d (.i p.op),.d (.i p.ctor),.d (.i p.n),.d (.i p.m),.d (.i p.var),.d (zad p.kids)]] [] (.d (zcm (zac w ⟨a,k⟩ p))) []:=by
 by_cases h4:p.op=4
 ·have e:zac w ⟨a,k⟩ p=zaa w ⟨a,k⟩ p.ctor:=by unfold zac;rw[if_pos h4]
  rw[e];refine bd Tryz.f252 30 [] [] fun w0 F0 own kept hk=>?_;refine bx 3004 ?_;refine bx 3005 ?_;refine ev ?_;refine sq ?_ ?_<;>intro h1 h1p h1s;refine wc zgp (zck hw ht (h h4)) rfl rfl ?_;refine ev ?_;refine rq ?_;rotate_left;exfalso;simp_all;all_goals (rfl)
 ·have e:zac w ⟨a,k⟩ p=List.replicate (zgh p.op).toNat ⟨a,k⟩:=by
   unfold zac zgh;rw[if_neg h4];by_cases h5:p.op=5
   ·rw[if_pos h5,if_pos h5];rfl
   ·rw[if_neg h5,if_neg h5];by_cases h6:p.op=6
    ·rw[if_pos h6,if_pos h6];rfl
    ·rw[if_neg h6,if_neg h6,if_neg h4];rfl
  have hb:0<=zgh p.op/\zgh p.op<=2:=by unfold zgh;split<;>(try split)<;>(try split)<;>omega
  rw[e];refine bd Tryz.f252 30 [] [] fun w0 F0 own kept hk=>?_;refine bx 3004 ?_;refine bx 3005 ?_;refine ev ?_;refine sq ?_ ?_<;>intro h1 h1p h1s;exfalso;simp_all;refine xbi 5 zaV .none rfl rfl ?_;refine ev ?_;refine xak (ι:=Nat) hk (fun i=>[(8,.d (.i (i:Int))),(7,.gl 5 ((List.replicate i (⟨a,k⟩:Ty)).map Ty.c))]) [18,19,20,21,22,23,24,25,26,27,28] (fun i=>[(5,some (.tok (((List.replicate i (⟨a,k⟩:Ty)).map Ty.c)).length 2))]) (fun i=>(i:Int)<=zgh p.op) (fun i=>(zgh p.op).toNat-i) 0 (by omega) ⟨⟨_,rfl,xaq ?_⟩,⟨⟨_,rfl,LeA.glg ?_⟩,trivial⟩⟩ ⟨zab ?_,trivial⟩ (fun x=>rfl) (fun i hg1=>?_);iterate 3 focus (rfl)
  refine evc [] [] ?_;refine wc zxI (zok) rfl rfl ?_;refine ev ?_;refine sq ?_ ?_<;>intro h2 h2p h2s<;>(try simp only[Q] at h2p);refine si [0] [_] zaV tz25 ?_;refine ap zaV zz25 rfl rfl rfl (by simp) (by simp;omega) ?_;refine ev ?_;refine ar ?_;refine xah (i+1) ⟨(by omega),(by omega),sx ⟨⟨_,rfl,xaq ?_⟩,⟨⟨_,rfl,LeA.glg ?_⟩,trivial⟩⟩ ⟨zab ?_,trivial⟩⟩;iterate 3 focus ((simp[List.replicate_succ'];done))
  refine rn0 (r1 rfl) (.gld ?_);rotate_left;all_goals ((obtain rfl:i=(zgh p.op).toNat:=by omega);simp)
theorem zbq {w:List Data}{n:Nat}{t:Ty}{p:Pat} (h:zao w (n+1) t p=true):ownP w t p=true/\p.kids.length=(zac w t p).length:=by
 simp only[zao,xad] at h;refine⟨h.1, ?_⟩;by_cases hl:(zac w t p).length=p.kids.length
 ·exact hl.symm
 ·rw[zfP hl] at h;simp at h
theorem zb4 {w:List Data}{t:Ty}{p:Pat} (h:ownP w t p=true):p.op=4->p.ctor∈zai w t:=by
 intro h4;unfold ownP at h;have h':=(of_decide_eq_true h).2.2.2.2;rcases h' with h|h|h|h|h|h
 ·omega
 ·omega
 ·omega
 ·omega
 ·omega
 ·exact h.2
theorem zqV {w:List Data}{t:Ty}{p:Pat} (h:ownP w t p=true):(p.op=2\/p.op=6)->0<=p.var/\p.var<=5:=by
 unfold ownP at h;exact(of_decide_eq_true h).1
theorem zfJ {w:List Data} (hw:WT w):∀(n:Nat){a k m:Int}{p:Pat},m=n->n<=1000->TyIn w.length ⟨a,k⟩->p.ok->
  FnD Tryz.prog 296 [.d (zam w),.agg [.d (.i a),.d (.i k)],.agg [.d (.i p.op),.d (.i p.ctor),.d (.i p.n),.d (.i p.m),.d (.i p.var),.d (zad p.kids)],.d (.i m)] [] (.d (.bool (zao w n ⟨a,k⟩ p))) []
 |0,a,k,m,p,hm,_,ht,hok=>by
  refine bd Tryz.f296 50 [] [1] fun w0 F0 own kept hk=>?_;refine bx 3005 ?_;refine bx 3006 ?_;refine ev ?_;refine xal ?_;refine xaz 9 [(19,.d (.bool (true)))] [11,12,13,14,15,16,17,18] ?_ ?_;refine ev ?_;refine sq ?_ ?_<;>intro h1 h1p h1s;exact jnb rfl;refine Walk.call (cr:=[]) zqb (zgN hw ht) rfl (.some rfl rfl h1) rfl rfl (LeL.refl _) trivial rfl rfl rfl ?_;refine evs [] [(13,false)] ?_ ⟨⟨_,rfl,h1⟩,trivial⟩;exact jnb rfl;refine xay ?_;refine tv ?_;refine sq ?_ ?_<;>intro h2 h2p h2s;refine rq ?_;rotate_left;exact absurd h2 (by simp);all_goals (rfl)
 |n+1,a,k,m,p,hm,hn,ht,hok=>by
  rw[Pat.ok_iff] at hok;by_cases ho:ownP w ⟨a,k⟩ p=true
  ·have hin:=zih hw ht ho;have hlen:=zhb hw ht (zb4 ho);refine bd Tryz.f296 50 [] [1] fun w0 F0 own kept hk=>?_;refine bx 3005 ?_;refine bx 3006 ?_;refine ev ?_;refine xal ?_;refine xaz 9 [(19,.d (.bool (false)))] [11,12,13,14,15,16,17,18] ?_ ?_;refine ev ?_;refine sq ?_ ?_<;>intro h1 h1p h1s;exact jnb rfl;refine Walk.call (cr:=[]) zqb (zgN hw ht) rfl (.some rfl rfl h1) rfl rfl (LeL.refl _) trivial rfl rfl rfl ?_;refine evs [] [(13,false)] ?_ ⟨⟨_,rfl,h1⟩,trivial⟩;exact jnb rfl;refine xay ?_;refine tv ?_;refine sq ?_ ?_<;>intro h2 h2p h2s;exact absurd h2 (by simp);refine wc zjY (zdn hw ht (zb4 ho)) rfl rfl ?_;refine ev ?_;refine sq ?_ ?_<;>intro h3 h3p h3s;refine rq ?_;rotate_left;try simp only[Q,Pat.cs_len] at h3p
   refine xak (ι:=Nat) hk (fun i=>[(10,.d (.i (i:Int)))]) [8,30,31,32,33,34,35,36,37,38,39,40,41,42,43,44,45,46,47,48,49] (fun i=>[]) (fun i=>i<=(zac w ⟨a,k⟩ p).length/\∀i',i'<i->zao w n (nth (zac w ⟨a,k⟩ p) i') (nth p.kids i')=true) (fun i=>(zac w ⟨a,k⟩ p).length-i) 0 ⟨by omega,fun _ h=>absurd h (by omega)⟩ ⟨⟨_,rfl,xaq ?_⟩,trivial⟩ trivial (fun x=>rfl) (fun i hg1=>?_);focus (first|(simp;done)|(simp_all;done))
   refine evc [] [1] ?_;refine sq ?_ ?_<;>intro h4 h4p h4s;try simp only[Q,Pat.cs_len] at h4p
   refine xaU zaV .none rfl rfl rfl rfl (zas (by omega)) rfl ?_;refine evd [] [] ?_;refine xaU sl34 .none rfl rfl rfl rfl (zay (by omega)) rfl ?_;refine evd [] [] ?_;refine ar ?_;refine wc zp9 (zfJ hw n (by omega) (by omega) (hin _ (zae (by omega))) (Pats.ok_mem hok.2 _ (zae (by omega)))) rfl rfl ?_;refine evd [] [] ?_;refine dr ?_;refine sq ?_ ?_<;>intro h5 h5p h5s;refine rq ?_;rotate_left;try simp only[Q,Pat.cs_len] at h5p
   refine ar ?_;refine xah (i+1) ⟨⟨by omega,za6 hg1.2 (by assumption)⟩,(by omega),sx ⟨⟨_,rfl,xaq ?_⟩,trivial⟩ trivial⟩;focus (first|(simp;done)|(simp_all;done))
   refine rq ?_;rotate_left;all_goals (refine congrArg D.bool ?_;unfold zao;rw[ho,Bool.true_and];first|(rw[zfP (by simp[Pat.cs_len] at *;omega)])|(rw[zbz (by simp[Pat.cs_len] at *;omega) (fun x hx=>hg1.2 x (by simp[Pat.cs_len] at *;omega))])|(rw[zbQ (i:=i) (by simp[Pat.cs_len] at *;omega) (by simp[Pat.cs_len] at *;omega) (by assumption)]))
  ·have ho':ownP w ⟨a,k⟩ p=false:=by simpa using ho
   refine bd Tryz.f296 50 [] [1] fun w0 F0 own kept hk=>?_;refine bx 3005 ?_;refine bx 3006 ?_;refine ev ?_;refine xal ?_;refine xaz 9 [(19,.d (.bool (true)))] [11,12,13,14,15,16,17,18] ?_ ?_;refine ev ?_;refine sq ?_ ?_<;>intro h1 h1p h1s;exact jnb rfl;refine Walk.call (cr:=[]) zqb (zgN hw ht) rfl (.some rfl rfl h1) rfl rfl (LeL.refl _) trivial rfl rfl rfl ?_;refine evs [] [(13,false)] ?_ ⟨⟨_,rfl,h1⟩,trivial⟩;exact jnb rfl;refine xay ?_;refine tv ?_;refine sq ?_ ?_<;>intro h2 h2p h2s;refine rq ?_;rotate_left;exact absurd h2 (by simp);all_goals (refine congrArg D.bool ?_;unfold zao;rw[ho'];rfl)
theorem ziQ {l:List Vt}{n:Int} (h:l.length<=1000000000000):FnD Tryz.prog 299 [.d (zdB l),.d (.i n)] [] (.d (.i (zbX l n))) []:=by
 refine bd Tryz.f299 20 [] [] fun w0 F0 own kept hk=>?_;refine xak (ι:=List (Vt)×List (Vt)) hk (fun x=>[(5,.d (.i (x.1.length:Int)))]) [4,6,7,8,9,10,11,12,13,14,15,16,17,18,19] (fun x=>[]) (fun x=>x.1++x.2=l/\idxF (fun v=>decide (v.var=n)) x.2 x.1.length=idxF (fun v=>decide (v.var=n)) l 0) (fun x=>x.2.length) ([],l) ⟨by simp,rfl⟩ ⟨⟨_,rfl,xaq ?_⟩,trivial⟩ trivial (fun x=>rfl) (fun x hg1=>?_);focus (rfl)
 obtain⟨pre,rest⟩:=x;dsimp only at hg1 ⊢;refine evc [] [] ?_;refine sq ?_ ?_<;>intro h1 h1p h1s<;>(try simp only[Q] at h1p);rcases rest with _|⟨y,rest⟩
 ·exfalso;simp_all
 refine xaU zd0 .none rfl rfl rfl rfl (zaL hg1.1) rfl ?_;refine ev ?_;refine sq ?_ ?_<;>intro h2 h2p h2s<;>(try simp only[Q] at h2p);focus (refine rq ?_;all_goals (refine congrArg D.i ?_;unfold zbX;rw[<-hg1.2];simp[idxF,h1s,h1p,h2s,h2p]))
 refine ar ?_;refine xah ((pre++[y],rest)) ⟨⟨(by have hz:=hg1.1;rw[<-hz];simp),(by rw[<-hg1.2];simp_all[idxF])⟩,(by simp),sx ⟨⟨_,rfl,xaq ?_⟩,trivial⟩ trivial⟩;focus ((simp;done))
 have hrest:rest=[]:=by
  rcases rest with _|⟨a,b⟩
  ·rfl
  ·exfalso;have hz:=congrArg List.length (hg1.1);simp only[xaa,xab,xac] at hz;omega
 subst hrest;focus (refine rq ?_;all_goals (refine congrArg D.i ?_;unfold zbX;rw[<-hg1.2];simp[idxF,h1s,h1p]))
theorem zrz {a b:List Vt}{i:Nat} (h:i<a.length) (h2:¬(0<=zbX b (nth a i).var/\(nth b (zbX b (nth a i).var).toNat).ty=(nth a i).ty)):zdz a b=false:=by
 unfold zdz;have:(a.all fun v=>decide (0<=zbX b v.var/\(nth b (zbX b v.var).toNat).ty=v.ty))=false:=List.all_eq_false.2 ⟨_,zae h,by simpa using h2⟩;rw[this,Bool.false_and]
theorem zsI {a b:List Vt} (h:∀i,i<a.length->0<=zbX b (nth a i).var/\(nth b (zbX b (nth a i).var).toNat).ty=(nth a i).ty):zdz a b=decide (a.length=b.length):=by
 unfold zdz;have:(a.all fun v=>decide (0<=zbX b v.var/\(nth b (zbX b v.var).toNat).ty=v.ty))=true:=by
  rw[List.all_eq_true];intro v hv;obtain⟨j,hj,he⟩:=List.getElem_of_mem hv;have:=h j hj;rw[zaO hj,he] at this;exact decide_eq_true this
 rw[this,Bool.true_and]
theorem zqo {l:List Vt}{n:Int} (h:0<=zbX l n):(zbX l n).toNat<l.length/\((zbX l n).toNat:Int)=zbX l n:=by
 rcases zi9 l n with ⟨h1,_⟩|⟨k,h1,h2,_⟩
 ·omega
 ·rw[h1];simpa using h2
theorem zuZ {t u:Ty}:t=u↔t.data=u.data/\t.index=u.index:=by
 cases t;cases u;simp
theorem znv {x y:List Vt} (hx:x.length<=1000000000000) (hy:y.length<=1000000000000):FnD Tryz.prog 352 [.d (zdB x),.d (zdB y)] [] (.d (.bool (zdz x y))) []:=by
 refine bd Tryz.f352 40 [33] [] fun w0 F0 own kept hk=>?_;refine xak (ι:=Nat) hk (fun i=>[(5,.d (.i (i:Int)))]) [4,6,7,8,9,10,11,12,13,14,15,16,17,18,19,20,21,22,23,24,25,26,27,28,29,30,31,32,33,34] (fun i=>[]) (fun i=>i<=x.length/\∀j,j<i->0<=zbX y (nth x j).var/\(nth y (zbX y (nth x j).var).toNat).ty=(nth x j).ty) (fun i=>x.length-i) 0 ⟨by omega,fun _ h=>absurd h (by omega)⟩ ⟨⟨_,rfl,xaq ?_⟩,trivial⟩ trivial (fun x=>rfl) (fun i hg1=>?_);focus (rfl)
 refine evc [33] [] ?_;refine sq ?_ ?_<;>intro h1 h1p h1s<;>(try simp only[Q] at h1p);refine xaU zd0 .none rfl rfl rfl rfl (zas (by omega)) rfl ?_;refine evs [33] [] ?_;refine wc ztV (ziQ hy) rfl rfl ?_;refine evs [33] [] ?_;refine sq ?_ ?_<;>intro h2 h2p h2s<;>(try simp only[Q] at h2p);refine dr ?_;refine sqT ?_;refine rq ?_;rotate_left;refine xaU (i:=(zbX y (nth x i).var).toNat) zd0 (.some rfl rfl h2) rfl rfl rfl (zqo (l:=y) (n:=(nth x i).var) (by omega)).2.symm (zas (by exact(zqo (l:=y) (n:=(nth x i).var) (by omega)).1)) rfl ?_;refine evd [33] [(22,false)] ?_ ⟨⟨_,rfl,h2⟩,trivial⟩;refine xaU zd0 (.some rfl rfl h2) rfl rfl rfl rfl (zas (by omega)) rfl ?_;refine evd [33] [(22,false)] ?_ ⟨⟨_,rfl,h2⟩,trivial⟩;refine Walk.neV eq25 (.some rfl rfl h2) rfl rfl rfl rfl rfl ?_;refine evd [33] [(22,false)] ?_ ⟨⟨_,rfl,h2⟩,trivial⟩;refine dr ?_;refine sq ?_ ?_<;>intro h4 h4p h4s<;>(try simp only[Q] at h4p);refine rq ?_;rotate_left;refine ar ?_;refine xah (i+1) ⟨⟨by omega,za6 hg1.2 (by rw[zuZ];first|omega|(simp at h4;omega))⟩,(by omega),sx ⟨⟨_,rfl,xaq ?_⟩,trivial⟩ trivial⟩;focus (rfl)
 refine rq ?_;rotate_left;all_goals (refine congrArg D.bool ?_;first|(refine(zrz (i:=i) (by omega) ?_).symm;simp only[zuZ];first|omega|(simp at h4;omega))|(rw[zsI (fun j hj=>hg1.2 j (by simp at h1p;omega))];exact decide_eq_decide.2 (by simp;omega)))
theorem zkN {f:Ty->Pat->List Vt} (hf:∀t p,(f t p).length<=p.size):∀(a:List Ty) (b:List Pat),(zbe f a b).length<=Pats.size b
 | [],[]=>by simp[zbe]
 | [],_::_=>by simp[zbe]
 |_::_,[]=>by simp[zbe]
 |x::r,y::s=>by
  have h1:=zkN hf r s;have h2:=hf x y;simp only[zbe,xaa,Pats.size];omega
theorem zfi (w:List Data):∀(n:Nat) (t:Ty) (p:Pat),(zaJ w n t p).length<=p.size
 |0,t,p=>by simp[zaJ]
 |n+1,t,p=>by
  have h1:=zkN (zfi w n) (zdI w t p) p.kids;have h2:(zaS t p).length<=1:=by unfold zaS;split<;>simp
  rw[Pat.size_eq];simp only[zaJ,xaa];omega
theorem zjs {f:Ty->Pat->List Vt}:∀ {a:List Ty}{b:List Pat}{i:Nat},i<a.length->i<b.length->zbe f (a.take (i+1)) (b.take (i+1))=zbe f (a.take i) (b.take i)++f (nth a i) (nth b i)
 |x::r,y::s,0,_,_=>by simp[zbe,nth]
 |x::r,y::s,i+1,h1,h2=>by
  have:=zjs (f:=f) (a:=r) (b:=s) (i:=i) (by simpa using h1) (by simpa using h2);simp only[List.take_succ_cons,zbe];rw[this,List.append_assoc];rfl
theorem znH {f:Ty->Pat->List Vt}:∀ {a:List Ty}{b:List Pat}{i:Nat},zbe f (a.take i) (b.take i)=zbe f (a.take i) b
 | [],b,i=>by simp[zbe]
 |x::r,[],i=>by simp[zbe]
 |x::r,y::s,0=>by simp[zbe]
 |x::r,y::s,i+1=>by simp only[List.take_succ_cons,zbe];rw[znH]
theorem zry {f:Ty->Pat->List Vt} (hf:∀t p,(f t p).length<=p.size){a:List Ty}{b:List Pat}{i:Nat} (h:i<b.length):(zbe f (a.take i) (b.take i)).length+(nth b i).size<=Pats.size b:=by
 have h1:=zkN hf (a.take i) (b.take i);have h2:=Pats.size_split (pre:=b.take i) (y:=nth b i) (rest:=b.drop (i+1)) (l:=b) (by rw[<-zaM h,List.take_append_drop]);omega
def zdH (w:List Data) (t:Ty) (p:Pat):Nat:=(zdI w t p).length
theorem zkO (w:List Data) (t:Ty) (p:Pat):zdH w t p=if p.op=5 then 1 else (zac w t p).length:=by
 unfold zdH zdI;by_cases h5:p.op=5
 ·rw[if_pos h5,if_pos h5];have:zac w t p=[t,t]:=by unfold zac;rw[if_neg (by omega),if_pos h5]
  rw[this];rfl
 ·rw[if_neg h5,if_neg h5]
theorem zpl {w:List Data}{f:Ty->Pat->List Vt}{t:Ty}{p:Pat} (hl:p.kids.length=(zac w t p).length){i:Nat} (h:i=zdH w t p):zbe f ((zac w t p).take i) (p.kids.take i)=zbe f (zdI w t p) p.kids:=by
 subst h;rw[znH];congr 1
 rw[zkO];unfold zdI;by_cases h5:p.op=5
 ·rw[if_pos h5,if_pos h5]
 ·rw[if_neg h5,if_neg h5,List.take_length]
theorem zbs {w:List Data}{n:Nat}{t:Ty}{p:Pat} (h:zao w (n+1) t p=true){i:Nat} (hi:i<p.kids.length):zao w n (nth (zac w t p) i) (nth p.kids i)=true:=by
 have hl:=(zbq h).2;cases hs:zao w n (nth (zac w t p) i) (nth p.kids i) with
 |true=>rfl
 |false=>
  have:=zbQ (f:=zao w n) (a:=zac w t p) (b:=p.kids) (i:=i) (by omega) hl.symm hs;simp only[zao,this,Bool.and_false] at h;cases h
theorem zgc {w:List Data} (hw:WT w):∀(n:Nat){a k:Int}{p:Pat}{xs:List Vt},zao w n ⟨a,k⟩ p=true->n<=1000->TyIn w.length ⟨a,k⟩->p.ok->xs.length+p.size<=2000000000000->
  FnD Tryz.prog 225 [.gl 5 (xs.map Vt.c),.d (zam w),.agg [.d (.i a),.d (.i k)],.agg [.d (.i p.op),.d (.i p.ctor),.d (.i p.n),.d (.i p.m),.d (.i p.var),.d (zad p.kids)]] [(5,some (.tok (xs.map Vt.c).length 3))]
   (.gl 5 ((xs++zaJ w n ⟨a,k⟩ p).map Vt.c)) [(5,some (.tok ((xs++zaJ w n ⟨a,k⟩ p).map Vt.c).length 3))]
 |0,a,k,p,xs,hs,_,_,_,_=>by simp[zao] at hs
 |n+1,a,k,p,xs,hs,hn,ht,hok,hb=>by
  rw[Pat.ok_iff] at hok;rw[Pat.size_eq] at hb;obtain⟨ho,hl⟩:=zbq hs;have hin:=zih hw ht ho;have hlen:=zhb hw ht (zb4 ho);have hvc5:p.op=5->zdH w ⟨a,k⟩ p=1:=fun h=>by rw[zkO,if_pos h]
  have hvc:¬p.op=5->zdH w ⟨a,k⟩ p=(zac w ⟨a,k⟩ p).length:=fun h=>by rw[zkO,if_neg h]
  have hv2:zdH w ⟨a,k⟩ p<=p.kids.length:=by
   unfold zdH zdI;split
   ·rw[List.length_take];omega
   ·omega
  have e5:p.op=5->(zac w ⟨a,k⟩ p).length=2:=fun h5=>by unfold zac;rw[if_neg (by omega),if_pos h5];rfl
  have hnm:(zaS ⟨a,k⟩ p).length<=1:=by unfold zaS;split<;>simp
  refine bd Tryz.f225 58 [] [1,5,6] fun w0 F0 own kept hk=>?_;refine bx 3006 ?_;refine bx 3007 ?_;refine ev ?_;refine xal ?_;refine xaz 8 [(18,.d (.bool (decide (p.op=2\/p.op=6))))] [11,12,13,14,15,16,17] ?_ ?_;refine ev ?_;refine sq ?_ ?_<;>intro h1 h1p h1s;exact jnb rfl;exact jnb rfl;refine xay ?_;refine tv ?_;refine sq ?_ ?_<;>intro h2 h2p h2s<;>(try simp only[Q,Pat.cs_len] at h2p);refine bu [0,1] [_,_] zwj ?_;refine si [0] [_] zd0 zpP ?_;refine ap zd0 zpS rfl rfl rfl (by simp) (by simp;omega) ?_;refine ev ?_;refine wc zjY (zdn hw ht (zb4 ho)) rfl rfl ?_;refine ev ?_;refine CWp.loopT 5 6 (ι:=Nat) hk (fun i=>[(0,.gl 5 ((xs++zaS ⟨a,k⟩ p++zbe (zaJ w n) ((zac w ⟨a,k⟩ p).take i) (p.kids.take i)).map Vt.c)),(10,.d (.i (i:Int)))]) [30,31,32,33,34,35,36,37,38,39,40,41,42,43,44,45,46,47,48,49,50,51,52,53,54,55,56] (fun i=>[(5,some (.tok ((xs++zaS ⟨a,k⟩ p++zbe (zaJ w n) ((zac w ⟨a,k⟩ p).take i) (p.kids.take i)).map Vt.c).length 3))]) (fun i=>i<=zdH w ⟨a,k⟩ p) (fun i=>zdH w ⟨a,k⟩ p-i) 0 (by omega) ⟨⟨_,rfl,LeA.glg ?_⟩,⟨⟨_,rfl,xaq ?_⟩,trivial⟩⟩ ⟨zab ?_,trivial⟩ (fun x=>rfl) (fun i hg1=>?_);iterate 3 focus ((simp[zbe,zaS, *];done))
  refine evc [] [1,5,6] ?_;refine xal ?_;refine xaz 13 [(42,.d (.bool (decide (i<zdH w ⟨a,k⟩ p))))] [30,31,32,33,34,35,36,37,38,39,40,41] ?_ ?_;refine ev ?_;refine sq ?_ ?_<;>intro h3 h3p h3s;refine sq ?_ ?_<;>intro h4 h4p h4s;exact jnb rfl;exact jnb rfl;exact jnb rfl;refine xay ?_;refine tv ?_;refine sq ?_ ?_<;>intro h5 h5p h5s<;>(try simp only[Q,Pat.cs_len] at h5p);refine xaU zaV .none rfl rfl rfl rfl (zas (by omega)) rfl ?_;refine evd [] [] ?_;refine xaU sl34 .none rfl rfl rfl rfl (zay (by omega)) rfl ?_;refine evd [] [] ?_;refine xaG 6 zjV (zgc hw n (a:=(nth (zac w ⟨a,k⟩ p) i).data) (k:=(nth (zac w ⟨a,k⟩ p) i).index) (p:=nth p.kids i) (xs:=xs++zaS ⟨a,k⟩ p++zbe (zaJ w n) ((zac w ⟨a,k⟩ p).take i) (p.kids.take i)) (zbs hs (by omega)) (by omega) (hin _ (zae (by omega))) (Pats.ok_mem hok.2 _ (zae (by omega))) (by have:=zry (zfi w n) (a:=zac w ⟨a,k⟩ p) (b:=p.kids) (i:=i) (by omega);simp only[xaa];omega)) rfl .none rfl rfl (.cons (.refl _) (.cons (.refl _) (.cons (.refl _) (.cons (.refl _) .nil)))) rfl (by rfl) ?_;refine evd [] [] ?_;refine dr ?_;refine CWp.retok 0 6 5 rfl rfl rfl rfl rfl ?_;refine evc [] [] ?_;refine ar ?_;refine xah (i+1) ⟨(by omega),(by omega),sx ⟨⟨_,rfl,LeA.glg ?_⟩,⟨⟨_,rfl,xaq ?_⟩,trivial⟩⟩ ⟨zab ?_,trivial⟩⟩;iterate 3 focus (first|rfl|(rw[zjs (by omega) (by omega)];simp[List.append_assoc];done))
  refine rn [(5,some (.tok ((xs++zaJ w (n+1) ⟨a,k⟩ p).map Vt.c).length 3))] (r1 rfl) (.glg ?_) ⟨rfl,rfl⟩ (SubO.get ⟨.inr ?_,⟨.inl rfl,trivial⟩⟩) (zaA rfl);rotate_left 2;refine wc zjY (zdn hw ht (zb4 ho)) rfl rfl ?_;refine ev ?_;refine CWp.loopT 5 6 (ι:=Nat) hk (fun i=>[(0,.gl 5 ((xs++zaS ⟨a,k⟩ p++zbe (zaJ w n) ((zac w ⟨a,k⟩ p).take i) (p.kids.take i)).map Vt.c)),(10,.d (.i (i:Int)))]) [30,31,32,33,34,35,36,37,38,39,40,41,42,43,44,45,46,47,48,49,50,51,52,53,54,55,56] (fun i=>[(5,some (.tok ((xs++zaS ⟨a,k⟩ p++zbe (zaJ w n) ((zac w ⟨a,k⟩ p).take i) (p.kids.take i)).map Vt.c).length 3))]) (fun i=>i<=zdH w ⟨a,k⟩ p) (fun i=>zdH w ⟨a,k⟩ p-i) 0 (by omega) ⟨⟨_,rfl,LeA.glg ?_⟩,⟨⟨_,rfl,xaq ?_⟩,trivial⟩⟩ ⟨zab ?_,trivial⟩ (fun x=>rfl) (fun i hg1=>?_);iterate 3 focus ((simp[zbe,zaS, *];done))
  refine evc [] [1,5,6] ?_;refine xal ?_;refine xaz 13 [(42,.d (.bool (decide (i<zdH w ⟨a,k⟩ p))))] [30,31,32,33,34,35,36,37,38,39,40,41] ?_ ?_;refine ev ?_;refine sq ?_ ?_<;>intro h6 h6p h6s<;>(try simp only[Q,Pat.cs_len] at h6p);refine sq ?_ ?_<;>intro h7 h7p h7s<;>(try simp only[Q,Pat.cs_len] at h7p);exact jnb rfl;exact jnb rfl;exact jnb rfl;refine xay ?_;refine tv ?_;refine sq ?_ ?_<;>intro h8 h8p h8s<;>(try simp only[Q,Pat.cs_len] at h8p);refine xaU zaV .none rfl rfl rfl rfl (zas (by omega)) rfl ?_;refine evd [] [] ?_;refine xaU sl34 .none rfl rfl rfl rfl (zay (by omega)) rfl ?_;refine evd [] [] ?_;refine xaG 6 zjV (zgc hw n (a:=(nth (zac w ⟨a,k⟩ p) i).data) (k:=(nth (zac w ⟨a,k⟩ p) i).index) (p:=nth p.kids i) (xs:=xs++zaS ⟨a,k⟩ p++zbe (zaJ w n) ((zac w ⟨a,k⟩ p).take i) (p.kids.take i)) (zbs hs (by omega)) (by omega) (hin _ (zae (by omega))) (Pats.ok_mem hok.2 _ (zae (by omega))) (by have:=zry (zfi w n) (a:=zac w ⟨a,k⟩ p) (b:=p.kids) (i:=i) (by omega);simp only[xaa];omega)) rfl .none rfl rfl (.cons (.refl _) (.cons (.refl _) (.cons (.refl _) (.cons (.refl _) .nil)))) rfl (by rfl) ?_;refine evd [] [] ?_;refine dr ?_;refine CWp.retok 0 6 5 rfl rfl rfl rfl rfl ?_;refine evc [] [] ?_;refine ar ?_;refine xah (i+1) ⟨(by omega),(by omega),sx ⟨⟨_,rfl,LeA.glg ?_⟩,⟨⟨_,rfl,xaq ?_⟩,trivial⟩⟩ ⟨zab ?_,trivial⟩⟩;iterate 3 focus (first|rfl|(rw[zjs (by omega) (by omega)];simp[List.append_assoc];done))
  refine rn [(5,some (.tok ((xs++zaJ w (n+1) ⟨a,k⟩ p).map Vt.c).length 3))] (r1 rfl) (.glg ?_) ⟨rfl,rfl⟩ (SubO.get ⟨.inr ?_,⟨.inl rfl,trivial⟩⟩) (zaA rfl);rotate_left 2;all_goals (first|((rw[zaJ,<-zpl (f:=zaJ w n) hl (i:=i) (by omega)];simp);done)|((show some (Res.tok _ _)=some (Res.tok _ _);congr 2;rw[zaJ,<-zpl (f:=zaJ w n) hl (i:=i) (by omega)];simp)))
theorem zfK {w:List Data} (hw:WT w){n:Nat}{a k:Int}{p:Pat} (hs:zao w n ⟨a,k⟩ p=true) (hn:n<=1000) (ht:TyIn w.length ⟨a,k⟩) (hok:p.ok) (hb:p.size<=1000000000000):
  FnD Tryz.prog 225 [.nils,.d (zam w),.agg [.d (.i a),.d (.i k)],.agg [.d (.i p.op),.d (.i p.ctor),.d (.i p.n),.d (.i p.m),.d (.i p.var),.d (zad p.kids)]] [] (.d (zdB (zaJ w n ⟨a,k⟩ p))) []:=by
 have h:=zgc hw n (xs:=[]) hs hn ht hok (by simp only[xai];omega);exact FnD.nilTok (by simp[AV.idsL,AV.ids]) h
theorem zrB {l:List Vt}{i:Nat} (h:i<l.length) (h2:¬zbX l (nth l i).var=i):zpH l=false:=zdf h (by simpa using h2)
theorem zeZ {w:List Data} (hw:WT w):∀(n:Nat){a k:Int}{p:Pat},zao w n ⟨a,k⟩ p=true->n<=1000->TyIn w.length ⟨a,k⟩->p.ok->p.size<=1000000000000->
  FnD Tryz.prog 298 [.d (zam w),.agg [.d (.i a),.d (.i k)],.agg [.d (.i p.op),.d (.i p.ctor),.d (.i p.n),.d (.i p.m),.d (.i p.var),.d (zad p.kids)]] [] (.d (.bool (linP w n ⟨a,k⟩ p))) []
 |0,a,k,p,hs,_,_,_,_=>by simp[zao] at hs
 |n+1,a,k,p,hs,hn,ht,hok,hb=>by
  have hok':=hok;rw[Pat.ok_iff] at hok;have hb':=hb;rw[Pat.size_eq] at hb';obtain⟨ho,hl⟩:=zbq hs;have hin:=zih hw ht ho;have hlen:=zhb hw ht (zb4 ho);have hvl:=zfi w (n+1) ⟨a,k⟩ p;have hsz:∀i,i<p.kids.length->(nth p.kids i).size<=1000000000000:=fun i hi=>by have:=zb7 hi;omega
  by_cases hop5:p.op=5
  ·have e1:zac w ⟨a,k⟩ p=[⟨a,k⟩,⟨a,k⟩]:=by unfold zac;rw[if_neg (by omega),if_pos hop5]
   have hl2:p.kids.length=2:=by rw[hl,e1];rfl
   have s0:zao w n ⟨a,k⟩ (nth p.kids 0)=true:=by have:=zbs hs (i:=0) (by omega);rw[e1] at this;exact this
   have s1:zao w n ⟨a,k⟩ (nth p.kids 1)=true:=by have:=zbs hs (i:=1) (by omega);rw[e1] at this;exact this
   have v0:=zfi w n ⟨a,k⟩ (nth p.kids 0);have v1:=zfi w n ⟨a,k⟩ (nth p.kids 1);have z0:=hsz 0 (by omega);have z1:=hsz 1 (by omega);refine bd Tryz.f298 70 [] [] fun w0 F0 own kept hk=>?_;refine bx 3004 ?_;refine bx 3005 ?_;refine ev ?_;refine wc zjY (zdn hw ht (zb4 ho)) rfl rfl ?_;refine ev ?_;refine xak (ι:=Nat) hk (fun i=>[(8,.d (.i (i:Int)))]) [6,15,16,17,18,19,20,21,22,23,24,25,26,27,28,29,30,31,32] (fun i=>[]) (fun i=>i<=(zac w ⟨a,k⟩ p).length/\∀i',i'<i->linP w n (nth (zac w ⟨a,k⟩ p) i') (nth p.kids i')=true) (fun i=>(zac w ⟨a,k⟩ p).length-i) 0 ⟨by omega,fun _ h=>absurd h (by omega)⟩ ⟨⟨_,rfl,xaq ?_⟩,trivial⟩ trivial (fun x=>rfl) (fun i hg1=>?_);focus (first|rfl|(simp;done))
   refine evc [] [] ?_;refine sq ?_ ?_<;>intro h1 h1p h1s<;>(try simp only[Q,Pat.cs_len] at h1p);refine xaU zaV .none rfl rfl rfl rfl (zas (by omega)) rfl ?_;refine evd [] [] ?_;refine xaU sl34 .none rfl rfl rfl rfl (zay (by omega)) rfl ?_;refine evd [] [] ?_;refine wc zmp (zeZ hw n (zbs hs (by omega)) (by omega) (hin _ (zae (by omega))) (Pats.ok_mem hok.2 _ (zae (by omega))) (hsz _ (by omega))) rfl rfl ?_;refine evd [] [] ?_;refine dr ?_;refine sq ?_ ?_<;>intro h2 h2p h2s<;>(try simp only[Q,Pat.cs_len] at h2p);refine rq ?_;rotate_left;refine ar ?_;refine xah (i+1) ⟨⟨by omega,za6 hg1.2 (by assumption)⟩,(by omega),sx ⟨⟨_,rfl,xaq ?_⟩,trivial⟩ trivial⟩;focus (first|rfl|(simp;done))
   refine sq ?_ ?_<;>intro h3 h3p h3s<;>(try simp only[Q,Pat.cs_len] at h3p);refine xaU (i:=0) sl34 .none rfl rfl rfl rfl (zay (by omega)) rfl ?_;refine evd [] [] ?_;refine wc zjV (zfK hw s0 (by omega) ht (Pats.ok_mem hok.2 _ (zae (by omega))) z0) rfl rfl ?_;refine evd [] [] ?_;refine xaU (i:=1) sl34 .none rfl rfl rfl rfl (zay (by omega)) rfl ?_;refine evd [] [] ?_;refine wc zjV (zfK hw s1 (by omega) ht (Pats.ok_mem hok.2 _ (zae (by omega))) z1) rfl rfl ?_;refine wc zxQ (znv (by omega) (by omega)) rfl rfl ?_;refine evd [] [] ?_;refine dr ?_;refine rq ?_;rotate_left;exfalso;simp_all;all_goals (refine congrArg D.bool ?_;unfold linP;rw[if_pos hop5];first|(rw[zbz (by omega) (fun x hx=>hg1.2 x (by omega)),Bool.true_and])|(rw[zbQ (i:=i) (by omega) (by omega) (by assumption),Bool.false_and]))
  ·skip
   refine bd Tryz.f298 70 [] [] fun w0 F0 own kept hk=>?_;refine bx 3004 ?_;refine bx 3005 ?_;refine ev ?_;refine wc zjY (zdn hw ht (zb4 ho)) rfl rfl ?_;refine ev ?_;refine xak (ι:=Nat) hk (fun i=>[(8,.d (.i (i:Int)))]) [6,15,16,17,18,19,20,21,22,23,24,25,26,27,28,29,30,31,32] (fun i=>[]) (fun i=>i<=(zac w ⟨a,k⟩ p).length/\∀i',i'<i->linP w n (nth (zac w ⟨a,k⟩ p) i') (nth p.kids i')=true) (fun i=>(zac w ⟨a,k⟩ p).length-i) 0 ⟨by omega,fun _ h=>absurd h (by omega)⟩ ⟨⟨_,rfl,xaq ?_⟩,trivial⟩ trivial (fun x=>rfl) (fun i hg1=>?_);focus (first|rfl|(simp;done))
   refine evc [] [] ?_;refine sq ?_ ?_<;>intro h1 h1p h1s<;>(try simp only[Q,Pat.cs_len] at h1p);refine xaU zaV .none rfl rfl rfl rfl (zas (by omega)) rfl ?_;refine evd [] [] ?_;refine xaU sl34 .none rfl rfl rfl rfl (zay (by omega)) rfl ?_;refine evd [] [] ?_;refine wc zmp (zeZ hw n (zbs hs (by omega)) (by omega) (hin _ (zae (by omega))) (Pats.ok_mem hok.2 _ (zae (by omega))) (hsz _ (by omega))) rfl rfl ?_;refine evd [] [] ?_;refine dr ?_;refine sq ?_ ?_<;>intro h2 h2p h2s<;>(try simp only[Q,Pat.cs_len] at h2p);refine rq ?_;rotate_left;refine ar ?_;refine xah (i+1) ⟨⟨by omega,za6 hg1.2 (by assumption)⟩,(by omega),sx ⟨⟨_,rfl,xaq ?_⟩,trivial⟩ trivial⟩;focus (first|rfl|(simp;done))
   refine sq ?_ ?_<;>intro h3 h3p h3s<;>(try simp only[Q,Pat.cs_len] at h3p);exfalso;simp_all;refine wc zjV (zfK hw hs hn ht hok' hb) rfl rfl ?_;refine ev ?_;refine xak (ι:=Nat) hk (fun j=>[(10,.d (.i (j:Int)))]) [6,55,56,57,58,59,60,61,62,63,64,65,66,67,68,69] (fun j=>[]) (fun j=>j<=(zaJ w (n+1) ⟨a,k⟩ p).length/\∀j',j'<j->zbX (zaJ w (n+1) ⟨a,k⟩ p) (nth (zaJ w (n+1) ⟨a,k⟩ p) j').var=(j':Int)) (fun j=>(zaJ w (n+1) ⟨a,k⟩ p).length-j) 0 ⟨by omega,fun _ h=>absurd h (by omega)⟩ ⟨⟨_,rfl,xaq ?_⟩,trivial⟩ trivial (fun x=>rfl) (fun j hg2=>?_);focus (first|rfl|(simp;done))
   refine evc [] [] ?_;refine sq ?_ ?_<;>intro h4 h4p h4s<;>(try simp only[Q,Pat.cs_len] at h4p);refine xaU zd0 .none rfl rfl rfl rfl (zas (by omega)) rfl ?_;refine ev ?_;refine wc ztV (ziQ (by omega)) rfl rfl ?_;refine ev ?_;refine sq ?_ ?_<;>intro h5 h5p h5s<;>(try simp only[Q,Pat.cs_len] at h5p);refine rq ?_;rotate_left;refine ar ?_;refine xah (j+1) ⟨⟨by omega,za6 hg2.2 (by omega)⟩,(by omega),sx ⟨⟨_,rfl,xaq ?_⟩,trivial⟩ trivial⟩;focus (first|rfl|(simp;done))
   refine rq ?_;rotate_left;all_goals (refine congrArg D.bool ?_;unfold linP;rw[if_neg hop5];first|(rw[zbQ (i:=i) (by omega) (by omega) (by assumption),Bool.false_and];done)|(rw[zbz (by omega) (fun x hx=>hg1.2 x (by omega)),Bool.true_and];first|(rw[zrB (i:=j) (by omega) (by omega)];done)|(symm;exact zdA (fun x hx=>decide_eq_true (hg2.2 x (by omega))))))
def isP (w:List Data) (t:Ty) (p:Pat):Bool:=zao w 10 t p&&(decide ((p.size:Int)<=60)&&linP w 10 t p)
theorem zhI {w:List Data} (hw:WT w){a k:Int}{p:Pat} (ht:TyIn w.length ⟨a,k⟩) (hok:p.ok) (hb:p.size<=1000000000000):
  FnD Tryz.prog 223 [.d (zam w),.agg [.d (.i a),.d (.i k)],.agg [.d (.i p.op),.d (.i p.ctor),.d (.i p.n),.d (.i p.m),.d (.i p.var),.d (zad p.kids)]] [] (.d (.bool (isP w ⟨a,k⟩ p))) []:=by
 have hc:=zqe p 60;by_cases hs:zao w 10 ⟨a,k⟩ p=true
 ·skip
  refine bd Tryz.f223 22 [] [1] fun w0 F0 own kept hk=>?_;refine bx 3004 ?_;refine bx 3005 ?_;refine ev ?_;refine xal ?_;refine xaz 9 [(15,.d (.bool (decide ((p.size:Int)<=60))))] [7,8,9,10,11,12,13,14] ?_ ?_;refine ev ?_;refine wc zp9 (zfJ hw 10 (by omega) (by omega) ht hok) rfl rfl ?_;refine ev ?_;refine sq ?_ ?_<;>intro h1 h1p h1s;refine Walk.call (cr:=[]) zqa (zfI _ (Nat.le_refl _) hb hok (by omega) (by omega)) rfl (.some rfl rfl h1) rfl rfl (LeL.refl _) trivial rfl rfl rfl ?_;refine evs [] [(11,true)] ?_ ⟨⟨_,rfl,h1⟩,trivial⟩;exact jnb rfl;exact jnb rfl;refine xay ?_;refine ev ?_;refine sq ?_ ?_<;>intro h2 h2p h2s;refine Walk.call (cr:=[]) zmp (zeZ hw 10 hs (by omega) ht hok hb) rfl (.some rfl rfl h2) rfl rfl (LeL.refl _) trivial rfl rfl rfl ?_;refine evs [] [(16,true)] ?_ ⟨⟨_,rfl,h2⟩,trivial⟩;refine rq ?_;rotate_left;refine rq ?_;rotate_left;all_goals (refine congrArg D.bool ?_;unfold isP;simp only[hs,Bool.true_and];first|(simp_all;done)|(simp_all;intro;omega))
 ·have hs':zao w 10 ⟨a,k⟩ p=false:=by simpa using hs
  refine bd Tryz.f223 22 [] [1] fun w0 F0 own kept hk=>?_;refine bx 3004 ?_;refine bx 3005 ?_;refine ev ?_;refine xal ?_;refine xaz 9 [(15,.d (.bool (false)))] [7,8,9,10,11,12,13,14] ?_ ?_;refine ev ?_;refine wc zp9 (zfJ hw 10 (by omega) (by omega) ht hok) rfl rfl ?_;refine ev ?_;refine sq ?_ ?_<;>intro h1 h1p h1s;refine Walk.call (cr:=[]) zqa (zfI _ (Nat.le_refl _) hb hok (by omega) (by omega)) rfl (.some rfl rfl h1) rfl rfl (LeL.refl _) trivial rfl rfl rfl ?_;refine evs [] [(11,true)] ?_ ⟨⟨_,rfl,h1⟩,trivial⟩;exact jnb rfl;exact jnb rfl;refine xay ?_;refine ev ?_;refine sq ?_ ?_<;>intro h2 h2p h2s;refine Walk.call (cr:=[]) zmp (show FnD Tryz.prog 298 [.d (zam w),.agg [.d (.i a),.d (.i k)],.agg [.d (.i p.op),.d (.i p.ctor),.d (.i p.n),.d (.i p.m),.d (.i p.var),.d (zad p.kids)]] [] (.d (.bool true)) [] from absurd (by assumption:(false:Bool)=true) (by simp)) rfl (.some rfl rfl h2) rfl rfl (LeL.refl _) trivial rfl rfl rfl ?_;refine evs [] [(16,true)] ?_ ⟨⟨_,rfl,h2⟩,trivial⟩;refine rq ?_;rotate_left;refine rq ?_;rotate_left;all_goals (refine congrArg D.bool ?_;unfold isP;simp_all)
end Go.Proofs.YtlfipehhbdjnjaaGreat
namespace Go.Proofs.YtlfipehhbdjnjaaGreat
open Go
set_option linter.unusedSimpArgs false
set_option linter.unusedVariables false
def tyS (s:Nat):Ty:=⟨((s / 4:Nat):Int),((s % 4:Nat):Int)⟩
def zcw (t:Ty):Nat:=t.data.toNat*4+t.index.toNat
def dv (f:Nat->Nat) (t:Ty):Nat:=if t.data = -1 then 1 else f (zcw t)
def zbn (f:Nat->Nat):Nat->List Ty->Nat
 |m,[]=>m+1
 |m,t::r=>if dv f t=0 then 0 else zbn f (max m (dv f t)) r
def most (w:List Data) (f:Nat->Nat) (t:Ty) (c:Int):Nat:=zbn f 0 (zaa w t c)
def updF (f:Nat->Nat) (s n:Nat):Nat->Nat:=fun i=>if i=s then n else f i
def zbF (w:List Data) (s:Nat) (f:Nat->Nat) (c:Int):Nat->Nat:=
 if 0<most w f (tyS s) c/\(f s=0\/most w f (tyS s) c<f s) then updF f s (most w f (tyS s) c) else f
def zdy (w:List Data) (f:Nat->Nat) (s:Nat):Nat->Nat:=(zaW w (tyS s)).foldl (zbF w s) f
def zg8 (w:List Data) (f:Nat->Nat):Nat->Nat:=(List.range (w.length*4)).foldl (zdy w) f
def zbg (w:List Data):Nat->Nat->Nat
 |0=>fun _=>0
 |k+1=>zg8 w (zbg w k)
def zaf (w:List Data):Nat->Nat:=zbg w (w.length*4+1)
def Hd (w:List Data):Nat->Ty->Prop
 |0,_=>False
 |d+1,t=>t.data = -1\/∃c∈zaW w t,t.data≠ -1/\∀u∈zaa w t c,Hd w d u
def InS (n:Nat) (u:Ty):Prop:=u.data = -1\/(zcw u<n/\tyS (zcw u)=u)
def ClosedT (w:List Data):Prop:=∀s,s<w.length*4->∀c∈zaW w (tyS s),∀u∈zaa w (tyS s) c,InS (w.length*4) u
theorem zl9 (s:Nat):(tyS s).data≠ -1:=by simp only[tyS];omega
theorem Hd_mono (w:List Data):∀(d:Nat) (t:Ty),Hd w d t->Hd w (d+1) t
 |0,_,h=>h.elim
 |d+1,t,h=>by
  rcases h with h|⟨c,hc,h1,h⟩
  ·exact .inl h
  ·exact .inr ⟨c,hc,h1,fun u hu=>Hd_mono w d u (h u hu)⟩
theorem Hd_le {w:List Data}{d e:Nat}{t:Ty} (h:d<=e) (hd:Hd w d t):Hd w e t:=by
 induction h with
 |refl=>exact hd
 |step _ ih=>exact Hd_mono w _ t ih
section
variable {w:List Data}
def Bet (f g:Nat->Nat):Prop:=∀s,0<f s->0<g s/\g s<=f s
def Snd (w:List Data) (f:Nat->Nat):Prop:=∀s,s<w.length*4->0<f s->Hd w (f s) (tyS s)
def Cmp (w:List Data) (k:Nat) (f:Nat->Nat):Prop:=∀s,s<w.length*4->∀d,d<=k->Hd w d (tyS s)->0<f s/\f s<=d
theorem Bet.refl (f:Nat->Nat):Bet f f:=fun s h=>⟨h,Nat.le_refl _⟩
theorem Bet.trans {f g h:Nat->Nat} (a:Bet f g) (b:Bet g h):Bet f h:=fun s hs=>⟨(b s (a s hs).1).1,Nat.le_trans (b s (a s hs).1).2 (a s hs).2⟩
theorem Cmp.bet {k:Nat}{f g:Nat->Nat} (h:Cmp w k f) (b:Bet f g):Cmp w k g:=fun s hs d hd hh=>
 ⟨(b s (h s hs d hd hh).1).1,Nat.le_trans (b s (h s hs d hd hh).1).2 (h s hs d hd hh).2⟩
theorem zkl {f:Nat->Nat}:∀ {l:List Ty}{m k:Nat},m<=k->(∀u∈l,0<dv f u/\dv f u<=k)->0<zbn f m l/\zbn f m l<=k+1
 | [],m,k,hm,_=>by simp only[zbn];omega
 |t::r,m,k,hm,h=>by
  have h1:=h t (by simp);simp only[zbn];rw[if_neg (by omega)];exact zkl (by omega) (fun u hu=>h u (by simp[hu]))
theorem zgv {f:Nat->Nat}:∀ {l:List Ty}{m:Nat},0<zbn f m l->m<zbn f m l/\∀u∈l,0<dv f u/\dv f u<zbn f m l
 | [],m,_=>⟨by simp only[zbn];omega,fun u hu=>by simp at hu⟩
 |t::r,m,h=>by
  simp only[zbn] at h ⊢;by_cases h0:dv f t=0
  ·rw[if_pos h0] at h;omega
  ·rw[if_neg h0] at h ⊢;obtain⟨h1,h2⟩:=zgv h;refine⟨by omega,fun u hu=>?_⟩;rcases List.mem_cons.1 hu with rfl|hu
   ·omega
   ·exact h2 u hu
theorem zmz {f:Nat->Nat} (hs:Snd w f){u:Ty} (hu:InS (w.length*4) u) (h:0<dv f u):Hd w (dv f u) u:=by
 unfold dv at h ⊢;split
 ·rename_i he;exact .inl he
 ·rename_i he;rw[if_neg he] at h;rcases hu with hu|⟨h1,h2⟩
  ·exact absurd hu he
  ·have:=hs _ h1 h;rwa [h2] at this
theorem zj6 {k:Nat}{f:Nat->Nat} (hc:Cmp w k f){u:Ty} (hu:InS (w.length*4) u) (h:Hd w k u):0<dv f u/\dv f u<=k:=by
 unfold dv;split
 ·cases k with
  |zero=>exact h.elim
  |succ k=>omega
 ·rename_i he;rcases hu with hu|⟨h1,h2⟩
  ·exact absurd hu he
  ·exact hc _ h1 k (Nat.le_refl _) (by rw[h2];exact h)
theorem zkv {s:Nat}{f:Nat->Nat}{c:Int}:Bet f (zbF w s f c):=by
 intro i hi;unfold zbF;split
 ·rename_i h;unfold updF;split
  ·subst i;omega
  ·omega
 ·omega
theorem zuI (hcl:ClosedT w){s:Nat}{f:Nat->Nat}{c:Int} (hs:s<w.length*4) (hc:c∈zaW w (tyS s)) (h:Snd w f):Snd w (zbF w s f c):=by
 unfold zbF;split
 ·rename_i hn;intro i hi h0;unfold updF at h0 ⊢;by_cases he:i=s
  ·subst he;rw[if_pos rfl] at h0 ⊢;obtain⟨h1,h2⟩:=zgv (m:=0) hn.1;obtain⟨n,hn'⟩:∃n,most w f (tyS i) c=n+1:=⟨most w f (tyS i) c-1,by omega⟩;rw[hn'];refine .inr ⟨c,hc,zl9 _,fun u hu=>?_⟩;have h3:=h2 u hu;have h4:zbn f 0 (zaa w (tyS i) c)=n+1:=hn';exact Hd_le (by omega) (zmz h (hcl i hi c hc u hu) h3.1)
  ·rw[if_neg he] at h0 ⊢;exact h i hi h0
 ·exact h
theorem zuG (hcl:ClosedT w){s k:Nat}{f:Nat->Nat}{c:Int} (hs:s<w.length*4) (hc:c∈zaW w (tyS s)) (h:Cmp w k f) (hh:∀u∈zaa w (tyS s) c,Hd w k u):
  0<zbF w s f c s/\zbF w s f c s<=k+1:=by
 have hm:=zkl (f:=f) (m:=0) (k:=k) (by omega) (fun u hu=>zj6 h (hcl s hs c hc u hu) (hh u hu));have hm':0<most w f (tyS s) c/\most w f (tyS s) c<=k+1:=hm;unfold zbF;split
 ·unfold updF;rw[if_pos rfl];exact hm'
 ·rename_i hn;have:¬(f s=0\/most w f (tyS s) c<f s):=fun h2=>hn ⟨hm'.1,h2⟩;omega
theorem zsu (hcl:ClosedT w){s k:Nat} (hs:s<w.length*4):∀(C:List Int) (f:Nat->Nat),(∀c∈C,c∈zaW w (tyS s))->Snd w f->Cmp w k f->
  Bet f (C.foldl (zbF w s) f)/\Snd w (C.foldl (zbF w s) f)/\∀c∈C,(∀u∈zaa w (tyS s) c,Hd w k u)->0<C.foldl (zbF w s) f s/\C.foldl (zbF w s) f s<=k+1
 | [],f,_,h1,_=>⟨Bet.refl f,h1,fun c hc=>by simp at hc⟩
 |c::r,f,hC,h1,h2=>by
  have hc:=hC c (by simp);obtain⟨g1,g2,g3⟩:=zsu hcl hs r (zbF w s f c) (fun x hx=>hC x (by simp[hx])) (zuI hcl hs hc h1) (h2.bet zkv);refine⟨zkv.trans g1,g2,fun x hx hh=>?_⟩;rcases List.mem_cons.1 hx with rfl|hx
  ·obtain⟨q1,q2⟩:=zuG hcl hs hc h2 hh;exact⟨(g1 s q1).1,Nat.le_trans (g1 s q1).2 q2⟩
  ·exact g3 x hx hh
theorem zvT (hcl:ClosedT w){s k:Nat} (hs:s<w.length*4){f:Nat->Nat} (h1:Snd w f) (h2:Cmp w k f):
  Bet f (zdy w f s)/\Snd w (zdy w f s)/\∀d,d<=k+1->Hd w d (tyS s)->0<zdy w f s s/\zdy w f s s<=d:=by
 obtain⟨g1,g2,g3⟩:=zsu hcl hs (zaW w (tyS s)) f (fun c hc=>hc) h1 h2;refine⟨g1,g2,fun d hd hh=>?_⟩;rcases Nat.lt_or_ge d (k+1) with h|h
 ·have:=h2 s hs d (by omega) hh;exact⟨(g1 s this.1).1,Nat.le_trans (g1 s this.1).2 this.2⟩
 ·obtain rfl:d=k+1:=by omega
  rcases hh with hh|⟨c,hc,_,hh⟩
  ·exact absurd hh (zl9 s)
  ·exact g3 c hc hh
theorem zpf (hcl:ClosedT w){k:Nat}:∀(L:List Nat) (f:Nat->Nat),(∀s∈L,s<w.length*4)->Snd w f->Cmp w k f->
  Bet f (L.foldl (zdy w) f)/\Snd w (L.foldl (zdy w) f)/\∀s∈L,∀d,d<=k+1->Hd w d (tyS s)->0<L.foldl (zdy w) f s/\L.foldl (zdy w) f s<=d
 | [],f,_,h1,_=>⟨Bet.refl f,h1,fun s hs=>by simp at hs⟩
 |s::r,f,hL,h1,h2=>by
  obtain⟨p1,p2,p3⟩:=zvT hcl (hL s (by simp)) h1 h2;obtain⟨g1,g2,g3⟩:=zpf hcl r (zdy w f s) (fun x hx=>hL x (by simp[hx])) p2 (h2.bet p1);refine⟨p1.trans g1,g2,fun x hx d hd hh=>?_⟩;rcases List.mem_cons.1 hx with rfl|hx
  ·have:=p3 d hd hh;exact⟨(g1 x this.1).1,Nat.le_trans (g1 x this.1).2 this.2⟩
  ·exact g3 x hx d hd hh
theorem zuW (hcl:ClosedT w){k:Nat}{f:Nat->Nat} (h1:Snd w f) (h2:Cmp w k f):Bet f (zg8 w f)/\Snd w (zg8 w f)/\Cmp w (k+1) (zg8 w f):=by
 obtain⟨g1,g2,g3⟩:=zpf hcl (List.range (w.length*4)) f (fun s hs=>List.mem_range.1 hs) h1 h2;exact⟨g1,g2,fun s hs d hd hh=>g3 s (List.mem_range.2 hs) d hd hh⟩
theorem zc0 (hcl:ClosedT w):∀k,Snd w (zbg w k)/\Cmp w k (zbg w k)
 |0=>⟨fun s _ h=>absurd h (by simp[zbg]),fun s _ d hd hh=>by
   obtain rfl:d=0:=by omega
   exact hh.elim⟩
 |k+1=>(zuW hcl (zc0 hcl k).1 (zc0 hcl k).2).2
theorem zka (hcl:ClosedT w){d:Nat} (h1:1<=d) (h:∀s,s<w.length*4->Hd w (d+1) (tyS s)->Hd w d (tyS s)):∀e s,s<w.length*4->Hd w e (tyS s)->Hd w d (tyS s)
 |0,s,_,hh=>hh.elim
 |e+1,s,hs,hh=>by
  refine h s hs ?_;rcases hh with hh|⟨c,hc,h2,hh⟩
  ·exact .inl hh
  ·refine .inr ⟨c,hc,h2,fun u hu=>?_⟩;rcases hcl s hs c hc u hu with hi|⟨q1,q2⟩
   ·cases d with
    |zero=>omega
    |succ d=>exact .inl hi
   ·have:=zka hcl h1 h e _ q1 (by rw[q2];exact hh u hu);rwa [q2] at this
open Classical in
noncomputable def cntH (w:List Data) (d:Nat):Nat:=(List.range (w.length*4)).countP (fun s=>decide (Hd w d (tyS s)))
theorem zow {p q:Nat->Bool}:∀ {l:List Nat},(∀x∈l,p x=true->q x=true)->(∃x∈l,p x=false/\q x=true)->l.countP p<l.countP q
 | [],_,h=>by obtain⟨x,hx,_⟩:=h;simp at hx
 |y::r,hpq,h=>by
  have hle:r.countP p<=r.countP q:=List.countP_mono_left (fun x hx hp=>hpq x (by simp[hx]) hp);rw[List.countP_cons,List.countP_cons];obtain⟨x,hx,h1,h2⟩:=h;rcases List.mem_cons.1 hx with rfl|hx
  ·rw[h1,h2];simp only[Bool.false_eq_true,if_false,if_true];omega
  ·have:=zow (fun x hx hp=>hpq x (by simp[hx]) hp) ⟨x,hx,h1,h2⟩;have h3:=hpq y (by simp);cases hp:p y with
   |false=>simp only[Bool.false_eq_true,if_false];omega
   |true=>rw[h3 hp];simp only[if_true];omega
open Classical in
theorem zxX {d:Nat} (h:¬ ∀s,s<w.length*4->Hd w (d+1) (tyS s)->Hd w d (tyS s)):cntH w d<cntH w (d+1):=by
 have h2:∃s,s<w.length*4/\Hd w (d+1) (tyS s)/\¬Hd w d (tyS s):=by
  refine Classical.byContradiction fun hn=>h fun s hs hh=>Classical.byContradiction fun hd=>hn ⟨s,hs,hh,hd⟩
 obtain⟨s,hs,h3,h4⟩:=h2;unfold cntH;exact zow (fun x _ hx=>by rw[decide_eq_true_eq] at hx ⊢;exact Hd_mono w d _ hx) ⟨s,List.mem_range.2 hs,by simp[h4],by simp[h3]⟩
theorem zua:∀m,(∀d,1<=d->d<=m->¬ ∀s,s<w.length*4->Hd w (d+1) (tyS s)->Hd w d (tyS s))->m<=cntH w (m+1)
 |0,_=>Nat.zero_le _
 |m+1,h=>by
  have:=zua m (fun d h1 h2=>h d h1 (by omega));have:=zxX (w:=w) (d:=m+1) (h (m+1) (by omega) (by omega));omega
theorem zmI (hcl:ClosedT w){e s:Nat} (hs:s<w.length*4) (h:Hd w e (tyS s)):Hd w (w.length*4+1) (tyS s):=by
 have hex:∃d,1<=d/\d<=w.length*4+1/\∀s,s<w.length*4->Hd w (d+1) (tyS s)->Hd w d (tyS s):=by
  refine Classical.byContradiction fun hn=>?_;have h1:=zua (w:=w) (w.length*4+1) (fun d h1 h2 h3=>hn ⟨d,h1,h2,h3⟩);have h2:cntH w (w.length*4+1+1)<=(List.range (w.length*4)).length:=List.countP_le_length;rw[List.length_range] at h2;omega
 obtain⟨d,h1,h2,h3⟩:=hex;exact Hd_le h2 (zka hcl h1 h3 e s hs h)
theorem zuH {s i:Nat}{f:Nat->Nat}{c:Int} (h:i≠s):zbF w s f c i=f i:=by
 unfold zbF;split
 ·unfold updF;rw[if_neg h]
 ·rfl
theorem zsv {s i:Nat} (h:i≠s):∀(C:List Int) (f:Nat->Nat),C.foldl (zbF w s) f i=f i
 | [],_=>rfl
 |c::r,f=>by rw[List.foldl_cons,zsv h r,zuH h]
theorem zph {i:Nat}:∀(L:List Nat) (f:Nat->Nat),i∉L->L.foldl (zdy w) f i=f i
 | [],_,_=>rfl
 |s::r,f,h=>by
  simp only[List.mem_cons,not_or] at h;rw[List.foldl_cons,zph r _ h.2];exact zsv h.1 _ _
theorem zjd {i:Nat} (h:w.length*4<=i):∀k,zbg w k i=0
 |0=>rfl
 |k+1=>by
  show zg8 w (zbg w k) i=0
  unfold zg8;rw[zph _ _ (by simp;omega),zjd h k]
theorem zkZ (hcl:ClosedT w){k:Nat} (hk:w.length*4+1<=k):zbg w k=zaf w:=by
 have key:∀a b,w.length*4+1<=a->w.length*4+1<=b->∀s,s<w.length*4->0<zbg w a s->0<zbg w b s/\zbg w b s<=zbg w a s:=by
  intro a b ha hb s hs h0;have h1:=(zc0 hcl a).1 s hs h0;have h2:=zmI hcl hs h1;have h3:=(zc0 hcl a).2 s hs _ ha h2;exact(zc0 hcl b).2 s hs _ (by omega) h1
 funext s
 rcases Nat.lt_or_ge s (w.length*4) with hs|hs
 ·have h1:=key k (w.length*4+1) hk (Nat.le_refl _) s hs;have h2:=key (w.length*4+1) k (Nat.le_refl _) hk s hs;show zbg w k s=zbg w (w.length*4+1) s
  omega
 ·show zbg w k s=zbg w (w.length*4+1) s
  rw[zjd hs,zjd hs]
theorem zvr (hcl:ClosedT w){k:Nat} (h:zbg w (k+1)=zbg w k):zbg w k=zaf w:=by
 have:∀j,zbg w (k+j)=zbg w k:=by
  intro j;induction j with
  |zero=>rfl
  |succ j ih=>
   show zg8 w (zbg w (k+j))=zbg w k
   rw[ih];exact h
 rw[<-this (w.length*4+1)];exact zkZ hcl (by omega)
def Strict (f g:Nat->Nat):Prop:=∃s,0<g s/\(f s=0\/g s<f s)
theorem Strict.bet {f g h:Nat->Nat} (a:Strict f g) (b:Bet g h):Strict f h:=by
 obtain⟨s,h1,h2⟩:=a;have:=b s h1;exact⟨s,this.1,by omega⟩
theorem Strict.ne {f g:Nat->Nat} (a:Strict f g):f≠g:=by
 rintro rfl
 obtain⟨s,h1,h2⟩:=a;omega
theorem zn8 {s:Nat}:∀(C:List Int) (f:Nat->Nat),Bet f (C.foldl (zbF w s) f)
 | [],f=>Bet.refl f
 |c::r,f=>zkv.trans (zn8 r _)
theorem zpg:∀(L:List Nat) (f:Nat->Nat),Bet f (L.foldl (zdy w) f)
 | [],f=>Bet.refl f
 |s::r,f=>(zn8 _ _).trans (zpg r _)
theorem zqR {f:Nat->Nat}{b:Nat} (hb:∀s,f s<=b) (h1:1<=b):∀ {l:List Ty}{m:Nat},m<=b->zbn f m l<=b+1
 | [],m,hm=>by simp only[zbn];omega
 |t::r,m,hm=>by
  simp only[zbn];split
  ·omega
  ·refine zqR hb h1 ?_;have:dv f t<=b:=by
    unfold dv;split
    ·exact h1
    ·exact hb _
   omega
theorem zvI {s:Nat}{f:Nat->Nat}{c:Int}{b:Nat} (hb:∀s,f s<=b) (h1:1<=b):∀i,zbF w s f c i<=b+1:=by
 intro i;unfold zbF;split
 ·unfold updF;split
  ·exact zqR hb h1 (Nat.zero_le _)
  ·have:=hb i;omega
 ·have:=hb i;omega
theorem zq7 {s:Nat}:∀(C:List Int) (f:Nat->Nat) (b:Nat),(∀s,f s<=b)->1<=b->∀i,C.foldl (zbF w s) f i<=b+C.length
 | [],f,b,hb,_,i=>by have:=hb i;simpa using this
 |c::r,f,b,hb,h1,i=>by
  have:=zq7 (s:=s) r (zbF w s f c) (b+1) (zvI hb h1) (by omega) i;rw[List.foldl_cons,xab];omega
theorem zl6 {m:Nat}:∀(L:List Nat) (f:Nat->Nat) (b:Nat),(∀s∈L,(zaW w (tyS s)).length<=m)->(∀s,f s<=b)->1<=b->∀i,L.foldl (zdy w) f i<=b+L.length*m
 | [],f,b,_,hb,_,i=>by have:=hb i;simpa using this
 |s::r,f,b,hm,hb,h1,i=>by
  have h2:=zq7 (w:=w) (s:=s) (zaW w (tyS s)) f b hb h1;have h3:=hm s (by simp);have:=zl6 r (zdy w f s) (b+m) (fun x hx=>hm x (by simp[hx])) (fun j=>by have:=h2 j;show _<=_;unfold zdy;omega) (by omega) i;rw[List.foldl_cons,xab,Nat.add_mul];omega
theorem zsi {m:Nat} (hm:∀s,s<w.length*4->(zaW w (tyS s)).length<=m):∀k i,zbg w k i<=1+k*(w.length*4*m)
 |0,i=>by simp[zbg]
 |k+1,i=>by
  have:=zl6 (w:=w) (m:=m) (List.range (w.length*4)) (zbg w k) (1+k*(w.length*4*m)) (fun s hs=>hm s (List.mem_range.1 hs)) (zsi hm k) (by omega) i;show zg8 w (zbg w k) i<=_
  unfold zg8;rw[List.length_range] at this;rw[Nat.add_mul];omega
end
end Go.Proofs.YtlfipehhbdjnjaaGreat
namespace Go.Proofs.YtlfipehhbdjnjaaGreat
open Go
set_option linter.unusedSimpArgs false
set_option linter.unusedVariables false
set_option maxRecDepth 100000
set_option maxHeartbeats 2000000
section
variable {c:Ctx}{all:Array Oper}{chk:List Rec->Prop}{os:List Oper}{recs:List Rec}{env:Env}{hp:Hp}{Q:St->Prop}
variable {d ty:Nat}{pos:String}{af:Array Edge}{g:Option (Nat×Bool)}{pg:List (Nat×AV)}
theorem Walk.buildZ {t n e m k:Nat}{zs:List AV} (ht:TyZ c.P t k zs) (ha:ArT c.P t n e m) (hg:GH all env g pg) (hd:Nat.blt d c.n=true)
  (hn:Walk c all chk os (zan (pg++[]) [] [] ⟨some (d,.agg zs),[]⟩::recs) ⟨(d,.agg zs)::env,hp⟩ Q):
  Walk c all chk (⟨some d,.build t #[],ty,pos,af,g⟩::os) recs ⟨env,hp⟩ Q:=by
 refine xba hg hd (fun a G T w=>?_) hn;obtain⟨i,z,h1,h2,h3,h4⟩:=ht.inf;obtain⟨j,h5,h6⟩:=ha.inf;have hz:=zb0 (G:=G) (T:=T) (w:=w) h4;refine⟨.agg z.cells, ?_, ?_⟩
 ·have hb:c.P.built t []=some z.cells:=by
   unfold Program.built;simp only[h1,ha.und,h3,h5];rfl
  have:=run_build w t #[] z.cells hb;simp only[execOp,Sem.run_bind,Array.map_empty,this,Result.andThen_ok,Sem.run_pure]
 ·have hz':AllR G T w zs z.cells:=by simpa using hz
  exact .agg hz'.size hz'.rel
end
def tabC (n:Nat) (f:Nat->Nat):List AV:=(List.range n).map fun s=> .d (.i (f s:Int))
def tabD (n:Nat) (f:Nat->Nat):List D:=(List.range n).map fun s=> .i (f s:Int)
abbrev zeO (n:Nat) (f:Nat->Nat):D:= .sl ((List.range n).map fun s=>[D.i (f s:Int)])
theorem zk6 {n i s:Nat}{f:Nat->Nat} (h:s<n) (e:i=s):(tabC n f)[i]?=some (.d (.i (f s:Int))):=by
 subst e;simp[tabC,h]
theorem zvV {n i s:Nat}{f:Nat->Nat} (h:s<n) (e:i=s):(tabD n f)[i]?=some (.i (f s:Int)):=by
 subst e;simp[tabD,h]
theorem zaG {n:Nat}{f:Nat->Nat}:AV.idsL (tabC n f)=[]:=by
 unfold tabC;induction List.range n with
 |nil=>rfl
 |cons x r ih=>rw[xae,AV.idsL,ih];rfl
theorem zvX:∀ {n:Nat}{f:Nat->Nat},toDL (tabC n f)=some (tabD n f):=by
 intro n f;unfold tabC tabD;have:=zl8 ((List.range n).map fun s=>D.i (f s:Int));rwa [List.map_map] at this
theorem zt5 {n:Nat}{f:Nat->Nat}:zbJ n 1 (tabC n f)=some ((List.range n).map fun s=>[D.i (f s:Int)]):=by
 have:=zd9 (f:=fun s=>[D.i (f s:Int)]) (k:=1) (l:=List.range n) (fun _ _=>rfl);rw[List.length_range] at this;rw[<-this];congr 1
 unfold tabC;induction List.range n with
 |nil=>rfl
 |cons x r ih=>rw[xae,List.flatMap_cons,ih];rfl
theorem zss {v:AV}:∀ {cs:List AV}{i:Nat},i<cs.length->putC cs i [v]=some (cs.set i v)
 |x::r,0,_=>by cases r<;>rfl
 |x::r,i+1,h=>by
  have:=zss (v:=v) (cs:=r) (i:=i) (by simpa using h);simp only[putC,this,List.set_cons_succ]
theorem zsG {n i s v:Nat}{f:Nat->Nat}{x:Int} (h:s<n) (e:i=s) (ex:x=(v:Int)):putC (tabC n f) i [.d (.i x)]=some (tabC n (updF f s v)):=by
 subst e ex;rw[zss (by simp[tabC,h])];congr 1
 refine List.ext_getElem (by simp[tabC]) (fun j h1 h2=>?_);simp only[tabC,xac,List.length_range] at h2;rw[List.getElem_set];simp only[tabC,List.getElem_map,List.getElem_range,updF];by_cases hj:i=j
 ·subst hj;simp
 ·rw[if_neg hj,if_neg (fun h=>hj h.symm)]
theorem InS.facts {n:Nat}{a k:Int} (h:InS n ⟨a,k⟩) (ha:¬a = -1):zcw ⟨a,k⟩<n/\a*4+k=(zcw ⟨a,k⟩:Int)/\0<=a/\0<=k/\k<=3/\a<=n:=by
 rcases h with h|⟨h1,h2⟩
 ·exact absurd h ha
 ·have e1:=congrArg Ty.data h2;have e2:=congrArg Ty.index h2;simp only[tyS] at e1 e2;omega
theorem zmA {f:Nat->Nat}{a k:Int} (ha:¬a = -1):dv f ⟨a,k⟩=f (zcw ⟨a,k⟩):=by unfold dv;rw[if_neg ha]
theorem zmB {f:Nat->Nat}{a k:Int} (ha:a = -1):dv f ⟨a,k⟩=1:=by unfold dv;rw[if_pos ha]
theorem zmy {f:Nat->Nat}{b:Nat} (hb:∀s,f s<=b) (h1:1<=b) (t:Ty):dv f t<=b:=by
 unfold dv;split
 ·exact h1
 ·exact hb _
theorem ziM {a k:Int} (ha:0<=a/\a<=1000) (hk:0<=k/\k<=1000):FnD Tryz.prog 318 [.agg [.d (.i a),.d (.i k)]] [] (.d (.i (a*4+k))) []:=by
 refine bd Tryz.f318 9 [] [] fun w0 F0 own kept hk=>?_;refine bx 3001 ?_;refine ev ?_;refine ar ?_;refine ar ?_;focus (refine rq ?_;all_goals ((simp[];done)))
theorem znp {n:Nat}{f:Nat->Nat}{a k:Int} (h:InS n ⟨a,k⟩) (hn:n<=100):
  FnD Tryz.prog 251 [.ms 70 n,.agg [.d (.i a),.d (.i k)]] [(70,some (.box (tabC n f)))] (.d (.i (dv f ⟨a,k⟩))) []:=by
 have hs:=h.facts;refine bd Tryz.f251 13 [12] [] fun w0 F0 own kept hk=>?_;refine Walk.box (id:=3003) .none rfl rfl rfl (by first|rfl|(simp only[zaz,occH,occE,Res.ids,xag,List.nil_append,AV.idsL,AV.ids,zaj,zak,zaq,zaQ,xae,List.map_nil,upC,zaG];rfl)) (by first|rfl|(simp only[zaz,occH,occE,Res.ids,xag,List.nil_append,AV.idsL,AV.ids,zaj,zak,zaq,zaQ,xae,List.map_nil,upC,zaG];rfl)) (by first|rfl|(simp only[zaz,occH,occE,Res.ids,xag,List.nil_append,AV.idsL,AV.ids,zaj,zak,zaq,zaQ,xae,List.map_nil,upC,zaG];rfl)) (by first|rfl|(simp only[zaz,occH,occE,Res.ids,xag,List.nil_append,AV.idsL,AV.ids,zaj,zak,zaq,zaQ,xae,List.map_nil,upC,zaG];rfl)) ?_;refine evs [12] [] ?_;refine sq ?_ ?_<;>intro h1 h1p h1s<;>(try simp only[Q] at h1p);refine rn [] (r1 rfl) (.eqd ?_) ⟨rfl,rfl⟩ (SubH.get ⟨rfl,trivial⟩) (fun _ h=>h);rotate_left;refine Walk.call (cr:=[]) ztZ (ziM (by have:=hs h1p;omega) (by have:=hs h1p;omega)) rfl .none rfl rfl (LeL.refl _) trivial rfl (by first|rfl|(simp only[zbd,List.all_cons,List.all_nil,zcg,zbV,AV.idsL,AV.ids,zaj,zak,xae,List.map_nil,zaG];rfl)) (by first|rfl|(simp only[zaz,occH,occE,Res.ids,xag,List.nil_append,AV.idsL,AV.ids,zaj,zak,zaq,zaQ,xae,List.map_nil,upC,zaG];rfl)) ?_;refine xaY (i:=zcw ⟨a,k⟩) sl29 .none rfl rfl rfl (hs h1p).2.1 ((hs h1p).1) ?_;refine xa0 ty3 .none rfl rfl rfl ((zk6 (hs h1p).1 (by omega))) ?_;refine evs [12] [] ?_;refine rn [] (r1 rfl) (.eqd ?_) ⟨rfl,rfl⟩ (SubH.get ⟨rfl,trivial⟩) (fun _ h=>h);rotate_left;all_goals (first|(rw[zmB (by assumption)];rfl)|(rw[zmA (by assumption)]))
theorem zeh {n:Nat}{f:Nat->Nat}{a k:Int} (h:InS n ⟨a,k⟩) (hn:n<=100):
  FnD Tryz.prog 251 [.d (zeO n f),.agg [.d (.i a),.d (.i k)]] [] (.d (.i (dv f ⟨a,k⟩))) []:=by
 have hs:=h.facts;refine bd Tryz.f251 13 [] [] fun w0 F0 own kept hk=>?_;refine bx 3003 ?_;refine ev ?_;refine sq ?_ ?_<;>intro h1 h1p h1s<;>(try simp only[Q] at h1p);refine rq ?_;rotate_left;refine wc ztZ (ziM (by have:=hs h1p;omega) (by have:=hs h1p;omega)) rfl rfl ?_;refine xaU (i:=zcw ⟨a,k⟩) sl29 .none rfl rfl rfl (hs h1p).2.1 (by simp[(hs h1p).1];rfl) rfl ?_;refine ev ?_;refine rq ?_;rotate_left;all_goals (first|(rw[zmB (by assumption)];rfl)|(rw[zmA (by assumption)]))
theorem zfm {w:List Data} (hw:WT w){a k c:Int} (ht:TyIn w.length ⟨a,k⟩) (hc:c∈zai w ⟨a,k⟩):(zaa w ⟨a,k⟩ c).length<=1000000000000:=by
 obtain⟨d,rfl,h1,h2⟩:=zcS ht hc;exact zgT hw h1 h2
theorem zoi {w:List Data} (hw:WT w){n:Nat}{f:Nat->Nat}{a k c:Int} (ht:TyIn w.length ⟨a,k⟩) (hc:c∈zai w ⟨a,k⟩) (hn:n<=100) (hb:∀s,f s<=100000) (hin:∀u∈zaa w ⟨a,k⟩ c,InS n u):
  FnD Tryz.prog 227 [.d (zam w),.ms 70 n,.agg [.d (.i a),.d (.i k)],.d (.i c)] [(70,some (.box (tabC n f)))] (.d (.i (most w f ⟨a,k⟩ c))) []:=by
 have hl:=zfm hw ht hc;have hd:=zmy hb (by omega);refine bd Tryz.f227 37 [] [] fun w0 F0 own kept hk=>?_;refine Walk.box (id:=3006) .none rfl rfl rfl (by(simp only[zaz,occH,occE,Res.ids,xag,List.nil_append,AV.idsL,AV.ids,zaj,zak,zaq,zaQ,xae,List.map_nil,upC,zaG];rfl)) (by(simp only[zaz,occH,occE,Res.ids,xag,List.nil_append,AV.idsL,AV.ids,zaj,zak,zaq,zaQ,xae,List.map_nil,upC,zaG];rfl)) (by(simp only[zaz,occH,occE,Res.ids,xag,List.nil_append,AV.idsL,AV.ids,zaj,zak,zaq,zaQ,xae,List.map_nil,upC,zaG];rfl)) (by(simp only[zaz,occH,occE,Res.ids,xag,List.nil_append,AV.idsL,AV.ids,zaj,zak,zaq,zaQ,xae,List.map_nil,upC,zaG];rfl)) ?_;refine ev ?_;refine Walk.call (cr:=[]) zgp (zck hw ht hc) rfl .none rfl rfl (LeL.refl _) trivial rfl (by first|rfl|(simp only[zbd,List.all_cons,List.all_nil,zcg,zbV,AV.idsL,AV.ids,zaj,zak,xae,List.map_nil,zaG];rfl)) (by first|rfl|(simp only[zaz,occH,occE,Res.ids,xag,List.nil_append,AV.idsL,AV.ids,zaj,zak,zaq,zaQ,xae,List.map_nil,upC,zaG];rfl)) ?_;refine ev ?_;refine xak (ι:=List (Ty)×List (Ty)×(Nat)) hk (fun x=>[(11,.d (.i (x.1.length:Int))),(10,.d (.i (x.2.2:Int)))]) [8,12,17,18,19,20,21,22,23,24,25,26,27,28,29,30,31,32,33,34] (fun x=>[]) (fun x=>x.1++x.2.1=zaa w ⟨a,k⟩ c/\x.2.2<=100000/\zbn f x.2.2 x.2.1=zbn f 0 (zaa w ⟨a,k⟩ c)) (fun x=>x.2.1.length) ([],zaa w ⟨a,k⟩ c,0) ⟨by simp,by simp,rfl⟩ ⟨⟨_,rfl,xaq ?_⟩,⟨⟨_,rfl,xaq ?_⟩,trivial⟩⟩ trivial (fun x=>rfl) (fun x hg1=>?_);iterate 2 focus ((simp;done))
 obtain⟨pre,rest,m⟩:=x;dsimp only at hg1 ⊢;refine evc [] [] ?_;refine sq ?_ ?_<;>intro h1 h1p h1s<;>(try simp only[Q] at h1p);rcases rest with _|⟨y,rest⟩
 ·exfalso;simp_all
 have hdy:=hd y;have hye:dv f ⟨y.data,y.index⟩=dv f y:=rfl;refine xaU zaV .none rfl rfl rfl rfl (zaL hg1.1) rfl ?_;refine ev ?_;refine Walk.call (cr:=[]) zjX (znp (f:=f) (a:=y.data) (k:=y.index) (hin y (by rw[<-hg1.1];simp)) hn) rfl .none rfl rfl (.cons (xas (by first|rfl|(simp;done))) (.cons (.refl _) .nil)) ⟨rfl,trivial⟩ rfl (by first|rfl|(simp only[zbd,List.all_cons,List.all_nil,zcg,zbV,AV.idsL,AV.ids,zaj,zak,xae,List.map_nil,zaG];rfl)) (by first|rfl|(simp only[zaz,occH,occE,Res.ids,xag,List.nil_append,AV.idsL,AV.ids,zaj,zak,zaq,zaQ,xae,List.map_nil,upC,zaG];rfl)) ?_;refine ev ?_;refine sq ?_ ?_<;>intro h2 h2p h2s<;>(try simp only[Q] at h2p);refine rn [] (r1 rfl) (.eqd ?_) ⟨rfl,rfl⟩ (SubH.get ⟨rfl,trivial⟩) (fun _ h=>h);rotate_left;refine sq ?_ ?_<;>intro h3 h3p h3s<;>(try simp only[Q] at h3p);refine ar ?_;refine xah ((pre++[y],rest,max m (dv f y))) ⟨⟨(by have hz:=hg1.1;rw[<-hz];simp),⟨(by have:=hd y;dsimp only;omega),(by rw[<-hg1.2.2];simp only[zbn];rw[if_neg (by have:=hd y;omega)])⟩⟩,(by simp),sx ⟨⟨_,rfl,xaq ?_⟩,⟨⟨_,rfl,xaq ?_⟩,trivial⟩⟩ trivial⟩;iterate 2 focus (first|(simp;done)|(dsimp only;omega))
 refine ar ?_;refine xah ((pre++[y],rest,max m (dv f y))) ⟨⟨(by have hz:=hg1.1;rw[<-hz];simp),⟨(by have:=hd y;dsimp only;omega),(by rw[<-hg1.2.2];simp only[zbn];rw[if_neg (by have:=hd y;omega)])⟩⟩,(by simp),sx ⟨⟨_,rfl,xaq ?_⟩,⟨⟨_,rfl,xaq ?_⟩,trivial⟩⟩ trivial⟩;iterate 2 focus (first|(simp;done)|(dsimp only;omega))
 have hrest:rest=[]:=by
  rcases rest with _|⟨a,b⟩
  ·rfl
  ·exfalso;have hz:=congrArg List.length (hg1.1);simp only[xaa,xab,xac] at hz;omega
 subst hrest;refine ar ?_;refine rn [] (r1 rfl) (.eqd ?_) ⟨rfl,rfl⟩ (SubH.get ⟨rfl,trivial⟩) (fun _ h=>h);rotate_left;all_goals (refine congrArg D.i ?_;unfold most;rw[<-hg1.2.2];first|(simp only[zbn];rw[if_pos (by omega)];rfl)|(simp only[zbn];omega))
structure Dp (w:List Data):Prop where
 wt:WT w
 cl:ClosedT w
 four:w.length<=4
 ct:∀s,s<w.length*4->(zaW w (tyS s)).length<=4
def midT (w:List Data) (k s:Nat):Nat->Nat:=(List.range s).foldl (zdy w) (zbg w k)
def rowT (w:List Data) (k s:Nat) (pre:List Int):Nat->Nat:=pre.foldl (zbF w s) (midT w k s)
theorem zh0 {w:List Data}{k s:Nat}:rowT w k s (zaW w (tyS s))=midT w k (s+1):=by
 unfold rowT midT;rw[List.range_succ,List.foldl_append];rfl
theorem zdL {w:List Data}{k s:Nat}{pre:List Int}{c:Int}:rowT w k s (pre++[c])=zbF w s (rowT w k s pre) c:=by
 unfold rowT;rw[List.foldl_append];rfl
theorem zk1 {w:List Data} (hd:Dp w){k s:Nat} (hk:k<=20) (hs:s<=w.length*4){pre:List Int} (hp:pre.length<=4) (i:Nat):rowT w k s pre i<=100000:=by
 have h4:=hd.four;have h1:=zsi (w:=w) (m:=4) hd.ct k;have h2:=zl6 (w:=w) (m:=4) (List.range s) (zbg w k) _ (fun x hx=>hd.ct x (by have:=List.mem_range.1 hx;omega)) h1 (by omega);have h3:=zq7 (w:=w) (s:=s) pre (midT w k s) _ h2 (by omega) i;have e1:k*(w.length*4*4)<=20*(4*4*4):=Nat.mul_le_mul hk (by omega);rw[List.length_range] at h3;show pre.foldl (zbF w s) (midT w k s) i<=100000
 omega
theorem zuY {w:List Data}{s:Nat} (h:s<w.length*4):TyIn w.length (tyS s):= .inr ⟨s / 4,rfl,by omega⟩
theorem zjt {w:List Data}{s:Nat}:zai w (tyS s)=zaW w (tyS s):=by unfold zai;rw[if_neg (zl9 s)]
theorem zrQ (m:Nat):za9 (m+1) [.d (.i 0)]=za9 m [.d (.i 0)]++[AV.d (.i 0)]:=by
 induction m with
 |zero=>rfl
 |succ m ihm=>
  show [AV.d (.i 0)]++za9 (m+1) [.d (.i 0)]=([AV.d (.i 0)]++za9 m [.d (.i 0)])++[AV.d (.i 0)]
  rw[ihm,List.append_assoc]
theorem zpp (n:Nat):za9 n [.d (.i 0)]=tabC n (fun _=>0):=by
 unfold tabC;induction n with
 |zero=>rfl
 |succ n ih=>rw[zrQ,ih,List.range_succ,xaf];rfl
theorem zet {w:List Data}{s:Nat}{f:Nat->Nat}{c:Int} (h:decide ((0:Int)<(most w f (tyS s) c:Int)/\((f s:Int)=0\/(most w f (tyS s) c:Int)<(f s:Int)))=true):zbF w s f c=updF f s (most w f (tyS s) c):=by
 rw[decide_eq_true_eq] at h;unfold zbF;rw[if_pos (by omega)]
theorem zdK {w:List Data}{s:Nat}{f:Nat->Nat}{c:Int} (h:decide ((0:Int)<(most w f (tyS s) c:Int)/\((f s:Int)=0\/(most w f (tyS s) c:Int)<(f s:Int)))=false):zbF w s f c=f:=by
 rw[decide_eq_false_iff_not] at h;unfold zbF;rw[if_neg (by omega)]
theorem zod {w:List Data} (hw:WT w){s:Nat} (hs:s<w.length*4):FnD Tryz.prog 226 [.d (zam w),.agg [.d (.i ((s:Int) / 4)),.d (.i ((s:Int) % 4))]] [] (.d (zcq (zaW w (tyS s)))) []:=by
 rw[<-zjt];exact zb9 hw (zuY hs)
theorem zpx {w:List Data} (hd:Dp w){f:Nat->Nat}{s:Nat}{c:Int} (hs:s<w.length*4) (hc:c∈zaW w (tyS s)) (hb:∀s,f s<=100000):
  FnD Tryz.prog 227 [.d (zam w),.ms 70 (w.length*4),.agg [.d (.i ((s:Int) / 4)),.d (.i ((s:Int) % 4))],.d (.i c)] [(70,some (.box (tabC (w.length*4) f)))] (.d (.i (most w f (tyS s) c))) []:=
 have h4:=hd.four;zoi (a:=(tyS s).data) (k:=(tyS s).index) hd.wt (zuY hs) (by rw[<-zjt] at hc;exact hc) (by omega) hb (fun u hu=>hd.cl s hs c hc u hu)
theorem zh8 {w:List Data} (hd:Dp w):FnD Tryz.prog 130 [.d (zam w)] [] (.d (zeO (w.length*4) (zaf w))) []:=by
 have hw:=hd.wt;have h4:=hd.four;refine bd Tryz.f130 70 [27,29,54,61] [14,999999] fun w0 F0 own kept hk=>?_;refine ar ?_;refine Walk.make (id:=70) (m:=w.length*4) sl29 tz3 rfl (by decide) (zju rfl) .none rfl (congrArg (fun z:Int=>some (AV.d (D.i z))) (by simp:((w.map Data.c).length:Int)*4=((w.length*4:Nat):Int))) (congrArg (fun z:Int=>some (AV.d (D.i z))) (by simp:((w.map Data.c).length:Int)*4=((w.length*4:Nat):Int))) (by omega) (by omega) (by first|rfl|(simp only[zaz,occH,occE,Res.ids,xag,List.nil_append,AV.idsL,AV.ids,zaj,zak,zaq,zaQ,xae,List.map_nil,upC,zaG];rfl)) (by first|rfl|(simp only[zaz,occH,occE,Res.ids,xag,List.nil_append,AV.idsL,AV.ids,zaj,zak,zaq,zaQ,xae,List.map_nil,upC,zaG];rfl)) (by first|rfl|(simp only[zaz,occH,occE,Res.ids,xag,List.nil_append,AV.idsL,AV.ids,zaj,zak,zaq,zaQ,xae,List.map_nil,upC,zaG];rfl)) ?_;refine evs [27,29,54,61] [] ?_;refine xak (ι:=Nat) hk (fun n=>[(4,.d (.i (n:Int)))]) [5,6,7,8,9,14,15,16,17,18,19,20,21,22,23,24,25,26,27,28,29,30,31,32,33,34,35,36,37,38,39,40,41,42,43,44,45,46,47,48,49,50,51,52,53,54,55,56,57,58,59,60,61,62,63,64,65,66,67,68] (fun n=>[(70,some (.box (tabC (w.length*4) (zbg w n))))]) (fun n=>n<=w.length*4+1) (fun n=>w.length*4+1-n) 0 (by simp) ⟨⟨_,rfl,xaq ?_⟩,trivial⟩ ⟨?_,trivial⟩ (fun x=>rfl) (fun n hg1=>?_);focus ((simp;done))
 focus ((show some (Res.box _)=some (Res.box _);rw[zpp];rfl))
 refine evc [27,29,54,61] [14,999999] ?_;refine sq ?_ ?_<;>intro h1 h1p h1s<;>(try simp only[Q] at h1p);refine xak (ι:=Nat) hk (fun s=>[(5,.d (.i (s:Int)))]) [6,7,8,9,20,21,22,23,24,25,26,27,28,29,30,31,32,33,34,35,36,37,38,39,40,41,42,43,44,45,46,47,48,49,50,51,52,53,54,55,56,57,58,59,60,61,62,63,64,65,66,67,68] (fun s=>[(70,some (.box (tabC (w.length*4) (midT w n s))))]) (fun s=>s<=w.length*4) (fun s=>w.length*4-s) 0 (by simp) ⟨⟨_,rfl,xaq ?_⟩,trivial⟩ ⟨?_,trivial⟩ (fun x=>rfl) (fun s hg2=>?_);focus ((simp;done))
 focus (first|rfl|(show some (Res.box _)=some (Res.box _);rw[<-zh0,<-hg3,List.append_nil]))
 refine evc [27,29,54,61] [14,999999] ?_;refine sq ?_ ?_<;>intro h2 h2p h2s<;>(try simp only[Q] at h2p);refine xbe .none rfl rfl rfl (by omega) ?_;refine evs [27,29,54,61] [] ?_;refine xbg .none rfl rfl rfl (by omega) ?_;refine bu [0,1] [_,_] st25 ?_;refine Walk.alloc (id:=3006) tz25 rfl .none rfl (by(simp only[zaz,occH,occE,Res.ids,xag,List.nil_append,AV.idsL,AV.ids,zaj,zak,zaq,zaQ,xae,List.map_nil,upC,zaG];rfl)) (by(simp only[zaz,occH,occE,Res.ids,xag,List.nil_append,AV.idsL,AV.ids,zaj,zak,zaq,zaQ,xae,List.map_nil,upC,zaG];rfl)) (by(simp only[zaz,occH,occE,Res.ids,xag,List.nil_append,AV.idsL,AV.ids,zaj,zak,zaq,zaQ,xae,List.map_nil,upC,zaG];rfl)) ?_;refine so ty25 ?_;refine tv ?_;refine Walk.call (cr:=[]) zgn (zod hw (s:=s) (by omega)) rfl .none rfl rfl (LeL.refl _) trivial rfl (by first|rfl|(simp only[zbd,List.all_cons,List.all_nil,zcg,zbV,AV.idsL,AV.ids,zaj,zak,xae,List.map_nil,zaG];rfl)) (by first|rfl|(simp only[zaz,occH,occE,Res.ids,xag,List.nil_append,AV.idsL,AV.ids,zaj,zak,zaq,zaQ,xae,List.map_nil,upC,zaG];rfl)) ?_;refine evs [27,29,54,61] [] ?_;refine xak (ι:=List (Int)×List (Int)) hk (fun x=>[(8,.d (.i (x.1.length:Int)))]) [9,34,35,36,37,38,39,40,41,42,43,44,45,46,47,48,49,50,51,52,53,54,55,56,57,58,59,60,61,62,63,64,65,66,67,68] (fun x=>[(70,some (.box (tabC (w.length*4) (rowT w n s x.1))))]) (fun x=>x.1++x.2=zaW w (tyS s)) (fun x=>x.2.length) ([],zaW w (tyS s)) (by simp) ⟨⟨_,rfl,xaq ?_⟩,trivial⟩ ⟨?_,trivial⟩ (fun x=>rfl) (fun x hg3=>?_);focus ((simp;done))
 focus (first|rfl|(show some (Res.box _)=some (Res.box _);rw[zdL];first|(rw[zet (by assumption)];done)|(rw[zdK (by assumption)];done)))
 obtain⟨pre,rest⟩:=x;dsimp only at hg3 ⊢;have hct:=hd.ct s (by omega);refine evc [27,29,54,61] [14,999999] ?_;refine sq ?_ ?_<;>intro h3 h3p h3s<;>(try simp only[Q] at h3p);rcases rest with _|⟨c,rest⟩
 ·exfalso;simp_all
 refine xaU sl29 .none rfl rfl rfl rfl (zaL hg3) rfl ?_;refine evd [27,29,54,61] [] ?_;refine Walk.call (cr:=[]) ztK (zpx hd (f:=rowT w n s pre) (s:=s) (c:=c) (by omega) (by rw[<-hg3];simp) (zk1 hd (by omega) (by omega) (by have:=hd.ct s (by omega);have hz:=congrArg List.length hg3;simp at hz;omega))) rfl .none rfl rfl (.cons (.refl _) (.cons (xas (by first|rfl|(simp;done))) (.cons (.refl _) (.cons (.refl _) .nil)))) ⟨rfl,trivial⟩ rfl (by first|rfl|(simp only[zbd,List.all_cons,List.all_nil,zcg,zbV,AV.idsL,AV.ids,zaj,zak,xae,List.map_nil,zaG];rfl)) (by first|rfl|(simp only[zaz,occH,occE,Res.ids,xag,List.nil_append,AV.idsL,AV.ids,zaj,zak,zaq,zaQ,xae,List.map_nil,upC,zaG];rfl)) ?_;refine evd [27,29,54,61] [] ?_;refine dr ?_;refine xal ?_;refine xaz 17 [(64,.d (.bool (decide ((0:Int)<(most w (rowT w n s pre) (tyS s) c:Int)/\((rowT w n s pre s:Int)=0\/(most w (rowT w n s pre) (tyS s) c:Int)<(rowT w n s pre s:Int))))))] [48,49,50,51,52,53,54,55,56,57,58,59,60,61,62,63] ?_ ?_;refine evs [27,29,54,61] [] ?_;refine sq ?_ ?_<;>intro h4 h4p h4s<;>(try simp only[Q] at h4p);refine xaY (i:=s) sl29 (.some rfl rfl h4) rfl rfl rfl rfl (by omega) ?_;refine xa0 ty3 (.some rfl rfl h4) rfl rfl rfl ((zk6 (s:=s) (by omega) (by omega))) ?_;refine evs [27,29,54,61] [(50,true)] ?_ ⟨⟨_,rfl,h4⟩,trivial⟩;refine sq ?_ ?_<;>intro h5 h5p h5s<;>(try simp only[Q] at h5p);exact jnb rfl;refine xaY (i:=s) sl29 (.some rfl rfl h5) rfl rfl rfl rfl (by omega) ?_;refine xa0 ty3 (.some rfl rfl h5) rfl rfl rfl ((zk6 (s:=s) (by omega) (by omega))) ?_;refine evs [27,29,54,61] [(50,true),(56,false)] ?_ ⟨⟨_,rfl,h4⟩,⟨_,rfl,h5⟩,trivial⟩;exact jnb rfl;exact jnb rfl;refine xay ?_;refine tv ?_;refine sq ?_ ?_<;>intro h6 h6p h6s<;>(try simp only[Q] at h6p);refine xaY (i:=s) sl29 .none rfl rfl rfl rfl (by omega) ?_;refine Walk.store ty3 .none rfl rfl rfl rfl rfl rfl (by simp) ((zsG (s:=s) (v:=most w (rowT w n s pre) (tyS s) c) (by omega) (by omega) rfl)) ?_;refine tv ?_;refine ar ?_;refine xah ((pre++[c],rest)) ⟨(by have hz:=hg3;rw[<-hz];simp),(by simp),sx ⟨⟨_,rfl,xaq ?_⟩,trivial⟩ ⟨?_,trivial⟩⟩;focus ((simp;done))
 focus ((show some (Res.box _)=some (Res.box _);rw[zdL];first|(rw[zet (by assumption)];done)|(rw[zdK (by assumption)];done)))
 refine ar ?_;refine xah ((pre++[c],rest)) ⟨(by have hz:=hg3;rw[<-hz];simp),(by simp),sx ⟨⟨_,rfl,xaq ?_⟩,trivial⟩ ⟨?_,trivial⟩⟩;focus ((simp;done))
 focus ((show some (Res.box _)=some (Res.box _);rw[zdL];first|(rw[zet (by assumption)];done)|(rw[zdK (by assumption)];done)))
 have hrest:rest=[]:=by
  rcases rest with _|⟨a,b⟩
  ·rfl
  ·exfalso;have hz:=congrArg List.length (hg3);simp only[xaa,xab,xac] at hz;omega
 subst hrest;refine ar ?_;refine xah (s+1) ⟨(by omega),(by omega),sx ⟨⟨_,rfl,xaq ?_⟩,trivial⟩ ⟨?_,trivial⟩⟩;focus ((simp;done))
 focus ((show some (Res.box _)=some (Res.box _);rw[<-zh0,<-hg3,List.append_nil]))
 refine ar ?_;refine xah (n+1) ⟨(by omega),(by omega),sx ⟨⟨_,rfl,xaq ?_⟩,trivial⟩ ⟨?_,trivial⟩⟩;focus ((simp;done))
 focus (first|(show some (Res.box _)=some (Res.box _);rw[zpp];rfl)|(have e:s=w.length*4:=(by omega);rw[e];rfl))
 refine CWp.frz hk 2 70 _ _ rfl rfl zt5 rfl ?_;refine CWp.ret ?_;refine rq ?_;rotate_left;all_goals ((have e:n=w.length*4+1:=(by omega);rw[e];rfl))
end Go.Proofs.YtlfipehhbdjnjaaGreat
namespace Go.Proofs.YtlfipehhbdjnjaaGreat
open Go
set_option linter.unusedSimpArgs false
set_option linter.unusedVariables false
set_option maxRecDepth 100000
set_option maxHeartbeats 4000000
theorem zfv {p:Pat}{b1 b2 b3:Bool}{k:Int}:FnD Tryz.prog 305 [.agg [.d (.i p.op),.d (.i p.ctor),.d (.i p.n),.d (.i p.m),.d (.i p.var),.d (zad p.kids)],.d (.bool b1),.d (.bool b2),.d (.bool b3),.d (.i k)] []
  (.d (.bool (decide ((b1=true\/p.ctor=0)/\(b2=true\/p.n=0/\p.m=0)/\(b3=true\/p.var=0)/\(p.kids.length:Int)=k)))) []:=by
 refine bd Tryz.f305 45 [] [1] fun w0 F0 own kept hk=>?_;refine bx 3005 ?_;refine ev ?_;refine xal ?_;refine xaz 6 [(16,.d (.bool (decide (b1=true\/p.ctor=0))))] [11,12,13,14,15] ?_ ?_;refine ev ?_;refine sq ?_ ?_<;>intro h1 h1p h1s;focus (exact jn rfl (xap (by(first|rfl|(rw[Bool.eq_iff_iff];simp_all[Pat.cs_len];done)))))
 focus (exact jn rfl (xap (by(first|rfl|(rw[Bool.eq_iff_iff];simp_all[Pat.cs_len];done)))))
 refine xaz 13 [(29,.d (.bool (decide ((b1=true\/p.ctor=0)/\(b2=true\/p.n=0/\p.m=0)))))] [17,18,19,20,21,22,23,24,25,26,27,28] ?_ ?_;refine ev ?_;refine sq ?_ ?_<;>intro h2 h2p h2s;refine sq ?_ ?_<;>intro h3 h3p h3s;focus (exact jn rfl (xap (by(first|rfl|(rw[Bool.eq_iff_iff];simp_all[Pat.cs_len];done)))))
 refine sq ?_ ?_<;>intro h4 h4p h4s;focus (exact jn rfl (xap (by(first|rfl|(rw[Bool.eq_iff_iff];simp_all[Pat.cs_len];done)))))
 focus (exact jn rfl (xap (by(first|rfl|(rw[Bool.eq_iff_iff];simp_all[Pat.cs_len];done)))))
 focus (exact jn rfl (xap (by(first|rfl|(rw[Bool.eq_iff_iff];simp_all[Pat.cs_len];done)))))
 refine xaz 8 [(37,.d (.bool (decide ((b1=true\/p.ctor=0)/\(b2=true\/p.n=0/\p.m=0)/\(b3=true\/p.var=0)))))] [30,31,32,33,34,35,36] ?_ ?_;refine ev ?_;refine sq ?_ ?_<;>intro h5 h5p h5s;refine sq ?_ ?_<;>intro h6 h6p h6s;focus (exact jn rfl (xap (by(first|rfl|(rw[Bool.eq_iff_iff];simp_all[Pat.cs_len];done)))))
 focus (exact jn rfl (xap (by(first|rfl|(rw[Bool.eq_iff_iff];simp_all[Pat.cs_len];done)))))
 focus (exact jn rfl (xap (by(first|rfl|(rw[Bool.eq_iff_iff];simp_all[Pat.cs_len];done)))))
 refine xaz 7 [(44,.d (.bool (decide ((b1=true\/p.ctor=0)/\(b2=true\/p.n=0/\p.m=0)/\(b3=true\/p.var=0)/\(p.kids.length:Int)=k))))] [38,39,40,41,42,43] ?_ ?_;refine ev ?_;refine sq ?_ ?_<;>intro h7 h7p h7s;focus (exact jn rfl (xap (by(first|rfl|(rw[Bool.eq_iff_iff];simp_all[Pat.cs_len];done)))))
 focus (exact jn rfl (xap (by(first|rfl|(rw[Bool.eq_iff_iff];simp_all[Pat.cs_len];done)))))
 refine xay ?_;refine ev ?_;refine rq ?_;rotate_left;all_goals (rfl)
theorem zgf {p:Pat}{k:Int}:FnD Tryz.prog 305 [.agg [.d (.i p.op),.d (.i p.ctor),.d (.i p.n),.d (.i p.m),.d (.i p.var),.d (zad p.kids)],.d (.bool false),.d (.bool false),.d (.bool false),.d (.i k)] []
  (.d (.bool (decide (p.ctor=0/\(p.n=0/\p.m=0)/\p.var=0/\(p.kids.length:Int)=k)))) []:=by
 have:=zfv (p:=p) (b1:=false) (b2:=false) (b3:=false) (k:=k);simpa only[Bool.false_eq_true,false_or] using this
theorem zgg {p:Pat}{k:Int}:FnD Tryz.prog 305 [.agg [.d (.i p.op),.d (.i p.ctor),.d (.i p.n),.d (.i p.m),.d (.i p.var),.d (zad p.kids)],.d (.bool false),.d (.bool false),.d (.bool true),.d (.i k)] []
  (.d (.bool (decide (p.ctor=0/\(p.n=0/\p.m=0)/\(p.kids.length:Int)=k)))) []:=by
 have:=zfv (p:=p) (b1:=false) (b2:=false) (b3:=true) (k:=k);simpa only[Bool.false_eq_true,false_or,true_or,true_and] using this
theorem zln {p:Pat}{k:Int}:FnD Tryz.prog 305 [.agg [.d (.i p.op),.d (.i p.ctor),.d (.i p.n),.d (.i p.m),.d (.i p.var),.d (zad p.kids)],.d (.bool false),.d (.bool true),.d (.bool false),.d (.i k)] []
  (.d (.bool (decide (p.ctor=0/\p.var=0/\(p.kids.length:Int)=k)))) []:=by
 have:=zfv (p:=p) (b1:=false) (b2:=true) (b3:=false) (k:=k);simpa only[Bool.false_eq_true,false_or,true_or,true_and] using this
theorem zrF {p:Pat}{k:Int}:FnD Tryz.prog 305 [.agg [.d (.i p.op),.d (.i p.ctor),.d (.i p.n),.d (.i p.m),.d (.i p.var),.d (zad p.kids)],.d (.bool true),.d (.bool false),.d (.bool false),.d (.i k)] []
  (.d (.bool (decide ((p.n=0/\p.m=0)/\p.var=0/\(p.kids.length:Int)=k)))) []:=by
 have:=zfv (p:=p) (b1:=true) (b2:=false) (b3:=false) (k:=k);simpa only[Bool.false_eq_true,false_or,true_or,true_and] using this
theorem zeS {v:Int}:FnD Tryz.prog 270 [.d (.i v)] [] (.d (.bool (zav v 0 5))) []:=by
 refine bd Tryz.f270 5 [] [] fun w0 F0 own kept hk=>?_;refine wc zej (zbt) rfl rfl ?_;refine ev ?_;refine rq ?_;rotate_left;all_goals (rfl)
theorem zdC {w:List Data} (hw:WT w){a k:Int} (ht:TyIn w.length ⟨a,k⟩):FnD Tryz.prog 234 [.d (zam w),.agg [.d (.i a),.d (.i k)]] [] (.d (zcq (zai w ⟨a,k⟩))) []:=by
 rcases ht with ha|⟨d,hd,hlt⟩
 ·simp only at ha;subst ha;rw[zhd];exact zjI
 ·simp only at hd;subst hd;rw[zii];exact zee hw hlt
theorem zbE {w:List Data} (hw:WT w){a k c:Int} (ht:TyIn w.length ⟨a,k⟩) (hc:c∈zai w ⟨a,k⟩):FnD Tryz.prog 144 [.d (zam w),.agg [.d (.i a),.d (.i k)],.d (.i c)] [] (.d (zcm (zaa w ⟨a,k⟩ c))) []:=by
 obtain⟨d,rfl,h1,h2⟩:=zcS ht hc;exact zeW hw h1 h2
theorem zjB {w:List Data} (hw:WT w){a k:Int}{p:Pat} (ht:TyIn w.length ⟨a,k⟩):
  FnD Tryz.prog 236 [.d (zam w),.agg [.d (.i a),.d (.i k)],.agg [.d (.i p.op),.d (.i p.ctor),.d (.i p.n),.d (.i p.m),.d (.i p.var),.d (zad p.kids)]] [] (.tup [.d (zcm (zco w ⟨a,k⟩ p)),.d (.bool (okP w ⟨a,k⟩ p))]) []:=by
 have hcl:=zfM hw ht;have ty4:p.op=4->p.ctor∉zai w ⟨a,k⟩->zco w ⟨a,k⟩ p=[]:=fun h4 hm=>by unfold zco;rw[if_pos ⟨h4,hm⟩]
 have ty4':p.op=4->p.ctor∈zai w ⟨a,k⟩->zco w ⟨a,k⟩ p=zaa w ⟨a,k⟩ p.ctor:=fun h4 hm=>by unfold zco zac;rw[if_neg (fun h=>h.2 hm),if_pos h4]
 have ty5:p.op=5->zco w ⟨a,k⟩ p=[⟨a,k⟩,⟨a,k⟩]:=fun h5=>by unfold zco zac;rw[if_neg (by omega),if_neg (by omega),if_pos h5]
 have ty6:p.op=6->zco w ⟨a,k⟩ p=[⟨a,k⟩]:=fun h6=>by unfold zco zac;rw[if_neg (by omega),if_neg (by omega),if_neg (by omega),if_pos h6]
 have ty0:¬p.op=4->¬p.op=5->¬p.op=6->zco w ⟨a,k⟩ p=[]:=fun h4 h5 h6=>by unfold zco zac;rw[if_neg (fun h=>h4 h.1),if_neg h4,if_neg h5,if_neg h6]
 have ln4:p.op=4->(zac w ⟨a,k⟩ p).length=(zaa w ⟨a,k⟩ p.ctor).length:=fun h4=>by unfold zac;rw[if_pos h4]
 have ln5:p.op=5->(zac w ⟨a,k⟩ p).length=2:=fun h5=>by unfold zac;rw[if_neg (by omega),if_pos h5];rfl
 have ln6:p.op=6->(zac w ⟨a,k⟩ p).length=1:=fun h6=>by unfold zac;rw[if_neg (by omega),if_neg (by omega),if_pos h6];rfl
 have ln0:¬p.op=4->¬p.op=5->¬p.op=6->(zac w ⟨a,k⟩ p).length=0:=fun h4 h5 h6=>by unfold zac;rw[if_neg h4,if_neg h5,if_neg h6];rfl
 have okI:∀b:Bool,(b=true↔((((p.op=2\/p.op=6)->0<=p.var/\p.var<=5)/\(¬(p.op=2\/p.op=6)->p.var=0)/\(p.op≠3->p.n=0/\p.m=0)/\(p.op≠4->p.ctor=0)/\
   (p.op=1\/p.op=2\/p.op=5\/p.op=6\/(p.op=3/\a = -1/\0<=p.n/\p.n<=p.m/\p.m<=9)\/(p.op=4/\p.ctor∈zai w ⟨a,k⟩)))/\p.kids.length=(zac w ⟨a,k⟩ p).length))->b=okP w ⟨a,k⟩ p:=fun b h=>by
  rw[Bool.eq_iff_iff,h];unfold okP ownP;simp only[xad,decide_eq_true_eq]
 by_cases hmem:p.ctor∈zai w ⟨a,k⟩
 ·have hargs:=zbE hw ht hmem;have hal:(zaa w ⟨a,k⟩ p.ctor).length<=1000000000000:=by
   obtain⟨d,rfl,h1,h2⟩:=zcS ht hmem;exact zgT hw h1 h2
  simp only[hmem,and_true] at okI;refine bd Tryz.f236 87 [] [5] fun w0 F0 own kept hk=>?_;refine bx 3004 ?_;refine bx 3005 ?_;refine ev ?_;refine sq ?_ ?_<;>intro h1 h1p h1s<;>(try simp only[Q] at h1p);refine wc zem (zgf) rfl rfl ?_;refine ev ?_;refine rn0 (r2 rfl rfl) (.tup (.cons (.nild ?_) (.cons (.eqd ?_) .nil)));rotate_left 2;refine sq ?_ ?_<;>intro h2 h2p h2s<;>(try simp only[Q] at h2p);refine xal ?_;refine xaz 7 [(23,.d (.bool (decide ((p.ctor=0/\(p.n=0/\p.m=0)/\(p.kids.length:Int)=0)/\0<=p.var/\p.var<=5))))] [17,18,19,20,21,22] ?_ ?_;refine ev ?_;refine wc zem (zgg) rfl rfl ?_;refine ev ?_;refine sq ?_ ?_<;>intro h3 h3p h3s<;>(try simp only[Q] at h3p);refine Walk.call (cr:=[]) zmn (zeS) rfl (.some rfl rfl h3) rfl rfl (LeL.refl _) trivial rfl rfl rfl ?_;refine evs [] [(19,true)] ?_ ⟨⟨_,rfl,h3⟩,trivial⟩;exact jn rfl (xap (by(rw[Bool.eq_iff_iff];simp only[decide_eq_true_eq,zav,xad,Bool.false_eq_true,false_iff,true_iff];omega)));exact jn rfl (xap (by(rw[Bool.eq_iff_iff];simp only[decide_eq_true_eq,zav,xad,Bool.false_eq_true,false_iff,true_iff];omega)));refine xay ?_;refine ev ?_;refine rn0 (r2 rfl rfl) (.tup (.cons (.nild ?_) (.cons (.eqd ?_) .nil)));rotate_left 2;refine sq ?_ ?_<;>intro h4 h4p h4s<;>(try simp only[Q] at h4p);refine sq ?_ ?_<;>intro h5 h5p h5s<;>(try simp only[Q] at h5p);refine Walk.call (cr:=[]) zem (zln) rfl (.some rfl rfl h5) rfl rfl (LeL.refl _) trivial rfl rfl rfl ?_;refine evd [] [(29,true)] ?_ ⟨⟨_,rfl,h5⟩,trivial⟩;refine sq ?_ ?_<;>intro h6 h6p h6s<;>(try simp only[Q] at h6p);refine sq ?_ ?_<;>intro h7 h7p h7s<;>(try simp only[Q] at h7p);refine sq ?_ ?_<;>intro h8 h8p h8s<;>(try simp only[Q] at h8p);refine dr ?_;refine rn0 (r2 rfl rfl) (.tup (.cons (.nild ?_) (.cons (.eqd ?_) .nil)));rotate_left 2;refine dr ?_;refine rn0 (r2 rfl rfl) (.tup (.cons (.nild ?_) (.cons (.eqd ?_) .nil)));rotate_left 2;refine sqF ?_;refine dr ?_;refine rn0 (r2 rfl rfl) (.tup (.cons (.nild ?_) (.cons (.eqd ?_) .nil)));rotate_left 2;refine sqF ?_;refine sqF ?_;refine dr ?_;refine rn0 (r2 rfl rfl) (.tup (.cons (.nild ?_) (.cons (.eqd ?_) .nil)));rotate_left 2;refine sqF ?_;refine sqF ?_;refine sqF ?_;refine dr ?_;refine rn0 (r2 rfl rfl) (.tup (.cons (.nild ?_) (.cons (.eqd ?_) .nil)));rotate_left 2;refine sq ?_ ?_<;>intro h9 h9p h9s<;>(try simp only[Q] at h9p);refine wc zgo (zdC hw ht) rfl rfl ?_;refine evd [] [] ?_;refine wc zjW (zb3 hcl) rfl rfl ?_;refine evd [] [] ?_;refine dr ?_;refine sq ?_ ?_<;>intro h10 h10p h10s<;>(try simp only[Q] at h10p);exfalso;simp_all;refine wc zek (hargs) rfl rfl ?_;refine ev ?_;refine wc zem (zrF) rfl rfl ?_;refine ev ?_;refine rn0 (r2 rfl rfl) (.tup (.cons (.eqd ?_) (.cons (.eqd ?_) .nil)));rotate_left 2;refine sq ?_ ?_<;>intro h11 h11p h11s<;>(try simp only[Q] at h11p);refine si [0,1] [_,_] zaV tz25 ?_;refine evd [] [] ?_;refine wc zem (zgf) rfl rfl ?_;refine evd [] [] ?_;refine dr ?_;refine rn0 (r2 rfl rfl) (.tup (.cons (.eqd ?_) (.cons (.eqd ?_) .nil)));rotate_left 2;refine sq ?_ ?_<;>intro h12 h12p h12s<;>(try simp only[Q] at h12p);refine si [0] [_] zaV tz25 ?_;refine evd [] [] ?_;refine wc zem (zgg) rfl rfl ?_;refine evd [] [] ?_;refine sq ?_ ?_<;>intro h13 h13p h13s<;>(try simp only[Q] at h13p);refine Walk.call (cr:=[]) zmn (zeS) rfl (.some rfl rfl h13) rfl rfl (LeL.refl _) trivial rfl rfl rfl ?_;refine evd [] [(82,true)] ?_ ⟨⟨_,rfl,h13⟩,trivial⟩;refine dr ?_;refine rn0 (r2 rfl rfl) (.tup (.cons (.eqd ?_) (.cons (.eqd ?_) .nil)));rotate_left 2;refine dr ?_;refine rn0 (r2 rfl rfl) (.tup (.cons (.eqd ?_) (.cons (.eqd ?_) .nil)));rotate_left 2;refine rn0 (r2 rfl rfl) (.tup (.cons (.nild ?_) (.cons (.eqd ?_) .nil)));rotate_left 2;all_goals (first|(refine congrArg D.bool (okI _ ?_);(try simp only[decide_eq_true_eq,Bool.false_eq_true,zav,xad,xac,true_iff,false_iff]);omega)|(rw[ty0 (by omega) (by omega) (by omega)];first|done|rfl)|(rw[ty5 (by omega)];first|done|rfl)|(rw[ty6 (by omega)];first|done|rfl)|(rw[ty4' (by omega) hmem];first|done|rfl))
 ·simp only[hmem,and_false,or_false] at okI;refine bd Tryz.f236 87 [] [5] fun w0 F0 own kept hk=>?_;refine bx 3004 ?_;refine bx 3005 ?_;refine ev ?_;refine sq ?_ ?_<;>intro h1 h1p h1s<;>(try simp only[Q] at h1p);refine wc zem (zgf) rfl rfl ?_;refine ev ?_;refine rn0 (r2 rfl rfl) (.tup (.cons (.nild ?_) (.cons (.eqd ?_) .nil)));rotate_left 2;refine sq ?_ ?_<;>intro h2 h2p h2s<;>(try simp only[Q] at h2p);refine xal ?_;refine xaz 7 [(23,.d (.bool (decide ((p.ctor=0/\(p.n=0/\p.m=0)/\(p.kids.length:Int)=0)/\0<=p.var/\p.var<=5))))] [17,18,19,20,21,22] ?_ ?_;refine ev ?_;refine wc zem (zgg) rfl rfl ?_;refine ev ?_;refine sq ?_ ?_<;>intro h3 h3p h3s<;>(try simp only[Q] at h3p);refine Walk.call (cr:=[]) zmn (zeS) rfl (.some rfl rfl h3) rfl rfl (LeL.refl _) trivial rfl rfl rfl ?_;refine evs [] [(19,true)] ?_ ⟨⟨_,rfl,h3⟩,trivial⟩;exact jn rfl (xap (by(rw[Bool.eq_iff_iff];simp only[decide_eq_true_eq,zav,xad,Bool.false_eq_true,false_iff,true_iff];omega)));exact jn rfl (xap (by(rw[Bool.eq_iff_iff];simp only[decide_eq_true_eq,zav,xad,Bool.false_eq_true,false_iff,true_iff];omega)));refine xay ?_;refine ev ?_;refine rn0 (r2 rfl rfl) (.tup (.cons (.nild ?_) (.cons (.eqd ?_) .nil)));rotate_left 2;refine sq ?_ ?_<;>intro h4 h4p h4s<;>(try simp only[Q] at h4p);refine sq ?_ ?_<;>intro h5 h5p h5s<;>(try simp only[Q] at h5p);refine Walk.call (cr:=[]) zem (zln) rfl (.some rfl rfl h5) rfl rfl (LeL.refl _) trivial rfl rfl rfl ?_;refine evd [] [(29,true)] ?_ ⟨⟨_,rfl,h5⟩,trivial⟩;refine sq ?_ ?_<;>intro h6 h6p h6s<;>(try simp only[Q] at h6p);refine sq ?_ ?_<;>intro h7 h7p h7s<;>(try simp only[Q] at h7p);refine sq ?_ ?_<;>intro h8 h8p h8s<;>(try simp only[Q] at h8p);refine dr ?_;refine rn0 (r2 rfl rfl) (.tup (.cons (.nild ?_) (.cons (.eqd ?_) .nil)));rotate_left 2;refine dr ?_;refine rn0 (r2 rfl rfl) (.tup (.cons (.nild ?_) (.cons (.eqd ?_) .nil)));rotate_left 2;refine sqF ?_;refine dr ?_;refine rn0 (r2 rfl rfl) (.tup (.cons (.nild ?_) (.cons (.eqd ?_) .nil)));rotate_left 2;refine sqF ?_;refine sqF ?_;refine dr ?_;refine rn0 (r2 rfl rfl) (.tup (.cons (.nild ?_) (.cons (.eqd ?_) .nil)));rotate_left 2;refine sqF ?_;refine sqF ?_;refine sqF ?_;refine dr ?_;refine rn0 (r2 rfl rfl) (.tup (.cons (.nild ?_) (.cons (.eqd ?_) .nil)));rotate_left 2;refine sq ?_ ?_<;>intro h9 h9p h9s<;>(try simp only[Q] at h9p);refine wc zgo (zdC hw ht) rfl rfl ?_;refine evd [] [] ?_;refine wc zjW (zb3 hcl) rfl rfl ?_;refine evd [] [] ?_;refine dr ?_;refine sq ?_ ?_<;>intro h10 h10p h10s<;>(try simp only[Q] at h10p);refine rn0 (r2 rfl rfl) (.tup (.cons (.nild ?_) (.cons (.eqd ?_) .nil)));rotate_left 2;exfalso;simp_all;refine sq ?_ ?_<;>intro h11 h11p h11s<;>(try simp only[Q] at h11p);refine si [0,1] [_,_] zaV tz25 ?_;refine evd [] [] ?_;refine wc zem (zgf) rfl rfl ?_;refine evd [] [] ?_;refine dr ?_;refine rn0 (r2 rfl rfl) (.tup (.cons (.eqd ?_) (.cons (.eqd ?_) .nil)));rotate_left 2;refine sq ?_ ?_<;>intro h12 h12p h12s<;>(try simp only[Q] at h12p);refine si [0] [_] zaV tz25 ?_;refine evd [] [] ?_;refine wc zem (zgg) rfl rfl ?_;refine evd [] [] ?_;refine sq ?_ ?_<;>intro h13 h13p h13s<;>(try simp only[Q] at h13p);refine Walk.call (cr:=[]) zmn (zeS) rfl (.some rfl rfl h13) rfl rfl (LeL.refl _) trivial rfl rfl rfl ?_;refine evd [] [(82,true)] ?_ ⟨⟨_,rfl,h13⟩,trivial⟩;refine dr ?_;refine rn0 (r2 rfl rfl) (.tup (.cons (.eqd ?_) (.cons (.eqd ?_) .nil)));rotate_left 2;refine dr ?_;refine rn0 (r2 rfl rfl) (.tup (.cons (.eqd ?_) (.cons (.eqd ?_) .nil)));rotate_left 2;refine rn0 (r2 rfl rfl) (.tup (.cons (.nild ?_) (.cons (.eqd ?_) .nil)));rotate_left 2;all_goals (first|(refine congrArg D.bool (okI _ ?_);(try simp only[decide_eq_true_eq,Bool.false_eq_true,zav,xad,xac,true_iff,false_iff]);omega)|(rw[ty0 (by omega) (by omega) (by omega)];first|done|rfl)|(rw[ty5 (by omega)];first|done|rfl)|(rw[ty6 (by omega)];first|done|rfl)|(rw[ty4 (by omega) hmem];first|done|rfl))
theorem zu6 {t u:Vt}:t=u↔t.var=u.var/\t.ty.data=u.ty.data/\t.ty.index=u.ty.index:=by
 rcases t with ⟨a,b,c⟩;rcases u with ⟨d,e,f⟩;simp
def zs3 (l:List Vt) (v:Vt):Int:=idxF (fun x=>decide (v=x)) l 0
theorem zkC {l:List Vt}{v:Vt} (h:l.length<=1000000000000):FnD Tryz.prog 350 [.d (zdB l),.agg [.d (.i v.var),.d (.i v.ty.data),.d (.i v.ty.index)]] [] (.d (.i (zs3 l v))) []:=by
 refine bd Tryz.f350 19 [16] [] fun w0 F0 own kept hk=>?_;refine bx 3003 ?_;refine evs [16] [] ?_;refine xak (ι:=List (Vt)×List (Vt)) hk (fun x=>[(8,.d (.i (x.1.length:Int)))]) [4,5,9,10,11,12,13,14,15,16,17,18] (fun x=>[]) (fun x=>x.1++x.2=l/\idxF (fun x=>decide (v=x)) x.2 x.1.length=idxF (fun x=>decide (v=x)) l 0) (fun x=>x.2.length) ([],l) ⟨by simp,rfl⟩ ⟨⟨_,rfl,xaq ?_⟩,trivial⟩ trivial (fun x=>rfl) (fun x hg1=>?_);focus (first|rfl|omega)
 obtain⟨pre,rest⟩:=x;dsimp only at hg1 ⊢;refine evc [16] [] ?_;refine sq ?_ ?_<;>intro h1 h1p h1s<;>(try simp only[Q] at h1p);rcases rest with _|⟨y,rest⟩
 ·exfalso;simp_all
 refine xaU zd0 .none rfl rfl rfl rfl (zaL hg1.1) rfl ?_;refine evd [16] [] ?_;refine Walk.eqV2 zyj .none rfl rfl rfl rfl rfl ?_;refine dr ?_;refine sq ?_ ?_<;>intro h2 h2p h2s<;>(try simp only[Q] at h2p);refine rq ?_;rotate_left;refine ar ?_;refine xah ((pre++[y],rest)) ⟨⟨(by have hz:=hg1.1;rw[<-hz];simp),(by rw[<-hg1.2];simp[idxF];simp_all[zu6])⟩,(by simp),sx ⟨⟨_,rfl,xaq ?_⟩,trivial⟩ trivial⟩;focus (first|rfl|(simp;done)|omega)
 have hrest:rest=[]:=by
  rcases rest with _|⟨a,b⟩
  ·rfl
  ·exfalso;have hz:=congrArg List.length (hg1.1);simp only[xaa,xab,xac] at hz;omega
 subst hrest;refine rq ?_;rotate_left;all_goals (unfold zs3;rw[<-hg1.2];simp_all[idxF,zu6])
theorem ziJ {l:List Vt}{v:Vt} (h:l.length<=1000000000000):FnD Tryz.prog 294 [.d (zdB l),.agg [.d (.i v.var),.d (.i v.ty.data),.d (.i v.ty.index)]] [] (.d (.bool (decide (v∈l)))) []:=by
 refine bd Tryz.f294 9 [] [] fun w0 F0 own kept hk=>?_;refine bx 3003 ?_;refine ev ?_;refine wc zxP (zkC h) rfl rfl ?_;refine ev ?_;refine rq ?_;rotate_left;all_goals (refine congrArg D.bool ?_;rw[show zs3 l v=idxF (fun x=>decide (v=x)) l 0 from rfl,zfT];simp[List.any_eq,eq_comm])
theorem zir {xs:List Vt}{f:Nat}{caps:List AV}{hp:Hp}{p:Vt->Bool} (hs:xs.length<=1000000000000) (hcal:Callee Tryz.prog f)
  (hf:∀t∈xs,FnD Tryz.prog f ([.agg [.d (.i t.var),.d (.i t.ty.data),.d (.i t.ty.index)]]++caps) hp (.d (.bool (p t))) []) (k1:subH hp hp) (k2:zeE hp=true) (k3:zbd hp [] (.d .nilp) []=true):
  FnD Tryz.prog 388 [.d (zdB xs),.fn f caps] hp (.d (.i (idxF p xs 0))) []:=by
 refine bd Tryz.f388 19 [] [] fun w0 F0 own kept hk=>?_;refine xak (ι:=List (Vt)×List (Vt)) hk (fun x=>[(8,.d (.i (x.1.length:Int)))]) [4,5,9,10,11,12,13,14,15,16,17,18] (fun x=>[]) (fun x=>x.1++x.2=xs/\idxF p x.2 x.1.length=idxF p xs 0) (fun x=>x.2.length) ([],xs) ⟨by simp,rfl⟩ ⟨⟨_,rfl,xaq ?_⟩,trivial⟩ trivial (fun x=>ziX hp) (fun x hg1=>?_);focus (first|rfl|omega)
 obtain⟨pre,rest⟩:=x;dsimp only at hg1 ⊢;refine evc [] [] ?_;refine sq ?_ ?_<;>intro h1 h1p h1s<;>(try simp only[Q] at h1p);rcases rest with _|⟨y,rest⟩
 ·exfalso;simp_all
 refine xaU zd0 .none rfl rfl rfl rfl (zaL hg1.1) rfl ?_;refine ev ?_;refine xaH (cr:=[]) hcal (hf y (by rw[<-hg1.1];simp)) rfl .none rfl rfl rfl (LeL.refl _) k1 k2 (zdV k3 _) rfl ?_;refine tv ?_;refine sq ?_ ?_<;>intro h2 h2p h2s<;>(try simp only[Q] at h2p);focus (refine rn [] (r1 rfl) (.eqd ?_) ⟨rfl,rfl⟩ (fun _ _ h=>h) (fun _ h=>h);all_goals (rw[<-hg1.2];simp[idxF,h1s,h1p,h2s,h2p]))
 refine ar ?_;refine xah ((pre++[y],rest)) ⟨⟨(by have hz:=hg1.1;rw[<-hz];simp),(by rw[<-hg1.2];simp[idxF,h2s])⟩,(by simp),Sub.x (by kernel_rfl) (by kernel_rfl) ⟨⟨_,rfl,xaq ?_⟩,trivial⟩ (by simp) (by simp[zd4]) trivial⟩;focus (first|rfl|(simp;done)|omega)
 have hrest:rest=[]:=by
  rcases rest with _|⟨a,b⟩
  ·rfl
  ·exfalso;have hz:=congrArg List.length (hg1.1);simp only[xaa,xab,xac] at hz;omega
 subst hrest;focus (refine rn [] (r1 rfl) (.eqd ?_) ⟨rfl,rfl⟩ (fun _ _ h=>h) (fun _ h=>h);all_goals (rw[<-hg1.2];simp[idxF,h1s,h1p]))
theorem zg5 {xs:List Vt}{f:Nat}{caps:List AV}{hp:Hp}{p:Vt->Bool} (hs:xs.length<=1000000000000) (hcal:Callee Tryz.prog f)
  (hf:∀t∈xs,FnD Tryz.prog f ([.agg [.d (.i t.var),.d (.i t.ty.data),.d (.i t.ty.index)]]++caps) hp (.d (.bool (p t))) []) (k1:subH hp hp) (k2:zeE hp=true) (k3:zbd hp [] (.d .nilp) []=true):
  FnD Tryz.prog 375 [.d (zdB xs),.fn f caps] hp (.d (.bool (xs.any p))) []:=by
 refine bd Tryz.f375 9 [] [] fun w0 F0 own kept hk=>?_;refine Walk.call (cr:=[]) zxV (zir hs hcal hf k1 k2 k3) rfl .none rfl rfl (LeL.refl _) k1 k2 (zdV k3 _) rfl ?_;refine ev ?_;refine rn [] (r1 rfl) (.eqd ?_) ⟨rfl,rfl⟩ (fun _ _ h=>h) (fun _ h=>h);rotate_left;all_goals (exact congrArg D.bool (zfT p xs 0))
theorem zkf {b:List Vt}{v:Vt} (h:b.length<=1000000000000):FnD Tryz.prog 376 [.agg [.d (.i v.var),.d (.i v.ty.data),.d (.i v.ty.index)],.ref 3003 0] [(3003,some (.box [.d (zdB b)]))] (.d (.bool (!decide (v∈b)))) []:=by
 refine bd Tryz.f376 8 [] [] fun w0 F0 own kept hk=>?_;refine bx 3001 ?_;refine ev ?_;refine wc zxB (ziJ h) rfl rfl ?_;refine ev ?_;refine rn [] (r1 rfl) (.eqd ?_) ⟨rfl,rfl⟩ (SubH.get ⟨rfl,trivial⟩) (fun _ h=>h);rotate_left;all_goals (rfl)
theorem zhw {x y:List Vt} (hx:x.length<=1000000000000) (hy:y.length<=1000000000000):FnD Tryz.prog 349 [.d (zdB x),.d (zdB y)] [] (.d (.bool (zd6 x y))) []:=by
 refine bd Tryz.f349 16 [] [] fun w0 F0 own kept hk=>?_;refine bx 3003 ?_;refine ev ?_;refine sq ?_ ?_<;>intro h1 h1p h1s;refine xaJ (xs:=[_]) rfl (.some rfl rfl h1) rfl rfl ?_;refine Walk.call (cr:=[]) zxS (zg5 (p:=fun v=> !decide (v∈y)) hx zxT (fun t _=>zkf hy) ⟨rfl,trivial⟩ rfl rfl) rfl (.some rfl rfl h1) rfl rfl (LeL.refl _) ⟨rfl,trivial⟩ rfl rfl rfl ?_;refine evs [] [(10,true)] ?_ ⟨⟨_,rfl,h1⟩,trivial⟩;refine rq ?_;rotate_left;refine rq ?_;rotate_left;all_goals (refine congrArg D.bool ?_;unfold zd6;first|(simp_all;done)|(simp_all;intro hz;omega))
def metA (s:List Int):List AV:=(List.range 6).map fun(i:Nat)=> .d (.bool (decide ((i:Int)∈s)))
theorem zqK {s:List Int}{v:Int} (h0:0<=v) (h1:v<=5):(metA s)[v.toNat]?=some (.d (.bool (decide (v∈s)))):=by
 unfold metA;rw[List.getElem?_map,List.getElem?_range (by omega)];simp only[Option.map_some];rw[Int.toNat_of_nonneg h0]
theorem zqL {s:List Int}{v:Int} (h0:0<=v) (h1:v<=5):putC (metA s) v.toNat [.d (.bool true)]=some (metA (s++[v])):=by
 have e:v=0\/v=1\/v=2\/v=3\/v=4\/v=5:=by omega
 rcases e with rfl|rfl|rfl|rfl|rfl|rfl<;>simp[metA,putC,List.range_succ]
theorem zuv (t:Ty) (p:Pat):(zaS t p).length<=1:=by unfold zaS;split<;>simp
theorem zkn:∀ {a b:List Int},a.Nodup->(∀x∈a,x∈b)->a.length<=b.length
 | [],b,_,_=>by simp
 |x::r,b,hn,hs=>by
  have hn':=List.nodup_cons.1 hn;have hx:=hs x (by simp);have h:=zkn (a:=r) (b:=b.erase x) hn'.2 (fun y hy=>by
   have hne:y≠x:=fun e=>hn'.1 (e ▸ hy);exact(List.mem_erase_of_ne hne).2 (hs y (by simp[hy])))
  rw[List.length_erase_of_mem hx] at h;have:=List.length_pos_of_mem hx;simp only[xab];omega
def InR (l:List Vt):Prop:=∀v∈l,0<=v.var/\v.var<=5
theorem zo3 {l:List Vt} (h:InR l) (hn:zcz l=true):l.length<=6:=by
 unfold zcz at hn;have h1:=of_decide_eq_true hn;have h2:∀x∈l.map Vt.var,x∈[(0:Int),1,2,3,4,5]:=fun x hx=>by
  obtain⟨v,hv,rfl⟩:=List.mem_map.1 hx;have:=h v hv;simp only[List.mem_cons,List.not_mem_nil,or_false];omega
 have:=zkn h1 h2;simpa using this
theorem zlY {g:Ty->Pat->Int->Option (List Vt)×Int}{or:Bool} (hg:∀t p c l,(g t p c).1=some l->InR l):∀(a:List Ty) (b:List Pat) (i:Nat) (acc:List Vt) (c:Int) (l:List Vt),InR acc->(zbo g or a b i acc c).1=some l->InR l
 | [],b,i,acc,c,l,ha,h=>by simp only[zbo,Option.some.injEq] at h;subst h;exact ha
 |_::_,[],i,acc,c,l,ha,h=>by simp only[zbo,Option.some.injEq] at h;subst h;exact ha
 |x::r,y::s,i,acc,c,l,ha,h=>by
  simp only[zbo] at h;cases hh:(g x y c).1 with
  |none=>rw[hh] at h;cases h
  |some m=>
   rw[hh] at h;simp only at h;split at h
   ·split at h
    ·exact zlY hg r s (i+1) acc _ l ha h
    ·cases h
   ·refine zlY hg r s (i+1) _ _ l (fun v hv=>?_) h;rcases List.mem_append.1 hv with hv|hv
    ·exact ha v hv
    ·exact hg x y c m hh v hv
theorem zlZ (w:List Data):∀(n:Nat) (t:Ty) (p:Pat) (c:Int) (l:List Vt),(zaT w n t p c).1=some l->InR l/\zcz l=true
 |0,t,p,c,l,h=>by simp[zaT] at h
 |n+1,t,p,c,l,h=>by
  unfold zaT at h;split at h
  ·cases h
  ·split at h
   ·rename_i h60 ho;have ho':ownP w t p=true:=by unfold okP at ho;simp only[xad] at ho;exact ho.1
    cases hk:(zbo (zaT w n) (decide (p.op=5)) (zac w t p) p.kids 0 (zaS t p) (c+1)).1 with
    |none=>unfold finV at h;rw[hk] at h;simp only at h;rw[hk] at h;cases h
    |some m=>
     have hi:InR m:=zlY (fun t p c l h=>(zlZ w n t p c l h).1) _ _ _ _ _ m (fun v hv=>by
      unfold zaS at hv;split at hv
      ·rename_i hop;simp only[List.mem_cons,List.not_mem_nil,or_false] at hv;subst hv;exact zqV ho' hop
      ·simp at hv) hk
     unfold finV at h;rw[hk] at h;simp only at h;split at h
     ·rename_i hn;rw[hk] at h;cases h
      exact⟨hi,hn⟩
     ·cases h
   ·cases h
theorem zvN (w:List Data) (n:Nat) (t:Ty) (p:Pat) (c:Int) (h:(zaT w n t p c).1.isSome=true):c+1<=(zaT w n t p c).2/\(zaT w n t p c).2<=60:=by
 have h1:=zf9 w n t p c;by_cases hw:zbU w n t p c=true
 ·have h2:=h1.2 hw;simp only[zbU,xad,decide_eq_true_eq] at hw;have:=Pat.size_eq p;omega
 ·rw[if_neg hw] at h1;rw[h1.1] at h;cases h
def zd1 (o:Option (List Vt)):List Vt:=o.getD []
theorem ztk {g:Ty->Pat->Int->Option (List Vt)×Int}{or:Bool}{a:List Ty}{b:List Pat}{i:Nat}{acc:List Vt}{c:Int} (ha:i<a.length) (hl:b.length=a.length) (h:(g (nth a i) (nth b i) c).1.isSome=false):
  zbo g or (a.drop i) (b.drop i) i acc c=(none,(g (nth a i) (nth b i) c).2):=by
 rw[zaM ha,zaM (l:=b) (by omega),zbo];cases hh:(g (nth a i) (nth b i) c).1 with
 |none=>rfl
 |some l=>rw[hh] at h;cases h
theorem zuL {g:Ty->Pat->Int->Option (List Vt)×Int}{or:Bool}{a:List Ty}{b:List Pat}{i:Nat}{acc:List Vt}{c:Int} (ha:i<a.length) (hl:b.length=a.length) (h:(g (nth a i) (nth b i) c).1.isSome=true) (ho:or=true/\i=1) (hs:zd6 acc (zd1 (g (nth a i) (nth b i) c).1)=false):
  zbo g or (a.drop i) (b.drop i) i acc c=(none,(g (nth a i) (nth b i) c).2):=by
 rw[zaM ha,zaM (l:=b) (by omega),zbo];cases hh:(g (nth a i) (nth b i) c).1 with
 |none=>rfl
 |some l=>rw[hh] at hs;simp only[zd1,Option.getD_some] at hs;simp only[if_pos ho,hs,Bool.false_eq_true,if_false]
theorem ztj {g:Ty->Pat->Int->Option (List Vt)×Int}{or:Bool}{a:List Ty}{b:List Pat}{i:Nat}{acc:List Vt}{c:Int} (ha:i<a.length) (hl:b.length=a.length) (h:(g (nth a i) (nth b i) c).1.isSome=true) (hs:(or=true/\i=1)->zd6 acc (zd1 (g (nth a i) (nth b i) c).1)=true):
  zbo g or (a.drop i) (b.drop i) i acc c=zbo g or (a.drop (i+1)) (b.drop (i+1)) (i+1) (if or=true/\i=1 then acc else acc++zd1 (g (nth a i) (nth b i) c).1) (g (nth a i) (nth b i) c).2:=by
 rw[zaM ha,zaM (l:=b) (by omega),zbo];cases hh:(g (nth a i) (nth b i) c).1 with
 |none=>rw[hh] at h;cases h
 |some l=>
  by_cases ho:or=true/\i=1
  ·have:=hs ho;rw[hh] at this;simp only[zd1,Option.getD_some] at this;simp only[if_pos ho,this,if_true]
  ·simp only[if_neg ho,zd1,Option.getD_some]
theorem zuM {g:Ty->Pat->Int->Option (List Vt)×Int}{or:Bool}{a:List Ty}{b:List Pat}{i:Nat}{acc:List Vt}{c:Int} (ha:a.length<=i):zbo g or (a.drop i) (b.drop i) i acc c=(some acc,c):=by
 rw[List.drop_eq_nil_of_le ha,zbo];intro a r b s h;cases h
theorem zhH (w:List Data) (n:Nat) (t:Ty) (p:Pat) (c:Int):InR (zd1 (zaT w n t p c).1)/\(zd1 (zaT w n t p c).1).length<=6:=by
 cases h:(zaT w n t p c).1 with
 |none=>exact⟨fun v hv=>by simp[zd1] at hv,by simp[zd1]⟩
 |some l=>
  have:=zlZ w n t p c l h;exact⟨this.1,zo3 this.1 this.2⟩
structure GoodS (w:List Data) (n:Nat) (t:Ty) (p:Pat) (c:Int) (x:Nat×List Vt×Int):Prop where
 le:x.1<=p.kids.length
 eq:zbo (zaT w n) (decide (p.op=5)) ((zac w t p).drop x.1) (p.kids.drop x.1) x.1 x.2.1 x.2.2=zbo (zaT w n) (decide (p.op=5)) (zac w t p) p.kids 0 (zaS t p) (c+1)
 lc:(x.1:Int)<=x.2.2
 c0:0<=x.2.2
 c1:x.2.2<=60
 len:x.2.1.length<=1+6*x.1
 inr:InR x.2.1
def zcv (w:List Data) (n:Nat) (t:Ty) (p:Pat) (x:Nat×List Vt×Int):Nat×List Vt×Int:=
 (x.1+1,if decide (p.op=5)=true/\x.1=1 then x.2.1 else x.2.1++zd1 (zaT w n (nth (zac w t p) x.1) (nth p.kids x.1) x.2.2).1,(zaT w n (nth (zac w t p) x.1) (nth p.kids x.1) x.2.2).2)
theorem GoodS.next {w:List Data}{n:Nat}{t:Ty}{p:Pat}{c:Int}{x:Nat×List Vt×Int} (hl:p.kids.length=(zac w t p).length) (hg:GoodS w n t p c x) (hlt:x.1<p.kids.length)
  (hz:(zaT w n (nth (zac w t p) x.1) (nth p.kids x.1) x.2.2).1.isSome=true) (hs:(decide (p.op=5)=true/\x.1=1)->zd6 x.2.1 (zd1 (zaT w n (nth (zac w t p) x.1) (nth p.kids x.1) x.2.2).1)=true):
  GoodS w n t p c (zcv w n t p x):=by
 obtain⟨h1,h2,h3,h4,h5,h6,h7⟩:=hg;have hb:=zvN w n _ _ _ hz;have ho:=zhH w n (nth (zac w t p) x.1) (nth p.kids x.1) x.2.2;refine⟨by unfold zcv;dsimp only;omega, ?_,by unfold zcv;dsimp only;omega,by unfold zcv;dsimp only;omega,by unfold zcv;dsimp only;omega, ?_, ?_⟩
 ·rw[<-h2,ztj (by omega) hl hz hs];rfl
 ·unfold zcv;dsimp only;split
  ·omega
  ·rw[xaa];omega
 ·unfold zcv;dsimp only;split
  ·exact h7
  ·intro v hv;rcases List.mem_append.1 hv with hv|hv
   ·exact h7 v hv
   ·exact ho.1 v hv
theorem GoodS.none {w:List Data}{n:Nat}{t:Ty}{p:Pat}{c:Int}{x:Nat×List Vt×Int} (hl:p.kids.length=(zac w t p).length) (hg:GoodS w n t p c x) (hlt:x.1<p.kids.length)
  (hz:(zaT w n (nth (zac w t p) x.1) (nth p.kids x.1) x.2.2).1.isSome=false):
  finV (zbo (zaT w n) (decide (p.op=5)) (zac w t p) p.kids 0 (zaS t p) (c+1))=(none,(zaT w n (nth (zac w t p) x.1) (nth p.kids x.1) x.2.2).2):=by
 rw[<-hg.eq,ztk (by omega) hl hz];rfl
theorem GoodS.bad {w:List Data}{n:Nat}{t:Ty}{p:Pat}{c:Int}{x:Nat×List Vt×Int} (hl:p.kids.length=(zac w t p).length) (hg:GoodS w n t p c x) (hlt:x.1<p.kids.length)
  (hz:(zaT w n (nth (zac w t p) x.1) (nth p.kids x.1) x.2.2).1.isSome=true) (ho:p.op=5/\x.1=1) (hs:zd6 x.2.1 (zd1 (zaT w n (nth (zac w t p) x.1) (nth p.kids x.1) x.2.2).1)=false):
  finV (zbo (zaT w n) (decide (p.op=5)) (zac w t p) p.kids 0 (zaS t p) (c+1))=(Option.none,(zaT w n (nth (zac w t p) x.1) (nth p.kids x.1) x.2.2).2):=by
 rw[<-hg.eq,zuL (by omega) hl hz (by simpa using ho) hs];rfl
theorem GoodS.fin {w:List Data}{n:Nat}{t:Ty}{p:Pat}{c:Int}{x:Nat×List Vt×Int} (hl:p.kids.length=(zac w t p).length) (hg:GoodS w n t p c x) (hge:p.kids.length<=x.1):
  finV (zbo (zaT w n) (decide (p.op=5)) (zac w t p) p.kids 0 (zaS t p) (c+1))=(if zcz x.2.1=true then some x.2.1 else Option.none,x.2.2):=by
 rw[<-hg.eq,zuM (by omega)];unfold finV;simp only;split<;>rfl
theorem zuw {pre rest l:List Vt}{y:Vt} (h:pre++y::rest=l) (hm:y.var∈pre.map Vt.var):zcz l=false:=by
 unfold zcz;refine decide_eq_false (fun hn=>?_);rw[<-h,xaf,xae,List.nodup_append] at hn;exact hn.2.2 _ hm _ (by simp) rfl
theorem zm7 {pre:List Vt}{y:Vt} (h:(pre.map Vt.var).Nodup) (hm:y.var∉pre.map Vt.var):((pre++[y]).map Vt.var).Nodup:=by
 rw[xaf,List.nodup_append];exact⟨h,by simp,fun a ha b hb=>by simp at hb;subst hb;exact fun e=>hm (e ▸ ha)⟩
def retV (r:Option (List Vt)×Int):AV:= .tup [.d (zdB (zd1 r.1)),.d (.bool r.1.isSome)]
theorem zec {w:List Data} (hw:WT w):∀(n:Nat){a k d c:Int}{p:Pat},d+n=11->n<=10->TyIn w.length ⟨a,k⟩->p.ok->0<=c->c<=1000000000000->
  FnD Tryz.prog 293 [.d (zam w),.agg [.d (.i a),.d (.i k)],.agg [.d (.i p.op),.d (.i p.ctor),.d (.i p.n),.d (.i p.m),.d (.i p.var),.d (zad p.kids)],.d (.i d),.ref 950 0] [(950,some (.box [.d (.i c)]))]
   (retV (zaT w n ⟨a,k⟩ p c)) [(950,some (.box [.d (.i (zaT w n ⟨a,k⟩ p c).2)]))]
 |0,a,k,d,c,p,hd,_,_,_,c0,c1=>by
  refine bd Tryz.f293 114 [] [2] fun w0 F0 own kept hk=>?_;refine bx 3006 ?_;refine bx 3007 ?_;refine ev ?_;refine ar ?_;refine so ty3 ?_;refine tv ?_;refine xal ?_;refine xaz 8 [(34,.d (.bool (true)))] [27,28,29,30,31,32,33] ?_ ?_;refine ev ?_;refine sq ?_ ?_<;>intro h1 h1p h1s;exact jnb rfl;exact jnb rfl;refine xay ?_;refine tv ?_;refine sq ?_ ?_<;>intro h2 h2p h2s;refine rn [(950,some (.box [.d (.i (zaT w 0 ⟨a,k⟩ p c).2)]))] (r2 rfl rfl) (.tup (.cons (.nild ?_) (.cons (.eqd ?_) .nil))) ⟨rfl,rfl⟩ (SubO.get ⟨.inr ?_,⟨.inl rfl,trivial⟩⟩) (zaA rfl);rotate_left 3;exact absurd h2 (by simp);all_goals (first|((rfl);done)|(rfl))
 |n+1,a,k,d,c,p,hd,hn,ht,hok,c0,c1=>by
  by_cases h60:60<c+1
  ·have e:zaT w (n+1) ⟨a,k⟩ p c=(none,c+1):=by unfold zaT;rw[if_pos h60]
   rw[e];refine bd Tryz.f293 114 [] [2] fun w0 F0 own kept hk=>?_;refine bx 3006 ?_;refine bx 3007 ?_;refine ev ?_;refine ar ?_;refine so ty3 ?_;refine tv ?_;refine xal ?_;refine xaz 8 [(34,.d (.bool (true)))] [27,28,29,30,31,32,33] ?_ ?_;refine ev ?_;refine sq ?_ ?_<;>intro h1 h1p h1s;exact jnb rfl;exact jnb rfl;refine xay ?_;refine tv ?_;refine sq ?_ ?_<;>intro h2 h2p h2s;refine rn [(950,some (.box [.d (.i (c+1))]))] (r2 rfl rfl) (.tup (.cons (.nild ?_) (.cons (.eqd ?_) .nil))) ⟨rfl,rfl⟩ (SubO.get ⟨.inr ?_,⟨.inl rfl,trivial⟩⟩) (zaA rfl);rotate_left 3;exact absurd h2 (by simp);all_goals (first|((rfl);done)|(rfl))
  have hsh:=zjB hw (p:=p) ht;by_cases hop:okP w ⟨a,k⟩ p=true
  ·have hok':=hok;rw[Pat.ok_iff] at hok;have hop':=hop;unfold okP at hop';simp only[xad,decide_eq_true_eq] at hop';obtain⟨ho,hl⟩:=hop';have hin:=zih hw ht ho;have hlen:=zhb hw ht (zb4 ho);have hst:zco w ⟨a,k⟩ p=zac w ⟨a,k⟩ p:=by unfold zco;rw[if_neg (fun h=>h.2 (zb4 ho h.1))]
   rw[hst,hop] at hsh;have e:zaT w (n+1) ⟨a,k⟩ p c=finV (zbo (zaT w n) (decide (p.op=5)) (zac w ⟨a,k⟩ p) p.kids 0 (zaS ⟨a,k⟩ p) (c+1)):=by
    conv=>lhs;unfold zaT
    rw[if_neg h60,if_pos hop]
   have hnr:InR (zaS ⟨a,k⟩ p):=fun v hv=>by
    unfold zaS at hv;split at hv
    ·rename_i hop;simp only[List.mem_cons,List.not_mem_nil,or_false] at hv;subst hv;exact zqV ho hop
    ·simp at hv
   have hnl:=zuv ⟨a,k⟩ p;rw[e];refine bd Tryz.f293 114 [14,108] [2,8,17] fun w0 F0 own kept hk=>?_;refine bx 3006 ?_;refine bx 3007 ?_;refine evs [14,108] [] ?_;refine ar ?_;refine so ty3 ?_;refine tv ?_;refine xal ?_;refine xaz 8 [(34,.d (.bool (false)))] [27,28,29,30,31,32,33] ?_ ?_;refine evs [14,108] [] ?_;refine sq ?_ ?_<;>intro h1 h1p h1s;exact jnb rfl;exact jnb rfl;refine xay ?_;refine tv ?_;refine sq ?_ ?_<;>intro h2 h2p h2s;exact absurd h2 (by simp);refine wc zp4 (hsh) rfl rfl ?_;refine evs [14,108] [] ?_;refine sq ?_ ?_<;>intro h3 h3p h3s;exact absurd h3 (by simp);refine xaC 5 3 .none rfl rfl ?_;refine tv ?_;refine xal ?_;refine xaz 8 [(51,.d (.bool (decide (p.op=2\/p.op=6))))] [44,45,46,47,48,49,50] ?_ ?_;refine evs [14,108] [] ?_;refine sq ?_ ?_<;>intro h4 h4p h4s;exact jnb rfl;exact jnb rfl;refine xay ?_;refine tv ?_;refine sq ?_ ?_<;>intro h5 h5p h5s;refine bu [0,1] [_,_] zwj ?_;refine si [0] [_] zd0 zpP ?_;refine ap zd0 zpS rfl rfl rfl (by simp) (by(simp;done)) ?_;refine asg ?_;refine tv ?_;refine xak (ι:=Nat×List Vt×Int) hk (fun z=>[(62,.d (.i (z.1:Int))),(14,.gl 5 (z.2.1.map Vt.c))]) [10,11,15,16,17,18,63,64,65,66,67,68,69,70,71,72,73,74,75,76,77,78,79,80,81,82,83,84,85,86,87,88,89,90,91,92,93,94,95,96,97,98] (fun z=>[(950,some (.box [.d (.i z.2.2)])),(5,some (.tok ((z.2.1.map Vt.c)).length 3))]) (fun z=>GoodS w n ⟨a,k⟩ p c z) (fun z=>p.kids.length-z.1) (0,zaS ⟨a,k⟩ p,c+1) ⟨by simp,by simp,by dsimp only;omega,by dsimp only;omega,by dsimp only;omega,by dsimp only;omega,hnr⟩ ⟨⟨_,rfl,xaq ?_⟩,⟨⟨_,rfl,LeA.glg ?_⟩,trivial⟩⟩ ⟨?_,⟨zab ?_,trivial⟩⟩ (fun x=>rfl) (fun z hg1=>?_);iterate 2 focus (first|rfl|(simp_all[zaS];done))
   focus (first|rfl|(simp[getH];done))
   focus (first|rfl|(simp_all[zaS];done))
   obtain⟨s1,_,s3,s4,s5,s6,s7⟩:=id hg1;refine evc [14,108] [2,8,17] ?_;refine sq ?_ ?_<;>intro h6 h6p h6s<;>(try simp only[Q,Pat.cs_len] at h6p);refine xaU sl34 .none rfl rfl rfl rfl (zay (by omega)) rfl ?_;refine evs [14,108] [] ?_;refine ab 3016 tz36 ?_;refine evs [14,108] [] ?_;refine so ty36 ?_;refine tv ?_;refine xaU zaV .none rfl rfl rfl rfl (zas (by omega)) rfl ?_;refine evd [14,108] [] ?_;refine ar ?_;refine wd zp8 (zec hw n (a:=(nth (zac w ⟨a,k⟩ p) z.1).data) (k:=(nth (zac w ⟨a,k⟩ p) z.1).index) (c:=z.2.2) (p:=nth p.kids z.1) (by omega) (by omega) (hin _ (zae (by omega))) (Pats.ok_mem hok.2 _ (zae (by omega))) (by omega) (by omega)) rfl rfl ⟨rfl,trivial⟩ ?_;refine evd [14,108] [] ?_;refine dr ?_;refine sq ?_ ?_<;>intro h7 h7p h7s;refine rn [(950,some (.box [.d (.i (finV (zbo (zaT w n) (decide (p.op=5)) (zac w ⟨a,k⟩ p) p.kids 0 (zaS ⟨a,k⟩ p) (c+1))).2)]))] (r2 rfl rfl) (.tup (.cons (.nild ?_) (.cons (.eqd ?_) .nil))) ⟨rfl,rfl⟩ (SubO.get ⟨.inr ?_,⟨.inl rfl,trivial⟩⟩) (zaA rfl);rotate_left 3;refine xal ?_;refine xaz 7 [(93,.d (.bool (decide (p.op=5/\z.1=1))))] [87,88,89,90,91,92] ?_ ?_;refine evs [14,108] [] ?_;refine sq ?_ ?_<;>intro h8 h8p h8s;exact jnb rfl;exact jnb rfl;refine xay ?_;refine evs [14,108] [] ?_;refine sq ?_ ?_<;>intro h9 h9p h9s<;>(try simp only[Q,Pat.cs_len] at h9p);refine Walk.call (cr:=[]) zt2 (zhw (by omega) (by have hz:=(zhH w n ⟨(nth (zac w ⟨a,k⟩ p) z.1).data,(nth (zac w ⟨a,k⟩ p) z.1).index⟩ (nth p.kids z.1) z.2.2).2;omega)) rfl .none rfl rfl (.cons (.gl _ _) (.cons (.refl _) .nil)) trivial rfl rfl rfl ?_;refine evs [14,108] [] ?_;refine sq ?_ ?_<;>intro h10 h10p h10s<;>(try simp only[Q,Pat.cs_len] at h10p);refine rn [(950,some (.box [.d (.i (finV (zbo (zaT w n) (decide (p.op=5)) (zac w ⟨a,k⟩ p) p.kids 0 (zaS ⟨a,k⟩ p) (c+1))).2)]))] (r2 rfl rfl) (.tup (.cons (.nild ?_) (.cons (.eqd ?_) .nil))) ⟨rfl,rfl⟩ (SubO.get ⟨.inr ?_,⟨.inl rfl,trivial⟩⟩) (zaA rfl);rotate_left 3;refine ar ?_;refine xah ((zcv w n ⟨a,k⟩ p z)) ⟨(hg1.next hl (by omega) (by simp_all) (fun ho=>by simp_all)),(by unfold zcv;dsimp only;omega),sx ⟨⟨_,rfl,xaq ?_⟩,⟨⟨_,rfl,LeA.glg ?_⟩,trivial⟩⟩ ⟨?_,⟨zab ?_,trivial⟩⟩⟩;iterate 2 focus (first|rfl|(simp_all[zaS];done))
   focus (first|rfl|(simp[getH];done))
   focus (first|rfl|(simp_all[zaS];done))
   refine ap zd0 zpS rfl rfl rfl (by simp) (by first|(simp;done)|(have hz:=(zhH w n ⟨(nth (zac w ⟨a,k⟩ p) z.1).data,(nth (zac w ⟨a,k⟩ p) z.1).index⟩ (nth p.kids z.1) z.2.2).2;simp;omega)) ?_;refine asg ?_;refine tv ?_;refine ar ?_;refine xah ((zcv w n ⟨a,k⟩ p z)) ⟨(hg1.next hl (by omega) (by simp_all) (fun ho=>by simp_all)),(by unfold zcv;dsimp only;omega),sx ⟨⟨_,rfl,xaq ?_⟩,⟨⟨_,rfl,LeA.glg ?_⟩,trivial⟩⟩ ⟨?_,⟨zab ?_,trivial⟩⟩⟩;iterate 2 focus (first|rfl|(simp_all[zaS];done)|(unfold zcv;dsimp only;rw[if_neg (by simp_all)];simp;done))
   focus (first|rfl|(simp[getH];done))
   focus (first|rfl|(simp_all[zaS];done)|(unfold zcv;dsimp only;rw[if_neg (by simp_all)];simp;done))
   refine ab 3019 zwo ?_;refine tv ?_;refine xak (ι:=List (Vt)×List (Vt)) hk (fun x=>[(101,.d (.i (x.1.length:Int)))]) [10,11,21,102,103,104,105,106,107,108,109,110,111,112] (fun x=>[(3019,some (.box (metA (x.1.map Vt.var))))]) (fun x=>x.1++x.2=z.2.1/\(x.1.map Vt.var).Nodup) (fun x=>x.2.length) ([],z.2.1) ⟨by simp,by simp⟩ ⟨⟨_,rfl,xaq ?_⟩,trivial⟩ ⟨?_,trivial⟩ (fun x=>rfl) (fun x hg2=>?_);focus (first|rfl|omega)
   focus (first|rfl|(simp[getH];done))
   obtain⟨pre,rest⟩:=x;dsimp only at hg2 ⊢;refine evc [14,108] [2,8,17] ?_;refine sq ?_ ?_<;>intro h11 h11p h11s<;>(try simp only[Q,Pat.cs_len] at h11p);rcases rest with _|⟨y,rest⟩
   ·exfalso;simp_all
   have hy:=s7 y (by rw[<-hg2.1];simp);refine xaX zd0 .none rfl rfl rfl rfl (zaL hg2.1) rfl ?_;refine evs [14,108] [] ?_;refine ab 3021 zpP ?_;refine so zwn ?_;refine tv ?_;refine xaV (i:=y.var.toNat) zpF .none rfl rfl rfl (Int.toNat_of_nonneg hy.1).symm (by omega) ?_;refine xa0 ty4 .none rfl rfl rfl ((by simpa using zqK hy.1 hy.2)) ?_;refine tv ?_;refine sq ?_ ?_<;>intro h12 h12p h12s<;>(try simp only[Q,Pat.cs_len] at h12p);refine rn [(950,some (.box [.d (.i (finV (zbo (zaT w n) (decide (p.op=5)) (zac w ⟨a,k⟩ p) p.kids 0 (zaS ⟨a,k⟩ p) (c+1))).2)]))] (r2 rfl rfl) (.tup (.cons (.nild ?_) (.cons (.eqd ?_) .nil))) ⟨rfl,rfl⟩ (SubO.get ⟨.inr ?_,⟨.inl rfl,trivial⟩⟩) (zaA rfl);rotate_left 3;refine xaV (i:=y.var.toNat) zpF .none rfl rfl rfl (Int.toNat_of_nonneg hy.1).symm (by omega) ?_;refine Walk.store ty4 .none rfl rfl rfl rfl rfl rfl (by simp) ((by simpa using zqL hy.1 hy.2)) ?_;refine tv ?_;refine ar ?_;refine xah ((pre++[y],rest)) ⟨⟨(by have hz:=hg2.1;rw[<-hz];simp),(zm7 hg2.2 (by simp_all))⟩,(by simp),sx ⟨⟨_,rfl,xaq ?_⟩,trivial⟩ ⟨?_,trivial⟩⟩;focus (first|rfl|(simp;done)|omega)
   focus (first|rfl|(simp[getH];done))
   have hrest:rest=[]:=by
    rcases rest with _|⟨a,b⟩
    ·rfl
    ·exfalso;have hz:=congrArg List.length (hg2.1);simp only[xaa,xab,xac] at hz;omega
   subst hrest;refine rn [(950,some (.box [.d (.i (finV (zbo (zaT w n) (decide (p.op=5)) (zac w ⟨a,k⟩ p) p.kids 0 (zaS ⟨a,k⟩ p) (c+1))).2)]))] (r2 rfl rfl) (.tup (.cons (.gld ?_) (.cons (.eqd ?_) .nil))) ⟨rfl,rfl⟩ (SubO.get ⟨.inr ?_,⟨.inl rfl,trivial⟩⟩) (zaA rfl);rotate_left 3;try simp only[Q,Pat.cs_len] at h5p
   refine xak (ι:=Nat×List Vt×Int) hk (fun z=>[(62,.d (.i (z.1:Int))),(14,.gl 5 (z.2.1.map Vt.c))]) [10,11,15,16,17,18,63,64,65,66,67,68,69,70,71,72,73,74,75,76,77,78,79,80,81,82,83,84,85,86,87,88,89,90,91,92,93,94,95,96,97,98] (fun z=>[(950,some (.box [.d (.i z.2.2)])),(5,some (.tok ((z.2.1.map Vt.c)).length 3))]) (fun z=>GoodS w n ⟨a,k⟩ p c z) (fun z=>p.kids.length-z.1) (0,zaS ⟨a,k⟩ p,c+1) ⟨by simp,by simp,by dsimp only;omega,by dsimp only;omega,by dsimp only;omega,by dsimp only;omega,hnr⟩ ⟨⟨_,rfl,xaq ?_⟩,⟨⟨_,rfl,LeA.glg ?_⟩,trivial⟩⟩ ⟨?_,⟨zab ?_,trivial⟩⟩ (fun x=>rfl) (fun z hg1=>?_);iterate 2 focus (first|rfl|(simp_all[zaS];done))
   focus (first|rfl|(simp[getH];done))
   focus (first|rfl|(simp_all[zaS];done))
   obtain⟨s1,_,s3,s4,s5,s6,s7⟩:=id hg1;refine evc [14,108] [2,8,17] ?_;refine sq ?_ ?_<;>intro h13 h13p h13s<;>(try simp only[Q,Pat.cs_len] at h13p);refine xaU sl34 .none rfl rfl rfl rfl (zay (by omega)) rfl ?_;refine evs [14,108] [] ?_;refine ab 3016 tz36 ?_;refine evs [14,108] [] ?_;refine so ty36 ?_;refine tv ?_;refine xaU zaV .none rfl rfl rfl rfl (zas (by omega)) rfl ?_;refine evd [14,108] [] ?_;refine ar ?_;refine wd zp8 (zec hw n (a:=(nth (zac w ⟨a,k⟩ p) z.1).data) (k:=(nth (zac w ⟨a,k⟩ p) z.1).index) (c:=z.2.2) (p:=nth p.kids z.1) (by omega) (by omega) (hin _ (zae (by omega))) (Pats.ok_mem hok.2 _ (zae (by omega))) (by omega) (by omega)) rfl rfl ⟨rfl,trivial⟩ ?_;refine evd [14,108] [] ?_;refine dr ?_;refine sq ?_ ?_<;>intro h14 h14p h14s<;>(try simp only[Q,Pat.cs_len] at h14p);refine rn [(950,some (.box [.d (.i (finV (zbo (zaT w n) (decide (p.op=5)) (zac w ⟨a,k⟩ p) p.kids 0 (zaS ⟨a,k⟩ p) (c+1))).2)]))] (r2 rfl rfl) (.tup (.cons (.nild ?_) (.cons (.eqd ?_) .nil))) ⟨rfl,rfl⟩ (SubO.get ⟨.inr ?_,⟨.inl rfl,trivial⟩⟩) (zaA rfl);rotate_left 3;refine xal ?_;refine xaz 7 [(93,.d (.bool (decide (p.op=5/\z.1=1))))] [87,88,89,90,91,92] ?_ ?_;refine evs [14,108] [] ?_;refine sq ?_ ?_<;>intro h15 h15p h15s<;>(try simp only[Q,Pat.cs_len] at h15p);exact jnb rfl;exact jnb rfl;refine xay ?_;refine evs [14,108] [] ?_;refine sq ?_ ?_<;>intro h16 h16p h16s<;>(try simp only[Q,Pat.cs_len] at h16p);refine Walk.call (cr:=[]) zt2 (zhw (by omega) (by have hz:=(zhH w n ⟨(nth (zac w ⟨a,k⟩ p) z.1).data,(nth (zac w ⟨a,k⟩ p) z.1).index⟩ (nth p.kids z.1) z.2.2).2;omega)) rfl .none rfl rfl (.cons (.gl _ _) (.cons (.refl _) .nil)) trivial rfl rfl rfl ?_;refine evs [14,108] [] ?_;refine sq ?_ ?_<;>intro h17 h17p h17s<;>(try simp only[Q,Pat.cs_len] at h17p);refine rn [(950,some (.box [.d (.i (finV (zbo (zaT w n) (decide (p.op=5)) (zac w ⟨a,k⟩ p) p.kids 0 (zaS ⟨a,k⟩ p) (c+1))).2)]))] (r2 rfl rfl) (.tup (.cons (.nild ?_) (.cons (.eqd ?_) .nil))) ⟨rfl,rfl⟩ (SubO.get ⟨.inr ?_,⟨.inl rfl,trivial⟩⟩) (zaA rfl);rotate_left 3;refine ar ?_;refine xah ((zcv w n ⟨a,k⟩ p z)) ⟨(hg1.next hl (by omega) (by simp_all) (fun ho=>by simp_all)),(by unfold zcv;dsimp only;omega),sx ⟨⟨_,rfl,xaq ?_⟩,⟨⟨_,rfl,LeA.glg ?_⟩,trivial⟩⟩ ⟨?_,⟨zab ?_,trivial⟩⟩⟩;iterate 2 focus (first|rfl|(simp_all[zaS];done)|(unfold zcv;dsimp only;rw[if_pos (by simp_all)];done))
   focus (first|rfl|(simp[getH];done))
   focus (first|rfl|(simp_all[zaS];done)|(unfold zcv;dsimp only;rw[if_pos (by simp_all)];done))
   refine ap zd0 zpS rfl rfl rfl (by simp) (by first|(simp;done)|(have hz:=(zhH w n ⟨(nth (zac w ⟨a,k⟩ p) z.1).data,(nth (zac w ⟨a,k⟩ p) z.1).index⟩ (nth p.kids z.1) z.2.2).2;simp;omega)) ?_;refine asg ?_;refine tv ?_;refine ar ?_;refine xah ((zcv w n ⟨a,k⟩ p z)) ⟨(hg1.next hl (by omega) (by simp_all) (fun ho=>by simp_all)),(by unfold zcv;dsimp only;omega),sx ⟨⟨_,rfl,xaq ?_⟩,⟨⟨_,rfl,LeA.glg ?_⟩,trivial⟩⟩ ⟨?_,⟨zab ?_,trivial⟩⟩⟩;iterate 2 focus (first|rfl|(simp_all[zaS];done)|(unfold zcv;dsimp only;rw[if_neg (by simp_all)];simp;done))
   focus (first|rfl|(simp[getH];done))
   focus (first|rfl|(simp_all[zaS];done)|(unfold zcv;dsimp only;rw[if_neg (by simp_all)];simp;done))
   refine ab 3019 zwo ?_;refine tv ?_;refine xak (ι:=List (Vt)×List (Vt)) hk (fun x=>[(101,.d (.i (x.1.length:Int)))]) [10,11,21,102,103,104,105,106,107,108,109,110,111,112] (fun x=>[(3019,some (.box (metA (x.1.map Vt.var))))]) (fun x=>x.1++x.2=z.2.1/\(x.1.map Vt.var).Nodup) (fun x=>x.2.length) ([],z.2.1) ⟨by simp,by simp⟩ ⟨⟨_,rfl,xaq ?_⟩,trivial⟩ ⟨?_,trivial⟩ (fun x=>rfl) (fun x hg2=>?_);focus (first|rfl|omega)
   focus (first|rfl|(simp[getH];done))
   obtain⟨pre,rest⟩:=x;dsimp only at hg2 ⊢;refine evc [14,108] [2,8,17] ?_;refine sq ?_ ?_<;>intro h18 h18p h18s<;>(try simp only[Q,Pat.cs_len] at h18p);rcases rest with _|⟨y,rest⟩
   ·exfalso;simp_all
   have hy:=s7 y (by rw[<-hg2.1];simp);refine xaX zd0 .none rfl rfl rfl rfl (zaL hg2.1) rfl ?_;refine evs [14,108] [] ?_;refine ab 3021 zpP ?_;refine so zwn ?_;refine tv ?_;refine xaV (i:=y.var.toNat) zpF .none rfl rfl rfl (Int.toNat_of_nonneg hy.1).symm (by omega) ?_;refine xa0 ty4 .none rfl rfl rfl ((by simpa using zqK hy.1 hy.2)) ?_;refine tv ?_;refine sq ?_ ?_<;>intro h19 h19p h19s<;>(try simp only[Q,Pat.cs_len] at h19p);refine rn [(950,some (.box [.d (.i (finV (zbo (zaT w n) (decide (p.op=5)) (zac w ⟨a,k⟩ p) p.kids 0 (zaS ⟨a,k⟩ p) (c+1))).2)]))] (r2 rfl rfl) (.tup (.cons (.nild ?_) (.cons (.eqd ?_) .nil))) ⟨rfl,rfl⟩ (SubO.get ⟨.inr ?_,⟨.inl rfl,trivial⟩⟩) (zaA rfl);rotate_left 3;refine xaV (i:=y.var.toNat) zpF .none rfl rfl rfl (Int.toNat_of_nonneg hy.1).symm (by omega) ?_;refine Walk.store ty4 .none rfl rfl rfl rfl rfl rfl (by simp) ((by simpa using zqL hy.1 hy.2)) ?_;refine tv ?_;refine ar ?_;refine xah ((pre++[y],rest)) ⟨⟨(by have hz:=hg2.1;rw[<-hz];simp),(zm7 hg2.2 (by simp_all))⟩,(by simp),sx ⟨⟨_,rfl,xaq ?_⟩,trivial⟩ ⟨?_,trivial⟩⟩;focus (first|rfl|(simp;done)|omega)
   focus (first|rfl|(simp[getH];done))
   have hrest:rest=[]:=by
    rcases rest with _|⟨a,b⟩
    ·rfl
    ·exfalso;have hz:=congrArg List.length (hg2.1);simp only[xaa,xab,xac] at hz;omega
   subst hrest;refine rn [(950,some (.box [.d (.i (finV (zbo (zaT w n) (decide (p.op=5)) (zac w ⟨a,k⟩ p) p.kids 0 (zaS ⟨a,k⟩ p) (c+1))).2)]))] (r2 rfl rfl) (.tup (.cons (.gld ?_) (.cons (.eqd ?_) .nil))) ⟨rfl,rfl⟩ (SubO.get ⟨.inr ?_,⟨.inl rfl,trivial⟩⟩) (zaA rfl);rotate_left 3;all_goals (((first|(rw[hg1.none hl (by omega) (by assumption)];first|done|rfl)|(rw[hg1.bad hl (by omega) (by assumption) (by assumption) (by assumption)];first|done|rfl)|(rw[hg1.fin hl (by omega),if_neg (by rw[zuw hg2.1 (by assumption)];simp)];first|done|rfl)|(rw[hg1.fin hl (by omega),if_pos (by have hz:=hg2.1;rw[List.append_nil] at hz;rw[<-hz];exact decide_eq_true hg2.2)];first|done|rfl));done))
  ·have hopf:okP w ⟨a,k⟩ p=false:=by simpa using hop
   have e:zaT w (n+1) ⟨a,k⟩ p c=(none,c+1):=by unfold zaT;rw[if_neg h60,if_neg hop]
   rw[e];rw[hopf] at hsh;refine bd Tryz.f293 114 [] [2] fun w0 F0 own kept hk=>?_;refine bx 3006 ?_;refine bx 3007 ?_;refine ev ?_;refine ar ?_;refine so ty3 ?_;refine tv ?_;refine xal ?_;refine xaz 8 [(34,.d (.bool (false)))] [27,28,29,30,31,32,33] ?_ ?_;refine ev ?_;refine sq ?_ ?_<;>intro h1 h1p h1s;exact jnb rfl;exact jnb rfl;refine xay ?_;refine tv ?_;refine sq ?_ ?_<;>intro h2 h2p h2s;exact absurd h2 (by simp);refine wc zp4 (hsh) rfl rfl ?_;refine ev ?_;refine sq ?_ ?_<;>intro h3 h3p h3s;refine rn [(950,some (.box [.d (.i (c+1))]))] (r2 rfl rfl) (.tup (.cons (.nild ?_) (.cons (.eqd ?_) .nil))) ⟨rfl,rfl⟩ (SubO.get ⟨.inr ?_,⟨.inl rfl,trivial⟩⟩) (zaA rfl);rotate_left 3;exact absurd h3 (by simp);all_goals (first|((rfl);done)|(rfl))
end Go.Proofs.YtlfipehhbdjnjaaGreat
namespace Go.Proofs.YtlfipehhbdjnjaaGreat
open Go
set_option linter.unusedSimpArgs false
set_option linter.unusedVariables false
set_option maxRecDepth 100000
set_option maxHeartbeats 2000000
abbrev dPtr (f:Nat->Nat):D:= .ptr (tabD 16 f) 0
abbrev sPtr (w:List Data) (f:Nat->Nat):D:= .ptr [zam w,dPtr f] 0
theorem zlm {n:Nat}{f:Nat->Nat}{a k:Int} (h:InS n ⟨a,k⟩) (hn:n<=16):
  FnD Tryz.prog 140 [.ref 71 0,.agg [.d (.i a),.d (.i k)]] [(71,some (.box (tabC 16 f)))] (.d (.i (dv f ⟨a,k⟩))) []:=by
 have hs:=h.facts;refine bd Tryz.f140 17 [16] [] fun w0 F0 own kept hk=>?_;refine Walk.box (id:=3003) .none rfl rfl rfl (by first|rfl|(simp only[zaz,occH,occE,Res.ids,xag,List.nil_append,AV.idsL,AV.ids,zaj,zak,zaq,zaQ,xae,List.map_nil,upC,zaG];rfl)) (by first|rfl|(simp only[zaz,occH,occE,Res.ids,xag,List.nil_append,AV.idsL,AV.ids,zaj,zak,zaq,zaQ,xae,List.map_nil,upC,zaG];rfl)) (by first|rfl|(simp only[zaz,occH,occE,Res.ids,xag,List.nil_append,AV.idsL,AV.ids,zaj,zak,zaq,zaQ,xae,List.map_nil,upC,zaG];rfl)) (by first|rfl|(simp only[zaz,occH,occE,Res.ids,xag,List.nil_append,AV.idsL,AV.ids,zaj,zak,zaq,zaQ,xae,List.map_nil,upC,zaG];rfl)) ?_;refine evs [16] [] ?_;refine sq ?_ ?_<;>intro h1 h1p h1s<;>(try simp only[Q] at h1p);refine rn [] (r1 rfl) (.eqd ?_) ⟨rfl,rfl⟩ (SubH.get ⟨rfl,trivial⟩) (fun _ h=>h);rotate_left;refine xaV (i:=a.toNat) zpE .none rfl rfl rfl (by have:=hs h1p;omega) (by have:=hs h1p;omega) ?_;refine xaV (i:=k.toNat) zsJ .none rfl rfl rfl (by have:=hs h1p;omega) (by have:=hs h1p;omega) ?_;refine xa0 ty3 .none rfl rfl rfl ((zk6 (s:=zcw ⟨a,k⟩) (by have:=hs h1p;omega) (by have:=hs h1p;omega))) ?_;refine evd [16] [] ?_;refine dr ?_;refine rn [] (r1 rfl) (.eqd ?_) ⟨rfl,rfl⟩ (SubH.get ⟨rfl,trivial⟩) (fun _ h=>h);rotate_left;all_goals (first|(rw[zmB (by assumption)];rfl)|(rw[zmA (by assumption)]))
theorem zeA {n:Nat}{f:Nat->Nat}{a k:Int} (h:InS n ⟨a,k⟩) (hn:n<=16):
  FnD Tryz.prog 140 [.d (dPtr f),.agg [.d (.i a),.d (.i k)]] [] (.d (.i (dv f ⟨a,k⟩))) []:=by
 have hs:=h.facts;refine bd Tryz.f140 17 [16] [] fun w0 F0 own kept hk=>?_;refine bx 3003 ?_;refine evs [16] [] ?_;refine sq ?_ ?_<;>intro h1 h1p h1s<;>(try simp only[Q] at h1p);refine rq ?_;rotate_left;refine xaW (i:=a.toNat) zpE .none rfl rfl rfl (by have:=hs h1p;omega) (by have:=hs h1p;omega) ?_;refine xaW (i:=k.toNat) zsJ .none rfl rfl rfl (by have:=hs h1p;omega) (by have:=hs h1p;omega) ?_;refine xa2 ty3 .none rfl rfl (zvV (s:=zcw ⟨a,k⟩) (by have:=hs h1p;omega) (by have:=hs h1p;omega)) ?_;refine evd [16] [] ?_;refine dr ?_;refine rq ?_;rotate_left;all_goals (first|(rw[zmB (by assumption)];rfl)|(rw[zmA (by assumption)]))
theorem zmN {w:List Data} (hw:WT w){n:Nat}{f:Nat->Nat}{a k c:Int} (ht:TyIn w.length ⟨a,k⟩) (hc:c∈zai w ⟨a,k⟩) (hn:n<=16) (hb:∀s,f s<=100000) (hin:∀u∈zaa w ⟨a,k⟩ c,InS n u):
  FnD Tryz.prog 235 [.ref 71 0,.d (zam w),.agg [.d (.i a),.d (.i k)],.d (.i c)] [(71,some (.box (tabC 16 f)))] (.d (.i (most w f ⟨a,k⟩ c))) []:=by
 have hl:=zfm hw ht hc;have hd:=zmy hb (by omega);refine bd Tryz.f235 33 [] [] fun w0 F0 own kept hk=>?_;refine Walk.box (id:=3006) .none rfl rfl rfl (by first|rfl|(simp only[zaz,occH,occE,Res.ids,xag,List.nil_append,AV.idsL,AV.ids,zaj,zak,zaq,zaQ,xae,List.map_nil,upC,zaG];rfl)) (by first|rfl|(simp only[zaz,occH,occE,Res.ids,xag,List.nil_append,AV.idsL,AV.ids,zaj,zak,zaq,zaQ,xae,List.map_nil,upC,zaG];rfl)) (by first|rfl|(simp only[zaz,occH,occE,Res.ids,xag,List.nil_append,AV.idsL,AV.ids,zaj,zak,zaq,zaQ,xae,List.map_nil,upC,zaG];rfl)) (by first|rfl|(simp only[zaz,occH,occE,Res.ids,xag,List.nil_append,AV.idsL,AV.ids,zaj,zak,zaq,zaQ,xae,List.map_nil,upC,zaG];rfl)) ?_;refine ev ?_;refine Walk.call (cr:=[]) zek (zbE hw ht hc) rfl .none rfl rfl (LeL.refl _) trivial rfl (by first|rfl|(simp only[zbd,List.all_cons,List.all_nil,zcg,zbV,AV.idsL,AV.ids,zaj,zak,xae,List.map_nil,zaG];rfl)) (by first|rfl|(simp only[zaz,occH,occE,Res.ids,xag,List.nil_append,AV.idsL,AV.ids,zaj,zak,zaq,zaQ,xae,List.map_nil,upC,zaG];rfl)) ?_;refine ev ?_;refine xak (ι:=List (Ty)×List (Ty)×(Nat)) hk (fun x=>[(18,.d (.i (x.1.length:Int))),(9,.d (.i (x.2.2:Int)))]) [8,11,12,19,20,21,22,23,24,25,26,27,28,29,30] (fun x=>[]) (fun x=>x.1++x.2.1=zaa w ⟨a,k⟩ c/\x.2.2<=100000/\zbn f x.2.2 x.2.1=zbn f 0 (zaa w ⟨a,k⟩ c)) (fun x=>x.2.1.length) ([],zaa w ⟨a,k⟩ c,0) ⟨by simp,by simp,rfl⟩ ⟨⟨_,rfl,xaq ?_⟩,⟨⟨_,rfl,xaq ?_⟩,trivial⟩⟩ trivial (fun x=>rfl) (fun x hg1=>?_);iterate 2 focus (first|rfl|(simp;done))
 obtain⟨pre,rest,m⟩:=x;dsimp only at hg1 ⊢;refine evc [] [] ?_;refine sq ?_ ?_<;>intro h1 h1p h1s<;>(try simp only[Q] at h1p);rcases rest with _|⟨y,rest⟩
 ·exfalso;simp_all
 have hdy:=hd y;have hye:dv f ⟨y.data,y.index⟩=dv f y:=rfl;refine xaU zaV .none rfl rfl rfl rfl (zaL hg1.1) rfl ?_;refine ev ?_;refine Walk.alloc (id:=3011) tz25 rfl .none rfl (by first|rfl|(simp only[zaz,occH,occE,Res.ids,xag,List.nil_append,AV.idsL,AV.ids,zaj,zak,zaq,zaQ,xae,List.map_nil,upC,zaG];rfl)) (by first|rfl|(simp only[zaz,occH,occE,Res.ids,xag,List.nil_append,AV.idsL,AV.ids,zaj,zak,zaq,zaQ,xae,List.map_nil,upC,zaG];rfl)) (by first|rfl|(simp only[zaz,occH,occE,Res.ids,xag,List.nil_append,AV.idsL,AV.ids,zaj,zak,zaq,zaQ,xae,List.map_nil,upC,zaG];rfl)) ?_;refine so ty25 ?_;refine tv ?_;refine Walk.call (cr:=[]) zfn (zlm (f:=f) (a:=y.data) (k:=y.index) (hin y (by rw[<-hg1.1];simp)) hn) rfl .none rfl rfl (LeL.refl _) ⟨rfl,trivial⟩ rfl (by first|rfl|(simp only[zbd,List.all_cons,List.all_nil,zcg,zbV,AV.idsL,AV.ids,zaj,zak,xae,List.map_nil,zaG];rfl)) (by first|rfl|(simp only[zaz,occH,occE,Res.ids,xag,List.nil_append,AV.idsL,AV.ids,zaj,zak,zaq,zaQ,xae,List.map_nil,upC,zaG];rfl)) ?_;refine ev ?_;refine sq ?_ ?_<;>intro h2 h2p h2s<;>(try simp only[Q] at h2p);refine rn [] (r1 rfl) (.eqd ?_) ⟨rfl,rfl⟩ (SubH.get ⟨rfl,trivial⟩) (fun _ h=>h);rotate_left;refine xa3 .none rfl rfl rfl ?_;refine ev ?_;refine ar ?_;refine xah ((pre++[y],rest,max m (dv f y))) ⟨⟨(by have hz:=hg1.1;rw[<-hz];simp),⟨(by have:=hd y;dsimp only;omega),(by rw[<-hg1.2.2];simp only[zbn];rw[if_neg (by have:=hd y;omega)])⟩⟩,(by simp),sx ⟨⟨_,rfl,xaq ?_⟩,⟨⟨_,rfl,xaq ?_⟩,trivial⟩⟩ trivial⟩;iterate 2 focus (first|rfl|(simp;done)|(dsimp only;omega))
 have hrest:rest=[]:=by
  rcases rest with _|⟨a,b⟩
  ·rfl
  ·exfalso;have hz:=congrArg List.length (hg1.1);simp only[xaa,xab,xac] at hz;omega
 subst hrest;refine ar ?_;refine rn [] (r1 rfl) (.eqd ?_) ⟨rfl,rfl⟩ (SubH.get ⟨rfl,trivial⟩) (fun _ h=>h);rotate_left;all_goals (refine congrArg D.i ?_;unfold most;rw[<-hg1.2.2];first|(simp only[zbn];rw[if_pos (by omega)];rfl)|(simp only[zbn];omega))
theorem zhL {i j:Nat} (h:j<4):tyS (i*4+j)=⟨(i:Int),(j:Int)⟩:=by
 unfold tyS;rw[show(i*4+j) / 4=i by omega,show(i*4+j) % 4=j by omega]
theorem zrX {w:List Data}{k s:Nat}{pre:List Int}:Bet (zbg w k) (rowT w k s pre):=(zpg _ _).trans (zn8 _ _)
theorem zkJ {w:List Data}{g f:Nat->Nat}{s:Nat}{c:Int} (hB:Bet g f)
  (h:decide ((0:Int)<(most w f (tyS s) c:Int)/\((f s:Int)=0\/(most w f (tyS s) c:Int)<(f s:Int)))=true):Strict g (zbF w s f c):=by
 rw[zet h];rw[decide_eq_true_eq] at h;refine⟨s,by unfold updF;rw[if_pos rfl];omega, ?_⟩;unfold updF;rw[if_pos rfl];rcases Nat.eq_zero_or_pos (g s) with h0|h0
 ·exact .inl h0
 ·have:=hB s h0;right;omega
theorem zmK {w:List Data} (hw:WT w){i j:Nat} (hi:i<w.length) (hj:j<4):FnD Tryz.prog 234 [.d (zam w),.agg [.d (.i (i:Int)),.d (.i (j:Int))]] [] (.d (zcq (zaW w (tyS (i*4+j))))) []:=by
 rw[<-zjt,zhL hj];exact zdC hw (.inr ⟨i,rfl,hi⟩)
theorem zmO {w:List Data}{f:Nat->Nat}{i j:Nat} (hi:i<w.length) (h4:w.length<=4) (hj:j<4):
  FnD Tryz.prog 140 [.ref 71 0,.agg [.d (.i (i:Int)),.d (.i (j:Int))]] [(71,some (.box (tabC 16 f)))] (.d (.i (f (i*4+j)))) []:=by
 have h:=zlm (n:=w.length*4) (f:=f) (a:=(i:Int)) (k:=(j:Int)) (.inr ⟨by simp only[zcw,Int.toNat_natCast];omega,by simp only[zcw,Int.toNat_natCast];exact zhL hj⟩) (by omega);have e:zcw ⟨(i:Int),(j:Int)⟩=i*4+j:=by simp only[zcw,Int.toNat_natCast]
 rwa [zmA (by omega),e] at h
theorem zn1 {w:List Data} (hd:Dp w){f:Nat->Nat}{i j:Nat}{c:Int} (hi:i<w.length) (hj:j<4) (hc:c∈zaW w (tyS (i*4+j))) (hb:∀s,f s<=100000):
  FnD Tryz.prog 235 [.ref 71 0,.d (zam w),.agg [.d (.i (i:Int)),.d (.i (j:Int))],.d (.i c)] [(71,some (.box (tabC 16 f)))] (.d (.i (most w f (tyS (i*4+j)) c))) []:=by
 have h4:=hd.four;have hcl:=hd.cl (i*4+j) (by omega) c hc;rw[<-zjt,zhL hj] at hc;rw[zhL hj] at hcl ⊢;exact zmN hd.wt (.inr ⟨i,rfl,hi⟩) hc (n:=w.length*4) (by omega) hb hcl
theorem zlN {w:List Data} (hd:Dp w):FnD Tryz.prog 139 [.d (zam w)] [] (.d (dPtr (zaf w))) []:=by
 have hw:=hd.wt;have hw4:=hd.four;have hlw:((w.map Data.c).length:Int)=w.length:=by simp
 refine bd Tryz.f139 64 [] [16,20] fun w0 F0 own kept hk=>?_;refine Walk.buildZ zyo zpE .none rfl ?_;refine Walk.box (id:=71) .none rfl rfl rfl (by first|rfl|(simp only[zaz,occH,occE,Res.ids,xag,List.nil_append,AV.idsL,AV.ids,zaj,zak,zaq,zaQ,xae,List.map_nil,upC,zaG];rfl)) (by first|rfl|(simp only[zaz,occH,occE,Res.ids,xag,List.nil_append,AV.idsL,AV.ids,zaj,zak,zaq,zaQ,xae,List.map_nil,upC,zaG];rfl)) (by first|rfl|(simp only[zaz,occH,occE,Res.ids,xag,List.nil_append,AV.idsL,AV.ids,zaj,zak,zaq,zaQ,xae,List.map_nil,upC,zaG];rfl)) (by first|rfl|(simp only[zaz,occH,occE,Res.ids,xag,List.nil_append,AV.idsL,AV.ids,zaj,zak,zaq,zaQ,xae,List.map_nil,upC,zaG];rfl)) ?_;refine ev ?_;refine xak (ι:=Nat×Bool) hk (fun o=>[(4,.d (.bool o.2))]) [5,6,7,9,10,13,14,15,16,17,18,19,20,21,22,23,24,25,26,27,28,29,30,31,32,33,34,35,36,37,38,39,40,41,42,43,44,45,46,47,48,49,50,51,52,53,54,55,56,57,58,59,60,61,62] (fun o=>[(71,some (.box (tabC 16 (zbg w o.1))))]) (fun o=>(o.2=false->zbg w o.1=zaf w)/\(o.2=true->o.1<=w.length*4+1)) (fun o=>if o.2 then w.length*4+2-o.1 else 0) (0,true) ⟨by simp,by simp⟩ ⟨⟨_,rfl,xap ?_⟩,trivial⟩ ⟨?_,trivial⟩ (fun x=>rfl) (fun o hg1=>?_);focus (first|rfl|(simp;done))
 focus (first|rfl|(have e:y.1=w.length:=(by omega);rw[e];rfl))
 refine evc [] [16,20] ?_;refine sq ?_ ?_<;>intro h1 h1p h1s<;>(try simp only[Q] at h1p);refine xak (ι:=Nat×Bool) hk (fun y=>[(16,.d (.i (y.1:Int))),(4,.d (.bool y.2))]) [5,6,7,9,10,17,18,19,20,21,22,23,24,25,26,27,28,29,30,31,32,33,34,35,36,37,38,39,40,41,42,43,44,45,46,47,48,49,50,51,52,53,54,55,56,57,58,59,60,61,62] (fun y=>[(71,some (.box (tabC 16 (midT w o.1 (y.1*4)))))]) (fun y=>y.1<=w.length/\(y.2=false->midT w o.1 (y.1*4)=zbg w o.1)/\(y.2=true->Strict (zbg w o.1) (midT w o.1 (y.1*4)))) (fun y=>w.length-y.1) (0,false) ⟨by simp,fun _=>rfl,by simp⟩ ⟨⟨_,rfl,xaq ?_⟩,⟨⟨_,rfl,xap ?_⟩,trivial⟩⟩ ⟨?_,trivial⟩ (fun x=>rfl) (fun y hg2=>?_);iterate 2 focus (first|rfl|(simp;done))
 focus (first|rfl|(have e:z.1=4:=(by omega);rw[e,<-Nat.succ_mul];rfl))
 have ho:=hg1.2 h1s;refine evc [] [16,20] ?_;refine sq ?_ ?_<;>intro h2 h2p h2s<;>(try simp only[Q] at h2p);refine xak (ι:=Nat×Bool) hk (fun z=>[(6,.d (.i (z.1:Int))),(4,.d (.bool z.2))]) [7,9,10,19,20,21,22,23,24,25,26,27,28,29,30,31,32,33,34,35,36,37,38,39,40,41,42,43,44,45,46,47,48,49,50,51,52,53,54,55,56,57,58,59,60,61] (fun z=>[(71,some (.box (tabC 16 (midT w o.1 (y.1*4+z.1)))))]) (fun z=>z.1<=4/\(z.2=false->midT w o.1 (y.1*4+z.1)=zbg w o.1)/\(z.2=true->Strict (zbg w o.1) (midT w o.1 (y.1*4+z.1)))) (fun z=>4-z.1) (0,y.2) ⟨by simp,hg2.2⟩ ⟨⟨_,rfl,xaq ?_⟩,⟨⟨_,rfl,xap ?_⟩,trivial⟩⟩ ⟨?_,trivial⟩ (fun x=>rfl) (fun z hg3=>?_);iterate 2 focus (first|rfl|(simp;done))
 focus (first|rfl|(show some (Res.box _)=some (Res.box _);rw[<-hg4.1,List.append_nil] at *;done))
 refine evc [] [16,20] ?_;refine sq ?_ ?_<;>intro h3 h3p h3s<;>(try simp only[Q] at h3p);refine bu [0,1] [_,_] st25 ?_;refine Walk.alloc (id:=3007) tz25 rfl .none rfl (by first|rfl|(simp only[zaz,occH,occE,Res.ids,xag,List.nil_append,AV.idsL,AV.ids,zaj,zak,zaq,zaQ,xae,List.map_nil,upC,zaG];rfl)) (by first|rfl|(simp only[zaz,occH,occE,Res.ids,xag,List.nil_append,AV.idsL,AV.ids,zaj,zak,zaq,zaQ,xae,List.map_nil,upC,zaG];rfl)) (by first|rfl|(simp only[zaz,occH,occE,Res.ids,xag,List.nil_append,AV.idsL,AV.ids,zaj,zak,zaq,zaQ,xae,List.map_nil,upC,zaG];rfl)) ?_;refine so ty25 ?_;refine tv ?_;refine Walk.call (cr:=[]) zgo (zmK hw (i:=y.1) (j:=z.1) (by omega) (by omega)) rfl .none rfl rfl (LeL.refl _) trivial rfl (by first|rfl|(simp only[zbd,List.all_cons,List.all_nil,zcg,zbV,AV.idsL,AV.ids,zaj,zak,xae,List.map_nil,zaG];rfl)) (by first|rfl|(simp only[zaz,occH,occE,Res.ids,xag,List.nil_append,AV.idsL,AV.ids,zaj,zak,zaq,zaQ,xae,List.map_nil,upC,zaG];rfl)) ?_;refine ev ?_;refine xak (ι:=List (Int)×List (Int)×(Bool)) hk (fun x=>[(30,.d (.i (x.1.length:Int))),(4,.d (.bool x.2.2))]) [9,10,31,32,33,34,35,36,37,38,39,40,41,42,43,44,45,46,47,48,49,50,51,52,53,54,55,56,57,58,59,60,61] (fun x=>[(71,some (.box (tabC 16 (rowT w o.1 (y.1*4+z.1) x.1))))]) (fun x=>x.1++x.2.1=zaW w (tyS (y.1*4+z.1))/\(x.2.2=false->rowT w o.1 (y.1*4+z.1) x.1=zbg w o.1)/\(x.2.2=true->Strict (zbg w o.1) (rowT w o.1 (y.1*4+z.1) x.1))) (fun x=>x.2.1.length) ([],zaW w (tyS (y.1*4+z.1)),z.2) ⟨by simp,hg3.2⟩ ⟨⟨_,rfl,xaq ?_⟩,⟨⟨_,rfl,xap ?_⟩,trivial⟩⟩ ⟨?_,trivial⟩ (fun x=>rfl) (fun x hg4=>?_);iterate 2 focus (first|rfl|(simp;done))
 focus (first|rfl|(show some (Res.box _)=some (Res.box _);rw[zdL];first|(rw[zet (by assumption)];done)|(rw[zdK (by assumption)];done)))
 obtain⟨pre,rest,b⟩:=x;dsimp only at hg4 ⊢;have hct:=hd.ct (y.1*4+z.1) (by omega);refine evc [] [16,20] ?_;refine sq ?_ ?_<;>intro h4 h4p h4s<;>(try simp only[Q] at h4p);rcases rest with _|⟨c,rest⟩
 ·exfalso;simp_all
 refine xaU sl29 .none rfl rfl rfl rfl (zaL hg4.1) rfl ?_;refine ev ?_;refine Walk.call (cr:=[]) ztM (zn1 hd (f:=rowT w o.1 (y.1*4+z.1) pre) (i:=y.1) (j:=z.1) (c:=c) (by omega) (by omega) (by rw[<-hg4.1];simp) (zk1 hd (by omega) (by omega) (by have hz:=congrArg List.length hg4.1;simp at hz;omega))) rfl .none rfl rfl (LeL.refl _) ⟨rfl,trivial⟩ rfl (by first|rfl|(simp only[zbd,List.all_cons,List.all_nil,zcg,zbV,AV.idsL,AV.ids,zaj,zak,xae,List.map_nil,zaG];rfl)) (by first|rfl|(simp only[zaz,occH,occE,Res.ids,xag,List.nil_append,AV.idsL,AV.ids,zaj,zak,zaq,zaQ,xae,List.map_nil,upC,zaG];rfl)) ?_;refine ev ?_;refine xal ?_;refine xaz 15 [(53,.d (.bool (decide ((0:Int)<(most w (rowT w o.1 (y.1*4+z.1) pre) (tyS (y.1*4+z.1)) c:Int)/\((rowT w o.1 (y.1*4+z.1) pre (y.1*4+z.1):Int)=0\/(most w (rowT w o.1 (y.1*4+z.1) pre) (tyS (y.1*4+z.1)) c:Int)<(rowT w o.1 (y.1*4+z.1) pre (y.1*4+z.1):Int))))))] [39,40,41,42,43,44,45,46,47,48,49,50,51,52] ?_ ?_;refine ev ?_;refine sq ?_ ?_<;>intro h5 h5p h5s<;>(try simp only[Q] at h5p);refine Walk.call (cr:=[]) zfn (zmO (w:=w) (f:=rowT w o.1 (y.1*4+z.1) pre) (i:=y.1) (j:=z.1) (by omega) hw4 (by omega)) rfl (.some rfl rfl h5) rfl rfl (LeL.refl _) ⟨rfl,trivial⟩ rfl (by first|rfl|(simp only[zbd,List.all_cons,List.all_nil,zcg,zbV,AV.idsL,AV.ids,zaj,zak,xae,List.map_nil,zaG];rfl)) (by first|rfl|(simp only[zaz,occH,occE,Res.ids,xag,List.nil_append,AV.idsL,AV.ids,zaj,zak,zaq,zaQ,xae,List.map_nil,upC,zaG];rfl)) ?_;refine evs [] [(41,true)] ?_ ⟨⟨_,rfl,h5⟩,trivial⟩;refine sq ?_ ?_<;>intro h6 h6p h6s<;>(try simp only[Q] at h6p);exact jnb rfl;refine Walk.call (cr:=[]) zfn (zmO (w:=w) (f:=rowT w o.1 (y.1*4+z.1) pre) (i:=y.1) (j:=z.1) (by omega) hw4 (by omega)) rfl (.some rfl rfl h6) rfl rfl (LeL.refl _) ⟨rfl,trivial⟩ rfl (by first|rfl|(simp only[zbd,List.all_cons,List.all_nil,zcg,zbV,AV.idsL,AV.ids,zaj,zak,xae,List.map_nil,zaG];rfl)) (by first|rfl|(simp only[zaz,occH,occE,Res.ids,xag,List.nil_append,AV.idsL,AV.ids,zaj,zak,zaq,zaQ,xae,List.map_nil,upC,zaG];rfl)) ?_;refine evs [] [(41,true),(46,false)] ?_ ⟨⟨_,rfl,h5⟩,⟨_,rfl,h6⟩,trivial⟩;exact jnb rfl;exact jnb rfl;refine xay ?_;refine tv ?_;refine sq ?_ ?_<;>intro h7 h7p h7s<;>(try simp only[Q] at h7p);refine xaV (i:=y.1) zpE .none rfl rfl rfl rfl (by omega) ?_;refine xaV (i:=z.1) zsJ .none rfl rfl rfl rfl (by omega) ?_;refine Walk.store ty3 .none rfl rfl rfl rfl rfl rfl (by simp) ((zsG (s:=y.1*4+z.1) (v:=most w (rowT w o.1 (y.1*4+z.1) pre) (tyS (y.1*4+z.1)) c) (by omega) (by omega) rfl)) ?_;refine ev ?_;refine ar ?_;refine xah ((pre++[c],rest,(decide ((0:Int)<(most w (rowT w o.1 (y.1*4+z.1) pre) (tyS (y.1*4+z.1)) c:Int)/\((rowT w o.1 (y.1*4+z.1) pre (y.1*4+z.1):Int)=0\/(most w (rowT w o.1 (y.1*4+z.1) pre) (tyS (y.1*4+z.1)) c:Int)<(rowT w o.1 (y.1*4+z.1) pre (y.1*4+z.1):Int))))||b)) ⟨⟨(by have hz:=hg4.1;rw[<-hz];simp),(by
    dsimp only;rw[zdL];cases hq:decide ((0:Int)<(most w (rowT w o.1 (y.1*4+z.1) pre) (tyS (y.1*4+z.1)) c:Int)/\((rowT w o.1 (y.1*4+z.1) pre (y.1*4+z.1):Int)=0\/(most w (rowT w o.1 (y.1*4+z.1) pre) (tyS (y.1*4+z.1)) c:Int)<(rowT w o.1 (y.1*4+z.1) pre (y.1*4+z.1):Int))) with
    |true=>exact⟨fun h=>by simp at h,fun _=>zkJ zrX hq⟩
    |false=>rw[zdK hq];exact hg4.2)⟩,(by simp),sx ⟨⟨_,rfl,xaq ?_⟩,⟨⟨_,rfl,xap ?_⟩,trivial⟩⟩ ⟨?_,trivial⟩⟩
 iterate 2 focus (first|rfl|(simp;done)|(rw[h7];rfl))
 focus (first|rfl|(show some (Res.box _)=some (Res.box _);rw[zdL];first|(rw[zet (by assumption)];done)|(rw[zdK (by assumption)];done)))
 refine ar ?_;refine xah ((pre++[c],rest,(decide ((0:Int)<(most w (rowT w o.1 (y.1*4+z.1) pre) (tyS (y.1*4+z.1)) c:Int)/\((rowT w o.1 (y.1*4+z.1) pre (y.1*4+z.1):Int)=0\/(most w (rowT w o.1 (y.1*4+z.1) pre) (tyS (y.1*4+z.1)) c:Int)<(rowT w o.1 (y.1*4+z.1) pre (y.1*4+z.1):Int))))||b)) ⟨⟨(by have hz:=hg4.1;rw[<-hz];simp),(by
    dsimp only;rw[zdL];cases hq:decide ((0:Int)<(most w (rowT w o.1 (y.1*4+z.1) pre) (tyS (y.1*4+z.1)) c:Int)/\((rowT w o.1 (y.1*4+z.1) pre (y.1*4+z.1):Int)=0\/(most w (rowT w o.1 (y.1*4+z.1) pre) (tyS (y.1*4+z.1)) c:Int)<(rowT w o.1 (y.1*4+z.1) pre (y.1*4+z.1):Int))) with
    |true=>exact⟨fun h=>by simp at h,fun _=>zkJ zrX hq⟩
    |false=>rw[zdK hq];exact hg4.2)⟩,(by simp),sx ⟨⟨_,rfl,xaq ?_⟩,⟨⟨_,rfl,xap ?_⟩,trivial⟩⟩ ⟨?_,trivial⟩⟩
 iterate 2 focus (first|rfl|(simp;done)|(rw[h7];rfl))
 focus (first|rfl|(show some (Res.box _)=some (Res.box _);rw[zdL];first|(rw[zet (by assumption)];done)|(rw[zdK (by assumption)];done)))
 have hrest:rest=[]:=by
  rcases rest with _|⟨a,b⟩
  ·rfl
  ·exfalso;have hz:=congrArg List.length (hg4.1);simp only[xaa,xab,xac] at hz;omega
 subst hrest;refine ar ?_;refine xah ((z.1+1,b)) ⟨(by
    obtain⟨p1,p2⟩:=hg4;rw[List.append_nil] at p1;rw[p1,zh0,Nat.add_assoc] at p2;exact⟨by dsimp only;omega,p2⟩),(by dsimp only;omega),sx ⟨⟨_,rfl,xaq ?_⟩,⟨⟨_,rfl,xap ?_⟩,trivial⟩⟩ ⟨?_,trivial⟩⟩
 iterate 2 focus (first|rfl|(simp;done))
 focus (first|rfl|(show some (Res.box _)=some (Res.box _);rw[<-hg4.1,List.append_nil] at *;done)|(show some (Res.box _)=some (Res.box _);rw[<-Nat.add_assoc,<-zh0,<-hg4.1,List.append_nil]))
 refine ar ?_;refine xah ((y.1+1,z.2)) ⟨(by
    have e:z.1=4:=by omega
    obtain⟨_,q1,q2⟩:=hg3;rw[e,<-Nat.succ_mul] at q1 q2;exact⟨by dsimp only;omega,q1,q2⟩),(by dsimp only;omega),sx ⟨⟨_,rfl,xaq ?_⟩,⟨⟨_,rfl,xap ?_⟩,trivial⟩⟩ ⟨?_,trivial⟩⟩
 iterate 2 focus (first|rfl|(simp;done))
 focus (first|rfl|(have e:z.1=4:=(by omega);rw[e,<-Nat.succ_mul];rfl))
 refine xah ((o.1+1,y.2)) ⟨⟨(fun h=>by
    have e:y.1=w.length:=by omega
    have h1:=hg2.2.1 h;rw[e] at h1;have h2:zbg w (o.1+1)=zbg w o.1:=h1;rw[h2];exact zvr hd.cl h2),(fun h=>by
    have e:y.1=w.length:=by omega
    have h1:=hg2.2.2 h;rw[e] at h1;have h3:=hg1.2 h1s;show o.1+1<=w.length*4+1
    rcases Nat.lt_or_ge o.1 (w.length*4+1) with h4|h4
    ·omega
    ·refine absurd ?_ (Strict.ne h1);rw[zkZ hd.cl h4];exact(zkZ hd.cl (k:=o.1+1) (by omega)).symm)⟩,(by have h3:=hg1.2 h1s;rw[h1s];dsimp only;simp only[if_true];split<;>omega),sx ⟨⟨_,rfl,xap ?_⟩,trivial⟩ ⟨?_,trivial⟩⟩
 focus (first|rfl|(simp;done))
 focus (first|rfl|(have e:y.1=w.length:=(by omega);rw[e];rfl))
 refine CWp.frzB hk 3 71 0 rfl rfl zvX rfl ?_;refine evc [] [] ?_;refine rq ?_;rotate_left;all_goals (rw[hg1.1 h1s])
end Go.Proofs.YtlfipehhbdjnjaaGreat
namespace Go.Proofs.YtlfipehhbdjnjaaGreat
open Go
set_option linter.unusedSimpArgs false
set_option linter.unusedVariables false
set_option maxRecDepth 100000
set_option maxHeartbeats 4000000
theorem zyk (w:List Data) (t:Ty) (p:Pat):(zaT w 10 t p 0).1.isSome=isP w t p:=by
 have h:=(zf9 w 10 t p 0).1;rw[h];unfold zbU isP;rw[Int.zero_add];split
 ·rename_i hz;rw[hz];rfl
 ·rename_i hz;cases hc:(zao w 10 t p&&(decide ((p.size:Int)<=60)&&linP w 10 t p)) with
  |true=>exact absurd hc hz
  |false=>rfl
theorem zjK {w:List Data} (hw:WT w){a k:Int}{p:Pat} (ht:TyIn w.length ⟨a,k⟩) (hok:p.ok):
  FnD Tryz.prog 217 [.d (zam w),.agg [.d (.i a),.d (.i k)],.agg [.d (.i p.op),.d (.i p.ctor),.d (.i p.n),.d (.i p.m),.d (.i p.var),.d (zad p.kids)]] [] (.tup [.d (zdB (zd1 (zaT w 10 ⟨a,k⟩ p 0).1)),.d (.bool (isP w ⟨a,k⟩ p))]) []:=by
 rw[<-zyk];refine bd Tryz.f217 15 [] [] fun w0 F0 own kept hk=>?_;refine bx 3004 ?_;refine bx 3005 ?_;refine ev ?_;refine ab 950 tz3 ?_;refine so ty3 ?_;refine tv ?_;refine wd zp8 (zec hw 10 (c:=0) (by omega) (by omega) ht hok (by omega) (by omega)) rfl rfl ⟨rfl,trivial⟩ ?_;refine ev ?_;refine rn0 (r2 rfl rfl) (.tup (.cons (.eqd ?_) (.cons (.eqd ?_) .nil)));rotate_left 2;all_goals (rfl)
theorem zeL {w:List Data} (hw:WT w){a k:Int}{p:Pat} (ht:TyIn w.length ⟨a,k⟩) (hok:p.ok):
  FnD Tryz.prog 138 [.d (zam w),.agg [.d (.i a),.d (.i k)],.agg [.d (.i p.op),.d (.i p.ctor),.d (.i p.n),.d (.i p.m),.d (.i p.var),.d (zad p.kids)]] [] (.d (.bool (isP w ⟨a,k⟩ p))) []:=by
 refine bd Tryz.f138 17 [] [] fun w0 F0 own kept hk=>?_;refine bx 3004 ?_;refine bx 3005 ?_;refine ev ?_;refine wc zxm (zjK hw ht hok) rfl rfl ?_;refine ev ?_;refine rq ?_;rotate_left;all_goals (rfl)
end Go.Proofs.YtlfipehhbdjnjaaGreat
namespace Go.Proofs.YtlfipehhbdjnjaaGreat
open Go
set_option linter.unusedSimpArgs false
set_option linter.unusedVariables false
set_option maxRecDepth 100000
set_option maxHeartbeats 2000000
theorem zma {w:List Data} (hs:WSmall w) (hv:za4 w=true):Dp w:=by
 have hw:=zgd hs hv;have hW:=(zcX w).1 hv;refine⟨hw,fun s hs c hc u hu=>?_,hW.len,fun s hs=>?_⟩
 ·obtain⟨j,rfl,hj⟩:=zf7 (d:=s / 4) (k:=((s % 4:Nat):Int)) hc;have hu':u∈zaa w ⟨((s / 4:Nat):Int),((s % 4:Nat):Int)⟩ (j:Int):=hu;simp only[zaa,Int.toNat_natCast,List.mem_map] at hu';obtain⟨x,hx,rfl⟩:=hu';have hco:=hW.ctor _ (zae (l:=w) (i:=s / 4) (by omega)) _ (zae hj);simp only[zbA,xad,Bool.not_eq_true',List.any_eq_false] at hco;have hax:zbR w.length x=true:=by
   have:=hco.2.2.2 x hx;cases h:zbR w.length x with
   |true=>rfl
   |false=>rw[h] at this;exact absurd rfl this
  have hci:=hco.2.2.1;simp only[zbR,zav,Bool.or_eq_true,xad,decide_eq_true_eq,and_true] at hax hci;have key:∀y:Ty,(y.data = -1\/(0<=y.data/\y.data<w.length/\0<=y.index/\y.index<=3))->InS (w.length*4) y:=by
   rintro ⟨a,k⟩ h
   rcases h with h|⟨h1,h2,h3,h4⟩
   ·exact .inl h
   ·refine .inr ⟨?_, ?_⟩
    ·simp only[zcw] at *;omega
    ·obtain⟨i,rfl⟩:=Int.eq_ofNat_of_zero_le h1;obtain⟨m,rfl⟩:=Int.eq_ofNat_of_zero_le h3;simp only[zcw,Int.toNat_natCast];exact zhL (by simp only at h4;omega)
  refine key _ ?_;unfold zcC zcE;split
  ·dsimp only;rcases hax with h|h
   ·omega
   ·right
    refine⟨by omega,by omega, ?_⟩;split<;>omega
  ·rcases hax with h|h
   ·exact .inl h.1
   ·right;omega
 ·have h1:=zgG (tyS s).index (nth w (tyS s).data.toNat).ctors 0;have h2:=(hW.data _ (zae (l:=w) (i:=s / 4) (by omega))).2.2;show(za0 (tyS s).index 0 (nth w (tyS s).data.toNat).ctors).length<=4
  have e:(tyS s).data.toNat=s / 4:=by simp only[tyS,Int.toNat_natCast]
  rw[e] at h1 ⊢;omega
theorem zbD {n:Nat}{t:Ty} (h:InS (n*4) t):TyIn n t:=by
 rcases h with h|⟨h1,h2⟩
 ·exact .inl h
 ·refine .inr ⟨zcw t / 4, ?_,by omega⟩;have:=congrArg Ty.data h2;exact this.symm
theorem za7 {w:List Data} (hd:Dp w){t:Ty}{c:Int} (ht:InS (w.length*4) t) (hc:c∈zai w t):∀u∈zaa w t c,InS (w.length*4) u:=by
 rcases ht with h|⟨h1,h2⟩
 ·unfold zai at hc;rw[if_pos h] at hc;simp at hc
 ·have hx:=hd.cl _ h1;rw[h2] at hx;have:c∈zaW w t:=by
   unfold zai at hc;split at hc
   ·simp at hc
   ·exact hc
  exact hx c this
theorem zjT {w:List Data}{a k k' c:Int}:(zaa w ⟨a,k⟩ c).length=(zaa w ⟨a,k'⟩ c).length/\∀i,(nth (zaa w ⟨a,k⟩ c) i).data=(nth (zaa w ⟨a,k'⟩ c) i).data:=by
 have hd:∀(k:Int) (t:Ty),(zcC k t).data=t.data:=fun k t=>by unfold zcC;split<;>rfl
 refine⟨by simp[zaa],fun i=>?_⟩;unfold zaa;dsimp only;generalize nth (nth w a.toNat).ctors c.toNat=q;simp only[nth,List.getD_eq_getElem?_getD,List.getElem?_map];cases q.args[i]? with
 |none=>rfl
 |some x=>simp only[Option.map_some,Option.getD_some,hd]
structure PKids (w:List Data) (n:Nat) (a k k':Int) (p:Pat):Prop where
 len5:p.op=5->p.kids.length=2
 len6:p.op=6->p.kids.length=1
 len4:p.op=4->p.kids.length=(zaa w ⟨a,k⟩ p.ctor).length
 one:p.op=5\/p.op=6->zao w n ⟨a,k'⟩ (nth p.kids 0)=true
 two:p.op=5->zao w n ⟨a,k'⟩ (nth p.kids 1)=true
 arg:p.op=4->∀i,i<(zaa w ⟨a,k⟩ p.ctor).length->zao w n ⟨(nth (zaa w ⟨a,k⟩ p.ctor) i).data,(nth (zaa w ⟨a,k'⟩ p.ctor) i).index⟩ (nth p.kids i)=true
 mem:p.op=4->p.ctor∈zai w ⟨a,k'⟩
 ops:p.op=1\/p.op=2\/(p.op=3/\a = -1)\/p.op=4\/p.op=5\/p.op=6
theorem zpL {w:List Data}{n:Nat}{a k k':Int}{p:Pat} (h:zao w (n+1) ⟨a,k'⟩ p=true):PKids w n a k k' p:=by
 obtain⟨ho,hl⟩:=zbq h;have hk:=fun i (hi:i<p.kids.length)=>zbs h hi;have ht4:p.op=4->zac w ⟨a,k'⟩ p=zaa w ⟨a,k'⟩ p.ctor:=fun h=>by unfold zac;rw[if_pos h]
 have ht5:p.op=5->zac w ⟨a,k'⟩ p=[⟨a,k'⟩,⟨a,k'⟩]:=fun h=>by unfold zac;rw[if_neg (by omega),if_pos h]
 have ht6:p.op=6->zac w ⟨a,k'⟩ p=[⟨a,k'⟩]:=fun h=>by unfold zac;rw[if_neg (by omega),if_neg (by omega),if_pos h]
 have l5:p.op=5->p.kids.length=2:=fun h=>by rw[hl,ht5 h];rfl
 have l6:p.op=6->p.kids.length=1:=fun h=>by rw[hl,ht6 h];rfl
 refine⟨l5,l6,fun h=>by rw[hl,ht4 h,zjT.1],fun h=>?_,fun h=>?_,fun h i hi=>?_,zb4 ho, ?_⟩
 ·rcases h with h|h
  ·have:=hk 0 (by rw[l5 h];omega);rwa [ht5 h] at this
  ·have:=hk 0 (by rw[l6 h];omega);rwa [ht6 h] at this
 ·have:=hk 1 (by rw[l5 h];omega);rwa [ht5 h] at this
 ·rw[(zjT (k':=k')).1] at hi;have:=hk i (by rw[hl,ht4 h];exact hi);rw[ht4 h] at this;rw[(zjT (k':=k')).2];exact this
 ·unfold ownP at ho;have:=of_decide_eq_true ho;obtain⟨_,_,_,_,q⟩:=this;simp only at q;omega
theorem zgO {w:List Data} (hd:Dp w):FnD Tryz.prog 67 [.d (zam w)] [] (.d (sPtr w (zaf w))) []:=by
 refine bd Tryz.f67 8 [] [999999] fun w0 F0 own kept hk=>?_;refine wc zxb (zlN hd) rfl rfl ?_;refine bu [0,1] [_,_] zym ?_;refine bx 3007 ?_;refine ev ?_;refine CWp.frzB hk 2 3007 0 rfl rfl rfl rfl ?_;refine CWp.ret ?_;focus (refine rn0 (r1 rfl) (.refl _);all_goals (first|rfl|(simp[];done)|(simp_all;done)|(simp_all;omega)|omega))
theorem zct {w:List Data}{a k:Int} (h:zca w ⟨a,k⟩=true):za4 w=true/\TyIn w.length ⟨a,k⟩/\(a≠ -1->0<=a/\a.toNat<w.length/\0<=k/\k<=3):=by
 unfold zca at h;rw[xad] at h;obtain⟨h1,h2⟩:=h;simp only[zhM,zav,Bool.or_eq_true,xad,decide_eq_true_eq,and_true] at h2;refine⟨h1, ?_,fun ha=>by omega⟩;rcases h2 with h|h
 ·exact .inl h.1
 ·exact .inr ⟨a.toNat,by simp only;omega,by omega⟩
theorem zuq {n d j:Nat} (hd:d<n) (hj:j<4):InS (n*4) ⟨(d:Int),(j:Int)⟩:=
 .inr ⟨by simp only[zcw,Int.toNat_natCast];omega,by simp only[zcw,Int.toNat_natCast];exact zhL hj⟩
def zaD (w:List Data) (a k:Int) (p:Pat):Bool:=zca w ⟨a,k⟩&&isP w ⟨a,k⟩ p
structure PVal (w:List Data) (a k:Int) (p:Pat):Prop where
 dp:Dp w
 tin:TyIn w.length ⟨a,k⟩
 shape:zao w 10 ⟨a,k⟩ p=true
 rng:a≠ -1->0<=a/\a.toNat<w.length/\0<=k/\k<=3
theorem pval {w:List Data} (hs:WSmall w){a k:Int}{p:Pat} (h:zaD w a k p=true):PVal w a k p:=by
 unfold zaD at h;rw[xad] at h;obtain⟨h1,h2,h3⟩:=zct h.1;have h4:=h.2;unfold isP at h4;simp only[xad] at h4;exact⟨zma hs h1,h2,h4.1,h3⟩
theorem zdT {w:List Data} (hs:WSmall w){a k:Int}{p:Pat} (hok:p.ok):
  FnD Tryz.prog 66 [.d (zam w),.agg [.d (.i a),.d (.i k)],.agg [.d (.i p.op),.d (.i p.ctor),.d (.i p.n),.d (.i p.m),.d (.i p.var),.d (zad p.kids)]] [] (.d (.bool (zaD w a k p))) []:=by
 refine bd Tryz.f66 16 [] [] fun w0 F0 own kept hk=>?_;refine bx 3004 ?_;refine bx 3005 ?_;refine ev ?_;refine wc zw7 (zk8 hs) rfl rfl ?_;refine ev ?_;refine sq ?_ ?_<;>intro h1 h1p h1s;refine Walk.call (cr:=[]) zmi (zeL (zgd hs (zct h1s).1) (zct h1s).2.1 hok) rfl (.some rfl rfl h1) rfl rfl (LeL.refl _) trivial rfl rfl rfl ?_;refine evs [] [(10,true)] ?_ ⟨⟨_,rfl,h1⟩,trivial⟩;refine rq ?_;rotate_left;refine rq ?_;rotate_left;all_goals (refine congrArg D.bool ?_;unfold zaD;simp_all)
theorem zl2 {w:List Data}{a b:Int} (hs:WSmall w):FnD Tryz.prog 126 [.d (zam w),.agg [.d (.i a),.d (.i b)]] [] (.d (.bool (zca w ⟨a,b⟩))) []:=by
 rw[<-zwU];exact zld hs
theorem zfH {w:List Data} (hs:WSmall w){a k:Int}{p:Pat} (hok:p.ok) (hb:p.size<=1000000000000):
  FnD Tryz.prog 157 [.d (zam w),.agg [.d (.i a),.d (.i k)],.agg [.d (.i p.op),.d (.i p.ctor),.d (.i p.n),.d (.i p.m),.d (.i p.var),.d (zad p.kids)]] [] (.d (.bool (zaD w a k p))) []:=by
 refine bd Tryz.f157 16 [] [] fun w0 F0 own kept hk=>?_;refine bx 3004 ?_;refine bx 3005 ?_;refine ev ?_;refine wc zw8 (zl2 hs) rfl rfl ?_;refine ev ?_;refine sq ?_ ?_<;>intro h1 h1p h1s;refine Walk.call (cr:=[]) zp1 (zhI (zgd hs (zct h1s).1) (zct h1s).2.1 hok hb) rfl (.some rfl rfl h1) rfl rfl (LeL.refl _) trivial rfl rfl rfl ?_;refine evs [] [(10,true)] ?_ ⟨⟨_,rfl,h1⟩,trivial⟩;refine rq ?_;rotate_left;refine rq ?_;rotate_left;all_goals (refine congrArg D.bool ?_;unfold zaD;simp_all)
def zaB (w:List Data) (f:Nat->Nat):Nat->Ty->Pat->Bool
 |0,_,_=>true
 |n+1,t,p=>
  if p.op=1\/p.op=2 then decide (dv f t=0)
  else if p.op=5 then zaB w f n t (nth p.kids 0)&&zaB w f n t (nth p.kids 1)
  else !(all2 (fun u q=> !zaB w f n u q) (zac w t p) p.kids)
theorem zbO {w:List Data}{f:Nat->Nat}{n:Nat}{t:Ty}{p:Pat}:zaB w f (n+1) t p=if p.op=1\/p.op=2 then decide (dv f t=0)
  else if p.op=5 then zaB w f n t (nth p.kids 0)&&zaB w f n t (nth p.kids 1)
  else !(all2 (fun u q=> !zaB w f n u q) (zac w t p) p.kids):=rfl
theorem zcG {α β:Type} [Inhabited α] [Inhabited β]{f:α->β->Bool}{a:List α}{b:List β} (hl:a.length=b.length) (h:all2 f a b=true):∀i,i<a.length->f (nth a i) (nth b i)=true:=fun i hi=>by
 cases hf:f (nth a i) (nth b i) with
 |true=>rfl
 |false=>rw[zbQ hi hl hf] at h;exact absurd h (by simp)
theorem zij {w:List Data}{t:Ty}{c:Int} (h:c∈zai w t):c∈zaW w t:=by
 unfold zai at h;split at h
 ·simp at h
 ·exact h
theorem zhu {w:List Data} (hw:WT w){a k:Int}{p:Pat} (ht:TyIn w.length ⟨a,k⟩):
  FnD Tryz.prog 141 [.d (zam w),.agg [.d (.i a),.d (.i k)],.agg [.d (.i p.op),.d (.i p.ctor),.d (.i p.n),.d (.i p.m),.d (.i p.var),.d (zad p.kids)]] [] (.d (zcm (zco w ⟨a,k⟩ p))) []:=by
 have hsh:=zjB hw (p:=p) ht;refine bd Tryz.f141 17 [] [] fun w0 F0 own kept hk=>?_;refine bx 3004 ?_;refine bx 3005 ?_;refine ev ?_;refine wc zp4 (hsh) rfl rfl ?_;refine ev ?_;refine rq ?_;rotate_left;all_goals (rfl)
theorem zbP {w:List Data} (hd:Dp w){f:Nat->Nat}:∀(n:Nat){a k:Int}{p:Pat},zao w n ⟨a,k⟩ p=true->InS (w.length*4) ⟨a,k⟩->p.ok->
  FnD Tryz.prog 68 [.d (sPtr w f),.agg [.d (.i a),.d (.i k)],.agg [.d (.i p.op),.d (.i p.ctor),.d (.i p.n),.d (.i p.m),.d (.i p.var),.d (zad p.kids)]] [] (.d (.bool (zaB w f n ⟨a,k⟩ p))) []
 |0,a,k,p,h,_,_=>by simp[zao] at h
 |n+1,a,k,p,h,hi,hok=>by
  rw[Pat.ok_iff] at hok;have hw:=hd.wt;have hw4:=hd.four;have ht:=zbD hi;have pk:=zpL (k:=k) h;obtain⟨ho,hlen⟩:=zbq h;have hkid:=fun i (hi:i<p.kids.length)=>zbs h hi;have hops:=pk.ops;have l5:=pk.len5;have hk1:=pk.one;have hk2:=pk.two;have hsT:zco w ⟨a,k⟩ p=zac w ⟨a,k⟩ p:=by
   unfold zco;rw[if_neg (fun h=>h.2 (pk.mem h.1))]
  have hkt:=zhu hw (p:=p) ht;rw[hsT] at hkt;have hins:∀i,i<(zac w ⟨a,k⟩ p).length->InS (w.length*4) (nth (zac w ⟨a,k⟩ p) i):=fun i hl=>by
   have hm:=zae hl;unfold zac at hm ⊢;split
   ·rename_i h4;rw[if_pos h4] at hm;exact za7 hd hi (pk.mem h4) _ hm
   ·rename_i h4;rw[if_neg h4] at hm;split
    ·rename_i h5;rw[if_pos h5] at hm;simp only[List.mem_cons,List.not_mem_nil,or_false,or_self] at hm;rw[hm];exact hi
    ·rename_i h5;rw[if_neg h5] at hm;split
     ·rename_i h6;rw[if_pos h6] at hm;simp only[List.mem_cons,List.not_mem_nil,or_false] at hm;rw[hm];exact hi
     ·rename_i h6;rw[if_neg h6] at hm;simp at hm
  have htl:(zac w ⟨a,k⟩ p).length<=1000000000000:=by have:=hok.1;omega
  refine bd Tryz.f68 61 [] [] fun w0 F0 own kept hk=>?_;refine bx 3004 ?_;refine bx 3005 ?_;refine ev ?_;refine sq ?_ ?_<;>intro h1 h1p h1s<;>(try simp only[Q,Pat.cs_len] at h1p);refine sq ?_ ?_<;>intro h2 h2p h2s<;>(try simp only[Q,Pat.cs_len] at h2p);refine wc zfn (zeA (n:=w.length*4) (f:=f) hi (by omega)) rfl rfl ?_;refine evd [] [] ?_;refine dr ?_;refine rq ?_;rotate_left;refine sq ?_ ?_<;>intro h3 h3p h3s<;>(try simp only[Q,Pat.cs_len] at h3p);refine xaU (i:=0) sl34 .none rfl rfl rfl rfl (zay (by omega)) rfl ?_;refine evd [] [] ?_;refine wc zfo (zbP hd n (hk1 (by omega)) hi (Pats.ok_mem hok.2 _ (zae (i:=0) (by omega)))) rfl rfl ?_;refine evd [] [] ?_;refine sq ?_ ?_<;>intro h4 h4p h4s<;>(try simp only[Q,Pat.cs_len] at h4p);refine xaU (i:=1) sl34 (.some rfl rfl h4) rfl rfl rfl rfl (zay (by omega)) rfl ?_;refine evd [] [(30,true)] ?_ ⟨⟨_,rfl,h4⟩,trivial⟩;refine Walk.call (cr:=[]) zfo (zbP hd n (hk2 (by omega)) hi (Pats.ok_mem hok.2 _ (zae (i:=1) (by omega)))) rfl (.some rfl rfl h4) rfl rfl (LeL.refl _) trivial rfl rfl rfl ?_;refine evd [] [(30,true)] ?_ ⟨⟨_,rfl,h4⟩,trivial⟩;refine dr ?_;refine rq ?_;rotate_left;refine dr ?_;refine rq ?_;rotate_left;refine wc zpX (hkt) rfl rfl ?_;refine evd [] [] ?_;refine dr ?_;refine xak (ι:=Nat) hk (fun i=>[(47,.d (.i (i:Int)))]) [6,7,8,48,49,50,51,52,53,54,55,56,57,58,59,60] (fun i=>[]) (fun i=>i<=(zac w ⟨a,k⟩ p).length/\∀i',i'<i->zaB w f n (nth (zac w ⟨a,k⟩ p) i') (nth p.kids i')=false) (fun i=>(zac w ⟨a,k⟩ p).length-i) 0 ⟨by omega,fun _ h=>absurd h (by omega)⟩ ⟨⟨_,rfl,xaq ?_⟩,trivial⟩ trivial (fun x=>rfl) (fun i hg1=>?_);focus (rfl)
  refine evc [] [] ?_;refine sq ?_ ?_<;>intro h5 h5p h5s<;>(try simp only[Q,Pat.cs_len] at h5p);refine xaU zaV .none rfl rfl rfl rfl (zas (by omega)) rfl ?_;refine ev ?_;refine ab 3008 tz25 ?_;refine ev ?_;refine so ty25 ?_;refine tv ?_;refine xaU sl34 .none rfl rfl rfl rfl (zay (by omega)) rfl ?_;refine evd [] [] ?_;refine wc zfo (zbP hd n (hkid i (by omega)) (hins i (by omega)) (Pats.ok_mem hok.2 _ (zae (by omega)))) rfl rfl ?_;refine dr ?_;refine sq ?_ ?_<;>intro h6 h6p h6s<;>(try simp only[Q,Pat.cs_len] at h6p);refine rq ?_;rotate_left;refine ar ?_;refine xah (i+1) ⟨⟨by omega,za6 hg1.2 (by assumption)⟩,(by omega),sx ⟨⟨_,rfl,xaq ?_⟩,trivial⟩ trivial⟩;focus (rfl)
  refine rq ?_;rotate_left;refine sq ?_ ?_<;>intro h7 h7p h7s<;>(try simp only[Q,Pat.cs_len] at h7p);refine wc zfn (zeA (n:=w.length*4) (f:=f) hi (by omega)) rfl rfl ?_;refine evd [] [] ?_;refine dr ?_;refine rq ?_;rotate_left;refine sq ?_ ?_<;>intro h8 h8p h8s<;>(try simp only[Q,Pat.cs_len] at h8p);refine xaU (i:=0) sl34 .none rfl rfl rfl rfl (zay (by omega)) rfl ?_;refine evd [] [] ?_;refine wc zfo (zbP hd n (hk1 (by omega)) hi (Pats.ok_mem hok.2 _ (zae (i:=0) (by omega)))) rfl rfl ?_;refine evd [] [] ?_;refine sq ?_ ?_<;>intro h9 h9p h9s<;>(try simp only[Q,Pat.cs_len] at h9p);refine xaU (i:=1) sl34 (.some rfl rfl h9) rfl rfl rfl rfl (zay (by omega)) rfl ?_;refine evd [] [(30,true)] ?_ ⟨⟨_,rfl,h9⟩,trivial⟩;refine Walk.call (cr:=[]) zfo (zbP hd n (hk2 (by omega)) hi (Pats.ok_mem hok.2 _ (zae (i:=1) (by omega)))) rfl (.some rfl rfl h9) rfl rfl (LeL.refl _) trivial rfl rfl rfl ?_;refine evd [] [(30,true)] ?_ ⟨⟨_,rfl,h9⟩,trivial⟩;refine dr ?_;refine rq ?_;rotate_left;refine dr ?_;refine rq ?_;rotate_left;refine wc zpX (hkt) rfl rfl ?_;refine evd [] [] ?_;refine dr ?_;refine xak (ι:=Nat) hk (fun i=>[(47,.d (.i (i:Int)))]) [6,7,8,48,49,50,51,52,53,54,55,56,57,58,59,60] (fun i=>[]) (fun i=>i<=(zac w ⟨a,k⟩ p).length/\∀i',i'<i->zaB w f n (nth (zac w ⟨a,k⟩ p) i') (nth p.kids i')=false) (fun i=>(zac w ⟨a,k⟩ p).length-i) 0 ⟨by omega,fun _ h=>absurd h (by omega)⟩ ⟨⟨_,rfl,xaq ?_⟩,trivial⟩ trivial (fun x=>rfl) (fun i hg1=>?_);focus (rfl)
  refine evc [] [] ?_;refine sq ?_ ?_<;>intro h10 h10p h10s<;>(try simp only[Q,Pat.cs_len] at h10p);refine xaU zaV .none rfl rfl rfl rfl (zas (by omega)) rfl ?_;refine ev ?_;refine ab 3008 tz25 ?_;refine ev ?_;refine so ty25 ?_;refine tv ?_;refine xaU sl34 .none rfl rfl rfl rfl (zay (by omega)) rfl ?_;refine evd [] [] ?_;refine wc zfo (zbP hd n (hkid i (by omega)) (hins i (by omega)) (Pats.ok_mem hok.2 _ (zae (by omega)))) rfl rfl ?_;refine dr ?_;refine sq ?_ ?_<;>intro h11 h11p h11s<;>(try simp only[Q,Pat.cs_len] at h11p);refine rq ?_;rotate_left;refine ar ?_;refine xah (i+1) ⟨⟨by omega,za6 hg1.2 (by assumption)⟩,(by omega),sx ⟨⟨_,rfl,xaq ?_⟩,trivial⟩ trivial⟩;focus (rfl)
  refine rq ?_;rotate_left;all_goals (refine congrArg D.bool ?_;rw[zbO];first|(rw[if_pos (by omega)];exact decide_eq_decide.2 (by omega))|(rw[if_neg (by omega),if_pos (by omega)];first|rfl|(simp_all;done))|(rw[if_neg (by omega),if_neg (by omega)];first|(rw[zbQ (i:=i) (by omega) (by omega) (by show(!_)=false;rw[Bool.not_eq_false'];assumption)];rfl)|(rw[zbz (by omega) (fun x hx=>by have:=hg1.2 x (by omega);simp_all)];rfl)))
mutual
theorem ztt:∀v:Val,zts v v=true
 | .mk _ _ ks=>by simp[zts,zlx ks]
theorem zlx:∀l:List Val,znG l l=true
 | []=>rfl
 |v::r=>by simp[znG,ztt v,zlx r]
end
theorem Val.c_len (v:Val):v.c.length=3:=by cases v;rfl
theorem Val.cs_rows {l:List Val}:∀x,x∈Val.cs l->x.length=3:=by
 intro x hx;rw[Val.cs_eq] at hx;obtain⟨y,_,rfl⟩:=List.mem_map.1 hx;exact y.c_len
theorem Val.cs_nil (l:List Val):Val.cs l=[]↔l=[]:=by rw[Val.cs_eq];simp
mutual
def mVal:Val->Nat
 | .mk _ _ ks=>zmS ks
def zmS:List Val->Nat
 | []=>0
 |v::r=>1+mVal v+zmS r
end
mutual
def Val.szM:Val->Int
 | .mk _ _ ks=>2+Vals.szM ks
def Vals.szM:List Val->Int
 | []=>0
 |v::r=>v.szM+Vals.szM r
end
mutual
def Val.one (k:Int):Val->Val
 | .mk _ _ ks=> .mk k (k+1) (Vals.one (k+1+1) ks)
def Vals.one (k:Int):List Val->List Val
 | []=>[]
 |v::r=>v.one k::Vals.one (k+v.szM) r
end
mutual
theorem Val.szM_nn:∀v:Val,0<=v.szM
 | .mk _ _ ks=>by have:=Vals.szM_nn ks;simp only[Val.szM];omega
theorem Vals.szM_nn:∀l:List Val,0<=Vals.szM l
 | []=>by simp[Vals.szM]
 |v::r=>by have:=Val.szM_nn v;have:=Vals.szM_nn r;simp only[Vals.szM];omega
end
mutual
theorem Val.szM_le:∀v:Val,v.szM<=2+2*(mVal v:Int)
 | .mk _ _ ks=>by have:=Vals.szM_le ks;simp only[Val.szM,mVal];omega
theorem Vals.szM_le:∀l:List Val,Vals.szM l<=2*(zmS l:Int)
 | []=>by simp[Vals.szM,zmS]
 |v::r=>by have:=Val.szM_le v;have:=Vals.szM_le r;simp only[Vals.szM,zmS];omega
end
def zaF (w:List Data):Nat->Ty->Val->Bool
 |0,_,_=>false
 |n+1,t,v=>if t.data = -1 then decide (v.ctor = -1)&&(decide (0<=v.num)&&(decide (v.num<=9)&&decide (v.kids.length=0)))
   else if v.num=0/\v.ctor∈zaW w t then all2 (zaF w n) (zaa w t v.ctor) v.kids else false
def zcN (g:Ty->Val->Int->Bool×Int):List Ty->List Val->Int->Bool×Int
 |a::r,b::s,c=>if (g a b c).1 then zcN g r s (g a b c).2 else (false,(g a b c).2)
 |_,_,c=>(true,c)
def za1 (w:List Data):Nat->Ty->Val->Int->Bool×Int
 |0,_,_,c=>(false,c+1)
 |n+1,t,v,c=>if 60<c+1 then (false,c+1)
   else if t.data = -1 then (decide (v.ctor = -1)&&(decide (0<=v.num)&&(decide (v.num<=9)&&decide (v.kids.length=0))),c+1)
   else if v.num=0/\v.ctor∈zaW w t then (if (zaa w t v.ctor).length=v.kids.length then zcN (za1 w n) (zaa w t v.ctor) v.kids (c+1) else (false,c+1))
   else (false,c+1)
theorem zrc {w:List Data}{n:Nat} (ih:∀t v c,(za1 w n t v c).1=(zaF w n t v&&decide (c+(v.size:Int)<=60))/\((za1 w n t v c).1=true->(za1 w n t v c).2=c+v.size)):
  ∀(a:List Ty) (b:List Val) (c:Int),a.length=b.length->c<=60->(zcN (za1 w n) a b c).1=(all2 (zaF w n) a b&&decide (c+(Vals.size b:Int)<=60))/\((zcN (za1 w n) a b c).1=true->(zcN (za1 w n) a b c).2=c+Vals.size b)
 | [],[],c,_,hc=>by simp[zcN,all2,Vals.size,hc]
 |x::r,y::s,c,hl,hc=>by
  obtain⟨h1,h2⟩:=ih x y c;simp only[zcN,all2,Vals.size];cases hh:(za1 w n x y c).1 with
  |true=>
   have h3:=h2 hh;rw[hh] at h1;have h4:=h1.symm;simp only[xad,decide_eq_true_eq] at h4;obtain⟨h5,h6⟩:=zrc ih r s (za1 w n x y c).2 (by simpa using hl) (by omega);simp only[if_true];rw[h5];refine⟨?_,fun hx=>?_⟩
   ·rw[h4.1,h3,Bool.true_and];congr 1
    exact decide_eq_decide.2 (by push_cast;omega)
   ·rw[<-h5] at hx;rw[h6 hx,h3];push_cast;omega
  |false=>
   rw[hh] at h1;simp only[Bool.false_eq_true,if_false,false_implies,and_true];have h4:=h1.symm;simp only[Bool.and_eq_false_imp,decide_eq_false_iff_not] at h4;symm
   cases hf:zaF w n x y with
   |false=>simp
   |true=>
    have:=h4 hf;have h7:¬(c+((y.size+Vals.size s:Nat):Int)<=60):=by push_cast;omega
    simp only[Bool.and_eq_false_imp];intro _;exact decide_eq_false h7
 | [],_::_,_,hl,_=>by simp at hl
 |_::_,[],_,hl,_=>by simp at hl
theorem xax {l:List Val} (h:l.length=0):Vals.size l=0:=by
 cases l with
 |nil=>rfl
 |cons x r=>simp at h
theorem zl0 (w:List Data):∀(n:Nat) (t:Ty) (v:Val) (c:Int),(za1 w n t v c).1=(zaF w n t v&&decide (c+(v.size:Int)<=60))/\((za1 w n t v c).1=true->(za1 w n t v c).2=c+v.size)
 |0,t,v,c=>by simp[za1,zaF]
 |n+1,t,v,c=>by
  have hsz:=Val.size_eq v;unfold za1 zaF;by_cases h1:60<c+1
  ·rw[if_pos h1];simp only[Bool.false_eq_true,false_implies,and_true];symm
   simp only[Bool.and_eq_false_imp,decide_eq_false_iff_not];intro _;omega
  ·rw[if_neg h1];by_cases h2:t.data = -1
   ·rw[if_pos h2,if_pos h2];refine⟨?_,fun hx=>?_⟩
    ·by_cases hk:v.kids.length=0
     ·have:=xax hk;have h3:decide (c+(v.size:Int)<=60)=true:=decide_eq_true (by omega);rw[h3,Bool.and_true]
     ·simp[hk]
    ·simp only[xad,decide_eq_true_eq] at hx;have:=xax hx.2.2.2;simp only;omega
   ·rw[if_neg h2,if_neg h2];by_cases h3:v.num=0/\v.ctor∈zaW w t
    ·rw[if_pos h3,if_pos h3];by_cases h4:(zaa w t v.ctor).length=v.kids.length
     ·rw[if_pos h4];obtain⟨h5,h6⟩:=zrc (fun t v c=>zl0 w n t v c) (zaa w t v.ctor) v.kids (c+1) h4 (by omega);refine⟨?_,fun hx=>?_⟩
      ·rw[h5];congr 1
       exact decide_eq_decide.2 (by omega)
      ·rw[h6 hx];omega
     ·rw[if_neg h4,zfP h4];simp
    ·rw[if_neg h3,if_neg h3];simp
mutual
def cntV (m:Int):Val->Int
 | .mk _ _ ks=>cntL m 1 ks
def cntL (m n:Int):List Val->Int
 | []=>n
 |k::r=>if n<=m then cntL m (n+cntV (m-n) k) r else n
end
theorem zt6 {m n:Int}{l:List Val} (h:¬n<=m):cntL m n l=n:=by cases l<;>simp[cntL,h]
mutual
theorem zr2:∀(v:Val) (m:Int),1<=cntV m v/\cntV m v<=v.size
 | .mk _ _ ks,m=>by
  have:=znO ks m 1 (by omega);simp only[cntV,Val.size];push_cast;omega
theorem znO:∀(l:List Val) (m n:Int),1<=n->1<=cntL m n l/\cntL m n l<=n+Vals.size l
 | [],m,n,h=>by simp[cntL,Vals.size];omega
 |k::r,m,n,h=>by
  have h1:=zr2 k (m-n);have h2:=znO r m (n+cntV (m-n) k) (by omega);simp only[cntL,Vals.size];split
  ·push_cast;omega
  ·push_cast;omega
end
mutual
theorem zvg:∀(v:Val) (m:Int),(cntV m v<=m↔(v.size:Int)<=m)/\(cntV m v<=m->cntV m v=v.size)
 | .mk _ _ ks,m=>by
  have:=zqd ks m 1;simp only[cntV,Val.size];push_cast;exact this
theorem zqd:∀(l:List Val) (m n:Int),(cntL m n l<=m↔n+(Vals.size l:Int)<=m)/\(cntL m n l<=m->cntL m n l=n+Vals.size l)
 | [],m,n=>by simp[cntL,Vals.size]
 |k::r,m,n=>by
  have h1:=zvg k (m-n);have h2:=zqd r m (n+cntV (m-n) k);have h3:=znO r m (n+cntV (m-n) k);have h4:=zr2 k (m-n);simp only[cntL,Vals.size];push_cast
  by_cases hn:n<=m
  ·rw[if_pos hn];by_cases h5:cntV (m-n) k<=m-n
   ·have h6:=h1.2 h5;rw[h6] at h2 ⊢;constructor
    ·rw[h2.1];constructor<;>intro h<;>omega
    ·intro h;rw[h2.2 h];omega
   ·have h7:¬(k.size:Int)<=m-n:=fun h=>h5 (h1.1.2 h);have h8:¬n+cntV (m-n) k<=m:=by omega
    rw[zt6 h8];constructor
    ·constructor<;>intro h<;>omega
    ·intro h;omega
  ·rw[if_neg hn];constructor
   ·constructor<;>intro h<;>omega
   ·intro h;omega
end
theorem Vals.size_split {pre rest l:List Val}{y:Val} (h:pre++y::rest=l):Vals.size l=Vals.size pre+y.size+Vals.size rest:=by
 subst h;induction pre with
 |nil=>simp[Vals.size]
 |cons x r ih=>simp only[xag,Vals.size,ih];omega
theorem zvA {l:List Val}{i:Nat} (h:i<l.length):(nth l i).size<=Vals.size l:=Vals.size_mem (zae h)
def isV (w:List Data) (t:Ty) (v:Val):Bool:=zaF w 10 t v&&decide ((v.size:Int)<=60)
theorem znh {w:List Data}{n:Nat}{a:List Ty}{b:List Val}{i:Nat}{c:Int} (ha:i<a.length) (hl:a.length=b.length) (h:(za1 w n (nth a i) (nth b i) c).1=false):
  zcN (za1 w n) (a.drop i) (b.drop i) c=(false,(za1 w n (nth a i) (nth b i) c).2):=by
 rw[zaM ha,zaM (l:=b) (by omega),zcN,if_neg (by rw[h];simp)]
theorem ztl {w:List Data}{n:Nat}{a:List Ty}{b:List Val}{i:Nat}{c:Int} (ha:i<a.length) (hl:a.length=b.length) (h:(za1 w n (nth a i) (nth b i) c).1=true):
  zcN (za1 w n) (a.drop i) (b.drop i) c=zcN (za1 w n) (a.drop (i+1)) (b.drop (i+1)) (za1 w n (nth a i) (nth b i) c).2:=by
 rw[zaM ha,zaM (l:=b) (by omega),zcN,if_pos h]
theorem zpd {w:List Data}{n:Nat}{a:List Ty}{b:List Val}{i:Nat}{c:Int} (ha:a.length<=i):zcN (za1 w n) (a.drop i) (b.drop i) c=(true,c):=by
 rw[List.drop_eq_nil_of_le ha,zcN];simp
theorem zvO (w:List Data) (n:Nat) (t:Ty) (v:Val) (c:Int) (h:(za1 w n t v c).1=true):c<=(za1 w n t v c).2/\(za1 w n t v c).2<=60:=by
 have h1:=(zl0 w n t v c);have h2:=h1.2 h;rw[h1.1] at h;simp only[xad,decide_eq_true_eq] at h;omega
theorem zgP {w:List Data} (hw:WT w):∀(n:Nat){a k d c:Int}{v:Val},d+n=11->n<=10->TyIn w.length ⟨a,k⟩->v.ok->0<=c->c<=1000000000000->
  FnD Tryz.prog 145 [.d (zam w),.agg [.d (.i a),.d (.i k)],.agg [.d (.i v.ctor),.d (.i v.num),.d (zbC v.kids)],.d (.i d),.d (.bool false),.ref 950 0] [(950,some (.box [.d (.i c)]))]
   (.d (.bool (za1 w n ⟨a,k⟩ v c).1)) [(950,some (.box [.d (.i (za1 w n ⟨a,k⟩ v c).2)]))]
 |0,a,k,d,c,v,hd,_,_,_,c0,c1=>by
  refine bd Tryz.f145 108 [] [] fun w0 F0 own kept hk=>?_;refine bx 3007 ?_;refine bx 3008 ?_;refine ev ?_;refine ar ?_;refine so ty3 ?_;refine tv ?_;refine sq ?_ ?_<;>intro h1 h1p h1s<;>(try simp only[Q] at h1p);refine sqT ?_;refine rn [(950,some (.box [.d (.i (za1 w 0 ⟨a,k⟩ v c).2)]))] (r1 rfl) (.eqd ?_) ⟨rfl,rfl⟩ (SubO.get ⟨.inr ?_,⟨.inl rfl,trivial⟩⟩) (zaA rfl);rotate_left 2;refine sq ?_ ?_<;>intro h3 h3p h3s<;>(try simp only[Q] at h3p);refine rn [(950,some (.box [.d (.i (za1 w 0 ⟨a,k⟩ v c).2)]))] (r1 rfl) (.eqd ?_) ⟨rfl,rfl⟩ (SubO.get ⟨.inr ?_,⟨.inl rfl,trivial⟩⟩) (zaA rfl);rotate_left 2;exfalso;simp at *;omega;all_goals (first|((rfl);done)|(rfl))
 |n+1,a,k,d,c,v,hd,hn,ht,hok,c0,c1=>by
  by_cases h60:60<c+1
  ·skip
   refine bd Tryz.f145 108 [] [] fun w0 F0 own kept hk=>?_;refine bx 3007 ?_;refine bx 3008 ?_;refine ev ?_;refine ar ?_;refine so ty3 ?_;refine tv ?_;refine sq ?_ ?_<;>intro h1 h1p h1s<;>(try simp only[Q] at h1p);refine sqT ?_;refine rn [(950,some (.box [.d (.i (za1 w (n+1) ⟨a,k⟩ v c).2)]))] (r1 rfl) (.eqd ?_) ⟨rfl,rfl⟩ (SubO.get ⟨.inr ?_,⟨.inl rfl,trivial⟩⟩) (zaA rfl);rotate_left 2;refine sq ?_ ?_<;>intro h3 h3p h3s<;>(try simp only[Q] at h3p);refine rn [(950,some (.box [.d (.i (za1 w (n+1) ⟨a,k⟩ v c).2)]))] (r1 rfl) (.eqd ?_) ⟨rfl,rfl⟩ (SubO.get ⟨.inr ?_,⟨.inl rfl,trivial⟩⟩) (zaA rfl);rotate_left 2;exfalso;simp at *;omega;all_goals (first|((unfold za1;rw[if_pos h60]);done)|((unfold za1;rw[if_pos h60];rfl)))
  rcases ht with ha|⟨e,he,hlt⟩
  ·have ha':a = -1:=ha;subst ha';refine bd Tryz.f145 108 [] [] fun w0 F0 own kept hk=>?_;refine bx 3007 ?_;refine bx 3008 ?_;refine ev ?_;refine ar ?_;refine so ty3 ?_;refine tv ?_;refine sq ?_ ?_<;>intro h1 h1p h1s<;>(try simp only[Q] at h1p);refine sqT ?_;exfalso;simp at *;omega;refine sq ?_ ?_<;>intro h3 h3p h3s<;>(try simp only[Q] at h3p);exfalso;simp at *;omega;refine sqF ?_;refine sqF ?_;refine sq ?_ ?_<;>intro h5 h5p h5s<;>(try simp only[Q] at h5p);refine sq ?_ ?_<;>intro h6 h6p h6s<;>(try simp only[Q] at h6p);refine Walk.call (cr:=[]) zej (zbt) rfl (.some rfl rfl h6) rfl rfl (LeL.refl _) trivial rfl rfl rfl ?_;refine evs [] [(52,true)] ?_ ⟨⟨_,rfl,h6⟩,trivial⟩;refine sq ?_ ?_<;>intro h7 h7p h7s<;>(try simp only[Q] at h7p);refine rn [(950,some (.box [.d (.i (za1 w (n+1) ⟨-1,k⟩ v c).2)]))] (r1 rfl) (.eqd ?_) ⟨rfl,rfl⟩ (SubO.get ⟨.inr ?_,⟨.inl rfl,trivial⟩⟩) (zaA rfl);rotate_left 2;refine rn [(950,some (.box [.d (.i (za1 w (n+1) ⟨-1,k⟩ v c).2)]))] (r1 rfl) (.eqd ?_) ⟨rfl,rfl⟩ (SubO.get ⟨.inr ?_,⟨.inl rfl,trivial⟩⟩) (zaA rfl);rotate_left 2;refine sqF ?_;refine rn [(950,some (.box [.d (.i (za1 w (n+1) ⟨-1,k⟩ v c).2)]))] (r1 rfl) (.eqd ?_) ⟨rfl,rfl⟩ (SubO.get ⟨.inr ?_,⟨.inl rfl,trivial⟩⟩) (zaA rfl);rotate_left 2;exact absurd h5 (by simp);all_goals (first|((refine congrArg D.bool ?_;unfold za1;rw[if_neg h60,if_pos rfl];simp only[zav] at *;first|(simp_all[Val.cs_len];done)|(simp_all[Val.cs_len];intro h1 h2;omega));done)|((unfold za1;rw[if_neg h60,if_pos rfl];rfl)))
  have he':a=(e:Int):=he;subst he';have hok':=hok;rw[Val.ok_iff] at hok;have hcl:=zlk hw (d:=e) (k:=k);have hdn:¬(e:Int) = -1:=by omega
  by_cases hv:v.num=0/\v.ctor∈zaW w ⟨e,k⟩
  ·have hal:=zgT hw hlt (k:=k) (zf7 (k:=k) (c:=v.ctor) hv.2);by_cases hlen:(zaa w ⟨e,k⟩ v.ctor).length=v.kids.length
   ·have hsc:za1 w (n+1) ⟨e,k⟩ v c=zcN (za1 w n) (zaa w ⟨e,k⟩ v.ctor) v.kids (c+1):=by
     conv=>lhs;unfold za1
     rw[if_neg h60,if_neg hdn,if_pos hv,if_pos hlen]
    rw[hsc];refine bd Tryz.f145 108 [] [] fun w0 F0 own kept hk=>?_;refine bx 3007 ?_;refine bx 3008 ?_;refine ev ?_;refine ar ?_ (by(constructor<;>omega));refine so ty3 ?_;refine tv ?_;refine sq ?_ ?_<;>intro h1 h1p h1s<;>(try simp only[Q,Val.cs_len,Ty.eta] at h1p);refine sqT ?_;exfalso;simp at *;omega;refine sq ?_ ?_<;>intro h3 h3p h3s<;>(try simp only[Q,Val.cs_len,Ty.eta] at h3p);exfalso;simp at *;omega;refine sqF ?_;refine sqF ?_;refine sq ?_ ?_<;>intro h5 h5p h5s<;>(try simp only[Q,Val.cs_len,Ty.eta] at h5p);exfalso;simp at * <;>omega;refine sq ?_ ?_<;>intro h6 h6p h6s<;>(try simp only[Q,Val.cs_len,Ty.eta] at h6p);refine dr ?_;refine sqT ?_;exfalso;have e1:=hv.1;have e2:=hv.2;simp_all;refine Walk.call (cr:=[]) zgo (zee hw hlt) rfl (.some rfl rfl h6) rfl rfl (LeL.refl _) trivial rfl rfl rfl ?_;refine evd [] [(67,false)] ?_ ⟨⟨_,rfl,h6⟩,trivial⟩;refine Walk.call (cr:=[]) zjW (zb3 hcl) rfl (.some rfl rfl h6) rfl rfl (LeL.refl _) trivial rfl rfl rfl ?_;refine evd [] [(67,false)] ?_ ⟨⟨_,rfl,h6⟩,trivial⟩;refine dr ?_;refine sq ?_ ?_<;>intro h8 h8p h8s<;>(try simp only[Q,Val.cs_len,Ty.eta] at h8p);exfalso;have e1:=hv.1;have e2:=hv.2;simp_all;refine wc zek (zeW hw hlt (zf7 (k:=k) (c:=v.ctor) hv.2)) rfl rfl ?_;refine ev ?_;refine sq ?_ ?_<;>intro h9 h9p h9s<;>(try simp only[Q,Val.cs_len,Ty.eta] at h9p);exfalso;simp[Val.cs_len,hlen] at h9;refine xak (ι:=Nat×Int) hk (fun x=>[(90,.d (.i (x.1:Int)))]) [12,14,15,91,92,93,94,95,96,97,98,99,100,101,102,103,104,105,106,107] (fun x=>[(950,some (.box [.d (.i x.2)]))]) (fun x=>x.1<=v.kids.length/\zcN (za1 w n) ((zaa w ⟨e,k⟩ v.ctor).drop x.1) (v.kids.drop x.1) x.2=zcN (za1 w n) (zaa w ⟨e,k⟩ v.ctor) v.kids (c+1)/\0<=x.2/\x.2<=60) (fun x=>v.kids.length-x.1) (0,c+1) ⟨by simp,by simp,by dsimp only;omega,by dsimp only;omega⟩ ⟨⟨_,rfl,xaq ?_⟩,trivial⟩ ⟨?_,trivial⟩ (fun x=>rfl) (fun x hg1=>?_);focus (rfl)
    focus (first|rfl|(simp[getH];done))
    refine evc [] [] ?_;refine sq ?_ ?_<;>intro h10 h10p h10s<;>(try simp only[Q,Val.cs_len,Ty.eta] at h10p);refine xaU sl47 .none rfl rfl rfl rfl (zoq (by omega)) rfl ?_;refine ev ?_;refine ab 3015 tz49 ?_;refine ev ?_;refine so ty49 ?_;refine tv ?_;refine xaU zaV .none rfl rfl rfl rfl (zas (by omega)) rfl ?_;refine evd [] [] ?_;refine ar ?_ (by(constructor<;>omega));refine wd ztC (zgP hw n (a:=(nth (zaa w ⟨e,k⟩ v.ctor) x.1).data) (k:=(nth (zaa w ⟨e,k⟩ v.ctor) x.1).index) (c:=x.2) (by omega) (by omega) (zjS hw hlt (k:=k) (zf7 (k:=k) (c:=v.ctor) hv.2) (zae (by omega))) (Vals.ok_mem hok.2 _ (zae (by omega))) (by omega) (by omega)) rfl rfl ⟨rfl,trivial⟩ ?_;refine evd [] [] ?_;refine dr ?_;refine sq ?_ ?_<;>intro h11 h11p h11s<;>(try simp only[Q,Val.cs_len,Ty.eta] at h11p);refine rn [(950,some (.box [.d (.i (zcN (za1 w n) (zaa w ⟨e,k⟩ v.ctor) v.kids (c+1)).2)]))] (r1 rfl) (.eqd ?_) ⟨rfl,rfl⟩ (SubO.get ⟨.inr ?_,⟨.inl rfl,trivial⟩⟩) (zaA rfl);rotate_left 2;refine ar ?_ (by(constructor<;>omega));refine xah ((x.1+1,(za1 w n (nth (zaa w ⟨e,k⟩ v.ctor) x.1) (nth v.kids x.1) x.2).2)) ⟨(by
          have hz:(za1 w n (nth (zaa w ⟨e,k⟩ v.ctor) x.1) (nth v.kids x.1) x.2).1=true:=by simp_all
          have hb:=zvO w n _ _ _ hz;obtain⟨h1,h2,h3,h4⟩:=hg1;refine⟨by dsimp only;omega, ?_,by dsimp only;omega,by dsimp only;omega⟩;rw[<-h2,ztl (i:=x.1) (by omega) hlen hz]),(by dsimp only;omega),sx ⟨⟨_,rfl,xaq ?_⟩,trivial⟩ ⟨?_,trivial⟩⟩
    focus (rfl)
    focus (first|rfl|(simp[getH];done))
    refine rn [(950,some (.box [.d (.i (zcN (za1 w n) (zaa w ⟨e,k⟩ v.ctor) v.kids (c+1)).2)]))] (r1 rfl) (.eqd ?_) ⟨rfl,rfl⟩ (SubO.get ⟨.inr ?_,⟨.inl rfl,trivial⟩⟩) (zaA rfl);rotate_left 2;all_goals (first|((refine congrArg D.bool ?_;first|(obtain⟨h1,h2,h3,h4⟩:=hg1;rw[<-h2,zpd (by simp[Val.cs_len] at *;omega)])|(obtain⟨h1,h2,h3,h4⟩:=hg1;rw[<-h2,znh (by simp[Val.cs_len] at *;omega) hlen (by simp_all)]));done)|(first|(obtain⟨h1,h2,h3,h4⟩:=hg1;show some (Res.box _)=some (Res.box _);rw[<-h2,zpd (by simp[Val.cs_len] at *;omega)])|(obtain⟨h1,h2,h3,h4⟩:=hg1;show some (Res.box _)=some (Res.box _);rw[<-h2,znh (by simp[Val.cs_len] at *;omega) hlen (by simp_all)])))
   ·have hsc:za1 w (n+1) ⟨e,k⟩ v c=(false,c+1):=by
     conv=>lhs;unfold za1
     rw[if_neg h60,if_neg hdn,if_pos hv,if_neg hlen]
    rw[hsc];refine bd Tryz.f145 108 [] [] fun w0 F0 own kept hk=>?_;refine bx 3007 ?_;refine bx 3008 ?_;refine ev ?_;refine ar ?_;refine so ty3 ?_;refine tv ?_;refine sq ?_ ?_<;>intro h1 h1p h1s<;>(try simp only[Q,Val.cs_len] at h1p);refine sqT ?_;exfalso;simp at *;omega;refine sq ?_ ?_<;>intro h3 h3p h3s<;>(try simp only[Q,Val.cs_len] at h3p);exfalso;simp at *;omega;refine sqF ?_;refine sqF ?_;refine sq ?_ ?_<;>intro h5 h5p h5s<;>(try simp only[Q,Val.cs_len] at h5p);exfalso;simp at * <;>omega;refine sq ?_ ?_<;>intro h6 h6p h6s<;>(try simp only[Q,Val.cs_len] at h6p);refine dr ?_;refine sqT ?_;exfalso;have e1:=hv.1;have e2:=hv.2;simp_all;refine Walk.call (cr:=[]) zgo (zee hw hlt) rfl (.some rfl rfl h6) rfl rfl (LeL.refl _) trivial rfl rfl rfl ?_;refine evd [] [(67,false)] ?_ ⟨⟨_,rfl,h6⟩,trivial⟩;refine Walk.call (cr:=[]) zjW (zb3 hcl) rfl (.some rfl rfl h6) rfl rfl (LeL.refl _) trivial rfl rfl rfl ?_;refine evd [] [(67,false)] ?_ ⟨⟨_,rfl,h6⟩,trivial⟩;refine dr ?_;refine sq ?_ ?_<;>intro h8 h8p h8s<;>(try simp only[Q,Val.cs_len] at h8p);exfalso;have e1:=hv.1;have e2:=hv.2;simp_all;refine wc zek (zeW hw hlt (zf7 (k:=k) (c:=v.ctor) hv.2)) rfl rfl ?_;refine ev ?_;refine sq ?_ ?_<;>intro h9 h9p h9s<;>(try simp only[Q,Val.cs_len] at h9p);refine rn [(950,some (.box [.d (.i (c+1))]))] (r1 rfl) (.eqd ?_) ⟨rfl,rfl⟩ (SubO.get ⟨.inr ?_,⟨.inl rfl,trivial⟩⟩) (zaA rfl);rotate_left 2;exfalso;simp[Val.cs_len] at h9;omega;all_goals (first|((rfl);done)|(rfl))
  ·have hsc:za1 w (n+1) ⟨e,k⟩ v c=(false,c+1):=by
    conv=>lhs;unfold za1
    rw[if_neg h60,if_neg hdn,if_neg hv]
   rw[hsc];refine bd Tryz.f145 108 [] [] fun w0 F0 own kept hk=>?_;refine bx 3007 ?_;refine bx 3008 ?_;refine ev ?_;refine ar ?_;refine so ty3 ?_;refine tv ?_;refine sq ?_ ?_<;>intro h1 h1p h1s<;>(try simp only[Q] at h1p);refine sqT ?_;exfalso;simp at *;omega;refine sq ?_ ?_<;>intro h3 h3p h3s<;>(try simp only[Q] at h3p);exfalso;simp at *;omega;refine sqF ?_;refine sqF ?_;refine sq ?_ ?_<;>intro h5 h5p h5s<;>(try simp only[Q] at h5p);exfalso;simp at * <;>omega;refine sq ?_ ?_<;>intro h6 h6p h6s<;>(try simp only[Q] at h6p);refine dr ?_;refine sqT ?_;refine rn [(950,some (.box [.d (.i (c+1))]))] (r1 rfl) (.eqd ?_) ⟨rfl,rfl⟩ (SubO.get ⟨.inr ?_,⟨.inl rfl,trivial⟩⟩) (zaA rfl);rotate_left 2;refine Walk.call (cr:=[]) zgo (zee hw hlt) rfl (.some rfl rfl h6) rfl rfl (LeL.refl _) trivial rfl rfl rfl ?_;refine evd [] [(67,false)] ?_ ⟨⟨_,rfl,h6⟩,trivial⟩;refine Walk.call (cr:=[]) zjW (zb3 hcl) rfl (.some rfl rfl h6) rfl rfl (LeL.refl _) trivial rfl rfl rfl ?_;refine evd [] [(67,false)] ?_ ⟨⟨_,rfl,h6⟩,trivial⟩;refine dr ?_;refine sq ?_ ?_<;>intro h8 h8p h8s<;>(try simp only[Q] at h8p);refine rn [(950,some (.box [.d (.i (c+1))]))] (r1 rfl) (.eqd ?_) ⟨rfl,rfl⟩ (SubO.get ⟨.inr ?_,⟨.inl rfl,trivial⟩⟩) (zaA rfl);rotate_left 2;exfalso;simp_all;all_goals (first|((rfl);done)|(rfl))
theorem zhY {w:List Data} (hw:WT w){a k:Int}{v:Val} (ht:TyIn w.length ⟨a,k⟩) (hok:v.ok):
  FnD Tryz.prog 71 [.d (zam w),.agg [.d (.i a),.d (.i k)],.agg [.d (.i v.ctor),.d (.i v.num),.d (zbC v.kids)]] [] (.d (.bool (isV w ⟨a,k⟩ v))) []:=by
 have hz:=(zl0 w 10 ⟨a,k⟩ v 0).1;rw[Int.zero_add] at hz;refine bd Tryz.f71 12 [] [] fun w0 F0 own kept hk=>?_;refine bx 3004 ?_;refine bx 3005 ?_;refine ev ?_;refine ab 950 tz3 ?_;refine so ty3 ?_;refine tv ?_;refine wd ztC (zgP hw 10 (c:=0) (by omega) (by omega) ht hok (by omega) (by omega)) rfl rfl ⟨rfl,trivial⟩ ?_;refine ev ?_;refine rq ?_;rotate_left;all_goals (rw[hz];rfl)
theorem zeM {α β:Type}{f:α->β->Bool}{a:List α}{b:List β} (h:all2 f a b=true):a.length=b.length:=by
 by_cases e:a.length=b.length
 ·exact e
 ·rw[zfP e] at h;exact absurd h (by simp)
structure Bd where
 var:Int
 val:Val
def Bd.c (b:Bd):List D:=[.i b.var,.i b.val.ctor,.i b.val.num,zbC b.val.kids]
abbrev zql (l:List Bd):D:= .sl (l.map Bd.c)
instance:Inhabited Bd:=⟨⟨0,default⟩⟩
def zbu (f:Pat->Val->List Bd×Bool):List Pat->List Val->List Bd->List Bd×Bool
 |p::r,v::s,acc=>if (f p v).2=true then zbu f r s (acc++(f p v).1) else ([],false)
 |_,_,acc=>(acc,true)
def zau:Nat->Pat->Val->List Bd×Bool
 |0,_,_=>([],false)
 |n+1,p,v=>
  if p.op=1 then ([],true)
  else if p.op=2 then ([⟨p.var,v⟩],true)
  else if p.op=3 then ([],zav v.num p.n p.m)
  else if p.op=5 then (if (zau n (nth p.kids 0) v).2=true then ((zau n (nth p.kids 0) v).1,true) else zau n (nth p.kids 1) v)
  else if p.op=6 then (⟨p.var,v⟩::(zau n (nth p.kids 0) v).1,(zau n (nth p.kids 0) v).2)
  else if p.ctor=v.ctor then zbu (zau n) p.kids v.kids [] else ([],false)
section
variable {n:Nat}{p:Pat}{v:Val}
theorem ze9 (h:p.op=1):zau (n+1) p v=([],true):=by unfold zau;rw[if_pos h]
theorem zfX (h:p.op=2):zau (n+1) p v=([⟨p.var,v⟩],true):=by unfold zau;rw[if_neg (by omega),if_pos h]
theorem zeC (h:p.op=3):zau (n+1) p v=([],zav v.num p.n p.m):=by unfold zau;rw[if_neg (by omega),if_neg (by omega),if_pos h]
theorem zeY (h:p.op=5) (h2:(zau n (nth p.kids 0) v).2=true):zau (n+1) p v=((zau n (nth p.kids 0) v).1,true):=by
 conv=>lhs;unfold zau
 rw[if_neg (by omega),if_neg (by omega),if_neg (by omega),if_pos h,if_pos h2]
theorem zf0 (h:p.op=5) (h2:(zau n (nth p.kids 0) v).2=false):zau (n+1) p v=zau n (nth p.kids 1) v:=by
 conv=>lhs;unfold zau
 rw[if_neg (by omega),if_neg (by omega),if_neg (by omega),if_pos h,if_neg (by rw[h2];simp)]
theorem zfa (h:p.op=6):zau (n+1) p v=(⟨p.var,v⟩::(zau n (nth p.kids 0) v).1,(zau n (nth p.kids 0) v).2):=by
 conv=>lhs;unfold zau
 rw[if_neg (by omega),if_neg (by omega),if_neg (by omega),if_neg (by omega),if_pos h]
theorem zfY (h:p.op=4) (h2:p.ctor=v.ctor):zau (n+1) p v=zbu (zau n) p.kids v.kids []:=by
 conv=>lhs;unfold zau
 rw[if_neg (by omega),if_neg (by omega),if_neg (by omega),if_neg (by omega),if_neg (by omega),if_pos h2]
theorem zfZ (h:p.op=4) (h2:¬p.ctor=v.ctor):zau (n+1) p v=([],false):=by
 conv=>lhs;unfold zau
 rw[if_neg (by omega),if_neg (by omega),if_neg (by omega),if_neg (by omega),if_neg (by omega),if_neg h2]
end
theorem zmT {f:Pat->Val->List Bd×Bool}:∀ {a:List Pat}{b:List Val}{acc:List Bd},(zbu f a b acc).2=true->∀i,i<a.length->i<b.length->(f (nth a i) (nth b i)).2=true
 | [],_,_,_,i,h,_=>by simp at h
 |_::_,[],_,_,i,_,h=>by simp at h
 |p::r,v::s,acc,h,i,h1,h2=>by
  unfold zbu at h;split at h
  ·rename_i hp;cases i with
   |zero=>exact hp
   |succ i=>exact zmT h i (by simpa using h1) (by simpa using h2)
  ·exact absurd h (by simp)
theorem zlo {f:Pat->Val->List Bd×Bool}{a:List Pat}{b:List Val}{acc:List Bd}{i:Nat} (h1:i<a.length) (h2:i<b.length) (h:(f (nth a i) (nth b i)).2=true):
  zbu f (a.drop i) (b.drop i) acc=zbu f (a.drop (i+1)) (b.drop (i+1)) (acc++(f (nth a i) (nth b i)).1):=by
 rw[zaM h1,zaM h2];conv=>lhs;unfold zbu
 rw[if_pos h]
theorem zs5 {f:Pat->Val->List Bd×Bool}{a:List Pat}{b:List Val}{acc:List Bd}{i:Nat} (h1:i<a.length) (h2:i<b.length) (h:(f (nth a i) (nth b i)).2=false):
  zbu f (a.drop i) (b.drop i) acc=([],false):=by
 rw[zaM h1,zaM h2];conv=>lhs;unfold zbu
 rw[if_neg (by rw[h];simp)]
theorem zmU {f:Pat->Val->List Bd×Bool}{a:List Pat}{b:List Val}{acc:List Bd}{i:Nat} (h1:a.length<=i):zbu f (a.drop i) (b.drop i) acc=(acc,true):=by
 rw[List.drop_eq_nil_of_le h1];cases b.drop i<;>rfl
def BdOk (m:Nat) (l:List Bd):Prop:=∀x∈l,x.val.ok/\x.val.size<=m
theorem BdOk.app {m:Nat}{a b:List Bd} (h1:BdOk m a) (h2:BdOk m b):BdOk m (a++b):=fun x hx=>by
 rcases List.mem_append.1 hx with h|h
 ·exact h1 x h
 ·exact h2 x h
theorem BdOk.mono {m k:Nat}{a:List Bd} (h:BdOk m a) (hk:m<=k):BdOk k a:=fun x hx=>⟨(h x hx).1,Nat.le_trans (h x hx).2 hk⟩
theorem zoR {f:Pat->Val->List Bd×Bool}{m:Nat}:∀ {a:List Pat}{b:List Val}{acc:List Bd}{k:Nat},(∀p∈a,∀v∈b,BdOk m (f p v).1/\(f p v).1.length<=p.size)->BdOk m acc->acc.length<=k->BdOk m (zbu f a b acc).1/\(zbu f a b acc).1.length<=k+Pats.size a
 | [],b,acc,k,_,h2,h3=>by cases b<;>exact⟨h2,by simp only[zbu,Pats.size];omega⟩
 |_::_,[],acc,k,_,h2,h3=>⟨h2,by simp only[zbu];omega⟩
 |p::r,v::s,acc,k,h1,h2,h3=>by
  unfold zbu;split
  ·have h4:=h1 p (by simp) v (by simp);have:=zoR (f:=f) (a:=r) (b:=s) (acc:=acc++(f p v).1) (k:=k+p.size) (fun q hq u hu=>h1 q (by simp[hq]) u (by simp[hu])) (h2.app h4.1) (by rw[xaa];omega);refine⟨this.1, ?_⟩;simp only[Pats.size];omega
  ·exact⟨fun x hx=>by simp at hx,by simp⟩
theorem zu0 {w:List Data}{t:Ty}{p:Pat} (h:p.op=5):zac w t p=[t,t]:=by unfold zac;rw[if_neg (by omega),if_pos h]
theorem zu1 {w:List Data}{t:Ty}{p:Pat} (h:p.op=6):zac w t p=[t]:=by unfold zac;rw[if_neg (by omega),if_neg (by omega),if_pos h]
theorem zaU {w:List Data}{t:Ty}{p:Pat} (h:p.op=4):zac w t p=zaa w t p.ctor:=by unfold zac;rw[if_pos h]
theorem zdZ {w:List Data}{n:Nat}{t:Ty}{p:Pat} (h:zao w (n+1) t p=true):p.op=1\/p.op=2\/p.op=3\/p.op=4\/p.op=5\/p.op=6:=by
 have h1:=(zbq h).1;unfold ownP at h1;have h2:=(of_decide_eq_true h1).2.2.2.2;omega
theorem zdM {w:List Data}{n:Nat}{t:Ty}{p:Pat} (h:zao w (n+1) t p=true) (h5:p.op=5):p.kids.length=2/\zao w n t (nth p.kids 0)=true/\zao w n t (nth p.kids 1)=true:=by
 have hl:=(zbq h).2;have h0:=fun i hi=>zbs h (i:=i) hi;rw[zu0 h5] at hl h0;have hl':p.kids.length=2:=hl;exact⟨hl',h0 0 (by omega),h0 1 (by omega)⟩
theorem zcQ {w:List Data}{n:Nat}{t:Ty}{p:Pat} (h:zao w (n+1) t p=true) (h6:p.op=6):p.kids.length=1/\zao w n t (nth p.kids 0)=true:=by
 have hl:=(zbq h).2;have h0:=fun i hi=>zbs h (i:=i) hi;rw[zu1 h6] at hl h0;have hl':p.kids.length=1:=hl;exact⟨hl',h0 0 (by omega)⟩
theorem zer {w:List Data}:∀(n:Nat){t:Ty}{p:Pat}{v:Val},zao w n t p=true->v.ok->BdOk v.size (zau n p v).1/\(zau n p v).1.length<=p.size
 |0,t,p,v,h,_=>by simp[zao] at h
 |n+1,t,p,v,h,hv=>by
  have hs:=Pat.size_eq p;have hsv:=Val.size_eq v;have hv':=hv;rw[Val.ok_iff] at hv';have one:BdOk v.size [⟨p.var,v⟩]:=fun x hx=>by simp only[List.mem_singleton] at hx;subst hx;exact⟨hv,Nat.le_refl _⟩
  have nil:BdOk v.size []:=fun x hx=>by simp at hx
  by_cases h1:p.op=1
  ·rw[ze9 h1];exact⟨nil,by simp⟩
  by_cases h2:p.op=2
  ·rw[zfX h2];exact⟨one,by simp only[List.length_singleton];omega⟩
  by_cases h3:p.op=3
  ·rw[zeC h3];exact⟨nil,by simp⟩
  by_cases h5:p.op=5
  ·obtain⟨hl,s0,s1⟩:=zdM h h5;have k0:=zer n s0 hv;have k1:=zer n s1 hv;have z0:=zb7 (l:=p.kids) (i:=0) (by omega);have z1:=zb7 (l:=p.kids) (i:=1) (by omega);cases hm:(zau n (nth p.kids 0) v).2 with
   |true=>rw[zeY h5 hm];exact⟨k0.1,by have:=k0.2;dsimp only;omega⟩
   |false=>rw[zf0 h5 hm];exact⟨k1.1,by have:=k1.2;omega⟩
  by_cases h6:p.op=6
  ·obtain⟨hl,s0⟩:=zcQ h h6;have k0:=zer n s0 hv;have z0:=zb7 (l:=p.kids) (i:=0) (by omega);rw[zfa h6];exact⟨one.app k0.1,by have:=k0.2;simp only[xab];omega⟩
  have h4:p.op=4:=by have:=zdZ h;omega
  by_cases hc:p.ctor=v.ctor
  ·rw[zfY h4 hc];have:=zoR (f:=zau n) (m:=v.size) (a:=p.kids) (b:=v.kids) (acc:=[]) (k:=0) (fun q hq u hu=>by
    obtain⟨i,hi,rfl⟩:=List.getElem_of_mem hq;have e:p.kids[i]=nth p.kids i:=by simp[nth,List.getD,hi]
    have:=zer n (v:=u) (zbs h hi) (Vals.ok_mem hv'.2 u hu);rw[e];exact⟨this.1.mono (by have:=Vals.size_mem hu;omega),this.2⟩) nil (by simp)
   exact⟨this.1,by have:=this.2;omega⟩
  ·rw[zfZ h4 hc];exact⟨nil,by simp⟩
theorem zsd {w:List Data}:∀(m:Nat){t:Ty}{v:Val},zaF w m t v=true->Hd w m t
 |0,_,_,h=>by simp[zaF] at h
 |m+1,t,v,h=>by
  by_cases hd:t.data = -1
  ·exact .inl hd
  ·unfold zaF at h;rw[if_neg hd] at h;split at h
   ·rename_i hc;have hl:=zeM h;refine .inr ⟨v.ctor,hc.2,hd,fun u hu=>?_⟩;obtain⟨i,hi,rfl⟩:=List.getElem_of_mem hu;have:=zcG hl h i hi;have e:(zaa w t v.ctor)[i]=nth (zaa w t v.ctor) i:=by simp[nth,List.getD,hi]
    rw[e];exact zsd m this
   ·exact absurd h (by simp)
theorem zwD {w:List Data} (hd:Dp w){m:Nat}{t:Ty}{v:Val} (ht:InS (w.length*4) t) (h:zaF w m t v=true):0<dv (zaf w) t:=by
 have a:Snd w (zaf w)/\Cmp w (w.length*4+1) (zaf w):=zc0 hd.cl (w.length*4+1);have h1:=zsd m h;rcases ht with ht|ht
 ·unfold dv;rw[if_pos ht];omega
 ·refine(zj6 (k:=w.length*4+1) a.2 (.inr ht) ?_).1;have:=ht.2;rw[<-this] at h1 ⊢;exact zmI hd.cl ht.1 h1
theorem zdh {w:List Data}{m:Nat}{t:Ty}{v:Val} (h:zaF w (m+1) t v=true) (hd:t.data≠ -1):v.ctor∈zai w t/\(zaa w t v.ctor).length=v.kids.length/\∀i,i<v.kids.length->zaF w m (nth (zaa w t v.ctor) i) (nth v.kids i)=true:=by
 unfold zaF at h;rw[if_neg hd] at h;split at h
 ·rename_i hc;have hl:=zeM h;exact⟨by unfold zai;rw[if_neg hd];exact hc.2,hl,fun i hi=>zcG hl h i (by omega)⟩
 ·exact absurd h (by simp)
inductive Ex where
 |mk (op n ctor:Int) (kids:List Ex)
 deriving Inhabited
mutual
def Ex.c:Ex->List D
 | .mk op n ctor kids=>[.i op,.i n,.i ctor,.sl (Ex.cs kids)]
def Ex.cs:List Ex->List (List D)
 | []=>[]
 |v::r=>v.c::Ex.cs r
end
abbrev zx0 (l:List Ex):D:= .sl (Ex.cs l)
theorem Ex.cs_eq:∀l:List Ex,Ex.cs l=l.map Ex.c
 | []=>rfl
 |v::r=>by simp[Ex.cs,Ex.cs_eq r]
theorem Ex.cs_len (l:List Ex):(Ex.cs l).length=l.length:=by simp[Ex.cs_eq]
def Ex.op:Ex->Int | .mk a0 _ _ _=>a0
def Ex.n:Ex->Int | .mk _ a1 _ _=>a1
def Ex.ctor:Ex->Int | .mk _ _ a2 _=>a2
def Ex.kids:Ex->List Ex | .mk _ _ _ k=>k
abbrev Ex.cc (v:Ex):List D:=[.i v.op,.i v.n,.i v.ctor,.sl (Ex.cs v.kids)]
theorem Ex.c_eq (v:Ex):v.c=v.cc:=by cases v;rfl
theorem Ex.eta (v:Ex):Ex.mk v.op v.n v.ctor v.kids=v:=by cases v;rfl
theorem Ex.cs_at' {pre:List Ex}{x:Ex}{rest xs:List Ex} (h:pre++x::rest=xs):(Ex.cs xs)[pre.length]?=some x.cc:=by rw[Ex.cs_eq,<-Ex.c_eq];exact zaL h
mutual
def exEq:Ex->Ex->Bool
 | .mk a0 a1 a2 ks,.mk b0 b1 b2 ls=>decide (a0=b0)&&(decide (a1=b1)&&(decide (a2=b2)&&zpI ks ls))
def zpI:List Ex->List Ex->Bool
 | [],[]=>true
 |x::r,y::s=>exEq x y&&zpI r s
 |_,_=>false
end
mutual
def Ex.ok:Ex->Prop
 | .mk _ _ _ ks=>ks.length<=1000000000000/\Exs.ok ks
def Exs.ok:List Ex->Prop
 | []=>True
 |v::r=>v.ok/\Exs.ok r
end
theorem Exs.ok_mem:∀ {l:List Ex},Exs.ok l->∀v,v∈l->v.ok
 |x::r,h,v,hv=>by
  simp only[Exs.ok] at h;rcases List.mem_cons.1 hv with rfl|hv
  ·exact h.1
  ·exact Exs.ok_mem h.2 v hv
mutual
def Ex.size:Ex->Nat
 | .mk _ _ _ ks=>1+Exs.size ks
def Exs.size:List Ex->Nat
 | []=>0
 |v::r=>v.size+Exs.size r
end
theorem Exs.size_mem:∀ {l:List Ex}{v:Ex},v∈l->v.size<=Exs.size l
 |x::r,v,hv=>by
  simp only[Exs.size];rcases List.mem_cons.1 hv with rfl|hv
  ·omega
  ·have:=Exs.size_mem hv;omega
theorem Ex.ok_iff (v:Ex):v.ok↔v.kids.length<=1000000000000/\Exs.ok v.kids:=by cases v;rfl
theorem Ex.size_eq (v:Ex):v.size=1+Exs.size v.kids:=by cases v;rfl
mutual
theorem zuj:∀v:Ex,exEq v v=true
 | .mk _ _ _ ks=>by simp[exEq,zmC ks]
theorem zmC:∀l:List Ex,zpI l l=true
 | []=>rfl
 |v::r=>by simp[zpI,zuj v,zmC r]
end
theorem Ex.cs_cc (l:List Ex):Ex.cs l=l.map Ex.cc:=by
 rw[Ex.cs_eq];exact List.map_congr_left (fun v _=>Ex.c_eq v)
mutual
def mEx:Ex->Nat
 | .mk _ _ _ ks=>mExs ks
def mExs:List Ex->Nat
 | []=>0
 |v::r=>1+mEx v+mExs r
end
structure Gd where
 op:Int
 var:Int
 n:Int
 deriving Inhabited
structure Cl where
 pat:Pat
 g:Gd
 deriving Inhabited
structure Ft where
 arg:Ty
 res:Ty
 deriving Inhabited
structure Fu where
 ty:Ft
 cls:List Cl
 bodies:List Ex
 deriving Inhabited
abbrev Cl.c (x:Cl):List D:=[.i x.pat.op,.i x.pat.ctor,.i x.pat.n,.i x.pat.m,.i x.pat.var,.sl (Pat.cs x.pat.kids),.i x.g.op,.i x.g.var,.i x.g.n]
abbrev zxZ (l:List Cl):D:= .sl (l.map Cl.c)
abbrev Ft.c (x:Ft):List D:=[.i x.arg.data,.i x.arg.index,.i x.res.data,.i x.res.index]
abbrev Fu.c (x:Fu):List D:=[.i x.ty.arg.data,.i x.ty.arg.index,.i x.ty.res.data,.i x.ty.res.index,zxZ x.cls,zx0 x.bodies]
mutual
def cntE (m:Int):Ex->Int
 | .mk _ _ _ ks=>zex m 1 ks
def zex (m n:Int):List Ex->Int
 | []=>n
 |k::r=>if n<=m then zex m (n+cntE (m-n) k) r else n
end
theorem zsU {m n:Int}{l:List Ex} (h:¬n<=m):zex m n l=n:=by cases l<;>simp[zex,h]
mutual
theorem zrY:∀(v:Ex) (m:Int),1<=cntE m v/\cntE m v<=v.size
 | .mk _ _ _ ks,m=>by
  have:=zlC ks m 1 (by omega);simp only[cntE,Ex.size];push_cast;omega
theorem zlC:∀(l:List Ex) (m n:Int),1<=n->1<=zex m n l/\zex m n l<=n+Exs.size l
 | [],m,n,h=>by simp[zex,Exs.size];omega
 |k::r,m,n,h=>by
  have h1:=zrY k (m-n);have h2:=zlC r m (n+cntE (m-n) k) (by omega);simp only[zex,Exs.size];split
  ·push_cast;omega
  ·push_cast;omega
end
mutual
theorem zvf:∀(v:Ex) (m:Int),(cntE m v<=m↔(v.size:Int)<=m)/\(cntE m v<=m->cntE m v=v.size)
 | .mk _ _ _ ks,m=>by
  have:=zos ks m 1;simp only[cntE,Ex.size];push_cast;exact this
theorem zos:∀(l:List Ex) (m n:Int),(zex m n l<=m↔n+(Exs.size l:Int)<=m)/\(zex m n l<=m->zex m n l=n+Exs.size l)
 | [],m,n=>by simp[zex,Exs.size]
 |k::r,m,n=>by
  have h1:=zvf k (m-n);have h2:=zos r m (n+cntE (m-n) k);have h3:=zlC r m (n+cntE (m-n) k);have h4:=zrY k (m-n);simp only[zex,Exs.size];push_cast
  by_cases hn:n<=m
  ·rw[if_pos hn];by_cases h5:cntE (m-n) k<=m-n
   ·have h6:=h1.2 h5;rw[h6] at h2 ⊢;constructor
    ·rw[h2.1];constructor<;>intro h<;>omega
    ·intro h;rw[h2.2 h];omega
   ·have h7:¬(k.size:Int)<=m-n:=fun h=>h5 (h1.1.2 h);have h8:¬n+cntE (m-n) k<=m:=by omega
    rw[zsU h8];constructor
    ·constructor<;>intro h<;>omega
    ·intro h;omega
  ·rw[if_neg hn];constructor
   ·constructor<;>intro h<;>omega
   ·intro h;omega
end
theorem zce {a b c d e:Int}{l:List Pat}:(Pat.mk a b c d e l).op=a:=rfl
theorem zfd {a b c d e:Int}{l:List Pat}:(Pat.mk a b c d e l).ctor=b:=rfl
theorem mk_n {a b c d e:Int}{l:List Pat}:(Pat.mk a b c d e l).n=c:=rfl
theorem mk_m {a b c d e:Int}{l:List Pat}:(Pat.mk a b c d e l).m=d:=rfl
theorem zhB {a b c d e:Int}{l:List Pat}:(Pat.mk a b c d e l).var=e:=rfl
theorem zaX {a b c d e:Int}{l:List Pat}:(Pat.mk a b c d e l).kids=l:=rfl
abbrev anyQ:Pat:= .mk 1 0 0 0 0 []
abbrev zwq:Pat:= .mk 0 0 0 0 0 []
mutual
def zat:Pat->Pat
 | .mk op c n m v ks=>if op=2 then anyQ else if op=6/\ks≠[] then zkW ks else .mk op c n m v (zhR ks)
def zkW:List Pat->Pat
 | []=>anyQ
 |k::_=>zat k
def zhR:List Pat->List Pat
 | []=>[]
 |k::r=>zat k::zhR r
end
theorem zlA:∀l:List Pat,zhR l=l.map zat
 | []=>rfl
 |k::r=>by simp[zhR,zlA r]
theorem zbh (p:Pat):zat p=if p.op=2 then anyQ else if p.op=6/\p.kids≠[] then zat (nth p.kids 0) else .mk p.op p.ctor p.n p.m p.var (p.kids.map zat):=by
 cases p with|mk op c n m v ks=>
 have e:zat (.mk op c n m v ks)=if op=2 then anyQ else if op=6/\ks≠[] then zkW ks else .mk op c n m v (zhR ks):=by conv=>lhs;unfold zat
 rw[e,zlA];by_cases h2:op=2
 ·rw[if_pos h2];exact(if_pos (c:=(Pat.mk op c n m v ks).op=2) h2).symm
 ·rw[if_neg h2];refine Eq.trans ?_ (if_neg (c:=(Pat.mk op c n m v ks).op=2) h2).symm;by_cases h6:op=6/\ks≠[]
  ·rw[if_pos h6];refine Eq.trans ?_ (if_pos (c:=(Pat.mk op c n m v ks).op=6/\(Pat.mk op c n m v ks).kids≠[]) h6).symm;cases ks with
   |nil=>exact absurd rfl h6.2
   |cons k r=>rfl
  ·rw[if_neg h6];exact(if_neg (c:=(Pat.mk op c n m v ks).op=6/\(Pat.mk op c n m v ks).kids≠[]) h6).symm
def za5 (out:List (List Pat)) (l:List Pat):List (List Pat):=out.flatMap fun q=>l.map fun c=>q++[c]
def zef (ls:List (List Pat)):List (List Pat):=ls.foldl za5 [[]]
mutual
def zar:Pat->List Pat
 | .mk op c n m v ks=>if op=5 then zyc ks else (zef (zk4 ks)).map fun l=> .mk op c n m v l
def zyc:List Pat->List Pat
 | []=>[]
 |a::r=>zar a++zwV r
def zwV:List Pat->List Pat
 | []=>[]
 |b::_=>zar b
def zk4:List Pat->List (List Pat)
 | []=>[]
 |k::r=>zar k::zk4 r
end
theorem znA:∀l:List Pat,zk4 l=l.map zar
 | []=>rfl
 |k::r=>by simp[zk4,znA r]
theorem zc5 {p:Pat} (h:p.op≠5):zar p=(zef (p.kids.map zar)).map fun l=> .mk p.op p.ctor p.n p.m p.var l:=by
 cases p with|mk op c n m v ks=>
 have h':¬op=5:=h;conv=>lhs;unfold zar
 rw[if_neg h',znA];rfl
theorem zdu {p:Pat} (h:p.op=5) (hk:p.kids.length=2):zar p=zar (nth p.kids 0)++zar (nth p.kids 1):=by
 cases p with|mk op c n m v ks=>
 have h':op=5:=h;conv=>lhs;unfold zar
 rw[if_pos h'];have hk':ks.length=2:=hk;match ks,hk' with
 | [a,b],_=>rfl
mutual
def cntS:Pat->Int
 | .mk op _ _ _ _ ks=>if op=5 then cntO ks 0 else cntM ks 1
def cntO:List Pat->Int->Int
 | [],n=>n
 |k::r,n=>cntO r (cap (n+cntS k))
def cntM:List Pat->Int->Int
 | [],n=>n
 |k::r,n=>cntM r (cap (n*cntS k))
end
theorem znQ (p:Pat):cntS p=if p.op=5 then cntO p.kids 0 else cntM p.kids 1:=by
 cases p with|mk op c n m v ks=>
 conv=>lhs;unfold cntS
 rfl
mutual
theorem znP:∀p:Pat,0<=cntS p/\cntS p<=401
 | .mk op _ _ _ _ ks=>by
  unfold cntS;split
  ·exact zr1 ks 0 (by omega) (by omega)
  ·exact zrZ ks 1 (by omega) (by omega)
theorem zr1:∀(l:List Pat) (n:Int),0<=n->n<=401->0<=cntO l n/\cntO l n<=401
 | [],n,h1,h2=>⟨h1,h2⟩
 |k::r,n,h1,h2=>by
  unfold cntO;have h3:=znP k;have h4:=zms (x:=n+cntS k) (by omega);exact zr1 r _ h4.1 h4.2
theorem zrZ:∀(l:List Pat) (n:Int),0<=n->n<=401->0<=cntM l n/\cntM l n<=401
 | [],n,h1,h2=>⟨h1,h2⟩
 |k::r,n,h1,h2=>by
  unfold cntM;have h3:=znP k;have h4:=zms (x:=n*cntS k) (Int.mul_nonneg h1 h3.1);exact zrZ r _ h4.1 h4.2
end
theorem zt8 {l:List Pat}{i:Nat}{n:Int} (h:i<l.length):cntO (l.drop i) n=cntO (l.drop (i+1)) (cap (n+cntS (nth l i))):=by
 rw[zaM h];rfl
theorem zt7 {l:List Pat}{i:Nat}{n:Int} (h:i<l.length):cntM (l.drop i) n=cntM (l.drop (i+1)) (cap (n*cntS (nth l i))):=by
 rw[zaM h];rfl
def binP:Nat->Pat->Bool
 |0,_=>false
 |n+1,p=>decide (p.op=5->p.kids.length=2)&&p.kids.all (binP n)
theorem zd8 {n:Nat}{p:Pat} (h:binP (n+1) p=true){i:Nat} (hi:i<p.kids.length):binP n (nth p.kids i)=true:=by
 unfold binP at h;rw[xad,List.all_eq_true] at h;exact h.2 _ (zae hi)
theorem zkQ {n:Nat}{p:Pat} (h:binP (n+1) p=true) (h5:p.op=5):p.kids.length=2:=by
 unfold binP at h;rw[xad] at h;exact(of_decide_eq_true h.1) h5
theorem zlB:∀(n:Nat){p:Pat},binP n p=true->binP (n+1) p=true
 |0,p,h=>by simp[binP] at h
 |n+1,p,h=>by
  have h':=h;unfold binP at h ⊢;rw[xad,List.all_eq_true] at h ⊢;exact⟨h.1,fun k hk=>zlB n (h.2 k hk)⟩
theorem zgy {w:List Data}:∀(n:Nat){t:Ty}{p:Pat},zao w n t p=true->binP n (zat p)=true
 |0,t,p,h=>by simp[zao] at h
 |n+1,t,p,h=>by
  obtain⟨ho,hlen⟩:=zbq h;have hany:binP (n+1) anyQ=true:=by simp[binP,anyQ,Pat.op,Pat.kids]
  rw[zbh];by_cases h2:p.op=2
  ·rw[if_pos h2];exact hany
  rw[if_neg h2];by_cases h6:p.op=6
  ·obtain⟨hl,s0⟩:=zcQ h h6;rw[if_pos ⟨h6,fun e=>by rw[e] at hl;simp at hl⟩];exact zlB n (zgy n s0)
  rw[if_neg (fun h=>h6 h.1)];unfold binP;rw[xad,List.all_eq_true];refine⟨decide_eq_true (fun h5=>?_),fun k hk=>?_⟩
  ·have:=(zdM h h5).1;simpa [Pat.kids] using this
  ·simp only[Pat.kids,List.mem_map] at hk;obtain⟨x,hx,rfl⟩:=hk;obtain⟨i,hi,rfl⟩:=List.getElem_of_mem hx;have:=zgy n (zbs h hi);have e:nth p.kids i=p.kids[i]:=zaO hi;rw[e] at this;exact this
theorem zgB (out:List (List Pat)) (l:List Pat):(za5 out l).length=out.length*l.length:=by
 unfold za5;induction out with
 |nil=>simp
 |cons q r ih=>rw[List.flatMap_cons,xaa,ih,xac,xab,Nat.succ_mul];omega
theorem zti (ls:List (List Pat)) (l:List Pat):zef (ls++[l])=za5 (zef ls) l:=by unfold zef;rw[List.foldl_append];rfl
theorem zwu {a b:Nat}:cap (cap (a:Int)*cap (b:Int))=cap ((a*b:Nat):Int):=by
 unfold cap;rcases Nat.eq_zero_or_pos a with rfl|ha
 ·simp
 rcases Nat.eq_zero_or_pos b with rfl|hb
 ·simp
 have h1:a<=a*b:=Nat.le_mul_of_pos_right a hb;have h2:b<=a*b:=Nat.le_mul_of_pos_left b ha;have hab:((a*b:Nat):Int)=(a:Int)*(b:Int):=by push_cast;rfl
 by_cases ca:401<(a:Int)
 ·rw[if_pos ca];by_cases cb:401<(b:Int)
  ·rw[if_pos cb,if_pos (by omega),if_pos (by omega)]
  ·rw[if_neg cb];have h3:(401:Int)*1<=401*(b:Int):=Int.mul_le_mul_of_nonneg_left (by omega) (by omega);rw[if_pos (show 401<((a*b:Nat):Int) by omega)];split<;>omega
 ·rw[if_neg ca];by_cases cb:401<(b:Int)
  ·rw[if_pos cb];have h3:(1:Int)*401<=(a:Int)*401:=Int.mul_le_mul_of_nonneg_right (by omega) (by omega);rw[if_pos (show 401<((a*b:Nat):Int) by omega)];split<;>omega
  ·rw[if_neg cb,hab]
theorem zws {a b:Nat}:cap (cap (a:Int)+cap (b:Int))=cap ((a+b:Nat):Int):=by
 unfold cap;push_cast
 split<;>split<;>split<;>(try split)<;>omega
theorem zwt {x:Int}:cap (cap x)=cap x:=by unfold cap;split<;>(try split)<;>omega
theorem zr0:∀(l:List Pat) (out:List (List Pat)),(∀k∈l,cntS k=cap ((zar k).length:Int)/\0<(zar k).length)->cntM l (cap (out.length:Int))=cap (((l.map zar).foldl za5 out).length:Int)/\(0<out.length->0<((l.map zar).foldl za5 out).length)
 | [],out,_=>⟨rfl,fun h=>h⟩
 |k::r,out,h=>by
  have hk:=h k (by simp);unfold cntM;rw[hk.1,zwu];have:=zr0 r (za5 out (zar k)) (fun x hx=>h x (by simp[hx]));rw[zgB] at this;rw[xae,List.foldl_cons];exact⟨this.1,fun ho=>this.2 (Nat.mul_pos ho hk.2)⟩
theorem zj3:∀(n:Nat){p:Pat},binP n p=true->cntS p=cap ((zar p).length:Int)/\0<(zar p).length
 |0,p,h=>by simp[binP] at h
 |n+1,p,h=>by
  have ih:=fun i (hi:i<p.kids.length)=>zj3 n (zd8 h hi);rw[znQ];by_cases h5:p.op=5
  ·have hl:=zkQ h h5;rw[if_pos h5,zdu h5 hl,xaa];have k0:=ih 0 (by omega);have k1:=ih 1 (by omega);have e:p.kids=[nth p.kids 0,nth p.kids 1]:=by
    match hk:p.kids,hl with
    | [a,b],_=>rfl
   refine⟨?_,by omega⟩;rw[e];simp only[cntO];rw[Int.zero_add,k0.1,zwt,k1.1];show cap (cap ((zar (nth p.kids 0)).length:Int)+cap ((zar (nth p.kids 1)).length:Int))=_
   rw[zws];rfl
  ·rw[if_neg h5,zc5 h5,xac];have:=zr0 p.kids [[]] (fun k hk=>by
    obtain⟨i,hi,rfl⟩:=List.getElem_of_mem hk;have:=ih i hi;simpa [nth,List.getD,hi] using this)
   exact⟨this.1,this.2 (by simp)⟩
theorem zhr:∀(ls:List (List Pat)) (out:List (List Pat)),(∀l∈ls,0<l.length)->out.length<=(ls.foldl za5 out).length
 | [],out,_=>Nat.le_refl _
 |l::r,out,h=>by
  rw[List.foldl_cons];have h1:=zhr r (za5 out l) (fun x hx=>h x (by simp[hx]));rw[zgB] at h1;have h2:out.length<=out.length*l.length:=Nat.le_mul_of_pos_right _ (h l (by simp));omega
theorem zjy:∀(ls:List (List Pat)) (out:List (List Pat)),(∀l∈ls,0<l.length)->0<out.length->∀l∈ls,l.length<=(ls.foldl za5 out).length
 | [],out,_,_,l,hl=>by simp at hl
 |x::r,out,h,ho,l,hl=>by
  rw[List.foldl_cons];have hx:=h x (by simp);have hp:0<(za5 out x).length:=by rw[zgB];exact Nat.mul_pos ho hx
  rcases List.mem_cons.1 hl with rfl|hl
  ·have h1:=zhr r (za5 out l) (fun y hy=>h y (by simp[hy]));rw[zgB] at h1;have h2:l.length<=out.length*l.length:=Nat.le_mul_of_pos_left _ ho;omega
  ·exact zjy r (za5 out x) (fun y hy=>h y (by simp[hy])) hp l hl
theorem zid {n:Nat}{p:Pat} (h:binP (n+1) p=true){i:Nat} (hi:i<p.kids.length):(zar (nth p.kids i)).length<=(zar p).length:=by
 by_cases h5:p.op=5
 ·have hl:=zkQ h h5;rw[zdu h5 hl,xaa];have:i=0\/i=1:=by omega
  rcases this with rfl|rfl<;>omega
 ·rw[zc5 h5,xac];refine zjy _ [[]] (fun l hl=>?_) (by simp) _ (List.mem_map.2 ⟨_,zae hi,rfl⟩);obtain⟨k,hk,rfl⟩:=List.mem_map.1 hl;obtain⟨j,hj,rfl⟩:=List.getElem_of_mem hk;have:=(zj3 n (zd8 h hj)).2;simpa [nth,List.getD,hj] using this
theorem zrO {n:Nat}{p:Pat} (h:binP (n+1) p=true) (h5:p.op≠5) (i:Nat):(zef ((p.kids.take i).map zar)).length<=(zar p).length:=by
 rw[zc5 h5,xac];have e:p.kids.map zar=(p.kids.take i).map zar++(p.kids.drop i).map zar:=by rw[<-xaf,List.take_append_drop]
 unfold zef;rw[e,List.foldl_append];refine zhr _ _ (fun l hl=>?_);obtain⟨k,hk,rfl⟩:=List.mem_map.1 hl;obtain⟨j,hj,rfl⟩:=List.getElem_of_mem (List.mem_of_mem_drop hk);have:=(zj3 n (zd8 h hj)).2;simpa [nth,List.getD,hj] using this
def zah (w:List Data):Nat->Ty->Pat->Bool
 |0,_,_=>false
 |n+1,t,p=>(ownP w t p&&decide (p.op=1\/p.op=3\/p.op=4))&&all2 (zah w n) (zac w t p) p.kids
theorem zhl {α β:Type}{f g:α->β->Bool}:∀ {a:List α}{b:List β},(∀x∈a,∀y∈b,f x y=true->g x y=true)->all2 f a b=true->all2 g a b=true
 | [],[],_,_=>rfl
 |x::r,y::s,h,h2=>by
  simp only[all2,xad] at h2 ⊢;exact⟨h x (by simp) y (by simp) h2.1,zhl (fun a ha b hb=>h a (by simp[ha]) b (by simp[hb])) h2.2⟩
 | [],_::_,_,h2=>by simp[all2] at h2
 |_::_,[],_,h2=>by simp[all2] at h2
theorem zg1 {w:List Data}:∀(n:Nat){t:Ty}{p:Pat},zah w n t p=true->zao w n t p=true
 |0,t,p,h=>by simp[zah] at h
 |n+1,t,p,h=>by
  unfold zah at h;unfold zao;simp only[xad] at h ⊢;exact⟨h.1.1,zhl (fun x _ y _ hh=>zg1 n hh) h.2⟩
theorem zgw {w:List Data}:∀(n:Nat){t:Ty}{p:Pat},zah w n t p=true->zah w (n+1) t p=true
 |0,t,p,h=>by simp[zah] at h
 |n+1,t,p,h=>by
  unfold zah at h ⊢;simp only[xad] at h ⊢;exact⟨h.1,zhl (fun x _ y _ hh=>zgw n hh) h.2⟩
theorem zbl {w:List Data}{n:Nat}{t:Ty}{p:Pat} (h:zah w n t p=true):p.op=1\/p.op=3\/p.op=4:=by
 cases n with
 |zero=>simp[zah] at h
 |succ n=>unfold zah at h;simp only[xad] at h;exact of_decide_eq_true h.1.2
theorem zf5 {w:List Data}{n:Nat}{t:Ty}{p:Pat} (h:zah w n t p=true):ownP w t p=true/\p.kids.length=(zac w t p).length:=by
 cases n with
 |zero=>simp[zah] at h
 |succ n=>exact zbq (zg1 _ h)
theorem zaR {w:List Data}{n:Nat}{t:Ty}{p:Pat} (h:zah w (n+1) t p=true){i:Nat} (hi:i<p.kids.length):zah w n (nth (zac w t p) i) (nth p.kids i)=true:=by
 have hl:=(zf5 h).2;unfold zah at h;simp only[xad] at h;exact zcG hl.symm h.2 i (by omega)
theorem zwQ {w:List Data}{t:Ty}{p:Pat}{l:List Pat}:ownP w t (.mk p.op p.ctor p.n p.m p.var l)=ownP w t p:=rfl
theorem zu2 {w:List Data}{t:Ty}{p:Pat}{l:List Pat}:zac w t (.mk p.op p.ctor p.n p.m p.var l)=zac w t p:=rfl
theorem zh4:∀(ls:List (List Pat)) (out:List (List Pat)) (l:List Pat),l∈ls.foldl za5 out->∃q∈out,∃r:List Pat,l=q++r/\r.length=ls.length/\∀i,i<ls.length->nth r i∈nth ls i
 | [],out,l,h=>⟨l,h,[],by simp,rfl,fun i hi=>by simp at hi⟩
 |x::rs,out,l,h=>by
  rw[List.foldl_cons] at h;obtain⟨q,hq,r,e,hl,hm⟩:=zh4 rs (za5 out x) l h;unfold za5 at hq;simp only[List.mem_flatMap,List.mem_map] at hq;obtain⟨q0,hq0,c,hc,rfl⟩:=hq;refine⟨q0,hq0,c::r,by rw[e];simp,by simp[hl],fun i hi=>?_⟩;cases i with
  |zero=>exact hc
  |succ i=>exact hm i (by simpa using hi)
theorem zjQ {w:List Data}{n:Nat}{t:Ty}:zah w (n+1) t anyQ=true:=by
 unfold zah;have h1:zac w t anyQ=[]:=by unfold zac;rw[if_neg (by decide),if_neg (by decide),if_neg (by decide)]
 rw[h1];have h2:ownP w t anyQ=true:=by unfold ownP;exact decide_eq_true (by simp[anyQ,Pat.op,Pat.var,Pat.n,Pat.m,Pat.ctor])
 rw[h2];rfl
theorem zcf:zar anyQ=[anyQ]:=by
 rw[zc5 (by decide)];rfl
theorem zeH {w:List Data}{n:Nat}{t:Ty}{p:Pat} (h:zao w (n+1) t p=true) (h4:p.op≠4) (h5:p.op≠5) (h6:p.op≠6):p.kids=[]:=by
 have hl:=(zbq h).2;unfold zac at hl;rw[if_neg h4,if_neg h5,if_neg h6] at hl;exact List.eq_nil_of_length_eq_zero hl
theorem zf6 {w:List Data}:∀(n:Nat){t:Ty}{p:Pat},zao w n t p=true->∀x∈zar (zat p),zah w n t x=true
 |0,t,p,h=>by simp[zao] at h
 |n+1,t,p,h=>by
  obtain⟨ho,hlen⟩:=zbq h;have hop:=zdZ h;intro x hx;rw[zbh] at hx;by_cases h2:p.op=2
  ·rw[if_pos h2,zcf,List.mem_singleton] at hx;rw[hx];exact zjQ
  rw[if_neg h2] at hx;by_cases h6:p.op=6
  ·obtain⟨hl,s0⟩:=zcQ h h6;rw[if_pos ⟨h6,fun e=>by rw[e] at hl;simp at hl⟩] at hx;exact zgw n (zf6 n s0 x hx)
  rw[if_neg (fun h=>h6 h.1)] at hx;by_cases h5:p.op=5
  ·obtain⟨hl,s0,s1⟩:=zdM h h5;have hl2:(p.kids.map zat).length=2:=by rw[xac];exact hl
   rw[zdu (p:= .mk p.op p.ctor p.n p.m p.var (p.kids.map zat)) h5 hl2] at hx;have e0:nth (p.kids.map zat) 0=zat (nth p.kids 0):=by
    match hk:p.kids,hl with
    | [a,b],_=>rfl
   have e1:nth (p.kids.map zat) 1=zat (nth p.kids 1):=by
    match hk:p.kids,hl with
    | [a,b],_=>rfl
   simp only[zaX] at hx;rw[e0,e1] at hx;rcases List.mem_append.1 hx with hx|hx
   ·exact zgw n (zf6 n s0 x hx)
   ·exact zgw n (zf6 n s1 x hx)
  rw[zc5 (p:= .mk p.op p.ctor p.n p.m p.var (p.kids.map zat)) h5] at hx;simp only[zaX,zce,zfd,mk_n,mk_m,zhB,List.mem_map] at hx;obtain⟨l,hl,rfl⟩:=hx;obtain⟨q,hq,r,e,hlr,hm⟩:=zh4 _ _ _ hl;rw[List.mem_singleton] at hq;rw[hq,List.nil_append] at e;subst e;simp only[List.map_map,xac] at hlr hm;unfold zah;rw[zwQ,zu2,ho,decide_eq_true (show _\/_\/_ from by rw[zce];omega),Bool.true_and,Bool.true_and];refine zbz (by rw[zaX];omega) (fun i hi=>?_);have hm':=hm i (by omega);have e2:nth (p.kids.map (zar ∘ zat)) i=zar (zat (nth p.kids i)):=by
   rw[zaO (by simp;omega)];simp[nth,List.getD,show i<p.kids.length by omega]
  rw[e2] at hm';exact zf6 n (zbs h (by omega)) _ hm'
theorem Pats.ok_of:∀ {l:List Pat},(∀k∈l,k.ok)->Pats.ok l
 | [],_=>trivial
 |k::r,h=>⟨h k (by simp),Pats.ok_of (fun x hx=>h x (by simp[hx]))⟩
theorem Pats.size_of {m:Nat}:∀ {l:List Pat},(∀k∈l,k.size<=m)->Pats.size l<=l.length*m
 | [],_=>by simp[Pats.size]
 |k::r,h=>by
  have h1:=h k (by simp);have h2:=Pats.size_of (l:=r) (fun x hx=>h x (by simp[hx]));simp only[Pats.size,xab,Nat.succ_mul];omega
mutual
theorem zhe:∀p:Pat,p.ok->(zat p).ok
 | .mk op c n m v ks,h=>by
  unfold zat;split
  ·exact⟨by simp,trivial⟩
  ·split
   ·exact zvo ks h.2
   ·exact⟨by rw[zlA,xac];exact h.1,zpT ks h.2⟩
theorem zvo:∀l:List Pat,Pats.ok l->(zkW l).ok
 | [],_=>⟨by simp,trivial⟩
 |k::r,h=>zhe k h.1
theorem zpT:∀l:List Pat,Pats.ok l->Pats.ok (zhR l)
 | [],_=>trivial
 |k::r,h=>⟨zhe k h.1,zpT r h.2⟩
end
mutual
theorem zhS:∀p:Pat,(zat p).size<=p.size
 | .mk op c n m v ks=>by
  unfold zat;split
  ·simp[anyQ,Pat.size,Pats.size]
  ·split
   ·have:=zs2 ks;simp only[Pat.size];omega
   ·have:=zme ks;simp only[Pat.size];omega
theorem zs2:∀l:List Pat,(zkW l).size<=1+Pats.size l
 | []=>by simp[zkW,anyQ,Pat.size,Pats.size]
 |k::r=>by have:=zhS k;simp only[zkW,Pats.size];omega
theorem zme:∀l:List Pat,Pats.size (zhR l)<=Pats.size l
 | []=>Nat.le_refl _
 |k::r=>by have:=zhS k;have:=zme r;simp only[zhR,Pats.size];omega
end
end Go.Proofs.YtlfipehhbdjnjaaGreat
namespace Go.Proofs.YtlfipehhbdjnjaaGreat
open Go
set_option linter.unusedSimpArgs false
set_option linter.unusedVariables false
def znc (ls:List (List Val)):List (List Val):=ls.foldl (fun acc l=>acc.flatMap fun o=>l.map fun y=>o++[y]) [[]]
def zfq:List Val:=(List.range 10).map fun(n:Nat)=>Val.mk (-1) n []
def zkV (w:List Data):Nat->Ty->List Val
 |0,_=>[]
 |n+1,t=>if t.data = -1 then zfq else (zaW w t).flatMap fun c=>(znc ((zaa w t c).map (zkV w n))).map (Val.mk c 0)
def zdX:List Nat->Nat
 | []=>1
 |a::r=>a*zdX r
theorem zvU (acc:List (List Val)) (l:List Val):(acc.flatMap fun o=>l.map fun y=>o++[y]).length=acc.length*l.length:=by
 induction acc with
 |nil=>simp
 |cons a r ih=>simp only[List.flatMap_cons,xaa,xac,ih,xab,Nat.add_mul];omega
theorem zul (ls:List (List Val)):∀acc:List (List Val),(ls.foldl (fun acc l=>acc.flatMap fun o=>l.map fun y=>o++[y]) acc).length=acc.length*zdX (ls.map List.length):=by
 induction ls with
 |nil=>intro acc;simp[zdX]
 |cons l r ih=>intro acc;simp only[List.foldl_cons,ih,zvU,xae,zdX,Nat.mul_assoc]
theorem zuB (ls:List (List Val)):(znc ls).length=zdX (ls.map List.length):=by unfold znc;rw[zul];simp
def capN (n:Nat):Nat:=if 401<n then 401 else n
end Go.Proofs.YtlfipehhbdjnjaaGreat
namespace Go.Proofs.YtlfipehhbdjnjaaGreat
open Go
set_option linter.unusedSimpArgs false
set_option linter.unusedVariables false
set_option maxRecDepth 100000
set_option maxHeartbeats 2000000
theorem Val.cs_cc (l:List Val):Val.cs l=l.map Val.cc:=by
 rw[Val.cs_eq];exact List.map_congr_left (fun v _=>Val.c_eq v)
theorem zhv:∀(n:Nat){v:Val},v.size<=n->v.ok->FnD Tryz.prog 150 [.agg [.d (.i v.ctor),.d (.i v.num),.d (zbC v.kids)]] [] (.agg [.d (.i v.ctor),.d (.i v.num),.d (zbC v.kids)]) []
 |0,v,h,_=>by rw[Val.size_eq] at h;omega
 |n+1,v,h,hok=>by
  rw[Val.size_eq] at h;rw[Val.ok_iff] at hok;have hok1:=hok.1;refine bd Tryz.f150 27 [] [] fun w0 F0 own kept hk=>?_;refine bx 3001 ?_;refine ab 3002 tz49 ?_;refine tv ?_;refine bu [0,1] [_,_] st49 ?_;refine ab 3003 tz49 ?_;refine so ty49 ?_;refine tv ?_;refine xan 3003 2 7 3 rfl rfl rfl rfl ?_;refine xak (ι:=List (Val)×List (Val)) hk (fun x=>[(14,.d (.i (x.1.length:Int)))]) [5,15,16,17,18,19,20,21,22,23,24,25] (fun x=>[(3003,some (.box [.d (.i v.ctor),.d (.i v.num),.gl 7 (x.1.map Val.cc)])),(7,some (.tok (x.1.map Val.cc).length 3))]) (fun x=>x.1++x.2=v.kids) (fun x=>x.2.length) ([],v.kids) (by simp) ⟨⟨_,rfl,xaq ?_⟩,trivial⟩ ⟨?_,⟨zab ?_,trivial⟩⟩ (fun x=>rfl) (fun x hg1=>?_);focus (rfl)
  focus (first|rfl|(simp[getH];done))
  focus (rfl)
  obtain⟨pre,rest⟩:=x;dsimp only at hg1 ⊢;refine evc [] [] ?_;refine sq ?_ ?_<;>intro h1 h1p h1s<;>(try simp only[Q,Val.cs_len] at h1p);rcases rest with _|⟨y,rest⟩
  ·exfalso;simp_all
  refine xaU sl47 .none rfl rfl rfl rfl (Val.cs_at hg1) rfl ?_;refine ev ?_;refine ab 3005 tz49 ?_;refine so ty49 ?_;refine tv ?_;refine wc ztE (zhv n (v:=y) (by have:=Vals.size_mem (l:=v.kids) (v:=y) (by rw[<-hg1];simp);omega) (Vals.ok_mem hok.2 y (by rw[<-hg1];simp))) rfl rfl ?_;refine si [0] [_] sl47 tz49 ?_;refine ap sl47 zz49 rfl rfl rfl (by simp) (by have:=congrArg List.length hg1;simp at this;simp;omega) ?_;refine evd [] [] ?_;refine so ty47 ?_;refine dr ?_;refine ar ?_;refine xah ((pre++[y],rest)) ⟨(by have hz:=hg1;rw[<-hz];simp),(by simp),sx ⟨⟨_,rfl,xaq ?_⟩,trivial⟩ ⟨?_,⟨zab ?_,trivial⟩⟩⟩;focus ((simp;done))
  focus (first|rfl|(simp[getH];done))
  focus ((simp;done))
  have hrest:rest=[]:=by
   rcases rest with _|⟨a,b⟩
   ·rfl
   ·exfalso;have hz:=congrArg List.length (hg1);simp only[xaa,xab,xac] at hz;omega
  subst hrest;refine so ty49 ?_;refine tv ?_;refine rn0 (.cons (.cellA ty49 rfl rfl rfl) .nil) (.agg (.cons (.eqd ?_) (.cons (.eqd ?_) (.cons (.gld ?_) .nil))));rotate_left 3;all_goals (first|rfl|(rw[List.append_nil] at hg1;rw[<-hg1,Val.cs_cc];done))
end Go.Proofs.YtlfipehhbdjnjaaGreat
namespace Go.Proofs.YtlfipehhbdjnjaaGreat
open Go
set_option linter.unusedSimpArgs false
set_option linter.unusedVariables false
theorem Vals.ok_of:∀ {l:List Val},(∀v∈l,v.ok)->Vals.ok l
 | [],_=>trivial
 |v::r,h=>⟨h v (by simp),Vals.ok_of (fun x hx=>h x (List.mem_cons_of_mem _ hx))⟩
end Go.Proofs.YtlfipehhbdjnjaaGreat
namespace Go.Proofs.YtlfipehhbdjnjaaGreat
open Go
set_option linter.unusedSimpArgs false
set_option linter.unusedVariables false
set_option maxRecDepth 100000
set_option maxHeartbeats 2000000
theorem xau (l:List Pat):Pat.cs l=l.map Pat.cc:=by
 rw[Pat.cs_eq];exact List.map_congr_left (fun v _=>Pat.c_eq v)
theorem zbM (l:List Pat):∀x∈Pat.cs l,x.length=6:=Pat.cs_rows
theorem zhk (l:List Pat):∀x∈l.map Pat.cc,x.length=6:=fun x hx=>by
 obtain⟨y,_,rfl⟩:=List.mem_map.1 hx;rfl
theorem zrU {p:Pat} (h:p.op=2):zat p=anyQ:=by rw[zbh,if_pos h]
theorem zrV {p:Pat} (h:p.op=6) (h2:0<p.kids.length):zat p=zat (nth p.kids 0):=by
 rw[zbh,if_neg (by omega),if_pos ⟨h,fun e=>by rw[e] at h2;simp at h2⟩]
theorem zrW {p:Pat} (h:p.op≠2) (h2:¬(p.op=6/\0<p.kids.length)):zat p = .mk p.op p.ctor p.n p.m p.var (p.kids.map zat):=by
 rw[zbh,if_neg h,if_neg (fun hh=>h2 ⟨hh.1,List.length_pos_iff.2 hh.2⟩)]
theorem zgt:∀(n:Nat){p:Pat},p.size<=n->p.ok->FnD Tryz.prog 190 [.agg [.d (.i p.op),.d (.i p.ctor),.d (.i p.n),.d (.i p.m),.d (.i p.var),.d (zad p.kids)]] [] (.agg [.d (.i p.op),.d (.i p.ctor),.d (.i p.n),.d (.i p.m),.d (.i p.var),.d (zad p.kids)]) []
 |0,p,h,_=>by rw[Pat.size_eq] at h;omega
 |n+1,p,h,hok=>by
  rw[Pat.size_eq] at h;rw[Pat.ok_iff] at hok;have hok1:=hok.1;refine bd Tryz.f190 24 [] [] fun w0 F0 own kept hk=>?_;refine bx 3001 ?_;refine ab 3002 tz36 ?_;refine tv ?_;refine so ty34 ?_;refine tv ?_;refine xan 3001 5 7 6 rfl rfl rfl rfl ?_;refine xak (ι:=List (Pat)×List (Pat)) hk (fun x=>[(11,.d (.i (x.1.length:Int)))]) [5,12,13,14,15,16,17,18,19,20,21,22] (fun x=>[(3001,some (.box [.d (.i p.op),.d (.i p.ctor),.d (.i p.n),.d (.i p.m),.d (.i p.var),.gl 7 (x.1.map Pat.cc)])),(7,some (.tok (x.1.map Pat.cc).length 6))]) (fun x=>x.1++x.2=p.kids) (fun x=>x.2.length) ([],p.kids) (by simp) ⟨⟨_,rfl,xaq ?_⟩,trivial⟩ ⟨?_,⟨zab ?_,trivial⟩⟩ (fun x=>rfl) (fun x hg1=>?_);focus (rfl)
  focus (first|rfl|(simp[getH];done))
  focus (rfl)
  obtain⟨pre,rest⟩:=x;dsimp only at hg1 ⊢;refine evc [] [] ?_;refine sq ?_ ?_<;>intro h1 h1p h1s<;>(try simp only[Q,Pat.cs_len] at h1p);rcases rest with _|⟨y,rest⟩
  ·exfalso;simp_all
  refine xaU sl34 .none rfl rfl rfl rfl (Pat.cs_at' hg1) rfl ?_;refine ev ?_;refine ab 3005 tz36 ?_;refine so ty36 ?_;refine tv ?_;refine wc ztJ (zgt n (p:=y) (by have:=Pats.size_mem (l:=p.kids) (v:=y) (by rw[<-hg1];simp);omega) (Pats.ok_mem hok.2 y (by rw[<-hg1];simp))) rfl rfl ?_;refine si [0] [_] sl34 tz36 ?_;refine ap sl34 zz36 rfl rfl rfl (by intro x hx;(simp at hx;subst hx;rfl)) (by have:=congrArg List.length hg1;simp at this;simp;omega) ?_;refine evd [] [] ?_;refine so ty34 ?_;refine dr ?_;refine ar ?_;refine xah ((pre++[y],rest)) ⟨(by have hz:=hg1;rw[<-hz];simp),(by simp),sx ⟨⟨_,rfl,xaq ?_⟩,trivial⟩ ⟨?_,⟨zab ?_,trivial⟩⟩⟩;focus ((simp;done))
  focus (first|rfl|(simp[getH];done))
  focus ((simp;done))
  have hrest:rest=[]:=by
   rcases rest with _|⟨a,b⟩
   ·rfl
   ·exfalso;have hz:=congrArg List.length (hg1);simp only[xaa,xab,xac] at hz;omega
  subst hrest;refine so ty36 ?_;refine tv ?_;refine rn0 (.cons (.cellA ty36 rfl rfl rfl) .nil) (.agg (.cons (.eqd ?_) (.cons (.eqd ?_) (.cons (.eqd ?_) (.cons (.eqd ?_) (.cons (.eqd ?_) (.cons (.gld ?_) .nil)))))));rotate_left 6;all_goals (first|rfl|(rw[List.append_nil] at hg1;rw[<-hg1,xau];done))
theorem zjJ {l:List Pat} (h:l.length<=1000000000000) (hok:∀p∈l,p.ok):FnD Tryz.prog 155 [.d (zad l)] [] (.d (zad l)) []:=by
 refine bd Tryz.f155 19 [3] [] fun w0 F0 own kept hk=>?_;refine xaC 1 6 .none rfl rfl ?_;refine tv ?_;refine xak (ι:=List (Pat)×List (Pat)) hk (fun x=>[(8,.d (.i (x.1.length:Int))),(3,.gl 1 (x.1.map Pat.cc))]) [5,9,10,11,12,13,14,15,16,17] (fun x=>[(1,some (.tok ((x.1.map Pat.cc)).length 6))]) (fun x=>x.1++x.2=l) (fun x=>x.2.length) ([],l) (by simp) ⟨⟨_,rfl,xaq ?_⟩,⟨⟨_,rfl,LeA.glg ?_⟩,trivial⟩⟩ ⟨zab ?_,trivial⟩ (fun x=>rfl) (fun x hg1=>?_);iterate 3 focus (rfl)
 obtain⟨pre,rest⟩:=x;dsimp only at hg1 ⊢;refine evc [3] [] ?_;refine sq ?_ ?_<;>intro h1 h1p h1s<;>(try simp only[Q,Pat.cs_len] at h1p);rcases rest with _|⟨y,rest⟩
 ·exfalso;simp_all
 refine xaU sl34 .none rfl rfl rfl rfl (Pat.cs_at' hg1) rfl ?_;refine evs [3] [] ?_;refine ab 3005 tz36 ?_;refine so ty36 ?_;refine tv ?_;refine wc ztJ (zgt _ (Nat.le_refl _) (hok y (by rw[<-hg1];simp))) rfl rfl ?_;refine si [0] [_] sl34 tz36 ?_;refine ap sl34 zz36 rfl rfl rfl (by intro x hx;simp at hx;subst hx;rfl) (by have:=congrArg List.length hg1;simp at this;simp;omega) ?_;refine asg ?_;refine tv ?_;refine ar ?_;refine xah ((pre++[y],rest)) ⟨(by have hz:=hg1;rw[<-hz];simp),(by simp),sx ⟨⟨_,rfl,xaq ?_⟩,⟨⟨_,rfl,LeA.glg ?_⟩,trivial⟩⟩ ⟨zab ?_,trivial⟩⟩;iterate 3 focus ((simp;done))
 have hrest:rest=[]:=by
  rcases rest with _|⟨a,b⟩
  ·rfl
  ·exfalso;have hz:=congrArg List.length (hg1);simp only[xaa,xab,xac] at hz;omega
 subst hrest;refine rn0 (r1 rfl) (.gld ?_);rotate_left;all_goals ((rw[List.append_nil] at hg1;rw[<-hg1,xau];done))
theorem zgs:FnD Tryz.prog 156 [] [] (.agg [.d (.i 1),.d (.i 0),.d (.i 0),.d (.i 0),.d (.i 0),.d (.sl [])]) []:=by
 refine bd Tryz.f156 2 [] [] fun w0 F0 own kept hk=>?_;refine ab 3000 tz36 ?_;refine tv ?_;refine bu [0] [_] st36 ?_;refine so ty36 ?_;refine tv ?_;focus (refine rn0 (.cons (.cellA ty36 rfl rfl rfl) .nil) (.agg (.cons (.eqd ?_) (.cons (.eqd ?_) (.cons (.eqd ?_) (.cons (.eqd ?_) (.cons (.eqd ?_) (.cons (.nild ?_) .nil)))))));all_goals (rfl))
theorem zc7:∀(n:Nat){p:Pat},p.size<=n->p.ok->FnD Tryz.prog 219 [.agg [.d (.i p.op),.d (.i p.ctor),.d (.i p.n),.d (.i p.m),.d (.i p.var),.d (zad p.kids)]] [] (.agg [.d (.i (zat p).op),.d (.i (zat p).ctor),.d (.i (zat p).n),.d (.i (zat p).m),.d (.i (zat p).var),.d (zad (zat p).kids)]) []
 |0,p,h,_=>by rw[Pat.size_eq] at h;omega
 |n+1,p,h,hok=>by
  rw[Pat.size_eq] at h;rw[Pat.ok_iff] at hok;have hok1:=hok.1;by_cases h2:p.op=2
  ·rw[zrU h2];refine bd Tryz.f219 44 [] [] fun w0 F0 own kept hk=>?_;refine bx 3001 ?_;refine ab 3002 tz36 ?_;refine tv ?_;refine sq ?_ ?_<;>intro h1 h1p h1s;refine wc ztG (zgs) rfl rfl ?_;refine so ty36 ?_;refine tv ?_;refine rn0 (.cons (.cellA ty36 rfl rfl rfl) .nil) (.agg (.cons (.eqd ?_) (.cons (.eqd ?_) (.cons (.eqd ?_) (.cons (.eqd ?_) (.cons (.eqd ?_) (.cons (.eqd ?_) .nil)))))));rotate_left 6;try simp only[Q] at h1p
   exfalso;omega;all_goals (rfl)
  by_cases h6:p.op=6/\0<p.kids.length
  ·rw[zrV h6.1 h6.2];refine bd Tryz.f219 44 [] [] fun w0 F0 own kept hk=>?_;refine bx 3001 ?_;refine ab 3002 tz36 ?_;refine tv ?_;refine sq ?_ ?_<;>intro h1 h1p h1s;try simp only[Q,Pat.cs_len] at h1p
   exfalso;omega;refine sq ?_ ?_<;>intro h2 h2p h2s;refine sq ?_ ?_<;>intro h3 h3p h3s;refine xaU (i:=0) sl34 .none rfl rfl rfl rfl (zay h6.2) rfl ?_;refine ev ?_;refine wc zjU (zc7 n (p:=nth p.kids 0) (by have:=Pats.size_mem (zae h6.2);omega) (Pats.ok_mem hok.2 _ (zae h6.2))) rfl rfl ?_;refine so ty36 ?_;refine tv ?_;refine rn0 (.cons (.cellA ty36 rfl rfl rfl) .nil) (.agg (.cons (.eqd ?_) (.cons (.eqd ?_) (.cons (.eqd ?_) (.cons (.eqd ?_) (.cons (.eqd ?_) (.cons (.eqd ?_) .nil)))))));rotate_left 6;try simp only[Q,Pat.cs_len] at h3p
   focus (exfalso;first|omega|(simp_all;done))
   try simp only[Q,Pat.cs_len] at h2p
   exfalso;omega;all_goals (rfl)
  ·rw[zrW h2 h6];refine bd Tryz.f219 44 [] [] fun w0 F0 own kept hk=>?_;refine bx 3001 ?_;refine ab 3002 tz36 ?_;refine tv ?_;refine sq ?_ ?_<;>intro h1 h1p h1s;try simp only[Q,Pat.cs_len] at h1p
   exfalso;omega;refine sq ?_ ?_<;>intro h2 h2p h2s;refine sq ?_ ?_<;>intro h3 h3p h3s;try simp only[Q,Pat.cs_len] at h3p
   focus (exfalso;apply h6;first|omega|(simp_all;done))
   refine so ty34 ?_;refine tv ?_;refine xan 3001 5 7 6 rfl rfl rfl rfl ?_;refine xak (ι:=List (Pat)×List (Pat)) hk (fun x=>[(31,.d (.i (x.1.length:Int)))]) [5,32,33,34,35,36,37,38,39,40,41,42] (fun x=>[(3001,some (.box [.d (.i p.op),.d (.i p.ctor),.d (.i p.n),.d (.i p.m),.d (.i p.var),.gl 7 ((x.1.map zat).map Pat.cc)])),(7,some (.tok ((x.1.map zat).map Pat.cc).length 6))]) (fun x=>x.1++x.2=p.kids) (fun x=>x.2.length) ([],p.kids) (by simp) ⟨⟨_,rfl,xaq ?_⟩,trivial⟩ ⟨?_,⟨zab ?_,trivial⟩⟩ (fun x=>rfl) (fun x hg1=>?_);focus (rfl)
   focus (first|rfl|(simp[getH];done))
   focus (rfl)
   obtain⟨pre,rest⟩:=x;dsimp only at hg1 ⊢;refine evc [] [] ?_;refine sq ?_ ?_<;>intro h4 h4p h4s<;>(try simp only[Q,Pat.cs_len] at h4p);rcases rest with _|⟨y,rest⟩
   ·exfalso;simp_all
   refine xaU sl34 .none rfl rfl rfl rfl (Pat.cs_at' hg1) rfl ?_;refine ev ?_;refine ab 3005 tz36 ?_;refine so ty36 ?_;refine tv ?_;refine wc zjU (zc7 n (p:=y) (by have:=Pats.size_mem (l:=p.kids) (v:=y) (by rw[<-hg1];simp);omega) (Pats.ok_mem hok.2 y (by rw[<-hg1];simp))) rfl rfl ?_;refine si [0] [_] sl34 tz36 ?_;refine ap sl34 zz36 rfl rfl rfl (by intro x hx;(simp at hx;subst hx;rfl)) (by have:=congrArg List.length hg1;simp at this;simp;omega) ?_;refine evd [] [] ?_;refine so ty34 ?_;refine dr ?_;refine ar ?_;refine xah ((pre++[y],rest)) ⟨(by have hz:=hg1;rw[<-hz];simp),(by simp),sx ⟨⟨_,rfl,xaq ?_⟩,trivial⟩ ⟨?_,⟨zab ?_,trivial⟩⟩⟩;focus ((simp;done))
   focus (first|rfl|(simp[getH];done))
   focus ((simp;done))
   have hrest:rest=[]:=by
    rcases rest with _|⟨a,b⟩
    ·rfl
    ·exfalso;have hz:=congrArg List.length (hg1);simp only[xaa,xab,xac] at hz;omega
   subst hrest;refine so ty36 ?_;refine tv ?_;refine rn0 (.cons (.cellA ty36 rfl rfl rfl) .nil) (.agg (.cons (.eqd ?_) (.cons (.eqd ?_) (.cons (.eqd ?_) (.cons (.eqd ?_) (.cons (.eqd ?_) (.cons (.gld ?_) .nil)))))));rotate_left 6;refine sqF ?_;refine so ty34 ?_;refine tv ?_;refine xan 3001 5 7 6 rfl rfl rfl rfl ?_;refine xak (ι:=List (Pat)×List (Pat)) hk (fun x=>[(31,.d (.i (x.1.length:Int)))]) [5,32,33,34,35,36,37,38,39,40,41,42] (fun x=>[(3001,some (.box [.d (.i p.op),.d (.i p.ctor),.d (.i p.n),.d (.i p.m),.d (.i p.var),.gl 7 ((x.1.map zat).map Pat.cc)])),(7,some (.tok ((x.1.map zat).map Pat.cc).length 6))]) (fun x=>x.1++x.2=p.kids) (fun x=>x.2.length) ([],p.kids) (by simp) ⟨⟨_,rfl,xaq ?_⟩,trivial⟩ ⟨?_,⟨zab ?_,trivial⟩⟩ (fun x=>rfl) (fun x hg1=>?_);focus (rfl)
   focus (first|rfl|(simp[getH];done))
   focus (rfl)
   obtain⟨pre,rest⟩:=x;dsimp only at hg1 ⊢;refine evc [] [] ?_;refine sq ?_ ?_<;>intro h6 h6p h6s<;>(try simp only[Q,Pat.cs_len] at h6p);rcases rest with _|⟨y,rest⟩
   ·exfalso;simp_all
   refine xaU sl34 .none rfl rfl rfl rfl (Pat.cs_at' hg1) rfl ?_;refine ev ?_;refine ab 3005 tz36 ?_;refine so ty36 ?_;refine tv ?_;refine wc zjU (zc7 n (p:=y) (by have:=Pats.size_mem (l:=p.kids) (v:=y) (by rw[<-hg1];simp);omega) (Pats.ok_mem hok.2 y (by rw[<-hg1];simp))) rfl rfl ?_;refine si [0] [_] sl34 tz36 ?_;refine ap sl34 zz36 rfl rfl rfl (by intro x hx;(simp at hx;subst hx;rfl)) (by have:=congrArg List.length hg1;simp at this;simp;omega) ?_;refine evd [] [] ?_;refine so ty34 ?_;refine dr ?_;refine ar ?_;refine xah ((pre++[y],rest)) ⟨(by have hz:=hg1;rw[<-hz];simp),(by simp),sx ⟨⟨_,rfl,xaq ?_⟩,trivial⟩ ⟨?_,⟨zab ?_,trivial⟩⟩⟩;focus ((simp;done))
   focus (first|rfl|(simp[getH];done))
   focus ((simp;done))
   have hrest:rest=[]:=by
    rcases rest with _|⟨a,b⟩
    ·rfl
    ·exfalso;have hz:=congrArg List.length (hg1);simp only[xaa,xab,xac] at hz;omega
   subst hrest;refine so ty36 ?_;refine tv ?_;refine rn0 (.cons (.cellA ty36 rfl rfl rfl) .nil) (.agg (.cons (.eqd ?_) (.cons (.eqd ?_) (.cons (.eqd ?_) (.cons (.eqd ?_) (.cons (.eqd ?_) (.cons (.gld ?_) .nil)))))));rotate_left 6;all_goals (first|rfl|(rw[List.append_nil] at hg1;subst hg1;rw[<-xau];all_goals rfl))
theorem zep:∀(n:Nat){p:Pat},p.size<=n->p.ok->FnD Tryz.prog 220 [.agg [.d (.i p.op),.d (.i p.ctor),.d (.i p.n),.d (.i p.m),.d (.i p.var),.d (zad p.kids)]] [] (.d (.i (cntS p))) []
 |0,p,h,_=>by rw[Pat.size_eq] at h;omega
 |n+1,p,h,hok=>by
  rw[Pat.size_eq] at h;rw[Pat.ok_iff] at hok;have hok1:=hok.1;have hbd:=fun i=>znP (nth p.kids i);by_cases h5:p.op=5
  ·rw[znQ,if_pos h5];refine bd Tryz.f220 31 [] [] fun w0 F0 own kept hk=>?_;refine bx 3001 ?_;refine ev ?_;refine sq ?_ ?_<;>intro h1 h1p h1s;refine xak (ι:=Nat×Int) hk (fun x=>[(12,.d (.i (x.1:Int))),(3,.d (.i x.2))]) [5,13,14,15,16,17,18,19,20,21,22,23,24,25,26,27,28,29] (fun x=>[]) (fun x=>x.1<=p.kids.length/\cntO (p.kids.drop x.1) x.2=cntO p.kids 0/\0<=x.2/\x.2<=401) (fun x=>p.kids.length-x.1) (0,0) ⟨by simp,rfl,by simp,by simp⟩ ⟨⟨_,rfl,xaq ?_⟩,⟨⟨_,rfl,xaq ?_⟩,trivial⟩⟩ trivial (fun x=>rfl) (fun x hg1=>?_);iterate 2 focus (rfl)
   refine evc [] [] ?_;refine sq ?_ ?_<;>intro h2 h2p h2s<;>(try simp only[Q,Pat.cs_len] at h2p);refine xaU sl34 .none rfl rfl rfl rfl (zay (by omega)) rfl ?_;refine ev ?_;refine ab 3005 tz36 ?_;refine so ty36 ?_;refine tv ?_;refine sq ?_ ?_<;>intro h3 h3p h3s<;>(try simp only[Q,Pat.cs_len] at h3p);refine wc zmj (zep n (p:=nth p.kids x.1) (by have:=Pats.size_mem (zae (l:=p.kids) (i:=x.1) (by omega));omega) (Pats.ok_mem hok.2 _ (zae (by omega)))) rfl rfl ?_;refine ev ?_;refine ar ?_ (by(have hb:=hbd x.1;constructor<;>omega));refine xa4 .none rfl rfl rfl ?_;refine ev ?_;refine ar ?_ (by(constructor<;>omega));refine xah ((x.1+1,cap (x.2+cntS (nth p.kids x.1)))) ⟨(by
        have hb:=hbd x.1;have hc:=zms (x:=x.2+cntS (nth p.kids x.1)) (by omega);exact⟨by dsimp only;omega,by dsimp only;rw[<-zt8 (by omega)];exact hg1.2.1,hc.1,hc.2⟩),(by dsimp only;omega),sx ⟨⟨_,rfl,xaq ?_⟩,⟨⟨_,rfl,xaq ?_⟩,trivial⟩⟩ trivial⟩
   iterate 2 focus (rfl)
   exfalso;omega;refine rq ?_;rotate_left;try simp only[Q,Pat.cs_len] at h1p
   exfalso;omega;all_goals (refine congrArg D.i ?_;rw[<-hg1.2.1,List.drop_eq_nil_of_le (by omega)];rfl)
  ·rw[znQ,if_neg h5];refine bd Tryz.f220 31 [] [] fun w0 F0 own kept hk=>?_;refine bx 3001 ?_;refine ev ?_;refine sq ?_ ?_<;>intro h1 h1p h1s;try simp only[Q,Pat.cs_len] at h1p
   exfalso;omega;refine xak (ι:=Nat×Int) hk (fun x=>[(12,.d (.i (x.1:Int))),(3,.d (.i x.2))]) [5,13,14,15,16,17,18,19,20,21,22,23,24,25,26,27,28,29] (fun x=>[]) (fun x=>x.1<=p.kids.length/\cntM (p.kids.drop x.1) x.2=cntM p.kids 1/\0<=x.2/\x.2<=401) (fun x=>p.kids.length-x.1) (0,1) ⟨by simp,rfl,by simp,by simp⟩ ⟨⟨_,rfl,xaq ?_⟩,⟨⟨_,rfl,xaq ?_⟩,trivial⟩⟩ trivial (fun x=>rfl) (fun x hg1=>?_);iterate 2 focus (rfl)
   refine evc [] [] ?_;refine sq ?_ ?_<;>intro h2 h2p h2s<;>(try simp only[Q,Pat.cs_len] at h2p);refine xaU sl34 .none rfl rfl rfl rfl (zay (by omega)) rfl ?_;refine ev ?_;refine ab 3005 tz36 ?_;refine so ty36 ?_;refine tv ?_;refine sq ?_ ?_<;>intro h3 h3p h3s;try simp only[Q,Pat.cs_len] at h3p
   exfalso;omega;refine wc zmj (zep n (p:=nth p.kids x.1) (by have:=Pats.size_mem (zae (l:=p.kids) (i:=x.1) (by omega));omega) (Pats.ok_mem hok.2 _ (zae (by omega)))) rfl rfl ?_;refine ev ?_;refine ar ?_ (by(have hb:=hbd x.1;have h3:=Int.mul_le_mul hg1.2.2.2 hb.2 hb.1 (by omega);have h4:=Int.mul_nonneg hg1.2.2.1 hb.1;constructor<;>omega));refine xa4 .none rfl rfl rfl ?_;refine ev ?_;refine ar ?_ (by(constructor<;>omega));refine xah ((x.1+1,cap (x.2*cntS (nth p.kids x.1)))) ⟨(by
        have hb:=hbd x.1;have hc:=zms (x:=x.2*cntS (nth p.kids x.1)) (Int.mul_nonneg hg1.2.2.1 hb.1);exact⟨by dsimp only;omega,by dsimp only;rw[<-zt7 (by omega)];exact hg1.2.1,hc.1,hc.2⟩),(by dsimp only;omega),sx ⟨⟨_,rfl,xaq ?_⟩,⟨⟨_,rfl,xaq ?_⟩,trivial⟩⟩ trivial⟩
   iterate 2 focus (rfl)
   refine rq ?_;rotate_left;all_goals (refine congrArg D.i ?_;rw[<-hg1.2.1,List.drop_eq_nil_of_le (by omega)];rfl)
theorem zfN {xs:List Pat} (hs:xs.length<=1000000000000):FnD Tryz.prog 242 [.d (zad xs)] [] (.gl 77 (Pat.cs xs)) [(77,some (.tok (Pat.cs xs).length 6))]:=by
 refine Fn.body (fn:=Tryz.f242) (n:=8) rfl rfl rfl rfl rfl (fun w0 F0 own kept hk=>?_);refine xam 0 rfl (fun hx0=>?_) ?_;refine evc [2,4] [] ?_;refine asg ?_;refine tv ?_;refine xaS sl34 .none rfl rfl ?_;refine tv ?_;refine sqT ?_;refine xaC 77 6 .none rfl rfl ?_;refine tv ?_;refine rn [(77,some (.tok (Pat.cs xs).length 6))] (r1 rfl) (.glg ?_) ⟨rfl,rfl⟩ (SubH.get ⟨?_,trivial⟩) (zaA rfl);rotate_left 2;refine evc [2,4] [] ?_;refine asg ?_;refine tv ?_;refine xaR sl34 .none rfl rfl ?_;refine tv ?_;refine sqF ?_;refine xbi 77 sl34 .none rfl rfl ?_;refine evs [2,4] [] ?_;refine ap sl34 zz36 rfl rfl rfl (by intro y hy;rw[xau] at hy;obtain⟨z,_,rfl⟩:=List.mem_map.1 hy;rfl) (by simp[Pat.cs_len];omega) ?_;refine asg ?_;refine tv ?_;refine rn [(77,some (.tok (Pat.cs xs).length 6))] (r1 rfl) (.glg ?_) ⟨rfl,rfl⟩ (SubH.get ⟨?_,trivial⟩) (zaA rfl);rotate_left 2;all_goals (first|((first|rfl|exact hx0.symm|(simp;done));done)|(first|rfl|(simp[hx0];rfl)|(simp;rfl)))
def zdR (C:List Pat) (q:Pat):List Pat:=C.map fun c=> .mk q.op q.ctor q.n q.m q.var (q.kids++[c])
theorem zs1 {ls:List (List Pat)}{C:List Pat}{a b c d e:Int}:((zef ls).map (fun l=>Pat.mk a b c d e l)).flatMap (zdR C)=(zef (ls++[C])).map (fun l=>Pat.mk a b c d e l):=by
 rw[zti];unfold za5 zdR;rw[List.flatMap_map,List.map_flatMap];congr 1
 funext q
 simp[zce,zfd,mk_n,mk_m,zhB,zaX]
def zcn (p:Pat) (i:Nat):List Pat:=(zef ((p.kids.take i).map zar)).map fun l=>Pat.mk p.op p.ctor p.n p.m p.var l
theorem zvl (p:Pat):zcn p 0=[.mk p.op p.ctor p.n p.m p.var []]:=by unfold zcn;simp[zef]
theorem zrE {p:Pat}{i:Nat} (h:i<p.kids.length):(zcn p i).flatMap (zdR (zar (nth p.kids i)))=zcn p (i+1):=by
 unfold zcn;rw[zs1,List.take_succ_eq_append_getElem h,xaf,<-zaO h];rfl
theorem zsZ {p:Pat}{i:Nat} (h5:p.op≠5) (h:p.kids.length<=i):zcn p i=zar p:=by
 unfold zcn;rw[zc5 h5,List.take_of_length_le h]
theorem zs0 {n:Nat}{p:Pat} (h:binP (n+1) p=true) (h5:p.op≠5) (i:Nat):(zcn p i).length<=(zar p).length:=by
 unfold zcn;rw[xac];exact zrO h h5 i
theorem zrD {p:Pat}{i:Nat}{q:Pat} (h:q∈zcn p i):q.kids.length<=p.kids.length:=by
 unfold zcn at h;obtain⟨l,hl,rfl⟩:=List.mem_map.1 h;obtain⟨q0,hq,r,e,hlr,_⟩:=zh4 _ _ _ hl;rw[List.mem_singleton] at hq;rw[hq,List.nil_append] at e;rw[zaX,e,hlr];simp;omega
theorem zoC {α β:Type}{f:α->List β}{k:Nat} (hf:∀x,(f x).length<=k):∀l:List α,(l.flatMap f).length<=l.length*k
 | []=>by simp
 |x::r=>by
  rw[List.flatMap_cons,xaa,xab,Nat.succ_mul];have:=hf x;have:=zoC hf r;omega
theorem zeT:∀(n:Nat){p:Pat},binP n p=true->p.ok->(zar p).length<=40->FnD Tryz.prog 221 [.agg [.d (.i p.op),.d (.i p.ctor),.d (.i p.n),.d (.i p.m),.d (.i p.var),.d (zad p.kids)]] [] (.gl 9 (Pat.cs (zar p))) [(9,some (.tok (Pat.cs (zar p)).length 6))]
 |0,p,h,_,_=>by simp[binP] at h
 |n+1,p,h,hok,hlen=>by
  have hok':=(Pat.ok_iff p).1 hok;have hok1:=hok'.1;by_cases h5:p.op=5
  ·have hl:=zkQ h h5;have e5:=zdu h5 hl;have l0:=zid h (i:=0) (by omega);have l1:=zid h (i:=1) (by omega);have c0:=zeT n (zd8 h (i:=0) (by omega)) (Pats.ok_mem hok'.2 _ (zae (by omega))) (by omega);have c1:=FnD.glD (zeT n (zd8 h (i:=1) (by omega)) (Pats.ok_mem hok'.2 _ (zae (by omega))) (by omega));rw[e5];refine bd Tryz.f221 70 [] [] fun w0 F0 own kept hk=>?_;refine bx 3001 ?_;refine ev ?_;refine sq ?_ ?_<;>intro h1 h1p h1s<;>(try simp only[Q,Pat.cs_len] at h1p);refine xaU (i:=0) sl34 .none rfl rfl rfl rfl (zay (by omega)) rfl ?_;refine evd [] [] ?_;refine Walk.call (cr:=[9]) zmk (c0) rfl .none rfl rfl (LeL.refl _) trivial rfl rfl rfl ?_;refine evd [] [] ?_;refine xaU (i:=1) sl34 .none rfl rfl rfl rfl (zay (by omega)) rfl ?_;refine evd [] [] ?_;refine wc zmk (c1) rfl rfl ?_;refine ap sl34 zz36 rfl rfl rfl (by intro x hx;exact zbM _ x hx) (by simp[Pat.cs_len];omega) ?_;refine evd [] [] ?_;refine dr ?_;refine rn [(9,some (.tok (Pat.cs (zar (nth p.kids 0)++zar (nth p.kids 1))).length 6))] (r1 rfl) (.glg ?_) ⟨rfl,rfl⟩ (SubH.get ⟨?_,trivial⟩) (zaA rfl);rotate_left 2;exfalso;omega;all_goals (first|((first|rfl|(simp[xau];done));done)|(first|rfl|(simp[xau];rfl)))
  ·have hfl:=zs0 h h5;have hfk:=fun(i:Nat) (q:Pat) (hq:q∈zcn p i)=>zrD hq;have hf0:=zvl p;have hfe:=fun(i:Nat) (hi:p.kids.length<=i)=>zsZ h5 hi;have hfn:=fun(i:Nat) (hi:i<p.kids.length)=>zrE hi;have hcal:=fun(i:Nat) (hi:i<p.kids.length)=>FnD.glD (zeT n (zd8 h hi) (Pats.ok_mem hok'.2 _ (zae hi)) (by have:=zid h hi;omega));have hcl:=fun(i:Nat) (hi:i<p.kids.length)=>zid h hi;have hgl:=fun(C:List Pat) (q:Pat)=>show(zdR C q).length<=C.length from by unfold zdR;simp
   generalize zar p=SP at *;refine bd Tryz.f221 70 [8] [10,23] fun w0 F0 own kept hk=>?_;refine bx 3001 ?_;refine evs [8] [] ?_;refine sq ?_ ?_<;>intro h1 h1p h1s<;>(try simp only[Q,Pat.cs_len] at h1p);exfalso;omega;refine so ty34 ?_;refine tv ?_;refine xbk 9 sl34 tz36 rfl (by decide) (ks:=[0]) (xs:=[_]) rfl rfl (by decide) (by decide) .none rfl rfl rfl rfl rfl ?_;refine evs [8] [] ?_;refine xak (ι:=Nat) hk (fun i=>[(35,.d (.i (i:Int))),(4,.gl 9 ((zcn p i).map Pat.cc)),(32,.any)]) [6,7,8,10,12,13,36,37,38,39,40,41,42,43,44,45,46,47,48,49,50,51,52,53,54,55,56,57,58,59,60,61,62,63,64,65,66,67,68] (fun i=>[(9,some (.tok (((zcn p i).map Pat.cc)).length 6))]) (fun i=>i<=p.kids.length) (fun i=>p.kids.length-i) 0 (by omega) ⟨⟨_,rfl,xaq ?_⟩,⟨⟨_,rfl,LeA.glg ?_⟩,⟨⟨_,rfl,.any _⟩,trivial⟩⟩⟩ ⟨zab ?_,trivial⟩ (fun x=>rfl) (fun i hg1=>?_);iterate 3 focus (rfl)
   refine evc [8] [10,23] ?_;refine sq ?_ ?_<;>intro h2 h2p h2s<;>(try simp only[Q,Pat.cs_len] at h2p);refine xaU sl34 .none rfl rfl rfl rfl (zay (by omega)) rfl ?_;refine evs [8] [] ?_;refine ab 3006 tz36 ?_;refine so ty36 ?_;refine tv ?_;refine wc zmk (hcal i (by omega)) rfl rfl ?_;refine evs [8] [] ?_;refine CWp.tokDrop 4 9 rfl rfl ?_;refine evc [8] [] ?_;refine xaC 3 6 .none rfl rfl ?_;refine tv ?_;refine xak (ι:=List (Pat)×List (Pat)) hk (fun x=>[(43,.d (.i (x.1.length:Int))),(8,.gl 3 ((x.1.flatMap (zdR (zar (nth p.kids i)))).map Pat.cc))]) [10,12,13,44,45,46,47,48,49,50,51,52,53,54,55,56,57,58,59,60,61,62,63,64,65,66] (fun x=>[(3,some (.tok (((x.1.flatMap (zdR (zar (nth p.kids i)))).map Pat.cc)).length 6))]) (fun x=>x.1++x.2=zcn p i) (fun x=>x.2.length) ([],zcn p i) (by simp) ⟨⟨_,rfl,xaq ?_⟩,⟨⟨_,rfl,LeA.glg ?_⟩,trivial⟩⟩ ⟨zab ?_,trivial⟩ (fun x=>rfl) (fun x hg2=>?_);iterate 3 focus (rfl)
   obtain⟨pre2,rest2⟩:=x;dsimp only at hg2 ⊢;refine evc [8] [10,23] ?_;refine sq ?_ ?_<;>intro h3 h3p h3s<;>(try simp only[Q,Pat.cs_len] at h3p);rcases rest2 with _|⟨q,rest2⟩
   ·exfalso;simp_all
   have hqk:=hfk i q (by rw[<-hg2];simp);have hl2:=congrArg List.length hg2;simp only[xaa,xab] at hl2;have hl2b:=hfl i;refine xaU sl34 .none rfl rfl rfl rfl (zaL hg2) rfl ?_;refine evs [8] [] ?_;refine ab 3010 tz36 ?_;refine so ty36 ?_;refine tv ?_;refine xak (ι:=List (Pat)×List (Pat)) hk (fun x=>[(49,.d (.i (x.1.length:Int))),(8,.gl 3 ((pre2.flatMap (zdR (zar (nth p.kids i)))++zdR x.1 q).map Pat.cc))]) [12,13,50,51,52,53,54,55,56,57,58,59,60,61,62,63,64,65] (fun x=>[(3,some (.tok (((pre2.flatMap (zdR (zar (nth p.kids i)))++zdR x.1 q).map Pat.cc)).length 6))]) (fun x=>x.1++x.2=zar (nth p.kids i)) (fun x=>x.2.length) ([],zar (nth p.kids i)) (by simp) ⟨⟨_,rfl,xaq ?_⟩,⟨⟨_,rfl,LeA.glg ?_⟩,trivial⟩⟩ ⟨zab ?_,trivial⟩ (fun x=>rfl) (fun x hg3=>?_);iterate 3 focus ((simp[zdR];done))
   obtain⟨pre3,rest3⟩:=x;dsimp only at hg3 ⊢;refine evc [8] [10,23] ?_;refine sq ?_ ?_<;>intro h4 h4p h4s<;>(try simp only[Q,Pat.cs_len] at h4p);rcases rest3 with _|⟨y,rest3⟩
   ·exfalso;simp_all
   have hl3:=congrArg List.length hg3;simp only[xaa,xab] at hl3;have hl3b:=hcl i (by omega);refine xaU sl34 .none rfl rfl rfl rfl (Pat.cs_at' hg3) rfl ?_;refine evs [8] [] ?_;refine ab 3012 tz36 ?_;refine so ty36 ?_;refine tv ?_;refine ab 3013 tz36 ?_;refine so ty36 ?_;refine tv ?_;refine Walk.call (cr:=[77]) zp5 (zfN (xs:=q.kids) (by omega)) rfl .none rfl rfl (LeL.refl _) trivial rfl rfl rfl ?_;refine evd [8] [] ?_;refine si [0] [_] sl34 tz36 ?_;refine ap sl34 zz36 rfl rfl rfl (by intro x hx;first|(simp at hx;subst hx;rfl)|exact zhk _ x hx) (by first|(simp;omega)|(simp only[Pat.cs_len,xaa,xab,xai];omega)) ?_;refine evd [8] [] ?_;refine so ty34 ?_;refine dr ?_;refine si [0] [_] sl34 tz36 ?_;refine ap sl34 zz36 rfl rfl rfl (by intro x hx;first|(simp at hx;subst hx;rfl)|exact zbM _ x hx) (by first|(simp;omega)|(have h10:=hgl pre3 q;have h8:=congrArg List.length hg2;have h9:=congrArg List.length hg3;have h7:=zoC (hgl (zar (nth p.kids i))) pre2;have h6:=hfl i;have h5:=hcl i (by omega);simp only[xaa,xab,xac,xai] at *;have h4:pre2.length*(zar (nth p.kids i)).length<=40*40:=Nat.mul_le_mul (by omega) (by omega);omega)) ?_;refine asg ?_;refine tv ?_;refine ar ?_;refine xah ((pre3++[y],rest3)) ⟨(by have hz:=hg3;rw[<-hz];simp),(by simp),sx ⟨⟨_,rfl,xaq ?_⟩,⟨⟨_,rfl,LeA.glg ?_⟩,trivial⟩⟩ ⟨zab ?_,trivial⟩⟩;iterate 3 focus (first|(simp[zdR];omega)|(simp[zdR,zce,zfd,mk_n,mk_m,zhB,zaX,xau];done))
   have hrest3:rest3=[]:=by
    rcases rest3 with _|⟨a,b⟩
    ·rfl
    ·exfalso;have hz:=congrArg List.length (hg3);simp only[xaa,xab,xac] at hz;omega
   subst hrest3;refine ar ?_;refine xah ((pre2++[q],rest2)) ⟨(by have hz:=hg2;rw[<-hz];simp),(by simp),sx ⟨⟨_,rfl,xaq ?_⟩,⟨⟨_,rfl,LeA.glg ?_⟩,trivial⟩⟩ ⟨zab ?_,trivial⟩⟩;iterate 3 focus (first|(simp;done)|(rw[List.append_nil] at hg3;rw[List.flatMap_append,xaf];simp[zdR,<-hg3];done))
   have hrest2:rest2=[]:=by
    rcases rest2 with _|⟨a,b⟩
    ·rfl
    ·exfalso;have hz:=congrArg List.length (hg2);simp only[xaa,xab,xac] at hz;omega
   subst hrest2;refine CWp.tokRen 4 3 9 rfl rfl (by kernel_rfl) ?_;refine evc [8] [] ?_;refine ar ?_;rw[List.append_nil] at hg2;refine xah (i+1) ⟨(by omega),(by omega),sx ⟨⟨_,rfl,xaq ?_⟩,⟨⟨_,rfl,LeA.glg ?_⟩,⟨⟨_,rfl,.any _⟩,trivial⟩⟩⟩ ⟨zab ?_,trivial⟩⟩;iterate 3 focus (first|rfl|(rw[<-hfn i (by omega),<-hg2];done))
   refine rn [(9,some (.tok (Pat.cs SP).length 6))] (r1 rfl) (.glg ?_) ⟨rfl,rfl⟩ (SubH.get ⟨?_,trivial⟩) (zaA rfl);rotate_left 2;all_goals ((((rw[<-hfe i (by omega),show Pat.cs (zcn p i)=(zcn p i).map Pat.cc from xau _];all_goals rfl));done))
def zaY (p:Pat):List Pat:=if (zar (zat p)).length<=40 then zar (zat p) else []
def zcW (p:Pat):Bool:=decide ((zar (zat p)).length<=40)
theorem zjA {w:List Data}{n:Nat}{t:Ty}{p:Pat} (h:zao w n t p=true) (hok:p.ok):FnD Tryz.prog 124 [.agg [.d (.i p.op),.d (.i p.ctor),.d (.i p.n),.d (.i p.m),.d (.i p.var),.d (zad p.kids)]] [] (.tup [.d (zad (zaY p)),.d (.bool (zcW p))]) []:=by
 have hb:=zgy n h;have hbo:=zhe p hok;have hce:=(zj3 n hb).1;have hbp:=zc7 _ (Nat.le_refl _) hok;have hcs:=zep _ (Nat.le_refl _) hbo;have hsp:=fun h40=>FnD.glD (zeT n hb hbo h40);rw[hce] at hcs;unfold zaY zcW;generalize zat p=b at *;by_cases h40:(zar b).length<=40
 ·rw[if_pos h40,decide_eq_true h40];have hc40:cap ((zar b).length:Int)<=40:=by unfold cap;split<;>omega
  refine bd Tryz.f124 12 [] [] fun w0 F0 own kept hk=>?_;refine bx 3001 ?_;refine ev ?_;refine wc zjU (hbp) rfl rfl ?_;refine ab 3004 tz36 ?_;refine so ty36 ?_;refine tv ?_;refine wc zmj (hcs) rfl rfl ?_;refine ev ?_;refine sq ?_ ?_<;>intro h1 h1p h1s<;>(try simp only[Q] at h1p);exfalso;omega;refine wc zmk (hsp h40) rfl rfl ?_;refine ev ?_;refine rn0 (r2 rfl rfl) (.tup (.cons (.eqd ?_) (.cons (.eqd ?_) .nil)));rotate_left 2;all_goals (rfl)
 ·rw[if_neg h40,decide_eq_false h40];have hc40:¬cap ((zar b).length:Int)<=40:=by unfold cap;split<;>omega
  refine bd Tryz.f124 12 [] [] fun w0 F0 own kept hk=>?_;refine bx 3001 ?_;refine ev ?_;refine wc zjU (hbp) rfl rfl ?_;refine ab 3004 tz36 ?_;refine so ty36 ?_;refine tv ?_;refine wc zmj (hcs) rfl rfl ?_;refine ev ?_;refine sq ?_ ?_<;>intro h1 h1p h1s<;>(try simp only[Q] at h1p);refine rn0 (r2 rfl rfl) (.tup (.cons (.nild ?_) (.cons (.eqd ?_) .nil)));rotate_left 2;exfalso;omega;all_goals (rfl)
structure Spa (w:List Data):Prop where
 dp:Dp w
 ctors:∀t,InS (w.length*4) t->(zai w t).length<=4/\(zai w t).Nodup
 args:∀t c,InS (w.length*4) t->c∈zai w t->(zaa w t c).length<=3
theorem zj4 (k:Int):∀(l:List Ctor) (i:Nat),(za0 k i l).Pairwise (· < ·)
 | [],_=>by simp[za0]
 |x::r,i=>by
  unfold za0;have ih:=zj4 k r (i+1);split
  ·refine List.pairwise_cons.2 ⟨fun y hy=>?_,ih⟩;obtain⟨j,rfl,h1,_⟩:=zgH k r (i+1) y hy;omega
  ·exact ih
theorem zrx {w:List Data} (hs:WSmall w) (hv:za4 w=true):Spa w:=by
 have hd:=zma hs hv;have hW:=(zcX w).1 hv;refine⟨hd,fun t ht=>?_,fun t c ht hc=>?_⟩
 ·unfold zai;split
  ·simp
  ·rename_i he;refine⟨?_,(zj4 _ _ _).imp (fun h=>by omega)⟩;rcases ht with h|⟨h1,h2⟩
   ·exact absurd h he
   ·have:=hd.ct _ h1;rw[h2] at this;exact this
 ·have hti:=zbD ht;obtain⟨d,h1,h2,j,h3,h4⟩:=zcS (a:=t.data) (k:=t.index) hti hc;have hco:=hW.ctor _ (zae h2) _ (zae h4);simp only[zbA,xad,decide_eq_true_eq] at hco;unfold zaa;rw[h1,h3];simp only[Int.toNat_natCast,xac];omega
abbrev intQ (n m:Int):Pat:= .mk 3 0 n m 0 []
abbrev za8 (c:Int) (l:List Pat):Pat:= .mk 4 c 0 0 0 l
def zbG (w:List Data) (t:Ty) (c:Int):Pat:=za8 c ((zaa w t c).map fun _=>anyQ)
def lowQ (p:Pat):Int:=if p.op=1 then 0 else p.n
def zcl (p:Pat):Int:=if p.op=1 then 9 else p.m
def minQ (a b:Int):Int:=if b<a then b else a
def maxQ (a b:Int):Int:=if a<b then b else a
def zbN (n m:Int):List Pat:=if n<=m then [intQ n m] else []
def zbH (f:Pat->Pat->Option Pat):List Pat->List Pat->List Pat->Option (List Pat)
 |p::r,q::s,acc=>match f p q with
  |none=>none
  |some x=>zbH f r s (acc++[x])
 |_,_,acc=>some acc
def zaI:Nat->Pat->Pat->Option Pat
 |0,_,_=>none
 |n+1,a,b=>if a.op=1 then some b else if b.op=1 then some a else if a.op=3 then (if maxQ a.n b.n<=minQ a.m b.m then some (intQ (maxQ a.n b.n) (minQ a.m b.m)) else none)
  else if a.ctor=b.ctor then (zbH (zaI n) a.kids b.kids []).map (za8 a.ctor) else none
def zaP (f:Ty->Pat->Pat->List Pat) (c:Int):List Ty->List Pat->List Pat->List Pat->List Pat
 |u::r,x::s,y::q,front=>(f u x y).map (fun z=>za8 c (front++[z]++s))++(match zaI 11 x y with
  |none=>[]
  |some both=>zaP f c r s q (front++[both]))
 |_,_,_,_=>[]
def zb2 (f:Ty->Pat->Pat->List Pat) (w:List Data) (t:Ty) (a b:Pat):List Pat:=if a.ctor=b.ctor then zaP f a.ctor (zaa w t a.ctor) a.kids b.kids [] else [a]
def zd5 (a b:Pat):List Pat:=zbN (lowQ a) (minQ (zcl a) (b.n-1))++zbN (maxQ (lowQ a) (b.m+1)) (zcl a)
def zap (w:List Data):Nat->Ty->Pat->Pat->List Pat
 |0,_,_,_=>[]
 |n+1,t,a,b=>if b.op=1 then [] else if b.op=3 then zd5 a b else if a.op=1 then (zai w t).flatMap fun c=>zb2 (zap w n) w t (zbG w t c) b else zb2 (zap w n) w t a b
section
variable {w:List Data}{n:Nat}{t:Ty}{a b:Pat}
theorem zfc (h:b.op=1):zap w (n+1) t a b=[]:=by unfold zap;rw[if_pos h]
theorem zhi (h:b.op=3):zap w (n+1) t a b=zd5 a b:=by unfold zap;rw[if_neg (by omega),if_pos h]
theorem zf2 (h:b.op=4) (h2:a.op=1):zap w (n+1) t a b=(zai w t).flatMap fun c=>zb2 (zap w n) w t (zbG w t c) b:=by
 conv=>lhs;unfold zap
 rw[if_neg (by omega),if_neg (by omega),if_pos h2]
theorem zcV (h:b.op=4) (h2:a.op=4):zap w (n+1) t a b=zb2 (zap w n) w t a b:=by
 conv=>lhs;unfold zap
 rw[if_neg (by omega),if_neg (by omega),if_neg (by omega)]
theorem zhy (h:a.op=1):zaI (n+1) a b=some b:=by unfold zaI;rw[if_pos h]
theorem ziE (h:a.op≠1) (h2:b.op=1):zaI (n+1) a b=some a:=by unfold zaI;rw[if_neg h,if_pos h2]
theorem ziF (h:a.op=3) (h2:b.op≠1):zaI (n+1) a b=if maxQ a.n b.n<=minQ a.m b.m then some (intQ (maxQ a.n b.n) (minQ a.m b.m)) else none:=by
 conv=>lhs;unfold zaI
 rw[if_neg (by omega),if_neg h2,if_pos h]
theorem zhz (h:a.op=4) (h2:b.op≠1) (hc:a.ctor=b.ctor):zaI (n+1) a b=(zbH (zaI n) a.kids b.kids []).map (za8 a.ctor):=by
 conv=>lhs;unfold zaI
 rw[if_neg (by omega),if_neg h2,if_neg (by omega),if_pos hc]
theorem zhh (h:a.op=4) (h2:b.op≠1) (hc:¬a.ctor=b.ctor):zaI (n+1) a b=none:=by
 conv=>lhs;unfold zaI
 rw[if_neg (by omega),if_neg h2,if_neg (by omega),if_neg hc]
end
theorem zby {w:List Data}{n:Nat}{t:Ty}{p:Pat} (h:zah w n t p=true) (h3:p.op=3):t.data = -1/\0<=p.n/\p.n<=p.m/\p.m<=9:=by
 have ho:=(zf5 h).1;unfold ownP at ho;have:=(of_decide_eq_true ho).2.2.2.2;omega
theorem zaE {w:List Data}{n:Nat}{t:Ty}{p:Pat} (h:zah w n t p=true) (h4:p.op=4):p.ctor∈zai w t/\t.data≠ -1/\p.kids.length=(zaa w t p.ctor).length/\p=za8 p.ctor p.kids:=by
 obtain⟨ho,hl⟩:=zf5 h;have hm:=zb4 ho h4;refine⟨hm,fun e=>by unfold zai at hm;rw[if_pos e] at hm;simp at hm,by rw[zaU h4] at hl;exact hl, ?_⟩;unfold ownP at ho;have hh:=of_decide_eq_true ho;have h1:=hh.2.1 (by omega);have h2:=hh.2.2.1 (by omega);obtain⟨op,c,m,k,v,ks⟩:=p;change op=4 at h4
 change v=0 at h1
 change m=0/\k=0 at h2
 rw[h4,h1,h2.1,h2.2];rfl
theorem zoO {w:List Data}{n:Nat}{t:Ty}{a b:Int} (ht:t.data = -1) (h0:0<=a) (h1:a<=b) (h2:b<=9):zah w (n+1) t (intQ a b)=true:=by
 unfold zah;have e:zac w t (intQ a b)=[]:=rfl;rw[e];have ho:ownP w t (intQ a b)=true:=by
  unfold ownP;refine decide_eq_true ⟨fun h=>?_,fun _=>rfl,fun h=>absurd rfl h,fun _=>rfl,.inr (.inr (.inr (.inr (.inl ⟨rfl,ht,h0,h1,h2⟩))))⟩;exfalso;change (3:Int)=2\/(3:Int)=6 at h;omega
 rw[ho];rfl
theorem zi1 {w:List Data}{n:Nat}{t:Ty}{c:Int}{l:List Pat} (hc:c∈zai w t) (hl:l.length=(zaa w t c).length) (hk:∀i,i<l.length->zah w n (nth (zaa w t c) i) (nth l i)=true):zah w (n+1) t (za8 c l)=true:=by
 unfold zah;have e:zac w t (za8 c l)=zaa w t c:=zaU rfl;have ho:ownP w t (za8 c l)=true:=by
  unfold ownP;refine decide_eq_true ⟨fun h=>?_,fun _=>rfl,fun _=>⟨rfl,rfl⟩,fun h=>absurd rfl h,.inr (.inr (.inr (.inr (.inr ⟨rfl,hc⟩))))⟩;exfalso;change (4:Int)=2\/(4:Int)=6 at h;omega
 rw[ho,e,zaX];exact zbz hl.symm (fun i hi=>hk i (by omega))
theorem zdd {w:List Data}{n m:Nat} (h:n<=m){t:Ty}{p:Pat} (hp:zah w n t p=true):zah w m t p=true:=by
 induction h with
 |refl=>exact hp
 |step _ ih=>exact zgw _ ih
theorem zcx {w:List Data}{n:Nat}{t:Ty}{c:Int} (hc:c∈zai w t):zah w (n+2) t (zbG w t c)=true:=by
 unfold zbG;refine zi1 hc (by simp) (fun i hi=>?_);have e:nth ((zaa w t c).map fun _=>anyQ) i=anyQ:=by
  rw[zaO hi];simp
 rw[e];exact zjQ
theorem zmV {f:Pat->Pat->Option Pat}{a b:List Pat}{i:Nat}{acc:List Pat} (h1:i<a.length) (h2:i<b.length) (h:f (nth a i) (nth b i)=none):zbH f (a.drop i) (b.drop i) acc=none:=by
 rw[zaM h1,zaM h2,zbH,h]
theorem zmW {f:Pat->Pat->Option Pat}{a b:List Pat}{i:Nat}{acc:List Pat}{x:Pat} (h1:i<a.length) (h2:i<b.length) (h:f (nth a i) (nth b i)=some x):zbH f (a.drop i) (b.drop i) acc=zbH f (a.drop (i+1)) (b.drop (i+1)) (acc++[x]):=by
 rw[zaM h1,zaM h2,zbH,h]
theorem zfb {f:Pat->Pat->Option Pat}{a b:List Pat}{i:Nat}{acc:List Pat} (h1:a.length<=i):zbH f (a.drop i) (b.drop i) acc=some acc:=by
 rw[List.drop_eq_nil_of_le h1];cases b.drop i<;>rfl
theorem zfz {f:Pat->Pat->Option Pat}:∀ {a b acc l:List Pat},a.length=b.length->zbH f a b acc=some l->∃r,l=acc++r/\r.length=a.length/\∀i,i<a.length->f (nth a i) (nth b i)=some (nth r i)
 | [],[],acc,l,_,h=>by
  simp only[zbH,Option.some.injEq] at h;exact⟨[],by simp[h],rfl,fun i hi=>by simp at hi⟩
 |p::r,q::s,acc,l,hl,h=>by
  unfold zbH at h;cases hf:f p q with
  |none=>rw[hf] at h;cases h
  |some x=>
   rw[hf] at h;obtain⟨z,e,hz,hm⟩:=zfz (a:=r) (b:=s) (by simpa using hl) h;refine⟨x::z,by rw[e];simp,by simp[hz],fun i hi=>?_⟩;cases i with
   |zero=>exact hf
   |succ i=>exact hm i (by simpa using hi)
 | [],_::_,_,_,hl,_=>by simp at hl
 |_::_,[],_,_,hl,_=>by simp at hl
theorem zde {w:List Data}{n m:Nat}{t:Ty}{a b:Pat} (ha:zah w n t a=true) (hb:zah w m t b=true) (h1:a.op≠1) (h2:b.op≠1):a.op=b.op:=by
 have oa:=zbl ha;have ob:=zbl hb;rcases oa with h|h|h
 ·exact absurd h h1
 ·rcases ob with h' | h' | h'
  ·exact absurd h' h2
  ·omega
  ·exact absurd (zby ha h).1 (zaE hb h').2.1
 ·rcases ob with h' | h' | h'
  ·exact absurd h' h2
  ·exact absurd (zby hb h').1 (zaE ha h).2.1
  ·omega
theorem zso (a b:Int):minQ a b<=a/\minQ a b<=b:=by unfold minQ;split<;>omega
theorem zsn (a b:Int):a<=maxQ a b/\b<=maxQ a b:=by unfold maxQ;split<;>omega
theorem zwK (a b:Int):minQ a b=a\/minQ a b=b:=by unfold minQ;split<;>omega
theorem zwJ (a b:Int):maxQ a b=a\/maxQ a b=b:=by unfold maxQ;split<;>omega
theorem zoV {w:List Data}:∀(n m:Nat){t:Ty}{a b x:Pat},zah w m t a=true->zah w m t b=true->zaI n a b=some x->zah w m t x=true
 |0,m,t,a,b,x,_,_,h=>by simp[zaI] at h
 |n+1,0,t,a,b,x,ha,_,_=>by simp[zah] at ha
 |n+1,m+1,t,a,b,x,ha,hb,h=>by
  by_cases h1:a.op=1
  ·rw[zhy h1] at h;cases h;exact hb
  by_cases h2:b.op=1
  ·rw[ziE h1 h2] at h;cases h;exact ha
  have hs:=zde ha hb h1 h2;have oa:=zbl ha;by_cases h3:a.op=3
  ·rw[ziF h3 h2] at h;split at h
   ·cases h
    have ia:=zby ha h3;have ib:=zby hb (by omega);have q1:=zwK a.m b.m;have q2:=zwJ a.n b.n;refine zoO ia.1 (by omega) (by assumption) (by omega)
   ·cases h
  have h4:a.op=4:=by omega
  by_cases hc:a.ctor=b.ctor
  ·rw[zhz h4 h2 hc] at h;obtain⟨m1,m2,m3,m4⟩:=zaE ha h4;obtain⟨n1,n2,n3,n4⟩:=zaE hb (by omega);rw[<-hc] at n3;cases hl:zbH (zaI n) a.kids b.kids [] with
   |none=>rw[hl] at h;cases h
   |some l=>
    rw[hl] at h;simp only[Option.map_some,Option.some.injEq] at h;subst h;obtain⟨r,e,hr,hm⟩:=zfz (by omega) hl;rw[List.nil_append] at e;subst e;refine zi1 m1 (by omega) (fun i hi=>?_);have ka:=zaR ha (i:=i) (by omega);have kb:=zaR hb (i:=i) (by omega);rw[zaU h4] at ka;rw[zaU (by omega),<-hc] at kb;exact zoV n m ka kb (hm i (by omega))
  ·rw[zhh h4 h2 hc] at h;cases h
theorem zne {w:List Data}{n:Nat}{t:Ty}{a b:Int} (ht:t.data = -1) (h0:0<=a) (h2:b<=9):∀x∈zbN a b,zah w (n+1) t x=true:=by
 intro x hx;unfold zbN at hx;split at hx
 ·rename_i h1;rw[List.mem_singleton] at hx;rw[hx];exact zoO ht h0 h1 h2
 ·simp at hx
theorem zlR {w:List Data}{n:Nat}{t:Ty}{a:Pat} (ha:zah w n t a=true) (ht:t.data = -1):0<=lowQ a/\zcl a<=9/\lowQ a<=zcl a:=by
 have oa:=zbl ha;unfold lowQ zcl;by_cases h1:a.op=1
 ·rw[if_pos h1,if_pos h1];omega
 ·rw[if_neg h1,if_neg h1];by_cases h3:a.op=3
  ·have:=zby ha h3;omega
  ·exact absurd ht (zaE ha (by omega)).2.1
theorem zs7 (a b:Pat):(zd5 a b).length<=2:=by
 have h:∀x y,(zbN x y).length<=1:=fun x y=>by unfold zbN;split<;>simp
 unfold zd5;rw[xaa];have:=h (lowQ a) (minQ (zcl a) (b.n-1));have:=h (maxQ (lowQ a) (b.m+1)) (zcl a);omega
theorem zrI {w:List Data}{f:Ty->Pat->Pat->List Pat}{m:Nat}{t:Ty}{c:Int} (hc:c∈zai w t) (hf:∀u x y,zah w m u x=true->zah w m u y=true->∀z∈f u x y,zah w m u z=true):
  ∀(i:Nat){xs bs front:List Pat},front.length=i->xs.length+i=(zaa w t c).length->bs.length=xs.length->(∀j,j<i->zah w m (nth (zaa w t c) j) (nth front j)=true)->
   (∀j,j<xs.length->zah w m (nth (zaa w t c) (i+j)) (nth xs j)=true/\zah w m (nth (zaa w t c) (i+j)) (nth bs j)=true)->
   ∀x∈zaP f c ((zaa w t c).drop i) xs bs front,zah w (m+1) t x=true:=by
 intro i xs;induction xs generalizing i with
 |nil=>
  intro bs front _ _ _ _ _ x hx;cases hT:(zaa w t c).drop i<;>(rw[hT] at hx;simp[zaP] at hx)
 |cons a0 s ih=>
  intro bs front hfl hal hbl hfr hab x hx;cases bs with
  |nil=>simp at hbl
  |cons b0 q=>
   have hi:i<(zaa w t c).length:=by simp at hal;omega
   rw[zaM hi] at hx;have h0:=hab 0 (by simp);simp only[Nat.add_zero] at h0;have e0:nth (a0::s) 0=a0:=rfl;have e1:nth (b0::q) 0=b0:=rfl;rw[e0,e1] at h0;unfold zaP at hx;have hpiece:∀z,zah w m (nth (zaa w t c) i) z=true->∀j,j<(front++[z]++s).length->zah w m (nth (zaa w t c) j) (nth (front++[z]++s) j)=true:=fun z hz j hj=>by
    by_cases hj1:j<i
    ·have e:nth (front++[z]++s) j=nth front j:=by
      simp only[nth,List.getD,List.append_assoc];rw[List.getElem?_append_left (by omega)]
     rw[e];exact hfr j hj1
    ·by_cases hj2:j=i
     ·have e:nth (front++[z]++s) j=z:=by
       simp only[nth,List.getD,List.append_assoc];rw[List.getElem?_append_right (by omega),show j-front.length=0 by omega];rfl
      rw[e,hj2];exact hz
     ·obtain⟨k,rfl⟩:∃k,j=i+1+k:=⟨j-(i+1),by omega⟩;have e:nth (front++[z]++s) (i+1+k)=nth (a0::s) (k+1):=by
       simp only[nth,List.getD,List.append_assoc];rw[List.getElem?_append_right (by omega),show i+1+k-front.length=k+1 by omega];rfl
      rw[e];have:=(hab (k+1) (by simp at hj ⊢;omega)).1;rwa [show i+(k+1)=i+1+k by omega] at this
   rcases List.mem_append.1 hx with hx|hx
   ·obtain⟨z,hz,rfl⟩:=List.mem_map.1 hx;refine zi1 hc (by simp at hal ⊢;omega) (hpiece z (hf _ _ _ h0.1 h0.2 z hz))
   ·cases hm:zaI 11 a0 b0 with
    |none=>rw[hm] at hx;simp at hx
    |some both=>
     rw[hm] at hx;have hbp:=zoV 11 m h0.1 h0.2 hm;refine ih (i+1) (bs:=q) (front:=front++[both]) (by simp[hfl]) (by simp at hal ⊢;omega) (by simpa using hbl) (fun j hj=>?_) (fun j hj=>?_) x hx
     ·have:=hpiece both hbp j (by simp;omega);have e:nth (front++[both]++s) j=nth (front++[both]) j:=by
       simp only[nth,List.getD];rw[List.getElem?_append_left (by simp;omega)]
      rwa [e] at this
     ·have:=hab (j+1) (by simpa using hj);rwa [show i+(j+1)=i+1+j by omega] at this
theorem zfB {w:List Data}:∀(n m:Nat){t:Ty}{a b:Pat},n<m->zah w m t a=true->zah w n t b=true->∀x∈zap w n t a b,zah w m t x=true
 |0,m,t,a,b,_,_,hb=>by simp[zah] at hb
 |n+1,0,t,a,b,hn,_,_=>by omega
 |n+1,m+1,t,a,b,hn,ha,hb=>by
  have ob:=zbl hb;have oa:=zbl ha;have hf:∀u x y,zah w m u x=true->zah w n u y=true->∀z∈zap w n u x y,zah w m u z=true:=fun u x y hx hy=>zfB n m (by omega) hx hy;have hcc:∀a,zah w (m+1) t a=true->a.op=4->b.op=4->∀x∈zb2 (zap w n) w t a b,zah w (m+1) t x=true:=fun a ha h4 h4b=>by
   obtain⟨m1,m2,m3,m4⟩:=zaE ha h4;obtain⟨n1,n2,n3,n4⟩:=zaE hb h4b;intro x hx;unfold zb2 at hx;split at hx
   ·rename_i hc;have key:=zrI (w:=w) (f:=fun u x y=>if zah w m u x=true/\zah w n u y=true then zap w n u x y else []) (m:=m) (t:=t) (c:=a.ctor) m1 (fun u x y hx hy z hz=>by
     split at hz
     ·rename_i hh;exact hf u x y hh.1 hh.2 z hz
     ·simp at hz) 0 (xs:=a.kids) (bs:=b.kids) (front:=[]) rfl (by omega) (by rw[hc] at m3;omega) (fun j hj=>by omega) (fun j hj=>by
      have ka:=zaR ha (i:=j) hj;have kb:=zaR hb (i:=j) (by rw[hc] at m3;omega);rw[zaU h4] at ka;rw[zaU h4b,<-hc] at kb;rw[Nat.zero_add];exact⟨ka,zdd (by omega) kb⟩) x
    refine key ?_;have e:∀(ts:List Ty) (xs bs front:List Pat),(∀j,j<ts.length->j<xs.length->j<bs.length->zah w m (nth ts j) (nth xs j)=true/\zah w n (nth ts j) (nth bs j)=true)->
      zaP (fun u x y=>if zah w m u x=true/\zah w n u y=true then zap w n u x y else []) a.ctor ts xs bs front=zaP (zap w n) a.ctor ts xs bs front:=by
     intro ts;induction ts with
     |nil=>intro xs bs front _;simp[zaP]
     |cons u r ih=>
      intro xs bs front h;cases xs with
      |nil=>simp[zaP]
      |cons x s=>
       cases bs with
       |nil=>simp[zaP]
       |cons y q=>
        have h0:=h 0 (by simp) (by simp) (by simp);change zah w m u x=true/\zah w n u y=true at h0
        unfold zaP;rw[if_pos h0];congr 1
        cases hmm:zaI 11 x y with
        |none=>rfl
        |some both=>exact ih s q (front++[both]) (fun j h1 h2 h3=>h (j+1) (by simpa using h1) (by simpa using h2) (by simpa using h3))
    rw[List.drop_zero,e _ _ _ _ (fun j h1 h2 h3=>?_)]
    ·exact hx
    ·have ka:=zaR ha (i:=j) h2;have kb:=zaR hb (i:=j) h3;rw[zaU h4] at ka;rw[zaU h4b,<-hc] at kb;exact⟨ka,kb⟩
   ·rw[List.mem_singleton] at hx;rw[hx];exact ha
  rcases ob with h1|h3|h4
  ·rw[zfc h1];simp
  ·rw[zhi h3];intro x hx;have hl:=zlR ha (zby hb h3).1;have ib:=zby hb h3;have q1:=zso (zcl a) (b.n-1);have q2:=zsn (lowQ a) (b.m+1);unfold zd5 at hx;rcases List.mem_append.1 hx with h|h
   ·exact zne ib.1 (by omega) (by omega) x h
   ·exact zne ib.1 (by omega) (by omega) x h
  ·by_cases ha1:a.op=1
   ·rw[zf2 h4 ha1];intro x hx;obtain⟨c,hc,hx⟩:=List.mem_flatMap.1 hx;refine hcc _ ?_ rfl h4 x hx;obtain⟨k,rfl⟩:∃k,m=k+1:=⟨m-1,by omega⟩;exact zcx hc
   ·have ha4:a.op=4:=by
     have:=zde ha hb ha1 (by omega);omega
    rw[zcV h4 ha4];exact hcc a ha ha4 h4
end Go.Proofs.YtlfipehhbdjnjaaGreat
