/-
  THE ABSTRACT WALK AND THE WALKS, part 4 of 6: the parts F16, F42, Val, F7, F8, Wu, F9, F10, F11, F17, F43, F44, F45, F46, F50, F51, F52, F53, F54, F55, F56, F57, F58, F60, F61, F30, F63, F102, F18, F19, F31.
-/
import Derived.Test.YtflgpdjbgfkhoaaGreatP233
namespace Go.Proofs.YtflgpdjbgfkhoaaGreat
open Go
set_option linter.unusedSimpArgs false
set_option linter.unusedVariables false
set_option maxRecDepth 100000
set_option maxHeartbeats 2000000
def fitsV (w:List Data):Nat→Ty→Val→Bool
 |0,_,_=>false
 |n+1,t,v=>if t.data = -1 then decide (v.ctor = -1)&&(decide (0≤v.num)&&(decide (v.num≤9)&&decide (v.kids.length=0)))
   else if v.num=0∧v.ctor∈ctorsOf w t then all2 (fitsV w n) (argsOf w t v.ctor) v.kids else false
def scanL (g:Ty→Val→Int→Bool×Int):List Ty→List Val→Int→Bool×Int
 |a::r,b::s,c=>if (g a b c).1 then scanL g r s (g a b c).2 else (false,(g a b c).2)
 |_,_,c=>(true,c)
def scanV (w:List Data):Nat→Ty→Val→Int→Bool×Int
 |0,_,_,c=>(false,c+1)
 |n+1,t,v,c=>if 60<c+1 then (false,c+1)
   else if t.data = -1 then (decide (v.ctor = -1)&&(decide (0≤v.num)&&(decide (v.num≤9)&&decide (v.kids.length=0))),c+1)
   else if v.num=0∧v.ctor∈ctorsOf w t then (if (argsOf w t v.ctor).length=v.kids.length then scanL (scanV w n) (argsOf w t v.ctor) v.kids (c+1) else (false,c+1))
   else (false,c+1)
theorem scanL_eq {w:List Data}{n:Nat} (ih:∀t v c,(scanV w n t v c).1=(fitsV w n t v&&decide (c+(v.size:Int)≤60))∧((scanV w n t v c).1=true→(scanV w n t v c).2=c+v.size)):
  ∀(a:List Ty) (b:List Val) (c:Int),a.length=b.length→c≤60→(scanL (scanV w n) a b c).1=(all2 (fitsV w n) a b&&decide (c+(Vals.size b:Int)≤60))∧((scanL (scanV w n) a b c).1=true→(scanL (scanV w n) a b c).2=c+Vals.size b)
 | [],[],c,_,hc=>by simp[scanL,all2,Vals.size,hc]
 |x::r,y::s,c,hl,hc=>by
  obtain⟨h1,h2⟩:=ih x y c
  simp only[scanL,all2,Vals.size]
  cases hh:(scanV w n x y c).1 with
  |true=>
   have h3:=h2 hh
   rw[hh] at h1
   have h4:=h1.symm
   simp only[Bool.and_eq_true,decide_eq_true_eq] at h4
   obtain⟨h5,h6⟩:=scanL_eq ih r s (scanV w n x y c).2 (by simpa using hl) (by omega)
   simp only[if_true]
   rw[h5]
   refine⟨?_,fun hx=>?_⟩
   ·rw[h4.1,h3,Bool.true_and]
    congr 1
    exact decide_eq_decide.2 (by push_cast;omega)
   ·rw[←h5] at hx
    rw[h6 hx,h3];push_cast;omega
  |false=>
   rw[hh] at h1
   simp only[Bool.false_eq_true,if_false,false_implies,and_true]
   have h4:=h1.symm
   simp only[Bool.and_eq_false_imp,decide_eq_false_iff_not] at h4
   symm
   cases hf:fitsV w n x y with
   |false=>simp
   |true=>
    have:=h4 hf
    have h7:¬(c+((y.size+Vals.size s:Nat):Int)≤60):=by push_cast;omega
    simp only[Bool.and_eq_false_imp]
    intro _;exact decide_eq_false h7
 | [],_::_,_,hl,_=>by simp at hl
 |_::_,[],_,hl,_=>by simp at hl
theorem Vals.size_nil {l:List Val} (h:l.length=0):Vals.size l=0:=by
 cases l with
 |nil=>rfl
 |cons x r=>simp at h
theorem scanV_eq (w:List Data):∀(n:Nat) (t:Ty) (v:Val) (c:Int),(scanV w n t v c).1=(fitsV w n t v&&decide (c+(v.size:Int)≤60))∧((scanV w n t v c).1=true→(scanV w n t v c).2=c+v.size)
 |0,t,v,c=>by simp[scanV,fitsV]
 |n+1,t,v,c=>by
  have hsz:=Val.size_eq v
  unfold scanV fitsV
  by_cases h1:60<c+1
  ·rw[if_pos h1]
   simp only[Bool.false_eq_true,false_implies,and_true]
   symm
   simp only[Bool.and_eq_false_imp,decide_eq_false_iff_not]
   intro _;omega
  ·rw[if_neg h1]
   by_cases h2:t.data = -1
   ·rw[if_pos h2,if_pos h2]
    refine⟨?_,fun hx=>?_⟩
    ·by_cases hk:v.kids.length=0
     ·have:=Vals.size_nil hk
      have h3:decide (c+(v.size:Int)≤60)=true:=decide_eq_true (by omega)
      rw[h3,Bool.and_true]
     ·simp[hk]
    ·simp only[Bool.and_eq_true,decide_eq_true_eq] at hx
     have:=Vals.size_nil hx.2.2.2
     simp only;omega
   ·rw[if_neg h2,if_neg h2]
    by_cases h3:v.num=0∧v.ctor∈ctorsOf w t
    ·rw[if_pos h3,if_pos h3]
     by_cases h4:(argsOf w t v.ctor).length=v.kids.length
     ·rw[if_pos h4]
      obtain⟨h5,h6⟩:=scanL_eq (fun t v c=>scanV_eq w n t v c) (argsOf w t v.ctor) v.kids (c+1) h4 (by omega)
      refine⟨?_,fun hx=>?_⟩
      ·rw[h5]
       congr 1
       exact decide_eq_decide.2 (by omega)
      ·rw[h6 hx];omega
     ·rw[if_neg h4,all2_len h4]
      simp
    ·rw[if_neg h3,if_neg h3]
     simp
mutual
def cntV (m:Int):Val→Int
 | .mk _ _ ks=>cntL m 1 ks
def cntL (m n:Int):List Val→Int
 | []=>n
 |k::r=>if n≤m then cntL m (n+cntV (m-n) k) r else n
end
theorem cntV_eq (m:Int) (v:Val):cntV m v=cntL m 1 v.kids:=by cases v;rfl
theorem cntL_stop {m n:Int}{l:List Val} (h:¬n≤m):cntL m n l=n:=by cases l<;>simp[cntL,h]
mutual
theorem cntV_le:∀(v:Val) (m:Int),1≤cntV m v∧cntV m v≤v.size
 | .mk _ _ ks,m=>by
  have:=cntL_le ks m 1 (by omega)
  simp only[cntV,Val.size];push_cast;omega
theorem cntL_le:∀(l:List Val) (m n:Int),1≤n→1≤cntL m n l∧cntL m n l≤n+Vals.size l
 | [],m,n,h=>by simp[cntL,Vals.size];omega
 |k::r,m,n,h=>by
  have h1:=cntV_le k (m-n)
  have h2:=cntL_le r m (n+cntV (m-n) k) (by omega)
  simp only[cntL,Vals.size]
  split
  ·push_cast;omega
  ·push_cast;omega
end
mutual
theorem cntV_iff:∀(v:Val) (m:Int),(cntV m v≤m↔(v.size:Int)≤m)∧(cntV m v≤m→cntV m v=v.size)
 | .mk _ _ ks,m=>by
  have:=cntL_iff ks m 1
  simp only[cntV,Val.size];push_cast;exact this
theorem cntL_iff:∀(l:List Val) (m n:Int),(cntL m n l≤m↔n+(Vals.size l:Int)≤m)∧(cntL m n l≤m→cntL m n l=n+Vals.size l)
 | [],m,n=>by simp[cntL,Vals.size]
 |k::r,m,n=>by
  have h1:=cntV_iff k (m-n)
  have h2:=cntL_iff r m (n+cntV (m-n) k)
  have h3:=cntL_le r m (n+cntV (m-n) k)
  have h4:=cntV_le k (m-n)
  simp only[cntL,Vals.size]
  push_cast
  by_cases hn:n≤m
  ·rw[if_pos hn]
   by_cases h5:cntV (m-n) k≤m-n
   ·have h6:=h1.2 h5
    rw[h6] at h2 ⊢
    constructor
    ·rw[h2.1];constructor<;>intro h<;>omega
    ·intro h;rw[h2.2 h];omega
   ·have h7:¬(k.size:Int)≤m-n:=fun h=>h5 (h1.1.2 h)
    have h8:¬n+cntV (m-n) k≤m:=by omega
    rw[cntL_stop h8]
    constructor
    ·constructor<;>intro h<;>omega
    ·intro h;omega
  ·rw[if_neg hn]
   constructor
   ·constructor<;>intro h<;>omega
   ·intro h;omega
end
theorem Vals.size_split {pre rest l:List Val}{y:Val} (h:pre++y::rest=l):Vals.size l=Vals.size pre+y.size+Vals.size rest:=by
 subst h
 induction pre with
 |nil=>simp[Vals.size]
 |cons x r ih=>simp only[List.cons_append,Vals.size,ih];omega
theorem nth_size {l:List Val}{i:Nat} (h:i<l.length):(nth l i).size≤Vals.size l:=Vals.size_mem (nth_mem h)
theorem size_drop {l:List Val}{i:Nat} (h:i<l.length):Vals.size (l.drop i)=(nth l i).size+Vals.size (l.drop (i+1)):=by
 rw[drop_nth h];rfl
theorem spec_l2Count_fn:∀(n:Nat){v:Val}{m:Int},v.size≤n→v.size≤1000000000000→v.ok→0≤m→m≤1000000000000→FnD Tryz.prog 41 [.agg [.d (.i v.ctor),.d (.i v.num),.d (encVals v.kids)],.d (.i m)] [] (.d (.i (cntV m v))) []
 |0,v,m,h,_,_,_,_=>by rw[Val.size_eq] at h;omega
 |n+1,v,m,h,hb,hok,m0,m1=>by
  rw[Val.size_eq] at h hb
  rw[Val.ok_iff] at hok
  rw[cntV_eq]
  refine bd Tryz.f41 31 [] [] fun w0 F0 own kept hk=>?_
  refine Walk.box (id:=3002) .none rfl rfl rfl rfl rfl rfl rfl ?_
  refine ev ?_
  refine CWp.loopX (ι:=Nat×Int) hk (fun x=>[(6,.d (.i (x.1:Int))),(5,.d (.i x.2))]) [7,8,9,10,11,12,13,14,15,16,17,18,19,20,21,22,23,24,25,26,27,28,29] (fun x=>[]) (fun x=>x.1≤v.kids.length∧cntL m x.2 (v.kids.drop x.1)=cntL m 1 v.kids∧1≤x.2∧x.2+Vals.size (v.kids.drop x.1)≤1+Vals.size v.kids) (fun x=>v.kids.length-x.1) (0,1) ⟨by simp,by simp,by simp,by simp⟩ ⟨⟨_,rfl,(LeA.eqi (by first|rfl|(simp;done)|(dsimp only;omega)))⟩,⟨⟨_,rfl,(LeA.eqi (by first|rfl|(simp;done)|(dsimp only;omega)))⟩,trivial⟩⟩ trivial (fun x=>rfl) (fun x hg1=>?_)
  refine evc [] [] ?_
  refine sq (fun h1 h1p h1s=>?_) fun h1 h1p h1s=>?_
  ·try simp only[Q,Val.cs_len] at h1p
   refine sq (fun h2 h2p h2s=>?_) fun h2 h2p h2s=>?_
   ·try simp only[Q,Val.cs_len] at h2p
    refine Walk.idx sl27 .none rfl rfl rfl rfl (vals_at (by omega)) rfl ?_
    refine ev ?_
    refine ar ?_ (by first|(constructor<;>omega)|(have hz:=cntV_le (nth v.kids x.1) (m-x.2);have hs:=size_drop (l:=v.kids) (i:=x.1) (by omega);constructor<;>omega)|(constructor<;>simp[Val.cs_len]<;>omega))
    refine Walk.call (cr:=[]) cal41 (spec_l2Count_fn n (v:=nth v.kids x.1) (by have:=nth_size (l:=v.kids) (i:=x.1) (by omega);omega) (by have:=nth_size (l:=v.kids) (i:=x.1) (by omega);omega) (Vals.ok_mem hok.2 _ (nth_mem (by omega))) (by omega) (by omega)) rfl .none rfl rfl (LeL.refl _) trivial rfl rfl rfl ?_
    refine ev ?_
    refine ar ?_ (by first|(constructor<;>omega)|(have hz:=cntV_le (nth v.kids x.1) (m-x.2);have hs:=size_drop (l:=v.kids) (i:=x.1) (by omega);constructor<;>omega)|(constructor<;>simp[Val.cs_len]<;>omega))
    refine ar ?_ (by first|(constructor<;>omega)|(have hz:=cntV_le (nth v.kids x.1) (m-x.2);have hs:=size_drop (l:=v.kids) (i:=x.1) (by omega);constructor<;>omega)|(constructor<;>simp[Val.cs_len]<;>omega))
    refine Exists.intro ((x.1+1,x.2+cntV (m-x.2) (nth v.kids x.1))) ⟨(by
        have hz:=cntV_le (nth v.kids x.1) (m-x.2)
        have hs:=size_drop (l:=v.kids) (i:=x.1) (by omega)
        refine⟨by dsimp only;omega, ?_,by dsimp only;omega,by dsimp only;omega⟩
        rw[←hg1.2.1,drop_nth (l:=v.kids) (i:=x.1) (by omega),cntL,if_pos (by omega)]),(by dsimp only;omega),Sub.x (by kernel_rfl) (by kernel_rfl) ⟨⟨_,rfl,(LeA.eqi (by first|rfl|(simp;done)|(dsimp only;omega)))⟩,⟨⟨_,rfl,(LeA.eqi (by first|rfl|(simp;done)|(dsimp only;omega)))⟩,trivial⟩⟩ (by kernel_rfl) (by kernel_rfl) trivial⟩
   ·try simp only[Q,Val.cs_len] at h2p
    refine rn0 (r1 rfl) (.eqd ?_)
    all_goals (refine congrArg D.i ?_;rw[←hg1.2.1];first|(rw[List.drop_eq_nil_of_le (by omega)];rfl)|(rw[cntL_stop (by omega)]))
  ·try simp only[Q,Val.cs_len] at h1p
   refine sqF ?_
   refine rn0 (r1 rfl) (.eqd ?_)
   all_goals (refine congrArg D.i ?_;rw[←hg1.2.1];first|(rw[List.drop_eq_nil_of_le (by omega)];rfl)|(rw[cntL_stop (by omega)]))
theorem spec_l2Fits_fn {w:List Data} (hw:WT w):∀(n:Nat){a k m:Int}{v:Val},m=n→n≤1000→TyIn w.length ⟨a,k⟩→v.ok→
  FnD Tryz.prog 40 [.d (encDatas w),.agg [.d (.i a),.d (.i k)],.agg [.d (.i v.ctor),.d (.i v.num),.d (encVals v.kids)],.d (.i m)] [] (.d (.bool (fitsV w n ⟨a,k⟩ v))) []
 |0,a,k,m,v,hm,_,_,_=>by
  refine bd Tryz.f40 78 [] [] fun w0 F0 own kept hk=>?_
  refine Walk.box (id:=3005) .none rfl rfl rfl rfl rfl rfl rfl ?_
  refine Walk.box (id:=3006) .none rfl rfl rfl rfl rfl rfl rfl ?_
  refine ev ?_
  refine sq (fun h1 h1p h1s=>?_) fun h1 h1p h1s=>?_
  ·try simp only[Q] at h1p
   refine rn0 (r1 rfl) (.eqd ?_)
   all_goals (rfl)
  ·try simp only[Q] at h1p
   exfalso;simp at h1;omega
 |n+1,a,k,m,v,hm,hn,ht,hok=>by
  rcases ht with ha|⟨d,hd,hlt⟩
  ·have ha':a = -1:=ha
   subst ha'
   refine bd Tryz.f40 78 [] [] fun w0 F0 own kept hk=>?_
   refine Walk.box (id:=3005) .none rfl rfl rfl rfl rfl rfl rfl ?_
   refine Walk.box (id:=3006) .none rfl rfl rfl rfl rfl rfl rfl ?_
   refine ev ?_
   refine sq (fun h1 h1p h1s=>?_) fun h1 h1p h1s=>?_
   ·try simp only[Q] at h1p
    exfalso;simp at h1;omega
   ·try simp only[Q] at h1p
    refine sq (fun h2 h2p h2s=>?_) fun h2 h2p h2s=>?_
    ·try simp only[Q] at h2p
     refine sq (fun h3 h3p h3s=>?_) fun h3 h3p h3s=>?_
     ·try simp only[Q] at h3p
      refine sq (fun h4 h4p h4s=>?_) fun h4 h4p h4s=>?_
      ·try simp only[Q] at h4p
       refine sq (fun h5 h5p h5s=>?_) fun h5 h5p h5s=>?_
       ·try simp only[Q] at h5p
        refine rn0 (r1 rfl) (.eqd ?_)
        all_goals (refine congrArg D.bool ?_;simp[fitsV,Val.cs_len,h1s,h1p,h2s,h2p,h3s,h3p,h4s,h4p,h5s,h5p])
       ·try simp only[Q] at h5p
        refine rn0 (r1 rfl) (.eqd ?_)
        all_goals (refine congrArg D.bool ?_;simp[fitsV,Val.cs_len,h1s,h1p,h2s,h2p,h3s,h3p,h4s,h4p,h5s,h5p])
      ·try simp only[Q] at h4p
       refine sqF ?_
       refine rn0 (r1 rfl) (.eqd ?_)
       all_goals (refine congrArg D.bool ?_;simp[fitsV,Val.cs_len,h1s,h1p,h2s,h2p,h3s,h3p,h4s,h4p])
     ·try simp only[Q] at h3p
      refine sqF ?_
      refine sqF ?_
      refine rn0 (r1 rfl) (.eqd ?_)
      all_goals (refine congrArg D.bool ?_;simp[fitsV,Val.cs_len,h1s,h1p,h2s,h2p,h3s,h3p])
    ·try simp only[Q] at h2p
     exact absurd h2 (by simp)
  have hd':a=(d:Int):=hd
  subst hd'
  have hok':=hok
  rw[Val.ok_iff] at hok
  have hcl:=ctorsOf_len hw (d:=d) (k:=k)
  have hdn:¬(d:Int) = -1:=by omega
  by_cases hv:v.num=0∧v.ctor∈ctorsOf w ⟨d,k⟩
  ·have hal:=argsOf_len hw hlt (k:=k) (place_of (k:=k) (c:=v.ctor) hv.2)
   refine bd Tryz.f40 78 [] [] fun w0 F0 own kept hk=>?_
   refine Walk.box (id:=3005) .none rfl rfl rfl rfl rfl rfl rfl ?_
   refine Walk.box (id:=3006) .none rfl rfl rfl rfl rfl rfl rfl ?_
   refine ev ?_
   refine sq (fun h1 h1p h1s=>?_) fun h1 h1p h1s=>?_
   ·try simp only[Q,Val.cs_len] at h1p
    exfalso;simp at h1;omega
   ·try simp only[Q,Val.cs_len] at h1p
    refine sq (fun h2 h2p h2s=>?_) fun h2 h2p h2s=>?_
    ·try simp only[Q,Val.cs_len] at h2p
     exfalso;simp at h2<;>omega
    ·try simp only[Q,Val.cs_len] at h2p
     refine sq (fun h3 h3p h3s=>?_) fun h3 h3p h3s=>?_
     ·try simp only[Q,Val.cs_len] at h3p
      refine dr ?_
      refine sqT ?_
      exfalso;have e1:=hv.1;have e2:=hv.2;simp_all
     ·try simp only[Q,Val.cs_len] at h3p
      refine Walk.call (cr:=[]) cal72 (spec_l1Ctors_in hw hlt) rfl (.some rfl rfl h3) rfl rfl (LeL.refl _) trivial rfl rfl rfl ?_
      refine evd [] [(38,false)] ?_ ⟨⟨_,rfl,h3⟩,trivial⟩
      refine Walk.call (cr:=[]) cal71 (spec_l1Has_fn hcl) rfl (.some rfl rfl h3) rfl rfl (LeL.refl _) trivial rfl rfl rfl ?_
      refine evd [] [(38,false)] ?_ ⟨⟨_,rfl,h3⟩,trivial⟩
      refine dr ?_
      refine sq (fun h5 h5p h5s=>?_) fun h5 h5p h5s=>?_
      ·try simp only[Q,Val.cs_len] at h5p
       exfalso;have e1:=hv.1;have e2:=hv.2;simp_all
      ·try simp only[Q,Val.cs_len] at h5p
       refine Walk.call (cr:=[]) cal73 (spec_l1Args_in hw hlt (place_of (k:=k) (c:=v.ctor) hv.2)) rfl .none rfl rfl (LeL.refl _) trivial rfl rfl rfl ?_
       refine ev ?_
       refine sq (fun h6 h6p h6s=>?_) fun h6 h6p h6s=>?_
       ·try simp only[Q,Val.cs_len] at h6p
        refine rn0 (r1 rfl) (.eqd ?_)
        all_goals (refine congrArg D.bool ?_;unfold fitsV;rw[if_neg hdn,if_pos hv];first|(rw[all2_len (by simp[Val.cs_len] at *;omega)])|(rw[all2_nth_true (by simp[Val.cs_len] at *;omega) (fun x hx=>hg1.2 x (by simp[Val.cs_len] at *;omega))])|(rw[all2_nth_false (i:=i) (by simp[Val.cs_len] at *;omega) (by simp[Val.cs_len] at *;omega) (by assumption)]))
       ·try simp only[Q,Val.cs_len] at h6p
        refine CWp.loopX (ι:=Nat) hk (fun i=>[(10,.d (.i (i:Int)))]) [8,58,59,60,61,62,63,64,65,66,67,68,69,70,71,72,73,74,75,76,77] (fun i=>[]) (fun i=>i≤(argsOf w ⟨d,k⟩ v.ctor).length∧∀i',i'<i→fitsV w n (nth (argsOf w ⟨d,k⟩ v.ctor) i') (nth v.kids i')=true) (fun i=>(argsOf w ⟨d,k⟩ v.ctor).length-i) 0 ⟨by omega,fun _ h=>absurd h (by omega)⟩ ⟨⟨_,rfl,(LeA.eqi (by first|rfl|(simp;done)|(simp_all;done)|omega))⟩,trivial⟩ trivial (fun x=>rfl) (fun i hg1=>?_)
        refine evc [] [] ?_
        refine sq (fun h7 h7p h7s=>?_) fun h7 h7p h7s=>?_
        ·try simp only[Q,Val.cs_len] at h7p
         refine Walk.idx sl102 .none rfl rfl rfl rfl (at_nth (by omega)) rfl ?_
         refine evd [] [] ?_
         refine Walk.idx sl27 .none rfl rfl rfl rfl (vals_at (by omega)) rfl ?_
         refine evd [] [] ?_
         refine ar ?_ (by first|(constructor<;>omega)|(constructor<;>simp[Val.cs_len]<;>omega))
         refine Walk.call (cr:=[]) cal40 (spec_l2Fits_fn hw n (by omega) (by omega) (argsOf_in hw hlt (k:=k) (place_of (k:=k) (c:=v.ctor) hv.2) (nth_mem (by omega))) (Vals.ok_mem hok.2 _ (nth_mem (by omega)))) rfl .none rfl rfl (LeL.refl _) trivial rfl rfl rfl ?_
         refine evd [] [] ?_
         refine dr ?_
         refine sq (fun h8 h8p h8s=>?_) fun h8 h8p h8s=>?_
         ·try simp only[Q,Val.cs_len] at h8p
          refine rn0 (r1 rfl) (.eqd ?_)
          all_goals (refine congrArg D.bool ?_;unfold fitsV;rw[if_neg hdn,if_pos hv];first|(rw[all2_len (by simp[Val.cs_len] at *;omega)])|(rw[all2_nth_true (by simp[Val.cs_len] at *;omega) (fun x hx=>hg1.2 x (by simp[Val.cs_len] at *;omega))])|(rw[all2_nth_false (i:=i) (by simp[Val.cs_len] at *;omega) (by simp[Val.cs_len] at *;omega) (by assumption)]))
         ·try simp only[Q,Val.cs_len] at h8p
          refine ar ?_ (by first|(constructor<;>omega)|(constructor<;>simp[Val.cs_len]<;>omega))
          refine Exists.intro (i+1) ⟨⟨by omega,upto_succ hg1.2 (by assumption)⟩,(by omega),Sub.x (by kernel_rfl) (by kernel_rfl) ⟨⟨_,rfl,(LeA.eqi (by first|rfl|(simp;done)|(simp_all;done)|omega))⟩,trivial⟩ (by kernel_rfl) (by kernel_rfl) trivial⟩
        ·try simp only[Q,Val.cs_len] at h7p
         refine rn0 (r1 rfl) (.eqd ?_)
         all_goals (refine congrArg D.bool ?_;unfold fitsV;rw[if_neg hdn,if_pos hv];first|(rw[all2_len (by simp[Val.cs_len] at *;omega)])|(rw[all2_nth_true (by simp[Val.cs_len] at *;omega) (fun x hx=>hg1.2 x (by simp[Val.cs_len] at *;omega))])|(rw[all2_nth_false (i:=i) (by simp[Val.cs_len] at *;omega) (by simp[Val.cs_len] at *;omega) (by assumption)]))
  ·skip
   refine bd Tryz.f40 78 [] [] fun w0 F0 own kept hk=>?_
   refine Walk.box (id:=3005) .none rfl rfl rfl rfl rfl rfl rfl ?_
   refine Walk.box (id:=3006) .none rfl rfl rfl rfl rfl rfl rfl ?_
   refine ev ?_
   refine sq (fun h1 h1p h1s=>?_) fun h1 h1p h1s=>?_
   ·try simp only[Q] at h1p
    exfalso;simp at h1;omega
   ·try simp only[Q] at h1p
    refine sq (fun h2 h2p h2s=>?_) fun h2 h2p h2s=>?_
    ·try simp only[Q] at h2p
     exfalso;simp at h2<;>omega
    ·try simp only[Q] at h2p
     refine sq (fun h3 h3p h3s=>?_) fun h3 h3p h3s=>?_
     ·try simp only[Q] at h3p
      refine dr ?_
      refine sqT ?_
      refine rn0 (r1 rfl) (.eqd ?_)
      all_goals (refine congrArg D.bool ?_;unfold fitsV;rw[if_neg hdn,if_neg hv])
     ·try simp only[Q] at h3p
      refine Walk.call (cr:=[]) cal72 (spec_l1Ctors_in hw hlt) rfl (.some rfl rfl h3) rfl rfl (LeL.refl _) trivial rfl rfl rfl ?_
      refine evd [] [(38,false)] ?_ ⟨⟨_,rfl,h3⟩,trivial⟩
      refine Walk.call (cr:=[]) cal71 (spec_l1Has_fn hcl) rfl (.some rfl rfl h3) rfl rfl (LeL.refl _) trivial rfl rfl rfl ?_
      refine evd [] [(38,false)] ?_ ⟨⟨_,rfl,h3⟩,trivial⟩
      refine dr ?_
      refine sq (fun h5 h5p h5s=>?_) fun h5 h5p h5s=>?_
      ·try simp only[Q] at h5p
       refine rn0 (r1 rfl) (.eqd ?_)
       all_goals (refine congrArg D.bool ?_;unfold fitsV;rw[if_neg hdn,if_neg hv])
      ·try simp only[Q] at h5p
       exfalso;simp_all
def isV (w:List Data) (t:Ty) (v:Val):Bool:=fitsV w 10 t v&&decide ((v.size:Int)≤60)
theorem spec_l2Is_fn {w:List Data} (hw:WT w){a k:Int}{v:Val} (ht:TyIn w.length ⟨a,k⟩) (hok:v.ok) (hb:v.size≤1000000000000):
  FnD Tryz.prog 21 [.d (encDatas w),.agg [.d (.i a),.d (.i k)],.agg [.d (.i v.ctor),.d (.i v.num),.d (encVals v.kids)]] [] (.d (.bool (isV w ⟨a,k⟩ v))) []:=by
 have hc:=cntV_iff v 60
 refine bd Tryz.f21 16 [] [] fun w0 F0 own kept hk=>?_
 refine Walk.box (id:=3004) .none rfl rfl rfl rfl rfl rfl rfl ?_
 refine Walk.box (id:=3005) .none rfl rfl rfl rfl rfl rfl rfl ?_
 refine ev ?_
 refine Walk.call (cr:=[]) cal40 (spec_l2Fits_fn hw 10 (by omega) (by omega) ht hok) rfl .none rfl rfl (LeL.refl _) trivial rfl rfl rfl ?_
 refine ev ?_
 refine sq (fun h1 h1p h1s=>?_) fun h1 h1p h1s=>?_
 ·try simp only[Q] at h1p
  refine Walk.call (cr:=[]) cal41 (spec_l2Count_fn _ (Nat.le_refl _) hb hok (by omega) (by omega)) rfl (.some rfl rfl h1) rfl rfl (LeL.refl _) trivial rfl rfl rfl ?_
  refine evs [] [(11,true)] ?_ ⟨⟨_,rfl,h1⟩,trivial⟩
  refine rn0 (r1 rfl) (.eqd ?_)
  all_goals (refine congrArg D.bool ?_;unfold isV;simp only[h1s,h1p];first|rfl|(simp only[Bool.true_and];exact decide_eq_decide.2 hc.1)|(simp;done))
 ·try simp only[Q] at h1p
  refine rn0 (r1 rfl) (.eqd ?_)
  all_goals (refine congrArg D.bool ?_;unfold isV;simp only[h1s,h1p];first|rfl|(simp only[Bool.true_and];exact decide_eq_decide.2 hc.1)|(simp;done))
theorem scanL_stop {w:List Data}{n:Nat}{a:List Ty}{b:List Val}{i:Nat}{c:Int} (ha:i<a.length) (hl:a.length=b.length) (h:(scanV w n (nth a i) (nth b i) c).1=false):
  scanL (scanV w n) (a.drop i) (b.drop i) c=(false,(scanV w n (nth a i) (nth b i) c).2):=by
 rw[drop_nth ha,drop_nth (l:=b) (by omega),scanL,if_neg (by rw[h];simp)]
theorem scanL_next {w:List Data}{n:Nat}{a:List Ty}{b:List Val}{i:Nat}{c:Int} (ha:i<a.length) (hl:a.length=b.length) (h:(scanV w n (nth a i) (nth b i) c).1=true):
  scanL (scanV w n) (a.drop i) (b.drop i) c=scanL (scanV w n) (a.drop (i+1)) (b.drop (i+1)) (scanV w n (nth a i) (nth b i) c).2:=by
 rw[drop_nth ha,drop_nth (l:=b) (by omega),scanL,if_pos h]
theorem scanL_end {w:List Data}{n:Nat}{a:List Ty}{b:List Val}{i:Nat}{c:Int} (ha:a.length≤i):scanL (scanV w n) (a.drop i) (b.drop i) c=(true,c):=by
 rw[List.drop_eq_nil_of_le ha,scanL]
 simp
theorem scanV_bd (w:List Data) (n:Nat) (t:Ty) (v:Val) (c:Int) (h:(scanV w n t v c).1=true):c≤(scanV w n t v c).2∧(scanV w n t v c).2≤60:=by
 have h1:=(scanV_eq w n t v c)
 have h2:=h1.2 h
 rw[h1.1] at h
 simp only[Bool.and_eq_true,decide_eq_true_eq] at h
 omega
theorem impl_valueScan_fn {w:List Data} (hw:WT w):∀(n:Nat){a k d c:Int}{v:Val},d+n=11→n≤10→TyIn w.length ⟨a,k⟩→v.ok→0≤c→c≤1000000000000→
  FnD Tryz.prog 37 [.d (encDatas w),.agg [.d (.i a),.d (.i k)],.agg [.d (.i v.ctor),.d (.i v.num),.d (encVals v.kids)],.d (.i d),.d (.bool false),.ref 950 0] [(950,some (.box [.d (.i c)]))]
   (.d (.bool (scanV w n ⟨a,k⟩ v c).1)) [(950,some (.box [.d (.i (scanV w n ⟨a,k⟩ v c).2)]))]
 |0,a,k,d,c,v,hd,_,_,_,c0,c1=>by
  refine bd Tryz.f37 108 [] [] fun w0 F0 own kept hk=>?_
  refine Walk.box (id:=3007) .none rfl rfl rfl rfl rfl rfl rfl ?_
  refine Walk.box (id:=3008) .none rfl rfl rfl rfl rfl rfl rfl ?_
  refine ev ?_
  refine ar ?_
  refine Walk.store ty3 .none rfl rfl rfl rfl rfl rfl (by simp) rfl ?_
  refine tv ?_
  refine sq (fun h1 h1p h1s=>?_) fun h1 h1p h1s=>?_
  ·try simp only[Q] at h1p
   refine sqT ?_
   refine rn [(950,some (.box [.d (.i (scanV w 0 ⟨a,k⟩ v c).2)]))] (r1 rfl) (.eqd ?_) ⟨rfl,rfl⟩ (SubO.get ⟨.inr (by rfl),⟨.inl rfl,trivial⟩⟩) (boxOK rfl)
   all_goals (rfl)
  ·try simp only[Q] at h1p
   refine sq (fun h3 h3p h3s=>?_) fun h3 h3p h3s=>?_
   ·try simp only[Q] at h3p
    refine rn [(950,some (.box [.d (.i (scanV w 0 ⟨a,k⟩ v c).2)]))] (r1 rfl) (.eqd ?_) ⟨rfl,rfl⟩ (SubO.get ⟨.inr (by rfl),⟨.inl rfl,trivial⟩⟩) (boxOK rfl)
    all_goals (rfl)
   ·try simp only[Q] at h3p
    exfalso;simp at *;omega
 |n+1,a,k,d,c,v,hd,hn,ht,hok,c0,c1=>by
  by_cases h60:60<c+1
  ·skip
   refine bd Tryz.f37 108 [] [] fun w0 F0 own kept hk=>?_
   refine Walk.box (id:=3007) .none rfl rfl rfl rfl rfl rfl rfl ?_
   refine Walk.box (id:=3008) .none rfl rfl rfl rfl rfl rfl rfl ?_
   refine ev ?_
   refine ar ?_
   refine Walk.store ty3 .none rfl rfl rfl rfl rfl rfl (by simp) rfl ?_
   refine tv ?_
   refine sq (fun h1 h1p h1s=>?_) fun h1 h1p h1s=>?_
   ·try simp only[Q] at h1p
    refine sqT ?_
    refine rn [(950,some (.box [.d (.i (scanV w (n+1) ⟨a,k⟩ v c).2)]))] (r1 rfl) (.eqd ?_) ⟨rfl,rfl⟩ (SubO.get ⟨.inr (by(unfold scanV;rw[if_pos h60];rfl)),⟨.inl rfl,trivial⟩⟩) (boxOK rfl)
    all_goals (unfold scanV;rw[if_pos h60])
   ·try simp only[Q] at h1p
    refine sq (fun h3 h3p h3s=>?_) fun h3 h3p h3s=>?_
    ·try simp only[Q] at h3p
     refine rn [(950,some (.box [.d (.i (scanV w (n+1) ⟨a,k⟩ v c).2)]))] (r1 rfl) (.eqd ?_) ⟨rfl,rfl⟩ (SubO.get ⟨.inr (by(unfold scanV;rw[if_pos h60];rfl)),⟨.inl rfl,trivial⟩⟩) (boxOK rfl)
     all_goals (unfold scanV;rw[if_pos h60])
    ·try simp only[Q] at h3p
     exfalso;simp at *;omega
  rcases ht with ha|⟨e,he,hlt⟩
  ·have ha':a = -1:=ha
   subst ha'
   refine bd Tryz.f37 108 [] [] fun w0 F0 own kept hk=>?_
   refine Walk.box (id:=3007) .none rfl rfl rfl rfl rfl rfl rfl ?_
   refine Walk.box (id:=3008) .none rfl rfl rfl rfl rfl rfl rfl ?_
   refine ev ?_
   refine ar ?_
   refine Walk.store ty3 .none rfl rfl rfl rfl rfl rfl (by simp) rfl ?_
   refine tv ?_
   refine sq (fun h1 h1p h1s=>?_) fun h1 h1p h1s=>?_
   ·try simp only[Q] at h1p
    refine sqT ?_
    exfalso;simp at *;omega
   ·try simp only[Q] at h1p
    refine sq (fun h3 h3p h3s=>?_) fun h3 h3p h3s=>?_
    ·try simp only[Q] at h3p
     exfalso;simp at *;omega
    ·try simp only[Q] at h3p
     refine sqF ?_
     refine sqF ?_
     refine sq (fun h5 h5p h5s=>?_) fun h5 h5p h5s=>?_
     ·try simp only[Q] at h5p
      refine sq (fun h6 h6p h6s=>?_) fun h6 h6p h6s=>?_
      ·try simp only[Q] at h6p
       refine Walk.call (cr:=[]) cal62 (impl_within_fn) rfl (.some rfl rfl h6) rfl rfl (LeL.refl _) trivial rfl rfl rfl ?_
       refine evs [] [(52,true)] ?_ ⟨⟨_,rfl,h6⟩,trivial⟩
       refine sq (fun h7 h7p h7s=>?_) fun h7 h7p h7s=>?_
       ·try simp only[Q] at h7p
        refine rn [(950,some (.box [.d (.i (scanV w (n+1) ⟨-1,k⟩ v c).2)]))] (r1 rfl) (.eqd ?_) ⟨rfl,rfl⟩ (SubO.get ⟨.inr (by(unfold scanV;rw[if_neg h60,if_pos rfl];rfl)),⟨.inl rfl,trivial⟩⟩) (boxOK rfl)
        all_goals (refine congrArg D.bool ?_;unfold scanV;rw[if_neg h60,if_pos rfl];simp only[within] at *;first|(simp_all[Val.cs_len];done)|(simp_all[Val.cs_len];intro h1 h2;omega))
       ·try simp only[Q] at h7p
        refine rn [(950,some (.box [.d (.i (scanV w (n+1) ⟨-1,k⟩ v c).2)]))] (r1 rfl) (.eqd ?_) ⟨rfl,rfl⟩ (SubO.get ⟨.inr (by(unfold scanV;rw[if_neg h60,if_pos rfl];rfl)),⟨.inl rfl,trivial⟩⟩) (boxOK rfl)
        all_goals (refine congrArg D.bool ?_;unfold scanV;rw[if_neg h60,if_pos rfl];simp only[within] at *;first|(simp_all[Val.cs_len];done)|(simp_all[Val.cs_len];intro h1 h2;omega))
      ·try simp only[Q] at h6p
       refine sqF ?_
       refine rn [(950,some (.box [.d (.i (scanV w (n+1) ⟨-1,k⟩ v c).2)]))] (r1 rfl) (.eqd ?_) ⟨rfl,rfl⟩ (SubO.get ⟨.inr (by(unfold scanV;rw[if_neg h60,if_pos rfl];rfl)),⟨.inl rfl,trivial⟩⟩) (boxOK rfl)
       all_goals (refine congrArg D.bool ?_;unfold scanV;rw[if_neg h60,if_pos rfl];simp only[within] at *;first|(simp_all[Val.cs_len];done)|(simp_all[Val.cs_len];intro h1 h2;omega))
     ·try simp only[Q] at h5p
      exact absurd h5 (by simp)
  have he':a=(e:Int):=he
  subst he'
  have hok':=hok
  rw[Val.ok_iff] at hok
  have hcl:=ctorsOf_len hw (d:=e) (k:=k)
  have hdn:¬(e:Int) = -1:=by omega
  by_cases hv:v.num=0∧v.ctor∈ctorsOf w ⟨e,k⟩
  ·have hal:=argsOf_len hw hlt (k:=k) (place_of (k:=k) (c:=v.ctor) hv.2)
   by_cases hlen:(argsOf w ⟨e,k⟩ v.ctor).length=v.kids.length
   ·have hsc:scanV w (n+1) ⟨e,k⟩ v c=scanL (scanV w n) (argsOf w ⟨e,k⟩ v.ctor) v.kids (c+1):=by
     conv=>lhs;unfold scanV
     rw[if_neg h60,if_neg hdn,if_pos hv,if_pos hlen]
    rw[hsc]
    refine bd Tryz.f37 108 [] [] fun w0 F0 own kept hk=>?_
    refine Walk.box (id:=3007) .none rfl rfl rfl rfl rfl rfl rfl ?_
    refine Walk.box (id:=3008) .none rfl rfl rfl rfl rfl rfl rfl ?_
    refine ev ?_
    refine ar ?_ (by first|(constructor<;>omega)|(constructor<;>simp[Val.cs_len]<;>omega))
    refine Walk.store ty3 .none rfl rfl rfl rfl rfl rfl (by simp) rfl ?_
    refine tv ?_
    refine sq (fun h1 h1p h1s=>?_) fun h1 h1p h1s=>?_
    ·try simp only[Q,Val.cs_len,Ty.eta] at h1p
     refine sqT ?_
     exfalso;simp at *;omega
    ·try simp only[Q,Val.cs_len,Ty.eta] at h1p
     refine sq (fun h3 h3p h3s=>?_) fun h3 h3p h3s=>?_
     ·try simp only[Q,Val.cs_len,Ty.eta] at h3p
      exfalso;simp at *;omega
     ·try simp only[Q,Val.cs_len,Ty.eta] at h3p
      refine sqF ?_
      refine sqF ?_
      refine sq (fun h5 h5p h5s=>?_) fun h5 h5p h5s=>?_
      ·try simp only[Q,Val.cs_len,Ty.eta] at h5p
       exfalso;simp at * <;>omega
      ·try simp only[Q,Val.cs_len,Ty.eta] at h5p
       refine sq (fun h6 h6p h6s=>?_) fun h6 h6p h6s=>?_
       ·try simp only[Q,Val.cs_len,Ty.eta] at h6p
        refine dr ?_
        refine sqT ?_
        exfalso;have e1:=hv.1;have e2:=hv.2;simp_all
       ·try simp only[Q,Val.cs_len,Ty.eta] at h6p
        refine Walk.call (cr:=[]) cal64 (impl_ctorsOf_in hw hlt) rfl (.some rfl rfl h6) rfl rfl (LeL.refl _) trivial rfl rfl rfl ?_
        refine evd [] [(67,false)] ?_ ⟨⟨_,rfl,h6⟩,trivial⟩
        refine Walk.call (cr:=[]) cal63 (slices_Contains_int_fn hcl) rfl (.some rfl rfl h6) rfl rfl (LeL.refl _) trivial rfl rfl rfl ?_
        refine evd [] [(67,false)] ?_ ⟨⟨_,rfl,h6⟩,trivial⟩
        refine dr ?_
        refine sq (fun h8 h8p h8s=>?_) fun h8 h8p h8s=>?_
        ·try simp only[Q,Val.cs_len,Ty.eta] at h8p
         exfalso;have e1:=hv.1;have e2:=hv.2;simp_all
        ·try simp only[Q,Val.cs_len,Ty.eta] at h8p
         refine Walk.call (cr:=[]) cal65 (impl_argTypes_in hw hlt (place_of (k:=k) (c:=v.ctor) hv.2)) rfl .none rfl rfl (LeL.refl _) trivial rfl rfl rfl ?_
         refine ev ?_
         refine sq (fun h9 h9p h9s=>?_) fun h9 h9p h9s=>?_
         ·try simp only[Q,Val.cs_len,Ty.eta] at h9p
          exfalso;simp[Val.cs_len,hlen] at h9
         ·try simp only[Q,Val.cs_len,Ty.eta] at h9p
          refine CWp.loopX (ι:=Nat×Int) hk (fun x=>[(90,.d (.i (x.1:Int)))]) [12,14,15,91,92,93,94,95,96,97,98,99,100,101,102,103,104,105,106,107] (fun x=>[(950,some (.box [.d (.i x.2)]))]) (fun x=>x.1≤v.kids.length∧scanL (scanV w n) ((argsOf w ⟨e,k⟩ v.ctor).drop x.1) (v.kids.drop x.1) x.2=scanL (scanV w n) (argsOf w ⟨e,k⟩ v.ctor) v.kids (c+1)∧0≤x.2∧x.2≤60) (fun x=>v.kids.length-x.1) (0,c+1) ⟨by simp,by simp,by dsimp only;omega,by dsimp only;omega⟩ ⟨⟨_,rfl,(LeA.eqi (by first|rfl|(simp;done)|(dsimp only;omega)))⟩,trivial⟩ ⟨(by first|rfl|(simp[getH];done)),trivial⟩ (fun x=>rfl) (fun x hg1=>?_)
          refine evc [] [] ?_
          refine sq (fun h10 h10p h10s=>?_) fun h10 h10p h10s=>?_
          ·try simp only[Q,Val.cs_len,Ty.eta] at h10p
           refine Walk.idx sl27 .none rfl rfl rfl rfl (vals_at (by omega)) rfl ?_
           refine ev ?_
           refine Walk.alloc (id:=3015) tz29 rfl .none rfl rfl rfl rfl ?_
           refine ev ?_
           refine Walk.store ty29 .none rfl rfl rfl rfl rfl rfl (by simp) rfl ?_
           refine tv ?_
           refine Walk.idx sl102 .none rfl rfl rfl rfl (at_nth (by omega)) rfl ?_
           refine evd [] [] ?_
           refine ar ?_ (by first|(constructor<;>omega)|(constructor<;>simp[Val.cs_len]<;>omega))
           refine Walk.call (cr:=[]) cal37 (impl_valueScan_fn hw n (a:=(nth (argsOf w ⟨e,k⟩ v.ctor) x.1).data) (k:=(nth (argsOf w ⟨e,k⟩ v.ctor) x.1).index) (c:=x.2) (by omega) (by omega) (argsOf_in hw hlt (k:=k) (place_of (k:=k) (c:=v.ctor) hv.2) (nth_mem (by omega))) (Vals.ok_mem hok.2 _ (nth_mem (by omega))) (by omega) (by omega)) rfl .none rfl rfl (LeL.refl _) ⟨rfl,trivial⟩ rfl rfl rfl ?_
           refine evd [] [] ?_
           refine dr ?_
           refine sq (fun h11 h11p h11s=>?_) fun h11 h11p h11s=>?_
           ·try simp only[Q,Val.cs_len,Ty.eta] at h11p
            refine rn [(950,some (.box [.d (.i (scanL (scanV w n) (argsOf w ⟨e,k⟩ v.ctor) v.kids (c+1)).2)]))] (r1 rfl) (.eqd ?_) ⟨rfl,rfl⟩ (SubO.get ⟨.inr (by first|(obtain⟨h1,h2,h3,h4⟩:=hg1;show some (Res.box _)=some (Res.box _);rw[←h2,scanL_end (by simp[Val.cs_len] at *;omega)])|(obtain⟨h1,h2,h3,h4⟩:=hg1;show some (Res.box _)=some (Res.box _);rw[←h2,scanL_stop (by simp[Val.cs_len] at *;omega) hlen (by simp_all)])),⟨.inl rfl,trivial⟩⟩) (boxOK rfl)
            all_goals (refine congrArg D.bool ?_;first|(obtain⟨h1,h2,h3,h4⟩:=hg1;rw[←h2,scanL_end (by simp[Val.cs_len] at *;omega)])|(obtain⟨h1,h2,h3,h4⟩:=hg1;rw[←h2,scanL_stop (by simp[Val.cs_len] at *;omega) hlen (by simp_all)]))
           ·try simp only[Q,Val.cs_len,Ty.eta] at h11p
            refine ar ?_ (by first|(constructor<;>omega)|(constructor<;>simp[Val.cs_len]<;>omega))
            refine Exists.intro ((x.1+1,(scanV w n (nth (argsOf w ⟨e,k⟩ v.ctor) x.1) (nth v.kids x.1) x.2).2)) ⟨(by
                  have hz:(scanV w n (nth (argsOf w ⟨e,k⟩ v.ctor) x.1) (nth v.kids x.1) x.2).1=true:=by simp_all
                  have hb:=scanV_bd w n _ _ _ hz
                  obtain⟨h1,h2,h3,h4⟩:=hg1
                  refine⟨by dsimp only;omega, ?_,by dsimp only;omega,by dsimp only;omega⟩
                  rw[←h2,scanL_next (i:=x.1) (by omega) hlen hz]),(by dsimp only;omega),Sub.x (by kernel_rfl) (by kernel_rfl) ⟨⟨_,rfl,(LeA.eqi (by first|rfl|(simp;done)|(dsimp only;omega)))⟩,trivial⟩ (by kernel_rfl) (by kernel_rfl) ⟨(by first|rfl|(simp[getH];done)),trivial⟩⟩
          ·try simp only[Q,Val.cs_len,Ty.eta] at h10p
           refine rn [(950,some (.box [.d (.i (scanL (scanV w n) (argsOf w ⟨e,k⟩ v.ctor) v.kids (c+1)).2)]))] (r1 rfl) (.eqd ?_) ⟨rfl,rfl⟩ (SubO.get ⟨.inr (by first|(obtain⟨h1,h2,h3,h4⟩:=hg1;show some (Res.box _)=some (Res.box _);rw[←h2,scanL_end (by simp[Val.cs_len] at *;omega)])|(obtain⟨h1,h2,h3,h4⟩:=hg1;show some (Res.box _)=some (Res.box _);rw[←h2,scanL_stop (by simp[Val.cs_len] at *;omega) hlen (by simp_all)])),⟨.inl rfl,trivial⟩⟩) (boxOK rfl)
           all_goals (refine congrArg D.bool ?_;first|(obtain⟨h1,h2,h3,h4⟩:=hg1;rw[←h2,scanL_end (by simp[Val.cs_len] at *;omega)])|(obtain⟨h1,h2,h3,h4⟩:=hg1;rw[←h2,scanL_stop (by simp[Val.cs_len] at *;omega) hlen (by simp_all)]))
   ·have hsc:scanV w (n+1) ⟨e,k⟩ v c=(false,c+1):=by
     conv=>lhs;unfold scanV
     rw[if_neg h60,if_neg hdn,if_pos hv,if_neg hlen]
    rw[hsc]
    refine bd Tryz.f37 108 [] [] fun w0 F0 own kept hk=>?_
    refine Walk.box (id:=3007) .none rfl rfl rfl rfl rfl rfl rfl ?_
    refine Walk.box (id:=3008) .none rfl rfl rfl rfl rfl rfl rfl ?_
    refine ev ?_
    refine ar ?_
    refine Walk.store ty3 .none rfl rfl rfl rfl rfl rfl (by simp) rfl ?_
    refine tv ?_
    refine sq (fun h1 h1p h1s=>?_) fun h1 h1p h1s=>?_
    ·try simp only[Q,Val.cs_len] at h1p
     refine sqT ?_
     exfalso;simp at *;omega
    ·try simp only[Q,Val.cs_len] at h1p
     refine sq (fun h3 h3p h3s=>?_) fun h3 h3p h3s=>?_
     ·try simp only[Q,Val.cs_len] at h3p
      exfalso;simp at *;omega
     ·try simp only[Q,Val.cs_len] at h3p
      refine sqF ?_
      refine sqF ?_
      refine sq (fun h5 h5p h5s=>?_) fun h5 h5p h5s=>?_
      ·try simp only[Q,Val.cs_len] at h5p
       exfalso;simp at * <;>omega
      ·try simp only[Q,Val.cs_len] at h5p
       refine sq (fun h6 h6p h6s=>?_) fun h6 h6p h6s=>?_
       ·try simp only[Q,Val.cs_len] at h6p
        refine dr ?_
        refine sqT ?_
        exfalso;have e1:=hv.1;have e2:=hv.2;simp_all
       ·try simp only[Q,Val.cs_len] at h6p
        refine Walk.call (cr:=[]) cal64 (impl_ctorsOf_in hw hlt) rfl (.some rfl rfl h6) rfl rfl (LeL.refl _) trivial rfl rfl rfl ?_
        refine evd [] [(67,false)] ?_ ⟨⟨_,rfl,h6⟩,trivial⟩
        refine Walk.call (cr:=[]) cal63 (slices_Contains_int_fn hcl) rfl (.some rfl rfl h6) rfl rfl (LeL.refl _) trivial rfl rfl rfl ?_
        refine evd [] [(67,false)] ?_ ⟨⟨_,rfl,h6⟩,trivial⟩
        refine dr ?_
        refine sq (fun h8 h8p h8s=>?_) fun h8 h8p h8s=>?_
        ·try simp only[Q,Val.cs_len] at h8p
         exfalso;have e1:=hv.1;have e2:=hv.2;simp_all
        ·try simp only[Q,Val.cs_len] at h8p
         refine Walk.call (cr:=[]) cal65 (impl_argTypes_in hw hlt (place_of (k:=k) (c:=v.ctor) hv.2)) rfl .none rfl rfl (LeL.refl _) trivial rfl rfl rfl ?_
         refine ev ?_
         refine sq (fun h9 h9p h9s=>?_) fun h9 h9p h9s=>?_
         ·try simp only[Q,Val.cs_len] at h9p
          refine rn [(950,some (.box [.d (.i (c+1))]))] (r1 rfl) (.eqd ?_) ⟨rfl,rfl⟩ (SubO.get ⟨.inr (by rfl),⟨.inl rfl,trivial⟩⟩) (boxOK rfl)
          all_goals (rfl)
         ·try simp only[Q,Val.cs_len] at h9p
          exfalso;simp[Val.cs_len] at h9;omega
  ·have hsc:scanV w (n+1) ⟨e,k⟩ v c=(false,c+1):=by
    conv=>lhs;unfold scanV
    rw[if_neg h60,if_neg hdn,if_neg hv]
   rw[hsc]
   refine bd Tryz.f37 108 [] [] fun w0 F0 own kept hk=>?_
   refine Walk.box (id:=3007) .none rfl rfl rfl rfl rfl rfl rfl ?_
   refine Walk.box (id:=3008) .none rfl rfl rfl rfl rfl rfl rfl ?_
   refine ev ?_
   refine ar ?_
   refine Walk.store ty3 .none rfl rfl rfl rfl rfl rfl (by simp) rfl ?_
   refine tv ?_
   refine sq (fun h1 h1p h1s=>?_) fun h1 h1p h1s=>?_
   ·try simp only[Q] at h1p
    refine sqT ?_
    exfalso;simp at *;omega
   ·try simp only[Q] at h1p
    refine sq (fun h3 h3p h3s=>?_) fun h3 h3p h3s=>?_
    ·try simp only[Q] at h3p
     exfalso;simp at *;omega
    ·try simp only[Q] at h3p
     refine sqF ?_
     refine sqF ?_
     refine sq (fun h5 h5p h5s=>?_) fun h5 h5p h5s=>?_
     ·try simp only[Q] at h5p
      exfalso;simp at * <;>omega
     ·try simp only[Q] at h5p
      refine sq (fun h6 h6p h6s=>?_) fun h6 h6p h6s=>?_
      ·try simp only[Q] at h6p
       refine dr ?_
       refine sqT ?_
       refine rn [(950,some (.box [.d (.i (c+1))]))] (r1 rfl) (.eqd ?_) ⟨rfl,rfl⟩ (SubO.get ⟨.inr (by rfl),⟨.inl rfl,trivial⟩⟩) (boxOK rfl)
       all_goals (rfl)
      ·try simp only[Q] at h6p
       refine Walk.call (cr:=[]) cal64 (impl_ctorsOf_in hw hlt) rfl (.some rfl rfl h6) rfl rfl (LeL.refl _) trivial rfl rfl rfl ?_
       refine evd [] [(67,false)] ?_ ⟨⟨_,rfl,h6⟩,trivial⟩
       refine Walk.call (cr:=[]) cal63 (slices_Contains_int_fn hcl) rfl (.some rfl rfl h6) rfl rfl (LeL.refl _) trivial rfl rfl rfl ?_
       refine evd [] [(67,false)] ?_ ⟨⟨_,rfl,h6⟩,trivial⟩
       refine dr ?_
       refine sq (fun h8 h8p h8s=>?_) fun h8 h8p h8s=>?_
       ·try simp only[Q] at h8p
        refine rn [(950,some (.box [.d (.i (c+1))]))] (r1 rfl) (.eqd ?_) ⟨rfl,rfl⟩ (SubO.get ⟨.inr (by rfl),⟨.inl rfl,trivial⟩⟩) (boxOK rfl)
        all_goals (rfl)
       ·try simp only[Q] at h8p
        exfalso;simp_all
theorem impl_valueOk_fn {w:List Data} (hw:WT w){a k:Int}{v:Val} (ht:TyIn w.length ⟨a,k⟩) (hok:v.ok):
  FnD Tryz.prog 18 [.d (encDatas w),.agg [.d (.i a),.d (.i k)],.agg [.d (.i v.ctor),.d (.i v.num),.d (encVals v.kids)]] [] (.d (.bool (isV w ⟨a,k⟩ v))) []:=by
 have hz:=(scanV_eq w 10 ⟨a,k⟩ v 0).1
 rw[Int.zero_add] at hz
 refine bd Tryz.f18 12 [] [] fun w0 F0 own kept hk=>?_
 refine Walk.box (id:=3004) .none rfl rfl rfl rfl rfl rfl rfl ?_
 refine Walk.box (id:=3005) .none rfl rfl rfl rfl rfl rfl rfl ?_
 refine ev ?_
 refine Walk.alloc (id:=950) tz3 rfl .none rfl rfl rfl rfl ?_
 refine Walk.store ty3 .none rfl rfl rfl rfl rfl rfl (by simp) rfl ?_
 refine tv ?_
 refine Walk.call (cr:=[]) cal37 (impl_valueScan_fn hw 10 (c:=0) (by omega) (by omega) ht hok (by omega) (by omega)) rfl .none rfl rfl (LeL.refl _) ⟨rfl,trivial⟩ rfl rfl rfl ?_
 refine ev ?_
 refine rn0 (r1 rfl) (.eqd ?_)
 all_goals (rw[hz];rfl)
theorem all2_length {α β:Type}{f:α→β→Bool}{a:List α}{b:List β} (h:all2 f a b=true):a.length=b.length:=by
 by_cases e:a.length=b.length
 ·exact e
 ·rw[all2_len e] at h;exact absurd h (by simp)
structure Bd where
 var:Int
 val:Val
def Bd.c (b:Bd):List D:=[.i b.var,.i b.val.ctor,.i b.val.num,encVals b.val.kids]
abbrev encBds (l:List Bd):D:= .sl (l.map Bd.c)
instance:Inhabited Bd:=⟨⟨0,default⟩⟩
def matchL (f:Pat→Val→List Bd×Bool):List Pat→List Val→List Bd→List Bd×Bool
 |p::r,v::s,acc=>if (f p v).2=true then matchL f r s (acc++(f p v).1) else ([],false)
 |_,_,acc=>(acc,true)
def matchV:Nat→Pat→Val→List Bd×Bool
 |0,_,_=>([],false)
 |n+1,p,v=>
  if p.op=1 then ([],true)
  else if p.op=2 then ([⟨p.var,v⟩],true)
  else if p.op=3 then ([],within v.num p.n p.m)
  else if p.op=5 then (if (matchV n (nth p.kids 0) v).2=true then ((matchV n (nth p.kids 0) v).1,true) else matchV n (nth p.kids 1) v)
  else if p.op=6 then (⟨p.var,v⟩::(matchV n (nth p.kids 0) v).1,(matchV n (nth p.kids 0) v).2)
  else if p.ctor=v.ctor then matchL (matchV n) p.kids v.kids [] else ([],false)
section
variable {n:Nat}{p:Pat}{v:Val}
theorem match_1 (h:p.op=1):matchV (n+1) p v=([],true):=by unfold matchV;rw[if_pos h]
theorem match_2 (h:p.op=2):matchV (n+1) p v=([⟨p.var,v⟩],true):=by unfold matchV;rw[if_neg (by omega),if_pos h]
theorem match_3 (h:p.op=3):matchV (n+1) p v=([],within v.num p.n p.m):=by unfold matchV;rw[if_neg (by omega),if_neg (by omega),if_pos h]
theorem match_5a (h:p.op=5) (h2:(matchV n (nth p.kids 0) v).2=true):matchV (n+1) p v=((matchV n (nth p.kids 0) v).1,true):=by
 conv=>lhs;unfold matchV
 rw[if_neg (by omega),if_neg (by omega),if_neg (by omega),if_pos h,if_pos h2]
theorem match_5b (h:p.op=5) (h2:(matchV n (nth p.kids 0) v).2=false):matchV (n+1) p v=matchV n (nth p.kids 1) v:=by
 conv=>lhs;unfold matchV
 rw[if_neg (by omega),if_neg (by omega),if_neg (by omega),if_pos h,if_neg (by rw[h2];simp)]
theorem match_6 (h:p.op=6):matchV (n+1) p v=(⟨p.var,v⟩::(matchV n (nth p.kids 0) v).1,(matchV n (nth p.kids 0) v).2):=by
 conv=>lhs;unfold matchV
 rw[if_neg (by omega),if_neg (by omega),if_neg (by omega),if_neg (by omega),if_pos h]
theorem match_4 (h:p.op=4) (h2:p.ctor=v.ctor):matchV (n+1) p v=matchL (matchV n) p.kids v.kids []:=by
 conv=>lhs;unfold matchV
 rw[if_neg (by omega),if_neg (by omega),if_neg (by omega),if_neg (by omega),if_neg (by omega),if_pos h2]
theorem match_4n (h:p.op=4) (h2:¬p.ctor=v.ctor):matchV (n+1) p v=([],false):=by
 conv=>lhs;unfold matchV
 rw[if_neg (by omega),if_neg (by omega),if_neg (by omega),if_neg (by omega),if_neg (by omega),if_neg h2]
end
theorem matchL_all {f:Pat→Val→List Bd×Bool}:∀ {a:List Pat}{b:List Val}{acc:List Bd},(matchL f a b acc).2=true→∀i,i<a.length→i<b.length→(f (nth a i) (nth b i)).2=true
 | [],_,_,_,i,h,_=>by simp at h
 |_::_,[],_,_,i,_,h=>by simp at h
 |p::r,v::s,acc,h,i,h1,h2=>by
  unfold matchL at h
  split at h
  ·rename_i hp
   cases i with
   |zero=>exact hp
   |succ i=>exact matchL_all h i (by simpa using h1) (by simpa using h2)
  ·exact absurd h (by simp)
theorem matchL_next {f:Pat→Val→List Bd×Bool}{a:List Pat}{b:List Val}{acc:List Bd}{i:Nat} (h1:i<a.length) (h2:i<b.length) (h:(f (nth a i) (nth b i)).2=true):
  matchL f (a.drop i) (b.drop i) acc=matchL f (a.drop (i+1)) (b.drop (i+1)) (acc++(f (nth a i) (nth b i)).1):=by
 rw[drop_nth h1,drop_nth h2]
 conv=>lhs;unfold matchL
 rw[if_pos h]
theorem matchL_bad {f:Pat→Val→List Bd×Bool}{a:List Pat}{b:List Val}{acc:List Bd}{i:Nat} (h1:i<a.length) (h2:i<b.length) (h:(f (nth a i) (nth b i)).2=false):
  matchL f (a.drop i) (b.drop i) acc=([],false):=by
 rw[drop_nth h1,drop_nth h2]
 conv=>lhs;unfold matchL
 rw[if_neg (by rw[h];simp)]
theorem matchL_end {f:Pat→Val→List Bd×Bool}{a:List Pat}{b:List Val}{acc:List Bd}{i:Nat} (h1:a.length≤i):matchL f (a.drop i) (b.drop i) acc=(acc,true):=by
 rw[List.drop_eq_nil_of_le h1];cases b.drop i<;>rfl
def BdOk (m:Nat) (l:List Bd):Prop:=∀x∈l,x.val.ok∧x.val.size≤m
theorem BdOk.app {m:Nat}{a b:List Bd} (h1:BdOk m a) (h2:BdOk m b):BdOk m (a++b):=fun x hx=>by
 rcases List.mem_append.1 hx with h|h
 ·exact h1 x h
 ·exact h2 x h
theorem BdOk.mono {m k:Nat}{a:List Bd} (h:BdOk m a) (hk:m≤k):BdOk k a:=fun x hx=>⟨(h x hx).1,Nat.le_trans (h x hx).2 hk⟩
theorem matchL_ok {f:Pat→Val→List Bd×Bool}{m:Nat}:∀ {a:List Pat}{b:List Val}{acc:List Bd}{k:Nat},(∀p∈a,∀v∈b,BdOk m (f p v).1∧(f p v).1.length≤p.size)→BdOk m acc→acc.length≤k→BdOk m (matchL f a b acc).1∧(matchL f a b acc).1.length≤k+Pats.size a
 | [],b,acc,k,_,h2,h3=>by cases b<;>exact⟨h2,by simp only[matchL,Pats.size];omega⟩
 |_::_,[],acc,k,_,h2,h3=>⟨h2,by simp only[matchL];omega⟩
 |p::r,v::s,acc,k,h1,h2,h3=>by
  unfold matchL
  split
  ·have h4:=h1 p (by simp) v (by simp)
   have:=matchL_ok (f:=f) (a:=r) (b:=s) (acc:=acc++(f p v).1) (k:=k+p.size) (fun q hq u hu=>h1 q (by simp[hq]) u (by simp[hu])) (h2.app h4.1) (by rw[List.length_append];omega)
   refine⟨this.1, ?_⟩
   simp only[Pats.size];omega
  ·exact⟨fun x hx=>by simp at hx,by simp⟩
theorem types5 {w:List Data}{t:Ty}{p:Pat} (h:p.op=5):typesP w t p=[t,t]:=by unfold typesP;rw[if_neg (by omega),if_pos h]
theorem types6 {w:List Data}{t:Ty}{p:Pat} (h:p.op=6):typesP w t p=[t]:=by unfold typesP;rw[if_neg (by omega),if_neg (by omega),if_pos h]
theorem types4 {w:List Data}{t:Ty}{p:Pat} (h:p.op=4):typesP w t p=argsOf w t p.ctor:=by unfold typesP;rw[if_pos h]
theorem shape_op {w:List Data}{n:Nat}{t:Ty}{p:Pat} (h:shapeP w (n+1) t p=true):p.op=1∨p.op=2∨p.op=3∨p.op=4∨p.op=5∨p.op=6:=by
 have h1:=(shapeP_own h).1
 unfold ownP at h1
 have h2:=(of_decide_eq_true h1).2.2.2.2
 omega
theorem shape_two {w:List Data}{n:Nat}{t:Ty}{p:Pat} (h:shapeP w (n+1) t p=true) (h5:p.op=5):p.kids.length=2∧shapeP w n t (nth p.kids 0)=true∧shapeP w n t (nth p.kids 1)=true:=by
 have hl:=(shapeP_own h).2
 have h0:=fun i hi=>shapeP_kid h (i:=i) hi
 rw[types5 h5] at hl h0
 have hl':p.kids.length=2:=hl
 exact⟨hl',h0 0 (by omega),h0 1 (by omega)⟩
theorem shape_one {w:List Data}{n:Nat}{t:Ty}{p:Pat} (h:shapeP w (n+1) t p=true) (h6:p.op=6):p.kids.length=1∧shapeP w n t (nth p.kids 0)=true:=by
 have hl:=(shapeP_own h).2
 have h0:=fun i hi=>shapeP_kid h (i:=i) hi
 rw[types6 h6] at hl h0
 have hl':p.kids.length=1:=hl
 exact⟨hl',h0 0 (by omega)⟩
theorem matchV_ok {w:List Data}:∀(n:Nat){t:Ty}{p:Pat}{v:Val},shapeP w n t p=true→v.ok→BdOk v.size (matchV n p v).1∧(matchV n p v).1.length≤p.size
 |0,t,p,v,h,_=>by simp[shapeP] at h
 |n+1,t,p,v,h,hv=>by
  have hs:=Pat.size_eq p
  have hsv:=Val.size_eq v
  have hv':=hv
  rw[Val.ok_iff] at hv'
  have one:BdOk v.size [⟨p.var,v⟩]:=fun x hx=>by simp only[List.mem_singleton] at hx;subst hx;exact⟨hv,Nat.le_refl _⟩
  have nil:BdOk v.size []:=fun x hx=>by simp at hx
  by_cases h1:p.op=1
  ·rw[match_1 h1];exact⟨nil,by simp⟩
  by_cases h2:p.op=2
  ·rw[match_2 h2];exact⟨one,by simp only[List.length_singleton];omega⟩
  by_cases h3:p.op=3
  ·rw[match_3 h3];exact⟨nil,by simp⟩
  by_cases h5:p.op=5
  ·obtain⟨hl,s0,s1⟩:=shape_two h h5
   have k0:=matchV_ok n s0 hv
   have k1:=matchV_ok n s1 hv
   have z0:=pnth_size (l:=p.kids) (i:=0) (by omega)
   have z1:=pnth_size (l:=p.kids) (i:=1) (by omega)
   cases hm:(matchV n (nth p.kids 0) v).2 with
   |true=>rw[match_5a h5 hm];exact⟨k0.1,by have:=k0.2;dsimp only;omega⟩
   |false=>rw[match_5b h5 hm];exact⟨k1.1,by have:=k1.2;omega⟩
  by_cases h6:p.op=6
  ·obtain⟨hl,s0⟩:=shape_one h h6
   have k0:=matchV_ok n s0 hv
   have z0:=pnth_size (l:=p.kids) (i:=0) (by omega)
   rw[match_6 h6]
   exact⟨one.app k0.1,by have:=k0.2;simp only[List.length_cons];omega⟩
  have h4:p.op=4:=by have:=shape_op h;omega
  by_cases hc:p.ctor=v.ctor
  ·rw[match_4 h4 hc]
   have:=matchL_ok (f:=matchV n) (m:=v.size) (a:=p.kids) (b:=v.kids) (acc:=[]) (k:=0) (fun q hq u hu=>by
    obtain⟨i,hi,rfl⟩:=List.getElem_of_mem hq
    have e:p.kids[i]=nth p.kids i:=by simp[nth,List.getD,hi]
    have:=matchV_ok n (v:=u) (shapeP_kid h hi) (Vals.ok_mem hv'.2 u hu)
    rw[e]
    exact⟨this.1.mono (by have:=Vals.size_mem hu;omega),this.2⟩) nil (by simp)
   exact⟨this.1,by have:=this.2;omega⟩
  ·rw[match_4n h4 hc];exact⟨nil,by simp⟩
theorem fits_ctor {w:List Data}{m:Nat}{t:Ty}{v:Val} (h:fitsV w (m+1) t v=true) (hd:t.data≠ -1):v.ctor∈vctors w t∧(argsOf w t v.ctor).length=v.kids.length∧∀i,i<v.kids.length→fitsV w m (nth (argsOf w t v.ctor) i) (nth v.kids i)=true:=by
 unfold fitsV at h
 rw[if_neg hd] at h
 split at h
 ·rename_i hc
  have hl:=all2_length h
  exact⟨by unfold vctors;rw[if_neg hd];exact hc.2,hl,fun i hi=>all2_mem hl h i (by omega)⟩
 ·exact absurd h (by simp)
end Go.Proofs.YtflgpdjbgfkhoaaGreat
namespace Go.Proofs.YtflgpdjbgfkhoaaGreat
open Go
set_option linter.unusedSimpArgs false
set_option linter.unusedVariables false
end Go.Proofs.YtflgpdjbgfkhoaaGreat
namespace Go.Proofs.YtflgpdjbgfkhoaaGreat
open Go
set_option linter.unusedSimpArgs false
set_option linter.unusedVariables false
set_option maxRecDepth 100000
set_option maxHeartbeats 2000000
theorem Val.cs_cc (l:List Val):Val.cs l=l.map Val.cc:=by
 rw[Val.cs_eq];exact List.map_congr_left (fun v _=>Val.c_eq v)
theorem impl_ownValue_fn:∀(n:Nat){v:Val},v.size≤n→v.ok→FnD Tryz.prog 56 [.agg [.d (.i v.ctor),.d (.i v.num),.d (encVals v.kids)]] [] (.agg [.d (.i v.ctor),.d (.i v.num),.d (encVals v.kids)]) []
 |0,v,h,_=>by rw[Val.size_eq] at h;omega
 |n+1,v,h,hok=>by
  rw[Val.size_eq] at h
  rw[Val.ok_iff] at hok
  have hok1:=hok.1
  refine bd Tryz.f56 27 [] [] fun w0 F0 own kept hk=>?_
  refine Walk.box (id:=3001) .none rfl rfl rfl rfl rfl rfl rfl ?_
  refine Walk.alloc (id:=3002) tz29 rfl .none rfl rfl rfl rfl ?_
  refine tv ?_
  refine Walk.build st29 (ks:=[0,1]) (xs:=[_,_]) rfl rfl .none rfl rfl rfl ?_
  refine Walk.alloc (id:=3003) tz29 rfl .none rfl rfl rfl rfl ?_
  refine Walk.store ty29 .none rfl rfl rfl rfl rfl rfl (by simp) rfl ?_
  refine tv ?_
  refine CWp.tokB 3003 2 7 3 rfl rfl rfl rfl ?_
  refine CWp.loopX (ι:=List (Val)×List (Val)) hk (fun x=>[(14,.d (.i (x.1.length:Int)))]) [5,15,16,17,18,19,20,21,22,23,24,25] (fun x=>[(3003,some (.box [.d (.i v.ctor),.d (.i v.num),.gl 7 (x.1.map Val.cc)])),(7,some (.tok (x.1.map Val.cc).length 3))]) (fun x=>x.1++x.2=v.kids) (fun x=>x.2.length) ([],v.kids) (by simp) ⟨⟨_,rfl,(LeA.eqi (by first|rfl|(simp;done)|(simp_all;done)|omega))⟩,trivial⟩ ⟨(by first|rfl|(simp[getH];done)),⟨beq_nat_eq (by first|rfl|(simp;done)|(simp;omega)|(first|rfl|(simp;done)|(simp_all;done)|omega)),trivial⟩⟩ (fun x=>rfl) (fun x hg1=>?_)
  obtain⟨pre,rest⟩:=x
  dsimp only at hg1 ⊢
  refine evc [] [] ?_
  refine sq (fun h1 h1p h1s=>?_) fun h1 h1p h1s=>?_
  ·try simp only[Q,Val.cs_len] at h1p
   rcases rest with _|⟨y,rest⟩
   ·exfalso;simp_all
   refine Walk.idx sl27 .none rfl rfl rfl rfl (Val.cs_at hg1) rfl ?_
   refine ev ?_
   refine Walk.alloc (id:=3005) tz29 rfl .none rfl rfl rfl rfl ?_
   refine Walk.store ty29 .none rfl rfl rfl rfl rfl rfl (by simp) rfl ?_
   refine tv ?_
   refine Walk.call (cr:=[]) cal56 (impl_ownValue_fn n (v:=y) (by have:=Vals.size_mem (l:=v.kids) (v:=y) (by rw[←hg1];simp);omega) (Vals.ok_mem hok.2 y (by rw[←hg1];simp))) rfl .none rfl rfl (LeL.refl _) trivial rfl rfl rfl ?_
   refine Walk.sliceLit sl27 tz29 rfl (by decide) (ks:=[0]) (xs:=[_]) rfl rfl (by decide) (by decide) .none rfl rfl rfl rfl ?_
   refine Walk.append sl27 zz29 rfl .none rfl rfl rfl rfl (htokL rfl (by first|rfl|(simp;done)|(simp;omega))) (by simp) (by have:=congrArg List.length hg1;simp at this;simp;omega) (by have:=congrArg List.length hg1;simp at this;simp;omega) ?_
   refine evd [] [] ?_
   refine Walk.store ty27 .none rfl rfl rfl rfl rfl rfl (by simp) rfl ?_
   refine dr ?_
   refine ar ?_
   refine Exists.intro ((pre++[y],rest)) ⟨(by have hz:=hg1;rw[←hz];simp),(by simp),Sub.x (by kernel_rfl) (by kernel_rfl) ⟨⟨_,rfl,(LeA.eqi (by first|rfl|(simp;done)|(simp_all;done)|omega))⟩,trivial⟩ (by kernel_rfl) (by kernel_rfl) ⟨(by first|rfl|(simp[getH];done)),⟨beq_nat_eq (by first|rfl|(simp;done)|(simp;omega)|(first|rfl|(simp;done)|(simp_all;done)|omega)),trivial⟩⟩⟩
  ·try simp only[Q,Val.cs_len] at h1p
   have hrest:rest=[]:=by
    rcases rest with _|⟨a,b⟩
    ·rfl
    ·exfalso;have hz:=congrArg List.length (hg1);simp only[List.length_append,List.length_cons,List.length_map] at hz;omega
   subst hrest
   refine Walk.store ty29 .none rfl rfl rfl rfl rfl rfl (by simp) rfl ?_
   refine tv ?_
   refine rn0 (.cons (.cellA ty29 rfl rfl rfl) .nil) (.agg (.cons (.eqd ?_) (.cons (.eqd ?_) (.cons (.gld ?_) .nil))))
   all_goals (first|rfl|(rw[List.append_nil] at hg1;rw[←hg1,Val.cs_cc];done))
theorem spec_l2Copy_fn:∀(n:Nat){v:Val},v.size≤n→v.ok→FnD Tryz.prog 74 [.agg [.d (.i v.ctor),.d (.i v.num),.d (encVals v.kids)]] [] (.agg [.d (.i v.ctor),.d (.i v.num),.d (encVals v.kids)]) []
 |0,v,h,_=>by rw[Val.size_eq] at h;omega
 |n+1,v,h,hok=>by
  rw[Val.size_eq] at h
  rw[Val.ok_iff] at hok
  have hok1:=hok.1
  refine bd Tryz.f74 29 [] [] fun w0 F0 own kept hk=>?_
  refine Walk.box (id:=3001) .none rfl rfl rfl rfl rfl rfl rfl ?_
  refine Walk.alloc (id:=3002) tz29 rfl .none rfl rfl rfl rfl ?_
  refine tv ?_
  refine Walk.build st29 (ks:=[0,1]) (xs:=[_,_]) rfl rfl .none rfl rfl rfl ?_
  refine Walk.alloc (id:=3003) tz29 rfl .none rfl rfl rfl rfl ?_
  refine Walk.store ty29 .none rfl rfl rfl rfl rfl rfl (by simp) rfl ?_
  refine tv ?_
  refine CWp.tokB 3003 2 7 3 rfl rfl rfl rfl ?_
  refine CWp.loopX (ι:=List (Val)×List (Val)) hk (fun x=>[(4,.d (.i (x.1.length:Int)))]) [10,11,12,13,14,15,16,17,18,19,20,21,22,23,24,25,26,27] (fun x=>[(3003,some (.box [.d (.i v.ctor),.d (.i v.num),.gl 7 (x.1.map Val.cc)])),(7,some (.tok (x.1.map Val.cc).length 3))]) (fun x=>x.1++x.2=v.kids) (fun x=>x.2.length) ([],v.kids) (by simp) ⟨⟨_,rfl,(LeA.eqi (by first|rfl|(simp;done)|(simp_all;done)|omega))⟩,trivial⟩ ⟨(by first|rfl|(simp[getH];done)),⟨beq_nat_eq (by first|rfl|(simp;done)|(simp;omega)|(first|rfl|(simp;done)|(simp_all;done)|omega)),trivial⟩⟩ (fun x=>rfl) (fun x hg1=>?_)
  obtain⟨pre,rest⟩:=x
  dsimp only at hg1 ⊢
  refine evc [] [] ?_
  refine sq (fun h1 h1p h1s=>?_) fun h1 h1p h1s=>?_
  ·try simp only[Q,Val.cs_len] at h1p
   rcases rest with _|⟨y,rest⟩
   ·exfalso;simp_all
   refine Walk.idx sl27 .none rfl rfl rfl rfl (Val.cs_at hg1) rfl ?_
   refine evd [] [] ?_
   refine Walk.call (cr:=[]) cal74 (spec_l2Copy_fn n (v:=y) (by have:=Vals.size_mem (l:=v.kids) (v:=y) (by rw[←hg1];simp);omega) (Vals.ok_mem hok.2 y (by rw[←hg1];simp))) rfl .none rfl rfl (LeL.refl _) trivial rfl rfl rfl ?_
   refine Walk.sliceLit sl27 tz29 rfl (by decide) (ks:=[0]) (xs:=[_]) rfl rfl (by decide) (by decide) .none rfl rfl rfl rfl ?_
   refine Walk.append sl27 zz29 rfl .none rfl rfl rfl rfl (htokL rfl (by first|rfl|(simp;done)|(simp;omega))) (by simp) (by have:=congrArg List.length hg1;simp at this;simp;omega) (by have:=congrArg List.length hg1;simp at this;simp;omega) ?_
   refine evd [] [] ?_
   refine Walk.store ty27 .none rfl rfl rfl rfl rfl rfl (by simp) rfl ?_
   refine dr ?_
   refine ar ?_
   refine Exists.intro ((pre++[y],rest)) ⟨(by have hz:=hg1;rw[←hz];simp),(by simp),Sub.x (by kernel_rfl) (by kernel_rfl) ⟨⟨_,rfl,(LeA.eqi (by first|rfl|(simp;done)|(simp_all;done)|omega))⟩,trivial⟩ (by kernel_rfl) (by kernel_rfl) ⟨(by first|rfl|(simp[getH];done)),⟨beq_nat_eq (by first|rfl|(simp;done)|(simp;omega)|(first|rfl|(simp;done)|(simp_all;done)|omega)),trivial⟩⟩⟩
  ·try simp only[Q,Val.cs_len] at h1p
   have hrest:rest=[]:=by
    rcases rest with _|⟨a,b⟩
    ·rfl
    ·exfalso;have hz:=congrArg List.length (hg1);simp only[List.length_append,List.length_cons,List.length_map] at hz;omega
   subst hrest
   refine Walk.store ty29 .none rfl rfl rfl rfl rfl rfl (by simp) rfl ?_
   refine tv ?_
   refine rn0 (.cons (.cellA ty29 rfl rfl rfl) .nil) (.agg (.cons (.eqd ?_) (.cons (.eqd ?_) (.cons (.gld ?_) .nil))))
   all_goals (first|rfl|(rw[List.append_nil] at hg1;rw[←hg1,Val.cs_cc];done))
end Go.Proofs.YtflgpdjbgfkhoaaGreat
namespace Go.Proofs.YtflgpdjbgfkhoaaGreat
open Go
set_option linter.unusedSimpArgs false
set_option linter.unusedVariables false
end Go.Proofs.YtflgpdjbgfkhoaaGreat
namespace Go.Proofs.YtflgpdjbgfkhoaaGreat
open Go
set_option linter.unusedSimpArgs false
set_option linter.unusedVariables false
set_option maxRecDepth 100000
set_option maxHeartbeats 2000000
abbrev bdA (b:Bd):List AV:=[.d (.i b.var),.d (.i b.val.ctor),.d (.i b.val.num),.d (encVals b.val.kids)]
def bdC (L:List Bd):List AV:=((L.map Bd.c).flatten).map AV.d
theorem cut_bd:∀ {L:List Bd}{i:Nat},i<L.length→cutC (bdC L) (i*4) 4=some (bdA (nth L i))
 |x::r,0,_=>by simp[cutC,nth,bdC,Bd.c]
 |x::r,i+1,h=>by
  have:=cut_bd (L:=r) (i:=i) (by simpa using h)
  rw[show(i+1)*4=i*4+1+1+1+1 by omega]
  exact this
theorem put_bd:∀ {L:List Bd}{i:Nat}{e:Bd},i<L.length→putC (bdC L) (i*4) (bdA e)=some (bdC (L.set i e))
 |x::r,0,e,_=>by simp[putC,bdC,Bd.c]
 |x::r,i+1,e,h=>by
  have:=put_bd (L:=r) (i:=i) (e:=e) (by simpa using h)
  rw[show(i+1)*4=i*4+1+1+1+1 by omega]
  show putC (.d _:: .d _:: .d _:: .d _::bdC r) (i*4+1+1+1+1) (bdA e)=_
  simp only[putC,this]
  rfl
theorem put_bv:∀ {L:List Bd}{i:Nat},i<L.length→putC (bdC L) (i*4+1) [.d (.i (nth L i).val.ctor),.d (.i (nth L i).val.num),.d (encVals (nth L i).val.kids)]=some (bdC L)
 |x::r,0,_=>by simp[putC,nth,bdC,Bd.c]
 |x::r,i+1,h=>by
  have:=put_bv (L:=r) (i:=i) (by simpa using h)
  rw[show(i+1)*4+1=i*4+1+1+1+1+1 by omega]
  show putC (.d _:: .d _:: .d _:: .d _::bdC r) (i*4+1+1+1+1+1) [.d (.i (nth r i).val.ctor),.d (.i (nth r i).val.num),.d (encVals (nth r i).val.kids)]=_
  simp only[putC,this]
  rfl
theorem chunk_bd (L:List Bd):chunkD (L.map Bd.c).length 4 (bdC L)=some (L.map Bd.c):=by
 have:=chunkD_flat (f:=Bd.c) (k:=4) (l:=L) (fun _ _=>rfl)
 rw[List.length_map,←this]
 congr 1
 unfold bdC
 rw[List.map_flatten,List.flatMap_def,List.map_map]
 rfl
def swapL (L:List Bd) (j:Nat):List Bd:=(L.set (j+1) (nth L j)).set j (nth L (j+1))
theorem swapL_len {L:List Bd}{j:Nat}:(swapL L j).length=L.length:=by simp[swapL]
def sinkL:Nat→List Bd→List Bd
 |0,L=>L
 |j+1,L=>if (nth L (j+1)).var<(nth L j).var then sinkL j (swapL L j) else L
theorem sink_go {j:Nat}{L:List Bd} (h:(nth L (j+1)).var<(nth L j).var):sinkL (j+1) L=sinkL j (swapL L j):=by
 conv=>lhs;unfold sinkL
 rw[if_pos h]
theorem sink_stop {j:Nat}{L:List Bd} (h:¬(nth L (j+1)).var<(nth L j).var):sinkL (j+1) L=L:=by
 unfold sinkL;rw[if_neg h]
theorem sinkL_len:∀(j:Nat) (L:List Bd),(sinkL j L).length=L.length
 |0,_=>rfl
 |j+1,L=>by
  unfold sinkL;split
  ·rw[sinkL_len j,swapL_len]
  ·rfl
def sortL:Nat→Nat→List Bd→List Bd
 |0,_,L=>L
 |k+1,i,L=>sortL k (i+1) (sinkL i L)
theorem sortL_next {n i:Nat}{L:List Bd} (h:i<n):sortL (n-i) i L=sortL (n-(i+1)) (i+1) (sinkL i L):=by
 obtain⟨k,rfl⟩:∃k,n=i+1+k:=⟨n-(i+1),by omega⟩
 rw[show i+1+k-i=k+1 by omega,show i+1+k-(i+1)=k by omega]
 rfl
theorem sortL_end {n i:Nat}{L:List Bd} (h:n≤i):sortL (n-i) i L=L:=by
 rw[show n-i=0 by omega];rfl
theorem bdC_ids (L:List Bd):AV.idsL (bdC L)=[]:=by
 unfold bdC
 generalize (L.map Bd.c).flatten=l
 induction l with
 |nil=>rfl
 |cons x r ih=>simpa [AV.idsL,AV.ids] using ih
theorem conv8 (b:UInt8):0≤IntKind.i64.wrap (b.toNat:Int)∧IntKind.i64.wrap (b.toNat:Int)≤255:=by
 have h:b.toNat<256:=b.toNat_lt
 rw[wrap_i64 ⟨by omega,by omega⟩]
 omega
theorem ar8 (b:UInt8):I64 (0+IntKind.i64.wrap (b.toNat:Int)):=by
 have:=conv8 b
 constructor<;>omega
theorem sink_done {j:Nat}{L:List Bd} (h:j=0∨¬(nth L j).var<(nth L (j-1)).var):sinkL j L=L:=by
 cases j with
 |zero=>rfl
 |succ j=>exact sink_stop (h.resolve_left (by omega))
theorem okCall_bd {L L':List Bd}:okCall [(9,some (.box (bdC L)))] [(9,some (.box (bdC L')))] (AV.tup []) []=true:=by
 simp only[okCall,List.all_cons,List.all_nil,entOK,entOK',AV.idsL,AV.ids,idsL_append,bdC_ids,List.map_cons,List.map_nil];rfl
section
variable {c:Ctx}{env:Env}{hp:Hp}{K:Kt}
theorem CWp.condF {x y:Code} (hn:CWp c y ⟨env,hp⟩ K):CWp c (.cond (.const (.bool false)) x y) ⟨env,hp⟩ K:=by
 intro a w hr
 have he:a.eval (.const (.bool false)) = .bool false:=rfl
 exact wp_cond_split he (fun h=>by cases h) (fun _=>hn a w hr)
end
def cmpV (x y:Int):Int:=if x<y then -1 else if y<x then 1 else 0
theorem cmpV_neg {x y:Int}:cmpV x y<0↔x<y:=by
 unfold cmpV;split
 ·omega
 ·split<;>omega
theorem u64_small {n:Int} (h:0≤n) (h2:n≤12):IntKind.u64.wrap n=n:=by
 obtain⟨k,rfl⟩:=Int.eq_ofNat_of_zero_le h
 have:k≤12:=by omega
 have h3:k=0∨k=1∨k=2∨k=3∨k=4∨k=5∨k=6∨k=7∨k=8∨k=9∨k=10∨k=11∨k=12:=by omega
 rcases h3 with rfl|rfl|rfl|rfl|rfl|rfl|rfl|rfl|rfl|rfl|rfl|rfl|rfl<;>rfl
theorem u8_small {n:Int} (h:0≤n) (h2:n≤12):IntKind.u8.wrap n=n:=by
 obtain⟨k,rfl⟩:=Int.eq_ofNat_of_zero_le h
 have:k≤12:=by omega
 have h3:k=0∨k=1∨k=2∨k=3∨k=4∨k=5∨k=6∨k=7∨k=8∨k=9∨k=10∨k=11∨k=12:=by omega
 rcases h3 with rfl|rfl|rfl|rfl|rfl|rfl|rfl|rfl|rfl|rfl|rfl|rfl|rfl<;>rfl
theorem cmp_isNaN_fn {x:Int}:FnD Tryz.prog 80 [.d (.i x)] [] (.d (.bool false)) []:=by
 refine bd Tryz.f80 6 [] [] fun w0 F0 own kept hk=>?_
 refine rn0 (r1 rfl) (.eqd ?_)
 all_goals (first|rfl|(refine congrArg D.bool ?_;simp;done))
theorem cmp_Compare_fn {x y:Int}:FnD Tryz.prog 55 [.d (.i x),.d (.i y)] [] (.d (.i (cmpV x y))) []:=by
 refine bd Tryz.f55 20 [] [] fun w0 F0 own kept hk=>?_
 refine Walk.call (cr:=[]) cal80 (cmp_isNaN_fn) rfl .none rfl rfl (LeL.refl _) trivial rfl rfl rfl ?_
 refine ev ?_
 refine Walk.call (cr:=[]) cal80 (cmp_isNaN_fn) rfl .none rfl rfl (LeL.refl _) trivial rfl rfl rfl ?_
 refine ev ?_
 refine sq (fun h1 h1p h1s=>?_) fun h1 h1p h1s=>?_
 ·try simp only[Q] at h1p
  refine sq (fun h2 h2p h2s=>?_) fun h2 h2p h2s=>?_
  ·try simp only[Q] at h2p
   refine rn0 (r1 rfl) (.eqd ?_)
   all_goals (refine congrArg D.i ?_;unfold cmpV;first|(simp_all;done)|(rw[if_pos (by omega)];done)|(rw[if_neg (by omega),if_pos (by omega)];done)|(rw[if_neg (by omega),if_neg (by omega)];done))
  ·try simp only[Q] at h2p
   refine rn0 (r1 rfl) (.eqd ?_)
   all_goals (refine congrArg D.i ?_;unfold cmpV;first|(simp_all;done)|(rw[if_pos (by omega)];done)|(rw[if_neg (by omega),if_pos (by omega)];done)|(rw[if_neg (by omega),if_neg (by omega)];done))
 ·try simp only[Q] at h1p
  refine sq (fun h3 h3p h3s=>?_) fun h3 h3p h3s=>?_
  ·try simp only[Q] at h3p
   refine rn0 (r1 rfl) (.eqd ?_)
   all_goals (refine congrArg D.i ?_;unfold cmpV;first|(simp_all;done)|(rw[if_pos (by omega)];done)|(rw[if_neg (by omega),if_pos (by omega)];done)|(rw[if_neg (by omega),if_neg (by omega)];done))
  ·try simp only[Q] at h3p
   refine sq (fun h4 h4p h4s=>?_) fun h4 h4p h4s=>?_
   ·try simp only[Q] at h4p
    refine rn0 (r1 rfl) (.eqd ?_)
    all_goals (refine congrArg D.i ?_;unfold cmpV;first|(simp_all;done)|(rw[if_pos (by omega)];done)|(rw[if_neg (by omega),if_pos (by omega)];done)|(rw[if_neg (by omega),if_neg (by omega)];done))
   ·try simp only[Q] at h4p
    refine sq (fun h5 h5p h5s=>?_) fun h5 h5p h5s=>?_
    ·try simp only[Q] at h5p
     refine rn0 (r1 rfl) (.eqd ?_)
     all_goals (refine congrArg D.i ?_;unfold cmpV;first|(simp_all;done)|(rw[if_pos (by omega)];done)|(rw[if_neg (by omega),if_pos (by omega)];done)|(rw[if_neg (by omega),if_neg (by omega)];done))
    ·try simp only[Q] at h5p
     refine rn0 (r1 rfl) (.eqd ?_)
     all_goals (refine congrArg D.i ?_;unfold cmpV;first|(simp_all;done)|(rw[if_pos (by omega)];done)|(rw[if_neg (by omega),if_pos (by omega)];done)|(rw[if_neg (by omega),if_neg (by omega)];done))
theorem impl_matched_1_fn {a b:Bd}:FnD Tryz.prog 54 [.agg (bdA a),.agg (bdA b)] [] (.d (.i (cmpV a.var b.var))) []:=by
 refine bd Tryz.f54 10 [] [] fun w0 F0 own kept hk=>?_
 refine Walk.box (id:=3002) .none rfl rfl rfl rfl rfl rfl rfl ?_
 refine Walk.box (id:=3003) .none rfl rfl rfl rfl rfl rfl rfl ?_
 refine ev ?_
 refine Walk.call (cr:=[]) cal55 (cmp_Compare_fn) rfl .none rfl rfl (LeL.refl _) trivial rfl rfl rfl ?_
 refine ev ?_
 refine rn0 (r1 rfl) (.eqd ?_)
 all_goals (rfl)
theorem bits_Len64_fn {m:Int} (h0:0≤m) (h12:m≤12):FnD Tryz.prog 114 [.d (.int .u64 m)] [] .any []:=by
 have hu:=u8_small h0 h12
 refine bd Tryz.f114 25 [4,8,14] [] fun w0 F0 own kept hk=>?_
 refine Walk.geI .none rfl rfl rfl ?_
 refine tv ?_
 refine sq (fun h1 h1p h1s=>?_) fun h1 h1p h1s=>?_
 ·try simp only[Q] at h1p
  exfalso;omega
 ·try simp only[Q] at h1p
  refine Walk.geI .none rfl rfl rfl ?_
  refine tv ?_
  refine sq (fun h2 h2p h2s=>?_) fun h2 h2p h2s=>?_
  ·try simp only[Q] at h2p
   exfalso;omega
  ·try simp only[Q] at h2p
   refine Walk.geI .none rfl rfl rfl ?_
   refine tv ?_
   refine sq (fun h3 h3p h3s=>?_) fun h3 h3p h3s=>?_
   ·try simp only[Q] at h3p
    exfalso;omega
   ·try simp only[Q] at h3p
    refine Walk.conv (k':= .u8) (by kernel_rfl) (by kernel_rfl) .none rfl rfl ?_
    refine Walk.idxS (i:=m.toNat) un9 .none rfl rfl rfl (by rw[hu];omega) (List.getElem?_eq_getElem (by first|omega|(simp;omega))) ?_
    refine Walk.conv (by rw[un5];rfl) un3 .none rfl rfl ?_
    refine evs [4,8,14] [] ?_
    refine ar ?_ (ar8 _)
    refine rn0 (r1 rfl) (.any _)
    all_goals (rfl)
theorem cal114:Callee Tryz.prog 114:=⟨fun args w=>hasBody (fn:=Tryz.f114) rfl rfl (by decide) args w⟩
theorem bits_Len_fn {m:Int} (h0:0≤m) (h12:m≤12):FnD Tryz.prog 79 [.d (.int .u64 m)] [] .any []:=by
 refine Fn.body (fn:=Tryz.f79) (n:=8) rfl rfl rfl rfl rfl (fun w0 F0 own kept hk=>?_)
 refine sr ?_
 refine asg ?_
 refine tv ?_
 refine CWp.seq ?_
 refine CWp.condF ?_
 refine CWp.skip ?_
 refine sr ?_
 refine mv ?_
 refine Walk.call (cr:=[]) cal114 (bits_Len64_fn h0 h12) rfl .none rfl rfl (LeL.refl _) trivial rfl rfl rfl ?_
 refine asg ?_
 refine tv ?_
 refine CWp.ret ?_
 refine⟨_,_,[],(.cons (.tmp rfl) .nil),(.any _),⟨rfl,rfl⟩,HSub.nil,noBox⟩
 all_goals (rfl)
theorem slices_insertionSort_fn {L:List Bd}{f:Nat} (hn:L.length≤12) (hcal:Callee Tryz.prog f) (hf:∀a b:Bd,FnD Tryz.prog f ([.agg (bdA a),.agg (bdA b)]++[]) [] (.d (.i (cmpV a.var b.var))) []):
  FnD Tryz.prog 105 [.ms 9 L.length,.d (.i 0),.d (.i L.length),.fn f []] [(9,some (.box (bdC L)))] (.tup []) [(9,some (.box (bdC (sortL (L.length-1) 1 L))))]:=by
 refine bd Tryz.f105 53 [26,31,46,50] [] fun w0 F0 own kept hk=>?_
 refine ar ?_
 refine CWp.loopX (ι:=Nat×List Bd) hk (fun x=>[(8,.d (.i (x.1:Int)))]) [9,12,13,14,15,16,17,18,19,20,21,22,23,24,25,26,27,28,29,30,31,32,33,34,35,36,37,38,39,40,41,42,43,44,45,46,47,48,49,50,51,52] (fun x=>[(9,some (.box (bdC x.2)))]) (fun x=>1≤x.1∧x.1≤L.length+1∧x.2.length=L.length∧sortL (L.length-x.1) x.1 x.2=sortL (L.length-1) 1 L) (fun x=>L.length-x.1) (1,L) ⟨by simp,by simp,rfl,rfl⟩ ⟨⟨_,rfl,(LeA.eqi (by first|rfl|omega|(dsimp only;omega)))⟩,trivial⟩ ⟨(by first|rfl|(show some (Res.box _)=some (Res.box _);rw[←hg2.2.2,sink_done (by first|(left;omega)|(right;rw[←cmpV_neg];assumption))])),trivial⟩ (fun x=>rfl) (fun x hg1=>?_)
 refine evc [26,31,46,50] [] ?_
 refine sq (fun h1 h1p h1s=>?_) fun h1 h1p h1s=>?_
 ·try simp only[Q] at h1p
  refine CWp.loopX (ι:=Nat×List Bd) hk (fun y=>[(9,.d (.i (y.1:Int)))]) [18,19,20,21,22,23,24,25,26,27,28,29,30,31,32,33,34,35,36,37,38,39,40,41,42,43,44,45,46,47,48,49,50,51,52] (fun y=>[(9,some (.box (bdC y.2)))]) (fun y=>y.1≤x.1∧y.2.length=L.length∧sinkL y.1 y.2=sinkL x.1 x.2) (fun y=>y.1) (x.1,x.2) ⟨Nat.le_refl _,hg1.2.2.1,rfl⟩ ⟨⟨_,rfl,(LeA.eqi (by first|rfl|omega|(dsimp only;omega)))⟩,trivial⟩ ⟨(by first|rfl|(show some (Res.box _)=some (Res.box _);unfold swapL;rw[show y.1-1+1=y.1 by omega])),trivial⟩ (fun x=>rfl) (fun y hg2=>?_)
  refine evc [26,31,46,50] [] ?_
  refine sq (fun h2 h2p h2s=>?_) fun h2 h2p h2s=>?_
  ·try simp only[Q] at h2p
   refine Walk.idxM sl32 (.some rfl rfl h2) rfl rfl rfl rfl (by omega) ?_
   refine Walk.loadBA ty58 (.some rfl rfl h2) rfl rfl rfl ((cut_bd (by omega))) ?_
   refine evd [26,31,46,50] [(21,true)] ?_ ⟨⟨_,rfl,h2⟩,trivial⟩
   refine ar ?_
   refine Walk.idxM (i:=y.1-1) sl32 (.some rfl rfl h2) rfl rfl rfl (by omega) (by omega) ?_
   refine Walk.loadBA ty58 (.some rfl rfl h2) rfl rfl rfl ((cut_bd (by omega))) ?_
   refine Walk.callV (cr:=[]) hcal (hf _ _) rfl (.some rfl rfl h2) rfl rfl rfl (LeL.refl _) trivial rfl (by first|rfl|(simp only[okCall,List.all_cons,List.all_nil,entOK,entOK',AV.idsL,AV.ids,idsL_append,ownCells_ids,List.map_cons,List.map_nil,bdC_ids];rfl)) (by first|rfl|(simp only[freshB,occH,occE,Res.ids,List.cons_append,List.nil_append,AV.idsL,AV.ids,idsL_append,ownCells_ids,zerosA_idsR,repNil,List.map_cons,List.map_nil,upC,bdC_ids];rfl)) ?_
   refine evd [26,31,46,50] [(21,true)] ?_ ⟨⟨_,rfl,h2⟩,trivial⟩
   refine dr ?_
   refine sq (fun h3 h3p h3s=>?_) fun h3 h3p h3s=>?_
   ·try simp only[Q] at h3p
    refine ar ?_
    refine ar ?_
    refine Walk.idxM (i:=y.1-1) sl32 .none rfl rfl rfl (by omega) (by omega) ?_
    refine Walk.loadBA ty58 .none rfl rfl rfl ((cut_bd (by omega))) ?_
    refine evd [26,31,46,50] [] ?_
    refine Walk.idxM sl32 .none rfl rfl rfl rfl (by omega) ?_
    refine Walk.loadBA ty58 .none rfl rfl rfl ((cut_bd (by omega))) ?_
    refine Walk.idxM sl32 .none rfl rfl rfl rfl (by omega) ?_
    refine Walk.store ty58 .none rfl rfl rfl rfl rfl rfl (by simp) ((put_bd (by first|omega|(simp;omega)))) ?_
    refine Walk.idxM (i:=y.1-1) sl32 .none rfl rfl rfl (by omega) (by omega) ?_
    refine Walk.store ty58 .none rfl rfl rfl rfl rfl rfl (by simp) ((put_bd (by first|omega|(simp;omega)))) ?_
    refine dr ?_
    refine ar ?_
    refine Exists.intro ((y.1-1,swapL y.2 (y.1-1))) ⟨⟨by dsimp only;omega,by dsimp only;rw[swapL_len];exact hg2.2.1,by have hlt:(nth y.2 (y.1-1+1)).var<(nth y.2 (y.1-1)).var:=(by rw[show y.1-1+1=y.1 by omega];exact cmpV_neg.1 (by assumption));have hk:=sink_go hlt;rw[show y.1-1+1=y.1 by omega] at hk;dsimp only;rw[←hk];exact hg2.2.2⟩,(by dsimp only;omega),Sub.x (by kernel_rfl) (by kernel_rfl) ⟨⟨_,rfl,(LeA.eqi (by first|rfl|omega|(dsimp only;omega)))⟩,trivial⟩ (by kernel_rfl) (by kernel_rfl) ⟨(by first|rfl|(show some (Res.box _)=some (Res.box _);unfold swapL;rw[show y.1-1+1=y.1 by omega])),trivial⟩⟩
   ·try simp only[Q] at h3p
    refine ar ?_
    refine Exists.intro ((x.1+1,sinkL x.1 x.2)) ⟨⟨by dsimp only;omega,by dsimp only;omega,by dsimp only;rw[sinkL_len];exact hg1.2.2.1,by dsimp only;rw[←sortL_next (by omega)];exact hg1.2.2.2⟩,(by dsimp only;omega),Sub.x (by kernel_rfl) (by kernel_rfl) ⟨⟨_,rfl,(LeA.eqi (by first|rfl|omega|(dsimp only;omega)))⟩,trivial⟩ (by kernel_rfl) (by kernel_rfl) ⟨(by first|rfl|(show some (Res.box _)=some (Res.box _);rw[←hg2.2.2,sink_done (by first|(left;omega)|(right;rw[←cmpV_neg];assumption))])),trivial⟩⟩
  ·try simp only[Q] at h2p
   refine dr ?_
   refine sqF ?_
   refine ar ?_
   refine Exists.intro ((x.1+1,sinkL x.1 x.2)) ⟨⟨by dsimp only;omega,by dsimp only;omega,by dsimp only;rw[sinkL_len];exact hg1.2.2.1,by dsimp only;rw[←sortL_next (by omega)];exact hg1.2.2.2⟩,(by dsimp only;omega),Sub.x (by kernel_rfl) (by kernel_rfl) ⟨⟨_,rfl,(LeA.eqi (by first|rfl|omega|(dsimp only;omega)))⟩,trivial⟩ (by kernel_rfl) (by kernel_rfl) ⟨(by first|rfl|(show some (Res.box _)=some (Res.box _);rw[←hg2.2.2,sink_done (by first|(left;omega)|(right;rw[←cmpV_neg];assumption))])),trivial⟩⟩
 ·try simp only[Q] at h1p
  refine rn [(9,some (.box (bdC (sortL (L.length-1) 1 L))))] .nil (.refl _) ⟨rfl,rfl⟩ (SubO.get ⟨.inr (by show some (Res.box _)=some (Res.box _);rw[←hg1.2.2.2,sortL_end (by omega)]),⟨.inl rfl,trivial⟩⟩) (boxOK rfl)
  all_goals (rfl)
theorem slices_insertionSort_nil {f:Nat}:FnD Tryz.prog 105 [.d (.sl []),.d (.i 0),.d (.i 0),.fn f []] [] (.tup []) []:=by
 refine bd Tryz.f105 53 [] [] fun w0 F0 own kept hk=>?_
 refine ar ?_
 refine CWp.loopX (ι:=Unit) hk (fun u=>[(8,.d (.i 1))]) [9,12,13,14,15,16,17,18,19,20,21,22,23,24,25,26,27,28,29,30,31,32,33,34,35,36,37,38,39,40,41,42,43,44,45,46,47,48,49,50,51,52] (fun u=>[]) (fun u=>True) (fun u=>0) () trivial ⟨⟨_,rfl,(LeA.eqi (by first|rfl|(simp;done)|(simp_all;done)|omega))⟩,trivial⟩ trivial (fun x=>rfl) (fun u hg1=>?_)
 refine evc [] [] ?_
 refine sq (fun h1 h1p h1s=>?_) fun h1 h1p h1s=>?_
 ·try simp only[Q] at h1p
  exfalso;simp at h1
 ·try simp only[Q] at h1p
  refine rn0 .nil (.refl _)
  all_goals (rfl)
theorem slices_pdqsort_fn {L:List Bd}{f:Nat} (hn:L.length≤12) (hcal:Callee Tryz.prog f) (hf:∀a b:Bd,FnD Tryz.prog f ([.agg (bdA a),.agg (bdA b)]++[]) [] (.d (.i (cmpV a.var b.var))) []):
  FnD Tryz.prog 78 [.ms 9 L.length,.d (.i 0),.d (.i L.length),.any,.fn f []] [(9,some (.box (bdC L)))] (.tup []) [(9,some (.box (bdC (sortL (L.length-1) 1 L))))]:=by
 refine bd Tryz.f78 148 [] [] fun w0 F0 own kept hk=>?_
 refine CWp.loopX (ι:=Unit) hk (fun u=>[(1,.d (.i 0)),(2,.d (.i (L.length:Int)))]) [3,10,11,12,13,14,15,16,17,18,19,20,21,22,23,24,25,26,27,28,29,30,31,32,33,34,35,36,37,38,39,40,41,42,43,44,45,46,47,48,49,50,51,52,53,54,55,56,57,58,59,60,61,62,63,64,65,66,67,68,69,70,71,72,73,74,75,76,77,78,79,80,81,82,83,84,85,86,87,88,89,90,91,92,93,94,95,96,97,98,99,100,101,102,103,104,105,106,107,108,109,110,111,112,113,114,115,116,117,118,119,120,121,122,123,124,125,126,127,128,129,130,131,132,133,134,135,136,137,138,139,140,141,142,143,144,145,146,147] (fun u=>[(9,some (.box (bdC L)))]) (fun u=>True) (fun u=>0) () trivial ⟨⟨_,rfl,(LeA.eqi (by first|rfl|(simp;done)|(simp_all;done)|omega))⟩,⟨⟨_,rfl,(LeA.eqi (by first|rfl|(simp;done)|(simp_all;done)|omega))⟩,trivial⟩⟩ ⟨(by first|rfl|(simp[getH];done)),trivial⟩ (fun x=>rfl) (fun u hg1=>?_)
 refine evc [] [] ?_
 refine ar ?_
 refine sq (fun h1 h1p h1s=>?_) fun h1 h1p h1s=>?_
 ·try simp only[Q] at h1p
  refine Walk.call (cr:=[]) cal105 (slices_insertionSort_fn hn hcal hf) rfl .none rfl rfl (.cons (LeA.msn (by first|rfl|(simp;done))) (.cons (.refl _) (.cons (.refl _) (.cons (.refl _) .nil)))) ⟨rfl,trivial⟩ rfl okCall_bd rfl ?_
  refine tv ?_
  refine rn [(9,some (.box (bdC (sortL (L.length-1) 1 L))))] .nil (.refl _) ⟨rfl,rfl⟩ (SubO.get ⟨.inr (by rfl),⟨.inl rfl,trivial⟩⟩) (boxOK rfl)
  all_goals (rfl)
 ·try simp only[Q] at h1p
  exfalso;omega
theorem slices_pdqsort_nil {f:Nat}:FnD Tryz.prog 78 [.d (.sl []),.d (.i 0),.d (.i 0),.any,.fn f []] [] (.tup []) []:=by
 refine bd Tryz.f78 148 [] [] fun w0 F0 own kept hk=>?_
 refine CWp.loopX (ι:=Unit) hk (fun u=>[(1,.d (.i 0)),(2,.d (.i 0))]) [3,10,11,12,13,14,15,16,17,18,19,20,21,22,23,24,25,26,27,28,29,30,31,32,33,34,35,36,37,38,39,40,41,42,43,44,45,46,47,48,49,50,51,52,53,54,55,56,57,58,59,60,61,62,63,64,65,66,67,68,69,70,71,72,73,74,75,76,77,78,79,80,81,82,83,84,85,86,87,88,89,90,91,92,93,94,95,96,97,98,99,100,101,102,103,104,105,106,107,108,109,110,111,112,113,114,115,116,117,118,119,120,121,122,123,124,125,126,127,128,129,130,131,132,133,134,135,136,137,138,139,140,141,142,143,144,145,146,147] (fun u=>[]) (fun u=>True) (fun u=>0) () trivial ⟨⟨_,rfl,(LeA.eqi (by first|rfl|(simp;done)|(simp_all;done)|omega))⟩,⟨⟨_,rfl,(LeA.eqi (by first|rfl|(simp;done)|(simp_all;done)|omega))⟩,trivial⟩⟩ trivial (fun x=>rfl) (fun u hg1=>?_)
 refine evc [] [] ?_
 refine ar ?_
 refine sq (fun h1 h1p h1s=>?_) fun h1 h1p h1s=>?_
 ·try simp only[Q] at h1p
  refine Walk.call (cr:=[]) cal105 (slices_insertionSort_nil) rfl .none rfl rfl (LeL.refl _) trivial rfl rfl rfl ?_
  refine tv ?_
  refine rn0 .nil (.refl _)
  all_goals (rfl)
 ·try simp only[Q] at h1p
  exfalso;simp at h1
theorem slices_SortFunc_fn {L:List Bd}{f:Nat} (hn:L.length≤12) (hcal:Callee Tryz.prog f) (hf:∀a b:Bd,FnD Tryz.prog f ([.agg (bdA a),.agg (bdA b)]++[]) [] (.d (.i (cmpV a.var b.var))) []):
  FnD Tryz.prog 53 [.ms 9 L.length,.fn f []] [(9,some (.box (bdC L)))] (.tup []) [(9,some (.box (bdC (sortL (L.length-1) 1 L))))]:=by
 have hu:=u64_small (n:=(L.length:Int)) (by omega) (by omega)
 refine bd Tryz.f53 14 [] [] fun w0 F0 own kept hk=>?_
 refine Walk.conv (k':= .u64) (by kernel_rfl) (by kernel_rfl) .none rfl rfl ?_
 refine Walk.call (cr:=[]) cal79 (bits_Len_fn (by rw[hu];omega) (by rw[hu];omega)) rfl .none rfl rfl (LeL.refl _) trivial rfl (by first|rfl|(simp only[okCall,List.all_cons,List.all_nil,entOK,entOK',AV.idsL,AV.ids,idsL_append,ownCells_ids,List.map_cons,List.map_nil,bdC_ids];rfl)) (by first|rfl|(simp only[freshB,occH,occE,Res.ids,List.cons_append,List.nil_append,AV.idsL,AV.ids,idsL_append,ownCells_ids,zerosA_idsR,repNil,List.map_cons,List.map_nil,upC,bdC_ids];rfl)) ?_
 refine ev ?_
 refine Walk.call (cr:=[]) cal78 (slices_pdqsort_fn hn hcal hf) rfl .none rfl rfl (.cons (LeA.msn (by first|rfl|(simp;done))) (.cons (.refl _) (.cons (.refl _) (.cons (.refl _) (.cons (.refl _) .nil))))) ⟨rfl,trivial⟩ rfl okCall_bd rfl ?_
 refine tv ?_
 refine rn [(9,some (.box (bdC (sortL (L.length-1) 1 L))))] .nil (.refl _) ⟨rfl,rfl⟩ (SubO.get ⟨.inr (by rfl),⟨.inl rfl,trivial⟩⟩) (boxOK rfl)
 all_goals (rfl)
theorem slices_SortFunc_nil {f:Nat}:FnD Tryz.prog 53 [.d (.sl []),.fn f []] [] (.tup []) []:=by
 refine bd Tryz.f53 14 [] [] fun w0 F0 own kept hk=>?_
 refine Walk.conv (k':= .u64) (by kernel_rfl) (by kernel_rfl) .none rfl rfl ?_
 refine Walk.call (cr:=[]) cal79 (bits_Len_fn (m:=IntKind.u64.wrap 0) (by decide) (by decide)) rfl .none rfl rfl (LeL.refl _) trivial rfl rfl rfl ?_
 refine ev ?_
 refine Walk.call (cr:=[]) cal78 (slices_pdqsort_nil) rfl .none rfl rfl (LeL.refl _) trivial rfl rfl rfl ?_
 refine tv ?_
 refine rn0 .nil (.refl _)
 all_goals (rfl)
theorem swapL_perm {L:List Bd}{j:Nat} (h:j+1<L.length):(swapL L j).Perm L:=by
 have e:L=L.take j++nth L j::nth L (j+1)::L.drop (j+2):=by
  have h1:L.drop j=nth L j::L.drop (j+1):=drop_nth (by omega)
  have h2:L.drop (j+1)=nth L (j+1)::L.drop (j+2):=drop_nth (by omega)
  conv=>lhs;rw[←List.take_append_drop j L,h1,h2]
 have hl:(L.take j).length=j:=by rw[List.length_take];omega
 generalize nth L j=x at e
 generalize nth L (j+1)=y at e
 generalize L.take j=A at *
 generalize L.drop (j+2)=B at *
 subst e
 have n1:nth (A++x::y::B) j=x:=by rw[←hl];simp[nth,List.getD]
 have n2:nth (A++x::y::B) (j+1)=y:=by rw[←hl];simp[nth,List.getD]
 unfold swapL
 rw[n1,n2]
 have s1:((A++x::y::B).set (j+1) x).set j y=A++y::x::B:=by
  rw[←hl];simp
 rw[s1]
 exact(List.Perm.swap x y B).append_left A
theorem sinkL_perm:∀(j:Nat) (L:List Bd),j<L.length→(sinkL j L).Perm L
 |0,L,_=>List.Perm.refl _
 |j+1,L,h=>by
  unfold sinkL;split
  ·exact(sinkL_perm j (swapL L j) (by rw[swapL_len];omega)).trans (swapL_perm h)
  ·exact List.Perm.refl _
theorem sortL_perm:∀(k i:Nat) (L:List Bd),i+k≤L.length→(sortL k i L).Perm L
 |0,_,_,_=>List.Perm.refl _
 |k+1,i,L,h=>by
  unfold sortL
  exact(sortL_perm k (i+1) (sinkL i L) (by rw[sinkL_len];omega)).trans (sinkL_perm i L (by omega))
def sortB (L:List Bd):List Bd:=sortL (L.length-1) 1 L
theorem sortB_perm (L:List Bd):(sortB L).Perm L:=by
 cases L with
 |nil=>exact List.Perm.refl _
 |cons x r=>exact sortL_perm _ _ _ (by simp;omega)
theorem sortB_len (L:List Bd):(sortB L).length=L.length:=(sortB_perm L).length_eq
theorem sortB_ok {m:Nat}{L:List Bd} (h:BdOk m L):BdOk m (sortB L):=fun x hx=>h x ((sortB_perm L).mem_iff.1 hx)
def matchedV (n:Nat) (p:Pat) (v:Val):List Bd×Bool:=if (matchV n p v).2=true then (sortB (matchV n p v).1,true) else ([],false)
theorem matchedV_ok (n:Nat) (p:Pat) (v:Val):(matchedV n p v).2=(matchV n p v).2:=by
 unfold matchedV;split<;>simp_all
structure MatchOk (w:List Data) (n m:Nat) (t:Ty) (p:Pat) (v:Val):Prop where
 shape:shapeP w n t p=true
 fits:fitsV w m t v=true
 pok:p.ok
 vok:v.ok
 psz:p.size≤100
 vsz:v.size≤100
theorem MatchOk.kid {w:List Data}{n m:Nat}{t:Ty}{p:Pat}{v:Val} (h:MatchOk w (n+1) m t p v) (h4:p.op=4) (hc:p.ctor=v.ctor):
  p.kids.length=v.kids.length∧∃k,∀i,i<p.kids.length→MatchOk w n k (nth (typesP w t p) i) (nth p.kids i) (nth v.kids i):=by
 obtain⟨ho,hlen⟩:=shapeP_own h.shape
 have hct:=ownP_mem ho h4
 have hdt:t.data≠ -1:=fun e=>by unfold vctors at hct;rw[if_pos e] at hct;simp at hct
 have hk:=fun i (hi:i<p.kids.length)=>shapeP_kid h.shape hi
 have hpk:=(Pat.ok_iff p).1 h.pok
 have hvk:=(Val.ok_iff v).1 h.vok
 have hps:=Pat.size_eq p
 have hvs:=Val.size_eq v
 cases m with
 |zero=>have:=h.fits;simp[fitsV] at this
 |succ m=>
  obtain⟨f1,f2,f3⟩:=fits_ctor h.fits hdt
  have ht4:=types4 (w:=w) (t:=t) h4
  rw[ht4] at hlen
  rw[←hc] at f2 f3
  refine⟨by omega,m,fun i hi=>?_⟩
  have z1:=pnth_size (l:=p.kids) hi
  have z2:=nth_size (l:=v.kids) (i:=i) (by omega)
  refine⟨hk i hi,by rw[ht4];exact f3 i (by omega),Pats.ok_mem hpk.2 _ (nth_mem hi),Vals.ok_mem hvk.2 _ (nth_mem (by omega)), ?_, ?_⟩
  ·have:=h.psz;omega
  ·have:=h.vsz;omega
theorem MatchOk.two {w:List Data}{n m:Nat}{t:Ty}{p:Pat}{v:Val} (h:MatchOk w (n+1) m t p v) (h5:p.op=5):
  p.kids.length=2∧MatchOk w n m t (nth p.kids 0) v∧MatchOk w n m t (nth p.kids 1) v:=by
 obtain⟨hl,s0,s1⟩:=shape_two h.shape h5
 have hpk:=(Pat.ok_iff p).1 h.pok
 have hps:=Pat.size_eq p
 have z0:=pnth_size (l:=p.kids) (i:=0) (by omega)
 have z1:=pnth_size (l:=p.kids) (i:=1) (by omega)
 have hs:=h.psz
 exact⟨hl,⟨s0,h.fits,Pats.ok_mem hpk.2 _ (nth_mem (by omega)),h.vok,by omega,h.vsz⟩,⟨s1,h.fits,Pats.ok_mem hpk.2 _ (nth_mem (by omega)),h.vok,by omega,h.vsz⟩⟩
theorem MatchOk.one {w:List Data}{n m:Nat}{t:Ty}{p:Pat}{v:Val} (h:MatchOk w (n+1) m t p v) (h6:p.op=6):
  p.kids.length=1∧MatchOk w n m t (nth p.kids 0) v:=by
 obtain⟨hl,s0⟩:=shape_one h.shape h6
 have hpk:=(Pat.ok_iff p).1 h.pok
 have hps:=Pat.size_eq p
 have z0:=pnth_size (l:=p.kids) (i:=0) (by omega)
 have hs:=h.psz
 exact⟨hl,⟨s0,h.fits,Pats.ok_mem hpk.2 _ (nth_mem (by omega)),h.vok,by omega,h.vsz⟩⟩
theorem bd_rows (l:List Bd):∀x∈l.map Bd.c,x.length=4:=fun x hx=>by
 obtain⟨y,_,rfl⟩:=List.mem_map.1 hx;rfl
theorem impl_match_fn {w:List Data}:∀(n m:Nat){t:Ty}{p:Pat}{v:Val},MatchOk w n m t p v→
  FnD Tryz.prog 52 [.agg [.d (.i p.op),.d (.i p.ctor),.d (.i p.n),.d (.i p.m),.d (.i p.var),.d (encPats p.kids)],.agg [.d (.i v.ctor),.d (.i v.num),.d (encVals v.kids)]] [] (.tup [.d (encBds (matchV n p v).1),.d (.bool (matchV n p v).2)]) []
 |0,m,t,p,v,h=>by have:=h.shape;simp[shapeP] at this
 |n+1,m,t,p,v,h=>by
  have hop:=shape_op h.shape
  have k4:=h.kid
  have k5:=h.two
  have k6:=h.one
  have hsz:=h.psz
  have hps:=Pat.size_eq p
  have hkl:=((Pat.ok_iff p).1 h.pok).1
  have mok:=fun {t:Ty}{q:Pat}{u:Val} (hs:shapeP w n t q=true) (hu:u.ok)=>matchV_ok n hs hu
  by_cases c4:p.op=4∧p.ctor=v.ctor
  ·obtain⟨hl,k,hkm⟩:=k4 c4.1 c4.2
   have hm4:=match_4 (n:=n) c4.1 c4.2
   refine bd Tryz.f52 105 [10] [] fun w0 F0 own kept hk=>?_
   refine Walk.box (id:=3002) .none rfl rfl rfl rfl rfl rfl rfl ?_
   refine Walk.box (id:=3003) .none rfl rfl rfl rfl rfl rfl rfl ?_
   refine evs [10] [] ?_
   refine sq (fun h1 h1p h1s=>?_) fun h1 h1p h1s=>?_
   ·try simp only[Q,Pat.cs_len] at h1p
    exfalso;omega
   ·try simp only[Q,Pat.cs_len] at h1p
    refine sq (fun h2 h2p h2s=>?_) fun h2 h2p h2s=>?_
    ·try simp only[Q,Pat.cs_len] at h2p
     exfalso;omega
    ·try simp only[Q,Pat.cs_len] at h2p
     refine sq (fun h3 h3p h3s=>?_) fun h3 h3p h3s=>?_
     ·try simp only[Q,Pat.cs_len] at h3p
      exfalso;omega
     ·try simp only[Q,Pat.cs_len] at h3p
      refine sq (fun h4 h4p h4s=>?_) fun h4 h4p h4s=>?_
      ·try simp only[Q,Pat.cs_len] at h4p
       exfalso;omega
      ·try simp only[Q,Pat.cs_len] at h4p
       refine sq (fun h5 h5p h5s=>?_) fun h5 h5p h5s=>?_
       ·try simp only[Q,Pat.cs_len] at h5p
        exfalso;omega
       ·try simp only[Q,Pat.cs_len] at h5p
        refine sq (fun h6 h6p h6s=>?_) fun h6 h6p h6s=>?_
        ·try simp only[Q,Pat.cs_len] at h6p
         exfalso;omega
        ·try simp only[Q,Pat.cs_len] at h6p
         refine Walk.assignNil 1 4 .none rfl rfl ?_
         refine tv ?_
         refine CWp.loopX (ι:=Nat×List Bd) hk (fun x=>[(83,.d (.i (x.1:Int))),(10,.gl 1 (x.2.map Bd.c))]) [4,5,11,12,13,14,84,85,86,87,88,89,90,91,92,93,94,95,96,97,98,99,100,101,102,103] (fun x=>[(1,some (.tok ((x.2.map Bd.c)).length 4))]) (fun x=>x.1≤p.kids.length∧matchL (matchV n) (p.kids.drop x.1) (v.kids.drop x.1) x.2=matchL (matchV n) p.kids v.kids []∧x.2.length+Pats.size (p.kids.drop x.1)≤Pats.size p.kids) (fun x=>p.kids.length-x.1) (0,[]) ⟨by simp,rfl,by simp⟩ ⟨⟨_,rfl,(LeA.eqi (by first|rfl|omega|(simp;done)))⟩,⟨⟨_,rfl,(LeA.glg (by first|rfl|omega|(simp;done)))⟩,trivial⟩⟩ ⟨beq_nat_eq (by rfl),trivial⟩ (fun x=>rfl) (fun x hg1=>?_)
         refine evc [10] [] ?_
         refine sq (fun h7 h7p h7s=>?_) fun h7 h7p h7s=>?_
         ·try simp only[Q,Pat.cs_len] at h7p
          refine Walk.idx sl35 .none rfl rfl rfl rfl (pats_at (by omega)) rfl ?_
          refine evs [10] [] ?_
          refine Walk.alloc (id:=3012) tz37 rfl .none rfl rfl rfl rfl ?_
          refine evs [10] [] ?_
          refine Walk.store ty37 .none rfl rfl rfl rfl rfl rfl (by simp) rfl ?_
          refine tv ?_
          refine Walk.idx sl27 .none rfl rfl rfl rfl (vals_at (by omega)) rfl ?_
          refine evd [10] [] ?_
          refine Walk.call (cr:=[]) cal52 (impl_match_fn n k (hkm x.1 (by omega))) rfl .none rfl rfl (LeL.refl _) trivial rfl rfl rfl ?_
          refine evd [10] [] ?_
          refine dr ?_
          refine sq (fun h8 h8p h8s=>?_) fun h8 h8p h8s=>?_
          ·try simp only[Q,Pat.cs_len] at h8p
           refine rn0 (r2 rfl rfl) (.tup (.cons (.nild ?_) (.cons (.eqd ?_) .nil)))
           all_goals ((rw[hm4,←hg1.2.1,matchL_bad (by omega) (by omega) (by simp_all)];all_goals rfl))
          ·try simp only[Q,Pat.cs_len] at h8p
           refine Walk.append sl32 zz58 rfl .none rfl rfl rfl rfl (htokL rfl (by first|rfl|(simp;done)|(simp;omega))) (by intro x hx;exact bd_rows _ x hx) (by have:=(mok (hkm x.1 (by omega)).shape (hkm x.1 (by omega)).vok).2;have:=psize_drop (l:=p.kids) (i:=x.1) (by omega);have:=hg1.2.2;simp;omega) (by have:=(mok (hkm x.1 (by omega)).shape (hkm x.1 (by omega)).vok).2;have:=psize_drop (l:=p.kids) (i:=x.1) (by omega);have:=hg1.2.2;simp;omega) ?_
           refine asg ?_
           refine tv ?_
           refine ar ?_
           refine Exists.intro ((x.1+1,x.2++(matchV n (nth p.kids x.1) (nth v.kids x.1)).1)) ⟨⟨by dsimp only;omega,by dsimp only;rw[←matchL_next (by omega) (by omega) (by simp_all)];exact hg1.2.1,by have:=(mok (hkm x.1 (by omega)).shape (hkm x.1 (by omega)).vok).2;have:=psize_drop (l:=p.kids) (i:=x.1) (by omega);have:=hg1.2.2;dsimp only;rw[List.length_append];omega⟩,(by dsimp only;omega),Sub.x (by kernel_rfl) (by kernel_rfl) ⟨⟨_,rfl,(LeA.eqi (by first|rfl|omega|(simp;done)))⟩,⟨⟨_,rfl,(LeA.glg (by first|rfl|omega|(simp;done)))⟩,trivial⟩⟩ (by kernel_rfl) (by kernel_rfl) ⟨beq_nat_eq (by(simp;done)),trivial⟩⟩
         ·try simp only[Q,Pat.cs_len] at h7p
          refine rn0 (r2 rfl rfl) (.tup (.cons (.gld ?_) (.cons (.eqd ?_) .nil)))
          all_goals ((rw[hm4,←hg1.2.1,matchL_end (by omega)];all_goals rfl))
  ·have hn4:p.op=4→matchV (n+1) p v=([],false):=fun h4=>match_4n h4 (fun hc=>c4 ⟨h4,hc⟩)
   refine bd Tryz.f52 105 [] [] fun w0 F0 own kept hk=>?_
   refine Walk.box (id:=3002) .none rfl rfl rfl rfl rfl rfl rfl ?_
   refine Walk.box (id:=3003) .none rfl rfl rfl rfl rfl rfl rfl ?_
   refine ev ?_
   refine sq (fun h1 h1p h1s=>?_) fun h1 h1p h1s=>?_
   ·try simp only[Q,Pat.cs_len] at h1p
    refine rn0 (r2 rfl rfl) (.tup (.cons (.nild ?_) (.cons (.eqd ?_) .nil)))
    all_goals ((rw[match_1 (by omega)];all_goals rfl))
   ·try simp only[Q,Pat.cs_len] at h1p
    refine sq (fun h2 h2p h2s=>?_) fun h2 h2p h2s=>?_
    ·try simp only[Q,Pat.cs_len] at h2p
     refine Walk.build st58 (ks:=[0,1]) (xs:=[_,_]) rfl rfl .none rfl rfl rfl ?_
     refine Walk.sliceLit sl32 tz58 rfl (by decide) (ks:=[0]) (xs:=[_]) rfl rfl (by decide) (by decide) .none rfl rfl rfl rfl ?_
     refine ev ?_
     refine rn0 (r2 rfl rfl) (.tup (.cons (.eqd ?_) (.cons (.eqd ?_) .nil)))
     all_goals ((rw[match_2 (by omega)];all_goals rfl))
    ·try simp only[Q,Pat.cs_len] at h2p
     refine sq (fun h3 h3p h3s=>?_) fun h3 h3p h3s=>?_
     ·try simp only[Q,Pat.cs_len] at h3p
      refine Walk.call (cr:=[]) cal62 (impl_within_fn) rfl .none rfl rfl (LeL.refl _) trivial rfl rfl rfl ?_
      refine ev ?_
      refine rn0 (r2 rfl rfl) (.tup (.cons (.nild ?_) (.cons (.eqd ?_) .nil)))
      all_goals ((rw[match_3 (by omega)];all_goals rfl))
     ·try simp only[Q,Pat.cs_len] at h3p
      refine sq (fun h4 h4p h4s=>?_) fun h4 h4p h4s=>?_
      ·try simp only[Q,Pat.cs_len] at h4p
       refine Walk.idx (i:=0) sl35 .none rfl rfl rfl rfl (pats_at (by(have:=(k5 (by omega)).1;omega))) rfl ?_
       refine evd [] [] ?_
       refine Walk.call (cr:=[]) cal52 (impl_match_fn n m (k5 (by omega)).2.1) rfl .none rfl rfl (LeL.refl _) trivial rfl rfl rfl ?_
       refine evd [] [] ?_
       refine dr ?_
       refine sq (fun h5 h5p h5s=>?_) fun h5 h5p h5s=>?_
       ·try simp only[Q,Pat.cs_len] at h5p
        refine rn0 (r2 rfl rfl) (.tup (.cons (.eqd ?_) (.cons (.eqd ?_) .nil)))
        all_goals ((rw[match_5a (by omega) (by assumption)];all_goals rfl))
       ·try simp only[Q,Pat.cs_len] at h5p
        refine Walk.idx (i:=1) sl35 .none rfl rfl rfl rfl (pats_at (by(have:=(k5 (by omega)).1;omega))) rfl ?_
        refine evd [] [] ?_
        refine Walk.call (cr:=[]) cal52 (impl_match_fn n m (k5 (by omega)).2.2) rfl .none rfl rfl (LeL.refl _) trivial rfl rfl rfl ?_
        refine evd [] [] ?_
        refine dr ?_
        refine rn0 (r2 rfl rfl) (.tup (.cons (.eqd ?_) (.cons (.eqd ?_) .nil)))
        all_goals ((rw[match_5b (by omega) (by simp_all)];all_goals rfl))
      ·try simp only[Q,Pat.cs_len] at h4p
       refine sq (fun h6 h6p h6s=>?_) fun h6 h6p h6s=>?_
       ·try simp only[Q,Pat.cs_len] at h6p
        refine Walk.idx (i:=0) sl35 .none rfl rfl rfl rfl (pats_at (by(have:=(k6 (by omega)).1;omega))) rfl ?_
        refine evd [] [] ?_
        refine Walk.call (cr:=[]) cal52 (impl_match_fn n m (k6 (by omega)).2) rfl .none rfl rfl (LeL.refl _) trivial rfl rfl rfl ?_
        refine evd [] [] ?_
        refine dr ?_
        refine Walk.build st58 (ks:=[0,1]) (xs:=[_,_]) rfl rfl .none rfl rfl rfl ?_
        refine Walk.sliceLitG 2 sl32 tz58 rfl (by decide) (ks:=[0]) (xs:=[_]) rfl rfl (by decide) (by decide) .none rfl rfl rfl rfl rfl ?_
        refine ev ?_
        refine Walk.append sl32 zz58 rfl .none rfl rfl rfl rfl (htokL rfl (by first|rfl|(simp;done)|(simp;omega))) (by intro x hx;exact bd_rows _ x hx) (by have:=(mok (k6 (by omega)).2.shape h.vok).2;have:=pnth_size (l:=p.kids) (i:=0) (by have:=(k6 (by omega)).1;omega);simp;omega) (by have:=(mok (k6 (by omega)).2.shape h.vok).2;have:=pnth_size (l:=p.kids) (i:=0) (by have:=(k6 (by omega)).1;omega);simp;omega) ?_
        refine ev ?_
        refine rn0 (r2 rfl rfl) (.tup (.cons (.gld ?_) (.cons (.eqd ?_) .nil)))
        all_goals ((rw[match_6 (by omega)];all_goals rfl))
       ·try simp only[Q,Pat.cs_len] at h6p
        refine sq (fun h7 h7p h7s=>?_) fun h7 h7p h7s=>?_
        ·try simp only[Q,Pat.cs_len] at h7p
         refine rn0 (r2 rfl rfl) (.tup (.cons (.nild ?_) (.cons (.eqd ?_) .nil)))
         all_goals ((rw[hn4 (by omega)];all_goals rfl))
        ·try simp only[Q,Pat.cs_len] at h7p
         exfalso;apply c4;omega
structure VarsOk (l:List Bd) (vs:List Vt):Prop where
 len:l.length=vs.length
 nod:(l.map Bd.var).Nodup
 sub:∀x∈l.map Bd.var,x∈vs.map Vt.var
theorem matchL_vars {f:Pat→Val→List Bd×Bool}{g:Ty→Pat→List Vt}:∀ {a:List Ty}{b:List Pat}{c:List Val}{acc:List Bd},a.length=b.length→b.length=c.length→
  (∀i,i<b.length→(f (nth b i) (nth c i)).2=true→nodupV (g (nth a i) (nth b i))=true→VarsOk (f (nth b i) (nth c i)).1 (g (nth a i) (nth b i)))→((varsL g a b).map Vt.var).Nodup→
  (matchL f b c acc).2=true→∃X,(matchL f b c acc).1=acc++X∧VarsOk X (varsL g a b)
 | [],[],[],acc,_,_,_,_,_=>⟨[],by simp[matchL],⟨rfl,by simp,by simp⟩⟩
 |t::a,p::b,v::c,acc,h1,h2,h3,h4,h5=>by
  unfold matchL at h5 ⊢
  split at h5
  ·rename_i hok
   rw[if_pos hok]
   simp only[varsL,List.map_append] at h4 ⊢
   obtain⟨n1,n2,n3⟩:=List.nodup_append.1 h4
   have k0:=h3 0 (by simp) hok (decide_eq_true n1)
   obtain⟨X,e,k⟩:=matchL_vars (f:=f) (g:=g) (a:=a) (b:=b) (c:=c) (acc:=acc++(f p v).1) (by simpa using h1) (by simpa using h2) (fun i hi=>h3 (i+1) (by simpa using hi)) n2 h5
   refine⟨(f p v).1++X,by rw[e,List.append_assoc],⟨?_, ?_, ?_⟩⟩
   ·have:=k0.len
    have e0:(f p v).1.length=(g t p).length:=this
    rw[List.length_append,List.length_append,e0,k.len]
   ·rw[List.map_append]
    exact List.nodup_append.2 ⟨k0.nod,k.nod,fun x hx y hy=>n3 x (k0.sub x hx) y (k.sub y hy)⟩
   ·intro x hx
    rw[List.map_append] at hx ⊢
    rcases List.mem_append.1 hx with h|h
    ·exact List.mem_append_left _ (k0.sub x h)
    ·exact List.mem_append_right _ (k.sub x h)
  ·exact absurd h5 (by simp)
 | [],_::_,_,_,h,_,_,_,_=>by simp at h
 |_::_,[],_,_,h,_,_,_,_=>by simp at h
 | [],[],_::_,_,_,h,_,_,_=>by simp at h
 |_::_,_::_,[],_,_,h,_,_,_=>by simp at h
theorem alike_sub {a b:List Vt} (ha:nodupV a=true) (hb:nodupV b=true) (h:alikeV a b=true):a.length=b.length∧∀x∈b.map Vt.var,x∈a.map Vt.var:=by
 rw[alike_same hb] at h
 unfold sameV2 at h
 simp only[Bool.and_eq_true,decide_eq_true_eq,Bool.not_eq_true',List.any_eq_false,Bool.not_eq_true,decide_eq_false_iff_not,Classical.not_not] at h
 have na:=of_decide_eq_true ha
 refine⟨h.1,fun x hx=>?_⟩
 by_cases hm:x∈a.map Vt.var
 ·exact hm
 ·have:=nodup_sub (a:=x::a.map Vt.var) (b:=b.map Vt.var) (List.nodup_cons.2 ⟨hm,na⟩) (fun y hy=>by
   rcases List.mem_cons.1 hy with rfl|hy
   ·exact hx
   ·obtain⟨z,hz,rfl⟩:=List.mem_map.1 hy
    exact List.mem_map.2 ⟨z,h.2 z hz,rfl⟩)
  simp only[List.length_cons,List.length_map] at this
  omega
theorem match_vars {w:List Data}:∀(n m:Nat){t:Ty}{p:Pat}{v:Val},MatchOk w n m t p v→linP w n t p=true→(matchV n p v).2=true→VarsOk (matchV n p v).1 (varsP w n t p)
 |0,m,t,p,v,h,_,_=>by have:=h.shape;simp[shapeP] at this
 |n+1,m,t,p,v,h,hl,hm=>by
  have hop:=shape_op h.shape
  have hnod:=of_decide_eq_true (lin_nodup w (n+1) t p h.shape hl)
  by_cases h5:p.op=5
  ·obtain⟨hk,k0,k1⟩:=h.two h5
   have e1:=types5 (w:=w) (t:=t) h5
   obtain⟨x,y,hxy⟩:∃x y,p.kids=[x,y]:=by
    match hp:p.kids,hk with
    | [x,y],_=>exact⟨x,y,rfl⟩
   have ex:nth p.kids 0=x:=by rw[hxy];rfl
   have ey:nth p.kids 1=y:=by rw[hxy];rfl
   simp only[linP,Bool.and_eq_true,if_pos h5,e1,hxy] at hl
   rw[ex] at k0
   rw[ey] at k1
   have e2:varsP w (n+1) t p=varsP w n t x:=by
    simp only[varsP,nameP,vtypes,e1,hxy,if_pos h5]
    rw[if_neg (by omega)]
    simp[varsL]
   simp only[all2,Bool.and_eq_true,and_true] at hl
   rw[e2]
   cases hm0:(matchV n (nth p.kids 0) v).2 with
   |true=>
    rw[match_5a h5 hm0]
    rw[ex] at hm0 ⊢
    exact match_vars n m k0 hl.1.1 hm0
   |false=>
    rw[match_5b h5 hm0] at hm ⊢
    rw[ey] at hm ⊢
    have k:=match_vars n m k1 hl.1.2 hm
    obtain⟨s1,s2⟩:=alike_sub (lin_nodup w n t x k0.shape hl.1.1) (lin_nodup w n t y k1.shape hl.1.2) hl.2
    exact⟨by rw[k.len];exact s1.symm,k.nod,fun z hz=>s2 z (k.sub z hz)⟩
  have hv:vtypes w t p=typesP w t p:=by unfold vtypes;rw[if_neg h5]
  by_cases h1:p.op=1
  ·rw[match_1 h1]
   have:varsP w (n+1) t p=[]:=by
    simp only[varsP,nameP,hv]
    rw[if_neg (by omega)]
    unfold typesP;rw[if_neg (by omega),if_neg (by omega),if_neg (by omega)];simp[varsL]
   rw[this];exact⟨rfl,by simp,by simp⟩
  by_cases h2:p.op=2
  ·rw[match_2 h2]
   have:varsP w (n+1) t p=[⟨p.var,t⟩]:=by
    simp only[varsP,nameP,hv]
    rw[if_pos (by omega)]
    unfold typesP;rw[if_neg (by omega),if_neg (by omega),if_neg (by omega)];simp[varsL]
   rw[this];exact⟨rfl,by simp,by simp⟩
  by_cases h3:p.op=3
  ·rw[match_3 h3]
   have:varsP w (n+1) t p=[]:=by
    simp only[varsP,nameP,hv]
    rw[if_neg (by omega)]
    unfold typesP;rw[if_neg (by omega),if_neg (by omega),if_neg (by omega)];simp[varsL]
   rw[this];exact⟨rfl,by simp,by simp⟩
  simp only[linP,if_neg h5,Bool.and_eq_true] at hl
  by_cases h6:p.op=6
  ·obtain⟨hk,k0⟩:=h.one h6
   have e1:=types6 (w:=w) (t:=t) h6
   obtain⟨x,hx⟩:∃x,p.kids=[x]:=by
    match hp:p.kids,hk with
    | [x],_=>exact⟨x,rfl⟩
   have ex:nth p.kids 0=x:=by rw[hx];rfl
   have e2:varsP w (n+1) t p=⟨p.var,t⟩::varsP w n t x:=by
    simp only[varsP,nameP,hv,e1,hx]
    rw[if_pos (by omega)]
    simp[varsL]
   rw[match_6 h6] at hm ⊢
   rw[e1,hx] at hl
   simp only[all2,Bool.and_eq_true,and_true] at hl
   rw[ex] at k0 hm ⊢
   rw[e2] at hnod ⊢
   have k:=match_vars n m k0 hl.1 hm
   rw[List.map_cons] at hnod
   have hnod':=List.nodup_cons.1 hnod
   refine⟨by simp[k.len], ?_,fun z hz=>?_⟩
   ·rw[List.map_cons]
    exact List.nodup_cons.2 ⟨fun hh=>hnod'.1 (k.sub _ hh),k.nod⟩
   ·rw[List.map_cons] at hz ⊢
    rcases List.mem_cons.1 hz with h|h
    ·rw[h];exact List.mem_cons_self
    ·exact List.mem_cons_of_mem _ (k.sub z h)
  have h4:p.op=4:=by omega
  by_cases hc:p.ctor=v.ctor
  ·obtain⟨hlen,k,hk⟩:=h.kid h4 hc
   rw[match_4 h4 hc] at hm ⊢
   have e2:varsP w (n+1) t p=varsL (varsP w n) (typesP w t p) p.kids:=by
    simp only[varsP,nameP,hv]
    rw[if_neg (by omega),List.nil_append]
   rw[e2] at hnod ⊢
   have hl2:=(shapeP_own h.shape).2
   obtain⟨X,e,kx⟩:=matchL_vars (f:=matchV n) (g:=varsP w n) (a:=typesP w t p) (acc:=[]) hl2.symm hlen (fun i hi hmi hni=>match_vars n k (hk i hi) (all2_mem hl2.symm hl.1 i (by omega)) hmi) hnod hm
   rw[e,List.nil_append];exact kx
  ·rw[match_4n h4 hc] at hm;exact absurd hm (by simp)
theorem match_six {w:List Data}{m:Nat}{t:Ty}{p:Pat}{v:Val} (h:MatchOk w 10 m t p v) (hp:isP w t p=true) (hm:(matchV 10 p v).2=true):(matchV 10 p v).1.length≤6:=by
 unfold isP at hp
 simp only[Bool.and_eq_true] at hp
 have k:=match_vars 10 m h hp.2.2 hm
 rw[k.len]
 have e:=(scanP_eq w 10 t p 0).1
 have hw:wantP w 10 t p 0=true:=by
  unfold wantP;rw[hp.1,hp.2.2];have:=of_decide_eq_true hp.2.1;simp;omega
 rw[if_pos hw] at e
 have:=scanP_in w 10 t p 0 _ e
 exact nodup_len this.1 this.2
theorem impl_match_gv {w:List Data}:∀(n m:Nat){t:Ty}{p:Pat}{v:Val},MatchOk w n m t p v→(matchV n p v).2=true→
  FnD Tryz.prog 52 [.agg [.d (.i p.op),.d (.i p.ctor),.d (.i p.n),.d (.i p.m),.d (.i p.var),.d (encPats p.kids)],.agg [.d (.i v.ctor),.d (.i v.num),.d (encVals v.kids)]] [] (.tup [.gv 9 ((matchV n p v).1.map Bd.c),.d (.bool true)]) [(9,some (.tok ((matchV n p v).1.map Bd.c).length 4))]
 |0,m,t,p,v,h,_=>by have:=h.shape;simp[shapeP] at this
 |n+1,m,t,p,v,h,hm=>by
  have hop:=shape_op h.shape
  have k4:=h.kid
  have k5:=h.two
  have k6:=h.one
  have hsz:=h.psz
  have hps:=Pat.size_eq p
  have hkl:=((Pat.ok_iff p).1 h.pok).1
  have mok:=fun {t:Ty}{q:Pat}{u:Val} (hs:shapeP w n t q=true) (hu:u.ok)=>matchV_ok n hs hu
  by_cases h4:p.op=4
  ·have hc:p.ctor=v.ctor:=by
    by_cases hc:p.ctor=v.ctor
    ·exact hc
    ·rw[match_4n h4 hc] at hm;exact absurd hm (by simp)
   obtain⟨hl,k,hkm⟩:=k4 h4 hc
   have hm4:=match_4 (n:=n) h4 hc
   have hall:=fun(i:Nat) (hi:i<p.kids.length)=>matchL_all (f:=matchV n) (a:=p.kids) (b:=v.kids) (acc:=[]) (by rw[←hm4];exact hm) i hi (by omega)
   refine bd Tryz.f52 105 [10] [] fun w0 F0 own kept hk=>?_
   refine Walk.box (id:=3002) .none rfl rfl rfl rfl rfl rfl rfl ?_
   refine Walk.box (id:=3003) .none rfl rfl rfl rfl rfl rfl rfl ?_
   refine evs [10] [] ?_
   refine sq (fun h1 h1p h1s=>?_) fun h1 h1p h1s=>?_
   ·try simp only[Q,Pat.cs_len] at h1p
    exfalso;omega
   ·try simp only[Q,Pat.cs_len] at h1p
    refine sq (fun h2 h2p h2s=>?_) fun h2 h2p h2s=>?_
    ·try simp only[Q,Pat.cs_len] at h2p
     exfalso;omega
    ·try simp only[Q,Pat.cs_len] at h2p
     refine sq (fun h3 h3p h3s=>?_) fun h3 h3p h3s=>?_
     ·try simp only[Q,Pat.cs_len] at h3p
      exfalso;omega
     ·try simp only[Q,Pat.cs_len] at h3p
      refine sq (fun h4 h4p h4s=>?_) fun h4 h4p h4s=>?_
      ·try simp only[Q,Pat.cs_len] at h4p
       exfalso;omega
      ·try simp only[Q,Pat.cs_len] at h4p
       refine sq (fun h5 h5p h5s=>?_) fun h5 h5p h5s=>?_
       ·try simp only[Q,Pat.cs_len] at h5p
        exfalso;omega
       ·try simp only[Q,Pat.cs_len] at h5p
        refine sq (fun h6 h6p h6s=>?_) fun h6 h6p h6s=>?_
        ·try simp only[Q,Pat.cs_len] at h6p
         exfalso;omega
        ·try simp only[Q,Pat.cs_len] at h6p
         refine Walk.assignNilV 9 4 .none rfl rfl ?_
         refine tv ?_
         refine CWp.loopX (ι:=Nat×List Bd) hk (fun x=>[(83,.d (.i (x.1:Int))),(10,.gv 9 (x.2.map Bd.c))]) [4,5,11,12,13,14,84,85,86,87,88,89,90,91,92,93,94,95,96,97,98,99,100,101,102,103] (fun x=>[(9,some (.tok ((x.2.map Bd.c)).length 4))]) (fun x=>x.1≤p.kids.length∧matchL (matchV n) (p.kids.drop x.1) (v.kids.drop x.1) x.2=matchL (matchV n) p.kids v.kids []∧x.2.length+Pats.size (p.kids.drop x.1)≤Pats.size p.kids) (fun x=>p.kids.length-x.1) (0,[]) ⟨by simp,rfl,by simp⟩ ⟨⟨_,rfl,(LeA.eqi (by first|rfl|omega|(simp;done)))⟩,⟨⟨_,rfl,(LeA.gvg (by first|rfl|omega|(simp;done)))⟩,trivial⟩⟩ ⟨beq_nat_eq (by rfl),trivial⟩ (fun x=>rfl) (fun x hg1=>?_)
         refine evc [10] [] ?_
         refine sq (fun h7 h7p h7s=>?_) fun h7 h7p h7s=>?_
         ·try simp only[Q,Pat.cs_len] at h7p
          refine Walk.idx sl35 .none rfl rfl rfl rfl (pats_at (by omega)) rfl ?_
          refine evs [10] [] ?_
          refine Walk.alloc (id:=3012) tz37 rfl .none rfl rfl rfl rfl ?_
          refine evs [10] [] ?_
          refine Walk.store ty37 .none rfl rfl rfl rfl rfl rfl (by simp) rfl ?_
          refine tv ?_
          refine Walk.idx sl27 .none rfl rfl rfl rfl (vals_at (by omega)) rfl ?_
          refine evd [10] [] ?_
          refine Walk.call (cr:=[]) cal52 (impl_match_fn n k (hkm x.1 (by omega))) rfl .none rfl rfl (LeL.refl _) trivial rfl rfl rfl ?_
          refine evd [10] [] ?_
          refine dr ?_
          refine sq (fun h8 h8p h8s=>?_) fun h8 h8p h8s=>?_
          ·try simp only[Q,Pat.cs_len] at h8p
           exfalso;have:=hall x.1 (by omega);simp_all
          ·try simp only[Q,Pat.cs_len] at h8p
           refine Walk.appendV sl32 zz58 .none rfl rfl rfl rfl (htokL rfl (by first|rfl|(simp;done)|(simp;omega))) (by intro x hx;exact bd_rows _ x hx) (by have:=(mok (hkm x.1 (by omega)).shape (hkm x.1 (by omega)).vok).2;have:=psize_drop (l:=p.kids) (i:=x.1) (by omega);have:=hg1.2.2;simp;omega) (by have:=(mok (hkm x.1 (by omega)).shape (hkm x.1 (by omega)).vok).2;have:=psize_drop (l:=p.kids) (i:=x.1) (by omega);have:=hg1.2.2;simp;omega) ?_
           refine asg ?_
           refine tv ?_
           refine ar ?_
           refine Exists.intro ((x.1+1,x.2++(matchV n (nth p.kids x.1) (nth v.kids x.1)).1)) ⟨⟨by dsimp only;omega,by dsimp only;rw[←matchL_next (by omega) (by omega) (hall x.1 (by omega))];exact hg1.2.1,by have:=(mok (hkm x.1 (by omega)).shape (hkm x.1 (by omega)).vok).2;have:=psize_drop (l:=p.kids) (i:=x.1) (by omega);have:=hg1.2.2;dsimp only;rw[List.length_append];omega⟩,(by dsimp only;omega),Sub.x (by kernel_rfl) (by kernel_rfl) ⟨⟨_,rfl,(LeA.eqi (by first|rfl|omega|(simp;done)))⟩,⟨⟨_,rfl,(LeA.gvg (by first|rfl|omega|(simp;done)))⟩,trivial⟩⟩ (by kernel_rfl) (by kernel_rfl) ⟨beq_nat_eq (by(simp;done)),trivial⟩⟩
         ·try simp only[Q,Pat.cs_len] at h7p
          refine rn [(9,some (.tok ((matchV (n+1) p v).1.map Bd.c).length 4))] (r2 rfl rfl) (.tup (.cons (.gvg ?_) (.cons (.eqd ?_) .nil))) ⟨rfl,rfl⟩ (SubH.get ⟨(by rw[hm4,←hg1.2.1,matchL_end (by omega)];all_goals rfl),trivial⟩) (boxOK rfl)
          all_goals (first|rfl|(rw[hm4,←hg1.2.1,matchL_end (by omega)];all_goals rfl))
  by_cases h5:p.op=5
  ·obtain⟨hl,k0,k1⟩:=k5 h5
   cases hm0:(matchV n (nth p.kids 0) v).2 with
   |true=>
    have e:=match_5a (n:=n) h5 hm0
    rw[e]
    refine bd Tryz.f52 105 [] [] fun w0 F0 own kept hk=>?_
    refine Walk.box (id:=3002) .none rfl rfl rfl rfl rfl rfl rfl ?_
    refine Walk.box (id:=3003) .none rfl rfl rfl rfl rfl rfl rfl ?_
    refine ev ?_
    refine sq (fun h1 h1p h1s=>?_) fun h1 h1p h1s=>?_
    ·try simp only[Q,Pat.cs_len] at h1p
     exfalso;omega
    ·try simp only[Q,Pat.cs_len] at h1p
     refine sq (fun h2 h2p h2s=>?_) fun h2 h2p h2s=>?_
     ·try simp only[Q,Pat.cs_len] at h2p
      exfalso;omega
     ·try simp only[Q,Pat.cs_len] at h2p
      refine sq (fun h3 h3p h3s=>?_) fun h3 h3p h3s=>?_
      ·try simp only[Q,Pat.cs_len] at h3p
       exfalso;omega
      ·try simp only[Q,Pat.cs_len] at h3p
       refine sq (fun h4 h4p h4s=>?_) fun h4 h4p h4s=>?_
       ·try simp only[Q,Pat.cs_len] at h4p
        refine Walk.idx (i:=0) sl35 .none rfl rfl rfl rfl (pats_at (by omega)) rfl ?_
        refine evd [] [] ?_
        refine Walk.call (cr:=[9]) cal52 (impl_match_gv n m k0 hm0) rfl .none rfl rfl (LeL.refl _) trivial rfl rfl rfl ?_
        refine evd [] [] ?_
        refine dr ?_
        refine sq (fun h5 h5p h5s=>?_) fun h5 h5p h5s=>?_
        ·try simp only[Q,Pat.cs_len] at h5p
         refine rn [(9,some (.tok ((matchV n (nth p.kids 0) v).1.map Bd.c).length 4))] (r2 rfl rfl) (.tup (.cons (.gvg ?_) (.cons (.eqd ?_) .nil))) ⟨rfl,rfl⟩ (SubH.get ⟨(by rfl),trivial⟩) (boxOK rfl)
         all_goals (rfl)
        ·try simp only[Q,Pat.cs_len] at h5p
         exfalso;simp_all
       ·try simp only[Q,Pat.cs_len] at h4p
        exfalso;omega
   |false=>
    have e:=match_5b (n:=n) h5 hm0
    rw[e] at hm ⊢
    have hf0:=impl_match_fn n m k0
    rw[hm0] at hf0
    refine bd Tryz.f52 105 [] [] fun w0 F0 own kept hk=>?_
    refine Walk.box (id:=3002) .none rfl rfl rfl rfl rfl rfl rfl ?_
    refine Walk.box (id:=3003) .none rfl rfl rfl rfl rfl rfl rfl ?_
    refine ev ?_
    refine sq (fun h1 h1p h1s=>?_) fun h1 h1p h1s=>?_
    ·try simp only[Q,Pat.cs_len] at h1p
     exfalso;omega
    ·try simp only[Q,Pat.cs_len] at h1p
     refine sq (fun h2 h2p h2s=>?_) fun h2 h2p h2s=>?_
     ·try simp only[Q,Pat.cs_len] at h2p
      exfalso;omega
     ·try simp only[Q,Pat.cs_len] at h2p
      refine sq (fun h3 h3p h3s=>?_) fun h3 h3p h3s=>?_
      ·try simp only[Q,Pat.cs_len] at h3p
       exfalso;omega
      ·try simp only[Q,Pat.cs_len] at h3p
       refine sq (fun h4 h4p h4s=>?_) fun h4 h4p h4s=>?_
       ·try simp only[Q,Pat.cs_len] at h4p
        refine Walk.idx (i:=0) sl35 .none rfl rfl rfl rfl (pats_at (by omega)) rfl ?_
        refine evd [] [] ?_
        refine Walk.call (cr:=[]) cal52 (hf0) rfl .none rfl rfl (LeL.refl _) trivial rfl rfl rfl ?_
        refine evd [] [] ?_
        refine dr ?_
        refine sq (fun h5 h5p h5s=>?_) fun h5 h5p h5s=>?_
        ·try simp only[Q,Pat.cs_len] at h5p
         exfalso;simp_all
        ·try simp only[Q,Pat.cs_len] at h5p
         refine Walk.idx (i:=1) sl35 .none rfl rfl rfl rfl (pats_at (by omega)) rfl ?_
         refine evd [] [] ?_
         refine Walk.call (cr:=[9]) cal52 (impl_match_gv n m k1 hm) rfl .none rfl rfl (LeL.refl _) trivial rfl rfl rfl ?_
         refine evd [] [] ?_
         refine dr ?_
         refine rn [(9,some (.tok ((matchV n (nth p.kids 1) v).1.map Bd.c).length 4))] (r2 rfl rfl) (.tup (.cons (.gvg ?_) (.cons (.eqd ?_) .nil))) ⟨rfl,rfl⟩ (SubH.get ⟨(by rfl),trivial⟩) (boxOK rfl)
         all_goals (rfl)
       ·try simp only[Q,Pat.cs_len] at h4p
        exfalso;omega
  ·have hw:p.op=3→within v.num p.n p.m=true:=fun h3=>by rw[match_3 h3] at hm;exact hm
   have h6m:p.op=6→(matchV n (nth p.kids 0) v).2=true:=fun h6=>by rw[match_6 h6] at hm;exact hm
   refine bd Tryz.f52 105 [4] [] fun w0 F0 own kept hk=>?_
   refine Walk.box (id:=3002) .none rfl rfl rfl rfl rfl rfl rfl ?_
   refine Walk.box (id:=3003) .none rfl rfl rfl rfl rfl rfl rfl ?_
   refine asg ?_
   refine evs [4] [] ?_
   refine sq (fun h1 h1p h1s=>?_) fun h1 h1p h1s=>?_
   ·try simp only[Q,Pat.cs_len] at h1p
    refine Walk.assignNilV 9 4 .none rfl rfl ?_
    refine evs [4] [] ?_
    refine rn [(9,some (.tok ((matchV (n+1) p v).1.map Bd.c).length 4))] (r2 rfl rfl) (.tup (.cons (.gvg ?_) (.cons (.eqd ?_) .nil))) ⟨rfl,rfl⟩ (SubH.get ⟨(by(rw[match_1 (by omega)];all_goals rfl)),trivial⟩) (boxOK rfl)
    all_goals (first|rfl|(rw[match_1 (by omega)];all_goals rfl)|(rw[match_2 (by omega)];all_goals rfl)|(rw[match_3 (by omega)];all_goals first|rfl|(rw[hw (by omega)];done))|(rw[match_6 (by omega)];all_goals first|rfl|(rw[h6m (by omega)];done))|(rw[hw (by omega)];done)|(rw[h6m (by omega)];done))
   ·try simp only[Q,Pat.cs_len] at h1p
    refine sq (fun h2 h2p h2s=>?_) fun h2 h2p h2s=>?_
    ·try simp only[Q,Pat.cs_len] at h2p
     refine Walk.build st58 (ks:=[0,1]) (xs:=[_,_]) rfl rfl .none rfl rfl rfl ?_
     refine Walk.sliceLitGV 9 sl32 tz58 rfl (by decide) (ks:=[0]) (xs:=[_]) rfl rfl (by decide) (by decide) .none rfl rfl rfl rfl rfl ?_
     refine asg ?_
     refine evs [4] [] ?_
     refine rn [(9,some (.tok ((matchV (n+1) p v).1.map Bd.c).length 4))] (r2 rfl rfl) (.tup (.cons (.gvg ?_) (.cons (.eqd ?_) .nil))) ⟨rfl,rfl⟩ (SubH.get ⟨(by(rw[match_2 (by omega)];all_goals rfl)),trivial⟩) (boxOK rfl)
     all_goals (first|rfl|(rw[match_1 (by omega)];all_goals rfl)|(rw[match_2 (by omega)];all_goals rfl)|(rw[match_3 (by omega)];all_goals first|rfl|(rw[hw (by omega)];done))|(rw[match_6 (by omega)];all_goals first|rfl|(rw[h6m (by omega)];done))|(rw[hw (by omega)];done)|(rw[h6m (by omega)];done))
    ·try simp only[Q,Pat.cs_len] at h2p
     refine sq (fun h3 h3p h3s=>?_) fun h3 h3p h3s=>?_
     ·try simp only[Q,Pat.cs_len] at h3p
      refine Walk.call (cr:=[]) cal62 (impl_within_fn) rfl .none rfl rfl (LeL.refl _) trivial rfl rfl rfl ?_
      refine Walk.assignNilV 9 4 .none rfl rfl ?_
      refine evs [4] [] ?_
      refine rn [(9,some (.tok ((matchV (n+1) p v).1.map Bd.c).length 4))] (r2 rfl rfl) (.tup (.cons (.gvg ?_) (.cons (.eqd ?_) .nil))) ⟨rfl,rfl⟩ (SubH.get ⟨(by(rw[match_3 (by omega)];all_goals rfl)),trivial⟩) (boxOK rfl)
      all_goals (first|rfl|(rw[match_1 (by omega)];all_goals rfl)|(rw[match_2 (by omega)];all_goals rfl)|(rw[match_3 (by omega)];all_goals first|rfl|(rw[hw (by omega)];done))|(rw[match_6 (by omega)];all_goals first|rfl|(rw[h6m (by omega)];done))|(rw[hw (by omega)];done)|(rw[h6m (by omega)];done))
     ·try simp only[Q,Pat.cs_len] at h3p
      refine sq (fun h4 h4p h4s=>?_) fun h4 h4p h4s=>?_
      ·try simp only[Q,Pat.cs_len] at h4p
       exfalso;omega
      ·try simp only[Q,Pat.cs_len] at h4p
       refine sq (fun h5 h5p h5s=>?_) fun h5 h5p h5s=>?_
       ·try simp only[Q,Pat.cs_len] at h5p
        refine Walk.idx (i:=0) sl35 .none rfl rfl rfl rfl (pats_at (by have:=(k6 (by omega)).1;omega)) rfl ?_
        refine evd [4] [] ?_
        refine Walk.call (cr:=[]) cal52 (impl_match_fn n m (k6 (by omega)).2) rfl .none rfl rfl (LeL.refl _) trivial rfl rfl rfl ?_
        refine evd [4] [] ?_
        refine dr ?_
        refine Walk.build st58 (ks:=[0,1]) (xs:=[_,_]) rfl rfl .none rfl rfl rfl ?_
        refine Walk.sliceLitGV 9 sl32 tz58 rfl (by decide) (ks:=[0]) (xs:=[_]) rfl rfl (by decide) (by decide) .none rfl rfl rfl rfl rfl ?_
        refine evs [4] [] ?_
        refine Walk.appendV sl32 zz58 .none rfl rfl rfl rfl (htokL rfl (by first|rfl|(simp;done)|(simp;omega))) (by intro x hx;exact bd_rows _ x hx) (by have:=(mok (k6 (by omega)).2.shape h.vok).2;have:=pnth_size (l:=p.kids) (i:=0) (by have:=(k6 (by omega)).1;omega);simp;omega) (by have:=(mok (k6 (by omega)).2.shape h.vok).2;have:=pnth_size (l:=p.kids) (i:=0) (by have:=(k6 (by omega)).1;omega);simp;omega) ?_
        refine evs [4] [] ?_
        refine asg ?_
        refine evs [4] [] ?_
        refine rn [(9,some (.tok ((matchV (n+1) p v).1.map Bd.c).length 4))] (r2 rfl rfl) (.tup (.cons (.gvg ?_) (.cons (.eqd ?_) .nil))) ⟨rfl,rfl⟩ (SubH.get ⟨(by(rw[match_6 (by omega)];show some (Res.tok _ _)=some (Res.tok _ _);simp;omega)),trivial⟩) (boxOK rfl)
        all_goals (first|rfl|(rw[match_1 (by omega)];all_goals rfl)|(rw[match_2 (by omega)];all_goals rfl)|(rw[match_3 (by omega)];all_goals first|rfl|(rw[hw (by omega)];done))|(rw[match_6 (by omega)];all_goals first|rfl|(rw[h6m (by omega)];done))|(rw[hw (by omega)];done)|(rw[h6m (by omega)];done))
       ·try simp only[Q,Pat.cs_len] at h5p
        exfalso;omega
theorem chunk_bd' {n:Nat}{S:List Bd} (h:n=S.length):chunkD n 4 (bdC S)=some (S.map Bd.c):=by
 rw[h,←List.length_map (f:=Bd.c)];exact chunk_bd S
theorem idsD (l:List D):AV.idsL (l.map AV.d)=[]:=by
 induction l with
 |nil=>rfl
 |cons x r ih=>simpa [AV.idsL,AV.ids] using ih
theorem impl_matched_fn {w:List Data}{m:Nat}{t:Ty}{p:Pat}{v:Val} (h:MatchOk w 10 m t p v) (hp:isP w t p=true):
  FnD Tryz.prog 29 [.agg [.d (.i p.op),.d (.i p.ctor),.d (.i p.n),.d (.i p.m),.d (.i p.var),.d (encPats p.kids)],.agg [.d (.i v.ctor),.d (.i v.num),.d (encVals v.kids)]] [] (.tup [.d (encBds (matchedV 10 p v).1),.d (.bool (matchedV 10 p v).2)]) []:=by
 unfold matchedV
 cases hm:(matchV 10 p v).2 with
 |false=>
  have hf:=impl_match_fn 10 m h
  rw[hm] at hf
  rw[if_neg (by simp)]
  refine bd Tryz.f29 36 [] [] fun w0 F0 own kept hk=>?_
  refine Walk.box (id:=3002) .none rfl rfl rfl rfl rfl rfl rfl ?_
  refine Walk.box (id:=3003) .none rfl rfl rfl rfl rfl rfl rfl ?_
  refine ev ?_
  refine Walk.call (cr:=[]) cal52 (hf) rfl .none rfl rfl (LeL.refl _) trivial rfl rfl rfl ?_
  refine ev ?_
  refine sq (fun h1 h1p h1s=>?_) fun h1 h1p h1s=>?_
  ·try simp only[Q] at h1p
   refine rn0 (r2 rfl rfl) (.tup (.cons (.nild ?_) (.cons (.eqd ?_) .nil)))
   all_goals (rfl)
  ·try simp only[Q] at h1p
   exfalso;simp_all
 |true=>
  have hf:=impl_match_gv 10 m h hm
  have h6:=match_six h hp hm
  have hbo:=sortB_ok (matchV_ok 10 h.shape h.vok).1
  have hsl:=sortB_len (matchV 10 p v).1
  have hvs:=h.vsz
  rw[if_pos rfl]
  have hLm:∀L:List Bd,(L.map Bd.c).length=L.length:=fun L=>by simp
  have hLm:=hLm (matchV 10 p v).1
  have hso:sortL ((matchV 10 p v).1.length-1) 1 (matchV 10 p v).1=sortB (matchV 10 p v).1:=rfl
  generalize (matchV 10 p v).1=L at *
  generalize hS:sortB L=S at *
  have hrow:∀ {i:Nat},i<L.length→(nth S i).val.ok∧(nth S i).val.size≤v.size:=fun hi=>hbo _ (nth_mem (by omega))
  refine bd Tryz.f29 36 [26] [4,999999] fun w0 F0 own kept hk=>?_
  refine Walk.box (id:=3002) .none rfl rfl rfl (by rfl) (by rfl) (by rfl) (by rfl) ?_
  refine Walk.box (id:=3003) .none rfl rfl rfl (by rfl) (by rfl) (by rfl) (by rfl) ?_
  refine evs [26] [] ?_
  refine Walk.call (cr:=[9]) cal52 (hf) rfl .none rfl rfl (LeL.refl _) trivial rfl rfl rfl ?_
  refine evs [26] [] ?_
  refine sq (fun h1 h1p h1s=>?_) fun h1 h1p h1s=>?_
  ·try simp only[Q,List.length_map] at h1p
   exfalso;simp_all
  ·try simp only[Q,List.length_map] at h1p
   refine CWp.fixV hk 6 9 4 rfl rfl rfl (fun hx2=>?_) (fun hx2=>?_)
   ·
    refine evc [26] [] ?_
    refine Walk.call (cr:=[]) cal53 (slices_SortFunc_nil) rfl .none rfl rfl (LeL.refl _) trivial rfl (by rfl) (by rfl) ?_
    refine tv ?_
    refine CWp.loopX (ι:=Unit) hk (fun u=>[(22,.d (.i 0))]) [8,9,23,24,25,26,27,28,29,30,31,32,33,34] (fun u=>[]) (fun u=>True) (fun u=>0) () trivial ⟨⟨_,rfl,(LeA.eqi (by first|rfl|(simp;done)|(simp_all;done)|omega))⟩,trivial⟩ trivial (fun x=>rfl) (fun u hg1=>?_)
    refine evc [26] [4,999999] ?_
    refine sq (fun h3 h3p h3s=>?_) fun h3 h3p h3s=>?_
    ·try simp only[Q,List.length_map] at h3p
     exfalso;simp at h3
    ·try simp only[Q,List.length_map] at h3p
     refine CWp.ret ?_
     refine rn0 (r2 rfl rfl) (.tup (.cons (.eqd ?_) (.cons (.eqd ?_) .nil)))
     all_goals (first|rfl|(rw[show S=[] from List.eq_nil_of_length_eq_zero (by have hz:L.map Bd.c=[]:=(by assumption);have hz2:=congrArg List.length hz;simp only[List.length_nil] at hz2;omega)];rfl))
   ·
    refine evc [26] [] ?_
    refine Walk.call (cr:=[]) cal53 (slices_SortFunc_fn (L:=L) (by omega) cal54 (fun a b=>impl_matched_1_fn)) rfl .none rfl rfl (.cons (LeA.msn (by first|rfl|(simp[List.length_map];done))) (.cons (.refl _) .nil)) ⟨rfl,trivial⟩ rfl okCall_bd rfl ?_
    refine tv ?_
    refine CWp.loopX (ι:=Nat) hk (fun i=>[(22,.d (.i (i:Int)))]) [8,9,23,24,25,26,27,28,29,30,31,32,33,34] (fun i=>[(9,some (.box (bdC S)))]) (fun i=>i≤L.length) (fun i=>L.length-i) 0 (by omega) ⟨⟨_,rfl,(LeA.eqi (by first|rfl|(simp;done)|(simp_all;done)|omega))⟩,trivial⟩ ⟨(by(show some (Res.box _)=some (Res.box _);rw[hso])),trivial⟩ (fun x=>rfl) (fun i hg1=>?_)
    refine evc [26] [4,999999] ?_
    refine sq (fun h4 h4p h4s=>?_) fun h4 h4p h4s=>?_
    ·try simp only[Q,List.length_map] at h4p
     refine Walk.idxM sl32 .none rfl rfl rfl rfl (by omega) ?_
     refine Walk.loadBA ty58 .none rfl rfl rfl ((cut_bd (by omega))) ?_
     refine Walk.alloc (id:=3009) tz58 rfl .none rfl (by rfl) (by rfl) (by(simp only[freshB,occH,occE,Res.ids,List.cons_append,List.nil_append,AV.idsL,AV.ids,idsL_append,ownCells_ids,zerosA_idsR,repNil,List.map_cons,List.map_nil,upC,idsD,bdC_ids];rfl)) ?_
     refine evs [26] [] ?_
     refine Walk.store ty58 .none rfl rfl rfl rfl rfl rfl (by simp) rfl ?_
     refine tv ?_
     refine Walk.call (cr:=[]) cal56 (impl_ownValue_fn (nth S i).val.size (Nat.le_refl _) (hrow (by omega)).1) rfl .none rfl rfl (LeL.refl _) trivial rfl (by rfl) (by rfl) ?_
     refine Walk.idxM sl32 .none rfl rfl rfl rfl (by omega) ?_
     refine evs [26] [] ?_
     refine Walk.store ty29 .none rfl rfl rfl rfl rfl rfl (by simp) ((put_bv (by omega))) ?_
     refine tv ?_
     refine ar ?_
     refine Exists.intro (i+1) ⟨(by omega),(by omega),Sub.x (by kernel_rfl) (by kernel_rfl) ⟨⟨_,rfl,(LeA.eqi (by first|rfl|(simp;done)|(simp_all;done)|omega))⟩,trivial⟩ (by kernel_rfl) (by kernel_rfl) ⟨(by rfl),trivial⟩⟩
    ·try simp only[Q,List.length_map] at h4p
     refine CWp.frz hk 4 9 _ _ rfl rfl (chunk_bd' (by simp;omega)) rfl ?_
     refine CWp.ret ?_
     refine rn0 (r2 rfl rfl) (.tup (.cons (.eqd ?_) (.cons (.eqd ?_) .nil)))
     all_goals (rfl)
def matchPV (w:List Data) (a k:Int) (p:Pat) (v:Val):List Bd×Bool:=if patValid w a k p=true∧isV w ⟨a,k⟩ v=true then matchedV 10 p v else ([],false)
theorem match_ok {w:List Data}{a k:Int}{p:Pat}{v:Val} (h1:isP w ⟨a,k⟩ p=true) (h2:isV w ⟨a,k⟩ v=true) (hp:p.ok) (hv:v.ok):MatchOk w 10 10 ⟨a,k⟩ p v:=by
 unfold isP at h1
 unfold isV at h2
 simp only[Bool.and_eq_true,decide_eq_true_eq] at h1 h2
 exact⟨h1.1,h2.1,hp,hv,by omega,by omega⟩
theorem impl_MatchPattern_fn {w:List Data} (hs:WSmall w){a k:Int}{p:Pat}{v:Val} (hp:p.ok) (hv:v.ok):
  FnD Tryz.prog 12 [.d (encDatas w),.agg [.d (.i a),.d (.i k)],.agg [.d (.i p.op),.d (.i p.ctor),.d (.i p.n),.d (.i p.m),.d (.i p.var),.d (encPats p.kids)],.agg [.d (.i v.ctor),.d (.i v.num),.d (encVals v.kids)]] [] (.tup [.d (encBds (matchPV w a k p v).1),.d (.bool (matchPV w a k p v).2)]) []:=by
 have hpv:=impl_PatternValid_fn hs (a:=a) (k:=k) hp
 have pv:=pval hs (a:=a) (k:=k) (p:=p)
 have hpi:patValid w a k p=true→isP w ⟨a,k⟩ p=true:=fun h=>by unfold patValid at h;rw[Bool.and_eq_true] at h;exact h.2
 refine bd Tryz.f12 27 [] [] fun w0 F0 own kept hk=>?_
 refine Walk.box (id:=3005) .none rfl rfl rfl rfl rfl rfl rfl ?_
 refine Walk.box (id:=3006) .none rfl rfl rfl rfl rfl rfl rfl ?_
 refine Walk.box (id:=3007) .none rfl rfl rfl rfl rfl rfl rfl ?_
 refine ev ?_
 refine Walk.call (cr:=[]) cal28 (hpv) rfl .none rfl rfl (LeL.refl _) trivial rfl rfl rfl ?_
 refine ev ?_
 refine sq (fun h1 h1p h1s=>?_) fun h1 h1p h1s=>?_
 ·try simp only[Q] at h1p
  refine sqT ?_
  refine rn0 (r2 rfl rfl) (.tup (.cons (.nild ?_) (.cons (.eqd ?_) .nil)))
  all_goals (unfold matchPV;(rw[if_neg (by intro hh;simp_all)];all_goals rfl))
 ·try simp only[Q] at h1p
  refine Walk.call (cr:=[]) cal18 (impl_valueOk_fn (pv (by assumption)).dp.wt (pv (by assumption)).tin hv) rfl (.some rfl rfl h1) rfl rfl (LeL.refl _) trivial rfl rfl rfl ?_
  refine evs [] [(15,false)] ?_ ⟨⟨_,rfl,h1⟩,trivial⟩
  refine sq (fun h3 h3p h3s=>?_) fun h3 h3p h3s=>?_
  ·try simp only[Q] at h3p
   refine rn0 (r2 rfl rfl) (.tup (.cons (.nild ?_) (.cons (.eqd ?_) .nil)))
   all_goals (unfold matchPV;(rw[if_neg (by intro hh;simp_all)];all_goals rfl))
  ·try simp only[Q] at h3p
   refine Walk.call (cr:=[]) cal29 (impl_matched_fn (match_ok (hpi (by simp_all)) (by simp_all) hp hv) (hpi (by simp_all))) rfl .none rfl rfl (LeL.refl _) trivial rfl rfl rfl ?_
   refine ev ?_
   refine rn0 (r2 rfl rfl) (.tup (.cons (.eqd ?_) (.cons (.eqd ?_) .nil)))
   all_goals (unfold matchPV;(rw[if_pos ⟨by simp_all,by simp_all⟩];all_goals rfl))
inductive Ex where
 |mk (op n ctor:Int) (kids:List Ex)
 deriving Inhabited
mutual
def Ex.c:Ex→List D
 | .mk op n ctor kids=>[.i op,.i n,.i ctor,.sl (Ex.cs kids)]
def Ex.cs:List Ex→List (List D)
 | []=>[]
 |v::r=>v.c::Ex.cs r
end
abbrev encExs (l:List Ex):D:= .sl (Ex.cs l)
theorem Ex.cs_eq:∀l:List Ex,Ex.cs l=l.map Ex.c
 | []=>rfl
 |v::r=>by simp[Ex.cs,Ex.cs_eq r]
theorem Ex.cs_len (l:List Ex):(Ex.cs l).length=l.length:=by simp[Ex.cs_eq]
def Ex.op:Ex→Int | .mk a0 _ _ _=>a0
def Ex.n:Ex→Int | .mk _ a1 _ _=>a1
def Ex.ctor:Ex→Int | .mk _ _ a2 _=>a2
def Ex.kids:Ex→List Ex | .mk _ _ _ k=>k
abbrev Ex.cc (v:Ex):List D:=[.i v.op,.i v.n,.i v.ctor,.sl (Ex.cs v.kids)]
theorem Ex.c_eq (v:Ex):v.c=v.cc:=by cases v;rfl
theorem Ex.eta (v:Ex):Ex.mk v.op v.n v.ctor v.kids=v:=by cases v;rfl
theorem Ex.cs_at' {pre:List Ex}{x:Ex}{rest xs:List Ex} (h:pre++x::rest=xs):(Ex.cs xs)[pre.length]?=some x.cc:=by rw[Ex.cs_eq,←Ex.c_eq];exact zip_at h
mutual
def exEq:Ex→Ex→Bool
 | .mk a0 a1 a2 ks,.mk b0 b1 b2 ls=>decide (a0=b0)&&(decide (a1=b1)&&(decide (a2=b2)&&exsEq ks ls))
def exsEq:List Ex→List Ex→Bool
 | [],[]=>true
 |x::r,y::s=>exEq x y&&exsEq r s
 |_,_=>false
end
mutual
def Ex.ok:Ex→Prop
 | .mk _ _ _ ks=>ks.length≤1000000000000∧Exs.ok ks
def Exs.ok:List Ex→Prop
 | []=>True
 |v::r=>v.ok∧Exs.ok r
end
theorem Exs.ok_mem:∀ {l:List Ex},Exs.ok l→∀v,v∈l→v.ok
 |x::r,h,v,hv=>by
  simp only[Exs.ok] at h
  rcases List.mem_cons.1 hv with rfl|hv
  ·exact h.1
  ·exact Exs.ok_mem h.2 v hv
mutual
def Ex.size:Ex→Nat
 | .mk _ _ _ ks=>1+Exs.size ks
def Exs.size:List Ex→Nat
 | []=>0
 |v::r=>v.size+Exs.size r
end
theorem Exs.size_mem:∀ {l:List Ex}{v:Ex},v∈l→v.size≤Exs.size l
 |x::r,v,hv=>by
  simp only[Exs.size]
  rcases List.mem_cons.1 hv with rfl|hv
  ·omega
  ·have:=Exs.size_mem hv;omega
theorem Ex.ok_iff (v:Ex):v.ok↔v.kids.length≤1000000000000∧Exs.ok v.kids:=by cases v;rfl
theorem Ex.size_eq (v:Ex):v.size=1+Exs.size v.kids:=by cases v;rfl
mutual
theorem exEq_refl:∀v:Ex,exEq v v=true
 | .mk _ _ _ ks=>by simp[exEq,exsEq_refl ks]
theorem exsEq_refl:∀l:List Ex,exsEq l l=true
 | []=>rfl
 |v::r=>by simp[exsEq,exEq_refl v,exsEq_refl r]
end
theorem Ex.cs_cc (l:List Ex):Ex.cs l=l.map Ex.cc:=by
 rw[Ex.cs_eq];exact List.map_congr_left (fun v _=>Ex.c_eq v)
mutual
def mEx:Ex→Nat
 | .mk _ _ _ ks=>mExs ks
def mExs:List Ex→Nat
 | []=>0
 |v::r=>1+mEx v+mExs r
end
structure Gd where
 op:Int
 var:Int
 n:Int
 deriving Inhabited
structure Cl where
 pat:Pat
 g:Gd
 deriving Inhabited
structure Ft where
 arg:Ty
 res:Ty
 deriving Inhabited
structure Fu where
 ty:Ft
 cls:List Cl
 bodies:List Ex
 deriving Inhabited
abbrev Cl.c (x:Cl):List D:=[.i x.pat.op,.i x.pat.ctor,.i x.pat.n,.i x.pat.m,.i x.pat.var,.sl (Pat.cs x.pat.kids),.i x.g.op,.i x.g.var,.i x.g.n]
abbrev encCls (l:List Cl):D:= .sl (l.map Cl.c)
abbrev Ft.c (x:Ft):List D:=[.i x.arg.data,.i x.arg.index,.i x.res.data,.i x.res.index]
abbrev Fu.c (x:Fu):List D:=[.i x.ty.arg.data,.i x.ty.arg.index,.i x.ty.res.data,.i x.ty.res.index,encCls x.cls,encExs x.bodies]
def ClsOk (l:List Cl):Prop:=l.length≤1000000000000∧∀c∈l,c.pat.ok
mutual
def cntE (m:Int):Ex→Int
 | .mk _ _ _ ks=>cntEL m 1 ks
def cntEL (m n:Int):List Ex→Int
 | []=>n
 |k::r=>if n≤m then cntEL m (n+cntE (m-n) k) r else n
end
theorem cntEL_stop {m n:Int}{l:List Ex} (h:¬n≤m):cntEL m n l=n:=by cases l<;>simp[cntEL,h]
mutual
theorem cntE_le:∀(v:Ex) (m:Int),1≤cntE m v∧cntE m v≤v.size
 | .mk _ _ _ ks,m=>by
  have:=cntEL_le ks m 1 (by omega)
  simp only[cntE,Ex.size];push_cast;omega
theorem cntEL_le:∀(l:List Ex) (m n:Int),1≤n→1≤cntEL m n l∧cntEL m n l≤n+Exs.size l
 | [],m,n,h=>by simp[cntEL,Exs.size];omega
 |k::r,m,n,h=>by
  have h1:=cntE_le k (m-n)
  have h2:=cntEL_le r m (n+cntE (m-n) k) (by omega)
  simp only[cntEL,Exs.size]
  split
  ·push_cast;omega
  ·push_cast;omega
end
mutual
theorem cntE_iff:∀(v:Ex) (m:Int),(cntE m v≤m↔(v.size:Int)≤m)∧(cntE m v≤m→cntE m v=v.size)
 | .mk _ _ _ ks,m=>by
  have:=cntEL_iff ks m 1
  simp only[cntE,Ex.size];push_cast;exact this
theorem cntEL_iff:∀(l:List Ex) (m n:Int),(cntEL m n l≤m↔n+(Exs.size l:Int)≤m)∧(cntEL m n l≤m→cntEL m n l=n+Exs.size l)
 | [],m,n=>by simp[cntEL,Exs.size]
 |k::r,m,n=>by
  have h1:=cntE_iff k (m-n)
  have h2:=cntEL_iff r m (n+cntE (m-n) k)
  have h3:=cntEL_le r m (n+cntE (m-n) k)
  have h4:=cntE_le k (m-n)
  simp only[cntEL,Exs.size]
  push_cast
  by_cases hn:n≤m
  ·rw[if_pos hn]
   by_cases h5:cntE (m-n) k≤m-n
   ·have h6:=h1.2 h5
    rw[h6] at h2 ⊢
    constructor
    ·rw[h2.1];constructor<;>intro h<;>omega
    ·intro h;rw[h2.2 h];omega
   ·have h7:¬(k.size:Int)≤m-n:=fun h=>h5 (h1.1.2 h)
    have h8:¬n+cntE (m-n) k≤m:=by omega
    rw[cntEL_stop h8]
    constructor
    ·constructor<;>intro h<;>omega
    ·intro h;omega
  ·rw[if_neg hn]
   constructor
   ·constructor<;>intro h<;>omega
   ·intro h;omega
end
def TyOk (n:Nat) (t:Ty):Prop:=TyIn n t∧(t.data = -1→t.index=0)
def gdOk (g:Gd) (vars:List Vt):Bool:=if g.op=0 then decide (g.var=0∧g.n=0) else decide (1≤g.op∧g.op≤2∧0≤g.n∧g.n≤9)&&decide ((⟨g.var,⟨-1,0⟩⟩:Vt)∈vars)
def varsOf (w:List Data) (t:Ty) (p:Pat):List Vt:=someV (scanP w 10 t p 0).1
def clOk (w:List Data) (t:Ty) (c:Cl):Bool:=isP w t c.pat&&gdOk c.g (varsOf w t c.pat)
def clsValid (w:List Data) (t:Ty) (l:List Cl):Bool:=typeValid w t&&(decide ((l.length:Int)≤8)&& !l.any fun c=> !clOk w t c)
theorem slices_IndexFunc_Cl_fn {xs:List Cl}{f:Nat}{caps:List AV}{hp:Hp}{p:Cl→Bool} (hs:xs.length≤1000000000000) (hcal:Callee Tryz.prog f)
  (hf:∀t∈xs,FnD Tryz.prog f ([.agg [.d (.i t.pat.op),.d (.i t.pat.ctor),.d (.i t.pat.n),.d (.i t.pat.m),.d (.i t.pat.var),.d (encPats t.pat.kids),.d (.i t.g.op),.d (.i t.g.var),.d (.i t.g.n)]]++caps) hp (.d (.bool (p t))) []) (k1:subH hp hp) (k2:noTok hp=true) (k3:okCall hp [] (.d .nilp) []=true):
  FnD Tryz.prog 48 [.d (encCls xs),.fn f caps] hp (.d (.i (idxF p xs 0))) []:=by
 refine bd Tryz.f48 19 [] [] fun w0 F0 own kept hk=>?_
 refine CWp.loopX (ι:=List (Cl)×List (Cl)) hk (fun x=>[(8,.d (.i (x.1.length:Int)))]) [4,5,9,10,11,12,13,14,15,16,17,18] (fun x=>[]) (fun x=>x.1++x.2=xs∧idxF p x.2 x.1.length=idxF p xs 0) (fun x=>x.2.length) ([],xs) ⟨by simp,rfl⟩ ⟨⟨_,rfl,(LeA.eqi (by first|rfl|(simp;done)|(simp_all;done)|omega))⟩,trivial⟩ trivial (fun x=>boxIds_all hp) (fun x hg1=>?_)
 obtain⟨pre,rest⟩:=x
 dsimp only at hg1 ⊢
 refine evc [] [] ?_
 refine sq (fun h1 h1p h1s=>?_) fun h1 h1p h1s=>?_
 ·try simp only[Q] at h1p
  rcases rest with _|⟨y,rest⟩
  ·exfalso;simp_all
  refine Walk.idx sl26 .none rfl rfl rfl rfl (zip_at hg1.1) rfl ?_
  refine ev ?_
  refine Walk.callV (cr:=[]) hcal (hf y (by rw[←hg1.1];simp)) rfl .none rfl rfl rfl (LeL.refl _) k1 k2 (okCall_d k3 _) rfl ?_
  refine tv ?_
  refine sq (fun h2 h2p h2s=>?_) fun h2 h2p h2s=>?_
  ·try simp only[Q] at h2p
   refine rn [] (r1 rfl) (.eqd ?_) ⟨rfl,rfl⟩ (fun _ _ h=>h) (fun _ h=>h)
   all_goals (rw[←hg1.2];simp[idxF,h1s,h1p,h2s,h2p])
  ·try simp only[Q] at h2p
   refine ar ?_
   refine Exists.intro ((pre++[y],rest)) ⟨⟨(by have hz:=hg1.1;rw[←hz];simp),(by rw[←hg1.2];simp[idxF,h2s])⟩,(by simp),Sub.x (by kernel_rfl) (by kernel_rfl) ⟨⟨_,rfl,(LeA.eqi (by first|rfl|(simp;done)|(simp_all;done)|omega))⟩,trivial⟩ (by simp) (by simp[coverH]) trivial⟩
 ·try simp only[Q] at h1p
  have hrest:rest=[]:=by
   rcases rest with _|⟨a,b⟩
   ·rfl
   ·exfalso;have hz:=congrArg List.length (hg1.1);simp only[List.length_append,List.length_cons,List.length_map] at hz;omega
  subst hrest
  refine rn [] (r1 rfl) (.eqd ?_) ⟨rfl,rfl⟩ (fun _ _ h=>h) (fun _ h=>h)
  all_goals (rw[←hg1.2];simp[idxF,h1s,h1p])
theorem slices_ContainsFunc_Cl_fn {xs:List Cl}{f:Nat}{caps:List AV}{hp:Hp}{p:Cl→Bool} (hs:xs.length≤1000000000000) (hcal:Callee Tryz.prog f)
  (hf:∀t∈xs,FnD Tryz.prog f ([.agg [.d (.i t.pat.op),.d (.i t.pat.ctor),.d (.i t.pat.n),.d (.i t.pat.m),.d (.i t.pat.var),.d (encPats t.pat.kids),.d (.i t.g.op),.d (.i t.g.var),.d (.i t.g.n)]]++caps) hp (.d (.bool (p t))) []) (k1:subH hp hp) (k2:noTok hp=true) (k3:okCall hp [] (.d .nilp) []=true):
  FnD Tryz.prog 25 [.d (encCls xs),.fn f caps] hp (.d (.bool (xs.any p))) []:=by
 refine bd Tryz.f25 9 [] [] fun w0 F0 own kept hk=>?_
 refine Walk.call (cr:=[]) cal48 (slices_IndexFunc_Cl_fn hs hcal hf k1 k2 k3) rfl .none rfl rfl (LeL.refl _) k1 k2 (okCall_d k3 _) rfl ?_
 refine ev ?_
 refine rn [] (r1 rfl) (.eqd ?_) ⟨rfl,rfl⟩ (fun _ _ h=>h) (fun _ h=>h)
 all_goals (exact congrArg D.bool (idxF_any p xs 0))
theorem varsOf_len (w:List Data) (t:Ty) (p:Pat):(varsOf w t p).length≤6:=(someV_ok w 10 t p 0).2
theorem impl_guardOk_fn {g:Gd}{vars:List Vt} (hv:vars.length≤1000000000000):FnD Tryz.prog 50 [.agg [.d (.i g.op),.d (.i g.var),.d (.i g.n)],.d (encVts vars)] [] (.d (.bool (gdOk g vars))) []:=by
 refine bd Tryz.f50 27 [10] [] fun w0 F0 own kept hk=>?_
 refine Walk.box (id:=3002) .none rfl rfl rfl rfl rfl rfl rfl ?_
 refine evs [10] [] ?_
 refine sq (fun h1 h1p h1s=>?_) fun h1 h1p h1s=>?_
 ·try simp only[Q,within] at h1p
  refine Walk.build st39 (ks:=[]) (xs:=[]) rfl rfl .none rfl rfl rfl ?_
  refine Walk.eqV eq39 .none rfl rfl rfl rfl rfl ?_
  refine evs [10] [] ?_
  refine rn0 (r1 rfl) (.eqd ?_)
  all_goals (refine congrArg D.bool ?_;unfold gdOk;first|(rw[if_pos (by omega)];simp_all;done)|(rw[if_neg (by omega)];simp_all[within];done)|(rw[if_neg (by omega),decide_eq_false (by omega),Bool.false_and];done)|(rw[if_neg (by omega),decide_eq_true (by omega),Bool.true_and];done)|(rw[if_neg (by omega)];simp_all[within];omega))
 ·try simp only[Q,within] at h1p
  refine Walk.call (cr:=[]) cal62 (impl_within_fn) rfl .none rfl rfl (LeL.refl _) trivial rfl rfl rfl ?_
  refine evs [10] [] ?_
  refine sq (fun h2 h2p h2s=>?_) fun h2 h2p h2s=>?_
  ·try simp only[Q,within] at h2p
   refine Walk.call (cr:=[]) cal62 (impl_within_fn) rfl (.some rfl rfl h2) rfl rfl (LeL.refl _) trivial rfl rfl rfl ?_
   refine evs [10] [(14,true)] ?_ ⟨⟨_,rfl,h2⟩,trivial⟩
   refine sq (fun h3 h3p h3s=>?_) fun h3 h3p h3s=>?_
   ·try simp only[Q,within] at h3p
    refine Walk.build st25 (ks:=[0]) (xs:=[_]) rfl rfl (.some rfl rfl h3) rfl rfl rfl ?_
    refine Walk.build st115 (ks:=[0,1]) (xs:=[_,_]) rfl rfl (.some rfl rfl h3) rfl rfl rfl ?_
    refine Walk.call (cr:=[]) cal77 (slices_Contains_Vt_fn (v:=⟨g.var,⟨-1,0⟩⟩) hv) rfl (.some rfl rfl h3) rfl rfl (LeL.refl _) trivial rfl rfl rfl ?_
    refine evs [10] [(19,true)] ?_ ⟨⟨_,rfl,h3⟩,trivial⟩
    refine rn0 (r1 rfl) (.eqd ?_)
    all_goals (refine congrArg D.bool ?_;unfold gdOk;first|(rw[if_pos (by omega)];simp_all;done)|(rw[if_neg (by omega)];simp_all[within];done)|(rw[if_neg (by omega),decide_eq_false (by omega),Bool.false_and];done)|(rw[if_neg (by omega),decide_eq_true (by omega),Bool.true_and];done)|(rw[if_neg (by omega)];simp_all[within];omega))
   ·try simp only[Q,within] at h3p
    refine rn0 (r1 rfl) (.eqd ?_)
    all_goals (refine congrArg D.bool ?_;unfold gdOk;first|(rw[if_pos (by omega)];simp_all;done)|(rw[if_neg (by omega)];simp_all[within];done)|(rw[if_neg (by omega),decide_eq_false (by omega),Bool.false_and];done)|(rw[if_neg (by omega),decide_eq_true (by omega),Bool.true_and];done)|(rw[if_neg (by omega)];simp_all[within];omega))
  ·try simp only[Q,within] at h2p
   refine sqF ?_
   refine rn0 (r1 rfl) (.eqd ?_)
   all_goals (refine congrArg D.bool ?_;unfold gdOk;first|(rw[if_pos (by omega)];simp_all;done)|(rw[if_neg (by omega)];simp_all[within];done)|(rw[if_neg (by omega),decide_eq_false (by omega),Bool.false_and];done)|(rw[if_neg (by omega),decide_eq_true (by omega),Bool.true_and];done)|(rw[if_neg (by omega)];simp_all[within];omega))
theorem impl_clauseOk_fn {w:List Data} (hw:WT w){t:Ty}{c:Cl} (ht:TyIn w.length t) (hok:c.pat.ok):
  FnD Tryz.prog 27 [.d (encDatas w),.agg [.d (.i t.data),.d (.i t.index)],.agg [.d (.i c.pat.op),.d (.i c.pat.ctor),.d (.i c.pat.n),.d (.i c.pat.m),.d (.i c.pat.var),.d (encPats c.pat.kids),.d (.i c.g.op),.d (.i c.g.var),.d (.i c.g.n)]] [] (.d (.bool (clOk w t c))) []:=by
 have ht':TyIn w.length ⟨t.data,t.index⟩:=ht
 have hvl:=varsOf_len w t c.pat
 refine bd Tryz.f27 24 [] [] fun w0 F0 own kept hk=>?_
 refine Walk.box (id:=3004) .none rfl rfl rfl rfl rfl rfl rfl ?_
 refine Walk.box (id:=3005) .none rfl rfl rfl rfl rfl rfl rfl ?_
 refine ev ?_
 refine Walk.call (cr:=[]) cal49 (impl_patternVars_fn hw ht' hok) rfl .none rfl rfl (LeL.refl _) trivial rfl rfl rfl ?_
 refine ev ?_
 refine sq (fun h1 h1p h1s=>?_) fun h1 h1p h1s=>?_
 ·try simp only[Q] at h1p
  refine Walk.call (cr:=[]) cal50 (impl_guardOk_fn (g:=c.g) (vars:=varsOf w t c.pat) (by omega)) rfl (.some rfl rfl h1) rfl rfl (LeL.refl _) trivial rfl rfl rfl ?_
  refine evs [] [(18,true)] ?_ ⟨⟨_,rfl,h1⟩,trivial⟩
  refine rn0 (r1 rfl) (.eqd ?_)
  all_goals (refine congrArg D.bool ?_;unfold clOk;have hte:(⟨t.data,t.index⟩:Ty)=t:=rfl;first|(simp_all;done)|(rw[hte] at *;simp_all;done))
 ·try simp only[Q] at h1p
  refine rn0 (r1 rfl) (.eqd ?_)
  all_goals (refine congrArg D.bool ?_;unfold clOk;have hte:(⟨t.data,t.index⟩:Ty)=t:=rfl;first|(simp_all;done)|(rw[hte] at *;simp_all;done))
theorem impl_ClausesValid_1_fn {w:List Data} (hw:WT w){a k:Int}{c:Cl} (ht:TyIn w.length ⟨a,k⟩) (hok:c.pat.ok):
  FnD Tryz.prog 26 [.agg [.d (.i c.pat.op),.d (.i c.pat.ctor),.d (.i c.pat.n),.d (.i c.pat.m),.d (.i c.pat.var),.d (encPats c.pat.kids),.d (.i c.g.op),.d (.i c.g.var),.d (.i c.g.n)],.ref 3003 0,.ref 3004 0] [(3003,some (.box [.d (encDatas w)])),(3004,some (.box [.d (.i a),.d (.i k)]))] (.d (.bool (!clOk w ⟨a,k⟩ c))) []:=by
 refine bd Tryz.f26 10 [] [] fun w0 F0 own kept hk=>?_
 refine Walk.box (id:=3901) .none rfl rfl rfl rfl rfl rfl rfl ?_
 refine ev ?_
 refine Walk.call (cr:=[]) cal27 (impl_clauseOk_fn (t:=⟨a,k⟩) (c:=c) hw ht hok) rfl .none rfl rfl (LeL.refl _) trivial rfl rfl rfl ?_
 refine ev ?_
 refine rn [] (r1 rfl) (.eqd ?_) ⟨rfl,rfl⟩ (SubH.get ⟨rfl,⟨rfl,trivial⟩⟩) (fun _ h=>h)
 all_goals (rfl)
theorem impl_ClausesValid_fn {w:List Data} (hs:WSmall w){a k:Int}{l:List Cl} (hl:ClsOk l):
  FnD Tryz.prog 11 [.d (encDatas w),.agg [.d (.i a),.d (.i k)],.d (encCls l)] [] (.d (.bool (clsValid w ⟨a,k⟩ l))) []:=by
 have hll:=hl.1
 refine bd Tryz.f11 21 [] [] fun w0 F0 own kept hk=>?_
 refine Walk.box (id:=3003) .none rfl rfl rfl rfl rfl rfl rfl ?_
 refine Walk.box (id:=3004) .none rfl rfl rfl rfl rfl rfl rfl ?_
 refine ev ?_
 refine Walk.call (cr:=[]) cal24 (impl_TypeValid_fn hs) rfl .none rfl rfl (LeL.refl _) trivial rfl rfl rfl ?_
 refine ev ?_
 refine sq (fun h1 h1p h1s=>?_) fun h1 h1p h1s=>?_
 ·try simp only[Q] at h1p
  refine sq (fun h2 h2p h2s=>?_) fun h2 h2p h2s=>?_
  ·try simp only[Q] at h2p
   refine Walk.closure (xs:=[_,_]) rfl (.some rfl rfl h2) rfl rfl ?_
   refine Walk.call (cr:=[]) cal25 (slices_ContainsFunc_Cl_fn (p:=fun c=> !clOk w ⟨a,k⟩ c) hl.1 cal26 (fun t htm=>impl_ClausesValid_1_fn (valid_wt hs (tv_facts (by assumption)).1) (tv_facts (by assumption)).2.1 (hl.2 t htm)) ⟨rfl,rfl,trivial⟩ rfl rfl) rfl (.some rfl rfl h2) rfl rfl (LeL.refl _) ⟨rfl,rfl,trivial⟩ rfl rfl rfl ?_
   refine evs [] [(15,true)] ?_ ⟨⟨_,rfl,h2⟩,trivial⟩
   refine rn0 (r1 rfl) (.eqd ?_)
   all_goals (refine congrArg D.bool ?_;unfold clsValid;first|(simp_all;done)|(simp_all;omega))
  ·try simp only[Q] at h2p
   refine rn0 (r1 rfl) (.eqd ?_)
   all_goals (refine congrArg D.bool ?_;unfold clsValid;first|(simp_all;done)|(simp_all;omega))
 ·try simp only[Q] at h1p
  refine sqF ?_
  refine rn0 (r1 rfl) (.eqd ?_)
  all_goals (refine congrArg D.bool ?_;unfold clsValid;first|(simp_all;done)|(simp_all;omega))
def AZ (w:List Data):Prop:=∀t c,c∈vctors w t→TyIn w.length t→∀u∈argsOf w t c,u.data = -1→u.index=0
theorem valid_az {w:List Data} (hv:worldValid w=true):AZ w:=by
 have hW:=(worldValid_iff w).1 hv
 rintro ⟨a,k⟩ c hc ht u hu hd
 obtain⟨d,rfl,h1,j,rfl,h3⟩:=vctors_data ht hc
 have hco:=hW.ctor _ (nth_mem h1) _ (nth_mem h3)
 simp only[ctorOk,Bool.and_eq_true,decide_eq_true_eq,Bool.not_eq_true',List.any_eq_false,Bool.not_eq_false'] at hco
 have hall:=hco.2.2.2
 simp only[argsOf,Int.toNat_natCast] at hu
 obtain⟨x,hx,rfl⟩:=List.mem_map.1 hu
 have hxo:=hall x hx
 simp only[argOk,within,Bool.or_eq_true,Bool.and_eq_true,decide_eq_true_eq,and_true,Bool.not_eq_true',Bool.not_eq_false] at hxo
 unfold argTy at hd ⊢
 split at hd
 ·rename_i hi
  rw[if_pos hi]
  dsimp only at hd ⊢
  omega
 ·rename_i hi
  rw[if_neg hi]
  omega
theorem typeOk_ok {n:Nat}{t:Ty} (h:typeOk n t=true):TyOk n t:=by
 refine⟨typeOk_in h,fun hd=>?_⟩
 simp only[typeOk,within,Bool.or_eq_true,Bool.and_eq_true,decide_eq_true_eq,and_true] at h
 omega
theorem varsOf_eq {w:List Data}{t:Ty}{p:Pat} (h:isP w t p=true):varsOf w t p=varsP w 10 t p:=by
 unfold isP at h
 simp only[Bool.and_eq_true,decide_eq_true_eq] at h
 have e:=(scanP_eq w 10 t p 0).1
 have hw:wantP w 10 t p 0=true:=by
  unfold wantP;rw[h.1,h.2.2,decide_eq_true (by omega)];rfl
 rw[if_pos hw] at e
 unfold varsOf;rw[e];rfl
theorem varsP_nod {w:List Data}{t:Ty}{p:Pat} (h:isP w t p=true):nodupV (varsP w 10 t p)=true:=by
 unfold isP at h
 simp only[Bool.and_eq_true] at h
 exact lin_nodup w 10 t p h.1 h.2.2
theorem varsP_ok {w:List Data} (hw:WT w) (haz:AZ w):∀(n:Nat){t:Ty}{p:Pat},shapeP w n t p=true→TyOk w.length t→∀v∈varsP w n t p,TyOk w.length v.ty
 |0,t,p,h,_=>by simp[shapeP] at h
 |n+1,t,p,h,ht=>by
  obtain⟨ho,hlen⟩:=shapeP_own h
  intro v hv
  have hto:∀u∈typesP w t p,TyOk w.length u:=fun u hu=>by
   refine⟨typesP_in (a:=t.data) (k:=t.index) hw ht.1 ho u hu,fun hd=>?_⟩
   unfold typesP at hu
   split at hu
   ·rename_i h4;exact haz t p.ctor (ownP_mem ho h4) ht.1 u hu hd
   ·split at hu
    ·simp only[List.mem_cons,List.not_mem_nil,or_false,or_self] at hu
     rw[hu] at hd ⊢;exact ht.2 hd
    ·split at hu
     ·simp only[List.mem_cons,List.not_mem_nil,or_false] at hu
      rw[hu] at hd ⊢;exact ht.2 hd
     ·simp at hu
  simp only[varsP,List.mem_append] at hv
  rcases hv with hv|hv
  ·unfold nameP at hv
   split at hv
   ·simp only[List.mem_cons,List.not_mem_nil,or_false] at hv
    rw[hv];exact ht
   ·simp at hv
  ·have key:∀(a:List Ty) (b:List Pat),(∀i,i<a.length→i<b.length→∀v∈varsP w n (nth a i) (nth b i),TyOk w.length v.ty)→∀v∈varsL (varsP w n) a b,TyOk w.length v.ty:=by
    intro a
    induction a with
    |nil=>intro b _ v hv;simp[varsL] at hv
    |cons x r ih=>
     intro b h v hv
     cases b with
     |nil=>simp[varsL] at hv
     |cons y s=>
      simp only[varsL,List.mem_append] at hv
      rcases hv with hv|hv
      ·exact h 0 (by simp) (by simp) v hv
      ·exact ih s (fun i h1 h2=>h (i+1) (by simpa using h1) (by simpa using h2)) v hv
   refine key (vtypes w t p) p.kids (fun i h1 h2=>?_) v hv
   have hvt:i<(typesP w t p).length∧nth (vtypes w t p) i=nth (typesP w t p) i:=by
    unfold vtypes at h1 ⊢
    split at h1
    ·rename_i h5
     rw[if_pos h5]
     rw[List.length_take] at h1
     refine⟨by omega, ?_⟩
     have:i=0:=by omega
     subst this
     cases hT:typesP w t p with
     |nil=>rfl
     |cons a b=>rfl
    ·rename_i h5
     rw[if_neg h5];exact⟨h1,rfl⟩
   rw[hvt.2]
   exact varsP_ok hw haz n (shapeP_kid h (by omega)) (hto _ (nth_mem hvt.1))
def gdS (g:Gd) (vars:List Vt):Bool:=if g.op=0 then decide (g.var=0∧g.n=0) else decide (1≤g.op∧g.op≤2∧0≤g.n∧g.n≤9)&&(decide (0≤findV vars g.var)&&decide ((nth vars (findV vars g.var).toNat).ty.data = -1))
theorem gdS_eq {n:Nat}{g:Gd}{vars:List Vt} (hn:nodupV vars=true) (hv:∀v∈vars,TyOk n v.ty):gdS g vars=gdOk g vars:=by
 unfold gdS gdOk
 split
 ·rfl
 ·congr 1
  have hnod:=of_decide_eq_true hn
  rw[Bool.eq_iff_iff]
  simp only[Bool.and_eq_true,decide_eq_true_eq]
  constructor
  ·rintro ⟨h1,h2⟩
   rcases findV_spec vars g.var with ⟨h3,_⟩|⟨k,h3,h4,h5,_⟩
   ·omega
   ·rw[h3] at h2
    simp only[Int.toNat_natCast] at h2
    have hm:=nth_mem h4
    have ho:=(hv _ hm).2 h2
    have:nth vars k=⟨g.var,⟨-1,0⟩⟩:=by
     generalize nth vars k=z at *
     obtain⟨zv,⟨za,zk⟩⟩:=z
     dsimp only at h5 h2 ho
     rw[h5,h2,ho]
    rw[←this];exact hm
  ·intro hm
   rcases findV_spec vars g.var with ⟨_,h4⟩|⟨k,h3,h4,h5,_⟩
   ·exact absurd rfl (h4 _ hm)
   ·refine⟨by omega, ?_⟩
    rw[h3]
    simp only[Int.toNat_natCast]
    obtain⟨j,hj,e⟩:=List.getElem_of_mem hm
    have ej:nth vars j=⟨g.var,⟨-1,0⟩⟩:=by simp[nth,List.getD,hj,e]
    have:k=j:=nodup_nth hnod h4 hj (by rw[h5,ej])
    rw[this,ej]
theorem spec_l4Guard_fn {g:Gd}{vars:List Vt} (hv:vars.length≤1000000000000):FnD Tryz.prog 69 [.agg [.d (.i g.op),.d (.i g.var),.d (.i g.n)],.d (encVts vars)] [] (.d (.bool (gdS g vars))) []:=by
 have hlt:=fun h=>findV_lt (l:=vars) (n:=g.var) h
 refine bd Tryz.f69 50 [] [3] fun w0 F0 own kept hk=>?_
 refine Walk.box (id:=3002) .none rfl rfl rfl rfl rfl rfl rfl ?_
 refine ev ?_
 refine sq (fun h1 h1p h1s=>?_) fun h1 h1p h1s=>?_
 ·try simp only[Q] at h1p
  refine sq (fun h2 h2p h2s=>?_) fun h2 h2p h2s=>?_
  ·try simp only[Q] at h2p
   refine rn0 (r1 rfl) (.eqd ?_)
   all_goals (refine congrArg D.bool ?_;unfold gdS;first|(rw[if_pos (by omega)];simp_all;done)|(rw[if_neg (by omega),decide_eq_false (by omega),Bool.false_and];done)|(rw[if_neg (by omega),decide_eq_true (by omega),Bool.true_and];simp_all;done)|(rw[if_neg (by omega),decide_eq_true (by omega),Bool.true_and,decide_eq_false (by omega),Bool.false_and];done)|(rw[if_neg (by omega)];simp_all;done))
  ·try simp only[Q] at h2p
   refine rn0 (r1 rfl) (.eqd ?_)
   all_goals (refine congrArg D.bool ?_;unfold gdS;first|(rw[if_pos (by omega)];simp_all;done)|(rw[if_neg (by omega),decide_eq_false (by omega),Bool.false_and];done)|(rw[if_neg (by omega),decide_eq_true (by omega),Bool.true_and];simp_all;done)|(rw[if_neg (by omega),decide_eq_true (by omega),Bool.true_and,decide_eq_false (by omega),Bool.false_and];done)|(rw[if_neg (by omega)];simp_all;done))
 ·try simp only[Q] at h1p
  refine CWp.regionJ ?_
  refine WRest.join 18 [(34,.d (.bool (decide (¬(1≤g.op∧g.op≤2∧0≤g.n∧g.n≤9)))))] [17,18,19,20,21,22,23,24,25,26,27,28,29,30,31,32,33] ?_ ?_
  ·
   refine ev ?_
   refine sq (fun h3 h3p h3s=>?_) fun h3 h3p h3s=>?_
   ·try simp only[Q] at h3p
    refine sq (fun h4 h4p h4s=>?_) fun h4 h4p h4s=>?_
    ·try simp only[Q] at h4p
     refine sqT ?_
     exact jn rfl (LeA.eqb (by(first|rfl|(rw[Bool.eq_iff_iff];simp_all;done)|(rw[Bool.eq_iff_iff];simp_all;omega))))
    ·try simp only[Q] at h4p
     refine sq (fun h5 h5p h5s=>?_) fun h5 h5p h5s=>?_
     ·try simp only[Q] at h5p
      exact jn rfl (LeA.eqb (by(first|rfl|(rw[Bool.eq_iff_iff];simp_all;done)|(rw[Bool.eq_iff_iff];simp_all;omega))))
     ·try simp only[Q] at h5p
      exact jn rfl (LeA.eqb (by(first|rfl|(rw[Bool.eq_iff_iff];simp_all;done)|(rw[Bool.eq_iff_iff];simp_all;omega))))
   ·try simp only[Q] at h3p
    refine sqF ?_
    refine sq (fun h6 h6p h6s=>?_) fun h6 h6p h6s=>?_
    ·try simp only[Q] at h6p
     exact jn rfl (LeA.eqb (by(first|rfl|(rw[Bool.eq_iff_iff];simp_all;done)|(rw[Bool.eq_iff_iff];simp_all;omega))))
    ·try simp only[Q] at h6p
     exact jn rfl (LeA.eqb (by(first|rfl|(rw[Bool.eq_iff_iff];simp_all;done)|(rw[Bool.eq_iff_iff];simp_all;omega))))
  refine WRest.done ?_
  refine tv ?_
  refine sq (fun h7 h7p h7s=>?_) fun h7 h7p h7s=>?_
  ·try simp only[Q] at h7p
   refine rn0 (r1 rfl) (.eqd ?_)
   all_goals (refine congrArg D.bool ?_;unfold gdS;first|(rw[if_pos (by omega)];simp_all;done)|(rw[if_neg (by omega),decide_eq_false (by omega),Bool.false_and];done)|(rw[if_neg (by omega),decide_eq_true (by omega),Bool.true_and];simp_all;done)|(rw[if_neg (by omega),decide_eq_true (by omega),Bool.true_and,decide_eq_false (by omega),Bool.false_and];done)|(rw[if_neg (by omega)];simp_all;done))
  ·try simp only[Q] at h7p
   refine Walk.call (cr:=[]) cal94 (spec_l3Find_fn hv) rfl .none rfl rfl (LeL.refl _) trivial rfl rfl rfl ?_
   refine ev ?_
   refine sq (fun h8 h8p h8s=>?_) fun h8 h8p h8s=>?_
   ·try simp only[Q] at h8p
    refine Walk.idx (i:=(findV vars g.var).toNat) sl86 (.some rfl rfl h8) rfl rfl rfl (by have:=hlt (by omega);omega) (at_nth (by have:=hlt (by omega);omega)) rfl ?_
    refine evs [] [(41,true)] ?_ ⟨⟨_,rfl,h8⟩,trivial⟩
    refine rn0 (r1 rfl) (.eqd ?_)
    all_goals (refine congrArg D.bool ?_;unfold gdS;first|(rw[if_pos (by omega)];simp_all;done)|(rw[if_neg (by omega),decide_eq_false (by omega),Bool.false_and];done)|(rw[if_neg (by omega),decide_eq_true (by omega),Bool.true_and];simp_all;done)|(rw[if_neg (by omega),decide_eq_true (by omega),Bool.true_and,decide_eq_false (by omega),Bool.false_and];done)|(rw[if_neg (by omega)];simp_all;done))
   ·try simp only[Q] at h8p
    refine rn0 (r1 rfl) (.eqd ?_)
    all_goals (refine congrArg D.bool ?_;unfold gdS;first|(rw[if_pos (by omega)];simp_all;done)|(rw[if_neg (by omega),decide_eq_false (by omega),Bool.false_and];done)|(rw[if_neg (by omega),decide_eq_true (by omega),Bool.true_and];simp_all;done)|(rw[if_neg (by omega),decide_eq_true (by omega),Bool.true_and,decide_eq_false (by omega),Bool.false_and];done)|(rw[if_neg (by omega)];simp_all;done))
theorem spec_l4Is_fn {w:List Data} (hw:WT w) (haz:AZ w){t:Ty}{c:Cl} (ht:TyOk w.length t) (hok:c.pat.ok) (hsz:c.pat.size≤1000000000000):
  FnD Tryz.prog 39 [.d (encDatas w),.agg [.d (.i t.data),.d (.i t.index)],.agg [.d (.i c.pat.op),.d (.i c.pat.ctor),.d (.i c.pat.n),.d (.i c.pat.m),.d (.i c.pat.var),.d (encPats c.pat.kids),.d (.i c.g.op),.d (.i c.g.var),.d (.i c.g.n)]] [] (.d (.bool (clOk w t c))) []:=by
 have ht':TyIn w.length ⟨t.data,t.index⟩:=ht.1
 have hcl:clOk w t c=(isP w t c.pat&&gdOk c.g (varsOf w t c.pat)):=rfl
 cases hp:isP w t c.pat with
 |false=>
  have hpi:=spec_l3Is_fn hw ht' hok hsz
  have hpi':FnD Tryz.prog 68 [.d (encDatas w),.agg [.d (.i t.data),.d (.i t.index)],.agg [.d (.i c.pat.op),.d (.i c.pat.ctor),.d (.i c.pat.n),.d (.i c.pat.m),.d (.i c.pat.var),.d (encPats c.pat.kids)]] [] (.d (.bool false)) []:=by rw[←hp];exact hpi
  rw[hcl,hp,Bool.false_and]
  refine bd Tryz.f39 22 [] [] fun w0 F0 own kept hk=>?_
  refine Walk.box (id:=3004) .none rfl rfl rfl rfl rfl rfl rfl ?_
  refine Walk.box (id:=3005) .none rfl rfl rfl rfl rfl rfl rfl ?_
  refine ev ?_
  refine Walk.call (cr:=[]) cal68 (hpi') rfl .none rfl rfl (LeL.refl _) trivial rfl rfl rfl ?_
  refine evd [] [] ?_
  refine sq (fun h1 h1p h1s=>?_) fun h1 h1p h1s=>?_
  ·try simp only[Q] at h1p
   exfalso;contradiction
  ·try simp only[Q] at h1p
   refine dr ?_
   refine rn0 (r1 rfl) (.eqd ?_)
   all_goals (rfl)
 |true=>
  have hpi:=spec_l3Is_fn hw ht' hok hsz
  have hpi':FnD Tryz.prog 68 [.d (encDatas w),.agg [.d (.i t.data),.d (.i t.index)],.agg [.d (.i c.pat.op),.d (.i c.pat.ctor),.d (.i c.pat.n),.d (.i c.pat.m),.d (.i c.pat.var),.d (encPats c.pat.kids)]] [] (.d (.bool true)) []:=by rw[←hp];exact hpi
  have hsh:shapeP w 10 ⟨t.data,t.index⟩ c.pat=true:=by
   have:=hp;unfold isP at this;simp only[Bool.and_eq_true] at this;exact this.1
  have hvl:=varsP_len w 10 ⟨t.data,t.index⟩ c.pat
  have hge:=gdS_eq (g:=c.g) (varsP_nod hp) (varsP_ok hw haz 10 hsh ht)
  have hge':gdS c.g (varsP w 10 ⟨t.data,t.index⟩ c.pat)=gdOk c.g (varsOf w t c.pat):=by rw[varsOf_eq hp];exact hge
  rw[hcl,hp,Bool.true_and,←hge']
  refine bd Tryz.f39 22 [] [] fun w0 F0 own kept hk=>?_
  refine Walk.box (id:=3004) .none rfl rfl rfl rfl rfl rfl rfl ?_
  refine Walk.box (id:=3005) .none rfl rfl rfl rfl rfl rfl rfl ?_
  refine ev ?_
  refine Walk.call (cr:=[]) cal68 (hpi') rfl .none rfl rfl (LeL.refl _) trivial rfl rfl rfl ?_
  refine evd [] [] ?_
  refine sq (fun h1 h1p h1s=>?_) fun h1 h1p h1s=>?_
  ·try simp only[Q] at h1p
   refine Walk.call (cr:=[]) cal70 (spec_l3Vars_nil hw hsh (by omega) ht' hok hsz) rfl (.some rfl rfl h1) rfl rfl (LeL.refl _) trivial rfl rfl rfl ?_
   refine Walk.call (cr:=[]) cal69 (spec_l4Guard_fn (g:=c.g) (by omega)) rfl (.some rfl rfl h1) rfl rfl (LeL.refl _) trivial rfl rfl rfl ?_
   refine evd [] [(12,true)] ?_ ⟨⟨_,rfl,h1⟩,trivial⟩
   refine dr ?_
   refine rn0 (r1 rfl) (.eqd ?_)
   all_goals (rfl)
  ·try simp only[Q] at h1p
   exfalso;contradiction
def ClsSz (l:List Cl):Prop:=∀c∈l,c.pat.size≤1000000000000
theorem tv_ok {w:List Data}{t:Ty} (h:typeValid w t=true):TyOk w.length t:=by
 unfold typeValid at h;rw[Bool.and_eq_true] at h;exact typeOk_ok h.2
theorem cls_at {w:List Data}{t:Ty}{l:List Cl}{i:Nat} (hi:i<l.length) (h:clOk w t (nth l i)=false):clsValid w t l=false:=by
 unfold clsValid
 have:l.any (fun c=> !clOk w t c)=true:=List.any_eq_true.2 ⟨nth l i,nth_mem hi,by rw[h];rfl⟩
 rw[this];simp
theorem cls_all {w:List Data}{t:Ty}{l:List Cl} (ht:typeValid w t=true) (hl:l.length≤8) (h:∀i,i<l.length→clOk w t (nth l i)=true):clsValid w t l=true:=by
 unfold clsValid
 rw[ht,decide_eq_true (by omega),Bool.true_and,Bool.true_and,Bool.not_eq_true',List.any_eq_false]
 intro c hc
 obtain⟨i,hi,rfl⟩:=List.getElem_of_mem hc
 have:=h i hi
 simp only[nth,List.getD,List.getElem?_eq_getElem hi,Option.getD_some] at this
 simp[this]
theorem cls_len {w:List Data}{t:Ty}{l:List Cl} (h:8<l.length):clsValid w t l=false:=by
 unfold clsValid;rw[decide_eq_false (by omega),Bool.false_and,Bool.and_false]
theorem cls_tv {w:List Data}{t:Ty}{l:List Cl} (h:typeValid w t=false):clsValid w t l=false:=by
 unfold clsValid;rw[h,Bool.false_and]
theorem spec_ClausesValid_fn {w:List Data} (hs:WSmall w){a k:Int}{l:List Cl} (hl:ClsOk l) (hz:ClsSz l):
  FnD Tryz.prog 20 [.d (encDatas w),.agg [.d (.i a),.d (.i k)],.d (encCls l)] [] (.d (.bool (clsValid w ⟨a,k⟩ l))) []:=by
 have hll:=hl.1
 refine bd Tryz.f20 31 [] [] fun w0 F0 own kept hk=>?_
 refine Walk.box (id:=3004) .none rfl rfl rfl rfl rfl rfl rfl ?_
 refine ev ?_
 refine Walk.call (cr:=[]) cal38 (spec_TypeValid_v hs) rfl .none rfl rfl (LeL.refl _) trivial rfl rfl rfl ?_
 refine ev ?_
 refine sq (fun h1 h1p h1s=>?_) fun h1 h1p h1s=>?_
 ·try simp only[Q,Int.natCast_inj] at h1p
  refine sqT ?_
  refine rn0 (r1 rfl) (.eqd ?_)
  all_goals (refine congrArg D.bool ?_;first|(rw[cls_tv (by assumption)];done)|(rw[cls_len (by omega)];done)|(rw[cls_at (i:=i) (by omega) (by assumption)];done)|(rw[cls_all (by assumption) (by omega) (fun x hx=>hg1.2 x (by omega))];done))
 ·try simp only[Q,Int.natCast_inj] at h1p
  refine sq (fun h3 h3p h3s=>?_) fun h3 h3p h3s=>?_
  ·try simp only[Q,Int.natCast_inj] at h3p
   refine rn0 (r1 rfl) (.eqd ?_)
   all_goals (refine congrArg D.bool ?_;first|(rw[cls_tv (by assumption)];done)|(rw[cls_len (by omega)];done)|(rw[cls_at (i:=i) (by omega) (by assumption)];done)|(rw[cls_all (by assumption) (by omega) (fun x hx=>hg1.2 x (by omega))];done))
  ·try simp only[Q,Int.natCast_inj] at h3p
   refine CWp.loopX (ι:=Nat) hk (fun i=>[(7,.d (.i (i:Int)))]) [6,17,18,19,20,21,22,23,24,25,26,27,28,29,30] (fun i=>[]) (fun i=>i≤l.length∧∀i',i'<i→clOk w ⟨a,k⟩ (nth l i')=true) (fun i=>l.length-i) 0 ⟨by omega,fun _ h=>absurd h (by omega)⟩ ⟨⟨_,rfl,(LeA.eqi (by first|rfl|(simp;done)|(simp_all;done)|omega))⟩,trivial⟩ trivial (fun x=>rfl) (fun i hg1=>?_)
   refine evc [] [] ?_
   refine sq (fun h4 h4p h4s=>?_) fun h4 h4p h4s=>?_
   ·try simp only[Q,Int.natCast_inj] at h4p
    refine Walk.idx sl26 .none rfl rfl rfl rfl (at_nth (by omega)) rfl ?_
    refine evd [] [] ?_
    refine Walk.call (cr:=[]) cal39 (spec_l4Is_fn (t:=⟨a,k⟩) (c:=nth l i) (valid_wt hs (tv_facts (by assumption)).1) (valid_az (tv_facts (by assumption)).1) (tv_ok (by assumption)) (hl.2 _ (nth_mem (by omega))) (hz _ (nth_mem (by omega)))) rfl .none rfl rfl (LeL.refl _) trivial rfl rfl rfl ?_
    refine evd [] [] ?_
    refine dr ?_
    refine sq (fun h5 h5p h5s=>?_) fun h5 h5p h5s=>?_
    ·try simp only[Q,Int.natCast_inj] at h5p
     refine rn0 (r1 rfl) (.eqd ?_)
     all_goals (refine congrArg D.bool ?_;first|(rw[cls_tv (by assumption)];done)|(rw[cls_len (by omega)];done)|(rw[cls_at (i:=i) (by omega) (by assumption)];done)|(rw[cls_all (by assumption) (by omega) (fun x hx=>hg1.2 x (by omega))];done))
    ·try simp only[Q,Int.natCast_inj] at h5p
     refine ar ?_
     refine Exists.intro (i+1) ⟨⟨by omega,upto_succ hg1.2 (by assumption)⟩,(by omega),Sub.x (by kernel_rfl) (by kernel_rfl) ⟨⟨_,rfl,(LeA.eqi (by first|rfl|(simp;done)|(simp_all;done)|omega))⟩,trivial⟩ (by kernel_rfl) (by kernel_rfl) trivial⟩
   ·try simp only[Q,Int.natCast_inj] at h4p
    refine rn0 (r1 rfl) (.eqd ?_)
    all_goals (refine congrArg D.bool ?_;first|(rw[cls_tv (by assumption)];done)|(rw[cls_len (by omega)];done)|(rw[cls_at (i:=i) (by omega) (by assumption)];done)|(rw[cls_all (by assumption) (by omega) (fun x hx=>hg1.2 x (by omega))];done))
theorem idxB_spec {α:Type} [Inhabited α] (p:α→Bool):∀(l:List α) (i:Nat),(idxF p l i = -1∧∀v∈l,p v=false)∨∃k:Nat,idxF p l i=((i+k:Nat):Int)∧k<l.length∧p (nth l k)=true∧∀j,j<k→p (nth l j)=false
 | [],i=> .inl ⟨rfl,by simp⟩
 |x::r,i=>by
  unfold idxF
  cases h:p x with
  |true=>exact .inr ⟨0,by simp,by simp,by simpa [nth] using h,fun j hj=>absurd hj (by omega)⟩
  |false=>
   rcases idxB_spec p r (i+1) with ⟨h1,h2⟩|⟨k,h1,h2,h3,h4⟩
   ·exact .inl ⟨by simpa using h1,fun v hv=>by rcases List.mem_cons.1 hv with rfl|hv;exact h;exact h2 v hv⟩
   ·refine .inr ⟨k+1, ?_,by simpa using h2,by simpa [nth] using h3,fun j hj=>?_⟩
    ·simp only[Bool.false_eq_true,if_false];rw[h1];congr 1;omega
    ·cases j with
     |zero=>simpa [nth] using h
     |succ j=>simpa [nth] using h4 j (by omega)
def findB (l:List Bd) (n:Int):Int:=idxF (fun b=>decide (b.var=n)) l 0
def gdCond (g:Gd) (b:Bd):Bool:=decide (b.val.ctor = -1)&&((decide (g.op=1)&&decide (b.val.num<g.n))||(decide (g.op=2)&&decide (b.val.num=g.n)))
def gdHold (g:Gd) (l:List Bd):Bool:=decide (g.op=0)||(decide (0≤findB l g.var)&&gdCond g (nth l (findB l g.var).toNat))
theorem findB_spec (l:List Bd) (n:Int):(findB l n = -1∧∀v∈l,v.var≠n)∨∃k:Nat,findB l n=(k:Int)∧k<l.length∧(nth l k).var=n∧∀j,j<k→(nth l j).var≠n:=by
 rcases idxB_spec (fun b:Bd=>decide (b.var=n)) l 0 with ⟨h1,h2⟩|⟨k,h1,h2,h3,h4⟩
 ·exact .inl ⟨h1,fun v hv=>by simpa using h2 v hv⟩
 ·exact .inr ⟨k,by unfold findB;rw[h1];simp,h2,by simpa using h3,fun j hj=>by simpa using h4 j hj⟩
theorem findB_at {l:List Bd}{n:Int}{k:Nat} (hk:k<l.length) (h:(nth l k).var=n) (h2:∀j,j<k→¬(nth l j).var=n):findB l n=(k:Int):=by
 rcases findB_spec l n with ⟨_,h4⟩|⟨i,h3,h4,h5,h6⟩
 ·exact absurd h (h4 _ (nth_mem hk))
 ·rcases Nat.lt_trichotomy i k with hl|hl|hl
  ·exact absurd h5 (h2 i hl)
  ·rw[h3,hl]
  ·exact absurd h (h6 k hl)
theorem findB_no {l:List Bd}{n:Int} (h2:∀j,j<l.length→¬(nth l j).var=n):findB l n = -1:=by
 rcases findB_spec l n with ⟨h3,_⟩|⟨i,h3,h4,h5,h6⟩
 ·exact h3
 ·exact absurd h5 (h2 i h4)
theorem hold_at {g:Gd}{l:List Bd}{k:Nat} (h0:¬g.op=0) (hk:k<l.length) (h:(nth l k).var=g.var) (h2:∀j,j<k→¬(nth l j).var=g.var):gdHold g l=gdCond g (nth l k):=by
 unfold gdHold
 rw[decide_eq_false h0,findB_at hk h h2,decide_eq_true (by omega)]
 simp
theorem hold_no {g:Gd}{l:List Bd} (h0:¬g.op=0) (h2:∀j,j<l.length→¬(nth l j).var=g.var):gdHold g l=false:=by
 unfold gdHold
 rw[decide_eq_false h0,findB_no h2];rfl
theorem hold_0 {g:Gd}{l:List Bd} (h0:g.op=0):gdHold g l=true:=by unfold gdHold;rw[decide_eq_true h0];rfl
theorem hold_iff {g:Gd}{l:List Bd} (hn:(l.map Bd.var).Nodup):gdHold g l=true↔(g.op=0∨∃b∈l,b.var=g.var∧gdCond g b=true):=by
 by_cases h0:g.op=0
 ·rw[hold_0 h0];simp[h0]
 ·rcases findB_spec l g.var with ⟨h3,h4⟩|⟨k,h3,h4,h5,h6⟩
  ·rw[hold_no h0 (fun j hj=>h4 _ (nth_mem hj))]
   simp only[Bool.false_eq_true,false_iff]
   rintro (h|⟨b,hb,h,_⟩)
   ·exact h0 h
   ·exact h4 b hb h
  ·rw[hold_at h0 h4 h5 h6]
   constructor
   ·intro h;exact .inr ⟨_,nth_mem h4,h5,h⟩
   ·rintro (h|⟨b,hb,h,hc⟩)
    ·exact absurd h h0
    ·obtain⟨j,hj,e⟩:=List.getElem_of_mem hb
     have ej:nth l j=b:=by simp[nth,List.getD,hj,e]
     have hjk:j=k:=by
      have hn':=List.pairwise_iff_getElem.1 hn
      rcases Nat.lt_trichotomy j k with hl|hl|hl
      ·exact absurd (by rw[ej];exact h) (h6 j hl)
      ·exact hl
      ·have:=hn' k j (by simpa using h4) (by simpa using hj) hl
       simp only[List.getElem_map] at this
       refine absurd ?_ this
       rw[←nth_eq h4,←nth_eq hj,h5,ej,h]
     rw[←hjk,ej];exact hc
theorem hold_perm {g:Gd}{a b:List Bd} (hp:a.Perm b) (hn:(b.map Bd.var).Nodup):gdHold g a=gdHold g b:=by
 have hna:(a.map Bd.var).Nodup:=(hp.map Bd.var).nodup_iff.2 hn
 rw[Bool.eq_iff_iff,hold_iff hna,hold_iff hn]
 constructor
 ·rintro (h|⟨x,hx,h⟩)
  ·exact .inl h
  ·exact .inr ⟨x,hp.mem_iff.1 hx,h⟩
 ·rintro (h|⟨x,hx,h⟩)
  ·exact .inl h
  ·exact .inr ⟨x,hp.mem_iff.2 hx,h⟩
theorem nth_set {α:Type} [Inhabited α]{l:List α}{i j:Nat}{x:α} (hi:i<l.length):nth (l.set i x) j=if i=j then x else nth l j:=by
 unfold nth
 simp only[List.getD,List.getElem?_set]
 by_cases h:i=j
 ·subst h;simp[hi]
 ·simp[h]
theorem sink_sorts:∀(j i:Nat) (L:List Bd),j≤i→i<L.length→(∀a b,a<b→b≤i→a≠j→b≠j→(nth L a).var≤(nth L b).var)→(∀b,j<b→b≤i→(nth L j).var≤(nth L b).var)→
  ∀a b,a<b→b≤i→(nth (sinkL j L) a).var≤(nth (sinkL j L) b).var
 |0,i,L,hj,hi,h1,h2,a,b,hab,hb=>by
  show(nth L a).var≤(nth L b).var
  by_cases ha:a=0
  ·subst ha;exact h2 b hab hb
  ·exact h1 a b hab hb ha (by omega)
 |j+1,i,L,hj,hi,h1,h2,a,b,hab,hb=>by
  unfold sinkL
  split
  ·rename_i hlt
   have hs:∀k,nth (swapL L j) k=if j=k then nth L (j+1) else if j+1=k then nth L j else nth L k:=fun k=>by
    unfold swapL
    rw[nth_set (by simp;omega),nth_set (by omega)]
   refine sink_sorts j i (swapL L j) (by omega) (by rw[swapL_len];omega) (fun a b hab hb ha hbj=>?_) (fun b hjb hb=>?_) a b hab hb
   ·have ea:nth (swapL L j) a=if j+1=a then nth L j else nth L a:=by rw[hs a,if_neg (fun h=>ha h.symm)]
    have eb:nth (swapL L j) b=if j+1=b then nth L j else nth L b:=by rw[hs b,if_neg (fun h=>hbj h.symm)]
    rw[ea,eb]
    by_cases e1:j+1=a
    ·rw[if_pos e1,if_neg (by omega)];exact h1 j b (by omega) hb (by omega) (by omega)
    ·rw[if_neg e1]
     by_cases e2:j+1=b
     ·rw[if_pos e2];exact h1 a j (by omega) (by omega) (by omega) (by omega)
     ·rw[if_neg e2];exact h1 a b hab hb (by omega) (by omega)
   ·have ea:nth (swapL L j) j=nth L (j+1):=by rw[hs j,if_pos rfl]
    have eb:nth (swapL L j) b=if j+1=b then nth L j else nth L b:=by rw[hs b,if_neg (by omega)]
    rw[ea,eb]
    by_cases e2:j+1=b
    ·rw[if_pos e2];omega
    ·rw[if_neg e2];exact h2 b (by omega) hb
  ·rename_i hge
   by_cases ha:a=j+1
   ·subst ha;exact h2 b hab hb
   ·by_cases hbj:b=j+1
    ·subst hbj
     by_cases haj:a=j
     ·subst haj;omega
     ·have:=h1 a j (by omega) (by omega) ha (by omega);omega
    ·exact h1 a b hab hb ha hbj
theorem sortL_sorts:∀(k i:Nat) (L:List Bd),i+k≤L.length→(∀a b,a<b→b<i→(nth L a).var≤(nth L b).var)→∀a b,a<b→b<i+k→(nth (sortL k i L) a).var≤(nth (sortL k i L) b).var
 |0,i,L,_,h,a,b,hab,hb=>h a b hab hb
 |k+1,i,L,hl,h,a,b,hab,hb=>by
  unfold sortL
  refine sortL_sorts k (i+1) (sinkL i L) (by rw[sinkL_len];omega) (fun a b hab hb=>?_) a b hab (by omega)
  exact sink_sorts i i L (Nat.le_refl _) (by omega) (fun a b hab hb ha hbi=>h a b hab (by omega)) (fun b h1 h2=>by omega) a b hab (by omega)
theorem sortB_sorted (L:List Bd):(sortB L).Pairwise fun x y=>x.var≤y.var:=by
 rw[List.pairwise_iff_getElem]
 intro i j hi hj hij
 rw[←nth_eq hi,←nth_eq hj]
 have hl:=sortB_len L
 refine sortL_sorts (L.length-1) 1 L (by omega) (fun a b hab hb=>by omega) i j hij (by omega)
theorem strict_ext:∀ {a b:List Bd},a.Pairwise (fun x y=>x.var<y.var)→b.Pairwise (fun x y=>x.var<y.var)→(∀x,x∈a↔x∈b)→a=b
 | [],[],_,_,_=>rfl
 | [],y::s,_,_,h=>absurd ((h y).2 (by simp)) (by simp)
 |x::r,[],_,_,h=>absurd ((h x).1 (by simp)) (by simp)
 |x::r,y::s,ha,hb,h=>by
  obtain⟨h1,h2⟩:=List.pairwise_cons.1 ha
  obtain⟨h3,h4⟩:=List.pairwise_cons.1 hb
  have e:x=y:=by
   rcases List.mem_cons.1 ((h x).1 (by simp)) with e|e
   ·exact e
   ·rcases List.mem_cons.1 ((h y).2 (by simp)) with e2|e2
    ·exact e2.symm
    ·have:=h3 x e;have:=h1 y e2;omega
  subst e
  congr 1
  refine strict_ext h2 h4 (fun z=>?_)
  have hz:=h z
  simp only[List.mem_cons] at hz
  constructor
  ·intro hr
   rcases hz.1 (.inr hr) with e|e
   ·subst e;have:=h1 z hr;omega
   ·exact e
  ·intro hs
   rcases hz.2 (.inr hs) with e|e
   ·subst e;have:=h3 z hs;omega
   ·exact e
def sort6 (L:List Bd):List Bd:=(List.range 6).flatMap fun(n:Nat)=>L.filter fun b=>decide (b.var=(n:Int))
theorem sort6_sorted {L:List Bd} (hn:(L.map Bd.var).Nodup):(sort6 L).Pairwise fun x y=>x.var<y.var:=by
 have key:∀(m:Nat),((List.range m).flatMap fun(n:Nat)=>L.filter fun b=>decide (b.var=(n:Int))).Pairwise fun x y=>x.var<y.var:=by
  intro m
  induction m with
  |zero=>simp
  |succ m ih=>
   rw[List.range_succ,List.flatMap_append]
   refine List.pairwise_append.2 ⟨ih, ?_,fun x hx y hy=>?_⟩
   ·simp only[List.flatMap_cons,List.flatMap_nil,List.append_nil]
    have hnd:(L.filter fun b=>decide (b.var=(m:Int))).Pairwise fun x y=>x.var≠y.var:=((List.pairwise_map.1 hn)).filter _
    refine hnd.imp_of_mem (fun {x y} hx hy hne=>?_)
    simp only[List.mem_filter,decide_eq_true_eq] at hx hy
    exact absurd (by rw[hx.2,hy.2]) hne
   ·simp only[List.mem_flatMap,List.mem_range,List.mem_filter,decide_eq_true_eq] at hx
    simp only[List.flatMap_cons,List.flatMap_nil,List.append_nil,List.mem_filter,decide_eq_true_eq] at hy
    obtain⟨k,hk,_,e⟩:=hx
    rw[e,hy.2];omega
 exact key 6
theorem sort6_eq {L:List Bd} (hn:(L.map Bd.var).Nodup) (hr:∀b∈L,0≤b.var∧b.var≤5):sort6 L=sortB L:=by
 have hs:(sortB L).Pairwise fun x y=>x.var<y.var:=by
  have h1:=sortB_sorted L
  have h2:((sortB L).map Bd.var).Nodup:=((sortB_perm L).map Bd.var).nodup_iff.2 hn
  have h3:=List.pairwise_map.1 h2
  exact h1.imp₂ (fun {a b} h4 h5=>by omega) h3
 refine strict_ext (sort6_sorted hn) hs (fun x=>?_)
 rw[(sortB_perm L).mem_iff]
 unfold sort6
 simp only[List.mem_flatMap,List.mem_range,List.mem_filter,decide_eq_true_eq]
 constructor
 ·rintro ⟨k,_,h,_⟩;exact h
 ·intro h
  have:=hr x h
  exact⟨x.var.toNat,by omega,h,by omega⟩
def runAt (c:Cl) (v:Val):Bool:=(matchV 10 c.pat v).2&&gdHold c.g (matchV 10 c.pat v).1
def runV:List Cl→Val→Int→Int×List Bd
 | [],_,_=>(-1,[])
 |c::r,v,i=>if runAt c v=true then (i,sortB (matchV 10 c.pat v).1) else runV r v (i+1)
theorem runV_hit {l:List Cl}{v:Val}{i:Nat} (h:i<l.length) (hr:runAt (nth l i) v=true):runV (l.drop i) v (i:Int)=((i:Int),sortB (matchV 10 (nth l i).pat v).1):=by
 rw[drop_nth h,runV,if_pos hr]
theorem runV_next {l:List Cl}{v:Val}{i:Nat} (h:i<l.length) (hr:runAt (nth l i) v=false):runV (l.drop i) v (i:Int)=runV (l.drop (i+1)) v ((i+1:Nat):Int):=by
 rw[drop_nth h,runV,if_neg (by rw[hr];simp)]
 congr 1
theorem runV_end {l:List Cl}{v:Val}{i:Nat} (h:l.length≤i):runV (l.drop i) v (i:Int)=(-1,[]):=by
 rw[List.drop_eq_nil_of_le h];rfl
theorem slices_IndexFunc_Bd_fn {xs:List Bd}{f:Nat}{caps:List AV}{hp:Hp}{p:Bd→Bool} (hs:xs.length≤1000000000000) (hcal:Callee Tryz.prog f)
  (hf:∀t∈xs,FnD Tryz.prog f ([.agg (bdA t)]++caps) hp (.d (.bool (p t))) []) (k1:subH hp hp) (k2:noTok hp=true) (k3:okCall hp [] (.d .nilp) []=true):
  FnD Tryz.prog 30 [.d (encBds xs),.fn f caps] hp (.d (.i (idxF p xs 0))) []:=by
 refine bd Tryz.f30 19 [] [] fun w0 F0 own kept hk=>?_
 refine CWp.loopX (ι:=List (Bd)×List (Bd)) hk (fun x=>[(8,.d (.i (x.1.length:Int)))]) [4,5,9,10,11,12,13,14,15,16,17,18] (fun x=>[]) (fun x=>x.1++x.2=xs∧idxF p x.2 x.1.length=idxF p xs 0) (fun x=>x.2.length) ([],xs) ⟨by simp,rfl⟩ ⟨⟨_,rfl,(LeA.eqi (by first|rfl|(simp;done)|(simp_all;done)|omega))⟩,trivial⟩ trivial (fun x=>boxIds_all hp) (fun x hg1=>?_)
 obtain⟨pre,rest⟩:=x
 dsimp only at hg1 ⊢
 refine evc [] [] ?_
 refine sq (fun h1 h1p h1s=>?_) fun h1 h1p h1s=>?_
 ·try simp only[Q] at h1p
  rcases rest with _|⟨y,rest⟩
  ·exfalso;simp_all
  refine Walk.idx sl32 .none rfl rfl rfl rfl (zip_at hg1.1) rfl ?_
  refine ev ?_
  refine Walk.callV (cr:=[]) hcal (hf y (by rw[←hg1.1];simp)) rfl .none rfl rfl rfl (LeL.refl _) k1 k2 (okCall_d k3 _) rfl ?_
  refine tv ?_
  refine sq (fun h2 h2p h2s=>?_) fun h2 h2p h2s=>?_
  ·try simp only[Q] at h2p
   refine rn [] (r1 rfl) (.eqd ?_) ⟨rfl,rfl⟩ (fun _ _ h=>h) (fun _ h=>h)
   all_goals (rw[←hg1.2];simp[idxF,h1s,h1p,h2s,h2p])
  ·try simp only[Q] at h2p
   refine ar ?_
   refine Exists.intro ((pre++[y],rest)) ⟨⟨(by have hz:=hg1.1;rw[←hz];simp),(by rw[←hg1.2];simp[idxF,h2s])⟩,(by simp),Sub.x (by kernel_rfl) (by kernel_rfl) ⟨⟨_,rfl,(LeA.eqi (by first|rfl|(simp;done)|(simp_all;done)|omega))⟩,trivial⟩ (by simp) (by simp[coverH]) trivial⟩
 ·try simp only[Q] at h1p
  have hrest:rest=[]:=by
   rcases rest with _|⟨a,b⟩
   ·rfl
   ·exfalso;have hz:=congrArg List.length (hg1.1);simp only[List.length_append,List.length_cons,List.length_map] at hz;omega
  subst hrest
  refine rn [] (r1 rfl) (.eqd ?_) ⟨rfl,rfl⟩ (fun _ _ h=>h) (fun _ h=>h)
  all_goals (rw[←hg1.2];simp[idxF,h1s,h1p])
theorem impl_GuardHolds_1_fn {x:Bd}{a b c:Int}:FnD Tryz.prog 31 [.agg (bdA x),.ref 3002 0] [(3002,some (.box [.d (.i a),.d (.i b),.d (.i c)]))] (.d (.bool (decide (x.var=b)))) []:=by
 refine bd Tryz.f31 9 [] [] fun w0 F0 own kept hk=>?_
 refine Walk.box (id:=3001) .none rfl rfl rfl rfl rfl rfl rfl ?_
 refine ev ?_
 refine rn [] (r1 rfl) (.eqd ?_) ⟨rfl,rfl⟩ (SubH.get ⟨rfl,trivial⟩) (fun _ h=>h)
 all_goals (rfl)
theorem impl_GuardHolds_fn {g:Gd}{l:List Bd} (hl:l.length≤1000000000000):FnD Tryz.prog 13 [.agg [.d (.i g.op),.d (.i g.var),.d (.i g.n)],.d (encBds l)] [] (.d (.bool (gdHold g l))) []:=by
 have hsp:=findB_spec l g.var
 have hfi:idxF (fun b:Bd=>decide (b.var=g.var)) l 0=findB l g.var:=rfl
 by_cases h0:g.op=0
 ·rw[hold_0 h0]
  refine bd Tryz.f13 50 [] [] fun w0 F0 own kept hk=>?_
  refine Walk.box (id:=3002) .none rfl rfl rfl rfl rfl rfl rfl ?_
  refine ev ?_
  refine sq (fun h1 h1p h1s=>?_) fun h1 h1p h1s=>?_
  ·try simp only[Q] at h1p
   refine rn0 (r1 rfl) (.eqd ?_)
   all_goals (rfl)
  ·try simp only[Q] at h1p
   exfalso;omega
 rcases hsp with ⟨h3,h4⟩|⟨k,h3,h4,h5,h6⟩
 ·rw[hold_no h0 (fun j hj=>h4 _ (nth_mem hj))]
  have hix:=slices_IndexFunc_Bd_fn (p:=fun b=>decide (b.var=g.var)) hl cal31 (fun t _=>impl_GuardHolds_1_fn (x:=t) (a:=g.op) (b:=g.var) (c:=g.n)) ⟨rfl,trivial⟩ rfl rfl
  rw[hfi,h3] at hix
  refine bd Tryz.f13 50 [] [] fun w0 F0 own kept hk=>?_
  refine Walk.box (id:=3002) .none rfl rfl rfl rfl rfl rfl rfl ?_
  refine ev ?_
  refine sq (fun h1 h1p h1s=>?_) fun h1 h1p h1s=>?_
  ·try simp only[Q] at h1p
   exfalso;omega
  ·try simp only[Q] at h1p
   refine Walk.closure (xs:=[_]) rfl .none rfl rfl ?_
   refine Walk.call (cr:=[]) cal30 (hix) rfl .none rfl rfl (LeL.refl _) ⟨rfl,trivial⟩ rfl rfl rfl ?_
   refine ev ?_
   refine sq (fun h2 h2p h2s=>?_) fun h2 h2p h2s=>?_
   ·try simp only[Q] at h2p
    refine sqT ?_
    refine rn0 (r1 rfl) (.eqd ?_)
    all_goals (rfl)
   ·try simp only[Q] at h2p
    exfalso;revert h2;simp
 ·rw[hold_at h0 h4 h5 h6]
  have hix:=slices_IndexFunc_Bd_fn (p:=fun b=>decide (b.var=g.var)) hl cal31 (fun t _=>impl_GuardHolds_1_fn (x:=t) (a:=g.op) (b:=g.var) (c:=g.n)) ⟨rfl,trivial⟩ rfl rfl
  rw[hfi,h3] at hix
  unfold gdCond
  refine bd Tryz.f13 50 [] [] fun w0 F0 own kept hk=>?_
  refine Walk.box (id:=3002) .none rfl rfl rfl rfl rfl rfl rfl ?_
  refine ev ?_
  refine sq (fun h1 h1p h1s=>?_) fun h1 h1p h1s=>?_
  ·try simp only[Q] at h1p
   exfalso;omega
  ·try simp only[Q] at h1p
   refine Walk.closure (xs:=[_]) rfl .none rfl rfl ?_
   refine Walk.call (cr:=[]) cal30 (hix) rfl .none rfl rfl (LeL.refl _) ⟨rfl,trivial⟩ rfl rfl rfl ?_
   refine ev ?_
   refine sq (fun h2 h2p h2s=>?_) fun h2 h2p h2s=>?_
   ·try simp only[Q] at h2p
    exfalso;revert h2;simp
   ·try simp only[Q] at h2p
    refine Walk.idx sl32 (.some rfl rfl h2) rfl rfl rfl rfl (at_nth h4) rfl ?_
    refine evs [] [(15,false)] ?_ ⟨⟨_,rfl,h2⟩,trivial⟩
    refine sq (fun h3 h3p h3s=>?_) fun h3 h3p h3s=>?_
    ·try simp only[Q] at h3p
     refine rn0 (r1 rfl) (.eqd ?_)
     all_goals (refine congrArg D.bool ?_;first|(simp_all;done)|(rw[Bool.eq_iff_iff];simp_all;done)|(rw[Bool.eq_iff_iff];simp_all;omega))
    ·try simp only[Q] at h3p
     refine Walk.idx sl32 .none rfl rfl rfl rfl (at_nth h4) rfl ?_
     refine ev ?_
     refine sq (fun h4 h4p h4s=>?_) fun h4 h4p h4s=>?_
     ·try simp only[Q] at h4p
      refine sq (fun h5 h5p h5s=>?_) fun h5 h5p h5s=>?_
      ·try simp only[Q] at h5p
       refine rn0 (r1 rfl) (.eqd ?_)
       all_goals (refine congrArg D.bool ?_;first|(simp_all;done)|(rw[Bool.eq_iff_iff];simp_all;done)|(rw[Bool.eq_iff_iff];simp_all;omega))
      ·try simp only[Q] at h5p
       refine sq (fun h6 h6p h6s=>?_) fun h6 h6p h6s=>?_
       ·try simp only[Q] at h6p
        refine rn0 (r1 rfl) (.eqd ?_)
        all_goals (refine congrArg D.bool ?_;first|(simp_all;done)|(rw[Bool.eq_iff_iff];simp_all;done)|(rw[Bool.eq_iff_iff];simp_all;omega))
       ·try simp only[Q] at h6p
        refine rn0 (r1 rfl) (.eqd ?_)
        all_goals (refine congrArg D.bool ?_;first|(simp_all;done)|(rw[Bool.eq_iff_iff];simp_all;done)|(rw[Bool.eq_iff_iff];simp_all;omega))
     ·try simp only[Q] at h4p
      refine sqF ?_
      refine sq (fun h7 h7p h7s=>?_) fun h7 h7p h7s=>?_
      ·try simp only[Q] at h7p
       refine rn0 (r1 rfl) (.eqd ?_)
       all_goals (refine congrArg D.bool ?_;first|(simp_all;done)|(rw[Bool.eq_iff_iff];simp_all;done)|(rw[Bool.eq_iff_iff];simp_all;omega))
      ·try simp only[Q] at h7p
       refine rn0 (r1 rfl) (.eqd ?_)
       all_goals (refine congrArg D.bool ?_;first|(simp_all;done)|(rw[Bool.eq_iff_iff];simp_all;done)|(rw[Bool.eq_iff_iff];simp_all;omega))
theorem spec_GuardHolds_fn {g:Gd}{l:List Bd} (hl:l.length≤1000000000000):FnD Tryz.prog 43 [.agg [.d (.i g.op),.d (.i g.var),.d (.i g.n)],.d (encBds l)] [] (.d (.bool (gdHold g l))) []:=by
 refine bd Tryz.f43 59 [] [] fun w0 F0 own kept hk=>?_
 refine Walk.box (id:=3002) .none rfl rfl rfl rfl rfl rfl rfl ?_
 refine ev ?_
 refine sq (fun h1 h1p h1s=>?_) fun h1 h1p h1s=>?_
 ·try simp only[Q,Int.natCast_inj] at h1p
  refine rn0 (r1 rfl) (.eqd ?_)
  all_goals (refine congrArg D.bool ?_;first|(rw[hold_0 (by omega)];done)|(rw[hold_no (by omega) (fun x hx=>hg1.2 x (by omega))];done)|(rw[hold_at (k:=i) (by omega) (by omega) (by omega) hg1.2];unfold gdCond;first|(simp_all;done)|(rw[Bool.eq_iff_iff];simp_all;done)|(rw[Bool.eq_iff_iff];simp_all;omega)))
 ·try simp only[Q,Int.natCast_inj] at h1p
  refine CWp.loopX (ι:=Nat) hk (fun i=>[(5,.d (.i (i:Int)))]) [4,6,10,11,12,13,14,15,16,17,18,19,20,21,22,23,24,25,26,27,28,29,30,31,32,33,34,35,36,37,38,39,40,41,42,43,44,45,46,47,48,49,50,51,52,53,54,55,56,57,58] (fun i=>[]) (fun i=>i≤l.length∧∀i',i'<i→¬(nth l i').var=g.var) (fun i=>l.length-i) 0 ⟨by omega,fun _ h=>absurd h (by omega)⟩ ⟨⟨_,rfl,(LeA.eqi (by first|rfl|(simp;done)|(simp_all;done)|omega))⟩,trivial⟩ trivial (fun x=>rfl) (fun i hg1=>?_)
  refine evc [] [] ?_
  refine sq (fun h2 h2p h2s=>?_) fun h2 h2p h2s=>?_
  ·try simp only[Q,Int.natCast_inj] at h2p
   refine Walk.idx sl32 .none rfl rfl rfl rfl (at_nth (by omega)) rfl ?_
   refine evd [] [] ?_
   refine dr ?_
   refine sq (fun h3 h3p h3s=>?_) fun h3 h3p h3s=>?_
   ·try simp only[Q,Int.natCast_inj] at h3p
    refine ar ?_
    refine Exists.intro (i+1) ⟨⟨by omega,upto_succ hg1.2 (by omega)⟩,(by omega),Sub.x (by kernel_rfl) (by kernel_rfl) ⟨⟨_,rfl,(LeA.eqi (by first|rfl|(simp;done)|(simp_all;done)|omega))⟩,trivial⟩ (by kernel_rfl) (by kernel_rfl) trivial⟩
   ·try simp only[Q,Int.natCast_inj] at h3p
    refine Walk.idx sl32 .none rfl rfl rfl rfl (at_nth (by omega)) rfl ?_
    refine ev ?_
    refine Walk.idx sl32 .none rfl rfl rfl rfl (at_nth (by omega)) rfl ?_
    refine ev ?_
    refine sq (fun h4 h4p h4s=>?_) fun h4 h4p h4s=>?_
    ·try simp only[Q,Int.natCast_inj] at h4p
     refine sq (fun h5 h5p h5s=>?_) fun h5 h5p h5s=>?_
     ·try simp only[Q,Int.natCast_inj] at h5p
      refine sq (fun h6 h6p h6s=>?_) fun h6 h6p h6s=>?_
      ·try simp only[Q,Int.natCast_inj] at h6p
       refine rn0 (r1 rfl) (.eqd ?_)
       all_goals (refine congrArg D.bool ?_;first|(rw[hold_0 (by omega)];done)|(rw[hold_no (by omega) (fun x hx=>hg1.2 x (by omega))];done)|(rw[hold_at (k:=i) (by omega) (by omega) (by omega) hg1.2];unfold gdCond;first|(simp_all;done)|(rw[Bool.eq_iff_iff];simp_all;done)|(rw[Bool.eq_iff_iff];simp_all;omega)))
      ·try simp only[Q,Int.natCast_inj] at h6p
       refine sq (fun h7 h7p h7s=>?_) fun h7 h7p h7s=>?_
       ·try simp only[Q,Int.natCast_inj] at h7p
        refine rn0 (r1 rfl) (.eqd ?_)
        all_goals (refine congrArg D.bool ?_;first|(rw[hold_0 (by omega)];done)|(rw[hold_no (by omega) (fun x hx=>hg1.2 x (by omega))];done)|(rw[hold_at (k:=i) (by omega) (by omega) (by omega) hg1.2];unfold gdCond;first|(simp_all;done)|(rw[Bool.eq_iff_iff];simp_all;done)|(rw[Bool.eq_iff_iff];simp_all;omega)))
       ·try simp only[Q,Int.natCast_inj] at h7p
        refine rn0 (r1 rfl) (.eqd ?_)
        all_goals (refine congrArg D.bool ?_;first|(rw[hold_0 (by omega)];done)|(rw[hold_no (by omega) (fun x hx=>hg1.2 x (by omega))];done)|(rw[hold_at (k:=i) (by omega) (by omega) (by omega) hg1.2];unfold gdCond;first|(simp_all;done)|(rw[Bool.eq_iff_iff];simp_all;done)|(rw[Bool.eq_iff_iff];simp_all;omega)))
     ·try simp only[Q,Int.natCast_inj] at h5p
      refine sqF ?_
      refine sq (fun h8 h8p h8s=>?_) fun h8 h8p h8s=>?_
      ·try simp only[Q,Int.natCast_inj] at h8p
       refine rn0 (r1 rfl) (.eqd ?_)
       all_goals (refine congrArg D.bool ?_;first|(rw[hold_0 (by omega)];done)|(rw[hold_no (by omega) (fun x hx=>hg1.2 x (by omega))];done)|(rw[hold_at (k:=i) (by omega) (by omega) (by omega) hg1.2];unfold gdCond;first|(simp_all;done)|(rw[Bool.eq_iff_iff];simp_all;done)|(rw[Bool.eq_iff_iff];simp_all;omega)))
      ·try simp only[Q,Int.natCast_inj] at h8p
       refine rn0 (r1 rfl) (.eqd ?_)
       all_goals (refine congrArg D.bool ?_;first|(rw[hold_0 (by omega)];done)|(rw[hold_no (by omega) (fun x hx=>hg1.2 x (by omega))];done)|(rw[hold_at (k:=i) (by omega) (by omega) (by omega) hg1.2];unfold gdCond;first|(simp_all;done)|(rw[Bool.eq_iff_iff];simp_all;done)|(rw[Bool.eq_iff_iff];simp_all;omega)))
    ·try simp only[Q,Int.natCast_inj] at h4p
     refine rn0 (r1 rfl) (.eqd ?_)
     all_goals (refine congrArg D.bool ?_;first|(rw[hold_0 (by omega)];done)|(rw[hold_no (by omega) (fun x hx=>hg1.2 x (by omega))];done)|(rw[hold_at (k:=i) (by omega) (by omega) (by omega) hg1.2];unfold gdCond;first|(simp_all;done)|(rw[Bool.eq_iff_iff];simp_all;done)|(rw[Bool.eq_iff_iff];simp_all;omega)))
  ·try simp only[Q,Int.natCast_inj] at h2p
   refine rn0 (r1 rfl) (.eqd ?_)
   all_goals (refine congrArg D.bool ?_;first|(rw[hold_0 (by omega)];done)|(rw[hold_no (by omega) (fun x hx=>hg1.2 x (by omega))];done)|(rw[hold_at (k:=i) (by omega) (by omega) (by omega) hg1.2];unfold gdCond;first|(simp_all;done)|(rw[Bool.eq_iff_iff];simp_all;done)|(rw[Bool.eq_iff_iff];simp_all;omega)))
def matchSL (f:List Bd→Pat→Val→List Bd×Bool):List Pat→List Val→List Bd→List Bd×Bool
 |p::r,v::s,out=>if (f out p v).2=true then matchSL f r s (f out p v).1 else (out,false)
 |_,_,out=>(out,true)
def matchS:Nat→List Bd→Pat→Val→List Bd×Bool
 |0,out,_,_=>(out,false)
 |n+1,out,p,v=>
  if p.op=1 then (out,true)
  else if p.op=2 then (out++[⟨p.var,v⟩],true)
  else if p.op=3 then (out,within v.num p.n p.m)
  else if p.op=5 then (if (matchS n out (nth p.kids 0) v).2=true then ((matchS n out (nth p.kids 0) v).1,true) else matchS n out (nth p.kids 1) v)
  else if p.op=6 then matchS n (out++[⟨p.var,v⟩]) (nth p.kids 0) v
  else if p.ctor=v.ctor then matchSL (matchS n) p.kids v.kids out else (out,false)
section
variable {n:Nat}{out:List Bd}{p:Pat}{v:Val}
theorem ms_1 (h:p.op=1):matchS (n+1) out p v=(out,true):=by unfold matchS;rw[if_pos h]
theorem ms_2 (h:p.op=2):matchS (n+1) out p v=(out++[⟨p.var,v⟩],true):=by unfold matchS;rw[if_neg (by omega),if_pos h]
theorem ms_3 (h:p.op=3):matchS (n+1) out p v=(out,within v.num p.n p.m):=by unfold matchS;rw[if_neg (by omega),if_neg (by omega),if_pos h]
theorem ms_5a (h:p.op=5) (h2:(matchS n out (nth p.kids 0) v).2=true):matchS (n+1) out p v=((matchS n out (nth p.kids 0) v).1,true):=by
 conv=>lhs;unfold matchS
 rw[if_neg (by omega),if_neg (by omega),if_neg (by omega),if_pos h,if_pos h2]
theorem ms_5b (h:p.op=5) (h2:(matchS n out (nth p.kids 0) v).2=false):matchS (n+1) out p v=matchS n out (nth p.kids 1) v:=by
 conv=>lhs;unfold matchS
 rw[if_neg (by omega),if_neg (by omega),if_neg (by omega),if_pos h,if_neg (by rw[h2];simp)]
theorem ms_6 (h:p.op=6):matchS (n+1) out p v=matchS n (out++[⟨p.var,v⟩]) (nth p.kids 0) v:=by
 conv=>lhs;unfold matchS
 rw[if_neg (by omega),if_neg (by omega),if_neg (by omega),if_neg (by omega),if_pos h]
theorem ms_4 (h:p.op=4) (h2:p.ctor=v.ctor):matchS (n+1) out p v=matchSL (matchS n) p.kids v.kids out:=by
 conv=>lhs;unfold matchS
 rw[if_neg (by omega),if_neg (by omega),if_neg (by omega),if_neg (by omega),if_neg (by omega),if_pos h2]
theorem ms_4n (h:p.op=4) (h2:¬p.ctor=v.ctor):matchS (n+1) out p v=(out,false):=by
 conv=>lhs;unfold matchS
 rw[if_neg (by omega),if_neg (by omega),if_neg (by omega),if_neg (by omega),if_neg (by omega),if_neg h2]
end
theorem matchSL_next {f:List Bd→Pat→Val→List Bd×Bool}{a:List Pat}{b:List Val}{out:List Bd}{i:Nat} (h1:i<a.length) (h2:i<b.length) (h:(f out (nth a i) (nth b i)).2=true):
  matchSL f (a.drop i) (b.drop i) out=matchSL f (a.drop (i+1)) (b.drop (i+1)) (f out (nth a i) (nth b i)).1:=by
 rw[drop_nth h1,drop_nth h2]
 conv=>lhs;unfold matchSL
 rw[if_pos h]
theorem matchSL_bad {f:List Bd→Pat→Val→List Bd×Bool}{a:List Pat}{b:List Val}{out:List Bd}{i:Nat} (h1:i<a.length) (h2:i<b.length) (h:(f out (nth a i) (nth b i)).2=false):
  matchSL f (a.drop i) (b.drop i) out=(out,false):=by
 rw[drop_nth h1,drop_nth h2]
 conv=>lhs;unfold matchSL
 rw[if_neg (by rw[h];simp)]
theorem matchSL_end {f:List Bd→Pat→Val→List Bd×Bool}{a:List Pat}{b:List Val}{out:List Bd}{i:Nat} (h1:a.length≤i):matchSL f (a.drop i) (b.drop i) out=(out,true):=by
 rw[List.drop_eq_nil_of_le h1];cases b.drop i<;>rfl
theorem matchSL_eq {f:List Bd→Pat→Val→List Bd×Bool}{g:Pat→Val→List Bd×Bool} (h:∀out p v,(f out p v).2=(g p v).2∧((g p v).2=true→(f out p v).1=out++(g p v).1)):
  ∀(a:List Pat) (b:List Val) (out acc:List Bd),(matchSL f a b (out++acc)).2=(matchL g a b acc).2∧((matchL g a b acc).2=true→(matchSL f a b (out++acc)).1=out++(matchL g a b acc).1)
 | [],b,out,acc=>by cases b<;>exact⟨rfl,fun _=>rfl⟩
 |_::_,[],out,acc=>⟨rfl,fun _=>rfl⟩
 |p::r,v::s,out,acc=>by
  obtain⟨h1,h2⟩:=h (out++acc) p v
  unfold matchSL matchL
  rw[h1]
  cases hg:(g p v).2 with
  |true=>
   simp only[if_true]
   rw[h2 hg,List.append_assoc]
   exact matchSL_eq h r s out (acc++(g p v).1)
  |false=>simp
theorem matchS_eq:∀(n:Nat) (out:List Bd) (p:Pat) (v:Val),(matchS n out p v).2=(matchV n p v).2∧((matchV n p v).2=true→(matchS n out p v).1=out++(matchV n p v).1)
 |0,out,p,v=>by simp[matchS,matchV]
 |n+1,out,p,v=>by
  unfold matchS matchV
  by_cases h1:p.op=1
  ·simp[h1]
  by_cases h2:p.op=2
  ·simp[h2]
  by_cases h3:p.op=3
  ·simp[h3]
  by_cases h5:p.op=5
  ·simp only[h5,if_neg (show ¬(5:Int)=1 by omega),if_neg (show ¬(5:Int)=2 by omega),if_neg (show ¬(5:Int)=3 by omega),if_true]
   obtain⟨a1,a2⟩:=matchS_eq n out (nth p.kids 0) v
   obtain⟨b1,b2⟩:=matchS_eq n out (nth p.kids 1) v
   rw[a1]
   cases hm:(matchV n (nth p.kids 0) v).2 with
   |true=>simp[a2 hm]
   |false=>simp only[Bool.false_eq_true,if_false];exact⟨b1,b2⟩
  by_cases h6:p.op=6
  ·simp only[h6,if_neg (show ¬(6:Int)=1 by omega),if_neg (show ¬(6:Int)=2 by omega),if_neg (show ¬(6:Int)=3 by omega),if_neg (show ¬(6:Int)=5 by omega),if_true]
   obtain⟨a1,a2⟩:=matchS_eq n (out++[⟨p.var,v⟩]) (nth p.kids 0) v
   exact⟨a1,fun h=>by rw[a2 h];simp⟩
  rw[if_neg h1,if_neg h2,if_neg h3,if_neg h5,if_neg h6,if_neg h1,if_neg h2,if_neg h3,if_neg h5,if_neg h6]
  split
  ·have:=matchSL_eq (f:=matchS n) (g:=matchV n) (fun out p v=>matchS_eq n out p v) p.kids v.kids out []
   rw[List.append_nil] at this
   exact this
  ·simp
theorem matchSL_len {f:List Bd→Pat→Val→List Bd×Bool}:∀(a:List Pat) (b:List Val) (out:List Bd),(∀p∈a,∀out v,(f out p v).1.length≤out.length+p.size)→(matchSL f a b out).1.length≤out.length+Pats.size a
 | [],b,out,_=>by cases b<;>simp[matchSL,Pats.size]
 |_::_,[],out,_=>by simp[matchSL]
 |p::r,v::s,out,h=>by
  have h1:=h p (by simp) out v
  unfold matchSL
  simp only[Pats.size]
  split
  ·have:=matchSL_len (f:=f) r s (f out p v).1 (fun q hq=>h q (by simp[hq]));omega
  ·simp
theorem matchS_len {w:List Data}:∀(n:Nat){t:Ty}{p:Pat} (out:List Bd) (v:Val),shapeP w n t p=true→(matchS n out p v).1.length≤out.length+p.size
 |0,t,p,out,v,h=>by simp[shapeP] at h
 |n+1,t,p,out,v,h=>by
  have hs:=Pat.size_eq p
  by_cases h1:p.op=1
  ·rw[ms_1 h1];simp
  by_cases h2:p.op=2
  ·rw[ms_2 h2];simp;omega
  by_cases h3:p.op=3
  ·rw[ms_3 h3];simp
  by_cases h5:p.op=5
  ·obtain⟨hl,s0,s1⟩:=shape_two h h5
   have z0:=pnth_size (l:=p.kids) (i:=0) (by omega)
   have z1:=pnth_size (l:=p.kids) (i:=1) (by omega)
   have k0:=matchS_len n out v s0
   have k1:=matchS_len n out v s1
   cases hm:(matchS n out (nth p.kids 0) v).2 with
   |true=>rw[ms_5a h5 hm];dsimp only;omega
   |false=>rw[ms_5b h5 hm];omega
  by_cases h6:p.op=6
  ·obtain⟨hl,s0⟩:=shape_one h h6
   have z0:=pnth_size (l:=p.kids) (i:=0) (by omega)
   have k0:=matchS_len n (out++[⟨p.var,v⟩]) v s0
   rw[ms_6 h6];simp at k0;omega
  have h4:p.op=4:=by have:=shape_op h;omega
  by_cases hc:p.ctor=v.ctor
  ·rw[ms_4 h4 hc]
   have:=matchSL_len (f:=matchS n) p.kids v.kids out (fun q hq out u=>by
    obtain⟨i,hi,rfl⟩:=List.getElem_of_mem hq
    have e:p.kids[i]=nth p.kids i:=by simp[nth,List.getD,hi]
    rw[e]
    exact matchS_len n out u (shapeP_kid h hi))
   omega
  ·rw[ms_4n h4 hc];simp
theorem spec_l3Match_fn {w:List Data}:∀(n m:Nat){t:Ty}{p:Pat}{v:Val}{out:List Bd},MatchOk w n m t p v→out.length+p.size≤1000000000000→
  FnD Tryz.prog 42 [.d (encBds out),.agg [.d (.i p.op),.d (.i p.ctor),.d (.i p.n),.d (.i p.m),.d (.i p.var),.d (encPats p.kids)],.agg [.d (.i v.ctor),.d (.i v.num),.d (encVals v.kids)]] [] (.tup [.d (encBds (matchS n out p v).1),.d (.bool (matchS n out p v).2)]) []
 |0,m,t,p,v,out,h,_=>by have:=h.shape;simp[shapeP] at this
 |n+1,m,t,p,v,out,h,hb=>by
  have hop:=shape_op h.shape
  have k4:=h.kid
  have k5:=h.two
  have k6:=h.one
  have hsz:=h.psz
  have hps:=Pat.size_eq p
  have hkl:=((Pat.ok_iff p).1 h.pok).1
  have hkl2:=((Val.ok_iff v).1 h.vok).1
  have mok:=fun {t:Ty}{q:Pat} (out:List Bd) (u:Val) (hs:shapeP w n t q=true)=>matchS_len n out u hs
  by_cases c4:p.op=4∧p.ctor=v.ctor
  ·obtain⟨hl,k,hkm⟩:=k4 c4.1 c4.2
   have hm4:=ms_4 (n:=n) (out:=out) c4.1 c4.2
   refine bd Tryz.f42 119 [] [] fun w0 F0 own kept hk=>?_
   refine Walk.box (id:=3004) .none rfl rfl rfl rfl rfl rfl rfl ?_
   refine Walk.box (id:=3005) .none rfl rfl rfl rfl rfl rfl rfl ?_
   refine ev ?_
   refine sq (fun h1 h1p h1s=>?_) fun h1 h1p h1s=>?_
   ·try simp only[Q,Pat.cs_len] at h1p
    exfalso;omega
   ·try simp only[Q,Pat.cs_len] at h1p
    refine sq (fun h2 h2p h2s=>?_) fun h2 h2p h2s=>?_
    ·try simp only[Q,Pat.cs_len] at h2p
     exfalso;omega
    ·try simp only[Q,Pat.cs_len] at h2p
     refine sq (fun h3 h3p h3s=>?_) fun h3 h3p h3s=>?_
     ·try simp only[Q,Pat.cs_len] at h3p
      exfalso;omega
     ·try simp only[Q,Pat.cs_len] at h3p
      refine sq (fun h4 h4p h4s=>?_) fun h4 h4p h4s=>?_
      ·try simp only[Q,Pat.cs_len] at h4p
       exfalso;omega
      ·try simp only[Q,Pat.cs_len] at h4p
       refine sq (fun h5 h5p h5s=>?_) fun h5 h5p h5s=>?_
       ·try simp only[Q,Pat.cs_len] at h5p
        exfalso;omega
       ·try simp only[Q,Pat.cs_len] at h5p
        refine sq (fun h6 h6p h6s=>?_) fun h6 h6p h6s=>?_
        ·try simp only[Q,Pat.cs_len] at h6p
         exfalso;omega
        ·try simp only[Q,Pat.cs_len] at h6p
         refine CWp.loopX (ι:=Nat×List Bd) hk (fun x=>[(10,.d (.i (x.1:Int))),(0,.d (encBds x.2))]) [6,7,11,12,92,93,94,95,96,97,98,99,100,101,102,103,104,105,106,107,108,109,110,111,112,113,114,115,116,117] (fun x=>[]) (fun x=>x.1≤p.kids.length∧matchSL (matchS n) (p.kids.drop x.1) (v.kids.drop x.1) x.2=matchSL (matchS n) p.kids v.kids out∧x.2.length+Pats.size (p.kids.drop x.1)≤out.length+Pats.size p.kids) (fun x=>p.kids.length-x.1) (0,out) ⟨by simp,rfl,by simp⟩ ⟨⟨_,rfl,(LeA.eqi (by first|rfl|omega|(simp;done)))⟩,⟨⟨_,rfl,(by first|exact LeA.refl _|exact LeA.gld (by first|rfl|omega|(simp;done))|exact LeA.nild (by first|rfl|omega|(simp;done))|exact LeA.eqsl (by first|rfl|omega|(simp;done))|exact LeA.eqd (by first|rfl|omega|(simp;done)))⟩,trivial⟩⟩ trivial (fun x=>rfl) (fun x hg1=>?_)
         refine evc [] [] ?_
         refine sq (fun h7 h7p h7s=>?_) fun h7 h7p h7s=>?_
         ·try simp only[Q,Pat.cs_len] at h7p
          refine Walk.idx sl35 .none rfl rfl rfl rfl (pats_at (by omega)) rfl ?_
          refine evd [] [] ?_
          refine Walk.idx sl27 .none rfl rfl rfl rfl (vals_at (by omega)) rfl ?_
          refine evd [] [] ?_
          refine Walk.call (cr:=[]) cal42 (spec_l3Match_fn n k (out:=x.2) (hkm x.1 (by omega)) (by have:=psize_drop (l:=p.kids) (i:=x.1) (by omega);have:=hg1.2.2;omega)) rfl .none rfl rfl (LeL.refl _) trivial rfl rfl rfl ?_
          refine evd [] [] ?_
          refine dr ?_
          refine sq (fun h8 h8p h8s=>?_) fun h8 h8p h8s=>?_
          ·try simp only[Q,Pat.cs_len] at h8p
           refine rn0 (r2 rfl rfl) (.tup (.cons (.eqd ?_) (.cons (.eqd ?_) .nil)))
           all_goals (first|(rw[hm4,←hg1.2.1,matchSL_end (by omega)];all_goals rfl)|(rw[hm4,←hg1.2.1,matchSL_bad (by omega) (by omega) (by assumption)];all_goals rfl))
          ·try simp only[Q,Pat.cs_len] at h8p
           refine ar ?_
           refine Exists.intro ((x.1+1,(matchS n x.2 (nth p.kids x.1) (nth v.kids x.1)).1)) ⟨⟨by dsimp only;omega,by dsimp only;rw[←matchSL_next (by omega) (by omega) (by assumption)];exact hg1.2.1,by have:=mok x.2 (nth v.kids x.1) (hkm x.1 (by omega)).shape;have:=psize_drop (l:=p.kids) (i:=x.1) (by omega);have:=hg1.2.2;dsimp only;omega⟩,(by dsimp only;omega),Sub.x (by kernel_rfl) (by kernel_rfl) ⟨⟨_,rfl,(LeA.eqi (by first|rfl|omega|(simp;done)))⟩,⟨⟨_,rfl,(by first|exact LeA.refl _|exact LeA.gld (by first|rfl|omega|(simp;done))|exact LeA.nild (by first|rfl|omega|(simp;done))|exact LeA.eqsl (by first|rfl|omega|(simp;done))|exact LeA.eqd (by first|rfl|omega|(simp;done)))⟩,trivial⟩⟩ (by kernel_rfl) (by kernel_rfl) trivial⟩
         ·try simp only[Q,Pat.cs_len] at h7p
          refine rn0 (r2 rfl rfl) (.tup (.cons (.eqd ?_) (.cons (.eqd ?_) .nil)))
          all_goals (first|(rw[hm4,←hg1.2.1,matchSL_end (by omega)];all_goals rfl)|(rw[hm4,←hg1.2.1,matchSL_bad (by omega) (by omega) (by assumption)];all_goals rfl))
  ·have hn4:p.op=4→matchS (n+1) out p v=(out,false):=fun h4=>ms_4n h4 (fun hc=>c4 ⟨h4,hc⟩)
   have hc6:p.op=6→FnD Tryz.prog 42 [.d (.sl ([]++out.map Bd.c++[[.i p.var,.i v.ctor,.i v.num,encVals v.kids]])),.agg [.d (.i (nth p.kids 0).op),.d (.i (nth p.kids 0).ctor),.d (.i (nth p.kids 0).n),.d (.i (nth p.kids 0).m),.d (.i (nth p.kids 0).var),.d (encPats (nth p.kids 0).kids)],.agg [.d (.i v.ctor),.d (.i v.num),.d (encVals v.kids)]] [] (.tup [.d (encBds (matchS n (out++[⟨p.var,v⟩]) (nth p.kids 0) v).1),.d (.bool (matchS n (out++[⟨p.var,v⟩]) (nth p.kids 0) v).2)]) []:=fun h6=>by
    have hh:=spec_l3Match_fn n m (out:=out++[⟨p.var,v⟩]) (k6 h6).2 (by have:=pnth_size (l:=p.kids) (i:=0) (by have:=(k6 h6).1;omega);simp;omega)
    rw[show encBds (out++[⟨p.var,v⟩]) = .sl ([]++out.map Bd.c++[[.i p.var,.i v.ctor,.i v.num,encVals v.kids]]) by simp[Bd.c]] at hh
    exact hh
   refine bd Tryz.f42 119 [] [] fun w0 F0 own kept hk=>?_
   refine Walk.box (id:=3004) .none rfl rfl rfl rfl rfl rfl rfl ?_
   refine Walk.box (id:=3005) .none rfl rfl rfl rfl rfl rfl rfl ?_
   refine ev ?_
   refine sq (fun h1 h1p h1s=>?_) fun h1 h1p h1s=>?_
   ·try simp only[Q,Pat.cs_len] at h1p
    refine rn0 (r2 rfl rfl) (.tup (.cons (.eqd ?_) (.cons (.eqd ?_) .nil)))
    all_goals (first|(rw[ms_1 (by omega)];all_goals rfl)|(rw[ms_2 (by omega)];all_goals first|rfl|(simp[encBds,Bd.c];done))|(rw[ms_3 (by omega)];all_goals first|rfl|(refine congrArg D.bool ?_;unfold within;first|(rw[decide_eq_false (show ¬p.n≤v.num by omega),Bool.false_and];done)|(rw[decide_eq_true (show p.n≤v.num by omega),Bool.true_and];done)))|(rw[ms_5a (by omega) (by assumption)];all_goals rfl)|(rw[ms_5b (by omega) (by simp_all)];all_goals rfl)|(rw[ms_6 (by omega)];all_goals rfl)|(rw[hn4 (by omega)];all_goals rfl))
   ·try simp only[Q,Pat.cs_len] at h1p
    refine sq (fun h2 h2p h2s=>?_) fun h2 h2p h2s=>?_
    ·try simp only[Q,Pat.cs_len] at h2p
     refine Walk.sliceEmptyG 1 sl32 .none rfl rfl ?_
     refine evd [] [] ?_
     refine Walk.append sl32 zz58 rfl .none rfl rfl rfl rfl (htokL rfl (by first|rfl|(simp;done)|(simp;omega))) (by intro x hx;first|exact bd_rows _ x hx|(simp at hx;subst hx;rfl)) (by simp;omega) (by simp;omega) ?_
     refine evd [] [] ?_
     refine Walk.build st58 (ks:=[0,1]) (xs:=[_,_]) rfl rfl .none rfl rfl rfl ?_
     refine Walk.sliceLit sl32 tz58 rfl (by decide) (ks:=[0]) (xs:=[_]) rfl rfl (by decide) (by decide) .none rfl rfl rfl rfl ?_
     refine Walk.append sl32 zz58 rfl .none rfl rfl rfl rfl (htokL rfl (by first|rfl|(simp;done)|(simp;omega))) (by intro x hx;first|exact bd_rows _ x hx|(simp at hx;subst hx;rfl)) (by simp;omega) (by simp;omega) ?_
     refine evd [] [] ?_
     refine dr ?_
     refine rn0 (r2 rfl rfl) (.tup (.cons (.gld ?_) (.cons (.eqd ?_) .nil)))
     all_goals (first|(rw[ms_1 (by omega)];all_goals rfl)|(rw[ms_2 (by omega)];all_goals first|rfl|(simp[encBds,Bd.c];done))|(rw[ms_3 (by omega)];all_goals first|rfl|(refine congrArg D.bool ?_;unfold within;first|(rw[decide_eq_false (show ¬p.n≤v.num by omega),Bool.false_and];done)|(rw[decide_eq_true (show p.n≤v.num by omega),Bool.true_and];done)))|(rw[ms_5a (by omega) (by assumption)];all_goals rfl)|(rw[ms_5b (by omega) (by simp_all)];all_goals rfl)|(rw[ms_6 (by omega)];all_goals rfl)|(rw[hn4 (by omega)];all_goals rfl))
    ·try simp only[Q,Pat.cs_len] at h2p
     refine sq (fun h3 h3p h3s=>?_) fun h3 h3p h3s=>?_
     ·try simp only[Q,Pat.cs_len] at h3p
      refine sq (fun h4 h4p h4s=>?_) fun h4 h4p h4s=>?_
      ·try simp only[Q,Pat.cs_len] at h4p
       refine dr ?_
       refine rn0 (r2 rfl rfl) (.tup (.cons (.eqd ?_) (.cons (.eqd ?_) .nil)))
       all_goals (first|(rw[ms_1 (by omega)];all_goals rfl)|(rw[ms_2 (by omega)];all_goals first|rfl|(simp[encBds,Bd.c];done))|(rw[ms_3 (by omega)];all_goals first|rfl|(refine congrArg D.bool ?_;unfold within;first|(rw[decide_eq_false (show ¬p.n≤v.num by omega),Bool.false_and];done)|(rw[decide_eq_true (show p.n≤v.num by omega),Bool.true_and];done)))|(rw[ms_5a (by omega) (by assumption)];all_goals rfl)|(rw[ms_5b (by omega) (by simp_all)];all_goals rfl)|(rw[ms_6 (by omega)];all_goals rfl)|(rw[hn4 (by omega)];all_goals rfl))
      ·try simp only[Q,Pat.cs_len] at h4p
       refine dr ?_
       refine rn0 (r2 rfl rfl) (.tup (.cons (.eqd ?_) (.cons (.eqd ?_) .nil)))
       all_goals (first|(rw[ms_1 (by omega)];all_goals rfl)|(rw[ms_2 (by omega)];all_goals first|rfl|(simp[encBds,Bd.c];done))|(rw[ms_3 (by omega)];all_goals first|rfl|(refine congrArg D.bool ?_;unfold within;first|(rw[decide_eq_false (show ¬p.n≤v.num by omega),Bool.false_and];done)|(rw[decide_eq_true (show p.n≤v.num by omega),Bool.true_and];done)))|(rw[ms_5a (by omega) (by assumption)];all_goals rfl)|(rw[ms_5b (by omega) (by simp_all)];all_goals rfl)|(rw[ms_6 (by omega)];all_goals rfl)|(rw[hn4 (by omega)];all_goals rfl))
     ·try simp only[Q,Pat.cs_len] at h3p
      refine sq (fun h5 h5p h5s=>?_) fun h5 h5p h5s=>?_
      ·try simp only[Q,Pat.cs_len] at h5p
       refine Walk.idx (i:=0) sl35 .none rfl rfl rfl rfl (pats_at (by first|(have:=(k5 (by omega)).1;omega)|(have:=(k6 (by omega)).1;omega))) rfl ?_
       refine evd [] [] ?_
       refine Walk.call (cr:=[]) cal42 (spec_l3Match_fn n m (k5 (by omega)).2.1 (by have:=pnth_size (l:=p.kids) (i:=0) (by have:=(k5 (by omega)).1;omega);omega)) rfl .none rfl rfl (LeL.refl _) trivial rfl rfl rfl ?_
       refine evd [] [] ?_
       refine dr ?_
       refine sq (fun h6 h6p h6s=>?_) fun h6 h6p h6s=>?_
       ·try simp only[Q,Pat.cs_len] at h6p
        refine rn0 (r2 rfl rfl) (.tup (.cons (.eqd ?_) (.cons (.eqd ?_) .nil)))
        all_goals (first|(rw[ms_1 (by omega)];all_goals rfl)|(rw[ms_2 (by omega)];all_goals first|rfl|(simp[encBds,Bd.c];done))|(rw[ms_3 (by omega)];all_goals first|rfl|(refine congrArg D.bool ?_;unfold within;first|(rw[decide_eq_false (show ¬p.n≤v.num by omega),Bool.false_and];done)|(rw[decide_eq_true (show p.n≤v.num by omega),Bool.true_and];done)))|(rw[ms_5a (by omega) (by assumption)];all_goals rfl)|(rw[ms_5b (by omega) (by simp_all)];all_goals rfl)|(rw[ms_6 (by omega)];all_goals rfl)|(rw[hn4 (by omega)];all_goals rfl))
       ·try simp only[Q,Pat.cs_len] at h6p
        refine Walk.idx (i:=1) sl35 .none rfl rfl rfl rfl (pats_at (by first|(have:=(k5 (by omega)).1;omega)|(have:=(k6 (by omega)).1;omega))) rfl ?_
        refine evd [] [] ?_
        refine Walk.call (cr:=[]) cal42 (spec_l3Match_fn n m (k5 (by omega)).2.2 (by have:=pnth_size (l:=p.kids) (i:=1) (by have:=(k5 (by omega)).1;omega);omega)) rfl .none rfl rfl (LeL.refl _) trivial rfl rfl rfl ?_
        refine evd [] [] ?_
        refine dr ?_
        refine rn0 (r2 rfl rfl) (.tup (.cons (.eqd ?_) (.cons (.eqd ?_) .nil)))
        all_goals (first|(rw[ms_1 (by omega)];all_goals rfl)|(rw[ms_2 (by omega)];all_goals first|rfl|(simp[encBds,Bd.c];done))|(rw[ms_3 (by omega)];all_goals first|rfl|(refine congrArg D.bool ?_;unfold within;first|(rw[decide_eq_false (show ¬p.n≤v.num by omega),Bool.false_and];done)|(rw[decide_eq_true (show p.n≤v.num by omega),Bool.true_and];done)))|(rw[ms_5a (by omega) (by assumption)];all_goals rfl)|(rw[ms_5b (by omega) (by simp_all)];all_goals rfl)|(rw[ms_6 (by omega)];all_goals rfl)|(rw[hn4 (by omega)];all_goals rfl))
      ·try simp only[Q,Pat.cs_len] at h5p
       refine sq (fun h7 h7p h7s=>?_) fun h7 h7p h7s=>?_
       ·try simp only[Q,Pat.cs_len] at h7p
        refine Walk.sliceEmptyG 2 sl32 .none rfl rfl ?_
        refine evd [] [] ?_
        refine Walk.append sl32 zz58 rfl .none rfl rfl rfl rfl (htokL rfl (by first|rfl|(simp;done)|(simp;omega))) (by intro x hx;first|exact bd_rows _ x hx|(simp at hx;subst hx;rfl)) (by simp;omega) (by simp;omega) ?_
        refine evd [] [] ?_
        refine Walk.build st58 (ks:=[0,1]) (xs:=[_,_]) rfl rfl .none rfl rfl rfl ?_
        refine Walk.sliceLit sl32 tz58 rfl (by decide) (ks:=[0]) (xs:=[_]) rfl rfl (by decide) (by decide) .none rfl rfl rfl rfl ?_
        refine Walk.append sl32 zz58 rfl .none rfl rfl rfl rfl (htokL rfl (by first|rfl|(simp;done)|(simp;omega))) (by intro x hx;first|exact bd_rows _ x hx|(simp at hx;subst hx;rfl)) (by simp;omega) (by simp;omega) ?_
        refine evd [] [] ?_
        refine Walk.idx (i:=0) sl35 .none rfl rfl rfl rfl (pats_at (by first|(have:=(k5 (by omega)).1;omega)|(have:=(k6 (by omega)).1;omega))) rfl ?_
        refine evd [] [] ?_
        refine Walk.call (cr:=[]) cal42 (hc6 (by omega)) rfl .none rfl rfl (.cons (.gl _ _) (.cons (.refl _) (.cons (.refl _) .nil))) trivial rfl rfl rfl ?_
        refine evd [] [] ?_
        refine dr ?_
        refine rn0 (r2 rfl rfl) (.tup (.cons (.eqd ?_) (.cons (.eqd ?_) .nil)))
        all_goals (first|(rw[ms_1 (by omega)];all_goals rfl)|(rw[ms_2 (by omega)];all_goals first|rfl|(simp[encBds,Bd.c];done))|(rw[ms_3 (by omega)];all_goals first|rfl|(refine congrArg D.bool ?_;unfold within;first|(rw[decide_eq_false (show ¬p.n≤v.num by omega),Bool.false_and];done)|(rw[decide_eq_true (show p.n≤v.num by omega),Bool.true_and];done)))|(rw[ms_5a (by omega) (by assumption)];all_goals rfl)|(rw[ms_5b (by omega) (by simp_all)];all_goals rfl)|(rw[ms_6 (by omega)];all_goals rfl)|(rw[hn4 (by omega)];all_goals rfl))
       ·try simp only[Q,Pat.cs_len] at h7p
        refine sq (fun h8 h8p h8s=>?_) fun h8 h8p h8s=>?_
        ·try simp only[Q,Pat.cs_len] at h8p
         refine rn0 (r2 rfl rfl) (.tup (.cons (.eqd ?_) (.cons (.eqd ?_) .nil)))
         all_goals (first|(rw[ms_1 (by omega)];all_goals rfl)|(rw[ms_2 (by omega)];all_goals first|rfl|(simp[encBds,Bd.c];done))|(rw[ms_3 (by omega)];all_goals first|rfl|(refine congrArg D.bool ?_;unfold within;first|(rw[decide_eq_false (show ¬p.n≤v.num by omega),Bool.false_and];done)|(rw[decide_eq_true (show p.n≤v.num by omega),Bool.true_and];done)))|(rw[ms_5a (by omega) (by assumption)];all_goals rfl)|(rw[ms_5b (by omega) (by simp_all)];all_goals rfl)|(rw[ms_6 (by omega)];all_goals rfl)|(rw[hn4 (by omega)];all_goals rfl))
        ·try simp only[Q,Pat.cs_len] at h8p
         exfalso;apply c4;omega
def sortTo (L:List Bd) (m:Nat):List Bd:=(List.range m).flatMap fun(n:Nat)=>L.filter fun b=>decide (b.var=(n:Int))
def pickTo (L:List Bd) (n i:Nat):List Bd:=(L.take i).filter fun b=>decide (b.var=(n:Int))
theorem sortTo_succ (L:List Bd) (m:Nat):sortTo L (m+1)=sortTo L m++pickTo L m L.length:=by
 unfold sortTo pickTo;rw[List.range_succ,List.flatMap_append];simp
theorem pickTo_0 (L:List Bd) (n:Nat):pickTo L n 0=[]:=by simp[pickTo]
theorem pickTo_succ {L:List Bd}{n i:Nat} (h:i<L.length):pickTo L n (i+1)=pickTo L n i++(if (nth L i).var=(n:Int) then [nth L i] else []):=by
 unfold pickTo
 rw[List.take_succ_eq_append_getElem h,List.filter_append]
 congr 1
 rw[←nth_eq h]
 by_cases e:(nth L i).var=(n:Int)
 ·simp[e]
 ·simp[e]
theorem pickTo_yes {L:List Bd}{n i:Nat} (h:i<L.length) (e:(nth L i).var=(n:Int)):pickTo L n (i+1)=pickTo L n i++[nth L i]:=by rw[pickTo_succ h,if_pos e]
theorem pickTo_no {L:List Bd}{n i:Nat} (h:i<L.length) (e:¬(nth L i).var=(n:Int)):pickTo L n (i+1)=pickTo L n i:=by rw[pickTo_succ h,if_neg e,List.append_nil]
theorem pickTo_end {L:List Bd}{n i:Nat} (h:L.length≤i):pickTo L n i=pickTo L n L.length:=by
 unfold pickTo;rw[List.take_of_length_le h,List.take_of_length_le (Nat.le_refl _)]
theorem pickTo_len (L:List Bd) (n i:Nat):(pickTo L n i).length≤L.length:=by
 unfold pickTo
 have:=List.length_filter_le (fun b:Bd=>decide (b.var=(n:Int))) (L.take i)
 simp at this;omega
theorem sortTo_len (L:List Bd):∀m,(sortTo L m).length≤m*L.length
 |0=>by simp[sortTo]
 |m+1=>by
  rw[sortTo_succ,List.length_append,Nat.succ_mul]
  have:=sortTo_len L m
  have:=pickTo_len L m L.length
  omega
theorem spec_l3Sort_fn {L:List Bd}{m:Nat} (hl:L.length≤1000) (hok:BdOk m L):FnD Tryz.prog 44 [.d (encBds L)] [] (.d (encBds (sort6 L))) []:=by
 have hs6:sort6 L=sortTo L 6:=rfl
 rw[hs6]
 refine bd Tryz.f44 36 [] [] fun w0 F0 own kept hk=>?_
 refine Walk.sliceEmptyG 1 sl32 .none rfl rfl ?_
 refine ev ?_
 refine CWp.loopX (ι:=Nat) hk (fun n=>[(4,.d (.i (n:Int))),(3,.gl 1 ((sortTo L n).map Bd.c))]) [5,7,8,9,10,11,12,13,14,15,16,17,18,19,20,21,22,23,24,25,26,27,28,29,30,31,32,33,34] (fun n=>[(1,some (.tok (((sortTo L n).map Bd.c)).length 4))]) (fun n=>n≤6) (fun n=>6-n) 0 (by omega) ⟨⟨_,rfl,(LeA.eqi (by first|rfl|(rw[sortTo_succ,←pickTo_end (i:=i) (by omega)];done)|(simp;done)|omega))⟩,⟨⟨_,rfl,(LeA.glg (by first|rfl|(rw[sortTo_succ,←pickTo_end (i:=i) (by omega)];done)|(simp;done)|omega))⟩,trivial⟩⟩ ⟨beq_nat_eq (by first|rfl|(simp;done)|(simp;omega)|(first|rfl|(rw[sortTo_succ,←pickTo_end (i:=i) (by omega)];done)|(simp;done)|omega)),trivial⟩ (fun x=>rfl) (fun n hg1=>?_)
 refine evc [] [] ?_
 refine sq (fun h1 h1p h1s=>?_) fun h1 h1p h1s=>?_
 ·try simp only[Q,Int.natCast_inj] at h1p
  refine CWp.loopX (ι:=Nat) hk (fun i=>[(5,.d (.i (i:Int))),(3,.gl 1 ((sortTo L n++pickTo L n i).map Bd.c))]) [11,12,13,14,15,16,17,18,19,20,21,22,23,24,25,26,27,28,29,30,31,32,33,34] (fun i=>[(1,some (.tok (((sortTo L n++pickTo L n i).map Bd.c)).length 4))]) (fun i=>i≤L.length) (fun i=>L.length-i) 0 (by omega) ⟨⟨_,rfl,(LeA.eqi (by first|rfl|(rw[pickTo_0,List.append_nil];done)|(rw[pickTo_no (by omega) (by omega)];done)|(rw[pickTo_yes (by omega) (by omega),←List.append_assoc,List.map_append,List.map_append];rw[List.map_append];congr 1;simp[Bd.c];omega)|(simp;done)|omega))⟩,⟨⟨_,rfl,(LeA.glg (by first|rfl|(rw[pickTo_0,List.append_nil];done)|(rw[pickTo_no (by omega) (by omega)];done)|(rw[pickTo_yes (by omega) (by omega),←List.append_assoc,List.map_append,List.map_append];rw[List.map_append];congr 1;simp[Bd.c];omega)|(simp;done)|omega))⟩,trivial⟩⟩ ⟨beq_nat_eq (by first|rfl|(simp;done)|(simp;omega)|(first|rfl|(rw[pickTo_0,List.append_nil];done)|(rw[pickTo_no (by omega) (by omega)];done)|(rw[pickTo_yes (by omega) (by omega),←List.append_assoc,List.map_append,List.map_append];rw[List.map_append];congr 1;simp[Bd.c];omega)|(simp;done)|omega)),trivial⟩ (fun x=>rfl) (fun i hg2=>?_)
  refine evc [] [] ?_
  refine sq (fun h2 h2p h2s=>?_) fun h2 h2p h2s=>?_
  ·try simp only[Q,Int.natCast_inj] at h2p
   refine Walk.idx sl32 .none rfl rfl rfl rfl (at_nth (by omega)) rfl ?_
   refine ev ?_
   refine sq (fun h3 h3p h3s=>?_) fun h3 h3p h3s=>?_
   ·try simp only[Q,Int.natCast_inj] at h3p
    refine Walk.idx sl32 .none rfl rfl rfl rfl (at_nth (by omega)) rfl ?_
    refine ev ?_
    refine Walk.call (cr:=[]) cal74 (spec_l2Copy_fn _ (Nat.le_refl _) (hok (nth L i) (nth_mem (by omega))).1) rfl .none rfl rfl (LeL.refl _) trivial rfl rfl rfl ?_
    refine Walk.build st58 (ks:=[0,1]) (xs:=[_,_]) rfl rfl .none rfl rfl rfl ?_
    refine Walk.sliceLit sl32 tz58 rfl (by decide) (ks:=[0]) (xs:=[_]) rfl rfl (by decide) (by decide) .none rfl rfl rfl rfl ?_
    refine Walk.append sl32 zz58 rfl .none rfl rfl rfl rfl (htokL rfl (by first|rfl|(simp;done)|(simp;omega))) (by intro x hx;simp at hx;subst hx;rfl) (by have:=pickTo_len L n i;have:=sortTo_len L n;have:=Nat.mul_le_mul (show n≤6 by omega) hl;simp;omega) (by have:=pickTo_len L n i;have:=sortTo_len L n;have:=Nat.mul_le_mul (show n≤6 by omega) hl;simp;omega) ?_
    refine ev ?_
    refine ar ?_
    refine Exists.intro (i+1) ⟨(by omega),(by omega),Sub.x (by kernel_rfl) (by kernel_rfl) ⟨⟨_,rfl,(LeA.eqi (by first|rfl|(rw[pickTo_0,List.append_nil];done)|(rw[pickTo_no (by omega) (by omega)];done)|(rw[pickTo_yes (by omega) (by omega),←List.append_assoc,List.map_append,List.map_append];rw[List.map_append];congr 1;simp[Bd.c];omega)|(simp;done)|omega))⟩,⟨⟨_,rfl,(LeA.glg (by first|rfl|(rw[pickTo_0,List.append_nil];done)|(rw[pickTo_no (by omega) (by omega)];done)|(rw[pickTo_yes (by omega) (by omega),←List.append_assoc,List.map_append,List.map_append];rw[List.map_append];congr 1;simp[Bd.c];omega)|(simp;done)|omega))⟩,trivial⟩⟩ (by kernel_rfl) (by kernel_rfl) ⟨beq_nat_eq (by first|rfl|(simp;done)|(simp;omega)|(first|rfl|(rw[pickTo_0,List.append_nil];done)|(rw[pickTo_no (by omega) (by omega)];done)|(rw[pickTo_yes (by omega) (by omega),←List.append_assoc,List.map_append,List.map_append];rw[List.map_append];congr 1;simp[Bd.c];omega)|(simp;done)|omega)),trivial⟩⟩
   ·try simp only[Q,Int.natCast_inj] at h3p
    refine ar ?_
    refine Exists.intro (i+1) ⟨(by omega),(by omega),Sub.x (by kernel_rfl) (by kernel_rfl) ⟨⟨_,rfl,(LeA.eqi (by first|rfl|(rw[pickTo_0,List.append_nil];done)|(rw[pickTo_no (by omega) (by omega)];done)|(rw[pickTo_yes (by omega) (by omega),←List.append_assoc,List.map_append,List.map_append];rw[List.map_append];congr 1;simp[Bd.c];omega)|(simp;done)|omega))⟩,⟨⟨_,rfl,(LeA.glg (by first|rfl|(rw[pickTo_0,List.append_nil];done)|(rw[pickTo_no (by omega) (by omega)];done)|(rw[pickTo_yes (by omega) (by omega),←List.append_assoc,List.map_append,List.map_append];rw[List.map_append];congr 1;simp[Bd.c];omega)|(simp;done)|omega))⟩,trivial⟩⟩ (by kernel_rfl) (by kernel_rfl) ⟨beq_nat_eq (by first|rfl|(simp;done)|(simp;omega)|(first|rfl|(rw[pickTo_0,List.append_nil];done)|(rw[pickTo_no (by omega) (by omega)];done)|(rw[pickTo_yes (by omega) (by omega),←List.append_assoc,List.map_append,List.map_append];rw[List.map_append];congr 1;simp[Bd.c];omega)|(simp;done)|omega)),trivial⟩⟩
  ·try simp only[Q,Int.natCast_inj] at h2p
   refine ar ?_
   refine Exists.intro (n+1) ⟨(by omega),(by omega),Sub.x (by kernel_rfl) (by kernel_rfl) ⟨⟨_,rfl,(LeA.eqi (by first|rfl|(rw[sortTo_succ,←pickTo_end (i:=i) (by omega)];done)|(simp;done)|omega))⟩,⟨⟨_,rfl,(LeA.glg (by first|rfl|(rw[sortTo_succ,←pickTo_end (i:=i) (by omega)];done)|(simp;done)|omega))⟩,trivial⟩⟩ (by kernel_rfl) (by kernel_rfl) ⟨beq_nat_eq (by first|rfl|(simp;done)|(simp;omega)|(first|rfl|(rw[sortTo_succ,←pickTo_end (i:=i) (by omega)];done)|(simp;done)|omega)),trivial⟩⟩
 ·try simp only[Q,Int.natCast_inj] at h1p
  refine rn0 (r1 rfl) (.gld ?_)
  all_goals (first|rfl|(rw[show n=6 by omega];done)|(obtain rfl:n=6:=(by omega);rfl))
def RunOk (w:List Data) (t:Ty) (l:List Cl) (v:Val):Prop:=∀i,i<l.length→MatchOk w 10 10 t (nth l i).pat v∧isP w t (nth l i).pat=true
theorem match_nod {w:List Data}{m:Nat}{t:Ty}{p:Pat}{v:Val} (h:MatchOk w 10 m t p v) (hp:isP w t p=true) (hm:(matchV 10 p v).2=true):((matchV 10 p v).1.map Bd.var).Nodup∧∀b∈(matchV 10 p v).1,0≤b.var∧b.var≤5:=by
 have hp':=hp
 unfold isP at hp
 simp only[Bool.and_eq_true] at hp
 have k:=match_vars 10 m h hp.2.2 hm
 refine⟨k.nod,fun b hb=>?_⟩
 have e:=(scanP_eq w 10 t p 0).1
 have hw:wantP w 10 t p 0=true:=by
  unfold wantP;rw[hp.1,hp.2.2];have:=of_decide_eq_true hp.2.1;simp;omega
 rw[if_pos hw] at e
 have:=scanP_in w 10 t p 0 _ e
 obtain⟨x,hx,ex⟩:=List.mem_map.1 (k.sub b.var (List.mem_map.2 ⟨b,hb,rfl⟩))
 have h3:=this.1 x hx
 rw[←ex];exact h3
theorem runAt_eq {w:List Data}{m:Nat}{t:Ty}{c:Cl}{v:Val} (h:MatchOk w 10 m t c.pat v) (hp:isP w t c.pat=true):runAt c v=((matchedV 10 c.pat v).2&&gdHold c.g (matchedV 10 c.pat v).1):=by
 unfold runAt matchedV
 cases hm:(matchV 10 c.pat v).2 with
 |false=>rfl
 |true=>
  rw[if_pos rfl,Bool.true_and,Bool.true_and]
  exact(hold_perm (sortB_perm _) (match_nod h hp hm).1).symm
theorem matched_sort {p:Pat}{v:Val} (h:(matchedV 10 p v).2=true):(matchedV 10 p v).1=sortB (matchV 10 p v).1:=by
 rw[matchedV_ok] at h
 unfold matchedV;rw[if_pos h]
theorem matched_len {w:List Data}{m:Nat}{t:Ty}{p:Pat}{v:Val} (h:MatchOk w 10 m t p v) (hp:isP w t p=true):(matchedV 10 p v).1.length≤6:=by
 unfold matchedV
 split
 ·rename_i hm;rw[sortB_len];exact match_six h hp hm
 ·simp
theorem runS_eq {w:List Data}{m:Nat}{t:Ty}{c:Cl}{v:Val} (h:MatchOk w 10 m t c.pat v):runAt c v=((matchS 10 [] c.pat v).2&&gdHold c.g (matchS 10 [] c.pat v).1):=by
 unfold runAt
 obtain⟨h1,h2⟩:=matchS_eq 10 [] c.pat v
 rw[h1]
 cases hm:(matchV 10 c.pat v).2 with
 |false=>rfl
 |true=>rw[h2 hm,List.nil_append]
theorem matchS_sort {w:List Data}{m:Nat}{t:Ty}{p:Pat}{v:Val} (h:MatchOk w 10 m t p v) (hp:isP w t p=true) (hm:(matchS 10 [] p v).2=true):sort6 (matchS 10 [] p v).1=sortB (matchV 10 p v).1:=by
 obtain⟨h1,h2⟩:=matchS_eq 10 [] p v
 rw[h1] at hm
 rw[h2 hm,List.nil_append]
 exact sort6_eq (match_nod h hp hm).1 (match_nod h hp hm).2
theorem impl_run_fn {w:List Data}{t:Ty}{l:List Cl}{v:Val} (hl:l.length≤1000000000000) (hr:RunOk w t l v):
  FnD Tryz.prog 19 [.d (encCls l),.agg [.d (.i v.ctor),.d (.i v.num),.d (encVals v.kids)]] [] (.tup [.d (.i (runV l v 0).1),.d (encBds (runV l v 0).2)]) []:=by
 have hhit:=fun(i:Nat) (hi:i<l.length) (h:((matchedV 10 (nth l i).pat v).2&&gdHold (nth l i).g (matchedV 10 (nth l i).pat v).1)=true)=>runV_hit (v:=v) hi (by rw[runAt_eq (hr i hi).1 (hr i hi).2];exact h)
 have hnext:=fun(i:Nat) (hi:i<l.length) (h:((matchedV 10 (nth l i).pat v).2&&gdHold (nth l i).g (matchedV 10 (nth l i).pat v).1)=false)=>runV_next (v:=v) hi (by rw[runAt_eq (hr i hi).1 (hr i hi).2];exact h)
 have hms:=fun(i:Nat)=>matched_sort (p:=(nth l i).pat) (v:=v)
 refine bd Tryz.f19 34 [] [] fun w0 F0 own kept hk=>?_
 refine Walk.box (id:=3003) .none rfl rfl rfl rfl rfl rfl rfl ?_
 refine ev ?_
 refine CWp.loopX (ι:=Nat) hk (fun i=>[(12,.d (.i (i:Int)))]) [4,5,6,7,8,9,13,14,15,16,17,18,19,20,21,22,23,24,25,26,27,28,29,30,31,32,33] (fun i=>[]) (fun i=>i≤l.length∧runV (l.drop i) v (i:Int)=runV l v 0) (fun i=>l.length-i) 0 ⟨by omega,rfl⟩ ⟨⟨_,rfl,(LeA.eqi (by first|rfl|(simp;done)|(simp_all;done)|omega))⟩,trivial⟩ trivial (fun x=>rfl) (fun i hg1=>?_)
 refine evc [] [] ?_
 refine sq (fun h1 h1p h1s=>?_) fun h1 h1p h1s=>?_
 ·try simp only[Q,Int.natCast_inj] at h1p
  refine Walk.idx sl26 .none rfl rfl rfl rfl (at_nth (by omega)) rfl ?_
  refine ev ?_
  refine Walk.alloc (id:=3007) tz41 rfl .none rfl rfl rfl rfl ?_
  refine ev ?_
  refine Walk.store ty41 .none rfl rfl rfl rfl rfl rfl (by simp) rfl ?_
  refine tv ?_
  refine Walk.call (cr:=[]) cal29 (impl_matched_fn (hr i (by omega)).1 (hr i (by omega)).2) rfl .none rfl rfl (LeL.refl _) trivial rfl rfl rfl ?_
  refine ev ?_
  refine sq (fun h2 h2p h2s=>?_) fun h2 h2p h2s=>?_
  ·try simp only[Q,Int.natCast_inj] at h2p
   refine Walk.call (cr:=[]) cal13 (impl_GuardHolds_fn (g:=(nth l i).g) (by have:=matched_len (hr i (by omega)).1 (hr i (by omega)).2;omega)) rfl (.some rfl rfl h2) rfl rfl (LeL.refl _) trivial rfl rfl rfl ?_
   refine evs [] [(25,true)] ?_ ⟨⟨_,rfl,h2⟩,trivial⟩
   refine sq (fun h3 h3p h3s=>?_) fun h3 h3p h3s=>?_
   ·try simp only[Q,Int.natCast_inj] at h3p
    refine rn0 (r2 rfl rfl) (.tup (.cons (.eqd ?_) (.cons (.eqd ?_) .nil)))
    all_goals (first|(rw[←hg1.2,hhit i (by omega) (by simp_all)];all_goals rfl)|(rw[←hg1.2,hhit i (by omega) (by simp_all),←hms i (by simp_all)];done)|(rw[←hg1.2,runV_end (by omega)];all_goals rfl))
   ·try simp only[Q,Int.natCast_inj] at h3p
    refine ar ?_
    refine Exists.intro (i+1) ⟨⟨by omega,by rw[←hnext i (by omega) (by simp_all)];exact hg1.2⟩,(by omega),Sub.x (by kernel_rfl) (by kernel_rfl) ⟨⟨_,rfl,(LeA.eqi (by first|rfl|(simp;done)|(simp_all;done)|omega))⟩,trivial⟩ (by kernel_rfl) (by kernel_rfl) trivial⟩
  ·try simp only[Q,Int.natCast_inj] at h2p
   refine sqF ?_
   refine ar ?_
   refine Exists.intro (i+1) ⟨⟨by omega,by rw[←hnext i (by omega) (by simp_all)];exact hg1.2⟩,(by omega),Sub.x (by kernel_rfl) (by kernel_rfl) ⟨⟨_,rfl,(LeA.eqi (by first|rfl|(simp;done)|(simp_all;done)|omega))⟩,trivial⟩ (by kernel_rfl) (by kernel_rfl) trivial⟩
 ·try simp only[Q,Int.natCast_inj] at h1p
  refine rn0 (r2 rfl rfl) (.tup (.cons (.eqd ?_) (.cons (.nild ?_) .nil)))
  all_goals (first|(rw[←hg1.2,hhit i (by omega) (by simp_all)];all_goals rfl)|(rw[←hg1.2,hhit i (by omega) (by simp_all),←hms i (by simp_all)];done)|(rw[←hg1.2,runV_end (by omega)];all_goals rfl))
theorem spec_l4Run_fn {w:List Data}{t:Ty}{l:List Cl}{v:Val} (hl:l.length≤1000000000000) (hr:RunOk w t l v):
  FnD Tryz.prog 22 [.d (encCls l),.agg [.d (.i v.ctor),.d (.i v.num),.d (encVals v.kids)]] [] (.tup [.d (.i (runV l v 0).1),.d (encBds (runV l v 0).2)]) []:=by
 have hhit:=fun(i:Nat) (hi:i<l.length) (h:((matchS 10 [] (nth l i).pat v).2&&gdHold (nth l i).g (matchS 10 [] (nth l i).pat v).1)=true)=>runV_hit (v:=v) hi (by rw[runS_eq (hr i hi).1];exact h)
 have hnext:=fun(i:Nat) (hi:i<l.length) (h:((matchS 10 [] (nth l i).pat v).2&&gdHold (nth l i).g (matchS 10 [] (nth l i).pat v).1)=false)=>runV_next (v:=v) hi (by rw[runS_eq (hr i hi).1];exact h)
 have hms:=fun(i:Nat) (hi:i<l.length)=>matchS_sort (hr i hi).1 (hr i hi).2
 have hlen:=fun(i:Nat) (hi:i<l.length)=>matchS_len 10 [] v (hr i hi).1.shape
 have hbok:=fun(i:Nat) (hi:i<l.length) (h:(matchS 10 [] (nth l i).pat v).2=true)=>show BdOk v.size (matchS 10 [] (nth l i).pat v).1 by
  obtain⟨h1,h2⟩:=matchS_eq 10 [] (nth l i).pat v
  rw[h1] at h
  rw[h2 h]
  exact(matchV_ok 10 (hr i hi).1.shape (hr i hi).1.vok).1
 have hpsz:=fun(i:Nat) (hi:i<l.length)=>(hr i hi).1.psz
 refine bd Tryz.f22 39 [] [] fun w0 F0 own kept hk=>?_
 refine Walk.box (id:=3003) .none rfl rfl rfl rfl rfl rfl rfl ?_
 refine ev ?_
 refine CWp.loopX (ι:=Nat) hk (fun i=>[(6,.d (.i (i:Int)))]) [4,5,7,8,9,10,11,12,13,14,15,16,17,18,19,20,21,22,23,24,25,26,27,28,29,30,31,32,33,34,35,36,37] (fun i=>[]) (fun i=>i≤l.length∧runV (l.drop i) v (i:Int)=runV l v 0) (fun i=>l.length-i) 0 ⟨by omega,rfl⟩ ⟨⟨_,rfl,(LeA.eqi (by first|rfl|(simp;done)|(simp_all;done)|omega))⟩,trivial⟩ trivial (fun x=>rfl) (fun i hg1=>?_)
 refine evc [] [] ?_
 refine sq (fun h1 h1p h1s=>?_) fun h1 h1p h1s=>?_
 ·try simp only[Q,Int.natCast_inj] at h1p
  refine Walk.idx sl26 .none rfl rfl rfl rfl (at_nth (by omega)) rfl ?_
  refine evd [] [] ?_
  refine Walk.call (cr:=[]) cal42 (spec_l3Match_fn 10 10 (out:=[]) (hr i (by omega)).1 (by have:=hpsz i (by omega);simp;omega)) rfl .none rfl rfl (.cons .nil (.cons (.refl _) (.cons (.refl _) .nil))) trivial rfl rfl rfl ?_
  refine evd [] [] ?_
  refine dr ?_
  refine sq (fun h2 h2p h2s=>?_) fun h2 h2p h2s=>?_
  ·try simp only[Q,Int.natCast_inj] at h2p
   refine Walk.idx sl26 (.some rfl rfl h2) rfl rfl rfl rfl (at_nth (by omega)) rfl ?_
   refine evs [] [(26,true)] ?_ ⟨⟨_,rfl,h2⟩,trivial⟩
   refine Walk.call (cr:=[]) cal43 (spec_GuardHolds_fn (g:=(nth l i).g) (by have:=hlen i (by omega);have:=hpsz i (by omega);simp at *;omega)) rfl (.some rfl rfl h2) rfl rfl (LeL.refl _) trivial rfl rfl rfl ?_
   refine evs [] [(26,true)] ?_ ⟨⟨_,rfl,h2⟩,trivial⟩
   refine sq (fun h3 h3p h3s=>?_) fun h3 h3p h3s=>?_
   ·try simp only[Q,Int.natCast_inj] at h3p
    refine Walk.call (cr:=[]) cal44 (spec_l3Sort_fn (by have:=hlen i (by omega);have:=hpsz i (by omega);simp at *;omega) (hbok i (by omega) (by simp_all))) rfl .none rfl rfl (LeL.refl _) trivial rfl rfl rfl ?_
    refine ev ?_
    refine rn0 (r2 rfl rfl) (.tup (.cons (.eqd ?_) (.cons (.eqd ?_) .nil)))
    all_goals (first|(rw[←hg1.2,hhit i (by omega) (by simp_all)];all_goals rfl)|(rw[←hg1.2,hhit i (by omega) (by simp_all),hms i (by omega) (by simp_all)];done)|(rw[←hg1.2,runV_end (by omega)];all_goals rfl))
   ·try simp only[Q,Int.natCast_inj] at h3p
    refine ar ?_
    refine Exists.intro (i+1) ⟨⟨by omega,by rw[←hnext i (by omega) (by simp_all)];exact hg1.2⟩,(by omega),Sub.x (by kernel_rfl) (by kernel_rfl) ⟨⟨_,rfl,(LeA.eqi (by first|rfl|(simp;done)|(simp_all;done)|omega))⟩,trivial⟩ (by kernel_rfl) (by kernel_rfl) trivial⟩
  ·try simp only[Q,Int.natCast_inj] at h2p
   refine sqF ?_
   refine ar ?_
   refine Exists.intro (i+1) ⟨⟨by omega,by rw[←hnext i (by omega) (by simp_all)];exact hg1.2⟩,(by omega),Sub.x (by kernel_rfl) (by kernel_rfl) ⟨⟨_,rfl,(LeA.eqi (by first|rfl|(simp;done)|(simp_all;done)|omega))⟩,trivial⟩ (by kernel_rfl) (by kernel_rfl) trivial⟩
 ·try simp only[Q,Int.natCast_inj] at h1p
  refine Walk.sliceEmpty sl32 .none rfl ?_
  refine ev ?_
  refine rn0 (r2 rfl rfl) (.tup (.cons (.eqd ?_) (.cons (.eqd ?_) .nil)))
  all_goals (first|(rw[←hg1.2,hhit i (by omega) (by simp_all)];all_goals rfl)|(rw[←hg1.2,hhit i (by omega) (by simp_all),hms i (by omega) (by simp_all)];done)|(rw[←hg1.2,runV_end (by omega)];all_goals rfl))
theorem cls_run {w:List Data}{a k:Int}{l:List Cl}{v:Val} (h:clsValid w ⟨a,k⟩ l=true) (hl:ClsOk l) (hv:v.ok) (h2:isV w ⟨a,k⟩ v=true):RunOk w ⟨a,k⟩ l v:=by
 intro i hi
 unfold clsValid at h
 simp only[Bool.and_eq_true,Bool.not_eq_true',List.any_eq_false,Bool.not_eq_true] at h
 have h3:=h.2.2 _ (nth_mem hi)
 have h4:clOk w ⟨a,k⟩ (nth l i)=true:=by simpa using h3
 unfold clOk at h4
 rw[Bool.and_eq_true] at h4
 exact⟨match_ok h4.1 h2 (hl.2 _ (nth_mem hi)) hv,h4.1⟩
theorem clsV_tv {w:List Data}{a k:Int}{l:List Cl} (h:clsValid w ⟨a,k⟩ l=true):typeValid w ⟨a,k⟩=true∧l.length≤8:=by
 unfold clsValid at h
 simp only[Bool.and_eq_true,decide_eq_true_eq] at h
 exact⟨h.1,by omega⟩
def runC (w:List Data) (a k:Int) (l:List Cl) (v:Val):(Int×List Bd)×Bool:=if clsValid w ⟨a,k⟩ l=true∧isV w ⟨a,k⟩ v=true then (runV l v 0,true) else ((-1,[]),false)
theorem runC_yes {w:List Data}{a k:Int}{l:List Cl}{v:Val} (h1:clsValid w ⟨a,k⟩ l=true) (h2:isV w ⟨a,k⟩ v=true):runC w a k l v=(runV l v 0,true):=by unfold runC;rw[if_pos ⟨h1,h2⟩]
theorem runC_no {w:List Data}{a k:Int}{l:List Cl}{v:Val} (h1:¬(clsValid w ⟨a,k⟩ l=true∧isV w ⟨a,k⟩ v=true)):runC w a k l v=((-1,[]),false):=by unfold runC;rw[if_neg h1]
theorem impl_RunClauses_fn {w:List Data} (hs:WSmall w){a k:Int}{l:List Cl}{v:Val} (hl:ClsOk l) (hv:v.ok):
  FnD Tryz.prog 8 [.d (encDatas w),.agg [.d (.i a),.d (.i k)],.d (encCls l),.agg [.d (.i v.ctor),.d (.i v.num),.d (encVals v.kids)]] [] (.tup [.d (.i (runC w a k l v).1.1),.d (encBds (runC w a k l v).1.2),.d (.bool (runC w a k l v).2)]) []:=by
 have hcv:=impl_ClausesValid_fn hs (a:=a) (k:=k) hl
 have hyes:=runC_yes (w:=w) (a:=a) (k:=k) (l:=l) (v:=v)
 have hno1:=fun(h:clsValid w ⟨a,k⟩ l=false)=>runC_no (w:=w) (a:=a) (k:=k) (l:=l) (v:=v) (fun hh=>by rw[h] at hh;exact absurd hh.1 (by simp))
 have hno2:=fun(h:isV w ⟨a,k⟩ v=false)=>runC_no (w:=w) (a:=a) (k:=k) (l:=l) (v:=v) (fun hh=>by rw[h] at hh;exact absurd hh.2 (by simp))
 refine bd Tryz.f8 33 [] [] fun w0 F0 own kept hk=>?_
 refine Walk.box (id:=3005) .none rfl rfl rfl rfl rfl rfl rfl ?_
 refine Walk.box (id:=3007) .none rfl rfl rfl rfl rfl rfl rfl ?_
 refine ev ?_
 refine Walk.call (cr:=[]) cal11 (hcv) rfl .none rfl rfl (LeL.refl _) trivial rfl rfl rfl ?_
 refine ev ?_
 refine sq (fun h1 h1p h1s=>?_) fun h1 h1p h1s=>?_
 ·try simp only[Q] at h1p
  refine sqT ?_
  refine rn0 (.cons (.tmp rfl) (.cons (.tmp rfl) (.cons (.tmp rfl) .nil))) (.tup (.cons (.eqd ?_) (.cons (.nild ?_) (.cons (.eqd ?_) .nil))))
  all_goals (first|(rw[hyes (by assumption) (by assumption)];all_goals rfl)|(rw[hno1 (by assumption)];all_goals rfl)|(rw[hno2 (by assumption)];all_goals rfl))
 ·try simp only[Q] at h1p
  refine Walk.call (cr:=[]) cal18 (impl_valueOk_fn (valid_wt hs (tv_facts (clsV_tv (l:=l) (a:=a) (k:=k) (by assumption)).1).1) (tv_facts (clsV_tv (l:=l) (a:=a) (k:=k) (by assumption)).1).2.1 hv) rfl (.some rfl rfl h1) rfl rfl (LeL.refl _) trivial rfl rfl rfl ?_
  refine evs [] [(18,false)] ?_ ⟨⟨_,rfl,h1⟩,trivial⟩
  refine sq (fun h3 h3p h3s=>?_) fun h3 h3p h3s=>?_
  ·try simp only[Q] at h3p
   refine rn0 (.cons (.tmp rfl) (.cons (.tmp rfl) (.cons (.tmp rfl) .nil))) (.tup (.cons (.eqd ?_) (.cons (.nild ?_) (.cons (.eqd ?_) .nil))))
   all_goals (first|(rw[hyes (by assumption) (by assumption)];all_goals rfl)|(rw[hno1 (by assumption)];all_goals rfl)|(rw[hno2 (by assumption)];all_goals rfl))
  ·try simp only[Q] at h3p
   refine Walk.call (cr:=[]) cal19 (impl_run_fn hl.1 (cls_run (a:=a) (k:=k) (by assumption) hl hv (by assumption))) rfl .none rfl rfl (LeL.refl _) trivial rfl rfl rfl ?_
   refine ev ?_
   refine rn0 (.cons (.tmp rfl) (.cons (.tmp rfl) (.cons (.tmp rfl) .nil))) (.tup (.cons (.eqd ?_) (.cons (.eqd ?_) (.cons (.eqd ?_) .nil))))
   all_goals (first|(rw[hyes (by assumption) (by assumption)];all_goals rfl)|(rw[hno1 (by assumption)];all_goals rfl)|(rw[hno2 (by assumption)];all_goals rfl))
theorem spec_RunClauses_fn {w:List Data} (hs:WSmall w){a k:Int}{l:List Cl}{v:Val} (hl:ClsOk l) (hz:ClsSz l) (hv:v.ok) (hvz:v.size≤1000000000000):
  FnD Tryz.prog 9 [.d (encDatas w),.agg [.d (.i a),.d (.i k)],.d (encCls l),.agg [.d (.i v.ctor),.d (.i v.num),.d (encVals v.kids)]] [] (.tup [.d (.i (runC w a k l v).1.1),.d (encBds (runC w a k l v).1.2),.d (.bool (runC w a k l v).2)]) []:=by
 have hcv:=spec_ClausesValid_fn hs (a:=a) (k:=k) hl hz
 have hyes:=runC_yes (w:=w) (a:=a) (k:=k) (l:=l) (v:=v)
 have hno1:=fun(h:clsValid w ⟨a,k⟩ l=false)=>runC_no (w:=w) (a:=a) (k:=k) (l:=l) (v:=v) (fun hh=>by rw[h] at hh;exact absurd hh.1 (by simp))
 have hno2:=fun(h:isV w ⟨a,k⟩ v=false)=>runC_no (w:=w) (a:=a) (k:=k) (l:=l) (v:=v) (fun hh=>by rw[h] at hh;exact absurd hh.2 (by simp))
 refine bd Tryz.f9 34 [] [] fun w0 F0 own kept hk=>?_
 refine Walk.box (id:=3005) .none rfl rfl rfl rfl rfl rfl rfl ?_
 refine Walk.box (id:=3007) .none rfl rfl rfl rfl rfl rfl rfl ?_
 refine ev ?_
 refine Walk.call (cr:=[]) cal20 (hcv) rfl .none rfl rfl (LeL.refl _) trivial rfl rfl rfl ?_
 refine ev ?_
 refine sq (fun h1 h1p h1s=>?_) fun h1 h1p h1s=>?_
 ·try simp only[Q] at h1p
  refine sqT ?_
  refine Walk.sliceEmpty sl32 .none rfl ?_
  refine ev ?_
  refine rn0 (.cons (.tmp rfl) (.cons (.tmp rfl) (.cons (.tmp rfl) .nil))) (.tup (.cons (.eqd ?_) (.cons (.eqd ?_) (.cons (.eqd ?_) .nil))))
  all_goals (first|(rw[hyes (by assumption) (by assumption)];all_goals rfl)|(rw[hno1 (by assumption)];all_goals rfl)|(rw[hno2 (by assumption)];all_goals rfl))
 ·try simp only[Q] at h1p
  refine Walk.call (cr:=[]) cal21 (spec_l2Is_fn (valid_wt hs (tv_facts (clsV_tv (l:=l) (a:=a) (k:=k) (by assumption)).1).1) (tv_facts (clsV_tv (l:=l) (a:=a) (k:=k) (by assumption)).1).2.1 hv hvz) rfl (.some rfl rfl h1) rfl rfl (LeL.refl _) trivial rfl rfl rfl ?_
  refine evs [] [(18,false)] ?_ ⟨⟨_,rfl,h1⟩,trivial⟩
  refine sq (fun h3 h3p h3s=>?_) fun h3 h3p h3s=>?_
  ·try simp only[Q] at h3p
   refine Walk.sliceEmpty sl32 .none rfl ?_
   refine ev ?_
   refine rn0 (.cons (.tmp rfl) (.cons (.tmp rfl) (.cons (.tmp rfl) .nil))) (.tup (.cons (.eqd ?_) (.cons (.eqd ?_) (.cons (.eqd ?_) .nil))))
   all_goals (first|(rw[hyes (by assumption) (by assumption)];all_goals rfl)|(rw[hno1 (by assumption)];all_goals rfl)|(rw[hno2 (by assumption)];all_goals rfl))
  ·try simp only[Q] at h3p
   refine Walk.call (cr:=[]) cal22 (spec_l4Run_fn hl.1 (cls_run (a:=a) (k:=k) (by assumption) hl hv (by assumption))) rfl .none rfl rfl (LeL.refl _) trivial rfl rfl rfl ?_
   refine ev ?_
   refine rn0 (.cons (.tmp rfl) (.cons (.tmp rfl) (.cons (.tmp rfl) .nil))) (.tup (.cons (.eqd ?_) (.cons (.eqd ?_) (.cons (.eqd ?_) .nil))))
   all_goals (first|(rw[hyes (by assumption) (by assumption)];all_goals rfl)|(rw[hno1 (by assumption)];all_goals rfl)|(rw[hno2 (by assumption)];all_goals rfl))
theorem laws_ptBinds_same {l:List Bd} (hl:l.length≤1000000000000) (hok:∀x∈l,x.val.ok):FnD Tryz.prog 10 [.d (encBds l),.d (encBds l)] [] (.d (.bool true)) []:=by
 have hvs:=fun(i:Nat) (hi:i<l.length)=>(by have h:=impl_ValueSame_fn (nth l i).val.size (a:=(nth l i).val) (b:=(nth l i).val) (Nat.le_refl _) (hok _ (nth_mem hi));rw[valEq_refl] at h;exact h:FnD Tryz.prog 23 [.agg [.d (.i (nth l i).val.ctor),.d (.i (nth l i).val.num),.d (encVals (nth l i).val.kids)],.agg [.d (.i (nth l i).val.ctor),.d (.i (nth l i).val.num),.d (encVals (nth l i).val.kids)]] [] (.d (.bool true)) [])
 refine bd Tryz.f10 42 [] [] fun w0 F0 own kept hk=>?_
 refine sq (fun h1 h1p h1s=>?_) fun h1 h1p h1s=>?_
 ·try simp only[Q] at h1p
  refine rn0 (r1 rfl) (.eqd ?_)
  all_goals (first|rfl|(exfalso;simp_all;done))
 ·try simp only[Q] at h1p
  refine CWp.loopX (ι:=Nat) hk (fun i=>[(5,.d (.i (i:Int)))]) [4,11,12,13,14,15,16,17,18,19,20,21,22,23,24,25,26,27,28,29,30,31,32,33,34,35,36,37,38,39,40,41] (fun i=>[]) (fun i=>i≤l.length) (fun i=>l.length-i) 0 (by omega) ⟨⟨_,rfl,(LeA.eqi (by first|rfl|(simp;done)|(simp_all;done)|omega))⟩,trivial⟩ trivial (fun x=>rfl) (fun i hg1=>?_)
  refine evc [] [] ?_
  refine sq (fun h2 h2p h2s=>?_) fun h2 h2p h2s=>?_
  ·try simp only[Q] at h2p
   refine Walk.idx sl32 .none rfl rfl rfl rfl (at_nth (by omega)) rfl ?_
   refine evd [] [] ?_
   refine Walk.idx sl32 .none rfl rfl rfl rfl (at_nth (by omega)) rfl ?_
   refine evd [] [] ?_
   refine sq (fun h3 h3p h3s=>?_) fun h3 h3p h3s=>?_
   ·try simp only[Q] at h3p
    refine dr ?_
    refine sqT ?_
    refine rn0 (r1 rfl) (.eqd ?_)
    all_goals (first|rfl|(exfalso;simp_all;done))
   ·try simp only[Q] at h3p
    refine Walk.idx sl32 (.some rfl rfl h3) rfl rfl rfl rfl (at_nth (by omega)) rfl ?_
    refine evd [] [(28,false)] ?_ ⟨⟨_,rfl,h3⟩,trivial⟩
    refine Walk.idx sl32 (.some rfl rfl h3) rfl rfl rfl rfl (at_nth (by omega)) rfl ?_
    refine evd [] [(28,false)] ?_ ⟨⟨_,rfl,h3⟩,trivial⟩
    refine Walk.call (cr:=[]) cal23 (hvs i (by omega)) rfl (.some rfl rfl h3) rfl rfl (LeL.refl _) trivial rfl rfl rfl ?_
    refine evd [] [(28,false)] ?_ ⟨⟨_,rfl,h3⟩,trivial⟩
    refine dr ?_
    refine sq (fun h5 h5p h5s=>?_) fun h5 h5p h5s=>?_
    ·try simp only[Q] at h5p
     refine rn0 (r1 rfl) (.eqd ?_)
     all_goals (first|rfl|(exfalso;simp_all;done))
    ·try simp only[Q] at h5p
     refine ar ?_
     refine Exists.intro (i+1) ⟨(by omega),(by omega),Sub.x (by kernel_rfl) (by kernel_rfl) ⟨⟨_,rfl,(LeA.eqi (by first|rfl|(simp;done)|(simp_all;done)|omega))⟩,trivial⟩ (by kernel_rfl) (by kernel_rfl) trivial⟩
  ·try simp only[Q] at h2p
   refine rn0 (r1 rfl) (.eqd ?_)
   all_goals (first|rfl|(exfalso;simp_all;done))
theorem runV_spec (v:Val):∀(l:List Cl) (i:Int),((runV l v i).1 = -1∧(runV l v i).2=[]∧∀j,j<l.length→runAt (nth l j) v=false)∨
  ∃j:Nat,j<l.length∧(runV l v i).1=i+j∧(runV l v i).2=sortB (matchV 10 (nth l j).pat v).1∧runAt (nth l j) v=true∧∀x,x<j→runAt (nth l x) v=false
 | [],i=> .inl ⟨rfl,rfl,fun j hj=>absurd hj (by simp)⟩
 |c::r,i=>by
  unfold runV
  cases hr:runAt c v with
  |true=>
   right
   rw[if_pos rfl]
   exact⟨0,by simp,by simp,rfl,hr,fun x hx=>absurd hx (by omega)⟩
  |false=>
   rw[if_neg (by simp)]
   rcases runV_spec v r (i+1) with ⟨h1,h2,h3⟩|⟨j,h1,h2,h3,h4,h5⟩
   ·refine .inl ⟨h1,h2,fun j hj=>?_⟩
    cases j with
    |zero=>exact hr
    |succ j=>exact h3 j (by simpa using hj)
   ·refine .inr ⟨j+1,by simpa using h1,by rw[h2];push_cast;omega,h3,h4,fun x hx=>?_⟩
    cases x with
    |zero=>exact hr
    |succ x=>exact h5 x (by omega)
theorem runV_binds {w:List Data}{a k:Int}{l:List Cl}{v:Val} (hr:RunOk w ⟨a,k⟩ l v) (i:Int):(runV l v i).2.length≤6∧∀x∈(runV l v i).2,x.val.ok:=by
 rcases runV_spec v l i with ⟨h1,h2,h3⟩|⟨j,h1,h2,h3,h4,h5⟩
 ·rw[h2];simp
 ·rw[h3]
  unfold runAt at h4
  rw[Bool.and_eq_true] at h4
  have h6:=match_six (hr j h1).1 (hr j h1).2 h4.1
  refine⟨by rw[sortB_len];exact h6,fun x hx=>?_⟩
  have:=(matchV_ok 10 (hr j h1).1.shape (hr j h1).1.vok).1
  exact(this x ((sortB_perm _).mem_iff.1 hx)).1
abbrev byteC (x:UInt8):List D:=[.int .u8 (x.toNat:Int)]
abbrev encBytes (b:Str):D:= .sl (b.map byteC)
abbrev rdB (b:Str) (p:Nat):Res:= .box [.d (encBytes b),.d (.i p)]
theorem byte_bd (u:UInt8):0≤IntKind.i64.wrap (u.toNat:Int)∧IntKind.i64.wrap (u.toNat:Int)≤255:=by
 have h:u.toNat<256:=u.toNat_lt
 rw[wrap_i64 (by omega)]
 omega
def pickX (b:Str) (p:Nat):Int:=
 IntKind.i64.wrap ((nth b (p % b.length)).toNat:Int)*131+IntKind.i64.wrap ((nth b ((p*7+3) % b.length)).toNat:Int)*1117+((p:Int)+1-1)*29+((p:Int)+1-1) / ((b.map byteC).length:Int)*53
def pickV (b:Str) (p:Nat) (n:Int):Int:=
 if n<1∨b.length=0 then 0
 else if p<b.length then IntKind.i64.wrap ((nth b p).toNat:Int) % n
 else xorV (pickX b p) (pickX b p / 64) % n
theorem pickV_bd {b:Str}{p:Nat}{n:Int} (h:1≤n):0≤pickV b p n∧pickV b p n<n:=by
 unfold pickV
 split
 ·omega
 ·split
  ·exact⟨Int.emod_nonneg _ (by omega),Int.emod_lt_of_pos _ (by omega)⟩
  ·exact⟨Int.emod_nonneg _ (by omega),Int.emod_lt_of_pos _ (by omega)⟩
theorem spec_pick_fn {b:Str}{p:Nat}{n:Int} (hb:b.length≤2000) (hp:p≤1000000000000) (hn:n≤1000000000000):
  FnD Tryz.prog 34 [.ref 900 0,.d (.i n)] [(900,some (rdB b p))] (.d (.i (pickV b p n))) [(900,some (rdB b (p+1)))]:=by
 have w1:=byte_bd (nth b (p % b.length))
 have w2:=byte_bd (nth b ((p*7+3) % b.length))
 have w3:=byte_bd (nth b p)
 have hlen:((b.map byteC).length:Int)=b.length:=by simp
 have d1:0≤((p:Int)+1-1) / ((b.map byteC).length:Int):=Int.ediv_nonneg (by omega) (by omega)
 have d2:((p:Int)+1-1) / ((b.map byteC).length:Int)≤(p:Int)+1-1:=Int.ediv_le_self _ (by omega)
 have hx:0≤pickX b p∧pickX b p≤100*1000000000000:=by unfold pickX;omega
 have hx2:=xorV_bd (m:=pickX b p) (n:=pickX b p / 64) (by omega) (by omega)
 have k1:(p:Int)+1-1=(p:Int):=by omega
 have hx3:=hx2
 have hx4:=hx
 unfold pickX at hx3 hx4
 refine bd Tryz.f34 99 [46,57,74,89,94,95,98] [] fun w0 F0 own kept hk=>?_
 refine ar ?_
 refine Walk.store ty3 .none rfl rfl rfl rfl rfl rfl (by simp) rfl ?_
 refine tv ?_
 refine sq (fun h1 h1p h1s=>?_) fun h1 h1p h1s=>?_
 ·try simp only[Q] at h1p
  refine sqT ?_
  refine rn [(900,some (rdB b (p+1)))] (r1 rfl) (.eqd ?_) ⟨rfl,rfl⟩ (SubO.get ⟨.inr (by rfl),⟨.inl rfl,trivial⟩⟩) (boxOK rfl)
  all_goals (refine congrArg D.i ?_;unfold pickV;first|(rw[if_pos (by omega)];done)|(rw[if_neg (by omega),if_pos (by omega)];done)|(rw[if_neg (by omega),if_neg (by omega)];rfl))
 ·try simp only[Q] at h1p
  refine sq (fun h3 h3p h3s=>?_) fun h3 h3p h3s=>?_
  ·try simp only[Q] at h3p
   refine rn [(900,some (rdB b (p+1)))] (r1 rfl) (.eqd ?_) ⟨rfl,rfl⟩ (SubO.get ⟨.inr (by rfl),⟨.inl rfl,trivial⟩⟩) (boxOK rfl)
   all_goals (refine congrArg D.i ?_;unfold pickV;first|(rw[if_pos (by omega)];done)|(rw[if_neg (by omega),if_pos (by omega)];done)|(rw[if_neg (by omega),if_neg (by omega)];rfl))
  ·try simp only[Q] at h3p
   refine ar ?_
   refine sq (fun h4 h4p h4s=>?_) fun h4 h4p h4s=>?_
   ·try simp only[Q] at h4p
    refine Walk.idx (i:=p) sl22 .none rfl rfl rfl (by omega) (at_nth (by omega)) rfl ?_
    refine evs [46,57,74,89,94,95,98] [] ?_
    refine Walk.conv (by rw[un5];rfl) un3 .none rfl rfl ?_
    refine evs [46,57,74,89,94,95,98] [] ?_
    refine Walk.remI .none rfl rfl rfl (by omega) ?_
    refine evs [46,57,74,89,94,95,98] [] ?_
    refine rn [(900,some (rdB b (p+1)))] (r1 rfl) (.eqd ?_) ⟨rfl,rfl⟩ (SubO.get ⟨.inr (by rfl),⟨.inl rfl,trivial⟩⟩) (boxOK rfl)
    all_goals (refine congrArg D.i ?_;unfold pickV;first|(rw[if_pos (by omega)];done)|(rw[if_neg (by omega),if_pos (by omega)];done)|(rw[if_neg (by omega),if_neg (by omega)];rfl))
   ·try simp only[Q] at h4p
    refine Walk.remI .none rfl rfl rfl (by omega) ?_
    refine Walk.idx (i:=p % b.length) sl22 .none rfl rfl rfl (by rw[k1,hlen];rfl) (at_nth (Nat.mod_lt _ (by omega))) rfl ?_
    refine evd [46,57,74,89,94,95,98] [] ?_
    refine Walk.conv (by rw[un5];rfl) un3 .none rfl rfl ?_
    refine evd [46,57,74,89,94,95,98] [] ?_
    refine ar ?_
    refine ar ?_
    refine ar ?_
    refine Walk.remI .none rfl rfl rfl (by omega) ?_
    refine Walk.idx (i:=(p*7+3) % b.length) sl22 .none rfl rfl rfl (by rw[k1,hlen];rfl) (at_nth (Nat.mod_lt _ (by omega))) rfl ?_
    refine evd [46,57,74,89,94,95,98] [] ?_
    refine Walk.conv (by rw[un5];rfl) un3 .none rfl rfl ?_
    refine evd [46,57,74,89,94,95,98] [] ?_
    refine ar ?_
    refine ar ?_
    refine ar ?_
    refine ar ?_
    refine Walk.quoI .none rfl rfl rfl (by omega) ?_
    refine evd [46,57,74,89,94,95,98] [] ?_
    refine ar ?_
    refine ar ?_
    refine dr ?_
    refine Walk.quoI .none rfl rfl rfl (by omega) ?_
    refine Walk.xorI .none rfl rfl rfl ?_
    refine evs [46,57,74,89,94,95,98] [] ?_
    refine Walk.remI .none rfl rfl rfl (by omega) ?_
    refine evs [46,57,74,89,94,95,98] [] ?_
    refine rn [(900,some (rdB b (p+1)))] (r1 rfl) (.eqd ?_) ⟨rfl,rfl⟩ (SubO.get ⟨.inr (by rfl),⟨.inl rfl,trivial⟩⟩) (boxOK rfl)
    all_goals (refine congrArg D.i ?_;unfold pickV;first|(rw[if_pos (by omega)];done)|(rw[if_neg (by omega),if_pos (by omega)];done)|(rw[if_neg (by omega),if_neg (by omega)];rfl))
def numV (b:Str) (p:Nat) (l:List Int):Int:=nth l (pickV b p l.length).toNat
theorem spec_num_fn {b:Str}{p:Nat}{l:List Int} (hb:b.length≤2000) (hp:p≤1000000000000) (hl:1≤l.length) (hl2:l.length≤1000):
  FnD Tryz.prog 35 [.ref 900 0,.d (encInts l)] [(900,some (rdB b p))] (.d (.i (numV b p l))) [(900,some (rdB b (p+1)))]:=by
 have hv:=pickV_bd (b:=b) (p:=p) (n:=((l.map fun n=>[D.i n]).length:Int)) (by simp;omega)
 have hlen:((l.map fun n=>[D.i n]).length:Int)=l.length:=by simp
 refine bd Tryz.f35 12 [] [] fun w0 F0 own kept hk=>?_
 refine Walk.call (cr:=[]) cal34 (spec_pick_fn hb hp (by simp;omega)) rfl .none rfl rfl (LeL.refl _) ⟨rfl,trivial⟩ rfl rfl rfl ?_
 refine Walk.idx (i:=(pickV b p ((l.map fun n=>[D.i n]).length:Int)).toNat) sl75 .none rfl rfl rfl (by omega) (at_nth (by omega)) rfl ?_
 refine ev ?_
 refine rn [(900,some (rdB b (p+1)))] (r1 rfl) (.eqd ?_) ⟨rfl,rfl⟩ (SubO.get ⟨.inr (by rfl),⟨.inl rfl,trivial⟩⟩) (boxOK rfl)
 all_goals (refine congrArg D.i ?_;unfold numV;rw[hlen])
theorem spec_l17Open_fn {b:Str} (hb:b.length≤1000000000000):FnD Tryz.prog 14 [.d (encBytes b)] [] (.ref 900 0) [(900,some (rdB (b.take 2000) 0))]:=by
 refine bd Tryz.f14 11 [] [] fun w0 F0 own kept hk=>?_
 refine sq (fun h1 h1p h1s=>?_) fun h1 h1p h1s=>?_
 ·try simp only[Q] at h1p
  refine Walk.cut_h (b:=2000) sl22 .none rfl rfl rfl (by intro x hx;obtain⟨y,_,rfl⟩:=List.mem_map.1 hx;rfl) rfl rfl (by simp at *;omega) ?_
  refine ev ?_
  refine Walk.build st69 (ks:=[0]) (xs:=[_]) rfl rfl .none rfl rfl rfl ?_
  refine Walk.box (id:=900) .none rfl rfl rfl rfl rfl rfl rfl ?_
  refine ev ?_
  refine rn [(900,some (rdB (b.take 2000) 0))] (r1 rfl) (.refl _) ⟨rfl,rfl⟩ (SubH.get ⟨(by first|(simp[getH,rdB,encBytes,List.map_take];done)|(show some (Res.box _)=some (Res.box _);rw[List.take_of_length_le (by simp at *;omega)];rfl)),trivial⟩) (boxOK rfl)
  all_goals (first|rfl|(simp[h1s,h1p];done)|(simp_all;done)|(simp_all;omega)|omega)
 ·try simp only[Q] at h1p
  refine Walk.build st69 (ks:=[0]) (xs:=[_]) rfl rfl .none rfl rfl rfl ?_
  refine Walk.box (id:=900) .none rfl rfl rfl rfl rfl rfl rfl ?_
  refine ev ?_
  refine rn [(900,some (rdB (b.take 2000) 0))] (r1 rfl) (.refl _) ⟨rfl,rfl⟩ (SubH.get ⟨(by first|(simp[getH,rdB,encBytes,List.map_take];done)|(show some (Res.box _)=some (Res.box _);rw[List.take_of_length_le (by simp at *;omega)];rfl)),trivial⟩) (boxOK rfl)
  all_goals (first|rfl|(simp[h1s,h1p];done)|(simp_all;done)|(simp_all;omega)|omega)
def cutL (c:UInt8):Str→Str→List Str
 |cur,[]=>[cur]
 |cur,x::r=>if x=c then cur::cutL c [] r else cutL c (cur++[x]) r
theorem cutL_len (c:UInt8):∀(s cur:Str),(cutL c cur s).length≤s.length+1
 | [],cur=>by simp[cutL]
 |x::r,cur=>by
  simp only[cutL]
  split
  ·have:=cutL_len c r [];simp only[List.length_cons];omega
  ·have:=cutL_len c r (cur++[x]);simp only[List.length_cons];omega
theorem cutL_pos (c:UInt8):∀(s cur:Str),1≤(cutL c cur s).length
 | [],cur=>by simp[cutL]
 |x::r,cur=>by
  simp only[cutL]
  split
  ·simp
  ·exact cutL_pos c r (cur++[x])
theorem cutL_mem (c:UInt8):∀(s cur:Str) (t:Str),t∈cutL c cur s→t.length≤cur.length+s.length
 | [],cur,t,h=>by simp only[cutL,List.mem_singleton] at h;subst h;simp
 |x::r,cur,t,h=>by
  simp only[cutL] at h
  split at h
  ·rcases List.mem_cons.1 h with rfl|h
   ·simp
   ·have:=cutL_mem c r [] t h;simp only[List.length_cons,List.length_nil] at this ⊢;omega
  ·have:=cutL_mem c r (cur++[x]) t h;simp only[List.length_append,List.length_cons,List.length_nil] at this ⊢;omega
theorem str_at {s:Str}{i:Nat} (h:i<s.length):s[i]?=some (nth s i):=by rw[nth_eq h];exact List.getElem?_eq_getElem h
theorem cur_next {s:Str}{f i:Nat} (hf:f≤i) (h:i<s.length):(s.take (i+1)).drop f=(s.take i).drop f++[nth s i]:=by
 rw[List.take_add_one,List.getElem?_eq_getElem h,List.drop_append_of_le_length (by simp;omega),nth_eq h]
 rfl
theorem cut_take {s:Str}{f i:Nat}:(s.drop f).take (i-f)=(s.take i).drop f:=by rw[List.drop_take]
theorem spec_l17Cut_fn {s:Str}{c:UInt8} (hs:s.length≤1000000000000):FnD Tryz.prog 115 [.d (.str s),.d (.int .u8 (c.toNat:Int))] [] (.d (encStrs (cutL c [] s))) []:=by
 have hu:∀a:UInt8,((a.toNat:Int)=(c.toNat:Int))↔a=c:=fun a=>by rw[Int.natCast_inj];exact UInt8.toNat_inj
 refine bd Tryz.f115 36 [] [] fun w0 F0 own kept hk=>?_
 refine Walk.sliceEmptyG 1 sl120 .none rfl rfl ?_
 refine ev ?_
 refine CWp.loopX (ι:=Nat×Nat×List Str) hk (fun x=>[(7,.d (.i (x.1:Int))),(6,.d (.i (x.2.1:Int))),(5,.gl 1 (x.2.2.map fun n=>[D.str n]))]) [9,10,11,12,13,14,15,16,17,18,19,20,21,22,23,24,25,26,27,28,29,30,31,32,33,34] (fun x=>[(1,some (.tok ((x.2.2.map fun n=>[D.str n])).length 1))]) (fun x=>x.1≤s.length+1∧x.2.2.length≤x.1∧if x.1=s.length+1 then x.2.2=cutL c [] s else x.2.1≤x.1∧x.2.2++cutL c ((s.take x.1).drop x.2.1) (s.drop x.1)=cutL c [] s) (fun x=>s.length+1-x.1) (0,0,[]) ⟨by simp,by simp,by rw[if_neg (by simp)];simp⟩ ⟨⟨_,rfl,(LeA.eqi (by first|rfl|(split<;>first|rfl|(exfalso;simp_all;done)|(exfalso;simp_all;omega))|(split<;>first|(simp[cut_take];done)|(simp;done)|(exfalso;simp_all;done)|(exfalso;simp_all;omega))))⟩,⟨⟨_,rfl,(LeA.eqi (by first|rfl|(split<;>first|rfl|(exfalso;simp_all;done)|(exfalso;simp_all;omega))|(split<;>first|(simp[cut_take];done)|(simp;done)|(exfalso;simp_all;done)|(exfalso;simp_all;omega))))⟩,⟨⟨_,rfl,(LeA.glg (by first|rfl|(split<;>first|rfl|(exfalso;simp_all;done)|(exfalso;simp_all;omega))|(split<;>first|(simp[cut_take];done)|(simp;done)|(exfalso;simp_all;done)|(exfalso;simp_all;omega))))⟩,trivial⟩⟩⟩ ⟨beq_nat_eq (by first|rfl|(simp;done)|(simp;omega)|(first|rfl|(split<;>first|rfl|(exfalso;simp_all;done)|(exfalso;simp_all;omega))|(split<;>first|(simp[cut_take];done)|(simp;done)|(exfalso;simp_all;done)|(exfalso;simp_all;omega)))),trivial⟩ (fun x=>rfl) (fun x hg1=>?_)
 refine evc [] [] ?_
 refine sq (fun h1 h1p h1s=>?_) fun h1 h1p h1s=>?_
 ·try simp only[Q,hu] at h1p
  have hne:¬x.1=s.length+1:=(by omega)
  have hcond:=hg1.2.2
  rw[if_neg hne] at hcond
  have hle:=hcond.1
  refine sq (fun h2 h2p h2s=>?_) fun h2 h2p h2s=>?_
  ·try simp only[Q,hu] at h2p
   refine sqT ?_
   refine Walk.cutS_lh un9 .none rfl rfl rfl rfl rfl rfl (by omega) (by omega) ?_
   refine Walk.sliceLit sl120 tz9 rfl (by decide) (ks:=[0]) (xs:=[_]) rfl rfl (by decide) (by decide) .none rfl rfl rfl rfl ?_
   refine Walk.append sl120 zz9 rfl .none rfl rfl rfl rfl (htokL rfl (by first|rfl|(simp;done)|(simp;omega))) (by simp) (by simp;omega) (by simp;omega) ?_
   refine ev ?_
   refine ar ?_
   refine ar ?_
   refine Exists.intro (if x.1=s.length∨nth s x.1=c then (x.1+1,x.1+1,x.2.2++[(s.take x.1).drop x.2.1]) else (x.1+1,x.2.1,x.2.2)) ⟨(by
      have hne:¬x.1=s.length+1:=by omega
      rw[if_neg hne] at hg1
      obtain⟨g1,g2,g3,g4⟩:=hg1
      by_cases he:x.1=s.length
      ·rw[if_pos (.inl he)]
       refine⟨by dsimp only;omega,by simp;omega, ?_⟩
       dsimp only
       rw[if_pos (by omega),←g4,he,List.drop_length]
       rfl
      ·have hlt:x.1<s.length:=by omega
       rw[drop_nth hlt] at g4
       by_cases hc:nth s x.1=c
       ·rw[if_pos (.inr hc)]
        refine⟨by dsimp only;omega,by simp;omega, ?_⟩
        dsimp only
        rw[if_neg (by omega)]
        refine⟨by omega, ?_⟩
        rw[←g4,cutL,if_pos hc,List.append_assoc]
        simp
       ·rw[if_neg (by simp[he,hc])]
        refine⟨by dsimp only;omega,by dsimp only;omega, ?_⟩
        dsimp only
        rw[if_neg (by omega)]
        refine⟨by omega, ?_⟩
        rw[←g4,cutL,if_neg hc,cur_next g3 hlt]),(by split<;>(dsimp only;omega)),Sub.x (by kernel_rfl) (by kernel_rfl) ⟨⟨_,rfl,(LeA.eqi (by first|rfl|(split<;>first|rfl|(exfalso;simp_all;done)|(exfalso;simp_all;omega))|(split<;>first|(simp[cut_take];done)|(simp;done)|(exfalso;simp_all;done)|(exfalso;simp_all;omega))))⟩,⟨⟨_,rfl,(LeA.eqi (by first|rfl|(split<;>first|rfl|(exfalso;simp_all;done)|(exfalso;simp_all;omega))|(split<;>first|(simp[cut_take];done)|(simp;done)|(exfalso;simp_all;done)|(exfalso;simp_all;omega))))⟩,⟨⟨_,rfl,(LeA.glg (by first|rfl|(split<;>first|rfl|(exfalso;simp_all;done)|(exfalso;simp_all;omega))|(split<;>first|(simp[cut_take];done)|(simp;done)|(exfalso;simp_all;done)|(exfalso;simp_all;omega))))⟩,trivial⟩⟩⟩ (by kernel_rfl) (by kernel_rfl) ⟨beq_nat_eq (by first|rfl|(simp;done)|(simp;omega)|(first|rfl|(split<;>first|rfl|(exfalso;simp_all;done)|(exfalso;simp_all;omega))|(split<;>first|(simp[cut_take];done)|(simp;done)|(exfalso;simp_all;done)|(exfalso;simp_all;omega)))),trivial⟩⟩
  ·try simp only[Q,hu] at h2p
   refine Walk.idxS un9 (.some rfl rfl h2) rfl rfl rfl rfl (str_at (by omega)) ?_
   refine evs [] [(19,false)] ?_ ⟨⟨_,rfl,h2⟩,trivial⟩
   refine sq (fun h4 h4p h4s=>?_) fun h4 h4p h4s=>?_
   ·try simp only[Q,hu] at h4p
    refine Walk.cutS_lh un9 .none rfl rfl rfl rfl rfl rfl (by omega) (by omega) ?_
    refine Walk.sliceLit sl120 tz9 rfl (by decide) (ks:=[0]) (xs:=[_]) rfl rfl (by decide) (by decide) .none rfl rfl rfl rfl ?_
    refine Walk.append sl120 zz9 rfl .none rfl rfl rfl rfl (htokL rfl (by first|rfl|(simp;done)|(simp;omega))) (by simp) (by simp;omega) (by simp;omega) ?_
    refine ev ?_
    refine ar ?_
    refine ar ?_
    refine Exists.intro (if x.1=s.length∨nth s x.1=c then (x.1+1,x.1+1,x.2.2++[(s.take x.1).drop x.2.1]) else (x.1+1,x.2.1,x.2.2)) ⟨(by
       have hne:¬x.1=s.length+1:=by omega
       rw[if_neg hne] at hg1
       obtain⟨g1,g2,g3,g4⟩:=hg1
       by_cases he:x.1=s.length
       ·rw[if_pos (.inl he)]
        refine⟨by dsimp only;omega,by simp;omega, ?_⟩
        dsimp only
        rw[if_pos (by omega),←g4,he,List.drop_length]
        rfl
       ·have hlt:x.1<s.length:=by omega
        rw[drop_nth hlt] at g4
        by_cases hc:nth s x.1=c
        ·rw[if_pos (.inr hc)]
         refine⟨by dsimp only;omega,by simp;omega, ?_⟩
         dsimp only
         rw[if_neg (by omega)]
         refine⟨by omega, ?_⟩
         rw[←g4,cutL,if_pos hc,List.append_assoc]
         simp
        ·rw[if_neg (by simp[he,hc])]
         refine⟨by dsimp only;omega,by dsimp only;omega, ?_⟩
         dsimp only
         rw[if_neg (by omega)]
         refine⟨by omega, ?_⟩
         rw[←g4,cutL,if_neg hc,cur_next g3 hlt]),(by split<;>(dsimp only;omega)),Sub.x (by kernel_rfl) (by kernel_rfl) ⟨⟨_,rfl,(LeA.eqi (by first|rfl|(split<;>first|rfl|(exfalso;simp_all;done)|(exfalso;simp_all;omega))|(split<;>first|(simp[cut_take];done)|(simp;done)|(exfalso;simp_all;done)|(exfalso;simp_all;omega))))⟩,⟨⟨_,rfl,(LeA.eqi (by first|rfl|(split<;>first|rfl|(exfalso;simp_all;done)|(exfalso;simp_all;omega))|(split<;>first|(simp[cut_take];done)|(simp;done)|(exfalso;simp_all;done)|(exfalso;simp_all;omega))))⟩,⟨⟨_,rfl,(LeA.glg (by first|rfl|(split<;>first|rfl|(exfalso;simp_all;done)|(exfalso;simp_all;omega))|(split<;>first|(simp[cut_take];done)|(simp;done)|(exfalso;simp_all;done)|(exfalso;simp_all;omega))))⟩,trivial⟩⟩⟩ (by kernel_rfl) (by kernel_rfl) ⟨beq_nat_eq (by first|rfl|(simp;done)|(simp;omega)|(first|rfl|(split<;>first|rfl|(exfalso;simp_all;done)|(exfalso;simp_all;omega))|(split<;>first|(simp[cut_take];done)|(simp;done)|(exfalso;simp_all;done)|(exfalso;simp_all;omega)))),trivial⟩⟩
   ·try simp only[Q,hu] at h4p
    refine ar ?_
    refine Exists.intro (if x.1=s.length∨nth s x.1=c then (x.1+1,x.1+1,x.2.2++[(s.take x.1).drop x.2.1]) else (x.1+1,x.2.1,x.2.2)) ⟨(by
       have hne:¬x.1=s.length+1:=by omega
       rw[if_neg hne] at hg1
       obtain⟨g1,g2,g3,g4⟩:=hg1
       by_cases he:x.1=s.length
       ·rw[if_pos (.inl he)]
        refine⟨by dsimp only;omega,by simp;omega, ?_⟩
        dsimp only
        rw[if_pos (by omega),←g4,he,List.drop_length]
        rfl
       ·have hlt:x.1<s.length:=by omega
        rw[drop_nth hlt] at g4
        by_cases hc:nth s x.1=c
        ·rw[if_pos (.inr hc)]
         refine⟨by dsimp only;omega,by simp;omega, ?_⟩
         dsimp only
         rw[if_neg (by omega)]
         refine⟨by omega, ?_⟩
         rw[←g4,cutL,if_pos hc,List.append_assoc]
         simp
        ·rw[if_neg (by simp[he,hc])]
         refine⟨by dsimp only;omega,by dsimp only;omega, ?_⟩
         dsimp only
         rw[if_neg (by omega)]
         refine⟨by omega, ?_⟩
         rw[←g4,cutL,if_neg hc,cur_next g3 hlt]),(by split<;>(dsimp only;omega)),Sub.x (by kernel_rfl) (by kernel_rfl) ⟨⟨_,rfl,(LeA.eqi (by first|rfl|(split<;>first|rfl|(exfalso;simp_all;done)|(exfalso;simp_all;omega))|(split<;>first|(simp[cut_take];done)|(simp;done)|(exfalso;simp_all;done)|(exfalso;simp_all;omega))))⟩,⟨⟨_,rfl,(LeA.eqi (by first|rfl|(split<;>first|rfl|(exfalso;simp_all;done)|(exfalso;simp_all;omega))|(split<;>first|(simp[cut_take];done)|(simp;done)|(exfalso;simp_all;done)|(exfalso;simp_all;omega))))⟩,⟨⟨_,rfl,(LeA.glg (by first|rfl|(split<;>first|rfl|(exfalso;simp_all;done)|(exfalso;simp_all;omega))|(split<;>first|(simp[cut_take];done)|(simp;done)|(exfalso;simp_all;done)|(exfalso;simp_all;omega))))⟩,trivial⟩⟩⟩ (by kernel_rfl) (by kernel_rfl) ⟨beq_nat_eq (by first|rfl|(simp;done)|(simp;omega)|(first|rfl|(split<;>first|rfl|(exfalso;simp_all;done)|(exfalso;simp_all;omega))|(split<;>first|(simp[cut_take];done)|(simp;done)|(exfalso;simp_all;done)|(exfalso;simp_all;omega)))),trivial⟩⟩
 ·try simp only[Q,hu] at h1p
  refine rn0 (r1 rfl) (.gld ?_)
  all_goals (have e:x.1=s.length+1:=(by omega);rw[if_pos e] at hg1;rw[hg1.2.2])
def findN (names:List Str) (s:Str):Int:=if s=[73] then -1 else if s∈names then idxF (fun n=>decide (n=s)) names 0 else -2
theorem spec_l1Find_fn {names:List Str}{s:Str} (hn:names.length≤1000000000000):FnD Tryz.prog 139 [.d (encStrs names),.d (.str s)] [] (.d (.i (findN names s))) []:=by
 refine bd Tryz.f139 21 [] [] fun w0 F0 own kept hk=>?_
 refine sq (fun h1 h1p h1s=>?_) fun h1 h1p h1s=>?_
 ·try simp only[Q] at h1p
  refine rn0 (r1 rfl) (.eqd ?_)
  all_goals (refine congrArg D.i ?_;unfold findN;by_cases hz:s=[73]<;>by_cases hm:s∈names<;>simp only[hz,hm,if_true,if_false];all_goals first|rfl|omega|(exfalso;simp_all;done)|(exfalso;apply hm;subst h3p;rw[←hg1.1];simp;done)|(exfalso;apply hg1.2.1;rw[←hg1.1,List.append_nil] at hm;exact hm)|(rw[←hg1.2.2];simp_all[idxF];done)|(exfalso;rw[←hg1.1] at hm;simp_all;done))
 ·try simp only[Q] at h1p
  refine CWp.loopX (ι:=List (Str)×List (Str)) hk (fun x=>[(5,.d (.i (x.1.length:Int)))]) [4,8,9,10,11,12,13,14,15,16,17,18,19,20] (fun x=>[]) (fun x=>x.1++x.2=names∧s∉x.1∧idxF (fun n=>decide (n=s)) x.2 x.1.length=idxF (fun n=>decide (n=s)) names 0) (fun x=>x.2.length) ([],names) ⟨by simp,by simp,rfl⟩ ⟨⟨_,rfl,(LeA.eqi (by first|rfl|(simp;done)|(simp_all;done)|omega))⟩,trivial⟩ trivial (fun x=>rfl) (fun x hg1=>?_)
  obtain⟨pre,rest⟩:=x
  dsimp only at hg1 ⊢
  refine evc [] [] ?_
  refine sq (fun h2 h2p h2s=>?_) fun h2 h2p h2s=>?_
  ·try simp only[Q] at h2p
   rcases rest with _|⟨y,rest⟩
   ·exfalso;simp_all
   refine Walk.idx sl120 .none rfl rfl rfl rfl (zip_at hg1.1) rfl ?_
   refine ev ?_
   refine sq (fun h3 h3p h3s=>?_) fun h3 h3p h3s=>?_
   ·try simp only[Q] at h3p
    refine rn0 (r1 rfl) (.eqd ?_)
    all_goals (refine congrArg D.i ?_;unfold findN;by_cases hz:s=[73]<;>by_cases hm:s∈names<;>simp only[hz,hm,if_true,if_false];all_goals first|rfl|omega|(exfalso;simp_all;done)|(exfalso;apply hm;subst h3p;rw[←hg1.1];simp;done)|(exfalso;apply hg1.2.1;rw[←hg1.1,List.append_nil] at hm;exact hm)|(rw[←hg1.2.2];simp_all[idxF];done)|(exfalso;rw[←hg1.1] at hm;simp_all;done))
   ·try simp only[Q] at h3p
    refine ar ?_
    refine Exists.intro ((pre++[y],rest)) ⟨⟨(by have hz:=hg1.1;rw[←hz];simp),⟨(by have h1:=hg1.2.1;simp_all[eq_comm]),(by rw[←hg1.2.2];simp_all[idxF])⟩⟩,(by simp),Sub.x (by kernel_rfl) (by kernel_rfl) ⟨⟨_,rfl,(LeA.eqi (by first|rfl|(simp;done)|(simp_all;done)|omega))⟩,trivial⟩ (by kernel_rfl) (by kernel_rfl) trivial⟩
  ·try simp only[Q] at h2p
   have hrest:rest=[]:=by
    rcases rest with _|⟨a,b⟩
    ·rfl
    ·exfalso;have hz:=congrArg List.length (hg1.1);simp only[List.length_append,List.length_cons,List.length_map] at hz;omega
   subst hrest
   refine rn0 (r1 rfl) (.eqd ?_)
   all_goals (refine congrArg D.i ?_;unfold findN;by_cases hz:s=[73]<;>by_cases hm:s∈names<;>simp only[hz,hm,if_true,if_false];all_goals first|rfl|omega|(exfalso;simp_all;done)|(exfalso;apply hm;subst h3p;rw[←hg1.1];simp;done)|(exfalso;apply hg1.2.1;rw[←hg1.1,List.append_nil] at hm;exact hm)|(rw[←hg1.2.2];simp_all[idxF];done)|(exfalso;rw[←hg1.1] at hm;simp_all;done))
def parseTy (names:List Str) (s:Str):Ty:=
 if s=[] then ⟨-2,0⟩
 else ⟨findN names (s.take 1),if s.drop 1=[42] then -1 else if s.length=2∧48≤(nth s 1).toNat∧(nth s 1).toNat≤57 then ((nth s 1).toNat:Int)-48 else 0⟩
theorem digit_wrap {b:UInt8} (h1:48≤b.toNat) (h2:b.toNat≤57):IntKind.i64.wrap (IntKind.u8.wrap ((b.toNat:Int)-48))=(b.toNat:Int)-48:=by
 rw[wrap_u8,wrap_i64 (by omega)];omega
theorem spec_l1ParseType_fn {names:List Str}{s:Str} (hn:names.length≤1000000000000) (hs:s.length≤1000000000000):
  FnD Tryz.prog 135 [.d (encStrs names),.d (.str s)] [] (.agg [.d (.i (parseTy names s).data),.d (.i (parseTy names s).index)]) []:=by
 have hlen:s≠[]→1≤s.length:=fun h=>by rcases s with _|⟨a,r⟩;exact absurd rfl h;simp
 refine bd Tryz.f135 39 [35] [] fun w0 F0 own kept hk=>?_
 refine Walk.alloc (id:=3004) tz25 rfl .none rfl rfl rfl rfl ?_
 refine tv ?_
 refine sq (fun h1 h1p h1s=>?_) fun h1 h1p h1s=>?_
 ·try simp only[Q] at h1p
  refine Walk.build st25 (ks:=[0]) (xs:=[_]) rfl rfl .none rfl rfl rfl ?_
  refine Walk.store ty25 .none rfl rfl rfl rfl rfl rfl (by simp) rfl ?_
  refine tv ?_
  refine rn0 (.cons (.cellA ty25 rfl rfl rfl) .nil) (.agg (.cons (.eqd ?_) (.cons (.eqd ?_) .nil)))
  all_goals (unfold parseTy;first|rfl|(rw[digit_wrap (b:=nth s 1) (by omega) (by omega),if_neg h1p];dsimp only;rw[if_neg h2p,if_pos ⟨by omega,by omega,by omega⟩];done)|(rw[if_pos h1p];done)|(rw[if_neg h1p];done)|(rw[if_neg h1p];dsimp only;rw[if_pos h2p];done)|(rw[if_neg h1p];dsimp only;rw[if_neg h2p,if_neg (fun hh=>by omega)];done)|(simp_all;done))
 ·try simp only[Q] at h1p
  refine Walk.cutS_h (b:=1) un9 .none rfl rfl rfl rfl (by have:=hlen (by simp_all);omega) ?_
  refine Walk.call (cr:=[]) cal139 (spec_l1Find_fn (names:=names) (s:=s.take 1) hn) rfl .none rfl rfl (LeL.refl _) trivial rfl rfl rfl ?_
  refine Walk.build st25 (ks:=[0]) (xs:=[_]) rfl rfl .none rfl rfl rfl ?_
  refine Walk.alloc (id:=3005) tz25 rfl .none rfl rfl rfl rfl ?_
  refine Walk.store ty25 .none rfl rfl rfl rfl rfl rfl (by simp) rfl ?_
  refine tv ?_
  refine Walk.cutS_l (b:=1) un9 .none rfl rfl rfl rfl (by have:=hlen (by simp_all);omega) ?_
  refine evs [35] [] ?_
  refine sq (fun h2 h2p h2s=>?_) fun h2 h2p h2s=>?_
  ·try simp only[Q] at h2p
   refine Walk.store ty3 .none rfl rfl rfl rfl rfl rfl (by simp) rfl ?_
   refine tv ?_
   refine Walk.store ty25 .none rfl rfl rfl rfl rfl rfl (by simp) rfl ?_
   refine tv ?_
   refine rn0 (.cons (.cellA ty25 rfl rfl rfl) .nil) (.agg (.cons (.eqd ?_) (.cons (.eqd ?_) .nil)))
   all_goals (unfold parseTy;first|rfl|(rw[digit_wrap (b:=nth s 1) (by omega) (by omega),if_neg h1p];dsimp only;rw[if_neg h2p,if_pos ⟨by omega,by omega,by omega⟩];done)|(rw[if_pos h1p];done)|(rw[if_neg h1p];done)|(rw[if_neg h1p];dsimp only;rw[if_pos h2p];done)|(rw[if_neg h1p];dsimp only;rw[if_neg h2p,if_neg (fun hh=>by omega)];done)|(simp_all;done))
  ·try simp only[Q] at h2p
   refine sq (fun h3 h3p h3s=>?_) fun h3 h3p h3s=>?_
   ·try simp only[Q] at h3p
    refine Walk.idxS (i:=1) un9 (.some rfl rfl h3) rfl rfl rfl rfl (str_at (by simp_all;omega)) ?_
    refine evs [35] [(23,true)] ?_ ⟨⟨_,rfl,h3⟩,trivial⟩
    refine sq (fun h4 h4p h4s=>?_) fun h4 h4p h4s=>?_
    ·try simp only[Q] at h4p
     refine Walk.idxS (i:=1) un9 (.some rfl rfl h4) rfl rfl rfl rfl (str_at (by simp_all;omega)) ?_
     refine evs [35] [(28,true)] ?_ ⟨⟨_,rfl,h4⟩,trivial⟩
     refine sq (fun h5 h5p h5s=>?_) fun h5 h5p h5s=>?_
     ·try simp only[Q] at h5p
      refine Walk.idxS (i:=1) un9 .none rfl rfl rfl rfl (str_at (by simp_all;omega)) ?_
      refine Walk.subW .none rfl rfl rfl ?_
      refine Walk.conv (by rw[un5];rfl) un3 .none rfl rfl ?_
      refine evs [35] [] ?_
      refine Walk.store ty3 .none rfl rfl rfl rfl rfl rfl (by simp) rfl ?_
      refine tv ?_
      refine Walk.store ty25 .none rfl rfl rfl rfl rfl rfl (by simp) rfl ?_
      refine tv ?_
      refine rn0 (.cons (.cellA ty25 rfl rfl rfl) .nil) (.agg (.cons (.eqd ?_) (.cons (.eqd ?_) .nil)))
      all_goals (unfold parseTy;first|rfl|(rw[digit_wrap (b:=nth s 1) (by omega) (by omega),if_neg h1p];dsimp only;rw[if_neg h2p,if_pos ⟨by omega,by omega,by omega⟩];done)|(rw[if_pos h1p];done)|(rw[if_neg h1p];done)|(rw[if_neg h1p];dsimp only;rw[if_pos h2p];done)|(rw[if_neg h1p];dsimp only;rw[if_neg h2p,if_neg (fun hh=>by omega)];done)|(simp_all;done))
     ·try simp only[Q] at h5p
      refine Walk.store ty25 .none rfl rfl rfl rfl rfl rfl (by simp) rfl ?_
      refine tv ?_
      refine rn0 (.cons (.cellA ty25 rfl rfl rfl) .nil) (.agg (.cons (.eqd ?_) (.cons (.eqd ?_) .nil)))
      all_goals (unfold parseTy;first|rfl|(rw[digit_wrap (b:=nth s 1) (by omega) (by omega),if_neg h1p];dsimp only;rw[if_neg h2p,if_pos ⟨by omega,by omega,by omega⟩];done)|(rw[if_pos h1p];done)|(rw[if_neg h1p];done)|(rw[if_neg h1p];dsimp only;rw[if_pos h2p];done)|(rw[if_neg h1p];dsimp only;rw[if_neg h2p,if_neg (fun hh=>by omega)];done)|(simp_all;done))
    ·try simp only[Q] at h4p
     refine sqF ?_
     refine Walk.store ty25 .none rfl rfl rfl rfl rfl rfl (by simp) rfl ?_
     refine tv ?_
     refine rn0 (.cons (.cellA ty25 rfl rfl rfl) .nil) (.agg (.cons (.eqd ?_) (.cons (.eqd ?_) .nil)))
     all_goals (unfold parseTy;first|rfl|(rw[digit_wrap (b:=nth s 1) (by omega) (by omega),if_neg h1p];dsimp only;rw[if_neg h2p,if_pos ⟨by omega,by omega,by omega⟩];done)|(rw[if_pos h1p];done)|(rw[if_neg h1p];done)|(rw[if_neg h1p];dsimp only;rw[if_pos h2p];done)|(rw[if_neg h1p];dsimp only;rw[if_neg h2p,if_neg (fun hh=>by omega)];done)|(simp_all;done))
   ·try simp only[Q] at h3p
    refine sqF ?_
    refine sqF ?_
    refine Walk.store ty25 .none rfl rfl rfl rfl rfl rfl (by simp) rfl ?_
    refine tv ?_
    refine rn0 (.cons (.cellA ty25 rfl rfl rfl) .nil) (.agg (.cons (.eqd ?_) (.cons (.eqd ?_) .nil)))
    all_goals (unfold parseTy;first|rfl|(rw[digit_wrap (b:=nth s 1) (by omega) (by omega),if_neg h1p];dsimp only;rw[if_neg h2p,if_pos ⟨by omega,by omega,by omega⟩];done)|(rw[if_pos h1p];done)|(rw[if_neg h1p];done)|(rw[if_neg h1p];dsimp only;rw[if_pos h2p];done)|(rw[if_neg h1p];dsimp only;rw[if_neg h2p,if_neg (fun hh=>by omega)];done)|(simp_all;done))
def endsIx (s:Str):Prop:=2<s.length∧nth s (s.length-2)=58
instance (s:Str):Decidable (endsIx s):=inferInstanceAs (Decidable (_∧_))
def ctorOf (names:List Str) (ix:Int) (s:Str):Ctor:=
 let parts:=cutL 40 [] s
 ⟨nth parts 0,if parts.length<2∨(nth parts 1).length=0 then [] else ((cutL 44 [] ((nth parts 1).take ((nth parts 1).length-1))).take 4).map (parseTy names),ix⟩
def parseCtor (names:List Str) (s:Str):Ctor:=
 if endsIx s then ctorOf names (((nth s (s.length-1)).toNat:Int)-48) (s.take (s.length-2)) else ctorOf names 0 s
theorem map_take_next {α β:Type} [Inhabited α]{f:α→β}{l:List α}{i:Nat} (h:i<l.length):(l.map f).take (i+1)=(l.map f).take i++[f (nth l i)]:=by
 rw[List.take_add_one,List.getElem?_map,List.getElem?_eq_getElem h]
 simp[nth,List.getD,h]
theorem take_four {α:Type}{l:List α}{i:Nat} (h:i=4∨(i≤4∧l.length≤i)):l.take i=l.take 4:=by
 rcases h with rfl|⟨h1,h2⟩
 ·rfl
 ·rw[List.take_of_length_le h2,List.take_of_length_le (by omega)]
theorem u8_eq {a b:UInt8}:((a.toNat:Int)=(b.toNat:Int))↔a=b:=by rw[Int.natCast_inj];exact UInt8.toNat_inj
theorem wrap_byte (a:UInt8):IntKind.i64.wrap (a.toNat:Int)=(a.toNat:Int):=by have:=a.toNat_lt;exact wrap_i64 (by omega)
theorem cutL_nth {c:UInt8}{s:Str}{i:Nat} (h:i<(cutL c [] s).length):(nth (cutL c [] s) i).length≤s.length:=by
 have:=cutL_mem c s [] _ (nth_mem h);simpa using this
theorem spec_l1ParseCtor_fn {names:List Str}{s:Str} (hn:names.length≤1000000000000) (hs:s.length≤1000000):
  FnD Tryz.prog 116 [.d (encStrs names),.d (.str s)] [] (.agg [.d (.str (parseCtor names s).name),.d (encTys (parseCtor names s).args),.d (.i (parseCtor names s).index)]) []:=by
 have hwb:=wrap_byte (nth s (s.length-1))
 have hwl:=(nth s (s.length-1)).toNat_lt
 by_cases hc:endsIx s
 ·have hc1:=hc.1
  have hct:(s.take (s.length-2)).length=s.length-2:=by rw[List.length_take];omega
  have hcl:=cutL_len 40 (s.take (s.length-2)) []
  have hcp:=cutL_pos 40 (s.take (s.length-2)) []
  have hn1:=fun h=>cutL_nth (c:=40) (s:=s.take (s.length-2)) (i:=1) h
  have hal:=cutL_len 44 ((nth (cutL 40 [] (s.take (s.length-2))) 1).take ((nth (cutL 40 [] (s.take (s.length-2))) 1).length-1)) []
  refine bd Tryz.f116 83 [] [2,7] fun w0 F0 own kept hk=>?_
  refine Walk.alloc (id:=3004) tz110 rfl .none rfl rfl rfl rfl ?_
  refine tv ?_
  refine Walk.build st110 (ks:=[]) (xs:=[]) rfl rfl .none rfl rfl rfl ?_
  refine Walk.alloc (id:=3005) tz110 rfl .none rfl rfl rfl rfl ?_
  refine Walk.store ty110 .none rfl rfl rfl rfl rfl rfl (by simp) rfl ?_
  refine tv ?_
  refine CWp.regionJ ?_
  refine WRest.join 11 [(20,.d (.bool (true)))] [10,11,12,13,14,15,16,17,18,19] ?_ ?_
  ·
   refine ev ?_
   refine sq (fun h1 h1p h1s=>?_) fun h1 h1p h1s=>?_
   ·try simp only[Q,List.length_take] at h1p
    refine ar ?_
    refine Walk.idxS (i:=s.length-2) un9 (.some rfl rfl h1) rfl rfl rfl (by omega) (str_at (by omega)) ?_
    refine evs [] [(13,true)] ?_ ⟨⟨_,rfl,h1⟩,trivial⟩
    exact jn rfl (LeA.eqb (by first|rfl|(exfalso;omega)|(exact decide_eq_true (congrArg (fun z:UInt8=>(z.toNat:Int)) hc.2))|(exact decide_eq_false (fun hh=>hc ⟨by omega,(u8_eq (b:=58)).1 hh⟩))|(refine(decide_eq_true ?_).symm;omega)|(refine decide_eq_decide.2 ?_;omega)))
   ·try simp only[Q,List.length_take] at h1p
    exact jn rfl (LeA.eqb (by first|rfl|(exfalso;omega)|(exact decide_eq_true (congrArg (fun z:UInt8=>(z.toNat:Int)) hc.2))|(exact decide_eq_false (fun hh=>hc ⟨by omega,(u8_eq (b:=58)).1 hh⟩))|(refine(decide_eq_true ?_).symm;omega)|(refine decide_eq_decide.2 ?_;omega)))
  refine WRest.done ?_
  refine tv ?_
  refine sq (fun h2 h2p h2s=>?_) fun h2 h2p h2s=>?_
  ·try simp only[Q,List.length_take] at h2p
   refine ar ?_
   refine Walk.idxS (i:=s.length-1) un9 .none rfl rfl rfl (by omega) (str_at (by omega)) ?_
   refine Walk.conv (by rw[un5];rfl) un3 .none rfl rfl ?_
   refine ev ?_
   refine ar ?_
   refine Walk.store ty3 .none rfl rfl rfl rfl rfl rfl (by simp) rfl ?_
   refine tv ?_
   refine ar ?_
   refine Walk.cutS_h (b:=s.length-2) un9 .none rfl rfl rfl (by omega) (by omega) ?_
   refine ev ?_
   refine Walk.call (cr:=[]) cal115 (spec_l17Cut_fn (s:=s.take (s.length-2)) (c:=40) (by first|omega|(simp;omega))) rfl .none rfl rfl (LeL.refl _) trivial rfl rfl rfl ?_
   refine ev ?_
   refine Walk.idx (i:=0) sl120 .none rfl rfl rfl rfl (at_nth (by omega)) rfl ?_
   refine ev ?_
   refine Walk.store ty9 .none rfl rfl rfl rfl rfl rfl (by simp) rfl ?_
   refine tv ?_
   refine CWp.regionJ ?_
   refine WRest.join 10 [(49,.d (.bool (decide ((cutL 40 [] (s.take (s.length-2))).length<2∨(nth (cutL 40 [] (s.take (s.length-2))) 1).length=0))))] [40,41,42,43,44,45,46,47,48] ?_ ?_
   ·
    refine ev ?_
    refine sq (fun h3 h3p h3s=>?_) fun h3 h3p h3s=>?_
    ·try simp only[Q,List.length_take] at h3p
     exact jn rfl (LeA.eqb (by first|rfl|(exfalso;omega)|(exact decide_eq_true (congrArg (fun z:UInt8=>(z.toNat:Int)) hc.2))|(exact decide_eq_false (fun hh=>hc ⟨by omega,(u8_eq (b:=58)).1 hh⟩))|(refine(decide_eq_true ?_).symm;omega)|(refine decide_eq_decide.2 ?_;omega)))
    ·try simp only[Q,List.length_take] at h3p
     refine Walk.idx (i:=1) sl120 (.some rfl rfl h3) rfl rfl rfl rfl (at_nth (by omega)) rfl ?_
     refine evs [] [(43,false)] ?_ ⟨⟨_,rfl,h3⟩,trivial⟩
     exact jn rfl (LeA.eqb (by first|rfl|(exfalso;omega)|(exact decide_eq_true (congrArg (fun z:UInt8=>(z.toNat:Int)) hc.2))|(exact decide_eq_false (fun hh=>hc ⟨by omega,(u8_eq (b:=58)).1 hh⟩))|(refine(decide_eq_true ?_).symm;omega)|(refine decide_eq_decide.2 ?_;omega)))
   refine WRest.done ?_
   refine tv ?_
   refine sq (fun h4 h4p h4s=>?_) fun h4 h4p h4s=>?_
   ·try simp only[Q,List.length_take] at h4p
    refine Walk.store ty110 .none rfl rfl rfl rfl rfl rfl (by simp) rfl ?_
    refine tv ?_
    refine rn0 (.cons (.cellA ty110 rfl rfl rfl) .nil) (.agg (.cons (.eqd ?_) (.cons (.nild ?_) (.cons (.eqd ?_) .nil))))
    all_goals (unfold parseCtor;rw[if_pos hc];first|rfl|(rw[hwb];done)|(rw[hwb];rfl)|(unfold ctorOf;dsimp only;by_cases hq:(cutL 40 [] (s.take (s.length-2))).length<2∨(nth (cutL 40 [] (s.take (s.length-2))) 1).length=0;all_goals first|(exfalso;exact(of_decide_eq_false h4) hq)|(exfalso;exact hq (of_decide_eq_true h4))|(rw[if_pos hq];done)|(rw[if_pos hq];rfl)|(rw[if_neg hq,←List.map_take,take_four (by omega)];done)))
   ·try simp only[Q,List.length_take] at h4p
    refine Walk.idx (i:=1) sl120 .none rfl rfl rfl rfl (at_nth (by omega)) rfl ?_
    refine evd [] [] ?_
    refine Walk.idx (i:=1) sl120 .none rfl rfl rfl rfl (at_nth (by omega)) rfl ?_
    refine evd [] [] ?_
    refine ar ?_
    refine Walk.cutS_h (b:=(nth (cutL 40 [] (s.take (s.length-2))) 1).length-1) un9 .none rfl rfl rfl (by omega) (by omega) ?_
    refine Walk.call (cr:=[]) cal115 (spec_l17Cut_fn (s:=(nth (cutL 40 [] (s.take (s.length-2))) 1).take ((nth (cutL 40 [] (s.take (s.length-2))) 1).length-1)) (c:=44) (by simp;omega)) rfl .none rfl rfl (LeL.refl _) trivial rfl rfl rfl ?_
    refine evd [] [] ?_
    refine dr ?_
    refine CWp.tokB 3005 1 1 2 rfl rfl rfl rfl ?_
    refine CWp.loopX (ι:=Nat) hk (fun i=>[(8,.d (.i (i:Int)))]) [61,62,63,64,65,66,67,68,69,70,71,72,73,74,75,76,77,78,79,80,81] (fun i=>[(3005,some (.box [.d (.str (nth (cutL 40 [] (s.take (s.length-2))) 0)),.gl 1 (((((cutL 44 [] ((nth (cutL 40 [] (s.take (s.length-2))) 1).take ((nth (cutL 40 [] (s.take (s.length-2))) 1).length-1))).map (parseTy names)).take i)).map Ty.c),.d (.i (((nth s (s.length-1)).toNat:Int)-48))])),(1,some (.tok (((((cutL 44 [] ((nth (cutL 40 [] (s.take (s.length-2))) 1).take ((nth (cutL 40 [] (s.take (s.length-2))) 1).length-1))).map (parseTy names)).take i)).map Ty.c).length 2))]) (fun i=>i≤4∧i≤(cutL 44 [] ((nth (cutL 40 [] (s.take (s.length-2))) 1).take ((nth (cutL 40 [] (s.take (s.length-2))) 1).length-1))).length) (fun i=>4-i) 0 ⟨by omega,by omega⟩ ⟨⟨_,rfl,(LeA.eqi (by first|rfl|(simp;done)|(simp_all;done)|omega))⟩,trivial⟩ ⟨(by first|rfl|(simp[getH];done)|(show some (Res.box _)=some (Res.box _);rw[hwb];rfl)|(show some (Res.box _)=some (Res.box _);rw[map_take_next (by omega)];simp;done)),⟨beq_nat_eq (by first|rfl|(simp;done)|(simp;omega)|(first|rfl|(simp;done)|(simp_all;done)|omega)),trivial⟩⟩ (fun x=>rfl) (fun i hg1=>?_)
    refine evc [] [2,7] ?_
    refine sq (fun h5 h5p h5s=>?_) fun h5 h5p h5s=>?_
    ·try simp only[Q,List.length_take] at h5p
     refine sq (fun h6 h6p h6s=>?_) fun h6 h6p h6s=>?_
     ·try simp only[Q,List.length_take] at h6p
      refine Walk.idx sl120 .none rfl rfl rfl rfl (at_nth (by omega)) rfl ?_
      refine evd [] [] ?_
      refine Walk.call (cr:=[]) cal135 (spec_l1ParseType_fn (names:=names) (s:=nth (cutL 44 [] ((nth (cutL 40 [] (s.take (s.length-2))) 1).take ((nth (cutL 40 [] (s.take (s.length-2))) 1).length-1))) i) hn (by have:=cutL_nth (c:=44) (s:=(nth (cutL 40 [] (s.take (s.length-2))) 1).take ((nth (cutL 40 [] (s.take (s.length-2))) 1).length-1)) (i:=i) (by omega);simp at this;omega)) rfl .none rfl rfl (LeL.refl _) trivial rfl rfl rfl ?_
      refine Walk.sliceLit sl102 tz25 rfl (by decide) (ks:=[0]) (xs:=[_]) rfl rfl (by decide) (by decide) .none rfl rfl rfl rfl ?_
      refine Walk.append sl102 zz25 rfl .none rfl rfl rfl rfl (htokL rfl (by first|rfl|(simp;done)|(simp;omega))) (by simp) (by simp;omega) (by simp;omega) ?_
      refine evd [] [] ?_
      refine Walk.store ty102 .none rfl rfl rfl rfl rfl rfl (by simp) rfl ?_
      refine dr ?_
      refine ar ?_
      refine Exists.intro (i+1) ⟨⟨by omega,by omega⟩,(by omega),Sub.x (by kernel_rfl) (by kernel_rfl) ⟨⟨_,rfl,(LeA.eqi (by first|rfl|(simp;done)|(simp_all;done)|omega))⟩,trivial⟩ (by kernel_rfl) (by kernel_rfl) ⟨(by first|rfl|(simp[getH];done)|(show some (Res.box _)=some (Res.box _);rw[hwb];rfl)|(show some (Res.box _)=some (Res.box _);rw[map_take_next (by omega)];simp;done)),⟨beq_nat_eq (by first|rfl|(simp;done)|(simp;omega)|(first|rfl|(simp;done)|(simp_all;done)|omega)),trivial⟩⟩⟩
     ·try simp only[Q,List.length_take] at h6p
      refine Walk.store ty110 .none rfl rfl rfl rfl rfl rfl (by simp) rfl ?_
      refine tv ?_
      refine rn0 (.cons (.cellA ty110 rfl rfl rfl) .nil) (.agg (.cons (.eqd ?_) (.cons (.gld ?_) (.cons (.eqd ?_) .nil))))
      all_goals (unfold parseCtor;rw[if_pos hc];first|rfl|(rw[hwb];done)|(rw[hwb];rfl)|(unfold ctorOf;dsimp only;by_cases hq:(cutL 40 [] (s.take (s.length-2))).length<2∨(nth (cutL 40 [] (s.take (s.length-2))) 1).length=0;all_goals first|(exfalso;exact(of_decide_eq_false h4) hq)|(exfalso;exact hq (of_decide_eq_true h4))|(rw[if_pos hq];done)|(rw[if_pos hq];rfl)|(rw[if_neg hq,←List.map_take,take_four (by omega)];done)))
    ·try simp only[Q,List.length_take] at h5p
     refine sqF ?_
     refine Walk.store ty110 .none rfl rfl rfl rfl rfl rfl (by simp) rfl ?_
     refine tv ?_
     refine rn0 (.cons (.cellA ty110 rfl rfl rfl) .nil) (.agg (.cons (.eqd ?_) (.cons (.gld ?_) (.cons (.eqd ?_) .nil))))
     all_goals (unfold parseCtor;rw[if_pos hc];first|rfl|(rw[hwb];done)|(rw[hwb];rfl)|(unfold ctorOf;dsimp only;by_cases hq:(cutL 40 [] (s.take (s.length-2))).length<2∨(nth (cutL 40 [] (s.take (s.length-2))) 1).length=0;all_goals first|(exfalso;exact(of_decide_eq_false h4) hq)|(exfalso;exact hq (of_decide_eq_true h4))|(rw[if_pos hq];done)|(rw[if_pos hq];rfl)|(rw[if_neg hq,←List.map_take,take_four (by omega)];done)))
  ·try simp only[Q,List.length_take] at h2p
   exact absurd h2 (by simp)
 ·skip
  have hcl:=cutL_len 40 (s) []
  have hcp:=cutL_pos 40 (s) []
  have hn1:=fun h=>cutL_nth (c:=40) (s:=s) (i:=1) h
  have hal:=cutL_len 44 ((nth (cutL 40 [] (s)) 1).take ((nth (cutL 40 [] (s)) 1).length-1)) []
  refine bd Tryz.f116 83 [] [2,7] fun w0 F0 own kept hk=>?_
  refine Walk.alloc (id:=3004) tz110 rfl .none rfl rfl rfl rfl ?_
  refine tv ?_
  refine Walk.build st110 (ks:=[]) (xs:=[]) rfl rfl .none rfl rfl rfl ?_
  refine Walk.alloc (id:=3005) tz110 rfl .none rfl rfl rfl rfl ?_
  refine Walk.store ty110 .none rfl rfl rfl rfl rfl rfl (by simp) rfl ?_
  refine tv ?_
  refine CWp.regionJ ?_
  refine WRest.join 11 [(20,.d (.bool (false)))] [10,11,12,13,14,15,16,17,18,19] ?_ ?_
  ·
   refine ev ?_
   refine sq (fun h1 h1p h1s=>?_) fun h1 h1p h1s=>?_
   ·try simp only[Q,List.length_take] at h1p
    refine ar ?_
    refine Walk.idxS (i:=s.length-2) un9 (.some rfl rfl h1) rfl rfl rfl (by omega) (str_at (by omega)) ?_
    refine evs [] [(13,true)] ?_ ⟨⟨_,rfl,h1⟩,trivial⟩
    exact jn rfl (LeA.eqb (by first|rfl|(exfalso;omega)|(exact decide_eq_true (congrArg (fun z:UInt8=>(z.toNat:Int)) hc.2))|(exact decide_eq_false (fun hh=>hc ⟨by omega,(u8_eq (b:=58)).1 hh⟩))|(refine(decide_eq_true ?_).symm;omega)|(refine decide_eq_decide.2 ?_;omega)))
   ·try simp only[Q,List.length_take] at h1p
    exact jn rfl (LeA.eqb (by first|rfl|(exfalso;omega)|(exact decide_eq_true (congrArg (fun z:UInt8=>(z.toNat:Int)) hc.2))|(exact decide_eq_false (fun hh=>hc ⟨by omega,(u8_eq (b:=58)).1 hh⟩))|(refine(decide_eq_true ?_).symm;omega)|(refine decide_eq_decide.2 ?_;omega)))
  refine WRest.done ?_
  refine tv ?_
  refine sq (fun h2 h2p h2s=>?_) fun h2 h2p h2s=>?_
  ·try simp only[Q,List.length_take] at h2p
   exact absurd h2 (by simp)
  ·try simp only[Q,List.length_take] at h2p
   refine Walk.call (cr:=[]) cal115 (spec_l17Cut_fn (s:=s) (c:=40) (by first|omega|(simp;omega))) rfl .none rfl rfl (LeL.refl _) trivial rfl rfl rfl ?_
   refine ev ?_
   refine Walk.idx (i:=0) sl120 .none rfl rfl rfl rfl (at_nth (by omega)) rfl ?_
   refine ev ?_
   refine Walk.store ty9 .none rfl rfl rfl rfl rfl rfl (by simp) rfl ?_
   refine tv ?_
   refine CWp.regionJ ?_
   refine WRest.join 10 [(49,.d (.bool (decide ((cutL 40 [] (s)).length<2∨(nth (cutL 40 [] (s)) 1).length=0))))] [40,41,42,43,44,45,46,47,48] ?_ ?_
   ·
    refine ev ?_
    refine sq (fun h3 h3p h3s=>?_) fun h3 h3p h3s=>?_
    ·try simp only[Q,List.length_take] at h3p
     exact jn rfl (LeA.eqb (by first|rfl|(exfalso;omega)|(exact decide_eq_true (congrArg (fun z:UInt8=>(z.toNat:Int)) hc.2))|(exact decide_eq_false (fun hh=>hc ⟨by omega,(u8_eq (b:=58)).1 hh⟩))|(refine(decide_eq_true ?_).symm;omega)|(refine decide_eq_decide.2 ?_;omega)))
    ·try simp only[Q,List.length_take] at h3p
     refine Walk.idx (i:=1) sl120 (.some rfl rfl h3) rfl rfl rfl rfl (at_nth (by omega)) rfl ?_
     refine evs [] [(43,false)] ?_ ⟨⟨_,rfl,h3⟩,trivial⟩
     exact jn rfl (LeA.eqb (by first|rfl|(exfalso;omega)|(exact decide_eq_true (congrArg (fun z:UInt8=>(z.toNat:Int)) hc.2))|(exact decide_eq_false (fun hh=>hc ⟨by omega,(u8_eq (b:=58)).1 hh⟩))|(refine(decide_eq_true ?_).symm;omega)|(refine decide_eq_decide.2 ?_;omega)))
   refine WRest.done ?_
   refine tv ?_
   refine sq (fun h4 h4p h4s=>?_) fun h4 h4p h4s=>?_
   ·try simp only[Q,List.length_take] at h4p
    refine Walk.store ty110 .none rfl rfl rfl rfl rfl rfl (by simp) rfl ?_
    refine tv ?_
    refine rn0 (.cons (.cellA ty110 rfl rfl rfl) .nil) (.agg (.cons (.eqd ?_) (.cons (.nild ?_) (.cons (.eqd ?_) .nil))))
    all_goals (unfold parseCtor;rw[if_neg hc];first|rfl|(rw[hwb];done)|(rw[hwb];rfl)|(unfold ctorOf;dsimp only;by_cases hq:(cutL 40 [] (s)).length<2∨(nth (cutL 40 [] (s)) 1).length=0;all_goals first|(exfalso;exact(of_decide_eq_false h4) hq)|(exfalso;exact hq (of_decide_eq_true h4))|(rw[if_pos hq];done)|(rw[if_pos hq];rfl)|(rw[if_neg hq,←List.map_take,take_four (by omega)];done)))
   ·try simp only[Q,List.length_take] at h4p
    refine Walk.idx (i:=1) sl120 .none rfl rfl rfl rfl (at_nth (by omega)) rfl ?_
    refine evd [] [] ?_
    refine Walk.idx (i:=1) sl120 .none rfl rfl rfl rfl (at_nth (by omega)) rfl ?_
    refine evd [] [] ?_
    refine ar ?_
    refine Walk.cutS_h (b:=(nth (cutL 40 [] (s)) 1).length-1) un9 .none rfl rfl rfl (by omega) (by omega) ?_
    refine Walk.call (cr:=[]) cal115 (spec_l17Cut_fn (s:=(nth (cutL 40 [] (s)) 1).take ((nth (cutL 40 [] (s)) 1).length-1)) (c:=44) (by simp;omega)) rfl .none rfl rfl (LeL.refl _) trivial rfl rfl rfl ?_
    refine evd [] [] ?_
    refine dr ?_
    refine CWp.tokB 3005 1 1 2 rfl rfl rfl rfl ?_
    refine CWp.loopX (ι:=Nat) hk (fun i=>[(8,.d (.i (i:Int)))]) [61,62,63,64,65,66,67,68,69,70,71,72,73,74,75,76,77,78,79,80,81] (fun i=>[(3005,some (.box [.d (.str (nth (cutL 40 [] (s)) 0)),.gl 1 (((((cutL 44 [] ((nth (cutL 40 [] (s)) 1).take ((nth (cutL 40 [] (s)) 1).length-1))).map (parseTy names)).take i)).map Ty.c),.d (.i (0))])),(1,some (.tok (((((cutL 44 [] ((nth (cutL 40 [] (s)) 1).take ((nth (cutL 40 [] (s)) 1).length-1))).map (parseTy names)).take i)).map Ty.c).length 2))]) (fun i=>i≤4∧i≤(cutL 44 [] ((nth (cutL 40 [] (s)) 1).take ((nth (cutL 40 [] (s)) 1).length-1))).length) (fun i=>4-i) 0 ⟨by omega,by omega⟩ ⟨⟨_,rfl,(LeA.eqi (by first|rfl|(simp;done)|(simp_all;done)|omega))⟩,trivial⟩ ⟨(by first|rfl|(simp[getH];done)|(show some (Res.box _)=some (Res.box _);rw[hwb];rfl)|(show some (Res.box _)=some (Res.box _);rw[map_take_next (by omega)];simp;done)),⟨beq_nat_eq (by first|rfl|(simp;done)|(simp;omega)|(first|rfl|(simp;done)|(simp_all;done)|omega)),trivial⟩⟩ (fun x=>rfl) (fun i hg1=>?_)
    refine evc [] [2,7] ?_
    refine sq (fun h5 h5p h5s=>?_) fun h5 h5p h5s=>?_
    ·try simp only[Q,List.length_take] at h5p
     refine sq (fun h6 h6p h6s=>?_) fun h6 h6p h6s=>?_
     ·try simp only[Q,List.length_take] at h6p
      refine Walk.idx sl120 .none rfl rfl rfl rfl (at_nth (by omega)) rfl ?_
      refine evd [] [] ?_
      refine Walk.call (cr:=[]) cal135 (spec_l1ParseType_fn (names:=names) (s:=nth (cutL 44 [] ((nth (cutL 40 [] (s)) 1).take ((nth (cutL 40 [] (s)) 1).length-1))) i) hn (by have:=cutL_nth (c:=44) (s:=(nth (cutL 40 [] (s)) 1).take ((nth (cutL 40 [] (s)) 1).length-1)) (i:=i) (by omega);simp at this;omega)) rfl .none rfl rfl (LeL.refl _) trivial rfl rfl rfl ?_
      refine Walk.sliceLit sl102 tz25 rfl (by decide) (ks:=[0]) (xs:=[_]) rfl rfl (by decide) (by decide) .none rfl rfl rfl rfl ?_
      refine Walk.append sl102 zz25 rfl .none rfl rfl rfl rfl (htokL rfl (by first|rfl|(simp;done)|(simp;omega))) (by simp) (by simp;omega) (by simp;omega) ?_
      refine evd [] [] ?_
      refine Walk.store ty102 .none rfl rfl rfl rfl rfl rfl (by simp) rfl ?_
      refine dr ?_
      refine ar ?_
      refine Exists.intro (i+1) ⟨⟨by omega,by omega⟩,(by omega),Sub.x (by kernel_rfl) (by kernel_rfl) ⟨⟨_,rfl,(LeA.eqi (by first|rfl|(simp;done)|(simp_all;done)|omega))⟩,trivial⟩ (by kernel_rfl) (by kernel_rfl) ⟨(by first|rfl|(simp[getH];done)|(show some (Res.box _)=some (Res.box _);rw[hwb];rfl)|(show some (Res.box _)=some (Res.box _);rw[map_take_next (by omega)];simp;done)),⟨beq_nat_eq (by first|rfl|(simp;done)|(simp;omega)|(first|rfl|(simp;done)|(simp_all;done)|omega)),trivial⟩⟩⟩
     ·try simp only[Q,List.length_take] at h6p
      refine Walk.store ty110 .none rfl rfl rfl rfl rfl rfl (by simp) rfl ?_
      refine tv ?_
      refine rn0 (.cons (.cellA ty110 rfl rfl rfl) .nil) (.agg (.cons (.eqd ?_) (.cons (.gld ?_) (.cons (.eqd ?_) .nil))))
      all_goals (unfold parseCtor;rw[if_neg hc];first|rfl|(rw[hwb];done)|(rw[hwb];rfl)|(unfold ctorOf;dsimp only;by_cases hq:(cutL 40 [] (s)).length<2∨(nth (cutL 40 [] (s)) 1).length=0;all_goals first|(exfalso;exact(of_decide_eq_false h4) hq)|(exfalso;exact hq (of_decide_eq_true h4))|(rw[if_pos hq];done)|(rw[if_pos hq];rfl)|(rw[if_neg hq,←List.map_take,take_four (by omega)];done)))
    ·try simp only[Q,List.length_take] at h5p
     refine sqF ?_
     refine Walk.store ty110 .none rfl rfl rfl rfl rfl rfl (by simp) rfl ?_
     refine tv ?_
     refine rn0 (.cons (.cellA ty110 rfl rfl rfl) .nil) (.agg (.cons (.eqd ?_) (.cons (.gld ?_) (.cons (.eqd ?_) .nil))))
     all_goals (unfold parseCtor;rw[if_neg hc];first|rfl|(rw[hwb];done)|(rw[hwb];rfl)|(unfold ctorOf;dsimp only;by_cases hq:(cutL 40 [] (s)).length<2∨(nth (cutL 40 [] (s)) 1).length=0;all_goals first|(exfalso;exact(of_decide_eq_false h4) hq)|(exfalso;exact hq (of_decide_eq_true h4))|(rw[if_pos hq];done)|(rw[if_pos hq];rfl)|(rw[if_neg hq,←List.map_take,take_four (by omega)];done)))
end Go.Proofs.YtflgpdjbgfkhoaaGreat
