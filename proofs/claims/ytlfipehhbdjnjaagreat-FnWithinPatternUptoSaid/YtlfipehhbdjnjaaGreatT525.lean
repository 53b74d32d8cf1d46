/-
  THE ABSTRACT WALK AND THE WALKS, part 5 of 6: the parts F110, F113, F120, F73, F82, F83, F84, G5, F122, F123, Ta, F90, F91, F92, F93, F94, F95, F39, F96, F121, F126, F124, F136, F125, F127, F137, F141.
-/
import Derived.Test.YtlfipehhbdjnjaaGreatT524
namespace Go.Proofs.YtlfipehhbdjnjaaGreat
open Go
set_option linter.unusedSimpArgs false
set_option linter.unusedVariables false
set_option maxRecDepth 100000
set_option maxHeartbeats 2000000
mutual
def hitP:Pat->Val->Bool
 | .mk op c n m _ ks,v=>if op=3 then zav v.num n m else if op=4 then decide (c=v.ctor)&&hitL ks v.kids else true
def hitL:List Pat->List Val->Bool
 |p::r,v::s=>hitP p v&&hitL r s
 |_,_=>true
end
theorem znY (p:Pat) (v:Val):hitP p v=if p.op=3 then zav v.num p.n p.m else if p.op=4 then decide (p.ctor=v.ctor)&&hitL p.kids v.kids else true:=by
 cases p;unfold hitP;rfl
theorem zeR {p:Pat}{v:Val} (h:p.op=1):hitP p v=true:=by rw[znY,if_neg (by omega),if_neg (by omega)]
theorem zgV {p:Pat}{v:Val} (h:p.op=3):hitP p v=zav v.num p.n p.m:=by rw[znY,if_pos h]
theorem zcH {p:Pat}{v:Val} (h:p.op=4):hitP p v=(decide (p.ctor=v.ctor)&&hitL p.kids v.kids):=by rw[znY,if_neg (by omega),if_pos h]
theorem zjc:∀ {l:List Pat}{s:List Val},l.length=s.length->(hitL l s=true↔∀i,i<l.length->hitP (nth l i) (nth s i)=true)
 | [],[],_=>by simp[hitL]
 |p::r,v::s,h=>by
  have ih:=zjc (l:=r) (s:=s) (by simpa using h);simp only[hitL,xad,ih];constructor
  ·rintro ⟨h1,h2⟩ i hi
   cases i with
   |zero=>exact h1
   |succ i=>exact h2 i (by simpa using hi)
  ·intro h1;exact⟨h1 0 (by simp),fun i hi=>h1 (i+1) (by simpa using hi)⟩
 | [],_::_,h=>by simp at h
 |_::_,[],h=>by simp at h
theorem zlK {α:Type}:∀(l:List α) (s:List Val),hitL (l.map fun _=>anyQ) s=true
 | [],_=>by simp[hitL]
 |_::_,[]=>by simp[hitL]
 |_::r,v::s=>by simp only[xae,hitL,zlK r s,Bool.and_true];exact zeR rfl
theorem zgr:∀(l:List Pat) (s:List Val) (p:Pat) (v:Val),l.length=s.length->hitL (l++[p]) (s++[v])=(hitL l s&&hitP p v)
 | [],[],p,v,_=>by simp[hitL]
 |q::r,x::s,p,v,h=>by
  simp only[xag,hitL,zgr r s p v (by simpa using h),Bool.and_assoc]
 | [],_::_,_,_,h=>by simp at h
 |_::_,[],_,_,h=>by simp at h
theorem zqA:∀(l:List Pat) (s:List Val) (r:List Pat) (q:List Val),l.length=s.length->hitL (l++r) (s++q)=(hitL l s&&hitL r q)
 | [],[],r,q,_=>by simp[hitL]
 |p::l,x::s,r,q,h=>by
  simp only[xag,hitL,zqA l s r q (by simpa using h),Bool.and_assoc]
 | [],_::_,_,_,h=>by simp at h
 |_::_,[],_,_,h=>by simp at h
theorem zvj {w:List Data}{m:Nat}{t:Ty}{v:Val} (h:zaF w m t v=true) (ht:t.data = -1):0<=v.num/\v.num<=9:=by
 cases m with
 |zero=>simp[zaF] at h
 |succ m=>
  unfold zaF at h;rw[if_pos ht] at h;simp only[xad,decide_eq_true_eq] at h;omega
theorem zq2:∀(ls:List (List Pat)) (vs:List Val) (out:List (List Pat)) (v0:List Val),ls.length=vs.length->(∀q∈out,q.length=v0.length)->
  ((∃l∈ls.foldl za5 out,hitL l (v0++vs)=true)↔(∃q∈out,hitL q v0=true)/\∀i,i<ls.length->∃x∈nth ls i,hitP x (nth vs i)=true)
 | [],[],out,v0,_,_=>by simp
 |l::r,v::s,out,v0,h,ho=>by
  have ih:=zq2 r s (za5 out l) (v0++[v]) (by simpa using h) (fun q hq=>by
   unfold za5 at hq;obtain⟨q0,h1,h2⟩:=List.mem_flatMap.1 hq;obtain⟨c,h3,rfl⟩:=List.mem_map.1 h2;simp[ho q0 h1])
  rw[List.append_assoc] at ih;rw[List.foldl_cons,show v0++v::s=v0++([v]++s) from rfl,ih];constructor
  ·rintro ⟨⟨q,hq,hh⟩,h2⟩
   unfold za5 at hq;obtain⟨q0,h3,h4⟩:=List.mem_flatMap.1 hq;obtain⟨c,h5,rfl⟩:=List.mem_map.1 h4;rw[zgr q0 v0 c v (ho q0 h3),xad] at hh;refine⟨⟨q0,h3,hh.1⟩,fun i hi=>?_⟩;cases i with
   |zero=>exact⟨c,h5,hh.2⟩
   |succ i=>exact h2 i (by simpa using hi)
  ·rintro ⟨⟨q,hq,hh⟩,h2⟩
   obtain⟨c,h5,h6⟩:=h2 0 (by simp);refine⟨⟨q++[c], ?_, ?_⟩,fun i hi=>h2 (i+1) (by simpa using hi)⟩
   ·unfold za5;exact List.mem_flatMap.2 ⟨q,hq,List.mem_map.2 ⟨c,h5,rfl⟩⟩
   ·rw[zgr q v0 c v (ho q hq),hh];exact h6
 | [],_::_,_,_,h,_=>by simp at h
 |_::_,[],_,_,h,_=>by simp at h
theorem zgY {f:Pat->Val->List Bd×Bool}:∀ {a:List Pat}{b:List Val}{acc:List Bd},a.length=b.length->((zbu f a b acc).2=true↔∀i,i<a.length->(f (nth a i) (nth b i)).2=true)
 | [],[],acc,_=>by simp[zbu]
 |p::r,v::s,acc,h=>by
  unfold zbu;by_cases hp:(f p v).2=true
  ·rw[if_pos hp,zgY (a:=r) (b:=s) (by simpa using h)];constructor
   ·intro h1 i hi;cases i with
    |zero=>exact hp
    |succ i=>exact h1 i (by simpa using hi)
   ·intro h1 i hi;exact h1 (i+1) (by simpa using hi)
  ·rw[if_neg hp];constructor
   ·intro h1;cases h1
   ·intro h1;exact absurd (h1 0 (by simp)) hp
 | [],_::_,_,h=>by simp at h
 |_::_,[],_,h=>by simp at h
theorem zdo {p:Pat} (h5:p.op≠5) (hk:p.kids=[]):zar p=[p]:=by
 rw[zc5 h5,hk];cases p
 simp only[zaX] at hk;subst hk;simp[zef,zce,zfd,mk_n,mk_m,zhB]
theorem zeP {w:List Data}:∀(n m:Nat){t:Ty}{p:Pat}{v:Val},zao w n t p=true->zaF w m t v=true->((zau n p v).2=true↔∃x∈zar (zat p),hitP x v=true)
 |0,m,t,p,v,h,_=>by simp[zao] at h
 |n+1,0,t,p,v,_,h=>by simp[zaF] at h
 |n+1,m+1,t,p,v,h,hv=>by
  rcases zdZ h with h1|h2|h3|h4|h5|h6
  ·have hk:=zeH h (by omega) (by omega) (by omega);rw[ze9 h1,zbh,if_neg (by omega),if_neg (by omega),zdo (by rw[zce];omega) (by rw[zaX,hk];rfl)];simp only[List.mem_singleton,exists_eq_left,true_iff];exact zeR h1
  ·rw[zfX h2,zbh,if_pos h2,zcf];simp only[List.mem_singleton,exists_eq_left,true_iff];exact zeR rfl
  ·have hk:=zeH h (by omega) (by omega) (by omega);rw[zeC h3,zbh,if_neg (by omega),if_neg (by omega),zdo (by rw[zce];omega) (by rw[zaX,hk];rfl)];simp only[List.mem_singleton,exists_eq_left];rw[zgV (p:= .mk p.op p.ctor p.n p.m p.var (p.kids.map zat)) h3];exact Iff.rfl
  ·have hs:=h;unfold zao at hs;rw[xad,zaU h4] at hs;have hl:=zeM hs.2;rw[zbh,if_neg (by omega),if_neg (by omega),zc5 (by rw[zce];omega)];have hd:t.data≠ -1:=fun e=>by
    have:=zb4 hs.1 h4;unfold zai at this;rw[if_pos e] at this;simp at this
   obtain⟨f1,f2,f3⟩:=zdh hv hd;by_cases hc:p.ctor=v.ctor
   ·rw[zfY h4 hc];rw[hc] at hl hs;have hlen:p.kids.length=v.kids.length:=by omega
    rw[zgY hlen];have hp:=zq2 ((p.kids.map zat).map zar) v.kids [[]] [] (by simp[hlen]) (by simp);simp only[List.nil_append,List.mem_singleton,exists_eq_left,hitL,true_and,xac] at hp;have hih:∀i,i<p.kids.length->((zau n (nth p.kids i) (nth v.kids i)).2=true↔∃x∈nth ((p.kids.map zat).map zar) i,hitP x (nth v.kids i)=true):=fun i hi=>by
     rw[zeP n m (zcG hl hs.2 i (by omega)) (f3 i (by omega))];have e:nth ((p.kids.map zat).map zar) i=zar (zat (nth p.kids i)):=by
      rw[zaO (by simpa using hi),zaO hi];simp
     rw[e]
    constructor
    ·intro h1;obtain⟨l,hl2,hh⟩:=hp.2 (fun i hi=>(hih i hi).1 (h1 i hi));refine⟨_,List.mem_map.2 ⟨l,hl2,rfl⟩, ?_⟩;rw[zcH (by rw[zce];exact h4)];simp only[zfd,zaX,hc,hh,decide_true,Bool.and_self]
    ·rintro ⟨x,hx,hh⟩ i hi
     obtain⟨l,hl2,rfl⟩:=List.mem_map.1 hx;rw[zcH (by rw[zce];exact h4),xad] at hh;exact(hih i hi).2 (hp.1 ⟨l,hl2,hh.2⟩ i hi)
   ·rw[zfZ h4 hc];constructor
    ·intro h1;cases h1
    ·rintro ⟨x,hx,hh⟩
     obtain⟨l,hl2,rfl⟩:=List.mem_map.1 hx;rw[zcH (by rw[zce];exact h4),xad] at hh;exact absurd (of_decide_eq_true hh.1) hc
  ·obtain⟨l2,s0,s1⟩:=zdM h h5;have ee:p.kids.map zat=[zat (nth p.kids 0),zat (nth p.kids 1)]:=by
    match hk:p.kids,l2 with
    | [a,b],_=>rfl
   rw[zbh,if_neg (by omega),if_neg (by omega),zdu (by rw[zce];exact h5) (by rw[zaX];simpa using l2),zaX,ee];have i0:=zeP n (m+1) s0 hv;have i1:=zeP n (m+1) s1 hv;have e0:nth [zat (nth p.kids 0),zat (nth p.kids 1)] 0=zat (nth p.kids 0):=rfl;have e1:nth [zat (nth p.kids 0),zat (nth p.kids 1)] 1=zat (nth p.kids 1):=rfl;rw[e0,e1];by_cases hm:(zau n (nth p.kids 0) v).2=true
   ·rw[zeY h5 hm];obtain⟨x,hx,hh⟩:=i0.1 hm;simp only[true_iff];exact⟨x,List.mem_append_left _ hx,hh⟩
   ·rw[zf0 h5 (by simpa using hm),i1];constructor
    ·rintro ⟨x,hx,hh⟩
     exact⟨x,List.mem_append_right _ hx,hh⟩
    ·rintro ⟨x,hx,hh⟩
     rcases List.mem_append.1 hx with hx|hx
     ·exact absurd (i0.2 ⟨x,hx,hh⟩) hm
     ·exact⟨x,hx,hh⟩
  ·obtain⟨l1,s0⟩:=zcQ h h6;rw[zfa h6,zbh,if_neg (by omega),if_pos ⟨h6,fun e=>by rw[e] at l1;simp at l1⟩];exact zeP n (m+1) s0 hv
theorem zoS {w:List Data}:∀(n k m:Nat){t:Ty}{p:Pat}{v:Val},zao w n t p=true->zah w k t p=true->zaF w m t v=true->(zau n p v).2=hitP p v
 |0,k,m,t,p,v,h,_,_=>by simp[zao] at h
 |n+1,0,m,t,p,v,_,h,_=>by simp[zah] at h
 |n+1,k+1,0,t,p,v,_,_,h=>by simp[zaF] at h
 |n+1,k+1,m+1,t,p,v,h,hp,hv=>by
  rcases zbl hp with h1|h3|h4
  ·rw[ze9 h1,zeR h1]
  ·rw[zeC h3,zgV h3]
  ·have hs:=h;unfold zao at hs;rw[xad,zaU h4] at hs;have hl:=zeM hs.2;obtain⟨m1,m2,m3,m4⟩:=zaE hp h4;obtain⟨f1,f2,f3⟩:=zdh hv m2;rw[zcH h4];by_cases hc:p.ctor=v.ctor
   ·rw[zfY h4 hc,decide_eq_true hc,Bool.true_and,Bool.eq_iff_iff];rw[hc] at hl hs m3;rw[zgY (by omega),zjc (by omega)];have hk:∀i,i<p.kids.length->(zau n (nth p.kids i) (nth v.kids i)).2=hitP (nth p.kids i) (nth v.kids i):=fun i hi=>by
     have hpk:=zaR hp hi;rw[zaU h4,hc] at hpk;exact zoS n k m (zcG hl hs.2 i (by omega)) hpk (f3 i (by omega))
    constructor
    ·intro h1 i hi;rw[<-hk i hi];exact h1 i hi
    ·intro h1 i hi;rw[hk i hi];exact h1 i hi
   ·rw[zfZ h4 hc,decide_eq_false hc,Bool.false_and]
theorem zoT {f:Pat->Pat->Option Pat}:∀ {a b:List Pat}{acc:List Pat}{s q:List Val},a.length=b.length->a.length=s.length->acc.length=q.length->
  (∀i,i<a.length->match f (nth a i) (nth b i) with
   |none=>(hitP (nth a i) (nth s i)&&hitP (nth b i) (nth s i))=false
   |some x=>hitP x (nth s i)=(hitP (nth a i) (nth s i)&&hitP (nth b i) (nth s i)))->
  match zbH f a b acc with
   |none=>(hitL a s&&hitL b s)=false
   |some l=>hitL l (q++s)=(hitL acc q&&(hitL a s&&hitL b s))
 | [],[],acc,[],q,_,_,ha,_=>by simp[zbH,hitL]
 |p::r,p2::r2,acc,v::s,q,h1,h2,ha,hf=>by
  have h0:=hf 0 (by simp);have e1:nth (p::r) 0=p:=rfl;have e2:nth (p2::r2) 0=p2:=rfl;have e3:nth (v::s) 0=v:=rfl;rw[e1,e2,e3] at h0;unfold zbH;cases hx:f p p2 with
  |none=>
   rw[hx] at h0;simp only[hitL];dsimp only at h0;cases ha1:hitP p v<;>cases hb1:hitP p2 v<;>simp_all
  |some x=>
   rw[hx] at h0;dsimp only at h0 ⊢;have ih:=zoT (f:=f) (a:=r) (b:=r2) (acc:=acc++[x]) (s:=s) (q:=q++[v]) (by simpa using h1) (by simpa using h2) (by simp[ha]) (fun i hi=>hf (i+1) (by simpa using hi));cases hm:zbH f r r2 (acc++[x]) with
   |none=>
    rw[hm] at ih;dsimp only at ih ⊢;simp only[hitL];cases ha1:hitP p v<;>cases hb1:hitP p2 v<;>simp_all
   |some l=>
    rw[hm] at ih;dsimp only at ih ⊢;rw[show q++v::s=q++[v]++s by simp,ih,zgr acc q x v ha,h0];simp only[hitL];cases hitL acc q<;>cases hitP p v<;>cases hitP p2 v<;>cases hitL r s<;>cases hitL r2 s<;>rfl
 | [],_::_,_,_,_,h,_,_,_=>by simp at h
 |_::_,[],_,_,_,h,_,_,_=>by simp at h
 | [],[],_,_::_,_,_,h,_,_=>by simp at h
 |_::_,_::_,_,[],_,_,h,_,_=>by simp at h
theorem zrP {x a b c d:Int}:zav x (maxQ a c) (minQ b d)=(zav x a b&&zav x c d):=by
 unfold zav maxQ minQ;rw[Bool.eq_iff_iff];simp only[xad,decide_eq_true_eq];split<;>split<;>omega
theorem zqJ {w:List Data}:∀(k m:Nat){t:Ty}{a b:Pat}{v:Val},zah w k t a=true->zah w k t b=true->zaF w m t v=true->∀n,k<=n->match zaI n a b with
  |none=>(hitP a v&&hitP b v)=false
  |some x=>hitP x v=(hitP a v&&hitP b v)
 |0,m,t,a,b,v,ha,_,_,_,_=>by simp[zah] at ha
 |k+1,0,t,a,b,v,_,_,hv,_,_=>by simp[zaF] at hv
 |k+1,m+1,t,a,b,v,_,_,_,0,h=>by omega
 |k+1,m+1,t,a,b,v,ha,hb,hv,n+1,hn=>by
  by_cases h1:a.op=1
  ·rw[zhy h1];dsimp only;rw[zeR h1,Bool.true_and]
  by_cases h2:b.op=1
  ·rw[ziE h1 h2];dsimp only;rw[zeR h2,Bool.and_true]
  have hs:=zde ha hb h1 h2;have oa:=zbl ha;by_cases h3:a.op=3
  ·rw[ziF h3 h2,zgV h3,zgV (p:=b) (by omega),<-zrP];split
   ·rename_i x hx;split at hx
    ·cases hx
    ·unfold zav;simp only[Bool.and_eq_false_iff,decide_eq_false_iff_not];omega
   ·rename_i x hx;split at hx
    ·cases hx;rfl
    ·cases hx
  have h4:a.op=4:=by omega
  have hb4:b.op=4:=by omega
  rw[zcH h4,zcH hb4];obtain⟨m1,m2,m3,m4⟩:=zaE ha h4;obtain⟨n1,n2,n3,n4⟩:=zaE hb hb4;obtain⟨f1,f2,f3⟩:=zdh hv m2;by_cases hc:a.ctor=b.ctor
  ·rw[zhz h4 h2 hc];rw[<-hc] at n3 ⊢;by_cases hcv:a.ctor=v.ctor
   ·rw[decide_eq_true hcv];have hl:=zoT (f:=zaI n) (a:=a.kids) (b:=b.kids) (acc:=[]) (s:=v.kids) (q:=[]) (by omega) (by rw[hcv] at m3;omega) rfl (fun i hi=>by
     have ka:=zaR ha (i:=i) hi;have kb:=zaR hb (i:=i) (by omega);rw[zaU h4,hcv] at ka;rw[zaU hb4,<-hc,hcv] at kb;exact zqJ k m ka kb (f3 i (by rw[hcv] at m3;omega)) n (by omega))
    cases hx:zbH (zaI n) a.kids b.kids [] with
    |none=>
     rw[hx] at hl;dsimp only[Option.map_none] at hl ⊢;rw[Bool.true_and,Bool.true_and];exact hl
    |some l=>
     rw[hx] at hl;dsimp only[Option.map_some] at hl ⊢;rw[zcH (by rfl)];show(decide (a.ctor=v.ctor)&&hitL l v.kids)=_
     rw[decide_eq_true hcv];simpa [hitL] using hl
   ·rw[decide_eq_false hcv];cases hx:zbH (zaI n) a.kids b.kids [] with
    |none=>rfl
    |some l=>
     dsimp only[Option.map_some];rw[zcH (by rfl)];show(decide (a.ctor=v.ctor)&&hitL l v.kids)=_
     rw[decide_eq_false hcv];rfl
  ·rw[zhh h4 h2 hc];dsimp only;by_cases hcv:a.ctor=v.ctor
   ·rw[decide_eq_false (p:=b.ctor=v.ctor) (by omega)];simp
   ·rw[decide_eq_false hcv];simp
def one (b:Bool):Nat:=if b=true then 1 else 0
theorem zov {a b:Int}{v:Val}:(zbN a b).countP (fun x=>hitP x v)=one (zav v.num a b):=by
 unfold zbN one;split
 ·rw[List.countP_singleton,zgV rfl];rfl
 ·rename_i h;have:zav v.num a b=false:=by unfold zav;simp only[Bool.and_eq_false_iff,decide_eq_false_iff_not];omega
  rw[this];rfl
theorem zt9 {c:Int}{pre:List Pat}{s:List Pat}{v0:Val}{vf vs:List Val}{v:Val} (hv:v.kids=vf++v0::vs) (hl:pre.length=vf.length) (l:List Pat):
  (l.map (fun z=>za8 c (pre++[z]++s))).countP (fun x=>hitP x v)=one (decide (c=v.ctor)&&(hitL pre vf&&hitL s vs))*l.countP (fun z=>hitP z v0):=by
 rw[List.countP_map];have hz:∀z,hitP (za8 c (pre++[z]++s)) v=((decide (c=v.ctor)&&(hitL pre vf&&hitL s vs))&&hitP z v0):=fun z=>by
  rw[zcH rfl];show(decide (c=v.ctor)&&hitL (pre++[z]++s) v.kids)=_
  rw[hv,show vf++v0::vs=vf++([v0]++vs) by simp,List.append_assoc,zqA pre vf _ _ hl];show(decide (c=v.ctor)&&(hitL pre vf&&(hitP z v0&&hitL s vs)))=_
  cases decide (c=v.ctor)<;>cases hitL pre vf<;>cases hitP z v0<;>cases hitL s vs<;>rfl
 cases hb:(decide (c=v.ctor)&&(hitL pre vf&&hitL s vs)) with
 |true=>
  rw[show one true=1 from rfl,Nat.one_mul];congr 1
  funext z
  show hitP (za8 c (pre++[z]++s)) v=_
  rw[hz,hb,Bool.true_and]
 |false=>
  rw[show one false=0 from rfl,Nat.zero_mul];rw[List.countP_eq_zero];intro z _;show ¬hitP (za8 c (pre++[z]++s)) v=true
  rw[hz,hb];simp
theorem zvt:∀d f x y s b:Bool,one (d&&(f&&s))*one (x&& !y)+one (d&&((f&&(x&&y))&&(s&& !b)))=one (d&&(f&&((x&&s)&& !(y&&b)))):=by decide
theorem zvs:∀d f x y s b:Bool,(x&&y)=false->one (d&&(f&&s))*one (x&& !y)+0=one (d&&(f&&((x&&s)&& !(y&&b)))):=by decide
theorem zuy {x la ha bn bm:Int} (h:bn<=bm):one (zav x la (minQ ha (bn-1)))+one (zav x (maxQ la (bm+1)) ha)=one (zav x la ha&& !zav x bn bm):=by
 have e1:zav x la (minQ ha (bn-1))=(zav x la ha&&decide (x<bn)):=by
  unfold zav minQ;rw[Bool.eq_iff_iff];simp only[xad,decide_eq_true_eq];split<;>omega
 have e2:zav x (maxQ la (bm+1)) ha=(zav x la ha&&decide (bm<x)):=by
  unfold zav maxQ;rw[Bool.eq_iff_iff];simp only[xad,decide_eq_true_eq];split<;>omega
 have e3:zav x bn bm=(!decide (x<bn)&& !decide (bm<x)):=by
  unfold zav;rw[Bool.eq_iff_iff];simp only[xad,Bool.not_eq_true',decide_eq_true_eq,decide_eq_false_iff_not];omega
 have key:∀q u v:Bool,(u&&v)=false->one (q&&u)+one (q&&v)=one (q&& !(!u&& !v)):=by decide
 rw[e1,e2,e3];refine key _ _ _ ?_;rw[Bool.and_eq_false_iff,decide_eq_false_iff_not,decide_eq_false_iff_not];omega
theorem zmZ {w:List Data}{f:Ty->Pat->Pat->List Pat}{m:Nat}{c:Int}{v:Val}:
  ∀ {us:List Ty}{xs bs front:List Pat}{vf vs:List Val},v.kids=vf++vs->front.length=vf.length->us.length=xs.length->bs.length=xs.length->vs.length=xs.length->
   (∀j,j<xs.length->zah w 11 (nth us j) (nth xs j)=true/\zah w 11 (nth us j) (nth bs j)=true/\zaF w m (nth us j) (nth vs j)=true/\(f (nth us j) (nth xs j) (nth bs j)).countP (fun x=>hitP x (nth vs j))=one (hitP (nth xs j) (nth vs j)&& !hitP (nth bs j) (nth vs j)))->
   (zaP f c us xs bs front).countP (fun x=>hitP x v)=one (decide (c=v.ctor)&&(hitL front vf&&(hitL xs vs&& !hitL bs vs)))
 | [],[],[],front,vf,[],_,_,_,_,_,_=>by
  simp only[zaP,List.countP_nil,hitL];cases decide (c=v.ctor)<;>cases hitL front vf<;>rfl
 |u::us,x::xs,y::bs,front,vf,v0::vs,hv,hfl,h1,h2,h3,hf=>by
  have h0:=hf 0 (by simp);have e0:nth (u::us) 0=u:=rfl;have e1:nth (x::xs) 0=x:=rfl;have e2:nth (y::bs) 0=y:=rfl;have e3:nth (v0::vs) 0=v0:=rfl;rw[e0,e1,e2,e3] at h0;unfold zaP;rw[List.countP_append,zt9 hv hfl,h0.2.2.2];have hm:=zqJ 11 m h0.1 h0.2.1 h0.2.2.1 11 (Nat.le_refl _);cases hq:zaI 11 x y with
  |none=>
   rw[hq] at hm;dsimp only at hm ⊢;simp only[List.countP_nil,hitL];exact zvs _ _ _ _ _ _ hm
  |some both=>
   rw[hq] at hm;dsimp only at hm ⊢;have ih:=zmZ (w:=w) (f:=f) (m:=m) (c:=c) (v:=v) (us:=us) (xs:=xs) (bs:=bs) (front:=front++[both]) (vf:=vf++[v0]) (vs:=vs) (by rw[hv];simp) (by simp[hfl]) (by simpa using h1) (by simpa using h2) (by simpa using h3) (fun j hj=>hf (j+1) (by simpa using hj));rw[ih,zgr front vf both v0 hfl,hm];simp only[hitL];exact zvt _ _ _ _ _ _
 | [],_::_,_,_,_,_,_,_,h,_,_,_=>by simp at h
 |_::_,[],_,_,_,_,_,_,h,_,_,_=>by simp at h
 |_,[],_::_,_,_,_,_,_,_,h,_,_=>by simp at h
 |_,_::_,[],_,_,_,_,_,_,h,_,_=>by simp at h
 |_,[],_,_,_,_::_,_,_,_,_,h,_=>by simp at h
 |_,_::_,_,_,_,[],_,_,_,_,h,_=>by simp at h
theorem zlq {f:Ty->Pat->Pat->List Pat}{c:Int}{x:Pat}:∀ {us:List Ty}{xs bs front:List Pat},x∈zaP f c us xs bs front->∃l,x=za8 c l
 |u::us,a::xs,y::bs,front,h=>by
  unfold zaP at h;rcases List.mem_append.1 h with h|h
  ·obtain⟨z,_,rfl⟩:=List.mem_map.1 h;exact⟨_,rfl⟩
  ·cases hq:zaI 11 a y with
   |none=>rw[hq] at h;simp at h
   |some b=>rw[hq] at h;exact zlq h
 | [],_,_,_,h=>by simp[zaP] at h
 |_::_,[],_,_,h=>by simp[zaP] at h
 |_::_,_::_,[],_,h=>by simp[zaP] at h
theorem zou {c0:Int}{g:Int->List Pat}{v:Val}{k:Nat}:∀ {l:List Int},l.Nodup->c0∈l->(∀c∈l,c≠c0->(g c).countP (fun x=>hitP x v)=0)->(g c0).countP (fun x=>hitP x v)=k->(l.flatMap g).countP (fun x=>hitP x v)=k
 | [],_,h,_,_=>by simp at h
 |a::r,hn,hm,hz,hk=>by
  rw[List.flatMap_cons,List.countP_append];have hn':=List.nodup_cons.1 hn;by_cases ha:a=c0
  ·subst ha;have h0:(r.flatMap g).countP (fun x=>hitP x v)=0:=by
    rw[List.countP_eq_zero];intro x hx;obtain⟨c,hc,hx⟩:=List.mem_flatMap.1 hx;have:=hz c (by simp[hc]) (fun e=>hn'.1 (e ▸ hc));rw[List.countP_eq_zero] at this;exact this x hx
   omega
  ·have h1:=hz a (by simp) ha;have h2:=zou (g:=g) (v:=v) (k:=k) hn'.2 (by simpa [Ne.symm ha] using hm) (fun c hc=>hz c (by simp[hc])) hk;omega
section
variable {w:List Data} (hs:Spa w)
include hs
theorem zoW:∀(n m k:Nat){t:Ty}{a b:Pat}{v:Val},n<m->m<=12->InS (w.length*4) t->zah w m t a=true->zah w n t b=true->zaF w k t v=true->(zap w n t a b).countP (fun x=>hitP x v)=one (hitP a v&& !hitP b v)
 |0,m,k,t,a,b,v,_,_,_,_,hb,_=>by simp[zah] at hb
 |n+1,0,k,t,a,b,v,hn,_,_,_,_,_=>by omega
 |n+1,m+1,0,t,a,b,v,_,_,_,_,_,hv=>by simp[zaF] at hv
 |n+1,m+1,k+1,t,a,b,v,hn,h12,ht,ha,hb,hv=>by
  have hcc:∀a,zah w (m+1) t a=true->a.op=4->b.op=4->(zb2 (zap w n) w t a b).countP (fun x=>hitP x v)=one (hitP a v&& !hitP b v):=fun a ha h4 h4b=>by
   obtain⟨m1,m2,m3,m4⟩:=zaE ha h4;obtain⟨n1,n2,n3,n4⟩:=zaE hb h4b;obtain⟨f1,f2,f3⟩:=zdh hv m2;rw[zcH h4,zcH h4b];unfold zb2;split
   ·rename_i hc;by_cases hcv:a.ctor=v.ctor
    ·have:=zmZ (w:=w) (f:=zap w n) (m:=k) (c:=a.ctor) (v:=v) (us:=zaa w t a.ctor) (xs:=a.kids) (bs:=b.kids) (front:=[]) (vf:=[]) (vs:=v.kids) rfl rfl m3.symm (by rw[<-hc] at n3;omega) (by rw[hcv] at m3;omega) (fun j hj=>by
      have ka:=zaR ha (i:=j) hj;have kb:=zaR hb (i:=j) (by rw[<-hc] at n3;omega);rw[zaU h4] at ka;rw[zaU h4b,<-hc] at kb;have kv:=f3 j (by rw[hcv] at m3;omega);rw[<-hcv] at kv;exact⟨zdd (by omega) ka,zdd (by omega) kb,kv,zoW n m k (by omega) (by omega) (za7 hs.dp ht m1 _ (zae (by omega))) ka kb kv⟩)
     rw[this,<-hc];simp only[hitL,one];cases decide (a.ctor=v.ctor)<;>cases hitL a.kids v.kids<;>cases hitL b.kids v.kids<;>rfl
    ·have hz:(zaP (zap w n) a.ctor (zaa w t a.ctor) a.kids b.kids []).countP (fun x=>hitP x v)=0:=by
      rw[List.countP_eq_zero];intro x hx;obtain⟨l,rfl⟩:=zlq hx;rw[zcH rfl];show ¬(decide (a.ctor=v.ctor)&&hitL l v.kids)=true
      rw[decide_eq_false hcv];simp
     rw[hz,decide_eq_false hcv];rfl
   ·rename_i hc;rw[List.countP_singleton,zcH h4];by_cases hcv:a.ctor=v.ctor
    ·rw[decide_eq_false (p:=b.ctor=v.ctor) (by omega)];simp only[Bool.false_and,Bool.not_false,Bool.and_true,one]
    ·rw[decide_eq_false hcv];rfl
  rcases zbl hb with h1|h3|h4
  ·rw[zfc h1,zeR h1];simp[one]
  ·have hd:=(zby hb h3).1;have hl:=zlR ha hd;have ib:=zby hb h3;have fn:=zvj hv hd;rw[zhi h3,zd5,List.countP_append,zov,zov,zgV h3];have hav:hitP a v=zav v.num (lowQ a) (zcl a):=by
    unfold lowQ zcl;rcases zbl ha with h|h|h
    ·rw[zeR h,if_pos h,if_pos h];unfold zav;rw[decide_eq_true (p:=0<=v.num) (by omega),decide_eq_true (p:=v.num<=9) (by omega)];rfl
    ·rw[zgV h,if_neg (by omega),if_neg (by omega)]
    ·exact absurd hd (zaE ha h).2.1
   rw[hav];exact zuy ib.2.2.1
  ·by_cases ha1:a.op=1
   ·rw[zf2 h4 ha1,zeR ha1,Bool.true_and];have hdt:=(zaE hb h4).2.1;obtain⟨f1,f2,f3⟩:=zdh hv hdt;obtain⟨q,rfl⟩:∃q,m=q+1:=⟨m-1,by omega⟩;refine zou (c0:=v.ctor) (hs.ctors t ht).2 f1 (fun c hc hne=>?_) ?_
    ·rw[hcc _ (zcx hc) rfl h4,zcH rfl];show one ((decide (c=v.ctor)&&_)&&_)=0
     rw[decide_eq_false hne];rfl
    ·rw[hcc _ (zcx f1) rfl h4,zcH (p:=zbG w t v.ctor) rfl];show one ((decide (v.ctor=v.ctor)&&hitL ((zaa w t v.ctor).map fun _=>anyQ) v.kids)&& !hitP b v)=_
     rw[zlK,decide_eq_true rfl];rfl
   ·have ha4:a.op=4:=by have:=zde ha hb ha1 (by omega);omega
    rw[zcV h4 ha4];exact hcc a ha ha4 h4
theorem zkb:∀(n m:Nat){t:Ty}{p:Pat}{v:Val},InS (w.length*4) t->zah w n t p=true->zaF w m t v=true->hitP p v=true->zaB w (zaf w) n t p=false
 |0,m,t,p,v,_,h,_,_=>by simp[zah] at h
 |n+1,0,t,p,v,_,_,h,_=>by simp[zaF] at h
 |n+1,m+1,t,p,v,ht,hp,hv,hh=>by
  rcases zbl hp with h1|h3|h4
  ·rw[ze4 h1];have:=zwD hs.dp ht hv;exact decide_eq_false (by omega)
  ·exact zkU hp h3
  ·cases he:zaB w (zaf w) (n+1) t p with
   |false=>rfl
   |true=>
    exfalso;obtain⟨i,hi,hd⟩:=zlF hp h4 he;obtain⟨m1,m2,m3,m4⟩:=zaE hp h4;obtain⟨f1,f2,f3⟩:=zdh hv m2;rw[zcH h4,xad] at hh;have hc:=of_decide_eq_true hh.1;rw[hc] at m3;have hk:=(zjc (by omega)).1 hh.2 i hi;have hpk:=zaR hp hi;rw[zaU h4] at hpk;have:=zkb n m (za7 hs.dp ht m1 _ (zae (by rw[hc];omega))) hpk (by rw[hc];exact f3 i (by omega)) hk;rw[this] at hd;cases hd
theorem zmw {t:Ty}{v:Val}{m:Nat} (ht:InS (w.length*4) t) (hv:zaF w m t v=true){l:List Pat} (hl:∀a∈l,zah w 11 t a=true):(l.filter (zbi w t)).countP (fun x=>hitP x v)=l.countP (fun x=>hitP x v):=by
 rw[List.countP_filter];refine List.countP_congr (fun x hx=>?_);simp only[xad];constructor
 ·exact fun h=>h.1
 ·intro h;refine⟨h, ?_⟩;unfold zbi;rw[zkb hs 11 m ht (hl x hx) hv h];rfl
theorem zvz {t:Ty}{v:Val}{m:Nat} (ht:InS (w.length*4) t) (hv:zaF w m t v=true){b:Pat} (hb:zah w 10 t b=true){l:List Pat} (hl:∀a∈l,zah w 11 t a=true):
  (zbS w t l b).countP (fun x=>hitP x v)=if hitP b v=true then 0 else l.countP (fun x=>hitP x v):=by
 unfold zbS;rw[zmw hs ht hv (fun x hx=>by
  obtain⟨a,ha,hx⟩:=List.mem_flatMap.1 hx;exact zfB 10 11 (by omega) (hl a ha) hb x hx)]
 induction l with
 |nil=>simp
 |cons a r ih=>
  rw[List.flatMap_cons,List.countP_append,ih (fun x hx=>hl x (by simp[hx])),zoW hs 10 11 m (by omega) (by omega) ht (hl a (by simp)) hb hv,List.countP_cons];unfold one;cases hitP b v<;>cases hitP a v<;>simp<;>omega
theorem zsE {t:Ty}{v:Val}{m:Nat} (ht:InS (w.length*4) t) (hv:zaF w m t v=true):∀ {away l r:List Pat},(∀b∈away,zah w 10 t b=true)->(∀a∈l,zah w 11 t a=true)->subL w t l away=some r->
  r.countP (fun x=>hitP x v)=if away.any (fun b=>hitP b v)=true then 0 else l.countP (fun x=>hitP x v)
 | [],l,r,_,_,h=>by rw[subL] at h;cases h;simp
 |b::away,l,r,hb,hl,h=>by
  rw[subL] at h;split at h
  ·rw[zsE ht hv (fun x hx=>hb x (by simp[hx])) (zeD hl (hb b (by simp))) h,zvz hs ht hv (hb b (by simp)) hl,List.any_cons];cases hitP b v<;>cases away.any (fun b=>hitP b v)<;>simp
  ·cases h
theorem zly {t:Ty}{v:Val}{m:Nat} (ht:InS (w.length*4) t) (hv:zaF w m t v=true){away l r:List Pat} (hb:∀b∈away,zah w 10 t b=true) (hl:∀a∈l,zah w 11 t a=true) (h:zaK w t l away=some r):
  r.countP (fun x=>hitP x v)=if away.any (fun b=>hitP b v)=true then 0 else l.countP (fun x=>hitP x v):=by
 unfold zaK at h;rw[zsE hs ht hv hb (fun a ha=>hl a (List.mem_filter.1 ha).1) h,zmw hs ht hv hl]
end
theorem zs8 {w:List Data}{a k:Int}{x:Pat}{v:Val}{m:Nat} (h:isP w ⟨a,k⟩ x=true) (hp:zah w 11 ⟨a,k⟩ x=true) (hv:zaF w m ⟨a,k⟩ v=true):(zau 10 x v).2=hitP x v:=by
 unfold isP at h;rw[xad] at h;exact zoS 10 11 m h.1 hp hv
theorem zmF {w:List Data}{g:Ty->Val->Bool}{F:Ty->List Val} (hF:∀u x,x∈F u->g u x=true):∀(us:List Ty) (vs:List Ty) (acc:List (List Val)),(∀l∈acc,all2 g vs l=true)->
  ∀l∈(us.map F).foldl (fun acc l=>acc.flatMap fun o=>l.map fun y=>o++[y]) acc,all2 g (vs++us) l=true
 | [],vs,acc,h,l,hl=>by rw[List.append_nil];exact h l hl
 |u::us,vs,acc,h,l,hl=>by
  rw[show vs++u::us=vs++[u]++us by simp];refine zmF (w:=w) hF us (vs++[u]) _ (fun q hq=>?_) l hl;obtain⟨o,h1,h2⟩:=List.mem_flatMap.1 hq;obtain⟨y,h3,rfl⟩:=List.mem_map.1 h2;have ho:=h o h1;have hy:=hF u y h3;clear hl hq h2 h1 h;induction vs generalizing o with
  |nil=>
   cases o with
   |nil=>simp[all2,hy]
   |cons a r=>simp[all2] at ho
  |cons b s ih=>
   cases o with
   |nil=>simp[all2] at ho
   |cons a r=>
    simp only[all2,xad,xag] at ho ⊢;exact⟨ho.1,ih r ho.2⟩
theorem zmG {w:List Data}:∀(n:Nat){t:Ty}{v:Val},v∈zkV w n t->zaF w n t v=true
 |0,t,v,h=>by simp[zkV] at h
 |n+1,t,v,h=>by
  unfold zkV at h;unfold zaF;by_cases ht:t.data = -1
  ·rw[if_pos ht] at h ⊢;unfold zfq at h;obtain⟨i,hi,rfl⟩:=List.mem_map.1 h;rw[List.mem_range] at hi;simp only[xad,decide_eq_true_eq];exact⟨rfl,by show(0:Int)<=(i:Int);omega,by show(i:Int)<=9;omega,rfl⟩
  ·rw[if_neg ht] at h ⊢;obtain⟨c,hc,h⟩:=List.mem_flatMap.1 h;obtain⟨l,hl,rfl⟩:=List.mem_map.1 h;rw[if_pos ⟨rfl,hc⟩];have:=zmF (w:=w) (g:=zaF w n) (F:=zkV w n) (fun u x hx=>zmG n hx) (zaa w t c) [] [[]] (by simp[all2]) l hl;exact(by simpa using this:all2 (zaF w n) (zaa w t c) l=true)
theorem zmD {w:List Data}:∀(n:Nat){t:Ty}{v:Val},zaF w n t v=true->zaF w (n+1) t v=true
 |0,t,v,h=>by simp[zaF] at h
 |n+1,t,v,h=>by
  rw[zaF] at h ⊢;split
  ·rename_i hd;rw[if_pos hd] at h;exact h
  ·rename_i hd;rw[if_neg hd] at h;split at h
   ·rename_i hc;rw[if_pos hc];exact zhl (fun x _ y _ hxy=>zmD n hxy) h
   ·cases h
theorem zdP {w:List Data}{n m:Nat} (h:n<=m){t:Ty}{v:Val} (hv:zaF w n t v=true):zaF w m t v=true:=by
 induction h with
 |refl=>exact hv
 |step _ ih=>exact zmD _ ih
def szN:Nat->Nat
 |0=>0
 |n+1=>1+3*szN n
theorem Vals.size_of {m:Nat}:∀ {l:List Val},(∀k∈l,k.size<=m)->Vals.size l<=l.length*m
 | [],_=>by simp[Vals.size]
 |x::r,h=>by
  have h1:=h x (by simp);have h2:=Vals.size_of (l:=r) (fun y hy=>h y (by simp[hy]));simp only[Vals.size,xab,Nat.succ_mul];omega
theorem zoB {w:List Data} (hs:Spa w):∀(n:Nat){t:Ty}{v:Val},InS (w.length*4) t->zaF w n t v=true->v.size<=szN n
 |0,t,v,_,h=>by simp[zaF] at h
 |n+1,t,v,ht,h=>by
  rw[Val.size_eq];by_cases hd:t.data = -1
  ·rw[zaF,if_pos hd] at h;simp only[xad,decide_eq_true_eq] at h;rw[List.eq_nil_of_length_eq_zero h.2.2.2];simp[Vals.size,szN]
  ·obtain⟨f1,f2,f3⟩:=zdh h hd;have h3:=hs.args t _ ht f1;have hz:=Vals.size_of (m:=szN n) (l:=v.kids) (fun k hk=>by
    obtain⟨i,hi,rfl⟩:=List.getElem_of_mem hk;have:=zoB hs n (za7 hs.dp ht f1 _ (zae (i:=i) (by omega))) (f3 i hi);rwa [zaO hi] at this)
   have:v.kids.length*szN n<=3*szN n:=Nat.mul_le_mul_right _ (by omega);unfold szN;omega
theorem zrR {α β:Type}{f:α->β->Bool}:∀ {l:List α},(∀u∈l,∃v,f u v=true)->∃r,all2 f l r=true
 | [],_=>⟨[],rfl⟩
 |u::s,h=>by
  obtain⟨v,hv⟩:=h u (by simp);obtain⟨r,hr⟩:=zrR (l:=s) (fun x hx=>h x (by simp[hx]));exact⟨v::r,by simp[all2,hv,hr]⟩
theorem zsh {w:List Data}:∀(m:Nat){t:Ty},Hd w m t->∃v,zaF w m t v=true
 |0,_,h=>h.elim
 |m+1,t,h=>by
  by_cases hd:t.data = -1
  ·exact⟨⟨-1,0,[]⟩,by unfold zaF;rw[if_pos hd];rfl⟩
  ·rcases h with h|⟨c,hc,hn,hh⟩
   ·exact absurd h hd
   ·obtain⟨l,hl⟩:=zrR (f:=zaF w m) (l:=zaa w t c) (fun u hu=>zsh m (hh u hu));exact⟨⟨c,0,l⟩,by unfold zaF;rw[if_neg hn,if_pos ⟨rfl,hc⟩];exact hl⟩
theorem zsb {w:List Data} (hd:Dp w){t:Ty} (ht:InS (w.length*4) t) (h:0<dv (zaf w) t):∃m v,zaF w m t v=true:=by
 have a:Snd w (zaf w)/\Cmp w (w.length*4+1) (zaf w):=zc0 hd.cl (w.length*4+1);exact⟨_,zsh _ (zmz a.1 ht h)⟩
theorem zqH {w:List Data}:∀ {us:List Ty}{ps:List Pat},us.length=ps.length->(∀i,i<ps.length->∃m v,zaF w m (nth us i) v=true/\hitP (nth ps i) v=true)->∃m l,all2 (zaF w m) us l=true/\hitL ps l=true
 | [],[],_,_=>⟨0,[],rfl,rfl⟩
 |u::us,p::ps,hl,h=>by
  obtain⟨m1,v,h1,h2⟩:=h 0 (by simp);obtain⟨m2,l,h3,h4⟩:=zqH (us:=us) (ps:=ps) (by simpa using hl) (fun i hi=>h (i+1) (by simpa using hi));refine⟨max m1 m2,v::l, ?_, ?_⟩
  ·simp only[all2,xad];exact⟨zdP (Nat.le_max_left _ _) h1,zhl (fun x _ y _ hxy=>zdP (Nat.le_max_right _ _) hxy) h3⟩
  ·simp only[hitL,xad];exact⟨h2,h4⟩
 | [],_::_,h,_=>by simp at h
 |_::_,[],h,_=>by simp at h
theorem zjP {w:List Data} (hs:Spa w):∀(n:Nat){t:Ty}{p:Pat},InS (w.length*4) t->zah w n t p=true->zaB w (zaf w) n t p=false->∃m v,zaF w m t v=true/\hitP p v=true
 |0,t,p,_,h,_=>by simp[zah] at h
 |n+1,t,p,ht,hp,he=>by
  rcases zbl hp with h1|h3|h4
  ·rw[ze4 h1] at he;have:=of_decide_eq_false he;obtain⟨m,v,hv⟩:=zsb hs.dp ht (by omega);exact⟨m,v,hv,zeR h1⟩
  ·have hi:=zby hp h3;refine⟨1,⟨-1,p.n,[]⟩, ?_, ?_⟩
   ·unfold zaF;rw[if_pos hi.1];simp only[xad,decide_eq_true_eq];exact⟨rfl,hi.2.1,by show p.n<=9;omega,rfl⟩
   ·rw[zgV h3];show zav p.n p.n p.m=true
    unfold zav;rw[xad,decide_eq_true_eq,decide_eq_true_eq];omega
  ·obtain⟨m1,m2,m3,m4⟩:=zaE hp h4;rw[ziy h4] at he;have ha:all2 (fun u q=> !zaB w (zaf w) n u q) (zaa w t p.ctor) p.kids=true:=by simpa using he
   obtain⟨m,l,h5,h6⟩:=zqH (us:=zaa w t p.ctor) (ps:=p.kids) m3.symm (fun i hi=>by
    have hk:=zaR hp hi;rw[zaU h4] at hk;have h7:=zcG m3.symm ha i (by omega);exact zjP hs n (za7 hs.dp ht m1 _ (zae (by omega))) hk (by simpa using h7))
   refine⟨m+1,⟨p.ctor,0,l⟩, ?_, ?_⟩
   ·unfold zaF;rw[if_neg m2,if_pos ⟨rfl,zij m1⟩];exact h5
   ·rw[zcH h4,xad];exact⟨decide_eq_true rfl,h6⟩
theorem zx7 {w:List Data}{n:Nat}{t:Ty}{p:Pat} (h:zah w n t p=true) (h3:p.op=3):p=intQ p.n p.m:=by
 obtain⟨ho,hl⟩:=zf5 h;have e:zac w t p=[]:=by unfold zac;rw[if_neg (by omega),if_neg (by omega),if_neg (by omega)]
 rw[e] at hl;have hk:=List.eq_nil_of_length_eq_zero hl;unfold ownP at ho;have hh:=of_decide_eq_true ho;have h1:=hh.2.1 (by omega);have h2:=hh.2.2.2.1 (by omega);obtain⟨op,c,m,k,v,ks⟩:=p;change op=3 at h3
 change v=0 at h1
 change c=0 at h2
 change ks=[] at hk
 rw[h3,h1,h2,hk];rfl
theorem zkk {w:List Data}:∀(k n:Nat){t:Ty}{x z:Pat},zah w k t x=true->zaI n x x=some z->z=x
 |0,n,t,x,z,h,_=>by simp[zah] at h
 |k+1,0,t,x,z,_,h=>by simp[zaI] at h
 |k+1,n+1,t,x,z,hp,h=>by
  rcases zbl hp with h1|h3|h4
  ·rw[zhy h1] at h;cases h;rfl
  ·rw[ziF h3 (by omega)] at h;split at h
   ·cases h
    have e1:maxQ x.n x.n=x.n:=by unfold maxQ;split<;>rfl
    have e2:minQ x.m x.m=x.m:=by unfold minQ;split<;>rfl
    rw[e1,e2];exact(zx7 hp h3).symm
   ·cases h
  ·obtain⟨m1,m2,m3,m4⟩:=zaE hp h4;rw[zhz h4 (by omega) rfl] at h;cases hl:zbH (zaI n) x.kids x.kids [] with
   |none=>rw[hl] at h;cases h
   |some l=>
    rw[hl] at h;simp only[Option.map_some,Option.some.injEq] at h;subst h;obtain⟨r,e,hr,hm⟩:=zfz rfl hl;rw[List.nil_append] at e;subst e;have:l=x.kids:=znT (by omega) (fun i hi=>by
     have hk:=zaR hp (i:=i) (by omega);rw[zaU h4] at hk;exact zkk k n hk (hm i (by omega)))
    rw[this];exact m4.symm
theorem zls {f:Ty->Pat->Pat->List Pat}{c:Int}:∀ {us:List Ty}{xs front:List Pat},us.length=xs.length->(∀j,j<xs.length->f (nth us j) (nth xs j) (nth xs j)=[])->zaP f c us xs xs front=[]
 | [],[],_,_,_=>rfl
 |u::us,x::xs,front,hl,h=>by
  unfold zaP;have h0:=h 0 (by simp);rw[show f u x x=[] from h0,List.map_nil,List.nil_append];split
  ·rfl
  ·exact zls (by simpa using hl) (fun j hj=>h (j+1) (by simpa using hj))
 | [],_::_,_,h,_=>by simp at h
 |_::_,[],_,h,_=>by simp at h
theorem zjk {w:List Data}:∀(k n:Nat){t:Ty}{x:Pat},zah w k t x=true->zap w n t x x=[]
 |0,n,t,x,h=>by simp[zah] at h
 |k+1,0,t,x,_=>rfl
 |k+1,n+1,t,x,hp=>by
  rcases zbl hp with h1|h3|h4
  ·exact zfc h1
  ·rw[zhi h3];have e1:lowQ x=x.n:=by unfold lowQ;rw[if_neg (by omega)]
   have e2:zcl x=x.m:=by unfold zcl;rw[if_neg (by omega)]
   have q1:=zso (zcl x) (x.n-1);have q2:=zsn (lowQ x) (x.m+1);unfold zd5 zbN;rw[if_neg (by omega),if_neg (by omega)];rfl
  ·obtain⟨m1,m2,m3,m4⟩:=zaE hp h4;rw[zcV h4 h4];unfold zb2;rw[if_pos rfl];exact zls m3.symm (fun j hj=>by
    have hk:=zaR hp (i:=j) hj;rw[zaU h4] at hk;exact zjk k n hk)
structure Grid (w:List Data) (t:Ty) (S:Pat->Prop) (V:List Val):Prop where
 meet:∀n a b z,S a->S b->zaI n a b=some z->S z
 minus:∀n a b x,S a->S b->x∈zap w n t a b->S x
 hit:∀n p,S p->zah w n t p=true->zaB w (zaf w) n t p=false->∃v∈V,hitP p v=true
 fits:∃m,∀v∈V,zaF w m t v=true
theorem zoL {w:List Data} (hs:Spa w){t:Ty} (ht:InS (w.length*4) t){k:Nat}{x:Pat} (hx:zah w k t x=true):∃V,V.length<=1/\Grid w t (fun p=>p=x) V:=by
 by_cases hex:∃m v,zaF w m t v=true/\hitP x v=true
 ·obtain⟨m,v,h1,h2⟩:=hex;refine⟨[v],by simp,⟨fun n a b z ha hb h=>by subst ha;subst hb;exact zkk k n hx h,fun n a b z ha hb h=>by subst ha;subst hb;rw[zjk k n hx] at h;simp at h,fun n p hp _ _=>⟨v,by simp,by rw[hp];exact h2⟩,⟨m,fun y hy=>by rw[List.mem_singleton.1 hy];exact h1⟩⟩⟩
 ·refine⟨[],by simp,⟨fun n a b z ha hb h=>by subst ha;subst hb;exact zkk k n hx h,fun n a b z ha hb h=>by subst ha;subst hb;rw[zjk k n hx] at h;simp at h,fun n p hp h1 h2=>?_,⟨0,fun y hy=>by simp at hy⟩⟩⟩;subst hp;exact absurd (zjP hs n ht h1 h2) hex
theorem zqz {w:List Data}{t:Ty} (ht:t.data = -1):Grid w t (fun _=>True) zfq:=by
 refine⟨fun _ _ _ _ _ _ _=>trivial,fun _ _ _ _ _ _ _=>trivial,fun n p _ hp _=>?_,1,fun v hv=>zmG 1 (by unfold zkV;rw[if_pos ht];exact hv)⟩;have hd:∀i:Nat,i<10->(⟨-1,(i:Int),[]⟩:Val)∈zfq:=fun i hi=>by unfold zfq;exact List.mem_map.2 ⟨i,List.mem_range.2 hi,rfl⟩
 rcases zbl hp with h1|h3|h4
 ·exact⟨_,hd 0 (by omega),zeR h1⟩
 ·have hi:=zby hp h3;refine⟨_,hd p.n.toNat (by omega), ?_⟩;rw[zgV h3];show zav ((p.n.toNat:Nat):Int) p.n p.m=true
  unfold zav;rw[xad,decide_eq_true_eq,decide_eq_true_eq];omega
 ·exact absurd ht (zaE hp h4).2.1
def CSat (Ss:Nat->Pat->Prop) (c:Int) (k:Nat) (p:Pat):Prop:=∃l,p=za8 c l/\l.length=k/\∀j,j<k->Ss j (nth l j)
theorem zm2 {f:Ty->Pat->Pat->List Pat}{c:Int}{Ss:Nat->Pat->Prop}:∀ {us:List Ty}{xs bs front:List Pat},us.length=xs.length->bs.length=xs.length->(∀j,j<front.length->Ss j (nth front j))->
  (∀j,j<xs.length->Ss (front.length+j) (nth xs j)/\(∀z∈f (nth us j) (nth xs j) (nth bs j),Ss (front.length+j) z)/\(∀z,zaI 11 (nth xs j) (nth bs j)=some z->Ss (front.length+j) z))->
  ∀x∈zaP f c us xs bs front,CSat Ss c (front.length+xs.length) x
 | [],[],_,front,_,_,_,_,x,hx=>by simp[zaP] at hx
 |u::us,a0::s,b0::q,front,h1,h2,hfr,hab,x,hx=>by
  have h0:=hab 0 (by simp);have e0:nth (a0::s) 0=a0:=rfl;have e1:nth (b0::q) 0=b0:=rfl;have e2:nth (u::us) 0=u:=rfl;rw[e0,e1,e2,Nat.add_zero] at h0;unfold zaP at hx;rcases List.mem_append.1 hx with hx|hx
  ·obtain⟨z,hz,rfl⟩:=List.mem_map.1 hx;refine⟨front++[z]++s,rfl,by simp only[xaa,xab,xai];omega,fun j hj=>?_⟩;simp only[xab] at hj;by_cases hj1:j<front.length
   ·have e:nth (front++[z]++s) j=nth front j:=by
     simp only[nth,List.getD,List.append_assoc];rw[List.getElem?_append_left (by omega)]
    rw[e];exact hfr j hj1
   ·by_cases hj2:j=front.length
    ·subst hj2;have e:nth (front++[z]++s) front.length=z:=by
      simp only[nth,List.getD,List.append_assoc];rw[List.getElem?_append_right (by omega),Nat.sub_self];all_goals rfl
     rw[e];exact h0.2.1 z hz
    ·obtain⟨i,rfl⟩:∃i,j=front.length+1+i:=⟨j-front.length-1,by omega⟩;have e:nth (front++[z]++s) (front.length+1+i)=nth (a0::s) (i+1):=by
      simp only[nth,List.getD,List.append_assoc];rw[List.getElem?_append_right (by omega),show front.length+1+i-front.length=i+1 by omega];all_goals rfl
     rw[e];have:=(hab (i+1) (by simp;omega)).1;rwa [show front.length+(i+1)=front.length+1+i by omega] at this
  ·cases hm:zaI 11 a0 b0 with
   |none=>rw[hm] at hx;simp at hx
   |some both=>
    rw[hm] at hx;have:=zm2 (f:=f) (c:=c) (Ss:=Ss) (us:=us) (xs:=s) (bs:=q) (front:=front++[both]) (by simpa using h1) (by simpa using h2) (fun j hj=>?_) (fun j hj=>?_) x hx
    ·rw[xaa,List.length_singleton,show front.length+1+s.length=front.length+(a0::s).length by simp;omega] at this;exact this
    ·by_cases hj1:j<front.length
     ·have e:nth (front++[both]) j=nth front j:=by
       simp only[nth,List.getD];rw[List.getElem?_append_left (by omega)]
      rw[e];exact hfr j hj1
     ·have hj2:j=front.length:=by simp at hj;omega
      subst hj2;have e:nth (front++[both]) front.length=both:=by
       simp only[nth,List.getD];rw[List.getElem?_append_right (by omega),Nat.sub_self];all_goals rfl
      rw[e];exact h0.2.2 both hm
    ·have:=hab (j+1) (by simpa using hj);rw[xaa,List.length_singleton,show front.length+1+j=front.length+(j+1) by omega];exact this
 | [],_::_,_,_,h,_,_,_,_,_=>by simp at h
 |_::_,[],_,_,h,_,_,_,_,_=>by simp at h
 |_::_,_::_,[],_,_,h,_,_,_,_=>by simp at h
theorem zqu:∀(Vs:List (List Val)) (vs:List Val) (acc:List (List Val)) (q:List Val),Vs.length=vs.length->q∈acc->(∀j,j<Vs.length->nth vs j∈nth Vs j)->q++vs∈Vs.foldl (fun acc l=>acc.flatMap fun o=>l.map fun y=>o++[y]) acc
 | [],[],acc,q,_,h,_=>by simpa using h
 |l::r,v::s,acc,q,hl,h,hm=>by
  rw[List.foldl_cons,show q++v::s=q++[v]++s by simp];refine zqu r s _ (q++[v]) (by simpa using hl) ?_ (fun j hj=>hm (j+1) (by simpa using hj));exact List.mem_flatMap.2 ⟨q,h,List.mem_map.2 ⟨v,hm 0 (by simp),rfl⟩⟩
 | [],_::_,_,_,h,_,_=>by simp at h
 |_::_,[],_,_,h,_,_=>by simp at h
theorem zqt:∀(Vs:List (List Val)) (acc:List (List Val)) (l:List Val),l∈Vs.foldl (fun acc l=>acc.flatMap fun o=>l.map fun y=>o++[y]) acc->∃q∈acc,∃vs,l=q++vs/\vs.length=Vs.length/\∀j,j<Vs.length->nth vs j∈nth Vs j
 | [],acc,l,h=>⟨l,h,[],by simp,rfl,fun j hj=>by simp at hj⟩
 |x::r,acc,l,h=>by
  rw[List.foldl_cons] at h;obtain⟨q,hq,vs,e,h1,h2⟩:=zqt r _ l h;obtain⟨o,ho,hq⟩:=List.mem_flatMap.1 hq;obtain⟨y,hy,rfl⟩:=List.mem_map.1 hq;refine⟨o,ho,y::vs,by rw[e];simp,by simp[h1],fun j hj=>?_⟩;cases j with
  |zero=>exact hy
  |succ j=>exact h2 j (by simpa using hj)
def zg9 (c:Int) (k:Nat) (Vs:Nat->List Val):List Val:=(znc ((List.range k).map Vs)).map (Val.mk c 0)
theorem zko {α:Type} [Inhabited α]{k j:Nat} (f:Nat->α) (h:j<k):nth ((List.range k).map f) j=f j:=by
 rw[zaO (by simpa using h)];simp
theorem zvY (c:Int) (k:Nat) (Vs:Nat->List Val):(zg9 c k Vs).length=zdX ((List.range k).map fun j=>(Vs j).length):=by
 unfold zg9;rw[xac,zuB,List.map_map];rfl
theorem zlI {P:Nat->Nat->Prop} (hm:∀j m n,m<=n->P j m->P j n):∀(k:Nat),(∀j,j<k->∃m,P j m)->∃m,∀j,j<k->P j m
 |0,_=>⟨0,fun j hj=>by omega⟩
 |k+1,h=>by
  obtain⟨m1,h1⟩:=zlI hm k (fun j hj=>h j (by omega));obtain⟨m2,h2⟩:=h k (by omega);refine⟨max m1 m2,fun j hj=>?_⟩;by_cases hk:j=k
  ·subst hk;exact hm _ _ _ (Nat.le_max_right _ _) h2
  ·exact hm _ _ _ (Nat.le_max_left _ _) (h1 j (by omega))
theorem zj0 {Q:Nat->Val->Prop}:∀(k:Nat),(∀j,j<k->∃v,Q j v)->∃l:List Val,l.length=k/\∀j,j<k->Q j (nth l j)
 |0,_=>⟨[],rfl,fun j hj=>by omega⟩
 |k+1,h=>by
  obtain⟨l,h1,h2⟩:=zj0 k (fun j hj=>h j (by omega));obtain⟨v,hv⟩:=h k (by omega);refine⟨l++[v],by simp[h1],fun j hj=>?_⟩;by_cases hk:j=k
  ·subst hk;have e:nth (l++[v]) j=v:=by
    simp only[nth,List.getD];rw[List.getElem?_append_right (by omega),h1,Nat.sub_self];all_goals rfl
   rw[e];exact hv
  ·have e:nth (l++[v]) j=nth l j:=by
    simp only[nth,List.getD];rw[List.getElem?_append_left (by omega)]
   rw[e];exact h2 j (by omega)
theorem zoy {c:Int}{Ss:Nat->Pat->Prop}{k n:Nat}{a b z:Pat} (hm:∀j,j<k->∀n a b z,Ss j a->Ss j b->zaI n a b=some z->Ss j z) (ha:CSat Ss c k a) (hb:CSat Ss c k b) (h:zaI n a b=some z):CSat Ss c k z:=by
 obtain⟨la,rfl,h1,h2⟩:=ha;obtain⟨lb,rfl,h3,h4⟩:=hb;cases n with
 |zero=>simp[zaI] at h
 |succ n=>
  rw[zhz (a:=za8 c la) (b:=za8 c lb) rfl (by show ¬(4:Int)=1;decide) rfl] at h;cases hl:zbH (zaI n) (za8 c la).kids (za8 c lb).kids [] with
  |none=>rw[hl] at h;cases h
  |some l=>
   rw[hl] at h;simp only[Option.map_some,Option.some.injEq] at h;subst h;have hll:(za8 c la).kids.length=(za8 c lb).kids.length:=by show la.length=lb.length;omega
   obtain⟨r,e,hr,hi⟩:=zfz hll hl;rw[List.nil_append] at e;subst e;have hk:(za8 c la).kids.length=k:=h1;refine⟨l,rfl,by omega,fun j hj=>hm j hj n _ _ _ (h2 j hj) (h4 j hj) (hi j (by omega))⟩
theorem zmx {w:List Data}{t:Ty}{c:Int}{Ss:Nat->Pat->Prop}{n:Nat}{a b x:Pat} (hm:∀j,j<(zaa w t c).length->∀n a b z,Ss j a->Ss j b->zaI n a b=some z->Ss j z)
  (hn:∀j,j<(zaa w t c).length->∀n a b x,Ss j a->Ss j b->x∈zap w n (nth (zaa w t c) j) a b->Ss j x) (ha:CSat Ss c (zaa w t c).length a) (hb:CSat Ss c (zaa w t c).length b) (h:x∈zb2 (zap w n) w t a b):
  CSat Ss c (zaa w t c).length x:=by
 obtain⟨la,rfl,h1,h2⟩:=ha;obtain⟨lb,rfl,h3,h4⟩:=hb;unfold zb2 at h;rw[if_pos (show(za8 c la).ctor=(za8 c lb).ctor from rfl)] at h;have:=zm2 (f:=zap w n) (c:=c) (Ss:=Ss) (us:=zaa w t c) (xs:=la) (bs:=lb) (front:=[]) (by omega) (by omega) (fun j hj=>by simp at hj) (fun j hj=>by
  rw[xai,Nat.zero_add];exact⟨h2 j (by omega),fun z hz=>hn j (by omega) n _ _ z (h2 j (by omega)) (h4 j (by omega)) hz,fun z hz=>hm j (by omega) 11 _ _ z (h2 j (by omega)) (h4 j (by omega)) hz⟩) x h
 rw[xai,Nat.zero_add,h1] at this;exact this
theorem zhW {w:List Data}{t:Ty}{c:Int} (hc:c∈zai w t){Ss:Nat->Pat->Prop}{Vs:Nat->List Val} (hg:∀j,j<(zaa w t c).length->Grid w (nth (zaa w t c) j) (Ss j) (Vs j)):
  Grid w t (CSat Ss c (zaa w t c).length) (zg9 c (zaa w t c).length Vs):=by
 have hdt:t.data≠ -1:=fun e=>by unfold zai at hc;rw[if_pos e] at hc;simp at hc
 refine⟨fun n a b z ha hb h=>zoy (fun j hj=>(hg j hj).meet) ha hb h,fun n a b x ha hb h=>?_,fun n p hp h1 h2=>?_, ?_⟩
 ·cases n with
  |zero=>simp[zap] at h
  |succ n=>
   have ha4:a.op=4:=by obtain⟨l,rfl,_⟩:=ha;rfl
   have hb4:b.op=4:=by obtain⟨l,rfl,_⟩:=hb;rfl
   rw[zcV hb4 ha4] at h;exact zmx (fun j hj=>(hg j hj).meet) (fun j hj=>(hg j hj).minus) ha hb h
 ·obtain⟨l,rfl,h3,h4⟩:=hp;cases n with
  |zero=>simp[zah] at h1
  |succ n=>
   rw[ziy rfl] at h2;have ha:all2 (fun u q=> !zaB w (zaf w) n u q) (zaa w t c) l=true:=(by simpa using h2:all2 (fun u q=> !zaB w (zaf w) n u q) (zaa w t (za8 c l).ctor) (za8 c l).kids=true);obtain⟨vs,h5,h6⟩:=zj0 (Q:=fun j v=>v∈Vs j/\hitP (nth l j) v=true) (zaa w t c).length (fun j hj=>by
    have hk:=zaR h1 (i:=j) (by show j<l.length;omega);rw[zaU rfl] at hk;have h7:=zcG h3.symm ha j hj;exact(hg j hj).hit n (nth l j) (h4 j hj) hk (by simpa using h7))
   refine⟨⟨c,0,vs⟩, ?_, ?_⟩
   ·unfold zg9;refine List.mem_map.2 ⟨vs, ?_,rfl⟩;have:=zqu ((List.range (zaa w t c).length).map Vs) vs [[]] [] (by simp[h5]) (by simp) (fun j hj=>by
     rw[xac,List.length_range] at hj;rw[zko Vs hj];exact(h6 j hj).1)
    simpa [znc] using this
   ·rw[zcH rfl,xad];refine⟨decide_eq_true rfl, ?_⟩;show hitL l vs=true
    rw[zjc (by omega)];exact fun j hj=>(h6 j (by omega)).2
 ·obtain⟨m,hm⟩:=zlI (P:=fun j m=>∀v∈Vs j,zaF w m (nth (zaa w t c) j) v=true) (fun j m n hmn h v hv=>zdP hmn (h v hv)) (zaa w t c).length (fun j hj=>(hg j hj).fits);refine⟨m+1,fun v hv=>?_⟩;unfold zg9 at hv;obtain⟨l,hl,rfl⟩:=List.mem_map.1 hv;obtain⟨q,hq,vs,e,h1,h2⟩:=zqt _ _ l hl;rw[List.mem_singleton] at hq;rw[hq,List.nil_append] at e;subst e;unfold zaF;rw[if_neg hdt,if_pos ⟨rfl,zij hc⟩];rw[xac,List.length_range] at h1;refine zbz (by show(zaa w t c).length=l.length;omega) (fun j hj=>?_);have hj:j<(zaa w t c).length:=hj;have:=h2 j (by simpa using hj);rw[zko Vs hj] at this;exact hm j hj _ this
section
variable {w:List Data} (hs:Spa w){t:Ty} (ht:InS (w.length*4) t)
include hs ht
theorem zoM (hdt:t.data≠ -1){Ss:Int->Nat->Pat->Prop}{Vs:Int->Nat->List Val} (hg:∀c∈zai w t,∀j,j<(zaa w t c).length->Grid w (nth (zaa w t c) j) (Ss c j) (Vs c j)) (hany:∀c∈zai w t,∀j,Ss c j anyQ):
  Grid w t (fun p=>p.op=1\/∃c∈zai w t,CSat (Ss c) c (zaa w t c).length p) ((zai w t).flatMap fun c=>zg9 c (zaa w t c).length (Vs c)):=by
 have hw:∀c∈zai w t,CSat (Ss c) c (zaa w t c).length (zbG w t c):=fun c hc=>by
  refine⟨_,rfl,by simp,fun j hj=>?_⟩;have e:nth ((zaa w t c).map fun _=>anyQ) j=anyQ:=by rw[zaO (by simpa using hj)];simp
  rw[e];exact hany c hc j
 have h4:∀ {c:Int}{k:Nat}{S:Nat->Pat->Prop}{p:Pat},CSat S c k p->p.op=4/\p.ctor=c:=fun h=>by obtain⟨l,rfl,_⟩:=h;exact⟨rfl,rfl⟩
 refine⟨fun n a b z ha hb h=>?_,fun n a b x ha hb h=>?_,fun n p hp h1 h2=>?_, ?_⟩
 ·cases n with
  |zero=>simp[zaI] at h
  |succ n=>
   rcases ha with ha|⟨c,hc,ha⟩
   ·rw[zhy ha] at h;cases h;exact hb
   ·rcases hb with hb|⟨c',hc',hb⟩
    ·rw[ziE (by have:=(h4 ha).1;omega) hb] at h;cases h;exact .inr ⟨c,hc,ha⟩
    ·by_cases e:c=c'
     ·subst e;exact .inr ⟨c,hc,zoy (fun j hj=>(hg c hc j hj).meet) ha hb h⟩
     ·rw[zhh (h4 ha).1 (by have:=(h4 hb).1;omega) (by rw[(h4 ha).2,(h4 hb).2];exact e)] at h;cases h
 ·cases n with
  |zero=>simp[zap] at h
  |succ n=>
   rcases hb with hb|⟨c',hc',hb⟩
   ·rw[zfc hb] at h;simp at h
   ·have key:∀c∈zai w t,∀a,CSat (Ss c) c (zaa w t c).length a->x∈zb2 (zap w n) w t a b->x.op=1\/∃c∈zai w t,CSat (Ss c) c (zaa w t c).length x:=fun c hc a ha h=>by
     by_cases e:c=c'
     ·subst e;exact .inr ⟨c,hc,zmx (fun j hj=>(hg c hc j hj).meet) (fun j hj=>(hg c hc j hj).minus) ha hb h⟩
     ·unfold zb2 at h;rw[if_neg (by rw[(h4 ha).2,(h4 hb).2];exact e),List.mem_singleton] at h;rw[h];exact .inr ⟨c,hc,ha⟩
    rcases ha with ha|⟨c,hc,ha⟩
    ·rw[zf2 (h4 hb).1 ha] at h;obtain⟨c,hc,h⟩:=List.mem_flatMap.1 h;exact key c hc _ (hw c hc) h
    ·rw[zcV (h4 hb).1 (h4 ha).1] at h;exact key c hc a ha h
 ·rcases hp with hp|⟨c,hc,hp⟩
  ·cases n with
   |zero=>simp[zah] at h1
   |succ n=>
    rw[ze4 hp] at h2;have h0:=of_decide_eq_false h2;obtain⟨m,v,hv⟩:=zsb hs.dp ht (by omega);cases m with
    |zero=>simp[zaF] at hv
    |succ m=>
     obtain⟨f1,f2,f3⟩:=zdh hv hdt;have hh:hitP (zbG w t v.ctor) v=true:=by
      rw[zcH rfl];show(decide (v.ctor=v.ctor)&&hitL ((zaa w t v.ctor).map fun _=>anyQ) v.kids)=true
      rw[zlK,decide_eq_true rfl];rfl
     have hwp:zah w 2 t (zbG w t v.ctor)=true:=zcx f1;obtain⟨v',h5,_⟩:=(zhW f1 (fun j hj=>hg v.ctor f1 j hj)).hit 2 _ (hw _ f1) hwp (zkb hs 2 (m+1) ht hwp hv hh);exact⟨v',List.mem_flatMap.2 ⟨_,f1,h5⟩,zeR hp⟩
  ·obtain⟨v',h5,h6⟩:=(zhW hc (fun j hj=>hg c hc j hj)).hit n p hp h1 h2;exact⟨v',List.mem_flatMap.2 ⟨c,hc,h5⟩,h6⟩
 ·obtain⟨m,hm⟩:=zlI (P:=fun i m=>∀v∈zg9 (nth (zai w t) i) (zaa w t (nth (zai w t) i)).length (Vs (nth (zai w t) i)),zaF w m t v=true) (fun j m n hmn h v hv=>zdP hmn (h v hv)) (zai w t).length
   (fun i hi=>(zhW (zae hi) (fun j hj=>hg _ (zae hi) j hj)).fits)
  refine⟨m,fun v hv=>?_⟩;obtain⟨c,hc,hv⟩:=List.mem_flatMap.1 hv;obtain⟨i,hi,rfl⟩:=List.getElem_of_mem hc;rw[<-zaO hi] at hv;exact hm i hi v hv
end
theorem zuk:∀(V:List Val) (l:List Pat),(∀x∈l,∃v∈V,hitP x v=true)->(∀v∈V,l.countP (fun x=>hitP x v)<=1)->l.length<=V.length
 | [],l,h,_=>by
  cases l with
  |nil=>simp
  |cons x r=>obtain⟨v,hv,_⟩:=h x (by simp);simp at hv
 |v::V,l,h,hc=>by
  have h1:=hc v (by simp);have h2:=zuk V (l.filter fun x=> !hitP x v) (fun x hx=>by
   obtain⟨h3,h4⟩:=List.mem_filter.1 hx;obtain⟨u,hu,h5⟩:=h x h3;rcases List.mem_cons.1 hu with rfl|hu
   ·rw[h5] at h4;simp at h4
   ·exact⟨u,hu,h5⟩) (fun u hu=>Nat.le_trans (List.Sublist.countP_le List.filter_sublist) (hc u (by simp[hu])))
  have h3:l.length=l.countP (fun x=>hitP x v)+(l.filter fun x=> !hitP x v).length:=by
   rw[<-List.countP_eq_length_filter];have:=List.length_eq_countP_add_countP (fun x=>hitP x v) (l:=l);rw[this];congr 1
   refine List.countP_congr (fun x _=>?_);simp
  simp only[xab];omega
def sepQ (w:List Data) (t:Ty):List Pat->List Pat->List Pat->Option (List Pat)
 |_,[],out=>some out
 |front,p::r,out=>match zaK w t [p] front with
  |none=>none
  |some m=>sepQ w t (front++[p]) r (out++m)
theorem zsF {w:List Data}{t:Ty}{S:Pat->Prop} (hmin:∀a b x,S a->S b->x∈zap w 10 t a b->S x):∀(away l r:List Pat),(∀b∈away,zah w 10 t b=true/\S b)->(∀a∈l,zah w 11 t a=true/\S a/\zbi w t a=true)->subL w t l away=some r->∀x∈r,zah w 11 t x=true/\S x/\zbi w t x=true
 | [],l,r,_,hl,h=>by rw[subL] at h;cases h;exact hl
 |b::away,l,r,hb,hl,h=>by
  rw[subL] at h;split at h
  ·refine zsF hmin away _ r (fun x hx=>hb x (by simp[hx])) (fun x hx=>?_) h;have h1:=zeD (fun a ha=>(hl a ha).1) (hb b (by simp)).1 x hx;unfold zbS at hx;obtain⟨h2,h3⟩:=List.mem_filter.1 hx;obtain⟨a,ha,h4⟩:=List.mem_flatMap.1 h2;exact⟨h1,hmin a b x (hl a ha).2.1 (hb b (by simp)).2 h4,h3⟩
  ·cases h
theorem zlz {w:List Data}{t:Ty}{S:Pat->Prop} (hmin:∀a b x,S a->S b->x∈zap w 10 t a b->S x){away l r:List Pat} (hb:∀b∈away,zah w 10 t b=true/\S b) (hl:∀a∈l,zah w 11 t a=true/\S a) (h:zaK w t l away=some r):∀x∈r,zah w 11 t x=true/\S x/\zbi w t x=true:=by
 unfold zaK at h;exact zsF hmin away _ r hb (fun a ha=>⟨(hl a (List.mem_filter.1 ha).1).1,(hl a (List.mem_filter.1 ha).1).2,(List.mem_filter.1 ha).2⟩) h
theorem zsA {w:List Data}{t:Ty}{S:Pat->Prop} (hmin:∀a b x,S a->S b->x∈zap w 10 t a b->S x):∀(r front out:List Pat){res:List Pat},(∀b∈front,zah w 10 t b=true/\S b)->(∀b∈r,zah w 10 t b=true/\S b)->(∀x∈out,zah w 11 t x=true/\S x/\zbi w t x=true)->
  sepQ w t front r out=some res->∀x∈res,zah w 11 t x=true/\S x/\zbi w t x=true
 | [],front,out,res,_,_,ho,h=>by rw[sepQ] at h;cases h;exact ho
 |p::r,front,out,res,hf,hr,ho,h=>by
  rw[sepQ] at h;cases hw:zaK w t [p] front with
  |none=>rw[hw] at h;cases h
  |some m=>
   rw[hw] at h;have hp:=hr p (by simp);have h1:=zlz hmin hf (fun a ha=>by rw[List.mem_singleton.1 ha];exact⟨zdd (by omega) hp.1,hp.2⟩) hw;refine zsA hmin r (front++[p]) (out++m) (fun b hb=>?_) (fun b hb=>hr b (by simp[hb])) (fun x hx=>?_) h
   ·rcases List.mem_append.1 hb with hb|hb
    ·exact hf b hb
    ·rw[List.mem_singleton.1 hb];exact hp
   ·rcases List.mem_append.1 hx with hx|hx
    ·exact ho x hx
    ·exact h1 x hx
theorem zwP (n:Nat):∀f p r:Bool,(n+if f=true then 0 else one p)+(if (f||p)=true then 0 else one r)=n+if f=true then 0 else one (p||r):=by
 intro f p r;cases f<;>cases p<;>cases r<;>simp[one]
theorem zx6:∀b:Bool,one b<=1:=by decide
section
variable {w:List Data} (hs:Spa w){t:Ty} (ht:InS (w.length*4) t)
include hs ht
theorem zn9 {v:Val}{k:Nat} (hv:zaF w k t v=true):∀(r front out:List Pat){res:List Pat},(∀b∈front,zah w 10 t b=true)->(∀b∈r,zah w 10 t b=true)->sepQ w t front r out=some res->
  res.countP (fun x=>hitP x v)=out.countP (fun x=>hitP x v)+if front.any (fun x=>hitP x v)=true then 0 else one (r.any fun x=>hitP x v)
 | [],front,out,res,_,_,h=>by
  rw[sepQ] at h;cases h;simp[one]
 |p::r,front,out,res,hf,hr,h=>by
  rw[sepQ] at h;cases hw:zaK w t [p] front with
  |none=>rw[hw] at h;cases h
  |some m=>
   rw[hw] at h;have hp:=hr p (by simp);have h1:=zly hs ht hv hf (fun a ha=>by rw[List.mem_singleton.1 ha];exact zdd (by omega) hp) hw;have h2:=zn9 hv r (front++[p]) (out++m) (fun b hb=>by
    rcases List.mem_append.1 hb with hb|hb
    ·exact hf b hb
    ·rw[List.mem_singleton.1 hb];exact hp) (fun b hb=>hr b (by simp[hb])) h
   rw[h2,List.countP_append,h1,List.any_append,List.any_cons,List.countP_singleton];simp only[List.any_cons,List.any_nil,Bool.or_false];exact zwP _ _ _ _
theorem zsz {S:Pat->Prop}{V:List Val} (hg:Grid w t S V){l res:List Pat} (hl:∀b∈l,zah w 10 t b=true/\S b) (h:sepQ w t [] l []=some res):res.length<=V.length:=by
 obtain⟨m,hm⟩:=hg.fits;have h1:=zsA (hg.minus 10) l [] [] (by simp) hl (by simp) h;refine zuk V res (fun x hx=>?_) (fun v hv=>?_)
 ·obtain⟨h2,h3,h4⟩:=h1 x hx;exact hg.hit 11 x h3 h2 (by unfold zbi at h4;simpa using h4)
 ·have:=zn9 hs ht (hm v hv) l [] [] (by simp) (fun b hb=>(hl b hb).1) h;rw[this];simp only[List.countP_nil,List.any_nil,Nat.zero_add];exact zx6 _
end
abbrev zhU (o:List Pat):List D:=[.sl (Pat.cs o)]
abbrev zi7 (ls:List (List Pat)):D:= .sl (ls.map zhU)
theorem zto {N:Nat} (acc:List (List Pat)) (l:List Pat):(za5 (acc.take N) l).take N=(za5 acc l).take N:=by
 by_cases h:acc.length<=N
 ·rw[List.take_of_length_le h]
 have e0:∀a:List (List Pat),za5 a []=[]:=fun a=>by unfold za5;simp
 cases l with
 |nil=>rw[e0,e0]
 |cons c r=>
  have e:za5 acc (c::r)=za5 (acc.take N) (c::r)++za5 (acc.drop N) (c::r):=by
   unfold za5;rw[<-List.flatMap_append,List.take_append_drop]
  rw[e,zev];rw[zgB,List.length_take,Nat.min_eq_left (by omega),xab];exact Nat.le_mul_of_pos_right _ (by omega)
theorem ztp {N:Nat} (acc:List (List Pat)) (l:List Pat):(za5 acc (l.take N)).take N=(za5 acc l).take N:=by
 by_cases h:l.length<=N
 ·rw[List.take_of_length_le h]
 cases acc with
 |nil=>rfl
 |cons q r=>
  have e:∀l:List Pat,za5 (q::r) l=l.map (fun c=>q++[c])++za5 r l:=fun l=>by unfold za5;rw[List.flatMap_cons]
  rw[e,e,zev (by rw[xac,List.length_take];omega),zev (by rw[xac];omega),List.map_take,List.take_take,Nat.min_self]
def tupQ (m:Nat) (ls:List (List Pat)):List (List Pat):=ls.foldl (fun acc l=>(za5 acc l).take (m+1)) [[]]
theorem zkL (m:Nat) (ls:List (List Pat)) (l:List Pat):tupQ m (ls++[l])=(za5 (tupQ m ls) l).take (m+1):=by
 unfold tupQ;rw[List.foldl_append];rfl
theorem zrv (m:Nat):∀(ls:List (List Pat)) (acc:List (List Pat)),(ls.map (List.take (m+1))).foldl (fun acc l=>(za5 acc l).take (m+1)) (acc.take (m+1))=(ls.foldl za5 acc).take (m+1)
 | [],acc=>rfl
 |l::r,acc=>by
  rw[xae,List.foldl_cons,List.foldl_cons,ztp,zto];exact zrv m r (za5 acc l)
theorem zwZ (m:Nat) (ls:List (List Pat)):tupQ m (ls.map (List.take (m+1)))=(zef ls).take (m+1):=by
 have h:=zrv m ls [[]];have e:([[]]:List (List Pat)).take (m+1)=[[]]:=by simp
 rw[e] at h;exact h
theorem zrt (m:Nat) (ls:List (List Pat)):(tupQ m ls).length<=m+1:=by
 have key:∀(ls acc:List (List Pat)),acc.length<=m+1->(ls.foldl (fun acc l=>(za5 acc l).take (m+1)) acc).length<=m+1:=by
  intro ls;induction ls with
  |nil=>intro acc h;exact h
  |cons l r ih=>intro acc h;exact ih _ (by rw[List.length_take];omega)
 exact key ls [[]] (by simp)
theorem zru (m:Nat){ls:List (List Pat)}{o:List Pat} (h:o∈tupQ m ls):o.length=ls.length:=by
 have key:∀(ls acc:List (List Pat)) (n:Nat),(∀o∈acc,o.length=n)->∀o∈ls.foldl (fun acc l=>(za5 acc l).take (m+1)) acc,o.length=n+ls.length:=by
  intro ls;induction ls with
  |nil=>intro acc n h o ho;exact h o ho
  |cons l r ih=>
   intro acc n h o ho;have:=ih _ (n+1) (fun o' ho'=>by
    have ho':=List.mem_of_mem_take ho';unfold za5 at ho';simp only[List.mem_flatMap,List.mem_map] at ho';obtain⟨p,hp,q,_,rfl⟩:=ho';simp[h p hp]) o ho
   simp only[xab];omega
 have:=key ls [[]] 0 (by simp) o h;simpa using this
def zk5 (l:List Pat) (o:List Pat):List (List Pat):=l.map fun y=>o++[y]
theorem zon (acc:List (List Pat)) (l:List Pat):za5 acc l=acc.flatMap (zk5 l):=rfl
theorem zrr {X:List (List Pat)}{l:List Pat}{o:List Pat}{j m:Nat} (hc:¬j<l.length\/¬((X++(l.take j).map fun y=>o++[y]).take (m+1)).length<=m):
  (X++(l.take j).map fun y=>o++[y]).take (m+1)=(X++zk5 l o).take (m+1):=zwX hc
theorem zvW {α:Type}{N:Nat} (a b:List α):(a.take N++b.take N).take N=(a++b).take N:=by
 by_cases h:a.length<=N
 ·rw[List.take_of_length_le h,List.take_append,List.take_append,List.take_take,Nat.min_eq_left (by omega)]
 ·rw[zev (by rw[List.length_take];omega),zev (by omega),List.take_take,Nat.min_self]
def zaZ (p:Pat):List Pat:=(zar p).take 401
theorem zvR {p:Pat} (h:p.op=5) (hk:p.kids.length=2):zaZ p=(zaZ (nth p.kids 0)++zaZ (nth p.kids 1)).take 401:=by
 unfold zaZ;rw[zdu h hk,zvW]
theorem zvS {p:Pat} (h:p.op≠5):zaZ p=(tupQ 400 (p.kids.map zaZ)).map fun l=> .mk p.op p.ctor p.n p.m p.var l:=by
 unfold zaZ;rw[zc5 h,<-List.map_take];congr 1
 have:=zwZ 400 (p.kids.map zar);rw[List.map_map] at this;exact this.symm
theorem zjq (p:Pat):(zaZ p).length<=401:=by unfold zaZ;rw[List.length_take];omega
theorem zbY:∀(n:Nat){p:Pat},p.size<=n->p.ok->FnD Tryz.prog 64 [.agg [.d (.i p.op),.d (.i p.ctor),.d (.i p.n),.d (.i p.m),.d (.i p.var),.d (zad p.kids)]] [] (.agg [.d (.i (zat p).op),.d (.i (zat p).ctor),.d (.i (zat p).n),.d (.i (zat p).m),.d (.i (zat p).var),.d (zad (zat p).kids)]) []
 |0,p,h,_=>by rw[Pat.size_eq] at h;omega
 |n+1,p,h,hok=>by
  rw[Pat.size_eq] at h;rw[Pat.ok_iff] at hok;have hok1:=hok.1;by_cases h2:p.op=2
  ·rw[zrU h2];refine bd Tryz.f64 42 [] [] fun w0 F0 own kept hk=>?_;refine bx 3001 ?_;refine ab 3002 tz36 ?_;refine tv ?_;refine sq ?_ ?_<;>intro h1 h1p h1s<;>(try simp only[Q] at h1p);refine bu [0] [_] st36 ?_;refine so ty36 ?_;refine tv ?_;refine rn0 (.cons (.cellA ty36 rfl rfl rfl) .nil) (.agg (.cons (.eqd ?_) (.cons (.eqd ?_) (.cons (.eqd ?_) (.cons (.eqd ?_) (.cons (.eqd ?_) (.cons (.nild ?_) .nil)))))));rotate_left 6;exfalso;omega;all_goals (rfl)
  by_cases h6:p.op=6/\0<p.kids.length
  ·rw[zrV h6.1 h6.2];refine bd Tryz.f64 42 [] [] fun w0 F0 own kept hk=>?_;refine bx 3001 ?_;refine ab 3002 tz36 ?_;refine tv ?_;refine sq ?_ ?_<;>intro h1 h1p h1s<;>(try simp only[Q,Pat.cs_len] at h1p);exfalso;omega;refine sq ?_ ?_<;>intro h2 h2p h2s<;>(try simp only[Q,Pat.cs_len] at h2p);refine sq ?_ ?_<;>intro h3 h3p h3s<;>(try simp only[Q,Pat.cs_len] at h3p);refine xaU (i:=0) sl34 .none rfl rfl rfl rfl (zay h6.2) rfl ?_;refine ev ?_;refine wc zkR (zbY n (p:=nth p.kids 0) (by have:=Pats.size_mem (zae h6.2);omega) (Pats.ok_mem hok.2 _ (zae h6.2))) rfl rfl ?_;refine so ty36 ?_;refine tv ?_;refine rn0 (.cons (.cellA ty36 rfl rfl rfl) .nil) (.agg (.cons (.eqd ?_) (.cons (.eqd ?_) (.cons (.eqd ?_) (.cons (.eqd ?_) (.cons (.eqd ?_) (.cons (.eqd ?_) .nil)))))));rotate_left 6;exfalso;omega;exfalso;omega;all_goals (rfl)
  ·rw[zrW h2 h6];refine bd Tryz.f64 42 [] [] fun w0 F0 own kept hk=>?_;refine bx 3001 ?_;refine ab 3002 tz36 ?_;refine tv ?_;refine sq ?_ ?_<;>intro h1 h1p h1s<;>(try simp only[Q,Pat.cs_len] at h1p);exfalso;omega;refine sq ?_ ?_<;>intro h2 h2p h2s<;>(try simp only[Q,Pat.cs_len] at h2p);refine sq ?_ ?_<;>intro h3 h3p h3s<;>(try simp only[Q,Pat.cs_len] at h3p);exfalso;apply h6;exact⟨by omega,by omega⟩;refine ab 3003 tz36 ?_;refine so ty36 ?_;refine tv ?_;refine so ty34 ?_;refine tv ?_;refine xan 3003 5 7 6 rfl rfl rfl rfl ?_;refine xak (ι:=List (Pat)×List (Pat)) hk (fun x=>[(4,.d (.i (x.1.length:Int)))]) [23,24,25,26,27,28,29,30,31,32,33,34,35,36,37,38,39,40] (fun x=>[(3003,some (.box [.d (.i p.op),.d (.i p.ctor),.d (.i p.n),.d (.i p.m),.d (.i p.var),.gl 7 ((x.1.map zat).map Pat.cc)])),(7,some (.tok ((x.1.map zat).map Pat.cc).length 6))]) (fun x=>x.1++x.2=p.kids) (fun x=>x.2.length) ([],p.kids) (by simp) ⟨⟨_,rfl,xaq ?_⟩,trivial⟩ ⟨?_,⟨zab ?_,trivial⟩⟩ (fun x=>rfl) (fun x hg1=>?_);focus ((simp;done))
   focus (first|rfl|(simp[getH];done))
   focus ((simp;done))
   obtain⟨pre,rest⟩:=x;dsimp only at hg1 ⊢;refine evc [] [] ?_;refine sq ?_ ?_<;>intro h4 h4p h4s<;>(try simp only[Q,Pat.cs_len] at h4p);rcases rest with _|⟨y,rest⟩
   ·exfalso;simp_all
   refine xaU sl34 .none rfl rfl rfl rfl (Pat.cs_at' hg1) rfl ?_;refine evd [] [] ?_;refine wc zkR (zbY n (p:=y) (by have:=Pats.size_mem (l:=p.kids) (v:=y) (by rw[<-hg1];simp);omega) (Pats.ok_mem hok.2 y (by rw[<-hg1];simp))) rfl rfl ?_;refine si [0] [_] sl34 tz36 ?_;refine ap sl34 zz36 rfl rfl rfl (by intro x hx;first|(simp at hx;subst hx;rfl)|exact zhk _ x hx) (by have:=congrArg List.length hg1;simp at this;simp;omega) ?_;refine evd [] [] ?_;refine so ty34 ?_;refine dr ?_;refine ar ?_;refine xah ((pre++[y],rest)) ⟨(by have hz:=hg1;rw[<-hz];simp),(by simp),sx ⟨⟨_,rfl,xaq ?_⟩,trivial⟩ ⟨?_,⟨zab ?_,trivial⟩⟩⟩;focus ((simp;done))
   focus (first|rfl|(simp[getH];done))
   focus ((simp;done))
   have hrest:rest=[]:=by
    rcases rest with _|⟨a,b⟩
    ·rfl
    ·exfalso;have hz:=congrArg List.length (hg1);simp only[xaa,xab,xac] at hz;omega
   subst hrest;refine so ty36 ?_;refine tv ?_;refine rn0 (.cons (.cellA ty36 rfl rfl rfl) .nil) (.agg (.cons (.eqd ?_) (.cons (.eqd ?_) (.cons (.eqd ?_) (.cons (.eqd ?_) (.cons (.eqd ?_) (.cons (.gld ?_) .nil)))))));rotate_left 6;refine ab 3003 tz36 ?_;refine so ty36 ?_;refine tv ?_;refine so ty34 ?_;refine tv ?_;refine xan 3003 5 7 6 rfl rfl rfl rfl ?_;refine xak (ι:=List (Pat)×List (Pat)) hk (fun x=>[(4,.d (.i (x.1.length:Int)))]) [23,24,25,26,27,28,29,30,31,32,33,34,35,36,37,38,39,40] (fun x=>[(3003,some (.box [.d (.i p.op),.d (.i p.ctor),.d (.i p.n),.d (.i p.m),.d (.i p.var),.gl 7 ((x.1.map zat).map Pat.cc)])),(7,some (.tok ((x.1.map zat).map Pat.cc).length 6))]) (fun x=>x.1++x.2=p.kids) (fun x=>x.2.length) ([],p.kids) (by simp) ⟨⟨_,rfl,xaq ?_⟩,trivial⟩ ⟨?_,⟨zab ?_,trivial⟩⟩ (fun x=>rfl) (fun x hg1=>?_);focus ((simp;done))
   focus (first|rfl|(simp[getH];done))
   focus ((simp;done))
   obtain⟨pre,rest⟩:=x;dsimp only at hg1 ⊢;refine evc [] [] ?_;refine sq ?_ ?_<;>intro h5 h5p h5s<;>(try simp only[Q,Pat.cs_len] at h5p);rcases rest with _|⟨y,rest⟩
   ·exfalso;simp_all
   refine xaU sl34 .none rfl rfl rfl rfl (Pat.cs_at' hg1) rfl ?_;refine evd [] [] ?_;refine wc zkR (zbY n (p:=y) (by have:=Pats.size_mem (l:=p.kids) (v:=y) (by rw[<-hg1];simp);omega) (Pats.ok_mem hok.2 y (by rw[<-hg1];simp))) rfl rfl ?_;refine si [0] [_] sl34 tz36 ?_;refine ap sl34 zz36 rfl rfl rfl (by intro x hx;first|(simp at hx;subst hx;rfl)|exact zhk _ x hx) (by have:=congrArg List.length hg1;simp at this;simp;omega) ?_;refine evd [] [] ?_;refine so ty34 ?_;refine dr ?_;refine ar ?_;refine xah ((pre++[y],rest)) ⟨(by have hz:=hg1;rw[<-hz];simp),(by simp),sx ⟨⟨_,rfl,xaq ?_⟩,trivial⟩ ⟨?_,⟨zab ?_,trivial⟩⟩⟩;focus ((simp;done))
   focus (first|rfl|(simp[getH];done))
   focus ((simp;done))
   have hrest:rest=[]:=by
    rcases rest with _|⟨a,b⟩
    ·rfl
    ·exfalso;have hz:=congrArg List.length (hg1);simp only[xaa,xab,xac] at hz;omega
   subst hrest;refine so ty36 ?_;refine tv ?_;refine rn0 (.cons (.cellA ty36 rfl rfl rfl) .nil) (.agg (.cons (.eqd ?_) (.cons (.eqd ?_) (.cons (.eqd ?_) (.cons (.eqd ?_) (.cons (.eqd ?_) (.cons (.gld ?_) .nil)))))));rotate_left 6;all_goals (first|rfl|(rw[List.append_nil] at hg1;rw[<-hg1,xau];done)|(rw[List.append_nil] at hg1;subst hg1;rw[<-xau];all_goals rfl))
theorem zl5 {ls:List (List Pat)} (hl:ls.length<=1000000000000) (hls:∀l∈ls,l.length<=1000000000000):FnD Tryz.prog 280 [.d (zi7 ls)] [] (.d (zi7 (tupQ 400 ls))) []:=by
 refine bd Tryz.f280 62 [] [] fun w0 F0 own kept hk=>?_;refine xbh sl34 .none rfl ?_;refine si [0] [_] zeg tz34 ?_;refine ev ?_;refine xak (ι:=List (List Pat)×List (List Pat)) hk (fun x=>[(4,.d (.i (x.1.length:Int))),(3,.d (.sl ((tupQ 400 x.1).map zhU)))]) [5,6,7,10,11,12,13,14,15,16,17,18,19,20,21,22,23,24,25,26,27,28,29,30,31,32,33,34,35,36,37,38,39,40,41,42,43,44,45,46,47,48,49,50,51,52,53,54,55,56,57,58,59,60] (fun x=>[]) (fun x=>x.1++x.2=ls) (fun x=>x.2.length) ([],ls) (by simp) ⟨⟨_,rfl,xaq ?_⟩,⟨⟨_,rfl, ?_⟩,trivial⟩⟩ trivial (fun x=>rfl) (fun x hg1=>?_);focus (first|rfl|(simp;done))
 focus (first|exact LeA.refl _|((first|refine LeA.gld ?_|refine LeA.nild ?_);first|rfl|(simp;done)|(rw[zkL,zon,znV (by omega)])))
 obtain⟨pre,rest⟩:=x;dsimp only at hg1 ⊢;refine evc [] [] ?_;refine sq ?_ ?_<;>intro h1 h1p h1s<;>(try simp only[Q,Pat.cs_len,Int.ofNat_lt,Int.ofNat_le] at h1p);rcases rest with _|⟨l,rest⟩
 ·exfalso;simp_all
 have hll:=hls l (by rw[<-hg1];simp);have htl:=zrt 400 pre;refine xbi 3 zeg .none rfl rfl ?_;refine ev ?_;refine xak (ι:=Nat) hk (fun k=>[(6,.d (.i (k:Int))),(5,.gl 3 (((((tupQ 400 pre).take k).flatMap (zk5 l)).take (400+1)).map zhU))]) [7,17,18,19,20,21,22,23,24,25,26,27,28,29,30,31,32,33,34,35,36,37,38,39,40,41,42,43,44,45,46,47,48,49,50,51,52,53,54,55,56,57,58,59] (fun k=>[(3,some (.tok ((((((tupQ 400 pre).take k).flatMap (zk5 l)).take (400+1)).map zhU)).length 1))]) (fun k=>k<=(tupQ 400 pre).length) (fun k=>(tupQ 400 pre).length-k) 0 (by simp) ⟨⟨_,rfl,xaq ?_⟩,⟨⟨_,rfl,LeA.glg ?_⟩,trivial⟩⟩ ⟨zab ?_,trivial⟩ (fun x=>rfl) (fun k hg2=>?_);iterate 3 focus (first|rfl|(simp;done))
 refine evc [] [] ?_;refine sq ?_ ?_<;>intro h2 h2p h2s<;>(try simp only[Q,Pat.cs_len,Int.ofNat_lt,Int.ofNat_le] at h2p);refine sq ?_ ?_<;>intro h3 h3p h3s<;>(try simp only[Q,Pat.cs_len,Int.ofNat_lt,Int.ofNat_le] at h3p);refine xak (ι:=Nat) hk (fun j=>[(7,.d (.i (j:Int))),(5,.gl 3 (((((tupQ 400 pre).take k).flatMap (zk5 l)++(l.take j).map (fun y=>nth (tupQ 400 pre) k++[y])).take (400+1)).map zhU))]) [28,29,30,31,32,33,34,35,36,37,38,39,40,41,42,43,44,45,46,47,48,49,50,51,52,53,54,55,56,57,58,59] (fun j=>[(3,some (.tok ((((((tupQ 400 pre).take k).flatMap (zk5 l)++(l.take j).map (fun y=>nth (tupQ 400 pre) k++[y])).take (400+1)).map zhU)).length 1))]) (fun j=>j<=l.length) (fun j=>l.length-j) 0 (by simp) ⟨⟨_,rfl,xaq ?_⟩,⟨⟨_,rfl,LeA.glg ?_⟩,trivial⟩⟩ ⟨zab ?_,trivial⟩ (fun x=>rfl) (fun j hg3=>?_);iterate 3 focus (first|rfl|(simp;done))
 have hol:=zru 400 (zae (l:=tupQ 400 pre) (i:=k) (by omega));refine evc [] [] ?_;refine xaU zeg .none rfl rfl rfl rfl (by first|exact zaL hg1|exact zas (by omega)) rfl ?_;refine ev ?_;refine sq ?_ ?_<;>intro h4 h4p h4s<;>(try simp only[Q,Pat.cs_len,Int.ofNat_lt,Int.ofNat_le] at h4p);refine sq ?_ ?_<;>intro h5 h5p h5s<;>(try simp only[Q,Pat.cs_len,Int.ofNat_lt,Int.ofNat_le] at h5p);refine xbi 5 sl34 .none rfl rfl ?_;refine evd [] [] ?_;refine xaU zeg .none rfl rfl rfl rfl (by first|exact zaL hg1|exact zas (by omega)) rfl ?_;refine evd [] [] ?_;refine ap sl34 zz36 rfl rfl rfl (by intro z hz;first|(rw[xau] at hz;obtain⟨_,_,rfl⟩:=List.mem_map.1 hz;rfl)|(simp at hz;rw[hz];rfl)) (by first|(simp only[xac,xaa,xab,xai,Pat.cs_len] at *;omega)) ?_;refine evd [] [] ?_;refine xaU zeg .none rfl rfl rfl rfl (by first|exact zaL hg1|exact zas (by omega)) rfl ?_;refine evd [] [] ?_;refine xaU sl34 .none rfl rfl rfl rfl (zay (by omega)) rfl ?_;refine evd [] [] ?_;refine si [0] [_] sl34 tz36 ?_;refine ap sl34 zz36 rfl rfl rfl (by intro z hz;first|(rw[xau] at hz;obtain⟨_,_,rfl⟩:=List.mem_map.1 hz;rfl)|(simp at hz;rw[hz];rfl)) (by first|(simp only[xac,xaa,xab,xai,Pat.cs_len] at *;omega)) ?_;refine si [0] [_] zeg tz34 ?_;refine ap zeg zz34 rfl rfl rfl (by intro z hz;first|(rw[xau] at hz;obtain⟨_,_,rfl⟩:=List.mem_map.1 hz;rfl)|(simp at hz;rw[hz];rfl)) (by first|(simp only[xac,xaa,xab,xai,Pat.cs_len] at *;omega)) ?_;refine evd [] [] ?_;refine dr ?_;refine ar ?_;refine xah (j+1) ⟨?_, ?_,sx ⟨⟨_,rfl,xaq ?_⟩,⟨⟨_,rfl,LeA.glg ?_⟩,trivial⟩⟩ ⟨zab ?_,trivial⟩⟩;iterate 2 focus (first|omega|(simp_all;done))
 iterate 3 focus (first|rfl|(simp;done)|(rw[zwY (by omega) (by omega),xaf];simp[xau];done))
 refine ar ?_;refine xah (k+1) ⟨?_, ?_,sx ⟨⟨_,rfl,xaq ?_⟩,⟨⟨_,rfl,LeA.glg ?_⟩,trivial⟩⟩ ⟨zab ?_,trivial⟩⟩;iterate 2 focus (first|omega|(simp_all;done))
 iterate 3 focus (first|rfl|(simp;done)|(rw[zsf (by omega),zrr (by omega)]))
 refine sqF ?_;refine ar ?_;refine xah (k+1) ⟨?_, ?_,sx ⟨⟨_,rfl,xaq ?_⟩,⟨⟨_,rfl,LeA.glg ?_⟩,trivial⟩⟩ ⟨zab ?_,trivial⟩⟩;iterate 2 focus (first|omega|(simp_all;done))
 iterate 3 focus (first|rfl|(simp;done)|(rw[zsf (by omega),zrr (by omega)]))
 refine ar ?_;refine xah ((pre++[l],rest)) ⟨(by have hz:=hg1;rw[<-hz];simp),(by simp),sx ⟨⟨_,rfl,xaq ?_⟩,⟨⟨_,rfl, ?_⟩,trivial⟩⟩ trivial⟩;focus (first|rfl|(simp;done))
 focus (first|exact LeA.refl _|((first|refine LeA.gld ?_|refine LeA.nild ?_);first|rfl|(simp;done)|(rw[zkL,zon,znV (by omega)])))
 refine sqF ?_;refine ar ?_;refine xah ((pre++[l],rest)) ⟨(by have hz:=hg1;rw[<-hz];simp),(by simp),sx ⟨⟨_,rfl,xaq ?_⟩,⟨⟨_,rfl, ?_⟩,trivial⟩⟩ trivial⟩;focus (first|rfl|(simp;done))
 focus (first|exact LeA.refl _|((first|refine LeA.gld ?_|refine LeA.nild ?_);first|rfl|(simp;done)|(rw[zkL,zon,znV (by omega)])))
 have hrest:rest=[]:=by
  rcases rest with _|⟨a,b⟩
  ·rfl
  ·exfalso;have hz:=congrArg List.length (hg1);simp only[xaa,xab,xac] at hz;omega
 subst hrest;refine rq ?_;rotate_left;all_goals ((rw[List.append_nil] at hg1);subst hg1;rfl)
theorem zei:∀(n:Nat){p:Pat},binP n p=true->p.ok->FnD Tryz.prog 197 [.agg [.d (.i p.op),.d (.i p.ctor),.d (.i p.n),.d (.i p.m),.d (.i p.var),.d (zad p.kids)]] [] (.gv 9 (Pat.cs (zaZ p))) [(9,some (.tok (Pat.cs (zaZ p)).length 6))]
 |0,p,h,_=>by simp[binP] at h
 |n+1,p,h,hok=>by
  have hok':=(Pat.ok_iff p).1 hok;have hok1:=hok'.1;by_cases h5:p.op=5
  ·have hl:=zkQ h h5;have e5:=zvR h5 hl;have l0:=zjq (nth p.kids 0);have l1:=zjq (nth p.kids 1);have c0:=zei n (zd8 h (i:=0) (by omega)) (Pats.ok_mem hok'.2 _ (zae (by omega)));have c1:=FnD.gvD (zei n (zd8 h (i:=1) (by omega)) (Pats.ok_mem hok'.2 _ (zae (by omega))));rw[e5];generalize zaZ (nth p.kids 0)=A at *;generalize zaZ (nth p.kids 1)=C at *;by_cases hlen:(A++C).length<=401
   ·rw[List.take_of_length_le hlen];rw[xaa] at hlen;refine bd Tryz.f197 67 [25] [] fun w0 F0 own kept hk=>?_;refine bx 3001 ?_;refine evs [25] [] ?_;refine sq ?_ ?_<;>intro h1 h1p h1s<;>(try simp only[Q,Pat.cs_len,xaa] at h1p);refine xaU (i:=0) sl34 .none rfl rfl rfl rfl (zay (by omega)) rfl ?_;refine evd [25] [] ?_;refine Walk.call (cr:=[9]) ziu (c0) rfl .none rfl rfl (LeL.refl _) trivial rfl rfl rfl ?_;refine evd [25] [] ?_;refine xaU (i:=1) sl34 .none rfl rfl rfl rfl (zay (by omega)) rfl ?_;refine evd [25] [] ?_;refine wc ziu (c1) rfl rfl ?_;refine xaB sl34 zz36 .none rfl rfl rfl rfl (zfu rfl (by(simp;done))) (by intro x hx;exact zbM _ x hx) (by simp[Pat.cs_len];omega) (by simp[Pat.cs_len];omega) ?_;refine evd [25] [] ?_;refine dr ?_;refine Walk.lenV sl34 .none rfl rfl ?_;refine evs [25] [] ?_;refine sq ?_ ?_<;>intro h2 h2p h2s<;>(try simp only[Q,Pat.cs_len,xaa] at h2p);exfalso;omega;refine rn [(9,some (.tok (Pat.cs (A++C)).length 6))] (r1 rfl) (.gvg ?_) ⟨rfl,rfl⟩ (SubH.get ⟨?_,trivial⟩) (zaA rfl);rotate_left 2;exfalso;omega;all_goals (first|((first|rfl|(simp[xau];done));done)|(first|rfl|(simp[xau];rfl)))
   ·have c8:=FnD.gvRen 8 c0;rw[xaa] at hlen;refine bd Tryz.f197 67 [25] [] fun w0 F0 own kept hk=>?_;refine bx 3001 ?_;refine evs [25] [] ?_;refine sq ?_ ?_<;>intro h1 h1p h1s<;>(try simp only[Q,Pat.cs_len,xaa] at h1p);refine xaU (i:=0) sl34 .none rfl rfl rfl rfl (zay (by omega)) rfl ?_;refine evd [25] [] ?_;refine Walk.call (cr:=[8]) ziu (c8) rfl .none rfl rfl (LeL.refl _) trivial rfl rfl rfl ?_;refine evd [25] [] ?_;refine xaU (i:=1) sl34 .none rfl rfl rfl rfl (zay (by omega)) rfl ?_;refine evd [25] [] ?_;refine wc ziu (c1) rfl rfl ?_;refine xaB sl34 zz36 .none rfl rfl rfl rfl (zfu rfl (by(simp;done))) (by intro x hx;exact zbM _ x hx) (by simp[Pat.cs_len];omega) (by simp[Pat.cs_len];omega) ?_;refine evd [25] [] ?_;refine dr ?_;refine Walk.lenV sl34 .none rfl rfl ?_;refine evs [25] [] ?_;refine sq ?_ ?_<;>intro h2 h2p h2s<;>(try simp only[Q,Pat.cs_len,xaa] at h2p);refine xaN 9 (b:=401) sl34 .none rfl rfl (zfu rfl (by(simp;done))) rfl rfl (by simp[Pat.cs_len];omega) (by simp[Pat.cs_len];omega) rfl ?_;refine evs [25] [] ?_;refine rn [(9,some (.tok (Pat.cs ((A++C).take 401)).length 6))] (r1 rfl) (.gvg ?_) ⟨rfl,rfl⟩ (SubH.get ⟨?_,trivial⟩) (zaA rfl);rotate_left 2;exfalso;omega;exfalso;omega;all_goals (first|((first|rfl|(simp[xau];done));done)|(first|rfl|(show some (Res.tok _ _)=some (Res.tok _ _);simp[Pat.cs_len];omega)))
  ·have hts:=zrt 400 (p.kids.map zaZ);have htm:=fun(i:Nat) (hi:i<(tupQ 400 (p.kids.map zaZ)).length)=>zru 400 (zae hi);have ht3:=zl5 (ls:=p.kids.map zaZ) (by rw[xac];omega) (fun l hl=>by obtain⟨x,_,rfl⟩:=List.mem_map.1 hl;have:=zjq x;omega);have hcal:=fun(i:Nat) (hi:i<p.kids.length)=>FnD.gvD (zei n (zd8 h hi) (Pats.ok_mem hok'.2 _ (zae hi)));have hpl:=fun(y:Pat) (pre rest:List Pat) (e:pre++y::rest=p.kids)=>(show pre.length<p.kids.length/\nth p.kids pre.length=y from⟨by have:=congrArg List.length e;simp at this;omega,zx5 e⟩);have hcal2:=fun(y:Pat) (pre rest:List Pat) (e:pre++y::rest=p.kids)=>show FnD Tryz.prog 197 [.agg [.d (.i y.op),.d (.i y.ctor),.d (.i y.n),.d (.i y.m),.d (.i y.var),.d (zad y.kids)]] [] (.d (.sl (Pat.cs (zaZ y)))) [] from by
    have hq:=hcal pre.length (hpl y pre rest e).1;rw[(hpl y pre rest e).2] at hq;exact hq
   have ht3':=fun(pre:List Pat) (e:pre++[]=p.kids)=>show FnD Tryz.prog 280 [.d (zi7 (pre.map zaZ))] [] (.d (zi7 (tupQ 400 (p.kids.map zaZ)))) [] from by
    rw[List.append_nil] at e;rw[e];exact ht3
   rw[zvS h5];refine bd Tryz.f197 67 [] [] fun w0 F0 own kept hk=>?_;refine bx 3001 ?_;refine ev ?_;refine sq ?_ ?_<;>intro h1 h1p h1s<;>(try simp only[Q,Pat.cs_len] at h1p);exfalso;omega;refine xbi 4 zeg .none rfl rfl ?_;refine ev ?_;refine xak (ι:=List (Pat)×List (Pat)) hk (fun x=>[(5,.d (.i (x.1.length:Int))),(4,.gl 4 ((x.1.map zaZ).map zhU))]) [31,32,33,34,35,36,37,38,39,40,41,42,43,44,45,46] (fun x=>[(4,some (.tok (((x.1.map zaZ).map zhU)).length 1))]) (fun x=>x.1++x.2=p.kids) (fun x=>x.2.length) ([],p.kids) (by simp) ⟨⟨_,rfl,xaq ?_⟩,⟨⟨_,rfl,LeA.glg ?_⟩,trivial⟩⟩ ⟨zab ?_,trivial⟩ (fun x=>rfl) (fun x hg1=>?_);iterate 3 focus ((simp;done))
   obtain⟨pre,rest⟩:=x;dsimp only at hg1 ⊢;refine evc [] [] ?_;refine sq ?_ ?_<;>intro h2 h2p h2s<;>(try simp only[Q,Pat.cs_len] at h2p);rcases rest with _|⟨y,rest⟩
   ·exfalso;simp_all
   refine xaU sl34 .none rfl rfl rfl rfl (Pat.cs_at' hg1) rfl ?_;refine ev ?_;refine wc ziu (hcal2 y pre rest hg1) rfl rfl ?_;refine si [0] [_] zeg tz34 ?_;refine ap zeg zz34 rfl rfl rfl (by intro x hx;first|(simp at hx;subst hx;rfl)|exact zhk _ x hx) (by first|(have:=congrArg List.length hg1;simp at this;simp;omega)|(simp;omega)) ?_;refine ev ?_;refine ar ?_;refine xah ((pre++[y],rest)) ⟨(by have hz:=hg1;rw[<-hz];simp),(by simp),sx ⟨⟨_,rfl,xaq ?_⟩,⟨⟨_,rfl,LeA.glg ?_⟩,trivial⟩⟩ ⟨zab ?_,trivial⟩⟩;iterate 3 focus ((simp;done))
   have hrest:rest=[]:=by
    rcases rest with _|⟨a,b⟩
    ·rfl
    ·exfalso;have hz:=congrArg List.length (hg1);simp only[xaa,xab,xac] at hz;omega
   subst hrest;refine Walk.call (cr:=[]) zxy (ht3' pre hg1) rfl .none rfl rfl (.cons (.gl _ _) .nil) trivial rfl rfl rfl ?_;refine ev ?_;refine xbj 9 sl34 .none rfl rfl ?_;refine ev ?_;refine xak (ι:=Nat) hk (fun k=>[(8,.d (.i (k:Int))),(7,.gv 9 ((((tupQ 400 (p.kids.map zaZ)).take k).map fun l=>Pat.mk p.op p.ctor p.n p.m p.var l).map Pat.cc))]) [9,50,51,52,53,54,55,56,57,58,59,60,61,62,63,64,65] (fun k=>[(9,some (.tok (((((tupQ 400 (p.kids.map zaZ)).take k).map fun l=>Pat.mk p.op p.ctor p.n p.m p.var l).map Pat.cc)).length 6))]) (fun k=>k<=(tupQ 400 (p.kids.map zaZ)).length) (fun k=>(tupQ 400 (p.kids.map zaZ)).length-k) 0 (by omega) ⟨⟨_,rfl,xaq ?_⟩,⟨⟨_,rfl,LeA.gvg ?_⟩,trivial⟩⟩ ⟨zab ?_,trivial⟩ (fun x=>rfl) (fun k hg2=>?_);iterate 3 focus ((simp;done))
   refine evc [] [] ?_;refine sq ?_ ?_<;>intro h3 h3p h3s<;>(try simp only[Q,Pat.cs_len] at h3p);refine ab 3009 tz36 ?_;refine so ty36 ?_;refine tv ?_;refine xaU zeg .none rfl rfl rfl rfl (zas (by omega)) rfl ?_;refine ev ?_;refine so ty34 ?_;refine tv ?_;refine si [0] [_] sl34 tz36 ?_;refine xaB sl34 zz36 .none rfl rfl rfl rfl (zfu rfl (by first|rfl|(simp;done))) (by intro x hx;first|(simp at hx;subst hx;rfl)|exact zhk _ x hx) (by first|(have:=congrArg List.length hg1;simp at this;simp;omega)|(simp;omega)) (by first|(have:=congrArg List.length hg1;simp at this;simp;omega)|(simp;omega)) ?_;refine ev ?_;refine ar ?_;refine xah (k+1) ⟨(by omega),(by omega),sx ⟨⟨_,rfl,xaq ?_⟩,⟨⟨_,rfl,LeA.gvg ?_⟩,trivial⟩⟩ ⟨zab ?_,trivial⟩⟩;iterate 3 focus (first|(simp;done)|(rw[List.take_succ_eq_append_getElem (by omega),<-zaO (by omega)];simp[zce,zfd,mk_n,mk_m,zhB,zaX];done))
   refine rn [(9,some (.tok (Pat.cs ((tupQ 400 (p.kids.map zaZ)).map fun l=>Pat.mk p.op p.ctor p.n p.m p.var l)).length 6))] (r1 rfl) (.gvg ?_) ⟨rfl,rfl⟩ (SubH.get ⟨?_,trivial⟩) (zaA rfl);rotate_left 2;all_goals (first|((first|rfl|(obtain rfl:k=(tupQ 400 (p.kids.map zaZ)).length:=(by omega);rw[List.take_length,show Pat.cs ((tupQ 400 (p.kids.map zaZ)).map fun l=>Pat.mk p.op p.ctor p.n p.m p.var l)=((tupQ 400 (p.kids.map zaZ)).map fun l=>Pat.mk p.op p.ctor p.n p.m p.var l).map Pat.cc from xau _];done));done)|(first|rfl|(obtain rfl:k=(tupQ 400 (p.kids.map zaZ)).length:=(by omega);rw[List.take_length];simp[xau];rfl)|(obtain rfl:k=(tupQ 400 (p.kids.map zaZ)).length:=(by omega);rw[List.take_length,show Pat.cs ((tupQ 400 (p.kids.map zaZ)).map fun l=>Pat.mk p.op p.ctor p.n p.m p.var l)=((tupQ 400 (p.kids.map zaZ)).map fun l=>Pat.mk p.op p.ctor p.n p.m p.var l).map Pat.cc from xau _];rfl)))
theorem zib {w:List Data}{n:Nat}{t:Ty}{p:Pat} (h:zao w n t p=true) (hok:p.ok):FnD Tryz.prog 128 [.agg [.d (.i p.op),.d (.i p.ctor),.d (.i p.n),.d (.i p.m),.d (.i p.var),.d (zad p.kids)]] [] (.d (zad (zaZ (zat p)))) []:=by
 have hbp:=zbY _ (Nat.le_refl _) hok;have hsp:=FnD.gvD (zei n (zgy n h) (zhe p hok));generalize zat p=b at *;refine bd Tryz.f128 6 [] [] fun w0 F0 own kept hk=>?_;refine bx 3001 ?_;refine ev ?_;refine wc zkR (hbp) rfl rfl ?_;refine wc ziu (hsp) rfl rfl ?_;refine ev ?_;refine rq ?_;rotate_left;all_goals (rfl)
theorem zhJ {a b:Pat} (hn:0<=b.n/\b.n<=9) (hm:0<=b.m/\b.m<=9):FnD Tryz.prog 302 [.agg [.d (.i (a).op),.d (.i (a).ctor),.d (.i (a).n),.d (.i (a).m),.d (.i (a).var),.d (zad (a).kids)],.agg [.d (.i (b).op),.d (.i (b).ctor),.d (.i (b).n),.d (.i (b).m),.d (.i (b).var),.d (zad (b).kids)]] [] (.d (zad (zbN a.n (minQ a.m (b.n-1))++zbN (maxQ a.n (b.m+1)) a.m))) []:=by
 refine bd Tryz.f302 58 [] [] fun w0 F0 own kept hk=>?_;refine bx 3002 ?_;refine bx 3003 ?_;refine ev ?_;refine xbi 9 sl34 .none rfl rfl ?_;refine ev ?_;refine bu [0,2,3] [_,_,_] st36 ?_;refine ab 3006 tz36 ?_;refine so ty36 ?_;refine tv ?_;refine ar ?_;refine sq ?_ ?_<;>intro h1 h1p h1s<;>(try simp only[Q] at h1p);refine ar ?_;refine so ty3 ?_;refine tv ?_;refine sq ?_ ?_<;>intro h2 h2p h2s<;>(try simp only[Q] at h2p);refine si [0] [_] sl34 tz36 ?_;refine ap sl34 zz36 rfl rfl rfl (by intro x hx;simp at hx;subst hx;rfl) (by simp) ?_;refine ev ?_;refine bu [0,2,3] [_,_,_] st36 ?_;refine ab 3007 tz36 ?_;refine so ty36 ?_;refine tv ?_;refine ar ?_;refine sq ?_ ?_<;>intro h3 h3p h3s<;>(try simp only[Q] at h3p);refine ar ?_;refine so ty3 ?_;refine tv ?_;refine sq ?_ ?_<;>intro h4 h4p h4s<;>(try simp only[Q] at h4p);refine si [0] [_] sl34 tz36 ?_;refine ap sl34 zz36 rfl rfl rfl (by intro x hx;simp at hx;subst hx;rfl) (by simp) ?_;refine ev ?_;refine rn0 (r1 rfl) (.gld ?_);rotate_left;refine rn0 (r1 rfl) (.gld ?_);rotate_left;refine sq ?_ ?_<;>intro h5 h5p h5s<;>(try simp only[Q] at h5p);refine si [0] [_] sl34 tz36 ?_;refine ap sl34 zz36 rfl rfl rfl (by intro x hx;simp at hx;subst hx;rfl) (by simp) ?_;refine ev ?_;refine rn0 (r1 rfl) (.gld ?_);rotate_left;refine rn0 (r1 rfl) (.gld ?_);rotate_left;refine bu [0,2,3] [_,_,_] st36 ?_;refine ab 3007 tz36 ?_;refine so ty36 ?_;refine tv ?_;refine ar ?_;refine sq ?_ ?_<;>intro h6 h6p h6s<;>(try simp only[Q] at h6p);refine ar ?_;refine so ty3 ?_;refine tv ?_;refine sq ?_ ?_<;>intro h7 h7p h7s<;>(try simp only[Q] at h7p);refine si [0] [_] sl34 tz36 ?_;refine ap sl34 zz36 rfl rfl rfl (by intro x hx;simp at hx;subst hx;rfl) (by simp) ?_;refine ev ?_;refine rn0 (r1 rfl) (.gld ?_);rotate_left;refine rn0 (r1 rfl) (.gld ?_);rotate_left;refine sq ?_ ?_<;>intro h8 h8p h8s<;>(try simp only[Q] at h8p);refine si [0] [_] sl34 tz36 ?_;refine ap sl34 zz36 rfl rfl rfl (by intro x hx;simp at hx;subst hx;rfl) (by simp) ?_;refine ev ?_;refine rn0 (r1 rfl) (.gld ?_);rotate_left;refine rn0 (r1 rfl) (.gld ?_);rotate_left;refine sq ?_ ?_<;>intro h9 h9p h9s<;>(try simp only[Q] at h9p);refine si [0] [_] sl34 tz36 ?_;refine ap sl34 zz36 rfl rfl rfl (by intro x hx;simp at hx;subst hx;rfl) (by simp) ?_;refine ev ?_;refine bu [0,2,3] [_,_,_] st36 ?_;refine ab 3007 tz36 ?_;refine so ty36 ?_;refine tv ?_;refine ar ?_;refine sq ?_ ?_<;>intro h10 h10p h10s<;>(try simp only[Q] at h10p);refine ar ?_;refine so ty3 ?_;refine tv ?_;refine sq ?_ ?_<;>intro h11 h11p h11s<;>(try simp only[Q] at h11p);refine si [0] [_] sl34 tz36 ?_;refine ap sl34 zz36 rfl rfl rfl (by intro x hx;simp at hx;subst hx;rfl) (by simp) ?_;refine ev ?_;refine rn0 (r1 rfl) (.gld ?_);rotate_left;refine rn0 (r1 rfl) (.gld ?_);rotate_left;refine sq ?_ ?_<;>intro h12 h12p h12s<;>(try simp only[Q] at h12p);refine si [0] [_] sl34 tz36 ?_;refine ap sl34 zz36 rfl rfl rfl (by intro x hx;simp at hx;subst hx;rfl) (by simp) ?_;refine ev ?_;refine rn0 (r1 rfl) (.gld ?_);rotate_left;refine rn0 (r1 rfl) (.gld ?_);rotate_left;refine bu [0,2,3] [_,_,_] st36 ?_;refine ab 3007 tz36 ?_;refine so ty36 ?_;refine tv ?_;refine ar ?_;refine sq ?_ ?_<;>intro h13 h13p h13s<;>(try simp only[Q] at h13p);refine ar ?_;refine so ty3 ?_;refine tv ?_;refine sq ?_ ?_<;>intro h14 h14p h14s<;>(try simp only[Q] at h14p);refine si [0] [_] sl34 tz36 ?_;refine ap sl34 zz36 rfl rfl rfl (by intro x hx;simp at hx;subst hx;rfl) (by simp) ?_;refine ev ?_;refine rn0 (r1 rfl) (.gld ?_);rotate_left;refine rn0 (r1 rfl) (.gld ?_);rotate_left;refine sq ?_ ?_<;>intro h15 h15p h15s<;>(try simp only[Q] at h15p);refine si [0] [_] sl34 tz36 ?_;refine ap sl34 zz36 rfl rfl rfl (by intro x hx;simp at hx;subst hx;rfl) (by simp) ?_;refine ev ?_;refine rn0 (r1 rfl) (.gld ?_);rotate_left;refine rn0 (r1 rfl) (.gld ?_);rotate_left;all_goals (unfold minQ maxQ zbN;(repeat' split)<;>first|rfl|(exfalso;omega))
theorem zpB {w:List Data} (hw:WT w){a k c:Int} (ht:TyIn w.length ⟨a,k⟩) (hc:c∈zai w ⟨a,k⟩) (hl:(zaa w ⟨a,k⟩ c).length<=3):FnD Tryz.prog 304 [.d (zam w),.agg [.d (.i a),.d (.i k)],.d (.i c)] []
  (.agg [.d (.i 4),.d (.i c),.d (.i 0),.d (.i 0),.d (.i 0),.d (zad (zbG w ⟨a,k⟩ c).kids)]) []:=by
 refine bd Tryz.f304 29 [] [] fun w0 F0 own kept hk=>?_;refine bx 3004 ?_;refine ab 3006 tz36 ?_;refine tv ?_;refine bu [0,1] [_,_] st36 ?_;refine ab 3007 tz36 ?_;refine so ty36 ?_;refine tv ?_;refine wc zgp (zck hw ht hc) rfl rfl ?_;refine ev ?_;refine xan 3007 5 9 6 rfl rfl rfl rfl ?_;refine xak (ι:=List (Ty)×List (Ty)) hk (fun x=>[(9,.d (.i (x.1.length:Int)))]) [16,17,18,19,20,21,22,23,24,25,26,27] (fun x=>[(3007,some (.box [.d (.i 4),.d (.i c),.d (.i 0),.d (.i 0),.d (.i 0),.gl 9 ((x.1.map fun _=>anyQ).map Pat.cc)])),(9,some (.tok ((x.1.map fun _=>anyQ).map Pat.cc).length 6))]) (fun x=>x.1++x.2=zaa w ⟨a,k⟩ c) (fun x=>x.2.length) ([],zaa w ⟨a,k⟩ c) (by simp) ⟨⟨_,rfl,xaq ?_⟩,trivial⟩ ⟨?_,⟨zab ?_,trivial⟩⟩ (fun x=>rfl) (fun x hg1=>?_);focus (rfl)
 focus (rfl)
 focus (rfl)
 obtain⟨pre,rest⟩:=x;dsimp only at hg1 ⊢;refine evc [] [] ?_;refine sq ?_ ?_<;>intro h1 h1p h1s<;>(try simp only[Q] at h1p);rcases rest with _|⟨y,rest⟩
 ·exfalso;simp_all
 refine wc zw6 (zpz) rfl rfl ?_;refine si [0] [_] sl34 tz36 ?_;refine ap sl34 zz36 rfl rfl rfl (by intro x hx;(simp at hx;subst hx;rfl)) (by have:=congrArg List.length hg1;simp at this;simp;omega) ?_;refine evd [] [] ?_;refine so ty34 ?_;refine dr ?_;refine ar ?_;refine xah ((pre++[y],rest)) ⟨(by have hz:=hg1;rw[<-hz];simp),(by simp),sx ⟨⟨_,rfl,xaq ?_⟩,trivial⟩ ⟨?_,⟨zab ?_,trivial⟩⟩⟩;focus ((simp;done))
 focus ((simp[getH];exact⟨rfl,rfl,rfl,rfl,rfl,rfl⟩))
 focus ((simp;done))
 have hrest:rest=[]:=by
  rcases rest with _|⟨a,b⟩
  ·rfl
  ·exfalso;have hz:=congrArg List.length (hg1);simp only[xaa,xab,xac] at hz;omega
 subst hrest;refine so ty36 ?_;refine tv ?_;refine rn0 (.cons (.cellA ty36 rfl rfl rfl) .nil) (.agg (.cons (.eqd ?_) (.cons (.eqd ?_) (.cons (.eqd ?_) (.cons (.eqd ?_) (.cons (.eqd ?_) (.cons (.gld ?_) .nil)))))));rotate_left 6;all_goals (first|rfl|(rw[List.append_nil] at hg1;subst hg1;rw[<-xau];all_goals rfl))
def zdU (n:Nat) (a b:Pat):Pat:=if a.op=3/\b.op≠1 then intQ (maxQ a.n b.n) (minQ a.m b.m) else zcJ n a b
theorem zn3 {n:Nat}{a b:Pat} (h:¬(a.op=3/\b.op≠1)):zdU n a b=zcJ n a b:=if_neg h
theorem zqI {n:Nat}{a b:Pat} (h:(zaI n a b).isSome=true):zdU n a b=zcJ n a b:=by
 unfold zdU;split
 ·rename_i h3;cases n with
  |zero=>simp[zaI] at h
  |succ n=>
   have e:=ziF (n:=n) h3.1 h3.2;rw[e] at h;split at h
   ·rename_i hr;rw[if_pos hr] at e;exact(zcu e).symm
   ·cases h
 ·rfl
theorem ziT {w:List Data} (hs:Spa w):∀(n m:Nat){t:Ty}{a b:Pat},m<=n->InS (w.length*4) t->zah w m t a=true->zah w m t b=true->
  FnD Tryz.prog 276 [.agg [.d (.i (a).op),.d (.i (a).ctor),.d (.i (a).n),.d (.i (a).m),.d (.i (a).var),.d (zad (a).kids)],.agg [.d (.i (b).op),.d (.i (b).ctor),.d (.i (b).n),.d (.i (b).m),.d (.i (b).var),.d (zad (b).kids)]] [] (.tup [.agg [.d (.i (zdU n a b).op),.d (.i (zdU n a b).ctor),.d (.i (zdU n a b).n),.d (.i (zdU n a b).m),.d (.i (zdU n a b).var),.d (zad (zdU n a b).kids)],.d (.bool (zaI n a b).isSome)]) []
 |n,0,t,a,b,_,_,ha,_=>by simp[zah] at ha
 |0,m+1,t,a,b,h,_,_,_=>by omega
 |n+1,m+1,t,a,b,hnm,ht,ha,hb=>by
  by_cases h1:a.op=1
  ·have e:=zhy (n:=n) (b:=b) h1;rw[zn3 (fun h=>by omega),zcu e,e];refine bd Tryz.f276 89 [] [] fun w0 F0 own kept hk=>?_;refine bx 3002 ?_;refine bx 3003 ?_;refine ab 3004 tz36 ?_;refine ev ?_;refine sq ?_ ?_<;>intro h1 h1p h1s<;>(try simp only[Q] at h1p);refine so ty36 ?_;refine ev ?_;refine rn0 (.cons (.cellA ty36 rfl rfl rfl) (.cons (.tmp rfl) .nil)) (.tup (.cons (.agg (.cons (.eqd ?_) (.cons (.eqd ?_) (.cons (.eqd ?_) (.cons (.eqd ?_) (.cons (.eqd ?_) (.cons (.eqd ?_) .nil))))))) (.cons (.eqd ?_) .nil)));rotate_left 7;exfalso;omega;all_goals (rfl)
  by_cases h2:b.op=1
  ·have e:=ziE (n:=n) h1 h2;rw[zn3 (fun h=>h.2 h2),zcu e,e];refine bd Tryz.f276 89 [] [] fun w0 F0 own kept hk=>?_;refine bx 3002 ?_;refine bx 3003 ?_;refine ab 3004 tz36 ?_;refine ev ?_;refine sq ?_ ?_<;>intro h1 h1p h1s<;>(try simp only[Q] at h1p);exfalso;omega;refine sq ?_ ?_<;>intro h2 h2p h2s<;>(try simp only[Q] at h2p);refine so ty36 ?_;refine ev ?_;refine rn0 (.cons (.cellA ty36 rfl rfl rfl) (.cons (.tmp rfl) .nil)) (.tup (.cons (.agg (.cons (.eqd ?_) (.cons (.eqd ?_) (.cons (.eqd ?_) (.cons (.eqd ?_) (.cons (.eqd ?_) (.cons (.eqd ?_) .nil))))))) (.cons (.eqd ?_) .nil)));rotate_left 7;exfalso;omega;all_goals (rfl)
  by_cases h3:a.op=3
  ·have e:=ziF (n:=n) h3 h2;have ez:zdU (n+1) a b=intQ (maxQ a.n b.n) (minQ a.m b.m):=if_pos ⟨h3,h2⟩;have eb:(zaI (n+1) a b).isSome=decide (maxQ a.n b.n<=minQ a.m b.m):=by
    rw[e];by_cases hr:maxQ a.n b.n<=minQ a.m b.m
    ·rw[if_pos hr,decide_eq_true hr];rfl
    ·rw[if_neg hr,decide_eq_false hr];rfl
   rw[ez,eb];refine bd Tryz.f276 89 [] [] fun w0 F0 own kept hk=>?_;refine bx 3002 ?_;refine bx 3003 ?_;refine ab 3004 tz36 ?_;refine ev ?_;refine sq ?_ ?_<;>intro h1 h1p h1s<;>(try simp only[Q] at h1p);exfalso;omega;refine sq ?_ ?_<;>intro h2 h2p h2s<;>(try simp only[Q] at h2p);exfalso;omega;refine sq ?_ ?_<;>intro h3 h3p h3s<;>(try simp only[Q] at h3p);refine sq ?_ ?_<;>intro h4 h4p h4s<;>(try simp only[Q] at h4p);refine sq ?_ ?_<;>intro h5 h5p h5s<;>(try simp only[Q] at h5p);refine bu [0,2,3] [_,_,_] st36 ?_;refine ev ?_;refine so ty36 ?_;refine ev ?_;refine rn0 (.cons (.cellA ty36 rfl rfl rfl) (.cons (.tmp rfl) .nil)) (.tup (.cons (.agg (.cons (.eqd ?_) (.cons (.eqd ?_) (.cons (.eqd ?_) (.cons (.eqd ?_) (.cons (.eqd ?_) (.cons (.nild ?_) .nil))))))) (.cons (.eqd ?_) .nil)));rotate_left 7;refine bu [0,2,3] [_,_,_] st36 ?_;refine ev ?_;refine so ty36 ?_;refine ev ?_;refine rn0 (.cons (.cellA ty36 rfl rfl rfl) (.cons (.tmp rfl) .nil)) (.tup (.cons (.agg (.cons (.eqd ?_) (.cons (.eqd ?_) (.cons (.eqd ?_) (.cons (.eqd ?_) (.cons (.eqd ?_) (.cons (.nild ?_) .nil))))))) (.cons (.eqd ?_) .nil)));rotate_left 7;refine sq ?_ ?_<;>intro h6 h6p h6s<;>(try simp only[Q] at h6p);refine bu [0,2,3] [_,_,_] st36 ?_;refine ev ?_;refine so ty36 ?_;refine ev ?_;refine rn0 (.cons (.cellA ty36 rfl rfl rfl) (.cons (.tmp rfl) .nil)) (.tup (.cons (.agg (.cons (.eqd ?_) (.cons (.eqd ?_) (.cons (.eqd ?_) (.cons (.eqd ?_) (.cons (.eqd ?_) (.cons (.nild ?_) .nil))))))) (.cons (.eqd ?_) .nil)));rotate_left 7;refine bu [0,2,3] [_,_,_] st36 ?_;refine ev ?_;refine so ty36 ?_;refine ev ?_;refine rn0 (.cons (.cellA ty36 rfl rfl rfl) (.cons (.tmp rfl) .nil)) (.tup (.cons (.agg (.cons (.eqd ?_) (.cons (.eqd ?_) (.cons (.eqd ?_) (.cons (.eqd ?_) (.cons (.eqd ?_) (.cons (.nild ?_) .nil))))))) (.cons (.eqd ?_) .nil)));rotate_left 7;exfalso;omega;all_goals (first|rfl|((try simp only[zce,zfd,mk_n,mk_m,zhB,zaX]);simp only[minQ,maxQ];(repeat' split)<;>first|rfl|(exfalso;omega)))
  have oa:=zbl ha;have h4:a.op=4:=by omega
  have h4b:b.op=4:=by have:=zde ha hb h1 h2;omega
  have ez:zdU (n+1) a b=zcJ (n+1) a b:=zn3 (fun h=>h3 h.1);by_cases hc:a.ctor=b.ctor
  ·obtain⟨c1,c2,c3,-⟩:=zaE ha h4;obtain⟨d1,d2,d3,-⟩:=zaE hb h4b;rw[<-hc] at d3;have h3l:=hs.args t a.ctor ht c1;have ka:=fun i (hi:i<a.kids.length)=>zaR ha hi;have kb:=fun i (hi:i<b.kids.length)=>zaR hb hi;rw[zaU h4] at ka;rw[zaU h4b,<-hc] at kb;have e:=zhz (n:=n) h4 h2 hc;have hlen:a.kids.length=b.kids.length:=by omega
   have ih:=fun i (hi:i<a.kids.length)=>ziT hs n m (t:=nth (zaa w t a.ctor) i) (a:=nth a.kids i) (b:=nth b.kids i) (by omega) (za7 hs.dp ht c1 _ (zae (by omega))) (ka i (by omega)) (kb i (by omega));have key:∀(i:Nat) (acc:List Pat),i<a.kids.length->(zaI n (nth a.kids i) (nth b.kids i)).isSome=true->zbH (zaI n) (a.kids.drop i) (b.kids.drop i) acc=zbH (zaI n) (a.kids.drop (i+1)) (b.kids.drop (i+1)) (acc++[zdU n (nth a.kids i) (nth b.kids i)]):=fun i acc hi h=>by
    rw[zqI h];exact zmW hi (by omega) (zn4 h)
   rw[ez];refine bd Tryz.f276 89 [] [] fun w0 F0 own kept hk=>?_;refine bx 3002 ?_;refine bx 3003 ?_;refine ab 3004 tz36 ?_;refine ev ?_;refine sq ?_ ?_<;>intro h1 h1p h1s<;>(try simp only[Q,Pat.cs_len] at h1p);exfalso;omega;refine sq ?_ ?_<;>intro h2 h2p h2s<;>(try simp only[Q,Pat.cs_len] at h2p);exfalso;omega;refine sq ?_ ?_<;>intro h3 h3p h3s<;>(try simp only[Q,Pat.cs_len] at h3p);exfalso;omega;refine sq ?_ ?_<;>intro h4 h4p h4s<;>(try simp only[Q,Pat.cs_len] at h4p);exfalso;omega;refine bu [0,1] [_,_] st36 ?_;refine ab 3008 tz36 ?_;refine so ty36 ?_;refine tv ?_;refine xan 3008 5 9 6 rfl rfl rfl rfl ?_;refine xak (ι:=Nat×List Pat) hk (fun x=>[(9,.d (.i (x.1:Int)))]) [5,10,11,58,59,60,61,62,63,64,65,66,67,68,69,70,71,72,73,74,75,76,77,78,79,80,81,82,83,84,85,86,87] (fun x=>[(3008,some (.box [.d (.i 4),.d (.i a.ctor),.d (.i 0),.d (.i 0),.d (.i 0),.gl 9 (x.2.map Pat.cc)])),(9,some (.tok (x.2.map Pat.cc).length 6))]) (fun x=>x.1<=a.kids.length/\x.2.length=x.1/\zbH (zaI n) (a.kids.drop x.1) (b.kids.drop x.1) x.2=zbH (zaI n) a.kids b.kids []) (fun x=>a.kids.length-x.1) (0,[]) ⟨by simp,rfl,rfl⟩ ⟨⟨_,rfl,xaq ?_⟩,trivial⟩ ⟨?_,⟨zab ?_,trivial⟩⟩ (fun x=>rfl) (fun x hg1=>?_);focus (rfl)
   focus (first|rfl|(simp[getH];done))
   focus (rfl)
   refine evc [] [] ?_;refine sq ?_ ?_<;>intro h5 h5p h5s<;>(try simp only[Q,Pat.cs_len] at h5p);refine xaU sl34 .none rfl rfl rfl rfl (zay (by omega)) rfl ?_;refine evd [] [] ?_;refine xaU sl34 .none rfl rfl rfl rfl (zay (by omega)) rfl ?_;refine evd [] [] ?_;refine wc ztT (ih x.1 (by omega)) rfl rfl ?_;refine evd [] [] ?_;refine ab 3010 tz36 ?_;refine so ty36 ?_;refine evd [] [] ?_;refine dr ?_;refine sq ?_ ?_<;>intro h6 h6p h6s<;>(try simp only[Q,Pat.cs_len] at h6p);refine bu [] [] st36 ?_;refine so ty36 ?_;refine ev ?_;refine rn0 (.cons (.cellA ty36 rfl rfl rfl) (.cons (.tmp rfl) .nil)) (.tup (.cons (.agg (.cons (.eqd ?_) (.cons (.eqd ?_) (.cons (.eqd ?_) (.cons (.eqd ?_) (.cons (.eqd ?_) (.cons (.nild ?_) .nil))))))) (.cons (.eqd ?_) .nil)));rotate_left 7;refine si [0] [_] sl34 tz36 ?_;refine ap sl34 zz36 rfl rfl rfl (by intro x hx;(simp at hx;subst hx;rfl)) (by simp;omega) ?_;refine ev ?_;refine so ty34 ?_;refine tv ?_;refine ar ?_;refine xah ((x.1+1,x.2++[zdU n (nth a.kids x.1) (nth b.kids x.1)])) ⟨⟨by dsimp only;omega,by dsimp only;rw[xaa,hg1.2.1];rfl,by dsimp only;rw[<-key x.1 x.2 (by omega) (by assumption)];exact hg1.2.2⟩,(by dsimp only;omega),sx ⟨⟨_,rfl,xaq ?_⟩,trivial⟩ ⟨?_,⟨zab ?_,trivial⟩⟩⟩;focus (rfl)
   focus (first|rfl|(simp[getH];done))
   focus ((simp;done))
   refine so ty36 ?_;refine ev ?_;refine rn0 (.cons (.cellA ty36 rfl rfl rfl) (.cons (.tmp rfl) .nil)) (.tup (.cons (.agg (.cons (.eqd ?_) (.cons (.eqd ?_) (.cons (.eqd ?_) (.cons (.eqd ?_) (.cons (.eqd ?_) (.cons (.gld ?_) .nil))))))) (.cons (.eqd ?_) .nil)));rotate_left 7;all_goals (first|(have e2:zaI (n+1) a b=none:=(by rw[e,<-hg1.2.2,zmV (by omega) (by omega) (zn5 (by assumption))];rfl);(first|rw[zfA e2]|rw[e2]);all_goals rfl)|(have e2:zaI (n+1) a b=some (za8 a.ctor x.2):=(by rw[e,<-hg1.2.2,zfb (by omega)];rfl);rw[zcu e2,xau];all_goals rfl)|(have e2:zaI (n+1) a b=some (za8 a.ctor x.2):=(by rw[e,<-hg1.2.2,zfb (by omega)];rfl);rw[zcu e2];all_goals rfl)|(have e2:zaI (n+1) a b=some (za8 a.ctor x.2):=(by rw[e,<-hg1.2.2,zfb (by omega)];rfl);rw[e2];all_goals rfl))
  ·skip
   have e:=zhh (n:=n) h4 h2 hc;rw[ez,zfA e,e];refine bd Tryz.f276 89 [] [] fun w0 F0 own kept hk=>?_;refine bx 3002 ?_;refine bx 3003 ?_;refine ab 3004 tz36 ?_;refine ev ?_;refine sq ?_ ?_<;>intro h1 h1p h1s<;>(try simp only[Q] at h1p);exfalso;omega;refine sq ?_ ?_<;>intro h2 h2p h2s<;>(try simp only[Q] at h2p);exfalso;omega;refine sq ?_ ?_<;>intro h3 h3p h3s<;>(try simp only[Q] at h3p);exfalso;omega;refine sq ?_ ?_<;>intro h4 h4p h4s<;>(try simp only[Q] at h4p);refine bu [] [] st36 ?_;refine so ty36 ?_;refine ev ?_;refine rn0 (.cons (.cellA ty36 rfl rfl rfl) (.cons (.tmp rfl) .nil)) (.tup (.cons (.agg (.cons (.eqd ?_) (.cons (.eqd ?_) (.cons (.eqd ?_) (.cons (.eqd ?_) (.cons (.eqd ?_) (.cons (.nild ?_) .nil))))))) (.cons (.eqd ?_) .nil)));rotate_left 7;exfalso;omega;all_goals (rfl)
theorem zqQ {f:Ty->Pat->Pat->List Pat}{c:Int}{ts:List Ty}{xs bs front:List Pat}{i:Nat} (h1:i<ts.length) (h2:i<xs.length) (h3:i<bs.length) (h:(zaI 11 (nth xs i) (nth bs i)).isSome=true):
  zaP f c (ts.drop i) (xs.drop i) (bs.drop i) front=(f (nth ts i) (nth xs i) (nth bs i)).map (fun z=>za8 c (front++[z]++xs.drop (i+1)))++zaP f c (ts.drop (i+1)) (xs.drop (i+1)) (bs.drop (i+1)) (front++[zdU 11 (nth xs i) (nth bs i)]):=by
 rw[zqI h];exact zlt h1 h2 h3 h
theorem zvd (c:Int) (L:List Pat):Pat.cc (za8 c L)=[D.i 4,D.i c,D.i 0,D.i 0,D.i 0,D.sl (L.map Pat.cc)]:=by
 show [D.i 4,D.i c,D.i 0,D.i 0,D.i 0,D.sl (Pat.cs L)]=_
 rw[xau]
section
variable {w:List Data}
abbrev MinusSp (w:List Data) (n:Nat) (ta tk:Int) (a b:Pat):Prop:=
 FnD Tryz.prog 232 [.d (zam w),.agg [.d (.i ta),.d (.i tk)],.agg [.d (.i (a).op),.d (.i (a).ctor),.d (.i (a).n),.d (.i (a).m),.d (.i (a).var),.d (zad (a).kids)],.agg [.d (.i (b).op),.d (.i (b).ctor),.d (.i (b).n),.d (.i (b).m),.d (.i (b).var),.d (zad (b).kids)]] [] (.d (zad (zap w n ⟨ta,tk⟩ a b))) []
theorem zol (hs:Spa w){n m:Nat} (hn:n+1<=10) (hm:m+1<=11) (hnm:n<m)
  (ih:∀ {ta tk:Int}{a b:Pat},InS (w.length*4) ⟨ta,tk⟩->zah w m ⟨ta,tk⟩ a=true->zah w n ⟨ta,tk⟩ b=true->MinusSp w n ta tk a b)
  {ta tk:Int}{a b:Pat} (ht:InS (w.length*4) ⟨ta,tk⟩) (ha:zah w (m+1) ⟨ta,tk⟩ a=true) (hb:zah w (n+1) ⟨ta,tk⟩ b=true) (h4:a.op=4) (h4b:b.op=4) (hc:a.ctor=b.ctor):
  FnD Tryz.prog 303 [.d (zam w),.agg [.d (.i ta),.d (.i tk)],.agg [.d (.i (a).op),.d (.i (a).ctor),.d (.i (a).n),.d (.i (a).m),.d (.i (a).var),.d (zad (a).kids)],.agg [.d (.i (b).op),.d (.i (b).ctor),.d (.i (b).n),.d (.i (b).m),.d (.i (b).var),.d (zad (b).kids)]] [] (.d (zad (zap w (n+1) ⟨ta,tk⟩ a b))) []:=by
 obtain⟨c1,c2,c3,-⟩:=zaE ha h4;obtain⟨d1,d2,d3,-⟩:=zaE hb h4b;rw[<-hc] at d3;have h3l:=hs.args ⟨ta,tk⟩ a.ctor ht c1;have ka:=fun i (hi:i<a.kids.length)=>zaR ha hi;have kb:=fun i (hi:i<b.kids.length)=>zaR hb hi;rw[zaU h4] at ka;rw[zaU h4b,<-hc] at kb;have hbd:=zf3 hs (n:=n+1) (m:=m+1) (by omega) hn ht ha hb;have e:zap w (n+1) ⟨ta,tk⟩ a b=zaP (zap w n) a.ctor (zaa w ⟨ta,tk⟩ a.ctor) a.kids b.kids []:=by rw[zcV h4b h4];exact if_pos hc
 have hins:=fun i (hi:i<(zaa w ⟨ta,tk⟩ a.ctor).length)=>za7 hs.dp ht c1 _ (zae hi);have hmi:∀i,i<(zaa w ⟨ta,tk⟩ a.ctor).length->FnD Tryz.prog 232 [.d (zam w),.agg [.d (.i (nth (zaa w ⟨ta,tk⟩ a.ctor) i).data),.d (.i (nth (zaa w ⟨ta,tk⟩ a.ctor) i).index)],.agg [.d (.i (nth a.kids i).op),.d (.i (nth a.kids i).ctor),.d (.i (nth a.kids i).n),.d (.i (nth a.kids i).m),.d (.i (nth a.kids i).var),.d (zad (nth a.kids i).kids)],.agg [.d (.i (nth b.kids i).op),.d (.i (nth b.kids i).ctor),.d (.i (nth b.kids i).n),.d (.i (nth b.kids i).m),.d (.i (nth b.kids i).var),.d (zad (nth b.kids i).kids)]] [] (.d (zad (zap w n (nth (zaa w ⟨ta,tk⟩ a.ctor) i) (nth a.kids i) (nth b.kids i)))) []:=fun i hi=>ih (ta:=(nth (zaa w ⟨ta,tk⟩ a.ctor) i).data) (tk:=(nth (zaa w ⟨ta,tk⟩ a.ctor) i).index) (hins i hi) (ka i (by omega)) (kb i (by omega));have hme:=fun i (hi:i<(zaa w ⟨ta,tk⟩ a.ctor).length)=>ziT hs 11 m (t:=nth (zaa w ⟨ta,tk⟩ a.ctor) i) (by omega) (hins i hi) (ka i (by omega)) (zdd (by omega) (kb i (by omega)));rw[e] at hbd ⊢;have hT:∀i out front,i<(zaa w ⟨ta,tk⟩ a.ctor).length->out++zaP (zap w n) a.ctor ((zaa w ⟨ta,tk⟩ a.ctor).drop i) (a.kids.drop i) (b.kids.drop i) front=zaP (zap w n) a.ctor (zaa w ⟨ta,tk⟩ a.ctor) a.kids b.kids []->
   out.length+(zap w n (nth (zaa w ⟨ta,tk⟩ a.ctor) i) (nth a.kids i) (nth b.kids i)).length<=20000000:=fun i out front hi h=>by
  rw[zh1 hi (by omega) (by omega)] at h;have:=congrArg List.length h;simp only[xaa,xac] at this;omega
 refine bd Tryz.f303 100 [] [] fun w0 F0 own kept hk=>?_;refine bx 3005 ?_;refine bx 3006 ?_;refine bx 3007 ?_;refine ev ?_;refine xbi 9 sl34 .none rfl rfl ?_;refine ev ?_;refine wc zgp (zck hs.dp.wt (zbD ht) c1) rfl rfl ?_;refine ev ?_;refine xbi 8 sl34 .none rfl rfl ?_;refine ev ?_;refine xak (ι:=Nat×List Pat×List Pat) hk (fun s=>[(12,.d (.i (s.1:Int))),(9,.gl 9 (s.2.1.map Pat.cc)),(11,.gl 8 (s.2.2.map Pat.cc))]) [8,13,14,15,16,17,25,26,27,28,29,30,31,32,33,34,35,36,37,38,39,40,41,42,43,44,45,46,47,48,49,50,51,52,53,54,55,56,57,58,59,60,61,62,63,64,65,66,67,68,69,70,71,72,73,74,75,76,77,78,79,80,81,82,83,84,85,86,87,88,89,90,91,92,93,94,95,96,97,98] (fun s=>[(9,some (.tok ((s.2.1.map Pat.cc)).length 6)),(8,some (.tok ((s.2.2.map Pat.cc)).length 6))]) (fun s=>s.1<=a.kids.length/\s.2.2.length=s.1/\s.2.1++zaP (zap w n) a.ctor ((zaa w ⟨ta,tk⟩ a.ctor).drop s.1) (a.kids.drop s.1) (b.kids.drop s.1) s.2.2=zaP (zap w n) a.ctor (zaa w ⟨ta,tk⟩ a.ctor) a.kids b.kids []) (fun s=>a.kids.length-s.1) (0,[],[]) ⟨by simp,rfl,rfl⟩ ⟨⟨_,rfl,xaq ?_⟩,⟨⟨_,rfl,LeA.glg ?_⟩,⟨⟨_,rfl,LeA.glg ?_⟩,trivial⟩⟩⟩ ⟨zab ?_,⟨zab ?_,trivial⟩⟩ (fun x=>rfl) (fun s hg1=>?_);iterate 5 focus (rfl)
 refine evc [] [] ?_;refine sq ?_ ?_<;>intro h1 h1p h1s<;>(try simp only[Q,Pat.cs_len] at h1p);refine xaU zaV .none rfl rfl rfl rfl (zas (by omega)) rfl ?_;refine evd [] [] ?_;refine xaU sl34 .none rfl rfl rfl rfl (zay (by omega)) rfl ?_;refine evd [] [] ?_;refine xaU sl34 .none rfl rfl rfl rfl (zay (by omega)) rfl ?_;refine evd [] [] ?_;refine wc zp3 (hmi s.1 (by omega)) rfl rfl ?_;refine evd [] [] ?_;refine dr ?_;refine xak (ι:=List (Pat)×List (Pat)) hk (fun x=>[(14,.d (.i (x.1.length:Int))),(9,.gl 9 ((s.2.1++x.1.map (fun z=>za8 a.ctor (s.2.2++[z]++a.kids.drop (s.1+1)))).map Pat.cc))]) [15,47,48,49,50,51,52,53,54,55,56,57,58,59,60,61,62,63,64,65,66,67,68,69,70,71,72,73,74,75,76,77] (fun x=>[(9,some (.tok (((s.2.1++x.1.map (fun z=>za8 a.ctor (s.2.2++[z]++a.kids.drop (s.1+1)))).map Pat.cc)).length 6))]) (fun x=>x.1++x.2=(zap w n (nth (zaa w ⟨ta,tk⟩ a.ctor) s.1) (nth a.kids s.1) (nth b.kids s.1))) (fun x=>x.2.length) ([],(zap w n (nth (zaa w ⟨ta,tk⟩ a.ctor) s.1) (nth a.kids s.1) (nth b.kids s.1))) (by simp) ⟨⟨_,rfl,xaq ?_⟩,⟨⟨_,rfl,LeA.glg ?_⟩,trivial⟩⟩ ⟨zab ?_,trivial⟩ (fun x=>rfl) (fun x hg2=>?_);iterate 3 focus ((simp;done))
 obtain⟨pre,rest⟩:=x;dsimp only at hg2 ⊢;refine evc [] [] ?_;refine sq ?_ ?_<;>intro h2 h2p h2s<;>(try simp only[Q,Pat.cs_len] at h2p);rcases rest with _|⟨y,rest⟩
 ·exfalso;simp_all
 refine xbi 7 sl34 .none rfl rfl ?_;refine evd [] [] ?_;refine ap sl34 zz36 rfl rfl rfl (by intro x hx;exact zhk _ x hx) (by(simp[Pat.cs_len];omega)) ?_;refine evd [] [] ?_;refine xaU sl34 .none rfl rfl rfl rfl (Pat.cs_at' hg2) rfl ?_;refine evd [] [] ?_;refine si [0] [_] sl34 tz36 ?_;refine ap sl34 zz36 rfl rfl rfl (by intro x hx;(simp at hx;subst hx;rfl)) (by(have h9:=hT s.1 s.2.1 s.2.2 (by omega) hg1.2.2;have h8:=congrArg List.length hg2;simp[Pat.cs_len] at h8 ⊢;omega)) ?_;refine bu [0,1,5] [_,_,_] st36 ?_;refine ab 3015 tz36 ?_;refine so ty36 ?_;refine dr ?_;refine ar ?_ (by(constructor<;>omega));refine xaP (b:=s.1+1) sl34 .none rfl rfl rfl (by intro x hx;exact zbM _ x hx) rfl rfl (by simp only[Pat.cs_len];omega) ?_;refine ap sl34 zz36 rfl rfl rfl (by intro x hx;exact zbM _ x (List.mem_of_mem_drop hx)) (by(have h9:=hT s.1 s.2.1 s.2.2 (by omega) hg1.2.2;have h8:=congrArg List.length hg2;simp[Pat.cs_len] at h8 ⊢;omega)) ?_;refine evd [] [] ?_;refine so ty34 ?_;refine dr ?_;refine si [0] [_] sl34 tz36 ?_;refine ap sl34 zz36 rfl rfl rfl (by intro x hx;(simp at hx;subst hx;rfl)) (by(have h9:=hT s.1 s.2.1 s.2.2 (by omega) hg1.2.2;have h8:=congrArg List.length hg2;simp[Pat.cs_len] at h8 ⊢;omega)) ?_;refine ev ?_;refine ar ?_ (by(have h9:=hT s.1 s.2.1 s.2.2 (by omega) hg1.2.2;have h8:=congrArg List.length hg2;simp only[xaa,xab] at h8;constructor<;>omega));refine xah ((pre++[y],rest)) ⟨(by have hz:=hg2;rw[<-hz];simp),(by simp),sx ⟨⟨_,rfl,xaq ?_⟩,⟨⟨_,rfl,LeA.glg ?_⟩,trivial⟩⟩ ⟨zab ?_,trivial⟩⟩;iterate 3 focus (first|(simp;done)|(simp only[xaf,List.append_assoc,xae,List.map_nil,zvd,xau a.kids,List.map_drop,List.nil_append,xag];done)|(simp;omega))
 have hrest:rest=[]:=by
  rcases rest with _|⟨a,b⟩
  ·rfl
  ·exfalso;have hz:=congrArg List.length (hg2);simp only[xaa,xab,xac] at hz;omega
 subst hrest;refine xaU sl34 .none rfl rfl rfl rfl (zay (by omega)) rfl ?_;refine evd [] [] ?_;refine xaU sl34 .none rfl rfl rfl rfl (zay (by omega)) rfl ?_;refine evd [] [] ?_;refine wc ztT (hme s.1 (by omega)) rfl rfl ?_;refine evd [] [] ?_;refine ab 3016 tz36 ?_;refine so ty36 ?_;refine evd [] [] ?_;refine dr ?_;refine sq ?_ ?_<;>intro h3 h3p h3s;refine rn0 (r1 rfl) (.gld ?_);rotate_left;try simp only[Q,Pat.cs_len] at h3p
 refine si [0] [_] sl34 tz36 ?_;refine ap sl34 zz36 rfl rfl rfl (by intro x hx;(simp at hx;subst hx;rfl)) (by(have h9:=hT s.1 s.2.1 s.2.2 (by omega) hg1.2.2;have h8:=congrArg List.length hg2;simp[Pat.cs_len] at h8 ⊢;omega)) ?_;refine ev ?_;refine ar ?_ (by(constructor<;>omega));refine xah ((s.1+1,s.2.1++(zap w n (nth (zaa w ⟨ta,tk⟩ a.ctor) s.1) (nth a.kids s.1) (nth b.kids s.1)).map (fun z=>za8 a.ctor (s.2.2++[z]++a.kids.drop (s.1+1))),s.2.2++[zdU 11 (nth a.kids s.1) (nth b.kids s.1)])) ⟨⟨by dsimp only;omega,by dsimp only;rw[xaa,hg1.2.1];rfl,by dsimp only;rw[List.append_assoc,<-zqQ (by omega) (by omega) (by omega) (by assumption)];exact hg1.2.2⟩,(by dsimp only;omega),sx ⟨⟨_,rfl,xaq ?_⟩,⟨⟨_,rfl,LeA.glg ?_⟩,⟨⟨_,rfl,LeA.glg ?_⟩,trivial⟩⟩⟩ ⟨zab ?_,⟨zab ?_,trivial⟩⟩⟩;iterate 5 focus ((simp_all;done))
 refine rn0 (r1 rfl) (.gld ?_);rotate_left;all_goals (first|(rw[<-hg1.2.2,zm0 (by omega),List.append_nil,xau];done)|(rw[List.append_nil] at hg2;rw[<-hg1.2.2,zlr (by omega) (by omega) (by omega) (by assumption),<-hg2,xau];all_goals rfl))
theorem zrh {n:Nat}{ta tk:Int}{a b:Pat} (h:b.op=1):MinusSp w (n+1) ta tk a b:=by
 unfold MinusSp;rw[zfc h];refine bd Tryz.f232 82 [] [] fun w0 F0 own kept hk=>?_;refine bx 3005 ?_;refine bx 3006 ?_;refine bx 3007 ?_;refine ev ?_;refine sq ?_ ?_<;>intro h1 h1p h1s;refine xbh sl34 .none rfl ?_;refine ev ?_;refine rq ?_;rotate_left;try simp only[Q] at h1p
 exfalso;omega;all_goals (rfl)
theorem zri {n:Nat}{ta tk:Int}{a b:Pat} (h:b.op=3) (ha:a.op=1\/a.op=3) (hbn:0<=b.n/\b.n<=9) (hbm:0<=b.m/\b.m<=9):MinusSp w (n+1) ta tk a b:=by
 unfold MinusSp;rw[zhi h];by_cases h1:a.op=1
 ·have e:zd5 a b=zbN 0 (minQ 9 (b.n-1))++zbN (maxQ 0 (b.m+1)) 9:=by
   have e1:lowQ a=0:=if_pos h1;have e2:zcl a=9:=if_pos h1;unfold zd5;rw[e1,e2]
  have hr:=zhJ (a:=intQ 0 9) hbn hbm;rw[e];refine bd Tryz.f232 82 [] [] fun w0 F0 own kept hk=>?_;refine bx 3005 ?_;refine bx 3006 ?_;refine bx 3007 ?_;refine ev ?_;refine sq ?_ ?_<;>intro h1 h1p h1s;try simp only[Q] at h1p
  exfalso;omega;refine sq ?_ ?_<;>intro h2 h2p h2s;refine sq ?_ ?_<;>intro h3 h3p h3s;refine bu [0,3] [_,_] st36 ?_;refine ev ?_;refine Walk.call (cr:=[]) ztX (hr) rfl .none rfl rfl (.cons (.agg (.cons (.refl _) (.cons (.refl _) (.cons (.refl _) (.cons (.refl _) (.cons (.refl _) (.cons .nil .nil))))))) (.cons (.refl _) .nil)) trivial rfl rfl rfl ?_;refine ev ?_;focus (refine rq ?_;all_goals (rfl))
  focus (exfalso;first|omega|(simp_all;done))
  try simp only[Q] at h2p
  exfalso;omega
 ·have e:zd5 a b=zbN a.n (minQ a.m (b.n-1))++zbN (maxQ a.n (b.m+1)) a.m:=by
   have e1:lowQ a=a.n:=if_neg h1;have e2:zcl a=a.m:=if_neg h1;unfold zd5;rw[e1,e2]
  have hr:=zhJ (a:=a) hbn hbm;rw[e];refine bd Tryz.f232 82 [] [] fun w0 F0 own kept hk=>?_;refine bx 3005 ?_;refine bx 3006 ?_;refine bx 3007 ?_;refine ev ?_;refine sq ?_ ?_<;>intro h1 h1p h1s;try simp only[Q] at h1p
  exfalso;omega;refine sq ?_ ?_<;>intro h2 h2p h2s;refine sq ?_ ?_<;>intro h3 h3p h3s;focus (exfalso;first|omega|(simp_all;done))
  refine sq ?_ ?_<;>intro h4 h4p h4s;refine wc ztX (hr) rfl rfl ?_;refine ev ?_;focus (refine rq ?_;all_goals (rfl))
  try simp only[Q] at h4p
  exfalso;omega;try simp only[Q] at h2p
  exfalso;omega
theorem zrl {n:Nat}{ta tk:Int}{a b:Pat} (h4:a.op=4) (h4b:b.op=4) (hc:¬a.ctor=b.ctor):MinusSp w (n+1) ta tk a b:=by
 unfold MinusSp;have e:zap w (n+1) ⟨ta,tk⟩ a b=[a]:=by rw[zcV h4b h4];exact if_neg hc
 rw[e];refine bd Tryz.f232 82 [] [] fun w0 F0 own kept hk=>?_;refine bx 3005 ?_;refine bx 3006 ?_;refine bx 3007 ?_;refine ev ?_;refine sq ?_ ?_<;>intro h1 h1p h1s;try simp only[Q] at h1p
 exfalso;omega;refine sq ?_ ?_<;>intro h2 h2p h2s;try simp only[Q] at h2p
 exfalso;omega;refine sqF ?_;refine sq ?_ ?_<;>intro h4 h4p h4s;try simp only[Q] at h4p
 exfalso;omega;refine sq ?_ ?_<;>intro h5 h5p h5s;refine sq ?_ ?_<;>intro h6 h6p h6s;refine si [0] [_] sl34 tz36 ?_;refine ev ?_;refine rq ?_;rotate_left;focus (exfalso;first|omega|(simp_all;done))
 try simp only[Q] at h5p
 exfalso;omega;all_goals (first|rfl|(cases a;rfl))
theorem zrk (hs:Spa w){n m:Nat} (hn:n+1<=10) (hm:m+1<=11) (hnm:n<m)
  (ih:∀ {ta tk:Int}{a b:Pat},InS (w.length*4) ⟨ta,tk⟩->zah w m ⟨ta,tk⟩ a=true->zah w n ⟨ta,tk⟩ b=true->MinusSp w n ta tk a b)
  {ta tk:Int}{a b:Pat} (ht:InS (w.length*4) ⟨ta,tk⟩) (ha:zah w (m+1) ⟨ta,tk⟩ a=true) (hb:zah w (n+1) ⟨ta,tk⟩ b=true) (h4:a.op=4) (h4b:b.op=4) (hc:a.ctor=b.ctor):MinusSp w (n+1) ta tk a b:=by
 have hki:=zol hs hn hm hnm ih ht ha hb h4 h4b hc;clear ih;unfold MinusSp;refine bd Tryz.f232 82 [] [] fun w0 F0 own kept hk=>?_;refine bx 3005 ?_;refine bx 3006 ?_;refine bx 3007 ?_;refine ev ?_;refine sq ?_ ?_<;>intro h1 h1p h1s;try simp only[Q] at h1p
 exfalso;omega;refine sq ?_ ?_<;>intro h2 h2p h2s;try simp only[Q] at h2p
 exfalso;omega;refine sqF ?_;refine sq ?_ ?_<;>intro h4 h4p h4s;try simp only[Q] at h4p
 exfalso;omega;refine sq ?_ ?_<;>intro h5 h5p h5s;refine sq ?_ ?_<;>intro h6 h6p h6s;focus (exfalso;first|omega|(simp_all;done))
 refine sq ?_ ?_<;>intro h7 h7p h7s;refine wc zxD (hki) rfl rfl ?_;refine ev ?_;focus (refine rq ?_;all_goals (rfl))
 try simp only[Q] at h7p
 exfalso;omega;try simp only[Q] at h5p
 exfalso;omega
theorem zrj (hs:Spa w){n:Nat}{ta tk:Int}{a b:Pat} (ht:InS (w.length*4) ⟨ta,tk⟩) (h1:a.op=1) (h4b:b.op=4) (hbd:(zap w (n+1) ⟨ta,tk⟩ a b).length<=20000000)
  (hC:∀c∈zai w ⟨ta,tk⟩,MinusSp w (n+1) ta tk (zbG w ⟨ta,tk⟩ c) b):MinusSp w (n+1) ta tk a b:=by
 have e:zap w (n+1) ⟨ta,tk⟩ a b=(zai w ⟨ta,tk⟩).flatMap fun c=>zap w (n+1) ⟨ta,tk⟩ (zbG w ⟨ta,tk⟩ c) b:=by
  rw[zf2 h4b h1];exact congrArg (fun g=>(zai w ⟨ta,tk⟩).flatMap g) (funext fun c=>(zcV h4b rfl).symm)
 unfold MinusSp;rw[e] at hbd ⊢;have hcl:=(hs.ctors _ ht).1;have hpre:∀ {pre rest:List Int}{y:Int},pre++y::rest=zai w ⟨ta,tk⟩->(pre.flatMap fun c=>zap w (n+1) ⟨ta,tk⟩ (zbG w ⟨ta,tk⟩ c) b).length+(zap w (n+1) ⟨ta,tk⟩ (zbG w ⟨ta,tk⟩ y) b).length<=20000000:=fun h=>by
  rw[<-h,List.flatMap_append,List.flatMap_cons] at hbd;simp only[xaa] at hbd;omega
 have hmem:∀ {pre rest:List Int}{y:Int},pre++y::rest=zai w ⟨ta,tk⟩->y∈zai w ⟨ta,tk⟩:=fun h=>by rw[<-h];simp
 refine bd Tryz.f232 82 [] [] fun w0 F0 own kept hk=>?_;refine bx 3005 ?_;refine bx 3006 ?_;refine bx 3007 ?_;refine ev ?_;refine sq ?_ ?_<;>intro h1 h1p h1s;try simp only[Q,Pat.cs_len] at h1p
 exfalso;omega;refine sq ?_ ?_<;>intro h2 h2p h2s;try simp only[Q,Pat.cs_len] at h2p
 exfalso;omega;refine sqF ?_;refine sq ?_ ?_<;>intro h4 h4p h4s;try simp only[Q,Pat.cs_len] at h4p
 exfalso;omega;refine sq ?_ ?_<;>intro h5 h5p h5s;try simp only[Q,Pat.cs_len] at h5p
 exfalso;omega;refine sqF ?_;refine sq ?_ ?_<;>intro h7 h7p h7s;try simp only[Q,Pat.cs_len] at h7p
 exfalso;omega;refine xbi 9 sl34 .none rfl rfl ?_;refine ev ?_;refine wc zgn (zb9 hs.dp.wt (zbD ht)) rfl rfl ?_;refine ev ?_;refine xak (ι:=List (Int)×List (Int)) hk (fun x=>[(11,.d (.i (x.1.length:Int))),(9,.gl 9 (Pat.cs (x.1.flatMap fun c=>zap w (n+1) ⟨ta,tk⟩ (zbG w ⟨ta,tk⟩ c) b)))]) [62,63,64,65,66,67,68,69,70,71,72,73,74,75,76,77,78,79,80] (fun x=>[(9,some (.tok ((Pat.cs (x.1.flatMap fun c=>zap w (n+1) ⟨ta,tk⟩ (zbG w ⟨ta,tk⟩ c) b))).length 6))]) (fun x=>x.1++x.2=zai w ⟨ta,tk⟩) (fun x=>x.2.length) ([],zai w ⟨ta,tk⟩) (by simp) ⟨⟨_,rfl,xaq ?_⟩,⟨⟨_,rfl,LeA.glg ?_⟩,trivial⟩⟩ ⟨zab ?_,trivial⟩ (fun x=>rfl) (fun x hg1=>?_);iterate 3 focus (rfl)
 obtain⟨pre,rest⟩:=x;dsimp only at hg1 ⊢;refine evc [] [] ?_;refine sq ?_ ?_<;>intro h8 h8p h8s<;>(try simp only[Q,Pat.cs_len] at h8p);rcases rest with _|⟨y,rest⟩
 ·exfalso;simp_all
 refine xaU sl29 .none rfl rfl rfl rfl (zaL hg1) rfl ?_;refine evd [] [] ?_;refine wc zxE (zpB hs.dp.wt (zbD ht) (hmem hg1) (hs.args _ _ ht (hmem hg1))) rfl rfl ?_;refine evd [] [] ?_;refine wc zp3 (hC y (hmem hg1)) rfl rfl ?_;refine ap sl34 zz36 rfl rfl rfl (by exact zbM _) (by have h9:=hpre hg1;simp only[Pat.cs_len];omega) ?_;refine evd [] [] ?_;refine dr ?_;refine ar ?_;refine xah ((pre++[y],rest)) ⟨(by have hz:=hg1;rw[<-hz];simp),(by simp),sx ⟨⟨_,rfl,xaq ?_⟩,⟨⟨_,rfl,LeA.glg ?_⟩,trivial⟩⟩ ⟨zab ?_,trivial⟩⟩;iterate 3 focus (first|(rw[List.flatMap_append,xau,xau,xau,xaf];simp;done)|(simp[Pat.cs_len];done))
 have hrest:rest=[]:=by
  rcases rest with _|⟨a,b⟩
  ·rfl
  ·exfalso;have hz:=congrArg List.length (hg1);simp only[xaa,xab,xac] at hz;omega
 subst hrest;refine rn0 (r1 rfl) (.gld ?_);rotate_left;all_goals ((rw[List.append_nil] at hg1;rw[hg1];done))
theorem zia (hs:Spa w):∀(n m:Nat){ta tk:Int}{a b:Pat},n<m->n<=10->m<=11->InS (w.length*4) ⟨ta,tk⟩->zah w m ⟨ta,tk⟩ a=true->zah w n ⟨ta,tk⟩ b=true->MinusSp w n ta tk a b
 |0,m,ta,tk,a,b,_,_,_,_,_,hb=>by simp[zah] at hb
 |n+1,0,ta,tk,a,b,h,_,_,_,_,_=>by omega
 |n+1,m+1,ta,tk,a,b,h,hn,hm,ht,ha,hb=>by
  have hC:∀ {a:Pat},zah w (m+1) ⟨ta,tk⟩ a=true->a.op=4->b.op=4->MinusSp w (n+1) ta tk a b:=fun {a} ha h4 h4b=>by
   by_cases hc:a.ctor=b.ctor
   ·exact zrk hs hn hm (by omega) (fun h1 h2 h3=>zia hs n m (by omega) (by omega) (by omega) h1 h2 h3) ht ha hb h4 h4b hc
   ·exact zrl h4 h4b hc
  rcases zbl hb with h1|h3|h4b
  ·exact zrh h1
  ·have:=zby hb h3;refine zri h3 ?_ ⟨by omega,by omega⟩ ⟨by omega,by omega⟩;by_cases h1:a.op=1
   ·exact .inl h1
   ·exact .inr (by have:=zde ha hb h1 (by omega);omega)
  ·by_cases h1:a.op=1
   ·obtain⟨m',rfl⟩:∃m',m=m'+1:=⟨m-1,by omega⟩;exact zrj hs ht h1 h4b (zf3 hs h hn ht ha hb) (fun c hc=>hC (zcx hc) rfl h4b)
   ·exact hC ha (by have:=zde ha hb h1 (by omega);omega) h4b
end
def zmQ (w:List Data) (t:Ty) (b a:Pat):List Pat:=(zap w 10 t a b).filter (zbi w t)
def zgi (w:List Data) (t:Ty) (l:List Pat) (b:Pat) (k:Nat):List Pat:=(l.take k).flatMap (zmQ w t b)
theorem zm4 {w:List Data}{t:Ty}{l:List Pat}{b:Pat}:zbS w t l b=l.flatMap (zmQ w t b):=by
 unfold zbS;induction l with
 |nil=>rfl
 |cons x r ih=>rw[List.flatMap_cons,List.filter_append,List.flatMap_cons,ih];rfl
theorem zfe {w:List Data}{t:Ty}{l:List Pat}{b:Pat}{k:Nat} (h:l.length<=k):zgi w t l b k=zbS w t l b:=by
 rw[zm4,zgi,List.take_of_length_le h]
theorem zm5 {w:List Data}{t:Ty}{l:List Pat}{b:Pat}{k:Nat} (h:k<l.length):zgi w t l b (k+1)=zgi w t l b k++zmQ w t b (nth l k):=by
 unfold zgi;have e:l[k]?=some (nth l k):=by simpa using zas (f:=id) h
 rw[List.take_add_one,e,List.flatMap_append];simp
theorem zvy {w:List Data}{t:Ty}{l:List Pat}{b:Pat} (k:Nat):(zgi w t l b k).length<=(zbS w t l b).length:=by
 rw[zm4,zgi];conv=>rhs;rw[<-List.take_append_drop k l,List.flatMap_append]
 rw[xaa];omega
theorem zh9 {w:List Data} (hs:Spa w):∀(n:Nat){ta tk:Int}{p:Pat},InS (w.length*4) ⟨ta,tk⟩->zah w n ⟨ta,tk⟩ p=true->
  FnD Tryz.prog 301 [.d (zam w),.d (zeO (w.length*4) (zaf w)),.agg [.d (.i ta),.d (.i tk)],.agg [.d (.i (p).op),.d (.i (p).ctor),.d (.i (p).n),.d (.i (p).m),.d (.i (p).var),.d (zad (p).kids)]] [] (.d (.bool (!zaB w (zaf w) n ⟨ta,tk⟩ p))) []
 |0,ta,tk,p,_,h=>by simp[zah] at h
 |n+1,ta,tk,p,ht,h=>by
  have hdp:=zeh (f:=zaf w) ht (by have:=hs.dp.four;omega);by_cases h1:p.op=1
  ·rw[ze4 h1];refine bd Tryz.f301 45 [] [] fun w0 F0 own kept hk=>?_;refine bx 3006 ?_;refine bx 3007 ?_;refine ev ?_;refine sq ?_ ?_<;>intro h1 h1p h1s;refine wc zjX (hdp) rfl rfl ?_;refine ev ?_;refine rq ?_;rotate_left;try simp only[Q] at h1p
   exfalso;omega;all_goals (refine congrArg D.bool ?_;rw[Bool.eq_iff_iff];simp;omega)
  by_cases h3:p.op=3
  ·rw[zkU h h3];refine bd Tryz.f301 45 [] [] fun w0 F0 own kept hk=>?_;refine bx 3006 ?_;refine bx 3007 ?_;refine ev ?_;refine sq ?_ ?_<;>intro h1 h1p h1s;try simp only[Q] at h1p
   exfalso;omega;refine sq ?_ ?_<;>intro h2 h2p h2s;refine rq ?_;rotate_left;try simp only[Q] at h2p
   exfalso;omega;all_goals (rfl)
  have h4:p.op=4:=by have:=zbl h;omega
  obtain⟨c1,c2,c3,-⟩:=zaE h h4;have h3l:=hs.args ⟨ta,tk⟩ p.ctor ht c1;have hk:=fun i (hi:i<p.kids.length)=>zaR h hi;rw[zaU h4] at hk;rw[ziy h4,Bool.not_not];have ih:=fun i (hi:i<p.kids.length)=>zh9 hs n (ta:=(nth (zaa w ⟨ta,tk⟩ p.ctor) i).data) (tk:=(nth (zaa w ⟨ta,tk⟩ p.ctor) i).index) (p:=nth p.kids i) (za7 hs.dp ht c1 _ (zae (by omega))) (hk i hi);refine bd Tryz.f301 45 [] [] fun w0 F0 own kept hk=>?_;refine bx 3006 ?_;refine bx 3007 ?_;refine ev ?_;refine sq ?_ ?_<;>intro h1 h1p h1s;try simp only[Q,Pat.cs_len] at h1p
  exfalso;omega;refine sq ?_ ?_<;>intro h2 h2p h2s;try simp only[Q,Pat.cs_len] at h2p
  exfalso;omega;refine wc zgp (zck hs.dp.wt (zbD ht) c1) rfl rfl ?_;refine ev ?_;refine xak (ι:=Nat) hk (fun i=>[(10,.d (.i (i:Int)))]) [8,26,27,28,29,30,31,32,33,34,35,36,37,38,39,40,41,42,43,44] (fun i=>[]) (fun i=>i<=(zaa w ⟨ta,tk⟩ p.ctor).length/\∀i',i'<i->(!zaB w (zaf w) n (nth (zaa w ⟨ta,tk⟩ p.ctor) i') (nth p.kids i'))=true) (fun i=>(zaa w ⟨ta,tk⟩ p.ctor).length-i) 0 ⟨by omega,fun _ h=>absurd h (by omega)⟩ ⟨⟨_,rfl,xaq ?_⟩,trivial⟩ trivial (fun x=>rfl) (fun i hg1=>?_);focus (rfl)
  refine evc [] [] ?_;refine sq ?_ ?_<;>intro h3 h3p h3s<;>(try simp only[Q,Pat.cs_len] at h3p);refine xaU zaV .none rfl rfl rfl rfl (zas (by omega)) rfl ?_;refine evd [] [] ?_;refine xaU sl34 .none rfl rfl rfl rfl (zay (by omega)) rfl ?_;refine evd [] [] ?_;refine wc ztW (ih i (by omega)) rfl rfl ?_;refine evd [] [] ?_;refine dr ?_;refine sq ?_ ?_<;>intro h4 h4p h4s;refine rq ?_;rotate_left;try simp only[Q,Pat.cs_len] at h4p
  refine ar ?_;refine xah (i+1) ⟨⟨by omega,za6 hg1.2 (by(simp;assumption))⟩,(by omega),sx ⟨⟨_,rfl,xaq ?_⟩,trivial⟩ trivial⟩;focus (rfl)
  refine rq ?_;rotate_left;all_goals (refine congrArg D.bool ?_;first|(rw[zbQ (i:=i) (by omega) (by omega) (by first|assumption|(simp;assumption)|(simp_all;done))];done)|(rw[zbz (by omega) (fun x hx=>hg1.2 x (by omega))];done))
theorem ziS {w:List Data} (hs:Spa w){ta tk:Int} (ht:InS (w.length*4) ⟨ta,tk⟩){l:List Pat} (hl:∀a∈l,zah w 11 ⟨ta,tk⟩ a=true) (hb:l.length<=20000000):
  FnD Tryz.prog 231 [.d (zam w),.d (zeO (w.length*4) (zaf w)),.agg [.d (.i ta),.d (.i tk)],.d (zad l)] [] (.d (zad (l.filter (zbi w ⟨ta,tk⟩)))) []:=by
 have hal:∀a∈l,FnD Tryz.prog 301 [.d (zam w),.d (zeO (w.length*4) (zaf w)),.agg [.d (.i ta),.d (.i tk)],.agg [.d (.i (a).op),.d (.i (a).ctor),.d (.i (a).n),.d (.i (a).m),.d (.i (a).var),.d (zad (a).kids)]] [] (.d (.bool (zbi w ⟨ta,tk⟩ a))) []:=fun a ha=>zh9 hs 11 ht (hl a ha);have hle:∀ {pre rest:List Pat}{y:Pat},pre++y::rest=l->(pre.filter (zbi w ⟨ta,tk⟩)).length+1<=l.length:=fun {pre rest y} h=>by
  have h1:=List.length_filter_le (zbi w ⟨ta,tk⟩) pre;have h2:=congrArg List.length h;simp only[xaa,xab] at h2;omega
 refine bd Tryz.f231 34 [] [] fun w0 F0 own kept hk=>?_;refine bx 3006 ?_;refine ev ?_;refine xbi 9 sl34 .none rfl rfl ?_;refine ev ?_;refine xak (ι:=List (Pat)×List (Pat)) hk (fun x=>[(10,.d (.i (x.1.length:Int))),(9,.gl 9 (Pat.cs (x.1.filter (zbi w ⟨ta,tk⟩))))]) [12,13,14,15,16,17,18,19,20,21,22,23,24,25,26,27,28,29,30,31,32] (fun x=>[(9,some (.tok ((Pat.cs (x.1.filter (zbi w ⟨ta,tk⟩)))).length 6))]) (fun x=>x.1++x.2=l) (fun x=>x.2.length) ([],l) (by simp) ⟨⟨_,rfl,xaq ?_⟩,⟨⟨_,rfl,LeA.glg ?_⟩,trivial⟩⟩ ⟨zab ?_,trivial⟩ (fun x=>rfl) (fun x hg1=>?_);iterate 3 focus (rfl)
 obtain⟨pre,rest⟩:=x;dsimp only at hg1 ⊢;refine evc [] [] ?_;refine sq ?_ ?_<;>intro h1 h1p h1s<;>(try simp only[Q,Pat.cs_len] at h1p);rcases rest with _|⟨y,rest⟩
 ·exfalso;simp_all
 refine xaU sl34 .none rfl rfl rfl rfl (Pat.cs_at' hg1) rfl ?_;refine evd [] [] ?_;refine wc ztW (hal y (by rw[<-hg1];simp)) rfl rfl ?_;refine dr ?_;refine sq ?_ ?_<;>intro h2 h2p h2s<;>(try simp only[Q,Pat.cs_len] at h2p);refine xaU sl34 .none rfl rfl rfl rfl (Pat.cs_at' hg1) rfl ?_;refine ev ?_;refine si [0] [_] sl34 tz36 ?_;refine ap sl34 zz36 rfl rfl rfl (by intro x hx;simp at hx;subst hx;rfl) (by have h9:=hle hg1;simp[Pat.cs_len];omega) ?_;refine ev ?_;refine ar ?_;refine xah ((pre++[y],rest)) ⟨(by have hz:=hg1;rw[<-hz];simp),(by simp),sx ⟨⟨_,rfl,xaq ?_⟩,⟨⟨_,rfl,LeA.glg ?_⟩,trivial⟩⟩ ⟨zab ?_,trivial⟩⟩;iterate 3 focus (first|(dsimp only;rw[List.filter_append,List.filter_cons_of_pos (by assumption),List.filter_nil,xau (List.filter _ _),xau (_++_),xaf];rfl)|(dsimp only;rw[List.filter_append,List.filter_cons_of_pos (by assumption),List.filter_nil];simp[Pat.cs_len];done)|(simp;done))
 refine ar ?_;refine xah ((pre++[y],rest)) ⟨(by have hz:=hg1;rw[<-hz];simp),(by simp),sx ⟨⟨_,rfl,xaq ?_⟩,⟨⟨_,rfl,LeA.glg ?_⟩,trivial⟩⟩ ⟨zab ?_,trivial⟩⟩;iterate 3 focus (first|(dsimp only;rw[List.filter_append,List.filter_cons_of_neg (by simp_all),List.filter_nil,List.append_nil];done)|(simp;done))
 have hrest:rest=[]:=by
  rcases rest with _|⟨a,b⟩
  ·rfl
  ·exfalso;have hz:=congrArg List.length (hg1);simp only[xaa,xab,xac] at hz;omega
 subst hrest;refine rn0 (r1 rfl) (.gld ?_);rotate_left;all_goals ((rw[List.append_nil] at hg1;rw[hg1];done))
theorem zgA {w:List Data} (hs:Spa w){ta tk:Int} (ht:InS (w.length*4) ⟨ta,tk⟩){l away:List Pat} (hl:∀a∈l,zah w 11 ⟨ta,tk⟩ a=true) (hb:∀b∈away,zah w 10 ⟨ta,tk⟩ b=true) (hll:l.length<=400) (hal:away.length<=2000):
  FnD Tryz.prog 136 [.d (zam w),.d (zeO (w.length*4) (zaf w)),.agg [.d (.i ta),.d (.i tk)],.d (zad l),.d (zad away)] [] (.tup [.d (zad ((zaK w ⟨ta,tk⟩ l away).getD [])),.d (.bool (zaK w ⟨ta,tk⟩ l away).isSome)]) []:=by
 have hke:=zuV hs ht hl hb;have hmi:∀(c:List Pat) (i k:Nat),(∀a∈c,zah w 11 ⟨ta,tk⟩ a=true)->i<away.length->k<c.length->(zap w 10 ⟨ta,tk⟩ (nth c k) (nth away i)).length<=20000000:=fun c i k hc hi hk=>zf3 hs (by omega) (by omega) ht (hc _ (zae hk)) (hb _ (zae hi));have hkb:∀(c:List Pat) (i k:Nat),(∀a∈c,zah w 11 ⟨ta,tk⟩ a=true)->i<away.length->k<c.length->(zmQ w ⟨ta,tk⟩ (nth away i) (nth c k)).length<=20000000:=fun c i k hc hi hk=>Nat.le_trans (List.length_filter_le _ _) (hmi c i k hc hi hk);rw[<-hke];have hno:∀(c:List Pat) (i k:Nat),i<away.length->400<(zgi w ⟨ta,tk⟩ c (nth away i) k).length->subL w ⟨ta,tk⟩ c (away.drop i)=none:=fun c i k hi h=>by
  have:=zvy (w:=w) (t:=⟨ta,tk⟩) (l:=c) (b:=nth away i) k;rw[zgC hi,if_neg (by omega)]
 refine bd Tryz.f136 60 [] [] fun w0 F0 own kept hk=>?_;refine bx 3007 ?_;refine ev ?_;refine xak (ι:=Nat×List Pat) hk (fun s=>[(12,.d (.i (s.1:Int))),(3,.d (zad s.2))]) [10,11,13,14,15,16,17,18,19,20,21,22,23,24,25,26,27,28,29,30,31,32,33,34,35,36,37,38,39,40,41,42,43,44,45,46,47,48,49,50,51,52,53,54] (fun s=>[]) (fun s=>s.1<=away.length/\subL w ⟨ta,tk⟩ s.2 (away.drop s.1)=subL w ⟨ta,tk⟩ l away/\(∀a∈s.2,zah w 11 ⟨ta,tk⟩ a=true)/\s.2.length<=400) (fun s=>away.length-s.1) (0,l) ⟨by simp,rfl,hl,hll⟩ ⟨⟨_,rfl,xaq ?_⟩,⟨⟨_,rfl, ?_⟩,trivial⟩⟩ trivial (fun x=>rfl) (fun s hg1=>?_);focus (rfl)
 focus (exact LeA.refl _)
 refine evc [] [] ?_;refine sq ?_ ?_<;>intro h1 h1p h1s<;>(try simp only[Q,Pat.cs_len] at h1p);refine xbi 9 sl34 .none rfl rfl ?_;refine ev ?_;refine xak (ι:=Nat) hk (fun k=>[(14,.d (.i (k:Int))),(13,.gl 9 (Pat.cs (zgi w ⟨ta,tk⟩ s.2 (nth away s.1) k)))]) [22,23,24,25,26,27,28,29,30,31,32,33,34,35,36,37,38,39,40,41,42,43,44,45,46,47,48,49] (fun k=>[(9,some (.tok ((Pat.cs (zgi w ⟨ta,tk⟩ s.2 (nth away s.1) k))).length 6))]) (fun k=>k<=s.2.length) (fun k=>s.2.length-k) 0 (by omega) ⟨⟨_,rfl,xaq ?_⟩,⟨⟨_,rfl,LeA.glg ?_⟩,trivial⟩⟩ ⟨zab ?_,trivial⟩ (fun x=>rfl) (fun k hg2=>?_);iterate 3 focus (rfl)
 refine evc [] [] ?_;refine sq ?_ ?_<;>intro h2 h2p h2s<;>(try simp only[Q,Pat.cs_len] at h2p);refine sq ?_ ?_<;>intro h3 h3p h3s<;>(try simp only[Q,Pat.cs_len] at h3p);refine xaU sl34 .none rfl rfl rfl rfl (zay (by omega)) rfl ?_;refine evd [] [] ?_;refine xaU sl34 .none rfl rfl rfl rfl (zay (by omega)) rfl ?_;refine evd [] [] ?_;refine wc zp3 (zia hs 10 11 (by omega) (by omega) (by omega) ht (hg1.2.2.1 _ (zae (by omega))) (hb _ (zae (by omega)))) rfl rfl ?_;refine wc ztL (show FnD _ _ _ _ (.d (zad (zmQ w ⟨ta,tk⟩ (nth away s.1) (nth s.2 k)))) _ from ziS hs ht (zfB 10 11 (by omega) (hg1.2.2.1 _ (zae (by omega))) (hb _ (zae (by omega)))) (hmi s.2 s.1 k hg1.2.2.1 (by omega) (by omega))) rfl rfl ?_;refine ap sl34 zz36 rfl rfl rfl (by exact zbM _) (by have h9:=hkb s.2 s.1 k hg1.2.2.1 (by omega) (by omega);simp only[Pat.cs_len];omega) ?_;refine evd [] [] ?_;refine dr ?_;refine ar ?_;refine xah (k+1) ⟨(by omega),(by omega),sx ⟨⟨_,rfl,xaq ?_⟩,⟨⟨_,rfl,LeA.glg ?_⟩,trivial⟩⟩ ⟨zab ?_,trivial⟩⟩;iterate 3 focus (first|rfl|(rw[zm5 (by omega),xau,xau,xau,xaf];done)|(rw[zm5 (by omega)];simp[Pat.cs_len];done))
 refine sq ?_ ?_<;>intro h4 h4p h4s<;>(try simp only[Q,Pat.cs_len] at h4p);refine xbh sl34 .none rfl ?_;refine ev ?_;refine rn0 (r2 rfl rfl) (.tup (.cons (.eqd ?_) (.cons (.eqd ?_) .nil)));rotate_left 2;refine ar ?_;refine xah ((s.1+1,zbS w ⟨ta,tk⟩ s.2 (nth away s.1))) ⟨(by
    have hk:s.2.length<=k:=by omega
    have h4:(zbS w ⟨ta,tk⟩ s.2 (nth away s.1)).length<=400:=by rw[<-zfe hk];omega
    have e:=zgC (w:=w) (t:=⟨ta,tk⟩) (l:=s.2) (away:=away) (i:=s.1) (by omega);rw[if_pos h4] at e;refine⟨by dsimp only;omega, ?_,zeD hg1.2.2.1 (hb _ (zae (by omega))),h4⟩;dsimp only;rw[<-e];exact hg1.2.1),(by dsimp only;omega),sx ⟨⟨_,rfl,xaq ?_⟩,⟨⟨_,rfl, ?_⟩,trivial⟩⟩ trivial⟩
 focus (rfl)
 focus (((first|refine LeA.gld ?_|refine LeA.nild ?_);first|rfl|(rw[zfe (by omega)];done)|(dsimp only;rw[zfe (by omega)];done)|(simp;done)|omega))
 refine sqF ?_;refine sq ?_ ?_<;>intro h6 h6p h6s<;>(try simp only[Q,Pat.cs_len] at h6p);refine xbh sl34 .none rfl ?_;refine ev ?_;refine rn0 (r2 rfl rfl) (.tup (.cons (.eqd ?_) (.cons (.eqd ?_) .nil)));rotate_left 2;refine ar ?_;refine xah ((s.1+1,zbS w ⟨ta,tk⟩ s.2 (nth away s.1))) ⟨(by
    have hk:s.2.length<=k:=by omega
    have h4:(zbS w ⟨ta,tk⟩ s.2 (nth away s.1)).length<=400:=by rw[<-zfe hk];omega
    have e:=zgC (w:=w) (t:=⟨ta,tk⟩) (l:=s.2) (away:=away) (i:=s.1) (by omega);rw[if_pos h4] at e;refine⟨by dsimp only;omega, ?_,zeD hg1.2.2.1 (hb _ (zae (by omega))),h4⟩;dsimp only;rw[<-e];exact hg1.2.1),(by dsimp only;omega),sx ⟨⟨_,rfl,xaq ?_⟩,⟨⟨_,rfl, ?_⟩,trivial⟩⟩ trivial⟩
 focus (rfl)
 focus (((first|refine LeA.gld ?_|refine LeA.nild ?_);first|rfl|(rw[zfe (by omega)];done)|(dsimp only;rw[zfe (by omega)];done)|(simp;done)|omega))
 refine wc ztL (ziS hs ht hg1.2.2.1 (by omega)) rfl rfl ?_;refine ev ?_;refine rn0 (r2 rfl rfl) (.tup (.cons (.eqd ?_) (.cons (.eqd ?_) .nil)));rotate_left 2;all_goals (first|(rw[<-hg1.2.1,hno s.2 s.1 k (by omega) (by omega)];rfl)|(rw[<-hg1.2.1,zrm (by omega)];rfl))
theorem ziP:∀(n:Nat){p:Pat},p.size<=n->p.ok->FnD Tryz.prog 187 [.agg [.d (.i (p).op),.d (.i (p).ctor),.d (.i (p).n),.d (.i (p).m),.d (.i (p).var),.d (zad (p).kids)]] [] (.agg [.d (.i (p).op),.d (.i (p).ctor),.d (.i (p).n),.d (.i (p).m),.d (.i (p).var),.d (zad (p).kids)]) []
 |0,p,h,_=>by rw[Pat.size_eq] at h;omega
 |n+1,p,h,hok=>by
  rw[Pat.size_eq] at h;rw[Pat.ok_iff] at hok;have hok1:=hok.1;refine bd Tryz.f187 26 [] [] fun w0 F0 own kept hk=>?_;refine bx 3001 ?_;refine ab 3002 tz36 ?_;refine tv ?_;refine ab 3003 tz36 ?_;refine so ty36 ?_;refine tv ?_;refine so ty34 ?_;refine tv ?_;refine xan 3003 5 7 6 rfl rfl rfl rfl ?_;refine xak (ι:=List (Pat)×List (Pat)) hk (fun x=>[(4,.d (.i (x.1.length:Int)))]) [7,8,9,10,11,12,13,14,15,16,17,18,19,20,21,22,23,24] (fun x=>[(3003,some (.box [.d (.i p.op),.d (.i p.ctor),.d (.i p.n),.d (.i p.m),.d (.i p.var),.gl 7 (x.1.map Pat.cc)])),(7,some (.tok (x.1.map Pat.cc).length 6))]) (fun x=>x.1++x.2=p.kids) (fun x=>x.2.length) ([],p.kids) (by simp) ⟨⟨_,rfl,xaq ?_⟩,trivial⟩ ⟨?_,⟨zab ?_,trivial⟩⟩ (fun x=>rfl) (fun x hg1=>?_);focus (rfl)
  focus (first|rfl|(simp[getH];done))
  focus (rfl)
  obtain⟨pre,rest⟩:=x;dsimp only at hg1 ⊢;refine evc [] [] ?_;refine sq ?_ ?_<;>intro h1 h1p h1s<;>(try simp only[Q,Pat.cs_len] at h1p);rcases rest with _|⟨y,rest⟩
  ·exfalso;simp_all
  refine xaU sl34 .none rfl rfl rfl rfl (Pat.cs_at' hg1) rfl ?_;refine evd [] [] ?_;refine wc ztI (ziP n (p:=y) (by have:=Pats.size_mem (l:=p.kids) (v:=y) (by rw[<-hg1];simp);omega) (Pats.ok_mem hok.2 y (by rw[<-hg1];simp))) rfl rfl ?_;refine si [0] [_] sl34 tz36 ?_;refine ap sl34 zz36 rfl rfl rfl (by intro x hx;(simp at hx;subst hx;rfl)) (by have:=congrArg List.length hg1;simp at this;simp;omega) ?_;refine evd [] [] ?_;refine so ty34 ?_;refine dr ?_;refine ar ?_;refine xah ((pre++[y],rest)) ⟨(by have hz:=hg1;rw[<-hz];simp),(by simp),sx ⟨⟨_,rfl,xaq ?_⟩,trivial⟩ ⟨?_,⟨zab ?_,trivial⟩⟩⟩;focus ((simp;done))
  focus (first|rfl|(simp[getH];done))
  focus ((simp;done))
  have hrest:rest=[]:=by
   rcases rest with _|⟨a,b⟩
   ·rfl
   ·exfalso;have hz:=congrArg List.length (hg1);simp only[xaa,xab,xac] at hz;omega
  subst hrest;refine so ty36 ?_;refine tv ?_;refine rn0 (.cons (.cellA ty36 rfl rfl rfl) .nil) (.agg (.cons (.eqd ?_) (.cons (.eqd ?_) (.cons (.eqd ?_) (.cons (.eqd ?_) (.cons (.eqd ?_) (.cons (.gld ?_) .nil)))))));rotate_left 6;all_goals (first|rfl|(rw[List.append_nil] at hg1;rw[<-hg1,xau];done))
theorem zpy {l:List Pat} (h:l.length<=1000000000000) (hok:∀p∈l,p.ok):FnD Tryz.prog 233 [.d (zad l)] [] (.d (zad l)) []:=by
 refine bd Tryz.f233 21 [] [] fun w0 F0 own kept hk=>?_;refine xbi 1 sl34 .none rfl rfl ?_;refine ev ?_;refine xak (ι:=List (Pat)×List (Pat)) hk (fun x=>[(4,.d (.i (x.1.length:Int))),(3,.gl 1 (x.1.map Pat.cc))]) [6,7,8,9,10,11,12,13,14,15,16,17,18,19] (fun x=>[(1,some (.tok ((x.1.map Pat.cc)).length 6))]) (fun x=>x.1++x.2=l) (fun x=>x.2.length) ([],l) (by simp) ⟨⟨_,rfl,xaq ?_⟩,⟨⟨_,rfl,LeA.glg ?_⟩,trivial⟩⟩ ⟨zab ?_,trivial⟩ (fun x=>rfl) (fun x hg1=>?_);iterate 3 focus (rfl)
 obtain⟨pre,rest⟩:=x;dsimp only at hg1 ⊢;refine evc [] [] ?_;refine sq ?_ ?_<;>intro h1 h1p h1s<;>(try simp only[Q,Pat.cs_len] at h1p);rcases rest with _|⟨y,rest⟩
 ·exfalso;simp_all
 refine xaU sl34 .none rfl rfl rfl rfl (Pat.cs_at' hg1) rfl ?_;refine ev ?_;refine wc ztI (ziP _ (Nat.le_refl _) (hok y (by rw[<-hg1];simp))) rfl rfl ?_;refine si [0] [_] sl34 tz36 ?_;refine ap sl34 zz36 rfl rfl rfl (by intro x hx;simp at hx;subst hx;rfl) (by have:=congrArg List.length hg1;simp at this;simp;omega) ?_;refine ev ?_;refine ar ?_;refine xah ((pre++[y],rest)) ⟨(by have hz:=hg1;rw[<-hz];simp),(by simp),sx ⟨⟨_,rfl,xaq ?_⟩,⟨⟨_,rfl,LeA.glg ?_⟩,trivial⟩⟩ ⟨zab ?_,trivial⟩⟩;iterate 3 focus ((simp;done))
 have hrest:rest=[]:=by
  rcases rest with _|⟨a,b⟩
  ·rfl
  ·exfalso;have hz:=congrArg List.length (hg1);simp only[xaa,xab,xac] at hz;omega
 subst hrest;refine rn0 (r1 rfl) (.gld ?_);rotate_left;all_goals ((rw[List.append_nil] at hg1;rw[<-hg1,xau];done))
theorem zpe {p:Pat} (h:zcW p=true):zaZ (zat p)=zaY p:=by
 unfold zcW at h;have h40:=of_decide_eq_true h;unfold zaZ zaY;rw[if_pos h40,List.take_of_length_le (by omega)]
theorem zuU {p:Pat}:((40:Int)<((zaZ (zat p)).length:Int))↔zcW p=false:=by
 unfold zcW zaZ;rw[List.length_take,decide_eq_false_iff_not];omega
theorem zic {w:List Data} (hs:Spa w){ta tk:Int} (ht:InS (w.length*4) ⟨ta,tk⟩){l:List Pat}{ok:Bool} (hl:∀a∈l,a.ok/\a.size<=1000000000000) (hb:l.length<=1000000000000):
  FnD Tryz.prog 137 [.d (zam w),.agg [.d (.i ta),.d (.i tk)],.d (zad l),.d (.bool ok)] [] (.tup [.d (zad (if l.all (isP w ⟨ta,tk⟩)=true then l else [])),.d (.bool (l.all (isP w ⟨ta,tk⟩)&&ok))]) []:=by
 have hbad:∀i,i<l.length->isP w ⟨ta,tk⟩ (nth l i)=false->l.all (isP w ⟨ta,tk⟩)=false:=fun i hi h=>by
  cases hq:l.all (isP w ⟨ta,tk⟩) with
  |false=>rfl
  |true=>have:=List.all_eq_true.1 hq _ (zae hi);rw[h] at this;cases this
 have hgood:(∀i,i<l.length->isP w ⟨ta,tk⟩ (nth l i)=true)->l.all (isP w ⟨ta,tk⟩)=true:=fun h=>List.all_eq_true.2 fun x hx=>by
  obtain⟨i,hi,rfl⟩:=List.getElem_of_mem hx;have:=h i hi;rwa [zaO hi] at this
 refine bd Tryz.f137 29 [] [] fun w0 F0 own kept hk=>?_;refine bx 3005 ?_;refine ev ?_;refine xak (ι:=Nat) hk (fun i=>[(10,.d (.i (i:Int)))]) [8,9,11,12,13,14,15,16,17,18,19,20,21,22,23,24,25] (fun i=>[]) (fun i=>i<=l.length/\∀i',i'<i->isP w ⟨ta,tk⟩ (nth l i')=true) (fun i=>l.length-i) 0 ⟨by omega,fun _ h=>absurd h (by omega)⟩ ⟨⟨_,rfl,xaq ?_⟩,trivial⟩ trivial (fun x=>rfl) (fun i hg1=>?_);focus (rfl)
 refine evc [] [] ?_;refine sq ?_ ?_<;>intro h1 h1p h1s<;>(try simp only[Q,Pat.cs_len] at h1p);refine xaU sl34 .none rfl rfl rfl rfl (zay (by omega)) rfl ?_;refine evd [] [] ?_;refine wc zp1 (zhI hs.dp.wt (zbD ht) (hl _ (zae (i:=i) (by omega))).1 (hl _ (zae (by omega))).2) rfl rfl ?_;refine evd [] [] ?_;refine dr ?_;refine sq ?_ ?_<;>intro h2 h2p h2s;refine xbh sl34 .none rfl ?_;refine ev ?_;refine rn0 (r2 rfl rfl) (.tup (.cons (.eqd ?_) (.cons (.eqd ?_) .nil)));rotate_left 2;try simp only[Q,Pat.cs_len] at h2p
 refine ar ?_;refine xah (i+1) ⟨⟨by omega,za6 hg1.2 (by assumption)⟩,(by omega),sx ⟨⟨_,rfl,xaq ?_⟩,trivial⟩ trivial⟩;focus (rfl)
 refine wc zxo (zpy hb (fun p hp=>(hl p hp).1)) rfl rfl ?_;refine ev ?_;refine rn0 (r2 rfl rfl) (.tup (.cons (.eqd ?_) (.cons (.eqd ?_) .nil)));rotate_left 2;all_goals (first|(rw[hbad i (by omega) (by assumption)];rfl)|(rw[hgood (fun x hx=>hg1.2 x (by omega))];rfl))
end Go.Proofs.YtlfipehhbdjnjaaGreat
namespace Go.Proofs.YtlfipehhbdjnjaaGreat
open Go
set_option linter.unusedSimpArgs false
set_option linter.unusedVariables false
section
variable {c:Ctx}{all:Array Oper}{chk:List Rec->Prop}{os:List Oper}{recs:List Rec}{env:Env}{hp:Hp}{Q:St->Prop}
variable {d ty:Nat}{pos:String}{af:Array Edge}{g:Option (Nat×Bool)}{pg:List (Nat×AV)}{t yt:TypeId}{x y:Operand}
theorem Walk.cut_lh {e k yb:Nat}{xs:List (List D)}{vx:AV}{o o2:Operand}{kd kd2:IntKind}{n n2:Int}{a b:Nat} (ht:SlT c.P t e k yb) (hg:GH all env g pg) (hd:Nat.blt d c.n=true)
  (hx:opd env x=some vx) (hxd:vx.toD=some (.sl xs)) (hk:∀x,x∈xs->x.length=k) (ho:opd env o=some (.d (.int kd n))) (ho2:opd env o2=some (.d (.int kd2 n2))) (hi:n = ↑a) (hi2:n2 = ↑b) (hab:a<=b) (hb:b<=xs.length)
  (hn:Walk c all chk os (zan (pg++opFL [x,o,o2] [vx,.d (.int kd n),.d (.int kd2 n2)]) [] [] ⟨some (d,.d (.sl ((xs.drop a).take (b-a)))),[]⟩::recs) ⟨(d,.d (.sl ((xs.drop a).take (b-a))))::env,hp⟩ Q):
  Walk c all chk (⟨some d,.slice t x (some o) (some o2) none,ty,pos,af,g⟩::os) recs ⟨env,hp⟩ Q:=
 xbd hg hd (by simp[opdL,hx,ho,ho2]) (fun ac G T w h=>by
  have h0:=h.2 0 (by simp) (by simp);have h1:=h.2 1 (by simp) (by simp);have h2:=h.2 2 (by simp) (by simp);simp only[List.getElem_cons_zero,List.getElem_cons_succ] at h0 h1 h2;obtain⟨u,h3,h4⟩:=zjo (P:=c.P) (w:=w) ht (h0.toD hxd) hk (lo:=some (.int kd a)) (hi:=some (.int kd2 b)) (a:=a) (b:=b) (.inr ⟨kd,rfl⟩) (.inr ⟨kd2,rfl⟩) hab hb;exact⟨u,by simp only[execOp,h1.int_eq,h2.int_eq,hi,hi2,Option.map_none,Option.map_some,Sem.run_bind,h3,Result.andThen_ok,Sem.run_pure],.d h4⟩) hn
end
end Go.Proofs.YtlfipehhbdjnjaaGreat
namespace Go.Proofs.YtlfipehhbdjnjaaGreat
open Go
set_option linter.unusedSimpArgs false
set_option linter.unusedVariables false
set_option maxRecDepth 100000
set_option maxHeartbeats 2000000
abbrev sepV (w:List Data) (t:Ty) (l:List Pat):Option (List Pat):=sepQ w t [] l []
theorem zre {w:List Data}{t:Ty}{l o:List Pat}{i:Nat} (h:i<l.length):sepQ w t (l.take i) (l.drop i) o=match zaK w t [nth l i] (l.take i) with
  |none=>none
  |some m=>sepQ w t (l.take (i+1)) (l.drop (i+1)) (o++m):=by
 rw[zaM h,sepQ];have e:l.take i++[nth l i]=l.take (i+1):=by rw[List.take_succ_eq_append_getElem h,zaO h]
 rw[e];all_goals (cases zaK w t [nth l i] (l.take i)<;>rfl)
theorem zsy {w:List Data}{t:Ty}{l o:List Pat}{i:Nat} (h:l.length<=i):sepQ w t (l.take i) (l.drop i) o=some o:=by
 rw[List.drop_eq_nil_of_le h,sepQ]
theorem zrd {w:List Data}{t:Ty}{l o m:List Pat}{i:Nat} (h:i<l.length) (hw:zaK w t [nth l i] (l.take i)=some m):sepQ w t (l.take i) (l.drop i) o=sepQ w t (l.take (i+1)) (l.drop (i+1)) (o++m):=by
 rw[zre h,hw]
theorem zsx {w:List Data}{t:Ty}{l o:List Pat}{i:Nat} (h:i<l.length) (hw:zaK w t [nth l i] (l.take i)=none):sepQ w t (l.take i) (l.drop i) o=none:=by
 rw[zre h,hw]
theorem zuN {w:List Data}{t:Ty}:∀(r front o:List Pat){res:List Pat},sepQ w t front r o=some res->o.length<=res.length
 | [],_,o,res,h=>by rw[sepQ] at h;cases h;exact Nat.le_refl _
 |p::r,front,o,res,h=>by
  rw[sepQ] at h;cases hw:zaK w t [p] front with
  |none=>rw[hw] at h;cases h
  |some m=>
   rw[hw] at h;have:=zuN r _ _ h;rw[xaa] at this;omega
theorem zgx {w:List Data}{t:Ty}:∀(r front o:List Pat){res:List Pat},(∀b∈front,zah w 10 t b=true)->(∀b∈r,zah w 10 t b=true)->(∀b∈o,zah w 11 t b=true)->sepQ w t front r o=some res->∀x∈res,zah w 11 t x=true
 | [],_,o,res,_,_,ho,h=>by rw[sepQ] at h;cases h;exact ho
 |p::r,front,o,res,hf,hr,ho,h=>by
  rw[sepQ] at h;cases hw:zaK w t [p] front with
  |none=>rw[hw] at h;cases h
  |some m=>
   rw[hw] at h;have hp:=hr p (by simp);have h1:=zd7 front _ m (fun a ha=>by rw[List.mem_singleton.1 (List.mem_filter.1 ha).1];exact zdd (by omega) hp) (Nat.le_trans (List.length_filter_le _ _) (by simp)) hf hw;refine zgx r _ _ (fun b hb=>?_) (fun b hb=>hr b (by simp[hb])) (fun b hb=>?_) h
   ·rcases List.mem_append.1 hb with hb|hb
    ·exact hf b hb
    ·rw[List.mem_singleton.1 hb];exact hp
   ·rcases List.mem_append.1 hb with hb|hb
    ·exact ho b hb
    ·exact h1.2 b hb
def FewQ (w:List Data) (t:Ty) (l:List Pat):Prop:=∀res,sepV w t l=some res->res.length<=400
theorem zo8 {w:List Data}{ta tk:Int}{l:List Pat} (hl:∀a∈l,zah w 10 ⟨ta,tk⟩ a=true) (i:Nat):((zaK w ⟨ta,tk⟩ [nth l i] (l.take i)).getD []).length<=400:=by
 cases hw:zaK w ⟨ta,tk⟩ [nth l i] (l.take i) with
 |none=>simp
 |some m=>
  by_cases hi:i<l.length
  ·exact(zd7 (l.take i) _ m (fun a ha=>by rw[List.mem_singleton.1 (List.mem_filter.1 ha).1];exact zdd (by omega) (hl _ (zae hi))) (Nat.le_trans (List.length_filter_le _ _) (by simp)) (fun b hb=>hl b (List.mem_of_mem_take hb)) hw).1
  ·rw[List.take_of_length_le (by omega)] at hw;have e:nth l i=default:=by simp[nth,List.getD,List.getElem?_eq_none (by omega:l.length<=i)]
   rw[e] at hw;unfold zaK at hw;have hlen:∀(away c r:List Pat),c.length<=400->subL w ⟨ta,tk⟩ c away=some r->r.length<=400:=fun away=>by
    induction away with
    |nil=>intro c r hc h;rw[subL] at h;cases h;exact hc
    |cons b away ih=>
     intro c r hc h;rw[subL] at h;split at h
     ·rename_i h4;exact ih _ _ h4 h
     ·cases h
   exact hlen _ _ _ (Nat.le_trans (List.length_filter_le _ _) (by simp)) hw
theorem zsc {l:List Pat} (i:Nat) (hi:i<l.length):zad [nth l i] = .sl [(nth l i).cc]/\zad (l.take i) = .sl ((Pat.cs l).take i)/\zad [nth l i] = .sl (((Pat.cs l).drop i).take (i+1-i)):=by
 have e1:zad [nth l i] = .sl [(nth l i).cc]:=by show D.sl (Pat.cs [nth l i])=_;rw[xau];rfl
 refine⟨e1, ?_, ?_⟩
 ·show D.sl (Pat.cs (l.take i))=_;rw[xau,xau,List.map_take]
 ·rw[e1,xau,<-List.map_drop,zaM hi,show i+1-i=1 by omega];rfl
section
variable {w:List Data} (hs:Spa w){ta tk:Int} (ht:InS (w.length*4) ⟨ta,tk⟩){l:List Pat} (hl:∀a∈l,zah w 10 ⟨ta,tk⟩ a=true) (hb:l.length<=1600)
include hs ht hl hb
theorem zlQ:FnD Tryz.prog 74 [.d (sPtr w (zaf w)),.agg [.d (.i ta),.d (.i tk)],.d (zad l)] [] (.tup [.d (zad ((sepV w ⟨ta,tk⟩ l).getD [])),.d (.bool (sepV w ⟨ta,tk⟩ l).isSome)]) []:=by
 have hml:=zo8 hl;have hc:∀i,i<l.length->FnD Tryz.prog 75 [.d (sPtr w (zaf w)),.agg [.d (.i ta),.d (.i tk)],.d (.sl [(nth l i).cc]),.d (.sl ((Pat.cs l).take i))] [] (.tup [.d (zad ((zaK w ⟨ta,tk⟩ [nth l i] (l.take i)).getD [])),.d (.bool (zaK w ⟨ta,tk⟩ [nth l i] (l.take i)).isSome)]) []:=fun i hi=>by
  have h:=zhZ hs ht (l:=[nth l i]) (away:=l.take i) (fun a ha=>by rw[List.mem_singleton.1 ha];exact zdd (by omega) (hl _ (zae hi))) (fun b hb=>hl b (List.mem_of_mem_take hb)) (by simp) (by rw[List.length_take];omega);obtain⟨e1,e2,_⟩:=zsc i hi;rw[e1,e2] at h;exact h
 have hbad:∀i o,i<l.length->(zaK w ⟨ta,tk⟩ [nth l i] (l.take i)).isSome=false->sepQ w ⟨ta,tk⟩ (l.take i) (l.drop i) o=none:=fun i o hi h=>zsx hi (by simpa using h);have hgood:∀i o,i<l.length->(zaK w ⟨ta,tk⟩ [nth l i] (l.take i)).isSome=true->sepQ w ⟨ta,tk⟩ (l.take i) (l.drop i) o=sepQ w ⟨ta,tk⟩ (l.take (i+1)) (l.drop (i+1)) (o++(zaK w ⟨ta,tk⟩ [nth l i] (l.take i)).getD []):=fun i o hi h=>by
  obtain⟨m,hm⟩:=Option.isSome_iff_exists.1 h;rw[zrd hi hm,hm];rfl
 refine bd Tryz.f74 38 [8] [] fun w0 F0 own kept hk=>?_;refine bx 3004 ?_;refine evs [8] [] ?_;refine xaC 9 6 .none rfl rfl ?_;refine tv ?_;refine xak (ι:=Nat×List Pat) hk (fun s=>[(15,.d (.i (s.1:Int))),(8,.gl 9 (Pat.cs s.2))]) [6,7,9,10,11,12,16,17,18,19,20,21,22,23,24,25,26,27,28,29,30,31,32,33,34,35,36] (fun s=>[(9,some (.tok ((Pat.cs s.2)).length 6))]) (fun s=>s.1<=l.length/\sepQ w ⟨ta,tk⟩ (l.take s.1) (l.drop s.1) s.2=sepV w ⟨ta,tk⟩ l/\s.2.length<=400*s.1) (fun s=>l.length-s.1) (0,[]) ⟨by simp,by simp,by simp⟩ ⟨⟨_,rfl,xaq ?_⟩,⟨⟨_,rfl,LeA.glg ?_⟩,trivial⟩⟩ ⟨zab ?_,trivial⟩ (fun x=>rfl) (fun s hg1=>?_);iterate 3 focus (rfl)
 refine evc [8] [] ?_;refine sq ?_ ?_<;>intro h1 h1p h1s<;>(try simp only[Q,Pat.cs_len] at h1p);refine xaU sl34 .none rfl rfl rfl rfl (zay (by omega)) rfl ?_;refine evs [8] [] ?_;refine ab 3010 tz36 ?_;refine evs [8] [] ?_;refine so ty36 ?_;refine tv ?_;refine si [0] [_] sl34 tz36 ?_;refine evd [8] [] ?_;refine xaO (b:=s.1) sl34 .none rfl rfl rfl (by exact zbM _) rfl rfl (by simp only[Pat.cs_len];omega) ?_;refine wc zsR (hc s.1 (by omega)) rfl rfl ?_;refine evd [8] [] ?_;refine dr ?_;refine sq ?_ ?_<;>intro h2 h2p h2s<;>(try simp only[Q,Pat.cs_len] at h2p);refine rn0 (r2 rfl rfl) (.tup (.cons (.nild ?_) (.cons (.eqd ?_) .nil)));rotate_left 2;refine ap sl34 zz36 rfl rfl rfl (by exact zbM _) (by have h9:=hml s.1;simp only[Pat.cs_len];omega) ?_;refine asg ?_;refine tv ?_;refine ar ?_;refine xah ((s.1+1,s.2++(zaK w ⟨ta,tk⟩ [nth l s.1] (l.take s.1)).getD [])) ⟨(by
    refine⟨by dsimp only;omega, ?_, ?_⟩
    ·dsimp only;rw[<-hgood s.1 s.2 (by omega) (by first|assumption|simpa using h2p)];exact hg1.2.1
    ·have:=hml s.1;dsimp only;rw[xaa];omega),(by dsimp only;omega),sx ⟨⟨_,rfl,xaq ?_⟩,⟨⟨_,rfl,LeA.glg ?_⟩,trivial⟩⟩ ⟨zab ?_,trivial⟩⟩
 iterate 3 focus (first|(dsimp only;rw[xau,xau,xau,xaf];done)|(simp[Pat.cs_len];done))
 refine rn0 (r2 rfl rfl) (.tup (.cons (.gld ?_) (.cons (.eqd ?_) .nil)));rotate_left 2;all_goals (first|(rw[show sepV w ⟨ta,tk⟩ l=none from by rw[<-hg1.2.1];exact hbad s.1 s.2 (by omega) (by first|assumption|simpa using h2p)];rfl)|(rw[show sepV w ⟨ta,tk⟩ l=some s.2 from by rw[<-hg1.2.1];exact zsy (by omega)];rfl))
theorem znz (hfew:FewQ w ⟨ta,tk⟩ l):FnD Tryz.prog 129 [.d (zam w),.d (zeO (w.length*4) (zaf w)),.agg [.d (.i ta),.d (.i tk)],.d (zad l)] [] (.tup [.d (zad ((sepV w ⟨ta,tk⟩ l).getD [])),.d (.bool (sepV w ⟨ta,tk⟩ l).isSome)]) []:=by
 have hml:=zo8 hl;have hc:∀i,i<l.length->FnD Tryz.prog 136 [.d (zam w),.d (zeO (w.length*4) (zaf w)),.agg [.d (.i ta),.d (.i tk)],.d (.sl (((Pat.cs l).drop i).take (i+1-i))),.d (.sl ((Pat.cs l).take i))] [] (.tup [.d (zad ((zaK w ⟨ta,tk⟩ [nth l i] (l.take i)).getD [])),.d (.bool (zaK w ⟨ta,tk⟩ [nth l i] (l.take i)).isSome)]) []:=fun i hi=>by
  have h:=zgA hs ht (l:=[nth l i]) (away:=l.take i) (fun a ha=>by rw[List.mem_singleton.1 ha];exact zdd (by omega) (hl _ (zae hi))) (fun b hb=>hl b (List.mem_of_mem_take hb)) (by simp) (by rw[List.length_take];omega);obtain⟨_,e2,e3⟩:=zsc i hi;rw[e3,e2] at h;exact h
 have hbad:∀i o,i<l.length->(zaK w ⟨ta,tk⟩ [nth l i] (l.take i)).isSome=false->sepQ w ⟨ta,tk⟩ (l.take i) (l.drop i) o=none:=fun i o hi h=>zsx hi (by simpa using h);have hgood:∀i o,i<l.length->(zaK w ⟨ta,tk⟩ [nth l i] (l.take i)).isSome=true->sepQ w ⟨ta,tk⟩ (l.take i) (l.drop i) o=sepQ w ⟨ta,tk⟩ (l.take (i+1)) (l.drop (i+1)) (o++(zaK w ⟨ta,tk⟩ [nth l i] (l.take i)).getD []):=fun i o hi h=>by
  obtain⟨m,hm⟩:=Option.isSome_iff_exists.1 h;rw[zrd hi hm,hm];rfl
 have hmany:∀i o,i<l.length->(zaK w ⟨ta,tk⟩ [nth l i] (l.take i)).isSome=true->sepQ w ⟨ta,tk⟩ (l.take i) (l.drop i) o=sepV w ⟨ta,tk⟩ l->(400:Int)<(o.length:Int)+(((zaK w ⟨ta,tk⟩ [nth l i] (l.take i)).getD []).length:Int)->sepV w ⟨ta,tk⟩ l=none:=fun i o hi h e h4=>by
  cases hv:sepV w ⟨ta,tk⟩ l with
  |none=>rfl
  |some res=>
   exfalso;have h1:=hfew res hv;rw[hv,hgood i o hi h] at e;have h2:=zuN _ _ _ e;rw[xaa] at h2;omega
 refine bd Tryz.f129 51 [] [] fun w0 F0 own kept hk=>?_;refine bx 3006 ?_;refine ev ?_;refine xbi 9 sl34 .none rfl rfl ?_;refine ev ?_;refine xak (ι:=Nat×List Pat) hk (fun s=>[(11,.d (.i (s.1:Int))),(10,.gl 9 (Pat.cs s.2))]) [8,9,12,13,15,16,17,18,19,20,21,22,23,24,25,26,27,28,29,30,31,32,33,34,35,36,37,38,39,40,41,42,43,44,45,46,47,48,49] (fun s=>[(9,some (.tok ((Pat.cs s.2)).length 6))]) (fun s=>s.1<=l.length/\sepQ w ⟨ta,tk⟩ (l.take s.1) (l.drop s.1) s.2=sepV w ⟨ta,tk⟩ l/\s.2.length<=400*s.1) (fun s=>l.length-s.1) (0,[]) ⟨by simp,by simp,by simp⟩ ⟨⟨_,rfl,xaq ?_⟩,⟨⟨_,rfl,LeA.glg ?_⟩,trivial⟩⟩ ⟨zab ?_,trivial⟩ (fun x=>rfl) (fun s hg1=>?_);iterate 3 focus (rfl)
 refine evc [] [] ?_;refine sq ?_ ?_<;>intro h1 h1p h1s<;>(try simp only[Q,Pat.cs_len] at h1p);refine ar ?_ (by(have h9:=hml s.1;(try simp only[Pat.cs_len]);constructor<;>omega));refine Walk.cut_lh (a:=s.1) (b:=(s.1+1)) sl34 .none rfl rfl rfl (by exact zbM _) rfl rfl rfl (by simp) (by omega) (by simp only[Pat.cs_len];omega) ?_;refine evd [] [] ?_;refine xaO (b:=s.1) sl34 .none rfl rfl rfl (by exact zbM _) rfl rfl (by(simp only[Pat.cs_len];omega)) ?_;refine wc zpW (hc s.1 (by omega)) rfl rfl ?_;refine evd [] [] ?_;refine dr ?_;refine sq ?_ ?_<;>intro h2 h2p h2s<;>(try simp only[Q,Pat.cs_len] at h2p);refine sqT ?_;refine xbh sl34 .none rfl ?_;refine ev ?_;refine rn0 (r2 rfl rfl) (.tup (.cons (.eqd ?_) (.cons (.eqd ?_) .nil)));rotate_left 2;refine ar ?_ (by(have h9:=hml s.1;(try simp only[Pat.cs_len]);constructor<;>omega));refine sq ?_ ?_<;>intro h4 h4p h4s<;>(try simp only[Q,Pat.cs_len] at h4p);refine xbh sl34 .none rfl ?_;refine ev ?_;refine rn0 (r2 rfl rfl) (.tup (.cons (.eqd ?_) (.cons (.eqd ?_) .nil)));rotate_left 2;refine ap sl34 zz36 rfl rfl rfl (by exact zbM _) (by have h9:=hml s.1;simp only[Pat.cs_len];omega) ?_;refine ev ?_;refine ar ?_ (by(have h9:=hml s.1;(try simp only[Pat.cs_len]);constructor<;>omega));refine xah ((s.1+1,s.2++(zaK w ⟨ta,tk⟩ [nth l s.1] (l.take s.1)).getD [])) ⟨(by
    refine⟨by dsimp only;omega, ?_, ?_⟩
    ·dsimp only;rw[<-hgood s.1 s.2 (by omega) (by first|assumption|simpa using h2p)];exact hg1.2.1
    ·have:=hml s.1;dsimp only;rw[xaa];omega),(by dsimp only;omega),sx ⟨⟨_,rfl,xaq ?_⟩,⟨⟨_,rfl,LeA.glg ?_⟩,trivial⟩⟩ ⟨zab ?_,trivial⟩⟩
 iterate 3 focus (first|(dsimp only;rw[xau,xau,xau,xaf];done)|(simp[Pat.cs_len];done))
 refine rn0 (r2 rfl rfl) (.tup (.cons (.gld ?_) (.cons (.eqd ?_) .nil)));rotate_left 2;all_goals (first|(rw[show sepV w ⟨ta,tk⟩ l=none from by rw[<-hg1.2.1];exact hbad s.1 s.2 (by omega) (by first|assumption|simpa using h2p)];rfl)|(rw[hmany s.1 s.2 (by omega) (by first|assumption|simpa using h2p) hg1.2.1 (by omega)];rfl)|(rw[show sepV w ⟨ta,tk⟩ l=some s.2 from by rw[<-hg1.2.1];exact zsy (by omega)];rfl))
end
def zci (w:List Data) (a k:Int) (p q:Pat):Bool:=(zaD w a k p&&isP w ⟨a,k⟩ q)&&(zcW p&&zcW q)
def minV (w:List Data) (a k:Int) (p q:Pat):Option (List Pat):=if zci w a k p q=true then (match sepV w ⟨a,k⟩ (zaY p) with
  |none=>none
  |some r=>match zaK w ⟨a,k⟩ r (zaY q) with
   |none=>none
   |some z=>if z.all (isP w ⟨a,k⟩)=true then some z else none) else none
theorem zdN {w:List Data} (hs:WSmall w){a k:Int}{p q:Pat} (h:zci w a k p q=true):Spa w/\InS (w.length*4) ⟨a,k⟩/\(∀x∈zaY p,zah w 10 ⟨a,k⟩ x=true)/\(∀x∈zaY q,zah w 10 ⟨a,k⟩ x=true)/\zao w 10 ⟨a,k⟩ p=true/\zao w 10 ⟨a,k⟩ q=true/\
  zaY p=zar (zat p)/\zaY q=zar (zat q)/\zca w ⟨a,k⟩=true/\isP w ⟨a,k⟩ p=true/\isP w ⟨a,k⟩ q=true:=by
 unfold zci zaD zcW at h;simp only[xad,decide_eq_true_eq] at h;obtain⟨⟨⟨h1,h2⟩,h3⟩,h4,h5⟩:=h;have hp:=h2;have hq:=h3;unfold isP at h2 h3;rw[xad] at h2 h3;have hin:InS (w.length*4) ⟨a,k⟩:=by
  obtain⟨_,_,h6⟩:=zct h1;by_cases ha:a = -1
  ·exact .inl ha
  ·obtain⟨h7,h8,h9,h10⟩:=h6 ha;have:=zuq (n:=w.length) h8 (j:=k.toNat) (by omega);rwa [Int.toNat_of_nonneg h7,Int.toNat_of_nonneg h9] at this
 exact⟨zrx hs (zct h1).1,hin,zlv h2.1,zlv h3.1,h2.1,h3.1,by unfold zaY;rw[if_pos h4],by unfold zaY;rw[if_pos h5],h1,hp,hq⟩
theorem zk9 {w:List Data} (hs:WSmall w){a k:Int}{p q:Pat} (hp:p.ok) (hq:q.ok):
  FnD Tryz.prog 73 [.d (zam w),.agg [.d (.i a),.d (.i k)],.agg [.d (.i p.op),.d (.i p.ctor),.d (.i p.n),.d (.i p.m),.d (.i p.var),.d (zad p.kids)],.agg [.d (.i q.op),.d (.i q.ctor),.d (.i q.n),.d (.i q.m),.d (.i q.var),.d (zad q.kids)]] []
   (.tup [.d (zad (if (zaD w a k p&&isP w ⟨a,k⟩ q)=true then zaY p else [])),.d (zad (if (zaD w a k p&&isP w ⟨a,k⟩ q)=true then zaY q else [])),.d (.bool (zci w a k p q))]) []:=by
 have hpv:=zdT hs (a:=a) (k:=k) hp;have hshape:∀ {x:Pat},isP w ⟨a,k⟩ x=true->zao w 10 ⟨a,k⟩ x=true:=fun h=>by unfold isP at h;rw[xad] at h;exact h.1
 have hvp:zaD w a k p=true->zca w ⟨a,k⟩=true/\isP w ⟨a,k⟩ p=true:=fun h=>by unfold zaD at h;rwa [xad] at h
 unfold zci;by_cases h1:zaD w a k p=true
 ·obtain⟨h2,h3⟩:=hvp h1;have hok:=zeL (zgd hs (zct h2).1) (zct h2).2.1 hq;have hpp:=zjA (hshape h3) hp;rw[h1] at hpv ⊢;by_cases h4:isP w ⟨a,k⟩ q=true
  ·have hpq:=zjA (hshape h4) hq;rw[h4] at hok ⊢;refine bd Tryz.f73 43 [] [] fun w0 F0 own kept hk=>?_;refine bx 3005 ?_;refine bx 3006 ?_;refine bx 3007 ?_;refine ev ?_;refine wc ziY (hpv) rfl rfl ?_;refine ev ?_;refine sq ?_ ?_<;>intro h1 h1p h1s<;>(try simp only[Q] at h1p);refine sqT ?_;focus (exfalso;contradiction)
   refine Walk.call (cr:=[]) zmi (hok) rfl (.some rfl rfl h1) rfl rfl (LeL.refl _) trivial rfl rfl rfl ?_;refine evs [] [(20,false)] ?_ ⟨⟨_,rfl,h1⟩,trivial⟩;refine sq ?_ ?_<;>intro h3 h3p h3s<;>(try simp only[Q] at h3p);focus (exfalso;contradiction)
   refine wc zty (hpp) rfl rfl ?_;refine ev ?_;refine wc zty (hpq) rfl rfl ?_;refine ev ?_;refine sq ?_ ?_<;>intro h4 h4p h4s<;>(try simp only[Q] at h4p);refine rn0 (.cons (.tmp rfl) (.cons (.tmp rfl) (.cons (.tmp rfl) .nil))) (.tup (.cons (.eqd ?_) (.cons (.eqd ?_) (.cons (.eqd ?_) .nil))));rotate_left 3;refine rn0 (.cons (.tmp rfl) (.cons (.tmp rfl) (.cons (.tmp rfl) .nil))) (.tup (.cons (.eqd ?_) (.cons (.eqd ?_) (.cons (.eqd ?_) .nil))));rotate_left 3;all_goals (first|rfl|(simp_all;done))
  ·have h4':isP w ⟨a,k⟩ q=false:=by simpa using h4
   rw[h4'] at hok ⊢;refine bd Tryz.f73 43 [] [] fun w0 F0 own kept hk=>?_;refine bx 3005 ?_;refine bx 3006 ?_;refine bx 3007 ?_;refine ev ?_;refine wc ziY (hpv) rfl rfl ?_;refine ev ?_;refine sq ?_ ?_<;>intro h1 h1p h1s<;>(try simp only[Q] at h1p);refine sqT ?_;refine rn0 (.cons (.tmp rfl) (.cons (.tmp rfl) (.cons (.tmp rfl) .nil))) (.tup (.cons (.nild ?_) (.cons (.nild ?_) (.cons (.eqd ?_) .nil))));rotate_left 3;refine Walk.call (cr:=[]) zmi (hok) rfl (.some rfl rfl h1) rfl rfl (LeL.refl _) trivial rfl rfl rfl ?_;refine evs [] [(20,false)] ?_ ⟨⟨_,rfl,h1⟩,trivial⟩;refine sq ?_ ?_<;>intro h3 h3p h3s<;>(try simp only[Q] at h3p);refine rn0 (.cons (.tmp rfl) (.cons (.tmp rfl) (.cons (.tmp rfl) .nil))) (.tup (.cons (.nild ?_) (.cons (.nild ?_) (.cons (.eqd ?_) .nil))));rotate_left 3;focus (exfalso;contradiction)
   all_goals (first|rfl|(simp_all;done))
 ·have h1':zaD w a k p=false:=by simpa using h1
  rw[h1'] at hpv ⊢;refine bd Tryz.f73 43 [] [] fun w0 F0 own kept hk=>?_;refine bx 3005 ?_;refine bx 3006 ?_;refine bx 3007 ?_;refine ev ?_;refine wc ziY (hpv) rfl rfl ?_;refine ev ?_;refine sq ?_ ?_<;>intro h1 h1p h1s<;>(try simp only[Q] at h1p);refine sqT ?_;refine rn0 (.cons (.tmp rfl) (.cons (.tmp rfl) (.cons (.tmp rfl) .nil))) (.tup (.cons (.nild ?_) (.cons (.nild ?_) (.cons (.eqd ?_) .nil))));rotate_left 3;focus (exfalso;contradiction)
  all_goals (first|rfl|(simp_all;done))
theorem zpA {w:List Data} (hs:WSmall w){a k:Int}{p q:Pat} (hp:p.ok) (hq:q.ok) (hpz:p.size<=1000000000000) (hqz:q.size<=1000000000000):
  FnD Tryz.prog 135 [.d (zam w),.agg [.d (.i a),.d (.i k)],.agg [.d (.i p.op),.d (.i p.ctor),.d (.i p.n),.d (.i p.m),.d (.i p.var),.d (zad p.kids)],.agg [.d (.i q.op),.d (.i q.ctor),.d (.i q.n),.d (.i q.m),.d (.i q.var),.d (zad q.kids)]] []
   (.tup [.d (zad (if (zaD w a k p&&zaD w a k q)=true then zaZ (zat p) else [])),.d (zad (if (zaD w a k p&&zaD w a k q)=true then zaZ (zat q) else [])),.d (.bool (zci w a k p q))]) []:=by
 have hpv:=zfH hs (a:=a) (k:=k) hp hpz;have hqv:=zfH hs (a:=a) (k:=k) hq hqz;have hshape:∀ {x:Pat},zaD w a k x=true->zao w 10 ⟨a,k⟩ x=true:=fun h=>by unfold zaD isP at h;simp only[xad] at h;exact h.2.1
 have hvq:zaD w a k p=true->zaD w a k q=isP w ⟨a,k⟩ q:=fun h=>by unfold zaD at h ⊢;rw[xad] at h;rw[h.1,Bool.true_and]
 have hge:=fun(x:Pat)=>zuU (p:=x);unfold zci;by_cases h1:zaD w a k p=true
 ·rw[<-hvq h1];have hpp:=zib (hshape h1) hp;rw[h1] at hpv ⊢;by_cases h4:zaD w a k q=true
  ·have hpq:=zib (hshape h4) hq;rw[h4] at hqv ⊢;have e:∀x:Pat,zcW x=decide (((zaZ (zat x)).length:Int)<=40):=fun x=>by
    have:=hge x;cases hx:zcW x with
    |true=>
     rw[hx] at this;exact(decide_eq_true (Int.not_lt.1 fun h=>by have:=this.1 h;cases this)).symm
    |false=>
     rw[hx] at this;exact(decide_eq_false (Int.not_le.2 (this.2 rfl))).symm
   rw[e p,e q];refine bd Tryz.f135 39 [] [] fun w0 F0 own kept hk=>?_;refine bx 3005 ?_;refine bx 3006 ?_;refine bx 3007 ?_;refine ev ?_;refine wc zit (hpv) rfl rfl ?_;refine ev ?_;refine sq ?_ ?_<;>intro h1 h1p h1s<;>(try simp only[Q,Pat.cs_len] at h1p);refine sqT ?_;focus (exfalso;contradiction)
   refine Walk.call (cr:=[]) zit (hqv) rfl (.some rfl rfl h1) rfl rfl (LeL.refl _) trivial rfl rfl rfl ?_;refine evs [] [(18,false)] ?_ ⟨⟨_,rfl,h1⟩,trivial⟩;refine sq ?_ ?_<;>intro h3 h3p h3s<;>(try simp only[Q,Pat.cs_len] at h3p);focus (exfalso;contradiction)
   refine wc ztz (hpp) rfl rfl ?_;refine ev ?_;refine wc ztz (hpq) rfl rfl ?_;refine ev ?_;refine sq ?_ ?_<;>intro h4 h4p h4s<;>(try simp only[Q,Pat.cs_len] at h4p);refine rn0 (.cons (.tmp rfl) (.cons (.tmp rfl) (.cons (.tmp rfl) .nil))) (.tup (.cons (.eqd ?_) (.cons (.eqd ?_) (.cons (.eqd ?_) .nil))));rotate_left 3;refine rn0 (.cons (.tmp rfl) (.cons (.tmp rfl) (.cons (.tmp rfl) .nil))) (.tup (.cons (.eqd ?_) (.cons (.eqd ?_) (.cons (.eqd ?_) .nil))));rotate_left 3;all_goals (first|(simp_all[Pat.cs_len];done)|(simp_all[Pat.cs_len];omega))
  ·have h4':zaD w a k q=false:=by simpa using h4
   rw[h4'] at hqv ⊢;refine bd Tryz.f135 39 [] [] fun w0 F0 own kept hk=>?_;refine bx 3005 ?_;refine bx 3006 ?_;refine bx 3007 ?_;refine ev ?_;refine wc zit (hpv) rfl rfl ?_;refine ev ?_;refine sq ?_ ?_<;>intro h1 h1p h1s<;>(try simp only[Q] at h1p);refine sqT ?_;refine rn0 (.cons (.tmp rfl) (.cons (.tmp rfl) (.cons (.tmp rfl) .nil))) (.tup (.cons (.nild ?_) (.cons (.nild ?_) (.cons (.eqd ?_) .nil))));rotate_left 3;refine Walk.call (cr:=[]) zit (hqv) rfl (.some rfl rfl h1) rfl rfl (LeL.refl _) trivial rfl rfl rfl ?_;refine evs [] [(18,false)] ?_ ⟨⟨_,rfl,h1⟩,trivial⟩;refine sq ?_ ?_<;>intro h3 h3p h3s<;>(try simp only[Q] at h3p);refine rn0 (.cons (.tmp rfl) (.cons (.tmp rfl) (.cons (.tmp rfl) .nil))) (.tup (.cons (.nild ?_) (.cons (.nild ?_) (.cons (.eqd ?_) .nil))));rotate_left 3;focus (exfalso;contradiction)
   all_goals (first|rfl|(simp_all;done))
 ·have h1':zaD w a k p=false:=by simpa using h1
  rw[h1'] at hpv ⊢;refine bd Tryz.f135 39 [] [] fun w0 F0 own kept hk=>?_;refine bx 3005 ?_;refine bx 3006 ?_;refine bx 3007 ?_;refine ev ?_;refine wc zit (hpv) rfl rfl ?_;refine ev ?_;refine sq ?_ ?_<;>intro h1 h1p h1s<;>(try simp only[Q] at h1p);refine sqT ?_;refine rn0 (.cons (.tmp rfl) (.cons (.tmp rfl) (.cons (.tmp rfl) .nil))) (.tup (.cons (.nild ?_) (.cons (.nild ?_) (.cons (.eqd ?_) .nil))));rotate_left 3;refine Walk.call (cr:=[]) zit (hqv) rfl (.some rfl rfl h1) rfl rfl (LeL.refl _) trivial rfl rfl rfl ?_;refine evs [] [(18,false)] ?_ ⟨⟨_,rfl,h1⟩,trivial⟩;refine sq ?_ ?_<;>intro h3 h3p h3s<;>(try simp only[Q] at h3p);refine rn0 (.cons (.tmp rfl) (.cons (.tmp rfl) (.cons (.tmp rfl) .nil))) (.tup (.cons (.nild ?_) (.cons (.nild ?_) (.cons (.eqd ?_) .nil))));rotate_left 3;focus (exfalso;contradiction)
  all_goals (first|rfl|(simp_all;done))
theorem zn6 {w:List Data}{a k:Int}{p q:Pat} (h:zci w a k p q=false):minV w a k p q=none:=by unfold minV;rw[if_neg (by rw[h];simp)]
theorem zqM {w:List Data}{a k:Int}{p q:Pat} (h:zci w a k p q=true) (h2:sepV w ⟨a,k⟩ (zaY p)=none):minV w a k p q=none:=by unfold minV;rw[if_pos h,h2]
theorem zqN {w:List Data}{a k:Int}{p q:Pat}{r:List Pat} (h:zci w a k p q=true) (h2:sepV w ⟨a,k⟩ (zaY p)=some r) (h3:zaK w ⟨a,k⟩ r (zaY q)=none):minV w a k p q=none:=by unfold minV;rw[if_pos h,h2];dsimp only;rw[h3]
theorem zqO {w:List Data}{a k:Int}{p q:Pat}{r z:List Pat} (h:zci w a k p q=true) (h2:sepV w ⟨a,k⟩ (zaY p)=some r) (h3:zaK w ⟨a,k⟩ r (zaY q)=some z):minV w a k p q=if z.all (isP w ⟨a,k⟩)=true then some z else none:=by unfold minV;rw[if_pos h,h2];dsimp only;rw[h3]
theorem zrS {z:List Pat}{b:Bool}:zad (if b=true then z else [])=zad ((if b=true then some z else none).getD [])/\b=(if b=true then some z else none:Option (List Pat)).isSome:=by cases b<;>exact⟨rfl,rfl⟩
theorem ze6 {w:List Data} (hs:WSmall w){a k:Int}{p q:Pat} (hp:p.ok) (hq:q.ok) (hfew:zci w a k p q=true->FewQ w ⟨a,k⟩ (zaY p)):
  FnD Tryz.prog 22 [.d (zam w),.agg [.d (.i a),.d (.i k)],.agg [.d (.i p.op),.d (.i p.ctor),.d (.i p.n),.d (.i p.m),.d (.i p.var),.d (zad p.kids)],.agg [.d (.i q.op),.d (.i q.ctor),.d (.i q.n),.d (.i q.m),.d (.i q.var),.d (zad q.kids)]] []
   (.tup [.d (zad ((minV w a k p q).getD [])),.d (.bool (minV w a k p q).isSome)]) []:=by
 have hbp:=zk9 hs (a:=a) (k:=k) hp hq;cases h2:zci w a k p q with
 |false=>
  rw[zn6 h2];rw[h2] at hbp;generalize (if (zaD w a k p&&isP w ⟨a,k⟩ q)=true then zaY p else [])=z1 at hbp;generalize (if (zaD w a k p&&isP w ⟨a,k⟩ q)=true then zaY q else [])=z2 at hbp;refine bd Tryz.f22 51 [] [] fun w0 F0 own kept hk=>?_;refine bx 3005 ?_;refine bx 3006 ?_;refine bx 3007 ?_;refine ev ?_;refine wc zpG (hbp) rfl rfl ?_;refine ev ?_;refine sq ?_ ?_<;>intro h1 h1p h1s;refine rn0 (r2 rfl rfl) (.tup (.cons (.nild ?_) (.cons (.eqd ?_) .nil)));rotate_left 2;focus (exfalso;contradiction)
  all_goals (rfl)
 |true=>
  obtain⟨hsp,hin,t1,t2,_⟩:=zdN hs h2;have hpq:(zaD w a k p&&isP w ⟨a,k⟩ q)=true:=by unfold zci at h2;rw[xad] at h2;exact h2.1
  rw[h2,if_pos hpq,if_pos hpq] at hbp;have hn:=zgO hsp.dp;have hse:=zlQ hsp hin t1 (by have:=zg2 p;omega);cases h3:sepV w ⟨a,k⟩ (zaY p) with
  |none=>
   rw[zqM h2 h3];rw[h3] at hse;have hre:=zfW hsp (f:=zaf w) hin (l:=[]) (ok:=false) (by simp) (by simp);refine bd Tryz.f22 51 [] [] fun w0 F0 own kept hk=>?_;refine bx 3005 ?_;refine bx 3006 ?_;refine bx 3007 ?_;refine ev ?_;refine wc zpG (hbp) rfl rfl ?_;refine ev ?_;refine sq ?_ ?_<;>intro h1 h1p h1s;focus (exfalso;contradiction)
   refine wc zmr (hn) rfl rfl ?_;refine ev ?_;refine wc zsQ (hse) rfl rfl ?_;refine ev ?_;refine sq ?_ ?_<;>intro h2 h2p h2s;focus (exfalso;contradiction)
   refine wc zsS (hre) rfl rfl ?_;refine ev ?_;refine rn0 (r2 rfl rfl) (.tup (.cons (.eqd ?_) (.cons (.eqd ?_) .nil)));rotate_left 2;all_goals (rfl)
  |some r=>
   rw[h3] at hse;have hr4:=hfew h2 r h3;have hrp:=zgx _ [] [] (by simp) t1 (by simp) h3;have hwo:=zhZ hsp hin hrp t2 hr4 (by have:=zg2 q;omega);cases h4:zaK w ⟨a,k⟩ r (zaY q) with
   |none=>
    rw[zqN h2 h3 h4];rw[h4] at hwo;have hre:=zfW hsp (f:=zaf w) hin (l:=[]) (ok:=false) (by simp) (by simp);refine bd Tryz.f22 51 [] [] fun w0 F0 own kept hk=>?_;refine bx 3005 ?_;refine bx 3006 ?_;refine bx 3007 ?_;refine ev ?_;refine wc zpG (hbp) rfl rfl ?_;refine ev ?_;refine sq ?_ ?_<;>intro h1 h1p h1s;focus (exfalso;contradiction)
    refine wc zmr (hn) rfl rfl ?_;refine ev ?_;refine wc zsQ (hse) rfl rfl ?_;refine ev ?_;refine sq ?_ ?_<;>intro h2 h2p h2s;refine wc zsR (hwo) rfl rfl ?_;refine ev ?_;refine wc zsS (hre) rfl rfl ?_;refine ev ?_;refine rn0 (r2 rfl rfl) (.tup (.cons (.eqd ?_) (.cons (.eqd ?_) .nil)));rotate_left 2;focus (exfalso;contradiction)
    all_goals (rfl)
   |some z=>
    rw[zqO h2 h3 h4];rw[h4] at hwo;have hz:=zd7 (zaY q) _ z (fun x hx=>hrp x (List.mem_filter.1 hx).1) (Nat.le_trans (List.length_filter_le _ _) hr4) t2 h4;have hre:=zfW hsp (f:=zaf w) hin (l:=z) (ok:=true) (fun x hx=>(zf4 hsp 11 hin (hz.2 x hx)).1) (by have:=hz.1;omega);rw[Bool.true_and] at hre;have ha:=fun b=>zrS (z:=z) (b:=b);generalize z.all (isP w ⟨a,k⟩)=b at *;refine bd Tryz.f22 51 [] [] fun w0 F0 own kept hk=>?_;refine bx 3005 ?_;refine bx 3006 ?_;refine bx 3007 ?_;refine ev ?_;refine wc zpG (hbp) rfl rfl ?_;refine ev ?_;refine sq ?_ ?_<;>intro h1 h1p h1s;focus (exfalso;contradiction)
    refine wc zmr (hn) rfl rfl ?_;refine ev ?_;refine wc zsQ (hse) rfl rfl ?_;refine ev ?_;refine sq ?_ ?_<;>intro h2 h2p h2s;refine wc zsR (hwo) rfl rfl ?_;refine ev ?_;refine wc zsS (hre) rfl rfl ?_;refine ev ?_;refine rn0 (r2 rfl rfl) (.tup (.cons (.eqd ?_) (.cons (.eqd ?_) .nil)));rotate_left 2;focus (exfalso;contradiction)
    all_goals (first|exact(ha b).1|exact congrArg D.bool (ha b).2)
theorem ziK {w:List Data} (hs:WSmall w){a k:Int}{p q:Pat} (hp:p.ok) (hq:q.ok) (hpz:p.size<=1000000000000) (hqz:q.size<=1000000000000) (hfew:zci w a k p q=true->FewQ w ⟨a,k⟩ (zaY p)):
  FnD Tryz.prog 65 [.d (zam w),.agg [.d (.i a),.d (.i k)],.agg [.d (.i p.op),.d (.i p.ctor),.d (.i p.n),.d (.i p.m),.d (.i p.var),.d (zad p.kids)],.agg [.d (.i q.op),.d (.i q.ctor),.d (.i q.n),.d (.i q.m),.d (.i q.var),.d (zad q.kids)]] []
   (.tup [.d (zad ((minV w a k p q).getD [])),.d (.bool (minV w a k p q).isSome)]) []:=by
 have hbp:=zpA hs (a:=a) (k:=k) hp hq hpz hqz;cases h2:zci w a k p q with
 |false=>
  rw[zn6 h2];rw[h2] at hbp;generalize (if (zaD w a k p&&zaD w a k q)=true then zaZ (zat p) else [])=z1 at hbp;generalize (if (zaD w a k p&&zaD w a k q)=true then zaZ (zat q) else [])=z2 at hbp;refine bd Tryz.f65 59 [] [] fun w0 F0 own kept hk=>?_;refine bx 3005 ?_;refine bx 3006 ?_;refine bx 3007 ?_;refine ev ?_;refine wc zmh (hbp) rfl rfl ?_;refine ev ?_;refine sq ?_ ?_<;>intro h1 h1p h1s;refine xbh sl34 .none rfl ?_;refine ev ?_;refine rn0 (r2 rfl rfl) (.tup (.cons (.eqd ?_) (.cons (.eqd ?_) .nil)));rotate_left 2;focus (exfalso;contradiction)
  all_goals (rfl)
 |true=>
  obtain⟨hsp,hin,t1,t2,_⟩:=zdN hs h2;have hpq:(zaD w a k p&&zaD w a k q)=true/\zcW p=true/\zcW q=true:=by
   unfold zci at h2;simp only[xad] at h2;have h5:=h2.1.1;unfold zaD at h5 ⊢;rw[xad] at h5;exact⟨by rw[h5.1,h5.2,h2.1.2];rfl,h2.2⟩
  rw[h2,if_pos hpq.1,if_pos hpq.1,zpe hpq.2.1,zpe hpq.2.2] at hbp;have hn:=zh8 hsp.dp;have hse:=znz hsp hin t1 (by have:=zg2 p;omega) (hfew h2);cases h3:sepV w ⟨a,k⟩ (zaY p) with
  |none=>
   rw[zqM h2 h3];rw[h3] at hse;refine bd Tryz.f65 59 [] [] fun w0 F0 own kept hk=>?_;refine bx 3005 ?_;refine bx 3006 ?_;refine bx 3007 ?_;refine ev ?_;refine wc zmh (hbp) rfl rfl ?_;refine ev ?_;refine sq ?_ ?_<;>intro h1 h1p h1s;focus (exfalso;contradiction)
   refine wc zmg (hn) rfl rfl ?_;refine ev ?_;refine wc zpV (hse) rfl rfl ?_;refine ev ?_;refine sq ?_ ?_<;>intro h2 h2p h2s;refine xbh sl34 .none rfl ?_;refine ev ?_;refine rn0 (r2 rfl rfl) (.tup (.cons (.eqd ?_) (.cons (.eqd ?_) .nil)));rotate_left 2;focus (exfalso;contradiction)
   all_goals (rfl)
  |some r=>
   rw[h3] at hse;have hr4:=hfew h2 r h3;have hrp:=zgx _ [] [] (by simp) t1 (by simp) h3;have hwo:=zgA hsp hin hrp t2 hr4 (by have:=zg2 q;omega);cases h4:zaK w ⟨a,k⟩ r (zaY q) with
   |none=>
    rw[zqN h2 h3 h4];rw[h4] at hwo;have hre:=zic hsp hin (l:=[]) (ok:=false) (by simp) (by simp);refine bd Tryz.f65 59 [] [] fun w0 F0 own kept hk=>?_;refine bx 3005 ?_;refine bx 3006 ?_;refine bx 3007 ?_;refine ev ?_;refine wc zmh (hbp) rfl rfl ?_;refine ev ?_;refine sq ?_ ?_<;>intro h1 h1p h1s;focus (exfalso;contradiction)
    refine wc zmg (hn) rfl rfl ?_;refine ev ?_;refine wc zpV (hse) rfl rfl ?_;refine ev ?_;refine sq ?_ ?_<;>intro h2 h2p h2s;focus (exfalso;contradiction)
    refine wc zpW (hwo) rfl rfl ?_;refine ev ?_;refine wc ztB (hre) rfl rfl ?_;refine ev ?_;refine rn0 (r2 rfl rfl) (.tup (.cons (.eqd ?_) (.cons (.eqd ?_) .nil)));rotate_left 2;all_goals (rfl)
   |some z=>
    rw[zqO h2 h3 h4];rw[h4] at hwo;have hz:=zd7 (zaY q) _ z (fun x hx=>hrp x (List.mem_filter.1 hx).1) (Nat.le_trans (List.length_filter_le _ _) hr4) t2 h4;have hre:=zic hsp hin (l:=z) (ok:=true) (fun x hx=>⟨(zf4 hsp 11 hin (hz.2 x hx)).1,by have:=(zf4 hsp 11 hin (hz.2 x hx)).2;have:=zqY (n:=11) (by omega);omega⟩) (by have:=hz.1;omega);rw[Bool.and_true] at hre;have ha:=fun b=>zrS (z:=z) (b:=b);generalize z.all (isP w ⟨a,k⟩)=b at *;refine bd Tryz.f65 59 [] [] fun w0 F0 own kept hk=>?_;refine bx 3005 ?_;refine bx 3006 ?_;refine bx 3007 ?_;refine ev ?_;refine wc zmh (hbp) rfl rfl ?_;refine ev ?_;refine sq ?_ ?_<;>intro h1 h1p h1s;focus (exfalso;contradiction)
    refine wc zmg (hn) rfl rfl ?_;refine ev ?_;refine wc zpV (hse) rfl rfl ?_;refine ev ?_;refine sq ?_ ?_<;>intro h2 h2p h2s;focus (exfalso;contradiction)
    refine wc zpW (hwo) rfl rfl ?_;refine ev ?_;refine wc ztB (hre) rfl rfl ?_;refine ev ?_;refine rn0 (r2 rfl rfl) (.tup (.cons (.eqd ?_) (.cons (.eqd ?_) .nil)));rotate_left 2;all_goals (first|exact(ha b).1|exact congrArg D.bool (ha b).2)
def winV (w:List Data) (a k:Int) (p q:Pat):Bool:=(minV w a k p q).isSome&&decide (((minV w a k p q).getD []).length=0)
theorem ziC {w:List Data} (hs:WSmall w){a k:Int}{p q:Pat} (hp:p.ok) (hq:q.ok) (hfew:zci w a k p q=true->FewQ w ⟨a,k⟩ (zaY p)):
  FnD Tryz.prog 18 [.d (zam w),.agg [.d (.i a),.d (.i k)],.agg [.d (.i p.op),.d (.i p.ctor),.d (.i p.n),.d (.i p.m),.d (.i p.var),.d (zad p.kids)],.agg [.d (.i q.op),.d (.i q.ctor),.d (.i q.n),.d (.i q.m),.d (.i q.var),.d (zad q.kids)]] []
   (.tup [.d (.bool (winV w a k p q)),.d (.bool (minV w a k p q).isSome)]) []:=by
 have hmp:=ze6 hs hp hq hfew;unfold winV;generalize minV w a k p q=m at *;refine bd Tryz.f18 27 [] [] fun w0 F0 own kept hk=>?_;refine bx 3005 ?_;refine bx 3006 ?_;refine bx 3007 ?_;refine ev ?_;refine wc zv4 (hmp) rfl rfl ?_;refine ev ?_;refine sq ?_ ?_<;>intro h1 h1p h1s;refine rn0 (r2 rfl rfl) (.tup (.cons (.eqd ?_) (.cons (.eqd ?_) .nil)));rotate_left 2;refine rn0 (r2 rfl rfl) (.tup (.cons (.eqd ?_) (.cons (.eqd ?_) .nil)));rotate_left 2;all_goals ((simp_all[Pat.cs_len];done))
theorem ziL {w:List Data} (hs:WSmall w){a k:Int}{p q:Pat} (hp:p.ok) (hq:q.ok) (hpz:p.size<=1000000000000) (hqz:q.size<=1000000000000) (hfew:zci w a k p q=true->FewQ w ⟨a,k⟩ (zaY p)):
  FnD Tryz.prog 19 [.d (zam w),.agg [.d (.i a),.d (.i k)],.agg [.d (.i p.op),.d (.i p.ctor),.d (.i p.n),.d (.i p.m),.d (.i p.var),.d (zad p.kids)],.agg [.d (.i q.op),.d (.i q.ctor),.d (.i q.n),.d (.i q.m),.d (.i q.var),.d (zad q.kids)]] []
   (.tup [.d (.bool (winV w a k p q)),.d (.bool (minV w a k p q).isSome)]) []:=by
 have hmp:=ziK hs hp hq hpz hqz hfew;unfold winV;generalize minV w a k p q=m at *;refine bd Tryz.f19 27 [] [] fun w0 F0 own kept hk=>?_;refine bx 3005 ?_;refine bx 3006 ?_;refine bx 3007 ?_;refine ev ?_;refine wc zyd (hmp) rfl rfl ?_;refine ev ?_;refine sq ?_ ?_<;>intro h1 h1p h1s;refine rn0 (r2 rfl rfl) (.tup (.cons (.eqd ?_) (.cons (.eqd ?_) .nil)));rotate_left 2;refine rn0 (r2 rfl rfl) (.tup (.cons (.eqd ?_) (.cons (.eqd ?_) .nil)));rotate_left 2;all_goals ((simp_all[Pat.cs_len];done))
end Go.Proofs.YtlfipehhbdjnjaaGreat
namespace Go.Proofs.YtlfipehhbdjnjaaGreat
open Go
set_option linter.unusedSimpArgs false
set_option linter.unusedVariables false
theorem zup (L:List Nat) (hp:Hp) (i:Nat):getH (L.map (fun j=>(j,(none:Option Res)))++hp) i=if i∈L then none else getH hp i:=by
 induction L with
 |nil=>simp
 |cons x r ih=>
  simp only[xae,xag,zal,List.mem_cons];by_cases h:i=x
  ·subst h;simp
  ·simp[h,ih]
section
variable {c:Ctx}
theorem R.drop {G:Gh}{s:St}{a:Act}{w:World} (hr:R c G s a w) (L:List Nat) (hk:∀i l,c.kept i=some l->i∉L):R c G ⟨s.env,L.map (fun j=>(j,none))++s.hp⟩ a w:=by
 have hg:=zup L s.hp;have hT:∀i p,tokf (L.map (fun j=>(j,(none:Option Res)))++s.hp) i=some p->tokf s.hp i=some p:=fun i p h=>by
  obtain⟨n,k⟩:=p;have:=zaw.1 h;rw[hg] at this;split at this
  ·cases this
  ·exact zaw.2 this
 have hm:∀ {x:AV}{v:Value},RelA G (tokf s.hp) w x v->RelA G (tokf (L.map (fun j=>(j,(none:Option Res)))++s.hp)) w x v:=fun hx=>
  hx.mono (fun _ _ ho=>⟨ho,rfl⟩) (fun _ _=> .inl rfl) (fun i _ p hp=>⟨hT i p hp,fun _ _=>⟨rfl,rfl⟩⟩)
 have hs:∀i r,getH (L.map (fun j=>(j,(none:Option Res)))++s.hp) i=some r->getH s.hp i=some r:=fun i r h=>by
  rw[hg] at h;split at h
  ·cases h
  ·exact h
 have hss:∀i,(getH (L.map (fun j=>(j,(none:Option Res)))++s.hp) i).isSome->(getH s.hp i).isSome:=fun i h=>by
  obtain⟨r,hr⟩:=Option.isSome_iff_exists.1 h;rw[hs i r hr];rfl
 refine⟨hr.size,hr.defers,fun i v h=>hm (hr.slots i v h),fun i r h=>?_,fun i j h1 h2=>hr.disj i j (hss i h1) (hss j h2),fun i h=>hr.new i (hss i h),hr.frm,hr.top,fun i l hl=>?_⟩
 ·have hh:=hr.heap i r (hs i r h);cases r with
  |box cs=>
   obtain⟨b,vs,e,h1,h2,h3,h4,h5⟩:=hh;exact⟨b,vs,e,h1,h2,h3,h4,fun j hj hv=>hm (h5 j hj hv)⟩
  |tok m k=>exact hh
  |map ks=>exact hh
  |tree cs=>exact zbr hh rfl (fun _ _=>⟨rfl,rfl⟩) (Nat.le_refl _) (fun _ _ _=>hm)
 ·obtain⟨k1,k2,k3⟩:=hr.kept i l hl;refine⟨k1, ?_, ?_⟩
  ·show(getH (L.map (fun j=>(j,(none:Option Res)))++s.hp) i).isSome
   rw[hg,if_neg (hk i l hl)];exact k2
  ·show tokf (L.map (fun j=>(j,(none:Option Res)))++s.hp) i=none
   cases h:tokf (L.map (fun j=>(j,(none:Option Res)))++s.hp) i with
   |none=>rfl
   |some p=>rw[hT i p h] at k3;cases k3
inductive RowT (hp:Hp):List AV->List D->List (Nat×Nat×Nat)->Prop
 |nil:RowT hp [] [] []
 |sc {x cs ds js} (hs:zk2 x=true) (h:RowT hp cs ds js):RowT hp (.d x::cs) (x::ds) js
 |ni {cs ds js} (h:RowT hp cs ds js):RowT hp (.nils::cs) (.sl []::ds) js
 |gt {j zs n k cs ds js} (hj:getH hp j=some (.tok n k)) (hn:n=zs.length) (h:RowT hp cs ds js):RowT hp (.gt j zs::cs) (.sl zs::ds) ((j,n,k)::js)
theorem RowT.move {hp hp':Hp}{cs:List AV}{ds:List D}{js:List (Nat×Nat×Nat)} (h:RowT hp cs ds js):(∀q,q∈js->getH hp' q.1=some (.tok q.2.1 q.2.2))->RowT hp' cs ds js:=by
 induction h with
 |nil=>intro _;exact .nil
 |sc hs _ ih=>intro h;exact .sc hs (ih h)
 |ni _ ih=>intro h;exact .ni (ih h)
 |gt hj hn _ ih=>intro h;exact .gt (h (_,_,_) List.mem_cons_self) hn (ih fun q hq=>h q (List.mem_cons_of_mem _ hq))
theorem RowT.len {hp:Hp}{cs:List AV}{ds:List D}{js:List (Nat×Nat×Nat)} (h:RowT hp cs ds js):ds.length=cs.length:=by
 induction h with
 |nil=>rfl
 |sc _ _ ih=>simp[ih]
 |ni _ ih=>simp[ih]
 |gt _ _ _ ih=>simp[ih]
end
end Go.Proofs.YtlfipehhbdjnjaaGreat
namespace Go.Proofs.YtlfipehhbdjnjaaGreat
open Go
set_option linter.unusedSimpArgs false
set_option linter.unusedVariables false
set_option maxRecDepth 100000
set_option maxHeartbeats 2000000
def smB (n:Nat) (w:List Data):Bool:=decide (w.length<=n)&&w.all fun d=>decide (d.name.length<=n)&&(decide (d.ctors.length<=n)&&d.ctors.all fun c=>decide (c.name.length<=n)&&decide (c.args.length<=n))
structure Sm (n:Nat) (w:List Data):Prop where
 len:w.length<=n
 data:∀d∈w,d.name.length<=n/\d.ctors.length<=n
 ctor:∀d∈w,∀c∈d.ctors,c.name.length<=n/\c.args.length<=n
theorem zuP {n:Nat}{w:List Data} (h:smB n w=true):Sm n w:=by
 simp only[smB,xad,decide_eq_true_eq,List.all_eq_true] at h;exact⟨h.1,fun d hd=>⟨(h.2 d hd).1,(h.2 d hd).2.1⟩,fun d hd c hc=>(h.2 d hd).2.2 c hc⟩
theorem Sm.small {n:Nat}{w:List Data} (h:Sm n w) (hn:n<=1000000000000):WSmall w:=
 ⟨Nat.le_trans h.len hn,fun d hd=>⟨Nat.le_trans (h.data d hd).1 hn,Nat.le_trans (h.data d hd).2 hn⟩,fun d hd c hc=>⟨Nat.le_trans (h.ctor d hd c hc).1 hn,Nat.le_trans (h.ctor d hd c hc).2 hn⟩⟩
theorem ztv:((List.range 7).all fun i=>smB 10 (zdk (nth zdF i)).1&&(za4 (zdk (nth zdF i)).1&&decide (1<=(zdk (nth zdF i)).1.length)))=true:=by kernel_rfl
structure WorldD (w:List Data):Prop where
 sm:Sm 10 w
 small:WSmall w
 valid:za4 w=true
 one:1<=w.length
theorem zik (b:Str) (p:Nat):WorldD (zbj b p):=by
 have h:=List.all_eq_true.1 ztv (zax b p 7).toNat (List.mem_range.2 (zpK b p));simp only[xad,decide_eq_true_eq] at h;exact⟨zuP h.1,(zuP h.1).small (by omega),h.2.1,h.2.2⟩
theorem zoh {w:List Data} (hw:WT w){n:Nat}{f:Nat->Nat}{a k c:Int} (ht:TyIn w.length ⟨a,k⟩) (hc:c∈zai w ⟨a,k⟩) (hn:n<=100) (hb:∀s,f s<=100000) (hin:∀u∈zaa w ⟨a,k⟩ c,InS n u):
  FnD Tryz.prog 227 [.d (zam w),.d (zeO n f),.agg [.d (.i a),.d (.i k)],.d (.i c)] [] (.d (.i (most w f ⟨a,k⟩ c))) []:=by
 have hl:=zfm hw ht hc;have hd:=zmy hb (by omega);refine bd Tryz.f227 37 [] [] fun w0 F0 own kept hk=>?_;refine bx 3006 ?_;refine ev ?_;refine wc zgp (zck hw ht hc) rfl rfl ?_;refine ev ?_;refine xak (ι:=List (Ty)×List (Ty)×(Nat)) hk (fun x=>[(11,.d (.i (x.1.length:Int))),(10,.d (.i (x.2.2:Int)))]) [8,12,17,18,19,20,21,22,23,24,25,26,27,28,29,30,31,32,33,34] (fun x=>[]) (fun x=>x.1++x.2.1=zaa w ⟨a,k⟩ c/\x.2.2<=100000/\zbn f x.2.2 x.2.1=zbn f 0 (zaa w ⟨a,k⟩ c)) (fun x=>x.2.1.length) ([],zaa w ⟨a,k⟩ c,0) ⟨by simp,by simp,rfl⟩ ⟨⟨_,rfl,xaq ?_⟩,⟨⟨_,rfl,xaq ?_⟩,trivial⟩⟩ trivial (fun x=>rfl) (fun x hg1=>?_);iterate 2 focus (first|rfl|(simp;done)|omega|(dsimp only;omega))
 obtain⟨pre,rest,m⟩:=x;dsimp only at hg1 ⊢;refine evc [] [] ?_;refine sq ?_ ?_<;>intro h1 h1p h1s<;>(try simp only[Q] at h1p);rcases rest with _|⟨y,rest⟩
 ·exfalso;simp_all
 have hdy:=hd y;have hye:dv f ⟨y.data,y.index⟩=dv f y:=rfl;refine xaU zaV .none rfl rfl rfl rfl (zaL hg1.1) rfl ?_;refine ev ?_;refine wc zjX (zeh (f:=f) (a:=y.data) (k:=y.index) (hin y (by rw[<-hg1.1];simp)) hn) rfl rfl ?_;refine ev ?_;refine sq ?_ ?_<;>intro h2 h2p h2s<;>(try simp only[Q] at h2p);refine rq ?_;rotate_left;refine sq ?_ ?_<;>intro h3 h3p h3s<;>(try simp only[Q] at h3p);refine ar ?_;refine xah ((pre++[y],rest,max m (dv f y))) ⟨⟨(by have hz:=hg1.1;rw[<-hz];simp),⟨(by have:=hd y;dsimp only;omega),(by rw[<-hg1.2.2];simp only[zbn];rw[if_neg (by have:=hd y;omega)])⟩⟩,(by simp),sx ⟨⟨_,rfl,xaq ?_⟩,⟨⟨_,rfl,xaq ?_⟩,trivial⟩⟩ trivial⟩;iterate 2 focus (first|rfl|(simp;done)|omega|(dsimp only;omega))
 refine ar ?_;refine xah ((pre++[y],rest,max m (dv f y))) ⟨⟨(by have hz:=hg1.1;rw[<-hz];simp),⟨(by have:=hd y;dsimp only;omega),(by rw[<-hg1.2.2];simp only[zbn];rw[if_neg (by have:=hd y;omega)])⟩⟩,(by simp),sx ⟨⟨_,rfl,xaq ?_⟩,⟨⟨_,rfl,xaq ?_⟩,trivial⟩⟩ trivial⟩;iterate 2 focus (first|rfl|(simp;done)|omega|(dsimp only;omega))
 have hrest:rest=[]:=by
  rcases rest with _|⟨a,b⟩
  ·rfl
  ·exfalso;have hz:=congrArg List.length (hg1.1);simp only[xaa,xab,xac] at hz;omega
 subst hrest;refine ar ?_;refine rq ?_;rotate_left;all_goals (refine congrArg D.i ?_;unfold most;rw[<-hg1.2.2];first|(simp only[zbn];rw[if_pos (by omega)];rfl)|(simp only[zbn];omega))
def hdB (w:List Data):Nat->Ty->Bool
 |0,_=>false
 |d+1,t=>decide (t.data = -1)||(zaW w t).any fun c=>decide (t.data≠ -1)&&(zaa w t c).all (hdB w d)
theorem znX (w:List Data):∀(d:Nat) (t:Ty),hdB w d t=true↔Hd w d t
 |0,t=>by simp[hdB,Hd]
 |d+1,t=>by
  simp only[hdB,Hd,Bool.or_eq_true,decide_eq_true_eq,List.any_eq_true,xad,List.all_eq_true,znX w d]
def Low (w:List Data):Prop:=∀s,zaf w s<=3
theorem zx3 {w:List Data} (hd:Dp w) (h:(List.range (w.length*4)).all (fun s=> !hdB w 4 (tyS s)||hdB w 3 (tyS s))=true):Low w:=by
 intro s;by_cases hs:s<w.length*4
 ·obtain⟨h1,h2⟩:=zc0 hd.cl (w.length*4+1);by_cases h0:zaf w s=0
  ·omega
  ·have hh:=h1 s hs (Nat.pos_of_ne_zero h0);have h3:=zka hd.cl (d:=3) (by omega) (fun s hs hh=>by
    have:=List.all_eq_true.1 h s (List.mem_range.2 hs);rw[(znX w 4 (tyS s)).2 hh] at this;exact(znX w 3 _).1 (by simpa using this)) _ s hs hh
   by_cases h4:3<=w.length*4+1
   ·exact(h2 s hs 3 h4 h3).2
   ·omega
 ·have h0:=zjd (w:=w) (i:=s) (by omega) (w.length*4+1);show zbg w (w.length*4+1) s<=3
  omega
theorem ztw:((List.range 7).all fun i=>(List.range ((zdk (nth zdF i)).1.length*4)).all fun s=> !hdB (zdk (nth zdF i)).1 4 (tyS s)||hdB (zdk (nth zdF i)).1 3 (tyS s))=true:=by kernel_rfl
structure WorldL (w:List Data):Prop where
 dp:Dp w
 low:Low w
 few:Few w
theorem zd2 (b:Str) (p:Nat):WorldL (zbj b p):=by
 have ho:=zik b p;have hd:=zma ho.small ho.valid;exact⟨hd,zx3 hd (List.all_eq_true.1 ztw (zax b p 7).toNat (List.mem_range.2 (zpK b p))),zu5 ho.small ho.valid⟩
theorem zoY {w:List Data} (hd:Dp w){t:Ty} (ht:InS (w.length*4) t) (hne:¬t.data = -1) (h:0<dv (zaf w) t):∃c∈zai w t,0<most w (zaf w) t c/\most w (zaf w) t c=dv (zaf w) t:=by
 obtain⟨h1,h2⟩:Snd w (zaf w)/\Cmp w (w.length*4+1) (zaf w):=zc0 hd.cl (w.length*4+1);have hcmp:∀k,Cmp w k (zaf w):=fun k=>by
  have h3:=(zc0 hd.cl (max k (w.length*4+1))).2;rw[zkZ hd.cl (Nat.le_max_right _ _)] at h3;exact fun s hs d hdk hh=>h3 s hs d (by omega) hh
 have hv:zai w t=zaW w t:=by unfold zai;rw[if_neg hne]
 have hh:Hd w (dv (zaf w) t) t:=zmz h1 ht h;rcases hd0:dv (zaf w) t with _|e
 ·omega
 rw[hd0] at hh;rcases hh with hh|⟨c,hc,_,hu⟩
 ·exact absurd hh hne
 have hin:=za7 hd ht (c:=c) (by rw[hv];exact hc);have hp:=zkl (f:=zaf w) (l:=zaa w t c) (m:=0) (k:=e) (Nat.zero_le _) (fun u hu'=>zj6 (hcmp e) (hin u hu') (hu u hu'));refine⟨c,by rw[hv];exact hc,hp.1, ?_⟩;have hle:most w (zaf w) t c<=e+1:=hp.2;have hpos:0<most w (zaf w) t c:=hp.1

 have hsn:=zgv (f:=zaf w) (l:=zaa w t c) (m:=0) hp.1;have hH:Hd w (most w (zaf w) t c) t:=by
  obtain⟨q,hq⟩:∃q,most w (zaf w) t c=q+1:=⟨most w (zaf w) t c-1,by omega⟩;rw[hq];refine .inr ⟨c,hc,hne,fun u hu'=>?_⟩;have hx:=hsn.2 u hu';have hlt:dv (zaf w) u<most w (zaf w) t c:=hx.2;exact Hd_le (by omega) (zmz h1 (hin u hu') hx.1)
 have hge:=(zj6 (hcmp _) ht hH).2;omega
def zez (w:List Data) (f:Nat->Nat) (t:Ty) (m c:Int):Bool:=decide (0<most w f t c)&&decide ((most w f t c:Int)<=m\/most w f t c=dv f t)
def zcc (w:List Data) (f:Nat->Nat) (t:Ty) (m:Int):List Int:=(zai w t).filter (zez w f t m)
theorem zqq {P:Int->Bool}{pre:List Int}{y:Int} (h:P y=true):((pre++[y]).filter P).map (fun n=>[D.i n])=(pre.filter P).map (fun n=>[D.i n])++[[D.i y]]:=by simp[List.filter_append,h]
theorem zwC {P:Int->Bool}{pre:List Int}{y:Int} (h:P y=false):((pre++[y]).filter P).map (fun n=>[D.i n])=(pre.filter P).map (fun n=>[D.i n]):=by simp[List.filter_append,h]
def dV (f:Ty->Nat->Val×Nat):List Ty->Nat->List Val×Nat
 | [],q=>([],q)
 |t::r,q=>((f t q).1::(dV f r (f t q).2).1,(dV f r (f t q).2).2)
def zbW (b:Str) (w:List Data) (f:Nat->Nat):Nat->Ty->Int->Nat->Val×Nat
 |0,_,_,p=>(.mk 0 0 [],p)
 |n+1,t,m,p=>
  if t.data = -1 then (.mk (-1) (zax b p 10) [],p+1)
  else (.mk (nth (zcc w f t m) (zax b p (zcc w f t m).length).toNat) 0 (dV (fun u q=>zbW b w f n u (m-1) q) (zaa w t (nth (zcc w f t m) (zax b p (zcc w f t m).length).toNat)) (p+1)).1,
   (dV (fun u q=>zbW b w f n u (m-1) q) (zaa w t (nth (zcc w f t m) (zax b p (zcc w f t m).length).toNat)) (p+1)).2)
abbrev dW (b:Str) (w:List Data) (n:Nat) (m:Int):Ty->Nat->Val×Nat:=fun u x=>zbW b w (zaf w) n u (m-1) x
def bdV:Nat->Nat
 |0=>0
 |d+1=>1+3*bdV d
def szV:Nat->Nat
 |0=>1
 |d+1=>1+3*szV d
theorem zwa {f:Ty->Nat->Val×Nat}{k:Nat}:∀(l:List Ty) (q:Nat),(∀t∈l,∀q,(f t q).2<=q+k)->(dV f l q).2<=q+l.length*k
 | [],q,_=>by simp[dV]
 |t::r,q,h=>by
  have h1:=h t (by simp) q;have h2:=zwa r (f t q).2 (fun x hx=>h x (by simp[hx]));simp only[dV,xab,Nat.add_mul];omega
theorem zue {f:Ty->Nat->Val×Nat}:∀(l:List Ty) (q:Nat),(dV f l q).1.length=l.length
 | [],q=>rfl
 |t::r,q=>by simp only[dV,xab,zue r]
theorem zwb {f:Ty->Nat->Val×Nat}{k:Nat}:∀(l:List Ty) (q:Nat),(∀t∈l,∀q,(f t q).1.size<=k/\(f t q).1.ok)->Vals.size (dV f l q).1<=l.length*k/\Vals.ok (dV f l q).1
 | [],q,_=>by simp[dV,Vals.size,Vals.ok]
 |t::r,q,h=>by
  have h1:=h t (by simp) q;have h2:=zwb r (f t q).2 (fun x hx=>h x (by simp[hx]));simp only[dV,xab,Nat.add_mul,Vals.size,Vals.ok];exact⟨by omega,h1.2,h2.2⟩
theorem zj9 {w:List Data}{f:Nat->Nat}{t:Ty}{m c:Int} (h:c∈zcc w f t m):c∈zai w t/\0<most w f t c/\((most w f t c:Int)<=m\/most w f t c=dv f t):=by
 have:=List.mem_filter.1 h;simpa [zez] using this
structure Deep (w:List Data) (n:Nat) (t:Ty) (m:Int):Prop where
 ins:InS (w.length*4) t
 pos:0<dv (zaf w) t
 le:dv (zaf w) t<=n
 ml:m<=n
theorem zqp {w:List Data} (hd:Dp w){n:Nat}{t:Ty}{m:Int} (h:Deep w n t m) (hne:¬t.data = -1):1<=(zcc w (zaf w) t m).length:=by
 obtain⟨c,hc,h1,h2⟩:=zoY hd h.ins hne h.pos;exact List.length_pos_of_mem (a:=c) (List.mem_filter.2 ⟨hc,by have:=h.pos;simp[zez,h2,this]⟩)
theorem zqi {w:List Data} (hd:Dp w){n:Nat}{t:Ty}{m c:Int} (h:Deep w (n+1) t m) (hc:c∈zcc w (zaf w) t m):∀u∈zaa w t c,Deep w n u (m-1):=by
 intro u hu;obtain⟨h1,h2,h3⟩:=zj9 hc;have hin:=za7 hd h.ins h1 u hu;have hs:=(zgv (f:=zaf w) (l:=zaa w t c) (m:=0) h2).2 u hu;have hlt:dv (zaf w) u<most w (zaf w) t c:=hs.2;have:=h.le;have:=h.ml;exact⟨hin,hs.1,by rcases h3 with h3|h3<;>omega,by omega⟩
theorem zo7 {w:List Data} (hd:Dp w){n:Nat}{t:Ty}{m:Int} (h:Deep w n t m) (hne:¬t.data = -1) (b:Str) (p:Nat):nth (zcc w (zaf w) t m) (zax b p (zcc w (zaf w) t m).length).toNat∈zcc w (zaf w) t m:=
 zjl (by have:=zqp hd h hne;omega)
theorem zi6 {b:Str}{w:List Data} (hd:Dp w) (hf:Few w):∀(n:Nat) (t:Ty) (m:Int) (p:Nat),Deep w n t m->(zbW b w (zaf w) n t m p).2<=p+bdV n/\(zbW b w (zaf w) n t m p).1.size<=szV n/\(zbW b w (zaf w) n t m p).1.ok
 |0,t,m,p,h=>by have:=h.pos;have:=h.le;omega
 |n+1,t,m,p,h=>by
  simp only[zbW,bdV,szV];split
  ·refine⟨by dsimp only;omega, ?_, ?_⟩
   ·simp only[Val.size,Vals.size];omega
   ·simp[Val.ok,Vals.ok]
  ·rename_i hne;have hm:=zo7 hd h hne b p;generalize nth (zcc w (zaf w) t m) (zax b p (zcc w (zaf w) t m).length).toNat=c at *;have hk:=zqi hd h hm;have h3:=(hf t c (zj9 hm).1 (zbD h.ins)).1;have h1:=zwa (f:=fun u q=>zbW b w (zaf w) n u (m-1) q) (k:=bdV n) (zaa w t c) (p+1) (fun u hu q=>(zi6 hd hf n u (m-1) q (hk u hu)).1);have h2:=zwb (f:=fun u q=>zbW b w (zaf w) n u (m-1) q) (k:=szV n) (zaa w t c) (p+1) (fun u hu q=>(zi6 hd hf n u (m-1) q (hk u hu)).2);have h4:(zaa w t c).length*bdV n<=3*bdV n:=Nat.mul_le_mul_right _ h3;have h5:(zaa w t c).length*szV n<=3*szV n:=Nat.mul_le_mul_right _ h3;have h6:=zue (f:=fun u q=>zbW b w (zaf w) n u (m-1) q) (zaa w t c) (p+1);refine⟨by dsimp only;omega, ?_, ?_⟩
   ·simp only[Val.size];omega
   ·simp only[Val.ok];exact⟨by omega,h2.2⟩
section
variable {b:Str}{w:List Data}{f:Nat->Nat}{n p:Nat}{t:Ty}{m:Int}
theorem zwz (h:t.data = -1):zbW b w f (n+1) t m p=(.mk (-1) (zax b p 10) [],p+1):=by simp only[zbW];rw[if_pos h]
theorem zwA (h:¬t.data = -1){c:Int} (hc:nth (zcc w f t m) (zax b p (zcc w f t m).length).toNat=c):zbW b w f (n+1) t m p =
  (.mk c 0 (dV (fun u q=>zbW b w f n u (m-1) q) (zaa w t c) (p+1)).1,(dV (fun u q=>zbW b w f n u (m-1) q) (zaa w t c) (p+1)).2):=by
 simp only[zbW];rw[if_neg h,hc]
end
theorem ziO {b:Str}{w:List Data} (hb:b.length<=2000) (hd:Dp w) (hf:Few w):∀(n:Nat){a k m:Int}{p:Nat},Deep w n ⟨a,k⟩ m->(n:Int)-10<=m->n<=5->p+bdV n<=1000000->
  FnD Tryz.prog 291 [.ref 900 0,.d (zam w),.d (zeO (w.length*4) (zaf w)),.agg [.d (.i a),.d (.i k)],.d (.i m)] [(900,some (rdB b p))]
   (.agg [.d (.i (zbW b w (zaf w) n ⟨a,k⟩ m p).1.ctor),.d (.i (zbW b w (zaf w) n ⟨a,k⟩ m p).1.num),.d (zbC (zbW b w (zaf w) n ⟨a,k⟩ m p).1.kids)]) [(900,some (rdB b (zbW b w (zaf w) n ⟨a,k⟩ m p).2))]
 |0,a,k,m,p,h,_,_,_=>by have:=h.pos;have:=h.le;omega
 |n+1,a,k,m,p,h,hm,hn5,hp=>by
  have ht:=zbD h.ins;have hml:=h.ml;have h4:=hd.four;have hbd:bdV (n+1)=1+3*bdV n:=rfl;have hfb:∀s,zaf w s<=100000:=zk1 hd (k:=w.length*4+1) (s:=0) (by omega) (by omega) (pre:=[]) (by simp);have hcl:=zfM hd.wt ht;have hfl:(zcc w (zaf w) ⟨a,k⟩ m).length<=(zai w ⟨a,k⟩).length:=List.length_filter_le _ _;have hflm:((((zai w ⟨a,k⟩).filter (zez w (zaf w) ⟨a,k⟩ m)).map fun n=>[D.i n]).length:Int)=(zcc w (zaf w) ⟨a,k⟩ m).length:=by rw[xac];rfl
  have hfp:=fun hne=>zqp hd h hne;have v14:=fun hh=>zc3 (b:=b) (p:=p) (n:=((zcc w (zaf w) ⟨a,k⟩ m).length:Int)) hh;have hmem:=fun hne=>zo7 hd h hne b p;have hdm:=zwz (b:=b) (w:=w) (f:=zaf w) (n:=n) (p:=p) (t:=⟨a,k⟩) (m:=m);have hdm2:=fun hne=>zwA (b:=b) (w:=w) (f:=zaf w) (n:=n) (p:=p) (t:=⟨a,k⟩) (m:=m) hne rfl;generalize hcc:nth (zcc w (zaf w) ⟨a,k⟩ m) (zax b p (zcc w (zaf w) ⟨a,k⟩ m).length).toNat=cc at *;have hfm:=fun hne=>zj9 (hmem hne);have hkid:=fun hne=>zqi hd h (hmem hne);have hfw:=fun hne=>(hf ⟨a,k⟩ cc (hfm hne).1 ht).1;have hok:=fun u q hu=>zi6 (b:=b) hd hf n u (m-1) q hu;have hat:¬a = -1->(((zai w ⟨a,k⟩).filter (zez w (zaf w) ⟨a,k⟩ m)).map fun n=>[D.i n])[(zax b p (zcc w (zaf w) ⟨a,k⟩ m).length).toNat]?=some [D.i cc]:=fun hne=>by
   rw[<-hcc];exact zas (l:=zcc w (zaf w) ⟨a,k⟩ m) (by have:=v14 (by have:=hfp hne;omega);omega)
  refine bd Tryz.f291 98 [] [9,11] fun w0 F0 own kept hk=>?_;refine bx 3008 ?_;refine ab 3010 tz49 ?_;refine tv ?_;refine sq ?_ ?_<;>intro h1 h1p h1s<;>(try simp only[Q] at h1p);refine wd zc6 (zbf (p:=p) (n:=10) hb (by omega) (by omega)) rfl rfl ⟨rfl,trivial⟩ ?_;refine bu [0,1] [_,_] st49 ?_;refine so ty49 ?_;refine tv ?_;refine rn [(900,some (rdB b (zbW b w (zaf w) (n+1) ⟨a,k⟩ m p).2))] (.cons (.cellA ty49 rfl rfl rfl) .nil) (.agg (.cons (.eqd ?_) (.cons (.eqd ?_) (.cons (.nild ?_) .nil)))) ⟨rfl,rfl⟩ (SubO.get ⟨.inr ?_,⟨.inl rfl,trivial⟩⟩) (zaA rfl);rotate_left 4;refine wc zgn (zb9 hd.wt ht) rfl rfl ?_;refine ev ?_;refine xbi 5 sl29 .none rfl rfl ?_;refine ev ?_;refine xak (ι:=List (Int)×List (Int)) hk (fun x=>[(13,.d (.i (x.1.length:Int))),(12,.gl 5 ((x.1.filter (zez w (zaf w) ⟨a,k⟩ m)).map fun n=>[D.i n]))]) [14,28,29,30,31,32,33,34,35,36,37,38,39,40,41,42,43,44,45,46,47,48,49,50,51,52,53,54,55,56,57,58,59,60,61,62] (fun x=>[(5,some (.tok (((x.1.filter (zez w (zaf w) ⟨a,k⟩ m)).map fun n=>[D.i n])).length 1))]) (fun x=>x.1++x.2=zai w ⟨a,k⟩) (fun x=>x.2.length) ([],zai w ⟨a,k⟩) (by simp) ⟨⟨_,rfl,xaq ?_⟩,⟨⟨_,rfl,LeA.glg ?_⟩,trivial⟩⟩ ⟨zab ?_,trivial⟩ (fun x=>rfl) (fun x hg1=>?_);iterate 3 focus (rfl)
  obtain⟨pre,rest⟩:=x;dsimp only at hg1 ⊢;refine evc [] [9,11] ?_;refine sq ?_ ?_<;>intro h2 h2p h2s<;>(try simp only[Q] at h2p);rcases rest with _|⟨y,rest⟩
  ·exfalso;simp_all
  refine xaU sl29 .none rfl rfl rfl rfl (zaL hg1) rfl ?_;refine evd [] [] ?_;refine wc ztK (zoh hd.wt ht (c:=y) (by rw[<-hg1];simp) (by omega) hfb (za7 hd h.ins (by rw[<-hg1];simp))) rfl rfl ?_;refine evd [] [] ?_;refine dr ?_;refine xal ?_;refine xaz 14 [(55,.d (.bool (zez w (zaf w) ⟨a,k⟩ m y)))] [42,43,44,45,46,47,48,49,50,51,52,53,54] ?_ ?_;refine ev ?_;refine sq ?_ ?_<;>intro h3 h3p h3s<;>(try simp only[Q] at h3p);refine sq ?_ ?_<;>intro h4 h4p h4s<;>(try simp only[Q] at h4p);focus (exact jn rfl (xap (by(unfold zez;rw[Bool.eq_iff_iff];simp_all;done))))
  refine Walk.call (cr:=[]) zjX (zeh h.ins (by omega)) rfl (.some rfl rfl h4) rfl rfl (LeL.refl _) trivial rfl rfl rfl ?_;refine evs [] [(44,true),(48,false)] ?_ ⟨⟨_,rfl,h3⟩,⟨_,rfl,h4⟩,trivial⟩;focus (exact jn rfl (xap (by(unfold zez;rw[Bool.eq_iff_iff];simp_all;omega))))
  focus (exact jn rfl (xap (by(unfold zez;rw[Bool.eq_iff_iff];simp_all;done))))
  refine xay ?_;refine tv ?_;refine sq ?_ ?_<;>intro h5 h5p h5s<;>(try simp only[Q] at h5p);refine xaU sl29 .none rfl rfl rfl rfl (zaL hg1) rfl ?_;refine ev ?_;refine si [0] [_] sl29 tz3 ?_;refine ap sl29 zz3 rfl rfl rfl (by simp) (by(have hz:=congrArg List.length hg1;have hq:=List.length_filter_le (zez w (zaf w) ⟨a,k⟩ m) pre;simp at hz ⊢;omega)) ?_;refine ev ?_;refine ar ?_;refine xah ((pre++[y],rest)) ⟨(by have hz:=hg1;rw[<-hz];simp),(by simp),sx ⟨⟨_,rfl,xaq ?_⟩,⟨⟨_,rfl,LeA.glg ?_⟩,trivial⟩⟩ ⟨zab ?_,trivial⟩⟩;iterate 3 focus (first|(simp;done)|(rw[zqq (by assumption)];all_goals rfl)|(rw[zqq (by assumption)];simp;done))
  refine ar ?_;refine xah ((pre++[y],rest)) ⟨(by have hz:=hg1;rw[<-hz];simp),(by simp),sx ⟨⟨_,rfl,xaq ?_⟩,⟨⟨_,rfl,LeA.glg ?_⟩,trivial⟩⟩ ⟨zab ?_,trivial⟩⟩;iterate 3 focus (first|(simp;done)|(rw[zwC (by assumption)];all_goals rfl))
  have hrest:rest=[]:=by
   rcases rest with _|⟨a,b⟩
   ·rfl
   ·exfalso;have hz:=congrArg List.length (hg1);simp only[xaa,xab,xac] at hz;omega
  subst hrest;rw[List.append_nil] at hg1;subst hg1;refine evc [] [] ?_;refine wd zc6 (zbf (p:=p) (n:=((((zai w ⟨a,k⟩).filter (zez w (zaf w) ⟨a,k⟩ m)).map fun n=>[D.i n]).length:Int)) hb (by omega) (by omega)) rfl rfl ⟨rfl,trivial⟩ ?_;refine xaX (i:=(zax b p (zcc w (zaf w) ⟨a,k⟩ m).length).toNat) sl29 .none rfl rfl rfl (by rw[hflm];have:=v14 (by have:=hfp (by omega);omega);omega) (hat (by omega)) rfl ?_;refine ev ?_;refine bu [0] [_] st49 ?_;refine ab 3015 tz49 ?_;refine so ty49 ?_;refine tv ?_;refine wc zgp (zck hd.wt ht (hfm (by omega)).1) rfl rfl ?_;refine ev ?_;refine xan 3015 2 1 3 rfl rfl rfl rfl ?_;refine xak (ι:=List (Ty)×List (Ty)×(Nat)×(List Val)) hk (fun x=>[(17,.d (.i (x.1.length:Int)))]) [76,77,78,79,80,81,82,83,84,85,86,87,88,89,90,91,92,93,94,95,96] (fun x=>[(900,some (.box [.d (zcY b),.d (.i (x.2.2.1:Int))])),(3015,some (.box [.d (.i cc),.d (.i 0),.gl 1 (x.2.2.2.map Val.cc)])),(1,some (.tok (x.2.2.2.map Val.cc).length 3))]) (fun x=>x.1++x.2.1=zaa w ⟨a,k⟩ cc/\x.2.2.1<=p+1+x.1.length*bdV n/\x.2.2.2.length=x.1.length/\(x.2.2.2++(dV (dW b w n m) x.2.1 x.2.2.1).1,(dV (dW b w n m) x.2.1 x.2.2.1).2)=dV (dW b w n m) (zaa w ⟨a,k⟩ cc) (p+1)) (fun x=>x.2.1.length) ([],zaa w ⟨a,k⟩ cc,p+1,[]) ⟨by simp,by simp,by simp,by simp⟩ ⟨⟨_,rfl,xaq ?_⟩,trivial⟩ ⟨?_,⟨?_,⟨zab ?_,trivial⟩⟩⟩ (fun x=>rfl) (fun x hg2=>?_);focus (rfl)
  iterate 2 focus (first|rfl|(simp[getH];done))
  focus (rfl)
  obtain⟨pre,rest,q,ks⟩:=x;dsimp only at hg2 ⊢;refine evc [] [9,11] ?_;refine sq ?_ ?_<;>intro h6 h6p h6s<;>(try simp only[Q] at h6p);rcases rest with _|⟨y,rest⟩
  ·exfalso;simp_all
  have hfw3:=hfw (by omega);have hpm:pre.length*bdV n<=2*bdV n:=Nat.mul_le_mul_right _ (by have hz:=congrArg List.length hg2.1;have:=hfw (by omega);simp at hz;omega);refine xaU zaV .none rfl rfl rfl rfl (zaL hg2.1) rfl ?_;refine evd [] [] ?_;refine ar ?_;refine wd zp7 (ziO hb hd hf n (a:=y.data) (k:=y.index) (m:=m-1) (p:=q) (hkid (by omega) y (by rw[<-hg2.1];simp)) (by omega) (by omega) (by omega)) rfl rfl ⟨rfl,trivial⟩ ?_;refine si [0] [_] sl47 tz49 ?_;refine ap sl47 zz49 rfl rfl rfl (by simp) (by(have hz:=congrArg List.length hg2.1;have:=hfw (by omega);simp at hz ⊢;omega)) ?_;refine evd [] [] ?_;refine so ty47 ?_;refine dr ?_;refine ar ?_;refine xah ((pre++[y],rest,(zbW b w (zaf w) n y (m-1) q).2,ks++[(zbW b w (zaf w) n y (m-1) q).1])) ⟨⟨(by have hz:=hg2.1;rw[<-hz];simp),⟨(by have:=(hok y q (hkid (by omega) y (by rw[<-hg2.1];simp))).1;simp only[xaa,xab,xai,Nat.add_mul];omega),(by simp[hg2.2.2.1]),(by rw[<-hg2.2.2.2];simp[dV])⟩⟩,(by simp),sx ⟨⟨_,rfl,xaq ?_⟩,trivial⟩ ⟨?_,⟨?_,⟨zab ?_,trivial⟩⟩⟩⟩;focus ((simp;done))
  iterate 2 focus (first|rfl|(simp[getH];done))
  focus ((simp;done))
  have hrest:rest=[]:=by
   rcases rest with _|⟨a,b⟩
   ·rfl
   ·exfalso;have hz:=congrArg List.length (hg2.1);simp only[xaa,xab,xac] at hz;omega
  subst hrest;refine so ty49 ?_;refine tv ?_;refine rn [(900,some (rdB b (zbW b w (zaf w) (n+1) ⟨a,k⟩ m p).2))] (.cons (.cellA ty49 rfl rfl rfl) .nil) (.agg (.cons (.eqd ?_) (.cons (.eqd ?_) (.cons (.gld ?_) .nil)))) ⟨rfl,rfl⟩ (SubO.get ⟨.inr ?_,⟨.inl rfl,trivial⟩⟩) (zaA rfl);rotate_left 4;all_goals (((first|(rw[hdm (by omega)];all_goals rfl)|(rw[hdm2 (by omega)];have hfin:=hg2.2.2.2;simp only[dV,List.append_nil] at hfin;rw[<-hfin];all_goals first|rfl|(show _=D.sl (Val.cs _);rw[Val.cs_cc];all_goals rfl)|(show _=Val.cs _;rw[Val.cs_cc];all_goals rfl)));done))
def zfL (b:Str) (p:Nat):Ty:=⟨zax b (p+1) (zbj b p).length,numV b (p+2) [0,0,1,2]⟩
def typT (b:Str) (p:Nat):Ty:=if dv (zaf (zbj b p)) (zfL b p)=0 then ⟨-1,0⟩ else zfL b p
def typV (b:Str) (p:Nat):Val×Nat:=zbW b (zbj b p) (zaf (zbj b p)) 4 (typT b p) (numV b (p+3) [3,2,4,1]) (p+4)
theorem zx2 {n:Nat}{a k:Int} (h1:0<=a) (h2:a<n) (h3:0<=k) (h4:k<=3):InS (n*4) ⟨a,k⟩:=by
 refine .inr ⟨?_, ?_⟩
 ·simp only[zcw];omega
 ·obtain⟨i,rfl⟩:=Int.eq_ofNat_of_zero_le h1;obtain⟨m,rfl⟩:=Int.eq_ofNat_of_zero_le h3;simp only[zcw,Int.toNat_natCast];exact zhL (by omega)
theorem zwO (b:Str) (p:Nat):0<=numV b p [0,0,1,2]/\numV b p [0,0,1,2]<=3:=by
 have:=zlV (b:=b) (p:=p) (l:=[0,0,1,2]) (by simp);simp only[List.mem_cons,List.not_mem_nil,or_false] at this;omega
theorem zrw (b:Str) (p:Nat):InS ((zbj b p).length*4) (zfL b p):=by
 have h1:=zc3 (b:=b) (p:=p+1) (n:=((zbj b p).length:Int)) (by have:=(zik b p).one;omega);have h2:=zwO b (p+2);exact zx2 h1.1 h1.2 h2.1 h2.2
theorem zkM (b:Str) (p:Nat):Deep (zbj b p) 4 (typT b p) (numV b (p+3) [3,2,4,1]):=by
 have hl:=zd2 b p;have h4:=num4 b (p+3);unfold typT;split
 ·exact⟨.inl rfl,by simp[dv],by simp[dv],by omega⟩
 ·rename_i h;have:=zmy (f:=zaf (zbj b p)) (b:=3) hl.low (by omega) (zfL b p);exact⟨zrw b p,by omega,by omega,by omega⟩
theorem zsH (b:Str) (p:Nat):(typV b p).2<=p+44/\(typV b p).1.size<=121/\(typV b p).1.ok:=by
 have hl:=zd2 b p;have h:=zi6 (b:=b) hl.dp hl.few 4 (typT b p) (numV b (p+3) [3,2,4,1]) (p+4) (zkM b p);have e1:bdV 4=40:=by decide
 have e2:szV 4=121:=by decide
 unfold typV;exact⟨by omega,by omega,h.2.2⟩
theorem znu {b:Str}{p:Nat} (hb:b.length<=2000) (hp:p<=100000):
  FnD Tryz.prog 213 [.ref 900 0] [(900,some (rdB b p))] (.tup [.d (zam (zbj b p)),.agg [.d (.i (typT b p).data),.d (.i (typT b p).index)],.agg [.d (.i (typV b p).1.ctor),.d (.i (typV b p).1.num),.d (zbC (typV b p).1.kids)]]) [(900,some (rdB b (typV b p).2))]:=by
 have ho:=zik b p;have hl:=zd2 b p;have h4:=num4 b (p+3);have hin:=zrw b p;have hdeep:=zkM b p;have hT:typT b p=if dv (zaf (zbj b p)) (zfL b p)=0 then ⟨-1,0⟩ else zfL b p:=rfl
 have hV:typV b p=zbW b (zbj b p) (zaf (zbj b p)) 4 (typT b p) (numV b (p+3) [3,2,4,1]) (p+4):=rfl;have e1:bdV 4=40:=by decide
 have hwd:=znt (p:=p) hb (by omega);have hpk:=zbf (b:=b) (p:=p+1) (n:=(((zbj b p).map Data.c).length:Int)) hb (by omega) (by have:=ho.small.len;simp;omega);rw[show zax b (p+1) (((zbj b p).map Data.c).length:Int)=(zfL b p).data by rw[xac];rfl] at hpk;have hnu:=zcR (b:=b) (p:=p+2) (l:=[0,0,1,2]) hb (by omega) (by simp) (by simp);rw[show numV b (p+2) [0,0,1,2]=(zfL b p).index from rfl] at hnu;have hdr:=fun(t:Ty) (h:Deep (zbj b p) 4 t (numV b (p+3) [3,2,4,1]))=>ziO hb hl.dp hl.few 4 (a:=t.data) (k:=t.index) (p:=p+4) h (by omega) (by omega) (by omega);have hdp:=zeh (f:=zaf (zbj b p)) (a:=(zfL b p).data) (k:=(zfL b p).index) hin (by have:=hl.dp.four;omega);have htb:=zh8 hl.dp;generalize zbj b p=w at *;generalize zfL b p=t0 at *;obtain⟨a0,k0⟩:=t0;have hdr2:=hdr ⟨-1,0⟩;have hdr3:=hdr ⟨a0,k0⟩;clear hdr;dsimp only at hT hV hdr2 hdr3;refine bd Tryz.f213 35 [] [] fun w0 F0 own kept hk=>?_;refine ab 3003 tz25 ?_;refine ab 3004 tz49 ?_;refine tv ?_;refine wd zxA (hwd) rfl rfl ⟨rfl,trivial⟩ ?_;refine ev ?_;refine wc zmg (htb) rfl rfl ?_;refine ev ?_;refine wd zc6 (hpk) rfl rfl ⟨rfl,trivial⟩ ?_;refine ev ?_;refine si [0,1,2,3] [_,_,_,_] sl29 tz3 ?_;refine wd zgm (hnu) rfl rfl ⟨rfl,trivial⟩ ?_;refine bu [0,1] [_,_] st25 ?_;refine ab 3007 tz25 ?_;refine so ty25 ?_;refine tv ?_;refine wc zjX (hdp) rfl rfl ?_;refine ev ?_;refine sq ?_ ?_<;>intro h1 h1p h1s<;>(try simp only[Q] at h1p);have HDR:=hdr2 (by rw[if_pos (by omega)] at hT;rw[<-hT];exact hdeep);refine bu [0] [_] st25 ?_;refine so ty25 ?_;refine tv ?_;refine si [0,1,2,3] [_,_,_,_] sl29 tz3 ?_;refine wd zgm (zcR (b:=b) (p:=p+3) (l:=[3,2,4,1]) hb (by omega) (by simp) (by simp)) rfl rfl ⟨rfl,trivial⟩ ?_;refine wd zp7 (HDR) rfl rfl ⟨rfl,trivial⟩ ?_;refine evd [] [] ?_;refine so ty25 ?_;refine so ty49 ?_;refine dr ?_;refine rn [(900,some (rdB b (typV b p).2))] (.cons (.tmp rfl) (.cons (.cellA ty25 rfl rfl rfl) (.cons (.cellA ty49 rfl rfl rfl) .nil))) (.tup (.cons (.eqd ?_) (.cons (.agg (.cons (.eqd ?_) (.cons (.eqd ?_) .nil))) (.cons (.agg (.cons (.eqd ?_) (.cons (.eqd ?_) (.cons (.eqd ?_) .nil)))) .nil)))) ⟨rfl,rfl⟩ (SubO.get ⟨.inr ?_,⟨.inl rfl,trivial⟩⟩) (zaA rfl);rotate_left 7;have HDR:=hdr3 (by rw[if_neg (by omega)] at hT;rw[<-hT];exact hdeep);refine si [0,1,2,3] [_,_,_,_] sl29 tz3 ?_;refine wd zgm (zcR (b:=b) (p:=p+3) (l:=[3,2,4,1]) hb (by omega) (by simp) (by simp)) rfl rfl ⟨rfl,trivial⟩ ?_;refine wd zp7 (HDR) rfl rfl ⟨rfl,trivial⟩ ?_;refine evd [] [] ?_;refine so ty25 ?_;refine so ty49 ?_;refine dr ?_;refine rn [(900,some (rdB b (typV b p).2))] (.cons (.tmp rfl) (.cons (.cellA ty25 rfl rfl rfl) (.cons (.cellA ty49 rfl rfl rfl) .nil))) (.tup (.cons (.eqd ?_) (.cons (.agg (.cons (.eqd ?_) (.cons (.eqd ?_) .nil))) (.cons (.agg (.cons (.eqd ?_) (.cons (.eqd ?_) (.cons (.eqd ?_) .nil)))) .nil)))) ⟨rfl,rfl⟩ (SubO.get ⟨.inr ?_,⟨.inl rfl,trivial⟩⟩) (zaA rfl);rotate_left 7;all_goals (first|((first|(rw[if_pos (by omega)] at hT;rw[hV,hT];all_goals rfl)|(rw[if_neg (by omega)] at hT;rw[hV,hT];all_goals rfl)|(rw[if_pos (by omega)] at hT;rw[hT];all_goals rfl)|(rw[if_neg (by omega)] at hT;rw[hT];all_goals rfl)|rfl);done)|(first|(rw[if_pos (by omega)] at hT;rw[hV,hT];all_goals rfl)|(rw[if_neg (by omega)] at hT;rw[hV,hT];all_goals rfl)))
structure CaseW (w:List Data):Prop where
 small:WSmall w
 valid:za4 w=true
 one:1<=w.length
 ct:∀k:Int,k=0\/k=1\/k=2->1<=(zai w ⟨0,k⟩).length
theorem xav:∀l:List Pat,l.length<=Pats.size l
 | []=>Nat.zero_le _
 |v::r=>by
  have:=xav r;have h:=Pat.size_eq v;simp only[xab,Pats.size];omega
theorem zsB {x:Pat} (hx:x.ok):∀ {l:List Pat}{i:Nat},Pats.ok l->Pats.ok (l.set i x)
 | [],_,_=>by simp[Pats.ok]
 |y::r,0,h=>⟨hx,h.2⟩
 |y::r,i+1,h=>⟨h.1,zsB hx h.2⟩
theorem zrT {x:Pat} (hx:x.ok):∀ {l:List Pat},Pats.ok l->Pats.ok (l++[x])
 | [],_=>⟨hx,trivial⟩
 |y::r,h=>⟨h.1,zrT hx h.2⟩
theorem zsC {x:Pat}:∀ {l:List Pat}{i:Nat},Pats.size (l.set i x)<=Pats.size l+x.size
 | [],_=>by simp[Pats.size]
 |y::r,0=>by simp only[List.set_cons_zero,Pats.size];omega
 |y::r,i+1=>by have:=zsC (x:=x) (l:=r) (i:=i);simp only[List.set_cons_succ,Pats.size];omega
theorem zwL {b:Str}{p:Pat}{q:Nat} (hs:p.size<=1000) (hok:p.ok):(mutP b p q).1.size<=2000/\(mutP b p q).1.ok:=by
 have hv:zcO.size=1/\zcO.ok:=⟨by rw[Pat.size_eq];rfl,by rw[Pat.ok_iff];exact⟨by simp[zcO,Pat.kids],trivial⟩⟩;have h0:=Pat.size_eq p;rw[Pat.ok_iff] at hok;have same:∀a c n m v:Int,(Pat.mk a c n m v p.kids).size<=2000/\(Pat.mk a c n m v p.kids).ok:=fun a c n m v=>by
  refine⟨by rw[Pat.size_eq];show 1+Pats.size p.kids<=_;omega,by rw[Pat.ok_iff];exact hok⟩
 unfold mutP;split;exact same _ _ _ _ _
 split;exact same _ _ _ _ _
 split;exact same _ _ _ _ _
 split
 ·refine⟨?_, ?_⟩
  ·dsimp only;rw[Pat.size_eq];show 1+Pats.size (p.kids++[zcO])<=_;rw[xaw];omega
  ·dsimp only;rw[Pat.ok_iff];refine⟨?_,zrT hv.2 hok.2⟩;show(p.kids++[zcO]).length<=_
   have:=xav p.kids;simp only[xaa,List.length_singleton];omega
 split
 ·refine⟨?_, ?_⟩
  ·dsimp only;rw[Pat.size_eq];show 1+Pats.size (p.kids.set 0 zcO)<=_;have:=zsC (x:=zcO) (l:=p.kids) (i:=0);omega
  ·dsimp only;rw[Pat.ok_iff];exact⟨by show(p.kids.set 0 zcO).length<=_;rw[List.length_set];exact hok.1,zsB hv.2 hok.2⟩
 split;exact same _ _ _ _ _
 exact same _ _ _ _ _
def typP (b:Str) (p:Nat):Pat:=zb8 b (zbj b p) (typT b p) (typV b p).2
def typQ (b:Str) (p:Nat):Nat:=(zc4 b (zbj b p) (typT b p) (typV b p).2).2.2
theorem ziU (b:Str) (p:Nat):TyIn (zbj b p).length (typT b p):=zbD (zkM b p).ins
theorem zop (b:Str) (p:Nat):(typP b p).size<=242/\(typP b p).ok/\typQ b p<=p+600:=by
 have hl:=zd2 b p;have h1:=znj (b:=b) hl.few (ziU b p) (typV b p).2;have h2:=zku (b:=b) hl.few (ziU b p) (typV b p).2;have h3:=zsH b p;exact⟨h1.1,h1.2,by unfold typQ;omega⟩
theorem zny {b:Str}{p:Nat} (hb:b.length<=2000) (hp:p<=10000):
  FnD Tryz.prog 132 [.ref 900 0] [(900,some (rdB b p))] (.tup [.d (zam (zbj b p)),.agg [.d (.i (typT b p).data),.d (.i (typT b p).index)],
   .agg [.d (.i (typP b p).op),.d (.i (typP b p).ctor),.d (.i (typP b p).n),.d (.i (typP b p).m),.d (.i (typP b p).var),.d (zad (typP b p).kids)],
   .agg [.d (.i (typV b p).1.ctor),.d (.i (typV b p).1.num),.d (zbC (typV b p).1.kids)]]) [(900,some (rdB b (typQ b p)))]:=by
 have hl:=zd2 b p;have hv:=zsH b p;have ht:=ziU b p;have hty:=znu (p:=p) hb (by omega);have hsm:=ziR hb hl.dp.wt hl.few (a:=(typT b p).data) (k:=(typT b p).index) (p:=(typV b p).2) (by omega) ht;refine bd Tryz.f132 22 [] [] fun w0 F0 own kept hk=>?_;refine ab 3003 tz25 ?_;refine ab 3004 tz36 ?_;refine ab 3005 tz49 ?_;refine tv ?_;refine wd zxk (hty) rfl rfl ⟨rfl,trivial⟩ ?_;refine ev ?_;refine ab 3007 tz25 ?_;refine ab 3008 tz49 ?_;refine ev ?_;refine so ty25 ?_;refine so ty49 ?_;refine tv ?_;refine wd ztA (hsm) rfl rfl ⟨rfl,trivial⟩ ?_;refine evd [] [] ?_;refine so ty25 ?_;refine so ty36 ?_;refine so ty49 ?_;refine dr ?_;refine rn [(900,some (rdB b (typQ b p)))] (.cons (.tmp rfl) (.cons (.cellA ty25 rfl rfl rfl) (.cons (.cellA ty36 rfl rfl rfl) (.cons (.cellA ty49 rfl rfl rfl) .nil)))) (.tup (.cons (.eqd ?_) (.cons (.agg (.cons (.eqd ?_) (.cons (.eqd ?_) .nil))) (.cons (.agg (.cons (.eqd ?_) (.cons (.eqd ?_) (.cons (.eqd ?_) (.cons (.eqd ?_) (.cons (.eqd ?_) (.cons (.eqd ?_) .nil))))))) (.cons (.agg (.cons (.eqd ?_) (.cons (.eqd ?_) (.cons (.eqd ?_) .nil)))) .nil))))) ⟨rfl,rfl⟩ (SubO.get ⟨.inr ?_,⟨.inl rfl,trivial⟩⟩) (zaA rfl);rotate_left 13;all_goals (first|((rfl);done)|(rfl))
def wid (w:List Data) (u:Ty):Nat:=if u.data = -1 then 10 else (zai w u).length
def zhj (w:List Data):Bool:=(List.range (w.length*4)).all fun s=>decide (((zai w (tyS s)).map fun c=>zdX ((zaa w (tyS s) c).map fun u=>max 1 (wid w u))).sum<=400)
theorem zpD:((List.range 7).all fun i=>zhj (zdk (nth zdF i)).1)=true:=by kernel_rfl
theorem zo1 {w:List Data} (h:zhj w=true){t:Ty} (ht:InS (w.length*4) t) (hd:t.data≠ -1):((zai w t).map fun c=>zdX ((zaa w t c).map fun u=>max 1 (wid w u))).sum<=400:=by
 rcases ht with h1|⟨h1,h2⟩
 ·exact absurd h1 hd
 ·have:=List.all_eq_true.1 h _ (List.mem_range.2 h1);rw[h2] at this;exact of_decide_eq_true this
theorem zpC (b:Str) (p:Nat):zhj (zbj b p)=true:=List.all_eq_true.1 zpD (zax b p 7).toNat (List.mem_range.2 (zpK b p))
def shal (p:Pat):Prop:=p.op=1\/p.op=3\/∃c l,p=za8 c l/\∀k∈l,k=anyQ
def zjp (p:Pat):Prop:=p.op=1\/p.op=3\/∃c l,p=za8 c l/\∀k∈l,shal k
def PosP (K:Pat->Prop):Prop:=(∀k,K k->shal k)\/∃x,zjp x/\¬shal x/\∀k,K k->k=x
def FormA (L:List Pat):Prop:=∀p∈L,zjp p
def FormB (L:List Pat):Prop:=∃(c:Int) (m:Nat) (K:Nat->Pat->Prop),(∀j,j<m->PosP (K j))/\∀p∈L,CSat K c m p
def Form (L:List Pat):Prop:=FormA L\/FormB L
theorem zrf:shal anyQ:= .inl rfl
theorem zyb {p:Pat} (h:shal p):zjp p:=by
 rcases h with h|h|⟨c,l,h1,h2⟩
 ·exact .inl h
 ·exact .inr (.inl h)
 ·exact .inr (.inr ⟨c,l,h1,fun k hk=>by rw[h2 k hk];exact zrf⟩)
theorem PosP.two {K:Pat->Prop} (h:PosP K){k:Pat} (hk:K k):zjp k:=by
 rcases h with h|⟨x,h1,_,h2⟩
 ·exact zyb (h k hk)
 ·rw[h2 k hk];exact h1
theorem PosP.one {K:Pat->Prop} (h:∀k k',K k->K k'->k=k') (h2:∀k,K k->zjp k):PosP K:=by
 by_cases hx:∃k,K k/\¬shal k
 ·obtain⟨k,h3,h4⟩:=hx;exact .inr ⟨k,h2 k h3,h4,fun k' h5=>h k' k h5 h3⟩
 ·exact .inl fun k hk=>Classical.byContradiction fun h3=>hx ⟨k,hk,h3⟩
theorem zth {α:Type} [Inhabited α]{P:Int->Nat->Prop}{Q:Int->Nat->α->Prop} (h:∀c j,P c j->∃x,Q c j x):∃f:Int->Nat->α,∀c j,P c j->Q c j (f c j):=by
 classical
 exact⟨fun c j=>if hp:P c j then Classical.choose (h c j hp) else default,fun c j hp=>by simp only[dif_pos hp];exact Classical.choose_spec (h c j hp)⟩
theorem zq1:∀ {a b:List Nat},a.length=b.length->(∀i,i<a.length->nth a i<=nth b i)->zdX a<=zdX b
 | [],[],_,_=>Nat.le_refl _
 |x::a,y::b,h,hi=>Nat.mul_le_mul (hi 0 (by simp)) (zq1 (a:=a) (b:=b) (by simpa using h) (fun i hi'=>hi (i+1) (by simpa using hi')))
 | [],_::_,h,_=>by simp at h
 |_::_,[],h,_=>by simp at h
theorem zoo {w:List Data}{c:Int}{us:List Ty}{Vs:Nat->List Val}{g:Ty->Nat} (h:∀j,j<us.length->(Vs j).length<=g (nth us j)):(zg9 c us.length Vs).length<=zdX (us.map g):=by
 rw[zvY];refine zq1 (by simp) (fun i hi=>?_);rw[xac,List.length_range] at hi;rw[zko _ hi,zaO (by simpa using hi),List.getElem_map,<-zaO hi];exact h i hi
theorem zro {α:Type}{f g:α->Nat}:∀ {l:List α},(∀x∈l,f x<=g x)->(l.map f).sum<=(l.map g).sum
 | [],_=>Nat.le_refl _
 |x::r,h=>by
  simp only[xae,List.sum_cons];exact Nat.add_le_add (h x (by simp)) (zro (fun y hy=>h y (by simp[hy])))
theorem zmX {x:Nat}:∀ {l:List Nat},x∈l->x<=l.sum
 |a::r,h=>by
  rw[List.sum_cons];rcases List.mem_cons.1 h with rfl|h
  ·omega
  ·have:=zmX h;omega
theorem zlJ {α β:Type}{f:α->List β}:∀ {l:List α},(l.flatMap f).length=(l.map fun x=>(f x).length).sum
 | []=>rfl
 |x::r=>by rw[List.flatMap_cons,xaa,xae,List.sum_cons,zlJ]
section
variable {w:List Data} (hs:Spa w)
include hs
theorem zsD {t:Ty} (ht:InS (w.length*4) t):∃S V,V.length<=max 1 (wid w t)/\Grid w t S V/\(∀n p,zah w n t p=true->shal p->S p)/\S anyQ:=by
 by_cases hd:t.data = -1
 ·refine⟨fun _=>True,zfq, ?_,zqz hd,fun _ _ _ _=>trivial,trivial⟩;unfold wid;rw[if_pos hd];simp[zfq]
 ·obtain⟨Vs,hV⟩:=zth (P:=fun c j=>c∈zai w t/\j<(zaa w t c).length) (Q:=fun c j V=>V.length<=1/\Grid w (nth (zaa w t c) j) (fun p=>p=anyQ) V)
   (fun c j h=>zoL hs (za7 hs.dp ht h.1 _ (zae h.2)) (zjQ (n:=0)))
  refine⟨_,_, ?_,zoM hs ht hd (Ss:=fun _ _ p=>p=anyQ) (Vs:=Vs) (fun c hc j hj=>(hV c j ⟨hc,hj⟩).2) (fun _ _ _=>rfl),fun n p hp hsh=>?_,.inl rfl⟩
  ·rw[zlJ];have h1:((zai w t).map fun c=>(zg9 c (zaa w t c).length (Vs c)).length).sum<=((zai w t).map fun _=>1).sum:=zro (fun c hc=>by
    have:=zoo (w:=w) (c:=c) (us:=zaa w t c) (Vs:=Vs c) (g:=fun _=>1) (fun j hj=>(hV c j ⟨hc,hj⟩).1);refine Nat.le_trans this ?_;generalize zaa w t c=us;induction us with
    |nil=>simp[zdX]
    |cons x r ih=>simp only[xae,zdX,Nat.one_mul];exact ih)
   have h2:((zai w t).map fun _=>1).sum=(zai w t).length:=by
    generalize zai w t=l;induction l with
    |nil=>rfl
    |cons x r ih=>rw[xae,List.sum_cons,ih,xab];omega
   unfold wid;rw[if_neg hd];omega
  ·rcases hsh with h|h|⟨c,l,rfl,h2⟩
   ·exact .inl h
   ·exact absurd (zby hp h).1 hd
   ·obtain⟨m1,m2,m3,m4⟩:=zaE hp rfl;exact .inr ⟨c,m1,l,rfl,m3,fun j hj=>h2 _ (zae (by have e:l.length=(zaa w t c).length:=m3;omega))⟩
theorem zvP (hn:zhj w=true){t:Ty} (ht:InS (w.length*4) t):∃S V,V.length<=400/\Grid w t S V/\∀n p,zah w n t p=true->zjp p->S p:=by
 by_cases hd:t.data = -1
 ·exact⟨fun _=>True,zfq,by simp[zfq],zqz hd,fun _ _ _ _=>trivial⟩
 ·obtain⟨F,hF⟩:=zth (P:=fun c j=>c∈zai w t/\j<(zaa w t c).length) (Q:=fun c j (SV:(Pat->Prop)×List Val)=>SV.2.length<=max 1 (wid w (nth (zaa w t c) j))/\Grid w (nth (zaa w t c) j) SV.1 SV.2/\(∀n p,zah w n (nth (zaa w t c) j) p=true->shal p->SV.1 p)/\SV.1 anyQ)
   (fun c j h=>by
    obtain⟨S,V,h1,h2,h3,h4⟩:=zsD hs (t:=nth (zaa w t c) j) (za7 hs.dp ht h.1 _ (zae h.2));exact⟨(S,V),h1,h2,h3,h4⟩)
  refine⟨_,_, ?_,zoM hs ht hd (Ss:=fun c j p=>(c∈zai w t/\j<(zaa w t c).length)->(F c j).1 p) (Vs:=fun c j=>(F c j).2) (fun c hc j hj=>?_) (fun c hc j h=>(hF c j h).2.2.2),fun n p hp hsh=>?_⟩
  ·rw[zlJ];exact Nat.le_trans (zro (fun c hc=>zoo (w:=w) (g:=fun u=>max 1 (wid w u)) (fun j hj=>(hF c j ⟨hc,hj⟩).1))) (zo1 hn ht hd)
  ·have hg:=(hF c j ⟨hc,hj⟩).2.1;exact⟨fun n a b z ha hb h _=>hg.meet n a b z (ha ⟨hc,hj⟩) (hb ⟨hc,hj⟩) h,fun n a b x ha hb h _=>hg.minus n a b x (ha ⟨hc,hj⟩) (hb ⟨hc,hj⟩) h,fun n p hp=>hg.hit n p (hp ⟨hc,hj⟩),hg.fits⟩
  ·cases n with
   |zero=>simp[zah] at hp
   |succ n=>
    rcases hsh with h|h|⟨c,l,rfl,h2⟩
    ·exact .inl h
    ·exact absurd (zby hp h).1 hd
    ·obtain⟨m1,m2,m3,m4⟩:=zaE hp rfl;have e:l.length=(zaa w t c).length:=m3;refine .inr ⟨c,m1,l,rfl,m3,fun j hj h=>?_⟩;have hk:=zaR hp (i:=j) (by show j<l.length;omega);rw[zaU rfl] at hk;exact(hF c j h).2.2.1 n _ hk (h2 _ (zae (by omega)))
theorem zvD {t:Ty} (ht:InS (w.length*4) t){K:Pat->Prop} (hK:PosP K):∃S V,V.length<=max 1 (wid w t)/\Grid w t S V/\∀n p,zah w n t p=true->K p->S p:=by
 by_cases hx:∃n x,zah w n t x=true/\¬shal x/\∀k,K k->k=x
 ·obtain⟨n,x,h1,_,h2⟩:=hx;obtain⟨V,h3,h4⟩:=zoL hs ht h1;exact⟨_,V,by omega,h4,fun n p _ hp=>h2 p hp⟩
 ·obtain⟨S,V,h1,h2,h3,_⟩:=zsD hs ht;refine⟨S,V,h1,h2,fun n p hp hk=>?_⟩;rcases hK with h|⟨x,h4,h5,h6⟩
  ·exact h3 n p hp (h p hk)
  ·exact absurd ⟨n,x,by rw[<-h6 p hk];exact hp,h5,h6⟩ hx
theorem zvk (hn:zhj w=true){t:Ty} (ht:InS (w.length*4) t){l res:List Pat} (hf:Form l) (hl:∀b∈l,zah w 10 t b=true) (h:sepQ w t [] l []=some res):res.length<=400:=by
 rcases hf with hf|⟨c,m,K,hK,hf⟩
 ·obtain⟨S,V,h1,h2,h3⟩:=zvP hs hn ht;exact Nat.le_trans (zsz hs ht h2 (fun b hb=>⟨hl b hb,h3 10 b (hl b hb) (hf b hb)⟩) h) h1
 ·cases l with
  |nil=>rw[sepQ] at h;cases h;simp
  |cons p0 r=>
   obtain⟨l0,e0,e1,_⟩:=hf p0 (by simp);have hp0:=hl p0 (by simp);have hc:=zaE hp0 (by rw[e0];rfl);rw[e0] at hc;have hcc:c∈zai w t:=hc.1;have hm:m=(zaa w t c).length:=by rw[<-e1];exact hc.2.2.1
   subst hm;obtain⟨F,hF⟩:=zth (P:=fun c' j=>c'=c/\j<(zaa w t c).length) (Q:=fun _ j (SV:(Pat->Prop)×List Val)=>SV.2.length<=max 1 (wid w (nth (zaa w t c) j))/\Grid w (nth (zaa w t c) j) SV.1 SV.2/\∀n p,zah w n (nth (zaa w t c) j) p=true->K j p->SV.1 p)
    (fun c' j h=>by
     obtain⟨S,V,h1,h2,h3⟩:=zvD hs (t:=nth (zaa w t c) j) (za7 hs.dp ht hcc _ (zae h.2)) (hK j h.2);exact⟨(S,V),h1,h2,h3⟩)
   have hg:=zhW hcc (Ss:=fun j=>(F c j).1) (Vs:=fun j=>(F c j).2) (fun j hj=>(hF c j ⟨rfl,hj⟩).2.1);refine Nat.le_trans (zsz hs ht hg (fun b hb=>⟨hl b hb, ?_⟩) h) ?_
   ·obtain⟨lb,rfl,h1,h2⟩:=hf b hb;refine⟨lb,rfl,h1,fun j hj=>?_⟩;have hk:=zaR (hl _ hb) (i:=j) (by show j<lb.length;omega);rw[zaU rfl] at hk;exact(hF c j ⟨rfl,hj⟩).2.2 9 _ hk (h2 j hj)
   ·have h1:=zoo (w:=w) (c:=c) (us:=zaa w t c) (Vs:=fun j=>(F c j).2) (g:=fun u=>max 1 (wid w u)) (fun j hj=>(hF c j ⟨rfl,hj⟩).1);have h2:=zo1 hn ht hc.2.1;have h3:zdX ((zaa w t c).map fun u=>max 1 (wid w u))<=((zai w t).map fun c=>zdX ((zaa w t c).map fun u=>max 1 (wid w u))).sum:=zmX (List.mem_map.2 ⟨c,hcc,rfl⟩);omega
end
def Dr:Nat->Pat->Prop
 |0,p=>p=anyQ
 |n+1,p=>p=anyQ\/(p.op=3/\p.kids=[])\/(p.op=5/\p.kids.length=2/\∀k∈p.kids,Dr n k)\/(p.op=4/\∀k∈p.kids,Dr n k)
theorem Dr.any (n:Nat):Dr n anyQ:=by cases n<;>simp[Dr]
theorem Dr.up:∀(n:Nat){p:Pat},Dr n p->Dr (n+1) p
 |0,p,h=> .inl h
 |n+1,p,h=>by
  rcases h with h|h|⟨h1,h2,h3⟩|⟨h1,h2⟩
  ·exact .inl h
  ·exact .inr (.inl h)
  ·exact .inr (.inr (.inl ⟨h1,h2,fun k hk=>Dr.up n (h3 k hk)⟩))
  ·exact .inr (.inr (.inr ⟨h1,fun k hk=>Dr.up n (h2 k hk)⟩))
theorem Dr.le {n m:Nat} (h:n<=m){p:Pat} (hp:Dr n p):Dr m p:=by
 induction h with
 |refl=>exact hp
 |step _ ih=>exact Dr.up _ ih
theorem zud {f:Ty->Nat->Pat×Nat}{P:Pat->Prop} (h:∀t q,P (f t q).1):∀(l:List Ty) (q:Nat),∀k∈(dA f l q).1,P k
 | [],q,k,hk=>by simp[dA] at hk
 |t::r,q,k,hk=>by
  simp only[dA,List.mem_cons] at hk;rcases hk with rfl|hk
  ·exact h t q
  ·exact zud h r _ k hk
theorem zsa {b:Str}{w:List Data}:∀(d:Nat) (t:Ty) (p:Nat),Dr d (zaH b w (d+1) t p).1/\Dr 0 (zaH b w 0 t p).1
 |0,t,p=>by
  refine⟨?_,rfl⟩;unfold zaH;rw[if_pos rfl];rfl
 |d+1,t,p=>by
  refine⟨?_,rfl⟩;have ih:=fun t p=>(zsa (b:=b) (w:=w) d t p).1;rw[zaH,if_neg (by omega)];split
  ·exact Dr.any _
  ·split
   ·refine .inr (.inr (.inl ⟨rfl,rfl,fun k hk=>?_⟩));simp only[Pat.kids,List.mem_cons,List.not_mem_nil,or_false] at hk;rcases hk with rfl|rfl
    ·exact ih _ _
    ·exact ih _ _
   ·split
    ·exact .inr (.inl ⟨rfl,rfl⟩)
    ·split
     ·exact Dr.any _
     ·refine .inr (.inr (.inr ⟨rfl,fun k hk=>?_⟩));exact zud (P:=Dr d) ih _ _ k hk
theorem ze0:∀(n:Nat){p:Pat},Dr n p->zat p=p
 |0,p,h=>by
  rw[show p=anyQ from h,zbh,if_neg (by decide),if_neg (by decide)];rfl
 |n+1,p,h=>by
  have map_id:∀l:List Pat,(∀k∈l,zat k=k)->l.map zat=l:=fun l hl=>by
   induction l with
   |nil=>rfl
   |cons x r ih=>rw[xae,hl x (by simp),ih (fun k hk=>hl k (by simp[hk]))]
  have key:p.op≠2->p.op≠6->(∀k∈p.kids,zat k=k)->zat p=p:=fun h2 h6 hk=>by
   rw[zbh,if_neg h2,if_neg (fun hh=>h6 hh.1),map_id p.kids hk];cases p;rfl
  rcases h with h|⟨h1,h2⟩|⟨h1,h2,h3⟩|⟨h1,h2⟩
  ·exact ze0 0 h
  ·exact key (by omega) (by omega) (by rw[h2];simp)
  ·exact key (by omega) (by omega) (fun k hk=>ze0 n (h3 k hk))
  ·exact key (by omega) (by omega) (fun k hk=>ze0 n (h2 k hk))
theorem zoZ {f:Pat->Int->Nat->Pat×Int×Nat}:∀(l:List Pat) (m:Int) (q:Nat),(∀x∈l,∀m q,zat (f x m q).1=x)->(namL f l m q).1.map zat=l/\∀y∈(namL f l m q).1,zat y∈l
 | [],m,q,_=>by simp[namL]
 |x::r,m,q,h=>by
  have h1:=h x (by simp) m q;have h2:=zoZ r (f x m q).2.1 (f x m q).2.2 (fun y hy=>h y (by simp[hy]));simp only[namL];refine⟨by rw[xae,h1,h2.1],fun y hy=>?_⟩;rcases List.mem_cons.1 hy with rfl|hy
  ·rw[h1];simp
  ·exact List.mem_cons_of_mem _ (h2.2 y hy)
structure NamB (p r:Pat):Prop where
 bare:zat r=p
 kids:(∀k∈r.kids,zat k∈p.kids)\/(r.op=6/\r.kids.length=1)
theorem zqS {b:Str}:∀(n:Nat) (d:Nat){p:Pat} (m:Int) (q:Nat),Dr d p->NamB p (namP b n p m q).1
 |0,d,p,m,q,h=>⟨ze0 d h,.inl fun k hk=>by
  have:zat k=k:=by
   cases d with
   |zero=>rw[show p=anyQ from h] at hk;simp[namP,zaX] at hk
   |succ d=>
    rcases h with h|⟨h1,h2⟩|⟨h1,h2,h3⟩|⟨h1,h2⟩
    ·subst h;simp[namP,zaX] at hk
    ·have hk':k∈p.kids:=hk;rw[h2] at hk';simp at hk'
    ·exact ze0 d (h3 k hk)
    ·exact ze0 d (h2 k hk)
  rw[this];exact hk⟩
 |n+1,d,p,m,q,h=>by
  have hkid:∀k∈p.kids,∃e,Dr e k:=fun k hk=>by
   cases d with
   |zero=>rw[show p=anyQ from h] at hk;simp[zaX] at hk
   |succ d=>
    rcases h with h|⟨h1,h2⟩|⟨h1,h2,h3⟩|⟨h1,h2⟩
    ·subst h;simp[zaX] at hk
    ·rw[h2] at hk;simp at hk
    ·exact⟨d,h3 k hk⟩
    ·exact⟨d,h2 k hk⟩
  have hb:=ze0 d h;have hop:p.op≠2/\p.op≠6:=by
   cases d with
   |zero=>rw[show p=anyQ from h];exact⟨by decide,by decide⟩
   |succ d=>
    rcases h with h|⟨h1,h2⟩|⟨h1,h2,h3⟩|⟨h1,h2⟩
    ·rw[h];exact⟨by decide,by decide⟩
    ·omega
    ·omega
    ·omega
  by_cases c1:5<m\/p.op=5\/p.op=3
  ·rw[zs9 c1];exact⟨hb,.inl fun k hk=>by obtain⟨e,he⟩:=hkid k hk;rw[ze0 e he];exact hk⟩
  by_cases c2:p.op=1/\zax b q 2=0
  ·rw[zta c1 c2];have hp:p=anyQ:=by
    cases d with
    |zero=>exact h
    |succ d=>
     rcases h with h|⟨h1,h2⟩|⟨h1,h2,h3⟩|⟨h1,h2⟩
     ·exact h
     ·omega
     ·omega
     ·omega
   exact⟨by rw[hp];exact(zbh _).trans (if_pos rfl),.inl fun k hk=>by simp[zaX] at hk⟩
  have hL:=zoZ (f:=namP b n) p.kids m (if p.op=1 then q+1 else q) (fun x hx m q=>by obtain⟨e,he⟩:=hkid x hx;exact(zqS n e m q he).bare);generalize hz:namL (namP b n) p.kids m (if p.op=1 then q+1 else q)=z at hL;obtain⟨ks,zm,zq⟩:=z;dsimp only at hL;have hmk:zat (.mk p.op p.ctor p.n p.m p.var ks)=p:=by
   rw[zbh,if_neg (by rw[zce];exact hop.1),if_neg (by rw[zce];exact fun hh=>hop.2 hh.1)];simp only[zce,zfd,mk_n,mk_m,zhB,zaX];rw[hL.1];cases p;rfl
  by_cases c3:zm<=5
  ·by_cases c4:zax b zq 6=0
   ·rw[ztb c1 c2 hz.symm c3 c4];refine⟨?_,.inr ⟨rfl,rfl⟩⟩;rw[zbh,if_neg (by rw[zce];decide),if_pos ⟨rfl,by rw[zaX];simp⟩];exact hmk
   ·rw[ztc c1 c2 hz.symm c3 c4];exact⟨hmk,.inl fun k hk=>hL.2 k hk⟩
  ·rw[ztd c1 c2 hz.symm c3];exact⟨hmk,.inl fun k hk=>hL.2 k hk⟩
theorem zdp {p:Pat} (h5:p.op≠5){y:Pat} (hy:y∈zar p):∃l,y = .mk p.op p.ctor p.n p.m p.var l/\l.length=p.kids.length/\∀i,i<p.kids.length->nth l i∈zar (nth p.kids i):=by
 rw[zc5 h5] at hy;obtain⟨l,hl,rfl⟩:=List.mem_map.1 hy;obtain⟨q,hq,r,e,h1,h2⟩:=zh4 _ _ _ hl;rw[List.mem_singleton] at hq;rw[hq,List.nil_append] at e;subst e;rw[xac] at h1;refine⟨l,rfl,h1,fun i hi=>?_⟩;have:=h2 i (by simpa using hi);rwa [zaO (l:=p.kids.map zar) (by simpa using hi),List.getElem_map,<-zaO hi] at this
theorem dr_1 {p:Pat} (h:Dr 1 p):∃x,∀y∈zar p,y=x:=by
 rcases h with h|⟨h1,h2⟩|⟨h1,h2,h3⟩|⟨h1,h2⟩
 ·rw[h,zcf];exact⟨anyQ,fun y hy=>List.mem_singleton.1 hy⟩
 ·rw[zdo (by omega) h2];exact⟨p,fun y hy=>List.mem_singleton.1 hy⟩
 ·rw[zdu h1 h2,show nth p.kids 0=anyQ from h3 _ (zae (by omega)),show nth p.kids 1=anyQ from h3 _ (zae (by omega)),zcf];exact⟨anyQ,fun y hy=>by simpa using hy⟩
 ·refine⟨p,fun y hy=>?_⟩;obtain⟨l,rfl,h3,h4⟩:=zdp (by omega) hy;have:l=p.kids:=znT h3 (fun i hi=>by
   have h5:=h4 i (by omega);have h6:nth p.kids i=anyQ:=h2 _ (zae (by omega));rw[h6,zcf] at h5;rw[h6];exact List.mem_singleton.1 h5)
  rw[this];cases p;rfl
section
variable {w:List Data}{n:Nat}{t:Ty}
theorem zsW {p:Pat} (h:Dr 1 p) (hp:∀y∈zar p,zah w n t y=true):∀y∈zar p,shal y:=by
 intro y hy;have hpy:=hp y hy;rcases zbl hpy with o|o|o
 ·exact .inl o
 ·exact .inr (.inl o)
 ·refine .inr (.inr ⟨y.ctor,y.kids,(zaE hpy o).2.2.2, ?_⟩);rcases h with h|⟨h1,h2⟩|⟨h1,h2,h3⟩|⟨h1,h2⟩
  ·rw[h,zcf,List.mem_singleton] at hy;rw[hy];simp[zaX]
  ·rw[zdo (by omega) h2,List.mem_singleton] at hy;rw[hy,h2];simp
  ·rw[zdu h1 h2,show nth p.kids 0=anyQ from h3 _ (zae (by omega)),show nth p.kids 1=anyQ from h3 _ (zae (by omega)),zcf] at hy;have:y=anyQ:=by simpa using hy
   rw[this];simp[zaX]
  ·obtain⟨l,rfl,h3,h4⟩:=zdp (by omega) hy;intro k hk;rw[zaX] at hk;obtain⟨i,hi,rfl⟩:=List.getElem_of_mem hk;have h5:=h4 i (by omega);rw[show nth p.kids i=anyQ from h2 _ (zae (by omega)),zcf,List.mem_singleton,zaO hi] at h5;exact h5
theorem dr_2 {p:Pat} (h:Dr 2 p) (hp:∀y∈zar p,zah w n t y=true):PosP (fun y=>y∈zar p):=by
 have leaf:∀y,y.op=4->y∈zar p->p.op≠5->p.op=4:=fun y o hy h5=>by
  obtain⟨l,rfl,_,_⟩:=zdp h5 hy;exact o
 rcases h with h|⟨h1,h2⟩|⟨h1,h2,h3⟩|⟨h1,h2⟩
 ·rw[h,zcf];exact .inl fun k hk=>by rw[List.mem_singleton.1 hk];exact zrf
 ·rw[zdo (by omega) h2];exact .inl fun k hk=>by rw[List.mem_singleton.1 hk];exact .inr (.inl h1)
 ·refine .inl fun y hy=>?_;rw[zdu h1 h2] at hy hp;rcases List.mem_append.1 hy with hy|hy
  ·exact zsW (w:=w) (n:=n) (t:=t) (h3 _ (zae (by omega))) (fun z hz=>hp z (List.mem_append_left _ hz)) y hy
  ·exact zsW (w:=w) (n:=n) (t:=t) (h3 _ (zae (by omega))) (fun z hz=>hp z (List.mem_append_right _ hz)) y hy
 ·refine PosP.one (fun y y' hy hy'=>?_) (fun y hy=>?_)
  ·obtain⟨l,rfl,h3,h4⟩:=zdp (by omega) hy;obtain⟨l',rfl,h5,h6⟩:=zdp (by omega) hy';have:l=l':=znT (by omega) (fun i hi=>by
    obtain⟨x,hx⟩:=dr_1 (h2 _ (zae (i:=i) (by omega)));rw[hx _ (h4 i (by omega)),hx _ (h6 i (by omega))])
   rw[this]
  ·have hpy:=hp y hy;have h4p:y.op=4:=by obtain⟨l,rfl,_,_⟩:=zdp (by omega) hy;exact h1
   refine .inr (.inr ⟨y.ctor,y.kids,(zaE hpy h4p).2.2.2,fun k hk=>?_⟩);obtain⟨l,e,h3,h4⟩:=zdp (by omega) hy;have hkl:y.kids=l:=by rw[e];rfl
   rw[hkl] at hk;obtain⟨i,hi,rfl⟩:=List.getElem_of_mem hk;have hmi:=h4 i (by omega);have hd1:=h2 _ (zae (l:=p.kids) (i:=i) (by omega));obtain⟨x,hx⟩:=dr_1 hd1;cases n with
   |zero=>simp[zah] at hpy
   |succ n=>
    have hk2:=zaR hpy (i:=i) (by rw[hkl];omega);rw[hkl] at hk2;rw[<-zaO hi];exact zsW (w:=w) (n:=n) (t:=nth (zac w t y) i) hd1 (fun z hz=>by rw[hx z hz,<-hx _ hmi];exact hk2) _ hmi
theorem zwc {p:Pat} (h:Dr 2 p) (hp:∀y∈zar p,zah w n t y=true):∀y∈zar p,zjp y:=fun y hy=>(dr_2 h hp).two hy
end
theorem znB {n:Nat}{p:Pat} (hb:binP (n+1) p=true) (h5:p.op≠5){i:Nat} (hi:i<p.kids.length){z:Pat} (hz:z∈zar (nth p.kids i)):∃y∈zar p,nth y.kids i=z/\y.op=p.op/\y.ctor=p.ctor/\y.kids.length=p.kids.length:=by
 have hne:∀j,j<p.kids.length->∃x,x∈zar (nth p.kids j):=fun j hj=>by
  have:=(zj3 n (zd8 hb hj)).2;exact List.exists_mem_of_length_pos this
 have hch:∃l:List Pat,l.length=p.kids.length/\(∀j,j<p.kids.length->nth l j∈zar (nth p.kids j))/\nth l i=z:=by
  have:∀k,k<=p.kids.length->∃l:List Pat,l.length=k/\(∀j,j<k->nth l j∈zar (nth p.kids j))/\(i<k->nth l i=z):=fun k=>by
   induction k with
   |zero=>exact fun _=>⟨[],rfl,fun j hj=>by omega,fun h=>by omega⟩
   |succ k ih=>
    intro hk;obtain⟨l,h1,h2,h3⟩:=ih (by omega);have hx:∃x,x∈zar (nth p.kids k)/\(i=k->x=z):=by
     by_cases e:i=k
     ·exact⟨z,e ▸ hz,fun _=>rfl⟩
     ·obtain⟨x,hx⟩:=hne k (by omega);exact⟨x,hx,fun h=>absurd h e⟩
    obtain⟨x,hx,hxz⟩:=hx;have e1:nth (l++[x]) k=x:=by
     simp only[nth,List.getD];rw[List.getElem?_append_right (by omega),h1,Nat.sub_self];all_goals rfl
    have e2:∀j,j<k->nth (l++[x]) j=nth l j:=fun j hj=>by
     simp only[nth,List.getD];rw[List.getElem?_append_left (by omega)]
    refine⟨l++[x],by simp[h1],fun j hj=>?_,fun h=>?_⟩
    ·by_cases e:j=k
     ·subst e;rw[e1];exact hx
     ·rw[e2 j (by omega)];exact h2 j (by omega)
    ·by_cases e:i=k
     ·rw[e,e1];exact hxz e
     ·rw[e2 i (by omega)];exact h3 (by omega)
  obtain⟨l,h1,h2,h3⟩:=this p.kids.length (Nat.le_refl _);exact⟨l,h1,h2,h3 hi⟩
 obtain⟨l,h1,h2,h3⟩:=hch;refine⟨.mk p.op p.ctor p.n p.m p.var l, ?_,h3,rfl,rfl,h1⟩;rw[zc5 h5];refine List.mem_map.2 ⟨l, ?_,rfl⟩;have key:∀(ls:List (List Pat)) (r:List Pat) (out:List (List Pat)) (q:List Pat),r.length=ls.length->q∈out->(∀j,j<ls.length->nth r j∈nth ls j)->q++r∈ls.foldl za5 out:=fun ls=>by
  induction ls with
  |nil=>intro r out q hr hq _;rw[List.eq_nil_of_length_eq_zero hr,List.append_nil];exact hq
  |cons a s ih=>
   intro r out q hr hq hm;cases r with
   |nil=>simp at hr
   |cons x r=>
    rw[List.foldl_cons,show q++x::r=q++[x]++r by simp];refine ih r _ (q++[x]) (by simpa using hr) ?_ (fun j hj=>hm (j+1) (by simpa using hj));unfold za5;exact List.mem_flatMap.2 ⟨q,hq,List.mem_map.2 ⟨x,hm 0 (by simp),rfl⟩⟩
 have:=key (p.kids.map zar) l [[]] [] (by simp[h1]) (by simp) (fun j hj=>by
  rw[xac] at hj;rw[zaO (l:=p.kids.map zar) (by simpa using hj),List.getElem_map,<-zaO hj];exact h2 j hj)
 simpa [zef] using this
section
variable {w:List Data}{n:Nat}{t:Ty}
theorem zoF {p:Pat} (hb:binP 20 p=true) (h4:p.op=4) (hk:∀k∈p.kids,Dr 2 k) (hp:∀y∈zar p,zah w n t y=true):FormB (zar p):=by
 refine⟨p.ctor,p.kids.length,fun j y=>y∈zar (nth p.kids j),fun j hj=>?_,fun y hy=>?_⟩
 ·cases n with
  |zero=>
   refine .inl fun k hz=>?_;obtain⟨y,hy,_⟩:=znB hb (by omega) hj hz;have:=hp y hy;simp[zah] at this
  |succ n=>
   refine dr_2 (w:=w) (n:=n) (t:=nth (zaa w t p.ctor) j) (hk _ (zae hj)) (fun z hz=>?_);obtain⟨y,hy,h1,h2,h3,h5⟩:=znB hb (by omega) hj hz;have:=zaR (hp y hy) (i:=j) (by omega);rw[zaU (by omega),h1,h3] at this;exact this
 ·obtain⟨l,e,h1,h2⟩:=zdp (by omega) hy;refine⟨l, ?_,h1,h2⟩;have hpy:=hp y hy;have:=(zaE hpy (by rw[e];exact h4)).2.2.2;rw[this,e];rfl
theorem znR {p:Pat} (h:Dr 3 p) (hb:binP 20 p=true) (hp:∀y∈zar p,zah w n t y=true):Form (zar p):=by
 rcases h with h|⟨h1,h2⟩|⟨h1,h2,h3⟩|⟨h1,h2⟩
 ·rw[h,zcf];exact .inl fun k hk=>by rw[List.mem_singleton.1 hk];exact .inl rfl
 ·rw[zdo (by omega) h2];exact .inl fun k hk=>by rw[List.mem_singleton.1 hk];exact .inr (.inl h1)
 ·refine .inl fun y hy=>?_;rw[zdu h1 h2] at hy hp;rcases List.mem_append.1 hy with hy|hy
  ·exact zwc (w:=w) (n:=n) (t:=t) (h3 _ (zae (by omega))) (fun z hz=>hp z (List.mem_append_left _ hz)) y hy
  ·exact zwc (w:=w) (n:=n) (t:=t) (h3 _ (zae (by omega))) (fun z hz=>hp z (List.mem_append_right _ hz)) y hy
 ·exact .inr (zoF hb h1 h2 hp)
def RootOk (p:Pat):Prop:=(∀k∈p.kids,Dr 2 (zat k))\/(p.op=6/\p.kids.length=1/\Dr 3 (zat (nth p.kids 0)))
theorem zw5 {m k:Nat} (h:m<=k){p:Pat} (hp:binP m p=true):binP k p=true:=by
 induction h with
 |refl=>exact hp
 |step _ ih=>exact zlB _ ih
theorem zuK {p:Pat} (hr:RootOk p) (hs:zao w 10 t p=true):Form (zar (zat p)):=by
 have hpt:=zf6 10 hs;have hb:=zw5 (k:=20) (by omega) (zgy 10 hs);rcases hr with hr|⟨h6,h1,h2⟩
 ·rcases zdZ hs with o|o|o|o|o|o
  ·have hk:=zeH hs (by omega) (by omega) (by omega);rw[zbh,if_neg (by omega),if_neg (by omega),zdo (by rw[zce];omega) (by rw[zaX,hk];rfl)];exact .inl fun k hk=>by rw[List.mem_singleton.1 hk];exact .inl o
  ·rw[zbh,if_pos o,zcf];exact .inl fun k hk=>by rw[List.mem_singleton.1 hk];exact .inl rfl
  ·have hk:=zeH hs (by omega) (by omega) (by omega);rw[zbh,if_neg (by omega),if_neg (by omega),zdo (by rw[zce];omega) (by rw[zaX,hk];rfl)];exact .inl fun k hk=>by rw[List.mem_singleton.1 hk];exact .inr (.inl o)
  ·have e:zat p = .mk p.op p.ctor p.n p.m p.var (p.kids.map zat):=by rw[zbh,if_neg (by omega),if_neg (by omega)]
   rw[e] at hpt hb ⊢;refine .inr (zoF hb (by rw[zce];exact o) (fun k hk=>?_) hpt);rw[zaX] at hk;obtain⟨k0,h3,rfl⟩:=List.mem_map.1 hk;exact hr k0 h3
  ·have e:zat p = .mk p.op p.ctor p.n p.m p.var (p.kids.map zat):=by rw[zbh,if_neg (by omega),if_neg (by omega)]
   rw[e] at hpt hb ⊢;obtain⟨l2,_,_⟩:=zdM hs o;refine znR (w:=w) (n:=10) (t:=t) (.inr (.inr (.inl ⟨by rw[zce];exact o,by rw[zaX];simpa using l2,fun k hk=>?_⟩))) hb hpt;rw[zaX] at hk;obtain⟨k0,h3,rfl⟩:=List.mem_map.1 hk;exact hr k0 h3
  ·obtain⟨l1,_⟩:=zcQ hs o;have e:zat p=zat (nth p.kids 0):=by rw[zbh,if_neg (by omega),if_pos ⟨o,fun e=>by rw[e] at l1;simp at l1⟩]
   rw[e] at hpt hb ⊢;exact znR (Dr.up 2 (hr _ (zae (by omega)))) hb hpt
 ·have e:zat p=zat (nth p.kids 0):=by rw[zbh,if_neg (by omega),if_pos ⟨h6,fun e=>by rw[e] at h1;simp at h1⟩]
  rw[e] at hpt hb ⊢;exact znR h2 hb hpt
theorem zuR (b:Str) (w:List Data) (t:Ty) (q:Nat):RootOk (zb8 b w t q):=by
 unfold zb8;split
 ·have h4:=num4 b q;have hd:Dr 3 (zaH b w (numV b q [3,2,4,1]).toNat t (q+1)).1:=by
   rcases hn:(numV b q [3,2,4,1]).toNat with _|d
   ·exact Dr.any 3
   ·exact Dr.le (by omega) (zsa (b:=b) (w:=w) d t (q+1)).1
  unfold zc4;have hnb:=zqS (b:=b) (zaH b w (numV b q [3,2,4,1]).toNat t (q+1)).1.size 3 0 (zaH b w (numV b q [3,2,4,1]).toNat t (q+1)).2 hd;rcases hnb.kids with h|⟨h1,h2⟩
  ·refine .inl fun k hk=>?_;have hm:=h k hk;generalize (zaH b w (numV b q [3,2,4,1]).toNat t (q+1)).1=p0 at *;rcases hd with h|⟨h1,h2⟩|⟨h1,h2,h3⟩|⟨h1,h2⟩
   ·rw[h] at hm;simp[zaX] at hm
   ·rw[h2] at hm;simp at hm
   ·exact h3 _ hm
   ·exact h2 _ hm
  ·refine .inr ⟨h1,h2, ?_⟩;have:=hnb.bare;rw[zbh,if_neg (by omega),if_pos ⟨h1,fun e=>by rw[e] at h2;simp at h2⟩] at this;rw[this];exact hd
 ·exact .inl fun k hk=>by simp[anyP,Pat.kids] at hk
theorem zvx {b:Str}{p:Pat}{q:Nat} (hr:RootOk p) (hs:zao w 10 t (mutP b p q).1=true):RootOk (mutP b p q).1:=by
 have hv:zat zcO=anyQ:=(zbh _).trans (if_pos rfl);have two:∀ {x:Pat},zao w 10 t x=true->(x.op=1\/x.op=2\/x.op=3)->x.kids=[]:=fun h ho=>zeH h (by omega) (by omega) (by omega);rcases hr with hr|⟨h6,h1,h2⟩
 ·refine .inl ?_;unfold mutP;split;exact hr
  split;exact hr
  split;exact hr
  split
  ·intro k hk;rw[zaX] at hk;rcases List.mem_append.1 hk with hk|hk
   ·exact hr k hk
   ·rw[List.mem_singleton.1 hk,hv];exact Dr.any 2
  split
  ·intro k hk;rw[zaX] at hk;rcases List.mem_or_eq_of_mem_set hk with hk|rfl
   ·exact hr k hk
   ·rw[hv];exact Dr.any 2
  split;exact hr
  exact hr
 ·have keep:∀c n m v:Int,RootOk (.mk p.op c n m v p.kids):=fun c n m v=> .inr ⟨h6,h1,h2⟩;unfold mutP at hs ⊢;split
  ·rename_i e;rw[if_pos e] at hs;have hm:=zlV (b:=b) (p:=q+1) (l:=[0,7,1,2,5]) (by simp);simp only[List.mem_cons,List.not_mem_nil,or_false] at hm;exfalso;have hs:zao w 10 t (.mk (numV b (q+1) [0,7,1,2,5]) p.ctor p.n p.m p.var p.kids)=true:=hs;have ho:=zdZ hs;have hk:(Pat.mk (numV b (q+1) [0,7,1,2,5]) p.ctor p.n p.m p.var p.kids).kids.length=1:=h1;by_cases h5:(Pat.mk (numV b (q+1) [0,7,1,2,5]) p.ctor p.n p.m p.var p.kids).op=5
   ·have:=(zdM hs h5).1;omega
   ·rw[zce] at ho h5;have ho2:(Pat.mk (numV b (q+1) [0,7,1,2,5]) p.ctor p.n p.m p.var p.kids).op=numV b (q+1) [0,7,1,2,5]:=rfl;have:=two hs (by omega);rw[this] at hk;simp at hk
  rename_i e0;rw[if_neg e0] at hs;split;exact keep _ _ _ _
  rename_i e1;rw[if_neg e1] at hs;split;exact keep _ _ _ _
  rename_i e2;rw[if_neg e2] at hs;split
  ·rename_i e3;rw[if_pos e3] at hs;exfalso;have:=(zcQ hs (by rw[zce];exact h6)).1;rw[zaX,xaa,List.length_singleton] at this;omega
  split
  ·refine .inl fun k hk=>?_;rw[zaX] at hk;match hkk:p.kids,h1 with
   | [a],_=>
    rw[hkk] at hk;simp at hk;rw[hk,hv];exact Dr.any 2
  split;exact keep _ _ _ _
  exact keep _ _ _ _
theorem zvw {b b2:Str}{w2:List Data}{t2:Ty}{q q2:Nat} (hs:zao w 10 t (mutP b (zb8 b2 w2 t2 q2) q).1=true):Form (zar (zat (mutP b (zb8 b2 w2 t2 q2) q).1)):=
 zuK (zvx (zuR _ _ _ _) hs) hs
end
theorem zhA {w:List Data}{a k:Int}{p q:Pat}{z:List Pat} (h:minV w a k p q=some z):zci w a k p q=true/\∃r,sepV w ⟨a,k⟩ (zaY p)=some r/\zaK w ⟨a,k⟩ r (zaY q)=some z/\z.all (isP w ⟨a,k⟩)=true:=by
 cases h2:zci w a k p q with
 |false=>rw[zn6 h2] at h;cases h
 |true=>
  cases h3:sepV w ⟨a,k⟩ (zaY p) with
  |none=>rw[zqM h2 h3] at h;cases h
  |some r=>
   cases h4:zaK w ⟨a,k⟩ r (zaY q) with
   |none=>rw[zqN h2 h3 h4] at h;cases h
   |some z'=>
    rw[zqO h2 h3 h4] at h;split at h
    ·cases h;exact⟨rfl,r,rfl,h4,by assumption⟩
    ·cases h
theorem zwB {w:List Data} (hs:WSmall w) (hn:zhj w=true){a k:Int}{p q:Pat} (h2:zci w a k p q=true) (hf:zao w 10 ⟨a,k⟩ p=true->Form (zar (zat p))):FewQ w ⟨a,k⟩ (zaY p):=by
 obtain⟨hsp,hin,t1,t2,s1,s2,e1,e2,_⟩:=zdN hs h2;intro res h;rw[e1] at h t1;exact zvk hsp hn hin (hf s1) t1 h
theorem zjD {w:List Data}{t:Ty}{p:Pat}{v:Val}{m:Nat} (h:zao w 10 t p=true) (hv:zaF w m t v=true) (e:zaY p=zar (zat p)):(zaY p).any (fun x=>hitP x v)=(zau 10 p v).2:=by
 rw[e,Bool.eq_iff_iff,zeP 10 m h hv,List.any_eq_true]
theorem zqP {w:List Data} (hs:WSmall w){a k:Int}{p q:Pat}{z:List Pat}{v:Val}{m:Nat} (h:minV w a k p q=some z) (hv:zaF w m ⟨a,k⟩ v=true):z.countP (fun x=>hitP x v)=one ((zau 10 p v).2&& !(zau 10 q v).2):=by
 obtain⟨h2,r,h3,h4,h5⟩:=zhA h;obtain⟨hsp,hin,t1,t2,s1,s2,e1,e2,_⟩:=zdN hs h2;have hrp:=zgx _ [] [] (by simp) t1 (by simp) h3;rw[zly hsp hin hv t2 hrp h4,zn9 hsp hin hv _ [] [] (by simp) t1 h3,zjD s2 hv e2,zjD s1 hv e1];simp only[List.countP_nil,List.any_nil,Nat.zero_add,one];cases (zau 10 p v).2<;>cases (zau 10 q v).2<;>rfl
theorem zmY {w:List Data} (hs:WSmall w){a k:Int}{p q:Pat}{z:List Pat} (h:minV w a k p q=some z):∀x∈z,zah w 11 ⟨a,k⟩ x=true/\isP w ⟨a,k⟩ x=true/\∃m v,zaF w m ⟨a,k⟩ v=true/\hitP x v=true:=by
 obtain⟨h2,r,h3,h4,h5⟩:=zhA h;obtain⟨hsp,hin,t1,t2,s1,s2,e1,e2,_⟩:=zdN hs h2;have hrp:=zgx _ [] [] (by simp) t1 (by simp) h3;intro x hx;obtain⟨p1,_,p2⟩:=zlz (S:=fun _=>True) (fun _ _ _ _ _ _=>trivial) (fun b hb=>⟨t2 b hb,trivial⟩) (fun a ha=>⟨hrp a ha,trivial⟩) h4 x hx;obtain⟨m,v,h6,h7⟩:=zjP hsp 11 hin p1 (by unfold zbi at p2;simpa using p2);exact⟨p1,List.all_eq_true.1 h5 x hx,m,v,h6,h7⟩
theorem zjj {w:List Data}{a k:Int}{p:Pat}{v:Val} (h1:zca w ⟨a,k⟩=true) (h2:isP w ⟨a,k⟩ p=true) (hv:isV w ⟨a,k⟩ v=true):(zdE w a k p v).2=(zau 10 p v).2:=by
 have hp:zaD w a k p=true:=by unfold zaD;rw[h1,h2];rfl
 unfold zdE;rw[if_pos ⟨hp,hv⟩,zrG]
theorem zqG {w:List Data}{t:Ty}{v:Val} (hv:isV w t v=true):zaF w 10 t v=true:=by unfold isV at hv;rw[xad] at hv;exact hv.1
def prA (b:Str):Pat:=(mutP b (typP b 0) (typQ b 0)).1
def prQ (b:Str):Nat:=(mutP b (typP b 0) (typQ b 0)).2
def prB (b:Str):Pat:=zb8 b (zbj b 0) (typT b 0) (prQ b)
theorem zx9 (b:Str):prQ b<=610:=by
 have h1:=(zop b 0).2.2;unfold prQ mutP;repeat' split
 all_goals (dsimp only;omega)
theorem zqZ (b:Str):(prA b).size<=2000/\(prA b).ok:=by
 have h:=zop b 0;exact zwL (by omega) h.2.1
theorem zuA (b:Str):(prB b).size<=242/\(prB b).ok:=znj (b:=b) (zd2 b 0).few (ziU b 0) (prQ b)
theorem zvE (b:Str){w:List Data}{t:Ty} (h:zao w 10 t (prA b)=true):Form (zar (zat (prA b))):=zvw h
theorem zom {b:Str} (hb:b.length<=1000000000000):
  FnD Tryz.prog 63 [.d (zcY b)] [] (.tup [.d (zam (zbj (b.take 2000) 0)),.agg [.d (.i (typT (b.take 2000) 0).data),.d (.i (typT (b.take 2000) 0).index)],
   .agg [.d (.i (prA (b.take 2000)).op),.d (.i (prA (b.take 2000)).ctor),.d (.i (prA (b.take 2000)).n),.d (.i (prA (b.take 2000)).m),.d (.i (prA (b.take 2000)).var),.d (zad (prA (b.take 2000)).kids)],
   .agg [.d (.i (prB (b.take 2000)).op),.d (.i (prB (b.take 2000)).ctor),.d (.i (prB (b.take 2000)).n),.d (.i (prB (b.take 2000)).m),.d (.i (prB (b.take 2000)).var),.d (zad (prB (b.take 2000)).kids)]]) []:=by
 have hop:=zh7 hb;have hb2:(b.take 2000).length<=2000:=by rw[List.length_take];omega
 generalize b.take 2000=e at *;have hpo:=zop e 0;have hl:=zd2 e 0;have hq:=zx9 e;have hty:=zny (p:=0) hb2 (by omega);have hmp:=zl4 (q:=typQ e 0) hb2 (by omega) hpo.2.1;have hso:=ziR hb2 hl.dp.wt hl.few (a:=(typT e 0).data) (k:=(typT e 0).index) (p:=prQ e) (by omega) (ziU e 0);rw[show(mutP e (typP e 0) (typQ e 0)).1=prA e from rfl,show(mutP e (typP e 0) (typQ e 0)).2=prQ e from rfl] at hmp;rw[show zb8 e (zbj e 0) ⟨(typT e 0).data,(typT e 0).index⟩ (prQ e)=prB e from rfl] at hso;generalize prA e=x1 at *;generalize prB e=x2 at *;generalize prQ e=q1 at *;refine bd Tryz.f63 29 [] [] fun w0 F0 own kept hk=>?_;refine ab 3003 tz25 ?_;refine ab 3004 tz36 ?_;refine ab 3005 tz36 ?_;refine tv ?_;refine Walk.call (cr:=[900]) zsO (hop) rfl .none rfl rfl (LeL.refl _) trivial rfl (by rfl) (by rfl) ?_;refine ev ?_;refine wd zw9 (hty) rfl rfl ⟨rfl,trivial⟩ ?_;refine ev ?_;refine ab 3008 tz25 ?_;refine ab 3009 tz36 ?_;refine ab 3010 tz49 ?_;refine ev ?_;refine so ty25 ?_;refine so ty36 ?_;refine so ty49 ?_;refine tv ?_;refine wd zxa (hmp) rfl rfl ⟨rfl,trivial⟩ ?_;refine evd [] [] ?_;refine wd ztA (hso) rfl rfl ⟨rfl,trivial⟩ ?_;refine evd [] [] ?_;refine so ty25 ?_;refine so ty36 ?_;refine so ty36 ?_;refine dr ?_;focus (refine rn0 (.cons (.tmp rfl) (.cons (.cellA ty25 rfl rfl rfl) (.cons (.cellA ty36 rfl rfl rfl) (.cons (.cellA ty36 rfl rfl rfl) .nil)))) (.tup (.cons (.eqd ?_) (.cons (.agg (.cons (.eqd ?_) (.cons (.eqd ?_) .nil))) (.cons (.agg (.cons (.eqd ?_) (.cons (.eqd ?_) (.cons (.eqd ?_) (.cons (.eqd ?_) (.cons (.eqd ?_) (.cons (.eqd ?_) .nil))))))) (.cons (.agg (.cons (.eqd ?_) (.cons (.eqd ?_) (.cons (.eqd ?_) (.cons (.eqd ?_) (.cons (.eqd ?_) (.cons (.eqd ?_) .nil))))))) .nil)))));all_goals (rfl))
def orQ (p q:Pat):Pat:= .mk 5 0 0 0 0 [p,q]
def prW (b:Str):Pat:=if zax b 0 2=0 then orQ (zat (prB b)) (zat (prA b)) else prB b
theorem zya (b:Str):(prW b).size<=4000/\(prW b).ok:=by
 have h1:=zqZ b;have h2:=zuA b;unfold prW;split
 ·have s1:=zhS (prA b);have s2:=zhS (prB b);refine⟨?_, ?_⟩
  ·rw[Pat.size_eq];unfold orQ;simp only[zaX,Pats.size];omega
  ·rw[Pat.ok_iff];unfold orQ;simp only[zaX];exact⟨by simp,zhe _ h2.2,zhe _ h1.2,trivial⟩
 ·exact⟨by omega,h2.2⟩
theorem zg7 {b:Str} (hb:b.length<=1000000000000):
  FnD Tryz.prog 17 [.d (zcY b)] [] (.tup [.d (zam (zbj (b.take 2000) 0)),.agg [.d (.i (typT (b.take 2000) 0).data),.d (.i (typT (b.take 2000) 0).index)],
   .agg [.d (.i (prA (b.take 2000)).op),.d (.i (prA (b.take 2000)).ctor),.d (.i (prA (b.take 2000)).n),.d (.i (prA (b.take 2000)).m),.d (.i (prA (b.take 2000)).var),.d (zad (prA (b.take 2000)).kids)],
   .agg [.d (.i (prW (b.take 2000)).op),.d (.i (prW (b.take 2000)).ctor),.d (.i (prW (b.take 2000)).n),.d (.i (prW (b.take 2000)).m),.d (.i (prW (b.take 2000)).var),.d (zad (prW (b.take 2000)).kids)]]) []:=by
 have hpr:=zom hb;have hop:=zh7 hb;have hb2:(b.take 2000).length<=2000:=by rw[List.length_take];omega
 generalize b.take 2000=e at *;have hpk:=zbf (b:=e) (p:=0) (n:=2) hb2 (by omega) (by omega);have hbb:=zbY _ (Nat.le_refl _) (zuA e).2;have hba:=zbY _ (Nat.le_refl _) (zqZ e).2;have e1:zax e 0 2=0->prW e=orQ (zat (prB e)) (zat (prA e)):=fun h=>by unfold prW;rw[if_pos h]
 have e2:¬zax e 0 2=0->prW e=prB e:=fun h=>by unfold prW;rw[if_neg h]
 have e3:∀x y:Pat,zad (orQ x y).kids = .sl [x.cc,y.cc]:=fun x y=>by show D.sl (Pat.cs [x,y])=_;rw[xau];rfl
 by_cases h0:zax e 0 2=0
 ·rw[e1 h0,e3];clear e1 e2;generalize prA e=x1 at *;generalize prB e=x2 at *;refine bd Tryz.f17 36 [] [] fun w0 F0 own kept hk=>?_;refine ab 3003 tz25 ?_;refine ab 3004 tz36 ?_;refine ab 3005 tz36 ?_;refine tv ?_;refine wc zv5 (hpr) rfl rfl ?_;refine ev ?_;refine ab 3007 tz25 ?_;refine ab 3008 tz36 ?_;refine ab 3009 tz36 ?_;refine ev ?_;refine so ty25 ?_;refine so ty36 ?_;refine so ty36 ?_;refine tv ?_;refine Walk.call (cr:=[900]) zsO (hop) rfl .none rfl rfl (LeL.refl _) trivial rfl (by rfl) (by rfl) ?_;refine ev ?_;refine wd zc6 (hpk) rfl rfl ⟨rfl,trivial⟩ ?_;refine ev ?_;refine sq ?_ ?_<;>intro h1 h1p h1s<;>(try simp only[Q] at h1p);refine wc zkR (hbb) rfl rfl ?_;refine evd [] [] ?_;refine wc zkR (hba) rfl rfl ?_;refine si [0,1] [_,_] sl34 tz36 ?_;refine bu [0,5] [_,_] st36 ?_;refine evd [] [] ?_;refine so ty25 ?_;refine so ty36 ?_;refine so ty36 ?_;refine dr ?_;refine rn0 (.cons (.tmp rfl) (.cons (.cellA ty25 rfl rfl rfl) (.cons (.cellA ty36 rfl rfl rfl) (.cons (.cellA ty36 rfl rfl rfl) .nil)))) (.tup (.cons (.eqd ?_) (.cons (.agg (.cons (.eqd ?_) (.cons (.eqd ?_) .nil))) (.cons (.agg (.cons (.eqd ?_) (.cons (.eqd ?_) (.cons (.eqd ?_) (.cons (.eqd ?_) (.cons (.eqd ?_) (.cons (.eqd ?_) .nil))))))) (.cons (.agg (.cons (.eqd ?_) (.cons (.eqd ?_) (.cons (.eqd ?_) (.cons (.eqd ?_) (.cons (.eqd ?_) (.cons (.eqd ?_) .nil))))))) .nil)))));rotate_left 15;exfalso;first|contradiction|omega
  all_goals (rfl)
 ·rw[e2 h0];clear e1 e2;generalize prA e=x1 at *;generalize prB e=x2 at *;refine bd Tryz.f17 36 [] [] fun w0 F0 own kept hk=>?_;refine ab 3003 tz25 ?_;refine ab 3004 tz36 ?_;refine ab 3005 tz36 ?_;refine tv ?_;refine wc zv5 (hpr) rfl rfl ?_;refine ev ?_;refine ab 3007 tz25 ?_;refine ab 3008 tz36 ?_;refine ab 3009 tz36 ?_;refine ev ?_;refine so ty25 ?_;refine so ty36 ?_;refine so ty36 ?_;refine tv ?_;refine Walk.call (cr:=[900]) zsO (hop) rfl .none rfl rfl (LeL.refl _) trivial rfl (by rfl) (by rfl) ?_;refine ev ?_;refine wd zc6 (hpk) rfl rfl ⟨rfl,trivial⟩ ?_;refine ev ?_;refine sq ?_ ?_<;>intro h1 h1p h1s<;>(try simp only[Q] at h1p);exfalso;first|contradiction|omega
  refine so ty25 ?_;refine so ty36 ?_;refine so ty36 ?_;refine dr ?_;refine rn0 (.cons (.tmp rfl) (.cons (.cellA ty25 rfl rfl rfl) (.cons (.cellA ty36 rfl rfl rfl) (.cons (.cellA ty36 rfl rfl rfl) .nil)))) (.tup (.cons (.eqd ?_) (.cons (.agg (.cons (.eqd ?_) (.cons (.eqd ?_) .nil))) (.cons (.agg (.cons (.eqd ?_) (.cons (.eqd ?_) (.cons (.eqd ?_) (.cons (.eqd ?_) (.cons (.eqd ?_) (.cons (.eqd ?_) .nil))))))) (.cons (.agg (.cons (.eqd ?_) (.cons (.eqd ?_) (.cons (.eqd ?_) (.cons (.eqd ?_) (.cons (.eqd ?_) (.cons (.eqd ?_) .nil))))))) .nil)))));rotate_left 15;all_goals (rfl)
theorem zqk {w:List Data}{f:Nat->Nat}{n:Nat}{t:Ty}{p:Pat} (h:p.op=6) (hk:p.kids.length=1):zaB w f (n+1) t p=zaB w f n t (nth p.kids 0):=by
 have e:zac w t p=[t]:=by unfold zac;rw[if_neg (by omega),if_neg (by omega),if_pos (by omega)]
 rw[zbO,if_neg (by omega),if_neg (by omega),e];match hkk:p.kids,hk with
 | [x],_=>
  show(!((!zaB w f n t x)&&true))=zaB w f n t x
  cases zaB w f n t x<;>rfl
mutual
theorem zux:∀v:Val,v.size<=1000000000000->v.ok
 | .mk a n ks,h=>by
  have h1:1+Vals.size ks<=1000000000000:=h;exact⟨by have:=zsj ks;omega,zsq ks (by omega)⟩
theorem zsq:∀l:List Val,Vals.size l<=1000000000000->Vals.ok l
 | [],_=>trivial
 |v::r,h=>by
  have h1:v.size+Vals.size r<=1000000000000:=h;exact⟨zux v (by omega),zsq r (by omega)⟩
theorem zsj:∀l:List Val,l.length<=Vals.size l
 | []=>Nat.zero_le _
 |v::r=>by
  have h1:=zsj r;have h2:=Val.size_eq v;show r.length+1<=v.size+Vals.size r
  omega
end
def hitC (w:List Data) (t:Ty) (c:Int):Bool:=decide (most w (zaf w) t c=dv (zaf w) t)
def zdD (w:List Data) (t:Ty):Int:=((zai w t).find? (hitC w t)).getD 0
def zc1 (w:List Data):Nat->Ty->Val
 |0,_=> .mk 0 0 []
 |n+1,t=>if t.data = -1 then .mk (-1) 0 [] else .mk (zdD w t) 0 ((zaa w t (zdD w t)).map (zc1 w n))
structure Dq (w:List Data) (n:Nat) (t:Ty):Prop where
 ins:InS (w.length*4) t
 pos:0<dv (zaf w) t
 le:dv (zaf w) t<=n
theorem zjh {w:List Data} (hd:Dp w){n:Nat}{t:Ty} (h:Dq w n t) (hne:¬t.data = -1):zdD w t∈zai w t/\most w (zaf w) t (zdD w t)=dv (zaf w) t:=by
 obtain⟨c,hc,h1,h2⟩:=zoY hd h.ins hne h.pos;unfold zdD;cases hf:(zai w t).find? (hitC w t) with
 |none=>exact absurd (decide_eq_true h2) (List.find?_eq_none.1 hf c hc)
 |some x=>exact⟨List.mem_of_find?_eq_some hf,of_decide_eq_true (show hitC w t x=true from List.find?_some hf)⟩
theorem zus {w:List Data}{t:Ty}{pre rest:List Int}{y:Int} (h:pre++y::rest=zai w t) (h1:∀x∈pre,hitC w t x=false) (h2:hitC w t y=true):zdD w t=y:=by
 unfold zdD;rw[<-h,List.find?_append,List.find?_eq_none.2 (fun x hx=>by rw[h1 x hx];simp),Option.none_or,List.find?_cons_of_pos h2];rfl
theorem zoQ {w:List Data} (hd:Dp w){n:Nat}{t:Ty} (h:Dq w (n+1) t) (hne:¬t.data = -1):∀u∈zaa w t (zdD w t),Dq w n u:=by
 intro u hu;obtain⟨h1,h2⟩:=zjh hd h hne;have hp:=h.pos;have hl:=h.le;have hin:=za7 hd h.ins h1 u hu;have hs:=(zgv (f:=zaf w) (l:=zaa w t (zdD w t)) (m:=0) (by show 0<most w (zaf w) t (zdD w t);omega)).2 u hu;have hlt:dv (zaf w) u<most w (zaf w) t (zdD w t):=hs.2;exact⟨hin,hs.1,by omega⟩
theorem zse {w:List Data}{n:Nat}{t:Ty}{c:Int}{l:List Val} (hne:¬t.data = -1) (hm:c∈zai w t) (h:all2 (zaF w n) (zaa w t c) l=true):zaF w (n+1) t (.mk c 0 l)=true:=by
 unfold zaF;rw[if_neg hne,if_pos ⟨rfl,zij hm⟩];exact h
theorem zqr {w:List Data}{n:Nat}{t:Ty}{i:Int} (h:t.data = -1) (h0:0<=i) (h9:i<=9):zaF w (n+1) t (.mk (-1) i [])=true:=by
 unfold zaF;rw[if_pos h];simp only[xad,decide_eq_true_eq];exact⟨rfl,h0,h9,rfl⟩
theorem zwN {α β:Type} [Inhabited α] [Inhabited β]{f:α->β}{l:List α}{i:Nat} (h:i<l.length):nth (l.map f) i=f (nth l i):=by
 simp[nth,List.getD,h]
theorem zji {w:List Data} (hd:Dp w):∀(n:Nat){t:Ty},Dq w n t->zaF w n t (zc1 w n t)=true
 |0,t,h=>by have:=h.pos;have:=h.le;omega
 |n+1,t,h=>by
  unfold zc1;by_cases hne:t.data = -1
  ·rw[if_pos hne];exact zqr hne (by omega) (by omega)
  ·rw[if_neg hne];refine zse hne (zjh hd h hne).1 (zbz (by simp) (fun i hi=>?_));rw[zwN hi];exact zji hd n (zoQ hd h hne _ (zae hi))
def zipV (f:Ty->Pat->Val):List Ty->List Pat->List Val
 |t::r,p::s=>f t p::zipV f r s
 |_,_=>[]
theorem zhN {f:Ty->Pat->Val}:∀ {a:List Ty}{b:List Pat},a.length=b.length->(zipV f a b).length=a.length
 | [],[],_=>rfl
 |_::r,_::s,h=>by simp only[zipV,xab,zhN (f:=f) (a:=r) (b:=s) (by simpa using h)]
 | [],_::_,h=>by simp at h
 |_::_,[],h=>by simp at h
theorem zjv {f:Ty->Pat->Val}:∀ {a:List Ty}{b:List Pat}{i:Nat},a.length=b.length->i<a.length->nth (zipV f a b) i=f (nth a i) (nth b i)
 |_::_,_::_,0,_,_=>rfl
 |_::r,_::s,i+1,h,hi=>zjv (f:=f) (a:=r) (b:=s) (i:=i) (by simpa using h) (by simpa using hi)
 | [],[],_,_,hi=>by simp at hi
 | [],_::_,_,h,_=>by simp at h
 |_::_,[],_,h,_=>by simp at h
theorem zu9 {f:Ty->Pat->Val}{a:List Ty}{b:List Pat}{i:Nat} (h:a.length=b.length) (hi:i<a.length):(zipV f a b).take (i+1)=(zipV f a b).take i++[f (nth a i) (nth b i)]:=by
 rw[<-zjv (f:=f) h hi,List.take_add_one];have hl:=zhN (f:=f) h;rw[show(zipV f a b)[i]?=some (nth (zipV f a b) i) from by simpa using zas (f:=id) (l:=zipV f a b) (i:=i) (by omega)];rfl
def zaN (w:List Data):Nat->Ty->Pat->Val
 |0,_,_=> .mk 0 0 []
 |n+1,t,p=>
  if p.op=1\/p.op=2 then zc1 w 10 t
  else if p.op=3 then .mk (-1) p.n []
  else if p.op=6 then zaN w n t (nth p.kids 0)
  else if p.op=5 then (if zaB w (zaf w) n t (nth p.kids 0)=true then zaN w n t (nth p.kids 1) else zaN w n t (nth p.kids 0))
  else .mk p.ctor 0 (zipV (zaN w n) (zaa w t p.ctor) p.kids)
def zcb (w:List Data):Nat->Ty->Pat->Bool
 |0,_,_=>true
 |n+1,t,p=>if p.op=1\/p.op=2 then decide (10<dv (zaf w) t) else !(all2 (fun u q=> !zcb w n u q) (zac w t p) p.kids)
theorem zi4 {w:List Data}{n:Nat}{t:Ty}{p:Pat}:zcb w (n+1) t p=if p.op=1\/p.op=2 then decide (10<dv (zaf w) t) else !(all2 (fun u q=> !zcb w n u q) (zac w t p) p.kids):=rfl
section
variable {w:List Data}{n:Nat}{t:Ty}{p:Pat}
theorem zlX (h:p.op=1\/p.op=2):zaN w (n+1) t p=zc1 w 10 t:=by unfold zaN;rw[if_pos h]
theorem zq8 (h:p.op=3):zaN w (n+1) t p = .mk (-1) p.n []:=by unfold zaN;rw[if_neg (by omega),if_pos h]
theorem zra (h:p.op=6):zaN w (n+1) t p=zaN w n t (nth p.kids 0):=by
 conv=>lhs;unfold zaN
 rw[if_neg (by omega),if_neg (by omega),if_pos h]
theorem zpa (h:p.op=5) (he:zaB w (zaf w) n t (nth p.kids 0)=true):zaN w (n+1) t p=zaN w n t (nth p.kids 1):=by
 conv=>lhs;unfold zaN
 rw[if_neg (by omega),if_neg (by omega),if_neg (by omega),if_pos h,if_pos he]
theorem zpb (h:p.op=5) (he:zaB w (zaf w) n t (nth p.kids 0)=false):zaN w (n+1) t p=zaN w n t (nth p.kids 0):=by
 conv=>lhs;unfold zaN
 rw[if_neg (by omega),if_neg (by omega),if_neg (by omega),if_pos h,if_neg (by rw[he];simp)]
theorem zq9 (h:p.op=4):zaN w (n+1) t p = .mk p.ctor 0 (zipV (zaN w n) (zaa w t p.ctor) p.kids):=by
 conv=>lhs;unfold zaN
 rw[if_neg (by omega),if_neg (by omega),if_neg (by omega),if_neg (by omega)]
theorem zqh (h:p.op=1\/p.op=2) (hd:zcb w (n+1) t p=false):dv (zaf w) t<=10:=by
 rw[zi4,if_pos h] at hd;have:=of_decide_eq_false hd;omega
theorem ze3 (h:¬(p.op=1\/p.op=2)) (hd:zcb w (n+1) t p=false) (hl:(zac w t p).length=p.kids.length):∀i,i<p.kids.length->zcb w n (nth (zac w t p) i) (nth p.kids i)=false:=fun i hi=>by
 rw[zi4,if_neg h] at hd;have ha:all2 (fun u q=> !zcb w n u q) (zac w t p) p.kids=true:=by simpa using hd
 simpa using zcG hl ha i (by omega)
end
theorem zfh {w:List Data} (hd:Dp w):∀(n:Nat){t:Ty}{p:Pat},zao w n t p=true->InS (w.length*4) t->zaB w (zaf w) n t p=false->zcb w n t p=false->
  zaF w (n+10) t (zaN w n t p)=true/\(zau n p (zaN w n t p)).2=true
 |0,t,p,h,_,_,_=>by simp[zao] at h
 |n+1,t,p,h,ht,he,hp=>by
  obtain⟨ho,hlen⟩:=zbq h;rcases zdZ h with h1|h1|h3|h4|h5|h6
  ·have h8:=zqh (.inl h1) hp;rw[zbO,if_pos (.inl h1)] at he;have:=of_decide_eq_false he;rw[zlX (.inl h1),ze9 h1];exact⟨zdP (by omega) (zji hd 10 ⟨ht,by omega,h8⟩),rfl⟩
  ·have h8:=zqh (.inr h1) hp;rw[zbO,if_pos (.inr h1)] at he;have:=of_decide_eq_false he;rw[zlX (.inr h1),zfX h1];exact⟨zdP (by omega) (zji hd 10 ⟨ht,by omega,h8⟩),rfl⟩
  ·unfold ownP at ho;have hi:=(of_decide_eq_true ho).2.2.2.2;rw[zq8 h3,zeC h3];refine⟨zqr (by omega) (by omega) (by omega), ?_⟩;show zav p.n p.n p.m=true
   unfold zav;rw[xad,decide_eq_true_eq,decide_eq_true_eq];omega
  ·have hs:=h;unfold zao at hs;rw[xad,zaU h4] at hs;have hl:=zeM hs.2;have hm:=zb4 hs.1 h4;have hdt:t.data≠ -1:=fun e=>by unfold zai at hm;rw[if_pos e] at hm;simp at hm
   rw[zbO,if_neg (by omega),if_neg (by omega),zaU h4] at he;have ha:all2 (fun u q=> !zaB w (zaf w) n u q) (zaa w t p.ctor) p.kids=true:=by simpa using he
   have hdk:=ze3 (by omega) hp hlen.symm;rw[zaU h4] at hdk;have ih:=fun i (hi:i<p.kids.length)=>zfh hd n (zcG hl hs.2 i (by omega)) (za7 hd ht hm _ (zae (by omega))) (by have:=zcG hl ha i (by omega);simpa using this) (hdk i hi);rw[zq9 h4];refine⟨?_, ?_⟩
   ·rw[show n+1+10=(n+10)+1 by omega];refine zse hdt hm (zbz (zhN hl).symm (fun i hi=>?_));rw[zjv hl hi];exact(ih i (by omega)).1
   ·rw[zfY h4 rfl];refine(zgY (by rw[show Val.kids (.mk p.ctor 0 (zipV (zaN w n) (zaa w t p.ctor) p.kids))=zipV (zaN w n) (zaa w t p.ctor) p.kids from rfl,zhN hl];exact hl.symm)).2 (fun i hi=>?_);show(zau n (nth p.kids i) (nth (zipV (zaN w n) (zaa w t p.ctor) p.kids) i)).2=true
    rw[zjv hl (by omega)];exact(ih i hi).2
  ·obtain⟨k1,k2,k3⟩:=zdM h h5;rw[zbO,if_neg (by omega),if_pos h5] at he;have e5:zac w t p=[t,t]:=by unfold zac;rw[if_neg (by omega),if_pos h5]
   have hdk:=ze3 (by omega) hp hlen.symm;rw[e5] at hdk;have hk0:zcb w n t (nth p.kids 0)=false:=hdk 0 (by omega);have hk1:zcb w n t (nth p.kids 1)=false:=hdk 1 (by omega);cases e0:zaB w (zaf w) n t (nth p.kids 0) with
   |false=>
    obtain⟨h7,h8⟩:=zfh hd n k2 ht e0 hk0;rw[zpb h5 e0];exact⟨zdP (by omega) h7,by rw[zeY h5 h8]⟩
   |true=>
    rw[e0,Bool.true_and] at he;obtain⟨h7,h8⟩:=zfh hd n k3 ht he hk1;rw[zpa h5 e0];refine⟨zdP (by omega) h7, ?_⟩;cases e2:(zau n (nth p.kids 0) (zaN w n t (nth p.kids 1))).2 with
    |true=>rw[zeY h5 e2]
    |false=>rw[zf0 h5 e2];exact h8
  ·obtain⟨k1,k2⟩:=zcQ h h6;rw[zqk h6 k1] at he;have e6:zac w t p=[t]:=by unfold zac;rw[if_neg (by omega),if_neg (by omega),if_pos (by omega)]
   have hdk:=ze3 (by omega) hp hlen.symm;rw[e6] at hdk;obtain⟨h7,h8⟩:=zfh hd n k2 ht he (hdk 0 (by omega));rw[zra h6];exact⟨zdP (by omega) h7,by rw[zfa h6];exact h8⟩
def zbI (w:List Data) (a k:Int) (p:Pat):Option Val:=
 if zaD w a k p=true/\zaB w (zaf w) 10 ⟨a,k⟩ p=false/\zcb w 10 ⟨a,k⟩ p=false/\isV w ⟨a,k⟩ (zaN w 10 ⟨a,k⟩ p)=true then some (zaN w 10 ⟨a,k⟩ p) else none
abbrev optV (o:Option Val):Val:=o.getD (.mk 0 0 [])
theorem zg3 {w:List Data} (hs:WSmall w){a k:Int}{p:Pat} (h:zaD w a k p=true):Spa w/\InS (w.length*4) ⟨a,k⟩/\zao w 10 ⟨a,k⟩ p=true/\zca w ⟨a,k⟩=true:=by
 unfold zaD at h;rw[xad] at h;have hshape:zao w 10 ⟨a,k⟩ p=true:=by have:=h.2;unfold isP at this;rw[xad] at this;exact this.1
 refine⟨zrx hs (zct h.1).1, ?_,hshape,h.1⟩;obtain⟨_,_,h3⟩:=zct h.1;by_cases ha:a = -1
 ·exact .inl ha
 ·obtain⟨h4,h5,h6,h7⟩:=h3 ha;have:=zuq (n:=w.length) h5 (j:=k.toNat) (by omega);rwa [Int.toNat_of_nonneg h4,Int.toNat_of_nonneg h6] at this
theorem zky {w:List Data} (hs:WSmall w){a k:Int}{p:Pat}{v:Val} (h:zbI w a k p=some v):v=zaN w 10 ⟨a,k⟩ p/\isV w ⟨a,k⟩ v=true/\(zau 10 p v).2=true/\zaD w a k p=true/\zaB w (zaf w) 10 ⟨a,k⟩ p=false/\zcb w 10 ⟨a,k⟩ p=false:=by
 unfold zbI at h;split at h
 ·rename_i hh;obtain⟨h1,h2,h3,h4⟩:=hh;cases h
  obtain⟨hsp,hin,hsh,_⟩:=zg3 hs h1;exact⟨rfl,h4,(zfh hsp.dp 10 hsh hin h2 h3).2,h1,h2,h3⟩
 ·cases h
theorem zvK {w:List Data}{a k:Int}{p:Pat} (h:zaD w a k p=false):zbI w a k p=none:=by unfold zbI;rw[if_neg (fun hh=>by rw[h] at hh;exact absurd hh.1 (by simp))]
theorem zvL {w:List Data}{a k:Int}{p:Pat} (h:¬(zaB w (zaf w) 10 ⟨a,k⟩ p=false/\zcb w 10 ⟨a,k⟩ p=false)):zbI w a k p=none:=by unfold zbI;rw[if_neg (fun hh=>h ⟨hh.2.1,hh.2.2.1⟩)]
theorem zvM {w:List Data}{a k:Int}{p:Pat} (h1:zaD w a k p=true) (h2:zaB w (zaf w) 10 ⟨a,k⟩ p=false) (h3:zcb w 10 ⟨a,k⟩ p=false):zbI w a k p=if isV w ⟨a,k⟩ (zaN w 10 ⟨a,k⟩ p)=true then some (zaN w 10 ⟨a,k⟩ p) else none:=by
 unfold zbI;by_cases h:isV w ⟨a,k⟩ (zaN w 10 ⟨a,k⟩ p)=true
 ·rw[if_pos ⟨h1,h2,h3,h⟩,if_pos h]
 ·rw[if_neg (fun hh=>h hh.2.2.2),if_neg h]
theorem zu3 {w:List Data} (hd:Dp w){n:Nat}{a k:Int}{p:Pat} (h:zao w (n+1) ⟨a,k⟩ p=true) (hi:InS (w.length*4) ⟨a,k⟩):∀i,i<(zac w ⟨a,k⟩ p).length->InS (w.length*4) (nth (zac w ⟨a,k⟩ p) i):=fun i hl=>by
 have hm:=zae hl;have pk:=zpL (k:=k) h;unfold zac at hm ⊢;split
 ·rename_i h4;rw[if_pos h4] at hm;exact za7 hd hi (pk.mem h4) _ hm
 ·rename_i h4;rw[if_neg h4] at hm;split
  ·rename_i h5;rw[if_pos h5] at hm;simp only[List.mem_cons,List.not_mem_nil,or_false,or_self] at hm;rw[hm];exact hi
  ·rename_i h5;rw[if_neg h5] at hm;split
   ·rename_i h6;rw[if_pos h6] at hm;simp only[List.mem_cons,List.not_mem_nil,or_false] at hm;rw[hm];exact hi
   ·rename_i h6;rw[if_neg h6] at hm;simp at hm
theorem zpc {w:List Data} (hs:Spa w){n:Nat} (hn:n<=10){t:Ty}{p:Pat} (h:zao w n t p=true) (ht:InS (w.length*4) t) (he:zaB w (zaf w) n t p=false) (hp:zcb w n t p=false):
  (zaN w n t p).size<=1000000000000/\(zaN w n t p).ok:=by
 have h1:=zoB hs (n+10) ht (zfh hs.dp n h ht he hp).1;have h2:∀i,i<=20->szN i<=1000000000000:=by
  have:∀i:Nat,i<21->szN i<=1000000000000:=by decide
  exact fun i hi=>this i (by omega)
 have h3:=h2 (n+10) (by omega);have h4:(zaN w n t p).size<=1000000000000:=by omega
 exact⟨h4,zux _ h4⟩
theorem zsr {w:List Data} (hs:WSmall w){a k:Int}{p:Pat}:(optV (zbI w a k p)).size<=1000000000000/\(optV (zbI w a k p)).ok:=by
 cases h:zbI w a k p with
 |none=>exact⟨by show Val.size (.mk 0 0 [])<=_;simp[Val.size,Vals.size],by show Val.ok (.mk 0 0 []);simp[Val.ok,Vals.ok]⟩
 |some v=>
  obtain⟨rfl,_,_,h1,h2,h3⟩:=zky hs h;obtain⟨hsp,hin,hsh,_⟩:=zg3 hs h1;exact zpc hsp (Nat.le_refl _) hsh hin h2 h3
end Go.Proofs.YtlfipehhbdjnjaaGreat
