/-
  THE ABSTRACT WALK AND THE WALKS, part 5 of 6: the parts F75, F76, F77, F78, F73, F82, F83, F79, F59, F80, F81, F84, F136, F110, F113, F120, G5, F122, F125, F123, F121, F126, F127, F137, F141.
-/
import Derived.Test.YtlfipehhbdjnjaaGreatT514
namespace Go.Proofs.YtlfipehhbdjnjaaGreat
open Go
set_option linter.unusedSimpArgs false
set_option linter.unusedVariables false
set_option maxRecDepth 100000
set_option maxHeartbeats 2000000
theorem zgg {w:List Data} (hs:Spa w):∀(n:Nat){t:Ty}{p:Pat},InS (w.length*4) t->zai w n t p=true->p.ok/\p.size<=4 ^ n
 |0,t,p,_,h=>by simp[zai] at h
 |n+1,t,p,ht,h=>by
  have hk:=fun i (hi:i<p.kids.length)=>za4 h hi;have hl:=(zhQ h).2;have op:=zbF h;have hpow:4 ^ (n+1)=4 ^ n*4:=rfl;have hpos:0<4 ^ n:=Nat.pow_pos (by omega);by_cases h4:p.op=4
  ·obtain⟨m1,m2,m3,m4⟩:=zaM h h4;have h3:=hs.args t p.ctor ht m1;rw[zaU h4] at hk;have ih:∀k∈p.kids,k.ok/\k.size<=4 ^ n:=fun k hkm=>by
    obtain⟨i,hi,rfl⟩:=List.getElem_of_mem hkm;have e:nth p.kids i=p.kids[i]:=za1 hi;have:=zgg hs n (zbc hs.dp ht m1 _ (zae (i:=i) (by omega))) (hk i hi);rwa [e] at this
   have hz:=Pats.size_of (m:=4 ^ n) (fun k hk=>(ih k hk).2);rw[Pat.ok_iff,Pat.size_eq];refine⟨⟨by omega,Pats.ok_of (fun k hk=>(ih k hk).1)⟩, ?_⟩;have:p.kids.length*4 ^ n<=3*4 ^ n:=Nat.mul_le_mul_right _ (by omega);omega
  ·have hk0:p.kids=[]:=zhh (zhf _ h) h4 (by omega) (by omega);rw[Pat.ok_iff,Pat.size_eq,hk0];exact⟨⟨by simp,trivial⟩,by simp only[Pats.size];omega⟩
theorem zpa {α:Type}{g:Int->List α}{c0:Int}{X:Nat}:∀ {cs:List Int},cs.Nodup->(∀c∈cs,c≠c0->(g c).length<=1)->(g c0).length<=X->(cs.flatMap g).length<=cs.length+X
 | [],_,_,_=>by simp
 |c::r,hn,h1,h2=>by
  obtain⟨n1,n2⟩:=List.nodup_cons.1 hn;rw[List.flatMap_cons,xaa,xab];by_cases hc:c=c0
  ·have key:∀l:List Int,c0∉l->(∀x∈l,x≠c0->(g x).length<=1)->(l.flatMap g).length<=l.length:=by
    intro l;induction l with
    |nil=>intro _ _;simp
    |cons y s ih=>
     intro hm hh;rw[List.flatMap_cons,xaa,xab];have a1:=hh y (by simp) (fun e=>hm (by rw[e];simp));have a2:=ih (fun e=>hm (by simp[e])) (fun x hx=>hh x (by simp[hx]));omega
   have:=key r (by rw[<-hc];exact n1) (fun x hx=>h1 x (by simp[hx]));rw[hc];omega
  ·have a1:=h1 c (by simp) hc;have a2:=zpa (X:=X) n2 (fun x hx=>h1 x (by simp[hx])) h2;omega
theorem znp {f:Ty->Pat->Pat->List Pat}{c:Int} (L:Pat->Nat):∀(ts:List Ty) (xs bs front:List Pat),(∀i,i<ts.length->i<xs.length->i<bs.length->(f (nth ts i) (nth xs i) (nth bs i)).length<=L (nth bs i))->(zaR f c ts xs bs front).length<=(bs.map L).sum
 | [],xs,bs,front,_=>by simp[zaR]
 |_::_,[],bs,front,_=>by simp[zaR]
 |_::_,_::_,[],front,_=>by simp[zaR]
 |u::r,x::s,y::q,front,h=>by
  have h0:=h 0 (by simp) (by simp) (by simp);change (f u x y).length<=L y at h0
  unfold zaR;rw[xaa,xac,xae,List.sum_cons];cases hm:zaL 11 x y with
  |none=>simp;omega
  |some both=>
   have:=znp (c:=c) L r s q (front++[both]) (fun i h1 h2 h3=>h (i+1) (by simpa using h1) (by simpa using h2) (by simpa using h3));dsimp only;omega
theorem zti {w:List Data}{f:Ty->Pat->Pat->List Pat}{t:Ty}{a b:Pat}{L:Pat->Nat} (h:∀i,i<(zaa w t a.ctor).length->i<a.kids.length->i<b.kids.length->(f (nth (zaa w t a.ctor) i) (nth a.kids i) (nth b.kids i)).length<=L (nth b.kids i)):
  (zcS f w t a b).length<=if a.ctor=b.ctor then (b.kids.map L).sum else 1:=by
 unfold zcS;split
 ·exact znp L _ _ _ _ h
 ·simp
theorem sum4:∀l:List Pat,(l.map fun b=>4*b.size).sum=4*Pats.size l
 | []=>rfl
 |k::r=>by simp only[xae,List.sum_cons,Pats.size,sum4 r];omega
theorem zpr {w:List Data} (hs:Spa w):∀(n m:Nat){t:Ty}{a b:Pat},n<m->InS (w.length*4) t->zai w m t a=true->zai w n t b=true->(zav w n t a b).length<=4*b.size
 |0,m,t,a,b,_,_,_,hb=>by simp[zai] at hb
 |n+1,0,t,a,b,hn,_,_,_=>by omega
 |n+1,m+1,t,a,b,hn,ht,ha,hb=>by
  have ob:=zbF hb;have hz:=Pat.size_eq b;rcases ob with h1|h3|h4
  ·rw[zhx h1];simp
  ·rw[zi0 h3];have:=ztj a b;omega
  ·obtain⟨n1,n2,n3,n4⟩:=zaM hb h4;have hcc:∀a,zai w (m+1) t a=true->a.op=4->(zcS (zav w n) w t a b).length<=if a.ctor=b.ctor then 4*Pats.size b.kids else 1:=fun a ha h4a=>by
    obtain⟨m1,m2,m3,m4⟩:=zaM ha h4a;rw[<-sum4];by_cases hc:a.ctor=b.ctor
    ·have:=zti (w:=w) (f:=zav w n) (t:=t) (a:=a) (b:=b) (L:=fun b=>4*b.size) (fun i h1 h2 h3=>by
      have ka:=za4 ha (i:=i) h2;have kb:=za4 hb (i:=i) h3;rw[zaU h4a] at ka;rw[zaU h4,<-hc] at kb;exact zpr hs n m (by omega) (zbc hs.dp ht m1 _ (zae h1)) ka kb)
     exact this
    ·unfold zcS;rw[if_neg hc,if_neg hc];simp
   by_cases ha1:a.op=1
   ·rw[zhy h4 ha1];obtain⟨c1,c2⟩:=hs.ctors t ht;have hw:∀c,c∈zal w t->(zcS (zav w n) w t (zcb w t c) b).length<=if c=b.ctor then 4*Pats.size b.kids else 1:=fun c hc=>by
     obtain⟨k,rfl⟩:∃k,m=k+1:=⟨m-1,by omega⟩;exact hcc _ (zc2 hc) rfl
    have:=zpa (g:=fun c=>zcS (zav w n) w t (zcb w t c) b) (c0:=b.ctor) (X:=4*Pats.size b.kids) c2 (fun c hc hne=>by have:=hw c hc;rwa [if_neg hne] at this) (by have:=hw _ n1;rwa [if_pos rfl] at this);omega
   ·have ha4:a.op=4:=by have:=zdk ha hb ha1 (by omega);omega
    rw[zec h4 ha4];have:=hcc a ha ha4;split at this<;>omega
theorem zmE {α β:Type} [Inhabited α] [Inhabited β]{f:α->β->Bool}:∀ {a:List α}{b:List β},a.length=b.length->all2 f a b=false->∃i,i<a.length/\f (nth a i) (nth b i)=false
 | [],[],_,h=>by simp[all2] at h
 |x::r,y::s,hl,h=>by
  simp only[all2,Bool.and_eq_false_iff] at h;rcases h with h|h
  ·exact⟨0,by simp,h⟩
  ·obtain⟨i,h1,h2⟩:=zmE (by simpa using hl) h;exact⟨i+1,by simpa using h1,h2⟩
 | [],_::_,hl,_=>by simp at hl
 |_::_,[],hl,_=>by simp at hl
theorem zhu {w:List Data}{f:Nat->Nat}{n:Nat}{t:Ty}{p:Pat} (h:p.op=1):zau w f (n+1) t p=decide (dv f t=0):=by rw[zbd,if_pos (.inl h)]
theorem zln {w:List Data}{f:Nat->Nat}{n m:Nat}{t:Ty}{p:Pat} (hp:zai w m t p=true) (h:p.op=3):zau w f (n+1) t p=false:=by
 rw[zbd,if_neg (by omega),if_neg (by omega)];have e:zac w t p=[]:=by unfold zac;rw[if_neg (by omega),if_neg (by omega),if_neg (by omega)]
 have hl:=(zhQ hp).2;rw[e] at hl ⊢;rw[List.eq_nil_of_length_eq_zero hl];rfl
theorem zom {w:List Data}{f:Nat->Nat}{n:Nat}{t:Ty}{p:Pat} (h:p.op=4):zau w f (n+1) t p = !(all2 (fun u q=> !zau w f n u q) (zaa w t p.ctor) p.kids):=by
 rw[zbd,if_neg (by omega),if_neg (by omega),zaU h]
theorem zl0 {w:List Data}{f:Nat->Nat}{n m:Nat}{t:Ty}{p:Pat} (hp:zai w m t p=true) (h:p.op=4) (hd:zau w f (n+1) t p=true):∃i,i<p.kids.length/\zau w f n (nth (zaa w t p.ctor) i) (nth p.kids i)=true:=by
 rw[zom h] at hd;have hl:=(zaM hp h).2.2.1;obtain⟨i,h1,h2⟩:=zmE (a:=zaa w t p.ctor) (b:=p.kids) (f:=fun u q=> !zau w f n u q) hl.symm (by simpa using hd);exact⟨i,by omega,by simpa using h2⟩
theorem zhO {w:List Data}{f:Nat->Nat}{n:Nat}{t:Ty}{c:Int}{l:List Pat}{i:Nat} (hi:i<l.length) (hl:l.length=(zaa w t c).length) (hd:zau w f n (nth (zaa w t c) i) (nth l i)=true):zau w f (n+1) t (zbw c l)=true:=by
 rw[zom rfl];have:=zbr (f:=fun u q=> !zau w f n u q) (a:=zaa w t c) (b:=l) (i:=i) (by omega) hl.symm (by rw[hd];rfl);show(!all2 (fun u q=> !zau w f n u q) (zaa w t c) l)=true
 rw[this];rfl
theorem zyr {w:List Data} (hd:Dp w){t:Ty}{c:Int} (ht:InS (w.length*4) t) (hc:c∈zal w t) (h0:dv (zaf w) t=0):∃i,i<(zaa w t c).length/\dv (zaf w) (nth (zaa w t c) i)=0:=by
 by_cases hx:∃i,i<(zaa w t c).length/\dv (zaf w) (nth (zaa w t c) i)=0
 ·exact hx
 ·exfalso;have a:Snd w (zaf w)/\Cmp w (w.length*4+1) (zaf w):=zdz hd.cl (w.length*4+1);have hdt:t.data≠ -1:=fun e=>by unfold zal at hc;rw[if_pos e] at hc;simp at hc
  have hb:∀u∈zaa w t c,Hd w (w.length*4+1) u:=fun u hu=>by
   obtain⟨i,hi,rfl⟩:=List.getElem_of_mem hu;have hpos:0<dv (zaf w) (zaa w t c)[i]:=by
    have e:nth (zaa w t c) i=(zaa w t c)[i]:=za1 hi;rcases Nat.eq_zero_or_pos (dv (zaf w) (zaa w t c)[i]) with h|h
    ·exact absurd ⟨i,hi,by rw[e];exact h⟩ hx
    ·exact h
   have hin:=zbc hd ht hc _ hu;have h1:=zp9 a.1 hin hpos;rcases hin with h2|⟨h2,h3⟩
   ·exact .inl h2
   ·rw[<-h3] at h1 ⊢;exact zm6 hd.cl h2 h1
  have h2:Hd w (w.length*4+2) t:= .inr ⟨c,zpM hc,hdt,hb⟩;rcases ht with h3|⟨h3,h4⟩
  ·exact hdt h3
  ·rw[<-h4] at h2;have h5:=zm6 hd.cl h3 h2;rw[h4] at h5;have:=(zkq a.2 (.inr ⟨h3,h4⟩) h5).1;omega
section
variable {w:List Data} (hs:Spa w)
include hs
theorem zkp:∀(n:Nat){t:Ty}{p:Pat},InS (w.length*4) t->zai w n t p=true->dv (zaf w) t=0->zau w (zaf w) n t p=true
 |0,t,p,_,h,_=>by simp[zai] at h
 |n+1,t,p,ht,h,h0=>by
  rcases zbF h with h1|h3|h4
  ·rw[zhu h1];exact decide_eq_true h0
  ·have:=(zcc h h3).1;unfold dv at h0;rw[if_pos this] at h0;omega
  ·obtain⟨m1,m2,m3,m4⟩:=zaM h h4;obtain⟨i,h5,h6⟩:=zyr hs.dp ht m1 h0;rw[m4];have hk:=za4 h (i:=i) (by omega);rw[zaU h4] at hk;exact zhO (by omega) m3 (zkp n (zbc hs.dp ht m1 _ (zae h5)) hk h6)
theorem zpo:∀(n k:Nat){t:Ty}{a b x:Pat},InS (w.length*4) t->zai w n t a=true->zai w n t b=true->zau w (zaf w) n t a=true->zaL k a b=some x->zau w (zaf w) n t x=true
 |0,k,t,a,b,x,_,h,_,_,_=>by simp[zai] at h
 |n+1,0,t,a,b,x,_,_,_,_,h=>by simp[zaL] at h
 |n+1,k+1,t,a,b,x,ht,ha,hb,hd,h=>by
  by_cases h1:a.op=1
  ·rw[zkG h1] at h;cases h;rw[zhu h1] at hd;exact zkp hs (n+1) ht hb (of_decide_eq_true hd)
  by_cases h2:b.op=1
  ·rw[zkH h1 h2] at h;cases h;exact hd
  by_cases h3:a.op=3
  ·rw[zln ha h3] at hd;cases hd
  have h4:a.op=4:=by have:=zbF ha;omega
  have hso:=zdk ha hb h1 h2;by_cases hc:a.ctor=b.ctor
  ·rw[zkJ h4 h2 hc] at h;obtain⟨m1,m2,m3,m4⟩:=zaM ha h4;obtain⟨n1,n2,n3,n4⟩:=zaM hb (by omega);rw[<-hc] at n3;cases hl:zb4 (zaL k) a.kids b.kids [] with
   |none=>rw[hl] at h;cases h
   |some l=>
    rw[hl] at h;simp only[Option.map_some,Option.some.injEq] at h;subst h;obtain⟨r,e,hr,hm⟩:=zjI (by omega) hl;rw[List.nil_append] at e;subst e;obtain⟨i,hi,hde⟩:=zl0 ha h4 hd;have ka:=za4 ha (i:=i) hi;have kb:=za4 hb (i:=i) (by omega);rw[zaU h4] at ka;rw[zaU (by omega),<-hc] at kb;exact zhO (i:=i) (by omega) (by omega) (zpo n k (zbc hs.dp ht m1 _ (zae (by omega))) ka kb hde (hm i hi))
  ·rw[ziZ h4 h2 hc] at h;cases h
theorem zr7 {f:Ty->Pat->Pat->List Pat}{m:Nat}{t:Ty}{c:Int} (ht:InS (w.length*4) t) (hc:c∈zal w t):
  ∀(i:Nat){xs bs front:List Pat},front.length=i->xs.length+i=(zaa w t c).length->bs.length=xs.length->
   (∀j,j<xs.length->zai w m (nth (zaa w t c) (i+j)) (nth xs j)=true/\zai w m (nth (zaa w t c) (i+j)) (nth bs j)=true/\(zau w (zaf w) m (nth (zaa w t c) (i+j)) (nth xs j)=true->∀z∈f (nth (zaa w t c) (i+j)) (nth xs j) (nth bs j),zau w (zaf w) m (nth (zaa w t c) (i+j)) z=true))->
   ((∃j,j<i/\zau w (zaf w) m (nth (zaa w t c) j) (nth front j)=true)\/∃j,j<xs.length/\zau w (zaf w) m (nth (zaa w t c) (i+j)) (nth xs j)=true)->
   ∀x∈zaR f c ((zaa w t c).drop i) xs bs front,zau w (zaf w) (m+1) t x=true:=by
 intro i xs;induction xs generalizing i with
 |nil=>
  intro bs front _ _ _ _ _ x hx;cases hT:(zaa w t c).drop i<;>(rw[hT] at hx;simp[zaR] at hx)
 |cons a0 s ih=>
  intro bs front hfl hal hbl hab hde x hx;cases bs with
  |nil=>simp at hbl
  |cons b0 q=>
   have hi:i<(zaa w t c).length:=by simp at hal;omega
   rw[zaH hi] at hx;have h0:=hab 0 (by simp);simp only[Nat.add_zero] at h0;have e0:nth (a0::s) 0=a0:=rfl;have e1:nth (b0::q) 0=b0:=rfl;rw[e0,e1] at h0;unfold zaR at hx;have f1:∀z j,j<i->nth (front++[z]++s) j=nth front j:=fun z j hj=>by
    simp only[nth,List.getD,List.append_assoc];rw[List.getElem?_append_left (by omega)]
   have f2:∀z,nth (front++[z]++s) i=z:=fun z=>by
    simp only[nth,List.getD,List.append_assoc];rw[List.getElem?_append_right (by omega),show i-front.length=0 by omega];rfl
   have f3:∀z k,nth (front++[z]++s) (i+1+k)=nth (a0::s) (k+1):=fun z k=>by
    simp only[nth,List.getD,List.append_assoc];rw[List.getElem?_append_right (by omega),show i+1+k-front.length=k+1 by omega];rfl
   have hfl2:∀z,(front++[z]++s).length=(zaa w t c).length:=fun z=>by simp at hal ⊢;omega
   rcases List.mem_append.1 hx with hx|hx
   ·obtain⟨z,hz,rfl⟩:=List.mem_map.1 hx;rcases hde with ⟨j,hj,hd⟩|⟨j,hj,hd⟩
    ·exact zhO (i:=j) (by rw[hfl2];omega) (hfl2 z) (by rw[f1 z j hj];exact hd)
    ·cases j with
     |zero=>exact zhO (i:=i) (by rw[hfl2];omega) (hfl2 z) (by rw[f2 z];exact h0.2.2 hd z hz)
     |succ k=>exact zhO (i:=i+1+k) (by rw[hfl2];simp at hj;simp at hal;omega) (hfl2 z) (by rw[f3 z k,show i+1+k=i+(k+1) by omega];exact hd)
   ·cases hm:zaL 11 a0 b0 with
    |none=>rw[hm] at hx;simp at hx
    |some both=>
     rw[hm] at hx;refine ih (i+1) (bs:=q) (front:=front++[both]) (by simp[hfl]) (by simp at hal ⊢;omega) (by simpa using hbl) (fun j hj=>?_) ?_ x hx
     ·have:=hab (j+1) (by simpa using hj);rwa [show i+(j+1)=i+1+j by omega] at this
     ·rcases hde with ⟨j,hj,hd⟩|⟨j,hj,hd⟩
      ·refine .inl ⟨j,by omega, ?_⟩;have e:nth (front++[both]) j=nth front j:=by
        simp only[nth,List.getD];rw[List.getElem?_append_left (by omega)]
       rw[e];exact hd
      ·cases j with
       |zero=>
        refine .inl ⟨i,by omega, ?_⟩;have e:nth (front++[both]) i=both:=by
         simp only[nth,List.getD];rw[List.getElem?_append_right (by omega),show i-front.length=0 by omega];rfl
        rw[e];exact zpo hs m 11 (zbc hs.dp ht hc _ (zae hi)) h0.1 h0.2.1 hd hm
       |succ k=>
        refine .inr ⟨k,by simpa using hj, ?_⟩;rw[show i+1+k=i+(k+1) by omega];exact hd
theorem znq:∀(n m:Nat){t:Ty}{a b:Pat},n<m->InS (w.length*4) t->zai w m t a=true->zai w n t b=true->zau w (zaf w) m t a=true->∀x∈zav w n t a b,zau w (zaf w) m t x=true
 |0,m,t,a,b,_,_,_,hb,_=>by simp[zai] at hb
 |n+1,0,t,a,b,hn,_,_,_,_=>by omega
 |n+1,m+1,t,a,b,hn,ht,ha,hb,hd=>by
  have hcc:∀a,zai w (m+1) t a=true->a.op=4->b.op=4->zau w (zaf w) (m+1) t a=true->∀x∈zcS (zav w n) w t a b,zau w (zaf w) (m+1) t x=true:=fun a ha h4 h4b hd=>by
   obtain⟨m1,m2,m3,m4⟩:=zaM ha h4;obtain⟨n1,n2,n3,n4⟩:=zaM hb h4b;intro x hx;unfold zcS at hx;split at hx
   ·rename_i hc;obtain⟨j,hj,hdj⟩:=zl0 ha h4 hd;refine zr7 hs ht m1 0 (xs:=a.kids) (bs:=b.kids) (front:=[]) rfl (by omega) (by rw[hc] at m3;omega) (fun j hj=>?_) (.inr ⟨j,hj,by rw[Nat.zero_add];exact hdj⟩) x hx;have ka:=za4 ha (i:=j) hj;have kb:=za4 hb (i:=j) (by rw[hc] at m3;omega);rw[zaU h4] at ka;rw[zaU h4b,<-hc] at kb;rw[Nat.zero_add];exact⟨ka,zhz (by omega) kb,fun hdk z hz=>znq n m (by omega) (zbc hs.dp ht m1 _ (zae (by omega))) ka kb hdk z hz⟩
   ·rw[List.mem_singleton] at hx;rw[hx];exact hd
  rcases zbF hb with h1|h3|h4
  ·rw[zhx h1];simp
  ·have hl:=zmc ha (zcc hb h3).1;rcases zbF ha with h|h|h
   ·rw[zhu h] at hd;have:=of_decide_eq_true hd;unfold dv at this;rw[if_pos (zcc hb h3).1] at this;omega
   ·rw[zln ha h] at hd;cases hd
   ·exact absurd (zcc hb h3).1 (zaM ha h).2.1
  ·by_cases ha1:a.op=1
   ·rw[zhy h4 ha1];rw[zhu ha1] at hd;intro x hx;obtain⟨c,hc,hx⟩:=List.mem_flatMap.1 hx;obtain⟨k,rfl⟩:∃k,m=k+1:=⟨m-1,by omega⟩;exact hcc _ (zc2 hc) rfl h4 (zkp hs _ ht (zc2 hc) (of_decide_eq_true hd)) x hx
   ·have ha4:a.op=4:=by have:=zdk ha hb ha1 (by omega);omega
    rw[zec h4 ha4];exact hcc a ha ha4 h4 hd
end
def zbC (w:List Data) (t:Ty) (p:Pat):Bool:= !zau w (zaf w) 11 t p
def zb5 (w:List Data) (t:Ty) (l:List Pat) (b:Pat):List Pat:=(l.flatMap fun a=>zav w 10 t a b).filter (zbC w t)
def subL (w:List Data) (t:Ty):List Pat->List Pat->Option (List Pat)
 |l,[]=>some l
 |l,b::r=>if (zb5 w t l b).length<=400 then subL w t (zb5 w t l b) r else none
def zaJ (w:List Data) (t:Ty) (l away:List Pat):Option (List Pat):=subL w t (l.filter (zbC w t)) away
theorem zrn {w:List Data} (hs:Spa w){t:Ty} (ht:InS (w.length*4) t){l:List Pat}{b:Pat} (hl:∀a∈l,zai w 11 t a=true) (hb:zai w 10 t b=true):zb5 w t (l.filter (zbC w t)) b=zb5 w t l b:=by
 unfold zb5;induction l with
 |nil=>rfl
 |cons a r ih=>
  have ih':=ih (fun x hx=>hl x (by simp[hx]));rw[List.flatMap_cons,List.filter_append];by_cases h:zbC w t a=true
  ·rw[List.filter_cons_of_pos h,List.flatMap_cons,List.filter_append,ih']
  ·rw[List.filter_cons_of_neg h,ih'];have hd:zau w (zaf w) 11 t a=true:=by unfold zbC at h;simpa using h
   have:(zav w 10 t a b).filter (zbC w t)=[]:=by
    rw[List.filter_eq_nil_iff];intro x hx;have:=znq hs 10 11 (by omega) ht (hl a (by simp)) hb hd x hx;unfold zbC;rw[this];simp
   rw[this,List.nil_append]
theorem zlT {w:List Data}{t:Ty}{l:List Pat}{b:Pat}:(zb5 w t l b).filter (zbC w t)=zb5 w t l b:=by
 unfold zb5;rw[List.filter_filter];simp
theorem zn4 {w:List Data}{t:Ty}:∀(away:List Pat){l:List Pat},l.filter (zbC w t)=l->(subL w t l away).map (List.filter (zbC w t))=subL w t l away
 | [],l,h=>by simp only[subL,Option.map_some,h]
 |b::r,l,h=>by
  unfold subL;split
  ·exact zn4 r zlT
  ·rfl
theorem zuY {w:List Data} (hs:Spa w){t:Ty} (ht:InS (w.length*4) t){l away:List Pat} (hl:∀a∈l,zai w 11 t a=true) (hb:∀b∈away,zai w 10 t b=true):(subL w t l away).map (List.filter (zbC w t))=zaJ w t l away:=by
 unfold zaJ;cases away with
 |nil=>rfl
 |cons b r=>
  unfold subL;rw[zrn hs ht hl (hb b (by simp))];split
  ·exact zn4 r zlT
  ·rfl
theorem zfM {w:List Data}{t:Ty}{l:List Pat}{b:Pat} (hl:∀a∈l,zai w 11 t a=true) (hb:zai w 10 t b=true):∀x∈zb5 w t l b,zai w 11 t x=true:=fun x hx=>by
 unfold zb5 at hx;obtain⟨a,ha,hx⟩:=List.mem_flatMap.1 (List.mem_filter.1 hx).1;exact zfL 10 11 (by omega) (hl a ha) hb x hx
theorem zmr {n:Nat} (h0:0<n) (hb:n<=1000000):FnD Tryz.prog 317 [.nils,.d (.i (n:Int))] [] (.gv 9 []) [(9,some (.tok 0 6))]:=by
 refine bd Tryz.f317 27 [12,24] [] fun w0 F0 own kept hk=>?_;refine sq ?_ ?_<;>intro h1 h1p h1s<;>(try simp only[Q] at h1p);exfalso;omega;refine Walk.capN sl34 .none rfl rfl ?_;refine evs [12,24] [] ?_;refine Walk.lenN sl34 .none rfl rfl ?_;refine evs [12,24] [] ?_;refine ar ?_;refine ar ?_;refine sq ?_ ?_<;>intro h2 h2p h2s<;>(try simp only[Q] at h2p);refine Walk.capN sl34 .none rfl rfl ?_;refine Walk.cutN_h sl34 .none rfl rfl rfl ?_;refine evs [12,24] [] ?_;refine Walk.growZ (n:=n) 8 sl34 Tryz.underlying3 tz36 rfl (by decide) rfl .none rfl rfl rfl (by simp) h0 (by omega) (by omega) rfl ?_;refine evs [12,24] [] ?_;refine Walk.lenN sl34 .none rfl rfl ?_;refine xaP 9 (b:=0) sl34 .none rfl rfl (zdq rfl (by(simp;done))) rfl rfl (Nat.zero_le _) (by rw[List.length_replicate];exact h0) rfl ?_;refine evs [12,24] [] ?_;focus (refine rn [(9,some (.tok 0 6))] (r1 rfl) (.gvg ?_) ⟨rfl,rfl⟩ (SubH.get ⟨rfl,trivial⟩) (zay rfl);all_goals (rfl))
 focus (exfalso;simp at h2;all_goals omega)
abbrev zwb (ls:List (List Pat)):D:= .sl (ls.map fun l=>[zag l])
theorem zk2 {ls:List (List Pat)} (hl:ls.length<=1000) (h0:0<ls.flatten.length) (hb:ls.flatten.length<=1000000):FnD Tryz.prog 247 [.d (zwb ls)] [] (.d (zag ls.flatten)) []:=by
 have key:∀ {pre rest:List (List Pat)}{y:List Pat},pre++y::rest=ls->pre.flatten.length+y.length<=ls.flatten.length:=fun h=>by
  rw[<-h];simp
 refine FnD.gvD (i:=9) (k:=6) ?_;refine bd Tryz.f247 36 [] [] fun w0 F0 own kept hk=>?_;refine xak (ι:=List (List Pat)×List (List Pat)) hk (fun x=>[(11,.d (.i (x.1.length:Int))),(3,.d (.i (x.1.flatten.length:Int)))]) [5,12,13,14,15,16,17,18,19,20,21,22] (fun x=>[]) (fun x=>x.1++x.2=ls) (fun x=>x.2.length) ([],ls) (by simp) ⟨⟨_,rfl,xaq ?_⟩,⟨⟨_,rfl,xaq ?_⟩,trivial⟩⟩ trivial (fun x=>rfl) (fun x hg1=>?_);iterate 2 focus (rfl)
 obtain⟨pre,rest⟩:=x;dsimp only at hg1 ⊢;refine evc [] [] ?_;refine sq ?_ ?_<;>intro h1 h1p h1s<;>(try simp only[Q,Pat.cs_len] at h1p);rcases rest with _|⟨y,rest⟩
 ·exfalso;simp_all
 refine xaU zej .none rfl rfl rfl rfl (zaG hg1) rfl ?_;refine ev ?_;refine ar ?_ (by(have h9:=key hg1;constructor<;>first|omega|(simp only[Pat.cs_len];omega)));refine sq ?_ ?_<;>intro h2 h2p h2s<;>(try simp only[Q,Pat.cs_len] at h2p);exfalso;have:=key hg1;omega;refine ar ?_ (by(have h9:=key hg1;constructor<;>first|omega|(simp only[Pat.cs_len];omega)));refine xah ((pre++[y],rest)) ⟨(by have hz:=hg1;rw[<-hz];simp),(by simp),sx ⟨⟨_,rfl,xaq ?_⟩,⟨⟨_,rfl,xaq ?_⟩,trivial⟩⟩ trivial⟩;iterate 2 focus ((simp[Pat.cs_len];done))
 have hrest:rest=[]:=by
  rcases rest with _|⟨a,b⟩
  ·rfl
  ·exfalso;have hz:=congrArg List.length (hg1);simp only[xaa,xab,xac] at hz;omega
 subst hrest;refine Walk.call (cr:=[9]) zxX (zmr (n:=pre.flatten.length) (by rw[List.append_nil] at hg1;rw[hg1];exact h0) (by rw[List.append_nil] at hg1;rw[hg1];exact hb)) rfl .none rfl rfl (LeL.refl _) trivial rfl rfl rfl ?_;refine ev ?_;refine xak (ι:=List (List Pat)×List (List Pat)) hk (fun x=>[(27,.d (.i (x.1.length:Int))),(6,.gv 9 (Pat.cs x.1.flatten))]) [8,28,29,30,31,32,33,34] (fun x=>[(9,some (.tok (Pat.cs x.1.flatten).length 6))]) (fun x=>x.1++x.2=ls) (fun x=>x.2.length) ([],ls) (by simp) ⟨⟨_,rfl,xaq ?_⟩,⟨⟨_,rfl,LeA.gvg ?_⟩,trivial⟩⟩ ⟨zab ?_,trivial⟩ (fun x=>rfl) (fun x hg2=>?_);iterate 3 focus (rfl)
 obtain⟨pre,rest⟩:=x;dsimp only at hg2 ⊢;refine evc [] [] ?_;refine sq ?_ ?_<;>intro h3 h3p h3s<;>(try simp only[Q,Pat.cs_len] at h3p);rcases rest with _|⟨y,rest⟩
 ·exfalso;simp_all
 refine xaU zej .none rfl rfl rfl rfl (zaG hg2) rfl ?_;refine ev ?_;refine xaD sl34 zz36 .none rfl rfl rfl rfl (zdq rfl (by rfl)) (by exact zcp _) (by have:=key hg2;simp only[Pat.cs_len];omega) (by have:=key hg2;simp only[Pat.cs_len];omega) ?_;refine ev ?_;refine ar ?_ (by(constructor<;>omega));refine xah ((pre++[y],rest)) ⟨(by have hz:=hg2;rw[<-hz];simp),(by simp),sx ⟨⟨_,rfl,xaq ?_⟩,⟨⟨_,rfl,LeA.gvg ?_⟩,trivial⟩⟩ ⟨zab ?_,trivial⟩⟩;iterate 3 focus ((simp[xat];done))
 have hrest:rest=[]:=by
  rcases rest with _|⟨a,b⟩
  ·rfl
  ·exfalso;have hz:=congrArg List.length (hg2);simp only[xaa,xab,xac] at hz;omega
 subst hrest;refine rn [(9,some (.tok (Pat.cs ls.flatten).length 6))] (r1 rfl) (.gvg ?_) ⟨rfl,rfl⟩ (SubH.get ⟨?_,trivial⟩) (zay rfl);rotate_left 2;all_goals ((rw[List.append_nil] at hg2;subst hg2;rfl))
def zby (l:List Int):Nat->List Pat
 |0=>[]
 |n+1=>zby l n++zb1 (nth l (2*n)) (nth l (2*n+1))
theorem zkS (l:List Int):∀n,(zby l n).length<=n
 |0=>by simp[zby]
 |n+1=>by
  have:=zkS l n;simp only[zby,zb1,xaa];split<;>simp<;>omega
theorem zkT {l:List Int}{n:Nat} (h:nth l (2*n)<=nth l (2*n+1)):zby l (n+1)=zby l n++[intQ (nth l (2*n)) (nth l (2*n+1))]:=by simp[zby,zb1,h]
theorem zsd {l:List Int}{n:Nat} (h:¬nth l (2*n)<=nth l (2*n+1)):zby l (n+1)=zby l n:=by simp only[zby,zb1,if_neg h,List.append_nil]
theorem zrx (a b:Int):zby [a,b] 1=zb1 a b:=by simp[zby,nth]
theorem zvH (a b c d:Int):zby [a,b,c,d] 2=zb1 a b++zb1 c d:=by simp[zby,nth]
theorem znb {p:Pat}:FnD Tryz.prog 244 [.agg [.d (.i p.op),.d (.i p.ctor),.d (.i p.n),.d (.i p.m),.d (.i p.var),.d (zag p.kids)]] [] (.tup [.d (.i (lowQ p)),.d (.i (zcU p))]) []:=by
 by_cases h:p.op=1
 ·have e1:lowQ p=0:=if_pos h;have e2:zcU p=9:=if_pos h;rw[e1,e2];refine bd Tryz.f244 11 [] [] fun w0 F0 own kept hk=>?_;refine bx 3001 ?_;refine ev ?_;refine sq ?_ ?_<;>intro h1 h1p h1s<;>(try simp only[Q] at h1p);focus (refine rn0 (r2 rfl rfl) (.tup (.cons (.eqd ?_) (.cons (.eqd ?_) .nil)));all_goals (rfl))
  exfalso;omega
 ·skip
  have e1:lowQ p=p.n:=if_neg h;have e2:zcU p=p.m:=if_neg h;rw[e1,e2];refine bd Tryz.f244 11 [] [] fun w0 F0 own kept hk=>?_;refine bx 3001 ?_;refine ev ?_;refine sq ?_ ?_<;>intro h1 h1p h1s<;>(try simp only[Q] at h1p);exfalso;omega;refine dr ?_;focus (refine rn0 (r2 rfl rfl) (.tup (.cons (.eqd ?_) (.cons (.eqd ?_) .nil)));all_goals (rfl))
theorem zf7 {l:List Int}{n:Nat} (hl:l.length=2*n) (hb:n<=1000):FnD Tryz.prog 245 [.d (zcy l)] [] (.d (zag (zby l n))) []:=by
 refine bd Tryz.f245 35 [3] [] fun w0 F0 own kept hk=>?_;refine xaE 9 6 .none rfl rfl ?_;refine tv ?_;refine xak (ι:=Nat) hk (fun i=>[(4,.d (.i ((2*i:Nat):Int))),(3,.gl 9 (Pat.cs (zby l i)))]) [5,6,7,8,9,10,11,12,13,14,15,16,17,18,19,20,21,22,23,24,25,26,27,28,29,30,31,32,33] (fun i=>[(9,some (.tok ((Pat.cs (zby l i))).length 6))]) (fun i=>i<=n) (fun i=>n-i) 0 (by omega) ⟨⟨_,rfl,xaq ?_⟩,⟨⟨_,rfl,LeA.glg ?_⟩,trivial⟩⟩ ⟨zab ?_,trivial⟩ (fun x=>rfl) (fun i hg1=>?_);iterate 3 focus (rfl)
 refine evc [3] [] ?_;refine sq ?_ ?_<;>intro h1 h1p h1s<;>(try simp only[Q] at h1p);refine xaU (i:=2*i) sl29 .none rfl rfl rfl rfl (zaq (by omega)) rfl ?_;refine evd [3] [] ?_;refine ar ?_;refine xaU (i:=2*i+1) sl29 .none rfl rfl rfl rfl (zaq (by omega)) rfl ?_;refine evd [3] [] ?_;refine dr ?_;refine sq ?_ ?_<;>intro h2 h2p h2s<;>(try simp only[Q] at h2p);refine xaU (i:=2*i) sl29 .none rfl rfl rfl rfl (zaq (by omega)) rfl ?_;refine evd [3] [] ?_;refine ar ?_;refine xaU (i:=2*i+1) sl29 .none rfl rfl rfl rfl (zaq (by omega)) rfl ?_;refine evd [3] [] ?_;refine bu [0,2,3] [_,_,_] st36 ?_;refine si [0] [_] sl34 tz36 ?_;refine ap sl34 zz36 rfl rfl rfl (by(intro x hx;simp at hx;subst hx;rfl)) (by have:=zkS l i;simp[Pat.cs_len];omega) ?_;refine asg ?_;refine dr ?_;refine ar ?_;refine xah (i+1) ⟨(by omega),(by omega),sx ⟨⟨_,rfl,xaq ?_⟩,⟨⟨_,rfl,LeA.glg ?_⟩,trivial⟩⟩ ⟨zab ?_,trivial⟩⟩;iterate 3 focus (first|rfl|(rw[zkT (by assumption),xat,xat,xaf];rfl)|(rw[zkT (by assumption)];simp[Pat.cs_len];done))
 refine ar ?_;refine xah (i+1) ⟨(by omega),(by omega),sx ⟨⟨_,rfl,xaq ?_⟩,⟨⟨_,rfl,LeA.glg ?_⟩,trivial⟩⟩ ⟨zab ?_,trivial⟩⟩;iterate 3 focus (first|rfl|(rw[zsd (by assumption)];done))
 refine rn0 (r1 rfl) (.gld ?_);rotate_left;all_goals ((have e:i=n:=(by omega);rw[e]))
theorem zpX {w:List Data} (hw:WT w){f:Nat->Nat}{a k c:Int} (ht:TyIn w.length ⟨a,k⟩) (hc:c∈zal w ⟨a,k⟩) (hl:(zaa w ⟨a,k⟩ c).length<=3):FnD Tryz.prog 246 [.d (sPtr w f),.agg [.d (.i a),.d (.i k)],.d (.i c)] []
  (.agg [.d (.i 4),.d (.i c),.d (.i 0),.d (.i 0),.d (.i 0),.d (zag (zcb w ⟨a,k⟩ c).kids)]) []:=by
 refine bd Tryz.f246 28 [] [] fun w0 F0 own kept hk=>?_;refine bx 3004 ?_;refine ab 3006 tz36 ?_;refine tv ?_;refine bu [0,1] [_,_] st36 ?_;refine ab 3007 tz36 ?_;refine so ty36 ?_;refine tv ?_;refine wc zen (zbN hw ht hc) rfl rfl ?_;refine evd [] [] ?_;refine dr ?_;refine xan 3007 5 9 6 rfl rfl rfl rfl ?_;refine xak (ι:=List (Ty)×List (Ty)) hk (fun x=>[(18,.d (.i (x.1.length:Int)))]) [19,20,21,22,23,24,25,26] (fun x=>[(3007,some (.box [.d (.i 4),.d (.i c),.d (.i 0),.d (.i 0),.d (.i 0),.gl 9 ((x.1.map fun _=>anyQ).map Pat.cc)])),(9,some (.tok ((x.1.map fun _=>anyQ).map Pat.cc).length 6))]) (fun x=>x.1++x.2=zaa w ⟨a,k⟩ c) (fun x=>x.2.length) ([],zaa w ⟨a,k⟩ c) (by simp) ⟨⟨_,rfl,xaq ?_⟩,trivial⟩ ⟨?_,⟨zab ?_,trivial⟩⟩ (fun x=>rfl) (fun x hg1=>?_);focus (rfl)
 focus (rfl)
 focus (rfl)
 obtain⟨pre,rest⟩:=x;dsimp only at hg1 ⊢;refine evc [] [] ?_;refine sq ?_ ?_<;>intro h1 h1p h1s<;>(try simp only[Q] at h1p);rcases rest with _|⟨y,rest⟩
 ·exfalso;simp_all
 refine wc zqv (zeu) rfl rfl ?_;refine si [0] [_] sl34 tz36 ?_;refine ap sl34 zz36 rfl rfl rfl (by intro x hx;(simp at hx;subst hx;rfl)) (by have:=congrArg List.length hg1;simp at this;simp;omega) ?_;refine evd [] [] ?_;refine so ty34 ?_;refine dr ?_;refine ar ?_;refine xah ((pre++[y],rest)) ⟨(by have hz:=hg1;rw[<-hz];simp),(by simp),sx ⟨⟨_,rfl,xaq ?_⟩,trivial⟩ ⟨?_,⟨zab ?_,trivial⟩⟩⟩;focus ((simp;done))
 focus ((simp[getH];exact⟨rfl,rfl,rfl,rfl,rfl,rfl⟩))
 focus ((simp;done))
 have hrest:rest=[]:=by
  rcases rest with _|⟨a,b⟩
  ·rfl
  ·exfalso;have hz:=congrArg List.length (hg1);simp only[xaa,xab,xac] at hz;omega
 subst hrest;refine so ty36 ?_;refine tv ?_;refine rn0 (.cons (.cellA ty36 rfl rfl rfl) .nil) (.agg (.cons (.eqd ?_) (.cons (.eqd ?_) (.cons (.eqd ?_) (.cons (.eqd ?_) (.cons (.eqd ?_) (.cons (.gld ?_) .nil)))))));rotate_left 6;all_goals (first|rfl|(rw[List.append_nil] at hg1;subst hg1;rw[<-xat];all_goals rfl))
def zcW (n:Nat) (a b:Pat):Pat:=(zaL n a b).getD zwt
theorem zcE {n:Nat}{a b x:Pat} (h:zaL n a b=some x):zcW n a b=x:=by unfold zcW;rw[h];rfl
theorem zfK {n:Nat}{a b:Pat} (h:zaL n a b=none):zcW n a b=zwt:=by unfold zcW;rw[h];rfl
theorem zoz {n:Nat}{a b:Pat} (h:(zaL n a b).isSome=true):zaL n a b=some (zcW n a b):=by
 unfold zcW;cases e:zaL n a b with
 |none=>rw[e] at h;cases h
 |some x=>rfl
theorem zoA {n:Nat}{a b:Pat} (h:(zaL n a b).isSome=false):zaL n a b=none:=by
 cases e:zaL n a b with
 |none=>rfl
 |some x=>rw[e] at h;cases h
theorem zky {w:List Data} (hs:Spa w){f:Nat->Nat}:∀(n m:Nat){ta tk:Int}{a b:Pat},m<=n->InS (w.length*4) ⟨ta,tk⟩->zai w m ⟨ta,tk⟩ a=true->zai w m ⟨ta,tk⟩ b=true->
  FnD Tryz.prog 248 [.d (sPtr w f),.agg [.d (.i ta),.d (.i tk)],.agg [.d (.i a.op),.d (.i a.ctor),.d (.i a.n),.d (.i a.m),.d (.i a.var),.d (zag a.kids)],.agg [.d (.i b.op),.d (.i b.ctor),.d (.i b.n),.d (.i b.m),.d (.i b.var),.d (zag b.kids)]] []
   (.tup [.agg [.d (.i (zcW n a b).op),.d (.i (zcW n a b).ctor),.d (.i (zcW n a b).n),.d (.i (zcW n a b).m),.d (.i (zcW n a b).var),.d (zag (zcW n a b).kids)],.d (.bool (zaL n a b).isSome)]) []
 |n,0,ta,tk,a,b,_,_,ha,_=>by simp[zai] at ha
 |0,m+1,ta,tk,a,b,h,_,_,_=>by omega
 |n+1,m+1,ta,tk,a,b,hnm,ht,ha,hb=>by
  by_cases h1:a.op=1
  ·have e:=zkG (n:=n) (b:=b) h1;rw[zcE e,e];refine bd Tryz.f248 100 [] [] fun w0 F0 own kept hk=>?_;refine bx 3005 ?_;refine bx 3006 ?_;refine bx 3007 ?_;refine ab 3008 tz36 ?_;refine ev ?_;refine sq ?_ ?_<;>intro h1 h1p h1s;refine so ty36 ?_;refine ev ?_;refine rn0 (.cons (.cellA ty36 rfl rfl rfl) (.cons (.tmp rfl) .nil)) (.tup (.cons (.agg (.cons (.eqd ?_) (.cons (.eqd ?_) (.cons (.eqd ?_) (.cons (.eqd ?_) (.cons (.eqd ?_) (.cons (.eqd ?_) .nil))))))) (.cons (.eqd ?_) .nil)));rotate_left 7;try simp only[Q] at h1p
   exfalso;omega;all_goals (rfl)
  by_cases h2:b.op=1
  ·have e:=zkH (n:=n) h1 h2;rw[zcE e,e];refine bd Tryz.f248 100 [] [] fun w0 F0 own kept hk=>?_;refine bx 3005 ?_;refine bx 3006 ?_;refine bx 3007 ?_;refine ab 3008 tz36 ?_;refine ev ?_;refine sq ?_ ?_<;>intro h1 h1p h1s;try simp only[Q] at h1p
   exfalso;omega;refine sq ?_ ?_<;>intro h2 h2p h2s;refine so ty36 ?_;refine ev ?_;refine rn0 (.cons (.cellA ty36 rfl rfl rfl) (.cons (.tmp rfl) .nil)) (.tup (.cons (.agg (.cons (.eqd ?_) (.cons (.eqd ?_) (.cons (.eqd ?_) (.cons (.eqd ?_) (.cons (.eqd ?_) (.cons (.eqd ?_) .nil))))))) (.cons (.eqd ?_) .nil)));rotate_left 7;try simp only[Q] at h2p
   exfalso;omega;all_goals (rfl)
  by_cases h3:a.op=3
  ·have e:=zkI (n:=n) h3 h2;by_cases hr:maxQ a.n b.n<=minQ a.m b.m
   ·rw[if_pos hr] at e;have er:zby [maxQ a.n b.n,minQ a.m b.m] 1=[intQ (maxQ a.n b.n) (minQ a.m b.m)]:=by rw[zrx];exact if_pos hr
    have hrg:=zf7 (l:=[maxQ a.n b.n,minQ a.m b.m]) (n:=1) rfl (by omega);rw[er] at hrg;rw[zcE e,e];refine bd Tryz.f248 100 [] [] fun w0 F0 own kept hk=>?_;refine bx 3005 ?_;refine bx 3006 ?_;refine bx 3007 ?_;refine ab 3008 tz36 ?_;refine ev ?_;refine sq ?_ ?_<;>intro h1 h1p h1s;try simp only[Q,Pat.cs_len] at h1p
    exfalso;omega;refine sq ?_ ?_<;>intro h2 h2p h2s;try simp only[Q,Pat.cs_len] at h2p
    exfalso;omega;refine sq ?_ ?_<;>intro h3 h3p h3s;refine xa3 .none rfl rfl rfl ?_;refine ev ?_;refine xa4 .none rfl rfl rfl ?_;refine si [0,1] [_,_] sl29 tz3 ?_;refine wc zqC (hrg) rfl rfl ?_;refine ev ?_;refine sq ?_ ?_<;>intro h4 h4p h4s;exfalso;simp[Pat.cs_len] at h4;refine xaU (i:=0) sl34 .none rfl rfl rfl rfl (rfl) rfl ?_;refine ev ?_;refine so ty36 ?_;refine ev ?_;refine rn0 (.cons (.cellA ty36 rfl rfl rfl) (.cons (.tmp rfl) .nil)) (.tup (.cons (.agg (.cons (.eqd ?_) (.cons (.eqd ?_) (.cons (.eqd ?_) (.cons (.eqd ?_) (.cons (.eqd ?_) (.cons (.eqd ?_) .nil))))))) (.cons (.eqd ?_) .nil)));rotate_left 7;try simp only[Q,Pat.cs_len] at h3p
    exfalso;omega;all_goals (rfl)
   ·skip
    rw[if_neg hr] at e;have er:zby [maxQ a.n b.n,minQ a.m b.m] 1=[]:=by rw[zrx];exact if_neg hr
    have hrg:=zf7 (l:=[maxQ a.n b.n,minQ a.m b.m]) (n:=1) rfl (by omega);rw[er] at hrg;rw[zfK e,e];refine bd Tryz.f248 100 [] [] fun w0 F0 own kept hk=>?_;refine bx 3005 ?_;refine bx 3006 ?_;refine bx 3007 ?_;refine ab 3008 tz36 ?_;refine ev ?_;refine sq ?_ ?_<;>intro h1 h1p h1s;try simp only[Q,Pat.cs_len] at h1p
    exfalso;omega;refine sq ?_ ?_<;>intro h2 h2p h2s;try simp only[Q,Pat.cs_len] at h2p
    exfalso;omega;refine sq ?_ ?_<;>intro h3 h3p h3s;refine xa3 .none rfl rfl rfl ?_;refine ev ?_;refine xa4 .none rfl rfl rfl ?_;refine si [0,1] [_,_] sl29 tz3 ?_;refine wc zqC (hrg) rfl rfl ?_;refine ev ?_;refine sq ?_ ?_<;>intro h4 h4p h4s;refine bu [] [] st36 ?_;refine so ty36 ?_;refine ev ?_;refine rn0 (.cons (.cellA ty36 rfl rfl rfl) (.cons (.tmp rfl) .nil)) (.tup (.cons (.agg (.cons (.eqd ?_) (.cons (.eqd ?_) (.cons (.eqd ?_) (.cons (.eqd ?_) (.cons (.eqd ?_) (.cons (.nild ?_) .nil))))))) (.cons (.eqd ?_) .nil)));rotate_left 7;exfalso;simp[Pat.cs] at h4;try simp only[Q,Pat.cs_len] at h3p
    exfalso;omega;all_goals (rfl)
  have oa:=zbF ha;have h4:a.op=4:=by omega
  have h4b:b.op=4:=by have:=zdk ha hb h1 h2;omega
  by_cases hc:a.ctor=b.ctor
  ·obtain⟨c1,c2,c3,c4⟩:=zaM ha h4;obtain⟨d1,d2,d3,d4⟩:=zaM hb h4b;rw[<-hc] at d3;have h3l:=hs.args ⟨ta,tk⟩ a.ctor ht c1;have ka:=fun i (hi:i<a.kids.length)=>za4 ha hi;have kb:=fun i (hi:i<b.kids.length)=>za4 hb hi;rw[zaU h4] at ka;rw[zaU h4b,<-hc] at kb;have e:=zkJ (n:=n) h4 h2 hc;have hlen:a.kids.length=b.kids.length:=by omega
   have ih:=fun i (hi:i<(zaa w ⟨ta,tk⟩ a.ctor).length)=>zky hs n m (f:=f) (ta:=(nth (zaa w ⟨ta,tk⟩ a.ctor) i).data) (tk:=(nth (zaa w ⟨ta,tk⟩ a.ctor) i).index) (a:=nth a.kids i) (b:=nth b.kids i) (by omega) (zbc hs.dp ht c1 _ (zae hi)) (ka i (by omega)) (kb i (by omega));refine bd Tryz.f248 100 [] [] fun w0 F0 own kept hk=>?_;refine bx 3005 ?_;refine bx 3006 ?_;refine bx 3007 ?_;refine ab 3008 tz36 ?_;refine ev ?_;refine sq ?_ ?_<;>intro h1 h1p h1s;try simp only[Q,Pat.cs_len] at h1p
   exfalso;omega;refine sq ?_ ?_<;>intro h2 h2p h2s;try simp only[Q,Pat.cs_len] at h2p
   exfalso;omega;refine sq ?_ ?_<;>intro h3 h3p h3s;try simp only[Q,Pat.cs_len] at h3p
   exfalso;omega;refine sq ?_ ?_<;>intro h4 h4p h4s;try simp only[Q,Pat.cs_len] at h4p
   exfalso;omega;refine bu [0,1] [_,_] st36 ?_;refine ab 3011 tz36 ?_;refine so ty36 ?_;refine tv ?_;refine wc zen (zbN hs.dp.wt (zbo ht) c1) rfl rfl ?_;refine evd [] [] ?_;refine dr ?_;refine xan 3011 5 9 6 rfl rfl rfl rfl ?_;refine xak (ι:=Nat×List Pat) hk (fun x=>[(68,.d (.i (x.1:Int)))]) [9,12,13,14,15,69,70,71,72,73,74,75,76,77,78,79,80,81,82,83,84,85,86,87,88,89,90,91,92,93,94,95,96,97,98] (fun x=>[(3011,some (.box [.d (.i 4),.d (.i a.ctor),.d (.i 0),.d (.i 0),.d (.i 0),.gl 9 (x.2.map Pat.cc)])),(9,some (.tok (x.2.map Pat.cc).length 6))]) (fun x=>x.1<=a.kids.length/\x.2.length=x.1/\zb4 (zaL n) (a.kids.drop x.1) (b.kids.drop x.1) x.2=zb4 (zaL n) a.kids b.kids []) (fun x=>a.kids.length-x.1) (0,[]) ⟨by simp,rfl,rfl⟩ ⟨⟨_,rfl,xaq ?_⟩,trivial⟩ ⟨?_,⟨zab ?_,trivial⟩⟩ (fun x=>rfl) (fun x hg1=>?_);focus (rfl)
   focus (first|rfl|(simp[getH];done))
   focus (rfl)
   refine evc [] [] ?_;refine sq ?_ ?_<;>intro h5 h5p h5s<;>(try simp only[Q,Pat.cs_len] at h5p);refine xaU zaN .none rfl rfl rfl rfl (zaq (by omega)) rfl ?_;refine ev ?_;refine ab 3013 tz25 ?_;refine ev ?_;refine so ty25 ?_;refine tv ?_;refine xaU sl34 .none rfl rfl rfl rfl (zar (by omega)) rfl ?_;refine evd [] [] ?_;refine xaU sl34 .none rfl rfl rfl rfl (zar (by omega)) rfl ?_;refine evd [] [] ?_;refine wc zt1 (ih x.1 (by omega)) rfl rfl ?_;refine evd [] [] ?_;refine ab 3014 tz36 ?_;refine so ty36 ?_;refine evd [] [] ?_;refine dr ?_;refine sq ?_ ?_<;>intro h6 h6p h6s;refine bu [] [] st36 ?_;refine so ty36 ?_;refine ev ?_;refine rn0 (.cons (.cellA ty36 rfl rfl rfl) (.cons (.tmp rfl) .nil)) (.tup (.cons (.agg (.cons (.eqd ?_) (.cons (.eqd ?_) (.cons (.eqd ?_) (.cons (.eqd ?_) (.cons (.eqd ?_) (.cons (.nild ?_) .nil))))))) (.cons (.eqd ?_) .nil)));rotate_left 7;try simp only[Q,Pat.cs_len] at h6p
   refine si [0] [_] sl34 tz36 ?_;refine ap sl34 zz36 rfl rfl rfl (by intro x hx;(simp at hx;subst hx;rfl)) (by simp;omega) ?_;refine ev ?_;refine so ty34 ?_;refine tv ?_;refine ar ?_;refine xah ((x.1+1,x.2++[zcW n (nth a.kids x.1) (nth b.kids x.1)])) ⟨⟨by dsimp only;omega,by dsimp only;rw[xaa,hg1.2.1];rfl,by dsimp only;rw[<-znm (by omega) (by omega) (zoz (by assumption))];exact hg1.2.2⟩,(by dsimp only;omega),sx ⟨⟨_,rfl,xaq ?_⟩,trivial⟩ ⟨?_,⟨zab ?_,trivial⟩⟩⟩;focus (rfl)
   focus (first|rfl|(simp[getH];done))
   focus ((simp;done))
   refine so ty36 ?_;refine ev ?_;refine rn0 (.cons (.cellA ty36 rfl rfl rfl) (.cons (.tmp rfl) .nil)) (.tup (.cons (.agg (.cons (.eqd ?_) (.cons (.eqd ?_) (.cons (.eqd ?_) (.cons (.eqd ?_) (.cons (.eqd ?_) (.cons (.gld ?_) .nil))))))) (.cons (.eqd ?_) .nil)));rotate_left 7;all_goals (first|(have e2:zaL (n+1) a b=none:=(by rw[e,<-hg1.2.2,znl (by omega) (by omega) (zoA (by assumption))];rfl);(first|rw[zfK e2]|rw[e2]);all_goals rfl)|(have e2:zaL (n+1) a b=some (zbw a.ctor x.2):=(by rw[e,<-hg1.2.2,zfl (by omega)];rfl);rw[zcE e2,xat];all_goals rfl)|(have e2:zaL (n+1) a b=some (zbw a.ctor x.2):=(by rw[e,<-hg1.2.2,zfl (by omega)];rfl);rw[zcE e2];all_goals rfl)|(have e2:zaL (n+1) a b=some (zbw a.ctor x.2):=(by rw[e,<-hg1.2.2,zfl (by omega)];rfl);rw[e2];all_goals rfl))
  ·skip
   have e:=ziZ (n:=n) h4 h2 hc;rw[zfK e,e];refine bd Tryz.f248 100 [] [] fun w0 F0 own kept hk=>?_;refine bx 3005 ?_;refine bx 3006 ?_;refine bx 3007 ?_;refine ab 3008 tz36 ?_;refine ev ?_;refine sq ?_ ?_<;>intro h1 h1p h1s;try simp only[Q] at h1p
   exfalso;omega;refine sq ?_ ?_<;>intro h2 h2p h2s;try simp only[Q] at h2p
   exfalso;omega;refine sq ?_ ?_<;>intro h3 h3p h3s;try simp only[Q] at h3p
   exfalso;omega;refine sq ?_ ?_<;>intro h4 h4p h4s;refine bu [] [] st36 ?_;refine so ty36 ?_;refine ev ?_;refine rn0 (.cons (.cellA ty36 rfl rfl rfl) (.cons (.tmp rfl) .nil)) (.tup (.cons (.agg (.cons (.eqd ?_) (.cons (.eqd ?_) (.cons (.eqd ?_) (.cons (.eqd ?_) (.cons (.eqd ?_) (.cons (.nild ?_) .nil))))))) (.cons (.eqd ?_) .nil)));rotate_left 7;try simp only[Q] at h4p
   exfalso;omega;all_goals (rfl)
theorem zih {f:Ty->Pat->Pat->List Pat}{c:Int}{ts:List Ty}{xs bs front:List Pat}{i:Nat} (h1:i<ts.length) (h2:i<xs.length) (h3:i<bs.length):
  zaR f c (ts.drop i) (xs.drop i) (bs.drop i) front=(f (nth ts i) (nth xs i) (nth bs i)).map (fun z=>zbw c (front++[z]++xs.drop (i+1)))++(match zaL 11 (nth xs i) (nth bs i) with
   |none=>[]
   |some both=>zaR f c (ts.drop (i+1)) (xs.drop (i+1)) (bs.drop (i+1)) (front++[both])):=by
 rw[zaH h1,zaH h2,zaH h3,zaR];all_goals (cases zaL 11 (nth xs i) (nth bs i)<;>rfl)
theorem zlR {f:Ty->Pat->Pat->List Pat}{c:Int}{ts:List Ty}{xs bs front:List Pat}{i:Nat} (h1:i<ts.length) (h2:i<xs.length) (h3:i<bs.length) (h:(zaL 11 (nth xs i) (nth bs i)).isSome=true):
  zaR f c (ts.drop i) (xs.drop i) (bs.drop i) front=(f (nth ts i) (nth xs i) (nth bs i)).map (fun z=>zbw c (front++[z]++xs.drop (i+1)))++zaR f c (ts.drop (i+1)) (xs.drop (i+1)) (bs.drop (i+1)) (front++[zcW 11 (nth xs i) (nth bs i)]):=by
 rw[zih h1 h2 h3,zoz h]
theorem zlQ {f:Ty->Pat->Pat->List Pat}{c:Int}{ts:List Ty}{xs bs front:List Pat}{i:Nat} (h1:i<ts.length) (h2:i<xs.length) (h3:i<bs.length) (h:(zaL 11 (nth xs i) (nth bs i)).isSome=false):
  zaR f c (ts.drop i) (xs.drop i) (bs.drop i) front=(f (nth ts i) (nth xs i) (nth bs i)).map (fun z=>zbw c (front++[z]++xs.drop (i+1))):=by
 rw[zih h1 h2 h3,zoA h,List.append_nil]
theorem zno {f:Ty->Pat->Pat->List Pat}{c:Int}{ts:List Ty}{xs bs front:List Pat}{i:Nat} (h1:ts.length<=i):zaR f c (ts.drop i) (xs.drop i) (bs.drop i) front=[]:=by
 rw[List.drop_eq_nil_of_le h1];rfl
theorem zrr {n:Nat} (h:n<=11):4 ^ n<=4194304:=Nat.le_trans (Nat.pow_le_pow_right (by omega) h) (by decide)
theorem zge {w:List Data} (hs:Spa w){n m:Nat}{t:Ty}{a b:Pat} (h:n<m) (h10:n<=10) (ht:InS (w.length*4) t) (ha:zai w m t a=true) (hb:zai w n t b=true):(zav w n t a b).length<=20000000:=by
 have h1:=zpr hs n m h ht ha hb;have h2:=(zgg hs n ht hb).2;have h3:=zrr (n:=n) (by omega);omega
theorem zwC {A B:List Pat}{y:Pat}{xs:List (List D)} (hx:xs=Pat.cs B) (hb:A.length+1+B.length<=1000):
  FnD Tryz.prog 247 [.d (.sl [[.sl (A.map Pat.cc)],[.sl [Pat.cc y]],[.sl xs]])] [] (.d (zag (A++[y]++B))) []:=by
 have h:=zk2 (ls:=[A,[y],B]) (by simp) (by simp;omega) (by simp;omega);have e:[A,[y],B].flatten=A++[y]++B:=by simp
 rw[e] at h;subst hx;have e2:zwb [A,[y],B] = .sl [[.sl (A.map Pat.cc)],[.sl [Pat.cc y]],[.sl (Pat.cs B)]]:=by
  show D.sl [[.sl (Pat.cs A)],[.sl (Pat.cs [y])],[.sl (Pat.cs B)]]=_
  rw[xat A,xat [y]];rfl
 rw[e2] at h;exact h
section
variable {w:List Data}{f:Nat->Nat}
abbrev MinusFn (w:List Data) (f:Nat->Nat) (n:Nat) (ta tk:Int) (a b:Pat):Prop:=
 FnD Tryz.prog 152 [.d (sPtr w f),.agg [.d (.i ta),.d (.i tk)],.agg [.d (.i a.op),.d (.i a.ctor),.d (.i a.n),.d (.i a.m),.d (.i a.var),.d (zag a.kids)],.agg [.d (.i b.op),.d (.i b.ctor),.d (.i b.n),.d (.i b.m),.d (.i b.var),.d (zag b.kids)]] [] (.d (zag (zav w n ⟨ta,tk⟩ a b))) []
theorem zrb {n:Nat}{ta tk:Int}{a b:Pat} (h:b.op=1):MinusFn w f (n+1) ta tk a b:=by
 unfold MinusFn;rw[zhx h];refine bd Tryz.f152 159 [] [] fun w0 F0 own kept hk=>?_;refine bx 3005 ?_;refine bx 3006 ?_;refine bx 3007 ?_;refine ev ?_;refine sq ?_ ?_<;>intro h1 h1p h1s;refine rn0 (r1 rfl) (.nild ?_);rotate_left;try simp only[Q] at h1p
 exfalso;omega;all_goals (rfl)
theorem zrc {n:Nat}{ta tk:Int}{a b:Pat} (h:b.op=3) (hbn:0<=b.n/\b.n<=9) (hbm:0<=b.m/\b.m<=9):MinusFn w f (n+1) ta tk a b:=by
 unfold MinusFn;rw[zi0 h];have er:zby [lowQ a,minQ (zcU a) (b.n-1),maxQ (lowQ a) (b.m+1),zcU a] 2=zez a b:=zvH _ _ _ _;have hrg:=zf7 (l:=[lowQ a,minQ (zcU a) (b.n-1),maxQ (lowQ a) (b.m+1),zcU a]) (n:=2) rfl (by omega);rw[er] at hrg;refine bd Tryz.f152 159 [] [] fun w0 F0 own kept hk=>?_;refine bx 3005 ?_;refine bx 3006 ?_;refine bx 3007 ?_;refine ev ?_;refine sq ?_ ?_<;>intro h1 h1p h1s;try simp only[Q] at h1p
 exfalso;omega;refine sq ?_ ?_<;>intro h2 h2p h2s;refine wc zxF (znb) rfl rfl ?_;refine ev ?_;refine ar ?_;refine xa4 .none rfl rfl rfl ?_;refine ev ?_;refine ar ?_;refine xa3 .none rfl rfl rfl ?_;refine ev ?_;refine si [0,1,2,3] [_,_,_,_] sl29 tz3 ?_;refine wc zqC (hrg) rfl rfl ?_;refine ev ?_;focus (refine rq ?_;all_goals (rfl))
 try simp only[Q] at h2p
 exfalso;omega
theorem zrf {n:Nat}{ta tk:Int}{a b:Pat} (h4:a.op=4) (h4b:b.op=4) (hc:¬a.ctor=b.ctor):MinusFn w f (n+1) ta tk a b:=by
 unfold MinusFn;have e:zav w (n+1) ⟨ta,tk⟩ a b=[a]:=by rw[zec h4b h4];exact if_neg hc
 rw[e];refine bd Tryz.f152 159 [] [] fun w0 F0 own kept hk=>?_;refine bx 3005 ?_;refine bx 3006 ?_;refine bx 3007 ?_;refine ev ?_;refine sq ?_ ?_<;>intro h1 h1p h1s;try simp only[Q] at h1p
 exfalso;omega;refine sq ?_ ?_<;>intro h2 h2p h2s;try simp only[Q] at h2p
 exfalso;omega;refine sq ?_ ?_<;>intro h3 h3p h3s;try simp only[Q] at h3p
 exfalso;omega;refine sq ?_ ?_<;>intro h4 h4p h4s;refine si [0] [_] sl34 tz36 ?_;refine ev ?_;refine rq ?_;rotate_left;try simp only[Q] at h4p
 exfalso;omega;all_goals (first|rfl|(cases a;rfl))
theorem zre (hs:Spa w){n m:Nat} (hn:n+1<=10) (hm:m+1<=11) (hnm:n<m)
  (ih:∀ {ta tk:Int}{a b:Pat},InS (w.length*4) ⟨ta,tk⟩->zai w m ⟨ta,tk⟩ a=true->zai w n ⟨ta,tk⟩ b=true->MinusFn w f n ta tk a b)
  {ta tk:Int}{a b:Pat} (ht:InS (w.length*4) ⟨ta,tk⟩) (ha:zai w (m+1) ⟨ta,tk⟩ a=true) (hb:zai w (n+1) ⟨ta,tk⟩ b=true) (h4:a.op=4) (h4b:b.op=4) (hc:a.ctor=b.ctor):MinusFn w f (n+1) ta tk a b:=by
 obtain⟨c1,c2,c3,-⟩:=zaM ha h4;obtain⟨d1,d2,d3,-⟩:=zaM hb h4b;rw[<-hc] at d3;have h3l:=hs.args ⟨ta,tk⟩ a.ctor ht c1;have ka:=fun i (hi:i<a.kids.length)=>za4 ha hi;have kb:=fun i (hi:i<b.kids.length)=>za4 hb hi;rw[zaU h4] at ka;rw[zaU h4b,<-hc] at kb;have hbd:=zge hs (n:=n+1) (m:=m+1) (by omega) hn ht ha hb;have e:zav w (n+1) ⟨ta,tk⟩ a b=zaR (zav w n) a.ctor (zaa w ⟨ta,tk⟩ a.ctor) a.kids b.kids []:=by rw[zec h4b h4];exact if_pos hc
 have hins:=fun i (hi:i<(zaa w ⟨ta,tk⟩ a.ctor).length)=>zbc hs.dp ht c1 _ (zae hi);have hmi:∀i,i<(zaa w ⟨ta,tk⟩ a.ctor).length->FnD Tryz.prog 152 [.d (sPtr w f),.agg [.d (.i (nth (zaa w ⟨ta,tk⟩ a.ctor) i).data),.d (.i (nth (zaa w ⟨ta,tk⟩ a.ctor) i).index)],.agg [.d (.i (nth a.kids i).op),.d (.i (nth a.kids i).ctor),.d (.i (nth a.kids i).n),.d (.i (nth a.kids i).m),.d (.i (nth a.kids i).var),.d (zag (nth a.kids i).kids)],.agg [.d (.i (nth b.kids i).op),.d (.i (nth b.kids i).ctor),.d (.i (nth b.kids i).n),.d (.i (nth b.kids i).m),.d (.i (nth b.kids i).var),.d (zag (nth b.kids i).kids)]] [] (.d (zag (zav w n (nth (zaa w ⟨ta,tk⟩ a.ctor) i) (nth a.kids i) (nth b.kids i)))) []:=fun i hi=>ih (ta:=(nth (zaa w ⟨ta,tk⟩ a.ctor) i).data) (tk:=(nth (zaa w ⟨ta,tk⟩ a.ctor) i).index) (hins i hi) (ka i (by omega)) (kb i (by omega));have hme:=fun i (hi:i<(zaa w ⟨ta,tk⟩ a.ctor).length)=>zky hs 11 m (f:=f) (ta:=(nth (zaa w ⟨ta,tk⟩ a.ctor) i).data) (tk:=(nth (zaa w ⟨ta,tk⟩ a.ctor) i).index) (by omega) (hins i hi) (ka i (by omega)) (zhz (by omega) (kb i (by omega)));unfold MinusFn;rw[e] at hbd ⊢;have hT:∀i out front,i<(zaa w ⟨ta,tk⟩ a.ctor).length->out++zaR (zav w n) a.ctor ((zaa w ⟨ta,tk⟩ a.ctor).drop i) (a.kids.drop i) (b.kids.drop i) front=zaR (zav w n) a.ctor (zaa w ⟨ta,tk⟩ a.ctor) a.kids b.kids []->
   out.length+(zav w n (nth (zaa w ⟨ta,tk⟩ a.ctor) i) (nth a.kids i) (nth b.kids i)).length<=20000000:=fun i out front hi h=>by
  rw[zih hi (by omega) (by omega)] at h;have:=congrArg List.length h;simp only[xaa,xac] at this;omega
 refine bd Tryz.f152 159 [14,15] [] fun w0 F0 own kept hk=>?_;refine bx 3005 ?_;refine bx 3006 ?_;refine bx 3007 ?_;refine evs [14,15] [] ?_;refine sq ?_ ?_<;>intro h1 h1p h1s;try simp only[Q,Pat.cs_len] at h1p
 exfalso;omega;refine sq ?_ ?_<;>intro h2 h2p h2s;try simp only[Q,Pat.cs_len] at h2p
 exfalso;omega;refine sq ?_ ?_<;>intro h3 h3p h3s;try simp only[Q,Pat.cs_len] at h3p
 exfalso;omega;refine sq ?_ ?_<;>intro h4 h4p h4s;try simp only[Q,Pat.cs_len] at h4p
 exfalso;omega;refine xaE 9 6 .none rfl rfl ?_;refine xaE 8 6 .none rfl rfl ?_;refine tv ?_;refine wc zen (zbN hs.dp.wt (zbo ht) c1) rfl rfl ?_;refine evd [14,15] [] ?_;refine dr ?_;refine xak (ι:=Nat×List Pat×List Pat) hk (fun s=>[(94,.d (.i (s.1:Int))),(14,.gl 9 (s.2.1.map Pat.cc)),(15,.gl 8 (s.2.2.map Pat.cc))]) [16,17,19,20,21,22,95,96,97,98,99,100,101,102,103,104,105,106,107,108,109,110,111,112,113,114,115,116,117,118,119,120,121,122,123,124,125,126,127,128,129,130,131,132,133,134,135,136,137,138,139,140,141,142,143,144,145,146,147,148,149,150,151,152,153,154,155,156,157] (fun s=>[(9,some (.tok ((s.2.1.map Pat.cc)).length 6)),(8,some (.tok ((s.2.2.map Pat.cc)).length 6))]) (fun s=>s.1<=a.kids.length/\s.2.2.length=s.1/\s.2.1++zaR (zav w n) a.ctor ((zaa w ⟨ta,tk⟩ a.ctor).drop s.1) (a.kids.drop s.1) (b.kids.drop s.1) s.2.2=zaR (zav w n) a.ctor (zaa w ⟨ta,tk⟩ a.ctor) a.kids b.kids []) (fun s=>a.kids.length-s.1) (0,[],[]) ⟨by simp,rfl,rfl⟩ ⟨⟨_,rfl,xaq ?_⟩,⟨⟨_,rfl,LeA.glg ?_⟩,⟨⟨_,rfl,LeA.glg ?_⟩,trivial⟩⟩⟩ ⟨zab ?_,⟨zab ?_,trivial⟩⟩ (fun x=>rfl) (fun s hg2=>?_);iterate 5 focus (rfl)
 refine evc [14,15] [] ?_;refine sq ?_ ?_<;>intro h5 h5p h5s<;>(try simp only[Q,Pat.cs_len] at h5p);refine xaU zaN .none rfl rfl rfl rfl (zaq (by omega)) rfl ?_;refine evs [14,15] [] ?_;refine ab 3017 tz25 ?_;refine evs [14,15] [] ?_;refine so ty25 ?_;refine tv ?_;refine xaU sl34 .none rfl rfl rfl rfl (zar (by omega)) rfl ?_;refine evd [14,15] [] ?_;refine xaU sl34 .none rfl rfl rfl rfl (zar (by omega)) rfl ?_;refine evd [14,15] [] ?_;refine wc zqu (hmi s.1 (by omega)) rfl rfl ?_;refine evd [14,15] [] ?_;refine dr ?_;refine xak (ι:=List (Pat)×List (Pat)) hk (fun x=>[(113,.d (.i (x.1.length:Int))),(14,.gl 9 ((s.2.1++x.1.map (fun z=>zbw a.ctor (s.2.2++[z]++a.kids.drop (s.1+1)))).map Pat.cc))]) [19,20,114,115,116,117,118,119,120,121,122,123,124,125,126,127,128,129,130,131,132,133,134] (fun x=>[(9,some (.tok (((s.2.1++x.1.map (fun z=>zbw a.ctor (s.2.2++[z]++a.kids.drop (s.1+1)))).map Pat.cc)).length 6))]) (fun x=>x.1++x.2=(zav w n (nth (zaa w ⟨ta,tk⟩ a.ctor) s.1) (nth a.kids s.1) (nth b.kids s.1))) (fun x=>x.2.length) ([],(zav w n (nth (zaa w ⟨ta,tk⟩ a.ctor) s.1) (nth a.kids s.1) (nth b.kids s.1))) (by simp) ⟨⟨_,rfl,xaq ?_⟩,⟨⟨_,rfl,LeA.glg ?_⟩,trivial⟩⟩ ⟨zab ?_,trivial⟩ (fun x=>rfl) (fun x hg3=>?_);iterate 3 focus ((simp;done))
 obtain⟨pre,rest⟩:=x;dsimp only at hg3 ⊢;refine evc [14,15] [] ?_;refine sq ?_ ?_<;>intro h6 h6p h6s<;>(try simp only[Q,Pat.cs_len] at h6p);rcases rest with _|⟨y,rest⟩
 ·exfalso;simp_all
 refine xaU sl34 .none rfl rfl rfl rfl (Pat.cs_at' hg3) rfl ?_;refine evs [14,15] [] ?_;refine ab 3019 tz36 ?_;refine so ty36 ?_;refine tv ?_;refine si [0] [_] sl34 tz36 ?_;refine evd [14,15] [] ?_;refine ar ?_ (by(constructor<;>omega));refine xaQ (b:=s.1+1) sl34 .none rfl rfl rfl (by intro x hx;exact zcp _ x hx) rfl rfl (by simp only[Pat.cs_len];omega) ?_;refine si [0,1,2] [_,_,_] zej tz34 ?_;refine wc zxH (zwC (A:=s.2.2) (y:=y) (xs:=(Pat.cs a.kids).drop (s.1+1)) (B:=a.kids.drop (s.1+1)) (by rw[xat,xat,List.map_drop]) (by rw[List.length_drop];omega)) rfl rfl ?_;refine evd [14,15] [] ?_;refine dr ?_;refine bu [0,1,5] [_,_,_] st36 ?_;refine si [0] [_] sl34 tz36 ?_;refine ap sl34 zz36 rfl rfl rfl (by intro x hx;(simp at hx;subst hx;rfl)) (by(have h9:=hT s.1 s.2.1 s.2.2 (by omega) hg2.2.2;have h8:=congrArg List.length hg3;simp at h8 ⊢;omega)) ?_;refine asg ?_;refine tv ?_;refine ar ?_ (by(have h9:=hT s.1 s.2.1 s.2.2 (by omega) hg2.2.2;have h8:=congrArg List.length hg3;simp only[xaa,xab] at h8;constructor<;>omega));refine xah ((pre++[y],rest)) ⟨(by have hz:=hg3;rw[<-hz];simp),(by simp),sx ⟨⟨_,rfl,xaq ?_⟩,⟨⟨_,rfl,LeA.glg ?_⟩,trivial⟩⟩ ⟨zab ?_,trivial⟩⟩;iterate 3 focus (first|(simp;done)|(simp only[xaf,List.append_assoc,xae,List.map_nil];rfl)|(simp;omega))
 have hrest:rest=[]:=by
  rcases rest with _|⟨a,b⟩
  ·rfl
  ·exfalso;have hz:=congrArg List.length (hg3);simp only[xaa,xab,xac] at hz;omega
 subst hrest;refine xaU sl34 .none rfl rfl rfl rfl (zar (by omega)) rfl ?_;refine evd [14,15] [] ?_;refine xaU sl34 .none rfl rfl rfl rfl (zar (by omega)) rfl ?_;refine evd [14,15] [] ?_;refine wc zt1 (hme s.1 (by omega)) rfl rfl ?_;refine evd [14,15] [] ?_;refine ab 3021 tz36 ?_;refine so ty36 ?_;refine evd [14,15] [] ?_;refine dr ?_;refine sq ?_ ?_<;>intro h7 h7p h7s;refine rn0 (r1 rfl) (.gld ?_);rotate_left;try simp only[Q,Pat.cs_len] at h7p
 refine si [0] [_] sl34 tz36 ?_;refine ap sl34 zz36 rfl rfl rfl (by intro x hx;(simp at hx;subst hx;rfl)) (by(have h9:=hT s.1 s.2.1 s.2.2 (by omega) hg2.2.2;have h8:=congrArg List.length hg3;simp at h8 ⊢;omega)) ?_;refine asg ?_;refine tv ?_;refine ar ?_ (by(constructor<;>omega));refine xah ((s.1+1,s.2.1++(zav w n (nth (zaa w ⟨ta,tk⟩ a.ctor) s.1) (nth a.kids s.1) (nth b.kids s.1)).map (fun z=>zbw a.ctor (s.2.2++[z]++a.kids.drop (s.1+1))),s.2.2++[zcW 11 (nth a.kids s.1) (nth b.kids s.1)])) ⟨⟨by dsimp only;omega,by dsimp only;rw[xaa,hg2.2.1];rfl,by dsimp only;rw[List.append_assoc,<-zlR (by omega) (by omega) (by omega) (by assumption)];exact hg2.2.2⟩,(by dsimp only;omega),sx ⟨⟨_,rfl,xaq ?_⟩,⟨⟨_,rfl,LeA.glg ?_⟩,⟨⟨_,rfl,LeA.glg ?_⟩,trivial⟩⟩⟩ ⟨zab ?_,⟨zab ?_,trivial⟩⟩⟩;iterate 5 focus ((simp_all;done))
 refine rn0 (r1 rfl) (.gld ?_);rotate_left;all_goals (first|(rw[<-hg2.2.2,zno (by omega),List.append_nil,xat];done)|(rw[List.append_nil] at hg3;rw[<-hg2.2.2,zlQ (by omega) (by omega) (by omega) (by assumption),<-hg3,xat];all_goals rfl))
theorem zrd (hs:Spa w){n:Nat}{ta tk:Int}{a b:Pat} (ht:InS (w.length*4) ⟨ta,tk⟩) (h1:a.op=1) (h4b:b.op=4) (hbd:(zav w (n+1) ⟨ta,tk⟩ a b).length<=20000000)
  (hC:∀c∈zal w ⟨ta,tk⟩,MinusFn w f (n+1) ta tk (zcb w ⟨ta,tk⟩ c) b):MinusFn w f (n+1) ta tk a b:=by
 have e:zav w (n+1) ⟨ta,tk⟩ a b=(zal w ⟨ta,tk⟩).flatMap fun c=>zav w (n+1) ⟨ta,tk⟩ (zcb w ⟨ta,tk⟩ c) b:=by
  rw[zhy h4b h1];exact congrArg (fun g=>(zal w ⟨ta,tk⟩).flatMap g) (funext fun c=>(zec h4b rfl).symm)
 unfold MinusFn;rw[e] at hbd ⊢;have hcl:=(hs.ctors _ ht).1;have hpre:∀ {pre rest:List Int}{y:Int},pre++y::rest=zal w ⟨ta,tk⟩->(pre.flatMap fun c=>zav w (n+1) ⟨ta,tk⟩ (zcb w ⟨ta,tk⟩ c) b).length+(zav w (n+1) ⟨ta,tk⟩ (zcb w ⟨ta,tk⟩ y) b).length<=20000000:=fun h=>by
  rw[<-h,List.flatMap_append,List.flatMap_cons] at hbd;simp only[xaa] at hbd;omega
 have hmem:∀ {pre rest:List Int}{y:Int},pre++y::rest=zal w ⟨ta,tk⟩->y∈zal w ⟨ta,tk⟩:=fun h=>by rw[<-h];simp
 refine bd Tryz.f152 159 [11] [] fun w0 F0 own kept hk=>?_;refine bx 3005 ?_;refine bx 3006 ?_;refine bx 3007 ?_;refine evs [11] [] ?_;refine sq ?_ ?_<;>intro h1 h1p h1s;try simp only[Q,Pat.cs_len] at h1p
 exfalso;omega;refine sq ?_ ?_<;>intro h2 h2p h2s;try simp only[Q,Pat.cs_len] at h2p
 exfalso;omega;refine sq ?_ ?_<;>intro h3 h3p h3s;refine xaE 9 6 .none rfl rfl ?_;refine tv ?_;refine wc zgA (zdM hs.dp.wt (zbo ht)) rfl rfl ?_;refine evd [11] [] ?_;refine dr ?_;refine xak (ι:=List (Int)×List (Int)) hk (fun x=>[(61,.d (.i (x.1.length:Int))),(11,.gl 9 (Pat.cs (x.1.flatMap fun c=>zav w (n+1) ⟨ta,tk⟩ (zcb w ⟨ta,tk⟩ c) b)))]) [13,62,63,64,65,66,67,68,69,70,71,72,73,74,75] (fun x=>[(9,some (.tok ((Pat.cs (x.1.flatMap fun c=>zav w (n+1) ⟨ta,tk⟩ (zcb w ⟨ta,tk⟩ c) b))).length 6))]) (fun x=>x.1++x.2=zal w ⟨ta,tk⟩) (fun x=>x.2.length) ([],zal w ⟨ta,tk⟩) (by simp) ⟨⟨_,rfl,xaq ?_⟩,⟨⟨_,rfl,LeA.glg ?_⟩,trivial⟩⟩ ⟨zab ?_,trivial⟩ (fun x=>rfl) (fun x hg1=>?_);iterate 3 focus (rfl)
 obtain⟨pre,rest⟩:=x;dsimp only at hg1 ⊢;refine evc [11] [] ?_;refine sq ?_ ?_<;>intro h4 h4p h4s<;>(try simp only[Q,Pat.cs_len] at h4p);rcases rest with _|⟨y,rest⟩
 ·exfalso;simp_all
 refine xaU sl29 .none rfl rfl rfl rfl (zaG hg1) rfl ?_;refine evs [11] [] ?_;refine wc zxG (zpX hs.dp.wt (f:=f) (zbo ht) (hmem hg1) (hs.args _ _ ht (hmem hg1))) rfl rfl ?_;refine evd [11] [] ?_;refine wc zqu (hC y (hmem hg1)) rfl rfl ?_;refine ap sl34 zz36 rfl rfl rfl (by exact zcp _) (by have h9:=hpre hg1;simp only[Pat.cs_len];omega) ?_;refine asg ?_;refine dr ?_;refine ar ?_;refine xah ((pre++[y],rest)) ⟨(by have hz:=hg1;rw[<-hz];simp),(by simp),sx ⟨⟨_,rfl,xaq ?_⟩,⟨⟨_,rfl,LeA.glg ?_⟩,trivial⟩⟩ ⟨zab ?_,trivial⟩⟩;iterate 3 focus (first|(rw[List.flatMap_append,xat,xat,xat,xaf];simp;done)|(simp[Pat.cs_len];done))
 have hrest:rest=[]:=by
  rcases rest with _|⟨a,b⟩
  ·rfl
  ·exfalso;have hz:=congrArg List.length (hg1);simp only[xaa,xab,xac] at hz;omega
 subst hrest;refine rn0 (r1 rfl) (.gld ?_);rotate_left;try simp only[Q,Pat.cs_len] at h3p
 exfalso;omega;all_goals ((rw[List.append_nil] at hg1;rw[hg1];done))
theorem zj0 (hs:Spa w):∀(n m:Nat){ta tk:Int}{a b:Pat},n<m->n<=10->m<=11->InS (w.length*4) ⟨ta,tk⟩->zai w m ⟨ta,tk⟩ a=true->zai w n ⟨ta,tk⟩ b=true->MinusFn w f n ta tk a b
 |0,m,ta,tk,a,b,_,_,_,_,_,hb=>by simp[zai] at hb
 |n+1,0,ta,tk,a,b,h,_,_,_,_,_=>by omega
 |n+1,m+1,ta,tk,a,b,h,hn,hm,ht,ha,hb=>by
  have hC:∀ {a:Pat},zai w (m+1) ⟨ta,tk⟩ a=true->a.op=4->b.op=4->MinusFn w f (n+1) ta tk a b:=fun {a} ha h4 h4b=>by
   by_cases hc:a.ctor=b.ctor
   ·exact zre hs hn hm (by omega) (fun h1 h2 h3=>zj0 hs n m (by omega) (by omega) (by omega) h1 h2 h3) ht ha hb h4 h4b hc
   ·exact zrf h4 h4b hc
  rcases zbF hb with h1|h3|h4b
  ·exact zrb h1
  ·have:=zcc hb h3;exact zrc h3 ⟨by omega,by omega⟩ ⟨by omega,by omega⟩
  ·by_cases h1:a.op=1
   ·obtain⟨m',rfl⟩:∃m',m=m'+1:=⟨m-1,by omega⟩;exact zrd hs ht h1 h4b (zge hs h hn ht ha hb) (fun c hc=>hC (zc2 hc) rfl h4b)
   ·exact hC ha (by have:=zdk ha hb h1 (by omega);omega) h4b
end
abbrev zib (o:List Pat):List D:=[.sl (Pat.cs o)]
abbrev zjq (ls:List (List Pat)):D:= .sl (ls.map zib)
theorem ztw {N:Nat} (acc:List (List Pat)) (l:List Pat):(zbb (acc.take N) l).take N=(zbb acc l).take N:=by
 by_cases h:acc.length<=N
 ·rw[List.take_of_length_le h]
 have e0:∀a:List (List Pat),zbb a []=[]:=fun a=>by unfold zbb;simp
 cases l with
 |nil=>rw[e0,e0]
 |cons c r=>
  have e:zbb acc (c::r)=zbb (acc.take N) (c::r)++zbb (acc.drop N) (c::r):=by
   unfold zbb;rw[<-List.flatMap_append,List.take_append_drop]
  rw[e,zeE];rw[zgJ,List.length_take,Nat.min_eq_left (by omega),xab];exact Nat.le_mul_of_pos_right _ (by omega)
theorem ztx {N:Nat} (acc:List (List Pat)) (l:List Pat):(zbb acc (l.take N)).take N=(zbb acc l).take N:=by
 by_cases h:l.length<=N
 ·rw[List.take_of_length_le h]
 cases acc with
 |nil=>rfl
 |cons q r=>
  have e:∀l:List Pat,zbb (q::r) l=l.map (fun c=>q++[c])++zbb r l:=fun l=>by unfold zbb;rw[List.flatMap_cons]
  rw[e,e,zeE (by rw[xac,List.length_take];omega),zeE (by rw[xac];omega),List.map_take,List.take_take,Nat.min_self]
def tupQ (m:Nat) (ls:List (List Pat)):List (List Pat):=ls.foldl (fun acc l=>(zbb acc l).take (m+1)) [[]]
theorem zld (m:Nat) (ls:List (List Pat)) (l:List Pat):tupQ m (ls++[l])=(zbb (tupQ m ls) l).take (m+1):=by
 unfold tupQ;rw[List.foldl_append];rfl
theorem zrU (m:Nat):∀(ls:List (List Pat)) (acc:List (List Pat)),(ls.map (List.take (m+1))).foldl (fun acc l=>(zbb acc l).take (m+1)) (acc.take (m+1))=(ls.foldl zbb acc).take (m+1)
 | [],acc=>rfl
 |l::r,acc=>by
  rw[xae,List.foldl_cons,List.foldl_cons,ztx,ztw];exact zrU m r (zbb acc l)
theorem zw7 (m:Nat) (ls:List (List Pat)):tupQ m (ls.map (List.take (m+1)))=(zeS ls).take (m+1):=by
 have h:=zrU m ls [[]];have e:([[]]:List (List Pat)).take (m+1)=[[]]:=by simp
 rw[e] at h;exact h
theorem zrS (m:Nat) (ls:List (List Pat)):(tupQ m ls).length<=m+1:=by
 have key:∀(ls acc:List (List Pat)),acc.length<=m+1->(ls.foldl (fun acc l=>(zbb acc l).take (m+1)) acc).length<=m+1:=by
  intro ls;induction ls with
  |nil=>intro acc h;exact h
  |cons l r ih=>intro acc h;exact ih _ (by rw[List.length_take];omega)
 exact key ls [[]] (by simp)
theorem zrT (m:Nat){ls:List (List Pat)}{o:List Pat} (h:o∈tupQ m ls):o.length=ls.length:=by
 have key:∀(ls acc:List (List Pat)) (n:Nat),(∀o∈acc,o.length=n)->∀o∈ls.foldl (fun acc l=>(zbb acc l).take (m+1)) acc,o.length=n+ls.length:=by
  intro ls;induction ls with
  |nil=>intro acc n h o ho;exact h o ho
  |cons l r ih=>
   intro acc n h o ho;have:=ih _ (n+1) (fun o' ho'=>by
    have ho':=List.mem_of_mem_take ho';unfold zbb at ho';simp only[List.mem_flatMap,List.mem_map] at ho';obtain⟨p,hp,q,_,rfl⟩:=ho';simp[h p hp]) o ho
   simp only[xab];omega
 have:=key ls [[]] 0 (by simp) o h;simpa using this
def zlx (l:List Pat) (o:List Pat):List (List Pat):=l.map fun y=>o++[y]
theorem zoV (acc:List (List Pat)) (l:List Pat):zbb acc l=acc.flatMap (zlx l):=rfl
theorem zrQ {X:List (List Pat)}{l:List Pat}{o:List Pat}{j m:Nat} (hc:¬j<l.length\/¬((X++(l.take j).map fun y=>o++[y]).take (m+1)).length<=m):
  (X++(l.take j).map fun y=>o++[y]).take (m+1)=(X++zlx l o).take (m+1):=zw5 hc
theorem zvS {α:Type}{N:Nat} (a b:List α):(a.take N++b.take N).take N=(a++b).take N:=by
 by_cases h:a.length<=N
 ·rw[List.take_of_length_le h,List.take_append,List.take_append,List.take_take,Nat.min_eq_left (by omega)]
 ·rw[zeE (by rw[List.length_take];omega),zeE (by omega),List.take_take,Nat.min_self]
def za3 (p:Pat):List Pat:=(zaD p).take 401
theorem zvO {p:Pat} (h:p.op=5) (hk:p.kids.length=2):za3 p=(za3 (nth p.kids 0)++za3 (nth p.kids 1)).take 401:=by
 unfold za3;rw[zgn h hk,zvS]
theorem zvP {p:Pat} (h:p.op≠5):za3 p=(tupQ 400 (p.kids.map za3)).map fun l=> .mk p.op p.ctor p.n p.m p.var l:=by
 unfold za3;rw[zd2 h,<-List.map_take];congr 1
 have:=zw7 400 (p.kids.map zaD);rw[List.map_map] at this;exact this.symm
theorem zhm (p:Pat):(za3 p).length<=401:=by unfold za3;rw[List.length_take];omega
theorem zdg:∀(n:Nat){p:Pat},p.size<=n->p.ok->FnD Tryz.prog 64 [.agg [.d (.i p.op),.d (.i p.ctor),.d (.i p.n),.d (.i p.m),.d (.i p.var),.d (zag p.kids)]] [] (.agg [.d (.i (zaC p).op),.d (.i (zaC p).ctor),.d (.i (zaC p).n),.d (.i (zaC p).m),.d (.i (zaC p).var),.d (zag (zaC p).kids)]) []
 |0,p,h,_=>by rw[Pat.size_eq] at h;omega
 |n+1,p,h,hok=>by
  rw[Pat.size_eq] at h;rw[Pat.ok_iff] at hok;have hok1:=hok.1;by_cases h2:p.op=2
  ·rw[zsm h2];refine bd Tryz.f64 42 [] [] fun w0 F0 own kept hk=>?_;refine bx 3001 ?_;refine ab 3002 tz36 ?_;refine tv ?_;refine sq ?_ ?_<;>intro h1 h1p h1s<;>(try simp only[Q] at h1p);refine bu [0] [_] st36 ?_;refine so ty36 ?_;refine tv ?_;refine rn0 (.cons (.cellA ty36 rfl rfl rfl) .nil) (.agg (.cons (.eqd ?_) (.cons (.eqd ?_) (.cons (.eqd ?_) (.cons (.eqd ?_) (.cons (.eqd ?_) (.cons (.nild ?_) .nil)))))));rotate_left 6;exfalso;omega;all_goals (rfl)
  by_cases h6:p.op=6/\0<p.kids.length
  ·rw[zsn h6.1 h6.2];refine bd Tryz.f64 42 [] [] fun w0 F0 own kept hk=>?_;refine bx 3001 ?_;refine ab 3002 tz36 ?_;refine tv ?_;refine sq ?_ ?_<;>intro h1 h1p h1s<;>(try simp only[Q,Pat.cs_len] at h1p);exfalso;omega;refine sq ?_ ?_<;>intro h2 h2p h2s<;>(try simp only[Q,Pat.cs_len] at h2p);refine sq ?_ ?_<;>intro h3 h3p h3s<;>(try simp only[Q,Pat.cs_len] at h3p);refine xaU (i:=0) sl34 .none rfl rfl rfl rfl (zar h6.2) rfl ?_;refine ev ?_;refine wc zp5 (zdg n (p:=nth p.kids 0) (by have:=Pats.size_mem (zae h6.2);omega) (Pats.ok_mem hok.2 _ (zae h6.2))) rfl rfl ?_;refine so ty36 ?_;refine tv ?_;refine rn0 (.cons (.cellA ty36 rfl rfl rfl) .nil) (.agg (.cons (.eqd ?_) (.cons (.eqd ?_) (.cons (.eqd ?_) (.cons (.eqd ?_) (.cons (.eqd ?_) (.cons (.eqd ?_) .nil)))))));rotate_left 6;exfalso;omega;exfalso;omega;all_goals (rfl)
  ·rw[zso h2 h6];refine bd Tryz.f64 42 [] [] fun w0 F0 own kept hk=>?_;refine bx 3001 ?_;refine ab 3002 tz36 ?_;refine tv ?_;refine sq ?_ ?_<;>intro h1 h1p h1s<;>(try simp only[Q,Pat.cs_len] at h1p);exfalso;omega;refine sq ?_ ?_<;>intro h2 h2p h2s<;>(try simp only[Q,Pat.cs_len] at h2p);refine sq ?_ ?_<;>intro h3 h3p h3s<;>(try simp only[Q,Pat.cs_len] at h3p);exfalso;apply h6;exact⟨by omega,by omega⟩;refine ab 3003 tz36 ?_;refine so ty36 ?_;refine tv ?_;refine so ty34 ?_;refine tv ?_;refine xan 3003 5 7 6 rfl rfl rfl rfl ?_;refine xak (ι:=List (Pat)×List (Pat)) hk (fun x=>[(4,.d (.i (x.1.length:Int)))]) [23,24,25,26,27,28,29,30,31,32,33,34,35,36,37,38,39,40] (fun x=>[(3003,some (.box [.d (.i p.op),.d (.i p.ctor),.d (.i p.n),.d (.i p.m),.d (.i p.var),.gl 7 ((x.1.map zaC).map Pat.cc)])),(7,some (.tok ((x.1.map zaC).map Pat.cc).length 6))]) (fun x=>x.1++x.2=p.kids) (fun x=>x.2.length) ([],p.kids) (by simp) ⟨⟨_,rfl,xaq ?_⟩,trivial⟩ ⟨?_,⟨zab ?_,trivial⟩⟩ (fun x=>rfl) (fun x hg1=>?_);focus ((simp;done))
   focus (first|rfl|(simp[getH];done))
   focus ((simp;done))
   obtain⟨pre,rest⟩:=x;dsimp only at hg1 ⊢;refine evc [] [] ?_;refine sq ?_ ?_<;>intro h4 h4p h4s<;>(try simp only[Q,Pat.cs_len] at h4p);rcases rest with _|⟨y,rest⟩
   ·exfalso;simp_all
   refine xaU sl34 .none rfl rfl rfl rfl (Pat.cs_at' hg1) rfl ?_;refine evd [] [] ?_;refine wc zp5 (zdg n (p:=y) (by have:=Pats.size_mem (l:=p.kids) (v:=y) (by rw[<-hg1];simp);omega) (Pats.ok_mem hok.2 y (by rw[<-hg1];simp))) rfl rfl ?_;refine si [0] [_] sl34 tz36 ?_;refine ap sl34 zz36 rfl rfl rfl (by intro x hx;first|(simp at hx;subst hx;rfl)|exact zhA _ x hx) (by have:=congrArg List.length hg1;simp at this;simp;omega) ?_;refine evd [] [] ?_;refine so ty34 ?_;refine dr ?_;refine ar ?_;refine xah ((pre++[y],rest)) ⟨(by have hz:=hg1;rw[<-hz];simp),(by simp),sx ⟨⟨_,rfl,xaq ?_⟩,trivial⟩ ⟨?_,⟨zab ?_,trivial⟩⟩⟩;focus ((simp;done))
   focus (first|rfl|(simp[getH];done))
   focus ((simp;done))
   have hrest:rest=[]:=by
    rcases rest with _|⟨a,b⟩
    ·rfl
    ·exfalso;have hz:=congrArg List.length (hg1);simp only[xaa,xab,xac] at hz;omega
   subst hrest;refine so ty36 ?_;refine tv ?_;refine rn0 (.cons (.cellA ty36 rfl rfl rfl) .nil) (.agg (.cons (.eqd ?_) (.cons (.eqd ?_) (.cons (.eqd ?_) (.cons (.eqd ?_) (.cons (.eqd ?_) (.cons (.gld ?_) .nil)))))));rotate_left 6;refine ab 3003 tz36 ?_;refine so ty36 ?_;refine tv ?_;refine so ty34 ?_;refine tv ?_;refine xan 3003 5 7 6 rfl rfl rfl rfl ?_;refine xak (ι:=List (Pat)×List (Pat)) hk (fun x=>[(4,.d (.i (x.1.length:Int)))]) [23,24,25,26,27,28,29,30,31,32,33,34,35,36,37,38,39,40] (fun x=>[(3003,some (.box [.d (.i p.op),.d (.i p.ctor),.d (.i p.n),.d (.i p.m),.d (.i p.var),.gl 7 ((x.1.map zaC).map Pat.cc)])),(7,some (.tok ((x.1.map zaC).map Pat.cc).length 6))]) (fun x=>x.1++x.2=p.kids) (fun x=>x.2.length) ([],p.kids) (by simp) ⟨⟨_,rfl,xaq ?_⟩,trivial⟩ ⟨?_,⟨zab ?_,trivial⟩⟩ (fun x=>rfl) (fun x hg1=>?_);focus ((simp;done))
   focus (first|rfl|(simp[getH];done))
   focus ((simp;done))
   obtain⟨pre,rest⟩:=x;dsimp only at hg1 ⊢;refine evc [] [] ?_;refine sq ?_ ?_<;>intro h5 h5p h5s<;>(try simp only[Q,Pat.cs_len] at h5p);rcases rest with _|⟨y,rest⟩
   ·exfalso;simp_all
   refine xaU sl34 .none rfl rfl rfl rfl (Pat.cs_at' hg1) rfl ?_;refine evd [] [] ?_;refine wc zp5 (zdg n (p:=y) (by have:=Pats.size_mem (l:=p.kids) (v:=y) (by rw[<-hg1];simp);omega) (Pats.ok_mem hok.2 y (by rw[<-hg1];simp))) rfl rfl ?_;refine si [0] [_] sl34 tz36 ?_;refine ap sl34 zz36 rfl rfl rfl (by intro x hx;first|(simp at hx;subst hx;rfl)|exact zhA _ x hx) (by have:=congrArg List.length hg1;simp at this;simp;omega) ?_;refine evd [] [] ?_;refine so ty34 ?_;refine dr ?_;refine ar ?_;refine xah ((pre++[y],rest)) ⟨(by have hz:=hg1;rw[<-hz];simp),(by simp),sx ⟨⟨_,rfl,xaq ?_⟩,trivial⟩ ⟨?_,⟨zab ?_,trivial⟩⟩⟩;focus ((simp;done))
   focus (first|rfl|(simp[getH];done))
   focus ((simp;done))
   have hrest:rest=[]:=by
    rcases rest with _|⟨a,b⟩
    ·rfl
    ·exfalso;have hz:=congrArg List.length (hg1);simp only[xaa,xab,xac] at hz;omega
   subst hrest;refine so ty36 ?_;refine tv ?_;refine rn0 (.cons (.cellA ty36 rfl rfl rfl) .nil) (.agg (.cons (.eqd ?_) (.cons (.eqd ?_) (.cons (.eqd ?_) (.cons (.eqd ?_) (.cons (.eqd ?_) (.cons (.gld ?_) .nil)))))));rotate_left 6;all_goals (first|rfl|(rw[List.append_nil] at hg1;rw[<-hg1,xat];done)|(rw[List.append_nil] at hg1;subst hg1;rw[<-xat];all_goals rfl))
theorem zmt {ls:List (List Pat)} (hl:ls.length<=1000000000000) (hls:∀l∈ls,l.length<=1000000000000):FnD Tryz.prog 280 [.d (zjq ls)] [] (.d (zjq (tupQ 400 ls))) []:=by
 refine bd Tryz.f280 62 [] [] fun w0 F0 own kept hk=>?_;refine xbg sl34 .none rfl ?_;refine si [0] [_] zej tz34 ?_;refine ev ?_;refine xak (ι:=List (List Pat)×List (List Pat)) hk (fun x=>[(4,.d (.i (x.1.length:Int))),(3,.d (.sl ((tupQ 400 x.1).map zib)))]) [5,6,7,10,11,12,13,14,15,16,17,18,19,20,21,22,23,24,25,26,27,28,29,30,31,32,33,34,35,36,37,38,39,40,41,42,43,44,45,46,47,48,49,50,51,52,53,54,55,56,57,58,59,60] (fun x=>[]) (fun x=>x.1++x.2=ls) (fun x=>x.2.length) ([],ls) (by simp) ⟨⟨_,rfl,xaq ?_⟩,⟨⟨_,rfl, ?_⟩,trivial⟩⟩ trivial (fun x=>rfl) (fun x hg1=>?_);focus (first|rfl|(simp;done))
 focus (first|exact LeA.refl _|((first|refine LeA.gld ?_|refine LeA.nild ?_);first|rfl|(simp;done)|(rw[zld,zoV,zop (by omega)])))
 obtain⟨pre,rest⟩:=x;dsimp only at hg1 ⊢;refine evc [] [] ?_;refine sq ?_ ?_<;>intro h1 h1p h1s<;>(try simp only[Q,Pat.cs_len,Int.ofNat_lt,Int.ofNat_le] at h1p);rcases rest with _|⟨l,rest⟩
 ·exfalso;simp_all
 have hll:=hls l (by rw[<-hg1];simp);have htl:=zrS 400 pre;refine xbh 3 zej .none rfl rfl ?_;refine ev ?_;refine xak (ι:=Nat) hk (fun k=>[(6,.d (.i (k:Int))),(5,.gl 3 (((((tupQ 400 pre).take k).flatMap (zlx l)).take (400+1)).map zib))]) [7,17,18,19,20,21,22,23,24,25,26,27,28,29,30,31,32,33,34,35,36,37,38,39,40,41,42,43,44,45,46,47,48,49,50,51,52,53,54,55,56,57,58,59] (fun k=>[(3,some (.tok ((((((tupQ 400 pre).take k).flatMap (zlx l)).take (400+1)).map zib)).length 1))]) (fun k=>k<=(tupQ 400 pre).length) (fun k=>(tupQ 400 pre).length-k) 0 (by simp) ⟨⟨_,rfl,xaq ?_⟩,⟨⟨_,rfl,LeA.glg ?_⟩,trivial⟩⟩ ⟨zab ?_,trivial⟩ (fun x=>rfl) (fun k hg2=>?_);iterate 3 focus (first|rfl|(simp;done))
 refine evc [] [] ?_;refine sq ?_ ?_<;>intro h2 h2p h2s<;>(try simp only[Q,Pat.cs_len,Int.ofNat_lt,Int.ofNat_le] at h2p);refine sq ?_ ?_<;>intro h3 h3p h3s<;>(try simp only[Q,Pat.cs_len,Int.ofNat_lt,Int.ofNat_le] at h3p);refine xak (ι:=Nat) hk (fun j=>[(7,.d (.i (j:Int))),(5,.gl 3 (((((tupQ 400 pre).take k).flatMap (zlx l)++(l.take j).map (fun y=>nth (tupQ 400 pre) k++[y])).take (400+1)).map zib))]) [28,29,30,31,32,33,34,35,36,37,38,39,40,41,42,43,44,45,46,47,48,49,50,51,52,53,54,55,56,57,58,59] (fun j=>[(3,some (.tok ((((((tupQ 400 pre).take k).flatMap (zlx l)++(l.take j).map (fun y=>nth (tupQ 400 pre) k++[y])).take (400+1)).map zib)).length 1))]) (fun j=>j<=l.length) (fun j=>l.length-j) 0 (by simp) ⟨⟨_,rfl,xaq ?_⟩,⟨⟨_,rfl,LeA.glg ?_⟩,trivial⟩⟩ ⟨zab ?_,trivial⟩ (fun x=>rfl) (fun j hg3=>?_);iterate 3 focus (first|rfl|(simp;done))
 have hol:=zrT 400 (zae (l:=tupQ 400 pre) (i:=k) (by omega));refine evc [] [] ?_;refine xaU zej .none rfl rfl rfl rfl (by first|exact zaG hg1|exact zaq (by omega)) rfl ?_;refine ev ?_;refine sq ?_ ?_<;>intro h4 h4p h4s<;>(try simp only[Q,Pat.cs_len,Int.ofNat_lt,Int.ofNat_le] at h4p);refine sq ?_ ?_<;>intro h5 h5p h5s<;>(try simp only[Q,Pat.cs_len,Int.ofNat_lt,Int.ofNat_le] at h5p);refine xbh 5 sl34 .none rfl rfl ?_;refine evd [] [] ?_;refine xaU zej .none rfl rfl rfl rfl (by first|exact zaG hg1|exact zaq (by omega)) rfl ?_;refine evd [] [] ?_;refine ap sl34 zz36 rfl rfl rfl (by intro z hz;first|(rw[xat] at hz;obtain⟨_,_,rfl⟩:=List.mem_map.1 hz;rfl)|(simp at hz;rw[hz];rfl)) (by first|(simp only[xac,xaa,xab,xai,Pat.cs_len] at *;omega)) ?_;refine evd [] [] ?_;refine xaU zej .none rfl rfl rfl rfl (by first|exact zaG hg1|exact zaq (by omega)) rfl ?_;refine evd [] [] ?_;refine xaU sl34 .none rfl rfl rfl rfl (zar (by omega)) rfl ?_;refine evd [] [] ?_;refine si [0] [_] sl34 tz36 ?_;refine ap sl34 zz36 rfl rfl rfl (by intro z hz;first|(rw[xat] at hz;obtain⟨_,_,rfl⟩:=List.mem_map.1 hz;rfl)|(simp at hz;rw[hz];rfl)) (by first|(simp only[xac,xaa,xab,xai,Pat.cs_len] at *;omega)) ?_;refine si [0] [_] zej tz34 ?_;refine ap zej zz34 rfl rfl rfl (by intro z hz;first|(rw[xat] at hz;obtain⟨_,_,rfl⟩:=List.mem_map.1 hz;rfl)|(simp at hz;rw[hz];rfl)) (by first|(simp only[xac,xaa,xab,xai,Pat.cs_len] at *;omega)) ?_;refine evd [] [] ?_;refine dr ?_;refine ar ?_;refine xah (j+1) ⟨?_, ?_,sx ⟨⟨_,rfl,xaq ?_⟩,⟨⟨_,rfl,LeA.glg ?_⟩,trivial⟩⟩ ⟨zab ?_,trivial⟩⟩;iterate 2 focus (first|omega|(simp_all;done))
 iterate 3 focus (first|rfl|(simp;done)|(rw[zw6 (by omega) (by omega),xaf];simp[xat];done))
 refine ar ?_;refine xah (k+1) ⟨?_, ?_,sx ⟨⟨_,rfl,xaq ?_⟩,⟨⟨_,rfl,LeA.glg ?_⟩,trivial⟩⟩ ⟨zab ?_,trivial⟩⟩;iterate 2 focus (first|omega|(simp_all;done))
 iterate 3 focus (first|rfl|(simp;done)|(rw[zsD (by omega),zrQ (by omega)]))
 refine sqF ?_;refine ar ?_;refine xah (k+1) ⟨?_, ?_,sx ⟨⟨_,rfl,xaq ?_⟩,⟨⟨_,rfl,LeA.glg ?_⟩,trivial⟩⟩ ⟨zab ?_,trivial⟩⟩;iterate 2 focus (first|omega|(simp_all;done))
 iterate 3 focus (first|rfl|(simp;done)|(rw[zsD (by omega),zrQ (by omega)]))
 refine ar ?_;refine xah ((pre++[l],rest)) ⟨(by have hz:=hg1;rw[<-hz];simp),(by simp),sx ⟨⟨_,rfl,xaq ?_⟩,⟨⟨_,rfl, ?_⟩,trivial⟩⟩ trivial⟩;focus (first|rfl|(simp;done))
 focus (first|exact LeA.refl _|((first|refine LeA.gld ?_|refine LeA.nild ?_);first|rfl|(simp;done)|(rw[zld,zoV,zop (by omega)])))
 refine sqF ?_;refine ar ?_;refine xah ((pre++[l],rest)) ⟨(by have hz:=hg1;rw[<-hz];simp),(by simp),sx ⟨⟨_,rfl,xaq ?_⟩,⟨⟨_,rfl, ?_⟩,trivial⟩⟩ trivial⟩;focus (first|rfl|(simp;done))
 focus (first|exact LeA.refl _|((first|refine LeA.gld ?_|refine LeA.nild ?_);first|rfl|(simp;done)|(rw[zld,zoV,zop (by omega)])))
 have hrest:rest=[]:=by
  rcases rest with _|⟨a,b⟩
  ·rfl
  ·exfalso;have hz:=congrArg List.length (hg1);simp only[xaa,xab,xac] at hz;omega
 subst hrest;refine rq ?_;rotate_left;all_goals ((rw[List.append_nil] at hg1);subst hg1;rfl)
theorem zel:∀(n:Nat){p:Pat},binP n p=true->p.ok->FnD Tryz.prog 197 [.agg [.d (.i p.op),.d (.i p.ctor),.d (.i p.n),.d (.i p.m),.d (.i p.var),.d (zag p.kids)]] [] (.gv 9 (Pat.cs (za3 p))) [(9,some (.tok (Pat.cs (za3 p)).length 6))]
 |0,p,h,_=>by simp[binP] at h
 |n+1,p,h,hok=>by
  have hok':=(Pat.ok_iff p).1 hok;have hok1:=hok'.1;by_cases h5:p.op=5
  ·have hl:=zlj h h5;have e5:=zvO h5 hl;have l0:=zhm (nth p.kids 0);have l1:=zhm (nth p.kids 1);have c0:=zel n (zeK h (i:=0) (by omega)) (Pats.ok_mem hok'.2 _ (zae (by omega)));have c1:=FnD.gvD (zel n (zeK h (i:=1) (by omega)) (Pats.ok_mem hok'.2 _ (zae (by omega))));rw[e5];generalize za3 (nth p.kids 0)=A at *;generalize za3 (nth p.kids 1)=C at *;by_cases hlen:(A++C).length<=401
   ·rw[List.take_of_length_le hlen];rw[xaa] at hlen;refine bd Tryz.f197 67 [25] [] fun w0 F0 own kept hk=>?_;refine bx 3001 ?_;refine evs [25] [] ?_;refine sq ?_ ?_<;>intro h1 h1p h1s<;>(try simp only[Q,Pat.cs_len,xaa] at h1p);refine xaU (i:=0) sl34 .none rfl rfl rfl rfl (zar (by omega)) rfl ?_;refine evd [25] [] ?_;refine Walk.call (cr:=[9]) ziN (c0) rfl .none rfl rfl (LeL.refl _) trivial rfl rfl rfl ?_;refine evd [25] [] ?_;refine xaU (i:=1) sl34 .none rfl rfl rfl rfl (zar (by omega)) rfl ?_;refine evd [25] [] ?_;refine wc ziN (c1) rfl rfl ?_;refine xaD sl34 zz36 .none rfl rfl rfl rfl (zdq rfl (by(simp;done))) (by intro x hx;exact zcp _ x hx) (by simp[Pat.cs_len];omega) (by simp[Pat.cs_len];omega) ?_;refine evd [25] [] ?_;refine dr ?_;refine Walk.lenV sl34 .none rfl rfl ?_;refine evs [25] [] ?_;refine sq ?_ ?_<;>intro h2 h2p h2s<;>(try simp only[Q,Pat.cs_len,xaa] at h2p);exfalso;omega;refine rn [(9,some (.tok (Pat.cs (A++C)).length 6))] (r1 rfl) (.gvg ?_) ⟨rfl,rfl⟩ (SubH.get ⟨?_,trivial⟩) (zay rfl);rotate_left 2;exfalso;omega;all_goals (first|((first|rfl|(simp[xat];done));done)|(first|rfl|(simp[xat];rfl)))
   ·have c8:=FnD.gvRen 8 c0;rw[xaa] at hlen;refine bd Tryz.f197 67 [25] [] fun w0 F0 own kept hk=>?_;refine bx 3001 ?_;refine evs [25] [] ?_;refine sq ?_ ?_<;>intro h1 h1p h1s<;>(try simp only[Q,Pat.cs_len,xaa] at h1p);refine xaU (i:=0) sl34 .none rfl rfl rfl rfl (zar (by omega)) rfl ?_;refine evd [25] [] ?_;refine Walk.call (cr:=[8]) ziN (c8) rfl .none rfl rfl (LeL.refl _) trivial rfl rfl rfl ?_;refine evd [25] [] ?_;refine xaU (i:=1) sl34 .none rfl rfl rfl rfl (zar (by omega)) rfl ?_;refine evd [25] [] ?_;refine wc ziN (c1) rfl rfl ?_;refine xaD sl34 zz36 .none rfl rfl rfl rfl (zdq rfl (by(simp;done))) (by intro x hx;exact zcp _ x hx) (by simp[Pat.cs_len];omega) (by simp[Pat.cs_len];omega) ?_;refine evd [25] [] ?_;refine dr ?_;refine Walk.lenV sl34 .none rfl rfl ?_;refine evs [25] [] ?_;refine sq ?_ ?_<;>intro h2 h2p h2s<;>(try simp only[Q,Pat.cs_len,xaa] at h2p);refine xaP 9 (b:=401) sl34 .none rfl rfl (zdq rfl (by(simp;done))) rfl rfl (by simp[Pat.cs_len];omega) (by simp[Pat.cs_len];omega) rfl ?_;refine evs [25] [] ?_;refine rn [(9,some (.tok (Pat.cs ((A++C).take 401)).length 6))] (r1 rfl) (.gvg ?_) ⟨rfl,rfl⟩ (SubH.get ⟨?_,trivial⟩) (zay rfl);rotate_left 2;exfalso;omega;exfalso;omega;all_goals (first|((first|rfl|(simp[xat];done));done)|(first|rfl|(show some (Res.tok _ _)=some (Res.tok _ _);simp[Pat.cs_len];omega)))
  ·have hts:=zrS 400 (p.kids.map za3);have htm:=fun(i:Nat) (hi:i<(tupQ 400 (p.kids.map za3)).length)=>zrT 400 (zae hi);have ht3:=zmt (ls:=p.kids.map za3) (by rw[xac];omega) (fun l hl=>by obtain⟨x,_,rfl⟩:=List.mem_map.1 hl;have:=zhm x;omega);have hcal:=fun(i:Nat) (hi:i<p.kids.length)=>FnD.gvD (zel n (zeK h hi) (Pats.ok_mem hok'.2 _ (zae hi)));have hpl:=fun(y:Pat) (pre rest:List Pat) (e:pre++y::rest=p.kids)=>(show pre.length<p.kids.length/\nth p.kids pre.length=y from⟨by have:=congrArg List.length e;simp at this;omega,zys e⟩);have hcal2:=fun(y:Pat) (pre rest:List Pat) (e:pre++y::rest=p.kids)=>show FnD Tryz.prog 197 [.agg [.d (.i y.op),.d (.i y.ctor),.d (.i y.n),.d (.i y.m),.d (.i y.var),.d (zag y.kids)]] [] (.d (.sl (Pat.cs (za3 y)))) [] from by
    have hq:=hcal pre.length (hpl y pre rest e).1;rw[(hpl y pre rest e).2] at hq;exact hq
   have ht3':=fun(pre:List Pat) (e:pre++[]=p.kids)=>show FnD Tryz.prog 280 [.d (zjq (pre.map za3))] [] (.d (zjq (tupQ 400 (p.kids.map za3)))) [] from by
    rw[List.append_nil] at e;rw[e];exact ht3
   rw[zvP h5];refine bd Tryz.f197 67 [] [] fun w0 F0 own kept hk=>?_;refine bx 3001 ?_;refine ev ?_;refine sq ?_ ?_<;>intro h1 h1p h1s<;>(try simp only[Q,Pat.cs_len] at h1p);exfalso;omega;refine xbh 4 zej .none rfl rfl ?_;refine ev ?_;refine xak (ι:=List (Pat)×List (Pat)) hk (fun x=>[(5,.d (.i (x.1.length:Int))),(4,.gl 4 ((x.1.map za3).map zib))]) [31,32,33,34,35,36,37,38,39,40,41,42,43,44,45,46] (fun x=>[(4,some (.tok (((x.1.map za3).map zib)).length 1))]) (fun x=>x.1++x.2=p.kids) (fun x=>x.2.length) ([],p.kids) (by simp) ⟨⟨_,rfl,xaq ?_⟩,⟨⟨_,rfl,LeA.glg ?_⟩,trivial⟩⟩ ⟨zab ?_,trivial⟩ (fun x=>rfl) (fun x hg1=>?_);iterate 3 focus ((simp;done))
   obtain⟨pre,rest⟩:=x;dsimp only at hg1 ⊢;refine evc [] [] ?_;refine sq ?_ ?_<;>intro h2 h2p h2s<;>(try simp only[Q,Pat.cs_len] at h2p);rcases rest with _|⟨y,rest⟩
   ·exfalso;simp_all
   refine xaU sl34 .none rfl rfl rfl rfl (Pat.cs_at' hg1) rfl ?_;refine ev ?_;refine wc ziN (hcal2 y pre rest hg1) rfl rfl ?_;refine si [0] [_] zej tz34 ?_;refine ap zej zz34 rfl rfl rfl (by intro x hx;first|(simp at hx;subst hx;rfl)|exact zhA _ x hx) (by first|(have:=congrArg List.length hg1;simp at this;simp;omega)|(simp;omega)) ?_;refine ev ?_;refine ar ?_;refine xah ((pre++[y],rest)) ⟨(by have hz:=hg1;rw[<-hz];simp),(by simp),sx ⟨⟨_,rfl,xaq ?_⟩,⟨⟨_,rfl,LeA.glg ?_⟩,trivial⟩⟩ ⟨zab ?_,trivial⟩⟩;iterate 3 focus ((simp;done))
   have hrest:rest=[]:=by
    rcases rest with _|⟨a,b⟩
    ·rfl
    ·exfalso;have hz:=congrArg List.length (hg1);simp only[xaa,xab,xac] at hz;omega
   subst hrest;refine Walk.call (cr:=[]) zxO (ht3' pre hg1) rfl .none rfl rfl (.cons (.gl _ _) .nil) trivial rfl rfl rfl ?_;refine ev ?_;refine xbi 9 sl34 .none rfl rfl ?_;refine ev ?_;refine xak (ι:=Nat) hk (fun k=>[(8,.d (.i (k:Int))),(7,.gv 9 ((((tupQ 400 (p.kids.map za3)).take k).map fun l=>Pat.mk p.op p.ctor p.n p.m p.var l).map Pat.cc))]) [9,50,51,52,53,54,55,56,57,58,59,60,61,62,63,64,65] (fun k=>[(9,some (.tok (((((tupQ 400 (p.kids.map za3)).take k).map fun l=>Pat.mk p.op p.ctor p.n p.m p.var l).map Pat.cc)).length 6))]) (fun k=>k<=(tupQ 400 (p.kids.map za3)).length) (fun k=>(tupQ 400 (p.kids.map za3)).length-k) 0 (by omega) ⟨⟨_,rfl,xaq ?_⟩,⟨⟨_,rfl,LeA.gvg ?_⟩,trivial⟩⟩ ⟨zab ?_,trivial⟩ (fun x=>rfl) (fun k hg2=>?_);iterate 3 focus ((simp;done))
   refine evc [] [] ?_;refine sq ?_ ?_<;>intro h3 h3p h3s<;>(try simp only[Q,Pat.cs_len] at h3p);refine ab 3009 tz36 ?_;refine so ty36 ?_;refine tv ?_;refine xaU zej .none rfl rfl rfl rfl (zaq (by omega)) rfl ?_;refine ev ?_;refine so ty34 ?_;refine tv ?_;refine si [0] [_] sl34 tz36 ?_;refine xaD sl34 zz36 .none rfl rfl rfl rfl (zdq rfl (by first|rfl|(simp;done))) (by intro x hx;first|(simp at hx;subst hx;rfl)|exact zhA _ x hx) (by first|(have:=congrArg List.length hg1;simp at this;simp;omega)|(simp;omega)) (by first|(have:=congrArg List.length hg1;simp at this;simp;omega)|(simp;omega)) ?_;refine ev ?_;refine ar ?_;refine xah (k+1) ⟨(by omega),(by omega),sx ⟨⟨_,rfl,xaq ?_⟩,⟨⟨_,rfl,LeA.gvg ?_⟩,trivial⟩⟩ ⟨zab ?_,trivial⟩⟩;iterate 3 focus (first|(simp;done)|(rw[List.take_succ_eq_append_getElem (by omega),<-za1 (by omega)];simp[zei,zgf,mk_n,mk_m,zi1,zcz];done))
   refine rn [(9,some (.tok (Pat.cs ((tupQ 400 (p.kids.map za3)).map fun l=>Pat.mk p.op p.ctor p.n p.m p.var l)).length 6))] (r1 rfl) (.gvg ?_) ⟨rfl,rfl⟩ (SubH.get ⟨?_,trivial⟩) (zay rfl);rotate_left 2;all_goals (first|((first|rfl|(obtain rfl:k=(tupQ 400 (p.kids.map za3)).length:=(by omega);rw[List.take_length,show Pat.cs ((tupQ 400 (p.kids.map za3)).map fun l=>Pat.mk p.op p.ctor p.n p.m p.var l)=((tupQ 400 (p.kids.map za3)).map fun l=>Pat.mk p.op p.ctor p.n p.m p.var l).map Pat.cc from xat _];done));done)|(first|rfl|(obtain rfl:k=(tupQ 400 (p.kids.map za3)).length:=(by omega);rw[List.take_length];simp[xat];rfl)|(obtain rfl:k=(tupQ 400 (p.kids.map za3)).length:=(by omega);rw[List.take_length,show Pat.cs ((tupQ 400 (p.kids.map za3)).map fun l=>Pat.mk p.op p.ctor p.n p.m p.var l)=((tupQ 400 (p.kids.map za3)).map fun l=>Pat.mk p.op p.ctor p.n p.m p.var l).map Pat.cc from xat _];rfl)))
theorem znZ {w:List Data}{n:Nat}{t:Ty}{p:Pat} (h:zan w n t p=true) (hok:p.ok):FnD Tryz.prog 128 [.agg [.d (.i p.op),.d (.i p.ctor),.d (.i p.n),.d (.i p.m),.d (.i p.var),.d (zag p.kids)]] [] (.d (zag (za3 (zaC p)))) []:=by
 have hbp:=zdg _ (Nat.le_refl _) hok;have hsp:=FnD.gvD (zel n (zim n h) (zlh p hok));generalize zaC p=b at *;refine bd Tryz.f128 6 [] [] fun w0 F0 own kept hk=>?_;refine bx 3001 ?_;refine ev ?_;refine wc zp5 (hbp) rfl rfl ?_;refine wc ziN (hsp) rfl rfl ?_;refine ev ?_;refine rq ?_;rotate_left;all_goals (rfl)
theorem zhZ {a b:Pat} (hn:0<=b.n/\b.n<=9) (hm:0<=b.m/\b.m<=9):FnD Tryz.prog 302 [.agg [.d (.i (a).op),.d (.i (a).ctor),.d (.i (a).n),.d (.i (a).m),.d (.i (a).var),.d (zag (a).kids)],.agg [.d (.i (b).op),.d (.i (b).ctor),.d (.i (b).n),.d (.i (b).m),.d (.i (b).var),.d (zag (b).kids)]] [] (.d (zag (zb1 a.n (minQ a.m (b.n-1))++zb1 (maxQ a.n (b.m+1)) a.m))) []:=by
 refine bd Tryz.f302 58 [] [] fun w0 F0 own kept hk=>?_;refine bx 3002 ?_;refine bx 3003 ?_;refine ev ?_;refine xbh 9 sl34 .none rfl rfl ?_;refine ev ?_;refine bu [0,2,3] [_,_,_] st36 ?_;refine ab 3006 tz36 ?_;refine so ty36 ?_;refine tv ?_;refine ar ?_;refine sq ?_ ?_<;>intro h1 h1p h1s<;>(try simp only[Q] at h1p);refine ar ?_;refine so ty3 ?_;refine tv ?_;refine sq ?_ ?_<;>intro h2 h2p h2s<;>(try simp only[Q] at h2p);refine si [0] [_] sl34 tz36 ?_;refine ap sl34 zz36 rfl rfl rfl (by intro x hx;simp at hx;subst hx;rfl) (by simp) ?_;refine ev ?_;refine bu [0,2,3] [_,_,_] st36 ?_;refine ab 3007 tz36 ?_;refine so ty36 ?_;refine tv ?_;refine ar ?_;refine sq ?_ ?_<;>intro h3 h3p h3s<;>(try simp only[Q] at h3p);refine ar ?_;refine so ty3 ?_;refine tv ?_;refine sq ?_ ?_<;>intro h4 h4p h4s<;>(try simp only[Q] at h4p);refine si [0] [_] sl34 tz36 ?_;refine ap sl34 zz36 rfl rfl rfl (by intro x hx;simp at hx;subst hx;rfl) (by simp) ?_;refine ev ?_;refine rn0 (r1 rfl) (.gld ?_);rotate_left;refine rn0 (r1 rfl) (.gld ?_);rotate_left;refine sq ?_ ?_<;>intro h5 h5p h5s<;>(try simp only[Q] at h5p);refine si [0] [_] sl34 tz36 ?_;refine ap sl34 zz36 rfl rfl rfl (by intro x hx;simp at hx;subst hx;rfl) (by simp) ?_;refine ev ?_;refine rn0 (r1 rfl) (.gld ?_);rotate_left;refine rn0 (r1 rfl) (.gld ?_);rotate_left;refine bu [0,2,3] [_,_,_] st36 ?_;refine ab 3007 tz36 ?_;refine so ty36 ?_;refine tv ?_;refine ar ?_;refine sq ?_ ?_<;>intro h6 h6p h6s<;>(try simp only[Q] at h6p);refine ar ?_;refine so ty3 ?_;refine tv ?_;refine sq ?_ ?_<;>intro h7 h7p h7s<;>(try simp only[Q] at h7p);refine si [0] [_] sl34 tz36 ?_;refine ap sl34 zz36 rfl rfl rfl (by intro x hx;simp at hx;subst hx;rfl) (by simp) ?_;refine ev ?_;refine rn0 (r1 rfl) (.gld ?_);rotate_left;refine rn0 (r1 rfl) (.gld ?_);rotate_left;refine sq ?_ ?_<;>intro h8 h8p h8s<;>(try simp only[Q] at h8p);refine si [0] [_] sl34 tz36 ?_;refine ap sl34 zz36 rfl rfl rfl (by intro x hx;simp at hx;subst hx;rfl) (by simp) ?_;refine ev ?_;refine rn0 (r1 rfl) (.gld ?_);rotate_left;refine rn0 (r1 rfl) (.gld ?_);rotate_left;refine sq ?_ ?_<;>intro h9 h9p h9s<;>(try simp only[Q] at h9p);refine si [0] [_] sl34 tz36 ?_;refine ap sl34 zz36 rfl rfl rfl (by intro x hx;simp at hx;subst hx;rfl) (by simp) ?_;refine ev ?_;refine bu [0,2,3] [_,_,_] st36 ?_;refine ab 3007 tz36 ?_;refine so ty36 ?_;refine tv ?_;refine ar ?_;refine sq ?_ ?_<;>intro h10 h10p h10s<;>(try simp only[Q] at h10p);refine ar ?_;refine so ty3 ?_;refine tv ?_;refine sq ?_ ?_<;>intro h11 h11p h11s<;>(try simp only[Q] at h11p);refine si [0] [_] sl34 tz36 ?_;refine ap sl34 zz36 rfl rfl rfl (by intro x hx;simp at hx;subst hx;rfl) (by simp) ?_;refine ev ?_;refine rn0 (r1 rfl) (.gld ?_);rotate_left;refine rn0 (r1 rfl) (.gld ?_);rotate_left;refine sq ?_ ?_<;>intro h12 h12p h12s<;>(try simp only[Q] at h12p);refine si [0] [_] sl34 tz36 ?_;refine ap sl34 zz36 rfl rfl rfl (by intro x hx;simp at hx;subst hx;rfl) (by simp) ?_;refine ev ?_;refine rn0 (r1 rfl) (.gld ?_);rotate_left;refine rn0 (r1 rfl) (.gld ?_);rotate_left;refine bu [0,2,3] [_,_,_] st36 ?_;refine ab 3007 tz36 ?_;refine so ty36 ?_;refine tv ?_;refine ar ?_;refine sq ?_ ?_<;>intro h13 h13p h13s<;>(try simp only[Q] at h13p);refine ar ?_;refine so ty3 ?_;refine tv ?_;refine sq ?_ ?_<;>intro h14 h14p h14s<;>(try simp only[Q] at h14p);refine si [0] [_] sl34 tz36 ?_;refine ap sl34 zz36 rfl rfl rfl (by intro x hx;simp at hx;subst hx;rfl) (by simp) ?_;refine ev ?_;refine rn0 (r1 rfl) (.gld ?_);rotate_left;refine rn0 (r1 rfl) (.gld ?_);rotate_left;refine sq ?_ ?_<;>intro h15 h15p h15s<;>(try simp only[Q] at h15p);refine si [0] [_] sl34 tz36 ?_;refine ap sl34 zz36 rfl rfl rfl (by intro x hx;simp at hx;subst hx;rfl) (by simp) ?_;refine ev ?_;refine rn0 (r1 rfl) (.gld ?_);rotate_left;refine rn0 (r1 rfl) (.gld ?_);rotate_left;all_goals (unfold minQ maxQ zb1;(repeat' split)<;>first|rfl|(exfalso;omega))
theorem zp2 {w:List Data} (hw:WT w){a k c:Int} (ht:TyIn w.length ⟨a,k⟩) (hc:c∈zal w ⟨a,k⟩) (hl:(zaa w ⟨a,k⟩ c).length<=3):FnD Tryz.prog 304 [.d (zah w),.agg [.d (.i a),.d (.i k)],.d (.i c)] []
  (.agg [.d (.i 4),.d (.i c),.d (.i 0),.d (.i 0),.d (.i 0),.d (zag (zcb w ⟨a,k⟩ c).kids)]) []:=by
 refine bd Tryz.f304 29 [] [] fun w0 F0 own kept hk=>?_;refine bx 3004 ?_;refine ab 3006 tz36 ?_;refine tv ?_;refine bu [0,1] [_,_] st36 ?_;refine ab 3007 tz36 ?_;refine so ty36 ?_;refine tv ?_;refine wc zdn (zbu hw ht hc) rfl rfl ?_;refine ev ?_;refine xan 3007 5 9 6 rfl rfl rfl rfl ?_;refine xak (ι:=List (Ty)×List (Ty)) hk (fun x=>[(9,.d (.i (x.1.length:Int)))]) [16,17,18,19,20,21,22,23,24,25,26,27] (fun x=>[(3007,some (.box [.d (.i 4),.d (.i c),.d (.i 0),.d (.i 0),.d (.i 0),.gl 9 ((x.1.map fun _=>anyQ).map Pat.cc)])),(9,some (.tok ((x.1.map fun _=>anyQ).map Pat.cc).length 6))]) (fun x=>x.1++x.2=zaa w ⟨a,k⟩ c) (fun x=>x.2.length) ([],zaa w ⟨a,k⟩ c) (by simp) ⟨⟨_,rfl,xaq ?_⟩,trivial⟩ ⟨?_,⟨zab ?_,trivial⟩⟩ (fun x=>rfl) (fun x hg1=>?_);focus (rfl)
 focus (rfl)
 focus (rfl)
 obtain⟨pre,rest⟩:=x;dsimp only at hg1 ⊢;refine evc [] [] ?_;refine sq ?_ ?_<;>intro h1 h1p h1s<;>(try simp only[Q] at h1p);rcases rest with _|⟨y,rest⟩
 ·exfalso;simp_all
 refine wc zqp (zgX) rfl rfl ?_;refine si [0] [_] sl34 tz36 ?_;refine ap sl34 zz36 rfl rfl rfl (by intro x hx;(simp at hx;subst hx;rfl)) (by have:=congrArg List.length hg1;simp at this;simp;omega) ?_;refine evd [] [] ?_;refine so ty34 ?_;refine dr ?_;refine ar ?_;refine xah ((pre++[y],rest)) ⟨(by have hz:=hg1;rw[<-hz];simp),(by simp),sx ⟨⟨_,rfl,xaq ?_⟩,trivial⟩ ⟨?_,⟨zab ?_,trivial⟩⟩⟩;focus ((simp;done))
 focus ((simp[getH];exact⟨rfl,rfl,rfl,rfl,rfl,rfl⟩))
 focus ((simp;done))
 have hrest:rest=[]:=by
  rcases rest with _|⟨a,b⟩
  ·rfl
  ·exfalso;have hz:=congrArg List.length (hg1);simp only[xaa,xab,xac] at hz;omega
 subst hrest;refine so ty36 ?_;refine tv ?_;refine rn0 (.cons (.cellA ty36 rfl rfl rfl) .nil) (.agg (.cons (.eqd ?_) (.cons (.eqd ?_) (.cons (.eqd ?_) (.cons (.eqd ?_) (.cons (.eqd ?_) (.cons (.gld ?_) .nil)))))));rotate_left 6;all_goals (first|rfl|(rw[List.append_nil] at hg1;subst hg1;rw[<-xat];all_goals rfl))
def zdX (n:Nat) (a b:Pat):Pat:=if a.op=3/\b.op≠1 then intQ (maxQ a.n b.n) (minQ a.m b.m) else zcW n a b
theorem zoy {n:Nat}{a b:Pat} (h:¬(a.op=3/\b.op≠1)):zdX n a b=zcW n a b:=if_neg h
theorem zrg {n:Nat}{a b:Pat} (h:(zaL n a b).isSome=true):zdX n a b=zcW n a b:=by
 unfold zdX;split
 ·rename_i h3;cases n with
  |zero=>simp[zaL] at h
  |succ n=>
   have e:=zkI (n:=n) h3.1 h3.2;rw[e] at h;split at h
   ·rename_i hr;rw[if_pos hr] at e;exact(zcE e).symm
   ·cases h
 ·rfl
theorem zje {w:List Data} (hs:Spa w):∀(n m:Nat){t:Ty}{a b:Pat},m<=n->InS (w.length*4) t->zai w m t a=true->zai w m t b=true->
  FnD Tryz.prog 276 [.agg [.d (.i (a).op),.d (.i (a).ctor),.d (.i (a).n),.d (.i (a).m),.d (.i (a).var),.d (zag (a).kids)],.agg [.d (.i (b).op),.d (.i (b).ctor),.d (.i (b).n),.d (.i (b).m),.d (.i (b).var),.d (zag (b).kids)]] [] (.tup [.agg [.d (.i (zdX n a b).op),.d (.i (zdX n a b).ctor),.d (.i (zdX n a b).n),.d (.i (zdX n a b).m),.d (.i (zdX n a b).var),.d (zag (zdX n a b).kids)],.d (.bool (zaL n a b).isSome)]) []
 |n,0,t,a,b,_,_,ha,_=>by simp[zai] at ha
 |0,m+1,t,a,b,h,_,_,_=>by omega
 |n+1,m+1,t,a,b,hnm,ht,ha,hb=>by
  by_cases h1:a.op=1
  ·have e:=zkG (n:=n) (b:=b) h1;rw[zoy (fun h=>by omega),zcE e,e];refine bd Tryz.f276 89 [] [] fun w0 F0 own kept hk=>?_;refine bx 3002 ?_;refine bx 3003 ?_;refine ab 3004 tz36 ?_;refine ev ?_;refine sq ?_ ?_<;>intro h1 h1p h1s<;>(try simp only[Q] at h1p);refine so ty36 ?_;refine ev ?_;refine rn0 (.cons (.cellA ty36 rfl rfl rfl) (.cons (.tmp rfl) .nil)) (.tup (.cons (.agg (.cons (.eqd ?_) (.cons (.eqd ?_) (.cons (.eqd ?_) (.cons (.eqd ?_) (.cons (.eqd ?_) (.cons (.eqd ?_) .nil))))))) (.cons (.eqd ?_) .nil)));rotate_left 7;exfalso;omega;all_goals (rfl)
  by_cases h2:b.op=1
  ·have e:=zkH (n:=n) h1 h2;rw[zoy (fun h=>h.2 h2),zcE e,e];refine bd Tryz.f276 89 [] [] fun w0 F0 own kept hk=>?_;refine bx 3002 ?_;refine bx 3003 ?_;refine ab 3004 tz36 ?_;refine ev ?_;refine sq ?_ ?_<;>intro h1 h1p h1s<;>(try simp only[Q] at h1p);exfalso;omega;refine sq ?_ ?_<;>intro h2 h2p h2s<;>(try simp only[Q] at h2p);refine so ty36 ?_;refine ev ?_;refine rn0 (.cons (.cellA ty36 rfl rfl rfl) (.cons (.tmp rfl) .nil)) (.tup (.cons (.agg (.cons (.eqd ?_) (.cons (.eqd ?_) (.cons (.eqd ?_) (.cons (.eqd ?_) (.cons (.eqd ?_) (.cons (.eqd ?_) .nil))))))) (.cons (.eqd ?_) .nil)));rotate_left 7;exfalso;omega;all_goals (rfl)
  by_cases h3:a.op=3
  ·have e:=zkI (n:=n) h3 h2;have ez:zdX (n+1) a b=intQ (maxQ a.n b.n) (minQ a.m b.m):=if_pos ⟨h3,h2⟩;have eb:(zaL (n+1) a b).isSome=decide (maxQ a.n b.n<=minQ a.m b.m):=by
    rw[e];by_cases hr:maxQ a.n b.n<=minQ a.m b.m
    ·rw[if_pos hr,decide_eq_true hr];rfl
    ·rw[if_neg hr,decide_eq_false hr];rfl
   rw[ez,eb];refine bd Tryz.f276 89 [] [] fun w0 F0 own kept hk=>?_;refine bx 3002 ?_;refine bx 3003 ?_;refine ab 3004 tz36 ?_;refine ev ?_;refine sq ?_ ?_<;>intro h1 h1p h1s<;>(try simp only[Q] at h1p);exfalso;omega;refine sq ?_ ?_<;>intro h2 h2p h2s<;>(try simp only[Q] at h2p);exfalso;omega;refine sq ?_ ?_<;>intro h3 h3p h3s<;>(try simp only[Q] at h3p);refine sq ?_ ?_<;>intro h4 h4p h4s<;>(try simp only[Q] at h4p);refine sq ?_ ?_<;>intro h5 h5p h5s<;>(try simp only[Q] at h5p);refine bu [0,2,3] [_,_,_] st36 ?_;refine ev ?_;refine so ty36 ?_;refine ev ?_;refine rn0 (.cons (.cellA ty36 rfl rfl rfl) (.cons (.tmp rfl) .nil)) (.tup (.cons (.agg (.cons (.eqd ?_) (.cons (.eqd ?_) (.cons (.eqd ?_) (.cons (.eqd ?_) (.cons (.eqd ?_) (.cons (.nild ?_) .nil))))))) (.cons (.eqd ?_) .nil)));rotate_left 7;refine bu [0,2,3] [_,_,_] st36 ?_;refine ev ?_;refine so ty36 ?_;refine ev ?_;refine rn0 (.cons (.cellA ty36 rfl rfl rfl) (.cons (.tmp rfl) .nil)) (.tup (.cons (.agg (.cons (.eqd ?_) (.cons (.eqd ?_) (.cons (.eqd ?_) (.cons (.eqd ?_) (.cons (.eqd ?_) (.cons (.nild ?_) .nil))))))) (.cons (.eqd ?_) .nil)));rotate_left 7;refine sq ?_ ?_<;>intro h6 h6p h6s<;>(try simp only[Q] at h6p);refine bu [0,2,3] [_,_,_] st36 ?_;refine ev ?_;refine so ty36 ?_;refine ev ?_;refine rn0 (.cons (.cellA ty36 rfl rfl rfl) (.cons (.tmp rfl) .nil)) (.tup (.cons (.agg (.cons (.eqd ?_) (.cons (.eqd ?_) (.cons (.eqd ?_) (.cons (.eqd ?_) (.cons (.eqd ?_) (.cons (.nild ?_) .nil))))))) (.cons (.eqd ?_) .nil)));rotate_left 7;refine bu [0,2,3] [_,_,_] st36 ?_;refine ev ?_;refine so ty36 ?_;refine ev ?_;refine rn0 (.cons (.cellA ty36 rfl rfl rfl) (.cons (.tmp rfl) .nil)) (.tup (.cons (.agg (.cons (.eqd ?_) (.cons (.eqd ?_) (.cons (.eqd ?_) (.cons (.eqd ?_) (.cons (.eqd ?_) (.cons (.nild ?_) .nil))))))) (.cons (.eqd ?_) .nil)));rotate_left 7;exfalso;omega;all_goals (first|rfl|((try simp only[zei,zgf,mk_n,mk_m,zi1,zcz]);simp only[minQ,maxQ];(repeat' split)<;>first|rfl|(exfalso;omega)))
  have oa:=zbF ha;have h4:a.op=4:=by omega
  have h4b:b.op=4:=by have:=zdk ha hb h1 h2;omega
  have ez:zdX (n+1) a b=zcW (n+1) a b:=zoy (fun h=>h3 h.1);by_cases hc:a.ctor=b.ctor
  ·obtain⟨c1,c2,c3,-⟩:=zaM ha h4;obtain⟨d1,d2,d3,-⟩:=zaM hb h4b;rw[<-hc] at d3;have h3l:=hs.args t a.ctor ht c1;have ka:=fun i (hi:i<a.kids.length)=>za4 ha hi;have kb:=fun i (hi:i<b.kids.length)=>za4 hb hi;rw[zaU h4] at ka;rw[zaU h4b,<-hc] at kb;have e:=zkJ (n:=n) h4 h2 hc;have hlen:a.kids.length=b.kids.length:=by omega
   have ih:=fun i (hi:i<a.kids.length)=>zje hs n m (t:=nth (zaa w t a.ctor) i) (a:=nth a.kids i) (b:=nth b.kids i) (by omega) (zbc hs.dp ht c1 _ (zae (by omega))) (ka i (by omega)) (kb i (by omega));have key:∀(i:Nat) (acc:List Pat),i<a.kids.length->(zaL n (nth a.kids i) (nth b.kids i)).isSome=true->zb4 (zaL n) (a.kids.drop i) (b.kids.drop i) acc=zb4 (zaL n) (a.kids.drop (i+1)) (b.kids.drop (i+1)) (acc++[zdX n (nth a.kids i) (nth b.kids i)]):=fun i acc hi h=>by
    rw[zrg h];exact znm hi (by omega) (zoz h)
   rw[ez];refine bd Tryz.f276 89 [] [] fun w0 F0 own kept hk=>?_;refine bx 3002 ?_;refine bx 3003 ?_;refine ab 3004 tz36 ?_;refine ev ?_;refine sq ?_ ?_<;>intro h1 h1p h1s<;>(try simp only[Q,Pat.cs_len] at h1p);exfalso;omega;refine sq ?_ ?_<;>intro h2 h2p h2s<;>(try simp only[Q,Pat.cs_len] at h2p);exfalso;omega;refine sq ?_ ?_<;>intro h3 h3p h3s<;>(try simp only[Q,Pat.cs_len] at h3p);exfalso;omega;refine sq ?_ ?_<;>intro h4 h4p h4s<;>(try simp only[Q,Pat.cs_len] at h4p);exfalso;omega;refine bu [0,1] [_,_] st36 ?_;refine ab 3008 tz36 ?_;refine so ty36 ?_;refine tv ?_;refine xan 3008 5 9 6 rfl rfl rfl rfl ?_;refine xak (ι:=Nat×List Pat) hk (fun x=>[(9,.d (.i (x.1:Int)))]) [5,10,11,58,59,60,61,62,63,64,65,66,67,68,69,70,71,72,73,74,75,76,77,78,79,80,81,82,83,84,85,86,87] (fun x=>[(3008,some (.box [.d (.i 4),.d (.i a.ctor),.d (.i 0),.d (.i 0),.d (.i 0),.gl 9 (x.2.map Pat.cc)])),(9,some (.tok (x.2.map Pat.cc).length 6))]) (fun x=>x.1<=a.kids.length/\x.2.length=x.1/\zb4 (zaL n) (a.kids.drop x.1) (b.kids.drop x.1) x.2=zb4 (zaL n) a.kids b.kids []) (fun x=>a.kids.length-x.1) (0,[]) ⟨by simp,rfl,rfl⟩ ⟨⟨_,rfl,xaq ?_⟩,trivial⟩ ⟨?_,⟨zab ?_,trivial⟩⟩ (fun x=>rfl) (fun x hg1=>?_);focus (rfl)
   focus (first|rfl|(simp[getH];done))
   focus (rfl)
   refine evc [] [] ?_;refine sq ?_ ?_<;>intro h5 h5p h5s<;>(try simp only[Q,Pat.cs_len] at h5p);refine xaU sl34 .none rfl rfl rfl rfl (zar (by omega)) rfl ?_;refine evd [] [] ?_;refine xaU sl34 .none rfl rfl rfl rfl (zar (by omega)) rfl ?_;refine evd [] [] ?_;refine wc zt2 (ih x.1 (by omega)) rfl rfl ?_;refine evd [] [] ?_;refine ab 3010 tz36 ?_;refine so ty36 ?_;refine evd [] [] ?_;refine dr ?_;refine sq ?_ ?_<;>intro h6 h6p h6s<;>(try simp only[Q,Pat.cs_len] at h6p);refine bu [] [] st36 ?_;refine so ty36 ?_;refine ev ?_;refine rn0 (.cons (.cellA ty36 rfl rfl rfl) (.cons (.tmp rfl) .nil)) (.tup (.cons (.agg (.cons (.eqd ?_) (.cons (.eqd ?_) (.cons (.eqd ?_) (.cons (.eqd ?_) (.cons (.eqd ?_) (.cons (.nild ?_) .nil))))))) (.cons (.eqd ?_) .nil)));rotate_left 7;refine si [0] [_] sl34 tz36 ?_;refine ap sl34 zz36 rfl rfl rfl (by intro x hx;(simp at hx;subst hx;rfl)) (by simp;omega) ?_;refine ev ?_;refine so ty34 ?_;refine tv ?_;refine ar ?_;refine xah ((x.1+1,x.2++[zdX n (nth a.kids x.1) (nth b.kids x.1)])) ⟨⟨by dsimp only;omega,by dsimp only;rw[xaa,hg1.2.1];rfl,by dsimp only;rw[<-key x.1 x.2 (by omega) (by assumption)];exact hg1.2.2⟩,(by dsimp only;omega),sx ⟨⟨_,rfl,xaq ?_⟩,trivial⟩ ⟨?_,⟨zab ?_,trivial⟩⟩⟩;focus (rfl)
   focus (first|rfl|(simp[getH];done))
   focus ((simp;done))
   refine so ty36 ?_;refine ev ?_;refine rn0 (.cons (.cellA ty36 rfl rfl rfl) (.cons (.tmp rfl) .nil)) (.tup (.cons (.agg (.cons (.eqd ?_) (.cons (.eqd ?_) (.cons (.eqd ?_) (.cons (.eqd ?_) (.cons (.eqd ?_) (.cons (.gld ?_) .nil))))))) (.cons (.eqd ?_) .nil)));rotate_left 7;all_goals (first|(have e2:zaL (n+1) a b=none:=(by rw[e,<-hg1.2.2,znl (by omega) (by omega) (zoA (by assumption))];rfl);(first|rw[zfK e2]|rw[e2]);all_goals rfl)|(have e2:zaL (n+1) a b=some (zbw a.ctor x.2):=(by rw[e,<-hg1.2.2,zfl (by omega)];rfl);rw[zcE e2,xat];all_goals rfl)|(have e2:zaL (n+1) a b=some (zbw a.ctor x.2):=(by rw[e,<-hg1.2.2,zfl (by omega)];rfl);rw[zcE e2];all_goals rfl)|(have e2:zaL (n+1) a b=some (zbw a.ctor x.2):=(by rw[e,<-hg1.2.2,zfl (by omega)];rfl);rw[e2];all_goals rfl))
  ·skip
   have e:=ziZ (n:=n) h4 h2 hc;rw[ez,zfK e,e];refine bd Tryz.f276 89 [] [] fun w0 F0 own kept hk=>?_;refine bx 3002 ?_;refine bx 3003 ?_;refine ab 3004 tz36 ?_;refine ev ?_;refine sq ?_ ?_<;>intro h1 h1p h1s<;>(try simp only[Q] at h1p);exfalso;omega;refine sq ?_ ?_<;>intro h2 h2p h2s<;>(try simp only[Q] at h2p);exfalso;omega;refine sq ?_ ?_<;>intro h3 h3p h3s<;>(try simp only[Q] at h3p);exfalso;omega;refine sq ?_ ?_<;>intro h4 h4p h4s<;>(try simp only[Q] at h4p);refine bu [] [] st36 ?_;refine so ty36 ?_;refine ev ?_;refine rn0 (.cons (.cellA ty36 rfl rfl rfl) (.cons (.tmp rfl) .nil)) (.tup (.cons (.agg (.cons (.eqd ?_) (.cons (.eqd ?_) (.cons (.eqd ?_) (.cons (.eqd ?_) (.cons (.eqd ?_) (.cons (.nild ?_) .nil))))))) (.cons (.eqd ?_) .nil)));rotate_left 7;exfalso;omega;all_goals (rfl)
theorem zrk {f:Ty->Pat->Pat->List Pat}{c:Int}{ts:List Ty}{xs bs front:List Pat}{i:Nat} (h1:i<ts.length) (h2:i<xs.length) (h3:i<bs.length) (h:(zaL 11 (nth xs i) (nth bs i)).isSome=true):
  zaR f c (ts.drop i) (xs.drop i) (bs.drop i) front=(f (nth ts i) (nth xs i) (nth bs i)).map (fun z=>zbw c (front++[z]++xs.drop (i+1)))++zaR f c (ts.drop (i+1)) (xs.drop (i+1)) (bs.drop (i+1)) (front++[zdX 11 (nth xs i) (nth bs i)]):=by
 rw[zrg h];exact zlR h1 h2 h3 h
theorem zvh (c:Int) (L:List Pat):Pat.cc (zbw c L)=[D.i 4,D.i c,D.i 0,D.i 0,D.i 0,D.sl (L.map Pat.cc)]:=by
 show [D.i 4,D.i c,D.i 0,D.i 0,D.i 0,D.sl (Pat.cs L)]=_
 rw[xat]
section
variable {w:List Data}
abbrev MinusSp (w:List Data) (n:Nat) (ta tk:Int) (a b:Pat):Prop:=
 FnD Tryz.prog 232 [.d (zah w),.agg [.d (.i ta),.d (.i tk)],.agg [.d (.i (a).op),.d (.i (a).ctor),.d (.i (a).n),.d (.i (a).m),.d (.i (a).var),.d (zag (a).kids)],.agg [.d (.i (b).op),.d (.i (b).ctor),.d (.i (b).n),.d (.i (b).m),.d (.i (b).var),.d (zag (b).kids)]] [] (.d (zag (zav w n ⟨ta,tk⟩ a b))) []
theorem zoT (hs:Spa w){n m:Nat} (hn:n+1<=10) (hm:m+1<=11) (hnm:n<m)
  (ih:∀ {ta tk:Int}{a b:Pat},InS (w.length*4) ⟨ta,tk⟩->zai w m ⟨ta,tk⟩ a=true->zai w n ⟨ta,tk⟩ b=true->MinusSp w n ta tk a b)
  {ta tk:Int}{a b:Pat} (ht:InS (w.length*4) ⟨ta,tk⟩) (ha:zai w (m+1) ⟨ta,tk⟩ a=true) (hb:zai w (n+1) ⟨ta,tk⟩ b=true) (h4:a.op=4) (h4b:b.op=4) (hc:a.ctor=b.ctor):
  FnD Tryz.prog 303 [.d (zah w),.agg [.d (.i ta),.d (.i tk)],.agg [.d (.i (a).op),.d (.i (a).ctor),.d (.i (a).n),.d (.i (a).m),.d (.i (a).var),.d (zag (a).kids)],.agg [.d (.i (b).op),.d (.i (b).ctor),.d (.i (b).n),.d (.i (b).m),.d (.i (b).var),.d (zag (b).kids)]] [] (.d (zag (zav w (n+1) ⟨ta,tk⟩ a b))) []:=by
 obtain⟨c1,c2,c3,-⟩:=zaM ha h4;obtain⟨d1,d2,d3,-⟩:=zaM hb h4b;rw[<-hc] at d3;have h3l:=hs.args ⟨ta,tk⟩ a.ctor ht c1;have ka:=fun i (hi:i<a.kids.length)=>za4 ha hi;have kb:=fun i (hi:i<b.kids.length)=>za4 hb hi;rw[zaU h4] at ka;rw[zaU h4b,<-hc] at kb;have hbd:=zge hs (n:=n+1) (m:=m+1) (by omega) hn ht ha hb;have e:zav w (n+1) ⟨ta,tk⟩ a b=zaR (zav w n) a.ctor (zaa w ⟨ta,tk⟩ a.ctor) a.kids b.kids []:=by rw[zec h4b h4];exact if_pos hc
 have hins:=fun i (hi:i<(zaa w ⟨ta,tk⟩ a.ctor).length)=>zbc hs.dp ht c1 _ (zae hi);have hmi:∀i,i<(zaa w ⟨ta,tk⟩ a.ctor).length->FnD Tryz.prog 232 [.d (zah w),.agg [.d (.i (nth (zaa w ⟨ta,tk⟩ a.ctor) i).data),.d (.i (nth (zaa w ⟨ta,tk⟩ a.ctor) i).index)],.agg [.d (.i (nth a.kids i).op),.d (.i (nth a.kids i).ctor),.d (.i (nth a.kids i).n),.d (.i (nth a.kids i).m),.d (.i (nth a.kids i).var),.d (zag (nth a.kids i).kids)],.agg [.d (.i (nth b.kids i).op),.d (.i (nth b.kids i).ctor),.d (.i (nth b.kids i).n),.d (.i (nth b.kids i).m),.d (.i (nth b.kids i).var),.d (zag (nth b.kids i).kids)]] [] (.d (zag (zav w n (nth (zaa w ⟨ta,tk⟩ a.ctor) i) (nth a.kids i) (nth b.kids i)))) []:=fun i hi=>ih (ta:=(nth (zaa w ⟨ta,tk⟩ a.ctor) i).data) (tk:=(nth (zaa w ⟨ta,tk⟩ a.ctor) i).index) (hins i hi) (ka i (by omega)) (kb i (by omega));have hme:=fun i (hi:i<(zaa w ⟨ta,tk⟩ a.ctor).length)=>zje hs 11 m (t:=nth (zaa w ⟨ta,tk⟩ a.ctor) i) (by omega) (hins i hi) (ka i (by omega)) (zhz (by omega) (kb i (by omega)));rw[e] at hbd ⊢;have hT:∀i out front,i<(zaa w ⟨ta,tk⟩ a.ctor).length->out++zaR (zav w n) a.ctor ((zaa w ⟨ta,tk⟩ a.ctor).drop i) (a.kids.drop i) (b.kids.drop i) front=zaR (zav w n) a.ctor (zaa w ⟨ta,tk⟩ a.ctor) a.kids b.kids []->
   out.length+(zav w n (nth (zaa w ⟨ta,tk⟩ a.ctor) i) (nth a.kids i) (nth b.kids i)).length<=20000000:=fun i out front hi h=>by
  rw[zih hi (by omega) (by omega)] at h;have:=congrArg List.length h;simp only[xaa,xac] at this;omega
 refine bd Tryz.f303 100 [] [] fun w0 F0 own kept hk=>?_;refine bx 3005 ?_;refine bx 3006 ?_;refine bx 3007 ?_;refine ev ?_;refine xbh 9 sl34 .none rfl rfl ?_;refine ev ?_;refine wc zdn (zbu hs.dp.wt (zbo ht) c1) rfl rfl ?_;refine ev ?_;refine xbh 8 sl34 .none rfl rfl ?_;refine ev ?_;refine xak (ι:=Nat×List Pat×List Pat) hk (fun s=>[(12,.d (.i (s.1:Int))),(9,.gl 9 (s.2.1.map Pat.cc)),(11,.gl 8 (s.2.2.map Pat.cc))]) [8,13,14,15,16,17,25,26,27,28,29,30,31,32,33,34,35,36,37,38,39,40,41,42,43,44,45,46,47,48,49,50,51,52,53,54,55,56,57,58,59,60,61,62,63,64,65,66,67,68,69,70,71,72,73,74,75,76,77,78,79,80,81,82,83,84,85,86,87,88,89,90,91,92,93,94,95,96,97,98] (fun s=>[(9,some (.tok ((s.2.1.map Pat.cc)).length 6)),(8,some (.tok ((s.2.2.map Pat.cc)).length 6))]) (fun s=>s.1<=a.kids.length/\s.2.2.length=s.1/\s.2.1++zaR (zav w n) a.ctor ((zaa w ⟨ta,tk⟩ a.ctor).drop s.1) (a.kids.drop s.1) (b.kids.drop s.1) s.2.2=zaR (zav w n) a.ctor (zaa w ⟨ta,tk⟩ a.ctor) a.kids b.kids []) (fun s=>a.kids.length-s.1) (0,[],[]) ⟨by simp,rfl,rfl⟩ ⟨⟨_,rfl,xaq ?_⟩,⟨⟨_,rfl,LeA.glg ?_⟩,⟨⟨_,rfl,LeA.glg ?_⟩,trivial⟩⟩⟩ ⟨zab ?_,⟨zab ?_,trivial⟩⟩ (fun x=>rfl) (fun s hg1=>?_);iterate 5 focus (rfl)
 refine evc [] [] ?_;refine sq ?_ ?_<;>intro h1 h1p h1s<;>(try simp only[Q,Pat.cs_len] at h1p);refine xaU zaN .none rfl rfl rfl rfl (zaq (by omega)) rfl ?_;refine evd [] [] ?_;refine xaU sl34 .none rfl rfl rfl rfl (zar (by omega)) rfl ?_;refine evd [] [] ?_;refine xaU sl34 .none rfl rfl rfl rfl (zar (by omega)) rfl ?_;refine evd [] [] ?_;refine wc zqz (hmi s.1 (by omega)) rfl rfl ?_;refine evd [] [] ?_;refine dr ?_;refine xak (ι:=List (Pat)×List (Pat)) hk (fun x=>[(14,.d (.i (x.1.length:Int))),(9,.gl 9 ((s.2.1++x.1.map (fun z=>zbw a.ctor (s.2.2++[z]++a.kids.drop (s.1+1)))).map Pat.cc))]) [15,47,48,49,50,51,52,53,54,55,56,57,58,59,60,61,62,63,64,65,66,67,68,69,70,71,72,73,74,75,76,77] (fun x=>[(9,some (.tok (((s.2.1++x.1.map (fun z=>zbw a.ctor (s.2.2++[z]++a.kids.drop (s.1+1)))).map Pat.cc)).length 6))]) (fun x=>x.1++x.2=(zav w n (nth (zaa w ⟨ta,tk⟩ a.ctor) s.1) (nth a.kids s.1) (nth b.kids s.1))) (fun x=>x.2.length) ([],(zav w n (nth (zaa w ⟨ta,tk⟩ a.ctor) s.1) (nth a.kids s.1) (nth b.kids s.1))) (by simp) ⟨⟨_,rfl,xaq ?_⟩,⟨⟨_,rfl,LeA.glg ?_⟩,trivial⟩⟩ ⟨zab ?_,trivial⟩ (fun x=>rfl) (fun x hg2=>?_);iterate 3 focus ((simp;done))
 obtain⟨pre,rest⟩:=x;dsimp only at hg2 ⊢;refine evc [] [] ?_;refine sq ?_ ?_<;>intro h2 h2p h2s<;>(try simp only[Q,Pat.cs_len] at h2p);rcases rest with _|⟨y,rest⟩
 ·exfalso;simp_all
 refine xbh 7 sl34 .none rfl rfl ?_;refine evd [] [] ?_;refine ap sl34 zz36 rfl rfl rfl (by intro x hx;exact zhA _ x hx) (by(simp[Pat.cs_len];omega)) ?_;refine evd [] [] ?_;refine xaU sl34 .none rfl rfl rfl rfl (Pat.cs_at' hg2) rfl ?_;refine evd [] [] ?_;refine si [0] [_] sl34 tz36 ?_;refine ap sl34 zz36 rfl rfl rfl (by intro x hx;(simp at hx;subst hx;rfl)) (by(have h9:=hT s.1 s.2.1 s.2.2 (by omega) hg1.2.2;have h8:=congrArg List.length hg2;simp[Pat.cs_len] at h8 ⊢;omega)) ?_;refine bu [0,1,5] [_,_,_] st36 ?_;refine ab 3015 tz36 ?_;refine so ty36 ?_;refine dr ?_;refine ar ?_ (by(constructor<;>omega));refine xaQ (b:=s.1+1) sl34 .none rfl rfl rfl (by intro x hx;exact zcp _ x hx) rfl rfl (by simp only[Pat.cs_len];omega) ?_;refine ap sl34 zz36 rfl rfl rfl (by intro x hx;exact zcp _ x (List.mem_of_mem_drop hx)) (by(have h9:=hT s.1 s.2.1 s.2.2 (by omega) hg1.2.2;have h8:=congrArg List.length hg2;simp[Pat.cs_len] at h8 ⊢;omega)) ?_;refine evd [] [] ?_;refine so ty34 ?_;refine dr ?_;refine si [0] [_] sl34 tz36 ?_;refine ap sl34 zz36 rfl rfl rfl (by intro x hx;(simp at hx;subst hx;rfl)) (by(have h9:=hT s.1 s.2.1 s.2.2 (by omega) hg1.2.2;have h8:=congrArg List.length hg2;simp[Pat.cs_len] at h8 ⊢;omega)) ?_;refine ev ?_;refine ar ?_ (by(have h9:=hT s.1 s.2.1 s.2.2 (by omega) hg1.2.2;have h8:=congrArg List.length hg2;simp only[xaa,xab] at h8;constructor<;>omega));refine xah ((pre++[y],rest)) ⟨(by have hz:=hg2;rw[<-hz];simp),(by simp),sx ⟨⟨_,rfl,xaq ?_⟩,⟨⟨_,rfl,LeA.glg ?_⟩,trivial⟩⟩ ⟨zab ?_,trivial⟩⟩;iterate 3 focus (first|(simp;done)|(simp only[xaf,List.append_assoc,xae,List.map_nil,zvh,xat a.kids,List.map_drop,List.nil_append,xag];done)|(simp;omega))
 have hrest:rest=[]:=by
  rcases rest with _|⟨a,b⟩
  ·rfl
  ·exfalso;have hz:=congrArg List.length (hg2);simp only[xaa,xab,xac] at hz;omega
 subst hrest;refine xaU sl34 .none rfl rfl rfl rfl (zar (by omega)) rfl ?_;refine evd [] [] ?_;refine xaU sl34 .none rfl rfl rfl rfl (zar (by omega)) rfl ?_;refine evd [] [] ?_;refine wc zt2 (hme s.1 (by omega)) rfl rfl ?_;refine evd [] [] ?_;refine ab 3016 tz36 ?_;refine so ty36 ?_;refine evd [] [] ?_;refine dr ?_;refine sq ?_ ?_<;>intro h3 h3p h3s;refine rn0 (r1 rfl) (.gld ?_);rotate_left;try simp only[Q,Pat.cs_len] at h3p
 refine si [0] [_] sl34 tz36 ?_;refine ap sl34 zz36 rfl rfl rfl (by intro x hx;(simp at hx;subst hx;rfl)) (by(have h9:=hT s.1 s.2.1 s.2.2 (by omega) hg1.2.2;have h8:=congrArg List.length hg2;simp[Pat.cs_len] at h8 ⊢;omega)) ?_;refine ev ?_;refine ar ?_ (by(constructor<;>omega));refine xah ((s.1+1,s.2.1++(zav w n (nth (zaa w ⟨ta,tk⟩ a.ctor) s.1) (nth a.kids s.1) (nth b.kids s.1)).map (fun z=>zbw a.ctor (s.2.2++[z]++a.kids.drop (s.1+1))),s.2.2++[zdX 11 (nth a.kids s.1) (nth b.kids s.1)])) ⟨⟨by dsimp only;omega,by dsimp only;rw[xaa,hg1.2.1];rfl,by dsimp only;rw[List.append_assoc,<-zrk (by omega) (by omega) (by omega) (by assumption)];exact hg1.2.2⟩,(by dsimp only;omega),sx ⟨⟨_,rfl,xaq ?_⟩,⟨⟨_,rfl,LeA.glg ?_⟩,⟨⟨_,rfl,LeA.glg ?_⟩,trivial⟩⟩⟩ ⟨zab ?_,⟨zab ?_,trivial⟩⟩⟩;iterate 5 focus ((simp_all;done))
 refine rn0 (r1 rfl) (.gld ?_);rotate_left;all_goals (first|(rw[<-hg1.2.2,zno (by omega),List.append_nil,xat];done)|(rw[List.append_nil] at hg2;rw[<-hg1.2.2,zlQ (by omega) (by omega) (by omega) (by assumption),<-hg2,xat];all_goals rfl))
theorem zrH {n:Nat}{ta tk:Int}{a b:Pat} (h:b.op=1):MinusSp w (n+1) ta tk a b:=by
 unfold MinusSp;rw[zhx h];refine bd Tryz.f232 82 [] [] fun w0 F0 own kept hk=>?_;refine bx 3005 ?_;refine bx 3006 ?_;refine bx 3007 ?_;refine ev ?_;refine sq ?_ ?_<;>intro h1 h1p h1s;refine xbg sl34 .none rfl ?_;refine ev ?_;refine rq ?_;rotate_left;try simp only[Q] at h1p
 exfalso;omega;all_goals (rfl)
theorem zrI {n:Nat}{ta tk:Int}{a b:Pat} (h:b.op=3) (ha:a.op=1\/a.op=3) (hbn:0<=b.n/\b.n<=9) (hbm:0<=b.m/\b.m<=9):MinusSp w (n+1) ta tk a b:=by
 unfold MinusSp;rw[zi0 h];by_cases h1:a.op=1
 ·have e:zez a b=zb1 0 (minQ 9 (b.n-1))++zb1 (maxQ 0 (b.m+1)) 9:=by
   have e1:lowQ a=0:=if_pos h1;have e2:zcU a=9:=if_pos h1;unfold zez;rw[e1,e2]
  have hr:=zhZ (a:=intQ 0 9) hbn hbm;rw[e];refine bd Tryz.f232 82 [] [] fun w0 F0 own kept hk=>?_;refine bx 3005 ?_;refine bx 3006 ?_;refine bx 3007 ?_;refine ev ?_;refine sq ?_ ?_<;>intro h1 h1p h1s;try simp only[Q] at h1p
  exfalso;omega;refine sq ?_ ?_<;>intro h2 h2p h2s;refine sq ?_ ?_<;>intro h3 h3p h3s;refine bu [0,3] [_,_] st36 ?_;refine ev ?_;refine Walk.call (cr:=[]) zt6 (hr) rfl .none rfl rfl (.cons (.agg (.cons (.refl _) (.cons (.refl _) (.cons (.refl _) (.cons (.refl _) (.cons (.refl _) (.cons .nil .nil))))))) (.cons (.refl _) .nil)) trivial rfl rfl rfl ?_;refine ev ?_;focus (refine rq ?_;all_goals (rfl))
  focus (exfalso;first|omega|(simp_all;done))
  try simp only[Q] at h2p
  exfalso;omega
 ·have e:zez a b=zb1 a.n (minQ a.m (b.n-1))++zb1 (maxQ a.n (b.m+1)) a.m:=by
   have e1:lowQ a=a.n:=if_neg h1;have e2:zcU a=a.m:=if_neg h1;unfold zez;rw[e1,e2]
  have hr:=zhZ (a:=a) hbn hbm;rw[e];refine bd Tryz.f232 82 [] [] fun w0 F0 own kept hk=>?_;refine bx 3005 ?_;refine bx 3006 ?_;refine bx 3007 ?_;refine ev ?_;refine sq ?_ ?_<;>intro h1 h1p h1s;try simp only[Q] at h1p
  exfalso;omega;refine sq ?_ ?_<;>intro h2 h2p h2s;refine sq ?_ ?_<;>intro h3 h3p h3s;focus (exfalso;first|omega|(simp_all;done))
  refine sq ?_ ?_<;>intro h4 h4p h4s;refine wc zt6 (hr) rfl rfl ?_;refine ev ?_;focus (refine rq ?_;all_goals (rfl))
  try simp only[Q] at h4p
  exfalso;omega;try simp only[Q] at h2p
  exfalso;omega
theorem zrL {n:Nat}{ta tk:Int}{a b:Pat} (h4:a.op=4) (h4b:b.op=4) (hc:¬a.ctor=b.ctor):MinusSp w (n+1) ta tk a b:=by
 unfold MinusSp;have e:zav w (n+1) ⟨ta,tk⟩ a b=[a]:=by rw[zec h4b h4];exact if_neg hc
 rw[e];refine bd Tryz.f232 82 [] [] fun w0 F0 own kept hk=>?_;refine bx 3005 ?_;refine bx 3006 ?_;refine bx 3007 ?_;refine ev ?_;refine sq ?_ ?_<;>intro h1 h1p h1s;try simp only[Q] at h1p
 exfalso;omega;refine sq ?_ ?_<;>intro h2 h2p h2s;try simp only[Q] at h2p
 exfalso;omega;refine sqF ?_;refine sq ?_ ?_<;>intro h4 h4p h4s;try simp only[Q] at h4p
 exfalso;omega;refine sq ?_ ?_<;>intro h5 h5p h5s;refine sq ?_ ?_<;>intro h6 h6p h6s;refine si [0] [_] sl34 tz36 ?_;refine ev ?_;refine rq ?_;rotate_left;focus (exfalso;first|omega|(simp_all;done))
 try simp only[Q] at h5p
 exfalso;omega;all_goals (first|rfl|(cases a;rfl))
theorem zrK (hs:Spa w){n m:Nat} (hn:n+1<=10) (hm:m+1<=11) (hnm:n<m)
  (ih:∀ {ta tk:Int}{a b:Pat},InS (w.length*4) ⟨ta,tk⟩->zai w m ⟨ta,tk⟩ a=true->zai w n ⟨ta,tk⟩ b=true->MinusSp w n ta tk a b)
  {ta tk:Int}{a b:Pat} (ht:InS (w.length*4) ⟨ta,tk⟩) (ha:zai w (m+1) ⟨ta,tk⟩ a=true) (hb:zai w (n+1) ⟨ta,tk⟩ b=true) (h4:a.op=4) (h4b:b.op=4) (hc:a.ctor=b.ctor):MinusSp w (n+1) ta tk a b:=by
 have hki:=zoT hs hn hm hnm ih ht ha hb h4 h4b hc;clear ih;unfold MinusSp;refine bd Tryz.f232 82 [] [] fun w0 F0 own kept hk=>?_;refine bx 3005 ?_;refine bx 3006 ?_;refine bx 3007 ?_;refine ev ?_;refine sq ?_ ?_<;>intro h1 h1p h1s;try simp only[Q] at h1p
 exfalso;omega;refine sq ?_ ?_<;>intro h2 h2p h2s;try simp only[Q] at h2p
 exfalso;omega;refine sqF ?_;refine sq ?_ ?_<;>intro h4 h4p h4s;try simp only[Q] at h4p
 exfalso;omega;refine sq ?_ ?_<;>intro h5 h5p h5s;refine sq ?_ ?_<;>intro h6 h6p h6s;focus (exfalso;first|omega|(simp_all;done))
 refine sq ?_ ?_<;>intro h7 h7p h7s;refine wc zxT (hki) rfl rfl ?_;refine ev ?_;focus (refine rq ?_;all_goals (rfl))
 try simp only[Q] at h7p
 exfalso;omega;try simp only[Q] at h5p
 exfalso;omega
theorem zrJ (hs:Spa w){n:Nat}{ta tk:Int}{a b:Pat} (ht:InS (w.length*4) ⟨ta,tk⟩) (h1:a.op=1) (h4b:b.op=4) (hbd:(zav w (n+1) ⟨ta,tk⟩ a b).length<=20000000)
  (hC:∀c∈zal w ⟨ta,tk⟩,MinusSp w (n+1) ta tk (zcb w ⟨ta,tk⟩ c) b):MinusSp w (n+1) ta tk a b:=by
 have e:zav w (n+1) ⟨ta,tk⟩ a b=(zal w ⟨ta,tk⟩).flatMap fun c=>zav w (n+1) ⟨ta,tk⟩ (zcb w ⟨ta,tk⟩ c) b:=by
  rw[zhy h4b h1];exact congrArg (fun g=>(zal w ⟨ta,tk⟩).flatMap g) (funext fun c=>(zec h4b rfl).symm)
 unfold MinusSp;rw[e] at hbd ⊢;have hcl:=(hs.ctors _ ht).1;have hpre:∀ {pre rest:List Int}{y:Int},pre++y::rest=zal w ⟨ta,tk⟩->(pre.flatMap fun c=>zav w (n+1) ⟨ta,tk⟩ (zcb w ⟨ta,tk⟩ c) b).length+(zav w (n+1) ⟨ta,tk⟩ (zcb w ⟨ta,tk⟩ y) b).length<=20000000:=fun h=>by
  rw[<-h,List.flatMap_append,List.flatMap_cons] at hbd;simp only[xaa] at hbd;omega
 have hmem:∀ {pre rest:List Int}{y:Int},pre++y::rest=zal w ⟨ta,tk⟩->y∈zal w ⟨ta,tk⟩:=fun h=>by rw[<-h];simp
 refine bd Tryz.f232 82 [] [] fun w0 F0 own kept hk=>?_;refine bx 3005 ?_;refine bx 3006 ?_;refine bx 3007 ?_;refine ev ?_;refine sq ?_ ?_<;>intro h1 h1p h1s;try simp only[Q,Pat.cs_len] at h1p
 exfalso;omega;refine sq ?_ ?_<;>intro h2 h2p h2s;try simp only[Q,Pat.cs_len] at h2p
 exfalso;omega;refine sqF ?_;refine sq ?_ ?_<;>intro h4 h4p h4s;try simp only[Q,Pat.cs_len] at h4p
 exfalso;omega;refine sq ?_ ?_<;>intro h5 h5p h5s;try simp only[Q,Pat.cs_len] at h5p
 exfalso;omega;refine sqF ?_;refine sq ?_ ?_<;>intro h7 h7p h7s;try simp only[Q,Pat.cs_len] at h7p
 exfalso;omega;refine xbh 9 sl34 .none rfl rfl ?_;refine ev ?_;refine wc zep (zbZ hs.dp.wt (zbo ht)) rfl rfl ?_;refine ev ?_;refine xak (ι:=List (Int)×List (Int)) hk (fun x=>[(11,.d (.i (x.1.length:Int))),(9,.gl 9 (Pat.cs (x.1.flatMap fun c=>zav w (n+1) ⟨ta,tk⟩ (zcb w ⟨ta,tk⟩ c) b)))]) [62,63,64,65,66,67,68,69,70,71,72,73,74,75,76,77,78,79,80] (fun x=>[(9,some (.tok ((Pat.cs (x.1.flatMap fun c=>zav w (n+1) ⟨ta,tk⟩ (zcb w ⟨ta,tk⟩ c) b))).length 6))]) (fun x=>x.1++x.2=zal w ⟨ta,tk⟩) (fun x=>x.2.length) ([],zal w ⟨ta,tk⟩) (by simp) ⟨⟨_,rfl,xaq ?_⟩,⟨⟨_,rfl,LeA.glg ?_⟩,trivial⟩⟩ ⟨zab ?_,trivial⟩ (fun x=>rfl) (fun x hg1=>?_);iterate 3 focus (rfl)
 obtain⟨pre,rest⟩:=x;dsimp only at hg1 ⊢;refine evc [] [] ?_;refine sq ?_ ?_<;>intro h8 h8p h8s<;>(try simp only[Q,Pat.cs_len] at h8p);rcases rest with _|⟨y,rest⟩
 ·exfalso;simp_all
 refine xaU sl29 .none rfl rfl rfl rfl (zaG hg1) rfl ?_;refine evd [] [] ?_;refine wc zxU (zp2 hs.dp.wt (zbo ht) (hmem hg1) (hs.args _ _ ht (hmem hg1))) rfl rfl ?_;refine evd [] [] ?_;refine wc zqz (hC y (hmem hg1)) rfl rfl ?_;refine ap sl34 zz36 rfl rfl rfl (by exact zcp _) (by have h9:=hpre hg1;simp only[Pat.cs_len];omega) ?_;refine evd [] [] ?_;refine dr ?_;refine ar ?_;refine xah ((pre++[y],rest)) ⟨(by have hz:=hg1;rw[<-hz];simp),(by simp),sx ⟨⟨_,rfl,xaq ?_⟩,⟨⟨_,rfl,LeA.glg ?_⟩,trivial⟩⟩ ⟨zab ?_,trivial⟩⟩;iterate 3 focus (first|(rw[List.flatMap_append,xat,xat,xat,xaf];simp;done)|(simp[Pat.cs_len];done))
 have hrest:rest=[]:=by
  rcases rest with _|⟨a,b⟩
  ·rfl
  ·exfalso;have hz:=congrArg List.length (hg1);simp only[xaa,xab,xac] at hz;omega
 subst hrest;refine rn0 (r1 rfl) (.gld ?_);rotate_left;all_goals ((rw[List.append_nil] at hg1;rw[hg1];done))
theorem zit (hs:Spa w):∀(n m:Nat){ta tk:Int}{a b:Pat},n<m->n<=10->m<=11->InS (w.length*4) ⟨ta,tk⟩->zai w m ⟨ta,tk⟩ a=true->zai w n ⟨ta,tk⟩ b=true->MinusSp w n ta tk a b
 |0,m,ta,tk,a,b,_,_,_,_,_,hb=>by simp[zai] at hb
 |n+1,0,ta,tk,a,b,h,_,_,_,_,_=>by omega
 |n+1,m+1,ta,tk,a,b,h,hn,hm,ht,ha,hb=>by
  have hC:∀ {a:Pat},zai w (m+1) ⟨ta,tk⟩ a=true->a.op=4->b.op=4->MinusSp w (n+1) ta tk a b:=fun {a} ha h4 h4b=>by
   by_cases hc:a.ctor=b.ctor
   ·exact zrK hs hn hm (by omega) (fun h1 h2 h3=>zit hs n m (by omega) (by omega) (by omega) h1 h2 h3) ht ha hb h4 h4b hc
   ·exact zrL h4 h4b hc
  rcases zbF hb with h1|h3|h4b
  ·exact zrH h1
  ·have:=zcc hb h3;refine zrI h3 ?_ ⟨by omega,by omega⟩ ⟨by omega,by omega⟩;by_cases h1:a.op=1
   ·exact .inl h1
   ·exact .inr (by have:=zdk ha hb h1 (by omega);omega)
  ·by_cases h1:a.op=1
   ·obtain⟨m',rfl⟩:∃m',m=m'+1:=⟨m-1,by omega⟩;exact zrJ hs ht h1 h4b (zge hs h hn ht ha hb) (fun c hc=>hC (zc2 hc) rfl h4b)
   ·exact hC ha (by have:=zdk ha hb h1 (by omega);omega) h4b
end
theorem FnD.boxD {P:Program}{f:FuncId}{i n k:Nat}{args:List AV}{cs:List AV}{es:List (List D)} (hc:zbS n k (cs.take (n*k))=some es) (h:FnD P f args [] (.ms i n) [(i,some (.box cs))]):FnD P f args [] (.d (.sl es)) []:=by
 intro G w vals hok;refine(h G w vals hok).mono ?_;rintro e w' ⟨v,r',hp',G',rfl,⟨rfl,rfl⟩,hret⟩
 have gi:getH ([(i,some (Res.box cs))]++[]) i=some (.box cs):=by simp[getH]
 obtain⟨b,us,et,q1,q2,q3,q4,q5⟩:=hret.heap i _ gi;have hown:∀b,b∉zda G []:=fun b hb=>by simp[zda] at hb
 have hnew:w.heap.size<=b:=(hret.new i (by rw[gi];rfl) b (by rw[q1];simp)).resolve_left (hown b);have hlt:b<w'.heap.size:=by
  rcases Nat.lt_or_ge b w'.heap.size with h|h
  ·exact h
  ·rw[Array.getElem?_eq_none h] at q2;cases q2
 let G2:Gh:={ G' with F:=fun x=>bif Nat.beq x b then us.size else G'.F x }
 have hin:G2.F b=us.size:=by simp[G2]
 have hout:∀x,x≠b->G2.F x=G'.F x:=fun x hx=>by
  have:Nat.beq x b=false:=by
   cases h:Nat.beq x b with
   |true=>exact absurd (Nat.eq_of_beq_eq_true h) hx
   |false=>rfl
  simp[G2,this]
 have hle:∀x o,o<G'.F x->o<G2.F x:=fun x o ho=>by
  by_cases hx:x=b
  ·subst hx;rw[q4] at ho;omega
  ·rw[hout x hx];exact ho
 refine⟨v,_,_,G2,rfl,⟨rfl,rfl⟩,zwK hret.res q1 q2 q3 q5 hin (fun y o ho=>⟨hle y o ho,rfl⟩) hc,fun id x hx=>(by cases hx),fun id id' h1=>(by cases h1),fun id h1=>(by cases h1), ?_,fun x hx=>?_,fun id hi=>(by simp[zcj,getH] at hi)⟩
 ·have hf:=hret.frm;exact⟨hf.os,hf.tape,hf.output,hf.size,fun x hx hn=>⟨(hf.block x hx hn).1,by rw[hout x (by omega)];exact(hf.block x hx hn).2⟩,fun x o ho=>⟨hle x o (hf.cell x o ho).1,(hf.cell x o ho).2⟩⟩
 ·rw[hout x (by omega)];exact hret.top x hx
def pd (s:List Pat):List AV:=(s.map Pat.cc).flatten.map .d
theorem zfo (a b:List Pat):pd (a++b)=pd a++pd b:=by simp[pd]
theorem zny (x:Pat):pd [x]=[.d (.i x.op),.d (.i x.ctor),.d (.i x.n),.d (.i x.m),.d (.i x.var),.d (zag x.kids)]:=rfl
theorem zi3 (s:List Pat):(pd s).length=s.length*6:=by
 induction s with
 |nil=>rfl
 |cons x r ih=>rw[show x::r=[x]++r from rfl,zfo,xaa,ih,zny];simp;omega
theorem zrq {s:List Pat}{i:Nat} (h:i<s.length):pd s=pd (s.take i)++(pd [nth s i]++pd (s.drop (i+1))):=by
 rw[<-zfo,<-zfo];congr 1
 rw[show [nth s i]++s.drop (i+1)=nth s i::s.drop (i+1) from rfl,<-zaH h,List.take_append_drop]
theorem zi2 (s:List Pat):AV.idsL (pd s)=[]:=by
 unfold pd;induction (s.map Pat.cc).flatten with
 |nil=>rfl
 |cons x r ih=>rw[xae,AV.idsL,ih];rfl
theorem zuG {s:List Pat}{i:Nat} (h:i<s.length):cutC (pd s) (i*6) 6=some [.d (.i (nth s i).op),.d (.i (nth s i).ctor),.d (.i (nth s i).n),.d (.i (nth s i).m),.d (.i (nth s i).var),.d (zag (nth s i).kids)]:=by
 rw[zrq h,zul (by rw[zi3,List.length_take];omega) (r:=pd [nth s i])]
 ·rfl
 ·rw[zny];first|exact zwD|(simp[cutC];done)
theorem zyt {s:List Pat}{i:Nat} (h:i<s.length){t:Pat}:putC (pd s) (i*6) [.d (.i t.op),.d (.i t.ctor),.d (.i t.n),.d (.i t.m),.d (.i t.var),.d (zag t.kids)]=some (pd (s.set i t)):=by
 rw[zrq h,zuH (by rw[zi3,List.length_take];omega) (B':=pd [t]++pd (s.drop (i+1))) (by rw[zny,zny];simp[putC])];rw[List.set_eq_take_append_cons_drop,if_pos h,<-zfo,<-zfo];rfl
abbrev z6:List AV:=[.d (.i 0),.d (.i 0),.d (.i 0),.d (.i 0),.d (.i 0),.nils]
theorem zwZ {s:List Pat}{i n:Nat} (hn:s.length=n) (h:i<=n):putC (pd s) (i*6) (za7 (n-i) z6)=some (pd (s.take i)++za7 (n-i) z6):=by
 subst hn;have e:pd s=pd (s.take i)++(pd (s.drop i)++[]):=by
  rw[List.append_nil,<-zfo,List.take_append_drop]
 have e2:putC (pd (s.take i)++(pd (s.drop i)++[])) (i*6) (za7 (s.length-i) z6)=some (pd (s.take i)++(za7 (s.length-i) z6++[])):=by
  rw[zvE (by rw[zi3,List.length_take];omega) ?_];rw[zi3,List.length_drop,zeW];rfl
 rw[<-e,List.append_nil] at e2;exact e2
theorem zvD {s:List Pat}{tl:List AV}:zbS s.length 6 ((pd s++tl).take (s.length*6))=some (s.map Pat.cc):=by
 rw[List.take_append_of_le_length (by rw[zi3];exact Nat.le_refl _),List.take_of_length_le (by rw[zi3];exact Nat.le_refl _)];have:=zd9 (f:=Pat.cc) (k:=6) (l:=s) (fun _ _=>rfl);rw[<-this];congr 1
 unfold pd;induction s with
 |nil=>rfl
 |cons x r ih=>
  simp only[xae,List.flatten_cons,xaf,List.flatMap_cons];exact congrArg (_++·) (ih (zd9 (fun _ _=>rfl)))
theorem Pat.cs_ccs (l:List Pat):Pat.cs l=l.map Pat.cc:=by
 rw[Pat.cs_eq];exact List.map_congr_left (fun v _=>Pat.c_eq v)
theorem Ex.cs_ccs (l:List Ex):Ex.cs l=l.map Ex.cc:=by
 rw[Ex.cs_eq];exact List.map_congr_left (fun v _=>Ex.c_eq v)
theorem zeY {xs:List Pat}{f:Nat}{caps:List AV}{hp:Hp}{p:Pat->Bool} (hs:xs.length<=1000000000000) (hcal:Callee Tryz.prog f)
  (hf:∀t∈xs,FnD Tryz.prog f ([.agg [.d (.i t.op),.d (.i t.ctor),.d (.i t.n),.d (.i t.m),.d (.i t.var),.d (zag t.kids)]]++caps) hp (.d (.bool (p t))) []) (k1:subH hp hp) (k2:zdY hp=true) (k3:za6 hp [] (.d .nilp) []=true):
  FnD Tryz.prog 249 [.d (zag xs),.fn f caps] hp (.d (.i (idxF p xs 0))) []:=by
 rw[show zag xs=D.sl (xs.map Pat.cc) by show D.sl (Pat.cs xs)=_;rw[Pat.cs_ccs]];refine bd Tryz.f249 19 [] [] fun w0 F0 own kept hk=>?_;refine xak (ι:=List (Pat)×List (Pat)) hk (fun x=>[(8,.d (.i (x.1.length:Int)))]) [4,5,9,10,11,12,13,14,15,16,17,18] (fun x=>[]) (fun x=>x.1++x.2=xs/\idxF p x.2 x.1.length=idxF p xs 0) (fun x=>x.2.length) ([],xs) ⟨by simp,rfl⟩ ⟨⟨_,rfl,xaq ?_⟩,trivial⟩ trivial (fun x=>zg6 hp) (fun x hg1=>?_);focus (first|rfl|(simp;done)|(simp_all;done)|omega)
 obtain⟨pre,rest⟩:=x;dsimp only at hg1 ⊢;refine evc [] [] ?_;refine sq ?_ ?_<;>intro h1 h1p h1s<;>(try simp only[Q] at h1p);rcases rest with _|⟨y,rest⟩
 ·exfalso;simp_all
 refine xaU sl34 .none rfl rfl rfl rfl (zaG hg1.1) rfl ?_;refine ev ?_;refine xaJ (cr:=[]) hcal (hf y (by rw[<-hg1.1];simp)) rfl .none rfl rfl rfl (LeL.refl _) k1 k2 (zc9 k3 _) rfl ?_;refine tv ?_;refine sq ?_ ?_<;>intro h2 h2p h2s<;>(try simp only[Q] at h2p);focus (refine rn [] (r1 rfl) (.eqd ?_) ⟨rfl,rfl⟩ (fun _ _ h=>h) (fun _ h=>h);all_goals (rw[<-hg1.2];simp[idxF,h1s,h1p,h2s,h2p]))
 refine ar ?_;refine xah ((pre++[y],rest)) ⟨⟨(by have hz:=hg1.1;rw[<-hz];simp),(by rw[<-hg1.2];simp[idxF,h2s])⟩,(by simp),Sub.x (by kernel_rfl) (by kernel_rfl) ⟨⟨_,rfl,xaq ?_⟩,trivial⟩ (by simp) (by simp[zdL]) trivial⟩;focus (first|rfl|(simp;done)|(simp_all;done)|omega)
 have hrest:rest=[]:=by
  rcases rest with _|⟨a,b⟩
  ·rfl
  ·exfalso;have hz:=congrArg List.length (hg1.1);simp only[xaa,xab,xac] at hz;omega
 subst hrest;focus (refine rn [] (r1 rfl) (.eqd ?_) ⟨rfl,rfl⟩ (fun _ _ h=>h) (fun _ h=>h);all_goals (rw[<-hg1.2];simp[idxF,h1s,h1p]))
theorem zgV {xs:List Pat}{f:Nat}{caps:List AV}{hp:Hp}{p:Pat->Bool} (hs:xs.length<=1000000000000) (hcal:Callee Tryz.prog f)
  (hf:∀t∈xs,FnD Tryz.prog f ([.agg [.d (.i t.op),.d (.i t.ctor),.d (.i t.n),.d (.i t.m),.d (.i t.var),.d (zag t.kids)]]++caps) hp (.d (.bool (p t))) []) (k1:subH hp hp) (k2:zdY hp=true) (k3:za6 hp [] (.d .nilp) []=true):
  FnD Tryz.prog 153 [.d (zag xs),.fn f caps] hp (.d (.bool (xs.any p))) []:=by
 refine bd Tryz.f153 9 [] [] fun w0 F0 own kept hk=>?_;refine Walk.call (cr:=[]) zmM (zeY hs hcal hf k1 k2 k3) rfl .none rfl rfl (LeL.refl _) k1 k2 (zc9 k3 _) rfl ?_;refine ev ?_;refine rn [] (r1 rfl) (.eqd ?_) ⟨rfl,rfl⟩ (fun _ _ h=>h) (fun _ h=>h);rotate_left;all_goals (exact congrArg D.bool (ze8 p xs 0))
theorem ze3 {xs:List Pat}{f:Nat}{B2 B3:List AV}{p:Pat->Bool} (hs:xs.length<=1000000000000) (hcal:Callee Tryz.prog f) (hB2:AV.idsL B2=[]) (hB3:AV.idsL B3=[])
  (hf:∀t∈xs,FnD Tryz.prog f [.agg [.d (.i t.op),.d (.i t.ctor),.d (.i t.n),.d (.i t.m),.d (.i t.var),.d (zag t.kids)],.ref 3003 0,.ref 3004 0] [(3003,some (.box B2)),(3004,some (.box B3))] (.d (.bool (p t))) []):
  FnD Tryz.prog 249 [.ms 1 xs.length,.fn f [.ref 3003 0,.ref 3004 0]] [(1,some (.box (pd xs))),(3003,some (.box B2)),(3004,some (.box B3))] (.d (.i (idxF p xs 0))) []:=by
 refine bd Tryz.f249 19 [15] [] fun w0 F0 own kept hk=>?_;refine xak (ι:=Nat) hk (fun i=>[(8,.d (.i (i:Int)))]) [4,5,9,10,11,12,13,14,15,16,17,18] (fun i=>[]) (fun i=>i<=xs.length/\idxF p (xs.drop i) i=idxF p xs 0) (fun i=>xs.length-i) 0 ⟨by omega,rfl⟩ ⟨⟨_,rfl,xaq ?_⟩,trivial⟩ trivial (fun x=>rfl) (fun i hg1=>?_);focus (rfl)
 refine evc [15] [] ?_;refine sq ?_ ?_<;>intro h1 h1p h1s<;>(try simp only[Q] at h1p);refine xaY sl34 .none rfl rfl rfl rfl (by first|omega|(simp ;omega)) ?_;refine xa1 ty36 .none rfl rfl rfl ((zuG (by omega))) ?_;refine xaJ (cr:=[]) hcal (hf (nth xs i) (zae (by omega))) rfl .none rfl rfl rfl (LeL.refl _) ⟨rfl,rfl,trivial⟩ rfl (by simp only[za6,List.all_cons,List.all_nil,zcl,zb0,AV.idsL,AV.ids,hB2,hB3,xae,List.map_nil];rfl) rfl ?_;refine tv ?_;refine sq ?_ ?_<;>intro h2 h2p h2s<;>(try simp only[Q] at h2p);focus (refine rn [] (r1 rfl) (.eqd ?_) ⟨rfl,rfl⟩ (SubH.get ⟨rfl,⟨rfl,⟨rfl,trivial⟩⟩⟩) (fun _ h=>h);all_goals ((rw[<-hg1.2,zaH (by omega)];simp[idxF,h1s,h1p,h2s,h2p];done)))
 refine ar ?_;refine xah (i+1) ⟨⟨by omega,(by rw[<-hg1.2,zaH (l:=xs) (i:=i) (by omega)];simp_all[idxF])⟩,(by omega),sx ⟨⟨_,rfl,xaq ?_⟩,trivial⟩ trivial⟩;focus (rfl)
 focus (refine rn [] (r1 rfl) (.eqd ?_) ⟨rfl,rfl⟩ (SubH.get ⟨rfl,⟨rfl,⟨rfl,trivial⟩⟩⟩) (fun _ h=>h);all_goals ((rw[<-hg1.2,List.drop_eq_nil_of_le (by omega)];rfl)))
theorem zh3 {xs:List Pat}{f:Nat}{B2 B3:List AV}{p:Pat->Bool} (hs:xs.length<=1000000000000) (hcal:Callee Tryz.prog f) (hB2:AV.idsL B2=[]) (hB3:AV.idsL B3=[])
  (hf:∀t∈xs,FnD Tryz.prog f [.agg [.d (.i t.op),.d (.i t.ctor),.d (.i t.n),.d (.i t.m),.d (.i t.var),.d (zag t.kids)],.ref 3003 0,.ref 3004 0] [(3003,some (.box B2)),(3004,some (.box B3))] (.d (.bool (p t))) []):
  ∃tl:List AV,AV.idsL tl=[]/\FnD Tryz.prog 241 [.ms 1 xs.length,.fn f [.ref 3003 0,.ref 3004 0]] [(1,some (.box (pd xs))),(3003,some (.box B2)),(3004,some (.box B3))]
   (.ms 1 (xs.filter fun t=> !p t).length) [(1,some (.box (pd (xs.filter fun t=> !p t)++tl)))]:=by
 have hok3:za6 [(1,some (.box (pd xs))),(3003,some (.box B2)),(3004,some (.box B3))] [] (.d .nilp) []=true:=by
  simp only[za6,List.all_cons,List.all_nil,zcl,zb0,AV.idsL,AV.ids,zi2,hB2,hB3,xae,List.map_nil];rfl
 rcases zph p xs 0 with ⟨hi,hall⟩|⟨k,hi,hk1,hk2⟩
 ·have hfil:(xs.filter fun t=> !p t)=xs:=List.filter_eq_self.2 (fun x hx=>by simp[hall x hx]);refine⟨[],rfl, ?_⟩;rw[hfil,List.append_nil];refine bd Tryz.f241 42 [] [] fun w0 F0 own kept hk=>?_;refine Walk.call (cr:=[]) zmM (ze3 hs hcal hB2 hB3 hf) rfl .none rfl rfl (.cons (xas (by first|rfl|(simp;done))) (.cons (.refl _) .nil)) ⟨rfl,rfl,rfl,trivial⟩ rfl (zc9 hok3 _) rfl ?_;refine ev ?_;refine sq ?_ ?_<;>intro h1 h1p h1s<;>(try simp only[Q] at h1p);refine rn [(1,some (.box (pd xs)))] (r1 rfl) (.refl _) ⟨rfl,rfl⟩ (SubO.get ⟨.inr ?_,⟨.inl rfl,⟨.inr rfl,⟨.inr rfl,trivial⟩⟩⟩⟩) (zay rfl);rotate_left;exfalso;simp[hi] at h1;all_goals (((first|rfl|(simp;done));done))
 ·skip
  have hlen:(xs.filter fun t=> !p t).length<=xs.length:=List.length_filter_le _ _;refine⟨za7 (xs.length-(xs.filter fun t=> !p t).length) z6,zjV rfl, ?_⟩;refine bd Tryz.f241 42 [25] [] fun w0 F0 own kept hk=>?_;refine Walk.call (cr:=[]) zmM (ze3 hs hcal hB2 hB3 hf) rfl .none rfl rfl (.cons (xas (by first|rfl|(simp;done))) (.cons (.refl _) .nil)) ⟨rfl,rfl,rfl,trivial⟩ rfl (zc9 hok3 _) rfl ?_;refine evs [25] [] ?_;refine sq ?_ ?_<;>intro h1 h1p h1s<;>(try simp only[Q] at h1p);exfalso;simp[hi] at h1<;>omega;refine ar ?_;refine xak (ι:=List Pat×Nat×Nat) hk (fun x=>[(6,.d (.i (x.2.1:Int))),(5,.d (.i (x.2.2:Int)))]) [7,16,17,18,19,20,21,22,23,24,25,26,27,28,29,30,31,32,33,34,35] (fun x=>[(1,some (.box (pd x.1)))]) (fun x=>x.1.length=xs.length/\x.2.1<=xs.length/\x.2.2<=x.2.1/\x.1.take x.2.2=(xs.take x.2.1).filter (fun t=> !p t)/\x.1.drop x.2.1=xs.drop x.2.1) (fun x=>xs.length-x.2.1) (xs,k+1,k) ⟨rfl,by dsimp only;omega,by dsimp only;omega,hk2.symm,rfl⟩ ⟨⟨_,rfl,xaq ?_⟩,⟨⟨_,rfl,xaq ?_⟩,trivial⟩⟩ ⟨?_,trivial⟩ (fun x=>rfl) (fun x hg1=>?_);iterate 2 focus ((simp_all;done))
  focus (rfl)
  refine evc [25] [] ?_;refine sq ?_ ?_<;>intro h2 h2p h2s<;>(try simp only[Q] at h2p);refine xaY sl34 .none rfl rfl rfl rfl (by first|omega|(simp ;omega)) ?_;refine xa1 ty36 .none rfl rfl rfl (((zuG (s:=x.1) (by omega)).trans (by rw[zsa hg1.2.2.2.2 hg1.1 (by omega)]))) ?_;refine Walk.alloc (id:=3007) tz36 rfl .none rfl (by(simp only[zaz,occH,occE,Res.ids,xag,List.nil_append,AV.idsL,AV.ids,zaj,zak,zas,zaO,xae,List.map_nil,upC,hB2,hB3,zi2];rfl)) (by(simp only[zaz,occH,occE,Res.ids,xag,List.nil_append,AV.idsL,AV.ids,zaj,zak,zas,zaO,xae,List.map_nil,upC,hB2,hB3,zi2];rfl)) (by(simp only[zaz,occH,occE,Res.ids,xag,List.nil_append,AV.idsL,AV.ids,zaj,zak,zas,zaO,xae,List.map_nil,upC,hB2,hB3,zi2];rfl)) ?_;refine so ty36 ?_;refine tv ?_;refine xaJ (cr:=[]) hcal (hf (nth xs x.2.1) (zae (by omega))) rfl .none rfl rfl rfl (LeL.refl _) ⟨rfl,rfl,trivial⟩ rfl (by simp only[za6,List.all_cons,List.all_nil,zcl,zb0,AV.idsL,AV.ids,hB2,hB3,xae,List.map_nil];rfl) rfl ?_;refine evs [25] [] ?_;refine sq ?_ ?_<;>intro h3 h3p h3s<;>(try simp only[Q] at h3p);refine xaY sl34 .none rfl rfl rfl rfl (by first|omega|(simp ;omega)) ?_;refine Walk.store ty36 .none rfl rfl rfl rfl rfl rfl (by simp) ((zyt (by omega))) ?_;refine tv ?_;refine ar ?_;refine ar ?_;refine xah ((if p (nth xs x.2.1) then x.1 else x.1.set x.2.2 (nth xs x.2.1),x.2.1+1,if p (nth xs x.2.1) then x.2.2 else x.2.2+1)) ⟨(by
      obtain⟨g1,g2,g3,g4,g5⟩:=hg1;have hlt:x.2.1<xs.length:=by omega
      have h7:=zhG (p:=fun t=> !p t) hlt;refine⟨by dsimp only;split<;>simp[g1],by dsimp only;omega,by dsimp only;split<;>omega, ?_, ?_⟩
      ·dsimp only;rw[h7,<-g4];cases hp:p (nth xs x.2.1) with
       |true=>simp
       |false=>simp only[Bool.false_eq_true,if_false,Bool.not_false,if_true];rw[zj6 (by omega)]
      ·dsimp only;split
       ·exact zia g5
       ·(rw[zpT g3];exact zia g5)),(by dsimp only;omega),sx ⟨⟨_,rfl,xaq ?_⟩,⟨⟨_,rfl,xaq ?_⟩,trivial⟩⟩ ⟨?_,trivial⟩⟩
  iterate 2 focus ((simp_all;done))
  focus ((show some (Res.box _)=some (Res.box _);dsimp only;split<;>first|rfl|(exfalso;simp_all;done)))
  refine ar ?_;refine xah ((if p (nth xs x.2.1) then x.1 else x.1.set x.2.2 (nth xs x.2.1),x.2.1+1,if p (nth xs x.2.1) then x.2.2 else x.2.2+1)) ⟨(by
      obtain⟨g1,g2,g3,g4,g5⟩:=hg1;have hlt:x.2.1<xs.length:=by omega
      have h7:=zhG (p:=fun t=> !p t) hlt;refine⟨by dsimp only;split<;>simp[g1],by dsimp only;omega,by dsimp only;split<;>omega, ?_, ?_⟩
      ·dsimp only;rw[h7,<-g4];cases hp:p (nth xs x.2.1) with
       |true=>simp
       |false=>simp only[Bool.false_eq_true,if_false,Bool.not_false,if_true];rw[zj6 (by omega)]
      ·dsimp only;split
       ·exact zia g5
       ·exact zia g5),(by dsimp only;omega),sx ⟨⟨_,rfl,xaq ?_⟩,⟨⟨_,rfl,xaq ?_⟩,trivial⟩⟩ ⟨?_,trivial⟩⟩
  iterate 2 focus ((simp_all;done))
  focus ((show some (Res.box _)=some (Res.box _);dsimp only;split<;>first|rfl|(exfalso;simp_all;done)))
  refine Walk.cutM_l sl34 .none rfl rfl rfl rfl (by omega) ?_;refine Walk.clearB sl34 tz36 rfl (by decide) rfl .none rfl rfl (zwZ hg1.1 (by omega)) ?_;refine tv ?_;refine Walk.cutM_h sl34 .none rfl rfl rfl rfl (by omega) ?_;refine evs [25] [] ?_;refine rn [(1,some (.box (pd (xs.filter fun t=> !p t)++za7 (xs.length-(xs.filter fun t=> !p t).length) z6)))] (r1 rfl) (xas ?_) ⟨rfl,rfl⟩ (SubO.get ⟨.inr ?_,⟨.inl rfl,⟨.inr rfl,⟨.inr rfl,trivial⟩⟩⟩⟩) (zay rfl);rotate_left 2;all_goals (first|((first|rfl|(obtain⟨g1,g2,g3,g4,g5⟩:=hg1;have e:x.2.1=xs.length:=(by omega);rw[e,List.take_length] at g4;rw[<-g4,List.length_take];omega));done)|((obtain⟨g1,g2,g3,g4,g5⟩:=hg1;have e:x.2.1=xs.length:=(by omega);rw[e,List.take_length] at g4;have e2:(xs.filter fun t=> !p t).length=x.2.2:=(by rw[<-g4,List.length_take];omega);rw[e2,<-g4];rfl)))
theorem zhl {f:Nat}{caps:List AV}{hp:Hp} (hcal:Callee Tryz.prog f) (k1:subH hp hp) (k2:zdY hp=true) (k3:za6 hp [] (.d .nilp) []=true):
  FnD Tryz.prog 241 [.d (.sl []),.fn f caps] hp (.d (.sl [])) []:=by
 have hz:=zeY (xs:=[]) (p:=fun _=>false) (f:=f) (caps:=caps) (hp:=hp) (by simp) hcal (fun t ht=>by simp at ht) k1 k2 k3;refine bd Tryz.f241 42 [] [] fun w0 F0 own kept hk=>?_;refine Walk.call (cr:=[]) zmM (hz) rfl .none rfl rfl (LeL.refl _) k1 k2 (zc9 k3 _) rfl ?_;refine ev ?_;refine sq ?_ ?_<;>intro h1 h1p h1s<;>(try simp only[Q] at h1p);focus (refine rn [] (r1 rfl) (.eqd ?_) ⟨rfl,rfl⟩ (fun _ _ h=>h) (fun _ h=>h);all_goals (rfl))
 exfalso;simp[idxF] at h1
theorem zk1 {xs:List Pat} (hs:xs.length<=1000000000000) (hne:xs≠[]):FnD Tryz.prog 242 [.d (zag xs)] [] (.ms 1 xs.length) [(1,some (.box (pd xs)))]:=by
 have hcs:Pat.cs xs≠[]:=fun h=>hne ((Pat.cs_nil xs).1 h);refine Fn.body (fn:=Tryz.f242) (n:=8) rfl rfl rfl rfl rfl (fun w0 F0 own kept hk=>?_);refine xam 0 rfl (fun hx0=>?_) ?_;refine evc [4] [] ?_;refine xaS sl34 .none rfl rfl ?_;refine tv ?_;refine sqT ?_;exfalso;exact hcs hx0;refine evc [4] [] ?_;refine xaR sl34 .none rfl rfl ?_;refine tv ?_;refine sqF ?_;refine xbi 1 sl34 .none rfl rfl ?_;refine evs [4] [] ?_;refine xaC hk rfl (by simp[hcs]) sl34 zz36 .none rfl rfl rfl rfl (zdq rfl (by rfl)) (by intro y hy;rw[xat] at hy;obtain⟨z,_,rfl⟩:=List.mem_map.1 hy;rfl) (by simp[Pat.cs_len];omega) (by simp[Pat.cs_len];omega) ?_;refine evs [4] [] ?_;refine rn [(1,some (.box (pd xs)))] (r1 rfl) (xas ?_) ⟨rfl,rfl⟩ (SubH.get ⟨?_,trivial⟩) (zay rfl);rotate_left 2;all_goals (first|((first|rfl|(simp[Pat.cs_len];done));done)|(first|rfl|(show some (Res.box _)=some (Res.box _);unfold pd;rw[<-xat];rfl)))
theorem zma {w:List Data} (hs:Spa w){ta tk:Int} (ht:InS (w.length*4) ⟨ta,tk⟩){p:Pat} (hp:zai w 11 ⟨ta,tk⟩ p=true):
  FnD Tryz.prog 243 [.agg [.d (.i p.op),.d (.i p.ctor),.d (.i p.n),.d (.i p.m),.d (.i p.var),.d (zag p.kids)],.ref 3003 0,.ref 3004 0] [(3003,some (.box [.d (sPtr w (zaf w))])),(3004,some (.box [.d (.i ta),.d (.i tk)]))] (.d (.bool (zau w (zaf w) 11 ⟨ta,tk⟩ p))) []:=by
 refine bd Tryz.f243 9 [] [] fun w0 F0 own kept hk=>?_;refine bx 3001 ?_;refine ev ?_;refine wc zfz (zbW hs.dp 11 (zhf _ hp) ht (zgg hs 11 ht hp).1) rfl rfl ?_;refine ev ?_;focus (refine rn [] (r1 rfl) (.eqd ?_) ⟨rfl,rfl⟩ (SubH.get ⟨rfl,⟨rfl,trivial⟩⟩) (fun _ h=>h);all_goals (rfl))
theorem ziY {w:List Data} (hs:Spa w){ta tk:Int} (ht:InS (w.length*4) ⟨ta,tk⟩){l:List Pat} (hl:∀a∈l,zai w 11 ⟨ta,tk⟩ a=true) (hb:l.length<=1000000000000):
  FnD Tryz.prog 151 [.d (sPtr w (zaf w)),.agg [.d (.i ta),.d (.i tk)],.d (zag l)] [] (.d (zag (l.filter (zbC w ⟨ta,tk⟩)))) []:=by
 by_cases hne:l=[]
 ·subst hne;have hcl:FnD Tryz.prog 242 [.d (.sl [])] [] (.d (.sl [])) []:=(zf1 (xs:=[]) (by simp)).glD;refine bd Tryz.f151 11 [] [] fun w0 F0 own kept hk=>?_;refine bx 3003 ?_;refine bx 3004 ?_;refine ev ?_;refine wc zqB (hcl) rfl rfl ?_;refine xaL (xs:=[_,_]) rfl .none rfl rfl ?_;refine Walk.call (cr:=[]) ztZ (zhl (hp:=[(3003,some (.box [.d (sPtr w (zaf w))])),(3004,some (.box [.d (.i ta),.d (.i tk)]))]) zt0 ⟨rfl,rfl,trivial⟩ rfl rfl) rfl .none rfl rfl (LeL.refl _) ⟨rfl,rfl,trivial⟩ rfl rfl rfl ?_;refine ev ?_;focus (refine rq ?_;all_goals (rfl))
 ·obtain⟨tl,htl,hdel⟩:=zh3 (xs:=l) (p:=fun a=>zau w (zaf w) 11 ⟨ta,tk⟩ a) hb zt0 (B2:=[.d (sPtr w (zaf w))]) (B3:=[.d (.i ta),.d (.i tk)]) rfl rfl (fun a ha=>zma hs ht (hl a ha));have key:FnD Tryz.prog 151 [.d (sPtr w (zaf w)),.agg [.d (.i ta),.d (.i tk)],.d (zag l)] [] (.ms 1 (l.filter (zbC w ⟨ta,tk⟩)).length) [(1,some (.box (pd (l.filter (zbC w ⟨ta,tk⟩))++tl)))]:=by
   refine bd Tryz.f151 11 [] [] fun w0 F0 own kept hk=>?_;refine bx 3003 ?_;refine bx 3004 ?_;refine ev ?_;refine Walk.call (cr:=[1]) zqB (zk1 hb hne) rfl .none rfl rfl (LeL.refl _) trivial rfl (by simp only[za6,List.all_cons,List.all_nil,zcl,zb0,AV.idsL,AV.ids,zi2,zaj,htl,xae,List.map_nil];rfl) rfl ?_;refine xaL (xs:=[_,_]) rfl .none rfl rfl ?_;refine Walk.call (cr:=[]) ztZ (hdel) rfl .none rfl rfl (.cons (xas (by first|rfl|(simp;done))) (.cons (.refl _) .nil)) ⟨rfl,rfl,rfl,trivial⟩ rfl (by simp only[za6,List.all_cons,List.all_nil,zcl,zb0,AV.idsL,AV.ids,zi2,zaj,htl,xae,List.map_nil];rfl) rfl ?_;refine ev ?_;refine rn [(1,some (.box (pd (l.filter (zbC w ⟨ta,tk⟩))++tl)))] (r1 rfl) (xas ?_) ⟨rfl,rfl⟩ (SubH.get ⟨?_,trivial⟩) (zay rfl);rotate_left 2;all_goals (first|((rfl);done)|(rfl))
  have h2:=key.boxD (k:=6) zvD;rw[<-xat] at h2;exact h2
theorem zoo {α β:Type}{g:α->List β}{K:Nat}:∀(l:List α),(∀x∈l,(g x).length<=K)->(l.flatMap g).length<=l.length*K
 | [],_=>by simp
 |x::r,h=>by
  have h1:=h x (by simp);have h2:=zoo r (fun y hy=>h y (by simp[hy]));rw[List.flatMap_cons,xaa,xab,Nat.add_mul];omega
theorem zgK {w:List Data}{t:Ty}{l away:List Pat}{i:Nat} (h:i<away.length):subL w t l (away.drop i)=if (zb5 w t l (nth away i)).length<=400 then subL w t (zb5 w t l (nth away i)) (away.drop (i+1)) else none:=by
 rw[zaH h,subL]
theorem zrM {w:List Data}{t:Ty}{l away:List Pat}{i:Nat} (h:away.length<=i):subL w t l (away.drop i)=some l:=by
 rw[List.drop_eq_nil_of_le h,subL]
def zbj:List Cl->List Pat->Option (List Pat)
 | [],out=>some out
 |c::r,out=>if c.g.op=0 then (if zcM c.pat=true then zbj r (out++zdb c.pat) else none) else zbj r out
theorem zgr {l:List Cl}{out:List Pat}{i:Nat} (h:i<l.length) (hg:¬(nth l i).g.op=0):zbj (l.drop i) out=zbj (l.drop (i+1)) out:=by
 rw[zaH h,zbj,if_neg hg]
theorem zgq {l:List Cl}{out:List Pat}{i:Nat} (h:i<l.length) (hg:(nth l i).g.op=0) (hp:zcM (nth l i).pat=true):zbj (l.drop i) out=zbj (l.drop (i+1)) (out++zdb (nth l i).pat):=by
 rw[zaH h,zbj,if_pos hg,if_pos hp]
theorem zmW {l:List Cl}{out:List Pat}{i:Nat} (h:i<l.length) (hg:(nth l i).g.op=0) (hp:zcM (nth l i).pat=false):zbj (l.drop i) out=none:=by
 rw[zaH h,zbj,if_pos hg,if_neg (by rw[hp];simp)]
theorem zmX {l:List Cl}{out:List Pat}{i:Nat} (h:l.length<=i):zbj (l.drop i) out=some out:=by
 rw[List.drop_eq_nil_of_le h,zbj]
theorem zhg (p:Pat):(zdb p).length<=40:=by unfold zdb;split;assumption;simp
theorem zsc {w:List Data}{t:Ty}{p:Pat} (h:zan w 10 t p=true):∀x∈zdb p,zai w 10 t x=true:=fun x hx=>by
 unfold zdb at hx;split at hx
 ·exact zhR 10 h x hx
 ·simp at hx
theorem zeb {w:List Data}{t:Ty}:∀(l:List Cl) (out r:List Pat),(∀c∈l,zan w 10 t c.pat=true)->(∀x∈out,zai w 10 t x=true)->zbj l out=some r->r.length<=out.length+40*l.length/\∀x∈r,zai w 10 t x=true
 | [],out,r,_,ho,h=>by rw[zbj] at h;cases h;exact⟨by simp,ho⟩
 |c::l,out,r,hc,ho,h=>by
  rw[zbj] at h;split at h
  ·split at h
   ·have:=zeb l _ r (fun x hx=>hc x (by simp[hx])) (fun x hx=>by
     rcases List.mem_append.1 hx with hx|hx
     ·exact ho x hx
     ·exact zsc (hc c (by simp)) x hx) h
    have hl:=zhg c.pat;rw[xaa] at this;exact⟨by rw[xab];omega,this.2⟩
   ·cases h
  ·have:=zeb l _ r (fun x hx=>hc x (by simp[hx])) ho h;exact⟨by rw[xab];omega,this.2⟩
def zeh (w:List Data) (t:Ty) (l:List Cl):Option (List Pat):=match zbj l [] with
 |none=>none
 |some away=>match zaJ w t [anyQ] away with
  |none=>none
  |some r=>if r.all (isP w t)=true then some r else none
def zbG (w:List Data) (t:Ty) (l:List Cl):Option (List Pat):=if zbn w t l=true then zeh w t l else none
theorem zd8 {w:List Data}{t:Ty}:∀(away l r:List Pat),(∀a∈l,zai w 11 t a=true)->l.length<=400->(∀b∈away,zai w 10 t b=true)->subL w t l away=some r->r.length<=400/\∀x∈r,zai w 11 t x=true
 | [],l,r,hl,hn,_,h=>by rw[subL] at h;cases h;exact⟨hn,hl⟩
 |b::away,l,r,hl,hn,hb,h=>by
  rw[subL] at h;split at h
  ·rename_i h4;exact zd8 away _ r (zfM hl (hb b (by simp))) h4 (fun x hx=>hb x (by simp[hx])) h
  ·cases h
theorem zne {w:List Data} (hs:Spa w){ta tk:Int} (ht:InS (w.length*4) ⟨ta,tk⟩){l away:List Pat} (hl:∀a∈l,zai w 11 ⟨ta,tk⟩ a=true) (hb:∀b∈away,zai w 10 ⟨ta,tk⟩ b=true) (hll:l.length<=400) (hal:away.length<=2000):
  FnD Tryz.prog 75 [.d (sPtr w (zaf w)),.agg [.d (.i ta),.d (.i tk)],.d (zag l),.d (zag away)] [] (.tup [.d (zag ((zaJ w ⟨ta,tk⟩ l away).getD [])),.d (.bool (zaJ w ⟨ta,tk⟩ l away).isSome)]) []:=by
 have hlf:(l.filter (zbC w ⟨ta,tk⟩)).length<=l.length:=List.length_filter_le _ _;have hmb:∀(c:List Pat) (i:Nat),(∀a∈c,zai w 11 ⟨ta,tk⟩ a=true)->i<away.length->∀x∈c,(zav w 10 ⟨ta,tk⟩ x (nth away i)).length<=20000000:=fun c i hc hi x hx=>zge hs (by omega) (by omega) ht (hc x hx) (hb _ (zae hi));have hnp:∀(c:List Pat) (i:Nat),(∀a∈c,zai w 11 ⟨ta,tk⟩ a=true)->i<away.length->∀x∈(c.flatMap fun a=>zav w 10 ⟨ta,tk⟩ a (nth away i)),zai w 11 ⟨ta,tk⟩ x=true:=fun c i hc hi x hx=>by
  obtain⟨a,ha,hx⟩:=List.mem_flatMap.1 hx;exact zfL 10 11 (by omega) (hc a ha) (hb _ (zae hi)) x hx
 have hpre:∀ {pre rest c:List Pat}{y:Pat} (i:Nat),(∀a∈c,zai w 11 ⟨ta,tk⟩ a=true)->c.length<=400->i<away.length->pre++y::rest=c->(pre.flatMap fun a=>zav w 10 ⟨ta,tk⟩ a (nth away i)).length<=8000000000/\(zav w 10 ⟨ta,tk⟩ y (nth away i)).length<=20000000:=fun {pre rest c y} i hc h4 hi h=>by
  have h1:=zoo (g:=fun a=>zav w 10 ⟨ta,tk⟩ a (nth away i)) (K:=20000000) pre (fun x hx=>hmb c i hc hi x (by rw[<-h];simp[hx]));have h2:=hmb c i hc hi y (by rw[<-h];simp);have h3:=congrArg List.length h;simp only[xaa,xab] at h3;exact⟨by omega,h2⟩
 refine bd Tryz.f75 48 [12] [11] fun w0 F0 own kept hk=>?_;refine bx 3005 ?_;refine evs [12] [] ?_;refine wc ztL (ziY hs ht hl (by omega)) rfl rfl ?_;refine evs [12] [] ?_;refine xak (ι:=Nat×List Pat) hk (fun s=>[(21,.d (.i (s.1:Int))),(2,.d (zag s.2))]) [8,9,11,12,14,22,23,24,25,26,27,28,29,30,31,32,33,34,35,36,37,38,39,40,41,42,43,44,45,46] (fun s=>[]) (fun s=>s.1<=away.length/\subL w ⟨ta,tk⟩ s.2 (away.drop s.1)=zaJ w ⟨ta,tk⟩ l away/\(∀a∈s.2,zai w 11 ⟨ta,tk⟩ a=true)/\s.2.length<=400) (fun s=>away.length-s.1) (0,l.filter (zbC w ⟨ta,tk⟩)) ⟨by simp,rfl,fun a ha=>hl a (List.mem_filter.1 ha).1,by dsimp only;omega⟩ ⟨⟨_,rfl,xaq ?_⟩,⟨⟨_,rfl, ?_⟩,trivial⟩⟩ trivial (fun x=>rfl) (fun s hg1=>?_);focus (rfl)
 focus (exact LeA.refl _)
 refine evc [12] [11] ?_;refine sq ?_ ?_<;>intro h1 h1p h1s<;>(try simp only[Q,Pat.cs_len] at h1p);refine xaU sl34 .none rfl rfl rfl rfl (zar (by omega)) rfl ?_;refine evs [12] [] ?_;refine ab 3011 tz36 ?_;refine so ty36 ?_;refine tv ?_;refine xaE 9 6 .none rfl rfl ?_;refine tv ?_;refine xak (ι:=List (Pat)×List (Pat)) hk (fun x=>[(27,.d (.i (x.1.length:Int))),(12,.gl 9 (Pat.cs (x.1.flatMap fun a=>zav w 10 ⟨ta,tk⟩ a (nth away s.1))))]) [14,28,29,30,31,32,33,34,35,36,37,38] (fun x=>[(9,some (.tok ((Pat.cs (x.1.flatMap fun a=>zav w 10 ⟨ta,tk⟩ a (nth away s.1)))).length 6))]) (fun x=>x.1++x.2=s.2) (fun x=>x.2.length) ([],s.2) (by simp) ⟨⟨_,rfl,xaq ?_⟩,⟨⟨_,rfl,LeA.glg ?_⟩,trivial⟩⟩ ⟨zab ?_,trivial⟩ (fun x=>rfl) (fun x hg2=>?_);iterate 3 focus (rfl)
 obtain⟨pre,rest⟩:=x;dsimp only at hg2 ⊢;refine evc [12] [11] ?_;refine sq ?_ ?_<;>intro h2 h2p h2s<;>(try simp only[Q,Pat.cs_len] at h2p);rcases rest with _|⟨y,rest⟩
 ·exfalso;simp_all
 refine xaU sl34 .none rfl rfl rfl rfl (Pat.cs_at' hg2) rfl ?_;refine evs [12] [] ?_;refine ab 3014 tz36 ?_;refine so ty36 ?_;refine tv ?_;refine wc zqu (zj0 hs 10 11 (by omega) (by omega) (by omega) ht (hg1.2.2.1 y (by rw[<-hg2];simp)) (hb _ (zae (by omega)))) rfl rfl ?_;refine ap sl34 zz36 rfl rfl rfl (by exact zcp _) (by have h9:=hpre s.1 hg1.2.2.1 hg1.2.2.2 (by omega) hg2;simp only[Pat.cs_len];omega) ?_;refine asg ?_;refine tv ?_;refine ar ?_;refine xah ((pre++[y],rest)) ⟨(by have hz:=hg2;rw[<-hz];simp),(by simp),sx ⟨⟨_,rfl,xaq ?_⟩,⟨⟨_,rfl,LeA.glg ?_⟩,trivial⟩⟩ ⟨zab ?_,trivial⟩⟩;iterate 3 focus (first|(rw[List.flatMap_append,xat,xat,xat,xaf];simp;done)|(simp[Pat.cs_len];done))
 have hrest:rest=[]:=by
  rcases rest with _|⟨a,b⟩
  ·rfl
  ·exfalso;have hz:=congrArg List.length (hg2);simp only[xaa,xab,xac] at hz;omega
 subst hrest;obtain rfl:pre=s.2:=(by simpa using hg2);refine evc [12] [] ?_;refine Walk.call (cr:=[]) ztL (ziY hs ht (l:=s.2.flatMap fun a=>zav w 10 ⟨ta,tk⟩ a (nth away s.1)) (hnp s.2 s.1 hg1.2.2.1 (by omega)) (by have:=zoo (g:=fun a=>zav w 10 ⟨ta,tk⟩ a (nth away s.1)) (K:=20000000) s.2 (hmb s.2 s.1 hg1.2.2.1 (by omega));omega)) rfl .none rfl rfl (.cons (.refl _) (.cons (.refl _) (.cons (.gl _ _) .nil))) trivial rfl rfl rfl ?_;refine evs [12] [] ?_;refine sq ?_ ?_<;>intro h3 h3p h3s<;>(try simp only[Q,Pat.cs_len] at h3p);refine rn0 (r2 rfl rfl) (.tup (.cons (.nild ?_) (.cons (.eqd ?_) .nil)));rotate_left 2;refine ar ?_;refine xah ((s.1+1,zb5 w ⟨ta,tk⟩ s.2 (nth away s.1))) ⟨(by
    have h4:(zb5 w ⟨ta,tk⟩ s.2 (nth away s.1)).length<=400:=by unfold zb5;omega
    refine⟨by dsimp only;omega, ?_,zfM hg1.2.2.1 (hb _ (zae (by omega))),h4⟩;have e:=zgK (w:=w) (t:=⟨ta,tk⟩) (l:=s.2) (away:=away) (i:=s.1) (by omega);rw[if_pos h4] at e;dsimp only;rw[<-e];exact hg1.2.1),(by dsimp only;omega),sx ⟨⟨_,rfl,xaq ?_⟩,⟨⟨_,rfl, ?_⟩,trivial⟩⟩ trivial⟩
 focus (rfl)
 focus (exact LeA.refl _)
 refine rn0 (r2 rfl rfl) (.tup (.cons (.eqd ?_) (.cons (.eqd ?_) .nil)));rotate_left 2;all_goals (first|(rw[<-hg1.2.1,zgK (by omega),if_neg (by unfold zb5;omega)];rfl)|(rw[<-hg1.2.1,zrM (by omega)];rfl))
theorem zl7 {w:List Data}{t:Ty}{l:List Cl} (hl:l.length<=8) (hc:∀c∈l,zan w 10 t c.pat=true/\c.pat.ok):
  FnD Tryz.prog 125 [.d (zbI l)] [] (.tup [.d (zag ((zbj l []).getD [])),.d (.bool (zbj l []).isSome)]) []:=by
 have hpl:=fun(i:Nat)=>zhg (nth l i).pat;refine bd Tryz.f125 32 [4] [] fun w0 F0 own kept hk=>?_;refine xaE 9 6 .none rfl rfl ?_;refine tv ?_;refine xak (ι:=Nat×List Pat) hk (fun s=>[(11,.d (.i (s.1:Int))),(4,.gl 9 (Pat.cs s.2))]) [2,3,6,7,8,12,13,14,15,16,17,18,19,20,21,22,23,24,25,26,27,28,29,30] (fun s=>[(9,some (.tok ((Pat.cs s.2)).length 6))]) (fun s=>s.1<=l.length/\zbj (l.drop s.1) s.2=zbj l []/\s.2.length<=40*s.1) (fun s=>l.length-s.1) (0,[]) ⟨by simp,rfl,by simp⟩ ⟨⟨_,rfl,xaq ?_⟩,⟨⟨_,rfl,LeA.glg ?_⟩,trivial⟩⟩ ⟨zab ?_,trivial⟩ (fun x=>rfl) (fun s hg1=>?_);iterate 3 focus (rfl)
 refine evc [4] [] ?_;refine sq ?_ ?_<;>intro h1 h1p h1s<;>(try simp only[Q,Pat.cs_len] at h1p);refine xaU sl26 .none rfl rfl rfl rfl (zaq (by omega)) rfl ?_;refine evs [4] [] ?_;refine ab 3006 tz40 ?_;refine so ty40 ?_;refine tv ?_;refine sq ?_ ?_<;>intro h2 h2p h2s<;>(try simp only[Q,Pat.cs_len] at h2p);refine ar ?_;refine xah ((s.1+1,if (nth l s.1).g.op=0 then s.2++zdb (nth l s.1).pat else s.2)) ⟨(by
    have h9:=hpl s.1;by_cases hz:(nth l s.1).g.op=0
    ·refine⟨by dsimp only;omega, ?_, ?_⟩
     ·dsimp only;rw[if_pos hz,<-zgq (out:=s.2) (by omega) hz (by simp_all)];exact hg1.2.1
     ·dsimp only;rw[if_pos hz,xaa];omega
    ·refine⟨by dsimp only;omega, ?_, ?_⟩
     ·dsimp only;rw[if_neg hz,<-zgr (out:=s.2) (by omega) hz];exact hg1.2.1
     ·dsimp only;rw[if_neg hz];omega),(by dsimp only;omega),sx ⟨⟨_,rfl,xaq ?_⟩,⟨⟨_,rfl,LeA.glg ?_⟩,trivial⟩⟩ ⟨zab ?_,trivial⟩⟩
 iterate 3 focus (first|rfl|(rw[if_neg (by assumption)];done))
 refine wc zxh (zpW (hc _ (zae (i:=s.1) (by omega))).1 (hc _ (zae (by omega))).2) rfl rfl ?_;refine evs [4] [] ?_;refine sq ?_ ?_<;>intro h3 h3p h3s<;>(try simp only[Q,Pat.cs_len] at h3p);refine rn0 (r2 rfl rfl) (.tup (.cons (.nild ?_) (.cons (.eqd ?_) .nil)));rotate_left 2;refine ap sl34 zz36 rfl rfl rfl (by exact zcp _) (by have:=hpl s.1;simp only[Pat.cs_len];omega) ?_;refine asg ?_;refine tv ?_;refine ar ?_;refine xah ((s.1+1,if (nth l s.1).g.op=0 then s.2++zdb (nth l s.1).pat else s.2)) ⟨(by
    have h9:=hpl s.1;by_cases hz:(nth l s.1).g.op=0
    ·refine⟨by dsimp only;omega, ?_, ?_⟩
     ·dsimp only;rw[if_pos hz,<-zgq (out:=s.2) (by omega) hz (by simp_all)];exact hg1.2.1
     ·dsimp only;rw[if_pos hz,xaa];omega
    ·refine⟨by dsimp only;omega, ?_, ?_⟩
     ·dsimp only;rw[if_neg hz,<-zgr (out:=s.2) (by omega) hz];exact hg1.2.1
     ·dsimp only;rw[if_neg hz];omega),(by dsimp only;omega),sx ⟨⟨_,rfl,xaq ?_⟩,⟨⟨_,rfl,LeA.glg ?_⟩,trivial⟩⟩ ⟨zab ?_,trivial⟩⟩
 iterate 3 focus (first|(rw[if_pos (by assumption),xat,xat,xat,xaf];done)|(rw[if_pos (by assumption)];simp[Pat.cs_len];done))
 refine rn0 (r2 rfl rfl) (.tup (.cons (.gld ?_) (.cons (.eqd ?_) .nil)));rotate_left 2;all_goals (first|(rw[<-hg1.2.1,zmW (by omega) (by first|assumption|(simp_all;done)) (by assumption)];rfl)|(rw[<-hg1.2.1,zmX (by omega)];rfl))
theorem zmb {w:List Data} (hs:Spa w){f:Nat->Nat}{ta tk:Int} (ht:InS (w.length*4) ⟨ta,tk⟩){p:Pat} (hp:p.ok):
  FnD Tryz.prog 154 [.agg [.d (.i p.op),.d (.i p.ctor),.d (.i p.n),.d (.i p.m),.d (.i p.var),.d (zag p.kids)],.ref 3004 0,.ref 3005 0] [(3004,some (.box [.d (sPtr w f)])),(3005,some (.box [.d (.i ta),.d (.i tk)]))] (.d (.bool (!isP w ⟨ta,tk⟩ p))) []:=by
 refine bd Tryz.f154 13 [] [] fun w0 F0 own kept hk=>?_;refine bx 3001 ?_;refine ev ?_;refine wc ztH (zg1 hs.dp.wt (zbo ht) hp) rfl rfl ?_;refine evd [] [] ?_;refine dr ?_;refine rn [] (r1 rfl) (.eqd ?_) ⟨rfl,rfl⟩ (SubH.get ⟨rfl,⟨rfl,trivial⟩⟩) (fun _ h=>h);rotate_left;all_goals (rfl)
theorem zow {w:List Data} (hs:Spa w){f:Nat->Nat}{ta tk:Int} (ht:InS (w.length*4) ⟨ta,tk⟩){l:List Pat}{ok:Bool} (hl:∀a∈l,a.ok) (hb:l.length<=1000000000000):
  FnD Tryz.prog 76 [.d (sPtr w f),.agg [.d (.i ta),.d (.i tk)],.d (zag l),.d (.bool ok)] [] (.tup [.d (zag (if (ok&&l.all (isP w ⟨ta,tk⟩))=true then l else [])),.d (.bool (ok&&l.all (isP w ⟨ta,tk⟩)))]) []:=by
 have hall:(l.any fun p=> !isP w ⟨ta,tk⟩ p) = !(l.all (isP w ⟨ta,tk⟩)):=by
  induction l with
  |nil=>rfl
  |cons x r ih=>rw[List.any_cons,List.all_cons,ih (fun a ha=>hl a (by simp[ha])) (by simp at hb;omega),Bool.not_and]
 have hcf:=zgV (xs:=l) (p:=fun p=> !isP w ⟨ta,tk⟩ p) (caps:=[.ref 3004 0,.ref 3005 0]) (hp:=[(3004,some (.box [.d (sPtr w f)])),(3005,some (.box [.d (.i ta),.d (.i tk)]))]) hb zxs (fun q hq=>zmb hs ht (hl q hq)) ⟨rfl,rfl,trivial⟩ rfl rfl;rw[hall] at hcf;clear hall;generalize l.all (isP w ⟨ta,tk⟩)=q at hcf ⊢;refine bd Tryz.f76 19 [] [] fun w0 F0 own kept hk=>?_;refine bx 3004 ?_;refine bx 3005 ?_;refine ev ?_;refine sq ?_ ?_<;>intro h1 h1p h1s<;>(try simp only[Q] at h1p);refine sqT ?_;refine rn0 (r2 rfl rfl) (.tup (.cons (.nild ?_) (.cons (.eqd ?_) .nil)));rotate_left 2;refine xaL (xs:=[_,_]) rfl (.some rfl rfl h1) rfl rfl ?_;refine Walk.call (cr:=[]) zxr (hcf) rfl (.some rfl rfl h1) rfl rfl (LeL.refl _) ⟨rfl,rfl,trivial⟩ rfl rfl rfl ?_;refine evs [] [(12,false)] ?_ ⟨⟨_,rfl,h1⟩,trivial⟩;refine sq ?_ ?_<;>intro h3 h3p h3s<;>(try simp only[Q] at h3p);refine rn0 (r2 rfl rfl) (.tup (.cons (.nild ?_) (.cons (.eqd ?_) .nil)));rotate_left 2;refine wc zxt (zj9 hb hl) rfl rfl ?_;refine ev ?_;refine rn0 (r2 rfl rfl) (.tup (.cons (.eqd ?_) (.cons (.eqd ?_) .nil)));rotate_left 2;all_goals ((cases ok<;>cases q<;>first|rfl|(exfalso;simp_all;done)))
theorem zh9 {w:List Data}{t:Ty}{l:List Cl} (h:zbn w t l=true) (hl:ClsOk l):∀c∈l,zan w 10 t c.pat=true/\c.pat.ok:=fun c hc=>by
 unfold zbn at h;simp only[xad,Bool.not_eq_true',List.any_eq_false,Bool.not_eq_true] at h;have h4:clOk w t c=true:=by simpa using h.2.2 c hc
 unfold clOk isP at h4;simp only[xad] at h4;exact⟨h4.1.1,hl.2 c hc⟩
theorem zem {w:List Data}{t:Ty}:∀a∈[anyQ],zai w 11 t a=true:=fun a ha=>by
 rw[List.mem_singleton.1 ha];exact zke
theorem zeX {w:List Data} (hs:WSmall w){a k:Int}{l:List Cl} (hl:ClsOk l):
  FnD Tryz.prog 77 [.d (zah w),.agg [.d (.i a),.d (.i k)],.d (zbI l)] [] (.tup [.d (zag ((zbG w ⟨a,k⟩ l).getD [])),.d (.bool (zbG w ⟨a,k⟩ l).isSome)]) []:=by
 have hcv:=zjy hs (a:=a) (k:=k) hl;by_cases hv:zbn w ⟨a,k⟩ l=true
 ·have hm:zbG w ⟨a,k⟩ l=zeh w ⟨a,k⟩ l:=by unfold zbG;rw[if_pos hv]
  rw[hm];have htv:=zoh hv;have hsp:=zh2 hs (zbq htv.1).1;have hsh:=zh9 hv hl;have hin:InS (w.length*4) ⟨a,k⟩:=by
   obtain⟨_,_,h3⟩:=zbq htv.1;by_cases ha:a = -1
   ·exact .inl ha
   ·obtain⟨h4,h5,h6,h7⟩:=h3 ha;have:=zkA (n:=w.length) h5 (j:=k.toNat) (by omega);rwa [Int.toNat_of_nonneg h4,Int.toNat_of_nonneg h6] at this
  have hco:=zl7 (w:=w) (t:=⟨a,k⟩) htv.2 hsh;cases hq:zbj l [] with
  |none=>
   have e:zeh w ⟨a,k⟩ l=none:=by unfold zeh;rw[hq]
   rw[hq] at hco;rw[e];refine bd Tryz.f77 42 [] [] fun w0 F0 own kept hk=>?_;refine bx 3004 ?_;refine ev ?_;refine wc zs1 (hcv) rfl rfl ?_;refine ev ?_;refine sq ?_ ?_<;>intro h1 h1p h1s<;>(try simp only[Q] at h1p);exfalso;rw[hv] at h1;exact absurd h1 (by simp);refine wc ztE (hco) rfl rfl ?_;refine ev ?_;refine sq ?_ ?_<;>intro h2 h2p h2s<;>(try simp only[Q] at h2p);refine rn0 (r2 rfl rfl) (.tup (.cons (.nild ?_) (.cons (.eqd ?_) .nil)));rotate_left 2;exfalso;exact absurd h2 (by simp);all_goals (rfl)
  |some away=>
   rw[hq] at hco;obtain⟨p1,p2⟩:=zeb l [] away (fun c hc=>(hsh c hc).1) (by simp) hq;have hwo:=zne hsp hin (l:=[anyQ]) (away:=away) zem p2 (by simp) (by simp at p1;omega);have hrl:(zaJ w ⟨a,k⟩ [anyQ] away).isSome=true->((zaJ w ⟨a,k⟩ [anyQ] away).getD []).length<=400/\∀x∈(zaJ w ⟨a,k⟩ [anyQ] away).getD [],zai w 11 ⟨a,k⟩ x=true:=fun h=>by
    cases hw:zaJ w ⟨a,k⟩ [anyQ] away with
    |none=>rw[hw] at h;cases h
    |some r=>exact zd8 away _ r (fun x hx=>zem x (List.mem_filter.1 hx).1) (Nat.le_trans (List.length_filter_le _ _) (by simp)) p2 hw
   have hrl2:((zaJ w ⟨a,k⟩ [anyQ] away).getD []).length<=400/\∀x∈(zaJ w ⟨a,k⟩ [anyQ] away).getD [],x.ok:=by
    cases hw:zaJ w ⟨a,k⟩ [anyQ] away with
    |none=>exact⟨by simp,by simp⟩
    |some r=>
     have:=hrl (by rw[hw];rfl);rw[hw] at this;exact⟨this.1,fun x hx=>(zgg hsp 11 hin (this.2 x hx)).1⟩
   have hre:=zow hsp (f:=zaf w) hin (l:=(zaJ w ⟨a,k⟩ [anyQ] away).getD []) (ok:=(zaJ w ⟨a,k⟩ [anyQ] away).isSome) hrl2.2 (by omega);have e:zeh w ⟨a,k⟩ l=if ((zaJ w ⟨a,k⟩ [anyQ] away).isSome&&((zaJ w ⟨a,k⟩ [anyQ] away).getD []).all (isP w ⟨a,k⟩))=true then some ((zaJ w ⟨a,k⟩ [anyQ] away).getD []) else none:=by
    unfold zeh;rw[hq];cases hw:zaJ w ⟨a,k⟩ [anyQ] away with
    |none=>simp[hw]
    |some r=>simp[hw]
   rw[e];generalize ((zaJ w ⟨a,k⟩ [anyQ] away).isSome&&((zaJ w ⟨a,k⟩ [anyQ] away).getD []).all (isP w ⟨a,k⟩))=q at hre ⊢;refine bd Tryz.f77 42 [] [] fun w0 F0 own kept hk=>?_;refine bx 3004 ?_;refine ev ?_;refine wc zs1 (hcv) rfl rfl ?_;refine ev ?_;refine sq ?_ ?_<;>intro h1 h1p h1s<;>(try simp only[Q] at h1p);exfalso;rw[hv] at h1;exact absurd h1 (by simp);refine wc ztE (hco) rfl rfl ?_;refine ev ?_;refine sq ?_ ?_<;>intro h2 h2p h2s<;>(try simp only[Q] at h2p);exfalso;exact absurd h2 (by simp);refine wc zs2 (zg0 hsp.dp) rfl rfl ?_;refine ev ?_;refine wc zqv (zeu) rfl rfl ?_;refine si [0] [_] sl34 tz36 ?_;refine evd [] [] ?_;refine wc zyA (hwo) rfl rfl ?_;refine evd [] [] ?_;refine dr ?_;refine wc zyB (hre) rfl rfl ?_;refine ev ?_;refine rn0 (r2 rfl rfl) (.tup (.cons (.eqd ?_) (.cons (.eqd ?_) .nil)));rotate_left 2;all_goals (first|rfl|(cases q<;>rfl))
 ·have hv':zbn w ⟨a,k⟩ l=false:=by simpa using hv
  have hm:zbG w ⟨a,k⟩ l=none:=by unfold zbG;rw[if_neg hv]
  rw[hm];rw[hv'] at hcv;refine bd Tryz.f77 42 [] [] fun w0 F0 own kept hk=>?_;refine bx 3004 ?_;refine ev ?_;refine wc zs1 (hcv) rfl rfl ?_;refine ev ?_;refine sq ?_ ?_<;>intro h1 h1p h1s<;>(try simp only[Q] at h1p);refine rn0 (r2 rfl rfl) (.tup (.cons (.nild ?_) (.cons (.eqd ?_) .nil)));rotate_left 2;exfalso;exact absurd h1 (by simp);all_goals (rfl)
def exhQ (w:List Data) (t:Ty) (l:List Cl):Bool:=(zbG w t l).isSome&&decide (((zbG w t l).getD []).length=0)
theorem zkw {w:List Data} (hs:WSmall w){a k:Int}{l:List Cl} (hl:ClsOk l):
  FnD Tryz.prog 26 [.d (zah w),.agg [.d (.i a),.d (.i k)],.d (zbI l)] [] (.tup [.d (.bool (exhQ w ⟨a,k⟩ l)),.d (.bool (zbG w ⟨a,k⟩ l).isSome)]) []:=by
 have hmp:=zeX hs (a:=a) (k:=k) hl;unfold exhQ;generalize zbG w ⟨a,k⟩ l=m at *;refine bd Tryz.f26 24 [] [] fun w0 F0 own kept hk=>?_;refine bx 3004 ?_;refine ev ?_;refine wc zp7 (hmp) rfl rfl ?_;refine ev ?_;refine sq ?_ ?_<;>intro h1 h1p h1s<;>(try simp only[Q,Pat.cs_len,Int.natCast_inj] at h1p);refine rn0 (r2 rfl rfl) (.tup (.cons (.eqd ?_) (.cons (.eqd ?_) .nil)));rotate_left 2;refine rn0 (r2 rfl rfl) (.tup (.cons (.eqd ?_) (.cons (.eqd ?_) .nil)));rotate_left 2;all_goals (first|rfl|(simp_all[Pat.cs_len];done)|(cases m<;>simp_all[Pat.cs_len];done)|(cases m<;>simp[Pat.cs_len] at *;done))
def zng (w:List Data) (t:Ty) (b a:Pat):List Pat:=(zav w 10 t a b).filter (zbC w t)
def zgw (w:List Data) (t:Ty) (l:List Pat) (b:Pat) (k:Nat):List Pat:=(l.take k).flatMap (zng w t b)
theorem znr {w:List Data}{t:Ty}{l:List Pat}{b:Pat}:zb5 w t l b=l.flatMap (zng w t b):=by
 unfold zb5;induction l with
 |nil=>rfl
 |cons x r ih=>rw[List.flatMap_cons,List.filter_append,List.flatMap_cons,ih];rfl
theorem zfm {w:List Data}{t:Ty}{l:List Pat}{b:Pat}{k:Nat} (h:l.length<=k):zgw w t l b k=zb5 w t l b:=by
 rw[znr,zgw,List.take_of_length_le h]
theorem zns {w:List Data}{t:Ty}{l:List Pat}{b:Pat}{k:Nat} (h:k<l.length):zgw w t l b (k+1)=zgw w t l b k++zng w t b (nth l k):=by
 unfold zgw;have e:l[k]?=some (nth l k):=by simpa using zaq (f:=id) h
 rw[List.take_add_one,e,List.flatMap_append];simp
theorem zvA {w:List Data}{t:Ty}{l:List Pat}{b:Pat} (k:Nat):(zgw w t l b k).length<=(zb5 w t l b).length:=by
 rw[znr,zgw];conv=>rhs;rw[<-List.take_append_drop k l,List.flatMap_append]
 rw[xaa];omega
theorem zis {w:List Data} (hs:Spa w):∀(n:Nat){ta tk:Int}{p:Pat},InS (w.length*4) ⟨ta,tk⟩->zai w n ⟨ta,tk⟩ p=true->
  FnD Tryz.prog 301 [.d (zah w),.d (zd5 (w.length*4) (zaf w)),.agg [.d (.i ta),.d (.i tk)],.agg [.d (.i (p).op),.d (.i (p).ctor),.d (.i (p).n),.d (.i (p).m),.d (.i (p).var),.d (zag (p).kids)]] [] (.d (.bool (!zau w (zaf w) n ⟨ta,tk⟩ p))) []
 |0,ta,tk,p,_,h=>by simp[zai] at h
 |n+1,ta,tk,p,ht,h=>by
  have hdp:=zb6 (f:=zaf w) ht (by have:=hs.dp.four;omega);by_cases h1:p.op=1
  ·rw[zhu h1];refine bd Tryz.f301 45 [] [] fun w0 F0 own kept hk=>?_;refine bx 3006 ?_;refine bx 3007 ?_;refine ev ?_;refine sq ?_ ?_<;>intro h1 h1p h1s;refine wc ze1 (hdp) rfl rfl ?_;refine ev ?_;refine rq ?_;rotate_left;try simp only[Q] at h1p
   exfalso;omega;all_goals (refine congrArg D.bool ?_;rw[Bool.eq_iff_iff];simp;omega)
  by_cases h3:p.op=3
  ·rw[zln h h3];refine bd Tryz.f301 45 [] [] fun w0 F0 own kept hk=>?_;refine bx 3006 ?_;refine bx 3007 ?_;refine ev ?_;refine sq ?_ ?_<;>intro h1 h1p h1s;try simp only[Q] at h1p
   exfalso;omega;refine sq ?_ ?_<;>intro h2 h2p h2s;refine rq ?_;rotate_left;try simp only[Q] at h2p
   exfalso;omega;all_goals (rfl)
  have h4:p.op=4:=by have:=zbF h;omega
  obtain⟨c1,c2,c3,-⟩:=zaM h h4;have h3l:=hs.args ⟨ta,tk⟩ p.ctor ht c1;have hk:=fun i (hi:i<p.kids.length)=>za4 h hi;rw[zaU h4] at hk;rw[zom h4,Bool.not_not];have ih:=fun i (hi:i<p.kids.length)=>zis hs n (ta:=(nth (zaa w ⟨ta,tk⟩ p.ctor) i).data) (tk:=(nth (zaa w ⟨ta,tk⟩ p.ctor) i).index) (p:=nth p.kids i) (zbc hs.dp ht c1 _ (zae (by omega))) (hk i hi);refine bd Tryz.f301 45 [] [] fun w0 F0 own kept hk=>?_;refine bx 3006 ?_;refine bx 3007 ?_;refine ev ?_;refine sq ?_ ?_<;>intro h1 h1p h1s;try simp only[Q,Pat.cs_len] at h1p
  exfalso;omega;refine sq ?_ ?_<;>intro h2 h2p h2s;try simp only[Q,Pat.cs_len] at h2p
  exfalso;omega;refine wc zdn (zbu hs.dp.wt (zbo ht) c1) rfl rfl ?_;refine ev ?_;refine xak (ι:=Nat) hk (fun i=>[(10,.d (.i (i:Int)))]) [8,26,27,28,29,30,31,32,33,34,35,36,37,38,39,40,41,42,43,44] (fun i=>[]) (fun i=>i<=(zaa w ⟨ta,tk⟩ p.ctor).length/\∀i',i'<i->(!zau w (zaf w) n (nth (zaa w ⟨ta,tk⟩ p.ctor) i') (nth p.kids i'))=true) (fun i=>(zaa w ⟨ta,tk⟩ p.ctor).length-i) 0 ⟨by omega,fun _ h=>absurd h (by omega)⟩ ⟨⟨_,rfl,xaq ?_⟩,trivial⟩ trivial (fun x=>rfl) (fun i hg1=>?_);focus (rfl)
  refine evc [] [] ?_;refine sq ?_ ?_<;>intro h3 h3p h3s<;>(try simp only[Q,Pat.cs_len] at h3p);refine xaU zaN .none rfl rfl rfl rfl (zaq (by omega)) rfl ?_;refine evd [] [] ?_;refine xaU sl34 .none rfl rfl rfl rfl (zar (by omega)) rfl ?_;refine evd [] [] ?_;refine wc zt5 (ih i (by omega)) rfl rfl ?_;refine evd [] [] ?_;refine dr ?_;refine sq ?_ ?_<;>intro h4 h4p h4s;refine rq ?_;rotate_left;try simp only[Q,Pat.cs_len] at h4p
  refine ar ?_;refine xah (i+1) ⟨⟨by omega,zaT hg1.2 (by(simp;assumption))⟩,(by omega),sx ⟨⟨_,rfl,xaq ?_⟩,trivial⟩ trivial⟩;focus (rfl)
  refine rq ?_;rotate_left;all_goals (refine congrArg D.bool ?_;first|(rw[zbr (i:=i) (by omega) (by omega) (by first|assumption|(simp;assumption)|(simp_all;done))];done)|(rw[zbs (by omega) (fun x hx=>hg1.2 x (by omega))];done))
theorem zjd {w:List Data} (hs:Spa w){ta tk:Int} (ht:InS (w.length*4) ⟨ta,tk⟩){l:List Pat} (hl:∀a∈l,zai w 11 ⟨ta,tk⟩ a=true) (hb:l.length<=20000000):
  FnD Tryz.prog 231 [.d (zah w),.d (zd5 (w.length*4) (zaf w)),.agg [.d (.i ta),.d (.i tk)],.d (zag l)] [] (.d (zag (l.filter (zbC w ⟨ta,tk⟩)))) []:=by
 have hal:∀a∈l,FnD Tryz.prog 301 [.d (zah w),.d (zd5 (w.length*4) (zaf w)),.agg [.d (.i ta),.d (.i tk)],.agg [.d (.i (a).op),.d (.i (a).ctor),.d (.i (a).n),.d (.i (a).m),.d (.i (a).var),.d (zag (a).kids)]] [] (.d (.bool (zbC w ⟨ta,tk⟩ a))) []:=fun a ha=>zis hs 11 ht (hl a ha);have hle:∀ {pre rest:List Pat}{y:Pat},pre++y::rest=l->(pre.filter (zbC w ⟨ta,tk⟩)).length+1<=l.length:=fun {pre rest y} h=>by
  have h1:=List.length_filter_le (zbC w ⟨ta,tk⟩) pre;have h2:=congrArg List.length h;simp only[xaa,xab] at h2;omega
 refine bd Tryz.f231 34 [] [] fun w0 F0 own kept hk=>?_;refine bx 3006 ?_;refine ev ?_;refine xbh 9 sl34 .none rfl rfl ?_;refine ev ?_;refine xak (ι:=List (Pat)×List (Pat)) hk (fun x=>[(10,.d (.i (x.1.length:Int))),(9,.gl 9 (Pat.cs (x.1.filter (zbC w ⟨ta,tk⟩))))]) [12,13,14,15,16,17,18,19,20,21,22,23,24,25,26,27,28,29,30,31,32] (fun x=>[(9,some (.tok ((Pat.cs (x.1.filter (zbC w ⟨ta,tk⟩)))).length 6))]) (fun x=>x.1++x.2=l) (fun x=>x.2.length) ([],l) (by simp) ⟨⟨_,rfl,xaq ?_⟩,⟨⟨_,rfl,LeA.glg ?_⟩,trivial⟩⟩ ⟨zab ?_,trivial⟩ (fun x=>rfl) (fun x hg1=>?_);iterate 3 focus (rfl)
 obtain⟨pre,rest⟩:=x;dsimp only at hg1 ⊢;refine evc [] [] ?_;refine sq ?_ ?_<;>intro h1 h1p h1s<;>(try simp only[Q,Pat.cs_len] at h1p);rcases rest with _|⟨y,rest⟩
 ·exfalso;simp_all
 refine xaU sl34 .none rfl rfl rfl rfl (Pat.cs_at' hg1) rfl ?_;refine evd [] [] ?_;refine wc zt5 (hal y (by rw[<-hg1];simp)) rfl rfl ?_;refine dr ?_;refine sq ?_ ?_<;>intro h2 h2p h2s<;>(try simp only[Q,Pat.cs_len] at h2p);refine xaU sl34 .none rfl rfl rfl rfl (Pat.cs_at' hg1) rfl ?_;refine ev ?_;refine si [0] [_] sl34 tz36 ?_;refine ap sl34 zz36 rfl rfl rfl (by intro x hx;simp at hx;subst hx;rfl) (by have h9:=hle hg1;simp[Pat.cs_len];omega) ?_;refine ev ?_;refine ar ?_;refine xah ((pre++[y],rest)) ⟨(by have hz:=hg1;rw[<-hz];simp),(by simp),sx ⟨⟨_,rfl,xaq ?_⟩,⟨⟨_,rfl,LeA.glg ?_⟩,trivial⟩⟩ ⟨zab ?_,trivial⟩⟩;iterate 3 focus (first|(dsimp only;rw[List.filter_append,List.filter_cons_of_pos (by assumption),List.filter_nil,xat (List.filter _ _),xat (_++_),xaf];rfl)|(dsimp only;rw[List.filter_append,List.filter_cons_of_pos (by assumption),List.filter_nil];simp[Pat.cs_len];done)|(simp;done))
 refine ar ?_;refine xah ((pre++[y],rest)) ⟨(by have hz:=hg1;rw[<-hz];simp),(by simp),sx ⟨⟨_,rfl,xaq ?_⟩,⟨⟨_,rfl,LeA.glg ?_⟩,trivial⟩⟩ ⟨zab ?_,trivial⟩⟩;iterate 3 focus (first|(dsimp only;rw[List.filter_append,List.filter_cons_of_neg (by simp_all),List.filter_nil,List.append_nil];done)|(simp;done))
 have hrest:rest=[]:=by
  rcases rest with _|⟨a,b⟩
  ·rfl
  ·exfalso;have hz:=congrArg List.length (hg1);simp only[xaa,xab,xac] at hz;omega
 subst hrest;refine rn0 (r1 rfl) (.gld ?_);rotate_left;all_goals ((rw[List.append_nil] at hg1;rw[hg1];done))
theorem zla {w:List Data} (hs:Spa w){ta tk:Int} (ht:InS (w.length*4) ⟨ta,tk⟩){l away:List Pat} (hl:∀a∈l,zai w 11 ⟨ta,tk⟩ a=true) (hb:∀b∈away,zai w 10 ⟨ta,tk⟩ b=true) (hll:l.length<=400) (hal:away.length<=2000):
  FnD Tryz.prog 136 [.d (zah w),.d (zd5 (w.length*4) (zaf w)),.agg [.d (.i ta),.d (.i tk)],.d (zag l),.d (zag away)] [] (.tup [.d (zag ((zaJ w ⟨ta,tk⟩ l away).getD [])),.d (.bool (zaJ w ⟨ta,tk⟩ l away).isSome)]) []:=by
 have hke:=zuY hs ht hl hb;have hmi:∀(c:List Pat) (i k:Nat),(∀a∈c,zai w 11 ⟨ta,tk⟩ a=true)->i<away.length->k<c.length->(zav w 10 ⟨ta,tk⟩ (nth c k) (nth away i)).length<=20000000:=fun c i k hc hi hk=>zge hs (by omega) (by omega) ht (hc _ (zae hk)) (hb _ (zae hi));have hkb:∀(c:List Pat) (i k:Nat),(∀a∈c,zai w 11 ⟨ta,tk⟩ a=true)->i<away.length->k<c.length->(zng w ⟨ta,tk⟩ (nth away i) (nth c k)).length<=20000000:=fun c i k hc hi hk=>Nat.le_trans (List.length_filter_le _ _) (hmi c i k hc hi hk);rw[<-hke];have hno:∀(c:List Pat) (i k:Nat),i<away.length->400<(zgw w ⟨ta,tk⟩ c (nth away i) k).length->subL w ⟨ta,tk⟩ c (away.drop i)=none:=fun c i k hi h=>by
  have:=zvA (w:=w) (t:=⟨ta,tk⟩) (l:=c) (b:=nth away i) k;rw[zgK hi,if_neg (by omega)]
 refine bd Tryz.f136 60 [] [] fun w0 F0 own kept hk=>?_;refine bx 3007 ?_;refine ev ?_;refine xak (ι:=Nat×List Pat) hk (fun s=>[(12,.d (.i (s.1:Int))),(3,.d (zag s.2))]) [10,11,13,14,15,16,17,18,19,20,21,22,23,24,25,26,27,28,29,30,31,32,33,34,35,36,37,38,39,40,41,42,43,44,45,46,47,48,49,50,51,52,53,54] (fun s=>[]) (fun s=>s.1<=away.length/\subL w ⟨ta,tk⟩ s.2 (away.drop s.1)=subL w ⟨ta,tk⟩ l away/\(∀a∈s.2,zai w 11 ⟨ta,tk⟩ a=true)/\s.2.length<=400) (fun s=>away.length-s.1) (0,l) ⟨by simp,rfl,hl,hll⟩ ⟨⟨_,rfl,xaq ?_⟩,⟨⟨_,rfl, ?_⟩,trivial⟩⟩ trivial (fun x=>rfl) (fun s hg1=>?_);focus (rfl)
 focus (exact LeA.refl _)
 refine evc [] [] ?_;refine sq ?_ ?_<;>intro h1 h1p h1s<;>(try simp only[Q,Pat.cs_len] at h1p);refine xbh 9 sl34 .none rfl rfl ?_;refine ev ?_;refine xak (ι:=Nat) hk (fun k=>[(14,.d (.i (k:Int))),(13,.gl 9 (Pat.cs (zgw w ⟨ta,tk⟩ s.2 (nth away s.1) k)))]) [22,23,24,25,26,27,28,29,30,31,32,33,34,35,36,37,38,39,40,41,42,43,44,45,46,47,48,49] (fun k=>[(9,some (.tok ((Pat.cs (zgw w ⟨ta,tk⟩ s.2 (nth away s.1) k))).length 6))]) (fun k=>k<=s.2.length) (fun k=>s.2.length-k) 0 (by omega) ⟨⟨_,rfl,xaq ?_⟩,⟨⟨_,rfl,LeA.glg ?_⟩,trivial⟩⟩ ⟨zab ?_,trivial⟩ (fun x=>rfl) (fun k hg2=>?_);iterate 3 focus (rfl)
 refine evc [] [] ?_;refine sq ?_ ?_<;>intro h2 h2p h2s<;>(try simp only[Q,Pat.cs_len] at h2p);refine sq ?_ ?_<;>intro h3 h3p h3s<;>(try simp only[Q,Pat.cs_len] at h3p);refine xaU sl34 .none rfl rfl rfl rfl (zar (by omega)) rfl ?_;refine evd [] [] ?_;refine xaU sl34 .none rfl rfl rfl rfl (zar (by omega)) rfl ?_;refine evd [] [] ?_;refine wc zqz (zit hs 10 11 (by omega) (by omega) (by omega) ht (hg1.2.2.1 _ (zae (by omega))) (hb _ (zae (by omega)))) rfl rfl ?_;refine wc ztU (show FnD _ _ _ _ (.d (zag (zng w ⟨ta,tk⟩ (nth away s.1) (nth s.2 k)))) _ from zjd hs ht (zfL 10 11 (by omega) (hg1.2.2.1 _ (zae (by omega))) (hb _ (zae (by omega)))) (hmi s.2 s.1 k hg1.2.2.1 (by omega) (by omega))) rfl rfl ?_;refine ap sl34 zz36 rfl rfl rfl (by exact zcp _) (by have h9:=hkb s.2 s.1 k hg1.2.2.1 (by omega) (by omega);simp only[Pat.cs_len];omega) ?_;refine evd [] [] ?_;refine dr ?_;refine ar ?_;refine xah (k+1) ⟨(by omega),(by omega),sx ⟨⟨_,rfl,xaq ?_⟩,⟨⟨_,rfl,LeA.glg ?_⟩,trivial⟩⟩ ⟨zab ?_,trivial⟩⟩;iterate 3 focus (first|rfl|(rw[zns (by omega),xat,xat,xat,xaf];done)|(rw[zns (by omega)];simp[Pat.cs_len];done))
 refine sq ?_ ?_<;>intro h4 h4p h4s<;>(try simp only[Q,Pat.cs_len] at h4p);refine xbg sl34 .none rfl ?_;refine ev ?_;refine rn0 (r2 rfl rfl) (.tup (.cons (.eqd ?_) (.cons (.eqd ?_) .nil)));rotate_left 2;refine ar ?_;refine xah ((s.1+1,zb5 w ⟨ta,tk⟩ s.2 (nth away s.1))) ⟨(by
    have hk:s.2.length<=k:=by omega
    have h4:(zb5 w ⟨ta,tk⟩ s.2 (nth away s.1)).length<=400:=by rw[<-zfm hk];omega
    have e:=zgK (w:=w) (t:=⟨ta,tk⟩) (l:=s.2) (away:=away) (i:=s.1) (by omega);rw[if_pos h4] at e;refine⟨by dsimp only;omega, ?_,zfM hg1.2.2.1 (hb _ (zae (by omega))),h4⟩;dsimp only;rw[<-e];exact hg1.2.1),(by dsimp only;omega),sx ⟨⟨_,rfl,xaq ?_⟩,⟨⟨_,rfl, ?_⟩,trivial⟩⟩ trivial⟩
 focus (rfl)
 focus (((first|refine LeA.gld ?_|refine LeA.nild ?_);first|rfl|(rw[zfm (by omega)];done)|(dsimp only;rw[zfm (by omega)];done)|(simp;done)|omega))
 refine sqF ?_;refine sq ?_ ?_<;>intro h6 h6p h6s<;>(try simp only[Q,Pat.cs_len] at h6p);refine xbg sl34 .none rfl ?_;refine ev ?_;refine rn0 (r2 rfl rfl) (.tup (.cons (.eqd ?_) (.cons (.eqd ?_) .nil)));rotate_left 2;refine ar ?_;refine xah ((s.1+1,zb5 w ⟨ta,tk⟩ s.2 (nth away s.1))) ⟨(by
    have hk:s.2.length<=k:=by omega
    have h4:(zb5 w ⟨ta,tk⟩ s.2 (nth away s.1)).length<=400:=by rw[<-zfm hk];omega
    have e:=zgK (w:=w) (t:=⟨ta,tk⟩) (l:=s.2) (away:=away) (i:=s.1) (by omega);rw[if_pos h4] at e;refine⟨by dsimp only;omega, ?_,zfM hg1.2.2.1 (hb _ (zae (by omega))),h4⟩;dsimp only;rw[<-e];exact hg1.2.1),(by dsimp only;omega),sx ⟨⟨_,rfl,xaq ?_⟩,⟨⟨_,rfl, ?_⟩,trivial⟩⟩ trivial⟩
 focus (rfl)
 focus (((first|refine LeA.gld ?_|refine LeA.nild ?_);first|rfl|(rw[zfm (by omega)];done)|(dsimp only;rw[zfm (by omega)];done)|(simp;done)|omega))
 refine wc ztU (zjd hs ht hg1.2.2.1 (by omega)) rfl rfl ?_;refine ev ?_;refine rn0 (r2 rfl rfl) (.tup (.cons (.eqd ?_) (.cons (.eqd ?_) .nil)));rotate_left 2;all_goals (first|(rw[<-hg1.2.1,hno s.2 s.1 k (by omega) (by omega)];rfl)|(rw[<-hg1.2.1,zrM (by omega)];rfl))
theorem zjc:∀(n:Nat){p:Pat},p.size<=n->p.ok->FnD Tryz.prog 187 [.agg [.d (.i (p).op),.d (.i (p).ctor),.d (.i (p).n),.d (.i (p).m),.d (.i (p).var),.d (zag (p).kids)]] [] (.agg [.d (.i (p).op),.d (.i (p).ctor),.d (.i (p).n),.d (.i (p).m),.d (.i (p).var),.d (zag (p).kids)]) []
 |0,p,h,_=>by rw[Pat.size_eq] at h;omega
 |n+1,p,h,hok=>by
  rw[Pat.size_eq] at h;rw[Pat.ok_iff] at hok;have hok1:=hok.1;refine bd Tryz.f187 26 [] [] fun w0 F0 own kept hk=>?_;refine bx 3001 ?_;refine ab 3002 tz36 ?_;refine tv ?_;refine ab 3003 tz36 ?_;refine so ty36 ?_;refine tv ?_;refine so ty34 ?_;refine tv ?_;refine xan 3003 5 7 6 rfl rfl rfl rfl ?_;refine xak (ι:=List (Pat)×List (Pat)) hk (fun x=>[(4,.d (.i (x.1.length:Int)))]) [7,8,9,10,11,12,13,14,15,16,17,18,19,20,21,22,23,24] (fun x=>[(3003,some (.box [.d (.i p.op),.d (.i p.ctor),.d (.i p.n),.d (.i p.m),.d (.i p.var),.gl 7 (x.1.map Pat.cc)])),(7,some (.tok (x.1.map Pat.cc).length 6))]) (fun x=>x.1++x.2=p.kids) (fun x=>x.2.length) ([],p.kids) (by simp) ⟨⟨_,rfl,xaq ?_⟩,trivial⟩ ⟨?_,⟨zab ?_,trivial⟩⟩ (fun x=>rfl) (fun x hg1=>?_);focus (rfl)
  focus (first|rfl|(simp[getH];done))
  focus (rfl)
  obtain⟨pre,rest⟩:=x;dsimp only at hg1 ⊢;refine evc [] [] ?_;refine sq ?_ ?_<;>intro h1 h1p h1s<;>(try simp only[Q,Pat.cs_len] at h1p);rcases rest with _|⟨y,rest⟩
  ·exfalso;simp_all
  refine xaU sl34 .none rfl rfl rfl rfl (Pat.cs_at' hg1) rfl ?_;refine evd [] [] ?_;refine wc ztO (zjc n (p:=y) (by have:=Pats.size_mem (l:=p.kids) (v:=y) (by rw[<-hg1];simp);omega) (Pats.ok_mem hok.2 y (by rw[<-hg1];simp))) rfl rfl ?_;refine si [0] [_] sl34 tz36 ?_;refine ap sl34 zz36 rfl rfl rfl (by intro x hx;(simp at hx;subst hx;rfl)) (by have:=congrArg List.length hg1;simp at this;simp;omega) ?_;refine evd [] [] ?_;refine so ty34 ?_;refine dr ?_;refine ar ?_;refine xah ((pre++[y],rest)) ⟨(by have hz:=hg1;rw[<-hz];simp),(by simp),sx ⟨⟨_,rfl,xaq ?_⟩,trivial⟩ ⟨?_,⟨zab ?_,trivial⟩⟩⟩;focus ((simp;done))
  focus (first|rfl|(simp[getH];done))
  focus ((simp;done))
  have hrest:rest=[]:=by
   rcases rest with _|⟨a,b⟩
   ·rfl
   ·exfalso;have hz:=congrArg List.length (hg1);simp only[xaa,xab,xac] at hz;omega
  subst hrest;refine so ty36 ?_;refine tv ?_;refine rn0 (.cons (.cellA ty36 rfl rfl rfl) .nil) (.agg (.cons (.eqd ?_) (.cons (.eqd ?_) (.cons (.eqd ?_) (.cons (.eqd ?_) (.cons (.eqd ?_) (.cons (.gld ?_) .nil)))))));rotate_left 6;all_goals (first|rfl|(rw[List.append_nil] at hg1;rw[<-hg1,xat];done))
theorem zp1 {l:List Pat} (h:l.length<=1000000000000) (hok:∀p∈l,p.ok):FnD Tryz.prog 233 [.d (zag l)] [] (.d (zag l)) []:=by
 refine bd Tryz.f233 21 [] [] fun w0 F0 own kept hk=>?_;refine xbh 1 sl34 .none rfl rfl ?_;refine ev ?_;refine xak (ι:=List (Pat)×List (Pat)) hk (fun x=>[(4,.d (.i (x.1.length:Int))),(3,.gl 1 (x.1.map Pat.cc))]) [6,7,8,9,10,11,12,13,14,15,16,17,18,19] (fun x=>[(1,some (.tok ((x.1.map Pat.cc)).length 6))]) (fun x=>x.1++x.2=l) (fun x=>x.2.length) ([],l) (by simp) ⟨⟨_,rfl,xaq ?_⟩,⟨⟨_,rfl,LeA.glg ?_⟩,trivial⟩⟩ ⟨zab ?_,trivial⟩ (fun x=>rfl) (fun x hg1=>?_);iterate 3 focus (rfl)
 obtain⟨pre,rest⟩:=x;dsimp only at hg1 ⊢;refine evc [] [] ?_;refine sq ?_ ?_<;>intro h1 h1p h1s<;>(try simp only[Q,Pat.cs_len] at h1p);rcases rest with _|⟨y,rest⟩
 ·exfalso;simp_all
 refine xaU sl34 .none rfl rfl rfl rfl (Pat.cs_at' hg1) rfl ?_;refine ev ?_;refine wc ztO (zjc _ (Nat.le_refl _) (hok y (by rw[<-hg1];simp))) rfl rfl ?_;refine si [0] [_] sl34 tz36 ?_;refine ap sl34 zz36 rfl rfl rfl (by intro x hx;simp at hx;subst hx;rfl) (by have:=congrArg List.length hg1;simp at this;simp;omega) ?_;refine ev ?_;refine ar ?_;refine xah ((pre++[y],rest)) ⟨(by have hz:=hg1;rw[<-hz];simp),(by simp),sx ⟨⟨_,rfl,xaq ?_⟩,⟨⟨_,rfl,LeA.glg ?_⟩,trivial⟩⟩ ⟨zab ?_,trivial⟩⟩;iterate 3 focus ((simp;done))
 have hrest:rest=[]:=by
  rcases rest with _|⟨a,b⟩
  ·rfl
  ·exfalso;have hz:=congrArg List.length (hg1);simp only[xaa,xab,xac] at hz;omega
 subst hrest;refine rn0 (r1 rfl) (.gld ?_);rotate_left;all_goals ((rw[List.append_nil] at hg1;rw[<-hg1,xat];done))
theorem zpC {p:Pat} (h:zcM p=true):za3 (zaC p)=zdb p:=by
 unfold zcM at h;have h40:=of_decide_eq_true h;unfold za3 zdb;rw[if_pos h40,List.take_of_length_le (by omega)]
theorem zuX {p:Pat}:((40:Int)<((za3 (zaC p)).length:Int))↔zcM p=false:=by
 unfold zcM za3;rw[List.length_take,decide_eq_false_iff_not];omega
theorem zn1 {w:List Data}{t:Ty}{l:List Cl} (hl:l.length<=8) (hc:∀c∈l,zan w 10 t c.pat=true/\c.pat.ok):
  FnD Tryz.prog 228 [.d (zbI l),.d (.i (l.length:Int))] [] (.tup [.d (zag ((zbj l []).getD [])),.d (.bool (zbj l []).isSome)]) []:=by
 have hpl:=fun(i:Nat)=>zhm (zaC (nth l i).pat);have hge:=fun(i:Nat)=>zuX (p:=(nth l i).pat);refine bd Tryz.f228 35 [] [] fun w0 F0 own kept hk=>?_;refine xbh 9 sl34 .none rfl rfl ?_;refine ev ?_;refine xak (ι:=Nat×List Pat) hk (fun s=>[(7,.d (.i (s.1:Int))),(6,.gl 9 (Pat.cs s.2))]) [4,5,8,10,11,12,13,14,15,16,17,18,19,20,21,22,23,24,25,26,27,28,29,30,31,32,33] (fun s=>[(9,some (.tok ((Pat.cs s.2)).length 6))]) (fun s=>s.1<=l.length/\zbj (l.drop s.1) s.2=zbj l []/\s.2.length<=40*s.1) (fun s=>l.length-s.1) (0,[]) ⟨by simp,rfl,by simp⟩ ⟨⟨_,rfl,xaq ?_⟩,⟨⟨_,rfl,LeA.glg ?_⟩,trivial⟩⟩ ⟨zab ?_,trivial⟩ (fun x=>rfl) (fun s hg1=>?_);iterate 3 focus (rfl)
 refine evc [] [] ?_;refine sq ?_ ?_<;>intro h1 h1p h1s<;>(try simp only[Q,Pat.cs_len,Int.natCast_inj] at h1p);refine xaU sl26 .none rfl rfl rfl rfl (zaq (by omega)) rfl ?_;refine ev ?_;refine sq ?_ ?_<;>intro h2 h2p h2s<;>(try simp only[Q,Pat.cs_len,Int.natCast_inj] at h2p);refine ar ?_;refine xah ((s.1+1,if (nth l s.1).g.op=0 then s.2++za3 (zaC (nth l s.1).pat) else s.2)) ⟨(by
    by_cases hz:(nth l s.1).g.op=0
    ·have hp:zcM (nth l s.1).pat=true:=by
      cases hp:zcM (nth l s.1).pat with
      |true=>rfl
      |false=>have:=(hge s.1).2 hp;exfalso;first|omega|contradiction
     have h9:=zhg (nth l s.1).pat;have e:=zpC hp;refine⟨by dsimp only;omega, ?_, ?_⟩
     ·dsimp only;rw[if_pos hz,e,<-zgq (out:=s.2) (by omega) hz hp];exact hg1.2.1
     ·dsimp only;rw[if_pos hz,e,xaa];omega
    ·refine⟨by dsimp only;omega, ?_, ?_⟩
     ·dsimp only;rw[if_neg hz,<-zgr (out:=s.2) (by omega) hz];exact hg1.2.1
     ·dsimp only;rw[if_neg hz];omega),(by dsimp only;omega),sx ⟨⟨_,rfl,xaq ?_⟩,⟨⟨_,rfl,LeA.glg ?_⟩,trivial⟩⟩ ⟨zab ?_,trivial⟩⟩
 iterate 3 focus (first|rfl|(dsimp only;rw[if_neg (by assumption)];done))
 refine xaU sl26 .none rfl rfl rfl rfl (zaq (by omega)) rfl ?_;refine ev ?_;refine wc zxj (znZ (hc _ (zae (i:=s.1) (by omega))).1 (hc _ (zae (by omega))).2) rfl rfl ?_;refine ev ?_;refine sq ?_ ?_<;>intro h3 h3p h3s<;>(try simp only[Q,Pat.cs_len,Int.natCast_inj] at h3p);refine rn0 (r2 rfl rfl) (.tup (.cons (.nild ?_) (.cons (.eqd ?_) .nil)));rotate_left 2;refine ap sl34 zz36 rfl rfl rfl (by exact zcp _) (by have:=hpl s.1;simp only[Pat.cs_len];omega) ?_;refine ev ?_;refine ar ?_;refine xah ((s.1+1,if (nth l s.1).g.op=0 then s.2++za3 (zaC (nth l s.1).pat) else s.2)) ⟨(by
    by_cases hz:(nth l s.1).g.op=0
    ·have hp:zcM (nth l s.1).pat=true:=by
      cases hp:zcM (nth l s.1).pat with
      |true=>rfl
      |false=>have:=(hge s.1).2 hp;exfalso;first|omega|contradiction
     have h9:=zhg (nth l s.1).pat;have e:=zpC hp;refine⟨by dsimp only;omega, ?_, ?_⟩
     ·dsimp only;rw[if_pos hz,e,<-zgq (out:=s.2) (by omega) hz hp];exact hg1.2.1
     ·dsimp only;rw[if_pos hz,e,xaa];omega
    ·refine⟨by dsimp only;omega, ?_, ?_⟩
     ·dsimp only;rw[if_neg hz,<-zgr (out:=s.2) (by omega) hz];exact hg1.2.1
     ·dsimp only;rw[if_neg hz];omega),(by dsimp only;omega),sx ⟨⟨_,rfl,xaq ?_⟩,⟨⟨_,rfl,LeA.glg ?_⟩,trivial⟩⟩ ⟨zab ?_,trivial⟩⟩
 iterate 3 focus (first|rfl|(dsimp only;rw[if_pos (by assumption),xat,xat,xat,xaf];done)|(dsimp only;rw[if_pos (by assumption)];simp[Pat.cs_len];done))
 refine rn0 (r2 rfl rfl) (.tup (.cons (.gld ?_) (.cons (.eqd ?_) .nil)));rotate_left 2;all_goals (first|(rw[<-hg1.2.1,zmW (by omega) (by assumption) ((hge s.1).1 (by omega))];rfl)|(rw[<-hg1.2.1,zmX (by omega)];rfl))
theorem zn0 {w:List Data} (hs:Spa w){ta tk:Int} (ht:InS (w.length*4) ⟨ta,tk⟩){l:List Pat}{ok:Bool} (hl:∀a∈l,a.ok/\a.size<=1000000000000) (hb:l.length<=1000000000000):
  FnD Tryz.prog 137 [.d (zah w),.agg [.d (.i ta),.d (.i tk)],.d (zag l),.d (.bool ok)] [] (.tup [.d (zag (if l.all (isP w ⟨ta,tk⟩)=true then l else [])),.d (.bool (l.all (isP w ⟨ta,tk⟩)&&ok))]) []:=by
 have hbad:∀i,i<l.length->isP w ⟨ta,tk⟩ (nth l i)=false->l.all (isP w ⟨ta,tk⟩)=false:=fun i hi h=>by
  cases hq:l.all (isP w ⟨ta,tk⟩) with
  |false=>rfl
  |true=>have:=List.all_eq_true.1 hq _ (zae hi);rw[h] at this;cases this
 have hgood:(∀i,i<l.length->isP w ⟨ta,tk⟩ (nth l i)=true)->l.all (isP w ⟨ta,tk⟩)=true:=fun h=>List.all_eq_true.2 fun x hx=>by
  obtain⟨i,hi,rfl⟩:=List.getElem_of_mem hx;have:=h i hi;rwa [za1 hi] at this
 refine bd Tryz.f137 29 [] [] fun w0 F0 own kept hk=>?_;refine bx 3005 ?_;refine ev ?_;refine xak (ι:=Nat) hk (fun i=>[(10,.d (.i (i:Int)))]) [8,9,11,12,13,14,15,16,17,18,19,20,21,22,23,24,25] (fun i=>[]) (fun i=>i<=l.length/\∀i',i'<i->isP w ⟨ta,tk⟩ (nth l i')=true) (fun i=>l.length-i) 0 ⟨by omega,fun _ h=>absurd h (by omega)⟩ ⟨⟨_,rfl,xaq ?_⟩,trivial⟩ trivial (fun x=>rfl) (fun i hg1=>?_);focus (rfl)
 refine evc [] [] ?_;refine sq ?_ ?_<;>intro h1 h1p h1s<;>(try simp only[Q,Pat.cs_len] at h1p);refine xaU sl34 .none rfl rfl rfl rfl (zar (by omega)) rfl ?_;refine evd [] [] ?_;refine wc zki (zeD hs.dp.wt (zbo ht) (hl _ (zae (i:=i) (by omega))).1 (hl _ (zae (by omega))).2) rfl rfl ?_;refine evd [] [] ?_;refine dr ?_;refine sq ?_ ?_<;>intro h2 h2p h2s;refine xbg sl34 .none rfl ?_;refine ev ?_;refine rn0 (r2 rfl rfl) (.tup (.cons (.eqd ?_) (.cons (.eqd ?_) .nil)));rotate_left 2;try simp only[Q,Pat.cs_len] at h2p
 refine ar ?_;refine xah (i+1) ⟨⟨by omega,zaT hg1.2 (by assumption)⟩,(by omega),sx ⟨⟨_,rfl,xaq ?_⟩,trivial⟩ trivial⟩;focus (rfl)
 refine wc zxE (zp1 hb (fun p hp=>(hl p hp).1)) rfl rfl ?_;refine ev ?_;refine rn0 (r2 rfl rfl) (.tup (.cons (.eqd ?_) (.cons (.eqd ?_) .nil)));rotate_left 2;all_goals (first|(rw[hbad i (by omega) (by assumption)];rfl)|(rw[hgood (fun x hx=>hg1.2 x (by omega))];rfl))
theorem zoU {w:List Data} (hsp:Spa w){a k:Int} (hin:InS (w.length*4) ⟨a,k⟩){l:List Cl} (h8:l.length<=8) (hsh:∀c∈l,zan w 10 ⟨a,k⟩ c.pat=true/\c.pat.ok):
  FnD Tryz.prog 131 [.d (zah w),.agg [.d (.i a),.d (.i k)],.d (zag [anyQ]),.d (zbI l),.d (.i (l.length:Int))] [] (.tup [.d (zag ((zeh w ⟨a,k⟩ l).getD [])),.d (.bool (zeh w ⟨a,k⟩ l).isSome)]) []:=by
 have hco:=zn1 (w:=w) (t:=⟨a,k⟩) h8 hsh;cases hq:zbj l [] with
 |none=>
  have e:zeh w ⟨a,k⟩ l=none:=by unfold zeh;rw[hq]
  rw[hq] at hco;rw[e];refine bd Tryz.f131 42 [] [] fun w0 F0 own kept hk=>?_;refine bx 3006 ?_;refine ev ?_;refine wc ztT (hco) rfl rfl ?_;refine ev ?_;refine sq ?_ ?_<;>intro h1 h1p h1s<;>(try simp only[Q] at h1p);refine xbg sl34 .none rfl ?_;refine ev ?_;refine rn0 (r2 rfl rfl) (.tup (.cons (.eqd ?_) (.cons (.eqd ?_) .nil)));rotate_left 2;exfalso;exact absurd h1 (by simp);all_goals (rfl)
 |some away=>
  rw[hq] at hco;obtain⟨p1,p2⟩:=zeb l [] away (fun c hc=>(hsh c hc).1) (by simp) hq;have hwo:=zla hsp hin (l:=[anyQ]) (away:=away) zem p2 (by simp) (by simp at p1;omega);have hrl2:((zaJ w ⟨a,k⟩ [anyQ] away).getD []).length<=400/\∀x∈(zaJ w ⟨a,k⟩ [anyQ] away).getD [],x.ok/\x.size<=1000000000000:=by
   cases hw:zaJ w ⟨a,k⟩ [anyQ] away with
   |none=>exact⟨by simp,by simp⟩
   |some r=>
    have:=zd8 away _ r (fun x hx=>zem x (List.mem_filter.1 hx).1) (Nat.le_trans (List.length_filter_le _ _) (by simp)) p2 hw;exact⟨this.1,fun x hx=>⟨(zgg hsp 11 hin (this.2 x hx)).1,by have:=(zgg hsp 11 hin (this.2 x hx)).2;have:=zrr (n:=11) (by omega);omega⟩⟩
  have hre:=zn0 hsp hin (l:=(zaJ w ⟨a,k⟩ [anyQ] away).getD []) (ok:=(zaJ w ⟨a,k⟩ [anyQ] away).isSome) hrl2.2 (by omega);have hem:(zaJ w ⟨a,k⟩ [anyQ] away).isSome=false->(zaJ w ⟨a,k⟩ [anyQ] away).getD []=[]:=fun h=>by
   cases hw:zaJ w ⟨a,k⟩ [anyQ] away with
   |none=>rfl
   |some r=>rw[hw] at h;cases h
  have e:zeh w ⟨a,k⟩ l=if (((zaJ w ⟨a,k⟩ [anyQ] away).getD []).all (isP w ⟨a,k⟩)&&(zaJ w ⟨a,k⟩ [anyQ] away).isSome)=true then some ((zaJ w ⟨a,k⟩ [anyQ] away).getD []) else none:=by
   unfold zeh;rw[hq];cases hw:zaJ w ⟨a,k⟩ [anyQ] away with
   |none=>simp[hw]
   |some r=>simp[hw]
  rw[e];generalize ((zaJ w ⟨a,k⟩ [anyQ] away).getD []).all (isP w ⟨a,k⟩)=q at hre ⊢;generalize (zaJ w ⟨a,k⟩ [anyQ] away).isSome=q2 at hre hwo hem ⊢;refine bd Tryz.f131 42 [] [] fun w0 F0 own kept hk=>?_;refine bx 3006 ?_;refine ev ?_;refine wc ztT (hco) rfl rfl ?_;refine ev ?_;refine sq ?_ ?_<;>intro h1 h1p h1s<;>(try simp only[Q] at h1p);exfalso;exact absurd h1 (by simp);refine wc ziM (zek hsp.dp) rfl rfl ?_;refine evd [] [] ?_;refine wc zxm (hwo) rfl rfl ?_;refine evd [] [] ?_;refine dr ?_;refine wc zxn (hre) rfl rfl ?_;refine ev ?_;refine rn0 (r2 rfl rfl) (.tup (.cons (.eqd ?_) (.cons (.eqd ?_) .nil)));rotate_left 2;all_goals (first|rfl|(cases q<;>cases q2<;>first|rfl|(rw[hem rfl];rfl)))
theorem zh6 {w:List Data} (hs:WSmall w){a k:Int}{l:List Cl} (hl:ClsOk l) (hz:ClsSz l):
  FnD Tryz.prog 78 [.d (zah w),.agg [.d (.i a),.d (.i k)],.d (zbI l)] [] (.tup [.d (zag ((zbG w ⟨a,k⟩ l).getD [])),.d (.bool (zbG w ⟨a,k⟩ l).isSome)]) []:=by
 have hcv:=zjO hs (a:=a) (k:=k) hl hz;by_cases hv:zbn w ⟨a,k⟩ l=true
 ·have hm:zbG w ⟨a,k⟩ l=zeh w ⟨a,k⟩ l:=by unfold zbG;rw[if_pos hv]
  rw[hm];have htv:=zoh hv;have hsp:=zh2 hs (zbq htv.1).1;have hin:InS (w.length*4) ⟨a,k⟩:=by
   obtain⟨_,_,h3⟩:=zbq htv.1;by_cases ha:a = -1
   ·exact .inl ha
   ·obtain⟨h4,h5,h6,h7⟩:=h3 ha;have:=zkA (n:=w.length) h5 (j:=k.toNat) (by omega);rwa [Int.toNat_of_nonneg h4,Int.toNat_of_nonneg h6] at this
  have hre:=zoU hsp hin htv.2 (zh9 hv hl);have e1:zag [anyQ]=D.sl [[D.i 1,D.i 0,D.i 0,D.i 0,D.i 0,D.sl []]]:=rfl;rw[e1] at hre;rw[<-xac (f:=Cl.c)] at hre;refine bd Tryz.f78 24 [] [] fun w0 F0 own kept hk=>?_;refine bx 3004 ?_;refine ev ?_;refine wc zv4 (hcv) rfl rfl ?_;refine ev ?_;refine sq ?_ ?_<;>intro h1 h1p h1s<;>(try simp only[Q] at h1p);exfalso;rw[hv] at h1;exact absurd h1 (by simp);refine wc zqp (zgX) rfl rfl ?_;refine si [0] [_] sl34 tz36 ?_;refine evd [] [] ?_;refine wc zxk (hre) rfl rfl ?_;refine evd [] [] ?_;refine dr ?_;refine rn0 (r2 rfl rfl) (.tup (.cons (.eqd ?_) (.cons (.eqd ?_) .nil)));rotate_left 2;all_goals (rfl)
 ·have hv':zbn w ⟨a,k⟩ l=false:=by simpa using hv
  have hm:zbG w ⟨a,k⟩ l=none:=by unfold zbG;rw[if_neg hv]
  rw[hm];rw[hv'] at hcv;refine bd Tryz.f78 24 [] [] fun w0 F0 own kept hk=>?_;refine bx 3004 ?_;refine ev ?_;refine wc zv4 (hcv) rfl rfl ?_;refine ev ?_;refine sq ?_ ?_<;>intro h1 h1p h1s<;>(try simp only[Q] at h1p);refine xbg sl34 .none rfl ?_;refine ev ?_;refine rn0 (r2 rfl rfl) (.tup (.cons (.eqd ?_) (.cons (.eqd ?_) .nil)));rotate_left 2;exfalso;exact absurd h1 (by simp);all_goals (rfl)
theorem zvl {w:List Data}{f:Nat->Nat}{n:Nat}{t:Ty}{p:Pat} (h:p.op=3) (hk:p.kids=[]):zau w f (n+1) t p=false:=by
 have e:zac w t p=[]:=by unfold zac;rw[if_neg (by omega),if_neg (by omega),if_neg (by omega)]
 rw[zbd,if_neg (by omega),if_neg (by omega),e,hk];rfl
theorem zjp {w:List Data}{f:Nat->Nat}{n:Nat}{t:Ty}{p:Pat} (h:p.op=6) (hk:p.kids.length=1):zau w f (n+1) t p=zau w f n t (nth p.kids 0):=by
 have e:zac w t p=[t]:=by unfold zac;rw[if_neg (by omega),if_neg (by omega),if_pos (by omega)]
 rw[zbd,if_neg (by omega),if_neg (by omega),e];match hkk:p.kids,hk with
 | [x],_=>
  show(!((!zau w f n t x)&&true))=zau w f n t x
  cases zau w f n t x<;>rfl
theorem zbL {w:List Data} (hs:Spa w):∀(n:Nat){a k:Int}{p:Pat},zan w n ⟨a,k⟩ p=true->InS (w.length*4) ⟨a,k⟩->p.ok->
  FnD Tryz.prog 250 [.d (zah w),.d (zd5 (w.length*4) (zaf w)),.agg [.d (.i a),.d (.i k)],.agg [.d (.i p.op),.d (.i p.ctor),.d (.i p.n),.d (.i p.m),.d (.i p.var),.d (zag p.kids)]] [] (.d (.bool (!zau w (zaf w) n ⟨a,k⟩ p))) []
 |0,a,k,p,h,_,_=>by simp[zan] at h
 |n+1,a,k,p,h,hi,hok=>by
  rw[Pat.ok_iff] at hok;have hd:=hs.dp;have hw:=hd.wt;have hw4:=hd.four;have hdp:=zb6 (f:=zaf w) hi (by omega);have ht:=zbo hi;have pk:=zjL (k:=k) h;obtain⟨ho,hlen⟩:=zbe h;have hkid:=fun i (hi:i<p.kids.length)=>zbg h hi;have hops:=pk.ops;have hk1:=pk.one;have hk2:=pk.two;have l5:=pk.len5;by_cases h4:p.op=4
  ·rw[zaU h4] at hlen hkid;have c1:=pk.mem h4;have ih:=fun i (hi2:i<p.kids.length)=>zbL hs n (a:=(nth (zaa w ⟨a,k⟩ p.ctor) i).data) (k:=(nth (zaa w ⟨a,k⟩ p.ctor) i).index) (p:=nth p.kids i) (hkid i hi2) (zbc hd hi c1 _ (zae (by omega))) (Pats.ok_mem hok.2 _ (zae hi2));have hlb:(zaa w ⟨a,k⟩ p.ctor).length<=1000000000000:=by have:=hok.1;omega
   rw[zbd,if_neg (by omega),if_neg (by omega),zaU h4,Bool.not_not];refine bd Tryz.f250 76 [] [] fun w0 F0 own kept hk=>?_;refine bx 3006 ?_;refine bx 3007 ?_;refine ev ?_;refine sq ?_ ?_<;>intro h1 h1p h1s<;>(try simp only[Q,Pat.cs_len] at h1p);refine sq ?_ ?_<;>intro h2 h2p h2s<;>(try simp only[Q,Pat.cs_len] at h2p);exfalso;omega;refine sq ?_ ?_<;>intro h3 h3p h3s<;>(try simp only[Q,Pat.cs_len] at h3p);exfalso;omega;refine sq ?_ ?_<;>intro h4 h4p h4s<;>(try simp only[Q,Pat.cs_len] at h4p);exfalso;omega;refine sq ?_ ?_<;>intro h5 h5p h5s<;>(try simp only[Q,Pat.cs_len] at h5p);exfalso;omega;refine wc zdn (zbu hw ht c1) rfl rfl ?_;refine ev ?_;refine xak (ι:=Nat) hk (fun i=>[(10,.d (.i (i:Int)))]) [8,57,58,59,60,61,62,63,64,65,66,67,68,69,70,71,72,73,74,75] (fun i=>[]) (fun i=>i<=(zaa w ⟨a,k⟩ p.ctor).length/\∀i',i'<i->(!zau w (zaf w) n (nth (zaa w ⟨a,k⟩ p.ctor) i') (nth p.kids i'))=true) (fun i=>(zaa w ⟨a,k⟩ p.ctor).length-i) 0 ⟨by omega,fun _ h=>absurd h (by omega)⟩ ⟨⟨_,rfl,xaq ?_⟩,trivial⟩ trivial (fun x=>rfl) (fun i hg1=>?_);focus (first|rfl|(simp;done)|(simp_all;done)|omega)
   refine evc [] [] ?_;refine sq ?_ ?_<;>intro h6 h6p h6s<;>(try simp only[Q,Pat.cs_len] at h6p);refine xaU zaN .none rfl rfl rfl rfl (zaq (by omega)) rfl ?_;refine evd [] [] ?_;refine xaU sl34 .none rfl rfl rfl rfl (zar (by omega)) rfl ?_;refine evd [] [] ?_;refine wc zeq (ih i (by omega)) rfl rfl ?_;refine evd [] [] ?_;refine dr ?_;refine sq ?_ ?_<;>intro h7 h7p h7s<;>(try simp only[Q,Pat.cs_len] at h7p);refine rq ?_;rotate_left;refine ar ?_;refine xah (i+1) ⟨⟨by omega,zaT hg1.2 (by first|assumption|(simp;assumption)|(simp_all;done))⟩,(by omega),sx ⟨⟨_,rfl,xaq ?_⟩,trivial⟩ trivial⟩;focus (first|rfl|(simp;done)|(simp_all;done)|omega)
   refine rq ?_;rotate_left;refine sq ?_ ?_<;>intro h8 h8p h8s<;>(try simp only[Q,Pat.cs_len] at h8p);exfalso;omega;refine sq ?_ ?_<;>intro h9 h9p h9s<;>(try simp only[Q,Pat.cs_len] at h9p);exfalso;omega;refine sq ?_ ?_<;>intro h10 h10p h10s<;>(try simp only[Q,Pat.cs_len] at h10p);exfalso;omega;refine sq ?_ ?_<;>intro h11 h11p h11s<;>(try simp only[Q,Pat.cs_len] at h11p);exfalso;omega;refine wc zdn (zbu hw ht c1) rfl rfl ?_;refine ev ?_;refine xak (ι:=Nat) hk (fun i=>[(10,.d (.i (i:Int)))]) [8,57,58,59,60,61,62,63,64,65,66,67,68,69,70,71,72,73,74,75] (fun i=>[]) (fun i=>i<=(zaa w ⟨a,k⟩ p.ctor).length/\∀i',i'<i->(!zau w (zaf w) n (nth (zaa w ⟨a,k⟩ p.ctor) i') (nth p.kids i'))=true) (fun i=>(zaa w ⟨a,k⟩ p.ctor).length-i) 0 ⟨by omega,fun _ h=>absurd h (by omega)⟩ ⟨⟨_,rfl,xaq ?_⟩,trivial⟩ trivial (fun x=>rfl) (fun i hg1=>?_);focus (first|rfl|(simp;done)|(simp_all;done)|omega)
   refine evc [] [] ?_;refine sq ?_ ?_<;>intro h12 h12p h12s<;>(try simp only[Q,Pat.cs_len] at h12p);refine xaU zaN .none rfl rfl rfl rfl (zaq (by omega)) rfl ?_;refine evd [] [] ?_;refine xaU sl34 .none rfl rfl rfl rfl (zar (by omega)) rfl ?_;refine evd [] [] ?_;refine wc zeq (ih i (by omega)) rfl rfl ?_;refine evd [] [] ?_;refine dr ?_;refine sq ?_ ?_<;>intro h13 h13p h13s<;>(try simp only[Q,Pat.cs_len] at h13p);refine rq ?_;rotate_left;refine ar ?_;refine xah (i+1) ⟨⟨by omega,zaT hg1.2 (by first|assumption|(simp;assumption)|(simp_all;done))⟩,(by omega),sx ⟨⟨_,rfl,xaq ?_⟩,trivial⟩ trivial⟩;focus (first|rfl|(simp;done)|(simp_all;done)|omega)
   refine rq ?_;rotate_left;all_goals (refine congrArg D.bool ?_;first|(rw[zbr (i:=i) (by omega) (by omega) (by first|assumption|(simp;assumption)|(simp_all;done))];done)|(rw[zbs (by omega) (fun x hx=>hg1.2 x (by omega))];done))
  ·have hT3:p.op=3->zau w (zaf w) (n+1) ⟨a,k⟩ p=false:=fun h3=>zvl h3 (zhh h (by omega) (by omega) (by omega));have hT6:p.op=6->zau w (zaf w) (n+1) ⟨a,k⟩ p=zau w (zaf w) n ⟨a,k⟩ (nth p.kids 0):=fun h6=>zjp h6 (zcr h h6).1;have hT1:p.op=1\/p.op=2->zau w (zaf w) (n+1) ⟨a,k⟩ p=decide (dv (zaf w) ⟨a,k⟩=0):=fun h1=>by rw[zbd,if_pos h1]
   have hT5:p.op=5->zau w (zaf w) (n+1) ⟨a,k⟩ p=(zau w (zaf w) n ⟨a,k⟩ (nth p.kids 0)&&zau w (zaf w) n ⟨a,k⟩ (nth p.kids 1)):=fun h5=>by rw[zbd,if_neg (by omega),if_pos h5]
   have hl6:p.op=6->p.kids.length=1:=fun h6=>(zcr h h6).1;have hlb:=hok.1;refine bd Tryz.f250 76 [] [] fun w0 F0 own kept hk=>?_;refine bx 3006 ?_;refine bx 3007 ?_;refine ev ?_;refine sq ?_ ?_<;>intro h1 h1p h1s<;>(try simp only[Q,Pat.cs_len] at h1p);refine sq ?_ ?_<;>intro h2 h2p h2s<;>(try simp only[Q,Pat.cs_len] at h2p);refine wc ze1 (hdp) rfl rfl ?_;refine ev ?_;refine rq ?_;rotate_left;refine sq ?_ ?_<;>intro h3 h3p h3s<;>(try simp only[Q,Pat.cs_len] at h3p);refine rq ?_;rotate_left;refine sq ?_ ?_<;>intro h4 h4p h4s<;>(try simp only[Q,Pat.cs_len] at h4p);refine xaU (i:=0) sl34 .none rfl rfl rfl rfl (zar (by omega)) rfl ?_;refine evd [] [] ?_;refine wc zeq (zbL hs n (hk1 (by omega)) hi (Pats.ok_mem hok.2 _ (zae (i:=0) (by omega)))) rfl rfl ?_;refine evd [] [] ?_;refine sq ?_ ?_<;>intro h5 h5p h5s<;>(try simp only[Q,Pat.cs_len] at h5p);refine dr ?_;refine rq ?_;rotate_left;refine xaU (i:=1) sl34 (.some rfl rfl h5) rfl rfl rfl rfl (zar (by omega)) rfl ?_;refine evd [] [(32,false)] ?_ ⟨⟨_,rfl,h5⟩,trivial⟩;refine Walk.call (cr:=[]) zeq (zbL hs n (hk2 (by omega)) hi (Pats.ok_mem hok.2 _ (zae (i:=1) (by omega)))) rfl (.some rfl rfl h5) rfl rfl (LeL.refl _) trivial rfl rfl rfl ?_;refine evd [] [(32,false)] ?_ ⟨⟨_,rfl,h5⟩,trivial⟩;refine dr ?_;refine rq ?_;rotate_left;refine sq ?_ ?_<;>intro h6 h6p h6s<;>(try simp only[Q,Pat.cs_len] at h6p);refine xaU (i:=0) sl34 .none rfl rfl rfl rfl (zar (by omega)) rfl ?_;refine evd [] [] ?_;refine wc zeq (zbL hs n (hk1 (by omega)) hi (Pats.ok_mem hok.2 _ (zae (i:=0) (by omega)))) rfl rfl ?_;refine evd [] [] ?_;refine dr ?_;refine rq ?_;rotate_left;exfalso;omega;refine sq ?_ ?_<;>intro h7 h7p h7s<;>(try simp only[Q,Pat.cs_len] at h7p);refine wc ze1 (hdp) rfl rfl ?_;refine ev ?_;refine rq ?_;rotate_left;refine sq ?_ ?_<;>intro h8 h8p h8s<;>(try simp only[Q,Pat.cs_len] at h8p);refine rq ?_;rotate_left;refine sq ?_ ?_<;>intro h9 h9p h9s<;>(try simp only[Q,Pat.cs_len] at h9p);refine xaU (i:=0) sl34 .none rfl rfl rfl rfl (zar (by omega)) rfl ?_;refine evd [] [] ?_;refine wc zeq (zbL hs n (hk1 (by omega)) hi (Pats.ok_mem hok.2 _ (zae (i:=0) (by omega)))) rfl rfl ?_;refine evd [] [] ?_;refine sq ?_ ?_<;>intro h10 h10p h10s<;>(try simp only[Q,Pat.cs_len] at h10p);refine dr ?_;refine rq ?_;rotate_left;refine xaU (i:=1) sl34 (.some rfl rfl h10) rfl rfl rfl rfl (zar (by omega)) rfl ?_;refine evd [] [(32,false)] ?_ ⟨⟨_,rfl,h10⟩,trivial⟩;refine Walk.call (cr:=[]) zeq (zbL hs n (hk2 (by omega)) hi (Pats.ok_mem hok.2 _ (zae (i:=1) (by omega)))) rfl (.some rfl rfl h10) rfl rfl (LeL.refl _) trivial rfl rfl rfl ?_;refine evd [] [(32,false)] ?_ ⟨⟨_,rfl,h10⟩,trivial⟩;refine dr ?_;refine rq ?_;rotate_left;refine sq ?_ ?_<;>intro h11 h11p h11s<;>(try simp only[Q,Pat.cs_len] at h11p);refine xaU (i:=0) sl34 .none rfl rfl rfl rfl (zar (by omega)) rfl ?_;refine evd [] [] ?_;refine wc zeq (zbL hs n (hk1 (by omega)) hi (Pats.ok_mem hok.2 _ (zae (i:=0) (by omega)))) rfl rfl ?_;refine evd [] [] ?_;refine dr ?_;refine rq ?_;rotate_left;exfalso;omega;all_goals (refine congrArg D.bool ?_;first|(rw[hT3 (by omega)];done)|(rw[hT3 (by omega)];rfl)|(rw[hT6 (by omega)];done)|(rw[hT1 (by omega),Bool.eq_iff_iff];simp;omega)|(rw[hT5 (by omega)];simp_all;done)|(rw[hT5 (by omega)];cases zau w (zaf w) n ⟨a,k⟩ (nth p.kids 0)<;>cases zau w (zaf w) n ⟨a,k⟩ (nth p.kids 1)<;>simp_all))
theorem zjP {w:List Data} (hs:WSmall w){a k:Int}{p:Pat} (hok:p.ok) (hsz:p.size<=1000000000000):
  FnD Tryz.prog 158 [.d (zah w),.agg [.d (.i a),.d (.i k)],.agg [.d (.i p.op),.d (.i p.ctor),.d (.i p.n),.d (.i p.m),.d (.i p.var),.d (zag p.kids)]] [] (.d (.bool (zqU w a k p))) []:=by
 have hpv:=zfT hs (a:=a) (k:=k) hok hsz;have pv:=pval hs (a:=a) (k:=k) (p:=p);have hin:zbp w a k p=true->InS (w.length*4) ⟨a,k⟩/\Spa w:=fun hv=>by
  have hv2:zbE w ⟨a,k⟩=true:=by unfold zbp at hv;rw[xad] at hv;exact hv.1
  refine⟨?_,zh2 hs (zbq hv2).1⟩;by_cases ha:a = -1
  ·exact .inl ha
  ·obtain⟨r1,r2,r3,r4⟩:=(pv hv).rng ha;obtain⟨d,rfl⟩:=Int.eq_ofNat_of_zero_le r1;obtain⟨q,rfl⟩:=Int.eq_ofNat_of_zero_le r3;exact zkA (by omega) (by omega)
 unfold zqU;refine bd Tryz.f158 19 [] [] fun w0 F0 own kept hk=>?_;refine bx 3004 ?_;refine bx 3005 ?_;refine ev ?_;refine wc zmI (hpv) rfl rfl ?_;refine ev ?_;refine sq ?_ ?_<;>intro h1 h1p h1s<;>(try simp only[Q] at h1p);refine rq ?_;rotate_left;refine wc ziM (zek (pv (by assumption)).dp) rfl rfl ?_;refine evd [] [] ?_;refine wc zeq (zbL (hin (by assumption)).2 10 (pv (by assumption)).shape (hin (by assumption)).1 hok) rfl rfl ?_;refine evd [] [] ?_;refine dr ?_;refine rq ?_;rotate_left;all_goals (refine congrArg D.bool ?_;simp_all;done)
mutual
def hitP:Pat->Val->Bool
 | .mk op c n m _ ks,v=>if op=3 then zat v.num n m else if op=4 then decide (c=v.ctor)&&hitL ks v.kids else true
def hitL:List Pat->List Val->Bool
 |p::r,v::s=>hitP p v&&hitL r s
 |_,_=>true
end
theorem zos (p:Pat) (v:Val):hitP p v=if p.op=3 then zat v.num p.n p.m else if p.op=4 then decide (p.ctor=v.ctor)&&hitL p.kids v.kids else true:=by
 cases p;unfold hitP;rfl
theorem zg9 {p:Pat}{v:Val} (h:p.op=1):hitP p v=true:=by rw[zos,if_neg (by omega),if_neg (by omega)]
theorem zjx {p:Pat}{v:Val} (h:p.op=3):hitP p v=zat v.num p.n p.m:=by rw[zos,if_pos h]
theorem zdD {p:Pat}{v:Val} (h:p.op=4):hitP p v=(decide (p.ctor=v.ctor)&&hitL p.kids v.kids):=by rw[zos,if_neg (by omega),if_pos h]
theorem zl4:∀ {l:List Pat}{s:List Val},l.length=s.length->(hitL l s=true↔∀i,i<l.length->hitP (nth l i) (nth s i)=true)
 | [],[],_=>by simp[hitL]
 |p::r,v::s,h=>by
  have ih:=zl4 (l:=r) (s:=s) (by simpa using h);simp only[hitL,xad,ih];constructor
  ·rintro ⟨h1,h2⟩ i hi
   cases i with
   |zero=>exact h1
   |succ i=>exact h2 i (by simpa using hi)
  ·intro h1;exact⟨h1 0 (by simp),fun i hi=>h1 (i+1) (by simpa using hi)⟩
 | [],_::_,h=>by simp at h
 |_::_,[],h=>by simp at h
theorem zq9 {α:Type}:∀(l:List α) (s:List Val),hitL (l.map fun _=>anyQ) s=true
 | [],_=>by simp[hitL]
 |_::_,[]=>by simp[hitL]
 |_::r,v::s=>by simp only[xae,hitL,zq9 r s,Bool.and_true];exact zg9 rfl
theorem zgC:∀(l:List Pat) (s:List Val) (p:Pat) (v:Val),l.length=s.length->hitL (l++[p]) (s++[v])=(hitL l s&&hitP p v)
 | [],[],p,v,_=>by simp[hitL]
 |q::r,x::s,p,v,h=>by
  simp only[xag,hitL,zgC r s p v (by simpa using h),Bool.and_assoc]
 | [],_::_,_,_,h=>by simp at h
 |_::_,[],_,_,h=>by simp at h
theorem zra:∀(l:List Pat) (s:List Val) (r:List Pat) (q:List Val),l.length=s.length->hitL (l++r) (s++q)=(hitL l s&&hitL r q)
 | [],[],r,q,_=>by simp[hitL]
 |p::l,x::s,r,q,h=>by
  simp only[xag,hitL,zra l s r q (by simpa using h),Bool.and_assoc]
 | [],_::_,_,_,h=>by simp at h
 |_::_,[],_,_,h=>by simp at h
theorem zvn {w:List Data}{m:Nat}{t:Ty}{v:Val} (h:zaK w m t v=true) (ht:t.data = -1):0<=v.num/\v.num<=9:=by
 cases m with
 |zero=>simp[zaK] at h
 |succ m=>
  unfold zaK at h;rw[if_pos ht] at h;simp only[xad,decide_eq_true_eq] at h;omega
theorem zrt:∀(ls:List (List Pat)) (vs:List Val) (out:List (List Pat)) (v0:List Val),ls.length=vs.length->(∀q∈out,q.length=v0.length)->
  ((∃l∈ls.foldl zbb out,hitL l (v0++vs)=true)↔(∃q∈out,hitL q v0=true)/\∀i,i<ls.length->∃x∈nth ls i,hitP x (nth vs i)=true)
 | [],[],out,v0,_,_=>by simp
 |l::r,v::s,out,v0,h,ho=>by
  have ih:=zrt r s (zbb out l) (v0++[v]) (by simpa using h) (fun q hq=>by
   unfold zbb at hq;obtain⟨q0,h1,h2⟩:=List.mem_flatMap.1 hq;obtain⟨c,h3,rfl⟩:=List.mem_map.1 h2;simp[ho q0 h1])
  rw[List.append_assoc] at ih;rw[List.foldl_cons,show v0++v::s=v0++([v]++s) from rfl,ih];constructor
  ·rintro ⟨⟨q,hq,hh⟩,h2⟩
   unfold zbb at hq;obtain⟨q0,h3,h4⟩:=List.mem_flatMap.1 hq;obtain⟨c,h5,rfl⟩:=List.mem_map.1 h4;rw[zgC q0 v0 c v (ho q0 h3),xad] at hh;refine⟨⟨q0,h3,hh.1⟩,fun i hi=>?_⟩;cases i with
   |zero=>exact⟨c,h5,hh.2⟩
   |succ i=>exact h2 i (by simpa using hi)
  ·rintro ⟨⟨q,hq,hh⟩,h2⟩
   obtain⟨c,h5,h6⟩:=h2 0 (by simp);refine⟨⟨q++[c], ?_, ?_⟩,fun i hi=>h2 (i+1) (by simpa using hi)⟩
   ·unfold zbb;exact List.mem_flatMap.2 ⟨q,hq,List.mem_map.2 ⟨c,h5,rfl⟩⟩
   ·rw[zgC q v0 c v (ho q hq),hh];exact h6
 | [],_::_,_,_,h,_=>by simp at h
 |_::_,[],_,_,h,_=>by simp at h
theorem zhc {f:Pat->Val->List Bd×Bool}:∀ {a:List Pat}{b:List Val}{acc:List Bd},a.length=b.length->((zbx f a b acc).2=true↔∀i,i<a.length->(f (nth a i) (nth b i)).2=true)
 | [],[],acc,_=>by simp[zbx]
 |p::r,v::s,acc,h=>by
  unfold zbx;by_cases hp:(f p v).2=true
  ·rw[if_pos hp,zhc (a:=r) (b:=s) (by simpa using h)];constructor
   ·intro h1 i hi;cases i with
    |zero=>exact hp
    |succ i=>exact h1 i (by simpa using hi)
   ·intro h1 i hi;exact h1 (i+1) (by simpa using hi)
  ·rw[if_neg hp];constructor
   ·intro h1;cases h1
   ·intro h1;exact absurd (h1 0 (by simp)) hp
 | [],_::_,_,h=>by simp at h
 |_::_,[],_,h=>by simp at h
theorem zn3 {p:Pat} (h5:p.op≠5) (hk:p.kids=[]):zaD p=[p]:=by
 rw[zd2 h5,hk];cases p
 simp only[zcz] at hk;subst hk;simp[zeS,zei,zgf,mk_n,mk_m,zi1]
theorem ze2 {w:List Data}:∀(n m:Nat){t:Ty}{p:Pat}{v:Val},zan w n t p=true->zaK w m t v=true->((zaw n p v).2=true↔∃x∈zaD (zaC p),hitP x v=true)
 |0,m,t,p,v,h,_=>by simp[zan] at h
 |n+1,0,t,p,v,_,h=>by simp[zaK] at h
 |n+1,m+1,t,p,v,h,hv=>by
  rcases zfd h with h1|h2|h3|h4|h5|h6
  ·have hk:=zhh h (by omega) (by omega) (by omega);rw[zfj h1,zc6,if_neg (by omega),if_neg (by omega),zn3 (by rw[zei];omega) (by rw[zcz,hk];rfl)];simp only[List.mem_singleton,exists_eq_left,true_iff];exact zg9 h1
  ·rw[zf9 h2,zc6,if_pos h2,zmF];simp only[List.mem_singleton,exists_eq_left,true_iff];exact zg9 rfl
  ·have hk:=zhh h (by omega) (by omega) (by omega);rw[zeQ h3,zc6,if_neg (by omega),if_neg (by omega),zn3 (by rw[zei];omega) (by rw[zcz,hk];rfl)];simp only[List.mem_singleton,exists_eq_left];rw[zjx (p:= .mk p.op p.ctor p.n p.m p.var (p.kids.map zaC)) h3];exact Iff.rfl
  ·have hs:=h;unfold zan at hs;rw[xad,zaU h4] at hs;have hl:=zeZ hs.2;rw[zc6,if_neg (by omega),if_neg (by omega),zd2 (by rw[zei];omega)];have hd:t.data≠ -1:=fun e=>by
    have:=zb2 hs.1 h4;unfold zal at this;rw[if_pos e] at this;simp at this
   obtain⟨f1,f2,f3⟩:=zdR hv hd;by_cases hc:p.ctor=v.ctor
   ·rw[zga h4 hc];rw[hc] at hl hs;have hlen:p.kids.length=v.kids.length:=by omega
    rw[zhc hlen];have hp:=zrt ((p.kids.map zaC).map zaD) v.kids [[]] [] (by simp[hlen]) (by simp);simp only[List.nil_append,List.mem_singleton,exists_eq_left,hitL,true_and,xac] at hp;have hih:∀i,i<p.kids.length->((zaw n (nth p.kids i) (nth v.kids i)).2=true↔∃x∈nth ((p.kids.map zaC).map zaD) i,hitP x (nth v.kids i)=true):=fun i hi=>by
     rw[ze2 n m (zc5 hl hs.2 i (by omega)) (f3 i (by omega))];have e:nth ((p.kids.map zaC).map zaD) i=zaD (zaC (nth p.kids i)):=by
      rw[za1 (by simpa using hi),za1 hi];simp
     rw[e]
    constructor
    ·intro h1;obtain⟨l,hl2,hh⟩:=hp.2 (fun i hi=>(hih i hi).1 (h1 i hi));refine⟨_,List.mem_map.2 ⟨l,hl2,rfl⟩, ?_⟩;rw[zdD (by rw[zei];exact h4)];simp only[zgf,zcz,hc,hh,decide_true,Bool.and_self]
    ·rintro ⟨x,hx,hh⟩ i hi
     obtain⟨l,hl2,rfl⟩:=List.mem_map.1 hx;rw[zdD (by rw[zei];exact h4),xad] at hh;exact(hih i hi).2 (hp.1 ⟨l,hl2,hh.2⟩ i hi)
   ·rw[zgb h4 hc];constructor
    ·intro h1;cases h1
    ·rintro ⟨x,hx,hh⟩
     obtain⟨l,hl2,rfl⟩:=List.mem_map.1 hx;rw[zdD (by rw[zei];exact h4),xad] at hh;exact absurd (of_decide_eq_true hh.1) hc
  ·obtain⟨l2,s0,s1⟩:=zfq h h5;have ee:p.kids.map zaC=[zaC (nth p.kids 0),zaC (nth p.kids 1)]:=by
    match hk:p.kids,l2 with
    | [a,b],_=>rfl
   rw[zc6,if_neg (by omega),if_neg (by omega),zgn (by rw[zei];exact h5) (by rw[zcz];simpa using l2),zcz,ee];have i0:=ze2 n (m+1) s0 hv;have i1:=ze2 n (m+1) s1 hv;have e0:nth [zaC (nth p.kids 0),zaC (nth p.kids 1)] 0=zaC (nth p.kids 0):=rfl;have e1:nth [zaC (nth p.kids 0),zaC (nth p.kids 1)] 1=zaC (nth p.kids 1):=rfl;rw[e0,e1];by_cases hm:(zaw n (nth p.kids 0) v).2=true
   ·rw[zfb h5 hm];obtain⟨x,hx,hh⟩:=i0.1 hm;simp only[true_iff];exact⟨x,List.mem_append_left _ hx,hh⟩
   ·rw[zgc h5 (by simpa using hm),i1];constructor
    ·rintro ⟨x,hx,hh⟩
     exact⟨x,List.mem_append_right _ hx,hh⟩
    ·rintro ⟨x,hx,hh⟩
     rcases List.mem_append.1 hx with hx|hx
     ·exact absurd (i0.2 ⟨x,hx,hh⟩) hm
     ·exact⟨x,hx,hh⟩
  ·obtain⟨l1,s0⟩:=zcr h h6;rw[zfk h6,zc6,if_neg (by omega),if_pos ⟨h6,fun e=>by rw[e] at l1;simp at l1⟩];exact ze2 n (m+1) s0 hv
theorem zpm {w:List Data}:∀(n k m:Nat){t:Ty}{p:Pat}{v:Val},zan w n t p=true->zai w k t p=true->zaK w m t v=true->(zaw n p v).2=hitP p v
 |0,k,m,t,p,v,h,_,_=>by simp[zan] at h
 |n+1,0,m,t,p,v,_,h,_=>by simp[zai] at h
 |n+1,k+1,0,t,p,v,_,_,h=>by simp[zaK] at h
 |n+1,k+1,m+1,t,p,v,h,hp,hv=>by
  rcases zbF hp with h1|h3|h4
  ·rw[zfj h1,zg9 h1]
  ·rw[zeQ h3,zjx h3]
  ·have hs:=h;unfold zan at hs;rw[xad,zaU h4] at hs;have hl:=zeZ hs.2;obtain⟨m1,m2,m3,m4⟩:=zaM hp h4;obtain⟨f1,f2,f3⟩:=zdR hv m2;rw[zdD h4];by_cases hc:p.ctor=v.ctor
   ·rw[zga h4 hc,decide_eq_true hc,Bool.true_and,Bool.eq_iff_iff];rw[hc] at hl hs m3;rw[zhc (by omega),zl4 (by omega)];have hk:∀i,i<p.kids.length->(zaw n (nth p.kids i) (nth v.kids i)).2=hitP (nth p.kids i) (nth v.kids i):=fun i hi=>by
     have hpk:=za4 hp hi;rw[zaU h4,hc] at hpk;exact zpm n k m (zc5 hl hs.2 i (by omega)) hpk (f3 i (by omega))
    constructor
    ·intro h1 i hi;rw[<-hk i hi];exact h1 i hi
    ·intro h1 i hi;rw[hk i hi];exact h1 i hi
   ·rw[zgb h4 hc,decide_eq_false hc,Bool.false_and]
theorem zpn {f:Pat->Pat->Option Pat}:∀ {a b:List Pat}{acc:List Pat}{s q:List Val},a.length=b.length->a.length=s.length->acc.length=q.length->
  (∀i,i<a.length->match f (nth a i) (nth b i) with
   |none=>(hitP (nth a i) (nth s i)&&hitP (nth b i) (nth s i))=false
   |some x=>hitP x (nth s i)=(hitP (nth a i) (nth s i)&&hitP (nth b i) (nth s i)))->
  match zb4 f a b acc with
   |none=>(hitL a s&&hitL b s)=false
   |some l=>hitL l (q++s)=(hitL acc q&&(hitL a s&&hitL b s))
 | [],[],acc,[],q,_,_,ha,_=>by simp[zb4,hitL]
 |p::r,p2::r2,acc,v::s,q,h1,h2,ha,hf=>by
  have h0:=hf 0 (by simp);have e1:nth (p::r) 0=p:=rfl;have e2:nth (p2::r2) 0=p2:=rfl;have e3:nth (v::s) 0=v:=rfl;rw[e1,e2,e3] at h0;unfold zb4;cases hx:f p p2 with
  |none=>
   rw[hx] at h0;simp only[hitL];dsimp only at h0;cases ha1:hitP p v<;>cases hb1:hitP p2 v<;>simp_all
  |some x=>
   rw[hx] at h0;dsimp only at h0 ⊢;have ih:=zpn (f:=f) (a:=r) (b:=r2) (acc:=acc++[x]) (s:=s) (q:=q++[v]) (by simpa using h1) (by simpa using h2) (by simp[ha]) (fun i hi=>hf (i+1) (by simpa using hi));cases hm:zb4 f r r2 (acc++[x]) with
   |none=>
    rw[hm] at ih;dsimp only at ih ⊢;simp only[hitL];cases ha1:hitP p v<;>cases hb1:hitP p2 v<;>simp_all
   |some l=>
    rw[hm] at ih;dsimp only at ih ⊢;rw[show q++v::s=q++[v]++s by simp,ih,zgC acc q x v ha,h0];simp only[hitL];cases hitL acc q<;>cases hitP p v<;>cases hitP p2 v<;>cases hitL r s<;>cases hitL r2 s<;>rfl
 | [],_::_,_,_,_,h,_,_,_=>by simp at h
 |_::_,[],_,_,_,h,_,_,_=>by simp at h
 | [],[],_,_::_,_,_,h,_,_=>by simp at h
 |_::_,_::_,_,[],_,_,h,_,_=>by simp at h
theorem zsi {x a b c d:Int}:zat x (maxQ a c) (minQ b d)=(zat x a b&&zat x c d):=by
 unfold zat maxQ minQ;rw[Bool.eq_iff_iff];simp only[xad,decide_eq_true_eq];split<;>split<;>omega
theorem zrh {w:List Data}:∀(k m:Nat){t:Ty}{a b:Pat}{v:Val},zai w k t a=true->zai w k t b=true->zaK w m t v=true->∀n,k<=n->match zaL n a b with
  |none=>(hitP a v&&hitP b v)=false
  |some x=>hitP x v=(hitP a v&&hitP b v)
 |0,m,t,a,b,v,ha,_,_,_,_=>by simp[zai] at ha
 |k+1,0,t,a,b,v,_,_,hv,_,_=>by simp[zaK] at hv
 |k+1,m+1,t,a,b,v,_,_,_,0,h=>by omega
 |k+1,m+1,t,a,b,v,ha,hb,hv,n+1,hn=>by
  by_cases h1:a.op=1
  ·rw[zkG h1];dsimp only;rw[zg9 h1,Bool.true_and]
  by_cases h2:b.op=1
  ·rw[zkH h1 h2];dsimp only;rw[zg9 h2,Bool.and_true]
  have hs:=zdk ha hb h1 h2;have oa:=zbF ha;by_cases h3:a.op=3
  ·rw[zkI h3 h2,zjx h3,zjx (p:=b) (by omega),<-zsi];split
   ·rename_i x hx;split at hx
    ·cases hx
    ·unfold zat;simp only[Bool.and_eq_false_iff,decide_eq_false_iff_not];omega
   ·rename_i x hx;split at hx
    ·cases hx;rfl
    ·cases hx
  have h4:a.op=4:=by omega
  have hb4:b.op=4:=by omega
  rw[zdD h4,zdD hb4];obtain⟨m1,m2,m3,m4⟩:=zaM ha h4;obtain⟨n1,n2,n3,n4⟩:=zaM hb hb4;obtain⟨f1,f2,f3⟩:=zdR hv m2;by_cases hc:a.ctor=b.ctor
  ·rw[zkJ h4 h2 hc];rw[<-hc] at n3 ⊢;by_cases hcv:a.ctor=v.ctor
   ·rw[decide_eq_true hcv];have hl:=zpn (f:=zaL n) (a:=a.kids) (b:=b.kids) (acc:=[]) (s:=v.kids) (q:=[]) (by omega) (by rw[hcv] at m3;omega) rfl (fun i hi=>by
     have ka:=za4 ha (i:=i) hi;have kb:=za4 hb (i:=i) (by omega);rw[zaU h4,hcv] at ka;rw[zaU hb4,<-hc,hcv] at kb;exact zrh k m ka kb (f3 i (by rw[hcv] at m3;omega)) n (by omega))
    cases hx:zb4 (zaL n) a.kids b.kids [] with
    |none=>
     rw[hx] at hl;dsimp only[Option.map_none] at hl ⊢;rw[Bool.true_and,Bool.true_and];exact hl
    |some l=>
     rw[hx] at hl;dsimp only[Option.map_some] at hl ⊢;rw[zdD (by rfl)];show(decide (a.ctor=v.ctor)&&hitL l v.kids)=_
     rw[decide_eq_true hcv];simpa [hitL] using hl
   ·rw[decide_eq_false hcv];cases hx:zb4 (zaL n) a.kids b.kids [] with
    |none=>rfl
    |some l=>
     dsimp only[Option.map_some];rw[zdD (by rfl)];show(decide (a.ctor=v.ctor)&&hitL l v.kids)=_
     rw[decide_eq_false hcv];rfl
  ·rw[ziZ h4 h2 hc];dsimp only;by_cases hcv:a.ctor=v.ctor
   ·rw[decide_eq_false (p:=b.ctor=v.ctor) (by omega)];simp
   ·rw[decide_eq_false hcv];simp
def one (b:Bool):Nat:=if b=true then 1 else 0
theorem zo2 {a b:Int}{v:Val}:(zb1 a b).countP (fun x=>hitP x v)=one (zat v.num a b):=by
 unfold zb1 one;split
 ·rw[List.countP_singleton,zjx rfl];rfl
 ·rename_i h;have:zat v.num a b=false:=by unfold zat;simp only[Bool.and_eq_false_iff,decide_eq_false_iff_not];omega
  rw[this];rfl
theorem zuj {c:Int}{pre:List Pat}{s:List Pat}{v0:Val}{vf vs:List Val}{v:Val} (hv:v.kids=vf++v0::vs) (hl:pre.length=vf.length) (l:List Pat):
  (l.map (fun z=>zbw c (pre++[z]++s))).countP (fun x=>hitP x v)=one (decide (c=v.ctor)&&(hitL pre vf&&hitL s vs))*l.countP (fun z=>hitP z v0):=by
 rw[List.countP_map];have hz:∀z,hitP (zbw c (pre++[z]++s)) v=((decide (c=v.ctor)&&(hitL pre vf&&hitL s vs))&&hitP z v0):=fun z=>by
  rw[zdD rfl];show(decide (c=v.ctor)&&hitL (pre++[z]++s) v.kids)=_
  rw[hv,show vf++v0::vs=vf++([v0]++vs) by simp,List.append_assoc,zra pre vf _ _ hl];show(decide (c=v.ctor)&&(hitL pre vf&&(hitP z v0&&hitL s vs)))=_
  cases decide (c=v.ctor)<;>cases hitL pre vf<;>cases hitP z v0<;>cases hitL s vs<;>rfl
 cases hb:(decide (c=v.ctor)&&(hitL pre vf&&hitL s vs)) with
 |true=>
  rw[show one true=1 from rfl,Nat.one_mul];congr 1
  funext z
  show hitP (zbw c (pre++[z]++s)) v=_
  rw[hz,hb,Bool.true_and]
 |false=>
  rw[show one false=0 from rfl,Nat.zero_mul];rw[List.countP_eq_zero];intro z _;show ¬hitP (zbw c (pre++[z]++s)) v=true
  rw[hz,hb];simp
theorem zvv:∀d f x y s b:Bool,one (d&&(f&&s))*one (x&& !y)+one (d&&((f&&(x&&y))&&(s&& !b)))=one (d&&(f&&((x&&s)&& !(y&&b)))):=by decide
theorem zvu:∀d f x y s b:Bool,(x&&y)=false->one (d&&(f&&s))*one (x&& !y)+0=one (d&&(f&&((x&&s)&& !(y&&b)))):=by decide
theorem zuF {x la ha bn bm:Int} (h:bn<=bm):one (zat x la (minQ ha (bn-1)))+one (zat x (maxQ la (bm+1)) ha)=one (zat x la ha&& !zat x bn bm):=by
 have e1:zat x la (minQ ha (bn-1))=(zat x la ha&&decide (x<bn)):=by
  unfold zat minQ;rw[Bool.eq_iff_iff];simp only[xad,decide_eq_true_eq];split<;>omega
 have e2:zat x (maxQ la (bm+1)) ha=(zat x la ha&&decide (bm<x)):=by
  unfold zat maxQ;rw[Bool.eq_iff_iff];simp only[xad,decide_eq_true_eq];split<;>omega
 have e3:zat x bn bm=(!decide (x<bn)&& !decide (bm<x)):=by
  unfold zat;rw[Bool.eq_iff_iff];simp only[xad,Bool.not_eq_true',decide_eq_true_eq,decide_eq_false_iff_not];omega
 have key:∀q u v:Bool,(u&&v)=false->one (q&&u)+one (q&&v)=one (q&& !(!u&& !v)):=by decide
 rw[e1,e2,e3];refine key _ _ _ ?_;rw[Bool.and_eq_false_iff,decide_eq_false_iff_not,decide_eq_false_iff_not];omega
theorem znn {w:List Data}{f:Ty->Pat->Pat->List Pat}{m:Nat}{c:Int}{v:Val}:
  ∀ {us:List Ty}{xs bs front:List Pat}{vf vs:List Val},v.kids=vf++vs->front.length=vf.length->us.length=xs.length->bs.length=xs.length->vs.length=xs.length->
   (∀j,j<xs.length->zai w 11 (nth us j) (nth xs j)=true/\zai w 11 (nth us j) (nth bs j)=true/\zaK w m (nth us j) (nth vs j)=true/\(f (nth us j) (nth xs j) (nth bs j)).countP (fun x=>hitP x (nth vs j))=one (hitP (nth xs j) (nth vs j)&& !hitP (nth bs j) (nth vs j)))->
   (zaR f c us xs bs front).countP (fun x=>hitP x v)=one (decide (c=v.ctor)&&(hitL front vf&&(hitL xs vs&& !hitL bs vs)))
 | [],[],[],front,vf,[],_,_,_,_,_,_=>by
  simp only[zaR,List.countP_nil,hitL];cases decide (c=v.ctor)<;>cases hitL front vf<;>rfl
 |u::us,x::xs,y::bs,front,vf,v0::vs,hv,hfl,h1,h2,h3,hf=>by
  have h0:=hf 0 (by simp);have e0:nth (u::us) 0=u:=rfl;have e1:nth (x::xs) 0=x:=rfl;have e2:nth (y::bs) 0=y:=rfl;have e3:nth (v0::vs) 0=v0:=rfl;rw[e0,e1,e2,e3] at h0;unfold zaR;rw[List.countP_append,zuj hv hfl,h0.2.2.2];have hm:=zrh 11 m h0.1 h0.2.1 h0.2.2.1 11 (Nat.le_refl _);cases hq:zaL 11 x y with
  |none=>
   rw[hq] at hm;dsimp only at hm ⊢;simp only[List.countP_nil,hitL];exact zvu _ _ _ _ _ _ hm
  |some both=>
   rw[hq] at hm;dsimp only at hm ⊢;have ih:=znn (w:=w) (f:=f) (m:=m) (c:=c) (v:=v) (us:=us) (xs:=xs) (bs:=bs) (front:=front++[both]) (vf:=vf++[v0]) (vs:=vs) (by rw[hv];simp) (by simp[hfl]) (by simpa using h1) (by simpa using h2) (by simpa using h3) (fun j hj=>hf (j+1) (by simpa using hj));rw[ih,zgC front vf both v0 hfl,hm];simp only[hitL];exact zvv _ _ _ _ _ _
 | [],_::_,_,_,_,_,_,_,h,_,_,_=>by simp at h
 |_::_,[],_,_,_,_,_,_,h,_,_,_=>by simp at h
 |_,[],_::_,_,_,_,_,_,_,h,_,_=>by simp at h
 |_,_::_,[],_,_,_,_,_,_,h,_,_=>by simp at h
 |_,[],_,_,_,_::_,_,_,_,_,h,_=>by simp at h
 |_,_::_,_,_,_,[],_,_,_,_,h,_=>by simp at h
theorem zlP {f:Ty->Pat->Pat->List Pat}{c:Int}{x:Pat}:∀ {us:List Ty}{xs bs front:List Pat},x∈zaR f c us xs bs front->∃l,x=zbw c l
 |u::us,a::xs,y::bs,front,h=>by
  unfold zaR at h;rcases List.mem_append.1 h with h|h
  ·obtain⟨z,_,rfl⟩:=List.mem_map.1 h;exact⟨_,rfl⟩
  ·cases hq:zaL 11 a y with
   |none=>rw[hq] at h;simp at h
   |some b=>rw[hq] at h;exact zlP h
 | [],_,_,_,h=>by simp[zaR] at h
 |_::_,[],_,_,h=>by simp[zaR] at h
 |_::_,_::_,[],_,h=>by simp[zaR] at h
theorem zo1 {c0:Int}{g:Int->List Pat}{v:Val}{k:Nat}:∀ {l:List Int},l.Nodup->c0∈l->(∀c∈l,c≠c0->(g c).countP (fun x=>hitP x v)=0)->(g c0).countP (fun x=>hitP x v)=k->(l.flatMap g).countP (fun x=>hitP x v)=k
 | [],_,h,_,_=>by simp at h
 |a::r,hn,hm,hz,hk=>by
  rw[List.flatMap_cons,List.countP_append];have hn':=List.nodup_cons.1 hn;by_cases ha:a=c0
  ·subst ha;have h0:(r.flatMap g).countP (fun x=>hitP x v)=0:=by
    rw[List.countP_eq_zero];intro x hx;obtain⟨c,hc,hx⟩:=List.mem_flatMap.1 hx;have:=hz c (by simp[hc]) (fun e=>hn'.1 (e ▸ hc));rw[List.countP_eq_zero] at this;exact this x hx
   omega
  ·have h1:=hz a (by simp) ha;have h2:=zo1 (g:=g) (v:=v) (k:=k) hn'.2 (by simpa [Ne.symm ha] using hm) (fun c hc=>hz c (by simp[hc])) hk;omega
section
variable {w:List Data} (hs:Spa w)
include hs
theorem zpq:∀(n m k:Nat){t:Ty}{a b:Pat}{v:Val},n<m->m<=12->InS (w.length*4) t->zai w m t a=true->zai w n t b=true->zaK w k t v=true->(zav w n t a b).countP (fun x=>hitP x v)=one (hitP a v&& !hitP b v)
 |0,m,k,t,a,b,v,_,_,_,_,hb,_=>by simp[zai] at hb
 |n+1,0,k,t,a,b,v,hn,_,_,_,_,_=>by omega
 |n+1,m+1,0,t,a,b,v,_,_,_,_,_,hv=>by simp[zaK] at hv
 |n+1,m+1,k+1,t,a,b,v,hn,h12,ht,ha,hb,hv=>by
  have hcc:∀a,zai w (m+1) t a=true->a.op=4->b.op=4->(zcS (zav w n) w t a b).countP (fun x=>hitP x v)=one (hitP a v&& !hitP b v):=fun a ha h4 h4b=>by
   obtain⟨m1,m2,m3,m4⟩:=zaM ha h4;obtain⟨n1,n2,n3,n4⟩:=zaM hb h4b;obtain⟨f1,f2,f3⟩:=zdR hv m2;rw[zdD h4,zdD h4b];unfold zcS;split
   ·rename_i hc;by_cases hcv:a.ctor=v.ctor
    ·have:=znn (w:=w) (f:=zav w n) (m:=k) (c:=a.ctor) (v:=v) (us:=zaa w t a.ctor) (xs:=a.kids) (bs:=b.kids) (front:=[]) (vf:=[]) (vs:=v.kids) rfl rfl m3.symm (by rw[<-hc] at n3;omega) (by rw[hcv] at m3;omega) (fun j hj=>by
      have ka:=za4 ha (i:=j) hj;have kb:=za4 hb (i:=j) (by rw[<-hc] at n3;omega);rw[zaU h4] at ka;rw[zaU h4b,<-hc] at kb;have kv:=f3 j (by rw[hcv] at m3;omega);rw[<-hcv] at kv;exact⟨zhz (by omega) ka,zhz (by omega) kb,kv,zpq n m k (by omega) (by omega) (zbc hs.dp ht m1 _ (zae (by omega))) ka kb kv⟩)
     rw[this,<-hc];simp only[hitL,one];cases decide (a.ctor=v.ctor)<;>cases hitL a.kids v.kids<;>cases hitL b.kids v.kids<;>rfl
    ·have hz:(zaR (zav w n) a.ctor (zaa w t a.ctor) a.kids b.kids []).countP (fun x=>hitP x v)=0:=by
      rw[List.countP_eq_zero];intro x hx;obtain⟨l,rfl⟩:=zlP hx;rw[zdD rfl];show ¬(decide (a.ctor=v.ctor)&&hitL l v.kids)=true
      rw[decide_eq_false hcv];simp
     rw[hz,decide_eq_false hcv];rfl
   ·rename_i hc;rw[List.countP_singleton,zdD h4];by_cases hcv:a.ctor=v.ctor
    ·rw[decide_eq_false (p:=b.ctor=v.ctor) (by omega)];simp only[Bool.false_and,Bool.not_false,Bool.and_true,one]
    ·rw[decide_eq_false hcv];rfl
  rcases zbF hb with h1|h3|h4
  ·rw[zhx h1,zg9 h1];simp[one]
  ·have hd:=(zcc hb h3).1;have hl:=zmc ha hd;have ib:=zcc hb h3;have fn:=zvn hv hd;rw[zi0 h3,zez,List.countP_append,zo2,zo2,zjx h3];have hav:hitP a v=zat v.num (lowQ a) (zcU a):=by
    unfold lowQ zcU;rcases zbF ha with h|h|h
    ·rw[zg9 h,if_pos h,if_pos h];unfold zat;rw[decide_eq_true (p:=0<=v.num) (by omega),decide_eq_true (p:=v.num<=9) (by omega)];rfl
    ·rw[zjx h,if_neg (by omega),if_neg (by omega)]
    ·exact absurd hd (zaM ha h).2.1
   rw[hav];exact zuF ib.2.2.1
  ·by_cases ha1:a.op=1
   ·rw[zhy h4 ha1,zg9 ha1,Bool.true_and];have hdt:=(zaM hb h4).2.1;obtain⟨f1,f2,f3⟩:=zdR hv hdt;obtain⟨q,rfl⟩:∃q,m=q+1:=⟨m-1,by omega⟩;refine zo1 (c0:=v.ctor) (hs.ctors t ht).2 f1 (fun c hc hne=>?_) ?_
    ·rw[hcc _ (zc2 hc) rfl h4,zdD rfl];show one ((decide (c=v.ctor)&&_)&&_)=0
     rw[decide_eq_false hne];rfl
    ·rw[hcc _ (zc2 f1) rfl h4,zdD (p:=zcb w t v.ctor) rfl];show one ((decide (v.ctor=v.ctor)&&hitL ((zaa w t v.ctor).map fun _=>anyQ) v.kids)&& !hitP b v)=_
     rw[zq9,decide_eq_true rfl];rfl
   ·have ha4:a.op=4:=by have:=zdk ha hb ha1 (by omega);omega
    rw[zec h4 ha4];exact hcc a ha ha4 h4
theorem zpg:∀(n m:Nat){t:Ty}{p:Pat}{v:Val},InS (w.length*4) t->zai w n t p=true->zaK w m t v=true->hitP p v=true->zau w (zaf w) n t p=false
 |0,m,t,p,v,_,h,_,_=>by simp[zai] at h
 |n+1,0,t,p,v,_,_,h,_=>by simp[zaK] at h
 |n+1,m+1,t,p,v,ht,hp,hv,hh=>by
  rcases zbF hp with h1|h3|h4
  ·rw[zhu h1];have:=zwJ hs.dp ht hv;exact decide_eq_false (by omega)
  ·exact zln hp h3
  ·cases he:zau w (zaf w) (n+1) t p with
   |false=>rfl
   |true=>
    exfalso;obtain⟨i,hi,hd⟩:=zl0 hp h4 he;obtain⟨m1,m2,m3,m4⟩:=zaM hp h4;obtain⟨f1,f2,f3⟩:=zdR hv m2;rw[zdD h4,xad] at hh;have hc:=of_decide_eq_true hh.1;rw[hc] at m3;have hk:=(zl4 (by omega)).1 hh.2 i hi;have hpk:=za4 hp hi;rw[zaU h4] at hpk;have:=zpg n m (zbc hs.dp ht m1 _ (zae (by rw[hc];omega))) hpk (by rw[hc];exact f3 i (by omega)) hk;rw[this] at hd;cases hd
theorem zmV {t:Ty}{v:Val}{m:Nat} (ht:InS (w.length*4) t) (hv:zaK w m t v=true){l:List Pat} (hl:∀a∈l,zai w 11 t a=true):(l.filter (zbC w t)).countP (fun x=>hitP x v)=l.countP (fun x=>hitP x v):=by
 rw[List.countP_filter];refine List.countP_congr (fun x hx=>?_);simp only[xad];constructor
 ·exact fun h=>h.1
 ·intro h;refine⟨h, ?_⟩;unfold zbC;rw[zpg hs 11 m ht (hl x hx) hv h];rfl
theorem zvB {t:Ty}{v:Val}{m:Nat} (ht:InS (w.length*4) t) (hv:zaK w m t v=true){b:Pat} (hb:zai w 10 t b=true){l:List Pat} (hl:∀a∈l,zai w 11 t a=true):
  (zb5 w t l b).countP (fun x=>hitP x v)=if hitP b v=true then 0 else l.countP (fun x=>hitP x v):=by
 unfold zb5;rw[zmV hs ht hv (fun x hx=>by
  obtain⟨a,ha,hx⟩:=List.mem_flatMap.1 hx;exact zfL 10 11 (by omega) (hl a ha) hb x hx)]
 induction l with
 |nil=>simp
 |cons a r ih=>
  rw[List.flatMap_cons,List.countP_append,ih (fun x hx=>hl x (by simp[hx])),zpq hs 10 11 m (by omega) (by omega) ht (hl a (by simp)) hb hv,List.countP_cons];unfold one;cases hitP b v<;>cases hitP a v<;>simp<;>omega
theorem zsV {t:Ty}{v:Val}{m:Nat} (ht:InS (w.length*4) t) (hv:zaK w m t v=true):∀ {away l r:List Pat},(∀b∈away,zai w 10 t b=true)->(∀a∈l,zai w 11 t a=true)->subL w t l away=some r->
  r.countP (fun x=>hitP x v)=if away.any (fun b=>hitP b v)=true then 0 else l.countP (fun x=>hitP x v)
 | [],l,r,_,_,h=>by rw[subL] at h;cases h;simp
 |b::away,l,r,hb,hl,h=>by
  rw[subL] at h;split at h
  ·rw[zsV ht hv (fun x hx=>hb x (by simp[hx])) (zfM hl (hb b (by simp))) h,zvB hs ht hv (hb b (by simp)) hl,List.any_cons];cases hitP b v<;>cases away.any (fun b=>hitP b v)<;>simp
  ·cases h
theorem zsj {t:Ty}{v:Val}{m:Nat} (ht:InS (w.length*4) t) (hv:zaK w m t v=true){away l r:List Pat} (hb:∀b∈away,zai w 10 t b=true) (hl:∀a∈l,zai w 11 t a=true) (h:zaJ w t l away=some r):
  r.countP (fun x=>hitP x v)=if away.any (fun b=>hitP b v)=true then 0 else l.countP (fun x=>hitP x v):=by
 unfold zaJ at h;rw[zsV hs ht hv hb (fun a ha=>hl a (List.mem_filter.1 ha).1) h,zmV hs ht hv hl]
end
def zfg (l:List Cl) (v:Val):Bool:=l.any fun c=>decide (c.g.op=0)&&(zaw 10 c.pat v).2
theorem zkn {w:List Data}{t:Ty}{v:Val}{m:Nat} (hv:zaK w m t v=true):∀(l:List Cl) (out r:List Pat),(∀c∈l,zan w 10 t c.pat=true)->zbj l out=some r->(r.any fun b=>hitP b v)=(out.any (fun b=>hitP b v)||zfg l v)
 | [],out,r,_,h=>by rw[zbj] at h;cases h;simp[zfg]
 |c::l,out,r,hc,h=>by
  rw[zbj] at h;have hm:=ze2 10 m (hc c (by simp)) hv;split at h
  ·rename_i hg;split at h
   ·rename_i hp;rw[zkn hv l _ r (fun x hx=>hc x (by simp[hx])) h,List.any_append];have e:(zdb c.pat).any (fun b=>hitP b v)=(zaw 10 c.pat v).2:=by
     have e1:zdb c.pat=zaD (zaC c.pat):=by unfold zdb;unfold zcM at hp;rw[if_pos (of_decide_eq_true hp)]
     rw[e1,Bool.eq_iff_iff,hm,List.any_eq_true]
    rw[e];unfold zfg;rw[List.any_cons,decide_eq_true hg,Bool.true_and,Bool.or_assoc]
   ·cases h
  ·rename_i hg;rw[zkn hv l _ r (fun x hx=>hc x (by simp[hx])) h];unfold zfg;rw[List.any_cons,decide_eq_false hg,Bool.false_and,Bool.false_or]
theorem zlS {w:List Data}{t:Ty}{l:List Cl}{ps:List Pat} (hm:zbG w t l=some ps):zbn w t l=true/\∃away,zbj l []=some away/\zaJ w t [anyQ] away=some ps/\ps.all (isP w t)=true:=by
 unfold zbG at hm;split at hm
 ·rename_i hv;refine⟨hv, ?_⟩;unfold zeh at hm;cases hq:zbj l [] with
  |none=>rw[hq] at hm;simp at hm
  |some away=>
   rw[hq] at hm;cases hw:zaJ w t [anyQ] away with
   |none=>simp[hw] at hm
   |some r=>
    simp only[hw] at hm;by_cases hr:r.all (isP w t)=true
    ·refine⟨away,rfl, ?_⟩;simp[hr] at hm;subst hm;exact⟨hw,hr⟩
    ·simp[hr] at hm
 ·cases hm
theorem zqM {w:List Data} (hs:WSmall w){a k:Int}{l:List Cl} (hv:zbn w ⟨a,k⟩ l=true):Spa w/\InS (w.length*4) ⟨a,k⟩:=by
 have htv:=zoh hv;refine⟨zh2 hs (zbq htv.1).1, ?_⟩;obtain⟨_,_,h3⟩:=zbq htv.1;by_cases ha:a = -1
 ·exact .inl ha
 ·obtain⟨h4,h5,h6,h7⟩:=h3 ha;have:=zkA (n:=w.length) h5 (j:=k.toNat) (by omega);rwa [Int.toNat_of_nonneg h4,Int.toNat_of_nonneg h6] at this
theorem zvy {w:List Data} (hs:WSmall w){a k:Int}{l:List Cl}{ps:List Pat}{v:Val}{m:Nat} (hl:ClsOk l) (hm:zbG w ⟨a,k⟩ l=some ps) (hv:zaK w m ⟨a,k⟩ v=true):
  ps.countP (fun x=>hitP x v)=(if zfg l v=true then 0 else 1)/\∀x∈ps,isP w ⟨a,k⟩ x=true/\zai w 11 ⟨a,k⟩ x=true:=by
 obtain⟨h1,away,h2,h3,h4⟩:=zlS hm;obtain⟨hsp,hin⟩:=zqM hs h1;have hsh:=zh9 h1 hl;obtain⟨p1,p2⟩:=zeb l [] away (fun c hc=>(hsh c hc).1) (by simp) h2;refine⟨?_,fun x hx=>⟨List.all_eq_true.1 h4 x hx,(zd8 away _ ps (fun x hx=>zem x (List.mem_filter.1 hx).1) (Nat.le_trans (List.length_filter_le _ _) (by simp)) p2 h3).2 x hx⟩⟩;rw[zsj hsp hin hv p2 zem h3,zkn hv l [] away (fun c hc=>(hsh c hc).1) h2];simp only[List.any_nil,Bool.false_or];rfl
theorem ztk {w:List Data}{a k:Int}{x:Pat}{v:Val}{m:Nat} (h:isP w ⟨a,k⟩ x=true) (hp:zai w 11 ⟨a,k⟩ x=true) (hv:zaK w m ⟨a,k⟩ v=true):(zaw 10 x v).2=hitP x v:=by
 unfold isP at h;rw[xad] at h;exact zpm 10 11 m h.1 hp hv
theorem zm3 {w:List Data}:∀(n:Nat){t:Ty}{v:Val},zaK w n t v=true->zaK w (n+1) t v=true
 |0,t,v,h=>by simp[zaK] at h
 |n+1,t,v,h=>by
  rw[zaK] at h ⊢;split
  ·rename_i hd;rw[if_pos hd] at h;exact h
  ·rename_i hd;rw[if_neg hd] at h;split at h
   ·rename_i hc;rw[if_pos hc];exact zjg (fun x _ y _ hxy=>zm3 n hxy) h
   ·cases h
theorem zhH {w:List Data}{n m:Nat} (h:n<=m){t:Ty}{v:Val} (hv:zaK w n t v=true):zaK w m t v=true:=by
 induction h with
 |refl=>exact hv
 |step _ ih=>exact zm3 _ ih
def szN:Nat->Nat
 |0=>0
 |n+1=>1+3*szN n
theorem Vals.size_of {m:Nat}:∀ {l:List Val},(∀k∈l,k.size<=m)->Vals.size l<=l.length*m
 | [],_=>by simp[Vals.size]
 |x::r,h=>by
  have h1:=h x (by simp);have h2:=Vals.size_of (l:=r) (fun y hy=>h y (by simp[hy]));simp only[Vals.size,xab,Nat.succ_mul];omega
theorem zo7 {w:List Data} (hs:Spa w):∀(n:Nat){t:Ty}{v:Val},InS (w.length*4) t->zaK w n t v=true->v.size<=szN n
 |0,t,v,_,h=>by simp[zaK] at h
 |n+1,t,v,ht,h=>by
  rw[Val.size_eq];by_cases hd:t.data = -1
  ·rw[zaK,if_pos hd] at h;simp only[xad,decide_eq_true_eq] at h;rw[List.eq_nil_of_length_eq_zero h.2.2.2];simp[Vals.size,szN]
  ·obtain⟨f1,f2,f3⟩:=zdR h hd;have h3:=hs.args t _ ht f1;have hz:=Vals.size_of (m:=szN n) (l:=v.kids) (fun k hk=>by
    obtain⟨i,hi,rfl⟩:=List.getElem_of_mem hk;have:=zo7 hs n (zbc hs.dp ht f1 _ (zae (i:=i) (by omega))) (f3 i hi);rwa [za1 hi] at this)
   have:v.kids.length*szN n<=3*szN n:=Nat.mul_le_mul_right _ (by omega);unfold szN;omega
structure Grid (w:List Data) (t:Ty) (S:Pat->Prop) (V:List Val):Prop where
 meet:∀n a b z,S a->S b->zaL n a b=some z->S z
 minus:∀n a b x,S a->S b->x∈zav w n t a b->S x
 hit:∀n p,S p->zai w n t p=true->zau w (zaf w) n t p=false->∃v∈V,hitP p v=true
 fits:∃m,∀v∈V,zaK w m t v=true
section
variable {w:List Data} (hs:Spa w){t:Ty} (ht:InS (w.length*4) t)
include hs ht
end
section
variable {w:List Data} (hs:Spa w){t:Ty} (ht:InS (w.length*4) t)
include hs ht
end
end Go.Proofs.YtlfipehhbdjnjaaGreat
namespace Go.Proofs.YtlfipehhbdjnjaaGreat
open Go
set_option linter.unusedSimpArgs false
set_option linter.unusedVariables false
end Go.Proofs.YtlfipehhbdjnjaaGreat
namespace Go.Proofs.YtlfipehhbdjnjaaGreat
open Go
set_option linter.unusedSimpArgs false
set_option linter.unusedVariables false
set_option maxRecDepth 100000
set_option maxHeartbeats 2000000
section
variable {w:List Data} (hs:Spa w){ta tk:Int} (ht:InS (w.length*4) ⟨ta,tk⟩){l:List Pat} (hl:∀a∈l,zai w 10 ⟨ta,tk⟩ a=true) (hb:l.length<=1600)
include hs ht hl hb
end
def shal (p:Pat):Prop:=p.op=1\/p.op=3\/∃c l,p=zbw c l/\∀k∈l,k=anyQ
def zqc (p:Pat):Prop:=p.op=1\/p.op=3\/∃c l,p=zbw c l/\∀k∈l,shal k
def PosP (K:Pat->Prop):Prop:=(∀k,K k->shal k)\/∃x,zqc x/\¬shal x/\∀k,K k->k=x
theorem zvM:shal anyQ:= .inl rfl
theorem zyu {p:Pat} (h:shal p):zqc p:=by
 rcases h with h|h|⟨c,l,h1,h2⟩
 ·exact .inl h
 ·exact .inr (.inl h)
 ·exact .inr (.inr ⟨c,l,h1,fun k hk=>by rw[h2 k hk];exact zvM⟩)
theorem PosP.two {K:Pat->Prop} (h:PosP K){k:Pat} (hk:K k):zqc k:=by
 rcases h with h|⟨x,h1,_,h2⟩
 ·exact zyu (h k hk)
 ·rw[h2 k hk];exact h1
theorem PosP.one {K:Pat->Prop} (h:∀k k',K k->K k'->k=k') (h2:∀k,K k->zqc k):PosP K:=by
 by_cases hx:∃k,K k/\¬shal k
 ·obtain⟨k,h3,h4⟩:=hx;exact .inr ⟨k,h2 k h3,h4,fun k' h5=>h k' k h5 h3⟩
 ·exact .inl fun k hk=>Classical.byContradiction fun h3=>hx ⟨k,hk,h3⟩
section
variable {w:List Data} (hs:Spa w)
include hs
end
def Dr:Nat->Pat->Prop
 |0,p=>p=anyQ
 |n+1,p=>p=anyQ\/(p.op=3/\p.kids=[])\/(p.op=5/\p.kids.length=2/\∀k∈p.kids,Dr n k)\/(p.op=4/\∀k∈p.kids,Dr n k)
theorem Dr.any (n:Nat):Dr n anyQ:=by cases n<;>simp[Dr]
theorem Dr.up:∀(n:Nat){p:Pat},Dr n p->Dr (n+1) p
 |0,p,h=> .inl h
 |n+1,p,h=>by
  rcases h with h|h|⟨h1,h2,h3⟩|⟨h1,h2⟩
  ·exact .inl h
  ·exact .inr (.inl h)
  ·exact .inr (.inr (.inl ⟨h1,h2,fun k hk=>Dr.up n (h3 k hk)⟩))
  ·exact .inr (.inr (.inr ⟨h1,fun k hk=>Dr.up n (h2 k hk)⟩))
theorem Dr.le {n m:Nat} (h:n<=m){p:Pat} (hp:Dr n p):Dr m p:=by
 induction h with
 |refl=>exact hp
 |step _ ih=>exact Dr.up _ ih
structure NamB (p r:Pat):Prop where
 bare:zaC r=p
 kids:(∀k∈r.kids,zaC k∈p.kids)\/(r.op=6/\r.kids.length=1)
theorem zvs {w:List Data}{t:Ty}{v:Val} (hv:isV w t v=true):zaK w 10 t v=true:=by unfold isV at hv;rw[xad] at hv;exact hv.1
mutual
theorem zuE:∀v:Val,v.size<=1000000000000->v.ok
 | .mk a n ks,h=>by
  have h1:1+Vals.size ks<=1000000000000:=h;exact⟨by have:=zsJ ks;omega,zsO ks (by omega)⟩
theorem zsO:∀l:List Val,Vals.size l<=1000000000000->Vals.ok l
 | [],_=>trivial
 |v::r,h=>by
  have h1:v.size+Vals.size r<=1000000000000:=h;exact⟨zuE v (by omega),zsO r (by omega)⟩
theorem zsJ:∀l:List Val,l.length<=Vals.size l
 | []=>Nat.zero_le _
 |v::r=>by
  have h1:=zsJ r;have h2:=Val.size_eq v;show r.length+1<=v.size+Vals.size r
  omega
end
def hitC (w:List Data) (t:Ty) (c:Int):Bool:=decide (most w (zaf w) t c=dv (zaf w) t)
def zdr (w:List Data) (t:Ty):Int:=((zal w t).find? (hitC w t)).getD 0
def zcf (w:List Data):Nat->Ty->Val
 |0,_=> .mk 0 0 []
 |n+1,t=>if t.data = -1 then .mk (-1) 0 [] else .mk (zdr w t) 0 ((zaa w t (zdr w t)).map (zcf w n))
structure Dq (w:List Data) (n:Nat) (t:Ty):Prop where
 ins:InS (w.length*4) t
 pos:0<dv (zaf w) t
 le:dv (zaf w) t<=n
theorem zjG {w:List Data} (hd:Dp w){n:Nat}{t:Ty} (h:Dq w n t) (hne:¬t.data = -1):zdr w t∈zal w t/\most w (zaf w) t (zdr w t)=dv (zaf w) t:=by
 obtain⟨c,hc,h1,h2⟩:=zps hd h.ins hne h.pos;unfold zdr;cases hf:(zal w t).find? (hitC w t) with
 |none=>exact absurd (decide_eq_true h2) (List.find?_eq_none.1 hf c hc)
 |some x=>exact⟨List.mem_of_find?_eq_some hf,of_decide_eq_true (show hitC w t x=true from List.find?_some hf)⟩
theorem zpk {w:List Data}{t:Ty}{pre rest:List Int}{y:Int} (h:pre++y::rest=zal w t) (h1:∀x∈pre,hitC w t x=false) (h2:hitC w t y=true):zdr w t=y:=by
 unfold zdr;rw[<-h,List.find?_append,List.find?_eq_none.2 (fun x hx=>by rw[h1 x hx];simp),Option.none_or,List.find?_cons_of_pos h2];rfl
theorem zkF {w:List Data} (hd:Dp w){n:Nat}{t:Ty} (h:Dq w (n+1) t) (hne:¬t.data = -1):∀u∈zaa w t (zdr w t),Dq w n u:=by
 intro u hu;obtain⟨h1,h2⟩:=zjG hd h hne;have hp:=h.pos;have hl:=h.le;have hin:=zbc hd h.ins h1 u hu;have hs:=(zgF (f:=zaf w) (l:=zaa w t (zdr w t)) (m:=0) (by show 0<most w (zaf w) t (zdr w t);omega)).2 u hu;have hlt:dv (zaf w) u<most w (zaf w) t (zdr w t):=hs.2;exact⟨hin,hs.1,by omega⟩
theorem zsC {w:List Data}{n:Nat}{t:Ty}{c:Int}{l:List Val} (hne:¬t.data = -1) (hm:c∈zal w t) (h:all2 (zaK w n) (zaa w t c) l=true):zaK w (n+1) t (.mk c 0 l)=true:=by
 unfold zaK;rw[if_neg hne,if_pos ⟨rfl,zpM hm⟩];exact h
theorem zq0 {w:List Data}{n:Nat}{t:Ty}{i:Int} (h:t.data = -1) (h0:0<=i) (h9:i<=9):zaK w (n+1) t (.mk (-1) i [])=true:=by
 unfold zaK;rw[if_pos h];simp only[xad,decide_eq_true_eq];exact⟨rfl,h0,h9,rfl⟩
theorem zwV {α β:Type} [Inhabited α] [Inhabited β]{f:α->β}{l:List α}{i:Nat} (h:i<l.length):nth (l.map f) i=f (nth l i):=by
 simp[nth,List.getD,h]
theorem zjH {w:List Data} (hd:Dp w):∀(n:Nat){t:Ty},Dq w n t->zaK w n t (zcf w n t)=true
 |0,t,h=>by have:=h.pos;have:=h.le;omega
 |n+1,t,h=>by
  unfold zcf;by_cases hne:t.data = -1
  ·rw[if_pos hne];exact zq0 hne (by omega) (by omega)
  ·rw[if_neg hne];refine zsC hne (zjG hd h hne).1 (zbs (by simp) (fun i hi=>?_));rw[zwV hi];exact zjH hd n (zkF hd h hne _ (zae hi))
def zipV (f:Ty->Pat->Val):List Ty->List Pat->List Val
 |t::r,p::s=>f t p::zipV f r s
 |_,_=>[]
theorem zgp {f:Ty->Pat->Val}:∀ {a:List Ty}{b:List Pat},a.length=b.length->(zipV f a b).length=a.length
 | [],[],_=>rfl
 |_::r,_::s,h=>by simp only[zipV,xab,zgp (f:=f) (a:=r) (b:=s) (by simpa using h)]
 | [],_::_,h=>by simp at h
 |_::_,[],h=>by simp at h
theorem zjW {f:Ty->Pat->Val}:∀ {a:List Ty}{b:List Pat}{i:Nat},a.length=b.length->i<a.length->nth (zipV f a b) i=f (nth a i) (nth b i)
 |_::_,_::_,0,_,_=>rfl
 |_::r,_::s,i+1,h,hi=>zjW (f:=f) (a:=r) (b:=s) (i:=i) (by simpa using h) (by simpa using hi)
 | [],[],_,_,hi=>by simp at hi
 | [],_::_,_,h,_=>by simp at h
 |_::_,[],_,h,_=>by simp at h
theorem zpR {f:Ty->Pat->Val}{a:List Ty}{b:List Pat}{i:Nat} (h:a.length=b.length) (hi:i<a.length):(zipV f a b).take (i+1)=(zipV f a b).take i++[f (nth a i) (nth b i)]:=by
 rw[<-zjW (f:=f) h hi,List.take_add_one];have hl:=zgp (f:=f) h;rw[show(zipV f a b)[i]?=some (nth (zipV f a b) i) from by simpa using zaq (f:=id) (l:=zipV f a b) (i:=i) (by omega)];rfl
def zaE (w:List Data):Nat->Ty->Pat->Val
 |0,_,_=> .mk 0 0 []
 |n+1,t,p=>
  if p.op=1\/p.op=2 then zcf w 10 t
  else if p.op=3 then .mk (-1) p.n []
  else if p.op=6 then zaE w n t (nth p.kids 0)
  else if p.op=5 then (if zau w (zaf w) n t (nth p.kids 0)=true then zaE w n t (nth p.kids 1) else zaE w n t (nth p.kids 0))
  else .mk p.ctor 0 (zipV (zaE w n) (zaa w t p.ctor) p.kids)
def zbz (w:List Data):Nat->Ty->Pat->Bool
 |0,_,_=>true
 |n+1,t,p=>if p.op=1\/p.op=2 then decide (10<dv (zaf w) t) else !(all2 (fun u q=> !zbz w n u q) (zac w t p) p.kids)
theorem zg8 {w:List Data}{n:Nat}{t:Ty}{p:Pat}:zbz w (n+1) t p=if p.op=1\/p.op=2 then decide (10<dv (zaf w) t) else !(all2 (fun u q=> !zbz w n u q) (zac w t p) p.kids):=rfl
section
variable {w:List Data}{n:Nat}{t:Ty}{p:Pat}
theorem zjN (h:p.op=1\/p.op=2):zaE w (n+1) t p=zcf w 10 t:=by unfold zaE;rw[if_pos h]
theorem zml (h:p.op=3):zaE w (n+1) t p = .mk (-1) p.n []:=by unfold zaE;rw[if_neg (by omega),if_pos h]
theorem zmn (h:p.op=6):zaE w (n+1) t p=zaE w n t (nth p.kids 0):=by
 conv=>lhs;unfold zaE
 rw[if_neg (by omega),if_neg (by omega),if_pos h]
theorem zkX (h:p.op=5) (he:zau w (zaf w) n t (nth p.kids 0)=true):zaE w (n+1) t p=zaE w n t (nth p.kids 1):=by
 conv=>lhs;unfold zaE
 rw[if_neg (by omega),if_neg (by omega),if_neg (by omega),if_pos h,if_pos he]
theorem zkY (h:p.op=5) (he:zau w (zaf w) n t (nth p.kids 0)=false):zaE w (n+1) t p=zaE w n t (nth p.kids 0):=by
 conv=>lhs;unfold zaE
 rw[if_neg (by omega),if_neg (by omega),if_neg (by omega),if_pos h,if_neg (by rw[he];simp)]
theorem zmm (h:p.op=4):zaE w (n+1) t p = .mk p.ctor 0 (zipV (zaE w n) (zaa w t p.ctor) p.kids):=by
 conv=>lhs;unfold zaE
 rw[if_neg (by omega),if_neg (by omega),if_neg (by omega),if_neg (by omega)]
theorem zmY (h:p.op=1\/p.op=2) (hd:zbz w (n+1) t p=false):dv (zaf w) t<=10:=by
 rw[zg8,if_pos h] at hd;have:=of_decide_eq_false hd;omega
theorem zdp (h:¬(p.op=1\/p.op=2)) (hd:zbz w (n+1) t p=false) (hl:(zac w t p).length=p.kids.length):∀i,i<p.kids.length->zbz w n (nth (zac w t p) i) (nth p.kids i)=false:=fun i hi=>by
 rw[zg8,if_neg h] at hd;have ha:all2 (fun u q=> !zbz w n u q) (zac w t p) p.kids=true:=by simpa using hd
 simpa using zc5 hl ha i (by omega)
end
theorem zfp {w:List Data} (hd:Dp w):∀(n:Nat){t:Ty}{p:Pat},zan w n t p=true->InS (w.length*4) t->zau w (zaf w) n t p=false->zbz w n t p=false->
  zaK w (n+10) t (zaE w n t p)=true/\(zaw n p (zaE w n t p)).2=true
 |0,t,p,h,_,_,_=>by simp[zan] at h
 |n+1,t,p,h,ht,he,hp=>by
  obtain⟨ho,hlen⟩:=zbe h;rcases zfd h with h1|h1|h3|h4|h5|h6
  ·have h8:=zmY (.inl h1) hp;rw[zbd,if_pos (.inl h1)] at he;have:=of_decide_eq_false he;rw[zjN (.inl h1),zfj h1];exact⟨zhH (by omega) (zjH hd 10 ⟨ht,by omega,h8⟩),rfl⟩
  ·have h8:=zmY (.inr h1) hp;rw[zbd,if_pos (.inr h1)] at he;have:=of_decide_eq_false he;rw[zjN (.inr h1),zf9 h1];exact⟨zhH (by omega) (zjH hd 10 ⟨ht,by omega,h8⟩),rfl⟩
  ·unfold ownP at ho;have hi:=(of_decide_eq_true ho).2.2.2.2;rw[zml h3,zeQ h3];refine⟨zq0 (by omega) (by omega) (by omega), ?_⟩;show zat p.n p.n p.m=true
   unfold zat;rw[xad,decide_eq_true_eq,decide_eq_true_eq];omega
  ·have hs:=h;unfold zan at hs;rw[xad,zaU h4] at hs;have hl:=zeZ hs.2;have hm:=zb2 hs.1 h4;have hdt:t.data≠ -1:=fun e=>by unfold zal at hm;rw[if_pos e] at hm;simp at hm
   rw[zbd,if_neg (by omega),if_neg (by omega),zaU h4] at he;have ha:all2 (fun u q=> !zau w (zaf w) n u q) (zaa w t p.ctor) p.kids=true:=by simpa using he
   have hdk:=zdp (by omega) hp hlen.symm;rw[zaU h4] at hdk;have ih:=fun i (hi:i<p.kids.length)=>zfp hd n (zc5 hl hs.2 i (by omega)) (zbc hd ht hm _ (zae (by omega))) (by have:=zc5 hl ha i (by omega);simpa using this) (hdk i hi);rw[zmm h4];refine⟨?_, ?_⟩
   ·rw[show n+1+10=(n+10)+1 by omega];refine zsC hdt hm (zbs (zgp hl).symm (fun i hi=>?_));rw[zjW hl hi];exact(ih i (by omega)).1
   ·rw[zga h4 rfl];refine(zhc (by rw[show Val.kids (.mk p.ctor 0 (zipV (zaE w n) (zaa w t p.ctor) p.kids))=zipV (zaE w n) (zaa w t p.ctor) p.kids from rfl,zgp hl];exact hl.symm)).2 (fun i hi=>?_);show(zaw n (nth p.kids i) (nth (zipV (zaE w n) (zaa w t p.ctor) p.kids) i)).2=true
    rw[zjW hl (by omega)];exact(ih i hi).2
  ·obtain⟨k1,k2,k3⟩:=zfq h h5;rw[zbd,if_neg (by omega),if_pos h5] at he;have e5:zac w t p=[t,t]:=by unfold zac;rw[if_neg (by omega),if_pos h5]
   have hdk:=zdp (by omega) hp hlen.symm;rw[e5] at hdk;have hk0:zbz w n t (nth p.kids 0)=false:=hdk 0 (by omega);have hk1:zbz w n t (nth p.kids 1)=false:=hdk 1 (by omega);cases e0:zau w (zaf w) n t (nth p.kids 0) with
   |false=>
    obtain⟨h7,h8⟩:=zfp hd n k2 ht e0 hk0;rw[zkY h5 e0];exact⟨zhH (by omega) h7,by rw[zfb h5 h8]⟩
   |true=>
    rw[e0,Bool.true_and] at he;obtain⟨h7,h8⟩:=zfp hd n k3 ht he hk1;rw[zkX h5 e0];refine⟨zhH (by omega) h7, ?_⟩;cases e2:(zaw n (nth p.kids 0) (zaE w n t (nth p.kids 1))).2 with
    |true=>rw[zfb h5 e2]
    |false=>rw[zgc h5 e2];exact h8
  ·obtain⟨k1,k2⟩:=zcr h h6;rw[zjp h6 k1] at he;have e6:zac w t p=[t]:=by unfold zac;rw[if_neg (by omega),if_neg (by omega),if_pos (by omega)]
   have hdk:=zdp (by omega) hp hlen.symm;rw[e6] at hdk;obtain⟨h7,h8⟩:=zfp hd n k2 ht he (hdk 0 (by omega));rw[zmn h6];exact⟨zhH (by omega) h7,by rw[zfk h6];exact h8⟩
def zbH (w:List Data) (a k:Int) (p:Pat):Option Val:=
 if zbp w a k p=true/\zau w (zaf w) 10 ⟨a,k⟩ p=false/\zbz w 10 ⟨a,k⟩ p=false/\isV w ⟨a,k⟩ (zaE w 10 ⟨a,k⟩ p)=true then some (zaE w 10 ⟨a,k⟩ p) else none
abbrev optV (o:Option Val):Val:=o.getD (.mk 0 0 [])
theorem zfS {w:List Data} (hs:WSmall w){a k:Int}{p:Pat} (h:zbp w a k p=true):Spa w/\InS (w.length*4) ⟨a,k⟩/\zan w 10 ⟨a,k⟩ p=true/\zbE w ⟨a,k⟩=true:=by
 unfold zbp at h;rw[xad] at h;have hshape:zan w 10 ⟨a,k⟩ p=true:=by have:=h.2;unfold isP at this;rw[xad] at this;exact this.1
 refine⟨zh2 hs (zbq h.1).1, ?_,hshape,h.1⟩;obtain⟨_,_,h3⟩:=zbq h.1;by_cases ha:a = -1
 ·exact .inl ha
 ·obtain⟨h4,h5,h6,h7⟩:=h3 ha;have:=zkA (n:=w.length) h5 (j:=k.toNat) (by omega);rwa [Int.toNat_of_nonneg h4,Int.toNat_of_nonneg h6] at this
theorem zpA {w:List Data} (hs:WSmall w){a k:Int}{p:Pat}{v:Val} (h:zbH w a k p=some v):v=zaE w 10 ⟨a,k⟩ p/\isV w ⟨a,k⟩ v=true/\(zaw 10 p v).2=true/\zbp w a k p=true/\zau w (zaf w) 10 ⟨a,k⟩ p=false/\zbz w 10 ⟨a,k⟩ p=false:=by
 unfold zbH at h;split at h
 ·rename_i hh;obtain⟨h1,h2,h3,h4⟩:=hh;cases h
  obtain⟨hsp,hin,hsh,_⟩:=zfS hs h1;exact⟨rfl,h4,(zfp hsp.dp 10 hsh hin h2 h3).2,h1,h2,h3⟩
 ·cases h
theorem zrz {w:List Data}{a k:Int}{p:Pat} (h:zbp w a k p=false):zbH w a k p=none:=by unfold zbH;rw[if_neg (fun hh=>by rw[h] at hh;exact absurd hh.1 (by simp))]
theorem zrA {w:List Data}{a k:Int}{p:Pat} (h:¬(zau w (zaf w) 10 ⟨a,k⟩ p=false/\zbz w 10 ⟨a,k⟩ p=false)):zbH w a k p=none:=by unfold zbH;rw[if_neg (fun hh=>h ⟨hh.2.1,hh.2.2.1⟩)]
theorem zrB {w:List Data}{a k:Int}{p:Pat} (h1:zbp w a k p=true) (h2:zau w (zaf w) 10 ⟨a,k⟩ p=false) (h3:zbz w 10 ⟨a,k⟩ p=false):zbH w a k p=if isV w ⟨a,k⟩ (zaE w 10 ⟨a,k⟩ p)=true then some (zaE w 10 ⟨a,k⟩ p) else none:=by
 unfold zbH;by_cases h:isV w ⟨a,k⟩ (zaE w 10 ⟨a,k⟩ p)=true
 ·rw[if_pos ⟨h1,h2,h3,h⟩,if_pos h]
 ·rw[if_neg (fun hh=>h hh.2.2.2),if_neg h]
theorem zpJ {w:List Data} (hd:Dp w){n:Nat}{a k:Int}{p:Pat} (h:zan w (n+1) ⟨a,k⟩ p=true) (hi:InS (w.length*4) ⟨a,k⟩):∀i,i<(zac w ⟨a,k⟩ p).length->InS (w.length*4) (nth (zac w ⟨a,k⟩ p) i):=fun i hl=>by
 have hm:=zae hl;have pk:=zjL (k:=k) h;unfold zac at hm ⊢;split
 ·rename_i h4;rw[if_pos h4] at hm;exact zbc hd hi (pk.mem h4) _ hm
 ·rename_i h4;rw[if_neg h4] at hm;split
  ·rename_i h5;rw[if_pos h5] at hm;simp only[List.mem_cons,List.not_mem_nil,or_false,or_self] at hm;rw[hm];exact hi
  ·rename_i h5;rw[if_neg h5] at hm;split
   ·rename_i h6;rw[if_pos h6] at hm;simp only[List.mem_cons,List.not_mem_nil,or_false] at hm;rw[hm];exact hi
   ·rename_i h6;rw[if_neg h6] at hm;simp at hm
theorem zoB {w:List Data} (hs:WSmall w){a k:Int}{l:List Cl}{ps:List Pat} (hl:ClsOk l) (hm:zbG w ⟨a,k⟩ l=some ps):∀x∈ps,x.ok/\x.size<=1000000000000:=fun x hx=>by
 obtain⟨h1,away,h2,h3,h4⟩:=zlS hm;obtain⟨hsp,hin⟩:=zqM hs h1;have hsh:=zh9 h1 hl;obtain⟨p1,p2⟩:=zeb l [] away (fun c hc=>(hsh c hc).1) (by simp) h2;have h5:=(zd8 away _ ps (fun x hx=>zem x (List.mem_filter.1 hx).1) (Nat.le_trans (List.length_filter_le _ _) (by simp)) p2 h3).2 x hx;have h6:=zgg hsp 11 hin h5;have:(4:Nat) ^ 11<=1000000000000:=by decide
 exact⟨h6.1,by omega⟩
theorem zkZ {w:List Data} (hs:Spa w){n:Nat} (hn:n<=10){t:Ty}{p:Pat} (h:zan w n t p=true) (ht:InS (w.length*4) t) (he:zau w (zaf w) n t p=false) (hp:zbz w n t p=false):
  (zaE w n t p).size<=1000000000000/\(zaE w n t p).ok:=by
 have h1:=zo7 hs (n+10) ht (zfp hs.dp n h ht he hp).1;have h2:∀i,i<=20->szN i<=1000000000000:=by
  have:∀i:Nat,i<21->szN i<=1000000000000:=by decide
  exact fun i hi=>this i (by omega)
 have h3:=h2 (n+10) (by omega);have h4:(zaE w n t p).size<=1000000000000:=by omega
 exact⟨h4,zuE _ h4⟩
theorem zwX {w:List Data} (hs:WSmall w){a k:Int}{p:Pat}:(optV (zbH w a k p)).size<=1000000000000/\(optV (zbH w a k p)).ok:=by
 cases h:zbH w a k p with
 |none=>exact⟨by show Val.size (.mk 0 0 [])<=_;simp[Val.size,Vals.size],by show Val.ok (.mk 0 0 []);simp[Val.ok,Vals.ok]⟩
 |some v=>
  obtain⟨rfl,_,_,h1,h2,h3⟩:=zpA hs h;obtain⟨hsp,hin,hsh,_⟩:=zfS hs h1;exact zkZ hsp (Nat.le_refl _) hsh hin h2 h3
end Go.Proofs.YtlfipehhbdjnjaaGreat
