/-
  THE ABSTRACT WALK AND THE WALKS, part 5 of 6: the parts F120, F73, F82, F83, F84, G5, F122, F125, F123, Ta, F90, F91, F92, F93, F94, F95, F39, F96, F121, F126, F127, F128, F124, L46.
-/
import Derived.Test.YtpgdedpljcedpaaGreatT464
namespace Go.Proofs.YtpgdedpljcedpaaGreat
open Go
set_option linter.unusedSimpArgs false
set_option linter.unusedVariables false
set_option maxRecDepth 100000
set_option maxHeartbeats 2000000
theorem zqn {α β:Type}{f:α→β→Bool}:∀ {l:List α},(∀u∈l,∃v,f u v=true)→∃r,all2 f l r=true
 | [],_=>⟨[],rfl⟩
 |u::s,h=>by
  obtain⟨v,hv⟩:=h u (by simp)
  obtain⟨r,hr⟩:=zqn (l:=s) (fun x hx=>h x (by simp[hx]))
  exact⟨v::r,by simp[all2,hv,hr]⟩
theorem zqL {w:List Data}:∀(m:Nat){t:Ty},Hd w m t→∃v,zaP w m t v=true
 |0,_,h=>h.elim
 |m+1,t,h=>by
  by_cases hd:t.data = -1
  ·exact⟨⟨-1,0,[]⟩,by unfold zaP;rw[if_pos hd];rfl⟩
  ·rcases h with h|⟨c,hc,hn,hh⟩
   ·exact absurd h hd
   ·obtain⟨l,hl⟩:=zqn (f:=zaP w m) (l:=zaa w t c) (fun u hu=>zqL m (hh u hu))
    exact⟨⟨c,0,l⟩,by unfold zaP;rw[if_neg hn,if_pos ⟨rfl,hc⟩];exact hl⟩
theorem zqG {w:List Data} (hd:Dp w){t:Ty} (ht:InS (w.length*4) t) (h:0<dv (zai w) t):∃m v,zaP w m t v=true:=by
 have a:Snd w (zai w)∧Cmp w (w.length*4+1) (zai w):=zcM hd.cl (w.length*4+1)
 exact⟨_,zqL _ (zls a.1 ht h)⟩
theorem zph {w:List Data}:∀ {us:List Ty}{ps:List Pat},us.length=ps.length→(∀i,i<ps.length→∃m v,zaP w m (nth us i) v=true∧hitP (nth ps i) v=true)→∃m l,all2 (zaP w m) us l=true∧hitL ps l=true
 | [],[],_,_=>⟨0,[],rfl,rfl⟩
 |u::us,p::ps,hl,h=>by
  obtain⟨m1,v,h1,h2⟩:=h 0 (by simp)
  obtain⟨m2,l,h3,h4⟩:=zph (us:=us) (ps:=ps) (by simpa using hl) (fun i hi=>h (i+1) (by simpa using hi))
  refine⟨max m1 m2,v::l, ?_, ?_⟩
  ·simp only[all2,Bool.and_eq_true]
   exact⟨zik (Nat.le_max_left _ _) h1,zgJ (fun x _ y _ hxy=>zik (Nat.le_max_right _ _) hxy) h3⟩
  ·simp only[hitL,Bool.and_eq_true]
   exact⟨h2,h4⟩
 | [],_::_,h,_=>by simp at h
 |_::_,[],h,_=>by simp at h
theorem zi0 {w:List Data} (hs:Spa w):∀(n:Nat){t:Ty}{p:Pat},InS (w.length*4) t→zac w n t p=true→zaQ w (zai w) n t p=false→∃m v,zaP w m t v=true∧hitP p v=true
 |0,t,p,_,h,_=>by simp[zac] at h
 |n+1,t,p,ht,hp,he=>by
  rcases zbc hp with h1|h3|h4
  ·rw[zeC h1] at he
   have:=of_decide_eq_false he
   obtain⟨m,v,hv⟩:=zqG hs.dp ht (by omega)
   exact⟨m,v,hv,zeY h1⟩
  ·have hi:=zbt hp h3
   refine⟨1,⟨-1,p.n,[]⟩, ?_, ?_⟩
   ·unfold zaP
    rw[if_pos hi.1]
    simp only[Bool.and_eq_true,decide_eq_true_eq]
    exact⟨rfl,hi.2.1,by show p.n≤9;omega,rfl⟩
   ·rw[zhh h3]
    show zar p.n p.n p.m=true
    unfold zar
    rw[Bool.and_eq_true,decide_eq_true_eq,decide_eq_true_eq];omega
  ·obtain⟨m1,m2,m3,m4⟩:=zax hp h4
   rw[zhN h4] at he
   have ha:all2 (fun u q=> !zaQ w (zai w) n u q) (zaa w t p.ctor) p.kids=true:=by simpa using he
   obtain⟨m,l,h5,h6⟩:=zph (us:=zaa w t p.ctor) (ps:=p.kids) m3.symm (fun i hi=>by
    have hk:=zaE hp hi
    rw[zaR h4] at hk
    have h7:=zfk m3.symm ha i (by omega)
    exact zi0 hs n (zbl hs.dp ht m1 _ (zae (by omega))) hk (by simpa using h7))
   refine⟨m+1,⟨p.ctor,0,l⟩, ?_, ?_⟩
   ·unfold zaP
    rw[if_neg m2,if_pos ⟨rfl,zjV m1⟩];exact h5
   ·rw[zcR h4,Bool.and_eq_true]
    exact⟨decide_eq_true rfl,h6⟩
theorem zv9 {w:List Data}{n:Nat}{t:Ty}{p:Pat} (h:zac w n t p=true) (h3:p.op=3):p=intQ p.n p.m:=by
 obtain⟨ho,hl⟩:=zex h
 have e:zaf w t p=[]:=by unfold zaf;rw[if_neg (by omega),if_neg (by omega),if_neg (by omega)]
 rw[e] at hl
 have hk:=List.eq_nil_of_length_eq_zero hl
 unfold ownP at ho
 have hh:=of_decide_eq_true ho
 have h1:=hh.2.1 (by omega)
 have h2:=hh.2.2.2.1 (by omega)
 obtain⟨op,c,m,k,v,ks⟩:=p
 change op=3 at h3
 change v=0 at h1
 change c=0 at h2
 change ks=[] at hk
 rw[h3,h1,h2,hk];rfl
theorem zv8 {w:List Data}{n:Nat}{t:Ty}{p:Pat} (h:zac w n t p=true) (h1:p.op=1):p=anyQ:=by
 obtain⟨ho,hl⟩:=zex h
 have e:zaf w t p=[]:=by unfold zaf;rw[if_neg (by omega),if_neg (by omega),if_neg (by omega)]
 rw[e] at hl
 have hk:=List.eq_nil_of_length_eq_zero hl
 unfold ownP at ho
 have hh:=of_decide_eq_true ho
 have h2:=hh.2.1 (by omega)
 have h3:=hh.2.2.1 (by omega)
 have h4:=hh.2.2.2.1 (by omega)
 obtain⟨op,c,m,k,v,ks⟩:=p
 change op=1 at h1
 change v=0 at h2
 change m=0∧k=0 at h3
 change c=0 at h4
 change ks=[] at hk
 rw[h1,h2,h3.1,h3.2,h4,hk]
theorem zju {w:List Data}:∀(k n:Nat){t:Ty}{x z:Pat},zac w k t x=true→zan n x x=some z→z=x
 |0,n,t,x,z,h,_=>by simp[zac] at h
 |k+1,0,t,x,z,_,h=>by simp[zan] at h
 |k+1,n+1,t,x,z,hp,h=>by
  rcases zbc hp with h1|h3|h4
  ·rw[zfW h1] at h;cases h;rfl
  ·rw[zgY h3 (by omega)] at h
   split at h
   ·cases h
    have e1:maxQ x.n x.n=x.n:=by unfold maxQ;split<;>rfl
    have e2:minQ x.m x.m=x.m:=by unfold minQ;split<;>rfl
    rw[e1,e2];exact(zv9 hp h3).symm
   ·cases h
  ·obtain⟨m1,m2,m3,m4⟩:=zax hp h4
   rw[zfX h4 (by omega) rfl] at h
   cases hl:zbo (zan n) x.kids x.kids [] with
   |none=>rw[hl] at h;cases h
   |some l=>
    rw[hl] at h
    simp only[Option.map_some,Option.some.injEq] at h
    subst h
    obtain⟨r,e,hr,hm⟩:=zeb rfl hl
    rw[List.nil_append] at e
    subst e
    have:l=x.kids:=zhQ (by omega) (fun i hi=>by
     have hk:=zaE hp (i:=i) (by omega)
     rw[zaR h4] at hk
     exact zju k n hk (hm i (by omega)))
    rw[this];exact m4.symm
theorem zkr {f:Ty→Pat→Pat→List Pat}{c:Int}:∀ {us:List Ty}{xs front:List Pat},us.length=xs.length→(∀j,j<xs.length→f (nth us j) (nth xs j) (nth xs j)=[])→zaI f c us xs xs front=[]
 | [],[],_,_,_=>rfl
 |u::us,x::xs,front,hl,h=>by
  unfold zaI
  have h0:=h 0 (by simp)
  rw[show f u x x=[] from h0,List.map_nil,List.nil_append]
  split
  ·rfl
  ·exact zkr (by simpa using hl) (fun j hj=>h (j+1) (by simpa using hj))
 | [],_::_,_,h,_=>by simp at h
 |_::_,[],_,h,_=>by simp at h
theorem ziw {w:List Data}:∀(k n:Nat){t:Ty}{x:Pat},zac w k t x=true→zaq w n t x x=[]
 |0,n,t,x,h=>by simp[zac] at h
 |k+1,0,t,x,_=>rfl
 |k+1,n+1,t,x,hp=>by
  rcases zbc hp with h1|h3|h4
  ·exact zeH h1
  ·rw[zgH h3]
   have e1:lowQ x=x.n:=by unfold lowQ;rw[if_neg (by omega)]
   have e2:zb6 x=x.m:=by unfold zb6;rw[if_neg (by omega)]
   have q1:=zqU (zb6 x) (x.n-1)
   have q2:=zqQ (lowQ x) (x.m+1)
   unfold zdG zbE
   rw[if_neg (by omega),if_neg (by omega)];rfl
  ·obtain⟨m1,m2,m3,m4⟩:=zax hp h4
   rw[zcH h4 h4]
   unfold zbP
   rw[if_pos rfl]
   exact zkr m3.symm (fun j hj=>by
    have hk:=zaE hp (i:=j) hj
    rw[zaR h4] at hk
    exact ziw k n hk)
structure Grid (w:List Data) (t:Ty) (S:Pat→Prop) (V:List Val):Prop where
 meet:∀n a b z,S a→S b→zan n a b=some z→S z
 minus:∀n a b x,S a→S b→x∈zaq w n t a b→S x
 hit:∀n p,S p→zac w n t p=true→zaQ w (zai w) n t p=false→∃v∈V,hitP p v=true
 fits:∃m,∀v∈V,zaP w m t v=true
theorem zny {w:List Data} (hs:Spa w){t:Ty} (ht:InS (w.length*4) t){k:Nat}{x:Pat} (hx:zac w k t x=true):∃V,V.length≤1∧Grid w t (fun p=>p=x) V:=by
 by_cases hex:∃m v,zaP w m t v=true∧hitP x v=true
 ·obtain⟨m,v,h1,h2⟩:=hex
  refine⟨[v],by simp,⟨fun n a b z ha hb h=>by subst ha;subst hb;exact zju k n hx h,fun n a b z ha hb h=>by subst ha;subst hb;rw[ziw k n hx] at h;simp at h,fun n p hp _ _=>⟨v,by simp,by rw[hp];exact h2⟩,⟨m,fun y hy=>by rw[List.mem_singleton.1 hy];exact h1⟩⟩⟩
 ·refine⟨[],by simp,⟨fun n a b z ha hb h=>by subst ha;subst hb;exact zju k n hx h,fun n a b z ha hb h=>by subst ha;subst hb;rw[ziw k n hx] at h;simp at h,fun n p hp h1 h2=>?_,⟨0,fun y hy=>by simp at hy⟩⟩⟩
  subst hp
  exact absurd (zi0 hs n ht h1 h2) hex
theorem zpa {w:List Data}{t:Ty} (ht:t.data = -1):Grid w t (fun _=>True) zeU:=by
 refine⟨fun _ _ _ _ _ _ _=>trivial,fun _ _ _ _ _ _ _=>trivial,fun n p _ hp _=>?_,1,fun v hv=>zlz 1 (by unfold zj2;rw[if_pos ht];exact hv)⟩
 have hd:∀i:Nat,i<10→(⟨-1,(i:Int),[]⟩:Val)∈zeU:=fun i hi=>by unfold zeU;exact List.mem_map.2 ⟨i,List.mem_range.2 hi,rfl⟩
 rcases zbc hp with h1|h3|h4
 ·exact⟨_,hd 0 (by omega),zeY h1⟩
 ·have hi:=zbt hp h3
  refine⟨_,hd p.n.toNat (by omega), ?_⟩
  rw[zhh h3]
  show zar ((p.n.toNat:Nat):Int) p.n p.m=true
  unfold zar
  rw[Bool.and_eq_true,decide_eq_true_eq,decide_eq_true_eq];omega
 ·exact absurd ht (zax hp h4).2.1
def CSat (Ss:Nat→Pat→Prop) (c:Int) (k:Nat) (p:Pat):Prop:=∃l,p=zaS c l∧l.length=k∧∀j,j<k→Ss j (nth l j)
theorem zlY {f:Ty→Pat→Pat→List Pat}{c:Int}{Ss:Nat→Pat→Prop}:∀ {us:List Ty}{xs bs front:List Pat},us.length=xs.length→bs.length=xs.length→(∀j,j<front.length→Ss j (nth front j))→
  (∀j,j<xs.length→Ss (front.length+j) (nth xs j)∧(∀z∈f (nth us j) (nth xs j) (nth bs j),Ss (front.length+j) z)∧(∀z,zan 11 (nth xs j) (nth bs j)=some z→Ss (front.length+j) z))→
  ∀x∈zaI f c us xs bs front,CSat Ss c (front.length+xs.length) x
 | [],[],_,front,_,_,_,_,x,hx=>by simp[zaI] at hx
 |u::us,a0::s,b0::q,front,h1,h2,hfr,hab,x,hx=>by
  have h0:=hab 0 (by simp)
  have e0:nth (a0::s) 0=a0:=rfl
  have e1:nth (b0::q) 0=b0:=rfl
  have e2:nth (u::us) 0=u:=rfl
  rw[e0,e1,e2,Nat.add_zero] at h0
  unfold zaI at hx
  rcases List.mem_append.1 hx with hx|hx
  ·obtain⟨z,hz,rfl⟩:=List.mem_map.1 hx
   refine⟨front++[z]++s,rfl,by simp only[List.length_append,List.length_cons,List.length_nil];omega,fun j hj=>?_⟩
   simp only[List.length_cons] at hj
   by_cases hj1:j<front.length
   ·have e:nth (front++[z]++s) j=nth front j:=by
     simp only[nth,List.getD,List.append_assoc]
     rw[List.getElem?_append_left (by omega)]
    rw[e];exact hfr j hj1
   ·by_cases hj2:j=front.length
    ·subst hj2
     have e:nth (front++[z]++s) front.length=z:=by
      simp only[nth,List.getD,List.append_assoc]
      rw[List.getElem?_append_right (by omega),Nat.sub_self];all_goals rfl
     rw[e];exact h0.2.1 z hz
    ·obtain⟨i,rfl⟩:∃i,j=front.length+1+i:=⟨j-front.length-1,by omega⟩
     have e:nth (front++[z]++s) (front.length+1+i)=nth (a0::s) (i+1):=by
      simp only[nth,List.getD,List.append_assoc]
      rw[List.getElem?_append_right (by omega),show front.length+1+i-front.length=i+1 by omega];all_goals rfl
     rw[e]
     have:=(hab (i+1) (by simp;omega)).1
     rwa [show front.length+(i+1)=front.length+1+i by omega] at this
  ·cases hm:zan 11 a0 b0 with
   |none=>rw[hm] at hx;simp at hx
   |some both=>
    rw[hm] at hx
    have:=zlY (f:=f) (c:=c) (Ss:=Ss) (us:=us) (xs:=s) (bs:=q) (front:=front++[both]) (by simpa using h1) (by simpa using h2) (fun j hj=>?_) (fun j hj=>?_) x hx
    ·rw[List.length_append,List.length_singleton,show front.length+1+s.length=front.length+(a0::s).length by simp;omega] at this
     exact this
    ·by_cases hj1:j<front.length
     ·have e:nth (front++[both]) j=nth front j:=by
       simp only[nth,List.getD]
       rw[List.getElem?_append_left (by omega)]
      rw[e];exact hfr j hj1
     ·have hj2:j=front.length:=by simp at hj;omega
      subst hj2
      have e:nth (front++[both]) front.length=both:=by
       simp only[nth,List.getD]
       rw[List.getElem?_append_right (by omega),Nat.sub_self];all_goals rfl
      rw[e];exact h0.2.2 both hm
    ·have:=hab (j+1) (by simpa using hj)
     rw[List.length_append,List.length_singleton,show front.length+1+j=front.length+(j+1) by omega]
     exact this
 | [],_::_,_,_,h,_,_,_,_,_=>by simp at h
 |_::_,[],_,_,h,_,_,_,_,_=>by simp at h
 |_::_,_::_,[],_,_,h,_,_,_,_=>by simp at h
theorem zo4:∀(Vs:List (List Val)) (vs:List Val) (acc:List (List Val)) (q:List Val),Vs.length=vs.length→q∈acc→(∀j,j<Vs.length→nth vs j∈nth Vs j)→q++vs∈Vs.foldl (fun acc l=>acc.flatMap fun o=>l.map fun y=>o++[y]) acc
 | [],[],acc,q,_,h,_=>by simpa using h
 |l::r,v::s,acc,q,hl,h,hm=>by
  rw[List.foldl_cons,show q++v::s=q++[v]++s by simp]
  refine zo4 r s _ (q++[v]) (by simpa using hl) ?_ (fun j hj=>hm (j+1) (by simpa using hj))
  exact List.mem_flatMap.2 ⟨q,h,List.mem_map.2 ⟨v,hm 0 (by simp),rfl⟩⟩
 | [],_::_,_,_,h,_,_=>by simp at h
 |_::_,[],_,_,h,_,_=>by simp at h
theorem zo3:∀(Vs:List (List Val)) (acc:List (List Val)) (l:List Val),l∈Vs.foldl (fun acc l=>acc.flatMap fun o=>l.map fun y=>o++[y]) acc→∃q∈acc,∃vs,l=q++vs∧vs.length=Vs.length∧∀j,j<Vs.length→nth vs j∈nth Vs j
 | [],acc,l,h=>⟨l,h,[],by simp,rfl,fun j hj=>by simp at hj⟩
 |x::r,acc,l,h=>by
  rw[List.foldl_cons] at h
  obtain⟨q,hq,vs,e,h1,h2⟩:=zo3 r _ l h
  obtain⟨o,ho,hq⟩:=List.mem_flatMap.1 hq
  obtain⟨y,hy,rfl⟩:=List.mem_map.1 hq
  refine⟨o,ho,y::vs,by rw[e];simp,by simp[h1],fun j hj=>?_⟩
  cases j with
  |zero=>exact hy
  |succ j=>exact h2 j (by simpa using hj)
def zgy (c:Int) (k:Nat) (Vs:Nat→List Val):List Val:=(zl8 ((List.range k).map Vs)).map (Val.mk c 0)
theorem zjy {α:Type} [Inhabited α]{k j:Nat} (f:Nat→α) (h:j<k):nth ((List.range k).map f) j=f j:=by
 rw[zaG (by simpa using h)];simp
theorem ztV (c:Int) (k:Nat) (Vs:Nat→List Val):(zgy c k Vs).length=zdC ((List.range k).map fun j=>(Vs j).length):=by
 unfold zgy
 rw[List.length_map,zsM,List.map_map];rfl
theorem zkF {P:Nat→Nat→Prop} (hm:∀j m n,m≤n→P j m→P j n):∀(k:Nat),(∀j,j<k→∃m,P j m)→∃m,∀j,j<k→P j m
 |0,_=>⟨0,fun j hj=>by omega⟩
 |k+1,h=>by
  obtain⟨m1,h1⟩:=zkF hm k (fun j hj=>h j (by omega))
  obtain⟨m2,h2⟩:=h k (by omega)
  refine⟨max m1 m2,fun j hj=>?_⟩
  by_cases hk:j=k
  ·subst hk;exact hm _ _ _ (Nat.le_max_right _ _) h2
  ·exact hm _ _ _ (Nat.le_max_left _ _) (h1 j (by omega))
theorem zjb {Q:Nat→Val→Prop}:∀(k:Nat),(∀j,j<k→∃v,Q j v)→∃l:List Val,l.length=k∧∀j,j<k→Q j (nth l j)
 |0,_=>⟨[],rfl,fun j hj=>by omega⟩
 |k+1,h=>by
  obtain⟨l,h1,h2⟩:=zjb k (fun j hj=>h j (by omega))
  obtain⟨v,hv⟩:=h k (by omega)
  refine⟨l++[v],by simp[h1],fun j hj=>?_⟩
  by_cases hk:j=k
  ·subst hk
   have e:nth (l++[v]) j=v:=by
    simp only[nth,List.getD]
    rw[List.getElem?_append_right (by omega),h1,Nat.sub_self];all_goals rfl
   rw[e];exact hv
  ·have e:nth (l++[v]) j=nth l j:=by
    simp only[nth,List.getD]
    rw[List.getElem?_append_left (by omega)]
   rw[e];exact h2 j (by omega)
theorem znn {c:Int}{Ss:Nat→Pat→Prop}{k n:Nat}{a b z:Pat} (hm:∀j,j<k→∀n a b z,Ss j a→Ss j b→zan n a b=some z→Ss j z) (ha:CSat Ss c k a) (hb:CSat Ss c k b) (h:zan n a b=some z):CSat Ss c k z:=by
 obtain⟨la,rfl,h1,h2⟩:=ha
 obtain⟨lb,rfl,h3,h4⟩:=hb
 cases n with
 |zero=>simp[zan] at h
 |succ n=>
  rw[zfX (a:=zaS c la) (b:=zaS c lb) rfl (by show ¬(4:Int)=1;decide) rfl] at h
  cases hl:zbo (zan n) (zaS c la).kids (zaS c lb).kids [] with
  |none=>rw[hl] at h;cases h
  |some l=>
   rw[hl] at h
   simp only[Option.map_some,Option.some.injEq] at h
   subst h
   have hll:(zaS c la).kids.length=(zaS c lb).kids.length:=by show la.length=lb.length;omega
   obtain⟨r,e,hr,hi⟩:=zeb hll hl
   rw[List.nil_append] at e
   subst e
   have hk:(zaS c la).kids.length=k:=h1
   refine⟨l,rfl,by omega,fun j hj=>hm j hj n _ _ _ (h2 j hj) (h4 j hj) (hi j (by omega))⟩
theorem zlr {w:List Data}{t:Ty}{c:Int}{Ss:Nat→Pat→Prop}{n:Nat}{a b x:Pat} (hm:∀j,j<(zaa w t c).length→∀n a b z,Ss j a→Ss j b→zan n a b=some z→Ss j z)
  (hn:∀j,j<(zaa w t c).length→∀n a b x,Ss j a→Ss j b→x∈zaq w n (nth (zaa w t c) j) a b→Ss j x) (ha:CSat Ss c (zaa w t c).length a) (hb:CSat Ss c (zaa w t c).length b) (h:x∈zbP (zaq w n) w t a b):
  CSat Ss c (zaa w t c).length x:=by
 obtain⟨la,rfl,h1,h2⟩:=ha
 obtain⟨lb,rfl,h3,h4⟩:=hb
 unfold zbP at h
 rw[if_pos (show(zaS c la).ctor=(zaS c lb).ctor from rfl)] at h
 have:=zlY (f:=zaq w n) (c:=c) (Ss:=Ss) (us:=zaa w t c) (xs:=la) (bs:=lb) (front:=[]) (by omega) (by omega) (fun j hj=>by simp at hj) (fun j hj=>by
  rw[List.length_nil,Nat.zero_add]
  exact⟨h2 j (by omega),fun z hz=>hn j (by omega) n _ _ z (h2 j (by omega)) (h4 j (by omega)) hz,fun z hz=>hm j (by omega) 11 _ _ z (h2 j (by omega)) (h4 j (by omega)) hz⟩) x h
 rw[List.length_nil,Nat.zero_add,h1] at this
 exact this
theorem zhg {w:List Data}{t:Ty}{c:Int} (hc:c∈zah w t){Ss:Nat→Pat→Prop}{Vs:Nat→List Val} (hg:∀j,j<(zaa w t c).length→Grid w (nth (zaa w t c) j) (Ss j) (Vs j)):
  Grid w t (CSat Ss c (zaa w t c).length) (zgy c (zaa w t c).length Vs):=by
 have hdt:t.data≠ -1:=fun e=>by unfold zah at hc;rw[if_pos e] at hc;simp at hc
 refine⟨fun n a b z ha hb h=>znn (fun j hj=>(hg j hj).meet) ha hb h,fun n a b x ha hb h=>?_,fun n p hp h1 h2=>?_, ?_⟩
 ·cases n with
  |zero=>simp[zaq] at h
  |succ n=>
   have ha4:a.op=4:=by obtain⟨l,rfl,_⟩:=ha;rfl
   have hb4:b.op=4:=by obtain⟨l,rfl,_⟩:=hb;rfl
   rw[zcH hb4 ha4] at h
   exact zlr (fun j hj=>(hg j hj).meet) (fun j hj=>(hg j hj).minus) ha hb h
 ·obtain⟨l,rfl,h3,h4⟩:=hp
  cases n with
  |zero=>simp[zac] at h1
  |succ n=>
   rw[zhN rfl] at h2
   have ha:all2 (fun u q=> !zaQ w (zai w) n u q) (zaa w t c) l=true:=(by simpa using h2:all2 (fun u q=> !zaQ w (zai w) n u q) (zaa w t (zaS c l).ctor) (zaS c l).kids=true)
   obtain⟨vs,h5,h6⟩:=zjb (Q:=fun j v=>v∈Vs j∧hitP (nth l j) v=true) (zaa w t c).length (fun j hj=>by
    have hk:=zaE h1 (i:=j) (by show j<l.length;omega)
    rw[zaR rfl] at hk
    have h7:=zfk h3.symm ha j hj
    exact(hg j hj).hit n (nth l j) (h4 j hj) hk (by simpa using h7))
   refine⟨⟨c,0,vs⟩, ?_, ?_⟩
   ·unfold zgy
    refine List.mem_map.2 ⟨vs, ?_,rfl⟩
    have:=zo4 ((List.range (zaa w t c).length).map Vs) vs [[]] [] (by simp[h5]) (by simp) (fun j hj=>by
     rw[List.length_map,List.length_range] at hj
     rw[zjy Vs hj];exact(h6 j hj).1)
    simpa [zl8] using this
   ·rw[zcR rfl,Bool.and_eq_true]
    refine⟨decide_eq_true rfl, ?_⟩
    show hitL l vs=true
    rw[zkJ (by omega)]
    exact fun j hj=>(h6 j (by omega)).2
 ·obtain⟨m,hm⟩:=zkF (P:=fun j m=>∀v∈Vs j,zaP w m (nth (zaa w t c) j) v=true) (fun j m n hmn h v hv=>zik hmn (h v hv)) (zaa w t c).length (fun j hj=>(hg j hj).fits)
  refine⟨m+1,fun v hv=>?_⟩
  unfold zgy at hv
  obtain⟨l,hl,rfl⟩:=List.mem_map.1 hv
  obtain⟨q,hq,vs,e,h1,h2⟩:=zo3 _ _ l hl
  rw[List.mem_singleton] at hq
  rw[hq,List.nil_append] at e
  subst e
  unfold zaP
  rw[if_neg hdt,if_pos ⟨rfl,zjV hc⟩]
  rw[List.length_map,List.length_range] at h1
  refine zb4 (by show(zaa w t c).length=l.length;omega) (fun j hj=>?_)
  have hj:j<(zaa w t c).length:=hj
  have:=h2 j (by simpa using hj)
  rw[zjy Vs hj] at this
  exact hm j hj _ this
section
variable {w:List Data} (hs:Spa w){t:Ty} (ht:InS (w.length*4) t)
include hs ht
theorem znz (hdt:t.data≠ -1){Ss:Int→Nat→Pat→Prop}{Vs:Int→Nat→List Val} (hg:∀c∈zah w t,∀j,j<(zaa w t c).length→Grid w (nth (zaa w t c) j) (Ss c j) (Vs c j)) (hany:∀c∈zah w t,∀j,Ss c j anyQ):
  Grid w t (fun p=>p.op=1∨∃c∈zah w t,CSat (Ss c) c (zaa w t c).length p) ((zah w t).flatMap fun c=>zgy c (zaa w t c).length (Vs c)):=by
 have hw:∀c∈zah w t,CSat (Ss c) c (zaa w t c).length (zbz w t c):=fun c hc=>by
  refine⟨_,rfl,by simp,fun j hj=>?_⟩
  have e:nth ((zaa w t c).map fun _=>anyQ) j=anyQ:=by rw[zaG (by simpa using hj)];simp
  rw[e];exact hany c hc j
 have h4:∀ {c:Int}{k:Nat}{S:Nat→Pat→Prop}{p:Pat},CSat S c k p→p.op=4∧p.ctor=c:=fun h=>by obtain⟨l,rfl,_⟩:=h;exact⟨rfl,rfl⟩
 refine⟨fun n a b z ha hb h=>?_,fun n a b x ha hb h=>?_,fun n p hp h1 h2=>?_, ?_⟩
 ·cases n with
  |zero=>simp[zan] at h
  |succ n=>
   rcases ha with ha|⟨c,hc,ha⟩
   ·rw[zfW ha] at h;cases h;exact hb
   ·rcases hb with hb|⟨c',hc',hb⟩
    ·rw[zgX (by have:=(h4 ha).1;omega) hb] at h;cases h;exact .inr ⟨c,hc,ha⟩
    ·by_cases e:c=c'
     ·subst e
      exact .inr ⟨c,hc,znn (fun j hj=>(hg c hc j hj).meet) ha hb h⟩
     ·rw[zfq (h4 ha).1 (by have:=(h4 hb).1;omega) (by rw[(h4 ha).2,(h4 hb).2];exact e)] at h;cases h
 ·cases n with
  |zero=>simp[zaq] at h
  |succ n=>
   rcases hb with hb|⟨c',hc',hb⟩
   ·rw[zeH hb] at h;simp at h
   ·have key:∀c∈zah w t,∀a,CSat (Ss c) c (zaa w t c).length a→x∈zbP (zaq w n) w t a b→x.op=1∨∃c∈zah w t,CSat (Ss c) c (zaa w t c).length x:=fun c hc a ha h=>by
     by_cases e:c=c'
     ·subst e
      exact .inr ⟨c,hc,zlr (fun j hj=>(hg c hc j hj).meet) (fun j hj=>(hg c hc j hj).minus) ha hb h⟩
     ·unfold zbP at h
      rw[if_neg (by rw[(h4 ha).2,(h4 hb).2];exact e),List.mem_singleton] at h
      rw[h];exact .inr ⟨c,hc,ha⟩
    rcases ha with ha|⟨c,hc,ha⟩
    ·rw[zfs (h4 hb).1 ha] at h
     obtain⟨c,hc,h⟩:=List.mem_flatMap.1 h
     exact key c hc _ (hw c hc) h
    ·rw[zcH (h4 hb).1 (h4 ha).1] at h
     exact key c hc a ha h
 ·rcases hp with hp|⟨c,hc,hp⟩
  ·cases n with
   |zero=>simp[zac] at h1
   |succ n=>
    rw[zeC hp] at h2
    have h0:=of_decide_eq_false h2
    obtain⟨m,v,hv⟩:=zqG hs.dp ht (by omega)
    cases m with
    |zero=>simp[zaP] at hv
    |succ m=>
     obtain⟨f1,f2,f3⟩:=zeE hv hdt
     have hh:hitP (zbz w t v.ctor) v=true:=by
      rw[zcR rfl]
      show(decide (v.ctor=v.ctor)&&hitL ((zaa w t v.ctor).map fun _=>anyQ) v.kids)=true
      rw[zkI,decide_eq_true rfl];rfl
     have hwp:zac w 2 t (zbz w t v.ctor)=true:=zcl f1
     obtain⟨v',h5,_⟩:=(zhg f1 (fun j hj=>hg v.ctor f1 j hj)).hit 2 _ (hw _ f1) hwp (zjl hs 2 (m+1) ht hwp hv hh)
     exact⟨v',List.mem_flatMap.2 ⟨_,f1,h5⟩,zeY hp⟩
  ·obtain⟨v',h5,h6⟩:=(zhg hc (fun j hj=>hg c hc j hj)).hit n p hp h1 h2
   exact⟨v',List.mem_flatMap.2 ⟨c,hc,h5⟩,h6⟩
 ·obtain⟨m,hm⟩:=zkF (P:=fun i m=>∀v∈zgy (nth (zah w t) i) (zaa w t (nth (zah w t) i)).length (Vs (nth (zah w t) i)),zaP w m t v=true) (fun j m n hmn h v hv=>zik hmn (h v hv)) (zah w t).length
   (fun i hi=>(zhg (zae hi) (fun j hj=>hg _ (zae hi) j hj)).fits)
  refine⟨m,fun v hv=>?_⟩
  obtain⟨c,hc,hv⟩:=List.mem_flatMap.1 hv
  obtain⟨i,hi,rfl⟩:=List.getElem_of_mem hc
  rw[←zaG hi] at hv
  exact hm i hi v hv
end
theorem zsw:∀(V:List Val) (l:List Pat),(∀x∈l,∃v∈V,hitP x v=true)→(∀v∈V,l.countP (fun x=>hitP x v)≤1)→l.length≤V.length
 | [],l,h,_=>by
  cases l with
  |nil=>simp
  |cons x r=>obtain⟨v,hv,_⟩:=h x (by simp);simp at hv
 |v::V,l,h,hc=>by
  have h1:=hc v (by simp)
  have h2:=zsw V (l.filter fun x=> !hitP x v) (fun x hx=>by
   obtain⟨h3,h4⟩:=List.mem_filter.1 hx
   obtain⟨u,hu,h5⟩:=h x h3
   rcases List.mem_cons.1 hu with rfl|hu
   ·rw[h5] at h4;simp at h4
   ·exact⟨u,hu,h5⟩) (fun u hu=>Nat.le_trans (List.Sublist.countP_le List.filter_sublist) (hc u (by simp[hu])))
  have h3:l.length=l.countP (fun x=>hitP x v)+(l.filter fun x=> !hitP x v).length:=by
   rw[←List.countP_eq_length_filter]
   have:=List.length_eq_countP_add_countP (fun x=>hitP x v) (l:=l)
   rw[this]
   congr 1
   refine List.countP_congr (fun x _=>?_)
   simp
  simp only[List.length_cons];omega
def sepQ (w:List Data) (t:Ty):List Pat→List Pat→List Pat→Option (List Pat)
 |_,[],out=>some out
 |front,p::r,out=>match zaJ w t [p] front with
  |none=>none
  |some m=>sepQ w t (front++[p]) r (out++m)
theorem zq8 {w:List Data}{t:Ty}{S:Pat→Prop} (hmin:∀a b x,S a→S b→x∈zaq w 10 t a b→S x):∀(away l r:List Pat),(∀b∈away,zac w 10 t b=true∧S b)→(∀a∈l,zac w 11 t a=true∧S a∧zbe w t a=true)→subL w t l away=some r→∀x∈r,zac w 11 t x=true∧S x∧zbe w t x=true
 | [],l,r,_,hl,h=>by rw[subL] at h;cases h;exact hl
 |b::away,l,r,hb,hl,h=>by
  rw[subL] at h
  split at h
  ·refine zq8 hmin away _ r (fun x hx=>hb x (by simp[hx])) (fun x hx=>?_) h
   have h1:=zec (fun a ha=>(hl a ha).1) (hb b (by simp)).1 x hx
   unfold zbF at hx
   obtain⟨h2,h3⟩:=List.mem_filter.1 hx
   obtain⟨a,ha,h4⟩:=List.mem_flatMap.1 h2
   exact⟨h1,hmin a b x (hl a ha).2.1 (hb b (by simp)).2 h4,h3⟩
  ·cases h
theorem zql {w:List Data}{t:Ty}{S:Pat→Prop} (hmin:∀a b x,S a→S b→x∈zaq w 10 t a b→S x){away l r:List Pat} (hb:∀b∈away,zac w 10 t b=true∧S b) (hl:∀a∈l,zac w 11 t a=true∧S a) (h:zaJ w t l away=some r):∀x∈r,zac w 11 t x=true∧S x∧zbe w t x=true:=by
 unfold zaJ at h
 exact zq8 hmin away _ r hb (fun a ha=>⟨(hl a (List.mem_filter.1 ha).1).1,(hl a (List.mem_filter.1 ha).1).2,(List.mem_filter.1 ha).2⟩) h
theorem zmX {w:List Data}{t:Ty}{S:Pat→Prop} (hmin:∀a b x,S a→S b→x∈zaq w 10 t a b→S x):∀(r front out:List Pat){res:List Pat},(∀b∈front,zac w 10 t b=true∧S b)→(∀b∈r,zac w 10 t b=true∧S b)→(∀x∈out,zac w 11 t x=true∧S x∧zbe w t x=true)→
  sepQ w t front r out=some res→∀x∈res,zac w 11 t x=true∧S x∧zbe w t x=true
 | [],front,out,res,_,_,ho,h=>by rw[sepQ] at h;cases h;exact ho
 |p::r,front,out,res,hf,hr,ho,h=>by
  rw[sepQ] at h
  cases hw:zaJ w t [p] front with
  |none=>rw[hw] at h;cases h
  |some m=>
   rw[hw] at h
   have hp:=hr p (by simp)
   have h1:=zql hmin hf (fun a ha=>by rw[List.mem_singleton.1 ha];exact⟨zcY (by omega) hp.1,hp.2⟩) hw
   refine zmX hmin r (front++[p]) (out++m) (fun b hb=>?_) (fun b hb=>hr b (by simp[hb])) (fun x hx=>?_) h
   ·rcases List.mem_append.1 hb with hb|hb
    ·exact hf b hb
    ·rw[List.mem_singleton.1 hb];exact hp
   ·rcases List.mem_append.1 hx with hx|hx
    ·exact ho x hx
    ·exact h1 x hx
theorem zuY (n:Nat):∀f p r:Bool,(n+if f=true then 0 else one p)+(if (f||p)=true then 0 else one r)=n+if f=true then 0 else one (p||r):=by
 intro f p r;cases f<;>cases p<;>cases r<;>simp[one]
theorem zv7:∀b:Bool,one b≤1:=by decide
section
variable {w:List Data} (hs:Spa w){t:Ty} (ht:InS (w.length*4) t)
include hs ht
theorem zmW {v:Val}{k:Nat} (hv:zaP w k t v=true):∀(r front out:List Pat){res:List Pat},(∀b∈front,zac w 10 t b=true)→(∀b∈r,zac w 10 t b=true)→sepQ w t front r out=some res→
  res.countP (fun x=>hitP x v)=out.countP (fun x=>hitP x v)+if front.any (fun x=>hitP x v)=true then 0 else one (r.any fun x=>hitP x v)
 | [],front,out,res,_,_,h=>by
  rw[sepQ] at h;cases h
  simp[one]
 |p::r,front,out,res,hf,hr,h=>by
  rw[sepQ] at h
  cases hw:zaJ w t [p] front with
  |none=>rw[hw] at h;cases h
  |some m=>
   rw[hw] at h
   have hp:=hr p (by simp)
   have h1:=zqk hs ht hv hf (fun a ha=>by rw[List.mem_singleton.1 ha];exact zcY (by omega) hp) hw
   have h2:=zmW hv r (front++[p]) (out++m) (fun b hb=>by
    rcases List.mem_append.1 hb with hb|hb
    ·exact hf b hb
    ·rw[List.mem_singleton.1 hb];exact hp) (fun b hb=>hr b (by simp[hb])) h
   rw[h2,List.countP_append,h1,List.any_append,List.any_cons,List.countP_singleton]
   simp only[List.any_cons,List.any_nil,Bool.or_false]
   exact zuY _ _ _ _
theorem zq3 {S:Pat→Prop}{V:List Val} (hg:Grid w t S V){l res:List Pat} (hl:∀b∈l,zac w 10 t b=true∧S b) (h:sepQ w t [] l []=some res):res.length≤V.length:=by
 obtain⟨m,hm⟩:=hg.fits
 have h1:=zmX (hg.minus 10) l [] [] (by simp) hl (by simp) h
 refine zsw V res (fun x hx=>?_) (fun v hv=>?_)
 ·obtain⟨h2,h3,h4⟩:=h1 x hx
  exact hg.hit 11 x h3 h2 (by unfold zbe at h4;simpa using h4)
 ·have:=zmW hs ht (hm v hv) l [] [] (by simp) (fun b hb=>(hl b hb).1) h
  rw[this]
  simp only[List.countP_nil,List.any_nil,Nat.zero_add]
  exact zv7 _
end
abbrev zhe (o:List Pat):List D:=[.sl (Pat.cs o)]
abbrev zii (ls:List (List Pat)):D:= .sl (ls.map zhe)
theorem zrO {N:Nat} (acc:List (List Pat)) (l:List Pat):(za3 (acc.take N) l).take N=(za3 acc l).take N:=by
 by_cases h:acc.length≤N
 ·rw[List.take_of_length_le h]
 have e0:∀a:List (List Pat),za3 a []=[]:=fun a=>by unfold za3;simp
 cases l with
 |nil=>rw[e0,e0]
 |cons c r=>
  have e:za3 acc (c::r)=za3 (acc.take N) (c::r)++za3 (acc.drop N) (c::r):=by
   unfold za3;rw[←List.flatMap_append,List.take_append_drop]
  rw[e,zd1]
  rw[zf2,List.length_take,Nat.min_eq_left (by omega),List.length_cons]
  exact Nat.le_mul_of_pos_right _ (by omega)
theorem zrP {N:Nat} (acc:List (List Pat)) (l:List Pat):(za3 acc (l.take N)).take N=(za3 acc l).take N:=by
 by_cases h:l.length≤N
 ·rw[List.take_of_length_le h]
 cases acc with
 |nil=>rfl
 |cons q r=>
  have e:∀l:List Pat,za3 (q::r) l=l.map (fun c=>q++[c])++za3 r l:=fun l=>by unfold za3;rw[List.flatMap_cons]
  rw[e,e,zd1 (by rw[List.length_map,List.length_take];omega),zd1 (by rw[List.length_map];omega),List.map_take,List.take_take,Nat.min_self]
def tupQ (m:Nat) (ls:List (List Pat)):List (List Pat):=ls.foldl (fun acc l=>(za3 acc l).take (m+1)) [[]]
theorem zjR (m:Nat) (ls:List (List Pat)) (l:List Pat):tupQ m (ls++[l])=(za3 (tupQ m ls) l).take (m+1):=by
 unfold tupQ;rw[List.foldl_append];rfl
theorem zpY (m:Nat):∀(ls:List (List Pat)) (acc:List (List Pat)),(ls.map (List.take (m+1))).foldl (fun acc l=>(za3 acc l).take (m+1)) (acc.take (m+1))=(ls.foldl za3 acc).take (m+1)
 | [],acc=>rfl
 |l::r,acc=>by
  rw[List.map_cons,List.foldl_cons,List.foldl_cons,zrP,zrO]
  exact zpY m r (za3 acc l)
theorem zu9 (m:Nat) (ls:List (List Pat)):tupQ m (ls.map (List.take (m+1)))=(zdL ls).take (m+1):=by
 have h:=zpY m ls [[]]
 have e:([[]]:List (List Pat)).take (m+1)=[[]]:=by simp
 rw[e] at h
 exact h
theorem zpW (m:Nat) (ls:List (List Pat)):(tupQ m ls).length≤m+1:=by
 have key:∀(ls acc:List (List Pat)),acc.length≤m+1→(ls.foldl (fun acc l=>(za3 acc l).take (m+1)) acc).length≤m+1:=by
  intro ls
  induction ls with
  |nil=>intro acc h;exact h
  |cons l r ih=>intro acc h;exact ih _ (by rw[List.length_take];omega)
 exact key ls [[]] (by simp)
theorem zpX (m:Nat){ls:List (List Pat)}{o:List Pat} (h:o∈tupQ m ls):o.length=ls.length:=by
 have key:∀(ls acc:List (List Pat)) (n:Nat),(∀o∈acc,o.length=n)→∀o∈ls.foldl (fun acc l=>(za3 acc l).take (m+1)) acc,o.length=n+ls.length:=by
  intro ls
  induction ls with
  |nil=>intro acc n h o ho;exact h o ho
  |cons l r ih=>
   intro acc n h o ho
   have:=ih _ (n+1) (fun o' ho'=>by
    have ho':=List.mem_of_mem_take ho'
    unfold za3 at ho'
    simp only[List.mem_flatMap,List.mem_map] at ho'
    obtain⟨p,hp,q,_,rfl⟩:=ho'
    simp[h p hp]) o ho
   simp only[List.length_cons];omega
 have:=key ls [[]] 0 (by simp) o h
 simpa using this
def zka (l:List Pat) (o:List Pat):List (List Pat):=l.map fun y=>o++[y]
theorem znb (acc:List (List Pat)) (l:List Pat):za3 acc l=acc.flatMap (zka l):=rfl
theorem zpU {X:List (List Pat)}{l:List Pat}{o:List Pat}{j m:Nat} (hc:¬j<l.length∨¬((X++(l.take j).map fun y=>o++[y]).take (m+1)).length≤m):
  (X++(l.take j).map fun y=>o++[y]).take (m+1)=(X++zka l o).take (m+1):=zu7 hc
theorem ztT {α:Type}{N:Nat} (a b:List α):(a.take N++b.take N).take N=(a++b).take N:=by
 by_cases h:a.length≤N
 ·rw[List.take_of_length_le h,List.take_append,List.take_append,List.take_take,Nat.min_eq_left (by omega)]
 ·rw[zd1 (by rw[List.length_take];omega),zd1 (by omega),List.take_take,Nat.min_self]
def zaU (p:Pat):List Pat:=(zap p).take 401
theorem ztO {p:Pat} (h:p.op=5) (hk:p.kids.length=2):zaU p=(zaU (nth p.kids 0)++zaU (nth p.kids 1)).take 401:=by
 unfold zaU;rw[zde h hk,ztT]
theorem ztP {p:Pat} (h:p.op≠5):zaU p=(tupQ 400 (p.kids.map zaU)).map fun l=> .mk p.op p.ctor p.n p.m p.var l:=by
 unfold zaU
 rw[zcQ h,←List.map_take]
 congr 1
 have:=zu9 400 (p.kids.map zap)
 rw[List.map_map] at this
 exact this.symm
theorem ziD (p:Pat):(zaU p).length≤401:=by unfold zaU;rw[List.length_take];omega
theorem zcU:∀(n:Nat){p:Pat},p.size≤n→p.ok→FnD Tryz.prog 58 [.agg [.d (.i p.op),.d (.i p.ctor),.d (.i p.n),.d (.i p.m),.d (.i p.var),.d (zad p.kids)]] [] (.agg [.d (.i (zat p).op),.d (.i (zat p).ctor),.d (.i (zat p).n),.d (.i (zat p).m),.d (.i (zat p).var),.d (zad (zat p).kids)]) []
 |0,p,h,_=>by rw[Pat.size_eq] at h;omega
 |n+1,p,h,hok=>by
  rw[Pat.size_eq] at h
  rw[Pat.ok_iff] at hok
  have hok1:=hok.1
  by_cases h2:p.op=2
  ·rw[zqp h2]
   refine bd Tryz.f58 42 [] [] fun w0 F0 own kept hk=>?_
   refine bx 3001 ?_
   refine ab 3002 tz28 ?_
   refine tv ?_
   refine sq (fun h1 h1p h1s=>?_) fun h1 h1p h1s=>?_
   try simp only[Q] at h1p
   refine bu [0] [_] st28 ?_
   refine so ty28 ?_
   refine tv ?_
   refine rn0 (.cons (.cellA ty28 rfl rfl rfl) .nil) (.agg (.cons (.eqd ?_) (.cons (.eqd ?_) (.cons (.eqd ?_) (.cons (.eqd ?_) (.cons (.eqd ?_) (.cons (.nild ?_) .nil)))))))
   rotate_left 6
   try simp only[Q] at h1p
   exfalso;omega
   all_goals (rfl)
  by_cases h6:p.op=6∧0<p.kids.length
  ·rw[zqq h6.1 h6.2]
   refine bd Tryz.f58 42 [] [] fun w0 F0 own kept hk=>?_
   refine bx 3001 ?_
   refine ab 3002 tz28 ?_
   refine tv ?_
   refine sq (fun h1 h1p h1s=>?_) fun h1 h1p h1s=>?_
   try simp only[Q,Pat.cs_len] at h1p
   exfalso;omega
   try simp only[Q,Pat.cs_len] at h1p
   refine sq (fun h2 h2p h2s=>?_) fun h2 h2p h2s=>?_
   try simp only[Q,Pat.cs_len] at h2p
   refine sq (fun h3 h3p h3s=>?_) fun h3 h3p h3s=>?_
   try simp only[Q,Pat.cs_len] at h3p
   refine Walk.idx (i:=0) sl26 .none rfl rfl rfl rfl (zaH h6.2) rfl ?_
   refine ev ?_
   refine wc zop (zcU n (p:=nth p.kids 0) (by have:=Pats.size_mem (zae h6.2);omega) (Pats.ok_mem hok.2 _ (zae h6.2))) rfl rfl ?_
   refine so ty28 ?_
   refine tv ?_
   refine rn0 (.cons (.cellA ty28 rfl rfl rfl) .nil) (.agg (.cons (.eqd ?_) (.cons (.eqd ?_) (.cons (.eqd ?_) (.cons (.eqd ?_) (.cons (.eqd ?_) (.cons (.eqd ?_) .nil)))))))
   rotate_left 6
   try simp only[Q,Pat.cs_len] at h3p
   exfalso;omega
   try simp only[Q,Pat.cs_len] at h2p
   exfalso;omega
   all_goals (rfl)
  ·rw[zqr h2 h6]
   refine bd Tryz.f58 42 [] [] fun w0 F0 own kept hk=>?_
   refine bx 3001 ?_
   refine ab 3002 tz28 ?_
   refine tv ?_
   refine sq (fun h1 h1p h1s=>?_) fun h1 h1p h1s=>?_
   try simp only[Q,Pat.cs_len] at h1p
   exfalso;omega
   try simp only[Q,Pat.cs_len] at h1p
   refine sq (fun h2 h2p h2s=>?_) fun h2 h2p h2s=>?_
   try simp only[Q,Pat.cs_len] at h2p
   refine sq (fun h3 h3p h3s=>?_) fun h3 h3p h3s=>?_
   try simp only[Q,Pat.cs_len] at h3p
   exfalso;apply h6;exact⟨by omega,by omega⟩
   try simp only[Q,Pat.cs_len] at h3p
   refine ab 3003 tz28 ?_
   refine so ty28 ?_
   refine tv ?_
   refine so ty26 ?_
   refine tv ?_
   refine CWp.tokB 3003 5 7 6 rfl rfl rfl rfl ?_
   refine CWp.loopX (ι:=List (Pat)×List (Pat)) hk (fun x=>[(4,.d (.i (x.1.length:Int)))]) [23,24,25,26,27,28,29,30,31,32,33,34,35,36,37,38,39,40] (fun x=>[(3003,some (.box [.d (.i p.op),.d (.i p.ctor),.d (.i p.n),.d (.i p.m),.d (.i p.var),.gl 7 ((x.1.map zat).map Pat.cc)])),(7,some (.tok ((x.1.map zat).map Pat.cc).length 6))]) (fun x=>x.1++x.2=p.kids) (fun x=>x.2.length) ([],p.kids) (by simp) ⟨⟨_,rfl,LeA.eqi ?_⟩,trivial⟩ ⟨?_,⟨zab ?_,trivial⟩⟩ (fun x=>rfl) (fun x hg1=>?_)
   focus ((simp;done))
   focus (first|rfl|(simp[getH];done))
   focus ((simp;done))
   obtain⟨pre,rest⟩:=x
   dsimp only at hg1 ⊢
   refine evc [] [] ?_
   refine sq (fun h4 h4p h4s=>?_) fun h4 h4p h4s=>?_
   try simp only[Q,Pat.cs_len] at h4p
   rcases rest with _|⟨y,rest⟩
   ·exfalso;simp_all
   refine Walk.idx sl26 .none rfl rfl rfl rfl (Pat.cs_at' hg1) rfl ?_
   refine evd [] [] ?_
   refine wc zop (zcU n (p:=y) (by have:=Pats.size_mem (l:=p.kids) (v:=y) (by rw[←hg1];simp);omega) (Pats.ok_mem hok.2 y (by rw[←hg1];simp))) rfl rfl ?_
   refine si [0] [_] sl26 tz28 ?_
   refine ap sl26 zz28 rfl rfl rfl (by intro x hx;first|(simp at hx;subst hx;rfl)|exact zfw _ x hx) (by have:=congrArg List.length hg1;simp at this;simp;omega) ?_
   refine evd [] [] ?_
   refine so ty26 ?_
   refine dr ?_
   refine ar ?_
   refine Exists.intro ((pre++[y],rest)) ⟨(by have hz:=hg1;rw[←hz];simp),(by simp),sx ⟨⟨_,rfl,LeA.eqi ?_⟩,trivial⟩ ⟨?_,⟨zab ?_,trivial⟩⟩⟩
   focus ((simp;done))
   focus (first|rfl|(simp[getH];done))
   focus ((simp;done))
   try simp only[Q,Pat.cs_len] at h4p
   have hrest:rest=[]:=by
    rcases rest with _|⟨a,b⟩
    ·rfl
    ·exfalso;have hz:=congrArg List.length (hg1);simp only[List.length_append,List.length_cons,List.length_map] at hz;omega
   subst hrest
   refine so ty28 ?_
   refine tv ?_
   refine rn0 (.cons (.cellA ty28 rfl rfl rfl) .nil) (.agg (.cons (.eqd ?_) (.cons (.eqd ?_) (.cons (.eqd ?_) (.cons (.eqd ?_) (.cons (.eqd ?_) (.cons (.gld ?_) .nil)))))))
   rotate_left 6
   try simp only[Q,Pat.cs_len] at h2p
   refine ab 3003 tz28 ?_
   refine so ty28 ?_
   refine tv ?_
   refine so ty26 ?_
   refine tv ?_
   refine CWp.tokB 3003 5 7 6 rfl rfl rfl rfl ?_
   refine CWp.loopX (ι:=List (Pat)×List (Pat)) hk (fun x=>[(4,.d (.i (x.1.length:Int)))]) [23,24,25,26,27,28,29,30,31,32,33,34,35,36,37,38,39,40] (fun x=>[(3003,some (.box [.d (.i p.op),.d (.i p.ctor),.d (.i p.n),.d (.i p.m),.d (.i p.var),.gl 7 ((x.1.map zat).map Pat.cc)])),(7,some (.tok ((x.1.map zat).map Pat.cc).length 6))]) (fun x=>x.1++x.2=p.kids) (fun x=>x.2.length) ([],p.kids) (by simp) ⟨⟨_,rfl,LeA.eqi ?_⟩,trivial⟩ ⟨?_,⟨zab ?_,trivial⟩⟩ (fun x=>rfl) (fun x hg1=>?_)
   focus ((simp;done))
   focus (first|rfl|(simp[getH];done))
   focus ((simp;done))
   obtain⟨pre,rest⟩:=x
   dsimp only at hg1 ⊢
   refine evc [] [] ?_
   refine sq (fun h5 h5p h5s=>?_) fun h5 h5p h5s=>?_
   try simp only[Q,Pat.cs_len] at h5p
   rcases rest with _|⟨y,rest⟩
   ·exfalso;simp_all
   refine Walk.idx sl26 .none rfl rfl rfl rfl (Pat.cs_at' hg1) rfl ?_
   refine evd [] [] ?_
   refine wc zop (zcU n (p:=y) (by have:=Pats.size_mem (l:=p.kids) (v:=y) (by rw[←hg1];simp);omega) (Pats.ok_mem hok.2 y (by rw[←hg1];simp))) rfl rfl ?_
   refine si [0] [_] sl26 tz28 ?_
   refine ap sl26 zz28 rfl rfl rfl (by intro x hx;first|(simp at hx;subst hx;rfl)|exact zfw _ x hx) (by have:=congrArg List.length hg1;simp at this;simp;omega) ?_
   refine evd [] [] ?_
   refine so ty26 ?_
   refine dr ?_
   refine ar ?_
   refine Exists.intro ((pre++[y],rest)) ⟨(by have hz:=hg1;rw[←hz];simp),(by simp),sx ⟨⟨_,rfl,LeA.eqi ?_⟩,trivial⟩ ⟨?_,⟨zab ?_,trivial⟩⟩⟩
   focus ((simp;done))
   focus (first|rfl|(simp[getH];done))
   focus ((simp;done))
   try simp only[Q,Pat.cs_len] at h5p
   have hrest:rest=[]:=by
    rcases rest with _|⟨a,b⟩
    ·rfl
    ·exfalso;have hz:=congrArg List.length (hg1);simp only[List.length_append,List.length_cons,List.length_map] at hz;omega
   subst hrest
   refine so ty28 ?_
   refine tv ?_
   refine rn0 (.cons (.cellA ty28 rfl rfl rfl) .nil) (.agg (.cons (.eqd ?_) (.cons (.eqd ?_) (.cons (.eqd ?_) (.cons (.eqd ?_) (.cons (.eqd ?_) (.cons (.gld ?_) .nil)))))))
   rotate_left 6
   all_goals (first|rfl|(rw[List.append_nil] at hg1;rw[←hg1,Pat.cs_cd];done)|(rw[List.append_nil] at hg1;subst hg1;rw[←Pat.cs_cd];all_goals rfl))
theorem zk4 {ls:List (List Pat)} (hl:ls.length≤1000000000000) (hls:∀l∈ls,l.length≤1000000000000):FnD Tryz.prog 187 [.d (zii ls)] [] (.d (zii (tupQ 400 ls))) []:=by
 refine bd Tryz.f187 62 [] [] fun w0 F0 own kept hk=>?_
 refine Walk.sliceEmpty sl26 .none rfl ?_
 refine si [0] [_] zdM tz26 ?_
 refine ev ?_
 refine CWp.loopX (ι:=List (List Pat)×List (List Pat)) hk (fun x=>[(4,.d (.i (x.1.length:Int))),(3,.d (.sl ((tupQ 400 x.1).map zhe)))]) [5,6,7,10,11,12,13,14,15,16,17,18,19,20,21,22,23,24,25,26,27,28,29,30,31,32,33,34,35,36,37,38,39,40,41,42,43,44,45,46,47,48,49,50,51,52,53,54,55,56,57,58,59,60] (fun x=>[]) (fun x=>x.1++x.2=ls) (fun x=>x.2.length) ([],ls) (by simp) ⟨⟨_,rfl,LeA.eqi ?_⟩,⟨⟨_,rfl, ?_⟩,trivial⟩⟩ trivial (fun x=>rfl) (fun x hg1=>?_)
 focus (first|rfl|(simp;done))
 focus (first|exact LeA.refl _|((first|refine LeA.gld ?_|refine LeA.nild ?_);first|rfl|(simp;done)|(rw[zjR,znb,zmL (by omega)])))
 obtain⟨pre,rest⟩:=x
 dsimp only at hg1 ⊢
 refine evc [] [] ?_
 refine sq (fun h1 h1p h1s=>?_) fun h1 h1p h1s=>?_
 try simp only[Q,Pat.cs_len,Int.ofNat_lt,Int.ofNat_le] at h1p
 rcases rest with _|⟨l,rest⟩
 ·exfalso;simp_all
 have hll:=hls l (by rw[←hg1];simp);have htl:=zpW 400 pre
 refine Walk.sliceEmptyG 3 zdM .none rfl rfl ?_
 refine ev ?_
 refine CWp.loopX (ι:=Nat) hk (fun k=>[(6,.d (.i (k:Int))),(5,.gl 3 (((((tupQ 400 pre).take k).flatMap (zka l)).take (400+1)).map zhe))]) [7,17,18,19,20,21,22,23,24,25,26,27,28,29,30,31,32,33,34,35,36,37,38,39,40,41,42,43,44,45,46,47,48,49,50,51,52,53,54,55,56,57,58,59] (fun k=>[(3,some (.tok ((((((tupQ 400 pre).take k).flatMap (zka l)).take (400+1)).map zhe)).length 1))]) (fun k=>k≤(tupQ 400 pre).length) (fun k=>(tupQ 400 pre).length-k) 0 (by simp) ⟨⟨_,rfl,LeA.eqi ?_⟩,⟨⟨_,rfl,LeA.glg ?_⟩,trivial⟩⟩ ⟨zab ?_,trivial⟩ (fun x=>rfl) (fun k hg2=>?_)
 iterate 3 focus (first|rfl|(simp;done))
 refine evc [] [] ?_
 refine sq (fun h2 h2p h2s=>?_) fun h2 h2p h2s=>?_
 try simp only[Q,Pat.cs_len,Int.ofNat_lt,Int.ofNat_le] at h2p
 refine sq (fun h3 h3p h3s=>?_) fun h3 h3p h3s=>?_
 try simp only[Q,Pat.cs_len,Int.ofNat_lt,Int.ofNat_le] at h3p
 refine CWp.loopX (ι:=Nat) hk (fun j=>[(7,.d (.i (j:Int))),(5,.gl 3 (((((tupQ 400 pre).take k).flatMap (zka l)++(l.take j).map (fun y=>nth (tupQ 400 pre) k++[y])).take (400+1)).map zhe))]) [28,29,30,31,32,33,34,35,36,37,38,39,40,41,42,43,44,45,46,47,48,49,50,51,52,53,54,55,56,57,58,59] (fun j=>[(3,some (.tok ((((((tupQ 400 pre).take k).flatMap (zka l)++(l.take j).map (fun y=>nth (tupQ 400 pre) k++[y])).take (400+1)).map zhe)).length 1))]) (fun j=>j≤l.length) (fun j=>l.length-j) 0 (by simp) ⟨⟨_,rfl,LeA.eqi ?_⟩,⟨⟨_,rfl,LeA.glg ?_⟩,trivial⟩⟩ ⟨zab ?_,trivial⟩ (fun x=>rfl) (fun j hg3=>?_)
 iterate 3 focus (first|rfl|(simp;done))
 have hol:=zpX 400 (zae (l:=tupQ 400 pre) (i:=k) (by omega))
 refine evc [] [] ?_
 refine Walk.idx zdM .none rfl rfl rfl rfl (by first|exact zaK hg1|exact zau (by omega)) rfl ?_
 refine ev ?_
 refine sq (fun h4 h4p h4s=>?_) fun h4 h4p h4s=>?_
 try simp only[Q,Pat.cs_len,Int.ofNat_lt,Int.ofNat_le] at h4p
 refine sq (fun h5 h5p h5s=>?_) fun h5 h5p h5s=>?_
 try simp only[Q,Pat.cs_len,Int.ofNat_lt,Int.ofNat_le] at h5p
 refine Walk.sliceEmptyG 5 sl26 .none rfl rfl ?_
 refine evd [] [] ?_
 refine Walk.idx zdM .none rfl rfl rfl rfl (by first|exact zaK hg1|exact zau (by omega)) rfl ?_
 refine evd [] [] ?_
 refine ap sl26 zz28 rfl rfl rfl (by intro z hz;first|(rw[Pat.cs_cd] at hz;obtain⟨_,_,rfl⟩:=List.mem_map.1 hz;rfl)|(simp at hz;rw[hz];rfl)) (by first|(simp only[List.length_map,List.length_append,List.length_cons,List.length_nil,Pat.cs_len] at *;omega)) ?_
 refine evd [] [] ?_
 refine Walk.idx zdM .none rfl rfl rfl rfl (by first|exact zaK hg1|exact zau (by omega)) rfl ?_
 refine evd [] [] ?_
 refine Walk.idx sl26 .none rfl rfl rfl rfl (zaH (by omega)) rfl ?_
 refine evd [] [] ?_
 refine si [0] [_] sl26 tz28 ?_
 refine ap sl26 zz28 rfl rfl rfl (by intro z hz;first|(rw[Pat.cs_cd] at hz;obtain⟨_,_,rfl⟩:=List.mem_map.1 hz;rfl)|(simp at hz;rw[hz];rfl)) (by first|(simp only[List.length_map,List.length_append,List.length_cons,List.length_nil,Pat.cs_len] at *;omega)) ?_
 refine si [0] [_] zdM tz26 ?_
 refine ap zdM zz26 rfl rfl rfl (by intro z hz;first|(rw[Pat.cs_cd] at hz;obtain⟨_,_,rfl⟩:=List.mem_map.1 hz;rfl)|(simp at hz;rw[hz];rfl)) (by first|(simp only[List.length_map,List.length_append,List.length_cons,List.length_nil,Pat.cs_len] at *;omega)) ?_
 refine evd [] [] ?_
 refine dr ?_
 refine ar ?_
 refine Exists.intro (j+1) ⟨?_, ?_,sx ⟨⟨_,rfl,LeA.eqi ?_⟩,⟨⟨_,rfl,LeA.glg ?_⟩,trivial⟩⟩ ⟨zab ?_,trivial⟩⟩
 iterate 2 focus (first|omega|(simp_all;done))
 iterate 3 focus (first|rfl|(simp;done)|(rw[zu8 (by omega) (by omega),List.map_append];simp[Pat.cs_cd];done))
 try simp only[Q,Pat.cs_len,Int.ofNat_lt,Int.ofNat_le] at h5p
 refine ar ?_
 refine Exists.intro (k+1) ⟨?_, ?_,sx ⟨⟨_,rfl,LeA.eqi ?_⟩,⟨⟨_,rfl,LeA.glg ?_⟩,trivial⟩⟩ ⟨zab ?_,trivial⟩⟩
 iterate 2 focus (first|omega|(simp_all;done))
 iterate 3 focus (first|rfl|(simp;done)|(rw[zqJ (by omega),zpU (by omega)]))
 try simp only[Q,Pat.cs_len,Int.ofNat_lt,Int.ofNat_le] at h4p
 refine sqF ?_
 refine ar ?_
 refine Exists.intro (k+1) ⟨?_, ?_,sx ⟨⟨_,rfl,LeA.eqi ?_⟩,⟨⟨_,rfl,LeA.glg ?_⟩,trivial⟩⟩ ⟨zab ?_,trivial⟩⟩
 iterate 2 focus (first|omega|(simp_all;done))
 iterate 3 focus (first|rfl|(simp;done)|(rw[zqJ (by omega),zpU (by omega)]))
 try simp only[Q,Pat.cs_len,Int.ofNat_lt,Int.ofNat_le] at h3p
 refine ar ?_
 refine Exists.intro ((pre++[l],rest)) ⟨(by have hz:=hg1;rw[←hz];simp),(by simp),sx ⟨⟨_,rfl,LeA.eqi ?_⟩,⟨⟨_,rfl, ?_⟩,trivial⟩⟩ trivial⟩
 focus (first|rfl|(simp;done))
 focus (first|exact LeA.refl _|((first|refine LeA.gld ?_|refine LeA.nild ?_);first|rfl|(simp;done)|(rw[zjR,znb,zmL (by omega)])))
 try simp only[Q,Pat.cs_len,Int.ofNat_lt,Int.ofNat_le] at h2p
 refine sqF ?_
 refine ar ?_
 refine Exists.intro ((pre++[l],rest)) ⟨(by have hz:=hg1;rw[←hz];simp),(by simp),sx ⟨⟨_,rfl,LeA.eqi ?_⟩,⟨⟨_,rfl, ?_⟩,trivial⟩⟩ trivial⟩
 focus (first|rfl|(simp;done))
 focus (first|exact LeA.refl _|((first|refine LeA.gld ?_|refine LeA.nild ?_);first|rfl|(simp;done)|(rw[zjR,znb,zmL (by omega)])))
 try simp only[Q,Pat.cs_len,Int.ofNat_lt,Int.ofNat_le] at h1p
 have hrest:rest=[]:=by
  rcases rest with _|⟨a,b⟩
  ·rfl
  ·exfalso;have hz:=congrArg List.length (hg1);simp only[List.length_append,List.length_cons,List.length_map] at hz;omega
 subst hrest
 refine rn0 (r1 rfl) (.eqd ?_)
 rotate_left
 all_goals ((rw[List.append_nil] at hg1);subst hg1;rfl)
theorem zdO:∀(n:Nat){p:Pat},binP n p=true→p.ok→FnD Tryz.prog 142 [.agg [.d (.i p.op),.d (.i p.ctor),.d (.i p.n),.d (.i p.m),.d (.i p.var),.d (zad p.kids)]] [] (.gv 9 (Pat.cs (zaU p))) [(9,some (.tok (Pat.cs (zaU p)).length 6))]
 |0,p,h,_=>by simp[binP] at h
 |n+1,p,h,hok=>by
  have hok':=(Pat.ok_iff p).1 hok
  have hok1:=hok'.1
  by_cases h5:p.op=5
  ·have hl:=zjX h h5
   have e5:=ztO h5 hl
   have l0:=ziD (nth p.kids 0)
   have l1:=ziD (nth p.kids 1)
   have c0:=zdO n (zdH h (i:=0) (by omega)) (Pats.ok_mem hok'.2 _ (zae (by omega)))
   have c1:=FnD.gvD (zdO n (zdH h (i:=1) (by omega)) (Pats.ok_mem hok'.2 _ (zae (by omega))))
   rw[e5]
   generalize zaU (nth p.kids 0)=A at *
   generalize zaU (nth p.kids 1)=C at *
   by_cases hlen:(A++C).length≤401
   ·rw[List.take_of_length_le hlen]
    rw[List.length_append] at hlen
    refine bd Tryz.f142 67 [25] [] fun w0 F0 own kept hk=>?_
    refine bx 3001 ?_
    refine evs [25] [] ?_
    refine sq (fun h1 h1p h1s=>?_) fun h1 h1p h1s=>?_
    try simp only[Q,Pat.cs_len,List.length_append] at h1p
    refine Walk.idx (i:=0) sl26 .none rfl rfl rfl rfl (zaH (by omega)) rfl ?_
    refine evd [25] [] ?_
    refine Walk.call (cr:=[9]) zhJ (c0) rfl .none rfl rfl (LeL.refl _) trivial rfl rfl rfl ?_
    refine evd [25] [] ?_
    refine Walk.idx (i:=1) sl26 .none rfl rfl rfl rfl (zaH (by omega)) rfl ?_
    refine evd [25] [] ?_
    refine wc zhJ (c1) rfl rfl ?_
    refine Walk.appendV sl26 zz28 .none rfl rfl rfl rfl (zgm rfl (by(simp;done))) (by intro x hx;exact zbD _ x hx) (by simp[Pat.cs_len];omega) (by simp[Pat.cs_len];omega) ?_
    refine evd [25] [] ?_
    refine dr ?_
    refine Walk.lenV sl26 .none rfl rfl ?_
    refine evs [25] [] ?_
    refine sq (fun h2 h2p h2s=>?_) fun h2 h2p h2s=>?_
    try simp only[Q,Pat.cs_len,List.length_append] at h2p
    exfalso;omega
    try simp only[Q,Pat.cs_len,List.length_append] at h2p
    refine rn [(9,some (.tok (Pat.cs (A++C)).length 6))] (r1 rfl) (.gvg ?_) ⟨rfl,rfl⟩ (SubH.get ⟨?_,trivial⟩) (zaF rfl)
    rotate_left 2
    try simp only[Q,Pat.cs_len,List.length_append] at h1p
    exfalso;omega
    all_goals (first|((first|rfl|(simp[Pat.cs_cd];done));done)|(first|rfl|(simp[Pat.cs_cd];rfl)))
   ·have c8:=FnD.gvRen 8 c0
    rw[List.length_append] at hlen
    refine bd Tryz.f142 67 [25] [] fun w0 F0 own kept hk=>?_
    refine bx 3001 ?_
    refine evs [25] [] ?_
    refine sq (fun h1 h1p h1s=>?_) fun h1 h1p h1s=>?_
    try simp only[Q,Pat.cs_len,List.length_append] at h1p
    refine Walk.idx (i:=0) sl26 .none rfl rfl rfl rfl (zaH (by omega)) rfl ?_
    refine evd [25] [] ?_
    refine Walk.call (cr:=[8]) zhJ (c8) rfl .none rfl rfl (LeL.refl _) trivial rfl rfl rfl ?_
    refine evd [25] [] ?_
    refine Walk.idx (i:=1) sl26 .none rfl rfl rfl rfl (zaH (by omega)) rfl ?_
    refine evd [25] [] ?_
    refine wc zhJ (c1) rfl rfl ?_
    refine Walk.appendV sl26 zz28 .none rfl rfl rfl rfl (zgm rfl (by(simp;done))) (by intro x hx;exact zbD _ x hx) (by simp[Pat.cs_len];omega) (by simp[Pat.cs_len];omega) ?_
    refine evd [25] [] ?_
    refine dr ?_
    refine Walk.lenV sl26 .none rfl rfl ?_
    refine evs [25] [] ?_
    refine sq (fun h2 h2p h2s=>?_) fun h2 h2p h2s=>?_
    try simp only[Q,Pat.cs_len,List.length_append] at h2p
    refine Walk.cutV_h 9 (b:=401) sl26 .none rfl rfl (zgm rfl (by(simp;done))) rfl rfl (by simp[Pat.cs_len];omega) (by simp[Pat.cs_len];omega) rfl ?_
    refine evs [25] [] ?_
    refine rn [(9,some (.tok (Pat.cs ((A++C).take 401)).length 6))] (r1 rfl) (.gvg ?_) ⟨rfl,rfl⟩ (SubH.get ⟨?_,trivial⟩) (zaF rfl)
    rotate_left 2
    try simp only[Q,Pat.cs_len,List.length_append] at h2p
    exfalso;omega
    try simp only[Q,Pat.cs_len,List.length_append] at h1p
    exfalso;omega
    all_goals (first|((first|rfl|(simp[Pat.cs_cd];done));done)|(first|rfl|(show some (Res.tok _ _)=some (Res.tok _ _);simp[Pat.cs_len];omega)))
  ·have hts:=zpW 400 (p.kids.map zaU)
   have htm:=fun(i:Nat) (hi:i<(tupQ 400 (p.kids.map zaU)).length)=>zpX 400 (zae hi)
   have ht3:=zk4 (ls:=p.kids.map zaU) (by rw[List.length_map];omega) (fun l hl=>by obtain⟨x,_,rfl⟩:=List.mem_map.1 hl;have:=ziD x;omega)
   have hcal:=fun(i:Nat) (hi:i<p.kids.length)=>FnD.gvD (zdO n (zdH h hi) (Pats.ok_mem hok'.2 _ (zae hi)))
   have hpl:=fun(y:Pat) (pre rest:List Pat) (e:pre++y::rest=p.kids)=>(show pre.length<p.kids.length∧nth p.kids pre.length=y from⟨by have:=congrArg List.length e;simp at this;omega,zv6 e⟩)
   have hcal2:=fun(y:Pat) (pre rest:List Pat) (e:pre++y::rest=p.kids)=>show FnD Tryz.prog 142 [.agg [.d (.i y.op),.d (.i y.ctor),.d (.i y.n),.d (.i y.m),.d (.i y.var),.d (zad y.kids)]] [] (.d (.sl (Pat.cs (zaU y)))) [] from by
    have hq:=hcal pre.length (hpl y pre rest e).1
    rw[(hpl y pre rest e).2] at hq
    exact hq
   have ht3':=fun(pre:List Pat) (e:pre++[]=p.kids)=>show FnD Tryz.prog 187 [.d (zii (pre.map zaU))] [] (.d (zii (tupQ 400 (p.kids.map zaU)))) [] from by
    rw[List.append_nil] at e
    rw[e];exact ht3
   rw[ztP h5]
   refine bd Tryz.f142 67 [] [] fun w0 F0 own kept hk=>?_
   refine bx 3001 ?_
   refine ev ?_
   refine sq (fun h1 h1p h1s=>?_) fun h1 h1p h1s=>?_
   try simp only[Q,Pat.cs_len] at h1p
   exfalso;omega
   try simp only[Q,Pat.cs_len] at h1p
   refine Walk.sliceEmptyG 4 zdM .none rfl rfl ?_
   refine ev ?_
   refine CWp.loopX (ι:=List (Pat)×List (Pat)) hk (fun x=>[(5,.d (.i (x.1.length:Int))),(4,.gl 4 ((x.1.map zaU).map zhe))]) [31,32,33,34,35,36,37,38,39,40,41,42,43,44,45,46] (fun x=>[(4,some (.tok (((x.1.map zaU).map zhe)).length 1))]) (fun x=>x.1++x.2=p.kids) (fun x=>x.2.length) ([],p.kids) (by simp) ⟨⟨_,rfl,LeA.eqi ?_⟩,⟨⟨_,rfl,LeA.glg ?_⟩,trivial⟩⟩ ⟨zab ?_,trivial⟩ (fun x=>rfl) (fun x hg1=>?_)
   iterate 3 focus ((simp;done))
   obtain⟨pre,rest⟩:=x
   dsimp only at hg1 ⊢
   refine evc [] [] ?_
   refine sq (fun h2 h2p h2s=>?_) fun h2 h2p h2s=>?_
   try simp only[Q,Pat.cs_len] at h2p
   rcases rest with _|⟨y,rest⟩
   ·exfalso;simp_all
   refine Walk.idx sl26 .none rfl rfl rfl rfl (Pat.cs_at' hg1) rfl ?_
   refine ev ?_
   refine wc zhJ (hcal2 y pre rest hg1) rfl rfl ?_
   refine si [0] [_] zdM tz26 ?_
   refine ap zdM zz26 rfl rfl rfl (by intro x hx;first|(simp at hx;subst hx;rfl)|exact zfw _ x hx) (by first|(have:=congrArg List.length hg1;simp at this;simp;omega)|(simp;omega)) ?_
   refine ev ?_
   refine ar ?_
   refine Exists.intro ((pre++[y],rest)) ⟨(by have hz:=hg1;rw[←hz];simp),(by simp),sx ⟨⟨_,rfl,LeA.eqi ?_⟩,⟨⟨_,rfl,LeA.glg ?_⟩,trivial⟩⟩ ⟨zab ?_,trivial⟩⟩
   iterate 3 focus ((simp;done))
   try simp only[Q,Pat.cs_len] at h2p
   have hrest:rest=[]:=by
    rcases rest with _|⟨a,b⟩
    ·rfl
    ·exfalso;have hz:=congrArg List.length (hg1);simp only[List.length_append,List.length_cons,List.length_map] at hz;omega
   subst hrest
   refine Walk.call (cr:=[]) zvG (ht3' pre hg1) rfl .none rfl rfl (.cons (.gl _ _) .nil) trivial rfl rfl rfl ?_
   refine ev ?_
   refine Walk.sliceEmptyGV 9 sl26 .none rfl rfl ?_
   refine ev ?_
   refine CWp.loopX (ι:=Nat) hk (fun k=>[(8,.d (.i (k:Int))),(7,.gv 9 ((((tupQ 400 (p.kids.map zaU)).take k).map fun l=>Pat.mk p.op p.ctor p.n p.m p.var l).map Pat.cc))]) [9,50,51,52,53,54,55,56,57,58,59,60,61,62,63,64,65] (fun k=>[(9,some (.tok (((((tupQ 400 (p.kids.map zaU)).take k).map fun l=>Pat.mk p.op p.ctor p.n p.m p.var l).map Pat.cc)).length 6))]) (fun k=>k≤(tupQ 400 (p.kids.map zaU)).length) (fun k=>(tupQ 400 (p.kids.map zaU)).length-k) 0 (by omega) ⟨⟨_,rfl,LeA.eqi ?_⟩,⟨⟨_,rfl,LeA.gvg ?_⟩,trivial⟩⟩ ⟨zab ?_,trivial⟩ (fun x=>rfl) (fun k hg2=>?_)
   iterate 3 focus ((simp;done))
   refine evc [] [] ?_
   refine sq (fun h3 h3p h3s=>?_) fun h3 h3p h3s=>?_
   try simp only[Q,Pat.cs_len] at h3p
   refine ab 3009 tz28 ?_
   refine so ty28 ?_
   refine tv ?_
   refine Walk.idx zdM .none rfl rfl rfl rfl (zau (by omega)) rfl ?_
   refine ev ?_
   refine so ty26 ?_
   refine tv ?_
   refine si [0] [_] sl26 tz28 ?_
   refine Walk.appendV sl26 zz28 .none rfl rfl rfl rfl (zgm rfl (by first|rfl|(simp;done))) (by intro x hx;first|(simp at hx;subst hx;rfl)|exact zfw _ x hx) (by first|(have:=congrArg List.length hg1;simp at this;simp;omega)|(simp;omega)) (by first|(have:=congrArg List.length hg1;simp at this;simp;omega)|(simp;omega)) ?_
   refine ev ?_
   refine ar ?_
   refine Exists.intro (k+1) ⟨(by omega),(by omega),sx ⟨⟨_,rfl,LeA.eqi ?_⟩,⟨⟨_,rfl,LeA.gvg ?_⟩,trivial⟩⟩ ⟨zab ?_,trivial⟩⟩
   iterate 3 focus (first|(simp;done)|(rw[List.take_succ_eq_append_getElem (by omega),←zaG (by omega)];simp[zbZ,zeI,mk_n,mk_m,zgZ,zaZ];done))
   try simp only[Q,Pat.cs_len] at h3p
   refine rn [(9,some (.tok (Pat.cs ((tupQ 400 (p.kids.map zaU)).map fun l=>Pat.mk p.op p.ctor p.n p.m p.var l)).length 6))] (r1 rfl) (.gvg ?_) ⟨rfl,rfl⟩ (SubH.get ⟨?_,trivial⟩) (zaF rfl)
   rotate_left 2
   all_goals (first|((first|rfl|(obtain rfl:k=(tupQ 400 (p.kids.map zaU)).length:=(by omega);rw[List.take_length,show Pat.cs ((tupQ 400 (p.kids.map zaU)).map fun l=>Pat.mk p.op p.ctor p.n p.m p.var l)=((tupQ 400 (p.kids.map zaU)).map fun l=>Pat.mk p.op p.ctor p.n p.m p.var l).map Pat.cc from Pat.cs_cd _];done));done)|(first|rfl|(obtain rfl:k=(tupQ 400 (p.kids.map zaU)).length:=(by omega);rw[List.take_length];simp[Pat.cs_cd];rfl)|(obtain rfl:k=(tupQ 400 (p.kids.map zaU)).length:=(by omega);rw[List.take_length,show Pat.cs ((tupQ 400 (p.kids.map zaU)).map fun l=>Pat.mk p.op p.ctor p.n p.m p.var l)=((tupQ 400 (p.kids.map zaU)).map fun l=>Pat.mk p.op p.ctor p.n p.m p.var l).map Pat.cc from Pat.cs_cd _];rfl)))
theorem zhu {w:List Data}{n:Nat}{t:Ty}{p:Pat} (h:zas w n t p=true) (hok:p.ok):FnD Tryz.prog 87 [.agg [.d (.i p.op),.d (.i p.ctor),.d (.i p.n),.d (.i p.m),.d (.i p.var),.d (zad p.kids)]] [] (.d (zad (zaU (zat p)))) []:=by
 have hbp:=zcU _ (Nat.le_refl _) hok
 have hsp:=FnD.gvD (zdO n (zf0 n h) (zjW p hok))
 generalize zat p=b at *
 refine bd Tryz.f87 6 [] [] fun w0 F0 own kept hk=>?_
 refine bx 3001 ?_
 refine ev ?_
 refine wc zop (hbp) rfl rfl ?_
 refine wc zhJ (hsp) rfl rfl ?_
 refine ev ?_
 refine rn0 (r1 rfl) (.eqd ?_)
 rotate_left
 all_goals (rfl)
theorem zg4 {a b:Pat} (hn:0≤b.n∧b.n≤9) (hm:0≤b.m∧b.m≤9):FnD Tryz.prog 156 [.agg [.d (.i (a).op),.d (.i (a).ctor),.d (.i (a).n),.d (.i (a).m),.d (.i (a).var),.d (zad (a).kids)],.agg [.d (.i (b).op),.d (.i (b).ctor),.d (.i (b).n),.d (.i (b).m),.d (.i (b).var),.d (zad (b).kids)]] [] (.d (zad (zbE a.n (minQ a.m (b.n-1))++zbE (maxQ a.n (b.m+1)) a.m))) []:=by
 refine bd Tryz.f156 58 [] [] fun w0 F0 own kept hk=>?_
 refine bx 3002 ?_
 refine bx 3003 ?_
 refine ev ?_
 refine Walk.sliceEmptyG 9 sl26 .none rfl rfl ?_
 refine ev ?_
 refine bu [0,2,3] [_,_,_] st28 ?_
 refine ab 3006 tz28 ?_
 refine so ty28 ?_
 refine tv ?_
 refine ar ?_
 refine sq (fun h1 h1p h1s=>?_) fun h1 h1p h1s=>?_
 try simp only[Q] at h1p
 refine ar ?_
 refine so ty3 ?_
 refine tv ?_
 refine sq (fun h2 h2p h2s=>?_) fun h2 h2p h2s=>?_
 try simp only[Q] at h2p
 refine si [0] [_] sl26 tz28 ?_
 refine ap sl26 zz28 rfl rfl rfl (by intro x hx;simp at hx;subst hx;rfl) (by simp) ?_
 refine ev ?_
 refine bu [0,2,3] [_,_,_] st28 ?_
 refine ab 3007 tz28 ?_
 refine so ty28 ?_
 refine tv ?_
 refine ar ?_
 refine sq (fun h3 h3p h3s=>?_) fun h3 h3p h3s=>?_
 try simp only[Q] at h3p
 refine ar ?_
 refine so ty3 ?_
 refine tv ?_
 refine sq (fun h4 h4p h4s=>?_) fun h4 h4p h4s=>?_
 try simp only[Q] at h4p
 refine si [0] [_] sl26 tz28 ?_
 refine ap sl26 zz28 rfl rfl rfl (by intro x hx;simp at hx;subst hx;rfl) (by simp) ?_
 refine ev ?_
 refine rn0 (r1 rfl) (.gld ?_)
 rotate_left
 try simp only[Q] at h4p
 refine rn0 (r1 rfl) (.gld ?_)
 rotate_left
 try simp only[Q] at h3p
 refine sq (fun h5 h5p h5s=>?_) fun h5 h5p h5s=>?_
 try simp only[Q] at h5p
 refine si [0] [_] sl26 tz28 ?_
 refine ap sl26 zz28 rfl rfl rfl (by intro x hx;simp at hx;subst hx;rfl) (by simp) ?_
 refine ev ?_
 refine rn0 (r1 rfl) (.gld ?_)
 rotate_left
 try simp only[Q] at h5p
 refine rn0 (r1 rfl) (.gld ?_)
 rotate_left
 try simp only[Q] at h2p
 refine bu [0,2,3] [_,_,_] st28 ?_
 refine ab 3007 tz28 ?_
 refine so ty28 ?_
 refine tv ?_
 refine ar ?_
 refine sq (fun h6 h6p h6s=>?_) fun h6 h6p h6s=>?_
 try simp only[Q] at h6p
 refine ar ?_
 refine so ty3 ?_
 refine tv ?_
 refine sq (fun h7 h7p h7s=>?_) fun h7 h7p h7s=>?_
 try simp only[Q] at h7p
 refine si [0] [_] sl26 tz28 ?_
 refine ap sl26 zz28 rfl rfl rfl (by intro x hx;simp at hx;subst hx;rfl) (by simp) ?_
 refine ev ?_
 refine rn0 (r1 rfl) (.gld ?_)
 rotate_left
 try simp only[Q] at h7p
 refine rn0 (r1 rfl) (.gld ?_)
 rotate_left
 try simp only[Q] at h6p
 refine sq (fun h8 h8p h8s=>?_) fun h8 h8p h8s=>?_
 try simp only[Q] at h8p
 refine si [0] [_] sl26 tz28 ?_
 refine ap sl26 zz28 rfl rfl rfl (by intro x hx;simp at hx;subst hx;rfl) (by simp) ?_
 refine ev ?_
 refine rn0 (r1 rfl) (.gld ?_)
 rotate_left
 try simp only[Q] at h8p
 refine rn0 (r1 rfl) (.gld ?_)
 rotate_left
 try simp only[Q] at h1p
 refine sq (fun h9 h9p h9s=>?_) fun h9 h9p h9s=>?_
 try simp only[Q] at h9p
 refine si [0] [_] sl26 tz28 ?_
 refine ap sl26 zz28 rfl rfl rfl (by intro x hx;simp at hx;subst hx;rfl) (by simp) ?_
 refine ev ?_
 refine bu [0,2,3] [_,_,_] st28 ?_
 refine ab 3007 tz28 ?_
 refine so ty28 ?_
 refine tv ?_
 refine ar ?_
 refine sq (fun h10 h10p h10s=>?_) fun h10 h10p h10s=>?_
 try simp only[Q] at h10p
 refine ar ?_
 refine so ty3 ?_
 refine tv ?_
 refine sq (fun h11 h11p h11s=>?_) fun h11 h11p h11s=>?_
 try simp only[Q] at h11p
 refine si [0] [_] sl26 tz28 ?_
 refine ap sl26 zz28 rfl rfl rfl (by intro x hx;simp at hx;subst hx;rfl) (by simp) ?_
 refine ev ?_
 refine rn0 (r1 rfl) (.gld ?_)
 rotate_left
 try simp only[Q] at h11p
 refine rn0 (r1 rfl) (.gld ?_)
 rotate_left
 try simp only[Q] at h10p
 refine sq (fun h12 h12p h12s=>?_) fun h12 h12p h12s=>?_
 try simp only[Q] at h12p
 refine si [0] [_] sl26 tz28 ?_
 refine ap sl26 zz28 rfl rfl rfl (by intro x hx;simp at hx;subst hx;rfl) (by simp) ?_
 refine ev ?_
 refine rn0 (r1 rfl) (.gld ?_)
 rotate_left
 try simp only[Q] at h12p
 refine rn0 (r1 rfl) (.gld ?_)
 rotate_left
 try simp only[Q] at h9p
 refine bu [0,2,3] [_,_,_] st28 ?_
 refine ab 3007 tz28 ?_
 refine so ty28 ?_
 refine tv ?_
 refine ar ?_
 refine sq (fun h13 h13p h13s=>?_) fun h13 h13p h13s=>?_
 try simp only[Q] at h13p
 refine ar ?_
 refine so ty3 ?_
 refine tv ?_
 refine sq (fun h14 h14p h14s=>?_) fun h14 h14p h14s=>?_
 try simp only[Q] at h14p
 refine si [0] [_] sl26 tz28 ?_
 refine ap sl26 zz28 rfl rfl rfl (by intro x hx;simp at hx;subst hx;rfl) (by simp) ?_
 refine ev ?_
 refine rn0 (r1 rfl) (.gld ?_)
 rotate_left
 try simp only[Q] at h14p
 refine rn0 (r1 rfl) (.gld ?_)
 rotate_left
 try simp only[Q] at h13p
 refine sq (fun h15 h15p h15s=>?_) fun h15 h15p h15s=>?_
 try simp only[Q] at h15p
 refine si [0] [_] sl26 tz28 ?_
 refine ap sl26 zz28 rfl rfl rfl (by intro x hx;simp at hx;subst hx;rfl) (by simp) ?_
 refine ev ?_
 refine rn0 (r1 rfl) (.gld ?_)
 rotate_left
 try simp only[Q] at h15p
 refine rn0 (r1 rfl) (.gld ?_)
 rotate_left
 all_goals (unfold minQ maxQ zbE;(repeat' split)<;>first|rfl|(exfalso;omega))
theorem zok {w:List Data} (hw:WT w){a k c:Int} (ht:TyIn w.length ⟨a,k⟩) (hc:c∈zah w ⟨a,k⟩) (hl:(zaa w ⟨a,k⟩ c).length≤3):FnD Tryz.prog 158 [.d (zam w),.agg [.d (.i a),.d (.i k)],.d (.i c)] []
  (.agg [.d (.i 4),.d (.i c),.d (.i 0),.d (.i 0),.d (.i 0),.d (zad (zbz w ⟨a,k⟩ c).kids)]) []:=by
 refine bd Tryz.f158 29 [] [] fun w0 F0 own kept hk=>?_
 refine bx 3004 ?_
 refine ab 3006 tz28 ?_
 refine tv ?_
 refine bu [0,1] [_,_] st28 ?_
 refine ab 3007 tz28 ?_
 refine so ty28 ?_
 refine tv ?_
 refine wc zfQ (zb5 hw ht hc) rfl rfl ?_
 refine ev ?_
 refine CWp.tokB 3007 5 9 6 rfl rfl rfl rfl ?_
 refine CWp.loopX (ι:=List (Ty)×List (Ty)) hk (fun x=>[(9,.d (.i (x.1.length:Int)))]) [16,17,18,19,20,21,22,23,24,25,26,27] (fun x=>[(3007,some (.box [.d (.i 4),.d (.i c),.d (.i 0),.d (.i 0),.d (.i 0),.gl 9 ((x.1.map fun _=>anyQ).map Pat.cc)])),(9,some (.tok ((x.1.map fun _=>anyQ).map Pat.cc).length 6))]) (fun x=>x.1++x.2=zaa w ⟨a,k⟩ c) (fun x=>x.2.length) ([],zaa w ⟨a,k⟩ c) (by simp) ⟨⟨_,rfl,LeA.eqi ?_⟩,trivial⟩ ⟨?_,⟨zab ?_,trivial⟩⟩ (fun x=>rfl) (fun x hg1=>?_)
 focus (rfl)
 focus (rfl)
 focus (rfl)
 obtain⟨pre,rest⟩:=x
 dsimp only at hg1 ⊢
 refine evc [] [] ?_
 refine sq (fun h1 h1p h1s=>?_) fun h1 h1p h1s=>?_
 try simp only[Q] at h1p
 rcases rest with _|⟨y,rest⟩
 ·exfalso;simp_all
 refine wc zvo (zoi) rfl rfl ?_
 refine si [0] [_] sl26 tz28 ?_
 refine ap sl26 zz28 rfl rfl rfl (by intro x hx;(simp at hx;subst hx;rfl)) (by have:=congrArg List.length hg1;simp at this;simp;omega) ?_
 refine evd [] [] ?_
 refine so ty26 ?_
 refine dr ?_
 refine ar ?_
 refine Exists.intro ((pre++[y],rest)) ⟨(by have hz:=hg1;rw[←hz];simp),(by simp),sx ⟨⟨_,rfl,LeA.eqi ?_⟩,trivial⟩ ⟨?_,⟨zab ?_,trivial⟩⟩⟩
 focus ((simp;done))
 focus ((simp[getH];exact⟨rfl,rfl,rfl,rfl,rfl,rfl⟩))
 focus ((simp;done))
 try simp only[Q] at h1p
 have hrest:rest=[]:=by
  rcases rest with _|⟨a,b⟩
  ·rfl
  ·exfalso;have hz:=congrArg List.length (hg1);simp only[List.length_append,List.length_cons,List.length_map] at hz;omega
 subst hrest
 refine so ty28 ?_
 refine tv ?_
 refine rn0 (.cons (.cellA ty28 rfl rfl rfl) .nil) (.agg (.cons (.eqd ?_) (.cons (.eqd ?_) (.cons (.eqd ?_) (.cons (.eqd ?_) (.cons (.eqd ?_) (.cons (.gld ?_) .nil)))))))
 rotate_left 6
 all_goals (first|rfl|(rw[List.append_nil] at hg1;subst hg1;rw[←Pat.cs_cd];all_goals rfl))
def zdy (n:Nat) (a b:Pat):Pat:=if a.op=3∧b.op≠1 then intQ (maxQ a.n b.n) (minQ a.m b.m) else zcx n a b
theorem zmS {n:Nat}{a b:Pat} (h:¬(a.op=3∧b.op≠1)):zdy n a b=zcx n a b:=if_neg h
theorem ziu {n:Nat}{a b:Pat} (h:(zan n a b).isSome=true):zdy n a b=zcx n a b:=by
 unfold zdy
 split
 ·rename_i h3
  cases n with
  |zero=>simp[zan] at h
  |succ n=>
   have e:=zgY (n:=n) h3.1 h3.2
   rw[e] at h
   split at h
   ·rename_i hr
    rw[if_pos hr] at e
    exact(zch e).symm
   ·cases h
 ·rfl
theorem zfE {w:List Data} (hs:Spa w):∀(n m:Nat){t:Ty}{a b:Pat},m≤n→InS (w.length*4) t→zac w m t a=true→zac w m t b=true→
  FnD Tryz.prog 67 [.agg [.d (.i (a).op),.d (.i (a).ctor),.d (.i (a).n),.d (.i (a).m),.d (.i (a).var),.d (zad (a).kids)],.agg [.d (.i (b).op),.d (.i (b).ctor),.d (.i (b).n),.d (.i (b).m),.d (.i (b).var),.d (zad (b).kids)]] [] (.tup [.agg [.d (.i (zdy n a b).op),.d (.i (zdy n a b).ctor),.d (.i (zdy n a b).n),.d (.i (zdy n a b).m),.d (.i (zdy n a b).var),.d (zad (zdy n a b).kids)],.d (.bool (zan n a b).isSome)]) []
 |n,0,t,a,b,_,_,ha,_=>by simp[zac] at ha
 |0,m+1,t,a,b,h,_,_,_=>by omega
 |n+1,m+1,t,a,b,hnm,ht,ha,hb=>by
  by_cases h1:a.op=1
  ·have e:=zfW (n:=n) (b:=b) h1
   rw[zmS (fun h=>by omega),zch e,e]
   refine bd Tryz.f67 89 [] [] fun w0 F0 own kept hk=>?_
   refine bx 3002 ?_
   refine bx 3003 ?_
   refine ab 3004 tz28 ?_
   refine ev ?_
   refine sq (fun h1 h1p h1s=>?_) fun h1 h1p h1s=>?_
   try simp only[Q] at h1p
   refine so ty28 ?_
   refine ev ?_
   refine rn0 (.cons (.cellA ty28 rfl rfl rfl) (.cons (.tmp rfl) .nil)) (.tup (.cons (.agg (.cons (.eqd ?_) (.cons (.eqd ?_) (.cons (.eqd ?_) (.cons (.eqd ?_) (.cons (.eqd ?_) (.cons (.eqd ?_) .nil))))))) (.cons (.eqd ?_) .nil)))
   rotate_left 7
   try simp only[Q] at h1p
   exfalso;omega
   all_goals (rfl)
  by_cases h2:b.op=1
  ·have e:=zgX (n:=n) h1 h2
   rw[zmS (fun h=>h.2 h2),zch e,e]
   refine bd Tryz.f67 89 [] [] fun w0 F0 own kept hk=>?_
   refine bx 3002 ?_
   refine bx 3003 ?_
   refine ab 3004 tz28 ?_
   refine ev ?_
   refine sq (fun h1 h1p h1s=>?_) fun h1 h1p h1s=>?_
   try simp only[Q] at h1p
   exfalso;omega
   try simp only[Q] at h1p
   refine sq (fun h2 h2p h2s=>?_) fun h2 h2p h2s=>?_
   try simp only[Q] at h2p
   refine so ty28 ?_
   refine ev ?_
   refine rn0 (.cons (.cellA ty28 rfl rfl rfl) (.cons (.tmp rfl) .nil)) (.tup (.cons (.agg (.cons (.eqd ?_) (.cons (.eqd ?_) (.cons (.eqd ?_) (.cons (.eqd ?_) (.cons (.eqd ?_) (.cons (.eqd ?_) .nil))))))) (.cons (.eqd ?_) .nil)))
   rotate_left 7
   try simp only[Q] at h2p
   exfalso;omega
   all_goals (rfl)
  by_cases h3:a.op=3
  ·have e:=zgY (n:=n) h3 h2
   have ez:zdy (n+1) a b=intQ (maxQ a.n b.n) (minQ a.m b.m):=if_pos ⟨h3,h2⟩
   have eb:(zan (n+1) a b).isSome=decide (maxQ a.n b.n≤minQ a.m b.m):=by
    rw[e]
    by_cases hr:maxQ a.n b.n≤minQ a.m b.m
    ·rw[if_pos hr,decide_eq_true hr];rfl
    ·rw[if_neg hr,decide_eq_false hr];rfl
   rw[ez,eb]
   refine bd Tryz.f67 89 [] [] fun w0 F0 own kept hk=>?_
   refine bx 3002 ?_
   refine bx 3003 ?_
   refine ab 3004 tz28 ?_
   refine ev ?_
   refine sq (fun h1 h1p h1s=>?_) fun h1 h1p h1s=>?_
   try simp only[Q] at h1p
   exfalso;omega
   try simp only[Q] at h1p
   refine sq (fun h2 h2p h2s=>?_) fun h2 h2p h2s=>?_
   try simp only[Q] at h2p
   exfalso;omega
   try simp only[Q] at h2p
   refine sq (fun h3 h3p h3s=>?_) fun h3 h3p h3s=>?_
   try simp only[Q] at h3p
   refine sq (fun h4 h4p h4s=>?_) fun h4 h4p h4s=>?_
   try simp only[Q] at h4p
   refine sq (fun h5 h5p h5s=>?_) fun h5 h5p h5s=>?_
   try simp only[Q] at h5p
   refine bu [0,2,3] [_,_,_] st28 ?_
   refine ev ?_
   refine so ty28 ?_
   refine ev ?_
   refine rn0 (.cons (.cellA ty28 rfl rfl rfl) (.cons (.tmp rfl) .nil)) (.tup (.cons (.agg (.cons (.eqd ?_) (.cons (.eqd ?_) (.cons (.eqd ?_) (.cons (.eqd ?_) (.cons (.eqd ?_) (.cons (.nild ?_) .nil))))))) (.cons (.eqd ?_) .nil)))
   rotate_left 7
   try simp only[Q] at h5p
   refine bu [0,2,3] [_,_,_] st28 ?_
   refine ev ?_
   refine so ty28 ?_
   refine ev ?_
   refine rn0 (.cons (.cellA ty28 rfl rfl rfl) (.cons (.tmp rfl) .nil)) (.tup (.cons (.agg (.cons (.eqd ?_) (.cons (.eqd ?_) (.cons (.eqd ?_) (.cons (.eqd ?_) (.cons (.eqd ?_) (.cons (.nild ?_) .nil))))))) (.cons (.eqd ?_) .nil)))
   rotate_left 7
   try simp only[Q] at h4p
   refine sq (fun h6 h6p h6s=>?_) fun h6 h6p h6s=>?_
   try simp only[Q] at h6p
   refine bu [0,2,3] [_,_,_] st28 ?_
   refine ev ?_
   refine so ty28 ?_
   refine ev ?_
   refine rn0 (.cons (.cellA ty28 rfl rfl rfl) (.cons (.tmp rfl) .nil)) (.tup (.cons (.agg (.cons (.eqd ?_) (.cons (.eqd ?_) (.cons (.eqd ?_) (.cons (.eqd ?_) (.cons (.eqd ?_) (.cons (.nild ?_) .nil))))))) (.cons (.eqd ?_) .nil)))
   rotate_left 7
   try simp only[Q] at h6p
   refine bu [0,2,3] [_,_,_] st28 ?_
   refine ev ?_
   refine so ty28 ?_
   refine ev ?_
   refine rn0 (.cons (.cellA ty28 rfl rfl rfl) (.cons (.tmp rfl) .nil)) (.tup (.cons (.agg (.cons (.eqd ?_) (.cons (.eqd ?_) (.cons (.eqd ?_) (.cons (.eqd ?_) (.cons (.eqd ?_) (.cons (.nild ?_) .nil))))))) (.cons (.eqd ?_) .nil)))
   rotate_left 7
   try simp only[Q] at h3p
   exfalso;omega
   all_goals (first|rfl|((try simp only[zbZ,zeI,mk_n,mk_m,zgZ,zaZ]);simp only[minQ,maxQ];(repeat' split)<;>first|rfl|(exfalso;omega)))
  have oa:=zbc ha
  have h4:a.op=4:=by omega
  have h4b:b.op=4:=by have:=zbM ha hb h1 h2;omega
  have ez:zdy (n+1) a b=zcx (n+1) a b:=zmS (fun h=>h3 h.1)
  by_cases hc:a.ctor=b.ctor
  ·obtain⟨c1,c2,c3,-⟩:=zax ha h4
   obtain⟨d1,d2,d3,-⟩:=zax hb h4b
   rw[←hc] at d3
   have h3l:=hs.args t a.ctor ht c1
   have ka:=fun i (hi:i<a.kids.length)=>zaE ha hi
   have kb:=fun i (hi:i<b.kids.length)=>zaE hb hi
   rw[zaR h4] at ka
   rw[zaR h4b,←hc] at kb
   have e:=zfX (n:=n) h4 h2 hc
   have hlen:a.kids.length=b.kids.length:=by omega
   have ih:=fun i (hi:i<a.kids.length)=>zfE hs n m (t:=nth (zaa w t a.ctor) i) (a:=nth a.kids i) (b:=nth b.kids i) (by omega) (zbl hs.dp ht c1 _ (zae (by omega))) (ka i (by omega)) (kb i (by omega))
   have key:∀(i:Nat) (acc:List Pat),i<a.kids.length→(zan n (nth a.kids i) (nth b.kids i)).isSome=true→zbo (zan n) (a.kids.drop i) (b.kids.drop i) acc=zbo (zan n) (a.kids.drop (i+1)) (b.kids.drop (i+1)) (acc++[zdy n (nth a.kids i) (nth b.kids i)]):=fun i acc hi h=>by
    rw[ziu h];exact zlR hi (by omega) (zdm h)
   rw[ez]
   refine bd Tryz.f67 89 [] [] fun w0 F0 own kept hk=>?_
   refine bx 3002 ?_
   refine bx 3003 ?_
   refine ab 3004 tz28 ?_
   refine ev ?_
   refine sq (fun h1 h1p h1s=>?_) fun h1 h1p h1s=>?_
   try simp only[Q,Pat.cs_len] at h1p
   exfalso;omega
   try simp only[Q,Pat.cs_len] at h1p
   refine sq (fun h2 h2p h2s=>?_) fun h2 h2p h2s=>?_
   try simp only[Q,Pat.cs_len] at h2p
   exfalso;omega
   try simp only[Q,Pat.cs_len] at h2p
   refine sq (fun h3 h3p h3s=>?_) fun h3 h3p h3s=>?_
   try simp only[Q,Pat.cs_len] at h3p
   exfalso;omega
   try simp only[Q,Pat.cs_len] at h3p
   refine sq (fun h4 h4p h4s=>?_) fun h4 h4p h4s=>?_
   try simp only[Q,Pat.cs_len] at h4p
   exfalso;omega
   try simp only[Q,Pat.cs_len] at h4p
   refine bu [0,1] [_,_] st28 ?_
   refine ab 3008 tz28 ?_
   refine so ty28 ?_
   refine tv ?_
   refine CWp.tokB 3008 5 9 6 rfl rfl rfl rfl ?_
   refine CWp.loopX (ι:=Nat×List Pat) hk (fun x=>[(9,.d (.i (x.1:Int)))]) [5,10,11,58,59,60,61,62,63,64,65,66,67,68,69,70,71,72,73,74,75,76,77,78,79,80,81,82,83,84,85,86,87] (fun x=>[(3008,some (.box [.d (.i 4),.d (.i a.ctor),.d (.i 0),.d (.i 0),.d (.i 0),.gl 9 (x.2.map Pat.cc)])),(9,some (.tok (x.2.map Pat.cc).length 6))]) (fun x=>x.1≤a.kids.length∧x.2.length=x.1∧zbo (zan n) (a.kids.drop x.1) (b.kids.drop x.1) x.2=zbo (zan n) a.kids b.kids []) (fun x=>a.kids.length-x.1) (0,[]) ⟨by simp,rfl,rfl⟩ ⟨⟨_,rfl,LeA.eqi ?_⟩,trivial⟩ ⟨?_,⟨zab ?_,trivial⟩⟩ (fun x=>rfl) (fun x hg1=>?_)
   focus (rfl)
   focus (first|rfl|(simp[getH];done))
   focus (rfl)
   refine evc [] [] ?_
   refine sq (fun h5 h5p h5s=>?_) fun h5 h5p h5s=>?_
   try simp only[Q,Pat.cs_len] at h5p
   refine Walk.idx sl26 .none rfl rfl rfl rfl (zaH (by omega)) rfl ?_
   refine evd [] [] ?_
   refine Walk.idx sl26 .none rfl rfl rfl rfl (zaH (by omega)) rfl ?_
   refine evd [] [] ?_
   refine wc zor (ih x.1 (by omega)) rfl rfl ?_
   refine evd [] [] ?_
   refine ab 3010 tz28 ?_
   refine so ty28 ?_
   refine evd [] [] ?_
   refine dr ?_
   refine sq (fun h6 h6p h6s=>?_) fun h6 h6p h6s=>?_
   try simp only[Q,Pat.cs_len] at h6p
   refine bu [] [] st28 ?_
   refine so ty28 ?_
   refine ev ?_
   refine rn0 (.cons (.cellA ty28 rfl rfl rfl) (.cons (.tmp rfl) .nil)) (.tup (.cons (.agg (.cons (.eqd ?_) (.cons (.eqd ?_) (.cons (.eqd ?_) (.cons (.eqd ?_) (.cons (.eqd ?_) (.cons (.nild ?_) .nil))))))) (.cons (.eqd ?_) .nil)))
   rotate_left 7
   try simp only[Q,Pat.cs_len] at h6p
   refine si [0] [_] sl26 tz28 ?_
   refine ap sl26 zz28 rfl rfl rfl (by intro x hx;(simp at hx;subst hx;rfl)) (by simp;omega) ?_
   refine ev ?_
   refine so ty26 ?_
   refine tv ?_
   refine ar ?_
   refine Exists.intro ((x.1+1,x.2++[zdy n (nth a.kids x.1) (nth b.kids x.1)])) ⟨⟨by dsimp only;omega,by dsimp only;rw[List.length_append,hg1.2.1];rfl,by dsimp only;rw[←key x.1 x.2 (by omega) (by assumption)];exact hg1.2.2⟩,(by dsimp only;omega),sx ⟨⟨_,rfl,LeA.eqi ?_⟩,trivial⟩ ⟨?_,⟨zab ?_,trivial⟩⟩⟩
   focus (rfl)
   focus (first|rfl|(simp[getH];done))
   focus ((simp;done))
   try simp only[Q,Pat.cs_len] at h5p
   refine so ty28 ?_
   refine ev ?_
   refine rn0 (.cons (.cellA ty28 rfl rfl rfl) (.cons (.tmp rfl) .nil)) (.tup (.cons (.agg (.cons (.eqd ?_) (.cons (.eqd ?_) (.cons (.eqd ?_) (.cons (.eqd ?_) (.cons (.eqd ?_) (.cons (.gld ?_) .nil))))))) (.cons (.eqd ?_) .nil)))
   rotate_left 7
   all_goals (first|(have e2:zan (n+1) a b=none:=(by rw[e,←hg1.2.2,zlQ (by omega) (by omega) (zfr (by assumption))];rfl);(first|rw[ze2 e2]|rw[e2]);all_goals rfl)|(have e2:zan (n+1) a b=some (zaS a.ctor x.2):=(by rw[e,←hg1.2.2,zeF (by omega)];rfl);rw[zch e2,Pat.cs_cd];all_goals rfl)|(have e2:zan (n+1) a b=some (zaS a.ctor x.2):=(by rw[e,←hg1.2.2,zeF (by omega)];rfl);rw[zch e2];all_goals rfl)|(have e2:zan (n+1) a b=some (zaS a.ctor x.2):=(by rw[e,←hg1.2.2,zeF (by omega)];rfl);rw[e2];all_goals rfl))
  ·skip
   have e:=zfq (n:=n) h4 h2 hc
   rw[ez,ze2 e,e]
   refine bd Tryz.f67 89 [] [] fun w0 F0 own kept hk=>?_
   refine bx 3002 ?_
   refine bx 3003 ?_
   refine ab 3004 tz28 ?_
   refine ev ?_
   refine sq (fun h1 h1p h1s=>?_) fun h1 h1p h1s=>?_
   try simp only[Q] at h1p
   exfalso;omega
   try simp only[Q] at h1p
   refine sq (fun h2 h2p h2s=>?_) fun h2 h2p h2s=>?_
   try simp only[Q] at h2p
   exfalso;omega
   try simp only[Q] at h2p
   refine sq (fun h3 h3p h3s=>?_) fun h3 h3p h3s=>?_
   try simp only[Q] at h3p
   exfalso;omega
   try simp only[Q] at h3p
   refine sq (fun h4 h4p h4s=>?_) fun h4 h4p h4s=>?_
   try simp only[Q] at h4p
   refine bu [] [] st28 ?_
   refine so ty28 ?_
   refine ev ?_
   refine rn0 (.cons (.cellA ty28 rfl rfl rfl) (.cons (.tmp rfl) .nil)) (.tup (.cons (.agg (.cons (.eqd ?_) (.cons (.eqd ?_) (.cons (.eqd ?_) (.cons (.eqd ?_) (.cons (.eqd ?_) (.cons (.nild ?_) .nil))))))) (.cons (.eqd ?_) .nil)))
   rotate_left 7
   try simp only[Q] at h4p
   exfalso;omega
   all_goals (rfl)
theorem zpm {f:Ty→Pat→Pat→List Pat}{c:Int}{ts:List Ty}{xs bs front:List Pat}{i:Nat} (h1:i<ts.length) (h2:i<xs.length) (h3:i<bs.length) (h:(zan 11 (nth xs i) (nth bs i)).isSome=true):
  zaI f c (ts.drop i) (xs.drop i) (bs.drop i) front=(f (nth ts i) (nth xs i) (nth bs i)).map (fun z=>zaS c (front++[z]++xs.drop (i+1)))++zaI f c (ts.drop (i+1)) (xs.drop (i+1)) (bs.drop (i+1)) (front++[zdy 11 (nth xs i) (nth bs i)]):=by
 rw[ziu h];exact zks h1 h2 h3 h
theorem ztg (c:Int) (L:List Pat):Pat.cc (zaS c L)=[D.i 4,D.i c,D.i 0,D.i 0,D.i 0,D.sl (L.map Pat.cc)]:=by
 show [D.i 4,D.i c,D.i 0,D.i 0,D.i 0,D.sl (Pat.cs L)]=_
 rw[Pat.cs_cd]
section
variable {w:List Data}
abbrev MinusSp (w:List Data) (n:Nat) (ta tk:Int) (a b:Pat):Prop:=
 FnD Tryz.prog 100 [.d (zam w),.agg [.d (.i ta),.d (.i tk)],.agg [.d (.i (a).op),.d (.i (a).ctor),.d (.i (a).n),.d (.i (a).m),.d (.i (a).var),.d (zad (a).kids)],.agg [.d (.i (b).op),.d (.i (b).ctor),.d (.i (b).n),.d (.i (b).m),.d (.i (b).var),.d (zad (b).kids)]] [] (.d (zad (zaq w n ⟨ta,tk⟩ a b))) []
theorem zm9 (hs:Spa w){n m:Nat} (hn:n+1≤10) (hm:m+1≤11) (hnm:n<m)
  (ih:∀ {ta tk:Int}{a b:Pat},InS (w.length*4) ⟨ta,tk⟩→zac w m ⟨ta,tk⟩ a=true→zac w n ⟨ta,tk⟩ b=true→MinusSp w n ta tk a b)
  {ta tk:Int}{a b:Pat} (ht:InS (w.length*4) ⟨ta,tk⟩) (ha:zac w (m+1) ⟨ta,tk⟩ a=true) (hb:zac w (n+1) ⟨ta,tk⟩ b=true) (h4:a.op=4) (h4b:b.op=4) (hc:a.ctor=b.ctor):
  FnD Tryz.prog 157 [.d (zam w),.agg [.d (.i ta),.d (.i tk)],.agg [.d (.i (a).op),.d (.i (a).ctor),.d (.i (a).n),.d (.i (a).m),.d (.i (a).var),.d (zad (a).kids)],.agg [.d (.i (b).op),.d (.i (b).ctor),.d (.i (b).n),.d (.i (b).m),.d (.i (b).var),.d (zad (b).kids)]] [] (.d (zad (zaq w (n+1) ⟨ta,tk⟩ a b))) []:=by
 obtain⟨c1,c2,c3,-⟩:=zax ha h4
 obtain⟨d1,d2,d3,-⟩:=zax hb h4b
 rw[←hc] at d3
 have h3l:=hs.args ⟨ta,tk⟩ a.ctor ht c1
 have ka:=fun i (hi:i<a.kids.length)=>zaE ha hi
 have kb:=fun i (hi:i<b.kids.length)=>zaE hb hi
 rw[zaR h4] at ka
 rw[zaR h4b,←hc] at kb
 have hbd:=zft hs (n:=n+1) (m:=m+1) (by omega) hn ht ha hb
 have e:zaq w (n+1) ⟨ta,tk⟩ a b=zaI (zaq w n) a.ctor (zaa w ⟨ta,tk⟩ a.ctor) a.kids b.kids []:=by rw[zcH h4b h4];exact if_pos hc
 have hins:=fun i (hi:i<(zaa w ⟨ta,tk⟩ a.ctor).length)=>zbl hs.dp ht c1 _ (zae hi)
 have hmi:∀i,i<(zaa w ⟨ta,tk⟩ a.ctor).length→FnD Tryz.prog 100 [.d (zam w),.agg [.d (.i (nth (zaa w ⟨ta,tk⟩ a.ctor) i).data),.d (.i (nth (zaa w ⟨ta,tk⟩ a.ctor) i).index)],.agg [.d (.i (nth a.kids i).op),.d (.i (nth a.kids i).ctor),.d (.i (nth a.kids i).n),.d (.i (nth a.kids i).m),.d (.i (nth a.kids i).var),.d (zad (nth a.kids i).kids)],.agg [.d (.i (nth b.kids i).op),.d (.i (nth b.kids i).ctor),.d (.i (nth b.kids i).n),.d (.i (nth b.kids i).m),.d (.i (nth b.kids i).var),.d (zad (nth b.kids i).kids)]] [] (.d (zad (zaq w n (nth (zaa w ⟨ta,tk⟩ a.ctor) i) (nth a.kids i) (nth b.kids i)))) []:=fun i hi=>ih (ta:=(nth (zaa w ⟨ta,tk⟩ a.ctor) i).data) (tk:=(nth (zaa w ⟨ta,tk⟩ a.ctor) i).index) (hins i hi) (ka i (by omega)) (kb i (by omega))
 have hme:=fun i (hi:i<(zaa w ⟨ta,tk⟩ a.ctor).length)=>zfE hs 11 m (t:=nth (zaa w ⟨ta,tk⟩ a.ctor) i) (by omega) (hins i hi) (ka i (by omega)) (zcY (by omega) (kb i (by omega)))
 rw[e] at hbd ⊢
 have hT:∀i out front,i<(zaa w ⟨ta,tk⟩ a.ctor).length→out++zaI (zaq w n) a.ctor ((zaa w ⟨ta,tk⟩ a.ctor).drop i) (a.kids.drop i) (b.kids.drop i) front=zaI (zaq w n) a.ctor (zaa w ⟨ta,tk⟩ a.ctor) a.kids b.kids []→
   out.length+(zaq w n (nth (zaa w ⟨ta,tk⟩ a.ctor) i) (nth a.kids i) (nth b.kids i)).length≤20000000:=fun i out front hi h=>by
  rw[zhl hi (by omega) (by omega)] at h
  have:=congrArg List.length h
  simp only[List.length_append,List.length_map] at this
  omega
 refine bd Tryz.f157 100 [] [] fun w0 F0 own kept hk=>?_
 refine bx 3005 ?_
 refine bx 3006 ?_
 refine bx 3007 ?_
 refine ev ?_
 refine Walk.sliceEmptyG 9 sl26 .none rfl rfl ?_
 refine ev ?_
 refine wc zfQ (zb5 hs.dp.wt (zbQ ht) c1) rfl rfl ?_
 refine ev ?_
 refine Walk.sliceEmptyG 8 sl26 .none rfl rfl ?_
 refine ev ?_
 refine CWp.loopX (ι:=Nat×List Pat×List Pat) hk (fun s=>[(12,.d (.i (s.1:Int))),(9,.gl 9 (s.2.1.map Pat.cc)),(11,.gl 8 (s.2.2.map Pat.cc))]) [8,13,14,15,16,17,25,26,27,28,29,30,31,32,33,34,35,36,37,38,39,40,41,42,43,44,45,46,47,48,49,50,51,52,53,54,55,56,57,58,59,60,61,62,63,64,65,66,67,68,69,70,71,72,73,74,75,76,77,78,79,80,81,82,83,84,85,86,87,88,89,90,91,92,93,94,95,96,97,98] (fun s=>[(9,some (.tok ((s.2.1.map Pat.cc)).length 6)),(8,some (.tok ((s.2.2.map Pat.cc)).length 6))]) (fun s=>s.1≤a.kids.length∧s.2.2.length=s.1∧s.2.1++zaI (zaq w n) a.ctor ((zaa w ⟨ta,tk⟩ a.ctor).drop s.1) (a.kids.drop s.1) (b.kids.drop s.1) s.2.2=zaI (zaq w n) a.ctor (zaa w ⟨ta,tk⟩ a.ctor) a.kids b.kids []) (fun s=>a.kids.length-s.1) (0,[],[]) ⟨by simp,rfl,rfl⟩ ⟨⟨_,rfl,LeA.eqi ?_⟩,⟨⟨_,rfl,LeA.glg ?_⟩,⟨⟨_,rfl,LeA.glg ?_⟩,trivial⟩⟩⟩ ⟨zab ?_,⟨zab ?_,trivial⟩⟩ (fun x=>rfl) (fun s hg1=>?_)
 iterate 5 focus (rfl)
 refine evc [] [] ?_
 refine sq (fun h1 h1p h1s=>?_) fun h1 h1p h1s=>?_
 try simp only[Q,Pat.cs_len] at h1p
 refine Walk.idx za0 .none rfl rfl rfl rfl (zau (by omega)) rfl ?_
 refine evd [] [] ?_
 refine Walk.idx sl26 .none rfl rfl rfl rfl (zaH (by omega)) rfl ?_
 refine evd [] [] ?_
 refine Walk.idx sl26 .none rfl rfl rfl rfl (zaH (by omega)) rfl ?_
 refine evd [] [] ?_
 refine wc zoG (hmi s.1 (by omega)) rfl rfl ?_
 refine evd [] [] ?_
 refine dr ?_
 refine CWp.loopX (ι:=List (Pat)×List (Pat)) hk (fun x=>[(14,.d (.i (x.1.length:Int))),(9,.gl 9 ((s.2.1++x.1.map (fun z=>zaS a.ctor (s.2.2++[z]++a.kids.drop (s.1+1)))).map Pat.cc))]) [15,47,48,49,50,51,52,53,54,55,56,57,58,59,60,61,62,63,64,65,66,67,68,69,70,71,72,73,74,75,76,77] (fun x=>[(9,some (.tok (((s.2.1++x.1.map (fun z=>zaS a.ctor (s.2.2++[z]++a.kids.drop (s.1+1)))).map Pat.cc)).length 6))]) (fun x=>x.1++x.2=(zaq w n (nth (zaa w ⟨ta,tk⟩ a.ctor) s.1) (nth a.kids s.1) (nth b.kids s.1))) (fun x=>x.2.length) ([],(zaq w n (nth (zaa w ⟨ta,tk⟩ a.ctor) s.1) (nth a.kids s.1) (nth b.kids s.1))) (by simp) ⟨⟨_,rfl,LeA.eqi ?_⟩,⟨⟨_,rfl,LeA.glg ?_⟩,trivial⟩⟩ ⟨zab ?_,trivial⟩ (fun x=>rfl) (fun x hg2=>?_)
 iterate 3 focus ((simp;done))
 obtain⟨pre,rest⟩:=x
 dsimp only at hg2 ⊢
 refine evc [] [] ?_
 refine sq (fun h2 h2p h2s=>?_) fun h2 h2p h2s=>?_
 try simp only[Q,Pat.cs_len] at h2p
 rcases rest with _|⟨y,rest⟩
 ·exfalso;simp_all
 refine Walk.sliceEmptyG 7 sl26 .none rfl rfl ?_
 refine evd [] [] ?_
 refine ap sl26 zz28 rfl rfl rfl (by intro x hx;exact zfw _ x hx) (by(simp[Pat.cs_len];omega)) ?_
 refine evd [] [] ?_
 refine Walk.idx sl26 .none rfl rfl rfl rfl (Pat.cs_at' hg2) rfl ?_
 refine evd [] [] ?_
 refine si [0] [_] sl26 tz28 ?_
 refine ap sl26 zz28 rfl rfl rfl (by intro x hx;(simp at hx;subst hx;rfl)) (by(have h9:=hT s.1 s.2.1 s.2.2 (by omega) hg1.2.2;have h8:=congrArg List.length hg2;simp[Pat.cs_len] at h8 ⊢;omega)) ?_
 refine bu [0,1,5] [_,_,_] st28 ?_
 refine ab 3015 tz28 ?_
 refine so ty28 ?_
 refine dr ?_
 refine ar ?_ (by(constructor<;>omega))
 refine Walk.cut_l (b:=s.1+1) sl26 .none rfl rfl rfl (by intro x hx;exact zbD _ x hx) rfl rfl (by simp only[Pat.cs_len];omega) ?_
 refine ap sl26 zz28 rfl rfl rfl (by intro x hx;exact zbD _ x (List.mem_of_mem_drop hx)) (by(have h9:=hT s.1 s.2.1 s.2.2 (by omega) hg1.2.2;have h8:=congrArg List.length hg2;simp[Pat.cs_len] at h8 ⊢;omega)) ?_
 refine evd [] [] ?_
 refine so ty26 ?_
 refine dr ?_
 refine si [0] [_] sl26 tz28 ?_
 refine ap sl26 zz28 rfl rfl rfl (by intro x hx;(simp at hx;subst hx;rfl)) (by(have h9:=hT s.1 s.2.1 s.2.2 (by omega) hg1.2.2;have h8:=congrArg List.length hg2;simp[Pat.cs_len] at h8 ⊢;omega)) ?_
 refine ev ?_
 refine ar ?_ (by(have h9:=hT s.1 s.2.1 s.2.2 (by omega) hg1.2.2;have h8:=congrArg List.length hg2;simp only[List.length_append,List.length_cons] at h8;constructor<;>omega))
 refine Exists.intro ((pre++[y],rest)) ⟨(by have hz:=hg2;rw[←hz];simp),(by simp),sx ⟨⟨_,rfl,LeA.eqi ?_⟩,⟨⟨_,rfl,LeA.glg ?_⟩,trivial⟩⟩ ⟨zab ?_,trivial⟩⟩
 iterate 3 focus (first|(simp;done)|(simp only[List.map_append,List.append_assoc,List.map_cons,List.map_nil,ztg,Pat.cs_cd a.kids,List.map_drop,List.nil_append,List.cons_append];done)|(simp;omega))
 try simp only[Q,Pat.cs_len] at h2p
 have hrest:rest=[]:=by
  rcases rest with _|⟨a,b⟩
  ·rfl
  ·exfalso;have hz:=congrArg List.length (hg2);simp only[List.length_append,List.length_cons,List.length_map] at hz;omega
 subst hrest
 refine Walk.idx sl26 .none rfl rfl rfl rfl (zaH (by omega)) rfl ?_
 refine evd [] [] ?_
 refine Walk.idx sl26 .none rfl rfl rfl rfl (zaH (by omega)) rfl ?_
 refine evd [] [] ?_
 refine wc zor (hme s.1 (by omega)) rfl rfl ?_
 refine evd [] [] ?_
 refine ab 3016 tz28 ?_
 refine so ty28 ?_
 refine evd [] [] ?_
 refine dr ?_
 refine sq (fun h3 h3p h3s=>?_) fun h3 h3p h3s=>?_
 try simp only[Q,Pat.cs_len] at h3p
 refine rn0 (r1 rfl) (.gld ?_)
 rotate_left
 try simp only[Q,Pat.cs_len] at h3p
 refine si [0] [_] sl26 tz28 ?_
 refine ap sl26 zz28 rfl rfl rfl (by intro x hx;(simp at hx;subst hx;rfl)) (by(have h9:=hT s.1 s.2.1 s.2.2 (by omega) hg1.2.2;have h8:=congrArg List.length hg2;simp[Pat.cs_len] at h8 ⊢;omega)) ?_
 refine ev ?_
 refine ar ?_ (by(constructor<;>omega))
 refine Exists.intro ((s.1+1,s.2.1++(zaq w n (nth (zaa w ⟨ta,tk⟩ a.ctor) s.1) (nth a.kids s.1) (nth b.kids s.1)).map (fun z=>zaS a.ctor (s.2.2++[z]++a.kids.drop (s.1+1))),s.2.2++[zdy 11 (nth a.kids s.1) (nth b.kids s.1)])) ⟨⟨by dsimp only;omega,by dsimp only;rw[List.length_append,hg1.2.1];rfl,by dsimp only;rw[List.append_assoc,←zpm (by omega) (by omega) (by omega) (by assumption)];exact hg1.2.2⟩,(by dsimp only;omega),sx ⟨⟨_,rfl,LeA.eqi ?_⟩,⟨⟨_,rfl,LeA.glg ?_⟩,⟨⟨_,rfl,LeA.glg ?_⟩,trivial⟩⟩⟩ ⟨zab ?_,⟨zab ?_,trivial⟩⟩⟩
 iterate 5 focus ((simp_all;done))
 try simp only[Q,Pat.cs_len] at h1p
 refine rn0 (r1 rfl) (.gld ?_)
 rotate_left
 all_goals (first|(rw[←hg1.2.2,zlW (by omega),List.append_nil,Pat.cs_cd];done)|(rw[List.append_nil] at hg2;rw[←hg1.2.2,zkq (by omega) (by omega) (by omega) (by assumption),←hg2,Pat.cs_cd];all_goals rfl))
theorem zpK {n:Nat}{ta tk:Int}{a b:Pat} (h:b.op=1):MinusSp w (n+1) ta tk a b:=by
 unfold MinusSp
 rw[zeH h]
 refine bd Tryz.f100 82 [] [] fun w0 F0 own kept hk=>?_
 refine bx 3005 ?_
 refine bx 3006 ?_
 refine bx 3007 ?_
 refine ev ?_
 refine sq (fun h1 h1p h1s=>?_) fun h1 h1p h1s=>?_
 try simp only[Q] at h1p
 refine Walk.sliceEmpty sl26 .none rfl ?_
 refine ev ?_
 refine rn0 (r1 rfl) (.eqd ?_)
 rotate_left
 try simp only[Q] at h1p
 exfalso;omega
 all_goals (rfl)
theorem zpL {n:Nat}{ta tk:Int}{a b:Pat} (h:b.op=3) (ha:a.op=1∨a.op=3) (hbn:0≤b.n∧b.n≤9) (hbm:0≤b.m∧b.m≤9):MinusSp w (n+1) ta tk a b:=by
 unfold MinusSp
 rw[zgH h]
 by_cases h1:a.op=1
 ·have e:zdG a b=zbE 0 (minQ 9 (b.n-1))++zbE (maxQ 0 (b.m+1)) 9:=by
   have e1:lowQ a=0:=if_pos h1
   have e2:zb6 a=9:=if_pos h1
   unfold zdG;rw[e1,e2]
  have hr:=zg4 (a:=intQ 0 9) hbn hbm
  rw[e]
  refine bd Tryz.f100 82 [] [] fun w0 F0 own kept hk=>?_
  refine bx 3005 ?_
  refine bx 3006 ?_
  refine bx 3007 ?_
  refine ev ?_
  refine sq (fun h1 h1p h1s=>?_) fun h1 h1p h1s=>?_
  try simp only[Q] at h1p
  exfalso;omega
  try simp only[Q] at h1p
  refine sq (fun h2 h2p h2s=>?_) fun h2 h2p h2s=>?_
  try simp only[Q] at h2p
  refine sq (fun h3 h3p h3s=>?_) fun h3 h3p h3s=>?_
  try simp only[Q] at h3p
  refine bu [0,3] [_,_] st28 ?_
  refine ev ?_
  refine Walk.call (cr:=[]) zr6 (hr) rfl .none rfl rfl (.cons (.agg (.cons (.refl _) (.cons (.refl _) (.cons (.refl _) (.cons (.refl _) (.cons (.refl _) (.cons .nil .nil))))))) (.cons (.refl _) .nil)) trivial rfl rfl rfl ?_
  refine ev ?_
  focus (refine rn0 (r1 rfl) (.eqd ?_);all_goals (rfl))
  try simp only[Q] at h3p
  focus (exfalso;first|omega|(simp_all;done))
  try simp only[Q] at h2p
  exfalso;omega
 ·have e:zdG a b=zbE a.n (minQ a.m (b.n-1))++zbE (maxQ a.n (b.m+1)) a.m:=by
   have e1:lowQ a=a.n:=if_neg h1
   have e2:zb6 a=a.m:=if_neg h1
   unfold zdG;rw[e1,e2]
  have hr:=zg4 (a:=a) hbn hbm
  rw[e]
  refine bd Tryz.f100 82 [] [] fun w0 F0 own kept hk=>?_
  refine bx 3005 ?_
  refine bx 3006 ?_
  refine bx 3007 ?_
  refine ev ?_
  refine sq (fun h1 h1p h1s=>?_) fun h1 h1p h1s=>?_
  try simp only[Q] at h1p
  exfalso;omega
  try simp only[Q] at h1p
  refine sq (fun h2 h2p h2s=>?_) fun h2 h2p h2s=>?_
  try simp only[Q] at h2p
  refine sq (fun h3 h3p h3s=>?_) fun h3 h3p h3s=>?_
  try simp only[Q] at h3p
  focus (exfalso;first|omega|(simp_all;done))
  try simp only[Q] at h3p
  refine sq (fun h4 h4p h4s=>?_) fun h4 h4p h4s=>?_
  try simp only[Q] at h4p
  refine wc zr6 (hr) rfl rfl ?_
  refine ev ?_
  focus (refine rn0 (r1 rfl) (.eqd ?_);all_goals (rfl))
  try simp only[Q] at h4p
  exfalso;omega
  try simp only[Q] at h2p
  exfalso;omega
theorem zpO {n:Nat}{ta tk:Int}{a b:Pat} (h4:a.op=4) (h4b:b.op=4) (hc:¬a.ctor=b.ctor):MinusSp w (n+1) ta tk a b:=by
 unfold MinusSp
 have e:zaq w (n+1) ⟨ta,tk⟩ a b=[a]:=by rw[zcH h4b h4];exact if_neg hc
 rw[e]
 refine bd Tryz.f100 82 [] [] fun w0 F0 own kept hk=>?_
 refine bx 3005 ?_
 refine bx 3006 ?_
 refine bx 3007 ?_
 refine ev ?_
 refine sq (fun h1 h1p h1s=>?_) fun h1 h1p h1s=>?_
 try simp only[Q] at h1p
 exfalso;omega
 try simp only[Q] at h1p
 refine sq (fun h2 h2p h2s=>?_) fun h2 h2p h2s=>?_
 try simp only[Q] at h2p
 exfalso;omega
 try simp only[Q] at h2p
 refine sqF ?_
 refine sq (fun h4 h4p h4s=>?_) fun h4 h4p h4s=>?_
 try simp only[Q] at h4p
 exfalso;omega
 try simp only[Q] at h4p
 refine sq (fun h5 h5p h5s=>?_) fun h5 h5p h5s=>?_
 try simp only[Q] at h5p
 refine sq (fun h6 h6p h6s=>?_) fun h6 h6p h6s=>?_
 try simp only[Q] at h6p
 refine si [0] [_] sl26 tz28 ?_
 refine ev ?_
 refine rn0 (r1 rfl) (.eqd ?_)
 rotate_left
 try simp only[Q] at h6p
 focus (exfalso;first|omega|(simp_all;done))
 try simp only[Q] at h5p
 exfalso;omega
 all_goals (first|rfl|(cases a;rfl))
theorem zpN (hs:Spa w){n m:Nat} (hn:n+1≤10) (hm:m+1≤11) (hnm:n<m)
  (ih:∀ {ta tk:Int}{a b:Pat},InS (w.length*4) ⟨ta,tk⟩→zac w m ⟨ta,tk⟩ a=true→zac w n ⟨ta,tk⟩ b=true→MinusSp w n ta tk a b)
  {ta tk:Int}{a b:Pat} (ht:InS (w.length*4) ⟨ta,tk⟩) (ha:zac w (m+1) ⟨ta,tk⟩ a=true) (hb:zac w (n+1) ⟨ta,tk⟩ b=true) (h4:a.op=4) (h4b:b.op=4) (hc:a.ctor=b.ctor):MinusSp w (n+1) ta tk a b:=by
 have hki:=zm9 hs hn hm hnm ih ht ha hb h4 h4b hc
 clear ih
 unfold MinusSp
 refine bd Tryz.f100 82 [] [] fun w0 F0 own kept hk=>?_
 refine bx 3005 ?_
 refine bx 3006 ?_
 refine bx 3007 ?_
 refine ev ?_
 refine sq (fun h1 h1p h1s=>?_) fun h1 h1p h1s=>?_
 try simp only[Q] at h1p
 exfalso;omega
 try simp only[Q] at h1p
 refine sq (fun h2 h2p h2s=>?_) fun h2 h2p h2s=>?_
 try simp only[Q] at h2p
 exfalso;omega
 try simp only[Q] at h2p
 refine sqF ?_
 refine sq (fun h4 h4p h4s=>?_) fun h4 h4p h4s=>?_
 try simp only[Q] at h4p
 exfalso;omega
 try simp only[Q] at h4p
 refine sq (fun h5 h5p h5s=>?_) fun h5 h5p h5s=>?_
 try simp only[Q] at h5p
 refine sq (fun h6 h6p h6s=>?_) fun h6 h6p h6s=>?_
 try simp only[Q] at h6p
 focus (exfalso;first|omega|(simp_all;done))
 try simp only[Q] at h6p
 refine sq (fun h7 h7p h7s=>?_) fun h7 h7p h7s=>?_
 try simp only[Q] at h7p
 refine wc zvv (hki) rfl rfl ?_
 refine ev ?_
 focus (refine rn0 (r1 rfl) (.eqd ?_);all_goals (rfl))
 try simp only[Q] at h7p
 exfalso;omega
 try simp only[Q] at h5p
 exfalso;omega
theorem zpM (hs:Spa w){n:Nat}{ta tk:Int}{a b:Pat} (ht:InS (w.length*4) ⟨ta,tk⟩) (h1:a.op=1) (h4b:b.op=4) (hbd:(zaq w (n+1) ⟨ta,tk⟩ a b).length≤20000000)
  (hC:∀c∈zah w ⟨ta,tk⟩,MinusSp w (n+1) ta tk (zbz w ⟨ta,tk⟩ c) b):MinusSp w (n+1) ta tk a b:=by
 have e:zaq w (n+1) ⟨ta,tk⟩ a b=(zah w ⟨ta,tk⟩).flatMap fun c=>zaq w (n+1) ⟨ta,tk⟩ (zbz w ⟨ta,tk⟩ c) b:=by
  rw[zfs h4b h1]
  exact congrArg (fun g=>(zah w ⟨ta,tk⟩).flatMap g) (funext fun c=>(zcH h4b rfl).symm)
 unfold MinusSp
 rw[e] at hbd ⊢
 have hcl:=(hs.ctors _ ht).1
 have hpre:∀ {pre rest:List Int}{y:Int},pre++y::rest=zah w ⟨ta,tk⟩→(pre.flatMap fun c=>zaq w (n+1) ⟨ta,tk⟩ (zbz w ⟨ta,tk⟩ c) b).length+(zaq w (n+1) ⟨ta,tk⟩ (zbz w ⟨ta,tk⟩ y) b).length≤20000000:=fun h=>by
  rw[←h,List.flatMap_append,List.flatMap_cons] at hbd
  simp only[List.length_append] at hbd
  omega
 have hmem:∀ {pre rest:List Int}{y:Int},pre++y::rest=zah w ⟨ta,tk⟩→y∈zah w ⟨ta,tk⟩:=fun h=>by rw[←h];simp
 refine bd Tryz.f100 82 [] [] fun w0 F0 own kept hk=>?_
 refine bx 3005 ?_
 refine bx 3006 ?_
 refine bx 3007 ?_
 refine ev ?_
 refine sq (fun h1 h1p h1s=>?_) fun h1 h1p h1s=>?_
 try simp only[Q,Pat.cs_len] at h1p
 exfalso;omega
 try simp only[Q,Pat.cs_len] at h1p
 refine sq (fun h2 h2p h2s=>?_) fun h2 h2p h2s=>?_
 try simp only[Q,Pat.cs_len] at h2p
 exfalso;omega
 try simp only[Q,Pat.cs_len] at h2p
 refine sqF ?_
 refine sq (fun h4 h4p h4s=>?_) fun h4 h4p h4s=>?_
 try simp only[Q,Pat.cs_len] at h4p
 exfalso;omega
 try simp only[Q,Pat.cs_len] at h4p
 refine sq (fun h5 h5p h5s=>?_) fun h5 h5p h5s=>?_
 try simp only[Q,Pat.cs_len] at h5p
 exfalso;omega
 try simp only[Q,Pat.cs_len] at h5p
 refine sqF ?_
 refine sq (fun h7 h7p h7s=>?_) fun h7 h7p h7s=>?_
 try simp only[Q,Pat.cs_len] at h7p
 exfalso;omega
 try simp only[Q,Pat.cs_len] at h7p
 refine Walk.sliceEmptyG 9 sl26 .none rfl rfl ?_
 refine ev ?_
 refine wc zhc (zbW hs.dp.wt (zbQ ht)) rfl rfl ?_
 refine ev ?_
 refine CWp.loopX (ι:=List (Int)×List (Int)) hk (fun x=>[(11,.d (.i (x.1.length:Int))),(9,.gl 9 (Pat.cs (x.1.flatMap fun c=>zaq w (n+1) ⟨ta,tk⟩ (zbz w ⟨ta,tk⟩ c) b)))]) [62,63,64,65,66,67,68,69,70,71,72,73,74,75,76,77,78,79,80] (fun x=>[(9,some (.tok ((Pat.cs (x.1.flatMap fun c=>zaq w (n+1) ⟨ta,tk⟩ (zbz w ⟨ta,tk⟩ c) b))).length 6))]) (fun x=>x.1++x.2=zah w ⟨ta,tk⟩) (fun x=>x.2.length) ([],zah w ⟨ta,tk⟩) (by simp) ⟨⟨_,rfl,LeA.eqi ?_⟩,⟨⟨_,rfl,LeA.glg ?_⟩,trivial⟩⟩ ⟨zab ?_,trivial⟩ (fun x=>rfl) (fun x hg1=>?_)
 iterate 3 focus (rfl)
 obtain⟨pre,rest⟩:=x
 dsimp only at hg1 ⊢
 refine evc [] [] ?_
 refine sq (fun h8 h8p h8s=>?_) fun h8 h8p h8s=>?_
 try simp only[Q,Pat.cs_len] at h8p
 rcases rest with _|⟨y,rest⟩
 ·exfalso;simp_all
 refine Walk.idx sl62 .none rfl rfl rfl rfl (zaK hg1) rfl ?_
 refine evd [] [] ?_
 refine wc zvw (zok hs.dp.wt (zbQ ht) (hmem hg1) (hs.args _ _ ht (hmem hg1))) rfl rfl ?_
 refine evd [] [] ?_
 refine wc zoG (hC y (hmem hg1)) rfl rfl ?_
 refine ap sl26 zz28 rfl rfl rfl (by exact zbD _) (by have h9:=hpre hg1;simp only[Pat.cs_len];omega) ?_
 refine evd [] [] ?_
 refine dr ?_
 refine ar ?_
 refine Exists.intro ((pre++[y],rest)) ⟨(by have hz:=hg1;rw[←hz];simp),(by simp),sx ⟨⟨_,rfl,LeA.eqi ?_⟩,⟨⟨_,rfl,LeA.glg ?_⟩,trivial⟩⟩ ⟨zab ?_,trivial⟩⟩
 iterate 3 focus (first|(rw[List.flatMap_append,Pat.cs_cd,Pat.cs_cd,Pat.cs_cd,List.map_append];simp;done)|(simp[Pat.cs_len];done))
 try simp only[Q,Pat.cs_len] at h8p
 have hrest:rest=[]:=by
  rcases rest with _|⟨a,b⟩
  ·rfl
  ·exfalso;have hz:=congrArg List.length (hg1);simp only[List.length_append,List.length_cons,List.length_map] at hz;omega
 subst hrest
 refine rn0 (r1 rfl) (.gld ?_)
 rotate_left
 all_goals ((rw[List.append_nil] at hg1;rw[hg1];done))
theorem zht (hs:Spa w):∀(n m:Nat){ta tk:Int}{a b:Pat},n<m→n≤10→m≤11→InS (w.length*4) ⟨ta,tk⟩→zac w m ⟨ta,tk⟩ a=true→zac w n ⟨ta,tk⟩ b=true→MinusSp w n ta tk a b
 |0,m,ta,tk,a,b,_,_,_,_,_,hb=>by simp[zac] at hb
 |n+1,0,ta,tk,a,b,h,_,_,_,_,_=>by omega
 |n+1,m+1,ta,tk,a,b,h,hn,hm,ht,ha,hb=>by
  have hC:∀ {a:Pat},zac w (m+1) ⟨ta,tk⟩ a=true→a.op=4→b.op=4→MinusSp w (n+1) ta tk a b:=fun {a} ha h4 h4b=>by
   by_cases hc:a.ctor=b.ctor
   ·exact zpN hs hn hm (by omega) (fun h1 h2 h3=>zht hs n m (by omega) (by omega) (by omega) h1 h2 h3) ht ha hb h4 h4b hc
   ·exact zpO h4 h4b hc
  rcases zbc hb with h1|h3|h4b
  ·exact zpK h1
  ·have:=zbt hb h3
   refine zpL h3 ?_ ⟨by omega,by omega⟩ ⟨by omega,by omega⟩
   by_cases h1:a.op=1
   ·exact .inl h1
   ·exact .inr (by have:=zbM ha hb h1 (by omega);omega)
  ·by_cases h1:a.op=1
   ·obtain⟨m',rfl⟩:∃m',m=m'+1:=⟨m-1,by omega⟩
    exact zpM hs ht h1 h4b (zft hs h hn ht ha hb) (fun c hc=>hC (zcl hc) rfl h4b)
   ·exact hC ha (by have:=zbM ha hb h1 (by omega);omega) h4b
end
def zlM (w:List Data) (t:Ty) (b a:Pat):List Pat:=(zaq w 10 t a b).filter (zbe w t)
def zfL (w:List Data) (t:Ty) (l:List Pat) (b:Pat) (k:Nat):List Pat:=(l.take k).flatMap (zlM w t b)
theorem zl0 {w:List Data}{t:Ty}{l:List Pat}{b:Pat}:zbF w t l b=l.flatMap (zlM w t b):=by
 unfold zbF
 induction l with
 |nil=>rfl
 |cons x r ih=>rw[List.flatMap_cons,List.filter_append,List.flatMap_cons,ih];rfl
theorem zeJ {w:List Data}{t:Ty}{l:List Pat}{b:Pat}{k:Nat} (h:l.length≤k):zfL w t l b k=zbF w t l b:=by
 rw[zl0,zfL,List.take_of_length_le h]
theorem zl1 {w:List Data}{t:Ty}{l:List Pat}{b:Pat}{k:Nat} (h:k<l.length):zfL w t l b (k+1)=zfL w t l b k++zlM w t b (nth l k):=by
 unfold zfL
 have e:l[k]?=some (nth l k):=by simpa using zau (f:=id) h
 rw[List.take_add_one,e,List.flatMap_append]
 simp
theorem ztz {w:List Data}{t:Ty}{l:List Pat}{b:Pat} (k:Nat):(zfL w t l b k).length≤(zbF w t l b).length:=by
 rw[zl0,zfL]
 conv=>rhs;rw[←List.take_append_drop k l,List.flatMap_append]
 rw[List.length_append];omega
theorem zhs {w:List Data} (hs:Spa w):∀(n:Nat){ta tk:Int}{p:Pat},InS (w.length*4) ⟨ta,tk⟩→zac w n ⟨ta,tk⟩ p=true→
  FnD Tryz.prog 155 [.d (zam w),.d (zeo (w.length*4) (zai w)),.agg [.d (.i ta),.d (.i tk)],.agg [.d (.i (p).op),.d (.i (p).ctor),.d (.i (p).n),.d (.i (p).m),.d (.i (p).var),.d (zad (p).kids)]] [] (.d (.bool (!zaQ w (zai w) n ⟨ta,tk⟩ p))) []
 |0,ta,tk,p,_,h=>by simp[zac] at h
 |n+1,ta,tk,p,ht,h=>by
  have hdp:=zdN (f:=zai w) ht (by have:=hs.dp.four;omega)
  by_cases h1:p.op=1
  ·rw[zeC h1]
   refine bd Tryz.f155 45 [] [] fun w0 F0 own kept hk=>?_
   refine bx 3006 ?_
   refine bx 3007 ?_
   refine ev ?_
   refine sq (fun h1 h1p h1s=>?_) fun h1 h1p h1s=>?_
   try simp only[Q] at h1p
   refine wc zi7 (hdp) rfl rfl ?_
   refine ev ?_
   refine rn0 (r1 rfl) (.eqd ?_)
   rotate_left
   try simp only[Q] at h1p
   exfalso;omega
   all_goals (refine congrArg D.bool ?_;rw[Bool.eq_iff_iff];simp;omega)
  by_cases h3:p.op=3
  ·rw[zj0 h h3]
   refine bd Tryz.f155 45 [] [] fun w0 F0 own kept hk=>?_
   refine bx 3006 ?_
   refine bx 3007 ?_
   refine ev ?_
   refine sq (fun h1 h1p h1s=>?_) fun h1 h1p h1s=>?_
   try simp only[Q] at h1p
   exfalso;omega
   try simp only[Q] at h1p
   refine sq (fun h2 h2p h2s=>?_) fun h2 h2p h2s=>?_
   try simp only[Q] at h2p
   refine rn0 (r1 rfl) (.eqd ?_)
   rotate_left
   try simp only[Q] at h2p
   exfalso;omega
   all_goals (rfl)
  have h4:p.op=4:=by have:=zbc h;omega
  obtain⟨c1,c2,c3,-⟩:=zax h h4
  have h3l:=hs.args ⟨ta,tk⟩ p.ctor ht c1
  have hk:=fun i (hi:i<p.kids.length)=>zaE h hi
  rw[zaR h4] at hk
  rw[zhN h4,Bool.not_not]
  have ih:=fun i (hi:i<p.kids.length)=>zhs hs n (ta:=(nth (zaa w ⟨ta,tk⟩ p.ctor) i).data) (tk:=(nth (zaa w ⟨ta,tk⟩ p.ctor) i).index) (p:=nth p.kids i) (zbl hs.dp ht c1 _ (zae (by omega))) (hk i hi)
  refine bd Tryz.f155 45 [] [] fun w0 F0 own kept hk=>?_
  refine bx 3006 ?_
  refine bx 3007 ?_
  refine ev ?_
  refine sq (fun h1 h1p h1s=>?_) fun h1 h1p h1s=>?_
  try simp only[Q,Pat.cs_len] at h1p
  exfalso;omega
  try simp only[Q,Pat.cs_len] at h1p
  refine sq (fun h2 h2p h2s=>?_) fun h2 h2p h2s=>?_
  try simp only[Q,Pat.cs_len] at h2p
  exfalso;omega
  try simp only[Q,Pat.cs_len] at h2p
  refine wc zfQ (zb5 hs.dp.wt (zbQ ht) c1) rfl rfl ?_
  refine ev ?_
  refine CWp.loopX (ι:=Nat) hk (fun i=>[(10,.d (.i (i:Int)))]) [8,26,27,28,29,30,31,32,33,34,35,36,37,38,39,40,41,42,43,44] (fun i=>[]) (fun i=>i≤(zaa w ⟨ta,tk⟩ p.ctor).length∧∀i',i'<i→(!zaQ w (zai w) n (nth (zaa w ⟨ta,tk⟩ p.ctor) i') (nth p.kids i'))=true) (fun i=>(zaa w ⟨ta,tk⟩ p.ctor).length-i) 0 ⟨by omega,fun _ h=>absurd h (by omega)⟩ ⟨⟨_,rfl,LeA.eqi ?_⟩,trivial⟩ trivial (fun x=>rfl) (fun i hg1=>?_)
  focus (rfl)
  refine evc [] [] ?_
  refine sq (fun h3 h3p h3s=>?_) fun h3 h3p h3s=>?_
  try simp only[Q,Pat.cs_len] at h3p
  refine Walk.idx za0 .none rfl rfl rfl rfl (zau (by omega)) rfl ?_
  refine evd [] [] ?_
  refine Walk.idx sl26 .none rfl rfl rfl rfl (zaH (by omega)) rfl ?_
  refine evd [] [] ?_
  refine wc zr5 (ih i (by omega)) rfl rfl ?_
  refine evd [] [] ?_
  refine dr ?_
  refine sq (fun h4 h4p h4s=>?_) fun h4 h4p h4s=>?_
  try simp only[Q,Pat.cs_len] at h4p
  refine rn0 (r1 rfl) (.eqd ?_)
  rotate_left
  try simp only[Q,Pat.cs_len] at h4p
  refine ar ?_
  refine Exists.intro (i+1) ⟨⟨by omega,za7 hg1.2 (by(simp;assumption))⟩,(by omega),sx ⟨⟨_,rfl,LeA.eqi ?_⟩,trivial⟩ trivial⟩
  focus (rfl)
  try simp only[Q,Pat.cs_len] at h3p
  refine rn0 (r1 rfl) (.eqd ?_)
  rotate_left
  all_goals (refine congrArg D.bool ?_;first|(rw[zbR (i:=i) (by omega) (by omega) (by first|assumption|(simp;assumption)|(simp_all;done))];done)|(rw[zb4 (by omega) (fun x hx=>hg1.2 x (by omega))];done))
theorem zh3 {w:List Data} (hs:Spa w){ta tk:Int} (ht:InS (w.length*4) ⟨ta,tk⟩){l:List Pat} (hl:∀a∈l,zac w 11 ⟨ta,tk⟩ a=true) (hb:l.length≤20000000):
  FnD Tryz.prog 99 [.d (zam w),.d (zeo (w.length*4) (zai w)),.agg [.d (.i ta),.d (.i tk)],.d (zad l)] [] (.d (zad (l.filter (zbe w ⟨ta,tk⟩)))) []:=by
 have hal:∀a∈l,FnD Tryz.prog 155 [.d (zam w),.d (zeo (w.length*4) (zai w)),.agg [.d (.i ta),.d (.i tk)],.agg [.d (.i (a).op),.d (.i (a).ctor),.d (.i (a).n),.d (.i (a).m),.d (.i (a).var),.d (zad (a).kids)]] [] (.d (.bool (zbe w ⟨ta,tk⟩ a))) []:=fun a ha=>zhs hs 11 ht (hl a ha)
 have hle:∀ {pre rest:List Pat}{y:Pat},pre++y::rest=l→(pre.filter (zbe w ⟨ta,tk⟩)).length+1≤l.length:=fun {pre rest y} h=>by
  have h1:=List.length_filter_le (zbe w ⟨ta,tk⟩) pre
  have h2:=congrArg List.length h
  simp only[List.length_append,List.length_cons] at h2
  omega
 refine bd Tryz.f99 34 [] [] fun w0 F0 own kept hk=>?_
 refine bx 3006 ?_
 refine ev ?_
 refine Walk.sliceEmptyG 9 sl26 .none rfl rfl ?_
 refine ev ?_
 refine CWp.loopX (ι:=List (Pat)×List (Pat)) hk (fun x=>[(10,.d (.i (x.1.length:Int))),(9,.gl 9 (Pat.cs (x.1.filter (zbe w ⟨ta,tk⟩))))]) [12,13,14,15,16,17,18,19,20,21,22,23,24,25,26,27,28,29,30,31,32] (fun x=>[(9,some (.tok ((Pat.cs (x.1.filter (zbe w ⟨ta,tk⟩)))).length 6))]) (fun x=>x.1++x.2=l) (fun x=>x.2.length) ([],l) (by simp) ⟨⟨_,rfl,LeA.eqi ?_⟩,⟨⟨_,rfl,LeA.glg ?_⟩,trivial⟩⟩ ⟨zab ?_,trivial⟩ (fun x=>rfl) (fun x hg1=>?_)
 iterate 3 focus (rfl)
 obtain⟨pre,rest⟩:=x
 dsimp only at hg1 ⊢
 refine evc [] [] ?_
 refine sq (fun h1 h1p h1s=>?_) fun h1 h1p h1s=>?_
 try simp only[Q,Pat.cs_len] at h1p
 rcases rest with _|⟨y,rest⟩
 ·exfalso;simp_all
 refine Walk.idx sl26 .none rfl rfl rfl rfl (Pat.cs_at' hg1) rfl ?_
 refine evd [] [] ?_
 refine wc zr5 (hal y (by rw[←hg1];simp)) rfl rfl ?_
 refine dr ?_
 refine sq (fun h2 h2p h2s=>?_) fun h2 h2p h2s=>?_
 try simp only[Q,Pat.cs_len] at h2p
 refine Walk.idx sl26 .none rfl rfl rfl rfl (Pat.cs_at' hg1) rfl ?_
 refine ev ?_
 refine si [0] [_] sl26 tz28 ?_
 refine ap sl26 zz28 rfl rfl rfl (by intro x hx;simp at hx;subst hx;rfl) (by have h9:=hle hg1;simp[Pat.cs_len];omega) ?_
 refine ev ?_
 refine ar ?_
 refine Exists.intro ((pre++[y],rest)) ⟨(by have hz:=hg1;rw[←hz];simp),(by simp),sx ⟨⟨_,rfl,LeA.eqi ?_⟩,⟨⟨_,rfl,LeA.glg ?_⟩,trivial⟩⟩ ⟨zab ?_,trivial⟩⟩
 iterate 3 focus (first|(dsimp only;rw[List.filter_append,List.filter_cons_of_pos (by assumption),List.filter_nil,Pat.cs_cd (List.filter _ _),Pat.cs_cd (_++_),List.map_append];rfl)|(dsimp only;rw[List.filter_append,List.filter_cons_of_pos (by assumption),List.filter_nil];simp[Pat.cs_len];done)|(simp;done))
 try simp only[Q,Pat.cs_len] at h2p
 refine ar ?_
 refine Exists.intro ((pre++[y],rest)) ⟨(by have hz:=hg1;rw[←hz];simp),(by simp),sx ⟨⟨_,rfl,LeA.eqi ?_⟩,⟨⟨_,rfl,LeA.glg ?_⟩,trivial⟩⟩ ⟨zab ?_,trivial⟩⟩
 iterate 3 focus (first|(dsimp only;rw[List.filter_append,List.filter_cons_of_neg (by simp_all),List.filter_nil,List.append_nil];done)|(simp;done))
 try simp only[Q,Pat.cs_len] at h1p
 have hrest:rest=[]:=by
  rcases rest with _|⟨a,b⟩
  ·rfl
  ·exfalso;have hz:=congrArg List.length (hg1);simp only[List.length_append,List.length_cons,List.length_map] at hz;omega
 subst hrest
 refine rn0 (r1 rfl) (.gld ?_)
 rotate_left
 all_goals ((rw[List.append_nil] at hg1;rw[hg1];done))
theorem zjP {w:List Data} (hs:Spa w){ta tk:Int} (ht:InS (w.length*4) ⟨ta,tk⟩){l away:List Pat} (hl:∀a∈l,zac w 11 ⟨ta,tk⟩ a=true) (hb:∀b∈away,zac w 10 ⟨ta,tk⟩ b=true) (hll:l.length≤400) (hal:away.length≤2000):
  FnD Tryz.prog 54 [.d (zam w),.d (zeo (w.length*4) (zai w)),.agg [.d (.i ta),.d (.i tk)],.d (zad l),.d (zad away)] [] (.tup [.d (zad ((zaJ w ⟨ta,tk⟩ l away).getD [])),.d (.bool (zaJ w ⟨ta,tk⟩ l away).isSome)]) []:=by
 have hke:=zs0 hs ht hl hb
 have hmi:∀(c:List Pat) (i k:Nat),(∀a∈c,zac w 11 ⟨ta,tk⟩ a=true)→i<away.length→k<c.length→(zaq w 10 ⟨ta,tk⟩ (nth c k) (nth away i)).length≤20000000:=fun c i k hc hi hk=>zft hs (by omega) (by omega) ht (hc _ (zae hk)) (hb _ (zae hi))
 have hkb:∀(c:List Pat) (i k:Nat),(∀a∈c,zac w 11 ⟨ta,tk⟩ a=true)→i<away.length→k<c.length→(zlM w ⟨ta,tk⟩ (nth away i) (nth c k)).length≤20000000:=fun c i k hc hi hk=>Nat.le_trans (List.length_filter_le _ _) (hmi c i k hc hi hk)
 rw[←hke]
 have hno:∀(c:List Pat) (i k:Nat),i<away.length→400<(zfL w ⟨ta,tk⟩ c (nth away i) k).length→subL w ⟨ta,tk⟩ c (away.drop i)=none:=fun c i k hi h=>by
  have:=ztz (w:=w) (t:=⟨ta,tk⟩) (l:=c) (b:=nth away i) k
  rw[zf3 hi,if_neg (by omega)]
 refine bd Tryz.f54 60 [] [] fun w0 F0 own kept hk=>?_
 refine bx 3007 ?_
 refine ev ?_
 refine CWp.loopX (ι:=Nat×List Pat) hk (fun s=>[(12,.d (.i (s.1:Int))),(3,.d (zad s.2))]) [10,11,13,14,15,16,17,18,19,20,21,22,23,24,25,26,27,28,29,30,31,32,33,34,35,36,37,38,39,40,41,42,43,44,45,46,47,48,49,50,51,52,53,54] (fun s=>[]) (fun s=>s.1≤away.length∧subL w ⟨ta,tk⟩ s.2 (away.drop s.1)=subL w ⟨ta,tk⟩ l away∧(∀a∈s.2,zac w 11 ⟨ta,tk⟩ a=true)∧s.2.length≤400) (fun s=>away.length-s.1) (0,l) ⟨by simp,rfl,hl,hll⟩ ⟨⟨_,rfl,LeA.eqi ?_⟩,⟨⟨_,rfl, ?_⟩,trivial⟩⟩ trivial (fun x=>rfl) (fun s hg1=>?_)
 focus (rfl)
 focus (exact LeA.refl _)
 refine evc [] [] ?_
 refine sq (fun h1 h1p h1s=>?_) fun h1 h1p h1s=>?_
 try simp only[Q,Pat.cs_len] at h1p
 refine Walk.sliceEmptyG 9 sl26 .none rfl rfl ?_
 refine ev ?_
 refine CWp.loopX (ι:=Nat) hk (fun k=>[(14,.d (.i (k:Int))),(13,.gl 9 (Pat.cs (zfL w ⟨ta,tk⟩ s.2 (nth away s.1) k)))]) [22,23,24,25,26,27,28,29,30,31,32,33,34,35,36,37,38,39,40,41,42,43,44,45,46,47,48,49] (fun k=>[(9,some (.tok ((Pat.cs (zfL w ⟨ta,tk⟩ s.2 (nth away s.1) k))).length 6))]) (fun k=>k≤s.2.length) (fun k=>s.2.length-k) 0 (by omega) ⟨⟨_,rfl,LeA.eqi ?_⟩,⟨⟨_,rfl,LeA.glg ?_⟩,trivial⟩⟩ ⟨zab ?_,trivial⟩ (fun x=>rfl) (fun k hg2=>?_)
 iterate 3 focus (rfl)
 refine evc [] [] ?_
 refine sq (fun h2 h2p h2s=>?_) fun h2 h2p h2s=>?_
 try simp only[Q,Pat.cs_len] at h2p
 refine sq (fun h3 h3p h3s=>?_) fun h3 h3p h3s=>?_
 try simp only[Q,Pat.cs_len] at h3p
 refine Walk.idx sl26 .none rfl rfl rfl rfl (zaH (by omega)) rfl ?_
 refine evd [] [] ?_
 refine Walk.idx sl26 .none rfl rfl rfl rfl (zaH (by omega)) rfl ?_
 refine evd [] [] ?_
 refine wc zoG (zht hs 10 11 (by omega) (by omega) (by omega) ht (hg1.2.2.1 _ (zae (by omega))) (hb _ (zae (by omega)))) rfl rfl ?_
 refine wc zuf (show FnD _ _ _ _ (.d (zad (zlM w ⟨ta,tk⟩ (nth away s.1) (nth s.2 k)))) _ from zh3 hs ht (ze4 10 11 (by omega) (hg1.2.2.1 _ (zae (by omega))) (hb _ (zae (by omega)))) (hmi s.2 s.1 k hg1.2.2.1 (by omega) (by omega))) rfl rfl ?_
 refine ap sl26 zz28 rfl rfl rfl (by exact zbD _) (by have h9:=hkb s.2 s.1 k hg1.2.2.1 (by omega) (by omega);simp only[Pat.cs_len];omega) ?_
 refine evd [] [] ?_
 refine dr ?_
 refine ar ?_
 refine Exists.intro (k+1) ⟨(by omega),(by omega),sx ⟨⟨_,rfl,LeA.eqi ?_⟩,⟨⟨_,rfl,LeA.glg ?_⟩,trivial⟩⟩ ⟨zab ?_,trivial⟩⟩
 iterate 3 focus (first|rfl|(rw[zl1 (by omega),Pat.cs_cd,Pat.cs_cd,Pat.cs_cd,List.map_append];done)|(rw[zl1 (by omega)];simp[Pat.cs_len];done))
 try simp only[Q,Pat.cs_len] at h3p
 refine sq (fun h4 h4p h4s=>?_) fun h4 h4p h4s=>?_
 try simp only[Q,Pat.cs_len] at h4p
 refine Walk.sliceEmpty sl26 .none rfl ?_
 refine ev ?_
 refine rn0 (r2 rfl rfl) (.tup (.cons (.eqd ?_) (.cons (.eqd ?_) .nil)))
 rotate_left 2
 try simp only[Q,Pat.cs_len] at h4p
 refine ar ?_
 refine Exists.intro ((s.1+1,zbF w ⟨ta,tk⟩ s.2 (nth away s.1))) ⟨(by
    have hk:s.2.length≤k:=by omega
    have h4:(zbF w ⟨ta,tk⟩ s.2 (nth away s.1)).length≤400:=by rw[←zeJ hk];omega
    have e:=zf3 (w:=w) (t:=⟨ta,tk⟩) (l:=s.2) (away:=away) (i:=s.1) (by omega)
    rw[if_pos h4] at e
    refine⟨by dsimp only;omega, ?_,zec hg1.2.2.1 (hb _ (zae (by omega))),h4⟩
    dsimp only
    rw[←e];exact hg1.2.1),(by dsimp only;omega),sx ⟨⟨_,rfl,LeA.eqi ?_⟩,⟨⟨_,rfl, ?_⟩,trivial⟩⟩ trivial⟩
 focus (rfl)
 focus (((first|refine LeA.gld ?_|refine LeA.nild ?_);first|rfl|(rw[zeJ (by omega)];done)|(dsimp only;rw[zeJ (by omega)];done)|(simp;done)|omega))
 try simp only[Q,Pat.cs_len] at h2p
 refine sqF ?_
 refine sq (fun h6 h6p h6s=>?_) fun h6 h6p h6s=>?_
 try simp only[Q,Pat.cs_len] at h6p
 refine Walk.sliceEmpty sl26 .none rfl ?_
 refine ev ?_
 refine rn0 (r2 rfl rfl) (.tup (.cons (.eqd ?_) (.cons (.eqd ?_) .nil)))
 rotate_left 2
 try simp only[Q,Pat.cs_len] at h6p
 refine ar ?_
 refine Exists.intro ((s.1+1,zbF w ⟨ta,tk⟩ s.2 (nth away s.1))) ⟨(by
    have hk:s.2.length≤k:=by omega
    have h4:(zbF w ⟨ta,tk⟩ s.2 (nth away s.1)).length≤400:=by rw[←zeJ hk];omega
    have e:=zf3 (w:=w) (t:=⟨ta,tk⟩) (l:=s.2) (away:=away) (i:=s.1) (by omega)
    rw[if_pos h4] at e
    refine⟨by dsimp only;omega, ?_,zec hg1.2.2.1 (hb _ (zae (by omega))),h4⟩
    dsimp only
    rw[←e];exact hg1.2.1),(by dsimp only;omega),sx ⟨⟨_,rfl,LeA.eqi ?_⟩,⟨⟨_,rfl, ?_⟩,trivial⟩⟩ trivial⟩
 focus (rfl)
 focus (((first|refine LeA.gld ?_|refine LeA.nild ?_);first|rfl|(rw[zeJ (by omega)];done)|(dsimp only;rw[zeJ (by omega)];done)|(simp;done)|omega))
 try simp only[Q,Pat.cs_len] at h1p
 refine wc zuf (zh3 hs ht hg1.2.2.1 (by omega)) rfl rfl ?_
 refine ev ?_
 refine rn0 (r2 rfl rfl) (.tup (.cons (.eqd ?_) (.cons (.eqd ?_) .nil)))
 rotate_left 2
 all_goals (first|(rw[←hg1.2.1,hno s.2 s.1 k (by omega) (by omega)];rfl)|(rw[←hg1.2.1,zpP (by omega)];rfl))
theorem zh1:∀(n:Nat){p:Pat},p.size≤n→p.ok→FnD Tryz.prog 162 [.agg [.d (.i (p).op),.d (.i (p).ctor),.d (.i (p).n),.d (.i (p).m),.d (.i (p).var),.d (zad (p).kids)]] [] (.agg [.d (.i (p).op),.d (.i (p).ctor),.d (.i (p).n),.d (.i (p).m),.d (.i (p).var),.d (zad (p).kids)]) []
 |0,p,h,_=>by rw[Pat.size_eq] at h;omega
 |n+1,p,h,hok=>by
  rw[Pat.size_eq] at h
  rw[Pat.ok_iff] at hok
  have hok1:=hok.1
  refine bd Tryz.f162 26 [] [] fun w0 F0 own kept hk=>?_
  refine bx 3001 ?_
  refine ab 3002 tz28 ?_
  refine tv ?_
  refine ab 3003 tz28 ?_
  refine so ty28 ?_
  refine tv ?_
  refine so ty26 ?_
  refine tv ?_
  refine CWp.tokB 3003 5 7 6 rfl rfl rfl rfl ?_
  refine CWp.loopX (ι:=List (Pat)×List (Pat)) hk (fun x=>[(4,.d (.i (x.1.length:Int)))]) [7,8,9,10,11,12,13,14,15,16,17,18,19,20,21,22,23,24] (fun x=>[(3003,some (.box [.d (.i p.op),.d (.i p.ctor),.d (.i p.n),.d (.i p.m),.d (.i p.var),.gl 7 (x.1.map Pat.cc)])),(7,some (.tok (x.1.map Pat.cc).length 6))]) (fun x=>x.1++x.2=p.kids) (fun x=>x.2.length) ([],p.kids) (by simp) ⟨⟨_,rfl,LeA.eqi ?_⟩,trivial⟩ ⟨?_,⟨zab ?_,trivial⟩⟩ (fun x=>rfl) (fun x hg1=>?_)
  focus (rfl)
  focus (first|rfl|(simp[getH];done))
  focus (rfl)
  obtain⟨pre,rest⟩:=x
  dsimp only at hg1 ⊢
  refine evc [] [] ?_
  refine sq (fun h1 h1p h1s=>?_) fun h1 h1p h1s=>?_
  try simp only[Q,Pat.cs_len] at h1p
  rcases rest with _|⟨y,rest⟩
  ·exfalso;simp_all
  refine Walk.idx sl26 .none rfl rfl rfl rfl (Pat.cs_at' hg1) rfl ?_
  refine evd [] [] ?_
  refine wc zr7 (zh1 n (p:=y) (by have:=Pats.size_mem (l:=p.kids) (v:=y) (by rw[←hg1];simp);omega) (Pats.ok_mem hok.2 y (by rw[←hg1];simp))) rfl rfl ?_
  refine si [0] [_] sl26 tz28 ?_
  refine ap sl26 zz28 rfl rfl rfl (by intro x hx;(simp at hx;subst hx;rfl)) (by have:=congrArg List.length hg1;simp at this;simp;omega) ?_
  refine evd [] [] ?_
  refine so ty26 ?_
  refine dr ?_
  refine ar ?_
  refine Exists.intro ((pre++[y],rest)) ⟨(by have hz:=hg1;rw[←hz];simp),(by simp),sx ⟨⟨_,rfl,LeA.eqi ?_⟩,trivial⟩ ⟨?_,⟨zab ?_,trivial⟩⟩⟩
  focus ((simp;done))
  focus (first|rfl|(simp[getH];done))
  focus ((simp;done))
  try simp only[Q,Pat.cs_len] at h1p
  have hrest:rest=[]:=by
   rcases rest with _|⟨a,b⟩
   ·rfl
   ·exfalso;have hz:=congrArg List.length (hg1);simp only[List.length_append,List.length_cons,List.length_map] at hz;omega
  subst hrest
  refine so ty28 ?_
  refine tv ?_
  refine rn0 (.cons (.cellA ty28 rfl rfl rfl) .nil) (.agg (.cons (.eqd ?_) (.cons (.eqd ?_) (.cons (.eqd ?_) (.cons (.eqd ?_) (.cons (.eqd ?_) (.cons (.gld ?_) .nil)))))))
  rotate_left 6
  all_goals (first|rfl|(rw[List.append_nil] at hg1;rw[←hg1,Pat.cs_cd];done))
theorem zoh {l:List Pat} (h:l.length≤1000000000000) (hok:∀p∈l,p.ok):FnD Tryz.prog 102 [.d (zad l)] [] (.d (zad l)) []:=by
 refine bd Tryz.f102 21 [] [] fun w0 F0 own kept hk=>?_
 refine Walk.sliceEmptyG 1 sl26 .none rfl rfl ?_
 refine ev ?_
 refine CWp.loopX (ι:=List (Pat)×List (Pat)) hk (fun x=>[(4,.d (.i (x.1.length:Int))),(3,.gl 1 (x.1.map Pat.cc))]) [6,7,8,9,10,11,12,13,14,15,16,17,18,19] (fun x=>[(1,some (.tok ((x.1.map Pat.cc)).length 6))]) (fun x=>x.1++x.2=l) (fun x=>x.2.length) ([],l) (by simp) ⟨⟨_,rfl,LeA.eqi ?_⟩,⟨⟨_,rfl,LeA.glg ?_⟩,trivial⟩⟩ ⟨zab ?_,trivial⟩ (fun x=>rfl) (fun x hg1=>?_)
 iterate 3 focus (rfl)
 obtain⟨pre,rest⟩:=x
 dsimp only at hg1 ⊢
 refine evc [] [] ?_
 refine sq (fun h1 h1p h1s=>?_) fun h1 h1p h1s=>?_
 try simp only[Q,Pat.cs_len] at h1p
 rcases rest with _|⟨y,rest⟩
 ·exfalso;simp_all
 refine Walk.idx sl26 .none rfl rfl rfl rfl (Pat.cs_at' hg1) rfl ?_
 refine ev ?_
 refine wc zr7 (zh1 _ (Nat.le_refl _) (hok y (by rw[←hg1];simp))) rfl rfl ?_
 refine si [0] [_] sl26 tz28 ?_
 refine ap sl26 zz28 rfl rfl rfl (by intro x hx;simp at hx;subst hx;rfl) (by have:=congrArg List.length hg1;simp at this;simp;omega) ?_
 refine ev ?_
 refine ar ?_
 refine Exists.intro ((pre++[y],rest)) ⟨(by have hz:=hg1;rw[←hz];simp),(by simp),sx ⟨⟨_,rfl,LeA.eqi ?_⟩,⟨⟨_,rfl,LeA.glg ?_⟩,trivial⟩⟩ ⟨zab ?_,trivial⟩⟩
 iterate 3 focus ((simp;done))
 try simp only[Q,Pat.cs_len] at h1p
 have hrest:rest=[]:=by
  rcases rest with _|⟨a,b⟩
  ·rfl
  ·exfalso;have hz:=congrArg List.length (hg1);simp only[List.length_append,List.length_cons,List.length_map] at hz;omega
 subst hrest
 refine rn0 (r1 rfl) (.gld ?_)
 rotate_left
 all_goals ((rw[List.append_nil] at hg1;rw[←hg1,Pat.cs_cd];done))
theorem znY {p:Pat} (h:zcI p=true):zaU (zat p)=zaD p:=by
 unfold zcI at h
 have h40:=of_decide_eq_true h
 unfold zaU zaD
 rw[if_pos h40,List.take_of_length_le (by omega)]
theorem zsZ {p:Pat}:((40:Int)<((zaU (zat p)).length:Int))↔zcI p=false:=by
 unfold zcI zaU
 rw[List.length_take,decide_eq_false_iff_not]
 omega
theorem zhv {w:List Data} (hs:Spa w){ta tk:Int} (ht:InS (w.length*4) ⟨ta,tk⟩){l:List Pat}{ok:Bool} (hl:∀a∈l,a.ok∧a.size≤1000000000000) (hb:l.length≤1000000000000):
  FnD Tryz.prog 55 [.d (zam w),.agg [.d (.i ta),.d (.i tk)],.d (zad l),.d (.bool ok)] [] (.tup [.d (zad (if l.all (isP w ⟨ta,tk⟩)=true then l else [])),.d (.bool (l.all (isP w ⟨ta,tk⟩)&&ok))]) []:=by
 have hbad:∀i,i<l.length→isP w ⟨ta,tk⟩ (nth l i)=false→l.all (isP w ⟨ta,tk⟩)=false:=fun i hi h=>by
  cases hq:l.all (isP w ⟨ta,tk⟩) with
  |false=>rfl
  |true=>have:=List.all_eq_true.1 hq _ (zae hi);rw[h] at this;cases this
 have hgood:(∀i,i<l.length→isP w ⟨ta,tk⟩ (nth l i)=true)→l.all (isP w ⟨ta,tk⟩)=true:=fun h=>List.all_eq_true.2 fun x hx=>by
  obtain⟨i,hi,rfl⟩:=List.getElem_of_mem hx
  have:=h i hi
  rwa [zaG hi] at this
 refine bd Tryz.f55 29 [] [] fun w0 F0 own kept hk=>?_
 refine bx 3005 ?_
 refine ev ?_
 refine CWp.loopX (ι:=Nat) hk (fun i=>[(10,.d (.i (i:Int)))]) [8,9,11,12,13,14,15,16,17,18,19,20,21,22,23,24,25] (fun i=>[]) (fun i=>i≤l.length∧∀i',i'<i→isP w ⟨ta,tk⟩ (nth l i')=true) (fun i=>l.length-i) 0 ⟨by omega,fun _ h=>absurd h (by omega)⟩ ⟨⟨_,rfl,LeA.eqi ?_⟩,trivial⟩ trivial (fun x=>rfl) (fun i hg1=>?_)
 focus (rfl)
 refine evc [] [] ?_
 refine sq (fun h1 h1p h1s=>?_) fun h1 h1p h1s=>?_
 try simp only[Q,Pat.cs_len] at h1p
 refine Walk.idx sl26 .none rfl rfl rfl rfl (zaH (by omega)) rfl ?_
 refine evd [] [] ?_
 refine wc zi4 (zd0 hs.dp.wt (zbQ ht) (hl _ (zae (i:=i) (by omega))).1 (hl _ (zae (by omega))).2) rfl rfl ?_
 refine evd [] [] ?_
 refine dr ?_
 refine sq (fun h2 h2p h2s=>?_) fun h2 h2p h2s=>?_
 try simp only[Q,Pat.cs_len] at h2p
 refine Walk.sliceEmpty sl26 .none rfl ?_
 refine ev ?_
 refine rn0 (r2 rfl rfl) (.tup (.cons (.eqd ?_) (.cons (.eqd ?_) .nil)))
 rotate_left 2
 try simp only[Q,Pat.cs_len] at h2p
 refine ar ?_
 refine Exists.intro (i+1) ⟨⟨by omega,za7 hg1.2 (by assumption)⟩,(by omega),sx ⟨⟨_,rfl,LeA.eqi ?_⟩,trivial⟩ trivial⟩
 focus (rfl)
 try simp only[Q,Pat.cs_len] at h1p
 refine wc zvg (zoh hb (fun p hp=>(hl p hp).1)) rfl rfl ?_
 refine ev ?_
 refine rn0 (r2 rfl rfl) (.tup (.cons (.eqd ?_) (.cons (.eqd ?_) .nil)))
 rotate_left 2
 all_goals (first|(rw[hbad i (by omega) (by assumption)];rfl)|(rw[hgood (fun x hx=>hg1.2 x (by omega))];rfl))
end Go.Proofs.YtpgdedpljcedpaaGreat
namespace Go.Proofs.YtpgdedpljcedpaaGreat
open Go
set_option linter.unusedSimpArgs false
set_option linter.unusedVariables false
section
variable {c:Ctx}{all:Array Oper}{chk:List Rec→Prop}{os:List Oper}{recs:List Rec}{env:Env}{hp:Hp}{Q:St→Prop}
variable {d ty:Nat}{pos:String}{af:Array Edge}{g:Option (Nat×Bool)}{pg:List (Nat×AV)}{t yt:TypeId}{x y:Operand}
theorem Walk.cut_lh {e k yb:Nat}{xs:List (List D)}{vx:AV}{o o2:Operand}{kd kd2:IntKind}{n n2:Int}{a b:Nat} (ht:SlT c.P t e k yb) (hg:GH all env g pg) (hd:Nat.blt d c.n=true)
  (hx:opd env x=some vx) (hxd:vx.toD=some (.sl xs)) (hk:∀x,x∈xs→x.length=k) (ho:opd env o=some (.d (.int kd n))) (ho2:opd env o2=some (.d (.int kd2 n2))) (hi:n = ↑a) (hi2:n2 = ↑b) (hab:a≤b) (hb:b≤xs.length)
  (hn:Walk c all chk os (zao (pg++opFL [x,o,o2] [vx,.d (.int kd n),.d (.int kd2 n2)]) [] [] ⟨some (d,.d (.sl ((xs.drop a).take (b-a)))),[]⟩::recs) ⟨(d,.d (.sl ((xs.drop a).take (b-a))))::env,hp⟩ Q):
  Walk c all chk (⟨some d,.slice t x (some o) (some o2) none,ty,pos,af,g⟩::os) recs ⟨env,hp⟩ Q:=
 Walk.pureL hg hd (by simp[opdL,hx,ho,ho2]) (fun ac G T w h=>by
  have h0:=h.2 0 (by simp) (by simp)
  have h1:=h.2 1 (by simp) (by simp)
  have h2:=h.2 2 (by simp) (by simp)
  simp only[List.getElem_cons_zero,List.getElem_cons_succ] at h0 h1 h2
  obtain⟨u,h3,h4⟩:=ziA (P:=c.P) (w:=w) ht (h0.toD hxd) hk (lo:=some (.int kd a)) (hi:=some (.int kd2 b)) (a:=a) (b:=b) (.inr ⟨kd,rfl⟩) (.inr ⟨kd2,rfl⟩) hab hb
  exact⟨u,by simp only[execOp,h1.int_eq,h2.int_eq,hi,hi2,Option.map_none,Option.map_some,Sem.run_bind,h3,Result.andThen_ok,Sem.run_pure],.d h4⟩) hn
end
end Go.Proofs.YtpgdedpljcedpaaGreat
namespace Go.Proofs.YtpgdedpljcedpaaGreat
open Go
set_option linter.unusedSimpArgs false
set_option linter.unusedVariables false
set_option maxRecDepth 100000
set_option maxHeartbeats 2000000
abbrev sepV (w:List Data) (t:Ty) (l:List Pat):Option (List Pat):=sepQ w t [] l []
theorem zpG {w:List Data}{t:Ty}{l o:List Pat}{i:Nat} (h:i<l.length):sepQ w t (l.take i) (l.drop i) o=match zaJ w t [nth l i] (l.take i) with
  |none=>none
  |some m=>sepQ w t (l.take (i+1)) (l.drop (i+1)) (o++m):=by
 rw[zaW h,sepQ]
 have e:l.take i++[nth l i]=l.take (i+1):=by rw[List.take_succ_eq_append_getElem h,zaG h]
 rw[e]
 all_goals (cases zaJ w t [nth l i] (l.take i)<;>rfl)
theorem zq2 {w:List Data}{t:Ty}{l o:List Pat}{i:Nat} (h:l.length≤i):sepQ w t (l.take i) (l.drop i) o=some o:=by
 rw[List.drop_eq_nil_of_le h,sepQ]
theorem zpE {w:List Data}{t:Ty}{l o m:List Pat}{i:Nat} (h:i<l.length) (hw:zaJ w t [nth l i] (l.take i)=some m):sepQ w t (l.take i) (l.drop i) o=sepQ w t (l.take (i+1)) (l.drop (i+1)) (o++m):=by
 rw[zpG h,hw]
theorem zq1 {w:List Data}{t:Ty}{l o:List Pat}{i:Nat} (h:i<l.length) (hw:zaJ w t [nth l i] (l.take i)=none):sepQ w t (l.take i) (l.drop i) o=none:=by
 rw[zpG h,hw]
theorem zsW {w:List Data}{t:Ty}:∀(r front o:List Pat){res:List Pat},sepQ w t front r o=some res→o.length≤res.length
 | [],_,o,res,h=>by rw[sepQ] at h;cases h;exact Nat.le_refl _
 |p::r,front,o,res,h=>by
  rw[sepQ] at h
  cases hw:zaJ w t [p] front with
  |none=>rw[hw] at h;cases h
  |some m=>
   rw[hw] at h
   have:=zsW r _ _ h
   rw[List.length_append] at this;omega
theorem zjH {w:List Data}{t:Ty}:∀(r front o:List Pat){res:List Pat},(∀b∈front,zac w 10 t b=true)→(∀b∈r,zac w 10 t b=true)→(∀b∈o,zac w 11 t b=true)→sepQ w t front r o=some res→∀x∈res,zac w 11 t x=true
 | [],_,o,res,_,_,ho,h=>by rw[sepQ] at h;cases h;exact ho
 |p::r,front,o,res,hf,hr,ho,h=>by
  rw[sepQ] at h
  cases hw:zaJ w t [p] front with
  |none=>rw[hw] at h;cases h
  |some m=>
   rw[hw] at h
   have hp:=hr p (by simp)
   have h1:=zgf front _ m (fun a ha=>by rw[List.mem_singleton.1 (List.mem_filter.1 ha).1];exact zcY (by omega) hp) (Nat.le_trans (List.length_filter_le _ _) (by simp)) hf hw
   refine zjH r _ _ (fun b hb=>?_) (fun b hb=>hr b (by simp[hb])) (fun b hb=>?_) h
   ·rcases List.mem_append.1 hb with hb|hb
    ·exact hf b hb
    ·rw[List.mem_singleton.1 hb];exact hp
   ·rcases List.mem_append.1 hb with hb|hb
    ·exact ho b hb
    ·exact h1.2 b hb
def FewQ (w:List Data) (t:Ty) (l:List Pat):Prop:=∀res,sepV w t l=some res→res.length≤400
theorem znU {w:List Data}{ta tk:Int}{l:List Pat} (hl:∀a∈l,zac w 10 ⟨ta,tk⟩ a=true) (i:Nat):((zaJ w ⟨ta,tk⟩ [nth l i] (l.take i)).getD []).length≤400:=by
 cases hw:zaJ w ⟨ta,tk⟩ [nth l i] (l.take i) with
 |none=>simp
 |some m=>
  by_cases hi:i<l.length
  ·exact(zgf (l.take i) _ m (fun a ha=>by rw[List.mem_singleton.1 (List.mem_filter.1 ha).1];exact zcY (by omega) (hl _ (zae hi))) (Nat.le_trans (List.length_filter_le _ _) (by simp)) (fun b hb=>hl b (List.mem_of_mem_take hb)) hw).1
  ·rw[List.take_of_length_le (by omega)] at hw
   have e:nth l i=default:=by simp[nth,List.getD,List.getElem?_eq_none (by omega:l.length≤i)]
   rw[e] at hw
   unfold zaJ at hw
   have hlen:∀(away c r:List Pat),c.length≤400→subL w ⟨ta,tk⟩ c away=some r→r.length≤400:=fun away=>by
    induction away with
    |nil=>intro c r hc h;rw[subL] at h;cases h;exact hc
    |cons b away ih=>
     intro c r hc h
     rw[subL] at h
     split at h
     ·rename_i h4;exact ih _ _ h4 h
     ·cases h
   exact hlen _ _ _ (Nat.le_trans (List.length_filter_le _ _) (by simp)) hw
theorem zqH {l:List Pat} (i:Nat) (hi:i<l.length):zad [nth l i] = .sl [(nth l i).cc]∧zad (l.take i) = .sl ((Pat.cs l).take i)∧zad [nth l i] = .sl (((Pat.cs l).drop i).take (i+1-i)):=by
 have e1:zad [nth l i] = .sl [(nth l i).cc]:=by show D.sl (Pat.cs [nth l i])=_;rw[Pat.cs_cd];rfl
 refine⟨e1, ?_, ?_⟩
 ·show D.sl (Pat.cs (l.take i))=_;rw[Pat.cs_cd,Pat.cs_cd,List.map_take]
 ·rw[e1,Pat.cs_cd,←List.map_drop,zaW hi,show i+1-i=1 by omega];rfl
section
variable {w:List Data} (hs:Spa w){ta tk:Int} (ht:InS (w.length*4) ⟨ta,tk⟩){l:List Pat} (hl:∀a∈l,zac w 10 ⟨ta,tk⟩ a=true) (hb:l.length≤1600)
include hs ht hl hb
theorem zkS:FnD Tryz.prog 48 [.d (sPtr w (zai w)),.agg [.d (.i ta),.d (.i tk)],.d (zad l)] [] (.tup [.d (zad ((sepV w ⟨ta,tk⟩ l).getD [])),.d (.bool (sepV w ⟨ta,tk⟩ l).isSome)]) []:=by
 have hml:=znU hl
 have hc:∀i,i<l.length→FnD Tryz.prog 49 [.d (sPtr w (zai w)),.agg [.d (.i ta),.d (.i tk)],.d (.sl [(nth l i).cc]),.d (.sl ((Pat.cs l).take i))] [] (.tup [.d (zad ((zaJ w ⟨ta,tk⟩ [nth l i] (l.take i)).getD [])),.d (.bool (zaJ w ⟨ta,tk⟩ [nth l i] (l.take i)).isSome)]) []:=fun i hi=>by
  have h:=zlK hs ht (l:=[nth l i]) (away:=l.take i) (fun a ha=>by rw[List.mem_singleton.1 ha];exact zcY (by omega) (hl _ (zae hi))) (fun b hb=>hl b (List.mem_of_mem_take hb)) (by simp) (by rw[List.length_take];omega)
  obtain⟨e1,e2,_⟩:=zqH i hi
  rw[e1,e2] at h
  exact h
 have hbad:∀i o,i<l.length→(zaJ w ⟨ta,tk⟩ [nth l i] (l.take i)).isSome=false→sepQ w ⟨ta,tk⟩ (l.take i) (l.drop i) o=none:=fun i o hi h=>zq1 hi (by simpa using h)
 have hgood:∀i o,i<l.length→(zaJ w ⟨ta,tk⟩ [nth l i] (l.take i)).isSome=true→sepQ w ⟨ta,tk⟩ (l.take i) (l.drop i) o=sepQ w ⟨ta,tk⟩ (l.take (i+1)) (l.drop (i+1)) (o++(zaJ w ⟨ta,tk⟩ [nth l i] (l.take i)).getD []):=fun i o hi h=>by
  obtain⟨m,hm⟩:=Option.isSome_iff_exists.1 h
  rw[zpE hi hm,hm];rfl
 refine bd Tryz.f48 38 [8] [] fun w0 F0 own kept hk=>?_
 refine bx 3004 ?_
 refine evs [8] [] ?_
 refine Walk.assignNil 9 6 .none rfl rfl ?_
 refine tv ?_
 refine CWp.loopX (ι:=Nat×List Pat) hk (fun s=>[(15,.d (.i (s.1:Int))),(8,.gl 9 (Pat.cs s.2))]) [6,7,9,10,11,12,16,17,18,19,20,21,22,23,24,25,26,27,28,29,30,31,32,33,34,35,36] (fun s=>[(9,some (.tok ((Pat.cs s.2)).length 6))]) (fun s=>s.1≤l.length∧sepQ w ⟨ta,tk⟩ (l.take s.1) (l.drop s.1) s.2=sepV w ⟨ta,tk⟩ l∧s.2.length≤400*s.1) (fun s=>l.length-s.1) (0,[]) ⟨by simp,by simp,by simp⟩ ⟨⟨_,rfl,LeA.eqi ?_⟩,⟨⟨_,rfl,LeA.glg ?_⟩,trivial⟩⟩ ⟨zab ?_,trivial⟩ (fun x=>rfl) (fun s hg1=>?_)
 iterate 3 focus (rfl)
 refine evc [8] [] ?_
 refine sq (fun h1 h1p h1s=>?_) fun h1 h1p h1s=>?_
 try simp only[Q,Pat.cs_len] at h1p
 refine Walk.idx sl26 .none rfl rfl rfl rfl (zaH (by omega)) rfl ?_
 refine evs [8] [] ?_
 refine ab 3010 tz28 ?_
 refine evs [8] [] ?_
 refine so ty28 ?_
 refine tv ?_
 refine si [0] [_] sl26 tz28 ?_
 refine evd [8] [] ?_
 refine Walk.cut_h (b:=s.1) sl26 .none rfl rfl rfl (by exact zbD _) rfl rfl (by simp only[Pat.cs_len];omega) ?_
 refine wc zwl (hc s.1 (by omega)) rfl rfl ?_
 refine evd [8] [] ?_
 refine dr ?_
 refine sq (fun h2 h2p h2s=>?_) fun h2 h2p h2s=>?_
 try simp only[Q,Pat.cs_len] at h2p
 refine rn0 (r2 rfl rfl) (.tup (.cons (.nild ?_) (.cons (.eqd ?_) .nil)))
 rotate_left 2
 try simp only[Q,Pat.cs_len] at h2p
 refine ap sl26 zz28 rfl rfl rfl (by exact zbD _) (by have h9:=hml s.1;simp only[Pat.cs_len];omega) ?_
 refine asg ?_
 refine tv ?_
 refine ar ?_
 refine Exists.intro ((s.1+1,s.2++(zaJ w ⟨ta,tk⟩ [nth l s.1] (l.take s.1)).getD [])) ⟨(by
    refine⟨by dsimp only;omega, ?_, ?_⟩
    ·dsimp only
     rw[←hgood s.1 s.2 (by omega) (by first|assumption|simpa using h2p)];exact hg1.2.1
    ·have:=hml s.1
     dsimp only
     rw[List.length_append];omega),(by dsimp only;omega),sx ⟨⟨_,rfl,LeA.eqi ?_⟩,⟨⟨_,rfl,LeA.glg ?_⟩,trivial⟩⟩ ⟨zab ?_,trivial⟩⟩
 iterate 3 focus (first|(dsimp only;rw[Pat.cs_cd,Pat.cs_cd,Pat.cs_cd,List.map_append];done)|(simp[Pat.cs_len];done))
 try simp only[Q,Pat.cs_len] at h1p
 refine rn0 (r2 rfl rfl) (.tup (.cons (.gld ?_) (.cons (.eqd ?_) .nil)))
 rotate_left 2
 all_goals (first|(rw[show sepV w ⟨ta,tk⟩ l=none from by rw[←hg1.2.1];exact hbad s.1 s.2 (by omega) (by first|assumption|simpa using h2p)];rfl)|(rw[show sepV w ⟨ta,tk⟩ l=some s.2 from by rw[←hg1.2.1];exact zq2 (by omega)];rfl))
theorem zms (hfew:FewQ w ⟨ta,tk⟩ l):FnD Tryz.prog 53 [.d (zam w),.d (zeo (w.length*4) (zai w)),.agg [.d (.i ta),.d (.i tk)],.d (zad l)] [] (.tup [.d (zad ((sepV w ⟨ta,tk⟩ l).getD [])),.d (.bool (sepV w ⟨ta,tk⟩ l).isSome)]) []:=by
 have hml:=znU hl
 have hc:∀i,i<l.length→FnD Tryz.prog 54 [.d (zam w),.d (zeo (w.length*4) (zai w)),.agg [.d (.i ta),.d (.i tk)],.d (.sl (((Pat.cs l).drop i).take (i+1-i))),.d (.sl ((Pat.cs l).take i))] [] (.tup [.d (zad ((zaJ w ⟨ta,tk⟩ [nth l i] (l.take i)).getD [])),.d (.bool (zaJ w ⟨ta,tk⟩ [nth l i] (l.take i)).isSome)]) []:=fun i hi=>by
  have h:=zjP hs ht (l:=[nth l i]) (away:=l.take i) (fun a ha=>by rw[List.mem_singleton.1 ha];exact zcY (by omega) (hl _ (zae hi))) (fun b hb=>hl b (List.mem_of_mem_take hb)) (by simp) (by rw[List.length_take];omega)
  obtain⟨_,e2,e3⟩:=zqH i hi
  rw[e3,e2] at h
  exact h
 have hbad:∀i o,i<l.length→(zaJ w ⟨ta,tk⟩ [nth l i] (l.take i)).isSome=false→sepQ w ⟨ta,tk⟩ (l.take i) (l.drop i) o=none:=fun i o hi h=>zq1 hi (by simpa using h)
 have hgood:∀i o,i<l.length→(zaJ w ⟨ta,tk⟩ [nth l i] (l.take i)).isSome=true→sepQ w ⟨ta,tk⟩ (l.take i) (l.drop i) o=sepQ w ⟨ta,tk⟩ (l.take (i+1)) (l.drop (i+1)) (o++(zaJ w ⟨ta,tk⟩ [nth l i] (l.take i)).getD []):=fun i o hi h=>by
  obtain⟨m,hm⟩:=Option.isSome_iff_exists.1 h
  rw[zpE hi hm,hm];rfl
 have hmany:∀i o,i<l.length→(zaJ w ⟨ta,tk⟩ [nth l i] (l.take i)).isSome=true→sepQ w ⟨ta,tk⟩ (l.take i) (l.drop i) o=sepV w ⟨ta,tk⟩ l→(400:Int)<(o.length:Int)+(((zaJ w ⟨ta,tk⟩ [nth l i] (l.take i)).getD []).length:Int)→sepV w ⟨ta,tk⟩ l=none:=fun i o hi h e h4=>by
  cases hv:sepV w ⟨ta,tk⟩ l with
  |none=>rfl
  |some res=>
   exfalso
   have h1:=hfew res hv
   rw[hv,hgood i o hi h] at e
   have h2:=zsW _ _ _ e
   rw[List.length_append] at h2;omega
 refine bd Tryz.f53 51 [] [] fun w0 F0 own kept hk=>?_
 refine bx 3006 ?_
 refine ev ?_
 refine Walk.sliceEmptyG 9 sl26 .none rfl rfl ?_
 refine ev ?_
 refine CWp.loopX (ι:=Nat×List Pat) hk (fun s=>[(11,.d (.i (s.1:Int))),(10,.gl 9 (Pat.cs s.2))]) [8,9,12,13,15,16,17,18,19,20,21,22,23,24,25,26,27,28,29,30,31,32,33,34,35,36,37,38,39,40,41,42,43,44,45,46,47,48,49] (fun s=>[(9,some (.tok ((Pat.cs s.2)).length 6))]) (fun s=>s.1≤l.length∧sepQ w ⟨ta,tk⟩ (l.take s.1) (l.drop s.1) s.2=sepV w ⟨ta,tk⟩ l∧s.2.length≤400*s.1) (fun s=>l.length-s.1) (0,[]) ⟨by simp,by simp,by simp⟩ ⟨⟨_,rfl,LeA.eqi ?_⟩,⟨⟨_,rfl,LeA.glg ?_⟩,trivial⟩⟩ ⟨zab ?_,trivial⟩ (fun x=>rfl) (fun s hg1=>?_)
 iterate 3 focus (rfl)
 refine evc [] [] ?_
 refine sq (fun h1 h1p h1s=>?_) fun h1 h1p h1s=>?_
 try simp only[Q,Pat.cs_len] at h1p
 refine ar ?_ (by(have h9:=hml s.1;(try simp only[Pat.cs_len]);constructor<;>omega))
 refine Walk.cut_lh (a:=s.1) (b:=(s.1+1)) sl26 .none rfl rfl rfl (by exact zbD _) rfl rfl rfl (by simp) (by omega) (by simp only[Pat.cs_len];omega) ?_
 refine evd [] [] ?_
 refine Walk.cut_h (b:=s.1) sl26 .none rfl rfl rfl (by exact zbD _) rfl rfl (by(simp only[Pat.cs_len];omega)) ?_
 refine wc zwm (hc s.1 (by omega)) rfl rfl ?_
 refine evd [] [] ?_
 refine dr ?_
 refine sq (fun h2 h2p h2s=>?_) fun h2 h2p h2s=>?_
 try simp only[Q,Pat.cs_len] at h2p
 refine sqT ?_
 refine Walk.sliceEmpty sl26 .none rfl ?_
 refine ev ?_
 refine rn0 (r2 rfl rfl) (.tup (.cons (.eqd ?_) (.cons (.eqd ?_) .nil)))
 rotate_left 2
 try simp only[Q,Pat.cs_len] at h2p
 refine ar ?_ (by(have h9:=hml s.1;(try simp only[Pat.cs_len]);constructor<;>omega))
 refine sq (fun h4 h4p h4s=>?_) fun h4 h4p h4s=>?_
 try simp only[Q,Pat.cs_len] at h4p
 refine Walk.sliceEmpty sl26 .none rfl ?_
 refine ev ?_
 refine rn0 (r2 rfl rfl) (.tup (.cons (.eqd ?_) (.cons (.eqd ?_) .nil)))
 rotate_left 2
 try simp only[Q,Pat.cs_len] at h4p
 refine ap sl26 zz28 rfl rfl rfl (by exact zbD _) (by have h9:=hml s.1;simp only[Pat.cs_len];omega) ?_
 refine ev ?_
 refine ar ?_ (by(have h9:=hml s.1;(try simp only[Pat.cs_len]);constructor<;>omega))
 refine Exists.intro ((s.1+1,s.2++(zaJ w ⟨ta,tk⟩ [nth l s.1] (l.take s.1)).getD [])) ⟨(by
    refine⟨by dsimp only;omega, ?_, ?_⟩
    ·dsimp only
     rw[←hgood s.1 s.2 (by omega) (by first|assumption|simpa using h2p)];exact hg1.2.1
    ·have:=hml s.1
     dsimp only
     rw[List.length_append];omega),(by dsimp only;omega),sx ⟨⟨_,rfl,LeA.eqi ?_⟩,⟨⟨_,rfl,LeA.glg ?_⟩,trivial⟩⟩ ⟨zab ?_,trivial⟩⟩
 iterate 3 focus (first|(dsimp only;rw[Pat.cs_cd,Pat.cs_cd,Pat.cs_cd,List.map_append];done)|(simp[Pat.cs_len];done))
 try simp only[Q,Pat.cs_len] at h1p
 refine rn0 (r2 rfl rfl) (.tup (.cons (.gld ?_) (.cons (.eqd ?_) .nil)))
 rotate_left 2
 all_goals (first|(rw[show sepV w ⟨ta,tk⟩ l=none from by rw[←hg1.2.1];exact hbad s.1 s.2 (by omega) (by first|assumption|simpa using h2p)];rfl)|(rw[hmany s.1 s.2 (by omega) (by first|assumption|simpa using h2p) hg1.2.1 (by omega)];rfl)|(rw[show sepV w ⟨ta,tk⟩ l=some s.2 from by rw[←hg1.2.1];exact zq2 (by omega)];rfl))
end
def zb7 (w:List Data) (a k:Int) (p q:Pat):Bool:=(zaN w a k p&&isP w ⟨a,k⟩ q)&&(zcI p&&zcI q)
theorem zeQ {w:List Data} (hs:WSmall w){a k:Int}{p q:Pat} (h:zb7 w a k p q=true):Spa w∧InS (w.length*4) ⟨a,k⟩∧(∀x∈zaD p,zac w 10 ⟨a,k⟩ x=true)∧(∀x∈zaD q,zac w 10 ⟨a,k⟩ x=true)∧zas w 10 ⟨a,k⟩ p=true∧zas w 10 ⟨a,k⟩ q=true∧
  zaD p=zap (zat p)∧zaD q=zap (zat q)∧zbL w ⟨a,k⟩=true∧isP w ⟨a,k⟩ p=true∧isP w ⟨a,k⟩ q=true:=by
 unfold zb7 zaN zcI at h
 simp only[Bool.and_eq_true,decide_eq_true_eq] at h
 obtain⟨⟨⟨h1,h2⟩,h3⟩,h4,h5⟩:=h
 have hp:=h2
 have hq:=h3
 unfold isP at h2 h3
 rw[Bool.and_eq_true] at h2 h3
 have hin:InS (w.length*4) ⟨a,k⟩:=by
  obtain⟨_,_,h6⟩:=zct h1
  by_cases ha:a = -1
  ·exact .inl ha
  ·obtain⟨h7,h8,h9,h10⟩:=h6 ha
   have:=zv3 (n:=w.length) h8 (j:=k.toNat) (by omega)
   rwa [Int.toNat_of_nonneg h7,Int.toNat_of_nonneg h9] at this
 exact⟨ztX hs (zct h1).1,hin,zku h2.1,zku h3.1,h2.1,h3.1,by unfold zaD;rw[if_pos h4],by unfold zaD;rw[if_pos h5],h1,hp,hq⟩
theorem zkd {w:List Data} (hs:WSmall w){a k:Int}{p q:Pat} (hp:p.ok) (hq:q.ok):
  FnD Tryz.prog 46 [.d (zam w),.agg [.d (.i a),.d (.i k)],.agg [.d (.i p.op),.d (.i p.ctor),.d (.i p.n),.d (.i p.m),.d (.i p.var),.d (zad p.kids)],.agg [.d (.i q.op),.d (.i q.ctor),.d (.i q.n),.d (.i q.m),.d (.i q.var),.d (zad q.kids)]] []
   (.tup [.d (zad (if (zaN w a k p&&isP w ⟨a,k⟩ q)=true then zaD p else [])),.d (zad (if (zaN w a k p&&isP w ⟨a,k⟩ q)=true then zaD q else [])),.d (.bool (zb7 w a k p q))]) []:=by
 have hpv:=zio hs (a:=a) (k:=k) hp
 have hshape:∀ {x:Pat},isP w ⟨a,k⟩ x=true→zas w 10 ⟨a,k⟩ x=true:=fun h=>by unfold isP at h;rw[Bool.and_eq_true] at h;exact h.1
 have hvp:zaN w a k p=true→zbL w ⟨a,k⟩=true∧isP w ⟨a,k⟩ p=true:=fun h=>by unfold zaN at h;rwa [Bool.and_eq_true] at h
 unfold zb7
 by_cases h1:zaN w a k p=true
 ·obtain⟨h2,h3⟩:=hvp h1
  have hok:=zek (zez hs (zct h2).1) (zct h2).2.1 hq
  have hpp:=ziM (hshape h3) hp
  rw[h1] at hpv ⊢
  by_cases h4:isP w ⟨a,k⟩ q=true
  ·have hpq:=ziM (hshape h4) hq
   rw[h4] at hok ⊢
   refine bd Tryz.f46 43 [] [] fun w0 F0 own kept hk=>?_
   refine bx 3005 ?_
   refine bx 3006 ?_
   refine bx 3007 ?_
   refine ev ?_
   refine wc zre (hpv) rfl rfl ?_
   refine ev ?_
   refine sq (fun h1 h1p h1s=>?_) fun h1 h1p h1s=>?_
   try simp only[Q] at h1p
   refine sqT ?_
   focus (exfalso;contradiction)
   try simp only[Q] at h1p
   refine Walk.call (cr:=[]) zou (hok) rfl (.some rfl rfl h1) rfl rfl (LeL.refl _) trivial rfl rfl rfl ?_
   refine evs [] [(20,false)] ?_ ⟨⟨_,rfl,h1⟩,trivial⟩
   refine sq (fun h3 h3p h3s=>?_) fun h3 h3p h3s=>?_
   try simp only[Q] at h3p
   focus (exfalso;contradiction)
   try simp only[Q] at h3p
   refine wc zub (hpp) rfl rfl ?_
   refine ev ?_
   refine wc zub (hpq) rfl rfl ?_
   refine ev ?_
   refine sq (fun h4 h4p h4s=>?_) fun h4 h4p h4s=>?_
   try simp only[Q] at h4p
   refine rn0 (.cons (.tmp rfl) (.cons (.tmp rfl) (.cons (.tmp rfl) .nil))) (.tup (.cons (.eqd ?_) (.cons (.eqd ?_) (.cons (.eqd ?_) .nil))))
   rotate_left 3
   try simp only[Q] at h4p
   refine rn0 (.cons (.tmp rfl) (.cons (.tmp rfl) (.cons (.tmp rfl) .nil))) (.tup (.cons (.eqd ?_) (.cons (.eqd ?_) (.cons (.eqd ?_) .nil))))
   rotate_left 3
   all_goals (first|rfl|(simp_all;done))
  ·have h4':isP w ⟨a,k⟩ q=false:=by simpa using h4
   rw[h4'] at hok ⊢
   refine bd Tryz.f46 43 [] [] fun w0 F0 own kept hk=>?_
   refine bx 3005 ?_
   refine bx 3006 ?_
   refine bx 3007 ?_
   refine ev ?_
   refine wc zre (hpv) rfl rfl ?_
   refine ev ?_
   refine sq (fun h1 h1p h1s=>?_) fun h1 h1p h1s=>?_
   try simp only[Q] at h1p
   refine sqT ?_
   refine rn0 (.cons (.tmp rfl) (.cons (.tmp rfl) (.cons (.tmp rfl) .nil))) (.tup (.cons (.nild ?_) (.cons (.nild ?_) (.cons (.eqd ?_) .nil))))
   rotate_left 3
   try simp only[Q] at h1p
   refine Walk.call (cr:=[]) zou (hok) rfl (.some rfl rfl h1) rfl rfl (LeL.refl _) trivial rfl rfl rfl ?_
   refine evs [] [(20,false)] ?_ ⟨⟨_,rfl,h1⟩,trivial⟩
   refine sq (fun h3 h3p h3s=>?_) fun h3 h3p h3s=>?_
   try simp only[Q] at h3p
   refine rn0 (.cons (.tmp rfl) (.cons (.tmp rfl) (.cons (.tmp rfl) .nil))) (.tup (.cons (.nild ?_) (.cons (.nild ?_) (.cons (.eqd ?_) .nil))))
   rotate_left 3
   try simp only[Q] at h3p
   focus (exfalso;contradiction)
   all_goals (first|rfl|(simp_all;done))
 ·have h1':zaN w a k p=false:=by simpa using h1
  rw[h1'] at hpv ⊢
  refine bd Tryz.f46 43 [] [] fun w0 F0 own kept hk=>?_
  refine bx 3005 ?_
  refine bx 3006 ?_
  refine bx 3007 ?_
  refine ev ?_
  refine wc zre (hpv) rfl rfl ?_
  refine ev ?_
  refine sq (fun h1 h1p h1s=>?_) fun h1 h1p h1s=>?_
  try simp only[Q] at h1p
  refine sqT ?_
  refine rn0 (.cons (.tmp rfl) (.cons (.tmp rfl) (.cons (.tmp rfl) .nil))) (.tup (.cons (.nild ?_) (.cons (.nild ?_) (.cons (.eqd ?_) .nil))))
  rotate_left 3
  try simp only[Q] at h1p
  focus (exfalso;contradiction)
  all_goals (first|rfl|(simp_all;done))
theorem zoj {w:List Data} (hs:WSmall w){a k:Int}{p q:Pat} (hp:p.ok) (hq:q.ok) (hpz:p.size≤1000000000000) (hqz:q.size≤1000000000000):
  FnD Tryz.prog 51 [.d (zam w),.agg [.d (.i a),.d (.i k)],.agg [.d (.i p.op),.d (.i p.ctor),.d (.i p.n),.d (.i p.m),.d (.i p.var),.d (zad p.kids)],.agg [.d (.i q.op),.d (.i q.ctor),.d (.i q.n),.d (.i q.m),.d (.i q.var),.d (zad q.kids)]] []
   (.tup [.d (zad (if (zaN w a k p&&zaN w a k q)=true then zaU (zat p) else [])),.d (zad (if (zaN w a k p&&zaN w a k q)=true then zaU (zat q) else [])),.d (.bool (zb7 w a k p q))]) []:=by
 have hpv:=zfa hs (a:=a) (k:=k) hp hpz
 have hqv:=zfa hs (a:=a) (k:=k) hq hqz
 have hshape:∀ {x:Pat},zaN w a k x=true→zas w 10 ⟨a,k⟩ x=true:=fun h=>by unfold zaN isP at h;simp only[Bool.and_eq_true] at h;exact h.2.1
 have hvq:zaN w a k p=true→zaN w a k q=isP w ⟨a,k⟩ q:=fun h=>by unfold zaN at h ⊢;rw[Bool.and_eq_true] at h;rw[h.1,Bool.true_and]
 have hge:=fun(x:Pat)=>zsZ (p:=x)
 unfold zb7
 by_cases h1:zaN w a k p=true
 ·rw[←hvq h1]
  have hpp:=zhu (hshape h1) hp
  rw[h1] at hpv ⊢
  by_cases h4:zaN w a k q=true
  ·have hpq:=zhu (hshape h4) hq
   rw[h4] at hqv ⊢
   have e:∀x:Pat,zcI x=decide (((zaU (zat x)).length:Int)≤40):=fun x=>by
    have:=hge x
    cases hx:zcI x with
    |true=>
     rw[hx] at this
     exact(decide_eq_true (Int.not_lt.1 fun h=>by have:=this.1 h;cases this)).symm
    |false=>
     rw[hx] at this
     exact(decide_eq_false (Int.not_le.2 (this.2 rfl))).symm
   rw[e p,e q]
   refine bd Tryz.f51 39 [] [] fun w0 F0 own kept hk=>?_
   refine bx 3005 ?_
   refine bx 3006 ?_
   refine bx 3007 ?_
   refine ev ?_
   refine wc zjY (hpv) rfl rfl ?_
   refine ev ?_
   refine sq (fun h1 h1p h1s=>?_) fun h1 h1p h1s=>?_
   try simp only[Q,Pat.cs_len] at h1p
   refine sqT ?_
   focus (exfalso;contradiction)
   try simp only[Q,Pat.cs_len] at h1p
   refine Walk.call (cr:=[]) zjY (hqv) rfl (.some rfl rfl h1) rfl rfl (LeL.refl _) trivial rfl rfl rfl ?_
   refine evs [] [(18,false)] ?_ ⟨⟨_,rfl,h1⟩,trivial⟩
   refine sq (fun h3 h3p h3s=>?_) fun h3 h3p h3s=>?_
   try simp only[Q,Pat.cs_len] at h3p
   focus (exfalso;contradiction)
   try simp only[Q,Pat.cs_len] at h3p
   refine wc zuc (hpp) rfl rfl ?_
   refine ev ?_
   refine wc zuc (hpq) rfl rfl ?_
   refine ev ?_
   refine sq (fun h4 h4p h4s=>?_) fun h4 h4p h4s=>?_
   try simp only[Q,Pat.cs_len] at h4p
   refine rn0 (.cons (.tmp rfl) (.cons (.tmp rfl) (.cons (.tmp rfl) .nil))) (.tup (.cons (.eqd ?_) (.cons (.eqd ?_) (.cons (.eqd ?_) .nil))))
   rotate_left 3
   try simp only[Q,Pat.cs_len] at h4p
   refine rn0 (.cons (.tmp rfl) (.cons (.tmp rfl) (.cons (.tmp rfl) .nil))) (.tup (.cons (.eqd ?_) (.cons (.eqd ?_) (.cons (.eqd ?_) .nil))))
   rotate_left 3
   all_goals (first|(simp_all[Pat.cs_len];done)|(simp_all[Pat.cs_len];omega))
  ·have h4':zaN w a k q=false:=by simpa using h4
   rw[h4'] at hqv ⊢
   refine bd Tryz.f51 39 [] [] fun w0 F0 own kept hk=>?_
   refine bx 3005 ?_
   refine bx 3006 ?_
   refine bx 3007 ?_
   refine ev ?_
   refine wc zjY (hpv) rfl rfl ?_
   refine ev ?_
   refine sq (fun h1 h1p h1s=>?_) fun h1 h1p h1s=>?_
   try simp only[Q] at h1p
   refine sqT ?_
   refine rn0 (.cons (.tmp rfl) (.cons (.tmp rfl) (.cons (.tmp rfl) .nil))) (.tup (.cons (.nild ?_) (.cons (.nild ?_) (.cons (.eqd ?_) .nil))))
   rotate_left 3
   try simp only[Q] at h1p
   refine Walk.call (cr:=[]) zjY (hqv) rfl (.some rfl rfl h1) rfl rfl (LeL.refl _) trivial rfl rfl rfl ?_
   refine evs [] [(18,false)] ?_ ⟨⟨_,rfl,h1⟩,trivial⟩
   refine sq (fun h3 h3p h3s=>?_) fun h3 h3p h3s=>?_
   try simp only[Q] at h3p
   refine rn0 (.cons (.tmp rfl) (.cons (.tmp rfl) (.cons (.tmp rfl) .nil))) (.tup (.cons (.nild ?_) (.cons (.nild ?_) (.cons (.eqd ?_) .nil))))
   rotate_left 3
   try simp only[Q] at h3p
   focus (exfalso;contradiction)
   all_goals (first|rfl|(simp_all;done))
 ·have h1':zaN w a k p=false:=by simpa using h1
  rw[h1'] at hpv ⊢
  refine bd Tryz.f51 39 [] [] fun w0 F0 own kept hk=>?_
  refine bx 3005 ?_
  refine bx 3006 ?_
  refine bx 3007 ?_
  refine ev ?_
  refine wc zjY (hpv) rfl rfl ?_
  refine ev ?_
  refine sq (fun h1 h1p h1s=>?_) fun h1 h1p h1s=>?_
  try simp only[Q] at h1p
  refine sqT ?_
  refine rn0 (.cons (.tmp rfl) (.cons (.tmp rfl) (.cons (.tmp rfl) .nil))) (.tup (.cons (.nild ?_) (.cons (.nild ?_) (.cons (.eqd ?_) .nil))))
  rotate_left 3
  try simp only[Q] at h1p
  refine Walk.call (cr:=[]) zjY (hqv) rfl (.some rfl rfl h1) rfl rfl (LeL.refl _) trivial rfl rfl rfl ?_
  refine evs [] [(18,false)] ?_ ⟨⟨_,rfl,h1⟩,trivial⟩
  refine sq (fun h3 h3p h3s=>?_) fun h3 h3p h3s=>?_
  try simp only[Q] at h3p
  refine rn0 (.cons (.tmp rfl) (.cons (.tmp rfl) (.cons (.tmp rfl) .nil))) (.tup (.cons (.nild ?_) (.cons (.nild ?_) (.cons (.eqd ?_) .nil))))
  rotate_left 3
  try simp only[Q] at h3p
  focus (exfalso;contradiction)
  all_goals (first|rfl|(simp_all;done))
def zbJ (xs ys:List Pat):List Pat:=xs.flatMap fun x=>ys.filterMap (zan 10 x)
theorem zds {xs ys:List Pat}{z:Pat}:z∈zbJ xs ys↔∃x∈xs,∃y∈ys,zan 10 x y=some z:=by
 unfold zbJ
 simp only[List.mem_flatMap,List.mem_filterMap]
theorem znJ {xs ys:List Pat} (h1:xs.length≤40) (h2:ys.length≤40):(zbJ xs ys).length≤1600:=by
 have h:=zfR (f:=fun x=>ys.filterMap (zan 10 x)) (k:=40) (fun x=>Nat.le_trans (List.length_filterMap_le _ _) h2) xs
 unfold zbJ;omega
theorem zcC {f:Pat→Option Pat}{pre:List Pat}{y z:Pat} (h:f y=some z):(pre++[y]).filterMap f=pre.filterMap f++[z]:=by
 rw[List.filterMap_append,List.filterMap_cons_some h,List.filterMap_nil]
theorem zfH {f:Pat→Option Pat}{pre:List Pat}{y:Pat} (h:f y=none):(pre++[y]).filterMap f=pre.filterMap f:=by
 rw[List.filterMap_append,List.filterMap_cons_none h,List.filterMap_nil,List.append_nil]
theorem zpF {w:List Data}{t:Ty}:∀(r front o:List Pat){res:List Pat},sepQ w t front r o=some res→res.length≤o.length+400*r.length
 | [],_,o,res,h=>by rw[sepQ] at h;cases h;omega
 |p::r,front,o,res,h=>by
  rw[sepQ] at h
  cases hw:zaJ w t [p] front with
  |none=>rw[hw] at h;cases h
  |some m=>
   rw[hw] at h
   have h1:=zpF r _ _ h
   have hsub:∀(away c r:List Pat),c.length≤400→subL w t c away=some r→r.length≤400:=fun away=>by
    induction away with
    |nil=>intro c r hc h;rw[subL] at h;cases h;exact hc
    |cons b away ih=>
     intro c r hc h
     rw[subL] at h
     split at h
     ·rename_i h4;exact ih _ _ h4 h
     ·cases h
   have h2:=hsub _ _ _ (Nat.le_trans (List.length_filter_le _ _) (by simp)) hw
   rw[List.length_append] at h1
   simp only[List.length_cons];omega
def meV (w:List Data) (a k:Int) (p q:Pat):Option (List Pat):=if zb7 w a k p q=true then (match sepV w ⟨a,k⟩ (zbJ (zaD p) (zaD q)) with
  |none=>none
  |some z=>if z.all (isP w ⟨a,k⟩)=true then some z else none) else none
theorem zpj {w:List Data}{a k:Int}{p q:Pat} (h:zb7 w a k p q=false):meV w a k p q=none:=by unfold meV;rw[if_neg (by rw[h];simp)]
theorem zrw {w:List Data}{a k:Int}{p q:Pat} (h:zb7 w a k p q=true) (h2:sepV w ⟨a,k⟩ (zbJ (zaD p) (zaD q))=none):meV w a k p q=none:=by unfold meV;rw[if_pos h,h2]
theorem zrx {w:List Data}{a k:Int}{p q:Pat}{z:List Pat} (h:zb7 w a k p q=true) (h2:sepV w ⟨a,k⟩ (zbJ (zaD p) (zaD q))=some z):meV w a k p q=if z.all (isP w ⟨a,k⟩)=true then some z else none:=by unfold meV;rw[if_pos h,h2]
theorem ze3 {w:List Data}{t:Ty}{xs ys:List Pat} (hx:∀x∈xs,zac w 10 t x=true) (hy:∀y∈ys,zac w 10 t y=true):∀z∈zbJ xs ys,zac w 10 t z=true:=fun z hz=>by
 obtain⟨x,h1,y,h2,h3⟩:=zds.1 hz
 exact zjt 10 10 (hx x h1) (hy y h2) h3
theorem zh7 {z:List Pat}{b:Bool}:zad (if b=true then z else [])=zad ((if b=true then some z else none).getD [])∧b=(if b=true then some z else none:Option (List Pat)).isSome:=by cases b<;>exact⟨rfl,rfl⟩
theorem zin {w:List Data} (hs:WSmall w){a k:Int}{p q:Pat} (hp:p.ok) (hq:q.ok):
  FnD Tryz.prog 25 [.d (zam w),.agg [.d (.i a),.d (.i k)],.agg [.d (.i p.op),.d (.i p.ctor),.d (.i p.n),.d (.i p.m),.d (.i p.var),.d (zad p.kids)],.agg [.d (.i q.op),.d (.i q.ctor),.d (.i q.n),.d (.i q.m),.d (.i q.var),.d (zad q.kids)]] []
   (.tup [.d (zad ((meV w a k p q).getD [])),.d (.bool (meV w a k p q).isSome)]) []:=by
 have hbp:=zkd hs (a:=a) (k:=k) hp hq
 cases h2:zb7 w a k p q with
 |false=>
  rw[zpj h2]
  rw[h2] at hbp
  generalize (if (zaN w a k p&&isP w ⟨a,k⟩ q)=true then zaD p else [])=z1 at hbp
  generalize (if (zaN w a k p&&isP w ⟨a,k⟩ q)=true then zaD q else [])=z2 at hbp
  refine bd Tryz.f25 75 [] [] fun w0 F0 own kept hk=>?_
  refine bx 3005 ?_
  refine bx 3006 ?_
  refine bx 3007 ?_
  refine ev ?_
  refine wc zrf (hbp) rfl rfl ?_
  refine ev ?_
  refine sq (fun h1 h1p h1s=>?_) fun h1 h1p h1s=>?_
  refine rn0 (r2 rfl rfl) (.tup (.cons (.nild ?_) (.cons (.eqd ?_) .nil)))
  rotate_left 2
  focus (exfalso;contradiction)
  all_goals (rfl)
 |true=>
  obtain⟨hsp,hin,t1,t2,_⟩:=zeQ hs h2
  have hpq:(zaN w a k p&&isP w ⟨a,k⟩ q)=true:=by unfold zb7 at h2;rw[Bool.and_eq_true] at h2;exact h2.1
  rw[h2,if_pos hpq,if_pos hpq] at hbp
  have hn:=zke hsp.dp
  have hxl:=zgs p
  have hyl:=zgs q
  have hme:=fun(x y:Pat) (hx:x∈zaD p) (hy:y∈zaD q)=>zgU hsp (f:=zai w) 10 10 (Nat.le_refl _) hin (t1 x hx) (t2 y hy)
  have hml:=znJ hxl hyl
  have hmp:=ze3 t1 t2
  have hse:=zkS hsp hin hmp hml
  have hfl:∀pre x rest,pre++x::rest=zaD p→(pre.flatMap fun x=>(zaD q).filterMap (zan 10 x)).length≤1600:=fun pre x rest h=>by
   have h3:=zfR (f:=fun x=>(zaD q).filterMap (zan 10 x)) (k:=40) (fun x=>Nat.le_trans (List.length_filterMap_le _ _) hyl) pre
   have h4:=congrArg List.length h
   simp only[List.length_append,List.length_cons] at h4
   omega
  cases h3:sepV w ⟨a,k⟩ (zbJ (zaD p) (zaD q)) with
  |none=>
   rw[zrw h2 h3]
   rw[h3] at hse
   have hre:=zhS hsp (f:=zai w) hin (l:=[]) (ok:=false) (by simp) (by simp)
   unfold zbJ at hse
   generalize zaD p=X at *
   generalize zaD q=Y at *
   refine bd Tryz.f25 75 [14] [17] fun w0 F0 own kept hk=>?_
   refine bx 3005 ?_
   refine bx 3006 ?_
   refine bx 3007 ?_
   refine evs [14] [] ?_
   refine wc zrf (hbp) rfl rfl ?_
   refine evs [14] [] ?_
   refine sq (fun h1 h1p h1s=>?_) fun h1 h1p h1s=>?_
   focus (exfalso;contradiction)
   refine wc zt4 (hn) rfl rfl ?_
   refine evs [14] [] ?_
   refine Walk.assignNil 9 6 .none rfl rfl ?_
   refine tv ?_
   refine CWp.loopX (ι:=List (Pat)×List (Pat)) hk (fun x=>[(36,.d (.i (x.1.length:Int))),(14,.gl 9 (Pat.cs (x.1.flatMap fun x=>Y.filterMap (zan 10 x))))]) [16,18,19,20,37,38,39,40,41,42,43,44,45,46,47,48,49,50,51,52,53,54,55,56,57,58,59,60] (fun x=>[(9,some (.tok ((Pat.cs (x.1.flatMap fun x=>Y.filterMap (zan 10 x)))).length 6))]) (fun x=>x.1++x.2=X) (fun x=>x.2.length) ([],X) (by simp) ⟨⟨_,rfl,LeA.eqi ?_⟩,⟨⟨_,rfl,LeA.glg ?_⟩,trivial⟩⟩ ⟨zab ?_,trivial⟩ (fun x=>rfl) (fun x hg1=>?_)
   iterate 3 focus (rfl)
   obtain⟨pre,rest⟩:=x
   dsimp only at hg1 ⊢
   refine evc [14] [17] ?_
   refine sq (fun h2 h2p h2s=>?_) fun h2 h2p h2s=>?_
   try simp only[Q,Pat.cs_len] at h2p
   rcases rest with _|⟨e,rest⟩
   ·exfalso;simp_all
   refine Walk.idx sl26 .none rfl rfl rfl rfl (Pat.cs_at' hg1) rfl ?_
   refine evs [14] [] ?_
   refine ab 3016 tz28 ?_
   refine so ty28 ?_
   refine tv ?_
   refine CWp.loopX (ι:=List (Pat)×List (Pat)) hk (fun x=>[(42,.d (.i (x.1.length:Int))),(14,.gl 9 (Pat.cs ((pre.flatMap fun x=>Y.filterMap (zan 10 x))++x.1.filterMap (zan 10 e))))]) [18,19,20,43,44,45,46,47,48,49,50,51,52,53,54,55,56,57,58,59] (fun x=>[(9,some (.tok ((Pat.cs ((pre.flatMap fun x=>Y.filterMap (zan 10 x))++x.1.filterMap (zan 10 e)))).length 6))]) (fun x=>x.1++x.2=Y) (fun x=>x.2.length) ([],Y) (by simp) ⟨⟨_,rfl,LeA.eqi ?_⟩,⟨⟨_,rfl,LeA.glg ?_⟩,trivial⟩⟩ ⟨zab ?_,trivial⟩ (fun x=>rfl) (fun x hg2=>?_)
   iterate 3 focus ((simp;done))
   obtain⟨pre2,rest2⟩:=x
   dsimp only at hg2 ⊢
   refine evc [14] [17] ?_
   refine sq (fun h3 h3p h3s=>?_) fun h3 h3p h3s=>?_
   try simp only[Q,Pat.cs_len] at h3p
   rcases rest2 with _|⟨y,rest2⟩
   ·exfalso;simp_all
   refine Walk.idx sl26 .none rfl rfl rfl rfl (Pat.cs_at' hg2) rfl ?_
   refine evs [14] [] ?_
   refine ab 3018 tz28 ?_
   refine so ty28 ?_
   refine tv ?_
   refine wc zoq (hme e y (by rw[←hg1];simp) (by rw[←hg2];simp)) rfl rfl ?_
   refine evs [14] [] ?_
   refine ab 3019 tz28 ?_
   refine so ty28 ?_
   refine evs [14] [] ?_
   refine sq (fun h4 h4p h4s=>?_) fun h4 h4p h4s=>?_
   refine si [0] [_] sl26 tz28 ?_
   refine ap sl26 zz28 rfl rfl rfl (by intro x hx;simp at hx;subst hx;rfl) (by have h9:=hfl pre e rest hg1;have h8:=List.length_filterMap_le (zan 10 e) pre2;have h7:=congrArg List.length hg2;simp only[List.length_append,List.length_cons] at h7;simp only[Pat.cs_len,List.length_append,List.length_cons,List.length_nil];omega) ?_
   refine asg ?_
   refine tv ?_
   refine ar ?_
   refine Exists.intro ((pre2++[y],rest2)) ⟨(by have hz:=hg2;rw[←hz];simp),(by simp),sx ⟨⟨_,rfl,LeA.eqi ?_⟩,⟨⟨_,rfl,LeA.glg ?_⟩,trivial⟩⟩ ⟨zab ?_,trivial⟩⟩
   iterate 3 focus (first|(dsimp only;rw[zcC (zdm (by assumption)),Pat.cs_cd,Pat.cs_cd];simp only[List.map_append,List.append_assoc];rfl)|(dsimp only;rw[zcC (zdm (by assumption))];simp only[Pat.cs_len,List.length_append,List.length_cons,List.length_nil];omega)|(simp;done))
   refine ar ?_
   refine Exists.intro ((pre2++[y],rest2)) ⟨(by have hz:=hg2;rw[←hz];simp),(by simp),sx ⟨⟨_,rfl,LeA.eqi ?_⟩,⟨⟨_,rfl,LeA.glg ?_⟩,trivial⟩⟩ ⟨zab ?_,trivial⟩⟩
   iterate 3 focus (first|(dsimp only;rw[zfH (zfr (by first|assumption|(simp_all;done)))];done)|(simp;done))
   try simp only[Q,Pat.cs_len] at h3p
   have hrest2:rest2=[]:=by
    rcases rest2 with _|⟨a,b⟩
    ·rfl
    ·exfalso;have hz:=congrArg List.length (hg2);simp only[List.length_append,List.length_cons,List.length_map] at hz;omega
   subst hrest2
   refine ar ?_
   refine Exists.intro ((pre++[e],rest)) ⟨(by have hz:=hg1;rw[←hz];simp),(by simp),sx ⟨⟨_,rfl,LeA.eqi ?_⟩,⟨⟨_,rfl,LeA.glg ?_⟩,trivial⟩⟩ ⟨zab ?_,trivial⟩⟩
   iterate 3 focus (first|(dsimp only;rw[List.append_nil] at hg2;subst hg2;rw[List.flatMap_append];simp;done)|(simp;done))
   try simp only[Q,Pat.cs_len] at h2p
   have hrest:rest=[]:=by
    rcases rest with _|⟨a,b⟩
    ·rfl
    ·exfalso;have hz:=congrArg List.length (hg1);simp only[List.length_append,List.length_cons,List.length_map] at hz;omega
   subst hrest
   obtain rfl:pre=X:=(by simpa using hg1)
   refine evc [14] [] ?_
   refine Walk.call (cr:=[]) zt5 (hse) rfl .none rfl rfl (.cons (.refl _) (.cons (.refl _) (.cons (.gl _ _) .nil))) trivial rfl rfl rfl ?_
   refine evs [14] [] ?_
   refine asg ?_
   refine evs [14] [] ?_
   refine wc zt6 (hre) rfl rfl ?_
   refine evs [14] [] ?_
   refine rn0 (r2 rfl rfl) (.tup (.cons (.eqd ?_) (.cons (.eqd ?_) .nil)))
   rotate_left 2
   all_goals (rfl)
  |some z=>
   rw[zrx h2 h3]
   rw[h3] at hse
   have hzp:=zjH _ [] [] (by simp) hmp (by simp) h3
   have hzl:=zpF _ _ _ h3
   have hre:=zhS hsp (f:=zai w) hin (l:=z) (ok:=true) (fun x hx=>(zgI hsp 11 hin (hzp x hx)).1) (by simp at hzl;omega)
   rw[Bool.true_and] at hre
   generalize z.all (isP w ⟨a,k⟩)=b at *
   unfold zbJ at hse
   clear hmp hml hzl h3
   generalize zaD p=X at *
   generalize zaD q=Y at *
   refine bd Tryz.f25 75 [14] [17] fun w0 F0 own kept hk=>?_
   refine bx 3005 ?_
   refine bx 3006 ?_
   refine bx 3007 ?_
   refine evs [14] [] ?_
   refine wc zrf (hbp) rfl rfl ?_
   refine evs [14] [] ?_
   refine sq (fun h1 h1p h1s=>?_) fun h1 h1p h1s=>?_
   focus (exfalso;contradiction)
   refine wc zt4 (hn) rfl rfl ?_
   refine evs [14] [] ?_
   refine Walk.assignNil 9 6 .none rfl rfl ?_
   refine tv ?_
   refine CWp.loopX (ι:=List (Pat)×List (Pat)) hk (fun x=>[(36,.d (.i (x.1.length:Int))),(14,.gl 9 (Pat.cs (x.1.flatMap fun x=>Y.filterMap (zan 10 x))))]) [16,18,19,20,37,38,39,40,41,42,43,44,45,46,47,48,49,50,51,52,53,54,55,56,57,58,59,60] (fun x=>[(9,some (.tok ((Pat.cs (x.1.flatMap fun x=>Y.filterMap (zan 10 x)))).length 6))]) (fun x=>x.1++x.2=X) (fun x=>x.2.length) ([],X) (by simp) ⟨⟨_,rfl,LeA.eqi ?_⟩,⟨⟨_,rfl,LeA.glg ?_⟩,trivial⟩⟩ ⟨zab ?_,trivial⟩ (fun x=>rfl) (fun x hg1=>?_)
   iterate 3 focus (rfl)
   obtain⟨pre,rest⟩:=x
   dsimp only at hg1 ⊢
   refine evc [14] [17] ?_
   refine sq (fun h2 h2p h2s=>?_) fun h2 h2p h2s=>?_
   try simp only[Q,Pat.cs_len] at h2p
   rcases rest with _|⟨e,rest⟩
   ·exfalso;simp_all
   refine Walk.idx sl26 .none rfl rfl rfl rfl (Pat.cs_at' hg1) rfl ?_
   refine evs [14] [] ?_
   refine ab 3016 tz28 ?_
   refine so ty28 ?_
   refine tv ?_
   refine CWp.loopX (ι:=List (Pat)×List (Pat)) hk (fun x=>[(42,.d (.i (x.1.length:Int))),(14,.gl 9 (Pat.cs ((pre.flatMap fun x=>Y.filterMap (zan 10 x))++x.1.filterMap (zan 10 e))))]) [18,19,20,43,44,45,46,47,48,49,50,51,52,53,54,55,56,57,58,59] (fun x=>[(9,some (.tok ((Pat.cs ((pre.flatMap fun x=>Y.filterMap (zan 10 x))++x.1.filterMap (zan 10 e)))).length 6))]) (fun x=>x.1++x.2=Y) (fun x=>x.2.length) ([],Y) (by simp) ⟨⟨_,rfl,LeA.eqi ?_⟩,⟨⟨_,rfl,LeA.glg ?_⟩,trivial⟩⟩ ⟨zab ?_,trivial⟩ (fun x=>rfl) (fun x hg2=>?_)
   iterate 3 focus ((simp;done))
   obtain⟨pre2,rest2⟩:=x
   dsimp only at hg2 ⊢
   refine evc [14] [17] ?_
   refine sq (fun h3 h3p h3s=>?_) fun h3 h3p h3s=>?_
   try simp only[Q,Pat.cs_len] at h3p
   rcases rest2 with _|⟨y,rest2⟩
   ·exfalso;simp_all
   refine Walk.idx sl26 .none rfl rfl rfl rfl (Pat.cs_at' hg2) rfl ?_
   refine evs [14] [] ?_
   refine ab 3018 tz28 ?_
   refine so ty28 ?_
   refine tv ?_
   refine wc zoq (hme e y (by rw[←hg1];simp) (by rw[←hg2];simp)) rfl rfl ?_
   refine evs [14] [] ?_
   refine ab 3019 tz28 ?_
   refine so ty28 ?_
   refine evs [14] [] ?_
   refine sq (fun h4 h4p h4s=>?_) fun h4 h4p h4s=>?_
   refine si [0] [_] sl26 tz28 ?_
   refine ap sl26 zz28 rfl rfl rfl (by intro x hx;simp at hx;subst hx;rfl) (by have h9:=hfl pre e rest hg1;have h8:=List.length_filterMap_le (zan 10 e) pre2;have h7:=congrArg List.length hg2;simp only[List.length_append,List.length_cons] at h7;simp only[Pat.cs_len,List.length_append,List.length_cons,List.length_nil];omega) ?_
   refine asg ?_
   refine tv ?_
   refine ar ?_
   refine Exists.intro ((pre2++[y],rest2)) ⟨(by have hz:=hg2;rw[←hz];simp),(by simp),sx ⟨⟨_,rfl,LeA.eqi ?_⟩,⟨⟨_,rfl,LeA.glg ?_⟩,trivial⟩⟩ ⟨zab ?_,trivial⟩⟩
   iterate 3 focus (first|(dsimp only;rw[zcC (zdm (by assumption)),Pat.cs_cd,Pat.cs_cd];simp only[List.map_append,List.append_assoc];rfl)|(dsimp only;rw[zcC (zdm (by assumption))];simp only[Pat.cs_len,List.length_append,List.length_cons,List.length_nil];omega)|(simp;done))
   refine ar ?_
   refine Exists.intro ((pre2++[y],rest2)) ⟨(by have hz:=hg2;rw[←hz];simp),(by simp),sx ⟨⟨_,rfl,LeA.eqi ?_⟩,⟨⟨_,rfl,LeA.glg ?_⟩,trivial⟩⟩ ⟨zab ?_,trivial⟩⟩
   iterate 3 focus (first|(dsimp only;rw[zfH (zfr (by first|assumption|(simp_all;done)))];done)|(simp;done))
   try simp only[Q,Pat.cs_len] at h3p
   have hrest2:rest2=[]:=by
    rcases rest2 with _|⟨a,b⟩
    ·rfl
    ·exfalso;have hz:=congrArg List.length (hg2);simp only[List.length_append,List.length_cons,List.length_map] at hz;omega
   subst hrest2
   refine ar ?_
   refine Exists.intro ((pre++[e],rest)) ⟨(by have hz:=hg1;rw[←hz];simp),(by simp),sx ⟨⟨_,rfl,LeA.eqi ?_⟩,⟨⟨_,rfl,LeA.glg ?_⟩,trivial⟩⟩ ⟨zab ?_,trivial⟩⟩
   iterate 3 focus (first|(dsimp only;rw[List.append_nil] at hg2;subst hg2;rw[List.flatMap_append];simp;done)|(simp;done))
   try simp only[Q,Pat.cs_len] at h2p
   have hrest:rest=[]:=by
    rcases rest with _|⟨a,b⟩
    ·rfl
    ·exfalso;have hz:=congrArg List.length (hg1);simp only[List.length_append,List.length_cons,List.length_map] at hz;omega
   subst hrest
   obtain rfl:pre=X:=(by simpa using hg1)
   refine evc [14] [] ?_
   refine Walk.call (cr:=[]) zt5 (hse) rfl .none rfl rfl (.cons (.refl _) (.cons (.refl _) (.cons (.gl _ _) .nil))) trivial rfl rfl rfl ?_
   refine evs [14] [] ?_
   refine asg ?_
   refine evs [14] [] ?_
   refine wc zt6 (hre) rfl rfl ?_
   refine evs [14] [] ?_
   refine rn0 (r2 rfl rfl) (.tup (.cons (.eqd ?_) (.cons (.eqd ?_) .nil)))
   rotate_left 2
   all_goals (first|exact(zh7 (z:=z) (b:=b)).1|exact congrArg D.bool (zh7 (z:=z) (b:=b)).2)
theorem ziC {w:List Data} (hs:WSmall w){a k:Int}{p q:Pat} (hp:p.ok) (hq:q.ok) (hpz:p.size≤1000000000000) (hqz:q.size≤1000000000000) (hfew:zb7 w a k p q=true→FewQ w ⟨a,k⟩ (zbJ (zaD p) (zaD q))):
  FnD Tryz.prog 27 [.d (zam w),.agg [.d (.i a),.d (.i k)],.agg [.d (.i p.op),.d (.i p.ctor),.d (.i p.n),.d (.i p.m),.d (.i p.var),.d (zad p.kids)],.agg [.d (.i q.op),.d (.i q.ctor),.d (.i q.n),.d (.i q.m),.d (.i q.var),.d (zad q.kids)]] []
   (.tup [.d (zad ((meV w a k p q).getD [])),.d (.bool (meV w a k p q).isSome)]) []:=by
 have hbp:=zoj hs (a:=a) (k:=k) hp hq hpz hqz
 cases h2:zb7 w a k p q with
 |false=>
  rw[zpj h2]
  rw[h2] at hbp
  generalize (if (zaN w a k p&&zaN w a k q)=true then zaU (zat p) else [])=z1 at hbp
  generalize (if (zaN w a k p&&zaN w a k q)=true then zaU (zat q) else [])=z2 at hbp
  refine bd Tryz.f27 78 [] [] fun w0 F0 own kept hk=>?_
  refine bx 3005 ?_
  refine bx 3006 ?_
  refine bx 3007 ?_
  refine ev ?_
  refine wc zrg (hbp) rfl rfl ?_
  refine ev ?_
  refine sq (fun h1 h1p h1s=>?_) fun h1 h1p h1s=>?_
  refine Walk.sliceEmpty sl26 .none rfl ?_
  refine ev ?_
  refine rn0 (r2 rfl rfl) (.tup (.cons (.eqd ?_) (.cons (.eqd ?_) .nil)))
  rotate_left 2
  focus (exfalso;contradiction)
  all_goals (rfl)
 |true=>
  obtain⟨hsp,hin,t1,t2,_⟩:=zeQ hs h2
  have hpq:(zaN w a k p&&zaN w a k q)=true∧zcI p=true∧zcI q=true:=by
   unfold zb7 at h2
   simp only[Bool.and_eq_true] at h2
   have h5:=h2.1.1
   unfold zaN at h5 ⊢
   rw[Bool.and_eq_true] at h5
   exact⟨by rw[h5.1,h5.2,h2.1.2];rfl,h2.2⟩
  rw[h2,if_pos hpq.1,if_pos hpq.1,znY hpq.2.1,znY hpq.2.2] at hbp
  have hn:=zhr hsp.dp
  have hxl:=zgs p
  have hyl:=zgs q
  have hme:=fun(x y:Pat) (hx:x∈zaD p) (hy:y∈zaD q)=>zfE hsp 10 10 (Nat.le_refl _) hin (t1 x hx) (t2 y hy)
  have hml:=znJ hxl hyl
  have hmp:=ze3 t1 t2
  have hse:=zms hsp hin hmp hml (hfew h2)
  have hfl:∀pre x rest,pre++x::rest=zaD p→(pre.flatMap fun x=>(zaD q).filterMap (zan 10 x)).length≤1600:=fun pre x rest h=>by
   have h3:=zfR (f:=fun x=>(zaD q).filterMap (zan 10 x)) (k:=40) (fun x=>Nat.le_trans (List.length_filterMap_le _ _) hyl) pre
   have h4:=congrArg List.length h
   simp only[List.length_append,List.length_cons] at h4
   omega
  cases h3:sepV w ⟨a,k⟩ (zbJ (zaD p) (zaD q)) with
  |none=>
   rw[zrw h2 h3]
   rw[h3] at hse
   have hre:=zhv hsp hin (l:=[]) (ok:=false) (by simp) (by simp)
   unfold zbJ at hse
   clear hmp hml h3 hfew
   generalize zaD p=X at *
   generalize zaD q=Y at *
   refine bd Tryz.f27 78 [] [14] fun w0 F0 own kept hk=>?_
   refine bx 3005 ?_
   refine bx 3006 ?_
   refine bx 3007 ?_
   refine ev ?_
   refine wc zrg (hbp) rfl rfl ?_
   refine ev ?_
   refine sq (fun h1 h1p h1s=>?_) fun h1 h1p h1s=>?_
   focus (exfalso;contradiction)
   refine Walk.sliceEmptyG 9 sl26 .none rfl rfl ?_
   refine ev ?_
   refine CWp.loopX (ι:=List (Pat)×List (Pat)) hk (fun x=>[(14,.d (.i (x.1.length:Int))),(13,.gl 9 (Pat.cs (x.1.flatMap fun x=>Y.filterMap (zan 10 x))))]) [15,16,17,33,34,35,36,37,38,39,40,41,42,43,44,45,46,47,48,49,50,51,52,53,54,55,56,57,58,59,60,61] (fun x=>[(9,some (.tok ((Pat.cs (x.1.flatMap fun x=>Y.filterMap (zan 10 x)))).length 6))]) (fun x=>x.1++x.2=X) (fun x=>x.2.length) ([],X) (by simp) ⟨⟨_,rfl,LeA.eqi ?_⟩,⟨⟨_,rfl,LeA.glg ?_⟩,trivial⟩⟩ ⟨zab ?_,trivial⟩ (fun x=>rfl) (fun x hg1=>?_)
   iterate 3 focus (rfl)
   obtain⟨pre,rest⟩:=x
   dsimp only at hg1 ⊢
   refine evc [] [14] ?_
   refine sq (fun h2 h2p h2s=>?_) fun h2 h2p h2s=>?_
   try simp only[Q,Pat.cs_len] at h2p
   rcases rest with _|⟨e,rest⟩
   ·exfalso;simp_all
   refine CWp.loopX (ι:=List (Pat)×List (Pat)) hk (fun x=>[(15,.d (.i (x.1.length:Int))),(13,.gl 9 (Pat.cs ((pre.flatMap fun x=>Y.filterMap (zan 10 x))++x.1.filterMap (zan 10 e))))]) [16,17,39,40,41,42,43,44,45,46,47,48,49,50,51,52,53,54,55,56,57,58,59,60,61] (fun x=>[(9,some (.tok ((Pat.cs ((pre.flatMap fun x=>Y.filterMap (zan 10 x))++x.1.filterMap (zan 10 e)))).length 6))]) (fun x=>x.1++x.2=Y) (fun x=>x.2.length) ([],Y) (by simp) ⟨⟨_,rfl,LeA.eqi ?_⟩,⟨⟨_,rfl,LeA.glg ?_⟩,trivial⟩⟩ ⟨zab ?_,trivial⟩ (fun x=>rfl) (fun x hg2=>?_)
   iterate 3 focus ((simp;done))
   obtain⟨pre2,rest2⟩:=x
   dsimp only at hg2 ⊢
   refine evc [] [14] ?_
   refine sq (fun h3 h3p h3s=>?_) fun h3 h3p h3s=>?_
   try simp only[Q,Pat.cs_len] at h3p
   rcases rest2 with _|⟨y,rest2⟩
   ·exfalso;simp_all
   refine Walk.idx sl26 .none rfl rfl rfl rfl (Pat.cs_at' hg1) rfl ?_
   refine evd [] [] ?_
   refine Walk.idx sl26 .none rfl rfl rfl rfl (Pat.cs_at' hg2) rfl ?_
   refine evd [] [] ?_
   refine wc zor (hme e y (by rw[←hg1];simp) (by rw[←hg2];simp)) rfl rfl ?_
   refine evd [] [] ?_
   refine ab 3016 tz28 ?_
   refine so ty28 ?_
   refine evd [] [] ?_
   refine dr ?_
   refine sq (fun h4 h4p h4s=>?_) fun h4 h4p h4s=>?_
   refine si [0] [_] sl26 tz28 ?_
   refine ap sl26 zz28 rfl rfl rfl (by intro x hx;simp at hx;subst hx;rfl) (by have h9:=hfl pre e rest hg1;have h8:=List.length_filterMap_le (zan 10 e) pre2;have h7:=congrArg List.length hg2;simp only[List.length_append,List.length_cons] at h7;simp only[Pat.cs_len,List.length_append,List.length_cons,List.length_nil];omega) ?_
   refine ev ?_
   refine ar ?_
   refine Exists.intro ((pre2++[y],rest2)) ⟨(by have hz:=hg2;rw[←hz];simp),(by simp),sx ⟨⟨_,rfl,LeA.eqi ?_⟩,⟨⟨_,rfl,LeA.glg ?_⟩,trivial⟩⟩ ⟨zab ?_,trivial⟩⟩
   iterate 3 focus (first|(dsimp only;rw[zcC (zdm (by assumption)),←ziu (by assumption),Pat.cs_cd,Pat.cs_cd];simp only[List.map_append,List.append_assoc];rfl)|(dsimp only;rw[zcC (zdm (by assumption))];simp only[Pat.cs_len,List.length_append,List.length_cons,List.length_nil];omega)|(simp;done))
   refine ar ?_
   refine Exists.intro ((pre2++[y],rest2)) ⟨(by have hz:=hg2;rw[←hz];simp),(by simp),sx ⟨⟨_,rfl,LeA.eqi ?_⟩,⟨⟨_,rfl,LeA.glg ?_⟩,trivial⟩⟩ ⟨zab ?_,trivial⟩⟩
   iterate 3 focus (first|(dsimp only;rw[zfH (zfr (by first|assumption|(simp_all;done)))];done)|(simp;done))
   try simp only[Q,Pat.cs_len] at h3p
   have hrest2:rest2=[]:=by
    rcases rest2 with _|⟨a,b⟩
    ·rfl
    ·exfalso;have hz:=congrArg List.length (hg2);simp only[List.length_append,List.length_cons,List.length_map] at hz;omega
   subst hrest2
   refine ar ?_
   refine Exists.intro ((pre++[e],rest)) ⟨(by have hz:=hg1;rw[←hz];simp),(by simp),sx ⟨⟨_,rfl,LeA.eqi ?_⟩,⟨⟨_,rfl,LeA.glg ?_⟩,trivial⟩⟩ ⟨zab ?_,trivial⟩⟩
   iterate 3 focus (first|(dsimp only;rw[List.append_nil] at hg2;subst hg2;rw[List.flatMap_append];simp;done)|(simp;done))
   try simp only[Q,Pat.cs_len] at h2p
   have hrest:rest=[]:=by
    rcases rest with _|⟨a,b⟩
    ·rfl
    ·exfalso;have hz:=congrArg List.length (hg1);simp only[List.length_append,List.length_cons,List.length_map] at hz;omega
   subst hrest
   obtain rfl:pre=X:=(by simpa using hg1)
   refine evc [] [] ?_
   refine wc zrh (hn) rfl rfl ?_
   refine evd [] [] ?_
   refine Walk.call (cr:=[]) zt7 (hse) rfl .none rfl rfl (.cons (.refl _) (.cons (.refl _) (.cons (.refl _) (.cons (.gl _ _) .nil)))) trivial rfl rfl rfl ?_
   refine evd [] [] ?_
   refine dr ?_
   refine wc zt8 (hre) rfl rfl ?_
   refine ev ?_
   refine rn0 (r2 rfl rfl) (.tup (.cons (.eqd ?_) (.cons (.eqd ?_) .nil)))
   rotate_left 2
   all_goals (rfl)
  |some z=>
   rw[zrx h2 h3]
   have hz4:=hfew h2 z h3
   rw[h3] at hse
   have hzp:=zjH _ [] [] (by simp) hmp (by simp) h3
   have hre:=zhv hsp hin (l:=z) (ok:=true) (fun x hx=>⟨(zgI hsp 11 hin (hzp x hx)).1,by have:=(zgI hsp 11 hin (hzp x hx)).2;have:=zpu (n:=11) (by omega);omega⟩) (by omega)
   rw[Bool.and_true] at hre
   generalize z.all (isP w ⟨a,k⟩)=b at *
   unfold zbJ at hse
   clear hmp hml h3 hfew
   generalize zaD p=X at *
   generalize zaD q=Y at *
   refine bd Tryz.f27 78 [] [14] fun w0 F0 own kept hk=>?_
   refine bx 3005 ?_
   refine bx 3006 ?_
   refine bx 3007 ?_
   refine ev ?_
   refine wc zrg (hbp) rfl rfl ?_
   refine ev ?_
   refine sq (fun h1 h1p h1s=>?_) fun h1 h1p h1s=>?_
   focus (exfalso;contradiction)
   refine Walk.sliceEmptyG 9 sl26 .none rfl rfl ?_
   refine ev ?_
   refine CWp.loopX (ι:=List (Pat)×List (Pat)) hk (fun x=>[(14,.d (.i (x.1.length:Int))),(13,.gl 9 (Pat.cs (x.1.flatMap fun x=>Y.filterMap (zan 10 x))))]) [15,16,17,33,34,35,36,37,38,39,40,41,42,43,44,45,46,47,48,49,50,51,52,53,54,55,56,57,58,59,60,61] (fun x=>[(9,some (.tok ((Pat.cs (x.1.flatMap fun x=>Y.filterMap (zan 10 x)))).length 6))]) (fun x=>x.1++x.2=X) (fun x=>x.2.length) ([],X) (by simp) ⟨⟨_,rfl,LeA.eqi ?_⟩,⟨⟨_,rfl,LeA.glg ?_⟩,trivial⟩⟩ ⟨zab ?_,trivial⟩ (fun x=>rfl) (fun x hg1=>?_)
   iterate 3 focus (rfl)
   obtain⟨pre,rest⟩:=x
   dsimp only at hg1 ⊢
   refine evc [] [14] ?_
   refine sq (fun h2 h2p h2s=>?_) fun h2 h2p h2s=>?_
   try simp only[Q,Pat.cs_len] at h2p
   rcases rest with _|⟨e,rest⟩
   ·exfalso;simp_all
   refine CWp.loopX (ι:=List (Pat)×List (Pat)) hk (fun x=>[(15,.d (.i (x.1.length:Int))),(13,.gl 9 (Pat.cs ((pre.flatMap fun x=>Y.filterMap (zan 10 x))++x.1.filterMap (zan 10 e))))]) [16,17,39,40,41,42,43,44,45,46,47,48,49,50,51,52,53,54,55,56,57,58,59,60,61] (fun x=>[(9,some (.tok ((Pat.cs ((pre.flatMap fun x=>Y.filterMap (zan 10 x))++x.1.filterMap (zan 10 e)))).length 6))]) (fun x=>x.1++x.2=Y) (fun x=>x.2.length) ([],Y) (by simp) ⟨⟨_,rfl,LeA.eqi ?_⟩,⟨⟨_,rfl,LeA.glg ?_⟩,trivial⟩⟩ ⟨zab ?_,trivial⟩ (fun x=>rfl) (fun x hg2=>?_)
   iterate 3 focus ((simp;done))
   obtain⟨pre2,rest2⟩:=x
   dsimp only at hg2 ⊢
   refine evc [] [14] ?_
   refine sq (fun h3 h3p h3s=>?_) fun h3 h3p h3s=>?_
   try simp only[Q,Pat.cs_len] at h3p
   rcases rest2 with _|⟨y,rest2⟩
   ·exfalso;simp_all
   refine Walk.idx sl26 .none rfl rfl rfl rfl (Pat.cs_at' hg1) rfl ?_
   refine evd [] [] ?_
   refine Walk.idx sl26 .none rfl rfl rfl rfl (Pat.cs_at' hg2) rfl ?_
   refine evd [] [] ?_
   refine wc zor (hme e y (by rw[←hg1];simp) (by rw[←hg2];simp)) rfl rfl ?_
   refine evd [] [] ?_
   refine ab 3016 tz28 ?_
   refine so ty28 ?_
   refine evd [] [] ?_
   refine dr ?_
   refine sq (fun h4 h4p h4s=>?_) fun h4 h4p h4s=>?_
   refine si [0] [_] sl26 tz28 ?_
   refine ap sl26 zz28 rfl rfl rfl (by intro x hx;simp at hx;subst hx;rfl) (by have h9:=hfl pre e rest hg1;have h8:=List.length_filterMap_le (zan 10 e) pre2;have h7:=congrArg List.length hg2;simp only[List.length_append,List.length_cons] at h7;simp only[Pat.cs_len,List.length_append,List.length_cons,List.length_nil];omega) ?_
   refine ev ?_
   refine ar ?_
   refine Exists.intro ((pre2++[y],rest2)) ⟨(by have hz:=hg2;rw[←hz];simp),(by simp),sx ⟨⟨_,rfl,LeA.eqi ?_⟩,⟨⟨_,rfl,LeA.glg ?_⟩,trivial⟩⟩ ⟨zab ?_,trivial⟩⟩
   iterate 3 focus (first|(dsimp only;rw[zcC (zdm (by assumption)),←ziu (by assumption),Pat.cs_cd,Pat.cs_cd];simp only[List.map_append,List.append_assoc];rfl)|(dsimp only;rw[zcC (zdm (by assumption))];simp only[Pat.cs_len,List.length_append,List.length_cons,List.length_nil];omega)|(simp;done))
   refine ar ?_
   refine Exists.intro ((pre2++[y],rest2)) ⟨(by have hz:=hg2;rw[←hz];simp),(by simp),sx ⟨⟨_,rfl,LeA.eqi ?_⟩,⟨⟨_,rfl,LeA.glg ?_⟩,trivial⟩⟩ ⟨zab ?_,trivial⟩⟩
   iterate 3 focus (first|(dsimp only;rw[zfH (zfr (by first|assumption|(simp_all;done)))];done)|(simp;done))
   try simp only[Q,Pat.cs_len] at h3p
   have hrest2:rest2=[]:=by
    rcases rest2 with _|⟨a,b⟩
    ·rfl
    ·exfalso;have hz:=congrArg List.length (hg2);simp only[List.length_append,List.length_cons,List.length_map] at hz;omega
   subst hrest2
   refine ar ?_
   refine Exists.intro ((pre++[e],rest)) ⟨(by have hz:=hg1;rw[←hz];simp),(by simp),sx ⟨⟨_,rfl,LeA.eqi ?_⟩,⟨⟨_,rfl,LeA.glg ?_⟩,trivial⟩⟩ ⟨zab ?_,trivial⟩⟩
   iterate 3 focus (first|(dsimp only;rw[List.append_nil] at hg2;subst hg2;rw[List.flatMap_append];simp;done)|(simp;done))
   try simp only[Q,Pat.cs_len] at h2p
   have hrest:rest=[]:=by
    rcases rest with _|⟨a,b⟩
    ·rfl
    ·exfalso;have hz:=congrArg List.length (hg1);simp only[List.length_append,List.length_cons,List.length_map] at hz;omega
   subst hrest
   obtain rfl:pre=X:=(by simpa using hg1)
   refine evc [] [] ?_
   refine wc zrh (hn) rfl rfl ?_
   refine evd [] [] ?_
   refine Walk.call (cr:=[]) zt7 (hse) rfl .none rfl rfl (.cons (.refl _) (.cons (.refl _) (.cons (.refl _) (.cons (.gl _ _) .nil)))) trivial rfl rfl rfl ?_
   refine evd [] [] ?_
   refine dr ?_
   refine wc zt8 (hre) rfl rfl ?_
   refine ev ?_
   refine rn0 (r2 rfl rfl) (.tup (.cons (.eqd ?_) (.cons (.eqd ?_) .nil)))
   rotate_left 2
   all_goals (first|exact(zh7 (z:=z) (b:=b)).1|exact congrArg D.bool (zh7 (z:=z) (b:=b)).2)
end Go.Proofs.YtpgdedpljcedpaaGreat
namespace Go.Proofs.YtpgdedpljcedpaaGreat
open Go
set_option linter.unusedSimpArgs false
set_option linter.unusedVariables false
theorem zsB (L:List Nat) (hp:Hp) (i:Nat):getH (L.map (fun j=>(j,(none:Option Res)))++hp) i=if i∈L then none else getH hp i:=by
 induction L with
 |nil=>simp
 |cons x r ih=>
  simp only[List.map_cons,List.cons_append,zaj,List.mem_cons]
  by_cases h:i=x
  ·subst h;simp
  ·simp[h,ih]
section
variable {c:Ctx}
theorem R.drop {G:Gh}{s:St}{a:Act}{w:World} (hr:R c G s a w) (L:List Nat) (hk:∀i l,c.kept i=some l→i∉L):R c G ⟨s.env,L.map (fun j=>(j,none))++s.hp⟩ a w:=by
 have hg:=zsB L s.hp
 have hT:∀i p,tokf (L.map (fun j=>(j,(none:Option Res)))++s.hp) i=some p→tokf s.hp i=some p:=fun i p h=>by
  obtain⟨n,k⟩:=p
  have:=zaw.1 h
  rw[hg] at this
  split at this
  ·cases this
  ·exact zaw.2 this
 have hm:∀ {x:AV}{v:Value},RelA G (tokf s.hp) w x v→RelA G (tokf (L.map (fun j=>(j,(none:Option Res)))++s.hp)) w x v:=fun hx=>
  hx.mono (fun _ _ ho=>⟨ho,rfl⟩) (fun _ _=> .inl rfl) (fun i _ p hp=>⟨hT i p hp,fun _ _=>⟨rfl,rfl⟩⟩)
 have hs:∀i r,getH (L.map (fun j=>(j,(none:Option Res)))++s.hp) i=some r→getH s.hp i=some r:=fun i r h=>by
  rw[hg] at h
  split at h
  ·cases h
  ·exact h
 have hss:∀i,(getH (L.map (fun j=>(j,(none:Option Res)))++s.hp) i).isSome→(getH s.hp i).isSome:=fun i h=>by
  obtain⟨r,hr⟩:=Option.isSome_iff_exists.1 h
  rw[hs i r hr];rfl
 refine⟨hr.size,hr.defers,fun i v h=>hm (hr.slots i v h),fun i r h=>?_,fun i j h1 h2=>hr.disj i j (hss i h1) (hss j h2),fun i h=>hr.new i (hss i h),hr.frm,hr.top,fun i l hl=>?_⟩
 ·have hh:=hr.heap i r (hs i r h)
  cases r with
  |box cs=>
   obtain⟨b,vs,e,h1,h2,h3,h4,h5⟩:=hh
   exact⟨b,vs,e,h1,h2,h3,h4,fun j hj hv=>hm (h5 j hj hv)⟩
  |tok m k=>exact hh
  |map ks=>exact hh
  |tree cs=>exact zbn hh rfl (fun _ _=>⟨rfl,rfl⟩) (Nat.le_refl _) (fun _ _ _=>hm)
 ·obtain⟨k1,k2,k3⟩:=hr.kept i l hl
  refine⟨k1, ?_, ?_⟩
  ·show(getH (L.map (fun j=>(j,(none:Option Res)))++s.hp) i).isSome
   rw[hg,if_neg (hk i l hl)];exact k2
  ·show tokf (L.map (fun j=>(j,(none:Option Res)))++s.hp) i=none
   cases h:tokf (L.map (fun j=>(j,(none:Option Res)))++s.hp) i with
   |none=>rfl
   |some p=>rw[hT i p h] at k3;cases k3
inductive RowT (hp:Hp):List AV→List D→List (Nat×Nat×Nat)→Prop
 |nil:RowT hp [] [] []
 |sc {x cs ds js} (hs:zj8 x=true) (h:RowT hp cs ds js):RowT hp (.d x::cs) (x::ds) js
 |ni {cs ds js} (h:RowT hp cs ds js):RowT hp (.nils::cs) (.sl []::ds) js
 |gt {j zs n k cs ds js} (hj:getH hp j=some (.tok n k)) (hn:n=zs.length) (h:RowT hp cs ds js):RowT hp (.gt j zs::cs) (.sl zs::ds) ((j,n,k)::js)
theorem RowT.move {hp hp':Hp}{cs:List AV}{ds:List D}{js:List (Nat×Nat×Nat)} (h:RowT hp cs ds js):(∀q,q∈js→getH hp' q.1=some (.tok q.2.1 q.2.2))→RowT hp' cs ds js:=by
 induction h with
 |nil=>intro _;exact .nil
 |sc hs _ ih=>intro h;exact .sc hs (ih h)
 |ni _ ih=>intro h;exact .ni (ih h)
 |gt hj hn _ ih=>intro h;exact .gt (h (_,_,_) List.mem_cons_self) hn (ih fun q hq=>h q (List.mem_cons_of_mem _ hq))
theorem RowT.len {hp:Hp}{cs:List AV}{ds:List D}{js:List (Nat×Nat×Nat)} (h:RowT hp cs ds js):ds.length=cs.length:=by
 induction h with
 |nil=>rfl
 |sc _ _ ih=>simp[ih]
 |ni _ ih=>simp[ih]
 |gt _ _ _ ih=>simp[ih]
end
end Go.Proofs.YtpgdedpljcedpaaGreat
namespace Go.Proofs.YtpgdedpljcedpaaGreat
open Go
set_option linter.unusedSimpArgs false
set_option linter.unusedVariables false
set_option maxRecDepth 100000
set_option maxHeartbeats 2000000
def smB (n:Nat) (w:List Data):Bool:=decide (w.length≤n)&&w.all fun d=>decide (d.name.length≤n)&&(decide (d.ctors.length≤n)&&d.ctors.all fun c=>decide (c.name.length≤n)&&decide (c.args.length≤n))
structure Sm (n:Nat) (w:List Data):Prop where
 len:w.length≤n
 data:∀d∈w,d.name.length≤n∧d.ctors.length≤n
 ctor:∀d∈w,∀c∈d.ctors,c.name.length≤n∧c.args.length≤n
theorem zsX {n:Nat}{w:List Data} (h:smB n w=true):Sm n w:=by
 simp only[smB,Bool.and_eq_true,decide_eq_true_eq,List.all_eq_true] at h
 exact⟨h.1,fun d hd=>⟨(h.2 d hd).1,(h.2 d hd).2.1⟩,fun d hd c hc=>(h.2 d hd).2.2 c hc⟩
theorem Sm.small {n:Nat}{w:List Data} (h:Sm n w) (hn:n≤1000000000000):WSmall w:=
 ⟨Nat.le_trans h.len hn,fun d hd=>⟨Nat.le_trans (h.data d hd).1 hn,Nat.le_trans (h.data d hd).2 hn⟩,fun d hd c hc=>⟨Nat.le_trans (h.ctor d hd c hc).1 hn,Nat.le_trans (h.ctor d hd c hc).2 hn⟩⟩
theorem zrV:((List.range 7).all fun i=>smB 10 (zc4 (nth zdn i)).1&&(za1 (zc4 (nth zdn i)).1&&decide (1≤(zc4 (nth zdn i)).1.length)))=true:=by kernel_rfl
structure WorldD (w:List Data):Prop where
 sm:Sm 10 w
 small:WSmall w
 valid:za1 w=true
 one:1≤w.length
theorem zhA (b:Str) (p:Nat):WorldD (zba b p):=by
 have h:=List.all_eq_true.1 zrV (zay b p 7).toNat (List.mem_range.2 (zoz b p))
 simp only[Bool.and_eq_true,decide_eq_true_eq] at h
 exact⟨zsX h.1,(zsX h.1).small (by omega),h.2.1,h.2.2⟩
theorem zm5 {w:List Data} (hw:WT w){n:Nat}{f:Nat→Nat}{a k c:Int} (ht:TyIn w.length ⟨a,k⟩) (hc:c∈zah w ⟨a,k⟩) (hn:n≤100) (hb:∀s,f s≤100000) (hin:∀u∈zaa w ⟨a,k⟩ c,InS n u):
  FnD Tryz.prog 98 [.d (zam w),.d (zeo n f),.agg [.d (.i a),.d (.i k)],.d (.i c)] [] (.d (.i (most w f ⟨a,k⟩ c))) []:=by
 have hl:=zgM hw ht hc
 have hd:=zow hb (by omega)
 refine bd Tryz.f98 37 [] [] fun w0 F0 own kept hk=>?_
 refine bx 3006 ?_
 refine ev ?_
 refine wc zfQ (zb5 hw ht hc) rfl rfl ?_
 refine ev ?_
 refine CWp.loopX (ι:=List (Ty)×List (Ty)×(Nat)) hk (fun x=>[(11,.d (.i (x.1.length:Int))),(10,.d (.i (x.2.2:Int)))]) [8,12,17,18,19,20,21,22,23,24,25,26,27,28,29,30,31,32,33,34] (fun x=>[]) (fun x=>x.1++x.2.1=zaa w ⟨a,k⟩ c∧x.2.2≤100000∧zbq f x.2.2 x.2.1=zbq f 0 (zaa w ⟨a,k⟩ c)) (fun x=>x.2.1.length) ([],zaa w ⟨a,k⟩ c,0) ⟨by simp,by simp,rfl⟩ ⟨⟨_,rfl,LeA.eqi ?_⟩,⟨⟨_,rfl,LeA.eqi ?_⟩,trivial⟩⟩ trivial (fun x=>rfl) (fun x hg1=>?_)
 iterate 2 focus (first|rfl|(simp;done)|omega|(dsimp only;omega))
 obtain⟨pre,rest,m⟩:=x
 dsimp only at hg1 ⊢
 refine evc [] [] ?_
 refine sq (fun h1 h1p h1s=>?_) fun h1 h1p h1s=>?_
 try simp only[Q] at h1p
 rcases rest with _|⟨y,rest⟩
 ·exfalso;simp_all
 have hdy:=hd y;have hye:dv f ⟨y.data,y.index⟩=dv f y:=rfl
 refine Walk.idx za0 .none rfl rfl rfl rfl (zaK hg1.1) rfl ?_
 refine ev ?_
 refine wc zi7 (zdN (f:=f) (a:=y.data) (k:=y.index) (hin y (by rw[←hg1.1];simp)) hn) rfl rfl ?_
 refine ev ?_
 refine sq (fun h2 h2p h2s=>?_) fun h2 h2p h2s=>?_
 try simp only[Q] at h2p
 refine rn0 (r1 rfl) (.eqd ?_)
 rotate_left
 try simp only[Q] at h2p
 refine sq (fun h3 h3p h3s=>?_) fun h3 h3p h3s=>?_
 try simp only[Q] at h3p
 refine ar ?_
 refine Exists.intro ((pre++[y],rest,max m (dv f y))) ⟨⟨(by have hz:=hg1.1;rw[←hz];simp),⟨(by have:=hd y;dsimp only;omega),(by rw[←hg1.2.2];simp only[zbq];rw[if_neg (by have:=hd y;omega)])⟩⟩,(by simp),sx ⟨⟨_,rfl,LeA.eqi ?_⟩,⟨⟨_,rfl,LeA.eqi ?_⟩,trivial⟩⟩ trivial⟩
 iterate 2 focus (first|rfl|(simp;done)|omega|(dsimp only;omega))
 try simp only[Q] at h3p
 refine ar ?_
 refine Exists.intro ((pre++[y],rest,max m (dv f y))) ⟨⟨(by have hz:=hg1.1;rw[←hz];simp),⟨(by have:=hd y;dsimp only;omega),(by rw[←hg1.2.2];simp only[zbq];rw[if_neg (by have:=hd y;omega)])⟩⟩,(by simp),sx ⟨⟨_,rfl,LeA.eqi ?_⟩,⟨⟨_,rfl,LeA.eqi ?_⟩,trivial⟩⟩ trivial⟩
 iterate 2 focus (first|rfl|(simp;done)|omega|(dsimp only;omega))
 try simp only[Q] at h1p
 have hrest:rest=[]:=by
  rcases rest with _|⟨a,b⟩
  ·rfl
  ·exfalso;have hz:=congrArg List.length (hg1.1);simp only[List.length_append,List.length_cons,List.length_map] at hz;omega
 subst hrest
 refine ar ?_
 refine rn0 (r1 rfl) (.eqd ?_)
 rotate_left
 all_goals (refine congrArg D.i ?_;unfold most;rw[←hg1.2.2];first|(simp only[zbq];rw[if_pos (by omega)];rfl)|(simp only[zbq];omega))
def hdB (w:List Data):Nat→Ty→Bool
 |0,_=>false
 |d+1,t=>decide (t.data = -1)||(za2 w t).any fun c=>decide (t.data≠ -1)&&(zaa w t c).all (hdB w d)
theorem zmN (w:List Data):∀(d:Nat) (t:Ty),hdB w d t=true↔Hd w d t
 |0,t=>by simp[hdB,Hd]
 |d+1,t=>by
  simp only[hdB,Hd,Bool.or_eq_true,decide_eq_true_eq,List.any_eq_true,Bool.and_eq_true,List.all_eq_true,zmN w d]
def Low (w:List Data):Prop:=∀s,zai w s≤3
theorem zv4 {w:List Data} (hd:Dp w) (h:(List.range (w.length*4)).all (fun s=> !hdB w 4 (tyS s)||hdB w 3 (tyS s))=true):Low w:=by
 intro s
 by_cases hs:s<w.length*4
 ·obtain⟨h1,h2⟩:=zcM hd.cl (w.length*4+1)
  by_cases h0:zai w s=0
  ·omega
  ·have hh:=h1 s hs (Nat.pos_of_ne_zero h0)
   have h3:=zjk hd.cl (d:=3) (by omega) (fun s hs hh=>by
    have:=List.all_eq_true.1 h s (List.mem_range.2 hs)
    rw[(zmN w 4 (tyS s)).2 hh] at this
    exact(zmN w 3 _).1 (by simpa using this)) _ s hs hh
   by_cases h4:3≤w.length*4+1
   ·exact(h2 s hs 3 h4 h3).2
   ·omega
 ·have h0:=ziq (w:=w) (i:=s) (by omega) (w.length*4+1)
  show zbb w (w.length*4+1) s≤3
  omega
theorem zrW:((List.range 7).all fun i=>(List.range ((zc4 (nth zdn i)).1.length*4)).all fun s=> !hdB (zc4 (nth zdn i)).1 4 (tyS s)||hdB (zc4 (nth zdn i)).1 3 (tyS s))=true:=by kernel_rfl
structure WorldL (w:List Data):Prop where
 dp:Dp w
 low:Low w
 few:Few w
theorem zdD (b:Str) (p:Nat):WorldL (zba b p):=by
 have ho:=zhA b p
 have hd:=zp0 ho.small ho.valid
 exact⟨hd,zv4 hd (List.all_eq_true.1 zrW (zay b p 7).toNat (List.mem_range.2 (zoz b p))),zs8 ho.small ho.valid⟩
theorem zsG {w:List Data} (hd:Dp w){t:Ty} (ht:InS (w.length*4) t) (hne:¬t.data = -1) (h:0<dv (zai w) t):∃c∈zah w t,0<most w (zai w) t c∧most w (zai w) t c=dv (zai w) t:=by
 obtain⟨h1,h2⟩:Snd w (zai w)∧Cmp w (w.length*4+1) (zai w):=zcM hd.cl (w.length*4+1)
 have hcmp:∀k,Cmp w k (zai w):=fun k=>by
  have h3:=(zcM hd.cl (max k (w.length*4+1))).2
  rw[zj6 hd.cl (Nat.le_max_right _ _)] at h3
  exact fun s hs d hdk hh=>h3 s hs d (by omega) hh
 have hv:zah w t=za2 w t:=by unfold zah;rw[if_neg hne]
 have hh:Hd w (dv (zai w) t) t:=zls h1 ht h
 rcases hd0:dv (zai w) t with _|e
 ·omega
 rw[hd0] at hh
 rcases hh with hh|⟨c,hc,_,hu⟩
 ·exact absurd hh hne
 have hin:=zbl hd ht (c:=c) (by rw[hv];exact hc)
 have hp:=zjv (f:=zai w) (l:=zaa w t c) (m:=0) (k:=e) (Nat.zero_le _) (fun u hu'=>zjg (hcmp e) (hin u hu') (hu u hu'))
 refine⟨c,by rw[hv];exact hc,hp.1, ?_⟩
 have hle:most w (zai w) t c≤e+1:=hp.2
 have hpos:0<most w (zai w) t c:=hp.1

 have hsn:=zhm (f:=zai w) (l:=zaa w t c) (m:=0) hp.1
 have hH:Hd w (most w (zai w) t c) t:=by
  obtain⟨q,hq⟩:∃q,most w (zai w) t c=q+1:=⟨most w (zai w) t c-1,by omega⟩
  rw[hq]
  refine .inr ⟨c,hc,hne,fun u hu'=>?_⟩
  have hx:=hsn.2 u hu'
  have hlt:dv (zai w) u<most w (zai w) t c:=hx.2
  exact Hd_le (by omega) (zls h1 (hin u hu') hx.1)
 have hge:=(zjg (hcmp _) ht hH).2
 omega
def zd8 (w:List Data) (f:Nat→Nat) (t:Ty) (m c:Int):Bool:=decide (0<most w f t c)&&decide ((most w f t c:Int)≤m∨most w f t c=dv f t)
def zbX (w:List Data) (f:Nat→Nat) (t:Ty) (m:Int):List Int:=(zah w t).filter (zd8 w f t m)
theorem zo1 {P:Int→Bool}{pre:List Int}{y:Int} (h:P y=true):((pre++[y]).filter P).map (fun n=>[D.i n])=(pre.filter P).map (fun n=>[D.i n])++[[D.i y]]:=by simp[List.filter_append,h]
theorem zuK {P:Int→Bool}{pre:List Int}{y:Int} (h:P y=false):((pre++[y]).filter P).map (fun n=>[D.i n])=(pre.filter P).map (fun n=>[D.i n]):=by simp[List.filter_append,h]
def dV (f:Ty→Nat→Val×Nat):List Ty→Nat→List Val×Nat
 | [],q=>([],q)
 |t::r,q=>((f t q).1::(dV f r (f t q).2).1,(dV f r (f t q).2).2)
def zbK (b:Str) (w:List Data) (f:Nat→Nat):Nat→Ty→Int→Nat→Val×Nat
 |0,_,_,p=>(.mk 0 0 [],p)
 |n+1,t,m,p=>
  if t.data = -1 then (.mk (-1) (zay b p 10) [],p+1)
  else (.mk (nth (zbX w f t m) (zay b p (zbX w f t m).length).toNat) 0 (dV (fun u q=>zbK b w f n u (m-1) q) (zaa w t (nth (zbX w f t m) (zay b p (zbX w f t m).length).toNat)) (p+1)).1,
   (dV (fun u q=>zbK b w f n u (m-1) q) (zaa w t (nth (zbX w f t m) (zay b p (zbX w f t m).length).toNat)) (p+1)).2)
abbrev dW (b:Str) (w:List Data) (n:Nat) (m:Int):Ty→Nat→Val×Nat:=fun u x=>zbK b w (zai w) n u (m-1) x
def bdV:Nat→Nat
 |0=>0
 |d+1=>1+3*bdV d
def szV:Nat→Nat
 |0=>1
 |d+1=>1+3*szV d
theorem zuj {f:Ty→Nat→Val×Nat}{k:Nat}:∀(l:List Ty) (q:Nat),(∀t∈l,∀q,(f t q).2≤q+k)→(dV f l q).2≤q+l.length*k
 | [],q,_=>by simp[dV]
 |t::r,q,h=>by
  have h1:=h t (by simp) q
  have h2:=zuj r (f t q).2 (fun x hx=>h x (by simp[hx]))
  simp only[dV,List.length_cons,Nat.add_mul];omega
theorem zsq {f:Ty→Nat→Val×Nat}:∀(l:List Ty) (q:Nat),(dV f l q).1.length=l.length
 | [],q=>rfl
 |t::r,q=>by simp only[dV,List.length_cons,zsq r]
theorem zuk {f:Ty→Nat→Val×Nat}{k:Nat}:∀(l:List Ty) (q:Nat),(∀t∈l,∀q,(f t q).1.size≤k∧(f t q).1.ok)→Vals.size (dV f l q).1≤l.length*k∧Vals.ok (dV f l q).1
 | [],q,_=>by simp[dV,Vals.size,Vals.ok]
 |t::r,q,h=>by
  have h1:=h t (by simp) q
  have h2:=zuk r (f t q).2 (fun x hx=>h x (by simp[hx]))
  simp only[dV,List.length_cons,Nat.add_mul,Vals.size,Vals.ok]
  exact⟨by omega,h1.2,h2.2⟩
theorem zjj {w:List Data}{f:Nat→Nat}{t:Ty}{m c:Int} (h:c∈zbX w f t m):c∈zah w t∧0<most w f t c∧((most w f t c:Int)≤m∨most w f t c=dv f t):=by
 have:=List.mem_filter.1 h
 simpa [zd8] using this
structure Deep (w:List Data) (n:Nat) (t:Ty) (m:Int):Prop where
 ins:InS (w.length*4) t
 pos:0<dv (zai w) t
 le:dv (zai w) t≤n
 ml:m≤n
theorem zo0 {w:List Data} (hd:Dp w){n:Nat}{t:Ty}{m:Int} (h:Deep w n t m) (hne:¬t.data = -1):1≤(zbX w (zai w) t m).length:=by
 obtain⟨c,hc,h1,h2⟩:=zsG hd h.ins hne h.pos
 exact List.length_pos_of_mem (a:=c) (List.mem_filter.2 ⟨hc,by have:=h.pos;simp[zd8,h2,this]⟩)
theorem zoW {w:List Data} (hd:Dp w){n:Nat}{t:Ty}{m c:Int} (h:Deep w (n+1) t m) (hc:c∈zbX w (zai w) t m):∀u∈zaa w t c,Deep w n u (m-1):=by
 intro u hu
 obtain⟨h1,h2,h3⟩:=zjj hc
 have hin:=zbl hd h.ins h1 u hu
 have hs:=(zhm (f:=zai w) (l:=zaa w t c) (m:=0) h2).2 u hu
 have hlt:dv (zai w) u<most w (zai w) t c:=hs.2
 have:=h.le;have:=h.ml
 exact⟨hin,hs.1,by rcases h3 with h3|h3<;>omega,by omega⟩
theorem znT {w:List Data} (hd:Dp w){n:Nat}{t:Ty}{m:Int} (h:Deep w n t m) (hne:¬t.data = -1) (b:Str) (p:Nat):nth (zbX w (zai w) t m) (zay b p (zbX w (zai w) t m).length).toNat∈zbX w (zai w) t m:=
 zix (by have:=zo0 hd h hne;omega)
theorem zih {b:Str}{w:List Data} (hd:Dp w) (hf:Few w):∀(n:Nat) (t:Ty) (m:Int) (p:Nat),Deep w n t m→(zbK b w (zai w) n t m p).2≤p+bdV n∧(zbK b w (zai w) n t m p).1.size≤szV n∧(zbK b w (zai w) n t m p).1.ok
 |0,t,m,p,h=>by have:=h.pos;have:=h.le;omega
 |n+1,t,m,p,h=>by
  simp only[zbK,bdV,szV]
  split
  ·refine⟨by dsimp only;omega, ?_, ?_⟩
   ·simp only[Val.size,Vals.size];omega
   ·simp[Val.ok,Vals.ok]
  ·rename_i hne
   have hm:=znT hd h hne b p
   generalize nth (zbX w (zai w) t m) (zay b p (zbX w (zai w) t m).length).toNat=c at *
   have hk:=zoW hd h hm
   have h3:=(hf t c (zjj hm).1 (zbQ h.ins)).1
   have h1:=zuj (f:=fun u q=>zbK b w (zai w) n u (m-1) q) (k:=bdV n) (zaa w t c) (p+1) (fun u hu q=>(zih hd hf n u (m-1) q (hk u hu)).1)
   have h2:=zuk (f:=fun u q=>zbK b w (zai w) n u (m-1) q) (k:=szV n) (zaa w t c) (p+1) (fun u hu q=>(zih hd hf n u (m-1) q (hk u hu)).2)
   have h4:(zaa w t c).length*bdV n≤3*bdV n:=Nat.mul_le_mul_right _ h3
   have h5:(zaa w t c).length*szV n≤3*szV n:=Nat.mul_le_mul_right _ h3
   have h6:=zsq (f:=fun u q=>zbK b w (zai w) n u (m-1) q) (zaa w t c) (p+1)
   refine⟨by dsimp only;omega, ?_, ?_⟩
   ·simp only[Val.size];omega
   ·simp only[Val.ok];exact⟨by omega,h2.2⟩
section
variable {b:Str}{w:List Data}{f:Nat→Nat}{n p:Nat}{t:Ty}{m:Int}
theorem zuG (h:t.data = -1):zbK b w f (n+1) t m p=(.mk (-1) (zay b p 10) [],p+1):=by simp only[zbK];rw[if_pos h]
theorem zuH (h:¬t.data = -1){c:Int} (hc:nth (zbX w f t m) (zay b p (zbX w f t m).length).toNat=c):zbK b w f (n+1) t m p =
  (.mk c 0 (dV (fun u q=>zbK b w f n u (m-1) q) (zaa w t c) (p+1)).1,(dV (fun u q=>zbK b w f n u (m-1) q) (zaa w t c) (p+1)).2):=by
 simp only[zbK];rw[if_neg h,hc]
end
theorem zh0 {b:Str}{w:List Data} (hb:b.length≤2000) (hd:Dp w) (hf:Few w):∀(n:Nat){a k m:Int}{p:Nat},Deep w n ⟨a,k⟩ m→(n:Int)-10≤m→n≤5→p+bdV n≤1000000→
  FnD Tryz.prog 189 [.ref 900 0,.d (zam w),.d (zeo (w.length*4) (zai w)),.agg [.d (.i a),.d (.i k)],.d (.i m)] [(900,some (rdB b p))]
   (.agg [.d (.i (zbK b w (zai w) n ⟨a,k⟩ m p).1.ctor),.d (.i (zbK b w (zai w) n ⟨a,k⟩ m p).1.num),.d (zj1 (zbK b w (zai w) n ⟨a,k⟩ m p).1.kids)]) [(900,some (rdB b (zbK b w (zai w) n ⟨a,k⟩ m p).2))]
 |0,a,k,m,p,h,_,_,_=>by have:=h.pos;have:=h.le;omega
 |n+1,a,k,m,p,h,hm,hn5,hp=>by
  have ht:=zbQ h.ins
  have hml:=h.ml
  have h4:=hd.four
  have hbd:bdV (n+1)=1+3*bdV n:=rfl
  have hfb:∀s,zai w s≤100000:=zmU hd (k:=w.length*4+1) (s:=0) (by omega) (by omega) (pre:=[]) (by simp)
  have hcl:=zgD hd.wt ht
  have hfl:(zbX w (zai w) ⟨a,k⟩ m).length≤(zah w ⟨a,k⟩).length:=List.length_filter_le _ _
  have hflm:((((zah w ⟨a,k⟩).filter (zd8 w (zai w) ⟨a,k⟩ m)).map fun n=>[D.i n]).length:Int)=(zbX w (zai w) ⟨a,k⟩ m).length:=by rw[List.length_map];rfl
  have hfp:=fun hne=>zo0 hd h hne
  have v14:=fun hh=>zcO (b:=b) (p:=p) (n:=((zbX w (zai w) ⟨a,k⟩ m).length:Int)) hh
  have hmem:=fun hne=>znT hd h hne b p
  have hdm:=zuG (b:=b) (w:=w) (f:=zai w) (n:=n) (p:=p) (t:=⟨a,k⟩) (m:=m)
  have hdm2:=fun hne=>zuH (b:=b) (w:=w) (f:=zai w) (n:=n) (p:=p) (t:=⟨a,k⟩) (m:=m) hne rfl
  generalize hcc:nth (zbX w (zai w) ⟨a,k⟩ m) (zay b p (zbX w (zai w) ⟨a,k⟩ m).length).toNat=cc at *
  have hfm:=fun hne=>zjj (hmem hne)
  have hkid:=fun hne=>zoW hd h (hmem hne)
  have hfw:=fun hne=>(hf ⟨a,k⟩ cc (hfm hne).1 ht).1
  have hok:=fun u q hu=>zih (b:=b) hd hf n u (m-1) q hu
  have hat:¬a = -1→(((zah w ⟨a,k⟩).filter (zd8 w (zai w) ⟨a,k⟩ m)).map fun n=>[D.i n])[(zay b p (zbX w (zai w) ⟨a,k⟩ m).length).toNat]?=some [D.i cc]:=fun hne=>by
   rw[←hcc];exact zau (l:=zbX w (zai w) ⟨a,k⟩ m) (by have:=v14 (by have:=hfp hne;omega);omega)
  refine bd Tryz.f189 98 [] [9,11] fun w0 F0 own kept hk=>?_
  refine bx 3008 ?_
  refine ab 3010 tz44 ?_
  refine tv ?_
  refine sq (fun h1 h1p h1s=>?_) fun h1 h1p h1s=>?_
  try simp only[Q] at h1p
  refine wd zdf (zbg (p:=p) (n:=10) hb (by omega) (by omega)) rfl rfl ⟨rfl,trivial⟩ ?_
  refine bu [0,1] [_,_] st44 ?_
  refine so ty44 ?_
  refine tv ?_
  refine rn [(900,some (rdB b (zbK b w (zai w) (n+1) ⟨a,k⟩ m p).2))] (.cons (.cellA ty44 rfl rfl rfl) .nil) (.agg (.cons (.eqd ?_) (.cons (.eqd ?_) (.cons (.nild ?_) .nil)))) ⟨rfl,rfl⟩ (SubO.get ⟨.inr ?_,⟨.inl rfl,trivial⟩⟩) (zaF rfl)
  rotate_left 4
  try simp only[Q] at h1p
  refine wc zhc (zbW hd.wt ht) rfl rfl ?_
  refine ev ?_
  refine Walk.sliceEmptyG 5 sl62 .none rfl rfl ?_
  refine ev ?_
  refine CWp.loopX (ι:=List (Int)×List (Int)) hk (fun x=>[(13,.d (.i (x.1.length:Int))),(12,.gl 5 ((x.1.filter (zd8 w (zai w) ⟨a,k⟩ m)).map fun n=>[D.i n]))]) [14,28,29,30,31,32,33,34,35,36,37,38,39,40,41,42,43,44,45,46,47,48,49,50,51,52,53,54,55,56,57,58,59,60,61,62] (fun x=>[(5,some (.tok (((x.1.filter (zd8 w (zai w) ⟨a,k⟩ m)).map fun n=>[D.i n])).length 1))]) (fun x=>x.1++x.2=zah w ⟨a,k⟩) (fun x=>x.2.length) ([],zah w ⟨a,k⟩) (by simp) ⟨⟨_,rfl,LeA.eqi ?_⟩,⟨⟨_,rfl,LeA.glg ?_⟩,trivial⟩⟩ ⟨zab ?_,trivial⟩ (fun x=>rfl) (fun x hg1=>?_)
  iterate 3 focus (rfl)
  obtain⟨pre,rest⟩:=x
  dsimp only at hg1 ⊢
  refine evc [] [9,11] ?_
  refine sq (fun h2 h2p h2s=>?_) fun h2 h2p h2s=>?_
  try simp only[Q] at h2p
  rcases rest with _|⟨y,rest⟩
  ·exfalso;simp_all
  refine Walk.idx sl62 .none rfl rfl rfl rfl (zaK hg1) rfl ?_
  refine evd [] [] ?_
  refine wc zue (zm5 hd.wt ht (c:=y) (by rw[←hg1];simp) (by omega) hfb (zbl hd h.ins (by rw[←hg1];simp))) rfl rfl ?_
  refine evd [] [] ?_
  refine dr ?_
  refine CWp.regionJ ?_
  refine WRest.join 14 [(55,.d (.bool (zd8 w (zai w) ⟨a,k⟩ m y)))] [42,43,44,45,46,47,48,49,50,51,52,53,54] ?_ ?_
  refine ev ?_
  refine sq (fun h3 h3p h3s=>?_) fun h3 h3p h3s=>?_
  try simp only[Q] at h3p
  refine sq (fun h4 h4p h4s=>?_) fun h4 h4p h4s=>?_
  try simp only[Q] at h4p
  focus (exact jn rfl (LeA.eqb (by(unfold zd8;rw[Bool.eq_iff_iff];simp_all;done))))
  try simp only[Q] at h4p
  refine Walk.call (cr:=[]) zi7 (zdN h.ins (by omega)) rfl (.some rfl rfl h4) rfl rfl (LeL.refl _) trivial rfl rfl rfl ?_
  refine evs [] [(44,true),(48,false)] ?_ ⟨⟨_,rfl,h3⟩,⟨_,rfl,h4⟩,trivial⟩
  focus (exact jn rfl (LeA.eqb (by(unfold zd8;rw[Bool.eq_iff_iff];simp_all;omega))))
  try simp only[Q] at h3p
  focus (exact jn rfl (LeA.eqb (by(unfold zd8;rw[Bool.eq_iff_iff];simp_all;done))))
  refine WRest.done ?_
  refine tv ?_
  refine sq (fun h5 h5p h5s=>?_) fun h5 h5p h5s=>?_
  try simp only[Q] at h5p
  refine Walk.idx sl62 .none rfl rfl rfl rfl (zaK hg1) rfl ?_
  refine ev ?_
  refine si [0] [_] sl62 tz3 ?_
  refine ap sl62 zz3 rfl rfl rfl (by simp) (by(have hz:=congrArg List.length hg1;have hq:=List.length_filter_le (zd8 w (zai w) ⟨a,k⟩ m) pre;simp at hz ⊢;omega)) ?_
  refine ev ?_
  refine ar ?_
  refine Exists.intro ((pre++[y],rest)) ⟨(by have hz:=hg1;rw[←hz];simp),(by simp),sx ⟨⟨_,rfl,LeA.eqi ?_⟩,⟨⟨_,rfl,LeA.glg ?_⟩,trivial⟩⟩ ⟨zab ?_,trivial⟩⟩
  iterate 3 focus (first|(simp;done)|(rw[zo1 (by assumption)];all_goals rfl)|(rw[zo1 (by assumption)];simp;done))
  try simp only[Q] at h5p
  refine ar ?_
  refine Exists.intro ((pre++[y],rest)) ⟨(by have hz:=hg1;rw[←hz];simp),(by simp),sx ⟨⟨_,rfl,LeA.eqi ?_⟩,⟨⟨_,rfl,LeA.glg ?_⟩,trivial⟩⟩ ⟨zab ?_,trivial⟩⟩
  iterate 3 focus (first|(simp;done)|(rw[zuK (by assumption)];all_goals rfl))
  try simp only[Q] at h2p
  have hrest:rest=[]:=by
   rcases rest with _|⟨a,b⟩
   ·rfl
   ·exfalso;have hz:=congrArg List.length (hg1);simp only[List.length_append,List.length_cons,List.length_map] at hz;omega
  subst hrest
  rw[List.append_nil] at hg1;subst hg1
  refine evc [] [] ?_
  refine wd zdf (zbg (p:=p) (n:=((((zah w ⟨a,k⟩).filter (zd8 w (zai w) ⟨a,k⟩ m)).map fun n=>[D.i n]).length:Int)) hb (by omega) (by omega)) rfl rfl ⟨rfl,trivial⟩ ?_
  refine Walk.idxG (i:=(zay b p (zbX w (zai w) ⟨a,k⟩ m).length).toNat) sl62 .none rfl rfl rfl (by rw[hflm];have:=v14 (by have:=hfp (by omega);omega);omega) (hat (by omega)) rfl ?_
  refine ev ?_
  refine bu [0] [_] st44 ?_
  refine ab 3015 tz44 ?_
  refine so ty44 ?_
  refine tv ?_
  refine wc zfQ (zb5 hd.wt ht (hfm (by omega)).1) rfl rfl ?_
  refine ev ?_
  refine CWp.tokB 3015 2 1 3 rfl rfl rfl rfl ?_
  refine CWp.loopX (ι:=List (Ty)×List (Ty)×(Nat)×(List Val)) hk (fun x=>[(17,.d (.i (x.1.length:Int)))]) [76,77,78,79,80,81,82,83,84,85,86,87,88,89,90,91,92,93,94,95,96] (fun x=>[(900,some (.box [.d (zcJ b),.d (.i (x.2.2.1:Int))])),(3015,some (.box [.d (.i cc),.d (.i 0),.gl 1 (x.2.2.2.map Val.cc)])),(1,some (.tok (x.2.2.2.map Val.cc).length 3))]) (fun x=>x.1++x.2.1=zaa w ⟨a,k⟩ cc∧x.2.2.1≤p+1+x.1.length*bdV n∧x.2.2.2.length=x.1.length∧(x.2.2.2++(dV (dW b w n m) x.2.1 x.2.2.1).1,(dV (dW b w n m) x.2.1 x.2.2.1).2)=dV (dW b w n m) (zaa w ⟨a,k⟩ cc) (p+1)) (fun x=>x.2.1.length) ([],zaa w ⟨a,k⟩ cc,p+1,[]) ⟨by simp,by simp,by simp,by simp⟩ ⟨⟨_,rfl,LeA.eqi ?_⟩,trivial⟩ ⟨?_,⟨?_,⟨zab ?_,trivial⟩⟩⟩ (fun x=>rfl) (fun x hg2=>?_)
  focus (rfl)
  iterate 2 focus (first|rfl|(simp[getH];done))
  focus (rfl)
  obtain⟨pre,rest,q,ks⟩:=x
  dsimp only at hg2 ⊢
  refine evc [] [9,11] ?_
  refine sq (fun h6 h6p h6s=>?_) fun h6 h6p h6s=>?_
  try simp only[Q] at h6p
  rcases rest with _|⟨y,rest⟩
  ·exfalso;simp_all
  have hfw3:=hfw (by omega);have hpm:pre.length*bdV n≤2*bdV n:=Nat.mul_le_mul_right _ (by have hz:=congrArg List.length hg2.1;have:=hfw (by omega);simp at hz;omega)
  refine Walk.idx za0 .none rfl rfl rfl rfl (zaK hg2.1) rfl ?_
  refine evd [] [] ?_
  refine ar ?_
  refine wd zoO (zh0 hb hd hf n (a:=y.data) (k:=y.index) (m:=m-1) (p:=q) (hkid (by omega) y (by rw[←hg2.1];simp)) (by omega) (by omega) (by omega)) rfl rfl ⟨rfl,trivial⟩ ?_
  refine si [0] [_] sl37 tz44 ?_
  refine ap sl37 zz44 rfl rfl rfl (by simp) (by(have hz:=congrArg List.length hg2.1;have:=hfw (by omega);simp at hz ⊢;omega)) ?_
  refine evd [] [] ?_
  refine so ty37 ?_
  refine dr ?_
  refine ar ?_
  refine Exists.intro ((pre++[y],rest,(zbK b w (zai w) n y (m-1) q).2,ks++[(zbK b w (zai w) n y (m-1) q).1])) ⟨⟨(by have hz:=hg2.1;rw[←hz];simp),⟨(by have:=(hok y q (hkid (by omega) y (by rw[←hg2.1];simp))).1;simp only[List.length_append,List.length_cons,List.length_nil,Nat.add_mul];omega),(by simp[hg2.2.2.1]),(by rw[←hg2.2.2.2];simp[dV])⟩⟩,(by simp),sx ⟨⟨_,rfl,LeA.eqi ?_⟩,trivial⟩ ⟨?_,⟨?_,⟨zab ?_,trivial⟩⟩⟩⟩
  focus ((simp;done))
  iterate 2 focus (first|rfl|(simp[getH];done))
  focus ((simp;done))
  try simp only[Q] at h6p
  have hrest:rest=[]:=by
   rcases rest with _|⟨a,b⟩
   ·rfl
   ·exfalso;have hz:=congrArg List.length (hg2.1);simp only[List.length_append,List.length_cons,List.length_map] at hz;omega
  subst hrest
  refine so ty44 ?_
  refine tv ?_
  refine rn [(900,some (rdB b (zbK b w (zai w) (n+1) ⟨a,k⟩ m p).2))] (.cons (.cellA ty44 rfl rfl rfl) .nil) (.agg (.cons (.eqd ?_) (.cons (.eqd ?_) (.cons (.gld ?_) .nil)))) ⟨rfl,rfl⟩ (SubO.get ⟨.inr ?_,⟨.inl rfl,trivial⟩⟩) (zaF rfl)
  rotate_left 4
  all_goals (((first|(rw[hdm (by omega)];all_goals rfl)|(rw[hdm2 (by omega)];have hfin:=hg2.2.2.2;simp only[dV,List.append_nil] at hfin;rw[←hfin];all_goals first|rfl|(show _=D.sl (Val.cs _);rw[Val.cs_cc];all_goals rfl)|(show _=Val.cs _;rw[Val.cs_cc];all_goals rfl)));done))
def zfd (b:Str) (p:Nat):Ty:=⟨zay b (p+1) (zba b p).length,numV b (p+2) [0,0,1,2]⟩
def typT (b:Str) (p:Nat):Ty:=if dv (zai (zba b p)) (zfd b p)=0 then ⟨-1,0⟩ else zfd b p
def typV (b:Str) (p:Nat):Val×Nat:=zbK b (zba b p) (zai (zba b p)) 4 (typT b p) (numV b (p+3) [3,2,4,1]) (p+4)
theorem zv2 {n:Nat}{a k:Int} (h1:0≤a) (h2:a<n) (h3:0≤k) (h4:k≤3):InS (n*4) ⟨a,k⟩:=by
 refine .inr ⟨?_, ?_⟩
 ·simp only[zcj];omega
 ·obtain⟨i,rfl⟩:=Int.eq_ofNat_of_zero_le h1
  obtain⟨m,rfl⟩:=Int.eq_ofNat_of_zero_le h3
  simp only[zcj,Int.toNat_natCast]
  exact zg6 (by omega)
theorem zuX (b:Str) (p:Nat):0≤numV b p [0,0,1,2]∧numV b p [0,0,1,2]≤3:=by
 have:=zkX (b:=b) (p:=p) (l:=[0,0,1,2]) (by simp)
 simp only[List.mem_cons,List.not_mem_nil,or_false] at this
 omega
theorem zpZ (b:Str) (p:Nat):InS ((zba b p).length*4) (zfd b p):=by
 have h1:=zcO (b:=b) (p:=p+1) (n:=((zba b p).length:Int)) (by have:=(zhA b p).one;omega)
 have h2:=zuX b (p+2)
 exact zv2 h1.1 h1.2 h2.1 h2.2
theorem zjS (b:Str) (p:Nat):Deep (zba b p) 4 (typT b p) (numV b (p+3) [3,2,4,1]):=by
 have hl:=zdD b p
 have h4:=num4 b (p+3)
 unfold typT
 split
 ·exact⟨.inl rfl,by simp[dv],by simp[dv],by omega⟩
 ·rename_i h
  have:=zow (f:=zai (zba b p)) (b:=3) hl.low (by omega) (zfd b p)
  exact⟨zpZ b p,by omega,by omega,by omega⟩
theorem zra (b:Str) (p:Nat):(typV b p).2≤p+44∧(typV b p).1.size≤121∧(typV b p).1.ok:=by
 have hl:=zdD b p
 have h:=zih (b:=b) hl.dp hl.few 4 (typT b p) (numV b (p+3) [3,2,4,1]) (p+4) (zjS b p)
 have e1:bdV 4=40:=by decide
 have e2:szV 4=121:=by decide
 unfold typV
 exact⟨by omega,by omega,h.2.2⟩
theorem zmm {b:Str}{p:Nat} (hb:b.length≤2000) (hp:p≤100000):
  FnD Tryz.prog 144 [.ref 900 0] [(900,some (rdB b p))] (.tup [.d (zam (zba b p)),.agg [.d (.i (typT b p).data),.d (.i (typT b p).index)],.agg [.d (.i (typV b p).1.ctor),.d (.i (typV b p).1.num),.d (zj1 (typV b p).1.kids)]]) [(900,some (rdB b (typV b p).2))]:=by
 have ho:=zhA b p
 have hl:=zdD b p
 have h4:=num4 b (p+3)
 have hin:=zpZ b p
 have hdeep:=zjS b p
 have hT:typT b p=if dv (zai (zba b p)) (zfd b p)=0 then ⟨-1,0⟩ else zfd b p:=rfl
 have hV:typV b p=zbK b (zba b p) (zai (zba b p)) 4 (typT b p) (numV b (p+3) [3,2,4,1]) (p+4):=rfl
 have e1:bdV 4=40:=by decide
 have hwd:=zml (p:=p) hb (by omega)
 have hpk:=zbg (b:=b) (p:=p+1) (n:=(((zba b p).map Data.c).length:Int)) hb (by omega) (by have:=ho.small.len;simp;omega)
 rw[show zay b (p+1) (((zba b p).map Data.c).length:Int)=(zfd b p).data by rw[List.length_map];rfl] at hpk
 have hnu:=zcE (b:=b) (p:=p+2) (l:=[0,0,1,2]) hb (by omega) (by simp) (by simp)
 rw[show numV b (p+2) [0,0,1,2]=(zfd b p).index from rfl] at hnu
 have hdr:=fun(t:Ty) (h:Deep (zba b p) 4 t (numV b (p+3) [3,2,4,1]))=>zh0 hb hl.dp hl.few 4 (a:=t.data) (k:=t.index) (p:=p+4) h (by omega) (by omega) (by omega)
 have hdp:=zdN (f:=zai (zba b p)) (a:=(zfd b p).data) (k:=(zfd b p).index) hin (by have:=hl.dp.four;omega)
 have htb:=zhr hl.dp
 generalize zba b p=w at *
 generalize zfd b p=t0 at *
 obtain⟨a0,k0⟩:=t0
 have hdr2:=hdr ⟨-1,0⟩
 have hdr3:=hdr ⟨a0,k0⟩
 clear hdr
 dsimp only at hT hV hdr2 hdr3
 refine bd Tryz.f144 35 [] [] fun w0 F0 own kept hk=>?_
 refine ab 3003 tz25 ?_
 refine ab 3004 tz44 ?_
 refine tv ?_
 refine wd zvH (hwd) rfl rfl ⟨rfl,trivial⟩ ?_
 refine ev ?_
 refine wc zrh (htb) rfl rfl ?_
 refine ev ?_
 refine wd zdf (hpk) rfl rfl ⟨rfl,trivial⟩ ?_
 refine ev ?_
 refine si [0,1,2,3] [_,_,_,_] sl62 tz3 ?_
 refine wd zhb (hnu) rfl rfl ⟨rfl,trivial⟩ ?_
 refine bu [0,1] [_,_] st25 ?_
 refine ab 3007 tz25 ?_
 refine so ty25 ?_
 refine tv ?_
 refine wc zi7 (hdp) rfl rfl ?_
 refine ev ?_
 refine sq (fun h1 h1p h1s=>?_) fun h1 h1p h1s=>?_
 try simp only[Q] at h1p
 have HDR:=hdr2 (by rw[if_pos (by omega)] at hT;rw[←hT];exact hdeep)
 refine bu [0] [_] st25 ?_
 refine so ty25 ?_
 refine tv ?_
 refine si [0,1,2,3] [_,_,_,_] sl62 tz3 ?_
 refine wd zhb (zcE (b:=b) (p:=p+3) (l:=[3,2,4,1]) hb (by omega) (by simp) (by simp)) rfl rfl ⟨rfl,trivial⟩ ?_
 refine wd zoO (HDR) rfl rfl ⟨rfl,trivial⟩ ?_
 refine evd [] [] ?_
 refine so ty25 ?_
 refine so ty44 ?_
 refine dr ?_
 refine rn [(900,some (rdB b (typV b p).2))] (.cons (.tmp rfl) (.cons (.cellA ty25 rfl rfl rfl) (.cons (.cellA ty44 rfl rfl rfl) .nil))) (.tup (.cons (.eqd ?_) (.cons (.agg (.cons (.eqd ?_) (.cons (.eqd ?_) .nil))) (.cons (.agg (.cons (.eqd ?_) (.cons (.eqd ?_) (.cons (.eqd ?_) .nil)))) .nil)))) ⟨rfl,rfl⟩ (SubO.get ⟨.inr ?_,⟨.inl rfl,trivial⟩⟩) (zaF rfl)
 rotate_left 7
 try simp only[Q] at h1p
 have HDR:=hdr3 (by rw[if_neg (by omega)] at hT;rw[←hT];exact hdeep)
 refine si [0,1,2,3] [_,_,_,_] sl62 tz3 ?_
 refine wd zhb (zcE (b:=b) (p:=p+3) (l:=[3,2,4,1]) hb (by omega) (by simp) (by simp)) rfl rfl ⟨rfl,trivial⟩ ?_
 refine wd zoO (HDR) rfl rfl ⟨rfl,trivial⟩ ?_
 refine evd [] [] ?_
 refine so ty25 ?_
 refine so ty44 ?_
 refine dr ?_
 refine rn [(900,some (rdB b (typV b p).2))] (.cons (.tmp rfl) (.cons (.cellA ty25 rfl rfl rfl) (.cons (.cellA ty44 rfl rfl rfl) .nil))) (.tup (.cons (.eqd ?_) (.cons (.agg (.cons (.eqd ?_) (.cons (.eqd ?_) .nil))) (.cons (.agg (.cons (.eqd ?_) (.cons (.eqd ?_) (.cons (.eqd ?_) .nil)))) .nil)))) ⟨rfl,rfl⟩ (SubO.get ⟨.inr ?_,⟨.inl rfl,trivial⟩⟩) (zaF rfl)
 rotate_left 7
 all_goals (first|((first|(rw[if_pos (by omega)] at hT;rw[hV,hT];all_goals rfl)|(rw[if_neg (by omega)] at hT;rw[hV,hT];all_goals rfl)|(rw[if_pos (by omega)] at hT;rw[hT];all_goals rfl)|(rw[if_neg (by omega)] at hT;rw[hT];all_goals rfl)|rfl);done)|(first|(rw[if_pos (by omega)] at hT;rw[hV,hT];all_goals rfl)|(rw[if_neg (by omega)] at hT;rw[hV,hT];all_goals rfl)))
structure CaseW (w:List Data):Prop where
 small:WSmall w
 valid:za1 w=true
 one:1≤w.length
 ct:∀k:Int,k=0∨k=1∨k=2→1≤(zah w ⟨0,k⟩).length
theorem Pats.len_size:∀l:List Pat,l.length≤Pats.size l
 | []=>Nat.zero_le _
 |v::r=>by
  have:=Pats.len_size r
  have h:=Pat.size_eq v
  simp only[List.length_cons,Pats.size];omega
theorem zq4 {x:Pat} (hx:x.ok):∀ {l:List Pat}{i:Nat},Pats.ok l→Pats.ok (l.set i x)
 | [],_,_=>by simp[Pats.ok]
 |y::r,0,h=>⟨hx,h.2⟩
 |y::r,i+1,h=>⟨h.1,zq4 hx h.2⟩
theorem zqo {x:Pat} (hx:x.ok):∀ {l:List Pat},Pats.ok l→Pats.ok (l++[x])
 | [],_=>⟨hx,trivial⟩
 |y::r,h=>⟨h.1,zqo hx h.2⟩
theorem zq5 {x:Pat}:∀ {l:List Pat}{i:Nat},Pats.size (l.set i x)≤Pats.size l+x.size
 | [],_=>by simp[Pats.size]
 |y::r,0=>by simp only[List.set_cons_zero,Pats.size];omega
 |y::r,i+1=>by have:=zq5 (x:=x) (l:=r) (i:=i);simp only[List.set_cons_succ,Pats.size];omega
theorem zuV {b:Str}{p:Pat}{q:Nat} (hs:p.size≤1000) (hok:p.ok):(mutP b p q).1.size≤2000∧(mutP b p q).1.ok:=by
 have hv:zcB.size=1∧zcB.ok:=⟨by rw[Pat.size_eq];rfl,by rw[Pat.ok_iff];exact⟨by simp[zcB,Pat.kids],trivial⟩⟩
 have h0:=Pat.size_eq p
 rw[Pat.ok_iff] at hok
 have same:∀a c n m v:Int,(Pat.mk a c n m v p.kids).size≤2000∧(Pat.mk a c n m v p.kids).ok:=fun a c n m v=>by
  refine⟨by rw[Pat.size_eq];show 1+Pats.size p.kids≤_;omega,by rw[Pat.ok_iff];exact hok⟩
 unfold mutP
 split;exact same _ _ _ _ _
 split;exact same _ _ _ _ _
 split;exact same _ _ _ _ _
 split
 ·refine⟨?_, ?_⟩
  ·dsimp only;rw[Pat.size_eq];show 1+Pats.size (p.kids++[zcB])≤_;rw[Pats.size_snoc];omega
  ·dsimp only;rw[Pat.ok_iff];refine⟨?_,zqo hv.2 hok.2⟩
   show(p.kids++[zcB]).length≤_
   have:=Pats.len_size p.kids
   simp only[List.length_append,List.length_singleton];omega
 split
 ·refine⟨?_, ?_⟩
  ·dsimp only;rw[Pat.size_eq];show 1+Pats.size (p.kids.set 0 zcB)≤_
   have:=zq5 (x:=zcB) (l:=p.kids) (i:=0);omega
  ·dsimp only;rw[Pat.ok_iff];exact⟨by show(p.kids.set 0 zcB).length≤_;rw[List.length_set];exact hok.1,zq4 hv.2 hok.2⟩
 split;exact same _ _ _ _ _
 exact same _ _ _ _ _
def typP (b:Str) (p:Nat):Pat:=zbV b (zba b p) (typT b p) (typV b p).2
def typQ (b:Str) (p:Nat):Nat:=(zcP b (zba b p) (typT b p) (typV b p).2).2.2
theorem zh4 (b:Str) (p:Nat):TyIn (zba b p).length (typT b p):=zbQ (zjS b p).ins
theorem znd (b:Str) (p:Nat):(typP b p).size≤242∧(typP b p).ok∧typQ b p≤p+600:=by
 have hl:=zdD b p
 have h1:=zmd (b:=b) hl.few (zh4 b p) (typV b p).2
 have h2:=zjD (b:=b) hl.few (zh4 b p) (typV b p).2
 have h3:=zra b p
 exact⟨h1.1,h1.2,by unfold typQ;omega⟩
theorem zmq {b:Str}{p:Nat} (hb:b.length≤2000) (hp:p≤10000):
  FnD Tryz.prog 89 [.ref 900 0] [(900,some (rdB b p))] (.tup [.d (zam (zba b p)),.agg [.d (.i (typT b p).data),.d (.i (typT b p).index)],
   .agg [.d (.i (typP b p).op),.d (.i (typP b p).ctor),.d (.i (typP b p).n),.d (.i (typP b p).m),.d (.i (typP b p).var),.d (zad (typP b p).kids)],
   .agg [.d (.i (typV b p).1.ctor),.d (.i (typV b p).1.num),.d (zj1 (typV b p).1.kids)]]) [(900,some (rdB b (typQ b p)))]:=by
 have hl:=zdD b p
 have hv:=zra b p
 have ht:=zh4 b p
 have hty:=zmm (p:=p) hb (by omega)
 have hsm:=zh2 hb hl.dp.wt hl.few (a:=(typT b p).data) (k:=(typT b p).index) (p:=(typV b p).2) (by omega) ht
 refine bd Tryz.f89 22 [] [] fun w0 F0 own kept hk=>?_
 refine ab 3003 tz25 ?_
 refine ab 3004 tz28 ?_
 refine ab 3005 tz44 ?_
 refine tv ?_
 refine wd zvp (hty) rfl rfl ⟨rfl,trivial⟩ ?_
 refine ev ?_
 refine ab 3007 tz25 ?_
 refine ab 3008 tz44 ?_
 refine ev ?_
 refine so ty25 ?_
 refine so ty44 ?_
 refine tv ?_
 refine wd zua (hsm) rfl rfl ⟨rfl,trivial⟩ ?_
 refine evd [] [] ?_
 refine so ty25 ?_
 refine so ty28 ?_
 refine so ty44 ?_
 refine dr ?_
 refine rn [(900,some (rdB b (typQ b p)))] (.cons (.tmp rfl) (.cons (.cellA ty25 rfl rfl rfl) (.cons (.cellA ty28 rfl rfl rfl) (.cons (.cellA ty44 rfl rfl rfl) .nil)))) (.tup (.cons (.eqd ?_) (.cons (.agg (.cons (.eqd ?_) (.cons (.eqd ?_) .nil))) (.cons (.agg (.cons (.eqd ?_) (.cons (.eqd ?_) (.cons (.eqd ?_) (.cons (.eqd ?_) (.cons (.eqd ?_) (.cons (.eqd ?_) .nil))))))) (.cons (.agg (.cons (.eqd ?_) (.cons (.eqd ?_) (.cons (.eqd ?_) .nil)))) .nil))))) ⟨rfl,rfl⟩ (SubO.get ⟨.inr ?_,⟨.inl rfl,trivial⟩⟩) (zaF rfl)
 rotate_left 13
 all_goals (first|((rfl);done)|(rfl))
def wid (w:List Data) (u:Ty):Nat:=if u.data = -1 then 10 else (zah w u).length
def zfu (w:List Data):Bool:=(List.range (w.length*4)).all fun s=>decide (((zah w (tyS s)).map fun c=>zdC ((zaa w (tyS s) c).map fun u=>max 1 (wid w u))).sum≤400)
theorem zom:((List.range 7).all fun i=>zfu (zc4 (nth zdn i)).1)=true:=by kernel_rfl
theorem znO {w:List Data} (h:zfu w=true){t:Ty} (ht:InS (w.length*4) t) (hd:t.data≠ -1):((zah w t).map fun c=>zdC ((zaa w t c).map fun u=>max 1 (wid w u))).sum≤400:=by
 rcases ht with h1|⟨h1,h2⟩
 ·exact absurd h1 hd
 ·have:=List.all_eq_true.1 h _ (List.mem_range.2 h1)
  rw[h2] at this
  exact of_decide_eq_true this
theorem zol (b:Str) (p:Nat):zfu (zba b p)=true:=List.all_eq_true.1 zom (zay b p 7).toNat (List.mem_range.2 (zoz b p))
def shal (p:Pat):Prop:=p.op=1∨p.op=3∨∃c l,p=zaS c l∧∀k∈l,k=anyQ
def zfM (p:Pat):Prop:=p.op=1∨p.op=3∨∃c l,p=zaS c l∧∀k∈l,shal k
def PosP (K:Pat→Prop):Prop:=(∀k,K k→shal k)∨∃x,zfM x∧¬shal x∧∀k,K k→k=x
def FormA (L:List Pat):Prop:=∀p∈L,zfM p
def FormB (L:List Pat):Prop:=∃(c:Int) (m:Nat) (K:Nat→Pat→Prop),(∀j,j<m→PosP (K j))∧∀p∈L,CSat K c m p
def Form (L:List Pat):Prop:=FormA L∨FormB L
theorem zpH:shal anyQ:= .inl rfl
theorem zwe {p:Pat} (h:shal p):zfM p:=by
 rcases h with h|h|⟨c,l,h1,h2⟩
 ·exact .inl h
 ·exact .inr (.inl h)
 ·exact .inr (.inr ⟨c,l,h1,fun k hk=>by rw[h2 k hk];exact zpH⟩)
theorem PosP.two {K:Pat→Prop} (h:PosP K){k:Pat} (hk:K k):zfM k:=by
 rcases h with h|⟨x,h1,_,h2⟩
 ·exact zwe (h k hk)
 ·rw[h2 k hk];exact h1
theorem PosP.one {K:Pat→Prop} (h:∀k k',K k→K k'→k=k') (h2:∀k,K k→zfM k):PosP K:=by
 by_cases hx:∃k,K k∧¬shal k
 ·obtain⟨k,h3,h4⟩:=hx
  exact .inr ⟨k,h2 k h3,h4,fun k' h5=>h k' k h5 h3⟩
 ·exact .inl fun k hk=>Classical.byContradiction fun h3=>hx ⟨k,hk,h3⟩
theorem zrI {α:Type} [Inhabited α]{P:Int→Nat→Prop}{Q:Int→Nat→α→Prop} (h:∀c j,P c j→∃x,Q c j x):∃f:Int→Nat→α,∀c j,P c j→Q c j (f c j):=by
 classical
 exact⟨fun c j=>if hp:P c j then Classical.choose (h c j hp) else default,fun c j hp=>by simp only[dif_pos hp];exact Classical.choose_spec (h c j hp)⟩
theorem zpw:∀ {a b:List Nat},a.length=b.length→(∀i,i<a.length→nth a i≤nth b i)→zdC a≤zdC b
 | [],[],_,_=>Nat.le_refl _
 |x::a,y::b,h,hi=>Nat.mul_le_mul (hi 0 (by simp)) (zpw (a:=a) (b:=b) (by simpa using h) (fun i hi'=>hi (i+1) (by simpa using hi')))
 | [],_::_,h,_=>by simp at h
 |_::_,[],h,_=>by simp at h
theorem znc {w:List Data}{c:Int}{us:List Ty}{Vs:Nat→List Val}{g:Ty→Nat} (h:∀j,j<us.length→(Vs j).length≤g (nth us j)):(zgy c us.length Vs).length≤zdC (us.map g):=by
 rw[ztV]
 refine zpw (by simp) (fun i hi=>?_)
 rw[List.length_map,List.length_range] at hi
 rw[zjy _ hi,zaG (by simpa using hi),List.getElem_map,←zaG hi]
 exact h i hi
theorem zpR {α:Type}{f g:α→Nat}:∀ {l:List α},(∀x∈l,f x≤g x)→(l.map f).sum≤(l.map g).sum
 | [],_=>Nat.le_refl _
 |x::r,h=>by
  simp only[List.map_cons,List.sum_cons]
  exact Nat.add_le_add (h x (by simp)) (zpR (fun y hy=>h y (by simp[hy])))
theorem zlU {x:Nat}:∀ {l:List Nat},x∈l→x≤l.sum
 |a::r,h=>by
  rw[List.sum_cons]
  rcases List.mem_cons.1 h with rfl|h
  ·omega
  ·have:=zlU h;omega
theorem zkH {α β:Type}{f:α→List β}:∀ {l:List α},(l.flatMap f).length=(l.map fun x=>(f x).length).sum
 | []=>rfl
 |x::r=>by rw[List.flatMap_cons,List.length_append,List.map_cons,List.sum_cons,zkH]
section
variable {w:List Data} (hs:Spa w)
include hs
theorem zq6 {t:Ty} (ht:InS (w.length*4) t):∃S V,V.length≤max 1 (wid w t)∧Grid w t S V∧(∀n p,zac w n t p=true→shal p→S p)∧S anyQ:=by
 by_cases hd:t.data = -1
 ·refine⟨fun _=>True,zeU, ?_,zpa hd,fun _ _ _ _=>trivial,trivial⟩
  unfold wid;rw[if_pos hd]
  simp[zeU]
 ·obtain⟨Vs,hV⟩:=zrI (P:=fun c j=>c∈zah w t∧j<(zaa w t c).length) (Q:=fun c j V=>V.length≤1∧Grid w (nth (zaa w t c) j) (fun p=>p=anyQ) V)
   (fun c j h=>zny hs (zbl hs.dp ht h.1 _ (zae h.2)) (zi1 (n:=0)))
  refine⟨_,_, ?_,znz hs ht hd (Ss:=fun _ _ p=>p=anyQ) (Vs:=Vs) (fun c hc j hj=>(hV c j ⟨hc,hj⟩).2) (fun _ _ _=>rfl),fun n p hp hsh=>?_,.inl rfl⟩
  ·rw[zkH]
   have h1:((zah w t).map fun c=>(zgy c (zaa w t c).length (Vs c)).length).sum≤((zah w t).map fun _=>1).sum:=zpR (fun c hc=>by
    have:=znc (w:=w) (c:=c) (us:=zaa w t c) (Vs:=Vs c) (g:=fun _=>1) (fun j hj=>(hV c j ⟨hc,hj⟩).1)
    refine Nat.le_trans this ?_
    generalize zaa w t c=us
    induction us with
    |nil=>simp[zdC]
    |cons x r ih=>simp only[List.map_cons,zdC,Nat.one_mul];exact ih)
   have h2:((zah w t).map fun _=>1).sum=(zah w t).length:=by
    generalize zah w t=l
    induction l with
    |nil=>rfl
    |cons x r ih=>rw[List.map_cons,List.sum_cons,ih,List.length_cons];omega
   unfold wid;rw[if_neg hd];omega
  ·rcases hsh with h|h|⟨c,l,rfl,h2⟩
   ·exact .inl h
   ·exact absurd (zbt hp h).1 hd
   ·obtain⟨m1,m2,m3,m4⟩:=zax hp rfl
    exact .inr ⟨c,m1,l,rfl,m3,fun j hj=>h2 _ (zae (by have e:l.length=(zaa w t c).length:=m3;omega))⟩
theorem ztN (hn:zfu w=true){t:Ty} (ht:InS (w.length*4) t):∃S V,V.length≤400∧Grid w t S V∧∀n p,zac w n t p=true→zfM p→S p:=by
 by_cases hd:t.data = -1
 ·exact⟨fun _=>True,zeU,by simp[zeU],zpa hd,fun _ _ _ _=>trivial⟩
 ·obtain⟨F,hF⟩:=zrI (P:=fun c j=>c∈zah w t∧j<(zaa w t c).length) (Q:=fun c j (SV:(Pat→Prop)×List Val)=>SV.2.length≤max 1 (wid w (nth (zaa w t c) j))∧Grid w (nth (zaa w t c) j) SV.1 SV.2∧(∀n p,zac w n (nth (zaa w t c) j) p=true→shal p→SV.1 p)∧SV.1 anyQ)
   (fun c j h=>by
    obtain⟨S,V,h1,h2,h3,h4⟩:=zq6 hs (t:=nth (zaa w t c) j) (zbl hs.dp ht h.1 _ (zae h.2))
    exact⟨(S,V),h1,h2,h3,h4⟩)
  refine⟨_,_, ?_,znz hs ht hd (Ss:=fun c j p=>(c∈zah w t∧j<(zaa w t c).length)→(F c j).1 p) (Vs:=fun c j=>(F c j).2) (fun c hc j hj=>?_) (fun c hc j h=>(hF c j h).2.2.2),fun n p hp hsh=>?_⟩
  ·rw[zkH]
   exact Nat.le_trans (zpR (fun c hc=>znc (w:=w) (g:=fun u=>max 1 (wid w u)) (fun j hj=>(hF c j ⟨hc,hj⟩).1))) (znO hn ht hd)
  ·have hg:=(hF c j ⟨hc,hj⟩).2.1
   exact⟨fun n a b z ha hb h _=>hg.meet n a b z (ha ⟨hc,hj⟩) (hb ⟨hc,hj⟩) h,fun n a b x ha hb h _=>hg.minus n a b x (ha ⟨hc,hj⟩) (hb ⟨hc,hj⟩) h,fun n p hp=>hg.hit n p (hp ⟨hc,hj⟩),hg.fits⟩
  ·cases n with
   |zero=>simp[zac] at hp
   |succ n=>
    rcases hsh with h|h|⟨c,l,rfl,h2⟩
    ·exact .inl h
    ·exact absurd (zbt hp h).1 hd
    ·obtain⟨m1,m2,m3,m4⟩:=zax hp rfl
     have e:l.length=(zaa w t c).length:=m3
     refine .inr ⟨c,m1,l,rfl,m3,fun j hj h=>?_⟩
     have hk:=zaE hp (i:=j) (by show j<l.length;omega)
     rw[zaR rfl] at hk
     exact(hF c j h).2.2.1 n _ hk (h2 _ (zae (by omega)))
theorem ztD {t:Ty} (ht:InS (w.length*4) t){K:Pat→Prop} (hK:PosP K):∃S V,V.length≤max 1 (wid w t)∧Grid w t S V∧∀n p,zac w n t p=true→K p→S p:=by
 by_cases hx:∃n x,zac w n t x=true∧¬shal x∧∀k,K k→k=x
 ·obtain⟨n,x,h1,_,h2⟩:=hx
  obtain⟨V,h3,h4⟩:=zny hs ht h1
  exact⟨_,V,by omega,h4,fun n p _ hp=>h2 p hp⟩
 ·obtain⟨S,V,h1,h2,h3,_⟩:=zq6 hs ht
  refine⟨S,V,h1,h2,fun n p hp hk=>?_⟩
  rcases hK with h|⟨x,h4,h5,h6⟩
  ·exact h3 n p hp (h p hk)
  ·exact absurd ⟨n,x,by rw[←h6 p hk];exact hp,h5,h6⟩ hx
theorem zo6 (hn:zfu w=true){t:Ty} (ht:InS (w.length*4) t){l res:List Pat} (hf:Form l) (hl:∀b∈l,zac w 10 t b=true) (h:sepQ w t [] l []=some res):res.length≤400:=by
 rcases hf with hf|⟨c,m,K,hK,hf⟩
 ·obtain⟨S,V,h1,h2,h3⟩:=ztN hs hn ht
  exact Nat.le_trans (zq3 hs ht h2 (fun b hb=>⟨hl b hb,h3 10 b (hl b hb) (hf b hb)⟩) h) h1
 ·cases l with
  |nil=>rw[sepQ] at h;cases h;simp
  |cons p0 r=>
   obtain⟨l0,e0,e1,_⟩:=hf p0 (by simp)
   have hp0:=hl p0 (by simp)
   have hc:=zax hp0 (by rw[e0];rfl)
   rw[e0] at hc
   have hcc:c∈zah w t:=hc.1
   have hm:m=(zaa w t c).length:=by rw[←e1];exact hc.2.2.1
   subst hm
   obtain⟨F,hF⟩:=zrI (P:=fun c' j=>c'=c∧j<(zaa w t c).length) (Q:=fun _ j (SV:(Pat→Prop)×List Val)=>SV.2.length≤max 1 (wid w (nth (zaa w t c) j))∧Grid w (nth (zaa w t c) j) SV.1 SV.2∧∀n p,zac w n (nth (zaa w t c) j) p=true→K j p→SV.1 p)
    (fun c' j h=>by
     obtain⟨S,V,h1,h2,h3⟩:=ztD hs (t:=nth (zaa w t c) j) (zbl hs.dp ht hcc _ (zae h.2)) (hK j h.2)
     exact⟨(S,V),h1,h2,h3⟩)
   have hg:=zhg hcc (Ss:=fun j=>(F c j).1) (Vs:=fun j=>(F c j).2) (fun j hj=>(hF c j ⟨rfl,hj⟩).2.1)
   refine Nat.le_trans (zq3 hs ht hg (fun b hb=>⟨hl b hb, ?_⟩) h) ?_
   ·obtain⟨lb,rfl,h1,h2⟩:=hf b hb
    refine⟨lb,rfl,h1,fun j hj=>?_⟩
    have hk:=zaE (hl _ hb) (i:=j) (by show j<lb.length;omega)
    rw[zaR rfl] at hk
    exact(hF c j ⟨rfl,hj⟩).2.2 9 _ hk (h2 j hj)
   ·have h1:=znc (w:=w) (c:=c) (us:=zaa w t c) (Vs:=fun j=>(F c j).2) (g:=fun u=>max 1 (wid w u)) (fun j hj=>(hF c j ⟨rfl,hj⟩).1)
    have h2:=znO hn ht hc.2.1
    have h3:zdC ((zaa w t c).map fun u=>max 1 (wid w u))≤((zah w t).map fun c=>zdC ((zaa w t c).map fun u=>max 1 (wid w u))).sum:=zlU (List.mem_map.2 ⟨c,hcc,rfl⟩)
    omega
end
def Dr:Nat→Pat→Prop
 |0,p=>p=anyQ
 |n+1,p=>p=anyQ∨(p.op=3∧p.kids=[])∨(p.op=5∧p.kids.length=2∧∀k∈p.kids,Dr n k)∨(p.op=4∧∀k∈p.kids,Dr n k)
theorem Dr.any (n:Nat):Dr n anyQ:=by cases n<;>simp[Dr]
theorem Dr.up:∀(n:Nat){p:Pat},Dr n p→Dr (n+1) p
 |0,p,h=> .inl h
 |n+1,p,h=>by
  rcases h with h|h|⟨h1,h2,h3⟩|⟨h1,h2⟩
  ·exact .inl h
  ·exact .inr (.inl h)
  ·exact .inr (.inr (.inl ⟨h1,h2,fun k hk=>Dr.up n (h3 k hk)⟩))
  ·exact .inr (.inr (.inr ⟨h1,fun k hk=>Dr.up n (h2 k hk)⟩))
theorem Dr.le {n m:Nat} (h:n≤m){p:Pat} (hp:Dr n p):Dr m p:=by
 induction h with
 |refl=>exact hp
 |step _ ih=>exact Dr.up _ ih
theorem zsp {f:Ty→Nat→Pat×Nat}{P:Pat→Prop} (h:∀t q,P (f t q).1):∀(l:List Ty) (q:Nat),∀k∈(dA f l q).1,P k
 | [],q,k,hk=>by simp[dA] at hk
 |t::r,q,k,hk=>by
  simp only[dA,List.mem_cons] at hk
  rcases hk with rfl|hk
  ·exact h t q
  ·exact zsp h r _ k hk
theorem zqF {b:Str}{w:List Data}:∀(d:Nat) (t:Ty) (p:Nat),Dr d (zaC b w (d+1) t p).1∧Dr 0 (zaC b w 0 t p).1
 |0,t,p=>by
  refine⟨?_,rfl⟩
  unfold zaC;rw[if_pos rfl];rfl
 |d+1,t,p=>by
  refine⟨?_,rfl⟩
  have ih:=fun t p=>(zqF (b:=b) (w:=w) d t p).1
  rw[zaC,if_neg (by omega)]
  split
  ·exact Dr.any _
  ·split
   ·refine .inr (.inr (.inl ⟨rfl,rfl,fun k hk=>?_⟩))
    simp only[Pat.kids,List.mem_cons,List.not_mem_nil,or_false] at hk
    rcases hk with rfl|rfl
    ·exact ih _ _
    ·exact ih _ _
   ·split
    ·exact .inr (.inl ⟨rfl,rfl⟩)
    ·split
     ·exact Dr.any _
     ·refine .inr (.inr (.inr ⟨rfl,fun k hk=>?_⟩))
      exact zsp (P:=Dr d) ih _ _ k hk
theorem zeA:∀(n:Nat){p:Pat},Dr n p→zat p=p
 |0,p,h=>by
  rw[show p=anyQ from h,zbd,if_neg (by decide),if_neg (by decide)];rfl
 |n+1,p,h=>by
  have map_id:∀l:List Pat,(∀k∈l,zat k=k)→l.map zat=l:=fun l hl=>by
   induction l with
   |nil=>rfl
   |cons x r ih=>rw[List.map_cons,hl x (by simp),ih (fun k hk=>hl k (by simp[hk]))]
  have key:p.op≠2→p.op≠6→(∀k∈p.kids,zat k=k)→zat p=p:=fun h2 h6 hk=>by
   rw[zbd,if_neg h2,if_neg (fun hh=>h6 hh.1),map_id p.kids hk]
   cases p;rfl
  rcases h with h|⟨h1,h2⟩|⟨h1,h2,h3⟩|⟨h1,h2⟩
  ·exact zeA 0 h
  ·exact key (by omega) (by omega) (by rw[h2];simp)
  ·exact key (by omega) (by omega) (fun k hk=>zeA n (h3 k hk))
  ·exact key (by omega) (by omega) (fun k hk=>zeA n (h2 k hk))
theorem znM {f:Pat→Int→Nat→Pat×Int×Nat}:∀(l:List Pat) (m:Int) (q:Nat),(∀x∈l,∀m q,zat (f x m q).1=x)→(namL f l m q).1.map zat=l∧∀y∈(namL f l m q).1,zat y∈l
 | [],m,q,_=>by simp[namL]
 |x::r,m,q,h=>by
  have h1:=h x (by simp) m q
  have h2:=znM r (f x m q).2.1 (f x m q).2.2 (fun y hy=>h y (by simp[hy]))
  simp only[namL]
  refine⟨by rw[List.map_cons,h1,h2.1],fun y hy=>?_⟩
  rcases List.mem_cons.1 hy with rfl|hy
  ·rw[h1];simp
  ·exact List.mem_cons_of_mem _ (h2.2 y hy)
structure NamB (p r:Pat):Prop where
 bare:zat r=p
 kids:(∀k∈r.kids,zat k∈p.kids)∨(r.op=6∧r.kids.length=1)
theorem zpo {b:Str}:∀(n:Nat) (d:Nat){p:Pat} (m:Int) (q:Nat),Dr d p→NamB p (namP b n p m q).1
 |0,d,p,m,q,h=>⟨zeA d h,.inl fun k hk=>by
  have:zat k=k:=by
   cases d with
   |zero=>rw[show p=anyQ from h] at hk;simp[namP,zaZ] at hk
   |succ d=>
    rcases h with h|⟨h1,h2⟩|⟨h1,h2,h3⟩|⟨h1,h2⟩
    ·subst h;simp[namP,zaZ] at hk
    ·have hk':k∈p.kids:=hk
     rw[h2] at hk';simp at hk'
    ·exact zeA d (h3 k hk)
    ·exact zeA d (h2 k hk)
  rw[this];exact hk⟩
 |n+1,d,p,m,q,h=>by
  have hkid:∀k∈p.kids,∃e,Dr e k:=fun k hk=>by
   cases d with
   |zero=>rw[show p=anyQ from h] at hk;simp[zaZ] at hk
   |succ d=>
    rcases h with h|⟨h1,h2⟩|⟨h1,h2,h3⟩|⟨h1,h2⟩
    ·subst h;simp[zaZ] at hk
    ·rw[h2] at hk;simp at hk
    ·exact⟨d,h3 k hk⟩
    ·exact⟨d,h2 k hk⟩
  have hb:=zeA d h
  have hop:p.op≠2∧p.op≠6:=by
   cases d with
   |zero=>rw[show p=anyQ from h];exact⟨by decide,by decide⟩
   |succ d=>
    rcases h with h|⟨h1,h2⟩|⟨h1,h2,h3⟩|⟨h1,h2⟩
    ·rw[h];exact⟨by decide,by decide⟩
    ·omega
    ·omega
    ·omega
  by_cases c1:5<m∨p.op=5∨p.op=3
  ·rw[zrA c1]
   exact⟨hb,.inl fun k hk=>by obtain⟨e,he⟩:=hkid k hk;rw[zeA e he];exact hk⟩
  by_cases c2:p.op=1∧zay b q 2=0
  ·rw[zrB c1 c2]
   have hp:p=anyQ:=by
    cases d with
    |zero=>exact h
    |succ d=>
     rcases h with h|⟨h1,h2⟩|⟨h1,h2,h3⟩|⟨h1,h2⟩
     ·exact h
     ·omega
     ·omega
     ·omega
   exact⟨by rw[hp];exact(zbd _).trans (if_pos rfl),.inl fun k hk=>by simp[zaZ] at hk⟩
  have hL:=znM (f:=namP b n) p.kids m (if p.op=1 then q+1 else q) (fun x hx m q=>by obtain⟨e,he⟩:=hkid x hx;exact(zpo n e m q he).bare)
  generalize hz:namL (namP b n) p.kids m (if p.op=1 then q+1 else q)=z at hL
  obtain⟨ks,zm,zq⟩:=z
  dsimp only at hL
  have hmk:zat (.mk p.op p.ctor p.n p.m p.var ks)=p:=by
   rw[zbd,if_neg (by rw[zbZ];exact hop.1),if_neg (by rw[zbZ];exact fun hh=>hop.2 hh.1)]
   simp only[zbZ,zeI,mk_n,mk_m,zgZ,zaZ]
   rw[hL.1];cases p;rfl
  by_cases c3:zm≤5
  ·by_cases c4:zay b zq 6=0
   ·rw[zrC c1 c2 hz.symm c3 c4]
    refine⟨?_,.inr ⟨rfl,rfl⟩⟩
    rw[zbd,if_neg (by rw[zbZ];decide),if_pos ⟨rfl,by rw[zaZ];simp⟩]
    exact hmk
   ·rw[zrD c1 c2 hz.symm c3 c4]
    exact⟨hmk,.inl fun k hk=>hL.2 k hk⟩
  ·rw[zrE c1 c2 hz.symm c3]
   exact⟨hmk,.inl fun k hk=>hL.2 k hk⟩
theorem zc9 {p:Pat} (h5:p.op≠5){y:Pat} (hy:y∈zap p):∃l,y = .mk p.op p.ctor p.n p.m p.var l∧l.length=p.kids.length∧∀i,i<p.kids.length→nth l i∈zap (nth p.kids i):=by
 rw[zcQ h5] at hy
 obtain⟨l,hl,rfl⟩:=List.mem_map.1 hy
 obtain⟨q,hq,r,e,h1,h2⟩:=zhp _ _ _ hl
 rw[List.mem_singleton] at hq
 rw[hq,List.nil_append] at e
 subst e
 rw[List.length_map] at h1
 refine⟨l,rfl,h1,fun i hi=>?_⟩
 have:=h2 i (by simpa using hi)
 rwa [zaG (l:=p.kids.map zap) (by simpa using hi),List.getElem_map,←zaG hi] at this
theorem dr_1 {p:Pat} (h:Dr 1 p):∃x,∀y∈zap p,y=x:=by
 rcases h with h|⟨h1,h2⟩|⟨h1,h2,h3⟩|⟨h1,h2⟩
 ·rw[h,zb0];exact⟨anyQ,fun y hy=>List.mem_singleton.1 hy⟩
 ·rw[zc8 (by omega) h2];exact⟨p,fun y hy=>List.mem_singleton.1 hy⟩
 ·rw[zde h1 h2,show nth p.kids 0=anyQ from h3 _ (zae (by omega)),show nth p.kids 1=anyQ from h3 _ (zae (by omega)),zb0]
  exact⟨anyQ,fun y hy=>by simpa using hy⟩
 ·refine⟨p,fun y hy=>?_⟩
  obtain⟨l,rfl,h3,h4⟩:=zc9 (by omega) hy
  have:l=p.kids:=zhQ h3 (fun i hi=>by
   have h5:=h4 i (by omega)
   have h6:nth p.kids i=anyQ:=h2 _ (zae (by omega))
   rw[h6,zb0] at h5
   rw[h6];exact List.mem_singleton.1 h5)
  rw[this];cases p;rfl
section
variable {w:List Data}{n:Nat}{t:Ty}
theorem zrm {p:Pat} (h:Dr 1 p) (hp:∀y∈zap p,zac w n t y=true):∀y∈zap p,shal y:=by
 intro y hy
 have hpy:=hp y hy
 rcases zbc hpy with o|o|o
 ·exact .inl o
 ·exact .inr (.inl o)
 ·refine .inr (.inr ⟨y.ctor,y.kids,(zax hpy o).2.2.2, ?_⟩)
  rcases h with h|⟨h1,h2⟩|⟨h1,h2,h3⟩|⟨h1,h2⟩
  ·rw[h,zb0,List.mem_singleton] at hy;rw[hy];simp[zaZ]
  ·rw[zc8 (by omega) h2,List.mem_singleton] at hy;rw[hy,h2];simp
  ·rw[zde h1 h2,show nth p.kids 0=anyQ from h3 _ (zae (by omega)),show nth p.kids 1=anyQ from h3 _ (zae (by omega)),zb0] at hy
   have:y=anyQ:=by simpa using hy
   rw[this];simp[zaZ]
  ·obtain⟨l,rfl,h3,h4⟩:=zc9 (by omega) hy
   intro k hk
   rw[zaZ] at hk
   obtain⟨i,hi,rfl⟩:=List.getElem_of_mem hk
   have h5:=h4 i (by omega)
   rw[show nth p.kids i=anyQ from h2 _ (zae (by omega)),zb0,List.mem_singleton,zaG hi] at h5
   exact h5
theorem dr_2 {p:Pat} (h:Dr 2 p) (hp:∀y∈zap p,zac w n t y=true):PosP (fun y=>y∈zap p):=by
 have leaf:∀y,y.op=4→y∈zap p→p.op≠5→p.op=4:=fun y o hy h5=>by
  obtain⟨l,rfl,_,_⟩:=zc9 h5 hy
  exact o
 rcases h with h|⟨h1,h2⟩|⟨h1,h2,h3⟩|⟨h1,h2⟩
 ·rw[h,zb0];exact .inl fun k hk=>by rw[List.mem_singleton.1 hk];exact zpH
 ·rw[zc8 (by omega) h2];exact .inl fun k hk=>by rw[List.mem_singleton.1 hk];exact .inr (.inl h1)
 ·refine .inl fun y hy=>?_
  rw[zde h1 h2] at hy hp
  rcases List.mem_append.1 hy with hy|hy
  ·exact zrm (w:=w) (n:=n) (t:=t) (h3 _ (zae (by omega))) (fun z hz=>hp z (List.mem_append_left _ hz)) y hy
  ·exact zrm (w:=w) (n:=n) (t:=t) (h3 _ (zae (by omega))) (fun z hz=>hp z (List.mem_append_right _ hz)) y hy
 ·refine PosP.one (fun y y' hy hy'=>?_) (fun y hy=>?_)
  ·obtain⟨l,rfl,h3,h4⟩:=zc9 (by omega) hy
   obtain⟨l',rfl,h5,h6⟩:=zc9 (by omega) hy'
   have:l=l':=zhQ (by omega) (fun i hi=>by
    obtain⟨x,hx⟩:=dr_1 (h2 _ (zae (i:=i) (by omega)))
    rw[hx _ (h4 i (by omega)),hx _ (h6 i (by omega))])
   rw[this]
  ·have hpy:=hp y hy
   have h4p:y.op=4:=by obtain⟨l,rfl,_,_⟩:=zc9 (by omega) hy;exact h1
   refine .inr (.inr ⟨y.ctor,y.kids,(zax hpy h4p).2.2.2,fun k hk=>?_⟩)
   obtain⟨l,e,h3,h4⟩:=zc9 (by omega) hy
   have hkl:y.kids=l:=by rw[e];rfl
   rw[hkl] at hk
   obtain⟨i,hi,rfl⟩:=List.getElem_of_mem hk
   have hmi:=h4 i (by omega)
   have hd1:=h2 _ (zae (l:=p.kids) (i:=i) (by omega))
   obtain⟨x,hx⟩:=dr_1 hd1
   cases n with
   |zero=>simp[zac] at hpy
   |succ n=>
    have hk2:=zaE hpy (i:=i) (by rw[hkl];omega)
    rw[hkl] at hk2
    rw[←zaG hi]
    exact zrm (w:=w) (n:=n) (t:=nth (zaf w t y) i) hd1 (fun z hz=>by rw[hx z hz,←hx _ hmi];exact hk2) _ hmi
theorem zul {p:Pat} (h:Dr 2 p) (hp:∀y∈zap p,zac w n t y=true):∀y∈zap p,zfM y:=fun y hy=>(dr_2 h hp).two hy
end
theorem zmu {n:Nat}{p:Pat} (hb:binP (n+1) p=true) (h5:p.op≠5){i:Nat} (hi:i<p.kids.length){z:Pat} (hz:z∈zap (nth p.kids i)):∃y∈zap p,nth y.kids i=z∧y.op=p.op∧y.ctor=p.ctor∧y.kids.length=p.kids.length:=by
 have hne:∀j,j<p.kids.length→∃x,x∈zap (nth p.kids j):=fun j hj=>by
  have:=(zjd n (zdH hb hj)).2
  exact List.exists_mem_of_length_pos this
 have hch:∃l:List Pat,l.length=p.kids.length∧(∀j,j<p.kids.length→nth l j∈zap (nth p.kids j))∧nth l i=z:=by
  have:∀k,k≤p.kids.length→∃l:List Pat,l.length=k∧(∀j,j<k→nth l j∈zap (nth p.kids j))∧(i<k→nth l i=z):=fun k=>by
   induction k with
   |zero=>exact fun _=>⟨[],rfl,fun j hj=>by omega,fun h=>by omega⟩
   |succ k ih=>
    intro hk
    obtain⟨l,h1,h2,h3⟩:=ih (by omega)
    have hx:∃x,x∈zap (nth p.kids k)∧(i=k→x=z):=by
     by_cases e:i=k
     ·exact⟨z,e ▸ hz,fun _=>rfl⟩
     ·obtain⟨x,hx⟩:=hne k (by omega)
      exact⟨x,hx,fun h=>absurd h e⟩
    obtain⟨x,hx,hxz⟩:=hx
    have e1:nth (l++[x]) k=x:=by
     simp only[nth,List.getD]
     rw[List.getElem?_append_right (by omega),h1,Nat.sub_self];all_goals rfl
    have e2:∀j,j<k→nth (l++[x]) j=nth l j:=fun j hj=>by
     simp only[nth,List.getD]
     rw[List.getElem?_append_left (by omega)]
    refine⟨l++[x],by simp[h1],fun j hj=>?_,fun h=>?_⟩
    ·by_cases e:j=k
     ·subst e;rw[e1];exact hx
     ·rw[e2 j (by omega)];exact h2 j (by omega)
    ·by_cases e:i=k
     ·rw[e,e1];exact hxz e
     ·rw[e2 i (by omega)];exact h3 (by omega)
  obtain⟨l,h1,h2,h3⟩:=this p.kids.length (Nat.le_refl _)
  exact⟨l,h1,h2,h3 hi⟩
 obtain⟨l,h1,h2,h3⟩:=hch
 refine⟨.mk p.op p.ctor p.n p.m p.var l, ?_,h3,rfl,rfl,h1⟩
 rw[zcQ h5]
 refine List.mem_map.2 ⟨l, ?_,rfl⟩
 have key:∀(ls:List (List Pat)) (r:List Pat) (out:List (List Pat)) (q:List Pat),r.length=ls.length→q∈out→(∀j,j<ls.length→nth r j∈nth ls j)→q++r∈ls.foldl za3 out:=fun ls=>by
  induction ls with
  |nil=>intro r out q hr hq _;rw[List.eq_nil_of_length_eq_zero hr,List.append_nil];exact hq
  |cons a s ih=>
   intro r out q hr hq hm
   cases r with
   |nil=>simp at hr
   |cons x r=>
    rw[List.foldl_cons,show q++x::r=q++[x]++r by simp]
    refine ih r _ (q++[x]) (by simpa using hr) ?_ (fun j hj=>hm (j+1) (by simpa using hj))
    unfold za3
    exact List.mem_flatMap.2 ⟨q,hq,List.mem_map.2 ⟨x,hm 0 (by simp),rfl⟩⟩
 have:=key (p.kids.map zap) l [[]] [] (by simp[h1]) (by simp) (fun j hj=>by
  rw[List.length_map] at hj
  rw[zaG (l:=p.kids.map zap) (by simpa using hj),List.getElem_map,←zaG hj];exact h2 j hj)
 simpa [zdL] using this
section
variable {w:List Data}{n:Nat}{t:Ty}
theorem zns {p:Pat} (hb:binP 20 p=true) (h4:p.op=4) (hk:∀k∈p.kids,Dr 2 k) (hp:∀y∈zap p,zac w n t y=true):FormB (zap p):=by
 refine⟨p.ctor,p.kids.length,fun j y=>y∈zap (nth p.kids j),fun j hj=>?_,fun y hy=>?_⟩
 ·cases n with
  |zero=>
   refine .inl fun k hz=>?_
   obtain⟨y,hy,_⟩:=zmu hb (by omega) hj hz
   have:=hp y hy;simp[zac] at this
  |succ n=>
   refine dr_2 (w:=w) (n:=n) (t:=nth (zaa w t p.ctor) j) (hk _ (zae hj)) (fun z hz=>?_)
   obtain⟨y,hy,h1,h2,h3,h5⟩:=zmu hb (by omega) hj hz
   have:=zaE (hp y hy) (i:=j) (by omega)
   rw[zaR (by omega),h1,h3] at this
   exact this
 ·obtain⟨l,e,h1,h2⟩:=zc9 (by omega) hy
  refine⟨l, ?_,h1,h2⟩
  have hpy:=hp y hy
  have:=(zax hpy (by rw[e];exact h4)).2.2.2
  rw[this,e];rfl
theorem zmI {p:Pat} (h:Dr 3 p) (hb:binP 20 p=true) (hp:∀y∈zap p,zac w n t y=true):Form (zap p):=by
 rcases h with h|⟨h1,h2⟩|⟨h1,h2,h3⟩|⟨h1,h2⟩
 ·rw[h,zb0];exact .inl fun k hk=>by rw[List.mem_singleton.1 hk];exact .inl rfl
 ·rw[zc8 (by omega) h2];exact .inl fun k hk=>by rw[List.mem_singleton.1 hk];exact .inr (.inl h1)
 ·refine .inl fun y hy=>?_
  rw[zde h1 h2] at hy hp
  rcases List.mem_append.1 hy with hy|hy
  ·exact zul (w:=w) (n:=n) (t:=t) (h3 _ (zae (by omega))) (fun z hz=>hp z (List.mem_append_left _ hz)) y hy
  ·exact zul (w:=w) (n:=n) (t:=t) (h3 _ (zae (by omega))) (fun z hz=>hp z (List.mem_append_right _ hz)) y hy
 ·exact .inr (zns hb h1 h2 hp)
def RootOk (p:Pat):Prop:=(∀k∈p.kids,Dr 2 (zat k))∨(p.op=6∧p.kids.length=1∧Dr 3 (zat (nth p.kids 0)))
theorem zvf {m k:Nat} (h:m≤k){p:Pat} (hp:binP m p=true):binP k p=true:=by
 induction h with
 |refl=>exact hp
 |step _ ih=>exact zky _ ih
theorem znW {p:Pat} (hr:RootOk p) (hs:zas w 10 t p=true):Form (zap (zat p)):=by
 have hpt:=zfv 10 hs
 have hb:=zvf (k:=20) (by omega) (zf0 10 hs)
 rcases hr with hr|⟨h6,h1,h2⟩
 ·rcases ziB hs with o|o|o|o|o|o
  ·have hk:=zeg hs (by omega) (by omega) (by omega)
   rw[zbd,if_neg (by omega),if_neg (by omega),zc8 (by rw[zbZ];omega) (by rw[zaZ,hk];rfl)]
   exact .inl fun k hk=>by rw[List.mem_singleton.1 hk];exact .inl o
  ·rw[zbd,if_pos o,zb0]
   exact .inl fun k hk=>by rw[List.mem_singleton.1 hk];exact .inl rfl
  ·have hk:=zeg hs (by omega) (by omega) (by omega)
   rw[zbd,if_neg (by omega),if_neg (by omega),zc8 (by rw[zbZ];omega) (by rw[zaZ,hk];rfl)]
   exact .inl fun k hk=>by rw[List.mem_singleton.1 hk];exact .inr (.inl o)
  ·have e:zat p = .mk p.op p.ctor p.n p.m p.var (p.kids.map zat):=by rw[zbd,if_neg (by omega),if_neg (by omega)]
   rw[e] at hpt hb ⊢
   refine .inr (zns hb (by rw[zbZ];exact o) (fun k hk=>?_) hpt)
   rw[zaZ] at hk
   obtain⟨k0,h3,rfl⟩:=List.mem_map.1 hk
   exact hr k0 h3
  ·have e:zat p = .mk p.op p.ctor p.n p.m p.var (p.kids.map zat):=by rw[zbd,if_neg (by omega),if_neg (by omega)]
   rw[e] at hpt hb ⊢
   obtain⟨l2,_,_⟩:=zeO hs o
   refine zmI (w:=w) (n:=10) (t:=t) (.inr (.inr (.inl ⟨by rw[zbZ];exact o,by rw[zaZ];simpa using l2,fun k hk=>?_⟩))) hb hpt
   rw[zaZ] at hk
   obtain⟨k0,h3,rfl⟩:=List.mem_map.1 hk
   exact hr k0 h3
  ·obtain⟨l1,_⟩:=zeN hs o
   have e:zat p=zat (nth p.kids 0):=by rw[zbd,if_neg (by omega),if_pos ⟨o,fun e=>by rw[e] at l1;simp at l1⟩]
   rw[e] at hpt hb ⊢
   exact zmI (Dr.up 2 (hr _ (zae (by omega)))) hb hpt
 ·have e:zat p=zat (nth p.kids 0):=by rw[zbd,if_neg (by omega),if_pos ⟨h6,fun e=>by rw[e] at h1;simp at h1⟩]
  rw[e] at hpt hb ⊢
  exact zmI h2 hb hpt
theorem znX (b:Str) (w:List Data) (t:Ty) (q:Nat):RootOk (zbV b w t q):=by
 unfold zbV
 split
 ·have h4:=num4 b q
  have hd:Dr 3 (zaC b w (numV b q [3,2,4,1]).toNat t (q+1)).1:=by
   rcases hn:(numV b q [3,2,4,1]).toNat with _|d
   ·exact Dr.any 3
   ·exact Dr.le (by omega) (zqF (b:=b) (w:=w) d t (q+1)).1
  unfold zcP
  have hnb:=zpo (b:=b) (zaC b w (numV b q [3,2,4,1]).toNat t (q+1)).1.size 3 0 (zaC b w (numV b q [3,2,4,1]).toNat t (q+1)).2 hd
  rcases hnb.kids with h|⟨h1,h2⟩
  ·refine .inl fun k hk=>?_
   have hm:=h k hk
   generalize (zaC b w (numV b q [3,2,4,1]).toNat t (q+1)).1=p0 at *
   rcases hd with h|⟨h1,h2⟩|⟨h1,h2,h3⟩|⟨h1,h2⟩
   ·rw[h] at hm;simp[zaZ] at hm
   ·rw[h2] at hm;simp at hm
   ·exact h3 _ hm
   ·exact h2 _ hm
  ·refine .inr ⟨h1,h2, ?_⟩
   have:=hnb.bare
   rw[zbd,if_neg (by omega),if_pos ⟨h1,fun e=>by rw[e] at h2;simp at h2⟩] at this
   rw[this];exact hd
 ·exact .inl fun k hk=>by simp[anyP,Pat.kids] at hk
theorem zty {b:Str}{p:Pat}{q:Nat} (hr:RootOk p) (hs:zas w 10 t (mutP b p q).1=true):RootOk (mutP b p q).1:=by
 have hv:zat zcB=anyQ:=(zbd _).trans (if_pos rfl)
 have two:∀ {x:Pat},zas w 10 t x=true→(x.op=1∨x.op=2∨x.op=3)→x.kids=[]:=fun h ho=>zeg h (by omega) (by omega) (by omega)
 rcases hr with hr|⟨h6,h1,h2⟩
 ·refine .inl ?_
  unfold mutP
  split;exact hr
  split;exact hr
  split;exact hr
  split
  ·intro k hk
   rw[zaZ] at hk
   rcases List.mem_append.1 hk with hk|hk
   ·exact hr k hk
   ·rw[List.mem_singleton.1 hk,hv];exact Dr.any 2
  split
  ·intro k hk
   rw[zaZ] at hk
   rcases List.mem_or_eq_of_mem_set hk with hk|rfl
   ·exact hr k hk
   ·rw[hv];exact Dr.any 2
  split;exact hr
  exact hr
 ·have keep:∀c n m v:Int,RootOk (.mk p.op c n m v p.kids):=fun c n m v=> .inr ⟨h6,h1,h2⟩
  unfold mutP at hs ⊢
  split
  ·rename_i e
   rw[if_pos e] at hs
   have hm:=zkX (b:=b) (p:=q+1) (l:=[0,7,1,2,5]) (by simp)
   simp only[List.mem_cons,List.not_mem_nil,or_false] at hm
   exfalso
   have hs:zas w 10 t (.mk (numV b (q+1) [0,7,1,2,5]) p.ctor p.n p.m p.var p.kids)=true:=hs
   have ho:=ziB hs
   have hk:(Pat.mk (numV b (q+1) [0,7,1,2,5]) p.ctor p.n p.m p.var p.kids).kids.length=1:=h1
   by_cases h5:(Pat.mk (numV b (q+1) [0,7,1,2,5]) p.ctor p.n p.m p.var p.kids).op=5
   ·have:=(zeO hs h5).1;omega
   ·rw[zbZ] at ho h5
    have ho2:(Pat.mk (numV b (q+1) [0,7,1,2,5]) p.ctor p.n p.m p.var p.kids).op=numV b (q+1) [0,7,1,2,5]:=rfl
    have:=two hs (by omega)
    rw[this] at hk;simp at hk
  rename_i e0
  rw[if_neg e0] at hs
  split;exact keep _ _ _ _
  rename_i e1
  rw[if_neg e1] at hs
  split;exact keep _ _ _ _
  rename_i e2
  rw[if_neg e2] at hs
  split
  ·rename_i e3
   rw[if_pos e3] at hs
   exfalso
   have:=(zeN hs (by rw[zbZ];exact h6)).1
   rw[zaZ,List.length_append,List.length_singleton] at this;omega
  split
  ·refine .inl fun k hk=>?_
   rw[zaZ] at hk
   match hkk:p.kids,h1 with
   | [a],_=>
    rw[hkk] at hk
    simp at hk
    rw[hk,hv];exact Dr.any 2
  split;exact keep _ _ _ _
  exact keep _ _ _ _
theorem ztx {b b2:Str}{w2:List Data}{t2:Ty}{q q2:Nat} (hs:zas w 10 t (mutP b (zbV b2 w2 t2 q2) q).1=true):Form (zap (zat (mutP b (zbV b2 w2 t2 q2) q).1)):=
 znW (zty (znX _ _ _ _) hs) hs
end
theorem zuJ {w:List Data} (hs:WSmall w) (hn:zfu w=true){a k:Int}{p q:Pat} (h2:zb7 w a k p q=true) (hf:zas w 10 ⟨a,k⟩ p=true→Form (zap (zat p))):FewQ w ⟨a,k⟩ (zaD p):=by
 obtain⟨hsp,hin,t1,t2,s1,s2,e1,e2,_⟩:=zeQ hs h2
 intro res h
 rw[e1] at h t1
 exact zo6 hsp hn hin (hf s1) t1 h
theorem ziP {w:List Data}{t:Ty}{p:Pat}{v:Val}{m:Nat} (h:zas w 10 t p=true) (hv:zaP w m t v=true) (e:zaD p=zap (zat p)):(zaD p).any (fun x=>hitP x v)=(za9 10 p v).2:=by
 rw[e,Bool.eq_iff_iff,zep 10 m h hv,List.any_eq_true]
theorem zqS {w:List Data}{a k:Int}{p q:Pat}{z:List Pat} (h:meV w a k p q=some z):zb7 w a k p q=true∧sepV w ⟨a,k⟩ (zbJ (zaD p) (zaD q))=some z∧z.all (isP w ⟨a,k⟩)=true:=by
 cases h2:zb7 w a k p q with
 |false=>rw[zpj h2] at h;cases h
 |true=>
  cases h3:sepV w ⟨a,k⟩ (zbJ (zaD p) (zaD q)) with
  |none=>rw[zrw h2 h3] at h;cases h
  |some r=>
   rw[zrx h2 h3] at h
   split at h
   ·cases h;exact⟨rfl,rfl,by assumption⟩
   ·cases h
theorem zsF {w:List Data}{t:Ty}{xs ys:List Pat}{v:Val}{m:Nat} (hx:∀x∈xs,zac w 10 t x=true) (hy:∀y∈ys,zac w 10 t y=true) (hv:zaP w m t v=true):(zbJ xs ys).any (fun x=>hitP x v)=(xs.any (fun x=>hitP x v)&&ys.any (fun x=>hitP x v)):=by
 rw[Bool.eq_iff_iff,Bool.and_eq_true,List.any_eq_true,List.any_eq_true,List.any_eq_true]
 constructor
 ·rintro ⟨z,hz,hh⟩
  obtain⟨x,h1,y,h2,h3⟩:=zds.1 hz
  have:=ziv 10 m (hx x h1) (hy y h2) hv 10 (Nat.le_refl _)
  rw[h3] at this
  dsimp only at this
  rw[this,Bool.and_eq_true] at hh
  exact⟨⟨x,h1,hh.1⟩,⟨y,h2,hh.2⟩⟩
 ·rintro ⟨⟨x,h1,h2⟩,⟨y,h3,h4⟩⟩
  have:=ziv 10 m (hx x h1) (hy y h3) hv 10 (Nat.le_refl _)
  cases hm:zan 10 x y with
  |none=>rw[hm] at this;dsimp only at this;rw[h2,h4] at this;cases this
  |some z=>
   rw[hm] at this
   dsimp only at this
   exact⟨z,zds.2 ⟨x,h1,y,h3,hm⟩,by rw[this,h2,h4];rfl⟩
theorem zqR {w:List Data} (hs:WSmall w){a k:Int}{p q:Pat}{z:List Pat}{v:Val}{m:Nat} (h:meV w a k p q=some z) (hv:zaP w m ⟨a,k⟩ v=true):z.countP (fun x=>hitP x v)=one ((za9 10 p v).2&&(za9 10 q v).2):=by
 obtain⟨h2,h3,h5⟩:=zqS h
 obtain⟨hsp,hin,t1,t2,s1,s2,e1,e2,_⟩:=zeQ hs h2
 rw[zmW hsp hin hv _ [] [] (by simp) (ze3 t1 t2) h3,zsF t1 t2 hv,ziP s2 hv e2,ziP s1 hv e1]
 simp only[List.countP_nil,List.any_nil,Nat.zero_add]
 rfl
theorem zsE {w:List Data} (hs:WSmall w){a k:Int}{p q:Pat}{z:List Pat} (h:meV w a k p q=some z):∀x∈z,zac w 11 ⟨a,k⟩ x=true∧isP w ⟨a,k⟩ x=true∧∃m v,zaP w m ⟨a,k⟩ v=true∧hitP x v=true:=by
 obtain⟨h2,h3,h5⟩:=zqS h
 obtain⟨hsp,hin,t1,t2,s1,s2,e1,e2,_⟩:=zeQ hs h2
 intro x hx
 obtain⟨p1,_,p2⟩:=zmX (S:=fun _=>True) (fun _ _ _ _ _ _=>trivial) _ [] [] (by simp) (fun b hb=>⟨ze3 t1 t2 b hb,trivial⟩) (by simp) h3 x hx
 obtain⟨m,v,h6,h7⟩:=zi0 hsp 11 hin p1 (by unfold zbe at p2;simpa using p2)
 exact⟨p1,List.all_eq_true.1 h5 x hx,m,v,h6,h7⟩
theorem zpi {w:List Data} (hs:WSmall w){a k:Int}{p q:Pat}{z y:List Pat} (h:meV w a k p q=some z) (h2:meV w a k q p=some y):z=[]→y=[]:=by
 intro hz
 cases y with
 |nil=>rfl
 |cons x r=>
  exfalso
  obtain⟨_,_,m,v,h3,h4⟩:=zsE hs h2 x (by simp)
  have h5:0<(x::r).countP (fun y=>hitP y v):=List.countP_pos_iff.2 ⟨x,by simp,h4⟩
  rw[zqR hs h2 h3] at h5
  have h6:=zqR hs h h3
  rw[hz,Bool.and_comm] at h6
  rw[←h6] at h5
  simp at h5
section
variable {w:List Data}{n:Nat}{t:Ty}
theorem zdV {n:Nat}{x y z:Pat} (h:x.op=1) (hm:zan n x y=some z):z=y:=by
 cases n with
 |zero=>simp[zan] at hm
 |succ n=>rw[zfW h] at hm;cases hm;rfl
theorem zfY {n:Nat}{x y z:Pat} (h1:x.op≠1) (h:y.op=1) (hm:zan n x y=some z):z=x:=by
 cases n with
 |zero=>simp[zan] at hm
 |succ n=>rw[zgX h1 h] at hm;cases hm;rfl
theorem znI {n:Nat}{x y z:Pat} (h:x.op=3) (h2:y.op≠1) (hm:zan n x y=some z):z.op=3:=by
 cases n with
 |zero=>simp[zan] at hm
 |succ n=>
  rw[zgY h h2] at hm
  split at hm
  ·cases hm;rfl
  ·cases hm
theorem zeG {n:Nat}{a b z:Pat} (hm:zan n a b=some z) (h:a.op=4) (h2:b.op≠1) (hc:¬a.ctor=b.ctor):False:=by
 cases n with
 |zero=>simp[zan] at hm
 |succ n=>rw[zfq h h2 hc] at hm;cases hm
theorem zdz {n:Nat}{c c':Int}{l l':List Pat}{z:Pat} (hl:l.length=l'.length) (hm:zan n (zaS c l) (zaS c' l')=some z):c=c'∧∃r n',z=zaS c r∧r.length=l.length∧∀i,i<l.length→zan n' (nth l i) (nth l' i)=some (nth r i):=by
 cases n with
 |zero=>simp[zan] at hm
 |succ n=>
  by_cases hc:c=c'
  ·rw[zfX (a:=zaS c l) (b:=zaS c' l') rfl (by show ¬(4:Int)=1;decide) hc] at hm
   cases hx:zbo (zan n) (zaS c l).kids (zaS c' l').kids [] with
   |none=>rw[hx] at hm;cases hm
   |some r=>
    rw[hx] at hm
    simp only[Option.map_some,Option.some.injEq] at hm
    obtain⟨r',e,h1,h2⟩:=zeb (show(zaS c l).kids.length=(zaS c' l').kids.length from hl) hx
    rw[List.nil_append] at e
    subst e
    exact⟨hc,r,n,hm.symm,h1,h2⟩
  ·exact(zeG hm rfl (by first|(show ¬(4:Int)=1;decide)|assumption|omega) hc).elim
theorem zhj {n k:Nat}{x y z:Pat} (hx:zac w k t x=true) (hy:zac w k t y=true) (h1:shal x) (h2:shal y) (hm:zan n x y=some z):shal z:=by
 by_cases o1:x.op=1
 ·rw[zdV o1 hm];exact h2
 by_cases o2:y.op=1
 ·rw[zfY o1 o2 hm];exact h1
 by_cases o3:x.op=3
 ·exact .inr (.inl (znI o3 o2 hm))
 have hso:=zbM hx hy o1 o2
 have px:=zbc hx
 rcases h1 with h|h|⟨c,l,rfl,hl⟩
 ·exact absurd h o1
 ·exact absurd h o3
 rcases h2 with h|h|⟨c',l',rfl,hl'⟩
 ·exact absurd h o2
 ·have:(4:Int)=3:=hso.trans h;omega
 have e1:=(zax hx rfl).2.2.1
 have e2:=(zax hy rfl).2.2.1
 by_cases hc:c=c'
 ·subst hc
  obtain⟨_,r,n',rfl,h3,h4⟩:=zdz (show l.length=l'.length from e1.trans e2.symm) hm
  refine .inr (.inr ⟨c,r,rfl,fun k hk=>?_⟩)
  obtain⟨i,hi,rfl⟩:=List.getElem_of_mem hk
  have h5:=h4 i (by omega)
  rw[hl _ (zae (by omega)),zaG hi] at h5
  have:=zdV (show anyQ.op=1 from rfl) h5
  rw[this];exact hl' _ (zae (by rw[←show l.length=l'.length from e1.trans e2.symm];omega))
 ·cases n with
  |zero=>simp[zan] at hm
  |succ n=>exact(zeG hm rfl (by first|(show ¬(4:Int)=1;decide)|assumption|omega) hc).elim
theorem znG {n k:Nat}{x y z:Pat} (hx:zac w k t x=true) (hy:zac w k t y=true) (h1:¬shal x) (h2:shal y) (hm:zan n x y=some z):z=x:=by
 have px:=zbc hx
 have x4:x.op=4:=by
  rcases px with h|h|h
  ·exact absurd (.inl h) h1
  ·exact absurd (.inr (.inl h)) h1
  ·exact h
 by_cases o2:y.op=1
 ·exact zfY (by omega) o2 hm
 have hso:=zbM hx hy (by omega) o2
 rcases h2 with h|h|⟨c',l',rfl,hl'⟩
 ·exact absurd h o2
 ·omega
 obtain⟨_,_,e1,e3⟩:=zax hx x4
 have e2:=(zax hy rfl).2.2.1
 rw[e3] at hm ⊢
 by_cases hc:x.ctor=c'
 ·have hlen:x.kids.length=l'.length:=by rw[e1,hc];exact e2.symm
  obtain⟨_,r,n',rfl,h3,h4⟩:=zdz hlen hm
  have:r=x.kids:=zhQ h3 (fun i hi=>by
   have h5:=h4 i (by omega)
   rw[hl' _ (zae (by omega))] at h5
   by_cases o:(nth x.kids i).op=1
   ·have:=zdV o h5
    rw[this]
    have hk:=zaE (w:=w) (n:=k-1) (t:=t) (p:=x) (by
     cases k with
     |zero=>simp[zac] at hx
     |succ k=>exact hx) (i:=i) (by omega)
    exact(zv8 hk o).symm
   ·exact zfY o rfl h5)
  rw[this]
 ·cases n with
  |zero=>simp[zan] at hm
  |succ n=>exact(zeG hm rfl (by first|(show ¬(4:Int)=1;decide)|assumption|omega) hc).elim
theorem zlS {n k:Nat}{x y z:Pat} (hx:zac w k t x=true) (hy:zac w k t y=true) (h1:shal x) (h2:¬shal y) (hm:zan n x y=some z):z=y:=by
 have y4:y.op=4:=by
  rcases zbc hy with h|h|h
  ·exact absurd (.inl h) h2
  ·exact absurd (.inr (.inl h)) h2
  ·exact h
 by_cases o1:x.op=1
 ·exact zdV o1 hm
 have hso:=zbM hx hy o1 (by omega)
 rcases h1 with h|h|⟨c',l',rfl,hl'⟩
 ·exact absurd h o1
 ·omega
 obtain⟨_,_,e1,e3⟩:=zax hy y4
 have e2:=(zax hx rfl).2.2.1
 rw[e3] at hm ⊢
 by_cases hc:c'=y.ctor
 ·have hlen:l'.length=y.kids.length:=by rw[e1,←hc];exact e2
  obtain⟨_,r,n',rfl,h3,h4⟩:=zdz hlen hm
  have:r=y.kids:=zhQ (by omega) (fun i hi=>by
   have h5:=h4 i (by omega)
   rw[hl' _ (zae (by omega))] at h5
   exact zdV rfl h5)
  rw[this,hc]
 ·cases n with
  |zero=>simp[zan] at hm
  |succ n=>exact(zeG hm rfl (by first|(show ¬(4:Int)=1;decide)|assumption|omega) hc).elim
theorem zlT {n k:Nat}{x y z:Pat} (hx:zac w (k+1) t x=true) (hy:zac w (k+1) t y=true) (h1:zfM x) (h2:zfM y) (hm:zan n x y=some z):zfM z:=by
 by_cases o1:x.op=1
 ·rw[zdV o1 hm];exact h2
 by_cases o2:y.op=1
 ·rw[zfY o1 o2 hm];exact h1
 by_cases o3:x.op=3
 ·exact .inr (.inl (znI o3 o2 hm))
 have hso:=zbM hx hy o1 o2
 rcases h1 with h|h|⟨c,l,rfl,hl⟩
 ·exact absurd h o1
 ·exact absurd h o3
 rcases h2 with h|h|⟨c',l',rfl,hl'⟩
 ·exact absurd h o2
 ·have:(4:Int)=3:=hso.trans h;omega
 have e1:=(zax hx rfl).2.2.1
 have e2:=(zax hy rfl).2.2.1
 by_cases hc:c=c'
 ·subst hc
  have hll:l.length=l'.length:=e1.trans e2.symm
  obtain⟨_,r,n',rfl,h3,h4⟩:=zdz hll hm
  refine .inr (.inr ⟨c,r,rfl,fun q hq=>?_⟩)
  obtain⟨i,hi,rfl⟩:=List.getElem_of_mem hq
  have h5:=h4 i (by omega)
  rw[zaG hi] at h5
  have kx:=zaE hx (i:=i) (by show i<l.length;omega)
  have ky:=zaE hy (i:=i) (by show i<l'.length;omega)
  rw[zaR rfl] at kx ky
  exact zhj kx ky (hl _ (zae (by omega))) (hl' _ (zae (by omega))) h5
 ·cases n with
  |zero=>simp[zan] at hm
  |succ n=>exact(zeG hm rfl (by first|(show ¬(4:Int)=1;decide)|assumption|omega) hc).elim
theorem znE {f g:Pat→Pat→Option Pat} (h:∀a b z,f a b=some z→g a b=some z):∀ {a b acc l:List Pat},zbo f a b acc=some l→zbo g a b acc=some l
 | [],b,acc,l,hm=>by
  cases b<;>exact hm
 |p::r,[],acc,l,hm=>hm
 |p::r,q::s,acc,l,hm=>by
  unfold zbo at hm ⊢
  cases hf:f p q with
  |none=>rw[hf] at hm;cases hm
  |some x=>
   rw[hf] at hm
   rw[h _ _ _ hf]
   exact znE h hm
theorem zqT:∀(n:Nat){x y z:Pat},zan n x y=some z→zan (n+1) x y=some z
 |0,x,y,z,h=>by simp[zan] at h
 |n+1,x,y,z,h=>by
  rw[zan] at h ⊢
  split
  ·rename_i c;rw[if_pos c] at h;exact h
  rename_i c1
  rw[if_neg c1] at h
  split
  ·rename_i c;rw[if_pos c] at h;exact h
  rename_i c2
  rw[if_neg c2] at h
  split
  ·rename_i c;rw[if_pos c] at h;exact h
  rename_i c3
  rw[if_neg c3] at h
  split
  ·rename_i c
   rw[if_pos c] at h
   cases hl:zbo (zan n) x.kids y.kids [] with
   |none=>rw[hl] at h;cases h
   |some l=>
    rw[hl] at h
    rw[znE (fun a b z hz=>zqT n hz) hl]
    exact h
  ·rename_i c;rw[if_neg c] at h;cases h
theorem znH {n m:Nat} (h:n≤m){x y z:Pat} (hz:zan n x y=some z):zan m x y=some z:=by
 induction h with
 |refl=>exact hz
 |step _ ih=>exact zqT _ ih
def MeetK (w:List Data) (k:Nat) (t:Ty) (K K':Pat→Prop) (z:Pat):Prop:=∃x y n,K x∧K' y∧zac w k t x=true∧zac w k t y=true∧zan n x y=some z
theorem ztE {k:Nat}{K K':Pat→Prop} (h1:PosP K) (h2:PosP K'):PosP (MeetK w (k+1) t K K'):=by
 rcases h1 with h1|⟨x0,a1,a2,a3⟩
 ·rcases h2 with h2|⟨y0,b1,b2,b3⟩
  ·exact .inl fun z ⟨x,y,n,c1,c2,c3,c4,c5⟩=>zhj c3 c4 (h1 x c1) (h2 y c2) c5
  ·exact .inr ⟨y0,b1,b2,fun z ⟨x,y,n,c1,c2,c3,c4,c5⟩=>by
    have:=b3 y c2
    subst this
    exact zlS c3 c4 (h1 x c1) b2 c5⟩
 ·rcases h2 with h2|⟨y0,b1,b2,b3⟩
  ·exact .inr ⟨x0,a1,a2,fun z ⟨x,y,n,c1,c2,c3,c4,c5⟩=>by
    have:=a3 x c1
    subst this
    exact znG c3 c4 a2 (h2 y c2) c5⟩
  ·refine PosP.one (fun z z' ⟨x,y,n,c1,c2,c3,c4,c5⟩ ⟨x',y',n',d1,d2,d3,d4,d5⟩=>?_) (fun z ⟨x,y,n,c1,c2,c3,c4,c5⟩=>?_)
   ·have e1:=a3 x c1;have e2:=b3 y c2;have e3:=a3 x' d1;have e4:=b3 y' d2
    subst e1;subst e2;rw[e3,e4] at d5
    rcases Nat.le_total n n' with h|h
    ·have:=znH h c5;rw[this] at d5;cases d5;rfl
    ·have:=znH h d5;rw[this] at c5;cases c5;rfl
   ·have e1:=a3 x c1;have e2:=b3 y c2
    subst e1;subst e2
    exact zlT c3 c4 a1 b1 c5
theorem zu1 {k:Nat}{K:Pat→Prop} (h:PosP K):PosP (fun z=>K z∨MeetK w (k+1) t shal K z):=by
 rcases h with h|⟨y0,b1,b2,b3⟩
 ·refine .inl fun z hz=>?_
  rcases hz with hz|⟨x,y,n,c1,c2,c3,c4,c5⟩
  ·exact h z hz
  ·exact zhj c3 c4 c1 (h y c2) c5
 ·refine .inr ⟨y0,b1,b2,fun z hz=>?_⟩
  rcases hz with hz|⟨x,y,n,c1,c2,c3,c4,c5⟩
  ·exact b3 z hz
  ·have:=b3 y c2
   subst this
   exact zlS c3 c4 c1 b2 c5
theorem zu2 {k:Nat}{K:Pat→Prop} (h:PosP K):PosP (fun z=>K z∨MeetK w (k+1) t K shal z):=by
 rcases h with h|⟨y0,b1,b2,b3⟩
 ·refine .inl fun z hz=>?_
  rcases hz with hz|⟨x,y,n,c1,c2,c3,c4,c5⟩
  ·exact h z hz
  ·exact zhj c3 c4 (h x c1) c2 c5
 ·refine .inr ⟨y0,b1,b2,fun z hz=>?_⟩
  rcases hz with hz|⟨x,y,n,c1,c2,c3,c4,c5⟩
  ·exact b3 z hz
  ·have:=b3 x c1
   subst this
   exact znG c3 c4 b2 c2 c5
theorem zic {K:Nat→Pat→Prop}{c:Int}{m:Nat}{p:Pat}{n:Nat} (h:CSat K c m p) (hp:zac w n t p=true):m=(zaa w t c).length∧p.op=4∧p.ctor=c:=by
 obtain⟨l,rfl,h1,_⟩:=h
 exact⟨by rw[←h1];exact(zax hp rfl).2.2.1,rfl,rfl⟩
theorem zrp {xs ys:List Pat} (hx:∀x∈xs,zac w 10 t x=true) (hy:∀y∈ys,zac w 10 t y=true) (h1:Form xs) (h2:Form ys):Form (zbJ xs ys):=by
 rcases h1 with h1|⟨c,m,K,hK,h1⟩
 ·rcases h2 with h2|⟨c',m',K',hK',h2⟩
  ·refine .inl fun z hz=>?_
   obtain⟨x,a1,y,a2,a3⟩:=zds.1 hz
   exact zlT (k:=9) (hx x a1) (hy y a2) (h1 x a1) (h2 y a2) a3
  ·refine .inr ⟨c',m',fun j z=>K' j z∨MeetK w 9 (nth (zaa w t c') j) shal (K' j) z,fun j hj=>zu1 (hK' j hj),fun z hz=>?_⟩
   obtain⟨x,a1,y,a2,a3⟩:=zds.1 hz
   have px:=hx x a1
   have py:=hy y a2
   obtain⟨b1,b2,b3⟩:=zic (h2 y a2) py
   obtain⟨ly,rfl,b4,b5⟩:=h2 y a2
   by_cases o1:x.op=1
   ·rw[zdV o1 a3];exact⟨ly,rfl,b4,fun j hj=> .inl (b5 j hj)⟩
   have hso:=zbM px py o1 (by show ¬(4:Int)=1;decide)
   rcases h1 x a1 with h|h|⟨cx,lx,rfl,hl⟩
   ·exact absurd h o1
   ·have:(4:Int)=3:=by rw[←show(zaS c' ly).op=4 from rfl,←hso];exact h
    omega
   by_cases hc:cx=c'
   ·subst hc
    have e1:=(zax px rfl).2.2.1
    have hll:lx.length=ly.length:=by have e:lx.length=(zaa w t cx).length:=e1;omega
    obtain⟨_,r,n',rfl,h3,h4⟩:=zdz hll a3
    refine⟨r,rfl,by omega,fun j hj=> .inr ⟨nth lx j,nth ly j,n',hl _ (zae (by omega)),b5 j hj, ?_, ?_,h4 j (by omega)⟩⟩
    ·have:=zaE px (i:=j) (by show j<lx.length;omega)
     rwa [zaR rfl] at this
    ·have:=zaE py (i:=j) (by show j<ly.length;omega)
     rwa [zaR rfl] at this
   ·exact(zeG a3 rfl (by first|(show ¬(4:Int)=1;decide)|assumption|omega) hc).elim
 ·rcases h2 with h2|⟨c',m',K',hK',h2⟩
  ·refine .inr ⟨c,m,fun j z=>K j z∨MeetK w 9 (nth (zaa w t c) j) (K j) shal z,fun j hj=>zu2 (hK j hj),fun z hz=>?_⟩
   obtain⟨x,a1,y,a2,a3⟩:=zds.1 hz
   have px:=hx x a1
   have py:=hy y a2
   obtain⟨b1,b2,b3⟩:=zic (h1 x a1) px
   obtain⟨lx,rfl,b4,b5⟩:=h1 x a1
   by_cases o2:y.op=1
   ·rw[zfY (by show ¬(4:Int)=1;decide) o2 a3];exact⟨lx,rfl,b4,fun j hj=> .inl (b5 j hj)⟩
   have hso:=zbM px py (by show ¬(4:Int)=1;decide) o2
   rcases h2 y a2 with h|h|⟨cy,ly,rfl,hl⟩
   ·exact absurd h o2
   ·have:(4:Int)=3:=hso.trans h
    omega
   by_cases hc:c=cy
   ·subst hc
    have e1:=(zax py rfl).2.2.1
    have hll:lx.length=ly.length:=by have e:ly.length=(zaa w t c).length:=e1;omega
    obtain⟨_,r,n',rfl,h3,h4⟩:=zdz hll a3
    refine⟨r,rfl,by omega,fun j hj=> .inr ⟨nth lx j,nth ly j,n',b5 j hj,hl _ (zae (by omega)), ?_, ?_,h4 j (by omega)⟩⟩
    ·have:=zaE px (i:=j) (by show j<lx.length;omega)
     rwa [zaR rfl] at this
    ·have:=zaE py (i:=j) (by show j<ly.length;omega)
     rwa [zaR rfl] at this
   ·exact(zeG a3 rfl (by first|(show ¬(4:Int)=1;decide)|assumption|omega) hc).elim
  ·by_cases hc:c=c'
   ·subst hc
    refine .inr ⟨c,m,fun j z=>MeetK w 9 (nth (zaa w t c) j) (K j) (fun y=>j<m'∧K' j y) z,fun j hj=>ztE (hK j hj) ?_,fun z hz=>?_⟩
    ·by_cases hj':j<m'
     ·rcases hK' j hj' with h|⟨x,d1,d2,d3⟩
      ·exact .inl fun k hk=>h k hk.2
      ·exact .inr ⟨x,d1,d2,fun k hk=>d3 k hk.2⟩
     ·exact .inl fun k hk=>absurd hk.1 hj'
    ·obtain⟨x,a1,y,a2,a3⟩:=zds.1 hz
     have px:=hx x a1
     have py:=hy y a2
     obtain⟨b1,_,_⟩:=zic (h1 x a1) px
     obtain⟨d1,_,_⟩:=zic (h2 y a2) py
     obtain⟨lx,rfl,b4,b5⟩:=h1 x a1
     obtain⟨ly,rfl,d4,d5⟩:=h2 y a2
     obtain⟨_,r,n',rfl,h3,h4⟩:=zdz (show lx.length=ly.length by omega) a3
     refine⟨r,rfl,by omega,fun j hj=>⟨nth lx j,nth ly j,n',b5 j hj,⟨by omega,d5 j (by omega)⟩, ?_, ?_,h4 j (by omega)⟩⟩
     ·have:=zaE px (i:=j) (by show j<lx.length;omega)
      rwa [zaR rfl] at this
     ·have:=zaE py (i:=j) (by show j<ly.length;omega)
      rwa [zaR rfl] at this
   ·refine .inl fun z hz=>?_
    obtain⟨x,a1,y,a2,a3⟩:=zds.1 hz
    obtain⟨lx,rfl,_⟩:=h1 x a1
    obtain⟨ly,rfl,_⟩:=h2 y a2
    exact(zeG a3 rfl (by first|(show ¬(4:Int)=1;decide)|assumption|omega) hc).elim
end
theorem zuI {w:List Data} (hs:WSmall w) (hn:zfu w=true){a k:Int}{p q:Pat} (h2:zb7 w a k p q=true) (hf:zas w 10 ⟨a,k⟩ p=true→Form (zap (zat p))) (hg:zas w 10 ⟨a,k⟩ q=true→Form (zap (zat q))):FewQ w ⟨a,k⟩ (zbJ (zaD p) (zaD q)):=by
 obtain⟨hsp,hin,t1,t2,s1,s2,e1,e2,_⟩:=zeQ hs h2
 intro res h
 rw[e1,e2] at h
 rw[e1] at t1
 rw[e2] at t2
 exact zo6 hsp hn hin (zrp t1 t2 (hf s1) (hg s2)) (ze3 t1 t2) h
def cvV (w:List Data) (a k:Int) (c:Cl):Bool:=zbL w ⟨a,k⟩&&clOk w ⟨a,k⟩ c
def cmV (w:List Data) (a k:Int) (c d:Cl):Option (List Pat):=if (cvV w a k c&&cvV w a k d)=true then meV w a k c.pat d.pat else none
theorem zfe {w:List Data} (hs:WSmall w){a k:Int}{c:Cl} (hok:c.pat.ok):FnD Tryz.prog 68 [.d (zam w),.agg [.d (.i a),.d (.i k)],.agg [.d (.i c.pat.op),.d (.i c.pat.ctor),.d (.i c.pat.n),.d (.i c.pat.m),.d (.i c.pat.var),.d (zad c.pat.kids),.d (.i c.g.op),.d (.i c.g.var),.d (.i c.g.n)]] [] (.d (.bool (cvV w a k c))) []:=by
 unfold cvV
 refine bd Tryz.f68 16 [] [] fun w0 F0 own kept hk=>?_
 refine bx 3004 ?_
 refine bx 3005 ?_
 refine ev ?_
 refine wc zt9 (zgg hs) rfl rfl ?_
 refine ev ?_
 refine sq (fun h1 h1p h1s=>?_) fun h1 h1p h1s=>?_
 refine Walk.call (cr:=[]) zvk (zkM (t:=⟨a,k⟩) (c:=c) (zez hs (zct (by assumption)).1) (zct (by assumption)).2.1 hok) rfl (.some rfl rfl h1) rfl rfl (LeL.refl _) trivial rfl rfl rfl ?_
 refine evs [] [(10,true)] ?_ ⟨⟨_,rfl,h1⟩,trivial⟩
 focus (refine rn0 (r1 rfl) (.eqd ?_);all_goals (first|rfl|(simp[h1s,h1p];done)|(simp_all;done)|(simp_all;omega)|omega))
 focus (refine rn0 (r1 rfl) (.eqd ?_);all_goals (first|rfl|(simp[h1s,h1p];done)|(simp_all;done)|(simp_all;omega)|omega))
theorem zfi {w:List Data} (hs:WSmall w){a k:Int}{c:Cl} (hok:c.pat.ok) (hsz:c.pat.size≤1000000000000):FnD Tryz.prog 69 [.d (zam w),.agg [.d (.i a),.d (.i k)],.agg [.d (.i c.pat.op),.d (.i c.pat.ctor),.d (.i c.pat.n),.d (.i c.pat.m),.d (.i c.pat.var),.d (zad c.pat.kids),.d (.i c.g.op),.d (.i c.g.var),.d (.i c.g.n)]] [] (.d (.bool (cvV w a k c))) []:=by
 unfold cvV
 refine bd Tryz.f69 16 [] [] fun w0 F0 own kept hk=>?_
 refine bx 3004 ?_
 refine bx 3005 ?_
 refine ev ?_
 refine wc zrY (zg3 hs) rfl rfl ?_
 refine ev ?_
 refine sq (fun h1 h1p h1s=>?_) fun h1 h1p h1s=>?_
 refine Walk.call (cr:=[]) zvl (zpJ (t:=⟨a,k⟩) (c:=c) (zez hs (zct (by assumption)).1) (ztW (zct (by assumption)).1) (zwF (by assumption)) hok hsz) rfl (.some rfl rfl h1) rfl rfl (LeL.refl _) trivial rfl rfl rfl ?_
 refine evs [] [(10,true)] ?_ ⟨⟨_,rfl,h1⟩,trivial⟩
 focus (refine rn0 (r1 rfl) (.eqd ?_);all_goals (first|rfl|(simp[h1s,h1p];done)|(simp_all;done)|(simp_all;omega)|omega))
 focus (refine rn0 (r1 rfl) (.eqd ?_);all_goals (first|rfl|(simp[h1s,h1p];done)|(simp_all;done)|(simp_all;omega)|omega))
theorem zff {w:List Data} (hs:WSmall w){a k:Int}{c d:Cl} (hc:c.pat.ok) (hd:d.pat.ok):FnD Tryz.prog 29 [.d (zam w),.agg [.d (.i a),.d (.i k)],.agg [.d (.i c.pat.op),.d (.i c.pat.ctor),.d (.i c.pat.n),.d (.i c.pat.m),.d (.i c.pat.var),.d (zad c.pat.kids),.d (.i c.g.op),.d (.i c.g.var),.d (.i c.g.n)],.agg [.d (.i d.pat.op),.d (.i d.pat.ctor),.d (.i d.pat.n),.d (.i d.pat.m),.d (.i d.pat.var),.d (zad d.pat.kids),.d (.i d.g.op),.d (.i d.g.var),.d (.i d.g.n)]] [] (.tup [.d (.bool (decide (0<(((cmV w a k c d).getD []).length:Int)))),.d (.bool (cmV w a k c d).isSome)]) []:=by
 have hv1:=zfe hs (a:=a) (k:=k) hc
 have hv2:=zfe hs (a:=a) (k:=k) hd
 have hv3:=zin hs (a:=a) (k:=k) hc hd
 unfold cmV
 generalize cvV w a k c=x at *
 generalize cvV w a k d=y at *
 generalize meV w a k c.pat d.pat=m at *
 cases m with
 |none=>
  refine bd Tryz.f29 41 [] [] fun w0 F0 own kept hk=>?_
  refine bx 3005 ?_
  refine bx 3006 ?_
  refine bx 3007 ?_
  refine ev ?_
  refine wc zos (hv1) rfl rfl ?_
  refine ev ?_
  refine sq (fun h1 h1p h1s=>?_) fun h1 h1p h1s=>?_
  refine sqT ?_
  refine rn0 (r2 rfl rfl) (.tup (.cons (.eqd ?_) (.cons (.eqd ?_) .nil)))
  rotate_left 2
  refine Walk.call (cr:=[]) zos (hv2) rfl (.some rfl rfl h1) rfl rfl (LeL.refl _) trivial rfl rfl rfl ?_
  refine evs [] [(17,false)] ?_ ⟨⟨_,rfl,h1⟩,trivial⟩
  refine sq (fun h3 h3p h3s=>?_) fun h3 h3p h3s=>?_
  refine rn0 (r2 rfl rfl) (.tup (.cons (.eqd ?_) (.cons (.eqd ?_) .nil)))
  rotate_left 2
  refine wc zt1 (hv3) rfl rfl ?_
  refine ev ?_
  refine sq (fun h4 h4p h4s=>?_) fun h4 h4p h4s=>?_
  refine rn0 (r2 rfl rfl) (.tup (.cons (.eqd ?_) (.cons (.eqd ?_) .nil)))
  rotate_left 2
  refine rn0 (r2 rfl rfl) (.tup (.cons (.eqd ?_) (.cons (.eqd ?_) .nil)))
  rotate_left 2
  all_goals (first|rfl|(cases x<;>cases y<;>first|rfl|contradiction|(simp at *;done)))
 |some z=>
  refine bd Tryz.f29 41 [] [] fun w0 F0 own kept hk=>?_
  refine bx 3005 ?_
  refine bx 3006 ?_
  refine bx 3007 ?_
  refine ev ?_
  refine wc zos (hv1) rfl rfl ?_
  refine ev ?_
  refine sq (fun h1 h1p h1s=>?_) fun h1 h1p h1s=>?_
  refine sqT ?_
  refine rn0 (r2 rfl rfl) (.tup (.cons (.eqd ?_) (.cons (.eqd ?_) .nil)))
  rotate_left 2
  refine Walk.call (cr:=[]) zos (hv2) rfl (.some rfl rfl h1) rfl rfl (LeL.refl _) trivial rfl rfl rfl ?_
  refine evs [] [(17,false)] ?_ ⟨⟨_,rfl,h1⟩,trivial⟩
  refine sq (fun h3 h3p h3s=>?_) fun h3 h3p h3s=>?_
  refine rn0 (r2 rfl rfl) (.tup (.cons (.eqd ?_) (.cons (.eqd ?_) .nil)))
  rotate_left 2
  refine wc zt1 (hv3) rfl rfl ?_
  refine ev ?_
  refine sq (fun h4 h4p h4s=>?_) fun h4 h4p h4s=>?_
  refine rn0 (r2 rfl rfl) (.tup (.cons (.eqd ?_) (.cons (.eqd ?_) .nil)))
  rotate_left 2
  refine rn0 (r2 rfl rfl) (.tup (.cons (.eqd ?_) (.cons (.eqd ?_) .nil)))
  rotate_left 2
  all_goals (first|rfl|(cases x<;>cases y<;>first|rfl|contradiction|(simp at *;done)|(simp[Pat.cs_len] at *;done)))
theorem ziX {w:List Data} (hs:WSmall w){a k:Int}{c d:Cl} (hc:c.pat.ok) (hd:d.pat.ok) (hcz:c.pat.size≤1000000000000) (hdz:d.pat.size≤1000000000000) (hfew:zb7 w a k c.pat d.pat=true→FewQ w ⟨a,k⟩ (zbJ (zaD c.pat) (zaD d.pat))):FnD Tryz.prog 30 [.d (zam w),.agg [.d (.i a),.d (.i k)],.agg [.d (.i c.pat.op),.d (.i c.pat.ctor),.d (.i c.pat.n),.d (.i c.pat.m),.d (.i c.pat.var),.d (zad c.pat.kids),.d (.i c.g.op),.d (.i c.g.var),.d (.i c.g.n)],.agg [.d (.i d.pat.op),.d (.i d.pat.ctor),.d (.i d.pat.n),.d (.i d.pat.m),.d (.i d.pat.var),.d (zad d.pat.kids),.d (.i d.g.op),.d (.i d.g.var),.d (.i d.g.n)]] [] (.tup [.d (.bool (decide (0<(((cmV w a k c d).getD []).length:Int)))),.d (.bool (cmV w a k c d).isSome)]) []:=by
 have hv1:=zfi hs (a:=a) (k:=k) hc hcz
 have hv2:=zfi hs (a:=a) (k:=k) hd hdz
 have hv3:=ziC hs (a:=a) (k:=k) hc hd hcz hdz hfew
 unfold cmV
 generalize cvV w a k c=x at *
 generalize cvV w a k d=y at *
 generalize meV w a k c.pat d.pat=m at *
 cases m with
 |none=>
  refine bd Tryz.f30 38 [] [] fun w0 F0 own kept hk=>?_
  refine bx 3005 ?_
  refine bx 3006 ?_
  refine bx 3007 ?_
  refine ev ?_
  refine wc zot (hv1) rfl rfl ?_
  refine ev ?_
  refine sq (fun h1 h1p h1s=>?_) fun h1 h1p h1s=>?_
  refine sqT ?_
  refine rn0 (r2 rfl rfl) (.tup (.cons (.eqd ?_) (.cons (.eqd ?_) .nil)))
  rotate_left 2
  refine Walk.call (cr:=[]) zot (hv2) rfl (.some rfl rfl h1) rfl rfl (LeL.refl _) trivial rfl rfl rfl ?_
  refine evs [] [(17,false)] ?_ ⟨⟨_,rfl,h1⟩,trivial⟩
  refine sq (fun h3 h3p h3s=>?_) fun h3 h3p h3s=>?_
  refine rn0 (r2 rfl rfl) (.tup (.cons (.eqd ?_) (.cons (.eqd ?_) .nil)))
  rotate_left 2
  refine wc zt2 (hv3) rfl rfl ?_
  refine ev ?_
  refine rn0 (r2 rfl rfl) (.tup (.cons (.eqd ?_) (.cons (.eqd ?_) .nil)))
  rotate_left 2
  all_goals (first|rfl|(cases x<;>cases y<;>first|rfl|contradiction|(simp at *;done)))
 |some z=>
  refine bd Tryz.f30 38 [] [] fun w0 F0 own kept hk=>?_
  refine bx 3005 ?_
  refine bx 3006 ?_
  refine bx 3007 ?_
  refine ev ?_
  refine wc zot (hv1) rfl rfl ?_
  refine ev ?_
  refine sq (fun h1 h1p h1s=>?_) fun h1 h1p h1s=>?_
  refine sqT ?_
  refine rn0 (r2 rfl rfl) (.tup (.cons (.eqd ?_) (.cons (.eqd ?_) .nil)))
  rotate_left 2
  refine Walk.call (cr:=[]) zot (hv2) rfl (.some rfl rfl h1) rfl rfl (LeL.refl _) trivial rfl rfl rfl ?_
  refine evs [] [(17,false)] ?_ ⟨⟨_,rfl,h1⟩,trivial⟩
  refine sq (fun h3 h3p h3s=>?_) fun h3 h3p h3s=>?_
  refine rn0 (r2 rfl rfl) (.tup (.cons (.eqd ?_) (.cons (.eqd ?_) .nil)))
  rotate_left 2
  refine wc zt2 (hv3) rfl rfl ?_
  refine ev ?_
  refine rn0 (r2 rfl rfl) (.tup (.cons (.eqd ?_) (.cons (.eqd ?_) .nil)))
  rotate_left 2
  all_goals (first|rfl|(cases x<;>cases y<;>first|rfl|contradiction|(simp at *;done)|(simp[Pat.cs_len] at *;done)))
def prA (b:Str):Pat:=(mutP b (typP b 0) (typQ b 0)).1
def prQ (b:Str):Nat:=(mutP b (typP b 0) (typQ b 0)).2
def prB (b:Str):Pat:=zbV b (zba b 0) (typT b 0) (prQ b)
theorem zwd (b:Str):prQ b≤610:=by
 have h1:=(znd b 0).2.2
 unfold prQ mutP
 repeat' split
 all_goals (dsimp only;omega)
theorem zwb (b:Str):(prA b).size≤2000∧(prA b).ok:=by
 have h:=znd b 0
 exact zuV (by omega) h.2.1
theorem zwc (b:Str):(prB b).size≤242∧(prB b).ok:=zmd (b:=b) (zdD b 0).few (zh4 b 0) (prQ b)
theorem ztF (b:Str){w:List Data}{t:Ty} (h:zas w 10 t (prA b)=true):Form (zap (zat (prA b))):=ztx h
theorem ztG (b:Str){w:List Data}{t:Ty} (h:zas w 10 t (prB b)=true):Form (zap (zat (prB b))):=znW (znX _ _ _ _) h
theorem zna {b:Str} (hb:b.length≤1000000000000):
  FnD Tryz.prog 45 [.d (zcJ b)] [] (.tup [.d (zam (zba (b.take 2000) 0)),.agg [.d (.i (typT (b.take 2000) 0).data),.d (.i (typT (b.take 2000) 0).index)],
   .agg [.d (.i (prA (b.take 2000)).op),.d (.i (prA (b.take 2000)).ctor),.d (.i (prA (b.take 2000)).n),.d (.i (prA (b.take 2000)).m),.d (.i (prA (b.take 2000)).var),.d (zad (prA (b.take 2000)).kids)],
   .agg [.d (.i (prB (b.take 2000)).op),.d (.i (prB (b.take 2000)).ctor),.d (.i (prB (b.take 2000)).n),.d (.i (prB (b.take 2000)).m),.d (.i (prB (b.take 2000)).var),.d (zad (prB (b.take 2000)).kids)]]) []:=by
 have hop:=zme hb
 have hb2:(b.take 2000).length≤2000:=by rw[List.length_take];omega
 generalize b.take 2000=e at *
 have hpo:=znd e 0
 have hl:=zdD e 0
 have hq:=zwd e
 have hty:=zmq (p:=0) hb2 (by omega)
 have hmp:=zk3 (q:=typQ e 0) hb2 (by omega) hpo.2.1
 have hso:=zh2 hb2 hl.dp.wt hl.few (a:=(typT e 0).data) (k:=(typT e 0).index) (p:=prQ e) (by omega) (zh4 e 0)
 rw[show(mutP e (typP e 0) (typQ e 0)).1=prA e from rfl,show(mutP e (typP e 0) (typQ e 0)).2=prQ e from rfl] at hmp
 rw[show zbV e (zba e 0) ⟨(typT e 0).data,(typT e 0).index⟩ (prQ e)=prB e from rfl] at hso
 generalize prA e=x1 at *
 generalize prB e=x2 at *
 generalize prQ e=q1 at *
 refine bd Tryz.f45 29 [] [] fun w0 F0 own kept hk=>?_
 refine ab 3003 tz25 ?_
 refine ab 3004 tz28 ?_
 refine ab 3005 tz28 ?_
 refine tv ?_
 refine Walk.call (cr:=[900]) zwn (hop) rfl .none rfl rfl (LeL.refl _) trivial rfl (by first|rfl|(simp only[zbf,List.all_cons,List.all_nil,zcg,zbU,AV.idsL,AV.ids,zal,zak,List.map_cons,List.map_nil];rfl)) (by first|rfl|(simp only[zaA,occH,occE,Res.ids,List.cons_append,List.nil_append,AV.idsL,AV.ids,zal,zak,zav,zaO,List.map_cons,List.map_nil,upC];rfl)) ?_
 refine ev ?_
 refine wd zwq (hty) rfl rfl ⟨rfl,trivial⟩ ?_
 refine ev ?_
 refine ab 3008 tz25 ?_
 refine ab 3009 tz28 ?_
 refine ab 3010 tz44 ?_
 refine ev ?_
 refine so ty25 ?_
 refine so ty28 ?_
 refine so ty44 ?_
 refine tv ?_
 refine wd zwr (hmp) rfl rfl ⟨rfl,trivial⟩ ?_
 refine evd [] [] ?_
 refine wd zua (hso) rfl rfl ⟨rfl,trivial⟩ ?_
 refine evd [] [] ?_
 refine so ty25 ?_
 refine so ty28 ?_
 refine so ty28 ?_
 refine dr ?_
 focus (refine rn0 (.cons (.tmp rfl) (.cons (.cellA ty25 rfl rfl rfl) (.cons (.cellA ty28 rfl rfl rfl) (.cons (.cellA ty28 rfl rfl rfl) .nil)))) (.tup (.cons (.eqd ?_) (.cons (.agg (.cons (.eqd ?_) (.cons (.eqd ?_) .nil))) (.cons (.agg (.cons (.eqd ?_) (.cons (.eqd ?_) (.cons (.eqd ?_) (.cons (.eqd ?_) (.cons (.eqd ?_) (.cons (.eqd ?_) .nil))))))) (.cons (.agg (.cons (.eqd ?_) (.cons (.eqd ?_) (.cons (.eqd ?_) (.cons (.eqd ?_) (.cons (.eqd ?_) (.cons (.eqd ?_) .nil))))))) .nil)))));all_goals (first|rfl|(simp[];done)|(simp_all;done)|(simp_all;omega)|omega))
theorem zg9 {b:Str} (hb:b.length≤1000000000000):
  FnD Tryz.prog 28 [.d (zcJ b)] [] (.tup [.d (zam (zba (b.take 2000) 0)),.agg [.d (.i (typT (b.take 2000) 0).data),.d (.i (typT (b.take 2000) 0).index)],
   .agg [.d (.i (prA (b.take 2000)).op),.d (.i (prA (b.take 2000)).ctor),.d (.i (prA (b.take 2000)).n),.d (.i (prA (b.take 2000)).m),.d (.i (prA (b.take 2000)).var),.d (zad (prA (b.take 2000)).kids),.d (.i 0),.d (.i 0),.d (.i 0)],
   .agg [.d (.i (prB (b.take 2000)).op),.d (.i (prB (b.take 2000)).ctor),.d (.i (prB (b.take 2000)).n),.d (.i (prB (b.take 2000)).m),.d (.i (prB (b.take 2000)).var),.d (zad (prB (b.take 2000)).kids),.d (.i 0),.d (.i 0),.d (.i 0)]]) []:=by
 refine bd Tryz.f28 23 [] [] fun w0 F0 own kept hk=>?_
 refine ab 3003 tz25 ?_
 refine ab 3004 tz50 ?_
 refine ab 3005 tz50 ?_
 refine tv ?_
 refine wc zwk (zna hb) rfl rfl ?_
 refine ev ?_
 refine ab 3007 tz25 ?_
 refine ab 3008 tz28 ?_
 refine ab 3009 tz28 ?_
 refine ev ?_
 refine so ty25 ?_
 refine so ty28 ?_
 refine so ty28 ?_
 refine tv ?_
 refine bu [0] [_] st50 ?_
 refine evd [] [] ?_
 refine bu [0] [_] st50 ?_
 refine evd [] [] ?_
 refine so ty25 ?_
 refine so ty50 ?_
 refine so ty50 ?_
 refine dr ?_
 refine rn0 (.cons (.tmp rfl) (.cons (.cellA ty25 rfl rfl rfl) (.cons (.cellA ty50 rfl rfl rfl) (.cons (.cellA ty50 rfl rfl rfl) .nil)))) (.tup (.cons (.eqd ?_) (.cons (.agg (.cons (.eqd ?_) (.cons (.eqd ?_) .nil))) (.cons (.agg (.cons (.eqd ?_) (.cons (.eqd ?_) (.cons (.eqd ?_) (.cons (.eqd ?_) (.cons (.eqd ?_) (.cons (.eqd ?_) (.cons (.eqd ?_) (.cons (.eqd ?_) (.cons (.eqd ?_) .nil)))))))))) (.cons (.agg (.cons (.eqd ?_) (.cons (.eqd ?_) (.cons (.eqd ?_) (.cons (.eqd ?_) (.cons (.eqd ?_) (.cons (.eqd ?_) (.cons (.eqd ?_) (.cons (.eqd ?_) (.cons (.eqd ?_) .nil)))))))))) .nil)))))
 rotate_left 21
 all_goals (rfl)
theorem zhT {b:Str} (hb:b.length≤1000000000000):FnD Tryz.prog 9 [.d (zcJ b)] [] (.d (.bool true)) []:=by
 have hdr:=zg9 hb
 have hs:WSmall (zba (b.take 2000) 0):=(zhA (b.take 2000) 0).small
 have hn:=zol (b.take 2000) 0
 have hp:=zwb (b.take 2000)
 have hq:=zwc (b.take 2000)
 have hf:=fun {w:List Data}{t:Ty}=>ztF (b.take 2000) (w:=w) (t:=t)
 have hfew:∀ {q},zb7 (zba (b.take 2000) 0) (typT (b.take 2000) 0).data (typT (b.take 2000) 0).index (prA (b.take 2000)) q=true→FewQ (zba (b.take 2000) 0) ⟨(typT (b.take 2000) 0).data,(typT (b.take 2000) 0).index⟩ (zaD (prA (b.take 2000))):=fun h=>zuJ hs hn h hf
 have hg:=fun {w:List Data}{t:Ty}=>ztG (b.take 2000) (w:=w) (t:=t)
 have hfewM:zb7 (zba (b.take 2000) 0) (typT (b.take 2000) 0).data (typT (b.take 2000) 0).index (prA (b.take 2000)) (prB (b.take 2000))=true→FewQ (zba (b.take 2000) 0) ⟨(typT (b.take 2000) 0).data,(typT (b.take 2000) 0).index⟩ (zbJ (zaD (prA (b.take 2000))) (zaD (prB (b.take 2000)))):=fun h=>zuI hs hn h hf hg
 clear hf hg
 generalize zba (b.take 2000) 0=w at *
 generalize (typT (b.take 2000) 0).data=a at *
 generalize (typT (b.take 2000) 0).index=k at *
 generalize prA (b.take 2000)=p at *
 generalize prB (b.take 2000)=q at *
 have hi:=zff hs (a:=a) (k:=k) (c:=⟨p,⟨0,0,0⟩⟩) (d:=⟨q,⟨0,0,0⟩⟩) hp.2 hq.2
 have hi2:=zff hs (a:=a) (k:=k) (c:=⟨q,⟨0,0,0⟩⟩) (d:=⟨p,⟨0,0,0⟩⟩) hq.2 hp.2
 have hsp:=ziX hs (a:=a) (k:=k) (c:=⟨p,⟨0,0,0⟩⟩) (d:=⟨q,⟨0,0,0⟩⟩) hp.2 hq.2 (by dsimp only;omega) (by dsimp only;omega) hfewM
 have hlen:∀z y,cmV w a k ⟨p,⟨0,0,0⟩⟩ ⟨q,⟨0,0,0⟩⟩=some z→cmV w a k ⟨q,⟨0,0,0⟩⟩ ⟨p,⟨0,0,0⟩⟩=some y→decide (0<(z.length:Int))=decide (0<(y.length:Int)):=fun z y h1 h2=>by
  unfold cmV at h1 h2
  split at h1
  ·split at h2
   ·rw[decide_eq_decide]
    have e1:=zpi hs h1 h2
    have e2:=zpi hs h2 h1
    constructor
    ·intro h
     rcases y with _|⟨y0,y⟩
     ·rw[e2 rfl] at h;exact h
     ·simp only[List.length_cons];omega
    ·intro h
     rcases z with _|⟨z0,z⟩
     ·rw[e1 rfl] at h;exact h
     ·simp only[List.length_cons];omega
   ·cases h2
  ·cases h1
 dsimp only at hi hi2 hsp
 generalize cmV w a k ⟨p,⟨0,0,0⟩⟩ ⟨q,⟨0,0,0⟩⟩=m at *
 generalize cmV w a k ⟨q,⟨0,0,0⟩⟩ ⟨p,⟨0,0,0⟩⟩=m2 at *
 have hfin:(!m.isSome||(!m2.isSome||decide (decide (0<((m.getD []).length:Int))=decide (0<((m2.getD []).length:Int)))))=true:=by
  cases m with
  |none=>rfl
  |some z=>
   cases m2 with
   |none=>rfl
   |some y=>exact decide_eq_true (hlen z y rfl rfl)
 clear hlen
 generalize decide (0<((m.getD []).length:Int))=x1 at *
 generalize decide (0<((m2.getD []).length:Int))=x2 at *
 generalize m.isSome=x3 at *
 generalize m2.isSome=x4 at *
 refine bd Tryz.f9 68 [49,53,65] [] fun w0 F0 own kept hk=>?_
 refine sq (fun h1 h1p h1s=>?_) fun h1 h1p h1s=>?_
 refine rn0 (r1 rfl) (.eqd ?_)
 rotate_left
 refine wc zwi (hdr) rfl rfl ?_
 refine evs [49,53,65] [] ?_
 refine ab 3004 tz25 ?_
 refine ab 3005 tz50 ?_
 refine ab 3006 tz50 ?_
 refine evs [49,53,65] [] ?_
 refine so ty25 ?_
 refine so ty50 ?_
 refine so ty50 ?_
 refine tv ?_
 refine wc zt3 (hi) rfl rfl ?_
 refine evs [49,53,65] [] ?_
 refine wc zwj (hsp) rfl rfl ?_
 refine evs [49,53,65] [] ?_
 refine wc zt3 (hi2) rfl rfl ?_
 refine evs [49,53,65] [] ?_
 refine Walk.eqB un4 .none rfl rfl rfl ?_
 refine evs [49,53,65] [] ?_
 refine sq (fun h2 h2p h2s=>?_) fun h2 h2p h2s=>?_
 refine Walk.eqB un4 (.some rfl rfl h2) rfl rfl rfl ?_
 refine evs [49,53,65] [(50,true)] ?_ ⟨⟨_,rfl,h2⟩,trivial⟩
 refine sq (fun h3 h3p h3s=>?_) fun h3 h3p h3s=>?_
 refine sq (fun h4 h4p h4s=>?_) fun h4 h4p h4s=>?_
 refine sqT ?_
 refine rn0 (r1 rfl) (.eqd ?_)
 rotate_left
 refine sq (fun h5 h5p h5s=>?_) fun h5 h5p h5s=>?_
 refine rn0 (r1 rfl) (.eqd ?_)
 rotate_left
 refine Walk.eqB un4 (.some rfl rfl h5) rfl rfl rfl ?_
 refine evs [49,53,65] [(55,true),(62,false)] ?_ ⟨⟨_,rfl,h3⟩,⟨_,rfl,h5⟩,trivial⟩
 refine rn0 (r1 rfl) (.eqd ?_)
 rotate_left
 refine rn0 (r1 rfl) (.eqd ?_)
 rotate_left
 refine sqF ?_
 refine rn0 (r1 rfl) (.eqd ?_)
 rotate_left
 all_goals (first|rfl|contradiction|(simp_all;done)|(cases x1<;>cases x2<;>cases x3<;>cases x4<;>first|rfl|contradiction|(simp at *;done)))
end Go.Proofs.YtpgdedpljcedpaaGreat
