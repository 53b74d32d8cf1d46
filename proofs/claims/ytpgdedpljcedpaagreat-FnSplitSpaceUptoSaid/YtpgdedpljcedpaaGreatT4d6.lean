/-
  THE ABSTRACT WALK AND THE WALKS, part 6 of 7: the parts F121, F126, F124, L42, Wrap, Dec, F125, F127, L43.
-/
import Derived.Test.YtpgdedpljcedpaaGreatT4d5
namespace Go.Proofs.YtpgdedpljcedpaaGreat
open Go
set_option linter.unusedSimpArgs false
set_option linter.unusedVariables false
set_option maxRecDepth 100000
set_option maxHeartbeats 2000000
def wid (w:List Data) (u:Ty):Nat:=if u.data = -1 then 10 else (zah w u).length
def zhq (w:List Data):Bool:=(List.range (w.length*4)).all fun s=>decide (((zah w (tyS s)).map fun c=>zbg ((zaa w (tyS s) c).map fun u=>max 1 (wid w u))).sum≤400)
theorem zpX:((List.range 7).all fun i=>zhq (zdl (nth zdH i)).1)=true:=by kernel_rfl
theorem zpn {w:List Data} (h:zhq w=true){t:Ty} (ht:InS (w.length*4) t) (hd:t.data≠ -1):((zah w t).map fun c=>zbg ((zaa w t c).map fun u=>max 1 (wid w u))).sum≤400:=by
 rcases ht with h1|⟨h1,h2⟩
 ·exact absurd h1 hd
 ·have:=List.all_eq_true.1 h _ (List.mem_range.2 h1);rw[h2] at this;exact of_decide_eq_true this
theorem zjR (b:Str) (p:Nat):zhq (za9 b p)=true:=List.all_eq_true.1 zpX (zay b p 7).toNat (List.mem_range.2 (zqb b p))
def shal (p:Pat):Prop:=p.op=1∨p.op=3∨∃c l,p=za8 c l∧∀k∈l,k=anyQ
def zjz (p:Pat):Prop:=p.op=1∨p.op=3∨∃c l,p=za8 c l∧∀k∈l,shal k
def PosP (K:Pat→Prop):Prop:=(∀k,K k→shal k)∨∃x,zjz x∧¬shal x∧∀k,K k→k=x
def FormA (L:List Pat):Prop:=∀p∈L,zjz p
def FormB (L:List Pat):Prop:=∃(c:Int) (m:Nat) (K:Nat→Pat→Prop),(∀j,j<m→PosP (K j))∧∀p∈L,CSat K c m p
def Form (L:List Pat):Prop:=FormA L∨FormB L
theorem zrw:shal anyQ:= .inl rfl
theorem zyi {p:Pat} (h:shal p):zjz p:=by
 rcases h with h|h|⟨c,l,h1,h2⟩
 ·exact .inl h
 ·exact .inr (.inl h)
 ·exact .inr (.inr ⟨c,l,h1,fun k hk=>by rw[h2 k hk];exact zrw⟩)
theorem PosP.two {K:Pat→Prop} (h:PosP K){k:Pat} (hk:K k):zjz k:=by
 rcases h with h|⟨x,h1,_,h2⟩
 ·exact zyi (h k hk)
 ·rw[h2 k hk];exact h1
theorem PosP.one {K:Pat→Prop} (h:∀k k',K k→K k'→k=k') (h2:∀k,K k→zjz k):PosP K:=by
 by_cases hx:∃k,K k∧¬shal k
 ·obtain⟨k,h3,h4⟩:=hx;exact .inr ⟨k,h2 k h3,h4,fun k' h5=>h k' k h5 h3⟩
 ·exact .inl fun k hk=>Classical.byContradiction fun h3=>hx ⟨k,hk,h3⟩
theorem zty {α:Type} [Inhabited α]{P:Int→Nat→Prop}{Q:Int→Nat→α→Prop} (h:∀c j,P c j→∃x,Q c j x):∃f:Int→Nat→α,∀c j,P c j→Q c j (f c j):=by
 classical
 exact⟨fun c j=>if hp:P c j then Classical.choose (h c j hp) else default,fun c j hp=>by simp only[dif_pos hp];exact Classical.choose_spec (h c j hp)⟩
theorem zrl:∀ {a b:List Nat},a.length=b.length→(∀i,i<a.length→nth a i≤nth b i)→zbg a≤zbg b
 | [],[],_,_=>Nat.le_refl _
 |x::a,y::b,h,hi=>Nat.mul_le_mul (hi 0 (by simp)) (zrl (a:=a) (b:=b) (by simpa using h) (fun i hi'=>hi (i+1) (by simpa using hi')))
 | [],_::_,h,_=>by simp at h
 |_::_,[],h,_=>by simp at h
theorem zoJ {w:List Data}{c:Int}{us:List Ty}{Vs:Nat→List Val}{g:Ty→Nat} (h:∀j,j<us.length→(Vs j).length≤g (nth us j)):(zhe c us.length Vs).length≤zbg (us.map g):=by
 rw[zv5];refine zrl (by simp) (fun i hi=>?_);rw[xac,List.length_range] at hi;rw[zkC _ hi,zaQ (by simpa using hi),List.getElem_map,←zaQ hi];exact h i hi
theorem zrE {α:Type}{f g:α→Nat}:∀ {l:List α},(∀x∈l,f x≤g x)→(l.map f).sum≤(l.map g).sum
 | [],_=>Nat.le_refl _
 |x::r,h=>by
  simp only[xae,List.sum_cons];exact Nat.add_le_add (h x (by simp)) (zrE (fun y hy=>h y (by simp[hy])))
theorem znj {x:Nat}:∀ {l:List Nat},x∈l→x≤l.sum
 |a::r,h=>by
  rw[List.sum_cons];rcases List.mem_cons.1 h with rfl|h
  ·omega
  ·have:=znj h;omega
theorem zl1 {α β:Type}{f:α→List β}:∀ {l:List α},(l.flatMap f).length=(l.map fun x=>(f x).length).sum
 | []=>rfl
 |x::r=>by rw[List.flatMap_cons,xaa,xae,List.sum_cons,zl1]
section
variable {w:List Data} (hs:Spa w)
include hs
theorem zsR {t:Ty} (ht:InS (w.length*4) t):∃S V,V.length≤max 1 (wid w t)∧Grid w t S V∧(∀n p,zae w n t p=true→shal p→S p)∧S anyQ:=by
 by_cases hd:t.data = -1
 ·refine⟨fun _=>True,zep, ?_,zqW hd,fun _ _ _ _=>trivial,trivial⟩;unfold wid;rw[if_pos hd];simp[zep]
 ·obtain⟨Vs,hV⟩:=zty (P:=fun c j=>c∈zah w t∧j<(zaa w t c).length) (Q:=fun c j V=>V.length≤1∧Grid w (nth (zaa w t c) j) (fun p=>p=anyQ) V)
   (fun c j h=>zo7 hs (zbo hs.dp ht h.1 _ (zaf h.2)) (zj0 (n:=0)))
  refine⟨_,_, ?_,zo8 hs ht hd (Ss:=fun _ _ p=>p=anyQ) (Vs:=Vs) (fun c hc j hj=>(hV c j ⟨hc,hj⟩).2) (fun _ _ _=>rfl),fun n p hp hsh=>?_,.inl rfl⟩
  ·rw[zl1];have h1:((zah w t).map fun c=>(zhe c (zaa w t c).length (Vs c)).length).sum≤((zah w t).map fun _=>1).sum:=zrE (fun c hc=>by
    have:=zoJ (w:=w) (c:=c) (us:=zaa w t c) (Vs:=Vs c) (g:=fun _=>1) (fun j hj=>(hV c j ⟨hc,hj⟩).1);refine Nat.le_trans this ?_;generalize zaa w t c=us;induction us with
    |nil=>simp[zbg]
    |cons x r ih=>simp only[xae,zbg,Nat.one_mul];exact ih)
   have h2:((zah w t).map fun _=>1).sum=(zah w t).length:=by
    generalize zah w t=l;induction l with
    |nil=>rfl
    |cons x r ih=>rw[xae,List.sum_cons,ih,xab];omega
   unfold wid;rw[if_neg hd];omega
  ·rcases hsh with h|h|⟨c,l,rfl,h2⟩
   ·exact .inl h
   ·exact absurd (zbB hp h).1 hd
   ·obtain⟨m1,m2,m3,m4⟩:=zaC hp rfl;exact .inr ⟨c,m1,l,rfl,m3,fun j hj=>h2 _ (zaf (by have e:l.length=(zaa w t c).length:=m3;omega))⟩
theorem zvW (hn:zhq w=true){t:Ty} (ht:InS (w.length*4) t):∃S V,V.length≤400∧Grid w t S V∧∀n p,zae w n t p=true→zjz p→S p:=by
 by_cases hd:t.data = -1
 ·exact⟨fun _=>True,zep,by simp[zep],zqW hd,fun _ _ _ _=>trivial⟩
 ·obtain⟨F,hF⟩:=zty (P:=fun c j=>c∈zah w t∧j<(zaa w t c).length) (Q:=fun c j (SV:(Pat→Prop)×List Val)=>SV.2.length≤max 1 (wid w (nth (zaa w t c) j))∧Grid w (nth (zaa w t c) j) SV.1 SV.2∧(∀n p,zae w n (nth (zaa w t c) j) p=true→shal p→SV.1 p)∧SV.1 anyQ)
   (fun c j h=>by
    obtain⟨S,V,h1,h2,h3,h4⟩:=zsR hs (t:=nth (zaa w t c) j) (zbo hs.dp ht h.1 _ (zaf h.2));exact⟨(S,V),h1,h2,h3,h4⟩)
  refine⟨_,_, ?_,zo8 hs ht hd (Ss:=fun c j p=>(c∈zah w t∧j<(zaa w t c).length)→(F c j).1 p) (Vs:=fun c j=>(F c j).2) (fun c hc j hj=>?_) (fun c hc j h=>(hF c j h).2.2.2),fun n p hp hsh=>?_⟩
  ·rw[zl1];exact Nat.le_trans (zrE (fun c hc=>zoJ (w:=w) (g:=fun u=>max 1 (wid w u)) (fun j hj=>(hF c j ⟨hc,hj⟩).1))) (zpn hn ht hd)
  ·have hg:=(hF c j ⟨hc,hj⟩).2.1;exact⟨fun n a b z ha hb h _=>hg.meet n a b z (ha ⟨hc,hj⟩) (hb ⟨hc,hj⟩) h,fun n a b x ha hb h _=>hg.minus n a b x (ha ⟨hc,hj⟩) (hb ⟨hc,hj⟩) h,fun n p hp=>hg.hit n p (hp ⟨hc,hj⟩),hg.fits⟩
  ·cases n with
   |zero=>simp[zae] at hp
   |succ n=>
    rcases hsh with h|h|⟨c,l,rfl,h2⟩
    ·exact .inl h
    ·exact absurd (zbB hp h).1 hd
    ·obtain⟨m1,m2,m3,m4⟩:=zaC hp rfl;have e:l.length=(zaa w t c).length:=m3;refine .inr ⟨c,m1,l,rfl,m3,fun j hj h=>?_⟩;have hk:=zaT hp (i:=j) (by show j<l.length;omega);rw[za2 rfl] at hk;exact(hF c j h).2.2.1 n _ hk (h2 _ (zaf (by omega)))
theorem zvN {t:Ty} (ht:InS (w.length*4) t){K:Pat→Prop} (hK:PosP K):∃S V,V.length≤max 1 (wid w t)∧Grid w t S V∧∀n p,zae w n t p=true→K p→S p:=by
 by_cases hx:∃n x,zae w n t x=true∧¬shal x∧∀k,K k→k=x
 ·obtain⟨n,x,h1,_,h2⟩:=hx;obtain⟨V,h3,h4⟩:=zo7 hs ht h1;exact⟨_,V,by omega,h4,fun n p _ hp=>h2 p hp⟩
 ·obtain⟨S,V,h1,h2,h3,_⟩:=zsR hs ht;refine⟨S,V,h1,h2,fun n p hp hk=>?_⟩;rcases hK with h|⟨x,h4,h5,h6⟩
  ·exact h3 n p hp (h p hk)
  ·exact absurd ⟨n,x,by rw[←h6 p hk];exact hp,h5,h6⟩ hx
theorem zvs (hn:zhq w=true){t:Ty} (ht:InS (w.length*4) t){l res:List Pat} (hf:Form l) (hl:∀b∈l,zae w 10 t b=true) (h:sepQ w t [] l []=some res):res.length≤400:=by
 rcases hf with hf|⟨c,m,K,hK,hf⟩
 ·obtain⟨S,V,h1,h2,h3⟩:=zvW hs hn ht;exact Nat.le_trans (zsO hs ht h2 (fun b hb=>⟨hl b hb,h3 10 b (hl b hb) (hf b hb)⟩) h) h1
 ·cases l with
  |nil=>rw[sepQ] at h;cases h;simp
  |cons p0 r=>
   obtain⟨l0,e0,e1,_⟩:=hf p0 (by simp);have hp0:=hl p0 (by simp);have hc:=zaC hp0 (by rw[e0];rfl);rw[e0] at hc;have hcc:c∈zah w t:=hc.1;have hm:m=(zaa w t c).length:=by rw[←e1];exact hc.2.2.1
   subst hm;obtain⟨F,hF⟩:=zty (P:=fun c' j=>c'=c∧j<(zaa w t c).length) (Q:=fun _ j (SV:(Pat→Prop)×List Val)=>SV.2.length≤max 1 (wid w (nth (zaa w t c) j))∧Grid w (nth (zaa w t c) j) SV.1 SV.2∧∀n p,zae w n (nth (zaa w t c) j) p=true→K j p→SV.1 p)
    (fun c' j h=>by
     obtain⟨S,V,h1,h2,h3⟩:=zvN hs (t:=nth (zaa w t c) j) (zbo hs.dp ht hcc _ (zaf h.2)) (hK j h.2);exact⟨(S,V),h1,h2,h3⟩)
   have hg:=zh9 hcc (Ss:=fun j=>(F c j).1) (Vs:=fun j=>(F c j).2) (fun j hj=>(hF c j ⟨rfl,hj⟩).2.1);refine Nat.le_trans (zsO hs ht hg (fun b hb=>⟨hl b hb, ?_⟩) h) ?_
   ·obtain⟨lb,rfl,h1,h2⟩:=hf b hb;refine⟨lb,rfl,h1,fun j hj=>?_⟩;have hk:=zaT (hl _ hb) (i:=j) (by show j<lb.length;omega);rw[za2 rfl] at hk;exact(hF c j ⟨rfl,hj⟩).2.2 9 _ hk (h2 j hj)
   ·have h1:=zoJ (w:=w) (c:=c) (us:=zaa w t c) (Vs:=fun j=>(F c j).2) (g:=fun u=>max 1 (wid w u)) (fun j hj=>(hF c j ⟨rfl,hj⟩).1);have h2:=zpn hn ht hc.2.1;have h3:zbg ((zaa w t c).map fun u=>max 1 (wid w u))≤((zah w t).map fun c=>zbg ((zaa w t c).map fun u=>max 1 (wid w u))).sum:=znj (List.mem_map.2 ⟨c,hcc,rfl⟩);omega
end
def Dr:Nat→Pat→Prop
 |0,p=>p=anyQ
 |n+1,p=>p=anyQ∨(p.op=3∧p.kids=[])∨(p.op=5∧p.kids.length=2∧∀k∈p.kids,Dr n k)∨(p.op=4∧∀k∈p.kids,Dr n k)
theorem Dr.any (n:Nat):Dr n anyQ:=by cases n<;>simp[Dr]
theorem Dr.up:∀(n:Nat){p:Pat},Dr n p→Dr (n+1) p
 |0,p,h=> .inl h
 |n+1,p,h=>by
  rcases h with h|h|⟨h1,h2,h3⟩|⟨h1,h2⟩
  ·exact .inl h
  ·exact .inr (.inl h)
  ·exact .inr (.inr (.inl ⟨h1,h2,fun k hk=>Dr.up n (h3 k hk)⟩))
  ·exact .inr (.inr (.inr ⟨h1,fun k hk=>Dr.up n (h2 k hk)⟩))
theorem Dr.le {n m:Nat} (h:n≤m){p:Pat} (hp:Dr n p):Dr m p:=by
 induction h with
 |refl=>exact hp
 |step _ ih=>exact Dr.up _ ih
theorem zul {f:Ty→Nat→Pat×Nat}{P:Pat→Prop} (h:∀t q,P (f t q).1):∀(l:List Ty) (q:Nat),∀k∈(dA f l q).1,P k
 | [],q,k,hk=>by simp[dA] at hk
 |t::r,q,k,hk=>by
  simp only[dA,List.mem_cons] at hk;rcases hk with rfl|hk
  ·exact h t q
  ·exact zul h r _ k hk
theorem zsr {b:Str}{w:List Data}:∀(d:Nat) (t:Ty) (p:Nat),Dr d (zaG b w (d+1) t p).1∧Dr 0 (zaG b w 0 t p).1
 |0,t,p=>by
  refine⟨?_,rfl⟩;unfold zaG;rw[if_pos rfl];rfl
 |d+1,t,p=>by
  refine⟨?_,rfl⟩;have ih:=fun t p=>(zsr (b:=b) (w:=w) d t p).1;rw[zaG,if_neg (by omega)];split
  ·exact Dr.any _
  ·split
   ·refine .inr (.inr (.inl ⟨rfl,rfl,fun k hk=>?_⟩));simp only[Pat.kids,List.mem_cons,List.not_mem_nil,or_false] at hk;rcases hk with rfl|rfl
    ·exact ih _ _
    ·exact ih _ _
   ·split
    ·exact .inr (.inl ⟨rfl,rfl⟩)
    ·split
     ·exact Dr.any _
     ·refine .inr (.inr (.inr ⟨rfl,fun k hk=>?_⟩));exact zul (P:=Dr d) ih _ _ k hk
theorem zfa:∀(n:Nat){p:Pat},Dr n p→zau p=p
 |0,p,h=>by
  rw[show p=anyQ from h,zbk,if_neg (by decide),if_neg (by decide)];rfl
 |n+1,p,h=>by
  have map_id:∀l:List Pat,(∀k∈l,zau k=k)→l.map zau=l:=fun l hl=>by
   induction l with
   |nil=>rfl
   |cons x r ih=>rw[xae,hl x (by simp),ih (fun k hk=>hl k (by simp[hk]))]
  have key:p.op≠2→p.op≠6→(∀k∈p.kids,zau k=k)→zau p=p:=fun h2 h6 hk=>by
   rw[zbk,if_neg h2,if_neg (fun hh=>h6 hh.1),map_id p.kids hk];cases p;rfl
  rcases h with h|⟨h1,h2⟩|⟨h1,h2,h3⟩|⟨h1,h2⟩
  ·exact zfa 0 h
  ·exact key (by omega) (by omega) (by rw[h2];simp)
  ·exact key (by omega) (by omega) (fun k hk=>zfa n (h3 k hk))
  ·exact key (by omega) (by omega) (fun k hk=>zfa n (h2 k hk))
theorem zpl {f:Pat→Int→Nat→Pat×Int×Nat}:∀(l:List Pat) (m:Int) (q:Nat),(∀x∈l,∀m q,zau (f x m q).1=x)→(namL f l m q).1.map zau=l∧∀y∈(namL f l m q).1,zau y∈l
 | [],m,q,_=>by simp[namL]
 |x::r,m,q,h=>by
  have h1:=h x (by simp) m q;have h2:=zpl r (f x m q).2.1 (f x m q).2.2 (fun y hy=>h y (by simp[hy]));simp only[namL];refine⟨by rw[xae,h1,h2.1],fun y hy=>?_⟩;rcases List.mem_cons.1 hy with rfl|hy
  ·rw[h1];simp
  ·exact List.mem_cons_of_mem _ (h2.2 y hy)
structure NamB (p r:Pat):Prop where
 bare:zau r=p
 kids:(∀k∈r.kids,zau k∈p.kids)∨(r.op=6∧r.kids.length=1)
theorem zrd {b:Str}:∀(n:Nat) (d:Nat){p:Pat} (m:Int) (q:Nat),Dr d p→NamB p (namP b n p m q).1
 |0,d,p,m,q,h=>⟨zfa d h,.inl fun k hk=>by
  have:zau k=k:=by
   cases d with
   |zero=>rw[show p=anyQ from h] at hk;simp[namP,za5] at hk
   |succ d=>
    rcases h with h|⟨h1,h2⟩|⟨h1,h2,h3⟩|⟨h1,h2⟩
    ·subst h;simp[namP,za5] at hk
    ·have hk':k∈p.kids:=hk;rw[h2] at hk';simp at hk'
    ·exact zfa d (h3 k hk)
    ·exact zfa d (h2 k hk)
  rw[this];exact hk⟩
 |n+1,d,p,m,q,h=>by
  have hkid:∀k∈p.kids,∃e,Dr e k:=fun k hk=>by
   cases d with
   |zero=>rw[show p=anyQ from h] at hk;simp[za5] at hk
   |succ d=>
    rcases h with h|⟨h1,h2⟩|⟨h1,h2,h3⟩|⟨h1,h2⟩
    ·subst h;simp[za5] at hk
    ·rw[h2] at hk;simp at hk
    ·exact⟨d,h3 k hk⟩
    ·exact⟨d,h2 k hk⟩
  have hb:=zfa d h;have hop:p.op≠2∧p.op≠6:=by
   cases d with
   |zero=>rw[show p=anyQ from h];exact⟨by decide,by decide⟩
   |succ d=>
    rcases h with h|⟨h1,h2⟩|⟨h1,h2,h3⟩|⟨h1,h2⟩
    ·rw[h];exact⟨by decide,by decide⟩
    ·omega
    ·omega
    ·omega
  by_cases c1:5<m∨p.op=5∨p.op=3
  ·rw[ztq c1];exact⟨hb,.inl fun k hk=>by obtain⟨e,he⟩:=hkid k hk;rw[zfa e he];exact hk⟩
  by_cases c2:p.op=1∧zay b q 2=0
  ·rw[ztr c1 c2];have hp:p=anyQ:=by
    cases d with
    |zero=>exact h
    |succ d=>
     rcases h with h|⟨h1,h2⟩|⟨h1,h2,h3⟩|⟨h1,h2⟩
     ·exact h
     ·omega
     ·omega
     ·omega
   exact⟨by rw[hp];exact(zbk _).trans (if_pos rfl),.inl fun k hk=>by simp[za5] at hk⟩
  have hL:=zpl (f:=namP b n) p.kids m (if p.op=1 then q+1 else q) (fun x hx m q=>by obtain⟨e,he⟩:=hkid x hx;exact(zrd n e m q he).bare);generalize hz:namL (namP b n) p.kids m (if p.op=1 then q+1 else q)=z at hL;obtain⟨ks,zm,zq⟩:=z;dsimp only at hL;have hmk:zau (.mk p.op p.ctor p.n p.m p.var ks)=p:=by
   rw[zbk,if_neg (by rw[zca];exact hop.1),if_neg (by rw[zca];exact fun hh=>hop.2 hh.1)];simp only[zca,zfm,mk_n,mk_m,zhL,za5];rw[hL.1];cases p;rfl
  by_cases c3:zm≤5
  ·by_cases c4:zay b zq 6=0
   ·rw[zts c1 c2 hz.symm c3 c4];refine⟨?_,.inr ⟨rfl,rfl⟩⟩;rw[zbk,if_neg (by rw[zca];decide),if_pos ⟨rfl,by rw[za5];simp⟩];exact hmk
   ·rw[ztt c1 c2 hz.symm c3 c4];exact⟨hmk,.inl fun k hk=>hL.2 k hk⟩
  ·rw[ztu c1 c2 hz.symm c3];exact⟨hmk,.inl fun k hk=>hL.2 k hk⟩
theorem zdr {p:Pat} (h5:p.op≠5){y:Pat} (hy:y∈zas p):∃l,y = .mk p.op p.ctor p.n p.m p.var l∧l.length=p.kids.length∧∀i,i<p.kids.length→nth l i∈zas (nth p.kids i):=by
 rw[zc4 h5] at hy;obtain⟨l,hl,rfl⟩:=List.mem_map.1 hy;obtain⟨q,hq,r,e,h1,h2⟩:=zig _ _ _ hl;rw[List.mem_singleton] at hq;rw[hq,List.nil_append] at e;subst e;rw[xac] at h1;refine⟨l,rfl,h1,fun i hi=>?_⟩;have:=h2 i (by simpa using hi);rwa [zaQ (l:=p.kids.map zas) (by simpa using hi),List.getElem_map,←zaQ hi] at this
theorem dr_1 {p:Pat} (h:Dr 1 p):∃x,∀y∈zas p,y=x:=by
 rcases h with h|⟨h1,h2⟩|⟨h1,h2,h3⟩|⟨h1,h2⟩
 ·rw[h,zcb];exact⟨anyQ,fun y hy=>List.mem_singleton.1 hy⟩
 ·rw[zdq (by omega) h2];exact⟨p,fun y hy=>List.mem_singleton.1 hy⟩
 ·rw[zdw h1 h2,show nth p.kids 0=anyQ from h3 _ (zaf (by omega)),show nth p.kids 1=anyQ from h3 _ (zaf (by omega)),zcb];exact⟨anyQ,fun y hy=>by simpa using hy⟩
 ·refine⟨p,fun y hy=>?_⟩;obtain⟨l,rfl,h3,h4⟩:=zdr (by omega) hy;have:l=p.kids:=zof h3 (fun i hi=>by
   have h5:=h4 i (by omega);have h6:nth p.kids i=anyQ:=h2 _ (zaf (by omega));rw[h6,zcb] at h5;rw[h6];exact List.mem_singleton.1 h5)
  rw[this];cases p;rfl
section
variable {w:List Data}{n:Nat}{t:Ty}
theorem ztd {p:Pat} (h:Dr 1 p) (hp:∀y∈zas p,zae w n t y=true):∀y∈zas p,shal y:=by
 intro y hy;have hpy:=hp y hy;rcases zbn hpy with o|o|o
 ·exact .inl o
 ·exact .inr (.inl o)
 ·refine .inr (.inr ⟨y.ctor,y.kids,(zaC hpy o).2.2.2, ?_⟩);rcases h with h|⟨h1,h2⟩|⟨h1,h2,h3⟩|⟨h1,h2⟩
  ·rw[h,zcb,List.mem_singleton] at hy;rw[hy];simp[za5]
  ·rw[zdq (by omega) h2,List.mem_singleton] at hy;rw[hy,h2];simp
  ·rw[zdw h1 h2,show nth p.kids 0=anyQ from h3 _ (zaf (by omega)),show nth p.kids 1=anyQ from h3 _ (zaf (by omega)),zcb] at hy;have:y=anyQ:=by simpa using hy
   rw[this];simp[za5]
  ·obtain⟨l,rfl,h3,h4⟩:=zdr (by omega) hy;intro k hk;rw[za5] at hk;obtain⟨i,hi,rfl⟩:=List.getElem_of_mem hk;have h5:=h4 i (by omega);rw[show nth p.kids i=anyQ from h2 _ (zaf (by omega)),zcb,List.mem_singleton,zaQ hi] at h5;exact h5
theorem dr_2 {p:Pat} (h:Dr 2 p) (hp:∀y∈zas p,zae w n t y=true):PosP (fun y=>y∈zas p):=by
 have leaf:∀y,y.op=4→y∈zas p→p.op≠5→p.op=4:=fun y o hy h5=>by
  obtain⟨l,rfl,_,_⟩:=zdr h5 hy;exact o
 rcases h with h|⟨h1,h2⟩|⟨h1,h2,h3⟩|⟨h1,h2⟩
 ·rw[h,zcb];exact .inl fun k hk=>by rw[List.mem_singleton.1 hk];exact zrw
 ·rw[zdq (by omega) h2];exact .inl fun k hk=>by rw[List.mem_singleton.1 hk];exact .inr (.inl h1)
 ·refine .inl fun y hy=>?_;rw[zdw h1 h2] at hy hp;rcases List.mem_append.1 hy with hy|hy
  ·exact ztd (w:=w) (n:=n) (t:=t) (h3 _ (zaf (by omega))) (fun z hz=>hp z (List.mem_append_left _ hz)) y hy
  ·exact ztd (w:=w) (n:=n) (t:=t) (h3 _ (zaf (by omega))) (fun z hz=>hp z (List.mem_append_right _ hz)) y hy
 ·refine PosP.one (fun y y' hy hy'=>?_) (fun y hy=>?_)
  ·obtain⟨l,rfl,h3,h4⟩:=zdr (by omega) hy;obtain⟨l',rfl,h5,h6⟩:=zdr (by omega) hy';have:l=l':=zof (by omega) (fun i hi=>by
    obtain⟨x,hx⟩:=dr_1 (h2 _ (zaf (i:=i) (by omega)));rw[hx _ (h4 i (by omega)),hx _ (h6 i (by omega))])
   rw[this]
  ·have hpy:=hp y hy;have h4p:y.op=4:=by obtain⟨l,rfl,_,_⟩:=zdr (by omega) hy;exact h1
   refine .inr (.inr ⟨y.ctor,y.kids,(zaC hpy h4p).2.2.2,fun k hk=>?_⟩);obtain⟨l,e,h3,h4⟩:=zdr (by omega) hy;have hkl:y.kids=l:=by rw[e];rfl
   rw[hkl] at hk;obtain⟨i,hi,rfl⟩:=List.getElem_of_mem hk;have hmi:=h4 i (by omega);have hd1:=h2 _ (zaf (l:=p.kids) (i:=i) (by omega));obtain⟨x,hx⟩:=dr_1 hd1;cases n with
   |zero=>simp[zae] at hpy
   |succ n=>
    have hk2:=zaT hpy (i:=i) (by rw[hkl];omega);rw[hkl] at hk2;rw[←zaQ hi];exact ztd (w:=w) (n:=n) (t:=nth (zag w t y) i) hd1 (fun z hz=>by rw[hx z hz,←hx _ hmi];exact hk2) _ hmi
theorem zws {p:Pat} (h:Dr 2 p) (hp:∀y∈zas p,zae w n t y=true):∀y∈zas p,zjz y:=fun y hy=>(dr_2 h hp).two hy
end
theorem znW {n:Nat}{p:Pat} (hb:binP (n+1) p=true) (h5:p.op≠5){i:Nat} (hi:i<p.kids.length){z:Pat} (hz:z∈zas (nth p.kids i)):∃y∈zas p,nth y.kids i=z∧y.op=p.op∧y.ctor=p.ctor∧y.kids.length=p.kids.length:=by
 have hne:∀j,j<p.kids.length→∃x,x∈zas (nth p.kids j):=fun j hj=>by
  have:=(zkd n (zd5 hb hj)).2;exact List.exists_mem_of_length_pos this
 have hch:∃l:List Pat,l.length=p.kids.length∧(∀j,j<p.kids.length→nth l j∈zas (nth p.kids j))∧nth l i=z:=by
  have:∀k,k≤p.kids.length→∃l:List Pat,l.length=k∧(∀j,j<k→nth l j∈zas (nth p.kids j))∧(i<k→nth l i=z):=fun k=>by
   induction k with
   |zero=>exact fun _=>⟨[],rfl,fun j hj=>by omega,fun h=>by omega⟩
   |succ k ih=>
    intro hk;obtain⟨l,h1,h2,h3⟩:=ih (by omega);have hx:∃x,x∈zas (nth p.kids k)∧(i=k→x=z):=by
     by_cases e:i=k
     ·exact⟨z,e ▸ hz,fun _=>rfl⟩
     ·obtain⟨x,hx⟩:=hne k (by omega);exact⟨x,hx,fun h=>absurd h e⟩
    obtain⟨x,hx,hxz⟩:=hx;have e1:nth (l++[x]) k=x:=by
     simp only[nth,List.getD];rw[List.getElem?_append_right (by omega),h1,Nat.sub_self];all_goals rfl
    have e2:∀j,j<k→nth (l++[x]) j=nth l j:=fun j hj=>by
     simp only[nth,List.getD];rw[List.getElem?_append_left (by omega)]
    refine⟨l++[x],by simp[h1],fun j hj=>?_,fun h=>?_⟩
    ·by_cases e:j=k
     ·subst e;rw[e1];exact hx
     ·rw[e2 j (by omega)];exact h2 j (by omega)
    ·by_cases e:i=k
     ·rw[e,e1];exact hxz e
     ·rw[e2 i (by omega)];exact h3 (by omega)
  obtain⟨l,h1,h2,h3⟩:=this p.kids.length (Nat.le_refl _);exact⟨l,h1,h2,h3 hi⟩
 obtain⟨l,h1,h2,h3⟩:=hch;refine⟨.mk p.op p.ctor p.n p.m p.var l, ?_,h3,rfl,rfl,h1⟩;rw[zc4 h5];refine List.mem_map.2 ⟨l, ?_,rfl⟩;have key:∀(ls:List (List Pat)) (r:List Pat) (out:List (List Pat)) (q:List Pat),r.length=ls.length→q∈out→(∀j,j<ls.length→nth r j∈nth ls j)→q++r∈ls.foldl za7 out:=fun ls=>by
  induction ls with
  |nil=>intro r out q hr hq _;rw[List.eq_nil_of_length_eq_zero hr,List.append_nil];exact hq
  |cons a s ih=>
   intro r out q hr hq hm;cases r with
   |nil=>simp at hr
   |cons x r=>
    rw[List.foldl_cons,show q++x::r=q++[x]++r by simp];refine ih r _ (q++[x]) (by simpa using hr) ?_ (fun j hj=>hm (j+1) (by simpa using hj));unfold za7;exact List.mem_flatMap.2 ⟨q,hq,List.mem_map.2 ⟨x,hm 0 (by simp),rfl⟩⟩
 have:=key (p.kids.map zas) l [[]] [] (by simp[h1]) (by simp) (fun j hj=>by
  rw[xac] at hj;rw[zaQ (l:=p.kids.map zas) (by simpa using hj),List.getElem_map,←zaQ hj];exact h2 j hj)
 simpa [zec] using this
section
variable {w:List Data}{n:Nat}{t:Ty}
theorem zo1 {p:Pat} (hb:binP 20 p=true) (h4:p.op=4) (hk:∀k∈p.kids,Dr 2 k) (hp:∀y∈zas p,zae w n t y=true):FormB (zas p):=by
 refine⟨p.ctor,p.kids.length,fun j y=>y∈zas (nth p.kids j),fun j hj=>?_,fun y hy=>?_⟩
 ·cases n with
  |zero=>
   refine .inl fun k hz=>?_;obtain⟨y,hy,_⟩:=znW hb (by omega) hj hz;have:=hp y hy;simp[zae] at this
  |succ n=>
   refine dr_2 (w:=w) (n:=n) (t:=nth (zaa w t p.ctor) j) (hk _ (zaf hj)) (fun z hz=>?_);obtain⟨y,hy,h1,h2,h3,h5⟩:=znW hb (by omega) hj hz;have:=zaT (hp y hy) (i:=j) (by omega);rw[za2 (by omega),h1,h3] at this;exact this
 ·obtain⟨l,e,h1,h2⟩:=zdr (by omega) hy;refine⟨l, ?_,h1,h2⟩;have hpy:=hp y hy;have:=(zaC hpy (by rw[e];exact h4)).2.2.2;rw[this,e];rfl
theorem zod {p:Pat} (h:Dr 3 p) (hb:binP 20 p=true) (hp:∀y∈zas p,zae w n t y=true):Form (zas p):=by
 rcases h with h|⟨h1,h2⟩|⟨h1,h2,h3⟩|⟨h1,h2⟩
 ·rw[h,zcb];exact .inl fun k hk=>by rw[List.mem_singleton.1 hk];exact .inl rfl
 ·rw[zdq (by omega) h2];exact .inl fun k hk=>by rw[List.mem_singleton.1 hk];exact .inr (.inl h1)
 ·refine .inl fun y hy=>?_;rw[zdw h1 h2] at hy hp;rcases List.mem_append.1 hy with hy|hy
  ·exact zws (w:=w) (n:=n) (t:=t) (h3 _ (zaf (by omega))) (fun z hz=>hp z (List.mem_append_left _ hz)) y hy
  ·exact zws (w:=w) (n:=n) (t:=t) (h3 _ (zaf (by omega))) (fun z hz=>hp z (List.mem_append_right _ hz)) y hy
 ·exact .inr (zo1 hb h1 h2 hp)
def RootOk (p:Pat):Prop:=(∀k∈p.kids,Dr 2 (zau k))∨(p.op=6∧p.kids.length=1∧Dr 3 (zau (nth p.kids 0)))
theorem zxi {m k:Nat} (h:m≤k){p:Pat} (hp:binP m p=true):binP k p=true:=by
 induction h with
 |refl=>exact hp
 |step _ ih=>exact zlT _ ih
theorem zuS {p:Pat} (hr:RootOk p) (hs:zao w 10 t p=true):Form (zas (zau p)):=by
 have hpt:=zgf 10 hs;have hb:=zxi (k:=20) (by omega) (zgH 10 hs);rcases hr with hr|⟨h6,h1,h2⟩
 ·rcases zex hs with o|o|o|o|o|o
  ·have hk:=zeM hs (by omega) (by omega) (by omega);rw[zbk,if_neg (by omega),if_neg (by omega),zdq (by rw[zca];omega) (by rw[za5,hk];rfl)];exact .inl fun k hk=>by rw[List.mem_singleton.1 hk];exact .inl o
  ·rw[zbk,if_pos o,zcb];exact .inl fun k hk=>by rw[List.mem_singleton.1 hk];exact .inl rfl
  ·have hk:=zeM hs (by omega) (by omega) (by omega);rw[zbk,if_neg (by omega),if_neg (by omega),zdq (by rw[zca];omega) (by rw[za5,hk];rfl)];exact .inl fun k hk=>by rw[List.mem_singleton.1 hk];exact .inr (.inl o)
  ·have e:zau p = .mk p.op p.ctor p.n p.m p.var (p.kids.map zau):=by rw[zbk,if_neg (by omega),if_neg (by omega)]
   rw[e] at hpt hb ⊢;refine .inr (zo1 hb (by rw[zca];exact o) (fun k hk=>?_) hpt);rw[za5] at hk;obtain⟨k0,h3,rfl⟩:=List.mem_map.1 hk;exact hr k0 h3
  ·have e:zau p = .mk p.op p.ctor p.n p.m p.var (p.kids.map zau):=by rw[zbk,if_neg (by omega),if_neg (by omega)]
   rw[e] at hpt hb ⊢;obtain⟨l2,_,_⟩:=zey hs o;refine zod (w:=w) (n:=10) (t:=t) (.inr (.inr (.inl ⟨by rw[zca];exact o,by rw[za5];simpa using l2,fun k hk=>?_⟩))) hb hpt;rw[za5] at hk;obtain⟨k0,h3,rfl⟩:=List.mem_map.1 hk;exact hr k0 h3
  ·obtain⟨l1,_⟩:=zew hs o;have e:zau p=zau (nth p.kids 0):=by rw[zbk,if_neg (by omega),if_pos ⟨o,fun e=>by rw[e] at l1;simp at l1⟩]
   rw[e] at hpt hb ⊢;exact zod (Dr.up 2 (hr _ (zaf (by omega)))) hb hpt
 ·have e:zau p=zau (nth p.kids 0):=by rw[zbk,if_neg (by omega),if_pos ⟨h6,fun e=>by rw[e] at h1;simp at h1⟩]
  rw[e] at hpt hb ⊢;exact zod h2 hb hpt
theorem zuZ (b:Str) (w:List Data) (t:Ty) (q:Nat):RootOk (zb6 b w t q):=by
 unfold zb6;split
 ·have h4:=num4 b q;have hd:Dr 3 (zaG b w (numV b q [3,2,4,1]).toNat t (q+1)).1:=by
   rcases hn:(numV b q [3,2,4,1]).toNat with _|d
   ·exact Dr.any 3
   ·exact Dr.le (by omega) (zsr (b:=b) (w:=w) d t (q+1)).1
  unfold zc3;have hnb:=zrd (b:=b) (zaG b w (numV b q [3,2,4,1]).toNat t (q+1)).1.size 3 0 (zaG b w (numV b q [3,2,4,1]).toNat t (q+1)).2 hd;rcases hnb.kids with h|⟨h1,h2⟩
  ·refine .inl fun k hk=>?_;have hm:=h k hk;generalize (zaG b w (numV b q [3,2,4,1]).toNat t (q+1)).1=p0 at *;rcases hd with h|⟨h1,h2⟩|⟨h1,h2,h3⟩|⟨h1,h2⟩
   ·rw[h] at hm;simp[za5] at hm
   ·rw[h2] at hm;simp at hm
   ·exact h3 _ hm
   ·exact h2 _ hm
  ·refine .inr ⟨h1,h2, ?_⟩;have:=hnb.bare;rw[zbk,if_neg (by omega),if_pos ⟨h1,fun e=>by rw[e] at h2;simp at h2⟩] at this;rw[this];exact hd
 ·exact .inl fun k hk=>by simp[anyP,Pat.kids] at hk
theorem zvG {b:Str}{p:Pat}{q:Nat} (hr:RootOk p) (hs:zao w 10 t (mutP b p q).1=true):RootOk (mutP b p q).1:=by
 have hv:zau zcQ=anyQ:=(zbk _).trans (if_pos rfl);have two:∀ {x:Pat},zao w 10 t x=true→(x.op=1∨x.op=2∨x.op=3)→x.kids=[]:=fun h ho=>zeM h (by omega) (by omega) (by omega);rcases hr with hr|⟨h6,h1,h2⟩
 ·refine .inl ?_;unfold mutP;split;exact hr
  split;exact hr
  split;exact hr
  split
  ·intro k hk;rw[za5] at hk;rcases List.mem_append.1 hk with hk|hk
   ·exact hr k hk
   ·rw[List.mem_singleton.1 hk,hv];exact Dr.any 2
  split
  ·intro k hk;rw[za5] at hk;rcases List.mem_or_eq_of_mem_set hk with hk|rfl
   ·exact hr k hk
   ·rw[hv];exact Dr.any 2
  split;exact hr
  exact hr
 ·have keep:∀c n m v:Int,RootOk (.mk p.op c n m v p.kids):=fun c n m v=> .inr ⟨h6,h1,h2⟩;unfold mutP at hs ⊢;split
  ·rename_i e;rw[if_pos e] at hs;have hm:=zmg (b:=b) (p:=q+1) (l:=[0,7,1,2,5]) (by simp);simp only[List.mem_cons,List.not_mem_nil,or_false] at hm;exfalso;have hs:zao w 10 t (.mk (numV b (q+1) [0,7,1,2,5]) p.ctor p.n p.m p.var p.kids)=true:=hs;have ho:=zex hs;have hk:(Pat.mk (numV b (q+1) [0,7,1,2,5]) p.ctor p.n p.m p.var p.kids).kids.length=1:=h1;by_cases h5:(Pat.mk (numV b (q+1) [0,7,1,2,5]) p.ctor p.n p.m p.var p.kids).op=5
   ·have:=(zey hs h5).1;omega
   ·rw[zca] at ho h5;have ho2:(Pat.mk (numV b (q+1) [0,7,1,2,5]) p.ctor p.n p.m p.var p.kids).op=numV b (q+1) [0,7,1,2,5]:=rfl;have:=two hs (by omega);rw[this] at hk;simp at hk
  rename_i e0;rw[if_neg e0] at hs;split;exact keep _ _ _ _
  rename_i e1;rw[if_neg e1] at hs;split;exact keep _ _ _ _
  rename_i e2;rw[if_neg e2] at hs;split
  ·rename_i e3;rw[if_pos e3] at hs;exfalso;have:=(zew hs (by rw[zca];exact h6)).1;rw[za5,xaa,List.length_singleton] at this;omega
  split
  ·refine .inl fun k hk=>?_;rw[za5] at hk;match hkk:p.kids,h1 with
   | [a],_=>
    rw[hkk] at hk;simp at hk;rw[hk,hv];exact Dr.any 2
  split;exact keep _ _ _ _
  exact keep _ _ _ _
theorem zvF {b b2:Str}{w2:List Data}{t2:Ty}{q q2:Nat} (hs:zao w 10 t (mutP b (zb6 b2 w2 t2 q2) q).1=true):Form (zas (zau (mutP b (zb6 b2 w2 t2 q2) q).1)):=
 zuS (zvG (zuZ _ _ _ _) hs) hs
end
theorem zgb {w:List Data}{a k:Int}{p q:Pat}{z:List Pat} (h:minV w a k p q=some z):zbD w a k p q=true∧∃r,sepV w ⟨a,k⟩ (zaD p)=some r∧zaJ w ⟨a,k⟩ r (zaD q)=some z∧z.all (isP w ⟨a,k⟩)=true:=by
 cases h2:zbD w a k p q with
 |false=>rw[zoq h2] at h;cases h
 |true=>
  cases h3:sepV w ⟨a,k⟩ (zaD p) with
  |none=>rw[zq8 h2 h3] at h;cases h
  |some r=>
   cases h4:zaJ w ⟨a,k⟩ r (zaD q) with
   |none=>rw[zq9 h2 h3 h4] at h;cases h
   |some z'=>
    rw[zra h2 h3 h4] at h;split at h
    ·cases h;exact⟨rfl,r,rfl,h4,by assumption⟩
    ·cases h
theorem zsu {w:List Data} (hs:WSmall w) (hn:zhq w=true){a k:Int}{p q:Pat} (h2:zbD w a k p q=true) (hf:zao w 10 ⟨a,k⟩ p=true→Form (zas (zau p))):FewQ w ⟨a,k⟩ (zaD p):=by
 obtain⟨hsp,hin,t1,t2,s1,s2,e1,e2,_⟩:=zcj hs h2;intro res h;rw[e1] at h t1;exact zvs hsp hn hin (hf s1) t1 h
theorem ze3 {w:List Data}{t:Ty}{p:Pat}{v:Val}{m:Nat} (h:zao w 10 t p=true) (hv:zaH w m t v=true) (e:zaD p=zas (zau p)):(zaD p).any (fun x=>hitP x v)=(zav 10 p v).2:=by
 rw[e,Bool.eq_iff_iff,zeU 10 m h hv,List.any_eq_true]
theorem zvD {w:List Data} (hs:WSmall w){a k:Int}{p q:Pat}{z:List Pat}{v:Val}{m:Nat} (h:minV w a k p q=some z) (hv:zaH w m ⟨a,k⟩ v=true):z.countP (fun x=>hitP x v)=one ((zav 10 p v).2&& !(zav 10 q v).2):=by
 obtain⟨h2,r,h3,h4,h5⟩:=zgb h;obtain⟨hsp,hin,t1,t2,s1,s2,e1,e2,_⟩:=zcj hs h2;have hrp:=zfr _ [] [] (by simp) t1 (by simp) h3;rw[zlQ hsp hin hv t2 hrp h4,zlj hsp hin hv _ [] [] (by simp) t1 h3,ze3 s2 hv e2,ze3 s1 hv e1];simp only[List.countP_nil,List.any_nil,Nat.zero_add,one];cases (zav 10 p v).2<;>cases (zav 10 q v).2<;>rfl
theorem zjt {w:List Data} (hs:WSmall w){a k:Int}{p q:Pat}{z:List Pat} (h:minV w a k p q=some z):∀x∈z,zae w 11 ⟨a,k⟩ x=true∧isP w ⟨a,k⟩ x=true∧∃m v,zaH w m ⟨a,k⟩ v=true∧hitP x v=true:=by
 obtain⟨h2,r,h3,h4,h5⟩:=zgb h;obtain⟨hsp,hin,t1,t2,s1,s2,e1,e2,_⟩:=zcj hs h2;have hrp:=zfr _ [] [] (by simp) t1 (by simp) h3;intro x hx;obtain⟨p1,_,p2⟩:=zlR (S:=fun _=>True) (fun _ _ _ _ _ _=>trivial) (fun b hb=>⟨t2 b hb,trivial⟩) (fun a ha=>⟨hrp a ha,trivial⟩) h4 x hx;obtain⟨m,v,h6,h7⟩:=zh0 hsp 11 hin p1 (by unfold zbj at p2;simpa using p2);exact⟨p1,List.all_eq_true.1 h5 x hx,m,v,h6,h7⟩
theorem zfI {w:List Data}{a k:Int}{p:Pat}{v:Val} (h1:zbu w ⟨a,k⟩=true) (h2:isP w ⟨a,k⟩ p=true) (hv:isV w ⟨a,k⟩ v=true):(zaW w a k p v).2=(zav 10 p v).2:=by
 have hp:zaI w a k p=true:=by unfold zaI;rw[h1,h2];rfl
 unfold zaW;rw[if_pos ⟨hp,hv⟩,zrW]
theorem zmb {w:List Data}{t:Ty}{v:Val} (hv:isV w t v=true):zaH w 10 t v=true:=by unfold isV at hv;rw[xad] at hv;exact hv.1
theorem zoR {w:List Data}{a k:Int}{z:List Pat}{v:Val} (h1:zbu w ⟨a,k⟩=true) (hv:isV w ⟨a,k⟩ v=true) (hz:∀x∈z,zae w 11 ⟨a,k⟩ x=true∧isP w ⟨a,k⟩ x=true):z.countP (fun x=>(zaW w a k x v).2)=z.countP (fun x=>hitP x v):=by
 refine List.countP_congr (fun x hx=>?_);rw[zfI h1 (hz x hx).2 hv,ztp (hz x hx).2 (hz x hx).1 (zmb hv)]
theorem zpj {w:List Data} (hs:WSmall w){a k:Int}{p q:Pat}{z:List Pat}{v:Val} (h:minV w a k p q=some z) (hv:isV w ⟨a,k⟩ v=true):z.countP (fun x=>(zaW w a k x v).2)=one ((zaW w a k p v).2&& !(zaW w a k q v).2):=by
 obtain⟨h2,_⟩:=zgb h;obtain⟨hsp,hin,t1,t2,s1,s2,e1,e2,tv,i1,i2⟩:=zcj hs h2;rw[zoR tv hv (fun x hx=>⟨(zjt hs h x hx).1,(zjt hs h x hx).2.1⟩),zvD hs h (zmb hv),zfI tv i1 hv,zfI tv i2 hv]
theorem zsF {w:List Data} (hs:WSmall w){a k:Int}{p q:Pat}{z:List Pat} (h:minV w a k p q=some z) (h4:FewQ w ⟨a,k⟩ (zaD p)):z.length≤400∧(∀x∈z,x.ok)∧Spa w∧InS (w.length*4) ⟨a,k⟩:=by
 obtain⟨h2,r,h3,h5,_⟩:=zgb h;obtain⟨hsp,hin,_⟩:=zcj hs h2;exact⟨zsT _ _ _ (Nat.le_trans (List.length_filter_le _ _) (h4 r h3)) h5,fun x hx=>(zeK hsp 11 hin (zjt hs h x hx).1).1,hsp,hin⟩
def prA (b:Str):Pat:=(mutP b (typP b 0) (typQ b 0)).1
def prQ (b:Str):Nat:=(mutP b (typP b 0) (typQ b 0)).2
def prB (b:Str):Pat:=zb6 b (za9 b 0) (typT b 0) (prQ b)
theorem zyh (b:Str):prQ b≤610:=by
 have h1:=(zoK b 0).2.2;unfold prQ mutP;repeat' split
 all_goals (dsimp only;omega)
theorem zuH (b:Str):(prA b).size≤2000∧(prA b).ok:=by
 have h:=zoK b 0;exact zwZ (by omega) h.2.1
theorem zuI (b:Str):(prB b).size≤242∧(prB b).ok:=znD (b:=b) (zdZ b 0).few (zi0 b 0) (prQ b)
theorem zrj (b:Str){w:List Data}{t:Ty} (h:zao w 10 t (prA b)=true):Form (zas (zau (prA b))):=zvF h
theorem zoH {b:Str} (hb:b.length≤1000000000000):
  FnD Tryz.prog 45 [.d (zcF b)] [] (.tup [.d (zam (za9 (b.take 2000) 0)),.agg [.d (.i (typT (b.take 2000) 0).data),.d (.i (typT (b.take 2000) 0).index)],
   .agg [.d (.i (prA (b.take 2000)).op),.d (.i (prA (b.take 2000)).ctor),.d (.i (prA (b.take 2000)).n),.d (.i (prA (b.take 2000)).m),.d (.i (prA (b.take 2000)).var),.d (zac (prA (b.take 2000)).kids)],
   .agg [.d (.i (prB (b.take 2000)).op),.d (.i (prB (b.take 2000)).ctor),.d (.i (prB (b.take 2000)).n),.d (.i (prB (b.take 2000)).m),.d (.i (prB (b.take 2000)).var),.d (zac (prB (b.take 2000)).kids)]]) []:=by
 have hop:=znH hb;have hb2:(b.take 2000).length≤2000:=by rw[List.length_take];omega
 generalize b.take 2000=e at *;have hpo:=zoK e 0;have hl:=zdZ e 0;have hq:=zyh e;have hty:=znT (p:=0) hb2 (by omega);have hmp:=zmp (q:=typQ e 0) hb2 (by omega) hpo.2.1;have hso:=ziX hb2 hl.dp.wt hl.few (a:=(typT e 0).data) (k:=(typT e 0).index) (p:=prQ e) (by omega) (zi0 e 0);rw[show(mutP e (typP e 0) (typQ e 0)).1=prA e from rfl,show(mutP e (typP e 0) (typQ e 0)).2=prQ e from rfl] at hmp;rw[show zb6 e (za9 e 0) ⟨(typT e 0).data,(typT e 0).index⟩ (prQ e)=prB e from rfl] at hso;generalize prA e=x1 at *;generalize prB e=x2 at *;generalize prQ e=q1 at *;refine bd Tryz.f45 29 [] [] fun w0 F0 own kept hk=>?_;refine ab 3003 tz25 ?_;refine ab 3004 tz28 ?_;refine ab 3005 tz28 ?_;refine tv ?_;refine Walk.call (cr:=[900]) zyl (hop) rfl .none rfl rfl (LeL.refl _) trivial rfl (by rfl) (by rfl) ?_;refine ev ?_;refine wd zyr (hty) rfl rfl ⟨rfl,trivial⟩ ?_;refine ev ?_;refine ab 3008 tz25 ?_;refine ab 3009 tz28 ?_;refine ab 3010 tz44 ?_;refine ev ?_;refine so ty25 ?_;refine so ty28 ?_;refine so ty44 ?_;refine tv ?_;refine wd zys (hmp) rfl rfl ⟨rfl,trivial⟩ ?_;refine evd [] [] ?_;refine wd zwh (hso) rfl rfl ⟨rfl,trivial⟩ ?_;refine evd [] [] ?_;refine so ty25 ?_;refine so ty28 ?_;refine so ty28 ?_;refine dr ?_;focus (refine rn0 (.cons (.tmp rfl) (.cons (.cellA ty25 rfl rfl rfl) (.cons (.cellA ty28 rfl rfl rfl) (.cons (.cellA ty28 rfl rfl rfl) .nil)))) (.tup (.cons (.eqd ?_) (.cons (.agg (.cons (.eqd ?_) (.cons (.eqd ?_) .nil))) (.cons (.agg (.cons (.eqd ?_) (.cons (.eqd ?_) (.cons (.eqd ?_) (.cons (.eqd ?_) (.cons (.eqd ?_) (.cons (.eqd ?_) .nil))))))) (.cons (.agg (.cons (.eqd ?_) (.cons (.eqd ?_) (.cons (.eqd ?_) (.cons (.eqd ?_) (.cons (.eqd ?_) (.cons (.eqd ?_) .nil))))))) .nil)))));all_goals (rfl))
theorem zef {b:Str} (hb:b.length≤1000000000000):
  FnD Tryz.prog 15 [.d (zcF b)] [] (.tup [.d (zam (za9 (b.take 2000) 0)),.agg [.d (.i (typT (b.take 2000) 0).data),.d (.i (typT (b.take 2000) 0).index)],
   .agg [.d (.i (prA (b.take 2000)).op),.d (.i (prA (b.take 2000)).ctor),.d (.i (prA (b.take 2000)).n),.d (.i (prA (b.take 2000)).m),.d (.i (prA (b.take 2000)).var),.d (zac (prA (b.take 2000)).kids)],
   .agg [.d (.i (prB (b.take 2000)).op),.d (.i (prB (b.take 2000)).ctor),.d (.i (prB (b.take 2000)).n),.d (.i (prB (b.take 2000)).m),.d (.i (prB (b.take 2000)).var),.d (zac (prB (b.take 2000)).kids)]]) []:=by
 refine bd Tryz.f15 12 [] [] fun w0 F0 own kept hk=>?_;refine ab 3003 tz25 ?_;refine ab 3004 tz28 ?_;refine ab 3005 tz28 ?_;refine tv ?_;refine wc zyk (zoH hb) rfl rfl ?_;refine ev ?_;refine so ty25 ?_;refine so ty28 ?_;refine so ty28 ?_;refine tv ?_;refine rn0 (.cons (.tmp rfl) (.cons (.cellA ty25 rfl rfl rfl) (.cons (.cellA ty28 rfl rfl rfl) (.cons (.cellA ty28 rfl rfl rfl) .nil)))) (.tup (.cons (.eqd ?_) (.cons (.agg (.cons (.eqd ?_) (.cons (.eqd ?_) .nil))) (.cons (.agg (.cons (.eqd ?_) (.cons (.eqd ?_) (.cons (.eqd ?_) (.cons (.eqd ?_) (.cons (.eqd ?_) (.cons (.eqd ?_) .nil))))))) (.cons (.agg (.cons (.eqd ?_) (.cons (.eqd ?_) (.cons (.eqd ?_) (.cons (.eqd ?_) (.cons (.eqd ?_) (.cons (.eqd ?_) .nil))))))) .nil)))));rotate_left 15;all_goals (rfl)
theorem zhX {b c:Str} (hb:b.length≤1000000000000) (hcl:c.length≤1000000000000):FnD Tryz.prog 5 [.d (zcF b),.d (zcF c)] [] (.d (.bool true)) []:=by
 have hdr:=zef hb;have hs:WSmall (za9 (b.take 2000) 0):=(zgN (b.take 2000) 0).small;have hn:=zjR (b.take 2000) 0;have hp:=zuH (b.take 2000);have hq:=zuI (b.take 2000);have hf:=fun {w:List Data}{t:Ty}=>zrj (b.take 2000) (w:=w) (t:=t);have hfew:∀ {q},zbD (za9 (b.take 2000) 0) (typT (b.take 2000) 0).data (typT (b.take 2000) 0).index (prA (b.take 2000)) q=true→FewQ (za9 (b.take 2000) 0) ⟨(typT (b.take 2000) 0).data,(typT (b.take 2000) 0).index⟩ (zaD (prA (b.take 2000))):=fun h=>zsu hs hn h hf;clear hf;generalize za9 (b.take 2000) 0=w at *;generalize (typT (b.take 2000) 0).data=a at *;generalize (typT (b.take 2000) 0).index=k at *;generalize prA (b.take 2000)=p at *;generalize prB (b.take 2000)=q at *;have hi:=zfg hs (a:=a) (k:=k) hp.2 hq.2 hfew;have hsp:=zfs hs (a:=a) (k:=k) hp.2 hq.2 (by omega) (by omega) hfew;cases hm:minV w a k p q with
 |none=>
  rw[hm] at hi hsp;refine bd Tryz.f5 131 [54,67] [] fun w0 F0 own kept hk=>?_;refine sq ?_ ?_<;>intro h1 h1p h1s;try simp only[Q] at h1p
  refine sqT ?_;refine rn0 (r1 rfl) (.eqd ?_);rotate_left;try simp only[Q] at h1p
  refine sq ?_ ?_<;>intro h3 h3p h3s;try simp only[Q] at h3p
  refine rn0 (r1 rfl) (.eqd ?_);rotate_left;try simp only[Q] at h3p
  refine wc zmD (hdr) rfl rfl ?_;refine evs [54,67] [] ?_;refine ab 3006 tz25 ?_;refine ab 3007 tz28 ?_;refine ab 3008 tz28 ?_;refine evs [54,67] [] ?_;refine so ty25 ?_;refine so ty28 ?_;refine so ty28 ?_;refine tv ?_;refine wc zmF (hi) rfl rfl ?_;refine evs [54,67] [] ?_;refine wc zmH (hsp) rfl rfl ?_;refine evs [54,67] [] ?_;refine xa8 un4 .none rfl rfl rfl ?_;refine evs [54,67] [] ?_;refine sq ?_ ?_<;>intro h4 h4p h4s;try simp only[Q] at h4p
  refine sqT ?_;refine sqT ?_;refine xaP un4 .none rfl rfl rfl ?_;refine evs [54,67] [] ?_;refine sq ?_ ?_<;>intro h6 h6p h6s;try simp only[Q] at h6p
  refine Walk.call (cr:=[]) zdx (zaN (l:=[]) (by simp) (by simp)) rfl (.some rfl rfl h6) rfl rfl (LeL.refl _) trivial rfl rfl rfl ?_;refine evs [54,67] [(68,true)] ?_ ⟨⟨_,rfl,h6⟩,trivial⟩;refine rn0 (r1 rfl) (.eqd ?_);rotate_left;try simp only[Q] at h6p
  refine rn0 (r1 rfl) (.eqd ?_);rotate_left;try simp only[Q] at h4p
  refine Walk.call (cr:=[]) zdx (zaN (l:=[]) (by simp) (by simp)) rfl (.some rfl rfl h4) rfl rfl (LeL.refl _) trivial rfl rfl rfl ?_;refine evs [54,67] [(55,false)] ?_ ⟨⟨_,rfl,h4⟩,trivial⟩;refine sq ?_ ?_<;>intro h7 h7p h7s;try simp only[Q] at h7p
  refine sqT ?_;refine xaP un4 .none rfl rfl rfl ?_;refine evs [54,67] [] ?_;refine sq ?_ ?_<;>intro h9 h9p h9s;try simp only[Q] at h9p
  refine Walk.call (cr:=[]) zdx (zaN (l:=[]) (by simp) (by simp)) rfl (.some rfl rfl h9) rfl rfl (LeL.refl _) trivial rfl rfl rfl ?_;refine evs [54,67] [(68,true)] ?_ ⟨⟨_,rfl,h9⟩,trivial⟩;refine rn0 (r1 rfl) (.eqd ?_);rotate_left;try simp only[Q] at h9p
  refine rn0 (r1 rfl) (.eqd ?_);rotate_left;try simp only[Q] at h7p
  refine sq ?_ ?_<;>intro h10 h10p h10s;try simp only[Q] at h10p
  refine xaP un4 .none rfl rfl rfl ?_;refine evs [54,67] [] ?_;refine sq ?_ ?_<;>intro h11 h11p h11s;try simp only[Q] at h11p
  refine Walk.call (cr:=[]) zdx (zaN (l:=[]) (by simp) (by simp)) rfl (.some rfl rfl h11) rfl rfl (LeL.refl _) trivial rfl rfl rfl ?_;refine evs [54,67] [(68,true)] ?_ ⟨⟨_,rfl,h11⟩,trivial⟩;refine rn0 (r1 rfl) (.eqd ?_);rotate_left;try simp only[Q] at h11p
  refine rn0 (r1 rfl) (.eqd ?_);rotate_left;try simp only[Q] at h10p
  focus (exfalso;first|contradiction|(simp at *;done))
  all_goals (first|rfl|contradiction|(exfalso;simp at *;done))
 |some z=>
  obtain⟨hz1,hz2,hsa,hin⟩:=zsF hs hm (hfew (zgb hm).1);rw[hm] at hi hsp;have hmod:0≤((c.map zeW).length:Int) % 3∧((c.map zeW).length:Int) % 3≤2:=by omega
  have hvu:=zgC hs (a:=a) (k:=k) (m:=1+((c.map zeW).length:Int) % 3);have hvl:=zsY w ⟨a,k⟩ (1+((c.map zeW).length:Int) % 3);have hvok:=zvf hs ⟨a,k⟩ (1+((c.map zeW).length:Int) % 3);have hlaw:∀v∈(vut w ⟨a,k⟩ (1+((c.map zeW).length:Int) % 3)).1,z.countP (fun x=>(zaW w a k x v).2)=one ((zaW w a k p v).2&& !(zaW w a k q v).2):=fun v hv=>zpj hs hm (zsX hsa hin (by omega) hv).1;generalize (vut w ⟨a,k⟩ (1+((c.map zeW).length:Int) % 3)).1=vs at *;refine bd Tryz.f5 131 [54,78,129] [] fun w0 F0 own kept hk=>?_;refine sq ?_ ?_<;>intro h1 h1p h1s;try simp only[Q,Int.natCast_inj,Val.cs_len,Pat.cs_len] at h1p
  refine sqT ?_;refine rn0 (r1 rfl) (.eqd ?_);rotate_left;try simp only[Q,Int.natCast_inj,Val.cs_len,Pat.cs_len] at h1p
  refine sq ?_ ?_<;>intro h3 h3p h3s;try simp only[Q,Int.natCast_inj,Val.cs_len,Pat.cs_len] at h3p
  refine rn0 (r1 rfl) (.eqd ?_);rotate_left;try simp only[Q,Int.natCast_inj,Val.cs_len,Pat.cs_len] at h3p
  refine wc zmD (hdr) rfl rfl ?_;refine evs [54,78,129] [] ?_;refine ab 3006 tz25 ?_;refine ab 3007 tz28 ?_;refine ab 3008 tz28 ?_;refine evs [54,78,129] [] ?_;refine so ty25 ?_;refine so ty28 ?_;refine so ty28 ?_;refine tv ?_;refine wc zmF (hi) rfl rfl ?_;refine evs [54,78,129] [] ?_;refine wc zmH (hsp) rfl rfl ?_;refine evs [54,78,129] [] ?_;refine xa8 un4 .none rfl rfl rfl ?_;refine evs [54,78,129] [] ?_;refine sq ?_ ?_<;>intro h4 h4p h4s;try simp only[Q,Int.natCast_inj,Val.cs_len,Pat.cs_len] at h4p
  refine sqT ?_;refine sqT ?_;focus (exfalso;first|contradiction|(simp at *;done))
  try simp only[Q,Int.natCast_inj,Val.cs_len,Pat.cs_len] at h4p
  refine Walk.call (cr:=[]) zdx (zaN (l:=z) (by omega) hz2) rfl (.some rfl rfl h4) rfl rfl (LeL.refl _) trivial rfl rfl rfl ?_;refine evs [54,78,129] [(55,false)] ?_ ⟨⟨_,rfl,h4⟩,trivial⟩;refine sq ?_ ?_<;>intro h6 h6p h6s;try simp only[Q,Int.natCast_inj,Val.cs_len,Pat.cs_len] at h6p
  refine sqT ?_;focus (exfalso;first|contradiction|(simp at *;done))
  try simp only[Q,Int.natCast_inj,Val.cs_len,Pat.cs_len] at h6p
  refine sq ?_ ?_<;>intro h8 h8p h8s;try simp only[Q,Int.natCast_inj,Val.cs_len,Pat.cs_len] at h8p
  focus (exfalso;first|contradiction|(simp at *;done))
  try simp only[Q,Int.natCast_inj,Val.cs_len,Pat.cs_len] at h8p
  refine xbf .none rfl rfl rfl (by omega) ?_;refine evs [54,78,129] [] ?_;refine ar ?_;refine wc zwb (hvu) rfl rfl ?_;refine evs [54,78,129] [] ?_;refine xaj (ι:=List (Val)×List (Val)) hk (fun x=>[(15,.d (.i (x.1.length:Int)))]) [4,16,17,18,19,20,83,84,85,86,87,88,89,90,91,92,93,94,95,96,97,98,99,100,101,102,103,104,105,106,107,108,109,110,111,112,113,114,115,116,117,118,119,120,121,122,123,124,125,126,127,128,129,130] (fun x=>[]) (fun x=>x.1++x.2=vs) (fun x=>x.2.length) ([],vs) (by simp) ⟨⟨_,rfl,xap ?_⟩,trivial⟩ trivial (fun x=>rfl) (fun x hg1=>?_);focus (first|rfl|(simp;done)|(simp_all;done)|omega)
  obtain⟨pre,rest⟩:=x;dsimp only at hg1 ⊢;refine evc [54,78,129] [] ?_;refine sq ?_ ?_<;>intro h9 h9p h9s;try simp only[Q,Int.natCast_inj,Val.cs_len,Pat.cs_len] at h9p
  rcases rest with _|⟨v,rest⟩
  ·exfalso;simp_all
  refine xaT sl37 .none rfl rfl rfl rfl (Val.cs_at hg1) rfl ?_;refine evd [54,78,129] [] ?_;refine wc zp0 (zcJ hs hp.2 (hvok v (by rw[←hg1];simp))) rfl rfl ?_;refine evd [54,78,129] [] ?_;refine dr ?_;refine xaT sl37 .none rfl rfl rfl rfl (Val.cs_at hg1) rfl ?_;refine evd [54,78,129] [] ?_;refine wc zp0 (zcJ hs hq.2 (hvok v (by rw[←hg1];simp))) rfl rfl ?_;refine evd [54,78,129] [] ?_;refine dr ?_;refine xaT sl37 .none rfl rfl rfl rfl (Val.cs_at hg1) rfl ?_;refine evd [54,78,129] [] ?_;refine wc zs1 (zeR hs (l:=z) (by omega) hz2 (hvok v (by rw[←hg1];simp))) rfl rfl ?_;refine evd [54,78,129] [] ?_;refine dr ?_;refine sq ?_ ?_<;>intro h10 h10p h10s;try simp only[Q,Int.natCast_inj,Val.cs_len,Pat.cs_len] at h10p
  refine sqT ?_;focus (exfalso;have hlw:=hlaw v (by rw[←hg1];simp);generalize List.countP (fun x=>(zaW w a k x v).2) z=nn at *;cases hx:(zaW w a k p v).2<;>cases hy:(zaW w a k q v).2<;>rw[hx,hy] at hlw<;>simp[one] at hlw<;>first|omega|(simp_all;done)|(simp_all;omega))
  try simp only[Q,Int.natCast_inj,Val.cs_len,Pat.cs_len] at h10p
  refine sq ?_ ?_<;>intro h12 h12p h12s;try simp only[Q,Int.natCast_inj,Val.cs_len,Pat.cs_len] at h12p
  refine xa8 un4 (.some rfl rfl h10) rfl rfl rfl ?_;refine evs [54,78,129] [(121,false)] ?_ ⟨⟨_,rfl,h10⟩,trivial⟩;refine sq ?_ ?_<;>intro h13 h13p h13s;try simp only[Q,Int.natCast_inj,Val.cs_len,Pat.cs_len] at h13p
  focus (exfalso;have hlw:=hlaw v (by rw[←hg1];simp);generalize List.countP (fun x=>(zaW w a k x v).2) z=nn at *;cases hx:(zaW w a k p v).2<;>cases hy:(zaW w a k q v).2<;>rw[hx,hy] at hlw<;>simp[one] at hlw<;>first|omega|(simp_all;done)|(simp_all;omega))
  try simp only[Q,Int.natCast_inj,Val.cs_len,Pat.cs_len] at h13p
  refine ar ?_;refine Exists.intro ((pre++[v],rest)) ⟨(by have hz:=hg1;rw[←hz];simp),(by simp),sx ⟨⟨_,rfl,xap ?_⟩,trivial⟩ trivial⟩;focus (first|rfl|(simp;done)|(simp_all;done)|omega)
  try simp only[Q,Int.natCast_inj,Val.cs_len,Pat.cs_len] at h12p
  refine xa8 un4 (.some rfl rfl h10) rfl rfl rfl ?_;refine evs [54,78,129] [(121,false)] ?_ ⟨⟨_,rfl,h10⟩,trivial⟩;refine sq ?_ ?_<;>intro h14 h14p h14s;try simp only[Q,Int.natCast_inj,Val.cs_len,Pat.cs_len] at h14p
  focus (exfalso;have hlw:=hlaw v (by rw[←hg1];simp);generalize List.countP (fun x=>(zaW w a k x v).2) z=nn at *;cases hx:(zaW w a k p v).2<;>cases hy:(zaW w a k q v).2<;>rw[hx,hy] at hlw<;>simp[one] at hlw<;>first|omega|(simp_all;done)|(simp_all;omega))
  try simp only[Q,Int.natCast_inj,Val.cs_len,Pat.cs_len] at h14p
  refine ar ?_;refine Exists.intro ((pre++[v],rest)) ⟨(by have hz:=hg1;rw[←hz];simp),(by simp),sx ⟨⟨_,rfl,xap ?_⟩,trivial⟩ trivial⟩;focus (first|rfl|(simp;done)|(simp_all;done)|omega)
  try simp only[Q,Int.natCast_inj,Val.cs_len,Pat.cs_len] at h9p
  have hrest:rest=[]:=by
   rcases rest with _|⟨a,b⟩
   ·rfl
   ·exfalso;have hz:=congrArg List.length (hg1);simp only[xaa,xab,xac] at hz;omega
  subst hrest;refine rn0 (r1 rfl) (.eqd ?_);rotate_left;all_goals (first|rfl|contradiction|(exfalso;simp at *;done))
end Go.Proofs.YtpgdedpljcedpaaGreat
namespace Go.Proofs.YtpgdedpljcedpaaGreat
open Go Go.ChangeShapes Go.WideShapes Go.ChangeAt Go.RowKit
set_option linter.unusedSimpArgs false
set_option linter.unusedVariables false
set_option linter.unusedVariables false
def FW (W:World) (b:Nat):Nat:=match W.heap[b]? with
 |some (.cells cs _ _)=>cs.size
 |_=>0
theorem FW_cell {W:World}{b o:Nat}{v:Value} (h:W.cell? ⟨b,o,none⟩=some v):o<FW W b:=by
 unfold World.cell? at h;unfold FW;simp only at h;split at h
 ·rename_i c t fr hb;simp only[hb];simp only[Option.isSome_none,Bool.false_eq_true,if_false] at h;exact(Array.getElem?_eq_some_iff.1 h).1
 ·cases h
theorem FW_top {W:World}{b:Nat} (h:W.heap.size≤b):FW W b=0:=by
 unfold FW;rw[Array.getElem?_eq_none h]
structure RelL (W:World) (xs:List D) (cs:List Value):Prop where
 len:xs.length=cs.length
 rel:∀i (h1:i<xs.length) (h2:i<cs.length),RelD (FW W) W xs[i] cs[i]
theorem RelL.append {W:World}{xs ys:List D}{cs ds:List Value} (h:RelL W xs cs) (k:RelL W ys ds):RelL W (xs++ys) (cs++ds):=by
 refine⟨by simp[h.len,k.len],fun i h1 h2=>?_⟩;by_cases hi:i<xs.length
 ·rw[List.getElem_append_left hi,List.getElem_append_left (by rw[←h.len];exact hi)];exact h.rel i hi (by rw[←h.len];exact hi)
 ·have hl:=h.len;rw[List.getElem_append_right (by omega),List.getElem_append_right (by omega)];have e:i-xs.length=i-cs.length:=by omega
  have h1':i-xs.length<ys.length:=by simp only[xaa] at h1;omega
  have h2':i-cs.length<ds.length:=by simp only[xaa] at h2;omega
  have:=k.rel (i-xs.length) h1' (by omega);simp only[e] at this ⊢;exact this
def Dec (P:Program) (W:World) (n:Nat) (t:TypeId){α:Type} (f:α→List D) (m:α→Nat) (R:α→Prop):Prop:=
 ∀(H:Type) (enc:TypeId×Value→H) (cs:List Value) (x:DataW H×List MemPlace),DataW.trod enc P W 0 (fun _=>true) true n t cs=some x→
  ∃a,RelL W (f a) cs∧m a+1≤Rows.uptoBulk x.1∧R a
section
variable {P:Program}{W:World}{n:Nat}{t:TypeId}
theorem Dec.zero {α:Type}{f:α→List D}{m:α→Nat}{R:α→Prop}:Dec P W 0 t f m R:=fun H enc cs x h=>by simp[DataW.trod] at h
theorem Dec.map {α β:Type}{f:α→List D}{m:α→Nat}{R:α→Prop}{f':β→List D}{m':β→Nat}{R':β→Prop} (g:α→β) (h:Dec P W n t f m R)
  (h1:∀a,f' (g a)=f a) (h2:∀a,m' (g a)≤m a) (h3:∀a,R a→R' (g a)):Dec P W n t f' m' R':=fun H enc cs x hx=>by
 obtain⟨a,q1,q2,q3⟩:=h H enc cs x hx;exact⟨g a,by rw[h1];exact q1,by have:=h2 a;omega,h3 a q3⟩
theorem RelL.one {x:D}{v:Value} (h:RelD (FW W) W x v):RelL W [x] [v]:=
 ⟨rfl,fun i h1 h2=>by
  have:i=0:=by simp at h1;omega
  subst this;exact h⟩
theorem Dec.int {k:IntKind} (ht:P.underlying t=some (.int k)):Dec P W n t (fun z:Int=>[.int k z]) (fun _=>0) (fun z=>(Lit.int k z).wf=true):=fun H enc cs x h=>by
 obtain⟨z,rfl,rfl,hw⟩:=DataW.trod_int ht h;exact⟨z,.one (.int k z),by simp[Rows.uptoBulk],hw⟩
theorem Dec.bool (ht:P.underlying t=some .bool):Dec P W n t (fun z:Bool=>[.bool z]) (fun _=>0) (fun _=>True):=fun H enc cs x h=>by
 obtain⟨z,rfl,rfl⟩:=DataW.trod_bool ht h;exact⟨z,.one (.bool z),by simp[Rows.uptoBulk],trivial⟩
theorem Dec.str (ht:P.underlying t=some .string):Dec P W n t (fun s:Str=>[.str s]) (fun s=>s.length) (fun _=>True):=fun H enc cs x h=>by
 obtain⟨s,rfl,rfl,hw⟩:=DataW.trod_string ht h;exact⟨s.data.toList,.one (by have:=RelD.str (F:=FW W) (w:=W) s.data.toList;simpa using this),by simp[Rows.uptoBulk],trivial⟩
def sumM {α:Type} (m:α→Nat):List α→Nat
 | []=>0
 |a::r=>m a+1+sumM m r
theorem zjC {α:Type} (m:α→Nat):∀l:List α,l.length≤sumM m l
 | []=>by simp[sumM]
 |a::r=>by have:=zjC m r;simp only[sumM,xab];omega
theorem zlv {α β:Type}{Q:Nat→α→β→Prop}:∀(l:List β) (o:Nat),(∀i (h:i<l.length),∃a,Q (o+i) a l[i])→∃zs:List α,zs.length=l.length∧∀i (h:i<l.length) (h':i<zs.length),Q (o+i) zs[i] l[i]
 | [],o,_=>⟨[],rfl,fun i h=>by simp at h⟩
 |b::r,o,h=>by
  obtain⟨a,ha⟩:=h 0 (by simp);obtain⟨zs,h1,h2⟩:=zlv (Q:=Q) r (o+1) (fun i hi=>by
   have:=h (i+1) (by simp;omega);rw[show o+1+i=o+(i+1) by omega];simpa using this)
  refine⟨a::zs,by simp[h1],fun i hi hi'=>?_⟩;cases i with
  |zero=>exact ha
  |succ i=>
   have:=h2 i (by simpa using hi) (by simpa using hi');rw[show o+1+i=o+(i+1) by omega] at this;simpa using this
theorem zqp {H α:Type}{m:α→Nat}:∀ {zs:List α}{xs:List (DataW H)},zs.length=xs.length→(∀i (h:i<zs.length) (h':i<xs.length),m zs[i]+1≤Rows.uptoBulk xs[i])→sumM m zs≤Rows.uptoBulkAll xs
 | [],[],_,_=>by simp[sumM,Rows.uptoBulkAll]
 |a::zs,x::xs,hl,h=>by
  have h0:=h 0 (by simp) (by simp);have ih:=zqp (m:=m) (zs:=zs) (xs:=xs) (by simpa using hl) (fun i h1 h2=>by
   have:=h (i+1) (by simp;omega) (by simp;omega);simpa using this)
  simp only[sumM,Rows.uptoBulkAll];simp only[List.getElem_cons_zero] at h0;omega
 | [],_::_,hl,_=>by simp at hl
 |_::_,[],hl,_=>by simp at hl
theorem Dec.sl {α:Type}{f:α→List D}{m:α→Nat}{R:α→Prop}{e:TypeId}{k:Nat} (ht:P.underlying t=some (.slice e)) (hc:P.cellsOf e=k+1) (hk:∀a,(f a).length=k+1) (he:Dec P W n e f m R):
  Dec P W (n+1) t (fun l:List α=>[.sl (l.map f)]) (fun l=>sumM m l) (fun l=>∀a∈l,R a):=fun H enc cs x h=>by
 rcases DataW.trod_slice ht h with ⟨rfl,rfl⟩|⟨a,len,cap,elems,rest,n',hn,rfl,rfl,_,hcap,_,hlen,hel,_,_⟩
 ·exact⟨[],.one .nil,by simp[sumM,Rows.uptoBulk],fun a h=>by simp at h⟩
 obtain rfl:n=n':=by omega
 have each:∀i (hi:i<elems.length),∃y,(∃cs,W.cells? 0 (a.add (i*(k+1))) (k+1)=some cs∧RelL W (f y) cs)∧m y+1≤Rows.uptoBulk (elems[i]).1∧R y:=by
  intro i hi;have:=hel i (by omega);rw[hc,List.getElem?_eq_getElem hi,Option.bind_eq_some_iff] at this;obtain⟨cs,h1,h2⟩:=this;obtain⟨y,h3,h4,h5⟩:=he H enc cs _ h2;exact⟨y,⟨cs,h1,h3⟩,h4,h5⟩
 obtain⟨zs,hal,has⟩:=zlv (Q:=fun i y (el:DataW H×List MemPlace)=>(∃cs,W.cells? 0 (a.add (i*(k+1))) (k+1)=some cs∧RelL W (f y) cs)∧m y+1≤Rows.uptoBulk el.1∧R y) elems 0 (fun i hi=>by simpa using each i hi);refine⟨zs,.one ?_, ?_,fun y hy=>?_⟩
 ·by_cases h0:zs=[]
  ·subst h0;have hz:len=0:=by simp at hal;omega
   subst hz;obtain⟨b,o,s⟩:=a;cases s with
   |none=>exact .sl [] 0 b o cap (fun _=>undef) (by simp) (by simp) (fun n hn=>by simp at hn) (fun i hi=>by simp at hi)
   |some s=>exact .emp b o s cap
  ·have hpos:0<zs.length:=List.length_pos_iff.2 h0;obtain⟨⟨cs0,hc0,hr0⟩,_⟩:=has 0 (by omega) hpos;have hspot:a.spot=none:=by
    have h1:=(World.cells?_some hc0).2.2 0 (by omega);have h2:0<cs0.length:=by have:=(World.cells?_some hc0).2.1;omega
    simp only[Nat.add_zero,Nat.zero_mul,Addr.add,if_true,List.getElem?_eq_getElem h2] at h1;unfold World.cell? at h1;split at h1
    ·cases hs:a.spot with
     |none=>rfl
     |some s=>simp[hs] at h1
    ·cases h1
   obtain⟨b,o,s⟩:=a;simp only at hspot;subst hspot;have hlen':(zs.map f).length=len:=by simp;omega
   have hmulk:∀i j,i<zs.length→j<k+1→i*(k+1)+j<zs.length*(k+1):=fun i j hi hj=>by
    have:(i+1)*(k+1)≤zs.length*(k+1):=Nat.mul_le_mul_right _ (by omega);rw[Nat.add_mul,Nat.one_mul] at this;omega
   have cellAt:∀i (hi:i<zs.length) j (hj:j<(f zs[i]).length),∃v,W.cell? ⟨b,o+(i*(k+1)+j),none⟩=some v∧RelD (FW W) W ((f zs[i])[j]) v:=fun i hi j hj=>by
    obtain⟨⟨cs,hc1,hr1⟩,_⟩:=has i (by omega) hi;have hjk:j<k+1:=by have:=hk zs[i];omega
    obtain⟨_,q1,q2⟩:=World.cells?_some hc1;have q3:=q2 j hjk;rw[List.getElem?_eq_getElem (by omega)] at q3;refine⟨cs[j], ?_,hr1.rel j hj (by omega)⟩;rw[←q3];congr 1
    simp only[Nat.zero_add,Addr.add];split<;>split<;>simp_all<;>omega
   have hv:((zs.map f).length,cap)=(len,cap):=by rw[hlen']
   have goal:RelD (FW W) W (.sl (zs.map f)) (.slice (some ⟨b,o,none⟩) (zs.map f).length cap):=by
    refine .sl _ (k+1) b o cap (fun q=>(W.cell? ⟨b,o+q,none⟩).getD undef) (fun y hy=>?_) (by omega) (fun q hq=>?_) (fun i hi j hj=>?_)
    ·obtain⟨y',_,rfl⟩:=List.mem_map.1 hy;exact hk y'
    ·have hq':q<zs.length*(k+1):=by simpa using hq
     have hi:q / (k+1)<zs.length:=Nat.div_lt_of_lt_mul (by rw[Nat.mul_comm];exact hq');have hj:q % (k+1)<k+1:=Nat.mod_lt _ (by omega);obtain⟨v,h1,_⟩:=cellAt _ hi (q % (k+1)) (by rw[hk];exact hj);rw[Nat.div_add_mod'] at h1;exact⟨FW_cell h1,by rw[h1];rfl⟩
    ·have hi':i<zs.length:=by simpa using hi
     simp only[List.getElem_map] at hj ⊢;obtain⟨v,h1,h2⟩:=cellAt i hi' j hj;show RelD (FW W) W _ ((W.cell? ⟨b,o+(i*(k+1)+j),none⟩).getD undef)
     rw[h1];exact h2
   rw[hlen'] at goal;exact goal
 ·have:=zqp (m:=m) (zs:=zs) (xs:=elems.map (·.1)) (by simp[hal]) (fun i h1 h2=>by
   have:=(has i (by simpa using h2) h1).2.1;simpa using this)
  simp only[Rows.uptoBulk];omega
 ·obtain⟨i,hi,rfl⟩:=List.getElem_of_mem hy;exact(has i (by omega) hi).2.2
def DecF (P:Program) (W:World) (n o K:Nat) (fs:List Field){α:Type} (f:α→List D) (m:α→Nat) (R:α→Prop):Prop:=
 ∀(H:Type) (enc:TypeId×Value→H) (cs:List Value) (xs:List (DataW H×List MemPlace)),cs.length=K→xs.length=fs.length→
  (∀(i:Nat) (fd:Field),fs[i]?=some fd→DataW.trod enc P W 0 (fun _=>true) true n fd.type ((cs.drop fd.offset).take (P.cellsOf fd.type))=xs[i]?)→
  ∃a,RelL W (f a) (cs.drop o)∧m a≤Rows.uptoBulkAll (xs.map (·.1))∧R a
theorem DecF.nil {K:Nat}:DecF P W n K K [] (fun _:Unit=>[]) (fun _=>0) (fun _=>True):=fun H enc cs xs h1 h2 _=>
 ⟨(),by rw[List.drop_of_length_le (by omega)];exact⟨rfl,fun i h=>by simp at h⟩,by simp,trivial⟩
theorem DecF.cons {α β:Type}{f:α→List D}{m:α→Nat}{R:α→Prop}{f2:β→List D}{m2:β→Nat}{R2:β→Prop}{o K k:Nat}{fd:Field}{fs:List Field}
  (h1:Dec P W n fd.type f m R) (ho:fd.offset=o) (hc:P.cellsOf fd.type=k) (h2:DecF P W n (o+k) K fs f2 m2 R2):
  DecF P W n o K (fd::fs) (fun p:α×β=>f p.1++f2 p.2) (fun p=>m p.1+1+m2 p.2) (fun p=>R p.1∧R2 p.2):=fun H enc cs xs hK hl hx=>by
 cases xs with
 |nil=>simp at hl
 |cons y ys=>
  have h0:=hx 0 fd (by simp);simp only[List.getElem?_cons_zero] at h0;rw[ho,hc] at h0;obtain⟨a,q1,q2,q3⟩:=h1 H enc _ _ h0;obtain⟨b,r1,r2,r3⟩:=h2 H enc cs ys hK (by simpa using hl) (fun i fd' hi=>by
   have:=hx (i+1) fd' (by simpa using hi);simpa using this)
  refine⟨(a,b), ?_, ?_,q3,r3⟩
  ·have:cs.drop o=(cs.drop o).take k++cs.drop (o+k):=by
    rw[←List.drop_drop,List.take_append_drop]
   rw[this];exact q1.append r1
  ·simp only[xae,Rows.uptoBulkAll];omega
theorem Dec.struct {α:Type}{f:α→List D}{m:α→Nat}{R:α→Prop}{fs:Array Field} (ht:P.underlying t=some (.struct fs)){K:Nat} (hK:P.cellsOf t=K) (h:DecF P W n 0 K fs.toList f m R):
  Dec P W (n+1) t f m R:=fun H enc cs x hx=>by
 obtain⟨xs,n',hn,rfl,hl,hxl,hf⟩:=DataW.trod_struct ht hx;obtain rfl:n=n':=by omega
 obtain⟨a,q1,q2,q3⟩:=h H enc cs xs (by omega) (by simpa using hxl) (fun i fd hi=>hf i fd (by simpa using hi));refine⟨a,by simpa using q1, ?_,q3⟩;simp only[Rows.uptoBulk];omega
end
section
variable {P:Program}{W:World}{base:Nat}{t:TypeId}{v:Value}{H:Type}{enc:TypeId×Value→H}{d:DataW H}{ps:List MemPlace}
theorem zqm {α:Type}{e:TypeId}{f:α→List D}{m:α→Nat}{R:α→Prop}{k:Nat} (ht:P.underlying t=some (.slice e)) (hc:P.cellsOf e=k+1) (hk:∀a,(f a).length=k+1) (hd:∀n,Dec P W n e f m R)
  (hval:Value.okWide P W .any base t v) (h:DataW.Trod enc P W 0 (fun _=>true) true t v d ps):
  ∃l:List α,(∀G T,G.F=FW W→RelA G T W (.d (.sl (l.map f))) v)∧sumM m l+1≤Rows.uptoBulk d∧∀a∈l,R a:=by
 obtain⟨n,hn⟩:=h;cases n with
 |zero=>simp[DataW.trod] at hn
 |succ n=>
  obtain⟨l,h1,h2,h3⟩:=Dec.sl ht hc hk (hd n) H enc _ _ hn;have hcells:v.cells.toList=[v]:=by
   cases v with
   |agg cs=>simp only[Value.okWide,ht,Cell.okWide,Cell.ok] at hval
   |_=>rfl
  rw[hcells] at h1;exact⟨l,fun G T hG=> .d (by rw[hG];simpa using h1.rel 0 (by simp) (by simp)),h2,h3⟩
end
section
variable {P:Program}{H:Type}{enc:TypeId×Value→H}
theorem zjQ (hl:laidOutB P=true){W W':World} (hb:Below W.heap.size W W'):∀ {ts:List TypeId}{vs:List Value}{ds:List (DataW H)}{ps:List MemPlace},
  (∀t∈ts,P.readableRec t=true∧t<P.types.size)→DataW.TrodAll enc P W 0 (fun _=>true) true ts vs ds ps→(∀x∈ps,x.block<W.heap.size)→
  DataW.TrodAll enc P W' 0 (fun b=>decide (b<W.heap.size)) true ts vs ds ps
 | [],[],[],ps,_,h,_=>h
 |t::ts,v::vs,d::ds,ps,hr,h,hlt=>by
  obtain⟨p,q,h1,h2,rfl⟩:=h;exact⟨p,q,Below.trod hl (hr t (by simp)).1 (hr t (by simp)).2 h1 hb (fun x hx=>hlt x (by simp[hx])),
   zjQ hl hb (fun t ht=>hr t (by simp[ht])) h2 (fun x hx=>hlt x (by simp[hx])),rfl⟩
theorem zq4 {f:Func}{s:ChangeSpec}{W W':World}{args:Array Value}{ds gs:List (DataW H)}{before:List MemPlace}{tb:TypeId}
  (hW:DataW.Whole enc P f.params.toList s.vars false W args.toList ds gs before) (hvars:s.vars=[]) (hrt:f.resultTypes = #[tb]) (htb:P.underlying tb=some .bool)
  (hs:s.fn H (ds++gs)={ results:=[.lit (.bool true)],args:=ds }) (hl:laidOutB P=true) (hr:∀t∈f.params.toList,P.readableRec t=true∧t<P.types.size)
  (hb:Below W.heap.size W W'):s.post enc P f false true false false W args (.bool true) W':=by
 have hlt:∀p∈before,p.block<W.heap.size:=fun p hp=>hW.lt p hp;have hW0:=hW;obtain⟨p,q,hA,hV,rfl,hfz,_⟩:=hW;rw[hvars] at hV;cases gs with
 |cons g gs=>exact hV.elim
 |nil=>
  have hq:q=[]:=hV;subst hq;simp only[List.append_nil] at *;refine⟨ds,[],p,[],p,[],by simpa [hvars] using hW0, ?_, ?_, ?_,World.keptBut_mono (fun x hx=>⟨hx,.inr (.inl hx)⟩) (hb.frame (·∈p)),fun h=>by cases h⟩
  ·simp only[List.append_nil,hs,hrt];exact trodAll_cons_mk (shut_bool htb _) trodAll_mk0
  ·simp only[List.append_nil,hs];exact zjQ hl hb hr hA hlt
  ·simp only[hvars,List.append_nil,hs];rfl
theorem zpc {f:FuncId}{avs:List AV}{W:World}{args:Array Value}{r:AV} (hf:FnD P f avs [] r [])
  (hargs:∀G T,G.F=FW W→AllR G T W avs args):Calls P f args W fun e W'=>∃v G',e = .returned v∧RelA G' (fun _=>none) W' r v∧Below W.heap.size W W':=by
 let G:Gh:={ F:=FW W,loc:=fun _=>[] }
 refine(hf G W args ⟨hargs G _ rfl,fun id r h=>(by simp[getH] at h),fun id id' h=>(by simp[getH] at h),fun b hb=>FW_top hb⟩).mono ?_;rintro e W' ⟨v,r',hp',G',rfl,⟨rfl,rfl⟩,h⟩
 exact⟨v,G',rfl,h.res,⟨h.frm.os,h.frm.tape,h.frm.output,h.frm.size,fun b hb=>(h.frm.block b hb (by simp[zc1])).1⟩⟩
theorem RelA.bool_true {G:Gh}{T:TokF}{w:World}{v:Value} (h:RelA G T w (.d (.bool true)) v):v = .bool true:=by
 cases h with|d h=>cases h;rfl
theorem zqo {H:Type}{l:List (DataW H)} (hk:Rows.uptoSmall H l=true):Rows.uptoBulkAll l≤1048576:=of_decide_eq_true hk
end
end Go.Proofs.YtpgdedpljcedpaaGreat
namespace Go.Proofs.YtpgdedpljcedpaaGreat
open Go Go.ChangeShapes Go.WideShapes Go.ChangeAt Go.RowKit
set_option linter.unusedSimpArgs false
set_option linter.unusedVariables false
set_option maxRecDepth 100000
theorem zoc (W:World) (n:Nat):Dec Tryz.prog W n 5 (fun x:UInt8=>[D.int .u8 (x.toNat:Int)]) (fun _=>0) (fun _=>True):=fun H enc cs x hx=>by
 obtain⟨z,q1,q2,q3⟩:=Dec.int (k:= .u8) Tryz.underlying5 H enc cs x hx;have h:0≤z∧z≤255:=by
  simp[Lit.wf,IntKind.wrap,IntKind.signed,IntKind.bits,IntKind.min,IntKind.max] at q3;omega
 refine⟨UInt8.ofNat z.toNat, ?_,q2,trivial⟩;have e:(((UInt8.ofNat z.toNat).toNat:Nat):Int)=z:=by
  rw[UInt8.toNat_ofNat',Nat.mod_eq_of_lt (by omega)];omega
 show RelL W [D.int .u8 (((UInt8.ofNat z.toNat).toNat:Nat):Int)] cs
 rw[e];exact q1
end Go.Proofs.YtpgdedpljcedpaaGreat
namespace Go.Proofs.YtpgdedpljcedpaaGreat
open Go
set_option linter.unusedSimpArgs false
set_option linter.unusedVariables false
set_option maxRecDepth 100000
set_option maxHeartbeats 2000000
def zdi (xs ys:List Pat):List Pat:=xs.flatMap fun x=>ys.filterMap (zax 10 x)
theorem zky {xs ys:List Pat}{z:Pat}:z∈zdi xs ys↔∃x∈xs,∃y∈ys,zax 10 x y=some z:=by
 unfold zdi;simp only[List.mem_flatMap,List.mem_filterMap]
theorem zph {xs ys:List Pat} (h1:xs.length≤40) (h2:ys.length≤40):(zdi xs ys).length≤1600:=by
 have h:=zh7 (f:=fun x=>ys.filterMap (zax 10 x)) (k:=40) (fun x=>Nat.le_trans (List.length_filterMap_le _ _) h2) xs;unfold zdi;omega
theorem zgp {f:Pat→Option Pat}{pre:List Pat}{y z:Pat} (h:f y=some z):(pre++[y]).filterMap f=pre.filterMap f++[z]:=by
 rw[List.filterMap_append,List.filterMap_cons_some h,List.filterMap_nil]
theorem zlB {f:Pat→Option Pat}{pre:List Pat}{y:Pat} (h:f y=none):(pre++[y]).filterMap f=pre.filterMap f:=by
 rw[List.filterMap_append,List.filterMap_cons_none h,List.filterMap_nil,List.append_nil]
theorem zml {w:List Data}{t:Ty}:∀(r front o:List Pat){res:List Pat},sepQ w t front r o=some res→res.length≤o.length+400*r.length
 | [],_,o,res,h=>by rw[sepQ] at h;cases h;omega
 |p::r,front,o,res,h=>by
  rw[sepQ] at h;cases hw:zaJ w t [p] front with
  |none=>rw[hw] at h;cases h
  |some m=>
   rw[hw] at h;have h1:=zml r _ _ h;have hsub:∀(away c r:List Pat),c.length≤400→subL w t c away=some r→r.length≤400:=fun away=>by
    induction away with
    |nil=>intro c r hc h;rw[subL] at h;cases h;exact hc
    |cons b away ih=>
     intro c r hc h;rw[subL] at h;split at h
     ·rename_i h4;exact ih _ _ h4 h
     ·cases h
   have h2:=hsub _ _ _ (Nat.le_trans (List.length_filter_le _ _) (by simp)) hw;rw[xaa] at h1;simp only[xab];omega
def meV (w:List Data) (a k:Int) (p q:Pat):Option (List Pat):=if zbD w a k p q=true then (match sepV w ⟨a,k⟩ (zdi (zaD p) (zaD q)) with
  |none=>none
  |some z=>if z.all (isP w ⟨a,k⟩)=true then some z else none) else none
theorem zuA {w:List Data}{a k:Int}{p q:Pat} (h:zbD w a k p q=false):meV w a k p q=none:=by unfold meV;rw[if_neg (by rw[h];simp)]
theorem zwu {w:List Data}{a k:Int}{p q:Pat} (h:zbD w a k p q=true) (h2:sepV w ⟨a,k⟩ (zdi (zaD p) (zaD q))=none):meV w a k p q=none:=by unfold meV;rw[if_pos h,h2]
theorem zwv {w:List Data}{a k:Int}{p q:Pat}{z:List Pat} (h:zbD w a k p q=true) (h2:sepV w ⟨a,k⟩ (zdi (zaD p) (zaD q))=some z):meV w a k p q=if z.all (isP w ⟨a,k⟩)=true then some z else none:=by unfold meV;rw[if_pos h,h2]
theorem zjs {w:List Data}{t:Ty}{xs ys:List Pat} (hx:∀x∈xs,zae w 10 t x=true) (hy:∀y∈ys,zae w 10 t y=true):∀z∈zdi xs ys,zae w 10 t z=true:=fun z hz=>by
 obtain⟨x,h1,y,h2,h3⟩:=zky.1 hz;exact zkw 10 10 (hx x h1) (hy y h2) h3
theorem zql {z:List Pat}{b:Bool}:zac (if b=true then z else [])=zac ((if b=true then some z else none).getD [])∧b=(if b=true then some z else none:Option (List Pat)).isSome:=by cases b<;>exact⟨rfl,rfl⟩
theorem zjk {w:List Data} (hs:WSmall w){a k:Int}{p q:Pat} (hp:p.ok) (hq:q.ok):
  FnD Tryz.prog 25 [.d (zam w),.agg [.d (.i a),.d (.i k)],.agg [.d (.i p.op),.d (.i p.ctor),.d (.i p.n),.d (.i p.m),.d (.i p.var),.d (zac p.kids)],.agg [.d (.i q.op),.d (.i q.ctor),.d (.i q.n),.d (.i q.m),.d (.i q.var),.d (zac q.kids)]] []
   (.tup [.d (zac ((meV w a k p q).getD [])),.d (.bool (meV w a k p q).isSome)]) []:=by
 have hbp:=zgY hs (a:=a) (k:=k) hp hq;cases h2:zbD w a k p q with
 |false=>
  rw[zuA h2];rw[h2] at hbp;generalize (if (zaI w a k p&&isP w ⟨a,k⟩ q)=true then zaD p else [])=z1 at hbp;generalize (if (zaI w a k p&&isP w ⟨a,k⟩ q)=true then zaD q else [])=z2 at hbp;refine bd Tryz.f25 75 [] [] fun w0 F0 own kept hk=>?_;refine bx 3005 ?_;refine bx 3006 ?_;refine bx 3007 ?_;refine ev ?_;refine wc zi4 (hbp) rfl rfl ?_;refine ev ?_;refine sq ?_ ?_<;>intro h1 h1p h1s;refine rn0 (r2 rfl rfl) (.tup (.cons (.nild ?_) (.cons (.eqd ?_) .nil)));rotate_left 2;focus (exfalso;contradiction)
  all_goals (rfl)
 |true=>
  obtain⟨hsp,hin,t1,t2,_⟩:=zcj hs h2;have hpq:(zaI w a k p&&isP w ⟨a,k⟩ q)=true:=by unfold zbD at h2;rw[xad] at h2;exact h2.1
  rw[h2,if_pos hpq,if_pos hpq] at hbp;have hn:=zgZ hsp.dp;have hxl:=zdm p;have hyl:=zdm q;have hme:=fun(x y:Pat) (hx:x∈zaD p) (hy:y∈zaD q)=>zhD hsp (f:=zai w) 10 10 (Nat.le_refl _) hin (t1 x hx) (t2 y hy);have hml:=zph hxl hyl;have hmp:=zjs t1 t2;have hse:=zhF hsp hin hmp hml;have hfl:∀pre x rest,pre++x::rest=zaD p→(pre.flatMap fun x=>(zaD q).filterMap (zax 10 x)).length≤1600:=fun pre x rest h=>by
   have h3:=zh7 (f:=fun x=>(zaD q).filterMap (zax 10 x)) (k:=40) (fun x=>Nat.le_trans (List.length_filterMap_le _ _) hyl) pre;have h4:=congrArg List.length h;simp only[xaa,xab] at h4;omega
  cases h3:sepV w ⟨a,k⟩ (zdi (zaD p) (zaD q)) with
  |none=>
   rw[zwu h2 h3];rw[h3] at hse;have hre:=zdG hsp (f:=zai w) hin (l:=[]) (ok:=false) (by simp) (by simp);unfold zdi at hse;generalize zaD p=X at *;generalize zaD q=Y at *;refine bd Tryz.f25 75 [14] [17] fun w0 F0 own kept hk=>?_;refine bx 3005 ?_;refine bx 3006 ?_;refine bx 3007 ?_;refine evs [14] [] ?_;refine wc zi4 (hbp) rfl rfl ?_;refine evs [14] [] ?_;refine sq ?_ ?_<;>intro h1 h1p h1s;focus (exfalso;contradiction)
   refine wc zmL (hn) rfl rfl ?_;refine evs [14] [] ?_;refine xaB 9 6 .none rfl rfl ?_;refine tv ?_;refine xaj (ι:=List (Pat)×List (Pat)) hk (fun x=>[(36,.d (.i (x.1.length:Int))),(14,.gl 9 (Pat.cs (x.1.flatMap fun x=>Y.filterMap (zax 10 x))))]) [16,18,19,20,37,38,39,40,41,42,43,44,45,46,47,48,49,50,51,52,53,54,55,56,57,58,59,60] (fun x=>[(9,some (.tok ((Pat.cs (x.1.flatMap fun x=>Y.filterMap (zax 10 x)))).length 6))]) (fun x=>x.1++x.2=X) (fun x=>x.2.length) ([],X) (by simp) ⟨⟨_,rfl,xap ?_⟩,⟨⟨_,rfl,LeA.glg ?_⟩,trivial⟩⟩ ⟨zab ?_,trivial⟩ (fun x=>rfl) (fun x hg1=>?_);iterate 3 focus (rfl)
   obtain⟨pre,rest⟩:=x;dsimp only at hg1 ⊢;refine evc [14] [17] ?_;refine sq ?_ ?_<;>intro h2 h2p h2s;try simp only[Q,Pat.cs_len] at h2p
   rcases rest with _|⟨e,rest⟩
   ·exfalso;simp_all
   refine xaT sl26 .none rfl rfl rfl rfl (Pat.cs_at' hg1) rfl ?_;refine evs [14] [] ?_;refine ab 3016 tz28 ?_;refine so ty28 ?_;refine tv ?_;refine xaj (ι:=List (Pat)×List (Pat)) hk (fun x=>[(42,.d (.i (x.1.length:Int))),(14,.gl 9 (Pat.cs ((pre.flatMap fun x=>Y.filterMap (zax 10 x))++x.1.filterMap (zax 10 e))))]) [18,19,20,43,44,45,46,47,48,49,50,51,52,53,54,55,56,57,58,59] (fun x=>[(9,some (.tok ((Pat.cs ((pre.flatMap fun x=>Y.filterMap (zax 10 x))++x.1.filterMap (zax 10 e)))).length 6))]) (fun x=>x.1++x.2=Y) (fun x=>x.2.length) ([],Y) (by simp) ⟨⟨_,rfl,xap ?_⟩,⟨⟨_,rfl,LeA.glg ?_⟩,trivial⟩⟩ ⟨zab ?_,trivial⟩ (fun x=>rfl) (fun x hg2=>?_);iterate 3 focus ((simp;done))
   obtain⟨pre2,rest2⟩:=x;dsimp only at hg2 ⊢;refine evc [14] [17] ?_;refine sq ?_ ?_<;>intro h3 h3p h3s;try simp only[Q,Pat.cs_len] at h3p
   rcases rest2 with _|⟨y,rest2⟩
   ·exfalso;simp_all
   refine xaT sl26 .none rfl rfl rfl rfl (Pat.cs_at' hg2) rfl ?_;refine evs [14] [] ?_;refine ab 3018 tz28 ?_;refine so ty28 ?_;refine tv ?_;refine wc zp5 (hme e y (by rw[←hg1];simp) (by rw[←hg2];simp)) rfl rfl ?_;refine evs [14] [] ?_;refine ab 3019 tz28 ?_;refine so ty28 ?_;refine evs [14] [] ?_;refine sq ?_ ?_<;>intro h4 h4p h4s;refine si [0] [_] sl26 tz28 ?_;refine ap sl26 zz28 rfl rfl rfl (by intro x hx;simp at hx;subst hx;rfl) (by have h9:=hfl pre e rest hg1;have h8:=List.length_filterMap_le (zax 10 e) pre2;have h7:=congrArg List.length hg2;simp only[xaa,xab] at h7;simp only[Pat.cs_len,xaa,xab,xah];omega) ?_;refine asg ?_;refine tv ?_;refine ar ?_;refine Exists.intro ((pre2++[y],rest2)) ⟨(by have hz:=hg2;rw[←hz];simp),(by simp),sx ⟨⟨_,rfl,xap ?_⟩,⟨⟨_,rfl,LeA.glg ?_⟩,trivial⟩⟩ ⟨zab ?_,trivial⟩⟩;iterate 3 focus (first|(dsimp only;rw[zgp (zga (by assumption)),xat,xat];simp only[xaf,List.append_assoc];rfl)|(dsimp only;rw[zgp (zga (by assumption))];simp only[Pat.cs_len,xaa,xab,xah];omega)|(simp;done))
   refine ar ?_;refine Exists.intro ((pre2++[y],rest2)) ⟨(by have hz:=hg2;rw[←hz];simp),(by simp),sx ⟨⟨_,rfl,xap ?_⟩,⟨⟨_,rfl,LeA.glg ?_⟩,trivial⟩⟩ ⟨zab ?_,trivial⟩⟩;iterate 3 focus (first|(dsimp only;rw[zlB (ziN (by first|assumption|(simp_all;done)))];done)|(simp;done))
   try simp only[Q,Pat.cs_len] at h3p
   have hrest2:rest2=[]:=by
    rcases rest2 with _|⟨a,b⟩
    ·rfl
    ·exfalso;have hz:=congrArg List.length (hg2);simp only[xaa,xab,xac] at hz;omega
   subst hrest2;refine ar ?_;refine Exists.intro ((pre++[e],rest)) ⟨(by have hz:=hg1;rw[←hz];simp),(by simp),sx ⟨⟨_,rfl,xap ?_⟩,⟨⟨_,rfl,LeA.glg ?_⟩,trivial⟩⟩ ⟨zab ?_,trivial⟩⟩;iterate 3 focus (first|(dsimp only;rw[List.append_nil] at hg2;subst hg2;rw[List.flatMap_append];simp;done)|(simp;done))
   try simp only[Q,Pat.cs_len] at h2p
   have hrest:rest=[]:=by
    rcases rest with _|⟨a,b⟩
    ·rfl
    ·exfalso;have hz:=congrArg List.length (hg1);simp only[xaa,xab,xac] at hz;omega
   subst hrest;obtain rfl:pre=X:=(by simpa using hg1);refine evc [14] [] ?_;refine Walk.call (cr:=[]) zmM (hse) rfl .none rfl rfl (.cons (.refl _) (.cons (.refl _) (.cons (.gl _ _) .nil))) trivial rfl rfl rfl ?_;refine evs [14] [] ?_;refine asg ?_;refine evs [14] [] ?_;refine wc zmN (hre) rfl rfl ?_;refine evs [14] [] ?_;refine rn0 (r2 rfl rfl) (.tup (.cons (.eqd ?_) (.cons (.eqd ?_) .nil)));rotate_left 2;all_goals (rfl)
  |some z=>
   rw[zwv h2 h3];rw[h3] at hse;have hzp:=zfr _ [] [] (by simp) hmp (by simp) h3;have hzl:=zml _ _ _ h3;have hre:=zdG hsp (f:=zai w) hin (l:=z) (ok:=true) (fun x hx=>(zeK hsp 11 hin (hzp x hx)).1) (by simp at hzl;omega);rw[Bool.true_and] at hre;generalize z.all (isP w ⟨a,k⟩)=b at *;unfold zdi at hse;clear hmp hml hzl h3;generalize zaD p=X at *;generalize zaD q=Y at *;refine bd Tryz.f25 75 [14] [17] fun w0 F0 own kept hk=>?_;refine bx 3005 ?_;refine bx 3006 ?_;refine bx 3007 ?_;refine evs [14] [] ?_;refine wc zi4 (hbp) rfl rfl ?_;refine evs [14] [] ?_;refine sq ?_ ?_<;>intro h1 h1p h1s;focus (exfalso;contradiction)
   refine wc zmL (hn) rfl rfl ?_;refine evs [14] [] ?_;refine xaB 9 6 .none rfl rfl ?_;refine tv ?_;refine xaj (ι:=List (Pat)×List (Pat)) hk (fun x=>[(36,.d (.i (x.1.length:Int))),(14,.gl 9 (Pat.cs (x.1.flatMap fun x=>Y.filterMap (zax 10 x))))]) [16,18,19,20,37,38,39,40,41,42,43,44,45,46,47,48,49,50,51,52,53,54,55,56,57,58,59,60] (fun x=>[(9,some (.tok ((Pat.cs (x.1.flatMap fun x=>Y.filterMap (zax 10 x)))).length 6))]) (fun x=>x.1++x.2=X) (fun x=>x.2.length) ([],X) (by simp) ⟨⟨_,rfl,xap ?_⟩,⟨⟨_,rfl,LeA.glg ?_⟩,trivial⟩⟩ ⟨zab ?_,trivial⟩ (fun x=>rfl) (fun x hg1=>?_);iterate 3 focus (rfl)
   obtain⟨pre,rest⟩:=x;dsimp only at hg1 ⊢;refine evc [14] [17] ?_;refine sq ?_ ?_<;>intro h2 h2p h2s;try simp only[Q,Pat.cs_len] at h2p
   rcases rest with _|⟨e,rest⟩
   ·exfalso;simp_all
   refine xaT sl26 .none rfl rfl rfl rfl (Pat.cs_at' hg1) rfl ?_;refine evs [14] [] ?_;refine ab 3016 tz28 ?_;refine so ty28 ?_;refine tv ?_;refine xaj (ι:=List (Pat)×List (Pat)) hk (fun x=>[(42,.d (.i (x.1.length:Int))),(14,.gl 9 (Pat.cs ((pre.flatMap fun x=>Y.filterMap (zax 10 x))++x.1.filterMap (zax 10 e))))]) [18,19,20,43,44,45,46,47,48,49,50,51,52,53,54,55,56,57,58,59] (fun x=>[(9,some (.tok ((Pat.cs ((pre.flatMap fun x=>Y.filterMap (zax 10 x))++x.1.filterMap (zax 10 e)))).length 6))]) (fun x=>x.1++x.2=Y) (fun x=>x.2.length) ([],Y) (by simp) ⟨⟨_,rfl,xap ?_⟩,⟨⟨_,rfl,LeA.glg ?_⟩,trivial⟩⟩ ⟨zab ?_,trivial⟩ (fun x=>rfl) (fun x hg2=>?_);iterate 3 focus ((simp;done))
   obtain⟨pre2,rest2⟩:=x;dsimp only at hg2 ⊢;refine evc [14] [17] ?_;refine sq ?_ ?_<;>intro h3 h3p h3s;try simp only[Q,Pat.cs_len] at h3p
   rcases rest2 with _|⟨y,rest2⟩
   ·exfalso;simp_all
   refine xaT sl26 .none rfl rfl rfl rfl (Pat.cs_at' hg2) rfl ?_;refine evs [14] [] ?_;refine ab 3018 tz28 ?_;refine so ty28 ?_;refine tv ?_;refine wc zp5 (hme e y (by rw[←hg1];simp) (by rw[←hg2];simp)) rfl rfl ?_;refine evs [14] [] ?_;refine ab 3019 tz28 ?_;refine so ty28 ?_;refine evs [14] [] ?_;refine sq ?_ ?_<;>intro h4 h4p h4s;refine si [0] [_] sl26 tz28 ?_;refine ap sl26 zz28 rfl rfl rfl (by intro x hx;simp at hx;subst hx;rfl) (by have h9:=hfl pre e rest hg1;have h8:=List.length_filterMap_le (zax 10 e) pre2;have h7:=congrArg List.length hg2;simp only[xaa,xab] at h7;simp only[Pat.cs_len,xaa,xab,xah];omega) ?_;refine asg ?_;refine tv ?_;refine ar ?_;refine Exists.intro ((pre2++[y],rest2)) ⟨(by have hz:=hg2;rw[←hz];simp),(by simp),sx ⟨⟨_,rfl,xap ?_⟩,⟨⟨_,rfl,LeA.glg ?_⟩,trivial⟩⟩ ⟨zab ?_,trivial⟩⟩;iterate 3 focus (first|(dsimp only;rw[zgp (zga (by assumption)),xat,xat];simp only[xaf,List.append_assoc];rfl)|(dsimp only;rw[zgp (zga (by assumption))];simp only[Pat.cs_len,xaa,xab,xah];omega)|(simp;done))
   refine ar ?_;refine Exists.intro ((pre2++[y],rest2)) ⟨(by have hz:=hg2;rw[←hz];simp),(by simp),sx ⟨⟨_,rfl,xap ?_⟩,⟨⟨_,rfl,LeA.glg ?_⟩,trivial⟩⟩ ⟨zab ?_,trivial⟩⟩;iterate 3 focus (first|(dsimp only;rw[zlB (ziN (by first|assumption|(simp_all;done)))];done)|(simp;done))
   try simp only[Q,Pat.cs_len] at h3p
   have hrest2:rest2=[]:=by
    rcases rest2 with _|⟨a,b⟩
    ·rfl
    ·exfalso;have hz:=congrArg List.length (hg2);simp only[xaa,xab,xac] at hz;omega
   subst hrest2;refine ar ?_;refine Exists.intro ((pre++[e],rest)) ⟨(by have hz:=hg1;rw[←hz];simp),(by simp),sx ⟨⟨_,rfl,xap ?_⟩,⟨⟨_,rfl,LeA.glg ?_⟩,trivial⟩⟩ ⟨zab ?_,trivial⟩⟩;iterate 3 focus (first|(dsimp only;rw[List.append_nil] at hg2;subst hg2;rw[List.flatMap_append];simp;done)|(simp;done))
   try simp only[Q,Pat.cs_len] at h2p
   have hrest:rest=[]:=by
    rcases rest with _|⟨a,b⟩
    ·rfl
    ·exfalso;have hz:=congrArg List.length (hg1);simp only[xaa,xab,xac] at hz;omega
   subst hrest;obtain rfl:pre=X:=(by simpa using hg1);refine evc [14] [] ?_;refine Walk.call (cr:=[]) zmM (hse) rfl .none rfl rfl (.cons (.refl _) (.cons (.refl _) (.cons (.gl _ _) .nil))) trivial rfl rfl rfl ?_;refine evs [14] [] ?_;refine asg ?_;refine evs [14] [] ?_;refine wc zmN (hre) rfl rfl ?_;refine evs [14] [] ?_;refine rn0 (r2 rfl rfl) (.tup (.cons (.eqd ?_) (.cons (.eqd ?_) .nil)));rotate_left 2;all_goals (first|exact(zql (z:=z) (b:=b)).1|exact congrArg D.bool (zql (z:=z) (b:=b)).2)
theorem zlg {w:List Data}{a k:Int}{p q:Pat}{z:List Pat} (h:meV w a k p q=some z):zbD w a k p q=true∧sepV w ⟨a,k⟩ (zdi (zaD p) (zaD q))=some z∧z.all (isP w ⟨a,k⟩)=true:=by
 cases h2:zbD w a k p q with
 |false=>rw[zuA h2] at h;cases h
 |true=>
  cases h3:sepV w ⟨a,k⟩ (zdi (zaD p) (zaD q)) with
  |none=>rw[zwu h2 h3] at h;cases h
  |some r=>
   rw[zwv h2 h3] at h;split at h
   ·cases h;exact⟨rfl,rfl,by assumption⟩
   ·cases h
theorem zuB {w:List Data}{t:Ty}{xs ys:List Pat}{v:Val}{m:Nat} (hx:∀x∈xs,zae w 10 t x=true) (hy:∀y∈ys,zae w 10 t y=true) (hv:zaH w m t v=true):(zdi xs ys).any (fun x=>hitP x v)=(xs.any (fun x=>hitP x v)&&ys.any (fun x=>hitP x v)):=by
 rw[Bool.eq_iff_iff,xad,List.any_eq_true,List.any_eq_true,List.any_eq_true];constructor
 ·rintro ⟨z,hz,hh⟩
  obtain⟨x,h1,y,h2,h3⟩:=zky.1 hz;have:=zjr 10 m (hx x h1) (hy y h2) hv 10 (Nat.le_refl _);rw[h3] at this;dsimp only at this;rw[this,xad] at hh;exact⟨⟨x,h1,hh.1⟩,⟨y,h2,hh.2⟩⟩
 ·rintro ⟨⟨x,h1,h2⟩,⟨y,h3,h4⟩⟩
  have:=zjr 10 m (hx x h1) (hy y h3) hv 10 (Nat.le_refl _);cases hm:zax 10 x y with
  |none=>rw[hm] at this;dsimp only at this;rw[h2,h4] at this;cases this
  |some z=>
   rw[hm] at this;dsimp only at this;exact⟨z,zky.2 ⟨x,h1,y,h3,hm⟩,by rw[this,h2,h4];rfl⟩
theorem zwX {w:List Data} (hs:WSmall w){a k:Int}{p q:Pat}{z:List Pat}{v:Val}{m:Nat} (h:meV w a k p q=some z) (hv:zaH w m ⟨a,k⟩ v=true):z.countP (fun x=>hitP x v)=one ((zav 10 p v).2&&(zav 10 q v).2):=by
 obtain⟨h2,h3,h5⟩:=zlg h;obtain⟨hsp,hin,t1,t2,s1,s2,e1,e2,_⟩:=zcj hs h2;rw[zlj hsp hin hv _ [] [] (by simp) (zjs t1 t2) h3,zuB t1 t2 hv,ze3 s2 hv e2,ze3 s1 hv e1];simp only[List.countP_nil,List.any_nil,Nat.zero_add];rfl
theorem zkv {w:List Data} (hs:WSmall w){a k:Int}{p q:Pat}{z:List Pat} (h:meV w a k p q=some z):∀x∈z,zae w 11 ⟨a,k⟩ x=true∧isP w ⟨a,k⟩ x=true∧∃m v,zaH w m ⟨a,k⟩ v=true∧hitP x v=true:=by
 obtain⟨h2,h3,h5⟩:=zlg h;obtain⟨hsp,hin,t1,t2,s1,s2,e1,e2,_⟩:=zcj hs h2;intro x hx;obtain⟨p1,_,p2⟩:=zou (S:=fun _=>True) (fun _ _ _ _ _ _=>trivial) _ [] [] (by simp) (fun b hb=>⟨zjs t1 t2 b hb,trivial⟩) (by simp) h3 x hx;obtain⟨m,v,h6,h7⟩:=zh0 hsp 11 hin p1 (by unfold zbj at p2;simpa using p2);exact⟨p1,List.all_eq_true.1 h5 x hx,m,v,h6,h7⟩
theorem zvC {w:List Data} (hs:WSmall w){a k:Int}{p q:Pat}{z:List Pat}{v:Val} (h:meV w a k p q=some z) (hv:isV w ⟨a,k⟩ v=true):z.countP (fun x=>(zaW w a k x v).2)=one ((zaW w a k p v).2&&(zaW w a k q v).2):=by
 obtain⟨h2,_⟩:=zlg h;obtain⟨hsp,hin,t1,t2,s1,s2,e1,e2,tv,i1,i2⟩:=zcj hs h2;rw[zoR tv hv (fun x hx=>⟨(zkv hs h x hx).1,(zkv hs h x hx).2.1⟩),zwX hs h (zmb hv),zfI tv i1 hv,zfI tv i2 hv]
theorem zyb {w:List Data} (hs:WSmall w){a k:Int}{p q:Pat}{z:List Pat} (h:meV w a k p q=some z):z.length≤640000∧(∀x∈z,x.ok)∧Spa w∧InS (w.length*4) ⟨a,k⟩:=by
 obtain⟨h2,h3,_⟩:=zlg h;obtain⟨hsp,hin,_⟩:=zcj hs h2;have h4:=zml _ _ _ h3;have h5:=zph (zdm p) (zdm q);simp only[xah] at h4;exact⟨by omega,fun x hx=>(zeK hsp 11 hin (zkv hs h x hx).1).1,hsp,hin⟩
theorem zjp {b:Str} (hb:b.length≤1000000000000):FnD Tryz.prog 6 [.d (zcF b)] [] (.d (.bool true)) []:=by
 have hdr:=zef hb;have hs:WSmall (za9 (b.take 2000) 0):=(zgN (b.take 2000) 0).small;have hn:=zjR (b.take 2000) 0;have hp:=zuH (b.take 2000);have hq:=zuI (b.take 2000);have hf:=fun {w:List Data}{t:Ty}=>zrj (b.take 2000) (w:=w) (t:=t);have hfew:∀ {q},zbD (za9 (b.take 2000) 0) (typT (b.take 2000) 0).data (typT (b.take 2000) 0).index (prA (b.take 2000)) q=true→FewQ (za9 (b.take 2000) 0) ⟨(typT (b.take 2000) 0).data,(typT (b.take 2000) 0).index⟩ (zaD (prA (b.take 2000))):=fun h=>zsu hs hn h hf;clear hf;generalize za9 (b.take 2000) 0=w at *;generalize (typT (b.take 2000) 0).data=a at *;generalize (typT (b.take 2000) 0).index=k at *;generalize prA (b.take 2000)=p at *;generalize prB (b.take 2000)=q at *;have hi:=zfg hs (a:=a) (k:=k) hp.2 hq.2 hfew;have hsp:=zfs hs (a:=a) (k:=k) hp.2 hq.2 (by omega) (by omega) hfew;have hi2:=zjk hs (a:=a) (k:=k) hp.2 hq.2;cases hm:minV w a k p q with
 |none=>
  rw[hm] at hi hsp;generalize meV w a k p q=m2 at hi2;refine bd Tryz.f6 126 [55,72] [] fun w0 F0 own kept hk=>?_;refine sq ?_ ?_<;>intro h1 h1p h1s;try simp only[Q] at h1p
  refine rn0 (r1 rfl) (.eqd ?_);rotate_left;try simp only[Q] at h1p
  refine wc zmD (hdr) rfl rfl ?_;refine evs [55,72] [] ?_;refine ab 3004 tz25 ?_;refine ab 3005 tz28 ?_;refine ab 3006 tz28 ?_;refine evs [55,72] [] ?_;refine so ty25 ?_;refine so ty28 ?_;refine so ty28 ?_;refine tv ?_;refine wc zmF (hi) rfl rfl ?_;refine evs [55,72] [] ?_;refine wc zmH (hsp) rfl rfl ?_;refine evs [55,72] [] ?_;refine wc zs2 (hi2) rfl rfl ?_;refine evs [55,72] [] ?_;refine xa8 un4 .none rfl rfl rfl ?_;refine evs [55,72] [] ?_;refine sq ?_ ?_<;>intro h2 h2p h2s;try simp only[Q] at h2p
  refine sqT ?_;refine sqT ?_;refine sqT ?_;refine xaP un4 .none rfl rfl rfl ?_;refine evs [55,72] [] ?_;refine sq ?_ ?_<;>intro h4 h4p h4s;try simp only[Q] at h4p
  refine Walk.call (cr:=[]) zdx (zaN (l:=[]) (by simp) (by simp)) rfl (.some rfl rfl h4) rfl rfl (LeL.refl _) trivial rfl rfl rfl ?_;refine evs [55,72] [(73,true)] ?_ ⟨⟨_,rfl,h4⟩,trivial⟩;refine rn0 (r1 rfl) (.eqd ?_);rotate_left;try simp only[Q] at h4p
  refine rn0 (r1 rfl) (.eqd ?_);rotate_left;try simp only[Q] at h2p
  refine Walk.call (cr:=[]) zdx (zaN (l:=[]) (by simp) (by simp)) rfl (.some rfl rfl h2) rfl rfl (LeL.refl _) trivial rfl rfl rfl ?_;refine evs [55,72] [(56,false)] ?_ ⟨⟨_,rfl,h2⟩,trivial⟩;refine sq ?_ ?_<;>intro h5 h5p h5s;try simp only[Q] at h5p
  refine sqT ?_;refine sqT ?_;refine xaP un4 .none rfl rfl rfl ?_;refine evs [55,72] [] ?_;refine sq ?_ ?_<;>intro h7 h7p h7s;try simp only[Q] at h7p
  refine Walk.call (cr:=[]) zdx (zaN (l:=[]) (by simp) (by simp)) rfl (.some rfl rfl h7) rfl rfl (LeL.refl _) trivial rfl rfl rfl ?_;refine evs [55,72] [(73,true)] ?_ ⟨⟨_,rfl,h7⟩,trivial⟩;refine rn0 (r1 rfl) (.eqd ?_);rotate_left;try simp only[Q] at h7p
  refine rn0 (r1 rfl) (.eqd ?_);rotate_left;try simp only[Q] at h5p
  refine sq ?_ ?_<;>intro h8 h8p h8s;try simp only[Q] at h8p
  refine sqT ?_;refine xaP un4 .none rfl rfl rfl ?_;refine evs [55,72] [] ?_;refine sq ?_ ?_<;>intro h10 h10p h10s;try simp only[Q] at h10p
  refine Walk.call (cr:=[]) zdx (zaN (l:=[]) (by simp) (by simp)) rfl (.some rfl rfl h10) rfl rfl (LeL.refl _) trivial rfl rfl rfl ?_;refine evs [55,72] [(73,true)] ?_ ⟨⟨_,rfl,h10⟩,trivial⟩;refine rn0 (r1 rfl) (.eqd ?_);rotate_left;try simp only[Q] at h10p
  refine rn0 (r1 rfl) (.eqd ?_);rotate_left;try simp only[Q] at h8p
  refine sq ?_ ?_<;>intro h11 h11p h11s;try simp only[Q] at h11p
  refine xaP un4 .none rfl rfl rfl ?_;refine evs [55,72] [] ?_;refine sq ?_ ?_<;>intro h12 h12p h12s;try simp only[Q] at h12p
  refine Walk.call (cr:=[]) zdx (zaN (l:=[]) (by simp) (by simp)) rfl (.some rfl rfl h12) rfl rfl (LeL.refl _) trivial rfl rfl rfl ?_;refine evs [55,72] [(73,true)] ?_ ⟨⟨_,rfl,h12⟩,trivial⟩;refine rn0 (r1 rfl) (.eqd ?_);rotate_left;try simp only[Q] at h12p
  refine rn0 (r1 rfl) (.eqd ?_);rotate_left;try simp only[Q] at h11p
  focus (exfalso;contradiction)
  all_goals (first|rfl|contradiction)
 |some z=>
  obtain⟨hz1,hz2,hsa,hin⟩:=zsF hs hm (hfew (zgb hm).1);rw[hm] at hi hsp;cases hm2:meV w a k p q with
  |none=>
   rw[hm2] at hi2;refine bd Tryz.f6 126 [55,72] [] fun w0 F0 own kept hk=>?_;refine sq ?_ ?_<;>intro h1 h1p h1s;try simp only[Q] at h1p
   refine rn0 (r1 rfl) (.eqd ?_);rotate_left;try simp only[Q] at h1p
   refine wc zmD (hdr) rfl rfl ?_;refine evs [55,72] [] ?_;refine ab 3004 tz25 ?_;refine ab 3005 tz28 ?_;refine ab 3006 tz28 ?_;refine evs [55,72] [] ?_;refine so ty25 ?_;refine so ty28 ?_;refine so ty28 ?_;refine tv ?_;refine wc zmF (hi) rfl rfl ?_;refine evs [55,72] [] ?_;refine wc zmH (hsp) rfl rfl ?_;refine evs [55,72] [] ?_;refine wc zs2 (hi2) rfl rfl ?_;refine evs [55,72] [] ?_;refine xa8 un4 .none rfl rfl rfl ?_;refine evs [55,72] [] ?_;refine sq ?_ ?_<;>intro h2 h2p h2s;try simp only[Q] at h2p
   refine sqT ?_;refine sqT ?_;refine sqT ?_;refine xaP un4 .none rfl rfl rfl ?_;refine evs [55,72] [] ?_;refine sq ?_ ?_<;>intro h4 h4p h4s;try simp only[Q] at h4p
   refine Walk.call (cr:=[]) zdx (zaN (l:=z) (by omega) hz2) rfl (.some rfl rfl h4) rfl rfl (LeL.refl _) trivial rfl rfl rfl ?_;refine evs [55,72] [(73,true)] ?_ ⟨⟨_,rfl,h4⟩,trivial⟩;refine rn0 (r1 rfl) (.eqd ?_);rotate_left;try simp only[Q] at h4p
   refine rn0 (r1 rfl) (.eqd ?_);rotate_left;try simp only[Q] at h2p
   refine Walk.call (cr:=[]) zdx (zaN (l:=z) (by omega) hz2) rfl (.some rfl rfl h2) rfl rfl (LeL.refl _) trivial rfl rfl rfl ?_;refine evs [55,72] [(56,false)] ?_ ⟨⟨_,rfl,h2⟩,trivial⟩;refine sq ?_ ?_<;>intro h5 h5p h5s;try simp only[Q] at h5p
   refine sqT ?_;refine sqT ?_;refine xaP un4 .none rfl rfl rfl ?_;refine evs [55,72] [] ?_;refine sq ?_ ?_<;>intro h7 h7p h7s;try simp only[Q] at h7p
   refine Walk.call (cr:=[]) zdx (zaN (l:=z) (by omega) hz2) rfl (.some rfl rfl h7) rfl rfl (LeL.refl _) trivial rfl rfl rfl ?_;refine evs [55,72] [(73,true)] ?_ ⟨⟨_,rfl,h7⟩,trivial⟩;refine rn0 (r1 rfl) (.eqd ?_);rotate_left;try simp only[Q] at h7p
   refine rn0 (r1 rfl) (.eqd ?_);rotate_left;try simp only[Q] at h5p
   refine sq ?_ ?_<;>intro h8 h8p h8s;try simp only[Q] at h8p
   refine sqT ?_;refine xaP un4 .none rfl rfl rfl ?_;refine evs [55,72] [] ?_;refine sq ?_ ?_<;>intro h10 h10p h10s;try simp only[Q] at h10p
   refine Walk.call (cr:=[]) zdx (zaN (l:=z) (by omega) hz2) rfl (.some rfl rfl h10) rfl rfl (LeL.refl _) trivial rfl rfl rfl ?_;refine evs [55,72] [(73,true)] ?_ ⟨⟨_,rfl,h10⟩,trivial⟩;refine rn0 (r1 rfl) (.eqd ?_);rotate_left;try simp only[Q] at h10p
   refine rn0 (r1 rfl) (.eqd ?_);rotate_left;try simp only[Q] at h8p
   refine sq ?_ ?_<;>intro h11 h11p h11s;try simp only[Q] at h11p
   refine xaP un4 .none rfl rfl rfl ?_;refine evs [55,72] [] ?_;refine sq ?_ ?_<;>intro h12 h12p h12s;try simp only[Q] at h12p
   refine Walk.call (cr:=[]) zdx (zaN (l:=z) (by omega) hz2) rfl (.some rfl rfl h12) rfl rfl (LeL.refl _) trivial rfl rfl rfl ?_;refine evs [55,72] [(73,true)] ?_ ⟨⟨_,rfl,h12⟩,trivial⟩;refine rn0 (r1 rfl) (.eqd ?_);rotate_left;try simp only[Q] at h12p
   refine rn0 (r1 rfl) (.eqd ?_);rotate_left;try simp only[Q] at h11p
   focus (exfalso;contradiction)
   all_goals (first|rfl|contradiction)
  |some y=>
   obtain⟨hy1,hy2,_,_⟩:=zyb hs hm2;rw[hm2] at hi2;have hvu:=zgC hs (a:=a) (k:=k) (m:=2);have hvl:=zsY w ⟨a,k⟩ 2;have hvok:=zvf hs ⟨a,k⟩ 2;have hlaw:∀v∈(vut w ⟨a,k⟩ 2).1,z.countP (fun x=>(zaW w a k x v).2)+y.countP (fun x=>(zaW w a k x v).2)=one (zaW w a k p v).2:=fun v hv=>by
    have hiv:=(zsX hsa hin (by omega) hv).1;rw[zpj hs hm hiv,zvC hs hm2 hiv];cases (zaW w a k p v).2<;>cases (zaW w a k q v).2<;>rfl
   generalize (vut w ⟨a,k⟩ 2).1=vs at *;have hcz:∀v,z.countP (fun x=>(zaW w a k x v).2)≤z.length:=fun v=>List.countP_le_length;have hcy:∀v,y.countP (fun x=>(zaW w a k x v).2)≤y.length:=fun v=>List.countP_le_length;refine bd Tryz.f6 126 [55,124] [] fun w0 F0 own kept hk=>?_;refine sq ?_ ?_<;>intro h1 h1p h1s;try simp only[Q,Int.natCast_inj,Val.cs_len,Pat.cs_len] at h1p
   refine rn0 (r1 rfl) (.eqd ?_);rotate_left;try simp only[Q,Int.natCast_inj,Val.cs_len,Pat.cs_len] at h1p
   refine wc zmD (hdr) rfl rfl ?_;refine evs [55,124] [] ?_;refine ab 3004 tz25 ?_;refine ab 3005 tz28 ?_;refine ab 3006 tz28 ?_;refine evs [55,124] [] ?_;refine so ty25 ?_;refine so ty28 ?_;refine so ty28 ?_;refine tv ?_;refine wc zmF (hi) rfl rfl ?_;refine evs [55,124] [] ?_;refine wc zmH (hsp) rfl rfl ?_;refine evs [55,124] [] ?_;refine wc zs2 (hi2) rfl rfl ?_;refine evs [55,124] [] ?_;refine xa8 un4 .none rfl rfl rfl ?_;refine evs [55,124] [] ?_;refine sq ?_ ?_<;>intro h2 h2p h2s;try simp only[Q,Int.natCast_inj,Val.cs_len,Pat.cs_len] at h2p
   refine sqT ?_;refine sqT ?_;refine sqT ?_;focus (exfalso;contradiction)
   try simp only[Q,Int.natCast_inj,Val.cs_len,Pat.cs_len] at h2p
   refine Walk.call (cr:=[]) zdx (zaN (l:=z) (by omega) hz2) rfl (.some rfl rfl h2) rfl rfl (LeL.refl _) trivial rfl rfl rfl ?_;refine evs [55,124] [(56,false)] ?_ ⟨⟨_,rfl,h2⟩,trivial⟩;refine sq ?_ ?_<;>intro h4 h4p h4s;try simp only[Q,Int.natCast_inj,Val.cs_len,Pat.cs_len] at h4p
   refine sqT ?_;refine sqT ?_;focus (exfalso;contradiction)
   try simp only[Q,Int.natCast_inj,Val.cs_len,Pat.cs_len] at h4p
   refine sq ?_ ?_<;>intro h6 h6p h6s;try simp only[Q,Int.natCast_inj,Val.cs_len,Pat.cs_len] at h6p
   refine sqT ?_;focus (exfalso;contradiction)
   try simp only[Q,Int.natCast_inj,Val.cs_len,Pat.cs_len] at h6p
   refine sq ?_ ?_<;>intro h8 h8p h8s;try simp only[Q,Int.natCast_inj,Val.cs_len,Pat.cs_len] at h8p
   focus (exfalso;contradiction)
   try simp only[Q,Int.natCast_inj,Val.cs_len,Pat.cs_len] at h8p
   refine wc zwb (hvu) rfl rfl ?_;refine evs [55,124] [] ?_;refine xaj (ι:=List (Val)×List (Val)) hk (fun x=>[(15,.d (.i (x.1.length:Int)))]) [2,16,17,18,84,85,86,87,88,89,90,91,92,93,94,95,96,97,98,99,100,101,102,103,104,105,106,107,108,109,110,111,112,113,114,115,116,117,118,119,120,121,122,123,124,125] (fun x=>[]) (fun x=>x.1++x.2=vs) (fun x=>x.2.length) ([],vs) (by simp) ⟨⟨_,rfl,xap ?_⟩,trivial⟩ trivial (fun x=>rfl) (fun x hg1=>?_);focus (rfl)
   obtain⟨pre,rest⟩:=x;dsimp only at hg1 ⊢;refine evc [55,124] [] ?_;refine sq ?_ ?_<;>intro h9 h9p h9s;try simp only[Q,Int.natCast_inj,Val.cs_len,Pat.cs_len] at h9p
   rcases rest with _|⟨v,rest⟩
   ·exfalso;simp_all
   refine xaT sl37 .none rfl rfl rfl rfl (Val.cs_at hg1) rfl ?_;refine evd [55,124] [] ?_;refine wc zp0 (zcJ hs hp.2 (hvok v (by rw[←hg1];simp))) rfl rfl ?_;refine evd [55,124] [] ?_;refine dr ?_;refine xaT sl37 .none rfl rfl rfl rfl (Val.cs_at hg1) rfl ?_;refine evd [55,124] [] ?_;refine wc zs1 (zeR hs (l:=z) (by omega) hz2 (hvok v (by rw[←hg1];simp))) rfl rfl ?_;refine evd [55,124] [] ?_;refine xaT sl37 .none rfl rfl rfl rfl (Val.cs_at hg1) rfl ?_;refine evd [55,124] [] ?_;refine wc zs1 (zeR hs (l:=y) (by omega) hy2 (hvok v (by rw[←hg1];simp))) rfl rfl ?_;refine evd [55,124] [] ?_;refine ar ?_ (by(have hc1:=hcz v;have hc2:=hcy v;constructor<;>omega));refine dr ?_;refine sq ?_ ?_<;>intro h10 h10p h10s;try simp only[Q,Int.natCast_inj,Val.cs_len,Pat.cs_len] at h10p
   refine sqT ?_;focus (exfalso;have hlw:=hlaw v (by rw[←hg1];simp);generalize List.countP (fun x=>(zaW w a k x v).2) z=nn at *;generalize List.countP (fun x=>(zaW w a k x v).2) y=mm at *;cases hx:(zaW w a k p v).2<;>rw[hx] at hlw<;>simp[one] at hlw<;>omega)
   try simp only[Q,Int.natCast_inj,Val.cs_len,Pat.cs_len] at h10p
   refine xa8 un4 (.some rfl rfl h10) rfl rfl rfl ?_;refine evs [55,124] [(120,false)] ?_ ⟨⟨_,rfl,h10⟩,trivial⟩;refine sq ?_ ?_<;>intro h12 h12p h12s;try simp only[Q,Int.natCast_inj,Val.cs_len,Pat.cs_len] at h12p
   focus (exfalso;have hlw:=hlaw v (by rw[←hg1];simp);generalize List.countP (fun x=>(zaW w a k x v).2) z=nn at *;generalize List.countP (fun x=>(zaW w a k x v).2) y=mm at *;cases hx:(zaW w a k p v).2<;>rw[hx] at hlw<;>simp[one] at hlw<;>first|(simp_all;done)|(simp_all;omega))
   try simp only[Q,Int.natCast_inj,Val.cs_len,Pat.cs_len] at h12p
   refine ar ?_ (by(have hc1:=hcz v;have hc2:=hcy v;constructor<;>omega));refine Exists.intro ((pre++[v],rest)) ⟨(by have hz:=hg1;rw[←hz];simp),(by simp),sx ⟨⟨_,rfl,xap ?_⟩,trivial⟩ trivial⟩;focus ((simp;done))
   try simp only[Q,Int.natCast_inj,Val.cs_len,Pat.cs_len] at h9p
   have hrest:rest=[]:=by
    rcases rest with _|⟨a,b⟩
    ·rfl
    ·exfalso;have hz:=congrArg List.length (hg1);simp only[xaa,xab,xac] at hz;omega
   subst hrest;refine rn0 (r1 rfl) (.eqd ?_);rotate_left;all_goals (rfl)
end Go.Proofs.YtpgdedpljcedpaaGreat
