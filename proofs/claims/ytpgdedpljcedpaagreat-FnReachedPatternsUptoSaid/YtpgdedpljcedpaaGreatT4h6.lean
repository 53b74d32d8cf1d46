/-
  THE LAW FnReachedPatterns: whatever the arguments of bulk at most 1048576 are, the call returns true, and the arguments read as before.
  Conditions: the bulk alone.
-/
import Derived.Test.YtpgdedpljcedpaaGreatT4h5
namespace Go.Proofs.YtpgdedpljcedpaaGreat
open Go
set_option linter.unusedSimpArgs false
set_option linter.unusedVariables false
set_option maxRecDepth 100000
set_option maxHeartbeats 2000000
theorem zqn {w:List Data}{t:Ty}{p:Pat}{v:Val}{m:Nat} (h:zaq w 10 t p=true) (hv:zaJ w m t v=true) (e:zbp p=zau (zav p)):(zbp p).any (fun x=>hitP x v)=(zaw 10 p v).2:=by
 rw[e,Bool.eq_iff_iff,zed 10 m h hv,List.any_eq_true]
theorem zny {w:List Data}{a k:Int}{p:Pat}{v:Val} (h1:za7 w ⟨a,k⟩=true) (h2:isP w ⟨a,k⟩ p=true) (hv:isV w ⟨a,k⟩ v=true):(zbt w a k p v).2=(zaw 10 p v).2:=by
 have hp:zda w a k p=true:=by unfold zda;rw[h1,h2];rfl
 unfold zbt;rw[if_pos ⟨hp,hv⟩,zlS]
theorem zrB {w:List Data}{t:Ty}{v:Val} (hv:isV w t v=true):zaJ w 10 t v=true:=by unfold isV at hv;rw[xad] at hv;exact hv.1
theorem zuU {w:List Data}{a k:Int}{z:List Pat}{v:Val} (h1:za7 w ⟨a,k⟩=true) (hv:isV w ⟨a,k⟩ v=true) (hz:∀x∈z,zaf w 11 ⟨a,k⟩ x=true/\isP w ⟨a,k⟩ x=true):z.countP (fun x=>(zbt w a k x v).2)=z.countP (fun x=>hitP x v):=by
 refine List.countP_congr (fun x hx=>?_);rw[zny h1 (hz x hx).2 hv,ztW (hz x hx).2 (hz x hx).1 (zrB hv)]
theorem zxG {w:List Data}{a k:Int}{l:List Cl} (h:za4 w ⟨a,k⟩ l=true):∀c∈l,clOk w ⟨a,k⟩ c=true:=by
 unfold za4 at h;simp only[xad,Bool.not_eq_true',List.any_eq_false] at h;intro c hc;simpa using h.2.2 c hc
def zez (w:List Data) (a k:Int) (v:Val) (c:Cl):Bool:=(zbt w a k c.pat v).2&&decide (c.g.op=0)
theorem zsy {w:List Data}{a k:Int}{p:Pat}{v:Val} (h1:za7 w ⟨a,k⟩=true) (h2:isP w ⟨a,k⟩ p=true) (hv:isV w ⟨a,k⟩ v=true):(zbt w a k p v).2=(zaw 10 p v).2:=by
 have hp:zda w a k p=true:=by unfold zda;rw[h1,h2];rfl
 unfold zbt;rw[if_pos ⟨hp,hv⟩,zlS]
theorem zpq {w:List Data}{a k:Int}{v:Val} (hv:isV w ⟨a,k⟩ v=true):∀ {l:List Cl},za7 w ⟨a,k⟩=true->(∀c∈l,clOk w ⟨a,k⟩ c=true)->l.any (zez w a k v)=zfm l v
 | [],_,_=>rfl
 |c::r,h1,h2=>by
  have hc:=h2 c (by simp);unfold clOk at hc;rw[xad] at hc;rw[List.any_cons,zpq hv h1 (fun x hx=>h2 x (by simp[hx]))];unfold zfm;rw[List.any_cons];unfold zez;rw[zsy h1 hc.1 hv,Bool.and_comm]
section
variable {w:List Data} (hs:WSmall w){a k:Int}{l:List Cl}{i:Int}{ps:List Pat} (hl:ClsOk l)
theorem zkU (h:zcv w a k l i=some ps):za4 w ⟨a,k⟩ l=true/\0<=i/\i<(l.length:Int)/\∃mine away,sepV w ⟨a,k⟩ (zbp (nth l i.toNat).pat)=some mine/\za5 (l.take i.toNat) []=some away/\zaz w ⟨a,k⟩ mine away=some ps/\ps.all (isP w ⟨a,k⟩)=true/\zbm (nth l i.toNat).pat=true:=by
 unfold zcv at h;split at h
 ·rename_i hv;refine⟨hv.1,hv.2.1,hv.2.2, ?_⟩;cases hp:zbm (nth l i.toNat).pat with
  |false=>rw[zmu hp] at h;cases h
  |true=>
   cases hz:sepV w ⟨a,k⟩ (zbp (nth l i.toNat).pat) with
   |none=>rw[zjE hp hz] at h;cases h
   |some mine=>
    rw[zjF hp hz] at h;unfold zhe at h;cases hq:za5 (l.take i.toNat) [] with
    |none=>rw[hq] at h;cases h
    |some away=>
     rw[hq] at h;dsimp only at h;cases hw:zaz w ⟨a,k⟩ mine away with
     |none=>rw[hw] at h;cases h
     |some r=>
      rw[hw] at h;dsimp only at h;split at h
      ·rename_i hall;cases h
       exact⟨mine,away,rfl,rfl,hw,hall,rfl⟩
      ·cases h
 ·cases h
include hs hl
theorem zlZ (h:zcv w a k l i=some ps):Spa w/\InS (w.length*4) ⟨a,k⟩/\za7 w ⟨a,k⟩=true/\isP w ⟨a,k⟩ (nth l i.toNat).pat=true/\(∀c∈l,isP w ⟨a,k⟩ c.pat=true)/\(∀x∈ps,zaf w 11 ⟨a,k⟩ x=true/\isP w ⟨a,k⟩ x=true/\∃m v,zaJ w m ⟨a,k⟩ v=true/\hitP x v=true)/\
  ∀ {m:Nat}{v:Val},zaJ w m ⟨a,k⟩ v=true->ps.countP (fun x=>hitP x v)=one ((zaw 10 (nth l i.toNat).pat v).2&& !zfm (l.take i.toNat) v):=by
 obtain⟨hv,h0,h1,mine,away,hz,hq,hw,hall,hp⟩:=zkU h;obtain⟨hsp,hin,hsh,h8,hip,tv⟩:=zgw hs hl hv;have hn:i.toNat<l.length:=by omega
 have hsh1:=(hsh _ (zac hn)).1;have t1:=ze1 hsh1;obtain⟨_,p2⟩:=zeZ (l.take i.toNat) [] away (fun c hc=>(hsh c (List.mem_of_mem_take hc)).1) (by simp) hq;have hrp:=zio _ [] [] (by simp) t1 (by simp) hz;refine⟨hsp,hin,tv,hip _ (zac hn),hip,fun x hx=>?_,fun {m v} hf=>?_⟩
 ·obtain⟨q1,_,q2⟩:=zl2 (S:=fun _=>True) (fun _ _ _ _ _ _=>trivial) (fun b hb=>⟨p2 b hb,trivial⟩) (fun a ha=>⟨hrp a ha,trivial⟩) hw x hx;obtain⟨m,v,h6,h7⟩:=zj9 hsp 11 hin q1 (by unfold zbl at q2;simpa using q2);exact⟨q1,List.all_eq_true.1 hall x hx,m,v,h6,h7⟩
 ·have e1:zbp (nth l i.toNat).pat=zau (zav (nth l i.toNat).pat):=by unfold zbp;rw[if_pos (by unfold zbm at hp;exact of_decide_eq_true hp)]
  rw[zl1 hsp hin hf p2 hrp hw,zoX hsp hin hf _ [] [] (by simp) t1 hz,zqn hsh1 hf e1,zkn hf (l.take i.toNat) [] away (fun c hc=>(hsh c (List.mem_of_mem_take hc)).1) hq];simp only[List.countP_nil,List.any_nil,Nat.zero_add,Bool.false_or,one];cases (zaw 10 (nth l i.toNat).pat v).2<;>cases zfm (l.take i.toNat) v<;>rfl
theorem zvp (h:zcv w a k l i=some ps){v:Val} (hv:isV w ⟨a,k⟩ v=true):ps.countP (fun x=>(zbt w a k x v).2)=one ((zbt w a k (nth l i.toNat).pat v).2&& !(l.take i.toNat).any (zez w a k v)):=by
 obtain⟨hsp,hin,tv,hip,hips,hal,hc⟩:=zlZ hs hl h;have hcm:=zxG (zkU h).1;rw[zuU tv hv (fun x hx=>⟨(hal x hx).1,(hal x hx).2.1⟩),hc (zrB hv),zny tv hip hv,zpq hv tv (fun c hc=>hcm c (List.mem_of_mem_take hc))]
theorem zwA (hfew:za4 w ⟨a,k⟩ l=true->FewC w ⟨a,k⟩ l) (h:zcv w a k l i=some ps):ps.length<=400/\(∀x∈ps,x.ok)/\Spa w/\InS (w.length*4) ⟨a,k⟩/\0<=i/\i<(l.length:Int):=by
 obtain⟨hsp,hin,tv,hip,hips,hal,hc⟩:=zlZ hs hl h;obtain⟨hv,h0,h1,mine,away,hz,hq,hw,hall,hp⟩:=zkU h;have hn:i.toNat<l.length:=by omega
 exact⟨ztv _ _ _ (Nat.le_trans (List.length_filter_le _ _) (hfew hv _ (zac hn) (hips _ (zac hn)) mine hz)) hw,fun x hx=>(zhy hsp 11 hin (hal x hx).1).1,hsp,hin,h0,h1⟩
end
end Go.Proofs.YtpgdedpljcedpaaGreat
namespace Go.Proofs.YtpgdedpljcedpaaGreat
open Go
set_option linter.unusedSimpArgs false
set_option linter.unusedVariables false
set_option maxRecDepth 1000000
end Go.Proofs.YtpgdedpljcedpaaGreat
namespace Go.Proofs.YtpgdedpljcedpaaGreat
open Go
set_option linter.unusedSimpArgs false
set_option linter.unusedVariables false
set_option maxRecDepth 100000
def uv (x:Int):Int:=if x=3 then 1 else if x=0\/x=1 then 0 else -1
def fN (y:Nat):Nat:=(y ^^^ (y / 64)) % 24
def uN (y:Nat):Int:=uv (fN y:Int)
def wS (D:Nat):Nat->Nat->Int
 |0,_=>0
 |n+1,y=>uN y+wS D n (y+D)
theorem zou (D:Nat):∀m n y,wS D (m+n) y=wS D m y+wS D n (y+m*D)
 |0,n,y=>by simp[wS]
 |m+1,n,y=>by
  rw[show m+1+n=(m+n)+1 by omega];simp only[wS];rw[zou D m n (y+D),show y+D+m*D=y+(m+1)*D by rw[Nat.add_mul];omega];omega
def g8 (r:Nat):Nat:=(r % 8) ^^^ (r / 64 % 8)
theorem zzh (y:Nat):fN y % 8=g8 (y % 512):=by
 unfold fN g8;rw[Nat.mod_mod_of_dvd _ (by decide),show(8:Nat)=2 ^ 3 from rfl,Nat.xor_mod_two_pow];congr 1
 ·omega
 ·omega
def um (r:Nat):Int:=if r=3 then 1 else if r=0\/r=1 then 0 else -1
theorem zqO (y:Nat):uN y<=um (g8 (y % 512)):=by
 rw[<-zzh];have h:fN y<24:=Nat.mod_lt _ (by omega);unfold uN;generalize fN y=x at *;have key:∀x:Nat,x<24->uv (x:Int)<=um (x % 8):=by decide
 exact key x h
def zzW:Bool:=(List.range 512).all fun r=>[128,384].all fun E=>decide (um (g8 r)+um (g8 ((r+E) % 512))+um (g8 ((r+2*E) % 512))+um (g8 ((r+3*E) % 512))<= -1)
theorem zwy:zzW=true:=by kernel_rfl
theorem quad {E:Nat} (hE:E % 512=128\/E % 512=384) (y:Nat):uN y+uN (y+E)+uN (y+2*E)+uN (y+3*E)<= -1:=by
 have h:=List.all_eq_true.1 zwy (y % 512) (List.mem_range.2 (Nat.mod_lt _ (by omega)));have h2:=List.all_eq_true.1 h (E % 512) (by rcases hE with e|e<;>rw[e]<;>simp);have h3:=of_decide_eq_true h2;have a0:=zqO y;have a1:=zqO (y+E);have a2:=zqO (y+2*E);have a3:=zqO (y+3*E);rw[show(y+E) % 512=(y % 512+E % 512) % 512 by omega] at a1;rw[show(y+2*E) % 512=(y % 512+2*(E % 512)) % 512 by omega] at a2;rw[show(y+3*E) % 512=(y % 512+3*(E % 512)) % 512 by omega] at a3;omega
theorem zxp {D E:Nat} (hE:E % 512=128\/E % 512=384):∀n y,wS D n y+wS D n (y+E)+wS D n (y+2*E)+wS D n (y+3*E)<= -n
 |0,y=>by simp[wS]
 |n+1,y=>by
  have h1:=quad hE y;have h2:=zxp (D:=D) hE n (y+D);simp only[wS];rw[show y+E+D=y+D+E by omega,show y+2*E+D=y+D+2*E by omega,show y+3*E+D=y+D+3*E by omega];omega
theorem four {D h:Nat} (hE:h*D % 512=128\/h*D % 512=384) (y:Nat):wS D (h+(h+(h+h))) y<= -h:=by
 have:=zxp (D:=D) hE h y;rw[zou,zou,zou,show y+h*D+h*D=y+2*(h*D) by omega,show y+2*(h*D)+h*D=y+3*(h*D) by omega];omega
end Go.Proofs.YtpgdedpljcedpaaGreat
namespace Go.Proofs.YtpgdedpljcedpaaGreat
open Go
set_option linter.unusedSimpArgs false
set_option linter.unusedVariables false
set_option maxRecDepth 100000
set_option maxHeartbeats 2000000
def mutV (b:Str):Nat->Nat->Val->Option (Val×Nat)
 |0,_,_=>none
 |n+1,p,v=>
  if zan b p 24=0 then some (.mk (numV b (p+1) [0,1,-1,9,-2]) v.num v.kids,p+2)
  else if zan b p 24=1 then some (.mk v.ctor (numV b (p+1) [10,-1,1]) v.kids,p+2)
  else if zan b p 24=2 then some (.mk v.ctor v.num (v.kids++[.mk (-1) 0 []]),p+1)
  else if zan b p 24=3 then
   match v.kids with
   | []=>some (.mk v.ctor v.num v.kids,p+1)
   |k::r=>
    match mutV b n (p+1) k with
    |none=>none
    |some (k1,p1)=>
     match mutV b n p1 k1 with
     |none=>none
     |some (k2,p2)=>some (.mk v.ctor v.num (k2::r),p2)
  else some (.mk v.ctor v.num v.kids,p+1)
theorem xay:∀a b:List Val,Vals.size (a++b)=Vals.size a+Vals.size b
 | [],b=>by simp[Vals.size]
 |x::r,b=>by simp only[xag,Vals.size,xay r b];omega
theorem xaw (a n:Int) (k:List Val):(Val.mk a n k).size=1+Vals.size k:=rfl
theorem zxX {b:Str}{n p:Nat}{v:Val}{k:Val}{r:List Val} (h:zan b p 24=3) (hk:v.kids=k::r){v':Val}{q:Nat} (hm:mutV b (n+1) p v=some (v',q)):
  ∃k1 p1 k2,mutV b n (p+1) k=some (k1,p1)/\mutV b n p1 k1=some (k2,q)/\v' = .mk v.ctor v.num (k2::r):=by
 simp only[mutV] at hm;rw[if_neg (by omega),if_neg (by omega),if_neg (by omega),if_pos h,hk] at hm;cases h1:mutV b n (p+1) k with
 |none=>simp[h1] at hm
 |some x=>
  obtain⟨k1,p1⟩:=x;cases h2:mutV b n p1 k1 with
  |none=>simp[h1,h2] at hm
  |some y=>
   obtain⟨k2,p2⟩:=y;simp only[h1,h2,Option.some.injEq,Prod.mk.injEq] at hm;obtain⟨rfl,rfl⟩:=hm;exact⟨k1,p1,k2,rfl,h2,rfl⟩
theorem zoU {b:Str}:∀ {n:Nat}{p:Nat}{v v':Val}{q:Nat},mutV b n p v=some (v',q)->p<q/\v'.size<=v.size+(q-p)
 |0,p,v,v',q,h=>by simp[mutV] at h
 |n+1,p,v,v',q,h=>by
  have hv:=Val.size_eq v;by_cases h3:zan b p 24=3
  ·cases hk:v.kids with
   |nil=>
    simp only[mutV] at h;rw[if_neg (by omega),if_neg (by omega),if_neg (by omega),if_pos h3,hk] at h;simp only[Option.some.injEq,Prod.mk.injEq] at h;obtain⟨rfl,rfl⟩:=h;rw[xaw];simp only[Vals.size];omega
   |cons k r=>
    obtain⟨k1,p1,k2,h1,h2,rfl⟩:=zxX h3 hk h;have a1:=zoU h1;have a2:=zoU h2;rw[hk] at hv;rw[xaw];simp only[Vals.size] at hv ⊢;omega
  ·simp only[mutV] at h;split at h
   ·simp only[Option.some.injEq,Prod.mk.injEq] at h;obtain⟨rfl,rfl⟩:=h;rw[xaw];omega
   split at h
   ·simp only[Option.some.injEq,Prod.mk.injEq] at h;obtain⟨rfl,rfl⟩:=h;rw[xaw];omega
   split at h
   ·simp only[Option.some.injEq,Prod.mk.injEq] at h;obtain⟨rfl,rfl⟩:=h;rw[xaw,xay];simp only[Vals.size,Val.size];omega
   ·simp only[Option.some.injEq,Prod.mk.injEq] at h;obtain⟨rfl,rfl⟩:=h;rw[xaw];omega
mutual
theorem Val.ok_sz:∀v:Val,v.size<=1000000000000->v.ok
 | .mk a n ks,h=>by
  have h1:1+Vals.size ks<=1000000000000:=h;exact⟨by have:=xax ks;omega,Vals.ok_sz ks (by omega)⟩
theorem Vals.ok_sz:∀l:List Val,Vals.size l<=1000000000000->Vals.ok l
 | [],_=>trivial
 |v::r,h=>by
  have h1:v.size+Vals.size r<=1000000000000:=h;exact⟨Val.ok_sz v (by omega),Vals.ok_sz r (by omega)⟩
theorem xax:∀l:List Val,l.length<=Vals.size l
 | []=>Nat.zero_le _
 |v::r=>by
  have h1:=xax r;have h2:=Val.size_eq v;show r.length+1<=v.size+Vals.size r
  omega
end
theorem Val.cs_app (a b:List Val):Val.cs (a++b)=Val.cs a++Val.cs b:=by rw[Val.cs_eq,Val.cs_eq,Val.cs_eq,xaf]
structure MutOf (b:Str) (p:Nat) (v v':Val) (q:Nat):Prop where
 some_:∃n,mutV b n p v=some (v',q)
 q:q<=3010000
theorem MutOf.size {b:Str}{p:Nat}{v v':Val}{q:Nat} (h:MutOf b p v v' q):v'.size<=v.size+3010000:=by
 obtain⟨n,hn⟩:=h.some_;have:=zoU hn;have:=h.q;omega
def g0:Gd:=⟨0,0,0⟩
def zcj (b:Str) (x:Vt) (g:Gd) (q:Nat):Gd×Nat:=if x.ty.data = -1 then (if zan b q 2=0 then (⟨1+zan b (q+1) 2,x.var,zan b (q+2) 10⟩,q+3) else (g,q+1)) else (g,q)
def gdL (b:Str):List Vt->Gd->Nat->Gd×Nat
 | [],g,q=>(g,q)
 |x::r,g,q=>gdL b r (zcj b x g q).1 (zcj b x g q).2
theorem zjp {b:Str}{x:Vt}{g:Gd}{q:Nat} (h:x.ty.data = -1) (h2:zan b q 2=0):zcj b x g q=(⟨1+zan b (q+1) 2,x.var,zan b (q+2) 10⟩,q+3):=by unfold zcj;rw[if_pos h,if_pos h2]
theorem zjq {b:Str}{x:Vt}{g:Gd}{q:Nat} (h:x.ty.data = -1) (h2:¬zan b q 2=0):zcj b x g q=(g,q+1):=by unfold zcj;rw[if_pos h,if_neg h2]
theorem zjr {b:Str}{x:Vt}{g:Gd}{q:Nat} (h:¬x.ty.data = -1):zcj b x g q=(g,q):=by unfold zcj;rw[if_neg h]
theorem zic (b:Str) (x:Vt) (g:Gd) (q:Nat):q<=(zcj b x g q).2/\(zcj b x g q).2<=q+3:=by unfold zcj;split;split;all_goals (dsimp only;omega)
theorem zrr (b:Str):∀(l:List Vt) (g:Gd) (q:Nat),(gdL b l g q).2<=q+3*l.length
 | [],g,q=>by simp[gdL]
 |x::r,g,q=>by
  unfold gdL;have h1:=zic b x g q;have h2:=zrr b r (zcj b x g q).1 (zcj b x g q).2;simp only[xab];omega
def clD (b:Str) (w:List Data) (t:Ty) (q:Nat):Cl×Nat:=
 (⟨zbk b w t q,(gdL b (zeH w t (zbk b w t q)) g0 (zco b w t q).2.2).1⟩,(gdL b (zeH w t (zbk b w t q)) g0 (zco b w t q).2.2).2)
theorem zxS {w:List Data}{t:Ty}:isP w t anyP=true:=by
 have e:zag w t anyP=[]:=by unfold zag;rw[if_neg (by decide),if_neg (by decide),if_neg (by decide)]
 have ho:ownP w t anyP=true:=by simp[ownP,anyP,Pat.op,Pat.n,Pat.m,Pat.var,Pat.ctor]
 have h:zaq w 10 t anyP=true:=by
  show(ownP w t anyP&&all2 _ (zag w t anyP) anyP.kids)=true
  rw[e,ho];rfl
 have h2:anyP.size=1:=ziN.1;have h3:linP w 10 t anyP=true:=by
  unfold linP;rw[e];rfl
 unfold isP;rw[h,h3,h2];rfl
theorem zsG (b:Str) (w:List Data) (t:Ty) (q:Nat):isP w t (zbk b w t q)=true:=by
 unfold zbk;split
 ·assumption
 ·exact zxS
theorem zuM {b:Str}{w:List Data} (hf:Few w){t:Ty} (ht:TyIn w.length t) (q:Nat):(clD b w t q).2<=q+518/\(clD b w t q).1.pat.size<=242/\(clD b w t q).1.pat.ok:=by
 have h1:=zim (b:=b) hf ht q;have h2:=zn0 (b:=b) hf ht q;have h3:=zjN w t (zbk b w t q);have h4:=zrr b (zeH w t (zbk b w t q)) g0 (zco b w t q).2.2;exact⟨by unfold clD;dsimp only;omega,h2⟩
theorem zmD {b:Str}{w:List Data} (hb:b.length<=2000) (hw:WT w) (hf:Few w){a k:Int}{p:Nat} (hp:p<=100000) (ht:TyIn w.length ⟨a,k⟩):
  FnD Tryz.prog 219 [.ref 900 0,.d (zal w),.agg [.d (.i a),.d (.i k)]] [(900,some (rdB b p))]
   (.agg [.d (.i (clD b w ⟨a,k⟩ p).1.pat.op),.d (.i (clD b w ⟨a,k⟩ p).1.pat.ctor),.d (.i (clD b w ⟨a,k⟩ p).1.pat.n),.d (.i (clD b w ⟨a,k⟩ p).1.pat.m),.d (.i (clD b w ⟨a,k⟩ p).1.pat.var),.d (zae (clD b w ⟨a,k⟩ p).1.pat.kids),.d (.i (clD b w ⟨a,k⟩ p).1.g.op),.d (.i (clD b w ⟨a,k⟩ p).1.g.var),.d (.i (clD b w ⟨a,k⟩ p).1.g.n)])
   [(900,some (rdB b (clD b w ⟨a,k⟩ p).2))]:=by
 have h1:=zim (b:=b) hf ht p;have h2:=zn0 (b:=b) hf ht p;have h3:=zjN w ⟨a,k⟩ (zbk b w ⟨a,k⟩ p);have hip:=zsG b w ⟨a,k⟩ p;have hsh:zaq w 10 ⟨a,k⟩ (zbk b w ⟨a,k⟩ p)=true:=by unfold isP at hip;simp only[xad] at hip;exact hip.1
 have hva:=zdA hw hsh (by omega) ht h2.2 (by omega);rw[<-zqc hip] at hva;have hso:=zpa hb hw hf hp ht;have hgb:=zrr b;have hpb:=fun q=>zcQ (b:=b) (p:=q) (n:=2) (by omega);unfold clD;dsimp only;generalize zbk b w ⟨a,k⟩ p=pt at *;generalize zeH w ⟨a,k⟩ pt=L at *;generalize (zco b w ⟨a,k⟩ p).2.2=q0 at *;refine bd Tryz.f219 51 [] [] fun w0 F0 own kept hk=>?_;refine bx 3005 ?_;refine ab 3006 tz50 ?_;refine tv ?_;refine wd zzG (hso) rfl rfl ⟨rfl,trivial⟩ ?_;refine bu [0] [_] st50 ?_;refine ab 3007 tz50 ?_;refine so ty50 ?_;refine tv ?_;refine wc zhD (hva) rfl rfl ?_;refine ev ?_;refine xak (ι:=List (Vt)×List (Vt)×(Nat)×(Gd)) hk (fun x=>[(9,.d (.i (x.1.length:Int)))]) [20,21,22,23,24,25,26,27,28,29,30,31,32,33,34,35,36,37,38,39,40,41,42,43,44,45,46,47,48,49] (fun x=>[(900,some (.box [.d (zcx b),.d (.i (x.2.2.1:Int))])),(3007,some (.box [.d (.i pt.op),.d (.i pt.ctor),.d (.i pt.n),.d (.i pt.m),.d (.i pt.var),.d (zae pt.kids),.d (.i x.2.2.2.op),.d (.i x.2.2.2.var),.d (.i x.2.2.2.n)]))]) (fun x=>x.1++x.2.1=L/\x.2.2.1<=q0+3*x.1.length/\gdL b x.2.1 x.2.2.2 x.2.2.1=gdL b L g0 q0) (fun x=>x.2.1.length) ([],L,q0,g0) ⟨by simp,by simp,rfl⟩ ⟨⟨_,rfl,xaq ?_⟩,trivial⟩ ⟨?_,⟨?_,trivial⟩⟩ (fun x=>rfl) (fun x hg1=>?_);focus (first|rfl|(simp;done)|omega)
 iterate 2 focus (first|rfl|(rw[zjp (by omega) (by omega)];all_goals rfl)|(rw[zjq (by omega) (by omega)];all_goals rfl)|(rw[zjr (by omega)];all_goals rfl))
 obtain⟨pre,rest,q,g⟩:=x;dsimp only at hg1 ⊢;refine evc [] [] ?_;refine sq ?_ ?_<;>intro h1 h1p h1s<;>(try simp only[Q] at h1p);rcases rest with _|⟨y,rest⟩
 ·exfalso;simp_all
 have hpl:pre.length<=6:=(by have hz:=congrArg List.length hg1.1;simp at hz;omega);refine xaV zdg .none rfl rfl rfl rfl (zaI hg1.1) rfl ?_;refine ev ?_;refine sq ?_ ?_<;>intro h2 h2p h2s<;>(try simp only[Q] at h2p);refine Walk.call (cr:=[]) zce (zaU (p:=q) (n:=2) hb (by omega) (by omega)) rfl (.some rfl rfl h2) rfl rfl (LeL.refl _) ⟨rfl,trivial⟩ rfl rfl rfl ?_;refine evs [] [(33,true)] ?_ ⟨⟨_,rfl,h2⟩,trivial⟩;refine sq ?_ ?_<;>intro h3 h3p h3s<;>(try simp only[Q] at h3p);refine wd zce (zaU (p:=q+1) (n:=2) hb (by omega) (by omega)) rfl rfl ⟨rfl,trivial⟩ ?_;refine evd [] [] ?_;refine ar ?_ (by have:=hpb (q+1);constructor<;>omega);refine xaV zdg .none rfl rfl rfl rfl (zaI hg1.1) rfl ?_;refine evd [] [] ?_;refine wd zce (zaU (p:=q+2) (n:=10) hb (by omega) (by omega)) rfl rfl ⟨rfl,trivial⟩ ?_;refine bu [0,1,2] [_,_,_] st48 ?_;refine evd [] [] ?_;refine so ty48 ?_;refine dr ?_;refine ar ?_ (by have:=hpb (q+1);constructor<;>omega);refine xah ((pre++[y],rest,(zcj b y g q).2,(zcj b y g q).1)) ⟨⟨(by have hz:=hg1.1;rw[<-hz];simp),⟨(by have:=zic b y g q;simp only[xaa,xab,xai];omega),(by rw[<-hg1.2.2];simp[gdL])⟩⟩,(by simp),sx ⟨⟨_,rfl,xaq ?_⟩,trivial⟩ ⟨?_,⟨?_,trivial⟩⟩⟩;focus (first|rfl|(simp;done)|omega)
 iterate 2 focus (first|rfl|(rw[zjp (by omega) (by omega)];all_goals rfl)|(rw[zjq (by omega) (by omega)];all_goals rfl)|(rw[zjr (by omega)];all_goals rfl))
 refine ar ?_ (by have:=hpb (q+1);constructor<;>omega);refine xah ((pre++[y],rest,(zcj b y g q).2,(zcj b y g q).1)) ⟨⟨(by have hz:=hg1.1;rw[<-hz];simp),⟨(by have:=zic b y g q;simp only[xaa,xab,xai];omega),(by rw[<-hg1.2.2];simp[gdL])⟩⟩,(by simp),sx ⟨⟨_,rfl,xaq ?_⟩,trivial⟩ ⟨?_,⟨?_,trivial⟩⟩⟩;focus (first|rfl|(simp;done)|omega)
 iterate 2 focus (first|rfl|(rw[zjp (by omega) (by omega)];all_goals rfl)|(rw[zjq (by omega) (by omega)];all_goals rfl)|(rw[zjr (by omega)];all_goals rfl))
 refine sqF ?_;refine ar ?_ (by have:=hpb (q+1);constructor<;>omega);refine xah ((pre++[y],rest,(zcj b y g q).2,(zcj b y g q).1)) ⟨⟨(by have hz:=hg1.1;rw[<-hz];simp),⟨(by have:=zic b y g q;simp only[xaa,xab,xai];omega),(by rw[<-hg1.2.2];simp[gdL])⟩⟩,(by simp),sx ⟨⟨_,rfl,xaq ?_⟩,trivial⟩ ⟨?_,⟨?_,trivial⟩⟩⟩;focus (first|rfl|(simp;done)|omega)
 iterate 2 focus (first|rfl|(rw[zjp (by omega) (by omega)];all_goals rfl)|(rw[zjq (by omega) (by omega)];all_goals rfl)|(rw[zjr (by omega)];all_goals rfl))
 have hrest:rest=[]:=by
  rcases rest with _|⟨a,b⟩
  ·rfl
  ·exfalso;have hz:=congrArg List.length (hg1.1);simp only[xaa,xab,xac] at hz;omega
 subst hrest;refine so ty50 ?_;refine tv ?_;refine rn [(900,some (rdB b (gdL b L g0 q0).2))] (.cons (.cellA ty50 rfl rfl rfl) .nil) (.agg (.cons (.eqd ?_) (.cons (.eqd ?_) (.cons (.eqd ?_) (.cons (.eqd ?_) (.cons (.eqd ?_) (.cons (.eqd ?_) (.cons (.eqd ?_) (.cons (.eqd ?_) (.cons (.eqd ?_) .nil)))))))))) ⟨rfl,rfl⟩ (SubO.get ⟨.inr ?_,⟨.inl rfl,trivial⟩⟩) (zay rfl);rotate_left 10;all_goals (first|((first|rfl|(rw[<-hg1.2.2,gdL];all_goals rfl));done)|(first|(rw[<-hg1.2.2,gdL];all_goals rfl)|rfl))
def clL (b:Str) (w:List Data) (t:Ty):Nat->Nat->List Cl×Nat
 |0,q=>([],q)
 |n+1,q=>((clD b w t q).1::(clL b w t n (clD b w t q).2).1,(clL b w t n (clD b w t q).2).2)
def CSm (l:List Cl):Prop:=∀c∈l,c.pat.size<=400/\c.pat.ok
theorem zuN {b:Str}{w:List Data} (hf:Few w){t:Ty} (ht:TyIn w.length t):∀(n q:Nat),(clL b w t n q).2<=q+518*n/\(clL b w t n q).1.length=n/\CSm (clL b w t n q).1
 |0,q=>⟨by simp[clL],rfl,fun c hc=>by simp[clL] at hc⟩
 |n+1,q=>by
  have h1:=zuM (b:=b) hf ht q;have h2:=zuN (b:=b) hf ht n (clD b w t q).2;unfold clL;refine⟨by dsimp only;omega,by simp[h2.2.1],fun c hc=>?_⟩;rcases List.mem_cons.1 hc with rfl|hc
  ·exact⟨by omega,h1.2.2⟩
  ·exact h2.2.2 c hc
theorem num6 (b:Str) (p:Nat):0<=numV b p [3,2,4,5,1,0]/\numV b p [3,2,4,5,1,0]<=5:=by
 have:=zfg (b:=b) (p:=p) (l:=[3,2,4,5,1,0]) (by simp);simp only[List.mem_cons,List.not_mem_nil,or_false] at this;omega
def clS (b:Str) (w:List Data) (t:Ty) (q:Nat):List Cl×Nat:=clL b w t (numV b q [3,2,4,5,1,0]).toNat (q+1)
theorem zza {b:Str}{w:List Data} (hf:Few w){t:Ty} (ht:TyIn w.length t) (q:Nat):(clS b w t q).2<=q+2591/\(clS b w t q).1.length<=5/\CSm (clS b w t q).1:=by
 have h:=zuN (b:=b) hf ht (numV b q [3,2,4,5,1,0]).toNat (q+1);have h2:=num6 b q;unfold clS;exact⟨by omega,by omega,h.2.2⟩
theorem zsm (b:Str) (p:Nat):TyIn (zbw b p).length (typT b p):=zb7 (zlc b p).ins
def rnL (b:Str):List Cl×Nat:=clS b (zbw b 0) (typT b 0) (typV b 0).2
theorem zvu (b:Str):(rnL b).2<=2700/\(rnL b).1.length<=5/\CSm (rnL b).1:=by
 have h1:=(zty b 0).1;have h2:=zza (b:=b) (zf1 b 0).few (zsm b 0) (typV b 0).2;unfold rnL;exact⟨by omega,h2.2⟩
def anyC:Cl:=⟨⟨1,0,0,0,0,[]⟩,⟨0,0,0⟩⟩
def mutC (b:Str) (l:List Cl) (q:Nat):List Cl×Nat:=
 if zan b q 24=0 then (match l with
  | []=>([],q+1)
  |y::r=>(⟨y.pat,⟨numV b (q+1) [1,2,3,-1],numV b (q+2) [0,5,9],numV b (q+3) [3,10,-1]⟩⟩::r,q+4))
 else if zan b q 24=1 then (match l with
  | []=>([],q+1)
  |y::r=>(⟨(mutP b (mutP b y.pat (q+1)).1 (mutP b y.pat (q+1)).2).1,y.g⟩::r,(mutP b (mutP b y.pat (q+1)).1 (mutP b y.pat (q+1)).2).2))
 else if zan b q 24=2 then (l++List.replicate (9-l.length) anyC,q+1)
 else (l,q+1)
theorem zrJ (b:Str) (p:Pat) (q:Nat):(mutP b p q).2<=q+2:=by
 unfold mutP;repeat' split
 all_goals (dsimp only;omega)
theorem zoT {b:Str}{p:Pat}{q m:Nat} (hs:p.size<=m) (hm:m<=1000) (hok:p.ok):(mutP b p q).1.size<=m+1/\(mutP b p q).1.ok:=by
 have hv:zbo.size=1/\zbo.ok:=⟨by rw[Pat.size_eq];rfl,by rw[Pat.ok_iff];exact⟨by simp[zbo,Pat.kids],trivial⟩⟩;refine⟨?_,(zxW (by omega) hok).2⟩;have h0:=Pat.size_eq p;have same:∀a c n m' v:Int,(Pat.mk a c n m' v p.kids).size<=m+1:=fun a c n m' v=>by
  rw[Pat.size_eq];show 1+Pats.size p.kids<=_;omega
 unfold mutP;split;exact same _ _ _ _ _
 split;exact same _ _ _ _ _
 split;exact same _ _ _ _ _
 split
 ·dsimp only;rw[Pat.size_eq];show 1+Pats.size (p.kids++[zbo])<=_;rw[xav];omega
 split
 ·dsimp only;rw[Pat.size_eq];show 1+Pats.size (p.kids.set 0 zbo)<=_;have:=zoY (x:=zbo) (l:=p.kids) (i:=0);omega
 split;exact same _ _ _ _ _
 exact same _ _ _ _ _
theorem zxV {b:Str}{l:List Cl}{q:Nat} (h:CSm l) (hl:l.length<=6):(mutC b l q).2<=q+5/\(mutC b l q).1.length<=9/\∀c∈(mutC b l q).1,c.pat.size<=4000/\c.pat.ok:=by
 have hs:∀c∈l,c.pat.size<=4000/\c.pat.ok:=fun c hc=>⟨by have:=(h c hc).1;omega,(h c hc).2⟩;unfold mutC;split
 ·cases l with
  |nil=>exact⟨by simp,by simp,by simp⟩
  |cons y r=>
   simp only[xab] at hl;refine⟨by simp,by simp;omega,fun c hc=>?_⟩;rcases List.mem_cons.1 hc with rfl|hc
   ·exact hs y (by simp)
   ·exact hs c (by simp[hc])
 split
 ·cases l with
  |nil=>exact⟨by simp,by simp,by simp⟩
  |cons y r=>
   have h1:=h y (by simp);have h2:=zrJ b y.pat (q+1);have h3:=zrJ b (mutP b y.pat (q+1)).1 (mutP b y.pat (q+1)).2;simp only[xab] at hl;refine⟨by dsimp only;omega,by simp;omega,fun c hc=>?_⟩;rcases List.mem_cons.1 hc with rfl|hc
   ·have h4:=zoT (b:=b) (p:=y.pat) (q:=q+1) (m:=400) h1.1 (by omega) h1.2;have h5:=zoT (b:=b) (p:=(mutP b y.pat (q+1)).1) (q:=(mutP b y.pat (q+1)).2) (m:=401) h4.1 (by omega) h4.2;exact⟨by have:=h5.1;dsimp only;omega,h5.2⟩
   ·exact hs c (by simp[hc])
 split
 ·refine⟨by simp,by simp;omega,fun c hc=>?_⟩;rcases List.mem_append.1 hc with hc|hc
  ·exact hs c hc
  ·rw[List.eq_of_mem_replicate hc];have ha:=ziN;exact⟨by show anyP.size<=_;omega,ha.2⟩
 ·exact⟨by simp,by dsimp only;omega,hs⟩
theorem zzm {b:Str}{y:Cl}{r:List Cl}{q:Nat} (h:zan b q 24=0):mutC b (y::r) q=(⟨y.pat,⟨numV b (q+1) [1,2,3,-1],numV b (q+2) [0,5,9],numV b (q+3) [3,10,-1]⟩⟩::r,q+4):=by unfold mutC;rw[if_pos h]
theorem zzn {b:Str}{y:Cl}{r:List Cl}{q:Nat} (h:zan b q 24=1):mutC b (y::r) q=(⟨(mutP b (mutP b y.pat (q+1)).1 (mutP b y.pat (q+1)).2).1,y.g⟩::r,(mutP b (mutP b y.pat (q+1)).1 (mutP b y.pat (q+1)).2).2):=by unfold mutC;rw[if_neg (by omega),if_pos h]
theorem zzo {b:Str}{l:List Cl}{q:Nat} (h:zan b q 24=2):mutC b l q=(l++List.replicate (9-l.length) anyC,q+1):=by unfold mutC;rw[if_neg (by omega),if_neg (by omega),if_pos h]
theorem zzp {b:Str}{l:List Cl}{q:Nat} (h0:¬zan b q 24=0) (h1:¬zan b q 24=1) (h2:¬zan b q 24=2):mutC b l q=(l,q+1):=by unfold mutC;rw[if_neg h0,if_neg h1,if_neg h2]
theorem zwm {b:Str}{l:List Cl}{q:Nat} (h0:zan b q 24=0\/zan b q 24=1) (h:l.length=0):mutC b l q=(l,q+1):=by
 obtain rfl:=List.eq_nil_of_length_eq_zero h;unfold mutC;rcases h0 with h0|h0
 ·rw[if_pos h0]
 ·rw[if_neg (by omega),if_pos h0]
theorem putG {y:Cl}{r:List Cl}{a b c:AV}:putC (((y::r).map Cl.c).flatten.map AV.d) 6 [a,b,c]=some ([.d (.i y.pat.op),.d (.i y.pat.ctor),.d (.i y.pat.n),.d (.i y.pat.m),.d (.i y.pat.var),.d (.sl (Pat.cs y.pat.kids)),a,b,c]++(r.map Cl.c).flatten.map .d):=by
 simp[putC]
theorem zzV {y:Cl}{r:List Cl}{a b c d e f:AV}:putC (((y::r).map Cl.c).flatten.map AV.d) 0 [a,b,c,d,e,f]=some ([a,b,c,d,e,f,.d (.i y.g.op),.d (.i y.g.var),.d (.i y.g.n)]++(r.map Cl.c).flatten.map .d):=by
 simp[putC]
theorem zzP {y:Cl}{r:List Cl}:cutC (((y::r).map Cl.c).flatten.map AV.d) 0 6=some [.d (.i y.pat.op),.d (.i y.pat.ctor),.d (.i y.pat.n),.d (.i y.pat.m),.d (.i y.pat.var),.d (.sl (Pat.cs y.pat.kids))]:=by
 simp[cutC]
theorem ziP (l:List Cl):∀x∈l.map Cl.c,x.length=9:=by
 intro x hx;obtain⟨y,_,rfl⟩:=List.mem_map.1 hx;rfl
theorem zvU (l:List Cl) (i:Nat):(l++List.replicate i anyC).map Cl.c++[Cl.c anyC]=(l++List.replicate (i+1) anyC).map Cl.c:=by
 rw[List.replicate_succ',<-List.append_assoc,xaf (l₁:=l++List.replicate i anyC)];rfl
theorem zis {b:Str} (hb:b.length<=2000){l:List Cl}{q:Nat} (hq:q<=10000) (hl:l.length<=6) (hc:¬((zan b q 24=0\/zan b q 24=1)/\l≠[])):
  FnD Tryz.prog 136 [.ref 900 0,.d (zbZ l)] [(900,some (rdB b q))] (.d (zbZ (mutC b l q).1)) [(900,some (rdB b (mutC b l q).2))]:=by
 have hnil:l≠[]->zan b q 24≠0/\zan b q 24≠1:=fun h=>by
  constructor
  ·intro h2;exact hc ⟨.inl h2,h⟩
  ·intro h2;exact hc ⟨.inr h2,h⟩
 refine bd Tryz.f136 56 [] [] fun w0 F0 own kept hk=>?_;refine xbi 1 sl59 .none rfl rfl ?_;refine ev ?_;refine Walk.append sl59 zz50 rfl .none rfl rfl rfl rfl (zdr rfl (by rfl)) (by exact ziP _) (by simp;omega) (by simp;omega) ?_;refine ev ?_;refine wd zce (zaU (p:=q) (n:=24) hb (by omega) (by omega)) rfl rfl ⟨rfl,trivial⟩ ?_;refine tv ?_;refine sq ?_ ?_<;>intro h1 h1p h1s<;>(try simp only[Q,Int.natCast_inj] at h1p);refine sq ?_ ?_<;>intro h2 h2p h2s<;>(try simp only[Q,Int.natCast_inj] at h2p);exfalso;have hne:l≠[]:=(fun hh=>by rw[hh] at h2p;exact absurd h2p (by decide));exact(hnil hne).1 (by omega);have hz0:l.length=0:=(by have hq:=h2p;simp only[List.nil_append,xac] at hq;omega);refine rn [(900,some (rdB b (mutC b l q).2))] (r1 rfl) (.gld ?_) ⟨rfl,rfl⟩ (SubO.get ⟨.inr ?_,⟨.inl rfl,trivial⟩⟩) (zay rfl);rotate_left 2;refine sq ?_ ?_<;>intro h3 h3p h3s<;>(try simp only[Q,Int.natCast_inj] at h3p);refine sq ?_ ?_<;>intro h4 h4p h4s<;>(try simp only[Q,Int.natCast_inj] at h4p);exfalso;have hne:l≠[]:=(fun hh=>by rw[hh] at h4p;exact absurd h4p (by decide));exact(hnil hne).2 (by omega);have hz0:l.length=0:=(by have hq:=h4p;simp only[List.nil_append,xac] at hq;omega);refine rn [(900,some (rdB b (mutC b l q).2))] (r1 rfl) (.gld ?_) ⟨rfl,rfl⟩ (SubO.get ⟨.inr ?_,⟨.inl rfl,trivial⟩⟩) (zay rfl);rotate_left 2;refine sq ?_ ?_<;>intro h5 h5p h5s<;>(try simp only[Q,Int.natCast_inj] at h5p);refine xak (ι:=Nat) hk (fun i=>[(5,.gl 1 ((l++List.replicate i anyC).map Cl.c))]) [47,48,49,50,51,52,53,54] (fun i=>[(1,some (.tok (((l++List.replicate i anyC).map Cl.c)).length 9))]) (fun i=>i<=9-l.length/\zan b q 24=2) (fun i=>9-l.length-i) 0 ⟨by omega,by omega⟩ ⟨⟨_,rfl,LeA.glg ?_⟩,trivial⟩ ⟨zab ?_,trivial⟩ (fun x=>rfl) (fun i hg1=>?_);iterate 2 focus ((simp;done))
 refine evc [] [] ?_;refine sq ?_ ?_<;>intro h6 h6p h6s<;>(try simp only[Q,Int.natCast_inj] at h6p);refine bu [0] [_] st28 ?_;refine bu [0] [_] st50 ?_;refine si [0] [_] sl59 tz50 ?_;refine Walk.append sl59 zz50 rfl .none rfl rfl rfl rfl (zdr rfl (by(simp;done))) (by(intro y hy;simp at hy;subst hy;rfl)) (by simp;omega) (by simp;omega) ?_;refine ev ?_;refine xah (i+1) ⟨⟨by simp at *;omega,hg1.2⟩,(by simp at *;omega),sx ⟨⟨_,rfl,LeA.glg ?_⟩,trivial⟩ ⟨zab ?_,trivial⟩⟩;iterate 2 focus (first|exact zvU l i|(simp;omega))
 refine rn [(900,some (rdB b (mutC b l q).2))] (r1 rfl) (.gld ?_) ⟨rfl,rfl⟩ (SubO.get ⟨.inr ?_,⟨.inl rfl,trivial⟩⟩) (zay rfl);rotate_left 2;refine rn [(900,some (rdB b (mutC b l q).2))] (r1 rfl) (.gld ?_) ⟨rfl,rfl⟩ (SubO.get ⟨.inr ?_,⟨.inl rfl,trivial⟩⟩) (zay rfl);rotate_left 2;all_goals (((first|(rw[zwm (by omega) (by omega)];all_goals rfl)|(rw[zzo (by omega),show 9-l.length=i by simp at *;omega];all_goals first|rfl|(simp;done))|(rw[zzp (by omega) (by omega) (by omega)];all_goals rfl));done))
theorem zog {b:Str} (hb:b.length<=2000){y:Cl}{r:List Cl}{q:Nat} (hq:q<=10000) (hl:(y::r).length<=6) (hc:zan b q 24=0):
  FnD Tryz.prog 136 [.ref 900 0,.d (zbZ (y::r))] [(900,some (rdB b q))] (.d (zbZ (mutC b (y::r) q).1)) [(900,some (rdB b (mutC b (y::r) q).2))]:=by
 have hrl:((y::r).map Cl.c).length=(r.map Cl.c).length+1:=rfl;rw[zzm hc];refine bd Tryz.f136 56 [] [999999] fun w0 F0 own kept hk=>?_;refine xbj 1 sl59 .none rfl rfl ?_;refine ev ?_;refine xaC hk rfl (by simp) sl59 zz50 .none rfl rfl rfl rfl (zdr rfl (by rfl)) (by exact ziP _) (by simp at *;omega) (by simp at *;omega) ?_;refine ev ?_;refine wd zce (zaU (p:=q) (n:=24) hb (by omega) (by omega)) rfl rfl ⟨rfl,trivial⟩ ?_;refine tv ?_;refine sq ?_ ?_<;>intro h1 h1p h1s;refine sq ?_ ?_<;>intro h2 h2p h2s;refine si [0,1,2,3] [_,_,_,_] sl62 tz3 ?_;refine wd zeK (zbL (p:=q+1) (l:=[1,2,3,-1]) hb (by omega) (by simp) (by simp)) rfl rfl ⟨rfl,trivial⟩ ?_;refine ev ?_;refine si [0,1,2] [_,_,_] sl62 tz3 ?_;refine wd zeK (zbL (p:=q+2) (l:=[0,5,9]) hb (by omega) (by simp) (by simp)) rfl rfl ⟨rfl,trivial⟩ ?_;refine ev ?_;refine si [0,1,2] [_,_,_] sl62 tz3 ?_;refine wd zeK (zbL (p:=q+3) (l:=[3,10,-1]) hb (by omega) (by simp) (by simp)) rfl rfl ⟨rfl,trivial⟩ ?_;refine bu [0,1,2] [_,_,_] st48 ?_;refine xaZ (i:=0) sl59 .none rfl rfl rfl rfl (by first|(simp;done)|(simp;omega)) ?_;refine ev ?_;refine Walk.store ty48 .none rfl rfl rfl rfl rfl rfl (by simp) ((putG)) ?_;refine tv ?_;refine CWp.frz hk 4 1 _ _ rfl rfl (by rw[List.nil_append,hrl];exact zq8 rfl rfl (ziP r)) rfl ?_;refine CWp.ret ?_;refine rn [(900,some (rdB b (q+4)))] (r1 rfl) (.eqd ?_) ⟨rfl,rfl⟩ (SubO.get ⟨.inr ?_,⟨.inl rfl,trivial⟩⟩) (zay rfl);rotate_left 2;try simp only[Q,Int.natCast_inj] at h2p
 exfalso;rw[List.nil_append,hrl] at h2p;omega;try simp only[Q,Int.natCast_inj] at h1p
 exfalso;omega;all_goals (first|((rfl);done)|(rfl))
theorem zoh {b:Str} (hb:b.length<=2000){y:Cl}{r:List Cl}{q:Nat} (hq:q<=10000) (hl:(y::r).length<=6) (hsm:y.pat.size<=400/\y.pat.ok) (hc:zan b q 24=1):
  FnD Tryz.prog 136 [.ref 900 0,.d (zbZ (y::r))] [(900,some (rdB b q))] (.d (zbZ (mutC b (y::r) q).1)) [(900,some (rdB b (mutC b (y::r) q).2))]:=by
 have hrl:((y::r).map Cl.c).length=(r.map Cl.c).length+1:=rfl;rw[zzn hc];have h1:=zoT (b:=b) (p:=y.pat) (q:=q+1) (m:=400) hsm.1 (by omega) hsm.2;have h2:=zrJ b y.pat (q+1);have i1:=zhY hb (p:=y.pat) (q:=q+1) (by omega) hsm.2;have i2:=zhY hb (p:=(mutP b y.pat (q+1)).1) (q:=(mutP b y.pat (q+1)).2) (by omega) h1.2;generalize mutP b y.pat (q+1)=z at *;generalize mutP b z.1 z.2=z2 at *;refine bd Tryz.f136 56 [40] [999999] fun w0 F0 own kept hk=>?_;refine xbj 1 sl59 .none rfl rfl ?_;refine evs [40] [] ?_;refine xaC hk rfl (by simp) sl59 zz50 .none rfl rfl rfl rfl (zdr rfl (by rfl)) (by exact ziP _) (by simp at *;omega) (by simp at *;omega) ?_;refine evs [40] [] ?_;refine wd zce (zaU (p:=q) (n:=24) hb (by omega) (by omega)) rfl rfl ⟨rfl,trivial⟩ ?_;refine tv ?_;refine sq ?_ ?_<;>intro h1 h1p h1s;try simp only[Q,Int.natCast_inj] at h1p
 exfalso;omega;refine sq ?_ ?_<;>intro h2 h2p h2s;refine sq ?_ ?_<;>intro h3 h3p h3s;refine xaZ (i:=0) sl59 .none rfl rfl rfl rfl (by first|(simp;done)|(simp;omega)) ?_;refine evs [40] [] ?_;refine xa2 ty28 .none rfl rfl rfl ((zzP)) ?_;refine wd zxa (i1) rfl rfl ⟨rfl,trivial⟩ ?_;refine wd zxa (i2) rfl rfl ⟨rfl,trivial⟩ ?_;refine xaZ (i:=0) sl59 .none rfl rfl rfl rfl (by first|(simp;done)|(simp;omega)) ?_;refine evs [40] [] ?_;refine Walk.store ty28 .none rfl rfl rfl rfl rfl rfl (by simp) ((zzV)) ?_;refine tv ?_;refine CWp.frz hk 4 1 _ _ rfl rfl (by rw[List.nil_append,hrl];exact zq8 rfl rfl (ziP r)) rfl ?_;refine CWp.ret ?_;refine rn [(900,some (rdB b z2.2))] (r1 rfl) (.eqd ?_) ⟨rfl,rfl⟩ (SubO.get ⟨.inr ?_,⟨.inl rfl,trivial⟩⟩) (zay rfl);rotate_left 2;try simp only[Q,Int.natCast_inj] at h3p
 exfalso;rw[List.nil_append,hrl] at h3p;omega;try simp only[Q,Int.natCast_inj] at h2p
 exfalso;omega;all_goals (first|((rfl);done)|(rfl))
theorem zmE {b:Str} (hb:b.length<=2000){l:List Cl}{q:Nat} (hq:q<=10000) (hl:l.length<=6) (hs:CSm l):
  FnD Tryz.prog 136 [.ref 900 0,.d (zbZ l)] [(900,some (rdB b q))] (.d (zbZ (mutC b l q).1)) [(900,some (rdB b (mutC b l q).2))]:=by
 cases l with
 |nil=>exact zis hb hq hl (fun h=>h.2 rfl)
 |cons y r=>
  by_cases h0:zan b q 24=0
  ·exact zog hb hq hl h0
  ·by_cases h1:zan b q 24=1
   ·exact zoh hb hq hl (hs y (by simp)) h1
   ·exact zis hb hq hl (fun h=>by rcases h.1 with h|h;exact h0 h;exact h1 h)
def rcW (b:Str):List Data:=zbw b 0
def rcT (b:Str):Ty:=typT b 0
theorem zpb {b:Str}{w:List Data} (hb:b.length<=2000) (hw:WT w) (hf:Few w){a k:Int}{p:Nat} (hp:p<=90000) (ht:TyIn w.length ⟨a,k⟩):
  FnD Tryz.prog 184 [.ref 900 0,.d (zal w),.agg [.d (.i a),.d (.i k)]] [(900,some (rdB b p))] (.gl 1 ((clS b w ⟨a,k⟩ p).1.map Cl.c)) [(900,some (rdB b (clS b w ⟨a,k⟩ p).2)),(1,some (.tok ((clS b w ⟨a,k⟩ p).1.map Cl.c).length 9))]:=by
 have h6:=num6 b p;have hnu:=zbL (b:=b) (p:=p) (l:=[3,2,4,5,1,0]) hb (by omega) (by simp) (by simp);have hok:=fun q=>zuM (b:=b) hf ht q;unfold clS;obtain⟨n0,hn0⟩:∃n:Nat,numV b p [3,2,4,5,1,0]=(n:Int):=⟨_,(Int.toNat_of_nonneg h6.1).symm⟩;rw[hn0] at h6 hnu ⊢;rw[Int.toNat_natCast];refine bd Tryz.f184 25 [] [] fun w0 F0 own kept hk=>?_;refine bx 3005 ?_;refine ev ?_;refine xbi 1 sl59 .none rfl rfl ?_;refine ev ?_;refine si [0,1,2,3,4,5] [_,_,_,_,_,_] sl62 tz3 ?_;refine wd zeK (hnu) rfl rfl ⟨rfl,trivial⟩ ?_;refine ev ?_;refine xak (ι:=Nat×List Cl×Nat) hk (fun x=>[(8,.d (.i (x.1:Int))),(7,.gl 1 (x.2.1.map Cl.c))]) [13,14,15,16,17,18,19,20,21,22,23] (fun x=>[(900,some (.box [.d (zcx b),.d (.i (x.2.2:Int))])),(1,some (.tok ((x.2.1.map Cl.c)).length 9))]) (fun x=>x.1<=n0/\x.2.2+518*x.1<=p+1+518*n0/\x.2.1.length+x.1<=5/\(x.2.1++(clL b w ⟨a,k⟩ x.1 x.2.2).1,(clL b w ⟨a,k⟩ x.1 x.2.2).2)=clL b w ⟨a,k⟩ n0 (p+1)) (fun x=>x.1) (n0,[],p+1) ⟨by simp,by simp,by simp;omega,by simp⟩ ⟨⟨_,rfl,xaq ?_⟩,⟨⟨_,rfl,LeA.glg ?_⟩,trivial⟩⟩ ⟨?_,⟨zab ?_,trivial⟩⟩ (fun x=>rfl) (fun x hg1=>?_);iterate 2 focus (rfl)
 focus (first|rfl|(simp[getH];done))
 focus (rfl)
 refine evc [] [] ?_;refine sq ?_ ?_<;>intro h1 h1p h1s;try simp only[Q,Int.natCast_inj] at h1p
 refine wd zy3 (zmD (p:=x.2.2) hb hw hf (by omega) ht) rfl rfl ⟨rfl,trivial⟩ ?_;refine si [0] [_] sl59 tz50 ?_;refine Walk.append sl59 zz50 rfl .none rfl rfl rfl rfl (zdr rfl (by rfl)) (by intro y hy;simp at hy;subst hy;rfl) (by simp;omega) (by simp;omega) ?_;refine ev ?_;refine ar ?_;refine xah ((x.1-1,x.2.1++[(clD b w ⟨a,k⟩ x.2.2).1],(clD b w ⟨a,k⟩ x.2.2).2)) ⟨⟨by dsimp only;omega,by have:=hok x.2.2;dsimp only;omega,by simp;omega,by rw[<-hg1.2.2.2];obtain⟨m,hm⟩:∃m,x.1=m+1:=⟨x.1-1,by omega⟩;dsimp only;rw[hm];simp[clL]⟩,(by dsimp only;omega),sx ⟨⟨_,rfl,xaq ?_⟩,⟨⟨_,rfl,LeA.glg ?_⟩,trivial⟩⟩ ⟨?_,⟨zab ?_,trivial⟩⟩⟩;iterate 2 focus (first|omega|(simp;done))
 focus (first|rfl|(simp[getH];done))
 focus ((simp;done))
 try simp only[Q,Int.natCast_inj] at h1p
 refine rn [(900,some (rdB b (clL b w ⟨a,k⟩ n0 (p+1)).2)),(1,some (.tok ((clL b w ⟨a,k⟩ n0 (p+1)).1.map Cl.c).length 9))] (r1 rfl) (.glg ?_) ⟨rfl,rfl⟩ (SubO.get ⟨.inr ?_,⟨.inr ?_,⟨.inl rfl,trivial⟩⟩⟩) (zay rfl);rotate_left 3;all_goals (((first|rfl|(rw[<-hg1.2.2.2,show x.1=0 by omega];simp[clL];done)|(rw[<-hg1.2.2.2,show x.1=0 by omega,clL];all_goals rfl)|(have hz:=hg1.2.2.2;rw[show x.1=0 by omega] at hz;simp only[clL,List.append_nil] at hz;rw[<-hz];all_goals rfl));done))
theorem zoi {b:Str} (hb:b.length<=2000):
  FnD Tryz.prog 134 [.ref 900 0] [(900,some (rdB b 0))] (.tup [.d (zal (zbw b 0)),.agg [.d (.i (typT b 0).data),.d (.i (typT b 0).index)],.gl 1 ((rnL b).1.map Cl.c),.agg [.d (.i (typV b 0).1.ctor),.d (.i (typV b 0).1.num),.d (zbQ (typV b 0).1.kids)]]) [(900,some (rdB b (rnL b).2)),(1,some (.tok ((rnL b).1.map Cl.c).length 9))]:=by
 have hl:=zf1 b 0;have hv:=(zty b 0).1;have hty:=zob (p:=0) hb (by omega);have hcl:=zpb (p:=(typV b 0).2) (a:=(typT b 0).data) (k:=(typT b 0).index) hb hl.dp.wt hl.few (by omega) (zsm b 0);rw[show clS b (zbw b 0) ⟨(typT b 0).data,(typT b 0).index⟩ (typV b 0).2=rnL b from rfl] at hcl;generalize rnL b=z at *;refine bd Tryz.f134 22 [] [] fun w0 F0 own kept hk=>?_;refine ab 3003 tz25 ?_;refine ev ?_;refine ab 3005 tz44 ?_;refine tv ?_;refine wd zyz (hty) rfl rfl ⟨rfl,trivial⟩ ?_;refine ev ?_;refine ab 3007 tz25 ?_;refine ab 3008 tz44 ?_;refine ev ?_;refine so ty25 ?_;refine so ty44 ?_;refine tv ?_;refine Walk.call (cr:=[1]) zyQ (hcl) rfl .none rfl rfl (LeL.refl _) ⟨rfl,trivial⟩ rfl rfl rfl ?_;refine evd [] [] ?_;refine so ty25 ?_;refine evd [] [] ?_;refine so ty44 ?_;refine dr ?_;focus (refine rn [(900,some (rdB b z.2)),(1,some (.tok (z.1.map Cl.c).length 9))] (.cons (.tmp rfl) (.cons (.cellA ty25 rfl rfl rfl) (.cons (.tmp rfl) (.cons (.cellA ty44 rfl rfl rfl) .nil)))) (.tup (.cons (.eqd ?_) (.cons (.agg (.cons (.eqd ?_) (.cons (.eqd ?_) .nil))) (.cons (.glg ?_) (.cons (.agg (.cons (.eqd ?_) (.cons (.eqd ?_) (.cons (.eqd ?_) .nil)))) .nil))))) ⟨rfl,rfl⟩ (SubO.get ⟨.inr (by rfl),⟨.inr (by rfl),⟨.inl rfl,trivial⟩⟩⟩) (zay rfl);all_goals (rfl))
def dmL (b:Str):List Cl×Nat:=if (rnL b).1.length=0 then rnL b else if zan b (rnL b).2 4=0 then ((rnL b).1++[anyC],(rnL b).2+1) else ((rnL b).1,(rnL b).2+1)
theorem zu0 (b:Str):(dmL b).2<=2701/\(dmL b).1.length<=6/\CSm (dmL b).1:=by
 have h:=zvu b;unfold dmL;split
 ·exact⟨by omega,by omega,h.2.2⟩
 ·split
  ·refine⟨by dsimp only;omega,by simp;omega,fun c hc=>?_⟩;rcases List.mem_append.1 hc with hc|hc
   ·exact h.2.2 c hc
   ·rw[List.mem_singleton.1 hc];exact⟨by rw[Pat.size_eq];exact(by decide:1+0<=400),by rw[Pat.ok_iff];exact⟨by simp[anyC,Pat.kids],trivial⟩⟩
  ·exact⟨by dsimp only;omega,by dsimp only;omega,h.2.2⟩
def dmC (b:Str):List Cl:=(mutC b (dmL b).1 (dmL b).2).1
theorem zze (b:Str):(dmC b).length<=9/\∀c∈dmC b,c.pat.size<=4000/\c.pat.ok:=by
 have h:=zu0 b;exact(zxV h.2.2 h.2.1).2
theorem zxK (b:Str):ClsOk (dmC b)/\ClsSz (dmC b):=by
 have h:=zze b;exact⟨⟨by have:=h.1;omega,fun c hc=>(h.2 c hc).2⟩,fun c hc=>by have:=(h.2 c hc).1;omega⟩
theorem zgK {b:Str} (hb:b.length<=1000000000000):
  FnD Tryz.prog 80 [.d (zcx b)] [] (.tup [.d (zal (rcW (b.take 2000))),.agg [.d (.i (rcT (b.take 2000)).data),.d (.i (rcT (b.take 2000)).index)],.d (zbZ (dmC (b.take 2000)))]) []:=by
 have hop:=zir hb;have hb2:(b.take 2000).length<=2000:=by rw[List.length_take];omega
 generalize b.take 2000=e at *;have hr:=zvu e;have hd:=zu0 e;have hty:=zoi hb2;have hpk:=zaU (b:=e) (p:=(rnL e).2) (n:=4) hb2 (by omega) (by omega);have hmu:=zmE hb2 (l:=(dmL e).1) (q:=(dmL e).2) (by omega) hd.2.1 hd.2.2;have e0:(rnL e).1.length=0->dmL e=rnL e:=fun h=>by unfold dmL;rw[if_pos h]
 have e1:(rnL e).1.length≠0->zan e (rnL e).2 4=0->dmL e=((rnL e).1++[anyC],(rnL e).2+1):=fun h h2=>by unfold dmL;rw[if_neg h,if_pos h2]
 have e2:(rnL e).1.length≠0->zan e (rnL e).2 4≠0->dmL e=((rnL e).1,(rnL e).2+1):=fun h h2=>by unfold dmL;rw[if_neg h,if_neg h2]
 rw[show(mutC e (dmL e).1 (dmL e).2).1=dmC e from rfl] at hmu;generalize (mutC e (dmL e).1 (dmL e).2).2=q1 at *;generalize dmC e=l1 at *;by_cases h0:(rnL e).1.length=0
 ·rw[e0 h0] at hmu;clear e0 e1 e2 hd;generalize rnL e=z at *;refine bd Tryz.f80 37 [] [] fun w0 F0 own kept hk=>?_;refine ab 3003 tz25 ?_;refine ev ?_;refine Walk.call (cr:=[900]) zqy (hop) rfl .none rfl rfl (LeL.refl _) trivial rfl (by rfl) (by rfl) ?_;refine ev ?_;refine Walk.call (cr:=[1]) zqX (hty) rfl .none rfl rfl (LeL.refl _) ⟨rfl,trivial⟩ rfl rfl rfl ?_;refine ev ?_;refine ab 3007 tz25 ?_;refine ab 3009 tz44 ?_;refine ev ?_;refine so ty25 ?_;refine ev ?_;refine so ty44 ?_;refine tv ?_;refine sq ?_ ?_<;>intro h1 h1p h1s;try simp only[Q,Int.natCast_inj,xac] at h1p
  focus (exfalso;omega)
  refine sqF ?_;refine Walk.call (cr:=[]) zqY (hmu) rfl .none rfl rfl (.cons (.refl _) (.cons (.gl _ _) .nil)) ⟨rfl,trivial⟩ rfl rfl rfl ?_;refine evd [] [] ?_;refine so ty25 ?_;refine evd [] [] ?_;refine dr ?_;focus (refine rn0 (.cons (.tmp rfl) (.cons (.cellA ty25 rfl rfl rfl) (.cons (.tmp rfl) .nil))) (.tup (.cons (.eqd ?_) (.cons (.agg (.cons (.eqd ?_) (.cons (.eqd ?_) .nil))) (.cons (.eqd ?_) .nil))));all_goals (rfl))
 by_cases h1:zan e (rnL e).2 4=0
 ·rw[e1 h0 h1] at hmu;rw[show zbZ ((rnL e).1++[anyC]) = .sl ((rnL e).1.map Cl.c++[Cl.c anyC]) by show D.sl (((rnL e).1++[anyC]).map Cl.c)=_;rw[xaf];rfl] at hmu;clear e0 e1 e2 hd;generalize rnL e=z at *;refine bd Tryz.f80 37 [] [] fun w0 F0 own kept hk=>?_;refine ab 3003 tz25 ?_;refine ev ?_;refine Walk.call (cr:=[900]) zqy (hop) rfl .none rfl rfl (LeL.refl _) trivial rfl (by rfl) (by rfl) ?_;refine ev ?_;refine Walk.call (cr:=[1]) zqX (hty) rfl .none rfl rfl (LeL.refl _) ⟨rfl,trivial⟩ rfl rfl rfl ?_;refine ev ?_;refine ab 3007 tz25 ?_;refine ab 3009 tz44 ?_;refine ev ?_;refine so ty25 ?_;refine ev ?_;refine so ty44 ?_;refine tv ?_;refine sq ?_ ?_<;>intro h1 h1p h1s;refine Walk.call (cr:=[]) zce (hpk) rfl (.some rfl rfl h1) rfl rfl (LeL.refl _) ⟨rfl,trivial⟩ rfl rfl rfl ?_;refine evs [] [(22,true)] ?_ ⟨⟨_,rfl,h1⟩,trivial⟩;refine sq ?_ ?_<;>intro h2 h2p h2s;refine wc zuq (zjZ) rfl rfl ?_;refine bu [0] [_] st50 ?_;refine si [0] [_] sl59 tz50 ?_;refine Walk.append sl59 zz50 rfl .none rfl rfl rfl rfl (zdr rfl (by rfl)) (by intro x hx;simp at hx;subst hx;rfl) (by simp;omega) (by simp;omega) ?_;refine ev ?_;refine Walk.call (cr:=[]) zqY (hmu) rfl .none rfl rfl (.cons (.refl _) (.cons (.gl _ _) .nil)) ⟨rfl,trivial⟩ rfl rfl rfl ?_;refine evd [] [] ?_;refine so ty25 ?_;refine evd [] [] ?_;refine dr ?_;focus (refine rn0 (.cons (.tmp rfl) (.cons (.cellA ty25 rfl rfl rfl) (.cons (.tmp rfl) .nil))) (.tup (.cons (.eqd ?_) (.cons (.agg (.cons (.eqd ?_) (.cons (.eqd ?_) .nil))) (.cons (.eqd ?_) .nil))));all_goals (rfl))
  try simp only[Q,Int.natCast_inj,xac] at h2p
  exfalso;contradiction;try simp only[Q,Int.natCast_inj,xac] at h1p
  focus (exfalso;omega)
 ·rw[e2 h0 h1] at hmu;clear e0 e1 e2 hd;generalize rnL e=z at *;refine bd Tryz.f80 37 [] [] fun w0 F0 own kept hk=>?_;refine ab 3003 tz25 ?_;refine ev ?_;refine Walk.call (cr:=[900]) zqy (hop) rfl .none rfl rfl (LeL.refl _) trivial rfl (by rfl) (by rfl) ?_;refine ev ?_;refine Walk.call (cr:=[1]) zqX (hty) rfl .none rfl rfl (LeL.refl _) ⟨rfl,trivial⟩ rfl rfl rfl ?_;refine ev ?_;refine ab 3007 tz25 ?_;refine ab 3009 tz44 ?_;refine ev ?_;refine so ty25 ?_;refine ev ?_;refine so ty44 ?_;refine tv ?_;refine sq ?_ ?_<;>intro h1 h1p h1s;refine Walk.call (cr:=[]) zce (hpk) rfl (.some rfl rfl h1) rfl rfl (LeL.refl _) ⟨rfl,trivial⟩ rfl rfl rfl ?_;refine evs [] [(22,true)] ?_ ⟨⟨_,rfl,h1⟩,trivial⟩;refine sq ?_ ?_<;>intro h2 h2p h2s;try simp only[Q,Int.natCast_inj,xac] at h2p
  exfalso;contradiction;refine Walk.call (cr:=[]) zqY (hmu) rfl .none rfl rfl (.cons (.refl _) (.cons (.gl _ _) .nil)) ⟨rfl,trivial⟩ rfl rfl rfl ?_;refine evd [] [] ?_;refine so ty25 ?_;refine evd [] [] ?_;refine dr ?_;focus (refine rn0 (.cons (.tmp rfl) (.cons (.cellA ty25 rfl rfl rfl) (.cons (.tmp rfl) .nil))) (.tup (.cons (.eqd ?_) (.cons (.agg (.cons (.eqd ?_) (.cons (.eqd ?_) .nil))) (.cons (.eqd ?_) .nil))));all_goals (rfl))
  try simp only[Q,Int.natCast_inj,xac] at h1p
  focus (exfalso;omega)
theorem zkJ {f:Pat->Int->Nat->Pat×Int×Nat}:∀(l:List Pat) (m:Int) (q:Nat),(∀x∈l,∀m q,0<=m->m<=6->m<=(f x m q).2.1/\(f x m q).2.1<=6/\((f x m q).2.1=m->(f x m q).1=x))->0<=m->m<=6->m<=(namL f l m q).2.1/\((namL f l m q).2.1=m->(namL f l m q).1=l)
 | [],m,q,_,_,_=>⟨Int.le_refl _,fun _=>rfl⟩
 |x::r,m,q,h,h0,h6=>by
  obtain⟨a1,a2,a3⟩:=h x (by simp) m q h0 h6;obtain⟨b1,b2⟩:=zkJ r (f x m q).2.1 (f x m q).2.2 (fun y hy=>h y (by simp[hy])) (by omega) a2;simp only[namL];refine⟨by omega,fun e=>?_⟩;rw[a3 (by omega),b2 (by omega)]
theorem zrL {b:Str}:∀(n:Nat) (p:Pat) (m:Int) (q:Nat),0<=m->m<=6->(namP b n p m q).2.1=m->(namP b n p m q).1=p
 |0,p,m,q,_,_,_=>rfl
 |n+1,p,m,q,h0,h6,e=>by
  by_cases c1:5<m\/p.op=5\/p.op=3
  ·rw[znH c1]
  by_cases c2:p.op=1/\zan b q 2=0
  ·rw[znI c1 c2] at e;dsimp only at e;omega
  have hL:=zkJ (f:=namP b n) p.kids m (if p.op=1 then q+1 else q) (fun x _ m q h0 h6=>by
   have h:=zi1 (b:=b) n x m q h0 h6;exact⟨h.1,h.2.1,zrL n x m q h0 h6⟩) h0 h6
  generalize hz:namL (namP b n) p.kids m (if p.op=1 then q+1 else q)=z at hL;obtain⟨ks,zm,zq⟩:=z;dsimp only at hL;by_cases c3:zm<=5
  ·by_cases c4:zan b zq 6=0
   ·rw[znJ c1 c2 hz.symm c3 c4] at e;dsimp only at e;omega
   ·rw[znK c1 c2 hz.symm c3 c4] at e ⊢;dsimp only at e ⊢;rw[hL.2 e];cases p;rfl
  ·rw[znL c1 c2 hz.symm c3] at e ⊢;dsimp only at e ⊢;rw[hL.2 e];cases p;rfl
theorem zxk {d:Nat}{p:Pat} (h:Dr d p):p.op≠2/\p.op≠6/\∀k∈p.kids,∃e,Dr e k:=by
 cases d with
 |zero=>rw[show p=anyQ from h];exact⟨by decide,by decide,fun k hk=>by simp[zaL] at hk⟩
 |succ d=>
  rcases h with h|⟨h1,h2⟩|⟨h1,h2,h3⟩|⟨h1,h2⟩
  ·rw[h];exact⟨by decide,by decide,fun k hk=>by simp[zaL] at hk⟩
  ·exact⟨by omega,by omega,fun k hk=>by rw[h2] at hk;simp at hk⟩
  ·exact⟨by omega,by omega,fun k hk=>⟨d,h3 k hk⟩⟩
  ·exact⟨by omega,by omega,fun k hk=>⟨d,h2 k hk⟩⟩
theorem zjM {f:Ty->Pat->List Vt}:∀(a:List Ty) (b:List Pat),(∀t,∀k∈b,f t k=[])->zaX f a b=[]
 | [],_,_=>by simp[zaX]
 |_::_,[],_=>by simp[zaX]
 |t::a,k::b,h=>by
  rw[zaX,h t k (by simp),zjM a b (fun t x hx=>h t x (by simp[hx])),List.nil_append]
theorem zsY {w:List Data}:∀(n:Nat){d:Nat}{t:Ty}{p:Pat},Dr d p->zaC w n t p=[]
 |0,_,_,_,_=>rfl
 |n+1,d,t,p,h=>by
  obtain⟨h1,h2,h3⟩:=zxk h;rw[zaC,zjM _ _ (fun t k hk=>by obtain⟨e,he⟩:=h3 k hk;exact zsY n he)];unfold zaR;rw[if_neg (by omega)];rfl
theorem zvD (b:Str) (w:List Data) (t:Ty) (q:Nat) (h6:(zbk b w t q).op=6) (h0:(zbk b w t q).var=0):∃d,Dr d (nth (zbk b w t q).kids 0):=by
 unfold zbk at *;split at h6
 ·rename_i hp;rw[if_pos hp] at h0;rw[if_pos hp];have h4:=num4 b q;have hd:Dr 3 (zaF b w (numV b q [3,2,4,1]).toNat t (q+1)).1:=by
   rcases hn:(numV b q [3,2,4,1]).toNat with _|d
   ·exact Dr.any 3
   ·exact Dr.le (by omega) (zoE (b:=b) (w:=w) d t (q+1)).1
  clear hp;unfold zco at *;generalize (zaF b w (numV b q [3,2,4,1]).toNat t (q+1))=z0 at *;obtain⟨p0,q0⟩:=z0;dsimp only at *;have hop:=zxk hd;have hs:=Pat.size_eq p0;obtain⟨n,hn⟩:∃n,p0.size=n+1:=⟨p0.size-1,by omega⟩;rw[hn] at h6 h0 ⊢;by_cases c1:5<(0:Int)\/p0.op=5\/p0.op=3
  ·rw[znH c1] at h6;exact absurd h6 hop.2.1
  by_cases c2:p0.op=1/\zan b q0 2=0
  ·rw[znI c1 c2] at h6;exact absurd h6 (by show ¬(2:Int)=6;decide)
  have hL:=zkJ (f:=namP b n) p0.kids 0 (if p0.op=1 then q0+1 else q0) (fun x _ m q h0 h6=>by
   have h:=zi1 (b:=b) n x m q h0 h6;exact⟨h.1,h.2.1,zrL n x m q h0 h6⟩) (by omega) (by omega)
  generalize hz:namL (namP b n) p0.kids 0 (if p0.op=1 then q0+1 else q0)=z at hL;obtain⟨ks,zm,zq⟩:=z;dsimp only at hL;by_cases c3:zm<=5
  ·by_cases c4:zan b zq 6=0
   ·rw[znJ c1 c2 hz.symm c3 c4] at h0 ⊢;have e:zm=0:=h0;refine⟨3, ?_⟩;show Dr 3 (.mk p0.op p0.ctor p0.n p0.m p0.var ks)
    rw[hL.2 e];have:Pat.mk p0.op p0.ctor p0.n p0.m p0.var p0.kids=p0:=by cases p0;rfl
    rw[this];exact hd
   ·rw[znK c1 c2 hz.symm c3 c4] at h6;exact absurd h6 hop.2.1
  ·rw[znL c1 c2 hz.symm c3] at h6;exact absurd h6 hop.2.1
 ·exact absurd h6 (by show ¬(1:Int)=6;decide)
theorem zvi {w:List Data}{t:Ty}{c n m v:Int}{k:Pat} (h:isP w t (.mk 5 c n m v [k,zbo])=true) (hz:v=0->∃d,Dr d k):False:=by
 unfold isP at h;simp only[xad] at h;obtain⟨h1,_,h3⟩:=h;unfold zaq at h1;rw[xad] at h1;have ho:=h1.1;unfold ownP at ho;have hv:v=0:=(of_decide_eq_true ho).2.1 (by show ¬((5:Int)=2\/(5:Int)=6);omega);obtain⟨d,hd⟩:=hz hv;unfold linP at h3;rw[xad,if_pos (show(Pat.mk 5 c n m v [k,zbo]).op=5 from rfl)] at h3;have h4:=h3.2;have e1:zaC w 9 t (nth (Pat.mk 5 c n m v [k,zbo]).kids 0)=[]:=zsY 9 hd;have e2:zaC w 9 t (nth (Pat.mk 5 c n m v [k,zbo]).kids 1)=[⟨0,t⟩]:=by
  show zaC w 9 t zbo=_
  rw[zaC,show zaX (zaC w 8) (zcK w t zbo) zbo.kids=[] from zjM _ _ (fun t k hk=>by simp[zbo,Pat.kids] at hk)];rfl
 rw[e1,e2] at h4;simp[zdn] at h4
section
variable {w:List Data}{t:Ty}
theorem zxY {b:Str}{p:Pat}{q q2:Nat} (hr:RootOk p) (hz:p.op=6->p.var=0->∃d,Dr d (nth p.kids 0)) (hv:isP w t (mutP b (mutP b p q).1 q2).1=true):RootOk (mutP b (mutP b p q).1 q2).1:=by
 have hs:zaq w 10 t (mutP b (mutP b p q).1 q2).1=true:=by unfold isP at hv;rw[xad] at hv;exact hv.1
 have hva:zav zbo=anyQ:=(zbi _).trans (if_pos rfl);have two:∀ {x:Pat},zaq w 10 t x=true->(x.op=1\/x.op=2\/x.op=3)->x.kids=[]:=fun h ho=>zd5 h (by omega) (by omega) (by omega);have one1:∀ {x:Pat},(∀k∈x.kids,Dr 2 (zav k))->∀k∈(mutP b x q2).1.kids,Dr 2 (zav k):=fun {x} hx=>by
  unfold mutP;split;exact hx
  split;exact hx
  split;exact hx
  split
  ·intro k hk;rw[zaL] at hk;rcases List.mem_append.1 hk with hk|hk
   ·exact hx k hk
   ·rw[List.mem_singleton.1 hk,hva];exact Dr.any 2
  split
  ·intro k hk;rw[zaL] at hk;rcases List.mem_or_eq_of_mem_set hk with hk|rfl
   ·exact hx k hk
   ·rw[hva];exact Dr.any 2
  split;exact hx
  exact hx
 have one0:∀ {x:Pat} {q},(∀k∈x.kids,Dr 2 (zav k))->∀k∈(mutP b x q).1.kids,Dr 2 (zav k):=fun {x q} hx=>by
  unfold mutP;split;exact hx
  split;exact hx
  split;exact hx
  split
  ·intro k hk;rw[zaL] at hk;rcases List.mem_append.1 hk with hk|hk
   ·exact hx k hk
   ·rw[List.mem_singleton.1 hk,hva];exact Dr.any 2
  split
  ·intro k hk;rw[zaL] at hk;rcases List.mem_or_eq_of_mem_set hk with hk|rfl
   ·exact hx k hk
   ·rw[hva];exact Dr.any 2
  split;exact hx
  exact hx
 rcases hr with hr|⟨h6,h1,h2⟩
 ·exact .inl (one1 (one0 hr))
 ·have keep:∀c n m v:Int,RootOk (.mk p.op c n m v p.kids):=fun c n m v=> .inr ⟨h6,h1,h2⟩;match hkk:p.kids,h1 with
  | [k],_=>
  have hk0:nth p.kids 0=k:=by rw[hkk];rfl
  rw[hk0] at hz;have vset:∀(l:List Pat) (x:Pat),(∀y∈l,y=zbo)->∀y∈l,Dr 2 (zav y):=fun l x h y hy=>by rw[h y hy,hva];exact Dr.any 2
  have set1:∀y∈[k].set 0 zbo,y=zbo:=fun y hy=>by simpa using hy

  have first:RootOk (mutP b p q).1/\(∀x∈(mutP b p q).1.kids,Dr 2 (zav x))\/((mutP b p q).1.op=6/\(mutP b p q).1.kids=[k]/\RootOk (mutP b p q).1)\/
    ((mutP b p q).1.kids=[k]/\(mutP b p q).1.var=p.var/\((mutP b p q).1.op=0\/(mutP b p q).1.op=7\/(mutP b p q).1.op=1\/(mutP b p q).1.op=2\/(mutP b p q).1.op=5))\/
    ((mutP b p q).1.op=6/\(mutP b p q).1.kids=[k,zbo]/\(mutP b p q).1.var=p.var):=by
   have hm:=zfg (b:=b) (p:=q+1) (l:=[0,7,1,2,5]) (by simp);simp only[List.mem_cons,List.not_mem_nil,or_false] at hm;unfold mutP;split
   ·exact .inr (.inr (.inl ⟨hkk,rfl,by simp only[zby];exact hm⟩))
   split;exact .inr (.inl ⟨h6,hkk,keep _ _ _ _⟩)
   split;exact .inr (.inl ⟨h6,hkk,keep _ _ _ _⟩)
   split
   ·exact .inr (.inr (.inr ⟨h6,by simp only[zaL];rw[hkk];rfl,rfl⟩))
   split
   ·have hall:∀x∈p.kids.set 0 zbo,Dr 2 (zav x):=by rw[hkk];exact vset _ k set1
    exact .inl ⟨.inl hall,hall⟩
   split;exact .inr (.inl ⟨h6,hkk,keep _ _ _ _⟩)
   exact .inr (.inl ⟨h6,hkk,keep _ _ _ _⟩)
  generalize (mutP b p q).1=p1 at *;rcases first with ⟨_,hall⟩|⟨_,_,hro⟩|⟨a1,a2,a3⟩|⟨a1,a2,a3⟩
  ·exact .inl (one1 hall)
  ·exact zwn hro hs
  ·unfold mutP at hs hv ⊢;have kill1:∀o c n m v:Int,(o=0\/o=7\/o=1\/o=2\/o=5)->zaq w 10 t (.mk o c n m v p1.kids)=true->False:=fun o c n m v ho h=>by
    have hop:=zdb h;rw[zby] at hop;by_cases h5:o=5
    ·have:=(zdV h h5).1;rw[zaL,a1] at this;simp at this
    ·have:=two h (by rw[zby];omega);rw[zaL,a1] at this;simp at this
   have hm:=zfg (b:=b) (p:=q2+1) (l:=[0,7,1,2,5]) (by simp);simp only[List.mem_cons,List.not_mem_nil,or_false] at hm;split
   ·rename_i e;rw[if_pos e] at hs;exact(kill1 _ _ _ _ _ hm hs).elim
   rename_i e0;rw[if_neg e0] at hs hv;split
   ·rename_i e;rw[if_pos e] at hs;exact(kill1 _ _ _ _ _ a3 hs).elim
   rename_i e1;rw[if_neg e1] at hs hv;split
   ·rename_i e;rw[if_pos e] at hs;exact(kill1 _ _ _ _ _ a3 hs).elim
   rename_i e2;rw[if_neg e2] at hs hv;split
   ·rename_i e;rw[if_pos e] at hs hv;exfalso;have hop:=zdb hs;rw[zby] at hop;by_cases h5:p1.op=5
    ·rw[h5,a1,a2] at hv;exact zvi hv (fun h0=>hz h6 h0)
    ·have:=two hs (by rw[zby];omega);rw[zaL,a1] at this;simp at this
   rename_i e3;rw[if_neg e3] at hs hv;split
   ·exact .inl (by rw[zaL,a1];exact vset _ k set1)
   rename_i e4;rw[if_neg e4] at hs hv;split
   ·rename_i e;rw[if_pos e] at hs;exact(kill1 _ _ _ _ _ a3 hs).elim
   rename_i e5;rw[if_neg e5] at hs hv;exact(kill1 _ _ _ _ _ a3 hs).elim
  ·unfold mutP at hs hv ⊢;have kill6:∀c n m v:Int,zaq w 10 t (.mk p1.op c n m v p1.kids)=true->False:=fun c n m v h=>by
    have:=(zdx h (by rw[zby];exact a1)).1;rw[zaL,a2] at this;simp at this
   have hm:=zfg (b:=b) (p:=q2+1) (l:=[0,7,1,2,5]) (by simp);simp only[List.mem_cons,List.not_mem_nil,or_false] at hm;split
   ·rename_i e;rw[if_pos e] at hs hv;exfalso;have hop:=zdb hs;rw[zby] at hop;by_cases h5:numV b (q2+1) [0,7,1,2,5]=5
    ·rw[h5,a2,a3] at hv;exact zvi hv (fun h0=>hz h6 h0)
    ·have:=two hs (by rw[zby];omega);rw[zaL,a2] at this;simp at this
   rename_i e0;rw[if_neg e0] at hs hv;split
   ·rename_i e;rw[if_pos e] at hs;exact(kill6 _ _ _ _ hs).elim
   rename_i e1;rw[if_neg e1] at hs hv;split
   ·rename_i e;rw[if_pos e] at hs;exact(kill6 _ _ _ _ hs).elim
   rename_i e2;rw[if_neg e2] at hs hv;split
   ·rename_i e;rw[if_pos e] at hs;exfalso;have:=(zdx hs (by rw[zby];exact a1)).1;rw[zaL,a2] at this;simp at this
   rename_i e3;rw[if_neg e3] at hs hv;split
   ·exact .inl (by rw[zaL,a2];exact vset _ k (fun y hy=>by simpa using hy))
   rename_i e4;rw[if_neg e4] at hs hv;split
   ·rename_i e;rw[if_pos e] at hs;exact(kill6 _ _ _ _ hs).elim
   rename_i e5;rw[if_neg e5] at hs hv;exact(kill6 _ _ _ _ hs).elim
end
theorem zq9 {b:Str}{w:List Data}{t:Ty}:∀(n q:Nat),∀c∈(clL b w t n q).1,∃q',c.pat=zbk b w t q'
 |0,q,c,hc=>by simp[clL] at hc
 |n+1,q,c,hc=>by
  unfold clL at hc;rcases List.mem_cons.1 hc with rfl|hc
  ·exact⟨q,rfl⟩
  ·exact zq9 n _ c hc
theorem zwC (b:Str):∀c∈(rnL b).1,∃q',c.pat=zbk b (zbw b 0) (typT b 0) q':=fun c hc=>by
 unfold rnL clS at hc;exact zq9 _ _ c hc
def RootZ (p:Pat):Prop:=RootOk p/\(p.op=6->p.var=0->∃d,Dr d (nth p.kids 0))
theorem zt7 (b:Str) (w:List Data) (t:Ty) (q:Nat):RootZ (zbk b w t q):=⟨zvC _ _ _ _,fun h6 h0=>zvD b w t q h6 h0⟩
theorem zph:RootZ anyC.pat:=⟨.inl fun k hk=>by simp[anyC,Pat.kids] at hk,fun h=>absurd h (by decide)⟩
theorem zv7 (b:Str):∀c∈(dmL b).1,RootZ c.pat:=by
 have h:∀c∈(rnL b).1,RootZ c.pat:=fun c hc=>by
  obtain⟨q,e⟩:=zwC b c hc;rw[e];exact zt7 _ _ _ _
 unfold dmL;split
 ·exact h
 ·split
  ·intro c hc;rcases List.mem_append.1 hc with hc|hc
   ·exact h c hc
   ·rw[List.mem_singleton.1 hc];exact zph
  ·exact h
theorem zv6 (b:Str){w:List Data}{t:Ty}:∀c∈dmC b,isP w t c.pat=true->RootOk c.pat:=by
 have h:=zv7 b;unfold dmC;generalize (dmL b).1=l at *;generalize (dmL b).2=q;unfold mutC;split
 ·cases l with
  |nil=>intro c hc;simp at hc
  |cons y r=>
   intro c hc _;rcases List.mem_cons.1 hc with rfl|hc
   ·exact(h y (by simp)).1
   ·exact(h c (by simp[hc])).1
 split
 ·cases l with
  |nil=>intro c hc;simp at hc
  |cons y r=>
   intro c hc hp;rcases List.mem_cons.1 hc with rfl|hc
   ·exact zxY (h y (by simp)).1 (h y (by simp)).2 hp
   ·exact(h c (by simp[hc])).1
 split
 ·intro c hc _;rcases List.mem_append.1 hc with hc|hc
  ·exact(h c hc).1
  ·rw[List.eq_of_mem_replicate hc];exact zph.1
 ·exact fun c hc _=>(h c hc).1
theorem zxN {w:List Data} (hs:WSmall w) (hn:zhx w=true){a k:Int}{l:List Cl} (hl:ClsOk l) (hr:∀c∈l,isP w ⟨a,k⟩ c.pat=true->RootOk c.pat) (hv:za4 w ⟨a,k⟩ l=true):FewC w ⟨a,k⟩ l:=fun c hc hp res h=>by
 obtain⟨hsp,hin,hsh,_⟩:=zgw hs hl hv;have h1:=(hsh c hc).1;cases ho:zbm c.pat with
 |true=>
  have e1:zbp c.pat=zau (zav c.pat):=by unfold zbp;rw[if_pos (by unfold zbm at ho;exact of_decide_eq_true ho)]
  have h2:=ze1 h1;rw[e1] at h h2;exact zwa hsp hn hin (zvv (hr c hc hp) h1) h2 h
 |false=>
  have e1:zbp c.pat=[]:=by unfold zbp;rw[if_neg (by unfold zbm at ho;exact of_decide_eq_false ho)]
  rw[e1] at h;rw[sepV,sepQ] at h;cases h;simp
def rpI (b:Str):Int:=numV b 0 [1,0,2,3,-1,9]
theorem zgL {b:Str} (hb:b.length<=1000000000000):
  FnD Tryz.prog 42 [.d (zcx b)] [] (.tup [.d (zal (rcW (b.take 2000))),.agg [.d (.i (rcT (b.take 2000)).data),.d (.i (rcT (b.take 2000)).index)],.d (zbZ (dmC (b.take 2000))),.d (.i (rpI (b.take 2000)))]) []:=by
 have hop:=zir hb;have hdm:=zgK hb;have hb2:(b.take 2000).length<=2000:=by rw[List.length_take];omega
 generalize b.take 2000=e at *;have hnu:=zbL (b:=e) (p:=0) (l:=[1,0,2,3,-1,9]) hb2 (by omega) (by simp) (by simp);refine bd Tryz.f42 22 [] [] fun w0 F0 own kept hk=>?_;refine ab 3003 tz25 ?_;refine ev ?_;refine wc zzH (hdm) rfl rfl ?_;refine ev ?_;refine ab 3007 tz25 ?_;refine ev ?_;refine so ty25 ?_;refine ev ?_;refine Walk.call (cr:=[900]) zqy (hop) rfl .none rfl rfl (LeL.refl _) trivial rfl (by first|rfl|(simp only[za8,List.all_cons,List.all_nil,zcf,zbU,AV.idsL,AV.ids,zak,zaj,xae,List.map_nil];rfl)) (by first|rfl|(simp only[zaA,occH,occE,Res.ids,xag,List.nil_append,AV.idsL,AV.ids,zak,zaj,zas,zaQ,xae,List.map_nil,upC];rfl)) ?_;refine si [0,1,2,3,4,5] [_,_,_,_,_,_] sl62 tz3 ?_;refine wd zeK (hnu) rfl rfl ⟨rfl,trivial⟩ ?_;refine evd [] [] ?_;refine so ty25 ?_;refine evd [] [] ?_;refine dr ?_;refine rn0 (.cons (.tmp rfl) (.cons (.cellA ty25 rfl rfl rfl) (.cons (.tmp rfl) (.cons (.tmp rfl) .nil)))) (.tup (.cons (.eqd ?_) (.cons (.agg (.cons (.eqd ?_) (.cons (.eqd ?_) .nil))) (.cons (.eqd ?_) (.cons (.eqd ?_) .nil)))));rotate_left 5;all_goals (rfl)
theorem zmI {w:List Data}{a k:Int}{v:Val}{l:List Cl}{s:Nat} (h:s<l.length):(l.take (s+1)).any (zez w a k v)=((l.take s).any (zez w a k v)||((zbt w a k (nth l s).pat v).2&&decide ((nth l s).g.op=0))):=by
 rw[List.take_succ_eq_append_getElem h,<-zaM h,List.any_append,List.any_cons,List.any_nil,Bool.or_false];rfl
theorem zg9 {b c:Str} (hb:b.length<=1000000000000) (hcl:c.length<=1000000000000):FnD Tryz.prog 14 [.d (zcx b),.d (zcx c)] [] (.d (.bool true)) []:=by
 have hdr:=zgL hb;have hs:WSmall (rcW (b.take 2000)):=(ziB (b.take 2000) 0).small;have hn:=zqt (b.take 2000) 0;rw[show zbw (b.take 2000) 0=rcW (b.take 2000) from rfl] at hn;have hl:=zxK (b.take 2000);have hfew:=zxN hs hn (a:=(rcT (b.take 2000)).data) (k:=(rcT (b.take 2000)).index) hl.1 (zv6 (b.take 2000));generalize rcW (b.take 2000)=w at *;generalize (rcT (b.take 2000)).data=a at *;generalize (rcT (b.take 2000)).index=k at *;generalize dmC (b.take 2000)=l at *;generalize rpI (b.take 2000)=i at *;have hi:=zh3 hs (a:=a) (k:=k) (i:=i) hl.1 hfew;have hsp:=zh6 hs (a:=a) (k:=k) (i:=i) hl.1 hl.2 hfew;cases hm:zcv w a k l i with
 |none=>
  rw[hm] at hi hsp;refine bd Tryz.f14 149 [54,67] [] fun w0 F0 own kept hk=>?_;refine sq ?_ ?_<;>intro h1 h1p h1s;refine sqT ?_;refine rq ?_;rotate_left;refine sq ?_ ?_<;>intro h3 h3p h3s;refine rq ?_;rotate_left;refine wc zwX (hdr) rfl rfl ?_;refine evs [54,67] [] ?_;refine ab 3006 tz25 ?_;refine evs [54,67] [] ?_;refine so ty25 ?_;refine evs [54,67] [] ?_;refine wc zwY (hi) rfl rfl ?_;refine evs [54,67] [] ?_;refine wc zwZ (hsp) rfl rfl ?_;refine evs [54,67] [] ?_;refine Walk.neB un4 .none rfl rfl rfl ?_;refine evs [54,67] [] ?_;refine sq ?_ ?_<;>intro h4 h4p h4s;refine sqT ?_;refine sqT ?_;refine Walk.eqB un4 .none rfl rfl rfl ?_;refine evs [54,67] [] ?_;refine sq ?_ ?_<;>intro h6 h6p h6s;refine Walk.call (cr:=[]) zmX (zck (l:=[]) (by simp) (by simp)) rfl (.some rfl rfl h6) rfl rfl (LeL.refl _) trivial rfl rfl rfl ?_;refine evs [54,67] [(68,true)] ?_ ⟨⟨_,rfl,h6⟩,trivial⟩;refine rq ?_;rotate_left;refine rq ?_;rotate_left;refine Walk.call (cr:=[]) zmX (zck (l:=[]) (by simp) (by simp)) rfl (.some rfl rfl h4) rfl rfl (LeL.refl _) trivial rfl rfl rfl ?_;refine evs [54,67] [(55,false)] ?_ ⟨⟨_,rfl,h4⟩,trivial⟩;refine sq ?_ ?_<;>intro h7 h7p h7s;refine sqT ?_;refine Walk.eqB un4 .none rfl rfl rfl ?_;refine evs [54,67] [] ?_;refine sq ?_ ?_<;>intro h9 h9p h9s;refine Walk.call (cr:=[]) zmX (zck (l:=[]) (by simp) (by simp)) rfl (.some rfl rfl h9) rfl rfl (LeL.refl _) trivial rfl rfl rfl ?_;refine evs [54,67] [(68,true)] ?_ ⟨⟨_,rfl,h9⟩,trivial⟩;refine rq ?_;rotate_left;refine rq ?_;rotate_left;refine sq ?_ ?_<;>intro h10 h10p h10s;refine Walk.eqB un4 .none rfl rfl rfl ?_;refine evs [54,67] [] ?_;refine sq ?_ ?_<;>intro h11 h11p h11s;refine Walk.call (cr:=[]) zmX (zck (l:=[]) (by simp) (by simp)) rfl (.some rfl rfl h11) rfl rfl (LeL.refl _) trivial rfl rfl rfl ?_;refine evs [54,67] [(68,true)] ?_ ⟨⟨_,rfl,h11⟩,trivial⟩;refine rq ?_;rotate_left;refine rq ?_;rotate_left;focus (exfalso;contradiction)
  all_goals (first|rfl|contradiction)
 |some z=>
  obtain⟨hz1,hz2,hsa,hin,h0,h1⟩:=zwA hs hl.1 hfew hm;rw[hm] at hi hsp;have hmod:0<=((c.map ze3).length:Int) % 3/\((c.map ze3).length:Int) % 3<=2:=by omega
  have hvu:=zkz hs (a:=a) (k:=k) (m:=1+((c.map ze3).length:Int) % 3);have hvl:=zye w ⟨a,k⟩ (1+((c.map ze3).length:Int) % 3);have hvok:=zzx hs ⟨a,k⟩ (1+((c.map ze3).length:Int) % 3);have hlaw:∀v∈(vut w ⟨a,k⟩ (1+((c.map ze3).length:Int) % 3)).1,z.countP (fun x=>(zbt w a k x v).2)=one ((zbt w a k (nth l i.toNat).pat v).2&& !(l.take i.toNat).any (zez w a k v)):=fun v hv=>zvp hs hl.1 hm (zyd hsa hin (by omega) hv).1;generalize (vut w ⟨a,k⟩ (1+((c.map ze3).length:Int) % 3)).1=vs at *;have hl1:=hl.1.1;obtain⟨n,rfl⟩:=Int.eq_ofNat_of_zero_le h0;rw[show((n:Int)).toNat=n from rfl] at hlaw;have hnl:n<l.length:=by omega
  clear hm hfew hn;refine bd Tryz.f14 149 [54,78,148] [] fun w0 F0 own kept hk=>?_;refine sq ?_ ?_<;>intro h1 h1p h1s;refine sqT ?_;refine rq ?_;rotate_left;refine sq ?_ ?_<;>intro h3 h3p h3s;refine rq ?_;rotate_left;refine wc zwX (hdr) rfl rfl ?_;refine evs [54,78,148] [] ?_;refine ab 3006 tz25 ?_;refine evs [54,78,148] [] ?_;refine so ty25 ?_;refine evs [54,78,148] [] ?_;refine wc zwY (hi) rfl rfl ?_;refine evs [54,78,148] [] ?_;refine wc zwZ (hsp) rfl rfl ?_;refine evs [54,78,148] [] ?_;refine Walk.neB un4 .none rfl rfl rfl ?_;refine evs [54,78,148] [] ?_;refine sq ?_ ?_<;>intro h4 h4p h4s;refine sqT ?_;refine sqT ?_;focus (exfalso;contradiction)
  refine Walk.call (cr:=[]) zmX (zck (l:=z) (by omega) hz2) rfl (.some rfl rfl h4) rfl rfl (LeL.refl _) trivial rfl rfl rfl ?_;refine evs [54,78,148] [(55,false)] ?_ ⟨⟨_,rfl,h4⟩,trivial⟩;refine sq ?_ ?_<;>intro h6 h6p h6s;refine sqT ?_;focus (exfalso;contradiction)
  refine sq ?_ ?_<;>intro h8 h8p h8s;focus (exfalso;contradiction)
  refine xbg .none rfl rfl rfl (by omega) ?_;refine evs [54,78,148] [] ?_;refine ar ?_;refine wc zzy (hvu) rfl rfl ?_;refine evs [54,78,148] [] ?_;refine xak (ι:=List (Val)×List (Val)) hk (fun x=>[(15,.d (.i (x.1.length:Int)))]) [4,16,17,18,19,20,83,84,85,86,87,88,89,90,91,92,93,94,95,96,97,98,99,100,101,102,103,104,105,106,107,108,109,110,111,112,113,114,115,116,117,118,119,120,121,122,123,124,125,126,127,128,129,130,131,132,133,134,135,136,137,138,139,140,141,142,143,144,145,146,147,148] (fun x=>[]) (fun x=>x.1++x.2=vs) (fun x=>x.2.length) ([],vs) (by simp) ⟨⟨_,rfl,xaq ?_⟩,trivial⟩ trivial (fun x=>rfl) (fun x hg1=>?_);focus (rfl)
  obtain⟨pre,rest⟩:=x;dsimp only at hg1 ⊢;refine evc [54,78,148] [] ?_;refine sq ?_ ?_<;>intro h9 h9p h9s<;>(try simp only[Q,Int.natCast_inj,Val.cs_len,Pat.cs_len] at h9p);rcases rest with _|⟨v,rest⟩
  ·exfalso;simp_all
  refine xaV (i:=n) sl59 .none rfl rfl rfl rfl (zar (by omega)) rfl ?_;refine evd [54,78,148] [] ?_;refine xaV sl37 .none rfl rfl rfl rfl (Val.cs_at hg1) rfl ?_;refine evd [54,78,148] [] ?_;refine wc ztB (zd0 hs (hl.1.2 _ (zac hnl)) (hvok v (by rw[<-hg1];simp))) rfl rfl ?_;refine evd [54,78,148] [] ?_;refine dr ?_;refine xak (ι:=Nat) hk (fun s=>[(18,.d (.i (s:Int))),(17,.d (.bool ((zbt w a k (nth l n).pat v).2&& !(l.take s).any (zez w a k v))))]) [19,20,104,105,106,107,108,109,110,111,112,113,114,115,116,117,118,119,120,121,122,123,124,125,126,127,128,129,130,131,132,133,134,135,136,137] (fun s=>[]) (fun s=>s<=n) (fun s=>n-s) 0 (by omega) ⟨⟨_,rfl,xaq ?_⟩,⟨⟨_,rfl,xap ?_⟩,trivial⟩⟩ trivial (fun x=>rfl) (fun s hg2=>?_);iterate 2 focus ((simp;done))
  refine evc [54,78,148] [] ?_;refine sq ?_ ?_<;>intro h10 h10p h10s<;>(try simp only[Q,Int.natCast_inj,Val.cs_len,Pat.cs_len] at h10p);refine xaV sl59 .none rfl rfl rfl rfl (zar (by omega)) rfl ?_;refine evd [54,78,148] [] ?_;refine xaV sl37 .none rfl rfl rfl rfl (Val.cs_at hg1) rfl ?_;refine evd [54,78,148] [] ?_;refine wc ztB (zd0 hs (hl.1.2 _ (zac (i:=s) (by omega))) (hvok v (by rw[<-hg1];simp))) rfl rfl ?_;refine evd [54,78,148] [] ?_;refine dr ?_;refine sq ?_ ?_<;>intro h11 h11p h11s<;>(try simp only[Q,Int.natCast_inj,Val.cs_len,Pat.cs_len] at h11p);refine sq ?_ ?_<;>intro h12 h12p h12s<;>(try simp only[Q,Int.natCast_inj,Val.cs_len,Pat.cs_len] at h12p);refine ar ?_;refine xah (s+1) ⟨(by omega),(by omega),sx ⟨⟨_,rfl,xaq ?_⟩,⟨⟨_,rfl,xap ?_⟩,trivial⟩⟩ trivial⟩;iterate 2 focus (first|rfl|(rw[zmI (by omega)];clear hlaw hi hsp hdr hvu hvok;generalize (zbt w a k (nth l n).pat v).2=x1 at *;generalize (l.take s).any (zez w a k v)=x2 at *;generalize (zbt w a k (nth l s).pat v).2=x3 at *;simp_all;done))
  refine xaV sl59 (.some rfl rfl h12) rfl rfl rfl rfl (zar (by omega)) rfl ?_;refine evs [54,78,148] [(125,true),(128,false)] ?_ ⟨⟨_,rfl,h11⟩,⟨_,rfl,h12⟩,trivial⟩;refine ar ?_;refine xah (s+1) ⟨(by omega),(by omega),sx ⟨⟨_,rfl,xaq ?_⟩,⟨⟨_,rfl,xap ?_⟩,trivial⟩⟩ trivial⟩;iterate 2 focus (first|rfl|(rw[zmI (by omega)];clear hlaw hi hsp hdr hvu hvok;generalize (zbt w a k (nth l n).pat v).2=x1 at *;generalize (l.take s).any (zez w a k v)=x2 at *;generalize (zbt w a k (nth l s).pat v).2=x3 at *;simp_all;done))
  refine ar ?_;refine xah (s+1) ⟨(by omega),(by omega),sx ⟨⟨_,rfl,xaq ?_⟩,⟨⟨_,rfl,xap ?_⟩,trivial⟩⟩ trivial⟩;iterate 2 focus (first|rfl|(rw[zmI (by omega)];clear hlaw hi hsp hdr hvu hvok;generalize (zbt w a k (nth l n).pat v).2=x1 at *;generalize (l.take s).any (zez w a k v)=x2 at *;generalize (zbt w a k (nth l s).pat v).2=x3 at *;simp_all;done))
  refine xaV sl37 .none rfl rfl rfl rfl (Val.cs_at hg1) rfl ?_;refine evd [54,78,148] [] ?_;refine wc zzz (zlA hs (l:=z) (by omega) hz2 (hvok v (by rw[<-hg1];simp))) rfl rfl ?_;refine evd [54,78,148] [] ?_;refine Walk.neB un4 .none rfl rfl rfl ?_;refine dr ?_;refine sq ?_ ?_<;>intro h13 h13p h13s<;>(try simp only[Q,Int.natCast_inj,Val.cs_len,Pat.cs_len] at h13p);focus (exfalso;have hsn:s=n:=(by omega);subst hsn;have hlw:=hlaw v (by rw[<-hg1];simp);generalize List.countP (fun x=>(zbt w a k x v).2) z=nn at *;generalize ((zbt w a k (nth l s).pat v).2&& !(l.take s).any (zez w a k v))=bb at *;cases bb<;>simp[one] at hlw<;>(simp_all;done))
  refine ar ?_;refine xah ((pre++[v],rest)) ⟨(by have hz:=hg1;rw[<-hz];simp),(by simp),sx ⟨⟨_,rfl,xaq ?_⟩,trivial⟩ trivial⟩;focus ((simp;done))
  have hrest:rest=[]:=by
   rcases rest with _|⟨a,b⟩
   ·rfl
   ·exfalso;have hz:=congrArg List.length (hg1);simp only[xaa,xab,xac] at hz;omega
  subst hrest;refine rq ?_;rotate_left;all_goals (rfl)
end Go.Proofs.YtpgdedpljcedpaaGreat
namespace Go.Proofs.YtpgdedpljcedpaaGreat
open Go Go.ChangeShapes Go.WideShapes Go.ChangeAt Go.RowKit
set_option linter.unusedSimpArgs false
set_option linter.unusedVariables false
set_option linter.unusedVariables false
def FW (W:World) (b:Nat):Nat:=match W.heap[b]? with
 |some (.cells cs _ _)=>cs.size
 |_=>0
theorem FW_cell {W:World}{b o:Nat}{v:Value} (h:W.cell? ⟨b,o,none⟩=some v):o<FW W b:=by
 unfold World.cell? at h;unfold FW;simp only at h;split at h
 ·rename_i c t fr hb;simp only[hb];simp only[Option.isSome_none,Bool.false_eq_true,if_false] at h;exact(Array.getElem?_eq_some_iff.1 h).1
 ·cases h
theorem FW_top {W:World}{b:Nat} (h:W.heap.size<=b):FW W b=0:=by
 unfold FW;rw[Array.getElem?_eq_none h]
structure RelL (W:World) (xs:List D) (cs:List Value):Prop where
 len:xs.length=cs.length
 rel:∀i (h1:i<xs.length) (h2:i<cs.length),RelD (FW W) W xs[i] cs[i]
theorem RelL.append {W:World}{xs ys:List D}{cs ds:List Value} (h:RelL W xs cs) (k:RelL W ys ds):RelL W (xs++ys) (cs++ds):=by
 refine⟨by simp[h.len,k.len],fun i h1 h2=>?_⟩;by_cases hi:i<xs.length
 ·rw[List.getElem_append_left hi,List.getElem_append_left (by rw[<-h.len];exact hi)];exact h.rel i hi (by rw[<-h.len];exact hi)
 ·have hl:=h.len;rw[List.getElem_append_right (by omega),List.getElem_append_right (by omega)];have e:i-xs.length=i-cs.length:=by omega
  have h1':i-xs.length<ys.length:=by simp only[xaa] at h1;omega
  have h2':i-cs.length<ds.length:=by simp only[xaa] at h2;omega
  have:=k.rel (i-xs.length) h1' (by omega);simp only[e] at this ⊢;exact this
def Dec (P:Program) (W:World) (n:Nat) (t:TypeId){α:Type} (f:α->List D) (m:α->Nat) (R:α->Prop):Prop:=
 ∀(H:Type) (enc:TypeId×Value->H) (cs:List Value) (x:DataW H×List MemPlace),DataW.trod enc P W 0 (fun _=>true) true n t cs=some x->
  ∃a,RelL W (f a) cs/\m a+1<=Rows.uptoBulk x.1/\R a
section
variable {P:Program}{W:World}{n:Nat}{t:TypeId}
theorem Dec.zero {α:Type}{f:α->List D}{m:α->Nat}{R:α->Prop}:Dec P W 0 t f m R:=fun H enc cs x h=>by simp[DataW.trod] at h
theorem Dec.map {α β:Type}{f:α->List D}{m:α->Nat}{R:α->Prop}{f':β->List D}{m':β->Nat}{R':β->Prop} (g:α->β) (h:Dec P W n t f m R)
  (h1:∀a,f' (g a)=f a) (h2:∀a,m' (g a)<=m a) (h3:∀a,R a->R' (g a)):Dec P W n t f' m' R':=fun H enc cs x hx=>by
 obtain⟨a,q1,q2,q3⟩:=h H enc cs x hx;exact⟨g a,by rw[h1];exact q1,by have:=h2 a;omega,h3 a q3⟩
theorem RelL.one {x:D}{v:Value} (h:RelD (FW W) W x v):RelL W [x] [v]:=
 ⟨rfl,fun i h1 h2=>by
  have:i=0:=by simp at h1;omega
  subst this;exact h⟩
theorem Dec.int {k:IntKind} (ht:P.underlying t=some (.int k)):Dec P W n t (fun z:Int=>[.int k z]) (fun _=>0) (fun z=>(Lit.int k z).wf=true):=fun H enc cs x h=>by
 obtain⟨z,rfl,rfl,hw⟩:=DataW.trod_int ht h;exact⟨z,.one (.int k z),by simp[Rows.uptoBulk],hw⟩
theorem Dec.bool (ht:P.underlying t=some .bool):Dec P W n t (fun z:Bool=>[.bool z]) (fun _=>0) (fun _=>True):=fun H enc cs x h=>by
 obtain⟨z,rfl,rfl⟩:=DataW.trod_bool ht h;exact⟨z,.one (.bool z),by simp[Rows.uptoBulk],trivial⟩
theorem Dec.str (ht:P.underlying t=some .string):Dec P W n t (fun s:Str=>[.str s]) (fun s=>s.length) (fun _=>True):=fun H enc cs x h=>by
 obtain⟨s,rfl,rfl,hw⟩:=DataW.trod_string ht h;exact⟨s.data.toList,.one (by have:=RelD.str (F:=FW W) (w:=W) s.data.toList;simpa using this),by simp[Rows.uptoBulk],trivial⟩
def sumM {α:Type} (m:α->Nat):List α->Nat
 | []=>0
 |a::r=>m a+1+sumM m r
theorem zmH {α:Type} (m:α->Nat):∀l:List α,l.length<=sumM m l
 | []=>by simp[sumM]
 |a::r=>by have:=zmH m r;simp only[sumM,xab];omega
theorem zlG {α β:Type}{Q:Nat->α->β->Prop}:∀(l:List β) (o:Nat),(∀i (h:i<l.length),∃a,Q (o+i) a l[i])->∃zs:List α,zs.length=l.length/\∀i (h:i<l.length) (h':i<zs.length),Q (o+i) zs[i] l[i]
 | [],o,_=>⟨[],rfl,fun i h=>by simp at h⟩
 |b::r,o,h=>by
  obtain⟨a,ha⟩:=h 0 (by simp);obtain⟨zs,h1,h2⟩:=zlG (Q:=Q) r (o+1) (fun i hi=>by
   have:=h (i+1) (by simp;omega);rw[show o+1+i=o+(i+1) by omega];simpa using this)
  refine⟨a::zs,by simp[h1],fun i hi hi'=>?_⟩;cases i with
  |zero=>exact ha
  |succ i=>
   have:=h2 i (by simpa using hi) (by simpa using hi');rw[show o+1+i=o+(i+1) by omega] at this;simpa using this
theorem zqT {H α:Type}{m:α->Nat}:∀ {zs:List α}{xs:List (DataW H)},zs.length=xs.length->(∀i (h:i<zs.length) (h':i<xs.length),m zs[i]+1<=Rows.uptoBulk xs[i])->sumM m zs<=Rows.uptoBulkAll xs
 | [],[],_,_=>by simp[sumM,Rows.uptoBulkAll]
 |a::zs,x::xs,hl,h=>by
  have h0:=h 0 (by simp) (by simp);have ih:=zqT (m:=m) (zs:=zs) (xs:=xs) (by simpa using hl) (fun i h1 h2=>by
   have:=h (i+1) (by simp;omega) (by simp;omega);simpa using this)
  simp only[sumM,Rows.uptoBulkAll];simp only[List.getElem_cons_zero] at h0;omega
 | [],_::_,hl,_=>by simp at hl
 |_::_,[],hl,_=>by simp at hl
theorem Dec.sl {α:Type}{f:α->List D}{m:α->Nat}{R:α->Prop}{e:TypeId}{k:Nat} (ht:P.underlying t=some (.slice e)) (hc:P.cellsOf e=k+1) (hk:∀a,(f a).length=k+1) (he:Dec P W n e f m R):
  Dec P W (n+1) t (fun l:List α=>[.sl (l.map f)]) (fun l=>sumM m l) (fun l=>∀a∈l,R a):=fun H enc cs x h=>by
 rcases DataW.trod_slice ht h with ⟨rfl,rfl⟩|⟨a,len,cap,elems,rest,n',hn,rfl,rfl,_,hcap,_,hlen,hel,_,_⟩
 ·exact⟨[],.one .nil,by simp[sumM,Rows.uptoBulk],fun a h=>by simp at h⟩
 obtain rfl:n=n':=by omega
 have each:∀i (hi:i<elems.length),∃y,(∃cs,W.cells? 0 (a.add (i*(k+1))) (k+1)=some cs/\RelL W (f y) cs)/\m y+1<=Rows.uptoBulk (elems[i]).1/\R y:=by
  intro i hi;have:=hel i (by omega);rw[hc,List.getElem?_eq_getElem hi,Option.bind_eq_some_iff] at this;obtain⟨cs,h1,h2⟩:=this;obtain⟨y,h3,h4,h5⟩:=he H enc cs _ h2;exact⟨y,⟨cs,h1,h3⟩,h4,h5⟩
 obtain⟨zs,hal,has⟩:=zlG (Q:=fun i y (el:DataW H×List MemPlace)=>(∃cs,W.cells? 0 (a.add (i*(k+1))) (k+1)=some cs/\RelL W (f y) cs)/\m y+1<=Rows.uptoBulk el.1/\R y) elems 0 (fun i hi=>by simpa using each i hi);refine⟨zs,.one ?_, ?_,fun y hy=>?_⟩
 ·by_cases h0:zs=[]
  ·subst h0;have hz:len=0:=by simp at hal;omega
   subst hz;obtain⟨b,o,s⟩:=a;cases s with
   |none=>exact .sl [] 0 b o cap (fun _=>undef) (by simp) (by simp) (fun n hn=>by simp at hn) (fun i hi=>by simp at hi)
   |some s=>exact .emp b o s cap
  ·have hpos:0<zs.length:=List.length_pos_iff.2 h0;obtain⟨⟨cs0,hc0,hr0⟩,_⟩:=has 0 (by omega) hpos;have hspot:a.spot=none:=by
    have h1:=(World.cells?_some hc0).2.2 0 (by omega);have h2:0<cs0.length:=by have:=(World.cells?_some hc0).2.1;omega
    simp only[Nat.add_zero,Nat.zero_mul,Addr.add,if_true,List.getElem?_eq_getElem h2] at h1;unfold World.cell? at h1;split at h1
    ·cases hs:a.spot with
     |none=>rfl
     |some s=>simp[hs] at h1
    ·cases h1
   obtain⟨b,o,s⟩:=a;simp only at hspot;subst hspot;have hlen':(zs.map f).length=len:=by simp;omega
   have hmulk:∀i j,i<zs.length->j<k+1->i*(k+1)+j<zs.length*(k+1):=fun i j hi hj=>by
    have:(i+1)*(k+1)<=zs.length*(k+1):=Nat.mul_le_mul_right _ (by omega);rw[Nat.add_mul,Nat.one_mul] at this;omega
   have cellAt:∀i (hi:i<zs.length) j (hj:j<(f zs[i]).length),∃v,W.cell? ⟨b,o+(i*(k+1)+j),none⟩=some v/\RelD (FW W) W ((f zs[i])[j]) v:=fun i hi j hj=>by
    obtain⟨⟨cs,hc1,hr1⟩,_⟩:=has i (by omega) hi;have hjk:j<k+1:=by have:=hk zs[i];omega
    obtain⟨_,q1,q2⟩:=World.cells?_some hc1;have q3:=q2 j hjk;rw[List.getElem?_eq_getElem (by omega)] at q3;refine⟨cs[j], ?_,hr1.rel j hj (by omega)⟩;rw[<-q3];congr 1
    simp only[Nat.zero_add,Addr.add];split<;>split<;>simp_all<;>omega
   have hv:((zs.map f).length,cap)=(len,cap):=by rw[hlen']
   have goal:RelD (FW W) W (.sl (zs.map f)) (.slice (some ⟨b,o,none⟩) (zs.map f).length cap):=by
    refine .sl _ (k+1) b o cap (fun q=>(W.cell? ⟨b,o+q,none⟩).getD undef) (fun y hy=>?_) (by omega) (fun q hq=>?_) (fun i hi j hj=>?_)
    ·obtain⟨y',_,rfl⟩:=List.mem_map.1 hy;exact hk y'
    ·have hq':q<zs.length*(k+1):=by simpa using hq
     have hi:q / (k+1)<zs.length:=Nat.div_lt_of_lt_mul (by rw[Nat.mul_comm];exact hq');have hj:q % (k+1)<k+1:=Nat.mod_lt _ (by omega);obtain⟨v,h1,_⟩:=cellAt _ hi (q % (k+1)) (by rw[hk];exact hj);rw[Nat.div_add_mod'] at h1;exact⟨FW_cell h1,by rw[h1];rfl⟩
    ·have hi':i<zs.length:=by simpa using hi
     simp only[List.getElem_map] at hj ⊢;obtain⟨v,h1,h2⟩:=cellAt i hi' j hj;show RelD (FW W) W _ ((W.cell? ⟨b,o+(i*(k+1)+j),none⟩).getD undef)
     rw[h1];exact h2
   rw[hlen'] at goal;exact goal
 ·have:=zqT (m:=m) (zs:=zs) (xs:=elems.map (·.1)) (by simp[hal]) (fun i h1 h2=>by
   have:=(has i (by simpa using h2) h1).2.1;simpa using this)
  simp only[Rows.uptoBulk];omega
 ·obtain⟨i,hi,rfl⟩:=List.getElem_of_mem hy;exact(has i (by omega) hi).2.2
def DecF (P:Program) (W:World) (n o K:Nat) (fs:List Field){α:Type} (f:α->List D) (m:α->Nat) (R:α->Prop):Prop:=
 ∀(H:Type) (enc:TypeId×Value->H) (cs:List Value) (xs:List (DataW H×List MemPlace)),cs.length=K->xs.length=fs.length->
  (∀(i:Nat) (fd:Field),fs[i]?=some fd->DataW.trod enc P W 0 (fun _=>true) true n fd.type ((cs.drop fd.offset).take (P.cellsOf fd.type))=xs[i]?)->
  ∃a,RelL W (f a) (cs.drop o)/\m a<=Rows.uptoBulkAll (xs.map (·.1))/\R a
theorem DecF.nil {K:Nat}:DecF P W n K K [] (fun _:Unit=>[]) (fun _=>0) (fun _=>True):=fun H enc cs xs h1 h2 _=>
 ⟨(),by rw[List.drop_of_length_le (by omega)];exact⟨rfl,fun i h=>by simp at h⟩,by simp,trivial⟩
theorem DecF.cons {α β:Type}{f:α->List D}{m:α->Nat}{R:α->Prop}{f2:β->List D}{m2:β->Nat}{R2:β->Prop}{o K k:Nat}{fd:Field}{fs:List Field}
  (h1:Dec P W n fd.type f m R) (ho:fd.offset=o) (hc:P.cellsOf fd.type=k) (h2:DecF P W n (o+k) K fs f2 m2 R2):
  DecF P W n o K (fd::fs) (fun p:α×β=>f p.1++f2 p.2) (fun p=>m p.1+1+m2 p.2) (fun p=>R p.1/\R2 p.2):=fun H enc cs xs hK hl hx=>by
 cases xs with
 |nil=>simp at hl
 |cons y ys=>
  have h0:=hx 0 fd (by simp);simp only[List.getElem?_cons_zero] at h0;rw[ho,hc] at h0;obtain⟨a,q1,q2,q3⟩:=h1 H enc _ _ h0;obtain⟨b,r1,r2,r3⟩:=h2 H enc cs ys hK (by simpa using hl) (fun i fd' hi=>by
   have:=hx (i+1) fd' (by simpa using hi);simpa using this)
  refine⟨(a,b), ?_, ?_,q3,r3⟩
  ·have:cs.drop o=(cs.drop o).take k++cs.drop (o+k):=by
    rw[<-List.drop_drop,List.take_append_drop]
   rw[this];exact q1.append r1
  ·simp only[xae,Rows.uptoBulkAll];omega
theorem Dec.struct {α:Type}{f:α->List D}{m:α->Nat}{R:α->Prop}{fs:Array Field} (ht:P.underlying t=some (.struct fs)){K:Nat} (hK:P.cellsOf t=K) (h:DecF P W n 0 K fs.toList f m R):
  Dec P W (n+1) t f m R:=fun H enc cs x hx=>by
 obtain⟨xs,n',hn,rfl,hl,hxl,hf⟩:=DataW.trod_struct ht hx;obtain rfl:n=n':=by omega
 obtain⟨a,q1,q2,q3⟩:=h H enc cs xs (by omega) (by simpa using hxl) (fun i fd hi=>hf i fd (by simpa using hi));refine⟨a,by simpa using q1, ?_,q3⟩;simp only[Rows.uptoBulk];omega
end
section
variable {P:Program}{W:World}{base:Nat}{t:TypeId}{v:Value}{H:Type}{enc:TypeId×Value->H}{d:DataW H}{ps:List MemPlace}
theorem zuj {α:Type}{e:TypeId}{f:α->List D}{m:α->Nat}{R:α->Prop}{k:Nat} (ht:P.underlying t=some (.slice e)) (hc:P.cellsOf e=k+1) (hk:∀a,(f a).length=k+1) (hd:∀n,Dec P W n e f m R)
  (hval:Value.okWide P W .any base t v) (h:DataW.Trod enc P W 0 (fun _=>true) true t v d ps):
  ∃l:List α,(∀G T,G.F=FW W->RelA G T W (.d (.sl (l.map f))) v)/\sumM m l+1<=Rows.uptoBulk d/\∀a∈l,R a:=by
 obtain⟨n,hn⟩:=h;cases n with
 |zero=>simp[DataW.trod] at hn
 |succ n=>
  obtain⟨l,h1,h2,h3⟩:=Dec.sl ht hc hk (hd n) H enc _ _ hn;have hcells:v.cells.toList=[v]:=by
   cases v with
   |agg cs=>simp only[Value.okWide,ht,Cell.okWide,Cell.ok] at hval
   |_=>rfl
  rw[hcells] at h1;exact⟨l,fun G T hG=> .d (by rw[hG];simpa using h1.rel 0 (by simp) (by simp)),h2,h3⟩
end
section
variable {P:Program}{H:Type}{enc:TypeId×Value->H}
theorem zj1 (hl:laidOutB P=true){W W':World} (hb:Below W.heap.size W W'):∀ {ts:List TypeId}{vs:List Value}{ds:List (DataW H)}{ps:List MemPlace},
  (∀t∈ts,P.readableRec t=true/\t<P.types.size)->DataW.TrodAll enc P W 0 (fun _=>true) true ts vs ds ps->(∀x∈ps,x.block<W.heap.size)->
  DataW.TrodAll enc P W' 0 (fun b=>decide (b<W.heap.size)) true ts vs ds ps
 | [],[],[],ps,_,h,_=>h
 |t::ts,v::vs,d::ds,ps,hr,h,hlt=>by
  obtain⟨p,q,h1,h2,rfl⟩:=h;exact⟨p,q,Below.trod hl (hr t (by simp)).1 (hr t (by simp)).2 h1 hb (fun x hx=>hlt x (by simp[hx])),
   zj1 hl hb (fun t ht=>hr t (by simp[ht])) h2 (fun x hx=>hlt x (by simp[hx])),rfl⟩
theorem zwj {f:Func}{s:ChangeSpec}{W W':World}{args:Array Value}{ds gs:List (DataW H)}{before:List MemPlace}{tb:TypeId}
  (hW:DataW.Whole enc P f.params.toList s.vars false W args.toList ds gs before) (hvars:s.vars=[]) (hrt:f.resultTypes = #[tb]) (htb:P.underlying tb=some .bool)
  (hs:s.fn H (ds++gs)={ results:=[.lit (.bool true)],args:=ds }) (hl:laidOutB P=true) (hr:∀t∈f.params.toList,P.readableRec t=true/\t<P.types.size)
  (hb:Below W.heap.size W W'):s.post enc P f false true false false W args (.bool true) W':=by
 have hlt:∀p∈before,p.block<W.heap.size:=fun p hp=>hW.lt p hp;have hW0:=hW;obtain⟨p,q,hA,hV,rfl,hfz,_⟩:=hW;rw[hvars] at hV;cases gs with
 |cons g gs=>exact hV.elim
 |nil=>
  have hq:q=[]:=hV;subst hq;simp only[List.append_nil] at *;refine⟨ds,[],p,[],p,[],by simpa [hvars] using hW0, ?_, ?_, ?_,World.keptBut_mono (fun x hx=>⟨hx,.inr (.inl hx)⟩) (hb.frame (·∈p)),fun h=>by cases h⟩
  ·simp only[List.append_nil,hs,hrt];exact trodAll_cons_mk (shut_bool htb _) trodAll_mk0
  ·simp only[List.append_nil,hs];exact zj1 hl hb hr hA hlt
  ·simp only[hvars,List.append_nil,hs];rfl
theorem zvb {f:FuncId}{avs:List AV}{W:World}{args:Array Value}{r:AV} (hf:FnD P f avs [] r [])
  (hargs:∀G T,G.F=FW W->AllR G T W avs args):Calls P f args W fun e W'=>∃v G',e = .returned v/\RelA G' (fun _=>none) W' r v/\Below W.heap.size W W':=by
 let G:Gh:={ F:=FW W,loc:=fun _=>[] }
 refine(hf G W args ⟨hargs G _ rfl,fun id r h=>(by simp[getH] at h),fun id id' h=>(by simp[getH] at h),fun b hb=>FW_top hb⟩).mono ?_;rintro e W' ⟨v,r',hp',G',rfl,⟨rfl,rfl⟩,h⟩
 exact⟨v,G',rfl,h.res,⟨h.frm.os,h.frm.tape,h.frm.output,h.frm.size,fun b hb=>(h.frm.block b hb (by simp[zc9])).1⟩⟩
theorem RelA.bool_true {G:Gh}{T:TokF}{w:World}{v:Value} (h:RelA G T w (.d (.bool true)) v):v = .bool true:=by
 cases h with|d h=>cases h;rfl
theorem zvX {H:Type}{l:List (DataW H)} (hk:Rows.uptoSmall H l=true):Rows.uptoBulkAll l<=1048576:=of_decide_eq_true hk
end
end Go.Proofs.YtpgdedpljcedpaaGreat
namespace Go.Proofs.YtpgdedpljcedpaaGreat
open Go Go.ChangeShapes Go.WideShapes Go.ChangeAt Go.RowKit
set_option linter.unusedSimpArgs false
set_option linter.unusedVariables false
set_option maxRecDepth 100000
theorem zsX (W:World) (n:Nat):Dec Tryz.prog W n 5 (fun x:UInt8=>[D.int .u8 (x.toNat:Int)]) (fun _=>0) (fun _=>True):=fun H enc cs x hx=>by
 obtain⟨z,q1,q2,q3⟩:=Dec.int (k:= .u8) Tryz.underlying5 H enc cs x hx;have h:0<=z/\z<=255:=by
  simp[Lit.wf,IntKind.wrap,IntKind.signed,IntKind.bits,IntKind.min,IntKind.max] at q3;omega
 refine⟨UInt8.ofNat z.toNat, ?_,q2,trivial⟩;have e:(((UInt8.ofNat z.toNat).toNat:Nat):Int)=z:=by
  rw[UInt8.toNat_ofNat',Nat.mod_eq_of_lt (by omega)];omega
 show RelL W [D.int .u8 (((UInt8.ofNat z.toNat).toNat:Nat):Int)] cs
 rw[e];exact q1
end Go.Proofs.YtpgdedpljcedpaaGreat
namespace Go.Proofs.YtpgdedpljcedpaaGreat.fnReachedPatterns
open Go Go.ChangeShapes Go.WideShapes Go.ChangeAt Go.RowKit
set_option linter.unusedSimpArgs false
set_option linter.unusedVariables false
theorem own:ownKnob Tryz.prog.godebug=none:=by kernel_rfl
theorem laidOut:laidOutB Tryz.prog=true:=by kernel_rfl
set_option maxRecDepth 100000 in
theorem contract (H:Type) (enc:TypeId×Value→H) (W:World) (base:Nat) (args:Array Value) (ds gs:List (DataW H)) (before:List MemPlace)
  (hval:∀(j:Nat) t v,Tryz.f14.params[j]?=some t→args[j]?=some v→Value.okWide Tryz.prog W .any base t v)
  (hW:DataW.Whole enc Tryz.prog Tryz.f14.params.toList Rows.fnReachedPatternsSpec.vars false W args.toList ds gs before) (hk:Rows.uptoSmall H (ds++gs)=true):
  Calls Tryz.prog 14 args W fun e W'=>∃v,e = .returned v∧Rows.fnReachedPatternsSpec.post enc Tryz.prog Tryz.f14 false true false false W args v W':=by
 have hb:=zvX hk
 have hW':=hW
 obtain⟨p,q,hA0,hV,rfl,hfz,hnd⟩:=hW
 have hA:DataW.TrodAll enc Tryz.prog W 0 (fun _=>true) true Tryz.f14.params.toList args.toList ds p:=hA0
 rw[Tryz.params14] at hA hval
 obtain⟨v0,vs0,d0,ds0,p0,q0,hargs,rfl,rfl,h0,r0⟩:=trodAll_cons hA
 obtain⟨v1,vs1,d1,ds1,p1,q1,rfl,rfl,rfl,h1,r1⟩:=trodAll_cons r0
 obtain⟨rfl,rfl,rfl⟩:=trodAll_nil r1
 obtain rfl:args = #[v0,v1]:=by cases args;simp_all
 obtain⟨rfl,rfl⟩:=trodVars_none hV
 simp only[List.append_nil,Rows.uptoBulkAll] at hb
 obtain⟨code,a0,b0,_⟩:=zuj (k:=0) Tryz.underlying22 (by kernel_rfl) (fun _=>rfl) (zsX W) (hval 0 _ v0 rfl rfl) h0
 obtain⟨more,a1,b1,_⟩:=zuj (k:=0) Tryz.underlying22 (by kernel_rfl) (fun _=>rfl) (zsX W) (hval 1 _ v1 rfl rfl) h1
 have ln_code:code.length≤1000000000000:=by have:=zmH (fun _:UInt8=>0) code;omega
 have ln_more:more.length≤1000000000000:=by have:=zmH (fun _:UInt8=>0) more;omega
 refine(zvb ((zg9 ln_code ln_more)) (W:=W) (args:=#[v0,v1]) (fun G T hG=>⟨rfl,fun i hi hv=>?_⟩)).mono ?_
 ·match i,hi with
  |0,_=>exact a0 G T hG
  |1,_=>exact a1 G T hG
 ·rintro e W' ⟨v,G',rfl,hr,hbelow⟩
  obtain rfl:=hr.bool_true
  exact⟨_,rfl,zwj hW' rfl rfl Tryz.underlying4 rfl laidOut (fun t ht=>by
   simp only[Tryz.params14,List.mem_cons,List.not_mem_nil,or_false] at ht
   rcases ht with rfl|rfl<;>exact⟨by kernel_rfl,of_decide_eq_true (by kernel_rfl)⟩) hbelow⟩
set_option maxRecDepth 100000 in
theorem lifted (os:Os) (started:os.Started) (H:Type) (enc:TypeId×Value→H) (F:Stop.Interp):
  ReturnsInHanded {} Tryz.checked os 14 .any ((Rows.OpenSpec.upto Rows.fnReachedPatternsSpec).pre6 enc Tryz.prog Tryz.f14 Rows.fnReachedPatternsUptoRow.domain false) (((Rows.OpenSpec.upto Rows.fnReachedPatternsSpec).at F).post enc Tryz.prog Tryz.f14 false true false false):=by
 refine returnsInHanded_of_cond (C:=Tryz.checked) (s:=Rows.OpenSpec.upto Rows.fnReachedPatternsSpec) (k:=Rows.uptoSmall) rfl own started (by kernel_rfl) Tryz.func14
  (OpenSpec.witness (enc:=enc) (C:=Tryz.checked) (s:=Rows.OpenSpec.upto Rows.fnReachedPatternsSpec) (k:=Rows.uptoSmall) rfl false ⟨#[],#[.slice none 0 0,.slice none 0 0],[]⟩ 8 (by kernel_rfl) (by kernel_rfl) (by kernel_rfl)
   (x:=([.nil,.nil],[],[])) (by kernel_rfl) rfl (by kernel_rfl)) ?_
 intro W base args ds gs before hval hW _ hk _
 exact contract H enc W base args ds gs before hval hW hk
theorem kf1:(Rows.fnReachedPatternsUptoRow.inPlace == Tryz.pinned.checked.prog.inPlace 14)=true:=by kernel_rfl
theorem kf2:(Rows.fnReachedPatternsUptoRow.unfollowed == Tryz.pinned.checked.prog.unfollowed 14)=true:=by kernel_rfl
theorem kf3:(Rows.fnReachedPatternsUptoRow.recurses == Tryz.pinned.checked.prog.recurses 14)=true:=by kernel_rfl
theorem kf4:(Rows.fnReachedPatternsUptoRow.named == Tryz.pinned.checked.prog.varsNamed 14)=true:=by kernel_rfl
theorem kf5:laidOutB Tryz.pinned.checked.prog=true:=by kernel_rfl
theorem kf6:mapsRowed Tryz.pinned.checked.prog=true:=by kernel_rfl
theorem kf7:Tryz.pinned.checked.prog.stopsHeard=true:=by kernel_rfl
theorem kf8:Tryz.pinned.checked.prog.mayEnter=true:=by kernel_rfl
theorem kf9:(Rows.fnReachedPatternsUptoRow.lifted == Tryz.pinned.checked.prog.liftsFinal)=true:=by kernel_rfl
theorem kf0:(Rows.fnReachedPatternsUptoRow.plainKeys == Tryz.pinned.checked.prog.plainKeys)=true:=by kernel_rfl
theorem facts:joinedFacts Tryz.pinned.checked.prog 14 Tryz.f14 (Rows.OpenSpec.upto Rows.fnReachedPatternsSpec).bare Rows.fnReachedPatternsUptoRow=true:=by
 unfold joinedFacts
 rw[kf1,kf2,kf3,kf4,kf5,kf6,kf7,kf8,kf9,kf0]
 kernel_rfl
theorem named:Tryz.pinned.checked.prog.funcNamed Rows.fnReachedPatternsUptoRow.func=some 14:=by kernel_rfl
theorem over:Rows.fnReachedPatternsUptoRow.holds Tryz.pinned (Rows.OpenSpec.upto Rows.fnReachedPatternsSpec):=
 OpenClaim.holds_of_cond 14 Tryz.f14 rfl rfl rfl rfl rfl rfl rfl ⟨rfl,rfl,rfl,rfl,rfl⟩ rfl rfl rfl rfl rfl named Tryz.func14 facts
  (of_decide_eq_true (by as_aux_lemma=>kernel_rfl)) (by as_aux_lemma=>unfold Func.isWrapper;first|(rw[if_pos (by decide +kernel)];kernel_rfl)|(rw[if_neg (by decide +kernel)];exact⟨rfl,rfl⟩))
  (fun os started H enc _ F=>lifted os started H enc F)
theorem proved:Rows.FnReachedPatternsUptoSaid:=over
end Go.Proofs.YtpgdedpljcedpaaGreat.fnReachedPatterns
