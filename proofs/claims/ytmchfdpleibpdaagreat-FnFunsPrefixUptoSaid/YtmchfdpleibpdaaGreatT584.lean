/-
  THE ABSTRACT WALK AND THE WALKS, part 4 of 6: the parts F97, F98, F99, F95, F39, F96, F14, F100, F50, F51, F52, F53, F54, F55, F56, F57, F58, F150, F40, F16, F42, F70, G3, F8, Wu, F9, F71, F151, F152, F153, F154, F59, F10, F11, F17, F43, F44, F45, F46, F60, F61, F30, F63, F155, F156.
-/
import Derived.Test.YtmchfdpleibpdaaGreatT583
namespace Go.Proofs.YtmchfdpleibpdaaGreat
open Go
set_option linter.unusedSimpArgs false
set_option linter.unusedVariables false
set_option maxRecDepth 1000000
def indT (m S r h:Nat):Nat:=bif (Nat.beq (Nat.mod (Nat.add (Nat.xor S r) h) 3) 0&&(Nat.beq m 3||Nat.beq (Nat.mod (Nat.xor S r) 2) 0)) then 1 else 0
def ind (m S q:Nat):Nat:=indT m S (q % 64) ((q ^^^ (q / 64)) % 3)
def cnt (m S e:Nat):Nat->Nat->Nat
 |0,_=>0
 |n+1,q=>ind m S q+cnt m S e n (q+e)
theorem znm (m S e:Nat):∀n q,cnt m S e (n+1) q=cnt m S e n q+ind m S (q+n*e)
 |0,q=>by simp only[cnt,Nat.zero_mul,Nat.add_zero,Nat.zero_add]
 |n+1,q=>by
  have:=znm m S e n (q+e);simp only[cnt] at this ⊢;have h:q+e+n*e=q+(n+1)*e:=by rw[Nat.add_mul];omega
  rw[h] at this;omega
theorem znA (m S q:Nat):ind m S q<=1:=by unfold ind indT;cases (Nat.beq _ _&&_)<;>simp
theorem zpT (m S e:Nat):∀n q,cnt m S e n q<=n
 |0,_=>Nat.le_refl _
 |n+1,q=>by have:=zpT m S e n (q+e);have:=znA m S q;simp only[cnt];omega
noncomputable def lan (f:Nat->Nat) (s n:Nat):Nat:=Nat.rec (motive:=fun _=>Nat->Nat) (fun _=>0) (fun _ ih s=>Nat.add (f s) (Nat.mul 65536 (ih (Nat.succ s)))) n s
theorem zhl (f g:Nat->Nat):∀n s,lan (fun S=>f S+g S) s n=lan f s n+lan g s n
 |0,s=>rfl
 |n+1,s=>by
  show f s+g s+65536*lan (fun S=>f S+g S) (s+1) n=f s+65536*lan f (s+1) n+(g s+65536*lan g (s+1) n)
  rw[zhl f g n (s+1)];omega
theorem zoz {f:Nat->Nat} (h:∀s,f s<65536):∀n s,lan f s n &&& lan (fun _=>32768) s n=0->∀S,s<=S->S<s+n->f S<32768
 |0,s,_,S,h1,h2=>by omega
 |n+1,s,hz,S,h1,h2=>by
  have hz':(f s+65536*lan f (s+1) n) &&& (32768+65536*lan (fun _=>32768) (s+1) n)=0:=hz;have hf:=h s;by_cases hS:S=s
  ·subst hS;have e:=congrArg (fun x=>x % 2 ^ 16 / 2 ^ 15) hz';simp only[Nat.and_mod_two_pow,Nat.and_div_two_pow] at e;rw[show(f S+65536*lan f (S+1) n) % 2 ^ 16=f S by omega,show(32768+65536*lan (fun _=>32768) (S+1) n) % 2 ^ 16=32768 by omega] at e;rcases Nat.lt_or_ge (f S) 32768 with hlt|hge
   ·exact hlt
   ·rw[show f S / 2 ^ 15=1 by omega] at e;exact absurd e (by decide)
  ·have e:=congrArg (fun x=>x / 2 ^ 16) hz';simp only[Nat.and_div_two_pow] at e;rw[show(f s+65536*lan f (s+1) n) / 2 ^ 16=lan f (s+1) n by omega,show(32768+65536*lan (fun _=>32768) (s+1) n) / 2 ^ 16=lan (fun _=>32768) (s+1) n by omega] at e;exact zoz h n (s+1) (by rw[e]) S (by omega) (by omega)
noncomputable def laneT (m r h:Nat):Nat:=lan (fun S=>indT m S r h) 0 64
noncomputable def tre (f:Nat->Nat) (d x base:Nat):Nat:=Nat.rec (motive:=fun _=>Nat->Nat) (fun base=>f base) (fun d ih base=>Bool.rec (ih base) (ih (Nat.add base (Nat.pow 2 d))) (Nat.beq (Nat.mod (Nat.div x (Nat.pow 2 d)) 2) 1)) d base
theorem ziW (f:Nat->Nat) (x:Nat):∀d base,tre f d x base=f (base+x % 2 ^ d)
 |0,base=>by show f base=_;rw[Nat.pow_zero,Nat.mod_one,Nat.add_zero]
 |d+1,base=>by
  have h2:x / 2 ^ d % 2<2:=Nat.mod_lt _ (by omega);show(Bool.rec (tre f d x base) (tre f d x (base+2 ^ d)) (Nat.beq (x / 2 ^ d % 2) 1):Nat)=_
  rw[Nat.mod_pow_succ,ziW f x d,ziW f x d];rcases(show x / 2 ^ d % 2=0\/x / 2 ^ d % 2=1 by omega) with h|h
  ·rw[h];show f (base+x % 2 ^ d)=_;rw[Nat.mul_zero,Nat.add_zero]
  ·rw[h];show f (base+2 ^ d+x % 2 ^ d)=_;rw[Nat.mul_one,show base+2 ^ d+x % 2 ^ d=base+(x % 2 ^ d+2 ^ d) by omega]
noncomputable def lkH (m q h:Nat):Nat:=bif Nat.beq h 0 then tre (fun b=>laneT m b 0) 6 q 0 else bif Nat.beq h 1 then tre (fun b=>laneT m b 1) 6 q 0 else tre (fun b=>laneT m b 2) 6 q 0
noncomputable def lkq (m q:Nat):Nat:=lkH m q (Nat.mod (Nat.xor q (Nat.div q 64)) 3)
theorem znG (m q:Nat):lkq m q=lan (fun S=>ind m S q) 0 64:=by
 show lkH m q ((q ^^^ (q / 64)) % 3)=laneT m (q % 64) ((q ^^^ (q / 64)) % 3)
 have h2:(q ^^^ (q / 64)) % 3<3:=Nat.mod_lt _ (by omega);generalize (q ^^^ (q / 64)) % 3=h at *;rcases(show h=0\/h=1\/h=2 by omega) with rfl|rfl|rfl
 ·show tre (fun b=>laneT m b 0) 6 q 0=_;rw[ziW,Nat.zero_add]
 ·show tre (fun b=>laneT m b 1) 6 q 0=_;rw[ziW,Nat.zero_add]
 ·show tre (fun b=>laneT m b 2) 6 q 0=_;rw[ziW,Nat.zero_add]
noncomputable def cwL (t e n q acc:Nat):Nat:=Nat.rec (motive:=fun _=>Nat->Nat->Nat) (fun _ acc=>acc) (fun _ ih q acc=>ih (Nat.add q e) (Nat.add acc (lkq t q))) n q acc
noncomputable def slide (t e w K M k q acc:Nat):Bool:=Nat.rec (motive:=fun _=>Nat->Nat->Bool) (fun _ acc=>Nat.beq (Nat.land (Nat.add acc K) M) 0) (fun _ ih q acc=>Bool.rec false (ih (Nat.add q e) (Nat.sub (Nat.add acc (lkq t (Nat.add q w))) (lkq t q))) (Nat.beq (Nat.land (Nat.add acc K) M) 0)) k q acc
theorem zpk (t e w K M k q acc:Nat):slide t e w K M (k+1) q acc=(Nat.beq (Nat.land (Nat.add acc K) M) 0&&slide t e w K M k (Nat.add q e) (Nat.sub (Nat.add acc (lkq t (Nat.add q w))) (lkq t q))):=by
 show(Bool.rec false (slide t e w K M k (Nat.add q e) (Nat.sub (Nat.add acc (lkq t (Nat.add q w))) (lkq t q))) (Nat.beq (Nat.land (Nat.add acc K) M) 0):Bool)=_
 cases Nat.beq (Nat.land (Nat.add acc K) M) 0<;>rfl
noncomputable def chains (t e n K M k r:Nat):Bool:=Nat.rec (motive:=fun _=>Bool) true (fun q ih=>Bool.rec false ih (slide t e (Nat.mul n e) K M k q (cwL t e n q 0))) r
theorem zoe (t e n K M k q:Nat):chains t e n K M k (q+1)=(slide t e (Nat.mul n e) K M k q (cwL t e n q 0)&&chains t e n K M k q):=by
 show(Bool.rec false (chains t e n K M k q) (slide t e (Nat.mul n e) K M k q (cwL t e n q 0)):Bool)=_
 cases slide t e (Nat.mul n e) K M k q (cwL t e n q 0)<;>rfl
theorem zpW (m e:Nat):∀n q acc,cwL m e n q acc=acc+lan (fun S=>cnt m S e n q) 0 64
 |0,q,acc=>by
  have:∀n s,lan (fun S=>cnt m S e 0 q) s n=0:=by
   intro n;induction n with
   |zero=>intro s;rfl
   |succ n ih=>intro s;show 0+65536*lan (fun S=>cnt m S e 0 q) (s+1) n=0;rw[ih]
  rw[this];rfl
 |n+1,q,acc=>by
  show cwL m e n (q+e) (acc+lkq m q)=_
  rw[zpW m e n (q+e),znG];have:=zhl (fun S=>ind m S q) (fun S=>cnt m S e n (q+e)) 64 0;show _=acc+lan (fun S=>ind m S q+cnt m S e n (q+e)) 0 64
  omega
theorem zpR {m e n c q:Nat} (hc:c<=32767) (hn:n<=32768) (h:Nat.beq (Nat.land (Nat.add (lan (fun S=>cnt m S e n q) 0 64) (lan (fun _=>32767-c) 0 64)) (lan (fun _=>32768) 0 64)) 0=true):∀S,S<64->cnt m S e n q<=c:=by
 intro S hS;have h1:=Nat.eq_of_beq_eq_true h;have h2:lan (fun S=>cnt m S e n q+(32767-c)) 0 64 &&& lan (fun _=>32768) 0 64=0:=by rw[zhl];exact h1
 have:=zoz (fun s=>by have:=zpT m s e n q;omega) 64 0 h2 S (by omega) (by omega);have h3:cnt m S e n q+(32767-c)<32768:=this;omega
theorem zn3 {m e n c:Nat} (hc:c<=32767) (hn:n<=32768):∀k q,slide m e (n*e) (lan (fun _=>32767-c) 0 64) (lan (fun _=>32768) 0 64) k q (lan (fun S=>cnt m S e n q) 0 64)=true->∀i,i<=k->∀S,S<64->cnt m S e n (q+i*e)<=c
 |0,q,h,i,hi=>by
  obtain rfl:i=0:=by omega
  rw[Nat.zero_mul,Nat.add_zero];exact zpR hc hn h
 |k+1,q,h,i,hi=>by
  rw[zpk,xad] at h;cases i with
  |zero=>rw[Nat.zero_mul,Nat.add_zero];exact zpR hc hn h.1
  |succ i=>
   have e1:Nat.sub (Nat.add (lan (fun S=>cnt m S e n q) 0 64) (lkq m (Nat.add q (n*e)))) (lkq m q)=lan (fun S=>cnt m S e n (q+e)) 0 64:=by
    show lan (fun S=>cnt m S e n q) 0 64+lkq m (q+n*e)-lkq m q=_
    rw[znG,znG,<-zhl];have h1:(fun S=>cnt m S e n q+ind m S (q+n*e))=fun S=>ind m S q+cnt m S e n (q+e):=by
     funext S;rw[<-znm];rfl
    rw[h1,zhl];omega
   have h3:=h.2;rw[e1] at h3;rw[show q+(i+1)*e=q+e+i*e by rw[Nat.add_mul];omega];exact zn3 hc hn k (q+e) h3 i (by omega)
theorem zdv {m e n c k:Nat} (he:0<e) (hc:c<=32767) (hn:n<=32768) (h:chains m e n (lan (fun _=>32767-c) 0 64) (lan (fun _=>32768) 0 64) k e=true){S q:Nat} (hS:S<64) (hq:q<e*(k+1)):cnt m S e n q<=c:=by
 have key:∀r,chains m e n (lan (fun _=>32767-c) 0 64) (lan (fun _=>32768) 0 64) k r=true->∀q,q<r->∀i,i<=k->∀S,S<64->cnt m S e n (q+i*e)<=c:=by
  intro r;induction r with
  |zero=>intro _ q hq;omega
  |succ r ih=>
   intro h q hq i hi;rw[zoe,xad] at h;by_cases hr:q=r
   ·subst hr;have h1:=h.1;rw[zpW,Nat.zero_add] at h1;exact zn3 hc hn k q h1 i hi
   ·exact ih h.2 q (by omega) i hi
 have hd:q / e<k+1:=Nat.div_lt_of_lt_mul hq;have:=key e h (q % e) (Nat.mod_lt _ he) (q / e) (by omega) S hS;rwa [Nat.mul_comm (q / e) e,Nat.mod_add_div] at this
noncomputable def Mk:Nat:=lan (fun _=>32768) 0 64
noncomputable def K7:Nat:=lan (fun _=>32767-80) 0 64
theorem ck7:chains 6 1 192 K7 Mk 3200 1=true:=by kernel_rfl
theorem win7 {S q:Nat} (hS:S<64) (hq:q<3201):cnt 6 S 1 192 q<=80:=zdv (m:=6) (e:=1) (n:=192) (c:=80) (k:=3200) (by omega) (by omega) (by omega) ck7 hS hq
noncomputable def K263:Nat:=lan (fun _=>32767-94) 0 64
theorem zt0:chains 3 15 192 K263 Mk 107 15=true:=by kernel_rfl
theorem zty {S q:Nat} (hS:S<64) (hq:q<1620):cnt 3 S 15 192 q<=94:=zdv (m:=3) (e:=15) (n:=192) (c:=94) (k:=107) (by omega) (by omega) (by omega) zt0 hS hq
noncomputable def K519:Nat:=lan (fun _=>32767-13) 0 64
theorem zt1:chains 6 59 32 K519 Mk 55 59=true:=by kernel_rfl
theorem ztz {S q:Nat} (hS:S<64) (hq:q<3304):cnt 6 S 59 32 q<=13:=zdv (m:=6) (e:=59) (n:=32) (c:=13) (k:=55) (by omega) (by omega) (by omega) zt1 hS hq
noncomputable def K775:Nat:=lan (fun _=>32767-63) 0 64
theorem zt2:chains 3 44 128 K775 Mk 37 44=true:=by kernel_rfl
theorem ztA {S q:Nat} (hS:S<64) (hq:q<1672):cnt 3 S 44 128 q<=63:=zdv (m:=3) (e:=44) (n:=128) (c:=63) (k:=37) (by omega) (by omega) (by omega) zt2 hS hq
noncomputable def K1031:Nat:=lan (fun _=>32767-13) 0 64
theorem zsY:chains 6 117 32 K1031 Mk 28 117=true:=by kernel_rfl
theorem zso {S q:Nat} (hS:S<64) (hq:q<3393):cnt 6 S 117 32 q<=13:=zdv (m:=6) (e:=117) (n:=32) (c:=13) (k:=28) (by omega) (by omega) (by omega) zsY hS hq
noncomputable def K1287:Nat:=lan (fun _=>32767-126) 0 64
theorem zsZ:chains 3 73 256 K1287 Mk 22 73=true:=by kernel_rfl
theorem zsp {S q:Nat} (hS:S<64) (hq:q<1679):cnt 3 S 73 256 q<=126:=zdv (m:=3) (e:=73) (n:=256) (c:=126) (k:=22) (by omega) (by omega) (by omega) zsZ hS hq
noncomputable def K1543:Nat:=lan (fun _=>32767-14) 0 64
theorem zs0:chains 6 175 32 K1543 Mk 19 175=true:=by kernel_rfl
theorem zsq {S q:Nat} (hS:S<64) (hq:q<3500):cnt 6 S 175 32 q<=14:=zdv (m:=6) (e:=175) (n:=32) (c:=14) (k:=19) (by omega) (by omega) (by omega) zs0 hS hq
noncomputable def K1799:Nat:=lan (fun _=>32767-120) 0 64
theorem zs1:chains 3 102 256 K1799 Mk 16 102=true:=by kernel_rfl
theorem zsr {S q:Nat} (hS:S<64) (hq:q<1734):cnt 3 S 102 256 q<=120:=zdv (m:=3) (e:=102) (n:=256) (c:=120) (k:=16) (by omega) (by omega) (by omega) zs1 hS hq
end Go.Proofs.YtmchfdpleibpdaaGreat
namespace Go.Proofs.YtmchfdpleibpdaaGreat
open Go
set_option linter.unusedSimpArgs false
set_option linter.unusedVariables false
set_option maxRecDepth 100000
def uv (x:Int):Int:=if x=3 then 1 else if x=0\/x=1 then 0 else -1
def sU (u:Nat->Int):Nat->Nat->Int
 |_,0=>0
 |p,n+1=>u p+sU u (p+1) n
theorem zgD (u:Nat->Int):∀m n p,sU u p (m+n)=sU u p m+sU u (p+m) n
 |0,n,p=>by simp[sU]
 |m+1,n,p=>by
  rw[show m+1+n=(m+n)+1 by omega];simp only[sU];rw[zgD u m n (p+1),show p+1+m=p+(m+1) by omega];omega
theorem zll (x:Int) : -1<=uv x/\uv x<=1:=by unfold uv;split<;>(try split)<;>omega
theorem zrG {u:Nat->Int} (h:∀k,u k<=1):∀n p,sU u p n<=n
 |0,p=>by simp[sU]
 |n+1,p=>by have:=zrG h n (p+1);have:=h p;simp only[sU];omega
def fN (y:Nat):Nat:=(y ^^^ (y / 64)) % 24
def uN (y:Nat):Int:=uv (fN y:Int)
def wS (D:Nat):Nat->Nat->Int
 |0,_=>0
 |n+1,y=>uN y+wS D n (y+D)
theorem zi1 (D:Nat):∀m n y,wS D (m+n) y=wS D m y+wS D n (y+m*D)
 |0,n,y=>by simp[wS]
 |m+1,n,y=>by
  rw[show m+1+n=(m+n)+1 by omega];simp only[wS];rw[zi1 D m n (y+D),show y+D+m*D=y+(m+1)*D by rw[Nat.add_mul];omega];omega
def g8 (r:Nat):Nat:=(r % 8) ^^^ (r / 64 % 8)
theorem zs6 (y:Nat):fN y % 8=g8 (y % 512):=by
 unfold fN g8;rw[Nat.mod_mod_of_dvd _ (by decide),show(8:Nat)=2 ^ 3 from rfl,Nat.xor_mod_two_pow];congr 1
 ·omega
 ·omega
def um (r:Nat):Int:=if r=3 then 1 else if r=0\/r=1 then 0 else -1
theorem zmZ (y:Nat):uN y<=um (g8 (y % 512)):=by
 rw[<-zs6];have h:fN y<24:=Nat.mod_lt _ (by omega);unfold uN;generalize fN y=x at *;have key:∀x:Nat,x<24->uv (x:Int)<=um (x % 8):=by decide
 exact key x h
def zue:Bool:=(List.range 512).all fun r=>[128,384].all fun E=>decide (um (g8 r)+um (g8 ((r+E) % 512))+um (g8 ((r+2*E) % 512))+um (g8 ((r+3*E) % 512))<= -1)
theorem zrc:zue=true:=by kernel_rfl
theorem quad {E:Nat} (hE:E % 512=128\/E % 512=384) (y:Nat):uN y+uN (y+E)+uN (y+2*E)+uN (y+3*E)<= -1:=by
 have h:=List.all_eq_true.1 zrc (y % 512) (List.mem_range.2 (Nat.mod_lt _ (by omega)));have h2:=List.all_eq_true.1 h (E % 512) (by rcases hE with e|e<;>rw[e]<;>simp);have h3:=of_decide_eq_true h2;have a0:=zmZ y;have a1:=zmZ (y+E);have a2:=zmZ (y+2*E);have a3:=zmZ (y+3*E);rw[show(y+E) % 512=(y % 512+E % 512) % 512 by omega] at a1;rw[show(y+2*E) % 512=(y % 512+2*(E % 512)) % 512 by omega] at a2;rw[show(y+3*E) % 512=(y % 512+3*(E % 512)) % 512 by omega] at a3;omega
theorem zrF {D E:Nat} (hE:E % 512=128\/E % 512=384):∀n y,wS D n y+wS D n (y+E)+wS D n (y+2*E)+wS D n (y+3*E)<= -n
 |0,y=>by simp[wS]
 |n+1,y=>by
  have h1:=quad hE y;have h2:=zrF (D:=D) hE n (y+D);simp only[wS];rw[show y+E+D=y+D+E by omega,show y+2*E+D=y+D+2*E by omega,show y+3*E+D=y+D+3*E by omega];omega
theorem four {D h:Nat} (hE:h*D % 512=128\/h*D % 512=384) (y:Nat):wS D (h+(h+(h+h))) y<= -h:=by
 have:=zrF (D:=D) hE h y;rw[zi1,zi1,zi1,show y+h*D+h*D=y+2*(h*D) by omega,show y+2*(h*D)+h*D=y+3*(h*D) by omega];omega
theorem zrQ {S q:Nat} (hS:S<64):((S+64*q) ^^^ q) % 64=S ^^^ (q % 64)/\((S+64*q) ^^^ q) / 64=q ^^^ (q / 64):=by
 have e:(64:Nat)=2 ^ 6:=rfl;constructor
 ·have:=Nat.xor_mod_two_pow (a:=S+64*q) (b:=q) (n:=6);rw[<-e] at this;rw[this];congr 1;omega
 ·have:=Nat.xor_div_two_pow (a:=S+64*q) (b:=q) (n:=6);rw[<-e] at this;rw[this];congr 1;omega
theorem ind3 {S q:Nat} (hS:S<64) (h:ind 3 S q=0):((S+64*q) ^^^ q) % 3≠0:=by
 obtain⟨h1,h2⟩:=zrQ (q:=q) hS;intro h0;unfold ind indT at h;have e:Nat.beq (Nat.mod (Nat.add (Nat.xor S (q % 64)) ((q ^^^ q / 64) % 3)) 3) 0=true:=by
  have:((S ^^^ (q % 64))+(q ^^^ (q / 64)) % 3) % 3=0:=by rw[<-h1,<-h2];omega
  rw[show Nat.mod (Nat.add (Nat.xor S (q % 64)) ((q ^^^ q / 64) % 3)) 3=((S ^^^ (q % 64))+(q ^^^ (q / 64)) % 3) % 3 from rfl,this];rfl
 rw[e] at h;have h3:(1:Nat)=0:=h;omega
theorem ind6 {S q:Nat} (hS:S<64) (h:ind 6 S q=0):((S+64*q) ^^^ q) % 6≠0:=by
 obtain⟨h1,h2⟩:=zrQ (q:=q) hS;intro h0;unfold ind indT at h;have e:Nat.beq (Nat.mod (Nat.add (Nat.xor S (q % 64)) ((q ^^^ q / 64) % 3)) 3) 0=true:=by
  have:((S ^^^ (q % 64))+(q ^^^ (q / 64)) % 3) % 3=0:=by rw[<-h1,<-h2];omega
  rw[show Nat.mod (Nat.add (Nat.xor S (q % 64)) ((q ^^^ q / 64) % 3)) 3=((S ^^^ (q % 64))+(q ^^^ (q / 64)) % 3) % 3 from rfl,this];rfl
 have e2:Nat.beq (Nat.mod (Nat.xor S (q % 64)) 2) 0=true:=by
  have:(S ^^^ (q % 64)) % 2=0:=by rw[<-h1];omega
  rw[show Nat.mod (Nat.xor S (q % 64)) 2=(S ^^^ (q % 64)) % 2 from rfl,this];rfl
 rw[e,e2] at h;exact absurd h (by decide)
theorem ztx {s q:Nat} (hs:s<512):uN (s+512*q)<=2*(ind 3 (s / 8) q:Int)-1:=by
 have hi:=znA 3 (s / 8) q;by_cases h:ind 3 (s / 8) q=0
 ·have hx:=ind3 (by omega) h;rw[h];have hz:((s+512*q) ^^^ ((s+512*q) / 64)) / 8=(s / 8+64*q) ^^^ q:=by
   have:=Nat.xor_div_two_pow (a:=s+512*q) (b:=(s+512*q) / 64) (n:=3);rw[show(2:Nat) ^ 3=8 from rfl] at this;rw[this];congr 1<;>omega
  rw[<-hz] at hx;unfold uN fN;generalize (s+512*q) ^^^ ((s+512*q) / 64)=z at *;have h24:z % 24≠0/\z % 24≠1/\z % 24≠3:=by omega
  unfold uv;rw[if_neg (by omega),if_neg (by omega)];omega
 ·have:=(zll (fN (s+512*q):Int)).2;unfold uN;omega
theorem ztw {s q:Nat} (hs:s<256):uN (s+256*q)<=2*(ind 6 (s / 4) q:Int)-1:=by
 have hi:=znA 6 (s / 4) q;by_cases h:ind 6 (s / 4) q=0
 ·have hx:=ind6 (by omega) h;rw[h];have hz:((s+256*q) ^^^ ((s+256*q) / 64)) / 4=(s / 4+64*q) ^^^ q:=by
   have:=Nat.xor_div_two_pow (a:=s+256*q) (b:=(s+256*q) / 64) (n:=2);rw[show(2:Nat) ^ 2=4 from rfl] at this;rw[this];congr 1<;>omega
  rw[<-hz] at hx;unfold uN fN;generalize (s+256*q) ^^^ ((s+256*q) / 64)=z at *;have h24:z % 24≠0/\z % 24≠1/\z % 24≠3:=by omega
  unfold uv;rw[if_neg (by omega),if_neg (by omega)];omega
 ·have:=(zll (fN (s+256*q):Int)).2;unfold uN;omega
theorem zqI {s e:Nat} (hs:s<512):∀n q,wS (512*e) n (s+512*q)<=2*(cnt 3 (s / 8) e n q:Int)-n
 |0,q=>by simp[wS,cnt]
 |n+1,q=>by
  have h1:=ztx (q:=q) hs;have h2:=zqI (e:=e) hs n (q+e);simp only[wS,cnt];rw[show s+512*q+512*e=s+512*(q+e) by omega];omega
theorem zqH {s e:Nat} (hs:s<256):∀n q,wS (256*e) n (s+256*q)<=2*(cnt 6 (s / 4) e n q:Int)-n
 |0,q=>by simp[wS,cnt]
 |n+1,q=>by
  have h1:=ztw (q:=q) hs;have h2:=zqH (e:=e) hs n (q+e);simp only[wS,cnt];rw[show s+256*q+256*e=s+256*(q+e) by omega];omega
def Less (L:Nat):Prop:=∃N,1<=N/\N<=1024/\∀A,A<=818000->wS (29*L+53) N A<= -2
def zrw (L:Nat):Bool:=[1,2,4,8,16,32,64,128].any fun h=>decide (h*(29*L+53) % 512=128\/h*(29*L+53) % 512=384)
theorem zp8 {L:Nat} (h:zrw L=true):Less L:=by
 obtain⟨h,hm,hd⟩:=List.any_eq_true.1 h;have hE:=of_decide_eq_true hd;have hb:1<=h/\h<=128:=by
  simp only[List.mem_cons,List.not_mem_nil,or_false] at hm;omega
 refine⟨(h+(h+(h+h)))+(h+(h+(h+h))),by omega,by omega,fun A _=>?_⟩;have h1:=four hE A;have h2:=four hE (A+(h+(h+(h+h)))*(29*L+53));rw[zi1];omega
theorem zhN {L e N c K:Nat} (hL:29*L+53=512*e) (hN:1<=N/\N<=1024) (hc:2*c+2<=N) (hK:1598<=K) (h:∀ {S q:Nat},S<64->q<K->cnt 3 S e N q<=c):Less L:=by
 refine⟨N,hN.1,hN.2,fun A hA=>?_⟩;have h1:=zqI (s:=A % 512) (e:=e) (by omega) N (A / 512);have h2:=h (S:=A % 512 / 8) (q:=A / 512) (by omega) (by omega);rw[hL];rw[show A % 512+512*(A / 512)=A by omega] at h1;omega
theorem zhM {L e N c K:Nat} (hL:29*L+53=256*e) (hN:1<=N/\N<=1024) (hc:2*c+2<=N) (hK:3196<=K) (h:∀ {S q:Nat},S<64->q<K->cnt 6 S e N q<=c):Less L:=by
 refine⟨N,hN.1,hN.2,fun A hA=>?_⟩;have h1:=zqH (s:=A % 256) (e:=e) (by omega) N (A / 256);have h2:=h (S:=A % 256 / 4) (q:=A / 256) (by omega) (by omega);rw[hL];rw[show A % 256+256*(A / 256)=A by omega] at h1;omega
theorem zr8:((List.range 2001).all fun L=>zrw L||(decide (L=7)||decide (L=263)||decide (L=519)||decide (L=775)||decide (L=1031)||decide (L=1287)||decide (L=1543)||decide (L=1799)))=true:=by kernel_rfl
theorem zq3 {L:Nat} (hL:L<=2000):Less L:=by
 have h:=List.all_eq_true.1 zr8 L (List.mem_range.2 (by omega));simp only[Bool.or_eq_true,decide_eq_true_eq] at h;rcases h with h|(((((((h|h)|h)|h)|h)|h)|h)|h)
 ·exact zp8 h
 ·subst h;exact zhM (e:=1) (N:=192) (c:=80) rfl (by omega) (by omega) (by omega) win7
 ·subst h;exact zhN (e:=15) (N:=192) (c:=94) rfl (by omega) (by omega) (by omega) zty
 ·subst h;exact zhM (e:=59) (N:=32) (c:=13) rfl (by omega) (by omega) (by omega) ztz
 ·subst h;exact zhN (e:=44) (N:=128) (c:=63) rfl (by omega) (by omega) (by omega) ztA
 ·subst h;exact zhM (e:=117) (N:=32) (c:=13) rfl (by omega) (by omega) (by omega) zso
 ·subst h;exact zhN (e:=73) (N:=256) (c:=126) rfl (by omega) (by omega) (by omega) zsp
 ·subst h;exact zhM (e:=175) (N:=32) (c:=14) rfl (by omega) (by omega) (by omega) zsq
 ·subst h;exact zhN (e:=102) (N:=256) (c:=120) rfl (by omega) (by omega) (by omega) zsr
end Go.Proofs.YtmchfdpleibpdaaGreat
namespace Go.Proofs.YtmchfdpleibpdaaGreat
open Go
set_option linter.unusedSimpArgs false
set_option linter.unusedVariables false
set_option maxRecDepth 100000
set_option maxHeartbeats 2000000
theorem zrk {a b:Nat} (ha:a<2 ^ 62) (hb:b<2 ^ 62):xorV (a:Int) (b:Int)=((a ^^^ b:Nat):Int):=by
 have h1:(BitVec.ofInt 64 (a:Int) ^^^ BitVec.ofInt 64 (b:Int)).toNat=a ^^^ b:=by
  rw[BitVec.toNat_xor,BitVec.toNat_ofInt,BitVec.toNat_ofInt];have e1:((a:Int) % ((2 ^ 64:Nat):Int)).toNat=a:=by
   have:(a:Int) % ((2 ^ 64:Nat):Int)=a:=Int.emod_eq_of_lt (by omega) (by omega);rw[this];simp
  have e2:((b:Int) % ((2 ^ 64:Nat):Int)).toNat=b:=by
   have:(b:Int) % ((2 ^ 64:Nat):Int)=b:=Int.emod_eq_of_lt (by omega) (by omega);rw[this];simp
  rw[e1,e2]
 have h2:=Nat.xor_lt_two_pow (n:=62) ha hb;unfold xorV;rw[h1,zb8 (by omega)]
def yN (b:Str) (k:Nat):Nat:=(nth b (k % b.length)).toNat*131+(nth b ((k*7+3) % b.length)).toNat*1117+k*29+k / b.length*53
theorem zqo (b:Str) (k:Nat):zfy b k=(yN b k:Int):=by
 have h1:(nth b (k % b.length)).toNat<256:=(nth b (k % b.length)).toNat_lt;have h2:(nth b ((k*7+3) % b.length)).toNat<256:=(nth b ((k*7+3) % b.length)).toNat_lt;unfold zfy yN;rw[zb8 (by omega),zb8 (by omega),xac,show(k:Int)+1-1=(k:Int) by omega];simp only[Int.natCast_add,Int.natCast_mul,Int.natCast_ediv];rfl
theorem zsg {b:Str}{k:Nat} (h0:1<=b.length) (hk:b.length<=k) (hb:k<=1000000000000):zap b k 24=(fN (yN b k):Int):=by
 have h1:(nth b (k % b.length)).toNat<256:=(nth b (k % b.length)).toNat_lt;have h2:(nth b ((k*7+3) % b.length)).toNat<256:=(nth b ((k*7+3) % b.length)).toNat_lt;have h3:k / b.length<=k:=Nat.div_le_self _ _;have hy:yN b k<2 ^ 62:=by unfold yN;omega
 unfold zap;rw[if_neg (by omega),if_neg (by omega),zqo];rw[show((yN b k:Nat):Int) / 64=((yN b k / 64:Nat):Int) by omega,zrk hy (by omega)];unfold fN;omega
def aN (b:Str) (i:Nat):Nat:=(nth b i).toNat*131+(nth b ((7*i+3) % b.length)).toNat*1117+i*29
theorem zrl {b:Str}{j i:Nat} (hi:i<b.length):yN b (j*b.length+i)=aN b i+j*(29*b.length+53):=by
 have e1:(j*b.length+i) % b.length=i:=by rw[Nat.mul_add_mod_self_right];exact Nat.mod_eq_of_lt hi
 have e2:(j*b.length+i) / b.length=j:=by rw[Nat.mul_comm,Nat.mul_add_div (by omega),Nat.div_eq_of_lt hi,Nat.add_zero]
 have e3:((j*b.length+i)*7+3) % b.length=(7*i+3) % b.length:=by
  rw[show(j*b.length+i)*7+3=j*7*b.length+(7*i+3) by rw[Nat.add_mul,Nat.mul_right_comm];omega,Nat.mul_add_mod_self_right]
 unfold yN aN;rw[e1,e2,e3,Nat.add_mul,Nat.mul_add,Nat.mul_assoc j b.length 29,Nat.mul_comm b.length 29];omega
theorem ztB (b:Str) (i:Nat) (hi:i<=2000):aN b i<=376240:=by
 have h1:(nth b i).toNat<256:=(nth b i).toNat_lt;have h2:(nth b ((7*i+3) % b.length)).toNat<256:=(nth b ((7*i+3) % b.length)).toNat_lt;unfold aN;omega
def rowS (f:Nat->Nat->Int) (j:Nat):Nat->Int
 |0=>0
 |l+1=>rowS f j l+f j l
def colS (f:Nat->Nat->Int) (l:Nat):Nat->Nat->Int
 |_,0=>0
 |j,n+1=>f j l+colS f l (j+1) n
def matS (f:Nat->Nat->Int) (l:Nat):Nat->Nat->Int
 |_,0=>0
 |j,n+1=>rowS f j l+matS f l (j+1) n
theorem zl8 (f:Nat->Nat->Int) (l:Nat):∀n j,matS f (l+1) j n=matS f l j n+colS f l j n
 |0,j=>rfl
 |n+1,j=>by simp only[matS,colS,rowS];rw[zl8 f l n (j+1)];omega
theorem zl9 (f:Nat->Nat->Int):∀n j,matS f 0 j n=0
 |0,j=>rfl
 |n+1,j=>by simp only[matS,rowS];rw[zl9 f n (j+1)];omega
theorem zoE {f:Nat->Nat->Int}{n j:Nat}{c:Int}:∀l,(∀i,i<l->colS f i j n<=c)->matS f l j n<=l*c
 |0,_=>by rw[zl9];simp
 |l+1,h=>by
  have h1:=zoE l (fun i hi=>h i (by omega));have h2:=h l (by omega);rw[zl8,Int.natCast_add,Int.add_mul];omega
theorem zsj (u:Nat->Int) (p n:Nat):sU u p (n+1)=sU u p n+u (p+n):=by
 rw[zgD];simp[sU]
theorem zqu (u:Nat->Int) (L j:Nat):∀l,sU u (j*L) l=rowS (fun j i=>u (j*L+i)) j l
 |0=>rfl
 |l+1=>by rw[zsj,zqu u L j l];rfl
theorem zqt (u:Nat->Int) (L:Nat):∀n j,sU u (j*L) (n*L)=matS (fun j i=>u (j*L+i)) L j n
 |0,j=>by rw[Nat.zero_mul];rfl
 |n+1,j=>by
  rw[show(n+1)*L=L+n*L by rw[Nat.add_mul];omega,zgD,zqu,show j*L+L=(j+1)*L by rw[Nat.add_mul];omega,zqt u L n (j+1)];rfl
abbrev uP (b:Str) (k:Nat):Int:=uv (zap b k 24)
theorem zpU {b:Str} (h0:1<=b.length){i:Nat} (hi:i<b.length):∀n j,1<=j->(j+n)*b.length<=100000000->colS (fun j i=>uP b (j*b.length+i)) i j n=wS (29*b.length+53) n (aN b i+j*(29*b.length+53))
 |0,j,_,_=>rfl
 |n+1,j,hj,hb=>by
  have h1:=zpU h0 hi n (j+1) (by omega) (by rw[show j+1+n=j+(n+1) by omega];exact hb);have h2:b.length<=j*b.length:=Nat.le_mul_of_pos_left _ hj;have h3:j*b.length<=(j+(n+1))*b.length:=Nat.mul_le_mul_right _ (by omega);simp only[colS,wS];rw[h1,show aN b i+j*(29*b.length+53)+(29*b.length+53)=aN b i+(j+1)*(29*b.length+53) by rw[Nat.add_mul];omega];congr 1
  show uv (zap b (j*b.length+i) 24)=uN _
  rw[zsg h0 (by omega) (by omega),zrl hi];rfl
theorem Vals.size_app:∀a b:List Val,Vals.size (a++b)=Vals.size a+Vals.size b
 | [],b=>by simp[Vals.size]
 |x::r,b=>by simp only[xag,Vals.size,Vals.size_app r b];omega
theorem Val.size_mk (a n:Int) (k:List Val):(Val.mk a n k).size=1+Vals.size k:=rfl
structure CaseW (w:List Data):Prop where
 small:WSmall w
 valid:zaC w=true
 one:1<=w.length
 ct:∀k:Int,k=0\/k=1\/k=2->1<=(zaJ w ⟨0,k⟩).length
mutual
theorem zpq:∀v:Val,zpp v v=true
 | .mk _ _ ks=>by simp[zpp,zjB ks]
theorem zjB:∀l:List Val,zlm l l=true
 | []=>rfl
 |v::r=>by simp[zlm,zpq v,zjB r]
end
theorem Val.c_len (v:Val):v.c.length=3:=by cases v;rfl
theorem Val.cs_rows {l:List Val}:∀x,x∈Val.cs l->x.length=3:=by
 intro x hx;rw[Val.cs_eq] at hx;obtain⟨y,_,rfl⟩:=List.mem_map.1 hx;exact y.c_len
mutual
def mVal:Val->Nat
 | .mk _ _ ks=>zkJ ks
def zkJ:List Val->Nat
 | []=>0
 |v::r=>1+mVal v+zkJ r
end
mutual
def Val.szM:Val->Int
 | .mk _ _ ks=>2+Vals.szM ks
def Vals.szM:List Val->Int
 | []=>0
 |v::r=>v.szM+Vals.szM r
end
mutual
def Val.one (k:Int):Val->Val
 | .mk _ _ ks=> .mk k (k+1) (Vals.one (k+1+1) ks)
def Vals.one (k:Int):List Val->List Val
 | []=>[]
 |v::r=>v.one k::Vals.one (k+v.szM) r
end
mutual
theorem Val.szM_nn:∀v:Val,0<=v.szM
 | .mk _ _ ks=>by have:=Vals.szM_nn ks;simp only[Val.szM];omega
theorem Vals.szM_nn:∀l:List Val,0<=Vals.szM l
 | []=>by simp[Vals.szM]
 |v::r=>by have:=Val.szM_nn v;have:=Vals.szM_nn r;simp only[Vals.szM];omega
end
mutual
theorem Val.szM_le:∀v:Val,v.szM<=2+2*(mVal v:Int)
 | .mk _ _ ks=>by have:=Vals.szM_le ks;simp only[Val.szM,mVal];omega
theorem Vals.szM_le:∀l:List Val,Vals.szM l<=2*(zkJ l:Int)
 | []=>by simp[Vals.szM,zkJ]
 |v::r=>by have:=Val.szM_le v;have:=Vals.szM_le r;simp only[Vals.szM,zkJ];omega
end
section
variable {c:Ctx}{env:Env}{hp:Hp}{K:Kt}{code:Code}{ids:List Nat}
theorem CWp.fixVB (b off id k:Nat){n:Nat}{xs:List (List D)}{cs cs':List AV} (hb:getH hp b=some (.box cs)) (hc:cs[off]?=some (.gv id xs)) (hput:putC cs off [.ms id xs.length]=some cs') (ht:getH hp id=some (.tok n k)) (hn:n=xs.length) (hx0:xs≠[])
  (hnx:CWp c code ⟨env,(b,some (.box cs'))::(id,some (.box (xs.flatten.map .d)))::hp⟩ K):CWp c code ⟨env,hp⟩ K:=by
 rintro a w ⟨G,hr⟩
 subst hn;have hne:b≠id:=fun e=>by subst e;rw[hb] at ht;cases ht
 obtain⟨bl,vs,e,e1,e2,e3,e4,e5⟩:=hr.heap b _ hb;obtain⟨hlt,hcv⟩:=List.getElem?_eq_some_iff.1 hc;have hlv:off<vs.size:=by omega
 have h0:=e5 off hlt hlv;rw[hcv] at h0;obtain⟨hv0,hcl⟩:=h0.gv_inv;obtain⟨hkx,htip⟩:=(hcl _ _ (zam.2 ht)).2 rfl;rcases htip with ⟨_,h2,_⟩|⟨b1,cap,us,et,h1,h2,h3,h4,h5,h6,h7⟩
 ·exact absurd (List.eq_nil_of_length_eq_zero h2) hx0
 obtain⟨p1,p2,p3⟩:=zbQ hput;have s1:(getH hp b).isSome:=by rw[hb];rfl
 have s2:(getH hp id).isSome:=by rw[ht];rfl
 have g1:getH ((b,some (Res.box cs'))::(id,some (.box (xs.flatten.map .d)))::hp) b=some (.box cs'):=by rw[zad,if_pos rfl]
 have g2:getH ((b,some (Res.box cs'))::(id,some (.box (xs.flatten.map .d)))::hp) id=some (.box (xs.flatten.map .d)):=by rw[zad,if_neg (Ne.symm hne),zad,if_pos rfl]
 have t1:tokf ((b,some (Res.box cs'))::(id,some (.box (xs.flatten.map .d)))::hp) b=none:=by unfold tokf;rw[g1]
 have t2:tokf ((b,some (Res.box cs'))::(id,some (.box (xs.flatten.map .d)))::hp) id=none:=by unfold tokf;rw[g2]
 have hturn:Turn c G ⟨env,hp⟩ w G ((b,some (.box cs'))::(id,some (.box (xs.flatten.map .d)))::hp) [b,id]:=by
  refine⟨fun i hi=>?_,fun _ _=>rfl,fun _ _=>rfl,fun _ _ h=>h,hr.top,fun i hi=> .inr ⟨.inl rfl, ?_⟩,fun i hi _ x hx=>?_,fun i hi j hj hij _ _ x hx=>?_,fun i hi l hl=>?_⟩
  ·simp only[List.mem_cons,List.not_mem_nil,or_false,not_or] at hi;rw[zad,if_neg hi.1,zad,if_neg hi.2]
  ·simp only[List.mem_cons,List.not_mem_nil,or_false] at hi;rcases hi with rfl|rfl
   ·intro p hp;rw[t1] at hp;cases hp
   ·intro p hp;rw[t2] at hp;cases hp
  ·simp only[List.mem_cons,List.not_mem_nil,or_false] at hi;rcases hi with rfl|rfl
   ·exact⟨i,by simp,s1,hx⟩
   ·exact⟨i,by simp,s2,hx⟩
  ·simp only[List.mem_cons,List.not_mem_nil,or_false] at hi hj;rcases hi with rfl|rfl<;>rcases hj with rfl|rfl
   ·exact absurd rfl hij
   ·exact hr.disj _ _ s1 s2 hij x hx
   ·exact hr.disj _ _ s2 s1 hij x hx
   ·exact absurd rfl hij
  ·simp only[List.mem_cons,List.not_mem_nil,or_false] at hi;have hk0:=hr.kept i l hl;rcases hi with rfl|rfl
   ·exact⟨hk0.1,by rw[g1];rfl,t1⟩
   ·have:=hk0.2.2;rw[show(⟨env,hp⟩:St).hp=hp from rfl,zam.2 ht] at this;cases this
 refine hnx a w ⟨G,hturn.fin hr (fun i hi r hri=>?_)⟩;simp only[List.mem_cons,List.not_mem_nil,or_false] at hi;rcases hi with rfl|rfl
 ·rw[g1] at hri;cases hri
  refine⟨bl,vs,e,e1,e2,by omega,e4,fun j hj hjv=>?_⟩;have h8:=p3 j;rw[List.getElem?_eq_getElem hj] at h8;by_cases hjo:j=off
  ·subst hjo;rw[if_pos (by simp)] at h8;simp only[Nat.sub_self,List.getElem?_cons_zero,Option.some.injEq] at h8;rw[h8,h2];exact .ms (by rw[h1];rfl) t2 h6
  ·rw[if_neg (by simp only[xab,xai];omega)] at h8;have hjc:j<cs.length:=by omega
   rw[List.getElem?_eq_getElem hjc] at h8;rw[Option.some.inj h8];exact hturn.cell hr hb (List.getElem_mem hjc) (e5 j hjc hjv)
 ·rw[g2] at hri;cases hri
  have hfl:(xs.flatten.map AV.d).length=xs.length*k:=by rw[xac,zd5 hkx]
  refine⟨b1,us,et,h1,h4,by rw[hfl];exact Nat.le_trans (Nat.mul_le_mul_right _ h6) h5,h3,fun j hj hjv=>?_⟩;rw[hfl] at hj;obtain⟨d1,d2,d3⟩:=zlU hj;have h8:=zgK hkx d1 d2;rw[d3,List.getElem?_eq_getElem (by rw[hfl];exact hj)] at h8;rw[Option.some.inj h8];have h9:=h7 _ d1 (j % k) (by rw[hkx _ (List.getElem_mem d1)];exact d2);rw[d3,zgi hjv] at h9;exact .d h9
end
mutual
theorem Val.ok_sz:∀v:Val,v.size<=1000000000000->v.ok
 | .mk a n ks,h=>by
  have h1:1+Vals.size ks<=1000000000000:=h;exact⟨by have:=Vals.len_sz ks;omega,Vals.ok_sz ks (by omega)⟩
theorem Vals.ok_sz:∀l:List Val,Vals.size l<=1000000000000->Vals.ok l
 | [],_=>trivial
 |v::r,h=>by
  have h1:v.size+Vals.size r<=1000000000000:=h;exact⟨Val.ok_sz v (by omega),Vals.ok_sz r (by omega)⟩
theorem Vals.len_sz:∀l:List Val,l.length<=Vals.size l
 | []=>Nat.zero_le _
 |v::r=>by
  have h1:=Vals.len_sz r;have h2:=Val.size_eq v;show r.length+1<=v.size+Vals.size r
  omega
end
theorem Val.cs_app (a b:List Val):Val.cs (a++b)=Val.cs a++Val.cs b:=by rw[Val.cs_eq,Val.cs_eq,Val.cs_eq,xaf]
theorem cut0 {l:List (List D)}{x:List D}{r:List (List D)}{k:Nat} (h:l=x::r) (hx:x.length=k):cutC (l.flatten.map AV.d) 0 k=some (x.map .d):=by
 subst h;rw[List.flatten_cons,xaf];exact zeK (by simpa using hx)
inductive Ex where
 |mk (op n ctor:Int) (kids:List Ex)
 deriving Inhabited
mutual
def Ex.c:Ex->List D
 | .mk op n ctor kids=>[.i op,.i n,.i ctor,.sl (Ex.cs kids)]
def Ex.cs:List Ex->List (List D)
 | []=>[]
 |v::r=>v.c::Ex.cs r
end
abbrev zaX (l:List Ex):D:= .sl (Ex.cs l)
theorem Ex.cs_eq:∀l:List Ex,Ex.cs l=l.map Ex.c
 | []=>rfl
 |v::r=>by simp[Ex.cs,Ex.cs_eq r]
theorem Ex.cs_len (l:List Ex):(Ex.cs l).length=l.length:=by simp[Ex.cs_eq]
def Ex.op:Ex->Int | .mk a0 _ _ _=>a0
def Ex.n:Ex->Int | .mk _ a1 _ _=>a1
def Ex.ctor:Ex->Int | .mk _ _ a2 _=>a2
def Ex.kids:Ex->List Ex | .mk _ _ _ k=>k
abbrev Ex.cc (v:Ex):List D:=[.i v.op,.i v.n,.i v.ctor,.sl (Ex.cs v.kids)]
theorem Ex.c_eq (v:Ex):v.c=v.cc:=by cases v;rfl
theorem Ex.eta (v:Ex):Ex.mk v.op v.n v.ctor v.kids=v:=by cases v;rfl
theorem Ex.cs_at' {pre:List Ex}{x:Ex}{rest xs:List Ex} (h:pre++x::rest=xs):(Ex.cs xs)[pre.length]?=some x.cc:=by rw[Ex.cs_eq,<-Ex.c_eq];exact zaH h
mutual
def exEq:Ex->Ex->Bool
 | .mk a0 a1 a2 ks,.mk b0 b1 b2 ls=>decide (a0=b0)&&(decide (a1=b1)&&(decide (a2=b2)&&zmR ks ls))
def zmR:List Ex->List Ex->Bool
 | [],[]=>true
 |x::r,y::s=>exEq x y&&zmR r s
 |_,_=>false
end
mutual
def Ex.ok:Ex->Prop
 | .mk _ _ _ ks=>ks.length<=1000000000000/\Exs.ok ks
def Exs.ok:List Ex->Prop
 | []=>True
 |v::r=>v.ok/\Exs.ok r
end
theorem Exs.ok_mem:∀ {l:List Ex},Exs.ok l->∀v,v∈l->v.ok
 |x::r,h,v,hv=>by
  simp only[Exs.ok] at h;rcases List.mem_cons.1 hv with rfl|hv
  ·exact h.1
  ·exact Exs.ok_mem h.2 v hv
mutual
def Ex.size:Ex->Nat
 | .mk _ _ _ ks=>1+Exs.size ks
def Exs.size:List Ex->Nat
 | []=>0
 |v::r=>v.size+Exs.size r
end
theorem Exs.size_mem:∀ {l:List Ex}{v:Ex},v∈l->v.size<=Exs.size l
 |x::r,v,hv=>by
  simp only[Exs.size];rcases List.mem_cons.1 hv with rfl|hv
  ·omega
  ·have:=Exs.size_mem hv;omega
theorem zdL {l:List Ex}{i:Nat} (h:i<l.length):(Ex.cs l)[i]?=some (nth l i).cc:=by
 rw[Ex.cs_eq,<-Ex.c_eq];exact zae h
theorem Ex.ok_iff (v:Ex):v.ok↔v.kids.length<=1000000000000/\Exs.ok v.kids:=by cases v;rfl
theorem Ex.size_eq (v:Ex):v.size=1+Exs.size v.kids:=by cases v;rfl
mutual
theorem zp0:∀v:Ex,exEq v v=true
 | .mk _ _ _ ks=>by simp[exEq,zkx ks]
theorem zkx:∀l:List Ex,zmR l l=true
 | []=>rfl
 |v::r=>by simp[zmR,zp0 v,zkx r]
end
theorem Ex.cs_cc (l:List Ex):Ex.cs l=l.map Ex.cc:=by
 rw[Ex.cs_eq];exact List.map_congr_left (fun v _=>Ex.c_eq v)
mutual
def mEx:Ex->Nat
 | .mk _ _ _ ks=>mExs ks
def mExs:List Ex->Nat
 | []=>0
 |v::r=>1+mEx v+mExs r
end
structure Gd where
 op:Int
 var:Int
 n:Int
 deriving Inhabited
structure Cl where
 pat:Pat
 g:Gd
 deriving Inhabited
structure Ft where
 arg:Ty
 res:Ty
 deriving Inhabited
structure Fu where
 ty:Ft
 cls:List Cl
 bodies:List Ex
 deriving Inhabited
abbrev Cl.c (x:Cl):List D:=[.i x.pat.op,.i x.pat.ctor,.i x.pat.n,.i x.pat.m,.i x.pat.var,.sl (Pat.cs x.pat.kids),.i x.g.op,.i x.g.var,.i x.g.n]
abbrev zcZ (l:List Cl):D:= .sl (l.map Cl.c)
abbrev Ft.c (x:Ft):List D:=[.i x.arg.data,.i x.arg.index,.i x.res.data,.i x.res.index]
abbrev zbq (l:List Ft):D:= .sl (l.map Ft.c)
abbrev Fu.c (x:Fu):List D:=[.i x.ty.arg.data,.i x.ty.arg.index,.i x.ty.res.data,.i x.ty.res.index,zcZ x.cls,zaX x.bodies]
abbrev zbs (l:List Fu):D:= .sl (l.map Fu.c)
def ClsOk (l:List Cl):Prop:=l.length<=1000000000000/\∀c∈l,c.pat.ok
def FuOk (f:Fu):Prop:=ClsOk f.cls/\f.bodies.length<=1000000000000/\Exs.ok f.bodies
def FusOk (l:List Fu):Prop:=l.length<=1000000000000/\∀f∈l,FuOk f
def zgJ (a b:Ty):Bool:=decide (a.data=b.data)&&(decide (b.index=0)||decide (a.index=b.index))
def zaz (w:List Data) (funs:List Ft) (t:Ty) (e:Ex):List Ty:=
 if e.op=3 then (if e.n=0/\e.ctor∈zaJ w t then zaq w t e.ctor else [])
 else if e.op=4 then [t,t]
 else if e.op=5 then (if 0<=e.n/\e.n<(funs.length:Int)/\e.ctor=0 then [(nth funs e.n.toNat).arg] else [])
 else []
def zfA (vars:List Vt) (n:Int):Ty:=if 0<=zaV vars n then (nth vars (zaV vars n).toNat).ty else ⟨0,0⟩
def okE (w:List Data) (funs:List Ft) (vars:List Vt) (t:Ty) (e:Ex):Bool:=
 if e.op=1 then decide (t.data = -1/\0<=e.n/\e.n<=9/\e.ctor=0)
 else if e.op=2 then decide (0<=zaV vars e.n)&&(zgJ (zfA vars e.n) t&&decide (e.ctor=0))
 else if e.op=3 then decide (e.n=0/\e.ctor∈zaJ w t)
 else if e.op=4 then decide (t.data = -1/\e.n=0/\e.ctor=0)
 else if e.op=5 then decide (0<=e.n/\e.n<(funs.length:Int)/\e.ctor=0)&&zgJ (nth funs e.n.toNat).res t
 else false
section
variable {w:List Data}{funs:List Ft}{vars:List Vt}{t:Ty}{e:Ex}
theorem ty_0 (h:e.op≠3/\e.op≠4/\e.op≠5):zaz w funs t e=[]:=by unfold zaz;rw[if_neg h.1,if_neg h.2.1,if_neg h.2.2]
theorem ty_3 (h:e.op=3) (h2:e.n=0) (h3:e.ctor∈zaJ w t):zaz w funs t e=zaq w t e.ctor:=by unfold zaz;rw[if_pos h,if_pos ⟨h2,h3⟩]
theorem zrO (h:e.op=3) (h2:e.n≠0):zaz w funs t e=[]:=by unfold zaz;rw[if_pos h,if_neg (fun hh=>h2 hh.1)]
theorem zrN (h:e.op=3) (h2:e.ctor∉zaJ w t):zaz w funs t e=[]:=by unfold zaz;rw[if_pos h,if_neg (fun hh=>h2 hh.2)]
theorem ty_4 (h:e.op=4):zaz w funs t e=[t,t]:=by unfold zaz;rw[if_neg (by omega),if_pos h]
theorem ty_5 (h:e.op=5) (h2:0<=e.n/\e.n<(funs.length:Int)/\e.ctor=0):zaz w funs t e=[(nth funs e.n.toNat).arg]:=by unfold zaz;rw[if_neg (by omega),if_neg (by omega),if_pos h,if_pos h2]
theorem zjd (h:e.op=5) (h2:¬(0<=e.n/\e.n<(funs.length:Int)/\e.ctor=0)):zaz w funs t e=[]:=by unfold zaz;rw[if_neg (by omega),if_neg (by omega),if_pos h,if_neg h2]
theorem ok_1 (h:e.op=1):okE w funs vars t e=decide (t.data = -1/\0<=e.n/\e.n<=9/\e.ctor=0):=by unfold okE;rw[if_pos h]
theorem ok_2 (h:e.op=2):okE w funs vars t e=(decide (0<=zaV vars e.n)&&(zgJ (zfA vars e.n) t&&decide (e.ctor=0))):=by unfold okE;rw[if_neg (by omega),if_pos h]
theorem ok_3 (h:e.op=3):okE w funs vars t e=decide (e.n=0/\e.ctor∈zaJ w t):=by unfold okE;rw[if_neg (by omega),if_neg (by omega),if_pos h]
theorem ok_4 (h:e.op=4):okE w funs vars t e=decide (t.data = -1/\e.n=0/\e.ctor=0):=by unfold okE;rw[if_neg (by omega),if_neg (by omega),if_neg (by omega),if_pos h]
theorem ok_5 (h:e.op=5):okE w funs vars t e=(decide (0<=e.n/\e.n<(funs.length:Int)/\e.ctor=0)&&zgJ (nth funs e.n.toNat).res t):=by unfold okE;rw[if_neg (by omega),if_neg (by omega),if_neg (by omega),if_neg (by omega),if_pos h]
theorem ok_0 (h:e.op≠1/\e.op≠2/\e.op≠3/\e.op≠4/\e.op≠5):okE w funs vars t e=false:=by unfold okE;rw[if_neg h.1,if_neg h.2.1,if_neg h.2.2.1,if_neg h.2.2.2.1,if_neg h.2.2.2.2]
end
def zc2 (w:List Data) (funs:List Ft) (vars:List Vt) (t:Ty) (e:Ex):Bool:=okE w funs vars t e&&decide ((zaz w funs t e).length=e.kids.length)
def zbr (w:List Data) (funs:List Ft) (vars:List Vt):Nat->Ty->Ex->Bool
 |0,_,_=>false
 |n+1,t,e=>zc2 w funs vars t e&&all2 (zbr w funs vars n) (zaz w funs t e) e.kids
def zcz (g:Ty->Ex->Int->Bool×Int):List Ty->List Ex->Int->Bool×Int
 |a::r,b::s,c=>if (g a b c).1 then zcz g r s (g a b c).2 else (false,(g a b c).2)
 |_,_,c=>(true,c)
def zbh (w:List Data) (funs:List Ft) (vars:List Vt):Nat->Ty->Ex->Int->Bool×Int
 |0,_,_,c=>(false,c+1)
 |n+1,t,e,c=>if 60<c+1 then (false,c+1)
   else if zc2 w funs vars t e=true then zcz (zbh w funs vars n) (zaz w funs t e) e.kids (c+1) else (false,c+1)
theorem zn0 {w:List Data}{funs:List Ft}{vars:List Vt}{n:Nat} (ih:∀t e c,(zbh w funs vars n t e c).1=(zbr w funs vars n t e&&decide (c+(e.size:Int)<=60))/\((zbh w funs vars n t e c).1=true->(zbh w funs vars n t e c).2=c+e.size)):
  ∀(a:List Ty) (b:List Ex) (c:Int),a.length=b.length->c<=60->(zcz (zbh w funs vars n) a b c).1=(all2 (zbr w funs vars n) a b&&decide (c+(Exs.size b:Int)<=60))/\((zcz (zbh w funs vars n) a b c).1=true->(zcz (zbh w funs vars n) a b c).2=c+Exs.size b)
 | [],[],c,_,hc=>by simp[zcz,all2,Exs.size,hc]
 |x::r,y::s,c,hl,hc=>by
  obtain⟨h1,h2⟩:=ih x y c;simp only[zcz,all2,Exs.size];cases hh:(zbh w funs vars n x y c).1 with
  |true=>
   have h3:=h2 hh;rw[hh] at h1;have h4:=h1.symm;simp only[xad,decide_eq_true_eq] at h4;obtain⟨h5,h6⟩:=zn0 ih r s (zbh w funs vars n x y c).2 (by simpa using hl) (by omega);simp only[if_true];rw[h5];refine⟨?_,fun hx=>?_⟩
   ·rw[h4.1,h3,Bool.true_and];congr 1
    exact decide_eq_decide.2 (by push_cast;omega)
   ·rw[<-h5] at hx;rw[h6 hx,h3];push_cast;omega
  |false=>
   rw[hh] at h1;simp only[Bool.false_eq_true,if_false,false_implies,and_true];have h4:=h1.symm;simp only[Bool.and_eq_false_imp,decide_eq_false_iff_not] at h4;symm
   cases hf:zbr w funs vars n x y with
   |false=>simp
   |true=>
    have:=h4 hf;have h7:¬(c+((y.size+Exs.size s:Nat):Int)<=60):=by push_cast;omega
    simp only[Bool.and_eq_false_imp];intro _;exact decide_eq_false h7
 | [],_::_,_,hl,_=>by simp at hl
 |_::_,[],_,hl,_=>by simp at hl
theorem zjY (w:List Data) (funs:List Ft) (vars:List Vt):∀(n:Nat) (t:Ty) (e:Ex) (c:Int),(zbh w funs vars n t e c).1=(zbr w funs vars n t e&&decide (c+(e.size:Int)<=60))/\((zbh w funs vars n t e c).1=true->(zbh w funs vars n t e c).2=c+e.size)
 |0,t,e,c=>by simp[zbh,zbr]
 |n+1,t,e,c=>by
  have hsz:=Ex.size_eq e;unfold zbh zbr;by_cases h1:60<c+1
  ·rw[if_pos h1];simp only[Bool.false_eq_true,false_implies,and_true];symm
   simp only[Bool.and_eq_false_imp,decide_eq_false_iff_not];intro _;omega
  ·rw[if_neg h1];by_cases h3:zc2 w funs vars t e=true
   ·rw[if_pos h3,h3,Bool.true_and];have h4:(zaz w funs t e).length=e.kids.length:=by
     unfold zc2 at h3;rw[xad] at h3;exact of_decide_eq_true h3.2
    obtain⟨h5,h6⟩:=zn0 (fun t e c=>zjY w funs vars n t e c) (zaz w funs t e) e.kids (c+1) h4 (by omega);refine⟨?_,fun hx=>?_⟩
    ·rw[h5];congr 1
     exact decide_eq_decide.2 (by omega)
    ·rw[h6 hx];omega
   ·rw[if_neg h3];simp[h3]
def isE (w:List Data) (funs:List Ft) (vars:List Vt) (t:Ty) (e:Ex):Bool:=zbr w funs vars 10 t e&&decide ((e.size:Int)<=60)
theorem zts (w:List Data) (funs:List Ft) (vars:List Vt) (t:Ty) (e:Ex):(zbh w funs vars 10 t e 0).1=isE w funs vars t e:=by
 rw[(zjY w funs vars 10 t e 0).1,Int.zero_add];rfl
mutual
def cntE (m:Int):Ex->Int
 | .mk _ _ _ ks=>zcX m 1 ks
def zcX (m n:Int):List Ex->Int
 | []=>n
 |k::r=>if n<=m then zcX m (n+cntE (m-n) k) r else n
end
theorem zr0 (m:Int) (v:Ex):cntE m v=zcX m 1 v.kids:=by cases v;rfl
theorem zku {m n:Int}{l:List Ex} (h:¬n<=m):zcX m n l=n:=by cases l<;>simp[zcX,h]
mutual
theorem zgh:∀(v:Ex) (m:Int),1<=cntE m v/\cntE m v<=v.size
 | .mk _ _ _ ks,m=>by
  have:=zjE ks m 1 (by omega);simp only[cntE,Ex.size];push_cast;omega
theorem zjE:∀(l:List Ex) (m n:Int),1<=n->1<=zcX m n l/\zcX m n l<=n+Exs.size l
 | [],m,n,h=>by simp[zcX,Exs.size];omega
 |k::r,m,n,h=>by
  have h1:=zgh k (m-n);have h2:=zjE r m (n+cntE (m-n) k) (by omega);simp only[zcX,Exs.size];split
  ·push_cast;omega
  ·push_cast;omega
end
mutual
theorem znj:∀(v:Ex) (m:Int),(cntE m v<=m↔(v.size:Int)<=m)/\(cntE m v<=m->cntE m v=v.size)
 | .mk _ _ _ ks,m=>by
  have:=zlQ ks m 1;simp only[cntE,Ex.size];push_cast;exact this
theorem zlQ:∀(l:List Ex) (m n:Int),(zcX m n l<=m↔n+(Exs.size l:Int)<=m)/\(zcX m n l<=m->zcX m n l=n+Exs.size l)
 | [],m,n=>by simp[zcX,Exs.size]
 |k::r,m,n=>by
  have h1:=znj k (m-n);have h2:=zlQ r m (n+cntE (m-n) k);have h3:=zjE r m (n+cntE (m-n) k);have h4:=zgh k (m-n);simp only[zcX,Exs.size];push_cast
  by_cases hn:n<=m
  ·rw[if_pos hn];by_cases h5:cntE (m-n) k<=m-n
   ·have h6:=h1.2 h5;rw[h6] at h2 ⊢;constructor
    ·rw[h2.1];constructor<;>intro h<;>omega
    ·intro h;rw[h2.2 h];omega
   ·have h7:¬(k.size:Int)<=m-n:=fun h=>h5 (h1.1.2 h);have h8:¬n+cntE (m-n) k<=m:=by omega
    rw[zku h8];constructor
    ·constructor<;>intro h<;>omega
    ·intro h;omega
  ·rw[if_neg hn];constructor
   ·constructor<;>intro h<;>omega
   ·intro h;omega
end
theorem zlV {l:List Ex}{i:Nat} (h:i<l.length):(nth l i).size<=Exs.size l:=Exs.size_mem (zaj h)
theorem zf0 {l:List Ex}{i:Nat} (h:i<l.length):Exs.size (l.drop i)=(nth l i).size+Exs.size (l.drop (i+1)):=by
 rw[zbd h];rfl
def TyOk (n:Nat) (t:Ty):Prop:=TyIn n t/\(t.data = -1->t.index=0)
def zbC (w:List Data) (l:List Ft):Bool:=decide ((l.length:Int)<=4)&& !l.any fun f=> !(za8 w.length f.arg&&za8 w.length f.res)
def gdOk (g:Gd) (vars:List Vt):Bool:=if g.op=0 then decide (g.var=0/\g.n=0) else decide (1<=g.op/\g.op<=2/\0<=g.n/\g.n<=9)&&decide ((⟨g.var,⟨-1,0⟩⟩:Vt)∈vars)
def zbu (w:List Data) (t:Ty) (p:Pat):List Vt:=zdl (zaK w 10 t p 0).1
def clOk (w:List Data) (t:Ty) (c:Cl):Bool:=isP w t c.pat&&gdOk c.g (zbu w t c.pat)
def za7 (w:List Data) (t:Ty) (l:List Cl):Bool:=zba w t&&(decide ((l.length:Int)<=8)&& !l.any fun c=> !clOk w t c)
def zhy (w:List Data) (funs:List Ft) (f:Fu):Bool:=all2 (fun c e=>isE w funs (zbu w f.ty.arg c.pat) f.ty.res e) f.cls f.bodies
def zbD (w:List Data) (funs:List Ft) (f:Fu):Bool:=za7 w f.ty.arg f.cls&&zhy w funs f
def zbe (w:List Data) (l:List Fu):Bool:=zaC w&&(zbC w (l.map Fu.ty)&&l.all (zbD w (l.map Fu.ty)))
theorem zms {w:List Data} (hw:WT w){funs:List Ft} (hf:∀f∈funs,TyIn w.length f.arg){t:Ty} (ht:TyIn w.length t){e:Ex}:∀u∈zaz w funs t e,TyIn w.length u:=by
 intro u hu;unfold zaz at hu;split at hu
 ·split at hu
  ·rename_i h;obtain⟨d,h1,h2,h3⟩:=zbA (a:=t.data) (k:=t.index) ht h.2;have:t=⟨(d:Int),t.index⟩:=by rw[<-h1]
   rw[this] at hu;exact zim hw h2 h3 hu
  ·simp at hu
 ·split at hu
  ·simp only[List.mem_cons,List.not_mem_nil,or_false,or_self] at hu;rw[hu];exact ht
  ·split at hu
   ·split at hu
    ·rename_i h;simp only[List.mem_cons,List.not_mem_nil,or_false] at hu;rw[hu];exact hf _ (zaj (by omega))
    ·simp at hu
   ·simp at hu
theorem zrW {w:List Data} (hw:WT w){t:Ty}{c:Int} (ht:TyIn w.length t) (hc:c∈zaJ w t):(zaq w t c).length<=1000000000000:=by
 obtain⟨d,h1,h2,j,h3,h4⟩:=zbA (a:=t.data) (k:=t.index) ht hc;have:=(hw.small.ctor _ (zaj h2) _ (zaj h4)).2;unfold zaq;rw[h1,h3];simpa using this
theorem zlk {w:List Data} (hw:WT w){funs:List Ft}{t:Ty} (ht:TyIn w.length t){e:Ex}:(zaz w funs t e).length<=1000000000000:=by
 unfold zaz;split
 ·split
  ·rename_i h;exact zrW hw ht h.2
  ·simp
 ·split
  ·simp
  ·split
   ·split<;>simp
   ·simp
theorem zif {x:Vt}{n:Int}:FnD Tryz.prog 241 [.agg [.d (.i x.var),.d (.i x.ty.data),.d (.i x.ty.index)],.ref 3003 0] [(3003,some (.box [.d (.i n)]))] (.d (.bool (decide (x.var=n)))) []:=by
 refine bd Tryz.f241 8 [] [] fun w0 F0 own kept hk=>?_;refine bx 3001 ?_;refine ev ?_;refine rn [] (r1 rfl) (.eqd ?_) ⟨rfl,rfl⟩ (SubH.get ⟨rfl,trivial⟩) (fun _ h=>h);rotate_left;all_goals (rfl)
theorem zfV {wdd fd:D}{vars:List Vt}{n:Int} (hv:vars.length<=1000000000000):
  FnD Tryz.prog 185 [.agg [.d wdd,.d fd,.d (zbt vars)],.d (.i n)] [] (.tup [.agg [.d (.i (zfA vars n).data),.d (.i (zfA vars n).index)],.d (.bool (decide (0<=zaV vars n)))]) []:=by
 have hlt:=fun h=>zgu (l:=vars) (n:=n) h;refine bd Tryz.f185 20 [] [] fun w0 F0 own kept hk=>?_;refine bx 3002 ?_;refine bx 3003 ?_;refine ab 3004 tz29 ?_;refine ev ?_;refine xaG (xs:=[_]) rfl .none rfl rfl ?_;refine wd zpN (zex (p:=fun v=>decide (v.var=n)) hv zsS (fun t _=>zif) ⟨rfl,trivial⟩ rfl rfl) rfl rfl ⟨rfl,trivial⟩ ?_;refine ev ?_;refine sq ?_ ?_<;>intro h1 h1p h1s<;>(try simp only[Q] at h1p);refine bu [] [] st29 ?_;refine so ty29 ?_;refine ev ?_;refine rn0 (.cons (.cellA ty29 rfl rfl rfl) (.cons (.tmp rfl) .nil)) (.tup (.cons (.agg (.cons (.eqd ?_) (.cons (.eqd ?_) .nil))) (.cons (.eqd ?_) .nil)));rotate_left 3;refine Walk.idx (i:=(zaV vars n).toNat) sl66 .none rfl rfl rfl (by have:=hlt (by show 0<=idxF _ _ _;omega);exact this.2.symm) (zae (i:=(zaV vars n).toNat) (by have:=hlt (by show 0<=idxF _ _ _;omega);omega)) rfl ?_;refine ev ?_;refine so ty29 ?_;refine ev ?_;refine rn0 (.cons (.cellA ty29 rfl rfl rfl) (.cons (.tmp rfl) .nil)) (.tup (.cons (.agg (.cons (.eqd ?_) (.cons (.eqd ?_) .nil))) (.cons (.eqd ?_) .nil)));rotate_left 3;all_goals (first|(unfold zfA;rw[if_neg (by show ¬0<=idxF _ _ _;omega)];done)|(unfold zfA;rw[if_pos (by show 0<=idxF _ _ _;omega)];done)|(refine congrArg D.bool (decide_eq_false ?_).symm;show ¬0<=idxF _ _ _;omega)|(refine congrArg D.bool (decide_eq_true ?_).symm;show 0<=idxF _ _ _;omega))
theorem zez {a b:Ty}:FnD Tryz.prog 186 [.agg [.d (.i a.data),.d (.i a.index)],.agg [.d (.i b.data),.d (.i b.index)]] [] (.d (.bool (zgJ a b))) []:=by
 refine bd Tryz.f186 22 [] [] fun w0 F0 own kept hk=>?_;refine bx 3002 ?_;refine bx 3003 ?_;refine ev ?_;refine sq ?_ ?_<;>intro h1 h1p h1s<;>(try simp only[Q] at h1p);refine sq ?_ ?_<;>intro h2 h2p h2s<;>(try simp only[Q] at h2p);refine rq ?_;rotate_left;refine rq ?_;rotate_left;refine rq ?_;rotate_left;all_goals (refine congrArg D.bool ?_;unfold zgJ;simp_all)
theorem zny {w:List Data}{funs:List Ft}{vars:List Vt} (hw:WT w) (hfl:funs.length<=1000000000000) (hvl:vars.length<=1000000000000){t:Ty} (ht:TyIn w.length t){e:Ex}:
  FnD Tryz.prog 131 [.agg [.d (zak w),.d (zbq funs),.d (zbt vars)],.agg [.d (.i t.data),.d (.i t.index)],.agg [.d (.i e.op),.d (.i e.n),.d (.i e.ctor),.d (zaX e.kids)]] [] (.tup [.d (zbI (zaz w funs t e)),.d (.bool (okE w funs vars t e))]) []:=by
 have ht':TyIn w.length ⟨t.data,t.index⟩:=ht;have hcl:=ze8 hw ht';have htd:t.data = -1->e.ctor∉zaJ w t:=fun h=>by unfold zaJ;rw[if_pos h];simp
 by_cases hmem:e.ctor∈zaJ w t
 ·have hmem':e.ctor∈zaJ w ⟨t.data,t.index⟩:=hmem;have hcon:=zcb (v:=e.ctor) hcl;rw[decide_eq_true hmem'] at hcon;refine bd Tryz.f131 118 [] [] fun w0 F0 own kept hk=>?_;refine bx 3003 ?_;refine bx 3004 ?_;refine bx 3005 ?_;refine ev ?_;refine sq ?_ ?_<;>intro h1 h1p h1s<;>(try simp only[Q,zal] at h1p);refine sq ?_ ?_<;>intro h2 h2p h2s<;>(try simp only[Q,zal] at h2p);refine Walk.call (cr:=[]) zdx (za3) rfl (.some rfl rfl h2) rfl rfl (LeL.refl _) trivial rfl rfl rfl ?_;refine evd [] [(17,true)] ?_ ⟨⟨_,rfl,h2⟩,trivial⟩;refine sq ?_ ?_<;>intro h3 h3p h3s<;>(try simp only[Q,zal] at h3p);refine dr ?_;refine rn0 (r2 rfl rfl) (.tup (.cons (.nild ?_) (.cons (.eqd ?_) .nil)));rotate_left 2;refine dr ?_;refine rn0 (r2 rfl rfl) (.tup (.cons (.nild ?_) (.cons (.eqd ?_) .nil)));rotate_left 2;refine sqF ?_;refine dr ?_;refine rn0 (r2 rfl rfl) (.tup (.cons (.nild ?_) (.cons (.eqd ?_) .nil)));rotate_left 2;refine sq ?_ ?_<;>intro h4 h4p h4s<;>(try simp only[Q,zal] at h4p);refine wc zpJ (zfV hvl) rfl rfl ?_;refine ev ?_;refine ab 3008 tz29 ?_;refine so ty29 ?_;refine ev ?_;refine sq ?_ ?_<;>intro h5 h5p h5s<;>(try simp only[Q,zal] at h5p);refine Walk.call (cr:=[]) zkj (zez (a:=zfA vars e.n) (b:=t)) rfl (.some rfl rfl h5) rfl rfl (LeL.refl _) trivial rfl rfl rfl ?_;refine evd [] [(37,true)] ?_ ⟨⟨_,rfl,h5⟩,trivial⟩;refine sq ?_ ?_<;>intro h6 h6p h6s<;>(try simp only[Q,zal] at h6p);refine dr ?_;refine rn0 (r2 rfl rfl) (.tup (.cons (.nild ?_) (.cons (.eqd ?_) .nil)));rotate_left 2;refine dr ?_;refine rn0 (r2 rfl rfl) (.tup (.cons (.nild ?_) (.cons (.eqd ?_) .nil)));rotate_left 2;refine sqF ?_;refine dr ?_;refine rn0 (r2 rfl rfl) (.tup (.cons (.nild ?_) (.cons (.eqd ?_) .nil)));rotate_left 2;refine sq ?_ ?_<;>intro h7 h7p h7s<;>(try simp only[Q,zal] at h7p);refine sq ?_ ?_<;>intro h8 h8p h8s<;>(try simp only[Q,zal] at h8p);refine dr ?_;refine sqT ?_;refine rn0 (r2 rfl rfl) (.tup (.cons (.nild ?_) (.cons (.eqd ?_) .nil)));rotate_left 2;refine Walk.call (cr:=[]) zkf (zek hw ht') rfl (.some rfl rfl h8) rfl rfl (LeL.refl _) trivial rfl rfl rfl ?_;refine evd [] [(52,false)] ?_ ⟨⟨_,rfl,h8⟩,trivial⟩;refine Walk.call (cr:=[]) zkk (hcon) rfl (.some rfl rfl h8) rfl rfl (LeL.refl _) trivial rfl rfl rfl ?_;refine evd [] [(52,false)] ?_ ⟨⟨_,rfl,h8⟩,trivial⟩;refine dr ?_;refine sq ?_ ?_<;>intro h10 h10p h10s<;>(try simp only[Q,zal] at h10p);refine rn0 (r2 rfl rfl) (.tup (.cons (.nild ?_) (.cons (.eqd ?_) .nil)));rotate_left 2;refine wc zpD (zgM hw ht' hmem') rfl rfl ?_;refine ev ?_;refine rn0 (r2 rfl rfl) (.tup (.cons (.eqd ?_) (.cons (.eqd ?_) .nil)));rotate_left 2;refine sq ?_ ?_<;>intro h11 h11p h11s<;>(try simp only[Q,zal] at h11p);refine si [0,1] [_,_] zax tz29 ?_;refine evd [] [] ?_;refine sq ?_ ?_<;>intro h12 h12p h12s<;>(try simp only[Q,zal] at h12p);refine sq ?_ ?_<;>intro h13 h13p h13s<;>(try simp only[Q,zal] at h13p);refine dr ?_;refine rn0 (r2 rfl rfl) (.tup (.cons (.eqd ?_) (.cons (.eqd ?_) .nil)));rotate_left 2;refine dr ?_;refine rn0 (r2 rfl rfl) (.tup (.cons (.eqd ?_) (.cons (.eqd ?_) .nil)));rotate_left 2;refine sqF ?_;refine dr ?_;refine rn0 (r2 rfl rfl) (.tup (.cons (.eqd ?_) (.cons (.eqd ?_) .nil)));rotate_left 2;refine sq ?_ ?_<;>intro h14 h14p h14s<;>(try simp only[Q,zal] at h14p);refine ar ?_;refine wc zdx (za3) rfl rfl ?_;refine ev ?_;refine sq ?_ ?_<;>intro h15 h15p h15s<;>(try simp only[Q,zal] at h15p);refine sqT ?_;refine rn0 (r2 rfl rfl) (.tup (.cons (.nild ?_) (.cons (.eqd ?_) .nil)));rotate_left 2;refine sq ?_ ?_<;>intro h17 h17p h17s<;>(try simp only[Q,zal] at h17p);refine rn0 (r2 rfl rfl) (.tup (.cons (.nild ?_) (.cons (.eqd ?_) .nil)));rotate_left 2;refine Walk.idx (i:=e.n.toNat) sl63 .none rfl rfl rfl (by omega) (zae (i:=e.n.toNat) (by omega)) rfl ?_;refine evd [] [] ?_;refine si [0] [_] zax tz29 ?_;refine evd [] [] ?_;refine Walk.idx (i:=e.n.toNat) sl63 .none rfl rfl rfl (by omega) (zae (i:=e.n.toNat) (by omega)) rfl ?_;refine evd [] [] ?_;refine wc zkj (zez (a:=(nth funs e.n.toNat).res) (b:=t)) rfl rfl ?_;refine evd [] [] ?_;refine dr ?_;refine rn0 (r2 rfl rfl) (.tup (.cons (.eqd ?_) (.cons (.eqd ?_) .nil)));rotate_left 2;refine rn0 (r2 rfl rfl) (.tup (.cons (.nild ?_) (.cons (.eqd ?_) .nil)));rotate_left 2;all_goals (first|rfl|(rw[ty_0 (by omega)];all_goals rfl)|(rw[zrO (by omega) (by omega)];all_goals rfl)|(rw[ty_3 (by omega) (by omega) hmem];all_goals rfl)|(rw[ty_4 (by omega)];all_goals rfl)|(rw[zjd (by omega) (by omega)];all_goals rfl)|(rw[ty_5 (by omega) (by omega)];all_goals rfl)|(refine congrArg D.bool ?_;rw[ok_1 (by omega)];simp_all;done)|(refine congrArg D.bool ?_;rw[ok_1 (by omega)];simp_all[zal];omega)|(rw[zjd (by omega) (by intro hh;simp_all[zal];omega)];all_goals rfl)|(refine congrArg D.bool ?_;rw[ok_5 (by omega),decide_eq_false (by intro hh;simp_all[zal];omega),Bool.false_and];done)|(refine congrArg D.bool ?_;rw[ok_2 (by omega),decide_eq_false (by omega),Bool.false_and];done)|(refine congrArg D.bool ?_;rw[ok_2 (by omega)];simp_all;done)|(refine congrArg D.bool ?_;rw[ok_3 (by omega)];simp_all;done)|(refine congrArg D.bool ?_;rw[ok_4 (by omega)];simp_all;done)|(refine congrArg D.bool ?_;rw[ok_5 (by omega)];first|(rw[decide_eq_true (by omega),Bool.true_and];done)|(rw[decide_eq_false (by omega),Bool.false_and];done))|(refine congrArg D.bool ?_;rw[ok_0 (by omega)];done)|(exfalso;simp_all;done))
 ·have hmem':e.ctor∉zaJ w ⟨t.data,t.index⟩:=hmem;have hcon:=zcb (v:=e.ctor) hcl;rw[decide_eq_false hmem'] at hcon;refine bd Tryz.f131 118 [] [] fun w0 F0 own kept hk=>?_;refine bx 3003 ?_;refine bx 3004 ?_;refine bx 3005 ?_;refine ev ?_;refine sq ?_ ?_<;>intro h1 h1p h1s<;>(try simp only[Q,zal] at h1p);refine sq ?_ ?_<;>intro h2 h2p h2s<;>(try simp only[Q,zal] at h2p);refine Walk.call (cr:=[]) zdx (za3) rfl (.some rfl rfl h2) rfl rfl (LeL.refl _) trivial rfl rfl rfl ?_;refine evd [] [(17,true)] ?_ ⟨⟨_,rfl,h2⟩,trivial⟩;refine sq ?_ ?_<;>intro h3 h3p h3s<;>(try simp only[Q,zal] at h3p);refine dr ?_;refine rn0 (r2 rfl rfl) (.tup (.cons (.nild ?_) (.cons (.eqd ?_) .nil)));rotate_left 2;refine dr ?_;refine rn0 (r2 rfl rfl) (.tup (.cons (.nild ?_) (.cons (.eqd ?_) .nil)));rotate_left 2;refine sqF ?_;refine dr ?_;refine rn0 (r2 rfl rfl) (.tup (.cons (.nild ?_) (.cons (.eqd ?_) .nil)));rotate_left 2;refine sq ?_ ?_<;>intro h4 h4p h4s<;>(try simp only[Q,zal] at h4p);refine wc zpJ (zfV hvl) rfl rfl ?_;refine ev ?_;refine ab 3008 tz29 ?_;refine so ty29 ?_;refine ev ?_;refine sq ?_ ?_<;>intro h5 h5p h5s<;>(try simp only[Q,zal] at h5p);refine Walk.call (cr:=[]) zkj (zez (a:=zfA vars e.n) (b:=t)) rfl (.some rfl rfl h5) rfl rfl (LeL.refl _) trivial rfl rfl rfl ?_;refine evd [] [(37,true)] ?_ ⟨⟨_,rfl,h5⟩,trivial⟩;refine sq ?_ ?_<;>intro h6 h6p h6s<;>(try simp only[Q,zal] at h6p);refine dr ?_;refine rn0 (r2 rfl rfl) (.tup (.cons (.nild ?_) (.cons (.eqd ?_) .nil)));rotate_left 2;refine dr ?_;refine rn0 (r2 rfl rfl) (.tup (.cons (.nild ?_) (.cons (.eqd ?_) .nil)));rotate_left 2;refine sqF ?_;refine dr ?_;refine rn0 (r2 rfl rfl) (.tup (.cons (.nild ?_) (.cons (.eqd ?_) .nil)));rotate_left 2;refine sq ?_ ?_<;>intro h7 h7p h7s<;>(try simp only[Q,zal] at h7p);refine sq ?_ ?_<;>intro h8 h8p h8s<;>(try simp only[Q,zal] at h8p);refine dr ?_;refine sqT ?_;refine rn0 (r2 rfl rfl) (.tup (.cons (.nild ?_) (.cons (.eqd ?_) .nil)));rotate_left 2;refine Walk.call (cr:=[]) zkf (zek hw ht') rfl (.some rfl rfl h8) rfl rfl (LeL.refl _) trivial rfl rfl rfl ?_;refine evd [] [(52,false)] ?_ ⟨⟨_,rfl,h8⟩,trivial⟩;refine Walk.call (cr:=[]) zkk (hcon) rfl (.some rfl rfl h8) rfl rfl (LeL.refl _) trivial rfl rfl rfl ?_;refine evd [] [(52,false)] ?_ ⟨⟨_,rfl,h8⟩,trivial⟩;refine dr ?_;refine sq ?_ ?_<;>intro h10 h10p h10s<;>(try simp only[Q,zal] at h10p);refine rn0 (r2 rfl rfl) (.tup (.cons (.nild ?_) (.cons (.eqd ?_) .nil)));rotate_left 2;exfalso;simp_all;refine sq ?_ ?_<;>intro h11 h11p h11s<;>(try simp only[Q,zal] at h11p);refine si [0,1] [_,_] zax tz29 ?_;refine evd [] [] ?_;refine sq ?_ ?_<;>intro h12 h12p h12s<;>(try simp only[Q,zal] at h12p);refine sq ?_ ?_<;>intro h13 h13p h13s<;>(try simp only[Q,zal] at h13p);refine dr ?_;refine rn0 (r2 rfl rfl) (.tup (.cons (.eqd ?_) (.cons (.eqd ?_) .nil)));rotate_left 2;refine dr ?_;refine rn0 (r2 rfl rfl) (.tup (.cons (.eqd ?_) (.cons (.eqd ?_) .nil)));rotate_left 2;refine sqF ?_;refine dr ?_;refine rn0 (r2 rfl rfl) (.tup (.cons (.eqd ?_) (.cons (.eqd ?_) .nil)));rotate_left 2;refine sq ?_ ?_<;>intro h14 h14p h14s<;>(try simp only[Q,zal] at h14p);refine ar ?_;refine wc zdx (za3) rfl rfl ?_;refine ev ?_;refine sq ?_ ?_<;>intro h15 h15p h15s<;>(try simp only[Q,zal] at h15p);refine sqT ?_;refine rn0 (r2 rfl rfl) (.tup (.cons (.nild ?_) (.cons (.eqd ?_) .nil)));rotate_left 2;refine sq ?_ ?_<;>intro h17 h17p h17s<;>(try simp only[Q,zal] at h17p);refine rn0 (r2 rfl rfl) (.tup (.cons (.nild ?_) (.cons (.eqd ?_) .nil)));rotate_left 2;refine Walk.idx (i:=e.n.toNat) sl63 .none rfl rfl rfl (by omega) (zae (i:=e.n.toNat) (by omega)) rfl ?_;refine evd [] [] ?_;refine si [0] [_] zax tz29 ?_;refine evd [] [] ?_;refine Walk.idx (i:=e.n.toNat) sl63 .none rfl rfl rfl (by omega) (zae (i:=e.n.toNat) (by omega)) rfl ?_;refine evd [] [] ?_;refine wc zkj (zez (a:=(nth funs e.n.toNat).res) (b:=t)) rfl rfl ?_;refine evd [] [] ?_;refine dr ?_;refine rn0 (r2 rfl rfl) (.tup (.cons (.eqd ?_) (.cons (.eqd ?_) .nil)));rotate_left 2;refine rn0 (r2 rfl rfl) (.tup (.cons (.nild ?_) (.cons (.eqd ?_) .nil)));rotate_left 2;all_goals (first|rfl|(rw[ty_0 (by omega)];all_goals rfl)|(rw[zrO (by omega) (by omega)];all_goals rfl)|(rw[zrN (by omega) hmem];all_goals rfl)|(rw[ty_4 (by omega)];all_goals rfl)|(rw[zjd (by omega) (by omega)];all_goals rfl)|(rw[ty_5 (by omega) (by omega)];all_goals rfl)|(refine congrArg D.bool ?_;rw[ok_1 (by omega)];simp_all;done)|(refine congrArg D.bool ?_;rw[ok_1 (by omega)];simp_all[zal];omega)|(rw[zjd (by omega) (by intro hh;simp_all[zal];omega)];all_goals rfl)|(refine congrArg D.bool ?_;rw[ok_5 (by omega),decide_eq_false (by intro hh;simp_all[zal];omega),Bool.false_and];done)|(refine congrArg D.bool ?_;rw[ok_2 (by omega),decide_eq_false (by omega),Bool.false_and];done)|(refine congrArg D.bool ?_;rw[ok_2 (by omega)];simp_all;done)|(refine congrArg D.bool ?_;rw[ok_3 (by omega)];simp_all;done)|(refine congrArg D.bool ?_;rw[ok_4 (by omega)];simp_all;done)|(refine congrArg D.bool ?_;rw[ok_5 (by omega)];first|(rw[decide_eq_true (by omega),Bool.true_and];done)|(rw[decide_eq_false (by omega),Bool.false_and];done))|(refine congrArg D.bool ?_;rw[ok_0 (by omega)];done)|(exfalso;simp_all;done))
theorem zkV {g:Ty->Ex->Int->Bool×Int}{a:List Ty}{b:List Ex}{i:Nat}{c:Int} (ha:i<a.length) (hl:a.length=b.length) (h:(g (nth a i) (nth b i) c).1=false):
  zcz g (a.drop i) (b.drop i) c=(false,(g (nth a i) (nth b i) c).2):=by
 rw[zbd ha,zbd (l:=b) (by omega),zcz,if_neg (by rw[h];simp)]
theorem zpg {g:Ty->Ex->Int->Bool×Int}{a:List Ty}{b:List Ex}{i:Nat}{c:Int} (ha:i<a.length) (hl:a.length=b.length) (h:(g (nth a i) (nth b i) c).1=true):
  zcz g (a.drop i) (b.drop i) c=zcz g (a.drop (i+1)) (b.drop (i+1)) (g (nth a i) (nth b i) c).2:=by
 rw[zbd ha,zbd (l:=b) (by omega),zcz,if_pos h]
theorem zmk {g:Ty->Ex->Int->Bool×Int}{a:List Ty}{b:List Ex}{i:Nat}{c:Int} (ha:a.length<=i):zcz g (a.drop i) (b.drop i) c=(true,c):=by
 rw[List.drop_eq_nil_of_le ha,zcz];simp
theorem zrf (w:List Data) (funs:List Ft) (vars:List Vt) (n:Nat) (t:Ty) (v:Ex) (c:Int) (h:(zbh w funs vars n t v c).1=true):c<=(zbh w funs vars n t v c).2/\(zbh w funs vars n t v c).2<=60:=by
 have h1:=zjY w funs vars n t v c;have h2:=h1.2 h;rw[h1.1] at h;simp only[xad,decide_eq_true_eq] at h;omega
theorem ziz {w:List Data}{funs:List Ft}{vars:List Vt} (hw:WT w) (hfl:funs.length<=1000000000000) (hvl:vars.length<=1000000000000) (hfa:∀f∈funs,TyIn w.length f.arg):∀(n:Nat){t:Ty}{d c:Int}{e:Ex},d+n=11->n<=10->TyIn w.length t->e.ok->0<=c->c<=1000000000000->
  FnD Tryz.prog 74 [.agg [.d (zak w),.d (zbq funs),.d (zbt vars)],.agg [.d (.i t.data),.d (.i t.index)],.agg [.d (.i e.op),.d (.i e.n),.d (.i e.ctor),.d (zaX e.kids)],.d (.i d),.ref 950 0] [(950,some (.box [.d (.i c)]))]
   (.d (.bool (zbh w funs vars n t e c).1)) [(950,some (.box [.d (.i (zbh w funs vars n t e c).2)]))]
 |0,t,d,c,e,hd,_,_,_,c0,c1=>by
  refine bd Tryz.f74 65 [] [] fun w0 F0 own kept hk=>?_;refine bx 3005 ?_;refine bx 3006 ?_;refine bx 3007 ?_;refine ev ?_;refine ar ?_;refine so ty3 ?_;refine tv ?_;refine sq ?_ ?_<;>intro h1 h1p h1s<;>(try simp only[Q] at h1p);refine sqT ?_;refine rn [(950,some (.box [.d (.i (zbh w funs vars 0 t e c).2)]))] (r1 rfl) (.eqd ?_) ⟨rfl,rfl⟩ (SubO.get ⟨.inr ?_,⟨.inl rfl,trivial⟩⟩) (zaI rfl);rotate_left 2;refine sq ?_ ?_<;>intro h3 h3p h3s<;>(try simp only[Q] at h3p);refine rn [(950,some (.box [.d (.i (zbh w funs vars 0 t e c).2)]))] (r1 rfl) (.eqd ?_) ⟨rfl,rfl⟩ (SubO.get ⟨.inr ?_,⟨.inl rfl,trivial⟩⟩) (zaI rfl);rotate_left 2;exfalso;simp at *;omega;all_goals (first|((rfl);done)|(rfl))
 |n+1,t,d,c,e,hd,hn,ht,hok,c0,c1=>by
  rw[Ex.ok_iff] at hok;by_cases h60:60<c+1
  ·skip
   refine bd Tryz.f74 65 [] [] fun w0 F0 own kept hk=>?_;refine bx 3005 ?_;refine bx 3006 ?_;refine bx 3007 ?_;refine ev ?_;refine ar ?_;refine so ty3 ?_;refine tv ?_;refine sq ?_ ?_<;>intro h1 h1p h1s<;>(try simp only[Q] at h1p);refine sqT ?_;refine rn [(950,some (.box [.d (.i (zbh w funs vars (n+1) t e c).2)]))] (r1 rfl) (.eqd ?_) ⟨rfl,rfl⟩ (SubO.get ⟨.inr ?_,⟨.inl rfl,trivial⟩⟩) (zaI rfl);rotate_left 2;refine sq ?_ ?_<;>intro h3 h3p h3s<;>(try simp only[Q] at h3p);refine rn [(950,some (.box [.d (.i (zbh w funs vars (n+1) t e c).2)]))] (r1 rfl) (.eqd ?_) ⟨rfl,rfl⟩ (SubO.get ⟨.inr ?_,⟨.inl rfl,trivial⟩⟩) (zaI rfl);rotate_left 2;exfalso;simp at *;omega;all_goals (first|((unfold zbh;rw[if_pos h60]);done)|((unfold zbh;rw[if_pos h60];rfl)))
  have hkd:=zny hw hfl hvl ht (e:=e) (funs:=funs) (vars:=vars);have htl:=zlk hw ht (funs:=funs) (e:=e);have hti:=zms hw hfa ht (e:=e);by_cases hnd:zc2 w funs vars t e=true
  ·have hlen:(zaz w funs t e).length=e.kids.length:=by
    unfold zc2 at hnd;rw[xad] at hnd;exact of_decide_eq_true hnd.2
   have hok1:okE w funs vars t e=true:=by
    unfold zc2 at hnd;rw[xad] at hnd;exact hnd.1
   have hsc:zbh w funs vars (n+1) t e c=zcz (zbh w funs vars n) (zaz w funs t e) e.kids (c+1):=by
    conv=>lhs;unfold zbh
    rw[if_neg h60,if_pos hnd]
   rw[hsc];rw[hok1] at hkd;refine bd Tryz.f74 65 [] [] fun w0 F0 own kept hk=>?_;refine bx 3005 ?_;refine bx 3006 ?_;refine bx 3007 ?_;refine ev ?_;refine ar ?_ (by first|(constructor<;>omega)|(constructor<;>simp[Ex.cs_len]<;>omega));refine so ty3 ?_;refine tv ?_;refine sq ?_ ?_<;>intro h1 h1p h1s<;>(try simp only[Q,Ex.cs_len] at h1p);refine sqT ?_;exfalso;simp at *;omega;refine sq ?_ ?_<;>intro h3 h3p h3s<;>(try simp only[Q,Ex.cs_len] at h3p);exfalso;simp at *;omega;refine wc zpz (hkd) rfl rfl ?_;refine ev ?_;refine sq ?_ ?_<;>intro h4 h4p h4s<;>(try simp only[Q,Ex.cs_len] at h4p);refine sqT ?_;focus (exfalso;first|omega|(simp_all[Ex.cs_len];done))
   refine sq ?_ ?_<;>intro h6 h6p h6s<;>(try simp only[Q,Ex.cs_len] at h6p);focus (exfalso;first|omega|(simp_all[Ex.cs_len];done))
   refine xak (ι:=Nat×Int) hk (fun x=>[(48,.d (.i (x.1:Int)))]) [10,13,14,49,50,51,52,53,54,55,56,57,58,59,60,61,62,63,64] (fun x=>[(950,some (.box [.d (.i x.2)]))]) (fun x=>x.1<=e.kids.length/\zcz (zbh w funs vars n) ((zaz w funs t e).drop x.1) (e.kids.drop x.1) x.2=zcz (zbh w funs vars n) (zaz w funs t e) e.kids (c+1)/\0<=x.2/\x.2<=60) (fun x=>e.kids.length-x.1) (0,c+1) ⟨by simp,by simp,by dsimp only;omega,by dsimp only;omega⟩ ⟨⟨_,rfl,xap ?_⟩,trivial⟩ ⟨?_,trivial⟩ (fun x=>rfl) (fun x hg1=>?_);focus (first|rfl|(simp;done)|(dsimp only;omega))
   focus (first|rfl|(simp[getH];done))
   refine evc [] [] ?_;refine sq ?_ ?_<;>intro h7 h7p h7s<;>(try simp only[Q,Ex.cs_len] at h7p);refine Walk.idx sl33 .none rfl rfl rfl rfl (zdL (by omega)) rfl ?_;refine ev ?_;refine ab 3014 tz40 ?_;refine ev ?_;refine so ty40 ?_;refine tv ?_;refine Walk.idx zax .none rfl rfl rfl rfl (zae (by omega)) rfl ?_;refine evd [] [] ?_;refine ar ?_ (by first|(constructor<;>omega)|(constructor<;>simp[Ex.cs_len]<;>omega));refine wd zrs (ziz hw hfl hvl hfa n (t:=nth (zaz w funs t e) x.1) (c:=x.2) (by omega) (by omega) (hti _ (zaj (by omega))) (Exs.ok_mem hok.2 _ (zaj (by omega))) (by omega) (by omega)) rfl rfl ⟨rfl,trivial⟩ ?_;refine evd [] [] ?_;refine dr ?_;refine sq ?_ ?_<;>intro h8 h8p h8s<;>(try simp only[Q,Ex.cs_len] at h8p);refine rn [(950,some (.box [.d (.i (zcz (zbh w funs vars n) (zaz w funs t e) e.kids (c+1)).2)]))] (r1 rfl) (.eqd ?_) ⟨rfl,rfl⟩ (SubO.get ⟨.inr ?_,⟨.inl rfl,trivial⟩⟩) (zaI rfl);rotate_left 2;refine ar ?_ (by first|(constructor<;>omega)|(constructor<;>simp[Ex.cs_len]<;>omega));refine xah ((x.1+1,(zbh w funs vars n (nth (zaz w funs t e) x.1) (nth e.kids x.1) x.2).2)) ⟨(by
        have hz:(zbh w funs vars n (nth (zaz w funs t e) x.1) (nth e.kids x.1) x.2).1=true:=by simp_all
        have hb:=zrf w funs vars n _ _ _ hz;obtain⟨h1,h2,h3,h4⟩:=hg1;refine⟨by dsimp only;omega, ?_,by dsimp only;omega,by dsimp only;omega⟩;rw[<-h2,zpg (i:=x.1) (by omega) hlen hz]),(by dsimp only;omega),sx ⟨⟨_,rfl,xap ?_⟩,trivial⟩ ⟨?_,trivial⟩⟩
   focus (first|rfl|(simp;done)|(dsimp only;omega))
   focus (first|rfl|(simp[getH];done))
   refine rn [(950,some (.box [.d (.i (zcz (zbh w funs vars n) (zaz w funs t e) e.kids (c+1)).2)]))] (r1 rfl) (.eqd ?_) ⟨rfl,rfl⟩ (SubO.get ⟨.inr ?_,⟨.inl rfl,trivial⟩⟩) (zaI rfl);rotate_left 2;all_goals (first|((refine congrArg D.bool ?_;first|(obtain⟨h1,h2,h3,h4⟩:=hg1;rw[<-h2,zmk (by omega)])|(obtain⟨h1,h2,h3,h4⟩:=hg1;rw[<-h2,zkV (by omega) hlen (by simp_all)]));done)|(first|(obtain⟨h1,h2,h3,h4⟩:=hg1;show some (Res.box _)=some (Res.box _);rw[<-h2,zmk (by omega)])|(obtain⟨h1,h2,h3,h4⟩:=hg1;show some (Res.box _)=some (Res.box _);rw[<-h2,zkV (by omega) hlen (by simp_all)])))
  ·have hsc:zbh w funs vars (n+1) t e c=(false,c+1):=by
    conv=>lhs;unfold zbh
    rw[if_neg h60,if_neg hnd]
   have hno:okE w funs vars t e=true->(zaz w funs t e).length≠e.kids.length:=fun h hl=>hnd (by unfold zc2;rw[h,decide_eq_true hl];rfl);rw[hsc];refine bd Tryz.f74 65 [] [] fun w0 F0 own kept hk=>?_;refine bx 3005 ?_;refine bx 3006 ?_;refine bx 3007 ?_;refine ev ?_;refine ar ?_;refine so ty3 ?_;refine tv ?_;refine sq ?_ ?_<;>intro h1 h1p h1s<;>(try simp only[Q,Ex.cs_len] at h1p);refine sqT ?_;exfalso;simp at *;omega;refine sq ?_ ?_<;>intro h3 h3p h3s<;>(try simp only[Q,Ex.cs_len] at h3p);exfalso;simp at *;omega;refine wc zpz (hkd) rfl rfl ?_;refine ev ?_;refine sq ?_ ?_<;>intro h4 h4p h4s<;>(try simp only[Q,Ex.cs_len] at h4p);refine sqT ?_;refine rn [(950,some (.box [.d (.i (c+1))]))] (r1 rfl) (.eqd ?_) ⟨rfl,rfl⟩ (SubO.get ⟨.inr ?_,⟨.inl rfl,trivial⟩⟩) (zaI rfl);rotate_left 2;refine sq ?_ ?_<;>intro h6 h6p h6s<;>(try simp only[Q,Ex.cs_len] at h6p);refine rn [(950,some (.box [.d (.i (c+1))]))] (r1 rfl) (.eqd ?_) ⟨rfl,rfl⟩ (SubO.get ⟨.inr ?_,⟨.inl rfl,trivial⟩⟩) (zaI rfl);rotate_left 2;exfalso;have:=hno (by first|assumption|simp_all);omega;all_goals (first|((rfl);done)|(rfl))
theorem znx {w:List Data}{funs:List Ft}{vars:List Vt} (hw:WT w) (hfl:funs.length<=1000000000000) (hvl:vars.length<=1000000000000) (hfa:∀f∈funs,TyIn w.length f.arg){t:Ty}{e:Ex} (ht:TyIn w.length t) (hok:e.ok):
  FnD Tryz.prog 33 [.agg [.d (zak w),.d (zbq funs),.d (zbt vars)],.agg [.d (.i t.data),.d (.i t.index)],.agg [.d (.i e.op),.d (.i e.n),.d (.i e.ctor),.d (zaX e.kids)]] [] (.d (.bool (isE w funs vars t e))) []:=by
 have hz:=zts w funs vars t e;refine bd Tryz.f33 12 [] [] fun w0 F0 own kept hk=>?_;refine bx 3003 ?_;refine bx 3004 ?_;refine bx 3005 ?_;refine ev ?_;refine ab 950 tz3 ?_;refine so ty3 ?_;refine tv ?_;refine wd zrs (ziz hw hfl hvl hfa 10 (c:=0) (by omega) (by omega) ht hok (by omega) (by omega)) rfl rfl ⟨rfl,trivial⟩ ?_;refine ev ?_;refine rq ?_;rotate_left;all_goals (rw[hz])
theorem zha {xs:List Ft}{f:Nat}{caps:List AV}{hp:Hp}{p:Ft->Bool} (hs:xs.length<=1000000000000) (hcal:Callee Tryz.prog f)
  (hf:∀t∈xs,FnD Tryz.prog f ([.agg [.d (.i t.arg.data),.d (.i t.arg.index),.d (.i t.res.data),.d (.i t.res.index)]]++caps) hp (.d (.bool (p t))) []) (k1:subH hp hp) (k2:zdX hp=true) (k3:zaY hp [] (.d .nilp) []=true):
  FnD Tryz.prog 127 [.d (zbq xs),.fn f caps] hp (.d (.i (idxF p xs 0))) []:=by
 refine bd Tryz.f127 19 [] [] fun w0 F0 own kept hk=>?_;refine xak (ι:=List (Ft)×List (Ft)) hk (fun x=>[(8,.d (.i (x.1.length:Int)))]) [4,5,9,10,11,12,13,14,15,16,17,18] (fun x=>[]) (fun x=>x.1++x.2=xs/\idxF p x.2 x.1.length=idxF p xs 0) (fun x=>x.2.length) ([],xs) ⟨by simp,rfl⟩ ⟨⟨_,rfl,xap ?_⟩,trivial⟩ trivial (fun x=>zfX hp) (fun x hg1=>?_);focus (rfl)
 obtain⟨pre,rest⟩:=x;dsimp only at hg1 ⊢;refine evc [] [] ?_;refine sq ?_ ?_<;>intro h1 h1p h1s<;>(try simp only[Q] at h1p);rcases rest with _|⟨y,rest⟩
 ·exfalso;simp_all
 refine Walk.idx sl63 .none rfl rfl rfl rfl (zaH hg1.1) rfl ?_;refine ev ?_;refine xaE (cr:=[]) hcal (hf y (by rw[<-hg1.1];simp)) rfl .none rfl rfl rfl (LeL.refl _) k1 k2 (zd8 k3 _) rfl ?_;refine tv ?_;refine sq ?_ ?_<;>intro h2 h2p h2s<;>(try simp only[Q] at h2p);focus (refine rn [] (r1 rfl) (.eqd ?_) ⟨rfl,rfl⟩ (fun _ _ h=>h) (fun _ h=>h);all_goals (rw[<-hg1.2];simp[idxF,h1s,h1p,h2s,h2p]))
 refine ar ?_;refine xah ((pre++[y],rest)) ⟨⟨(by have hz:=hg1.1;rw[<-hz];simp),(by rw[<-hg1.2];simp[idxF,h2s])⟩,(by simp),Sub.x (by kernel_rfl) (by kernel_rfl) ⟨⟨_,rfl,xap ?_⟩,trivial⟩ (by simp) (by simp[zdp]) trivial⟩;focus ((simp;done))
 have hrest:rest=[]:=by
  rcases rest with _|⟨a,b⟩
  ·rfl
  ·exfalso;have hz:=congrArg List.length (hg1.1);simp only[xaa,xab,xac] at hz;omega
 subst hrest;focus (refine rn [] (r1 rfl) (.eqd ?_) ⟨rfl,rfl⟩ (fun _ _ h=>h) (fun _ h=>h);all_goals (rw[<-hg1.2];simp[idxF,h1s,h1p]))
theorem zga {xs:List Ft}{f:Nat}{caps:List AV}{hp:Hp}{p:Ft->Bool} (hs:xs.length<=1000000000000) (hcal:Callee Tryz.prog f)
  (hf:∀t∈xs,FnD Tryz.prog f ([.agg [.d (.i t.arg.data),.d (.i t.arg.index),.d (.i t.res.data),.d (.i t.res.index)]]++caps) hp (.d (.bool (p t))) []) (k1:subH hp hp) (k2:zdX hp=true) (k3:zaY hp [] (.d .nilp) []=true):
  FnD Tryz.prog 65 [.d (zbq xs),.fn f caps] hp (.d (.bool (xs.any p))) []:=by
 refine bd Tryz.f65 9 [] [] fun w0 F0 own kept hk=>?_;refine Walk.call (cr:=[]) zsC (zha hs hcal hf k1 k2 k3) rfl .none rfl rfl (LeL.refl _) k1 k2 (zd8 k3 _) rfl ?_;refine ev ?_;refine rn [] (r1 rfl) (.eqd ?_) ⟨rfl,rfl⟩ (fun _ _ h=>h) (fun _ h=>h);rotate_left;all_goals (exact congrArg D.bool (zeE p xs 0))
theorem zg9 {xs:List Cl}{f:Nat}{caps:List AV}{hp:Hp}{p:Cl->Bool} (hs:xs.length<=1000000000000) (hcal:Callee Tryz.prog f)
  (hf:∀t∈xs,FnD Tryz.prog f ([.agg [.d (.i t.pat.op),.d (.i t.pat.ctor),.d (.i t.pat.n),.d (.i t.pat.m),.d (.i t.pat.var),.d (zaQ t.pat.kids),.d (.i t.g.op),.d (.i t.g.var),.d (.i t.g.n)]]++caps) hp (.d (.bool (p t))) []) (k1:subH hp hp) (k2:zdX hp=true) (k3:zaY hp [] (.d .nilp) []=true):
  FnD Tryz.prog 128 [.d (zcZ xs),.fn f caps] hp (.d (.i (idxF p xs 0))) []:=by
 refine bd Tryz.f128 19 [] [] fun w0 F0 own kept hk=>?_;refine xak (ι:=List (Cl)×List (Cl)) hk (fun x=>[(8,.d (.i (x.1.length:Int)))]) [4,5,9,10,11,12,13,14,15,16,17,18] (fun x=>[]) (fun x=>x.1++x.2=xs/\idxF p x.2 x.1.length=idxF p xs 0) (fun x=>x.2.length) ([],xs) ⟨by simp,rfl⟩ ⟨⟨_,rfl,xap ?_⟩,trivial⟩ trivial (fun x=>zfX hp) (fun x hg1=>?_);focus (first|rfl|(simp;done)|(simp_all;done)|omega)
 obtain⟨pre,rest⟩:=x;dsimp only at hg1 ⊢;refine evc [] [] ?_;refine sq ?_ ?_<;>intro h1 h1p h1s<;>(try simp only[Q] at h1p);rcases rest with _|⟨y,rest⟩
 ·exfalso;simp_all
 refine Walk.idx sl32 .none rfl rfl rfl rfl (zaH hg1.1) rfl ?_;refine ev ?_;refine xaE (cr:=[]) hcal (hf y (by rw[<-hg1.1];simp)) rfl .none rfl rfl rfl (LeL.refl _) k1 k2 (zd8 k3 _) rfl ?_;refine tv ?_;refine sq ?_ ?_<;>intro h2 h2p h2s<;>(try simp only[Q] at h2p);focus (refine rn [] (r1 rfl) (.eqd ?_) ⟨rfl,rfl⟩ (fun _ _ h=>h) (fun _ h=>h);all_goals (rw[<-hg1.2];simp[idxF,h1s,h1p,h2s,h2p]))
 refine ar ?_;refine xah ((pre++[y],rest)) ⟨⟨(by have hz:=hg1.1;rw[<-hz];simp),(by rw[<-hg1.2];simp[idxF,h2s])⟩,(by simp),Sub.x (by kernel_rfl) (by kernel_rfl) ⟨⟨_,rfl,xap ?_⟩,trivial⟩ (by simp) (by simp[zdp]) trivial⟩;focus (first|rfl|(simp;done)|(simp_all;done)|omega)
 have hrest:rest=[]:=by
  rcases rest with _|⟨a,b⟩
  ·rfl
  ·exfalso;have hz:=congrArg List.length (hg1.1);simp only[xaa,xab,xac] at hz;omega
 subst hrest;focus (refine rn [] (r1 rfl) (.eqd ?_) ⟨rfl,rfl⟩ (fun _ _ h=>h) (fun _ h=>h);all_goals (rw[<-hg1.2];simp[idxF,h1s,h1p]))
theorem zf9 {xs:List Cl}{f:Nat}{caps:List AV}{hp:Hp}{p:Cl->Bool} (hs:xs.length<=1000000000000) (hcal:Callee Tryz.prog f)
  (hf:∀t∈xs,FnD Tryz.prog f ([.agg [.d (.i t.pat.op),.d (.i t.pat.ctor),.d (.i t.pat.n),.d (.i t.pat.m),.d (.i t.pat.var),.d (zaQ t.pat.kids),.d (.i t.g.op),.d (.i t.g.var),.d (.i t.g.n)]]++caps) hp (.d (.bool (p t))) []) (k1:subH hp hp) (k2:zdX hp=true) (k3:zaY hp [] (.d .nilp) []=true):
  FnD Tryz.prog 70 [.d (zcZ xs),.fn f caps] hp (.d (.bool (xs.any p))) []:=by
 refine bd Tryz.f70 9 [] [] fun w0 F0 own kept hk=>?_;refine Walk.call (cr:=[]) zsD (zg9 hs hcal hf k1 k2 k3) rfl .none rfl rfl (LeL.refl _) k1 k2 (zd8 k3 _) rfl ?_;refine ev ?_;refine rn [] (r1 rfl) (.eqd ?_) ⟨rfl,rfl⟩ (fun _ _ h=>h) (fun _ h=>h);rotate_left;all_goals (exact congrArg D.bool (zeE p xs 0))
theorem znz {w:List Data} (hs:w.length<=1000000000000){fd vd:D}{f:Ft}:FnD Tryz.prog 66 [.agg [.d (.i f.arg.data),.d (.i f.arg.index),.d (.i f.res.data),.d (.i f.res.index)],.ref 3001 0] [(3001,some (.box [.d (zak w),.d fd,.d vd]))] (.d (.bool (!(za8 w.length f.arg&&za8 w.length f.res)))) []:=by
 refine bd Tryz.f66 18 [] [] fun w0 F0 own kept hk=>?_;refine bx 3002 ?_;refine ev ?_;refine wc zoU (zfj hs (a:=f.arg.data) (b:=f.arg.index)) rfl rfl ?_;refine ev ?_;refine sq ?_ ?_<;>intro h1 h1p h1s<;>(try simp only[Q] at h1p);refine rn [] (r1 rfl) (.eqd ?_) ⟨rfl,rfl⟩ (SubH.get ⟨rfl,trivial⟩) (fun _ h=>h);rotate_left;refine Walk.call (cr:=[]) zoU (zfj hs (a:=f.res.data) (b:=f.res.index)) rfl (.some rfl rfl h1) rfl rfl (LeL.refl _) trivial rfl rfl rfl ?_;refine evs [] [(10,false)] ?_ ⟨⟨_,rfl,h1⟩,trivial⟩;refine rn [] (r1 rfl) (.eqd ?_) ⟨rfl,rfl⟩ (SubH.get ⟨rfl,trivial⟩) (fun _ h=>h);rotate_left;all_goals (refine congrArg D.bool ?_;simp_all)
theorem zkE {w:List Data}{funs:List Ft} (hs:w.length<=1000000000000) (hfl:funs.length<=1000000000000):FnD Tryz.prog 30 [.agg [.d (zak w),.d (zbq funs),.d (.sl [])]] [] (.d (.bool (zbC w funs))) []:=by
 refine bd Tryz.f30 45 [] [] fun w0 F0 own kept hk=>?_;refine bx 3001 ?_;refine ev ?_;refine sq ?_ ?_<;>intro h1 h1p h1s<;>(try simp only[Q] at h1p);refine sqT ?_;refine rq ?_;rotate_left;refine xaG (xs:=[_]) rfl (.some rfl rfl h1) rfl rfl ?_;refine Walk.call (cr:=[]) ztR (zga (p:=fun f=> !(za8 w.length f.arg&&za8 w.length f.res)) hfl ztS (fun t _=>znz hs) ⟨rfl,trivial⟩ rfl rfl) rfl (.some rfl rfl h1) rfl rfl (LeL.refl _) ⟨rfl,trivial⟩ rfl rfl rfl ?_;refine evs [] [(10,false)] ?_ ⟨⟨_,rfl,h1⟩,trivial⟩;refine sq ?_ ?_<;>intro h3 h3p h3s<;>(try simp only[Q] at h3p);refine rq ?_;rotate_left;refine ab 3003 zpo ?_;refine tv ?_;refine xak (ι:=Unit) hk (fun u=>[(19,.d (.i 0))]) [2,5,20,21,22,23,24,25,26,27,28,29,30,31,32,33,34,35,36,37,38,39,40,41,42,43,44] (fun u=>[]) (fun u=>True) (fun u=>0) () trivial ⟨⟨_,rfl,xap ?_⟩,trivial⟩ trivial (fun x=>rfl) (fun u hg1=>?_);focus (first|rfl|(simp;done)|(simp_all;done)|omega)
 refine evc [] [] ?_;refine sq ?_ ?_<;>intro h4 h4p h4s<;>(try simp only[Q] at h4p);exfalso;simp at h4;refine rq ?_;rotate_left;all_goals (refine congrArg D.bool ?_;unfold zbC;first|(rw[decide_eq_false (by omega),Bool.false_and];done)|(rw[decide_eq_true (by omega),Bool.true_and];simp_all;done)|(simp_all;done)|(simp_all;omega))
theorem zjQ {l:List Fu} (hl:l.length<=1000000000000):FnD Tryz.prog 28 [.d (zbs l)] [] (.d (zbq (l.map Fu.ty))) []:=by
 refine bd Tryz.f28 19 [3] [] fun w0 F0 own kept hk=>?_;refine xaz 1 4 .none rfl rfl ?_;refine tv ?_;refine xak (ι:=List (Fu)×List (Fu)) hk (fun x=>[(8,.d (.i (x.1.length:Int))),(3,.gl 1 ((x.1.map Fu.ty).map Ft.c))]) [5,9,10,11,12,13,14,15,16,17] (fun x=>[(1,some (.tok (((x.1.map Fu.ty).map Ft.c)).length 4))]) (fun x=>x.1++x.2=l) (fun x=>x.2.length) ([],l) (by simp) ⟨⟨_,rfl,xap ?_⟩,⟨⟨_,rfl,LeA.glg ?_⟩,trivial⟩⟩ ⟨zaf ?_,trivial⟩ (fun x=>rfl) (fun x hg1=>?_);iterate 3 focus (first|rfl|(simp;done)|(simp;omega))
 obtain⟨pre,rest⟩:=x;dsimp only at hg1 ⊢;refine evc [3] [] ?_;refine sq ?_ ?_<;>intro h1 h1p h1s<;>(try simp only[Q] at h1p);rcases rest with _|⟨y,rest⟩
 ·exfalso;simp_all
 refine Walk.idx sl24 .none rfl rfl rfl rfl (zaH hg1) rfl ?_;refine evs [3] [] ?_;refine ab 3005 tz35 ?_;refine so ty35 ?_;refine tv ?_;refine si [0] [_] sl63 tz31 ?_;refine ap sl63 zz31 rfl rfl rfl (by simp) (by have hz:=congrArg List.length hg1;simp at hz ⊢;omega) ?_;refine asg ?_;refine tv ?_;refine ar ?_;refine xah ((pre++[y],rest)) ⟨(by have hz:=hg1;rw[<-hz];simp),(by simp),sx ⟨⟨_,rfl,xap ?_⟩,⟨⟨_,rfl,LeA.glg ?_⟩,trivial⟩⟩ ⟨zaf ?_,trivial⟩⟩;iterate 3 focus (first|rfl|(simp;done)|(simp;omega))
 have hrest:rest=[]:=by
  rcases rest with _|⟨a,b⟩
  ·rfl
  ·exfalso;have hz:=congrArg List.length (hg1);simp only[xaa,xab,xac] at hz;omega
 subst hrest;refine rn0 (r1 rfl) (.gld ?_);rotate_left;all_goals (first|rfl|(rw[List.append_nil] at hg1;subst hg1;simp;done))
theorem zge (w:List Data) (t:Ty) (p:Pat):(zbu w t p).length<=6:=(zfo w 10 t p 0).2
theorem znw {w:List Data} (hw:WT w){fd:D}{t:Ty}{c:Cl} (ht:TyIn w.length t) (hok:c.pat.ok):
  FnD Tryz.prog 32 [.d (zak w),.d fd,.agg [.d (.i t.data),.d (.i t.index)],.agg [.d (.i c.pat.op),.d (.i c.pat.ctor),.d (.i c.pat.n),.d (.i c.pat.m),.d (.i c.pat.var),.d (zaQ c.pat.kids),.d (.i c.g.op),.d (.i c.g.var),.d (.i c.g.n)]] [] (.agg [.d (zak w),.d fd,.d (zbt (zbu w t c.pat))]) []:=by
 have ht':TyIn w.length ⟨t.data,t.index⟩:=ht;refine bd Tryz.f32 23 [] [] fun w0 F0 own kept hk=>?_;refine bx 3006 ?_;refine bx 3007 ?_;refine ab 3008 tz68 ?_;refine tv ?_;refine wc zrr (zfb hw ht' hok) rfl rfl ?_;refine ev ?_;refine bu [0,1,2] [_,_,_] st68 ?_;refine so ty68 ?_;refine tv ?_;refine rn0 (.cons (.cellA ty68 rfl rfl rfl) .nil) (.agg (.cons (.eqd ?_) (.cons (.eqd ?_) (.cons (.eqd ?_) .nil))));rotate_left 3;all_goals (rfl)
theorem zkD {g:Gd}{vars:List Vt} (hv:vars.length<=1000000000000):FnD Tryz.prog 129 [.agg [.d (.i g.op),.d (.i g.var),.d (.i g.n)],.d (zbt vars)] [] (.d (.bool (gdOk g vars))) []:=by
 refine bd Tryz.f129 27 [10] [] fun w0 F0 own kept hk=>?_;refine bx 3002 ?_;refine evs [10] [] ?_;refine sq ?_ ?_<;>intro h1 h1p h1s<;>(try simp only[Q,zal] at h1p);refine bu [] [] st76 ?_;refine xaN eq76 .none rfl rfl rfl rfl rfl ?_;refine evs [10] [] ?_;refine rq ?_;rotate_left;refine wc zdx (za3) rfl rfl ?_;refine evs [10] [] ?_;refine sq ?_ ?_<;>intro h2 h2p h2s<;>(try simp only[Q,zal] at h2p);refine Walk.call (cr:=[]) zdx (za3) rfl (.some rfl rfl h2) rfl rfl (LeL.refl _) trivial rfl rfl rfl ?_;refine evs [10] [(14,true)] ?_ ⟨⟨_,rfl,h2⟩,trivial⟩;refine sq ?_ ?_<;>intro h3 h3p h3s<;>(try simp only[Q,zal] at h3p);refine Walk.build st29 (ks:=[0]) (xs:=[_]) rfl rfl (.some rfl rfl h3) rfl rfl rfl ?_;refine Walk.build zpl (ks:=[0,1]) (xs:=[_,_]) rfl rfl (.some rfl rfl h3) rfl rfl rfl ?_;refine Walk.call (cr:=[]) zpG (zeQ (v:=⟨g.var,⟨-1,0⟩⟩) hv) rfl (.some rfl rfl h3) rfl rfl (LeL.refl _) trivial rfl rfl rfl ?_;refine evs [10] [(19,true)] ?_ ⟨⟨_,rfl,h3⟩,trivial⟩;refine rq ?_;rotate_left;refine rq ?_;rotate_left;refine sqF ?_;refine rq ?_;rotate_left;all_goals (refine congrArg D.bool ?_;unfold gdOk;first|(rw[if_pos (by omega)];simp_all;done)|(rw[if_neg (by omega)];simp_all[zal];done)|(rw[if_neg (by omega)];simp_all[zal];omega))
theorem zjO {w:List Data} (hw:WT w){t:Ty}{c:Cl} (ht:TyIn w.length t) (hok:c.pat.ok):
  FnD Tryz.prog 72 [.d (zak w),.agg [.d (.i t.data),.d (.i t.index)],.agg [.d (.i c.pat.op),.d (.i c.pat.ctor),.d (.i c.pat.n),.d (.i c.pat.m),.d (.i c.pat.var),.d (zaQ c.pat.kids),.d (.i c.g.op),.d (.i c.g.var),.d (.i c.g.n)]] [] (.d (.bool (clOk w t c))) []:=by
 have ht':TyIn w.length ⟨t.data,t.index⟩:=ht;have hvl:=zge w t c.pat;refine bd Tryz.f72 24 [] [] fun w0 F0 own kept hk=>?_;refine bx 3004 ?_;refine bx 3005 ?_;refine ev ?_;refine wc zrr (zfb hw ht' hok) rfl rfl ?_;refine ev ?_;refine sq ?_ ?_<;>intro h1 h1p h1s<;>(try simp only[Q] at h1p);refine Walk.call (cr:=[]) zsE (zkD (g:=c.g) (vars:=zbu w t c.pat) (by omega)) rfl (.some rfl rfl h1) rfl rfl (LeL.refl _) trivial rfl rfl rfl ?_;refine evs [] [(18,true)] ?_ ⟨⟨_,rfl,h1⟩,trivial⟩;refine rq ?_;rotate_left;refine rq ?_;rotate_left;all_goals (refine congrArg D.bool ?_;unfold clOk;have hte:(⟨t.data,t.index⟩:Ty)=t:=rfl;(simp_all;done))
theorem zg5 {w:List Data} (hw:WT w){a k:Int}{c:Cl} (ht:TyIn w.length ⟨a,k⟩) (hok:c.pat.ok):
  FnD Tryz.prog 71 [.agg [.d (.i c.pat.op),.d (.i c.pat.ctor),.d (.i c.pat.n),.d (.i c.pat.m),.d (.i c.pat.var),.d (zaQ c.pat.kids),.d (.i c.g.op),.d (.i c.g.var),.d (.i c.g.n)],.ref 3003 0,.ref 3004 0] [(3003,some (.box [.d (zak w)])),(3004,some (.box [.d (.i a),.d (.i k)]))] (.d (.bool (!clOk w ⟨a,k⟩ c))) []:=by
 refine bd Tryz.f71 10 [] [] fun w0 F0 own kept hk=>?_;refine bx 3901 ?_;refine ev ?_;refine wc ztW (zjO (t:=⟨a,k⟩) (c:=c) hw ht hok) rfl rfl ?_;refine ev ?_;refine rn [] (r1 rfl) (.eqd ?_) ⟨rfl,rfl⟩ (SubH.get ⟨rfl,⟨rfl,trivial⟩⟩) (fun _ h=>h);rotate_left;all_goals (rfl)
theorem zhG {w:List Data} (hs:WSmall w){a k:Int}{l:List Cl} (hl:ClsOk l):
  FnD Tryz.prog 31 [.d (zak w),.agg [.d (.i a),.d (.i k)],.d (zcZ l)] [] (.d (.bool (za7 w ⟨a,k⟩ l))) []:=by
 have hll:=hl.1;refine bd Tryz.f31 21 [] [] fun w0 F0 own kept hk=>?_;refine bx 3003 ?_;refine bx 3004 ?_;refine ev ?_;refine wc ztT (zjk hs) rfl rfl ?_;refine ev ?_;refine sq ?_ ?_<;>intro h1 h1p h1s<;>(try simp only[Q] at h1p);refine sq ?_ ?_<;>intro h2 h2p h2s<;>(try simp only[Q] at h2p);refine xaG (xs:=[_,_]) rfl (.some rfl rfl h2) rfl rfl ?_;refine Walk.call (cr:=[]) ztU (zf9 (p:=fun c=> !clOk w ⟨a,k⟩ c) hl.1 ztV (fun t htm=>zg5 (zdh hs (zcM (by assumption)).1) (zcM (by assumption)).2.1 (hl.2 t htm)) ⟨rfl,rfl,trivial⟩ rfl rfl) rfl (.some rfl rfl h2) rfl rfl (LeL.refl _) ⟨rfl,rfl,trivial⟩ rfl rfl rfl ?_;refine evs [] [(15,true)] ?_ ⟨⟨_,rfl,h2⟩,trivial⟩;refine rq ?_;rotate_left;refine rq ?_;rotate_left;refine sqF ?_;refine rq ?_;rotate_left;all_goals (refine congrArg D.bool ?_;unfold za7;first|(simp_all;done)|(simp_all;omega))
theorem zhz {w:List Data}{funs:List Ft}{f:Fu} (h:¬f.bodies.length=f.cls.length):zbD w funs f=false:=by
 unfold zbD zhy;rw[zgn (by omega),Bool.and_false]
theorem zin {w:List Data}{funs:List Ft}{f:Fu}{i:Nat} (hl:f.bodies.length=f.cls.length) (hi:i<f.bodies.length) (h:isE w funs (zbu w f.ty.arg (nth f.cls i).pat) f.ty.res (nth f.bodies i)=false):zbD w funs f=false:=by
 unfold zbD zhy;rw[zb2 (i:=i) (by omega) (by omega) h,Bool.and_false]
theorem zkd {w:List Data}{funs:List Ft}{f:Fu} (hc:za7 w f.ty.arg f.cls=true) (hl:f.bodies.length=f.cls.length) (h:∀i,i<f.bodies.length->isE w funs (zbu w f.ty.arg (nth f.cls i).pat) f.ty.res (nth f.bodies i)=true):zbD w funs f=true:=by
 unfold zbD zhy;rw[hc,zdJ (by omega) (fun i hi=>h i (by omega))];rfl
theorem zfG {w:List Data}{funs:List Ft} (h:zbC w funs=true):∀f∈funs,za8 w.length f.arg=true/\za8 w.length f.res=true:=by
 unfold zbC at h;simp only[xad,Bool.not_eq_true',List.any_eq_false,Bool.not_eq_false',decide_eq_true_eq] at h;intro f hf;have:=h.2 f hf;simpa using this
theorem zpw {α:Type}{p:α->Bool}{pre rest l:List α}{y:α} (h:pre++y::rest=l) (hy:p y=false):l.all p=false:=by
 subst h;simp[hy]
theorem zfU {w:List Data} (hs:WSmall w){l:List Fu} (hl:FusOk l):FnD Tryz.prog 7 [.d (zak w),.d (zbs l)] [] (.d (.bool (zbe w l))) []:=by
 have hll:=hl.1;have hfm:=fun(y:Fu) (hy:y∈l) (ho:zbC w (l.map Fu.ty)=true)=>zfG ho y.ty (List.mem_map.2 ⟨y,hy,rfl⟩);have hfa:=fun(ho:zbC w (l.map Fu.ty)=true) (f:Ft) (hf:f∈l.map Fu.ty)=>zgY (zfG ho f hf).1;have hml:(l.map Fu.ty).length<=1000000000000:=by simp;omega
 have hvw:=fun(h:zaC w=true)=>zdh hs h;unfold zbe;generalize hF:l.map Fu.ty=funs at *;have hft:=zjQ hl.1;rw[hF] at hft;refine bd Tryz.f7 72 [] [] fun w0 F0 own kept hk=>?_;refine wc ztH (hft) rfl rfl ?_;refine ev ?_;refine wc zrn (zfH hs) rfl rfl ?_;refine ev ?_;refine sq ?_ ?_<;>intro h1 h1p h1s<;>(try simp only[Q,Int.natCast_inj,Ex.cs_len] at h1p);refine sqT ?_;refine rq ?_;rotate_left;refine Walk.build st68 (ks:=[0,1]) (xs:=[_,_]) rfl rfl (.some rfl rfl h1) rfl rfl rfl ?_;refine Walk.call (cr:=[]) ztI (zkE hs.len hml) rfl (.some rfl rfl h1) rfl rfl (.cons (.agg (.cons (.refl _) (.cons (.refl _) (.cons .nil .nil)))) .nil) trivial rfl rfl rfl ?_;refine evs [] [(15,false)] ?_ ⟨⟨_,rfl,h1⟩,trivial⟩;refine sq ?_ ?_<;>intro h3 h3p h3s<;>(try simp only[Q,Int.natCast_inj,Ex.cs_len] at h3p);refine rq ?_;rotate_left;refine xak (ι:=List (Fu)×List (Fu)) hk (fun x=>[(24,.d (.i (x.1.length:Int)))]) [4,7,8,9,25,26,27,28,29,30,31,32,33,34,35,36,37,38,39,40,41,42,43,44,45,46,47,48,49,50,51,52,53,54,55,56,57,58,59,60,61,62,63,64,65,66,67,68,69,70,71] (fun x=>[]) (fun x=>x.1++x.2=l/\x.1.all (zbD w funs)=true) (fun x=>x.2.length) ([],l) ⟨by simp,by simp⟩ ⟨⟨_,rfl,xap ?_⟩,trivial⟩ trivial (fun x=>rfl) (fun x hg1=>?_);focus (first|rfl|(simp;done)|(simp_all;done)|omega)
 obtain⟨pre,rest⟩:=x;dsimp only at hg1 ⊢;refine evc [] [] ?_;refine sq ?_ ?_<;>intro h4 h4p h4s<;>(try simp only[Q,Int.natCast_inj,Ex.cs_len] at h4p);rcases rest with _|⟨y,rest⟩
 ·exfalso;simp_all
 have hyl:=(hl.2 y (by rw[<-hg1.1];simp)).2.1;refine Walk.idx sl24 .none rfl rfl rfl rfl (zaH hg1.1) rfl ?_;refine ev ?_;refine ab 3007 tz35 ?_;refine so ty35 ?_;refine tv ?_;refine wc ztJ (zhG hs (hl.2 y (by rw[<-hg1.1];simp)).1) rfl rfl ?_;refine ev ?_;refine sq ?_ ?_<;>intro h5 h5p h5s<;>(try simp only[Q,Int.natCast_inj,Ex.cs_len] at h5p);refine sqT ?_;refine rq ?_;rotate_left;refine sq ?_ ?_<;>intro h7 h7p h7s<;>(try simp only[Q,Int.natCast_inj,Ex.cs_len] at h7p);refine rq ?_;rotate_left;refine xak (ι:=Nat) hk (fun i=>[(48,.d (.i (i:Int)))]) [4,8,9,49,50,51,52,53,54,55,56,57,58,59,60,61,62,63,64,65,66,67,68,69,70] (fun i=>[]) (fun i=>i<=y.bodies.length/\∀i',i'<i->isE w funs (zbu w y.ty.arg (nth y.cls i').pat) y.ty.res (nth y.bodies i')=true) (fun i=>y.bodies.length-i) 0 ⟨by omega,fun _ h=>absurd h (by omega)⟩ ⟨⟨_,rfl,xap ?_⟩,trivial⟩ trivial (fun x=>rfl) (fun i hg2=>?_);focus (first|rfl|(simp;done)|(simp_all;done)|omega)
 refine evc [] [] ?_;refine sq ?_ ?_<;>intro h8 h8p h8s<;>(try simp only[Q,Int.natCast_inj,Ex.cs_len] at h8p);refine Walk.idx sl33 .none rfl rfl rfl rfl (zdL (by omega)) rfl ?_;refine ev ?_;refine ab 3009 tz40 ?_;refine ev ?_;refine so ty40 ?_;refine tv ?_;refine Walk.idx sl32 .none rfl rfl rfl rfl (zae (by omega)) rfl ?_;refine evd [] [] ?_;refine wc ztK (znw (hvw (by assumption)) (t:=y.ty.arg) (c:=nth y.cls i) (zgY (hfm y (by rw[<-hg1.1];simp) (by assumption)).1) ((hl.2 y (by rw[<-hg1.1];simp)).1.2 _ (zaj (by omega)))) rfl rfl ?_;refine evd [] [] ?_;refine wc ztL (znx (hvw (by assumption)) hml (by have:=zge w y.ty.arg (nth y.cls i).pat;omega) (hfa (by assumption)) (t:=y.ty.res) (e:=nth y.bodies i) (zgY (hfm y (by rw[<-hg1.1];simp) (by assumption)).2) (Exs.ok_mem (hl.2 y (by rw[<-hg1.1];simp)).2.2 _ (zaj (by omega)))) rfl rfl ?_;refine evd [] [] ?_;refine dr ?_;refine sq ?_ ?_<;>intro h9 h9p h9s<;>(try simp only[Q,Int.natCast_inj,Ex.cs_len] at h9p);refine rq ?_;rotate_left;refine ar ?_;refine xah (i+1) ⟨⟨by omega,zaN hg2.2 (by simp_all)⟩,(by omega),sx ⟨⟨_,rfl,xap ?_⟩,trivial⟩ trivial⟩;focus (first|rfl|(simp;done)|(simp_all;done)|omega)
 refine ar ?_;refine xah ((pre++[y],rest)) ⟨⟨(by have hz:=hg1.1;rw[<-hz];simp),(by rw[List.all_append,hg1.2];simp only[List.all_cons,List.all_nil,Bool.and_true,Bool.true_and];exact zkd (by simp_all) (by omega) (fun i' hi'=>hg2.2 i' (by omega)))⟩,(by simp),sx ⟨⟨_,rfl,xap ?_⟩,trivial⟩ trivial⟩;focus (first|rfl|(simp;done)|(simp_all;done)|omega)
 have hrest:rest=[]:=by
  rcases rest with _|⟨a,b⟩
  ·rfl
  ·exfalso;have hz:=congrArg List.length (hg1.1);simp only[xaa,xab,xac] at hz;omega
 subst hrest;refine rq ?_;rotate_left;all_goals (refine congrArg D.bool ?_;first|(simp_all;done)|(rw[zpw hg1.1 (by first|(unfold zbD;simp_all;done)|(exact zhz (by omega))|(exact zin (i:=i) (by omega) (by omega) (by simp_all)))];simp_all;done)|(rw[List.append_nil] at hg1;obtain⟨hz,hg2⟩:=hg1;subst hz;simp_all;done))
def AZ (w:List Data):Prop:=∀t c,c∈zaJ w t->TyIn w.length t->∀u∈zaq w t c,u.data = -1->u.index=0
theorem zh2 {w:List Data} (hv:zaC w=true):AZ w:=by
 have hW:=(zer w).1 hv;rintro ⟨a,k⟩ c hc ht u hu hd
 obtain⟨d,rfl,h1,j,rfl,h3⟩:=zbA ht hc;have hco:=hW.ctor _ (zaj h1) _ (zaj h3);simp only[zbH,xad,decide_eq_true_eq,Bool.not_eq_true',List.any_eq_false,Bool.not_eq_false'] at hco;have hall:=hco.2.2.2;simp only[zaq,Int.toNat_natCast] at hu;obtain⟨x,hx,rfl⟩:=List.mem_map.1 hu;have hxo:=hall x hx;simp only[zbn,zal,Bool.or_eq_true,xad,decide_eq_true_eq,and_true,Bool.not_eq_true',Bool.not_eq_false] at hxo;unfold zcN at hd ⊢;split at hd
 ·rename_i hi;rw[if_pos hi];dsimp only at hd ⊢;omega
 ·rename_i hi;rw[if_neg hi];omega
theorem zcC {n:Nat}{t:Ty} (h:za8 n t=true):TyOk n t:=by
 refine⟨zgY h,fun hd=>?_⟩;simp only[za8,zal,Bool.or_eq_true,xad,decide_eq_true_eq,and_true] at h;omega
theorem ziY {w:List Data} (hw:WT w) (haz:AZ w){funs:List Ft} (hf:∀f∈funs,TyOk w.length f.arg){t:Ty} (ht:TyOk w.length t){e:Ex}:∀u∈zaz w funs t e,TyOk w.length u:=by
 intro u hu;refine⟨zms hw (fun f h=>(hf f h).1) ht.1 u hu,fun hd=>?_⟩;unfold zaz at hu;split at hu
 ·split at hu
  ·rename_i h;exact haz t e.ctor h.2 ht.1 u hu hd
  ·simp at hu
 ·split at hu
  ·simp only[List.mem_cons,List.not_mem_nil,or_false,or_self] at hu;rw[hu] at hd ⊢;exact ht.2 hd
  ·split at hu
   ·split at hu
    ·rename_i h;simp only[List.mem_cons,List.not_mem_nil,or_false] at hu;rw[hu] at hd ⊢;exact(hf _ (zaj (by omega))).2 hd
    ·simp at hu
   ·simp at hu
theorem zd0 {a b:Ty}:FnD Tryz.prog 247 [.agg [.d (.i a.data),.d (.i a.index)],.agg [.d (.i b.data),.d (.i b.index)]] [] (.d (.bool (zgJ a b))) []:=by
 refine bd Tryz.f247 22 [] [] fun w0 F0 own kept hk=>?_;refine bx 3002 ?_;refine bx 3003 ?_;refine ev ?_;refine sq ?_ ?_<;>intro h1 h1p h1s<;>(try simp only[Q] at h1p);refine sq ?_ ?_<;>intro h2 h2p h2s<;>(try simp only[Q] at h2p);refine rq ?_;rotate_left;refine rq ?_;rotate_left;refine rq ?_;rotate_left;all_goals (refine congrArg D.bool ?_;unfold zgJ;simp_all)
def numT:Ty:=⟨-1,0⟩
def ze6 (w:List Data) (funs:List Ft) (t:Ty) (e:Ex):List Ty:=
 if (e.op≠3/\e.ctor≠0)\/((e.op=3\/e.op=4)/\e.n≠0) then [] else if e.op=4 then [numT,numT] else zaz w funs t e
theorem zqD {w:List Data}{funs:List Ft}{vars:List Vt}{t:Ty} (ht:TyOk w.length t){e:Ex} (h:okE w funs vars t e=true):ze6 w funs t e=zaz w funs t e:=by
 have hop:e.op=1\/e.op=2\/e.op=3\/e.op=4\/e.op=5:=by
  by_cases h0:e.op≠1/\e.op≠2/\e.op≠3/\e.op≠4/\e.op≠5
  ·rw[ok_0 h0] at h;exact absurd h (by simp)
  ·omega
 unfold ze6;rcases hop with h1|h1|h1|h1|h1
 ·rw[ok_1 h1] at h;have:=of_decide_eq_true h;rw[if_neg (by omega),if_neg (by omega)]
 ·rw[ok_2 h1] at h;simp only[xad,decide_eq_true_eq] at h;rw[if_neg (by omega),if_neg (by omega)]
 ·rw[ok_3 h1] at h;have:=of_decide_eq_true h;rw[if_neg (by omega),if_neg (by omega)]
 ·rw[ok_4 h1] at h;have:=of_decide_eq_true h;rw[if_neg (by omega),if_pos h1,ty_4 h1];have h2:=ht.2 this.1;have h3:t=numT:=by
   obtain⟨a,k⟩:=t;have h4:=this.1;dsimp only at h2 h4;rw[h4,h2];rfl
  rw[h3]
 ·rw[ok_5 h1] at h;simp only[xad,decide_eq_true_eq] at h;rw[if_neg (by omega),if_neg (by omega)]
section
variable {w:List Data}{funs:List Ft}{vars:List Vt}{t:Ty}{e:Ex}
theorem ts_x (h:(e.op≠3/\e.ctor≠0)\/((e.op=3\/e.op=4)/\e.n≠0)):ze6 w funs t e=[]:=by unfold ze6;rw[if_pos h]
theorem ts_4 (h:¬((e.op≠3/\e.ctor≠0)\/((e.op=3\/e.op=4)/\e.n≠0))) (h4:e.op=4):ze6 w funs t e=[numT,numT]:=by unfold ze6;rw[if_neg h,if_pos h4]
theorem ts_o (h:¬((e.op≠3/\e.ctor≠0)\/((e.op=3\/e.op=4)/\e.n≠0))) (h4:e.op≠4):ze6 w funs t e=zaz w funs t e:=by unfold ze6;rw[if_neg h,if_neg h4]
theorem ok_x (h:(e.op≠3/\e.ctor≠0)\/((e.op=3\/e.op=4)/\e.n≠0)):okE w funs vars t e=false:=by
 unfold okE;split
 ·exact decide_eq_false (by omega)
 ·split
  ·rw[decide_eq_false (p:=e.ctor=0) (by omega),Bool.and_false,Bool.and_false]
  ·split
   ·exact decide_eq_false (by omega)
   ·split
    ·exact decide_eq_false (by omega)
    ·split
     ·rw[decide_eq_false (by omega),Bool.false_and]
     ·rfl
end
theorem zkZ {w:List Data}{funs:List Ft}{vars:List Vt} (hw:WT w) (hfl:funs.length<=1000000000000) (hvl:vars.length<=1000000000000){t:Ty} (ht:TyOk w.length t){e:Ex}:
  FnD Tryz.prog 191 [.d (zak w),.d (zbq funs),.d (zbt vars),.agg [.d (.i t.data),.d (.i t.index)],.agg [.d (.i e.op),.d (.i e.n),.d (.i e.ctor),.d (zaX e.kids)]] [] (.tup [.d (zbI (ze6 w funs t e)),.d (.bool (okE w funs vars t e))]) []:=by
 have ht':TyIn w.length ⟨t.data,t.index⟩:=ht.1;have hcl:=ze8 hw ht';have hlt:=fun h=>zgu (l:=vars) (n:=e.n) h;have hvt:0<=zaV vars e.n->zfA vars e.n=(nth vars (zaV vars e.n).toNat).ty:=fun h=>by unfold zfA;rw[if_pos h]
 have hte:t=numT↔(t.data = -1/\t.index=0):=by
  constructor
  ·intro h;rw[h];exact⟨rfl,rfl⟩
  ·rintro ⟨h1,h2⟩;obtain⟨a,k⟩:=t;dsimp only at h1 h2;rw[h1,h2];rfl
 have ht2:=ht.2;by_cases hx:(e.op≠3/\e.ctor≠0)\/((e.op=3\/e.op=4)/\e.n≠0)
 ·rw[ts_x hx,ok_x hx];refine bd Tryz.f191 123 [] [2] fun w0 F0 own kept hk=>?_;refine bx 3008 ?_;refine bx 3009 ?_;refine ev ?_;refine bu [0] [_] st29 ?_;refine ab 3012 tz29 ?_;refine so ty29 ?_;refine tv ?_;refine xam ?_;refine xau 23 [(37,.d (.bool (decide ((e.op≠3/\e.ctor≠0)\/((e.op=3\/e.op=4)/\e.n≠0)))))] [15,16,17,18,19,20,21,22,23,24,25,26,27,28,29,30,31,32,33,34,35,36] ?_ ?_;refine ev ?_;refine sq ?_ ?_<;>intro h1 h1p h1s<;>(try simp only[Q] at h1p);refine sq ?_ ?_<;>intro h2 h2p h2s<;>(try simp only[Q] at h2p);focus (exact jn rfl (xao (by(first|rfl|(rw[Bool.eq_iff_iff];simp_all;done)|(rw[Bool.eq_iff_iff];simp_all;omega)))))
  refine sq ?_ ?_<;>intro h3 h3p h3s<;>(try simp only[Q] at h3p);refine sqT ?_;focus (exact jn rfl (xao (by(first|rfl|(rw[Bool.eq_iff_iff];simp_all;done)|(rw[Bool.eq_iff_iff];simp_all;omega)))))
  refine sq ?_ ?_<;>intro h4 h4p h4s<;>(try simp only[Q] at h4p);focus (exact jn rfl (xao (by(first|rfl|(rw[Bool.eq_iff_iff];simp_all;done)|(rw[Bool.eq_iff_iff];simp_all;omega)))))
  focus (exact jn rfl (xao (by(first|rfl|(rw[Bool.eq_iff_iff];simp_all;done)|(rw[Bool.eq_iff_iff];simp_all;omega)))))
  refine sqF ?_;refine sq ?_ ?_<;>intro h5 h5p h5s<;>(try simp only[Q] at h5p);refine sqT ?_;focus (exact jn rfl (xao (by(first|rfl|(rw[Bool.eq_iff_iff];simp_all;done)|(rw[Bool.eq_iff_iff];simp_all;omega)))))
  refine sq ?_ ?_<;>intro h6 h6p h6s<;>(try simp only[Q] at h6p);focus (exact jn rfl (xao (by(first|rfl|(rw[Bool.eq_iff_iff];simp_all;done)|(rw[Bool.eq_iff_iff];simp_all;omega)))))
  focus (exact jn rfl (xao (by(first|rfl|(rw[Bool.eq_iff_iff];simp_all;done)|(rw[Bool.eq_iff_iff];simp_all;omega)))))
  refine xat ?_;refine tv ?_;refine sq ?_ ?_<;>intro h7 h7p h7s<;>(try simp only[Q] at h7p);refine rn0 (r2 rfl rfl) (.tup (.cons (.nild ?_) (.cons (.eqd ?_) .nil)));rotate_left 2;focus (exfalso;first|(simp_all;done)|(simp_all;omega))
  all_goals (rfl)
 by_cases hmem:e.ctor∈zaJ w t
 ·have hmem':e.ctor∈zaJ w ⟨t.data,t.index⟩:=hmem;have hcon:=zcV (v:=e.ctor) hcl;refine bd Tryz.f191 123 [45,81] [2] fun w0 F0 own kept hk=>?_;refine bx 3008 ?_;refine bx 3009 ?_;refine evs [45,81] [] ?_;refine bu [0] [_] st29 ?_;refine ab 3012 tz29 ?_;refine so ty29 ?_;refine tv ?_;refine xam ?_;refine xau 23 [(37,.d (.bool (decide ((e.op≠3/\e.ctor≠0)\/((e.op=3\/e.op=4)/\e.n≠0)))))] [15,16,17,18,19,20,21,22,23,24,25,26,27,28,29,30,31,32,33,34,35,36] ?_ ?_;refine evs [45,81] [] ?_;refine sq ?_ ?_<;>intro h1 h1p h1s<;>(try simp only[Q] at h1p);refine sq ?_ ?_<;>intro h2 h2p h2s<;>(try simp only[Q] at h2p);focus (exact jn rfl (xao (by(first|rfl|(rw[Bool.eq_iff_iff];simp_all;done)|(rw[Bool.eq_iff_iff];simp_all;omega)))))
  refine sq ?_ ?_<;>intro h3 h3p h3s<;>(try simp only[Q] at h3p);refine sqT ?_;focus (exact jn rfl (xao (by(first|rfl|(rw[Bool.eq_iff_iff];simp_all;done)|(rw[Bool.eq_iff_iff];simp_all;omega)))))
  refine sq ?_ ?_<;>intro h4 h4p h4s<;>(try simp only[Q] at h4p);focus (exact jn rfl (xao (by(first|rfl|(rw[Bool.eq_iff_iff];simp_all;done)|(rw[Bool.eq_iff_iff];simp_all;omega)))))
  focus (exact jn rfl (xao (by(first|rfl|(rw[Bool.eq_iff_iff];simp_all;done)|(rw[Bool.eq_iff_iff];simp_all;omega)))))
  refine sqF ?_;refine sq ?_ ?_<;>intro h5 h5p h5s<;>(try simp only[Q] at h5p);refine sqT ?_;focus (exact jn rfl (xao (by(first|rfl|(rw[Bool.eq_iff_iff];simp_all;done)|(rw[Bool.eq_iff_iff];simp_all;omega)))))
  refine sq ?_ ?_<;>intro h6 h6p h6s<;>(try simp only[Q] at h6p);focus (exact jn rfl (xao (by(first|rfl|(rw[Bool.eq_iff_iff];simp_all;done)|(rw[Bool.eq_iff_iff];simp_all;omega)))))
  focus (exact jn rfl (xao (by(first|rfl|(rw[Bool.eq_iff_iff];simp_all;done)|(rw[Bool.eq_iff_iff];simp_all;omega)))))
  refine xat ?_;refine tv ?_;refine sq ?_ ?_<;>intro h7 h7p h7s<;>(try simp only[Q] at h7p);exfalso;apply hx;omega;refine sq ?_ ?_<;>intro h8 h8p h8s<;>(try simp only[Q] at h8p);refine xa5 zax .none rfl ?_;refine evd [45,81] [] ?_;refine xaN eq29 .none rfl rfl rfl rfl rfl ?_;refine evd [45,81] [] ?_;refine sq ?_ ?_<;>intro h9 h9p h9s<;>(try simp only[Q] at h9p);refine sq ?_ ?_<;>intro h10 h10p h10s<;>(try simp only[Q] at h10p);refine dr ?_;refine rn0 (r2 rfl rfl) (.tup (.cons (.eqd ?_) (.cons (.eqd ?_) .nil)));rotate_left 2;refine dr ?_;refine rn0 (r2 rfl rfl) (.tup (.cons (.eqd ?_) (.cons (.eqd ?_) .nil)));rotate_left 2;refine sqF ?_;refine dr ?_;refine rn0 (r2 rfl rfl) (.tup (.cons (.eqd ?_) (.cons (.eqd ?_) .nil)));rotate_left 2;refine sq ?_ ?_<;>intro h11 h11p h11s<;>(try simp only[Q] at h11p);refine wc zhe (zcE hvl) rfl rfl ?_;refine evs [45,81] [] ?_;refine xa5 zax .none rfl ?_;refine evd [45,81] [] ?_;refine sq ?_ ?_<;>intro h12 h12p h12s<;>(try simp only[Q] at h12p);refine Walk.idx (i:=(zaV vars e.n).toNat) sl66 (.some rfl rfl h12) rfl rfl rfl (by have:=hlt (by omega);omega) (zae (by have:=hlt (by omega);omega)) rfl ?_;refine evd [45,81] [(65,true)] ?_ ⟨⟨_,rfl,h12⟩,trivial⟩;refine Walk.call (cr:=[]) zkn (zd0 (a:=(nth vars (zaV vars e.n).toNat).ty) (b:=t)) rfl (.some rfl rfl h12) rfl rfl (LeL.refl _) trivial rfl rfl rfl ?_;refine evd [45,81] [(65,true)] ?_ ⟨⟨_,rfl,h12⟩,trivial⟩;refine dr ?_;refine rn0 (r2 rfl rfl) (.tup (.cons (.eqd ?_) (.cons (.eqd ?_) .nil)));rotate_left 2;refine dr ?_;refine rn0 (r2 rfl rfl) (.tup (.cons (.eqd ?_) (.cons (.eqd ?_) .nil)));rotate_left 2;refine sq ?_ ?_<;>intro h13 h13p h13s<;>(try simp only[Q] at h13p);refine si [0,1] [_,_] zax tz29 ?_;refine evd [45,81] [] ?_;refine xaN eq29 .none rfl rfl rfl rfl rfl ?_;refine evd [45,81] [] ?_;refine dr ?_;refine rn0 (r2 rfl rfl) (.tup (.cons (.eqd ?_) (.cons (.eqd ?_) .nil)));rotate_left 2;refine sq ?_ ?_<;>intro h14 h14p h14s<;>(try simp only[Q] at h14p);refine wc zgp (zb7 hw ht') rfl rfl ?_;refine evd [45,81] [] ?_;refine wc zhf (hcon) rfl rfl ?_;refine evd [45,81] [] ?_;refine dr ?_;refine sq ?_ ?_<;>intro h15 h15p h15s<;>(try simp only[Q] at h15p);refine rn0 (r2 rfl rfl) (.tup (.cons (.nild ?_) (.cons (.eqd ?_) .nil)));rotate_left 2;refine wc zbT (zcU hw ht' hmem') rfl rfl ?_;refine evs [45,81] [] ?_;refine rn0 (r2 rfl rfl) (.tup (.cons (.eqd ?_) (.cons (.eqd ?_) .nil)));rotate_left 2;refine sq ?_ ?_<;>intro h16 h16p h16s<;>(try simp only[Q] at h16p);refine sq ?_ ?_<;>intro h17 h17p h17s<;>(try simp only[Q] at h17p);refine sqT ?_;refine rn0 (r2 rfl rfl) (.tup (.cons (.nild ?_) (.cons (.eqd ?_) .nil)));rotate_left 2;refine sq ?_ ?_<;>intro h19 h19p h19s<;>(try simp only[Q] at h19p);refine rn0 (r2 rfl rfl) (.tup (.cons (.nild ?_) (.cons (.eqd ?_) .nil)));rotate_left 2;refine Walk.idx (i:=e.n.toNat) sl63 .none rfl rfl rfl (by omega) (zae (by omega)) rfl ?_;refine evd [45,81] [] ?_;refine si [0] [_] zax tz29 ?_;refine evd [45,81] [] ?_;refine Walk.idx (i:=e.n.toNat) sl63 .none rfl rfl rfl (by omega) (zae (by omega)) rfl ?_;refine evd [45,81] [] ?_;refine wc zkn (zd0 (a:=(nth funs e.n.toNat).res) (b:=t)) rfl rfl ?_;refine evd [45,81] [] ?_;refine dr ?_;refine rn0 (r2 rfl rfl) (.tup (.cons (.eqd ?_) (.cons (.eqd ?_) .nil)));rotate_left 2;refine rn0 (r2 rfl rfl) (.tup (.cons (.nild ?_) (.cons (.eqd ?_) .nil)));rotate_left 2;all_goals (first|rfl|(rw[ts_4 hx (by omega)];all_goals rfl)|(rw[ts_o hx (by omega),ty_0 (by omega)];all_goals rfl)|(rw[ts_o hx (by omega),ty_3 (by omega) (by omega) hmem];all_goals rfl)|(rw[ts_o hx (by omega),zjd (by omega) (by omega)];all_goals rfl)|(rw[ts_o hx (by omega),ty_5 (by omega) (by omega)];all_goals rfl)|(refine congrArg D.bool ?_;rw[ok_1 (by omega),decide_eq_false (by omega)];done)|(refine congrArg D.bool ?_;rw[ok_1 (by omega)];simp_all;done)|(refine congrArg D.bool ?_;rw[ok_2 (by omega),decide_eq_false (by omega),Bool.false_and];done)|(refine congrArg D.bool ?_;rw[ok_2 (by omega),hvt (by omega)];simp_all;done)|(refine congrArg D.bool ?_;rw[ok_3 (by omega)];simp_all;done)|(refine congrArg D.bool ?_;rw[ok_4 (by omega)];simp_all;done)|(refine congrArg D.bool ?_;rw[ok_5 (by omega)];first|(rw[decide_eq_true (by omega),Bool.true_and];done)|(rw[decide_eq_false (by omega),Bool.false_and];done))|(refine congrArg D.bool ?_;rw[ok_0 (by omega)];done)|(exfalso;simp_all;done))
 ·have hmem':e.ctor∉zaJ w ⟨t.data,t.index⟩:=hmem;have hcon:=zcV (v:=e.ctor) hcl;rw[decide_eq_false hmem'] at hcon;refine bd Tryz.f191 123 [45,81] [2] fun w0 F0 own kept hk=>?_;refine bx 3008 ?_;refine bx 3009 ?_;refine evs [45,81] [] ?_;refine bu [0] [_] st29 ?_;refine ab 3012 tz29 ?_;refine so ty29 ?_;refine tv ?_;refine xam ?_;refine xau 23 [(37,.d (.bool (decide ((e.op≠3/\e.ctor≠0)\/((e.op=3\/e.op=4)/\e.n≠0)))))] [15,16,17,18,19,20,21,22,23,24,25,26,27,28,29,30,31,32,33,34,35,36] ?_ ?_;refine evs [45,81] [] ?_;refine sq ?_ ?_<;>intro h1 h1p h1s<;>(try simp only[Q] at h1p);refine sq ?_ ?_<;>intro h2 h2p h2s<;>(try simp only[Q] at h2p);focus (exact jn rfl (xao (by(first|rfl|(rw[Bool.eq_iff_iff];simp_all;done)|(rw[Bool.eq_iff_iff];simp_all;omega)))))
  refine sq ?_ ?_<;>intro h3 h3p h3s<;>(try simp only[Q] at h3p);refine sqT ?_;focus (exact jn rfl (xao (by(first|rfl|(rw[Bool.eq_iff_iff];simp_all;done)|(rw[Bool.eq_iff_iff];simp_all;omega)))))
  refine sq ?_ ?_<;>intro h4 h4p h4s<;>(try simp only[Q] at h4p);focus (exact jn rfl (xao (by(first|rfl|(rw[Bool.eq_iff_iff];simp_all;done)|(rw[Bool.eq_iff_iff];simp_all;omega)))))
  focus (exact jn rfl (xao (by(first|rfl|(rw[Bool.eq_iff_iff];simp_all;done)|(rw[Bool.eq_iff_iff];simp_all;omega)))))
  refine sqF ?_;refine sq ?_ ?_<;>intro h5 h5p h5s<;>(try simp only[Q] at h5p);refine sqT ?_;focus (exact jn rfl (xao (by(first|rfl|(rw[Bool.eq_iff_iff];simp_all;done)|(rw[Bool.eq_iff_iff];simp_all;omega)))))
  refine sq ?_ ?_<;>intro h6 h6p h6s<;>(try simp only[Q] at h6p);focus (exact jn rfl (xao (by(first|rfl|(rw[Bool.eq_iff_iff];simp_all;done)|(rw[Bool.eq_iff_iff];simp_all;omega)))))
  focus (exact jn rfl (xao (by(first|rfl|(rw[Bool.eq_iff_iff];simp_all;done)|(rw[Bool.eq_iff_iff];simp_all;omega)))))
  refine xat ?_;refine tv ?_;refine sq ?_ ?_<;>intro h7 h7p h7s<;>(try simp only[Q] at h7p);exfalso;apply hx;omega;refine sq ?_ ?_<;>intro h8 h8p h8s<;>(try simp only[Q] at h8p);refine xa5 zax .none rfl ?_;refine evd [45,81] [] ?_;refine xaN eq29 .none rfl rfl rfl rfl rfl ?_;refine evd [45,81] [] ?_;refine sq ?_ ?_<;>intro h9 h9p h9s<;>(try simp only[Q] at h9p);refine sq ?_ ?_<;>intro h10 h10p h10s<;>(try simp only[Q] at h10p);refine dr ?_;refine rn0 (r2 rfl rfl) (.tup (.cons (.eqd ?_) (.cons (.eqd ?_) .nil)));rotate_left 2;refine dr ?_;refine rn0 (r2 rfl rfl) (.tup (.cons (.eqd ?_) (.cons (.eqd ?_) .nil)));rotate_left 2;refine sqF ?_;refine dr ?_;refine rn0 (r2 rfl rfl) (.tup (.cons (.eqd ?_) (.cons (.eqd ?_) .nil)));rotate_left 2;refine sq ?_ ?_<;>intro h11 h11p h11s<;>(try simp only[Q] at h11p);refine wc zhe (zcE hvl) rfl rfl ?_;refine evs [45,81] [] ?_;refine xa5 zax .none rfl ?_;refine evd [45,81] [] ?_;refine sq ?_ ?_<;>intro h12 h12p h12s<;>(try simp only[Q] at h12p);refine Walk.idx (i:=(zaV vars e.n).toNat) sl66 (.some rfl rfl h12) rfl rfl rfl (by have:=hlt (by omega);omega) (zae (by have:=hlt (by omega);omega)) rfl ?_;refine evd [45,81] [(65,true)] ?_ ⟨⟨_,rfl,h12⟩,trivial⟩;refine Walk.call (cr:=[]) zkn (zd0 (a:=(nth vars (zaV vars e.n).toNat).ty) (b:=t)) rfl (.some rfl rfl h12) rfl rfl (LeL.refl _) trivial rfl rfl rfl ?_;refine evd [45,81] [(65,true)] ?_ ⟨⟨_,rfl,h12⟩,trivial⟩;refine dr ?_;refine rn0 (r2 rfl rfl) (.tup (.cons (.eqd ?_) (.cons (.eqd ?_) .nil)));rotate_left 2;refine dr ?_;refine rn0 (r2 rfl rfl) (.tup (.cons (.eqd ?_) (.cons (.eqd ?_) .nil)));rotate_left 2;refine sq ?_ ?_<;>intro h13 h13p h13s<;>(try simp only[Q] at h13p);refine si [0,1] [_,_] zax tz29 ?_;refine evd [45,81] [] ?_;refine xaN eq29 .none rfl rfl rfl rfl rfl ?_;refine evd [45,81] [] ?_;refine dr ?_;refine rn0 (r2 rfl rfl) (.tup (.cons (.eqd ?_) (.cons (.eqd ?_) .nil)));rotate_left 2;refine sq ?_ ?_<;>intro h14 h14p h14s<;>(try simp only[Q] at h14p);refine wc zgp (zb7 hw ht') rfl rfl ?_;refine evd [45,81] [] ?_;refine wc zhf (hcon) rfl rfl ?_;refine evd [45,81] [] ?_;refine dr ?_;refine sq ?_ ?_<;>intro h15 h15p h15s<;>(try simp only[Q] at h15p);refine rn0 (r2 rfl rfl) (.tup (.cons (.nild ?_) (.cons (.eqd ?_) .nil)));rotate_left 2;exfalso;simp_all;refine sq ?_ ?_<;>intro h16 h16p h16s<;>(try simp only[Q] at h16p);refine sq ?_ ?_<;>intro h17 h17p h17s<;>(try simp only[Q] at h17p);refine sqT ?_;refine rn0 (r2 rfl rfl) (.tup (.cons (.nild ?_) (.cons (.eqd ?_) .nil)));rotate_left 2;refine sq ?_ ?_<;>intro h19 h19p h19s<;>(try simp only[Q] at h19p);refine rn0 (r2 rfl rfl) (.tup (.cons (.nild ?_) (.cons (.eqd ?_) .nil)));rotate_left 2;refine Walk.idx (i:=e.n.toNat) sl63 .none rfl rfl rfl (by omega) (zae (by omega)) rfl ?_;refine evd [45,81] [] ?_;refine si [0] [_] zax tz29 ?_;refine evd [45,81] [] ?_;refine Walk.idx (i:=e.n.toNat) sl63 .none rfl rfl rfl (by omega) (zae (by omega)) rfl ?_;refine evd [45,81] [] ?_;refine wc zkn (zd0 (a:=(nth funs e.n.toNat).res) (b:=t)) rfl rfl ?_;refine evd [45,81] [] ?_;refine dr ?_;refine rn0 (r2 rfl rfl) (.tup (.cons (.eqd ?_) (.cons (.eqd ?_) .nil)));rotate_left 2;refine rn0 (r2 rfl rfl) (.tup (.cons (.nild ?_) (.cons (.eqd ?_) .nil)));rotate_left 2;all_goals (first|rfl|(rw[ts_4 hx (by omega)];all_goals rfl)|(rw[ts_o hx (by omega),ty_0 (by omega)];all_goals rfl)|(rw[ts_o hx (by omega),zrN (by omega) hmem];all_goals rfl)|(rw[ts_o hx (by omega),zjd (by omega) (by omega)];all_goals rfl)|(rw[ts_o hx (by omega),ty_5 (by omega) (by omega)];all_goals rfl)|(refine congrArg D.bool ?_;rw[ok_1 (by omega),decide_eq_false (by omega)];done)|(refine congrArg D.bool ?_;rw[ok_1 (by omega)];simp_all;done)|(refine congrArg D.bool ?_;rw[ok_2 (by omega),decide_eq_false (by omega),Bool.false_and];done)|(refine congrArg D.bool ?_;rw[ok_2 (by omega),hvt (by omega)];simp_all;done)|(refine congrArg D.bool ?_;rw[ok_3 (by omega)];simp_all;done)|(refine congrArg D.bool ?_;rw[ok_4 (by omega)];simp_all;done)|(refine congrArg D.bool ?_;rw[ok_5 (by omega)];first|(rw[decide_eq_true (by omega),Bool.true_and];done)|(rw[decide_eq_false (by omega),Bool.false_and];done))|(refine congrArg D.bool ?_;rw[ok_0 (by omega)];done)|(exfalso;simp_all;done))
theorem zgG {w:List Data}{funs:List Ft}{vars:List Vt} (hw:WT w) (haz:AZ w) (hfl:funs.length<=1000000000000) (hvl:vars.length<=1000000000000) (hfa:∀f∈funs,TyOk w.length f.arg):∀(n:Nat){t:Ty}{m:Int}{e:Ex},m=n->n<=1000->TyOk w.length t->e.ok->
  FnD Tryz.prog 137 [.d (zak w),.d (zbq funs),.d (zbt vars),.agg [.d (.i t.data),.d (.i t.index)],.agg [.d (.i e.op),.d (.i e.n),.d (.i e.ctor),.d (zaX e.kids)],.d (.i m)] [] (.d (.bool (zbr w funs vars n t e))) []
 |0,t,m,e,hm,_,_,_=>by
  refine bd Tryz.f137 59 [] [] fun w0 F0 own kept hk=>?_;refine bx 3009 ?_;refine bx 3010 ?_;refine ev ?_;refine sq ?_ ?_<;>intro h1 h1p h1s<;>(try simp only[Q] at h1p);refine rq ?_;rotate_left;exfalso;omega;all_goals (rfl)
 |n+1,t,m,e,hm,hn,ht,hok=>by
  rw[Ex.ok_iff] at hok;have hkd:=zkZ hw hfl hvl ht (e:=e) (funs:=funs) (vars:=vars);have htl:=zlk hw ht.1 (funs:=funs) (e:=e);have hti:=ziY hw haz hfa ht (e:=e);cases ho:okE w funs vars t e with
  |false=>
   have hsc:zbr w funs vars (n+1) t e=false:=by
    conv=>lhs;unfold zbr zc2
    rw[ho];rfl
   rw[ho] at hkd;rw[hsc];refine bd Tryz.f137 59 [] [] fun w0 F0 own kept hk=>?_;refine bx 3009 ?_;refine bx 3010 ?_;refine ev ?_;refine sq ?_ ?_<;>intro h1 h1p h1s<;>(try simp only[Q] at h1p);exfalso;omega;refine wc zna (hkd) rfl rfl ?_;refine ev ?_;refine sq ?_ ?_<;>intro h2 h2p h2s<;>(try simp only[Q] at h2p);refine sqT ?_;refine rq ?_;rotate_left;refine sq ?_ ?_<;>intro h4 h4p h4s<;>(try simp only[Q] at h4p);refine rq ?_;rotate_left;exfalso;simp_all;all_goals (rfl)
  |true=>
   rw[ho,zqD ht ho] at hkd;by_cases hlen:(zaz w funs t e).length=e.kids.length
   ·have hsc:zbr w funs vars (n+1) t e=all2 (zbr w funs vars n) (zaz w funs t e) e.kids:=by
     conv=>lhs;unfold zbr zc2
     rw[ho,decide_eq_true hlen];rfl
    rw[hsc];refine bd Tryz.f137 59 [] [] fun w0 F0 own kept hk=>?_;refine bx 3009 ?_;refine bx 3010 ?_;refine ev ?_;refine sq ?_ ?_<;>intro h1 h1p h1s<;>(try simp only[Q,Ex.cs_len] at h1p);exfalso;omega;refine wc zna (hkd) rfl rfl ?_;refine ev ?_;refine sq ?_ ?_<;>intro h2 h2p h2s<;>(try simp only[Q,Ex.cs_len] at h2p);refine sqT ?_;focus (exfalso;first|omega|(simp_all[Ex.cs_len];done))
    refine sq ?_ ?_<;>intro h4 h4p h4s<;>(try simp only[Q,Ex.cs_len] at h4p);focus (exfalso;first|omega|(simp_all[Ex.cs_len];done))
    refine xak (ι:=Nat) hk (fun i=>[(15,.d (.i (i:Int)))]) [12,37,38,39,40,41,42,43,44,45,46,47,48,49,50,51,52,53,54,55,56,57,58] (fun i=>[]) (fun i=>i<=(zaz w funs t e).length/\∀i',i'<i->zbr w funs vars n (nth (zaz w funs t e) i') (nth e.kids i')=true) (fun i=>(zaz w funs t e).length-i) 0 ⟨by omega,fun _ h=>absurd h (by omega)⟩ ⟨⟨_,rfl,xap ?_⟩,trivial⟩ trivial (fun x=>rfl) (fun i hg1=>?_);focus (first|rfl|(simp;done)|(simp_all;done)|omega)
    refine evc [] [] ?_;refine sq ?_ ?_<;>intro h5 h5p h5s<;>(try simp only[Q,Ex.cs_len] at h5p);refine Walk.idx zax .none rfl rfl rfl rfl (zae (by omega)) rfl ?_;refine evd [] [] ?_;refine Walk.idx sl33 .none rfl rfl rfl rfl (zdL (by omega)) rfl ?_;refine evd [] [] ?_;refine ar ?_;refine wc zpB (zgG hw haz hfl hvl hfa n (t:=nth (zaz w funs t e) i) (by omega) (by omega) (hti _ (zaj (by omega))) (Exs.ok_mem hok.2 _ (zaj (by omega)))) rfl rfl ?_;refine evd [] [] ?_;refine dr ?_;refine sq ?_ ?_<;>intro h6 h6p h6s<;>(try simp only[Q,Ex.cs_len] at h6p);refine rq ?_;rotate_left;refine ar ?_;refine xah (i+1) ⟨⟨by omega,zaN hg1.2 (by simp_all)⟩,(by omega),sx ⟨⟨_,rfl,xap ?_⟩,trivial⟩ trivial⟩;focus (first|rfl|(simp;done)|(simp_all;done)|omega)
    refine rq ?_;rotate_left;all_goals (refine congrArg D.bool ?_;first|(refine(zdJ (by omega) (fun x hx=>hg1.2 x (by omega))).symm)|(refine(zb2 (i:=i) (by omega) (by omega) ?_).symm;simp_all))
   ·have hsc:zbr w funs vars (n+1) t e=false:=by
     conv=>lhs;unfold zbr zc2
     rw[ho,decide_eq_false hlen];rfl
    rw[hsc];refine bd Tryz.f137 59 [] [] fun w0 F0 own kept hk=>?_;refine bx 3009 ?_;refine bx 3010 ?_;refine ev ?_;refine sq ?_ ?_<;>intro h1 h1p h1s<;>(try simp only[Q,Ex.cs_len] at h1p);exfalso;omega;refine wc zna (hkd) rfl rfl ?_;refine ev ?_;refine sq ?_ ?_<;>intro h2 h2p h2s<;>(try simp only[Q,Ex.cs_len] at h2p);refine sqT ?_;refine rq ?_;rotate_left;refine sq ?_ ?_<;>intro h4 h4p h4s<;>(try simp only[Q,Ex.cs_len] at h4p);refine rq ?_;rotate_left;exfalso;omega;all_goals (rfl)
theorem zgE:∀(n:Nat){v:Ex}{m:Int},v.size<=n->v.size<=1000000000000->v.ok->0<=m->m<=1000000000000->FnD Tryz.prog 138 [.agg [.d (.i v.op),.d (.i v.n),.d (.i v.ctor),.d (zaX v.kids)],.d (.i m)] [] (.d (.i (cntE m v))) []
 |0,v,m,h,_,_,_,_=>by rw[Ex.size_eq] at h;omega
 |n+1,v,m,h,hb,hok,m0,m1=>by
  rw[Ex.size_eq] at h hb;rw[Ex.ok_iff] at hok;rw[zr0];refine bd Tryz.f138 31 [] [] fun w0 F0 own kept hk=>?_;refine bx 3002 ?_;refine ev ?_;refine xak (ι:=Nat×Int) hk (fun x=>[(6,.d (.i (x.1:Int))),(5,.d (.i x.2))]) [7,8,9,10,11,12,13,14,15,16,17,18,19,20,21,22,23,24,25,26,27,28,29] (fun x=>[]) (fun x=>x.1<=v.kids.length/\zcX m x.2 (v.kids.drop x.1)=zcX m 1 v.kids/\1<=x.2/\x.2+Exs.size (v.kids.drop x.1)<=1+Exs.size v.kids) (fun x=>v.kids.length-x.1) (0,1) ⟨by simp,by simp,by simp,by simp⟩ ⟨⟨_,rfl,xap ?_⟩,⟨⟨_,rfl,xap ?_⟩,trivial⟩⟩ trivial (fun x=>rfl) (fun x hg1=>?_);iterate 2 focus (first|rfl|(simp;done)|(dsimp only;omega))
  refine evc [] [] ?_;refine sq ?_ ?_<;>intro h1 h1p h1s<;>(try simp only[Q,Ex.cs_len] at h1p);refine sq ?_ ?_<;>intro h2 h2p h2s<;>(try simp only[Q,Ex.cs_len] at h2p);refine Walk.idx sl33 .none rfl rfl rfl rfl (zdL (by omega)) rfl ?_;refine ev ?_;refine ar ?_ (by first|(constructor<;>omega)|(have hz:=zgh (nth v.kids x.1) (m-x.2);have hs:=zf0 (l:=v.kids) (i:=x.1) (by omega);constructor<;>omega)|(constructor<;>simp[Ex.cs_len]<;>omega));refine wc zpC (zgE n (v:=nth v.kids x.1) (by have:=zlV (l:=v.kids) (i:=x.1) (by omega);omega) (by have:=zlV (l:=v.kids) (i:=x.1) (by omega);omega) (Exs.ok_mem hok.2 _ (zaj (by omega))) (by omega) (by omega)) rfl rfl ?_;refine ev ?_;refine ar ?_ (by first|(constructor<;>omega)|(have hz:=zgh (nth v.kids x.1) (m-x.2);have hs:=zf0 (l:=v.kids) (i:=x.1) (by omega);constructor<;>omega)|(constructor<;>simp[Ex.cs_len]<;>omega));refine ar ?_ (by first|(constructor<;>omega)|(have hz:=zgh (nth v.kids x.1) (m-x.2);have hs:=zf0 (l:=v.kids) (i:=x.1) (by omega);constructor<;>omega)|(constructor<;>simp[Ex.cs_len]<;>omega));refine xah ((x.1+1,x.2+cntE (m-x.2) (nth v.kids x.1))) ⟨(by
      obtain⟨h1,h2,h3,h4⟩:=hg1;have hz:=zgh (nth v.kids x.1) (m-x.2);have hs:=zf0 (l:=v.kids) (i:=x.1) (by omega);refine⟨by dsimp only;omega, ?_,by dsimp only;omega,by dsimp only;omega⟩;rw[<-h2,zbd (l:=v.kids) (i:=x.1) (by omega),zcX,if_pos (by omega)]),(by dsimp only;omega),sx ⟨⟨_,rfl,xap ?_⟩,⟨⟨_,rfl,xap ?_⟩,trivial⟩⟩ trivial⟩
  iterate 2 focus (first|rfl|(simp;done)|(dsimp only;omega))
  refine rq ?_;rotate_left;refine sqF ?_;refine rq ?_;rotate_left;all_goals (refine congrArg D.i ?_;rw[<-hg1.2.1];first|(rw[List.drop_eq_nil_of_le (by omega)];rfl)|(rw[zku (by omega)]))
theorem zia {w:List Data}{funs:List Ft}{vars:List Vt} (hw:WT w) (haz:AZ w) (hfl:funs.length<=1000000000000) (hvl:vars.length<=1000000000000) (hfa:∀f∈funs,TyOk w.length f.arg){t:Ty}{e:Ex} (ht:TyOk w.length t) (hok:e.ok) (hsz:e.size<=1000000000000):
  FnD Tryz.prog 81 [.d (zak w),.d (zbq funs),.d (zbt vars),.agg [.d (.i t.data),.d (.i t.index)],.agg [.d (.i e.op),.d (.i e.n),.d (.i e.ctor),.d (zaX e.kids)]] [] (.d (.bool (isE w funs vars t e))) []:=by
 have hc:=znj e 60;refine bd Tryz.f81 22 [] [] fun w0 F0 own kept hk=>?_;refine bx 3008 ?_;refine bx 3009 ?_;refine ev ?_;refine wc zpB (zgG hw haz hfl hvl hfa 10 rfl (by omega) ht hok) rfl rfl ?_;refine ev ?_;refine sq ?_ ?_<;>intro h1 h1p h1s<;>(try simp only[Q] at h1p);refine Walk.call (cr:=[]) zpC (zgE _ (Nat.le_refl _) hsz hok (by omega) (by omega)) rfl (.some rfl rfl h1) rfl rfl (LeL.refl _) trivial rfl rfl rfl ?_;refine evs [] [(17,true)] ?_ ⟨⟨_,rfl,h1⟩,trivial⟩;refine rq ?_;rotate_left;refine rq ?_;rotate_left;all_goals (refine congrArg D.bool ?_;unfold isE;first|(rw[h1,Bool.true_and];exact decide_eq_decide.2 hc.1)|(rw[h1s,Bool.true_and];exact decide_eq_decide.2 hc.1)|(simp_all;done))
theorem zjA {w:List Data}{a b:Int}:FnD Tryz.prog 78 [.d (zak w),.agg [.d (.i a),.d (.i b)]] [] (.d (.bool (za8 w.length ⟨a,b⟩))) []:=by
 have e:(zbn w.length ⟨a,b⟩&&decide (0<=b))=za8 w.length ⟨a,b⟩:=by
  rw[Bool.eq_iff_iff];simp only[zbn,za8,zal,xad,Bool.or_eq_true,decide_eq_true_eq,and_true];omega
 rw[<-e];exact ze3
theorem zd1 {w:List Data}{funs:List Ft} (hs:w.length<=1000000000000) (hfl:funs.length<=1000000000000):FnD Tryz.prog 36 [.d (zak w),.d (zbq funs)] [] (.d (.bool (zbC w funs))) []:=by
 have hbad:∀i,i<funs.length->(za8 w.length (nth funs i).arg&&za8 w.length (nth funs i).res)=false->zbC w funs=false:=fun i hi h=>by
  unfold zbC;have:funs.any (fun f=> !(za8 w.length f.arg&&za8 w.length f.res))=true:=List.any_eq_true.2 ⟨nth funs i,zaj hi,by rw[h];rfl⟩;rw[this];simp
 have hgood:funs.length<=4->(∀i,i<funs.length->(za8 w.length (nth funs i).arg&&za8 w.length (nth funs i).res)=true)->zbC w funs=true:=fun h4 h=>by
  unfold zbC;rw[decide_eq_true (by omega),Bool.true_and,Bool.not_eq_true',List.any_eq_false];intro f hf;obtain⟨i,hi,rfl⟩:=List.getElem_of_mem hf;have:=h i hi;simp only[nth,List.getD,List.getElem?_eq_getElem hi,Option.getD_some] at this;simp[this]
 have hmany:4<funs.length->zbC w funs=false:=fun h=>by unfold zbC;rw[decide_eq_false (by omega),Bool.false_and]
 refine bd Tryz.f36 37 [] [] fun w0 F0 own kept hk=>?_;refine xak (ι:=Nat) hk (fun i=>[(5,.d (.i (i:Int)))]) [4,6,7,8,9,10,11,12,13,14,15,16,17,18,19,20,21,22,23,24,25,26,27,28,29,30,31,32,33] (fun i=>[]) (fun i=>i<=funs.length/\i<=5/\∀i',i'<i->(za8 w.length (nth funs i').arg&&za8 w.length (nth funs i').res)=true) (fun i=>5-i) 0 ⟨by omega,by omega,fun _ h=>absurd h (by omega)⟩ ⟨⟨_,rfl,xap ?_⟩,trivial⟩ trivial (fun x=>rfl) (fun i hg1=>?_);focus (first|rfl|(simp;done)|(simp_all;done)|omega)
 refine evc [] [] ?_;refine sq ?_ ?_<;>intro h1 h1p h1s<;>(try simp only[Q,xac] at h1p);refine sq ?_ ?_<;>intro h2 h2p h2s<;>(try simp only[Q,xac] at h2p);refine Walk.idx sl63 .none rfl rfl rfl rfl (zae (by omega)) rfl ?_;refine ev ?_;refine wc zi6 (zjA (a:=(nth funs i).arg.data) (b:=(nth funs i).arg.index)) rfl rfl ?_;refine ev ?_;refine sq ?_ ?_<;>intro h3 h3p h3s<;>(try simp only[Q,xac] at h3p);refine sqT ?_;refine rq ?_;rotate_left;refine Walk.idx sl63 (.some rfl rfl h3) rfl rfl rfl rfl (zae (by omega)) rfl ?_;refine evs [] [(24,false)] ?_ ⟨⟨_,rfl,h3⟩,trivial⟩;refine Walk.call (cr:=[]) zi6 (zjA (a:=(nth funs i).res.data) (b:=(nth funs i).res.index)) rfl (.some rfl rfl h3) rfl rfl (LeL.refl _) trivial rfl rfl rfl ?_;refine evs [] [(24,false)] ?_ ⟨⟨_,rfl,h3⟩,trivial⟩;refine sq ?_ ?_<;>intro h5 h5p h5s<;>(try simp only[Q,xac] at h5p);refine rq ?_;rotate_left;refine ar ?_;refine xah (i+1) ⟨⟨by omega,by omega,zaN hg1.2.2 (by simp_all)⟩,(by omega),sx ⟨⟨_,rfl,xap ?_⟩,trivial⟩ trivial⟩;focus (first|rfl|(simp;done)|(simp_all;done)|omega)
 refine rq ?_;rotate_left;refine sqF ?_;refine rq ?_;rotate_left;all_goals (refine congrArg D.bool ?_;first|(rw[hbad i (by omega) (by simp_all)];done)|(rw[hmany (by omega)];exact decide_eq_false (by simp;omega))|(by_cases h44:funs.length<=4<;>first|(rw[hgood h44 (fun x hx=>hg1.2.2 x (by omega))];exact decide_eq_true (by simp;omega))|(rw[hmany (by omega)];exact decide_eq_false (by simp;omega))))
theorem zeG {l:List Fu} (hl:l.length<=1000000000000):FnD Tryz.prog 34 [.d (zbs l)] [] (.d (zbq (l.map Fu.ty))) []:=by
 refine bd Tryz.f34 21 [] [] fun w0 F0 own kept hk=>?_;refine xa6 1 sl63 .none rfl rfl ?_;refine ev ?_;refine xak (ι:=List (Fu)×List (Fu)) hk (fun x=>[(4,.d (.i (x.1.length:Int))),(3,.gl 1 ((x.1.map Fu.ty).map Ft.c))]) [6,7,8,9,10,11,12,13,14,15,16,17,18,19] (fun x=>[(1,some (.tok (((x.1.map Fu.ty).map Ft.c)).length 4))]) (fun x=>x.1++x.2=l) (fun x=>x.2.length) ([],l) (by simp) ⟨⟨_,rfl,xap ?_⟩,⟨⟨_,rfl,LeA.glg ?_⟩,trivial⟩⟩ ⟨zaf ?_,trivial⟩ (fun x=>rfl) (fun x hg1=>?_);iterate 3 focus (first|rfl|(simp;done)|(simp;omega))
 obtain⟨pre,rest⟩:=x;dsimp only at hg1 ⊢;refine evc [] [] ?_;refine sq ?_ ?_<;>intro h1 h1p h1s<;>(try simp only[Q] at h1p);rcases rest with _|⟨y,rest⟩
 ·exfalso;simp_all
 refine Walk.idx sl24 .none rfl rfl rfl rfl (zaH hg1) rfl ?_;refine ev ?_;refine si [0] [_] sl63 tz31 ?_;refine ap sl63 zz31 rfl rfl rfl (by simp) (by have hz:=congrArg List.length hg1;simp at hz ⊢;omega) ?_;refine ev ?_;refine ar ?_;refine xah ((pre++[y],rest)) ⟨(by have hz:=hg1;rw[<-hz];simp),(by simp),sx ⟨⟨_,rfl,xap ?_⟩,⟨⟨_,rfl,LeA.glg ?_⟩,trivial⟩⟩ ⟨zaf ?_,trivial⟩⟩;iterate 3 focus (first|rfl|(simp;done)|(simp;omega))
 have hrest:rest=[]:=by
  rcases rest with _|⟨a,b⟩
  ·rfl
  ·exfalso;have hz:=congrArg List.length (hg1);simp only[xaa,xab,xac] at hz;omega
 subst hrest;refine rn0 (r1 rfl) (.gld ?_);rotate_left;all_goals (first|rfl|(rw[List.append_nil] at hg1;subst hg1;simp;done))
theorem zmu {w:List Data}{t:Ty}{p:Pat} (h:isP w t p=true):zbu w t p=zaE w 10 t p:=by
 unfold isP at h;simp only[xad,decide_eq_true_eq] at h;have e:=(zfm w 10 t p 0).1;have hw:zbM w 10 t p 0=true:=by
  unfold zbM;rw[h.1,h.2.2,decide_eq_true (by omega)];rfl
 rw[if_pos hw] at e;unfold zbu;rw[e];rfl
theorem zqF {w:List Data}{t:Ty}{p:Pat} (h:isP w t p=true):zcs (zaE w 10 t p)=true:=by
 unfold isP at h;simp only[xad] at h;exact zgO w 10 t p h.1 h.2.2
theorem zoa {w:List Data} (hw:WT w) (haz:AZ w):∀(n:Nat){t:Ty}{p:Pat},zav w n t p=true->TyOk w.length t->∀v∈zaE w n t p,TyOk w.length v.ty
 |0,t,p,h,_=>by simp[zav] at h
 |n+1,t,p,h,ht=>by
  obtain⟨ho,hlen⟩:=zc5 h;intro v hv;have hto:∀u∈zah w t p,TyOk w.length u:=fun u hu=>by
   refine⟨zef (a:=t.data) (k:=t.index) hw ht.1 ho u hu,fun hd=>?_⟩;unfold zah at hu;split at hu
   ·rename_i h4;exact haz t p.ctor (zcI ho h4) ht.1 u hu hd
   ·split at hu
    ·simp only[List.mem_cons,List.not_mem_nil,or_false,or_self] at hu;rw[hu] at hd ⊢;exact ht.2 hd
    ·split at hu
     ·simp only[List.mem_cons,List.not_mem_nil,or_false] at hu;rw[hu] at hd ⊢;exact ht.2 hd
     ·simp at hu
  simp only[zaE,List.mem_append] at hv;rcases hv with hv|hv
  ·unfold zaM at hv;split at hv
   ·simp only[List.mem_cons,List.not_mem_nil,or_false] at hv;rw[hv];exact ht
   ·simp at hv
  ·have key:∀(a:List Ty) (b:List Pat),(∀i,i<a.length->i<b.length->∀v∈zaE w n (nth a i) (nth b i),TyOk w.length v.ty)->∀v∈zbc (zaE w n) a b,TyOk w.length v.ty:=by
    intro a;induction a with
    |nil=>intro b _ v hv;simp[zbc] at hv
    |cons x r ih=>
     intro b h v hv;cases b with
     |nil=>simp[zbc] at hv
     |cons y s=>
      simp only[zbc,List.mem_append] at hv;rcases hv with hv|hv
      ·exact h 0 (by simp) (by simp) v hv
      ·exact ih s (fun i h1 h2=>h (i+1) (by simpa using h1) (by simpa using h2)) v hv
   refine key (zdu w t p) p.kids (fun i h1 h2=>?_) v hv;have hvt:i<(zah w t p).length/\nth (zdu w t p) i=nth (zah w t p) i:=by
    unfold zdu at h1 ⊢;split at h1
    ·rename_i h5;rw[if_pos h5];rw[List.length_take] at h1;refine⟨by omega, ?_⟩;have:i=0:=by omega
     subst this;cases hT:zah w t p with
     |nil=>rfl
     |cons a b=>rfl
    ·rename_i h5;rw[if_neg h5];exact⟨h1,rfl⟩
   rw[hvt.2];exact zoa hw haz n (zbL h (by omega)) (hto _ (zaj hvt.1))
def gdS (g:Gd) (vars:List Vt):Bool:=if g.op=0 then decide (g.var=0/\g.n=0) else decide (1<=g.op/\g.op<=2/\0<=g.n/\g.n<=9)&&(decide (0<=zaV vars g.var)&&decide ((nth vars (zaV vars g.var).toNat).ty.data = -1))
theorem zs9 {n:Nat}{g:Gd}{vars:List Vt} (hn:zcs vars=true) (hv:∀v∈vars,TyOk n v.ty):gdS g vars=gdOk g vars:=by
 unfold gdS gdOk;split
 ·rfl
 ·congr 1
  have hnod:=of_decide_eq_true hn;rw[Bool.eq_iff_iff];simp only[xad,decide_eq_true_eq];constructor
  ·rintro ⟨h1,h2⟩
   rcases zeU vars g.var with ⟨h3,_⟩|⟨k,h3,h4,h5,_⟩
   ·omega
   ·rw[h3] at h2;simp only[Int.toNat_natCast] at h2;have hm:=zaj h4;have ho:=(hv _ hm).2 h2;have:nth vars k=⟨g.var,⟨-1,0⟩⟩:=by
     generalize nth vars k=z at *;obtain⟨zv,⟨za,zk⟩⟩:=z;dsimp only at h5 h2 ho;rw[h5,h2,ho]
    rw[<-this];exact hm
  ·intro hm;rcases zeU vars g.var with ⟨_,h4⟩|⟨k,h3,h4,h5,_⟩
   ·exact absurd rfl (h4 _ hm)
   ·refine⟨by omega, ?_⟩;rw[h3];simp only[Int.toNat_natCast];obtain⟨j,hj,e⟩:=List.getElem_of_mem hm;have ej:nth vars j=⟨g.var,⟨-1,0⟩⟩:=by simp[nth,List.getD,hj,e]
    have:k=j:=ziG hnod h4 hj (by rw[h5,ej]);rw[this,ej]
theorem zld {g:Gd}{vars:List Vt} (hv:vars.length<=1000000000000):FnD Tryz.prog 189 [.agg [.d (.i g.op),.d (.i g.var),.d (.i g.n)],.d (zbt vars)] [] (.d (.bool (gdS g vars))) []:=by
 have hlt:=fun h=>zgu (l:=vars) (n:=g.var) h;refine bd Tryz.f189 50 [] [3] fun w0 F0 own kept hk=>?_;refine bx 3002 ?_;refine ev ?_;refine sq ?_ ?_<;>intro h1 h1p h1s<;>(try simp only[Q] at h1p);refine sq ?_ ?_<;>intro h2 h2p h2s<;>(try simp only[Q] at h2p);refine rq ?_;rotate_left;refine rq ?_;rotate_left;refine xam ?_;refine xau 18 [(34,.d (.bool (decide (¬(1<=g.op/\g.op<=2/\0<=g.n/\g.n<=9)))))] [17,18,19,20,21,22,23,24,25,26,27,28,29,30,31,32,33] ?_ ?_;refine ev ?_;refine sq ?_ ?_<;>intro h3 h3p h3s<;>(try simp only[Q] at h3p);refine sq ?_ ?_<;>intro h4 h4p h4s<;>(try simp only[Q] at h4p);refine sqT ?_;focus (exact jn rfl (xao (by((rw[Bool.eq_iff_iff];simp_all;omega)))))
 refine sq ?_ ?_<;>intro h5 h5p h5s<;>(try simp only[Q] at h5p);focus (exact jn rfl (xao (by((rw[Bool.eq_iff_iff];simp_all;done)))))
 focus (exact jn rfl (xao (by((rw[Bool.eq_iff_iff];simp_all;done)))))
 refine sqF ?_;refine sq ?_ ?_<;>intro h6 h6p h6s<;>(try simp only[Q] at h6p);focus (exact jn rfl (xao (by((rw[Bool.eq_iff_iff];simp_all;done)))))
 focus (exact jn rfl (xao (by((rw[Bool.eq_iff_iff];simp_all;done)))))
 refine xat ?_;refine tv ?_;refine sq ?_ ?_<;>intro h7 h7p h7s<;>(try simp only[Q] at h7p);refine rq ?_;rotate_left;refine wc zhe (zcE hv) rfl rfl ?_;refine ev ?_;refine sq ?_ ?_<;>intro h8 h8p h8s<;>(try simp only[Q] at h8p);refine Walk.idx (i:=(zaV vars g.var).toNat) sl66 (.some rfl rfl h8) rfl rfl rfl (by have:=hlt (by omega);omega) (zae (by have:=hlt (by omega);omega)) rfl ?_;refine evs [] [(41,true)] ?_ ⟨⟨_,rfl,h8⟩,trivial⟩;refine rq ?_;rotate_left;refine rq ?_;rotate_left;all_goals (refine congrArg D.bool ?_;unfold gdS;first|(rw[if_pos (by omega)];simp_all;done)|(rw[if_neg (by omega),decide_eq_false (by omega),Bool.false_and];done)|(rw[if_neg (by omega),decide_eq_true (by omega),Bool.true_and,decide_eq_false (by omega),Bool.false_and];done)|(rw[if_neg (by omega)];simp_all;done))
theorem zn4 {w:List Data} (hw:WT w) (haz:AZ w){t:Ty}{c:Cl} (ht:TyOk w.length t) (hok:c.pat.ok) (hsz:c.pat.size<=1000000000000):
  FnD Tryz.prog 135 [.d (zak w),.agg [.d (.i t.data),.d (.i t.index)],.agg [.d (.i c.pat.op),.d (.i c.pat.ctor),.d (.i c.pat.n),.d (.i c.pat.m),.d (.i c.pat.var),.d (zaQ c.pat.kids),.d (.i c.g.op),.d (.i c.g.var),.d (.i c.g.n)]] [] (.d (.bool (clOk w t c))) []:=by
 have ht':TyIn w.length ⟨t.data,t.index⟩:=ht.1;have hcl:clOk w t c=(isP w t c.pat&&gdOk c.g (zbu w t c.pat)):=rfl;cases hp:isP w t c.pat with
 |false=>
  have hpi:=ziU hw ht' hok hsz;have hpi':FnD Tryz.prog 188 [.d (zak w),.agg [.d (.i t.data),.d (.i t.index)],.agg [.d (.i c.pat.op),.d (.i c.pat.ctor),.d (.i c.pat.n),.d (.i c.pat.m),.d (.i c.pat.var),.d (zaQ c.pat.kids)]] [] (.d (.bool false)) []:=by rw[<-hp];exact hpi
  rw[hcl,hp,Bool.false_and];refine bd Tryz.f135 22 [] [] fun w0 F0 own kept hk=>?_;refine bx 3004 ?_;refine bx 3005 ?_;refine ev ?_;refine wc zpK (hpi') rfl rfl ?_;refine evd [] [] ?_;refine sq ?_ ?_<;>intro h1 h1p h1s<;>(try simp only[Q] at h1p);exfalso;contradiction;refine dr ?_;refine rq ?_;rotate_left;all_goals (rfl)
 |true=>
  have hpi:=ziU hw ht' hok hsz;have hpi':FnD Tryz.prog 188 [.d (zak w),.agg [.d (.i t.data),.d (.i t.index)],.agg [.d (.i c.pat.op),.d (.i c.pat.ctor),.d (.i c.pat.n),.d (.i c.pat.m),.d (.i c.pat.var),.d (zaQ c.pat.kids)]] [] (.d (.bool true)) []:=by rw[<-hp];exact hpi
  have hsh:zav w 10 ⟨t.data,t.index⟩ c.pat=true:=by
   have:=hp;unfold isP at this;simp only[xad] at this;exact this.1
  have hvl:=zeh w 10 ⟨t.data,t.index⟩ c.pat;have hge:=zs9 (g:=c.g) (zqF hp) (zoa hw haz 10 hsh ht);have hge':gdS c.g (zaE w 10 ⟨t.data,t.index⟩ c.pat)=gdOk c.g (zbu w t c.pat):=by rw[zmu hp];exact hge
  rw[hcl,hp,Bool.true_and,<-hge'];refine bd Tryz.f135 22 [] [] fun w0 F0 own kept hk=>?_;refine bx 3004 ?_;refine bx 3005 ?_;refine ev ?_;refine wc zpK (hpi') rfl rfl ?_;refine evd [] [] ?_;refine sq ?_ ?_<;>intro h1 h1p h1s<;>(try simp only[Q] at h1p);refine Walk.call (cr:=[]) zfY (zc8 hw hsh (by omega) ht' hok hsz) rfl (.some rfl rfl h1) rfl rfl (LeL.refl _) trivial rfl rfl rfl ?_;refine Walk.call (cr:=[]) zsJ (zld (g:=c.g) (by omega)) rfl (.some rfl rfl h1) rfl rfl (LeL.refl _) trivial rfl rfl rfl ?_;refine evd [] [(12,true)] ?_ ⟨⟨_,rfl,h1⟩,trivial⟩;refine dr ?_;refine rq ?_;rotate_left;exfalso;contradiction;all_goals (rfl)
def ClsSz (l:List Cl):Prop:=∀c∈l,c.pat.size<=1000000000000
def FusSz (l:List Fu):Prop:=∀f∈l,ClsSz f.cls/\∀e∈f.bodies,e.size<=1000000000000
theorem zmW {w:List Data}{t:Ty} (h:zba w t=true):TyOk w.length t:=by
 unfold zba at h;rw[xad] at h;exact zcC h.2
theorem zs2 {w:List Data}{t:Ty}{l:List Cl}{i:Nat} (hi:i<l.length) (h:clOk w t (nth l i)=false):za7 w t l=false:=by
 unfold za7;have:l.any (fun c=> !clOk w t c)=true:=List.any_eq_true.2 ⟨nth l i,zaj hi,by rw[h];rfl⟩;rw[this];simp
theorem zrY {w:List Data}{t:Ty}{l:List Cl} (ht:zba w t=true) (hl:l.length<=8) (h:∀i,i<l.length->clOk w t (nth l i)=true):za7 w t l=true:=by
 unfold za7;rw[ht,decide_eq_true (by omega),Bool.true_and,Bool.true_and,Bool.not_eq_true',List.any_eq_false];intro c hc;obtain⟨i,hi,rfl⟩:=List.getElem_of_mem hc;have:=h i hi;simp only[nth,List.getD,List.getElem?_eq_getElem hi,Option.getD_some] at this;simp[this]
theorem zrZ {w:List Data}{t:Ty}{l:List Cl} (h:8<l.length):za7 w t l=false:=by
 unfold za7;rw[decide_eq_false (by omega),Bool.false_and,Bool.and_false]
theorem zs3 {w:List Data}{t:Ty}{l:List Cl} (h:zba w t=false):za7 w t l=false:=by
 unfold za7;rw[h,Bool.false_and]
theorem zgI {w:List Data}{t:Ty}{l:List Cl} (h:za7 w t l=true):zba w t=true/\l.length<=8/\∀i,i<l.length->clOk w t (nth l i)=true:=by
 unfold za7 at h;simp only[xad,decide_eq_true_eq,Bool.not_eq_true',List.any_eq_false,Bool.not_eq_false'] at h;refine⟨h.1,by omega,fun i hi=>?_⟩;simpa using h.2.2 _ (zaj hi)
theorem zfF {w:List Data}{t:Ty}{c:Cl} (h:clOk w t c=true):isP w t c.pat=true/\zav w 10 t c.pat=true/\zaE w 10 t c.pat=zbu w t c.pat:=by
 unfold clOk at h;rw[xad] at h;refine⟨h.1, ?_,(zmu h.1).symm⟩;have:=h.1;unfold isP at this;simp only[xad] at this;exact this.1
theorem zdE {w:List Data} (hs:WSmall w){a k:Int}{l:List Cl} (hl:ClsOk l) (hz:ClsSz l):
  FnD Tryz.prog 79 [.d (zak w),.agg [.d (.i a),.d (.i k)],.d (zcZ l)] [] (.d (.bool (za7 w ⟨a,k⟩ l))) []:=by
 have hll:=hl.1;refine bd Tryz.f79 31 [] [] fun w0 F0 own kept hk=>?_;refine bx 3004 ?_;refine ev ?_;refine wc zmO (zdF hs) rfl rfl ?_;refine ev ?_;refine sq ?_ ?_<;>intro h1 h1p h1s<;>(try simp only[Q,Int.natCast_inj] at h1p);refine sqT ?_;refine rq ?_;rotate_left;refine sq ?_ ?_<;>intro h3 h3p h3s<;>(try simp only[Q,Int.natCast_inj] at h3p);refine rq ?_;rotate_left;refine xak (ι:=Nat) hk (fun i=>[(7,.d (.i (i:Int)))]) [6,17,18,19,20,21,22,23,24,25,26,27,28,29,30] (fun i=>[]) (fun i=>i<=l.length/\∀i',i'<i->clOk w ⟨a,k⟩ (nth l i')=true) (fun i=>l.length-i) 0 ⟨by omega,fun _ h=>absurd h (by omega)⟩ ⟨⟨_,rfl,xap ?_⟩,trivial⟩ trivial (fun x=>rfl) (fun i hg1=>?_);focus (first|rfl|(simp;done)|(simp_all;done)|omega)
 refine evc [] [] ?_;refine sq ?_ ?_<;>intro h4 h4p h4s<;>(try simp only[Q,Int.natCast_inj] at h4p);refine Walk.idx sl32 .none rfl rfl rfl rfl (zae (by omega)) rfl ?_;refine evd [] [] ?_;refine wc zsG (zn4 (t:=⟨a,k⟩) (c:=nth l i) (zdh hs (zcM (by assumption)).1) (zh2 (zcM (by assumption)).1) (zmW (by assumption)) (hl.2 _ (zaj (by omega))) (hz _ (zaj (by omega)))) rfl rfl ?_;refine evd [] [] ?_;refine dr ?_;refine sq ?_ ?_<;>intro h5 h5p h5s<;>(try simp only[Q,Int.natCast_inj] at h5p);refine rq ?_;rotate_left;refine ar ?_;refine xah (i+1) ⟨⟨by omega,zaN hg1.2 (by assumption)⟩,(by omega),sx ⟨⟨_,rfl,xap ?_⟩,trivial⟩ trivial⟩;focus (first|rfl|(simp;done)|(simp_all;done)|omega)
 refine rq ?_;rotate_left;all_goals (refine congrArg D.bool ?_;first|(rw[zs3 (by assumption)];done)|(rw[zrZ (by omega)];done)|(rw[zs2 (i:=i) (by omega) (by assumption)];done)|(rw[zrY (by assumption) (by omega) (fun x hx=>hg1.2 x (by omega))];done))
theorem zmH {w:List Data} (hs:WSmall w){funs:List Ft} (hfl:funs.length<=1000000000000) (hfa:∀f∈funs,TyOk w.length f.arg){f:Fu} (hok:FuOk f) (hz:ClsSz f.cls/\∀e∈f.bodies,e.size<=1000000000000) (hres:TyOk w.length f.ty.res):
  FnD Tryz.prog 37 [.d (zak w),.d (zbq funs),.agg [.d (.i f.ty.arg.data),.d (.i f.ty.arg.index),.d (.i f.ty.res.data),.d (.i f.ty.res.index),.d (zcZ f.cls),.d (zaX f.bodies)]] [] (.d (.bool (zbD w funs f))) []:=by
 have hcl:=hok.1.1;have hbl:=hok.2.1;cases hv:za7 w f.ty.arg f.cls with
 |false=>
  have hcv:=zdE hs (a:=f.ty.arg.data) (k:=f.ty.arg.index) hok.1 hz.1;rw[show za7 w ⟨f.ty.arg.data,f.ty.arg.index⟩ f.cls=false from hv] at hcv;have hfv:zbD w funs f=false:=by unfold zbD;rw[hv,Bool.false_and]
  rw[hfv];refine bd Tryz.f37 57 [] [] fun w0 F0 own kept hk=>?_;refine bx 3005 ?_;refine ev ?_;refine wc zko (hcv) rfl rfl ?_;refine ev ?_;refine sq ?_ ?_<;>intro h1 h1p h1s<;>(try simp only[Q,Ex.cs_len] at h1p);refine sqT ?_;refine rq ?_;rotate_left;exfalso;contradiction;all_goals (rfl)
 |true=>
  have hcv:=zdE hs (a:=f.ty.arg.data) (k:=f.ty.arg.index) hok.1 hz.1;rw[show za7 w ⟨f.ty.arg.data,f.ty.arg.index⟩ f.cls=true from hv] at hcv;obtain⟨htv,h8,hco⟩:=zgI hv;have hwv:=(zcM (w:=w) (a:=f.ty.arg.data) (k:=f.ty.arg.index) htv).1;have hw:=zdh hs hwv;have haz:=zh2 hwv;have hta:=zmW htv;have hvl:=zge w f.ty.arg;have hv3:∀i,i<f.cls.length->FnD Tryz.prog 80 [.nils,.d (zak w),.agg [.d (.i f.ty.arg.data),.d (.i f.ty.arg.index)],.agg [.d (.i (nth f.cls i).pat.op),.d (.i (nth f.cls i).pat.ctor),.d (.i (nth f.cls i).pat.n),.d (.i (nth f.cls i).pat.m),.d (.i (nth f.cls i).pat.var),.d (zaQ (nth f.cls i).pat.kids)]] [] (.d (zbt (zbu w f.ty.arg (nth f.cls i).pat))) []:=fun i hi=>by
   have hc:=zfF (hco i hi);rw[<-hc.2.2];exact zc8 hw hc.2.1 (by omega) hta.1 (hok.1.2 _ (zaj hi)) (hz.1 _ (zaj hi))
  refine bd Tryz.f37 57 [] [] fun w0 F0 own kept hk=>?_;refine bx 3005 ?_;refine ev ?_;refine wc zko (hcv) rfl rfl ?_;refine ev ?_;refine sq ?_ ?_<;>intro h1 h1p h1s<;>(try simp only[Q,Int.natCast_inj,Ex.cs_len] at h1p);exfalso;contradiction;refine sq ?_ ?_<;>intro h2 h2p h2s<;>(try simp only[Q,Int.natCast_inj,Ex.cs_len] at h2p);refine rq ?_;rotate_left;refine xak (ι:=Nat) hk (fun i=>[(7,.d (.i (i:Int)))]) [6,8,26,27,28,29,30,31,32,33,34,35,36,37,38,39,40,41,42,43,44,45,46,47,48,49,50,51,52,53,54,55,56] (fun i=>[]) (fun i=>i<=f.cls.length/\∀i',i'<i->isE w funs (zbu w f.ty.arg (nth f.cls i').pat) f.ty.res (nth f.bodies i')=true) (fun i=>f.cls.length-i) 0 ⟨by omega,fun _ h=>absurd h (by omega)⟩ ⟨⟨_,rfl,xap ?_⟩,trivial⟩ trivial (fun x=>rfl) (fun i hg1=>?_);focus (first|rfl|(simp;done)|(simp_all;done)|omega)
  refine evc [] [] ?_;refine sq ?_ ?_<;>intro h3 h3p h3s<;>(try simp only[Q,Int.natCast_inj,Ex.cs_len] at h3p);refine Walk.idx sl32 .none rfl rfl rfl rfl (zae (by omega)) rfl ?_;refine evd [] [] ?_;refine wc zfY (hv3 i (by omega)) rfl rfl ?_;refine evd [] [] ?_;refine dr ?_;refine Walk.idx sl33 .none rfl rfl rfl rfl (zdL (by omega)) rfl ?_;refine evd [] [] ?_;refine wc zrt (zia (t:=f.ty.res) (e:=nth f.bodies i) hw haz hfl (by have:=hvl (nth f.cls i).pat;omega) hfa hres (Exs.ok_mem hok.2.2 _ (zaj (by omega))) (hz.2 _ (zaj (by omega)))) rfl rfl ?_;refine evd [] [] ?_;refine dr ?_;refine sq ?_ ?_<;>intro h4 h4p h4s<;>(try simp only[Q,Int.natCast_inj,Ex.cs_len] at h4p);refine rq ?_;rotate_left;refine ar ?_;refine xah (i+1) ⟨⟨by omega,zaN hg1.2 (by assumption)⟩,(by omega),sx ⟨⟨_,rfl,xap ?_⟩,trivial⟩ trivial⟩;focus (first|rfl|(simp;done)|(simp_all;done)|omega)
  refine rq ?_;rotate_left;all_goals (refine congrArg D.bool ?_;first|(rw[zhz (by omega)];done)|(rw[zin (i:=i) (by omega) (by omega) (by assumption)];done)|(rw[zkd hv (by omega) (fun x hx=>hg1.2 x (by omega))];done))
theorem zct {w:List Data} (hs:WSmall w){l:List Fu} (hl:FusOk l) (hz:FusSz l):FnD Tryz.prog 8 [.d (zak w),.d (zbs l)] [] (.d (.bool (zbe w l))) []:=by
 have hll:=hl.1;have hfm:=fun(y:Fu) (hy:y∈l) (ho:zbC w (l.map Fu.ty)=true)=>zcC (zfG ho y.ty (List.mem_map.2 ⟨y,hy,rfl⟩)).2;have hfa:=fun(ho:zbC w (l.map Fu.ty)=true) (f:Ft) (hf:f∈l.map Fu.ty)=>zcC (zfG ho f hf).1;have hml:(l.map Fu.ty).length<=1000000000000:=by simp;omega
 unfold zbe;generalize hF:l.map Fu.ty=funs at *;have hft:=zeG hl.1;rw[hF] at hft;have hWV:=zee hs;rw[zet] at hWV;refine bd Tryz.f8 32 [] [] fun w0 F0 own kept hk=>?_;refine wc zey (hft) rfl rfl ?_;refine ev ?_;refine wc zhA (hWV) rfl rfl ?_;refine ev ?_;refine sq ?_ ?_<;>intro h1 h1p h1s<;>(try simp only[Q,Int.natCast_inj] at h1p);refine sqT ?_;refine rq ?_;rotate_left;refine Walk.call (cr:=[]) zgH (zd1 hs.len hml) rfl (.some rfl rfl h1) rfl rfl (LeL.refl _) trivial rfl rfl rfl ?_;refine evs [] [(12,false)] ?_ ⟨⟨_,rfl,h1⟩,trivial⟩;refine sq ?_ ?_<;>intro h3 h3p h3s<;>(try simp only[Q,Int.natCast_inj] at h3p);refine rq ?_;rotate_left;refine xak (ι:=List (Fu)×List (Fu)) hk (fun x=>[(6,.d (.i (x.1.length:Int)))]) [4,18,19,20,21,22,23,24,25,26,27,28,29,30,31] (fun x=>[]) (fun x=>x.1++x.2=l/\x.1.all (zbD w funs)=true) (fun x=>x.2.length) ([],l) ⟨by simp,by simp⟩ ⟨⟨_,rfl,xap ?_⟩,trivial⟩ trivial (fun x=>rfl) (fun x hg1=>?_);focus (first|rfl|(simp;done)|(simp_all;done)|omega)
 obtain⟨pre,rest⟩:=x;dsimp only at hg1 ⊢;refine evc [] [] ?_;refine sq ?_ ?_<;>intro h4 h4p h4s<;>(try simp only[Q,Int.natCast_inj] at h4p);rcases rest with _|⟨y,rest⟩
 ·exfalso;simp_all
 refine Walk.idx sl24 .none rfl rfl rfl rfl (zaH hg1.1) rfl ?_;refine ev ?_;refine wc ztM (zmH hs hml (hfa (by assumption)) (f:=y) (hl.2 y (by rw[<-hg1.1];simp)) (hz y (by rw[<-hg1.1];simp)) (hfm y (by rw[<-hg1.1];simp) (by assumption))) rfl rfl ?_;refine ev ?_;refine sq ?_ ?_<;>intro h5 h5p h5s<;>(try simp only[Q,Int.natCast_inj] at h5p);refine rq ?_;rotate_left;refine ar ?_;refine xah ((pre++[y],rest)) ⟨⟨by simp[hg1.1],by rw[List.all_append,hg1.2];simp only[List.all_cons,List.all_nil,Bool.and_true,Bool.true_and];assumption⟩,(by simp),sx ⟨⟨_,rfl,xap ?_⟩,trivial⟩ trivial⟩;focus (first|rfl|(simp;done)|(simp_all;done)|omega)
 have hrest:rest=[]:=by
  rcases rest with _|⟨a,b⟩
  ·rfl
  ·exfalso;have hz:=congrArg List.length (hg1.1);simp only[xaa,xab,xac] at hz;omega
 subst hrest;refine rq ?_;rotate_left;all_goals (refine congrArg D.bool ?_;first|(simp_all;done)|(rw[zpw hg1.1 (by assumption)];simp_all;done)|(rw[List.append_nil] at hg1;obtain⟨hz',hg2⟩:=hg1;subst hz';simp_all;done))
def za4 (s:Str) (a:Int) (c:UInt8):Bool:=decide (0<=a)&&(decide (a<(s.length:Int))&&decide (nth s a.toNat=c))
theorem zfK {s:Str}{a:Int}{c:UInt8} (h:za4 s a c=true):0<=a/\a<(s.length:Int):=by
 unfold za4 at h;simp only[xad,decide_eq_true_eq] at h;exact⟨h.1,h.2.1⟩
theorem zaG {s:Str}{a:Int}{c:UInt8} (hs:s.length<=1000000000000):FnD Tryz.prog 265 [.d (.str s),.d (.i a),.d (.int .u8 (c.toNat:Int))] [] (.d (.bool (za4 s a c))) []:=by
 by_cases h0:0<=a
 ·obtain⟨n,rfl⟩:=Int.eq_ofNat_of_zero_le h0;refine bd Tryz.f265 22 [] [] fun w0 F0 own kept hk=>?_;refine sq ?_ ?_<;>intro h1 h1p h1s<;>(try simp only[Q,zjh] at h1p);refine sq ?_ ?_<;>intro h2 h2p h2s<;>(try simp only[Q,zjh] at h2p);refine xaR un9 (.some rfl rfl h2) rfl rfl rfl rfl (zaZ (by omega)) ?_;refine evs [] [(15,true)] ?_ ⟨⟨_,rfl,h2⟩,trivial⟩;refine rq ?_;rotate_left;refine rq ?_;rotate_left;refine sqF ?_;refine rq ?_;rotate_left;all_goals (refine congrArg D.bool ?_;unfold za4;rw[show decide (nth s ((n:Int)).toNat=c)=decide (((nth s n).toNat:Int)=(c.toNat:Int)) from by rw[decide_eq_decide];exact zjh.symm];first|rfl|(simp_all;done)|(simp_all;omega))
 ·have hv:za4 s a c=false:=by unfold za4;rw[decide_eq_false h0];rfl
  rw[hv];refine bd Tryz.f265 22 [] [] fun w0 F0 own kept hk=>?_;refine sq ?_ ?_<;>intro h1 h1p h1s<;>(try simp only[Q] at h1p);exfalso;first|omega|(simp at h1p;omega)
  refine sqF ?_;refine rq ?_;rotate_left;all_goals (first|rfl|(simp_all;done))
def lowL:Str->Nat
 | []=>0
 |x::r=>if zbo x=true then lowL r+1 else 0
def zbg:Str->Nat
 | []=>0
 |x::r=>if zcf x=true then lowL r+1 else 0
theorem zoB:∀s:Str,lowL s<=s.length
 | []=>Nat.le_refl _
 |x::r=>by
  have:=zoB r;show(if zbo x=true then lowL r+1 else 0)<=_
  split<;>simp<;>omega
theorem zhO:∀s:Str,zbg s<=s.length
 | []=>Nat.le_refl _
 |x::r=>by
  have:=zoB r;show(if zcf x=true then lowL r+1 else 0)<=_
  split<;>simp<;>omega
def za1 (s:Str) (n:Nat):Str:=(s.drop n).take (zbg (s.drop n))
theorem zqg {s:Str}{n e:Nat} (hn:n<=e) (he:e<s.length) (hg:(if e=n then n+zbg (s.drop n) else e+lowL (s.drop e))=n+zbg (s.drop n))
  (hc:(e=n/\zcf (nth s e)=true)\/(n<e/\zbo (nth s e)=true)):(if e+1=n then n+zbg (s.drop n) else e+1+lowL (s.drop (e+1)))=n+zbg (s.drop n):=by
 rw[if_neg (by omega)];have hd:s.drop e=nth s e::s.drop (e+1):=zbd he;rcases hc with ⟨rfl,h⟩|⟨h1,h⟩
 ·rw[hd,zbg,if_pos h];omega
 ·rw[if_neg (by omega),hd,lowL,if_pos h] at hg;omega
theorem zqh {s:Str}{n e:Nat} (hn:n<=e) (he:e<=s.length) (hg:(if e=n then n+zbg (s.drop n) else e+lowL (s.drop e))=n+zbg (s.drop n))
  (hc:e=s.length\/(e=n/\zcf (nth s e)=false)\/(n<e/\zbo (nth s e)=false)):e=n+zbg (s.drop n):=by
 by_cases hl:e=s.length
 ·subst hl;by_cases hen:s.length=n
  ·subst hen;rw[List.drop_length];simp[zbg]
  ·rw[if_neg hen,List.drop_length] at hg;simpa [lowL] using hg
 ·have hd:s.drop e=nth s e::s.drop (e+1):=zbd (by omega);rcases hc with h|⟨rfl,h⟩|⟨h1,h⟩
  ·exact absurd h hl
  ·rw[hd,zbg,if_neg (by rw[h];simp)];omega
  ·rw[if_neg (by omega),hd,lowL,if_neg (by rw[h];simp)] at hg;omega
theorem zaU {s:Str}{n:Nat} (hs:s.length<=1000000000000) (hn:n<=s.length):FnD Tryz.prog 266 [.d (.str s),.d (.i n)] [] (.tup [.d (.str (za1 s n)),.d (.i ((n+zbg (s.drop n):Nat):Int))]) []:=by
 have hle:=zhO (s.drop n);rw[List.length_drop] at hle;have hstop:=fun(e:Nat)=>zqh (s:=s) (n:=n) (e:=e);have hstep:=fun(e:Nat)=>zqg (s:=s) (n:=n) (e:=e);refine bd Tryz.f266 47 [] [] fun w0 F0 own kept hk=>?_;refine xak (ι:=Nat) hk (fun e=>[(6,.d (.i (e:Int)))]) [8,9,10,11,12,13,14,15,16,17,18,19,20,21,22,23,24,25,26,27,28,29,30,31,32,33,34,35,36,37,38,39,40,41] (fun e=>[]) (fun e=>n<=e/\e<=s.length/\(if e=n then n+zbg (s.drop n) else e+lowL (s.drop e))=n+zbg (s.drop n)) (fun e=>s.length-e) n ⟨Nat.le_refl _,hn,by rw[if_pos rfl]⟩ ⟨⟨_,rfl,xap ?_⟩,trivial⟩ trivial (fun x=>rfl) (fun e hg1=>?_);focus (first|rfl|(simp;done)|omega)
 refine evc [] [] ?_;refine sq ?_ ?_<;>intro h1 h1p h1s<;>(try simp only[Q,Int.natCast_inj] at h1p);refine sq ?_ ?_<;>intro h2 h2p h2s<;>(try simp only[Q,Int.natCast_inj] at h2p);refine xaR un9 (.some rfl rfl h2) rfl rfl rfl rfl (zaZ (by omega)) ?_;refine Walk.call (cr:=[]) zm9 (zfS (n:=((nth s e).toNat:Int))) rfl (.some rfl rfl h2) rfl rfl (LeL.refl _) trivial rfl rfl rfl ?_;refine evs [] [(12,true),(16,true)] ?_ ⟨⟨_,rfl,h1⟩,⟨_,rfl,h2⟩,trivial⟩;refine sq ?_ ?_<;>intro h3 h3p h3s<;>(try simp only[Q,Int.natCast_inj] at h3p);refine sqT ?_;refine ar ?_;refine xah (e+1) ⟨⟨by omega,by omega,hstep e hg1.1 (by omega) hg1.2.2 (by first|exact .inl ⟨by omega,by assumption⟩|exact .inr ⟨by omega,by unfold zbo;rw[xad,decide_eq_true_eq,decide_eq_true_eq];omega⟩)⟩,(by omega),sx ⟨⟨_,rfl,xap ?_⟩,trivial⟩ trivial⟩;focus (first|rfl|(simp;done)|omega)
 refine sq ?_ ?_<;>intro h5 h5p h5s<;>(try simp only[Q,Int.natCast_inj] at h5p);refine xaR un9 (.some rfl rfl h5) rfl rfl rfl rfl (zaZ (by omega)) ?_;refine evs [] [(12,true),(22,false),(26,true)] ?_ ⟨⟨_,rfl,h1⟩,⟨_,rfl,h3⟩,⟨_,rfl,h5⟩,trivial⟩;refine sq ?_ ?_<;>intro h6 h6p h6s<;>(try simp only[Q,Int.natCast_inj] at h6p);refine xaR un9 (.some rfl rfl h6) rfl rfl rfl rfl (zaZ (by omega)) ?_;refine evs [] [(12,true),(22,false),(32,true)] ?_ ⟨⟨_,rfl,h1⟩,⟨_,rfl,h3⟩,⟨_,rfl,h6⟩,trivial⟩;refine sq ?_ ?_<;>intro h7 h7p h7s<;>(try simp only[Q,Int.natCast_inj] at h7p);refine ar ?_;refine xah (e+1) ⟨⟨by omega,by omega,hstep e hg1.1 (by omega) hg1.2.2 (by first|exact .inl ⟨by omega,by assumption⟩|exact .inr ⟨by omega,by unfold zbo;rw[xad,decide_eq_true_eq,decide_eq_true_eq];omega⟩)⟩,(by omega),sx ⟨⟨_,rfl,xap ?_⟩,trivial⟩ trivial⟩;focus (first|rfl|(simp;done)|omega)
 refine xaJ un9 .none rfl rfl rfl rfl rfl rfl (by omega) (by omega) ?_;refine ev ?_;refine rn0 (r2 rfl rfl) (.tup (.cons (.eqd ?_) (.cons (.eqd ?_) .nil)));rotate_left 2;refine sqF ?_;refine xaJ un9 .none rfl rfl rfl rfl rfl rfl (by omega) (by omega) ?_;refine ev ?_;refine rn0 (r2 rfl rfl) (.tup (.cons (.eqd ?_) (.cons (.eqd ?_) .nil)));rotate_left 2;refine sqF ?_;refine sqF ?_;refine xaJ un9 .none rfl rfl rfl rfl rfl rfl (by omega) (by omega) ?_;refine ev ?_;refine rn0 (r2 rfl rfl) (.tup (.cons (.eqd ?_) (.cons (.eqd ?_) .nil)));rotate_left 2;refine sqF ?_;refine sq ?_ ?_<;>intro h10 h10p h10s<;>(try simp only[Q,Int.natCast_inj] at h10p);refine xaR un9 (.some rfl rfl h10) rfl rfl rfl rfl (zaZ (by omega)) ?_;refine evs [] [(12,true),(22,false),(26,true)] ?_ ⟨⟨_,rfl,h1⟩,⟨_,rfl,rfl⟩,⟨_,rfl,h10⟩,trivial⟩;refine sq ?_ ?_<;>intro h11 h11p h11s<;>(try simp only[Q,Int.natCast_inj] at h11p);refine xaR un9 (.some rfl rfl h11) rfl rfl rfl rfl (zaZ (by omega)) ?_;refine evs [] [(12,true),(22,false),(32,true)] ?_ ⟨⟨_,rfl,h1⟩,⟨_,rfl,rfl⟩,⟨_,rfl,h11⟩,trivial⟩;refine sq ?_ ?_<;>intro h12 h12p h12s<;>(try simp only[Q,Int.natCast_inj] at h12p);refine ar ?_;refine xah (e+1) ⟨⟨by omega,by omega,hstep e hg1.1 (by omega) hg1.2.2 (by first|exact .inl ⟨by omega,by assumption⟩|exact .inr ⟨by omega,by unfold zbo;rw[xad,decide_eq_true_eq,decide_eq_true_eq];omega⟩)⟩,(by omega),sx ⟨⟨_,rfl,xap ?_⟩,trivial⟩ trivial⟩;focus (first|rfl|(simp;done)|omega)
 refine xaJ un9 .none rfl rfl rfl rfl rfl rfl (by omega) (by omega) ?_;refine ev ?_;refine rn0 (r2 rfl rfl) (.tup (.cons (.eqd ?_) (.cons (.eqd ?_) .nil)));rotate_left 2;refine sqF ?_;refine xaJ un9 .none rfl rfl rfl rfl rfl rfl (by omega) (by omega) ?_;refine ev ?_;refine rn0 (r2 rfl rfl) (.tup (.cons (.eqd ?_) (.cons (.eqd ?_) .nil)));rotate_left 2;refine sqF ?_;refine sqF ?_;refine xaJ un9 .none rfl rfl rfl rfl rfl rfl (by omega) (by omega) ?_;refine ev ?_;refine rn0 (r2 rfl rfl) (.tup (.cons (.eqd ?_) (.cons (.eqd ?_) .nil)));rotate_left 2;refine sqF ?_;refine xaJ un9 .none rfl rfl rfl rfl rfl rfl (by omega) (by omega) ?_;refine ev ?_;refine rn0 (r2 rfl rfl) (.tup (.cons (.eqd ?_) (.cons (.eqd ?_) .nil)));rotate_left 2;all_goals (have hE:=hstop e hg1.1 hg1.2.1 hg1.2.2 (by first|exact .inl (by omega)|exact .inr (.inl ⟨by omega,by assumption⟩)|exact .inr (.inr ⟨by omega,by unfold zbo;rw[Bool.and_eq_false_iff,decide_eq_false_iff_not,decide_eq_false_iff_not];omega⟩));first|(rw[<-hE];done)|(unfold za1;rw[show e-n=zbg (s.drop n) by omega];done)|(unfold za1;rw[<-zjI,show e-n=zbg (s.drop n) by omega];done))
def zrv (w:List Data):Nat->Ty->Val->Bool
 |0,_,_=>false
 |n+1,t,v=>if t.data = -1 then decide (v.ctor = -1)&&(decide (0<=v.num)&&(decide (v.num<=9)&&decide (v.kids.length=0)))
   else if v.num=0/\v.ctor∈zdq w t then all2 (zrv w n) (zaq w t v.ctor) v.kids else false
mutual
def cntV (m:Int):Val->Int
 | .mk _ _ ks=>cntL m 1 ks
def cntL (m n:Int):List Val->Int
 | []=>n
 |k::r=>if n<=m then cntL m (n+cntV (m-n) k) r else n
end
theorem zpS {m n:Int}{l:List Val} (h:¬n<=m):cntL m n l=n:=by cases l<;>simp[cntL,h]
mutual
theorem zos:∀(v:Val) (m:Int),1<=cntV m v/\cntV m v<=v.size
 | .mk _ _ ks,m=>by
  have:=zlr ks m 1 (by omega);simp only[cntV,Val.size];push_cast;omega
theorem zlr:∀(l:List Val) (m n:Int),1<=n->1<=cntL m n l/\cntL m n l<=n+Vals.size l
 | [],m,n,h=>by simp[cntL,Vals.size];omega
 |k::r,m,n,h=>by
  have h1:=zos k (m-n);have h2:=zlr r m (n+cntV (m-n) k) (by omega);simp only[cntL,Vals.size];split
  ·push_cast;omega
  ·push_cast;omega
end
mutual
theorem zqR:∀(v:Val) (m:Int),(cntV m v<=m↔(v.size:Int)<=m)/\(cntV m v<=m->cntV m v=v.size)
 | .mk _ _ ks,m=>by
  have:=znk ks m 1;simp only[cntV,Val.size];push_cast;exact this
theorem znk:∀(l:List Val) (m n:Int),(cntL m n l<=m↔n+(Vals.size l:Int)<=m)/\(cntL m n l<=m->cntL m n l=n+Vals.size l)
 | [],m,n=>by simp[cntL,Vals.size]
 |k::r,m,n=>by
  have h1:=zqR k (m-n);have h2:=znk r m (n+cntV (m-n) k);have h3:=zlr r m (n+cntV (m-n) k);have h4:=zos k (m-n);simp only[cntL,Vals.size];push_cast
  by_cases hn:n<=m
  ·rw[if_pos hn];by_cases h5:cntV (m-n) k<=m-n
   ·have h6:=h1.2 h5;rw[h6] at h2 ⊢;constructor
    ·rw[h2.1];constructor<;>intro h<;>omega
    ·intro h;rw[h2.2 h];omega
   ·have h7:¬(k.size:Int)<=m-n:=fun h=>h5 (h1.1.2 h);have h8:¬n+cntV (m-n) k<=m:=by omega
    rw[zpS h8];constructor
    ·constructor<;>intro h<;>omega
    ·intro h;omega
  ·rw[if_neg hn];constructor
   ·constructor<;>intro h<;>omega
   ·intro h;omega
end
theorem Vals.size_split {pre rest l:List Val}{y:Val} (h:pre++y::rest=l):Vals.size l=Vals.size pre+y.size+Vals.size rest:=by
 subst h;induction pre with
 |nil=>simp[Vals.size]
 |cons x r ih=>simp only[xag,Vals.size,ih];omega
structure Bd where
 var:Int
 val:Val
def Bd.c (b:Bd):List D:=[.i b.var,.i b.val.ctor,.i b.val.num,zr3 b.val.kids]
instance:Inhabited Bd:=⟨⟨0,default⟩⟩
def BdOk (m:Nat) (l:List Bd):Prop:=∀x∈l,x.val.ok/\x.val.size<=m
theorem BdOk.app {m:Nat}{a b:List Bd} (h1:BdOk m a) (h2:BdOk m b):BdOk m (a++b):=fun x hx=>by
 rcases List.mem_append.1 hx with h|h
 ·exact h1 x h
 ·exact h2 x h
theorem BdOk.mono {m k:Nat}{a:List Bd} (h:BdOk m a) (hk:m<=k):BdOk k a:=fun x hx=>⟨(h x hx).1,Nat.le_trans (h x hx).2 hk⟩
theorem ztu {w:List Data}{t:Ty}{p:Pat} (h:p.op=5):zah w t p=[t,t]:=by unfold zah;rw[if_neg (by omega),if_pos h]
theorem ztv {w:List Data}{t:Ty}{p:Pat} (h:p.op=6):zah w t p=[t]:=by unfold zah;rw[if_neg (by omega),if_neg (by omega),if_pos h]
theorem zqy {w:List Data}{n:Nat}{t:Ty}{p:Pat} (h:zav w (n+1) t p=true) (h5:p.op=5):p.kids.length=2/\zav w n t (nth p.kids 0)=true/\zav w n t (nth p.kids 1)=true:=by
 have hl:=(zc5 h).2;have h0:=fun i hi=>zbL h (i:=i) hi;rw[ztu h5] at hl h0;have hl':p.kids.length=2:=hl;exact⟨hl',h0 0 (by omega),h0 1 (by omega)⟩
theorem zqx {w:List Data}{n:Nat}{t:Ty}{p:Pat} (h:zav w (n+1) t p=true) (h6:p.op=6):p.kids.length=1/\zav w n t (nth p.kids 0)=true:=by
 have hl:=(zc5 h).2;have h0:=fun i hi=>zbL h (i:=i) hi;rw[ztv h6] at hl h0;have hl':p.kids.length=1:=hl;exact⟨hl',h0 0 (by omega)⟩
abbrev anyQ:Pat:= .mk 1 0 0 0 0 []
abbrev ze9:Pat:= .mk 0 0 0 0 0 []
mutual
def zhx:Pat->Pat
 | .mk op c n m v ks=>if op=2 then anyQ else if op=6/\ks≠[] then zkz ks else .mk op c n m v (zhw ks)
def zkz:List Pat->Pat
 | []=>anyQ
 |k::_=>zhx k
def zhw:List Pat->List Pat
 | []=>[]
 |k::r=>zhx k::zhw r
end
theorem zm4:∀l:List Pat,zhw l=l.map zhx
 | []=>rfl
 |k::r=>by simp[zhw,zm4 r]
def zuh (out:List (List Pat)) (l:List Pat):List (List Pat):=out.flatMap fun q=>l.map fun c=>q++[c]
def zuc (ls:List (List Pat)):List (List Pat):=ls.foldl zuh [[]]
mutual
def zn5:Pat->List Pat
 | .mk op c n m v ks=>if op=5 then ztt ks else (zuc (zoP ks)).map fun l=> .mk op c n m v l
def ztt:List Pat->List Pat
 | []=>[]
 |a::r=>zn5 a++zsm r
def zsm:List Pat->List Pat
 | []=>[]
 |b::_=>zn5 b
def zoP:List Pat->List (List Pat)
 | []=>[]
 |k::r=>zn5 k::zoP r
end
mutual
def cntS:Pat->Int
 | .mk op _ _ _ _ ks=>if op=5 then cntO ks 0 else cntM ks 1
def cntO:List Pat->Int->Int
 | [],n=>n
 |k::r,n=>cntO r (cap (n+cntS k))
def cntM:List Pat->Int->Int
 | [],n=>n
 |k::r,n=>cntM r (cap (n*cntS k))
end
mutual
theorem zor:∀p:Pat,0<=cntS p/\cntS p<=401
 | .mk op _ _ _ _ ks=>by
  unfold cntS;split
  ·exact zoq ks 0 (by omega) (by omega)
  ·exact zop ks 1 (by omega) (by omega)
theorem zoq:∀(l:List Pat) (n:Int),0<=n->n<=401->0<=cntO l n/\cntO l n<=401
 | [],n,h1,h2=>⟨h1,h2⟩
 |k::r,n,h1,h2=>by
  unfold cntO;have h3:=zor k;have h4:=zpQ (x:=n+cntS k) (by omega);exact zoq r _ h4.1 h4.2
theorem zop:∀(l:List Pat) (n:Int),0<=n->n<=401->0<=cntM l n/\cntM l n<=401
 | [],n,h1,h2=>⟨h1,h2⟩
 |k::r,n,h1,h2=>by
  unfold cntM;have h3:=zor k;have h4:=zpQ (x:=n*cntS k) (Int.mul_nonneg h1 h3.1);exact zop r _ h4.1 h4.2
end
mutual
theorem zon:∀p:Pat,p.ok->(zhx p).ok
 | .mk op c n m v ks,h=>by
  unfold zhx;split
  ·exact⟨by simp,trivial⟩
  ·split
   ·exact zqY ks h.2
   ·exact⟨by rw[zm4,xac];exact h.1,zm5 ks h.2⟩
theorem zqY:∀l:List Pat,Pats.ok l->(zkz l).ok
 | [],_=>⟨by simp,trivial⟩
 |k::r,h=>zon k h.1
theorem zm5:∀l:List Pat,Pats.ok l->Pats.ok (zhw l)
 | [],_=>trivial
 |k::r,h=>⟨zon k h.1,zm5 r h.2⟩
end
mutual
theorem zlO:∀p:Pat,(zhx p).size<=p.size
 | .mk op c n m v ks=>by
  unfold zhx;split
  ·simp[anyQ,Pat.size,Pats.size]
  ·split
   ·have:=zo3 ks;simp only[Pat.size];omega
   ·have:=zkc ks;simp only[Pat.size];omega
theorem zo3:∀l:List Pat,(zkz l).size<=1+Pats.size l
 | []=>by simp[zkz,anyQ,Pat.size,Pats.size]
 |k::r=>by have:=zlO k;simp only[zkz,Pats.size];omega
theorem zkc:∀l:List Pat,Pats.size (zhw l)<=Pats.size l
 | []=>Nat.le_refl _
 |k::r=>by have:=zlO k;have:=zkc r;simp only[zhw,Pats.size];omega
end
end Go.Proofs.YtmchfdpleibpdaaGreat
namespace Go.Proofs.YtmchfdpleibpdaaGreat
open Go
set_option linter.unusedSimpArgs false
set_option linter.unusedVariables false
end Go.Proofs.YtmchfdpleibpdaaGreat
namespace Go.Proofs.YtmchfdpleibpdaaGreat
open Go
set_option linter.unusedSimpArgs false
set_option linter.unusedVariables false
set_option maxRecDepth 100000
set_option maxHeartbeats 2000000
end Go.Proofs.YtmchfdpleibpdaaGreat
namespace Go.Proofs.YtmchfdpleibpdaaGreat
open Go
set_option linter.unusedSimpArgs false
set_option linter.unusedVariables false
end Go.Proofs.YtmchfdpleibpdaaGreat
namespace Go.Proofs.YtmchfdpleibpdaaGreat
open Go
set_option linter.unusedSimpArgs false
set_option linter.unusedVariables false
set_option maxRecDepth 100000
set_option maxHeartbeats 2000000
theorem Pat.cs_cd (l:List Pat):Pat.cs l=l.map Pat.cc:=by
 rw[Pat.cs_eq];exact List.map_congr_left (fun v _=>Pat.c_eq v)
def zdo (w:List Data) (t:Ty) (k:Int):Str:=(nth (nth w t.data.toNat).ctors k.toNat).name
def isNm (w:List Data) (t:Ty) (s:Str) (k:Int):Bool:=decide (zdo w t k=s)
def nmV (w:List Data) (t:Ty) (s:Str):Int:=((zaJ w t).find? (isNm w t s)).getD (-1)
theorem zeM {w:List Data}{t:Ty}{s:Str} (h:¬nmV w t s<0):nmV w t s∈zaJ w t:=by
 unfold nmV at h ⊢;cases e:(zaJ w t).find? (isNm w t s) with
 |none=>rw[e] at h;simp at h
 |some k=>exact List.mem_of_find?_eq_some e
theorem zhs {w:List Data} (hw:WT w){a k:Int} (ht:TyIn w.length ⟨a,k⟩){s:Str}:
  FnD Tryz.prog 267 [.d (zak w),.agg [.d (.i a),.d (.i k)],.d (.str s)] [] (.d (.i (nmV w ⟨a,k⟩ s))) []:=by
 have hct:=zb7 hw ht;have hpl:=fun(c:Int) (h:c∈zaJ w ⟨a,k⟩)=>zbA ht h;have hcl:=ze8 hw ht;have hnm:∀(d m:Nat),a=d->(zdo w ⟨a,k⟩ (m:Int))=(nth (nth w d).ctors m).name:=fun d m h=>by unfold zdo;subst h;rfl
 have hdef:nmV w ⟨a,k⟩ s=((zaJ w ⟨a,k⟩).find? (isNm w ⟨a,k⟩ s)).getD (-1):=rfl;rw[hdef];have hisn:∀c,isNm w ⟨a,k⟩ s c=decide (zdo w ⟨a,k⟩ c=s):=fun _=>rfl;generalize zaJ w ⟨a,k⟩=l at *;refine bd Tryz.f267 37 [] [] fun w0 F0 own kept hk=>?_;refine bx 3004 ?_;refine ev ?_;refine wc zgp (hct) rfl rfl ?_;refine ev ?_;refine xak (ι:=List (Int)×List (Int)) hk (fun x=>[(8,.d (.i (x.1.length:Int)))]) [6,12,13,14,15,16,17,18,19,20,21,22,23,24,25,26,27,28,29,30,31,32,33,34,35,36] (fun x=>[]) (fun x=>x.1++x.2=l/\x.2.find? (isNm w ⟨a,k⟩ s)=l.find? (isNm w ⟨a,k⟩ s)) (fun x=>x.2.length) ([],l) ⟨by simp,rfl⟩ ⟨⟨_,rfl,xap ?_⟩,trivial⟩ trivial (fun x=>rfl) (fun x hg1=>?_);focus (first|rfl|(simp;done)|(simp_all;done)|omega)
 obtain⟨pre,rest⟩:=x;dsimp only at hg1 ⊢;refine evc [] [] ?_;refine sq ?_ ?_<;>intro h1 h1p h1s<;>(try simp only[Q,Int.natCast_inj] at h1p);rcases rest with _|⟨y,rest⟩
 ·exfalso;simp_all
 refine Walk.idx (i:=(hpl y (by rw[<-hg1.1];simp)).choose) sl23 .none rfl rfl rfl (hpl y (by rw[<-hg1.1];simp)).choose_spec.1 (zae (hpl y (by rw[<-hg1.1];simp)).choose_spec.2.1) rfl ?_;refine evd [] [] ?_;refine Walk.idx sl37 .none rfl rfl rfl rfl (zaH hg1.1) rfl ?_;refine evd [] [] ?_;refine Walk.idx (i:=(hpl y (by rw[<-hg1.1];simp)).choose_spec.2.2.choose) zbw .none rfl rfl rfl (hpl y (by rw[<-hg1.1];simp)).choose_spec.2.2.choose_spec.1 (zae (hpl y (by rw[<-hg1.1];simp)).choose_spec.2.2.choose_spec.2) rfl ?_;refine evd [] [] ?_;refine dr ?_;refine sq ?_ ?_<;>intro h2 h2p h2s<;>(try simp only[Q,Int.natCast_inj] at h2p);refine Walk.idx sl37 .none rfl rfl rfl rfl (zaH hg1.1) rfl ?_;refine ev ?_;refine rq ?_;rotate_left;refine ar ?_;refine xah ((pre++[y],rest)) ⟨⟨(by have hz:=hg1.1;rw[<-hz];simp),(by rw[<-hg1.2,List.find?_cons_of_neg];rw[hisn,(hpl y (by rw[<-hg1.1];simp)).choose_spec.2.2.choose_spec.1,hnm _ _ (hpl y (by rw[<-hg1.1];simp)).choose_spec.1];simp_all)⟩,(by simp),sx ⟨⟨_,rfl,xap ?_⟩,trivial⟩ trivial⟩;focus (first|rfl|(simp;done)|(simp_all;done)|omega)
 have hrest:rest=[]:=by
  rcases rest with _|⟨a,b⟩
  ·rfl
  ·exfalso;have hz:=congrArg List.length (hg1.1);simp only[xaa,xab,xac] at hz;omega
 subst hrest;refine rq ?_;rotate_left;all_goals (first|(refine congrArg D.i ?_;rw[<-hg1.2];first|rfl|(rw[List.find?_cons_of_pos (by rw[hisn,(hpl y (by rw[<-hg1.1];simp)).choose_spec.2.2.choose_spec.1,hnm _ _ (hpl y (by rw[<-hg1.1];simp)).choose_spec.1];simp_all)];rfl))|(simp_all;done))
def zbO (x:UInt8):Bool:=decide (48<=(x.toNat:Int))&&decide ((x.toNat:Int)<=57)
def digV (s:Str) (n:Nat):Int:=((nth s n).toNat:Int)-48
def intP (s:Str) (n:Nat):Pat×Int:=
 if za4 s ((n:Int)+1) 45=true/\n+2<s.length/\zbO (nth s (n+2))=true then (.mk 3 0 (digV s n) (digV s (n+2)) 0 [],(n:Int)+3)
 else (.mk 3 0 (digV s n) (digV s n) 0 [],(n:Int)+1)
theorem zou {x:UInt8} (h:zbO x=true):IntKind.i64.wrap (IntKind.u8.wrap ((x.toNat:Int)-48))=(x.toNat:Int)-48:=by
 unfold zbO at h;rw[xad,decide_eq_true_eq,decide_eq_true_eq] at h;exact zhE (by omega) (by omega)
theorem zmI {s:Str}{n:Nat} (hs:s.length<=1000000000000) (hn:n<s.length) (hd:zbO (nth s n)=true):
  FnD Tryz.prog 263 [.d (.str s),.d (.i n)] [] (.tup [.agg [.d (.i (intP s n).1.op),.d (.i (intP s n).1.ctor),.d (.i (intP s n).1.n),.d (.i (intP s n).1.m),.d (.i (intP s n).1.var),.d (zaQ (intP s n).1.kids)],.d (.i (intP s n).2)]) []:=by
 have w1:=zou hd;by_cases hc:za4 s ((n:Int)+1) 45=true/\n+2<s.length/\zbO (nth s (n+2))=true
 ·have w2:=zou hc.2.2;have e:intP s n=(.mk 3 0 (digV s n) (digV s (n+2)) 0 [],(n:Int)+3):=by unfold intP;rw[if_pos hc]
  rw[e];obtain⟨c1,c2,c3⟩:=hc;have hsg:=zaG (s:=s) (a:=(n:Int)+1) (c:=45) hs;rw[c1] at hsg;unfold zbO at c3;rw[xad,decide_eq_true_eq,decide_eq_true_eq] at c3;refine bd Tryz.f263 52 [10,42] [] fun w0 F0 own kept hk=>?_;refine ab 3004 tz74 ?_;refine evs [10,42] [] ?_;refine xaR un9 .none rfl rfl rfl rfl (zaZ (by omega)) ?_;refine xbc .none rfl rfl rfl ?_;refine xaH (by rw[un5];rfl) un3 .none rfl rfl ?_;refine evs [10,42] [] ?_;refine ar ?_;refine wc zbN (hsg) rfl rfl ?_;refine evs [10,42] [] ?_;refine sq ?_ ?_<;>intro h1 h1p h1s<;>(try simp only[Q,Int.natCast_inj] at h1p);refine ar ?_;refine sq ?_ ?_<;>intro h2 h2p h2s<;>(try simp only[Q,Int.natCast_inj] at h2p);refine ar ?_;refine xaR (i:=((n+2:Nat))) un9 (.some rfl rfl h2) rfl rfl rfl (by omega) (zaZ (by omega)) ?_;refine evs [10,42] [(23,true)] ?_ ⟨⟨_,rfl,h2⟩,trivial⟩;refine sq ?_ ?_<;>intro h3 h3p h3s<;>(try simp only[Q,Int.natCast_inj] at h3p);refine ar ?_;refine xaR (i:=((n+2:Nat))) un9 (.some rfl rfl h3) rfl rfl rfl (by omega) (zaZ (by omega)) ?_;refine evs [10,42] [(30,true)] ?_ ⟨⟨_,rfl,h3⟩,trivial⟩;refine sq ?_ ?_<;>intro h4 h4p h4s<;>(try simp only[Q,Int.natCast_inj] at h4p);refine ar ?_;refine xaR (i:=((n+2:Nat))) un9 .none rfl rfl rfl (by omega) (zaZ (by omega)) ?_;refine xbc .none rfl rfl rfl ?_;refine xaH (by rw[un5];rfl) un3 .none rfl rfl ?_;refine bu [0,2,3] [_,_,_] st74 ?_;refine evs [10,42] [] ?_;refine ar ?_;refine so ty74 ?_;refine evs [10,42] [] ?_;refine rn0 (.cons (.cellA ty74 rfl rfl rfl) (.cons (.tmp rfl) .nil)) (.tup (.cons (.agg (.cons (.eqd ?_) (.cons (.eqd ?_) (.cons (.eqd ?_) (.cons (.eqd ?_) (.cons (.eqd ?_) (.cons (.nild ?_) .nil))))))) (.cons (.eqd ?_) .nil)));rotate_left 7;focus (exfalso;first|contradiction|omega|(simp_all;done)|(simp_all;omega))
  refine sqF ?_;focus (exfalso;first|contradiction|omega|(simp_all;done)|(simp_all;omega))
  refine sqF ?_;refine sqF ?_;focus (exfalso;first|contradiction|omega|(simp_all;done)|(simp_all;omega))
  refine sqF ?_;refine sqF ?_;refine sqF ?_;focus (exfalso;first|contradiction|omega|(simp_all;done)|(simp_all;omega))
  all_goals (first|rfl|(refine congrArg D.i ?_;first|rfl|omega|exact w1|exact w2))
 ·have e:intP s n=(.mk 3 0 (digV s n) (digV s n) 0 [],(n:Int)+1):=by unfold intP;rw[if_neg hc]
  rw[e];have hsg:=zaG (s:=s) (a:=(n:Int)+1) (c:=45) hs;have hdg:∀x:UInt8,zbO x=(decide (48<=(x.toNat:Int))&&decide ((x.toNat:Int)<=57)):=fun _=>rfl;have hno:za4 s ((n:Int)+1) 45=true->n+2<s.length->48<=((nth s (n+2)).toNat:Int)->((nth s (n+2)).toNat:Int)<=57->False:=fun h1 h2 h3 h4=>hc ⟨h1,h2,by rw[hdg,xad,decide_eq_true_eq,decide_eq_true_eq];exact⟨h3,h4⟩⟩;refine bd Tryz.f263 52 [10] [] fun w0 F0 own kept hk=>?_;refine ab 3004 tz74 ?_;refine evs [10] [] ?_;refine xaR un9 .none rfl rfl rfl rfl (zaZ (by omega)) ?_;refine xbc .none rfl rfl rfl ?_;refine xaH (by rw[un5];rfl) un3 .none rfl rfl ?_;refine evs [10] [] ?_;refine ar ?_;refine wc zbN (hsg) rfl rfl ?_;refine evs [10] [] ?_;refine sq ?_ ?_<;>intro h1 h1p h1s<;>(try simp only[Q,Int.natCast_inj] at h1p);refine ar ?_;refine sq ?_ ?_<;>intro h2 h2p h2s<;>(try simp only[Q,Int.natCast_inj] at h2p);refine ar ?_;refine xaR (i:=((n+2:Nat))) un9 (.some rfl rfl h2) rfl rfl rfl (by omega) (zaZ (by omega)) ?_;refine evs [10] [(23,true)] ?_ ⟨⟨_,rfl,h2⟩,trivial⟩;refine sq ?_ ?_<;>intro h3 h3p h3s<;>(try simp only[Q,Int.natCast_inj] at h3p);refine ar ?_;refine xaR (i:=((n+2:Nat))) un9 (.some rfl rfl h3) rfl rfl rfl (by omega) (zaZ (by omega)) ?_;refine evs [10] [(30,true)] ?_ ⟨⟨_,rfl,h3⟩,trivial⟩;refine sq ?_ ?_<;>intro h4 h4p h4s<;>(try simp only[Q,Int.natCast_inj] at h4p);exfalso;exact hno (by assumption) (by omega) (by omega) (by omega);refine bu [0,2,3] [_,_,_] st74 ?_;refine evs [10] [] ?_;refine ar ?_;refine so ty74 ?_;refine evs [10] [] ?_;refine rn0 (.cons (.cellA ty74 rfl rfl rfl) (.cons (.tmp rfl) .nil)) (.tup (.cons (.agg (.cons (.eqd ?_) (.cons (.eqd ?_) (.cons (.eqd ?_) (.cons (.eqd ?_) (.cons (.eqd ?_) (.cons (.nild ?_) .nil))))))) (.cons (.eqd ?_) .nil)));rotate_left 7;refine sqF ?_;refine bu [0,2,3] [_,_,_] st74 ?_;refine evs [10] [] ?_;refine ar ?_;refine so ty74 ?_;refine evs [10] [] ?_;refine rn0 (.cons (.cellA ty74 rfl rfl rfl) (.cons (.tmp rfl) .nil)) (.tup (.cons (.agg (.cons (.eqd ?_) (.cons (.eqd ?_) (.cons (.eqd ?_) (.cons (.eqd ?_) (.cons (.eqd ?_) (.cons (.nild ?_) .nil))))))) (.cons (.eqd ?_) .nil)));rotate_left 7;refine sqF ?_;refine sqF ?_;refine bu [0,2,3] [_,_,_] st74 ?_;refine evs [10] [] ?_;refine ar ?_;refine so ty74 ?_;refine evs [10] [] ?_;refine rn0 (.cons (.cellA ty74 rfl rfl rfl) (.cons (.tmp rfl) .nil)) (.tup (.cons (.agg (.cons (.eqd ?_) (.cons (.eqd ?_) (.cons (.eqd ?_) (.cons (.eqd ?_) (.cons (.eqd ?_) (.cons (.nild ?_) .nil))))))) (.cons (.eqd ?_) .nil)));rotate_left 7;refine sqF ?_;refine sqF ?_;refine sqF ?_;refine bu [0,2,3] [_,_,_] st74 ?_;refine evs [10] [] ?_;refine ar ?_;refine so ty74 ?_;refine evs [10] [] ?_;refine rn0 (.cons (.cellA ty74 rfl rfl rfl) (.cons (.tmp rfl) .nil)) (.tup (.cons (.agg (.cons (.eqd ?_) (.cons (.eqd ?_) (.cons (.eqd ?_) (.cons (.eqd ?_) (.cons (.eqd ?_) (.cons (.nild ?_) .nil))))))) (.cons (.eqd ?_) .nil)));rotate_left 7;all_goals (first|rfl|(refine congrArg D.i ?_;first|rfl|omega|exact w1))
def kidL (f:Ty->Int->Pat×Int) (s:Str):List Ty->List UInt8->Int->Option (List Pat×Int)
 | [],_,a=>some ([],a)
 |_::_,[],_=>none
 |t::ts,c::cs,a=>if za4 s a c=true then (match kidL f s ts cs (f t (a+1)).2 with|none=>none|some r=>some ((f t (a+1)).1::r.1,r.2)) else none
def kidV (f:Ty->Int->Pat×Int) (s:Str) (ts:List Ty) (sg:List UInt8) (a:Int):List Pat×Int:=(kidL f s ts sg a).getD ([],-1)
def zaw (w:List Data) (s:Str):Nat->Ty->Int->Pat×Int
 |0,_,_=>(ze9,-1)
 |n+1,t,a=>
  if a<0\/(s.length:Int)<=a then (ze9,-1)
  else if nth s a.toNat=95 then (.mk 1 0 0 0 0 [],a+1)
  else if zbO (nth s a.toNat)=true then intP s a.toNat
  else if nth s a.toNat=40 then (if za4 s (kidV (zaw w s n) s [t,t] [40,124] a).2 41=true then (.mk 5 0 0 0 0 (kidV (zaw w s n) s [t,t] [40,124] a).1,(kidV (zaw w s n) s [t,t] [40,124] a).2+1) else (ze9,-1))
  else if zbo (nth s a.toNat)=true/\za4 s (a+1) 64=true then (.mk 6 0 0 0 (((nth s a.toNat).toNat:Int)-97) (kidV (zaw w s n) s [t] [64] (a+1)).1,(kidV (zaw w s n) s [t] [64] (a+1)).2)
  else if zbo (nth s a.toNat)=true then (.mk 2 0 0 0 (((nth s a.toNat).toNat:Int)-97) [],a+1)
  else if nmV w t (za1 s a.toNat)<0 then (ze9,-1)
  else if (zaq w t (nmV w t (za1 s a.toNat))).length=0 then (.mk 4 (nmV w t (za1 s a.toNat)) 0 0 0 (kidV (zaw w s n) s (zaq w t (nmV w t (za1 s a.toNat))) [40,44,44] ((a.toNat+zbg (s.drop a.toNat):Nat):Int)).1,(kidV (zaw w s n) s (zaq w t (nmV w t (za1 s a.toNat))) [40,44,44] ((a.toNat+zbg (s.drop a.toNat):Nat):Int)).2)
  else if za4 s (kidV (zaw w s n) s (zaq w t (nmV w t (za1 s a.toNat))) [40,44,44] ((a.toNat+zbg (s.drop a.toNat):Nat):Int)).2 41=true then (.mk 4 (nmV w t (za1 s a.toNat)) 0 0 0 (kidV (zaw w s n) s (zaq w t (nmV w t (za1 s a.toNat))) [40,44,44] ((a.toNat+zbg (s.drop a.toNat):Nat):Int)).1,(kidV (zaw w s n) s (zaq w t (nmV w t (za1 s a.toNat))) [40,44,44] ((a.toNat+zbg (s.drop a.toNat):Nat):Int)).2+1)
  else (ze9,-1)
def EndIn (s:Str) (a:Int):Prop:= -1<=a/\a<=(s.length:Int)
theorem zqZ {s:Str}{n:Nat} (hn:n<s.length):EndIn s (intP s n).2:=by
 unfold intP EndIn;split
 ·rename_i h;have:=h.2.1;dsimp only;omega
 ·dsimp only;omega
theorem znC {f:Ty->Int->Pat×Int}{s:Str} (hf:∀t a,EndIn s (f t a).2):∀(ts:List Ty) (sg:List UInt8) (a:Int),EndIn s a->∀r,kidL f s ts sg a=some r->EndIn s r.2/\r.1.length=ts.length
 | [],_,a,ha,r,h=>by rw[kidL] at h;cases h;exact⟨ha,rfl⟩
 |_::_,[],_,_,r,h=>by rw[kidL] at h;cases h
 |t::ts,c::cs,a,ha,r,h=>by
  rw[kidL] at h;split at h
  ·cases e:kidL f s ts cs (f t (a+1)).2 with
   |none=>rw[e] at h;cases h
   |some r2=>
    rw[e] at h;cases h;have:=znC hf ts cs _ (hf t (a+1)) r2 e;exact⟨this.1,by simp[this.2]⟩
  ·cases h
theorem zhK {f:Ty->Int->Pat×Int}{s:Str} (hf:∀t a,EndIn s (f t a).2){ts:List Ty}{sg:List UInt8}{a:Int} (ha:EndIn s a):EndIn s (kidV f s ts sg a).2:=by
 unfold kidV;cases e:kidL f s ts sg a with
 |none=>exact⟨Int.le_refl _,by simp[Option.getD]<;>omega⟩
 |some r=>exact(znC hf ts sg a ha r e).1
theorem zgA {s:Str}{a:Int} (h0:0<=a) (h1:a<(s.length:Int)):EndIn s ((a.toNat+zbg (s.drop a.toNat):Nat):Int):=by
 have:=zhO (s.drop a.toNat);rw[List.length_drop] at this;exact⟨by omega,by omega⟩
theorem zf7 {w:List Data}{s:Str}:∀(n:Nat) (t:Ty) (a:Int),EndIn s (zaw w s n t a).2
 |0,_,_=>⟨by simp[zaw],by simp[zaw]<;>omega⟩
 |n+1,t,a=>by
  have ih:=zf7 (w:=w) (s:=s) n;have z:EndIn s ((ze9,(-1:Int)):Pat×Int).2:=⟨Int.le_refl _,by dsimp only;omega⟩;unfold zaw;split
  ·exact z
  rename_i ha;have ha0:0<=a:=by omega
  have ha1:a<(s.length:Int):=by omega
  have hst:∀ {b:Int},za4 s b 41=true->EndIn s (b+1):=fun h=>by have:=zfK h;exact⟨by omega,by omega⟩
  split
  ·exact⟨by dsimp only;omega,by dsimp only;omega⟩
  split
  ·exact zqZ (by omega)
  split
  ·split
   ·rename_i h;exact hst h
   ·exact z
  split
  ·rename_i h;exact zhK ih (by have:=zfK h.2;exact⟨by omega,by omega⟩)
  split
  ·exact⟨by dsimp only;omega,by dsimp only;omega⟩
  split
  ·exact z
  split
  ·exact zhK ih (zgA ha0 ha1)
  split
  ·rename_i h;exact hst h
  ·exact z
theorem zl6 {f:Ty->Int->Pat×Int}{s:Str}{ts:List Ty}{sg:List UInt8}{i:Nat}{a:Int} (hi:i<ts.length) (hg:ts.length<=sg.length):
  kidL f s (ts.drop i) (sg.drop i) a=if za4 s a (nth sg i)=true then (match kidL f s (ts.drop (i+1)) (sg.drop (i+1)) (f (nth ts i) (a+1)).2 with|none=>none|some r=>some ((f (nth ts i) (a+1)).1::r.1,r.2)) else none:=by
 rw[zbd hi,zbd (show i<sg.length by omega),kidL]
def addK (acc:List Pat):Option (List Pat×Int)->Option (List Pat×Int)
 |none=>none
 |some r=>some (acc++r.1,r.2)
theorem zqK (o:Option (List Pat×Int)):addK [] o=o:=by cases o<;>rfl
theorem zq0 {f:Ty->Int->Pat×Int}{s:Str}{ts:List Ty}{sg:List UInt8}{i:Nat}{a:Int}{acc:List Pat}{o:Option (List Pat×Int)} (hi:i<ts.length) (hg:ts.length<=sg.length)
  (h:addK acc (kidL f s (ts.drop i) (sg.drop i) a)=o) (hs:za4 s a (nth sg i)=true):
  addK (acc++[(f (nth ts i) (a+1)).1]) (kidL f s (ts.drop (i+1)) (sg.drop (i+1)) (f (nth ts i) (a+1)).2)=o:=by
 rw[<-h,zl6 hi hg,if_pos hs];cases kidL f s (ts.drop (i+1)) (sg.drop (i+1)) (f (nth ts i) (a+1)).2 with
 |none=>rfl
 |some r=>simp[addK]
theorem zr6 {f:Ty->Int->Pat×Int}{s:Str}{ts:List Ty}{sg:List UInt8}{i:Nat}{a:Int}{acc:List Pat}{o:Option (List Pat×Int)} (hi:i<ts.length) (hg:ts.length<=sg.length)
  (h:addK acc (kidL f s (ts.drop i) (sg.drop i) a)=o) (hs:za4 s a (nth sg i)=false):o=none:=by
 rw[<-h,zl6 hi hg,if_neg (by rw[hs];simp)];rfl
theorem zr7 {f:Ty->Int->Pat×Int}{s:Str}{ts:List Ty}{sg:List UInt8}{i:Nat}{a:Int}{acc:List Pat}{o:Option (List Pat×Int)} (hi:ts.length<=i)
  (h:addK acc (kidL f s (ts.drop i) (sg.drop i) a)=o):o=some (acc,a):=by
 rw[<-h,List.drop_eq_nil_of_le hi,kidL];simp[addK]
theorem zmJ {w:List Data}{s:Str} (hs:s.length<=1000000000000 / 2){ts:List Ty}{sg:List UInt8} (hg:ts.length<=sg.length) (hg2:sg.length<=3){a0 dep:Int} (ha0:EndIn s a0){f:Ty->Int->Pat×Int} (hfe:∀t a,EndIn s (f t a).2)
  (hf:∀t∈ts,∀a,EndIn s a->FnD Tryz.prog 229 [.d (zak w),.agg [.d (.i t.data),.d (.i t.index)],.d (.str s),.d (.i a),.d (.i dep)] [] (.tup [.agg [.d (.i (f t a).1.op),.d (.i (f t a).1.ctor),.d (.i (f t a).1.n),.d (.i (f t a).1.m),.d (.i (f t a).1.var),.d (zaQ (f t a).1.kids)],.d (.i (f t a).2)]) []):
  FnD Tryz.prog 264 [.d (zak w),.d (zbI ts),.d (zeD sg),.d (.str s),.d (.i a0),.d (.i dep)] [] (.tup [.d (zaQ (kidV f s ts sg a0).1),.d (.i (kidV f s ts sg a0).2)]) []:=by
 unfold kidV;generalize ho:kidL f s ts sg a0=o;have hsl:s.length<=1000000000000:=by omega
 have hbad:=fun(i:Nat) (a:Int) (acc:List Pat)=>zr6 (f:=f) (s:=s) (ts:=ts) (sg:=sg) (i:=i) (a:=a) (acc:=acc) (o:=o);have hend:=fun(i:Nat) (a:Int) (acc:List Pat)=>zr7 (f:=f) (s:=s) (ts:=ts) (sg:=sg) (i:=i) (a:=a) (acc:=acc) (o:=o);have hnext:=fun(i:Nat) (a:Int) (acc:List Pat)=>zq0 (f:=f) (s:=s) (ts:=ts) (sg:=sg) (i:=i) (a:=a) (acc:=acc) (o:=o);refine bd Tryz.f264 53 [] [] fun w0 F0 own kept hk=>?_;refine xa6 1 sl72 .none rfl rfl ?_;refine ev ?_;refine xak (ι:=Nat×List Pat×Int) hk (fun x=>[(15,.d (.i (x.1:Int))),(14,.gl 1 (x.2.1.map Pat.cc)),(4,.d (.i x.2.2))]) [12,13,16,17,19,20,21,22,23,24,25,26,27,28,29,30,31,32,33,34,35,36,37,38,39,40,41,42,43,44,45,46,47,48,49,50] (fun x=>[(1,some (.tok ((x.2.1.map Pat.cc)).length 6))]) (fun x=>x.1<=ts.length/\x.2.1.length<=x.1/\(-1<=x.2.2/\x.2.2<=(s.length:Int))/\addK x.2.1 (kidL f s (ts.drop x.1) (sg.drop x.1) x.2.2)=o) (fun x=>ts.length-x.1) (0,[],a0) ⟨by simp,by simp,ha0,by rw[zqK];exact ho⟩ ⟨⟨_,rfl,xap ?_⟩,⟨⟨_,rfl,LeA.glg ?_⟩,⟨⟨_,rfl,xap ?_⟩,trivial⟩⟩⟩ ⟨zaf ?_,trivial⟩ (fun x=>rfl) (fun x hg1=>?_);iterate 4 focus (first|rfl|(simp;done)|omega|(simp;omega))
 refine evc [] [] ?_;refine sq ?_ ?_<;>intro h1 h1p h1s<;>(try simp only[Q,Int.natCast_inj,xac] at h1p);refine Walk.idx sl22 .none rfl rfl rfl rfl (zae (by omega)) rfl ?_;refine ev ?_;refine wc zbN (zaG (s:=s) (a:=x.2.2) (c:=nth sg x.1) hsl) rfl rfl ?_;refine ev ?_;refine sq ?_ ?_<;>intro h2 h2p h2s<;>(try simp only[Q,Int.natCast_inj,xac] at h2p);refine rn0 (r2 rfl rfl) (.tup (.cons (.nild ?_) (.cons (.eqd ?_) .nil)));rotate_left 2;refine Walk.idx zax .none rfl rfl rfl rfl (zae (by omega)) rfl ?_;refine ev ?_;refine ar ?_;refine wc zpL (hf (nth ts x.1) (zaj (by omega)) (x.2.2+1) (by have:=zfK (s:=s) (a:=x.2.2) (by assumption);exact⟨by omega,by omega⟩)) rfl rfl ?_;refine ev ?_;refine ab 3016 tz74 ?_;refine so ty74 ?_;refine ev ?_;refine si [0] [_] sl72 tz74 ?_;refine ap sl72 zz74 rfl rfl rfl (by intro x hx;simp at hx;subst hx;rfl) (by simp;omega) ?_;refine ev ?_;refine ar ?_;refine xah ((x.1+1,x.2.1++[(f (nth ts x.1) (x.2.2+1)).1],(f (nth ts x.1) (x.2.2+1)).2)) ⟨⟨by dsimp only;omega,by simp;omega,hfe _ _,hnext x.1 x.2.2 x.2.1 (by omega) hg hg1.2.2.2 (by assumption)⟩,(by dsimp only;omega),sx ⟨⟨_,rfl,xap ?_⟩,⟨⟨_,rfl,LeA.glg ?_⟩,⟨⟨_,rfl,xap ?_⟩,trivial⟩⟩⟩ ⟨zaf ?_,trivial⟩⟩;iterate 4 focus (first|rfl|(simp;done)|omega|(simp;omega))
 refine rn0 (r2 rfl rfl) (.tup (.cons (.gld ?_) (.cons (.eqd ?_) .nil)));rotate_left 2;all_goals (first|(rw[hbad x.1 x.2.2 x.2.1 (by omega) hg hg1.2.2.2 (by assumption)];rfl)|(rw[hend x.1 x.2.2 x.2.1 (by omega) hg1.2.2.2];first|rfl|exact(Pat.cs_cd _).symm))
end Go.Proofs.YtmchfdpleibpdaaGreat
namespace Go.Proofs.YtmchfdpleibpdaaGreat
open Go
set_option linter.unusedSimpArgs false
set_option linter.unusedVariables false
set_option maxRecDepth 100000
set_option maxHeartbeats 4000000
theorem zjR {x:Int} (h1:97<=x) (h2:x<=122):IntKind.i64.wrap (IntKind.u8.wrap (x-97))=x-97:=by
 rw[zlM,zb8 (by omega)];omega
section
variable {w:List Data}{s:Str}{n m:Nat}{t:Ty}
theorem ztr {a:Int} (h:a<0\/(s.length:Int)<=a):zaw w s (n+1) t a=(ze9,-1):=by unfold zaw;rw[if_pos h]
variable (hm:m<s.length)
include hm
theorem zfz:¬((m:Int)<0\/(s.length:Int)<=(m:Int)):=by omega
omit hm in
theorem zoZ {x:UInt8} (h1:48<=(x.toNat:Int)) (h2:(x.toNat:Int)<=57):zbO x=true:=by unfold zbO;rw[xad,decide_eq_true_eq,decide_eq_true_eq];exact⟨h1,h2⟩
omit hm in
theorem zhD {x:UInt8} (h:¬(48<=(x.toNat:Int)/\(x.toNat:Int)<=57)):¬zbO x=true:=by unfold zbO;rw[xad,decide_eq_true_eq,decide_eq_true_eq];exact h
omit hm in
theorem zo6 {x:UInt8} (h1:97<=(x.toNat:Int)) (h2:(x.toNat:Int)<=122):zbo x=true:=by unfold zbo;rw[xad,decide_eq_true_eq,decide_eq_true_eq];exact⟨h1,h2⟩
omit hm in
theorem zkG {x:UInt8} (h:¬(97<=(x.toNat:Int)/\(x.toNat:Int)<=122)):¬zbo x=true:=by unfold zbo;rw[xad,decide_eq_true_eq,decide_eq_true_eq];exact h
omit hm in
theorem b_eq {x:UInt8}{k:Nat} (hk:k<256) (h:(x.toNat:Int)=(k:Int)):x=UInt8.ofNat k:=by
 rw[<-UInt8.toNat_inj,UInt8.toNat_ofNat_of_lt' hk];omega
omit hm in
theorem b_ne {x y:UInt8} (h:¬(x.toNat:Int)=(y.toNat:Int)):¬x=y:=fun e=>h (by rw[e])
theorem ztn (h:((nth s m).toNat:Int)=95):zaw w s (n+1) t (m:Int)=(.mk 1 0 0 0 0 [],(m:Int)+1):=by
 unfold zaw;rw[if_neg (zfz hm),if_pos (show nth s ((m:Int)).toNat=95 from b_eq (k:=95) (by omega) h)]
theorem ztp (h1:48<=((nth s m).toNat:Int)) (h2:((nth s m).toNat:Int)<=57):zaw w s (n+1) t (m:Int)=intP s m:=by
 unfold zaw;rw[if_neg (zfz hm),if_neg (show ¬nth s ((m:Int)).toNat=95 from b_ne (by show ¬((nth s m).toNat:Int)=95;omega)),if_pos (show zbO (nth s ((m:Int)).toNat)=true from zoZ h1 h2)];rfl
theorem zud (h:((nth s m).toNat:Int)=40):zaw w s (n+1) t (m:Int)=(if za4 s (kidV (zaw w s n) s [t,t] [40,124] (m:Int)).2 41=true then (.mk 5 0 0 0 0 (kidV (zaw w s n) s [t,t] [40,124] (m:Int)).1,(kidV (zaw w s n) s [t,t] [40,124] (m:Int)).2+1) else (ze9,-1)):=by
 rw[zaw];rw[if_neg (zfz hm),if_neg (show ¬nth s ((m:Int)).toNat=95 from b_ne (by show ¬((nth s m).toNat:Int)=95;omega)),if_neg (show ¬zbO (nth s ((m:Int)).toNat)=true from zhD (by show ¬(48<=((nth s m).toNat:Int)/\((nth s m).toNat:Int)<=57);omega)),if_pos (show nth s ((m:Int)).toNat=40 from b_eq (k:=40) (by omega) h)]
theorem ztq (h1:97<=((nth s m).toNat:Int)) (h2:((nth s m).toNat:Int)<=122):zaw w s (n+1) t (m:Int)=if za4 s ((m:Int)+1) 64=true then (.mk 6 0 0 0 (((nth s m).toNat:Int)-97) (kidV (zaw w s n) s [t] [64] ((m:Int)+1)).1,(kidV (zaw w s n) s [t] [64] ((m:Int)+1)).2) else (.mk 2 0 0 0 (((nth s m).toNat:Int)-97) [],(m:Int)+1):=by
 rw[zaw];rw[if_neg (zfz hm),if_neg (show ¬nth s ((m:Int)).toNat=95 from b_ne (by show ¬((nth s m).toNat:Int)=95;omega)),if_neg (show ¬zbO (nth s ((m:Int)).toNat)=true from zhD (by show ¬(48<=((nth s m).toNat:Int)/\((nth s m).toNat:Int)<=57);omega)),if_neg (show ¬nth s ((m:Int)).toNat=40 from b_ne (by show ¬((nth s m).toNat:Int)=40;omega))];by_cases hg:za4 s ((m:Int)+1) 64=true
 ·rw[if_pos ⟨zo6 h1 h2,hg⟩,if_pos hg];rfl
 ·rw[if_neg (fun h=>hg h.2),if_pos (show zbo (nth s ((m:Int)).toNat)=true from zo6 h1 h2),if_neg hg];rfl
def conP (w:List Data) (s:Str) (n:Nat) (t:Ty) (m:Nat):Pat×Int:=
 if nmV w t (za1 s m)<0 then (ze9,-1)
 else if (zaq w t (nmV w t (za1 s m))).length=0 then (.mk 4 (nmV w t (za1 s m)) 0 0 0 (kidV (zaw w s n) s (zaq w t (nmV w t (za1 s m))) [40,44,44] ((m+zbg (s.drop m):Nat):Int)).1,(kidV (zaw w s n) s (zaq w t (nmV w t (za1 s m))) [40,44,44] ((m+zbg (s.drop m):Nat):Int)).2)
 else if za4 s (kidV (zaw w s n) s (zaq w t (nmV w t (za1 s m))) [40,44,44] ((m+zbg (s.drop m):Nat):Int)).2 41=true then (.mk 4 (nmV w t (za1 s m)) 0 0 0 (kidV (zaw w s n) s (zaq w t (nmV w t (za1 s m))) [40,44,44] ((m+zbg (s.drop m):Nat):Int)).1,(kidV (zaw w s n) s (zaq w t (nmV w t (za1 s m))) [40,44,44] ((m+zbg (s.drop m):Nat):Int)).2+1)
 else (ze9,-1)
theorem zto (h1:¬((nth s m).toNat:Int)=95) (h2:¬(48<=((nth s m).toNat:Int)/\((nth s m).toNat:Int)<=57)) (h3:¬((nth s m).toNat:Int)=40) (h4:¬(97<=((nth s m).toNat:Int)/\((nth s m).toNat:Int)<=122)):
  zaw w s (n+1) t (m:Int)=conP w s n t m:=by
 rw[zaw];rw[if_neg (zfz hm),if_neg (show ¬nth s ((m:Int)).toNat=95 from b_ne (by show ¬((nth s m).toNat:Int)=95;omega)),if_neg (show ¬zbO (nth s ((m:Int)).toNat)=true from zhD h2),if_neg (show ¬nth s ((m:Int)).toNat=40 from b_ne (by show ¬((nth s m).toNat:Int)=40;omega)),
  if_neg (fun h=>zkG h4 h.1),if_neg (show ¬zbo (nth s ((m:Int)).toNat)=true from zkG h4)]
 rfl
end
def A3 (w:List Data):Prop:=∀t c,TyIn w.length t->c∈zaJ w t->(zaq w t c).length<=3/\∀u∈zaq w t c,TyIn w.length u
theorem zgV {w:List Data}{s:Str} (hw:WT w) (hA3:A3 w) (hs:s.length<=1000000000000 / 2):∀(n:Nat){a k:Int}{b:Int},n<=1000->TyIn w.length ⟨a,k⟩->EndIn s b->
  FnD Tryz.prog 229 [.d (zak w),.agg [.d (.i a),.d (.i k)],.d (.str s),.d (.i b),.d (.i n)] [] (.tup [.agg [.d (.i (zaw w s n ⟨a,k⟩ b).1.op),.d (.i (zaw w s n ⟨a,k⟩ b).1.ctor),.d (.i (zaw w s n ⟨a,k⟩ b).1.n),.d (.i (zaw w s n ⟨a,k⟩ b).1.m),.d (.i (zaw w s n ⟨a,k⟩ b).1.var),.d (zaQ (zaw w s n ⟨a,k⟩ b).1.kids)],.d (.i (zaw w s n ⟨a,k⟩ b).2)]) []
 |0,a,k,b,_,_,_=>by
  rw[show zaw w s 0 ⟨a,k⟩ b=(ze9,-1) from rfl];refine bd Tryz.f229 172 [] [] fun w0 F0 own kept hk=>?_;refine bx 3006 ?_;refine ab 3010 tz74 ?_;refine ev ?_;refine sq ?_ ?_<;>intro h1 h1p h1s<;>(try simp only[Q] at h1p);refine sqT ?_;refine sqT ?_;refine bu [] [] st74 ?_;refine so ty74 ?_;refine ev ?_;focus (refine rn0 (.cons (.cellA ty74 rfl rfl rfl) (.cons (.tmp rfl) .nil)) (.tup (.cons (.agg (.cons (.eqd ?_) (.cons (.eqd ?_) (.cons (.eqd ?_) (.cons (.eqd ?_) (.cons (.eqd ?_) (.cons (.nild ?_) .nil))))))) (.cons (.eqd ?_) .nil)));all_goals (first|rfl|(simp[h1s,h1p];done)|(simp_all;done)|(simp_all;omega)|omega))
  focus (exfalso;first|omega|(simp at h1p;done))
 |n+1,a,k,b,hn,ht,hb=>by
  have hsl:s.length<=1000000000000:=by omega
  by_cases hout:b<0\/(s.length:Int)<=b
  ·rw[ztr hout];obtain⟨hb1,hb2⟩:=hb;refine bd Tryz.f229 172 [] [] fun w0 F0 own kept hk=>?_;refine bx 3006 ?_;refine ab 3010 tz74 ?_;refine ev ?_;refine sq ?_ ?_<;>intro h1 h1p h1s<;>(try simp only[Q] at h1p);refine sqT ?_;refine sqT ?_;refine bu [] [] st74 ?_;refine so ty74 ?_;refine ev ?_;focus (refine rn0 (.cons (.cellA ty74 rfl rfl rfl) (.cons (.tmp rfl) .nil)) (.tup (.cons (.agg (.cons (.eqd ?_) (.cons (.eqd ?_) (.cons (.eqd ?_) (.cons (.eqd ?_) (.cons (.eqd ?_) (.cons (.nild ?_) .nil))))))) (.cons (.eqd ?_) .nil)));all_goals (first|rfl|(simp[h1s,h1p];done)|(simp_all;done)|(simp_all;omega)|omega))
   refine sq ?_ ?_<;>intro h3 h3p h3s<;>(try simp only[Q] at h3p);refine sqT ?_;refine bu [] [] st74 ?_;refine so ty74 ?_;refine ev ?_;focus (refine rn0 (.cons (.cellA ty74 rfl rfl rfl) (.cons (.tmp rfl) .nil)) (.tup (.cons (.agg (.cons (.eqd ?_) (.cons (.eqd ?_) (.cons (.eqd ?_) (.cons (.eqd ?_) (.cons (.eqd ?_) (.cons (.nild ?_) .nil))))))) (.cons (.eqd ?_) .nil)));all_goals (first|rfl|(simp[h1s,h1p,h3s,h3p];done)|(simp_all;done)|(simp_all;omega)|omega))
   refine sq ?_ ?_<;>intro h5 h5p h5s<;>(try simp only[Q] at h5p);refine bu [] [] st74 ?_;refine so ty74 ?_;refine ev ?_;focus (refine rn0 (.cons (.cellA ty74 rfl rfl rfl) (.cons (.tmp rfl) .nil)) (.tup (.cons (.agg (.cons (.eqd ?_) (.cons (.eqd ?_) (.cons (.eqd ?_) (.cons (.eqd ?_) (.cons (.eqd ?_) (.cons (.nild ?_) .nil))))))) (.cons (.eqd ?_) .nil)));all_goals (first|rfl|(simp[h1s,h1p,h3s,h3p,h5s,h5p];done)|(simp_all;done)|(simp_all;omega)|omega))
   focus (exfalso;first|omega|(simp at h5p;done))
  obtain⟨m,rfl⟩:=Int.eq_ofNat_of_zero_le (show 0<=b by omega);have hm:m<s.length:=by omega
  have hkid:∀(ts:List Ty) (sg:List UInt8) (a0:Int),ts.length<=sg.length->sg.length<=3->(∀t∈ts,TyIn w.length t)->EndIn s a0->
    FnD Tryz.prog 264 [.d (zak w),.d (zbI ts),.d (zeD sg),.d (.str s),.d (.i a0),.d (.i (((n+1:Nat):Int)-1))] [] (.tup [.d (zaQ (kidV (zaw w s n) s ts sg a0).1),.d (.i (kidV (zaw w s n) s ts sg a0).2)]) []:=fun ts sg a0 h1 h2 h3' h4=>by
   rw[show(((n+1:Nat):Int)-1)=(n:Int) by omega];exact zmJ hs h1 h2 h4 (zf7 n) (fun t ht' b hb'=>zgV hw hA3 hs n (a:=t.data) (k:=t.index) (by omega) (h3' t ht') hb')
  have hk1:=hkid [⟨a,k⟩,⟨a,k⟩] [40,124] (m:Int) (by simp) (by simp) (by intro t h;simp at h;subst h;exact ht) hb;have hk2:=fun h=>hkid [⟨a,k⟩] [64] ((m:Int)+1) (by simp) (by simp) (by intro t h;simp at h;subst h;exact ht) h;have hk3:=fun(h:¬nmV w ⟨a,k⟩ (za1 s m)<0)=>hkid (zaq w ⟨a,k⟩ (nmV w ⟨a,k⟩ (za1 s m))) [40,44,44] ((m+zbg (s.drop m):Nat):Int) (by have:=(hA3 _ _ ht (zeM h)).1;simp;omega) (by simp) (hA3 _ _ ht (zeM h)).2 (zgA (a:=(m:Int)) (by omega) (by omega));have he1:EndIn s (kidV (zaw w s n) s [⟨a,k⟩,⟨a,k⟩] [40,124] (m:Int)).2:=zhK (zf7 n) hb;have he3:EndIn s (kidV (zaw w s n) s (zaq w ⟨a,k⟩ (nmV w ⟨a,k⟩ (za1 s m))) [40,44,44] ((m+zbg (s.drop m):Nat):Int)).2:=zhK (zf7 n) (zgA (a:=(m:Int)) (by omega) (by omega));have hnl:=zhO (s.drop m);rw[List.length_drop] at hnl;have q0:=ztn (w:=w) (t:=⟨a,k⟩) (n:=n) hm;have q1:=ztp (w:=w) (t:=⟨a,k⟩) (n:=n) hm;have q2:=zud (w:=w) (t:=⟨a,k⟩) (n:=n) hm;have q3:=ztq (w:=w) (t:=⟨a,k⟩) (n:=n) hm;have q4:=zto (w:=w) (t:=⟨a,k⟩) (n:=n) hm;unfold conP at q4;have hag:=fun(h:¬nmV w ⟨a,k⟩ (za1 s m)<0)=>zcU hw ht (zeM h);have hnm:=zhs hw ht (s:=za1 s m);generalize hK1:kidV (zaw w s n) s [⟨a,k⟩,⟨a,k⟩] [40,124] (m:Int)=K1 at *;generalize hK2:kidV (zaw w s n) s [⟨a,k⟩] [64] ((m:Int)+1)=K2 at *;generalize hK3:kidV (zaw w s n) s (zaq w ⟨a,k⟩ (nmV w ⟨a,k⟩ (za1 s m))) [40,44,44] ((m+zbg (s.drop m):Nat):Int)=K3 at *;clear hK1 hK2 hK3 hkid;generalize nmV w ⟨a,k⟩ (za1 s m)=cc at *;generalize zaq w ⟨a,k⟩ cc=ts at *;generalize zaw w s (n+1) ⟨a,k⟩ (m:Int)=R at *;have q2a:=fun(h:((nth s m).toNat:Int)=40) (hs:za4 s K1.2 41=true)=>(q2 h).trans (if_pos hs);have q2b:=fun(h:((nth s m).toNat:Int)=40) (hs:za4 s K1.2 41=false)=>(q2 h).trans (if_neg (by rw[hs];simp));have q3a:=fun(h:97<=((nth s m).toNat:Int)) (h':((nth s m).toNat:Int)<=122) (hs:za4 s ((m:Int)+1) 64=true)=>(q3 h h').trans (if_pos hs);have q3b:=fun(h:97<=((nth s m).toNat:Int)) (h':((nth s m).toNat:Int)<=122) (hs:za4 s ((m:Int)+1) 64=false)=>(q3 h h').trans (if_neg (by rw[hs];simp));have q4a:=fun a1 a2 a3 a4 (hs:cc<0)=>(q4 a1 a2 a3 a4).trans (if_pos hs);have q4b:=fun a1 a2 a3 a4 (hs:¬cc<0) (h0:ts.length=0)=>((q4 a1 a2 a3 a4).trans (if_neg hs)).trans (if_pos h0);have q4c:=fun a1 a2 a3 a4 (hs:¬cc<0) (h0:¬ts.length=0) (h9:za4 s K3.2 41=true)=>(((q4 a1 a2 a3 a4).trans (if_neg hs)).trans (if_neg h0)).trans (if_pos h9);have q4d:=fun a1 a2 a3 a4 (hs:¬cc<0) (h0:¬ts.length=0) (h9:za4 s K3.2 41=false)=>(((q4 a1 a2 a3 a4).trans (if_neg hs)).trans (if_neg h0)).trans (if_neg (by rw[h9];simp));clear q2 q3 q4;obtain⟨he1a,he1b⟩:=he1;obtain⟨he3a,he3b⟩:=he3;refine bd Tryz.f229 172 [110,123] [] fun w0 F0 own kept hk=>?_;refine bx 3006 ?_;refine ab 3010 tz74 ?_;refine evs [110,123] [] ?_;refine sq ?_ ?_<;>intro h1 h1p h1s<;>(try simp only[Q,Int.natCast_inj,xac] at h1p);refine sqT ?_;refine sqT ?_;focus (exfalso;first|omega|(simp at HP;done))
  refine sq ?_ ?_<;>intro h3 h3p h3s<;>(try simp only[Q,Int.natCast_inj,xac] at h3p);refine sqT ?_;focus (exfalso;first|omega|(simp at HP;done))
  refine sq ?_ ?_<;>intro h5 h5p h5s<;>(try simp only[Q,Int.natCast_inj,xac] at h5p);focus (exfalso;first|omega|(simp at h5p;done))
  refine xaR un9 .none rfl rfl rfl rfl (zaZ (by omega)) ?_;refine evs [110,123] [] ?_;refine sq ?_ ?_<;>intro h6 h6p h6s<;>(try simp only[Q,Int.natCast_inj,xac] at h6p);refine bu [0] [_] st74 ?_;refine evs [110,123] [] ?_;refine ar ?_;refine so ty74 ?_;refine evs [110,123] [] ?_;refine rn0 (.cons (.cellA ty74 rfl rfl rfl) (.cons (.tmp rfl) .nil)) (.tup (.cons (.agg (.cons (.eqd ?_) (.cons (.eqd ?_) (.cons (.eqd ?_) (.cons (.eqd ?_) (.cons (.eqd ?_) (.cons (.nild ?_) .nil))))))) (.cons (.eqd ?_) .nil)));rotate_left 7;refine sq ?_ ?_<;>intro h7 h7p h7s<;>(try simp only[Q,Int.natCast_inj,xac] at h7p);refine sq ?_ ?_<;>intro h8 h8p h8s<;>(try simp only[Q,Int.natCast_inj,xac] at h8p);refine wc zsV (zmI hsl hm (zoZ (by omega) (by omega))) rfl rfl ?_;refine evs [110,123] [] ?_;refine so ty74 ?_;refine evs [110,123] [] ?_;refine rn0 (.cons (.cellA ty74 rfl rfl rfl) (.cons (.tmp rfl) .nil)) (.tup (.cons (.agg (.cons (.eqd ?_) (.cons (.eqd ?_) (.cons (.eqd ?_) (.cons (.eqd ?_) (.cons (.eqd ?_) (.cons (.eqd ?_) .nil))))))) (.cons (.eqd ?_) .nil)));rotate_left 7;refine sq ?_ ?_<;>intro h9 h9p h9s<;>(try simp only[Q,Int.natCast_inj,xac] at h9p);refine si [0,1] [_,_] zax tz29 ?_;refine si [0,1] [_,_] sl22 tz5 ?_;refine evs [110,123] [] ?_;refine ar ?_;refine wc zco (hk1) rfl rfl ?_;refine evs [110,123] [] ?_;refine wc zbN (zaG (s:=s) (a:=K1.2) (c:=41) hsl) rfl rfl ?_;refine evs [110,123] [] ?_;refine sq ?_ ?_<;>intro h10 h10p h10s<;>(try simp only[Q,Int.natCast_inj,xac] at h10p);refine bu [] [] st74 ?_;refine so ty74 ?_;refine evs [110,123] [] ?_;refine rn0 (.cons (.cellA ty74 rfl rfl rfl) (.cons (.tmp rfl) .nil)) (.tup (.cons (.agg (.cons (.eqd ?_) (.cons (.eqd ?_) (.cons (.eqd ?_) (.cons (.eqd ?_) (.cons (.eqd ?_) (.cons (.nild ?_) .nil))))))) (.cons (.eqd ?_) .nil)));rotate_left 7;refine bu [0,5] [_,_] st74 ?_;refine evs [110,123] [] ?_;refine ar ?_;refine so ty74 ?_;refine evs [110,123] [] ?_;refine rn0 (.cons (.cellA ty74 rfl rfl rfl) (.cons (.tmp rfl) .nil)) (.tup (.cons (.agg (.cons (.eqd ?_) (.cons (.eqd ?_) (.cons (.eqd ?_) (.cons (.eqd ?_) (.cons (.eqd ?_) (.cons (.eqd ?_) .nil))))))) (.cons (.eqd ?_) .nil)));rotate_left 7;refine sq ?_ ?_<;>intro h11 h11p h11s<;>(try simp only[Q,Int.natCast_inj,xac] at h11p);refine sq ?_ ?_<;>intro h12 h12p h12s<;>(try simp only[Q,Int.natCast_inj,xac] at h12p);refine ar ?_;refine Walk.call (cr:=[]) zbN (zaG (s:=s) (a:=(m:Int)+1) (c:=64) hsl) rfl (.some rfl rfl h12) rfl rfl (LeL.refl _) trivial rfl rfl rfl ?_;refine evs [110,123] [(90,true)] ?_ ⟨⟨_,rfl,h12⟩,trivial⟩;refine sq ?_ ?_<;>intro h13 h13p h13s<;>(try simp only[Q,Int.natCast_inj,xac] at h13p);refine si [0] [_] zax tz29 ?_;refine si [0] [_] sl22 tz5 ?_;refine evs [110,123] [] ?_;refine ar ?_;refine ar ?_;refine wc zco (hk2 ⟨by omega,by omega⟩) rfl rfl ?_;refine evs [110,123] [] ?_;refine xbc .none rfl rfl rfl ?_;refine xaH (by rw[un5];rfl) un3 .none rfl rfl ?_;refine evs [110,123] [] ?_;refine bu [0,4,5] [_,_,_] st74 ?_;refine evs [110,123] [] ?_;refine so ty74 ?_;refine evs [110,123] [] ?_;refine rn0 (.cons (.cellA ty74 rfl rfl rfl) (.cons (.tmp rfl) .nil)) (.tup (.cons (.agg (.cons (.eqd ?_) (.cons (.eqd ?_) (.cons (.eqd ?_) (.cons (.eqd ?_) (.cons (.eqd ?_) (.cons (.eqd ?_) .nil))))))) (.cons (.eqd ?_) .nil)));rotate_left 7;refine sq ?_ ?_<;>intro h14 h14p h14s<;>(try simp only[Q,Int.natCast_inj,xac] at h14p);refine sq ?_ ?_<;>intro h15 h15p h15s<;>(try simp only[Q,Int.natCast_inj,xac] at h15p);refine xbc .none rfl rfl rfl ?_;refine xaH (by rw[un5];rfl) un3 .none rfl rfl ?_;refine bu [0,4] [_,_] st74 ?_;refine evs [110,123] [] ?_;refine ar ?_;refine so ty74 ?_;refine evs [110,123] [] ?_;refine rn0 (.cons (.cellA ty74 rfl rfl rfl) (.cons (.tmp rfl) .nil)) (.tup (.cons (.agg (.cons (.eqd ?_) (.cons (.eqd ?_) (.cons (.eqd ?_) (.cons (.eqd ?_) (.cons (.eqd ?_) (.cons (.nild ?_) .nil))))))) (.cons (.eqd ?_) .nil)));rotate_left 7;refine wc zcp (zaU (s:=s) (n:=m) hsl (by omega)) rfl rfl ?_;refine evs [110,123] [] ?_;refine wc zcq (hnm) rfl rfl ?_;refine evs [110,123] [] ?_;refine sq ?_ ?_<;>intro h16 h16p h16s<;>(try simp only[Q,Int.natCast_inj,xac] at h16p);refine bu [] [] st74 ?_;refine so ty74 ?_;refine evs [110,123] [] ?_;refine rn0 (.cons (.cellA ty74 rfl rfl rfl) (.cons (.tmp rfl) .nil)) (.tup (.cons (.agg (.cons (.eqd ?_) (.cons (.eqd ?_) (.cons (.eqd ?_) (.cons (.eqd ?_) (.cons (.eqd ?_) (.cons (.nild ?_) .nil))))))) (.cons (.eqd ?_) .nil)));rotate_left 7;refine wc zbT (hag (by omega)) rfl rfl ?_;refine evs [110,123] [] ?_;refine si [0,1,2] [_,_,_] sl22 tz5 ?_;refine evs [110,123] [] ?_;refine ar ?_;refine wc zco (hk3 (by omega)) rfl rfl ?_;refine evs [110,123] [] ?_;refine bu [0,1,5] [_,_,_] st74 ?_;refine ab 3023 tz74 ?_;refine so ty74 ?_;refine tv ?_;refine sq ?_ ?_<;>intro h17 h17p h17s<;>(try simp only[Q,Int.natCast_inj,xac] at h17p);refine so ty74 ?_;refine evs [110,123] [] ?_;refine rn0 (.cons (.cellA ty74 rfl rfl rfl) (.cons (.tmp rfl) .nil)) (.tup (.cons (.agg (.cons (.eqd ?_) (.cons (.eqd ?_) (.cons (.eqd ?_) (.cons (.eqd ?_) (.cons (.eqd ?_) (.cons (.eqd ?_) .nil))))))) (.cons (.eqd ?_) .nil)));rotate_left 7;refine wc zbN (zaG (s:=s) (a:=K3.2) (c:=41) hsl) rfl rfl ?_;refine evs [110,123] [] ?_;refine sq ?_ ?_<;>intro h18 h18p h18s<;>(try simp only[Q,Int.natCast_inj,xac] at h18p);refine bu [] [] st74 ?_;refine so ty74 ?_;refine evs [110,123] [] ?_;refine rn0 (.cons (.cellA ty74 rfl rfl rfl) (.cons (.tmp rfl) .nil)) (.tup (.cons (.agg (.cons (.eqd ?_) (.cons (.eqd ?_) (.cons (.eqd ?_) (.cons (.eqd ?_) (.cons (.eqd ?_) (.cons (.nild ?_) .nil))))))) (.cons (.eqd ?_) .nil)));rotate_left 7;refine ar ?_;refine so ty74 ?_;refine evs [110,123] [] ?_;refine rn0 (.cons (.cellA ty74 rfl rfl rfl) (.cons (.tmp rfl) .nil)) (.tup (.cons (.agg (.cons (.eqd ?_) (.cons (.eqd ?_) (.cons (.eqd ?_) (.cons (.eqd ?_) (.cons (.eqd ?_) (.cons (.eqd ?_) .nil))))))) (.cons (.eqd ?_) .nil)));rotate_left 7;refine sqF ?_;refine wc zcp (zaU (s:=s) (n:=m) hsl (by omega)) rfl rfl ?_;refine evs [110,123] [] ?_;refine wc zcq (hnm) rfl rfl ?_;refine evs [110,123] [] ?_;refine sq ?_ ?_<;>intro h20 h20p h20s<;>(try simp only[Q,Int.natCast_inj,xac] at h20p);refine bu [] [] st74 ?_;refine so ty74 ?_;refine evs [110,123] [] ?_;refine rn0 (.cons (.cellA ty74 rfl rfl rfl) (.cons (.tmp rfl) .nil)) (.tup (.cons (.agg (.cons (.eqd ?_) (.cons (.eqd ?_) (.cons (.eqd ?_) (.cons (.eqd ?_) (.cons (.eqd ?_) (.cons (.nild ?_) .nil))))))) (.cons (.eqd ?_) .nil)));rotate_left 7;refine wc zbT (hag (by omega)) rfl rfl ?_;refine evs [110,123] [] ?_;refine si [0,1,2] [_,_,_] sl22 tz5 ?_;refine evs [110,123] [] ?_;refine ar ?_;refine wc zco (hk3 (by omega)) rfl rfl ?_;refine evs [110,123] [] ?_;refine bu [0,1,5] [_,_,_] st74 ?_;refine ab 3023 tz74 ?_;refine so ty74 ?_;refine tv ?_;refine sq ?_ ?_<;>intro h21 h21p h21s<;>(try simp only[Q,Int.natCast_inj,xac] at h21p);refine so ty74 ?_;refine evs [110,123] [] ?_;refine rn0 (.cons (.cellA ty74 rfl rfl rfl) (.cons (.tmp rfl) .nil)) (.tup (.cons (.agg (.cons (.eqd ?_) (.cons (.eqd ?_) (.cons (.eqd ?_) (.cons (.eqd ?_) (.cons (.eqd ?_) (.cons (.eqd ?_) .nil))))))) (.cons (.eqd ?_) .nil)));rotate_left 7;refine wc zbN (zaG (s:=s) (a:=K3.2) (c:=41) hsl) rfl rfl ?_;refine evs [110,123] [] ?_;refine sq ?_ ?_<;>intro h22 h22p h22s<;>(try simp only[Q,Int.natCast_inj,xac] at h22p);refine bu [] [] st74 ?_;refine so ty74 ?_;refine evs [110,123] [] ?_;refine rn0 (.cons (.cellA ty74 rfl rfl rfl) (.cons (.tmp rfl) .nil)) (.tup (.cons (.agg (.cons (.eqd ?_) (.cons (.eqd ?_) (.cons (.eqd ?_) (.cons (.eqd ?_) (.cons (.eqd ?_) (.cons (.nild ?_) .nil))))))) (.cons (.eqd ?_) .nil)));rotate_left 7;refine ar ?_;refine so ty74 ?_;refine evs [110,123] [] ?_;refine rn0 (.cons (.cellA ty74 rfl rfl rfl) (.cons (.tmp rfl) .nil)) (.tup (.cons (.agg (.cons (.eqd ?_) (.cons (.eqd ?_) (.cons (.eqd ?_) (.cons (.eqd ?_) (.cons (.eqd ?_) (.cons (.eqd ?_) .nil))))))) (.cons (.eqd ?_) .nil)));rotate_left 7;refine sqF ?_;refine sq ?_ ?_<;>intro h24 h24p h24s<;>(try simp only[Q,Int.natCast_inj,xac] at h24p);refine sq ?_ ?_<;>intro h25 h25p h25s<;>(try simp only[Q,Int.natCast_inj,xac] at h25p);refine xbc .none rfl rfl rfl ?_;refine xaH (by rw[un5];rfl) un3 .none rfl rfl ?_;refine bu [0,4] [_,_] st74 ?_;refine evs [110,123] [] ?_;refine ar ?_;refine so ty74 ?_;refine evs [110,123] [] ?_;refine rn0 (.cons (.cellA ty74 rfl rfl rfl) (.cons (.tmp rfl) .nil)) (.tup (.cons (.agg (.cons (.eqd ?_) (.cons (.eqd ?_) (.cons (.eqd ?_) (.cons (.eqd ?_) (.cons (.eqd ?_) (.cons (.nild ?_) .nil))))))) (.cons (.eqd ?_) .nil)));rotate_left 7;refine wc zcp (zaU (s:=s) (n:=m) hsl (by omega)) rfl rfl ?_;refine evs [110,123] [] ?_;refine wc zcq (hnm) rfl rfl ?_;refine evs [110,123] [] ?_;refine sq ?_ ?_<;>intro h26 h26p h26s<;>(try simp only[Q,Int.natCast_inj,xac] at h26p);refine bu [] [] st74 ?_;refine so ty74 ?_;refine evs [110,123] [] ?_;refine rn0 (.cons (.cellA ty74 rfl rfl rfl) (.cons (.tmp rfl) .nil)) (.tup (.cons (.agg (.cons (.eqd ?_) (.cons (.eqd ?_) (.cons (.eqd ?_) (.cons (.eqd ?_) (.cons (.eqd ?_) (.cons (.nild ?_) .nil))))))) (.cons (.eqd ?_) .nil)));rotate_left 7;refine wc zbT (hag (by omega)) rfl rfl ?_;refine evs [110,123] [] ?_;refine si [0,1,2] [_,_,_] sl22 tz5 ?_;refine evs [110,123] [] ?_;refine ar ?_;refine wc zco (hk3 (by omega)) rfl rfl ?_;refine evs [110,123] [] ?_;refine bu [0,1,5] [_,_,_] st74 ?_;refine ab 3023 tz74 ?_;refine so ty74 ?_;refine tv ?_;refine sq ?_ ?_<;>intro h27 h27p h27s<;>(try simp only[Q,Int.natCast_inj,xac] at h27p);refine so ty74 ?_;refine evs [110,123] [] ?_;refine rn0 (.cons (.cellA ty74 rfl rfl rfl) (.cons (.tmp rfl) .nil)) (.tup (.cons (.agg (.cons (.eqd ?_) (.cons (.eqd ?_) (.cons (.eqd ?_) (.cons (.eqd ?_) (.cons (.eqd ?_) (.cons (.eqd ?_) .nil))))))) (.cons (.eqd ?_) .nil)));rotate_left 7;refine wc zbN (zaG (s:=s) (a:=K3.2) (c:=41) hsl) rfl rfl ?_;refine evs [110,123] [] ?_;refine sq ?_ ?_<;>intro h28 h28p h28s<;>(try simp only[Q,Int.natCast_inj,xac] at h28p);refine bu [] [] st74 ?_;refine so ty74 ?_;refine evs [110,123] [] ?_;refine rn0 (.cons (.cellA ty74 rfl rfl rfl) (.cons (.tmp rfl) .nil)) (.tup (.cons (.agg (.cons (.eqd ?_) (.cons (.eqd ?_) (.cons (.eqd ?_) (.cons (.eqd ?_) (.cons (.eqd ?_) (.cons (.nild ?_) .nil))))))) (.cons (.eqd ?_) .nil)));rotate_left 7;refine ar ?_;refine so ty74 ?_;refine evs [110,123] [] ?_;refine rn0 (.cons (.cellA ty74 rfl rfl rfl) (.cons (.tmp rfl) .nil)) (.tup (.cons (.agg (.cons (.eqd ?_) (.cons (.eqd ?_) (.cons (.eqd ?_) (.cons (.eqd ?_) (.cons (.eqd ?_) (.cons (.eqd ?_) .nil))))))) (.cons (.eqd ?_) .nil)));rotate_left 7;refine sqF ?_;refine wc zcp (zaU (s:=s) (n:=m) hsl (by omega)) rfl rfl ?_;refine evs [110,123] [] ?_;refine wc zcq (hnm) rfl rfl ?_;refine evs [110,123] [] ?_;refine sq ?_ ?_<;>intro h30 h30p h30s<;>(try simp only[Q,Int.natCast_inj,xac] at h30p);refine bu [] [] st74 ?_;refine so ty74 ?_;refine evs [110,123] [] ?_;refine rn0 (.cons (.cellA ty74 rfl rfl rfl) (.cons (.tmp rfl) .nil)) (.tup (.cons (.agg (.cons (.eqd ?_) (.cons (.eqd ?_) (.cons (.eqd ?_) (.cons (.eqd ?_) (.cons (.eqd ?_) (.cons (.nild ?_) .nil))))))) (.cons (.eqd ?_) .nil)));rotate_left 7;refine wc zbT (hag (by omega)) rfl rfl ?_;refine evs [110,123] [] ?_;refine si [0,1,2] [_,_,_] sl22 tz5 ?_;refine evs [110,123] [] ?_;refine ar ?_;refine wc zco (hk3 (by omega)) rfl rfl ?_;refine evs [110,123] [] ?_;refine bu [0,1,5] [_,_,_] st74 ?_;refine ab 3023 tz74 ?_;refine so ty74 ?_;refine tv ?_;refine sq ?_ ?_<;>intro h31 h31p h31s<;>(try simp only[Q,Int.natCast_inj,xac] at h31p);refine so ty74 ?_;refine evs [110,123] [] ?_;refine rn0 (.cons (.cellA ty74 rfl rfl rfl) (.cons (.tmp rfl) .nil)) (.tup (.cons (.agg (.cons (.eqd ?_) (.cons (.eqd ?_) (.cons (.eqd ?_) (.cons (.eqd ?_) (.cons (.eqd ?_) (.cons (.eqd ?_) .nil))))))) (.cons (.eqd ?_) .nil)));rotate_left 7;refine wc zbN (zaG (s:=s) (a:=K3.2) (c:=41) hsl) rfl rfl ?_;refine evs [110,123] [] ?_;refine sq ?_ ?_<;>intro h32 h32p h32s<;>(try simp only[Q,Int.natCast_inj,xac] at h32p);refine bu [] [] st74 ?_;refine so ty74 ?_;refine evs [110,123] [] ?_;refine rn0 (.cons (.cellA ty74 rfl rfl rfl) (.cons (.tmp rfl) .nil)) (.tup (.cons (.agg (.cons (.eqd ?_) (.cons (.eqd ?_) (.cons (.eqd ?_) (.cons (.eqd ?_) (.cons (.eqd ?_) (.cons (.nild ?_) .nil))))))) (.cons (.eqd ?_) .nil)));rotate_left 7;refine ar ?_;refine so ty74 ?_;refine evs [110,123] [] ?_;refine rn0 (.cons (.cellA ty74 rfl rfl rfl) (.cons (.tmp rfl) .nil)) (.tup (.cons (.agg (.cons (.eqd ?_) (.cons (.eqd ?_) (.cons (.eqd ?_) (.cons (.eqd ?_) (.cons (.eqd ?_) (.cons (.eqd ?_) .nil))))))) (.cons (.eqd ?_) .nil)));rotate_left 7;refine sqF ?_;refine sqF ?_;refine sq ?_ ?_<;>intro h34 h34p h34s<;>(try simp only[Q,Int.natCast_inj,xac] at h34p);refine sq ?_ ?_<;>intro h35 h35p h35s<;>(try simp only[Q,Int.natCast_inj,xac] at h35p);refine xbc .none rfl rfl rfl ?_;refine xaH (by rw[un5];rfl) un3 .none rfl rfl ?_;refine bu [0,4] [_,_] st74 ?_;refine evs [110,123] [] ?_;refine ar ?_;refine so ty74 ?_;refine evs [110,123] [] ?_;refine rn0 (.cons (.cellA ty74 rfl rfl rfl) (.cons (.tmp rfl) .nil)) (.tup (.cons (.agg (.cons (.eqd ?_) (.cons (.eqd ?_) (.cons (.eqd ?_) (.cons (.eqd ?_) (.cons (.eqd ?_) (.cons (.nild ?_) .nil))))))) (.cons (.eqd ?_) .nil)));rotate_left 7;refine wc zcp (zaU (s:=s) (n:=m) hsl (by omega)) rfl rfl ?_;refine evs [110,123] [] ?_;refine wc zcq (hnm) rfl rfl ?_;refine evs [110,123] [] ?_;refine sq ?_ ?_<;>intro h36 h36p h36s<;>(try simp only[Q,Int.natCast_inj,xac] at h36p);refine bu [] [] st74 ?_;refine so ty74 ?_;refine evs [110,123] [] ?_;refine rn0 (.cons (.cellA ty74 rfl rfl rfl) (.cons (.tmp rfl) .nil)) (.tup (.cons (.agg (.cons (.eqd ?_) (.cons (.eqd ?_) (.cons (.eqd ?_) (.cons (.eqd ?_) (.cons (.eqd ?_) (.cons (.nild ?_) .nil))))))) (.cons (.eqd ?_) .nil)));rotate_left 7;refine wc zbT (hag (by omega)) rfl rfl ?_;refine evs [110,123] [] ?_;refine si [0,1,2] [_,_,_] sl22 tz5 ?_;refine evs [110,123] [] ?_;refine ar ?_;refine wc zco (hk3 (by omega)) rfl rfl ?_;refine evs [110,123] [] ?_;refine bu [0,1,5] [_,_,_] st74 ?_;refine ab 3023 tz74 ?_;refine so ty74 ?_;refine tv ?_;refine sq ?_ ?_<;>intro h37 h37p h37s<;>(try simp only[Q,Int.natCast_inj,xac] at h37p);refine so ty74 ?_;refine evs [110,123] [] ?_;refine rn0 (.cons (.cellA ty74 rfl rfl rfl) (.cons (.tmp rfl) .nil)) (.tup (.cons (.agg (.cons (.eqd ?_) (.cons (.eqd ?_) (.cons (.eqd ?_) (.cons (.eqd ?_) (.cons (.eqd ?_) (.cons (.eqd ?_) .nil))))))) (.cons (.eqd ?_) .nil)));rotate_left 7;refine wc zbN (zaG (s:=s) (a:=K3.2) (c:=41) hsl) rfl rfl ?_;refine evs [110,123] [] ?_;refine sq ?_ ?_<;>intro h38 h38p h38s<;>(try simp only[Q,Int.natCast_inj,xac] at h38p);refine bu [] [] st74 ?_;refine so ty74 ?_;refine evs [110,123] [] ?_;refine rn0 (.cons (.cellA ty74 rfl rfl rfl) (.cons (.tmp rfl) .nil)) (.tup (.cons (.agg (.cons (.eqd ?_) (.cons (.eqd ?_) (.cons (.eqd ?_) (.cons (.eqd ?_) (.cons (.eqd ?_) (.cons (.nild ?_) .nil))))))) (.cons (.eqd ?_) .nil)));rotate_left 7;refine ar ?_;refine so ty74 ?_;refine evs [110,123] [] ?_;refine rn0 (.cons (.cellA ty74 rfl rfl rfl) (.cons (.tmp rfl) .nil)) (.tup (.cons (.agg (.cons (.eqd ?_) (.cons (.eqd ?_) (.cons (.eqd ?_) (.cons (.eqd ?_) (.cons (.eqd ?_) (.cons (.eqd ?_) .nil))))))) (.cons (.eqd ?_) .nil)));rotate_left 7;refine sqF ?_;refine wc zcp (zaU (s:=s) (n:=m) hsl (by omega)) rfl rfl ?_;refine evs [110,123] [] ?_;refine wc zcq (hnm) rfl rfl ?_;refine evs [110,123] [] ?_;refine sq ?_ ?_<;>intro h40 h40p h40s<;>(try simp only[Q,Int.natCast_inj,xac] at h40p);refine bu [] [] st74 ?_;refine so ty74 ?_;refine evs [110,123] [] ?_;refine rn0 (.cons (.cellA ty74 rfl rfl rfl) (.cons (.tmp rfl) .nil)) (.tup (.cons (.agg (.cons (.eqd ?_) (.cons (.eqd ?_) (.cons (.eqd ?_) (.cons (.eqd ?_) (.cons (.eqd ?_) (.cons (.nild ?_) .nil))))))) (.cons (.eqd ?_) .nil)));rotate_left 7;refine wc zbT (hag (by omega)) rfl rfl ?_;refine evs [110,123] [] ?_;refine si [0,1,2] [_,_,_] sl22 tz5 ?_;refine evs [110,123] [] ?_;refine ar ?_;refine wc zco (hk3 (by omega)) rfl rfl ?_;refine evs [110,123] [] ?_;refine bu [0,1,5] [_,_,_] st74 ?_;refine ab 3023 tz74 ?_;refine so ty74 ?_;refine tv ?_;refine sq ?_ ?_<;>intro h41 h41p h41s<;>(try simp only[Q,Int.natCast_inj,xac] at h41p);refine so ty74 ?_;refine evs [110,123] [] ?_;refine rn0 (.cons (.cellA ty74 rfl rfl rfl) (.cons (.tmp rfl) .nil)) (.tup (.cons (.agg (.cons (.eqd ?_) (.cons (.eqd ?_) (.cons (.eqd ?_) (.cons (.eqd ?_) (.cons (.eqd ?_) (.cons (.eqd ?_) .nil))))))) (.cons (.eqd ?_) .nil)));rotate_left 7;refine wc zbN (zaG (s:=s) (a:=K3.2) (c:=41) hsl) rfl rfl ?_;refine evs [110,123] [] ?_;refine sq ?_ ?_<;>intro h42 h42p h42s<;>(try simp only[Q,Int.natCast_inj,xac] at h42p);refine bu [] [] st74 ?_;refine so ty74 ?_;refine evs [110,123] [] ?_;refine rn0 (.cons (.cellA ty74 rfl rfl rfl) (.cons (.tmp rfl) .nil)) (.tup (.cons (.agg (.cons (.eqd ?_) (.cons (.eqd ?_) (.cons (.eqd ?_) (.cons (.eqd ?_) (.cons (.eqd ?_) (.cons (.nild ?_) .nil))))))) (.cons (.eqd ?_) .nil)));rotate_left 7;refine ar ?_;refine so ty74 ?_;refine evs [110,123] [] ?_;refine rn0 (.cons (.cellA ty74 rfl rfl rfl) (.cons (.tmp rfl) .nil)) (.tup (.cons (.agg (.cons (.eqd ?_) (.cons (.eqd ?_) (.cons (.eqd ?_) (.cons (.eqd ?_) (.cons (.eqd ?_) (.cons (.eqd ?_) .nil))))))) (.cons (.eqd ?_) .nil)));rotate_left 7;refine sqF ?_;refine sq ?_ ?_<;>intro h44 h44p h44s<;>(try simp only[Q,Int.natCast_inj,xac] at h44p);refine si [0,1] [_,_] zax tz29 ?_;refine si [0,1] [_,_] sl22 tz5 ?_;refine evs [110,123] [] ?_;refine ar ?_;refine wc zco (hk1) rfl rfl ?_;refine evs [110,123] [] ?_;refine wc zbN (zaG (s:=s) (a:=K1.2) (c:=41) hsl) rfl rfl ?_;refine evs [110,123] [] ?_;refine sq ?_ ?_<;>intro h45 h45p h45s<;>(try simp only[Q,Int.natCast_inj,xac] at h45p);refine bu [] [] st74 ?_;refine so ty74 ?_;refine evs [110,123] [] ?_;refine rn0 (.cons (.cellA ty74 rfl rfl rfl) (.cons (.tmp rfl) .nil)) (.tup (.cons (.agg (.cons (.eqd ?_) (.cons (.eqd ?_) (.cons (.eqd ?_) (.cons (.eqd ?_) (.cons (.eqd ?_) (.cons (.nild ?_) .nil))))))) (.cons (.eqd ?_) .nil)));rotate_left 7;refine bu [0,5] [_,_] st74 ?_;refine evs [110,123] [] ?_;refine ar ?_;refine so ty74 ?_;refine evs [110,123] [] ?_;refine rn0 (.cons (.cellA ty74 rfl rfl rfl) (.cons (.tmp rfl) .nil)) (.tup (.cons (.agg (.cons (.eqd ?_) (.cons (.eqd ?_) (.cons (.eqd ?_) (.cons (.eqd ?_) (.cons (.eqd ?_) (.cons (.eqd ?_) .nil))))))) (.cons (.eqd ?_) .nil)));rotate_left 7;refine sq ?_ ?_<;>intro h46 h46p h46s<;>(try simp only[Q,Int.natCast_inj,xac] at h46p);refine sq ?_ ?_<;>intro h47 h47p h47s<;>(try simp only[Q,Int.natCast_inj,xac] at h47p);refine ar ?_;refine Walk.call (cr:=[]) zbN (zaG (s:=s) (a:=(m:Int)+1) (c:=64) hsl) rfl (.some rfl rfl h47) rfl rfl (LeL.refl _) trivial rfl rfl rfl ?_;refine evs [110,123] [(90,true)] ?_ ⟨⟨_,rfl,h47⟩,trivial⟩;refine sq ?_ ?_<;>intro h48 h48p h48s<;>(try simp only[Q,Int.natCast_inj,xac] at h48p);refine si [0] [_] zax tz29 ?_;refine si [0] [_] sl22 tz5 ?_;refine evs [110,123] [] ?_;refine ar ?_;refine ar ?_;refine wc zco (hk2 ⟨by omega,by omega⟩) rfl rfl ?_;refine evs [110,123] [] ?_;refine xbc .none rfl rfl rfl ?_;refine xaH (by rw[un5];rfl) un3 .none rfl rfl ?_;refine evs [110,123] [] ?_;refine bu [0,4,5] [_,_,_] st74 ?_;refine evs [110,123] [] ?_;refine so ty74 ?_;refine evs [110,123] [] ?_;refine rn0 (.cons (.cellA ty74 rfl rfl rfl) (.cons (.tmp rfl) .nil)) (.tup (.cons (.agg (.cons (.eqd ?_) (.cons (.eqd ?_) (.cons (.eqd ?_) (.cons (.eqd ?_) (.cons (.eqd ?_) (.cons (.eqd ?_) .nil))))))) (.cons (.eqd ?_) .nil)));rotate_left 7;refine sq ?_ ?_<;>intro h49 h49p h49s<;>(try simp only[Q,Int.natCast_inj,xac] at h49p);refine sq ?_ ?_<;>intro h50 h50p h50s<;>(try simp only[Q,Int.natCast_inj,xac] at h50p);refine xbc .none rfl rfl rfl ?_;refine xaH (by rw[un5];rfl) un3 .none rfl rfl ?_;refine bu [0,4] [_,_] st74 ?_;refine evs [110,123] [] ?_;refine ar ?_;refine so ty74 ?_;refine evs [110,123] [] ?_;refine rn0 (.cons (.cellA ty74 rfl rfl rfl) (.cons (.tmp rfl) .nil)) (.tup (.cons (.agg (.cons (.eqd ?_) (.cons (.eqd ?_) (.cons (.eqd ?_) (.cons (.eqd ?_) (.cons (.eqd ?_) (.cons (.nild ?_) .nil))))))) (.cons (.eqd ?_) .nil)));rotate_left 7;refine wc zcp (zaU (s:=s) (n:=m) hsl (by omega)) rfl rfl ?_;refine evs [110,123] [] ?_;refine wc zcq (hnm) rfl rfl ?_;refine evs [110,123] [] ?_;refine sq ?_ ?_<;>intro h51 h51p h51s<;>(try simp only[Q,Int.natCast_inj,xac] at h51p);refine bu [] [] st74 ?_;refine so ty74 ?_;refine evs [110,123] [] ?_;refine rn0 (.cons (.cellA ty74 rfl rfl rfl) (.cons (.tmp rfl) .nil)) (.tup (.cons (.agg (.cons (.eqd ?_) (.cons (.eqd ?_) (.cons (.eqd ?_) (.cons (.eqd ?_) (.cons (.eqd ?_) (.cons (.nild ?_) .nil))))))) (.cons (.eqd ?_) .nil)));rotate_left 7;refine wc zbT (hag (by omega)) rfl rfl ?_;refine evs [110,123] [] ?_;refine si [0,1,2] [_,_,_] sl22 tz5 ?_;refine evs [110,123] [] ?_;refine ar ?_;refine wc zco (hk3 (by omega)) rfl rfl ?_;refine evs [110,123] [] ?_;refine bu [0,1,5] [_,_,_] st74 ?_;refine ab 3023 tz74 ?_;refine so ty74 ?_;refine tv ?_;refine sq ?_ ?_<;>intro h52 h52p h52s<;>(try simp only[Q,Int.natCast_inj,xac] at h52p);refine so ty74 ?_;refine evs [110,123] [] ?_;refine rn0 (.cons (.cellA ty74 rfl rfl rfl) (.cons (.tmp rfl) .nil)) (.tup (.cons (.agg (.cons (.eqd ?_) (.cons (.eqd ?_) (.cons (.eqd ?_) (.cons (.eqd ?_) (.cons (.eqd ?_) (.cons (.eqd ?_) .nil))))))) (.cons (.eqd ?_) .nil)));rotate_left 7;refine wc zbN (zaG (s:=s) (a:=K3.2) (c:=41) hsl) rfl rfl ?_;refine evs [110,123] [] ?_;refine sq ?_ ?_<;>intro h53 h53p h53s<;>(try simp only[Q,Int.natCast_inj,xac] at h53p);refine bu [] [] st74 ?_;refine so ty74 ?_;refine evs [110,123] [] ?_;refine rn0 (.cons (.cellA ty74 rfl rfl rfl) (.cons (.tmp rfl) .nil)) (.tup (.cons (.agg (.cons (.eqd ?_) (.cons (.eqd ?_) (.cons (.eqd ?_) (.cons (.eqd ?_) (.cons (.eqd ?_) (.cons (.nild ?_) .nil))))))) (.cons (.eqd ?_) .nil)));rotate_left 7;refine ar ?_;refine so ty74 ?_;refine evs [110,123] [] ?_;refine rn0 (.cons (.cellA ty74 rfl rfl rfl) (.cons (.tmp rfl) .nil)) (.tup (.cons (.agg (.cons (.eqd ?_) (.cons (.eqd ?_) (.cons (.eqd ?_) (.cons (.eqd ?_) (.cons (.eqd ?_) (.cons (.eqd ?_) .nil))))))) (.cons (.eqd ?_) .nil)));rotate_left 7;refine sqF ?_;refine wc zcp (zaU (s:=s) (n:=m) hsl (by omega)) rfl rfl ?_;refine evs [110,123] [] ?_;refine wc zcq (hnm) rfl rfl ?_;refine evs [110,123] [] ?_;refine sq ?_ ?_<;>intro h55 h55p h55s<;>(try simp only[Q,Int.natCast_inj,xac] at h55p);refine bu [] [] st74 ?_;refine so ty74 ?_;refine evs [110,123] [] ?_;refine rn0 (.cons (.cellA ty74 rfl rfl rfl) (.cons (.tmp rfl) .nil)) (.tup (.cons (.agg (.cons (.eqd ?_) (.cons (.eqd ?_) (.cons (.eqd ?_) (.cons (.eqd ?_) (.cons (.eqd ?_) (.cons (.nild ?_) .nil))))))) (.cons (.eqd ?_) .nil)));rotate_left 7;refine wc zbT (hag (by omega)) rfl rfl ?_;refine evs [110,123] [] ?_;refine si [0,1,2] [_,_,_] sl22 tz5 ?_;refine evs [110,123] [] ?_;refine ar ?_;refine wc zco (hk3 (by omega)) rfl rfl ?_;refine evs [110,123] [] ?_;refine bu [0,1,5] [_,_,_] st74 ?_;refine ab 3023 tz74 ?_;refine so ty74 ?_;refine tv ?_;refine sq ?_ ?_<;>intro h56 h56p h56s<;>(try simp only[Q,Int.natCast_inj,xac] at h56p);refine so ty74 ?_;refine evs [110,123] [] ?_;refine rn0 (.cons (.cellA ty74 rfl rfl rfl) (.cons (.tmp rfl) .nil)) (.tup (.cons (.agg (.cons (.eqd ?_) (.cons (.eqd ?_) (.cons (.eqd ?_) (.cons (.eqd ?_) (.cons (.eqd ?_) (.cons (.eqd ?_) .nil))))))) (.cons (.eqd ?_) .nil)));rotate_left 7;refine wc zbN (zaG (s:=s) (a:=K3.2) (c:=41) hsl) rfl rfl ?_;refine evs [110,123] [] ?_;refine sq ?_ ?_<;>intro h57 h57p h57s<;>(try simp only[Q,Int.natCast_inj,xac] at h57p);refine bu [] [] st74 ?_;refine so ty74 ?_;refine evs [110,123] [] ?_;refine rn0 (.cons (.cellA ty74 rfl rfl rfl) (.cons (.tmp rfl) .nil)) (.tup (.cons (.agg (.cons (.eqd ?_) (.cons (.eqd ?_) (.cons (.eqd ?_) (.cons (.eqd ?_) (.cons (.eqd ?_) (.cons (.nild ?_) .nil))))))) (.cons (.eqd ?_) .nil)));rotate_left 7;refine ar ?_;refine so ty74 ?_;refine evs [110,123] [] ?_;refine rn0 (.cons (.cellA ty74 rfl rfl rfl) (.cons (.tmp rfl) .nil)) (.tup (.cons (.agg (.cons (.eqd ?_) (.cons (.eqd ?_) (.cons (.eqd ?_) (.cons (.eqd ?_) (.cons (.eqd ?_) (.cons (.eqd ?_) .nil))))))) (.cons (.eqd ?_) .nil)));rotate_left 7;refine sqF ?_;refine sq ?_ ?_<;>intro h59 h59p h59s<;>(try simp only[Q,Int.natCast_inj,xac] at h59p);refine sq ?_ ?_<;>intro h60 h60p h60s<;>(try simp only[Q,Int.natCast_inj,xac] at h60p);refine xbc .none rfl rfl rfl ?_;refine xaH (by rw[un5];rfl) un3 .none rfl rfl ?_;refine bu [0,4] [_,_] st74 ?_;refine evs [110,123] [] ?_;refine ar ?_;refine so ty74 ?_;refine evs [110,123] [] ?_;refine rn0 (.cons (.cellA ty74 rfl rfl rfl) (.cons (.tmp rfl) .nil)) (.tup (.cons (.agg (.cons (.eqd ?_) (.cons (.eqd ?_) (.cons (.eqd ?_) (.cons (.eqd ?_) (.cons (.eqd ?_) (.cons (.nild ?_) .nil))))))) (.cons (.eqd ?_) .nil)));rotate_left 7;refine wc zcp (zaU (s:=s) (n:=m) hsl (by omega)) rfl rfl ?_;refine evs [110,123] [] ?_;refine wc zcq (hnm) rfl rfl ?_;refine evs [110,123] [] ?_;refine sq ?_ ?_<;>intro h61 h61p h61s<;>(try simp only[Q,Int.natCast_inj,xac] at h61p);refine bu [] [] st74 ?_;refine so ty74 ?_;refine evs [110,123] [] ?_;refine rn0 (.cons (.cellA ty74 rfl rfl rfl) (.cons (.tmp rfl) .nil)) (.tup (.cons (.agg (.cons (.eqd ?_) (.cons (.eqd ?_) (.cons (.eqd ?_) (.cons (.eqd ?_) (.cons (.eqd ?_) (.cons (.nild ?_) .nil))))))) (.cons (.eqd ?_) .nil)));rotate_left 7;refine wc zbT (hag (by omega)) rfl rfl ?_;refine evs [110,123] [] ?_;refine si [0,1,2] [_,_,_] sl22 tz5 ?_;refine evs [110,123] [] ?_;refine ar ?_;refine wc zco (hk3 (by omega)) rfl rfl ?_;refine evs [110,123] [] ?_;refine bu [0,1,5] [_,_,_] st74 ?_;refine ab 3023 tz74 ?_;refine so ty74 ?_;refine tv ?_;refine sq ?_ ?_<;>intro h62 h62p h62s<;>(try simp only[Q,Int.natCast_inj,xac] at h62p);refine so ty74 ?_;refine evs [110,123] [] ?_;refine rn0 (.cons (.cellA ty74 rfl rfl rfl) (.cons (.tmp rfl) .nil)) (.tup (.cons (.agg (.cons (.eqd ?_) (.cons (.eqd ?_) (.cons (.eqd ?_) (.cons (.eqd ?_) (.cons (.eqd ?_) (.cons (.eqd ?_) .nil))))))) (.cons (.eqd ?_) .nil)));rotate_left 7;refine wc zbN (zaG (s:=s) (a:=K3.2) (c:=41) hsl) rfl rfl ?_;refine evs [110,123] [] ?_;refine sq ?_ ?_<;>intro h63 h63p h63s<;>(try simp only[Q,Int.natCast_inj,xac] at h63p);refine bu [] [] st74 ?_;refine so ty74 ?_;refine evs [110,123] [] ?_;refine rn0 (.cons (.cellA ty74 rfl rfl rfl) (.cons (.tmp rfl) .nil)) (.tup (.cons (.agg (.cons (.eqd ?_) (.cons (.eqd ?_) (.cons (.eqd ?_) (.cons (.eqd ?_) (.cons (.eqd ?_) (.cons (.nild ?_) .nil))))))) (.cons (.eqd ?_) .nil)));rotate_left 7;refine ar ?_;refine so ty74 ?_;refine evs [110,123] [] ?_;refine rn0 (.cons (.cellA ty74 rfl rfl rfl) (.cons (.tmp rfl) .nil)) (.tup (.cons (.agg (.cons (.eqd ?_) (.cons (.eqd ?_) (.cons (.eqd ?_) (.cons (.eqd ?_) (.cons (.eqd ?_) (.cons (.eqd ?_) .nil))))))) (.cons (.eqd ?_) .nil)));rotate_left 7;refine sqF ?_;refine wc zcp (zaU (s:=s) (n:=m) hsl (by omega)) rfl rfl ?_;refine evs [110,123] [] ?_;refine wc zcq (hnm) rfl rfl ?_;refine evs [110,123] [] ?_;refine sq ?_ ?_<;>intro h65 h65p h65s<;>(try simp only[Q,Int.natCast_inj,xac] at h65p);refine bu [] [] st74 ?_;refine so ty74 ?_;refine evs [110,123] [] ?_;refine rn0 (.cons (.cellA ty74 rfl rfl rfl) (.cons (.tmp rfl) .nil)) (.tup (.cons (.agg (.cons (.eqd ?_) (.cons (.eqd ?_) (.cons (.eqd ?_) (.cons (.eqd ?_) (.cons (.eqd ?_) (.cons (.nild ?_) .nil))))))) (.cons (.eqd ?_) .nil)));rotate_left 7;refine wc zbT (hag (by omega)) rfl rfl ?_;refine evs [110,123] [] ?_;refine si [0,1,2] [_,_,_] sl22 tz5 ?_;refine evs [110,123] [] ?_;refine ar ?_;refine wc zco (hk3 (by omega)) rfl rfl ?_;refine evs [110,123] [] ?_;refine bu [0,1,5] [_,_,_] st74 ?_;refine ab 3023 tz74 ?_;refine so ty74 ?_;refine tv ?_;refine sq ?_ ?_<;>intro h66 h66p h66s<;>(try simp only[Q,Int.natCast_inj,xac] at h66p);refine so ty74 ?_;refine evs [110,123] [] ?_;refine rn0 (.cons (.cellA ty74 rfl rfl rfl) (.cons (.tmp rfl) .nil)) (.tup (.cons (.agg (.cons (.eqd ?_) (.cons (.eqd ?_) (.cons (.eqd ?_) (.cons (.eqd ?_) (.cons (.eqd ?_) (.cons (.eqd ?_) .nil))))))) (.cons (.eqd ?_) .nil)));rotate_left 7;refine wc zbN (zaG (s:=s) (a:=K3.2) (c:=41) hsl) rfl rfl ?_;refine evs [110,123] [] ?_;refine sq ?_ ?_<;>intro h67 h67p h67s<;>(try simp only[Q,Int.natCast_inj,xac] at h67p);refine bu [] [] st74 ?_;refine so ty74 ?_;refine evs [110,123] [] ?_;refine rn0 (.cons (.cellA ty74 rfl rfl rfl) (.cons (.tmp rfl) .nil)) (.tup (.cons (.agg (.cons (.eqd ?_) (.cons (.eqd ?_) (.cons (.eqd ?_) (.cons (.eqd ?_) (.cons (.eqd ?_) (.cons (.nild ?_) .nil))))))) (.cons (.eqd ?_) .nil)));rotate_left 7;refine ar ?_;refine so ty74 ?_;refine evs [110,123] [] ?_;refine rn0 (.cons (.cellA ty74 rfl rfl rfl) (.cons (.tmp rfl) .nil)) (.tup (.cons (.agg (.cons (.eqd ?_) (.cons (.eqd ?_) (.cons (.eqd ?_) (.cons (.eqd ?_) (.cons (.eqd ?_) (.cons (.eqd ?_) .nil))))))) (.cons (.eqd ?_) .nil)));rotate_left 7;refine sqF ?_;refine sqF ?_;refine sq ?_ ?_<;>intro h69 h69p h69s<;>(try simp only[Q,Int.natCast_inj,xac] at h69p);refine sq ?_ ?_<;>intro h70 h70p h70s<;>(try simp only[Q,Int.natCast_inj,xac] at h70p);refine xbc .none rfl rfl rfl ?_;refine xaH (by rw[un5];rfl) un3 .none rfl rfl ?_;refine bu [0,4] [_,_] st74 ?_;refine evs [110,123] [] ?_;refine ar ?_;refine so ty74 ?_;refine evs [110,123] [] ?_;refine rn0 (.cons (.cellA ty74 rfl rfl rfl) (.cons (.tmp rfl) .nil)) (.tup (.cons (.agg (.cons (.eqd ?_) (.cons (.eqd ?_) (.cons (.eqd ?_) (.cons (.eqd ?_) (.cons (.eqd ?_) (.cons (.nild ?_) .nil))))))) (.cons (.eqd ?_) .nil)));rotate_left 7;refine wc zcp (zaU (s:=s) (n:=m) hsl (by omega)) rfl rfl ?_;refine evs [110,123] [] ?_;refine wc zcq (hnm) rfl rfl ?_;refine evs [110,123] [] ?_;refine sq ?_ ?_<;>intro h71 h71p h71s<;>(try simp only[Q,Int.natCast_inj,xac] at h71p);refine bu [] [] st74 ?_;refine so ty74 ?_;refine evs [110,123] [] ?_;refine rn0 (.cons (.cellA ty74 rfl rfl rfl) (.cons (.tmp rfl) .nil)) (.tup (.cons (.agg (.cons (.eqd ?_) (.cons (.eqd ?_) (.cons (.eqd ?_) (.cons (.eqd ?_) (.cons (.eqd ?_) (.cons (.nild ?_) .nil))))))) (.cons (.eqd ?_) .nil)));rotate_left 7;refine wc zbT (hag (by omega)) rfl rfl ?_;refine evs [110,123] [] ?_;refine si [0,1,2] [_,_,_] sl22 tz5 ?_;refine evs [110,123] [] ?_;refine ar ?_;refine wc zco (hk3 (by omega)) rfl rfl ?_;refine evs [110,123] [] ?_;refine bu [0,1,5] [_,_,_] st74 ?_;refine ab 3023 tz74 ?_;refine so ty74 ?_;refine tv ?_;refine sq ?_ ?_<;>intro h72 h72p h72s<;>(try simp only[Q,Int.natCast_inj,xac] at h72p);refine so ty74 ?_;refine evs [110,123] [] ?_;refine rn0 (.cons (.cellA ty74 rfl rfl rfl) (.cons (.tmp rfl) .nil)) (.tup (.cons (.agg (.cons (.eqd ?_) (.cons (.eqd ?_) (.cons (.eqd ?_) (.cons (.eqd ?_) (.cons (.eqd ?_) (.cons (.eqd ?_) .nil))))))) (.cons (.eqd ?_) .nil)));rotate_left 7;refine wc zbN (zaG (s:=s) (a:=K3.2) (c:=41) hsl) rfl rfl ?_;refine evs [110,123] [] ?_;refine sq ?_ ?_<;>intro h73 h73p h73s<;>(try simp only[Q,Int.natCast_inj,xac] at h73p);refine bu [] [] st74 ?_;refine so ty74 ?_;refine evs [110,123] [] ?_;refine rn0 (.cons (.cellA ty74 rfl rfl rfl) (.cons (.tmp rfl) .nil)) (.tup (.cons (.agg (.cons (.eqd ?_) (.cons (.eqd ?_) (.cons (.eqd ?_) (.cons (.eqd ?_) (.cons (.eqd ?_) (.cons (.nild ?_) .nil))))))) (.cons (.eqd ?_) .nil)));rotate_left 7;refine ar ?_;refine so ty74 ?_;refine evs [110,123] [] ?_;refine rn0 (.cons (.cellA ty74 rfl rfl rfl) (.cons (.tmp rfl) .nil)) (.tup (.cons (.agg (.cons (.eqd ?_) (.cons (.eqd ?_) (.cons (.eqd ?_) (.cons (.eqd ?_) (.cons (.eqd ?_) (.cons (.eqd ?_) .nil))))))) (.cons (.eqd ?_) .nil)));rotate_left 7;refine sqF ?_;refine wc zcp (zaU (s:=s) (n:=m) hsl (by omega)) rfl rfl ?_;refine evs [110,123] [] ?_;refine wc zcq (hnm) rfl rfl ?_;refine evs [110,123] [] ?_;refine sq ?_ ?_<;>intro h75 h75p h75s<;>(try simp only[Q,Int.natCast_inj,xac] at h75p);refine bu [] [] st74 ?_;refine so ty74 ?_;refine evs [110,123] [] ?_;refine rn0 (.cons (.cellA ty74 rfl rfl rfl) (.cons (.tmp rfl) .nil)) (.tup (.cons (.agg (.cons (.eqd ?_) (.cons (.eqd ?_) (.cons (.eqd ?_) (.cons (.eqd ?_) (.cons (.eqd ?_) (.cons (.nild ?_) .nil))))))) (.cons (.eqd ?_) .nil)));rotate_left 7;refine wc zbT (hag (by omega)) rfl rfl ?_;refine evs [110,123] [] ?_;refine si [0,1,2] [_,_,_] sl22 tz5 ?_;refine evs [110,123] [] ?_;refine ar ?_;refine wc zco (hk3 (by omega)) rfl rfl ?_;refine evs [110,123] [] ?_;refine bu [0,1,5] [_,_,_] st74 ?_;refine ab 3023 tz74 ?_;refine so ty74 ?_;refine tv ?_;refine sq ?_ ?_<;>intro h76 h76p h76s<;>(try simp only[Q,Int.natCast_inj,xac] at h76p);refine so ty74 ?_;refine evs [110,123] [] ?_;refine rn0 (.cons (.cellA ty74 rfl rfl rfl) (.cons (.tmp rfl) .nil)) (.tup (.cons (.agg (.cons (.eqd ?_) (.cons (.eqd ?_) (.cons (.eqd ?_) (.cons (.eqd ?_) (.cons (.eqd ?_) (.cons (.eqd ?_) .nil))))))) (.cons (.eqd ?_) .nil)));rotate_left 7;refine wc zbN (zaG (s:=s) (a:=K3.2) (c:=41) hsl) rfl rfl ?_;refine evs [110,123] [] ?_;refine sq ?_ ?_<;>intro h77 h77p h77s<;>(try simp only[Q,Int.natCast_inj,xac] at h77p);refine bu [] [] st74 ?_;refine so ty74 ?_;refine evs [110,123] [] ?_;refine rn0 (.cons (.cellA ty74 rfl rfl rfl) (.cons (.tmp rfl) .nil)) (.tup (.cons (.agg (.cons (.eqd ?_) (.cons (.eqd ?_) (.cons (.eqd ?_) (.cons (.eqd ?_) (.cons (.eqd ?_) (.cons (.nild ?_) .nil))))))) (.cons (.eqd ?_) .nil)));rotate_left 7;refine ar ?_;refine so ty74 ?_;refine evs [110,123] [] ?_;refine rn0 (.cons (.cellA ty74 rfl rfl rfl) (.cons (.tmp rfl) .nil)) (.tup (.cons (.agg (.cons (.eqd ?_) (.cons (.eqd ?_) (.cons (.eqd ?_) (.cons (.eqd ?_) (.cons (.eqd ?_) (.cons (.eqd ?_) .nil))))))) (.cons (.eqd ?_) .nil)));rotate_left 7;all_goals (first|(rw[q0 (by omega)];all_goals rfl)|(rw[q1 (by omega) (by omega)];done)|(rw[q1 (by omega) (by omega)];all_goals rfl)|(rw[q2a (by omega) (by assumption)];all_goals rfl)|(rw[q2b (by omega) (by assumption)];all_goals rfl)|(rw[q3a (by omega) (by omega) (by assumption)];all_goals first|(rw[zjR (by omega) (by omega)];all_goals rfl)|rfl)|(rw[q3b (by omega) (by omega) (by assumption)];all_goals first|(rw[zjR (by omega) (by omega)];all_goals rfl)|rfl)|(rw[q4a (by omega) (by omega) (by omega) (by omega) (by omega)];all_goals rfl)|(rw[q4b (by omega) (by omega) (by omega) (by omega) (by omega) (by omega)];all_goals rfl)|(rw[q4c (by omega) (by omega) (by omega) (by omega) (by omega) (by omega) (by assumption)];all_goals rfl)|(rw[q4d (by omega) (by omega) (by omega) (by omega) (by omega) (by omega) (by assumption)];all_goals rfl)|(exfalso;omega))
def letV (n:Int):Str:=strN [IntKind.u8.wrap (97+IntKind.u8.wrap n)]
theorem zd7 (n:Int):(letV n).length=1:=rfl
def zbE {α:Type} (f:Ty->α->Str):Bool->List Ty->List α->Str
 |b,t::ts,p::ps=>((if b=true then [40] else [44])++f t p)++zbE f false ts ps
 |_,_,_=>[]
theorem zh0 {α:Type} [Inhabited α]{f:Ty->α->Str}:∀(i:Nat){b:Bool}{ts:List Ty}{ks:List α},i<ts.length->i<ks.length->
  zbE f b (ts.take (i+1)) (ks.take (i+1))=zbE f b (ts.take i) (ks.take i)++((if b=true/\i=0 then [40] else [44])++f (nth ts i) (nth ks i))
 |_,_,[],_,h,_=>by simp at h
 |_,_,_::_,[],_,h=>by simp at h
 |0,b,t::ts,k::ks,_,_=>by
  simp only[List.take_succ_cons,List.take_zero,zbE,List.append_nil,List.nil_append,and_true];rfl
 |i+1,b,t::ts,k::ks,h1,h2=>by
  have ih:=zh0 (f:=f) i (b:=false) (ts:=ts) (ks:=ks) (by simpa using h1) (by simpa using h2);rw[if_neg (fun h=>absurd h.1 (by simp))] at ih;have e:(if b=true/\i+1=0 then ([40]:Str) else [44])=[44]:=if_neg (by omega);rw[List.take_succ_cons,List.take_succ_cons,zbE,ih,List.take_succ_cons,List.take_succ_cons,zbE,e,List.append_assoc ((if b=true then [40] else [44])++f t k)];rfl
theorem zml:∀(l:List Pat) (i:Nat),Pats.size (l.take i)<=Pats.size l
 | [],i=>by simp
 |x::r,0=>by simp[Pats.size]
 |x::r,i+1=>by
  have:=zml r i;rw[List.take_succ_cons,Pats.size,Pats.size];omega
theorem ziV {f:Ty->Pat->Str}:∀(b:Bool) (ts:List Ty) (ks:List Pat),(∀i,i<ts.length->i<ks.length->(f (nth ts i) (nth ks i)).length<=10*(nth ks i).size)->(zbE f b ts ks).length<=ks.length+10*Pats.size ks
 |_,[],ks,_=>by simp[zbE]
 |_,_::_,[],_=>by simp[zbE]
 |b,t::ts,k::ks,h=>by
  have ih:=ziV false ts ks (fun i h1 h2=>h (i+1) (by simpa using h1) (by simpa using h2));have h0:=h 0 (by simp) (by simp);have h0':(f t k).length<=10*k.size:=h0;have h3:(if b=true then [(40:UInt8)] else [44]).length=1:=by split<;>rfl
  rw[zbE,xaa,xaa,Pats.size,h3];simp only[xab];omega
def za2 (w:List Data):Nat->Ty->Pat->Str
 |0,_,_=>[]
 |n+1,t,p=>
  if p.op=1 then [95]
  else if p.op=2 then letV p.var
  else if p.op=3 then (if p.n=p.m then decV p.n else decV p.n++[45]++decV p.m)
  else if p.op=5 then [40]++za2 w n t (nth p.kids 0)++[124]++za2 w n t (nth p.kids 1)++[41]
  else if p.op=6 then letV p.var++[64]++za2 w n t (nth p.kids 0)
  else (zdo w t p.ctor++zbE (za2 w n) true (zaq w t p.ctor) p.kids)++(if 0<(zaq w t p.ctor).length then [41] else [])
theorem zgB {w:List Data} (hw:WT w) (hb:TB w){a k c:Int} (ht:TyIn w.length ⟨a,k⟩) (hc:c∈zaJ w ⟨a,k⟩):(zdo w ⟨a,k⟩ c).length<=5/\(zaq w ⟨a,k⟩ c).length<=3:=by
 obtain⟨d,rfl,hd,j,rfl,hj⟩:=zbA ht hc;have:=hb.cn (nth w d) (zaj hd) (nth (nth w d).ctors j) (zaj hj);refine⟨this.1, ?_⟩;unfold zaq;simp only[xac];exact this.2.1
theorem zqk {w:List Data}{t:Ty}{p:Pat} (h:ownP w t p=true):(p.op=1\/p.op=2\/p.op=3\/p.op=5\/p.op=6\/p.op=4)/\((p.op=2\/p.op=6)->0<=p.var/\p.var<=5)/\(p.op=3->0<=p.n/\p.n<=p.m/\p.m<=9)/\(p.op=4->p.ctor∈zaJ w t):=by
 unfold ownP at h;have h':=of_decide_eq_true h;refine⟨?_,h'.1,fun h3=>?_,fun h4=>?_⟩
 ·rcases h'.2.2.2.2 with h|h|h|h|h|h<;>omega
 ·rcases h'.2.2.2.2 with h|h|h|h|h|h<;>omega
 ·rcases h'.2.2.2.2 with h|h|h|h|h|h
  all_goals first|exact h.2|omega
theorem zje {w:List Data}{t:Ty}{p:Pat} (h:p.op=4):zah w t p=zaq w t p.ctor:=by unfold zah;rw[if_pos h]
theorem zgm {w:List Data}{t:Ty}{p:Pat} (h:p.op=5):zah w t p=[t,t]:=by unfold zah;rw[if_neg (by omega),if_pos h]
theorem zjf {w:List Data}{t:Ty}{p:Pat} (h:p.op=6):zah w t p=[t]:=by unfold zah;rw[if_neg (by omega),if_neg (by omega),if_pos h]
theorem znD {l:List Pat}{i:Nat} (h:i<l.length):(nth l i).size<=Pats.size l:=Pats.size_mem (zaj h)
theorem zfL {w:List Data} (hw:WT w) (hb:TB w):∀(n:Nat){a k:Int}{p:Pat},zav w n ⟨a,k⟩ p=true->TyIn w.length ⟨a,k⟩->(za2 w n ⟨a,k⟩ p).length<=10*p.size
 |0,a,k,p,h,_=>by simp[zav] at h
 |n+1,a,k,p,h,ht=>by
  obtain⟨ho,hl⟩:=zc5 h;have hin:=zef hw ht ho;obtain⟨o1,o2,o3,o4⟩:=zqk ho;have hk:∀i,i<p.kids.length->(za2 w n (nth (zah w ⟨a,k⟩ p) i) (nth p.kids i)).length<=10*(nth p.kids i).size:=fun i hi=>
   zfL hw hb n (a:=(nth (zah w ⟨a,k⟩ p) i).data) (k:=(nth (zah w ⟨a,k⟩ p) i).index) (zbL h hi) (hin _ (zaj (by omega)))
  rw[Pat.size_eq];unfold za2;split
  ·simp;omega
  split
  ·rw[zd7];omega
  split
  ·split
   ·rw[zcm];omega
   ·simp only[xaa,zcm,xab,xai];omega
  split
  ·rename_i h5;rw[zgm h5] at hl hk;have hl2:p.kids.length=2:=hl;have k0:=hk 0 (by omega);have k1:=hk 1 (by omega);have k0':(za2 w n ⟨a,k⟩ (nth p.kids 0)).length<=10*(nth p.kids 0).size:=k0;have k1':(za2 w n ⟨a,k⟩ (nth p.kids 1)).length<=10*(nth p.kids 1).size:=k1;have hs:(nth p.kids 0).size+(nth p.kids 1).size=Pats.size p.kids:=by
    generalize p.kids=l at *;rcases l with _|⟨x,_|⟨y,_|⟨z,r⟩⟩⟩
    ·simp at hl2
    ·simp at hl2
    ·simp[Pats.size,nth]
    ·simp at hl2
   simp only[xaa,xab,xai];omega
  split
  ·rename_i h6;rw[zjf h6] at hl hk;have hl2:p.kids.length=1:=hl;have k0':(za2 w n ⟨a,k⟩ (nth p.kids 0)).length<=10*(nth p.kids 0).size:=hk 0 (by omega);have:=znD (l:=p.kids) (i:=0) (by omega);simp only[xaa,zd7,xab,xai];omega
  ·have h4:p.op=4:=by omega
   rw[zje h4] at hl hk;have:=zgB hw hb ht (o4 h4);have h1:=ziV (f:=za2 w n) true (zaq w ⟨a,k⟩ p.ctor) p.kids (fun i h1 h2=>hk i h2);have h3:(if 0<(zaq w ⟨a,k⟩ p.ctor).length then [(41:UInt8)] else []).length<=1:=by split<;>simp
   simp only[xaa];omega
theorem zcL {n:Int}:FnD Tryz.prog 271 [.d (.i n)] [] (.d (.str (letV n))) []:=by
 refine bd Tryz.f271 8 [5] [] fun w0 F0 own kept hk=>?_;refine xaH (by rw[un3];rfl) un5 .none rfl rfl ?_;refine Walk.addW .none rfl rfl rfl ?_;refine si [0] [_] sl22 tz5 ?_;refine xaC sl22 un9 (by kernel_rfl) .none rfl rfl rfl (by first|rfl|exact ziH _) ?_;refine evs [5] [] ?_;focus (refine rq ?_;all_goals (first|rfl|(simp[];done)|(simp_all;done)|(simp_all;omega)|omega))
section
variable {w:List Data}{n:Nat}{t:Ty}{p:Pat}
theorem tx1 (h:p.op=1):za2 w (n+1) t p=[95]:=by unfold za2;rw[if_pos h]
theorem tx2 (h:p.op=2):za2 w (n+1) t p=letV p.var:=by unfold za2;rw[if_neg (by omega),if_pos h]
theorem tx3a (h:p.op=3) (h2:p.n=p.m):za2 w (n+1) t p=decV p.n:=by unfold za2;rw[if_neg (by omega),if_neg (by omega),if_pos h,if_pos h2]
theorem tx3b (h:p.op=3) (h2:¬p.n=p.m):za2 w (n+1) t p=decV p.n++[45]++decV p.m:=by unfold za2;rw[if_neg (by omega),if_neg (by omega),if_pos h,if_neg h2]
theorem tx5 (h:p.op=5):za2 w (n+1) t p=[40]++za2 w n t (nth p.kids 0)++[124]++za2 w n t (nth p.kids 1)++[41]:=by rw[za2];rw[if_neg (by omega),if_neg (by omega),if_neg (by omega),if_pos h]
theorem tx6 (h:p.op=6):za2 w (n+1) t p=letV p.var++[64]++za2 w n t (nth p.kids 0):=by rw[za2];rw[if_neg (by omega),if_neg (by omega),if_neg (by omega),if_neg (by omega),if_pos h]
theorem tx4 (h:p.op=4):za2 w (n+1) t p=(zdo w t p.ctor++zbE (za2 w n) true (zaq w t p.ctor) p.kids)++(if 0<(zaq w t p.ctor).length then [41] else []):=by rw[za2];rw[if_neg (by omega),if_neg (by omega),if_neg (by omega),if_neg (by omega),if_neg (by omega)]
end
theorem zht {w:List Data} (hw:WT w) (hb:TB w):∀(n:Nat){a k:Int}{p:Pat},zav w n ⟨a,k⟩ p=true->TyIn w.length ⟨a,k⟩->p.ok->p.size<=10000000->
  FnD Tryz.prog 270 [.d (zak w),.agg [.d (.i a),.d (.i k)],.agg [.d (.i p.op),.d (.i p.ctor),.d (.i p.n),.d (.i p.m),.d (.i p.var),.d (zaQ p.kids)]] [] (.d (.str (za2 w n ⟨a,k⟩ p))) []
 |0,a,k,p,h,_,_,_=>by simp[zav] at h
 |n+1,a,k,p,h,ht,hok,hsz=>by
  obtain⟨ho,hl⟩:=zc5 h;have hin:=zef hw ht ho;obtain⟨o1,o2,o3,o4⟩:=zqk ho;rw[Pat.size_eq] at hsz;rw[Pat.ok_iff] at hok;have hkid:∀i,i<p.kids.length->∀t,t=nth (zah w ⟨a,k⟩ p) i->FnD Tryz.prog 270 [.d (zak w),.agg [.d (.i t.data),.d (.i t.index)],.agg [.d (.i (nth p.kids i).op),.d (.i (nth p.kids i).ctor),.d (.i (nth p.kids i).n),.d (.i (nth p.kids i).m),.d (.i (nth p.kids i).var),.d (zaQ (nth p.kids i).kids)]] [] (.d (.str (za2 w n t (nth p.kids i)))) []:=fun i hi t e=>by
   subst e;exact zht hw hb n (a:=(nth (zah w ⟨a,k⟩ p) i).data) (k:=(nth (zah w ⟨a,k⟩ p) i).index) (zbL h hi) (hin _ (zaj (by omega))) (Pats.ok_mem hok.2 _ (zaj hi)) (by have:=znD hi;omega)
  have hlen:∀i,i<p.kids.length->∀t,t=nth (zah w ⟨a,k⟩ p) i->(za2 w n t (nth p.kids i)).length<=100000000:=fun i hi t e=>by
   subst e;have:=zfL hw hb n (a:=(nth (zah w ⟨a,k⟩ p) i).data) (k:=(nth (zah w ⟨a,k⟩ p) i).index) (zbL h hi) (hin _ (zaj (by omega)));have h2:=znD hi;have h3:(za2 w n (nth (zah w ⟨a,k⟩ p) i) (nth p.kids i)).length<=10*(nth p.kids i).size:=this;omega
  by_cases h4:p.op=4
  ·rw[zje h4] at hl hkid hlen;have hc:=o4 h4;obtain⟨n1,n2⟩:=zgB hw hb ht hc;have hag:=zcU hw ht hc;obtain⟨d,rfl,hd,j,hj0,hj⟩:=zbA ht hc;have hnm:zdo w ⟨(d:Int),k⟩ p.ctor=(nth (nth w d).ctors j).name:=by unfold zdo;rw[hj0];rfl
   have hnx:=fun i=>zh0 (f:=za2 w n) i (b:=true) (ts:=zaq w ⟨(d:Int),k⟩ p.ctor) (ks:=p.kids);have htl:∀i,i<=3->(zbE (za2 w n) true ((zaq w ⟨(d:Int),k⟩ p.ctor).take i) (p.kids.take i)).length<=1000000000:=fun i hi=>by
    have h1:=ziV (f:=za2 w n) true ((zaq w ⟨(d:Int),k⟩ p.ctor).take i) (p.kids.take i) (fun i' q1 q2=>by
     rw[List.length_take] at q1 q2;have e1:nth ((zaq w ⟨(d:Int),k⟩ p.ctor).take i) i'=nth (zaq w ⟨(d:Int),k⟩ p.ctor) i':=by rw[zaL (by rw[List.length_take];omega),zaL (by omega),List.getElem_take]
     have e2:nth (p.kids.take i) i'=nth p.kids i':=by rw[zaL (by rw[List.length_take];omega),zaL (by omega),List.getElem_take]
     rw[e1,e2];have:=zfL hw hb n (a:=(nth (zah w ⟨(d:Int),k⟩ p) i').data) (k:=(nth (zah w ⟨(d:Int),k⟩ p) i').index) (zbL h (i:=i') (by omega)) (hin _ (zaj (by rw[zje h4];omega)));rw[zje h4] at this;exact this)
    have h2:=zml p.kids i;rw[List.length_take] at h1;omega
   rw[tx4 h4,hnm];have hfin:=List.take_length (l:=zaq w ⟨(d:Int),k⟩ p.ctor);have hfin2:=List.take_length (l:=p.kids);generalize zaq w ⟨(d:Int),k⟩ p.ctor=ts at *;refine bd Tryz.f270 118 [96,98,111,116] [] fun w0 F0 own kept hk=>?_;refine bx 3004 ?_;refine bx 3005 ?_;refine evs [96,98,111,116] [] ?_;refine sq ?_ ?_<;>intro h1 h1p h1s<;>(try simp only[Q,Int.natCast_inj,Pat.cs_len,xac] at h1p);exfalso;omega;refine sq ?_ ?_<;>intro h2 h2p h2s<;>(try simp only[Q,Int.natCast_inj,Pat.cs_len,xac] at h2p);exfalso;omega;refine sq ?_ ?_<;>intro h3 h3p h3s<;>(try simp only[Q,Int.natCast_inj,Pat.cs_len,xac] at h3p);exfalso;omega;refine sq ?_ ?_<;>intro h4 h4p h4s<;>(try simp only[Q,Int.natCast_inj,Pat.cs_len,xac] at h4p);exfalso;omega;refine sq ?_ ?_<;>intro h5 h5p h5s<;>(try simp only[Q,Int.natCast_inj,Pat.cs_len,xac] at h5p);exfalso;omega;refine Walk.idx sl23 .none rfl rfl rfl rfl (zae hd) rfl ?_;refine evd [96,98,111,116] [] ?_;refine Walk.idx (i:=j) zbw .none rfl rfl rfl hj0 (zae hj) rfl ?_;refine evd [96,98,111,116] [] ?_;refine dr ?_;refine wc zbT (hag) rfl rfl ?_;refine evs [96,98,111,116] [] ?_;refine xak (ι:=Nat) hk (fun i=>[(9,.d (.i (i:Int))),(7,.d (.str ((nth (nth w d).ctors j).name++zbE (za2 w n) true (ts.take i) (p.kids.take i))))]) [87,88,89,90,91,92,93,94,95,96,97,98,99,100,101,102,103,104,105,106,107,108,109,110,111] (fun i=>[]) (fun i=>i<=ts.length) (fun i=>ts.length-i) 0 (by omega) ⟨⟨_,rfl,xap ?_⟩,⟨⟨_,rfl,xaq ?_⟩,trivial⟩⟩ trivial (fun x=>rfl) (fun i hg1=>?_);iterate 2 focus (first|rfl|omega|(rw[hnx i (by omega) (by omega),if_pos ⟨rfl,by omega⟩];simp;done)|(rw[hnx i (by omega) (by omega),if_neg (by omega)];simp;done)|(simp[zbE];done))
   refine evc [96,98,111,116] [] ?_;refine sq ?_ ?_<;>intro h6 h6p h6s<;>(try simp only[Q,Int.natCast_inj,Pat.cs_len,xac] at h6p);refine sq ?_ ?_<;>intro h7 h7p h7s<;>(try simp only[Q,Int.natCast_inj,Pat.cs_len,xac] at h7p);refine xaF .none rfl rfl rfl (by rw[hnm] at n1;have:=htl i (by omega);first|(have:=hlen i (by omega) (nth ts i) rfl;simp only[xaa,xab,xai];omega)|(simp only[xaa,xab,xai];omega)) ?_;refine evs [96,98,111,116] [] ?_;refine Walk.idx zax .none rfl rfl rfl rfl (zae (by omega)) rfl ?_;refine evd [96,98,111,116] [] ?_;refine Walk.idx sl72 .none rfl rfl rfl rfl (zb5 (by omega)) rfl ?_;refine evd [96,98,111,116] [] ?_;refine wc zhg (hkid i (by omega) (nth ts i) rfl) rfl rfl ?_;refine xaF .none rfl rfl rfl (by rw[hnm] at n1;have:=htl i (by omega);first|(have:=hlen i (by omega) (nth ts i) rfl;simp only[xaa,xab,xai];omega)|(simp only[xaa,xab,xai];omega)) ?_;refine evd [96,98,111,116] [] ?_;refine dr ?_;refine ar ?_;refine xah (i+1) ⟨(by omega),(by omega),sx ⟨⟨_,rfl,xap ?_⟩,⟨⟨_,rfl,xaq ?_⟩,trivial⟩⟩ trivial⟩;iterate 2 focus (first|rfl|omega|(rw[hnx i (by omega) (by omega),if_pos ⟨rfl,by omega⟩];simp;done)|(rw[hnx i (by omega) (by omega),if_neg (by omega)];simp;done)|(simp[zbE];done))
   refine xaF .none rfl rfl rfl (by rw[hnm] at n1;have:=htl i (by omega);first|(have:=hlen i (by omega) (nth ts i) rfl;simp only[xaa,xab,xai];omega)|(simp only[xaa,xab,xai];omega)) ?_;refine evs [96,98,111,116] [] ?_;refine Walk.idx zax .none rfl rfl rfl rfl (zae (by omega)) rfl ?_;refine evd [96,98,111,116] [] ?_;refine Walk.idx sl72 .none rfl rfl rfl rfl (zb5 (by omega)) rfl ?_;refine evd [96,98,111,116] [] ?_;refine wc zhg (hkid i (by omega) (nth ts i) rfl) rfl rfl ?_;refine xaF .none rfl rfl rfl (by rw[hnm] at n1;have:=htl i (by omega);first|(have:=hlen i (by omega) (nth ts i) rfl;simp only[xaa,xab,xai];omega)|(simp only[xaa,xab,xai];omega)) ?_;refine evd [96,98,111,116] [] ?_;refine dr ?_;refine ar ?_;refine xah (i+1) ⟨(by omega),(by omega),sx ⟨⟨_,rfl,xap ?_⟩,⟨⟨_,rfl,xaq ?_⟩,trivial⟩⟩ trivial⟩;iterate 2 focus (first|rfl|omega|(rw[hnx i (by omega) (by omega),if_pos ⟨rfl,by omega⟩];simp;done)|(rw[hnx i (by omega) (by omega),if_neg (by omega)];simp;done)|(simp[zbE];done))
   refine sq ?_ ?_<;>intro h8 h8p h8s<;>(try simp only[Q,Int.natCast_inj,Pat.cs_len,xac] at h8p);refine xaF .none rfl rfl rfl (by rw[hnm] at n1;have:=htl i (by omega);first|(have:=hlen i (by omega) (nth ts i) rfl;simp only[xaa,xab,xai];omega)|(simp only[xaa,xab,xai];omega)) ?_;refine evs [96,98,111,116] [] ?_;refine rq ?_;rotate_left;refine rq ?_;rotate_left;all_goals (have e1:i=ts.length:=(by omega);subst e1;rw[hfin,show ts.length=p.kids.length by omega,hfin2];first|(rw[if_pos (by omega)];done)|(rw[if_neg (by omega),List.append_nil];done))
  ·have e5:p.op=5->p.kids.length=2:=fun h=>by rw[zgm h] at hl;exact hl
   have e6:p.op=6->p.kids.length=1:=fun h=>by rw[zjf h] at hl;exact hl
   have hk0:=fun(h:p.op=5\/p.op=6)=>hkid 0 (by rcases h with h|h;rw[e5 h];omega;rw[e6 h];omega) ⟨a,k⟩ (by rcases h with h|h;rw[zgm h];rfl;rw[zjf h];rfl);have hk1:=fun(h:p.op=5)=>hkid 1 (by rw[e5 h];omega) ⟨a,k⟩ (by rw[zgm h];rfl);have hn0:=fun(h:p.op=5\/p.op=6)=>hlen 0 (by rcases h with h|h;rw[e5 h];omega;rw[e6 h];omega) ⟨a,k⟩ (by rcases h with h|h;rw[zgm h];rfl;rw[zjf h];rfl);have hn1:=fun(h:p.op=5)=>hlen 1 (by rw[e5 h];omega) ⟨a,k⟩ (by rw[zgm h];rfl);have hdl:=zcm;have hll:=zd7 p.var;refine bd Tryz.f270 118 [32,36,46,47,55,56,62,70] [] fun w0 F0 own kept hk=>?_;refine bx 3004 ?_;refine bx 3005 ?_;refine evs [32,36,46,47,55,56,62,70] [] ?_;refine sq ?_ ?_<;>intro h1 h1p h1s<;>(try simp only[Q,Int.natCast_inj,Pat.cs_len] at h1p);refine rq ?_;rotate_left;refine sq ?_ ?_<;>intro h2 h2p h2s<;>(try simp only[Q,Int.natCast_inj,Pat.cs_len] at h2p);refine wc ziq (zcL (n:=p.var)) rfl rfl ?_;refine evs [32,36,46,47,55,56,62,70] [] ?_;refine rq ?_;rotate_left;refine sq ?_ ?_<;>intro h3 h3p h3s<;>(try simp only[Q,Int.natCast_inj,Pat.cs_len] at h3p);refine sq ?_ ?_<;>intro h4 h4p h4s<;>(try simp only[Q,Int.natCast_inj,Pat.cs_len] at h4p);refine wc zev (zbz (n:=p.n) (by have:=o3 (by omega);omega) (by have:=o3 (by omega);omega)) rfl rfl ?_;refine evs [32,36,46,47,55,56,62,70] [] ?_;refine rq ?_;rotate_left;refine wc zev (zbz (n:=p.n) (by have:=o3 (by omega);omega) (by have:=o3 (by omega);omega)) rfl rfl ?_;refine xaF .none rfl rfl rfl (by first|(have:=hn0 (.inl (by omega));have:=hn1 (by omega);simp only[xaa,xab,xai];omega)|(have:=hn0 (.inr (by omega));simp only[xaa,xab,xai];omega)|(simp only[xaa,xab,xai,hdl];omega)) ?_;refine evd [32,36,46,47,55,56,62,70] [] ?_;refine wc zev (zbz (n:=p.m) (by have:=o3 (by omega);omega) (by have:=o3 (by omega);omega)) rfl rfl ?_;refine xaF .none rfl rfl rfl (by first|(have:=hn0 (.inl (by omega));have:=hn1 (by omega);simp only[xaa,xab,xai];omega)|(have:=hn0 (.inr (by omega));simp only[xaa,xab,xai];omega)|(simp only[xaa,xab,xai,hdl];omega)) ?_;refine evd [32,36,46,47,55,56,62,70] [] ?_;refine dr ?_;refine rq ?_;rotate_left;refine sq ?_ ?_<;>intro h5 h5p h5s<;>(try simp only[Q,Int.natCast_inj,Pat.cs_len] at h5p);refine Walk.idx (i:=0) sl72 .none rfl rfl rfl rfl (zb5 (by first|(rw[e5 (by omega)];omega)|(rw[e6 (by omega)];omega))) rfl ?_;refine evd [32,36,46,47,55,56,62,70] [] ?_;refine wc zhg (hk0 (by omega)) rfl rfl ?_;refine xaF .none rfl rfl rfl (by first|(have:=hn0 (.inl (by omega));have:=hn1 (by omega);simp only[xaa,xab,xai];omega)|(have:=hn0 (.inr (by omega));simp only[xaa,xab,xai];omega)|(simp only[xaa,xab,xai,hdl];omega)) ?_;refine xaF .none rfl rfl rfl (by first|(have:=hn0 (.inl (by omega));have:=hn1 (by omega);simp only[xaa,xab,xai];omega)|(have:=hn0 (.inr (by omega));simp only[xaa,xab,xai];omega)|(simp only[xaa,xab,xai,hdl];omega)) ?_;refine evd [32,36,46,47,55,56,62,70] [] ?_;refine Walk.idx (i:=1) sl72 .none rfl rfl rfl rfl (zb5 (by first|(rw[e5 (by omega)];omega)|(rw[e6 (by omega)];omega))) rfl ?_;refine evd [32,36,46,47,55,56,62,70] [] ?_;refine wc zhg (hk1 (by omega)) rfl rfl ?_;refine xaF .none rfl rfl rfl (by first|(have:=hn0 (.inl (by omega));have:=hn1 (by omega);simp only[xaa,xab,xai];omega)|(have:=hn0 (.inr (by omega));simp only[xaa,xab,xai];omega)|(simp only[xaa,xab,xai,hdl];omega)) ?_;refine xaF .none rfl rfl rfl (by first|(have:=hn0 (.inl (by omega));have:=hn1 (by omega);simp only[xaa,xab,xai];omega)|(have:=hn0 (.inr (by omega));simp only[xaa,xab,xai];omega)|(simp only[xaa,xab,xai,hdl];omega)) ?_;refine evd [32,36,46,47,55,56,62,70] [] ?_;refine dr ?_;refine rq ?_;rotate_left;refine sq ?_ ?_<;>intro h6 h6p h6s<;>(try simp only[Q,Int.natCast_inj,Pat.cs_len] at h6p);refine wc ziq (zcL (n:=p.var)) rfl rfl ?_;refine xaF .none rfl rfl rfl (by first|(have:=hn0 (.inl (by omega));have:=hn1 (by omega);simp only[xaa,xab,xai];omega)|(have:=hn0 (.inr (by omega));simp only[xaa,xab,xai];omega)|(simp only[xaa,xab,xai,hdl];omega)) ?_;refine evd [32,36,46,47,55,56,62,70] [] ?_;refine Walk.idx (i:=0) sl72 .none rfl rfl rfl rfl (zb5 (by first|(rw[e5 (by omega)];omega)|(rw[e6 (by omega)];omega))) rfl ?_;refine evd [32,36,46,47,55,56,62,70] [] ?_;refine wc zhg (hk0 (by omega)) rfl rfl ?_;refine xaF .none rfl rfl rfl (by first|(have:=hn0 (.inl (by omega));have:=hn1 (by omega);simp only[xaa,xab,xai];omega)|(have:=hn0 (.inr (by omega));simp only[xaa,xab,xai];omega)|(simp only[xaa,xab,xai,hdl];omega)) ?_;refine evd [32,36,46,47,55,56,62,70] [] ?_;refine dr ?_;refine rq ?_;rotate_left;exfalso;omega;all_goals (first|(rw[tx1 (by omega)];done)|(rw[tx2 (by omega)];done)|(rw[tx3a (by omega) (by omega)];done)|(rw[tx3b (by omega) (by omega)];done)|(rw[tx5 (by omega)];done)|(rw[tx6 (by omega)];done)|(rw[tx1 (by omega)];rfl)|(rw[tx5 (by omega)];rfl)|(rw[tx6 (by omega)];rfl))
end Go.Proofs.YtmchfdpleibpdaaGreat
namespace Go.Proofs.YtmchfdpleibpdaaGreat
open Go
set_option linter.unusedSimpArgs false
set_option linter.unusedVariables false
set_option maxRecDepth 100000
set_option maxHeartbeats 2000000
structure MatchOk (w:List Data) (n m:Nat) (t:Ty) (p:Pat) (v:Val):Prop where
 shape:zav w n t p=true
 fits:zrv w m t v=true
 pok:p.ok
 vok:v.ok
 psz:p.size<=100
 vsz:v.size<=100
theorem MatchOk.two {w:List Data}{n m:Nat}{t:Ty}{p:Pat}{v:Val} (h:MatchOk w (n+1) m t p v) (h5:p.op=5):
  p.kids.length=2/\MatchOk w n m t (nth p.kids 0) v/\MatchOk w n m t (nth p.kids 1) v:=by
 obtain⟨hl,s0,s1⟩:=zqy h.shape h5;have hpk:=(Pat.ok_iff p).1 h.pok;have hps:=Pat.size_eq p;have z0:=zeO (l:=p.kids) (i:=0) (by omega);have z1:=zeO (l:=p.kids) (i:=1) (by omega);have hs:=h.psz;exact⟨hl,⟨s0,h.fits,Pats.ok_mem hpk.2 _ (zaj (by omega)),h.vok,by omega,h.vsz⟩,⟨s1,h.fits,Pats.ok_mem hpk.2 _ (zaj (by omega)),h.vok,by omega,h.vsz⟩⟩
theorem MatchOk.one {w:List Data}{n m:Nat}{t:Ty}{p:Pat}{v:Val} (h:MatchOk w (n+1) m t p v) (h6:p.op=6):
  p.kids.length=1/\MatchOk w n m t (nth p.kids 0) v:=by
 obtain⟨hl,s0⟩:=zqx h.shape h6;have hpk:=(Pat.ok_iff p).1 h.pok;have hps:=Pat.size_eq p;have z0:=zeO (l:=p.kids) (i:=0) (by omega);have hs:=h.psz;exact⟨hl,⟨s0,h.fits,Pats.ok_mem hpk.2 _ (zaj (by omega)),h.vok,by omega,h.vsz⟩⟩
structure VarsOk (l:List Bd) (vs:List Vt):Prop where
 len:l.length=vs.length
 nod:(l.map Bd.var).Nodup
 sub:∀x∈l.map Bd.var,x∈vs.map Vt.var
section
variable {c:Ctx}{all:Array Oper}{chk:List Rec->Prop}{os:List Oper}{recs:List Rec}{env:Env}{hp:Hp}{Q:St->Prop}
variable {ty d:Nat}{pos:String}{af:Array Edge}{g:Option (Nat×Bool)}{pg:List (Nat×AV)}{t:TypeId}{x y:Operand}
theorem Walk.idxV {len e:Nat}{cs:List AV}{v:AV}{kd:IntKind}{n:Int}{i:Nat} (ht:ArT c.P t len e 1) (hk:TyS c.P e 1 false) (hg:GH all env g pg) (hd:Nat.blt d c.n=true)
  (hx:opd env x=some (.agg cs)) (hy:opd env y=some (.d (.int kd n))) (hi:n = ↑i) (hlt:i<len) (hv:cs[i]?=some v)
  (hn:Walk c all chk os (zao (pg++(opF x (.agg cs)++opF y (.d (.int kd n)))) [] [] ⟨some (d,v),[]⟩::recs) ⟨(d,v)::env,hp⟩ Q):
  Walk c all chk (⟨some d,.index t x y,ty,pos,af,g⟩::os) recs ⟨env,hp⟩ Q:=by
 refine xa1 hg hd hx hy (fun a G T w h1 h2=>?_) hn;obtain⟨hi',hv'⟩:=List.getElem?_eq_some_iff.1 hv;obtain⟨vs,he,hs,h⟩:=h1.agg_eq;have hb:=h i hi' (by omega);rw[hv'] at hb;refine⟨vs[i]'(by omega), ?_,hb⟩;have hc:(0:Int)<=(i:Int)/\(i:Int)<(len:Int):=by omega
 have hg2:vs[i]?=some (vs[i]'(by omega)):=Array.getElem?_eq_getElem (by omega);simp only[execOp,he,h2.int_eq,hi,Instr.index,asIntOf,Sem.run_bind,Sem.run_pure,Result.andThen_ok,run_underlying ht.und,hc,if_true,and_self,Int.toNat_natCast,hk.run_size,Nat.mul_one,part,hk.run_agg];simp only[Bool.false_eq_true,if_false,hg2,Sem.run_pure,Result.andThen_ok]
end
theorem LeA.eqa {cs ds:List AV} (h:cs=ds):LeA (.agg cs) (.agg ds):=h ▸ .refl _
def zci (f:Nat->Bool):Nat->List Int
 |0=>[]
 |m+1=>zci f m++(if f m then [((m:Nat):Int)] else [])
def covB (f:Nat->Bool) (b:Int) (j:Nat):Bool:=f j||decide (b=(j:Int))
def tabB (n:Nat) (f:Nat->Bool):List AV:=(List.range n).map fun s=> .d (.bool (f s))
theorem zit (f:Nat->Bool):∀m,(zci f m).length<=m
 |0=>by simp[zci]
 |m+1=>by
  have:=zit f m;simp only[zci,xaa];split<;>simp<;>omega
theorem ziu {f:Nat->Bool}{m:Nat} (h:f m=true):zci f (m+1)=zci f m++[(m:Int)]:=by simp[zci,h]
theorem zjG {f:Nat->Bool}{m:Nat} (h:f m=false):zci f (m+1)=zci f m:=by simp[zci,h]
theorem zsn {n i:Nat}{f:Nat->Bool} (h:i<n):(tabB n f)[i]?=some (.d (.bool (f i))):=by simp[tabB,h]
theorem zri {n o:Nat}{f:Nat->Bool}{b:Int} (eo:o=b.toNat) (h0:0<=b) (h:b.toNat<n):putC (tabB n f) o [.d (.bool true)]=some (tabB n (covB f b)):=by
 subst eo;rw[zho (by simp[tabB,h])];congr 1
 refine List.ext_getElem (by simp[tabB]) (fun j h1 h2=>?_);rw[List.getElem_set];simp only[tabB,List.getElem_map,List.getElem_range,covB];by_cases hj:b.toNat=j
 ·rw[if_pos hj,decide_eq_true (by omega),Bool.or_true]
 ·rw[if_neg hj,decide_eq_false (by omega),Bool.or_false]
theorem zbl {n:Nat}{f:Nat->Bool}:AV.idsL (tabB n f)=[]:=by
 unfold tabB;induction List.range n with
 |nil=>rfl
 |cons x r ih=>rw[xae,AV.idsL,ih];rfl
end Go.Proofs.YtmchfdpleibpdaaGreat
namespace Go.Proofs.YtmchfdpleibpdaaGreat
open Go
set_option linter.unusedSimpArgs false
set_option linter.unusedVariables false
set_option maxRecDepth 100000
set_option maxHeartbeats 4000000
def zc0 (s:Str):Gd:=if s.length=3 then ⟨if nth s 1=60 then 1 else if nth s 1=61 then 2 else -1,((nth s 0).toNat:Int)-97,((nth s 2).toNat:Int)-48⟩ else ⟨-1,0,0⟩
theorem zhW {s:Str} (hs:s.length<=1000000000000):FnD Tryz.prog 230 [.d (.str s)] [] (.agg [.d (.i (zc0 s).op),.d (.i (zc0 s).var),.d (.i (zc0 s).n)]) []:=by
 have v0:=zi4 (nth s 0);have v2:=zi4 (nth s 2);have b0:=(nth s 0).toNat_lt;have b2:=(nth s 2).toNat_lt;by_cases h3:s.length=3
 ·have g60:((nth s 1).toNat:Int)=60->zc0 s=⟨1,((nth s 0).toNat:Int)-97,((nth s 2).toNat:Int)-48⟩:=fun h=>by unfold zc0;rw[if_pos h3,if_pos (show nth s 1=60 from b_eq (k:=60) (by omega) h)]
  have g61:((nth s 1).toNat:Int)=61->zc0 s=⟨2,((nth s 0).toNat:Int)-97,((nth s 2).toNat:Int)-48⟩:=fun h=>by unfold zc0;rw[if_pos h3,if_neg (show ¬nth s 1=60 from b_ne (by show ¬((nth s 1).toNat:Int)=60;omega)),if_pos (show nth s 1=61 from b_eq (k:=61) (by omega) h)]
  have gno:¬((nth s 1).toNat:Int)=60->¬((nth s 1).toNat:Int)=61->zc0 s=⟨-1,((nth s 0).toNat:Int)-97,((nth s 2).toNat:Int)-48⟩:=fun h h'=>by unfold zc0;rw[if_pos h3,if_neg (show ¬nth s 1=60 from b_ne (by show ¬((nth s 1).toNat:Int)=60;omega)),if_neg (show ¬nth s 1=61 from b_ne (by show ¬((nth s 1).toNat:Int)=61;omega))]
  generalize zc0 s=g at *;refine bd Tryz.f230 26 [] [] fun w0 F0 own kept hk=>?_;refine ab 3002 tz76 ?_;refine tv ?_;refine sq ?_ ?_<;>intro h1 h1p h1s<;>(try simp only[Q,Int.natCast_inj] at h1p);exfalso;omega;refine xaR (i:=0) un9 .none rfl rfl rfl rfl (zaZ (by omega)) ?_;refine xaH (by rw[un5];rfl) un3 .none rfl rfl ?_;refine evd [] [] ?_;refine ar ?_;refine xaR (i:=2) un9 .none rfl rfl rfl rfl (zaZ (by omega)) ?_;refine xaH (by rw[un5];rfl) un3 .none rfl rfl ?_;refine evd [] [] ?_;refine ar ?_;refine bu [0,1,2] [_,_,_] st76 ?_;refine ab 3003 tz76 ?_;refine so ty76 ?_;refine dr ?_;refine xaR (i:=1) un9 .none rfl rfl rfl rfl (zaZ (by omega)) ?_;refine tv ?_;refine sq ?_ ?_<;>intro h2 h2p h2s<;>(try simp only[Q,Int.natCast_inj] at h2p);refine so ty3 ?_;refine tv ?_;refine so ty76 ?_;refine tv ?_;refine rn0 (.cons (.cellA ty76 rfl rfl rfl) .nil) (.agg (.cons (.eqd ?_) (.cons (.eqd ?_) (.cons (.eqd ?_) .nil))));rotate_left 3;refine sq ?_ ?_<;>intro h3 h3p h3s<;>(try simp only[Q,Int.natCast_inj] at h3p);refine so ty3 ?_;refine tv ?_;refine so ty76 ?_;refine tv ?_;refine rn0 (.cons (.cellA ty76 rfl rfl rfl) .nil) (.agg (.cons (.eqd ?_) (.cons (.eqd ?_) (.cons (.eqd ?_) .nil))));rotate_left 3;refine so ty76 ?_;refine tv ?_;refine rn0 (.cons (.cellA ty76 rfl rfl rfl) .nil) (.agg (.cons (.eqd ?_) (.cons (.eqd ?_) (.cons (.eqd ?_) .nil))));rotate_left 3;all_goals (first|(rw[g60 (by omega)];all_goals first|rfl|exact congrArg D.i (by rw[v0])|exact congrArg D.i (by rw[v2]))|(rw[g61 (by omega)];all_goals first|rfl|exact congrArg D.i (by rw[v0])|exact congrArg D.i (by rw[v2]))|(rw[gno (by omega) (by omega)];all_goals first|rfl|exact congrArg D.i (by rw[v0])|exact congrArg D.i (by rw[v2])))
 ·have e:zc0 s=⟨-1,0,0⟩:=by unfold zc0;rw[if_neg h3]
  rw[e];refine bd Tryz.f230 26 [] [] fun w0 F0 own kept hk=>?_;refine ab 3002 tz76 ?_;refine tv ?_;refine sq ?_ ?_<;>intro h1 h1p h1s<;>(try simp only[Q,Int.natCast_inj] at h1p);refine bu [0] [_] st76 ?_;refine so ty76 ?_;refine tv ?_;focus (refine rn0 (.cons (.cellA ty76 rfl rfl rfl) .nil) (.agg (.cons (.eqd ?_) (.cons (.eqd ?_) (.cons (.eqd ?_) .nil))));all_goals (first|rfl|(simp[h1s,h1p];done)|(simp_all;done)|(simp_all;omega)|omega))
  exfalso;omega
def zc9 (w:List Data) (t:Ty) (c:Cl):Str:=
 if c.g.op=1 then za2 w 10 t c.pat++[32]++letV c.g.var++[60]++decV c.g.n
 else if c.g.op=2 then za2 w 10 t c.pat++[32]++letV c.g.var++[61]++decV c.g.n
 else za2 w 10 t c.pat
theorem gd_n {w:List Data}{t:Ty}{c:Cl} (h:clOk w t c=true):c.g.op=1\/c.g.op=2->0<=c.g.n/\c.g.n<=9:=fun hop=>by
 unfold clOk at h;rw[xad] at h;have h2:=h.2;unfold gdOk at h2;rw[if_neg (by omega),xad] at h2;have h3:=of_decide_eq_true h2.1;exact⟨h3.2.2.1,h3.2.2.2⟩
theorem zmn {w:List Data} (hw:WT w) (hb:TB w){a k:Int}{c:Cl} (ht:TyIn w.length ⟨a,k⟩) (h:clOk w ⟨a,k⟩ c=true) (hsz:c.pat.size<=10000000):(zc9 w ⟨a,k⟩ c).length<=100000010:=by
 have h1:=zfL hw hb 10 (zfF h).2.1 ht;unfold zc9;split
 ·simp only[xaa,zd7,zcm,xab,xai];omega
 split
 ·simp only[xaa,zd7,zcm,xab,xai];omega
 ·omega
theorem zfp {w:List Data} (hw:WT w) (hb:TB w){a k:Int}{c:Cl} (ht:TyIn w.length ⟨a,k⟩) (h:clOk w ⟨a,k⟩ c=true) (hok:c.pat.ok) (hsz:c.pat.size<=10000000):
  FnD Tryz.prog 234 [.d (zak w),.agg [.d (.i a),.d (.i k)],.agg [.d (.i c.pat.op),.d (.i c.pat.ctor),.d (.i c.pat.n),.d (.i c.pat.m),.d (.i c.pat.var),.d (zaQ c.pat.kids),.d (.i c.g.op),.d (.i c.g.var),.d (.i c.g.n)]] [] (.d (.str (zc9 w ⟨a,k⟩ c))) []:=by
 have hn:=gd_n h;have hl:=zfL hw hb 10 (zfF h).2.1 ht;have ht1:=zht hw hb 10 (zfF h).2.1 ht hok hsz;have e1:c.g.op=1->zc9 w ⟨a,k⟩ c=za2 w 10 ⟨a,k⟩ c.pat++[32]++letV c.g.var++[60]++decV c.g.n:=fun h=>by unfold zc9;rw[if_pos h]
 have e2:c.g.op=2->zc9 w ⟨a,k⟩ c=za2 w 10 ⟨a,k⟩ c.pat++[32]++letV c.g.var++[61]++decV c.g.n:=fun h=>by unfold zc9;rw[if_neg (by omega),if_pos h]
 have e3:¬c.g.op=1->¬c.g.op=2->zc9 w ⟨a,k⟩ c=za2 w 10 ⟨a,k⟩ c.pat:=fun h h'=>by unfold zc9;rw[if_neg h,if_neg h']
 have hd:=zcm c.g.n;have hv:=zd7 c.g.var;generalize zc9 w ⟨a,k⟩ c=R at *;generalize za2 w 10 ⟨a,k⟩ c.pat=T at *;refine bd Tryz.f234 47 [19,24,25,30,34,39,40,45] [] fun w0 F0 own kept hk=>?_;refine bx 3004 ?_;refine bx 3005 ?_;refine evs [19,24,25,30,34,39,40,45] [] ?_;refine wc zhg (ht1) rfl rfl ?_;refine evs [19,24,25,30,34,39,40,45] [] ?_;refine sq ?_ ?_<;>intro h1 h1p h1s<;>(try simp only[Q,Int.natCast_inj] at h1p);refine xaF .none rfl rfl rfl (by simp only[xaa,xab,xai,hd,hv];omega) ?_;refine evd [19,24,25,30,34,39,40,45] [] ?_;refine wc ziq (zcL (n:=c.g.var)) rfl rfl ?_;refine xaF .none rfl rfl rfl (by simp only[xaa,xab,xai,hd,hv];omega) ?_;refine xaF .none rfl rfl rfl (by simp only[xaa,xab,xai,hd,hv];omega) ?_;refine evd [19,24,25,30,34,39,40,45] [] ?_;refine wc zev (zbz (n:=c.g.n) (hn (by omega)).1 (hn (by omega)).2) rfl rfl ?_;refine xaF .none rfl rfl rfl (by simp only[xaa,xab,xai,hd,hv];omega) ?_;refine evd [19,24,25,30,34,39,40,45] [] ?_;refine dr ?_;refine rq ?_;rotate_left;refine sq ?_ ?_<;>intro h2 h2p h2s<;>(try simp only[Q,Int.natCast_inj] at h2p);refine xaF .none rfl rfl rfl (by simp only[xaa,xab,xai,hd,hv];omega) ?_;refine evd [19,24,25,30,34,39,40,45] [] ?_;refine wc ziq (zcL (n:=c.g.var)) rfl rfl ?_;refine xaF .none rfl rfl rfl (by simp only[xaa,xab,xai,hd,hv];omega) ?_;refine xaF .none rfl rfl rfl (by simp only[xaa,xab,xai,hd,hv];omega) ?_;refine evd [19,24,25,30,34,39,40,45] [] ?_;refine wc zev (zbz (n:=c.g.n) (hn (by omega)).1 (hn (by omega)).2) rfl rfl ?_;refine xaF .none rfl rfl rfl (by simp only[xaa,xab,xai,hd,hv];omega) ?_;refine evd [19,24,25,30,34,39,40,45] [] ?_;refine dr ?_;refine rq ?_;rotate_left;refine rq ?_;rotate_left;all_goals (first|(rw[e1 (by omega)];done)|(rw[e2 (by omega)];done)|(rw[e3 (by omega) (by omega)];done))
def zdP (w:List Data) (t:Ty):Bool->List Cl->Str
 |_,[]=>[]
 |b,c::r=>((if b=true then [] else [47])++zc9 w t c)++zdP w t false r
theorem zle {w:List Data} (hs:WSmall w){a k:Int}{l:List Cl} (hl:ClsOk l) (hz:∀c∈l,c.pat.size<=10000000) (hv:za7 w ⟨a,k⟩ l=true):
  FnD Tryz.prog 231 [.d (zak w),.agg [.d (.i a),.d (.i k)],.d (zcZ l)] [] (.d (.str (zdP w ⟨a,k⟩ true l))) []:=by
 obtain⟨tv,hl8,hc⟩:=zgI hv;obtain⟨wv,ht,_⟩:=zcM tv;have hw:=zdh hs wv;have hb:=zh3 wv;have hc':∀c∈l,clOk w ⟨a,k⟩ c=true:=fun c hm=>by
  obtain⟨i,hi,rfl⟩:=List.getElem_of_mem hm;rw[<-zaL hi];exact hc i hi
 have hlen:=fun(c:Cl) (hm:c∈l)=>zmn hw hb ht (hc' c hm) (hz c hm);refine bd Tryz.f231 29 [18,27] [] fun w0 F0 own kept hk=>?_;refine bx 3004 ?_;refine evs [18,27] [] ?_;refine xak (ι:=List (Cl)×List (Cl)×(Str)) hk (fun x=>[(8,.d (.i (x.1.length:Int))),(7,.d (.str x.2.2))]) [9,10,11,12,13,14,15,16,17,18,19,20,21,22,23,24,25,26,27] (fun x=>[]) (fun x=>x.1++x.2.1=l/\x.2.2.length<=100000020*x.1.length/\x.2.2++zdP w ⟨a,k⟩ (decide (x.1.length=0)) x.2.1=zdP w ⟨a,k⟩ true l) (fun x=>x.2.1.length) ([],l,[]) ⟨by simp,by simp,by simp⟩ ⟨⟨_,rfl,xap ?_⟩,⟨⟨_,rfl,xaq ?_⟩,trivial⟩⟩ trivial (fun x=>rfl) (fun x hg1=>?_);iterate 2 focus (first|rfl|(simp;done)|omega|(dsimp only;rw[if_pos (by omega)];simp;done)|(dsimp only;rw[if_neg (by omega)];simp;done))
 obtain⟨pre,rest,o⟩:=x;dsimp only at hg1 ⊢;refine evc [18,27] [] ?_;refine sq ?_ ?_<;>intro h1 h1p h1s<;>(try simp only[Q,Int.natCast_inj,xac] at h1p);rcases rest with _|⟨y,rest⟩
 ·exfalso;simp_all
 have hym:y∈l:=(by rw[<-hg1.1];simp);have hyl:=hlen y hym;have hpl:pre.length<l.length:=(by rw[<-hg1.1];simp);refine sq ?_ ?_<;>intro h2 h2p h2s<;>(try simp only[Q,Int.natCast_inj,xac] at h2p);refine xaF .none rfl rfl rfl (by(try simp only[xaa,xab,xai]);omega) ?_;refine evs [18,27] [] ?_;refine Walk.idx sl32 .none rfl rfl rfl rfl (zaH hg1.1) rfl ?_;refine evd [18,27] [] ?_;refine wc znd (zfp hw hb ht (hc' y hym) (hl.2 y hym) (hz y hym)) rfl rfl ?_;refine xaF .none rfl rfl rfl (by(try simp only[xaa,xab,xai]);omega) ?_;refine evd [18,27] [] ?_;refine dr ?_;refine ar ?_;refine xah ((pre++[y],rest,o++((if pre.length=0 then [] else [47])++zc9 w ⟨a,k⟩ y))) ⟨⟨(by have hz:=hg1.1;rw[<-hz];simp),⟨(by have h3:(if pre.length=0 then ([]:Str) else [47]).length<=1:=(by split<;>simp);simp only[xaa,xab,xai];omega),(by rw[<-hg1.2.2];simp[zdP])⟩⟩,(by simp),sx ⟨⟨_,rfl,xap ?_⟩,⟨⟨_,rfl,xaq ?_⟩,trivial⟩⟩ trivial⟩;iterate 2 focus (first|rfl|(simp;done)|omega|(dsimp only;rw[if_pos (by omega)];simp;done)|(dsimp only;rw[if_neg (by omega)];simp;done))
 refine Walk.idx sl32 .none rfl rfl rfl rfl (zaH hg1.1) rfl ?_;refine evd [18,27] [] ?_;refine wc znd (zfp hw hb ht (hc' y hym) (hl.2 y hym) (hz y hym)) rfl rfl ?_;refine xaF .none rfl rfl rfl (by(try simp only[xaa,xab,xai]);omega) ?_;refine evd [18,27] [] ?_;refine dr ?_;refine ar ?_;refine xah ((pre++[y],rest,o++((if pre.length=0 then [] else [47])++zc9 w ⟨a,k⟩ y))) ⟨⟨(by have hz:=hg1.1;rw[<-hz];simp),⟨(by have h3:(if pre.length=0 then ([]:Str) else [47]).length<=1:=(by split<;>simp);simp only[xaa,xab,xai];omega),(by rw[<-hg1.2.2];simp[zdP])⟩⟩,(by simp),sx ⟨⟨_,rfl,xap ?_⟩,⟨⟨_,rfl,xaq ?_⟩,trivial⟩⟩ trivial⟩;iterate 2 focus (first|rfl|(simp;done)|omega|(dsimp only;rw[if_pos (by omega)];simp;done)|(dsimp only;rw[if_neg (by omega)];simp;done))
 have hrest:rest=[]:=by
  rcases rest with _|⟨a,b⟩
  ·rfl
  ·exfalso;have hz:=congrArg List.length (hg1.1);simp only[xaa,xab,xac] at hz;omega
 subst hrest;refine rq ?_;rotate_left;all_goals (refine congrArg D.str ?_;have hfin:=hg1.2.2;simp only[zdP,List.append_nil] at hfin;exact hfin)
theorem zh1 {w:List Data} (hs:WSmall w) (hv:zaC w=true):A3 w:=fun t c ht hc=>by
 obtain⟨a,k⟩:=t;have hw:=zdh hs hv;refine⟨(zgB hw (zh3 hv) ht hc).2,fun u hu=>?_⟩;obtain⟨d,rfl,hd,hp⟩:=zbA ht hc;exact zim hw hd hp hu
theorem zoy {f:Ty->Int->Pat×Int}{s:Str}{M:Nat}:∀(ts:List Ty) (sg:List UInt8) (a:Int),(∀t∈ts,∀b,(f t b).1.ok/\(f t b).1.size<=M)->∀r,kidL f s ts sg a=some r->Pats.ok r.1/\Pats.size r.1<=ts.length*M/\r.1.length=ts.length
 | [],_,a,_,r,h=>by rw[kidL] at h;cases h;exact⟨trivial,by simp[Pats.size],rfl⟩
 |_::_,[],_,_,r,h=>by rw[kidL] at h;cases h
 |t::ts,c::cs,a,hf,r,h=>by
  rw[kidL] at h;split at h
  ·cases e:kidL f s ts cs (f t (a+1)).2 with
   |none=>rw[e] at h;cases h
   |some r2=>
    rw[e] at h;cases h;obtain⟨h1,h2,h3⟩:=zoy ts cs _ (fun u hu=>hf u (by simp[hu])) r2 e;have h0:=hf t (by simp) (a+1);refine⟨⟨h0.1,h1⟩, ?_,by simp[h3]⟩;show(f t (a+1)).1.size+Pats.size r2.1<=(ts.length+1)*M
    rw[Nat.add_mul];omega
  ·cases h
theorem zr5 {f:Ty->Int->Pat×Int}{s:Str}{M:Nat}{ts:List Ty}{sg:List UInt8}{a:Int} (hl:ts.length<=3) (hf:∀t∈ts,∀b,(f t b).1.ok/\(f t b).1.size<=M):Pats.ok (kidV f s ts sg a).1/\Pats.size (kidV f s ts sg a).1<=3*M/\(kidV f s ts sg a).1.length<=3:=by
 unfold kidV;cases e:kidL f s ts sg a with
 |none=>exact⟨trivial,by simp[Pats.size,Option.getD],by simp[Option.getD]⟩
 |some r=>
  obtain⟨h1,h2,h3⟩:=zoy ts sg a hf r e;refine⟨h1, ?_,by show r.1.length<=3;omega⟩;have:ts.length*M<=3*M:=Nat.mul_le_mul_right _ hl;show Pats.size r.1<=3*M
  omega
theorem zmi {w:List Data}{s:Str} (hA:A3 w):∀(n:Nat){t:Ty} (a:Int),TyIn w.length t->(zaw w s n t a).1.ok/\(zaw w s n t a).1.size<=4 ^ n
 |0,t,a,_=>⟨by rw[Pat.ok_iff];exact⟨by simp[zaw,Pat.kids],trivial⟩,by rw[Pat.size_eq];simp[zaw,Pat.kids,Pats.size]⟩
 |n+1,t,a,ht=>by
  have ih:=fun {t:Ty} (b:Int) (h:TyIn w.length t)=>zmi hA (s:=s) n b h;have hp:1<=4 ^ n:=Nat.pow_pos (by omega);have he:4 ^ (n+1)=4*4 ^ n:=by rw[Nat.pow_succ];omega
  have leaf:∀ {x1 x2 x3 x4 x5:Int},(Pat.mk x1 x2 x3 x4 x5 []).ok/\(Pat.mk x1 x2 x3 x4 x5 []).size<=4 ^ (n+1):=fun {x1 x2 x3 x4 x5}=>⟨by rw[Pat.ok_iff];exact⟨by simp[Pat.kids],trivial⟩,by rw[Pat.size_eq];simp[Pat.kids,Pats.size];omega⟩;have node:∀ {x1 x2 x3 x4 x5:Int}{ts:List Ty}{sg:List UInt8}{b:Int},ts.length<=3->(∀u∈ts,TyIn w.length u)->(Pat.mk x1 x2 x3 x4 x5 (kidV (zaw w s n) s ts sg b).1).ok/\(Pat.mk x1 x2 x3 x4 x5 (kidV (zaw w s n) s ts sg b).1).size<=4 ^ (n+1):=fun {x1 x2 x3 x4 x5 ts sg b} h1 h2=>by
   obtain⟨k1,k2,k3⟩:=zr5 (f:=zaw w s n) (sg:=sg) (a:=b) (s:=s) h1 (fun u hu b=>ih b (h2 u hu));refine⟨by rw[Pat.ok_iff];exact⟨by show(kidV (zaw w s n) s ts sg b).1.length<=_;omega,k1⟩, ?_⟩;rw[Pat.size_eq];show 1+Pats.size (kidV (zaw w s n) s ts sg b).1<=_
   omega
  have h2:∀u∈[t,t],TyIn w.length u:=by intro u hu;simp at hu;subst hu;exact ht
  have h1:∀u∈[t],TyIn w.length u:=by intro u hu;simp at hu;subst hu;exact ht
  unfold zaw;split
  ·exact leaf
  split
  ·exact leaf
  split
  ·unfold intP;split
   ·exact leaf
   ·exact leaf
  split
  ·split
   ·exact node (by simp) h2
   ·exact leaf
  split
  ·exact node (by simp) h1
  split
  ·exact leaf
  split
  ·exact leaf
  rename_i hc;have hA':=hA t _ ht (zeM hc);split
  ·exact node hA'.1 hA'.2
  split
  ·exact node hA'.1 hA'.2
  ·exact leaf
def wdsV (p:Str):List Str:=cutL 32 [] p
def prV (w:List Data) (t:Ty) (p:Str):Pat×Int:=zaw w (nth (wdsV p) 0) 10 t 0
def zhS (w:List Data) (t:Ty) (p:Str):Bool:= !decide ((prV w t p).2=((nth (wdsV p) 0).length:Int))||(decide (nth (wdsV p) 0=[])||decide (2<(wdsV p).length))
def pcC (w:List Data) (t:Ty) (p:Str):Cl:=⟨(prV w t p).1,if (wdsV p).length=2 then zc0 (nth (wdsV p) 1) else ⟨0,0,0⟩⟩
theorem zpc {w:List Data}{t:Ty}{p:Str} (h:(wdsV p).length=2):pcC w t p=⟨(prV w t p).1,zc0 (nth (wdsV p) 1)⟩:=by unfold pcC;rw[if_pos h]
theorem zpb {w:List Data}{t:Ty}{p:Str} (h:¬(wdsV p).length=2):pcC w t p=⟨(prV w t p).1,⟨0,0,0⟩⟩:=by unfold pcC;rw[if_neg h]
def pcP (s:Str):List Str:=cutL 47 [] s
def zcw (s:Str):Nat:=if s=[] then 0 else if (pcP s).length<=9 then (pcP s).length else 9
theorem zqm {s:Str}{i:Nat}:i<zcw s↔(i<(pcP s).length/\i<=8)/\s≠[]:=by
 unfold zcw;split
 ·rename_i h;simp[h]
 ·rename_i h;split<;>simp[h]<;>omega
def pcN (w:List Data) (t:Ty) (s:Str):Nat->Option (List Cl)
 |0=>some []
 |n+1=>match pcN w t s n with
  |none=>none
  |some r=>if zhS w t (nth (pcP s) n)=true then none else some (r++[pcC w t (nth (pcP s) n)])
theorem znO {w:List Data}{t:Ty}{s:Str}{n:Nat}{r:List Cl} (h:pcN w t s n=some r) (hb:zhS w t (nth (pcP s) n)=false):pcN w t s (n+1)=some (r++[pcC w t (nth (pcP s) n)]):=by
 rw[pcN,h];dsimp only;rw[if_neg (by rw[hb];simp)]
theorem zoH {w:List Data}{t:Ty}{s:Str}{i:Nat} (hb:zhS w t (nth (pcP s) i)=true):∀ {n:Nat},i<n->pcN w t s n=none
 |0,h=>by omega
 |n+1,h=>by
  rw[pcN];cases e:pcN w t s n with
  |none=>rfl
  |some r=>
   by_cases hi:i=n
   ·subst hi;dsimp only;rw[if_pos hb]
   ·rw[zoH hb (show i<n by omega)] at e;cases e
theorem znN {w:List Data}{t:Ty}{s:Str} (hA:A3 w) (ht:TyIn w.length t):∀ {n:Nat}{r:List Cl},pcN w t s n=some r->r.length=n/\∀c∈r,c.pat.ok/\c.pat.size<=10000000
 |0,r,h=>by rw[pcN] at h;cases h;simp
 |n+1,r,h=>by
  rw[pcN] at h;cases e:pcN w t s n with
  |none=>rw[e] at h;cases h
  |some r0=>
   rw[e] at h;dsimp only at h;split at h
   ·cases h
   ·cases h
    obtain⟨h1,h2⟩:=znN hA ht e;refine⟨by simp[h1],fun c hc=>?_⟩;rcases List.mem_append.1 hc with hc|hc
    ·exact h2 c hc
    ·rw[List.mem_singleton.1 hc];have:=zmi (s:=nth (wdsV (nth (pcP s) n)) 0) hA 10 (t:=t) 0 ht;exact⟨this.1,Nat.le_trans this.2 (by decide)⟩
def pcV (w:List Data) (t:Ty) (s:Str):Option (List Cl):=
 if zba w t=true then (match pcN w t s (zcw s) with|none=>none|some l=>if za7 w t l=true/\zdP w t true l=s then some l else none) else none
theorem zth {w:List Data}{t:Ty}{s:Str} (h:zba w t=false):pcV w t s=none:=by unfold pcV;rw[if_neg (by rw[h];simp)]
theorem zsb {w:List Data}{t:Ty}{s:Str} (h:pcN w t s (zcw s)=none):pcV w t s=none:=by unfold pcV;rw[h];split<;>rfl
theorem zse {w:List Data}{t:Ty}{s:Str}{l:List Cl} (h0:zba w t=true) (h:pcN w t s (zcw s)=some l) (h1:za7 w t l=true) (h2:zdP w t true l=s):pcV w t s=some l:=by unfold pcV;rw[if_pos h0,h];dsimp only;rw[if_pos ⟨h1,h2⟩]
theorem zsc {w:List Data}{t:Ty}{s:Str}{l:List Cl} (h:pcN w t s (zcw s)=some l) (h1:za7 w t l=false):pcV w t s=none:=by unfold pcV;rw[h];dsimp only;split;rw[if_neg (fun h=>by rw[h1] at h;simp at h)];rfl
theorem zsd {w:List Data}{t:Ty}{s:Str}{l:List Cl} (h:pcN w t s (zcw s)=some l) (h2:¬zdP w t true l=s):pcV w t s=none:=by unfold pcV;rw[h];dsimp only;split;rw[if_neg (fun h=>h2 h.2)];rfl
theorem zoQ (p:Str):1<=(wdsV p).length:=zff 32 p []
theorem zhV {w:List Data} (hs:WSmall w){a k:Int}{s:Str} (hsl:s.length<=1000000):
  FnD Tryz.prog 178 [.d (zak w),.agg [.d (.i a),.d (.i k)],.d (.str s)] [] (.tup [.d (zcZ ((pcV w ⟨a,k⟩ s).getD [])),.d (.bool (pcV w ⟨a,k⟩ s).isSome)]) []:=by
 cases htv:zba w ⟨a,k⟩ with
 |false=>
  have h0:=zdF hs (a:=a) (b:=k);rw[htv] at h0;rw[zth htv];refine bd Tryz.f178 98 [] [] fun w0 F0 own kept hk=>?_;refine bx 3004 ?_;refine ev ?_;refine xa5 sl32 .none rfl ?_;refine ev ?_;refine wc zmO (h0) rfl rfl ?_;refine ev ?_;refine sq ?_ ?_<;>intro h1 h1p h1s<;>(try simp only[Q] at h1p);focus (refine rn0 (r2 rfl rfl) (.tup (.cons (.eqd ?_) (.cons (.eqd ?_) .nil)));all_goals (first|rfl|(simp[h1s,h1p];done)|(simp_all;done)|(simp_all;omega)|omega))
  exfalso;simp at *
 |true=>
  have h0:=zdF hs (a:=a) (b:=k);rw[htv] at h0;obtain⟨wv,ht,_⟩:=zcM htv;have hw:=zdh hs wv;have hA:=zh1 hs wv;have hc1:FnD Tryz.prog 117 [.d (.str s),.d (.int .u8 47)] [] (.d (zbY (pcP s))) []:=zbb (s:=s) (c:=47) (by omega);have hpl:∀i,i<(pcP s).length->(nth (pcP s) i).length<=1000000:=fun i hi=>by have:=zbV (c:=47) (s:=s) hi;exact Nat.le_trans this hsl
  have hc2:∀i,i<(pcP s).length->FnD Tryz.prog 117 [.d (.str (nth (pcP s) i)),.d (.int .u8 32)] [] (.d (zbY (wdsV (nth (pcP s) i)))) []:=fun i hi=>zbb (s:=nth (pcP s) i) (c:=32) (by have:=hpl i hi;omega);have hwl:∀i,i<(pcP s).length->∀j,j<(wdsV (nth (pcP s) i)).length->(nth (wdsV (nth (pcP s) i)) j).length<=1000000:=fun i hi j hj=>by have:=zbV (c:=32) (s:=nth (pcP s) i) hj;exact Nat.le_trans this (hpl i hi)
  have hpp:∀i,i<(pcP s).length->FnD Tryz.prog 229 [.d (zak w),.agg [.d (.i a),.d (.i k)],.d (.str (nth (wdsV (nth (pcP s) i)) 0)),.d (.i 0),.d (.i 10)] [] (.tup [.agg [.d (.i (prV w ⟨a,k⟩ (nth (pcP s) i)).1.op),.d (.i (prV w ⟨a,k⟩ (nth (pcP s) i)).1.ctor),.d (.i (prV w ⟨a,k⟩ (nth (pcP s) i)).1.n),.d (.i (prV w ⟨a,k⟩ (nth (pcP s) i)).1.m),.d (.i (prV w ⟨a,k⟩ (nth (pcP s) i)).1.var),.d (zaQ (prV w ⟨a,k⟩ (nth (pcP s) i)).1.kids)],.d (.i (prV w ⟨a,k⟩ (nth (pcP s) i)).2)]) []:=fun i hi=>
   zgV hw hA (s:=nth (wdsV (nth (pcP s) i)) 0) (by have:=hwl i hi 0 (zoQ _);omega) 10 (by omega) ht ⟨by omega,by omega⟩
  have hlim:=fun i=>zqm (s:=s) (i:=i);have hll:zcw s<=9:=by
   unfold zcw;split
   ·omega
   ·split<;>omega
  have hwd:=fun p:Str=>zoQ p;have hbd:∀i,zhS w ⟨a,k⟩ (nth (pcP s) i)=(!decide ((prV w ⟨a,k⟩ (nth (pcP s) i)).2=((nth (wdsV (nth (pcP s) i)) 0).length:Int))||(decide (nth (wdsV (nth (pcP s) i)) 0=[])||decide (2<(wdsV (nth (pcP s) i)).length))):=fun _=>rfl;have hby:∀i,(¬(prV w ⟨a,k⟩ (nth (pcP s) i)).2=((nth (wdsV (nth (pcP s) i)) 0).length:Int)\/nth (wdsV (nth (pcP s) i)) 0=[]\/2<(wdsV (nth (pcP s) i)).length)->zhS w ⟨a,k⟩ (nth (pcP s) i)=true:=fun i h=>by
   rw[hbd];rcases h with h|h|h
   ·rw[decide_eq_false h];rfl
   ·rw[decide_eq_true h];simp
   ·rw[decide_eq_true h];simp
  have hbn:∀i,(prV w ⟨a,k⟩ (nth (pcP s) i)).2=((nth (wdsV (nth (pcP s) i)) 0).length:Int)->¬nth (wdsV (nth (pcP s) i)) 0=[]->¬2<(wdsV (nth (pcP s) i)).length->zhS w ⟨a,k⟩ (nth (pcP s) i)=false:=fun i h h1 h2=>by
   rw[hbd,decide_eq_true h,decide_eq_false h1,decide_eq_false h2];rfl
  have hno:=fun(i:Nat) (h:i<zcw s) (hb:zhS w ⟨a,k⟩ (nth (pcP s) i)=true)=>zsb (zoH hb h);have hok:=fun(n:Nat) (r:List Cl) (h:pcN w ⟨a,k⟩ s n=some r)=>znN hA ht h;have hcv:=fun(n:Nat) (r:List Cl) (hn:n<=9) (h:pcN w ⟨a,k⟩ s n=some r)=>zdE hs (a:=a) (k:=k) (l:=r) ⟨by have:=(hok n r h).1;omega,fun c hc=>((hok n r h).2 c hc).1⟩ (fun c hc=>by have:=((hok n r h).2 c hc).2;omega);have htx:=fun(n:Nat) (r:List Cl) (hn:n<=9) (h:pcN w ⟨a,k⟩ s n=some r) (hv:za7 w ⟨a,k⟩ r=true)=>zle hs (l:=r) ⟨by have:=(hok n r h).1;omega,fun c hc=>((hok n r h).2 c hc).1⟩ (fun c hc=>((hok n r h).2 c hc).2) hv;refine bd Tryz.f178 98 [] [] fun w0 F0 own kept hk=>?_;refine bx 3004 ?_;refine ev ?_;refine xa6 1 sl32 .none rfl rfl ?_;refine ev ?_;refine wc zmO (h0) rfl rfl ?_;refine ev ?_;refine sq ?_ ?_<;>intro h1 h1p h1s<;>(try simp only[Q,Int.natCast_inj,xac] at h1p);exfalso;simp at *;refine wc zbF (hc1) rfl rfl ?_;refine ev ?_;refine xak (ι:=Nat×List Cl) hk (fun x=>[(10,.d (.i (x.1:Int))),(8,.gl 1 (x.2.map Cl.c))]) [6,7,11,12,13,14,23,24,25,26,27,28,29,30,31,32,33,34,35,36,37,38,39,40,41,42,43,44,45,46,47,48,49,50,51,52,53,54,55,56,57,58,59,60,61,62,63,64,65,66,67,68,69,70,71,72,73,74,75,76,77,78,79,80,81,82] (fun x=>[(1,some (.tok ((x.2.map Cl.c)).length 9))]) (fun x=>x.1<=zcw s/\pcN w ⟨a,k⟩ s x.1=some x.2/\x.2.length<=x.1) (fun x=>zcw s-x.1) (0,[]) ⟨by simp,rfl,by simp⟩ ⟨⟨_,rfl,xap ?_⟩,⟨⟨_,rfl,LeA.glg ?_⟩,trivial⟩⟩ ⟨zaf ?_,trivial⟩ (fun x=>rfl) (fun x hg1=>?_);iterate 3 focus (first|rfl|omega|(rw[zpc (by omega),xaf];rfl)|(rw[zpb (by omega),xaf];rfl)|(simp;done)|(simp;omega))
  refine evc [] [] ?_;refine sq ?_ ?_<;>intro h2 h2p h2s<;>(try simp only[Q,Int.natCast_inj,xac] at h2p);refine sq ?_ ?_<;>intro h3 h3p h3s<;>(try simp only[Q,Int.natCast_inj,xac] at h3p);refine sq ?_ ?_<;>intro h4 h4p h4s<;>(try simp only[Q,Int.natCast_inj,xac] at h4p);refine Walk.idx zaD .none rfl rfl rfl rfl (zae (by first|omega|(have:=hwd (nth (pcP s) x.1);omega))) rfl ?_;refine ev ?_;refine wc zbF (hc2 x.1 (by omega)) rfl rfl ?_;refine ev ?_;refine Walk.idx (i:=0) zaD .none rfl rfl rfl rfl (zae (by first|omega|(have:=hwd (nth (pcP s) x.1);omega))) rfl ?_;refine evd [] [] ?_;refine wc zpL (hpp x.1 (by omega)) rfl rfl ?_;refine evd [] [] ?_;refine ab 3012 tz74 ?_;refine so ty74 ?_;refine evd [] [] ?_;refine dr ?_;refine Walk.idx (i:=0) zaD .none rfl rfl rfl rfl (zae (by first|omega|(have:=hwd (nth (pcP s) x.1);omega))) rfl ?_;refine ev ?_;refine sq ?_ ?_<;>intro h5 h5p h5s<;>(try simp only[Q,Int.natCast_inj,xac] at h5p);refine sqT ?_;refine sqT ?_;refine xa5 sl32 .none rfl ?_;refine ev ?_;refine rn0 (r2 rfl rfl) (.tup (.cons (.eqd ?_) (.cons (.eqd ?_) .nil)));rotate_left 2;refine Walk.idx (i:=0) zaD (.some rfl rfl h5) rfl rfl rfl rfl (zae (by first|omega|(have:=hwd (nth (pcP s) x.1);omega))) rfl ?_;refine evs [] [(57,false)] ?_ ⟨⟨_,rfl,h5⟩,trivial⟩;refine sq ?_ ?_<;>intro h7 h7p h7s<;>(try simp only[Q,Int.natCast_inj,xac] at h7p);refine sqT ?_;refine xa5 sl32 .none rfl ?_;refine ev ?_;refine rn0 (r2 rfl rfl) (.tup (.cons (.eqd ?_) (.cons (.eqd ?_) .nil)));rotate_left 2;refine sq ?_ ?_<;>intro h9 h9p h9s<;>(try simp only[Q,Int.natCast_inj,xac] at h9p);refine xa5 sl32 .none rfl ?_;refine ev ?_;refine rn0 (r2 rfl rfl) (.tup (.cons (.eqd ?_) (.cons (.eqd ?_) .nil)));rotate_left 2;refine bu [0] [_] st78 ?_;refine ab 3014 tz78 ?_;refine so ty78 ?_;refine tv ?_;refine sq ?_ ?_<;>intro h10 h10p h10s<;>(try simp only[Q,Int.natCast_inj,xac] at h10p);refine Walk.idx (i:=1) zaD .none rfl rfl rfl rfl (zae (by first|omega|(have:=hwd (nth (pcP s) x.1);omega))) rfl ?_;refine ev ?_;refine wc zsO (zhW (s:=nth (wdsV (nth (pcP s) x.1)) 1) (by have:=hwl x.1 (by omega) 1 (by omega);omega)) rfl rfl ?_;refine ev ?_;refine so ty76 ?_;refine tv ?_;refine si [0] [_] sl32 tz78 ?_;refine Walk.append sl32 zz78 rfl .none rfl rfl rfl rfl (zaW rfl (by first|rfl|(simp;done)|(simp;omega))) (by intro x hx;simp at hx;subst hx;rfl) (by simp;omega) (by simp;omega) ?_;refine ev ?_;refine ar ?_;refine xah ((x.1+1,x.2++[pcC w ⟨a,k⟩ (nth (pcP s) x.1)])) ⟨(by
      have hi:x.1<zcw s:=(hlim x.1).2 ⟨⟨by omega,by omega⟩,by first|assumption|(simp_all;done)⟩;exact⟨by dsimp only;omega,znO hg1.2.1 (hbn x.1 (by omega) (by assumption) (by omega)),by simp;omega⟩),(by
      have hi:x.1<zcw s:=(hlim x.1).2 ⟨⟨by omega,by omega⟩,by first|assumption|(simp_all;done)⟩;dsimp only;omega),sx ⟨⟨_,rfl,xap ?_⟩,⟨⟨_,rfl,LeA.glg ?_⟩,trivial⟩⟩ ⟨zaf ?_,trivial⟩⟩
  iterate 3 focus (first|rfl|omega|(rw[zpc (by omega),xaf];rfl)|(rw[zpb (by omega),xaf];rfl)|(simp;done)|(simp;omega))
  refine si [0] [_] sl32 tz78 ?_;refine Walk.append sl32 zz78 rfl .none rfl rfl rfl rfl (zaW rfl (by first|rfl|(simp;done)|(simp;omega))) (by intro x hx;simp at hx;subst hx;rfl) (by simp;omega) (by simp;omega) ?_;refine ev ?_;refine ar ?_;refine xah ((x.1+1,x.2++[pcC w ⟨a,k⟩ (nth (pcP s) x.1)])) ⟨(by
      have hi:x.1<zcw s:=(hlim x.1).2 ⟨⟨by omega,by omega⟩,by first|assumption|(simp_all;done)⟩;exact⟨by dsimp only;omega,znO hg1.2.1 (hbn x.1 (by omega) (by assumption) (by omega)),by simp;omega⟩),(by
      have hi:x.1<zcw s:=(hlim x.1).2 ⟨⟨by omega,by omega⟩,by first|assumption|(simp_all;done)⟩;dsimp only;omega),sx ⟨⟨_,rfl,xap ?_⟩,⟨⟨_,rfl,LeA.glg ?_⟩,trivial⟩⟩ ⟨zaf ?_,trivial⟩⟩
  iterate 3 focus (first|rfl|omega|(rw[zpc (by omega),xaf];rfl)|(rw[zpb (by omega),xaf];rfl)|(simp;done)|(simp;omega))
  refine Walk.call (cr:=[]) zko (hcv x.1 x.2 (by omega) hg1.2.1) rfl .none rfl rfl (.cons (.refl _) (.cons (.refl _) (.cons (.gl _ _) .nil))) trivial rfl rfl rfl ?_;refine ev ?_;refine sq ?_ ?_<;>intro h11 h11p h11s<;>(try simp only[Q,Int.natCast_inj,xac] at h11p);refine sqT ?_;refine xa5 sl32 .none rfl ?_;refine ev ?_;refine rn0 (r2 rfl rfl) (.tup (.cons (.eqd ?_) (.cons (.eqd ?_) .nil)));rotate_left 2;refine Walk.call (cr:=[]) znb (htx x.1 x.2 (by omega) hg1.2.1 (by assumption)) rfl (.some rfl rfl h11) rfl rfl (.cons (.refl _) (.cons (.refl _) (.cons (.gl _ _) .nil))) trivial rfl rfl rfl ?_;refine evs [] [(88,false)] ?_ ⟨⟨_,rfl,h11⟩,trivial⟩;refine sq ?_ ?_<;>intro h13 h13p h13s<;>(try simp only[Q,Int.natCast_inj,xac] at h13p);refine xa5 sl32 .none rfl ?_;refine ev ?_;refine rn0 (r2 rfl rfl) (.tup (.cons (.eqd ?_) (.cons (.eqd ?_) .nil)));rotate_left 2;refine rn0 (r2 rfl rfl) (.tup (.cons (.gld ?_) (.cons (.eqd ?_) .nil)));rotate_left 2;refine sqF ?_;refine Walk.call (cr:=[]) zko (hcv x.1 x.2 (by omega) hg1.2.1) rfl .none rfl rfl (.cons (.refl _) (.cons (.refl _) (.cons (.gl _ _) .nil))) trivial rfl rfl rfl ?_;refine ev ?_;refine sq ?_ ?_<;>intro h15 h15p h15s<;>(try simp only[Q,Int.natCast_inj,xac] at h15p);refine sqT ?_;refine xa5 sl32 .none rfl ?_;refine ev ?_;refine rn0 (r2 rfl rfl) (.tup (.cons (.eqd ?_) (.cons (.eqd ?_) .nil)));rotate_left 2;refine Walk.call (cr:=[]) znb (htx x.1 x.2 (by omega) hg1.2.1 (by assumption)) rfl (.some rfl rfl h15) rfl rfl (.cons (.refl _) (.cons (.refl _) (.cons (.gl _ _) .nil))) trivial rfl rfl rfl ?_;refine evs [] [(88,false)] ?_ ⟨⟨_,rfl,h15⟩,trivial⟩;refine sq ?_ ?_<;>intro h17 h17p h17s<;>(try simp only[Q,Int.natCast_inj,xac] at h17p);refine xa5 sl32 .none rfl ?_;refine ev ?_;refine rn0 (r2 rfl rfl) (.tup (.cons (.eqd ?_) (.cons (.eqd ?_) .nil)));rotate_left 2;refine rn0 (r2 rfl rfl) (.tup (.cons (.gld ?_) (.cons (.eqd ?_) .nil)));rotate_left 2;refine sqF ?_;refine sqF ?_;refine Walk.call (cr:=[]) zko (hcv x.1 x.2 (by omega) hg1.2.1) rfl .none rfl rfl (.cons (.refl _) (.cons (.refl _) (.cons (.gl _ _) .nil))) trivial rfl rfl rfl ?_;refine ev ?_;refine sq ?_ ?_<;>intro h19 h19p h19s<;>(try simp only[Q,Int.natCast_inj,xac] at h19p);refine sqT ?_;refine xa5 sl32 .none rfl ?_;refine ev ?_;refine rn0 (r2 rfl rfl) (.tup (.cons (.eqd ?_) (.cons (.eqd ?_) .nil)));rotate_left 2;refine Walk.call (cr:=[]) znb (htx x.1 x.2 (by omega) hg1.2.1 (by assumption)) rfl (.some rfl rfl h19) rfl rfl (.cons (.refl _) (.cons (.refl _) (.cons (.gl _ _) .nil))) trivial rfl rfl rfl ?_;refine evs [] [(88,false)] ?_ ⟨⟨_,rfl,h19⟩,trivial⟩;refine sq ?_ ?_<;>intro h21 h21p h21s<;>(try simp only[Q,Int.natCast_inj,xac] at h21p);refine xa5 sl32 .none rfl ?_;refine ev ?_;refine rn0 (r2 rfl rfl) (.tup (.cons (.eqd ?_) (.cons (.eqd ?_) .nil)));rotate_left 2;refine rn0 (r2 rfl rfl) (.tup (.cons (.gld ?_) (.cons (.eqd ?_) .nil)));rotate_left 2;all_goals (first|rfl|(rw[hno x.1 ((hlim x.1).2 ⟨⟨by omega,by omega⟩,by first|assumption|(simp_all;done)⟩) (hby x.1 (by first|exact .inl (by omega)|exact .inr (.inl (by assumption))|exact .inr (.inr (by omega))))];rfl)|(have e:x.1=zcw s:=(by have h9:=(hlim x.1);by_cases hi:x.1<zcw s;(exfalso;have h8:=h9.1 hi;first|omega|exact h8.2 (by assumption)|(simp_all;done));omega);have hN:=hg1.2.1;rw[e] at hN;first|(rw[zse htv hN (by assumption) (by assumption)];all_goals rfl)|(rw[zsc hN (by assumption)];all_goals rfl)|(rw[zsd hN (by assumption)];all_goals rfl)))
end Go.Proofs.YtmchfdpleibpdaaGreat
