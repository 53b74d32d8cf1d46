/-
  THE ABSTRACT WALK AND THE WALKS, part 4 of 5.
-/
import Derived.Test.YtmkipahfpaacgaaGreatDoorT673
namespace Go.Proofs.YtmkipahfpaacgaaGreatDoor
open Go
set_option linter.unusedSimpArgs false
set_option linter.unusedVariables false
set_option maxRecDepth 100000
set_option maxHeartbeats 2000000
theorem zb6 {b:Str}{w:List Data} (hb:b.length<=2000) (hd:Dp w) (hf:Few w):∀(n:Nat){a k m:Int}{p:Nat},Deep w n ⟨a,k⟩ m->(n:Int)-10<=m->n<=5->p+bdV n<=1000000->
  FnD Tryz.prog 168 [.ref 900 0,.d (zae w),.d (zeN (w.length*4) (zab w)),.agg [.d (.i a),.d (.i k)],.d (.i m)] [(900,some (rdB b p))]
   (.agg [.d (.i (zaS b w (zab w) n ⟨a,k⟩ m p).1.ctor),.d (.i (zaS b w (zab w) n ⟨a,k⟩ m p).1.num),.d (zif (zaS b w (zab w) n ⟨a,k⟩ m p).1.kids)]) [(900,some (rdB b (zaS b w (zab w) n ⟨a,k⟩ m p).2))]
 |0,a,k,m,p,h,_,_,_=>by have:=h.pos;have:=h.le;omega
 |n+1,a,k,m,p,h,hm,hn5,hp=>by
  have ht:=zdY h.ins;have hml:=h.ml;have h4:=hd.four;have hbd:bdV (n+1)=1+3*bdV n:=rfl;have hfb:∀s,zab w s<=100000:=znH hd (k:=w.length*4+1) (s:=0) od od (pre:=[]) og;have hcl:=zer hd.wt ht;have hfl:(zbA w (zab w) ⟨a,k⟩ m).length<=(zau w ⟨a,k⟩).length:=List.length_filter_le _ _;have hflm:((((zau w ⟨a,k⟩).filter (zdD w (zab w) ⟨a,k⟩ m)).map fun n=>[D.i n]).length:Int)=(zbA w (zab w) ⟨a,k⟩ m).length:=by rw[xac];rfl
  have hfp:=fun hne=>zmn hd h hne;have v14:=fun hh=>zaK (b:=b) (p:=p) (n:=((zbA w (zab w) ⟨a,k⟩ m).length:Int)) hh;have hmem:=fun hne=>zf1 hd h hne b p;have hdm:=zkp (b:=b) (w:=w) (f:=zab w) (n:=n) (p:=p) (t:=⟨a,k⟩) (m:=m);have hdm2:=fun hne=>zkq (b:=b) (w:=w) (f:=zab w) (n:=n) (p:=p) (t:=⟨a,k⟩) (m:=m) hne rfl;generalize hcc:nth (zbA w (zab w) ⟨a,k⟩ m) (zan b p (zbA w (zab w) ⟨a,k⟩ m).length).toNat=cc at *;have hfm:=fun hne=>zeO (hmem hne);have hkid:=fun hne=>zgI hd h (hmem hne);have hfw:=fun hne=>(hf ⟨a,k⟩ cc (hfm hne).1 ht).1;have hok:=fun u q hu=>zct (b:=b) hd hf n u (m-1) q hu;have hat:¬a = -1->(((zau w ⟨a,k⟩).filter (zdD w (zab w) ⟨a,k⟩ m)).map fun n=>[D.i n])[(zan b p (zbA w (zab w) ⟨a,k⟩ m).length).toNat]?=some [D.i cc]:=fun hne=>by
   rw[<-hcc];exact zag (l:=zbA w (zab w) ⟨a,k⟩ m) (by have:=v14 (by have:=hfp hne;omega);omega)
  refine bd Tryz.f168 98 [] [9,11] fun _ _ _ _ hk=>?_;refine bx 3008 ?_;refine ab 3010 zg6 ?_;apply tv;apply sq<;>intro h1 h1p h1s<;>(try simp only[Q] at h1p);refine wd zbl (zaC (p:=p) (n:=10) hb od od) I I ⟨I,O⟩ ?_;refine bu [0,1] [_,_] zre ?_;refine so zdT ?_;apply tv;refine rn [(900,some (rdB b (zaS b w (zab w) (n+1) ⟨a,k⟩ m p).2))] (ra zdT) (.agg (qeen ?_ ?_ ?_)) ⟨I,I⟩ (SubO.get ⟨.inr ?_,⟨.inl I,O⟩⟩) (zaj I);rotate_left 4;refine wc zhu (zcW hd.wt ht) I I ?_;refine ev (xbR 5 zbd .none I I (ev (xaA (ι:=List (Int)×List (Int)) hk (fun x=>[(13,.d (.i (x.1.length:Int))),(12,.gl 5 ((x.1.filter (zdD w (zab w) ⟨a,k⟩ m)).map fun n=>[D.i n]))]) [14,28,29,30,31,32,33,34,35,36,37,38,39,40,41,42,43,44,45,46,47,48,49,50,51,52,53,54,55,56,57,58,59,60,61,62] (fun x=>[(5,some (.tok (((x.1.filter (zdD w (zab w) ⟨a,k⟩ m)).map fun n=>[D.i n])).length 1))]) (fun x=>x.1++x.2=zau w ⟨a,k⟩) (fun x=>x.2.length) ([],zau w ⟨a,k⟩) og ⟨⟨_,I,xaV ?_⟩,⟨⟨_,I,LeA.glg ?_⟩,O⟩⟩ ⟨zaq ?_,O⟩ (fun x=>rfl) (fun x hg1=>?_))));iterate 3 focus (rfl)
  obtain⟨pre,rest⟩:=x;dsimp only at hg1 ⊢;refine evc [] [9,11] ?_;apply sq<;>intro h2 h2p h2s<;>(try simp only[Q] at h2p);rcases rest with _|⟨y,rest⟩
  ·exfalso;simp_all
  refine ixq zbd I I I (zaM hg1) I (evd [] [] (wc zoQ (zkM hd.wt ht (c:=y) (by rw[<-hg1];simp) od hfb (ziJ hd h.ins (by rw[<-hg1];simp))) I I ?_));refine evd [] [] (dr (xaB (xbk 14 [(55,.d (.bool (zdD w (zab w) ⟨a,k⟩ m y)))] [42,43,44,45,46,47,48,49,50,51,52,53,54] ?_ ?_)));refine ev ?_;apply sq<;>intro h3 h3p h3s<;>(try simp only[Q] at h3p);apply sq<;>intro h4 h4p h4s<;>(try simp only[Q] at h4p);focus (exact jn I (xaU (by(unfold zdD;rw[xat];simp_all;done))))
  refine Walk.call (cr:=[]) zeL (zbS h.ins od) I (.some I I h4) I I (LeL.refl _) O I I I ?_;refine evs [] [(44,true),(48,false)] ?_ ⟨⟨_,I,h3⟩,⟨_,I,h4⟩,O⟩;focus (exact jn I (xaU (by(unfold zdD;rw[xat];simp_all;omega))))
  focus (exact jn I (xaU (by(unfold zdD;rw[xat];simp_all;done))))
  refine xbj ?_;apply tv;apply sq<;>intro h5 h5p h5s<;>(try simp only[Q] at h5p);refine ixq zbd I I I (zaM hg1) I (ev (si [0] [_] zbd tz3 ?_));refine ap zbd zz3 I I I og (by(have hz:=xam List.length hg1;have hq:=List.length_filter_le (zdD w (zab w) ⟨a,k⟩ m) pre;simp at hz ⊢;omega)) ?_;refine ev (ar (xaj ((pre++[y],rest)) ⟨(by have hz:=hg1;rw[<-hz];simp),og,sx ⟨⟨_,I,xaV ?_⟩,⟨⟨_,I,LeA.glg ?_⟩,O⟩⟩ ⟨zaq ?_,O⟩⟩));iterate 3 focus (first|(simp;done)|(rw[zmo oh];all_goals rfl)|(rw[zmo oh];simp;done))
  refine ar (xaj ((pre++[y],rest)) ⟨(by have hz:=hg1;rw[<-hz];simp),og,sx ⟨⟨_,I,xaV ?_⟩,⟨⟨_,I,LeA.glg ?_⟩,O⟩⟩ ⟨zaq ?_,O⟩⟩);iterate 3 focus (first|(simp;done)|(rw[zrB oh];all_goals rfl))
  have hrest:rest=[]:=by
   rcases rest with _|⟨a,b⟩
   ·rfl
   ·exfalso;have hz:=xam List.length (hg1);simp only[xaa,xab,xac] at hz;omega
  subst hrest;rw[xaq] at hg1;subst hg1;refine evc [] [] (wd zbl (zaC (p:=p) (n:=((((zau w ⟨a,k⟩).filter (zdD w (zab w) ⟨a,k⟩ m)).map fun n=>[D.i n]).length:Int)) hb od od) I I ⟨I,O⟩ ?_);refine Walk.idxG (i:=(zan b p (zbA w (zab w) ⟨a,k⟩ m).length).toNat) zbd .none I I I (by rw[hflm];have:=v14 (by have:=hfp od;omega);omega) (hat od) I ?_;refine ev (bu [0] [_] zre ?_);refine ab 3015 zg6 ?_;refine so zdT ?_;apply tv;refine wc zdm (zbW hd.wt ht (hfm od).1) I I ?_;refine ev (xaC 3015 2 1 3 I I I I (xaA (ι:=List (Ty)×List (Ty)×(Nat)×(List Val)) hk (fun x=>[(17,.d (.i (x.1.length:Int)))]) [76,77,78,79,80,81,82,83,84,85,86,87,88,89,90,91,92,93,94,95,96] (fun x=>[(900,some (.box [.d (za7 b),.d (.i (x.2.2.1:Int))])),(3015,some (.box [.d (.i cc),.d (.i 0),.gl 1 (x.2.2.2.map Val.cc)])),(1,some (.tok (x.2.2.2.map Val.cc).length 3))]) (fun x=>x.1++x.2.1=zac w ⟨a,k⟩ cc/\x.2.2.1<=p+1+x.1.length*bdV n/\x.2.2.2.length=x.1.length/\(x.2.2.2++(dV (dW b w n m) x.2.1 x.2.2.1).1,(dV (dW b w n m) x.2.1 x.2.2.1).2)=dV (dW b w n m) (zac w ⟨a,k⟩ cc) (p+1)) (fun x=>x.2.1.length) ([],zac w ⟨a,k⟩ cc,p+1,[]) ⟨by simp,by simp,by simp,by simp⟩ ⟨⟨_,I,xaV ?_⟩,O⟩ ⟨?_,⟨?_,⟨zaq ?_,O⟩⟩⟩ (fun x=>rfl) (fun x hg2=>?_)));focus (rfl)
  iterate 2 focus (first|rfl|(simp[getH];done))
  focus (rfl)
  obtain⟨pre,rest,q,ks⟩:=x;dsimp only at hg2 ⊢;refine evc [] [9,11] ?_;apply sq<;>intro h6 h6p h6s<;>(try simp only[Q] at h6p);rcases rest with _|⟨y,rest⟩
  ·exfalso;simp_all
  have hfw3:=hfw od;have hpm:pre.length*bdV n<=2*bdV n:=xav _ (by have hz:=xam List.length hg2.1;have:=hfw od;simp at hz;omega);refine ixq zaJ I I I (zaM hg2.1) I (evd [] [] (ar (wd zcs (zb6 hb hd hf n (a:=y.data) (k:=y.index) (m:=m-1) (p:=q) (hkid od y (by rw[<-hg2.1];simp)) od od od) I I ⟨I,O⟩ ?_)));refine si [0] [_] zoo zg6 ?_;refine ap zoo ztC I I I og (by(have hz:=xam List.length hg2.1;have:=hfw od;simp at hz ⊢;omega)) ?_;refine evd [] [] (so ztx ?_);refine dr (ar (xaj ((pre++[y],rest,(zaS b w (zab w) n y (m-1) q).2,ks++[(zaS b w (zab w) n y (m-1) q).1])) ⟨⟨(by have hz:=hg2.1;rw[<-hz];simp),⟨(by have:=(hok y q (hkid od y (by rw[<-hg2.1];simp))).1;simp only[xaa,xab,xak,Nat.add_mul];omega),(by simp[hg2.2.2.1]),(by rw[<-hg2.2.2.2];simp[dV])⟩⟩,og,sx ⟨⟨_,I,xaV ?_⟩,O⟩ ⟨?_,⟨?_,⟨zaq ?_,O⟩⟩⟩⟩));focus ((simp;done))
  iterate 2 focus (first|rfl|(simp[getH];done))
  focus ((simp;done))
  have hrest:rest=[]:=by
   rcases rest with _|⟨a,b⟩
   ·rfl
   ·exfalso;have hz:=xam List.length (hg2.1);simp only[xaa,xab,xac] at hz;omega
  subst hrest;refine so zdT ?_;apply tv;refine rn [(900,some (rdB b (zaS b w (zab w) (n+1) ⟨a,k⟩ m p).2))] (ra zdT) (.agg (qeeg ?_ ?_ ?_)) ⟨I,I⟩ (SubO.get ⟨.inr ?_,⟨.inl I,O⟩⟩) (zaj I);rotate_left 4;all_goals (((first|(rw[hdm od];all_goals rfl)|(rw[hdm2 od];have hfin:=hg2.2.2.2;simp only[dV,xaq] at hfin;rw[<-hfin];all_goals first|rfl|(show _=D.sl (Val.cs _);rw[xa9];all_goals rfl)|(show _=Val.cs _;rw[xa9];all_goals rfl)));done))
set_option maxRecDepth 1000000
def indT (m S r h:Nat):Nat:=bif (Nat.beq (Nat.mod (Nat.add (Nat.xor S r) h) 3) 0&&(Nat.beq m 3||Nat.beq (Nat.mod (Nat.xor S r) 2) 0)) then 1 else 0
def ind (m S q:Nat):Nat:=indT m S (q % 64) ((q ^^^ (q / 64)) % 3)
def cnt (m S e:Nat):Nat->Nat->Nat
 |0,_=>0
 |n+1,q=>ind m S q+cnt m S e n (q+e)
theorem zmc (m S e:Nat):∀n q,cnt m S e (n+1) q=cnt m S e n q+ind m S (q+n*e)
 |0,q=>by simp only[cnt,Nat.zero_mul,Nat.add_zero,Nat.zero_add]
 |n+1,q=>by
  have:=zmc m S e n (q+e);simp only[cnt] at this ⊢;have h:q+e+n*e=q+(n+1)*e:=by rw[Nat.add_mul];omega
  rw[h] at this;omega
theorem zmv (m S q:Nat):ind m S q<=1:=by unfold ind indT;cases (Nat.beq _ _&&_)<;>simp
theorem zoZ (m S e:Nat):∀n q,cnt m S e n q<=n
 |0,_=>Nat.le_refl _
 |n+1,q=>by have:=zoZ m S e n (q+e);have:=zmv m S q;simp only[cnt];omega
noncomputable def lan (f:Nat->Nat) (s n:Nat):Nat:=Nat.rec (motive:=fun _=>Nat->Nat) (fun _=>0) (fun _ ih s=>Nat.add (f s) (Nat.mul 65536 (ih (Nat.succ s)))) n s
theorem zgp (f g:Nat->Nat):∀n s,lan (fun S=>f S+g S) s n=lan f s n+lan g s n
 |0,s=>rfl
 |n+1,s=>by
  show f s+g s+65536*lan (fun S=>f S+g S) (s+1) n=f s+65536*lan f (s+1) n+(g s+65536*lan g (s+1) n)
  rw[zgp f g n (s+1)];omega
theorem znz {f:Nat->Nat} (h:∀s,f s<65536):∀n s,lan f s n &&& lan (fun _=>32768) s n=0->∀S,s<=S->S<s+n->f S<32768
 |0,s,_,S,h1,h2=>by omega
 |n+1,s,hz,S,h1,h2=>by
  have hz':(f s+65536*lan f (s+1) n) &&& (32768+65536*lan (fun _=>32768) (s+1) n)=0:=hz;have hf:=h s;by_cases hS:S=s
  ·subst hS;have e:=xam (fun x=>x % 2 ^ 16 / 2 ^ 15) hz';simp only[Nat.and_mod_two_pow,Nat.and_div_two_pow] at e;rw[show(f S+65536*lan f (S+1) n) % 2 ^ 16=f S by omega,show(32768+65536*lan (fun _=>32768) (S+1) n) % 2 ^ 16=32768 by omega] at e;rcases Nat.lt_or_ge (f S) 32768 with hlt|hge
   ·exact hlt
   ·rw[show f S / 2 ^ 15=1 by omega] at e;exact absurd e ol
  ·have e:=xam (fun x=>x / 2 ^ 16) hz';simp only[Nat.and_div_two_pow] at e;rw[show(f s+65536*lan f (s+1) n) / 2 ^ 16=lan f (s+1) n by omega,show(32768+65536*lan (fun _=>32768) (s+1) n) / 2 ^ 16=lan (fun _=>32768) (s+1) n by omega] at e;exact znz h n (s+1) (by rw[e]) S od od
noncomputable def laneT (m r h:Nat):Nat:=lan (fun S=>indT m S r h) 0 64
noncomputable def tre (f:Nat->Nat) (d x base:Nat):Nat:=Nat.rec (motive:=fun _=>Nat->Nat) (fun base=>f base) (fun d ih base=>Bool.rec (ih base) (ih (Nat.add base (Nat.pow 2 d))) (Nat.beq (Nat.mod (Nat.div x (Nat.pow 2 d)) 2) 1)) d base
theorem zh7 (f:Nat->Nat) (x:Nat):∀d base,tre f d x base=f (base+x % 2 ^ d)
 |0,base=>by show f base=_;rw[Nat.pow_zero,Nat.mod_one,Nat.add_zero]
 |d+1,base=>by
  have h2:x / 2 ^ d % 2<2:=Nat.mod_lt _ od;show(Bool.rec (tre f d x base) (tre f d x (base+2 ^ d)) (Nat.beq (x / 2 ^ d % 2) 1):Nat)=_
  rw[Nat.mod_pow_succ,zh7 f x d,zh7 f x d];rcases(show x / 2 ^ d % 2=0\/x / 2 ^ d % 2=1 by omega) with h|h
  ·rw[h];show f (base+x % 2 ^ d)=_;rw[Nat.mul_zero,Nat.add_zero]
  ·rw[h];show f (base+2 ^ d+x % 2 ^ d)=_;rw[Nat.mul_one,show base+2 ^ d+x % 2 ^ d=base+(x % 2 ^ d+2 ^ d) by omega]
noncomputable def lkH (m q h:Nat):Nat:=bif Nat.beq h 0 then tre (fun b=>laneT m b 0) 6 q 0 else bif Nat.beq h 1 then tre (fun b=>laneT m b 1) 6 q 0 else tre (fun b=>laneT m b 2) 6 q 0
noncomputable def lkq (m q:Nat):Nat:=lkH m q (Nat.mod (Nat.xor q (Nat.div q 64)) 3)
theorem zmA (m q:Nat):lkq m q=lan (fun S=>ind m S q) 0 64:=by
 show lkH m q ((q ^^^ (q / 64)) % 3)=laneT m (q % 64) ((q ^^^ (q / 64)) % 3)
 have h2:(q ^^^ (q / 64)) % 3<3:=Nat.mod_lt _ od;generalize (q ^^^ (q / 64)) % 3=h at *;rcases(show h=0\/h=1\/h=2 by omega) with rfl|rfl|rfl
 ·show tre (fun b=>laneT m b 0) 6 q 0=_;rw[zh7,Nat.zero_add]
 ·show tre (fun b=>laneT m b 1) 6 q 0=_;rw[zh7,Nat.zero_add]
 ·show tre (fun b=>laneT m b 2) 6 q 0=_;rw[zh7,Nat.zero_add]
noncomputable def cwL (t e n q acc:Nat):Nat:=Nat.rec (motive:=fun _=>Nat->Nat->Nat) (fun _ acc=>acc) (fun _ ih q acc=>ih (Nat.add q e) (Nat.add acc (lkq t q))) n q acc
noncomputable def slide (t e w K M k q acc:Nat):Bool:=Nat.rec (motive:=fun _=>Nat->Nat->Bool) (fun _ acc=>Nat.beq (Nat.land (Nat.add acc K) M) 0) (fun _ ih q acc=>Bool.rec false (ih (Nat.add q e) (Nat.sub (Nat.add acc (lkq t (Nat.add q w))) (lkq t q))) (Nat.beq (Nat.land (Nat.add acc K) M) 0)) k q acc
theorem zoq (t e w K M k q acc:Nat):slide t e w K M (k+1) q acc=(Nat.beq (Nat.land (Nat.add acc K) M) 0&&slide t e w K M k (Nat.add q e) (Nat.sub (Nat.add acc (lkq t (Nat.add q w))) (lkq t q))):=by
 show(Bool.rec false (slide t e w K M k (Nat.add q e) (Nat.sub (Nat.add acc (lkq t (Nat.add q w))) (lkq t q))) (Nat.beq (Nat.land (Nat.add acc K) M) 0):Bool)=_
 cases Nat.beq (Nat.land (Nat.add acc K) M) 0<;>rfl
noncomputable def chains (t e n K M k r:Nat):Bool:=Nat.rec (motive:=fun _=>Bool) true (fun q ih=>Bool.rec false ih (slide t e (Nat.mul n e) K M k q (cwL t e n q 0))) r
theorem zm4 (t e n K M k q:Nat):chains t e n K M k (q+1)=(slide t e (Nat.mul n e) K M k q (cwL t e n q 0)&&chains t e n K M k q):=by
 show(Bool.rec false (chains t e n K M k q) (slide t e (Nat.mul n e) K M k q (cwL t e n q 0)):Bool)=_
 cases slide t e (Nat.mul n e) K M k q (cwL t e n q 0)<;>rfl
theorem zo1 (m e:Nat):∀n q acc,cwL m e n q acc=acc+lan (fun S=>cnt m S e n q) 0 64
 |0,q,acc=>by
  have:∀n s,lan (fun S=>cnt m S e 0 q) s n=0:=by
   intro n;induction n with
   |zero=>intro s;rfl
   |succ n ih=>intro s;show 0+65536*lan (fun S=>cnt m S e 0 q) (s+1) n=0;rw[ih]
  rw[this];rfl
 |n+1,q,acc=>by
  show cwL m e n (q+e) (acc+lkq m q)=_
  rw[zo1 m e n (q+e),zmA];have:=zgp (fun S=>ind m S q) (fun S=>cnt m S e n (q+e)) 64 0;show _=acc+lan (fun S=>ind m S q+cnt m S e n (q+e)) 0 64
  omega
theorem zoV {m e n c q:Nat} (hc:c<=32767) (hn:n<=32768) (h:Nat.beq (Nat.land (Nat.add (lan (fun S=>cnt m S e n q) 0 64) (lan (fun _=>32767-c) 0 64)) (lan (fun _=>32768) 0 64)) 0=true):∀S,S<64->cnt m S e n q<=c:=by
 intro S hS;have h1:=xap h;have h2:lan (fun S=>cnt m S e n q+(32767-c)) 0 64 &&& lan (fun _=>32768) 0 64=0:=by rw[zgp];exact h1
 have:=znz (fun s=>by have:=zoZ m s e n q;omega) 64 0 h2 S od od;have h3:cnt m S e n q+(32767-c)<32768:=this;omega
theorem zmU {m e n c:Nat} (hc:c<=32767) (hn:n<=32768):∀k q,slide m e (n*e) (lan (fun _=>32767-c) 0 64) (lan (fun _=>32768) 0 64) k q (lan (fun S=>cnt m S e n q) 0 64)=true->∀i,i<=k->∀S,S<64->cnt m S e n (q+i*e)<=c
 |0,q,h,i,hi=>by
  obtain rfl:i=0:=by omega
  rw[Nat.zero_mul,Nat.add_zero];exact zoV hc hn h
 |k+1,q,h,i,hi=>by
  rw[zoq,xad] at h;cases i with
  |zero=>rw[Nat.zero_mul,Nat.add_zero];exact zoV hc hn h.1
  |succ i=>
   have e1:Nat.sub (Nat.add (lan (fun S=>cnt m S e n q) 0 64) (lkq m (Nat.add q (n*e)))) (lkq m q)=lan (fun S=>cnt m S e n (q+e)) 0 64:=by
    show lan (fun S=>cnt m S e n q) 0 64+lkq m (q+n*e)-lkq m q=_
    rw[zmA,zmA,<-zgp];have h1:(fun S=>cnt m S e n q+ind m S (q+n*e))=fun S=>ind m S q+cnt m S e n (q+e):=by
     funext S;rw[<-zmc];rfl
    rw[h1,zgp];omega
   have h3:=h.2;rw[e1] at h3;rw[show q+(i+1)*e=q+e+i*e by rw[Nat.add_mul];omega];exact zmU hc hn k (q+e) h3 i od
theorem zcX {m e n c k:Nat} (he:0<e) (hc:c<=32767) (hn:n<=32768) (h:chains m e n (lan (fun _=>32767-c) 0 64) (lan (fun _=>32768) 0 64) k e=true){S q:Nat} (hS:S<64) (hq:q<e*(k+1)):cnt m S e n q<=c:=by
 have key:∀r,chains m e n (lan (fun _=>32767-c) 0 64) (lan (fun _=>32768) 0 64) k r=true->∀q,q<r->∀i,i<=k->∀S,S<64->cnt m S e n (q+i*e)<=c:=by
  intro r;induction r with
  |zero=>intro _ q hq;omega
  |succ r ih=>
   intro h q hq i hi;rw[zm4,xad] at h;by_cases hr:q=r
   ·subst hr;have h1:=h.1;rw[zo1,Nat.zero_add] at h1;exact zmU hc hn k q h1 i hi
   ·exact ih h.2 q od i hi
 have hd:q / e<k+1:=Nat.div_lt_of_lt_mul hq;have:=key e h (q % e) (Nat.mod_lt _ he) (q / e) od S hS;rwa [Nat.mul_comm (q / e) e,Nat.mod_add_div] at this
noncomputable def Mk:Nat:=lan (fun _=>32768) 0 64
noncomputable def K7:Nat:=lan (fun _=>32767-80) 0 64
theorem ck7:chains 6 1 192 K7 Mk 3200 1=true:=by kernel_rfl
theorem win7 {S q:Nat} (hS:S<64) (hq:q<3201):cnt 6 S 1 192 q<=80:=zcX (m:=6) (e:=1) (n:=192) (c:=80) (k:=3200) od od od ck7 hS hq
noncomputable def K263:Nat:=lan (fun _=>32767-94) 0 64
theorem ztg:chains 3 15 192 K263 Mk 107 15=true:=by kernel_rfl
theorem zs6 {S q:Nat} (hS:S<64) (hq:q<1620):cnt 3 S 15 192 q<=94:=zcX (m:=3) (e:=15) (n:=192) (c:=94) (k:=107) od od od ztg hS hq
noncomputable def K519:Nat:=lan (fun _=>32767-13) 0 64
theorem zth:chains 6 59 32 K519 Mk 55 59=true:=by kernel_rfl
theorem zs7 {S q:Nat} (hS:S<64) (hq:q<3304):cnt 6 S 59 32 q<=13:=zcX (m:=6) (e:=59) (n:=32) (c:=13) (k:=55) od od od zth hS hq
noncomputable def K775:Nat:=lan (fun _=>32767-63) 0 64
theorem zti:chains 3 44 128 K775 Mk 37 44=true:=by kernel_rfl
theorem zs8 {S q:Nat} (hS:S<64) (hq:q<1672):cnt 3 S 44 128 q<=63:=zcX (m:=3) (e:=44) (n:=128) (c:=63) (k:=37) od od od zti hS hq
noncomputable def K1031:Nat:=lan (fun _=>32767-13) 0 64
theorem zsF:chains 6 117 32 K1031 Mk 28 117=true:=by kernel_rfl
theorem zrY {S q:Nat} (hS:S<64) (hq:q<3393):cnt 6 S 117 32 q<=13:=zcX (m:=6) (e:=117) (n:=32) (c:=13) (k:=28) od od od zsF hS hq
noncomputable def K1287:Nat:=lan (fun _=>32767-126) 0 64
theorem zsG:chains 3 73 256 K1287 Mk 22 73=true:=by kernel_rfl
theorem zrZ {S q:Nat} (hS:S<64) (hq:q<1679):cnt 3 S 73 256 q<=126:=zcX (m:=3) (e:=73) (n:=256) (c:=126) (k:=22) od od od zsG hS hq
noncomputable def K1543:Nat:=lan (fun _=>32767-14) 0 64
theorem zsH:chains 6 175 32 K1543 Mk 19 175=true:=by kernel_rfl
theorem zr0 {S q:Nat} (hS:S<64) (hq:q<3500):cnt 6 S 175 32 q<=14:=zcX (m:=6) (e:=175) (n:=32) (c:=14) (k:=19) od od od zsH hS hq
noncomputable def K1799:Nat:=lan (fun _=>32767-120) 0 64
theorem zsI:chains 3 102 256 K1799 Mk 16 102=true:=by kernel_rfl
theorem zr1 {S q:Nat} (hS:S<64) (hq:q<1734):cnt 3 S 102 256 q<=120:=zcX (m:=3) (e:=102) (n:=256) (c:=120) (k:=16) od od od zsI hS hq
set_option maxRecDepth 100000
def uv (x:Int):Int:=if x=3 then 1 else if x=0\/x=1 then 0 else -1
def sU (u:Nat->Int):Nat->Nat->Int
 |_,0=>0
 |p,n+1=>u p+sU u (p+1) n
theorem zgr (u:Nat->Int):∀m n p,sU u p (m+n)=sU u p m+sU u (p+m) n
 |0,n,p=>by simp[sU]
 |m+1,n,p=>by
  rw[show m+1+n=(m+n)+1 by omega];simp only[sU];rw[zgr u m n (p+1),show p+1+m=p+(m+1) by omega];omega
theorem zkf (x:Int) : -1<=uv x/\uv x<=1:=by unfold uv;split<;>(try split)<;>omega
theorem zrd {u:Nat->Int} (h:∀k,u k<=1):∀n p,sU u p n<=n
 |0,p=>by simp[sU]
 |n+1,p=>by have:=zrd h n (p+1);have:=h p;simp only[sU];omega
def fN (y:Nat):Nat:=(y ^^^ (y / 64)) % 24
def uN (y:Nat):Int:=uv (fN y:Int)
def wS (D:Nat):Nat->Nat->Int
 |0,_=>0
 |n+1,y=>uN y+wS D n (y+D)
theorem zia (D:Nat):∀m n y,wS D (m+n) y=wS D m y+wS D n (y+m*D)
 |0,n,y=>by simp[wS]
 |m+1,n,y=>by
  rw[show m+1+n=(m+n)+1 by omega];simp only[wS];rw[zia D m n (y+D),show y+D+m*D=y+(m+1)*D by rw[Nat.add_mul];omega];omega
def g8 (r:Nat):Nat:=(r % 8) ^^^ (r / 64 % 8)
theorem zsQ (y:Nat):fN y % 8=g8 (y % 512):=by
 unfold fN g8;rw[Nat.mod_mod_of_dvd _ ol,show(8:Nat)=2 ^ 3 from rfl,Nat.xor_mod_two_pow];congr 1
 ·omega
 ·omega
def um (r:Nat):Int:=if r=3 then 1 else if r=0\/r=1 then 0 else -1
theorem zlW (y:Nat):uN y<=um (g8 (y % 512)):=by
 rw[<-zsQ];have h:fN y<24:=Nat.mod_lt _ od;unfold uN;generalize fN y=x at *;have key:∀x:Nat,x<24->uv (x:Int)<=um (x % 8):=by decide
 exact key x h
def zts:Bool:=(List.range 512).all fun r=>[128,384].all fun E=>decide (um (g8 r)+um (g8 ((r+E) % 512))+um (g8 ((r+2*E) % 512))+um (g8 ((r+3*E) % 512))<= -1)
theorem zqB:zts=true:=by kernel_rfl
theorem quad {E:Nat} (hE:E % 512=128\/E % 512=384) (y:Nat):uN y+uN (y+E)+uN (y+2*E)+uN (y+3*E)<= -1:=by
 have h:=List.all_eq_true.1 zqB (y % 512) (List.mem_range.2 (Nat.mod_lt _ od));have h2:=List.all_eq_true.1 h (E % 512) (by rcases hE with e|e<;>rw[e]<;>simp);have h3:=xas h2;have a0:=zlW y;have a1:=zlW (y+E);have a2:=zlW (y+2*E);have a3:=zlW (y+3*E);rw[show(y+E) % 512=(y % 512+E % 512) % 512 by omega] at a1;rw[show(y+2*E) % 512=(y % 512+2*(E % 512)) % 512 by omega] at a2;rw[show(y+3*E) % 512=(y % 512+3*(E % 512)) % 512 by omega] at a3;omega
theorem zrb {D E:Nat} (hE:E % 512=128\/E % 512=384):∀n y,wS D n y+wS D n (y+E)+wS D n (y+2*E)+wS D n (y+3*E)<= -n
 |0,y=>by simp[wS]
 |n+1,y=>by
  have h1:=quad hE y;have h2:=zrb (D:=D) hE n (y+D);simp only[wS];rw[show y+E+D=y+D+E by omega,show y+2*E+D=y+D+2*E by omega,show y+3*E+D=y+D+3*E by omega];omega
theorem four {D h:Nat} (hE:h*D % 512=128\/h*D % 512=384) (y:Nat):wS D (h+(h+(h+h))) y<= -h:=by
 have:=zrb (D:=D) hE h y;rw[zia,zia,zia,show y+h*D+h*D=y+2*(h*D) by omega,show y+2*(h*D)+h*D=y+3*(h*D) by omega];omega
theorem zro {S q:Nat} (hS:S<64):((S+64*q) ^^^ q) % 64=S ^^^ (q % 64)/\((S+64*q) ^^^ q) / 64=q ^^^ (q / 64):=by
 have e:(64:Nat)=2 ^ 6:=rfl;constructor
 ·have:=Nat.xor_mod_two_pow (a:=S+64*q) (b:=q) (n:=6);rw[<-e] at this;rw[this];congr 1;omega
 ·have:=Nat.xor_div_two_pow (a:=S+64*q) (b:=q) (n:=6);rw[<-e] at this;rw[this];congr 1;omega
theorem ind3 {S q:Nat} (hS:S<64) (h:ind 3 S q=0):((S+64*q) ^^^ q) % 3≠0:=by
 obtain⟨h1,h2⟩:=zro (q:=q) hS;intro h0;unfold ind indT at h;have e:Nat.beq (Nat.mod (Nat.add (Nat.xor S (q % 64)) ((q ^^^ q / 64) % 3)) 3) 0=true:=by
  have:((S ^^^ (q % 64))+(q ^^^ (q / 64)) % 3) % 3=0:=by rw[<-h1,<-h2];omega
  rw[show Nat.mod (Nat.add (Nat.xor S (q % 64)) ((q ^^^ q / 64) % 3)) 3=((S ^^^ (q % 64))+(q ^^^ (q / 64)) % 3) % 3 from rfl,this];rfl
 rw[e] at h;have h3:(1:Nat)=0:=h;omega
theorem ind6 {S q:Nat} (hS:S<64) (h:ind 6 S q=0):((S+64*q) ^^^ q) % 6≠0:=by
 obtain⟨h1,h2⟩:=zro (q:=q) hS;intro h0;unfold ind indT at h;have e:Nat.beq (Nat.mod (Nat.add (Nat.xor S (q % 64)) ((q ^^^ q / 64) % 3)) 3) 0=true:=by
  have:((S ^^^ (q % 64))+(q ^^^ (q / 64)) % 3) % 3=0:=by rw[<-h1,<-h2];omega
  rw[show Nat.mod (Nat.add (Nat.xor S (q % 64)) ((q ^^^ q / 64) % 3)) 3=((S ^^^ (q % 64))+(q ^^^ (q / 64)) % 3) % 3 from rfl,this];rfl
 have e2:Nat.beq (Nat.mod (Nat.xor S (q % 64)) 2) 0=true:=by
  have:(S ^^^ (q % 64)) % 2=0:=by rw[<-h1];omega
  rw[show Nat.mod (Nat.xor S (q % 64)) 2=(S ^^^ (q % 64)) % 2 from rfl,this];rfl
 rw[e,e2] at h;exact absurd h ol
theorem zs5 {s q:Nat} (hs:s<512):uN (s+512*q)<=2*(ind 3 (s / 8) q:Int)-1:=by
 have hi:=zmv 3 (s / 8) q;by_cases h:ind 3 (s / 8) q=0
 ·have hx:=ind3 od h;rw[h];have hz:((s+512*q) ^^^ ((s+512*q) / 64)) / 8=(s / 8+64*q) ^^^ q:=by
   have:=Nat.xor_div_two_pow (a:=s+512*q) (b:=(s+512*q) / 64) (n:=3);rw[show(2:Nat) ^ 3=8 from rfl] at this;rw[this];congr 1<;>omega
  rw[<-hz] at hx;unfold uN fN;generalize (s+512*q) ^^^ ((s+512*q) / 64)=z at *;have h24:z % 24≠0/\z % 24≠1/\z % 24≠3:=by omega
  unfold uv;rw[if_neg od,if_neg od];omega
 ·have:=(zkf (fN (s+512*q):Int)).2;unfold uN;omega
theorem zs4 {s q:Nat} (hs:s<256):uN (s+256*q)<=2*(ind 6 (s / 4) q:Int)-1:=by
 have hi:=zmv 6 (s / 4) q;by_cases h:ind 6 (s / 4) q=0
 ·have hx:=ind6 od h;rw[h];have hz:((s+256*q) ^^^ ((s+256*q) / 64)) / 4=(s / 4+64*q) ^^^ q:=by
   have:=Nat.xor_div_two_pow (a:=s+256*q) (b:=(s+256*q) / 64) (n:=2);rw[show(2:Nat) ^ 2=4 from rfl] at this;rw[this];congr 1<;>omega
  rw[<-hz] at hx;unfold uN fN;generalize (s+256*q) ^^^ ((s+256*q) / 64)=z at *;have h24:z % 24≠0/\z % 24≠1/\z % 24≠3:=by omega
  unfold uv;rw[if_neg od,if_neg od];omega
 ·have:=(zkf (fN (s+256*q):Int)).2;unfold uN;omega
theorem zp7 {s e:Nat} (hs:s<512):∀n q,wS (512*e) n (s+512*q)<=2*(cnt 3 (s / 8) e n q:Int)-n
 |0,q=>by simp[wS,cnt]
 |n+1,q=>by
  have h1:=zs5 (q:=q) hs;have h2:=zp7 (e:=e) hs n (q+e);simp only[wS,cnt];rw[show s+512*q+512*e=s+512*(q+e) by omega];omega
theorem zp6 {s e:Nat} (hs:s<256):∀n q,wS (256*e) n (s+256*q)<=2*(cnt 6 (s / 4) e n q:Int)-n
 |0,q=>by simp[wS,cnt]
 |n+1,q=>by
  have h1:=zs4 (q:=q) hs;have h2:=zp6 (e:=e) hs n (q+e);simp only[wS,cnt];rw[show s+256*q+256*e=s+256*(q+e) by omega];omega
def Less (L:Nat):Prop:=∃N,1<=N/\N<=1024/\∀A,A<=818000->wS (29*L+53) N A<= -2
def zq8 (L:Nat):Bool:=[1,2,4,8,16,32,64,128].any fun h=>decide (h*(29*L+53) % 512=128\/h*(29*L+53) % 512=384)
theorem zpr {L:Nat} (h:zq8 L=true):Less L:=by
 obtain⟨h,hm,hd⟩:=List.any_eq_true.1 h;have hE:=xas hd;have hb:1<=h/\h<=128:=by
  simp only[List.mem_cons,xau,or_false] at hm;omega
 refine⟨(h+(h+(h+h)))+(h+(h+(h+h))),by omega,by omega,fun A _=>?_⟩;have h1:=four hE A;have h2:=four hE (A+(h+(h+(h+h)))*(29*L+53));rw[zia];omega
theorem zgY {L e N c K:Nat} (hL:29*L+53=512*e) (hN:1<=N/\N<=1024) (hc:2*c+2<=N) (hK:1598<=K) (h:∀ {S q:Nat},S<64->q<K->cnt 3 S e N q<=c):Less L:=by
 refine⟨N,hN.1,hN.2,fun A hA=>?_⟩;have h1:=zp7 (s:=A % 512) (e:=e) od N (A / 512);have h2:=h (S:=A % 512 / 8) (q:=A / 512) od od;rw[hL];rw[show A % 512+512*(A / 512)=A by omega] at h1;omega
theorem zgX {L e N c K:Nat} (hL:29*L+53=256*e) (hN:1<=N/\N<=1024) (hc:2*c+2<=N) (hK:3196<=K) (h:∀ {S q:Nat},S<64->q<K->cnt 6 S e N q<=c):Less L:=by
 refine⟨N,hN.1,hN.2,fun A hA=>?_⟩;have h1:=zp6 (s:=A % 256) (e:=e) od N (A / 256);have h2:=h (S:=A % 256 / 4) (q:=A / 256) od od;rw[hL];rw[show A % 256+256*(A / 256)=A by omega] at h1;omega
theorem zrG:((List.range 2001).all fun L=>zq8 L||(decide (L=7)||decide (L=263)||decide (L=519)||decide (L=775)||decide (L=1031)||decide (L=1287)||decide (L=1543)||decide (L=1799)))=true:=by kernel_rfl
theorem zqq {L:Nat} (hL:L<=2000):Less L:=by
 have h:=List.all_eq_true.1 zrG L (List.mem_range.2 od);simp only[Bool.or_eq_true,xah] at h;rcases h with h|(((((((h|h)|h)|h)|h)|h)|h)|h)
 ·exact zpr h
 ·subst h;exact zgX (e:=1) (N:=192) (c:=80) I od od od win7
 ·subst h;exact zgY (e:=15) (N:=192) (c:=94) I od od od zs6
 ·subst h;exact zgX (e:=59) (N:=32) (c:=13) I od od od zs7
 ·subst h;exact zgY (e:=44) (N:=128) (c:=63) I od od od zs8
 ·subst h;exact zgX (e:=117) (N:=32) (c:=13) I od od od zrY
 ·subst h;exact zgY (e:=73) (N:=256) (c:=126) I od od od zrZ
 ·subst h;exact zgX (e:=175) (N:=32) (c:=14) I od od od zr0
 ·subst h;exact zgY (e:=102) (N:=256) (c:=120) I od od od zr1
theorem zqP {a b:Nat} (ha:a<2 ^ 62) (hb:b<2 ^ 62):xorV (a:Int) (b:Int)=((a ^^^ b:Nat):Int):=by
 have h1:(BitVec.ofInt 64 (a:Int) ^^^ BitVec.ofInt 64 (b:Int)).toNat=a ^^^ b:=by
  rw[BitVec.toNat_xor,BitVec.toNat_ofInt,BitVec.toNat_ofInt];have e1:((a:Int) % ((2 ^ 64:Nat):Int)).toNat=a:=by
   have:(a:Int) % ((2 ^ 64:Nat):Int)=a:=Int.emod_eq_of_lt od od;rw[this];simp
  have e2:((b:Int) % ((2 ^ 64:Nat):Int)).toNat=b:=by
   have:(b:Int) % ((2 ^ 64:Nat):Int)=b:=Int.emod_eq_of_lt od od;rw[this];simp
  rw[e1,e2]
 have h2:=Nat.xor_lt_two_pow (n:=62) ha hb;unfold xorV;rw[h1,zbU od]
def yN (b:Str) (k:Nat):Nat:=(nth b (k % b.length)).toNat*131+(nth b ((k*7+3) % b.length)).toNat*1117+k*29+k / b.length*53
theorem zpE (b:Str) (k:Nat):zeJ b k=(yN b k:Int):=by
 have h1:(nth b (k % b.length)).toNat<256:=(nth b (k % b.length)).toNat_lt;have h2:(nth b ((k*7+3) % b.length)).toNat<256:=(nth b ((k*7+3) % b.length)).toNat_lt;unfold zeJ yN;rw[zbU od,zbU od,xac,show(k:Int)+1-1=(k:Int) by omega];simp only[Int.natCast_add,Int.natCast_mul,Int.natCast_ediv];rfl
theorem zrL {b:Str}{k:Nat} (h0:1<=b.length) (hk:b.length<=k) (hb:k<=1000000000000):zan b k 24=(fN (yN b k):Int):=by
 have h1:(nth b (k % b.length)).toNat<256:=(nth b (k % b.length)).toNat_lt;have h2:(nth b ((k*7+3) % b.length)).toNat<256:=(nth b ((k*7+3) % b.length)).toNat_lt;have h3:k / b.length<=k:=Nat.div_le_self _ _;have hy:yN b k<2 ^ 62:=by unfold yN;omega
 unfold zan;rw[if_neg od,if_neg od,zpE];rw[show((yN b k:Nat):Int) / 64=((yN b k / 64:Nat):Int) by omega,zqP hy od];unfold fN;omega
def aN (b:Str) (i:Nat):Nat:=(nth b i).toNat*131+(nth b ((7*i+3) % b.length)).toNat*1117+i*29
theorem zqQ {b:Str}{j i:Nat} (hi:i<b.length):yN b (j*b.length+i)=aN b i+j*(29*b.length+53):=by
 have e1:(j*b.length+i) % b.length=i:=by rw[Nat.mul_add_mod_self_right];exact Nat.mod_eq_of_lt hi
 have e2:(j*b.length+i) / b.length=j:=by rw[Nat.mul_comm,Nat.mul_add_div od,Nat.div_eq_of_lt hi,Nat.add_zero]
 have e3:((j*b.length+i)*7+3) % b.length=(7*i+3) % b.length:=by
  rw[show(j*b.length+i)*7+3=j*7*b.length+(7*i+3) by rw[Nat.add_mul,Nat.mul_right_comm];omega,Nat.mul_add_mod_self_right]
 unfold yN aN;rw[e1,e2,e3,Nat.add_mul,Nat.mul_add,Nat.mul_assoc j b.length 29,Nat.mul_comm b.length 29];omega
theorem zs9 (b:Str) (i:Nat) (hi:i<=2000):aN b i<=376240:=by
 have h1:(nth b i).toNat<256:=(nth b i).toNat_lt;have h2:(nth b ((7*i+3) % b.length)).toNat<256:=(nth b ((7*i+3) % b.length)).toNat_lt;unfold aN;omega
def rowS (f:Nat->Nat->Int) (j:Nat):Nat->Int
 |0=>0
 |l+1=>rowS f j l+f j l
def colS (f:Nat->Nat->Int) (l:Nat):Nat->Nat->Int
 |_,0=>0
 |j,n+1=>f j l+colS f l (j+1) n
def matS (f:Nat->Nat->Int) (l:Nat):Nat->Nat->Int
 |_,0=>0
 |j,n+1=>rowS f j l+matS f l (j+1) n
theorem zlg (f:Nat->Nat->Int) (l:Nat):∀n j,matS f (l+1) j n=matS f l j n+colS f l j n
 |0,j=>rfl
 |n+1,j=>by simp only[matS,colS,rowS];rw[zlg f l n (j+1)];omega
theorem zlh (f:Nat->Nat->Int):∀n j,matS f 0 j n=0
 |0,j=>rfl
 |n+1,j=>by simp only[matS,rowS];rw[zlh f n (j+1)];omega
theorem znE {f:Nat->Nat->Int}{n j:Nat}{c:Int}:∀l,(∀i,i<l->colS f i j n<=c)->matS f l j n<=l*c
 |0,_=>by rw[zlh];simp
 |l+1,h=>by
  have h1:=znE l (fun i hi=>h i od);have h2:=h l od;rw[zlg,Int.natCast_add,Int.add_mul];omega
theorem zrR (u:Nat->Int) (p n:Nat):sU u p (n+1)=sU u p n+u (p+n):=by
 rw[zgr];simp[sU]
theorem zpM (u:Nat->Int) (L j:Nat):∀l,sU u (j*L) l=rowS (fun j i=>u (j*L+i)) j l
 |0=>rfl
 |l+1=>by rw[zrR,zpM u L j l];rfl
theorem zpL (u:Nat->Int) (L:Nat):∀n j,sU u (j*L) (n*L)=matS (fun j i=>u (j*L+i)) L j n
 |0,j=>by rw[Nat.zero_mul];rfl
 |n+1,j=>by
  rw[show(n+1)*L=L+n*L by rw[Nat.add_mul];omega,zgr,zpM,show j*L+L=(j+1)*L by rw[Nat.add_mul];omega,zpL u L n (j+1)];rfl
abbrev uP (b:Str) (k:Nat):Int:=uv (zan b k 24)
theorem zo0 {b:Str} (h0:1<=b.length){i:Nat} (hi:i<b.length):∀n j,1<=j->(j+n)*b.length<=100000000->colS (fun j i=>uP b (j*b.length+i)) i j n=wS (29*b.length+53) n (aN b i+j*(29*b.length+53))
 |0,j,_,_=>rfl
 |n+1,j,hj,hb=>by
  have h1:=zo0 h0 hi n (j+1) od (by rw[show j+1+n=j+(n+1) by omega];exact hb);have h2:b.length<=j*b.length:=Nat.le_mul_of_pos_left _ hj;have h3:j*b.length<=(j+(n+1))*b.length:=xav _ od;simp only[colS,wS];rw[h1,show aN b i+j*(29*b.length+53)+(29*b.length+53)=aN b i+(j+1)*(29*b.length+53) by rw[Nat.add_mul];omega];congr 1
  show uv (zan b (j*b.length+i) 24)=uN _
  rw[zrL h0 od od,zqQ hi];rfl
theorem zrQ {b:Str} (h0:1<=b.length) (hb:b.length<=2000){p:Nat} (hp:p<=4000):∃m,m<=3000000/\sU (uP b) p m<= -1:=by
 obtain⟨N,n1,n2,hA⟩:=zqq hb;obtain⟨j,j1,j2,j3⟩:∃j,1<=j/\p<=j*b.length/\j*b.length<=p+b.length:=by
  refine⟨p / b.length+1,Nat.le_add_left 1 _, ?_, ?_⟩
  ·have h1:=Nat.div_add_mod p b.length;have h2:=Nat.mod_lt p (show 0<b.length by omega);rw[Nat.add_mul,Nat.mul_comm (p / b.length)];omega
  ·have h1:=Nat.div_mul_le_self p b.length;rw[Nat.add_mul];omega
 have hNL:N*b.length<=1024*2000:=Nat.mul_le_mul n2 hb;refine⟨(j*b.length-p)+N*b.length,by omega, ?_⟩;rw[zgr,show p+(j*b.length-p)=j*b.length by omega,zpL];have h1:=zrd (u:=uP b) (fun k=>(zkf _).2) (j*b.length-p) p;have hj:j*(29*b.length+53)<=441000:=by
  have e:j*(29*b.length+53)=29*(j*b.length)+53*j:=by rw[Nat.mul_add,Nat.mul_left_comm,Nat.mul_comm j 53]
  by_cases hL:7<=b.length
  ·have:j*7<=j*b.length:=Nat.mul_le_mul_left _ hL;omega
  ·have:j<=4007:=by
    have h2:j*1<=j*b.length:=Nat.mul_le_mul_left _ h0;omega
   exact Nat.le_trans (Nat.le_of_eq e) od
 have h2:=znE (f:=fun j i=>uP b (j*b.length+i)) (n:=N) (j:=j) (c:= -2) b.length (fun i hi=>by
  rw[zo0 h0 hi N j j1 (by rw[Nat.add_mul];omega)];exact hA _ (by have:=zs9 b i od;omega))
 omega
def mutV (b:Str):Nat->Nat->Val->Option (Val×Nat)
 |0,_,_=>none
 |n+1,p,v=>
  if zan b p 24=0 then some (.mk (numV b (p+1) [0,1,-1,9,-2]) v.num v.kids,p+2)
  else if zan b p 24=1 then some (.mk v.ctor (numV b (p+1) [10,-1,1]) v.kids,p+2)
  else if zan b p 24=2 then some (.mk v.ctor v.num (v.kids++[.mk (-1) 0 []]),p+1)
  else if zan b p 24=3 then
   match v.kids with
   | []=>some (.mk v.ctor v.num v.kids,p+1)
   |k::r=>
    match mutV b n (p+1) k with
    |none=>none
    |some (k1,p1)=>
     match mutV b n p1 k1 with
     |none=>none
     |some (k2,p2)=>some (.mk v.ctor v.num (k2::r),p2)
  else some (.mk v.ctor v.num v.kids,p+1)
theorem xbg:∀a b:List Val,Vals.size (a++b)=Vals.size a+Vals.size b
 | [],b=>by simp[Vals.size]
 |x::r,b=>by simp only[xai,Vals.size,xbg r b];omega
theorem xbd (a n:Int) (k:List Val):(Val.mk a n k).size=1+Vals.size k:=rfl
theorem zrH {b:Str}{n p:Nat}{v:Val}{k:Val}{r:List Val} (h:zan b p 24=3) (hk:v.kids=k::r){v':Val}{q:Nat} (hm:mutV b (n+1) p v=some (v',q)):
  ∃k1 p1 k2,mutV b n (p+1) k=some (k1,p1)/\mutV b n p1 k1=some (k2,q)/\v' = .mk v.ctor v.num (k2::r):=by
 simp only[mutV] at hm;rw[if_neg od,if_neg od,if_neg od,if_pos h,hk] at hm;cases h1:mutV b n (p+1) k with
 |none=>simp[h1] at hm
 |some x=>
  obtain⟨k1,p1⟩:=x;cases h2:mutV b n p1 k1 with
  |none=>simp[h1,h2] at hm
  |some y=>
   obtain⟨k2,p2⟩:=y;simp only[h1,h2,xae,Prod.mk.injEq] at hm;obtain⟨rfl,rfl⟩:=hm;exact⟨k1,p1,k2,rfl,h2,rfl⟩
theorem zky {b:Str}:∀ {n:Nat}{p:Nat}{v v':Val}{q:Nat},mutV b n p v=some (v',q)->p<q/\v'.size<=v.size+(q-p)
 |0,p,v,v',q,h=>by simp[mutV] at h
 |n+1,p,v,v',q,h=>by
  have hv:=xbc v;by_cases h3:zan b p 24=3
  ·cases hk:v.kids with
   |nil=>
    simp only[mutV] at h;rw[if_neg od,if_neg od,if_neg od,if_pos h3,hk] at h;simp only[xae,Prod.mk.injEq] at h;obtain⟨rfl,rfl⟩:=h;rw[xbd];simp only[Vals.size];omega
   |cons k r=>
    obtain⟨k1,p1,k2,h1,h2,rfl⟩:=zrH h3 hk h;have a1:=zky h1;have a2:=zky h2;rw[hk] at hv;rw[xbd];simp only[Vals.size] at hv ⊢;omega
  ·simp only[mutV] at h;split at h
   ·simp only[xae,Prod.mk.injEq] at h;obtain⟨rfl,rfl⟩:=h;rw[xbd];omega
   split at h
   ·simp only[xae,Prod.mk.injEq] at h;obtain⟨rfl,rfl⟩:=h;rw[xbd];omega
   split at h
   ·simp only[xae,Prod.mk.injEq] at h;obtain⟨rfl,rfl⟩:=h;rw[xbd,xbg];simp only[Vals.size,Val.size];omega
   ·simp only[xae,Prod.mk.injEq] at h;obtain⟨rfl,rfl⟩:=h;rw[xbd];omega
def zdU (b:Str) (p:Nat):Ty:=⟨zan b (p+1) (za8 b p).length,numV b (p+2) [0,0,1,2]⟩
def typT (b:Str) (p:Nat):Ty:=if dv (zab (za8 b p)) (zdU b p)=0 then ⟨-1,0⟩ else zdU b p
def typV (b:Str) (p:Nat):Val×Nat:=zaS b (za8 b p) (zab (za8 b p)) 4 (typT b p) (numV b (p+3) [3,2,4,1]) (p+4)
theorem zsU {n:Nat}{a k:Int} (h1:0<=a) (h2:a<n) (h3:0<=k) (h4:k<=3):InS (n*4) ⟨a,k⟩:=by
 refine .inr ⟨?_, ?_⟩
 ·simp only[zdI];omega
 ·obtain⟨i,rfl⟩:=Int.eq_ofNat_of_zero_le h1;obtain⟨m,rfl⟩:=Int.eq_ofNat_of_zero_le h3;simp only[zdI,Int.toNat_natCast];exact zp0 od
theorem zrJ (b:Str) (p:Nat):0<=numV b p [0,0,1,2]/\numV b p [0,0,1,2]<=3:=by
 have:=zmE (b:=b) (p:=p) (l:=[0,0,1,2]) og;simp only[List.mem_cons,xau,or_false] at this;omega
theorem zmZ (b:Str) (p:Nat):InS ((za8 b p).length*4) (zdU b p):=by
 have h1:=zaK (b:=b) (p:=p+1) (n:=((za8 b p).length:Int)) (by have:=(zd8 b p).one;omega);have h2:=zrJ b (p+2);exact zsU h1.1 h1.2 h2.1 h2.2
theorem zd6 (b:Str) (p:Nat):Deep (za8 b p) 4 (typT b p) (numV b (p+3) [3,2,4,1]):=by
 have hl:=zfi b p;have h4:=num4 b (p+3);unfold typT;split
 ·exact⟨.inl rfl,by simp[dv],by simp[dv],by omega⟩
 ·rename_i h;have:=zlN (f:=zab (za8 b p)) (b:=3) hl.low od (zdU b p);exact⟨zmZ b p,by omega,by omega,by omega⟩
theorem zkT (b:Str) (p:Nat):(typV b p).2<=p+44/\(typV b p).1.size<=121/\(typV b p).1.ok:=by
 have hl:=zfi b p;have h:=zct (b:=b) hl.dp hl.few 4 (typT b p) (numV b (p+3) [3,2,4,1]) (p+4) (zd6 b p);have e1:bdV 4=40:=by decide
 have e2:szV 4=121:=by decide
 unfold typV;exact⟨by omega,by omega,h.2.2⟩
theorem zj7 {b:Str}{p:Nat} (hb:b.length<=2000) (hp:p<=100000):
  FnD Tryz.prog 163 [.ref 900 0] [(900,some (rdB b p))] (.tup [.d (zae (za8 b p)),.agg [.d (.i (typT b p).data),.d (.i (typT b p).index)],.agg [.d (.i (typV b p).1.ctor),.d (.i (typV b p).1.num),.d (zif (typV b p).1.kids)]]) [(900,some (rdB b (typV b p).2))]:=by
 have ho:=zd8 b p;have hl:=zfi b p;have h4:=num4 b (p+3);have hin:=zmZ b p;have hdeep:=zd6 b p;have hT:typT b p=if dv (zab (za8 b p)) (zdU b p)=0 then ⟨-1,0⟩ else zdU b p:=rfl
 have hV:typV b p=zaS b (za8 b p) (zab (za8 b p)) 4 (typT b p) (numV b (p+3) [3,2,4,1]) (p+4):=rfl;have e1:bdV 4=40:=by decide
 have hwd:=zj6 (p:=p) hb od;have hpk:=zaC (b:=b) (p:=p+1) (n:=(((za8 b p).map Data.c).length:Int)) hb od (by have:=ho.small.len;simp;omega);rw[show zan b (p+1) (((za8 b p).map Data.c).length:Int)=(zdU b p).data by rw[xac];rfl] at hpk;have hnu:=zcM (b:=b) (p:=p+2) (l:=[0,0,1,2]) hb od og og;rw[show numV b (p+2) [0,0,1,2]=(zdU b p).index from rfl] at hnu;have hdr:=fun(t:Ty) (h:Deep (za8 b p) 4 t (numV b (p+3) [3,2,4,1]))=>zb6 hb hl.dp hl.few 4 (a:=t.data) (k:=t.index) (p:=p+4) h od od od;have hdp:=zbS (f:=zab (za8 b p)) (a:=(zdU b p).data) (k:=(zdU b p).index) hin (by have:=hl.dp.four;omega);have htb:=zcG hl.dp;generalize za8 b p=w at *;generalize zdU b p=t0 at *;obtain⟨a0,k0⟩:=t0;have hdr2:=hdr ⟨-1,0⟩;have hdr3:=hdr ⟨a0,k0⟩;clear hdr;dsimp only at hT hV hdr2 hdr3;refine bd Tryz.f163 35 [] [] fun _ _ _ _ hk=>?_;refine ab 3003 tz38 ?_;refine ab 3004 zg6 ?_;apply tv;refine wd zsw hwd I I ⟨I,O⟩ ?_;refine ev (wc zhr htb I I ?_);refine ev (wd zbl hpk I I ⟨I,O⟩ ?_);refine ev (si [0,1,2,3] [_,_,_,_] zbd tz3 ?_);refine wd zfq hnu I I ⟨I,O⟩ ?_;refine bu [0,1] [_,_] st38 ?_;refine ab 3007 tz38 ?_;refine so ty38 ?_;apply tv;refine wc zeL hdp I I ?_;refine ev ?_;apply sq<;>intro h1 h1p h1s<;>(try simp only[Q] at h1p);have HDR:=hdr2 (by rw[if_pos od] at hT;rw[<-hT];exact hdeep);refine bu [0] [_] st38 ?_;refine so ty38 ?_;apply tv;refine si [0,1,2,3] [_,_,_,_] zbd tz3 ?_;refine wd zfq (zcM (b:=b) (p:=p+3) (l:=[3,2,4,1]) hb od og og) I I ⟨I,O⟩ ?_;refine wd zcs HDR I I ⟨I,O⟩ ?_;refine evd [] [] (so ty38 ?_);refine so zdT ?_;refine dr (rn [(900,some (rdB b (typV b p).2))] (.cons (.tmp I) (.cons (.cellA ty38 I I I) (ra zdT))) (.tup (.cons (.eqd ?_) (.cons (.agg (qee ?_ ?_)) (.cons (.agg (qeee ?_ ?_ ?_)) .nil)))) ⟨I,I⟩ (SubO.get ⟨.inr ?_,⟨.inl I,O⟩⟩) (zaj I));rotate_left 7;have HDR:=hdr3 (by rw[if_neg od] at hT;rw[<-hT];exact hdeep);refine si [0,1,2,3] [_,_,_,_] zbd tz3 ?_;refine wd zfq (zcM (b:=b) (p:=p+3) (l:=[3,2,4,1]) hb od og og) I I ⟨I,O⟩ ?_;refine wd zcs HDR I I ⟨I,O⟩ ?_;refine evd [] [] (so ty38 ?_);refine so zdT ?_;refine dr (rn [(900,some (rdB b (typV b p).2))] (.cons (.tmp I) (.cons (.cellA ty38 I I I) (ra zdT))) (.tup (.cons (.eqd ?_) (.cons (.agg (qee ?_ ?_)) (.cons (.agg (qeee ?_ ?_ ?_)) .nil)))) ⟨I,I⟩ (SubO.get ⟨.inr ?_,⟨.inl I,O⟩⟩) (zaj I));rotate_left 7;all_goals (first|((first|(rw[if_pos od] at hT;rw[hV,hT];all_goals rfl)|(rw[if_neg od] at hT;rw[hV,hT];all_goals rfl)|(rw[if_pos od] at hT;rw[hT];all_goals rfl)|(rw[if_neg od] at hT;rw[hT];all_goals rfl)|rfl);done)|(first|(rw[if_pos od] at hT;rw[hV,hT];all_goals rfl)|(rw[if_neg od] at hT;rw[hV,hT];all_goals rfl)))
section
variable {c:Ctx}{env:Env}{hp:Hp}{K:Kt}{code:Code}{ids:List Nat}
theorem CWp.fixVB (b off id k:Nat){n:Nat}{xs:List (List D)}{cs cs':List AV} (hb:getH hp b=some (.box cs)) (hc:cs[off]?=some (.gv id xs)) (hput:putC cs off [.ms id xs.length]=some cs') (ht:getH hp id=some (.tok n k)) (hn:n=xs.length) (hx0:xs≠[])
  (hnx:CWp c code ⟨env,(b,some (.box cs'))::(id,some (.box (xs.flatten.map .d)))::hp⟩ K):CWp c code ⟨env,hp⟩ K:=by
 rintro a w ⟨G,hr⟩
 subst hn;have hne:b≠id:=fun e=>by subst e;rw[hb] at ht;cases ht
 obtain⟨bl,vs,e,e1,e2,e3,e4,e5⟩:=hr.heap b _ hb;obtain⟨hlt,hcv⟩:=List.getElem?_eq_some_iff.1 hc;have hlv:off<vs.size:=by omega
 have h0:=e5 off hlt hlv;rw[hcv] at h0;obtain⟨hv0,hcl⟩:=h0.gv_inv;obtain⟨hkx,htip⟩:=(hcl _ _ (zak.2 ht)).2 rfl;rcases htip with ⟨_,h2,_⟩|⟨b1,cap,us,et,h1,h2,h3,h4,h5,h6,h7⟩
 ·exact absurd (List.eq_nil_of_length_eq_zero h2) hx0
 obtain⟨p1,p2,p3⟩:=zcn hput;have s1:(getH hp b).isSome:=by rw[hb];rfl
 have s2:(getH hp id).isSome:=by rw[ht];rfl
 have g1:getH ((b,some (Res.box cs'))::(id,some (.box (xs.flatten.map .d)))::hp) b=some (.box cs'):=by rw[zaa,if_pos rfl]
 have g2:getH ((b,some (Res.box cs'))::(id,some (.box (xs.flatten.map .d)))::hp) id=some (.box (xs.flatten.map .d)):=by rw[zaa,if_neg (Ne.symm hne),zaa,if_pos rfl]
 have t1:tokf ((b,some (Res.box cs'))::(id,some (.box (xs.flatten.map .d)))::hp) b=none:=by unfold tokf;rw[g1]
 have t2:tokf ((b,some (Res.box cs'))::(id,some (.box (xs.flatten.map .d)))::hp) id=none:=by unfold tokf;rw[g2]
 have hturn:Turn c G ⟨env,hp⟩ w G ((b,some (.box cs'))::(id,some (.box (xs.flatten.map .d)))::hp) [b,id]:=by
  refine⟨fun i hi=>?_,fun _ _=>rfl,fun _ _=>rfl,fun _ _ h=>h,hr.top,fun i hi=> .inr ⟨.inl rfl, ?_⟩,fun i hi _ x hx=>?_,fun i hi j hj hij _ _ x hx=>?_,fun i hi l hl=>?_⟩
  ·simp only[List.mem_cons,xau,or_false,not_or] at hi;rw[zaa,if_neg hi.1,zaa,if_neg hi.2]
  ·simp only[List.mem_cons,xau,or_false] at hi;rcases hi with rfl|rfl
   ·intro p hp;rw[t1] at hp;cases hp
   ·intro p hp;rw[t2] at hp;cases hp
  ·simp only[List.mem_cons,xau,or_false] at hi;rcases hi with rfl|rfl
   ·exact⟨i,by simp,s1,hx⟩
   ·exact⟨i,by simp,s2,hx⟩
  ·simp only[List.mem_cons,xau,or_false] at hi hj;rcases hi with rfl|rfl<;>rcases hj with rfl|rfl
   ·exact absurd I hij
   ·exact hr.disj _ _ s1 s2 hij x hx
   ·exact hr.disj _ _ s2 s1 hij x hx
   ·exact absurd I hij
  ·simp only[List.mem_cons,xau,or_false] at hi;have hk0:=hr.kept i l hl;rcases hi with rfl|rfl
   ·exact⟨hk0.1,by rw[g1];rfl,t1⟩
   ·have:=hk0.2.2;rw[show(⟨env,hp⟩:St).hp=hp from rfl,zak.2 ht] at this;cases this
 refine hnx a w ⟨G,hturn.fin hr (fun i hi r hri=>?_)⟩;simp only[List.mem_cons,xau,or_false] at hi;rcases hi with rfl|rfl
 ·rw[g1] at hri;cases hri
  refine⟨bl,vs,e,e1,e2,by omega,e4,fun j hj hjv=>?_⟩;have h8:=p3 j;rw[xan hj] at h8;by_cases hjo:j=off
  ·subst hjo;rw[if_pos og] at h8;simp only[Nat.sub_self,List.getElem?_cons_zero,xae] at h8;rw[h8,h2];exact .ms (by rw[h1];rfl) t2 h6
  ·rw[if_neg (by simp only[xab,xak];omega)] at h8;have hjc:j<cs.length:=by omega
   rw[xan hjc] at h8;rw[Option.some.inj h8];exact hturn.cell hr hb (xao hjc) (e5 j hjc hjv)
 ·rw[g2] at hri;cases hri
  have hfl:(xs.flatten.map AV.d).length=xs.length*k:=by rw[xac,zfw hkx]
  refine⟨b1,us,et,h1,h4,by rw[hfl];exact Nat.le_trans (xav _ h6) h5,h3,fun j hj hjv=>?_⟩;rw[hfl] at hj;obtain⟨d1,d2,d3⟩:=zk2 hj;have h8:=zhA hkx d1 d2;rw[d3,xan (by rw[hfl];exact hj)] at h8;rw[Option.some.inj h8];have h9:=h7 _ d1 (j % k) (by rw[hkx _ (xao d1)];exact d2);rw[d3,znu hjv] at h9;exact .d h9
end
mutual
theorem Val.ok_sz:∀v:Val,v.size<=1000000000000->v.ok
 | .mk a n ks,h=>by
  have h1:1+Vals.size ks<=1000000000000:=h;exact⟨by have:=xbe ks;omega,xbf ks od⟩
theorem xbf:∀l:List Val,Vals.size l<=1000000000000->Vals.ok l
 | [],_=>trivial
 |v::r,h=>by
  have h1:v.size+Vals.size r<=1000000000000:=h;exact⟨Val.ok_sz v od,xbf r od⟩
theorem xbe:∀l:List Val,l.length<=Vals.size l
 | []=>Nat.zero_le _
 |v::r=>by
  have h1:=xbe r;have h2:=xbc v;show r.length+1<=v.size+Vals.size r
  omega
end
theorem Val.cs_app (a b:List Val):Val.cs (a++b)=Val.cs a++Val.cs b:=by rw[xba,xba,xba,xag]
theorem cut0 {l:List (List D)}{x:List D}{r:List (List D)}{k:Nat} (h:l=x::r) (hx:x.length=k):cutC (l.flatten.map AV.d) 0 k=some (x.map .d):=by
 subst h;rw[List.flatten_cons,xag];exact zhx (by simpa using hx)
structure MutOf (b:Str) (p:Nat) (v v':Val) (q:Nat):Prop where
 some_:∃n,mutV b n p v=some (v',q)
 q:q<=3010000
theorem MutOf.size {b:Str}{p:Nat}{v v':Val}{q:Nat} (h:MutOf b p v v' q):v'.size<=v.size+3010000:=by
 obtain⟨n,hn⟩:=h.some_;have:=zky hn;have:=h.q;omega
set_option maxHeartbeats 4000000
def zec (b:Str) (p:Nat) (s:Str) (bits:List Str):Str×Nat:=
 if s.length=0 then (s,p) else if zan b p 2=0 then (s,p+1)
 else (s.take (zan b (p+1) s.length).toNat++ofV b (p+2) bits++s.drop ((zan b (p+1) s.length).toNat+(zan b (p+3) 2).toNat),p+4)
theorem zru {b:Str}{p:Nat}{s:Str}{bits:List Str} (h:s.length=0):zec b p s bits=(s,p):=if_pos h
theorem zrv {b:Str}{p:Nat}{s:Str}{bits:List Str} (h:¬s.length=0) (h2:zan b p 2=0):zec b p s bits=(s,p+1):=by unfold zec;rw[if_neg h,if_pos h2]
theorem zrw {b:Str}{p:Nat}{s:Str}{bits:List Str} (h:¬s.length=0) (h2:¬zan b p 2=0):zec b p s bits=(s.take (zan b (p+1) s.length).toNat++ofV b (p+2) bits++s.drop ((zan b (p+1) s.length).toNat+(zan b (p+3) 2).toNat),p+4):=by unfold zec;rw[if_neg h,if_neg h2]
theorem zpA {b:Str}{p:Nat}{l:List Str}{m:Nat} (h1:1<=l.length) (h:∀x∈l,x.length<=m):(ofV b p l).length<=m:=by
 have:=zaK (b:=b) (p:=p) (n:=(l.length:Int)) od;exact h _ (zao od)
theorem zoE {b:Str}{p:Nat}{s:Str}{bits:List Str} (h1:1<=bits.length) (h:∀x∈bits,x.length<=10):(zec b p s bits).1.length<=s.length+10:=by
 have h2:=zpA (b:=b) (p:=p+2) h1 h;unfold zec;split
 ·dsimp only;omega
 split
 ·dsimp only;omega
 ·simp only[xaa,List.length_take,List.length_drop];omega
theorem zkG {b:Str}{p:Nat}{s:Str}{bits:List Str} (hb:b.length<=2000) (hp:p<=1000000) (hs:s.length<=1000000000) (h1:1<=bits.length) (h2:bits.length<=1000) (h3:∀x∈bits,x.length<=10):
  FnD Tryz.prog 73 [.ref 900 0,.d (.str s),.d (zcA bits)] [(900,some (rdB b p))] (.d (.str (zec b p s bits).1)) [(900,some (rdB b (zec b p s bits).2))]:=by
 have h5:=zpA (b:=b) (p:=p+2) h1 h3;have v1:=fun h=>zaK (b:=b) (p:=p+1) (n:=(s.length:Int)) h;have v3:=zaK (b:=b) (p:=p+3) (n:=2) od;have q0:=fun h=>zru (b:=b) (p:=p) (s:=s) (bits:=bits) h;have q1:=fun h h2=>zrv (b:=b) (p:=p) (s:=s) (bits:=bits) h h2;have q2:=fun h h2=>zrw (b:=b) (p:=p) (s:=s) (bits:=bits) h h2;generalize zec b p s bits=z at *;have hk1:=zaC (p:=p) (n:=2) hb od od;have hk2:=zaC (p:=p+1) (n:=(s.length:Int)) hb od od;have hk4:=zaC (p:=p+3) (n:=2) hb od od;have hof:=zos (p:=p+2) (l:=bits) hb od h1 h2;generalize zan b p 2=k1 at *;generalize zan b (p+1) (s.length:Int)=k2 at *;generalize zan b (p+3) 2=k4 at *;generalize ofV b (p+2) bits=o at *;refine bd Tryz.f73 35 [27,34] [] fun _ _ _ _ hk=>?_;apply sq<;>intro h1 h1p h1s<;>(try simp only[Q,xal] at h1p);refine sqT ?_;refine rn [(900,some (rdB b z.2))] (r1 I) (.eqd ?_) ⟨I,I⟩ (SubO.get ⟨.inr ?_,⟨.inl I,O⟩⟩) (zaj I);rotate_left 2;refine Walk.call (cr:=[]) zbl hk1 I (.some I I h1) I I (LeL.refl _) ⟨I,O⟩ I I I (evs [27,34] [(11,false)] ?_ ⟨⟨_,I,h1⟩,O⟩);apply sq<;>intro h3 h3p h3s<;>(try simp only[Q,xal] at h3p);refine rn [(900,some (rdB b z.2))] (r1 I) (.eqd ?_) ⟨I,I⟩ (SubO.get ⟨.inr ?_,⟨.inl I,O⟩⟩) (zaj I);rotate_left 2;refine wd zbl hk2 I I ⟨I,O⟩ ?_;refine evs [27,34] [] (xbv (b:=k2.toNat) un9 .none I I I (by have:=v1 od;omega) (by have:=v1 od;omega) ?_);refine evd [27,34] [] (wd zsg hof I I ⟨I,O⟩ ?_);refine xbs .none I I I oo ?_;refine evd [27,34] [] (wd zbl hk4 I I ⟨I,O⟩ ?_);refine evd [27,34] [] (ar ?_ (by have:=v1 od;constructor<;>omega));refine xbw (b:=k2.toNat+k4.toNat) un9 .none I I I (by have:=v1 od;omega) (by have:=v1 od;omega) ?_;refine xbs .none I I I oo ?_;refine evd [27,34] [] (dr (rn [(900,some (rdB b z.2))] (r1 I) (.eqd ?_) ⟨I,I⟩ (SubO.get ⟨.inr ?_,⟨.inl I,O⟩⟩) (zaj I)));rotate_left 2;all_goals (first|((first|(rw[q0 od];all_goals rfl)|(rw[q1 od od];all_goals rfl)|(rw[q2 od od];all_goals rfl));done)|(first|(rw[q0 od];all_goals rfl)|(rw[q1 od od];all_goals rfl)|(rw[q2 od od];all_goals rfl)))
set_option maxHeartbeats 2000000
set_option maxHeartbeats 4000000
abbrev zbo:Ex:= .mk 0 0 0 []
def argL (f:Ty->Int->Ex×Int) (s:Str):Nat->List Ty->Int->Option (List Ex×Int)
 |_,[],a=>some ([],a)
 |i,t::ts,a=>if zbz s a (if i=0 then 40 else 44)=true then (match argL f s (i+1) ts (f t (a+1)).2 with|none=>none|some r=>some ((f t (a+1)).1::r.1,r.2)) else none
def argV (f:Ty->Int->Ex×Int) (s:Str) (ts:List Ty) (a:Int):List Ex×Int:=
 match argL f s 0 ts a with
 |none=>([],-1)
 |some r=>if ts.length=0 then r else if zbz s r.2 41=true then (r.1,r.2+1) else ([],-1)
theorem zlY {f:Ty->Int->Ex×Int}{s:Str} (hf:∀t a,EndIn s (f t a).2):∀(ts:List Ty) (i:Nat) (a:Int),EndIn s a->∀r,argL f s i ts a=some r->EndIn s r.2/\r.1.length=ts.length
 | [],_,a,ha,r,h=>by rw[argL] at h;cases h;exact⟨ha,rfl⟩
 |t::ts,i,a,ha,r,h=>by
  rw[argL] at h;by_cases hc:zbz s a (if i=0 then 40 else 44)=true
  ·rw[if_pos hc] at h;cases e:argL f s (i+1) ts (f t (a+1)).2 with
   |none=>rw[e] at h;cases h
   |some r2=>
    rw[e] at h;cases h;have:=zlY hf ts (i+1) _ (hf t (a+1)) r2 e;exact⟨this.1,by simp[this.2]⟩
  ·rw[if_neg hc] at h;cases h
theorem ziH {f:Ty->Int->Ex×Int}{s:Str} (hf:∀t a,EndIn s (f t a).2){ts:List Ty}{a:Int} (ha:EndIn s a):EndIn s (argV f s ts a).2:=by
 have z:EndIn s ((([]:List Ex),(-1:Int))).2:=⟨Int.le_refl _,by dsimp only;omega⟩;unfold argV;cases e:argL f s 0 ts a with
 |none=>exact z
 |some r=>
  dsimp only;split
  ·exact(zlY hf ts 0 a ha r e).1
  split
  ·rename_i h;have:=zd4 h;exact⟨by dsimp only;omega,by dsimp only;omega⟩
  ·exact z
theorem zkU {f:Ty->Int->Ex×Int}{s:Str}{ts:List Ty}{i:Nat}{a:Int} (hi:i<ts.length):
  argL f s i (ts.drop i) a=if zbz s a (if i=0 then 40 else 44)=true then (match argL f s (i+1) (ts.drop (i+1)) (f (nth ts i) (a+1)).2 with|none=>none|some r=>some ((f (nth ts i) (a+1)).1::r.1,r.2)) else none:=by
 rw[zaZ hi,argL]
def addE (acc:List Ex):Option (List Ex×Int)->Option (List Ex×Int)
 |none=>none
 |some r=>some (acc++r.1,r.2)
theorem zp9 (o:Option (List Ex×Int)):addE [] o=o:=by cases o<;>rfl
theorem zqc {f:Ty->Int->Ex×Int}{s:Str}{ts:List Ty}{i:Nat}{a:Int}{acc:List Ex}{o:Option (List Ex×Int)} (hi:i<ts.length)
  (h:addE acc (argL f s i (ts.drop i) a)=o) (hs:zbz s a (if i=0 then 40 else 44)=true):
  addE (acc++[(f (nth ts i) (a+1)).1]) (argL f s (i+1) (ts.drop (i+1)) (f (nth ts i) (a+1)).2)=o:=by
 rw[<-h,zkU hi,if_pos hs];cases argL f s (i+1) (ts.drop (i+1)) (f (nth ts i) (a+1)).2 with
 |none=>rfl
 |some r=>simp[addE]
theorem zrr {f:Ty->Int->Ex×Int}{s:Str}{ts:List Ty}{i:Nat}{a:Int}{acc:List Ex}{o:Option (List Ex×Int)} (hi:i<ts.length)
  (h:addE acc (argL f s i (ts.drop i) a)=o) (hs:zbz s a (if i=0 then 40 else 44)=false):o=none:=by
 rw[<-h,zkU hi,if_neg (by rw[hs];simp)];rfl
theorem zrs {f:Ty->Int->Ex×Int}{s:Str}{ts:List Ty}{i:Nat}{a:Int}{acc:List Ex}{o:Option (List Ex×Int)} (hi:ts.length<=i)
  (h:addE acc (argL f s i (ts.drop i) a)=o):o=some (acc,a):=by
 rw[<-h,List.drop_eq_nil_of_le hi,argL];simp[addE]
theorem zhe {s:Str}{a n:Int} (c:UInt8) (hs:s.length<=1000000000000) (h:n=(c.toNat:Int)):FnD Tryz.prog 192 [.d (.str s),.d (.i a),.d (.int .u8 n)] [] (.d (.bool (zbz s a c))) []:=by
 subst h;exact zgw hs
theorem zjW {w:List Data}{funs:List Ft}{s:Str} (hs:s.length<=1000000000000 / 2){ts:List Ty} (hg:ts.length<=3){a0 dep:Int} (ha0:EndIn s a0){f:Ty->Int->Ex×Int} (hfe:∀t a,EndIn s (f t a).2)
  (hf:∀t∈ts,∀a,EndIn s a->FnD Tryz.prog 86 [.d (zae w),.d (zaF funs),.agg [.d (.i t.data),.d (.i t.index)],.d (.str s),.d (.i a),.d (.i dep)] [] (.tup [.agg [.d (.i (f t a).1.op),.d (.i (f t a).1.n),.d (.i (f t a).1.ctor),.d (zaE (f t a).1.kids)],.d (.i (f t a).2)]) []):
  FnD Tryz.prog 169 [.d (zae w),.d (zaF funs),.d (zbH ts),.d (.str s),.d (.i a0),.d (.i dep)] [] (.tup [.d (zaE (argV f s ts a0).1),.d (.i (argV f s ts a0).2)]) []:=by
 have hsl:s.length<=1000000000000:=by omega
 unfold argV;generalize ho:argL f s 0 ts a0=o;have hbad:=fun(i:Nat) (a:Int) (acc:List Ex)=>zrr (f:=f) (s:=s) (ts:=ts) (i:=i) (a:=a) (acc:=acc) (o:=o);have hend:=fun(i:Nat) (a:Int) (acc:List Ex)=>zrs (f:=f) (s:=s) (ts:=ts) (i:=i) (a:=a) (acc:=acc) (o:=o);have hnext:=fun(i:Nat) (a:Int) (acc:List Ex)=>zqc (f:=f) (s:=s) (ts:=ts) (i:=i) (a:=a) (acc:=acc) (o:=o);have hsg:∀(a:Int) (i:Nat) (v:Bool),i=0->zbz s a 40=v->zbz s a (if i=0 then 40 else 44)=v:=fun a i v h h2=>by rw[if_pos h];exact h2
 have hsg2:∀(a:Int) (i:Nat) (v:Bool),¬i=0->zbz s a 44=v->zbz s a (if i=0 then 40 else 44)=v:=fun a i v h h2=>by rw[if_neg h];exact h2
 have hyes:∀ {a:Int}{c:UInt8},zbz s a c=true->0<=a/\a<(s.length:Int):=fun h=>zd4 h;have hnt:∀ {a:Int},zbz s a 41=false->¬zbz s a 41=true:=fun h=>by rw[h];simp
 refine bd Tryz.f169 64 [] [] fun _ _ _ _ hk=>?_;refine xbR 1 sl39 .none I I (ev (xaA (ι:=Nat×List Ex×Int) hk (fun x=>[(15,.d (.i (x.1:Int))),(14,.gl 1 (x.2.1.map Ex.cc)),(4,.d (.i x.2.2))]) [12,13,16,17,18,20,21,22,23,24,25,26,27,28,29,30,31,32,33,34,35,36,37,38,39,40,41,42,43,44,45,46,47,48,49,50,51] (fun x=>[(1,some (.tok ((x.2.1.map Ex.cc)).length 4))]) (fun x=>x.1<=ts.length/\x.2.1.length<=x.1/\(-1<=x.2.2/\x.2.2<=(s.length:Int))/\addE x.2.1 (argL f s x.1 (ts.drop x.1) x.2.2)=o) (fun x=>ts.length-x.1) (0,[],a0) ⟨by simp,by simp,ha0,by rw[zp9];exact ho⟩ ⟨⟨_,I,xaV ?_⟩,⟨⟨_,I,LeA.glg ?_⟩,⟨⟨_,I,xaV ?_⟩,O⟩⟩⟩ ⟨zaq ?_,O⟩ (fun x=>rfl) (fun x hg1=>?_)));iterate 4 focus (rfl)
 refine evc [] [] ?_;apply sq<;>intro h1 h1p h1s<;>(try simp only[Q,xal,xac] at h1p);apply sq<;>intro h2 h2p h2s<;>(try simp only[Q,xal,xac] at h2p);refine wc zl4 (zhe (s:=s) (a:=x.2.2) (if x.1=0 then 40 else 44) hsl (by(rw[if_pos od];rfl))) I I ?_;refine ev ?_;apply sq<;>intro h3 h3p h3s<;>(try simp only[Q,xal,xac] at h3p);refine rn0 (r2 I I) (.tup (qne ?_ ?_));rotate_left 2;refine ixq zaJ I I I (zag od) I ?_;refine ev (ar (wc zn1 (hf (nth ts x.1) (zao od) (x.2.2+1) (by have:=hyes (a:=x.2.2) oh;exact⟨by omega,by omega⟩)) I I ?_));refine ev (ab 3017 tz41 ?_);refine so ty41 ?_;refine ev (si [0] [_] sl39 tz41 ?_);refine ap sl39 zz41 I I I (by intro x hx;simp at hx;subst hx;rfl) oq ?_;refine ev (ar (xaj ((x.1+1,x.2.1++[(f (nth ts x.1) (x.2.2+1)).1],(f (nth ts x.1) (x.2.2+1)).2)) ⟨⟨by dsimp only;omega,by simp;omega,hfe _ _,hnext x.1 x.2.2 x.2.1 od hg1.2.2.2 oh⟩,oz,sx ⟨⟨_,I,xaV ?_⟩,⟨⟨_,I,LeA.glg ?_⟩,⟨⟨_,I,xaV ?_⟩,O⟩⟩⟩ ⟨zaq ?_,O⟩⟩));iterate 4 focus ((simp;done))
 refine wc zl4 (zhe (s:=s) (a:=x.2.2) (if x.1=0 then 40 else 44) hsl (by(rw[if_neg od];rfl))) I I ?_;refine ev ?_;apply sq<;>intro h4 h4p h4s<;>(try simp only[Q,xal,xac] at h4p);refine rn0 (r2 I I) (.tup (qne ?_ ?_));rotate_left 2;refine ixq zaJ I I I (zag od) I ?_;refine ev (ar (wc zn1 (hf (nth ts x.1) (zao od) (x.2.2+1) (by have:=hyes (a:=x.2.2) oh;exact⟨by omega,by omega⟩)) I I ?_));refine ev (ab 3017 tz41 ?_);refine so ty41 ?_;refine ev (si [0] [_] sl39 tz41 ?_);refine ap sl39 zz41 I I I (by intro x hx;simp at hx;subst hx;rfl) oq ?_;refine ev (ar (xaj ((x.1+1,x.2.1++[(f (nth ts x.1) (x.2.2+1)).1],(f (nth ts x.1) (x.2.2+1)).2)) ⟨⟨by dsimp only;omega,by simp;omega,hfe _ _,hnext x.1 x.2.2 x.2.1 od hg1.2.2.2 oh⟩,oz,sx ⟨⟨_,I,xaV ?_⟩,⟨⟨_,I,LeA.glg ?_⟩,⟨⟨_,I,xaV ?_⟩,O⟩⟩⟩ ⟨zaq ?_,O⟩⟩));iterate 4 focus ((simp;done))
 apply sq<;>intro h5 h5p h5s<;>(try simp only[Q,xal,xac] at h5p);refine rn0 (r2 I I) (.tup (qge ?_ ?_));rotate_left 2;refine wc zl4 (zgw (s:=s) (a:=x.2.2) (c:=41) hsl) I I ?_;refine ev ?_;apply sq<;>intro h6 h6p h6s<;>(try simp only[Q,xal,xac] at h6p);refine rn0 (r2 I I) (.tup (qne ?_ ?_));rotate_left 2;refine ar (rn0 (r2 I I) (.tup (qge ?_ ?_)));rotate_left 2;all_goals (first|(rw[hbad x.1 x.2.2 x.2.1 od hg1.2.2.2 oh];all_goals rfl)|(rw[hend x.1 x.2.2 x.2.1 od hg1.2.2.2];dsimp only;first|(rw[if_pos (show ts.length=0 by omega)];all_goals first|rfl|exact(xaH _).symm|exact xam D.sl (xaH _).symm)|(rw[if_neg (show ¬ts.length=0 by omega),if_pos (show zbz s x.2.2 41=true by assumption)];all_goals first|rfl|exact(xaH _).symm|exact xam D.sl (xaH _).symm)|(rw[if_neg (show ¬ts.length=0 by omega),if_neg (hnt oh)];all_goals first|rfl|exact(xaH _).symm)))
set_option maxHeartbeats 2000000
def hdE (w:List Data) (t:Ty) (r:Rd):Ex×Rd:=
 if zaB r=43 then (.mk 4 0 0 [],oneR r)
 else if zaB r=35 then (.mk 5 (zeI (oneR r)) 0 [],digR (oneR r))
 else (.mk 3 0 (zcD w t r) [],zc2 w t r)
def exR (w:List Data) (funs:List Ft) (vars:List Vt):Nat->Ty->Rd->Ex×Rd
 |0,_,r=>(zbo,⟨r.s,true⟩)
 |n+1,t,r=>
  if zaB r=0 then (zbo,⟨r.s,true⟩)
  else if zbB (zaB r)=true then (.mk 1 (zeI r) 0 [],digR r)
  else if zaN (zaB r)=true then (.mk 2 (((zaB r).toNat:Int)-97) 0 [],oneR r)
  else if (hdE w t r).2.bad=true then (zbo,(hdE w t r).2)
  else if okE w funs vars t (hdE w t r).1=false then (zbo,⟨(hdE w t r).2.s,true⟩)
  else (.mk (hdE w t r).1.op (hdE w t r).1.n (hdE w t r).1.ctor (zbj (exR w funs vars n) true (zal w funs t (hdE w t r).1) (hdE w t r).2).1,
   zc3 (zal w funs t (hdE w t r).1) (zbj (exR w funs vars n) true (zal w funs t (hdE w t r).1) (hdE w t r).2).2)
theorem zku (w:List Data) (t:Ty) (r:Rd):(hdE w t r).2.s.length<=r.s.length:=by
 unfold hdE;split
 ·exact zeD r
 split
 ·exact Nat.le_trans (ziO _) (zeD r)
 ·exact zk1 w t r
theorem znp (w:List Data) (funs:List Ft) (vars:List Vt):∀(n:Nat) (t:Ty) (r:Rd),(exR w funs vars n t r).2.s.length<=r.s.length
 |0,t,r=>Nat.le_refl _
 |n+1,t,r=>by
  have ih:=znp w funs vars n;rw[exR];split
  ·exact Nat.le_refl _
  split
  ·exact ziO r
  split
  ·exact zeD r
  split
  ·exact zku w t r
  split
  ·exact zku w t r
  ·exact Nat.le_trans (zpn _ _) (Nat.le_trans (zle ih _ _ _) (zku w t r))
theorem zh8 {w:List Data} (hA:A3 w){funs:List Ft} (hfu:∀f∈funs,TyIn w.length f.arg){vars:List Vt}{t:Ty} (ht:TyIn w.length t){e:Ex} (h:okE w funs vars t e=true):
  (zal w funs t e).length<=3/\∀u∈zal w funs t e,TyIn w.length u:=by
 by_cases h3:e.op=3
 ·rw[ok_3 h3] at h;have h2:=xas h;rw[ty_3 h3 h2.1 h2.2];exact hA t _ ht h2.2
 by_cases h4:e.op=4
 ·rw[ty_4 h4];exact⟨by simp,fun u hu=>by simp at hu;subst hu;exact ht⟩
 by_cases h5:e.op=5
 ·rw[ok_5 h5,xad] at h;have h2:=xas h.1;rw[ty_5 h5 h2];exact⟨by simp,fun u hu=>by simp at hu;subst hu;exact hfu _ (zao od)⟩
 ·rw[ty_0 ⟨h3,h4,h5⟩];exact⟨by simp,fun u hu=>by simp at hu⟩
theorem zld {f:Ty->Rd->Ex×Rd}{M:Nat}:∀(ts:List Ty) (b:Bool) (r:Rd),(∀t∈ts,∀r,(f t r).1.ok/\(f t r).1.size<=M)->Exs.ok (zbj f b ts r).1/\Exs.size (zbj f b ts r).1<=ts.length*M/\(zbj f b ts r).1.length<=ts.length
 | [],b,r,_=>⟨trivial,by simp[zbj,Exs.size],by simp[zbj]⟩
 |t::ts,b,r,hf=>by
  rw[zbj];split
  ·exact⟨trivial,by simp[Exs.size],by simp⟩
  ·obtain⟨h1,h2,h3⟩:=zld ts false (f t (zbu r (if b=true then 40 else 44))).2 (fun u hu=>hf u (by simp[hu]));have h0:=hf t og (zbu r (if b=true then 40 else 44));refine⟨⟨h0.1,h1⟩, ?_,by simp only[xab];omega⟩;rw[Exs.size,xab,Nat.add_mul];omega
theorem zpb {w:List Data} (hA:A3 w){funs:List Ft} (hfu:∀f∈funs,TyIn w.length f.arg){vars:List Vt}:∀(n:Nat){t:Ty} (r:Rd),TyIn w.length t->(exR w funs vars n t r).1.ok/\(exR w funs vars n t r).1.size<=4 ^ n
 |0,t,r,_=>⟨by rw[xaL];exact⟨by simp[exR,Ex.kids],trivial⟩,by rw[xaN];simp[exR,Ex.kids,Exs.size]⟩
 |n+1,t,r,ht=>by
  have ih:=fun {t:Ty} (r:Rd) (h:TyIn w.length t)=>zpb hA hfu (vars:=vars) n r h;have hp:1<=4 ^ n:=Nat.pow_pos od;have he:4 ^ (n+1)=4*4 ^ n:=by rw[Nat.pow_succ];omega
  have node:∀ {x1 x2 x3:Int}{l:List Ex},l.length<=3->Exs.ok l->Exs.size l<=3*4 ^ n->(Ex.mk x1 x2 x3 l).ok/\(Ex.mk x1 x2 x3 l).size<=4 ^ (n+1):=fun {x1 x2 x3 l} k3 k1 k2=>by
   refine⟨by rw[xaL];exact⟨by show l.length<=_;omega,k1⟩, ?_⟩;rw[xaN];show 1+Exs.size l<=_
   omega
  have leaf:∀ {x1 x2 x3:Int},(Ex.mk x1 x2 x3 []).ok/\(Ex.mk x1 x2 x3 []).size<=4 ^ (n+1):=node og trivial (by simp[Exs.size]);rw[exR];split
  ·exact leaf
  split
  ·exact leaf
  split
  ·exact leaf
  split
  ·exact leaf
  split
  ·exact leaf
  ·rename_i hb;obtain⟨t1,t2⟩:=zh8 hA hfu ht (vars:=vars) (e:=(hdE w t r).1) (by simpa using hb);obtain⟨k1,k2,k3⟩:=zld (f:=exR w funs vars n) (zal w funs t (hdE w t r).1) true (hdE w t r).2 (fun u hu r=>ih r (t2 u hu));exact node od k1 (Nat.le_trans k2 (xav _ t1))
def rdE (w:List Data) (funs:List Ft) (vars:List Vt) (t:Ty) (s:Str):Ex×Rd:=exR w funs vars 10 t ⟨s,false⟩
def rdOk (w:List Data) (funs:List Ft) (vars:List Vt) (t:Ty) (s:Str):Bool:= !(rdE w funs vars t s).2.bad&&(decide ((rdE w funs vars t s).2.s=[])&&isE w funs vars t (rdE w funs vars t s).1)
def reI (w:List Data) (funs:List Ft) (vars:List Vt) (t:Ty) (s:Str):Option Ex:=if rdOk w funs vars t s=true then some (rdE w funs vars t s).1 else none
set_option maxHeartbeats 40000000
abbrev kInE (w:List Data) (funs:List Ft) (vars:List Vt) (o m c deep:Int) (acc:List Ex) (r:Rd):Hp:=[(901,some (.box (rdC w r))),(902,some (.box [.d (.i o),.d (.i m),.d (.i c),.gv 5 (acc.map Ex.cc)])),(5,some (.tok (acc.map Ex.cc).length 4)),(903,some (.box [.ref 901 0])),(905,some (.box [.d (zae w),.d (zaF funs),.d (zaP vars)])),(904,some (.box [.d (.i deep)]))]
abbrev zlQ (w:List Data) (o m c:Int) (acc:List Ex) (r:Rd):Hp:=[(901,some (.box (rdC w r))),(902,some (.box [.d (.i o),.d (.i m),.d (.i c),.gv 7 (acc.map Ex.cc)])),(7,some (.tok (acc.map Ex.cc).length 4)),(5,none)]
theorem zdd (l:List Ex):∀x∈l.map Ex.cc,x.length=4:=by
 intro x hx;obtain⟨y,_,rfl⟩:=List.mem_map.1 hx;rfl
theorem zgQ {w:List Data}{funs:List Ft}{vars:List Vt}{o m c deep:Int} (hd:0<=deep/\deep<=1000){a k:Int}{acc:List Ex} (hl:acc.length<=3){r:Rd} (z:Ex×Rd)
  (ih:FnD Tryz.prog 132 [.ref 901 0,.agg [.d (zae w),.d (zaF funs),.d (zaP vars)],.agg [.d (.i a),.d (.i k)],.d (.i (deep+1))] [(901,some (.box (rdC w r)))] (.agg [.d (.i z.1.op),.d (.i z.1.n),.d (.i z.1.ctor),.d (zaE z.1.kids)]) [(901,some (.box (rdC w z.2)))]):
  FnD Tryz.prog 223 [.agg [.d (.i a),.d (.i k)],.ref 902 0,.ref 903 0,.ref 905 0,.ref 904 0] (kInE w funs vars o m c deep acc r) (.tup []) (zlQ w o m c (acc++[z.1]) z.2):=by
 have hset:=zqF (acc.map Ex.cc) (nth [[.i 0,.i 0,.i 0,.sl []]] 0) z.1.cc;rw[xac] at hset;refine Fn.body (fn:=Tryz.f223) (n:=19) I I I I I (fun _ _ _ _ hk=>?_);refine sr (bx 3005 ?_);apply tv;refine CWp.thn ?_;refine CWp.drawn mixed I ?_;refine xbA zpc .none I I (xbE ty39 .none I I I I (xbE zty .none I I I I (xbF ty98 .none I I I I (xbF ty38 .none I I I I (xbE ty3 .none I I I I (Walk.addI .none I I I (by first|(constructor<;>omega)|(constructor<;>simp<;>omega)) ?_))))));refine wd zoF ih I I ⟨I,O⟩ ?_;refine Walk.lenV sl39 .none I I (si [0] [_] sl39 tz41 ?_);refine Walk.appendH 9 sl39 zz41 .none I I I I (zjw I (by first|rfl|(simp;done)|(simp;omega))) I oq oq I I ?_;refine Walk.idxH sl39 .none I I I I I (Walk.putH [] ty41 .none I I I I I I I og I ?_);refine xbA zpc .none I I (so ty39 ?_);refine⟨by show _=_;kernel_rfl, ?_⟩;refine fun aZ wZ hrZ=>⟨_,Rel.holeGv (k:=4) 902 17 3 9 7 z.1.cc I I I I I I hrZ, ?_⟩;refine⟨_,_,[(901,some (.box (rdC w z.2))),(902,some (.box [.d (.i o),.d (.i m),.d (.i c),.gv 7 ((acc++[z.1]).map Ex.cc)])),(7,some (.tok ((acc++[z.1]).map Ex.cc).length 4)),(5,none)],.nil,(.refl _),⟨rfl,rfl⟩,(SubO.get ⟨.inr ?_,⟨.inr ?_,⟨.inr ?_,⟨.inr ?_,⟨.inl rfl,⟨.inl rfl,⟨.inl rfl,⟨.inr rfl,⟨.inr rfl,⟨.inr rfl,trivial⟩⟩⟩⟩⟩⟩⟩⟩⟩⟩),(zaj rfl)⟩;rotate_left 4;all_goals (first|((rfl);done)|(first|rfl|(rw[xag];all_goals rfl)|(show some (Res.tok _ _)=some (Res.tok _ _);simp;done)))
theorem oe{p:Prop}(h:p:=by first|rfl|(simp only[zax,occH,occE,Res.ids,xai,List.nil_append,AV.idsL,AV.ids,zai,zah,zar,zaO,xaf,List.map_nil,upC];rfl)):p:=h
theorem om{p:Prop}(h:p:=by first|rfl|(simp only[zbs,List.all_cons,List.all_nil,zcP,zcu,AV.idsL,AV.ids,zai,zah,xaf,List.map_nil];rfl)):p:=h
theorem zgR {w:List Data}{funs:List Ft}{vars:List Vt}{o m c deep:Int}{ts:List Ty} (hl:ts.length<=3){r:Rd} (hs:r.s.length<=1000000000000){f:Ty->Rd->Ex×Rd} (hfl:∀t r,(f t r).2.s.length<=r.s.length)
  (hpart:∀t∈ts,∀(acc:List Ex) (r:Rd),acc.length<=3->r.s.length<=1000000000000->FnD Tryz.prog 223 [.agg [.d (.i t.data),.d (.i t.index)],.ref 902 0,.ref 903 0,.ref 905 0,.ref 904 0] (kInE w funs vars o m c deep acc r) (.tup []) (zlQ w o m c (acc++[(f t r).1]) (f t r).2)):
  FnD Tryz.prog 222 [.ref 901 0,.d (zbH ts),.fn 223 [.ref 902 0,.ref 903 0,.ref 905 0,.ref 904 0]]
   [(901,some (.box (rdC w r))),(902,some (.box [.d (.i o),.d (.i m),.d (.i c),.gv 5 []])),(5,some (.tok 0 4)),(903,some (.box [.ref 901 0])),(905,some (.box [.d (zae w),.d (zaF funs),.d (zaP vars)])),(904,some (.box [.d (.i deep)]))] (.tup []) (zlQ w o m c (zbj f true ts r).1 (zc3 ts (zbj f true ts r).2)):=by
 have hg0:kidG f ts (zbj f true ts r) 0 [] r:=rfl;generalize zbj f true ts r=K at *;have hnext:=fun(i:Nat) (acc:List Ex) (r:Rd)=>zpl (f:=f) (ts:=ts) (K:=K) (i:=i) (acc:=acc) (r:=r);have hbad:=fun(i:Nat) (acc:List Ex) (r:Rd)=>zqn (f:=f) (ts:=ts) (K:=K) (i:=i) (acc:=acc) (r:=r);have hend:=fun(i:Nat) (acc:List Ex) (r:Rd)=>zqo (f:=f) (ts:=ts) (K:=K) (i:=i) (acc:=acc) (r:=r);have hsl:=zh1;have hs0:∀i,i=0->sgR i=40:=fun i h=>if_pos h;have hs1:∀i,¬i=0->sgR i=44:=fun i h=>if_neg h;have hk1:∀r,0<ts.length->zc3 ts r=zbu r 41:=fun r h=>if_pos h;have hk0:∀r,¬0<ts.length->zc3 ts r=r:=fun r h=>if_neg h;refine bd Tryz.f222 34 [] [0,7] fun _ _ _ _ hk=>?_;refine xaE 902 3 5 7 I I I I (evc [] [] (xaA (ι:=Nat×List Ex×Rd) hk (fun x=>[(10,.d (.i (x.1:Int)))]) [6,7,11,12,13,14,15,16,17,18,19,20,21,22,23,24,25,26,27,28] (fun x=>[(901,some (.box (rdC w x.2.2))),(902,some (.box [.d (.i o),.d (.i m),.d (.i c),.gv 7 (x.2.1.map Ex.cc)])),(7,some (.tok (x.2.1.map Ex.cc).length 4)),(5,none)]) (fun x=>x.1<=ts.length/\x.2.1.length<=x.1/\x.2.2.s.length<=1000000000000/\kidG f ts K x.1 x.2.1 x.2.2) (fun x=>ts.length-x.1) (0,[],r) ⟨Nat.zero_le _,by simp,hs,hg0⟩ ⟨⟨_,I,xaV ?_⟩,O⟩ ⟨?_,⟨?_,⟨zaq ?_,⟨?_,O⟩⟩⟩⟩ (fun x=>rfl) (fun x hg1=>?_)));focus (first|rfl|(simp;done)|omega|(simp;omega))
 iterate 2 focus (first|rfl|(rw[hs0 x.1 od];all_goals rfl)|(rw[hs1 x.1 od];all_goals rfl))
 focus (first|rfl|(simp;done)|omega|(simp;omega))
 focus (first|rfl|(rw[hs0 x.1 od];all_goals rfl)|(rw[hs1 x.1 od];all_goals rfl))
 refine evc [] [0,7] ?_;apply sq<;>intro h1 h1p h1s<;>(try simp only[Q,xal,xac] at h1p);refine ixq zaJ I I I (zag od) I ?_;refine ev (Walk.alloc (id:=3007) tz38 I .none I oe oe oe ?_);refine ev (so ty38 ?_);apply tv;apply sq<;>intro h2 h2p h2s<;>(try simp only[Q,xal,xac] at h2p);refine rn [(901,some (.box (rdC w (zc3 ts K.2)))),(902,some (.box [.d (.i o),.d (.i m),.d (.i c),.gv 7 (K.1.map Ex.cc)])),(7,some (.tok (K.1.map Ex.cc).length 4)),(5,none)] .nil (.refl _) ⟨I,I⟩ (SubO.get ⟨.inr ?_,⟨.inr ?_,⟨.inr ?_,⟨.inr ?_,⟨.inl I,⟨.inl I,⟨.inl I,⟨.inr I,⟨.inr I,⟨.inr I,O⟩⟩⟩⟩⟩⟩⟩⟩⟩⟩) (zaj I);rotate_left 4;apply sq<;>intro h3 h3p h3s<;>(try simp only[Q,xal,xac] at h3p);refine Walk.call (cr:=[]) zl9 (zdh (w:=w) (r:=x.2.2) (b:=40)) I .none I I (LeL.refl _) ⟨I,O⟩ I om oe ?_;apply tv;refine xaE 902 3 7 5 I I I I (evc [] [] (xbr [5] [7] zoL (hpart (nth ts x.1) (zao od) x.2.1 (zbu x.2.2 _) od (by have:=hsl x.2.2;first|exact Nat.le_trans (this _) hg1.2.2.1)) I .none I I I (LeL.refl _) ⟨I,I,I,I,I,I,O⟩ I oe ?_));apply tv;refine ar (xaj ((x.1+1,x.2.1++[(f (nth ts x.1) (zbu x.2.2 (sgR x.1))).1],(f (nth ts x.1) (zbu x.2.2 (sgR x.1))).2)) ⟨⟨by dsimp only;omega,by simp;omega,Nat.le_trans (hfl _ _) (Nat.le_trans (hsl _ _) hg1.2.2.1),hnext x.1 x.2.1 x.2.2 hg1.2.2.2 od ou⟩,oz,sx ⟨⟨_,I,xaV ?_⟩,O⟩ ⟨?_,⟨?_,⟨zaq ?_,⟨?_,O⟩⟩⟩⟩⟩);focus (first|rfl|(simp;done)|omega|(simp;omega))
 iterate 2 focus (first|rfl|(rw[hs0 x.1 od];all_goals rfl)|(rw[hs1 x.1 od];all_goals rfl))
 focus (first|rfl|(simp;done)|omega|(simp;omega))
 focus (first|rfl|(rw[hs0 x.1 od];all_goals rfl)|(rw[hs1 x.1 od];all_goals rfl))
 refine Walk.call (cr:=[]) zl9 (zdh (w:=w) (r:=x.2.2) (b:=44)) I .none I I (LeL.refl _) ⟨I,O⟩ I om oe ?_;apply tv;refine xaE 902 3 7 5 I I I I (evc [] [] (xbr [5] [7] zoL (hpart (nth ts x.1) (zao od) x.2.1 (zbu x.2.2 _) od (by have:=hsl x.2.2;first|exact Nat.le_trans (this _) hg1.2.2.1)) I .none I I I (LeL.refl _) ⟨I,I,I,I,I,I,O⟩ I oe ?_));apply tv;refine ar (xaj ((x.1+1,x.2.1++[(f (nth ts x.1) (zbu x.2.2 (sgR x.1))).1],(f (nth ts x.1) (zbu x.2.2 (sgR x.1))).2)) ⟨⟨by dsimp only;omega,by simp;omega,Nat.le_trans (hfl _ _) (Nat.le_trans (hsl _ _) hg1.2.2.1),hnext x.1 x.2.1 x.2.2 hg1.2.2.2 od ou⟩,oz,sx ⟨⟨_,I,xaV ?_⟩,O⟩ ⟨?_,⟨?_,⟨zaq ?_,⟨?_,O⟩⟩⟩⟩⟩);focus (first|rfl|(simp;done)|omega|(simp;omega))
 iterate 2 focus (first|rfl|(rw[hs0 x.1 od];all_goals rfl)|(rw[hs1 x.1 od];all_goals rfl))
 focus (first|rfl|(simp;done)|omega|(simp;omega))
 focus (first|rfl|(rw[hs0 x.1 od];all_goals rfl)|(rw[hs1 x.1 od];all_goals rfl))
 apply sq<;>intro h4 h4p h4s<;>(try simp only[Q,xal,xac] at h4p);refine Walk.call (cr:=[]) zl9 (zdh (w:=w) (r:=x.2.2) (b:=41)) I .none I I (LeL.refl _) ⟨I,O⟩ I om oe ?_;apply tv;refine rn [(901,some (.box (rdC w (zc3 ts K.2)))),(902,some (.box [.d (.i o),.d (.i m),.d (.i c),.gv 7 (K.1.map Ex.cc)])),(7,some (.tok (K.1.map Ex.cc).length 4)),(5,none)] .nil (.refl _) ⟨I,I⟩ (SubO.get ⟨.inr ?_,⟨.inr ?_,⟨.inr ?_,⟨.inr ?_,⟨.inl I,⟨.inl I,⟨.inl I,⟨.inr I,⟨.inr I,⟨.inr I,O⟩⟩⟩⟩⟩⟩⟩⟩⟩⟩) (zaj I);rotate_left 4;refine rn [(901,some (.box (rdC w (zc3 ts K.2)))),(902,some (.box [.d (.i o),.d (.i m),.d (.i c),.gv 7 (K.1.map Ex.cc)])),(7,some (.tok (K.1.map Ex.cc).length 4)),(5,none)] .nil (.refl _) ⟨I,I⟩ (SubO.get ⟨.inr ?_,⟨.inr ?_,⟨.inr ?_,⟨.inr ?_,⟨.inl I,⟨.inl I,⟨.inl I,⟨.inr I,⟨.inr I,⟨.inr I,O⟩⟩⟩⟩⟩⟩⟩⟩⟩⟩) (zaj I);rotate_left 4;all_goals (first|((rfl);done)|((first|rw[hbad x.1 x.2.1 x.2.2 hg1.2.2.2 od ou]|rw[hend x.1 x.2.1 x.2.2 hg1.2.2.2 od]);first|rfl|(rw[hk0 x.2.2 od];all_goals rfl)|(rw[hk1 x.2.2 od];all_goals rfl)|(rw[zpm ou];all_goals rfl)))
section
variable {w:List Data}{funs:List Ft}{vars:List Vt}{n:Nat}{t:Ty}{r:Rd}
theorem er_0 (h:((zaB r).toNat:Int)=0):exR w funs vars (n+1) t r=(zbo,⟨r.s,true⟩):=by
 rw[exR,if_pos (show zaB r=0 from b_eq (k:=0) od h)]
theorem zsM (h1:48<=((zaB r).toNat:Int)) (h2:((zaB r).toNat:Int)<=57):exR w funs vars (n+1) t r=(.mk 1 (zeI r) 0 [],digR r):=by
 rw[exR,if_neg (b_ne (by show ¬((zaB r).toNat:Int)=0;omega)),if_pos (zie h1 h2)]
theorem zsN (h1:97<=((zaB r).toNat:Int)) (h2:((zaB r).toNat:Int)<=122):exR w funs vars (n+1) t r=(.mk 2 (((zaB r).toNat:Int)-97) 0 [],oneR r):=by
 rw[exR,if_neg (b_ne (by show ¬((zaB r).toNat:Int)=0;omega)),if_neg (zfU od),if_pos (zfW h1 h2)]
def hdI (w:List Data) (t:Ty) (r:Rd):Prop:=¬((zaB r).toNat:Int)=0/\¬(48<=((zaB r).toNat:Int)/\((zaB r).toNat:Int)<=57)/\¬(97<=((zaB r).toNat:Int)/\((zaB r).toNat:Int)<=122)
theorem zsL (h:hdI w t r){H:Ex×Rd} (hH:hdE w t r=H) (h2:H.2.bad=true):exR w funs vars (n+1) t r=(zbo,H.2):=by
 rw[exR,if_neg (b_ne h.1),if_neg (zfU h.2.1),if_neg (zij h.2.2),hH,if_pos h2]
theorem ztm (h:hdI w t r){H:Ex×Rd} (hH:hdE w t r=H) (h2:H.2.bad=false) (h3:okE w funs vars t H.1=false):exR w funs vars (n+1) t r=(zbo,⟨H.2.s,true⟩):=by
 rw[exR,if_neg (b_ne h.1),if_neg (zfU h.2.1),if_neg (zij h.2.2),hH,if_neg (by rw[h2];simp),if_pos h3]
theorem zsO (h:hdI w t r){H:Ex×Rd} (hH:hdE w t r=H) (h2:H.2.bad=false) (h3:okE w funs vars t H.1=true):exR w funs vars (n+1) t r=(.mk H.1.op H.1.n H.1.ctor (zbj (exR w funs vars n) true (zal w funs t H.1) H.2).1,zc3 (zal w funs t H.1) (zbj (exR w funs vars n) true (zal w funs t H.1) H.2).2):=by
 rw[exR,if_neg (b_ne h.1),if_neg (zfU h.2.1),if_neg (zij h.2.2),hH,if_neg (by rw[h2];simp),if_neg (by rw[h3];simp)]
theorem zto (h:((zaB r).toNat:Int)=43):hdE w t r=(.mk 4 0 0 [],oneR r):=by
 unfold hdE;rw[if_pos (show zaB r=43 from b_eq (k:=43) od h)]
theorem ztn (h:((zaB r).toNat:Int)=35):hdE w t r=(.mk 5 (zeI (oneR r)) 0 [],digR (oneR r)):=by
 unfold hdE;rw[if_neg (b_ne (by show ¬((zaB r).toNat:Int)=43;omega)),if_pos (show zaB r=35 from b_eq (k:=35) od h)]
theorem zsS (h:¬((zaB r).toNat:Int)=43) (h2:¬((zaB r).toNat:Int)=35):hdE w t r=(.mk 3 0 (zcD w t r) [],zc2 w t r):=by
 unfold hdE;rw[if_neg (b_ne h),if_neg (b_ne h2)]
end
theorem zml {w:List Data} (hw:WT w) (hA3:A3 w){funs:List Ft}{vars:List Vt} (hfl:funs.length<=1000000000000) (hvl:vars.length<=1000000000000) (hfu:∀f∈funs,TyIn w.length f.arg){a k:Int}{r:Rd}:FnD Tryz.prog 132 [.ref 901 0,.agg [.d (zae w),.d (zaF funs),.d (zaP vars)],.agg [.d (.i a),.d (.i k)],.d (.i (11-((0:Nat):Int)))] [(901,some (.box (rdC w r)))]
   (.agg [.d (.i (exR w funs vars 0 ⟨a,k⟩ r).1.op),.d (.i (exR w funs vars 0 ⟨a,k⟩ r).1.n),.d (.i (exR w funs vars 0 ⟨a,k⟩ r).1.ctor),.d (zaE (exR w funs vars 0 ⟨a,k⟩ r).1.kids)]) [(901,some (.box (rdC w (exR w funs vars 0 ⟨a,k⟩ r).2)))]:=by
 have e0:((zaB ⟨r.s,true⟩).toNat:Int)=0:=by rw[zeC (r:=⟨r.s,true⟩) (.inl rfl)];rfl
 rw[show exR w funs vars 0 ⟨a,k⟩ r=(zbo,⟨r.s,true⟩) from rfl];refine bd Tryz.f132 89 [] [] fun _ _ _ _ hk=>?_;refine bx 903 ?_;refine bx 905 ?_;refine bx 3006 ?_;refine bx 904 ?_;refine ab 3008 tz41 ?_;apply tv;apply sq<;>intro h1 h1p h1s<;>(try simp only[Q] at h1p);refine so ty4 ?_;apply tv;refine ab 902 tz41 ?_;apply tv;refine wd zhs (zbZ (w:=w) (r:=⟨r.s,true⟩)) I I ⟨I,O⟩ ?_;refine ev ?_;apply sq<;>intro h2 h2p h2s<;>(try simp only[Q] at h2p);refine so ty4 ?_;apply tv;refine sqT ?_;refine bu [] [] st41 ?_;refine so ty41 ?_;apply tv;refine rn [(901,some (.box (rdC w ⟨r.s,true⟩)))] (ra ty41) (.agg (qeeen ?_ ?_ ?_ ?_)) ⟨I,I⟩ (SubO.get ⟨.inr ?_,⟨.inl I,O⟩⟩) (zaj I);rotate_left 5;exfalso;omega;focus (exfalso;first|omega|(simp at h1p;done))
 all_goals (first|((rfl);done)|(rfl))
theorem zmk {w:List Data} (hw:WT w) (hA3:A3 w){funs:List Ft}{vars:List Vt} (hfl:funs.length<=1000000000000) (hvl:vars.length<=1000000000000) (hfu:∀f∈funs,TyIn w.length f.arg){n:Nat} (hn:n+1<=10)
  (hih:∀ {a k:Int}{r:Rd},TyIn w.length ⟨a,k⟩->r.s.length<=1000000000000->FnD Tryz.prog 132 [.ref 901 0,.agg [.d (zae w),.d (zaF funs),.d (zaP vars)],.agg [.d (.i a),.d (.i k)],.d (.i (11-((n+1:Nat):Int)+1))] [(901,some (.box (rdC w r)))]
   (.agg [.d (.i (exR w funs vars n ⟨a,k⟩ r).1.op),.d (.i (exR w funs vars n ⟨a,k⟩ r).1.n),.d (.i (exR w funs vars n ⟨a,k⟩ r).1.ctor),.d (zaE (exR w funs vars n ⟨a,k⟩ r).1.kids)]) [(901,some (.box (rdC w (exR w funs vars n ⟨a,k⟩ r).2)))])
  {a k:Int}{r:Rd} (ht:TyIn w.length ⟨a,k⟩) (hs:r.s.length<=1000000000000):FnD Tryz.prog 132 [.ref 901 0,.agg [.d (zae w),.d (zaF funs),.d (zaP vars)],.agg [.d (.i a),.d (.i k)],.d (.i (11-((n+1:Nat):Int)))] [(901,some (.box (rdC w r)))]
   (.agg [.d (.i (exR w funs vars (n+1) ⟨a,k⟩ r).1.op),.d (.i (exR w funs vars (n+1) ⟨a,k⟩ r).1.n),.d (.i (exR w funs vars (n+1) ⟨a,k⟩ r).1.ctor),.d (zaE (exR w funs vars (n+1) ⟨a,k⟩ r).1.kids)]) [(901,some (.box (rdC w (exR w funs vars (n+1) ⟨a,k⟩ r).2)))]:=by
 have l1:=zeD r;have hct:=zhh hw ht (r:=r) hs;have q0:=er_0 (w:=w) (funs:=funs) (vars:=vars) (n:=n) (t:=⟨a,k⟩) (r:=r);have q1:=zsM (w:=w) (funs:=funs) (vars:=vars) (n:=n) (t:=⟨a,k⟩) (r:=r);have q2:=zsN (w:=w) (funs:=funs) (vars:=vars) (n:=n) (t:=⟨a,k⟩) (r:=r);have q3:=fun(h:hdI w ⟨a,k⟩ r){H:Ex×Rd}=>zsL (w:=w) (funs:=funs) (vars:=vars) (n:=n) (t:=⟨a,k⟩) (r:=r) h (H:=H);have q4:=fun(h:hdI w ⟨a,k⟩ r){H:Ex×Rd}=>ztm (w:=w) (funs:=funs) (vars:=vars) (n:=n) (t:=⟨a,k⟩) (r:=r) h (H:=H);have q5:=fun(h:hdI w ⟨a,k⟩ r){H:Ex×Rd}=>zsO (w:=w) (funs:=funs) (vars:=vars) (n:=n) (t:=⟨a,k⟩) (r:=r) h (H:=H);have g1:=zto (w:=w) (t:=⟨a,k⟩) (r:=r);have g2:=ztn (w:=w) (t:=⟨a,k⟩) (r:=r);have g3:=zsS (w:=w) (t:=⟨a,k⟩) (r:=r);have hkE:∀e:Ex,e.kids=[]->FnD Tryz.prog 153 [.agg [.d (zae w),.d (zaF funs),.d (zaP vars)],.agg [.d (.i a),.d (.i k)],.agg [.d (.i e.op),.d (.i e.n),.d (.i e.ctor),.d (.sl [])]] [] (.tup [.d (zbH (zal w funs ⟨a,k⟩ e)),.d (.bool (okE w funs vars ⟨a,k⟩ e))]) []:=fun e he=>by
  have:=zfA hw (funs:=funs) (vars:=vars) hfl hvl (t:=⟨a,k⟩) ht (e:=e);rw[he] at this;exact this
 have hkd:∀(e:Ex) (r2:Rd),okE w funs vars ⟨a,k⟩ e=true->r2.s.length<=r.s.length->FnD Tryz.prog 222 [.ref 901 0,.d (zbH (zal w funs ⟨a,k⟩ e)),.fn 223 [.ref 902 0,.ref 903 0,.ref 905 0,.ref 904 0]]
  [(901,some (.box (rdC w r2))),(902,some (.box [.d (.i e.op),.d (.i e.n),.d (.i e.ctor),.gv 5 []])),(5,some (.tok 0 4)),(903,some (.box [.ref 901 0])),(905,some (.box [.d (zae w),.d (zaF funs),.d (zaP vars)])),(904,some (.box [.d (.i (11-((n+1:Nat):Int)))]))] (.tup []) (zlQ w e.op e.n e.ctor (zbj (exR w funs vars n) true (zal w funs ⟨a,k⟩ e) r2).1 (zc3 (zal w funs ⟨a,k⟩ e) (zbj (exR w funs vars n) true (zal w funs ⟨a,k⟩ e) r2).2)):=fun e r2 he hr2=>by
  obtain⟨t1,t2⟩:=zh8 hA3 hfu ht he;exact zgR (w:=w) (funs:=funs) (vars:=vars) t1 (Nat.le_trans hr2 hs) (f:=exR w funs vars n) (fun t r=>znp w funs vars n t r)
   (fun t ht' acc r hl hs'=>zgQ (a:=t.data) (k:=t.index) od hl (exR w funs vars n t r) (hih (t2 t ht') hs'))
 have ldig:=ziO (oneR r);have lct:=zk1 w ⟨a,k⟩ r;clear hih;generalize exR w funs vars (n+1) ⟨a,k⟩ r=R at *;by_cases c43:((zaB r).toNat:Int)=43
 ·have hH:=g1 c43;have hI:hdI w ⟨a,k⟩ r:=⟨by omega,by omega,by omega⟩;have hkt:=hkE (.mk 4 0 0 []) rfl;have hkids:=fun h=>hkd (.mk 4 0 0 []) (oneR r) h l1;clear hkE hkd g1 g2 g3 hct;refine bd Tryz.f132 89 [] [24,25] fun _ _ _ _ hk=>?_;refine bx 903 ?_;refine bx 905 ?_;refine bx 3006 ?_;refine bx 904 ?_;refine ab 3008 tz41 ?_;apply tv;apply sq<;>intro h1 h1p h1s<;>(try simp only[Q,xal] at h1p);exfalso;first|omega|(simp at h1p;omega)
  refine ab 902 tz41 ?_;apply tv;refine wd zhs (zbZ (w:=w) (r:=r)) I I ⟨I,O⟩ ?_;refine ev ?_;apply sq<;>intro h2 h2p h2s<;>(try simp only[Q,xal] at h2p);exfalso;omega;apply sq<;>intro h3 h3p h3s<;>(try simp only[Q,xal] at h3p);apply sq<;>intro h4 h4p h4s<;>(try simp only[Q,xal] at h4p);exfalso;omega;apply sq<;>intro h5 h5p h5s<;>(try simp only[Q,xal] at h5p);apply sq<;>intro h6 h6p h6s<;>(try simp only[Q,xal] at h6p);exfalso;omega;apply sq<;>intro h7 h7p h7s<;>(try simp only[Q,xal] at h7p);refine wd zdb (zaW (w:=w) (r:=r)) I I ⟨I,O⟩ ?_;apply tv;refine bu [0] [_] st41 ?_;refine so ty41 ?_;apply tv;apply sq<;>intro h8 h8p h8s<;>(try simp only[Q,xal] at h8p);refine bu [] [] st41 ?_;refine so ty41 ?_;apply tv;refine rn [(901,some (.box (rdC w R.2)))] (ra ty41) (.agg (qeeen ?_ ?_ ?_ ?_)) ⟨I,I⟩ (SubO.get ⟨.inr ?_,⟨.inl I,O⟩⟩) (zaj I);rotate_left 5;refine Walk.call (cr:=[]) zci hkt I .none I I (.cons (.refl _) (.cons (.refl _) (.cons (.agg (.cons (.refl _) (.cons (.refl _) (.cons (.refl _) (.cons .nil .nil))))) .nil))) O I I I (ev ?_);apply sq<;>intro h9 h9p h9s<;>(try simp only[Q,xal] at h9p);refine so ty4 ?_;apply tv;refine bu [] [] st41 ?_;refine so ty41 ?_;apply tv;refine rn [(901,some (.box (rdC w R.2)))] (ra ty41) (.agg (qeeen ?_ ?_ ?_ ?_)) ⟨I,I⟩ (SubO.get ⟨.inr ?_,⟨.inl I,O⟩⟩) (zaj I);rotate_left 5;refine xaD 902 3 5 4 I I I I (evc [] [] (xbt (xs:=[_,_,_,_]) I .none I I (xbp [5] [7] zdc (hkids oh) I .none I I (LeL.refl _) ⟨I,I,I,I,I,I,O⟩ I oe ?_)));apply tv;refine xaz hk 902 3 7 4 I I I I (zdd _) I I (evc [] [] (so ty41 ?_));apply tv;refine rn [(901,some (.box (rdC w R.2)))] (ra ty41) (.agg (qeeee ?_ ?_ ?_ ?_)) ⟨I,I⟩ (SubO.get ⟨.inr ?_,⟨.inl I,O⟩⟩) (zaj I);rotate_left 5;exfalso;omega;refine sqF ?_;apply sq<;>intro h11 h11p h11s<;>(try simp only[Q,xal] at h11p);refine wd zdb (zaW (w:=w) (r:=r)) I I ⟨I,O⟩ ?_;apply tv;refine bu [0] [_] st41 ?_;refine so ty41 ?_;apply tv;apply sq<;>intro h12 h12p h12s<;>(try simp only[Q,xal] at h12p);refine bu [] [] st41 ?_;refine so ty41 ?_;apply tv;refine rn [(901,some (.box (rdC w R.2)))] (ra ty41) (.agg (qeeen ?_ ?_ ?_ ?_)) ⟨I,I⟩ (SubO.get ⟨.inr ?_,⟨.inl I,O⟩⟩) (zaj I);rotate_left 5;refine Walk.call (cr:=[]) zci hkt I .none I I (.cons (.refl _) (.cons (.refl _) (.cons (.agg (.cons (.refl _) (.cons (.refl _) (.cons (.refl _) (.cons .nil .nil))))) .nil))) O I I I (ev ?_);apply sq<;>intro h13 h13p h13s<;>(try simp only[Q,xal] at h13p);refine so ty4 ?_;apply tv;refine bu [] [] st41 ?_;refine so ty41 ?_;apply tv;refine rn [(901,some (.box (rdC w R.2)))] (ra ty41) (.agg (qeeen ?_ ?_ ?_ ?_)) ⟨I,I⟩ (SubO.get ⟨.inr ?_,⟨.inl I,O⟩⟩) (zaj I);rotate_left 5;refine xaD 902 3 5 4 I I I I (evc [] [] (xbt (xs:=[_,_,_,_]) I .none I I (xbp [5] [7] zdc (hkids oh) I .none I I (LeL.refl _) ⟨I,I,I,I,I,I,O⟩ I oe ?_)));apply tv;refine xaz hk 902 3 7 4 I I I I (zdd _) I I (evc [] [] (so ty41 ?_));apply tv;refine rn [(901,some (.box (rdC w R.2)))] (ra ty41) (.agg (qeeee ?_ ?_ ?_ ?_)) ⟨I,I⟩ (SubO.get ⟨.inr ?_,⟨.inl I,O⟩⟩) (zaj I);rotate_left 5;exfalso;omega;refine sqF ?_;apply sq<;>intro h15 h15p h15s<;>(try simp only[Q,xal] at h15p);apply sq<;>intro h16 h16p h16s<;>(try simp only[Q,xal] at h16p);exfalso;omega;apply sq<;>intro h17 h17p h17s<;>(try simp only[Q,xal] at h17p);refine wd zdb (zaW (w:=w) (r:=r)) I I ⟨I,O⟩ ?_;apply tv;refine bu [0] [_] st41 ?_;refine so ty41 ?_;apply tv;apply sq<;>intro h18 h18p h18s<;>(try simp only[Q,xal] at h18p);refine bu [] [] st41 ?_;refine so ty41 ?_;apply tv;refine rn [(901,some (.box (rdC w R.2)))] (ra ty41) (.agg (qeeen ?_ ?_ ?_ ?_)) ⟨I,I⟩ (SubO.get ⟨.inr ?_,⟨.inl I,O⟩⟩) (zaj I);rotate_left 5;refine Walk.call (cr:=[]) zci hkt I .none I I (.cons (.refl _) (.cons (.refl _) (.cons (.agg (.cons (.refl _) (.cons (.refl _) (.cons (.refl _) (.cons .nil .nil))))) .nil))) O I I I (ev ?_);apply sq<;>intro h19 h19p h19s<;>(try simp only[Q,xal] at h19p);refine so ty4 ?_;apply tv;refine bu [] [] st41 ?_;refine so ty41 ?_;apply tv;refine rn [(901,some (.box (rdC w R.2)))] (ra ty41) (.agg (qeeen ?_ ?_ ?_ ?_)) ⟨I,I⟩ (SubO.get ⟨.inr ?_,⟨.inl I,O⟩⟩) (zaj I);rotate_left 5;refine xaD 902 3 5 4 I I I I (evc [] [] (xbt (xs:=[_,_,_,_]) I .none I I (xbp [5] [7] zdc (hkids oh) I .none I I (LeL.refl _) ⟨I,I,I,I,I,I,O⟩ I oe ?_)));apply tv;refine xaz hk 902 3 7 4 I I I I (zdd _) I I (evc [] [] (so ty41 ?_));apply tv;refine rn [(901,some (.box (rdC w R.2)))] (ra ty41) (.agg (qeeee ?_ ?_ ?_ ?_)) ⟨I,I⟩ (SubO.get ⟨.inr ?_,⟨.inl I,O⟩⟩) (zaj I);rotate_left 5;exfalso;omega;refine sqF ?_;apply sq<;>intro h21 h21p h21s<;>(try simp only[Q,xal] at h21p);refine wd zdb (zaW (w:=w) (r:=r)) I I ⟨I,O⟩ ?_;apply tv;refine bu [0] [_] st41 ?_;refine so ty41 ?_;apply tv;apply sq<;>intro h22 h22p h22s<;>(try simp only[Q,xal] at h22p);refine bu [] [] st41 ?_;refine so ty41 ?_;apply tv;refine rn [(901,some (.box (rdC w R.2)))] (ra ty41) (.agg (qeeen ?_ ?_ ?_ ?_)) ⟨I,I⟩ (SubO.get ⟨.inr ?_,⟨.inl I,O⟩⟩) (zaj I);rotate_left 5;refine Walk.call (cr:=[]) zci hkt I .none I I (.cons (.refl _) (.cons (.refl _) (.cons (.agg (.cons (.refl _) (.cons (.refl _) (.cons (.refl _) (.cons .nil .nil))))) .nil))) O I I I (ev ?_);apply sq<;>intro h23 h23p h23s<;>(try simp only[Q,xal] at h23p);refine so ty4 ?_;apply tv;refine bu [] [] st41 ?_;refine so ty41 ?_;apply tv;refine rn [(901,some (.box (rdC w R.2)))] (ra ty41) (.agg (qeeen ?_ ?_ ?_ ?_)) ⟨I,I⟩ (SubO.get ⟨.inr ?_,⟨.inl I,O⟩⟩) (zaj I);rotate_left 5;refine xaD 902 3 5 4 I I I I (evc [] [] (xbt (xs:=[_,_,_,_]) I .none I I (xbp [5] [7] zdc (hkids oh) I .none I I (LeL.refl _) ⟨I,I,I,I,I,I,O⟩ I oe ?_)));apply tv;refine xaz hk 902 3 7 4 I I I I (zdd _) I I (evc [] [] (so ty41 ?_));apply tv;refine rn [(901,some (.box (rdC w R.2)))] (ra ty41) (.agg (qeeee ?_ ?_ ?_ ?_)) ⟨I,I⟩ (SubO.get ⟨.inr ?_,⟨.inl I,O⟩⟩) (zaj I);rotate_left 5;exfalso;omega;all_goals (first|((first|(rw[q0 od];all_goals first|rfl|exact xam D.sl (xaH _).symm|exact(xaH _).symm|(show D.sl _=D.sl _;rw[xaH];done)|(show D.sl _=D.sl _;rw[xaH];rfl)|(rw[zaI od od];all_goals rfl))|(rw[q1 od od];all_goals first|rfl|exact xam D.sl (xaH _).symm|exact(xaH _).symm|(show D.sl _=D.sl _;rw[xaH];done)|(show D.sl _=D.sl _;rw[xaH];rfl)|(rw[zaI od od];all_goals rfl))|(rw[q2 od od];all_goals first|rfl|exact xam D.sl (xaH _).symm|exact(xaH _).symm|(show D.sl _=D.sl _;rw[xaH];done)|(show D.sl _=D.sl _;rw[xaH];rfl)|(rw[zaI od od];all_goals rfl))|(rw[q3 hI hH oh];all_goals first|rfl|exact xam D.sl (xaH _).symm|exact(xaH _).symm|(show D.sl _=D.sl _;rw[xaH];done)|(show D.sl _=D.sl _;rw[xaH];rfl)|(rw[zaI od od];all_goals rfl))|(rw[q4 hI hH oh oh];all_goals first|rfl|exact xam D.sl (xaH _).symm|exact(xaH _).symm|(show D.sl _=D.sl _;rw[xaH];done)|(show D.sl _=D.sl _;rw[xaH];rfl)|(rw[zaI od od];all_goals rfl))|(rw[q5 hI hH oh oh];all_goals first|rfl|exact xam D.sl (xaH _).symm|exact(xaH _).symm|(show D.sl _=D.sl _;rw[xaH];done)|(show D.sl _=D.sl _;rw[xaH];rfl)|(rw[zaI od od];all_goals rfl)));done)|(first|(rw[q0 od];all_goals first|rfl|exact xam D.sl (xaH _).symm|exact(xaH _).symm|(show D.sl _=D.sl _;rw[xaH];done)|(show D.sl _=D.sl _;rw[xaH];rfl)|(rw[zaI od od];all_goals rfl))|(rw[q1 od od];all_goals first|rfl|exact xam D.sl (xaH _).symm|exact(xaH _).symm|(show D.sl _=D.sl _;rw[xaH];done)|(show D.sl _=D.sl _;rw[xaH];rfl)|(rw[zaI od od];all_goals rfl))|(rw[q2 od od];all_goals first|rfl|exact xam D.sl (xaH _).symm|exact(xaH _).symm|(show D.sl _=D.sl _;rw[xaH];done)|(show D.sl _=D.sl _;rw[xaH];rfl)|(rw[zaI od od];all_goals rfl))|(rw[q3 hI hH oh];all_goals first|rfl|exact xam D.sl (xaH _).symm|exact(xaH _).symm|(show D.sl _=D.sl _;rw[xaH];done)|(show D.sl _=D.sl _;rw[xaH];rfl)|(rw[zaI od od];all_goals rfl))|(rw[q4 hI hH oh oh];all_goals first|rfl|exact xam D.sl (xaH _).symm|exact(xaH _).symm|(show D.sl _=D.sl _;rw[xaH];done)|(show D.sl _=D.sl _;rw[xaH];rfl)|(rw[zaI od od];all_goals rfl))|(rw[q5 hI hH oh oh];all_goals first|rfl|exact xam D.sl (xaH _).symm|exact(xaH _).symm|(show D.sl _=D.sl _;rw[xaH];done)|(show D.sl _=D.sl _;rw[xaH];rfl)|(rw[zaI od od];all_goals rfl))))
 ·by_cases c35:((zaB r).toNat:Int)=35
  ·have hH:=g2 c35;have hI:hdI w ⟨a,k⟩ r:=⟨by omega,by omega,by omega⟩;have hkt:=hkE (.mk 5 (zeI (oneR r)) 0 []) rfl;have hkids:=fun h=>hkd (.mk 5 (zeI (oneR r)) 0 []) (digR (oneR r)) h od;clear hkE hkd g1 g2 g3 hct;refine bd Tryz.f132 89 [] [24,25] fun _ _ _ _ hk=>?_;refine bx 903 ?_;refine bx 905 ?_;refine bx 3006 ?_;refine bx 904 ?_;refine ab 3008 tz41 ?_;apply tv;apply sq<;>intro h1 h1p h1s<;>(try simp only[Q,xal] at h1p);exfalso;first|omega|(simp at h1p;omega)
   refine ab 902 tz41 ?_;apply tv;refine wd zhs (zbZ (w:=w) (r:=r)) I I ⟨I,O⟩ ?_;refine ev ?_;apply sq<;>intro h2 h2p h2s<;>(try simp only[Q,xal] at h2p);exfalso;omega;apply sq<;>intro h3 h3p h3s<;>(try simp only[Q,xal] at h3p);apply sq<;>intro h4 h4p h4s<;>(try simp only[Q,xal] at h4p);exfalso;omega;apply sq<;>intro h5 h5p h5s<;>(try simp only[Q,xal] at h5p);apply sq<;>intro h6 h6p h6s<;>(try simp only[Q,xal] at h6p);exfalso;omega;apply sq<;>intro h7 h7p h7s<;>(try simp only[Q,xal] at h7p);exfalso;omega;apply sq<;>intro h8 h8p h8s<;>(try simp only[Q,xal] at h8p);refine wd zdb (zaW (w:=w) (r:=r)) I I ⟨I,O⟩ ?_;apply tv;refine wd zht (zbP (w:=w) (r:=oneR r)) I I ⟨I,O⟩ ?_;refine bu [0,1] [_,_] st41 ?_;refine so ty41 ?_;apply tv;apply sq<;>intro h9 h9p h9s<;>(try simp only[Q,xal] at h9p);refine bu [] [] st41 ?_;refine so ty41 ?_;apply tv;refine rn [(901,some (.box (rdC w R.2)))] (ra ty41) (.agg (qeeen ?_ ?_ ?_ ?_)) ⟨I,I⟩ (SubO.get ⟨.inr ?_,⟨.inl I,O⟩⟩) (zaj I);rotate_left 5;refine Walk.call (cr:=[]) zci hkt I .none I I (.cons (.refl _) (.cons (.refl _) (.cons (.agg (.cons (.refl _) (.cons (.refl _) (.cons (.refl _) (.cons .nil .nil))))) .nil))) O I I I (ev ?_);apply sq<;>intro h10 h10p h10s<;>(try simp only[Q,xal] at h10p);refine so ty4 ?_;apply tv;refine bu [] [] st41 ?_;refine so ty41 ?_;apply tv;refine rn [(901,some (.box (rdC w R.2)))] (ra ty41) (.agg (qeeen ?_ ?_ ?_ ?_)) ⟨I,I⟩ (SubO.get ⟨.inr ?_,⟨.inl I,O⟩⟩) (zaj I);rotate_left 5;refine xaD 902 3 5 4 I I I I (evc [] [] (xbt (xs:=[_,_,_,_]) I .none I I (xbp [5] [7] zdc (hkids oh) I .none I I (LeL.refl _) ⟨I,I,I,I,I,I,O⟩ I oe ?_)));apply tv;refine xaz hk 902 3 7 4 I I I I (zdd _) I I (evc [] [] (so ty41 ?_));apply tv;refine rn [(901,some (.box (rdC w R.2)))] (ra ty41) (.agg (qeeee ?_ ?_ ?_ ?_)) ⟨I,I⟩ (SubO.get ⟨.inr ?_,⟨.inl I,O⟩⟩) (zaj I);rotate_left 5;exfalso;omega;refine sqF ?_;apply sq<;>intro h12 h12p h12s<;>(try simp only[Q,xal] at h12p);exfalso;omega;apply sq<;>intro h13 h13p h13s<;>(try simp only[Q,xal] at h13p);refine wd zdb (zaW (w:=w) (r:=r)) I I ⟨I,O⟩ ?_;apply tv;refine wd zht (zbP (w:=w) (r:=oneR r)) I I ⟨I,O⟩ ?_;refine bu [0,1] [_,_] st41 ?_;refine so ty41 ?_;apply tv;apply sq<;>intro h14 h14p h14s<;>(try simp only[Q,xal] at h14p);refine bu [] [] st41 ?_;refine so ty41 ?_;apply tv;refine rn [(901,some (.box (rdC w R.2)))] (ra ty41) (.agg (qeeen ?_ ?_ ?_ ?_)) ⟨I,I⟩ (SubO.get ⟨.inr ?_,⟨.inl I,O⟩⟩) (zaj I);rotate_left 5;refine Walk.call (cr:=[]) zci hkt I .none I I (.cons (.refl _) (.cons (.refl _) (.cons (.agg (.cons (.refl _) (.cons (.refl _) (.cons (.refl _) (.cons .nil .nil))))) .nil))) O I I I (ev ?_);apply sq<;>intro h15 h15p h15s<;>(try simp only[Q,xal] at h15p);refine so ty4 ?_;apply tv;refine bu [] [] st41 ?_;refine so ty41 ?_;apply tv;refine rn [(901,some (.box (rdC w R.2)))] (ra ty41) (.agg (qeeen ?_ ?_ ?_ ?_)) ⟨I,I⟩ (SubO.get ⟨.inr ?_,⟨.inl I,O⟩⟩) (zaj I);rotate_left 5;refine xaD 902 3 5 4 I I I I (evc [] [] (xbt (xs:=[_,_,_,_]) I .none I I (xbp [5] [7] zdc (hkids oh) I .none I I (LeL.refl _) ⟨I,I,I,I,I,I,O⟩ I oe ?_)));apply tv;refine xaz hk 902 3 7 4 I I I I (zdd _) I I (evc [] [] (so ty41 ?_));apply tv;refine rn [(901,some (.box (rdC w R.2)))] (ra ty41) (.agg (qeeee ?_ ?_ ?_ ?_)) ⟨I,I⟩ (SubO.get ⟨.inr ?_,⟨.inl I,O⟩⟩) (zaj I);rotate_left 5;exfalso;omega;refine sqF ?_;apply sq<;>intro h17 h17p h17s<;>(try simp only[Q,xal] at h17p);apply sq<;>intro h18 h18p h18s<;>(try simp only[Q,xal] at h18p);exfalso;omega;apply sq<;>intro h19 h19p h19s<;>(try simp only[Q,xal] at h19p);exfalso;omega;apply sq<;>intro h20 h20p h20s<;>(try simp only[Q,xal] at h20p);refine wd zdb (zaW (w:=w) (r:=r)) I I ⟨I,O⟩ ?_;apply tv;refine wd zht (zbP (w:=w) (r:=oneR r)) I I ⟨I,O⟩ ?_;refine bu [0,1] [_,_] st41 ?_;refine so ty41 ?_;apply tv;apply sq<;>intro h21 h21p h21s<;>(try simp only[Q,xal] at h21p);refine bu [] [] st41 ?_;refine so ty41 ?_;apply tv;refine rn [(901,some (.box (rdC w R.2)))] (ra ty41) (.agg (qeeen ?_ ?_ ?_ ?_)) ⟨I,I⟩ (SubO.get ⟨.inr ?_,⟨.inl I,O⟩⟩) (zaj I);rotate_left 5;refine Walk.call (cr:=[]) zci hkt I .none I I (.cons (.refl _) (.cons (.refl _) (.cons (.agg (.cons (.refl _) (.cons (.refl _) (.cons (.refl _) (.cons .nil .nil))))) .nil))) O I I I (ev ?_);apply sq<;>intro h22 h22p h22s<;>(try simp only[Q,xal] at h22p);refine so ty4 ?_;apply tv;refine bu [] [] st41 ?_;refine so ty41 ?_;apply tv;refine rn [(901,some (.box (rdC w R.2)))] (ra ty41) (.agg (qeeen ?_ ?_ ?_ ?_)) ⟨I,I⟩ (SubO.get ⟨.inr ?_,⟨.inl I,O⟩⟩) (zaj I);rotate_left 5;refine xaD 902 3 5 4 I I I I (evc [] [] (xbt (xs:=[_,_,_,_]) I .none I I (xbp [5] [7] zdc (hkids oh) I .none I I (LeL.refl _) ⟨I,I,I,I,I,I,O⟩ I oe ?_)));apply tv;refine xaz hk 902 3 7 4 I I I I (zdd _) I I (evc [] [] (so ty41 ?_));apply tv;refine rn [(901,some (.box (rdC w R.2)))] (ra ty41) (.agg (qeeee ?_ ?_ ?_ ?_)) ⟨I,I⟩ (SubO.get ⟨.inr ?_,⟨.inl I,O⟩⟩) (zaj I);rotate_left 5;exfalso;omega;refine sqF ?_;apply sq<;>intro h24 h24p h24s<;>(try simp only[Q,xal] at h24p);exfalso;omega;apply sq<;>intro h25 h25p h25s<;>(try simp only[Q,xal] at h25p);refine wd zdb (zaW (w:=w) (r:=r)) I I ⟨I,O⟩ ?_;apply tv;refine wd zht (zbP (w:=w) (r:=oneR r)) I I ⟨I,O⟩ ?_;refine bu [0,1] [_,_] st41 ?_;refine so ty41 ?_;apply tv;apply sq<;>intro h26 h26p h26s<;>(try simp only[Q,xal] at h26p);refine bu [] [] st41 ?_;refine so ty41 ?_;apply tv;refine rn [(901,some (.box (rdC w R.2)))] (ra ty41) (.agg (qeeen ?_ ?_ ?_ ?_)) ⟨I,I⟩ (SubO.get ⟨.inr ?_,⟨.inl I,O⟩⟩) (zaj I);rotate_left 5;refine Walk.call (cr:=[]) zci hkt I .none I I (.cons (.refl _) (.cons (.refl _) (.cons (.agg (.cons (.refl _) (.cons (.refl _) (.cons (.refl _) (.cons .nil .nil))))) .nil))) O I I I (ev ?_);apply sq<;>intro h27 h27p h27s<;>(try simp only[Q,xal] at h27p);refine so ty4 ?_;apply tv;refine bu [] [] st41 ?_;refine so ty41 ?_;apply tv;refine rn [(901,some (.box (rdC w R.2)))] (ra ty41) (.agg (qeeen ?_ ?_ ?_ ?_)) ⟨I,I⟩ (SubO.get ⟨.inr ?_,⟨.inl I,O⟩⟩) (zaj I);rotate_left 5;refine xaD 902 3 5 4 I I I I (evc [] [] (xbt (xs:=[_,_,_,_]) I .none I I (xbp [5] [7] zdc (hkids oh) I .none I I (LeL.refl _) ⟨I,I,I,I,I,I,O⟩ I oe ?_)));apply tv;refine xaz hk 902 3 7 4 I I I I (zdd _) I I (evc [] [] (so ty41 ?_));apply tv;refine rn [(901,some (.box (rdC w R.2)))] (ra ty41) (.agg (qeeee ?_ ?_ ?_ ?_)) ⟨I,I⟩ (SubO.get ⟨.inr ?_,⟨.inl I,O⟩⟩) (zaj I);rotate_left 5;exfalso;omega;all_goals (first|((first|(rw[q0 od];all_goals first|rfl|exact xam D.sl (xaH _).symm|exact(xaH _).symm|(show D.sl _=D.sl _;rw[xaH];done)|(show D.sl _=D.sl _;rw[xaH];rfl)|(rw[zaI od od];all_goals rfl))|(rw[q1 od od];all_goals first|rfl|exact xam D.sl (xaH _).symm|exact(xaH _).symm|(show D.sl _=D.sl _;rw[xaH];done)|(show D.sl _=D.sl _;rw[xaH];rfl)|(rw[zaI od od];all_goals rfl))|(rw[q2 od od];all_goals first|rfl|exact xam D.sl (xaH _).symm|exact(xaH _).symm|(show D.sl _=D.sl _;rw[xaH];done)|(show D.sl _=D.sl _;rw[xaH];rfl)|(rw[zaI od od];all_goals rfl))|(rw[q3 hI hH oh];all_goals first|rfl|exact xam D.sl (xaH _).symm|exact(xaH _).symm|(show D.sl _=D.sl _;rw[xaH];done)|(show D.sl _=D.sl _;rw[xaH];rfl)|(rw[zaI od od];all_goals rfl))|(rw[q4 hI hH oh oh];all_goals first|rfl|exact xam D.sl (xaH _).symm|exact(xaH _).symm|(show D.sl _=D.sl _;rw[xaH];done)|(show D.sl _=D.sl _;rw[xaH];rfl)|(rw[zaI od od];all_goals rfl))|(rw[q5 hI hH oh oh];all_goals first|rfl|exact xam D.sl (xaH _).symm|exact(xaH _).symm|(show D.sl _=D.sl _;rw[xaH];done)|(show D.sl _=D.sl _;rw[xaH];rfl)|(rw[zaI od od];all_goals rfl)));done)|(first|(rw[q0 od];all_goals first|rfl|exact xam D.sl (xaH _).symm|exact(xaH _).symm|(show D.sl _=D.sl _;rw[xaH];done)|(show D.sl _=D.sl _;rw[xaH];rfl)|(rw[zaI od od];all_goals rfl))|(rw[q1 od od];all_goals first|rfl|exact xam D.sl (xaH _).symm|exact(xaH _).symm|(show D.sl _=D.sl _;rw[xaH];done)|(show D.sl _=D.sl _;rw[xaH];rfl)|(rw[zaI od od];all_goals rfl))|(rw[q2 od od];all_goals first|rfl|exact xam D.sl (xaH _).symm|exact(xaH _).symm|(show D.sl _=D.sl _;rw[xaH];done)|(show D.sl _=D.sl _;rw[xaH];rfl)|(rw[zaI od od];all_goals rfl))|(rw[q3 hI hH oh];all_goals first|rfl|exact xam D.sl (xaH _).symm|exact(xaH _).symm|(show D.sl _=D.sl _;rw[xaH];done)|(show D.sl _=D.sl _;rw[xaH];rfl)|(rw[zaI od od];all_goals rfl))|(rw[q4 hI hH oh oh];all_goals first|rfl|exact xam D.sl (xaH _).symm|exact(xaH _).symm|(show D.sl _=D.sl _;rw[xaH];done)|(show D.sl _=D.sl _;rw[xaH];rfl)|(rw[zaI od od];all_goals rfl))|(rw[q5 hI hH oh oh];all_goals first|rfl|exact xam D.sl (xaH _).symm|exact(xaH _).symm|(show D.sl _=D.sl _;rw[xaH];done)|(show D.sl _=D.sl _;rw[xaH];rfl)|(rw[zaI od od];all_goals rfl))))
  ·have hH:=g3 c43 c35;have hkt:=hkE (.mk 3 0 (zcD w ⟨a,k⟩ r) []) rfl;have hkids:=fun h=>hkd (.mk 3 0 (zcD w ⟨a,k⟩ r) []) (zc2 w ⟨a,k⟩ r) h lct;clear hkE hkd g1 g2 g3;refine bd Tryz.f132 89 [49] [24,25] fun _ _ _ _ hk=>?_;refine bx 903 ?_;refine bx 905 ?_;refine bx 3006 ?_;refine bx 904 ?_;refine ab 3008 tz41 ?_;apply tv;apply sq<;>intro h1 h1p h1s<;>(try simp only[Q,xal] at h1p);exfalso;first|omega|(simp at h1p;omega)
   refine ab 902 tz41 ?_;apply tv;refine wd zhs (zbZ (w:=w) (r:=r)) I I ⟨I,O⟩ ?_;refine evs [49] [] ?_;apply sq<;>intro h2 h2p h2s<;>(try simp only[Q,xal] at h2p);refine so ty4 ?_;apply tv;refine sqT ?_;refine bu [] [] st41 ?_;refine so ty41 ?_;apply tv;refine rn [(901,some (.box (rdC w R.2)))] (ra ty41) (.agg (qeeen ?_ ?_ ?_ ?_)) ⟨I,I⟩ (SubO.get ⟨.inr ?_,⟨.inl I,O⟩⟩) (zaj I);rotate_left 5;apply sq<;>intro h4 h4p h4s<;>(try simp only[Q,xal] at h4p);apply sq<;>intro h5 h5p h5s<;>(try simp only[Q,xal] at h5p);refine wd zht (zbP (w:=w) (r:=r)) I I ⟨I,O⟩ ?_;refine bu [0,1] [_,_] st41 ?_;refine so ty41 ?_;apply tv;refine rn [(901,some (.box (rdC w R.2)))] (ra ty41) (.agg (qeeen ?_ ?_ ?_ ?_)) ⟨I,I⟩ (SubO.get ⟨.inr ?_,⟨.inl I,O⟩⟩) (zaj I);rotate_left 5;apply sq<;>intro h6 h6p h6s<;>(try simp only[Q,xal] at h6p);apply sq<;>intro h7 h7p h7s<;>(try simp only[Q,xal] at h7p);refine wd zdb (zaW (w:=w) (r:=r)) I I ⟨I,O⟩ ?_;refine xbU .none I I I (xbu oy un3 .none I I ?_);refine bu [0,1] [_,_] st41 ?_;refine so ty41 ?_;apply tv;refine rn [(901,some (.box (rdC w R.2)))] (ra ty41) (.agg (qeeen ?_ ?_ ?_ ?_)) ⟨I,I⟩ (SubO.get ⟨.inr ?_,⟨.inl I,O⟩⟩) (zaj I);rotate_left 5;apply sq<;>intro h8 h8p h8s<;>(try simp only[Q,xal] at h8p);exfalso;omega;apply sq<;>intro h9 h9p h9s<;>(try simp only[Q,xal] at h9p);exfalso;omega;refine wd zje hct I I ⟨I,O⟩ ?_;refine bu [0,2] [_,_] st41 ?_;refine so ty41 ?_;apply tv;apply sq<;>intro h10 h10p h10s<;>(try simp only[Q,xal] at h10p);refine bu [] [] st41 ?_;refine so ty41 ?_;apply tv;refine rn [(901,some (.box (rdC w R.2)))] (ra ty41) (.agg (qeeen ?_ ?_ ?_ ?_)) ⟨I,I⟩ (SubO.get ⟨.inr ?_,⟨.inl I,O⟩⟩) (zaj I);rotate_left 5;refine Walk.call (cr:=[]) zci hkt I .none I I (.cons (.refl _) (.cons (.refl _) (.cons (.agg (.cons (.refl _) (.cons (.refl _) (.cons (.refl _) (.cons .nil .nil))))) .nil))) O I I I (evs [49] [] ?_);apply sq<;>intro h11 h11p h11s<;>(try simp only[Q,xal] at h11p);refine so ty4 ?_;apply tv;refine bu [] [] st41 ?_;refine so ty41 ?_;apply tv;refine rn [(901,some (.box (rdC w R.2)))] (ra ty41) (.agg (qeeen ?_ ?_ ?_ ?_)) ⟨I,I⟩ (SubO.get ⟨.inr ?_,⟨.inl I,O⟩⟩) (zaj I);rotate_left 5;refine xaD 902 3 5 4 I I I I (evc [49] [] (xbt (xs:=[_,_,_,_]) I .none I I (xbp [5] [7] zdc (hkids oh) I .none I I (LeL.refl _) ⟨I,I,I,I,I,I,O⟩ I oe ?_)));apply tv;refine xaz hk 902 3 7 4 I I I I (zdd _) I I (evc [49] [] (so ty41 ?_));apply tv;refine rn [(901,some (.box (rdC w R.2)))] (ra ty41) (.agg (qeeee ?_ ?_ ?_ ?_)) ⟨I,I⟩ (SubO.get ⟨.inr ?_,⟨.inl I,O⟩⟩) (zaj I);rotate_left 5;refine sqF ?_;apply sq<;>intro h13 h13p h13s<;>(try simp only[Q,xal] at h13p);exfalso;omega;apply sq<;>intro h14 h14p h14s<;>(try simp only[Q,xal] at h14p);exfalso;omega;refine wd zje hct I I ⟨I,O⟩ ?_;refine bu [0,2] [_,_] st41 ?_;refine so ty41 ?_;apply tv;apply sq<;>intro h15 h15p h15s<;>(try simp only[Q,xal] at h15p);refine bu [] [] st41 ?_;refine so ty41 ?_;apply tv;refine rn [(901,some (.box (rdC w R.2)))] (ra ty41) (.agg (qeeen ?_ ?_ ?_ ?_)) ⟨I,I⟩ (SubO.get ⟨.inr ?_,⟨.inl I,O⟩⟩) (zaj I);rotate_left 5;refine Walk.call (cr:=[]) zci hkt I .none I I (.cons (.refl _) (.cons (.refl _) (.cons (.agg (.cons (.refl _) (.cons (.refl _) (.cons (.refl _) (.cons .nil .nil))))) .nil))) O I I I (evs [49] [] ?_);apply sq<;>intro h16 h16p h16s<;>(try simp only[Q,xal] at h16p);refine so ty4 ?_;apply tv;refine bu [] [] st41 ?_;refine so ty41 ?_;apply tv;refine rn [(901,some (.box (rdC w R.2)))] (ra ty41) (.agg (qeeen ?_ ?_ ?_ ?_)) ⟨I,I⟩ (SubO.get ⟨.inr ?_,⟨.inl I,O⟩⟩) (zaj I);rotate_left 5;refine xaD 902 3 5 4 I I I I (evc [49] [] (xbt (xs:=[_,_,_,_]) I .none I I (xbp [5] [7] zdc (hkids oh) I .none I I (LeL.refl _) ⟨I,I,I,I,I,I,O⟩ I oe ?_)));apply tv;refine xaz hk 902 3 7 4 I I I I (zdd _) I I (evc [49] [] (so ty41 ?_));apply tv;refine rn [(901,some (.box (rdC w R.2)))] (ra ty41) (.agg (qeeee ?_ ?_ ?_ ?_)) ⟨I,I⟩ (SubO.get ⟨.inr ?_,⟨.inl I,O⟩⟩) (zaj I);rotate_left 5;refine sqF ?_;apply sq<;>intro h18 h18p h18s<;>(try simp only[Q,xal] at h18p);apply sq<;>intro h19 h19p h19s<;>(try simp only[Q,xal] at h19p);refine wd zdb (zaW (w:=w) (r:=r)) I I ⟨I,O⟩ ?_;refine xbU .none I I I (xbu oy un3 .none I I ?_);refine bu [0,1] [_,_] st41 ?_;refine so ty41 ?_;apply tv;refine rn [(901,some (.box (rdC w R.2)))] (ra ty41) (.agg (qeeen ?_ ?_ ?_ ?_)) ⟨I,I⟩ (SubO.get ⟨.inr ?_,⟨.inl I,O⟩⟩) (zaj I);rotate_left 5;apply sq<;>intro h20 h20p h20s<;>(try simp only[Q,xal] at h20p);exfalso;omega;apply sq<;>intro h21 h21p h21s<;>(try simp only[Q,xal] at h21p);exfalso;omega;refine wd zje hct I I ⟨I,O⟩ ?_;refine bu [0,2] [_,_] st41 ?_;refine so ty41 ?_;apply tv;apply sq<;>intro h22 h22p h22s<;>(try simp only[Q,xal] at h22p);refine bu [] [] st41 ?_;refine so ty41 ?_;apply tv;refine rn [(901,some (.box (rdC w R.2)))] (ra ty41) (.agg (qeeen ?_ ?_ ?_ ?_)) ⟨I,I⟩ (SubO.get ⟨.inr ?_,⟨.inl I,O⟩⟩) (zaj I);rotate_left 5;refine Walk.call (cr:=[]) zci hkt I .none I I (.cons (.refl _) (.cons (.refl _) (.cons (.agg (.cons (.refl _) (.cons (.refl _) (.cons (.refl _) (.cons .nil .nil))))) .nil))) O I I I (evs [49] [] ?_);apply sq<;>intro h23 h23p h23s<;>(try simp only[Q,xal] at h23p);refine so ty4 ?_;apply tv;refine bu [] [] st41 ?_;refine so ty41 ?_;apply tv;refine rn [(901,some (.box (rdC w R.2)))] (ra ty41) (.agg (qeeen ?_ ?_ ?_ ?_)) ⟨I,I⟩ (SubO.get ⟨.inr ?_,⟨.inl I,O⟩⟩) (zaj I);rotate_left 5;refine xaD 902 3 5 4 I I I I (evc [49] [] (xbt (xs:=[_,_,_,_]) I .none I I (xbp [5] [7] zdc (hkids oh) I .none I I (LeL.refl _) ⟨I,I,I,I,I,I,O⟩ I oe ?_)));apply tv;refine xaz hk 902 3 7 4 I I I I (zdd _) I I (evc [49] [] (so ty41 ?_));apply tv;refine rn [(901,some (.box (rdC w R.2)))] (ra ty41) (.agg (qeeee ?_ ?_ ?_ ?_)) ⟨I,I⟩ (SubO.get ⟨.inr ?_,⟨.inl I,O⟩⟩) (zaj I);rotate_left 5;refine sqF ?_;apply sq<;>intro h25 h25p h25s<;>(try simp only[Q,xal] at h25p);exfalso;omega;apply sq<;>intro h26 h26p h26s<;>(try simp only[Q,xal] at h26p);exfalso;omega;refine wd zje hct I I ⟨I,O⟩ ?_;refine bu [0,2] [_,_] st41 ?_;refine so ty41 ?_;apply tv;apply sq<;>intro h27 h27p h27s<;>(try simp only[Q,xal] at h27p);refine bu [] [] st41 ?_;refine so ty41 ?_;apply tv;refine rn [(901,some (.box (rdC w R.2)))] (ra ty41) (.agg (qeeen ?_ ?_ ?_ ?_)) ⟨I,I⟩ (SubO.get ⟨.inr ?_,⟨.inl I,O⟩⟩) (zaj I);rotate_left 5;refine Walk.call (cr:=[]) zci hkt I .none I I (.cons (.refl _) (.cons (.refl _) (.cons (.agg (.cons (.refl _) (.cons (.refl _) (.cons (.refl _) (.cons .nil .nil))))) .nil))) O I I I (evs [49] [] ?_);apply sq<;>intro h28 h28p h28s<;>(try simp only[Q,xal] at h28p);refine so ty4 ?_;apply tv;refine bu [] [] st41 ?_;refine so ty41 ?_;apply tv;refine rn [(901,some (.box (rdC w R.2)))] (ra ty41) (.agg (qeeen ?_ ?_ ?_ ?_)) ⟨I,I⟩ (SubO.get ⟨.inr ?_,⟨.inl I,O⟩⟩) (zaj I);rotate_left 5;refine xaD 902 3 5 4 I I I I (evc [49] [] (xbt (xs:=[_,_,_,_]) I .none I I (xbp [5] [7] zdc (hkids oh) I .none I I (LeL.refl _) ⟨I,I,I,I,I,I,O⟩ I oe ?_)));apply tv;refine xaz hk 902 3 7 4 I I I I (zdd _) I I (evc [49] [] (so ty41 ?_));apply tv;refine rn [(901,some (.box (rdC w R.2)))] (ra ty41) (.agg (qeeee ?_ ?_ ?_ ?_)) ⟨I,I⟩ (SubO.get ⟨.inr ?_,⟨.inl I,O⟩⟩) (zaj I);rotate_left 5;all_goals (first|((first|(rw[q0 od];all_goals first|rfl|exact xam D.sl (xaH _).symm|exact(xaH _).symm|(show D.sl _=D.sl _;rw[xaH];done)|(show D.sl _=D.sl _;rw[xaH];rfl)|(rw[zaI od od];all_goals rfl))|(rw[q1 od od];all_goals first|rfl|exact xam D.sl (xaH _).symm|exact(xaH _).symm|(show D.sl _=D.sl _;rw[xaH];done)|(show D.sl _=D.sl _;rw[xaH];rfl)|(rw[zaI od od];all_goals rfl))|(rw[q2 od od];all_goals first|rfl|exact xam D.sl (xaH _).symm|exact(xaH _).symm|(show D.sl _=D.sl _;rw[xaH];done)|(show D.sl _=D.sl _;rw[xaH];rfl)|(rw[zaI od od];all_goals rfl))|(rw[q3 (show hdI w ⟨a,k⟩ r from⟨by omega,by omega,by omega⟩) hH oh];all_goals first|rfl|exact xam D.sl (xaH _).symm|exact(xaH _).symm|(show D.sl _=D.sl _;rw[xaH];done)|(show D.sl _=D.sl _;rw[xaH];rfl)|(rw[zaI od od];all_goals rfl))|(rw[q4 (show hdI w ⟨a,k⟩ r from⟨by omega,by omega,by omega⟩) hH oh oh];all_goals first|rfl|exact xam D.sl (xaH _).symm|exact(xaH _).symm|(show D.sl _=D.sl _;rw[xaH];done)|(show D.sl _=D.sl _;rw[xaH];rfl)|(rw[zaI od od];all_goals rfl))|(rw[q5 (show hdI w ⟨a,k⟩ r from⟨by omega,by omega,by omega⟩) hH oh oh];all_goals first|rfl|exact xam D.sl (xaH _).symm|exact(xaH _).symm|(show D.sl _=D.sl _;rw[xaH];done)|(show D.sl _=D.sl _;rw[xaH];rfl)|(rw[zaI od od];all_goals rfl)));done)|(first|(rw[q0 od];all_goals first|rfl|exact xam D.sl (xaH _).symm|exact(xaH _).symm|(show D.sl _=D.sl _;rw[xaH];done)|(show D.sl _=D.sl _;rw[xaH];rfl)|(rw[zaI od od];all_goals rfl))|(rw[q1 od od];all_goals first|rfl|exact xam D.sl (xaH _).symm|exact(xaH _).symm|(show D.sl _=D.sl _;rw[xaH];done)|(show D.sl _=D.sl _;rw[xaH];rfl)|(rw[zaI od od];all_goals rfl))|(rw[q2 od od];all_goals first|rfl|exact xam D.sl (xaH _).symm|exact(xaH _).symm|(show D.sl _=D.sl _;rw[xaH];done)|(show D.sl _=D.sl _;rw[xaH];rfl)|(rw[zaI od od];all_goals rfl))|(rw[q3 (show hdI w ⟨a,k⟩ r from⟨by omega,by omega,by omega⟩) hH oh];all_goals first|rfl|exact xam D.sl (xaH _).symm|exact(xaH _).symm|(show D.sl _=D.sl _;rw[xaH];done)|(show D.sl _=D.sl _;rw[xaH];rfl)|(rw[zaI od od];all_goals rfl))|(rw[q4 (show hdI w ⟨a,k⟩ r from⟨by omega,by omega,by omega⟩) hH oh oh];all_goals first|rfl|exact xam D.sl (xaH _).symm|exact(xaH _).symm|(show D.sl _=D.sl _;rw[xaH];done)|(show D.sl _=D.sl _;rw[xaH];rfl)|(rw[zaI od od];all_goals rfl))|(rw[q5 (show hdI w ⟨a,k⟩ r from⟨by omega,by omega,by omega⟩) hH oh oh];all_goals first|rfl|exact xam D.sl (xaH _).symm|exact(xaH _).symm|(show D.sl _=D.sl _;rw[xaH];done)|(show D.sl _=D.sl _;rw[xaH];rfl)|(rw[zaI od od];all_goals rfl))))
theorem zes {w:List Data} (hw:WT w) (hA3:A3 w){funs:List Ft}{vars:List Vt} (hfl:funs.length<=1000000000000) (hvl:vars.length<=1000000000000) (hfu:∀f∈funs,TyIn w.length f.arg):∀(n:Nat){a k:Int}{r:Rd},n<=10->TyIn w.length ⟨a,k⟩->r.s.length<=1000000000000->
  FnD Tryz.prog 132 [.ref 901 0,.agg [.d (zae w),.d (zaF funs),.d (zaP vars)],.agg [.d (.i a),.d (.i k)],.d (.i (11-(n:Int)))] [(901,some (.box (rdC w r)))]
   (.agg [.d (.i (exR w funs vars n ⟨a,k⟩ r).1.op),.d (.i (exR w funs vars n ⟨a,k⟩ r).1.n),.d (.i (exR w funs vars n ⟨a,k⟩ r).1.ctor),.d (zaE (exR w funs vars n ⟨a,k⟩ r).1.kids)]) [(901,some (.box (rdC w (exR w funs vars n ⟨a,k⟩ r).2)))]
 |0,a,k,r,_,_,_=>zml hw hA3 hfl hvl hfu
 |n+1,a,k,r,hn,ht,hs=>zmk hw hA3 hfl hvl hfu hn (fun {a k r} h1 h2=>by
   rw[show(11:Int)-((n+1:Nat):Int)+1=11-(n:Int) by omega];exact zes hw hA3 hfl hvl hfu n od h1 h2) ht hs
set_option maxHeartbeats 2000000
def HdE (w:List Data) (t:Ty) (s:Str) (e0:Ex) (l:Str):Prop:=
 (s=43::l/\e0 = .mk 4 0 0 [])\/(∃c,zbB c=true/\s=35::c::l/\e0 = .mk 5 ((c.toNat:Int)-48) 0 [])\/
 (0<zaz s/\¬nmV w t (s.take (zaz s))<0/\l=s.drop (zaz s)/\e0 = .mk 3 0 (nmV w t (s.take (zaz s))) [])
def RdsE (w:List Data) (funs:List Ft) (vars:List Vt):Nat->Ty->Str->Ex->Str->Prop
 |0,_,_,_,_=>False
 |n+1,t,s,e,s'=>
  (∃c,zbB c=true/\s=c::s'/\e = .mk 1 ((c.toNat:Int)-48) 0 [])\/
  (∃c,zaN c=true/\s=c::s'/\e = .mk 2 ((c.toNat:Int)-97) 0 [])\/
  (∃e0 l ks m,HdE w t s e0 l/\okE w funs vars t e0=true/\RdsK (RdsE w funs vars n) true (zal w funs t e0) l ks m/\
   m=(if 0<(zal w funs t e0).length then 41::s' else s')/\e = .mk e0.op e0.n e0.ctor ks)
theorem nlow {c:UInt8} (h:zbB c=true):¬zaN c=true:=fun h'=>by have:=zfu h;have:=zhN h';omega
theorem zsR {w:List Data}{t:Ty}{x:UInt8}{l:Str} (hx0:x≠0) (h:(hdE w t ⟨x::l,false⟩).2.bad=false):
  HdE w t (x::l) (hdE w t ⟨x::l,false⟩).1 (hdE w t ⟨x::l,false⟩).2.s:=by
 unfold hdE at h ⊢;rw[zcT,zfF hx0] at h ⊢;by_cases c1:x=43
 ·rw[if_pos c1];subst c1;exact .inl ⟨I,I⟩
 rw[if_neg c1] at h ⊢;by_cases c2:x=35
 ·rw[if_pos c2] at h ⊢;subst c2;obtain⟨c,l2,hc,e⟩:=zrz h;cases e
  obtain⟨d1,d2⟩:=zjn (l:=l2) hc;rw[d1,d2];exact .inr (.inl ⟨c,hc,I,I⟩)
 rw[if_neg c2] at h ⊢;obtain⟨o1,o2,o3,o4⟩:=zm5 (w:=w) (t:=t) (r:=⟨x::l,false⟩) h;unfold zcp at o1;simp only[xad,Bool.not_eq_true',decide_eq_false_iff_not] at o1;obtain⟨_,n1,n2⟩:=zqv o1.1;have hk:nmV w t (zcE ⟨x::l,false⟩)=nmV w t ((x::l).take (zaz (x::l))):=rfl;rw[hk] at o1 o2;exact .inr (.inr ⟨n1,o1.2,by rw[o4,n2],by rw[o2]⟩)
theorem zph {w:List Data}{t:Ty}{s l:Str}{e0:Ex} (h:HdE w t s e0 l):hdE w t ⟨s,false⟩=(e0,⟨l,false⟩)/\∃x r,s=x::r/\x≠0/\¬zbB x=true/\¬zaN x=true:=by
 rcases h with ⟨rfl,rfl⟩|⟨c,hc,rfl,rfl⟩|⟨n1,n2,rfl,rfl⟩
 ·refine⟨?_,43,l,rfl,by decide,by decide,by decide⟩;unfold hdE;rw[zcT,if_pos rfl,zfF ol]
 ·refine⟨?_,35,c::l,rfl,by decide,by decide,by decide⟩;obtain⟨d1,d2⟩:=zjn (l:=l) hc;unfold hdE;rw[zcT,if_neg ol,if_pos rfl,zfF ol,d1,d2]
 ·obtain⟨x,r,rfl,hu⟩:=znO n1;have hu':65<=x.toNat/\x.toNat<=90:=by
   unfold zbb at hu;rw[xad,xah,xah] at hu;omega
  refine⟨?_,x,r,rfl,by intro e;subst e;revert hu;decide,fun h=>by have:=zfu h;omega,fun h=>by have:=zhN h;omega⟩;obtain⟨c1,c2⟩:=zqg (w:=w) (t:=t) n1 n2;unfold hdE;rw[zcT,if_neg (by intro e;subst e;revert hu;decide),if_neg (by intro e;subst e;revert hu;decide),c1,c2]
theorem znq (w:List Data) (funs:List Ft) (vars:List Vt):∀(n:Nat) (t:Ty) (r:Rd),(exR w funs vars n t r).2.bad=false->r.bad=false/\RdsE w funs vars n t r.s (exR w funs vars n t r).1 (exR w funs vars n t r).2.s
 |0,t,r,h=>by cases h
 |n+1,t,r,h=>by
  have ih:=znq w funs vars n;have hnz:zaB r≠0:=fun e=>by rw[exR,if_pos e] at h;cases h
  obtain⟨x,l,rfl,hx⟩:=ziW hnz;refine⟨rfl, ?_⟩;have hx0:x≠0:=by rw[<-hx];exact hnz
  have ho:=zfF (l:=l) hx0;rw[exR,if_neg hnz,hx] at h ⊢;by_cases c4:zbB x=true
  ·obtain⟨d1,d2⟩:=zjn (l:=l) c4;rw[if_pos c4,d1,d2];exact .inl ⟨x,c4,I,I⟩
  rw[if_neg c4] at h ⊢;by_cases c2:zaN x=true
  ·rw[if_pos c2,ho];exact .inr (.inl ⟨x,c2,I,I⟩)
  rw[if_neg c2] at h ⊢;by_cases c5:(hdE w t ⟨x::l,false⟩).2.bad=true
  ·rw[if_pos c5] at h;rw[c5] at h;cases h
  rw[if_neg c5] at h ⊢;by_cases c6:okE w funs vars t (hdE w t ⟨x::l,false⟩).1=false
  ·rw[if_pos c6] at h;cases h
  rw[if_neg c6] at h ⊢;have hH:=zsR (w:=w) (t:=t) hx0 (by simpa using c5);generalize hdE w t ⟨x::l,false⟩=H at *;refine .inr (.inr ⟨H.1,H.2.s, ?_⟩);unfold zc3 at h ⊢;by_cases c7:0<(zal w funs t H.1).length
  ·rw[if_pos c7] at h ⊢;obtain⟨l1,e1,e2⟩:=zmT ol h;obtain⟨_,hK⟩:=zhL (g:=RdsE w funs vars n) ih _ true _ (by rw[e1]);exact⟨_,_,hH,by simpa using c6,hK,by rw[if_pos c7,e2,e1],rfl⟩
  ·rw[if_neg c7] at h ⊢;obtain⟨_,hK⟩:=zhL (g:=RdsE w funs vars n) ih _ true _ h;exact⟨_,_,hH,by simpa using c6,hK,by rw[if_neg c7],rfl⟩
theorem zmj (w:List Data) (funs:List Ft) (vars:List Vt):∀(n:Nat) (t:Ty) (s:Str) (e:Ex) (s':Str),RdsE w funs vars n t s e s'->exR w funs vars n t ⟨s,false⟩=(e,⟨s',false⟩)
 |0,t,s,p,s',h=>h.elim
 |n+1,t,s,p,s',h=>by
  have ih:=zmj w funs vars n;rcases h with ⟨c,hc,rfl,rfl⟩|⟨c,hc,rfl,rfl⟩|⟨e0,l,ks,m,hH,hok,hK,hm,rfl⟩
  ·have:=zfu hc;obtain⟨d1,d2⟩:=zjn (l:=s') hc;rw[exR,zcT,if_neg this.1,if_pos hc,d1,d2]
  ·have:=zhN hc;rw[exR,zcT,if_neg this.1,if_neg (fun h=>nlow h hc),if_pos hc,zfF this.1]
  ·obtain⟨h1,x,r,rfl,x0,x1,x2⟩:=zph hH;rw[exR,zcT,if_neg x0,if_neg x1,if_neg x2,h1];dsimp only;rw[if_neg og,if_neg (by rw[hok];simp),zmy ih _ true _ _ _ hK];unfold zc3;dsimp only;by_cases c7:0<(zal w funs t e0).length
   ·rw[if_pos c7] at hm ⊢;rw[hm,zkD ol]
   ·rw[if_neg c7] at hm ⊢;rw[hm]
theorem zjQ {f:Ty->Str->Ex->Str->Prop}{g:Ty->Ex->Str}:∀(ts:List Ty) (b:Bool) (s:Str) (ps:List Ex) (s':Str),(∀t∈ts,∀s p s',f t s p s'->s=g t p++s')->RdsK f b ts s ps s'->s=za1 g b ts ps++s'/\ps.length=ts.length
 | [],b,s,ps,s',_,h=>by obtain⟨rfl,rfl⟩:=h;exact⟨rfl,rfl⟩
 |t::ts,b,s,ps,s',hf,h=>by
  obtain⟨l,p,m,qs,rfl,h1,h2,rfl⟩:=h;have e1:=hf t og _ _ _ h1;obtain⟨e2,e3⟩:=zjQ ts false _ _ _ (fun t ht=>hf t (by simp[ht])) h2;refine⟨?_,by simp[e3]⟩;rw[za1,e1,e2];cases b<;>simp
theorem zpZ {α:Type} [Inhabited α]{l:List α} (h:l.length=2):l=[nth l 0,nth l 1]:=by
 rcases l with _|⟨x,_|⟨y,_|⟨z,r⟩⟩⟩
 ·simp at h
 ·simp at h
 ·rfl
 ·simp at h
theorem one_eq {α:Type} [Inhabited α]{l:List α} (h:l.length=1):l=[nth l 0]:=by
 rcases l with _|⟨x,_|⟨y,r⟩⟩
 ·simp at h
 ·rfl
 ·simp at h
theorem zln {w:List Data} (hw:WT w) (haz:AZ w){funs:List Ft} (hfa:∀f∈funs,TyOk w.length f.arg){vars:List Vt}:∀(n:Nat) (t:Ty) (s:Str) (e:Ex) (s':Str),TyOk w.length t->RdsE w funs vars n t s e s'->s=zay w funs n t e++s'
 |0,t,s,p,s',_,h=>h.elim
 |n+1,t,s,p,s',ht,h=>by
  have ih:=zln hw haz hfa (vars:=vars) n;rcases h with ⟨c,hc,rfl,rfl⟩|⟨c,hc,rfl,rfl⟩|⟨e0,l,ks,m,hH,hok,hK,hm,rfl⟩
  ·rw[te1 rfl];show _=decV ((c.toNat:Int)-48)++_;rw[zjm hc];rfl
  ·rw[te2 rfl];show _=letV ((c.toNat:Int)-97)++_;rw[zps hc];rfl
  ·have hin:=zcZ hw haz hfa ht (e:=e0);obtain⟨k1,k2⟩:=zjQ (g:=zay w funs n) _ true _ _ _ (fun u hu s p s'=>ih u s p s' (hin u hu)) hK;rcases hH with ⟨rfl,rfl⟩|⟨c,hc,rfl,rfl⟩|⟨n1,n2,rfl,rfl⟩
   ·have hd:t.data = -1:=by rw[ok_4 rfl] at hok;exact(xas hok).1
    have:=zdP ht hd;subst this;rw[ty_4 rfl] at k1 k2 hm;rw[te4 rfl];rw[zpZ (l:=ks) k2] at k1;show(43::l:Str)=[43,40]++zay w funs n numT (nth ks 0)++[44]++zay w funs n numT (nth ks 1)++[41]++s'
    rw[k1,hm];simp[za1]
   ·rw[ok_5 rfl,xad] at hok;have ho:=xas hok.1;rw[ty_5 rfl ho] at k1 k2 hm;rw[te5 rfl];rw[one_eq (l:=ks) k2] at k1;show(35::c::l:Str)=[35]++decV ((c.toNat:Int)-48)++[40]++zay w funs n (nth funs ((c.toNat:Int)-48).toNat).arg (nth ks 0)++[41]++s'
    have k1':l=[40]++zay w funs n (nth funs ((c.toNat:Int)-48).toNat).arg (nth ks 0)++m:=by
     have k2:l=za1 (zay w funs n) true [(nth funs ((c.toNat:Int)-48).toNat).arg] [nth ks 0]++m:=k1;rw[k2];simp[za1]
    rw[zjm hc,k1',hm];simp
   ·rw[ok_3 rfl] at hok;have ho:=xas hok;rw[ty_3 rfl ho.1 ho.2] at k1 k2 hm;rw[te3 rfl];show s=(za2 w t (nmV w t (s.take (zaz s)))++za1 (zay w funs n) true (zac w t (nmV w t (s.take (zaz s)))) ks)++(if 0<(zac w t (nmV w t (s.take (zaz s)))).length then [41] else [])++s'
    rw[zmD n2];have e2:s=s.take (zaz s)++s.drop (zaz s):=(List.take_append_drop _ _).symm;have k1':s.drop (zaz s)=za1 (zay w funs n) true (zac w t (nmV w t (s.take (zaz s)))) ks++m:=k1;have hm':m=if 0<(zac w t (nmV w t (s.take (zaz s)))).length then 41::s' else s':=hm
    rw[hm'] at k1';generalize zac w t (nmV w t (s.take (zaz s)))=ts at *;generalize hN:s.take (zaz s)=N at *;generalize hD:s.drop (zaz s)=Dr at *;rw[e2,k1'];split<;>simp
theorem zmO {w:List Data}{f:Ty->Str->Ex->Str->Prop}{g:Ty->Ex->Str}{q:Ty->Ex->Bool}:
  ∀(ts:List Ty) (ks:List Ex) (b:Bool) (rest:Str),(∀t∈ts,∀p rest,q t p=true->zf4 rest->f t (g t p++rest) p rest)->all2 q ts ks=true->zf4 rest->RdsK f b ts (za1 g b ts ks++rest) ks rest
 | [],[],b,rest,_,_,_=>⟨rfl,rfl⟩
 | [],_::_,b,rest,_,h,_=>by simp[all2] at h
 |_::_,[],b,rest,_,h,_=>by simp[all2] at h
 |t::ts,k::ks,b,rest,hf,h,hr=>by
  simp only[all2,xad] at h;have ih:=zmO (w:=w) ts ks false rest (fun u hu=>hf u (by simp[hu])) h.2 hr;have hst:zf4 (za1 g false ts ks++rest):=by
   cases ts with
   |nil=>cases ks with
    |nil=>exact hr
    |cons _ _=>simp[all2] at h
   |cons u us=>cases ks with
    |nil=>simp[all2] at h
    |cons q qs=>exact zrW _
  refine⟨g t k++(za1 g false ts ks++rest),k,_,ks, ?_,hf t og k _ h.1 hst,ih,rfl⟩;rw[za1];cases b<;>simp
theorem zhV {w:List Data} (hw:WT w) (haz:AZ w) (hN:NmOk w){funs:List Ft} (hfl:funs.length<=9) (hfa:∀f∈funs,TyOk w.length f.arg){vars:List Vt} (hv:VarIn vars):
  ∀(n:Nat) (t:Ty) (e:Ex) (rest:Str),TyOk w.length t->zaD w funs vars n t e=true->zf4 rest->RdsE w funs vars n t (zay w funs n t e++rest) e rest
 |0,t,p,rest,_,h,_=>by simp[zaD] at h
 |n+1,⟨a,k⟩,e,rest,ht,h,hr=>by
  have ih:=zhV hw haz hN hfl hfa hv n;obtain⟨o,o1,o3,o4,o5,hl,_⟩:=zik h;have o2:=zmp h hv;have h':=h;unfold zaD at h';rw[xad] at h';obtain⟨hnode,hall⟩:=h';unfold zce at hnode;rw[xad] at hnode;have hok:=hnode.1;have hin:=zcZ hw haz hfa ht (e:=e);obtain⟨op,en,ct,ks⟩:=e;have tyc:∀l,zal w funs ⟨a,k⟩ (.mk op en ct l)=zal w funs ⟨a,k⟩ (.mk op en ct ks):=fun l=>rfl;have okc:∀l,okE w funs vars ⟨a,k⟩ (.mk op en ct l)=okE w funs vars ⟨a,k⟩ (.mk op en ct ks):=fun l=>rfl;have hK:=fun b rest (hr:zf4 rest)=>zmO (w:=w) (g:=zay w funs n) (f:=RdsE w funs vars n) (zal w funs ⟨a,k⟩ (.mk op en ct ks)) ks b rest (fun u hu p rest q1 q2=>ih u p rest (hin u hu) q1 q2) hall hr;simp only[Ex.op,Ex.n,Ex.ctor,Ex.kids] at o o1 o2 o3 o4 o5 hl;rcases o with o|o|o|o|o
  ·subst o;obtain⟨c,hc,rfl⟩:=zo5 (o1 rfl).1 (o1 rfl).2;have hk:ks=[]:=List.eq_nil_of_length_eq_zero (by rw[<-hl,ty_0 ⟨by simp[Ex.op],by simp[Ex.op],by simp[Ex.op]⟩];rfl);subst hk;have hz:ct=0:=by rw[ok_1 rfl] at hok;exact(xas hok).2.2.2
   subst hz;rw[te1 rfl];show RdsE w funs vars (n+1) ⟨a,k⟩ (decV ((c.toNat:Int)-48)++rest) _ rest
   rw[zjm hc];exact .inl ⟨c,hc,I,I⟩
  ·subst o;obtain⟨c,hc,rfl⟩:=zsW (o2 rfl).1 (o2 rfl).2;have hk:ks=[]:=List.eq_nil_of_length_eq_zero (by rw[<-hl,ty_0 ⟨by simp[Ex.op],by simp[Ex.op],by simp[Ex.op]⟩];rfl);subst hk;have hz:ct=0:=by rw[ok_2 rfl,xad,xad] at hok;exact xas hok.2.2
   subst hz;rw[te2 rfl];show RdsE w funs vars (n+1) ⟨a,k⟩ (letV ((c.toNat:Int)-97)++rest) _ rest
   rw[zps hc];exact .inr (.inl ⟨c,hc,I,I⟩)
  ·subst o;obtain⟨e0,hc⟩:=o3 rfl;subst e0;obtain⟨⟨x,l,hname,hx,hl2⟩,hnm⟩:=hN _ _ ht.1 hc;have hts:=ty_3 (w:=w) (funs:=funs) (t:=⟨a,k⟩) (e:= .mk 3 0 ct ks) rfl rfl hc;rw[hts] at hl hall;have hge:¬ct<0:=by obtain⟨_,_,_,j,hj,_⟩:=za4 ht.1 hc;omega
   have hK':=hK true ((if 0<(zac w ⟨a,k⟩ ct).length then [41] else [])++rest) (by split;exact zkQ _;exact hr);rw[hts] at hK';rw[te3 rfl];show RdsE w funs vars (n+1) ⟨a,k⟩ ((za2 w ⟨a,k⟩ ct++za1 (zay w funs n) true (zac w ⟨a,k⟩ ct) ks)++(if 0<(zac w ⟨a,k⟩ ct).length then [41] else [])++rest) _ rest
   have hall':all2 (zaD w funs vars n) (zac w ⟨a,k⟩ ct) ks=true:=hall;have hK2:RdsK (RdsE w funs vars n) true (zac w ⟨a,k⟩ ct) (za1 (zay w funs n) true (zac w ⟨a,k⟩ ct) ks++((if 0<(zac w ⟨a,k⟩ ct).length then [41] else [])++rest)) ks ((if 0<(zac w ⟨a,k⟩ ct).length then [41] else [])++rest):=hK';have hst:∀y,(za1 (zay w funs n) true (zac w ⟨a,k⟩ ct) ks++((if 0<(zac w ⟨a,k⟩ ct).length then [41] else [])++rest)).head?=some y->zaN y=false:=fun y hy=>by
    cases hts:zac w ⟨a,k⟩ ct with
    |nil=>
     rw[hts] at hy;simp only[za1,xak,Nat.lt_irrefl,if_false,List.nil_append] at hy;exact(hr y hy).2.2
    |cons u us=>
     rw[hts] at hy hall';cases ks with
     |nil=>simp[all2] at hall'
     |cons q qs=>
      simp only[za1,if_true,xai,List.nil_append,List.head?_cons,xae] at hy;rw[<-hy];decide
   have hcat:za2 w ⟨a,k⟩ ct++za1 (zay w funs n) true (zac w ⟨a,k⟩ ct) ks++(if 0<(zac w ⟨a,k⟩ ct).length then [41] else [])++rest=za2 w ⟨a,k⟩ ct++(za1 (zay w funs n) true (zac w ⟨a,k⟩ ct) ks++((if 0<(zac w ⟨a,k⟩ ct).length then [41] else [])++rest)):=by simp
   rw[hcat];generalize za1 (zay w funs n) true (zac w ⟨a,k⟩ ct) ks++((if 0<(zac w ⟨a,k⟩ ct).length then [41] else [])++rest)=tl at *;have hnn:zaz (za2 w ⟨a,k⟩ ct++tl)=(za2 w ⟨a,k⟩ ct).length:=by rw[hname];exact zpy hx hl2 hst
   have htk:(za2 w ⟨a,k⟩ ct++tl).take (zaz (za2 w ⟨a,k⟩ ct++tl))=za2 w ⟨a,k⟩ ct:=by rw[hnn];simp
   have hdr:(za2 w ⟨a,k⟩ ct++tl).drop (zaz (za2 w ⟨a,k⟩ ct++tl))=tl:=by rw[hnn];simp
   refine .inr (.inr ⟨.mk 3 0 ct [],tl,ks,(if 0<(zac w ⟨a,k⟩ ct).length then [41] else [])++rest,.inr (.inr ⟨?_, ?_,hdr.symm, ?_⟩),by rw[okc];exact hok, ?_, ?_,I⟩)
   ·rw[hnn,hname];simp
   ·rw[htk,hnm];exact hge
   ·rw[htk,hnm]
   ·rw[tyc,hts];exact hK2
   ·rw[tyc,hts];show _=if 0<(zac w ⟨a,k⟩ ct).length then _ else _;split<;>rfl
  ·subst o;have hz:=hok;rw[ok_4 rfl] at hz;obtain⟨hd,z1,z2⟩:=xas hz;have z1':en=0:=z1;have z2':ct=0:=z2;subst z1' z2';have hnum:=zdP ht (o4 rfl);have hts:=ty_4 (w:=w) (funs:=funs) (t:=⟨a,k⟩) (e:= .mk 4 0 0 ks) rfl;rw[hts] at hl;have hK':=hK true (41::rest) (zkQ _);rw[hts] at hK';rw[te4 rfl];show RdsE w funs vars (n+1) ⟨a,k⟩ ([43,40]++zay w funs n numT (nth ks 0)++[44]++zay w funs n numT (nth ks 1)++[41]++rest) _ rest
   refine .inr (.inr ⟨.mk 4 0 0 [],za1 (zay w funs n) true [⟨a,k⟩,⟨a,k⟩] ks++41::rest,ks,41::rest,.inl ⟨?_,I⟩,by rw[okc];exact hok,by rw[tyc,hts];exact hK',by rw[tyc,hts];rfl,I⟩);rw[hnum];conv=>rhs;rw[zpZ (l:=ks) hl.symm]
   simp[za1]
  ·subst o;obtain⟨z0,z1,z2⟩:=o5 rfl;subst z2;obtain⟨c,hc,rfl⟩:=zo5 z0 od;have hts:=ty_5 (w:=w) (funs:=funs) (t:=⟨a,k⟩) (e:= .mk 5 ((c.toNat:Int)-48) 0 ks) rfl ⟨z0,z1,rfl⟩;rw[hts] at hl;have hK':=hK true (41::rest) (zkQ _);rw[hts] at hK';rw[te5 rfl];show RdsE w funs vars (n+1) ⟨a,k⟩ ([35]++decV ((c.toNat:Int)-48)++[40]++zay w funs n (nth funs ((c.toNat:Int)-48).toNat).arg (nth ks 0)++[41]++rest) _ rest
   rw[zjm hc];refine .inr (.inr ⟨.mk 5 ((c.toNat:Int)-48) 0 [],za1 (zay w funs n) true [(nth funs ((c.toNat:Int)-48).toNat).arg] ks++41::rest,ks,41::rest,.inr (.inl ⟨c,hc, ?_,I⟩),by rw[okc];exact hok,by rw[tyc,hts];exact hK',by rw[tyc,hts];rfl,I⟩);conv=>rhs;rw[one_eq (l:=ks) hl.symm]
   simp[za1]
set_option maxHeartbeats 4000000
def zdf (funs:List Ft) (s:Str) (m:Nat):Bool:=decide (s.length<=m+1)||(decide (((nth s (m+1)).toNat:Int)<48)||decide ((funs.length:Int)<=((nth s (m+1)).toNat:Int)-48))
def zap (w:List Data) (funs:List Ft) (s:Str):Nat->Ty->Int->Ex×Int
 |0,_,_=>(zbo,-1)
 |n+1,t,a=>
  if a<0\/(s.length:Int)<=a then (zbo,-1)
  else if zbB (nth s a.toNat)=true then (.mk 1 (((nth s a.toNat).toNat:Int)-48) 0 [],a+1)
  else if zaN (nth s a.toNat)=true then (.mk 2 (((nth s a.toNat).toNat:Int)-97) 0 [],a+1)
  else if nth s a.toNat=43 then (.mk 4 0 0 (argV (zap w funs s n) s [numT,numT] (a+1)).1,(argV (zap w funs s n) s [numT,numT] (a+1)).2)
  else if nth s a.toNat=35 then (if zdf funs s a.toNat=true then (zbo,-1) else (.mk 5 (((nth s (a.toNat+1)).toNat:Int)-48) 0 (argV (zap w funs s n) s [(nth funs ((nth s (a.toNat+1)).toNat-48)).arg] (a+2)).1,(argV (zap w funs s n) s [(nth funs ((nth s (a.toNat+1)).toNat-48)).arg] (a+2)).2))
  else if nmV w t (zbF s a.toNat)<0 then (zbo,-1)
  else (.mk 3 0 (nmV w t (zbF s a.toNat)) (argV (zap w funs s n) s (zac w t (nmV w t (zbF s a.toNat))) ((a.toNat+zaz (s.drop a.toNat):Nat):Int)).1,(argV (zap w funs s n) s (zac w t (nmV w t (zbF s a.toNat))) ((a.toNat+zaz (s.drop a.toNat):Nat):Int)).2)
theorem zgF {funs:List Ft}{s:Str}{m:Nat} (h:¬zdf funs s m=true):m+1<s.length/\48<=((nth s (m+1)).toNat:Int)/\((nth s (m+1)).toNat:Int)-48<(funs.length:Int):=by
 unfold zdf at h;simp only[Bool.or_eq_true,xah,not_or] at h;omega
theorem zm3 {funs:List Ft}{s:Str}{m:Nat} (h:s.length<=m+1\/((nth s (m+1)).toNat:Int)<48\/(funs.length:Int)<=((nth s (m+1)).toNat:Int)-48):zdf funs s m=true:=by
 unfold zdf;simp only[Bool.or_eq_true,xah];exact h
theorem zg1 {w:List Data}{funs:List Ft}{s:Str}:∀(n:Nat) (t:Ty) (a:Int),EndIn s (zap w funs s n t a).2
 |0,_,_=>⟨by simp[zap],by simp[zap]<;>omega⟩
 |n+1,t,a=>by
  have ih:=zg1 (w:=w) (funs:=funs) (s:=s) n;have z:EndIn s ((zbo,(-1:Int)):Ex×Int).2:=⟨Int.le_refl _,by dsimp only;omega⟩;unfold zap;split
  ·exact z
  rename_i ha;have ha0:0<=a:=by omega
  have ha1:a<(s.length:Int):=by omega
  split
  ·exact⟨by dsimp only;omega,by dsimp only;omega⟩
  split
  ·exact⟨by dsimp only;omega,by dsimp only;omega⟩
  split
  ·exact ziH ih ⟨by omega,by omega⟩
  split
  ·split
   ·exact z
   ·rename_i h;have:=(zgF h).1;exact ziH ih ⟨by omega,by omega⟩
  split
  ·exact z
  ·exact ziH ih (zmC ha0 ha1)
theorem zav (x:UInt8):IntKind.i64.wrap (IntKind.u8.wrap ((x.toNat:Int)-48))=((x.toNat:Int)-48) % 256:=by
 rw[zea,zbU od]
section
variable {w:List Data}{funs:List Ft}{s:Str}{n m:Nat}{t:Ty}
theorem zpD {a:Int} (h:a<0\/(s.length:Int)<=a):zap w funs s (n+1) t a=(zbo,-1):=by unfold zap;rw[if_pos h]
variable (hm:m<s.length)
include hm
theorem zmI (h1:48<=((nth s m).toNat:Int)) (h2:((nth s m).toNat:Int)<=57):zap w funs s (n+1) t (m:Int)=(.mk 1 (((nth s m).toNat:Int)-48) 0 [],(m:Int)+1):=by
 rw[zap];rw[if_neg (zjO hm),if_pos (show zbB (nth s ((m:Int)).toNat)=true from zie h1 h2)];rfl
theorem zmJ (h1:97<=((nth s m).toNat:Int)) (h2:((nth s m).toNat:Int)<=122):zap w funs s (n+1) t (m:Int)=(.mk 2 (((nth s m).toNat:Int)-97) 0 [],(m:Int)+1):=by
 rw[zap];rw[if_neg (zjO hm),if_neg (show ¬zbB (nth s ((m:Int)).toNat)=true from zfU (by show ¬(48<=((nth s m).toNat:Int)/\((nth s m).toNat:Int)<=57);omega)),if_pos (show zaN (nth s ((m:Int)).toNat)=true from zfW h1 h2)];rfl
theorem zmG (h:((nth s m).toNat:Int)=43):zap w funs s (n+1) t (m:Int)=(.mk 4 0 0 (argV (zap w funs s n) s [numT,numT] ((m:Int)+1)).1,(argV (zap w funs s n) s [numT,numT] ((m:Int)+1)).2):=by
 rw[zap];rw[if_neg (zjO hm),if_neg (show ¬zbB (nth s ((m:Int)).toNat)=true from zfU (by show ¬(48<=((nth s m).toNat:Int)/\((nth s m).toNat:Int)<=57);omega)),if_neg (show ¬zaN (nth s ((m:Int)).toNat)=true from zij (by show ¬(97<=((nth s m).toNat:Int)/\((nth s m).toNat:Int)<=122);omega)),if_pos (show nth s ((m:Int)).toNat=43 from b_eq (k:=43) od h)]
theorem zkA (h:((nth s m).toNat:Int)=35):zap w funs s (n+1) t (m:Int)=(if zdf funs s m=true then (zbo,-1) else (.mk 5 (((nth s (m+1)).toNat:Int)-48) 0 (argV (zap w funs s n) s [(nth funs ((nth s (m+1)).toNat-48)).arg] ((m:Int)+2)).1,(argV (zap w funs s n) s [(nth funs ((nth s (m+1)).toNat-48)).arg] ((m:Int)+2)).2)):=by
 rw[zap];rw[if_neg (zjO hm),if_neg (show ¬zbB (nth s ((m:Int)).toNat)=true from zfU (by show ¬(48<=((nth s m).toNat:Int)/\((nth s m).toNat:Int)<=57);omega)),if_neg (show ¬zaN (nth s ((m:Int)).toNat)=true from zij (by show ¬(97<=((nth s m).toNat:Int)/\((nth s m).toNat:Int)<=122);omega)),if_neg (show ¬nth s ((m:Int)).toNat=43 from b_ne (by show ¬((nth s m).toNat:Int)=43;omega)),if_pos (show nth s ((m:Int)).toNat=35 from b_eq (k:=35) od h)];rfl
theorem zmH (h2:¬(48<=((nth s m).toNat:Int)/\((nth s m).toNat:Int)<=57)) (h4:¬(97<=((nth s m).toNat:Int)/\((nth s m).toNat:Int)<=122)) (h1:¬((nth s m).toNat:Int)=43) (h3:¬((nth s m).toNat:Int)=35):
  zap w funs s (n+1) t (m:Int)=if nmV w t (zbF s m)<0 then (zbo,-1) else (.mk 3 0 (nmV w t (zbF s m)) (argV (zap w funs s n) s (zac w t (nmV w t (zbF s m))) ((m+zaz (s.drop m):Nat):Int)).1,(argV (zap w funs s n) s (zac w t (nmV w t (zbF s m))) ((m+zaz (s.drop m):Nat):Int)).2):=by
 rw[zap];rw[if_neg (zjO hm),if_neg (show ¬zbB (nth s ((m:Int)).toNat)=true from zfU h2),if_neg (show ¬zaN (nth s ((m:Int)).toNat)=true from zij h4),if_neg (show ¬nth s ((m:Int)).toNat=43 from b_ne (by show ¬((nth s m).toNat:Int)=43;omega)),if_neg (show ¬nth s ((m:Int)).toNat=35 from b_ne (by show ¬((nth s m).toNat:Int)=35;omega))];rfl
end
theorem zlF {w:List Data}{funs:List Ft}{s:Str} (hw:WT w) (hA3:A3 w) (hfl:funs.length<=1000000000000) (hfu:∀f∈funs,TyIn w.length f.arg) (hs:s.length<=1000000000000 / 2){a k b:Int}:FnD Tryz.prog 86 [.d (zae w),.d (zaF funs),.agg [.d (.i a),.d (.i k)],.d (.str s),.d (.i b),.d (.i ((0:Nat):Int))] [] (.tup [.agg [.d (.i (zap w funs s 0 ⟨a,k⟩ b).1.op),.d (.i (zap w funs s 0 ⟨a,k⟩ b).1.n),.d (.i (zap w funs s 0 ⟨a,k⟩ b).1.ctor),.d (zaE (zap w funs s 0 ⟨a,k⟩ b).1.kids)],.d (.i (zap w funs s 0 ⟨a,k⟩ b).2)]) []:=by
 rw[show zap w funs s 0 ⟨a,k⟩ b=(zbo,-1) from rfl];refine bd Tryz.f86 174 [] [] fun _ _ _ _ hk=>?_;refine bx 3008 ?_;refine ab 3012 tz41 ?_;refine ev ?_;apply sq<;>intro h1 h1p h1s;refine sqT ?_;refine sqT ?_;refine bu [] [] st41 ?_;refine so ty41 ?_;refine ev ?_;focus (refine rn0 (rc ty41) (.tup (.cons (.agg (qeeen ?_ ?_ ?_ ?_)) (qe ?_)));all_goals (rfl))
 focus (exfalso;first|omega|(simp at h1p;done))
theorem zlE {w:List Data}{funs:List Ft}{s:Str} (hw:WT w) (hA3:A3 w) (hfl:funs.length<=1000000000000) (hfu:∀f∈funs,TyIn w.length f.arg) (hs:s.length<=1000000000000 / 2){n:Nat} (ih:∀ {a k b:Int},TyIn w.length ⟨a,k⟩->EndIn s b->FnD Tryz.prog 86 [.d (zae w),.d (zaF funs),.agg [.d (.i a),.d (.i k)],.d (.str s),.d (.i b),.d (.i (n:Int))] [] (.tup [.agg [.d (.i (zap w funs s n ⟨a,k⟩ b).1.op),.d (.i (zap w funs s n ⟨a,k⟩ b).1.n),.d (.i (zap w funs s n ⟨a,k⟩ b).1.ctor),.d (zaE (zap w funs s n ⟨a,k⟩ b).1.kids)],.d (.i (zap w funs s n ⟨a,k⟩ b).2)]) []){a k b:Int} (hn:n+1<=1000) (ht:TyIn w.length ⟨a,k⟩) (hb:EndIn s b):
  FnD Tryz.prog 86 [.d (zae w),.d (zaF funs),.agg [.d (.i a),.d (.i k)],.d (.str s),.d (.i b),.d (.i ((n+1:Nat):Int))] [] (.tup [.agg [.d (.i (zap w funs s (n+1) ⟨a,k⟩ b).1.op),.d (.i (zap w funs s (n+1) ⟨a,k⟩ b).1.n),.d (.i (zap w funs s (n+1) ⟨a,k⟩ b).1.ctor),.d (zaE (zap w funs s (n+1) ⟨a,k⟩ b).1.kids)],.d (.i (zap w funs s (n+1) ⟨a,k⟩ b).2)]) []:=by
 have hsl:s.length<=1000000000000:=by omega
 by_cases hout:b<0\/(s.length:Int)<=b
 ·rw[zpD hout];obtain⟨hb1,hb2⟩:=hb;refine bd Tryz.f86 174 [] [] fun _ _ _ _ hk=>?_;refine bx 3008 ?_;refine ab 3012 tz41 ?_;refine ev ?_;apply sq<;>intro h1 h1p h1s;refine sqT ?_;refine sqT ?_;refine bu [] [] st41 ?_;refine so ty41 ?_;refine ev ?_;focus (refine rn0 (rc ty41) (.tup (.cons (.agg (qeeen ?_ ?_ ?_ ?_)) (qe ?_)));all_goals (rfl))
  apply sq<;>intro h3 h3p h3s;refine sqT ?_;refine bu [] [] st41 ?_;refine so ty41 ?_;refine ev ?_;focus (refine rn0 (rc ty41) (.tup (.cons (.agg (qeeen ?_ ?_ ?_ ?_)) (qe ?_)));all_goals (rfl))
  try simp only[Q] at h3p
  apply sq<;>intro h5 h5p h5s<;>(try simp only[Q] at h5p);refine bu [] [] st41 ?_;refine so ty41 ?_;refine ev ?_;focus (refine rn0 (rc ty41) (.tup (.cons (.agg (qeeen ?_ ?_ ?_ ?_)) (qe ?_)));all_goals (rfl))
  focus (exfalso;first|omega|(simp at h5p;done))
 obtain⟨m,rfl⟩:=Int.eq_ofNat_of_zero_le (show 0<=b by omega);have hm:m<s.length:=by omega
 have hint:TyIn w.length numT:= .inl rfl;have harg:∀(ts:List Ty) (a0:Int),ts.length<=3->(∀t∈ts,TyIn w.length t)->EndIn s a0->
   FnD Tryz.prog 169 [.d (zae w),.d (zaF funs),.d (zbH ts),.d (.str s),.d (.i a0),.d (.i (((n+1:Nat):Int)-1))] [] (.tup [.d (zaE (argV (zap w funs s n) s ts a0).1),.d (.i (argV (zap w funs s n) s ts a0).2)]) []:=fun ts a0 q1 q2 q3=>by
  rw[show(((n+1:Nat):Int)-1)=(n:Int) by omega];exact zjW hs q1 q3 (zg1 n) (fun t ht' b hb'=>ih (a:=t.data) (k:=t.index) (q2 t ht') hb')
 have hk1:=harg [numT,numT] ((m:Int)+1) og (by intro t h;simp at h;subst h;exact hint) ⟨by omega,by omega⟩;have hk2:=fun(q:((nth s (m+1)).toNat-48)<funs.length) (h:EndIn s ((m:Int)+2))=>harg [(nth funs ((nth s (m+1)).toNat-48)).arg] ((m:Int)+2) og (by intro t h;simp at h;subst h;exact hfu _ (zao q)) h;have hk3:=fun(h:¬nmV w ⟨a,k⟩ (zbF s m)<0)=>harg (zac w ⟨a,k⟩ (nmV w ⟨a,k⟩ (zbF s m))) ((m+zaz (s.drop m):Nat):Int) (hA3 _ _ ht (zfo h)).1 (hA3 _ _ ht (zfo h)).2 (zmC (a:=(m:Int)) od od);have hnl:=zfC (s.drop m);rw[List.length_drop] at hnl;have q0:=zmI (w:=w) (funs:=funs) (t:=⟨a,k⟩) (n:=n) hm;have q1:=zmJ (w:=w) (funs:=funs) (t:=⟨a,k⟩) (n:=n) hm;have q2:=zmG (w:=w) (funs:=funs) (t:=⟨a,k⟩) (n:=n) hm;have q3:=zkA (w:=w) (funs:=funs) (t:=⟨a,k⟩) (n:=n) hm;have q4:=zmH (w:=w) (funs:=funs) (t:=⟨a,k⟩) (n:=n) hm;have hag:=fun(h:¬nmV w ⟨a,k⟩ (zbF s m)<0)=>zbW hw ht (zfo h);have hnm:=zkP hw ht (s:=zbF s m);have hX1:=(nth s (m+1)).toNat_lt;have q3a:=fun(h:((nth s m).toNat:Int)=35) (hs:s.length<=m+1\/((nth s (m+1)).toNat:Int)<48\/(funs.length:Int)<=((nth s (m+1)).toNat:Int)-48)=>(q3 h).trans (if_pos (zm3 hs));have q3b:=fun(h:((nth s m).toNat:Int)=35) (hs:¬(s.length<=m+1\/((nth s (m+1)).toNat:Int)<48\/(funs.length:Int)<=((nth s (m+1)).toNat:Int)-48))=>(q3 h).trans (if_neg (fun hb=>hs (by
  unfold zdf at hb;simp only[Bool.or_eq_true,xah] at hb;exact hb)))
 have q4a:=fun a1 a2 a3 a4 (hs:nmV w ⟨a,k⟩ (zbF s m)<0)=>(q4 a1 a2 a3 a4).trans (if_pos hs);have q4b:=fun a1 a2 a3 a4 (hs:¬nmV w ⟨a,k⟩ (zbF s m)<0)=>(q4 a1 a2 a3 a4).trans (if_neg hs);clear q3 q4 harg;have hW:=zav (nth s (m+1));have hW0:48<=((nth s m).toNat:Int)->((nth s m).toNat:Int)<=57->IntKind.i64.wrap (IntKind.u8.wrap (((nth s m).toNat:Int)-48))=((nth s m).toNat:Int)-48:=fun _ _=>zjo od od;generalize argV (zap w funs s n) s [numT,numT] ((m:Int)+1)=K1 at *;generalize argV (zap w funs s n) s [(nth funs ((nth s (m+1)).toNat-48)).arg] ((m:Int)+2)=K2 at *;generalize argV (zap w funs s n) s (zac w ⟨a,k⟩ (nmV w ⟨a,k⟩ (zbF s m))) ((m+zaz (s.drop m):Nat):Int)=K3 at *;generalize nmV w ⟨a,k⟩ (zbF s m)=cc at *;generalize zac w ⟨a,k⟩ cc=ts at *;generalize zap w funs s (n+1) ⟨a,k⟩ (m:Int)=R at *;refine bd Tryz.f86 174 [51,64,109,120] [] fun _ _ _ _ hk=>?_;refine bx 3008 ?_;refine ab 3012 tz41 ?_;refine evs [51,64,109,120] [] ?_;apply sq<;>intro h1 h1p h1s;try simp only[Q,xal,xac,zav] at h1p
 refine sqT ?_;refine sqT ?_;focus (exfalso;first|omega|(simp at HP;done))
 apply sq<;>intro h3 h3p h3s;try simp only[Q,xal,xac,zav] at h3p
 refine sqT ?_;focus (exfalso;first|omega|(simp at HP;done))
 apply sq<;>intro h5 h5p h5s;try simp only[Q,xal,xac,zav] at h5p
 focus (exfalso;first|omega|(simp at h5p;done))
 refine bu [0] [_] st38 ?_;refine ab 3014 tz38 ?_;refine so ty38 ?_;apply tv;refine xbD (i:=m) un9 .none I I I I (za0 od) ?_;refine evs [51,64,109,120] [] ?_;apply sq<;>intro h6 h6p h6s<;>(try simp only[Q,xal,xac,zav] at h6p);apply sq<;>intro h7 h7p h7s<;>(try simp only[Q,xal,xac,zav] at h7p);refine xbU .none I I I (xbu oy un3 .none I I ?_);refine bu [0,1] [_,_] st41 ?_;refine evs [51,64,109,120] [] (ar (so ty41 ?_));refine evs [51,64,109,120] [] (rn0 (rc ty41) (.tup (.cons (.agg (qeeen ?_ ?_ ?_ ?_)) (qe ?_))));rotate_left 5;apply sq<;>intro h8 h8p h8s<;>(try simp only[Q,xal,xac,zav] at h8p);apply sq<;>intro h9 h9p h9s<;>(try simp only[Q,xal,xac,zav] at h9p);refine xbU .none I I I (xbu oy un3 .none I I ?_);refine bu [0,1] [_,_] st41 ?_;refine evs [51,64,109,120] [] (ar (so ty41 ?_));refine evs [51,64,109,120] [] (rn0 (rc ty41) (.tup (.cons (.agg (qeeen ?_ ?_ ?_ ?_)) (qe ?_))));rotate_left 5;apply sq<;>intro h10 h10p h10s<;>(try simp only[Q,xal,xac,zav] at h10p);refine si [0,1] [_,_] zaJ tz38 ?_;refine evs [51,64,109,120] [] (ar (ar (wc zda hk1 I I ?_)));refine evs [51,64,109,120] [] (bu [0,3] [_,_] st41 ?_);refine evs [51,64,109,120] [] (so ty41 ?_);refine evs [51,64,109,120] [] (rn0 (rc ty41) (.tup (.cons (.agg (qeeee ?_ ?_ ?_ ?_)) (qe ?_))));rotate_left 5;apply sq<;>intro h11 h11p h11s<;>(try simp only[Q,xal,xac,zav] at h11p);refine ar ?_;apply sq<;>intro h12 h12p h12s<;>(try simp only[Q,xal,xac,zav] at h12p);refine sqT ?_;refine sqT ?_;refine bu [] [] st41 ?_;refine so ty41 ?_;refine evs [51,64,109,120] [] (rn0 (rc ty41) (.tup (.cons (.agg (qeeen ?_ ?_ ?_ ?_)) (qe ?_))));rotate_left 5;refine ar (xbD (i:=((m+1:Nat))) un9 (.some I I h12) I I I od (za0 od) ?_);refine evs [51,64,109,120] [(97,false)] ?_ ⟨⟨_,I,h12⟩,O⟩;apply sq<;>intro h14 h14p h14s<;>(try simp only[Q,xal,xac,zav] at h14p);refine sqT ?_;refine bu [] [] st41 ?_;refine so ty41 ?_;refine evs [51,64,109,120] [] (rn0 (rc ty41) (.tup (.cons (.agg (qeeen ?_ ?_ ?_ ?_)) (qe ?_))));rotate_left 5;refine ar (xbD (i:=((m+1:Nat))) un9 (.some I I h14) I I I od (za0 od) ?_);refine xbU (.some I I h14) I I I (xbu oy un3 (.some I I h14) I I ?_);refine evs [51,64,109,120] [(104,false)] ?_ ⟨⟨_,I,h14⟩,O⟩;apply sq<;>intro h16 h16p h16s<;>(try simp only[Q,xal,xac,zav] at h16p);refine bu [] [] st41 ?_;refine so ty41 ?_;refine evs [51,64,109,120] [] (rn0 (rc ty41) (.tup (.cons (.agg (qeeen ?_ ?_ ?_ ?_)) (qe ?_))));rotate_left 5;refine ar (xbD (i:=((m+1:Nat))) un9 .none I I I od (za0 od) ?_);refine xbU .none I I I (xbu oy un3 .none I I ?_);refine evs [51,64,109,120] [] (xbB (i:=((nth s (m+1)).toNat-48)) sl35 .none I I I (by rw[zav];omega) (zag od) I ?_);refine evs [51,64,109,120] [] (si [0] [_] zaJ tz38 ?_);refine evs [51,64,109,120] [] (ar (ar (wc zda (hk2 od ⟨by omega,by omega⟩) I I ?_)));refine evs [51,64,109,120] [] (bu [0,1,3] [_,_,_] st41 ?_);refine evs [51,64,109,120] [] (so ty41 ?_);refine evs [51,64,109,120] [] (rn0 (rc ty41) (.tup (.cons (.agg (qeeee ?_ ?_ ?_ ?_)) (qe ?_))));rotate_left 5;refine wc zja (zdJ (s:=s) (n:=m) hsl od) I I ?_;refine evs [51,64,109,120] [] (wc zjb hnm I I ?_);refine evs [51,64,109,120] [] ?_;apply sq<;>intro h17 h17p h17s<;>(try simp only[Q,xal,xac,zav] at h17p);refine bu [] [] st41 ?_;refine so ty41 ?_;refine evs [51,64,109,120] [] (rn0 (rc ty41) (.tup (.cons (.agg (qeeen ?_ ?_ ?_ ?_)) (qe ?_))));rotate_left 5;refine wc zdm (hag od) I I ?_;refine evs [51,64,109,120] [] (ar (wc zda (hk3 od) I I ?_));refine evs [51,64,109,120] [] (bu [0,2,3] [_,_,_] st41 ?_);refine evs [51,64,109,120] [] (so ty41 ?_);refine evs [51,64,109,120] [] (rn0 (rc ty41) (.tup (.cons (.agg (qeeee ?_ ?_ ?_ ?_)) (qe ?_))));rotate_left 5;refine sqF ?_;apply sq<;>intro h19 h19p h19s<;>(try simp only[Q,xal,xac,zav] at h19p);refine si [0,1] [_,_] zaJ tz38 ?_;refine evs [51,64,109,120] [] (ar (ar (wc zda hk1 I I ?_)));refine evs [51,64,109,120] [] (bu [0,3] [_,_] st41 ?_);refine evs [51,64,109,120] [] (so ty41 ?_);refine evs [51,64,109,120] [] (rn0 (rc ty41) (.tup (.cons (.agg (qeeee ?_ ?_ ?_ ?_)) (qe ?_))));rotate_left 5;apply sq<;>intro h20 h20p h20s<;>(try simp only[Q,xal,xac,zav] at h20p);refine ar ?_;apply sq<;>intro h21 h21p h21s<;>(try simp only[Q,xal,xac,zav] at h21p);refine sqT ?_;refine sqT ?_;refine bu [] [] st41 ?_;refine so ty41 ?_;refine evs [51,64,109,120] [] (rn0 (rc ty41) (.tup (.cons (.agg (qeeen ?_ ?_ ?_ ?_)) (qe ?_))));rotate_left 5;refine ar (xbD (i:=((m+1:Nat))) un9 (.some I I h21) I I I od (za0 od) ?_);refine evs [51,64,109,120] [(97,false)] ?_ ⟨⟨_,I,h21⟩,O⟩;apply sq<;>intro h23 h23p h23s<;>(try simp only[Q,xal,xac,zav] at h23p);refine sqT ?_;refine bu [] [] st41 ?_;refine so ty41 ?_;refine evs [51,64,109,120] [] (rn0 (rc ty41) (.tup (.cons (.agg (qeeen ?_ ?_ ?_ ?_)) (qe ?_))));rotate_left 5;refine ar (xbD (i:=((m+1:Nat))) un9 (.some I I h23) I I I od (za0 od) ?_);refine xbU (.some I I h23) I I I (xbu oy un3 (.some I I h23) I I ?_);refine evs [51,64,109,120] [(104,false)] ?_ ⟨⟨_,I,h23⟩,O⟩;apply sq<;>intro h25 h25p h25s<;>(try simp only[Q,xal,xac,zav] at h25p);refine bu [] [] st41 ?_;refine so ty41 ?_;refine evs [51,64,109,120] [] (rn0 (rc ty41) (.tup (.cons (.agg (qeeen ?_ ?_ ?_ ?_)) (qe ?_))));rotate_left 5;refine ar (xbD (i:=((m+1:Nat))) un9 .none I I I od (za0 od) ?_);refine xbU .none I I I (xbu oy un3 .none I I ?_);refine evs [51,64,109,120] [] (xbB (i:=((nth s (m+1)).toNat-48)) sl35 .none I I I (by rw[zav];omega) (zag od) I ?_);refine evs [51,64,109,120] [] (si [0] [_] zaJ tz38 ?_);refine evs [51,64,109,120] [] (ar (ar (wc zda (hk2 od ⟨by omega,by omega⟩) I I ?_)));refine evs [51,64,109,120] [] (bu [0,1,3] [_,_,_] st41 ?_);refine evs [51,64,109,120] [] (so ty41 ?_);refine evs [51,64,109,120] [] (rn0 (rc ty41) (.tup (.cons (.agg (qeeee ?_ ?_ ?_ ?_)) (qe ?_))));rotate_left 5;refine wc zja (zdJ (s:=s) (n:=m) hsl od) I I ?_;refine evs [51,64,109,120] [] (wc zjb hnm I I ?_);refine evs [51,64,109,120] [] ?_;apply sq<;>intro h26 h26p h26s<;>(try simp only[Q,xal,xac,zav] at h26p);refine bu [] [] st41 ?_;refine so ty41 ?_;refine evs [51,64,109,120] [] (rn0 (rc ty41) (.tup (.cons (.agg (qeeen ?_ ?_ ?_ ?_)) (qe ?_))));rotate_left 5;refine wc zdm (hag od) I I ?_;refine evs [51,64,109,120] [] (ar (wc zda (hk3 od) I I ?_));refine evs [51,64,109,120] [] (bu [0,2,3] [_,_,_] st41 ?_);refine evs [51,64,109,120] [] (so ty41 ?_);refine evs [51,64,109,120] [] (rn0 (rc ty41) (.tup (.cons (.agg (qeeee ?_ ?_ ?_ ?_)) (qe ?_))));rotate_left 5;refine sqF ?_;apply sq<;>intro h28 h28p h28s<;>(try simp only[Q,xal,xac,zav] at h28p);apply sq<;>intro h29 h29p h29s<;>(try simp only[Q,xal,xac,zav] at h29p);refine xbU .none I I I (xbu oy un3 .none I I ?_);refine bu [0,1] [_,_] st41 ?_;refine evs [51,64,109,120] [] (ar (so ty41 ?_));refine evs [51,64,109,120] [] (rn0 (rc ty41) (.tup (.cons (.agg (qeeen ?_ ?_ ?_ ?_)) (qe ?_))));rotate_left 5;apply sq<;>intro h30 h30p h30s<;>(try simp only[Q,xal,xac,zav] at h30p);refine si [0,1] [_,_] zaJ tz38 ?_;refine evs [51,64,109,120] [] (ar (ar (wc zda hk1 I I ?_)));refine evs [51,64,109,120] [] (bu [0,3] [_,_] st41 ?_);refine evs [51,64,109,120] [] (so ty41 ?_);refine evs [51,64,109,120] [] (rn0 (rc ty41) (.tup (.cons (.agg (qeeee ?_ ?_ ?_ ?_)) (qe ?_))));rotate_left 5;apply sq<;>intro h31 h31p h31s<;>(try simp only[Q,xal,xac,zav] at h31p);refine ar ?_;apply sq<;>intro h32 h32p h32s<;>(try simp only[Q,xal,xac,zav] at h32p);refine sqT ?_;refine sqT ?_;refine bu [] [] st41 ?_;refine so ty41 ?_;refine evs [51,64,109,120] [] (rn0 (rc ty41) (.tup (.cons (.agg (qeeen ?_ ?_ ?_ ?_)) (qe ?_))));rotate_left 5;refine ar (xbD (i:=((m+1:Nat))) un9 (.some I I h32) I I I od (za0 od) ?_);refine evs [51,64,109,120] [(97,false)] ?_ ⟨⟨_,I,h32⟩,O⟩;apply sq<;>intro h34 h34p h34s<;>(try simp only[Q,xal,xac,zav] at h34p);refine sqT ?_;refine bu [] [] st41 ?_;refine so ty41 ?_;refine evs [51,64,109,120] [] (rn0 (rc ty41) (.tup (.cons (.agg (qeeen ?_ ?_ ?_ ?_)) (qe ?_))));rotate_left 5;refine ar (xbD (i:=((m+1:Nat))) un9 (.some I I h34) I I I od (za0 od) ?_);refine xbU (.some I I h34) I I I (xbu oy un3 (.some I I h34) I I ?_);refine evs [51,64,109,120] [(104,false)] ?_ ⟨⟨_,I,h34⟩,O⟩;apply sq<;>intro h36 h36p h36s<;>(try simp only[Q,xal,xac,zav] at h36p);refine bu [] [] st41 ?_;refine so ty41 ?_;refine evs [51,64,109,120] [] (rn0 (rc ty41) (.tup (.cons (.agg (qeeen ?_ ?_ ?_ ?_)) (qe ?_))));rotate_left 5;refine ar (xbD (i:=((m+1:Nat))) un9 .none I I I od (za0 od) ?_);refine xbU .none I I I (xbu oy un3 .none I I ?_);refine evs [51,64,109,120] [] (xbB (i:=((nth s (m+1)).toNat-48)) sl35 .none I I I (by rw[zav];omega) (zag od) I ?_);refine evs [51,64,109,120] [] (si [0] [_] zaJ tz38 ?_);refine evs [51,64,109,120] [] (ar (ar (wc zda (hk2 od ⟨by omega,by omega⟩) I I ?_)));refine evs [51,64,109,120] [] (bu [0,1,3] [_,_,_] st41 ?_);refine evs [51,64,109,120] [] (so ty41 ?_);refine evs [51,64,109,120] [] (rn0 (rc ty41) (.tup (.cons (.agg (qeeee ?_ ?_ ?_ ?_)) (qe ?_))));rotate_left 5;refine wc zja (zdJ (s:=s) (n:=m) hsl od) I I ?_;refine evs [51,64,109,120] [] (wc zjb hnm I I ?_);refine evs [51,64,109,120] [] ?_;apply sq<;>intro h37 h37p h37s<;>(try simp only[Q,xal,xac,zav] at h37p);refine bu [] [] st41 ?_;refine so ty41 ?_;refine evs [51,64,109,120] [] (rn0 (rc ty41) (.tup (.cons (.agg (qeeen ?_ ?_ ?_ ?_)) (qe ?_))));rotate_left 5;refine wc zdm (hag od) I I ?_;refine evs [51,64,109,120] [] (ar (wc zda (hk3 od) I I ?_));refine evs [51,64,109,120] [] (bu [0,2,3] [_,_,_] st41 ?_);refine evs [51,64,109,120] [] (so ty41 ?_);refine evs [51,64,109,120] [] (rn0 (rc ty41) (.tup (.cons (.agg (qeeee ?_ ?_ ?_ ?_)) (qe ?_))));rotate_left 5;refine sqF ?_;apply sq<;>intro h39 h39p h39s<;>(try simp only[Q,xal,xac,zav] at h39p);refine si [0,1] [_,_] zaJ tz38 ?_;refine evs [51,64,109,120] [] (ar (ar (wc zda hk1 I I ?_)));refine evs [51,64,109,120] [] (bu [0,3] [_,_] st41 ?_);refine evs [51,64,109,120] [] (so ty41 ?_);refine evs [51,64,109,120] [] (rn0 (rc ty41) (.tup (.cons (.agg (qeeee ?_ ?_ ?_ ?_)) (qe ?_))));rotate_left 5;apply sq<;>intro h40 h40p h40s<;>(try simp only[Q,xal,xac,zav] at h40p);refine ar ?_;apply sq<;>intro h41 h41p h41s<;>(try simp only[Q,xal,xac,zav] at h41p);refine sqT ?_;refine sqT ?_;refine bu [] [] st41 ?_;refine so ty41 ?_;refine evs [51,64,109,120] [] (rn0 (rc ty41) (.tup (.cons (.agg (qeeen ?_ ?_ ?_ ?_)) (qe ?_))));rotate_left 5;refine ar (xbD (i:=((m+1:Nat))) un9 (.some I I h41) I I I od (za0 od) ?_);refine evs [51,64,109,120] [(97,false)] ?_ ⟨⟨_,I,h41⟩,O⟩;apply sq<;>intro h43 h43p h43s<;>(try simp only[Q,xal,xac,zav] at h43p);refine sqT ?_;refine bu [] [] st41 ?_;refine so ty41 ?_;refine evs [51,64,109,120] [] (rn0 (rc ty41) (.tup (.cons (.agg (qeeen ?_ ?_ ?_ ?_)) (qe ?_))));rotate_left 5;refine ar (xbD (i:=((m+1:Nat))) un9 (.some I I h43) I I I od (za0 od) ?_);refine xbU (.some I I h43) I I I (xbu oy un3 (.some I I h43) I I ?_);refine evs [51,64,109,120] [(104,false)] ?_ ⟨⟨_,I,h43⟩,O⟩;apply sq<;>intro h45 h45p h45s<;>(try simp only[Q,xal,xac,zav] at h45p);refine bu [] [] st41 ?_;refine so ty41 ?_;refine evs [51,64,109,120] [] (rn0 (rc ty41) (.tup (.cons (.agg (qeeen ?_ ?_ ?_ ?_)) (qe ?_))));rotate_left 5;refine ar (xbD (i:=((m+1:Nat))) un9 .none I I I od (za0 od) ?_);refine xbU .none I I I (xbu oy un3 .none I I ?_);refine evs [51,64,109,120] [] (xbB (i:=((nth s (m+1)).toNat-48)) sl35 .none I I I (by rw[zav];omega) (zag od) I ?_);refine evs [51,64,109,120] [] (si [0] [_] zaJ tz38 ?_);refine evs [51,64,109,120] [] (ar (ar (wc zda (hk2 od ⟨by omega,by omega⟩) I I ?_)));refine evs [51,64,109,120] [] (bu [0,1,3] [_,_,_] st41 ?_);refine evs [51,64,109,120] [] (so ty41 ?_);refine evs [51,64,109,120] [] (rn0 (rc ty41) (.tup (.cons (.agg (qeeee ?_ ?_ ?_ ?_)) (qe ?_))));rotate_left 5;refine wc zja (zdJ (s:=s) (n:=m) hsl od) I I ?_;refine evs [51,64,109,120] [] (wc zjb hnm I I ?_);refine evs [51,64,109,120] [] ?_;apply sq<;>intro h46 h46p h46s<;>(try simp only[Q,xal,xac,zav] at h46p);refine bu [] [] st41 ?_;refine so ty41 ?_;refine evs [51,64,109,120] [] (rn0 (rc ty41) (.tup (.cons (.agg (qeeen ?_ ?_ ?_ ?_)) (qe ?_))));rotate_left 5;refine wc zdm (hag od) I I ?_;refine evs [51,64,109,120] [] (ar (wc zda (hk3 od) I I ?_));refine evs [51,64,109,120] [] (bu [0,2,3] [_,_,_] st41 ?_);refine evs [51,64,109,120] [] (so ty41 ?_);refine evs [51,64,109,120] [] (rn0 (rc ty41) (.tup (.cons (.agg (qeeee ?_ ?_ ?_ ?_)) (qe ?_))));rotate_left 5;all_goals (first|(rw[q0 od od];all_goals first|(rw[hW0 od od];all_goals rfl)|rfl)|(rw[q1 od od];all_goals first|(rw[zaI od od];all_goals rfl)|rfl)|(rw[q2 od];all_goals rfl)|(rw[q3a od od];all_goals rfl)|(rw[q3b od od];all_goals first|(rw[zav,show(((nth s (m+1)).toNat:Int)-48) % 256=((nth s (m+1)).toNat:Int)-48 by omega];all_goals rfl)|rfl)|(rw[q4a od od od od od];all_goals rfl)|(rw[q4b od od od od od];all_goals rfl))
theorem zfN {w:List Data}{funs:List Ft}{s:Str} (hw:WT w) (hA3:A3 w) (hfl:funs.length<=1000000000000) (hfu:∀f∈funs,TyIn w.length f.arg) (hs:s.length<=1000000000000 / 2):∀(n:Nat){a k:Int}{b:Int},n<=1000->TyIn w.length ⟨a,k⟩->EndIn s b->
  FnD Tryz.prog 86 [.d (zae w),.d (zaF funs),.agg [.d (.i a),.d (.i k)],.d (.str s),.d (.i b),.d (.i (n:Int))] [] (.tup [.agg [.d (.i (zap w funs s n ⟨a,k⟩ b).1.op),.d (.i (zap w funs s n ⟨a,k⟩ b).1.n),.d (.i (zap w funs s n ⟨a,k⟩ b).1.ctor),.d (zaE (zap w funs s n ⟨a,k⟩ b).1.kids)],.d (.i (zap w funs s n ⟨a,k⟩ b).2)]) []
 |0,a,k,b,_,_,_=>zlF hw hA3 hfl hfu hs
 |n+1,a,k,b,hn,ht,hb=>zlE hw hA3 hfl hfu hs (fun {a k b} h1 h2=>zfN hw hA3 hfl hfu hs n od h1 h2) hn ht hb
def zdW (w:List Data) (vars:List Vt) (i:Nat):Bool:=decide (0<=(nth vars i).var)&&(decide ((nth vars i).var<=5)&&((zbc w.length (nth vars i).ty&&decide (0<=(nth vars i).ty.index))&&decide (zbr vars (nth vars i).var=(i:Int))))
def zbT (w:List Data) (vars:List Vt):Bool:=(List.range vars.length).all (zdW w vars)
theorem zh9 {w:List Data}{vars:List Vt}{i:Nat} (hi:i<vars.length) (h:zdW w vars i=false):zbT w vars=false:=by
 cases e:zbT w vars with
 |false=>rfl
 |true=>
  unfold zbT at e;have:=List.all_eq_true.1 e i (List.mem_range.2 hi);rw[h] at this;cases this
theorem zkh {w:List Data}{vars:List Vt} (h:∀i,i<vars.length->zdW w vars i=true):zbT w vars=true:=by
 unfold zbT;exact List.all_eq_true.2 (fun i hi=>h i (List.mem_range.1 hi))
theorem zjZ {w:List Data}{vars:List Vt} (hv:vars.length<=1000000000000):FnD Tryz.prog 160 [.d (zae w),.d (zaP vars)] [] (.d (.bool (zbT w vars))) []:=by
 have hat:∀i,zdW w vars i=(decide (0<=(nth vars i).var)&&(decide ((nth vars i).var<=5)&&((zbc w.length (nth vars i).ty&&decide (0<=(nth vars i).ty.index))&&decide (zbr vars (nth vars i).var=(i:Int))))):=fun _=>rfl;have hno:∀i,i<vars.length->(¬0<=(nth vars i).var\/¬(nth vars i).var<=5\/(zbc w.length (nth vars i).ty&&decide (0<=(nth vars i).ty.index))=false\/¬zbr vars (nth vars i).var=(i:Int))->zbT w vars=false:=fun i hi h=>zh9 hi (by
  rw[hat];rcases h with h|h|h|h
  ·rw[xaw h];rfl
  ·rw[xaw h];simp
  ·rw[h];simp
  ·rw[xaw h];simp)
 have hye:∀i,0<=(nth vars i).var->(nth vars i).var<=5->(zbc w.length (nth vars i).ty&&decide (0<=(nth vars i).ty.index))=true->zbr vars (nth vars i).var=(i:Int)->zdW w vars i=true:=fun i h1 h2 h3 h4=>by
  rw[hat,xax h1,xax h2,h3,xax h4];rfl
 have hall:=zkh (w:=w) (vars:=vars);have hl1:=fun i=>zfR (w:=w) (a:=(nth vars i).ty.data) (b:=(nth vars i).ty.index);have hfv:=fun n=>zeE (l:=vars) (n:=n) hv;generalize zbT w vars=R at *;refine bd Tryz.f160 47 [] [] fun _ _ _ _ hk=>?_;refine xaA (ι:=Nat) hk (fun i=>[(5,.d (.i (i:Int)))]) [4,6,7,8,9,10,11,12,13,14,15,16,17,18,19,20,21,22,23,24,25,26,27,28,29,30,31,32,33,34,35,36,37,38,39,40,41,42,43,44,45,46] (fun i=>[]) (fun i=>i<=vars.length/\∀j,j<i->zdW w vars j=true) (fun i=>vars.length-i) 0 ⟨by omega,fun j h=>by omega⟩ ⟨⟨_,I,xaV ?_⟩,O⟩ O (fun x=>rfl) (fun i hg1=>?_);focus (first|rfl|omega|(simp;done))
 refine evc [] [] ?_;apply sq<;>intro h1 h1p h1s<;>(try simp only[Q,xal,xac] at h1p);refine ixq sl36 I I I (zag od) I ?_;refine ev ?_;apply sq<;>intro h2 h2p h2s<;>(try simp only[Q,xal,xac] at h2p);refine sqT ?_;refine sqT ?_;refine sqT ?_;refine rq ?_;rotate_left;refine xbB sl36 (.some I I h2) I I I I (zag od) I ?_;refine evs [] [(18,false)] ?_ ⟨⟨_,I,h2⟩,O⟩;apply sq<;>intro h4 h4p h4s<;>(try simp only[Q,xal,xac] at h4p);refine sqT ?_;refine sqT ?_;refine rq ?_;rotate_left;refine xbB sl36 (.some I I h4) I I I I (zag od) I ?_;refine evs [] [(26,false)] ?_ ⟨⟨_,I,h4⟩,O⟩;refine Walk.call (cr:=[]) zi9 (hl1 i) I (.some I I h4) I I (LeL.refl _) O I I I (evs [] [(26,false)] ?_ ⟨⟨_,I,h4⟩,O⟩);apply sq<;>intro h6 h6p h6s<;>(try simp only[Q,xal,xac] at h6p);refine sqT ?_;refine rq ?_;rotate_left;refine xbB sl36 (.some I I h6) I I I I (zag od) I ?_;refine evs [] [(36,false)] ?_ ⟨⟨_,I,h6⟩,O⟩;refine Walk.call (cr:=[]) zl7 (hfv (nth vars i).var) I (.some I I h6) I I (LeL.refl _) O I I I (evs [] [(36,false)] ?_ ⟨⟨_,I,h6⟩,O⟩);apply sq<;>intro h8 h8p h8s<;>(try simp only[Q,xal,xac] at h8p);refine rq ?_;rotate_left;refine ar ?_;refine xaj (i+1) ⟨⟨by omega,fun j hj=>by
    by_cases e:j=i
    ·subst e;exact hye j od od oh oh
    ·exact hg1.2 j od⟩,od,sx ⟨⟨_,rfl,xaV ?_⟩,trivial⟩ trivial⟩
 focus (first|rfl|omega|(simp;done))
 refine rq ?_;rotate_left;all_goals (first|(rw[hno i od (by first|exact .inl od|exact .inr (.inl od)|exact .inr (.inr (.inl oh))|exact .inr (.inr (.inr oh)))];done)|(rw[hall (fun j hj=>hg1.2 j od)];done))
def zby (w:List Data) (funs:List Ft) (vars:List Vt) (t:Ty):Bool:=zbm w t&&(zbO w funs&&zbT w vars)
theorem zfO {w:List Data} (hs:WSmall w){funs:List Ft}{vars:List Vt} (hf:funs.length<=1000000000000) (hv:vars.length<=1000000000000){a k:Int}:FnD Tryz.prog 81 [.d (zae w),.d (zaF funs),.d (zaP vars),.agg [.d (.i a),.d (.i k)]] [] (.d (.bool (zby w funs vars ⟨a,k⟩))) []:=by
 have h0:=ziZ hs (a:=a) (b:=k);have hf0:=zjX (w:=w) (funs:=funs) (by have:=hs.len;omega) hf;have hv0:=zjZ (w:=w) (vars:=vars) hv;have hR:zby w funs vars ⟨a,k⟩=(zbm w ⟨a,k⟩&&(zbO w funs&&zbT w vars)):=rfl;rw[hR];generalize zbm w ⟨a,k⟩=b1 at *;generalize zbO w funs=b2 at *;generalize zbT w vars=b3 at *;refine bd Tryz.f81 22 [] [] fun _ _ _ _ hk=>?_;refine bx 3007 ?_;refine ev (wc zr5 h0 I I ?_);refine ev ?_;apply sq<;>intro h1 h1p h1s;refine Walk.call (cr:=[]) ztc hf0 I (.some I I h1) I I (LeL.refl _) O I I I (evs [] [(12,true)] ?_ ⟨⟨_,I,h1⟩,O⟩);apply sq<;>intro h2 h2p h2s;refine Walk.call (cr:=[]) zsj hv0 I (.some I I h2) I I (LeL.refl _) O I I I (evs [] [(17,true)] ?_ ⟨⟨_,I,h2⟩,O⟩);refine rq ?_;rotate_left;refine rq ?_;rotate_left;refine sqF ?_;refine rq ?_;rotate_left;all_goals ((refine xam D.bool ?_;cases b1<;>cases b2<;>cases b3<;>first|rfl|contradiction))
theorem znd {f:Ty->Int->Ex×Int}{s:Str}{M:Nat}:∀(ts:List Ty) (i:Nat) (a:Int),(∀t∈ts,∀b,(f t b).1.ok/\(f t b).1.size<=M)->∀r,argL f s i ts a=some r->Exs.ok r.1/\Exs.size r.1<=ts.length*M/\r.1.length=ts.length
 | [],i,a,_,r,h=>by rw[argL] at h;cases h;exact⟨trivial,by simp[Exs.size],rfl⟩
 |t::ts,i,a,hf,r,h=>by
  rw[argL] at h;by_cases hc:zbz s a (if i=0 then 40 else 44)=true
  ·rw[if_pos hc] at h;cases e:argL f s (i+1) ts (f t (a+1)).2 with
   |none=>rw[e] at h;cases h
   |some r2=>
    rw[e] at h;cases h;obtain⟨h1,h2,h3⟩:=znd ts (i+1) _ (fun u hu=>hf u (by simp[hu])) r2 e;have h0:=hf t og (a+1);refine⟨⟨h0.1,h1⟩, ?_,by simp[h3]⟩;show(f t (a+1)).1.size+Exs.size r2.1<=(ts.length+1)*M
    rw[Nat.add_mul];omega
  ·rw[if_neg hc] at h;cases h
theorem zrq {f:Ty->Int->Ex×Int}{s:Str}{M:Nat}{ts:List Ty}{a:Int} (hl:ts.length<=3) (hf:∀t∈ts,∀b,(f t b).1.ok/\(f t b).1.size<=M):Exs.ok (argV f s ts a).1/\Exs.size (argV f s ts a).1<=3*M/\(argV f s ts a).1.length<=3:=by
 have z:Exs.ok (([]:List Ex),(-1:Int)).1/\Exs.size (([]:List Ex),(-1:Int)).1<=3*M/\(([]:List Ex),(-1:Int)).1.length<=3:=⟨trivial,by simp[Exs.size],by simp⟩;unfold argV;cases e:argL f s 0 ts a with
 |none=>exact z
 |some r=>
  obtain⟨h1,h2,h3⟩:=znd ts 0 a hf r e;have:ts.length*M<=3*M:=xav _ hl;have y:Exs.ok r.1/\Exs.size r.1<=3*M/\r.1.length<=3:=⟨h1,by omega,by omega⟩;dsimp only;split
  ·exact y
  split
  ·exact y
  ·exact z
theorem zhQ {w:List Data}{funs:List Ft}{s:Str} (hA:A3 w) (hfu:∀f∈funs,TyIn w.length f.arg):∀(n:Nat){t:Ty} (a:Int),TyIn w.length t->(zap w funs s n t a).1.ok/\(zap w funs s n t a).1.size<=4 ^ n
 |0,t,a,_=>⟨by rw[xaL];exact⟨by simp[zap,Ex.kids],trivial⟩,by rw[xaN];simp[zap,Ex.kids,Exs.size]⟩
 |n+1,t,a,ht=>by
  have ih:=fun {t:Ty} (b:Int) (h:TyIn w.length t)=>zhQ hA hfu (s:=s) n b h;have hp:1<=4 ^ n:=Nat.pow_pos od;have he:4 ^ (n+1)=4*4 ^ n:=by rw[Nat.pow_succ];omega
  have leaf:∀ {x1 x2 x3:Int},(Ex.mk x1 x2 x3 []).ok/\(Ex.mk x1 x2 x3 []).size<=4 ^ (n+1):=fun {x1 x2 x3}=>⟨by rw[xaL];exact⟨by simp[Ex.kids],trivial⟩,by rw[xaN];simp[Ex.kids,Exs.size];omega⟩;have node:∀ {x1 x2 x3:Int}{ts:List Ty}{b:Int},ts.length<=3->(∀u∈ts,TyIn w.length u)->(Ex.mk x1 x2 x3 (argV (zap w funs s n) s ts b).1).ok/\(Ex.mk x1 x2 x3 (argV (zap w funs s n) s ts b).1).size<=4 ^ (n+1):=fun {x1 x2 x3 ts b} h1 h2=>by
   obtain⟨k1,k2,k3⟩:=zrq (f:=zap w funs s n) (a:=b) (s:=s) h1 (fun u hu b=>ih b (h2 u hu));refine⟨by rw[xaL];exact⟨by show(argV (zap w funs s n) s ts b).1.length<=_;omega,k1⟩, ?_⟩;rw[xaN];show 1+Exs.size (argV (zap w funs s n) s ts b).1<=_
   omega
  unfold zap;split
  ·exact leaf
  split
  ·exact leaf
  split
  ·exact leaf
  split
  ·exact node og (by intro u hu;simp at hu;subst hu;exact .inl rfl)
  split
  ·split
   ·exact leaf
   ·rename_i hb;have:=zgF hb;exact node og (by intro u hu;simp at hu;subst hu;exact hfu _ (zao od))
  split
  ·exact leaf
  rename_i hc;have hA':=hA t _ ht (zfo hc);exact node hA'.1 hA'.2
def peV (w:List Data) (funs:List Ft) (vars:List Vt) (t:Ty) (s:Str):Option Ex:=
 if zby w funs vars t=true/\¬s=[]/\(zap w funs s 10 t 0).2=(s.length:Int)/\isE w funs vars t (zap w funs s 10 t 0).1=true then some (zap w funs s 10 t 0).1 else none
theorem ziu {w:List Data} (hs:WSmall w){funs:List Ft}{vars:List Vt} (hf:funs.length<=1000000000000) (hv:vars.length<=1000000000000){a k:Int}{s:Str} (hsl:s.length<=1000000):
  FnD Tryz.prog 26 [.d (zae w),.d (zaF funs),.d (zaP vars),.agg [.d (.i a),.d (.i k)],.d (.str s)] [] (.tup [.agg [.d (.i ((peV w funs vars ⟨a,k⟩ s).getD zbo).op),.d (.i ((peV w funs vars ⟨a,k⟩ s).getD zbo).n),.d (.i ((peV w funs vars ⟨a,k⟩ s).getD zbo).ctor),.d (zaE ((peV w funs vars ⟨a,k⟩ s).getD zbo).kids)],.d (.bool (peV w funs vars ⟨a,k⟩ s).isSome)]) []:=by
 have hr:=zfO hs hf hv (a:=a) (k:=k);have hno:(¬(zby w funs vars ⟨a,k⟩=true/\¬s=[]/\(zap w funs s 10 ⟨a,k⟩ 0).2=(s.length:Int)/\isE w funs vars ⟨a,k⟩ (zap w funs s 10 ⟨a,k⟩ 0).1=true))->peV w funs vars ⟨a,k⟩ s=none:=fun h=>if_neg h;have hye:zby w funs vars ⟨a,k⟩=true->¬s=[]->(zap w funs s 10 ⟨a,k⟩ 0).2=(s.length:Int)->isE w funs vars ⟨a,k⟩ (zap w funs s 10 ⟨a,k⟩ 0).1=true->peV w funs vars ⟨a,k⟩ s=some (zap w funs s 10 ⟨a,k⟩ 0).1:=fun h1 h2 h3 h4=>if_pos ⟨h1,h2,h3,h4⟩;cases hR:zby w funs vars ⟨a,k⟩ with
 |false=>
  rw[hno (fun h=>by rw[hR] at h;simp at h)];rw[hR] at hr;clear hno hye;refine bd Tryz.f26 48 [] [] fun _ _ _ _ hk=>?_;refine bx 3008 ?_;refine ab 3010 tz41 ?_;refine ev (wc zn0 hr I I ?_);refine ev ?_;apply sq<;>intro h1 h1p h1s;refine bu [] [] st41 ?_;refine so ty41 ?_;refine ev (rn0 (rc ty41) (.tup (.cons (.agg (qeeen ?_ ?_ ?_ ?_)) (qe ?_))));rotate_left 5;exfalso;simp at *;all_goals (rfl)
 |true=>
  have hR':=hR;unfold zby at hR';rw[xad,xad] at hR';obtain⟨tv,hfo,hvo⟩:=hR';obtain⟨wv,ht,_⟩:=zfS tv;have hw:=zcN hs wv;have hA:=zi5 hs wv;have hfa:∀f∈funs,TyOk w.length f.arg:=fun f hm=>zd7 (zhB hfo f hm).1;have hps:=zfN hw hA hf (fun f hm=>(hfa f hm).1) (s:=s) od 10 od ht (b:=0) ⟨by omega,by omega⟩;obtain⟨p1,p2⟩:=zhQ (s:=s) hA (fun f hm=>(hfa f hm).1) 10 0 ht;have his:=zhb hw (zc7 wv) hf hv hfa (zlU tv) p1 (Nat.le_trans p2 ol);rw[hR] at hr;have hno1:=fun(h:s=[])=>hno (fun q=>q.2.1 h);have hno2:=fun(h:¬(zap w funs s 10 ⟨a,k⟩ 0).2=(s.length:Int))=>hno (fun q=>h q.2.2.1);have hno3:=fun(h:isE w funs vars ⟨a,k⟩ (zap w funs s 10 ⟨a,k⟩ 0).1=false)=>hno (fun q=>by rw[h] at q;simp at q);have hye':=hye hR;have hend:=zg1 (w:=w) (funs:=funs) (s:=s) 10 ⟨a,k⟩ 0;clear hno hye hR;generalize peV w funs vars ⟨a,k⟩ s=R at *;generalize zap w funs s 10 ⟨a,k⟩ 0=r at *;generalize isE w funs vars ⟨a,k⟩ r.1=b at *;refine bd Tryz.f26 48 [] [] fun _ _ _ _ hk=>?_;refine bx 3008 ?_;refine ab 3010 tz41 ?_;refine ev (wc zn0 hr I I ?_);refine ev ?_;apply sq<;>intro h1 h1p h1s;exfalso;simp at *;refine wc zn1 hps I I ?_;refine ev (ab 3012 tz41 ?_);refine so ty41 ?_;refine ev ?_;apply sq<;>intro h2 h2p h2s<;>(try simp only[Q,xal] at h2p);refine sqT ?_;refine sqT ?_;refine bu [] [] st41 ?_;refine so ty41 ?_;refine ev (rn0 (rc ty41) (.tup (.cons (.agg (qeeen ?_ ?_ ?_ ?_)) (qe ?_))));rotate_left 5;apply sq<;>intro h4 h4p h4s<;>(try simp only[Q,xal] at h4p);refine sqT ?_;refine bu [] [] st41 ?_;refine so ty41 ?_;refine ev (rn0 (rc ty41) (.tup (.cons (.agg (qeeen ?_ ?_ ?_ ?_)) (qe ?_))));rotate_left 5;refine Walk.call (cr:=[]) zqY his I (.some I I h4) I I (LeL.refl _) O I I I (evs [] [(37,false)] ?_ ⟨⟨_,I,h4⟩,O⟩);apply sq<;>intro h6 h6p h6s<;>(try simp only[Q,xal] at h6p);refine bu [] [] st41 ?_;refine so ty41 ?_;refine ev (rn0 (rc ty41) (.tup (.cons (.agg (qeeen ?_ ?_ ?_ ?_)) (qe ?_))));rotate_left 5;refine so ty41 ?_;refine ev (rn0 (rc ty41) (.tup (.cons (.agg (qeeee ?_ ?_ ?_ ?_)) (qe ?_))));rotate_left 5;all_goals (first|(rw[hno1 oh];all_goals rfl)|(rw[hno2 oh];all_goals rfl)|(rw[hno3 oh];all_goals rfl)|(rw[hye' oh oh oh];all_goals rfl))
set_option maxHeartbeats 2000000
theorem znc {f:Ty->Int->Ex×Int}{g:Ty->Str->Ex->Str->Prop}{s:Str}:∀(ts:List Ty) (i:Nat) (u:Str) (ps:List Ex) (u':Str) (m:Nat),
  (∀t∈ts,∀u p u' m,g t u p u'->s.drop m=u->m<=s.length->∃m':Nat,m'<=s.length/\s.drop m'=u'/\f t (m:Int)=(p,(m':Int)))->
  RdsK g (decide (i=0)) ts u ps u'->s.drop m=u->m<=s.length->∃m':Nat,m'<=s.length/\s.drop m'=u'/\argL f s i ts (m:Int)=some (ps,(m':Int))
 | [],i,u,ps,u',m,_,h,hd,hm=>by obtain⟨rfl,rfl⟩:=h;exact⟨m,hm,hd,rfl⟩
 |t::ts,i,u,ps,u',m,hf,h,hd,hm=>by
  obtain⟨l,p,mm,qs,rfl,h1,h2,rfl⟩:=h;have e:(if decide (i=0)=true then (40:UInt8) else 44)=if i=0 then 40 else 44:=by by_cases h:i=0<;>simp[h]
  rw[e] at hd;obtain⟨e1,e2,e3,e4⟩:=zfK hd;obtain⟨m1,a1,a2,a3⟩:=hf t og _ _ _ (m+1) h1 e4 e2;rw[argL,if_pos e1,show(m:Int)+1=((m+1:Nat):Int) from rfl,a3];obtain⟨m2,b1,b2,b3⟩:=znc ts (i+1) _ _ _ m1 (fun t ht=>hf t (by simp[ht])) (by rw[show decide (i+1=0)=false from xaw od];exact h2) a2 a1;refine⟨m2,b1,b2, ?_⟩;dsimp only;rw[b3]
theorem zkl {f:Ty->Int->Ex×Int}{g:Ty->Str->Ex->Str->Prop}{s:Str}{ts:List Ty}{l:Str}{ks:List Ex}{mm s':Str}{m:Nat}
  (hf:∀t∈ts,∀u p u' m,g t u p u'->s.drop m=u->m<=s.length->∃m':Nat,m'<=s.length/\s.drop m'=u'/\f t (m:Int)=(p,(m':Int)))
  (hK:RdsK g true ts l ks mm) (hm:mm=if 0<ts.length then 41::s' else s') (hd:s.drop m=l) (hl:m<=s.length):∃m':Nat,m'<=s.length/\s.drop m'=s'/\argV f s ts (m:Int)=(ks,(m':Int)):=by
 obtain⟨m1,a1,a2,a3⟩:=znc ts 0 _ _ _ m hf hK hd hl;unfold argV;rw[a3];dsimp only;by_cases c7:0<ts.length
 ·rw[if_pos c7] at hm;rw[hm] at a2;obtain⟨g1,g2,g3,g4⟩:=zfK a2;refine⟨m1+1,g2,g4, ?_⟩;rw[if_neg od,if_pos g1];rfl
 ·rw[if_neg c7] at hm;refine⟨m1,a1,by rw[a2,hm], ?_⟩;rw[if_pos od]
theorem zjP {w:List Data} (hw:WT w) (haz:AZ w){funs:List Ft} (hfa:∀f∈funs,TyOk w.length f.arg){vars:List Vt} (s:Str):∀(n:Nat) (t:Ty) (u:Str) (e:Ex) (u':Str) (m:Nat),TyOk w.length t->RdsE w funs vars n t u e u'->s.drop m=u->m<=s.length->
  ∃m':Nat,m'<=s.length/\s.drop m'=u'/\zap w funs s n t (m:Int)=(e,(m':Int))
 |0,t,u,p,u',m,_,h,_,_=>h.elim
 |n+1,t,u,p,u',m,ht,h,hd,hm=>by
  have ih:=zjP hw haz hfa (vars:=vars) s n;rcases h with ⟨c,hc,rfl,rfl⟩|⟨c,hc,rfl,rfl⟩|⟨e0,l,ks,mm,hH,hok,hK,hmm,rfl⟩
  ·obtain⟨e1,e2,e3,e4⟩:=zfK hd;obtain⟨_,l1,l2⟩:=zfu hc;refine⟨m+1,e2,e4, ?_⟩;rw[zmI e2 (by rw[e3];omega) (by rw[e3];omega),e3];rfl
  ·obtain⟨e1,e2,e3,e4⟩:=zfK hd;obtain⟨_,l1,l2⟩:=zhN hc;refine⟨m+1,e2,e4, ?_⟩;rw[zmJ e2 (by rw[e3];omega) (by rw[e3];omega),e3];rfl
  ·have hin:=zcZ hw haz hfa ht (e:=e0);have hf:∀t'∈zal w funs t e0,∀u p u' m,RdsE w funs vars n t' u p u'->s.drop m=u->m<=s.length->∃m':Nat,m'<=s.length/\s.drop m'=u'/\zap w funs s n t' (m:Int)=(p,(m':Int)):=fun t' ht' u p u' m hg=>ih t' u p u' m (hin t' ht') hg;rcases hH with ⟨rfl,rfl⟩|⟨c,hc,rfl,rfl⟩|⟨n1,n2,rfl,rfl⟩
   ·obtain⟨e1,e2,e3,e4⟩:=zfK hd;have hdt:t.data = -1:=by rw[ok_4 rfl] at hok;exact(xas hok).1
    have:=zdP ht hdt;subst this;rw[ty_4 rfl] at hf hK hmm;obtain⟨m',a1,a2,a3⟩:=zkl hf hK hmm e4 e2;refine⟨m',a1,a2, ?_⟩;rw[zmG e2 (by rw[e3];rfl),show(m:Int)+1=((m+1:Nat):Int) from rfl,a3];rfl
   ·obtain⟨e1,e2,e3,e4⟩:=zfK hd;obtain⟨f1,f2,f3,f4⟩:=zfK e4;obtain⟨_,l1,l2⟩:=zfu hc;rw[ok_5 rfl,xad] at hok;have ho:=xas hok.1;have ho2:((c.toNat:Int)-48)<(funs.length:Int):=ho.2.1;rw[ty_5 rfl ho] at hf hK hmm;obtain⟨m',a1,a2,a3⟩:=zkl hf hK hmm f4 f2;refine⟨m',a1,a2, ?_⟩;have hcb:¬zdf funs s m=true:=by
     intro h;unfold zdf at h;rw[f3] at h;simp only[Bool.or_eq_true,xah] at h;omega
    have hn:((nth s (m+1)).toNat-48)=((c.toNat:Int)-48).toNat:=by rw[f3];omega
    rw[zkA e2 (by rw[e3];rfl),if_neg hcb,hn,show(m:Int)+2=((m+1+1:Nat):Int) by omega];have a3':argV (zap w funs s n) s [(nth funs ((c.toNat:Int)-48).toNat).arg] ((m+1+1:Nat):Int)=(ks,(m':Int)):=a3;rw[a3',f3];rfl
   ·obtain⟨x,l,e,hup⟩:=znO n1;have hm1:m<s.length:=by
     rcases Nat.lt_or_ge m s.length with h1|h1
     ·exact h1
     ·rw[List.drop_eq_nil_of_le h1] at hd;rw[<-hd] at e;cases e
    have hx:nth s m=x:=by rw[zaZ hm1,e] at hd;exact(List.cons.inj hd).1
    have hu':65<=x.toNat/\x.toNat<=90:=by
     unfold zbb at hup;rw[xad,xah,xah] at hup;omega
    subst hd;have hnl:=zfC (s.drop m);rw[List.length_drop] at hnl;rw[ok_3 rfl] at hok;have ho:=xas hok;rw[ty_3 rfl ho.1 ho.2] at hf hK hmm;obtain⟨m',a1,a2,a3⟩:=zkl (m:=m+zaz (s.drop m)) hf hK hmm (by rw[List.drop_drop]) od;refine⟨m',a1,a2, ?_⟩;rw[zmH hm1 (by rw[hx];omega) (by rw[hx];omega) (by rw[hx];omega) (by rw[hx];omega)];unfold zbF;have a3':argV (zap w funs s n) s (zac w t (nmV w t ((s.drop m).take (zaz (s.drop m))))) ((m+zaz (s.drop m):Nat):Int)=(ks,(m':Int)):=a3;rw[if_neg n2,a3'];rfl
theorem znL {s:Str}{a:Int}{c:UInt8} (h:zbz s a c=true):s.drop a.toNat=c::s.drop (a+1).toNat:=by
 obtain⟨h0,h1⟩:=zd4 h;unfold zbz at h;simp only[xad,xah] at h;rw[zaZ (show a.toNat<s.length by omega),h.2.2,show(a+1).toNat=a.toNat+1 by omega]
theorem zpR {s:Str}{a:Int}{c:UInt8} (h:a<0):¬zbz s a c=true:=fun h2=>by have:=zd4 h2;omega
theorem ziG {f:Ty->Int->Ex×Int}{g:Ty->Str->Ex->Str->Prop}{q:Ty->Ex->Bool}{s:Str}:∀(ts:List Ty) (i:Nat) (a:Int) (r:List Ex×Int),
  (∀t∈ts,∀a,0<=a->0<=(f t a).2->q t (f t a).1=true->g t (s.drop a.toNat) (f t a).1 (s.drop (f t a).2.toNat))->
  argL f s i ts a=some r->0<=r.2->all2 q ts r.1=true->RdsK g (decide (i=0)) ts (s.drop a.toNat) r.1 (s.drop r.2.toNat)
 | [],i,a,r,_,h,_,_=>by rw[argL] at h;cases h;exact⟨rfl,rfl⟩
 |t::ts,i,a,r,hf,h,h0,hq=>by
  rw[argL] at h;by_cases hs:zbz s a (if i=0 then 40 else 44)=true
  ·rw[if_pos hs] at h;have ha:=(zd4 hs).1;cases e:argL f s (i+1) ts (f t (a+1)).2 with
   |none=>rw[e] at h;cases h
   |some r1=>
    rw[e] at h;cases h
    simp only[all2,xad] at hq;have ih:=ziG ts (i+1) _ r1 (fun t ht=>hf t (by simp[ht])) e h0 hq.2;have h2:0<=(f t (a+1)).2:=by
     rcases Int.lt_or_le (f t (a+1)).2 0 with hn|hn
     ·exfalso;cases ts with
      |nil=>rw[argL] at e;cases e;exact absurd h0 oz
      |cons u us=>rw[argL,if_neg (zpR hn)] at e;cases e
     ·exact hn
    refine⟨s.drop (a+1).toNat,_,_,_, ?_,hf t og (a+1) od h2 hq.1,by rw[show decide (i+1=0)=false from xaw od] at ih;exact ih,I⟩;rw[znL hs];by_cases h:i=0<;>simp[h]
  ·rw[if_neg hs] at h;cases h
theorem ziI {f:Ty->Int->Ex×Int}{g:Ty->Str->Ex->Str->Prop}{q:Ty->Ex->Bool}{s:Str}{ts:List Ty}{a:Int}
  (hf:∀t∈ts,∀a,0<=a->0<=(f t a).2->q t (f t a).1=true->g t (s.drop a.toNat) (f t a).1 (s.drop (f t a).2.toNat))
  (h0:0<=(argV f s ts a).2) (hq:all2 q ts (argV f s ts a).1=true):
  RdsK g true ts (s.drop a.toNat) (argV f s ts a).1 (if 0<ts.length then 41::s.drop (argV f s ts a).2.toNat else s.drop (argV f s ts a).2.toNat):=by
 unfold argV at h0 hq ⊢;cases e:argL f s 0 ts a with
 |none=>rw[e] at h0;exact absurd h0 (by show ¬(0:Int)<= -1;decide)
 |some r=>
  rw[e] at h0 hq;dsimp only at h0 hq ⊢;by_cases c:ts.length=0
  ·rw[if_pos c] at h0 hq ⊢;rw[if_neg od];exact ziG ts 0 a r hf e h0 hq
  ·rw[if_neg c] at h0 hq ⊢;rw[if_pos (show 0<ts.length by omega)];by_cases hs:zbz s r.2 41=true
   ·rw[if_pos hs] at h0 hq ⊢;have:=ziG ts 0 a r hf e (zd4 hs).1 hq;rw[znL hs] at this;exact this
   ·rw[if_neg hs] at h0;exact absurd h0 (by show ¬(0:Int)<= -1;decide)
theorem zjL {w:List Data} (hw:WT w) (haz:AZ w) (hN:NmOk w){funs:List Ft} (hfl:funs.length<=9) (hfa:∀f∈funs,TyOk w.length f.arg){vars:List Vt} (s:Str):∀(n:Nat) (t:Ty) (a:Int),TyOk w.length t->0<=a->0<=(zap w funs s n t a).2->zaD w funs vars n t (zap w funs s n t a).1=true->
  RdsE w funs vars n t (s.drop a.toNat) (zap w funs s n t a).1 (s.drop (zap w funs s n t a).2.toNat)
 |0,t,a,_,_,h,_=>by exact absurd h (by show ¬(0:Int)<= -1;decide)
 |n+1,t,a,ht,ha,h,hfit=>by
  have ih:=zjL hw haz hN hfl hfa (vars:=vars) s n;obtain⟨m,rfl⟩:=Int.eq_ofNat_of_zero_le ha;by_cases hm:(s.length:Int)<=(m:Int)
  ·rw[zpD (.inr hm)] at h;exact absurd h (by show ¬(0:Int)<= -1;decide)
  have hm1:m<s.length:=by omega
  have hdr:s.drop ((m:Int)).toNat=nth s m::s.drop (m+1):=zaZ hm1;have hnode:∀ {e:Ex},zaD w funs vars (n+1) t e=true->okE w funs vars t e=true/\all2 (zaD w funs vars n) (zal w funs t e) e.kids=true:=fun {e} h=>by
   unfold zaD at h;rw[xad] at h;have h1:=h.1;unfold zce at h1;rw[xad] at h1;exact⟨h1.1,h.2⟩
  have hkid:∀(e:Ex),∀t'∈zal w funs t e,∀a,0<=a->0<=(zap w funs s n t' a).2->zaD w funs vars n t' (zap w funs s n t' a).1=true->RdsE w funs vars n t' (s.drop a.toNat) (zap w funs s n t' a).1 (s.drop (zap w funs s n t' a).2.toNat):=fun e t' ht' a=>ih t' a (zcZ hw haz hfa ht t' ht');by_cases c1:48<=((nth s m).toNat:Int)/\((nth s m).toNat:Int)<=57
  ·rw[zmI hm1 c1.1 c1.2,hdr];exact .inl ⟨nth s m,zie c1.1 c1.2,by rw[show((m:Int)+1).toNat=m+1 by omega],I⟩
  by_cases c2:97<=((nth s m).toNat:Int)/\((nth s m).toNat:Int)<=122
  ·rw[zmJ hm1 c2.1 c2.2,hdr];exact .inr (.inl ⟨nth s m,zfW c2.1 c2.2,by rw[show((m:Int)+1).toNat=m+1 by omega],I⟩)
  by_cases c3:((nth s m).toNat:Int)=43
  ·rw[zmG hm1 c3] at h hfit ⊢;obtain⟨hok,hall⟩:=hnode hfit;have hd:t.data = -1:=by rw[ok_4 rfl] at hok;exact(xas hok).1
   have:=zdP ht hd;subst this;rw[ty_4 rfl] at hall;have hkid':=hkid (.mk 4 0 0 []);rw[ty_4 rfl] at hkid';have:=ziI (q:=zaD w funs vars n) hkid' h hall;rw[hdr];have hc:nth s m=43:=b_eq (k:=43) od c3;refine .inr (.inr ⟨.mk 4 0 0 [],_,_,_,.inl ⟨by rw[hc],I⟩,hok, ?_,I,I⟩);rw[ty_4 rfl,show s.drop (m+1)=s.drop ((m:Int)+1).toNat from by rw[show((m:Int)+1).toNat=m+1 by omega]];exact this
  by_cases c4:((nth s m).toNat:Int)=35
  ·rw[zkA hm1 c4] at h hfit ⊢;by_cases cb:zdf funs s m=true
   ·rw[if_pos cb] at h;exact absurd h (by show ¬(0:Int)<= -1;decide)
   rw[if_neg cb] at h hfit ⊢;obtain⟨hok,hall⟩:=hnode hfit;obtain⟨b1,b2,b3⟩:=zgF cb;have hok':=hok;rw[ok_5 rfl,xad] at hok';have ho:=xas hok'.1;rw[ty_5 rfl ho] at hall;have hn:(nth s (m+1)).toNat-48=(((nth s (m+1)).toNat:Int)-48).toNat:=by omega
   have hc:zbB (nth s (m+1))=true:=zie od od;have ho5:zal w funs t (.mk 5 (((nth s (m+1)).toNat:Int)-48) 0 [])=[(nth funs (((nth s (m+1)).toNat:Int)-48).toNat).arg]:=ty_5 rfl ho;have hkid':=hkid (.mk 5 (((nth s (m+1)).toNat:Int)-48) 0 []);rw[ho5] at hkid';rw[hn] at h hall ⊢;have:=ziI (q:=zaD w funs vars n) hkid' h hall;rw[hdr,zaZ b1];have hc2:nth s m=35:=b_eq (k:=35) od c4;refine .inr (.inr ⟨.mk 5 (((nth s (m+1)).toNat:Int)-48) 0 [],s.drop (m+1+1),_,_,.inr (.inl ⟨nth s (m+1),hc,by rw[hc2],I⟩),hok, ?_,I,I⟩);rw[ho5,show s.drop (m+1+1)=s.drop ((m:Int)+2).toNat from by rw[show((m:Int)+2).toNat=m+1+1 by omega]];exact this
  ·rw[zmH hm1 c1 c2 c3 c4] at h hfit ⊢;by_cases cn:nmV w t (zbF s m)<0
   ·rw[if_pos cn] at h;exact absurd h (by show ¬(0:Int)<= -1;decide)
   rw[if_neg cn] at h hfit ⊢;obtain⟨hok,hall⟩:=hnode hfit;have hok':=hok;rw[ok_3 rfl] at hok';have ho:=xas hok';rw[ty_3 rfl ho.1 ho.2] at hall;have ho3:zal w funs t (.mk 3 0 (nmV w t (zbF s m)) [])=zac w t (nmV w t (zbF s m)):=ty_3 rfl ho.1 ho.2;have hkid':=hkid (.mk 3 0 (nmV w t (zbF s m)) []);rw[ho3] at hkid';have:=ziI (q:=zaD w funs vars n) hkid' h hall;have hn0:0<zaz (s.drop m):=by
    rcases Nat.eq_zero_or_pos (zaz (s.drop m)) with h0|h0
    ·exfalso;have e:zbF s m=[]:=by unfold zbF;rw[h0];rfl
     rw[e] at cn;obtain⟨⟨x,l,hx,_⟩,_⟩:=hN t _ ht.1 (zfo cn);rw[zmD cn] at hx;cases hx
    ·exact h0
   refine .inr (.inr ⟨.mk 3 0 (nmV w t (zbF s m)) [],s.drop (m+zaz (s.drop m)),_,_,.inr (.inr ⟨hn0,cn,by rw[List.drop_drop];rfl,I⟩),hok, ?_,I,I⟩);rw[ho3];exact this
theorem zin {w:List Data} (hs:WSmall w){funs:List Ft}{vars:List Vt}{t:Ty} (hR:zby w funs vars t=true) (s:Str):reI w funs vars t s=peV w funs vars t s/\∀e,reI w funs vars t s=some e->isE w funs vars t e=true/\zay w funs 10 t e=s:=by
 have hR':=hR;unfold zby at hR';rw[xad,xad] at hR';obtain⟨tv,hfo,hvo⟩:=hR';obtain⟨wv,_,_⟩:=zfS tv;have ht:=zlU tv;have hw:=zcN hs wv;have haz:=zc7 wv;have hN:=zm0 wv;have hfa:∀f∈funs,TyOk w.length f.arg:=fun f hm=>zd7 (zhB hfo f hm).1;have hf4:funs.length<=9:=by unfold zbO at hfo;rw[xad,xah] at hfo;omega
 have key:∀e,reI w funs vars t s=some e->RdsE w funs vars 10 t s e []/\isE w funs vars t e=true:=fun e h=>by
  unfold reI at h;split at h
  ·rename_i ho;cases h
   unfold rdOk at ho;simp only[xad,Bool.not_eq_true',xah] at ho;obtain⟨h1,h2,h3⟩:=ho;have:=(znq w funs vars 10 t ⟨s,false⟩ h1).2;have h2':(exR w funs vars 10 t ⟨s,false⟩).2.s=[]:=h2;rw[h2'] at this;exact⟨this,h3⟩
  ·cases h
 have hback:∀e,RdsE w funs vars 10 t s e []->isE w funs vars t e=true->reI w funs vars t s=some e:=fun e h h2=>by
  have h1:=zmj w funs vars 10 t s e [] h;unfold reI rdOk rdE;rw[h1];simp[h2]
 have hne:∀e,RdsE w funs vars 10 t s e []->s≠[]:=fun e h=>by
  rcases h with ⟨c,hc,rfl,rfl⟩|⟨c,hc,rfl,rfl⟩|⟨e0,l,ks,mm,hH,_⟩
  ·simp
  ·simp
  ·obtain⟨_,x,r,rfl,_⟩:=zph hH;simp
 refine⟨?_,fun e h=>?_⟩
 ·cases h:reI w funs vars t s with
  |some e=>
   obtain⟨h1,h2⟩:=key e h;obtain⟨m,a1,a2,a3⟩:=zjP hw haz hfa s 10 t s e [] 0 ht h1 rfl (Nat.zero_le _);have hm:m=s.length:=by
    rcases Nat.lt_or_ge m s.length with h4|h4
    ·rw[zaZ h4] at a2;cases a2
    ·omega
   have a3':zap w funs s 10 t 0=(e,(m:Int)):=a3;unfold peV;rw[a3',if_pos ⟨hR,hne e h1,by rw[hm],h2⟩]
  |none=>
   unfold peV;split
   ·rename_i hc;exfalso;obtain⟨_,c1,c2,c3⟩:=hc;have h1:=zjL hw haz hN hf4 hfa (vars:=vars) s 10 t 0 ht (Int.le_refl _) (by rw[c2];omega) (zjB c3);rw[c2] at h1;have e1:s.drop (s.length:Int).toNat=[]:=List.drop_eq_nil_of_le od;rw[e1] at h1;have:=hback _ h1 c3;rw[h] at this;cases this
   ·rfl
 ·obtain⟨h1,h2⟩:=key e h;refine⟨h2, ?_⟩;have:=zln hw haz hfa 10 t s e [] ht h1;rw[xaq] at this;exact this.symm
theorem zqN {w:List Data}{vars:List Vt} (h:zbT w vars=true):VarIn vars:=fun v hv=>by
 obtain⟨i,hi,rfl⟩:=List.getElem_of_mem hv;cases e:zdW w vars i with
 |false=>rw[zh9 hi e] at h;cases h
 |true=>
  unfold zdW at e;simp only[xad,xah] at e;rw[zaY hi] at e;omega
theorem zrO {w:List Data} (hs:WSmall w){funs:List Ft}{vars:List Vt}{t:Ty} (tv:zbm w t=true) (hfo:zbO w funs=true) (hv:VarIn vars){e:Ex} (h:isE w funs vars t e=true):reI w funs vars t (zay w funs 10 t e)=some e:=by
 obtain⟨wv,_,_⟩:=zfS tv;have ht:=zlU tv;have hw:=zcN hs wv;have haz:=zc7 wv;have hN:=zm0 wv;have hfa:∀f∈funs,TyOk w.length f.arg:=fun f hm=>zd7 (zhB hfo f hm).1;have hf4:funs.length<=9:=by unfold zbO at hfo;rw[xad,xah] at hfo;omega
 have h1:=zhV hw haz hN hf4 hfa hv 10 t e [] ht (zjB h) zqH;rw[xaq] at h1;have h2:=zmj w funs vars 10 t _ e [] h1;unfold reI rdOk rdE;rw[h2];simp[h]
set_option maxHeartbeats 4000000
theorem zkC {w:List Data}{funs:List Ft}{vars:List Vt} (hw:WT w) (hb:TB w) (haz:AZ w) (hf9:funs.length<=9) (hvl:vars.length<=1000000000000) (hvi:VarIn vars) (hfa:∀f∈funs,TyOk w.length f.arg){n:Nat}
  (ih:∀ {a k:Int}{e:Ex},zaD w funs vars n ⟨a,k⟩ e=true->TyOk w.length ⟨a,k⟩->e.ok->e.size<=10000000->FnD Tryz.prog 78 [.agg [.d (zae w),.d (zaF funs),.d (zaP vars)],.agg [.d (.i a),.d (.i k)],.agg [.d (.i e.op),.d (.i e.n),.d (.i e.ctor),.d (zaE e.kids)]] [] (.d (.str (zay w funs n ⟨a,k⟩ e))) [])
  {a k:Int}{e:Ex} (h:zaD w funs vars (n+1) ⟨a,k⟩ e=true) (ht:TyOk w.length ⟨a,k⟩) (hok:e.ok) (hsz:e.size<=10000000):
  FnD Tryz.prog 78 [.agg [.d (zae w),.d (zaF funs),.d (zaP vars)],.agg [.d (.i a),.d (.i k)],.agg [.d (.i e.op),.d (.i e.n),.d (.i e.ctor),.d (zaE e.kids)]] [] (.d (.str (zay w funs (n+1) ⟨a,k⟩ e))) []:=by
 obtain⟨o,o1,o3,o4,o5,hl,hkf⟩:=zik h;have hin:=zcZ hw haz hfa ht (e:=e);have o2:=zmp h hvi;rw[xaN] at hsz;rw[xaL] at hok;have hkid:∀i,i<e.kids.length->FnD Tryz.prog 78 [.agg [.d (zae w),.d (zaF funs),.d (zaP vars)],.agg [.d (.i (nth (zal w funs ⟨a,k⟩ e) i).data),.d (.i (nth (zal w funs ⟨a,k⟩ e) i).index)],.agg [.d (.i (nth e.kids i).op),.d (.i (nth e.kids i).n),.d (.i (nth e.kids i).ctor),.d (zaE (nth e.kids i).kids)]] [] (.d (.str (zay w funs n (nth (zal w funs ⟨a,k⟩ e) i) (nth e.kids i)))) []:=fun i hi=>
  ih (a:=(nth (zal w funs ⟨a,k⟩ e) i).data) (k:=(nth (zal w funs ⟨a,k⟩ e) i).index) (hkf i hi) (hin _ (zao od)) (xaQ hok.2 _ (zao hi)) (by have:=zgo hi;omega)
 have hlen:∀i,i<e.kids.length->(zay w funs n (nth (zal w funs ⟨a,k⟩ e) i) (nth e.kids i)).length<=100000000:=fun i hi=>by
  have:=zd5 hw hb haz hfa n (hkf i hi) (hin _ (zao od));have h2:=zgo hi;omega
 have hkt:=zfA hw (funs:=funs) (vars:=vars) od hvl (t:=⟨a,k⟩) ht.1 (e:=e);have q3:=fun(q:e.op=3)=>et3 (n:=n) (funs:=funs) q (o3 q).1 (o3 q).2 hl;have q4:=fun(q:e.op=4)=>et4 (n:=n) (funs:=funs) q (zdP ht (o4 q)) hl;have q5:=fun(q:e.op=5)=>et5 (n:=n) q (o5 q) hl;have k3:e.kids.length<=3:=by
  rcases o with q|q|q|q|q
  ·have:zal w funs ⟨a,k⟩ e=[]:=by unfold zal;rw[if_neg od,if_neg od,if_neg od]
   rw[<-hl,this];simp
  ·have:zal w funs ⟨a,k⟩ e=[]:=by unfold zal;rw[if_neg od,if_neg od,if_neg od]
   rw[<-hl,this];simp
  ·rw[<-hl,ty_3 q (o3 q).1 (o3 q).2];exact(zfD hw hb ht.1 (o3 q).2).2
  ·rw[<-hl,ty_4 q];simp
  ·rw[<-hl,ty_5 q (o5 q)];simp
 have hc3:e.op=3->∃d:Nat,a=(d:Int)/\d<w.length/\∃j:Nat,e.ctor=(j:Int)/\j<(nth w d).ctors.length:=fun q=>by
  obtain⟨d,e,hd,j,hj0,hj⟩:=za4 ht.1 (o3 q).2;exact⟨d,e,hd,j,hj0,hj⟩
 have hn3:e.op=3->(za2 w ⟨a,k⟩ e.ctor).length<=5:=fun q=>(zfD hw hb ht.1 (o3 q).2).1;change ∀i,i<e.kids.length->_ at hlen
 generalize hts:zal w funs ⟨a,k⟩ e=ts at *;have hkl:=fun(i:Nat) (hi:i<=e.kids.length)=>zsV hlen hi;have hlv:=fun(i:Nat) (hi:i<=e.kids.length)=>zqr (hkl i hi);have hdl:=zdX e.n;have hll:=ziU e.n;clear ih hts hin hkf;by_cases h3:e.op=3
 ·obtain⟨d,rfl,hd,j,hj0,hj⟩:=hc3 h3;have hnm:za2 w ⟨(d:Int),k⟩ e.ctor=(nth (nth w d).ctors j).name:=by unfold za2;rw[hj0];rfl
  have hfin:=q3 h3;have hn:=hn3 h3;rw[hnm] at hfin hn;rw[hfin];clear q3 q4 q5 hc3 hn3;refine bd Tryz.f78 79 [9,66] [] fun _ _ _ _ hk=>?_;refine bx 3003 ?_;refine bx 3004 ?_;refine bx 3005 ?_;refine evs [9,66] [] (wc zci hkt I I ?_);refine evs [9,66] [] (xbl 1 1 .none I I ?_);apply tv;refine xaA (ι:=Nat) hk (fun i=>[(22,.d (.i (i:Int))),(9,.gl 1 ((kTn (zay w funs n) ts e.kids i).map fun s:Str=>[D.str s]))]) [10,11,23,24,25,26,27,28,29,30,31,32,33,34,35,36,37] (fun i=>[(1,some (.tok (((kTn (zay w funs n) ts e.kids i).map fun s:Str=>[D.str s])).length 1))]) (fun i=>i<=e.kids.length) (fun i=>e.kids.length-i) 0 od ⟨⟨_,I,xaV ?_⟩,⟨⟨_,I,LeA.glg ?_⟩,O⟩⟩ ⟨zaq ?_,O⟩ (fun x=>rfl) (fun i hg1=>?_);iterate 3 focus (first|rfl|omega|(rw[zgT,xag];all_goals rfl)|(simp[zcr];done)|(simp;omega))
  refine evc [9,66] [] ?_;apply sq<;>intro h1 h1p h1s<;>(try simp only[Q,xal,xaJ,xac] at h1p);refine ixq sl39 I I I (zdL od) I ?_;refine evs [9,66] [] (ab 3011 tz41 ?_);refine evs [9,66] [] (so ty41 ?_);apply tv;refine ixq zaJ I I I (zag od) I ?_;refine evd [9,66] [] (wc znZ (hkid i od) I I ?_);refine si [0] [_] sl84 tz9 ?_;refine ap sl84 zz9 I I I (by intro x hx;simp at hx;subst hx;rfl) (by first|(simp[kTn];omega)|(have h9:=hlv i od;rw[zcr] at h9;have:i*(100000000+1)<=3*(100000000+1):=xav _ od;(try simp only[xaa]);omega)) ?_;refine asg ?_;refine dr (ar (xaj (i+1) ⟨od,od,sx ⟨⟨_,I,xaV ?_⟩,⟨⟨_,I,LeA.glg ?_⟩,O⟩⟩ ⟨zaq ?_,O⟩⟩));iterate 3 focus (first|rfl|omega|(rw[zgT,xag];all_goals rfl)|(simp[zcr];done)|(simp;omega))
  apply sq<;>intro h2 h2p h2s<;>(try simp only[Q,xal,xaJ,xac] at h2p);exfalso;omega;apply sq<;>intro h3 h3p h3s<;>(try simp only[Q,xal,xaJ,xac] at h3p);exfalso;omega;apply sq<;>intro h4 h4p h4s<;>(try simp only[Q,xal,xaJ,xac] at h4p);refine ixq sl23 I I I (zag hd) I (evd [9,66] [] (ixq (i:=j) zbN I I hj0 (zag hj) I (evd [9,66] [] (Walk.call (cr:=[]) zl3 (zeB (l:=kTn (zay w funs n) ts e.kids i) (by rw[zcr];omega) (fun x hx=>by have:=hkl i od x hx;omega)) I .none I I (.cons (.gl _ _) .nil) O I I I ?_))));refine xbs .none I I I (by first|(simp[kTn];omega)|(have h9:=hlv i od;rw[zcr] at h9;have:i*(100000000+1)<=3*(100000000+1):=xav _ od;(try simp only[xaa]);omega)) ?_;refine evd [9,66] [] (dr (rq ?_));rotate_left;exfalso;omega;all_goals (have e1:i=e.kids.length:=od;subst e1;rfl)
 ·have f1:=te1 (w:=w) (funs:=funs) (n:=n) (t:=⟨a,k⟩) (e:=e);have f2:=te2 (w:=w) (funs:=funs) (n:=n) (t:=⟨a,k⟩) (e:=e);clear q3 hc3 hn3;refine bd Tryz.f78 79 [9,71,75,78] [] fun _ _ _ _ hk=>?_;refine bx 3003 ?_;refine bx 3004 ?_;refine bx 3005 ?_;refine evs [9,71,75,78] [] (wc zci hkt I I ?_);refine evs [9,71,75,78] [] (xbl 1 1 .none I I ?_);apply tv;refine xaA (ι:=Nat) hk (fun i=>[(22,.d (.i (i:Int))),(9,.gl 1 ((kTn (zay w funs n) ts e.kids i).map fun s:Str=>[D.str s]))]) [10,11,23,24,25,26,27,28,29,30,31,32,33,34,35,36,37] (fun i=>[(1,some (.tok (((kTn (zay w funs n) ts e.kids i).map fun s:Str=>[D.str s])).length 1))]) (fun i=>i<=e.kids.length) (fun i=>e.kids.length-i) 0 od ⟨⟨_,I,xaV ?_⟩,⟨⟨_,I,LeA.glg ?_⟩,O⟩⟩ ⟨zaq ?_,O⟩ (fun x=>rfl) (fun i hg1=>?_);iterate 3 focus (first|rfl|omega|(rw[zgT,xag];all_goals rfl)|(simp[zcr];done)|(simp;omega))
  refine evc [9,71,75,78] [] ?_;apply sq<;>intro h1 h1p h1s<;>(try simp only[Q,xal,xaJ,xac] at h1p);refine ixq sl39 I I I (zdL od) I ?_;refine evs [9,71,75,78] [] (ab 3011 tz41 ?_);refine evs [9,71,75,78] [] (so ty41 ?_);apply tv;refine ixq zaJ I I I (zag od) I ?_;refine evd [9,71,75,78] [] (wc znZ (hkid i od) I I ?_);refine si [0] [_] sl84 tz9 ?_;refine ap sl84 zz9 I I I (by intro x hx;simp at hx;subst hx;rfl) (by first|(simp[kTn];omega)|(have h9:=hlv i od;rw[zcr] at h9;have:i*(100000000+1)<=3*(100000000+1):=xav _ od;(try simp only[xaa,xab,xak]);omega)) ?_;refine asg ?_;refine dr (ar (xaj (i+1) ⟨od,od,sx ⟨⟨_,I,xaV ?_⟩,⟨⟨_,I,LeA.glg ?_⟩,O⟩⟩ ⟨zaq ?_,O⟩⟩));iterate 3 focus (first|rfl|omega|(rw[zgT,xag];all_goals rfl)|(simp[zcr];done)|(simp;omega))
  apply sq<;>intro h2 h2p h2s<;>(try simp only[Q,xal,xaJ,xac] at h2p);refine wc zoI (zf5 (n:=e.n) (o1 od).1 (o1 od).2) I I ?_;refine evs [9,71,75,78] [] (rq ?_);rotate_left;apply sq<;>intro h3 h3p h3s<;>(try simp only[Q,xal,xaJ,xac] at h3p);refine wc zsh (zkw (n:=e.n) (o2 od).1 (o2 od).2) I I ?_;refine evs [9,71,75,78] [] (rq ?_);rotate_left;apply sq<;>intro h4 h4p h4s<;>(try simp only[Q,xal,xaJ,xac] at h4p);exfalso;omega;apply sq<;>intro h5 h5p h5s<;>(try simp only[Q,xal,xaJ,xac] at h5p);refine Walk.call (cr:=[]) zl3 (zeB (l:=kTn (zay w funs n) ts e.kids i) (by rw[zcr];omega) (fun x hx=>by have:=hkl i od x hx;omega)) I .none I I (.cons (.gl _ _) .nil) O I I I ?_;refine xbs .none I I I (by first|(simp[kTn];omega)|(have h9:=hlv i od;rw[zcr] at h9;have:i*(100000000+1)<=3*(100000000+1):=xav _ od;(try simp only[xaa,xab,xak]);omega)) ?_;refine evs [9,71,75,78] [] (rq ?_);rotate_left;refine wc zoI (zf5 (n:=e.n) (o5 od).1 (by have:=(o5 od).2.1;omega)) I I ?_;refine xbs .none I I I (by first|(simp[kTn];omega)|(have h9:=hlv i od;rw[zcr] at h9;have:i*(100000000+1)<=3*(100000000+1):=xav _ od;(try simp only[xaa,xab,xak]);omega)) ?_;refine evs [9,71,75,78] [] (Walk.call (cr:=[]) zl3 (zeB (l:=kTn (zay w funs n) ts e.kids i) (by rw[zcr];omega) (fun x hx=>by have:=hkl i od x hx;omega)) I .none I I (.cons (.gl _ _) .nil) O I I I ?_);refine xbs .none I I I (by first|(simp[kTn];omega)|(have h9:=hlv i od;rw[zcr] at h9;have:i*(100000000+1)<=3*(100000000+1):=xav _ od;(try simp only[xaa,xab,xak]);omega)) ?_;refine evs [9,71,75,78] [] (rq ?_);rotate_left;all_goals (have e1:i=e.kids.length:=od;subst e1;first|(rw[f1 od];done)|(rw[f2 od];done)|(rw[q4 od];all_goals rfl)|(rw[q5 od];all_goals rfl))
theorem ze2 {w:List Data}{funs:List Ft}{vars:List Vt} (hw:WT w) (hb:TB w) (haz:AZ w) (hf9:funs.length<=9) (hvl:vars.length<=1000000000000) (hvi:VarIn vars) (hfa:∀f∈funs,TyOk w.length f.arg):∀(n:Nat){a k:Int}{e:Ex},zaD w funs vars n ⟨a,k⟩ e=true->TyOk w.length ⟨a,k⟩->e.ok->e.size<=10000000->
  FnD Tryz.prog 78 [.agg [.d (zae w),.d (zaF funs),.d (zaP vars)],.agg [.d (.i a),.d (.i k)],.agg [.d (.i e.op),.d (.i e.n),.d (.i e.ctor),.d (zaE e.kids)]] [] (.d (.str (zay w funs n ⟨a,k⟩ e))) []
 |0,a,k,e,h,_,_,_=>by simp[zaD] at h
 |n+1,a,k,e,h,ht,hok,hsz=>zkC hw hb haz hf9 hvl hvi hfa (fun {a k e} q1 q2 q3 q4=>ze2 hw hb haz hf9 hvl hvi hfa n q1 q2 q3 q4) h ht hok hsz
theorem zis {w:List Data} (hw:WT w) (hA3:A3 w){funs:List Ft}{vars:List Vt} (hfl:funs.length<=1000000000000) (hvl:vars.length<=1000000000000) (hfu:∀f∈funs,TyIn w.length f.arg){a k:Int} (ht:TyIn w.length ⟨a,k⟩){s:Str} (hs:s.length<=1000000000000):
  FnD Tryz.prog 63 [.agg [.d (zae w),.d (zaF funs),.d (zaP vars)],.agg [.d (.i a),.d (.i k)],.d (.str s)] [] (.tup [.agg [.d (.i ((reI w funs vars ⟨a,k⟩ s).getD zbo).op),.d (.i ((reI w funs vars ⟨a,k⟩ s).getD zbo).n),.d (.i ((reI w funs vars ⟨a,k⟩ s).getD zbo).ctor),.d (zaE ((reI w funs vars ⟨a,k⟩ s).getD zbo).kids)],.d (.bool (reI w funs vars ⟨a,k⟩ s).isSome)]) []:=by
 have hp:=zes hw hA3 hfl hvl hfu 10 (a:=a) (k:=k) (r:=⟨s,false⟩) (Nat.le_refl _) ht hs;have hok:=zpb hA3 hfu (vars:=vars) 10 (t:=⟨a,k⟩) ⟨s,false⟩ ht;rw[show(11:Int)-((10:Nat):Int)=1 from by decide] at hp;have hv:=zhF hw hfl hvl hfu (vars:=vars) (t:=⟨a,k⟩) ht hok.1;have e1:(exR w funs vars 10 ⟨a,k⟩ ⟨s,false⟩).2.bad=false->(exR w funs vars 10 ⟨a,k⟩ ⟨s,false⟩).2.s=[]->isE w funs vars ⟨a,k⟩ (exR w funs vars 10 ⟨a,k⟩ ⟨s,false⟩).1=true->reI w funs vars ⟨a,k⟩ s=some (exR w funs vars 10 ⟨a,k⟩ ⟨s,false⟩).1:=fun h1 h2 h3=>by
  unfold reI rdOk rdE;rw[h1,h2,h3];rfl
 have e0:((exR w funs vars 10 ⟨a,k⟩ ⟨s,false⟩).2.bad=true\/¬(exR w funs vars 10 ⟨a,k⟩ ⟨s,false⟩).2.s=[]\/isE w funs vars ⟨a,k⟩ (exR w funs vars 10 ⟨a,k⟩ ⟨s,false⟩).1=false)->reI w funs vars ⟨a,k⟩ s=none:=fun h=>by
  unfold reI rdOk rdE;rcases h with h|h|h
  ·rw[h];rfl
  ·rw[xaw h];simp
  ·rw[h];simp
 generalize reI w funs vars ⟨a,k⟩ s=q at *;generalize exR w funs vars 10 ⟨a,k⟩ ⟨s,false⟩=z at *;refine bd Tryz.f63 39 [] [] fun _ _ _ _ hk=>?_;refine bx 3003 ?_;refine bx 3004 ?_;refine ab 3006 tz41 ?_;refine ev (bu [0,1] [_,_] ztu ?_);refine bx 901 ?_;refine ev (wd zoF hp I I ⟨I,O⟩ ?_);refine ab 3009 tz41 ?_;refine so ty41 ?_;apply tv;apply sq<;>intro h1 h1p h1s<;>(try simp only[Q] at h1p);refine sqT ?_;refine sqT ?_;refine bu [] [] st41 ?_;refine so ty41 ?_;refine ev (rn0 (rc ty41) (.tup (.cons (.agg (qeeen ?_ ?_ ?_ ?_)) (qe ?_))));rotate_left 5;apply sq<;>intro h3 h3p h3s<;>(try simp only[Q] at h3p);refine sqT ?_;refine bu [] [] st41 ?_;refine so ty41 ?_;refine ev (rn0 (rc ty41) (.tup (.cons (.agg (qeeen ?_ ?_ ?_ ?_)) (qe ?_))));rotate_left 5;refine Walk.call (cr:=[]) zqV hv I (.some I I h3) I I (LeL.refl _) O I I I (evs [] [(30,false)] ?_ ⟨⟨_,I,h3⟩,O⟩);apply sq<;>intro h5 h5p h5s<;>(try simp only[Q] at h5p);refine bu [] [] st41 ?_;refine so ty41 ?_;refine ev (rn0 (rc ty41) (.tup (.cons (.agg (qeeen ?_ ?_ ?_ ?_)) (qe ?_))));rotate_left 5;refine so ty41 ?_;refine ev (rn0 (rc ty41) (.tup (.cons (.agg (qeeee ?_ ?_ ?_ ?_)) (qe ?_))));rotate_left 5;all_goals (first|(rw[e1 oh oh oh];all_goals rfl)|(rw[e0 (by first|exact .inl oh|exact .inr (.inl oh)|exact .inr (.inr oh))];all_goals rfl))
def vsOk (n:Nat) (vars:List Vt):Bool:=zgq vars&&vars.all fun v=>zaf v.var 0 5&&zaR n v.ty
theorem znV {v:Int} (h:zaf v 0 5=true):0<=v/\v<=5:=by unfold zaf at h;rw[xad,xah,xah] at h;exact h
theorem zkd {n:Nat}{t:Ty}:zaR n t=(zbc n t&&decide (0<=t.index)):=by
 rw[xat];unfold zaR zbc zaf;simp only[Bool.or_eq_true,xad,xah,and_true];omega
theorem znU {w:List Data}{vars:List Vt}:vsOk w.length vars=zbT w vars:=by
 cases h:zbT w vars with
 |true=>
  have hv:∀i,i<vars.length->zdW w vars i=true:=fun i hi=>by
   cases e:zdW w vars i with
   |true=>rfl
   |false=>rw[zh9 hi e] at h;cases h
  have hf:∀i,i<vars.length->0<=(nth vars i).var/\(nth vars i).var<=5/\zaR w.length (nth vars i).ty=true/\zbr vars (nth vars i).var=(i:Int):=fun i hi=>by
   have:=hv i hi;unfold zdW at this;simp only[xad,xah] at this;exact⟨this.1,this.2.1,by rw[zkd,this.2.2.1.1,xax this.2.2.1.2];rfl,this.2.2.2⟩
  unfold vsOk;rw[xad];refine⟨?_, ?_⟩
  ·unfold zgq;rw[xah];refine List.pairwise_iff_getElem.2 (fun i j hi hj hij e=>?_);rw[xac] at hi hj;rw[List.getElem_map,List.getElem_map,<-zaY hi,<-zaY hj] at e;have a1:=(hf i hi).2.2.2;have a2:=(hf j hj).2.2.2;rw[e,a2] at a1;omega
  ·rw[List.all_eq_true];intro v hv;obtain⟨i,hi,rfl⟩:=List.getElem_of_mem hv;have:=hf i hi;rw[zaY hi] at this;unfold zaf;simp only[xad,xah];exact⟨⟨this.1,this.2.1⟩,this.2.2.1⟩
 |false=>
  cases h2:vsOk w.length vars with
  |false=>rfl
  |true=>
   exfalso;unfold vsOk at h2;rw[xad,List.all_eq_true] at h2;have:zbT w vars=true:=zkh (fun i hi=>by
    have h3:=h2.2 _ (zao hi);rw[xad] at h3;have h5:=znV h3.1;have h6:=h3.2;rw[zkd,xad,xah] at h6;have hnd:=h2.1;unfold zgq at hnd;rw[xah] at hnd;have hfind:zbr vars (nth vars i).var=(i:Int):=by
     rcases zgL vars (nth vars i).var with ⟨_,q⟩|⟨j,q1,q2,q3,_⟩
     ·exact absurd I (q _ (zao hi))
     ·rw[q1];rcases Nat.lt_trichotomy j i with hj|hj|hj
      ·have:=List.pairwise_iff_getElem.1 hnd j i (by simpa using q2) (by simpa using hi) hj;rw[List.getElem_map,List.getElem_map,<-zaY q2,<-zaY hi] at this;exact absurd q3 this
      ·rw[hj]
      ·have:=List.pairwise_iff_getElem.1 hnd i j (by simpa using hi) (by simpa using q2) hj;rw[List.getElem_map,List.getElem_map,<-zaY q2,<-zaY hi] at this;exact absurd q3.symm this
    unfold zdW;simp only[xad,xah];exact⟨h5.1,h5.2,⟨h6.1,h6.2⟩,hfind⟩)
   rw[h] at this;cases this
theorem zfB {w:List Data}{funs:List Ft}{vars:List Vt} (hs:w.length<=1000000000000) (hfl:funs.length<=1000000000000) (hvl:vars.length<=1000000000000):FnD Tryz.prog 64 [.agg [.d (zae w),.d (zaF funs),.d (zaP vars)]] [] (.d (.bool (zbO w funs&&vsOk w.length vars))) []:=by
 have hin:=fun v=>znV (v:=v);have hno:∀(pre rest:List Vt) (y:Vt),pre++y::rest=vars->(zaf y.var 0 5=false\/y.var∈pre.map Vt.var\/zaR w.length y.ty=false)->vsOk w.length vars=false:=fun pre rest y e h=>by
  cases q:vsOk w.length vars with
  |false=>rfl
  |true=>
   unfold vsOk at q;rw[xad,List.all_eq_true] at q;have hy:=q.2 y (by rw[<-e];simp);rw[xad] at hy;rcases h with h|h|h
   ·rw[h] at hy;exact absurd hy.1 og
   ·have hnd:=q.1;unfold zgq at hnd;rw[xah,<-e,xag,xaf,List.nodup_append] at hnd;exact absurd I (hnd.2.2 _ h _ og)
   ·rw[h] at hy;exact absurd hy.2 og
 have hyes:(vars.map Vt.var).Nodup->(∀v∈vars,zaf v.var 0 5=true/\zaR w.length v.ty=true)->vsOk w.length vars=true:=fun h1 h2=>by
  unfold vsOk;rw[xad,List.all_eq_true];exact⟨xax h1,fun v hv=>by rw[(h2 v hv).1,(h2 v hv).2];rfl⟩
 have hfo1:zbO w funs=(decide ((funs.length:Int)<=4)&& !funs.any fun f=> !(zaR w.length f.arg&&zaR w.length f.res)):=rfl;generalize zbO w funs=F at *;generalize vsOk w.length vars=V at *;refine bd Tryz.f64 45 [31] [] fun _ _ _ _ hk=>?_;refine bx 3001 ?_;refine evs [31] [] ?_;apply sq<;>intro h1 h1p h1s<;>(try simp only[Q,xal,xac] at h1p);refine sqT ?_;refine rq ?_;rotate_left;refine xbt (xs:=[_]) I (.some I I h1) I I (Walk.call (cr:=[]) zr8 (zfd (p:=fun f=> !(zaR w.length f.arg&&zaR w.length f.res)) hfl zr9 (fun t _=>zmu hs) ⟨I,O⟩ I I) I (.some I I h1) I I (LeL.refl _) ⟨I,O⟩ I I I (evs [31] [(10,false)] ?_ ⟨⟨_,I,h1⟩,O⟩));apply sq<;>intro h3 h3p h3s<;>(try simp only[Q,xal,xac] at h3p);refine rq ?_;rotate_left;refine ab 3003 ztA ?_;apply tv;refine xaA (ι:=List (Vt)×List (Vt)) hk (fun x=>[(19,.d (.i (x.1.length:Int)))]) [2,5,20,21,22,23,24,25,26,27,28,29,30,31,32,33,34,35,36,37,38,39,40,41,42,43,44] (fun x=>[(3003,some (.box (metA (x.1.map Vt.var))))]) (fun x=>x.1++x.2=vars/\(x.1.map Vt.var).Nodup/\(∀v∈x.1,zaf v.var 0 5=true/\zaR w.length v.ty=true)) (fun x=>x.2.length) ([],vars) ⟨by simp,by simp,by simp⟩ ⟨⟨_,I,xaV ?_⟩,O⟩ ⟨?_,O⟩ (fun x=>rfl) (fun x hg1=>?_);focus (first|rfl|(simp;done)|(simp_all;done)|omega)
 focus (first|rfl|(simp[getH];done))
 obtain⟨pre,rest⟩:=x;dsimp only at hg1 ⊢;refine evc [31] [] ?_;apply sq<;>intro h4 h4p h4s<;>(try simp only[Q,xal,xac] at h4p);rcases rest with _|⟨y,rest⟩
 ·exfalso;simp_all
 refine ixq sl36 I I I (zaM hg1.1) I (evs [31] [] (ab 3005 zov ?_));refine so ztz ?_;apply tv;refine wc zsa (zlD (v:=y.var)) I I ?_;refine evs [31] [] ?_;apply sq<;>intro h5 h5p h5s<;>(try simp only[Q,xal,xac] at h5p);refine sqT ?_;refine sqT ?_;refine rq ?_;rotate_left;refine Walk.idxA (i:=y.var.toNat) zqR (.some I I h5) I I I (Int.toNat_of_nonneg (hin y.var ou).1).symm (by have:=hin y.var ou;omega) ?_;refine xbE ty4 (.some I I h5) I I I ((by have:=hin y.var ou;simpa using zqt this.1 this.2)) ?_;refine evs [31] [(27,false)] ?_ ⟨⟨_,I,h5⟩,O⟩;apply sq<;>intro h7 h7p h7s<;>(try simp only[Q,xal,xac] at h7p);refine sqT ?_;refine rq ?_;rotate_left;refine Walk.call (cr:=[]) zi8 (zdE hs (a:=y.ty.data) (b:=y.ty.index)) I (.some I I h7) I I (LeL.refl _) O I I I (evs [31] [(33,false)] ?_ ⟨⟨_,I,h7⟩,O⟩);apply sq<;>intro h9 h9p h9s<;>(try simp only[Q,xal,xac] at h9p);refine rq ?_;rotate_left;refine Walk.idxA (i:=y.var.toNat) zqR .none I I I (Int.toNat_of_nonneg (hin y.var ou).1).symm (by have:=hin y.var ou;omega) ?_;refine Walk.store ty4 .none I I I I I I og ((by have:=hin y.var ou;simpa using zqu this.1 this.2)) ?_;apply tv;refine ar ?_;refine xaj ((pre++[y],rest)) ⟨⟨(by have hz:=hg1.1;rw[<-hz];simp),⟨zog hg1.2.1 ou,fun v hv=>by
    rcases List.mem_append.1 hv with hv|hv
    ·exact hg1.2.2 v hv
    ·rw[List.mem_singleton.1 hv];exact⟨by first|assumption|(simp_all;done),by first|assumption|(simp_all;done)⟩⟩⟩,og,sx ⟨⟨_,rfl,xaV ?_⟩,trivial⟩ ⟨?_,trivial⟩⟩
 focus (first|rfl|(simp;done)|(simp_all;done)|omega)
 focus (first|rfl|(simp[getH];done))
 have hrest:rest=[]:=by
  rcases rest with _|⟨a,b⟩
  ·rfl
  ·exfalso;have hz:=xam List.length (hg1.1);simp only[xaa,xab,xac] at hz;omega
 subst hrest;refine rq ?_;rotate_left;all_goals (refine xam D.bool ?_;first|(rw[hno pre rest y hg1.1 (by first|exact .inl oh|exact .inr (.inr oh)|exact .inr (.inl (by simpa using oh))|(simp_all;done)),Bool.and_false];done)|(have q:decide ((funs.length:Int)<=4)=false:=xaw od;rw[hfo1,q];rfl)|(have q:(funs.any fun f=> !(zaR w.length f.arg&&zaR w.length f.res))=true:=oh;rw[hfo1,q];simp;done)|(rw[hfo1];simp_all;done)|(have e9:=hg1.1;rw[xaq] at e9;rw[hyes (by rw[<-e9];exact hg1.2.1) (by rw[<-e9];exact hg1.2.2),hfo1,xax od];simp_all;done))
def exV (w:List Data) (funs:List Ft) (vars:List Vt) (t:Ty) (e:Ex):Bool:=zby w funs vars t&&isE w funs vars t e
theorem zcK {w:List Data} (hs:WSmall w){funs:List Ft}{vars:List Vt}{a k:Int} (h:zby w funs vars ⟨a,k⟩=true):WT w/\A3 w/\TyIn w.length ⟨a,k⟩/\(∀f∈funs,TyIn w.length f.arg)/\zaL w=true/\TyOk w.length ⟨a,k⟩/\(∀f∈funs,TyOk w.length f.arg)/\funs.length<=4/\VarIn vars:=by
 unfold zby at h;rw[xad,xad] at h;obtain⟨tv,hfo,hvo⟩:=h;obtain⟨wv,ht,_⟩:=zfS tv;have hfa:∀f∈funs,TyOk w.length f.arg:=fun f hm=>zd7 (zhB hfo f hm).1;exact⟨zcN hs wv,zi5 hs wv,ht,fun f hm=>(hfa f hm).1,wv,zlU tv,hfa,by unfold zbO at hfo;rw[xad,xah] at hfo;omega,zqN hvo⟩
theorem zeZ {w:List Data} (hs:WSmall w){funs:List Ft}{vars:List Vt} (hfl:funs.length<=1000000000000) (hvl:vars.length<=1000000000000){a k:Int}{e:Ex} (hok:e.ok):
  FnD Tryz.prog 21 [.d (zae w),.d (zaF funs),.d (zaP vars),.agg [.d (.i a),.d (.i k)],.agg [.d (.i e.op),.d (.i e.n),.d (.i e.ctor),.d (zaE e.kids)]] [] (.d (.bool (exV w funs vars ⟨a,k⟩ e))) []:=by
 have h0:=ze1 hs (a:=a) (b:=k);have hsc:=zfB (w:=w) (funs:=funs) (vars:=vars) hs.len hfl hvl;rw[znU] at hsc;have hR:zby w funs vars ⟨a,k⟩=(zbm w ⟨a,k⟩&&(zbO w funs&&zbT w vars)):=rfl;have hse:=fun(h:zby w funs vars ⟨a,k⟩=true)=>by
  obtain⟨q1,q2,q3,q4,_⟩:=zcK hs h;exact zhF q1 hfl hvl q4 (vars:=vars) (t:=⟨a,k⟩) (e:=e) q3 hok
 unfold exV;rw[hR] at hse ⊢;generalize zbm w ⟨a,k⟩=b1 at *;generalize (zbO w funs&&zbT w vars)=b2 at *;refine bd Tryz.f21 29 [] [] fun _ _ _ _ hk=>?_;refine bx 3008 ?_;refine bx 3009 ?_;refine ev (bu [0,1,2] [_,_,_] st98 ?_);refine ab 3011 tz98 ?_;refine so ty98 ?_;apply tv;refine wc zlM h0 I I ?_;refine ev ?_;apply sq<;>intro h1 h1p h1s<;>(try simp only[Q] at h1p);refine Walk.call (cr:=[]) zlL hsc I (.some I I h1) I I (LeL.refl _) O I I I (evs [] [(19,true)] ?_ ⟨⟨_,I,h1⟩,O⟩);apply sq<;>intro h2 h2p h2s<;>(try simp only[Q] at h2p);refine Walk.call (cr:=[]) zqV (hse (by first|(simp_all;done)|(rw[xad];exact⟨by assumption,by assumption⟩))) I (.some I I h2) I I (LeL.refl _) O I I I ?_;refine evs [] [(23,true)] ?_ ⟨⟨_,I,h2⟩,O⟩;refine rq ?_;rotate_left;refine rq ?_;rotate_left;refine sqF ?_;refine rq ?_;rotate_left;all_goals (refine xam D.bool ?_;first|(simp_all;done)|(cases b1<;>cases b2<;>first|rfl|contradiction))
theorem ze6 {w:List Data} (hs:WSmall w){funs:List Ft}{vars:List Vt} (hfl:funs.length<=1000000000000) (hvl:vars.length<=1000000000000){a k:Int}{e:Ex} (hok:e.ok) (hz:e.size<=1000000000000):
  FnD Tryz.prog 23 [.d (zae w),.d (zaF funs),.d (zaP vars),.agg [.d (.i a),.d (.i k)],.agg [.d (.i e.op),.d (.i e.n),.d (.i e.ctor),.d (zaE e.kids)]] [] (.d (.bool (exV w funs vars ⟨a,k⟩ e))) []:=by
 have hsc:=zfO hs hfl hvl (a:=a) (k:=k);have hse:=fun(h:zby w funs vars ⟨a,k⟩=true)=>by
  obtain⟨q1,_,_,_,wv,q3,q4,_⟩:=zcK hs h;exact zhb q1 (zc7 wv) hfl hvl q4 (vars:=vars) (t:=⟨a,k⟩) (e:=e) q3 hok hz
 unfold exV;generalize zby w funs vars ⟨a,k⟩=b1 at *;refine bd Tryz.f23 24 [] [] fun _ _ _ _ hk=>?_;refine bx 3008 ?_;refine bx 3009 ?_;refine ev (wc zn0 hsc I I ?_);refine ev ?_;apply sq<;>intro h1 h1p h1s<;>(try simp only[Q] at h1p);refine Walk.call (cr:=[]) zqY (hse oh) I (.some I I h1) I I (LeL.refl _) O I I I ?_;refine evs [] [(16,true)] ?_ ⟨⟨_,I,h1⟩,O⟩;refine rq ?_;rotate_left;refine rq ?_;rotate_left;all_goals (refine xam D.bool ?_;first|(simp_all;done)|(cases b1<;>first|rfl|contradiction))
def feV (w:List Data) (funs:List Ft) (vars:List Vt) (t:Ty) (e:Ex):Str:=if exV w funs vars t e=true then zay w funs 10 t e else []
theorem zgn {w:List Data}{funs:List Ft}{vars:List Vt}{t:Ty}{e:Ex} (h:exV w funs vars t e=true):feV w funs vars t e=zay w funs 10 t e:=if_pos h
theorem zjs {w:List Data}{funs:List Ft}{vars:List Vt}{t:Ty}{e:Ex} (h:exV w funs vars t e=false):feV w funs vars t e=[]:=if_neg (by rw[h];simp)
theorem zeP {w:List Data} (hs:WSmall w){funs:List Ft}{vars:List Vt} (hfl:funs.length<=1000000000000) (hvl:vars.length<=1000000000000){a k:Int}{e:Ex} (hok:e.ok):
  FnD Tryz.prog 19 [.d (zae w),.d (zaF funs),.d (zaP vars),.agg [.d (.i a),.d (.i k)],.agg [.d (.i e.op),.d (.i e.n),.d (.i e.ctor),.d (zaE e.kids)]] [] (.d (.str (feV w funs vars ⟨a,k⟩ e))) []:=by
 have hv:=zeZ hs hfl hvl (vars:=vars) (a:=a) (k:=k) hok (funs:=funs);cases h:exV w funs vars ⟨a,k⟩ e with
 |false=>
  rw[h] at hv;rw[zjs h];refine bd Tryz.f19 25 [] [] fun _ _ _ _ hk=>?_;refine bx 3008 ?_;refine bx 3009 ?_;refine ev (wc zlJ hv I I ?_);refine ev ?_;apply sq<;>intro h1 h1p h1s<;>(try simp only[Q] at h1p);focus (refine rq ?_;all_goals (first|rfl|(simp[h1s,h1p];done)|(simp_all;done)|(simp_all;omega)|omega))
  exfalso;simp at *
 |true=>
  rw[h] at hv;rw[zgn h];have hq2:=h;unfold exV at hq2;rw[xad] at hq2;obtain⟨q1,_,_,_,wv,q3,q4,q5,q6⟩:=zcK hs hq2.1;have hsz:=zpj hq2.2;have htx:=ze2 q1 (zd0 wv) (zc7 wv) od hvl q6 q4 10 (a:=a) (k:=k) (zjB hq2.2) q3 hok od;refine bd Tryz.f19 25 [] [] fun _ _ _ _ hk=>?_;refine bx 3008 ?_;refine bx 3009 ?_;refine ev (wc zlJ hv I I ?_);refine ev ?_;apply sq<;>intro h1 h1p h1s<;>(try simp only[Q] at h1p);exfalso;simp at *;refine bu [0,1,2] [_,_,_] st98 ?_;refine ev (wc znZ htx I I ?_);refine ev ?_;focus (refine rq ?_;all_goals (first|rfl|(simp[h1s,h1p];done)|(simp_all;done)|(simp_all;omega)|omega))
theorem zh5 {w:List Data} (hs:WSmall w){funs:List Ft}{vars:List Vt} (hfl:funs.length<=1000000000000) (hvl:vars.length<=1000000000000){a k:Int}{e:Ex} (hok:e.ok) (hz:e.size<=1000000000000):
  FnD Tryz.prog 22 [.d (zae w),.d (zaF funs),.d (zaP vars),.agg [.d (.i a),.d (.i k)],.agg [.d (.i e.op),.d (.i e.n),.d (.i e.ctor),.d (zaE e.kids)]] [] (.d (.str (feV w funs vars ⟨a,k⟩ e))) []:=by
 have hv:=ze6 hs hfl hvl (vars:=vars) (a:=a) (k:=k) hok hz (funs:=funs);cases h:exV w funs vars ⟨a,k⟩ e with
 |false=>
  rw[h] at hv;rw[zjs h];refine bd Tryz.f22 23 [] [] fun _ _ _ _ hk=>?_;refine bx 3008 ?_;refine bx 3009 ?_;refine ev (wc zlK hv I I ?_);refine ev ?_;apply sq<;>intro h1 h1p h1s<;>(try simp only[Q] at h1p);focus (refine rq ?_;all_goals (first|rfl|(simp[h1s,h1p];done)|(simp_all;done)|(simp_all;omega)|omega))
  exfalso;simp at *
 |true=>
  rw[h] at hv;rw[zgn h];have hq2:=h;unfold exV at hq2;rw[xad] at hq2;obtain⟨q1,_,_,_,wv,q3,q4,q5,q6⟩:=zcK hs hq2.1;have hsz:=zpj hq2.2;have htx:=zen q1 (zd0 wv) (zc7 wv) od q4 10 (a:=a) (k:=k) (zjB hq2.2) q3 hok od;refine bd Tryz.f22 23 [] [] fun _ _ _ _ hk=>?_;refine bx 3008 ?_;refine bx 3009 ?_;refine ev (wc zlK hv I I ?_);refine ev ?_;apply sq<;>intro h1 h1p h1s<;>(try simp only[Q] at h1p);exfalso;simp at *;refine wc zgE htx I I ?_;refine ev ?_;focus (refine rq ?_;all_goals (first|rfl|(simp[h1s,h1p];done)|(simp_all;done)|(simp_all;omega)|omega))
theorem zhR {w:List Data}{funs:List Ft}{vars:List Vt}{t:Ty}{s:Str} (h:zby w funs vars t=false):peV w funs vars t s=none:=by
 unfold peV;rw[if_neg (fun q=>by rw[h] at q;simp at q)]
theorem ze0 {w:List Data} (hs:WSmall w){funs:List Ft}{vars:List Vt} (hfl:funs.length<=1000000000000) (hvl:vars.length<=1000000000000){a k:Int}{s:Str} (hsl:s.length<=1000000000000):
  FnD Tryz.prog 20 [.d (zae w),.d (zaF funs),.d (zaP vars),.agg [.d (.i a),.d (.i k)],.d (.str s)] [] (.tup [.agg [.d (.i ((peV w funs vars ⟨a,k⟩ s).getD zbo).op),.d (.i ((peV w funs vars ⟨a,k⟩ s).getD zbo).n),.d (.i ((peV w funs vars ⟨a,k⟩ s).getD zbo).ctor),.d (zaE ((peV w funs vars ⟨a,k⟩ s).getD zbo).kids)],.d (.bool (peV w funs vars ⟨a,k⟩ s).isSome)]) []:=by
 have h0:=ze1 hs (a:=a) (b:=k);have hsc:=zfB (w:=w) (funs:=funs) (vars:=vars) hs.len hfl hvl;rw[znU] at hsc;have hR:zby w funs vars ⟨a,k⟩=(zbm w ⟨a,k⟩&&(zbO w funs&&zbT w vars)):=rfl;have hse:=fun(h:zby w funs vars ⟨a,k⟩=true)=>by
  obtain⟨q1,q2,q3,q4,_⟩:=zcK hs h;have:=zis q1 q2 hfl hvl q4 (vars:=vars) (a:=a) (k:=k) q3 hsl;rw[(zin hs h s).1] at this;exact this
 have hsn:=fun(h:zby w funs vars ⟨a,k⟩=false)=>zhR (s:=s) h;rw[hR] at hse hsn;generalize zbm w ⟨a,k⟩=b1 at *;generalize (zbO w funs&&zbT w vars)=b2 at *;generalize peV w funs vars ⟨a,k⟩ s=q at *;cases b1 with
 |false=>
  rw[hsn rfl];refine bd Tryz.f20 33 [] [] fun _ _ _ _ hk=>?_;refine bx 3008 ?_;refine ab 3010 tz41 ?_;refine ev (bu [0,1,2] [_,_,_] st98 ?_);refine ab 3012 tz98 ?_;refine so ty98 ?_;apply tv;refine wc zlM h0 I I ?_;refine ev ?_;apply sq<;>intro h1 h1p h1s<;>(try simp only[Q] at h1p);refine sqT ?_;refine bu [] [] st41 ?_;refine so ty41 ?_;refine ev (rn0 (rc ty41) (.tup (.cons (.agg (qeeen ?_ ?_ ?_ ?_)) (qe ?_))));rotate_left 5;refine Walk.call (cr:=[]) zlL hsc I (.some I I h1) I I (LeL.refl _) O I I I (evs [] [(21,false)] ?_ ⟨⟨_,I,h1⟩,O⟩);apply sq<;>intro h3 h3p h3s<;>(try simp only[Q] at h3p);refine bu [] [] st41 ?_;refine so ty41 ?_;refine ev (rn0 (rc ty41) (.tup (.cons (.agg (qeeen ?_ ?_ ?_ ?_)) (qe ?_))));rotate_left 5;exfalso;simp at *;all_goals (rfl)
 |true=>
  cases b2 with
  |false=>
   rw[hsn rfl];refine bd Tryz.f20 33 [] [] fun _ _ _ _ hk=>?_;refine bx 3008 ?_;refine ab 3010 tz41 ?_;refine ev (bu [0,1,2] [_,_,_] st98 ?_);refine ab 3012 tz98 ?_;refine so ty98 ?_;apply tv;refine wc zlM h0 I I ?_;refine ev ?_;apply sq<;>intro h1 h1p h1s<;>(try simp only[Q] at h1p);refine sqT ?_;refine bu [] [] st41 ?_;refine so ty41 ?_;refine ev (rn0 (rc ty41) (.tup (.cons (.agg (qeeen ?_ ?_ ?_ ?_)) (qe ?_))));rotate_left 5;refine Walk.call (cr:=[]) zlL hsc I (.some I I h1) I I (LeL.refl _) O I I I (evs [] [(21,false)] ?_ ⟨⟨_,I,h1⟩,O⟩);apply sq<;>intro h3 h3p h3s<;>(try simp only[Q] at h3p);refine bu [] [] st41 ?_;refine so ty41 ?_;refine ev (rn0 (rc ty41) (.tup (.cons (.agg (qeeen ?_ ?_ ?_ ?_)) (qe ?_))));rotate_left 5;exfalso;simp at *;all_goals (rfl)
  |true=>
   have hs4:=hse rfl;refine bd Tryz.f20 33 [] [] fun _ _ _ _ hk=>?_;refine bx 3008 ?_;refine ab 3010 tz41 ?_;refine ev (bu [0,1,2] [_,_,_] st98 ?_);refine ab 3012 tz98 ?_;refine so ty98 ?_;apply tv;refine wc zlM h0 I I ?_;refine ev ?_;apply sq<;>intro h1 h1p h1s<;>(try simp only[Q] at h1p);refine sqT ?_;exfalso;simp at *;refine Walk.call (cr:=[]) zlL hsc I (.some I I h1) I I (LeL.refl _) O I I I (evs [] [(21,false)] ?_ ⟨⟨_,I,h1⟩,O⟩);apply sq<;>intro h3 h3p h3s<;>(try simp only[Q] at h3p);exfalso;simp at *;refine wc ztb hs4 I I ?_;refine ev (so ty41 ?_);refine ev ?_;focus (refine rn0 (rc ty41) (.tup (.cons (.agg (qeeee ?_ ?_ ?_ ?_)) (qe ?_)));all_goals (first|rfl|(simp[h1s,h1p,h3s,h3p];done)|(simp_all;done)|(simp_all;omega)|omega))
theorem zfL {xs:List Ex}{f:Nat} (hs:xs.length<=1000000000000) (hcal:Callee Tryz.prog f)
  (hf:∀e∈xs,FnD Tryz.prog f [.agg [.d (.i e.op),.d (.i e.n),.d (.i e.ctor),.d (zaE e.kids)],.agg [.d (.i e.op),.d (.i e.n),.d (.i e.ctor),.d (zaE e.kids)]] [] (.d (.bool true)) []):
  FnD Tryz.prog 83 [.d (zaE xs),.d (zaE xs),.fn f []] [] (.d (.bool true)) []:=by
 refine bd Tryz.f83 32 [] [] fun _ _ _ _ hk=>?_;apply sq<;>intro h1 h1p h1s<;>(try simp only[Q,xaJ] at h1p);exfalso;simp at h1;refine xaA (ι:=List (Ex)×List (Ex)) hk (fun x=>[(17,.d (.i (x.1.length:Int)))]) [6,7,8,9,18,19,20,21,22,23,24,25,26,27,28,29,30,31] (fun x=>[]) (fun x=>x.1++x.2=xs) (fun x=>x.2.length) ([],xs) og ⟨⟨_,I,xaV ?_⟩,O⟩ O (fun x=>rfl) (fun x hg1=>?_);focus (first|rfl|(simp;done)|(simp_all;done)|omega)
 obtain⟨pre,rest⟩:=x;dsimp only at hg1 ⊢;refine evc [] [] ?_;apply sq<;>intro h2 h2p h2s<;>(try simp only[Q,xaJ] at h2p);rcases rest with _|⟨y,rest⟩
 ·exfalso;simp_all
 refine ixq sl39 I I I (Ex.cs_at' hg1) I (ev (ab 3008 tz41 ?_));refine ev (so ty41 ?_);apply tv;refine ixq sl39 I I I (Ex.cs_at' hg1) I (ev (ab 3009 tz41 ?_));refine so ty41 ?_;apply tv;refine xbq (cr:=[]) hcal (hf y (by rw[<-hg1];simp)) I .none I I I (LeL.refl _) O I I I ?_;refine ev ?_;apply sq<;>intro h3 h3p h3s<;>(try simp only[Q,xaJ] at h3p);exfalso;simp at h3;refine ar (xaj ((pre++[y],rest)) ⟨(by have hz:=hg1;rw[<-hz];simp),og,sx ⟨⟨_,I,xaV ?_⟩,O⟩ O⟩);focus (first|rfl|(simp;done)|(simp_all;done)|omega)
 have hrest:rest=[]:=by
  rcases rest with _|⟨a,b⟩
  ·rfl
  ·exfalso;have hz:=xam List.length (hg1);simp only[xaa,xab,xac] at hz;omega
 subst hrest;refine rq ?_;rotate_left;all_goals (rfl)
theorem zds:∀(n:Nat){e:Ex},e.size<=n->e.ok->FnD Tryz.prog 24 [.agg [.d (.i e.op),.d (.i e.n),.d (.i e.ctor),.d (zaE e.kids)],.agg [.d (.i e.op),.d (.i e.n),.d (.i e.ctor),.d (zaE e.kids)]] [] (.d (.bool true)) []
 |0,e,h,_=>by rw[xaN] at h;omega
 |n+1,e,h,hok=>by
  rw[xaN] at h;rw[xaL] at hok;refine bd Tryz.f24 31 [] [] fun _ _ _ _ hk=>?_;refine bx 3002 ?_;refine bx 3003 ?_;refine ev ?_;apply sq<;>intro h1 h1p h1s<;>(try simp only[Q] at h1p);apply sq<;>intro h2 h2p h2s<;>(try simp only[Q] at h2p);apply sq<;>intro h3 h3p h3s<;>(try simp only[Q] at h3p);refine Walk.call (cr:=[]) ztf (zfL hok.1 zjg (fun x hx=>zds n (by have:=xaS hx;omega) (xaQ hok.2 x hx))) I (.some I I h3) I I (LeL.refl _) O I I I ?_;refine evs [] [(24,true)] ?_ ⟨⟨_,I,h3⟩,O⟩;focus (refine rq ?_;all_goals (first|rfl|(simp[h1s,h1p,h2s,h2p,h3s,h3p];done)|(simp_all;done)|(simp_all;omega)|omega))
  focus (refine rq ?_;all_goals (first|rfl|(simp[h1s,h1p,h2s,h2p,h3s,h3p];done)|(simp_all;done)|(simp_all;omega)|omega))
  refine sqF ?_;focus (refine rq ?_;all_goals (first|rfl|(simp[h1s,h1p,h2s,h2p];done)|(simp_all;done)|(simp_all;omega)|omega))
  refine sqF ?_;refine sqF ?_;focus (refine rq ?_;all_goals (first|rfl|(simp[h1s,h1p];done)|(simp_all;done)|(simp_all;omega)|omega))
theorem zqA {w:List Data} (hs:WSmall w){funs:List Ft}{vars:List Vt}{t:Ty}{s:Str}{e:Ex} (h:peV w funs vars t s=some e):e.ok/\e.size<=10000000:=by
 unfold peV at h;split at h
 ·rename_i hc;cases h
  have hR:=hc.1;unfold zby at hR;rw[xad,xad] at hR;obtain⟨tv,hfo,_⟩:=hR;obtain⟨a,k⟩:=t;obtain⟨wv,ht,_⟩:=zfS tv;have:=zhQ (s:=s) (zi5 hs wv) (fun f hm=>(zd7 (zhB hfo f hm).1).1) 10 0 ht;exact⟨this.1,Nat.le_trans this.2 ol⟩
 ·cases h
theorem xaK {l:List Ex}:∀x,x∈Ex.cs l->x.length=4:=by
 intro x hx;rw[xaH] at hx;obtain⟨y,_,rfl⟩:=List.mem_map.1 hx;rfl
def mutE (b:Str):Nat->Nat->Ex->Option (Ex×Nat)
 |0,_,_=>none
 |n+1,p,v=>
  if zan b p 24=0 then some (.mk (numV b (p+1) [0,6,1,2,5]) v.n v.ctor v.kids,p+2)
  else if zan b p 24=1 then some (.mk v.op (numV b (p+1) [10,-1,3]) v.ctor v.kids,p+2)
  else if zan b p 24=2 then some (.mk v.op v.n v.ctor (v.kids++[.mk 1 0 0 []]),p+1)
  else if zan b p 24=3 then
   match v.kids with
   | []=>some (.mk v.op v.n v.ctor v.kids,p+1)
   |k::r=>
    match mutE b n (p+1) k with
    |none=>none
    |some (k1,p1)=>
     match mutE b n p1 k1 with
     |none=>none
     |some (k2,p2)=>some (.mk v.op v.n v.ctor (k2::r),p2)
  else some (.mk v.op v.n v.ctor v.kids,p+1)
theorem xaR:∀a b:List Ex,Exs.size (a++b)=Exs.size a+Exs.size b
 | [],b=>by simp[Exs.size]
 |x::r,b=>by simp only[xai,Exs.size,xaR r b];omega
theorem xaO (a n c:Int) (k:List Ex):(Ex.mk a n c k).size=1+Exs.size k:=rfl
theorem zpv {b:Str}{n p:Nat}{v:Ex}{k:Ex}{r:List Ex} (h:zan b p 24=3) (hk:v.kids=k::r){k1 k2:Ex}{p1 p2:Nat} (h1:mutE b n (p+1) k=some (k1,p1)) (h2:mutE b n p1 k1=some (k2,p2)):
  mutE b (n+1) p v=some (.mk v.op v.n v.ctor (k2::r),p2):=by
 simp only[mutE];rw[if_neg od,if_neg od,if_neg od,if_pos h,hk];simp only[h1,h2]
theorem zkx {b:Str}{n p:Nat}{v:Ex}{k:Ex}{r:List Ex} (h:zan b p 24=3) (hk:v.kids=k::r){v':Ex}{q:Nat} (hm:mutE b (n+1) p v=some (v',q)):
  ∃k1 p1 k2,mutE b n (p+1) k=some (k1,p1)/\mutE b n p1 k1=some (k2,q)/\v' = .mk v.op v.n v.ctor (k2::r):=by
 simp only[mutE] at hm;rw[if_neg od,if_neg od,if_neg od,if_pos h,hk] at hm;cases h1:mutE b n (p+1) k with
 |none=>simp[h1] at hm
 |some x=>
  obtain⟨k1,p1⟩:=x;cases h2:mutE b n p1 k1 with
  |none=>simp[h1,h2] at hm
  |some y=>
   obtain⟨k2,p2⟩:=y;simp only[h1,h2,xae,Prod.mk.injEq] at hm;obtain⟨rfl,rfl⟩:=hm;exact⟨k1,p1,k2,rfl,h2,rfl⟩
theorem zfY {b:Str}:∀ {n:Nat}{p:Nat}{v:Ex}{x:Ex×Nat},mutE b n p v=some x->∀m,n<=m->mutE b m p v=some x
 |0,p,v,x,h,m,_=>by simp[mutE] at h
 |n+1,p,v,x,h,0,hm=>by omega
 |n+1,p,v,x,h,m+1,hm=>by
  by_cases h3:zan b p 24=3
  ·cases hk:v.kids with
   |nil=>simp only[mutE] at h ⊢;rw[if_neg od,if_neg od,if_neg od,if_pos h3,hk] at h ⊢;exact h
   |cons k r=>
    obtain⟨v',q⟩:=x;obtain⟨k1,p1,k2,h1,h2,rfl⟩:=zkx h3 hk h;exact zpv h3 hk (zfY h1 m od) (zfY h2 m od)
  ·simp only[mutE] at h ⊢;split at h
   ·rename_i c;rw[if_pos c];exact h
   ·rename_i c;rw[if_neg c];split at h
    ·rename_i c;rw[if_pos c];exact h
    ·rename_i c;rw[if_neg c];split at h
     ·rename_i c;rw[if_pos c];exact h
     ·rename_i c;rw[if_neg c,if_neg h3];exact h
theorem zd2 {b:Str}:∀ {n:Nat}{p:Nat}{v v':Ex}{q:Nat},mutE b n p v=some (v',q)->p<q/\v'.size<=v.size+(q-p)
 |0,p,v,v',q,h=>by simp[mutE] at h
 |n+1,p,v,v',q,h=>by
  have hv:=xaN v;by_cases h3:zan b p 24=3
  ·cases hk:v.kids with
   |nil=>
    simp only[mutE] at h;rw[if_neg od,if_neg od,if_neg od,if_pos h3,hk] at h;simp only[xae,Prod.mk.injEq] at h;obtain⟨rfl,rfl⟩:=h;rw[xaO];simp only[Exs.size];omega
   |cons k r=>
    obtain⟨k1,p1,k2,h1,h2,rfl⟩:=zkx h3 hk h;have a1:=zd2 h1;have a2:=zd2 h2;rw[hk] at hv;rw[xaO];simp only[Exs.size] at hv ⊢;omega
  ·simp only[mutE] at h;split at h
   ·simp only[xae,Prod.mk.injEq] at h;obtain⟨rfl,rfl⟩:=h;rw[xaO];omega
   split at h
   ·simp only[xae,Prod.mk.injEq] at h;obtain⟨rfl,rfl⟩:=h;rw[xaO];omega
   split at h
   ·simp only[xae,Prod.mk.injEq] at h;obtain⟨rfl,rfl⟩:=h;rw[xaO,xaR];simp only[Exs.size,Ex.size];omega
   ·simp only[xae,Prod.mk.injEq] at h;obtain⟨rfl,rfl⟩:=h;rw[xaO];omega
theorem zpw {b:Str}:∀(m:Nat) (p:Nat) (v:Ex),sU (uP b) p m<= -1->∃n v' q,mutE b n p v=some (v',q)/\q<=p+m/\ -1<=sU (uP b) p (q-p):=by
 intro m;induction m using Nat.strongRecOn with
 |_ m ih=>
  intro p v hm;cases m with
  |zero=>simp[sU] at hm
  |succ m=>
   simp only[sU] at hm;have hu:uP b p=uv (zan b p 24):=rfl;have hub:=zkf (zan b (p+1) 24);by_cases h0:zan b p 24=0\/zan b p 24=1
   ·have hu0:uP b p=0:=by rw[hu];unfold uv;rw[if_neg od,if_pos h0]
    cases m with
    |zero=>simp only[sU] at hm;omega
    |succ m=>
     have hs : -1<=sU (uP b) p (p+2-p):=by
      rw[show p+2-p=2 by omega];show -1<=uP b p+(uP b (p+1)+0)
      have:uP b (p+1)=uv (zan b (p+1) 24):=rfl;omega
     rcases h0 with h0|h0
     ·exact⟨1,_,p+2,by simp only[mutE];rw[if_pos h0],by omega,hs⟩
     ·exact⟨1,_,p+2,by simp only[mutE];rw[if_neg od,if_pos h0],by omega,hs⟩
   ·rw[not_or] at h0;by_cases h3:zan b p 24=3
    ·have hu3:uP b p=1:=by rw[hu];unfold uv;rw[if_pos h3]
     cases hk:v.kids with
     |nil=>
      refine⟨1,_,p+1,by simp only[mutE];rw[if_neg od,if_neg od,if_neg od,if_pos h3,hk],by omega, ?_⟩;rw[show p+1-p=1 by omega];show -1<=uP b p+0
      omega
     |cons k r=>
      obtain⟨n1,k1,p1,a1,a2,a3⟩:=ih m od (p+1) k od;have a4:=(zd2 a1).1;have e1:=zgr (uP b) (p1-(p+1)) (p+1+m-p1) (p+1);rw[show p1-(p+1)+(p+1+m-p1)=m by omega,show p+1+(p1-(p+1))=p1 by omega] at e1;obtain⟨n2,k2,p2,b1,b2,b3⟩:=ih (p+1+m-p1) od p1 k1 od;have b4:=(zd2 b1).1;refine⟨max n1 n2+1,_,p2,zpv h3 hk (zfY a1 _ (Nat.le_max_left _ _)) (zfY b1 _ (Nat.le_max_right _ _)),by omega, ?_⟩;have e2:=zgr (uP b) (p1-(p+1)) (p2-p1) (p+1);rw[show p+1+(p1-(p+1))=p1 by omega] at e2;rw[show p2-p=(p1-(p+1)+(p2-p1))+1 by omega];simp only[sU];omega
    ·have hs : -1<=sU (uP b) p (p+1-p):=by
      rw[show p+1-p=1 by omega];show -1<=uP b p+0
      have:=(zkf (zan b p 24)).1;omega
     by_cases h2:zan b p 24=2
     ·exact⟨1,_,p+1,by simp only[mutE];rw[if_neg h0.1,if_neg h0.2,if_pos h2],by omega,hs⟩
     ·exact⟨1,_,p+1,by simp only[mutE];rw[if_neg h0.1,if_neg h0.2,if_neg h2,if_neg h3],by omega,hs⟩
theorem zpx {b:Str} (hb:b.length<=2000){p:Nat} (hp:p<=4000) (v:Ex):∃n v' q,mutE b n p v=some (v',q)/\q<=3010000:=by
 by_cases h0:1<=b.length
 ·obtain⟨m,m1,m2⟩:=zrQ h0 hb hp;obtain⟨n,v',q,h1,h2,_⟩:=zpw m p v m2;exact⟨n,v',q,h1,by omega⟩
 ·have hz:zan b p 24=0:=by unfold zan;rw[if_pos (.inr od)]
  exact⟨1,_,p+2,by simp only[mutE];rw[if_pos hz],by omega⟩
mutual
theorem xaM:∀v:Ex,v.size<=1000000000000->v.ok
 | .mk a n c ks,h=>by
  have h1:1+Exs.size ks<=1000000000000:=h;exact⟨by have:=xaP ks;omega,Exs.ok_sz ks od⟩
theorem Exs.ok_sz:∀l:List Ex,Exs.size l<=1000000000000->Exs.ok l
 | [],_=>trivial
 |v::r,h=>by
  have h1:v.size+Exs.size r<=1000000000000:=h;exact⟨xaM v od,Exs.ok_sz r od⟩
theorem xaP:∀l:List Ex,l.length<=Exs.size l
 | []=>Nat.zero_le _
 |v::r=>by
  have h1:=xaP r;have h2:=xaN v;show r.length+1<=v.size+Exs.size r
  omega
end
theorem Ex.cs_app (a b:List Ex):Ex.cs (a++b)=Ex.cs a++Ex.cs b:=by rw[xaI,xaI,xaI,xag]
theorem zdK {b:Str} (hb:b.length<=2000):∀(n:Nat){p:Nat}{v v':Ex}{q:Nat},mutE b n p v=some (v',q)->v.size+(q-p)<=1000000000->q<=1000000000->
  FnD Tryz.prog 151 [.ref 900 0,.agg [.d (.i v.op),.d (.i v.n),.d (.i v.ctor),.d (zaE v.kids)]] [(900,some (rdB b p))] (.agg [.d (.i v'.op),.d (.i v'.n),.d (.i v'.ctor),.d (zaE v'.kids)]) [(900,some (rdB b q))]
 |0,p,v,v',q,h,_,_=>by simp[mutE] at h
 |n+1,p,v,v',q,hm,hsz,hq=>by
  have hpq:=zd2 hm;have hvs:=xaN v;have hkl:=xaP v.kids;have hcl:=xaJ v.kids;by_cases hn3:zan b p 24=3/\v.kids≠[]
  ·cases hk:v.kids with
   |nil=>exact absurd hk hn3.2
   |cons y r=>
    obtain⟨k1,p1,k2,h1,h2,rfl⟩:=zkx hn3.1 hk hm;have a1:=zd2 h1;have a2:=zd2 h2;have hc3:=hn3.1;rw[hk] at hvs hkl hcl;simp only[Exs.size,xab] at hvs hkl hcl;have i1:=zdK hb n h1 od od;have i2:=zdK hb n h2 od od;have hcs:Ex.cs (y::r)=y.cc::Ex.cs r:=by show y.c::Ex.cs r=_;rw[xaG]
    have hrl:(Ex.cs (y::r)).length=(Ex.cs r).length+1:=by rw[hcs];rfl
    clear hm;refine bd Tryz.f151 57 [43,52] [11,12] fun _ _ _ _ hk=>?_;refine bx 3003 ?_;refine ab 3004 tz41 ?_;apply tv;refine xbS 1 sl39 .none I I (evd [43,52] [] (Walk.appendV sl39 zz41 .none I I I I (zjw I (by rfl)) (by intro x hx;exact xaK x hx) (by simp[xaJ];omega) (by simp[xaJ];omega) ?_));refine bu [0,1,2,3] [_,_,_,_] st41 ?_;refine ab 3005 tz41 ?_;refine so ty41 ?_;refine dr (wd zbl (zaC (p:=p) (n:=24) hb od od) I I ⟨I,O⟩ ?_);apply tv;apply sq<;>intro h1 h1p h1s;try simp only[Q,xaJ] at h1p
    exfalso;omega;apply sq<;>intro h2 h2p h2s;try simp only[Q,xaJ] at h2p
    exfalso;omega;apply sq<;>intro h3 h3p h3s;try simp only[Q,xaJ] at h3p
    exfalso;omega;apply sq<;>intro h4 h4p h4s;refine Walk.lenV sl39 .none I I (evs [43,52] [] ?_);apply sq<;>intro h5 h5p h5s;refine CWp.fixVB 3005 3 1 4 I I I I (by first|rfl|(simp;done)) (by rw[hcs];simp) ?_;refine evc [43,52] [] (xbC (i:=0) sl39 .none I I I I oq ?_);refine xbF ty41 .none I I I ((cut0 hcs I)) (wd zl2 i1 I I ⟨I,O⟩ ?_);refine wd zl2 i2 I I ⟨I,O⟩ ?_;refine xbC (i:=0) sl39 .none I I I I oq ?_;refine Walk.store ty41 .none I I I I I I og ((put0 hcs I)) ?_;refine dr (CWp.frzC hk 3005 3 1 _ 4 I I I I I (by rw[List.nil_append,hrl];exact zsE rfl rfl (fun x hx=>xaK x hx)) I ?_);refine evc [43,52] [] (so ty41 ?_);apply tv;refine rn [(900,some (rdB b q))] (ra ty41) (.agg (qeeee ?_ ?_ ?_ ?_)) ⟨I,I⟩ (SubO.get ⟨.inr ?_,⟨.inl I,O⟩⟩) (zaj I);rotate_left 5;try simp only[Q,xaJ] at h5p
    exfalso;rw[List.nil_append,hrl] at h5p;omega;try simp only[Q,xaJ] at h4p
    exfalso;omega;all_goals (((first|rfl|(show D.sl _=D.sl (Ex.cs (k2::r));rw[show Ex.cs (k2::r)=k2.cc::Ex.cs r by show k2.c::Ex.cs r=_;rw[xaG]]));done))
  ·simp only[mutE] at hm;refine bd Tryz.f151 57 [] [] fun _ _ _ _ hk=>?_;refine bx 3003 ?_;refine ab 3004 tz41 ?_;apply tv;refine xbR 1 sl39 .none I I (evd [] [] (ap sl39 zz41 I I I (by(intro x hx;exact xaK x hx)) (by simp[xaJ];omega) ?_));refine bu [0,1,2,3] [_,_,_,_] st41 ?_;refine ab 3005 tz41 ?_;refine so ty41 ?_;refine dr (wd zbl (zaC (p:=p) (n:=24) hb od od) I I ⟨I,O⟩ ?_);apply tv;apply sq<;>intro h1 h1p h1s<;>(try simp only[Q,xaJ] at h1p);rw[if_pos od] at hm;simp only[xae,Prod.mk.injEq] at hm;obtain⟨hv',hq'⟩:=hm;refine si [0,1,2,3,4] [_,_,_,_,_] zbd tz3 ?_;refine wd zfq (zcM (p:=p+1) (l:=[0,6,1,2,5]) hb od og og) I I ⟨I,O⟩ ?_;refine ev (so ty3 ?_);apply tv;refine so ty41 ?_;apply tv;refine rn [(900,some (rdB b q))] (ra ty41) (.agg (qeeeg ?_ ?_ ?_ ?_)) ⟨I,I⟩ (SubO.get ⟨.inr ?_,⟨.inl I,O⟩⟩) (zaj I);rotate_left 5;apply sq<;>intro h2 h2p h2s<;>(try simp only[Q,xaJ] at h2p);rw[if_neg od,if_pos od] at hm;simp only[xae,Prod.mk.injEq] at hm;obtain⟨hv',hq'⟩:=hm;refine si [0,1,2] [_,_,_] zbd tz3 ?_;refine wd zfq (zcM (p:=p+1) (l:=[10,-1,3]) hb od og og) I I ⟨I,O⟩ ?_;refine ev (so ty3 ?_);apply tv;refine so ty41 ?_;apply tv;refine rn [(900,some (rdB b q))] (ra ty41) (.agg (qeeeg ?_ ?_ ?_ ?_)) ⟨I,I⟩ (SubO.get ⟨.inr ?_,⟨.inl I,O⟩⟩) (zaj I);rotate_left 5;apply sq<;>intro h3 h3p h3s<;>(try simp only[Q,xaJ] at h3p);rw[if_neg od,if_neg od,if_pos od] at hm;simp only[xae,Prod.mk.injEq] at hm;obtain⟨hv',hq'⟩:=hm;refine bu [0] [_] st41 ?_;refine si [0] [_] sl39 tz41 ?_;refine ap sl39 zz41 I I I (by(intro x hx;simp only[List.mem_singleton] at hx;subst hx;rfl)) (by simp[xaJ];omega) ?_;refine ev (so ty39 ?_);apply tv;refine so ty41 ?_;apply tv;refine rn [(900,some (rdB b q))] (ra ty41) (.agg (qeeeg ?_ ?_ ?_ ?_)) ⟨I,I⟩ (SubO.get ⟨.inr ?_,⟨.inl I,O⟩⟩) (zaj I);rotate_left 5;apply sq<;>intro h4 h4p h4s<;>(try simp only[Q,xaJ] at h4p);apply sq<;>intro h5 h5p h5s<;>(try simp only[Q,xaJ] at h5p);exfalso;apply hn3;refine⟨by omega,fun hh=>?_⟩;rw[hh] at h5p;exact absurd h5p ol;have hk0:v.kids=[]:=by cases hk:v.kids with|nil=>rfl|cons y r=>exact absurd ⟨by omega,by rw[hk];simp⟩ hn3
   rw[if_neg od,if_neg od,if_neg od,if_pos od,hk0] at hm;simp only[xae,Prod.mk.injEq] at hm;obtain⟨hv',hq'⟩:=hm;refine so ty41 ?_;apply tv;refine rn [(900,some (rdB b q))] (ra ty41) (.agg (qeeeg ?_ ?_ ?_ ?_)) ⟨I,I⟩ (SubO.get ⟨.inr ?_,⟨.inl I,O⟩⟩) (zaj I);rotate_left 5;rw[if_neg od,if_neg od,if_neg od,if_neg od] at hm;simp only[xae,Prod.mk.injEq] at hm;obtain⟨hv',hq'⟩:=hm;refine so ty41 ?_;apply tv;refine rn [(900,some (rdB b q))] (ra ty41) (.agg (qeeeg ?_ ?_ ?_ ?_)) ⟨I,I⟩ (SubO.get ⟨.inr ?_,⟨.inl I,O⟩⟩) (zaj I);rotate_left 5;all_goals (first|((subst hv';first|rfl|(show D.sl _=D.sl (Ex.cs (v.kids++[.mk 1 0 0 []]));rw[Ex.cs_app];rfl)|(show _=Ex.cs (v.kids++[.mk 1 0 0 []]);rw[Ex.cs_app];rfl)|(rw[hk0];rfl));done)|(subst hq';rfl))
mutual
def vE:Val->Ex
 | .mk c n ks=>if c = -1 then .mk 1 n 0 [] else .mk 3 0 c (vEs ks)
def vEs:List Val->List Ex
 | []=>[]
 |v::r=>vE v::vEs r
end
theorem znQ:∀l:List Val,(vEs l).length=l.length
 | []=>rfl
 |v::r=>by simp only[vEs,xab,znQ r]
mutual
theorem zrn:∀v:Val,(vE v).size<=v.size
 | .mk c n ks=>by
  have:=zp4 ks;unfold vE;split
  ·simp only[Ex.size,Exs.size,Val.size];omega
  ·simp only[Ex.size,Val.size];omega
theorem zp4:∀l:List Val,Exs.size (vEs l)<=Vals.size l
 | []=>by simp[vEs,Exs.size]
 |v::r=>by
  have:=zrn v;have:=zp4 r;simp only[vEs,Exs.size,Vals.size];omega
end
theorem znm {g:Ty->Ex->Bool}{f:Ty->Nat->Val×Nat}:∀(l:List Ty) (q:Nat),(∀t∈l,∀q,g t (vE (f t q).1)=true)->all2 g l (vEs (dV f l q).1)=true
 | [],q,_=>rfl
 |t::r,q,h=>by
  simp only[dV,vEs,all2,h t og q,Bool.true_and];exact znm r _ (fun u hu=>h u (by simp[hu]))
theorem zry {w:List Data}{t:Ty}{c:Int} (ht:TyIn w.length t) (h:c∈zau w t):0<=c:=by
 obtain⟨a,k⟩:=t;obtain⟨d,_,_,j,hj,_⟩:=za4 ht h;omega
theorem znr {w:List Data}{funs:List Ft}{vars:List Vt}{t:Ty}{n:Nat}{m:Int} (h:t.data = -1) (h0:0<=m) (h9:m<=9):zaD w funs vars (n+1) t (.mk 1 m 0 [])=true:=by
 simp only[zaD,zce];rw[ok_1 rfl,ty_0 ⟨by show(1:Int)≠3;omega,by show(1:Int)≠4;omega,by show(1:Int)≠5;omega⟩];simp[all2,h,h0,h9,Ex.n,Ex.ctor,Ex.kids]
theorem zns {w:List Data}{funs:List Ft}{vars:List Vt}{t:Ty}{n:Nat}{c:Int}{l:List Ex} (hc:c∈zau w t) (hl:l.length=(zac w t c).length) (ha:all2 (zaD w funs vars n) (zac w t c) l=true):
  zaD w funs vars (n+1) t (.mk 3 0 c l)=true:=by
 simp only[zaD,zce];rw[ok_3 rfl,ty_3 rfl rfl hc,xax (show _ from⟨rfl,hc⟩),Bool.true_and,xad,xah];exact⟨hl.symm,ha⟩
theorem zrC {w:List Data}{funs:List Ft}{vars:List Vt}{t:Ty}{n:Nat}{x y:Ex} (h:t.data = -1) (hx:zaD w funs vars n t x=true) (hy:zaD w funs vars n t y=true):zaD w funs vars (n+1) t (.mk 4 0 0 [x,y])=true:=by
 rw[zaD,zce,ok_4 rfl,ty_4 rfl,xax (show _ from⟨h,rfl,rfl⟩)];have h4:all2 (zaD w funs vars n) [t,t] (Ex.mk 4 0 0 [x,y]).kids=true:=by simp only[Ex.kids,all2,hx,hy];rfl
 rw[h4];rfl
theorem zrD {w:List Data}{funs:List Ft}{vars:List Vt}{t:Ty}{n i:Nat}{x:Ex} (hi:i<funs.length) (hf:zbX (nth funs i).res t=true) (hx:zaD w funs vars n (nth funs i).arg x=true):zaD w funs vars (n+1) t (.mk 5 i 0 [x])=true:=by
 have h3:0<=(Ex.mk 5 (i:Int) 0 [x]).n/\(Ex.mk 5 (i:Int) 0 [x]).n<(funs.length:Int)/\(Ex.mk 5 (i:Int) 0 [x]).ctor=0:=⟨by show(0:Int)<=(i:Int);omega,by show(i:Int)<_;omega,rfl⟩;have e3:(nth funs (Ex.mk 5 (i:Int) 0 [x]).n.toNat)=nth funs i:=by show nth funs ((i:Int)).toNat=_;rw[Int.toNat_natCast]
 rw[zaD,zce,ok_5 rfl,ty_5 rfl h3,xax h3,e3,hf];have h4:all2 (zaD w funs vars n) [(nth funs i).arg] (Ex.mk 5 (i:Int) 0 [x]).kids=true:=by simp only[Ex.kids,all2,hx];rfl
 rw[h4];rfl
theorem znP {b:Str}{w:List Data}{funs:List Ft}{vars:List Vt} (hd:Dp w):∀(n:Nat) (t:Ty) (m:Int) (p:Nat),Deep w n t m->zaD w funs vars n t (vE (zaS b w (zab w) n t m p).1)=true
 |0,t,m,p,h=>by have:=h.pos;have:=h.le;omega
 |n+1,t,m,p,h=>by
  by_cases hi:t.data = -1
  ·rw[zkp hi];have:=zaK (b:=b) (p:=p) (n:=10) od;show zaD w funs vars (n+1) t (vE (.mk (-1) (zan b p 10) []))=true
   unfold vE;rw[if_pos rfl];exact znr hi od od
  ·have hm:=zf1 hd h hi b p;rw[zkq hi rfl];generalize nth (zbA w (zab w) t m) (zan b p (zbA w (zab w) t m).length).toNat=c at *;have hk:=zgI hd h hm;have hc:=(zeO hm).1;have h0:=zry (zdY h.ins) hc;dsimp only;unfold vE;rw[if_neg od];exact zns hc (by rw[znQ,zmf]) (znm _ _ (fun u hu q=>znP hd n u (m-1) q (hk u hu)))
def varE (b:Str) (vars:List Vt) (t:Ty):Nat->Nat->Option Int×Nat
 |0,p=>(none,p)
 |n+1,p=>if zan b p 3<=0 then (none,p+1)
  else if zbX (nth vars (zan b (p+1) vars.length).toNat).ty t=true then (some (nth vars (zan b (p+1) vars.length).toNat).var,p+2)
  else varE b vars t n (p+2)
def funE (b:Str) (f:Nat->Nat) (t:Ty):List Ft->Nat->Nat->Option (Nat×Ty)×Nat
 | [],_,p=>(none,p)
 |u::r,i,p=>if zbX u.res t=true/\0<dv f u.arg then (if zan b p 3=0 then (some (i,u.arg),p+1) else funE b f t r (i+1) (p+1)) else funE b f t r (i+1) p
def dE (f:Ty->Nat->Ex×Nat):List Ty->Nat->List Ex×Nat
 | [],q=>([],q)
 |t::r,q=>((f t q).1::(dE f r (f t q).2).1,(dE f r (f t q).2).2)
def zep (b:Str) (w:List Data) (g:Ty->Nat->Ex×Nat) (n:Nat) (t:Ty) (p:Nat):Ex×Nat:=
 if t.data = -1 then
  if n≠0/\zan b p 3=0 then (.mk 4 0 0 [(g t (p+1)).1,(g t (g t (p+1)).2).1],(g t (g t (p+1)).2).2)
  else (.mk 1 (zan b (if n=0 then p else p+1) 10) 0 [],(if n=0 then p else p+1)+1)
 else if n=0 then (vE (zaS b w (zab w) 4 t 1 p).1,(zaS b w (zab w) 4 t 1 p).2)
 else (.mk 3 0 (zaS b w (zab w) 4 t (n+1:Nat) p).1.ctor (dE g (zac w t (zaS b w (zab w) 4 t (n+1:Nat) p).1.ctor) (zaS b w (zab w) 4 t (n+1:Nat) p).2).1,
  (dE g (zac w t (zaS b w (zab w) 4 t (n+1:Nat) p).1.ctor) (zaS b w (zab w) 4 t (n+1:Nat) p).2).2)
def zas (b:Str) (w:List Data) (funs:List Ft) (vars:List Vt):Nat->Ty->Nat->Ex×Nat
 |0,_,p=>(.mk 1 0 0 [],p)
 |n+1,t,p=>
  match varE b vars t vars.length p with
  |(some v,q)=>(.mk 2 v 0 [],q)
  |(none,p1)=>
   match (if n=0 then (none,p1) else funE b (zab w) t funs 0 p1) with
   |(some (i,a),q)=>(.mk 5 i 0 [(zas b w funs vars n a q).1],(zas b w funs vars n a q).2)
   |(none,p2)=>zep b w (zas b w funs vars n) n t p2
section
variable {b:Str}{w:List Data}{funs:List Ft}{vars:List Vt}{n p p1 p2 q:Nat}{t:Ty}
theorem zdB {v:Int} (h:varE b vars t vars.length p=(some v,q)):zas b w funs vars (n+1) t p=(.mk 2 v 0 [],q):=by simp only[zas,h]
theorem zgl {i:Nat}{a:Ty} (h:varE b vars t vars.length p=(none,p1)) (hn:n≠0) (h2:funE b (zab w) t funs 0 p1=(some (i,a),q)):
  zas b w funs vars (n+1) t p=(.mk 5 i 0 [(zas b w funs vars n a q).1],(zas b w funs vars n a q).2):=by simp only[zas,h,if_neg hn,h2]
theorem zb2 (h:varE b vars t vars.length p=(none,p1)) (h2:(if n=0 then (none,p1) else funE b (zab w) t funs 0 p1)=(none,p2)):
  zas b w funs vars (n+1) t p=zep b w (zas b w funs vars n) n t p2:=by simp only[zas,h,h2]
theorem znS:∀(n p:Nat),(varE b vars t n p).2<=p+2*n
 |0,p=>by simp[varE]
 |n+1,p=>by
  have:=znS n (p+2);unfold varE;split
  ·dsimp only;omega
  split
  ·dsimp only;omega
  ·omega
theorem znT:∀(n p:Nat),n<=vars.length->∀v q,varE b vars t n p=(some v,q)->∃k,k<vars.length/\(nth vars k).var=v/\zbX (nth vars k).ty t=true
 |0,p,_,v,q,h=>by simp[varE] at h
 |n+1,p,hl,v,q,h=>by
  unfold varE at h;have hp:=zaK (b:=b) (p:=p+1) (n:=(vars.length:Int)) od;split at h
  ·simp at h
  split at h
  ·rename_i hf;simp only[Prod.mk.injEq,xae] at h;exact⟨_,by omega,h.1,hf⟩
  ·exact znT n (p+2) od v q h
theorem zks {f:Nat->Nat}:∀(l:List Ft) (i p:Nat),(funE b f t l i p).2<=p+l.length
 | [],i,p=>by simp[funE]
 |u::r,i,p=>by
  have:=zks (f:=f) r (i+1) (p+1);have:=zks (f:=f) r (i+1) p;unfold funE;split
  ·split
   ·simp only[xab];omega
   ·simp only[xab];omega
  ·simp only[xab];omega
theorem znt {f:Nat->Nat}:∀(l:List Ft) (i p:Nat),∀j a q,funE b f t l i p=(some (j,a),q)->∃k,j=i+k/\k<l.length/\a=(nth l k).arg/\zbX (nth l k).res t=true/\0<dv f a
 | [],i,p,j,a,q,h=>by simp[funE] at h
 |u::r,i,p,j,a,q,h=>by
  unfold funE at h;have step:∀p',funE b f t r (i+1) p'=(some (j,a),q)->∃k,j=i+k/\k<(u::r).length/\a=(nth (u::r) k).arg/\zbX (nth (u::r) k).res t=true/\0<dv f a:=fun p' h'=>by
   obtain⟨k,h1,h2,h3,h4,h5⟩:=znt r (i+1) p' j a q h';exact⟨k+1,by omega,by simp only[xab];omega,h3,h4,h5⟩
  split at h
  ·rename_i hf;split at h
   ·simp only[Prod.mk.injEq,xae] at h;obtain⟨⟨rfl,rfl⟩,_⟩:=h;exact⟨0,rfl,by simp,rfl,hf.1,hf.2⟩
   ·exact step _ h
  ·exact step _ h
theorem zo2 {f:Ty->Nat->Ex×Nat}:∀(l:List Ty) (q:Nat),(dE f l q).1.length=l.length
 | [],q=>rfl
 |t::r,q=>by simp only[dE,xab,zo2 r]
theorem zq1 {f:Ty->Nat->Ex×Nat}{k:Nat}:∀(l:List Ty) (q:Nat),(∀t∈l,∀q,(f t q).2<=q+k)->(dE f l q).2<=q+l.length*k
 | [],q,_=>by simp[dE]
 |t::r,q,h=>by
  have h1:=h t og q;have h2:=zq1 r (f t q).2 (fun x hx=>h x (by simp[hx]));simp only[dE,xab,Nat.add_mul];omega
theorem zq2 {f:Ty->Nat->Ex×Nat}{k:Nat}:∀(l:List Ty) (q:Nat),(∀t∈l,∀q,(f t q).1.size<=k)->Exs.size (dE f l q).1<=l.length*k
 | [],q,_=>by simp[dE,Exs.size]
 |t::r,q,h=>by
  have h1:=h t og q;have h2:=zq2 r (f t q).2 (fun x hx=>h x (by simp[hx]));simp only[dE,xab,Nat.add_mul,Exs.size];omega
theorem znl {g:Ty->Ex->Bool}{f:Ty->Nat->Ex×Nat}:∀(l:List Ty) (q:Nat),(∀t∈l,∀q,g t (f t q).1=true)->all2 g l (dE f l q).1=true
 | [],q,_=>rfl
 |t::r,q,h=>by
  simp only[dE,all2,h t og q,Bool.true_and];exact znl r _ (fun u hu=>h u (by simp[hu]))
end
structure Sce (w:List Data) (funs:List Ft) (vars:List Vt):Prop where
 dp:Dp w
 few:Few w
 low:∀s,zab w s<=3
 fin:∀f∈funs,InS (w.length*4) f.arg
 fl:funs.length<=3
 vl:vars.length<=3
 vs:∀k,k<vars.length->0<=zbr vars (nth vars k).var/\zdV vars (nth vars k).var=(nth vars k).ty
structure Gty (w:List Data) (t:Ty):Prop where
 ins:InS (w.length*4) t
 pos:0<dv (zab w) t
theorem Gty.deep {w:List Data}{t:Ty} (h:Gty w t) (hl:∀s,zab w s<=3){m:Int} (hm:m<=4):Deep w 4 t m:=by
 have:=zlN (f:=zab w) (b:=3) hl od t;exact⟨h.ins,h.pos,by omega,by omega⟩
theorem ziQ {b:Str}{w:List Data} (hd:Dp w) (hf:Few w){t:Ty}{m:Int} (h:Deep w 4 t m) (hi:¬t.data = -1) (p:Nat):
  (zaS b w (zab w) 4 t m p).1.ctor∈zau w t/\(zac w t (zaS b w (zab w) 4 t m p).1.ctor).length<=3/\∀u∈zac w t (zaS b w (zab w) 4 t m p).1.ctor,Gty w u:=by
 have hm:=zf1 hd h hi b p;rw[zkq hi rfl];generalize nth (zbA w (zab w) t m) (zan b p (zbA w (zab w) t m).length).toNat=c at *;have hk:=zgI hd h hm;have hc:=(zeO hm).1;exact⟨hc,(hf t c hc (zdY h.ins)).1,fun u hu=>⟨(hk u hu).ins,(hk u hu).pos⟩⟩
def KE:Nat->Nat
 |0=>0
 |n+1=>50+3*KE n
def SE:Nat->Nat
 |0=>40
 |n+1=>1+3*SE n
theorem SE_ge:∀n,40<=SE n
 |0=>Nat.le_refl _
 |n+1=>by have:=SE_ge n;simp only[SE];omega
theorem zgJ {b:Str}{w:List Data}{funs:List Ft}{vars:List Vt} (hs:Sce w funs vars):∀(n:Nat) (t:Ty) (p:Nat),n<=3->Gty w t->
  (zas b w funs vars (n+1) t p).2<=p+KE (n+1)/\(zas b w funs vars (n+1) t p).1.size<=SE (n+1)/\zaD w funs vars (n+4) t (zas b w funs vars (n+1) t p).1=true:=by
 intro n;induction n using Nat.strongRecOn with
 |_ n ih=>
 intro t p hn ht;have ih':∀u q,n≠0->Gty w u->(zas b w funs vars n u q).2<=q+KE n/\(zas b w funs vars n u q).1.size<=SE n/\zaD w funs vars (n+3) u (zas b w funs vars n u q).1=true:=fun u q h0 hu=>by
  have:=ih (n-1) od u q od hu;rw[show n-1+1=n by omega,show n-1+4=n+3 by omega] at this;exact this
 have hS:=SE_ge n;have hK:KE (n+1)=50+3*KE n:=rfl;have hS1:SE (n+1)=1+3*SE n:=rfl;have hvl:=hs.vl;have hfl:=hs.fl;have e1:bdV 4=40:=by decide
 have e2:szV 4=121:=by decide
 have b1:=znS (b:=b) (vars:=vars) (t:=t) vars.length p;cases hv:varE b vars t vars.length p with
 |mk o p1=>
  rw[hv] at b1;dsimp only at b1;cases o with
  |some v=>
   obtain⟨k,k1,k2,k3⟩:=znT vars.length p (Nat.le_refl _) v p1 hv;obtain⟨f1,f2⟩:=hs.vs k k1;rw[zdB hv];refine⟨by dsimp only;omega,by simp only[Ex.size,Exs.size];omega, ?_⟩;dsimp only;simp only[zaD,zce];rw[ok_2 rfl,ty_0 ⟨by show(2:Int)≠3;omega,by show(2:Int)≠4;omega,by show(2:Int)≠5;omega⟩];rw[k2] at f1 f2;simp[all2,Ex.n,Ex.ctor,Ex.kids,f1,f2,k3]
  |none=>
   have b2:=zks (b:=b) (t:=t) (f:=zab w) funs 0 p1;cases hf:(if n=0 then ((none:Option (Nat×Ty)),p1) else funE b (zab w) t funs 0 p1) with
   |mk o2 p2=>
    cases o2 with
    |some x=>
     obtain⟨i,a⟩:=x;have hn0:n≠0:=fun h=>by rw[if_pos h] at hf;simp at hf
     rw[if_neg hn0] at hf;rw[hf] at b2;dsimp only at b2;obtain⟨k,k1,k2,k3,k4,k5⟩:=znt funs 0 p1 i a p2 hf;have hga:Gty w a:=⟨k3 ▸ hs.fin _ (zao k2),k5⟩;obtain⟨i1,i2,i3⟩:=ih' a p2 hn0 hga;rw[zgl hv hn0 hf];refine⟨by dsimp only;omega,by simp only[Ex.size,Exs.size];omega, ?_⟩;dsimp only;rw[show n+4=(n+3)+1 by omega];have hik:i=k:=by omega
     subst hik;exact zrD k2 k4 (by rw[<-k3];exact i3)
    |none=>
     have b3:p2<=p1+funs.length:=by
      split at hf
      ·simp only[Prod.mk.injEq,true_and] at hf;omega
      ·rw[hf] at b2;dsimp only at b2;omega
     rw[zb2 hv hf];unfold zep;by_cases hi:t.data = -1
     ·rw[if_pos hi];by_cases hc:n≠0/\zan b p2 3=0
      ·rw[if_pos hc];obtain⟨i1,i2,i3⟩:=ih' t (p2+1) hc.1 ht;obtain⟨j1,j2,j3⟩:=ih' t (zas b w funs vars n t (p2+1)).2 hc.1 ht;refine⟨by dsimp only;omega,by simp only[Ex.size,Exs.size];omega, ?_⟩;dsimp only;rw[show n+4=(n+3)+1 by omega];exact zrC hi i3 j3
      ·rw[if_neg hc];have:=zaK (b:=b) (p:=if n=0 then p2 else p2+1) (n:=10) od;refine⟨by dsimp only;split<;>omega,by simp only[Ex.size,Exs.size];omega, ?_⟩;dsimp only;exact znr hi od od
     ·rw[if_neg hi];by_cases hn0:n=0
      ·rw[if_pos hn0];subst hn0;have hdp:=ht.deep hs.low (m:=1) od;obtain⟨d1,d2,d3⟩:=zct (b:=b) hs.dp hs.few 4 t 1 p2 hdp;have:=zrn (zaS b w (zab w) 4 t 1 p2).1;have e4:SE (0+1)=121:=by decide
       exact⟨by dsimp only;omega,by dsimp only;omega,znP hs.dp 4 t 1 p2 hdp⟩
      ·rw[if_neg hn0];have hdp:=ht.deep hs.low (m:=((n+1:Nat):Int)) od;obtain⟨d1,d2,d3⟩:=zct (b:=b) hs.dp hs.few 4 t ((n+1:Nat):Int) p2 hdp;obtain⟨g1,g2,g3⟩:=ziQ (b:=b) hs.dp hs.few hdp hi p2;generalize zaS b w (zab w) 4 t ((n+1:Nat):Int) p2=x at *;obtain⟨v,q⟩:=x;dsimp only at d1 d2 d3 g1 g2 g3 ⊢;have x1:=zq1 (f:=zas b w funs vars n) (k:=KE n) (zac w t v.ctor) q (fun u hu q=>(ih' u q hn0 (g3 u hu)).1);have x2:=zq2 (f:=zas b w funs vars n) (k:=SE n) (zac w t v.ctor) q (fun u hu q=>(ih' u q hn0 (g3 u hu)).2.1);have x3:=znl (g:=zaD w funs vars (n+3)) (f:=zas b w funs vars n) (zac w t v.ctor) q (fun u hu q=>(ih' u q hn0 (g3 u hu)).2.2);have y1:(zac w t v.ctor).length*KE n<=3*KE n:=xav _ g2;have y2:(zac w t v.ctor).length*SE n<=3*SE n:=xav _ g2;refine⟨by omega,by simp only[Ex.size];omega, ?_⟩;exact zns (n:=n+3) g1 (by rw[zo2]) x3
theorem zqM {pre:List Val}{x:Val}{rest xs:List Val} (h:pre++x::rest=xs):(Val.cs xs)[pre.length]?=some x.cc:=by rw[xa9];exact zaM h
theorem znR:∀l:List Val,vEs l=l.map vE
 | []=>rfl
 |v::r=>by simp only[vEs,xaf,znR r]
theorem vE_1 {v:Val} (h:v.ctor = -1):vE v = .mk 1 v.num 0 []:=by
 cases v with|mk c n ks=>unfold vE;rw[if_pos (show c = -1 from h)];rfl
theorem vE_2 {v:Val} (h:¬v.ctor = -1):vE v = .mk 3 0 v.ctor (v.kids.map vE):=by
 cases v with|mk c n ks=>unfold vE;rw[if_neg (show ¬c = -1 from h),znR];rfl
theorem ziF {y:Val}:∀ {l:List Val},y∈l->y.size<=Vals.size l
 |x::r,h=>by
  simp only[Vals.size];rcases List.mem_cons.1 h with rfl|h
  ·omega
  ·have:=ziF h;omega
theorem ziE:∀l:List Val,l.length<=Vals.size l
 | []=>Nat.zero_le _
 |v::r=>by have:=ziE r;have:=xbc v;simp only[Vals.size,xab];omega
theorem zdS:∀(n:Nat){v:Val},v.size<=n->n<=1000000000000->
  FnD Tryz.prog 167 [.agg [.d (.i v.ctor),.d (.i v.num),.d (zif v.kids)]] [] (.agg [.d (.i (vE v).op),.d (.i (vE v).n),.d (.i (vE v).ctor),.d (zaE (vE v).kids)]) []
 |0,v,h,_=>by have:=xbc v;omega
 |n+1,v,h,hn=>by
  have hsz:=xbc v;have hkl:=ziE v.kids;by_cases hc:v.ctor = -1
  ·rw[vE_1 hc];refine bd Tryz.f167 33 [] [] fun _ _ _ _ hk=>?_;refine bx 3001 ?_;refine ab 3002 tz41 ?_;apply tv;apply sq<;>intro h1 h1p h1s<;>(try simp only[Q] at h1p);refine bu [0,1] [_,_] st41 ?_;refine so ty41 ?_;apply tv;refine rn0 (ra ty41) (.agg (qeeen ?_ ?_ ?_ ?_));rotate_left 4;exfalso;omega;all_goals (rfl)
  ·rw[vE_2 hc];refine bd Tryz.f167 33 [] [] fun _ _ _ _ hk=>?_;refine bx 3001 ?_;refine ab 3002 tz41 ?_;apply tv;apply sq<;>intro h1 h1p h1s<;>(try simp only[Q,xbb,xac] at h1p);exfalso;omega;refine bu [0,2] [_,_] st41 ?_;refine ab 3003 tz41 ?_;refine so ty41 ?_;apply tv;refine xaC 3003 3 1 4 I I I I (xaA (ι:=List (Val)×List (Val)) hk (fun x=>[(4,.d (.i (x.1.length:Int)))]) [14,15,16,17,18,19,20,21,22,23,24,25,26,27,28,29,30,31] (fun x=>[(3003,some (.box [.d (.i 3),.d (.i 0),.d (.i v.ctor),.gl 1 ((x.1.map vE).map Ex.cc)])),(1,some (.tok ((x.1.map vE).map Ex.cc).length 4))]) (fun x=>x.1++x.2=v.kids) (fun x=>x.2.length) ([],v.kids) og ⟨⟨_,I,xaV ?_⟩,O⟩ ⟨?_,⟨zaq ?_,O⟩⟩ (fun x=>rfl) (fun x hg1=>?_));focus (first|rfl|(simp;done)|omega|(simp;omega))
   focus (first|rfl|(simp[getH];done))
   focus (first|rfl|(simp;done)|omega|(simp;omega))
   obtain⟨pre,rest⟩:=x;dsimp only at hg1 ⊢;refine evc [] [] ?_;apply sq<;>intro h2 h2p h2s<;>(try simp only[Q,xbb,xac] at h2p);rcases rest with _|⟨y,rest⟩
   ·exfalso;simp_all
   refine ixq zoo I I I (zqM hg1) I (evd [] [] (wc zdn (zdS n (v:=y) (by have:=ziF (y:=y) (l:=v.kids) (by rw[<-hg1];simp);omega) od) I I ?_));refine si [0] [_] sl39 tz41 ?_;refine ap sl39 zz41 I I I og (by have hz:=xam List.length hg1;simp at hz ⊢;omega) ?_;refine evd [] [] (so ty39 ?_);refine dr (ar (xaj ((pre++[y],rest)) ⟨(by have hz:=hg1;rw[<-hz];simp),og,sx ⟨⟨_,I,xaV ?_⟩,O⟩ ⟨?_,⟨zaq ?_,O⟩⟩⟩));focus (first|rfl|(simp;done)|omega|(simp;omega))
   focus (first|rfl|(simp[getH];done))
   focus (first|rfl|(simp;done)|omega|(simp;omega))
   have hrest:rest=[]:=by
    rcases rest with _|⟨a,b⟩
    ·rfl
    ·exfalso;have hz:=xam List.length (hg1);simp only[xaa,xab,xac] at hz;omega
   subst hrest;refine so ty41 ?_;apply tv;refine rn0 (ra ty41) (.agg (qeeeg ?_ ?_ ?_ ?_));rotate_left 4;all_goals (first|rfl|(rw[xaq] at hg1;subst hg1;first|rfl|(show _=D.sl (Ex.cs _);rw[xaH];all_goals rfl)|(show _=Ex.cs _;rw[xaH];all_goals rfl)))
end Go.Proofs.YtmkipahfpaacgaaGreatDoor
