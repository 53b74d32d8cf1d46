/-
  THE ABSTRACT WALK AND THE WALKS, part 4 of 6: the parts F70, F71, F72, F74, F75, F76, F77, F78, F73, F18, F19, F31, F32, F33, F34, F35.
-/
import Derived.Test.YtcnjkjdmbnhcaaaGreatU3
namespace Go.Proofs.YtcnjkjdmbnhcaaaGreat
open Go
set_option linter.unusedSimpArgs false
set_option linter.unusedVariables false
set_option maxRecDepth 100000
set_option maxHeartbeats 2000000
theorem zhc {a b c d e:Int}{l:List Pat}:(Pat.mk a b c d e l).op=a:=rfl
theorem zfn {a b c d e:Int}{l:List Pat}:(Pat.mk a b c d e l).ctor=b:=rfl
theorem mk_n {a b c d e:Int}{l:List Pat}:(Pat.mk a b c d e l).n=c:=rfl
theorem mk_m {a b c d e:Int}{l:List Pat}:(Pat.mk a b c d e l).m=d:=rfl
theorem zgO {a b c d e:Int}{l:List Pat}:(Pat.mk a b c d e l).var=e:=rfl
theorem zdy {a b c d e:Int}{l:List Pat}:(Pat.mk a b c d e l).kids=l:=rfl
abbrev anyQ:Pat:= .mk 1 0 0 0 0 []
abbrev zs9:Pat:= .mk 0 0 0 0 0 []
mutual
def zaM:Pat→Pat
 | .mk op c n m v ks=>if op=2 then anyQ else if op=6∧ks≠[] then zjF ks else .mk op c n m v (zg6 ks)
def zjF:List Pat→Pat
 | []=>anyQ
 |k::_=>zaM k
def zg6:List Pat→List Pat
 | []=>[]
 |k::r=>zaM k::zg6 r
end
theorem zkb:∀l:List Pat,zg6 l=l.map zaM
 | []=>rfl
 |k::r=>by simp[zg6,zkb r]
theorem zfg (p:Pat):zaM p=if p.op=2 then anyQ else if p.op=6∧p.kids≠[] then zaM (nth p.kids 0) else .mk p.op p.ctor p.n p.m p.var (p.kids.map zaM):=by
 cases p with|mk op c n m v ks=>
 have e:zaM (.mk op c n m v ks)=if op=2 then anyQ else if op=6∧ks≠[] then zjF ks else .mk op c n m v (zg6 ks):=by conv=>lhs;unfold zaM
 rw[e,zkb]
 by_cases h2:op=2
 ·rw[if_pos h2]
  exact(if_pos (c:=(Pat.mk op c n m v ks).op=2) h2).symm
 ·rw[if_neg h2]
  refine Eq.trans ?_ (if_neg (c:=(Pat.mk op c n m v ks).op=2) h2).symm
  by_cases h6:op=6∧ks≠[]
  ·rw[if_pos h6]
   refine Eq.trans ?_ (if_pos (c:=(Pat.mk op c n m v ks).op=6∧(Pat.mk op c n m v ks).kids≠[]) h6).symm
   cases ks with
   |nil=>exact absurd rfl h6.2
   |cons k r=>rfl
  ·rw[if_neg h6]
   exact(if_neg (c:=(Pat.mk op c n m v ks).op=6∧(Pat.mk op c n m v ks).kids≠[]) h6).symm
def zbp (out:List (List Pat)) (l:List Pat):List (List Pat):=out.flatMap fun q=>l.map fun c=>q++[c]
def zeA (ls:List (List Pat)):List (List Pat):=ls.foldl zbp [[]]
mutual
def zaz:Pat→List Pat
 | .mk op c n m v ks=>if op=5 then zuY ks else (zeA (zjO ks)).map fun l=> .mk op c n m v l
def zuY:List Pat→List Pat
 | []=>[]
 |a::r=>zaz a++ztD r
def ztD:List Pat→List Pat
 | []=>[]
 |b::_=>zaz b
def zjO:List Pat→List (List Pat)
 | []=>[]
 |k::r=>zaz k::zjO r
end
theorem zl2:∀l:List Pat,zjO l=l.map zaz
 | []=>rfl
 |k::r=>by simp[zjO,zl2 r]
theorem zeG {p:Pat} (h:p.op≠5):zaz p=(zeA (p.kids.map zaz)).map fun l=> .mk p.op p.ctor p.n p.m p.var l:=by
 cases p with|mk op c n m v ks=>
 have h':¬op=5:=h
 conv=>lhs;unfold zaz
 rw[if_neg h',zl2];rfl
theorem zgZ {p:Pat} (h:p.op=5) (hk:p.kids.length=2):zaz p=zaz (nth p.kids 0)++zaz (nth p.kids 1):=by
 cases p with|mk op c n m v ks=>
 have h':op=5:=h
 conv=>lhs;unfold zaz
 rw[if_pos h']
 have hk':ks.length=2:=hk
 match ks,hk' with
 | [a,b],_=>rfl
mutual
def cntS:Pat→Int
 | .mk op _ _ _ _ ks=>if op=5 then cntO ks 0 else cntM ks 1
def cntO:List Pat→Int→Int
 | [],n=>n
 |k::r,n=>cntO r (cap (n+cntS k))
def cntM:List Pat→Int→Int
 | [],n=>n
 |k::r,n=>cntM r (cap (n*cntS k))
end
theorem zmg (p:Pat):cntS p=if p.op=5 then cntO p.kids 0 else cntM p.kids 1:=by
 cases p with|mk op c n m v ks=>
 conv=>lhs;unfold cntS
 rfl
mutual
theorem zmf:∀p:Pat,0≤cntS p∧cntS p≤401
 | .mk op _ _ _ _ ks=>by
  unfold cntS
  split
  ·exact zpR ks 0 (by omega) (by omega)
  ·exact zpP ks 1 (by omega) (by omega)
theorem zpR:∀(l:List Pat) (n:Int),0≤n→n≤401→0≤cntO l n∧cntO l n≤401
 | [],n,h1,h2=>⟨h1,h2⟩
 |k::r,n,h1,h2=>by
  unfold cntO
  have h3:=zmf k
  have h4:=zkZ (x:=n+cntS k) (by omega)
  exact zpR r _ h4.1 h4.2
theorem zpP:∀(l:List Pat) (n:Int),0≤n→n≤401→0≤cntM l n∧cntM l n≤401
 | [],n,h1,h2=>⟨h1,h2⟩
 |k::r,n,h1,h2=>by
  unfold cntM
  have h3:=zmf k
  have h4:=zkZ (x:=n*cntS k) (Int.mul_nonneg h1 h3.1)
  exact zpP r _ h4.1 h4.2
end
theorem zrn {l:List Pat}{i:Nat}{n:Int} (h:i<l.length):cntO (l.drop i) n=cntO (l.drop (i+1)) (cap (n+cntS (nth l i))):=by
 rw[zaV h];rfl
theorem zrm {l:List Pat}{i:Nat}{n:Int} (h:i<l.length):cntM (l.drop i) n=cntM (l.drop (i+1)) (cap (n*cntS (nth l i))):=by
 rw[zaV h];rfl
def binP:Nat→Pat→Bool
 |0,_=>false
 |n+1,p=>decide (p.op=5→p.kids.length=2)&&p.kids.all (binP n)
theorem zee {n:Nat}{p:Pat} (h:binP (n+1) p=true){i:Nat} (hi:i<p.kids.length):binP n (nth p.kids i)=true:=by
 unfold binP at h
 rw[Bool.and_eq_true,List.all_eq_true] at h
 exact h.2 _ (zaf hi)
theorem zjB {n:Nat}{p:Pat} (h:binP (n+1) p=true) (h5:p.op=5):p.kids.length=2:=by
 unfold binP at h
 rw[Bool.and_eq_true] at h
 exact(of_decide_eq_true h.1) h5
theorem zn5:∀(n:Nat){p:Pat},binP n p=true→binP (n+1) p=true
 |0,p,h=>by simp[binP] at h
 |n+1,p,h=>by
  have h':=h
  unfold binP at h ⊢
  rw[Bool.and_eq_true,List.all_eq_true] at h ⊢
  exact⟨h.1,fun k hk=>zn5 n (h.2 k hk)⟩
theorem zhi {w:List Data}:∀(n:Nat){t:Ty}{p:Pat},zau w n t p=true→binP n (zaM p)=true
 |0,t,p,h=>by simp[zau] at h
 |n+1,t,p,h=>by
  obtain⟨ho,hlen⟩:=zbT h
  have hany:binP (n+1) anyQ=true:=by simp[binP,anyQ,Pat.op,Pat.kids]
  rw[zfg]
  by_cases h2:p.op=2
  ·rw[if_pos h2];exact hany
  rw[if_neg h2]
  by_cases h6:p.op=6
  ·obtain⟨hl,s0⟩:=zjl h h6
   rw[if_pos ⟨h6,fun e=>by rw[e] at hl;simp at hl⟩]
   exact zn5 n (zhi n s0)
  rw[if_neg (fun h=>h6 h.1)]
  unfold binP
  rw[Bool.and_eq_true,List.all_eq_true]
  refine⟨decide_eq_true (fun h5=>?_),fun k hk=>?_⟩
  ·have:=(zjm h h5).1;simpa [Pat.kids] using this
  ·simp only[Pat.kids,List.mem_map] at hk
   obtain⟨x,hx,rfl⟩:=hk
   obtain⟨i,hi,rfl⟩:=List.getElem_of_mem hx
   have:=zhi n (zbS h hi)
   have e:nth p.kids i=p.kids[i]:=za6 hi
   rw[e] at this
   exact this
theorem zfR (out:List (List Pat)) (l:List Pat):(zbp out l).length=out.length*l.length:=by
 unfold zbp
 induction out with
 |nil=>simp
 |cons q r ih=>rw[List.flatMap_cons,List.length_append,ih,List.length_map,List.length_cons,Nat.succ_mul];omega
theorem zqH (ls:List (List Pat)) (l:List Pat):zeA (ls++[l])=zbp (zeA ls) l:=by unfold zeA;rw[List.foldl_append];rfl
theorem ztd {a b:Nat}:cap (cap (a:Int)*cap (b:Int))=cap ((a*b:Nat):Int):=by
 unfold cap
 rcases Nat.eq_zero_or_pos a with rfl|ha
 ·simp
 rcases Nat.eq_zero_or_pos b with rfl|hb
 ·simp
 have h1:a≤a*b:=Nat.le_mul_of_pos_right a hb
 have h2:b≤a*b:=Nat.le_mul_of_pos_left b ha
 have hab:((a*b:Nat):Int)=(a:Int)*(b:Int):=by push_cast;rfl
 by_cases ca:401<(a:Int)
 ·rw[if_pos ca]
  by_cases cb:401<(b:Int)
  ·rw[if_pos cb,if_pos (by omega),if_pos (by omega)]
  ·rw[if_neg cb]
   have h3:(401:Int)*1≤401*(b:Int):=Int.mul_le_mul_of_nonneg_left (by omega) (by omega)
   rw[if_pos (show 401<((a*b:Nat):Int) by omega)]
   split<;>omega
 ·rw[if_neg ca]
  by_cases cb:401<(b:Int)
  ·rw[if_pos cb]
   have h3:(1:Int)*401≤(a:Int)*401:=Int.mul_le_mul_of_nonneg_right (by omega) (by omega)
   rw[if_pos (show 401<((a*b:Nat):Int) by omega)]
   split<;>omega
  ·rw[if_neg cb,hab]
theorem ztb {a b:Nat}:cap (cap (a:Int)+cap (b:Int))=cap ((a+b:Nat):Int):=by
 unfold cap
 push_cast
 split<;>split<;>split<;>(try split)<;>omega
theorem ztc {x:Int}:cap (cap x)=cap x:=by unfold cap;split<;>(try split)<;>omega
theorem zpQ:∀(l:List Pat) (out:List (List Pat)),(∀k∈l,cntS k=cap ((zaz k).length:Int)∧0<(zaz k).length)→cntM l (cap (out.length:Int))=cap (((l.map zaz).foldl zbp out).length:Int)∧(0<out.length→0<((l.map zaz).foldl zbp out).length)
 | [],out,_=>⟨rfl,fun h=>h⟩
 |k::r,out,h=>by
  have hk:=h k (by simp)
  unfold cntM
  rw[hk.1,ztd]
  have:=zpQ r (zbp out (zaz k)) (fun x hx=>h x (by simp[hx]))
  rw[zfR] at this
  rw[List.map_cons,List.foldl_cons]
  exact⟨this.1,fun ho=>this.2 (Nat.mul_pos ho hk.2)⟩
theorem zk3:∀(n:Nat){p:Pat},binP n p=true→cntS p=cap ((zaz p).length:Int)∧0<(zaz p).length
 |0,p,h=>by simp[binP] at h
 |n+1,p,h=>by
  have ih:=fun i (hi:i<p.kids.length)=>zk3 n (zee h hi)
  rw[zmg]
  by_cases h5:p.op=5
  ·have hl:=zjB h h5
   rw[if_pos h5,zgZ h5 hl,List.length_append]
   have k0:=ih 0 (by omega)
   have k1:=ih 1 (by omega)
   have e:p.kids=[nth p.kids 0,nth p.kids 1]:=by
    match hk:p.kids,hl with
    | [a,b],_=>rfl
   refine⟨?_,by omega⟩
   rw[e]
   simp only[cntO]
   rw[Int.zero_add,k0.1,ztc,k1.1]
   show cap (cap ((zaz (nth p.kids 0)).length:Int)+cap ((zaz (nth p.kids 1)).length:Int))=_
   rw[ztb];rfl
  ·rw[if_neg h5,zeG h5,List.length_map]
   have:=zpQ p.kids [[]] (fun k hk=>by
    obtain⟨i,hi,rfl⟩:=List.getElem_of_mem hk
    have:=ih i hi
    simpa [nth,List.getD,hi] using this)
   exact⟨this.1,this.2 (by simp)⟩
theorem zgJ:∀(ls:List (List Pat)) (out:List (List Pat)),(∀l∈ls,0<l.length)→out.length≤(ls.foldl zbp out).length
 | [],out,_=>Nat.le_refl _
 |l::r,out,h=>by
  rw[List.foldl_cons]
  have h1:=zgJ r (zbp out l) (fun x hx=>h x (by simp[hx]))
  rw[zfR] at h1
  have h2:out.length≤out.length*l.length:=Nat.le_mul_of_pos_right _ (h l (by simp))
  omega
theorem ziB:∀(ls:List (List Pat)) (out:List (List Pat)),(∀l∈ls,0<l.length)→0<out.length→∀l∈ls,l.length≤(ls.foldl zbp out).length
 | [],out,_,_,l,hl=>by simp at hl
 |x::r,out,h,ho,l,hl=>by
  rw[List.foldl_cons]
  have hx:=h x (by simp)
  have hp:0<(zbp out x).length:=by rw[zfR];exact Nat.mul_pos ho hx
  rcases List.mem_cons.1 hl with rfl|hl
  ·have h1:=zgJ r (zbp out l) (fun y hy=>h y (by simp[hy]))
   rw[zfR] at h1
   have h2:l.length≤out.length*l.length:=Nat.le_mul_of_pos_left _ ho
   omega
  ·exact ziB r (zbp out x) (fun y hy=>h y (by simp[hy])) hp l hl
theorem zhn {n:Nat}{p:Pat} (h:binP (n+1) p=true){i:Nat} (hi:i<p.kids.length):(zaz (nth p.kids i)).length≤(zaz p).length:=by
 by_cases h5:p.op=5
 ·have hl:=zjB h h5
  rw[zgZ h5 hl,List.length_append]
  have:i=0∨i=1:=by omega
  rcases this with rfl|rfl<;>omega
 ·rw[zeG h5,List.length_map]
  refine ziB _ [[]] (fun l hl=>?_) (by simp) _ (List.mem_map.2 ⟨_,zaf hi,rfl⟩)
  obtain⟨k,hk,rfl⟩:=List.mem_map.1 hl
  obtain⟨j,hj,rfl⟩:=List.getElem_of_mem hk
  have:=(zk3 n (zee h hj)).2
  simpa [nth,List.getD,hj] using this
theorem zpH {n:Nat}{p:Pat} (h:binP (n+1) p=true) (h5:p.op≠5) (i:Nat):(zeA ((p.kids.take i).map zaz)).length≤(zaz p).length:=by
 rw[zeG h5,List.length_map]
 have e:p.kids.map zaz=(p.kids.take i).map zaz++(p.kids.drop i).map zaz:=by rw[←List.map_append,List.take_append_drop]
 unfold zeA
 rw[e,List.foldl_append]
 refine zgJ _ _ (fun l hl=>?_)
 obtain⟨k,hk,rfl⟩:=List.mem_map.1 hl
 obtain⟨j,hj,rfl⟩:=List.getElem_of_mem (List.mem_of_mem_drop hk)
 have:=(zk3 n (zee h hj)).2
 simpa [nth,List.getD,hj] using this
def zak (w:List Data):Nat→Ty→Pat→Bool
 |0,_,_=>false
 |n+1,t,p=>(ownP w t p&&decide (p.op=1∨p.op=3∨p.op=4))&&all2 (zak w n) (zad w t p) p.kids
theorem zka {α β:Type}{f g:α→β→Bool}:∀ {a:List α}{b:List β},(∀x∈a,∀y∈b,f x y=true→g x y=true)→all2 f a b=true→all2 g a b=true
 | [],[],_,_=>rfl
 |x::r,y::s,h,h2=>by
  simp only[all2,Bool.and_eq_true] at h2 ⊢
  exact⟨h x (by simp) y (by simp) h2.1,zka (fun a ha b hb=>h a (by simp[ha]) b (by simp[hb])) h2.2⟩
 | [],_::_,_,h2=>by simp[all2] at h2
 |_::_,[],_,h2=>by simp[all2] at h2
theorem zgf {w:List Data}:∀(n:Nat){t:Ty}{p:Pat},zak w n t p=true→zau w n t p=true
 |0,t,p,h=>by simp[zak] at h
 |n+1,t,p,h=>by
  unfold zak at h
  unfold zau
  simp only[Bool.and_eq_true] at h ⊢
  exact⟨h.1.1,zka (fun x _ y _ hh=>zgf n hh) h.2⟩
theorem zfN {w:List Data}:∀(n:Nat){t:Ty}{p:Pat},zak w n t p=true→zak w (n+1) t p=true
 |0,t,p,h=>by simp[zak] at h
 |n+1,t,p,h=>by
  unfold zak at h ⊢
  simp only[Bool.and_eq_true] at h ⊢
  exact⟨h.1,zka (fun x _ y _ hh=>zfN n hh) h.2⟩
theorem zca {w:List Data}{n:Nat}{t:Ty}{p:Pat} (h:zak w n t p=true):p.op=1∨p.op=3∨p.op=4:=by
 cases n with
 |zero=>simp[zak] at h
 |succ n=>unfold zak at h;simp only[Bool.and_eq_true] at h;exact of_decide_eq_true h.1.2
theorem zgQ {w:List Data}{n:Nat}{t:Ty}{p:Pat} (h:zak w n t p=true):ownP w t p=true∧p.kids.length=(zad w t p).length:=by
 cases n with
 |zero=>simp[zak] at h
 |succ n=>exact zbT (zgf _ h)
theorem zbr {w:List Data}{n:Nat}{t:Ty}{p:Pat} (h:zak w (n+1) t p=true){i:Nat} (hi:i<p.kids.length):zak w n (nth (zad w t p) i) (nth p.kids i)=true:=by
 have hl:=(zgQ h).2
 unfold zak at h
 simp only[Bool.and_eq_true] at h
 exact zsc hl.symm h.2 i (by omega)
theorem ztz {w:List Data}{t:Ty}{p:Pat}{l:List Pat}:ownP w t (.mk p.op p.ctor p.n p.m p.var l)=ownP w t p:=rfl
theorem zr6 {w:List Data}{t:Ty}{p:Pat}{l:List Pat}:zad w t (.mk p.op p.ctor p.n p.m p.var l)=zad w t p:=rfl
theorem zjg:∀(ls:List (List Pat)) (out:List (List Pat)) (l:List Pat),l∈ls.foldl zbp out→∃q∈out,∃r:List Pat,l=q++r∧r.length=ls.length∧∀i,i<ls.length→nth r i∈nth ls i
 | [],out,l,h=>⟨l,h,[],by simp,rfl,fun i hi=>by simp at hi⟩
 |x::rs,out,l,h=>by
  rw[List.foldl_cons] at h
  obtain⟨q,hq,r,e,hl,hm⟩:=zjg rs (zbp out x) l h
  unfold zbp at hq
  simp only[List.mem_flatMap,List.mem_map] at hq
  obtain⟨q0,hq0,c,hc,rfl⟩:=hq
  refine⟨q0,hq0,c::r,by rw[e];simp,by simp[hl],fun i hi=>?_⟩
  cases i with
  |zero=>exact hc
  |succ i=>exact hm i (by simpa using hi)
theorem ziO {w:List Data}{n:Nat}{t:Ty}:zak w (n+1) t anyQ=true:=by
 unfold zak
 have h1:zad w t anyQ=[]:=by unfold zad;rw[if_neg (by decide),if_neg (by decide),if_neg (by decide)]
 rw[h1]
 have h2:ownP w t anyQ=true:=by unfold ownP;exact decide_eq_true (by simp[anyQ,Pat.op,Pat.var,Pat.n,Pat.m,Pat.ctor])
 rw[h2];rfl
theorem zkJ:zaz anyQ=[anyQ]:=by
 rw[zeG (by decide)];rfl
theorem zqK {w:List Data}{n:Nat}{t:Ty}{p:Pat} (h:zau w (n+1) t p=true) (h4:p.op≠4) (h5:p.op≠5) (h6:p.op≠6):p.kids=[]:=by
 have hl:=(zbT h).2
 unfold zad at hl
 rw[if_neg h4,if_neg h5,if_neg h6] at hl
 exact List.eq_nil_of_length_eq_zero hl
theorem zgR {w:List Data}:∀(n:Nat){t:Ty}{p:Pat},zau w n t p=true→∀x∈zaz (zaM p),zak w n t x=true
 |0,t,p,h=>by simp[zau] at h
 |n+1,t,p,h=>by
  obtain⟨ho,hlen⟩:=zbT h
  have hop:=zsC h
  intro x hx
  rw[zfg] at hx
  by_cases h2:p.op=2
  ·rw[if_pos h2,zkJ,List.mem_singleton] at hx
   rw[hx];exact ziO
  rw[if_neg h2] at hx
  by_cases h6:p.op=6
  ·obtain⟨hl,s0⟩:=zjl h h6
   rw[if_pos ⟨h6,fun e=>by rw[e] at hl;simp at hl⟩] at hx
   exact zfN n (zgR n s0 x hx)
  rw[if_neg (fun h=>h6 h.1)] at hx
  by_cases h5:p.op=5
  ·obtain⟨hl,s0,s1⟩:=zjm h h5
   have hl2:(p.kids.map zaM).length=2:=by rw[List.length_map];exact hl
   rw[zgZ (p:= .mk p.op p.ctor p.n p.m p.var (p.kids.map zaM)) h5 hl2] at hx
   have e0:nth (p.kids.map zaM) 0=zaM (nth p.kids 0):=by
    match hk:p.kids,hl with
    | [a,b],_=>rfl
   have e1:nth (p.kids.map zaM) 1=zaM (nth p.kids 1):=by
    match hk:p.kids,hl with
    | [a,b],_=>rfl
   simp only[zdy] at hx
   rw[e0,e1] at hx
   rcases List.mem_append.1 hx with hx|hx
   ·exact zfN n (zgR n s0 x hx)
   ·exact zfN n (zgR n s1 x hx)
  rw[zeG (p:= .mk p.op p.ctor p.n p.m p.var (p.kids.map zaM)) h5] at hx
  simp only[zdy,zhc,zfn,mk_n,mk_m,zgO,List.mem_map] at hx
  obtain⟨l,hl,rfl⟩:=hx
  obtain⟨q,hq,r,e,hlr,hm⟩:=zjg _ _ _ hl
  rw[List.mem_singleton] at hq
  rw[hq,List.nil_append] at e
  subst e
  simp only[List.map_map,List.length_map] at hlr hm
  unfold zak
  rw[ztz,zr6,ho,decide_eq_true (show _∨_∨_ from by rw[zhc];omega),Bool.true_and,Bool.true_and]
  refine zcN (by rw[zdy];omega) (fun i hi=>?_)
  have hm':=hm i (by omega)
  have e2:nth (p.kids.map (zaz ∘ zaM)) i=zaz (zaM (nth p.kids i)):=by
   rw[za6 (by simp;omega)];simp[nth,List.getD,show i<p.kids.length by omega]
  rw[e2] at hm'
  exact zgR n (zbS h (by omega)) _ hm'
theorem Pats.ok_of:∀ {l:List Pat},(∀k∈l,k.ok)→Pats.ok l
 | [],_=>trivial
 |k::r,h=>⟨h k (by simp),Pats.ok_of (fun x hx=>h x (by simp[hx]))⟩
theorem Pats.size_of {m:Nat}:∀ {l:List Pat},(∀k∈l,k.size≤m)→Pats.size l≤l.length*m
 | [],_=>by simp[Pats.size]
 |k::r,h=>by
  have h1:=h k (by simp)
  have h2:=Pats.size_of (l:=r) (fun x hx=>h x (by simp[hx]))
  simp only[Pats.size,List.length_cons,Nat.succ_mul];omega
mutual
theorem zjA:∀p:Pat,p.ok→(zaM p).ok
 | .mk op c n m v ks,h=>by
  unfold zaM
  split
  ·exact⟨by simp,trivial⟩
  ·split
   ·exact zso ks h.2
   ·exact⟨by rw[zkb,List.length_map];exact h.1,zn4 ks h.2⟩
theorem zso:∀l:List Pat,Pats.ok l→(zjF l).ok
 | [],_=>⟨by simp,trivial⟩
 |k::r,h=>zjA k h.1
theorem zn4:∀l:List Pat,Pats.ok l→Pats.ok (zg6 l)
 | [],_=>trivial
 |k::r,h=>⟨zjA k h.1,zn4 r h.2⟩
end
mutual
theorem zmY:∀p:Pat,(zaM p).size≤p.size
 | .mk op c n m v ks=>by
  unfold zaM
  split
  ·simp[anyQ,Pat.size,Pats.size]
  ·split
   ·have:=zqt ks;simp only[Pat.size];omega
   ·have:=zkK ks;simp only[Pat.size];omega
theorem zqt:∀l:List Pat,(zjF l).size≤1+Pats.size l
 | []=>by simp[zjF,anyQ,Pat.size,Pats.size]
 |k::r=>by have:=zmY k;simp only[zjF,Pats.size];omega
theorem zkK:∀l:List Pat,Pats.size (zg6 l)≤Pats.size l
 | []=>Nat.le_refl _
 |k::r=>by have:=zmY k;have:=zkK r;simp only[zg6,Pats.size];omega
end
theorem Pat.cs_cd (l:List Pat):Pat.cs l=l.map Pat.cc:=by
 rw[Pat.cs_eq];exact List.map_congr_left (fun v _=>Pat.c_eq v)
theorem zbb (l:List Pat):∀x∈Pat.cs l,x.length=6:=Pat.cs_rows
theorem zby (l:List Pat):∀x∈l.map Pat.cc,x.length=6:=fun x hx=>by
 obtain⟨y,_,rfl⟩:=List.mem_map.1 hx;rfl
theorem zpK {p:Pat} (h:p.op=2):zaM p=anyQ:=by rw[zfg,if_pos h]
theorem zpL {p:Pat} (h:p.op=6) (h2:0<p.kids.length):zaM p=zaM (nth p.kids 0):=by
 rw[zfg,if_neg (by omega),if_pos ⟨h,fun e=>by rw[e] at h2;simp at h2⟩]
theorem zpM {p:Pat} (h:p.op≠2) (h2:¬(p.op=6∧0<p.kids.length)):zaM p = .mk p.op p.ctor p.n p.m p.var (p.kids.map zaM):=by
 rw[zfg,if_neg h,if_neg (fun hh=>h2 ⟨hh.1,List.length_pos_iff.2 hh.2⟩)]
theorem zd5:∀(n:Nat){p:Pat},p.size≤n→p.ok→FnD Tryz.prog 100 [.agg [.d (.i p.op),.d (.i p.ctor),.d (.i p.n),.d (.i p.m),.d (.i p.var),.d (zae p.kids)]] [] (.agg [.d (.i p.op),.d (.i p.ctor),.d (.i p.n),.d (.i p.m),.d (.i p.var),.d (zae p.kids)]) []
 |0,p,h,_=>by rw[Pat.size_eq] at h;omega
 |n+1,p,h,hok=>by
  rw[Pat.size_eq] at h
  rw[Pat.ok_iff] at hok
  have hok1:=hok.1
  refine bd Tryz.f100 24 [] [] fun w0 F0 own kept hk=>?_
  refine Walk.box (id:=3001) .none rfl rfl rfl rfl rfl rfl rfl ?_
  refine Walk.alloc (id:=3002) tz56 rfl .none rfl rfl rfl rfl ?_
  refine tv ?_
  refine Walk.store ty45 .none rfl rfl rfl rfl rfl rfl (by simp) rfl ?_
  refine tv ?_
  refine CWp.tokB 3001 5 7 6 rfl rfl rfl rfl ?_
  refine CWp.loopX (ι:=List (Pat)×List (Pat)) hk (fun x=>[(11,.d (.i (x.1.length:Int)))]) [5,12,13,14,15,16,17,18,19,20,21,22] (fun x=>[(3001,some (.box [.d (.i p.op),.d (.i p.ctor),.d (.i p.n),.d (.i p.m),.d (.i p.var),.gl 7 (x.1.map Pat.cc)])),(7,some (.tok (x.1.map Pat.cc).length 6))]) (fun x=>x.1++x.2=p.kids) (fun x=>x.2.length) ([],p.kids) (by simp) ⟨⟨_,rfl,LeA.eqi ?_⟩,trivial⟩ ⟨?_,⟨zaa ?_,trivial⟩⟩ (fun x=>rfl) (fun x hg1=>?_)
  focus (first|rfl|(simp;done)|(simp_all;done)|omega|(simp;omega))
  focus (first|rfl|(simp[getH];done))
  focus (first|rfl|(simp;done)|(simp_all;done)|omega|(simp;omega))
  obtain⟨pre,rest⟩:=x
  dsimp only at hg1 ⊢
  refine evc [] [] ?_
  refine sq (fun h1 h1p h1s=>?_) fun h1 h1p h1s=>?_
  try simp only[Q,Pat.cs_len] at h1p
  rcases rest with _|⟨y,rest⟩
  ·exfalso;simp_all
  refine Walk.idx sl45 .none rfl rfl rfl rfl (Pat.cs_at' hg1) rfl ?_
  refine ev ?_
  refine Walk.alloc (id:=3005) tz56 rfl .none rfl rfl rfl rfl ?_
  refine Walk.store ty56 .none rfl rfl rfl rfl rfl rfl (by simp) rfl ?_
  refine tv ?_
  refine wc zn7 (zd5 n (p:=y) (by have:=Pats.size_mem (l:=p.kids) (v:=y) (by rw[←hg1];simp);omega) (Pats.ok_mem hok.2 y (by rw[←hg1];simp))) rfl rfl ?_
  refine Walk.sliceLit sl45 tz56 rfl (by decide) (ks:=[0]) (xs:=[_]) rfl rfl (by decide) (by decide) .none rfl rfl rfl rfl ?_
  refine Walk.append sl45 zz56 rfl .none rfl rfl rfl rfl (zaw rfl (by first|rfl|(simp;done)|(simp;omega))) (by intro x hx;first|(simp at hx;subst hx;rfl)|exact zby _ x hx) (by have:=congrArg List.length hg1;simp at this;simp;omega) (by have:=congrArg List.length hg1;simp at this;simp;omega) ?_
  refine evd [] [] ?_
  refine Walk.store ty45 .none rfl rfl rfl rfl rfl rfl (by simp) rfl ?_
  refine dr ?_
  refine ar ?_
  refine Exists.intro ((pre++[y],rest)) ⟨(by have hz:=hg1;rw[←hz];simp),(by simp),sx ⟨⟨_,rfl,LeA.eqi ?_⟩,trivial⟩ ⟨?_,⟨zaa ?_,trivial⟩⟩⟩
  focus (first|rfl|(simp;done)|(simp_all;done)|omega|(simp;omega))
  focus (first|rfl|(simp[getH];done))
  focus (first|rfl|(simp;done)|(simp_all;done)|omega|(simp;omega))
  try simp only[Q,Pat.cs_len] at h1p
  have hrest:rest=[]:=by
   rcases rest with _|⟨a,b⟩
   ·rfl
   ·exfalso;have hz:=congrArg List.length (hg1);simp only[List.length_append,List.length_cons,List.length_map] at hz;omega
  subst hrest
  refine Walk.store ty56 .none rfl rfl rfl rfl rfl rfl (by simp) rfl ?_
  refine tv ?_
  refine rn0 (.cons (.cellA ty56 rfl rfl rfl) .nil) (.agg (.cons (.eqd ?_) (.cons (.eqd ?_) (.cons (.eqd ?_) (.cons (.eqd ?_) (.cons (.eqd ?_) (.cons (.gld ?_) .nil)))))))
  rotate_left 6
  all_goals (first|rfl|(rw[List.append_nil] at hg1;rw[←hg1,Pat.cs_cd];done))
theorem ziJ {l:List Pat} (h:l.length≤1000000000000) (hok:∀p∈l,p.ok):FnD Tryz.prog 120 [.d (zae l)] [] (.d (zae l)) []:=by
 refine bd Tryz.f120 19 [3] [] fun w0 F0 own kept hk=>?_
 refine Walk.assignNil 1 6 .none rfl rfl ?_
 refine tv ?_
 refine CWp.loopX (ι:=List (Pat)×List (Pat)) hk (fun x=>[(8,.d (.i (x.1.length:Int))),(3,.gl 1 (x.1.map Pat.cc))]) [5,9,10,11,12,13,14,15,16,17] (fun x=>[(1,some (.tok ((x.1.map Pat.cc)).length 6))]) (fun x=>x.1++x.2=l) (fun x=>x.2.length) ([],l) (by simp) ⟨⟨_,rfl,LeA.eqi ?_⟩,⟨⟨_,rfl,LeA.glg ?_⟩,trivial⟩⟩ ⟨zaa ?_,trivial⟩ (fun x=>rfl) (fun x hg1=>?_)
 iterate 3 focus (first|rfl|(simp;done)|(simp_all;done)|omega|(simp;omega))
 obtain⟨pre,rest⟩:=x
 dsimp only at hg1 ⊢
 refine evc [3] [] ?_
 refine sq (fun h1 h1p h1s=>?_) fun h1 h1p h1s=>?_
 try simp only[Q,Pat.cs_len] at h1p
 rcases rest with _|⟨y,rest⟩
 ·exfalso;simp_all
 refine Walk.idx sl45 .none rfl rfl rfl rfl (Pat.cs_at' hg1) rfl ?_
 refine evs [3] [] ?_
 refine Walk.alloc (id:=3005) tz56 rfl .none rfl rfl rfl rfl ?_
 refine Walk.store ty56 .none rfl rfl rfl rfl rfl rfl (by simp) rfl ?_
 refine tv ?_
 refine wc zn7 (zd5 _ (Nat.le_refl _) (hok y (by rw[←hg1];simp))) rfl rfl ?_
 refine Walk.sliceLit sl45 tz56 rfl (by decide) (ks:=[0]) (xs:=[_]) rfl rfl (by decide) (by decide) .none rfl rfl rfl rfl ?_
 refine Walk.append sl45 zz56 rfl .none rfl rfl rfl rfl (zaw rfl (by first|rfl|(simp;done)|(simp;omega))) (by intro x hx;simp at hx;subst hx;rfl) (by have:=congrArg List.length hg1;simp at this;simp;omega) (by have:=congrArg List.length hg1;simp at this;simp;omega) ?_
 refine asg ?_
 refine tv ?_
 refine ar ?_
 refine Exists.intro ((pre++[y],rest)) ⟨(by have hz:=hg1;rw[←hz];simp),(by simp),sx ⟨⟨_,rfl,LeA.eqi ?_⟩,⟨⟨_,rfl,LeA.glg ?_⟩,trivial⟩⟩ ⟨zaa ?_,trivial⟩⟩
 iterate 3 focus (first|rfl|(simp;done)|(simp_all;done)|omega|(simp;omega))
 try simp only[Q,Pat.cs_len] at h1p
 have hrest:rest=[]:=by
  rcases rest with _|⟨a,b⟩
  ·rfl
  ·exfalso;have hz:=congrArg List.length (hg1);simp only[List.length_append,List.length_cons,List.length_map] at hz;omega
 subst hrest
 refine rn0 (r1 rfl) (.gld ?_)
 rotate_left
 all_goals (first|rfl|(rw[List.append_nil] at hg1;rw[←hg1,Pat.cs_cd];done))
theorem zcF:FnD Tryz.prog 53 [] [] (.agg [.d (.i 1),.d (.i 0),.d (.i 0),.d (.i 0),.d (.i 0),.d (.sl [])]) []:=by
 refine bd Tryz.f53 2 [] [] fun w0 F0 own kept hk=>?_
 refine Walk.alloc (id:=3000) tz56 rfl .none rfl rfl rfl rfl ?_
 refine tv ?_
 refine Walk.build st56 (ks:=[0]) (xs:=[_]) rfl rfl .none rfl rfl rfl ?_
 refine Walk.store ty56 .none rfl rfl rfl rfl rfl rfl (by simp) rfl ?_
 refine tv ?_
 focus (refine rn0 (.cons (.cellA ty56 rfl rfl rfl) .nil) (.agg (.cons (.eqd ?_) (.cons (.eqd ?_) (.cons (.eqd ?_) (.cons (.eqd ?_) (.cons (.eqd ?_) (.cons (.nild ?_) .nil)))))));all_goals (first|rfl|(simp[];done)|(simp_all;done)|(simp_all;omega)|omega))
theorem zc5:∀(n:Nat){p:Pat},p.size≤n→p.ok→FnD Tryz.prog 178 [.agg [.d (.i p.op),.d (.i p.ctor),.d (.i p.n),.d (.i p.m),.d (.i p.var),.d (zae p.kids)]] [] (.agg [.d (.i (zaM p).op),.d (.i (zaM p).ctor),.d (.i (zaM p).n),.d (.i (zaM p).m),.d (.i (zaM p).var),.d (zae (zaM p).kids)]) []
 |0,p,h,_=>by rw[Pat.size_eq] at h;omega
 |n+1,p,h,hok=>by
  rw[Pat.size_eq] at h
  rw[Pat.ok_iff] at hok
  have hok1:=hok.1
  by_cases h2:p.op=2
  ·rw[zpK h2]
   refine bd Tryz.f178 44 [] [] fun w0 F0 own kept hk=>?_
   refine Walk.box (id:=3001) .none rfl rfl rfl rfl rfl rfl rfl ?_
   refine Walk.alloc (id:=3002) tz56 rfl .none rfl rfl rfl rfl ?_
   refine tv ?_
   refine sq (fun h1 h1p h1s=>?_) fun h1 h1p h1s=>?_
   try simp only[Q] at h1p
   refine wc zkY (zcF) rfl rfl ?_
   refine Walk.store ty56 .none rfl rfl rfl rfl rfl rfl (by simp) rfl ?_
   refine tv ?_
   refine rn0 (.cons (.cellA ty56 rfl rfl rfl) .nil) (.agg (.cons (.eqd ?_) (.cons (.eqd ?_) (.cons (.eqd ?_) (.cons (.eqd ?_) (.cons (.eqd ?_) (.cons (.eqd ?_) .nil)))))))
   rotate_left 6
   try simp only[Q] at h1p
   exfalso;omega
   all_goals (rfl)
  by_cases h6:p.op=6∧0<p.kids.length
  ·rw[zpL h6.1 h6.2]
   refine bd Tryz.f178 44 [] [] fun w0 F0 own kept hk=>?_
   refine Walk.box (id:=3001) .none rfl rfl rfl rfl rfl rfl rfl ?_
   refine Walk.alloc (id:=3002) tz56 rfl .none rfl rfl rfl rfl ?_
   refine tv ?_
   refine sq (fun h1 h1p h1s=>?_) fun h1 h1p h1s=>?_
   try simp only[Q,Pat.cs_len] at h1p
   exfalso;omega
   try simp only[Q,Pat.cs_len] at h1p
   refine sq (fun h2 h2p h2s=>?_) fun h2 h2p h2s=>?_
   try simp only[Q,Pat.cs_len] at h2p
   refine sq (fun h3 h3p h3s=>?_) fun h3 h3p h3s=>?_
   try simp only[Q,Pat.cs_len] at h3p
   refine Walk.idx (i:=0) sl45 .none rfl rfl rfl rfl (zaH h6.2) rfl ?_
   refine ev ?_
   refine wc ziT (zc5 n (p:=nth p.kids 0) (by have:=Pats.size_mem (zaf h6.2);omega) (Pats.ok_mem hok.2 _ (zaf h6.2))) rfl rfl ?_
   refine Walk.store ty56 .none rfl rfl rfl rfl rfl rfl (by simp) rfl ?_
   refine tv ?_
   refine rn0 (.cons (.cellA ty56 rfl rfl rfl) .nil) (.agg (.cons (.eqd ?_) (.cons (.eqd ?_) (.cons (.eqd ?_) (.cons (.eqd ?_) (.cons (.eqd ?_) (.cons (.eqd ?_) .nil)))))))
   rotate_left 6
   try simp only[Q,Pat.cs_len] at h3p
   focus (exfalso;first|omega|(simp_all;done))
   try simp only[Q,Pat.cs_len] at h2p
   exfalso;omega
   all_goals (rfl)
  ·rw[zpM h2 h6]
   refine bd Tryz.f178 44 [] [] fun w0 F0 own kept hk=>?_
   refine Walk.box (id:=3001) .none rfl rfl rfl rfl rfl rfl rfl ?_
   refine Walk.alloc (id:=3002) tz56 rfl .none rfl rfl rfl rfl ?_
   refine tv ?_
   refine sq (fun h1 h1p h1s=>?_) fun h1 h1p h1s=>?_
   try simp only[Q,Pat.cs_len] at h1p
   exfalso;omega
   try simp only[Q,Pat.cs_len] at h1p
   refine sq (fun h2 h2p h2s=>?_) fun h2 h2p h2s=>?_
   try simp only[Q,Pat.cs_len] at h2p
   refine sq (fun h3 h3p h3s=>?_) fun h3 h3p h3s=>?_
   try simp only[Q,Pat.cs_len] at h3p
   focus (exfalso;apply h6;first|omega|(simp_all;done))
   try simp only[Q,Pat.cs_len] at h3p
   refine Walk.store ty45 .none rfl rfl rfl rfl rfl rfl (by simp) rfl ?_
   refine tv ?_
   refine CWp.tokB 3001 5 7 6 rfl rfl rfl rfl ?_
   refine CWp.loopX (ι:=List (Pat)×List (Pat)) hk (fun x=>[(31,.d (.i (x.1.length:Int)))]) [5,32,33,34,35,36,37,38,39,40,41,42] (fun x=>[(3001,some (.box [.d (.i p.op),.d (.i p.ctor),.d (.i p.n),.d (.i p.m),.d (.i p.var),.gl 7 ((x.1.map zaM).map Pat.cc)])),(7,some (.tok ((x.1.map zaM).map Pat.cc).length 6))]) (fun x=>x.1++x.2=p.kids) (fun x=>x.2.length) ([],p.kids) (by simp) ⟨⟨_,rfl,LeA.eqi ?_⟩,trivial⟩ ⟨?_,⟨zaa ?_,trivial⟩⟩ (fun x=>rfl) (fun x hg1=>?_)
   focus (first|rfl|(simp;done)|(simp_all;done)|omega|(simp;omega))
   focus (first|rfl|(simp[getH];done))
   focus (first|rfl|(simp;done)|(simp_all;done)|omega|(simp;omega))
   obtain⟨pre,rest⟩:=x
   dsimp only at hg1 ⊢
   refine evc [] [] ?_
   refine sq (fun h4 h4p h4s=>?_) fun h4 h4p h4s=>?_
   try simp only[Q,Pat.cs_len] at h4p
   rcases rest with _|⟨y,rest⟩
   ·exfalso;simp_all
   refine Walk.idx sl45 .none rfl rfl rfl rfl (Pat.cs_at' hg1) rfl ?_
   refine ev ?_
   refine Walk.alloc (id:=3005) tz56 rfl .none rfl rfl rfl rfl ?_
   refine Walk.store ty56 .none rfl rfl rfl rfl rfl rfl (by simp) rfl ?_
   refine tv ?_
   refine wc ziT (zc5 n (p:=y) (by have:=Pats.size_mem (l:=p.kids) (v:=y) (by rw[←hg1];simp);omega) (Pats.ok_mem hok.2 y (by rw[←hg1];simp))) rfl rfl ?_
   refine Walk.sliceLit sl45 tz56 rfl (by decide) (ks:=[0]) (xs:=[_]) rfl rfl (by decide) (by decide) .none rfl rfl rfl rfl ?_
   refine Walk.append sl45 zz56 rfl .none rfl rfl rfl rfl (zaw rfl (by first|rfl|(simp;done)|(simp;omega))) (by intro x hx;first|(simp at hx;subst hx;rfl)|exact zby _ x hx) (by have:=congrArg List.length hg1;simp at this;simp;omega) (by have:=congrArg List.length hg1;simp at this;simp;omega) ?_
   refine evd [] [] ?_
   refine Walk.store ty45 .none rfl rfl rfl rfl rfl rfl (by simp) rfl ?_
   refine dr ?_
   refine ar ?_
   refine Exists.intro ((pre++[y],rest)) ⟨(by have hz:=hg1;rw[←hz];simp),(by simp),sx ⟨⟨_,rfl,LeA.eqi ?_⟩,trivial⟩ ⟨?_,⟨zaa ?_,trivial⟩⟩⟩
   focus (first|rfl|(simp;done)|(simp_all;done)|omega|(simp;omega))
   focus (first|rfl|(simp[getH];done))
   focus (first|rfl|(simp;done)|(simp_all;done)|omega|(simp;omega))
   try simp only[Q,Pat.cs_len] at h4p
   have hrest:rest=[]:=by
    rcases rest with _|⟨a,b⟩
    ·rfl
    ·exfalso;have hz:=congrArg List.length (hg1);simp only[List.length_append,List.length_cons,List.length_map] at hz;omega
   subst hrest
   refine Walk.store ty56 .none rfl rfl rfl rfl rfl rfl (by simp) rfl ?_
   refine tv ?_
   refine rn0 (.cons (.cellA ty56 rfl rfl rfl) .nil) (.agg (.cons (.eqd ?_) (.cons (.eqd ?_) (.cons (.eqd ?_) (.cons (.eqd ?_) (.cons (.eqd ?_) (.cons (.gld ?_) .nil)))))))
   rotate_left 6
   try simp only[Q,Pat.cs_len] at h2p
   refine sqF ?_
   refine Walk.store ty45 .none rfl rfl rfl rfl rfl rfl (by simp) rfl ?_
   refine tv ?_
   refine CWp.tokB 3001 5 7 6 rfl rfl rfl rfl ?_
   refine CWp.loopX (ι:=List (Pat)×List (Pat)) hk (fun x=>[(31,.d (.i (x.1.length:Int)))]) [5,32,33,34,35,36,37,38,39,40,41,42] (fun x=>[(3001,some (.box [.d (.i p.op),.d (.i p.ctor),.d (.i p.n),.d (.i p.m),.d (.i p.var),.gl 7 ((x.1.map zaM).map Pat.cc)])),(7,some (.tok ((x.1.map zaM).map Pat.cc).length 6))]) (fun x=>x.1++x.2=p.kids) (fun x=>x.2.length) ([],p.kids) (by simp) ⟨⟨_,rfl,LeA.eqi ?_⟩,trivial⟩ ⟨?_,⟨zaa ?_,trivial⟩⟩ (fun x=>rfl) (fun x hg1=>?_)
   focus (first|rfl|(simp;done)|(simp_all;done)|omega|(simp;omega))
   focus (first|rfl|(simp[getH];done))
   focus (first|rfl|(simp;done)|(simp_all;done)|omega|(simp;omega))
   obtain⟨pre,rest⟩:=x
   dsimp only at hg1 ⊢
   refine evc [] [] ?_
   refine sq (fun h6 h6p h6s=>?_) fun h6 h6p h6s=>?_
   try simp only[Q,Pat.cs_len] at h6p
   rcases rest with _|⟨y,rest⟩
   ·exfalso;simp_all
   refine Walk.idx sl45 .none rfl rfl rfl rfl (Pat.cs_at' hg1) rfl ?_
   refine ev ?_
   refine Walk.alloc (id:=3005) tz56 rfl .none rfl rfl rfl rfl ?_
   refine Walk.store ty56 .none rfl rfl rfl rfl rfl rfl (by simp) rfl ?_
   refine tv ?_
   refine wc ziT (zc5 n (p:=y) (by have:=Pats.size_mem (l:=p.kids) (v:=y) (by rw[←hg1];simp);omega) (Pats.ok_mem hok.2 y (by rw[←hg1];simp))) rfl rfl ?_
   refine Walk.sliceLit sl45 tz56 rfl (by decide) (ks:=[0]) (xs:=[_]) rfl rfl (by decide) (by decide) .none rfl rfl rfl rfl ?_
   refine Walk.append sl45 zz56 rfl .none rfl rfl rfl rfl (zaw rfl (by first|rfl|(simp;done)|(simp;omega))) (by intro x hx;first|(simp at hx;subst hx;rfl)|exact zby _ x hx) (by have:=congrArg List.length hg1;simp at this;simp;omega) (by have:=congrArg List.length hg1;simp at this;simp;omega) ?_
   refine evd [] [] ?_
   refine Walk.store ty45 .none rfl rfl rfl rfl rfl rfl (by simp) rfl ?_
   refine dr ?_
   refine ar ?_
   refine Exists.intro ((pre++[y],rest)) ⟨(by have hz:=hg1;rw[←hz];simp),(by simp),sx ⟨⟨_,rfl,LeA.eqi ?_⟩,trivial⟩ ⟨?_,⟨zaa ?_,trivial⟩⟩⟩
   focus (first|rfl|(simp;done)|(simp_all;done)|omega|(simp;omega))
   focus (first|rfl|(simp[getH];done))
   focus (first|rfl|(simp;done)|(simp_all;done)|omega|(simp;omega))
   try simp only[Q,Pat.cs_len] at h6p
   have hrest:rest=[]:=by
    rcases rest with _|⟨a,b⟩
    ·rfl
    ·exfalso;have hz:=congrArg List.length (hg1);simp only[List.length_append,List.length_cons,List.length_map] at hz;omega
   subst hrest
   refine Walk.store ty56 .none rfl rfl rfl rfl rfl rfl (by simp) rfl ?_
   refine tv ?_
   refine rn0 (.cons (.cellA ty56 rfl rfl rfl) .nil) (.agg (.cons (.eqd ?_) (.cons (.eqd ?_) (.cons (.eqd ?_) (.cons (.eqd ?_) (.cons (.eqd ?_) (.cons (.gld ?_) .nil)))))))
   rotate_left 6
   all_goals (first|rfl|(rw[List.append_nil] at hg1;rw[←hg1,Pat.cs_cd];done)|(rw[List.append_nil] at hg1;subst hg1;rw[←Pat.cs_cd];all_goals rfl))
theorem zd3:∀(n:Nat){p:Pat},p.size≤n→p.ok→FnD Tryz.prog 179 [.agg [.d (.i p.op),.d (.i p.ctor),.d (.i p.n),.d (.i p.m),.d (.i p.var),.d (zae p.kids)]] [] (.d (.i (cntS p))) []
 |0,p,h,_=>by rw[Pat.size_eq] at h;omega
 |n+1,p,h,hok=>by
  rw[Pat.size_eq] at h
  rw[Pat.ok_iff] at hok
  have hok1:=hok.1
  have hbd:=fun i=>zmf (nth p.kids i)
  by_cases h5:p.op=5
  ·rw[zmg,if_pos h5]
   refine bd Tryz.f179 31 [] [] fun w0 F0 own kept hk=>?_
   refine Walk.box (id:=3001) .none rfl rfl rfl rfl rfl rfl rfl ?_
   refine ev ?_
   refine sq (fun h1 h1p h1s=>?_) fun h1 h1p h1s=>?_
   try simp only[Q,Pat.cs_len] at h1p
   refine CWp.loopX (ι:=Nat×Int) hk (fun x=>[(12,.d (.i (x.1:Int))),(3,.d (.i x.2))]) [5,13,14,15,16,17,18,19,20,21,22,23,24,25,26,27,28,29] (fun x=>[]) (fun x=>x.1≤p.kids.length∧cntO (p.kids.drop x.1) x.2=cntO p.kids 0∧0≤x.2∧x.2≤401) (fun x=>p.kids.length-x.1) (0,0) ⟨by simp,rfl,by simp,by simp⟩ ⟨⟨_,rfl,LeA.eqi ?_⟩,⟨⟨_,rfl,LeA.eqi ?_⟩,trivial⟩⟩ trivial (fun x=>rfl) (fun x hg1=>?_)
   iterate 2 focus (first|rfl|(dsimp only;omega)|(simp;done))
   refine evc [] [] ?_
   refine sq (fun h2 h2p h2s=>?_) fun h2 h2p h2s=>?_
   try simp only[Q,Pat.cs_len] at h2p
   refine Walk.idx sl45 .none rfl rfl rfl rfl (zaH (by omega)) rfl ?_
   refine ev ?_
   refine Walk.alloc (id:=3005) tz56 rfl .none rfl rfl rfl rfl ?_
   refine Walk.store ty56 .none rfl rfl rfl rfl rfl rfl (by simp) rfl ?_
   refine tv ?_
   refine sq (fun h3 h3p h3s=>?_) fun h3 h3p h3s=>?_
   try simp only[Q,Pat.cs_len] at h3p
   refine wc zkN (zd3 n (p:=nth p.kids x.1) (by have:=Pats.size_mem (zaf (l:=p.kids) (i:=x.1) (by omega));omega) (Pats.ok_mem hok.2 _ (zaf (by omega)))) rfl rfl ?_
   refine ev ?_
   refine ar ?_ (by first|(constructor<;>omega)|(have hb:=hbd x.1;constructor<;>omega)|(constructor<;>simp[Pat.cs_len]<;>omega))
   refine Walk.minI .none rfl rfl rfl ?_
   refine ev ?_
   refine ar ?_ (by first|(constructor<;>omega)|(have hb:=hbd x.1;constructor<;>omega)|(constructor<;>simp[Pat.cs_len]<;>omega))
   refine Exists.intro ((x.1+1,cap (x.2+cntS (nth p.kids x.1)))) ⟨(by
        have hb:=hbd x.1
        have hc:=zkZ (x:=x.2+cntS (nth p.kids x.1)) (by omega)
        exact⟨by dsimp only;omega,by dsimp only;rw[←zrn (by omega)];exact hg1.2.1,hc.1,hc.2⟩),(by dsimp only;omega),sx ⟨⟨_,rfl,LeA.eqi ?_⟩,⟨⟨_,rfl,LeA.eqi ?_⟩,trivial⟩⟩ trivial⟩
   iterate 2 focus (first|rfl|(dsimp only;omega)|(simp;done))
   try simp only[Q,Pat.cs_len] at h3p
   exfalso;omega
   try simp only[Q,Pat.cs_len] at h2p
   refine rn0 (r1 rfl) (.eqd ?_)
   rotate_left
   try simp only[Q,Pat.cs_len] at h1p
   exfalso;omega
   all_goals (refine congrArg D.i ?_;rw[←hg1.2.1,List.drop_eq_nil_of_le (by omega)];rfl)
  ·rw[zmg,if_neg h5]
   refine bd Tryz.f179 31 [] [] fun w0 F0 own kept hk=>?_
   refine Walk.box (id:=3001) .none rfl rfl rfl rfl rfl rfl rfl ?_
   refine ev ?_
   refine sq (fun h1 h1p h1s=>?_) fun h1 h1p h1s=>?_
   try simp only[Q,Pat.cs_len] at h1p
   exfalso;omega
   try simp only[Q,Pat.cs_len] at h1p
   refine CWp.loopX (ι:=Nat×Int) hk (fun x=>[(12,.d (.i (x.1:Int))),(3,.d (.i x.2))]) [5,13,14,15,16,17,18,19,20,21,22,23,24,25,26,27,28,29] (fun x=>[]) (fun x=>x.1≤p.kids.length∧cntM (p.kids.drop x.1) x.2=cntM p.kids 1∧0≤x.2∧x.2≤401) (fun x=>p.kids.length-x.1) (0,1) ⟨by simp,rfl,by simp,by simp⟩ ⟨⟨_,rfl,LeA.eqi ?_⟩,⟨⟨_,rfl,LeA.eqi ?_⟩,trivial⟩⟩ trivial (fun x=>rfl) (fun x hg1=>?_)
   iterate 2 focus (first|rfl|(dsimp only;omega)|(simp;done))
   refine evc [] [] ?_
   refine sq (fun h2 h2p h2s=>?_) fun h2 h2p h2s=>?_
   try simp only[Q,Pat.cs_len] at h2p
   refine Walk.idx sl45 .none rfl rfl rfl rfl (zaH (by omega)) rfl ?_
   refine ev ?_
   refine Walk.alloc (id:=3005) tz56 rfl .none rfl rfl rfl rfl ?_
   refine Walk.store ty56 .none rfl rfl rfl rfl rfl rfl (by simp) rfl ?_
   refine tv ?_
   refine sq (fun h3 h3p h3s=>?_) fun h3 h3p h3s=>?_
   try simp only[Q,Pat.cs_len] at h3p
   exfalso;omega
   try simp only[Q,Pat.cs_len] at h3p
   refine wc zkN (zd3 n (p:=nth p.kids x.1) (by have:=Pats.size_mem (zaf (l:=p.kids) (i:=x.1) (by omega));omega) (Pats.ok_mem hok.2 _ (zaf (by omega)))) rfl rfl ?_
   refine ev ?_
   refine ar ?_ (by first|(constructor<;>omega)|(have hb:=hbd x.1;have h3:=Int.mul_le_mul hg1.2.2.2 hb.2 hb.1 (by omega);have h4:=Int.mul_nonneg hg1.2.2.1 hb.1;constructor<;>omega)|(constructor<;>simp[Pat.cs_len]<;>omega))
   refine Walk.minI .none rfl rfl rfl ?_
   refine ev ?_
   refine ar ?_ (by first|(constructor<;>omega)|(have hb:=hbd x.1;have h3:=Int.mul_le_mul hg1.2.2.2 hb.2 hb.1 (by omega);have h4:=Int.mul_nonneg hg1.2.2.1 hb.1;constructor<;>omega)|(constructor<;>simp[Pat.cs_len]<;>omega))
   refine Exists.intro ((x.1+1,cap (x.2*cntS (nth p.kids x.1)))) ⟨(by
        have hb:=hbd x.1
        have hc:=zkZ (x:=x.2*cntS (nth p.kids x.1)) (Int.mul_nonneg hg1.2.2.1 hb.1)
        exact⟨by dsimp only;omega,by dsimp only;rw[←zrm (by omega)];exact hg1.2.1,hc.1,hc.2⟩),(by dsimp only;omega),sx ⟨⟨_,rfl,LeA.eqi ?_⟩,⟨⟨_,rfl,LeA.eqi ?_⟩,trivial⟩⟩ trivial⟩
   iterate 2 focus (first|rfl|(dsimp only;omega)|(simp;done))
   try simp only[Q,Pat.cs_len] at h2p
   refine rn0 (r1 rfl) (.eqd ?_)
   rotate_left
   all_goals (refine congrArg D.i ?_;rw[←hg1.2.1,List.drop_eq_nil_of_le (by omega)];rfl)
theorem zfe {xs:List Pat} (hs:xs.length≤1000000000000):FnD Tryz.prog 184 [.d (zae xs)] [] (.gl 77 (Pat.cs xs)) [(77,some (.tok (Pat.cs xs).length 6))]:=by
 refine Fn.body (fn:=Tryz.f184) (n:=8) rfl rfl rfl rfl rfl (fun w0 F0 own kept hk=>?_)
 refine CWp.splitNil 0 rfl (fun hx0=>?_) ?_
 refine evc [2,4] [] ?_
 refine asg ?_
 refine tv ?_
 refine Walk.eqNilT sl45 .none rfl rfl ?_
 refine tv ?_
 refine sqT ?_
 refine Walk.assignNil 77 6 .none rfl rfl ?_
 refine tv ?_
 refine rn [(77,some (.tok (Pat.cs xs).length 6))] (r1 rfl) (.glg ?_) ⟨rfl,rfl⟩ (SubH.get ⟨?_,trivial⟩) (zaB rfl)
 rotate_left 2
 refine evc [2,4] [] ?_
 refine asg ?_
 refine tv ?_
 refine Walk.eqNilF sl45 .none rfl rfl ?_
 refine tv ?_
 refine sqF ?_
 refine Walk.sliceEmptyG 77 sl45 .none rfl rfl ?_
 refine evs [2,4] [] ?_
 refine Walk.append sl45 zz56 rfl .none rfl rfl rfl rfl (zaw rfl (by first|rfl|(simp;done)|(simp;omega))) (by intro y hy;rw[Pat.cs_cd] at hy;obtain⟨z,_,rfl⟩:=List.mem_map.1 hy;rfl) (by simp[Pat.cs_len];omega) (by simp[Pat.cs_len];omega) ?_
 refine asg ?_
 refine tv ?_
 refine rn [(77,some (.tok (Pat.cs xs).length 6))] (r1 rfl) (.glg ?_) ⟨rfl,rfl⟩ (SubH.get ⟨?_,trivial⟩) (zaB rfl)
 rotate_left 2
 all_goals (first|((first|rfl|exact hx0.symm|(simp;done));done)|(first|rfl|(simp[hx0];rfl)|(simp;rfl)))
def zcU (C:List Pat) (q:Pat):List Pat:=C.map fun c=> .mk q.op q.ctor q.n q.m q.var (q.kids++[c])
theorem zqs {ls:List (List Pat)}{C:List Pat}{a b c d e:Int}:((zeA ls).map (fun l=>Pat.mk a b c d e l)).flatMap (zcU C)=(zeA (ls++[C])).map (fun l=>Pat.mk a b c d e l):=by
 rw[zqH]
 unfold zbp zcU
 rw[List.flatMap_map,List.map_flatMap]
 congr 1
 funext q
 simp[zhc,zfn,mk_n,mk_m,zgO,zdy]
def zb9 (p:Pat) (i:Nat):List Pat:=(zeA ((p.kids.take i).map zaz)).map fun l=>Pat.mk p.op p.ctor p.n p.m p.var l
theorem zsl (p:Pat):zb9 p 0=[.mk p.op p.ctor p.n p.m p.var []]:=by unfold zb9;simp[zeA]
theorem zpv {p:Pat}{i:Nat} (h:i<p.kids.length):(zb9 p i).flatMap (zcU (zaz (nth p.kids i)))=zb9 p (i+1):=by
 unfold zb9
 rw[zqs,List.take_succ_eq_append_getElem h,List.map_append,←za6 h];rfl
theorem zqq {p:Pat}{i:Nat} (h5:p.op≠5) (h:p.kids.length≤i):zb9 p i=zaz p:=by
 unfold zb9;rw[zeG h5,List.take_of_length_le h]
theorem zqr {n:Nat}{p:Pat} (h:binP (n+1) p=true) (h5:p.op≠5) (i:Nat):(zb9 p i).length≤(zaz p).length:=by
 unfold zb9;rw[List.length_map];exact zpH h h5 i
theorem zpu {p:Pat}{i:Nat}{q:Pat} (h:q∈zb9 p i):q.kids.length≤p.kids.length:=by
 unfold zb9 at h
 obtain⟨l,hl,rfl⟩:=List.mem_map.1 h
 obtain⟨q0,hq,r,e,hlr,_⟩:=zjg _ _ _ hl
 rw[List.mem_singleton] at hq
 rw[hq,List.nil_append] at e
 rw[zdy,e,hlr];simp;omega
theorem zfL {α β:Type}{f:α→List β}{k:Nat} (hf:∀x,(f x).length≤k):∀l:List α,(l.flatMap f).length≤l.length*k
 | []=>by simp
 |x::r=>by
  rw[List.flatMap_cons,List.length_append,List.length_cons,Nat.succ_mul]
  have:=hf x;have:=zfL hf r;omega
theorem zey:∀(n:Nat){p:Pat},binP n p=true→p.ok→(zaz p).length≤40→FnD Tryz.prog 180 [.agg [.d (.i p.op),.d (.i p.ctor),.d (.i p.n),.d (.i p.m),.d (.i p.var),.d (zae p.kids)]] [] (.gl 9 (Pat.cs (zaz p))) [(9,some (.tok (Pat.cs (zaz p)).length 6))]
 |0,p,h,_,_=>by simp[binP] at h
 |n+1,p,h,hok,hlen=>by
  have hok':=(Pat.ok_iff p).1 hok
  have hok1:=hok'.1
  by_cases h5:p.op=5
  ·have hl:=zjB h h5
   have e5:=zgZ h5 hl
   have l0:=zhn h (i:=0) (by omega)
   have l1:=zhn h (i:=1) (by omega)
   have c0:=zey n (zee h (i:=0) (by omega)) (Pats.ok_mem hok'.2 _ (zaf (by omega))) (by omega)
   have c1:=FnD.glD (zey n (zee h (i:=1) (by omega)) (Pats.ok_mem hok'.2 _ (zaf (by omega))) (by omega))
   rw[e5]
   refine bd Tryz.f180 70 [] [] fun w0 F0 own kept hk=>?_
   refine Walk.box (id:=3001) .none rfl rfl rfl rfl rfl rfl rfl ?_
   refine ev ?_
   refine sq (fun h1 h1p h1s=>?_) fun h1 h1p h1s=>?_
   try simp only[Q,Pat.cs_len] at h1p
   refine Walk.idx (i:=0) sl45 .none rfl rfl rfl rfl (zaH (by omega)) rfl ?_
   refine evd [] [] ?_
   refine Walk.call (cr:=[9]) zkO (c0) rfl .none rfl rfl (LeL.refl _) trivial rfl rfl rfl ?_
   refine evd [] [] ?_
   refine Walk.idx (i:=1) sl45 .none rfl rfl rfl rfl (zaH (by omega)) rfl ?_
   refine evd [] [] ?_
   refine wc zkO (c1) rfl rfl ?_
   refine Walk.append sl45 zz56 rfl .none rfl rfl rfl rfl (zaw rfl (by first|rfl|(simp;done)|(simp;omega))) (by intro x hx;exact zbb _ x hx) (by simp[Pat.cs_len];omega) (by simp[Pat.cs_len];omega) ?_
   refine evd [] [] ?_
   refine dr ?_
   refine rn [(9,some (.tok (Pat.cs (zaz (nth p.kids 0)++zaz (nth p.kids 1))).length 6))] (r1 rfl) (.glg ?_) ⟨rfl,rfl⟩ (SubH.get ⟨?_,trivial⟩) (zaB rfl)
   rotate_left 2
   try simp only[Q,Pat.cs_len] at h1p
   exfalso;omega
   all_goals (first|((first|rfl|(simp[Pat.cs_cd];done));done)|(first|rfl|(simp[Pat.cs_cd];rfl)))
  ·have hfl:=zqr h h5
   have hfk:=fun(i:Nat) (q:Pat) (hq:q∈zb9 p i)=>zpu hq
   have hf0:=zsl p
   have hfe:=fun(i:Nat) (hi:p.kids.length≤i)=>zqq h5 hi
   have hfn:=fun(i:Nat) (hi:i<p.kids.length)=>zpv hi
   have hcal:=fun(i:Nat) (hi:i<p.kids.length)=>FnD.glD (zey n (zee h hi) (Pats.ok_mem hok'.2 _ (zaf hi)) (by have:=zhn h hi;omega))
   have hcl:=fun(i:Nat) (hi:i<p.kids.length)=>zhn h hi
   have hgl:=fun(C:List Pat) (q:Pat)=>show(zcU C q).length≤C.length from by unfold zcU;simp
   generalize zaz p=SP at *
   refine bd Tryz.f180 70 [8] [10,23] fun w0 F0 own kept hk=>?_
   refine Walk.box (id:=3001) .none rfl rfl rfl rfl rfl rfl rfl ?_
   refine evs [8] [] ?_
   refine sq (fun h1 h1p h1s=>?_) fun h1 h1p h1s=>?_
   try simp only[Q,Pat.cs_len] at h1p
   exfalso;omega
   try simp only[Q,Pat.cs_len] at h1p
   refine Walk.store ty45 .none rfl rfl rfl rfl rfl rfl (by simp) rfl ?_
   refine tv ?_
   refine Walk.sliceLitG 9 sl45 tz56 rfl (by decide) (ks:=[0]) (xs:=[_]) rfl rfl (by decide) (by decide) .none rfl rfl rfl rfl rfl ?_
   refine evs [8] [] ?_
   refine CWp.loopX (ι:=Nat) hk (fun i=>[(35,.d (.i (i:Int))),(4,.gl 9 ((zb9 p i).map Pat.cc)),(32,.any)]) [6,7,8,10,12,13,36,37,38,39,40,41,42,43,44,45,46,47,48,49,50,51,52,53,54,55,56,57,58,59,60,61,62,63,64,65,66,67,68] (fun i=>[(9,some (.tok (((zb9 p i).map Pat.cc)).length 6))]) (fun i=>i≤p.kids.length) (fun i=>p.kids.length-i) 0 (by omega) ⟨⟨_,rfl,LeA.eqi ?_⟩,⟨⟨_,rfl,LeA.glg ?_⟩,⟨⟨_,rfl,.any _⟩,trivial⟩⟩⟩ ⟨zaa ?_,trivial⟩ (fun x=>rfl) (fun i hg1=>?_)
   iterate 3 focus (first|rfl|(rw[hf0];rfl)|(rw[←hfn i (by omega),←hg2];done)|omega|(simp;done)|(simp;omega))
   refine evc [8] [10,23] ?_
   refine sq (fun h2 h2p h2s=>?_) fun h2 h2p h2s=>?_
   try simp only[Q,Pat.cs_len] at h2p
   refine Walk.idx sl45 .none rfl rfl rfl rfl (zaH (by omega)) rfl ?_
   refine evs [8] [] ?_
   refine Walk.alloc (id:=3006) tz56 rfl .none rfl rfl rfl rfl ?_
   refine Walk.store ty56 .none rfl rfl rfl rfl rfl rfl (by simp) rfl ?_
   refine tv ?_
   refine wc zkO (hcal i (by omega)) rfl rfl ?_
   refine evs [8] [] ?_
   refine CWp.tokDrop 4 9 rfl rfl ?_
   refine evc [8] [] ?_
   refine Walk.assignNil 3 6 .none rfl rfl ?_
   refine tv ?_
   refine CWp.loopX (ι:=List (Pat)×List (Pat)) hk (fun x=>[(43,.d (.i (x.1.length:Int))),(8,.gl 3 ((x.1.flatMap (zcU (zaz (nth p.kids i)))).map Pat.cc))]) [10,12,13,44,45,46,47,48,49,50,51,52,53,54,55,56,57,58,59,60,61,62,63,64,65,66] (fun x=>[(3,some (.tok (((x.1.flatMap (zcU (zaz (nth p.kids i)))).map Pat.cc)).length 6))]) (fun x=>x.1++x.2=zb9 p i) (fun x=>x.2.length) ([],zb9 p i) (by simp) ⟨⟨_,rfl,LeA.eqi ?_⟩,⟨⟨_,rfl,LeA.glg ?_⟩,trivial⟩⟩ ⟨zaa ?_,trivial⟩ (fun x=>rfl) (fun x hg2=>?_)
   iterate 3 focus (first|rfl|(simp;done)|(rw[List.append_nil] at hg3;rw[List.flatMap_append,List.map_append];simp[zcU,←hg3];done)|(simp;omega))
   obtain⟨pre2,rest2⟩:=x
   dsimp only at hg2 ⊢
   refine evc [8] [10,23] ?_
   refine sq (fun h3 h3p h3s=>?_) fun h3 h3p h3s=>?_
   try simp only[Q,Pat.cs_len] at h3p
   rcases rest2 with _|⟨q,rest2⟩
   ·exfalso;simp_all
   have hqk:=hfk i q (by rw[←hg2];simp);have hl2:=congrArg List.length hg2;simp only[List.length_append,List.length_cons] at hl2;have hl2b:=hfl i
   refine Walk.idx sl45 .none rfl rfl rfl rfl (zaD hg2) rfl ?_
   refine evs [8] [] ?_
   refine Walk.alloc (id:=3010) tz56 rfl .none rfl rfl rfl rfl ?_
   refine Walk.store ty56 .none rfl rfl rfl rfl rfl rfl (by simp) rfl ?_
   refine tv ?_
   refine CWp.loopX (ι:=List (Pat)×List (Pat)) hk (fun x=>[(49,.d (.i (x.1.length:Int))),(8,.gl 3 ((pre2.flatMap (zcU (zaz (nth p.kids i)))++zcU x.1 q).map Pat.cc))]) [12,13,50,51,52,53,54,55,56,57,58,59,60,61,62,63,64,65] (fun x=>[(3,some (.tok (((pre2.flatMap (zcU (zaz (nth p.kids i)))++zcU x.1 q).map Pat.cc)).length 6))]) (fun x=>x.1++x.2=zaz (nth p.kids i)) (fun x=>x.2.length) ([],zaz (nth p.kids i)) (by simp) ⟨⟨_,rfl,LeA.eqi ?_⟩,⟨⟨_,rfl,LeA.glg ?_⟩,trivial⟩⟩ ⟨zaa ?_,trivial⟩ (fun x=>rfl) (fun x hg3=>?_)
   iterate 3 focus (first|rfl|(simp[zcU];done)|(simp[zcU];omega)|(simp[zcU,zhc,zfn,mk_n,mk_m,zgO,zdy,Pat.cs_cd];done)|(simp;omega))
   obtain⟨pre3,rest3⟩:=x
   dsimp only at hg3 ⊢
   refine evc [8] [10,23] ?_
   refine sq (fun h4 h4p h4s=>?_) fun h4 h4p h4s=>?_
   try simp only[Q,Pat.cs_len] at h4p
   rcases rest3 with _|⟨y,rest3⟩
   ·exfalso;simp_all
   have hl3:=congrArg List.length hg3;simp only[List.length_append,List.length_cons] at hl3;have hl3b:=hcl i (by omega)
   refine Walk.idx sl45 .none rfl rfl rfl rfl (Pat.cs_at' hg3) rfl ?_
   refine evs [8] [] ?_
   refine Walk.alloc (id:=3012) tz56 rfl .none rfl rfl rfl rfl ?_
   refine Walk.store ty56 .none rfl rfl rfl rfl rfl rfl (by simp) rfl ?_
   refine tv ?_
   refine Walk.alloc (id:=3013) tz56 rfl .none rfl rfl rfl rfl ?_
   refine Walk.store ty56 .none rfl rfl rfl rfl rfl rfl (by simp) rfl ?_
   refine tv ?_
   refine Walk.call (cr:=[77]) zoa (zfe (xs:=q.kids) (by omega)) rfl .none rfl rfl (LeL.refl _) trivial rfl rfl rfl ?_
   refine evd [8] [] ?_
   refine Walk.sliceLit sl45 tz56 rfl (by decide) (ks:=[0]) (xs:=[_]) rfl rfl (by decide) (by decide) .none rfl rfl rfl rfl ?_
   refine Walk.append sl45 zz56 rfl .none rfl rfl rfl rfl (zaw rfl (by first|rfl|(simp;done)|(simp;omega))) (by intro x hx;first|(simp at hx;subst hx;rfl)|exact zby _ x hx|exact zbb _ x hx) (by first|(simp;omega)|(simp only[Pat.cs_len,List.length_append,List.length_cons,List.length_nil];omega)|(have h10:=hgl pre3 q;have h8:=congrArg List.length hg2;have h9:=congrArg List.length hg3;have h7:=zfL (hgl (zaz (nth p.kids i))) pre2;have h6:=hfl i;have h5:=hcl i (by omega);simp only[List.length_append,List.length_cons,List.length_map,List.length_nil] at *;have h4:pre2.length*(zaz (nth p.kids i)).length≤40*40:=Nat.mul_le_mul (by omega) (by omega);omega)) (by first|(simp;omega)|(simp only[Pat.cs_len,List.length_append,List.length_cons,List.length_nil];omega)|(have h10:=hgl pre3 q;have h8:=congrArg List.length hg2;have h9:=congrArg List.length hg3;have h7:=zfL (hgl (zaz (nth p.kids i))) pre2;have h6:=hfl i;have h5:=hcl i (by omega);simp only[List.length_append,List.length_cons,List.length_map,List.length_nil] at *;have h4:pre2.length*(zaz (nth p.kids i)).length≤40*40:=Nat.mul_le_mul (by omega) (by omega);omega)) ?_
   refine evd [8] [] ?_
   refine Walk.store ty45 .none rfl rfl rfl rfl rfl rfl (by simp) rfl ?_
   refine dr ?_
   refine Walk.sliceLit sl45 tz56 rfl (by decide) (ks:=[0]) (xs:=[_]) rfl rfl (by decide) (by decide) .none rfl rfl rfl rfl ?_
   refine Walk.append sl45 zz56 rfl .none rfl rfl rfl rfl (zaw rfl (by first|rfl|(simp;done)|(simp;omega))) (by intro x hx;first|(simp at hx;subst hx;rfl)|exact zby _ x hx|exact zbb _ x hx) (by first|(simp;omega)|(simp only[Pat.cs_len,List.length_append,List.length_cons,List.length_nil];omega)|(have h10:=hgl pre3 q;have h8:=congrArg List.length hg2;have h9:=congrArg List.length hg3;have h7:=zfL (hgl (zaz (nth p.kids i))) pre2;have h6:=hfl i;have h5:=hcl i (by omega);simp only[List.length_append,List.length_cons,List.length_map,List.length_nil] at *;have h4:pre2.length*(zaz (nth p.kids i)).length≤40*40:=Nat.mul_le_mul (by omega) (by omega);omega)) (by first|(simp;omega)|(simp only[Pat.cs_len,List.length_append,List.length_cons,List.length_nil];omega)|(have h10:=hgl pre3 q;have h8:=congrArg List.length hg2;have h9:=congrArg List.length hg3;have h7:=zfL (hgl (zaz (nth p.kids i))) pre2;have h6:=hfl i;have h5:=hcl i (by omega);simp only[List.length_append,List.length_cons,List.length_map,List.length_nil] at *;have h4:pre2.length*(zaz (nth p.kids i)).length≤40*40:=Nat.mul_le_mul (by omega) (by omega);omega)) ?_
   refine asg ?_
   refine tv ?_
   refine ar ?_
   refine Exists.intro ((pre3++[y],rest3)) ⟨(by have hz:=hg3;rw[←hz];simp),(by simp),sx ⟨⟨_,rfl,LeA.eqi ?_⟩,⟨⟨_,rfl,LeA.glg ?_⟩,trivial⟩⟩ ⟨zaa ?_,trivial⟩⟩
   iterate 3 focus (first|rfl|(simp[zcU];done)|(simp[zcU];omega)|(simp[zcU,zhc,zfn,mk_n,mk_m,zgO,zdy,Pat.cs_cd];done)|(simp;omega))
   try simp only[Q,Pat.cs_len] at h4p
   have hrest3:rest3=[]:=by
    rcases rest3 with _|⟨a,b⟩
    ·rfl
    ·exfalso;have hz:=congrArg List.length (hg3);simp only[List.length_append,List.length_cons,List.length_map] at hz;omega
   subst hrest3
   refine ar ?_
   refine Exists.intro ((pre2++[q],rest2)) ⟨(by have hz:=hg2;rw[←hz];simp),(by simp),sx ⟨⟨_,rfl,LeA.eqi ?_⟩,⟨⟨_,rfl,LeA.glg ?_⟩,trivial⟩⟩ ⟨zaa ?_,trivial⟩⟩
   iterate 3 focus (first|rfl|(simp;done)|(rw[List.append_nil] at hg3;rw[List.flatMap_append,List.map_append];simp[zcU,←hg3];done)|(simp;omega))
   try simp only[Q,Pat.cs_len] at h3p
   have hrest2:rest2=[]:=by
    rcases rest2 with _|⟨a,b⟩
    ·rfl
    ·exfalso;have hz:=congrArg List.length (hg2);simp only[List.length_append,List.length_cons,List.length_map] at hz;omega
   subst hrest2
   refine CWp.tokRen 4 3 9 rfl rfl (by kernel_rfl) ?_
   refine evc [8] [] ?_
   refine ar ?_
   rw[List.append_nil] at hg2
   refine Exists.intro (i+1) ⟨(by omega),(by omega),sx ⟨⟨_,rfl,LeA.eqi ?_⟩,⟨⟨_,rfl,LeA.glg ?_⟩,⟨⟨_,rfl,.any _⟩,trivial⟩⟩⟩ ⟨zaa ?_,trivial⟩⟩
   iterate 3 focus (first|rfl|(rw[hf0];rfl)|(rw[←hfn i (by omega),←hg2];done)|omega|(simp;done)|(simp;omega))
   try simp only[Q,Pat.cs_len] at h2p
   refine rn [(9,some (.tok (Pat.cs SP).length 6))] (r1 rfl) (.glg ?_) ⟨rfl,rfl⟩ (SubH.get ⟨?_,trivial⟩) (zaB rfl)
   rotate_left 2
   all_goals (first|(((rw[←hfe i (by omega),show Pat.cs (zb9 p i)=(zb9 p i).map Pat.cc from Pat.cs_cd _];all_goals rfl));done)|((rw[←hfe i (by omega),show Pat.cs (zb9 p i)=(zb9 p i).map Pat.cc from Pat.cs_cd _];all_goals rfl)))
def zcI (p:Pat):List Pat:=if (zaz (zaM p)).length≤40 then zaz (zaM p) else []
def zcb (p:Pat):Bool:=decide ((zaz (zaM p)).length≤40)
theorem znH {w:List Data}{n:Nat}{t:Ty}{p:Pat} (h:zau w n t p=true) (hok:p.ok):FnD Tryz.prog 113 [.agg [.d (.i p.op),.d (.i p.ctor),.d (.i p.n),.d (.i p.m),.d (.i p.var),.d (zae p.kids)]] [] (.tup [.d (zae (zcI p)),.d (.bool (zcb p))]) []:=by
 have hb:=zhi n h
 have hbo:=zjA p hok
 have hce:=(zk3 n hb).1
 have hbp:=zc5 _ (Nat.le_refl _) hok
 have hcs:=zd3 _ (Nat.le_refl _) hbo
 have hsp:=fun h40=>FnD.glD (zey n hb hbo h40)
 rw[hce] at hcs
 unfold zcI zcb
 generalize zaM p=b at *
 by_cases h40:(zaz b).length≤40
 ·rw[if_pos h40,decide_eq_true h40]
  have hc40:cap ((zaz b).length:Int)≤40:=by unfold cap;split<;>omega
  refine bd Tryz.f113 12 [] [] fun w0 F0 own kept hk=>?_
  refine Walk.box (id:=3001) .none rfl rfl rfl rfl rfl rfl rfl ?_
  refine ev ?_
  refine wc ziT (hbp) rfl rfl ?_
  refine Walk.alloc (id:=3004) tz56 rfl .none rfl rfl rfl rfl ?_
  refine Walk.store ty56 .none rfl rfl rfl rfl rfl rfl (by simp) rfl ?_
  refine tv ?_
  refine wc zkN (hcs) rfl rfl ?_
  refine ev ?_
  refine sq (fun h1 h1p h1s=>?_) fun h1 h1p h1s=>?_
  try simp only[Q] at h1p
  exfalso;omega
  try simp only[Q] at h1p
  refine wc zkO (hsp h40) rfl rfl ?_
  refine ev ?_
  refine rn0 (r2 rfl rfl) (.tup (.cons (.eqd ?_) (.cons (.eqd ?_) .nil)))
  rotate_left 2
  all_goals (rfl)
 ·rw[if_neg h40,decide_eq_false h40]
  have hc40:¬cap ((zaz b).length:Int)≤40:=by unfold cap;split<;>omega
  refine bd Tryz.f113 12 [] [] fun w0 F0 own kept hk=>?_
  refine Walk.box (id:=3001) .none rfl rfl rfl rfl rfl rfl rfl ?_
  refine ev ?_
  refine wc ziT (hbp) rfl rfl ?_
  refine Walk.alloc (id:=3004) tz56 rfl .none rfl rfl rfl rfl ?_
  refine Walk.store ty56 .none rfl rfl rfl rfl rfl rfl (by simp) rfl ?_
  refine tv ?_
  refine wc zkN (hcs) rfl rfl ?_
  refine ev ?_
  refine sq (fun h1 h1p h1s=>?_) fun h1 h1p h1s=>?_
  try simp only[Q] at h1p
  refine rn0 (r2 rfl rfl) (.tup (.cons (.nild ?_) (.cons (.eqd ?_) .nil)))
  rotate_left 2
  try simp only[Q] at h1p
  exfalso;omega
  all_goals (rfl)
structure Spa (w:List Data):Prop where
 dp:Dp w
 ctors:∀t,InS (w.length*4) t→(zam w t).length≤4∧(zam w t).Nodup
 args:∀t c,InS (w.length*4) t→c∈zam w t→(zab w t c).length≤3
theorem ziY (k:Int):∀(l:List Ctor) (i:Nat),(zaW k i l).Pairwise (· < ·)
 | [],_=>by simp[zaW]
 |x::r,i=>by
  unfold zaW
  have ih:=ziY k r (i+1)
  split
  ·refine List.pairwise_cons.2 ⟨fun y hy=>?_,ih⟩
   obtain⟨j,rfl,h1,_⟩:=zfX k r (i+1) y hy
   omega
  ·exact ih
theorem zpl {w:List Data} (hs:WSmall w) (hv:zaG w=true):Spa w:=by
 have hd:=zpk hs hv
 have hW:=(zcB w).1 hv
 refine⟨hd,fun t ht=>?_,fun t c ht hc=>?_⟩
 ·unfold zam
  split
  ·simp
  ·rename_i he
   refine⟨?_,(ziY _ _ _).imp (fun h=>by omega)⟩
   rcases ht with h|⟨h1,h2⟩
   ·exact absurd h he
   ·have:=hd.ct _ h1;rw[h2] at this;exact this
 ·have hti:=zb6 ht
  obtain⟨d,h1,h2,j,h3,h4⟩:=zcE (a:=t.data) (k:=t.index) hti hc
  have hco:=hW.ctor _ (zaf h2) _ (zaf h4)
  simp only[zaI,Bool.and_eq_true,decide_eq_true_eq] at hco
  unfold zab
  rw[h1,h3]
  simp only[Int.toNat_natCast,List.length_map]
  omega
abbrev intQ (n m:Int):Pat:= .mk 3 0 n m 0 []
abbrev zb0 (c:Int) (l:List Pat):Pat:= .mk 4 c 0 0 0 l
def zce (w:List Data) (t:Ty) (c:Int):Pat:=zb0 c ((zab w t c).map fun _=>anyQ)
def lowQ (p:Pat):Int:=if p.op=1 then 0 else p.n
def zdf (p:Pat):Int:=if p.op=1 then 9 else p.m
def minQ (a b:Int):Int:=if b<a then b else a
def maxQ (a b:Int):Int:=if a<b then b else a
def zcc (n m:Int):List Pat:=if n≤m then [intQ n m] else []
def zcL (f:Pat→Pat→Option Pat):List Pat→List Pat→List Pat→Option (List Pat)
 |p::r,q::s,acc=>match f p q with
  |none=>none
  |some x=>zcL f r s (acc++[x])
 |_,_,acc=>some acc
def zaP:Nat→Pat→Pat→Option Pat
 |0,_,_=>none
 |n+1,a,b=>if a.op=1 then some b else if b.op=1 then some a else if a.op=3 then (if maxQ a.n b.n≤minQ a.m b.m then some (intQ (maxQ a.n b.n) (minQ a.m b.m)) else none)
  else if a.ctor=b.ctor then (zcL (zaP n) a.kids b.kids []).map (zb0 a.ctor) else none
def za8 (f:Ty→Pat→Pat→List Pat) (c:Int):List Ty→List Pat→List Pat→List Pat→List Pat
 |u::r,x::s,y::q,front=>(f u x y).map (fun z=>zb0 c (front++[z]++s))++(match zaP 11 x y with
  |none=>[]
  |some both=>za8 f c r s q (front++[both]))
 |_,_,_,_=>[]
def zdh (f:Ty→Pat→Pat→List Pat) (w:List Data) (t:Ty) (a b:Pat):List Pat:=if a.ctor=b.ctor then za8 f a.ctor (zab w t a.ctor) a.kids b.kids [] else [a]
def zeu (a b:Pat):List Pat:=zcc (lowQ a) (minQ (zdf a) (b.n-1))++zcc (maxQ (lowQ a) (b.m+1)) (zdf a)
def zav (w:List Data):Nat→Ty→Pat→Pat→List Pat
 |0,_,_,_=>[]
 |n+1,t,a,b=>if b.op=1 then [] else if b.op=3 then zeu a b else if a.op=1 then (zam w t).flatMap fun c=>zdh (zav w n) w t (zce w t c) b else zdh (zav w n) w t a b
section
variable {w:List Data}{n:Nat}{t:Ty}{a b:Pat}
theorem zgz (h:b.op=1):zav w (n+1) t a b=[]:=by unfold zav;rw[if_pos h]
theorem zjK (h:b.op=3):zav w (n+1) t a b=zeu a b:=by unfold zav;rw[if_neg (by omega),if_pos h]
theorem zhM (h:b.op=4) (h2:a.op=1):zav w (n+1) t a b=(zam w t).flatMap fun c=>zdh (zav w n) w t (zce w t c) b:=by
 conv=>lhs;unfold zav
 rw[if_neg (by omega),if_neg (by omega),if_pos h2]
theorem zej (h:b.op=4) (h2:a.op=4):zav w (n+1) t a b=zdh (zav w n) w t a b:=by
 conv=>lhs;unfold zav
 rw[if_neg (by omega),if_neg (by omega),if_neg (by omega)]
theorem zlq (h:a.op=1):zaP (n+1) a b=some b:=by unfold zaP;rw[if_pos h]
theorem zlr (h:a.op≠1) (h2:b.op=1):zaP (n+1) a b=some a:=by unfold zaP;rw[if_neg h,if_pos h2]
theorem zls (h:a.op=3) (h2:b.op≠1):zaP (n+1) a b=if maxQ a.n b.n≤minQ a.m b.m then some (intQ (maxQ a.n b.n) (minQ a.m b.m)) else none:=by
 conv=>lhs;unfold zaP
 rw[if_neg (by omega),if_neg h2,if_pos h]
theorem zlt (h:a.op=4) (h2:b.op≠1) (hc:a.ctor=b.ctor):zaP (n+1) a b=(zcL (zaP n) a.kids b.kids []).map (zb0 a.ctor):=by
 conv=>lhs;unfold zaP
 rw[if_neg (by omega),if_neg h2,if_neg (by omega),if_pos hc]
theorem zjJ (h:a.op=4) (h2:b.op≠1) (hc:¬a.ctor=b.ctor):zaP (n+1) a b=none:=by
 conv=>lhs;unfold zaP
 rw[if_neg (by omega),if_neg h2,if_neg (by omega),if_neg hc]
end
theorem zcz {w:List Data}{n:Nat}{t:Ty}{p:Pat} (h:zak w n t p=true) (h3:p.op=3):t.data = -1∧0≤p.n∧p.n≤p.m∧p.m≤9:=by
 have ho:=(zgQ h).1
 unfold ownP at ho
 have:=(of_decide_eq_true ho).2.2.2.2
 omega
theorem za4 {w:List Data}{n:Nat}{t:Ty}{p:Pat} (h:zak w n t p=true) (h4:p.op=4):p.ctor∈zam w t∧t.data≠ -1∧p.kids.length=(zab w t p.ctor).length∧p=zb0 p.ctor p.kids:=by
 obtain⟨ho,hl⟩:=zgQ h
 have hm:=zcy ho h4
 refine⟨hm,fun e=>by unfold zam at hm;rw[if_pos e] at hm;simp at hm,by rw[zbD h4] at hl;exact hl, ?_⟩
 unfold ownP at ho
 have hh:=of_decide_eq_true ho
 have h1:=hh.2.1 (by omega)
 have h2:=hh.2.2.1 (by omega)
 obtain⟨op,c,m,k,v,ks⟩:=p
 change op=4 at h4
 change v=0 at h1
 change m=0∧k=0 at h2
 rw[h4,h1,h2.1,h2.2];rfl
theorem znf {w:List Data}{n:Nat}{t:Ty}{a b:Int} (ht:t.data = -1) (h0:0≤a) (h1:a≤b) (h2:b≤9):zak w (n+1) t (intQ a b)=true:=by
 unfold zak
 have e:zad w t (intQ a b)=[]:=rfl
 rw[e]
 have ho:ownP w t (intQ a b)=true:=by
  unfold ownP
  refine decide_eq_true ⟨fun h=>?_,fun _=>rfl,fun h=>absurd rfl h,fun _=>rfl,.inr (.inr (.inr (.inr (.inl ⟨rfl,ht,h0,h1,h2⟩))))⟩
  exfalso;change (3:Int)=2∨(3:Int)=6 at h;omega
 rw[ho];rfl
theorem zh3 {w:List Data}{n:Nat}{t:Ty}{c:Int}{l:List Pat} (hc:c∈zam w t) (hl:l.length=(zab w t c).length) (hk:∀i,i<l.length→zak w n (nth (zab w t c) i) (nth l i)=true):zak w (n+1) t (zb0 c l)=true:=by
 unfold zak
 have e:zad w t (zb0 c l)=zab w t c:=zbD rfl
 have ho:ownP w t (zb0 c l)=true:=by
  unfold ownP
  refine decide_eq_true ⟨fun h=>?_,fun _=>rfl,fun _=>⟨rfl,rfl⟩,fun h=>absurd rfl h,.inr (.inr (.inr (.inr (.inr ⟨rfl,hc⟩))))⟩
  exfalso;change (4:Int)=2∨(4:Int)=6 at h;omega
 rw[ho,e,zdy]
 exact zcN hl.symm (fun i hi=>hk i (by omega))
theorem zjL {w:List Data}{n m:Nat} (h:n≤m){t:Ty}{p:Pat} (hp:zak w n t p=true):zak w m t p=true:=by
 induction h with
 |refl=>exact hp
 |step _ ih=>exact zfN _ ih
theorem zdR {w:List Data}{n:Nat}{t:Ty}{c:Int} (hc:c∈zam w t):zak w (n+2) t (zce w t c)=true:=by
 unfold zce
 refine zh3 hc (by simp) (fun i hi=>?_)
 have e:nth ((zab w t c).map fun _=>anyQ) i=anyQ:=by
  rw[za6 hi];simp
 rw[e];exact ziO
theorem zlo {f:Pat→Pat→Option Pat}{a b:List Pat}{i:Nat}{acc:List Pat} (h1:i<a.length) (h2:i<b.length) (h:f (nth a i) (nth b i)=none):zcL f (a.drop i) (b.drop i) acc=none:=by
 rw[zaV h1,zaV h2,zcL,h]
theorem zlp {f:Pat→Pat→Option Pat}{a b:List Pat}{i:Nat}{acc:List Pat}{x:Pat} (h1:i<a.length) (h2:i<b.length) (h:f (nth a i) (nth b i)=some x):zcL f (a.drop i) (b.drop i) acc=zcL f (a.drop (i+1)) (b.drop (i+1)) (acc++[x]):=by
 rw[zaV h1,zaV h2,zcL,h]
theorem zeN {f:Pat→Pat→Option Pat}{a b:List Pat}{i:Nat}{acc:List Pat} (h1:a.length≤i):zcL f (a.drop i) (b.drop i) acc=some acc:=by
 rw[List.drop_eq_nil_of_le h1];cases b.drop i<;>rfl
theorem zin {f:Pat→Pat→Option Pat}:∀ {a b acc l:List Pat},a.length=b.length→zcL f a b acc=some l→∃r,l=acc++r∧r.length=a.length∧∀i,i<a.length→f (nth a i) (nth b i)=some (nth r i)
 | [],[],acc,l,_,h=>by
  simp only[zcL,Option.some.injEq] at h
  exact⟨[],by simp[h],rfl,fun i hi=>by simp at hi⟩
 |p::r,q::s,acc,l,hl,h=>by
  unfold zcL at h
  cases hf:f p q with
  |none=>rw[hf] at h;cases h
  |some x=>
   rw[hf] at h
   obtain⟨z,e,hz,hm⟩:=zin (a:=r) (b:=s) (by simpa using hl) h
   refine⟨x::z,by rw[e];simp,by simp[hz],fun i hi=>?_⟩
   cases i with
   |zero=>exact hf
   |succ i=>exact hm i (by simpa using hi)
 | [],_::_,_,_,hl,_=>by simp at hl
 |_::_,[],_,_,hl,_=>by simp at hl
theorem zdQ {w:List Data}{n m:Nat}{t:Ty}{a b:Pat} (ha:zak w n t a=true) (hb:zak w m t b=true) (h1:a.op≠1) (h2:b.op≠1):a.op=b.op:=by
 have oa:=zca ha
 have ob:=zca hb
 rcases oa with h|h|h
 ·exact absurd h h1
 ·rcases ob with h' | h' | h'
  ·exact absurd h' h2
  ·omega
  ·exact absurd (zcz ha h).1 (za4 hb h').2.1
 ·rcases ob with h' | h' | h'
  ·exact absurd h' h2
  ·exact absurd (zcz hb h').1 (za4 ha h).2.1
  ·omega
theorem zts (a b:Int):minQ a b≤a∧minQ a b≤b:=by unfold minQ;split<;>omega
theorem ztq (a b:Int):a≤maxQ a b∧b≤maxQ a b:=by unfold maxQ;split<;>omega
theorem ztt (a b:Int):minQ a b=a∨minQ a b=b:=by unfold minQ;split<;>omega
theorem ztr (a b:Int):maxQ a b=a∨maxQ a b=b:=by unfold maxQ;split<;>omega
theorem zni {w:List Data}:∀(n m:Nat){t:Ty}{a b x:Pat},zak w m t a=true→zak w m t b=true→zaP n a b=some x→zak w m t x=true
 |0,m,t,a,b,x,_,_,h=>by simp[zaP] at h
 |n+1,0,t,a,b,x,ha,_,_=>by simp[zak] at ha
 |n+1,m+1,t,a,b,x,ha,hb,h=>by
  by_cases h1:a.op=1
  ·rw[zlq h1] at h;cases h;exact hb
  by_cases h2:b.op=1
  ·rw[zlr h1 h2] at h;cases h;exact ha
  have hs:=zdQ ha hb h1 h2
  have oa:=zca ha
  by_cases h3:a.op=3
  ·rw[zls h3 h2] at h
   split at h
   ·cases h
    have ia:=zcz ha h3
    have ib:=zcz hb (by omega)
    have q1:=ztt a.m b.m
    have q2:=ztr a.n b.n
    refine znf ia.1 (by omega) (by assumption) (by omega)
   ·cases h
  have h4:a.op=4:=by omega
  by_cases hc:a.ctor=b.ctor
  ·rw[zlt h4 h2 hc] at h
   obtain⟨m1,m2,m3,m4⟩:=za4 ha h4
   obtain⟨n1,n2,n3,n4⟩:=za4 hb (by omega)
   rw[←hc] at n3
   cases hl:zcL (zaP n) a.kids b.kids [] with
   |none=>rw[hl] at h;cases h
   |some l=>
    rw[hl] at h
    simp only[Option.map_some,Option.some.injEq] at h
    subst h
    obtain⟨r,e,hr,hm⟩:=zin (by omega) hl
    rw[List.nil_append] at e
    subst e
    refine zh3 m1 (by omega) (fun i hi=>?_)
    have ka:=zbr ha (i:=i) (by omega)
    have kb:=zbr hb (i:=i) (by omega)
    rw[zbD h4] at ka
    rw[zbD (by omega),←hc] at kb
    exact zni n m ka kb (hm i (by omega))
  ·rw[zjJ h4 h2 hc] at h;cases h
theorem zlE {w:List Data}{n:Nat}{t:Ty}{a b:Int} (ht:t.data = -1) (h0:0≤a) (h2:b≤9):∀x∈zcc a b,zak w (n+1) t x=true:=by
 intro x hx
 unfold zcc at hx
 split at hx
 ·rename_i h1
  rw[List.mem_singleton] at hx
  rw[hx];exact znf ht h0 h1 h2
 ·simp at hx
theorem zoI {w:List Data}{n:Nat}{t:Ty}{a:Pat} (ha:zak w n t a=true) (ht:t.data = -1):0≤lowQ a∧zdf a≤9∧lowQ a≤zdf a:=by
 have oa:=zca ha
 unfold lowQ zdf
 by_cases h1:a.op=1
 ·rw[if_pos h1,if_pos h1];omega
 ·rw[if_neg h1,if_neg h1]
  by_cases h3:a.op=3
  ·have:=zcz ha h3;omega
  ·exact absurd ht (za4 ha (by omega)).2.1
theorem zqx (a b:Pat):(zeu a b).length≤2:=by
 have h:∀x y,(zcc x y).length≤1:=fun x y=>by unfold zcc;split<;>simp
 unfold zeu
 rw[List.length_append]
 have:=h (lowQ a) (minQ (zdf a) (b.n-1));have:=h (maxQ (lowQ a) (b.m+1)) (zdf a);omega
theorem zpy {w:List Data}{f:Ty→Pat→Pat→List Pat}{m:Nat}{t:Ty}{c:Int} (hc:c∈zam w t) (hf:∀u x y,zak w m u x=true→zak w m u y=true→∀z∈f u x y,zak w m u z=true):
  ∀(i:Nat){xs bs front:List Pat},front.length=i→xs.length+i=(zab w t c).length→bs.length=xs.length→(∀j,j<i→zak w m (nth (zab w t c) j) (nth front j)=true)→
   (∀j,j<xs.length→zak w m (nth (zab w t c) (i+j)) (nth xs j)=true∧zak w m (nth (zab w t c) (i+j)) (nth bs j)=true)→
   ∀x∈za8 f c ((zab w t c).drop i) xs bs front,zak w (m+1) t x=true:=by
 intro i xs
 induction xs generalizing i with
 |nil=>
  intro bs front _ _ _ _ _ x hx
  cases hT:(zab w t c).drop i<;>(rw[hT] at hx;simp[za8] at hx)
 |cons a0 s ih=>
  intro bs front hfl hal hbl hfr hab x hx
  cases bs with
  |nil=>simp at hbl
  |cons b0 q=>
   have hi:i<(zab w t c).length:=by simp at hal;omega
   rw[zaV hi] at hx
   have h0:=hab 0 (by simp)
   simp only[Nat.add_zero] at h0
   have e0:nth (a0::s) 0=a0:=rfl
   have e1:nth (b0::q) 0=b0:=rfl
   rw[e0,e1] at h0
   unfold za8 at hx
   have hpiece:∀z,zak w m (nth (zab w t c) i) z=true→∀j,j<(front++[z]++s).length→zak w m (nth (zab w t c) j) (nth (front++[z]++s) j)=true:=fun z hz j hj=>by
    by_cases hj1:j<i
    ·have e:nth (front++[z]++s) j=nth front j:=by
      simp only[nth,List.getD,List.append_assoc]
      rw[List.getElem?_append_left (by omega)]
     rw[e];exact hfr j hj1
    ·by_cases hj2:j=i
     ·have e:nth (front++[z]++s) j=z:=by
       simp only[nth,List.getD,List.append_assoc]
       rw[List.getElem?_append_right (by omega),show j-front.length=0 by omega];rfl
      rw[e,hj2];exact hz
     ·obtain⟨k,rfl⟩:∃k,j=i+1+k:=⟨j-(i+1),by omega⟩
      have e:nth (front++[z]++s) (i+1+k)=nth (a0::s) (k+1):=by
       simp only[nth,List.getD,List.append_assoc]
       rw[List.getElem?_append_right (by omega),show i+1+k-front.length=k+1 by omega];rfl
      rw[e]
      have:=(hab (k+1) (by simp at hj ⊢;omega)).1
      rwa [show i+(k+1)=i+1+k by omega] at this
   rcases List.mem_append.1 hx with hx|hx
   ·obtain⟨z,hz,rfl⟩:=List.mem_map.1 hx
    refine zh3 hc (by simp at hal ⊢;omega) (hpiece z (hf _ _ _ h0.1 h0.2 z hz))
   ·cases hm:zaP 11 a0 b0 with
    |none=>rw[hm] at hx;simp at hx
    |some both=>
     rw[hm] at hx
     have hbp:=zni 11 m h0.1 h0.2 hm
     refine ih (i+1) (bs:=q) (front:=front++[both]) (by simp[hfl]) (by simp at hal ⊢;omega) (by simpa using hbl) (fun j hj=>?_) (fun j hj=>?_) x hx
     ·have:=hpiece both hbp j (by simp;omega)
      have e:nth (front++[both]++s) j=nth (front++[both]) j:=by
       simp only[nth,List.getD]
       rw[List.getElem?_append_left (by simp;omega)]
      rwa [e] at this
     ·have:=hab (j+1) (by simpa using hj)
      rwa [show i+(j+1)=i+1+j by omega] at this
theorem zga {w:List Data}:∀(n m:Nat){t:Ty}{a b:Pat},n<m→zak w m t a=true→zak w n t b=true→∀x∈zav w n t a b,zak w m t x=true
 |0,m,t,a,b,_,_,hb=>by simp[zak] at hb
 |n+1,0,t,a,b,hn,_,_=>by omega
 |n+1,m+1,t,a,b,hn,ha,hb=>by
  have ob:=zca hb
  have oa:=zca ha
  have hf:∀u x y,zak w m u x=true→zak w n u y=true→∀z∈zav w n u x y,zak w m u z=true:=fun u x y hx hy=>zga n m (by omega) hx hy
  have hcc:∀a,zak w (m+1) t a=true→a.op=4→b.op=4→∀x∈zdh (zav w n) w t a b,zak w (m+1) t x=true:=fun a ha h4 h4b=>by
   obtain⟨m1,m2,m3,m4⟩:=za4 ha h4
   obtain⟨n1,n2,n3,n4⟩:=za4 hb h4b
   intro x hx
   unfold zdh at hx
   split at hx
   ·rename_i hc
    have key:=zpy (w:=w) (f:=fun u x y=>if zak w m u x=true∧zak w n u y=true then zav w n u x y else []) (m:=m) (t:=t) (c:=a.ctor) m1 (fun u x y hx hy z hz=>by
     split at hz
     ·rename_i hh;exact hf u x y hh.1 hh.2 z hz
     ·simp at hz) 0 (xs:=a.kids) (bs:=b.kids) (front:=[]) rfl (by omega) (by rw[hc] at m3;omega) (fun j hj=>by omega) (fun j hj=>by
      have ka:=zbr ha (i:=j) hj
      have kb:=zbr hb (i:=j) (by rw[hc] at m3;omega)
      rw[zbD h4] at ka
      rw[zbD h4b,←hc] at kb
      rw[Nat.zero_add]
      exact⟨ka,zjL (by omega) kb⟩) x
    refine key ?_
    have e:∀(ts:List Ty) (xs bs front:List Pat),(∀j,j<ts.length→j<xs.length→j<bs.length→zak w m (nth ts j) (nth xs j)=true∧zak w n (nth ts j) (nth bs j)=true)→
      za8 (fun u x y=>if zak w m u x=true∧zak w n u y=true then zav w n u x y else []) a.ctor ts xs bs front=za8 (zav w n) a.ctor ts xs bs front:=by
     intro ts
     induction ts with
     |nil=>intro xs bs front _;simp[za8]
     |cons u r ih=>
      intro xs bs front h
      cases xs with
      |nil=>simp[za8]
      |cons x s=>
       cases bs with
       |nil=>simp[za8]
       |cons y q=>
        have h0:=h 0 (by simp) (by simp) (by simp)
        change zak w m u x=true∧zak w n u y=true at h0
        unfold za8
        rw[if_pos h0]
        congr 1
        cases hmm:zaP 11 x y with
        |none=>rfl
        |some both=>exact ih s q (front++[both]) (fun j h1 h2 h3=>h (j+1) (by simpa using h1) (by simpa using h2) (by simpa using h3))
    rw[List.drop_zero,e _ _ _ _ (fun j h1 h2 h3=>?_)]
    ·exact hx
    ·have ka:=zbr ha (i:=j) h2
     have kb:=zbr hb (i:=j) h3
     rw[zbD h4] at ka
     rw[zbD h4b,←hc] at kb
     exact⟨ka,kb⟩
   ·rw[List.mem_singleton] at hx
    rw[hx];exact ha
  rcases ob with h1|h3|h4
  ·rw[zgz h1];simp
  ·rw[zjK h3]
   intro x hx
   have hl:=zoI ha (zcz hb h3).1
   have ib:=zcz hb h3
   have q1:=zts (zdf a) (b.n-1)
   have q2:=ztq (lowQ a) (b.m+1)
   unfold zeu at hx
   rcases List.mem_append.1 hx with h|h
   ·exact zlE ib.1 (by omega) (by omega) x h
   ·exact zlE ib.1 (by omega) (by omega) x h
  ·by_cases ha1:a.op=1
   ·rw[zhM h4 ha1]
    intro x hx
    obtain⟨c,hc,hx⟩:=List.mem_flatMap.1 hx
    refine hcc _ ?_ rfl h4 x hx
    obtain⟨k,rfl⟩:∃k,m=k+1:=⟨m-1,by omega⟩
    exact zdR hc
   ·have ha4:a.op=4:=by
     have:=zdQ ha hb ha1 (by omega);omega
    rw[zej h4 ha4]
    exact hcc a ha ha4 h4
theorem zgA {w:List Data} (hs:Spa w):∀(n:Nat){t:Ty}{p:Pat},InS (w.length*4) t→zak w n t p=true→p.ok∧p.size≤4 ^ n
 |0,t,p,_,h=>by simp[zak] at h
 |n+1,t,p,ht,h=>by
  have hk:=fun i (hi:i<p.kids.length)=>zbr h hi
  have hl:=(zgQ h).2
  have op:=zca h
  have hpow:4 ^ (n+1)=4 ^ n*4:=rfl
  have hpos:0<4 ^ n:=Nat.pow_pos (by omega)
  by_cases h4:p.op=4
  ·obtain⟨m1,m2,m3,m4⟩:=za4 h h4
   have h3:=hs.args t p.ctor ht m1
   rw[zbD h4] at hk
   have ih:∀k∈p.kids,k.ok∧k.size≤4 ^ n:=fun k hkm=>by
    obtain⟨i,hi,rfl⟩:=List.getElem_of_mem hkm
    have e:nth p.kids i=p.kids[i]:=za6 hi
    have:=zgA hs n (zbY hs.dp ht m1 _ (zaf (i:=i) (by omega))) (hk i hi)
    rwa [e] at this
   have hz:=Pats.size_of (m:=4 ^ n) (fun k hk=>(ih k hk).2)
   rw[Pat.ok_iff,Pat.size_eq]
   refine⟨⟨by omega,Pats.ok_of (fun k hk=>(ih k hk).1)⟩, ?_⟩
   have:p.kids.length*4 ^ n≤3*4 ^ n:=Nat.mul_le_mul_right _ (by omega)
   omega
  ·have hk0:p.kids=[]:=zqK (zgf _ h) h4 (by omega) (by omega)
   rw[Pat.ok_iff,Pat.size_eq,hk0]
   exact⟨⟨by simp,trivial⟩,by simp only[Pats.size];omega⟩
theorem zm8 {α:Type}{g:Int→List α}{c0:Int}{X:Nat}:∀ {cs:List Int},cs.Nodup→(∀c∈cs,c≠c0→(g c).length≤1)→(g c0).length≤X→(cs.flatMap g).length≤cs.length+X
 | [],_,_,_=>by simp
 |c::r,hn,h1,h2=>by
  obtain⟨n1,n2⟩:=List.nodup_cons.1 hn
  rw[List.flatMap_cons,List.length_append,List.length_cons]
  by_cases hc:c=c0
  ·have key:∀l:List Int,c0∉l→(∀x∈l,x≠c0→(g x).length≤1)→(l.flatMap g).length≤l.length:=by
    intro l
    induction l with
    |nil=>intro _ _;simp
    |cons y s ih=>
     intro hm hh
     rw[List.flatMap_cons,List.length_append,List.length_cons]
     have a1:=hh y (by simp) (fun e=>hm (by rw[e];simp))
     have a2:=ih (fun e=>hm (by simp[e])) (fun x hx=>hh x (by simp[hx]))
     omega
   have:=key r (by rw[←hc];exact n1) (fun x hx=>h1 x (by simp[hx]))
   rw[hc];omega
  ·have a1:=h1 c (by simp) hc
   have a2:=zm8 (X:=X) n2 (fun x hx=>h1 x (by simp[hx])) h2
   omega
theorem zlv {f:Ty→Pat→Pat→List Pat}{c:Int} (L:Pat→Nat):∀(ts:List Ty) (xs bs front:List Pat),(∀i,i<ts.length→i<xs.length→i<bs.length→(f (nth ts i) (nth xs i) (nth bs i)).length≤L (nth bs i))→(za8 f c ts xs bs front).length≤(bs.map L).sum
 | [],xs,bs,front,_=>by simp[za8]
 |_::_,[],bs,front,_=>by simp[za8]
 |_::_,_::_,[],front,_=>by simp[za8]
 |u::r,x::s,y::q,front,h=>by
  have h0:=h 0 (by simp) (by simp) (by simp)
  change (f u x y).length≤L y at h0
  unfold za8
  rw[List.length_append,List.length_map,List.map_cons,List.sum_cons]
  cases hm:zaP 11 x y with
  |none=>simp;omega
  |some both=>
   have:=zlv (c:=c) L r s q (front++[both]) (fun i h1 h2 h3=>h (i+1) (by simpa using h1) (by simpa using h2) (by simpa using h3))
   dsimp only;omega
theorem zqw {w:List Data}{f:Ty→Pat→Pat→List Pat}{t:Ty}{a b:Pat}{L:Pat→Nat} (h:∀i,i<(zab w t a.ctor).length→i<a.kids.length→i<b.kids.length→(f (nth (zab w t a.ctor) i) (nth a.kids i) (nth b.kids i)).length≤L (nth b.kids i)):
  (zdh f w t a b).length≤if a.ctor=b.ctor then (b.kids.map L).sum else 1:=by
 unfold zdh
 split
 ·exact zlv L _ _ _ _ h
 ·simp
theorem sum4:∀l:List Pat,(l.map fun b=>4*b.size).sum=4*Pats.size l
 | []=>rfl
 |k::r=>by simp only[List.map_cons,List.sum_cons,Pats.size,sum4 r];omega
theorem znj {w:List Data} (hs:Spa w):∀(n m:Nat){t:Ty}{a b:Pat},n<m→InS (w.length*4) t→zak w m t a=true→zak w n t b=true→(zav w n t a b).length≤4*b.size
 |0,m,t,a,b,_,_,_,hb=>by simp[zak] at hb
 |n+1,0,t,a,b,hn,_,_,_=>by omega
 |n+1,m+1,t,a,b,hn,ht,ha,hb=>by
  have ob:=zca hb
  have hz:=Pat.size_eq b
  rcases ob with h1|h3|h4
  ·rw[zgz h1];simp
  ·rw[zjK h3];have:=zqx a b;omega
  ·obtain⟨n1,n2,n3,n4⟩:=za4 hb h4
   have hcc:∀a,zak w (m+1) t a=true→a.op=4→(zdh (zav w n) w t a b).length≤if a.ctor=b.ctor then 4*Pats.size b.kids else 1:=fun a ha h4a=>by
    obtain⟨m1,m2,m3,m4⟩:=za4 ha h4a
    rw[←sum4]
    by_cases hc:a.ctor=b.ctor
    ·have:=zqw (w:=w) (f:=zav w n) (t:=t) (a:=a) (b:=b) (L:=fun b=>4*b.size) (fun i h1 h2 h3=>by
      have ka:=zbr ha (i:=i) h2
      have kb:=zbr hb (i:=i) h3
      rw[zbD h4a] at ka
      rw[zbD h4,←hc] at kb
      exact znj hs n m (by omega) (zbY hs.dp ht m1 _ (zaf h1)) ka kb)
     exact this
    ·unfold zdh;rw[if_neg hc,if_neg hc];simp
   by_cases ha1:a.op=1
   ·rw[zhM h4 ha1]
    obtain⟨c1,c2⟩:=hs.ctors t ht
    have hw:∀c,c∈zam w t→(zdh (zav w n) w t (zce w t c) b).length≤if c=b.ctor then 4*Pats.size b.kids else 1:=fun c hc=>by
     obtain⟨k,rfl⟩:∃k,m=k+1:=⟨m-1,by omega⟩
     exact hcc _ (zdR hc) rfl
    have:=zm8 (g:=fun c=>zdh (zav w n) w t (zce w t c) b) (c0:=b.ctor) (X:=4*Pats.size b.kids) c2 (fun c hc hne=>by have:=hw c hc;rwa [if_neg hne] at this) (by have:=hw _ n1;rwa [if_pos rfl] at this)
    omega
   ·have ha4:a.op=4:=by have:=zdQ ha hb ha1 (by omega);omega
    rw[zej h4 ha4]
    have:=hcc a ha ha4
    split at this<;>omega
theorem zkI {α β:Type} [Inhabited α] [Inhabited β]{f:α→β→Bool}:∀ {a:List α}{b:List β},a.length=b.length→all2 f a b=false→∃i,i<a.length∧f (nth a i) (nth b i)=false
 | [],[],_,h=>by simp[all2] at h
 |x::r,y::s,hl,h=>by
  simp only[all2,Bool.and_eq_false_iff] at h
  rcases h with h|h
  ·exact⟨0,by simp,h⟩
  ·obtain⟨i,h1,h2⟩:=zkI (by simpa using hl) h
   exact⟨i+1,by simpa using h1,h2⟩
 | [],_::_,hl,_=>by simp at hl
 |_::_,[],hl,_=>by simp at hl
theorem zhG {w:List Data}{f:Nat→Nat}{n:Nat}{t:Ty}{p:Pat} (h:p.op=1):za5 w f (n+1) t p=decide (dv f t=0):=by rw[zfB,if_pos (.inl h)]
theorem zmn {w:List Data}{f:Nat→Nat}{n m:Nat}{t:Ty}{p:Pat} (hp:zak w m t p=true) (h:p.op=3):za5 w f (n+1) t p=false:=by
 rw[zfB,if_neg (by omega),if_neg (by omega)]
 have e:zad w t p=[]:=by unfold zad;rw[if_neg (by omega),if_neg (by omega),if_neg (by omega)]
 have hl:=(zgQ hp).2
 rw[e] at hl ⊢
 rw[List.eq_nil_of_length_eq_zero hl];rfl
theorem zmo {w:List Data}{f:Nat→Nat}{n:Nat}{t:Ty}{p:Pat} (h:p.op=4):za5 w f (n+1) t p = !(all2 (fun u q=> !za5 w f n u q) (zab w t p.ctor) p.kids):=by
 rw[zfB,if_neg (by omega),if_neg (by omega),zbD h]
theorem zoq {w:List Data}{f:Nat→Nat}{n m:Nat}{t:Ty}{p:Pat} (hp:zak w m t p=true) (h:p.op=4) (hd:za5 w f (n+1) t p=true):∃i,i<p.kids.length∧za5 w f n (nth (zab w t p.ctor) i) (nth p.kids i)=true:=by
 rw[zmo h] at hd
 have hl:=(za4 hp h).2.2.1
 obtain⟨i,h1,h2⟩:=zkI (a:=zab w t p.ctor) (b:=p.kids) (f:=fun u q=> !za5 w f n u q) hl.symm (by simpa using hd)
 exact⟨i,by omega,by simpa using h2⟩
theorem zgN {w:List Data}{f:Nat→Nat}{n:Nat}{t:Ty}{c:Int}{l:List Pat}{i:Nat} (hi:i<l.length) (hl:l.length=(zab w t c).length) (hd:za5 w f n (nth (zab w t c) i) (nth l i)=true):za5 w f (n+1) t (zb0 c l)=true:=by
 rw[zmo rfl]
 have:=zb7 (f:=fun u q=> !za5 w f n u q) (a:=zab w t c) (b:=l) (i:=i) (by omega) hl.symm (by rw[hd];rfl)
 show(!all2 (fun u q=> !za5 w f n u q) (zab w t c) l)=true
 rw[this];rfl
theorem zuV {w:List Data} (hd:Dp w){t:Ty}{c:Int} (ht:InS (w.length*4) t) (hc:c∈zam w t) (h0:dv (zaj w) t=0):∃i,i<(zab w t c).length∧dv (zaj w) (nth (zab w t c) i)=0:=by
 by_cases hx:∃i,i<(zab w t c).length∧dv (zaj w) (nth (zab w t c) i)=0
 ·exact hx
 ·exfalso
  have a:Snd w (zaj w)∧Cmp w (w.length*4+1) (zaj w):=zdH hd.cl (w.length*4+1)
  have hdt:t.data≠ -1:=fun e=>by unfold zam at hc;rw[if_pos e] at hc;simp at hc
  have hb:∀u∈zab w t c,Hd w (w.length*4+1) u:=fun u hu=>by
   obtain⟨i,hi,rfl⟩:=List.getElem_of_mem hu
   have hpos:0<dv (zaj w) (zab w t c)[i]:=by
    have e:nth (zab w t c) i=(zab w t c)[i]:=za6 hi
    rcases Nat.eq_zero_or_pos (dv (zaj w) (zab w t c)[i]) with h|h
    ·exact absurd ⟨i,hi,by rw[e];exact h⟩ hx
    ·exact h
   have hin:=zbY hd ht hc _ hu
   have h1:=znV a.1 hin hpos
   rcases hin with h2|⟨h2,h3⟩
   ·exact .inl h2
   ·rw[←h3] at h1 ⊢
    exact zoC hd.cl h2 h1
  have h2:Hd w (w.length*4+2) t:= .inr ⟨c,zr9 hc,hdt,hb⟩
  rcases ht with h3|⟨h3,h4⟩
  ·exact hdt h3
  ·rw[←h4] at h2
   have h5:=zoC hd.cl h3 h2
   rw[h4] at h5
   have:=(zk6 a.2 (.inr ⟨h3,h4⟩) h5).1
   omega
section
variable {w:List Data} (hs:Spa w)
include hs
theorem ziZ:∀(n:Nat){t:Ty}{p:Pat},InS (w.length*4) t→zak w n t p=true→dv (zaj w) t=0→za5 w (zaj w) n t p=true
 |0,t,p,_,h,_=>by simp[zak] at h
 |n+1,t,p,ht,h,h0=>by
  rcases zca h with h1|h3|h4
  ·rw[zhG h1];exact decide_eq_true h0
  ·have:=(zcz h h3).1
   unfold dv at h0;rw[if_pos this] at h0;omega
  ·obtain⟨m1,m2,m3,m4⟩:=za4 h h4
   obtain⟨i,h5,h6⟩:=zuV hs.dp ht m1 h0
   rw[m4]
   have hk:=zbr h (i:=i) (by omega)
   rw[zbD h4] at hk
   exact zgN (by omega) m3 (ziZ n (zbY hs.dp ht m1 _ (zaf h5)) hk h6)
theorem znh:∀(n k:Nat){t:Ty}{a b x:Pat},InS (w.length*4) t→zak w n t a=true→zak w n t b=true→za5 w (zaj w) n t a=true→zaP k a b=some x→za5 w (zaj w) n t x=true
 |0,k,t,a,b,x,_,h,_,_,_=>by simp[zak] at h
 |n+1,0,t,a,b,x,_,_,_,_,h=>by simp[zaP] at h
 |n+1,k+1,t,a,b,x,ht,ha,hb,hd,h=>by
  by_cases h1:a.op=1
  ·rw[zlq h1] at h;cases h
   rw[zhG h1] at hd
   exact ziZ hs (n+1) ht hb (of_decide_eq_true hd)
  by_cases h2:b.op=1
  ·rw[zlr h1 h2] at h;cases h;exact hd
  by_cases h3:a.op=3
  ·rw[zmn ha h3] at hd;cases hd
  have h4:a.op=4:=by have:=zca ha;omega
  have hso:=zdQ ha hb h1 h2
  by_cases hc:a.ctor=b.ctor
  ·rw[zlt h4 h2 hc] at h
   obtain⟨m1,m2,m3,m4⟩:=za4 ha h4
   obtain⟨n1,n2,n3,n4⟩:=za4 hb (by omega)
   rw[←hc] at n3
   cases hl:zcL (zaP k) a.kids b.kids [] with
   |none=>rw[hl] at h;cases h
   |some l=>
    rw[hl] at h
    simp only[Option.map_some,Option.some.injEq] at h
    subst h
    obtain⟨r,e,hr,hm⟩:=zin (by omega) hl
    rw[List.nil_append] at e
    subst e
    obtain⟨i,hi,hde⟩:=zoq ha h4 hd
    have ka:=zbr ha (i:=i) hi
    have kb:=zbr hb (i:=i) (by omega)
    rw[zbD h4] at ka
    rw[zbD (by omega),←hc] at kb
    exact zgN (i:=i) (by omega) (by omega) (znh n k (zbY hs.dp ht m1 _ (zaf (by omega))) ka kb hde (hm i hi))
  ·rw[zjJ h4 h2 hc] at h;cases h
theorem zpx {f:Ty→Pat→Pat→List Pat}{m:Nat}{t:Ty}{c:Int} (ht:InS (w.length*4) t) (hc:c∈zam w t):
  ∀(i:Nat){xs bs front:List Pat},front.length=i→xs.length+i=(zab w t c).length→bs.length=xs.length→
   (∀j,j<xs.length→zak w m (nth (zab w t c) (i+j)) (nth xs j)=true∧zak w m (nth (zab w t c) (i+j)) (nth bs j)=true∧(za5 w (zaj w) m (nth (zab w t c) (i+j)) (nth xs j)=true→∀z∈f (nth (zab w t c) (i+j)) (nth xs j) (nth bs j),za5 w (zaj w) m (nth (zab w t c) (i+j)) z=true))→
   ((∃j,j<i∧za5 w (zaj w) m (nth (zab w t c) j) (nth front j)=true)∨∃j,j<xs.length∧za5 w (zaj w) m (nth (zab w t c) (i+j)) (nth xs j)=true)→
   ∀x∈za8 f c ((zab w t c).drop i) xs bs front,za5 w (zaj w) (m+1) t x=true:=by
 intro i xs
 induction xs generalizing i with
 |nil=>
  intro bs front _ _ _ _ _ x hx
  cases hT:(zab w t c).drop i<;>(rw[hT] at hx;simp[za8] at hx)
 |cons a0 s ih=>
  intro bs front hfl hal hbl hab hde x hx
  cases bs with
  |nil=>simp at hbl
  |cons b0 q=>
   have hi:i<(zab w t c).length:=by simp at hal;omega
   rw[zaV hi] at hx
   have h0:=hab 0 (by simp)
   simp only[Nat.add_zero] at h0
   have e0:nth (a0::s) 0=a0:=rfl
   have e1:nth (b0::q) 0=b0:=rfl
   rw[e0,e1] at h0
   unfold za8 at hx
   have f1:∀z j,j<i→nth (front++[z]++s) j=nth front j:=fun z j hj=>by
    simp only[nth,List.getD,List.append_assoc]
    rw[List.getElem?_append_left (by omega)]
   have f2:∀z,nth (front++[z]++s) i=z:=fun z=>by
    simp only[nth,List.getD,List.append_assoc]
    rw[List.getElem?_append_right (by omega),show i-front.length=0 by omega];rfl
   have f3:∀z k,nth (front++[z]++s) (i+1+k)=nth (a0::s) (k+1):=fun z k=>by
    simp only[nth,List.getD,List.append_assoc]
    rw[List.getElem?_append_right (by omega),show i+1+k-front.length=k+1 by omega];rfl
   have hfl2:∀z,(front++[z]++s).length=(zab w t c).length:=fun z=>by simp at hal ⊢;omega
   rcases List.mem_append.1 hx with hx|hx
   ·obtain⟨z,hz,rfl⟩:=List.mem_map.1 hx
    rcases hde with ⟨j,hj,hd⟩|⟨j,hj,hd⟩
    ·exact zgN (i:=j) (by rw[hfl2];omega) (hfl2 z) (by rw[f1 z j hj];exact hd)
    ·cases j with
     |zero=>exact zgN (i:=i) (by rw[hfl2];omega) (hfl2 z) (by rw[f2 z];exact h0.2.2 hd z hz)
     |succ k=>exact zgN (i:=i+1+k) (by rw[hfl2];simp at hj;simp at hal;omega) (hfl2 z) (by rw[f3 z k,show i+1+k=i+(k+1) by omega];exact hd)
   ·cases hm:zaP 11 a0 b0 with
    |none=>rw[hm] at hx;simp at hx
    |some both=>
     rw[hm] at hx
     refine ih (i+1) (bs:=q) (front:=front++[both]) (by simp[hfl]) (by simp at hal ⊢;omega) (by simpa using hbl) (fun j hj=>?_) ?_ x hx
     ·have:=hab (j+1) (by simpa using hj)
      rwa [show i+(j+1)=i+1+j by omega] at this
     ·rcases hde with ⟨j,hj,hd⟩|⟨j,hj,hd⟩
      ·refine .inl ⟨j,by omega, ?_⟩
       have e:nth (front++[both]) j=nth front j:=by
        simp only[nth,List.getD]
        rw[List.getElem?_append_left (by omega)]
       rw[e];exact hd
      ·cases j with
       |zero=>
        refine .inl ⟨i,by omega, ?_⟩
        have e:nth (front++[both]) i=both:=by
         simp only[nth,List.getD]
         rw[List.getElem?_append_right (by omega),show i-front.length=0 by omega];rfl
        rw[e]
        exact znh hs m 11 (zbY hs.dp ht hc _ (zaf hi)) h0.1 h0.2.1 hd hm
       |succ k=>
        refine .inr ⟨k,by simpa using hj, ?_⟩
        rw[show i+1+k=i+(k+1) by omega];exact hd
theorem zlw:∀(n m:Nat){t:Ty}{a b:Pat},n<m→InS (w.length*4) t→zak w m t a=true→zak w n t b=true→za5 w (zaj w) m t a=true→∀x∈zav w n t a b,za5 w (zaj w) m t x=true
 |0,m,t,a,b,_,_,_,hb,_=>by simp[zak] at hb
 |n+1,0,t,a,b,hn,_,_,_,_=>by omega
 |n+1,m+1,t,a,b,hn,ht,ha,hb,hd=>by
  have hcc:∀a,zak w (m+1) t a=true→a.op=4→b.op=4→za5 w (zaj w) (m+1) t a=true→∀x∈zdh (zav w n) w t a b,za5 w (zaj w) (m+1) t x=true:=fun a ha h4 h4b hd=>by
   obtain⟨m1,m2,m3,m4⟩:=za4 ha h4
   obtain⟨n1,n2,n3,n4⟩:=za4 hb h4b
   intro x hx
   unfold zdh at hx
   split at hx
   ·rename_i hc
    obtain⟨j,hj,hdj⟩:=zoq ha h4 hd
    refine zpx hs ht m1 0 (xs:=a.kids) (bs:=b.kids) (front:=[]) rfl (by omega) (by rw[hc] at m3;omega) (fun j hj=>?_) (.inr ⟨j,hj,by rw[Nat.zero_add];exact hdj⟩) x hx
    have ka:=zbr ha (i:=j) hj
    have kb:=zbr hb (i:=j) (by rw[hc] at m3;omega)
    rw[zbD h4] at ka
    rw[zbD h4b,←hc] at kb
    rw[Nat.zero_add]
    exact⟨ka,zjL (by omega) kb,fun hdk z hz=>zlw n m (by omega) (zbY hs.dp ht m1 _ (zaf (by omega))) ka kb hdk z hz⟩
   ·rw[List.mem_singleton] at hx
    rw[hx];exact hd
  rcases zca hb with h1|h3|h4
  ·rw[zgz h1];simp
  ·have hl:=zoI ha (zcz hb h3).1
   rcases zca ha with h|h|h
   ·rw[zhG h] at hd
    have:=of_decide_eq_true hd
    unfold dv at this;rw[if_pos (zcz hb h3).1] at this;omega
   ·rw[zmn ha h] at hd;cases hd
   ·exact absurd (zcz hb h3).1 (za4 ha h).2.1
  ·by_cases ha1:a.op=1
   ·rw[zhM h4 ha1]
    rw[zhG ha1] at hd
    intro x hx
    obtain⟨c,hc,hx⟩:=List.mem_flatMap.1 hx
    obtain⟨k,rfl⟩:∃k,m=k+1:=⟨m-1,by omega⟩
    exact hcc _ (zdR hc) rfl h4 (ziZ hs _ ht (zdR hc) (of_decide_eq_true hd)) x hx
   ·have ha4:a.op=4:=by have:=zdQ ha hb ha1 (by omega);omega
    rw[zej h4 ha4]
    exact hcc a ha ha4 h4 hd
end
def zbK (w:List Data) (t:Ty) (p:Pat):Bool:= !za5 w (zaj w) 11 t p
def zb3 (w:List Data) (t:Ty) (l:List Pat) (b:Pat):List Pat:=(l.flatMap fun a=>zav w 10 t a b).filter (zbK w t)
def subL (w:List Data) (t:Ty):List Pat→List Pat→Option (List Pat)
 |l,[]=>some l
 |l,b::r=>if (zb3 w t l b).length≤400 then subL w t (zb3 w t l b) r else none
def zaE (w:List Data) (t:Ty) (l away:List Pat):Option (List Pat):=subL w t (l.filter (zbK w t)) away
theorem zoQ {w:List Data} (hs:Spa w){t:Ty} (ht:InS (w.length*4) t){l:List Pat}{b:Pat} (hl:∀a∈l,zak w 11 t a=true) (hb:zak w 10 t b=true):zb3 w t (l.filter (zbK w t)) b=zb3 w t l b:=by
 unfold zb3
 induction l with
 |nil=>rfl
 |cons a r ih=>
  have ih':=ih (fun x hx=>hl x (by simp[hx]))
  rw[List.flatMap_cons,List.filter_append]
  by_cases h:zbK w t a=true
  ·rw[List.filter_cons_of_pos h,List.flatMap_cons,List.filter_append,ih']
  ·rw[List.filter_cons_of_neg h,ih']
   have hd:za5 w (zaj w) 11 t a=true:=by unfold zbK at h;simpa using h
   have:(zav w 10 t a b).filter (zbK w t)=[]:=by
    rw[List.filter_eq_nil_iff]
    intro x hx
    have:=zlw hs 10 11 (by omega) ht (hl a (by simp)) hb hd x hx
    unfold zbK;rw[this];simp
   rw[this,List.nil_append]
theorem zj7 {w:List Data}{t:Ty}{l:List Pat}{b:Pat}:(zb3 w t l b).filter (zbK w t)=zb3 w t l b:=by
 unfold zb3;rw[List.filter_filter];simp
theorem zl3 {w:List Data}{t:Ty}:∀(away:List Pat){l:List Pat},l.filter (zbK w t)=l→(subL w t l away).map (List.filter (zbK w t))=subL w t l away
 | [],l,h=>by simp only[subL,Option.map_some,h]
 |b::r,l,h=>by
  unfold subL
  split
  ·exact zl3 r zj7
  ·rfl
theorem zr0 {w:List Data} (hs:Spa w){t:Ty} (ht:InS (w.length*4) t){l away:List Pat} (hl:∀a∈l,zak w 11 t a=true) (hb:∀b∈away,zak w 10 t b=true):(subL w t l away).map (List.filter (zbK w t))=zaE w t l away:=by
 unfold zaE
 cases away with
 |nil=>rfl
 |cons b r=>
  unfold subL
  rw[zoQ hs ht hl (hb b (by simp))]
  split
  ·exact zl3 r zj7
  ·rfl
theorem zgb {w:List Data}{t:Ty}{l:List Pat}{b:Pat} (hl:∀a∈l,zak w 11 t a=true) (hb:zak w 10 t b=true):∀x∈zb3 w t l b,zak w 11 t x=true:=fun x hx=>by
 unfold zb3 at hx
 obtain⟨a,ha,hx⟩:=List.mem_flatMap.1 (List.mem_filter.1 hx).1
 exact zga 10 11 (by omega) (hl a ha) hb x hx
theorem zkw {n:Nat} (h0:0<n) (hb:n≤1000000):FnD Tryz.prog 242 [.nils,.d (.i (n:Int))] [] (.gv 9 []) [(9,some (.tok 0 6))]:=by
 refine bd Tryz.f242 27 [12,24] [] fun w0 F0 own kept hk=>?_
 refine sq (fun h1 h1p h1s=>?_) fun h1 h1p h1s=>?_
 try simp only[Q] at h1p
 exfalso;omega
 try simp only[Q] at h1p
 refine Walk.capN sl45 .none rfl rfl ?_
 refine evs [12,24] [] ?_
 refine Walk.lenN sl45 .none rfl rfl ?_
 refine evs [12,24] [] ?_
 refine ar ?_
 refine ar ?_
 refine sq (fun h2 h2p h2s=>?_) fun h2 h2p h2s=>?_
 try simp only[Q] at h2p
 refine Walk.capN sl45 .none rfl rfl ?_
 refine Walk.cutN_h sl45 .none rfl rfl rfl ?_
 refine evs [12,24] [] ?_
 refine Walk.growZ (n:=n) 8 sl45 Tryz.underlying3 tz56 rfl (by decide) rfl .none rfl rfl rfl (by simp) h0 (by omega) (by omega) rfl ?_
 refine evs [12,24] [] ?_
 refine Walk.lenN sl45 .none rfl rfl ?_
 refine Walk.cutV_h 9 (b:=0) sl45 .none rfl rfl (zaw rfl (by first|rfl|(simp;done)|(simp;omega))) rfl rfl (Nat.zero_le _) (by rw[List.length_replicate];exact h0) rfl ?_
 refine evs [12,24] [] ?_
 focus (refine rn [(9,some (.tok 0 6))] (r1 rfl) (.gvg ?_) ⟨rfl,rfl⟩ (SubH.get ⟨rfl,trivial⟩) (zaB rfl);all_goals (first|rfl|(simp[h1s,h1p,h2s,h2p];done)|(simp_all;done)|(simp_all;omega)|omega))
 try simp only[Q] at h2p
 focus (exfalso;simp at h2;all_goals omega)
abbrev zsX (ls:List (List Pat)):D:= .sl (ls.map fun l=>[zae l])
theorem zjo {ls:List (List Pat)} (hl:ls.length≤1000) (h0:0<ls.flatten.length) (hb:ls.flatten.length≤1000000):FnD Tryz.prog 189 [.d (zsX ls)] [] (.d (zae ls.flatten)) []:=by
 have key:∀ {pre rest:List (List Pat)}{y:List Pat},pre++y::rest=ls→pre.flatten.length+y.length≤ls.flatten.length:=fun h=>by
  rw[←h];simp
 refine FnD.gvD (i:=9) (k:=6) ?_
 refine bd Tryz.f189 36 [] [] fun w0 F0 own kept hk=>?_
 refine CWp.loopX (ι:=List (List Pat)×List (List Pat)) hk (fun x=>[(11,.d (.i (x.1.length:Int))),(3,.d (.i (x.1.flatten.length:Int)))]) [5,12,13,14,15,16,17,18,19,20,21,22] (fun x=>[]) (fun x=>x.1++x.2=ls) (fun x=>x.2.length) ([],ls) (by simp) ⟨⟨_,rfl,LeA.eqi ?_⟩,⟨⟨_,rfl,LeA.eqi ?_⟩,trivial⟩⟩ trivial (fun x=>rfl) (fun x hg1=>?_)
 iterate 2 focus (first|rfl|(simp[Pat.cs_len];done)|omega)
 obtain⟨pre,rest⟩:=x
 dsimp only at hg1 ⊢
 refine evc [] [] ?_
 refine sq (fun h1 h1p h1s=>?_) fun h1 h1p h1s=>?_
 try simp only[Q,Pat.cs_len] at h1p
 rcases rest with _|⟨y,rest⟩
 ·exfalso;simp_all
 refine Walk.idx zdX .none rfl rfl rfl rfl (zaD hg1) rfl ?_
 refine ev ?_
 refine ar ?_ (by first|(have h9:=key hg1;constructor<;>first|omega|(simp only[Pat.cs_len];omega))|(constructor<;>omega))
 refine sq (fun h2 h2p h2s=>?_) fun h2 h2p h2s=>?_
 try simp only[Q,Pat.cs_len] at h2p
 exfalso;have:=key hg1;omega
 try simp only[Q,Pat.cs_len] at h2p
 refine ar ?_ (by first|(have h9:=key hg1;constructor<;>first|omega|(simp only[Pat.cs_len];omega))|(constructor<;>omega))
 refine Exists.intro ((pre++[y],rest)) ⟨(by have hz:=hg1;rw[←hz];simp),(by simp),sx ⟨⟨_,rfl,LeA.eqi ?_⟩,⟨⟨_,rfl,LeA.eqi ?_⟩,trivial⟩⟩ trivial⟩
 iterate 2 focus (first|rfl|(simp[Pat.cs_len];done)|omega)
 try simp only[Q,Pat.cs_len] at h1p
 have hrest:rest=[]:=by
  rcases rest with _|⟨a,b⟩
  ·rfl
  ·exfalso;have hz:=congrArg List.length (hg1);simp only[List.length_append,List.length_cons,List.length_map] at hz;omega
 subst hrest
 refine Walk.call (cr:=[9]) zup (zkw (n:=pre.flatten.length) (by rw[List.append_nil] at hg1;rw[hg1];exact h0) (by rw[List.append_nil] at hg1;rw[hg1];exact hb)) rfl .none rfl rfl (LeL.refl _) trivial rfl rfl rfl ?_
 refine ev ?_
 refine CWp.loopX (ι:=List (List Pat)×List (List Pat)) hk (fun x=>[(27,.d (.i (x.1.length:Int))),(6,.gv 9 (Pat.cs x.1.flatten))]) [8,28,29,30,31,32,33,34] (fun x=>[(9,some (.tok (Pat.cs x.1.flatten).length 6))]) (fun x=>x.1++x.2=ls) (fun x=>x.2.length) ([],ls) (by simp) ⟨⟨_,rfl,LeA.eqi ?_⟩,⟨⟨_,rfl,LeA.gvg ?_⟩,trivial⟩⟩ ⟨zaa ?_,trivial⟩ (fun x=>rfl) (fun x hg2=>?_)
 iterate 3 focus (first|rfl|(simp[Pat.cs_cd];done)|omega|(simp;omega))
 obtain⟨pre,rest⟩:=x
 dsimp only at hg2 ⊢
 refine evc [] [] ?_
 refine sq (fun h3 h3p h3s=>?_) fun h3 h3p h3s=>?_
 try simp only[Q,Pat.cs_len] at h3p
 rcases rest with _|⟨y,rest⟩
 ·exfalso;simp_all
 refine Walk.idx zdX .none rfl rfl rfl rfl (zaD hg2) rfl ?_
 refine ev ?_
 refine Walk.appendV sl45 zz56 .none rfl rfl rfl rfl (zaw rfl (by first|rfl|(simp;done)|(simp;omega))) (by exact zbb _) (by have:=key hg2;simp only[Pat.cs_len];omega) (by have:=key hg2;simp only[Pat.cs_len];omega) ?_
 refine ev ?_
 refine ar ?_ (by first|(have h9:=key hg1;constructor<;>first|omega|(simp only[Pat.cs_len];omega))|(constructor<;>omega))
 refine Exists.intro ((pre++[y],rest)) ⟨(by have hz:=hg2;rw[←hz];simp),(by simp),sx ⟨⟨_,rfl,LeA.eqi ?_⟩,⟨⟨_,rfl,LeA.gvg ?_⟩,trivial⟩⟩ ⟨zaa ?_,trivial⟩⟩
 iterate 3 focus (first|rfl|(simp[Pat.cs_cd];done)|omega|(simp;omega))
 try simp only[Q,Pat.cs_len] at h3p
 have hrest:rest=[]:=by
  rcases rest with _|⟨a,b⟩
  ·rfl
  ·exfalso;have hz:=congrArg List.length (hg2);simp only[List.length_append,List.length_cons,List.length_map] at hz;omega
 subst hrest
 refine rn [(9,some (.tok (Pat.cs ls.flatten).length 6))] (r1 rfl) (.gvg ?_) ⟨rfl,rfl⟩ (SubH.get ⟨?_,trivial⟩) (zaB rfl)
 rotate_left 2
 all_goals (first|((first|rfl|(rw[List.append_nil] at hg2;rw[hg2]));done)|(rw[List.append_nil] at hg2;subst hg2;rfl))
def zbz (l:List Int):Nat→List Pat
 |0=>[]
 |n+1=>zbz l n++zcc (nth l (2*n)) (nth l (2*n+1))
theorem zgT (l:List Int):∀n,(zbz l n).length≤n
 |0=>by simp[zbz]
 |n+1=>by
  have:=zgT l n
  simp only[zbz,zcc,List.length_append]
  split<;>simp<;>omega
theorem zco {l:List Int}{n:Nat} (h:nth l (2*n)≤nth l (2*n+1)):zbz l (n+1)=zbz l n++[intQ (nth l (2*n)) (nth l (2*n+1))]:=by simp[zbz,zcc,h]
theorem zdP {l:List Int}{n:Nat} (h:¬nth l (2*n)≤nth l (2*n+1)):zbz l (n+1)=zbz l n:=by simp only[zbz,zcc,if_neg h,List.append_nil]
theorem zoY (a b:Int):zbz [a,b] 1=zcc a b:=by simp[zbz,nth]
theorem zsy (a b c d:Int):zbz [a,b,c,d] 2=zcc a b++zcc c d:=by simp[zbz,nth]
theorem zlf {p:Pat}:FnD Tryz.prog 186 [.agg [.d (.i p.op),.d (.i p.ctor),.d (.i p.n),.d (.i p.m),.d (.i p.var),.d (zae p.kids)]] [] (.tup [.d (.i (lowQ p)),.d (.i (zdf p))]) []:=by
 by_cases h:p.op=1
 ·have e1:lowQ p=0:=if_pos h
  have e2:zdf p=9:=if_pos h
  rw[e1,e2]
  refine bd Tryz.f186 11 [] [] fun w0 F0 own kept hk=>?_
  refine Walk.box (id:=3001) .none rfl rfl rfl rfl rfl rfl rfl ?_
  refine ev ?_
  refine sq (fun h1 h1p h1s=>?_) fun h1 h1p h1s=>?_
  try simp only[Q] at h1p
  focus (refine rn0 (r2 rfl rfl) (.tup (.cons (.eqd ?_) (.cons (.eqd ?_) .nil)));all_goals (first|rfl|(simp[h1s,h1p];done)|(simp_all;done)|(simp_all;omega)|omega))
  try simp only[Q] at h1p
  exfalso;omega
 ·skip
  have e1:lowQ p=p.n:=if_neg h
  have e2:zdf p=p.m:=if_neg h
  rw[e1,e2]
  refine bd Tryz.f186 11 [] [] fun w0 F0 own kept hk=>?_
  refine Walk.box (id:=3001) .none rfl rfl rfl rfl rfl rfl rfl ?_
  refine ev ?_
  refine sq (fun h1 h1p h1s=>?_) fun h1 h1p h1s=>?_
  try simp only[Q] at h1p
  exfalso;omega
  try simp only[Q] at h1p
  refine dr ?_
  focus (refine rn0 (r2 rfl rfl) (.tup (.cons (.eqd ?_) (.cons (.eqd ?_) .nil)));all_goals (first|rfl|(simp[h1s,h1p];done)|(simp_all;done)|(simp_all;omega)|omega))
theorem zfl {l:List Int}{n:Nat} (hl:l.length=2*n) (hb:n≤1000):FnD Tryz.prog 187 [.d (zcx l)] [] (.d (zae (zbz l n))) []:=by
 refine bd Tryz.f187 35 [3] [] fun w0 F0 own kept hk=>?_
 refine Walk.assignNil 9 6 .none rfl rfl ?_
 refine tv ?_
 refine CWp.loopX (ι:=Nat) hk (fun i=>[(4,.d (.i ((2*i:Nat):Int))),(3,.gl 9 (Pat.cs (zbz l i)))]) [5,6,7,8,9,10,11,12,13,14,15,16,17,18,19,20,21,22,23,24,25,26,27,28,29,30,31,32,33] (fun i=>[(9,some (.tok ((Pat.cs (zbz l i))).length 6))]) (fun i=>i≤n) (fun i=>n-i) 0 (by omega) ⟨⟨_,rfl,LeA.eqi ?_⟩,⟨⟨_,rfl,LeA.glg ?_⟩,trivial⟩⟩ ⟨zaa ?_,trivial⟩ (fun x=>rfl) (fun i hg1=>?_)
 iterate 3 focus (first|rfl|(simp;done)|(rw[zco (by assumption),Pat.cs_cd,Pat.cs_cd,List.map_append];rfl)|(rw[zdP (by assumption)];done)|(rw[zdP (by omega)];done)|(rw[zco (by assumption)];simp[Pat.cs_len];done)|(rw[zco (by omega)];simp[Pat.cs_len];done)|omega|(simp;omega))
 refine evc [3] [] ?_
 refine sq (fun h1 h1p h1s=>?_) fun h1 h1p h1s=>?_
 try simp only[Q] at h1p
 refine Walk.idx (i:=2*i) za0 .none rfl rfl rfl rfl (zaq (by omega)) rfl ?_
 refine evd [3] [] ?_
 refine ar ?_
 refine Walk.idx (i:=2*i+1) za0 .none rfl rfl rfl rfl (zaq (by omega)) rfl ?_
 refine evd [3] [] ?_
 refine dr ?_
 refine sq (fun h2 h2p h2s=>?_) fun h2 h2p h2s=>?_
 try simp only[Q] at h2p
 refine Walk.idx (i:=2*i) za0 .none rfl rfl rfl rfl (zaq (by omega)) rfl ?_
 refine evd [3] [] ?_
 refine ar ?_
 refine Walk.idx (i:=2*i+1) za0 .none rfl rfl rfl rfl (zaq (by omega)) rfl ?_
 refine evd [3] [] ?_
 refine Walk.build st56 (ks:=[0,2,3]) (xs:=[_,_,_]) rfl rfl .none rfl rfl rfl ?_
 refine Walk.sliceLit sl45 tz56 rfl (by decide) (ks:=[0]) (xs:=[_]) rfl rfl (by decide) (by decide) .none rfl rfl rfl rfl ?_
 refine Walk.append sl45 zz56 rfl .none rfl rfl rfl rfl (zaw rfl (by first|rfl|(simp;done)|(simp;omega))) (by first|exact zbb _|(intro x hx;simp at hx;subst hx;rfl)) (by have:=zgT l i;simp[Pat.cs_len];omega) (by have:=zgT l i;simp[Pat.cs_len];omega) ?_
 refine asg ?_
 refine dr ?_
 refine ar ?_
 refine Exists.intro (i+1) ⟨(by omega),(by omega),sx ⟨⟨_,rfl,LeA.eqi ?_⟩,⟨⟨_,rfl,LeA.glg ?_⟩,trivial⟩⟩ ⟨zaa ?_,trivial⟩⟩
 iterate 3 focus (first|rfl|(simp;done)|(rw[zco (by assumption),Pat.cs_cd,Pat.cs_cd,List.map_append];rfl)|(rw[zdP (by assumption)];done)|(rw[zdP (by omega)];done)|(rw[zco (by assumption)];simp[Pat.cs_len];done)|(rw[zco (by omega)];simp[Pat.cs_len];done)|omega|(simp;omega))
 try simp only[Q] at h2p
 refine ar ?_
 refine Exists.intro (i+1) ⟨(by omega),(by omega),sx ⟨⟨_,rfl,LeA.eqi ?_⟩,⟨⟨_,rfl,LeA.glg ?_⟩,trivial⟩⟩ ⟨zaa ?_,trivial⟩⟩
 iterate 3 focus (first|rfl|(simp;done)|(rw[zco (by assumption),Pat.cs_cd,Pat.cs_cd,List.map_append];rfl)|(rw[zdP (by assumption)];done)|(rw[zdP (by omega)];done)|(rw[zco (by assumption)];simp[Pat.cs_len];done)|(rw[zco (by omega)];simp[Pat.cs_len];done)|omega|(simp;omega))
 try simp only[Q] at h1p
 refine rn0 (r1 rfl) (.gld ?_)
 rotate_left
 all_goals (first|rfl|(have e:i=n:=(by omega);rw[e]))
theorem znI {w:List Data} (hw:WT w){f:Nat→Nat}{a k c:Int} (ht:TyIn w.length ⟨a,k⟩) (hc:c∈zam w ⟨a,k⟩) (hl:(zab w ⟨a,k⟩ c).length≤3):FnD Tryz.prog 188 [.d (sPtr w f),.agg [.d (.i a),.d (.i k)],.d (.i c)] []
  (.agg [.d (.i 4),.d (.i c),.d (.i 0),.d (.i 0),.d (.i 0),.d (zae (zce w ⟨a,k⟩ c).kids)]) []:=by
 refine bd Tryz.f188 28 [] [] fun w0 F0 own kept hk=>?_
 refine Walk.box (id:=3004) .none rfl rfl rfl rfl rfl rfl rfl ?_
 refine Walk.alloc (id:=3006) tz56 rfl .none rfl rfl rfl rfl ?_
 refine tv ?_
 refine Walk.build st56 (ks:=[0,1]) (xs:=[_,_]) rfl rfl .none rfl rfl rfl ?_
 refine Walk.alloc (id:=3007) tz56 rfl .none rfl rfl rfl rfl ?_
 refine Walk.store ty56 .none rfl rfl rfl rfl rfl rfl (by simp) rfl ?_
 refine tv ?_
 refine wc ziR (zdg hw ht hc) rfl rfl ?_
 refine evd [] [] ?_
 refine dr ?_
 refine CWp.tokB 3007 5 9 6 rfl rfl rfl rfl ?_
 refine CWp.loopX (ι:=List (Ty)×List (Ty)) hk (fun x=>[(18,.d (.i (x.1.length:Int)))]) [19,20,21,22,23,24,25,26] (fun x=>[(3007,some (.box [.d (.i 4),.d (.i c),.d (.i 0),.d (.i 0),.d (.i 0),.gl 9 ((x.1.map fun _=>anyQ).map Pat.cc)])),(9,some (.tok ((x.1.map fun _=>anyQ).map Pat.cc).length 6))]) (fun x=>x.1++x.2=zab w ⟨a,k⟩ c) (fun x=>x.2.length) ([],zab w ⟨a,k⟩ c) (by simp) ⟨⟨_,rfl,LeA.eqi ?_⟩,trivial⟩ ⟨?_,⟨zaa ?_,trivial⟩⟩ (fun x=>rfl) (fun x hg1=>?_)
 focus (first|rfl|(simp;done)|(simp;exact⟨rfl,rfl,rfl,rfl,rfl,rfl⟩)|omega|(simp;omega))
 focus (first|rfl|(simp[getH];done)|(simp[getH];exact⟨rfl,rfl,rfl,rfl,rfl,rfl⟩))
 focus (first|rfl|(simp;done)|(simp;exact⟨rfl,rfl,rfl,rfl,rfl,rfl⟩)|omega|(simp;omega))
 obtain⟨pre,rest⟩:=x
 dsimp only at hg1 ⊢
 refine evc [] [] ?_
 refine sq (fun h1 h1p h1s=>?_) fun h1 h1p h1s=>?_
 try simp only[Q] at h1p
 rcases rest with _|⟨y,rest⟩
 ·exfalso;simp_all
 refine wc zkY (zcF) rfl rfl ?_
 refine Walk.sliceLit sl45 tz56 rfl (by decide) (ks:=[0]) (xs:=[_]) rfl rfl (by decide) (by decide) .none rfl rfl rfl rfl ?_
 refine Walk.append sl45 zz56 rfl .none rfl rfl rfl rfl (zaw rfl (by first|rfl|(simp;done)|(simp;omega))) (by intro x hx;first|(simp at hx;subst hx;rfl)|exact zby _ x hx) (by have:=congrArg List.length hg1;simp at this;simp;omega) (by have:=congrArg List.length hg1;simp at this;simp;omega) ?_
 refine evd [] [] ?_
 refine Walk.store ty45 .none rfl rfl rfl rfl rfl rfl (by simp) rfl ?_
 refine dr ?_
 refine ar ?_
 refine Exists.intro ((pre++[y],rest)) ⟨(by have hz:=hg1;rw[←hz];simp),(by simp),sx ⟨⟨_,rfl,LeA.eqi ?_⟩,trivial⟩ ⟨?_,⟨zaa ?_,trivial⟩⟩⟩
 focus (first|rfl|(simp;done)|(simp;exact⟨rfl,rfl,rfl,rfl,rfl,rfl⟩)|omega|(simp;omega))
 focus (first|rfl|(simp[getH];done)|(simp[getH];exact⟨rfl,rfl,rfl,rfl,rfl,rfl⟩))
 focus (first|rfl|(simp;done)|(simp;exact⟨rfl,rfl,rfl,rfl,rfl,rfl⟩)|omega|(simp;omega))
 try simp only[Q] at h1p
 have hrest:rest=[]:=by
  rcases rest with _|⟨a,b⟩
  ·rfl
  ·exfalso;have hz:=congrArg List.length (hg1);simp only[List.length_append,List.length_cons,List.length_map] at hz;omega
 subst hrest
 refine Walk.store ty56 .none rfl rfl rfl rfl rfl rfl (by simp) rfl ?_
 refine tv ?_
 refine rn0 (.cons (.cellA ty56 rfl rfl rfl) .nil) (.agg (.cons (.eqd ?_) (.cons (.eqd ?_) (.cons (.eqd ?_) (.cons (.eqd ?_) (.cons (.eqd ?_) (.cons (.gld ?_) .nil)))))))
 rotate_left 6
 all_goals (first|rfl|(rw[List.append_nil] at hg1;subst hg1;rw[←Pat.cs_cd];all_goals rfl))
def zcW (n:Nat) (a b:Pat):Pat:=(zaP n a b).getD zs9
theorem zcC {n:Nat}{a b x:Pat} (h:zaP n a b=some x):zcW n a b=x:=by unfold zcW;rw[h];rfl
theorem ze1 {n:Nat}{a b:Pat} (h:zaP n a b=none):zcW n a b=zs9:=by unfold zcW;rw[h];rfl
theorem zmA {n:Nat}{a b:Pat} (h:(zaP n a b).isSome=true):zaP n a b=some (zcW n a b):=by
 unfold zcW
 cases e:zaP n a b with
 |none=>rw[e] at h;cases h
 |some x=>rfl
theorem zmB {n:Nat}{a b:Pat} (h:(zaP n a b).isSome=false):zaP n a b=none:=by
 cases e:zaP n a b with
 |none=>rfl
 |some x=>rw[e] at h;cases h
theorem zi7 {w:List Data} (hs:Spa w){f:Nat→Nat}:∀(n m:Nat){ta tk:Int}{a b:Pat},m≤n→InS (w.length*4) ⟨ta,tk⟩→zak w m ⟨ta,tk⟩ a=true→zak w m ⟨ta,tk⟩ b=true→
  FnD Tryz.prog 190 [.d (sPtr w f),.agg [.d (.i ta),.d (.i tk)],.agg [.d (.i a.op),.d (.i a.ctor),.d (.i a.n),.d (.i a.m),.d (.i a.var),.d (zae a.kids)],.agg [.d (.i b.op),.d (.i b.ctor),.d (.i b.n),.d (.i b.m),.d (.i b.var),.d (zae b.kids)]] []
   (.tup [.agg [.d (.i (zcW n a b).op),.d (.i (zcW n a b).ctor),.d (.i (zcW n a b).n),.d (.i (zcW n a b).m),.d (.i (zcW n a b).var),.d (zae (zcW n a b).kids)],.d (.bool (zaP n a b).isSome)]) []
 |n,0,ta,tk,a,b,_,_,ha,_=>by simp[zak] at ha
 |0,m+1,ta,tk,a,b,h,_,_,_=>by omega
 |n+1,m+1,ta,tk,a,b,hnm,ht,ha,hb=>by
  by_cases h1:a.op=1
  ·have e:=zlq (n:=n) (b:=b) h1
   rw[zcC e,e]
   refine bd Tryz.f190 100 [] [] fun w0 F0 own kept hk=>?_
   refine Walk.box (id:=3005) .none rfl rfl rfl rfl rfl rfl rfl ?_
   refine Walk.box (id:=3006) .none rfl rfl rfl rfl rfl rfl rfl ?_
   refine Walk.box (id:=3007) .none rfl rfl rfl rfl rfl rfl rfl ?_
   refine Walk.alloc (id:=3008) tz56 rfl .none rfl rfl rfl rfl ?_
   refine ev ?_
   refine sq (fun h1 h1p h1s=>?_) fun h1 h1p h1s=>?_
   try simp only[Q] at h1p
   refine Walk.store ty56 .none rfl rfl rfl rfl rfl rfl (by simp) rfl ?_
   refine ev ?_
   refine rn0 (.cons (.cellA ty56 rfl rfl rfl) (.cons (.tmp rfl) .nil)) (.tup (.cons (.agg (.cons (.eqd ?_) (.cons (.eqd ?_) (.cons (.eqd ?_) (.cons (.eqd ?_) (.cons (.eqd ?_) (.cons (.eqd ?_) .nil))))))) (.cons (.eqd ?_) .nil)))
   rotate_left 7
   try simp only[Q] at h1p
   exfalso;omega
   all_goals (rfl)
  by_cases h2:b.op=1
  ·have e:=zlr (n:=n) h1 h2
   rw[zcC e,e]
   refine bd Tryz.f190 100 [] [] fun w0 F0 own kept hk=>?_
   refine Walk.box (id:=3005) .none rfl rfl rfl rfl rfl rfl rfl ?_
   refine Walk.box (id:=3006) .none rfl rfl rfl rfl rfl rfl rfl ?_
   refine Walk.box (id:=3007) .none rfl rfl rfl rfl rfl rfl rfl ?_
   refine Walk.alloc (id:=3008) tz56 rfl .none rfl rfl rfl rfl ?_
   refine ev ?_
   refine sq (fun h1 h1p h1s=>?_) fun h1 h1p h1s=>?_
   try simp only[Q] at h1p
   exfalso;omega
   try simp only[Q] at h1p
   refine sq (fun h2 h2p h2s=>?_) fun h2 h2p h2s=>?_
   try simp only[Q] at h2p
   refine Walk.store ty56 .none rfl rfl rfl rfl rfl rfl (by simp) rfl ?_
   refine ev ?_
   refine rn0 (.cons (.cellA ty56 rfl rfl rfl) (.cons (.tmp rfl) .nil)) (.tup (.cons (.agg (.cons (.eqd ?_) (.cons (.eqd ?_) (.cons (.eqd ?_) (.cons (.eqd ?_) (.cons (.eqd ?_) (.cons (.eqd ?_) .nil))))))) (.cons (.eqd ?_) .nil)))
   rotate_left 7
   try simp only[Q] at h2p
   exfalso;omega
   all_goals (rfl)
  by_cases h3:a.op=3
  ·have e:=zls (n:=n) h3 h2
   by_cases hr:maxQ a.n b.n≤minQ a.m b.m
   ·rw[if_pos hr] at e
    have er:zbz [maxQ a.n b.n,minQ a.m b.m] 1=[intQ (maxQ a.n b.n) (minQ a.m b.m)]:=by rw[zoY];exact if_pos hr
    have hrg:=zfl (l:=[maxQ a.n b.n,minQ a.m b.m]) (n:=1) rfl (by omega)
    rw[er] at hrg
    rw[zcC e,e]
    refine bd Tryz.f190 100 [] [] fun w0 F0 own kept hk=>?_
    refine Walk.box (id:=3005) .none rfl rfl rfl rfl rfl rfl rfl ?_
    refine Walk.box (id:=3006) .none rfl rfl rfl rfl rfl rfl rfl ?_
    refine Walk.box (id:=3007) .none rfl rfl rfl rfl rfl rfl rfl ?_
    refine Walk.alloc (id:=3008) tz56 rfl .none rfl rfl rfl rfl ?_
    refine ev ?_
    refine sq (fun h1 h1p h1s=>?_) fun h1 h1p h1s=>?_
    try simp only[Q,Pat.cs_len] at h1p
    exfalso;omega
    try simp only[Q,Pat.cs_len] at h1p
    refine sq (fun h2 h2p h2s=>?_) fun h2 h2p h2s=>?_
    try simp only[Q,Pat.cs_len] at h2p
    exfalso;omega
    try simp only[Q,Pat.cs_len] at h2p
    refine sq (fun h3 h3p h3s=>?_) fun h3 h3p h3s=>?_
    try simp only[Q,Pat.cs_len] at h3p
    refine Walk.maxI .none rfl rfl rfl ?_
    refine ev ?_
    refine Walk.minI .none rfl rfl rfl ?_
    refine Walk.sliceLit za0 tz3 rfl (by decide) (ks:=[0,1]) (xs:=[_,_]) rfl rfl (by decide) (by decide) .none rfl rfl rfl rfl ?_
    refine wc zob (hrg) rfl rfl ?_
    refine ev ?_
    refine sq (fun h4 h4p h4s=>?_) fun h4 h4p h4s=>?_
    try simp only[Q,Pat.cs_len] at h4p
    exfalso;simp[Pat.cs_len] at h4
    try simp only[Q,Pat.cs_len] at h4p
    refine Walk.idx (i:=0) sl45 .none rfl rfl rfl rfl (rfl) rfl ?_
    refine ev ?_
    refine Walk.store ty56 .none rfl rfl rfl rfl rfl rfl (by simp) rfl ?_
    refine ev ?_
    refine rn0 (.cons (.cellA ty56 rfl rfl rfl) (.cons (.tmp rfl) .nil)) (.tup (.cons (.agg (.cons (.eqd ?_) (.cons (.eqd ?_) (.cons (.eqd ?_) (.cons (.eqd ?_) (.cons (.eqd ?_) (.cons (.eqd ?_) .nil))))))) (.cons (.eqd ?_) .nil)))
    rotate_left 7
    try simp only[Q,Pat.cs_len] at h3p
    exfalso;omega
    all_goals (rfl)
   ·skip
    rw[if_neg hr] at e
    have er:zbz [maxQ a.n b.n,minQ a.m b.m] 1=[]:=by rw[zoY];exact if_neg hr
    have hrg:=zfl (l:=[maxQ a.n b.n,minQ a.m b.m]) (n:=1) rfl (by omega)
    rw[er] at hrg
    rw[ze1 e,e]
    refine bd Tryz.f190 100 [] [] fun w0 F0 own kept hk=>?_
    refine Walk.box (id:=3005) .none rfl rfl rfl rfl rfl rfl rfl ?_
    refine Walk.box (id:=3006) .none rfl rfl rfl rfl rfl rfl rfl ?_
    refine Walk.box (id:=3007) .none rfl rfl rfl rfl rfl rfl rfl ?_
    refine Walk.alloc (id:=3008) tz56 rfl .none rfl rfl rfl rfl ?_
    refine ev ?_
    refine sq (fun h1 h1p h1s=>?_) fun h1 h1p h1s=>?_
    try simp only[Q,Pat.cs_len] at h1p
    exfalso;omega
    try simp only[Q,Pat.cs_len] at h1p
    refine sq (fun h2 h2p h2s=>?_) fun h2 h2p h2s=>?_
    try simp only[Q,Pat.cs_len] at h2p
    exfalso;omega
    try simp only[Q,Pat.cs_len] at h2p
    refine sq (fun h3 h3p h3s=>?_) fun h3 h3p h3s=>?_
    try simp only[Q,Pat.cs_len] at h3p
    refine Walk.maxI .none rfl rfl rfl ?_
    refine ev ?_
    refine Walk.minI .none rfl rfl rfl ?_
    refine Walk.sliceLit za0 tz3 rfl (by decide) (ks:=[0,1]) (xs:=[_,_]) rfl rfl (by decide) (by decide) .none rfl rfl rfl rfl ?_
    refine wc zob (hrg) rfl rfl ?_
    refine ev ?_
    refine sq (fun h4 h4p h4s=>?_) fun h4 h4p h4s=>?_
    try simp only[Q,Pat.cs_len] at h4p
    refine Walk.build st56 (ks:=[]) (xs:=[]) rfl rfl .none rfl rfl rfl ?_
    refine Walk.store ty56 .none rfl rfl rfl rfl rfl rfl (by simp) rfl ?_
    refine ev ?_
    refine rn0 (.cons (.cellA ty56 rfl rfl rfl) (.cons (.tmp rfl) .nil)) (.tup (.cons (.agg (.cons (.eqd ?_) (.cons (.eqd ?_) (.cons (.eqd ?_) (.cons (.eqd ?_) (.cons (.eqd ?_) (.cons (.nild ?_) .nil))))))) (.cons (.eqd ?_) .nil)))
    rotate_left 7
    try simp only[Q,Pat.cs_len] at h4p
    exfalso;simp[Pat.cs] at h4
    try simp only[Q,Pat.cs_len] at h3p
    exfalso;omega
    all_goals (rfl)
  have oa:=zca ha
  have h4:a.op=4:=by omega
  have h4b:b.op=4:=by have:=zdQ ha hb h1 h2;omega
  by_cases hc:a.ctor=b.ctor
  ·obtain⟨c1,c2,c3,c4⟩:=za4 ha h4
   obtain⟨d1,d2,d3,d4⟩:=za4 hb h4b
   rw[←hc] at d3
   have h3l:=hs.args ⟨ta,tk⟩ a.ctor ht c1
   have ka:=fun i (hi:i<a.kids.length)=>zbr ha hi
   have kb:=fun i (hi:i<b.kids.length)=>zbr hb hi
   rw[zbD h4] at ka
   rw[zbD h4b,←hc] at kb
   have e:=zlt (n:=n) h4 h2 hc
   have hlen:a.kids.length=b.kids.length:=by omega
   have ih:=fun i (hi:i<(zab w ⟨ta,tk⟩ a.ctor).length)=>zi7 hs n m (f:=f) (ta:=(nth (zab w ⟨ta,tk⟩ a.ctor) i).data) (tk:=(nth (zab w ⟨ta,tk⟩ a.ctor) i).index) (a:=nth a.kids i) (b:=nth b.kids i) (by omega) (zbY hs.dp ht c1 _ (zaf hi)) (ka i (by omega)) (kb i (by omega))
   refine bd Tryz.f190 100 [] [] fun w0 F0 own kept hk=>?_
   refine Walk.box (id:=3005) .none rfl rfl rfl rfl rfl rfl rfl ?_
   refine Walk.box (id:=3006) .none rfl rfl rfl rfl rfl rfl rfl ?_
   refine Walk.box (id:=3007) .none rfl rfl rfl rfl rfl rfl rfl ?_
   refine Walk.alloc (id:=3008) tz56 rfl .none rfl rfl rfl rfl ?_
   refine ev ?_
   refine sq (fun h1 h1p h1s=>?_) fun h1 h1p h1s=>?_
   try simp only[Q,Pat.cs_len] at h1p
   exfalso;omega
   try simp only[Q,Pat.cs_len] at h1p
   refine sq (fun h2 h2p h2s=>?_) fun h2 h2p h2s=>?_
   try simp only[Q,Pat.cs_len] at h2p
   exfalso;omega
   try simp only[Q,Pat.cs_len] at h2p
   refine sq (fun h3 h3p h3s=>?_) fun h3 h3p h3s=>?_
   try simp only[Q,Pat.cs_len] at h3p
   exfalso;omega
   try simp only[Q,Pat.cs_len] at h3p
   refine sq (fun h4 h4p h4s=>?_) fun h4 h4p h4s=>?_
   try simp only[Q,Pat.cs_len] at h4p
   exfalso;omega
   try simp only[Q,Pat.cs_len] at h4p
   refine Walk.build st56 (ks:=[0,1]) (xs:=[_,_]) rfl rfl .none rfl rfl rfl ?_
   refine Walk.alloc (id:=3011) tz56 rfl .none rfl rfl rfl rfl ?_
   refine Walk.store ty56 .none rfl rfl rfl rfl rfl rfl (by simp) rfl ?_
   refine tv ?_
   refine wc ziR (zdg hs.dp.wt (zb6 ht) c1) rfl rfl ?_
   refine evd [] [] ?_
   refine dr ?_
   refine CWp.tokB 3011 5 9 6 rfl rfl rfl rfl ?_
   refine CWp.loopX (ι:=Nat×List Pat) hk (fun x=>[(68,.d (.i (x.1:Int)))]) [9,12,13,14,15,69,70,71,72,73,74,75,76,77,78,79,80,81,82,83,84,85,86,87,88,89,90,91,92,93,94,95,96,97,98] (fun x=>[(3011,some (.box [.d (.i 4),.d (.i a.ctor),.d (.i 0),.d (.i 0),.d (.i 0),.gl 9 (x.2.map Pat.cc)])),(9,some (.tok (x.2.map Pat.cc).length 6))]) (fun x=>x.1≤a.kids.length∧x.2.length=x.1∧zcL (zaP n) (a.kids.drop x.1) (b.kids.drop x.1) x.2=zcL (zaP n) a.kids b.kids []) (fun x=>a.kids.length-x.1) (0,[]) ⟨by simp,rfl,rfl⟩ ⟨⟨_,rfl,LeA.eqi ?_⟩,trivial⟩ ⟨?_,⟨zaa ?_,trivial⟩⟩ (fun x=>rfl) (fun x hg1=>?_)
   focus (first|rfl|(simp;done)|(simp_all;done)|omega|(simp;omega))
   focus (first|rfl|(simp[getH];done))
   focus (first|rfl|(simp;done)|(simp_all;done)|omega|(simp;omega))
   refine evc [] [] ?_
   refine sq (fun h5 h5p h5s=>?_) fun h5 h5p h5s=>?_
   try simp only[Q,Pat.cs_len] at h5p
   refine Walk.idx zaZ .none rfl rfl rfl rfl (zaq (by omega)) rfl ?_
   refine ev ?_
   refine Walk.alloc (id:=3013) tz33 rfl .none rfl rfl rfl rfl ?_
   refine ev ?_
   refine Walk.store ty33 .none rfl rfl rfl rfl rfl rfl (by simp) rfl ?_
   refine tv ?_
   refine Walk.idx sl45 .none rfl rfl rfl rfl (zaH (by omega)) rfl ?_
   refine evd [] [] ?_
   refine Walk.idx sl45 .none rfl rfl rfl rfl (zaH (by omega)) rfl ?_
   refine evd [] [] ?_
   refine wc zq3 (ih x.1 (by omega)) rfl rfl ?_
   refine evd [] [] ?_
   refine Walk.alloc (id:=3014) tz56 rfl .none rfl rfl rfl rfl ?_
   refine Walk.store ty56 .none rfl rfl rfl rfl rfl rfl (by simp) rfl ?_
   refine evd [] [] ?_
   refine dr ?_
   refine sq (fun h6 h6p h6s=>?_) fun h6 h6p h6s=>?_
   try simp only[Q,Pat.cs_len] at h6p
   refine Walk.build st56 (ks:=[]) (xs:=[]) rfl rfl .none rfl rfl rfl ?_
   refine Walk.store ty56 .none rfl rfl rfl rfl rfl rfl (by simp) rfl ?_
   refine ev ?_
   refine rn0 (.cons (.cellA ty56 rfl rfl rfl) (.cons (.tmp rfl) .nil)) (.tup (.cons (.agg (.cons (.eqd ?_) (.cons (.eqd ?_) (.cons (.eqd ?_) (.cons (.eqd ?_) (.cons (.eqd ?_) (.cons (.nild ?_) .nil))))))) (.cons (.eqd ?_) .nil)))
   rotate_left 7
   try simp only[Q,Pat.cs_len] at h6p
   refine Walk.sliceLit sl45 tz56 rfl (by decide) (ks:=[0]) (xs:=[_]) rfl rfl (by decide) (by decide) .none rfl rfl rfl rfl ?_
   refine Walk.append sl45 zz56 rfl .none rfl rfl rfl rfl (zaw rfl (by first|rfl|(simp;done)|(simp;omega))) (by intro x hx;first|(simp at hx;subst hx;rfl)|exact zby _ x hx) (by simp;omega) (by simp;omega) ?_
   refine ev ?_
   refine Walk.store ty45 .none rfl rfl rfl rfl rfl rfl (by simp) rfl ?_
   refine tv ?_
   refine ar ?_
   refine Exists.intro ((x.1+1,x.2++[zcW n (nth a.kids x.1) (nth b.kids x.1)])) ⟨⟨by dsimp only;omega,by dsimp only;rw[List.length_append,hg1.2.1];rfl,by dsimp only;rw[←zlp (by omega) (by omega) (zmA (by assumption))];exact hg1.2.2⟩,(by dsimp only;omega),sx ⟨⟨_,rfl,LeA.eqi ?_⟩,trivial⟩ ⟨?_,⟨zaa ?_,trivial⟩⟩⟩
   focus (first|rfl|(simp;done)|(simp_all;done)|omega|(simp;omega))
   focus (first|rfl|(simp[getH];done))
   focus (first|rfl|(simp;done)|(simp_all;done)|omega|(simp;omega))
   try simp only[Q,Pat.cs_len] at h5p
   refine Walk.store ty56 .none rfl rfl rfl rfl rfl rfl (by simp) rfl ?_
   refine ev ?_
   refine rn0 (.cons (.cellA ty56 rfl rfl rfl) (.cons (.tmp rfl) .nil)) (.tup (.cons (.agg (.cons (.eqd ?_) (.cons (.eqd ?_) (.cons (.eqd ?_) (.cons (.eqd ?_) (.cons (.eqd ?_) (.cons (.gld ?_) .nil))))))) (.cons (.eqd ?_) .nil)))
   rotate_left 7
   all_goals (first|(have e2:zaP (n+1) a b=none:=(by rw[e,←hg1.2.2,zlo (by omega) (by omega) (zmB (by assumption))];rfl);(first|rw[ze1 e2]|rw[e2]);all_goals rfl)|(have e2:zaP (n+1) a b=some (zb0 a.ctor x.2):=(by rw[e,←hg1.2.2,zeN (by omega)];rfl);rw[zcC e2,Pat.cs_cd];all_goals rfl)|(have e2:zaP (n+1) a b=some (zb0 a.ctor x.2):=(by rw[e,←hg1.2.2,zeN (by omega)];rfl);rw[zcC e2];all_goals rfl)|(have e2:zaP (n+1) a b=some (zb0 a.ctor x.2):=(by rw[e,←hg1.2.2,zeN (by omega)];rfl);rw[e2];all_goals rfl))
  ·skip
   have e:=zjJ (n:=n) h4 h2 hc
   rw[ze1 e,e]
   refine bd Tryz.f190 100 [] [] fun w0 F0 own kept hk=>?_
   refine Walk.box (id:=3005) .none rfl rfl rfl rfl rfl rfl rfl ?_
   refine Walk.box (id:=3006) .none rfl rfl rfl rfl rfl rfl rfl ?_
   refine Walk.box (id:=3007) .none rfl rfl rfl rfl rfl rfl rfl ?_
   refine Walk.alloc (id:=3008) tz56 rfl .none rfl rfl rfl rfl ?_
   refine ev ?_
   refine sq (fun h1 h1p h1s=>?_) fun h1 h1p h1s=>?_
   try simp only[Q] at h1p
   exfalso;omega
   try simp only[Q] at h1p
   refine sq (fun h2 h2p h2s=>?_) fun h2 h2p h2s=>?_
   try simp only[Q] at h2p
   exfalso;omega
   try simp only[Q] at h2p
   refine sq (fun h3 h3p h3s=>?_) fun h3 h3p h3s=>?_
   try simp only[Q] at h3p
   exfalso;omega
   try simp only[Q] at h3p
   refine sq (fun h4 h4p h4s=>?_) fun h4 h4p h4s=>?_
   try simp only[Q] at h4p
   refine Walk.build st56 (ks:=[]) (xs:=[]) rfl rfl .none rfl rfl rfl ?_
   refine Walk.store ty56 .none rfl rfl rfl rfl rfl rfl (by simp) rfl ?_
   refine ev ?_
   refine rn0 (.cons (.cellA ty56 rfl rfl rfl) (.cons (.tmp rfl) .nil)) (.tup (.cons (.agg (.cons (.eqd ?_) (.cons (.eqd ?_) (.cons (.eqd ?_) (.cons (.eqd ?_) (.cons (.eqd ?_) (.cons (.nild ?_) .nil))))))) (.cons (.eqd ?_) .nil)))
   rotate_left 7
   try simp only[Q] at h4p
   exfalso;omega
   all_goals (rfl)
theorem zhb {f:Ty→Pat→Pat→List Pat}{c:Int}{ts:List Ty}{xs bs front:List Pat}{i:Nat} (h1:i<ts.length) (h2:i<xs.length) (h3:i<bs.length):
  za8 f c (ts.drop i) (xs.drop i) (bs.drop i) front=(f (nth ts i) (nth xs i) (nth bs i)).map (fun z=>zb0 c (front++[z]++xs.drop (i+1)))++(match zaP 11 (nth xs i) (nth bs i) with
   |none=>[]
   |some both=>za8 f c (ts.drop (i+1)) (xs.drop (i+1)) (bs.drop (i+1)) (front++[both])):=by
 rw[zaV h1,zaV h2,zaV h3,za8]
 all_goals (cases zaP 11 (nth xs i) (nth bs i)<;>rfl)
theorem zj6 {f:Ty→Pat→Pat→List Pat}{c:Int}{ts:List Ty}{xs bs front:List Pat}{i:Nat} (h1:i<ts.length) (h2:i<xs.length) (h3:i<bs.length) (h:(zaP 11 (nth xs i) (nth bs i)).isSome=true):
  za8 f c (ts.drop i) (xs.drop i) (bs.drop i) front=(f (nth ts i) (nth xs i) (nth bs i)).map (fun z=>zb0 c (front++[z]++xs.drop (i+1)))++za8 f c (ts.drop (i+1)) (xs.drop (i+1)) (bs.drop (i+1)) (front++[zcW 11 (nth xs i) (nth bs i)]):=by
 rw[zhb h1 h2 h3,zmA h]
theorem zj5 {f:Ty→Pat→Pat→List Pat}{c:Int}{ts:List Ty}{xs bs front:List Pat}{i:Nat} (h1:i<ts.length) (h2:i<xs.length) (h3:i<bs.length) (h:(zaP 11 (nth xs i) (nth bs i)).isSome=false):
  za8 f c (ts.drop i) (xs.drop i) (bs.drop i) front=(f (nth ts i) (nth xs i) (nth bs i)).map (fun z=>zb0 c (front++[z]++xs.drop (i+1))):=by
 rw[zhb h1 h2 h3,zmB h,List.append_nil]
theorem zlu {f:Ty→Pat→Pat→List Pat}{c:Int}{ts:List Ty}{xs bs front:List Pat}{i:Nat} (h1:ts.length≤i):za8 f c (ts.drop i) (xs.drop i) (bs.drop i) front=[]:=by
 rw[List.drop_eq_nil_of_le h1];rfl
theorem zoV {n:Nat} (h:n≤11):4 ^ n≤4194304:=Nat.le_trans (Nat.pow_le_pow_right (by omega) h) (by decide)
theorem zfm {w:List Data} (hs:Spa w){n m:Nat}{t:Ty}{a b:Pat} (h:n<m) (h10:n≤10) (ht:InS (w.length*4) t) (ha:zak w m t a=true) (hb:zak w n t b=true):(zav w n t a b).length≤20000000:=by
 have h1:=znj hs n m h ht ha hb
 have h2:=(zgA hs n ht hb).2
 have h3:=zoV (n:=n) (by omega)
 omega
theorem zti {A B:List Pat}{y:Pat}{xs:List (List D)} (hx:xs=Pat.cs B) (hb:A.length+1+B.length≤1000):
  FnD Tryz.prog 189 [.d (.sl [[.sl (A.map Pat.cc)],[.sl [Pat.cc y]],[.sl xs]])] [] (.d (zae (A++[y]++B))) []:=by
 have h:=zjo (ls:=[A,[y],B]) (by simp) (by simp;omega) (by simp;omega)
 have e:[A,[y],B].flatten=A++[y]++B:=by simp
 rw[e] at h
 subst hx
 have e2:zsX [A,[y],B] = .sl [[.sl (A.map Pat.cc)],[.sl [Pat.cc y]],[.sl (Pat.cs B)]]:=by
  show D.sl [[.sl (Pat.cs A)],[.sl (Pat.cs [y])],[.sl (Pat.cs B)]]=_
  rw[Pat.cs_cd A,Pat.cs_cd [y]];rfl
 rw[e2] at h
 exact h
section
variable {w:List Data}{f:Nat→Nat}
abbrev MinusFn (w:List Data) (f:Nat→Nat) (n:Nat) (ta tk:Int) (a b:Pat):Prop:=
 FnD Tryz.prog 116 [.d (sPtr w f),.agg [.d (.i ta),.d (.i tk)],.agg [.d (.i a.op),.d (.i a.ctor),.d (.i a.n),.d (.i a.m),.d (.i a.var),.d (zae a.kids)],.agg [.d (.i b.op),.d (.i b.ctor),.d (.i b.n),.d (.i b.m),.d (.i b.var),.d (zae b.kids)]] [] (.d (zae (zav w n ⟨ta,tk⟩ a b))) []
theorem zoD {n:Nat}{ta tk:Int}{a b:Pat} (h:b.op=1):MinusFn w f (n+1) ta tk a b:=by
 unfold MinusFn
 rw[zgz h]
 refine bd Tryz.f116 159 [] [] fun w0 F0 own kept hk=>?_
 refine Walk.box (id:=3005) .none rfl rfl rfl rfl rfl rfl rfl ?_
 refine Walk.box (id:=3006) .none rfl rfl rfl rfl rfl rfl rfl ?_
 refine Walk.box (id:=3007) .none rfl rfl rfl rfl rfl rfl rfl ?_
 refine ev ?_
 refine sq (fun h1 h1p h1s=>?_) fun h1 h1p h1s=>?_
 try simp only[Q] at h1p
 refine rn0 (r1 rfl) (.nild ?_)
 rotate_left
 try simp only[Q] at h1p
 exfalso;omega
 all_goals (rfl)
theorem zoE {n:Nat}{ta tk:Int}{a b:Pat} (h:b.op=3) (hbn:0≤b.n∧b.n≤9) (hbm:0≤b.m∧b.m≤9):MinusFn w f (n+1) ta tk a b:=by
 unfold MinusFn
 rw[zjK h]
 have er:zbz [lowQ a,minQ (zdf a) (b.n-1),maxQ (lowQ a) (b.m+1),zdf a] 2=zeu a b:=zsy _ _ _ _
 have hrg:=zfl (l:=[lowQ a,minQ (zdf a) (b.n-1),maxQ (lowQ a) (b.m+1),zdf a]) (n:=2) rfl (by omega)
 rw[er] at hrg
 refine bd Tryz.f116 159 [] [] fun w0 F0 own kept hk=>?_
 refine Walk.box (id:=3005) .none rfl rfl rfl rfl rfl rfl rfl ?_
 refine Walk.box (id:=3006) .none rfl rfl rfl rfl rfl rfl rfl ?_
 refine Walk.box (id:=3007) .none rfl rfl rfl rfl rfl rfl rfl ?_
 refine ev ?_
 refine sq (fun h1 h1p h1s=>?_) fun h1 h1p h1s=>?_
 try simp only[Q] at h1p
 exfalso;omega
 try simp only[Q] at h1p
 refine sq (fun h2 h2p h2s=>?_) fun h2 h2p h2s=>?_
 try simp only[Q] at h2p
 refine wc zua (zlf) rfl rfl ?_
 refine ev ?_
 refine ar ?_
 refine Walk.minI .none rfl rfl rfl ?_
 refine ev ?_
 refine ar ?_
 refine Walk.maxI .none rfl rfl rfl ?_
 refine ev ?_
 refine Walk.sliceLit za0 tz3 rfl (by decide) (ks:=[0,1,2,3]) (xs:=[_,_,_,_]) rfl rfl (by decide) (by decide) .none rfl rfl rfl rfl ?_
 refine wc zob (hrg) rfl rfl ?_
 refine ev ?_
 focus (refine rn0 (r1 rfl) (.eqd ?_);all_goals (first|rfl|(simp[h1s,h1p,h2s,h2p];done)|(simp_all;done)|(simp_all;omega)|omega))
 try simp only[Q] at h2p
 exfalso;omega
theorem zoH {n:Nat}{ta tk:Int}{a b:Pat} (h4:a.op=4) (h4b:b.op=4) (hc:¬a.ctor=b.ctor):MinusFn w f (n+1) ta tk a b:=by
 unfold MinusFn
 have e:zav w (n+1) ⟨ta,tk⟩ a b=[a]:=by rw[zej h4b h4];exact if_neg hc
 rw[e]
 refine bd Tryz.f116 159 [] [] fun w0 F0 own kept hk=>?_
 refine Walk.box (id:=3005) .none rfl rfl rfl rfl rfl rfl rfl ?_
 refine Walk.box (id:=3006) .none rfl rfl rfl rfl rfl rfl rfl ?_
 refine Walk.box (id:=3007) .none rfl rfl rfl rfl rfl rfl rfl ?_
 refine ev ?_
 refine sq (fun h1 h1p h1s=>?_) fun h1 h1p h1s=>?_
 try simp only[Q] at h1p
 exfalso;omega
 try simp only[Q] at h1p
 refine sq (fun h2 h2p h2s=>?_) fun h2 h2p h2s=>?_
 try simp only[Q] at h2p
 exfalso;omega
 try simp only[Q] at h2p
 refine sq (fun h3 h3p h3s=>?_) fun h3 h3p h3s=>?_
 try simp only[Q] at h3p
 exfalso;omega
 try simp only[Q] at h3p
 refine sq (fun h4 h4p h4s=>?_) fun h4 h4p h4s=>?_
 try simp only[Q] at h4p
 refine Walk.sliceLit sl45 tz56 rfl (by decide) (ks:=[0]) (xs:=[_]) rfl rfl (by decide) (by decide) .none rfl rfl rfl rfl ?_
 refine ev ?_
 refine rn0 (r1 rfl) (.eqd ?_)
 rotate_left
 try simp only[Q] at h4p
 exfalso;omega
 all_goals (first|rfl|(cases a;rfl))
theorem zoG (hs:Spa w){n m:Nat} (hn:n+1≤10) (hm:m+1≤11) (hnm:n<m)
  (ih:∀ {ta tk:Int}{a b:Pat},InS (w.length*4) ⟨ta,tk⟩→zak w m ⟨ta,tk⟩ a=true→zak w n ⟨ta,tk⟩ b=true→MinusFn w f n ta tk a b)
  {ta tk:Int}{a b:Pat} (ht:InS (w.length*4) ⟨ta,tk⟩) (ha:zak w (m+1) ⟨ta,tk⟩ a=true) (hb:zak w (n+1) ⟨ta,tk⟩ b=true) (h4:a.op=4) (h4b:b.op=4) (hc:a.ctor=b.ctor):MinusFn w f (n+1) ta tk a b:=by
 obtain⟨c1,c2,c3,-⟩:=za4 ha h4
 obtain⟨d1,d2,d3,-⟩:=za4 hb h4b
 rw[←hc] at d3
 have h3l:=hs.args ⟨ta,tk⟩ a.ctor ht c1
 have ka:=fun i (hi:i<a.kids.length)=>zbr ha hi
 have kb:=fun i (hi:i<b.kids.length)=>zbr hb hi
 rw[zbD h4] at ka
 rw[zbD h4b,←hc] at kb
 have hbd:=zfm hs (n:=n+1) (m:=m+1) (by omega) hn ht ha hb
 have e:zav w (n+1) ⟨ta,tk⟩ a b=za8 (zav w n) a.ctor (zab w ⟨ta,tk⟩ a.ctor) a.kids b.kids []:=by rw[zej h4b h4];exact if_pos hc
 have hins:=fun i (hi:i<(zab w ⟨ta,tk⟩ a.ctor).length)=>zbY hs.dp ht c1 _ (zaf hi)
 have hmi:∀i,i<(zab w ⟨ta,tk⟩ a.ctor).length→FnD Tryz.prog 116 [.d (sPtr w f),.agg [.d (.i (nth (zab w ⟨ta,tk⟩ a.ctor) i).data),.d (.i (nth (zab w ⟨ta,tk⟩ a.ctor) i).index)],.agg [.d (.i (nth a.kids i).op),.d (.i (nth a.kids i).ctor),.d (.i (nth a.kids i).n),.d (.i (nth a.kids i).m),.d (.i (nth a.kids i).var),.d (zae (nth a.kids i).kids)],.agg [.d (.i (nth b.kids i).op),.d (.i (nth b.kids i).ctor),.d (.i (nth b.kids i).n),.d (.i (nth b.kids i).m),.d (.i (nth b.kids i).var),.d (zae (nth b.kids i).kids)]] [] (.d (zae (zav w n (nth (zab w ⟨ta,tk⟩ a.ctor) i) (nth a.kids i) (nth b.kids i)))) []:=fun i hi=>ih (ta:=(nth (zab w ⟨ta,tk⟩ a.ctor) i).data) (tk:=(nth (zab w ⟨ta,tk⟩ a.ctor) i).index) (hins i hi) (ka i (by omega)) (kb i (by omega))
 have hme:=fun i (hi:i<(zab w ⟨ta,tk⟩ a.ctor).length)=>zi7 hs 11 m (f:=f) (ta:=(nth (zab w ⟨ta,tk⟩ a.ctor) i).data) (tk:=(nth (zab w ⟨ta,tk⟩ a.ctor) i).index) (by omega) (hins i hi) (ka i (by omega)) (zjL (by omega) (kb i (by omega)))
 unfold MinusFn
 rw[e] at hbd ⊢
 have hT:∀i out front,i<(zab w ⟨ta,tk⟩ a.ctor).length→out++za8 (zav w n) a.ctor ((zab w ⟨ta,tk⟩ a.ctor).drop i) (a.kids.drop i) (b.kids.drop i) front=za8 (zav w n) a.ctor (zab w ⟨ta,tk⟩ a.ctor) a.kids b.kids []→
   out.length+(zav w n (nth (zab w ⟨ta,tk⟩ a.ctor) i) (nth a.kids i) (nth b.kids i)).length≤20000000:=fun i out front hi h=>by
  rw[zhb hi (by omega) (by omega)] at h
  have:=congrArg List.length h
  simp only[List.length_append,List.length_map] at this
  omega
 refine bd Tryz.f116 159 [14,15] [] fun w0 F0 own kept hk=>?_
 refine Walk.box (id:=3005) .none rfl rfl rfl rfl rfl rfl rfl ?_
 refine Walk.box (id:=3006) .none rfl rfl rfl rfl rfl rfl rfl ?_
 refine Walk.box (id:=3007) .none rfl rfl rfl rfl rfl rfl rfl ?_
 refine evs [14,15] [] ?_
 refine sq (fun h1 h1p h1s=>?_) fun h1 h1p h1s=>?_
 try simp only[Q,Pat.cs_len] at h1p
 exfalso;omega
 try simp only[Q,Pat.cs_len] at h1p
 refine sq (fun h2 h2p h2s=>?_) fun h2 h2p h2s=>?_
 try simp only[Q,Pat.cs_len] at h2p
 exfalso;omega
 try simp only[Q,Pat.cs_len] at h2p
 refine sq (fun h3 h3p h3s=>?_) fun h3 h3p h3s=>?_
 try simp only[Q,Pat.cs_len] at h3p
 exfalso;omega
 try simp only[Q,Pat.cs_len] at h3p
 refine sq (fun h4 h4p h4s=>?_) fun h4 h4p h4s=>?_
 try simp only[Q,Pat.cs_len] at h4p
 exfalso;omega
 try simp only[Q,Pat.cs_len] at h4p
 refine Walk.assignNil 9 6 .none rfl rfl ?_
 refine Walk.assignNil 8 6 .none rfl rfl ?_
 refine tv ?_
 refine wc ziR (zdg hs.dp.wt (zb6 ht) c1) rfl rfl ?_
 refine evd [14,15] [] ?_
 refine dr ?_
 refine CWp.loopX (ι:=Nat×List Pat×List Pat) hk (fun s=>[(94,.d (.i (s.1:Int))),(14,.gl 9 (s.2.1.map Pat.cc)),(15,.gl 8 (s.2.2.map Pat.cc))]) [16,17,19,20,21,22,95,96,97,98,99,100,101,102,103,104,105,106,107,108,109,110,111,112,113,114,115,116,117,118,119,120,121,122,123,124,125,126,127,128,129,130,131,132,133,134,135,136,137,138,139,140,141,142,143,144,145,146,147,148,149,150,151,152,153,154,155,156,157] (fun s=>[(9,some (.tok ((s.2.1.map Pat.cc)).length 6)),(8,some (.tok ((s.2.2.map Pat.cc)).length 6))]) (fun s=>s.1≤a.kids.length∧s.2.2.length=s.1∧s.2.1++za8 (zav w n) a.ctor ((zab w ⟨ta,tk⟩ a.ctor).drop s.1) (a.kids.drop s.1) (b.kids.drop s.1) s.2.2=za8 (zav w n) a.ctor (zab w ⟨ta,tk⟩ a.ctor) a.kids b.kids []) (fun s=>a.kids.length-s.1) (0,[],[]) ⟨by simp,rfl,rfl⟩ ⟨⟨_,rfl,LeA.eqi ?_⟩,⟨⟨_,rfl,LeA.glg ?_⟩,⟨⟨_,rfl,LeA.glg ?_⟩,trivial⟩⟩⟩ ⟨zaa ?_,⟨zaa ?_,trivial⟩⟩ (fun x=>rfl) (fun s hg2=>?_)
 iterate 5 focus (first|rfl|(simp;done)|(simp_all;done)|omega|(simp;omega))
 refine evc [14,15] [] ?_
 refine sq (fun h5 h5p h5s=>?_) fun h5 h5p h5s=>?_
 try simp only[Q,Pat.cs_len] at h5p
 refine Walk.idx zaZ .none rfl rfl rfl rfl (zaq (by omega)) rfl ?_
 refine evs [14,15] [] ?_
 refine Walk.alloc (id:=3017) tz33 rfl .none rfl rfl rfl rfl ?_
 refine evs [14,15] [] ?_
 refine Walk.store ty33 .none rfl rfl rfl rfl rfl rfl (by simp) rfl ?_
 refine tv ?_
 refine Walk.idx sl45 .none rfl rfl rfl rfl (zaH (by omega)) rfl ?_
 refine evd [14,15] [] ?_
 refine Walk.idx sl45 .none rfl rfl rfl rfl (zaH (by omega)) rfl ?_
 refine evd [14,15] [] ?_
 refine wc zn8 (hmi s.1 (by omega)) rfl rfl ?_
 refine evd [14,15] [] ?_
 refine dr ?_
 refine CWp.loopX (ι:=List (Pat)×List (Pat)) hk (fun x=>[(113,.d (.i (x.1.length:Int))),(14,.gl 9 ((s.2.1++x.1.map (fun z=>zb0 a.ctor (s.2.2++[z]++a.kids.drop (s.1+1)))).map Pat.cc))]) [19,20,114,115,116,117,118,119,120,121,122,123,124,125,126,127,128,129,130,131,132,133,134] (fun x=>[(9,some (.tok (((s.2.1++x.1.map (fun z=>zb0 a.ctor (s.2.2++[z]++a.kids.drop (s.1+1)))).map Pat.cc)).length 6))]) (fun x=>x.1++x.2=(zav w n (nth (zab w ⟨ta,tk⟩ a.ctor) s.1) (nth a.kids s.1) (nth b.kids s.1))) (fun x=>x.2.length) ([],(zav w n (nth (zab w ⟨ta,tk⟩ a.ctor) s.1) (nth a.kids s.1) (nth b.kids s.1))) (by simp) ⟨⟨_,rfl,LeA.eqi ?_⟩,⟨⟨_,rfl,LeA.glg ?_⟩,trivial⟩⟩ ⟨zaa ?_,trivial⟩ (fun x=>rfl) (fun x hg3=>?_)
 iterate 3 focus (first|rfl|(simp;done)|(simp only[List.map_append,List.append_assoc,List.map_cons,List.map_nil];done)|(simp only[List.map_append,List.append_assoc,List.map_cons,List.map_nil];rfl)|(rw[List.append_nil] at hg3;rw[hg3];done)|omega|(simp;omega))
 obtain⟨pre,rest⟩:=x
 dsimp only at hg3 ⊢
 refine evc [14,15] [] ?_
 refine sq (fun h6 h6p h6s=>?_) fun h6 h6p h6s=>?_
 try simp only[Q,Pat.cs_len] at h6p
 rcases rest with _|⟨y,rest⟩
 ·exfalso;simp_all
 refine Walk.idx sl45 .none rfl rfl rfl rfl (Pat.cs_at' hg3) rfl ?_
 refine evs [14,15] [] ?_
 refine Walk.alloc (id:=3019) tz56 rfl .none rfl rfl rfl rfl ?_
 refine Walk.store ty56 .none rfl rfl rfl rfl rfl rfl (by simp) rfl ?_
 refine tv ?_
 refine Walk.sliceLit sl45 tz56 rfl (by decide) (ks:=[0]) (xs:=[_]) rfl rfl (by decide) (by decide) .none rfl rfl rfl rfl ?_
 refine evd [14,15] [] ?_
 refine ar ?_ (by first|(constructor<;>omega)|(have h9:=hT s.1 s.2.1 s.2.2 (by omega) hg2.2.2;have h8:=congrArg List.length hg3;simp only[List.length_append,List.length_cons] at h8;constructor<;>omega))
 refine Walk.cut_l (b:=s.1+1) sl45 .none rfl rfl rfl (by intro x hx;first|(simp at hx;subst hx;rfl)|exact zby _ x hx|exact zbb _ x hx) rfl rfl (by simp only[Pat.cs_len];omega) ?_
 refine Walk.sliceLit zdX tz45 rfl (by decide) (ks:=[0,1,2]) (xs:=[_,_,_]) rfl rfl (by decide) (by decide) .none rfl rfl rfl rfl ?_
 refine wc zuc (zti (A:=s.2.2) (y:=y) (xs:=(Pat.cs a.kids).drop (s.1+1)) (B:=a.kids.drop (s.1+1)) (by rw[Pat.cs_cd,Pat.cs_cd,List.map_drop]) (by rw[List.length_drop];omega)) rfl rfl ?_
 refine evd [14,15] [] ?_
 refine dr ?_
 refine Walk.build st56 (ks:=[0,1,5]) (xs:=[_,_,_]) rfl rfl .none rfl rfl rfl ?_
 refine Walk.sliceLit sl45 tz56 rfl (by decide) (ks:=[0]) (xs:=[_]) rfl rfl (by decide) (by decide) .none rfl rfl rfl rfl ?_
 refine Walk.append sl45 zz56 rfl .none rfl rfl rfl rfl (zaw rfl (by first|rfl|(simp;done)|(simp;omega))) (by intro x hx;first|(simp at hx;subst hx;rfl)|exact zby _ x hx|exact zbb _ x hx) (by first|(have h9:=hT s.1 s.2.1 s.2.2 (by omega) hg2.2.2;have h8:=congrArg List.length hg3;simp at h8 ⊢;omega)|(simp;omega)) (by first|(have h9:=hT s.1 s.2.1 s.2.2 (by omega) hg2.2.2;have h8:=congrArg List.length hg3;simp at h8 ⊢;omega)|(simp;omega)) ?_
 refine asg ?_
 refine tv ?_
 refine ar ?_ (by first|(constructor<;>omega)|(have h9:=hT s.1 s.2.1 s.2.2 (by omega) hg2.2.2;have h8:=congrArg List.length hg3;simp only[List.length_append,List.length_cons] at h8;constructor<;>omega))
 refine Exists.intro ((pre++[y],rest)) ⟨(by have hz:=hg3;rw[←hz];simp),(by simp),sx ⟨⟨_,rfl,LeA.eqi ?_⟩,⟨⟨_,rfl,LeA.glg ?_⟩,trivial⟩⟩ ⟨zaa ?_,trivial⟩⟩
 iterate 3 focus (first|rfl|(simp;done)|(simp only[List.map_append,List.append_assoc,List.map_cons,List.map_nil];done)|(simp only[List.map_append,List.append_assoc,List.map_cons,List.map_nil];rfl)|(rw[List.append_nil] at hg3;rw[hg3];done)|omega|(simp;omega))
 try simp only[Q,Pat.cs_len] at h6p
 have hrest:rest=[]:=by
  rcases rest with _|⟨a,b⟩
  ·rfl
  ·exfalso;have hz:=congrArg List.length (hg3);simp only[List.length_append,List.length_cons,List.length_map] at hz;omega
 subst hrest
 refine Walk.idx sl45 .none rfl rfl rfl rfl (zaH (by omega)) rfl ?_
 refine evd [14,15] [] ?_
 refine Walk.idx sl45 .none rfl rfl rfl rfl (zaH (by omega)) rfl ?_
 refine evd [14,15] [] ?_
 refine wc zq3 (hme s.1 (by omega)) rfl rfl ?_
 refine evd [14,15] [] ?_
 refine Walk.alloc (id:=3021) tz56 rfl .none rfl rfl rfl rfl ?_
 refine Walk.store ty56 .none rfl rfl rfl rfl rfl rfl (by simp) rfl ?_
 refine evd [14,15] [] ?_
 refine dr ?_
 refine sq (fun h7 h7p h7s=>?_) fun h7 h7p h7s=>?_
 try simp only[Q,Pat.cs_len] at h7p
 refine rn0 (r1 rfl) (.gld ?_)
 rotate_left
 try simp only[Q,Pat.cs_len] at h7p
 refine Walk.sliceLit sl45 tz56 rfl (by decide) (ks:=[0]) (xs:=[_]) rfl rfl (by decide) (by decide) .none rfl rfl rfl rfl ?_
 refine Walk.append sl45 zz56 rfl .none rfl rfl rfl rfl (zaw rfl (by first|rfl|(simp;done)|(simp;omega))) (by intro x hx;first|(simp at hx;subst hx;rfl)|exact zby _ x hx|exact zbb _ x hx) (by first|(have h9:=hT s.1 s.2.1 s.2.2 (by omega) hg2.2.2;have h8:=congrArg List.length hg3;simp at h8 ⊢;omega)|(simp;omega)) (by first|(have h9:=hT s.1 s.2.1 s.2.2 (by omega) hg2.2.2;have h8:=congrArg List.length hg3;simp at h8 ⊢;omega)|(simp;omega)) ?_
 refine asg ?_
 refine tv ?_
 refine ar ?_ (by first|(constructor<;>omega)|(have h9:=hT s.1 s.2.1 s.2.2 (by omega) hg2.2.2;have h8:=congrArg List.length hg3;simp only[List.length_append,List.length_cons] at h8;constructor<;>omega))
 refine Exists.intro ((s.1+1,s.2.1++(zav w n (nth (zab w ⟨ta,tk⟩ a.ctor) s.1) (nth a.kids s.1) (nth b.kids s.1)).map (fun z=>zb0 a.ctor (s.2.2++[z]++a.kids.drop (s.1+1))),s.2.2++[zcW 11 (nth a.kids s.1) (nth b.kids s.1)])) ⟨⟨by dsimp only;omega,by dsimp only;rw[List.length_append,hg2.2.1];rfl,by dsimp only;rw[List.append_assoc,←zj6 (by omega) (by omega) (by omega) (by assumption)];exact hg2.2.2⟩,(by dsimp only;omega),sx ⟨⟨_,rfl,LeA.eqi ?_⟩,⟨⟨_,rfl,LeA.glg ?_⟩,⟨⟨_,rfl,LeA.glg ?_⟩,trivial⟩⟩⟩ ⟨zaa ?_,⟨zaa ?_,trivial⟩⟩⟩
 iterate 5 focus (first|rfl|(simp;done)|(simp_all;done)|omega|(simp;omega))
 try simp only[Q,Pat.cs_len] at h5p
 refine rn0 (r1 rfl) (.gld ?_)
 rotate_left
 all_goals (first|rfl|(rw[←hg2.2.2,zlu (by omega),List.append_nil,Pat.cs_cd];done)|(rw[List.append_nil] at hg3;rw[←hg2.2.2,zj5 (by omega) (by omega) (by omega) (by assumption),←hg3,Pat.cs_cd];all_goals rfl))
theorem zoF (hs:Spa w){n:Nat}{ta tk:Int}{a b:Pat} (ht:InS (w.length*4) ⟨ta,tk⟩) (h1:a.op=1) (h4b:b.op=4) (hbd:(zav w (n+1) ⟨ta,tk⟩ a b).length≤20000000)
  (hC:∀c∈zam w ⟨ta,tk⟩,MinusFn w f (n+1) ta tk (zce w ⟨ta,tk⟩ c) b):MinusFn w f (n+1) ta tk a b:=by
 have e:zav w (n+1) ⟨ta,tk⟩ a b=(zam w ⟨ta,tk⟩).flatMap fun c=>zav w (n+1) ⟨ta,tk⟩ (zce w ⟨ta,tk⟩ c) b:=by
  rw[zhM h4b h1]
  exact congrArg (fun g=>(zam w ⟨ta,tk⟩).flatMap g) (funext fun c=>(zej h4b rfl).symm)
 unfold MinusFn
 rw[e] at hbd ⊢
 have hcl:=(hs.ctors _ ht).1
 have hpre:∀ {pre rest:List Int}{y:Int},pre++y::rest=zam w ⟨ta,tk⟩→(pre.flatMap fun c=>zav w (n+1) ⟨ta,tk⟩ (zce w ⟨ta,tk⟩ c) b).length+(zav w (n+1) ⟨ta,tk⟩ (zce w ⟨ta,tk⟩ y) b).length≤20000000:=fun h=>by
  rw[←h,List.flatMap_append,List.flatMap_cons] at hbd
  simp only[List.length_append] at hbd
  omega
 have hmem:∀ {pre rest:List Int}{y:Int},pre++y::rest=zam w ⟨ta,tk⟩→y∈zam w ⟨ta,tk⟩:=fun h=>by rw[←h];simp
 refine bd Tryz.f116 159 [11] [] fun w0 F0 own kept hk=>?_
 refine Walk.box (id:=3005) .none rfl rfl rfl rfl rfl rfl rfl ?_
 refine Walk.box (id:=3006) .none rfl rfl rfl rfl rfl rfl rfl ?_
 refine Walk.box (id:=3007) .none rfl rfl rfl rfl rfl rfl rfl ?_
 refine evs [11] [] ?_
 refine sq (fun h1 h1p h1s=>?_) fun h1 h1p h1s=>?_
 try simp only[Q,Pat.cs_len] at h1p
 exfalso;omega
 try simp only[Q,Pat.cs_len] at h1p
 refine sq (fun h2 h2p h2s=>?_) fun h2 h2p h2s=>?_
 try simp only[Q,Pat.cs_len] at h2p
 exfalso;omega
 try simp only[Q,Pat.cs_len] at h2p
 refine sq (fun h3 h3p h3s=>?_) fun h3 h3p h3s=>?_
 try simp only[Q,Pat.cs_len] at h3p
 refine Walk.assignNil 9 6 .none rfl rfl ?_
 refine tv ?_
 refine wc zkM (zeh hs.dp.wt (zb6 ht)) rfl rfl ?_
 refine evd [11] [] ?_
 refine dr ?_
 refine CWp.loopX (ι:=List (Int)×List (Int)) hk (fun x=>[(61,.d (.i (x.1.length:Int))),(11,.gl 9 (Pat.cs (x.1.flatMap fun c=>zav w (n+1) ⟨ta,tk⟩ (zce w ⟨ta,tk⟩ c) b)))]) [13,62,63,64,65,66,67,68,69,70,71,72,73,74,75] (fun x=>[(9,some (.tok ((Pat.cs (x.1.flatMap fun c=>zav w (n+1) ⟨ta,tk⟩ (zce w ⟨ta,tk⟩ c) b))).length 6))]) (fun x=>x.1++x.2=zam w ⟨ta,tk⟩) (fun x=>x.2.length) ([],zam w ⟨ta,tk⟩) (by simp) ⟨⟨_,rfl,LeA.eqi ?_⟩,⟨⟨_,rfl,LeA.glg ?_⟩,trivial⟩⟩ ⟨zaa ?_,trivial⟩ (fun x=>rfl) (fun x hg1=>?_)
 iterate 3 focus (first|rfl|(rw[List.flatMap_append,Pat.cs_cd,Pat.cs_cd,Pat.cs_cd,List.map_append];simp;done)|(simp[Pat.cs_len];done)|omega|(simp;omega))
 obtain⟨pre,rest⟩:=x
 dsimp only at hg1 ⊢
 refine evc [11] [] ?_
 refine sq (fun h4 h4p h4s=>?_) fun h4 h4p h4s=>?_
 try simp only[Q,Pat.cs_len] at h4p
 rcases rest with _|⟨y,rest⟩
 ·exfalso;simp_all
 refine Walk.idx za0 .none rfl rfl rfl rfl (zaD hg1) rfl ?_
 refine evs [11] [] ?_
 refine wc zub (znI hs.dp.wt (f:=f) (zb6 ht) (hmem hg1) (hs.args _ _ ht (hmem hg1))) rfl rfl ?_
 refine evd [11] [] ?_
 refine wc zn8 (hC y (hmem hg1)) rfl rfl ?_
 refine Walk.append sl45 zz56 rfl .none rfl rfl rfl rfl (zaw rfl (by first|rfl|(simp;done)|(simp;omega))) (by exact zbb _) (by have h9:=hpre hg1;simp only[Pat.cs_len];omega) (by have h9:=hpre hg1;simp only[Pat.cs_len];omega) ?_
 refine asg ?_
 refine dr ?_
 refine ar ?_
 refine Exists.intro ((pre++[y],rest)) ⟨(by have hz:=hg1;rw[←hz];simp),(by simp),sx ⟨⟨_,rfl,LeA.eqi ?_⟩,⟨⟨_,rfl,LeA.glg ?_⟩,trivial⟩⟩ ⟨zaa ?_,trivial⟩⟩
 iterate 3 focus (first|rfl|(rw[List.flatMap_append,Pat.cs_cd,Pat.cs_cd,Pat.cs_cd,List.map_append];simp;done)|(simp[Pat.cs_len];done)|omega|(simp;omega))
 try simp only[Q,Pat.cs_len] at h4p
 have hrest:rest=[]:=by
  rcases rest with _|⟨a,b⟩
  ·rfl
  ·exfalso;have hz:=congrArg List.length (hg1);simp only[List.length_append,List.length_cons,List.length_map] at hz;omega
 subst hrest
 refine rn0 (r1 rfl) (.gld ?_)
 rotate_left
 try simp only[Q,Pat.cs_len] at h3p
 exfalso;omega
 all_goals (first|rfl|(rw[List.append_nil] at hg1;rw[hg1];done))
theorem ziC (hs:Spa w):∀(n m:Nat){ta tk:Int}{a b:Pat},n<m→n≤10→m≤11→InS (w.length*4) ⟨ta,tk⟩→zak w m ⟨ta,tk⟩ a=true→zak w n ⟨ta,tk⟩ b=true→MinusFn w f n ta tk a b
 |0,m,ta,tk,a,b,_,_,_,_,_,hb=>by simp[zak] at hb
 |n+1,0,ta,tk,a,b,h,_,_,_,_,_=>by omega
 |n+1,m+1,ta,tk,a,b,h,hn,hm,ht,ha,hb=>by
  have hC:∀ {a:Pat},zak w (m+1) ⟨ta,tk⟩ a=true→a.op=4→b.op=4→MinusFn w f (n+1) ta tk a b:=fun {a} ha h4 h4b=>by
   by_cases hc:a.ctor=b.ctor
   ·exact zoG hs hn hm (by omega) (fun h1 h2 h3=>ziC hs n m (by omega) (by omega) (by omega) h1 h2 h3) ht ha hb h4 h4b hc
   ·exact zoH h4 h4b hc
  rcases zca hb with h1|h3|h4b
  ·exact zoD h1
  ·have:=zcz hb h3
   exact zoE h3 ⟨by omega,by omega⟩ ⟨by omega,by omega⟩
  ·by_cases h1:a.op=1
   ·obtain⟨m',rfl⟩:∃m',m=m'+1:=⟨m-1,by omega⟩
    exact zoF hs ht h1 h4b (zfm hs h hn ht ha hb) (fun c hc=>hC (zdR hc) rfl h4b)
   ·exact hC ha (by have:=zdQ ha hb h1 (by omega);omega) h4b
end
abbrev zg7 (o:List Pat):List D:=[.sl (Pat.cs o)]
abbrev zh9 (ls:List (List Pat)):D:= .sl (ls.map zg7)
theorem zqN {N:Nat} (acc:List (List Pat)) (l:List Pat):(zbp (acc.take N) l).take N=(zbp acc l).take N:=by
 by_cases h:acc.length≤N
 ·rw[List.take_of_length_le h]
 have e0:∀a:List (List Pat),zbp a []=[]:=fun a=>by unfold zbp;simp
 cases l with
 |nil=>rw[e0,e0]
 |cons c r=>
  have e:zbp acc (c::r)=zbp (acc.take N) (c::r)++zbp (acc.drop N) (c::r):=by
   unfold zbp;rw[←List.flatMap_append,List.take_append_drop]
  rw[e,zd9]
  rw[zfR,List.length_take,Nat.min_eq_left (by omega),List.length_cons]
  exact Nat.le_mul_of_pos_right _ (by omega)
theorem zqO {N:Nat} (acc:List (List Pat)) (l:List Pat):(zbp acc (l.take N)).take N=(zbp acc l).take N:=by
 by_cases h:l.length≤N
 ·rw[List.take_of_length_le h]
 cases acc with
 |nil=>rfl
 |cons q r=>
  have e:∀l:List Pat,zbp (q::r) l=l.map (fun c=>q++[c])++zbp r l:=fun l=>by unfold zbp;rw[List.flatMap_cons]
  rw[e,e,zd9 (by rw[List.length_map,List.length_take];omega),zd9 (by rw[List.length_map];omega),List.map_take,List.take_take,Nat.min_self]
def tupQ (m:Nat) (ls:List (List Pat)):List (List Pat):=ls.foldl (fun acc l=>(zbp acc l).take (m+1)) [[]]
theorem zcr (m:Nat) (ls:List (List Pat)) (l:List Pat):tupQ m (ls++[l])=(zbp (tupQ m ls) l).take (m+1):=by
 unfold tupQ;rw[List.foldl_append];rfl
theorem zph (m:Nat):∀(ls:List (List Pat)) (acc:List (List Pat)),(ls.map (List.take (m+1))).foldl (fun acc l=>(zbp acc l).take (m+1)) (acc.take (m+1))=(ls.foldl zbp acc).take (m+1)
 | [],acc=>rfl
 |l::r,acc=>by
  rw[List.map_cons,List.foldl_cons,List.foldl_cons,zqO,zqN]
  exact zph m r (zbp acc l)
theorem ztG (m:Nat) (ls:List (List Pat)):tupQ m (ls.map (List.take (m+1)))=(zeA ls).take (m+1):=by
 have h:=zph m ls [[]]
 have e:([[]]:List (List Pat)).take (m+1)=[[]]:=by simp
 rw[e] at h
 exact h
theorem zpf (m:Nat) (ls:List (List Pat)):(tupQ m ls).length≤m+1:=by
 have key:∀(ls acc:List (List Pat)),acc.length≤m+1→(ls.foldl (fun acc l=>(zbp acc l).take (m+1)) acc).length≤m+1:=by
  intro ls
  induction ls with
  |nil=>intro acc h;exact h
  |cons l r ih=>intro acc h;exact ih _ (by rw[List.length_take];omega)
 exact key ls [[]] (by simp)
theorem zpg (m:Nat){ls:List (List Pat)}{o:List Pat} (h:o∈tupQ m ls):o.length=ls.length:=by
 have key:∀(ls acc:List (List Pat)) (n:Nat),(∀o∈acc,o.length=n)→∀o∈ls.foldl (fun acc l=>(zbp acc l).take (m+1)) acc,o.length=n+ls.length:=by
  intro ls
  induction ls with
  |nil=>intro acc n h o ho;exact h o ho
  |cons l r ih=>
   intro acc n h o ho
   have:=ih _ (n+1) (fun o' ho'=>by
    have ho':=List.mem_of_mem_take ho'
    unfold zbp at ho'
    simp only[List.mem_flatMap,List.mem_map] at ho'
    obtain⟨p,hp,q,_,rfl⟩:=ho'
    simp[h p hp]) o ho
   simp only[List.length_cons];omega
 have:=key ls [[]] 0 (by simp) o h
 simpa using this
def zjP (l:List Pat) (o:List Pat):List (List Pat):=l.map fun y=>o++[y]
theorem zdd (acc:List (List Pat)) (l:List Pat):zbp acc l=acc.flatMap (zjP l):=rfl
theorem zkE {X:List (List Pat)}{l:List Pat}{o:List Pat}{j m:Nat} (hc:¬j<l.length∨¬((X++(l.take j).map fun y=>o++[y]).take (m+1)).length≤m):
  (X++(l.take j).map fun y=>o++[y]).take (m+1)=(X++zjP l o).take (m+1):=ztF hc
theorem zsI {α:Type}{N:Nat} (a b:List α):(a.take N++b.take N).take N=(a++b).take N:=by
 by_cases h:a.length≤N
 ·rw[List.take_of_length_le h,List.take_append,List.take_append,List.take_take,Nat.min_eq_left (by omega)]
 ·rw[zd9 (by rw[List.length_take];omega),zd9 (by omega),List.take_take,Nat.min_self]
def za2 (p:Pat):List Pat:=(zaz p).take 401
theorem zsD {p:Pat} (h:p.op=5) (hk:p.kids.length=2):za2 p=(za2 (nth p.kids 0)++za2 (nth p.kids 1)).take 401:=by
 unfold za2;rw[zgZ h hk,zsI]
theorem zsE {p:Pat} (h:p.op≠5):za2 p=(tupQ 400 (p.kids.map za2)).map fun l=> .mk p.op p.ctor p.n p.m p.var l:=by
 unfold za2
 rw[zeG h,←List.map_take]
 congr 1
 have:=ztG 400 (p.kids.map zaz)
 rw[List.map_map] at this
 exact this.symm
theorem zgo (p:Pat):(za2 p).length≤401:=by unfold za2;rw[List.length_take];omega
theorem zc8:∀(n:Nat){p:Pat},p.size≤n→p.ok→FnD Tryz.prog 249 [.agg [.d (.i p.op),.d (.i p.ctor),.d (.i p.n),.d (.i p.m),.d (.i p.var),.d (zae p.kids)]] [] (.agg [.d (.i (zaM p).op),.d (.i (zaM p).ctor),.d (.i (zaM p).n),.d (.i (zaM p).m),.d (.i (zaM p).var),.d (zae (zaM p).kids)]) []
 |0,p,h,_=>by rw[Pat.size_eq] at h;omega
 |n+1,p,h,hok=>by
  rw[Pat.size_eq] at h
  rw[Pat.ok_iff] at hok
  have hok1:=hok.1
  by_cases h2:p.op=2
  ·rw[zpK h2]
   refine bd Tryz.f249 42 [] [] fun w0 F0 own kept hk=>?_
   refine Walk.box (id:=3001) .none rfl rfl rfl rfl rfl rfl rfl ?_
   refine Walk.alloc (id:=3002) tz56 rfl .none rfl rfl rfl rfl ?_
   refine tv ?_
   refine sq (fun h1 h1p h1s=>?_) fun h1 h1p h1s=>?_
   try simp only[Q] at h1p
   refine Walk.build st56 (ks:=[0]) (xs:=[_]) rfl rfl .none rfl rfl rfl ?_
   refine Walk.store ty56 .none rfl rfl rfl rfl rfl rfl (by simp) rfl ?_
   refine tv ?_
   refine rn0 (.cons (.cellA ty56 rfl rfl rfl) .nil) (.agg (.cons (.eqd ?_) (.cons (.eqd ?_) (.cons (.eqd ?_) (.cons (.eqd ?_) (.cons (.eqd ?_) (.cons (.nild ?_) .nil)))))))
   rotate_left 6
   try simp only[Q] at h1p
   exfalso;omega
   all_goals (rfl)
  by_cases h6:p.op=6∧0<p.kids.length
  ·rw[zpL h6.1 h6.2]
   refine bd Tryz.f249 42 [] [] fun w0 F0 own kept hk=>?_
   refine Walk.box (id:=3001) .none rfl rfl rfl rfl rfl rfl rfl ?_
   refine Walk.alloc (id:=3002) tz56 rfl .none rfl rfl rfl rfl ?_
   refine tv ?_
   refine sq (fun h1 h1p h1s=>?_) fun h1 h1p h1s=>?_
   try simp only[Q,Pat.cs_len] at h1p
   exfalso;omega
   try simp only[Q,Pat.cs_len] at h1p
   refine sq (fun h2 h2p h2s=>?_) fun h2 h2p h2s=>?_
   try simp only[Q,Pat.cs_len] at h2p
   refine sq (fun h3 h3p h3s=>?_) fun h3 h3p h3s=>?_
   try simp only[Q,Pat.cs_len] at h3p
   refine Walk.idx (i:=0) sl45 .none rfl rfl rfl rfl (zaH h6.2) rfl ?_
   refine ev ?_
   refine wc zkT (zc8 n (p:=nth p.kids 0) (by have:=Pats.size_mem (zaf h6.2);omega) (Pats.ok_mem hok.2 _ (zaf h6.2))) rfl rfl ?_
   refine Walk.store ty56 .none rfl rfl rfl rfl rfl rfl (by simp) rfl ?_
   refine tv ?_
   refine rn0 (.cons (.cellA ty56 rfl rfl rfl) .nil) (.agg (.cons (.eqd ?_) (.cons (.eqd ?_) (.cons (.eqd ?_) (.cons (.eqd ?_) (.cons (.eqd ?_) (.cons (.eqd ?_) .nil)))))))
   rotate_left 6
   try simp only[Q,Pat.cs_len] at h3p
   exfalso;omega
   try simp only[Q,Pat.cs_len] at h2p
   exfalso;omega
   all_goals (rfl)
  ·rw[zpM h2 h6]
   refine bd Tryz.f249 42 [] [] fun w0 F0 own kept hk=>?_
   refine Walk.box (id:=3001) .none rfl rfl rfl rfl rfl rfl rfl ?_
   refine Walk.alloc (id:=3002) tz56 rfl .none rfl rfl rfl rfl ?_
   refine tv ?_
   refine sq (fun h1 h1p h1s=>?_) fun h1 h1p h1s=>?_
   try simp only[Q,Pat.cs_len] at h1p
   exfalso;omega
   try simp only[Q,Pat.cs_len] at h1p
   refine sq (fun h2 h2p h2s=>?_) fun h2 h2p h2s=>?_
   try simp only[Q,Pat.cs_len] at h2p
   refine sq (fun h3 h3p h3s=>?_) fun h3 h3p h3s=>?_
   try simp only[Q,Pat.cs_len] at h3p
   exfalso;apply h6;exact⟨by omega,by omega⟩
   try simp only[Q,Pat.cs_len] at h3p
   refine Walk.alloc (id:=3003) tz56 rfl .none rfl rfl rfl rfl ?_
   refine Walk.store ty56 .none rfl rfl rfl rfl rfl rfl (by simp) rfl ?_
   refine tv ?_
   refine Walk.store ty45 .none rfl rfl rfl rfl rfl rfl (by simp) rfl ?_
   refine tv ?_
   refine CWp.tokB 3003 5 7 6 rfl rfl rfl rfl ?_
   refine CWp.loopX (ι:=List (Pat)×List (Pat)) hk (fun x=>[(4,.d (.i (x.1.length:Int)))]) [23,24,25,26,27,28,29,30,31,32,33,34,35,36,37,38,39,40] (fun x=>[(3003,some (.box [.d (.i p.op),.d (.i p.ctor),.d (.i p.n),.d (.i p.m),.d (.i p.var),.gl 7 ((x.1.map zaM).map Pat.cc)])),(7,some (.tok ((x.1.map zaM).map Pat.cc).length 6))]) (fun x=>x.1++x.2=p.kids) (fun x=>x.2.length) ([],p.kids) (by simp) ⟨⟨_,rfl,LeA.eqi ?_⟩,trivial⟩ ⟨?_,⟨zaa ?_,trivial⟩⟩ (fun x=>rfl) (fun x hg1=>?_)
   focus (first|rfl|(simp;done)|(simp_all;done)|omega|(simp;omega))
   focus (first|rfl|(simp[getH];done))
   focus (first|rfl|(simp;done)|(simp_all;done)|omega|(simp;omega))
   obtain⟨pre,rest⟩:=x
   dsimp only at hg1 ⊢
   refine evc [] [] ?_
   refine sq (fun h4 h4p h4s=>?_) fun h4 h4p h4s=>?_
   try simp only[Q,Pat.cs_len] at h4p
   rcases rest with _|⟨y,rest⟩
   ·exfalso;simp_all
   refine Walk.idx sl45 .none rfl rfl rfl rfl (Pat.cs_at' hg1) rfl ?_
   refine evd [] [] ?_
   refine wc zkT (zc8 n (p:=y) (by have:=Pats.size_mem (l:=p.kids) (v:=y) (by rw[←hg1];simp);omega) (Pats.ok_mem hok.2 y (by rw[←hg1];simp))) rfl rfl ?_
   refine Walk.sliceLit sl45 tz56 rfl (by decide) (ks:=[0]) (xs:=[_]) rfl rfl (by decide) (by decide) .none rfl rfl rfl rfl ?_
   refine Walk.append sl45 zz56 rfl .none rfl rfl rfl rfl (zaw rfl (by first|rfl|(simp;done)|(simp;omega))) (by intro x hx;first|(simp at hx;subst hx;rfl)|exact zby _ x hx) (by have:=congrArg List.length hg1;simp at this;simp;omega) (by have:=congrArg List.length hg1;simp at this;simp;omega) ?_
   refine evd [] [] ?_
   refine Walk.store ty45 .none rfl rfl rfl rfl rfl rfl (by simp) rfl ?_
   refine dr ?_
   refine ar ?_
   refine Exists.intro ((pre++[y],rest)) ⟨(by have hz:=hg1;rw[←hz];simp),(by simp),sx ⟨⟨_,rfl,LeA.eqi ?_⟩,trivial⟩ ⟨?_,⟨zaa ?_,trivial⟩⟩⟩
   focus (first|rfl|(simp;done)|(simp_all;done)|omega|(simp;omega))
   focus (first|rfl|(simp[getH];done))
   focus (first|rfl|(simp;done)|(simp_all;done)|omega|(simp;omega))
   try simp only[Q,Pat.cs_len] at h4p
   have hrest:rest=[]:=by
    rcases rest with _|⟨a,b⟩
    ·rfl
    ·exfalso;have hz:=congrArg List.length (hg1);simp only[List.length_append,List.length_cons,List.length_map] at hz;omega
   subst hrest
   refine Walk.store ty56 .none rfl rfl rfl rfl rfl rfl (by simp) rfl ?_
   refine tv ?_
   refine rn0 (.cons (.cellA ty56 rfl rfl rfl) .nil) (.agg (.cons (.eqd ?_) (.cons (.eqd ?_) (.cons (.eqd ?_) (.cons (.eqd ?_) (.cons (.eqd ?_) (.cons (.gld ?_) .nil)))))))
   rotate_left 6
   try simp only[Q,Pat.cs_len] at h2p
   refine Walk.alloc (id:=3003) tz56 rfl .none rfl rfl rfl rfl ?_
   refine Walk.store ty56 .none rfl rfl rfl rfl rfl rfl (by simp) rfl ?_
   refine tv ?_
   refine Walk.store ty45 .none rfl rfl rfl rfl rfl rfl (by simp) rfl ?_
   refine tv ?_
   refine CWp.tokB 3003 5 7 6 rfl rfl rfl rfl ?_
   refine CWp.loopX (ι:=List (Pat)×List (Pat)) hk (fun x=>[(4,.d (.i (x.1.length:Int)))]) [23,24,25,26,27,28,29,30,31,32,33,34,35,36,37,38,39,40] (fun x=>[(3003,some (.box [.d (.i p.op),.d (.i p.ctor),.d (.i p.n),.d (.i p.m),.d (.i p.var),.gl 7 ((x.1.map zaM).map Pat.cc)])),(7,some (.tok ((x.1.map zaM).map Pat.cc).length 6))]) (fun x=>x.1++x.2=p.kids) (fun x=>x.2.length) ([],p.kids) (by simp) ⟨⟨_,rfl,LeA.eqi ?_⟩,trivial⟩ ⟨?_,⟨zaa ?_,trivial⟩⟩ (fun x=>rfl) (fun x hg1=>?_)
   focus (first|rfl|(simp;done)|(simp_all;done)|omega|(simp;omega))
   focus (first|rfl|(simp[getH];done))
   focus (first|rfl|(simp;done)|(simp_all;done)|omega|(simp;omega))
   obtain⟨pre,rest⟩:=x
   dsimp only at hg1 ⊢
   refine evc [] [] ?_
   refine sq (fun h5 h5p h5s=>?_) fun h5 h5p h5s=>?_
   try simp only[Q,Pat.cs_len] at h5p
   rcases rest with _|⟨y,rest⟩
   ·exfalso;simp_all
   refine Walk.idx sl45 .none rfl rfl rfl rfl (Pat.cs_at' hg1) rfl ?_
   refine evd [] [] ?_
   refine wc zkT (zc8 n (p:=y) (by have:=Pats.size_mem (l:=p.kids) (v:=y) (by rw[←hg1];simp);omega) (Pats.ok_mem hok.2 y (by rw[←hg1];simp))) rfl rfl ?_
   refine Walk.sliceLit sl45 tz56 rfl (by decide) (ks:=[0]) (xs:=[_]) rfl rfl (by decide) (by decide) .none rfl rfl rfl rfl ?_
   refine Walk.append sl45 zz56 rfl .none rfl rfl rfl rfl (zaw rfl (by first|rfl|(simp;done)|(simp;omega))) (by intro x hx;first|(simp at hx;subst hx;rfl)|exact zby _ x hx) (by have:=congrArg List.length hg1;simp at this;simp;omega) (by have:=congrArg List.length hg1;simp at this;simp;omega) ?_
   refine evd [] [] ?_
   refine Walk.store ty45 .none rfl rfl rfl rfl rfl rfl (by simp) rfl ?_
   refine dr ?_
   refine ar ?_
   refine Exists.intro ((pre++[y],rest)) ⟨(by have hz:=hg1;rw[←hz];simp),(by simp),sx ⟨⟨_,rfl,LeA.eqi ?_⟩,trivial⟩ ⟨?_,⟨zaa ?_,trivial⟩⟩⟩
   focus (first|rfl|(simp;done)|(simp_all;done)|omega|(simp;omega))
   focus (first|rfl|(simp[getH];done))
   focus (first|rfl|(simp;done)|(simp_all;done)|omega|(simp;omega))
   try simp only[Q,Pat.cs_len] at h5p
   have hrest:rest=[]:=by
    rcases rest with _|⟨a,b⟩
    ·rfl
    ·exfalso;have hz:=congrArg List.length (hg1);simp only[List.length_append,List.length_cons,List.length_map] at hz;omega
   subst hrest
   refine Walk.store ty56 .none rfl rfl rfl rfl rfl rfl (by simp) rfl ?_
   refine tv ?_
   refine rn0 (.cons (.cellA ty56 rfl rfl rfl) .nil) (.agg (.cons (.eqd ?_) (.cons (.eqd ?_) (.cons (.eqd ?_) (.cons (.eqd ?_) (.cons (.eqd ?_) (.cons (.gld ?_) .nil)))))))
   rotate_left 6
   all_goals (first|rfl|(rw[List.append_nil] at hg1;rw[←hg1,Pat.cs_cd];done)|(rw[List.append_nil] at hg1;subst hg1;rw[←Pat.cs_cd];all_goals rfl))
theorem zkz {ls:List (List Pat)} (hl:ls.length≤1000000000000) (hls:∀l∈ls,l.length≤1000000000000):FnD Tryz.prog 292 [.d (zh9 ls)] [] (.d (zh9 (tupQ 400 ls))) []:=by
 refine bd Tryz.f292 62 [] [] fun w0 F0 own kept hk=>?_
 refine Walk.sliceEmpty sl45 .none rfl ?_
 refine Walk.sliceLit zdX tz45 rfl (by decide) (ks:=[0]) (xs:=[_]) rfl rfl (by decide) (by decide) .none rfl rfl rfl rfl ?_
 refine ev ?_
 refine CWp.loopX (ι:=List (List Pat)×List (List Pat)) hk (fun x=>[(4,.d (.i (x.1.length:Int))),(3,.d (.sl ((tupQ 400 x.1).map zg7)))]) [5,6,7,10,11,12,13,14,15,16,17,18,19,20,21,22,23,24,25,26,27,28,29,30,31,32,33,34,35,36,37,38,39,40,41,42,43,44,45,46,47,48,49,50,51,52,53,54,55,56,57,58,59,60] (fun x=>[]) (fun x=>x.1++x.2=ls) (fun x=>x.2.length) ([],ls) (by simp) ⟨⟨_,rfl,LeA.eqi ?_⟩,⟨⟨_,rfl, ?_⟩,trivial⟩⟩ trivial (fun x=>rfl) (fun x hg1=>?_)
 focus (first|rfl|(simp;done)|(rw[zcr,zdd,zda (by omega)]))
 focus (first|exact LeA.refl _|((first|refine LeA.gld ?_|refine LeA.nild ?_);first|rfl|(simp;done)|(rw[zcr,zdd,zda (by omega)]))|(refine LeA.eqsl ?_;first|rfl|(simp;done)|(rw[zcr,zdd,zda (by omega)]))|(refine LeA.eqd ?_;first|rfl|(simp;done)|(rw[zcr,zdd,zda (by omega)])))
 obtain⟨pre,rest⟩:=x
 dsimp only at hg1 ⊢
 refine evc [] [] ?_
 refine sq (fun h1 h1p h1s=>?_) fun h1 h1p h1s=>?_
 try simp only[Q,Pat.cs_len,Int.ofNat_lt,Int.ofNat_le] at h1p
 rcases rest with _|⟨l,rest⟩
 ·exfalso;simp_all
 have hll:=hls l (by rw[←hg1];simp);have htl:=zpf 400 pre
 refine Walk.sliceEmptyG 3 zdX .none rfl rfl ?_
 refine ev ?_
 refine CWp.loopX (ι:=Nat) hk (fun k=>[(6,.d (.i (k:Int))),(5,.gl 3 (((((tupQ 400 pre).take k).flatMap (zjP l)).take (400+1)).map zg7))]) [7,17,18,19,20,21,22,23,24,25,26,27,28,29,30,31,32,33,34,35,36,37,38,39,40,41,42,43,44,45,46,47,48,49,50,51,52,53,54,55,56,57,58,59] (fun k=>[(3,some (.tok ((((((tupQ 400 pre).take k).flatMap (zjP l)).take (400+1)).map zg7)).length 1))]) (fun k=>k≤(tupQ 400 pre).length) (fun k=>(tupQ 400 pre).length-k) 0 (by simp) ⟨⟨_,rfl,LeA.eqi ?_⟩,⟨⟨_,rfl,LeA.glg ?_⟩,trivial⟩⟩ ⟨zaa ?_,trivial⟩ (fun x=>rfl) (fun k hg2=>?_)
 iterate 3 focus (first|rfl|(simp;done)|(rw[zms (by omega),zkE (by omega)])|(simp;omega))
 refine evc [] [] ?_
 refine sq (fun h2 h2p h2s=>?_) fun h2 h2p h2s=>?_
 try simp only[Q,Pat.cs_len,Int.ofNat_lt,Int.ofNat_le] at h2p
 refine sq (fun h3 h3p h3s=>?_) fun h3 h3p h3s=>?_
 try simp only[Q,Pat.cs_len,Int.ofNat_lt,Int.ofNat_le] at h3p
 refine CWp.loopX (ι:=Nat) hk (fun j=>[(7,.d (.i (j:Int))),(5,.gl 3 (((((tupQ 400 pre).take k).flatMap (zjP l)++(l.take j).map (fun y=>nth (tupQ 400 pre) k++[y])).take (400+1)).map zg7))]) [28,29,30,31,32,33,34,35,36,37,38,39,40,41,42,43,44,45,46,47,48,49,50,51,52,53,54,55,56,57,58,59] (fun j=>[(3,some (.tok ((((((tupQ 400 pre).take k).flatMap (zjP l)++(l.take j).map (fun y=>nth (tupQ 400 pre) k++[y])).take (400+1)).map zg7)).length 1))]) (fun j=>j≤l.length) (fun j=>l.length-j) 0 (by simp) ⟨⟨_,rfl,LeA.eqi ?_⟩,⟨⟨_,rfl,LeA.glg ?_⟩,trivial⟩⟩ ⟨zaa ?_,trivial⟩ (fun x=>rfl) (fun j hg3=>?_)
 iterate 3 focus (first|rfl|(simp;done)|(rw[zp8 (by omega) (by omega),List.map_append];simp[Pat.cs_cd];done)|(simp;omega))
 have hol:=zpg 400 (zaf (l:=tupQ 400 pre) (i:=k) (by omega))
 refine evc [] [] ?_
 refine Walk.idx zdX .none rfl rfl rfl rfl (by first|exact zaD hg1|exact zaq (by omega)) rfl ?_
 refine ev ?_
 refine sq (fun h4 h4p h4s=>?_) fun h4 h4p h4s=>?_
 try simp only[Q,Pat.cs_len,Int.ofNat_lt,Int.ofNat_le] at h4p
 refine sq (fun h5 h5p h5s=>?_) fun h5 h5p h5s=>?_
 try simp only[Q,Pat.cs_len,Int.ofNat_lt,Int.ofNat_le] at h5p
 refine Walk.sliceEmptyG 5 sl45 .none rfl rfl ?_
 refine evd [] [] ?_
 refine Walk.idx zdX .none rfl rfl rfl rfl (by first|exact zaD hg1|exact zaq (by omega)) rfl ?_
 refine evd [] [] ?_
 refine Walk.append sl45 zz56 rfl .none rfl rfl rfl rfl (zaw rfl (by first|rfl|(simp;done)|(simp;omega))) (by intro z hz;first|(rw[Pat.cs_cd] at hz;obtain⟨_,_,rfl⟩:=List.mem_map.1 hz;rfl)|(simp at hz;rw[hz];rfl)) (by first|(simp only[List.length_map,List.length_append,List.length_cons,List.length_nil,Pat.cs_len] at *;omega)) (by first|(simp only[List.length_map,List.length_append,List.length_cons,List.length_nil,Pat.cs_len] at *;omega)) ?_
 refine evd [] [] ?_
 refine Walk.idx zdX .none rfl rfl rfl rfl (by first|exact zaD hg1|exact zaq (by omega)) rfl ?_
 refine evd [] [] ?_
 refine Walk.idx sl45 .none rfl rfl rfl rfl (zaH (by omega)) rfl ?_
 refine evd [] [] ?_
 refine Walk.sliceLit sl45 tz56 rfl (by decide) (ks:=[0]) (xs:=[_]) rfl rfl (by decide) (by decide) .none rfl rfl rfl rfl ?_
 refine Walk.append sl45 zz56 rfl .none rfl rfl rfl rfl (zaw rfl (by first|rfl|(simp;done)|(simp;omega))) (by intro z hz;first|(rw[Pat.cs_cd] at hz;obtain⟨_,_,rfl⟩:=List.mem_map.1 hz;rfl)|(simp at hz;rw[hz];rfl)) (by first|(simp only[List.length_map,List.length_append,List.length_cons,List.length_nil,Pat.cs_len] at *;omega)) (by first|(simp only[List.length_map,List.length_append,List.length_cons,List.length_nil,Pat.cs_len] at *;omega)) ?_
 refine Walk.sliceLit zdX tz45 rfl (by decide) (ks:=[0]) (xs:=[_]) rfl rfl (by decide) (by decide) .none rfl rfl rfl rfl ?_
 refine Walk.append zdX zz45 rfl .none rfl rfl rfl rfl (zaw rfl (by first|rfl|(simp;done)|(simp;omega))) (by intro z hz;first|(rw[Pat.cs_cd] at hz;obtain⟨_,_,rfl⟩:=List.mem_map.1 hz;rfl)|(simp at hz;rw[hz];rfl)) (by first|(simp only[List.length_map,List.length_append,List.length_cons,List.length_nil,Pat.cs_len] at *;omega)) (by first|(simp only[List.length_map,List.length_append,List.length_cons,List.length_nil,Pat.cs_len] at *;omega)) ?_
 refine evd [] [] ?_
 refine dr ?_
 refine ar ?_
 refine Exists.intro (j+1) ⟨?_, ?_,sx ⟨⟨_,rfl,LeA.eqi ?_⟩,⟨⟨_,rfl,LeA.glg ?_⟩,trivial⟩⟩ ⟨zaa ?_,trivial⟩⟩
 iterate 2 focus (first|omega|(simp_all;done)|(simp_all;omega))
 iterate 3 focus (first|rfl|(simp;done)|(rw[zp8 (by omega) (by omega),List.map_append];simp[Pat.cs_cd];done)|(simp;omega))
 try simp only[Q,Pat.cs_len,Int.ofNat_lt,Int.ofNat_le] at h5p
 refine ar ?_
 refine Exists.intro (k+1) ⟨?_, ?_,sx ⟨⟨_,rfl,LeA.eqi ?_⟩,⟨⟨_,rfl,LeA.glg ?_⟩,trivial⟩⟩ ⟨zaa ?_,trivial⟩⟩
 iterate 2 focus (first|omega|(simp_all;done)|(simp_all;omega))
 iterate 3 focus (first|rfl|(simp;done)|(rw[zms (by omega),zkE (by omega)])|(simp;omega))
 try simp only[Q,Pat.cs_len,Int.ofNat_lt,Int.ofNat_le] at h4p
 refine sqF ?_
 refine ar ?_
 refine Exists.intro (k+1) ⟨?_, ?_,sx ⟨⟨_,rfl,LeA.eqi ?_⟩,⟨⟨_,rfl,LeA.glg ?_⟩,trivial⟩⟩ ⟨zaa ?_,trivial⟩⟩
 iterate 2 focus (first|omega|(simp_all;done)|(simp_all;omega))
 iterate 3 focus (first|rfl|(simp;done)|(rw[zms (by omega),zkE (by omega)])|(simp;omega))
 try simp only[Q,Pat.cs_len,Int.ofNat_lt,Int.ofNat_le] at h3p
 refine ar ?_
 refine Exists.intro ((pre++[l],rest)) ⟨(by have hz:=hg1;rw[←hz];simp),(by simp),sx ⟨⟨_,rfl,LeA.eqi ?_⟩,⟨⟨_,rfl, ?_⟩,trivial⟩⟩ trivial⟩
 focus (first|rfl|(simp;done)|(rw[zcr,zdd,zda (by omega)]))
 focus (first|exact LeA.refl _|((first|refine LeA.gld ?_|refine LeA.nild ?_);first|rfl|(simp;done)|(rw[zcr,zdd,zda (by omega)]))|(refine LeA.eqsl ?_;first|rfl|(simp;done)|(rw[zcr,zdd,zda (by omega)]))|(refine LeA.eqd ?_;first|rfl|(simp;done)|(rw[zcr,zdd,zda (by omega)])))
 try simp only[Q,Pat.cs_len,Int.ofNat_lt,Int.ofNat_le] at h2p
 refine sqF ?_
 refine ar ?_
 refine Exists.intro ((pre++[l],rest)) ⟨(by have hz:=hg1;rw[←hz];simp),(by simp),sx ⟨⟨_,rfl,LeA.eqi ?_⟩,⟨⟨_,rfl, ?_⟩,trivial⟩⟩ trivial⟩
 focus (first|rfl|(simp;done)|(rw[zcr,zdd,zda (by omega)]))
 focus (first|exact LeA.refl _|((first|refine LeA.gld ?_|refine LeA.nild ?_);first|rfl|(simp;done)|(rw[zcr,zdd,zda (by omega)]))|(refine LeA.eqsl ?_;first|rfl|(simp;done)|(rw[zcr,zdd,zda (by omega)]))|(refine LeA.eqd ?_;first|rfl|(simp;done)|(rw[zcr,zdd,zda (by omega)])))
 try simp only[Q,Pat.cs_len,Int.ofNat_lt,Int.ofNat_le] at h1p
 have hrest:rest=[]:=by
  rcases rest with _|⟨a,b⟩
  ·rfl
  ·exfalso;have hz:=congrArg List.length (hg1);simp only[List.length_append,List.length_cons,List.length_map] at hz;omega
 subst hrest
 refine rn0 (r1 rfl) (.eqd ?_)
 rotate_left
 all_goals ((rw[List.append_nil] at hg1);subst hg1;rfl)
theorem zdZ:∀(n:Nat){p:Pat},binP n p=true→p.ok→FnD Tryz.prog 248 [.agg [.d (.i p.op),.d (.i p.ctor),.d (.i p.n),.d (.i p.m),.d (.i p.var),.d (zae p.kids)]] [] (.gv 9 (Pat.cs (za2 p))) [(9,some (.tok (Pat.cs (za2 p)).length 6))]
 |0,p,h,_=>by simp[binP] at h
 |n+1,p,h,hok=>by
  have hok':=(Pat.ok_iff p).1 hok
  have hok1:=hok'.1
  by_cases h5:p.op=5
  ·have hl:=zjB h h5
   have e5:=zsD h5 hl
   have l0:=zgo (nth p.kids 0)
   have l1:=zgo (nth p.kids 1)
   have c0:=zdZ n (zee h (i:=0) (by omega)) (Pats.ok_mem hok'.2 _ (zaf (by omega)))
   have c1:=FnD.gvD (zdZ n (zee h (i:=1) (by omega)) (Pats.ok_mem hok'.2 _ (zaf (by omega))))
   rw[e5]
   generalize za2 (nth p.kids 0)=A at *
   generalize za2 (nth p.kids 1)=C at *
   by_cases hlen:(A++C).length≤401
   ·rw[List.take_of_length_le hlen]
    rw[List.length_append] at hlen
    refine bd Tryz.f248 67 [25] [] fun w0 F0 own kept hk=>?_
    refine Walk.box (id:=3001) .none rfl rfl rfl rfl rfl rfl rfl ?_
    refine evs [25] [] ?_
    refine sq (fun h1 h1p h1s=>?_) fun h1 h1p h1s=>?_
    try simp only[Q,Pat.cs_len,List.length_append] at h1p
    refine Walk.idx (i:=0) sl45 .none rfl rfl rfl rfl (zaH (by omega)) rfl ?_
    refine evd [25] [] ?_
    refine Walk.call (cr:=[9]) zhD (c0) rfl .none rfl rfl (LeL.refl _) trivial rfl rfl rfl ?_
    refine evd [25] [] ?_
    refine Walk.idx (i:=1) sl45 .none rfl rfl rfl rfl (zaH (by omega)) rfl ?_
    refine evd [25] [] ?_
    refine wc zhD (c1) rfl rfl ?_
    refine Walk.appendV sl45 zz56 .none rfl rfl rfl rfl (zaw rfl (by first|rfl|(simp;done)|(simp;omega))) (by intro x hx;exact zbb _ x hx) (by simp[Pat.cs_len];omega) (by simp[Pat.cs_len];omega) ?_
    refine evd [25] [] ?_
    refine dr ?_
    refine Walk.lenV sl45 .none rfl rfl ?_
    refine evs [25] [] ?_
    refine sq (fun h2 h2p h2s=>?_) fun h2 h2p h2s=>?_
    try simp only[Q,Pat.cs_len,List.length_append] at h2p
    exfalso;omega
    try simp only[Q,Pat.cs_len,List.length_append] at h2p
    refine rn [(9,some (.tok (Pat.cs (A++C)).length 6))] (r1 rfl) (.gvg ?_) ⟨rfl,rfl⟩ (SubH.get ⟨?_,trivial⟩) (zaB rfl)
    rotate_left 2
    try simp only[Q,Pat.cs_len,List.length_append] at h1p
    exfalso;omega
    all_goals (first|((first|rfl|(simp[Pat.cs_cd];done));done)|(first|rfl|(simp[Pat.cs_cd];rfl)))
   ·have c8:=FnD.gvRen 8 c0
    rw[List.length_append] at hlen
    refine bd Tryz.f248 67 [25] [] fun w0 F0 own kept hk=>?_
    refine Walk.box (id:=3001) .none rfl rfl rfl rfl rfl rfl rfl ?_
    refine evs [25] [] ?_
    refine sq (fun h1 h1p h1s=>?_) fun h1 h1p h1s=>?_
    try simp only[Q,Pat.cs_len,List.length_append] at h1p
    refine Walk.idx (i:=0) sl45 .none rfl rfl rfl rfl (zaH (by omega)) rfl ?_
    refine evd [25] [] ?_
    refine Walk.call (cr:=[8]) zhD (c8) rfl .none rfl rfl (LeL.refl _) trivial rfl rfl rfl ?_
    refine evd [25] [] ?_
    refine Walk.idx (i:=1) sl45 .none rfl rfl rfl rfl (zaH (by omega)) rfl ?_
    refine evd [25] [] ?_
    refine wc zhD (c1) rfl rfl ?_
    refine Walk.appendV sl45 zz56 .none rfl rfl rfl rfl (zaw rfl (by first|rfl|(simp;done)|(simp;omega))) (by intro x hx;exact zbb _ x hx) (by simp[Pat.cs_len];omega) (by simp[Pat.cs_len];omega) ?_
    refine evd [25] [] ?_
    refine dr ?_
    refine Walk.lenV sl45 .none rfl rfl ?_
    refine evs [25] [] ?_
    refine sq (fun h2 h2p h2s=>?_) fun h2 h2p h2s=>?_
    try simp only[Q,Pat.cs_len,List.length_append] at h2p
    refine Walk.cutV_h 9 (b:=401) sl45 .none rfl rfl (zaw rfl (by first|rfl|(simp;done)|(simp;omega))) rfl rfl (by simp[Pat.cs_len];omega) (by simp[Pat.cs_len];omega) rfl ?_
    refine evs [25] [] ?_
    refine rn [(9,some (.tok (Pat.cs ((A++C).take 401)).length 6))] (r1 rfl) (.gvg ?_) ⟨rfl,rfl⟩ (SubH.get ⟨?_,trivial⟩) (zaB rfl)
    rotate_left 2
    try simp only[Q,Pat.cs_len,List.length_append] at h2p
    exfalso;omega
    try simp only[Q,Pat.cs_len,List.length_append] at h1p
    exfalso;omega
    all_goals (first|((first|rfl|(simp[Pat.cs_cd];done));done)|(first|rfl|(show some (Res.tok _ _)=some (Res.tok _ _);simp[Pat.cs_len];omega)))
  ·have hts:=zpf 400 (p.kids.map za2)
   have htm:=fun(i:Nat) (hi:i<(tupQ 400 (p.kids.map za2)).length)=>zpg 400 (zaf hi)
   have ht3:=zkz (ls:=p.kids.map za2) (by rw[List.length_map];omega) (fun l hl=>by obtain⟨x,_,rfl⟩:=List.mem_map.1 hl;have:=zgo x;omega)
   have hcal:=fun(i:Nat) (hi:i<p.kids.length)=>FnD.gvD (zdZ n (zee h hi) (Pats.ok_mem hok'.2 _ (zaf hi)))
   have hpl:=fun(y:Pat) (pre rest:List Pat) (e:pre++y::rest=p.kids)=>(show pre.length<p.kids.length∧nth p.kids pre.length=y from⟨by have:=congrArg List.length e;simp at this;omega,zuW e⟩)
   have hcal2:=fun(y:Pat) (pre rest:List Pat) (e:pre++y::rest=p.kids)=>show FnD Tryz.prog 248 [.agg [.d (.i y.op),.d (.i y.ctor),.d (.i y.n),.d (.i y.m),.d (.i y.var),.d (zae y.kids)]] [] (.d (.sl (Pat.cs (za2 y)))) [] from by
    have hq:=hcal pre.length (hpl y pre rest e).1
    rw[(hpl y pre rest e).2] at hq
    exact hq
   have ht3':=fun(pre:List Pat) (e:pre++[]=p.kids)=>show FnD Tryz.prog 292 [.d (zh9 (pre.map za2))] [] (.d (zh9 (tupQ 400 (p.kids.map za2)))) [] from by
    rw[List.append_nil] at e
    rw[e];exact ht3
   rw[zsE h5]
   refine bd Tryz.f248 67 [] [] fun w0 F0 own kept hk=>?_
   refine Walk.box (id:=3001) .none rfl rfl rfl rfl rfl rfl rfl ?_
   refine ev ?_
   refine sq (fun h1 h1p h1s=>?_) fun h1 h1p h1s=>?_
   try simp only[Q,Pat.cs_len] at h1p
   exfalso;omega
   try simp only[Q,Pat.cs_len] at h1p
   refine Walk.sliceEmptyG 4 zdX .none rfl rfl ?_
   refine ev ?_
   refine CWp.loopX (ι:=List (Pat)×List (Pat)) hk (fun x=>[(5,.d (.i (x.1.length:Int))),(4,.gl 4 ((x.1.map za2).map zg7))]) [31,32,33,34,35,36,37,38,39,40,41,42,43,44,45,46] (fun x=>[(4,some (.tok (((x.1.map za2).map zg7)).length 1))]) (fun x=>x.1++x.2=p.kids) (fun x=>x.2.length) ([],p.kids) (by simp) ⟨⟨_,rfl,LeA.eqi ?_⟩,⟨⟨_,rfl,LeA.glg ?_⟩,trivial⟩⟩ ⟨zaa ?_,trivial⟩ (fun x=>rfl) (fun x hg1=>?_)
   iterate 3 focus (first|rfl|(simp;done)|(simp;omega))
   obtain⟨pre,rest⟩:=x
   dsimp only at hg1 ⊢
   refine evc [] [] ?_
   refine sq (fun h2 h2p h2s=>?_) fun h2 h2p h2s=>?_
   try simp only[Q,Pat.cs_len] at h2p
   rcases rest with _|⟨y,rest⟩
   ·exfalso;simp_all
   refine Walk.idx sl45 .none rfl rfl rfl rfl (Pat.cs_at' hg1) rfl ?_
   refine ev ?_
   refine wc zhD (hcal2 y pre rest hg1) rfl rfl ?_
   refine Walk.sliceLit zdX tz45 rfl (by decide) (ks:=[0]) (xs:=[_]) rfl rfl (by decide) (by decide) .none rfl rfl rfl rfl ?_
   refine Walk.append zdX zz45 rfl .none rfl rfl rfl rfl (zaw rfl (by first|rfl|(simp;done)|(simp;omega))) (by intro x hx;first|(simp at hx;subst hx;rfl)|exact zby _ x hx) (by first|(have:=congrArg List.length hg1;simp at this;simp;omega)|(simp;omega)) (by first|(have:=congrArg List.length hg1;simp at this;simp;omega)|(simp;omega)) ?_
   refine ev ?_
   refine ar ?_
   refine Exists.intro ((pre++[y],rest)) ⟨(by have hz:=hg1;rw[←hz];simp),(by simp),sx ⟨⟨_,rfl,LeA.eqi ?_⟩,⟨⟨_,rfl,LeA.glg ?_⟩,trivial⟩⟩ ⟨zaa ?_,trivial⟩⟩
   iterate 3 focus (first|rfl|(simp;done)|(simp;omega))
   try simp only[Q,Pat.cs_len] at h2p
   have hrest:rest=[]:=by
    rcases rest with _|⟨a,b⟩
    ·rfl
    ·exfalso;have hz:=congrArg List.length (hg1);simp only[List.length_append,List.length_cons,List.length_map] at hz;omega
   subst hrest
   refine Walk.call (cr:=[]) zuC (ht3' pre hg1) rfl .none rfl rfl (.cons (.gl _ _) .nil) trivial rfl rfl rfl ?_
   refine ev ?_
   refine Walk.sliceEmptyGV 9 sl45 .none rfl rfl ?_
   refine ev ?_
   refine CWp.loopX (ι:=Nat) hk (fun k=>[(8,.d (.i (k:Int))),(7,.gv 9 ((((tupQ 400 (p.kids.map za2)).take k).map fun l=>Pat.mk p.op p.ctor p.n p.m p.var l).map Pat.cc))]) [9,50,51,52,53,54,55,56,57,58,59,60,61,62,63,64,65] (fun k=>[(9,some (.tok (((((tupQ 400 (p.kids.map za2)).take k).map fun l=>Pat.mk p.op p.ctor p.n p.m p.var l).map Pat.cc)).length 6))]) (fun k=>k≤(tupQ 400 (p.kids.map za2)).length) (fun k=>(tupQ 400 (p.kids.map za2)).length-k) 0 (by omega) ⟨⟨_,rfl,LeA.eqi ?_⟩,⟨⟨_,rfl,LeA.gvg ?_⟩,trivial⟩⟩ ⟨zaa ?_,trivial⟩ (fun x=>rfl) (fun k hg2=>?_)
   iterate 3 focus (first|rfl|(simp;done)|(rw[List.take_succ_eq_append_getElem (by omega),←za6 (by omega)];simp[zhc,zfn,mk_n,mk_m,zgO,zdy];done)|omega|(simp;omega))
   refine evc [] [] ?_
   refine sq (fun h3 h3p h3s=>?_) fun h3 h3p h3s=>?_
   try simp only[Q,Pat.cs_len] at h3p
   refine Walk.alloc (id:=3009) tz56 rfl .none rfl rfl rfl rfl ?_
   refine Walk.store ty56 .none rfl rfl rfl rfl rfl rfl (by simp) rfl ?_
   refine tv ?_
   refine Walk.idx zdX .none rfl rfl rfl rfl (zaq (by omega)) rfl ?_
   refine ev ?_
   refine Walk.store ty45 .none rfl rfl rfl rfl rfl rfl (by simp) rfl ?_
   refine tv ?_
   refine Walk.sliceLit sl45 tz56 rfl (by decide) (ks:=[0]) (xs:=[_]) rfl rfl (by decide) (by decide) .none rfl rfl rfl rfl ?_
   refine Walk.appendV sl45 zz56 .none rfl rfl rfl rfl (zaw rfl (by first|rfl|(simp;done)|(simp;omega))) (by intro x hx;first|(simp at hx;subst hx;rfl)|exact zby _ x hx) (by first|(have:=congrArg List.length hg1;simp at this;simp;omega)|(simp;omega)) (by first|(have:=congrArg List.length hg1;simp at this;simp;omega)|(simp;omega)) ?_
   refine ev ?_
   refine ar ?_
   refine Exists.intro (k+1) ⟨(by omega),(by omega),sx ⟨⟨_,rfl,LeA.eqi ?_⟩,⟨⟨_,rfl,LeA.gvg ?_⟩,trivial⟩⟩ ⟨zaa ?_,trivial⟩⟩
   iterate 3 focus (first|rfl|(simp;done)|(rw[List.take_succ_eq_append_getElem (by omega),←za6 (by omega)];simp[zhc,zfn,mk_n,mk_m,zgO,zdy];done)|omega|(simp;omega))
   try simp only[Q,Pat.cs_len] at h3p
   refine rn [(9,some (.tok (Pat.cs ((tupQ 400 (p.kids.map za2)).map fun l=>Pat.mk p.op p.ctor p.n p.m p.var l)).length 6))] (r1 rfl) (.gvg ?_) ⟨rfl,rfl⟩ (SubH.get ⟨?_,trivial⟩) (zaB rfl)
   rotate_left 2
   all_goals (first|((first|rfl|(obtain rfl:k=(tupQ 400 (p.kids.map za2)).length:=(by omega);rw[List.take_length,show Pat.cs ((tupQ 400 (p.kids.map za2)).map fun l=>Pat.mk p.op p.ctor p.n p.m p.var l)=((tupQ 400 (p.kids.map za2)).map fun l=>Pat.mk p.op p.ctor p.n p.m p.var l).map Pat.cc from Pat.cs_cd _];done));done)|(first|rfl|(obtain rfl:k=(tupQ 400 (p.kids.map za2)).length:=(by omega);rw[List.take_length];simp[Pat.cs_cd];rfl)|(obtain rfl:k=(tupQ 400 (p.kids.map za2)).length:=(by omega);rw[List.take_length,show Pat.cs ((tupQ 400 (p.kids.map za2)).map fun l=>Pat.mk p.op p.ctor p.n p.m p.var l)=((tupQ 400 (p.kids.map za2)).map fun l=>Pat.mk p.op p.ctor p.n p.m p.var l).map Pat.cc from Pat.cs_cd _];rfl)))
theorem zlZ {w:List Data}{n:Nat}{t:Ty}{p:Pat} (h:zau w n t p=true) (hok:p.ok):FnD Tryz.prog 196 [.agg [.d (.i p.op),.d (.i p.ctor),.d (.i p.n),.d (.i p.m),.d (.i p.var),.d (zae p.kids)]] [] (.d (zae (za2 (zaM p)))) []:=by
 have hbp:=zc8 _ (Nat.le_refl _) hok
 have hsp:=FnD.gvD (zdZ n (zhi n h) (zjA p hok))
 generalize zaM p=b at *
 refine bd Tryz.f196 6 [] [] fun w0 F0 own kept hk=>?_
 refine Walk.box (id:=3001) .none rfl rfl rfl rfl rfl rfl rfl ?_
 refine ev ?_
 refine wc zkT (hbp) rfl rfl ?_
 refine wc zhD (hsp) rfl rfl ?_
 refine ev ?_
 refine rn0 (r1 rfl) (.eqd ?_)
 rotate_left
 all_goals (rfl)
abbrev zkL (x:UInt8):List D:=[.int .u8 (x.toNat:Int)]
abbrev zcw (b:Str):D:= .sl (b.map zkL)
abbrev rdB (b:Str) (p:Nat):Res:= .box [.d (zcw b),.d (.i p)]
theorem zmc (u:UInt8):0≤IntKind.i64.wrap (u.toNat:Int)∧IntKind.i64.wrap (u.toNat:Int)≤255:=by
 have h:u.toNat<256:=u.toNat_lt
 rw[zed (by omega)]
 omega
def zhf (b:Str) (p:Nat):Int:=
 IntKind.i64.wrap ((nth b (p % b.length)).toNat:Int)*131+IntKind.i64.wrap ((nth b ((p*7+3) % b.length)).toNat:Int)*1117+((p:Int)+1-1)*29+((p:Int)+1-1) / ((b.map zkL).length:Int)*53
def zan (b:Str) (p:Nat) (n:Int):Int:=
 if n<1∨b.length=0 then 0
 else if p<b.length then IntKind.i64.wrap ((nth b p).toNat:Int) % n
 else xorV (zhf b p) (zhf b p / 64) % n
theorem zcP {b:Str}{p:Nat}{n:Int} (h:1≤n):0≤zan b p n∧zan b p n<n:=by
 unfold zan
 split
 ·omega
 ·split
  ·exact⟨Int.emod_nonneg _ (by omega),Int.emod_lt_of_pos _ (by omega)⟩
  ·exact⟨Int.emod_nonneg _ (by omega),Int.emod_lt_of_pos _ (by omega)⟩
theorem zaQ {b:Str}{p:Nat}{n:Int} (hb:b.length≤2000) (hp:p≤1000000000000) (hn:n≤1000000000000):
  FnD Tryz.prog 65 [.ref 900 0,.d (.i n)] [(900,some (rdB b p))] (.d (.i (zan b p n))) [(900,some (rdB b (p+1)))]:=by
 have w1:=zmc (nth b (p % b.length))
 have w2:=zmc (nth b ((p*7+3) % b.length))
 have w3:=zmc (nth b p)
 have hlen:((b.map zkL).length:Int)=b.length:=by simp
 have d1:0≤((p:Int)+1-1) / ((b.map zkL).length:Int):=Int.ediv_nonneg (by omega) (by omega)
 have d2:((p:Int)+1-1) / ((b.map zkL).length:Int)≤(p:Int)+1-1:=Int.ediv_le_self _ (by omega)
 have hx:0≤zhf b p∧zhf b p≤100*1000000000000:=by unfold zhf;omega
 have hx2:=ztI (m:=zhf b p) (n:=zhf b p / 64) (by omega) (by omega)
 have k1:(p:Int)+1-1=(p:Int):=by omega
 have hx3:=hx2
 have hx4:=hx
 unfold zhf at hx3 hx4
 refine bd Tryz.f65 99 [46,57,74,89,94,95,98] [] fun w0 F0 own kept hk=>?_
 refine ar ?_
 refine Walk.store ty3 .none rfl rfl rfl rfl rfl rfl (by simp) rfl ?_
 refine tv ?_
 refine sq (fun h1 h1p h1s=>?_) fun h1 h1p h1s=>?_
 try simp only[Q] at h1p
 refine sqT ?_
 refine rn [(900,some (rdB b (p+1)))] (r1 rfl) (.eqd ?_) ⟨rfl,rfl⟩ (SubO.get ⟨.inr ?_,⟨.inl rfl,trivial⟩⟩) (zaB rfl)
 rotate_left 2
 try simp only[Q] at h1p
 refine sq (fun h3 h3p h3s=>?_) fun h3 h3p h3s=>?_
 try simp only[Q] at h3p
 refine rn [(900,some (rdB b (p+1)))] (r1 rfl) (.eqd ?_) ⟨rfl,rfl⟩ (SubO.get ⟨.inr ?_,⟨.inl rfl,trivial⟩⟩) (zaB rfl)
 rotate_left 2
 try simp only[Q] at h3p
 refine ar ?_
 refine sq (fun h4 h4p h4s=>?_) fun h4 h4p h4s=>?_
 try simp only[Q] at h4p
 refine Walk.idx (i:=p) sl41 .none rfl rfl rfl (by omega) (zaq (by omega)) rfl ?_
 refine evs [46,57,74,89,94,95,98] [] ?_
 refine Walk.conv (by rw[un5];rfl) un3 .none rfl rfl ?_
 refine evs [46,57,74,89,94,95,98] [] ?_
 refine Walk.remI .none rfl rfl rfl (by omega) ?_
 refine evs [46,57,74,89,94,95,98] [] ?_
 refine rn [(900,some (rdB b (p+1)))] (r1 rfl) (.eqd ?_) ⟨rfl,rfl⟩ (SubO.get ⟨.inr ?_,⟨.inl rfl,trivial⟩⟩) (zaB rfl)
 rotate_left 2
 try simp only[Q] at h4p
 refine Walk.remI .none rfl rfl rfl (by omega) ?_
 refine Walk.idx (i:=p % b.length) sl41 .none rfl rfl rfl (by rw[k1,hlen];rfl) (zaq (Nat.mod_lt _ (by omega))) rfl ?_
 refine evd [46,57,74,89,94,95,98] [] ?_
 refine Walk.conv (by rw[un5];rfl) un3 .none rfl rfl ?_
 refine evd [46,57,74,89,94,95,98] [] ?_
 refine ar ?_
 refine ar ?_
 refine ar ?_
 refine Walk.remI .none rfl rfl rfl (by omega) ?_
 refine Walk.idx (i:=(p*7+3) % b.length) sl41 .none rfl rfl rfl (by rw[k1,hlen];rfl) (zaq (Nat.mod_lt _ (by omega))) rfl ?_
 refine evd [46,57,74,89,94,95,98] [] ?_
 refine Walk.conv (by rw[un5];rfl) un3 .none rfl rfl ?_
 refine evd [46,57,74,89,94,95,98] [] ?_
 refine ar ?_
 refine ar ?_
 refine ar ?_
 refine ar ?_
 refine Walk.quoI .none rfl rfl rfl (by omega) ?_
 refine evd [46,57,74,89,94,95,98] [] ?_
 refine ar ?_
 refine ar ?_
 refine dr ?_
 refine Walk.quoI .none rfl rfl rfl (by omega) ?_
 refine Walk.xorI .none rfl rfl rfl ?_
 refine evs [46,57,74,89,94,95,98] [] ?_
 refine Walk.remI .none rfl rfl rfl (by omega) ?_
 refine evs [46,57,74,89,94,95,98] [] ?_
 refine rn [(900,some (rdB b (p+1)))] (r1 rfl) (.eqd ?_) ⟨rfl,rfl⟩ (SubO.get ⟨.inr ?_,⟨.inl rfl,trivial⟩⟩) (zaB rfl)
 rotate_left 2
 all_goals (first|((refine congrArg D.i ?_;unfold zan;first|(rw[if_pos (by omega)];done)|(rw[if_neg (by omega),if_pos (by omega)];done)|(rw[if_neg (by omega),if_neg (by omega)];rfl));done)|(rfl))
def numV (b:Str) (p:Nat) (l:List Int):Int:=nth l (zan b p l.length).toNat
theorem zbQ {b:Str}{p:Nat}{l:List Int} (hb:b.length≤2000) (hp:p≤1000000000000) (hl:1≤l.length) (hl2:l.length≤1000):
  FnD Tryz.prog 108 [.ref 900 0,.d (zcx l)] [(900,some (rdB b p))] (.d (.i (numV b p l))) [(900,some (rdB b (p+1)))]:=by
 have hv:=zcP (b:=b) (p:=p) (n:=((l.map fun n=>[D.i n]).length:Int)) (by simp;omega)
 have hlen:((l.map fun n=>[D.i n]).length:Int)=l.length:=by simp
 refine bd Tryz.f108 12 [] [] fun w0 F0 own kept hk=>?_
 refine Walk.call (cr:=[]) zcg (zaQ hb hp (by simp;omega)) rfl .none rfl rfl (LeL.refl _) ⟨rfl,trivial⟩ rfl rfl rfl ?_
 refine Walk.idx (i:=(zan b p ((l.map fun n=>[D.i n]).length:Int)).toNat) za0 .none rfl rfl rfl (by omega) (zaq (by omega)) rfl ?_
 refine ev ?_
 refine rn [(900,some (rdB b (p+1)))] (r1 rfl) (.eqd ?_) ⟨rfl,rfl⟩ (SubO.get ⟨.inr ?_,⟨.inl rfl,trivial⟩⟩) (zaB rfl)
 rotate_left 2
 all_goals (first|((refine congrArg D.i ?_;unfold numV;rw[hlen]);done)|(rfl))
theorem zlJ {b:Str} (hb:b.length≤1000000000000):FnD Tryz.prog 63 [.d (zcw b)] [] (.ref 900 0) [(900,some (rdB (b.take 2000) 0))]:=by
 refine bd Tryz.f63 11 [] [] fun w0 F0 own kept hk=>?_
 refine sq (fun h1 h1p h1s=>?_) fun h1 h1p h1s=>?_
 try simp only[Q] at h1p
 refine Walk.cut_h (b:=2000) sl41 .none rfl rfl rfl (by intro x hx;obtain⟨y,_,rfl⟩:=List.mem_map.1 hx;rfl) rfl rfl (by simp at *;omega) ?_
 refine ev ?_
 refine Walk.build zs3 (ks:=[0]) (xs:=[_]) rfl rfl .none rfl rfl rfl ?_
 refine Walk.box (id:=900) .none rfl rfl rfl rfl rfl rfl rfl ?_
 refine ev ?_
 focus (refine rn [(900,some (rdB (b.take 2000) 0))] (r1 rfl) (.refl _) ⟨rfl,rfl⟩ (SubH.get ⟨(by first|(simp[getH,rdB,zcw,List.map_take];done)|(show some (Res.box _)=some (Res.box _);rw[List.take_of_length_le (by simp at *;omega)];rfl)),trivial⟩) (zaB rfl);all_goals (first|rfl|(simp[h1s,h1p];done)|(simp_all;done)|(simp_all;omega)|omega))
 try simp only[Q] at h1p
 refine Walk.build zs3 (ks:=[0]) (xs:=[_]) rfl rfl .none rfl rfl rfl ?_
 refine Walk.box (id:=900) .none rfl rfl rfl rfl rfl rfl rfl ?_
 refine ev ?_
 focus (refine rn [(900,some (rdB (b.take 2000) 0))] (r1 rfl) (.refl _) ⟨rfl,rfl⟩ (SubH.get ⟨(by first|(simp[getH,rdB,zcw,List.map_take];done)|(show some (Res.box _)=some (Res.box _);rw[List.take_of_length_le (by simp at *;omega)];rfl)),trivial⟩) (zaB rfl);all_goals (first|rfl|(simp[h1s,h1p];done)|(simp_all;done)|(simp_all;omega)|omega))
def cutL (c:UInt8):Str→Str→List Str
 |cur,[]=>[cur]
 |cur,x::r=>if x=c then cur::cutL c [] r else cutL c (cur++[x]) r
theorem zd1 (c:UInt8):∀(s cur:Str),(cutL c cur s).length≤s.length+1
 | [],cur=>by simp[cutL]
 |x::r,cur=>by
  simp only[cutL]
  split
  ·have:=zd1 c r [];simp only[List.length_cons];omega
  ·have:=zd1 c r (cur++[x]);simp only[List.length_cons];omega
theorem zh5 (c:UInt8):∀(s cur:Str),1≤(cutL c cur s).length
 | [],cur=>by simp[cutL]
 |x::r,cur=>by
  simp only[cutL]
  split
  ·simp
  ·exact zh5 c r (cur++[x])
theorem zh4 (c:UInt8):∀(s cur:Str) (t:Str),t∈cutL c cur s→t.length≤cur.length+s.length
 | [],cur,t,h=>by simp only[cutL,List.mem_singleton] at h;subst h;simp
 |x::r,cur,t,h=>by
  simp only[cutL] at h
  split at h
  ·rcases List.mem_cons.1 h with rfl|h
   ·simp
   ·have:=zh4 c r [] t h;simp only[List.length_cons,List.length_nil] at this ⊢;omega
  ·have:=zh4 c r (cur++[x]) t h;simp only[List.length_append,List.length_cons,List.length_nil] at this ⊢;omega
theorem zg0 {s:Str}{i:Nat} (h:i<s.length):s[i]?=some (nth s i):=by rw[za6 h];exact List.getElem?_eq_getElem h
theorem zke {s:Str}{f i:Nat} (hf:f≤i) (h:i<s.length):(s.take (i+1)).drop f=(s.take i).drop f++[nth s i]:=by
 rw[List.take_add_one,List.getElem?_eq_getElem h,List.drop_append_of_le_length (by simp;omega),za6 h]
 rfl
theorem zh6 {s:Str}{f i:Nat}:(s.drop f).take (i-f)=(s.take i).drop f:=by rw[List.drop_take]
theorem zcA {s:Str}{c:UInt8} (hs:s.length≤1000000000000):FnD Tryz.prog 208 [.d (.str s),.d (.int .u8 (c.toNat:Int))] [] (.d (zeK (cutL c [] s))) []:=by
 have hu:∀a:UInt8,((a.toNat:Int)=(c.toNat:Int))↔a=c:=fun a=>by rw[Int.natCast_inj];exact UInt8.toNat_inj
 refine bd Tryz.f208 36 [] [] fun w0 F0 own kept hk=>?_
 refine Walk.sliceEmptyG 1 zbU .none rfl rfl ?_
 refine ev ?_
 refine CWp.loopX (ι:=Nat×Nat×List Str) hk (fun x=>[(7,.d (.i (x.1:Int))),(6,.d (.i (x.2.1:Int))),(5,.gl 1 (x.2.2.map fun n=>[D.str n]))]) [9,10,11,12,13,14,15,16,17,18,19,20,21,22,23,24,25,26,27,28,29,30,31,32,33,34] (fun x=>[(1,some (.tok ((x.2.2.map fun n=>[D.str n])).length 1))]) (fun x=>x.1≤s.length+1∧x.2.2.length≤x.1∧if x.1=s.length+1 then x.2.2=cutL c [] s else x.2.1≤x.1∧x.2.2++cutL c ((s.take x.1).drop x.2.1) (s.drop x.1)=cutL c [] s) (fun x=>s.length+1-x.1) (0,0,[]) ⟨by simp,by simp,by rw[if_neg (by simp)];simp⟩ ⟨⟨_,rfl,LeA.eqi ?_⟩,⟨⟨_,rfl,LeA.eqi ?_⟩,⟨⟨_,rfl,LeA.glg ?_⟩,trivial⟩⟩⟩ ⟨zaa ?_,trivial⟩ (fun x=>rfl) (fun x hg1=>?_)
 iterate 4 focus (first|rfl|(split<;>first|rfl|(exfalso;simp_all;done)|(exfalso;simp_all;omega))|(split<;>first|(simp[zh6];done)|(simp;done)|(exfalso;simp_all;done)|(exfalso;simp_all;omega))|(simp;omega))
 refine evc [] [] ?_
 refine sq (fun h1 h1p h1s=>?_) fun h1 h1p h1s=>?_
 try simp only[Q,hu] at h1p
 have hne:¬x.1=s.length+1:=(by omega)
 have hcond:=hg1.2.2
 rw[if_neg hne] at hcond
 have hle:=hcond.1
 refine sq (fun h2 h2p h2s=>?_) fun h2 h2p h2s=>?_
 try simp only[Q,hu] at h2p
 refine sqT ?_
 refine Walk.cutS_lh un9 .none rfl rfl rfl rfl rfl rfl (by omega) (by omega) ?_
 refine Walk.sliceLit zbU tz9 rfl (by decide) (ks:=[0]) (xs:=[_]) rfl rfl (by decide) (by decide) .none rfl rfl rfl rfl ?_
 refine Walk.append zbU zz9 rfl .none rfl rfl rfl rfl (zaw rfl (by first|rfl|(simp;done)|(simp;omega))) (by simp) (by simp;omega) (by simp;omega) ?_
 refine ev ?_
 refine ar ?_
 refine ar ?_
 refine Exists.intro (if x.1=s.length∨nth s x.1=c then (x.1+1,x.1+1,x.2.2++[(s.take x.1).drop x.2.1]) else (x.1+1,x.2.1,x.2.2)) ⟨(by
    have hne:¬x.1=s.length+1:=by omega
    rw[if_neg hne] at hg1
    obtain⟨g1,g2,g3,g4⟩:=hg1
    by_cases he:x.1=s.length
    ·rw[if_pos (.inl he)]
     refine⟨by dsimp only;omega,by simp;omega, ?_⟩
     dsimp only
     rw[if_pos (by omega),←g4,he,List.drop_length]
     rfl
    ·have hlt:x.1<s.length:=by omega
     rw[zaV hlt] at g4
     by_cases hc:nth s x.1=c
     ·rw[if_pos (.inr hc)]
      refine⟨by dsimp only;omega,by simp;omega, ?_⟩
      dsimp only
      rw[if_neg (by omega)]
      refine⟨by omega, ?_⟩
      rw[←g4,cutL,if_pos hc,List.append_assoc]
      simp
     ·rw[if_neg (by simp[he,hc])]
      refine⟨by dsimp only;omega,by dsimp only;omega, ?_⟩
      dsimp only
      rw[if_neg (by omega)]
      refine⟨by omega, ?_⟩
      rw[←g4,cutL,if_neg hc,zke g3 hlt]),(by split<;>(dsimp only;omega)),sx ⟨⟨_,rfl,LeA.eqi ?_⟩,⟨⟨_,rfl,LeA.eqi ?_⟩,⟨⟨_,rfl,LeA.glg ?_⟩,trivial⟩⟩⟩ ⟨zaa ?_,trivial⟩⟩
 iterate 4 focus (first|rfl|(split<;>first|rfl|(exfalso;simp_all;done)|(exfalso;simp_all;omega))|(split<;>first|(simp[zh6];done)|(simp;done)|(exfalso;simp_all;done)|(exfalso;simp_all;omega))|(simp;omega))
 try simp only[Q,hu] at h2p
 refine Walk.idxS un9 (.some rfl rfl h2) rfl rfl rfl rfl (zg0 (by omega)) ?_
 refine evs [] [(19,false)] ?_ ⟨⟨_,rfl,h2⟩,trivial⟩
 refine sq (fun h4 h4p h4s=>?_) fun h4 h4p h4s=>?_
 try simp only[Q,hu] at h4p
 refine Walk.cutS_lh un9 .none rfl rfl rfl rfl rfl rfl (by omega) (by omega) ?_
 refine Walk.sliceLit zbU tz9 rfl (by decide) (ks:=[0]) (xs:=[_]) rfl rfl (by decide) (by decide) .none rfl rfl rfl rfl ?_
 refine Walk.append zbU zz9 rfl .none rfl rfl rfl rfl (zaw rfl (by first|rfl|(simp;done)|(simp;omega))) (by simp) (by simp;omega) (by simp;omega) ?_
 refine ev ?_
 refine ar ?_
 refine ar ?_
 refine Exists.intro (if x.1=s.length∨nth s x.1=c then (x.1+1,x.1+1,x.2.2++[(s.take x.1).drop x.2.1]) else (x.1+1,x.2.1,x.2.2)) ⟨(by
    have hne:¬x.1=s.length+1:=by omega
    rw[if_neg hne] at hg1
    obtain⟨g1,g2,g3,g4⟩:=hg1
    by_cases he:x.1=s.length
    ·rw[if_pos (.inl he)]
     refine⟨by dsimp only;omega,by simp;omega, ?_⟩
     dsimp only
     rw[if_pos (by omega),←g4,he,List.drop_length]
     rfl
    ·have hlt:x.1<s.length:=by omega
     rw[zaV hlt] at g4
     by_cases hc:nth s x.1=c
     ·rw[if_pos (.inr hc)]
      refine⟨by dsimp only;omega,by simp;omega, ?_⟩
      dsimp only
      rw[if_neg (by omega)]
      refine⟨by omega, ?_⟩
      rw[←g4,cutL,if_pos hc,List.append_assoc]
      simp
     ·rw[if_neg (by simp[he,hc])]
      refine⟨by dsimp only;omega,by dsimp only;omega, ?_⟩
      dsimp only
      rw[if_neg (by omega)]
      refine⟨by omega, ?_⟩
      rw[←g4,cutL,if_neg hc,zke g3 hlt]),(by split<;>(dsimp only;omega)),sx ⟨⟨_,rfl,LeA.eqi ?_⟩,⟨⟨_,rfl,LeA.eqi ?_⟩,⟨⟨_,rfl,LeA.glg ?_⟩,trivial⟩⟩⟩ ⟨zaa ?_,trivial⟩⟩
 iterate 4 focus (first|rfl|(split<;>first|rfl|(exfalso;simp_all;done)|(exfalso;simp_all;omega))|(split<;>first|(simp[zh6];done)|(simp;done)|(exfalso;simp_all;done)|(exfalso;simp_all;omega))|(simp;omega))
 try simp only[Q,hu] at h4p
 refine ar ?_
 refine Exists.intro (if x.1=s.length∨nth s x.1=c then (x.1+1,x.1+1,x.2.2++[(s.take x.1).drop x.2.1]) else (x.1+1,x.2.1,x.2.2)) ⟨(by
    have hne:¬x.1=s.length+1:=by omega
    rw[if_neg hne] at hg1
    obtain⟨g1,g2,g3,g4⟩:=hg1
    by_cases he:x.1=s.length
    ·rw[if_pos (.inl he)]
     refine⟨by dsimp only;omega,by simp;omega, ?_⟩
     dsimp only
     rw[if_pos (by omega),←g4,he,List.drop_length]
     rfl
    ·have hlt:x.1<s.length:=by omega
     rw[zaV hlt] at g4
     by_cases hc:nth s x.1=c
     ·rw[if_pos (.inr hc)]
      refine⟨by dsimp only;omega,by simp;omega, ?_⟩
      dsimp only
      rw[if_neg (by omega)]
      refine⟨by omega, ?_⟩
      rw[←g4,cutL,if_pos hc,List.append_assoc]
      simp
     ·rw[if_neg (by simp[he,hc])]
      refine⟨by dsimp only;omega,by dsimp only;omega, ?_⟩
      dsimp only
      rw[if_neg (by omega)]
      refine⟨by omega, ?_⟩
      rw[←g4,cutL,if_neg hc,zke g3 hlt]),(by split<;>(dsimp only;omega)),sx ⟨⟨_,rfl,LeA.eqi ?_⟩,⟨⟨_,rfl,LeA.eqi ?_⟩,⟨⟨_,rfl,LeA.glg ?_⟩,trivial⟩⟩⟩ ⟨zaa ?_,trivial⟩⟩
 iterate 4 focus (first|rfl|(split<;>first|rfl|(exfalso;simp_all;done)|(exfalso;simp_all;omega))|(split<;>first|(simp[zh6];done)|(simp;done)|(exfalso;simp_all;done)|(exfalso;simp_all;omega))|(simp;omega))
 try simp only[Q,hu] at h1p
 refine rn0 (r1 rfl) (.gld ?_)
 rotate_left
 all_goals (have e:x.1=s.length+1:=(by omega);rw[if_pos e] at hg1;rw[hg1.2.2])
def zqp (names:List Str) (s:Str):Int:=if s=[73] then -1 else if s∈names then idxF (fun n=>decide (n=s)) names 0 else -2
theorem zmN {names:List Str}{s:Str} (hn:names.length≤1000000000000):FnD Tryz.prog 298 [.d (zeK names),.d (.str s)] [] (.d (.i (zqp names s))) []:=by
 refine bd Tryz.f298 21 [] [] fun w0 F0 own kept hk=>?_
 refine sq (fun h1 h1p h1s=>?_) fun h1 h1p h1s=>?_
 try simp only[Q] at h1p
 refine rn0 (r1 rfl) (.eqd ?_)
 rotate_left
 try simp only[Q] at h1p
 refine CWp.loopX (ι:=List (Str)×List (Str)) hk (fun x=>[(5,.d (.i (x.1.length:Int)))]) [4,8,9,10,11,12,13,14,15,16,17,18,19,20] (fun x=>[]) (fun x=>x.1++x.2=names∧s∉x.1∧idxF (fun n=>decide (n=s)) x.2 x.1.length=idxF (fun n=>decide (n=s)) names 0) (fun x=>x.2.length) ([],names) ⟨by simp,by simp,rfl⟩ ⟨⟨_,rfl,LeA.eqi ?_⟩,trivial⟩ trivial (fun x=>rfl) (fun x hg1=>?_)
 focus (first|rfl|(simp;done)|(simp_all;done)|omega)
 obtain⟨pre,rest⟩:=x
 dsimp only at hg1 ⊢
 refine evc [] [] ?_
 refine sq (fun h2 h2p h2s=>?_) fun h2 h2p h2s=>?_
 try simp only[Q] at h2p
 rcases rest with _|⟨y,rest⟩
 ·exfalso;simp_all
 refine Walk.idx zbU .none rfl rfl rfl rfl (zaD hg1.1) rfl ?_
 refine ev ?_
 refine sq (fun h3 h3p h3s=>?_) fun h3 h3p h3s=>?_
 try simp only[Q] at h3p
 refine rn0 (r1 rfl) (.eqd ?_)
 rotate_left
 try simp only[Q] at h3p
 refine ar ?_
 refine Exists.intro ((pre++[y],rest)) ⟨⟨(by have hz:=hg1.1;rw[←hz];simp),⟨(by have h1:=hg1.2.1;simp_all[eq_comm]),(by rw[←hg1.2.2];simp_all[idxF])⟩⟩,(by simp),sx ⟨⟨_,rfl,LeA.eqi ?_⟩,trivial⟩ trivial⟩
 focus (first|rfl|(simp;done)|(simp_all;done)|omega)
 try simp only[Q] at h2p
 have hrest:rest=[]:=by
  rcases rest with _|⟨a,b⟩
  ·rfl
  ·exfalso;have hz:=congrArg List.length (hg1.1);simp only[List.length_append,List.length_cons,List.length_map] at hz;omega
 subst hrest
 refine rn0 (r1 rfl) (.eqd ?_)
 rotate_left
 all_goals (refine congrArg D.i ?_;unfold zqp;by_cases hz:s=[73]<;>by_cases hm:s∈names<;>simp only[hz,hm,if_true,if_false];all_goals first|rfl|omega|(exfalso;simp_all;done)|(exfalso;apply hm;subst h3p;rw[←hg1.1];simp;done)|(exfalso;apply hg1.2.1;rw[←hg1.1,List.append_nil] at hm;exact hm)|(rw[←hg1.2.2];simp_all[idxF];done)|(exfalso;rw[←hg1.1] at hm;simp_all;done))
def zeO (names:List Str) (s:Str):Ty:=
 if s=[] then ⟨-2,0⟩
 else ⟨zqp names (s.take 1),if s.drop 1=[42] then -1 else if s.length=2∧48≤(nth s 1).toNat∧(nth s 1).toNat≤57 then ((nth s 1).toNat:Int)-48 else 0⟩
theorem zqn {b:UInt8} (h1:48≤b.toNat) (h2:b.toNat≤57):IntKind.i64.wrap (IntKind.u8.wrap ((b.toNat:Int)-48))=(b.toNat:Int)-48:=by
 rw[ztH,zed (by omega)];omega
theorem zff {names:List Str}{s:Str} (hn:names.length≤1000000000000) (hs:s.length≤1000000000000):
  FnD Tryz.prog 269 [.d (zeK names),.d (.str s)] [] (.agg [.d (.i (zeO names s).data),.d (.i (zeO names s).index)]) []:=by
 have hlen:s≠[]→1≤s.length:=fun h=>by rcases s with _|⟨a,r⟩;exact absurd rfl h;simp
 refine bd Tryz.f269 39 [35] [] fun w0 F0 own kept hk=>?_
 refine Walk.alloc (id:=3004) tz33 rfl .none rfl rfl rfl rfl ?_
 refine tv ?_
 refine sq (fun h1 h1p h1s=>?_) fun h1 h1p h1s=>?_
 try simp only[Q] at h1p
 refine Walk.build st33 (ks:=[0]) (xs:=[_]) rfl rfl .none rfl rfl rfl ?_
 refine Walk.store ty33 .none rfl rfl rfl rfl rfl rfl (by simp) rfl ?_
 refine tv ?_
 refine rn0 (.cons (.cellA ty33 rfl rfl rfl) .nil) (.agg (.cons (.eqd ?_) (.cons (.eqd ?_) .nil)))
 rotate_left 2
 try simp only[Q] at h1p
 refine Walk.cutS_h (b:=1) un9 .none rfl rfl rfl rfl (by have:=hlen (by simp_all);omega) ?_
 refine wc zuD (zmN (names:=names) (s:=s.take 1) hn) rfl rfl ?_
 refine Walk.build st33 (ks:=[0]) (xs:=[_]) rfl rfl .none rfl rfl rfl ?_
 refine Walk.alloc (id:=3005) tz33 rfl .none rfl rfl rfl rfl ?_
 refine Walk.store ty33 .none rfl rfl rfl rfl rfl rfl (by simp) rfl ?_
 refine tv ?_
 refine Walk.cutS_l (b:=1) un9 .none rfl rfl rfl rfl (by have:=hlen (by simp_all);omega) ?_
 refine evs [35] [] ?_
 refine sq (fun h2 h2p h2s=>?_) fun h2 h2p h2s=>?_
 try simp only[Q] at h2p
 refine Walk.store ty3 .none rfl rfl rfl rfl rfl rfl (by simp) rfl ?_
 refine tv ?_
 refine Walk.store ty33 .none rfl rfl rfl rfl rfl rfl (by simp) rfl ?_
 refine tv ?_
 refine rn0 (.cons (.cellA ty33 rfl rfl rfl) .nil) (.agg (.cons (.eqd ?_) (.cons (.eqd ?_) .nil)))
 rotate_left 2
 try simp only[Q] at h2p
 refine sq (fun h3 h3p h3s=>?_) fun h3 h3p h3s=>?_
 try simp only[Q] at h3p
 refine Walk.idxS (i:=1) un9 (.some rfl rfl h3) rfl rfl rfl rfl (zg0 (by simp_all;omega)) ?_
 refine evs [35] [(23,true)] ?_ ⟨⟨_,rfl,h3⟩,trivial⟩
 refine sq (fun h4 h4p h4s=>?_) fun h4 h4p h4s=>?_
 try simp only[Q] at h4p
 refine Walk.idxS (i:=1) un9 (.some rfl rfl h4) rfl rfl rfl rfl (zg0 (by simp_all;omega)) ?_
 refine evs [35] [(28,true)] ?_ ⟨⟨_,rfl,h4⟩,trivial⟩
 refine sq (fun h5 h5p h5s=>?_) fun h5 h5p h5s=>?_
 try simp only[Q] at h5p
 refine Walk.idxS (i:=1) un9 .none rfl rfl rfl rfl (zg0 (by simp_all;omega)) ?_
 refine Walk.subW .none rfl rfl rfl ?_
 refine Walk.conv (by rw[un5];rfl) un3 .none rfl rfl ?_
 refine evs [35] [] ?_
 refine Walk.store ty3 .none rfl rfl rfl rfl rfl rfl (by simp) rfl ?_
 refine tv ?_
 refine Walk.store ty33 .none rfl rfl rfl rfl rfl rfl (by simp) rfl ?_
 refine tv ?_
 refine rn0 (.cons (.cellA ty33 rfl rfl rfl) .nil) (.agg (.cons (.eqd ?_) (.cons (.eqd ?_) .nil)))
 rotate_left 2
 try simp only[Q] at h5p
 refine Walk.store ty33 .none rfl rfl rfl rfl rfl rfl (by simp) rfl ?_
 refine tv ?_
 refine rn0 (.cons (.cellA ty33 rfl rfl rfl) .nil) (.agg (.cons (.eqd ?_) (.cons (.eqd ?_) .nil)))
 rotate_left 2
 try simp only[Q] at h4p
 refine sqF ?_
 refine Walk.store ty33 .none rfl rfl rfl rfl rfl rfl (by simp) rfl ?_
 refine tv ?_
 refine rn0 (.cons (.cellA ty33 rfl rfl rfl) .nil) (.agg (.cons (.eqd ?_) (.cons (.eqd ?_) .nil)))
 rotate_left 2
 try simp only[Q] at h3p
 refine sqF ?_
 refine sqF ?_
 refine Walk.store ty33 .none rfl rfl rfl rfl rfl rfl (by simp) rfl ?_
 refine tv ?_
 refine rn0 (.cons (.cellA ty33 rfl rfl rfl) .nil) (.agg (.cons (.eqd ?_) (.cons (.eqd ?_) .nil)))
 rotate_left 2
 all_goals (unfold zeO;first|rfl|(rw[zqn (b:=nth s 1) (by omega) (by omega),if_neg h1p];dsimp only;rw[if_neg h2p,if_pos ⟨by omega,by omega,by omega⟩];done)|(rw[if_pos h1p];done)|(rw[if_neg h1p];done)|(rw[if_neg h1p];dsimp only;rw[if_pos h2p];done)|(rw[if_neg h1p];dsimp only;rw[if_neg h2p,if_neg (fun hh=>by omega)];done)|(simp_all;done))
def zot (s:Str):Prop:=2<s.length∧nth s (s.length-2)=58
instance (s:Str):Decidable (zot s):=inferInstanceAs (Decidable (_∧_))
def zgG (names:List Str) (ix:Int) (s:Str):Ctor:=
 let parts:=cutL 40 [] s
 ⟨nth parts 0,if parts.length<2∨(nth parts 1).length=0 then [] else ((cutL 44 [] ((nth parts 1).take ((nth parts 1).length-1))).take 4).map (zeO names),ix⟩
def zcH (names:List Str) (s:Str):Ctor:=
 if zot s then zgG names (((nth s (s.length-1)).toNat:Int)-48) (s.take (s.length-2)) else zgG names 0 s
theorem zdb {α β:Type} [Inhabited α]{f:α→β}{l:List α}{i:Nat} (h:i<l.length):(l.map f).take (i+1)=(l.map f).take i++[f (nth l i)]:=by
 rw[List.take_add_one,List.getElem?_map,List.getElem?_eq_getElem h]
 simp[nth,List.getD,h]
theorem znw {α:Type}{l:List α}{i:Nat} (h:i=4∨(i≤4∧l.length≤i)):l.take i=l.take 4:=by
 rcases h with rfl|⟨h1,h2⟩
 ·rfl
 ·rw[List.take_of_length_le h2,List.take_of_length_le (by omega)]
theorem zhr {a b:UInt8}:((a.toNat:Int)=(b.toNat:Int))↔a=b:=by rw[Int.natCast_inj];exact UInt8.toNat_inj
theorem zsb (a:UInt8):IntKind.i64.wrap (a.toNat:Int)=(a.toNat:Int):=by have:=a.toNat_lt;exact zed (by omega)
theorem zd2 {c:UInt8}{s:Str}{i:Nat} (h:i<(cutL c [] s).length):(nth (cutL c [] s) i).length≤s.length:=by
 have:=zh4 c s [] _ (zaf h);simpa using this
theorem ziM {names:List Str}{s:Str} (hn:names.length≤1000000000000) (hs:s.length≤1000000):
  FnD Tryz.prog 209 [.d (zeK names),.d (.str s)] [] (.agg [.d (.str (zcH names s).name),.d (zcu (zcH names s).args),.d (.i (zcH names s).index)]) []:=by
 have hwb:=zsb (nth s (s.length-1))
 have hwl:=(nth s (s.length-1)).toNat_lt
 by_cases hc:zot s
 ·have hc1:=hc.1
  have hct:(s.take (s.length-2)).length=s.length-2:=by rw[List.length_take];omega
  have hcl:=zd1 40 (s.take (s.length-2)) []
  have hcp:=zh5 40 (s.take (s.length-2)) []
  have hn1:=fun h=>zd2 (c:=40) (s:=s.take (s.length-2)) (i:=1) h
  have hal:=zd1 44 ((nth (cutL 40 [] (s.take (s.length-2))) 1).take ((nth (cutL 40 [] (s.take (s.length-2))) 1).length-1)) []
  refine bd Tryz.f209 83 [] [2,7] fun w0 F0 own kept hk=>?_
  refine Walk.alloc (id:=3004) zgs rfl .none rfl rfl rfl rfl ?_
  refine tv ?_
  refine Walk.build zs2 (ks:=[]) (xs:=[]) rfl rfl .none rfl rfl rfl ?_
  refine Walk.alloc (id:=3005) zgs rfl .none rfl rfl rfl rfl ?_
  refine Walk.store zc9 .none rfl rfl rfl rfl rfl rfl (by simp) rfl ?_
  refine tv ?_
  refine CWp.regionJ ?_
  refine WRest.join 11 [(20,.d (.bool (true)))] [10,11,12,13,14,15,16,17,18,19] ?_ ?_
  refine ev ?_
  refine sq (fun h1 h1p h1s=>?_) fun h1 h1p h1s=>?_
  try simp only[Q,List.length_take] at h1p
  refine ar ?_
  refine Walk.idxS (i:=s.length-2) un9 (.some rfl rfl h1) rfl rfl rfl (by omega) (zg0 (by omega)) ?_
  refine evs [] [(13,true)] ?_ ⟨⟨_,rfl,h1⟩,trivial⟩
  exact jn rfl (LeA.eqb (by first|rfl|(exfalso;omega)|(exact decide_eq_true (congrArg (fun z:UInt8=>(z.toNat:Int)) hc.2))|(exact decide_eq_false (fun hh=>hc ⟨by omega,(zhr (b:=58)).1 hh⟩))|(refine(decide_eq_true ?_).symm;omega)|(refine decide_eq_decide.2 ?_;omega)))
  try simp only[Q,List.length_take] at h1p
  exact jn rfl (LeA.eqb (by first|rfl|(exfalso;omega)|(exact decide_eq_true (congrArg (fun z:UInt8=>(z.toNat:Int)) hc.2))|(exact decide_eq_false (fun hh=>hc ⟨by omega,(zhr (b:=58)).1 hh⟩))|(refine(decide_eq_true ?_).symm;omega)|(refine decide_eq_decide.2 ?_;omega)))
  refine WRest.done ?_
  refine tv ?_
  refine sq (fun h2 h2p h2s=>?_) fun h2 h2p h2s=>?_
  try simp only[Q,List.length_take] at h2p
  refine ar ?_
  refine Walk.idxS (i:=s.length-1) un9 .none rfl rfl rfl (by omega) (zg0 (by omega)) ?_
  refine Walk.conv (by rw[un5];rfl) un3 .none rfl rfl ?_
  refine ev ?_
  refine ar ?_
  refine Walk.store ty3 .none rfl rfl rfl rfl rfl rfl (by simp) rfl ?_
  refine tv ?_
  refine ar ?_
  refine Walk.cutS_h (b:=s.length-2) un9 .none rfl rfl rfl (by omega) (by omega) ?_
  refine ev ?_
  refine wc zfI (zcA (s:=s.take (s.length-2)) (c:=40) (by first|omega|(simp;omega))) rfl rfl ?_
  refine ev ?_
  refine Walk.idx (i:=0) zbU .none rfl rfl rfl rfl (zaq (by omega)) rfl ?_
  refine ev ?_
  refine Walk.store ty9 .none rfl rfl rfl rfl rfl rfl (by simp) rfl ?_
  refine tv ?_
  refine CWp.regionJ ?_
  refine WRest.join 10 [(49,.d (.bool (decide ((cutL 40 [] (s.take (s.length-2))).length<2∨(nth (cutL 40 [] (s.take (s.length-2))) 1).length=0))))] [40,41,42,43,44,45,46,47,48] ?_ ?_
  refine ev ?_
  refine sq (fun h3 h3p h3s=>?_) fun h3 h3p h3s=>?_
  try simp only[Q,List.length_take] at h3p
  exact jn rfl (LeA.eqb (by first|rfl|(exfalso;omega)|(exact decide_eq_true (congrArg (fun z:UInt8=>(z.toNat:Int)) hc.2))|(exact decide_eq_false (fun hh=>hc ⟨by omega,(zhr (b:=58)).1 hh⟩))|(refine(decide_eq_true ?_).symm;omega)|(refine decide_eq_decide.2 ?_;omega)))
  try simp only[Q,List.length_take] at h3p
  refine Walk.idx (i:=1) zbU (.some rfl rfl h3) rfl rfl rfl rfl (zaq (by omega)) rfl ?_
  refine evs [] [(43,false)] ?_ ⟨⟨_,rfl,h3⟩,trivial⟩
  exact jn rfl (LeA.eqb (by first|rfl|(exfalso;omega)|(exact decide_eq_true (congrArg (fun z:UInt8=>(z.toNat:Int)) hc.2))|(exact decide_eq_false (fun hh=>hc ⟨by omega,(zhr (b:=58)).1 hh⟩))|(refine(decide_eq_true ?_).symm;omega)|(refine decide_eq_decide.2 ?_;omega)))
  refine WRest.done ?_
  refine tv ?_
  refine sq (fun h4 h4p h4s=>?_) fun h4 h4p h4s=>?_
  try simp only[Q,List.length_take] at h4p
  refine Walk.store zc9 .none rfl rfl rfl rfl rfl rfl (by simp) rfl ?_
  refine tv ?_
  refine rn0 (.cons (.cellA zc9 rfl rfl rfl) .nil) (.agg (.cons (.eqd ?_) (.cons (.nild ?_) (.cons (.eqd ?_) .nil))))
  rotate_left 3
  try simp only[Q,List.length_take] at h4p
  refine Walk.idx (i:=1) zbU .none rfl rfl rfl rfl (zaq (by omega)) rfl ?_
  refine evd [] [] ?_
  refine Walk.idx (i:=1) zbU .none rfl rfl rfl rfl (zaq (by omega)) rfl ?_
  refine evd [] [] ?_
  refine ar ?_
  refine Walk.cutS_h (b:=(nth (cutL 40 [] (s.take (s.length-2))) 1).length-1) un9 .none rfl rfl rfl (by omega) (by omega) ?_
  refine wc zfI (zcA (s:=(nth (cutL 40 [] (s.take (s.length-2))) 1).take ((nth (cutL 40 [] (s.take (s.length-2))) 1).length-1)) (c:=44) (by simp;omega)) rfl rfl ?_
  refine evd [] [] ?_
  refine dr ?_
  refine CWp.tokB 3005 1 1 2 rfl rfl rfl rfl ?_
  refine CWp.loopX (ι:=Nat) hk (fun i=>[(8,.d (.i (i:Int)))]) [61,62,63,64,65,66,67,68,69,70,71,72,73,74,75,76,77,78,79,80,81] (fun i=>[(3005,some (.box [.d (.str (nth (cutL 40 [] (s.take (s.length-2))) 0)),.gl 1 (((((cutL 44 [] ((nth (cutL 40 [] (s.take (s.length-2))) 1).take ((nth (cutL 40 [] (s.take (s.length-2))) 1).length-1))).map (zeO names)).take i)).map Ty.c),.d (.i (((nth s (s.length-1)).toNat:Int)-48))])),(1,some (.tok (((((cutL 44 [] ((nth (cutL 40 [] (s.take (s.length-2))) 1).take ((nth (cutL 40 [] (s.take (s.length-2))) 1).length-1))).map (zeO names)).take i)).map Ty.c).length 2))]) (fun i=>i≤4∧i≤(cutL 44 [] ((nth (cutL 40 [] (s.take (s.length-2))) 1).take ((nth (cutL 40 [] (s.take (s.length-2))) 1).length-1))).length) (fun i=>4-i) 0 ⟨by omega,by omega⟩ ⟨⟨_,rfl,LeA.eqi ?_⟩,trivial⟩ ⟨?_,⟨zaa ?_,trivial⟩⟩ (fun x=>rfl) (fun i hg1=>?_)
  focus (first|rfl|(simp;done)|(simp_all;done)|omega|(simp;omega))
  focus (first|rfl|(simp[getH];done)|(show some (Res.box _)=some (Res.box _);rw[hwb];rfl)|(show some (Res.box _)=some (Res.box _);rw[zdb (by omega)];simp;done))
  focus (first|rfl|(simp;done)|(simp_all;done)|omega|(simp;omega))
  refine evc [] [2,7] ?_
  refine sq (fun h5 h5p h5s=>?_) fun h5 h5p h5s=>?_
  try simp only[Q,List.length_take] at h5p
  refine sq (fun h6 h6p h6s=>?_) fun h6 h6p h6s=>?_
  try simp only[Q,List.length_take] at h6p
  refine Walk.idx zbU .none rfl rfl rfl rfl (zaq (by omega)) rfl ?_
  refine evd [] [] ?_
  refine wc zre (zff (names:=names) (s:=nth (cutL 44 [] ((nth (cutL 40 [] (s.take (s.length-2))) 1).take ((nth (cutL 40 [] (s.take (s.length-2))) 1).length-1))) i) hn (by have:=zd2 (c:=44) (s:=(nth (cutL 40 [] (s.take (s.length-2))) 1).take ((nth (cutL 40 [] (s.take (s.length-2))) 1).length-1)) (i:=i) (by omega);simp at this;omega)) rfl rfl ?_
  refine Walk.sliceLit zaZ tz33 rfl (by decide) (ks:=[0]) (xs:=[_]) rfl rfl (by decide) (by decide) .none rfl rfl rfl rfl ?_
  refine Walk.append zaZ zz33 rfl .none rfl rfl rfl rfl (zaw rfl (by first|rfl|(simp;done)|(simp;omega))) (by simp) (by simp;omega) (by simp;omega) ?_
  refine evd [] [] ?_
  refine Walk.store zs5 .none rfl rfl rfl rfl rfl rfl (by simp) rfl ?_
  refine dr ?_
  refine ar ?_
  refine Exists.intro (i+1) ⟨⟨by omega,by omega⟩,(by omega),sx ⟨⟨_,rfl,LeA.eqi ?_⟩,trivial⟩ ⟨?_,⟨zaa ?_,trivial⟩⟩⟩
  focus (first|rfl|(simp;done)|(simp_all;done)|omega|(simp;omega))
  focus (first|rfl|(simp[getH];done)|(show some (Res.box _)=some (Res.box _);rw[hwb];rfl)|(show some (Res.box _)=some (Res.box _);rw[zdb (by omega)];simp;done))
  focus (first|rfl|(simp;done)|(simp_all;done)|omega|(simp;omega))
  try simp only[Q,List.length_take] at h6p
  refine Walk.store zc9 .none rfl rfl rfl rfl rfl rfl (by simp) rfl ?_
  refine tv ?_
  refine rn0 (.cons (.cellA zc9 rfl rfl rfl) .nil) (.agg (.cons (.eqd ?_) (.cons (.gld ?_) (.cons (.eqd ?_) .nil))))
  rotate_left 3
  try simp only[Q,List.length_take] at h5p
  refine sqF ?_
  refine Walk.store zc9 .none rfl rfl rfl rfl rfl rfl (by simp) rfl ?_
  refine tv ?_
  refine rn0 (.cons (.cellA zc9 rfl rfl rfl) .nil) (.agg (.cons (.eqd ?_) (.cons (.gld ?_) (.cons (.eqd ?_) .nil))))
  rotate_left 3
  try simp only[Q,List.length_take] at h2p
  exact absurd h2 (by simp)
  all_goals (unfold zcH;rw[if_pos hc];first|rfl|(rw[hwb];done)|(rw[hwb];rfl)|(unfold zgG;dsimp only;by_cases hq:(cutL 40 [] (s.take (s.length-2))).length<2∨(nth (cutL 40 [] (s.take (s.length-2))) 1).length=0;all_goals first|(exfalso;exact(of_decide_eq_false h4) hq)|(exfalso;exact hq (of_decide_eq_true h4))|(rw[if_pos hq];done)|(rw[if_pos hq];rfl)|(rw[if_neg hq,←List.map_take,znw (by omega)];done)))
 ·skip
  have hcl:=zd1 40 (s) []
  have hcp:=zh5 40 (s) []
  have hn1:=fun h=>zd2 (c:=40) (s:=s) (i:=1) h
  have hal:=zd1 44 ((nth (cutL 40 [] (s)) 1).take ((nth (cutL 40 [] (s)) 1).length-1)) []
  refine bd Tryz.f209 83 [] [2,7] fun w0 F0 own kept hk=>?_
  refine Walk.alloc (id:=3004) zgs rfl .none rfl rfl rfl rfl ?_
  refine tv ?_
  refine Walk.build zs2 (ks:=[]) (xs:=[]) rfl rfl .none rfl rfl rfl ?_
  refine Walk.alloc (id:=3005) zgs rfl .none rfl rfl rfl rfl ?_
  refine Walk.store zc9 .none rfl rfl rfl rfl rfl rfl (by simp) rfl ?_
  refine tv ?_
  refine CWp.regionJ ?_
  refine WRest.join 11 [(20,.d (.bool (false)))] [10,11,12,13,14,15,16,17,18,19] ?_ ?_
  refine ev ?_
  refine sq (fun h1 h1p h1s=>?_) fun h1 h1p h1s=>?_
  try simp only[Q,List.length_take] at h1p
  refine ar ?_
  refine Walk.idxS (i:=s.length-2) un9 (.some rfl rfl h1) rfl rfl rfl (by omega) (zg0 (by omega)) ?_
  refine evs [] [(13,true)] ?_ ⟨⟨_,rfl,h1⟩,trivial⟩
  exact jn rfl (LeA.eqb (by first|rfl|(exfalso;omega)|(exact decide_eq_true (congrArg (fun z:UInt8=>(z.toNat:Int)) hc.2))|(exact decide_eq_false (fun hh=>hc ⟨by omega,(zhr (b:=58)).1 hh⟩))|(refine(decide_eq_true ?_).symm;omega)|(refine decide_eq_decide.2 ?_;omega)))
  try simp only[Q,List.length_take] at h1p
  exact jn rfl (LeA.eqb (by first|rfl|(exfalso;omega)|(exact decide_eq_true (congrArg (fun z:UInt8=>(z.toNat:Int)) hc.2))|(exact decide_eq_false (fun hh=>hc ⟨by omega,(zhr (b:=58)).1 hh⟩))|(refine(decide_eq_true ?_).symm;omega)|(refine decide_eq_decide.2 ?_;omega)))
  refine WRest.done ?_
  refine tv ?_
  refine sq (fun h2 h2p h2s=>?_) fun h2 h2p h2s=>?_
  try simp only[Q,List.length_take] at h2p
  exact absurd h2 (by simp)
  try simp only[Q,List.length_take] at h2p
  refine wc zfI (zcA (s:=s) (c:=40) (by first|omega|(simp;omega))) rfl rfl ?_
  refine ev ?_
  refine Walk.idx (i:=0) zbU .none rfl rfl rfl rfl (zaq (by omega)) rfl ?_
  refine ev ?_
  refine Walk.store ty9 .none rfl rfl rfl rfl rfl rfl (by simp) rfl ?_
  refine tv ?_
  refine CWp.regionJ ?_
  refine WRest.join 10 [(49,.d (.bool (decide ((cutL 40 [] (s)).length<2∨(nth (cutL 40 [] (s)) 1).length=0))))] [40,41,42,43,44,45,46,47,48] ?_ ?_
  refine ev ?_
  refine sq (fun h3 h3p h3s=>?_) fun h3 h3p h3s=>?_
  try simp only[Q,List.length_take] at h3p
  exact jn rfl (LeA.eqb (by first|rfl|(exfalso;omega)|(exact decide_eq_true (congrArg (fun z:UInt8=>(z.toNat:Int)) hc.2))|(exact decide_eq_false (fun hh=>hc ⟨by omega,(zhr (b:=58)).1 hh⟩))|(refine(decide_eq_true ?_).symm;omega)|(refine decide_eq_decide.2 ?_;omega)))
  try simp only[Q,List.length_take] at h3p
  refine Walk.idx (i:=1) zbU (.some rfl rfl h3) rfl rfl rfl rfl (zaq (by omega)) rfl ?_
  refine evs [] [(43,false)] ?_ ⟨⟨_,rfl,h3⟩,trivial⟩
  exact jn rfl (LeA.eqb (by first|rfl|(exfalso;omega)|(exact decide_eq_true (congrArg (fun z:UInt8=>(z.toNat:Int)) hc.2))|(exact decide_eq_false (fun hh=>hc ⟨by omega,(zhr (b:=58)).1 hh⟩))|(refine(decide_eq_true ?_).symm;omega)|(refine decide_eq_decide.2 ?_;omega)))
  refine WRest.done ?_
  refine tv ?_
  refine sq (fun h4 h4p h4s=>?_) fun h4 h4p h4s=>?_
  try simp only[Q,List.length_take] at h4p
  refine Walk.store zc9 .none rfl rfl rfl rfl rfl rfl (by simp) rfl ?_
  refine tv ?_
  refine rn0 (.cons (.cellA zc9 rfl rfl rfl) .nil) (.agg (.cons (.eqd ?_) (.cons (.nild ?_) (.cons (.eqd ?_) .nil))))
  rotate_left 3
  try simp only[Q,List.length_take] at h4p
  refine Walk.idx (i:=1) zbU .none rfl rfl rfl rfl (zaq (by omega)) rfl ?_
  refine evd [] [] ?_
  refine Walk.idx (i:=1) zbU .none rfl rfl rfl rfl (zaq (by omega)) rfl ?_
  refine evd [] [] ?_
  refine ar ?_
  refine Walk.cutS_h (b:=(nth (cutL 40 [] (s)) 1).length-1) un9 .none rfl rfl rfl (by omega) (by omega) ?_
  refine wc zfI (zcA (s:=(nth (cutL 40 [] (s)) 1).take ((nth (cutL 40 [] (s)) 1).length-1)) (c:=44) (by simp;omega)) rfl rfl ?_
  refine evd [] [] ?_
  refine dr ?_
  refine CWp.tokB 3005 1 1 2 rfl rfl rfl rfl ?_
  refine CWp.loopX (ι:=Nat) hk (fun i=>[(8,.d (.i (i:Int)))]) [61,62,63,64,65,66,67,68,69,70,71,72,73,74,75,76,77,78,79,80,81] (fun i=>[(3005,some (.box [.d (.str (nth (cutL 40 [] (s)) 0)),.gl 1 (((((cutL 44 [] ((nth (cutL 40 [] (s)) 1).take ((nth (cutL 40 [] (s)) 1).length-1))).map (zeO names)).take i)).map Ty.c),.d (.i (0))])),(1,some (.tok (((((cutL 44 [] ((nth (cutL 40 [] (s)) 1).take ((nth (cutL 40 [] (s)) 1).length-1))).map (zeO names)).take i)).map Ty.c).length 2))]) (fun i=>i≤4∧i≤(cutL 44 [] ((nth (cutL 40 [] (s)) 1).take ((nth (cutL 40 [] (s)) 1).length-1))).length) (fun i=>4-i) 0 ⟨by omega,by omega⟩ ⟨⟨_,rfl,LeA.eqi ?_⟩,trivial⟩ ⟨?_,⟨zaa ?_,trivial⟩⟩ (fun x=>rfl) (fun i hg1=>?_)
  focus (first|rfl|(simp;done)|(simp_all;done)|omega|(simp;omega))
  focus (first|rfl|(simp[getH];done)|(show some (Res.box _)=some (Res.box _);rw[hwb];rfl)|(show some (Res.box _)=some (Res.box _);rw[zdb (by omega)];simp;done))
  focus (first|rfl|(simp;done)|(simp_all;done)|omega|(simp;omega))
  refine evc [] [2,7] ?_
  refine sq (fun h5 h5p h5s=>?_) fun h5 h5p h5s=>?_
  try simp only[Q,List.length_take] at h5p
  refine sq (fun h6 h6p h6s=>?_) fun h6 h6p h6s=>?_
  try simp only[Q,List.length_take] at h6p
  refine Walk.idx zbU .none rfl rfl rfl rfl (zaq (by omega)) rfl ?_
  refine evd [] [] ?_
  refine wc zre (zff (names:=names) (s:=nth (cutL 44 [] ((nth (cutL 40 [] (s)) 1).take ((nth (cutL 40 [] (s)) 1).length-1))) i) hn (by have:=zd2 (c:=44) (s:=(nth (cutL 40 [] (s)) 1).take ((nth (cutL 40 [] (s)) 1).length-1)) (i:=i) (by omega);simp at this;omega)) rfl rfl ?_
  refine Walk.sliceLit zaZ tz33 rfl (by decide) (ks:=[0]) (xs:=[_]) rfl rfl (by decide) (by decide) .none rfl rfl rfl rfl ?_
  refine Walk.append zaZ zz33 rfl .none rfl rfl rfl rfl (zaw rfl (by first|rfl|(simp;done)|(simp;omega))) (by simp) (by simp;omega) (by simp;omega) ?_
  refine evd [] [] ?_
  refine Walk.store zs5 .none rfl rfl rfl rfl rfl rfl (by simp) rfl ?_
  refine dr ?_
  refine ar ?_
  refine Exists.intro (i+1) ⟨⟨by omega,by omega⟩,(by omega),sx ⟨⟨_,rfl,LeA.eqi ?_⟩,trivial⟩ ⟨?_,⟨zaa ?_,trivial⟩⟩⟩
  focus (first|rfl|(simp;done)|(simp_all;done)|omega|(simp;omega))
  focus (first|rfl|(simp[getH];done)|(show some (Res.box _)=some (Res.box _);rw[hwb];rfl)|(show some (Res.box _)=some (Res.box _);rw[zdb (by omega)];simp;done))
  focus (first|rfl|(simp;done)|(simp_all;done)|omega|(simp;omega))
  try simp only[Q,List.length_take] at h6p
  refine Walk.store zc9 .none rfl rfl rfl rfl rfl rfl (by simp) rfl ?_
  refine tv ?_
  refine rn0 (.cons (.cellA zc9 rfl rfl rfl) .nil) (.agg (.cons (.eqd ?_) (.cons (.gld ?_) (.cons (.eqd ?_) .nil))))
  rotate_left 3
  try simp only[Q,List.length_take] at h5p
  refine sqF ?_
  refine Walk.store zc9 .none rfl rfl rfl rfl rfl rfl (by simp) rfl ?_
  refine tv ?_
  refine rn0 (.cons (.cellA zc9 rfl rfl rfl) .nil) (.agg (.cons (.eqd ?_) (.cons (.gld ?_) (.cons (.eqd ?_) .nil))))
  rotate_left 3
  all_goals (unfold zcH;rw[if_neg hc];first|rfl|(rw[hwb];done)|(rw[hwb];rfl)|(unfold zgG;dsimp only;by_cases hq:(cutL 40 [] (s)).length<2∨(nth (cutL 40 [] (s)) 1).length=0;all_goals first|(exfalso;exact(of_decide_eq_false h4) hq)|(exfalso;exact hq (of_decide_eq_true h4))|(rw[if_pos hq];done)|(rw[if_pos hq];rfl)|(rw[if_neg hq,←List.map_take,znw (by omega)];done)))
def decV (n:Int):Str:=strN [IntKind.u8.wrap (48+n)]
theorem zkf (n:Int):(decV n).length=1:=rfl
def zi9 (n:Int):Str:=if n=0 then [] else if n = -1 then [42] else decV n
theorem zlk (n:Int):(zi9 n).length≤1:=by unfold zi9;split;simp;split;simp;rw[zkf];omega
def zfS (w:List Data) (t:Ty):Str:=if t.data = -1 then [73] else (nth w t.data.toNat).name++zi9 t.index
def zdn (w:List Data):Bool→List Ty→Str
 |_,[]=>[]
 |b,t::r=>((if b then [40] else [44])++zfS w t)++zdn w false r
def zcv (w:List Data) (c:Ctor):Str:=
 let o:=c.name++zdn w true c.args
 let p:=if 0<c.args.length then o++[41] else o
 if 0<c.index then (p++[58])++decV c.index else p
def zb8 (w:List Data):Bool→List Ctor→Str
 |_,[]=>[]
 |b,c::r=>((if b then [] else [124])++zcv w c)++zb8 w false r
def zhF (w:List Data):Bool→List Data→Str
 |_,[]=>[]
 |b,d::r=>((if b then [] else [59])++(d.name++[61])++zb8 w true d.ctors)++zhF w false r
def zeT (w:List Data):Str:=zhF w true w
structure TB (w:List Data):Prop where
 len:w.length≤4
 dn:∀d∈w,d.name.length≤1∧d.ctors.length≤4
 cn:∀d∈w,∀c∈d.ctors,c.name.length≤5∧c.args.length≤3∧0≤c.index∧c.index≤3
 ar:∀d∈w,∀c∈d.ctors,∀t∈c.args,(t.data = -1∨(0≤t.data∧t.data.toNat<w.length))∧ -1≤t.index∧t.index≤3
theorem zsL {w:List Data} (hv:zaG w=true):TB w:=by
 have hW:=(zcB w).1 hv
 refine⟨hW.len,fun d hd=>?_,fun d hd c hc=>?_,fun d hd c hc t ht=>?_⟩
 ·have h:=hW.data d hd
  have h1:=h.1
  simp only[zaC,Bool.and_eq_true,decide_eq_true_eq] at h1
  omega
 ·have h:=hW.ctor d hd c hc
  simp only[zaI,zb2,zar,Bool.and_eq_true,decide_eq_true_eq] at h
  omega
 ·have h:=hW.ctor d hd c hc
  simp only[zaI,Bool.and_eq_true,Bool.not_eq_true',List.any_eq_false] at h
  have hax:zbm w.length t=true:=by
   have:=h.2.2.2 t ht
   cases h:zbm w.length t with
   |true=>rfl
   |false=>rw[h] at this;exact absurd rfl this
  simp only[zbm,zar,Bool.or_eq_true,Bool.and_eq_true,decide_eq_true_eq,and_true] at hax
  omega
theorem zgq {w:List Data} (hb:TB w){t:Ty} (ht:t.data = -1∨(0≤t.data∧t.data.toNat<w.length)):(zfS w t).length≤2:=by
 unfold zfS
 split
 ·simp
 ·rename_i h
  have h1:=(hb.dn _ (zaf (l:=w) (i:=t.data.toNat) (by omega))).1
  have h2:=zlk t.index
  simp only[List.length_append];omega
theorem zgB {w:List Data} (hb:TB w):∀(l:List Ty) (b:Bool),(∀t∈l,t.data = -1∨(0≤t.data∧t.data.toNat<w.length))→(zdn w b l).length≤3*l.length
 | [],_,_=>by simp[zdn]
 |t::r,b,h=>by
  have h1:=zgq hb (h t (by simp))
  have h2:=zgB hb r false (fun x hx=>h x (by simp[hx]))
  simp only[zdn,List.length_append,List.length_cons]
  have h3:(if b=true then [(40:UInt8)] else [44]).length=1:=by split<;>rfl
  omega
theorem zop {w:List Data} (hb:TB w){c:Ctor} (h1:c.name.length≤5∧c.args.length≤3) (h2:∀t∈c.args,t.data = -1∨(0≤t.data∧t.data.toNat<w.length)):(zcv w c).length≤20:=by
 have h3:=zgB hb c.args true h2
 unfold zcv
 dsimp only
 have h4:=zkf c.index
 split<;>split<;>simp only[List.length_append,List.length_cons,List.length_nil]<;>omega
theorem zj2 {w:List Data}:∀(l:List Ctor) (b:Bool),(∀c∈l,(zcv w c).length≤20)→(zb8 w b l).length≤21*l.length
 | [],_,_=>by simp[zb8]
 |c::r,b,h=>by
  have h1:=h c (by simp)
  have h2:=zj2 r false (fun x hx=>h x (by simp[hx]))
  simp only[zb8,List.length_append,List.length_cons]
  have h3:(if b=true then ([]:Str) else [124]).length≤1:=by split<;>simp
  omega
theorem zfr {n:Int} (h0:0≤n) (h9:n≤9):FnD Tryz.prog 300 [.d (.i n)] [] (.d (.str (decV n))) []:=by
 refine bd Tryz.f300 31 [30] [] fun w0 F0 own kept hk=>?_
 refine sq (fun h1 h1p h1s=>?_) fun h1 h1p h1s=>?_
 try simp only[Q] at h1p
 exfalso;omega
 try simp only[Q] at h1p
 refine sq (fun h2 h2p h2s=>?_) fun h2 h2p h2s=>?_
 try simp only[Q] at h2p
 exfalso;omega
 try simp only[Q] at h2p
 refine CWp.loopX (ι:=Unit) hk (fun x=>[(0,.d (.i n)),(3,.d (.str []))]) [12,13,14,15,16,17,18,19,20,21,22,23] (fun x=>[]) (fun x=>True) (fun x=>0) () trivial ⟨⟨_,rfl,LeA.eqi ?_⟩,⟨⟨_,rfl,LeA.eqs ?_⟩,trivial⟩⟩ trivial (fun x=>rfl) (fun x hg1=>?_)
 iterate 2 focus (first|rfl|(simp;done)|(simp_all;done)|omega)
 refine evc [30] [] ?_
 refine sq (fun h3 h3p h3s=>?_) fun h3 h3p h3s=>?_
 try simp only[Q] at h3p
 exfalso;omega
 try simp only[Q] at h3p
 refine ar ?_
 refine Walk.conv (by rw[un3];rfl) un5 .none rfl rfl ?_
 refine Walk.sliceLit sl41 tz5 rfl (by decide) (ks:=[0]) (xs:=[_]) rfl rfl (by decide) (by decide) .none rfl rfl rfl rfl ?_
 refine Walk.bytesStr sl41 un9 (by kernel_rfl) .none rfl rfl rfl (by first|rfl|exact zno _) ?_
 refine evs [30] [] ?_
 refine Walk.catS .none rfl rfl rfl (by simp[strN]) ?_
 refine evs [30] [] ?_
 refine rn0 (r1 rfl) (.eqd ?_)
 rotate_left
 all_goals (first|rfl|(refine congrArg D.str ?_;unfold decV;rw[List.append_nil];done)|(simp[decV];done))
theorem zlN {n:Int} (h0 : -1≤n) (h9:n≤9):FnD Tryz.prog 315 [.d (.i n)] [] (.d (.str (zi9 n))) []:=by
 refine bd Tryz.f315 10 [] [] fun w0 F0 own kept hk=>?_
 refine sq (fun h1 h1p h1s=>?_) fun h1 h1p h1s=>?_
 try simp only[Q] at h1p
 refine rn0 (r1 rfl) (.eqd ?_)
 rotate_left
 try simp only[Q] at h1p
 refine sq (fun h2 h2p h2s=>?_) fun h2 h2p h2s=>?_
 try simp only[Q] at h2p
 refine rn0 (r1 rfl) (.eqd ?_)
 rotate_left
 try simp only[Q] at h2p
 refine wc zok (zfr (by omega) (by omega)) rfl rfl ?_
 refine ev ?_
 refine rn0 (r1 rfl) (.eqd ?_)
 rotate_left
 all_goals (refine congrArg D.str ?_;unfold zi9;first|(rw[if_pos (by omega)];done)|(rw[if_neg (by omega),if_pos (by omega)];done)|(rw[if_neg (by omega),if_neg (by omega)];done)|(rw[if_pos (by omega)];rfl)|(rw[if_neg (by omega),if_pos (by omega)];rfl))
theorem zhS {w:List Data} (hb:TB w){a k:Int} (ha:a = -1∨(0≤a∧a.toNat<w.length)) (hk : -1≤k∧k≤3):FnD Tryz.prog 299 [.d (zal w),.agg [.d (.i a),.d (.i k)]] [] (.d (.str (zfS w ⟨a,k⟩))) []:=by
 have hl:=zlk k
 have hdn:a≠ -1→(nth w a.toNat).name.length≤1:=fun h=>(hb.dn _ (zaf (l:=w) (i:=a.toNat) (by omega))).1
 refine bd Tryz.f299 18 [17] [] fun w0 F0 own kept hk=>?_
 refine Walk.box (id:=3003) .none rfl rfl rfl rfl rfl rfl rfl ?_
 refine evs [17] [] ?_
 refine sq (fun h1 h1p h1s=>?_) fun h1 h1p h1s=>?_
 try simp only[Q] at h1p
 refine rn0 (r1 rfl) (.eqd ?_)
 rotate_left
 try simp only[Q] at h1p
 refine Walk.idx (i:=a.toNat) sl31 .none rfl rfl rfl (by omega) (zaq (by omega)) rfl ?_
 refine evd [17] [] ?_
 refine wc zuG (zlN (by omega) (by omega)) rfl rfl ?_
 refine Walk.catS .none rfl rfl rfl (by have:=hdn h1p;omega) ?_
 refine evd [17] [] ?_
 refine dr ?_
 refine rn0 (r1 rfl) (.eqd ?_)
 rotate_left
 all_goals (refine congrArg D.str ?_;unfold zfS;first|(rw[if_pos (by assumption)];done)|(rw[if_neg (by assumption)];done)|(rw[if_pos (by assumption)];rfl))
theorem zdk {w:List Data} (hb:TB w){s:Str}{l:List Ty}{k:Int} (hs:s.length≤5) (hl:l.length≤3) (hk:0≤k∧k≤3)
  (hl2:∀t∈l,(t.data = -1∨(0≤t.data∧t.data.toNat<w.length))∧ -1≤t.index∧t.index≤3):
  FnD Tryz.prog 270 [.d (zal w),.agg [.d (.str s),.d (zcu l),.d (.i k)]] [] (.d (.str (zcv w ⟨s,l,k⟩))) []:=by
 have hall:=zgB hb l true (fun t ht=>(hl2 t ht).1)
 have hdl:=zkf k
 refine bd Tryz.f270 47 [19,21,30,36,41,45] [] fun w0 F0 own kept hk=>?_
 refine Walk.box (id:=3003) .none rfl rfl rfl rfl rfl rfl rfl ?_
 refine evs [19,21,30,36,41,45] [] ?_
 refine CWp.loopX (ι:=List (Ty)×List (Ty)×(Str)) hk (fun x=>[(6,.d (.i (x.1.length:Int))),(5,.d (.str x.2.2))]) [9,10,11,12,13,14,15,16,17,18,19,20,21,22,23,24,25,26,27,28,29,30] (fun x=>[]) (fun x=>x.1++x.2.1=l∧x.2.2.length≤5+3*x.1.length∧x.2.2++zdn w (decide (x.1.length=0)) x.2.1=s++zdn w true l) (fun x=>x.2.1.length) ([],l,s) ⟨by simp,by simp;omega,by simp⟩ ⟨⟨_,rfl,LeA.eqi ?_⟩,⟨⟨_,rfl,LeA.eqs ?_⟩,trivial⟩⟩ trivial (fun x=>rfl) (fun x hg1=>?_)
 iterate 2 focus (first|rfl|(simp;done)|omega|(dsimp only;rw[if_pos (by omega),List.append_assoc];done)|(dsimp only;rw[if_neg (by omega),List.append_assoc];done))
 obtain⟨pre,rest,o⟩:=x
 dsimp only at hg1 ⊢
 refine evc [19,21,30,36,41,45] [] ?_
 refine sq (fun h1 h1p h1s=>?_) fun h1 h1p h1s=>?_
 try simp only[Q] at h1p
 rcases rest with _|⟨y,rest⟩
 ·exfalso;simp_all
 have hq:(zfS w ⟨y.data,y.index⟩).length≤2:=zgq hb (hl2 y (by rw[←hg1.1];simp)).1
 refine sq (fun h2 h2p h2s=>?_) fun h2 h2p h2s=>?_
 try simp only[Q] at h2p
 refine Walk.catS .none rfl rfl rfl (by have hz:=congrArg List.length hg1.1;simp only[List.length_append,List.length_cons,List.length_nil] at hz ⊢;omega) ?_
 refine evs [19,21,30,36,41,45] [] ?_
 refine Walk.idx zaZ .none rfl rfl rfl rfl (zaD hg1.1) rfl ?_
 refine evs [19,21,30,36,41,45] [] ?_
 refine wc zrh (zhS hb (a:=y.data) (k:=y.index) (hl2 y (by rw[←hg1.1];simp)).1 (hl2 y (by rw[←hg1.1];simp)).2) rfl rfl ?_
 refine Walk.catS .none rfl rfl rfl (by have hz:=congrArg List.length hg1.1;simp only[List.length_append,List.length_cons,List.length_nil] at hz ⊢;omega) ?_
 refine evs [19,21,30,36,41,45] [] ?_
 refine ar ?_
 refine Exists.intro ((pre++[y],rest,o++((if pre.length=0 then [40] else [44])++zfS w y))) ⟨⟨(by have hz:=hg1.1;rw[←hz];simp),⟨(by have hq:=zgq hb (hl2 y (by rw[←hg1.1];simp)).1;have h3:(if pre.length=0 then [(40:UInt8)] else [44]).length=1:=(by split<;>rfl);simp only[List.length_append,List.length_cons,List.length_nil];omega),(by rw[←hg1.2.2];simp[zdn])⟩⟩,(by simp),sx ⟨⟨_,rfl,LeA.eqi ?_⟩,⟨⟨_,rfl,LeA.eqs ?_⟩,trivial⟩⟩ trivial⟩
 iterate 2 focus (first|rfl|(simp;done)|omega|(dsimp only;rw[if_pos (by omega),List.append_assoc];done)|(dsimp only;rw[if_neg (by omega),List.append_assoc];done))
 try simp only[Q] at h2p
 refine Walk.catS .none rfl rfl rfl (by have hz:=congrArg List.length hg1.1;simp only[List.length_append,List.length_cons,List.length_nil] at hz ⊢;omega) ?_
 refine evs [19,21,30,36,41,45] [] ?_
 refine Walk.idx zaZ .none rfl rfl rfl rfl (zaD hg1.1) rfl ?_
 refine evs [19,21,30,36,41,45] [] ?_
 refine wc zrh (zhS hb (a:=y.data) (k:=y.index) (hl2 y (by rw[←hg1.1];simp)).1 (hl2 y (by rw[←hg1.1];simp)).2) rfl rfl ?_
 refine Walk.catS .none rfl rfl rfl (by have hz:=congrArg List.length hg1.1;simp only[List.length_append,List.length_cons,List.length_nil] at hz ⊢;omega) ?_
 refine evs [19,21,30,36,41,45] [] ?_
 refine ar ?_
 refine Exists.intro ((pre++[y],rest,o++((if pre.length=0 then [40] else [44])++zfS w y))) ⟨⟨(by have hz:=hg1.1;rw[←hz];simp),⟨(by have hq:=zgq hb (hl2 y (by rw[←hg1.1];simp)).1;have h3:(if pre.length=0 then [(40:UInt8)] else [44]).length=1:=(by split<;>rfl);simp only[List.length_append,List.length_cons,List.length_nil];omega),(by rw[←hg1.2.2];simp[zdn])⟩⟩,(by simp),sx ⟨⟨_,rfl,LeA.eqi ?_⟩,⟨⟨_,rfl,LeA.eqs ?_⟩,trivial⟩⟩ trivial⟩
 iterate 2 focus (first|rfl|(simp;done)|omega|(dsimp only;rw[if_pos (by omega),List.append_assoc];done)|(dsimp only;rw[if_neg (by omega),List.append_assoc];done))
 try simp only[Q] at h1p
 have hrest:rest=[]:=by
  rcases rest with _|⟨a,b⟩
  ·rfl
  ·exfalso;have hz:=congrArg List.length (hg1.1);simp only[List.length_append,List.length_cons,List.length_map] at hz;omega
 subst hrest
 refine sq (fun h3 h3p h3s=>?_) fun h3 h3p h3s=>?_
 try simp only[Q] at h3p
 refine Walk.catS .none rfl rfl rfl (by have hz:=congrArg List.length hg1.1;simp only[List.length_append,List.length_cons,List.length_nil] at hz ⊢;omega) ?_
 refine evs [19,21,30,36,41,45] [] ?_
 refine sq (fun h4 h4p h4s=>?_) fun h4 h4p h4s=>?_
 try simp only[Q] at h4p
 refine Walk.catS .none rfl rfl rfl (by have hz:=congrArg List.length hg1.1;simp only[List.length_append,List.length_cons,List.length_nil] at hz ⊢;omega) ?_
 refine evs [19,21,30,36,41,45] [] ?_
 refine wc zok (zfr (by omega) (by omega)) rfl rfl ?_
 refine Walk.catS .none rfl rfl rfl (by have hz:=congrArg List.length hg1.1;simp only[List.length_append,List.length_cons,List.length_nil] at hz ⊢;omega) ?_
 refine evs [19,21,30,36,41,45] [] ?_
 refine rn0 (r1 rfl) (.eqd ?_)
 rotate_left
 try simp only[Q] at h4p
 refine rn0 (r1 rfl) (.eqd ?_)
 rotate_left
 try simp only[Q] at h3p
 refine sq (fun h5 h5p h5s=>?_) fun h5 h5p h5s=>?_
 try simp only[Q] at h5p
 refine Walk.catS .none rfl rfl rfl (by have hz:=congrArg List.length hg1.1;simp only[List.length_append,List.length_cons,List.length_nil] at hz ⊢;omega) ?_
 refine evs [19,21,30,36,41,45] [] ?_
 refine wc zok (zfr (by omega) (by omega)) rfl rfl ?_
 refine Walk.catS .none rfl rfl rfl (by have hz:=congrArg List.length hg1.1;simp only[List.length_append,List.length_cons,List.length_nil] at hz ⊢;omega) ?_
 refine evs [19,21,30,36,41,45] [] ?_
 refine rn0 (r1 rfl) (.eqd ?_)
 rotate_left
 try simp only[Q] at h5p
 refine rn0 (r1 rfl) (.eqd ?_)
 rotate_left
 all_goals (refine congrArg D.str ?_;have hfin:=hg1.2.2;simp only[zdn,List.append_nil] at hfin;unfold zcv;dsimp only;rw[←hfin];first|(rw[if_pos (by omega),if_pos (by simp at *;omega)];done)|(rw[if_pos (by omega),if_neg (by simp at *;omega)];done)|(rw[if_neg (by omega),if_pos (by simp at *;omega)];done)|(rw[if_neg (by omega),if_neg (by simp at *;omega)];done))
theorem zmR {w:List Data} (hb:TB w):FnD Tryz.prog 210 [.d (zal w)] [] (.d (.str (zeT w))) []:=by
 have hwl:=hb.len
 have hct:∀d∈w,∀c∈d.ctors,(zcv w c).length≤20:=fun d hd c hc=>zop hb ⟨(hb.cn d hd c hc).1,(hb.cn d hd c hc).2.1⟩ (fun t ht=>(hb.ar d hd c hc t ht).1)
 refine bd Tryz.f210 51 [15,22,23,37,49] [] fun w0 F0 own kept hk=>?_
 refine CWp.loopX (ι:=List (Data)×List (Data)×(Str)) hk (fun x=>[(4,.d (.i (x.1.length:Int))),(3,.d (.str x.2.2))]) [5,6,7,8,9,10,11,12,13,14,15,16,17,18,19,20,21,22,23,24,25,26,27,28,29,30,31,32,33,34,35,36,37,38,39,40,41,42,43,44,45,46,47,48,49] (fun x=>[]) (fun x=>x.1++x.2.1=w∧x.2.2.length≤100*x.1.length∧x.2.2++zhF w (decide (x.1.length=0)) x.2.1=zeT w) (fun x=>x.2.1.length) ([],w,[]) ⟨by simp,by simp,by simp[zeT]⟩ ⟨⟨_,rfl,LeA.eqi ?_⟩,⟨⟨_,rfl,LeA.eqs ?_⟩,trivial⟩⟩ trivial (fun x=>rfl) (fun x hg1=>?_)
 iterate 2 focus (first|rfl|(simp;done)|omega|(rw[hfin];simp;done))
 obtain⟨pre,rest,o⟩:=x
 dsimp only at hg1 ⊢
 refine evc [15,22,23,37,49] [] ?_
 refine sq (fun h1 h1p h1s=>?_) fun h1 h1p h1s=>?_
 try simp only[Q] at h1p
 rcases rest with _|⟨y,rest⟩
 ·exfalso;simp_all
 have hym:y∈w:=(by rw[←hg1.1];simp);have hyd:=hb.dn y hym;have hpl:pre.length<4:=(by omega);have hcl:=zj2 (w:=w) y.ctors true (hct y hym)
 refine sq (fun h2 h2p h2s=>?_) fun h2 h2p h2s=>?_
 try simp only[Q] at h2p
 refine Walk.catS .none rfl rfl rfl (by(try simp only[List.length_append,List.length_cons,List.length_nil]);omega) ?_
 refine evs [15,22,23,37,49] [] ?_
 refine Walk.idx sl31 .none rfl rfl rfl rfl (zaD hg1.1) rfl ?_
 refine evs [15,22,23,37,49] [] ?_
 refine Walk.catS .none rfl rfl rfl (by(try simp only[List.length_append,List.length_cons,List.length_nil]);omega) ?_
 refine Walk.catS .none rfl rfl rfl (by(try simp only[List.length_append,List.length_cons,List.length_nil]);omega) ?_
 refine evs [15,22,23,37,49] [] ?_
 refine CWp.loopX (ι:=List (Ctor)×List (Ctor)×(Str)) hk (fun x=>[(5,.d (.i (x.1.length:Int))),(3,.d (.str x.2.2))]) [24,25,26,27,28,29,30,31,32,33,34,35,36,37,38,39,40,41,42,43,44,45,46,47,48,49] (fun x=>[]) (fun x=>x.1++x.2.1=y.ctors∧x.2.2.length≤100*pre.length+4+21*x.1.length∧x.2.2++zb8 w (decide (x.1.length=0)) x.2.1=(o++((if pre.length=0 then [] else [59])++(y.name++[61])))++zb8 w true y.ctors) (fun x=>x.2.1.length) ([],y.ctors,o++((if pre.length=0 then [] else [59])++(y.name++[61]))) ⟨by simp,(by have h3:(if pre.length=0 then ([]:Str) else [59]).length≤1:=(by split<;>simp);simp only[List.length_append,List.length_cons,List.length_nil];omega),by simp⟩ ⟨⟨_,rfl,LeA.eqi ?_⟩,⟨⟨_,rfl,LeA.eqs ?_⟩,trivial⟩⟩ trivial (fun x=>rfl) (fun x hg2=>?_)
 iterate 2 focus (first|rfl|(simp;done)|omega|(rw[if_neg (by omega)];simp;done)|(rw[if_pos (by omega)];simp;done)|(dsimp only;rw[if_neg (by omega)];simp;done)|(dsimp only;rw[if_pos (by omega)];simp;done))
 obtain⟨pre2,rest2,q⟩:=x
 dsimp only at hg2 ⊢
 refine evc [15,22,23,37,49] [] ?_
 refine Walk.idx sl31 .none rfl rfl rfl rfl (zaD hg1.1) rfl ?_
 refine evs [15,22,23,37,49] [] ?_
 refine sq (fun h3 h3p h3s=>?_) fun h3 h3p h3s=>?_
 try simp only[Q] at h3p
 rcases rest2 with _|⟨c,rest2⟩
 ·exfalso;simp_all
 have hcm:=hct y hym c (by rw[←hg2.1];simp);have hce:(zcv w ⟨c.name,c.args,c.index⟩).length≤20:=hcm;have hp2:=congrArg List.length hg2.1;simp only[List.length_append,List.length_cons] at hp2
 refine sq (fun h4 h4p h4s=>?_) fun h4 h4p h4s=>?_
 try simp only[Q] at h4p
 refine Walk.catS .none rfl rfl rfl (by(try simp only[List.length_append,List.length_cons,List.length_nil]);omega) ?_
 refine evs [15,22,23,37,49] [] ?_
 refine Walk.idx sl31 .none rfl rfl rfl rfl (zaD hg1.1) rfl ?_
 refine evs [15,22,23,37,49] [] ?_
 refine Walk.idx sl95 .none rfl rfl rfl rfl (zaD hg2.1) rfl ?_
 refine evs [15,22,23,37,49] [] ?_
 refine wc zkU (zdk hb (s:=c.name) (l:=c.args) (k:=c.index) (hb.cn y hym c (by rw[←hg2.1];simp)).1 (hb.cn y hym c (by rw[←hg2.1];simp)).2.1 (hb.cn y hym c (by rw[←hg2.1];simp)).2.2 (hb.ar y hym c (by rw[←hg2.1];simp))) rfl rfl ?_
 refine Walk.catS .none rfl rfl rfl (by(try simp only[List.length_append,List.length_cons,List.length_nil]);omega) ?_
 refine evs [15,22,23,37,49] [] ?_
 refine ar ?_
 refine Exists.intro ((pre2++[c],rest2,q++((if pre2.length=0 then [] else [124])++zcv w c))) ⟨⟨(by have hz:=hg2.1;rw[←hz];simp),⟨(by have h3:(if pre2.length=0 then ([]:Str) else [124]).length≤1:=(by split<;>simp);simp only[List.length_append,List.length_cons,List.length_nil];omega),(by rw[←hg2.2.2];simp[zb8])⟩⟩,(by simp),sx ⟨⟨_,rfl,LeA.eqi ?_⟩,⟨⟨_,rfl,LeA.eqs ?_⟩,trivial⟩⟩ trivial⟩
 iterate 2 focus (first|rfl|(simp;done)|omega|(rw[if_neg (by omega)];simp;done)|(rw[if_pos (by omega)];simp;done)|(dsimp only;rw[if_neg (by omega)];simp;done)|(dsimp only;rw[if_pos (by omega)];simp;done))
 try simp only[Q] at h4p
 refine Walk.idx sl31 .none rfl rfl rfl rfl (zaD hg1.1) rfl ?_
 refine evs [15,22,23,37,49] [] ?_
 refine Walk.idx sl95 .none rfl rfl rfl rfl (zaD hg2.1) rfl ?_
 refine evs [15,22,23,37,49] [] ?_
 refine wc zkU (zdk hb (s:=c.name) (l:=c.args) (k:=c.index) (hb.cn y hym c (by rw[←hg2.1];simp)).1 (hb.cn y hym c (by rw[←hg2.1];simp)).2.1 (hb.cn y hym c (by rw[←hg2.1];simp)).2.2 (hb.ar y hym c (by rw[←hg2.1];simp))) rfl rfl ?_
 refine Walk.catS .none rfl rfl rfl (by(try simp only[List.length_append,List.length_cons,List.length_nil]);omega) ?_
 refine evs [15,22,23,37,49] [] ?_
 refine ar ?_
 refine Exists.intro ((pre2++[c],rest2,q++((if pre2.length=0 then [] else [124])++zcv w c))) ⟨⟨(by have hz:=hg2.1;rw[←hz];simp),⟨(by have h3:(if pre2.length=0 then ([]:Str) else [124]).length≤1:=(by split<;>simp);simp only[List.length_append,List.length_cons,List.length_nil];omega),(by rw[←hg2.2.2];simp[zb8])⟩⟩,(by simp),sx ⟨⟨_,rfl,LeA.eqi ?_⟩,⟨⟨_,rfl,LeA.eqs ?_⟩,trivial⟩⟩ trivial⟩
 iterate 2 focus (first|rfl|(simp;done)|omega|(rw[if_neg (by omega)];simp;done)|(rw[if_pos (by omega)];simp;done)|(dsimp only;rw[if_neg (by omega)];simp;done)|(dsimp only;rw[if_pos (by omega)];simp;done))
 try simp only[Q] at h3p
 have hrest2:rest2=[]:=by
  rcases rest2 with _|⟨a,b⟩
  ·rfl
  ·exfalso;have hz:=congrArg List.length (hg2.1);simp only[List.length_append,List.length_cons,List.length_map] at hz;omega
 subst hrest2
 refine ar ?_
 have hfin:=hg2.2.2;simp only[zb8,List.append_nil] at hfin
 refine Exists.intro ((pre++[y],rest,o++((if pre.length=0 then [] else [59])++(y.name++[61])++zb8 w true y.ctors))) ⟨⟨(by have hz:=hg1.1;rw[←hz];simp),⟨(by have h3:(if pre.length=0 then ([]:Str) else [59]).length≤1:=(by split<;>simp);simp only[List.length_append,List.length_cons,List.length_nil];omega),(by rw[←hg1.2.2];simp[zhF])⟩⟩,(by simp),sx ⟨⟨_,rfl,LeA.eqi ?_⟩,⟨⟨_,rfl,LeA.eqs ?_⟩,trivial⟩⟩ trivial⟩
 iterate 2 focus (first|rfl|(simp;done)|omega|(rw[hfin];simp;done))
 try simp only[Q] at h2p
 refine Walk.idx sl31 .none rfl rfl rfl rfl (zaD hg1.1) rfl ?_
 refine evs [15,22,23,37,49] [] ?_
 refine Walk.catS .none rfl rfl rfl (by(try simp only[List.length_append,List.length_cons,List.length_nil]);omega) ?_
 refine Walk.catS .none rfl rfl rfl (by(try simp only[List.length_append,List.length_cons,List.length_nil]);omega) ?_
 refine evs [15,22,23,37,49] [] ?_
 refine CWp.loopX (ι:=List (Ctor)×List (Ctor)×(Str)) hk (fun x=>[(5,.d (.i (x.1.length:Int))),(3,.d (.str x.2.2))]) [24,25,26,27,28,29,30,31,32,33,34,35,36,37,38,39,40,41,42,43,44,45,46,47,48,49] (fun x=>[]) (fun x=>x.1++x.2.1=y.ctors∧x.2.2.length≤100*pre.length+4+21*x.1.length∧x.2.2++zb8 w (decide (x.1.length=0)) x.2.1=(o++((if pre.length=0 then [] else [59])++(y.name++[61])))++zb8 w true y.ctors) (fun x=>x.2.1.length) ([],y.ctors,o++((if pre.length=0 then [] else [59])++(y.name++[61]))) ⟨by simp,(by have h3:(if pre.length=0 then ([]:Str) else [59]).length≤1:=(by split<;>simp);simp only[List.length_append,List.length_cons,List.length_nil];omega),by simp⟩ ⟨⟨_,rfl,LeA.eqi ?_⟩,⟨⟨_,rfl,LeA.eqs ?_⟩,trivial⟩⟩ trivial (fun x=>rfl) (fun x hg2=>?_)
 iterate 2 focus (first|rfl|(simp;done)|omega|(rw[if_neg (by omega)];simp;done)|(rw[if_pos (by omega)];simp;done)|(dsimp only;rw[if_neg (by omega)];simp;done)|(dsimp only;rw[if_pos (by omega)];simp;done))
 obtain⟨pre2,rest2,q⟩:=x
 dsimp only at hg2 ⊢
 refine evc [15,22,23,37,49] [] ?_
 refine Walk.idx sl31 .none rfl rfl rfl rfl (zaD hg1.1) rfl ?_
 refine evs [15,22,23,37,49] [] ?_
 refine sq (fun h5 h5p h5s=>?_) fun h5 h5p h5s=>?_
 try simp only[Q] at h5p
 rcases rest2 with _|⟨c,rest2⟩
 ·exfalso;simp_all
 have hcm:=hct y hym c (by rw[←hg2.1];simp);have hce:(zcv w ⟨c.name,c.args,c.index⟩).length≤20:=hcm;have hp2:=congrArg List.length hg2.1;simp only[List.length_append,List.length_cons] at hp2
 refine sq (fun h6 h6p h6s=>?_) fun h6 h6p h6s=>?_
 try simp only[Q] at h6p
 refine Walk.catS .none rfl rfl rfl (by(try simp only[List.length_append,List.length_cons,List.length_nil]);omega) ?_
 refine evs [15,22,23,37,49] [] ?_
 refine Walk.idx sl31 .none rfl rfl rfl rfl (zaD hg1.1) rfl ?_
 refine evs [15,22,23,37,49] [] ?_
 refine Walk.idx sl95 .none rfl rfl rfl rfl (zaD hg2.1) rfl ?_
 refine evs [15,22,23,37,49] [] ?_
 refine wc zkU (zdk hb (s:=c.name) (l:=c.args) (k:=c.index) (hb.cn y hym c (by rw[←hg2.1];simp)).1 (hb.cn y hym c (by rw[←hg2.1];simp)).2.1 (hb.cn y hym c (by rw[←hg2.1];simp)).2.2 (hb.ar y hym c (by rw[←hg2.1];simp))) rfl rfl ?_
 refine Walk.catS .none rfl rfl rfl (by(try simp only[List.length_append,List.length_cons,List.length_nil]);omega) ?_
 refine evs [15,22,23,37,49] [] ?_
 refine ar ?_
 refine Exists.intro ((pre2++[c],rest2,q++((if pre2.length=0 then [] else [124])++zcv w c))) ⟨⟨(by have hz:=hg2.1;rw[←hz];simp),⟨(by have h3:(if pre2.length=0 then ([]:Str) else [124]).length≤1:=(by split<;>simp);simp only[List.length_append,List.length_cons,List.length_nil];omega),(by rw[←hg2.2.2];simp[zb8])⟩⟩,(by simp),sx ⟨⟨_,rfl,LeA.eqi ?_⟩,⟨⟨_,rfl,LeA.eqs ?_⟩,trivial⟩⟩ trivial⟩
 iterate 2 focus (first|rfl|(simp;done)|omega|(rw[if_neg (by omega)];simp;done)|(rw[if_pos (by omega)];simp;done)|(dsimp only;rw[if_neg (by omega)];simp;done)|(dsimp only;rw[if_pos (by omega)];simp;done))
 try simp only[Q] at h6p
 refine Walk.idx sl31 .none rfl rfl rfl rfl (zaD hg1.1) rfl ?_
 refine evs [15,22,23,37,49] [] ?_
 refine Walk.idx sl95 .none rfl rfl rfl rfl (zaD hg2.1) rfl ?_
 refine evs [15,22,23,37,49] [] ?_
 refine wc zkU (zdk hb (s:=c.name) (l:=c.args) (k:=c.index) (hb.cn y hym c (by rw[←hg2.1];simp)).1 (hb.cn y hym c (by rw[←hg2.1];simp)).2.1 (hb.cn y hym c (by rw[←hg2.1];simp)).2.2 (hb.ar y hym c (by rw[←hg2.1];simp))) rfl rfl ?_
 refine Walk.catS .none rfl rfl rfl (by(try simp only[List.length_append,List.length_cons,List.length_nil]);omega) ?_
 refine evs [15,22,23,37,49] [] ?_
 refine ar ?_
 refine Exists.intro ((pre2++[c],rest2,q++((if pre2.length=0 then [] else [124])++zcv w c))) ⟨⟨(by have hz:=hg2.1;rw[←hz];simp),⟨(by have h3:(if pre2.length=0 then ([]:Str) else [124]).length≤1:=(by split<;>simp);simp only[List.length_append,List.length_cons,List.length_nil];omega),(by rw[←hg2.2.2];simp[zb8])⟩⟩,(by simp),sx ⟨⟨_,rfl,LeA.eqi ?_⟩,⟨⟨_,rfl,LeA.eqs ?_⟩,trivial⟩⟩ trivial⟩
 iterate 2 focus (first|rfl|(simp;done)|omega|(rw[if_neg (by omega)];simp;done)|(rw[if_pos (by omega)];simp;done)|(dsimp only;rw[if_neg (by omega)];simp;done)|(dsimp only;rw[if_pos (by omega)];simp;done))
 try simp only[Q] at h5p
 have hrest2:rest2=[]:=by
  rcases rest2 with _|⟨a,b⟩
  ·rfl
  ·exfalso;have hz:=congrArg List.length (hg2.1);simp only[List.length_append,List.length_cons,List.length_map] at hz;omega
 subst hrest2
 refine ar ?_
 have hfin:=hg2.2.2;simp only[zb8,List.append_nil] at hfin
 refine Exists.intro ((pre++[y],rest,o++((if pre.length=0 then [] else [59])++(y.name++[61])++zb8 w true y.ctors))) ⟨⟨(by have hz:=hg1.1;rw[←hz];simp),⟨(by have h3:(if pre.length=0 then ([]:Str) else [59]).length≤1:=(by split<;>simp);simp only[List.length_append,List.length_cons,List.length_nil];omega),(by rw[←hg1.2.2];simp[zhF])⟩⟩,(by simp),sx ⟨⟨_,rfl,LeA.eqi ?_⟩,⟨⟨_,rfl,LeA.eqs ?_⟩,trivial⟩⟩ trivial⟩
 iterate 2 focus (first|rfl|(simp;done)|omega|(rw[hfin];simp;done))
 try simp only[Q] at h1p
 have hrest:rest=[]:=by
  rcases rest with _|⟨a,b⟩
  ·rfl
  ·exfalso;have hz:=congrArg List.length (hg1.1);simp only[List.length_append,List.length_cons,List.length_map] at hz;omega
 subst hrest
 refine rn0 (r1 rfl) (.eqd ?_)
 rotate_left
 all_goals (refine congrArg D.str ?_;have hfin:=hg1.2.2;simp only[zhF,List.append_nil] at hfin;exact hfin)
def pwL (s:Str):List Str:=cutL 59 [] s
def pwP (s:Str) (i:Nat):List Str:=cutL 61 [] (nth (pwL s) i)
def pwC (s:Str) (i:Nat):List Str:=cutL 124 [] (nth (pwP s i) 1)
def zbC (s:Str):Nat:=if s=[] then 0 else min (pwL s).length 5
def zcM (s:Str) (n:Nat):List Str:=(List.range n).map fun i=>nth (pwP s i) 0
def zfO (s:Str) (i:Nat):Data:=⟨nth (pwP s i) 0,((pwC s i).take 5).map (zcH (zcM s (zbC s)))⟩
def zcs (s:Str) (n:Nat):List Data:=(List.range n).map (zfO s)
def zgS (s:Str):Bool:=(List.range (zbC s)).all (fun i=>decide ((pwP s i).length=2))&&(zaG (zcs s (zbC s))&&decide (zeT (zcs s (zbC s))=s))
def zdz (s:Str):List Data×Bool:=if zgS s then (zcs s (zbC s),true) else ([],false)
theorem zoX (s:Str):zbC s≤(pwL s).length∧zbC s≤5:=by unfold zbC;split<;>omega
theorem zb4 {s:Str}{i:Nat}:i<zbC s↔(i<(pwL s).length∧i≤4)∧s≠[]:=by
 unfold zbC
 split
 ·rename_i h;simp[h]
 ·rename_i h;simp only[h,ne_eq,not_false_eq_true,and_true];omega
theorem zaS (s:Str) (n:Nat):(zcM s n).length=n:=by simp[zcM]
theorem zjh (s:Str) (n:Nat):zcM s (n+1)=zcM s n++[nth (pwP s n) 0]:=by unfold zcM;rw[List.range_succ,List.map_append];rfl
theorem zel (s:Str) (n:Nat):zcs s (n+1)=zcs s n++[zfO s n]:=by unfold zcs;rw[List.range_succ,List.map_append];rfl
theorem ztx {s:Str}{n m:Nat} (h:m<n):((zcM s n).map fun n=>[D.str n])[m]?=some [D.str (nth (pwP s m) 0)]:=by
 simp[zcM,h]
theorem zp2 {s:Str}{i:Nat} (h:i<(pwL s).length):(nth (pwL s) i).length≤s.length:=zd2 h
theorem zjM {s:Str}{i j:Nat} (h:i<(pwL s).length) (hj:j<(pwP s i).length):(nth (pwP s i) j).length≤s.length:=Nat.le_trans (zd2 hj) (zp2 h)
theorem ztB {s:Str}{i k:Nat} (h:k<(pwC s i).length):(nth (pwC s i) k).length≤(nth (pwP s i) 1).length:=zd2 h
theorem zho {α:Type}{l:List α}{i:Nat} (h:i=5∨(i≤5∧l.length≤i)):l.take i=l.take 5:=by
 rcases h with rfl|⟨h1,h2⟩
 ·rfl
 ·rw[List.take_of_length_le h2,List.take_of_length_le (by omega)]
theorem zqD {c:UInt8}{s:Str}:(nth (cutL c [] s) 0).length≤s.length:=zd2 (zh5 c s [])
theorem zoS {names:List Str}{s:Str}:(zcH names s).name.length≤s.length∧(zcH names s).args.length≤4:=by
 have key:∀(ix:Int) (t:Str),(zgG names ix t).name.length≤t.length∧(zgG names ix t).args.length≤4:=by
  intro ix t
  refine⟨zqD, ?_⟩
  unfold zgG
  dsimp only
  split
  ·simp
  ·simp only[List.length_map,List.length_take];omega
 unfold zcH
 split
 ·have:=key (((nth s (s.length-1)).toNat:Int)-48) (s.take (s.length-2))
  rw[List.length_take] at this
  omega
 ·exact key 0 s
theorem zrP {s:Str} (hs:s.length≤1000000) (h2:∀j,j<zbC s→(pwP s j).length=2):WSmall (zcs s (zbC s)):=by
 have hl:=zoX s
 have hd:∀d∈zcs s (zbC s),∃i,i<zbC s∧d=zfO s i:=fun d hd=>by
  obtain⟨i,hi,rfl⟩:=List.mem_map.1 hd
  exact⟨i,List.mem_range.1 hi,rfl⟩
 refine⟨by simp only[zcs,List.length_map,List.length_range];omega,fun d hd'=>?_,fun d hd' c hc=>?_⟩
 ·obtain⟨i,hi,rfl⟩:=hd d hd'
  have:=zjM (s:=s) (i:=i) (j:=0) (by omega) (by rw[h2 i hi];omega)
  refine⟨?_, ?_⟩
  ·show(nth (pwP s i) 0).length≤_;omega
  ·simp only[zfO,List.length_map,List.length_take];omega
 ·obtain⟨i,hi,rfl⟩:=hd d hd'
  obtain⟨t,ht,rfl⟩:=List.mem_map.1 hc
  have h3:=zjM (s:=s) (i:=i) (j:=1) (by omega) (by rw[h2 i hi];omega)
  have h4:t.length≤(nth (pwP s i) 1).length:=by simpa using zh4 124 (nth (pwP s i) 1) [] t (List.mem_of_mem_take ht)
  have h5:=zoS (names:=zcM s (zbC s)) (s:=t)
  omega
theorem zvd {s:Str} (hs:s.length≤1000000):FnD Tryz.prog 208 [.d (.str s),.d (.int .u8 59)] [] (.d (zeK (pwL s))) []:=zcA (s:=s) (c:=59) (by omega)
theorem zsS {s:Str}{i:Nat} (hs:s.length≤1000000) (h:i<(pwL s).length):FnD Tryz.prog 208 [.d (.str (nth (pwL s) i)),.d (.int .u8 61)] [] (.d (zeK (pwP s i))) []:=zcA (s:=nth (pwL s) i) (c:=61) (by have:=zp2 h;omega)
theorem zvc {s:Str}{i:Nat} (hs:s.length≤1000000) (h:i<(pwL s).length) (h2:(pwP s i).length=2):FnD Tryz.prog 208 [.d (.str (nth (pwP s i) 1)),.d (.int .u8 124)] [] (.d (zeK (pwC s i))) []:=
 zcA (s:=nth (pwP s i) 1) (c:=124) (by have:=zjM (j:=1) h (by omega);omega)
theorem zjX {w:List Data} (hs:WSmall w):FnD Tryz.prog 150 [.d (zal w)] [] (.d (.bool (zaG w))) []:=by
 rw[←zf4];exact zfQ hs
theorem zpU {s:Str} (h:zgS s=false):zdz s=([],false):=by unfold zdz;rw[if_neg (by rw[h];simp)]
theorem zsn {s:Str} (h:zgS s=true):zdz s=(zcs s (zbC s),true):=by unfold zdz;rw[if_pos h]
theorem zsm {s:Str}{i:Nat} (h:i<zbC s) (h2:¬(pwP s i).length=2):zgS s=false:=by
 unfold zgS
 rw[zbA h (by simpa using h2),Bool.false_and]
theorem znd {s:Str} (h:∀j,j<zbC s→(pwP s j).length=2):zgS s=(zaG (zcs s (zbC s))&&decide (zeT (zcs s (zbC s))=s)):=by
 unfold zgS
 rw[zdw (fun i hi=>by simpa using h i hi),Bool.true_and]
theorem zju {s:Str} (hs:s.length≤100000):FnD Tryz.prog 141 [.d (.str s)] [] (.tup [.d (zal (zdz s).1),.d (.bool (zdz s).2)]) []:=by
 have hl:=zoX s
 have hcl:(pwL s).length≤s.length+1:=zd1 59 s []
 have hccl:∀i,(pwC s i).length≤(nth (pwP s i) 1).length+1:=fun i=>zd1 124 _ []
 have hnl:=zaS s
 refine bd Tryz.f141 101 [] [5,17,21] fun w0 F0 own kept hk=>?_
 refine Walk.sliceEmptyG 1 sl31 .none rfl rfl ?_
 refine ev ?_
 refine Walk.sliceEmptyG 2 zbU .none rfl rfl ?_
 refine ev ?_
 refine wc zfI (zvd (s:=s) (by omega)) rfl rfl ?_
 refine ev ?_
 refine CWp.loopX (ι:=Nat) hk (fun i=>[(7,.d (.i (i:Int))),(5,.gl 2 ((zcM s i).map fun n=>[D.str n]))]) [2,3,8,17,18,19,20,21,22,23,24,25,26,27,28,29,30,31,32,33,34,35,36,37,38,39,40,41,42,43,44,45] (fun i=>[(2,some (.tok (((zcM s i).map fun n=>[D.str n])).length 1))]) (fun i=>i≤zbC s∧∀j,j<i→(pwP s j).length=2) (fun i=>zbC s-i) 0 ⟨by omega,fun j h=>absurd h (by omega)⟩ ⟨⟨_,rfl,LeA.eqi ?_⟩,⟨⟨_,rfl,LeA.glg ?_⟩,trivial⟩⟩ ⟨zaa ?_,trivial⟩ (fun x=>rfl) (fun i hg1=>?_)
 iterate 3 focus (first|rfl|(rw[zjh];simp;done)|(simp;done)|omega|(simp;omega))
 refine evc [] [5,17,21] ?_
 refine CWp.regionJ ?_
 refine WRest.join 12 [(28,.d (.bool (decide (i<zbC s))))] [17,18,19,20,21,22,23,24,25,26,27] ?_ ?_
 refine ev ?_
 refine sq (fun h1 h1p h1s=>?_) fun h1 h1p h1s=>?_
 try simp only[Q,zaS] at h1p
 refine sq (fun h2 h2p h2s=>?_) fun h2 h2p h2s=>?_
 try simp only[Q,zaS] at h2p
 focus (exact jn rfl (LeA.eqb (by first|rfl|(rw[Bool.eq_iff_iff];simp_all[zb4];done)|(rw[Bool.eq_iff_iff];simp_all[zb4];omega))))
 try simp only[Q,zaS] at h2p
 focus (exact jn rfl (LeA.eqb (by first|rfl|(rw[Bool.eq_iff_iff];simp_all[zb4];done)|(rw[Bool.eq_iff_iff];simp_all[zb4];omega))))
 try simp only[Q,zaS] at h1p
 refine sqF ?_
 focus (exact jn rfl (LeA.eqb (by first|rfl|(rw[Bool.eq_iff_iff];simp_all[zb4];done)|(rw[Bool.eq_iff_iff];simp_all[zb4];omega))))
 refine WRest.done ?_
 refine tv ?_
 refine sq (fun h3 h3p h3s=>?_) fun h3 h3p h3s=>?_
 try simp only[Q,zaS] at h3p
 refine Walk.idx zbU .none rfl rfl rfl rfl (zaq (by omega)) rfl ?_
 refine ev ?_
 refine wc zfI (zsS (s:=s) (i:=i) (by omega) (by omega)) rfl rfl ?_
 refine ev ?_
 refine sq (fun h4 h4p h4s=>?_) fun h4 h4p h4s=>?_
 try simp only[Q,zaS] at h4p
 refine Walk.sliceEmpty sl31 .none rfl ?_
 refine ev ?_
 refine rn0 (r2 rfl rfl) (.tup (.cons (.eqd ?_) (.cons (.eqd ?_) .nil)))
 rotate_left 2
 try simp only[Q,zaS] at h4p
 refine Walk.idx (i:=0) zbU .none rfl rfl rfl rfl (zaq (by omega)) rfl ?_
 refine ev ?_
 refine Walk.sliceLit zbU tz9 rfl (by decide) (ks:=[0]) (xs:=[_]) rfl rfl (by decide) (by decide) .none rfl rfl rfl rfl ?_
 refine Walk.append zbU zz9 rfl .none rfl rfl rfl rfl (zaw rfl (by first|rfl|(simp;done)|(simp;omega))) (by simp) (by simp[zaS,zcs];omega) (by simp[zaS,zcs];omega) ?_
 refine ev ?_
 refine ar ?_
 refine Exists.intro (i+1) ⟨⟨by omega,za9 hg1.2 (by omega)⟩,(by omega),sx ⟨⟨_,rfl,LeA.eqi ?_⟩,⟨⟨_,rfl,LeA.glg ?_⟩,trivial⟩⟩ ⟨zaa ?_,trivial⟩⟩
 iterate 3 focus (first|rfl|(rw[zjh];simp;done)|(simp;done)|omega|(simp;omega))
 try simp only[Q,zaS] at h3p
 obtain rfl:i=zbC s:=(by omega)
 refine CWp.loopX (ι:=Nat) hk (fun m=>[(9,.d (.i (m:Int))),(4,.gl 1 ((zcs s m).map Data.c))]) [10,11,12,46,47,48,49,50,51,52,53,54,55,56,57,58,59,60,61,62,63,64,65,66,67,68,69,70,71,72,73,74,75,76,77,78,79,80,81,82,83,84,85,86,87,88,89] (fun m=>[(1,some (.tok (((zcs s m).map Data.c)).length 2))]) (fun m=>m≤zbC s) (fun m=>zbC s-m) 0 (by omega) ⟨⟨_,rfl,LeA.eqi ?_⟩,⟨⟨_,rfl,LeA.glg ?_⟩,trivial⟩⟩ ⟨zaa ?_,trivial⟩ (fun x=>rfl) (fun m hg2=>?_)
 iterate 3 focus (first|rfl|(simp;done)|omega|(rw[zel];simp;done)|(rw[zel,List.map_append];simp only[List.map_cons,List.map_nil,zfO,Data.c];rw[←List.map_take,zho (by omega)];done)|(rw[zel,List.map_append];simp only[List.map_cons,List.map_nil,zfO,Data.c];rw[←List.map_take,zho (by omega)];rfl)|(simp;omega))
 refine evc [] [5,17,21] ?_
 refine sq (fun h5 h5p h5s=>?_) fun h5 h5p h5s=>?_
 try simp only[Q,zaS] at h5p
 refine Walk.idx zbU .none rfl rfl rfl rfl (zaq (by first|omega|(rw[hg1.2 m (by omega)];omega))) rfl ?_
 refine ev ?_
 refine wc zfI (zsS (s:=s) (i:=m) (by omega) (by omega)) rfl rfl ?_
 refine Walk.idx (i:=1) zbU .none rfl rfl rfl rfl (zaq (by first|omega|(rw[hg1.2 m (by omega)];omega))) rfl ?_
 refine ev ?_
 refine wc zfI (zvc (s:=s) (i:=m) (by omega) (by omega) (hg1.2 m (by omega))) rfl rfl ?_
 refine ev ?_
 refine Walk.idxG zbU .none rfl rfl rfl rfl (ztx (by omega)) rfl ?_
 refine ev ?_
 refine Walk.build st97 (ks:=[0]) (xs:=[_]) rfl rfl .none rfl rfl rfl ?_
 refine Walk.alloc (id:=3011) tz97 rfl .none rfl rfl rfl rfl ?_
 refine Walk.store ty97 .none rfl rfl rfl rfl rfl rfl (by simp) rfl ?_
 refine tv ?_
 refine CWp.tokB 3011 1 3 3 rfl rfl rfl rfl ?_
 refine CWp.loopX (ι:=Nat) hk (fun k=>[(12,.d (.i (k:Int)))]) [65,66,67,68,69,70,71,72,73,74,75,76,77,78,79,80,81,82,83,84,85] (fun k=>[(3011,some (.box [.d (.str (nth (pwP s m) 0)),.gl 3 ((((pwC s m).map (zcH (zcM s (zbC s)))).take k).map Ctor.c)])),(3,some (.tok ((((pwC s m).map (zcH (zcM s (zbC s)))).take k).map Ctor.c).length 3))]) (fun k=>k≤5∧k≤(pwC s m).length) (fun k=>5-k) 0 ⟨by omega,by omega⟩ ⟨⟨_,rfl,LeA.eqi ?_⟩,trivial⟩ ⟨?_,⟨zaa ?_,trivial⟩⟩ (fun x=>rfl) (fun k hg3=>?_)
 focus (first|rfl|(simp;done)|(simp_all;done)|omega|(simp;omega))
 focus (first|rfl|(simp[getH];done)|(show some (Res.box _)=some (Res.box _);rw[zdb (by omega)];simp;done))
 focus (first|rfl|(simp;done)|(simp_all;done)|omega|(simp;omega))
 refine evc [] [5,17,21] ?_
 refine CWp.regionJ ?_
 refine WRest.join 8 [(72,.d (.bool (decide (k<(pwC s m).length∧k≤4))))] [65,66,67,68,69,70,71] ?_ ?_
 refine ev ?_
 refine sq (fun h6 h6p h6s=>?_) fun h6 h6p h6s=>?_
 try simp only[Q,zaS] at h6p
 focus (exact jn rfl (LeA.eqb (by first|rfl|(rw[Bool.eq_iff_iff];simp_all[zb4];done)|(rw[Bool.eq_iff_iff];simp_all[zb4];omega))))
 try simp only[Q,zaS] at h6p
 focus (exact jn rfl (LeA.eqb (by first|rfl|(rw[Bool.eq_iff_iff];simp_all[zb4];done)|(rw[Bool.eq_iff_iff];simp_all[zb4];omega))))
 refine WRest.done ?_
 refine tv ?_
 refine sq (fun h7 h7p h7s=>?_) fun h7 h7p h7s=>?_
 try simp only[Q,zaS] at h7p
 refine Walk.idx zbU .none rfl rfl rfl rfl (zaq (by omega)) rfl ?_
 refine evd [] [] ?_
 refine Walk.call (cr:=[]) zuj (ziM (names:=zcM s (zbC s)) (s:=nth (pwC s m) k) (by rw[hnl];omega) (by have h1:=zjM (s:=s) (i:=m) (j:=1) (by omega) (by rw[hg1.2 m (by omega)];omega);have h2:=ztB (s:=s) (i:=m) (k:=k) (by omega);omega)) rfl .none rfl rfl (.cons (.gl _ _) (.cons (.refl _) .nil)) trivial rfl rfl rfl ?_
 refine Walk.sliceLit sl95 zgs rfl (by decide) (ks:=[0]) (xs:=[_]) rfl rfl (by decide) (by decide) .none rfl rfl rfl rfl ?_
 refine Walk.append sl95 zvo rfl .none rfl rfl rfl rfl (zaw rfl (by first|rfl|(simp;done)|(simp;omega))) (by simp) (by simp[zaS,zcs];omega) (by simp[zaS,zcs];omega) ?_
 refine evd [] [] ?_
 refine Walk.store ty95 .none rfl rfl rfl rfl rfl rfl (by simp) rfl ?_
 refine dr ?_
 refine ar ?_
 refine Exists.intro (k+1) ⟨⟨by omega,by omega⟩,(by omega),sx ⟨⟨_,rfl,LeA.eqi ?_⟩,trivial⟩ ⟨?_,⟨zaa ?_,trivial⟩⟩⟩
 focus (first|rfl|(simp;done)|(simp_all;done)|omega|(simp;omega))
 focus (first|rfl|(simp[getH];done)|(show some (Res.box _)=some (Res.box _);rw[zdb (by omega)];simp;done))
 focus (first|rfl|(simp;done)|(simp_all;done)|omega|(simp;omega))
 try simp only[Q,zaS] at h7p
 refine Walk.sliceLit sl31 tz97 rfl (by decide) (ks:=[0]) (xs:=[_]) rfl rfl (by decide) (by decide) .none rfl rfl rfl rfl ?_
 refine Walk.append sl31 zz97 rfl .none rfl rfl rfl rfl (zaw rfl (by first|rfl|(simp;done)|(simp;omega))) (by simp) (by simp[zaS,zcs];omega) (by simp[zaS,zcs];omega) ?_
 refine ev ?_
 refine ar ?_
 refine Exists.intro (m+1) ⟨(by omega),(by omega),sx ⟨⟨_,rfl,LeA.eqi ?_⟩,⟨⟨_,rfl,LeA.glg ?_⟩,trivial⟩⟩ ⟨zaa ?_,trivial⟩⟩
 iterate 3 focus (first|rfl|(simp;done)|omega|(rw[zel];simp;done)|(rw[zel,List.map_append];simp only[List.map_cons,List.map_nil,zfO,Data.c];rw[←List.map_take,zho (by omega)];done)|(rw[zel,List.map_append];simp only[List.map_cons,List.map_nil,zfO,Data.c];rw[←List.map_take,zho (by omega)];rfl)|(simp;omega))
 try simp only[Q,zaS] at h5p
 obtain rfl:m=zbC s:=(by omega)
 refine CWp.regionJ ?_
 refine WRest.join 9 [(98,.d (.bool (!(zaG (zcs s (zbC s))&&decide (zeT (zcs s (zbC s))=s)))))] [90,91,92,93,94,95,96,97] ?_ ?_
 refine ev ?_
 refine Walk.call (cr:=[]) zqZ (zjX (zrP (by omega) hg1.2)) rfl .none rfl rfl (.cons (.gl _ _) .nil) trivial rfl rfl rfl ?_
 refine ev ?_
 refine sq (fun h8 h8p h8s=>?_) fun h8 h8p h8s=>?_
 try simp only[Q,zaS] at h8p
 focus (exact jn rfl (LeA.eqb (by first|rfl|(rw[Bool.eq_iff_iff];simp_all[zb4];done)|(rw[Bool.eq_iff_iff];simp_all[zb4];omega))))
 try simp only[Q,zaS] at h8p
 refine Walk.call (cr:=[]) zuk (zmR (zsL (by assumption))) rfl (.some rfl rfl h8) rfl rfl (.cons (.gl _ _) .nil) trivial rfl rfl rfl ?_
 refine evs [] [(93,false)] ?_ ⟨⟨_,rfl,h8⟩,trivial⟩
 focus (exact jn rfl (LeA.eqb (by first|rfl|(rw[Bool.eq_iff_iff];simp_all[zb4];done)|(rw[Bool.eq_iff_iff];simp_all[zb4];omega))))
 refine WRest.done ?_
 refine tv ?_
 refine sq (fun h9 h9p h9s=>?_) fun h9 h9p h9s=>?_
 try simp only[Q,zaS] at h9p
 refine Walk.sliceEmpty sl31 .none rfl ?_
 refine ev ?_
 refine rn0 (r2 rfl rfl) (.tup (.cons (.eqd ?_) (.cons (.eqd ?_) .nil)))
 rotate_left 2
 try simp only[Q,zaS] at h9p
 refine rn0 (r2 rfl rfl) (.tup (.cons (.gld ?_) (.cons (.eqd ?_) .nil)))
 rotate_left 2
 all_goals (first|(have hq:=zsm (s:=s) (i:=i) h3p (fun h=>h4p (by omega));rw[zpU hq];all_goals rfl)|(have hr:=znd hg1.2;rw[h9s] at hr;rw[zpU hr];all_goals rfl)|(have hr:=znd hg1.2;rw[h9s] at hr;rw[zsn hr];all_goals rfl))
def zdN:List Str:=[[76,61,78,105,108,124,67,111,110,115,40,73,44,76,41],
 [66,61,84,114,117,124,70,108,115,59,84,61,76,101,97,102,124,78,111,100,101,40,84,44,66,44,84,41],
 [69,61,78,117,109,40,73,41,58,49,124,66,111,108,40,66,41,58,50,124,65,100,100,40,69,49,44,69,49,41,58,49,124,73,102,40,69,50,44,69,42,44,69,42,41,59,66,61,84,114,117,124,70,108,115],
 [79,61,78,111,110,124,83,111,109,40,73,41,59,80,61,80,97,105,114,40,79,44,79,41],
 [86,61,69,110,100,58,49,124,83,111,109,101,40,73,44,86,49,41,58,50,124,84,119,111,40,86,42,41],
 [78,61,78,101,118,101,114,40,78,41,59,66,61,84,114,117,124,70,108,115,124,77,97,121,40,78,41],
 [83,61,82,101,100,124,71,114,101,101,110,124,66,108,117,101,124,77,105,120,40,83,44,83,41],
 []]
theorem zl5:zdN.length=8:=rfl
theorem zpd:∀t∈zdN,t.length≤100:=by decide
theorem zqP {i:Nat} (h:i<8):(nth zdN i).length≤100:=zpd _ (zaf h)
def zbH (b:Str) (p:Nat):List Data:=(zdz (nth zdN (zan b p 7).toNat)).1
theorem zqG (b:Str) (p:Nat):(zan b p 7).toNat<7:=by have:=zcP (b:=b) (p:=p) (n:=7) (by omega);omega
theorem zlO:FnD Tryz.prog 142 [] [] (.d (zeK zdN)) []:=by
 refine bd Tryz.f142 2 [] [] fun w0 F0 own kept hk=>?_
 refine Walk.sliceLit zbU tz9 rfl (by decide) (ks:=[0,1,2,3,4,5,6,7]) (xs:=[_,_,_,_,_,_,_,_]) rfl rfl (by decide) (by decide) .none rfl rfl rfl rfl ?_
 refine ev ?_
 refine rn0 (r1 rfl) (.eqd ?_)
 rotate_left
 all_goals (rfl)
theorem zlQ {b:Str}{p:Nat} (hb:b.length≤2000) (hp:p≤1000000):
  FnD Tryz.prog 171 [.ref 900 0] [(900,some (rdB b p))] (.d (zal (zbH b p))) [(900,some (rdB b (p+1)))]:=by
 have h7:=zqG b p
 have ht8:=zl5
 have hv:=zcP (b:=b) (p:=p) (n:=7) (by omega)
 have hts:=zqP (i:=(zan b p 7).toNat) (by omega)
 refine bd Tryz.f171 20 [] [] fun w0 F0 own kept hk=>?_
 refine wc zt4 (zlO) rfl rfl ?_
 refine ev ?_
 refine ar ?_
 refine Walk.call (cr:=[]) zcg (zaQ (n:=7) hb (by omega) (by omega)) rfl .none rfl rfl (LeL.refl _) ⟨rfl,trivial⟩ rfl rfl rfl ?_
 refine Walk.idx (i:=(zan b p 7).toNat) zbU .none rfl rfl rfl (by omega) (zaq (by rw[zl5];omega)) rfl ?_
 refine ev ?_
 refine wc zt3 (zju (s:=nth zdN (zan b p 7).toNat) (by omega)) rfl rfl ?_
 refine ev ?_
 refine rn [(900,some (rdB b (p+1)))] (r1 rfl) (.eqd ?_) ⟨rfl,rfl⟩ (SubO.get ⟨.inr ?_,⟨.inl rfl,trivial⟩⟩) (zaB rfl)
 rotate_left 2
 all_goals (first|((rfl);done)|(rfl))
def anyP:Pat:=⟨1,0,0,0,0,[]⟩
def dA (f:Ty→Nat→Pat×Nat):List Ty→Nat→List Pat×Nat
 | [],q=>([],q)
 |t::r,q=>((f t q).1::(dA f r (f t q).2).1,(dA f r (f t q).2).2)
def zaF (b:Str) (w:List Data):Nat→Ty→Nat→Pat×Nat
 |0,_,p=>(anyP,p)
 |d+1,t,p=>
  if d=0 then (anyP,p)
  else if zan b p 4=0 then (anyP,p+1)
  else if zan b (p+1) 6=0 then (⟨5,0,0,0,0,[(zaF b w d t (p+2)).1,(zaF b w d t (zaF b w d t (p+2)).2).1]⟩,(zaF b w d t (zaF b w d t (p+2)).2).2)
  else if t.data = -1 then (⟨3,0,zan b (p+2) 10,zan b (p+2) 10+zan b (p+3) (10-zan b (p+2) 10)*zan b (p+4) 2,0,[]⟩,p+5)
  else if (zam w t).length=0 then (anyP,p+2)
  else (⟨4,nth (zam w t) (zan b (p+2) (zam w t).length).toNat,0,0,0,(dA (zaF b w d) (zab w t (nth (zam w t) (zan b (p+2) (zam w t).length).toNat)) (p+3)).1⟩,
   (dA (zaF b w d) (zab w t (nth (zam w t) (zan b (p+2) (zam w t).length).toNat)) (p+3)).2)
def bdP:Nat→Nat
 |0=>0
 |d+1=>5+3*bdP d
def Few (w:List Data):Prop:=∀t c,c∈zam w t→TyIn w.length t→(zab w t c).length≤3∧∀u∈zab w t c,TyIn w.length u
theorem zsT {f:Ty→Nat→Pat×Nat}{k:Nat}:∀(l:List Ty) (q:Nat),(∀t∈l,∀q,(f t q).2≤q+k)→(dA f l q).2≤q+l.length*k
 | [],q,_=>by simp[dA]
 |t::r,q,h=>by
  have h1:=h t (by simp) q
  have h2:=zsT r (f t q).2 (fun x hx=>h x (by simp[hx]))
  simp only[dA,List.length_cons,Nat.add_mul];omega
theorem zrq {f:Ty→Nat→Pat×Nat}:∀(l:List Ty) (q:Nat),(dA f l q).1.length=l.length
 | [],q=>rfl
 |t::r,q=>by simp only[dA,List.length_cons,zrq r]
theorem zio {l:List Int}{b:Str}{p:Nat} (h:¬l.length=0):nth l (zan b p l.length).toNat∈l:=by
 have:=zcP (b:=b) (p:=p) (n:=(l.length:Int)) (by omega)
 exact zaf (by omega)
theorem zh7 {b:Str}{w:List Data} (hf:Few w):∀(d:Nat) (t:Ty) (p:Nat),TyIn w.length t→(zaF b w d t p).2≤p+bdP d
 |0,t,p,_=>by simp[zaF,bdP]
 |d+1,t,p,ht=>by
  have ih:=fun t p ht=>zh7 (b:=b) hf d t p ht
  unfold zaF bdP
  split
  ·dsimp only;omega
  ·split
   ·dsimp only;omega
   ·split
    ·dsimp only
     have h1:=ih t (p+2) ht
     have h2:=ih t (zaF b w d t (p+2)).2 ht
     omega
    ·split
     ·dsimp only;omega
     ·split
      ·dsimp only;omega
      ·rename_i h5
       dsimp only
       have hm:=zio (b:=b) (p:=p+2) h5
       have h3:=hf t _ hm ht
       have h1:=zsT (f:=zaF b w d) (k:=bdP d) (zab w t (nth (zam w t) (zan b (p+2) (zam w t).length).toNat)) (p+3) (fun u hu q=>ih u q (h3.2 u hu))
       have h4:(zab w t (nth (zam w t) (zan b (p+2) (zam w t).length).toNat)).length*bdP d≤3*bdP d:=Nat.mul_le_mul_right _ h3.1
       omega
theorem zr7 {w:List Data} (hs:WSmall w) (hv:zaG w=true):Few w:=by
 have hw:=ziu hs hv
 have hW:=(zcB w).1 hv
 rintro ⟨a,k⟩ c hc ht
 obtain⟨d,rfl,h1,j,rfl,h3⟩:=zcE ht hc
 refine⟨?_,fun u hu=>zmX hw h1 ⟨j,rfl,h3⟩ hu⟩
 have hco:=hW.ctor _ (zaf h1) _ (zaf h3)
 simp only[zaI,Bool.and_eq_true,decide_eq_true_eq] at hco
 simp only[zab,Int.toNat_natCast,List.length_map]
 omega
theorem Pat.cs_cc (l:List Pat):Pat.cs l=l.map Pat.cc:=by
 rw[Pat.cs_eq];exact List.map_congr_left (fun v _=>Pat.c_eq v)
section
variable {b:Str}{w:List Data}{d p:Nat}{a k:Int}
theorem zmh (h:d=0):zaF b w (d+1) ⟨a,k⟩ p=(anyP,p):=by simp only[zaF];rw[if_pos h]
theorem zmi (h:¬d=0) (h2:zan b p 4=0):zaF b w (d+1) ⟨a,k⟩ p=(anyP,p+1):=by simp only[zaF];rw[if_neg h,if_pos h2]
theorem zmj (h:¬d=0) (h2:¬zan b p 4=0) (h3:zan b (p+1) 6=0):zaF b w (d+1) ⟨a,k⟩ p =
  (⟨5,0,0,0,0,[(zaF b w d ⟨a,k⟩ (p+2)).1,(zaF b w d ⟨a,k⟩ (zaF b w d ⟨a,k⟩ (p+2)).2).1]⟩,(zaF b w d ⟨a,k⟩ (zaF b w d ⟨a,k⟩ (p+2)).2).2):=by
 simp only[zaF];rw[if_neg h,if_neg h2,if_pos h3]
theorem zmk (h:¬d=0) (h2:¬zan b p 4=0) (h3:¬zan b (p+1) 6=0) (h4:a = -1):zaF b w (d+1) ⟨a,k⟩ p =
  (⟨3,0,zan b (p+2) 10,zan b (p+2) 10+zan b (p+3) (10-zan b (p+2) 10)*zan b (p+4) 2,0,[]⟩,p+5):=by
 simp only[zaF];rw[if_neg h,if_neg h2,if_neg h3,if_pos h4]
theorem zml (h:¬d=0) (h2:¬zan b p 4=0) (h3:¬zan b (p+1) 6=0) (h4:¬a = -1) (h5:(zam w ⟨a,k⟩).length=0):zaF b w (d+1) ⟨a,k⟩ p=(anyP,p+2):=by
 simp only[zaF];rw[if_neg h,if_neg h2,if_neg h3,if_neg h4,if_pos h5]
theorem zmm (h:¬d=0) (h2:¬zan b p 4=0) (h3:¬zan b (p+1) 6=0) (h4:¬a = -1) (h5:¬(zam w ⟨a,k⟩).length=0){cc:Int} (hc:nth (zam w ⟨a,k⟩) (zan b (p+2) (zam w ⟨a,k⟩).length).toNat=cc):zaF b w (d+1) ⟨a,k⟩ p =
  (⟨4,cc,0,0,0,(dA (zaF b w d) (zab w ⟨a,k⟩ cc) (p+3)).1⟩,(dA (zaF b w d) (zab w ⟨a,k⟩ cc) (p+3)).2):=by
 simp only[zaF];rw[if_neg h,if_neg h2,if_neg h3,if_neg h4,if_neg h5,hc]
end
theorem zeo {b:Str}{w:List Data} (hb:b.length≤2000) (hw:WT w) (hf:Few w):∀(d:Nat){a k m:Int}{p:Nat},m=d→d≤4→1≤d→p+bdP d≤1000000→TyIn w.length ⟨a,k⟩→
  FnD Tryz.prog 287 [.ref 900 0,.d (zal w),.agg [.d (.i a),.d (.i k)],.d (.i m)] [(900,some (rdB b p))]
   (.agg [.d (.i (zaF b w d ⟨a,k⟩ p).1.op),.d (.i (zaF b w d ⟨a,k⟩ p).1.ctor),.d (.i (zaF b w d ⟨a,k⟩ p).1.n),.d (.i (zaF b w d ⟨a,k⟩ p).1.m),.d (.i (zaF b w d ⟨a,k⟩ p).1.var),.d (zae (zaF b w d ⟨a,k⟩ p).1.kids)]) [(900,some (rdB b (zaF b w d ⟨a,k⟩ p).2))]
 |0,a,k,m,p,_,_,h1,_,_=>by omega
 |d+1,a,k,m,p,hm,hd4,_,hp,ht=>by
  have hcl:=zgu hw ht
  have hbd:bdP (d+1)=5+3*bdP d:=rfl
  have ih:=fun(t:Ty) (q:Nat) (ht:TyIn w.length t)=>zh7 (b:=b) hf d t q ht
  have v10:=zcP (b:=b) (p:=p+2) (n:=10) (by omega)
  have v11:=zcP (b:=b) (p:=p+3) (n:=10-zan b (p+2) 10) (by omega)
  have v12:=zcP (b:=b) (p:=p+4) (n:=2) (by omega)
  have v13:0≤zan b (p+3) (10-zan b (p+2) 10)*zan b (p+4) 2∧zan b (p+3) (10-zan b (p+2) 10)*zan b (p+4) 2≤10:=by
   have h:zan b (p+4) 2=0∨zan b (p+4) 2=1:=by omega
   rcases h with h|h<;>rw[h]<;>omega
  have hvl:((((zam w ⟨a,k⟩).map fun n=>[D.i n]).length:Nat):Int)=(zam w ⟨a,k⟩).length:=by simp
  have v14:=fun h=>zcP (b:=b) (p:=p+2) (n:=((zam w ⟨a,k⟩).length:Int)) h
  have hmem:=fun h=>zio (l:=zam w ⟨a,k⟩) (b:=b) (p:=p+2) h
  generalize hcc:nth (zam w ⟨a,k⟩) (zan b (p+2) (zam w ⟨a,k⟩).length).toNat=cc at *
  have hfw:=fun h=>hf ⟨a,k⟩ cc (hmem h) ht
  have hat:¬(zam w ⟨a,k⟩).length=0→((zam w ⟨a,k⟩).map fun n=>[D.i n])[(zan b (p+2) (zam w ⟨a,k⟩).length).toNat]?=some [D.i cc]:=fun h=>by
   rw[←hcc];exact zaq (by have:=v14 (by omega);omega)
  refine bd Tryz.f287 96 [] [] fun w0 F0 own kept hk=>?_
  refine Walk.box (id:=3006) .none rfl rfl rfl rfl rfl rfl rfl ?_
  refine Walk.alloc (id:=3008) tz56 rfl .none rfl rfl rfl rfl ?_
  refine tv ?_
  refine sq (fun h1 h1p h1s=>?_) fun h1 h1p h1s=>?_
  try simp only[Q] at h1p
  refine sqT ?_
  refine Walk.build st56 (ks:=[0]) (xs:=[_]) rfl rfl .none rfl rfl rfl ?_
  refine Walk.store ty56 .none rfl rfl rfl rfl rfl rfl (by simp) rfl ?_
  refine tv ?_
  refine rn [(900,some (rdB b (zaF b w (d+1) ⟨a,k⟩ p).2))] (.cons (.cellA ty56 rfl rfl rfl) .nil) (.agg (.cons (.eqd ?_) (.cons (.eqd ?_) (.cons (.eqd ?_) (.cons (.eqd ?_) (.cons (.eqd ?_) (.cons (.nild ?_) .nil))))))) ⟨rfl,rfl⟩ (SubO.get ⟨.inr ?_,⟨.inl rfl,trivial⟩⟩) (zaB rfl)
  rotate_left 7
  try simp only[Q] at h1p
  refine Walk.call (cr:=[]) zcg (zaQ (p:=p) (n:=4) hb (by omega) (by omega)) rfl (.some rfl rfl h1) rfl rfl (LeL.refl _) ⟨rfl,trivial⟩ rfl rfl rfl ?_
  refine evs [] [(16,false)] ?_ ⟨⟨_,rfl,h1⟩,trivial⟩
  refine sq (fun h3 h3p h3s=>?_) fun h3 h3p h3s=>?_
  try simp only[Q] at h3p
  refine Walk.build st56 (ks:=[0]) (xs:=[_]) rfl rfl .none rfl rfl rfl ?_
  refine Walk.store ty56 .none rfl rfl rfl rfl rfl rfl (by simp) rfl ?_
  refine tv ?_
  refine rn [(900,some (rdB b (zaF b w (d+1) ⟨a,k⟩ p).2))] (.cons (.cellA ty56 rfl rfl rfl) .nil) (.agg (.cons (.eqd ?_) (.cons (.eqd ?_) (.cons (.eqd ?_) (.cons (.eqd ?_) (.cons (.eqd ?_) (.cons (.nild ?_) .nil))))))) ⟨rfl,rfl⟩ (SubO.get ⟨.inr ?_,⟨.inl rfl,trivial⟩⟩) (zaB rfl)
  rotate_left 7
  try simp only[Q] at h3p
  refine Walk.call (cr:=[]) zcg (zaQ (p:=p+1) (n:=6) hb (by omega) (by omega)) rfl .none rfl rfl (LeL.refl _) ⟨rfl,trivial⟩ rfl rfl rfl ?_
  refine ev ?_
  refine sq (fun h4 h4p h4s=>?_) fun h4 h4p h4s=>?_
  try simp only[Q] at h4p
  refine ar ?_
  refine Walk.call (cr:=[]) zkW (zeo hb hw hf d (p:=p+2) (by omega) (by omega) (by omega) (by omega) ht) rfl .none rfl rfl (LeL.refl _) ⟨rfl,trivial⟩ rfl rfl rfl ?_
  refine evd [] [] ?_
  refine ar ?_
  refine Walk.call (cr:=[]) zkW (zeo hb hw hf d (p:=(zaF b w d ⟨a,k⟩ (p+2)).2) (by omega) (by omega) (by omega) (by have:=ih ⟨a,k⟩ (p+2) ht;omega) ht) rfl .none rfl rfl (LeL.refl _) ⟨rfl,trivial⟩ rfl rfl rfl ?_
  refine Walk.sliceLit sl45 tz56 rfl (by decide) (ks:=[0,1]) (xs:=[_,_]) rfl rfl (by decide) (by decide) .none rfl rfl rfl rfl ?_
  refine Walk.build st56 (ks:=[0,5]) (xs:=[_,_]) rfl rfl .none rfl rfl rfl ?_
  refine Walk.store ty56 .none rfl rfl rfl rfl rfl rfl (by simp) rfl ?_
  refine dr ?_
  refine rn [(900,some (rdB b (zaF b w (d+1) ⟨a,k⟩ p).2))] (.cons (.cellA ty56 rfl rfl rfl) .nil) (.agg (.cons (.eqd ?_) (.cons (.eqd ?_) (.cons (.eqd ?_) (.cons (.eqd ?_) (.cons (.eqd ?_) (.cons (.eqd ?_) .nil))))))) ⟨rfl,rfl⟩ (SubO.get ⟨.inr ?_,⟨.inl rfl,trivial⟩⟩) (zaB rfl)
  rotate_left 7
  try simp only[Q] at h4p
  refine sq (fun h5 h5p h5s=>?_) fun h5 h5p h5s=>?_
  try simp only[Q] at h5p
  refine Walk.call (cr:=[]) zcg (zaQ (p:=p+2) (n:=10) hb (by omega) (by omega)) rfl .none rfl rfl (LeL.refl _) ⟨rfl,trivial⟩ rfl rfl rfl ?_
  refine ev ?_
  refine ar ?_
  refine Walk.call (cr:=[]) zcg (zaQ (p:=p+3) (n:=10-zan b (p+2) 10) hb (by omega) (by omega)) rfl .none rfl rfl (LeL.refl _) ⟨rfl,trivial⟩ rfl rfl rfl ?_
  refine ev ?_
  refine Walk.call (cr:=[]) zcg (zaQ (p:=p+4) (n:=2) hb (by omega) (by omega)) rfl .none rfl rfl (LeL.refl _) ⟨rfl,trivial⟩ rfl rfl rfl ?_
  refine ev ?_
  refine ar ?_
  refine ar ?_
  refine Walk.build st56 (ks:=[0,2,3]) (xs:=[_,_,_]) rfl rfl .none rfl rfl rfl ?_
  refine Walk.store ty56 .none rfl rfl rfl rfl rfl rfl (by simp) rfl ?_
  refine tv ?_
  refine rn [(900,some (rdB b (zaF b w (d+1) ⟨a,k⟩ p).2))] (.cons (.cellA ty56 rfl rfl rfl) .nil) (.agg (.cons (.eqd ?_) (.cons (.eqd ?_) (.cons (.eqd ?_) (.cons (.eqd ?_) (.cons (.eqd ?_) (.cons (.nild ?_) .nil))))))) ⟨rfl,rfl⟩ (SubO.get ⟨.inr ?_,⟨.inl rfl,trivial⟩⟩) (zaB rfl)
  rotate_left 7
  try simp only[Q] at h5p
  refine wc zfH (zcd hw ht) rfl rfl ?_
  refine ev ?_
  refine sq (fun h6 h6p h6s=>?_) fun h6 h6p h6s=>?_
  try simp only[Q] at h6p
  refine Walk.build st56 (ks:=[0]) (xs:=[_]) rfl rfl .none rfl rfl rfl ?_
  refine Walk.store ty56 .none rfl rfl rfl rfl rfl rfl (by simp) rfl ?_
  refine tv ?_
  refine rn [(900,some (rdB b (zaF b w (d+1) ⟨a,k⟩ p).2))] (.cons (.cellA ty56 rfl rfl rfl) .nil) (.agg (.cons (.eqd ?_) (.cons (.eqd ?_) (.cons (.eqd ?_) (.cons (.eqd ?_) (.cons (.eqd ?_) (.cons (.nild ?_) .nil))))))) ⟨rfl,rfl⟩ (SubO.get ⟨.inr ?_,⟨.inl rfl,trivial⟩⟩) (zaB rfl)
  rotate_left 7
  try simp only[Q] at h6p
  refine Walk.call (cr:=[]) zcg (zaQ (p:=p+2) (n:=((((zam w ⟨a,k⟩).map fun n=>[D.i n]).length:Nat):Int)) hb (by omega) (by omega)) rfl .none rfl rfl (LeL.refl _) ⟨rfl,trivial⟩ rfl rfl rfl ?_
  refine Walk.idx (i:=(zan b (p+2) (zam w ⟨a,k⟩).length).toNat) za0 .none rfl rfl rfl (by rw[hvl];have:=v14 (by omega);omega) (hat (by omega)) rfl ?_
  refine ev ?_
  refine Walk.build st56 (ks:=[0,1]) (xs:=[_,_]) rfl rfl .none rfl rfl rfl ?_
  refine Walk.alloc (id:=3011) tz56 rfl .none rfl rfl rfl rfl ?_
  refine Walk.store ty56 .none rfl rfl rfl rfl rfl rfl (by simp) rfl ?_
  refine tv ?_
  refine wc zfJ (zcq hw ht (hmem (by omega))) rfl rfl ?_
  refine ev ?_
  refine CWp.tokB 3011 5 1 6 rfl rfl rfl rfl ?_
  refine CWp.loopX (ι:=List (Ty)×List (Ty)×(Nat)×(List Pat)) hk (fun x=>[(13,.d (.i (x.1.length:Int)))]) [75,76,77,78,79,80,81,82,83,84,85,86,87,88,89,90,91,92,93,94] (fun x=>[(900,some (.box [.d (zcw b),.d (.i (x.2.2.1:Int))])),(3011,some (.box [.d (.i 4),.d (.i cc),.d (.i 0),.d (.i 0),.d (.i 0),.gl 1 (x.2.2.2.map Pat.cc)])),(1,some (.tok (x.2.2.2.map Pat.cc).length 6))]) (fun x=>x.1++x.2.1=zab w ⟨a,k⟩ cc∧x.2.2.1≤p+3+x.1.length*bdP d∧x.2.2.2.length=x.1.length∧(x.2.2.2++(dA (zaF b w d) x.2.1 x.2.2.1).1,(dA (zaF b w d) x.2.1 x.2.2.1).2)=dA (zaF b w d) (zab w ⟨a,k⟩ cc) (p+3)) (fun x=>x.2.1.length) ([],zab w ⟨a,k⟩ cc,p+3,[]) ⟨by simp,by simp,by simp,by simp⟩ ⟨⟨_,rfl,LeA.eqi ?_⟩,trivial⟩ ⟨?_,⟨?_,⟨zaa ?_,trivial⟩⟩⟩ (fun x=>rfl) (fun x hg1=>?_)
  focus (first|rfl|(simp;done)|omega|(simp;omega))
  iterate 2 focus (first|rfl|(simp[getH];done))
  focus (first|rfl|(simp;done)|omega|(simp;omega))
  obtain⟨pre,rest,q,ks⟩:=x
  dsimp only at hg1 ⊢
  refine evc [] [] ?_
  refine sq (fun h7 h7p h7s=>?_) fun h7 h7p h7s=>?_
  try simp only[Q] at h7p
  rcases rest with _|⟨y,rest⟩
  ·exfalso;simp_all
  have hpm:pre.length*bdP d≤2*bdP d:=Nat.mul_le_mul_right _ (by have:=(hfw (by omega)).1;omega)
  refine Walk.idx zaZ .none rfl rfl rfl rfl (zaD hg1.1) rfl ?_
  refine evd [] [] ?_
  refine ar ?_
  refine Walk.call (cr:=[]) zkW (zeo hb hw hf d (a:=y.data) (k:=y.index) (p:=q) (by omega) (by omega) (by omega) (by omega) ((hfw (by omega)).2 y (by rw[←hg1.1];simp))) rfl .none rfl rfl (LeL.refl _) ⟨rfl,trivial⟩ rfl rfl rfl ?_
  refine Walk.sliceLit sl45 tz56 rfl (by decide) (ks:=[0]) (xs:=[_]) rfl rfl (by decide) (by decide) .none rfl rfl rfl rfl ?_
  refine Walk.append sl45 zz56 rfl .none rfl rfl rfl rfl (zaw rfl (by first|rfl|(simp;done)|(simp;omega))) (by simp) (by have hz:=congrArg List.length hg1.1;have:=(hfw (by omega)).1;simp at hz ⊢;omega) (by have hz:=congrArg List.length hg1.1;have:=(hfw (by omega)).1;simp at hz ⊢;omega) ?_
  refine evd [] [] ?_
  refine Walk.store ty45 .none rfl rfl rfl rfl rfl rfl (by simp) rfl ?_
  refine dr ?_
  refine ar ?_
  refine Exists.intro ((pre++[y],rest,(zaF b w d y q).2,ks++[(zaF b w d y q).1])) ⟨⟨(by have hz:=hg1.1;rw[←hz];simp),⟨(by have:=ih y q ((hfw (by omega)).2 y (by rw[←hg1.1];simp));simp only[List.length_append,List.length_cons,List.length_nil,Nat.add_mul];omega),(by simp[hg1.2.2.1]),(by rw[←hg1.2.2.2];simp[dA])⟩⟩,(by simp),sx ⟨⟨_,rfl,LeA.eqi ?_⟩,trivial⟩ ⟨?_,⟨?_,⟨zaa ?_,trivial⟩⟩⟩⟩
  focus (first|rfl|(simp;done)|omega|(simp;omega))
  iterate 2 focus (first|rfl|(simp[getH];done))
  focus (first|rfl|(simp;done)|omega|(simp;omega))
  try simp only[Q] at h7p
  have hrest:rest=[]:=by
   rcases rest with _|⟨a,b⟩
   ·rfl
   ·exfalso;have hz:=congrArg List.length (hg1.1);simp only[List.length_append,List.length_cons,List.length_map] at hz;omega
  subst hrest
  refine Walk.store ty56 .none rfl rfl rfl rfl rfl rfl (by simp) rfl ?_
  refine tv ?_
  refine rn [(900,some (rdB b (zaF b w (d+1) ⟨a,k⟩ p).2))] (.cons (.cellA ty56 rfl rfl rfl) .nil) (.agg (.cons (.eqd ?_) (.cons (.eqd ?_) (.cons (.eqd ?_) (.cons (.eqd ?_) (.cons (.eqd ?_) (.cons (.gld ?_) .nil))))))) ⟨rfl,rfl⟩ (SubO.get ⟨.inr ?_,⟨.inl rfl,trivial⟩⟩) (zaB rfl)
  rotate_left 7
  all_goals (first|((first|(rw[zmh (by omega)];all_goals first|rfl|(show _=D.sl (Pat.cs _);rw[Pat.cs_cc];all_goals rfl)|(show _=Pat.cs _;rw[Pat.cs_cc];all_goals rfl))|(rw[zmi (by omega) (by omega)];all_goals first|rfl|(show _=D.sl (Pat.cs _);rw[Pat.cs_cc];all_goals rfl)|(show _=Pat.cs _;rw[Pat.cs_cc];all_goals rfl))|(rw[zmj (by omega) (by omega) (by omega)];all_goals first|rfl|(show _=D.sl (Pat.cs _);rw[Pat.cs_cc];all_goals rfl)|(show _=Pat.cs _;rw[Pat.cs_cc];all_goals rfl))|(rw[zmk (by omega) (by omega) (by omega) (by omega)];all_goals first|rfl|(show _=D.sl (Pat.cs _);rw[Pat.cs_cc];all_goals rfl)|(show _=Pat.cs _;rw[Pat.cs_cc];all_goals rfl))|(rw[zml (by omega) (by omega) (by omega) (by omega) (by omega)];all_goals first|rfl|(show _=D.sl (Pat.cs _);rw[Pat.cs_cc];all_goals rfl)|(show _=Pat.cs _;rw[Pat.cs_cc];all_goals rfl))|(rw[zmm (by omega) (by omega) (by omega) (by omega) (by omega) hcc];have hfin:=hg1.2.2.2;simp only[dA,List.append_nil] at hfin;rw[←hfin];all_goals first|rfl|(show _=D.sl (Pat.cs _);rw[Pat.cs_cc];all_goals rfl)|(show _=Pat.cs _;rw[Pat.cs_cc];all_goals rfl)));done)|(first|(rw[zmh (by omega)];all_goals rfl)|(rw[zmi (by omega) (by omega)];all_goals rfl)|(rw[zmj (by omega) (by omega) (by omega)];all_goals rfl)|(rw[zmk (by omega) (by omega) (by omega) (by omega)];all_goals rfl)|(rw[zml (by omega) (by omega) (by omega) (by omega) (by omega)];all_goals rfl)|(rw[zmm (by omega) (by omega) (by omega) (by omega) (by omega) hcc];have hfin:=hg1.2.2.2;simp only[dA,List.append_nil] at hfin;rw[←hfin];all_goals rfl)))
end Go.Proofs.YtcnjkjdmbnhcaaaGreat
