/-
  THE LAW FnExactFormatFuns: whatever the arguments of bulk at most 1048576 are, the call returns true, and the arguments read as before.
  Conditions: the bulk alone.
-/
import Derived.Test.YtmkipahfpaacgaaGreatDoorT623
namespace Go.Proofs.YtmkipahfpaacgaaGreatDoor
open Go
set_option linter.unusedSimpArgs false
set_option linter.unusedVariables false
set_option maxRecDepth 100000
set_option maxHeartbeats 4000000
def kTn {α:Type} [Inhabited α] (f:Ty->α->Str) (ts:List Ty) (ks:List α) (n:Nat):List Str:=(List.range n).map fun i=>f (nth ts i) (nth ks i)
section
variable {α:Type} [Inhabited α]{f:Ty->α->Str}{ts:List Ty}{ks:List α}
theorem zaT {n:Nat}:(kTn f ts ks n).length=n:=by simp[kTn]
theorem zcS {n:Nat}:kTn f ts ks (n+1)=kTn f ts ks n++[f (nth ts n) (nth ks n)]:=by unfold kTn;rw[List.range_succ,xag];rfl
theorem zlb {m:Nat} (h:∀i,i<ks.length->(f (nth ts i) (nth ks i)).length<=m){n:Nat} (hn:n<=ks.length):∀x∈kTn f ts ks n,x.length<=m:=fun x hx=>by
 unfold kTn at hx;obtain⟨i,hi,rfl⟩:=List.mem_map.1 hx;exact h i (by have:=List.mem_range.1 hi;omega)
theorem zmb {m:Nat} (h:∀i,i<ks.length->(f (nth ts i) (nth ks i)).length<=m){n i:Nat} (hn:n<=ks.length) (hi:i<n):(nth (kTn f ts ks n) i).length<=m:=
 zlb h hn _ (zad (by rw[zaT];exact hi))
end
theorem zmc {n:Int} (h0:0<=n) (h1:n<=25):strN [IntKind.u8.wrap (97+n)]=letV n:=by
 unfold letV;rw[zlU (n:=n),Int.emod_eq_of_lt h0 oc]
theorem zcs {n:Int} (h0:0<=n) (h1:n<=25):FnD Tryz.prog 155 [.d (.i n)] [] (.d (.str (letV n))) []:=by
 rw[<-zmc h0 h1];refine bd Tryz.f155 8 [] [] fun _ _ _ _ hk=>?_;refine ar (xbf (by rw[un3];rfl) un5 .none Z Z ?_);refine si [0] [_] sl22 tz5 ?_;refine xba sl22 un9 od .none Z Z Z (by first|rfl|exact zfe _) ?_;refine ev (rq ?_);rotate_left;all_goals (rfl)
theorem zht {n m:Int} (z0:0<=n) (z1:n<=9) (z2:0<=m) (z3:m<=9):FnD Tryz.prog 184 [.d (.i n),.d (.i m)] [] (.d (.str (if n=m then decV n else decV n++[45]++decV m))) []:=by
 have l1:=za5 n;have l2:=za5 m;refine bd Tryz.f184 16 [12,15] [] fun _ _ _ _ hk=>?_;apply sq<;>intro h1 h1p h1s<;>(try simp only[Q] at h1p);refine wc zea (zbc (n:=n) z0 z1) Z Z ?_;refine evs [12,15] [] (rq ?_);rotate_left;refine wc zea (zbc (n:=n) z0 z1) Z Z ?_;refine xbd .none Z Z Z (by(try simp only[xaa,xab,xak]);omega) (evs [12,15] [] (wc zea (zbc (n:=m) z2 z3) Z Z ?_));refine xbd .none Z Z Z (by(try simp only[xaa,xab,xak]);omega) (evs [12,15] [] (rq ?_));rotate_left;all_goals (first|(rw[if_pos oc];done)|(rw[if_neg oc];done))
theorem zc6 {l:List Str} (hl:l.length<=100) (hb:∀x∈l,x.length<=1000000000):FnD Tryz.prog 156 [.d (zlJ l)] [] (.d (.str (zcm l))) []:=by
 have hj:=ze8 (sep:=[44]) hb;have hj2:(zbm [44] l).length<=100*1000000001:=Nat.le_trans hj (xav _ hl);have z0:l=[]->zcm l=[]:=fun h=>by rw[h];rfl
 have z1:¬l=[]->zcm l=[40]++zbm [44] l++[41]:=fun h=>by unfold zcm;rw[if_neg h]
 have hc:l.length=0↔l=[]:=List.length_eq_zero_iff;refine bd Tryz.f156 10 [8,9] [] fun _ _ _ _ hk=>?_;apply sq<;>intro h1 h1p h1s<;>(try simp only[Q,xal,xac] at h1p);refine rq ?_;rotate_left;refine wc zkJ (zdH (l:=l) (sep:=[44]) oc oc) Z Z ?_;refine xbd .none Z Z Z (by(try simp only[xaa,xab,xak]);omega) (xbd .none Z Z Z (by(try simp only[xaa,xab,xak]);omega) (evs [8,9] [] (rq ?_)));rotate_left;all_goals (first|(rw[z0 (hc.1 oc)];done)|(rw[z1 (fun h=>by have:=hc.2 h;omega)];done))
theorem zeW {w:List Data} (hw:WT w) (hb:TB w){a k:Int} (h:a = -1\/(0<=a/\a.toNat<w.length)) (hk : -1<=k) (hk3:k<=9):
  FnD Tryz.prog 123 [.d (zae w),.agg [.d (.i a),.d (.i k)]] [] (.d (.str (zbF w ⟨a,k⟩))) []:=by
 have e0:a = -1->zbF w ⟨a,k⟩=[73]:=fun h=>by unfold zbF;rw[if_pos h]
 by_cases ha:a = -1
 ·rw[e0 ha];refine bd Tryz.f123 40 [] [] fun _ _ _ _ hk=>?_;refine bx 3003 ?_;refine ev ?_;apply sq<;>intro h1 h1p h1s<;>(try simp only[Q] at h1p);focus (refine rq ?_;all_goals (first|rfl|(simp[h1s,h1p];done)|(simp_all;done)|(simp_all;omega)|omega))
  exfalso;omega
 obtain⟨d,rfl⟩:=Int.eq_ofNat_of_zero_le (h.resolve_left ha).1;have hd:d<w.length:=(h.resolve_left ha).2;have hn:=(hb.dn (nth w d) (zad hd));have e1:zbF w ⟨(d:Int),k⟩=(nth w d).name++zcC k:=by unfold zbF;rw[if_neg ha];rfl
 have i1:0<k->zcC k=decV k:=fun h=>by unfold zcC;rw[if_neg oc,if_neg oc]
 have i2:k = -1->zcC k=[42]:=fun h=>by unfold zcC;rw[if_neg oc,if_pos h]
 have i3:k=0->zcC k=[]:=fun h=>by unfold zcC;rw[if_pos h]
 have l1:=za5 k;rw[e1];refine bd Tryz.f123 40 [22,33] [] fun _ _ _ _ hk=>?_;refine bx 3003 ?_;refine evs [22,33] [] ?_;apply sq<;>intro h1 h1p h1s<;>(try simp only[Q,xal] at h1p);exfalso;omega;apply sq<;>intro h2 h2p h2s<;>(try simp only[Q,xal] at h2p);refine ixq sl23 Z Z Z (zaf hd) Z (evd [22,33] [] (wc zea (zbc (n:=k) oc oc) Z Z ?_));refine xbd .none Z Z Z (by(try simp only[xaa,xab,xak]);omega) (evd [22,33] [] (dr (rq ?_)));rotate_left;apply sq<;>intro h3 h3p h3s<;>(try simp only[Q,xal] at h3p);refine ixq sl23 Z Z Z (zaf hd) Z (evs [22,33] [] (xbd .none Z Z Z (by(try simp only[xaa,xab,xak]);omega) (evs [22,33] [] (rq ?_))));rotate_left;refine ixq sl23 Z Z Z (zaf hd) Z (evs [22,33] [] (rq ?_));rotate_left;all_goals (first|(rw[i1 oc];done)|(rw[i2 oc];done)|(rw[i3 oc,xaq];done))
theorem zhs {o v n:Int} (z0:0<=v) (z1:v<=25) (z2:0<=n) (z3:n<=9):FnD Tryz.prog 199 [.agg [.d (.i o),.d (.i v),.d (.i n)]] [] (.d (.str (letV v++(if o=1 then [60] else [61])++decV n))) []:=by
 have l1:=za5 n;have l2:=zbL v;refine bd Tryz.f199 16 [11,15] [] fun _ _ _ _ hk=>?_;refine bx 3001 ?_;refine evs [11,15] [] ?_;apply sq<;>intro h1 h1p h1s<;>(try simp only[Q] at h1p);refine wc zgt (zcs (n:=v) z0 z1) Z Z ?_;refine evd [11,15] [] (xbd .none Z Z Z (by(try simp only[xaa,xab,xak]);omega) (evd [11,15] [] (wc zea (zbc (n:=n) z2 z3) Z Z ?_)));refine xbd .none Z Z Z (by(try simp only[xaa,xab,xak]);omega) (evd [11,15] [] (dr (rq ?_)));rotate_left;refine wc zgt (zcs (n:=v) z0 z1) Z Z ?_;refine evd [11,15] [] (xbd .none Z Z Z (by(try simp only[xaa,xab,xak]);omega) (evd [11,15] [] (wc zea (zbc (n:=n) z2 z3) Z Z ?_)));refine xbd .none Z Z Z (by(try simp only[xaa,xab,xak]);omega) (evd [11,15] [] (dr (rq ?_)));rotate_left;all_goals (first|(rw[if_pos oc];done)|(rw[if_neg oc];done))
set_option maxHeartbeats 2000000
structure Rd where
 s:List UInt8
 bad:Bool
def zfZ (r:Rd):UInt8:=if r.bad=true\/r.s=[] then 0 else nth r.s 0
set_option maxHeartbeats 4000000
set_option maxHeartbeats 2000000
theorem zm0 (L:List Nat) (hp:Hp) (i:Nat):getH (L.map (fun j=>(j,(none:Option Res)))++hp) i=if i∈L then none else getH hp i:=by
 induction L with
 |nil=>simp
 |cons x r ih=>
  simp only[xaf,xai,zag,List.mem_cons];by_cases h:i=x
  ·subst h;simp
  ·simp[h,ih]
section
variable {c:Ctx}
theorem R.drop {G:Gh}{s:St}{a:Act}{w:World} (hr:R c G s a w) (L:List Nat) (hk:∀i l,c.kept i=some l->i∉L):R c G ⟨s.env,L.map (fun j=>(j,none))++s.hp⟩ a w:=by
 have hg:=zm0 L s.hp;have hT:∀i p,tokf (L.map (fun j=>(j,(none:Option Res)))++s.hp) i=some p->tokf s.hp i=some p:=fun i p h=>by
  obtain⟨n,k⟩:=p;have:=zam.1 h;rw[hg] at this;split at this
  ·cases this
  ·exact zam.2 this
 have hm:∀ {x:AV}{v:Value},RelA G (tokf s.hp) w x v->RelA G (tokf (L.map (fun j=>(j,(none:Option Res)))++s.hp)) w x v:=fun hx=>
  hx.mono (fun _ _ ho=>⟨ho,rfl⟩) (fun _ _=> .inl rfl) (fun i _ p hp=>⟨hT i p hp,fun _ _=>⟨rfl,rfl⟩⟩)
 have hs:∀i r,getH (L.map (fun j=>(j,(none:Option Res)))++s.hp) i=some r->getH s.hp i=some r:=fun i r h=>by
  rw[hg] at h;split at h
  ·cases h
  ·exact h
 have hss:∀i,(getH (L.map (fun j=>(j,(none:Option Res)))++s.hp) i).isSome->(getH s.hp i).isSome:=fun i h=>by
  obtain⟨r,hr⟩:=Option.isSome_iff_exists.1 h;rw[hs i r hr];rfl
 refine⟨hr.size,hr.defers,fun i v h=>hm (hr.slots i v h),fun i r h=>?_,fun i j h1 h2=>hr.disj i j (hss i h1) (hss j h2),fun i h=>hr.new i (hss i h),hr.frm,hr.top,fun i l hl=>?_⟩
 ·have hh:=hr.heap i r (hs i r h);cases r with
  |box cs=>
   obtain⟨b,vs,e,h1,h2,h3,h4,h5⟩:=hh;exact⟨b,vs,e,h1,h2,h3,h4,fun j hj hv=>hm (h5 j hj hv)⟩
  |tok m k=>exact hh
  |map ks=>exact hh
  |tree cs=>exact zaV hh Z (fun _ _=>⟨Z,Z⟩) (Nat.le_refl _) (fun _ _ _=>hm)
 ·obtain⟨k1,k2,k3⟩:=hr.kept i l hl;refine⟨k1, ?_, ?_⟩
  ·show(getH (L.map (fun j=>(j,(none:Option Res)))++s.hp) i).isSome
   rw[hg,if_neg (hk i l hl)];exact k2
  ·show tokf (L.map (fun j=>(j,(none:Option Res)))++s.hp) i=none
   cases h:tokf (L.map (fun j=>(j,(none:Option Res)))++s.hp) i with
   |none=>rfl
   |some p=>rw[hT i p h] at k3;cases k3
inductive RowT (hp:Hp):List AV->List D->List (Nat×Nat×Nat)->Prop
 |nil:RowT hp [] [] []
 |sc {x cs ds js} (hs:zhm x=true) (h:RowT hp cs ds js):RowT hp (.d x::cs) (x::ds) js
 |ni {cs ds js} (h:RowT hp cs ds js):RowT hp (.nils::cs) (.sl []::ds) js
 |gt {j zs n k cs ds js} (hj:getH hp j=some (.tok n k)) (hn:n=zs.length) (h:RowT hp cs ds js):RowT hp (.gt j zs::cs) (.sl zs::ds) ((j,n,k)::js)
theorem RowT.move {hp hp':Hp}{cs:List AV}{ds:List D}{js:List (Nat×Nat×Nat)} (h:RowT hp cs ds js):(∀q,q∈js->getH hp' q.1=some (.tok q.2.1 q.2.2))->RowT hp' cs ds js:=by
 induction h with
 |nil=>intro _;exact .nil
 |sc hs _ ih=>intro h;exact .sc hs (ih h)
 |ni _ ih=>intro h;exact .ni (ih h)
 |gt hj hn _ ih=>intro h;exact .gt (h (_,_,_) List.mem_cons_self) hn (ih fun q hq=>h q (List.mem_cons_of_mem _ hq))
theorem RowT.len {hp:Hp}{cs:List AV}{ds:List D}{js:List (Nat×Nat×Nat)} (h:RowT hp cs ds js):ds.length=cs.length:=by
 induction h with
 |nil=>rfl
 |sc _ _ ih=>simp[ih]
 |ni _ ih=>simp[ih]
 |gt _ _ _ ih=>simp[ih]
end
section
variable {c:Ctx}{env:Env}{hp:Hp}{K:Kt}{code:Code}{ids:List Nat}
theorem CWp.kill (ks:List Nat) (hn:CWp c code ⟨zbq ks++env,hp⟩ K):CWp c code ⟨env,hp⟩ K:=by
 intro a w hrel;refine hn a w ?_;obtain⟨G,hr⟩:=hrel;refine⟨G,hr.size,hr.defers,fun i v hi=>?_,hr.heap,hr.disj,hr.new,hr.frm,hr.top,hr.kept⟩;have hi':getE (zbq ks++env) i=some v:=hi;by_cases h:i∈zcK (zbq ks)
 ·rw[zcJ h] at hi';rw[zgD hi'];exact .any _
 ·rw[zb9 h] at hi';exact hr.slots i v hi'
end
structure Ext2 (P:Program) (f:FuncId) (x y v:D):Prop where
 run:∀(F:Nat->Nat) (w:World) (a b:Value),RelD F w x a->RelD F w y b->∃z,(callFunc f #[a,b]).run P w = .ok (.value z) w/\RelD F w v z
theorem Ext2.index {P:Program}{f:FuncId}{fn:Func} (hf:P.funcs[f]?=some fn) (hname:(fn.name == "runtime.NumGoroutine")=false)
  (hb:fn.body.isNone=true) (hn:Extern.findNext fn=none) (he:Extern.find fn=some Extern.BytealgIndexByte.indexByte){s:List UInt8}{b:UInt8}:
  Ext2 P f (.str s) (.int .u8 (b.toNat:Int)) (.i (Lib.indexByte s b)):=⟨fun F w x y h1 h2=>by
 cases h1;cases h2
 refine⟨_, ?_,.int _ _⟩;rw[run_callFunc_extern hf hname hb hn he,Lib.run_indexByteString];simp only[Result.andThen,Int.toNat_natCast];rw[show b.toNat.toUInt8=b from UInt8.ofNat_toNat]⟩
theorem Ext2.count {P:Program}{f:FuncId}{fn:Func} (hf:P.funcs[f]?=some fn) (hname:(fn.name == "runtime.NumGoroutine")=false)
  (hb:fn.body.isNone=true) (hn:Extern.findNext fn=none) (he:Extern.find fn=some Extern.BytealgCount.count){s:List UInt8}{b:UInt8}:
  Ext2 P f (.str s) (.int .u8 (b.toNat:Int)) (.i ((Lib.countByte s b:Nat):Int)):=⟨fun F w x y h1 h2=>by
 cases h1;cases h2
 refine⟨_, ?_,.int _ _⟩;rw[run_callFunc_extern hf hname hb hn he,Lib.run_countString];simp only[Result.andThen,Int.toNat_natCast];rw[show b.toNat.toUInt8=b from UInt8.ofNat_toNat]⟩
set_option maxHeartbeats 4000000
section
variable {w:List Data}{n:Nat}{t:Ty}{r:Rd}
variable (h0:¬((zfZ r).toNat:Int)=0) (h1:¬((zfZ r).toNat:Int)=95) (h2:¬(97<=((zfZ r).toNat:Int)/\((zfZ r).toNat:Int)<=122)) (h3:¬(48<=((zfZ r).toNat:Int)/\((zfZ r).toNat:Int)<=57)) (h4:¬((zfZ r).toNat:Int)=40)
include h0 h1 h2 h3 h4
end
def znQ (s:Str):Prop:=¬s.length=3\/((nth s 0).toNat:Int)<97\/122<((nth s 0).toNat:Int)\/((nth s 2).toNat:Int)<48\/57<((nth s 2).toNat:Int)
instance (s:Str):Decidable (znQ s):=by unfold znQ;infer_instance
set_option maxHeartbeats 2000000
theorem zkj {f:Ty->Pat->List Vt}{v:Vt}:∀ {ts:List Ty}{ks:List Pat},v∈zaG f ts ks->∃i,i<ts.length/\i<ks.length/\v∈f (nth ts i) (nth ks i)
 | [],_,h=>by simp[zaG] at h
 |_::_,[],h=>by simp[zaG] at h
 |t::ts,k::ks,h=>by
  simp only[zaG,List.mem_append] at h;rcases h with h|h
  ·exact⟨0,by simp,by simp,h⟩
  ·obtain⟨i,h1,h2,h3⟩:=zkj h;exact⟨i+1,by simpa using h1,by simpa using h2,h3⟩
theorem zjQ {w:List Data}:∀(n:Nat){t:Ty}{p:Pat},zaj w n t p=true->∀v∈zaq w n t p,0<=v.var/\v.var<=5
 |0,t,p,h,v,hv=>by simp[zaj] at h
 |n+1,t,p,h,v,hv=>by
  have ih:=fun {t:Ty}{p:Pat}=>zjQ (w:=w) n (t:=t) (p:=p);obtain⟨ho,hl⟩:=zbz h;rw[zaq,List.mem_append] at hv;rcases hv with hv|hv
  ·unfold zax at hv;split at hv
   ·rename_i hop;rw[List.mem_singleton] at hv;rw[hv];exact zh2 ho hop
   ·simp at hv
  ·obtain⟨i,h1,h2,h3⟩:=zkj hv;have hpre:i<(zaa w t p).length/\nth (zbY w t p) i=nth (zaa w t p) i:=by
    unfold zbY at h1 ⊢;split at h1
    ·rename_i h5;rw[if_pos h5];rw[List.length_take] at h1;refine⟨by omega, ?_⟩;rw[zaB (by rw[List.length_take];omega),zaB oc,List.getElem_take]
    ·rename_i h5;rw[if_neg h5];exact⟨h1,rfl⟩
   rw[hpre.2] at h3;exact ih (zaW h h2) v h3
theorem zn5 {w:List Data}{t:Ty}{c:Cl} (h:clOk w t c=true):(c.g.op=0/\c.g.var=0/\c.g.n=0)\/((c.g.op=1\/c.g.op=2)/\0<=c.g.n/\c.g.n<=9/\0<=c.g.var/\c.g.var<=5):=by
 obtain⟨hp,hsh,hvars⟩:=zbS h;unfold clOk at h;rw[xad] at h;have h2:=h.2;unfold gdOk at h2;by_cases h0:c.g.op=0
 ·rw[if_pos h0] at h2;exact .inl ⟨h0,xas h2⟩
 ·rw[if_neg h0,xad] at h2;have h3:=xas h2.1;have h4:=xas h2.2;rw[<-hvars] at h4;have:=zjQ 10 hsh _ h4;exact .inr ⟨by omega,h3.2.2.1,h3.2.2.2,this.1,this.2⟩
set_option maxHeartbeats 4000000
theorem om{p:Prop}(h:p:=by intro x hx;simp at hx;subst hx;rfl):p:=h
theorem zh4 {w:List Data} (hw:WT w) (hb:TB w){n:Nat}
  (ih:∀ {a k:Int}{p:Pat},zaj w n ⟨a,k⟩ p=true->TyIn w.length ⟨a,k⟩->p.ok->p.size<=10000000->FnD Tryz.prog 98 [.d (zae w),.agg [.d (.i a),.d (.i k)],.agg [.d (.i p.op),.d (.i p.ctor),.d (.i p.n),.d (.i p.m),.d (.i p.var),.d (zal p.kids)]] [] (.d (.str (zap w n ⟨a,k⟩ p))) [])
  {a k:Int}{p:Pat} (h:zaj w (n+1) ⟨a,k⟩ p=true) (ht:TyIn w.length ⟨a,k⟩) (hok:p.ok) (hsz:p.size<=10000000):
  FnD Tryz.prog 98 [.d (zae w),.agg [.d (.i a),.d (.i k)],.agg [.d (.i p.op),.d (.i p.ctor),.d (.i p.n),.d (.i p.m),.d (.i p.var),.d (zal p.kids)]] [] (.d (.str (zap w (n+1) ⟨a,k⟩ p))) []:=by
 obtain⟨ho,hl⟩:=zbz h;have hin:=zcy hw ht ho;obtain⟨o1,o2,o3,o4⟩:=zlh ho;rw[xaS] at hsz;rw[xaR] at hok;have hkid:∀i,i<p.kids.length->FnD Tryz.prog 98 [.d (zae w),.agg [.d (.i (nth (zaa w ⟨a,k⟩ p) i).data),.d (.i (nth (zaa w ⟨a,k⟩ p) i).index)],.agg [.d (.i (nth p.kids i).op),.d (.i (nth p.kids i).ctor),.d (.i (nth p.kids i).n),.d (.i (nth p.kids i).m),.d (.i (nth p.kids i).var),.d (zal (nth p.kids i).kids)]] [] (.d (.str (zap w n (nth (zaa w ⟨a,k⟩ p) i) (nth p.kids i)))) []:=fun i hi=>
  ih (a:=(nth (zaa w ⟨a,k⟩ p) i).data) (k:=(nth (zaa w ⟨a,k⟩ p) i).index) (zaW h hi) (hin _ (zad oc)) (xaT hok.2 _ (zad hi)) (by have:=zgO hi;omega)
 have hlen:∀i,i<p.kids.length->(zap w n (nth (zaa w ⟨a,k⟩ p) i) (nth p.kids i)).length<=100000000:=fun i hi=>by
  have:=zcZ hw hb n (a:=(nth (zaa w ⟨a,k⟩ p) i).data) (k:=(nth (zaa w ⟨a,k⟩ p) i).index) (zaW h hi) (hin _ (zad oc));have h2:=zgO hi;have h3:(zap w n (nth (zaa w ⟨a,k⟩ p) i) (nth p.kids i)).length<=10*(nth p.kids i).size:=this;omega
 have hkt:=zhV hw (p:=p) ht;rw[show zbP w ⟨a,k⟩ p=zaa w ⟨a,k⟩ p from by unfold zbP;rw[if_neg (fun h=>h.2 (zbM ho h.1))]] at hkt;have q4:=fun(q:p.op=4)=>pt4 (n:=n) q hl;have q5:=fun(q:p.op=5)=>pt5 (n:=n) q hl;have q6:=fun(q:p.op=6)=>pt6 (n:=n) q hl;have k3:p.kids.length<=3:=by
  rcases o1 with q|q|q|q|q|q
  ·have:zaa w ⟨a,k⟩ p=[]:=by unfold zaa;rw[if_neg oc,if_neg oc,if_neg oc]
   rw[hl,this];simp
  ·have:zaa w ⟨a,k⟩ p=[]:=by unfold zaa;rw[if_neg oc,if_neg oc,if_neg oc]
   rw[hl,this];simp
  ·have:zaa w ⟨a,k⟩ p=[]:=by unfold zaa;rw[if_neg oc,if_neg oc,if_neg oc]
   rw[hl,this];simp
  ·rw[hl,zda q];simp
  ·rw[hl,zdZ q];simp
  ·rw[hl,zeL q];exact(zcT hw hb ht (o4 q)).2
 have e5:p.op=5->p.kids.length=2:=fun q=>by rw[hl,zda q];rfl
 have e6:p.op=6->p.kids.length=1:=fun q=>by rw[hl,zdZ q];rfl
 have hc4:p.op=4->∃d:Nat,a=(d:Int)/\d<w.length/\∃j:Nat,p.ctor=(j:Int)/\j<(nth w d).ctors.length:=fun q=>by
  obtain⟨d,e,hd,j,hj0,hj⟩:=za1 ht (o4 q);exact⟨d,e,hd,j,hj0,hj⟩
 have hn4:p.op=4->(zbB w ⟨a,k⟩ p.ctor).length<=5:=fun q=>(zcT hw hb ht (o4 q)).1;change ∀i,i<p.kids.length->_ at hlen
 generalize hts:zaa w ⟨a,k⟩ p=ts at *;have hkl:=fun(i:Nat) (hi:i<=p.kids.length)=>zlb hlen hi;have hkn:=fun(i j:Nat) (hi:i<=p.kids.length) (hj:j<i)=>zmb hlen hi hj;have hdl:=za5;have hll:=zbL p.var;clear ih hts;by_cases h4:p.op=4
 ·obtain⟨d,rfl,hd,j,hj0,hj⟩:=hc4 h4;have hnm:zbB w ⟨(d:Int),k⟩ p.ctor=(nth (nth w d).ctors j).name:=by unfold zbB;rw[hj0];rfl
  have hfin:=q4 h4;have hn:=hn4 h4;rw[hnm] at hfin hn;have hlv:=fun(i:Nat) (hi:i<=p.kids.length)=>zld (hkl i hi);rw[hfin];clear q4 q5 q6 hc4 hn4;refine bd Tryz.f98 86 [8,65] [] fun _ _ _ _ hk=>?_;refine bx 3004 ?_;refine bx 3005 ?_;refine evs [8,65] [] (wc zmx hkt Z Z ?_);refine evs [8,65] [] (xa7 1 1 .none Z Z ?_);apply tv;refine xaz (ι:=Nat) hk (fun i=>[(18,.d (.i (i:Int))),(8,.gl 1 ((kTn (zap w n) ts p.kids i).map fun s:Str=>[D.str s]))]) [9,10,19,20,21,22,23,24,25,26,27,28,29,30,31,32,33] (fun i=>[(1,some (.tok (((kTn (zap w n) ts p.kids i).map fun s:Str=>[D.str s])).length 1))]) (fun i=>i<=p.kids.length) (fun i=>p.kids.length-i) 0 oc ⟨⟨_,Z,xaL ?_⟩,⟨⟨_,Z,LeA.glg ?_⟩,O⟩⟩ ⟨zai ?_,O⟩ (fun x=>rfl) (fun i hg1=>?_);iterate 3 focus (first|rfl|omega|(rw[zcS,xag];all_goals rfl)|(simp[zaT];done)|(simp;omega))
  refine evc [8,65] [] ?_;apply sq<;>intro h1 h1p h1s<;>(try simp only[Q,xal,xaP,xac] at h1p);refine ixq sl58 Z Z Z (zba oc) Z ?_;refine evs [8,65] [] (ab 3010 tz60 ?_);refine evs [8,65] [] (so ty60 ?_);apply tv;refine ixq zau Z Z Z (zaf oc) Z ?_;refine evd [8,65] [] (wc zl1 (hkid i oc) Z Z ?_);refine si [0] [_] sl84 tz9 ?_;refine ap sl84 zz9 Z Z Z om (by first|(simp[kTn];omega)|(have h9:=hlv i oc;rw[zaT] at h9;have:i*(100000000+1)<=3*(100000000+1):=xav _ oc;(try simp only[xaa]);omega)) ?_;refine asg ?_;refine dr (ar (xaj (i+1) ⟨oc,oc,sx ⟨⟨_,Z,xaL ?_⟩,⟨⟨_,Z,LeA.glg ?_⟩,O⟩⟩ ⟨zai ?_,O⟩⟩));iterate 3 focus (first|rfl|omega|(rw[zcS,xag];all_goals rfl)|(simp[zaT];done)|(simp;omega))
  apply sq<;>intro h2 h2p h2s<;>(try simp only[Q,xal,xaP,xac] at h2p);exfalso;omega;apply sq<;>intro h3 h3p h3s<;>(try simp only[Q,xal,xaP,xac] at h3p);exfalso;omega;apply sq<;>intro h4 h4p h4s<;>(try simp only[Q,xal,xaP,xac] at h4p);exfalso;omega;apply sq<;>intro h5 h5p h5s<;>(try simp only[Q,xal,xaP,xac] at h5p);refine ixq sl23 Z Z Z (zaf hd) Z (evd [8,65] [] (ixq (i:=j) zbr Z Z hj0 (zaf hj) Z (evd [8,65] [] (Walk.call (cr:=[]) zij (zc6 (l:=kTn (zap w n) ts p.kids i) (by rw[zaT];omega) (fun x hx=>by have:=hkl i oc x hx;omega)) Z .none Z Z (.cons (.gl _ _) .nil) O Z Z Z ?_))));refine xbd .none Z Z Z (by first|(simp[kTn];omega)|(have h9:=hlv i oc;rw[zaT] at h9;have:i*(100000000+1)<=3*(100000000+1):=xav _ oc;(try simp only[xaa]);omega)) ?_;refine evd [8,65] [] (dr (rq ?_));rotate_left;exfalso;omega;all_goals (have e1:i=p.kids.length:=oc;subst e1;rfl)
 ·have f1:=tx1 (w:=w) (n:=n) (t:=⟨a,k⟩) (p:=p);have f2:=tx2 (w:=w) (n:=n) (t:=⟨a,k⟩) (p:=p);have f3:p.op=3->zap w (n+1) ⟨a,k⟩ p=if p.n=p.m then decV p.n else decV p.n++[45]++decV p.m:=fun q=>by
   by_cases hh:p.n=p.m
   ·rw[if_pos hh,tx3a q hh]
   ·rw[if_neg hh,tx3b q hh]
  clear q4 hc4 hn4;refine bd Tryz.f98 86 [8,71,72,76,77,81,85] [] fun _ _ _ _ hk=>?_;refine bx 3004 ?_;refine bx 3005 ?_;refine evs [8,71,72,76,77,81,85] [] (wc zmx hkt Z Z ?_);refine evs [8,71,72,76,77,81,85] [] (xa7 1 1 .none Z Z ?_);apply tv;refine xaz (ι:=Nat) hk (fun i=>[(18,.d (.i (i:Int))),(8,.gl 1 ((kTn (zap w n) ts p.kids i).map fun s:Str=>[D.str s]))]) [9,10,19,20,21,22,23,24,25,26,27,28,29,30,31,32,33] (fun i=>[(1,some (.tok (((kTn (zap w n) ts p.kids i).map fun s:Str=>[D.str s])).length 1))]) (fun i=>i<=p.kids.length) (fun i=>p.kids.length-i) 0 oc ⟨⟨_,Z,xaL ?_⟩,⟨⟨_,Z,LeA.glg ?_⟩,O⟩⟩ ⟨zai ?_,O⟩ (fun x=>rfl) (fun i hg1=>?_);iterate 3 focus (first|rfl|omega|(rw[zcS,xag];all_goals rfl)|(simp[zaT];done)|(simp;omega))
  refine evc [8,71,72,76,77,81,85] [] ?_;apply sq<;>intro h1 h1p h1s<;>(try simp only[Q,xal,xaP,xac] at h1p);refine ixq sl58 Z Z Z (zba oc) Z ?_;refine evs [8,71,72,76,77,81,85] [] (ab 3010 tz60 ?_);refine evs [8,71,72,76,77,81,85] [] (so ty60 ?_);apply tv;refine ixq zau Z Z Z (zaf oc) Z ?_;refine evd [8,71,72,76,77,81,85] [] (wc zl1 (hkid i oc) Z Z ?_);refine si [0] [_] sl84 tz9 ?_;refine ap sl84 zz9 Z Z Z om (by first|(simp[kTn];omega)|(have:=e5 oc;have h8:=hkn i 0 oc oc;have h9:=hkn i 1 oc oc;(try simp only[xaa,xab,xak]);omega)|(have:=e6 oc;have h8:=hkn i 0 oc oc;(try simp only[xaa,xab,xak]);omega)) ?_;refine asg ?_;refine dr (ar (xaj (i+1) ⟨oc,oc,sx ⟨⟨_,Z,xaL ?_⟩,⟨⟨_,Z,LeA.glg ?_⟩,O⟩⟩ ⟨zai ?_,O⟩⟩));iterate 3 focus (first|rfl|omega|(rw[zcS,xag];all_goals rfl)|(simp[zaT];done)|(simp;omega))
  apply sq<;>intro h2 h2p h2s<;>(try simp only[Q,xal,xaP,xac] at h2p);refine rq ?_;rotate_left;apply sq<;>intro h3 h3p h3s<;>(try simp only[Q,xal,xaP,xac] at h3p);refine wc zgt (zcs (n:=p.var) (by have:=o2 oc;omega) (by have:=o2 oc;omega)) Z Z ?_;refine evs [8,71,72,76,77,81,85] [] (rq ?_);rotate_left;apply sq<;>intro h4 h4p h4s<;>(try simp only[Q,xal,xaP,xac] at h4p);refine wc zoF (zht (n:=p.n) (m:=p.m) (by have:=o3 oc;omega) (by have:=o3 oc;omega) (by have:=o3 oc;omega) (by have:=o3 oc;omega)) Z Z ?_;refine evs [8,71,72,76,77,81,85] [] (rq ?_);rotate_left;apply sq<;>intro h5 h5p h5s<;>(try simp only[Q,xal,xaP,xac] at h5p);exfalso;omega;apply sq<;>intro h6 h6p h6s<;>(try simp only[Q,xal,xaP,xac] at h6p);refine xbj (i:=0) sl84 .none Z Z Z Z (zaf (by rw[zaT];first|(have:=e5 oc;omega)|(have:=e6 oc;omega))) Z ?_;refine evd [8,71,72,76,77,81,85] [] (xbd .none Z Z Z (by first|(simp[kTn];omega)|(have:=e5 oc;have h8:=hkn i 0 oc oc;have h9:=hkn i 1 oc oc;(try simp only[xaa,xab,xak]);omega)|(have:=e6 oc;have h8:=hkn i 0 oc oc;(try simp only[xaa,xab,xak]);omega)) ?_);refine xbd .none Z Z Z (by first|(simp[kTn];omega)|(have:=e5 oc;have h8:=hkn i 0 oc oc;have h9:=hkn i 1 oc oc;(try simp only[xaa,xab,xak]);omega)|(have:=e6 oc;have h8:=hkn i 0 oc oc;(try simp only[xaa,xab,xak]);omega)) ?_;refine evd [8,71,72,76,77,81,85] [] (xbj (i:=1) sl84 .none Z Z Z Z (zaf (by rw[zaT];first|(have:=e5 oc;omega)|(have:=e6 oc;omega))) Z ?_);refine evd [8,71,72,76,77,81,85] [] (xbd .none Z Z Z (by first|(simp[kTn];omega)|(have:=e5 oc;have h8:=hkn i 0 oc oc;have h9:=hkn i 1 oc oc;(try simp only[xaa,xab,xak]);omega)|(have:=e6 oc;have h8:=hkn i 0 oc oc;(try simp only[xaa,xab,xak]);omega)) ?_);refine xbd .none Z Z Z (by first|(simp[kTn];omega)|(have:=e5 oc;have h8:=hkn i 0 oc oc;have h9:=hkn i 1 oc oc;(try simp only[xaa,xab,xak]);omega)|(have:=e6 oc;have h8:=hkn i 0 oc oc;(try simp only[xaa,xab,xak]);omega)) ?_;refine evd [8,71,72,76,77,81,85] [] (dr (rq ?_));rotate_left;refine wc zgt (zcs (n:=p.var) (by have:=o2 oc;omega) (by have:=o2 oc;omega)) Z Z ?_;refine xbd .none Z Z Z (by first|(simp[kTn];omega)|(have:=e5 oc;have h8:=hkn i 0 oc oc;have h9:=hkn i 1 oc oc;(try simp only[xaa,xab,xak]);omega)|(have:=e6 oc;have h8:=hkn i 0 oc oc;(try simp only[xaa,xab,xak]);omega)) ?_;refine evd [8,71,72,76,77,81,85] [] (xbj (i:=0) sl84 .none Z Z Z Z (zaf (by rw[zaT];first|(have:=e5 oc;omega)|(have:=e6 oc;omega))) Z ?_);refine evd [8,71,72,76,77,81,85] [] (xbd .none Z Z Z (by first|(simp[kTn];omega)|(have:=e5 oc;have h8:=hkn i 0 oc oc;have h9:=hkn i 1 oc oc;(try simp only[xaa,xab,xak]);omega)|(have:=e6 oc;have h8:=hkn i 0 oc oc;(try simp only[xaa,xab,xak]);omega)) ?_);refine evd [8,71,72,76,77,81,85] [] (dr (rq ?_));rotate_left;all_goals (have e1:i=p.kids.length:=oc;subst e1;first|(rw[f1 oc];done)|(rw[f2 oc];done)|(rw[f3 oc];done)|(rw[q5 oc];all_goals rfl)|(rw[q6 oc];all_goals rfl))
theorem zdJ {w:List Data} (hw:WT w) (hb:TB w):∀(n:Nat){a k:Int}{p:Pat},zaj w n ⟨a,k⟩ p=true->TyIn w.length ⟨a,k⟩->p.ok->p.size<=10000000->
  FnD Tryz.prog 98 [.d (zae w),.agg [.d (.i a),.d (.i k)],.agg [.d (.i p.op),.d (.i p.ctor),.d (.i p.n),.d (.i p.m),.d (.i p.var),.d (zal p.kids)]] [] (.d (.str (zap w n ⟨a,k⟩ p))) []
 |0,a,k,p,h,_,_,_=>by simp[zaj] at h
 |n+1,a,k,p,h,ht,hok,hsz=>zh4 hw hb (fun {a k p} q1 q2 q3 q4=>zdJ hw hb n q1 q2 q3 q4) h ht hok hsz
theorem zoj {w:List Data}{t:Ty}{c:Cl} (h:c.g.op=0\/c.g.op=1\/c.g.op=2):(c.g.op=0->za2 w t c=zap w 10 t c.pat)/\(¬c.g.op=0->za2 w t c=zap w 10 t c.pat++([32]++(letV c.g.var++(if c.g.op=1 then [60] else [61])++decV c.g.n))):=by
 refine⟨fun q=>?_,fun q=>?_⟩
 ·unfold za2;rw[if_neg oc,if_neg oc]
 ·unfold za2;rcases h with h|h|h
  ·exact absurd h q
  ·rw[if_pos h,if_pos h];simp
  ·rw[if_neg oc,if_pos h,if_neg oc];simp
theorem zgm {w:List Data} (hw:WT w) (hb:TB w){a k:Int} (ht:TyIn w.length ⟨a,k⟩){l:List Cl} (hl:l.length<=8) (hv:∀c∈l,clOk w ⟨a,k⟩ c=true) (hok:∀c∈l,c.pat.ok) (hz:∀c∈l,c.pat.size<=10000000):
  FnD Tryz.prog 110 [.d (zae w),.agg [.d (.i a),.d (.i k)],.d (zbl l)] [] (.d (.str (zcE w ⟨a,k⟩ true l))) []:=by
 have hp:=fun(c:Cl) (hc:c∈l)=>zdJ hw hb 10 (zbS (hv c hc)).2.1 ht (hok c hc) (hz c hc);have hlen:=fun(c:Cl) (hc:c∈l)=>zg8 hw hb ht (hv c hc) (hz c hc);have hpl:=fun(c:Cl) (hc:c∈l)=>zcZ hw hb 10 (zbS (hv c hc)).2.1 ht;have hgd:=fun(c:Cl) (hc:c∈l)=>zn5 (hv c hc);have hg:=fun(c:Cl) (hc:c∈l)=>zoj (w:=w) (t:=⟨a,k⟩) (c:=c) (by rcases hgd c hc with h|h<;>omega);have hgt:=fun(c:Cl) (hc:c∈l) (h:¬c.g.op=0)=>zhs (o:=c.g.op) (v:=c.g.var) (n:=c.g.n) (by rcases hgd c hc with h|h<;>omega) (by rcases hgd c hc with h|h<;>omega) (by rcases hgd c hc with h|h<;>omega) (by rcases hgd c hc with h|h<;>omega);have hj:=ze8 (sep:=[47]) (l:=l.map (za2 w ⟨a,k⟩)) (m:=100000010) (fun x hx=>by obtain⟨c,hc,rfl⟩:=List.mem_map.1 hx;exact hlen c hc);have hj2:(zbm [47] (l.map (za2 w ⟨a,k⟩))).length<=8*100000011:=Nat.le_trans hj (by rw[xac];exact xav _ hl);have hdl:=za5;have hll:=zbL;rw[zkU];refine bd Tryz.f110 39 [7,30,31] [10] fun _ _ _ _ hk=>?_;refine bx 3004 ?_;refine evs [7,30,31] [] (xa7 1 1 .none Z Z ?_);apply tv;refine xaz (ι:=List (Cl)×List (Cl)) hk (fun x=>[(13,.d (.i (x.1.length:Int))),(7,.gl 1 ((x.1.map (za2 w ⟨a,k⟩)).map fun s:Str=>[D.str s]))]) [9,10,14,15,16,17,18,19,20,21,22,23,24,25,26,27,28,29,30,31,32,33,34,35,36] (fun x=>[(1,some (.tok (((x.1.map (za2 w ⟨a,k⟩)).map fun s:Str=>[D.str s])).length 1))]) (fun x=>x.1++x.2=l) (fun x=>x.2.length) ([],l) oe ⟨⟨_,Z,xaL ?_⟩,⟨⟨_,Z,LeA.glg ?_⟩,O⟩⟩ ⟨zai ?_,O⟩ (fun x=>rfl) (fun x hg1=>?_);iterate 3 focus (first|rfl|(simp;done)|omega|(simp only[xag,xaf,List.map_nil];rw[(hg y (by rw[<-hg1];simp)).1 oc];done)|(simp only[xag,xaf,List.map_nil];rw[(hg y (by rw[<-hg1];simp)).2 oc];done)|(simp;omega))
 obtain⟨pre,rest⟩:=x;dsimp only at hg1 ⊢;refine evc [7,30,31] [10] ?_;apply sq<;>intro h1 h1p h1s<;>(try simp only[Q,xal,xac] at h1p);rcases rest with _|⟨y,rest⟩
 ·exfalso;simp_all
 refine ixq sl74 Z Z Z (zaE hg1) Z (evs [7,30,31] [] (ab 3009 zho ?_));refine so zjj ?_;apply tv;refine wc zl1 (hp y (by rw[<-hg1];simp)) Z Z ?_;refine evs [7,30,31] [] ?_;apply sq<;>intro h2 h2p h2s<;>(try simp only[Q,xal,xac] at h2p);refine wc zoJ (hgt y (by rw[<-hg1];simp) oc) Z Z ?_;refine xbd .none Z Z Z (by first|(have h9:=xam List.length hg1;simp at h9;simp;omega)|(have h8:=hpl y (by rw[<-hg1];simp);have h7:=hz y (by rw[<-hg1];simp);have:=hdl y.g.n;have:=hll y.g.var;split<;>simp only[xaa,xab,xak]<;>omega)|(have h8:=hpl y (by rw[<-hg1];simp);have h7:=hz y (by rw[<-hg1];simp);have:=hdl y.g.n;have:=hll y.g.var;simp only[xaa,xab,xak];split<;>simp only[xab,xak]<;>omega)) ?_;refine xbd .none Z Z Z (by first|(have h9:=xam List.length hg1;simp at h9;simp;omega)|(have h8:=hpl y (by rw[<-hg1];simp);have h7:=hz y (by rw[<-hg1];simp);have:=hdl y.g.n;have:=hll y.g.var;split<;>simp only[xaa,xab,xak]<;>omega)|(have h8:=hpl y (by rw[<-hg1];simp);have h7:=hz y (by rw[<-hg1];simp);have:=hdl y.g.n;have:=hll y.g.var;simp only[xaa,xab,xak];split<;>simp only[xab,xak]<;>omega)) ?_;refine evs [7,30,31] [] (si [0] [_] sl84 tz9 ?_);refine ap sl84 zz9 Z Z Z om (by first|(have h9:=xam List.length hg1;simp at h9;simp;omega)|(have h8:=hpl y (by rw[<-hg1];simp);have h7:=hz y (by rw[<-hg1];simp);have:=hdl y.g.n;have:=hll y.g.var;split<;>simp only[xaa,xab,xak]<;>omega)|(have h8:=hpl y (by rw[<-hg1];simp);have h7:=hz y (by rw[<-hg1];simp);have:=hdl y.g.n;have:=hll y.g.var;simp only[xaa,xab,xak];split<;>simp only[xab,xak]<;>omega)) ?_;refine asg ?_;apply tv;refine ar (xaj ((pre++[y],rest)) ⟨(by have hz:=hg1;rw[<-hz];simp),oe,sx ⟨⟨_,Z,xaL ?_⟩,⟨⟨_,Z,LeA.glg ?_⟩,O⟩⟩ ⟨zai ?_,O⟩⟩);iterate 3 focus (first|rfl|(simp;done)|omega|(simp only[xag,xaf,List.map_nil];rw[(hg y (by rw[<-hg1];simp)).1 oc];done)|(simp only[xag,xaf,List.map_nil];rw[(hg y (by rw[<-hg1];simp)).2 oc];done)|(simp;omega))
 refine si [0] [_] sl84 tz9 ?_;refine ap sl84 zz9 Z Z Z om (by first|(have h9:=xam List.length hg1;simp at h9;simp;omega)|(have h8:=hpl y (by rw[<-hg1];simp);have h7:=hz y (by rw[<-hg1];simp);have:=hdl y.g.n;have:=hll y.g.var;split<;>simp only[xaa,xab,xak]<;>omega)|(have h8:=hpl y (by rw[<-hg1];simp);have h7:=hz y (by rw[<-hg1];simp);have:=hdl y.g.n;have:=hll y.g.var;simp only[xaa,xab,xak];split<;>simp only[xab,xak]<;>omega)) ?_;refine asg ?_;apply tv;refine ar (xaj ((pre++[y],rest)) ⟨(by have hz:=hg1;rw[<-hz];simp),oe,sx ⟨⟨_,Z,xaL ?_⟩,⟨⟨_,Z,LeA.glg ?_⟩,O⟩⟩ ⟨zai ?_,O⟩⟩);iterate 3 focus (first|rfl|(simp;done)|omega|(simp only[xag,xaf,List.map_nil];rw[(hg y (by rw[<-hg1];simp)).1 oc];done)|(simp only[xag,xaf,List.map_nil];rw[(hg y (by rw[<-hg1];simp)).2 oc];done)|(simp;omega))
 have hrest:rest=[]:=by
  rcases rest with _|⟨a,b⟩
  ·rfl
  ·exfalso;have hz:=xam List.length (hg1);simp only[xaa,xab,xac] at hz;omega
 subst hrest;have h9:pre=l:=(by simpa using hg1);subst h9;refine evc [7,30,31] [] (Walk.call (cr:=[]) zkJ (zdH (l:=pre.map (za2 w ⟨a,k⟩)) (sep:=[47]) (by rw[xac];omega) oc) Z .none Z Z (.cons (.gl _ _) (.cons (.refl _) .nil)) O Z Z Z ?_);refine evs [7,30,31] [] (rq ?_);rotate_left;all_goals (rfl)
theorem zjI {w:List Data}{funs:List Ft}{vars:List Vt} (hw:WT w) (hb:TB w) (haz:AZ w) (hf9:funs.length<=9) (hvl:vars.length<=1000000000000) (hvi:VarIn vars) (hfa:∀f∈funs,TyOk w.length f.arg){n:Nat}
  (ih:∀ {a k:Int}{e:Ex},zaS w funs vars n ⟨a,k⟩ e=true->TyOk w.length ⟨a,k⟩->e.ok->e.size<=10000000->FnD Tryz.prog 78 [.agg [.d (zae w),.d (za6 funs),.d (zaU vars)],.agg [.d (.i a),.d (.i k)],.agg [.d (.i e.op),.d (.i e.n),.d (.i e.ctor),.d (zay e.kids)]] [] (.d (.str (zav w funs n ⟨a,k⟩ e))) [])
  {a k:Int}{e:Ex} (h:zaS w funs vars (n+1) ⟨a,k⟩ e=true) (ht:TyOk w.length ⟨a,k⟩) (hok:e.ok) (hsz:e.size<=10000000):
  FnD Tryz.prog 78 [.agg [.d (zae w),.d (za6 funs),.d (zaU vars)],.agg [.d (.i a),.d (.i k)],.agg [.d (.i e.op),.d (.i e.n),.d (.i e.ctor),.d (zay e.kids)]] [] (.d (.str (zav w funs (n+1) ⟨a,k⟩ e))) []:=by
 obtain⟨o,o1,o3,o4,o5,hl,hkf⟩:=zjG h;have hin:=zfj hw haz hfa ht (e:=e);have o2:=zns h hvi;rw[xaG] at hsz;rw[xaF] at hok;have hkid:∀i,i<e.kids.length->FnD Tryz.prog 78 [.agg [.d (zae w),.d (za6 funs),.d (zaU vars)],.agg [.d (.i (nth (zak w funs ⟨a,k⟩ e) i).data),.d (.i (nth (zak w funs ⟨a,k⟩ e) i).index)],.agg [.d (.i (nth e.kids i).op),.d (.i (nth e.kids i).n),.d (.i (nth e.kids i).ctor),.d (zay (nth e.kids i).kids)]] [] (.d (.str (zav w funs n (nth (zak w funs ⟨a,k⟩ e) i) (nth e.kids i)))) []:=fun i hi=>
  ih (a:=(nth (zak w funs ⟨a,k⟩ e) i).data) (k:=(nth (zak w funs ⟨a,k⟩ e) i).index) (hkf i hi) (hin _ (zad oc)) (xaH hok.2 _ (zad hi)) (by have:=zfE hi;omega)
 have hlen:∀i,i<e.kids.length->(zav w funs n (nth (zak w funs ⟨a,k⟩ e) i) (nth e.kids i)).length<=100000000:=fun i hi=>by
  have:=zds hw hb haz hfa n (hkf i hi) (hin _ (zad oc));have h2:=zfE hi;omega
 have hkt:=zgH hw (funs:=funs) (vars:=vars) oc hvl (t:=⟨a,k⟩) ht.1 (e:=e);have q3:=fun(q:e.op=3)=>et3 (n:=n) (funs:=funs) q (o3 q).1 (o3 q).2 hl;have q4:=fun(q:e.op=4)=>et4 (n:=n) (funs:=funs) q (zfJ ht (o4 q)) hl;have q5:=fun(q:e.op=5)=>et5 (n:=n) q (o5 q) hl;have k3:e.kids.length<=3:=by
  rcases o with q|q|q|q|q
  ·have:zak w funs ⟨a,k⟩ e=[]:=by unfold zak;rw[if_neg oc,if_neg oc,if_neg oc]
   rw[<-hl,this];simp
  ·have:zak w funs ⟨a,k⟩ e=[]:=by unfold zak;rw[if_neg oc,if_neg oc,if_neg oc]
   rw[<-hl,this];simp
  ·rw[<-hl,ty_3 q (o3 q).1 (o3 q).2];exact(zcT hw hb ht.1 (o3 q).2).2
  ·rw[<-hl,ty_4 q];simp
  ·rw[<-hl,ty_5 q (o5 q)];simp
 have hc3:e.op=3->∃d:Nat,a=(d:Int)/\d<w.length/\∃j:Nat,e.ctor=(j:Int)/\j<(nth w d).ctors.length:=fun q=>by
  obtain⟨d,e,hd,j,hj0,hj⟩:=za1 ht.1 (o3 q).2;exact⟨d,e,hd,j,hj0,hj⟩
 have hn3:e.op=3->(zbB w ⟨a,k⟩ e.ctor).length<=5:=fun q=>(zcT hw hb ht.1 (o3 q).2).1;change ∀i,i<e.kids.length->_ at hlen
 generalize hts:zak w funs ⟨a,k⟩ e=ts at *;have hkl:=fun(i:Nat) (hi:i<=e.kids.length)=>zlb hlen hi;have hlv:=fun(i:Nat) (hi:i<=e.kids.length)=>zld (hkl i hi);have hdl:=za5 e.n;have hll:=zbL e.n;clear ih hts hin hkf;by_cases h3:e.op=3
 ·obtain⟨d,rfl,hd,j,hj0,hj⟩:=hc3 h3;have hnm:zbB w ⟨(d:Int),k⟩ e.ctor=(nth (nth w d).ctors j).name:=by unfold zbB;rw[hj0];rfl
  have hfin:=q3 h3;have hn:=hn3 h3;rw[hnm] at hfin hn;rw[hfin];clear q3 q4 q5 hc3 hn3;refine bd Tryz.f78 79 [9,66] [] fun _ _ _ _ hk=>?_;refine bx 3003 ?_;refine bx 3004 ?_;refine bx 3005 ?_;refine evs [9,66] [] (wc zii hkt Z Z ?_);refine evs [9,66] [] (xa7 1 1 .none Z Z ?_);apply tv;refine xaz (ι:=Nat) hk (fun i=>[(22,.d (.i (i:Int))),(9,.gl 1 ((kTn (zav w funs n) ts e.kids i).map fun s:Str=>[D.str s]))]) [10,11,23,24,25,26,27,28,29,30,31,32,33,34,35,36,37] (fun i=>[(1,some (.tok (((kTn (zav w funs n) ts e.kids i).map fun s:Str=>[D.str s])).length 1))]) (fun i=>i<=e.kids.length) (fun i=>e.kids.length-i) 0 oc ⟨⟨_,Z,xaL ?_⟩,⟨⟨_,Z,LeA.glg ?_⟩,O⟩⟩ ⟨zai ?_,O⟩ (fun x=>rfl) (fun i hg1=>?_);iterate 3 focus (first|rfl|omega|(rw[zcS,xag];all_goals rfl)|(simp[zaT];done)|(simp;omega))
  refine evc [9,66] [] ?_;apply sq<;>intro h1 h1p h1s<;>(try simp only[Q,xal,xaE,xac] at h1p);refine ixq sl39 Z Z Z (zbN oc) Z ?_;refine evs [9,66] [] (ab 3011 tz41 ?_);refine evs [9,66] [] (so ty41 ?_);apply tv;refine ixq zau Z Z Z (zaf oc) Z ?_;refine evd [9,66] [] (wc zl0 (hkid i oc) Z Z ?_);refine si [0] [_] sl84 tz9 ?_;refine ap sl84 zz9 Z Z Z om (by first|(simp[kTn];omega)|(have h9:=hlv i oc;rw[zaT] at h9;have:i*(100000000+1)<=3*(100000000+1):=xav _ oc;(try simp only[xaa]);omega)) ?_;refine asg ?_;refine dr (ar (xaj (i+1) ⟨oc,oc,sx ⟨⟨_,Z,xaL ?_⟩,⟨⟨_,Z,LeA.glg ?_⟩,O⟩⟩ ⟨zai ?_,O⟩⟩));iterate 3 focus (first|rfl|omega|(rw[zcS,xag];all_goals rfl)|(simp[zaT];done)|(simp;omega))
  apply sq<;>intro h2 h2p h2s<;>(try simp only[Q,xal,xaE,xac] at h2p);exfalso;omega;apply sq<;>intro h3 h3p h3s<;>(try simp only[Q,xal,xaE,xac] at h3p);exfalso;omega;apply sq<;>intro h4 h4p h4s<;>(try simp only[Q,xal,xaE,xac] at h4p);refine ixq sl23 Z Z Z (zaf hd) Z (evd [9,66] [] (ixq (i:=j) zbr Z Z hj0 (zaf hj) Z (evd [9,66] [] (Walk.call (cr:=[]) zij (zc6 (l:=kTn (zav w funs n) ts e.kids i) (by rw[zaT];omega) (fun x hx=>by have:=hkl i oc x hx;omega)) Z .none Z Z (.cons (.gl _ _) .nil) O Z Z Z ?_))));refine xbd .none Z Z Z (by first|(simp[kTn];omega)|(have h9:=hlv i oc;rw[zaT] at h9;have:i*(100000000+1)<=3*(100000000+1):=xav _ oc;(try simp only[xaa]);omega)) ?_;refine evd [9,66] [] (dr (rq ?_));rotate_left;exfalso;omega;all_goals (have e1:i=e.kids.length:=oc;subst e1;rfl)
 ·have f1:=te1 (w:=w) (funs:=funs) (n:=n) (t:=⟨a,k⟩) (e:=e);have f2:=te2 (w:=w) (funs:=funs) (n:=n) (t:=⟨a,k⟩) (e:=e);clear q3 hc3 hn3;refine bd Tryz.f78 79 [9,71,75,78] [] fun _ _ _ _ hk=>?_;refine bx 3003 ?_;refine bx 3004 ?_;refine bx 3005 ?_;refine evs [9,71,75,78] [] (wc zii hkt Z Z ?_);refine evs [9,71,75,78] [] (xa7 1 1 .none Z Z ?_);apply tv;refine xaz (ι:=Nat) hk (fun i=>[(22,.d (.i (i:Int))),(9,.gl 1 ((kTn (zav w funs n) ts e.kids i).map fun s:Str=>[D.str s]))]) [10,11,23,24,25,26,27,28,29,30,31,32,33,34,35,36,37] (fun i=>[(1,some (.tok (((kTn (zav w funs n) ts e.kids i).map fun s:Str=>[D.str s])).length 1))]) (fun i=>i<=e.kids.length) (fun i=>e.kids.length-i) 0 oc ⟨⟨_,Z,xaL ?_⟩,⟨⟨_,Z,LeA.glg ?_⟩,O⟩⟩ ⟨zai ?_,O⟩ (fun x=>rfl) (fun i hg1=>?_);iterate 3 focus (first|rfl|omega|(rw[zcS,xag];all_goals rfl)|(simp[zaT];done)|(simp;omega))
  refine evc [9,71,75,78] [] ?_;apply sq<;>intro h1 h1p h1s<;>(try simp only[Q,xal,xaE,xac] at h1p);refine ixq sl39 Z Z Z (zbN oc) Z ?_;refine evs [9,71,75,78] [] (ab 3011 tz41 ?_);refine evs [9,71,75,78] [] (so ty41 ?_);apply tv;refine ixq zau Z Z Z (zaf oc) Z ?_;refine evd [9,71,75,78] [] (wc zl0 (hkid i oc) Z Z ?_);refine si [0] [_] sl84 tz9 ?_;refine ap sl84 zz9 Z Z Z om (by first|(simp[kTn];omega)|(have h9:=hlv i oc;rw[zaT] at h9;have:i*(100000000+1)<=3*(100000000+1):=xav _ oc;(try simp only[xaa,xab,xak]);omega)) ?_;refine asg ?_;refine dr (ar (xaj (i+1) ⟨oc,oc,sx ⟨⟨_,Z,xaL ?_⟩,⟨⟨_,Z,LeA.glg ?_⟩,O⟩⟩ ⟨zai ?_,O⟩⟩));iterate 3 focus (first|rfl|omega|(rw[zcS,xag];all_goals rfl)|(simp[zaT];done)|(simp;omega))
  apply sq<;>intro h2 h2p h2s<;>(try simp only[Q,xal,xaE,xac] at h2p);refine wc zea (zbc (n:=e.n) (o1 oc).1 (o1 oc).2) Z Z ?_;refine evs [9,71,75,78] [] (rq ?_);rotate_left;apply sq<;>intro h3 h3p h3s<;>(try simp only[Q,xal,xaE,xac] at h3p);refine wc zgt (zcs (n:=e.n) (o2 oc).1 (o2 oc).2) Z Z ?_;refine evs [9,71,75,78] [] (rq ?_);rotate_left;apply sq<;>intro h4 h4p h4s<;>(try simp only[Q,xal,xaE,xac] at h4p);exfalso;omega;apply sq<;>intro h5 h5p h5s<;>(try simp only[Q,xal,xaE,xac] at h5p);refine Walk.call (cr:=[]) zij (zc6 (l:=kTn (zav w funs n) ts e.kids i) (by rw[zaT];omega) (fun x hx=>by have:=hkl i oc x hx;omega)) Z .none Z Z (.cons (.gl _ _) .nil) O Z Z Z ?_;refine xbd .none Z Z Z (by first|(simp[kTn];omega)|(have h9:=hlv i oc;rw[zaT] at h9;have:i*(100000000+1)<=3*(100000000+1):=xav _ oc;(try simp only[xaa,xab,xak]);omega)) ?_;refine evs [9,71,75,78] [] (rq ?_);rotate_left;refine wc zea (zbc (n:=e.n) (o5 oc).1 (by have:=(o5 oc).2.1;omega)) Z Z ?_;refine xbd .none Z Z Z (by first|(simp[kTn];omega)|(have h9:=hlv i oc;rw[zaT] at h9;have:i*(100000000+1)<=3*(100000000+1):=xav _ oc;(try simp only[xaa,xab,xak]);omega)) ?_;refine evs [9,71,75,78] [] (Walk.call (cr:=[]) zij (zc6 (l:=kTn (zav w funs n) ts e.kids i) (by rw[zaT];omega) (fun x hx=>by have:=hkl i oc x hx;omega)) Z .none Z Z (.cons (.gl _ _) .nil) O Z Z Z ?_);refine xbd .none Z Z Z (by first|(simp[kTn];omega)|(have h9:=hlv i oc;rw[zaT] at h9;have:i*(100000000+1)<=3*(100000000+1):=xav _ oc;(try simp only[xaa,xab,xak]);omega)) ?_;refine evs [9,71,75,78] [] (rq ?_);rotate_left;all_goals (have e1:i=e.kids.length:=oc;subst e1;first|(rw[f1 oc];done)|(rw[f2 oc];done)|(rw[q4 oc];all_goals rfl)|(rw[q5 oc];all_goals rfl))
theorem zel {w:List Data}{funs:List Ft}{vars:List Vt} (hw:WT w) (hb:TB w) (haz:AZ w) (hf9:funs.length<=9) (hvl:vars.length<=1000000000000) (hvi:VarIn vars) (hfa:∀f∈funs,TyOk w.length f.arg):∀(n:Nat){a k:Int}{e:Ex},zaS w funs vars n ⟨a,k⟩ e=true->TyOk w.length ⟨a,k⟩->e.ok->e.size<=10000000->
  FnD Tryz.prog 78 [.agg [.d (zae w),.d (za6 funs),.d (zaU vars)],.agg [.d (.i a),.d (.i k)],.agg [.d (.i e.op),.d (.i e.n),.d (.i e.ctor),.d (zay e.kids)]] [] (.d (.str (zav w funs n ⟨a,k⟩ e))) []
 |0,a,k,e,h,_,_,_=>by simp[zaS] at h
 |n+1,a,k,e,h,ht,hok,hsz=>zjI hw hb haz hf9 hvl hvi hfa (fun {a k e} q1 q2 q3 q4=>zel hw hb haz hf9 hvl hvi hfa n q1 q2 q3 q4) h ht hok hsz
theorem zm1 {w:List Data}{t:Ty}{p:Pat} (h:isP w t p=true):p.size<=60:=by
 unfold isP at h;simp only[xad,xah] at h;omega
theorem zjq {w:List Data}{t:Ty} (c:Cl):zcE w t true [c]=za2 w t c:=by
 rw[zkU];rfl
theorem zhU {w:List Data} (hs:WSmall w){l:List Fu} (hl:FusOk l) (hv:zbu w l=true):
  FnD Tryz.prog 55 [.d (zae w),.d (zb8 l)] [] (.d (.str (funT w l l.length))) []:=by
 obtain⟨wv,hfo,hfu⟩:=zk6 hv;have hw:=zd0 hs wv;have hb:=zlu wv;have haz:=zf9 wv;have hll:=hl.1;have hl4:l.length<=4:=by have:=hfo;unfold zbx at this;rw[xad,xah] at this;have h9:=this.1;rw[xac] at h9;omega
 have hft:=zeU (l:=l) hl.1;have hfa:∀u∈l.map Fu.ty,TyOk w.length u.arg:=fun u hu=>zbd (zec hfo u hu).1;have hml:(l.map Fu.ty).length<=9:=by rw[xac];omega
 have hty:=fun(f:Fu) (h:f∈l)=>zec hfo f.ty (List.mem_map.2 ⟨f,h,rfl⟩);have hta:=fun(f:Fu) (h:f∈l)=>zeW hw hb (a:=f.ty.arg.data) (k:=f.ty.arg.index) (zbU (hty f h).1).1 (zbU (hty f h).1).2.1 (by have:=(zbU (hty f h).1).2.2;omega);have htr:=fun(f:Fu) (h:f∈l)=>zeW hw hb (a:=f.ty.res.data) (k:=f.ty.res.index) (zbU (hty f h).2).1 (zbU (hty f h).2).2.1 (by have:=(zbU (hty f h).2).2.2;omega);have hla:=fun(f:Fu) (h:f∈l)=>zeC hb (t:=f.ty.arg) (zbU (hty f h).1).1;have hlr:=fun(f:Fu) (h:f∈l)=>zeC hb (t:=f.ty.res) (zbU (hty f h).2).1;have hinv:=fun(f:Fu) (h:f∈l)=>zk4 (hfu f h);have hlens:=fun(f:Fu) (h:f∈l)=>(hinv f h).2.1;have hcf:=fun(f:Fu) (h:f∈l)=>ze3 (hinv f h).1;have h8:=fun(f:Fu) (h:f∈l)=>(hcf f h).2.1;have hok:=fun(f:Fu) (h:f∈l) (i:Nat) (hi:i<f.cls.length)=>(hl.2 f h).1.2 _ (zad hi);have hsz:=fun(f:Fu) (h:f∈l) (i:Nat) (hi:i<f.cls.length)=>zm1 (zbS ((hcf f h).2.2 i hi)).1;have hct:=fun(f:Fu) (h:f∈l) (i:Nat) (hi:i<f.cls.length)=>zgm hw hb (a:=f.ty.arg.data) (k:=f.ty.arg.index) (zbd (hty f h).1).1 (l:=[nth f.cls i]) oe (fun c hc=>by rw[List.mem_singleton.1 hc];exact(hcf f h).2.2 i hi) (fun c hc=>by rw[List.mem_singleton.1 hc];exact hok f h i hi) (fun c hc=>by rw[List.mem_singleton.1 hc];have:=hsz f h i hi;omega);have hcl:=fun(f:Fu) (h:f∈l) (i:Nat) (hi:i<f.cls.length)=>zg8 hw hb (a:=f.ty.arg.data) (k:=f.ty.arg.index) (zbd (hty f h).1).1 ((hcf f h).2.2 i hi) (by have:=hsz f h i hi;omega);have hbd:=fun(f:Fu) (h:f∈l) (i:Nat) (hi:i<f.cls.length)=>zgG hw (fd:=za6 (l.map Fu.ty)) (t:=f.ty.arg) (c:=nth f.cls i) (zbd (hty f h).1).1 (hok f h i hi);have hvi:∀(f:Fu) (h:f∈l) (i:Nat) (hi:i<f.cls.length),VarIn (zbo w f.ty.arg (nth f.cls i).pat):=fun f h i hi v hv=>by
  have q:=zbS ((hcf f h).2.2 i hi);rw[<-q.2.2] at hv;have:=zjQ 10 q.2.1 v hv;omega
 have htx:=fun(f:Fu) (h:f∈l) (i:Nat) (hi:i<f.bodies.length)=>zel hw hb haz hml (vars:=zbo w f.ty.arg (nth f.cls i).pat) (by have:=zeE w f.ty.arg (nth f.cls i).pat;omega) (hvi f h i (by have:=hlens f h;omega)) hfa 10 (a:=f.ty.res.data) (k:=f.ty.res.index) (ziF ((hinv f h).2.2 i hi)) (zbd (hty f h).2) (xaH (hl.2 f h).2.2 _ (zad hi)) (by have:=zgK ((hinv f h).2.2 i hi);omega);have htl:=fun(f:Fu) (h:f∈l) (i:Nat) (hi:i<f.bodies.length)=>zds hw hb haz hfa 10 (ziF ((hinv f h).2.2 i hi)) (zbd (hty f h).2);have hel:=fun(f:Fu) (h:f∈l) (i:Nat) (hi:i<f.bodies.length)=>zgK ((hinv f h).2.2 i hi);have hbl:∀(f:Fu) (h:f∈l) (n:Nat),n<=f.cls.length->(bodT w (l.map Fu.ty) f n).length<=100+100001000*n:=fun f h n=>by
  induction n with
  |zero=>intro _;have:=hla f h;have:=hlr f h;simp only[bodT,xaa,xab,xak];omega
  |succ n ih=>
   intro hn;have h1:=ih oc;have h2:=hcl f h n oc;have h3:=htl f h n (by have:=hlens f h;omega);have h4:=hel f h n (by have:=hlens f h;omega);have h2':(za2 w f.ty.arg (nth f.cls n)).length<=100000010:=h2;simp only[bodT,xaa,xab,xak];omega
 have hb2:∀f∈l,(bodT w (l.map Fu.ty) f f.cls.length).length<=1000000000:=fun f h=>by
  have:=hbl f h f.cls.length (Nat.le_refl _);have:=h8 f h;have:100001000*f.cls.length<=100001000*8:=Nat.mul_le_mul_left _ oc;omega
 have hfin:=zk5 (w:=w) l l.length (Nat.le_refl _);rw[List.take_length] at hfin;have hj:=ze8 (sep:=[59]) (l:=l.map fun f=>bodT w (l.map Fu.ty) f f.cls.length) (m:=1000000000) (fun x hx=>by obtain⟨f,hf,rfl⟩:=List.mem_map.1 hx;exact hb2 f hf);have hj2:(zbm [59] (l.map fun f=>bodT w (l.map Fu.ty) f f.cls.length)).length<=4*1000000001:=Nat.le_trans hj (by rw[xac];exact xav _ hl4);have hjn:=zdH (l:=l.map fun f=>bodT w (l.map Fu.ty) f f.cls.length) (sep:=[59]) (by rw[xac];omega) oc;have hb0:∀f:Fu,bodT w (l.map Fu.ty) f 0=zbF w f.ty.arg++[62]++zbF w f.ty.res:=fun f=>rfl;have hb1:∀(f:Fu) (n:Nat),bodT w (l.map Fu.ty) f (n+1)=bodT w (l.map Fu.ty) f n++(([47]++zcE w f.ty.arg true [nth f.cls n])++[32]++zav w (l.map Fu.ty) 10 f.ty.res (nth f.bodies n)):=fun f n=>by rw[zjq];simp only[bodT,xar]
 have hla':∀f∈l,(zbF w ⟨f.ty.arg.data,f.ty.arg.index⟩).length<=2:=hla;have hlr':∀f∈l,(zbF w ⟨f.ty.res.data,f.ty.res.index⟩).length<=2:=hlr;have hcl':∀f∈l,∀i,i<f.cls.length->(zcE w ⟨f.ty.arg.data,f.ty.arg.index⟩ true [nth f.cls i]).length<=100000010:=fun f h i hi=>by
  rw[zjq];exact hcl f h i hi
 have htl':∀f∈l,∀i,i<f.bodies.length->(zav w (l.map Fu.ty) 10 ⟨f.ty.res.data,f.ty.res.index⟩ (nth f.bodies i)).length<=600:=fun f h i hi=>by
  have h3:=htl f h i hi;have h4:=hel f h i hi;have h5:(zav w (l.map Fu.ty) 10 ⟨f.ty.res.data,f.ty.res.index⟩ (nth f.bodies i)).length<=10*(nth f.bodies i).size:=h3;omega
 have hc1:∀(f:Fu) (n:Nat),zcE w f.ty.arg true [nth f.cls n]=za2 w f.ty.arg (nth f.cls n):=fun f n=>zjq _;rw[hfin];generalize hF:l.map Fu.ty=funs at *;clear hfin hj;refine bd Tryz.f55 76 [6,25,31,48,49,66,67] [14] fun _ _ _ _ hk=>?_;refine wc znK hft Z Z ?_;refine evs [6,25,31,48,49,66,67] [] (xa7 1 1 .none Z Z ?_);apply tv;refine xaz (ι:=List (Fu)×List (Fu)) hk (fun x=>[(16,.d (.i (x.1.length:Int))),(6,.gl 1 ((x.1.map fun f=>bodT w funs f f.cls.length).map fun s:Str=>[D.str s]))]) [8,9,10,11,17,18,19,20,21,22,23,24,25,26,27,28,29,30,31,32,33,34,35,36,37,38,39,40,41,42,43,44,45,46,47,48,49,50,51,52,53,54,55,56,57,58,59,60,61,62,63,64,65,66,67,68,69,70,71,72,73] (fun x=>[(1,some (.tok (((x.1.map fun f=>bodT w funs f f.cls.length).map fun s:Str=>[D.str s])).length 1))]) (fun x=>x.1++x.2=l) (fun x=>x.2.length) ([],l) oe ⟨⟨_,Z,xaL ?_⟩,⟨⟨_,Z,LeA.glg ?_⟩,O⟩⟩ ⟨zai ?_,O⟩ (fun x=>rfl) (fun x hg1=>?_);iterate 3 focus (first|rfl|(simp;done)|omega|(simp only[xag,xaf,List.map_nil];rw[show y.cls.length=i from by omega];done)|(simp;omega))
 obtain⟨pre,rest⟩:=x;dsimp only at hg1 ⊢;refine evc [6,25,31,48,49,66,67] [14] ?_;apply sq<;>intro h1 h1p h1s<;>(try simp only[Q,xal,xac] at h1p);rcases rest with _|⟨y,rest⟩
 ·exfalso;simp_all
 refine ixq sl24 Z Z Z (zaE hg1) Z (evs [6,25,31,48,49,66,67] [] (ab 3008 tz93 ?_));refine so ty93 ?_;apply tv;refine wc zmq (hta y (by rw[<-hg1];simp)) Z Z ?_;refine xbd .none Z Z Z (by first|(have h9:=xam List.length hg1;simp at h9;simp;omega)|(have hy:y∈l:=(by rw[<-hg1];simp);have:=hla' y hy;have:=hlr' y hy;(try simp only[xaa,xab,xak]);omega)|(have hy:y∈l:=(by rw[<-hg1];simp);have q1:=hbl y hy i oc;have q2:=hcl' y hy i oc;have q3:=htl' y hy i (by have:=hlens y hy;omega);have q5:=h8 y hy;have:100001000*i<=100001000*8:=Nat.mul_le_mul_left _ oc;(try simp only[xaa,xab,xak]);omega)) ?_;refine evd [6,25,31,48,49,66,67] [] (wc zmq (htr y (by rw[<-hg1];simp)) Z Z ?_);refine xbd .none Z Z Z (by first|(have h9:=xam List.length hg1;simp at h9;simp;omega)|(have hy:y∈l:=(by rw[<-hg1];simp);have:=hla' y hy;have:=hlr' y hy;(try simp only[xaa,xab,xak]);omega)|(have hy:y∈l:=(by rw[<-hg1];simp);have q1:=hbl y hy i oc;have q2:=hcl' y hy i oc;have q3:=htl' y hy i (by have:=hlens y hy;omega);have q5:=h8 y hy;have:100001000*i<=100001000*8:=Nat.mul_le_mul_left _ oc;(try simp only[xaa,xab,xak]);omega)) ?_;refine evd [6,25,31,48,49,66,67] [] (dr (xaz (ι:=Nat) hk (fun i=>[(35,.d (.i (i:Int))),(9,.d (.str (bodT w funs y i)))]) [10,11,36,37,38,39,40,41,42,43,44,45,46,47,48,49,50,51,52,53,54,55,56,57,58,59,60,61,62,63,64,65,66,67,68] (fun i=>[]) (fun i=>i<=y.cls.length) (fun i=>y.cls.length-i) 0 oc ⟨⟨_,Z,xaL ?_⟩,⟨⟨_,Z,xaM ?_⟩,O⟩⟩ O (fun x=>rfl) (fun i hg2=>?_)));iterate 2 focus (first|rfl|omega|(rw[hb1];done)|(rw[hb1];all_goals rfl)|(rw[hb0];all_goals rfl))
 refine evc [6,25,31,48,49,66,67] [14] ?_;apply sq<;>intro h2 h2p h2s<;>(try simp only[Q,xal,xac] at h2p);refine ixq sl74 Z Z Z (zaf oc) Z ?_;refine evs [6,25,31,48,49,66,67] [] (ab 3011 zho ?_);refine evs [6,25,31,48,49,66,67] [] (so zjj ?_);apply tv;refine si [0] [_] sl74 zho ?_;refine wc zop (hct y (by rw[<-hg1];simp) i oc) Z Z ?_;refine xbd .none Z Z Z (by first|(have h9:=xam List.length hg1;simp at h9;simp;omega)|(have hy:y∈l:=(by rw[<-hg1];simp);have:=hla' y hy;have:=hlr' y hy;(try simp only[xaa,xab,xak]);omega)|(have hy:y∈l:=(by rw[<-hg1];simp);have q1:=hbl y hy i oc;have q2:=hcl' y hy i oc;have q3:=htl' y hy i (by have:=hlens y hy;omega);have q5:=h8 y hy;have:100001000*i<=100001000*8:=Nat.mul_le_mul_left _ oc;(try simp only[xaa,xab,xak]);omega)) ?_;refine xbd .none Z Z Z (by first|(have h9:=xam List.length hg1;simp at h9;simp;omega)|(have hy:y∈l:=(by rw[<-hg1];simp);have:=hla' y hy;have:=hlr' y hy;(try simp only[xaa,xab,xak]);omega)|(have hy:y∈l:=(by rw[<-hg1];simp);have q1:=hbl y hy i oc;have q2:=hcl' y hy i oc;have q3:=htl' y hy i (by have:=hlens y hy;omega);have q5:=h8 y hy;have:100001000*i<=100001000*8:=Nat.mul_le_mul_left _ oc;(try simp only[xaa,xab,xak]);omega)) ?_;refine evd [6,25,31,48,49,66,67] [] (wc znL (hbd y (by rw[<-hg1];simp) i oc) Z Z ?_);refine evd [6,25,31,48,49,66,67] [] (ixq sl39 Z Z Z (zbN (by have:=hlens y (by rw[<-hg1];simp);omega)) Z ?_);refine evd [6,25,31,48,49,66,67] [] (wc zl0 (htx y (by rw[<-hg1];simp) i (by have:=hlens y (by rw[<-hg1];simp);omega)) Z Z ?_);refine xbd .none Z Z Z (by first|(have h9:=xam List.length hg1;simp at h9;simp;omega)|(have hy:y∈l:=(by rw[<-hg1];simp);have:=hla' y hy;have:=hlr' y hy;(try simp only[xaa,xab,xak]);omega)|(have hy:y∈l:=(by rw[<-hg1];simp);have q1:=hbl y hy i oc;have q2:=hcl' y hy i oc;have q3:=htl' y hy i (by have:=hlens y hy;omega);have q5:=h8 y hy;have:100001000*i<=100001000*8:=Nat.mul_le_mul_left _ oc;(try simp only[xaa,xab,xak]);omega)) ?_;refine xbd .none Z Z Z (by first|(have h9:=xam List.length hg1;simp at h9;simp;omega)|(have hy:y∈l:=(by rw[<-hg1];simp);have:=hla' y hy;have:=hlr' y hy;(try simp only[xaa,xab,xak]);omega)|(have hy:y∈l:=(by rw[<-hg1];simp);have q1:=hbl y hy i oc;have q2:=hcl' y hy i oc;have q3:=htl' y hy i (by have:=hlens y hy;omega);have q5:=h8 y hy;have:100001000*i<=100001000*8:=Nat.mul_le_mul_left _ oc;(try simp only[xaa,xab,xak]);omega)) ?_;refine evd [6,25,31,48,49,66,67] [] (dr (ar ?_ (by first|omega|(have q5:=h8 y (by rw[<-hg1];simp);constructor<;>omega)|(have hz:=xam List.length hg1;simp at hz;constructor<;>omega))));refine xaj (i+1) ⟨oc,oc,sx ⟨⟨_,Z,xaL ?_⟩,⟨⟨_,Z,xaM ?_⟩,O⟩⟩ O⟩;iterate 2 focus (first|rfl|omega|(rw[hb1];done)|(rw[hb1];all_goals rfl)|(rw[hb0];all_goals rfl))
 refine si [0] [_] sl84 tz9 ?_;refine ap sl84 zz9 Z Z Z om (by first|(have h9:=xam List.length hg1;simp at h9;simp;omega)|(have hy:y∈l:=(by rw[<-hg1];simp);have:=hla' y hy;have:=hlr' y hy;(try simp only[xaa,xab,xak]);omega)|(have hy:y∈l:=(by rw[<-hg1];simp);have q1:=hbl y hy i oc;have q2:=hcl' y hy i oc;have q3:=htl' y hy i (by have:=hlens y hy;omega);have q5:=h8 y hy;have:100001000*i<=100001000*8:=Nat.mul_le_mul_left _ oc;(try simp only[xaa,xab,xak]);omega)) ?_;refine asg ?_;apply tv;refine ar ?_ (by first|omega|(have q5:=h8 y (by rw[<-hg1];simp);constructor<;>omega)|(have hz:=xam List.length hg1;simp at hz;constructor<;>omega));refine xaj ((pre++[y],rest)) ⟨(by have hz:=hg1;rw[<-hz];simp),oe,sx ⟨⟨_,Z,xaL ?_⟩,⟨⟨_,Z,LeA.glg ?_⟩,O⟩⟩ ⟨zai ?_,O⟩⟩;iterate 3 focus (first|rfl|(simp;done)|omega|(simp only[xag,xaf,List.map_nil];rw[show y.cls.length=i from by omega];done)|(simp;omega))
 have hrest:rest=[]:=by
  rcases rest with _|⟨a,b⟩
  ·rfl
  ·exfalso;have hz:=xam List.length (hg1);simp only[xaa,xab,xac] at hz;omega
 subst hrest;have h9:pre=l:=(by simpa using hg1);subst h9;refine evc [6,25,31,48,49,66,67] [] (Walk.call (cr:=[]) zkJ hjn Z .none Z Z (.cons (.gl _ _) (.cons (.refl _) .nil)) O Z Z Z (evs [6,25,31,48,49,66,67] [] (rq ?_)));rotate_left;all_goals (rfl)
theorem zgF {w:List Data} (hs:WSmall w){l:List Fu} (hl:FusOk l):
  FnD Tryz.prog 10 [.d (zae w),.d (zb8 l)] [] (.d (.str (if zbu w l=true then funT w l l.length else []))) []:=by
 have h0:=zhp hs hl;cases hv:zbu w l with
 |false=>
  rw[hv] at h0;rw[if_neg oe];refine bd Tryz.f10 12 [] [] fun _ _ _ _ hk=>?_;refine wc znG h0 Z Z ?_;refine ev ?_;apply sq<;>intro h1 h1p h1s<;>(try simp only[Q] at h1p);focus (refine rq ?_;all_goals (first|rfl|(simp[h1s,h1p];done)|(simp_all;done)|(simp_all;omega)|omega))
  exfalso;simp at *
 |true=>
  rw[hv] at h0;rw[if_pos rfl];refine bd Tryz.f10 12 [] [] fun _ _ _ _ hk=>?_;refine wc znG h0 Z Z ?_;refine ev ?_;apply sq<;>intro h1 h1p h1s<;>(try simp only[Q] at h1p);exfalso;simp at *;refine wc zpK (zhU hs hl hv) Z Z ?_;refine ev ?_;focus (refine rq ?_;all_goals (first|rfl|(simp[h1s,h1p];done)|(simp_all;done)|(simp_all;omega)|omega))
theorem zg5 {w:List Data} (hs:WSmall w){l:List Fu} (hl:FusOk l) (hz:FusSz l):
  FnD Tryz.prog 13 [.d (zae w),.d (zb8 l)] [] (.d (.str (if zbu w l=true then funT w l l.length else []))) []:=by
 have h0:=zhA hs hl hz;cases hv:zbu w l with
 |false=>
  rw[hv] at h0;rw[if_neg oe];refine bd Tryz.f13 12 [] [] fun _ _ _ _ hk=>?_;refine wc znH h0 Z Z ?_;refine ev ?_;apply sq<;>intro h1 h1p h1s<;>(try simp only[Q] at h1p);focus (refine rq ?_;all_goals (first|rfl|(simp[h1s,h1p];done)|(simp_all;done)|(simp_all;omega)|omega))
  exfalso;simp at *
 |true=>
  rw[hv] at h0;rw[if_pos rfl];have hz2:∀f∈l,∀c∈f.cls,c.pat.size<=10000000:=fun f hf c hc=>by
   obtain⟨_,_,hfu⟩:=zk6 hv;obtain⟨i,hi,rfl⟩:=List.getElem_of_mem hc;have h1:=(ze3 (zk4 (hfu f hf)).1).2.2 i hi;have:=zm1 (zbS h1).1;rw[zaB hi] at this;omega
  refine bd Tryz.f13 12 [] [] fun _ _ _ _ hk=>?_;refine wc znH h0 Z Z ?_;refine ev ?_;apply sq<;>intro h1 h1p h1s<;>(try simp only[Q] at h1p);exfalso;simp at *;refine wc zpN (zh9 hs hl hz2 hv) Z Z ?_;refine ev ?_;focus (refine rq ?_;all_goals (first|rfl|(simp[h1s,h1p];done)|(simp_all;done)|(simp_all;omega)|omega))
set_option maxHeartbeats 2000000
theorem zev {w:List Data} (hs:WSmall w){l:List Fu} (hok:FusOk l) (hz:FusSz l):FnD Tryz.prog 7 [.d (zae w),.d (zb8 l)] [] (.d (.bool true)) []:=by
 have z:=zaN (left:=1048576) (ziU w);have hspec:=zg5 hs hok hz;have himp:=zgF hs hok;generalize (if zbu w l=true then funT w l l.length else [])=q at hspec himp;refine bd Tryz.f7 45 [] [] fun _ _ _ _ hk=>?_;refine wc zpF (ziN hs oc oc) Z Z ?_;refine ev ?_;apply sq<;>intro h1 h1p h1s<;>(try simp only[Q] at h1p);refine rq ?_;rotate_left;refine wc zpI (zjD hok oc oc) Z Z ?_;refine ev ?_;apply sq<;>intro h2 h2p h2s<;>(try simp only[Q] at h2p);refine rq ?_;rotate_left;refine wc zlX (zdA hs) Z Z ?_;refine ev (wc zlY (zdS hok) Z Z ?_);refine wc zpE hspec Z Z ?_;refine ev (wc zlX (zdA hs) Z Z ?_);refine ev (wc zlY (zdS hok) Z Z ?_);refine ev (wc zpD himp Z Z ?_);refine ev ?_;apply sq<;>intro h3 h3p h3s<;>(try simp only[Q] at h3p);refine rq ?_;rotate_left;refine wc zlX (zdA hs) Z Z ?_;refine wc zpH (ziI hs) Z Z ?_;refine ev ?_;apply sq<;>intro h4 h4p h4s<;>(try simp only[Q] at h4p);refine rq ?_;rotate_left;refine wc zlY (zdS hok) Z Z ?_;refine wc zpG (zjA hok) Z Z ?_;refine ev ?_;apply sq<;>intro h5 h5p h5s<;>(try simp only[Q] at h5p);refine rq ?_;rotate_left;refine rq ?_;rotate_left;all_goals (first|rfl|(exfalso;simp_all[ziy];done)|(exfalso;simp[ziy] at *;done))
end Go.Proofs.YtmkipahfpaacgaaGreatDoor
namespace Go.Proofs.YtmkipahfpaacgaaGreatDoor
open Go Go.ChangeShapes Go.WideShapes Go.ChangeAt Go.RowKit
set_option linter.unusedSimpArgs false
set_option linter.unusedVariables false
set_option linter.unusedVariables false
def FW (W:World) (b:Nat):Nat:=match W.heap[b]? with
 |some (.cells cs _ _)=>cs.size
 |_=>0
theorem FW_cell {W:World}{b o:Nat}{v:Value} (h:W.cell? ⟨b,o,none⟩=some v):o<FW W b:=by
 unfold World.cell? at h;unfold FW;simp only at h;split at h
 ·rename_i c t fr hb;simp only[hb];simp only[Option.isSome_none,Bool.false_eq_true,if_false] at h;exact(Array.getElem?_eq_some_iff.1 h).1
 ·cases h
theorem FW_top {W:World}{b:Nat} (h:W.heap.size<=b):FW W b=0:=by
 unfold FW;rw[Array.getElem?_eq_none h]
structure RelL (W:World) (xs:List D) (cs:List Value):Prop where
 len:xs.length=cs.length
 rel:∀i (h1:i<xs.length) (h2:i<cs.length),RelD (FW W) W xs[i] cs[i]
theorem RelL.append {W:World}{xs ys:List D}{cs ds:List Value} (h:RelL W xs cs) (k:RelL W ys ds):RelL W (xs++ys) (cs++ds):=by
 refine⟨by simp[h.len,k.len],fun i h1 h2=>?_⟩;by_cases hi:i<xs.length
 ·rw[List.getElem_append_left hi,List.getElem_append_left (by rw[<-h.len];exact hi)];exact h.rel i hi (by rw[<-h.len];exact hi)
 ·have hl:=h.len;rw[List.getElem_append_right oc,List.getElem_append_right oc];have e:i-xs.length=i-cs.length:=by omega
  have h1':i-xs.length<ys.length:=by simp only[xaa] at h1;omega
  have h2':i-cs.length<ds.length:=by simp only[xaa] at h2;omega
  have:=k.rel (i-xs.length) h1' oc;simp only[e] at this ⊢;exact this
def Dec (P:Program) (W:World) (n:Nat) (t:TypeId){α:Type} (f:α->List D) (m:α->Nat) (R:α->Prop):Prop:=
 ∀(H:Type) (enc:TypeId×Value->H) (cs:List Value) (x:DataW H×List MemPlace),DataW.trod enc P W 0 (fun _=>true) true n t cs=some x->
  ∃a,RelL W (f a) cs/\m a+1<=Rows.uptoBulk x.1/\R a
section
variable {P:Program}{W:World}{n:Nat}{t:TypeId}
theorem Dec.zero {α:Type}{f:α->List D}{m:α->Nat}{R:α->Prop}:Dec P W 0 t f m R:=fun H enc cs x h=>by simp[DataW.trod] at h
theorem Dec.map {α β:Type}{f:α->List D}{m:α->Nat}{R:α->Prop}{f':β->List D}{m':β->Nat}{R':β->Prop} (g:α->β) (h:Dec P W n t f m R)
  (h1:∀a,f' (g a)=f a) (h2:∀a,m' (g a)<=m a) (h3:∀a,R a->R' (g a)):Dec P W n t f' m' R':=fun H enc cs x hx=>by
 obtain⟨a,q1,q2,q3⟩:=h H enc cs x hx;exact⟨g a,by rw[h1];exact q1,by have:=h2 a;omega,h3 a q3⟩
theorem RelL.one {x:D}{v:Value} (h:RelD (FW W) W x v):RelL W [x] [v]:=
 ⟨rfl,fun i h1 h2=>by
  have:i=0:=by simp at h1;omega
  subst this;exact h⟩
theorem Dec.int {k:IntKind} (ht:P.underlying t=some (.int k)):Dec P W n t (fun z:Int=>[.int k z]) (fun _=>0) (fun z=>(Lit.int k z).wf=true):=fun H enc cs x h=>by
 obtain⟨z,rfl,rfl,hw⟩:=DataW.trod_int ht h;exact⟨z,.one (.int k z),by simp[Rows.uptoBulk],hw⟩
theorem Dec.bool (ht:P.underlying t=some .bool):Dec P W n t (fun z:Bool=>[.bool z]) (fun _=>0) (fun _=>True):=fun H enc cs x h=>by
 obtain⟨z,rfl,rfl⟩:=DataW.trod_bool ht h;exact⟨z,.one (.bool z),by simp[Rows.uptoBulk],trivial⟩
theorem Dec.str (ht:P.underlying t=some .string):Dec P W n t (fun s:Str=>[.str s]) (fun s=>s.length) (fun _=>True):=fun H enc cs x h=>by
 obtain⟨s,rfl,rfl,hw⟩:=DataW.trod_string ht h;exact⟨s.data.toList,.one (by have:=RelD.str (F:=FW W) (w:=W) s.data.toList;simpa using this),by simp[Rows.uptoBulk],trivial⟩
def sumM {α:Type} (m:α->Nat):List α->Nat
 | []=>0
 |a::r=>m a+1+sumM m r
theorem zdY {α:Type} (m:α->Nat):∀l:List α,l.length<=sumM m l
 | []=>by simp[sumM]
 |a::r=>by have:=zdY m r;simp only[sumM,xab];omega
theorem zdn {α:Type}{m:α->Nat}:∀ {l:List α}{a:α},a∈l->m a+1<=sumM m l
 |b::r,a,h=>by
  simp only[sumM];rcases List.mem_cons.1 h with rfl|h
  ·omega
  ·have:=zdn (m:=m) h;omega
theorem zhD {α β:Type}{Q:Nat->α->β->Prop}:∀(l:List β) (o:Nat),(∀i (h:i<l.length),∃a,Q (o+i) a l[i])->∃zs:List α,zs.length=l.length/\∀i (h:i<l.length) (h':i<zs.length),Q (o+i) zs[i] l[i]
 | [],o,_=>⟨[],rfl,fun i h=>by simp at h⟩
 |b::r,o,h=>by
  obtain⟨a,ha⟩:=h 0 oe;obtain⟨zs,h1,h2⟩:=zhD (Q:=Q) r (o+1) (fun i hi=>by
   have:=h (i+1) oj;rw[show o+1+i=o+(i+1) by omega];simpa using this)
  refine⟨a::zs,by simp[h1],fun i hi hi'=>?_⟩;cases i with
  |zero=>exact ha
  |succ i=>
   have:=h2 i (by simpa using hi) (by simpa using hi');rw[show o+1+i=o+(i+1) by omega] at this;simpa using this
theorem zkI {H α:Type}{m:α->Nat}:∀ {zs:List α}{xs:List (DataW H)},zs.length=xs.length->(∀i (h:i<zs.length) (h':i<xs.length),m zs[i]+1<=Rows.uptoBulk xs[i])->sumM m zs<=Rows.uptoBulkAll xs
 | [],[],_,_=>by simp[sumM,Rows.uptoBulkAll]
 |a::zs,x::xs,hl,h=>by
  have h0:=h 0 oe oe;have ih:=zkI (m:=m) (zs:=zs) (xs:=xs) (by simpa using hl) (fun i h1 h2=>by
   have:=h (i+1) oj oj;simpa using this)
  simp only[sumM,Rows.uptoBulkAll];simp only[List.getElem_cons_zero] at h0;omega
 | [],_::_,hl,_=>by simp at hl
 |_::_,[],hl,_=>by simp at hl
theorem Dec.sl {α:Type}{f:α->List D}{m:α->Nat}{R:α->Prop}{e:TypeId}{k:Nat} (ht:P.underlying t=some (.slice e)) (hc:P.cellsOf e=k+1) (hk:∀a,(f a).length=k+1) (he:Dec P W n e f m R):
  Dec P W (n+1) t (fun l:List α=>[.sl (l.map f)]) (fun l=>sumM m l) (fun l=>∀a∈l,R a):=fun H enc cs x h=>by
 rcases DataW.trod_slice ht h with ⟨rfl,rfl⟩|⟨a,len,cap,elems,rest,n',hn,rfl,rfl,_,hcap,_,hlen,hel,_,_⟩
 ·exact⟨[],.one .nil,by simp[sumM,Rows.uptoBulk],fun a h=>by simp at h⟩
 obtain rfl:n=n':=by omega
 have each:∀i (hi:i<elems.length),∃y,(∃cs,W.cells? 0 (a.add (i*(k+1))) (k+1)=some cs/\RelL W (f y) cs)/\m y+1<=Rows.uptoBulk (elems[i]).1/\R y:=by
  intro i hi;have:=hel i oc;rw[hc,xan hi,Option.bind_eq_some_iff] at this;obtain⟨cs,h1,h2⟩:=this;obtain⟨y,h3,h4,h5⟩:=he H enc cs _ h2;exact⟨y,⟨cs,h1,h3⟩,h4,h5⟩
 obtain⟨zs,hal,has⟩:=zhD (Q:=fun i y (el:DataW H×List MemPlace)=>(∃cs,W.cells? 0 (a.add (i*(k+1))) (k+1)=some cs/\RelL W (f y) cs)/\m y+1<=Rows.uptoBulk el.1/\R y) elems 0 (fun i hi=>by simpa using each i hi);refine⟨zs,.one ?_, ?_,fun y hy=>?_⟩
 ·by_cases h0:zs=[]
  ·subst h0;have hz:len=0:=by simp at hal;omega
   subst hz;obtain⟨b,o,s⟩:=a;cases s with
   |none=>exact .sl [] 0 b o cap (fun _=>undef) oe oe (fun n hn=>by simp at hn) (fun i hi=>by simp at hi)
   |some s=>exact .emp b o s cap
  ·have hpos:0<zs.length:=List.length_pos_iff.2 h0;obtain⟨⟨cs0,hc0,hr0⟩,_⟩:=has 0 oc hpos;have hspot:a.spot=none:=by
    have h1:=(World.cells?_some hc0).2.2 0 oc;have h2:0<cs0.length:=by have:=(World.cells?_some hc0).2.1;omega
    simp only[Nat.add_zero,Nat.zero_mul,Addr.add,if_true,xan h2] at h1;unfold World.cell? at h1;split at h1
    ·cases hs:a.spot with
     |none=>rfl
     |some s=>simp[hs] at h1
    ·cases h1
   obtain⟨b,o,s⟩:=a;simp only at hspot;subst hspot;have hlen':(zs.map f).length=len:=by simp;omega
   have hmulk:∀i j,i<zs.length->j<k+1->i*(k+1)+j<zs.length*(k+1):=fun i j hi hj=>by
    have:(i+1)*(k+1)<=zs.length*(k+1):=xav _ oc;rw[Nat.add_mul,Nat.one_mul] at this;omega
   have cellAt:∀i (hi:i<zs.length) j (hj:j<(f zs[i]).length),∃v,W.cell? ⟨b,o+(i*(k+1)+j),none⟩=some v/\RelD (FW W) W ((f zs[i])[j]) v:=fun i hi j hj=>by
    obtain⟨⟨cs,hc1,hr1⟩,_⟩:=has i oc hi;have hjk:j<k+1:=by have:=hk zs[i];omega
    obtain⟨_,q1,q2⟩:=World.cells?_some hc1;have q3:=q2 j hjk;rw[xan oc] at q3;refine⟨cs[j], ?_,hr1.rel j hj oc⟩;rw[<-q3];congr 1
    simp only[Nat.zero_add,Addr.add];split<;>split<;>simp_all<;>omega
   have hv:((zs.map f).length,cap)=(len,cap):=by rw[hlen']
   have goal:RelD (FW W) W (.sl (zs.map f)) (.slice (some ⟨b,o,none⟩) (zs.map f).length cap):=by
    refine .sl _ (k+1) b o cap (fun q=>(W.cell? ⟨b,o+q,none⟩).getD undef) (fun y hy=>?_) oc (fun q hq=>?_) (fun i hi j hj=>?_)
    ·obtain⟨y',_,rfl⟩:=List.mem_map.1 hy;exact hk y'
    ·have hq':q<zs.length*(k+1):=by simpa using hq
     have hi:q / (k+1)<zs.length:=Nat.div_lt_of_lt_mul (by rw[Nat.mul_comm];exact hq');have hj:q % (k+1)<k+1:=Nat.mod_lt _ oc;obtain⟨v,h1,_⟩:=cellAt _ hi (q % (k+1)) (by rw[hk];exact hj);rw[Nat.div_add_mod'] at h1;exact⟨FW_cell h1,by rw[h1];rfl⟩
    ·have hi':i<zs.length:=by simpa using hi
     simp only[List.getElem_map] at hj ⊢;obtain⟨v,h1,h2⟩:=cellAt i hi' j hj;show RelD (FW W) W _ ((W.cell? ⟨b,o+(i*(k+1)+j),none⟩).getD undef)
     rw[h1];exact h2
   rw[hlen'] at goal;exact goal
 ·have:=zkI (m:=m) (zs:=zs) (xs:=elems.map (·.1)) (by simp[hal]) (fun i h1 h2=>by
   have:=(has i (by simpa using h2) h1).2.1;simpa using this)
  simp only[Rows.uptoBulk];omega
 ·obtain⟨i,hi,rfl⟩:=List.getElem_of_mem hy;exact(has i oc hi).2.2
def DecF (P:Program) (W:World) (n o K:Nat) (fs:List Field){α:Type} (f:α->List D) (m:α->Nat) (R:α->Prop):Prop:=
 ∀(H:Type) (enc:TypeId×Value->H) (cs:List Value) (xs:List (DataW H×List MemPlace)),cs.length=K->xs.length=fs.length->
  (∀(i:Nat) (fd:Field),fs[i]?=some fd->DataW.trod enc P W 0 (fun _=>true) true n fd.type ((cs.drop fd.offset).take (P.cellsOf fd.type))=xs[i]?)->
  ∃a,RelL W (f a) (cs.drop o)/\m a<=Rows.uptoBulkAll (xs.map (·.1))/\R a
theorem DecF.nil {K:Nat}:DecF P W n K K [] (fun _:Unit=>[]) (fun _=>0) (fun _=>True):=fun H enc cs xs h1 h2 _=>
 ⟨(),by rw[List.drop_of_length_le oc];exact⟨rfl,fun i h=>by simp at h⟩,by simp,trivial⟩
theorem DecF.cons {α β:Type}{f:α->List D}{m:α->Nat}{R:α->Prop}{f2:β->List D}{m2:β->Nat}{R2:β->Prop}{o K k:Nat}{fd:Field}{fs:List Field}
  (h1:Dec P W n fd.type f m R) (ho:fd.offset=o) (hc:P.cellsOf fd.type=k) (h2:DecF P W n (o+k) K fs f2 m2 R2):
  DecF P W n o K (fd::fs) (fun p:α×β=>f p.1++f2 p.2) (fun p=>m p.1+1+m2 p.2) (fun p=>R p.1/\R2 p.2):=fun H enc cs xs hK hl hx=>by
 cases xs with
 |nil=>simp at hl
 |cons y ys=>
  have h0:=hx 0 fd oe;simp only[List.getElem?_cons_zero] at h0;rw[ho,hc] at h0;obtain⟨a,q1,q2,q3⟩:=h1 H enc _ _ h0;obtain⟨b,r1,r2,r3⟩:=h2 H enc cs ys hK (by simpa using hl) (fun i fd' hi=>by
   have:=hx (i+1) fd' (by simpa using hi);simpa using this)
  refine⟨(a,b), ?_, ?_,q3,r3⟩
  ·have:cs.drop o=(cs.drop o).take k++cs.drop (o+k):=by
    rw[<-List.drop_drop,List.take_append_drop]
   rw[this];exact q1.append r1
  ·simp only[xaf,Rows.uptoBulkAll];omega
theorem Dec.struct {α:Type}{f:α->List D}{m:α->Nat}{R:α->Prop}{fs:Array Field} (ht:P.underlying t=some (.struct fs)){K:Nat} (hK:P.cellsOf t=K) (h:DecF P W n 0 K fs.toList f m R):
  Dec P W (n+1) t f m R:=fun H enc cs x hx=>by
 obtain⟨xs,n',hn,rfl,hl,hxl,hf⟩:=DataW.trod_struct ht hx;obtain rfl:n=n':=by omega
 obtain⟨a,q1,q2,q3⟩:=h H enc cs xs oc (by simpa using hxl) (fun i fd hi=>hf i fd (by simpa using hi));refine⟨a,by simpa using q1, ?_,q3⟩;simp only[Rows.uptoBulk];omega
end
section
variable {P:Program}{W:World}{base:Nat}{t:TypeId}{v:Value}{H:Type}{enc:TypeId×Value->H}{d:DataW H}{ps:List MemPlace}
theorem zmn {α:Type}{e:TypeId}{f:α->List D}{m:α->Nat}{R:α->Prop}{k:Nat} (ht:P.underlying t=some (.slice e)) (hc:P.cellsOf e=k+1) (hk:∀a,(f a).length=k+1) (hd:∀n,Dec P W n e f m R)
  (hval:Value.okWide P W .any base t v) (h:DataW.Trod enc P W 0 (fun _=>true) true t v d ps):
  ∃l:List α,(∀G T,G.F=FW W->RelA G T W (.d (.sl (l.map f))) v)/\sumM m l+1<=Rows.uptoBulk d/\∀a∈l,R a:=by
 obtain⟨n,hn⟩:=h;cases n with
 |zero=>simp[DataW.trod] at hn
 |succ n=>
  obtain⟨l,h1,h2,h3⟩:=Dec.sl ht hc hk (hd n) H enc _ _ hn;have hcells:v.cells.toList=[v]:=by
   cases v with
   |agg cs=>simp only[Value.okWide,ht,Cell.okWide,Cell.ok] at hval
   |_=>rfl
  rw[hcells] at h1;exact⟨l,fun G T hG=> .d (by rw[hG];simpa using h1.rel 0 oe oe),h2,h3⟩
end
section
variable {P:Program}{H:Type}{enc:TypeId×Value->H}
theorem zgl (hl:laidOutB P=true){W W':World} (hb:Below W.heap.size W W'):∀ {ts:List TypeId}{vs:List Value}{ds:List (DataW H)}{ps:List MemPlace},
  (∀t∈ts,P.readableRec t=true/\t<P.types.size)->DataW.TrodAll enc P W 0 (fun _=>true) true ts vs ds ps->(∀x∈ps,x.block<W.heap.size)->
  DataW.TrodAll enc P W' 0 (fun b=>decide (b<W.heap.size)) true ts vs ds ps
 | [],[],[],ps,_,h,_=>h
 |t::ts,v::vs,d::ds,ps,hr,h,hlt=>by
  obtain⟨p,q,h1,h2,rfl⟩:=h;exact⟨p,q,Below.trod hl (hr t oe).1 (hr t oe).2 h1 hb (fun x hx=>hlt x (by simp[hx])),
   zgl hl hb (fun t ht=>hr t (by simp[ht])) h2 (fun x hx=>hlt x (by simp[hx])),rfl⟩
theorem znu {f:Func}{s:ChangeSpec}{W W':World}{args:Array Value}{ds gs:List (DataW H)}{before:List MemPlace}{tb:TypeId}
  (hW:DataW.Whole enc P f.params.toList s.vars false W args.toList ds gs before) (hvars:s.vars=[]) (hrt:f.resultTypes = #[tb]) (htb:P.underlying tb=some .bool)
  (hs:s.fn H (ds++gs)={ results:=[.lit (.bool true)],args:=ds }) (hl:laidOutB P=true) (hr:∀t∈f.params.toList,P.readableRec t=true/\t<P.types.size)
  (hb:Below W.heap.size W W'):s.post enc P f false true false false W args (.bool true) W':=by
 have hlt:∀p∈before,p.block<W.heap.size:=fun p hp=>hW.lt p hp;have hW0:=hW;obtain⟨p,q,hA,hV,rfl,hfz,_⟩:=hW;rw[hvars] at hV;cases gs with
 |cons g gs=>exact hV.elim
 |nil=>
  have hq:q=[]:=hV;subst hq;simp only[xaq] at *;refine⟨ds,[],p,[],p,[],by simpa [hvars] using hW0, ?_, ?_, ?_,World.keptBut_mono (fun x hx=>⟨hx,.inr (.inl hx)⟩) (hb.frame (·∈p)),fun h=>by cases h⟩
  ·simp only[xaq,hs,hrt];exact trodAll_cons_mk (shut_bool htb _) trodAll_mk0
  ·simp only[xaq,hs];exact zgl hl hb hr hA hlt
  ·simp only[hvars,xaq,hs];rfl
theorem zm2 {f:FuncId}{avs:List AV}{W:World}{args:Array Value}{r:AV} (hf:FnD P f avs [] r [])
  (hargs:∀G T,G.F=FW W->AllR G T W avs args):Calls P f args W fun e W'=>∃v G',e = .returned v/\RelA G' (fun _=>none) W' r v/\Below W.heap.size W W':=by
 let G:Gh:={ F:=FW W,loc:=fun _=>[] }
 refine(hf G W args ⟨hargs G _ rfl,fun id r h=>(by simp[getH] at h),fun id id' h=>(by simp[getH] at h),fun b hb=>FW_top hb⟩).mono ?_;rintro e W' ⟨v,r',hp',G',rfl,⟨rfl,rfl⟩,h⟩
 exact⟨v,G',rfl,h.res,⟨h.frm.os,h.frm.tape,h.frm.output,h.frm.size,fun b hb=>(h.frm.block b hb (by simp[zbE])).1⟩⟩
theorem RelA.bool_true {G:Gh}{T:TokF}{w:World}{v:Value} (h:RelA G T w (.d (.bool true)) v):v = .bool true:=by
 cases h with|d h=>cases h;rfl
theorem znn {H:Type}{l:List (DataW H)} (hk:Rows.uptoSmall H l=true):Rows.uptoBulkAll l<=1048576:=xas hk
end
set_option maxRecDepth 100000
theorem zb7 (W:World) (n:Nat):Dec Tryz.prog W n 3 (fun z:Int=>[.i z]) (fun _=>0) (fun _=>True):=Dec.map (f:=fun z:Int=>[D.i z]) (R:=fun z=>(Lit.int .i64 z).wf=true) id (Dec.int Tryz.underlying3) (fun _=>rfl) (fun _=>Nat.le_refl _) (fun _ _=>trivial)
theorem zmP (W:World) (n:Nat):Dec Tryz.prog W n 9 (fun s:Str=>[.str s]) (fun s=>s.length) (fun _=>True):=Dec.str Tryz.underlying9
theorem zl6 (W:World):∀n,Dec Tryz.prog W n 151 Ty.c (fun _=>0) (fun _=>True)
 |0=>Dec.zero
 |n+1=>Dec.map (fun p:Int×Int×Unit=>(⟨p.1,p.2.1⟩:Ty)) (Dec.struct Tryz.underlying151 od (DecF.cons (k:=1) (zb7 W n) rfl od (DecF.cons (k:=1) (zb7 W n) rfl od DecF.nil))) (fun _=>rfl) (fun _=>Nat.zero_le _) (fun _ _=>trivial)
theorem zpr (W:World):∀n,Dec Tryz.prog W n 296 (fun l:List Ty=>[zaR l]) (fun l=>l.length) (fun _=>True)
 |0=>Dec.zero
 |n+1=>Dec.map id (Dec.sl (k:=1) Tryz.underlying296 od (fun _=>rfl) (zl6 W n)) (fun _=>rfl) (fun l=>zdY _ l) (fun _ _=>trivial)
def zfN (c:Ctor):Nat:=c.name.length+c.args.length
theorem zoa (W:World):∀n,Dec Tryz.prog W n 298 Ctor.c zfN (fun _=>True)
 |0=>Dec.zero
 |n+1=>Dec.map (fun p:Str×List Ty×Int×Unit=>(⟨p.1,p.2.1,p.2.2.1⟩:Ctor)) (Dec.struct Tryz.underlying298 od (DecF.cons (k:=1) (zmP W n) rfl od (DecF.cons (k:=1) (zpr W n) rfl od (DecF.cons (k:=1) (zb7 W n) rfl od DecF.nil))))
   (fun _=>rfl) (fun p=>by simp only[zfN];omega) (fun _ _=>trivial)
theorem znq (W:World):∀n,Dec Tryz.prog W n 129 (fun l:List Ctor=>[zbK l]) (fun l=>sumM zfN l) (fun _=>True)
 |0=>Dec.zero
 |n+1=>Dec.map id (Dec.sl (k:=2) Tryz.underlying129 od (fun _=>rfl) (zoa W n)) (fun _=>rfl) (fun l=>Nat.le_refl _) (fun _ _=>trivial)
def ze2 (d:Data):Nat:=d.name.length+sumM zfN d.ctors
theorem zob (W:World):∀n,Dec Tryz.prog W n 131 Data.c ze2 (fun _=>True)
 |0=>Dec.zero
 |n+1=>Dec.map (fun p:Str×List Ctor×Unit=>(⟨p.1,p.2.1⟩:Data)) (Dec.struct Tryz.underlying131 od (DecF.cons (k:=1) (zmP W n) rfl od (DecF.cons (k:=1) (znq W n) rfl od DecF.nil)))
   (fun _=>rfl) (fun p=>by simp only[ze2];omega) (fun _ _=>trivial)
theorem znk {w:List Data}{N:Nat} (h:sumM ze2 w+1<=N) (hN:N<=1048576):WSmall w:=by
 refine⟨by have:=zdY ze2 w;omega,fun d hd=>?_,fun d hd c hc=>?_⟩
 ·have h1:=zdn (m:=ze2) hd;have h2:=zdY zfN d.ctors;simp only[ze2] at h1;omega
 ·have h1:=zdn (m:=ze2) hd;have h2:=zdn (m:=zfN) hc;simp only[ze2] at h1;simp only[zfN] at h2;omega
theorem zpq (W:World):∀n,Dec Tryz.prog W n 310 Pat.cc (fun v=>Pats.size v.kids) (fun _=>True):=by
 intro n;induction n using Nat.strongRecOn with
 |_ n ih=>
  cases n with
  |zero=>exact Dec.zero
  |succ n=>
   have hk:Dec Tryz.prog W n 308 (fun l:List Pat=>[.sl (l.map Pat.cc)]) (fun l=>Pats.size l) (fun _=>True):=by
    cases n with
    |zero=>exact Dec.zero
    |succ n=>
     refine Dec.map id (Dec.sl (k:=5) Tryz.underlying308 od (fun _=>rfl) (ih n oc)) (fun _=>rfl) (fun l=>?_) (fun _ _=>trivial);have:∀l:List Pat,Pats.size l<=sumM (fun v=>Pats.size v.kids) l:=by
      intro l;induction l with
      |nil=>simp[Pats.size,sumM]
      |cons a r ih2=>simp only[Pats.size,sumM,xaS];omega
     exact this l
   refine Dec.map (fun p:Int×Int×Int×Int×Int×List Pat×Unit=>Pat.mk p.1 p.2.1 p.2.2.1 p.2.2.2.1 p.2.2.2.2.1 p.2.2.2.2.2.1) (Dec.struct Tryz.underlying310 od (DecF.cons (k:=1) (zb7 W n) Z od (DecF.cons (k:=1) (zb7 W n) Z od (DecF.cons (k:=1) (zb7 W n) Z od (DecF.cons (k:=1) (zb7 W n) Z od (DecF.cons (k:=1) (zb7 W n) Z od (DecF.cons (k:=1) hk Z od DecF.nil))))))) (fun p=>?_) (fun p=>?_) (fun _ _=>trivial)
   ·show [D.i _,D.i _,D.i _,D.i _,D.i _,D.sl (Pat.cs _)]=_
    rw[show Pat.cs (Pat.mk p.1 p.2.1 p.2.2.1 p.2.2.2.1 p.2.2.2.2.1 p.2.2.2.2.2.1).kids=p.2.2.2.2.2.1.map Pat.cc by rw[xaO];exact List.map_congr_left (fun v _=>Pat.c_eq v)];rfl
   ·show Pats.size p.2.2.2.2.2.1<=0+1+(0+1+(0+1+(0+1+(0+1+(Pats.size p.2.2.2.2.2.1+1+0)))))
    omega
theorem Pats.ok_size:∀(n:Nat) (l:List Pat),Pats.size l<=n->n<=1048576->l.length<=1048576/\Pats.ok l:=by
 intro n;induction n with
 |zero=>
  intro l h hn;cases l with
  |nil=>exact⟨by simp,trivial⟩
  |cons x r=>simp only[Pats.size,xaS] at h;omega
 |succ n ih=>
  intro l;induction l with
  |nil=>intro _ _;exact⟨by simp,trivial⟩
  |cons x r ihr=>
   intro h hn;simp only[Pats.size] at h;have hx:=xaS x;have h1:=ih x.kids oc oc;have h2:=ih r oc oc;refine⟨?_,(xaR x).2 ⟨by have:=h1.1;omega,h1.2⟩,h2.2⟩;have:∀l:List Pat,l.length<=Pats.size l:=by
    intro l;induction l with
    |nil=>simp
    |cons y s ihs=>simp only[Pats.size,xab,xaS];omega
   have:=this r;simp only[xab];omega
theorem zm7 {v:Pat} (h:Pats.size v.kids<=1048576):v.ok:=by
 have:=Pats.ok_size _ _ (Nat.le_refl _) h;exact(xaR v).2 ⟨by omega,this.2⟩
def bCl (c:Cl):Nat:=Pats.size c.pat.kids
theorem zp0 (W:World):∀n,Dec Tryz.prog W n 311 (fun g:Gd=>[.i g.op,.i g.var,.i g.n]) (fun _=>0) (fun _=>True)
 |0=>Dec.zero
 |n+1=>Dec.map (fun p:Int×Int×Int×Unit=>(⟨p.1,p.2.1,p.2.2.1⟩:Gd)) (Dec.struct Tryz.underlying311 od (DecF.cons (k:=1) (zb7 W n) rfl od (DecF.cons (k:=1) (zb7 W n) rfl od (DecF.cons (k:=1) (zb7 W n) rfl od DecF.nil)))) (fun _=>rfl) (fun _=>Nat.zero_le _) (fun _ _=>trivial)
theorem zpW (W:World):∀n,Dec Tryz.prog W n 313 Cl.c bCl (fun _=>True)
 |0=>Dec.zero
 |n+1=>Dec.map (fun p:Pat×Gd×Unit=>(⟨p.1,p.2.1⟩:Cl)) (Dec.struct Tryz.underlying313 od (DecF.cons (k:=6) (zpq W n) rfl od (DecF.cons (k:=3) (zp0 W n) rfl od DecF.nil))) (fun _=>rfl) (fun p=>by simp only[bCl];omega) (fun _ _=>trivial)
theorem zpo (W:World):∀n,Dec Tryz.prog W n 154 (fun l:List Cl=>[zbl l]) (fun l=>sumM bCl l) (fun _=>True)
 |0=>Dec.zero
 |n+1=>Dec.map id (Dec.sl (k:=8) Tryz.underlying154 od (fun _=>rfl) (zpW W n)) (fun _=>rfl) (fun l=>Nat.le_refl _) (fun _ _=>trivial)
theorem zjU {l:List Cl} (h:sumM bCl l<=1048576):ClsOk l/\ClsSz l:=by
 refine⟨⟨by have:=zdY bCl l;omega,fun c hc=>?_⟩,fun c hc=>?_⟩
 ·have h1:=zdn (m:=bCl) hc;simp only[bCl] at h1;exact zm7 oc
 ·have h1:=zdn (m:=bCl) hc;simp only[bCl] at h1;rw[xaS];omega
theorem zpX (W:World):∀n,Dec Tryz.prog W n 316 Ex.cc (fun v=>Exs.size v.kids) (fun _=>True):=by
 intro n;induction n using Nat.strongRecOn with
 |_ n ih=>
  cases n with
  |zero=>exact Dec.zero
  |succ n=>
   have hk:Dec Tryz.prog W n 155 (fun l:List Ex=>[.sl (l.map Ex.cc)]) (fun l=>Exs.size l) (fun _=>True):=by
    cases n with
    |zero=>exact Dec.zero
    |succ n=>
     refine Dec.map id (Dec.sl (k:=3) Tryz.underlying155 od (fun _=>rfl) (ih n oc)) (fun _=>rfl) (fun l=>?_) (fun _ _=>trivial);have:∀l:List Ex,Exs.size l<=sumM (fun v=>Exs.size v.kids) l:=by
      intro l;induction l with
      |nil=>simp[Exs.size,sumM]
      |cons a r ih2=>simp only[Exs.size,sumM,xaG];omega
     exact this l
   refine Dec.map (fun p:Int×Int×Int×List Ex×Unit=>Ex.mk p.1 p.2.1 p.2.2.1 p.2.2.2.1) (Dec.struct Tryz.underlying316 od (DecF.cons (k:=1) (zb7 W n) Z od (DecF.cons (k:=1) (zb7 W n) Z od (DecF.cons (k:=1) (zb7 W n) Z od (DecF.cons (k:=1) hk Z od DecF.nil))))) (fun p=>?_) (fun p=>?_) (fun _ _=>trivial)
   ·show [D.i _,D.i _,D.i _,D.sl (Ex.cs _)]=_
    rw[show Ex.cs (Ex.mk p.1 p.2.1 p.2.2.1 p.2.2.2.1).kids=p.2.2.2.1.map Ex.cc by rw[xaD];exact List.map_congr_left (fun v _=>xaC v)];rfl
   ·show Exs.size p.2.2.2.1<=0+1+(0+1+(0+1+(Exs.size p.2.2.2.1+1+0)))
    omega
theorem zpp (W:World):∀n,Dec Tryz.prog W n 155 (fun l:List Ex=>[zay l]) (fun l=>Exs.size l) (fun _=>True)
 |0=>Dec.zero
 |n+1=>Dec.map id (Dec.sl (k:=3) Tryz.underlying155 od (fun _=>rfl) (zpX W n)) (fun l=>by
   show [D.sl (Ex.cs l)]=_
   rw[show Ex.cs l=l.map Ex.cc by rw[xaD];exact List.map_congr_left (fun v _=>xaC v)]) (fun l=>by
     have:∀l:List Ex,Exs.size l<=sumM (fun v=>Exs.size v.kids) l:=by
      intro l;induction l with
      |nil=>simp[Exs.size,sumM]
      |cons a r ih2=>simp only[Exs.size,sumM,xaG];omega
     exact this l) (fun _ _=>trivial)
theorem Exs.ok_size:∀(n:Nat) (l:List Ex),Exs.size l<=n->n<=1048576->l.length<=1048576/\Exs.ok l:=by
 intro n;induction n with
 |zero=>
  intro l h hn;cases l with
  |nil=>exact⟨by simp,trivial⟩
  |cons x r=>simp only[Exs.size,xaG] at h;omega
 |succ n ih=>
  intro l;induction l with
  |nil=>intro _ _;exact⟨by simp,trivial⟩
  |cons x r ihr=>
   intro h hn;simp only[Exs.size] at h;have hx:=xaG x;have h1:=ih x.kids oc oc;have h2:=ih r oc oc;refine⟨?_,(xaF x).2 ⟨by have:=h1.1;omega,h1.2⟩,h2.2⟩;have:∀l:List Ex,l.length<=Exs.size l:=by
    intro l;induction l with
    |nil=>simp
    |cons y s ihs=>simp only[Exs.size,xab,xaG];omega
   have:=this r;simp only[xab];omega
theorem zgC {e:Ex}:∀ {l:List Ex},e∈l->e.size<=Exs.size l
 |a::r,h=>by
  simp only[Exs.size];rcases List.mem_cons.1 h with rfl|h
  ·omega
  ·have:=zgC h;omega
def bFu (f:Fu):Nat:=sumM bCl f.cls+Exs.size f.bodies
theorem zpY (W:World):∀n,Dec Tryz.prog W n 153 Ft.c (fun _=>0) (fun _=>True)
 |0=>Dec.zero
 |n+1=>Dec.map (fun p:Ty×Ty×Unit=>(⟨p.1,p.2.1⟩:Ft)) (Dec.struct Tryz.underlying153 od (DecF.cons (k:=2) (zl6 W n) rfl od (DecF.cons (k:=2) (zl6 W n) rfl od DecF.nil))) (fun _=>rfl) (fun _=>Nat.zero_le _) (fun _ _=>trivial)
theorem zpZ (W:World):∀n,Dec Tryz.prog W n 157 Fu.c bFu (fun _=>True)
 |0=>Dec.zero
 |n+1=>Dec.map (fun p:Ft×List Cl×List Ex×Unit=>(⟨p.1,p.2.1,p.2.2.1⟩:Fu)) (Dec.struct Tryz.underlying157 od (DecF.cons (k:=4) (zpY W n) rfl od (DecF.cons (k:=1) (zpo W n) rfl od (DecF.cons (k:=1) (zpp W n) rfl od DecF.nil)))) (fun _=>rfl) (fun p=>by simp only[bFu];omega) (fun _ _=>trivial)
theorem zmZ {l:List Fu}{N:Nat} (h:sumM bFu l<=N) (hN:N<=1048576):FusOk l/\FusSz l:=by
 have key:∀f∈l,sumM bCl f.cls<=1048576/\Exs.size f.bodies<=1048576:=fun f hf=>by
  have h1:=zdn (m:=bFu) hf;simp only[bFu] at h1;omega
 refine⟨⟨by have:=zdY bFu l;omega,fun f hf=>?_⟩,fun f hf=>?_⟩
 ·have h1:=key f hf;have h2:=Exs.ok_size _ _ h1.2 (Nat.le_refl _);exact⟨(zjU h1.1).1,by omega,h2.2⟩
 ·have h1:=key f hf;exact⟨(zjU h1.1).2,fun e he=>by have:=zgC he;omega⟩
end Go.Proofs.YtmkipahfpaacgaaGreatDoor
