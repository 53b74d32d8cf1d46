/-
  THE ABSTRACT WALK AND THE WALKS, part 3 of 5.
-/
import Derived.Test.YtmkipahfpaacgaaGreatDoorT672
namespace Go.Proofs.YtmkipahfpaacgaaGreatDoor
open Go
set_option linter.unusedSimpArgs false
set_option linter.unusedVariables false
set_option maxRecDepth 100000
set_option maxHeartbeats 2000000
def zbX (a b:Ty):Bool:=decide (a.data=b.data)&&(decide (b.index=0)||decide (a.index=b.index))
def zal (w:List Data) (funs:List Ft) (t:Ty) (e:Ex):List Ty:=
 if e.op=3 then (if e.n=0/\e.ctor∈zau w t then zac w t e.ctor else [])
 else if e.op=4 then [t,t]
 else if e.op=5 then (if 0<=e.n/\e.n<(funs.length:Int)/\e.ctor=0 then [(nth funs e.n.toNat).arg] else [])
 else []
def zdV (vars:List Vt) (n:Int):Ty:=if 0<=zbr vars n then (nth vars (zbr vars n).toNat).ty else ⟨0,0⟩
def okE (w:List Data) (funs:List Ft) (vars:List Vt) (t:Ty) (e:Ex):Bool:=
 if e.op=1 then decide (t.data = -1/\0<=e.n/\e.n<=9/\e.ctor=0)
 else if e.op=2 then decide (0<=zbr vars e.n)&&(zbX (zdV vars e.n) t&&decide (e.ctor=0))
 else if e.op=3 then decide (e.n=0/\e.ctor∈zau w t)
 else if e.op=4 then decide (t.data = -1/\e.n=0/\e.ctor=0)
 else if e.op=5 then decide (0<=e.n/\e.n<(funs.length:Int)/\e.ctor=0)&&zbX (nth funs e.n.toNat).res t
 else false
section
variable {w:List Data}{funs:List Ft}{vars:List Vt}{t:Ty}{e:Ex}
theorem ty_0 (h:e.op≠3/\e.op≠4/\e.op≠5):zal w funs t e=[]:=by unfold zal;rw[if_neg h.1,if_neg h.2.1,if_neg h.2.2]
theorem ty_3 (h:e.op=3) (h2:e.n=0) (h3:e.ctor∈zau w t):zal w funs t e=zac w t e.ctor:=by unfold zal;rw[if_pos h,if_pos ⟨h2,h3⟩]
theorem zrl (h:e.op=3) (h2:e.n≠0):zal w funs t e=[]:=by unfold zal;rw[if_pos h,if_neg (fun hh=>h2 hh.1)]
theorem zrk (h:e.op=3) (h2:e.ctor∉zau w t):zal w funs t e=[]:=by unfold zal;rw[if_pos h,if_neg (fun hh=>h2 hh.2)]
theorem ty_4 (h:e.op=4):zal w funs t e=[t,t]:=by unfold zal;rw[if_neg od,if_pos h]
theorem ty_5 (h:e.op=5) (h2:0<=e.n/\e.n<(funs.length:Int)/\e.ctor=0):zal w funs t e=[(nth funs e.n.toNat).arg]:=by unfold zal;rw[if_neg od,if_neg od,if_pos h,if_pos h2]
theorem ziq (h:e.op=5) (h2:¬(0<=e.n/\e.n<(funs.length:Int)/\e.ctor=0)):zal w funs t e=[]:=by unfold zal;rw[if_neg od,if_neg od,if_pos h,if_neg h2]
theorem ok_1 (h:e.op=1):okE w funs vars t e=decide (t.data = -1/\0<=e.n/\e.n<=9/\e.ctor=0):=by unfold okE;rw[if_pos h]
theorem ok_2 (h:e.op=2):okE w funs vars t e=(decide (0<=zbr vars e.n)&&(zbX (zdV vars e.n) t&&decide (e.ctor=0))):=by unfold okE;rw[if_neg od,if_pos h]
theorem ok_3 (h:e.op=3):okE w funs vars t e=decide (e.n=0/\e.ctor∈zau w t):=by unfold okE;rw[if_neg od,if_neg od,if_pos h]
theorem ok_4 (h:e.op=4):okE w funs vars t e=decide (t.data = -1/\e.n=0/\e.ctor=0):=by unfold okE;rw[if_neg od,if_neg od,if_neg od,if_pos h]
theorem ok_5 (h:e.op=5):okE w funs vars t e=(decide (0<=e.n/\e.n<(funs.length:Int)/\e.ctor=0)&&zbX (nth funs e.n.toNat).res t):=by unfold okE;rw[if_neg od,if_neg od,if_neg od,if_neg od,if_pos h]
theorem ok_0 (h:e.op≠1/\e.op≠2/\e.op≠3/\e.op≠4/\e.op≠5):okE w funs vars t e=false:=by unfold okE;rw[if_neg h.1,if_neg h.2.1,if_neg h.2.2.1,if_neg h.2.2.2.1,if_neg h.2.2.2.2]
end
def zce (w:List Data) (funs:List Ft) (vars:List Vt) (t:Ty) (e:Ex):Bool:=okE w funs vars t e&&decide ((zal w funs t e).length=e.kids.length)
def zaD (w:List Data) (funs:List Ft) (vars:List Vt):Nat->Ty->Ex->Bool
 |0,_,_=>false
 |n+1,t,e=>zce w funs vars t e&&all2 (zaD w funs vars n) (zal w funs t e) e.kids
def zcl (g:Ty->Ex->Int->Bool×Int):List Ty->List Ex->Int->Bool×Int
 |a::r,b::s,c=>if (g a b c).1 then zcl g r s (g a b c).2 else (false,(g a b c).2)
 |_,_,c=>(true,c)
def zba (w:List Data) (funs:List Ft) (vars:List Vt):Nat->Ty->Ex->Int->Bool×Int
 |0,_,_,c=>(false,c+1)
 |n+1,t,e,c=>if 60<c+1 then (false,c+1)
   else if zce w funs vars t e=true then zcl (zba w funs vars n) (zal w funs t e) e.kids (c+1) else (false,c+1)
theorem zmS {w:List Data}{funs:List Ft}{vars:List Vt}{n:Nat} (ih:∀t e c,(zba w funs vars n t e c).1=(zaD w funs vars n t e&&decide (c+(e.size:Int)<=60))/\((zba w funs vars n t e c).1=true->(zba w funs vars n t e c).2=c+e.size)):
  ∀(a:List Ty) (b:List Ex) (c:Int),a.length=b.length->c<=60->(zcl (zba w funs vars n) a b c).1=(all2 (zaD w funs vars n) a b&&decide (c+(Exs.size b:Int)<=60))/\((zcl (zba w funs vars n) a b c).1=true->(zcl (zba w funs vars n) a b c).2=c+Exs.size b)
 | [],[],c,_,hc=>by simp[zcl,all2,Exs.size,hc]
 |x::r,y::s,c,hl,hc=>by
  obtain⟨h1,h2⟩:=ih x y c;simp only[zcl,all2,Exs.size];cases hh:(zba w funs vars n x y c).1 with
  |true=>
   have h3:=h2 hh;rw[hh] at h1;have h4:=h1.symm;simp only[xad,xah] at h4;obtain⟨h5,h6⟩:=zmS ih r s (zba w funs vars n x y c).2 (by simpa using hl) od;simp only[if_true];rw[h5];refine⟨?_,fun hx=>?_⟩
   ·rw[h4.1,h3,Bool.true_and];congr 1
    exact decide_eq_decide.2 (by push_cast;omega)
   ·rw[<-h5] at hx;rw[h6 hx,h3];push_cast;omega
  |false=>
   rw[hh] at h1;simp only[Bool.false_eq_true,if_false,false_implies,and_true];have h4:=h1.symm;simp only[Bool.and_eq_false_imp,decide_eq_false_iff_not] at h4;symm
   cases hf:zaD w funs vars n x y with
   |false=>simp
   |true=>
    have:=h4 hf;have h7:¬(c+((y.size+Exs.size s:Nat):Int)<=60):=by push_cast;omega
    simp only[Bool.and_eq_false_imp];intro _;exact xaw h7
 | [],_::_,_,hl,_=>by simp at hl
 |_::_,[],_,hl,_=>by simp at hl
theorem ziY (w:List Data) (funs:List Ft) (vars:List Vt):∀(n:Nat) (t:Ty) (e:Ex) (c:Int),(zba w funs vars n t e c).1=(zaD w funs vars n t e&&decide (c+(e.size:Int)<=60))/\((zba w funs vars n t e c).1=true->(zba w funs vars n t e c).2=c+e.size)
 |0,t,e,c=>by simp[zba,zaD]
 |n+1,t,e,c=>by
  have hsz:=xaN e;unfold zba zaD;by_cases h1:60<c+1
  ·rw[if_pos h1];simp only[Bool.false_eq_true,false_implies,and_true];symm
   simp only[Bool.and_eq_false_imp,decide_eq_false_iff_not];intro _;omega
  ·rw[if_neg h1];by_cases h3:zce w funs vars t e=true
   ·rw[if_pos h3,h3,Bool.true_and];have h4:(zal w funs t e).length=e.kids.length:=by
     unfold zce at h3;rw[xad] at h3;exact xas h3.2
    obtain⟨h5,h6⟩:=zmS (fun t e c=>ziY w funs vars n t e c) (zal w funs t e) e.kids (c+1) h4 od;refine⟨?_,fun hx=>?_⟩
    ·rw[h5];congr 1
     exact decide_eq_decide.2 od
    ·rw[h6 hx];omega
   ·rw[if_neg h3];simp[h3]
def isE (w:List Data) (funs:List Ft) (vars:List Vt) (t:Ty) (e:Ex):Bool:=zaD w funs vars 10 t e&&decide ((e.size:Int)<=60)
theorem zsY (w:List Data) (funs:List Ft) (vars:List Vt) (t:Ty) (e:Ex):(zba w funs vars 10 t e 0).1=isE w funs vars t e:=by
 rw[(ziY w funs vars 10 t e 0).1,Int.zero_add];rfl
mutual
def cntE (m:Int):Ex->Int
 | .mk _ _ _ ks=>zcC m 1 ks
def zcC (m n:Int):List Ex->Int
 | []=>n
 |k::r=>if n<=m then zcC m (n+cntE (m-n) k) r else n
end
theorem zrx (m:Int) (v:Ex):cntE m v=zcC m 1 v.kids:=by cases v;rfl
theorem zjk {m n:Int}{l:List Ex} (h:¬n<=m):zcC m n l=n:=by cases l<;>simp[zcC,h]
mutual
theorem zid:∀(v:Ex) (m:Int),1<=cntE m v/\cntE m v<=v.size
 | .mk _ _ _ ks,m=>by
  have:=ziK ks m 1 od;simp only[cntE,Ex.size];push_cast;omega
theorem ziK:∀(l:List Ex) (m n:Int),1<=n->1<=zcC m n l/\zcC m n l<=n+Exs.size l
 | [],m,n,h=>by simp[zcC,Exs.size];omega
 |k::r,m,n,h=>by
  have h1:=zid k (m-n);have h2:=ziK r m (n+cntE (m-n) k) od;simp only[zcC,Exs.size];split
  ·push_cast;omega
  ·push_cast;omega
end
mutual
theorem zma:∀(v:Ex) (m:Int),(cntE m v<=m↔(v.size:Int)<=m)/\(cntE m v<=m->cntE m v=v.size)
 | .mk _ _ _ ks,m=>by
  have:=zkX ks m 1;simp only[cntE,Ex.size];push_cast;exact this
theorem zkX:∀(l:List Ex) (m n:Int),(zcC m n l<=m↔n+(Exs.size l:Int)<=m)/\(zcC m n l<=m->zcC m n l=n+Exs.size l)
 | [],m,n=>by simp[zcC,Exs.size]
 |k::r,m,n=>by
  have h1:=zma k (m-n);have h2:=zkX r m (n+cntE (m-n) k);have h3:=ziK r m (n+cntE (m-n) k);have h4:=zid k (m-n);simp only[zcC,Exs.size];push_cast
  by_cases hn:n<=m
  ·rw[if_pos hn];by_cases h5:cntE (m-n) k<=m-n
   ·have h6:=h1.2 h5;rw[h6] at h2 ⊢;constructor
    ·rw[h2.1];constructor<;>intro h<;>omega
    ·intro h;rw[h2.2 h];omega
   ·have h7:¬(k.size:Int)<=m-n:=fun h=>h5 (h1.1.2 h);have h8:¬n+cntE (m-n) k<=m:=by omega
    rw[zjk h8];constructor
    ·constructor<;>intro h<;>omega
    ·intro h;omega
  ·rw[if_neg hn];constructor
   ·constructor<;>intro h<;>omega
   ·intro h;omega
end
theorem zk5 {l:List Ex}{i:Nat} (h:i<l.length):(nth l i).size<=Exs.size l:=xaS (zao h)
theorem zjq {l:List Ex}{i:Nat} (h:i<l.length):Exs.size (l.drop i)=(nth l i).size+Exs.size (l.drop (i+1)):=by
 rw[zaZ h];rfl
def TyOk (n:Nat) (t:Ty):Prop:=TyIn n t/\(t.data = -1->t.index=0)
def zbO (w:List Data) (l:List Ft):Bool:=decide ((l.length:Int)<=4)&& !l.any fun f=> !(zaR w.length f.arg&&zaR w.length f.res)
theorem zlw {w:List Data} (hw:WT w){funs:List Ft} (hf:∀f∈funs,TyIn w.length f.arg){t:Ty} (ht:TyIn w.length t){e:Ex}:∀u∈zal w funs t e,TyIn w.length u:=by
 intro u hu;unfold zal at hu;split at hu
 ·split at hu
  ·rename_i h;obtain⟨d,h1,h2,h3⟩:=za4 (a:=t.data) (k:=t.index) ht h.2;have:t=⟨(d:Int),t.index⟩:=by rw[<-h1]
   rw[this] at hu;exact zho hw h2 h3 hu
  ·simp at hu
 ·split at hu
  ·simp only[List.mem_cons,xau,or_false,or_self] at hu;rw[hu];exact ht
  ·split at hu
   ·split at hu
    ·rename_i h;simp only[List.mem_cons,xau,or_false] at hu;rw[hu];exact hf _ (zao od)
    ·simp at hu
   ·simp at hu
theorem zrt {w:List Data} (hw:WT w){t:Ty}{c:Int} (ht:TyIn w.length t) (hc:c∈zau w t):(zac w t c).length<=1000000000000:=by
 obtain⟨d,h1,h2,j,h3,h4⟩:=za4 (a:=t.data) (k:=t.index) ht hc;have:=(hw.small.ctor _ (zao h2) _ (zao h4)).2;unfold zac;rw[h1,h3];simpa using this
theorem zke {w:List Data} (hw:WT w){funs:List Ft}{t:Ty} (ht:TyIn w.length t){e:Ex}:(zal w funs t e).length<=1000000000000:=by
 unfold zal;split
 ·split
  ·rename_i h;exact zrt hw ht h.2
  ·simp
 ·split
  ·simp
  ·split
   ·split<;>simp
   ·simp
theorem zhj {x:Vt}{n:Int}:FnD Tryz.prog 283 [.agg [.d (.i x.var),.d (.i x.ty.data),.d (.i x.ty.index)],.ref 3003 0] [(3003,some (.box [.d (.i n)]))] (.d (.bool (decide (x.var=n)))) []:=by
 refine bd Tryz.f283 8 [] [] fun _ _ _ _ hk=>?_;refine bx 3001 ?_;refine ev (rn [] (r1 I) (.eqd ?_) ⟨I,I⟩ (SubH.get ⟨I,O⟩) (fun _ h=>h));rotate_left;all_goals (rfl)
theorem ze3 {wdd fd:D}{vars:List Vt}{n:Int} (hv:vars.length<=1000000000000):
  FnD Tryz.prog 233 [.agg [.d wdd,.d fd,.d (zaP vars)],.d (.i n)] [] (.tup [.agg [.d (.i (zdV vars n).data),.d (.i (zdV vars n).index)],.d (.bool (decide (0<=zbr vars n)))]) []:=by
 have hlt:=fun h=>zmm (l:=vars) (n:=n) h;refine bd Tryz.f233 20 [] [] fun _ _ _ _ hk=>?_;refine bx 3002 ?_;refine bx 3003 ?_;refine ab 3004 tz38 ?_;refine ev (xbt (xs:=[_]) I .none I I (wd zsA (zgi (p:=fun v=>decide (v.var=n)) hv zsB (fun t _=>zhj) ⟨I,O⟩ I I) I I ⟨I,O⟩ ?_));refine ev ?_;apply sq<;>intro h1 h1p h1s<;>(try simp only[Q] at h1p);refine bu [] [] st38 ?_;refine so ty38 ?_;refine ev (rn0 (rc ty38) (.tup (.cons (.agg (qee ?_ ?_)) (qe ?_))));rotate_left 3;refine ixq (i:=(zbr vars n).toNat) sl36 I I (by have:=hlt (by show 0<=idxF _ _ _;omega);exact this.2.symm) (zag (i:=(zbr vars n).toNat) (by have:=hlt (by show 0<=idxF _ _ _;omega);omega)) I ?_;refine ev (so ty38 ?_);refine ev (rn0 (rc ty38) (.tup (.cons (.agg (qee ?_ ?_)) (qe ?_))));rotate_left 3;all_goals (first|(unfold zdV;rw[if_neg (by show ¬0<=idxF _ _ _;omega)];done)|(unfold zdV;rw[if_pos (by show 0<=idxF _ _ _;omega)];done)|(refine xam D.bool (xaw ?_).symm;show ¬0<=idxF _ _ _;omega)|(refine xam D.bool (xax ?_).symm;show 0<=idxF _ _ _;omega))
theorem zdR {a b:Ty}:FnD Tryz.prog 234 [.agg [.d (.i a.data),.d (.i a.index)],.agg [.d (.i b.data),.d (.i b.index)]] [] (.d (.bool (zbX a b))) []:=by
 refine bd Tryz.f234 22 [] [] fun _ _ _ _ hk=>?_;refine bx 3002 ?_;refine bx 3003 ?_;refine ev ?_;apply sq<;>intro h1 h1p h1s<;>(try simp only[Q] at h1p);apply sq<;>intro h2 h2p h2s<;>(try simp only[Q] at h2p);refine rq ?_;rotate_left;refine rq ?_;rotate_left;refine rq ?_;rotate_left;all_goals (refine xam D.bool ?_;unfold zbX;simp_all)
theorem zfA {w:List Data}{funs:List Ft}{vars:List Vt} (hw:WT w) (hfl:funs.length<=1000000000000) (hvl:vars.length<=1000000000000){t:Ty} (ht:TyIn w.length t){e:Ex}:
  FnD Tryz.prog 153 [.agg [.d (zae w),.d (zaF funs),.d (zaP vars)],.agg [.d (.i t.data),.d (.i t.index)],.agg [.d (.i e.op),.d (.i e.n),.d (.i e.ctor),.d (zaE e.kids)]] [] (.tup [.d (zbH (zal w funs t e)),.d (.bool (okE w funs vars t e))]) []:=by
 have ht':TyIn w.length ⟨t.data,t.index⟩:=ht;have hcl:=zer hw ht';have htd:t.data = -1->e.ctor∉zau w t:=fun h=>by unfold zau;rw[if_pos h];simp
 by_cases hmem:e.ctor∈zau w t
 ·have hmem':e.ctor∈zau w ⟨t.data,t.index⟩:=hmem;have hcon:=zdO (v:=e.ctor) hcl;rw[xax hmem'] at hcon;refine bd Tryz.f153 118 [] [] fun _ _ _ _ hk=>?_;refine bx 3003 ?_;refine bx 3004 ?_;refine bx 3005 ?_;refine ev ?_;apply sq<;>intro h1 h1p h1s<;>(try simp only[Q,zaf] at h1p);apply sq<;>intro h2 h2p h2s<;>(try simp only[Q,zaf] at h2p);refine Walk.call (cr:=[]) zc8 zbe I (.some I I h2) I I (LeL.refl _) O I I I (evd [] [(17,true)] ?_ ⟨⟨_,I,h2⟩,O⟩);apply sq<;>intro h3 h3p h3s<;>(try simp only[Q,zaf] at h3p);refine dr (rn0 (r2 I I) (.tup (qne ?_ ?_)));rotate_left 2;refine dr (rn0 (r2 I I) (.tup (qne ?_ ?_)));rotate_left 2;refine sqF ?_;refine dr (rn0 (r2 I I) (.tup (qne ?_ ?_)));rotate_left 2;apply sq<;>intro h4 h4p h4s<;>(try simp only[Q,zaf] at h4p);refine wc zoO (ze3 hvl) I I ?_;refine ev (ab 3008 tz38 ?_);refine so ty38 ?_;refine ev ?_;apply sq<;>intro h5 h5p h5s<;>(try simp only[Q,zaf] at h5p);refine Walk.call (cr:=[]) zjf (zdR (a:=zdV vars e.n) (b:=t)) I (.some I I h5) I I (LeL.refl _) O I I I (evd [] [(37,true)] ?_ ⟨⟨_,I,h5⟩,O⟩);apply sq<;>intro h6 h6p h6s<;>(try simp only[Q,zaf] at h6p);refine dr (rn0 (r2 I I) (.tup (qne ?_ ?_)));rotate_left 2;refine dr (rn0 (r2 I I) (.tup (qne ?_ ?_)));rotate_left 2;refine sqF ?_;refine dr (rn0 (r2 I I) (.tup (qne ?_ ?_)));rotate_left 2;apply sq<;>intro h7 h7p h7s<;>(try simp only[Q,zaf] at h7p);apply sq<;>intro h8 h8p h8s<;>(try simp only[Q,zaf] at h8p);refine dr (sqT ?_);refine rn0 (r2 I I) (.tup (qne ?_ ?_));rotate_left 2;refine Walk.call (cr:=[]) zl6 (zeA hw ht') I (.some I I h8) I I (LeL.refl _) O I I I (evd [] [(52,false)] ?_ ⟨⟨_,I,h8⟩,O⟩);refine Walk.call (cr:=[]) zoP hcon I (.some I I h8) I I (LeL.refl _) O I I I (evd [] [(52,false)] ?_ ⟨⟨_,I,h8⟩,O⟩);refine dr ?_;apply sq<;>intro h10 h10p h10s<;>(try simp only[Q,zaf] at h10p);refine rn0 (r2 I I) (.tup (qne ?_ ?_));rotate_left 2;refine wc zsu (zjx hw ht' hmem') I I ?_;refine ev (rn0 (r2 I I) (.tup (qee ?_ ?_)));rotate_left 2;apply sq<;>intro h11 h11p h11s<;>(try simp only[Q,zaf] at h11p);refine si [0,1] [_,_] zaJ tz38 ?_;refine evd [] [] ?_;apply sq<;>intro h12 h12p h12s<;>(try simp only[Q,zaf] at h12p);apply sq<;>intro h13 h13p h13s<;>(try simp only[Q,zaf] at h13p);refine dr (rn0 (r2 I I) (.tup (qee ?_ ?_)));rotate_left 2;refine dr (rn0 (r2 I I) (.tup (qee ?_ ?_)));rotate_left 2;refine sqF ?_;refine dr (rn0 (r2 I I) (.tup (qee ?_ ?_)));rotate_left 2;apply sq<;>intro h14 h14p h14s<;>(try simp only[Q,zaf] at h14p);refine ar (wc zc8 zbe I I ?_);refine ev ?_;apply sq<;>intro h15 h15p h15s<;>(try simp only[Q,zaf] at h15p);refine sqT ?_;refine rn0 (r2 I I) (.tup (qne ?_ ?_));rotate_left 2;apply sq<;>intro h17 h17p h17s<;>(try simp only[Q,zaf] at h17p);refine rn0 (r2 I I) (.tup (qne ?_ ?_));rotate_left 2;refine ixq (i:=e.n.toNat) sl35 I I od (zag (i:=e.n.toNat) od) I ?_;refine evd [] [] (si [0] [_] zaJ tz38 ?_);refine evd [] [] (ixq (i:=e.n.toNat) sl35 I I od (zag (i:=e.n.toNat) od) I ?_);refine evd [] [] (wc zjf (zdR (a:=(nth funs e.n.toNat).res) (b:=t)) I I ?_);refine evd [] [] (dr (rn0 (r2 I I) (.tup (qee ?_ ?_))));rotate_left 2;refine rn0 (r2 I I) (.tup (qne ?_ ?_));rotate_left 2;all_goals (first|rfl|(rw[ty_0 od];all_goals rfl)|(rw[zrl od od];all_goals rfl)|(rw[ty_3 od od hmem];all_goals rfl)|(rw[ty_4 od];all_goals rfl)|(rw[ziq od od];all_goals rfl)|(rw[ty_5 od od];all_goals rfl)|(refine xam D.bool ?_;rw[ok_1 od];simp_all;done)|(refine xam D.bool ?_;rw[ok_1 od];simp_all[zaf];omega)|(rw[ziq od (by intro hh;simp_all[zaf];omega)];all_goals rfl)|(refine xam D.bool ?_;rw[ok_5 od,xaw (by intro hh;simp_all[zaf];omega),Bool.false_and];done)|(refine xam D.bool ?_;rw[ok_2 od,xaw od,Bool.false_and];done)|(refine xam D.bool ?_;rw[ok_2 od];simp_all;done)|(refine xam D.bool ?_;rw[ok_3 od];simp_all;done)|(refine xam D.bool ?_;rw[ok_4 od];simp_all;done)|(refine xam D.bool ?_;rw[ok_5 od];first|(rw[xax od,Bool.true_and];done)|(rw[xaw od,Bool.false_and];done))|(refine xam D.bool ?_;rw[ok_0 od];done)|(exfalso;simp_all;done))
 ·have hmem':e.ctor∉zau w ⟨t.data,t.index⟩:=hmem;have hcon:=zdO (v:=e.ctor) hcl;rw[xaw hmem'] at hcon;refine bd Tryz.f153 118 [] [] fun _ _ _ _ hk=>?_;refine bx 3003 ?_;refine bx 3004 ?_;refine bx 3005 ?_;refine ev ?_;apply sq<;>intro h1 h1p h1s<;>(try simp only[Q,zaf] at h1p);apply sq<;>intro h2 h2p h2s<;>(try simp only[Q,zaf] at h2p);refine Walk.call (cr:=[]) zc8 zbe I (.some I I h2) I I (LeL.refl _) O I I I (evd [] [(17,true)] ?_ ⟨⟨_,I,h2⟩,O⟩);apply sq<;>intro h3 h3p h3s<;>(try simp only[Q,zaf] at h3p);refine dr (rn0 (r2 I I) (.tup (qne ?_ ?_)));rotate_left 2;refine dr (rn0 (r2 I I) (.tup (qne ?_ ?_)));rotate_left 2;refine sqF ?_;refine dr (rn0 (r2 I I) (.tup (qne ?_ ?_)));rotate_left 2;apply sq<;>intro h4 h4p h4s<;>(try simp only[Q,zaf] at h4p);refine wc zoO (ze3 hvl) I I ?_;refine ev (ab 3008 tz38 ?_);refine so ty38 ?_;refine ev ?_;apply sq<;>intro h5 h5p h5s<;>(try simp only[Q,zaf] at h5p);refine Walk.call (cr:=[]) zjf (zdR (a:=zdV vars e.n) (b:=t)) I (.some I I h5) I I (LeL.refl _) O I I I (evd [] [(37,true)] ?_ ⟨⟨_,I,h5⟩,O⟩);apply sq<;>intro h6 h6p h6s<;>(try simp only[Q,zaf] at h6p);refine dr (rn0 (r2 I I) (.tup (qne ?_ ?_)));rotate_left 2;refine dr (rn0 (r2 I I) (.tup (qne ?_ ?_)));rotate_left 2;refine sqF ?_;refine dr (rn0 (r2 I I) (.tup (qne ?_ ?_)));rotate_left 2;apply sq<;>intro h7 h7p h7s<;>(try simp only[Q,zaf] at h7p);apply sq<;>intro h8 h8p h8s<;>(try simp only[Q,zaf] at h8p);refine dr (sqT ?_);refine rn0 (r2 I I) (.tup (qne ?_ ?_));rotate_left 2;refine Walk.call (cr:=[]) zl6 (zeA hw ht') I (.some I I h8) I I (LeL.refl _) O I I I (evd [] [(52,false)] ?_ ⟨⟨_,I,h8⟩,O⟩);refine Walk.call (cr:=[]) zoP hcon I (.some I I h8) I I (LeL.refl _) O I I I (evd [] [(52,false)] ?_ ⟨⟨_,I,h8⟩,O⟩);refine dr ?_;apply sq<;>intro h10 h10p h10s<;>(try simp only[Q,zaf] at h10p);refine rn0 (r2 I I) (.tup (qne ?_ ?_));rotate_left 2;exfalso;simp_all;apply sq<;>intro h11 h11p h11s<;>(try simp only[Q,zaf] at h11p);refine si [0,1] [_,_] zaJ tz38 ?_;refine evd [] [] ?_;apply sq<;>intro h12 h12p h12s<;>(try simp only[Q,zaf] at h12p);apply sq<;>intro h13 h13p h13s<;>(try simp only[Q,zaf] at h13p);refine dr (rn0 (r2 I I) (.tup (qee ?_ ?_)));rotate_left 2;refine dr (rn0 (r2 I I) (.tup (qee ?_ ?_)));rotate_left 2;refine sqF ?_;refine dr (rn0 (r2 I I) (.tup (qee ?_ ?_)));rotate_left 2;apply sq<;>intro h14 h14p h14s<;>(try simp only[Q,zaf] at h14p);refine ar (wc zc8 zbe I I ?_);refine ev ?_;apply sq<;>intro h15 h15p h15s<;>(try simp only[Q,zaf] at h15p);refine sqT ?_;refine rn0 (r2 I I) (.tup (qne ?_ ?_));rotate_left 2;apply sq<;>intro h17 h17p h17s<;>(try simp only[Q,zaf] at h17p);refine rn0 (r2 I I) (.tup (qne ?_ ?_));rotate_left 2;refine ixq (i:=e.n.toNat) sl35 I I od (zag (i:=e.n.toNat) od) I ?_;refine evd [] [] (si [0] [_] zaJ tz38 ?_);refine evd [] [] (ixq (i:=e.n.toNat) sl35 I I od (zag (i:=e.n.toNat) od) I ?_);refine evd [] [] (wc zjf (zdR (a:=(nth funs e.n.toNat).res) (b:=t)) I I ?_);refine evd [] [] (dr (rn0 (r2 I I) (.tup (qee ?_ ?_))));rotate_left 2;refine rn0 (r2 I I) (.tup (qne ?_ ?_));rotate_left 2;all_goals (first|rfl|(rw[ty_0 od];all_goals rfl)|(rw[zrl od od];all_goals rfl)|(rw[zrk od hmem];all_goals rfl)|(rw[ty_4 od];all_goals rfl)|(rw[ziq od od];all_goals rfl)|(rw[ty_5 od od];all_goals rfl)|(refine xam D.bool ?_;rw[ok_1 od];simp_all;done)|(refine xam D.bool ?_;rw[ok_1 od];simp_all[zaf];omega)|(rw[ziq od (by intro hh;simp_all[zaf];omega)];all_goals rfl)|(refine xam D.bool ?_;rw[ok_5 od,xaw (by intro hh;simp_all[zaf];omega),Bool.false_and];done)|(refine xam D.bool ?_;rw[ok_2 od,xaw od,Bool.false_and];done)|(refine xam D.bool ?_;rw[ok_2 od];simp_all;done)|(refine xam D.bool ?_;rw[ok_3 od];simp_all;done)|(refine xam D.bool ?_;rw[ok_4 od];simp_all;done)|(refine xam D.bool ?_;rw[ok_5 od];first|(rw[xax od,Bool.true_and];done)|(rw[xaw od,Bool.false_and];done))|(refine xam D.bool ?_;rw[ok_0 od];done)|(exfalso;simp_all;done))
theorem zjT {g:Ty->Ex->Int->Bool×Int}{a:List Ty}{b:List Ex}{i:Nat}{c:Int} (ha:i<a.length) (hl:a.length=b.length) (h:(g (nth a i) (nth b i) c).1=false):
  zcl g (a.drop i) (b.drop i) c=(false,(g (nth a i) (nth b i) c).2):=by
 rw[zaZ ha,zaZ (l:=b) od,zcl,if_neg (by rw[h];simp)]
theorem zom {g:Ty->Ex->Int->Bool×Int}{a:List Ty}{b:List Ex}{i:Nat}{c:Int} (ha:i<a.length) (hl:a.length=b.length) (h:(g (nth a i) (nth b i) c).1=true):
  zcl g (a.drop i) (b.drop i) c=zcl g (a.drop (i+1)) (b.drop (i+1)) (g (nth a i) (nth b i) c).2:=by
 rw[zaZ ha,zaZ (l:=b) od,zcl,if_pos h]
theorem zlp {g:Ty->Ex->Int->Bool×Int}{a:List Ty}{b:List Ex}{i:Nat}{c:Int} (ha:a.length<=i):zcl g (a.drop i) (b.drop i) c=(true,c):=by
 rw[List.drop_eq_nil_of_le ha,zcl];simp
theorem zqE (w:List Data) (funs:List Ft) (vars:List Vt) (n:Nat) (t:Ty) (v:Ex) (c:Int) (h:(zba w funs vars n t v c).1=true):c<=(zba w funs vars n t v c).2/\(zba w funs vars n t v c).2<=60:=by
 have h1:=ziY w funs vars n t v c;have h2:=h1.2 h;rw[h1.1] at h;simp only[xad,xah] at h;omega
theorem oz{p:Prop}(h:p:=by dsimp only;omega):p:=h
theorem zhG {w:List Data}{funs:List Ft}{vars:List Vt} (hw:WT w) (hfl:funs.length<=1000000000000) (hvl:vars.length<=1000000000000) (hfa:∀f∈funs,TyIn w.length f.arg):∀(n:Nat){t:Ty}{d c:Int}{e:Ex},d+n=11->n<=10->TyIn w.length t->e.ok->0<=c->c<=1000000000000->
  FnD Tryz.prog 137 [.agg [.d (zae w),.d (zaF funs),.d (zaP vars)],.agg [.d (.i t.data),.d (.i t.index)],.agg [.d (.i e.op),.d (.i e.n),.d (.i e.ctor),.d (zaE e.kids)],.d (.i d),.ref 950 0] [(950,some (.box [.d (.i c)]))]
   (.d (.bool (zba w funs vars n t e c).1)) [(950,some (.box [.d (.i (zba w funs vars n t e c).2)]))]
 |0,t,d,c,e,hd,_,_,_,c0,c1=>by
  refine bd Tryz.f137 65 [] [] fun _ _ _ _ hk=>?_;refine bx 3005 ?_;refine bx 3006 ?_;refine bx 3007 ?_;refine ev (ar (so ty3 ?_));apply tv;apply sq<;>intro h1 h1p h1s;refine sqT ?_;refine rn [(950,some (.box [.d (.i (zba w funs vars 0 t e c).2)]))] (r1 I) (.eqd ?_) ⟨I,I⟩ (SubO.get ⟨.inr ?_,⟨.inl I,O⟩⟩) (zaj I);rotate_left 2;apply sq<;>intro h3 h3p h3s;refine rn [(950,some (.box [.d (.i (zba w funs vars 0 t e c).2)]))] (r1 I) (.eqd ?_) ⟨I,I⟩ (SubO.get ⟨.inr ?_,⟨.inl I,O⟩⟩) (zaj I);rotate_left 2;exfalso;simp at *;omega;all_goals (first|((rfl);done)|(rfl))
 |n+1,t,d,c,e,hd,hn,ht,hok,c0,c1=>by
  rw[xaL] at hok;by_cases h60:60<c+1
  ·skip
   refine bd Tryz.f137 65 [] [] fun _ _ _ _ hk=>?_;refine bx 3005 ?_;refine bx 3006 ?_;refine bx 3007 ?_;refine ev (ar (so ty3 ?_));apply tv;apply sq<;>intro h1 h1p h1s;refine sqT ?_;refine rn [(950,some (.box [.d (.i (zba w funs vars (n+1) t e c).2)]))] (r1 I) (.eqd ?_) ⟨I,I⟩ (SubO.get ⟨.inr ?_,⟨.inl I,O⟩⟩) (zaj I);rotate_left 2;apply sq<;>intro h3 h3p h3s;refine rn [(950,some (.box [.d (.i (zba w funs vars (n+1) t e c).2)]))] (r1 I) (.eqd ?_) ⟨I,I⟩ (SubO.get ⟨.inr ?_,⟨.inl I,O⟩⟩) (zaj I);rotate_left 2;exfalso;simp at *;omega;all_goals (first|((unfold zba;rw[if_pos h60]);done)|((unfold zba;rw[if_pos h60];rfl)))
  have hkd:=zfA hw hfl hvl ht (e:=e) (funs:=funs) (vars:=vars);have htl:=zke hw ht (funs:=funs) (e:=e);have hti:=zlw hw hfa ht (e:=e);by_cases hnd:zce w funs vars t e=true
  ·have hlen:(zal w funs t e).length=e.kids.length:=by
    unfold zce at hnd;rw[xad] at hnd;exact xas hnd.2
   have hok1:okE w funs vars t e=true:=by
    unfold zce at hnd;rw[xad] at hnd;exact hnd.1
   have hsc:zba w funs vars (n+1) t e c=zcl (zba w funs vars n) (zal w funs t e) e.kids (c+1):=by
    conv=>lhs;unfold zba
    rw[if_neg h60,if_pos hnd]
   rw[hsc];rw[hok1] at hkd;refine bd Tryz.f137 65 [] [] fun _ _ _ _ hk=>?_;refine bx 3005 ?_;refine bx 3006 ?_;refine bx 3007 ?_;refine ev (ar ?_ (by(constructor<;>omega)));refine so ty3 ?_;apply tv;apply sq<;>intro h1 h1p h1s;refine sqT ?_;exfalso;simp at *;omega;apply sq<;>intro h3 h3p h3s;exfalso;simp at *;omega;refine wc zci hkd I I ?_;refine ev ?_;apply sq<;>intro h4 h4p h4s;refine sqT ?_;focus (exfalso;(simp_all[xaJ];done))
   apply sq<;>intro h6 h6p h6s;try simp only[Q,xaJ] at h6p
   focus (exfalso;omega)
   refine xaA (ι:=Nat×Int) hk (fun x=>[(48,.d (.i (x.1:Int)))]) [10,13,14,49,50,51,52,53,54,55,56,57,58,59,60,61,62,63,64] (fun x=>[(950,some (.box [.d (.i x.2)]))]) (fun x=>x.1<=e.kids.length/\zcl (zba w funs vars n) ((zal w funs t e).drop x.1) (e.kids.drop x.1) x.2=zcl (zba w funs vars n) (zal w funs t e) e.kids (c+1)/\0<=x.2/\x.2<=60) (fun x=>e.kids.length-x.1) (0,c+1) ⟨by simp,by simp,by dsimp only;omega,by dsimp only;omega⟩ ⟨⟨_,I,xaV ?_⟩,O⟩ ⟨?_,O⟩ (fun x=>rfl) (fun x hg1=>?_);focus (rfl)
   focus (first|rfl|(simp[getH];done))
   refine evc [] [] ?_;apply sq<;>intro h7 h7p h7s<;>(try simp only[Q,xaJ] at h7p);refine ixq sl39 I I I (zdL od) I ?_;refine ev (ab 3014 tz41 ?_);refine ev (so ty41 ?_);apply tv;refine ixq zaJ I I I (zag od) I ?_;refine evd [] [] (ar ?_ (by(constructor<;>omega)));refine wd zoG (zhG hw hfl hvl hfa n (t:=nth (zal w funs t e) x.1) (c:=x.2) od od (hti _ (zao od)) (xaQ hok.2 _ (zao od)) od od) I I ⟨I,O⟩ ?_;refine evd [] [] (dr ?_);apply sq<;>intro h8 h8p h8s;refine rn [(950,some (.box [.d (.i (zcl (zba w funs vars n) (zal w funs t e) e.kids (c+1)).2)]))] (r1 I) (.eqd ?_) ⟨I,I⟩ (SubO.get ⟨.inr ?_,⟨.inl I,O⟩⟩) (zaj I);rotate_left 2;try simp only[Q,xaJ] at h8p
   refine ar ?_ (by(constructor<;>omega));refine xaj ((x.1+1,(zba w funs vars n (nth (zal w funs t e) x.1) (nth e.kids x.1) x.2).2)) ⟨(by
        have hz:(zba w funs vars n (nth (zal w funs t e) x.1) (nth e.kids x.1) x.2).1=true:=by simp_all
        have hb:=zqE w funs vars n _ _ _ hz;obtain⟨h1,h2,h3,h4⟩:=hg1;refine⟨by dsimp only;omega, ?_,by dsimp only;omega,by dsimp only;omega⟩;rw[<-h2,zom (i:=x.1) od hlen hz]),oz,sx ⟨⟨_,rfl,xaV ?_⟩,trivial⟩ ⟨?_,trivial⟩⟩
   focus (rfl)
   focus (first|rfl|(simp[getH];done))
   refine rn [(950,some (.box [.d (.i (zcl (zba w funs vars n) (zal w funs t e) e.kids (c+1)).2)]))] (r1 I) (.eqd ?_) ⟨I,I⟩ (SubO.get ⟨.inr ?_,⟨.inl I,O⟩⟩) (zaj I);rotate_left 2;all_goals (first|((refine xam D.bool ?_;first|(obtain⟨h1,h2,h3,h4⟩:=hg1;rw[<-h2,zlp od])|(obtain⟨h1,h2,h3,h4⟩:=hg1;rw[<-h2,zjT od hlen ox]));done)|(first|(obtain⟨h1,h2,h3,h4⟩:=hg1;show some (Res.box _)=some (Res.box _);rw[<-h2,zlp od])|(obtain⟨h1,h2,h3,h4⟩:=hg1;show some (Res.box _)=some (Res.box _);rw[<-h2,zjT od hlen ox])))
  ·have hsc:zba w funs vars (n+1) t e c=(false,c+1):=by
    conv=>lhs;unfold zba
    rw[if_neg h60,if_neg hnd]
   have hno:okE w funs vars t e=true->(zal w funs t e).length≠e.kids.length:=fun h hl=>hnd (by unfold zce;rw[h,xax hl];rfl);rw[hsc];refine bd Tryz.f137 65 [] [] fun _ _ _ _ hk=>?_;refine bx 3005 ?_;refine bx 3006 ?_;refine bx 3007 ?_;refine ev (ar (so ty3 ?_));apply tv;apply sq<;>intro h1 h1p h1s;refine sqT ?_;exfalso;simp at *;omega;apply sq<;>intro h3 h3p h3s;exfalso;simp at *;omega;refine wc zci hkd I I ?_;refine ev ?_;apply sq<;>intro h4 h4p h4s;refine sqT ?_;refine rn [(950,some (.box [.d (.i (c+1))]))] (r1 I) (.eqd ?_) ⟨I,I⟩ (SubO.get ⟨.inr ?_,⟨.inl I,O⟩⟩) (zaj I);rotate_left 2;apply sq<;>intro h6 h6p h6s;refine rn [(950,some (.box [.d (.i (c+1))]))] (r1 I) (.eqd ?_) ⟨I,I⟩ (SubO.get ⟨.inr ?_,⟨.inl I,O⟩⟩) (zaj I);rotate_left 2;try simp only[Q,xaJ] at h6p
   exfalso;have:=hno (by first|assumption|simp_all);omega;all_goals (first|((rfl);done)|(rfl))
theorem zhF {w:List Data}{funs:List Ft}{vars:List Vt} (hw:WT w) (hfl:funs.length<=1000000000000) (hvl:vars.length<=1000000000000) (hfa:∀f∈funs,TyIn w.length f.arg){t:Ty}{e:Ex} (ht:TyIn w.length t) (hok:e.ok):
  FnD Tryz.prog 65 [.agg [.d (zae w),.d (zaF funs),.d (zaP vars)],.agg [.d (.i t.data),.d (.i t.index)],.agg [.d (.i e.op),.d (.i e.n),.d (.i e.ctor),.d (zaE e.kids)]] [] (.d (.bool (isE w funs vars t e))) []:=by
 have hz:=zsY w funs vars t e;refine bd Tryz.f65 12 [] [] fun _ _ _ _ hk=>?_;refine bx 3003 ?_;refine bx 3004 ?_;refine bx 3005 ?_;refine ev (ab 950 tz3 ?_);refine so ty3 ?_;apply tv;refine wd zoG (zhG hw hfl hvl hfa 10 (c:=0) od od ht hok od od) I I ⟨I,O⟩ ?_;refine ev (rq ?_);rotate_left;all_goals (rw[hz])
def tyS (s:Nat):Ty:=⟨((s / 4:Nat):Int),((s % 4:Nat):Int)⟩
def zdI (t:Ty):Nat:=t.data.toNat*4+t.index.toNat
def dv (f:Nat->Nat) (t:Ty):Nat:=if t.data = -1 then 1 else f (zdI t)
def zbE (f:Nat->Nat):Nat->List Ty->Nat
 |m,[]=>m+1
 |m,t::r=>if dv f t=0 then 0 else zbE f (max m (dv f t)) r
def most (w:List Data) (f:Nat->Nat) (t:Ty) (c:Int):Nat:=zbE f 0 (zac w t c)
def updF (f:Nat->Nat) (s n:Nat):Nat->Nat:=fun i=>if i=s then n else f i
def zbG (w:List Data) (s:Nat) (f:Nat->Nat) (c:Int):Nat->Nat:=
 if 0<most w f (tyS s) c/\(f s=0\/most w f (tyS s) c<f s) then updF f s (most w f (tyS s) c) else f
def zc6 (w:List Data) (f:Nat->Nat) (s:Nat):Nat->Nat:=(za3 w (tyS s)).foldl (zbG w s) f
def zf6 (w:List Data) (f:Nat->Nat):Nat->Nat:=(List.range (w.length*4)).foldl (zc6 w) f
def zbM (w:List Data):Nat->Nat->Nat
 |0=>fun _=>0
 |k+1=>zf6 w (zbM w k)
def zab (w:List Data):Nat->Nat:=zbM w (w.length*4+1)
def Hd (w:List Data):Nat->Ty->Prop
 |0,_=>False
 |d+1,t=>t.data = -1\/∃c∈za3 w t,t.data≠ -1/\∀u∈zac w t c,Hd w d u
def InS (n:Nat) (u:Ty):Prop:=u.data = -1\/(zdI u<n/\tyS (zdI u)=u)
def ClosedT (w:List Data):Prop:=∀s,s<w.length*4->∀c∈za3 w (tyS s),∀u∈zac w (tyS s) c,InS (w.length*4) u
theorem zi4 (s:Nat):(tyS s).data≠ -1:=by simp only[tyS];omega
theorem Hd_mono (w:List Data):∀(d:Nat) (t:Ty),Hd w d t->Hd w (d+1) t
 |0,_,h=>h.elim
 |d+1,t,h=>by
  rcases h with h|⟨c,hc,h1,h⟩
  ·exact .inl h
  ·exact .inr ⟨c,hc,h1,fun u hu=>Hd_mono w d u (h u hu)⟩
theorem Hd_le {w:List Data}{d e:Nat}{t:Ty} (h:d<=e) (hd:Hd w d t):Hd w e t:=by
 induction h with
 |refl=>exact hd
 |step _ ih=>exact Hd_mono w _ t ih
section
variable {w:List Data}
def Bet (f g:Nat->Nat):Prop:=∀s,0<f s->0<g s/\g s<=f s
def Snd (w:List Data) (f:Nat->Nat):Prop:=∀s,s<w.length*4->0<f s->Hd w (f s) (tyS s)
def Cmp (w:List Data) (k:Nat) (f:Nat->Nat):Prop:=∀s,s<w.length*4->∀d,d<=k->Hd w d (tyS s)->0<f s/\f s<=d
theorem Bet.refl (f:Nat->Nat):Bet f f:=fun s h=>⟨h,Nat.le_refl _⟩
theorem Bet.trans {f g h:Nat->Nat} (a:Bet f g) (b:Bet g h):Bet f h:=fun s hs=>⟨(b s (a s hs).1).1,Nat.le_trans (b s (a s hs).1).2 (a s hs).2⟩
theorem Cmp.bet {k:Nat}{f g:Nat->Nat} (h:Cmp w k f) (b:Bet f g):Cmp w k g:=fun s hs d hd hh=>
 ⟨(b s (h s hs d hd hh).1).1,Nat.le_trans (b s (h s hs d hd hh).1).2 (h s hs d hd hh).2⟩
theorem zhO {f:Nat->Nat}:∀ {l:List Ty}{m k:Nat},m<=k->(∀u∈l,0<dv f u/\dv f u<=k)->0<zbE f m l/\zbE f m l<=k+1
 | [],m,k,hm,_=>by simp only[zbE];omega
 |t::r,m,k,hm,h=>by
  have h1:=h t og;simp only[zbE];rw[if_neg od];exact zhO od (fun u hu=>h u (by simp[hu]))
theorem zfX {f:Nat->Nat}:∀ {l:List Ty}{m:Nat},0<zbE f m l->m<zbE f m l/\∀u∈l,0<dv f u/\dv f u<zbE f m l
 | [],m,_=>⟨by simp only[zbE];omega,fun u hu=>by simp at hu⟩
 |t::r,m,h=>by
  simp only[zbE] at h ⊢;by_cases h0:dv f t=0
  ·rw[if_pos h0] at h;omega
  ·rw[if_neg h0] at h ⊢;obtain⟨h1,h2⟩:=zfX h;refine⟨by omega,fun u hu=>?_⟩;rcases List.mem_cons.1 hu with rfl|hu
   ·omega
   ·exact h2 u hu
theorem zn5 {f:Nat->Nat} (hs:Snd w f){u:Ty} (hu:InS (w.length*4) u) (h:0<dv f u):Hd w (dv f u) u:=by
 unfold dv at h ⊢;split
 ·rename_i he;exact .inl he
 ·rename_i he;rw[if_neg he] at h;rcases hu with hu|⟨h1,h2⟩
  ·exact absurd hu he
  ·have:=hs _ h1 h;rwa [h2] at this
theorem zmg {k:Nat}{f:Nat->Nat} (hc:Cmp w k f){u:Ty} (hu:InS (w.length*4) u) (h:Hd w k u):0<dv f u/\dv f u<=k:=by
 unfold dv;split
 ·cases k with
  |zero=>exact h.elim
  |succ k=>omega
 ·rename_i he;rcases hu with hu|⟨h1,h2⟩
  ·exact absurd hu he
  ·exact hc _ h1 k (Nat.le_refl _) (by rw[h2];exact h)
theorem zlo {s:Nat}{f:Nat->Nat}{c:Int}:Bet f (zbG w s f c):=by
 intro i hi;unfold zbG;split
 ·rename_i h;unfold updF;split
  ·subst i;omega
  ·omega
 ·omega
theorem zpJ (hcl:ClosedT w){s:Nat}{f:Nat->Nat}{c:Int} (hs:s<w.length*4) (hc:c∈za3 w (tyS s)) (h:Snd w f):Snd w (zbG w s f c):=by
 unfold zbG;split
 ·rename_i hn;intro i hi h0;unfold updF at h0 ⊢;by_cases he:i=s
  ·subst he;rw[if_pos rfl] at h0 ⊢;obtain⟨h1,h2⟩:=zfX (m:=0) hn.1;obtain⟨n,hn'⟩:∃n,most w f (tyS i) c=n+1:=⟨most w f (tyS i) c-1,by omega⟩;rw[hn'];refine .inr ⟨c,hc,zi4 _,fun u hu=>?_⟩;have h3:=h2 u hu;have h4:zbE f 0 (zac w (tyS i) c)=n+1:=hn';exact Hd_le od (zn5 h (hcl i hi c hc u hu) h3.1)
  ·rw[if_neg he] at h0 ⊢;exact h i hi h0
 ·exact h
theorem zpH (hcl:ClosedT w){s k:Nat}{f:Nat->Nat}{c:Int} (hs:s<w.length*4) (hc:c∈za3 w (tyS s)) (h:Cmp w k f) (hh:∀u∈zac w (tyS s) c,Hd w k u):
  0<zbG w s f c s/\zbG w s f c s<=k+1:=by
 have hm:=zhO (f:=f) (m:=0) (k:=k) od (fun u hu=>zmg h (hcl s hs c hc u hu) (hh u hu));have hm':0<most w f (tyS s) c/\most w f (tyS s) c<=k+1:=hm;unfold zbG;split
 ·unfold updF;rw[if_pos rfl];exact hm'
 ·rename_i hn;have:¬(f s=0\/most w f (tyS s) c<f s):=fun h2=>hn ⟨hm'.1,h2⟩;omega
theorem znI (hcl:ClosedT w){s k:Nat} (hs:s<w.length*4):∀(C:List Int) (f:Nat->Nat),(∀c∈C,c∈za3 w (tyS s))->Snd w f->Cmp w k f->
  Bet f (C.foldl (zbG w s) f)/\Snd w (C.foldl (zbG w s) f)/\∀c∈C,(∀u∈zac w (tyS s) c,Hd w k u)->0<C.foldl (zbG w s) f s/\C.foldl (zbG w s) f s<=k+1
 | [],f,_,h1,_=>⟨Bet.refl f,h1,fun c hc=>by simp at hc⟩
 |c::r,f,hC,h1,h2=>by
  have hc:=hC c og;obtain⟨g1,g2,g3⟩:=znI hcl hs r (zbG w s f c) (fun x hx=>hC x (by simp[hx])) (zpJ hcl hs hc h1) (h2.bet zlo);refine⟨zlo.trans g1,g2,fun x hx hh=>?_⟩;rcases List.mem_cons.1 hx with rfl|hx
  ·obtain⟨q1,q2⟩:=zpH hcl hs hc h2 hh;exact⟨(g1 s q1).1,Nat.le_trans (g1 s q1).2 q2⟩
  ·exact g3 x hx hh
theorem zqG (hcl:ClosedT w){s k:Nat} (hs:s<w.length*4){f:Nat->Nat} (h1:Snd w f) (h2:Cmp w k f):
  Bet f (zc6 w f s)/\Snd w (zc6 w f s)/\∀d,d<=k+1->Hd w d (tyS s)->0<zc6 w f s s/\zc6 w f s s<=d:=by
 obtain⟨g1,g2,g3⟩:=znI hcl hs (za3 w (tyS s)) f (fun c hc=>hc) h1 h2;refine⟨g1,g2,fun d hd hh=>?_⟩;rcases Nat.lt_or_ge d (k+1) with h|h
 ·have:=h2 s hs d od hh;exact⟨(g1 s this.1).1,Nat.le_trans (g1 s this.1).2 this.2⟩
 ·obtain rfl:d=k+1:=by omega
  rcases hh with hh|⟨c,hc,_,hh⟩
  ·exact absurd hh (zi4 s)
  ·exact g3 c hc hh
theorem zlq (hcl:ClosedT w){k:Nat}:∀(L:List Nat) (f:Nat->Nat),(∀s∈L,s<w.length*4)->Snd w f->Cmp w k f->
  Bet f (L.foldl (zc6 w) f)/\Snd w (L.foldl (zc6 w) f)/\∀s∈L,∀d,d<=k+1->Hd w d (tyS s)->0<L.foldl (zc6 w) f s/\L.foldl (zc6 w) f s<=d
 | [],f,_,h1,_=>⟨Bet.refl f,h1,fun s hs=>by simp at hs⟩
 |s::r,f,hL,h1,h2=>by
  obtain⟨p1,p2,p3⟩:=zqG hcl (hL s og) h1 h2;obtain⟨g1,g2,g3⟩:=zlq hcl r (zc6 w f s) (fun x hx=>hL x (by simp[hx])) p2 (h2.bet p1);refine⟨p1.trans g1,g2,fun x hx d hd hh=>?_⟩;rcases List.mem_cons.1 hx with rfl|hx
  ·have:=p3 d hd hh;exact⟨(g1 x this.1).1,Nat.le_trans (g1 x this.1).2 this.2⟩
  ·exact g3 x hx d hd hh
theorem zpV (hcl:ClosedT w){k:Nat}{f:Nat->Nat} (h1:Snd w f) (h2:Cmp w k f):Bet f (zf6 w f)/\Snd w (zf6 w f)/\Cmp w (k+1) (zf6 w f):=by
 obtain⟨g1,g2,g3⟩:=zlq hcl (List.range (w.length*4)) f (fun s hs=>List.mem_range.1 hs) h1 h2;exact⟨g1,g2,fun s hs d hd hh=>g3 s (List.mem_range.2 hs) d hd hh⟩
theorem zdt (hcl:ClosedT w):∀k,Snd w (zbM w k)/\Cmp w k (zbM w k)
 |0=>⟨fun s _ h=>absurd h (by simp[zbM]),fun s _ d hd hh=>by
   obtain rfl:d=0:=by omega
   exact hh.elim⟩
 |k+1=>(zpV hcl (zdt hcl k).1 (zdt hcl k).2).2
theorem zhC (hcl:ClosedT w){d:Nat} (h1:1<=d) (h:∀s,s<w.length*4->Hd w (d+1) (tyS s)->Hd w d (tyS s)):∀e s,s<w.length*4->Hd w e (tyS s)->Hd w d (tyS s)
 |0,s,_,hh=>hh.elim
 |e+1,s,hs,hh=>by
  refine h s hs ?_;rcases hh with hh|⟨c,hc,h2,hh⟩
  ·exact .inl hh
  ·refine .inr ⟨c,hc,h2,fun u hu=>?_⟩;rcases hcl s hs c hc u hu with hi|⟨q1,q2⟩
   ·cases d with
    |zero=>omega
    |succ d=>exact .inl hi
   ·have:=zhC hcl h1 h e _ q1 (by rw[q2];exact hh u hu);rwa [q2] at this
open Classical in
noncomputable def cntH (w:List Data) (d:Nat):Nat:=(List.range (w.length*4)).countP (fun s=>decide (Hd w d (tyS s)))
theorem zkZ {p q:Nat->Bool}:∀ {l:List Nat},(∀x∈l,p x=true->q x=true)->(∃x∈l,p x=false/\q x=true)->l.countP p<l.countP q
 | [],_,h=>by obtain⟨x,hx,_⟩:=h;simp at hx
 |y::r,hpq,h=>by
  have hle:r.countP p<=r.countP q:=List.countP_mono_left (fun x hx hp=>hpq x (by simp[hx]) hp);rw[List.countP_cons,List.countP_cons];obtain⟨x,hx,h1,h2⟩:=h;rcases List.mem_cons.1 hx with rfl|hx
  ·rw[h1,h2];simp only[Bool.false_eq_true,if_false,if_true];omega
  ·have:=zkZ (fun x hx hp=>hpq x (by simp[hx]) hp) ⟨x,hx,h1,h2⟩;have h3:=hpq y og;cases hp:p y with
   |false=>simp only[Bool.false_eq_true,if_false];omega
   |true=>rw[h3 hp];simp only[if_true];omega
open Classical in
theorem zsJ {d:Nat} (h:¬ ∀s,s<w.length*4->Hd w (d+1) (tyS s)->Hd w d (tyS s)):cntH w d<cntH w (d+1):=by
 have h2:∃s,s<w.length*4/\Hd w (d+1) (tyS s)/\¬Hd w d (tyS s):=by
  refine Classical.byContradiction fun hn=>h fun s hs hh=>Classical.byContradiction fun hd=>hn ⟨s,hs,hh,hd⟩
 obtain⟨s,hs,h3,h4⟩:=h2;unfold cntH;exact zkZ (fun x _ hx=>by rw[xah] at hx ⊢;exact Hd_mono w d _ hx) ⟨s,List.mem_range.2 hs,by simp[h4],by simp[h3]⟩
theorem zoY:∀m,(∀d,1<=d->d<=m->¬ ∀s,s<w.length*4->Hd w (d+1) (tyS s)->Hd w d (tyS s))->m<=cntH w (m+1)
 |0,_=>Nat.zero_le _
 |m+1,h=>by
  have:=zoY m (fun d h1 h2=>h d h1 od);have:=zsJ (w:=w) (d:=m+1) (h (m+1) od od);omega
theorem zsT (hcl:ClosedT w){e s:Nat} (hs:s<w.length*4) (h:Hd w e (tyS s)):Hd w (w.length*4+1) (tyS s):=by
 have hex:∃d,1<=d/\d<=w.length*4+1/\∀s,s<w.length*4->Hd w (d+1) (tyS s)->Hd w d (tyS s):=by
  refine Classical.byContradiction fun hn=>?_;have h1:=zoY (w:=w) (w.length*4+1) (fun d h1 h2 h3=>hn ⟨d,h1,h2,h3⟩);have h2:cntH w (w.length*4+1+1)<=(List.range (w.length*4)).length:=List.countP_le_length;rw[List.length_range] at h2;omega
 obtain⟨d,h1,h2,h3⟩:=hex;exact Hd_le h2 (zhC hcl h1 h3 e s hs h)
theorem zpI {s i:Nat}{f:Nat->Nat}{c:Int} (h:i≠s):zbG w s f c i=f i:=by
 unfold zbG;split
 ·unfold updF;rw[if_neg h]
 ·rfl
theorem znJ {s i:Nat} (h:i≠s):∀(C:List Int) (f:Nat->Nat),C.foldl (zbG w s) f i=f i
 | [],_=>rfl
 |c::r,f=>by rw[List.foldl_cons,znJ h r,zpI h]
theorem zlr {i:Nat}:∀(L:List Nat) (f:Nat->Nat),i∉L->L.foldl (zc6 w) f i=f i
 | [],_,_=>rfl
 |s::r,f,h=>by
  simp only[List.mem_cons,not_or] at h;rw[List.foldl_cons,zlr r _ h.2];exact znJ h.1 _ _
theorem zgS {i:Nat} (h:w.length*4<=i):∀k,zbM w k i=0
 |0=>rfl
 |k+1=>by
  show zf6 w (zbM w k) i=0
  unfold zf6;rw[zlr _ _ oq,zgS h k]
theorem zrF (hcl:ClosedT w){k:Nat} (hk:w.length*4+1<=k):zbM w k=zab w:=by
 have key:∀a b,w.length*4+1<=a->w.length*4+1<=b->∀s,s<w.length*4->0<zbM w a s->0<zbM w b s/\zbM w b s<=zbM w a s:=by
  intro a b ha hb s hs h0;have h1:=(zdt hcl a).1 s hs h0;have h2:=zsT hcl hs h1;have h3:=(zdt hcl a).2 s hs _ ha h2;exact(zdt hcl b).2 s hs _ od h1
 funext s
 rcases Nat.lt_or_ge s (w.length*4) with hs|hs
 ·have h1:=key k (w.length*4+1) hk (Nat.le_refl _) s hs;have h2:=key (w.length*4+1) k (Nat.le_refl _) hk s hs;show zbM w k s=zbM w (w.length*4+1) s
  omega
 ·show zbM w k s=zbM w (w.length*4+1) s
  rw[zgS hs,zgS hs]
def Strict (f g:Nat->Nat):Prop:=∃s,0<g s/\(f s=0\/g s<f s)
theorem Strict.bet {f g h:Nat->Nat} (a:Strict f g) (b:Bet g h):Strict f h:=by
 obtain⟨s,h1,h2⟩:=a;have:=b s h1;exact⟨s,this.1,by omega⟩
theorem zmB {f:Nat->Nat}{b:Nat} (hb:∀s,f s<=b) (h1:1<=b):∀ {l:List Ty}{m:Nat},m<=b->zbE f m l<=b+1
 | [],m,hm=>by simp only[zbE];omega
 |t::r,m,hm=>by
  simp only[zbE];split
  ·omega
  ·refine zmB hb h1 ?_;have:dv f t<=b:=by
    unfold dv;split
    ·exact h1
    ·exact hb _
   omega
theorem zqC {s:Nat}{f:Nat->Nat}{c:Int}{b:Nat} (hb:∀s,f s<=b) (h1:1<=b):∀i,zbG w s f c i<=b+1:=by
 intro i;unfold zbG;split
 ·unfold updF;split
  ·exact zmB hb h1 (Nat.zero_le _)
  ·have:=hb i;omega
 ·have:=hb i;omega
theorem zmP {s:Nat}:∀(C:List Int) (f:Nat->Nat) (b:Nat),(∀s,f s<=b)->1<=b->∀i,C.foldl (zbG w s) f i<=b+C.length
 | [],f,b,hb,_,i=>by have:=hb i;simpa using this
 |c::r,f,b,hb,h1,i=>by
  have:=zmP (s:=s) r (zbG w s f c) (b+1) (zqC hb h1) od i;rw[List.foldl_cons,xab];omega
theorem zi2 {m:Nat}:∀(L:List Nat) (f:Nat->Nat) (b:Nat),(∀s∈L,(za3 w (tyS s)).length<=m)->(∀s,f s<=b)->1<=b->∀i,L.foldl (zc6 w) f i<=b+L.length*m
 | [],f,b,_,hb,_,i=>by have:=hb i;simpa using this
 |s::r,f,b,hm,hb,h1,i=>by
  have h2:=zmP (w:=w) (s:=s) (za3 w (tyS s)) f b hb h1;have h3:=hm s og;have:=zi2 r (zc6 w f s) (b+m) (fun x hx=>hm x (by simp[hx])) (fun j=>by have:=h2 j;show _<=_;unfold zc6;omega) od i;rw[List.foldl_cons,xab,Nat.add_mul];omega
theorem znx {m:Nat} (hm:∀s,s<w.length*4->(za3 w (tyS s)).length<=m):∀k i,zbM w k i<=1+k*(w.length*4*m)
 |0,i=>by simp[zbM]
 |k+1,i=>by
  have:=zi2 (w:=w) (m:=m) (List.range (w.length*4)) (zbM w k) (1+k*(w.length*4*m)) (fun s hs=>hm s (List.mem_range.1 hs)) (znx hm k) od i;show zf6 w (zbM w k) i<=_
  unfold zf6;rw[List.length_range] at this;rw[Nat.add_mul];omega
end
def tabC (n:Nat) (f:Nat->Nat):List AV:=(List.range n).map fun s=> .d (.i (f s:Int))
abbrev zeN (n:Nat) (f:Nat->Nat):D:= .sl ((List.range n).map fun s=>[D.i (f s:Int)])
theorem zkR {n i s:Nat}{f:Nat->Nat} (h:s<n) (e:i=s):(tabC n f)[i]?=some (.d (.i (f s:Int))):=by
 subst e;simp[tabC,h]
theorem zbk {n:Nat}{f:Nat->Nat}:AV.idsL (tabC n f)=[]:=by
 unfold tabC;induction List.range n with
 |nil=>rfl
 |cons x r ih=>rw[xaf,AV.idsL,ih];rfl
theorem zoW {n:Nat}{f:Nat->Nat}:zbY n 1 (tabC n f)=some ((List.range n).map fun s=>[D.i (f s:Int)]):=by
 have:=zeG (f:=fun s=>[D.i (f s:Int)]) (k:=1) (l:=List.range n) (fun _ _=>rfl);rw[List.length_range] at this;rw[<-this];congr 1
 unfold tabC;induction List.range n with
 |nil=>rfl
 |cons x r ih=>rw[xaf,List.flatMap_cons,ih];rfl
theorem znF {v:AV}:∀ {cs:List AV}{i:Nat},i<cs.length->putC cs i [v]=some (cs.set i v)
 |x::r,0,_=>by cases r<;>rfl
 |x::r,i+1,h=>by
  have:=znF (v:=v) (cs:=r) (i:=i) (by simpa using h);simp only[putC,this,List.set_cons_succ]
theorem zrX {n i s v:Nat}{f:Nat->Nat}{x:Int} (h:s<n) (e:i=s) (ex:x=(v:Int)):putC (tabC n f) i [.d (.i x)]=some (tabC n (updF f s v)):=by
 subst e ex;rw[znF (by simp[tabC,h])];congr 1
 refine List.ext_getElem (by simp[tabC]) (fun j h1 h2=>?_);simp only[tabC,xac,List.length_range] at h2;rw[List.getElem_set];simp only[tabC,List.getElem_map,List.getElem_range,updF];by_cases hj:i=j
 ·subst hj;simp
 ·rw[if_neg hj,if_neg (fun h=>hj h.symm)]
theorem InS.facts {n:Nat}{a k:Int} (h:InS n ⟨a,k⟩) (ha:¬a = -1):zdI ⟨a,k⟩<n/\a*4+k=(zdI ⟨a,k⟩:Int)/\0<=a/\0<=k/\k<=3/\a<=n:=by
 rcases h with h|⟨h1,h2⟩
 ·exact absurd h ha
 ·have e1:=xam Ty.data h2;have e2:=xam Ty.index h2;simp only[tyS] at e1 e2;omega
theorem zq5 {f:Nat->Nat}{a k:Int} (ha:¬a = -1):dv f ⟨a,k⟩=f (zdI ⟨a,k⟩):=by unfold dv;rw[if_neg ha]
theorem zo8 {f:Nat->Nat}{a k:Int} (ha:a = -1):dv f ⟨a,k⟩=1:=by unfold dv;rw[if_pos ha]
theorem zlN {f:Nat->Nat}{b:Nat} (hb:∀s,f s<=b) (h1:1<=b) (t:Ty):dv f t<=b:=by
 unfold dv;split
 ·exact h1
 ·exact hb _
theorem zgu {a k:Int} (ha:0<=a/\a<=1000) (hk:0<=k/\k<=1000):FnD Tryz.prog 245 [.agg [.d (.i a),.d (.i k)]] [] (.d (.i (a*4+k))) []:=by
 refine bd Tryz.f245 9 [] [] fun _ _ _ _ hk=>?_;refine bx 3001 ?_;refine ev (ar (ar ?_));focus (refine rq ?_;all_goals ((simp[];done)))
theorem oi{p:Prop}(h:p:=by first|rfl|(simp only[zax,occH,occE,Res.ids,xai,List.nil_append,AV.idsL,AV.ids,zai,zah,zar,zaO,xaf,List.map_nil,upC,zbk];rfl)):p:=h
theorem ot{p:Prop}(h:p:=by first|rfl|(simp only[zbs,List.all_cons,List.all_nil,zcP,zcu,AV.idsL,AV.ids,zai,zah,xaf,List.map_nil,zbk];rfl)):p:=h
theorem zj2 {n:Nat}{f:Nat->Nat}{a k:Int} (h:InS n ⟨a,k⟩) (hn:n<=100):
  FnD Tryz.prog 166 [.ms 70 n,.agg [.d (.i a),.d (.i k)]] [(70,some (.box (tabC n f)))] (.d (.i (dv f ⟨a,k⟩))) []:=by
 have hs:=h.facts;refine bd Tryz.f166 13 [12] [] fun _ _ _ _ hk=>?_;refine Walk.box (id:=3003) .none I I I oi oi oi oi ?_;refine evs [12] [] ?_;apply sq<;>intro h1 h1p h1s<;>(try simp only[Q] at h1p);refine rn [] (r1 I) (.eqd ?_) ⟨I,I⟩ (SubH.get ⟨I,O⟩) (fun _ h=>h);rotate_left;refine Walk.call (cr:=[]) zoR (zgu (by have:=hs h1p;omega) (by have:=hs h1p;omega)) I .none I I (LeL.refl _) O I ot oi ?_;refine xbC (i:=zdI ⟨a,k⟩) zbd .none I I I (hs h1p).2.1 ((hs h1p).1) (xbE ty3 .none I I I ((zkR (hs h1p).1 od)) ?_);refine evs [12] [] (rn [] (r1 I) (.eqd ?_) ⟨I,I⟩ (SubH.get ⟨I,O⟩) (fun _ h=>h));rotate_left;all_goals (first|(rw[zo8 oh];rfl)|(rw[zq5 oh]))
theorem zbS {n:Nat}{f:Nat->Nat}{a k:Int} (h:InS n ⟨a,k⟩) (hn:n<=100):
  FnD Tryz.prog 166 [.d (zeN n f),.agg [.d (.i a),.d (.i k)]] [] (.d (.i (dv f ⟨a,k⟩))) []:=by
 have hs:=h.facts;refine bd Tryz.f166 13 [] [] fun _ _ _ _ hk=>?_;refine bx 3003 ?_;refine ev ?_;apply sq<;>intro h1 h1p h1s<;>(try simp only[Q] at h1p);refine rq ?_;rotate_left;refine wc zoR (zgu (by have:=hs h1p;omega) (by have:=hs h1p;omega)) I I ?_;refine ixq (i:=zdI ⟨a,k⟩) zbd I I (hs h1p).2.1 (by simp[(hs h1p).1];rfl) I ?_;refine ev (rq ?_);rotate_left;all_goals (first|(rw[zo8 oh];rfl)|(rw[zq5 oh]))
theorem zhp {w:List Data} (hw:WT w){a k c:Int} (ht:TyIn w.length ⟨a,k⟩) (hc:c∈zau w ⟨a,k⟩):(zac w ⟨a,k⟩ c).length<=1000000000000:=by
 obtain⟨d,rfl,h1,h2⟩:=za4 ht hc;exact znW hw h1 h2
theorem zkN {w:List Data} (hw:WT w){n:Nat}{f:Nat->Nat}{a k c:Int} (ht:TyIn w.length ⟨a,k⟩) (hc:c∈zau w ⟨a,k⟩) (hn:n<=100) (hb:∀s,f s<=100000) (hin:∀u∈zac w ⟨a,k⟩ c,InS n u):
  FnD Tryz.prog 244 [.d (zae w),.ms 70 n,.agg [.d (.i a),.d (.i k)],.d (.i c)] [(70,some (.box (tabC n f)))] (.d (.i (most w f ⟨a,k⟩ c))) []:=by
 have hl:=zhp hw ht hc;have hd:=zlN hb od;refine bd Tryz.f244 37 [] [] fun _ _ _ _ hk=>?_;refine Walk.box (id:=3006) .none I I I (by(simp only[zax,occH,occE,Res.ids,xai,List.nil_append,AV.idsL,AV.ids,zai,zah,zar,zaO,xaf,List.map_nil,upC,zbk];rfl)) (by(simp only[zax,occH,occE,Res.ids,xai,List.nil_append,AV.idsL,AV.ids,zai,zah,zar,zaO,xaf,List.map_nil,upC,zbk];rfl)) (by(simp only[zax,occH,occE,Res.ids,xai,List.nil_append,AV.idsL,AV.ids,zai,zah,zar,zaO,xaf,List.map_nil,upC,zbk];rfl)) (by(simp only[zax,occH,occE,Res.ids,xai,List.nil_append,AV.idsL,AV.ids,zai,zah,zar,zaO,xaf,List.map_nil,upC,zbk];rfl)) (ev (Walk.call (cr:=[]) zdm (zbW hw ht hc) I .none I I (LeL.refl _) O I ot oi ?_));refine ev (xaA (ι:=List (Ty)×List (Ty)×(Nat)) hk (fun x=>[(11,.d (.i (x.1.length:Int))),(10,.d (.i (x.2.2:Int)))]) [8,12,17,18,19,20,21,22,23,24,25,26,27,28,29,30,31,32,33,34] (fun x=>[]) (fun x=>x.1++x.2.1=zac w ⟨a,k⟩ c/\x.2.2<=100000/\zbE f x.2.2 x.2.1=zbE f 0 (zac w ⟨a,k⟩ c)) (fun x=>x.2.1.length) ([],zac w ⟨a,k⟩ c,0) ⟨by simp,by simp,I⟩ ⟨⟨_,I,xaV ?_⟩,⟨⟨_,I,xaV ?_⟩,O⟩⟩ O (fun x=>rfl) (fun x hg1=>?_));iterate 2 focus ((simp;done))
 obtain⟨pre,rest,m⟩:=x;dsimp only at hg1 ⊢;refine evc [] [] ?_;apply sq<;>intro h1 h1p h1s<;>(try simp only[Q] at h1p);rcases rest with _|⟨y,rest⟩
 ·exfalso;simp_all
 have hdy:=hd y;have hye:dv f ⟨y.data,y.index⟩=dv f y:=rfl;refine ixq zaJ I I I (zaM hg1.1) I (ev (Walk.call (cr:=[]) zeL (zj2 (f:=f) (a:=y.data) (k:=y.index) (hin y (by rw[<-hg1.1];simp)) hn) I .none I I (.cons (LeA.msn (by first|rfl|(simp;done))) (.cons (.refl _) .nil)) ⟨I,O⟩ I ot oi ?_));refine ev ?_;apply sq<;>intro h2 h2p h2s<;>(try simp only[Q] at h2p);refine rn [] (r1 I) (.eqd ?_) ⟨I,I⟩ (SubH.get ⟨I,O⟩) (fun _ h=>h);rotate_left;apply sq<;>intro h3 h3p h3s<;>(try simp only[Q] at h3p);refine ar (xaj ((pre++[y],rest,max m (dv f y))) ⟨⟨(by have hz:=hg1.1;rw[<-hz];simp),⟨(by have:=hd y;dsimp only;omega),(by rw[<-hg1.2.2];simp only[zbE];rw[if_neg (by have:=hd y;omega)])⟩⟩,og,sx ⟨⟨_,I,xaV ?_⟩,⟨⟨_,I,xaV ?_⟩,O⟩⟩ O⟩);iterate 2 focus (first|(simp;done)|(dsimp only;omega))
 refine ar (xaj ((pre++[y],rest,max m (dv f y))) ⟨⟨(by have hz:=hg1.1;rw[<-hz];simp),⟨(by have:=hd y;dsimp only;omega),(by rw[<-hg1.2.2];simp only[zbE];rw[if_neg (by have:=hd y;omega)])⟩⟩,og,sx ⟨⟨_,I,xaV ?_⟩,⟨⟨_,I,xaV ?_⟩,O⟩⟩ O⟩);iterate 2 focus (first|(simp;done)|(dsimp only;omega))
 have hrest:rest=[]:=by
  rcases rest with _|⟨a,b⟩
  ·rfl
  ·exfalso;have hz:=xam List.length (hg1.1);simp only[xaa,xab,xac] at hz;omega
 subst hrest;refine ar (rn [] (r1 I) (.eqd ?_) ⟨I,I⟩ (SubH.get ⟨I,O⟩) (fun _ h=>h));rotate_left;all_goals (refine xam D.i ?_;unfold most;rw[<-hg1.2.2];first|(simp only[zbE];rw[if_pos od];rfl)|(simp only[zbE];omega))
structure Dp (w:List Data):Prop where
 wt:WT w
 cl:ClosedT w
 four:w.length<=4
 ct:∀s,s<w.length*4->(za3 w (tyS s)).length<=4
def midT (w:List Data) (k s:Nat):Nat->Nat:=(List.range s).foldl (zc6 w) (zbM w k)
def rowT (w:List Data) (k s:Nat) (pre:List Int):Nat->Nat:=pre.foldl (zbG w s) (midT w k s)
theorem zli {w:List Data}{k s:Nat}:rowT w k s (za3 w (tyS s))=midT w k (s+1):=by
 unfold rowT midT;rw[List.range_succ,List.foldl_append];rfl
theorem zhZ {w:List Data}{k s:Nat}{pre:List Int}{c:Int}:rowT w k s (pre++[c])=zbG w s (rowT w k s pre) c:=by
 unfold rowT;rw[List.foldl_append];rfl
theorem znH {w:List Data} (hd:Dp w){k s:Nat} (hk:k<=20) (hs:s<=w.length*4){pre:List Int} (hp:pre.length<=4) (i:Nat):rowT w k s pre i<=100000:=by
 have h4:=hd.four;have h1:=znx (w:=w) (m:=4) hd.ct k;have h2:=zi2 (w:=w) (m:=4) (List.range s) (zbM w k) _ (fun x hx=>hd.ct x (by have:=List.mem_range.1 hx;omega)) h1 od;have h3:=zmP (w:=w) (s:=s) pre (midT w k s) _ h2 od i;have e1:k*(w.length*4*4)<=20*(4*4*4):=Nat.mul_le_mul hk od;rw[List.length_range] at h3;show pre.foldl (zbG w s) (midT w k s) i<=100000
 omega
theorem zp1 {w:List Data}{s:Nat} (h:s<w.length*4):TyIn w.length (tyS s):= .inr ⟨s / 4,rfl,by omega⟩
theorem zm1 {w:List Data}{s:Nat}:zau w (tyS s)=za3 w (tyS s):=by unfold zau;rw[if_neg (zi4 s)]
theorem znb (m:Nat):zbI (m+1) [.d (.i 0)]=zbI m [.d (.i 0)]++[AV.d (.i 0)]:=by
 induction m with
 |zero=>rfl
 |succ m ihm=>
  show [AV.d (.i 0)]++zbI (m+1) [.d (.i 0)]=([AV.d (.i 0)]++zbI m [.d (.i 0)])++[AV.d (.i 0)]
  rw[ihm,xar]
theorem zlz (n:Nat):zbI n [.d (.i 0)]=tabC n (fun _=>0):=by
 unfold tabC;induction n with
 |zero=>rfl
 |succ n ih=>rw[znb,ih,List.range_succ,xag];rfl
theorem zhX {w:List Data}{s:Nat}{f:Nat->Nat}{c:Int} (h:decide ((0:Int)<(most w f (tyS s) c:Int)/\((f s:Int)=0\/(most w f (tyS s) c:Int)<(f s:Int)))=true):zbG w s f c=updF f s (most w f (tyS s) c):=by
 rw[xah] at h;unfold zbG;rw[if_pos od]
theorem zhW {w:List Data}{s:Nat}{f:Nat->Nat}{c:Int} (h:decide ((0:Int)<(most w f (tyS s) c:Int)/\((f s:Int)=0\/(most w f (tyS s) c:Int)<(f s:Int)))=false):zbG w s f c=f:=by
 rw[decide_eq_false_iff_not] at h;unfold zbG;rw[if_neg od]
theorem zkI {w:List Data} (hw:WT w){s:Nat} (hs:s<w.length*4):FnD Tryz.prog 243 [.d (zae w),.agg [.d (.i ((s:Int) / 4)),.d (.i ((s:Int) % 4))]] [] (.d (zcq (za3 w (tyS s)))) []:=by
 rw[<-zm1];exact zcW hw (zp1 hs)
theorem zlI {w:List Data} (hd:Dp w){f:Nat->Nat}{s:Nat}{c:Int} (hs:s<w.length*4) (hc:c∈za3 w (tyS s)) (hb:∀s,f s<=100000):
  FnD Tryz.prog 244 [.d (zae w),.ms 70 (w.length*4),.agg [.d (.i ((s:Int) / 4)),.d (.i ((s:Int) % 4))],.d (.i c)] [(70,some (.box (tabC (w.length*4) f)))] (.d (.i (most w f (tyS s) c))) []:=
 have h4:=hd.four;zkN (a:=(tyS s).data) (k:=(tyS s).index) hd.wt (zp1 hs) (by rw[<-zm1] at hc;exact hc) od hb (fun u hu=>hd.cl s hs c hc u hu)
theorem zcG {w:List Data} (hd:Dp w):FnD Tryz.prog 164 [.d (zae w)] [] (.d (zeN (w.length*4) (zab w))) []:=by
 have hw:=hd.wt;have h4:=hd.four;refine bd Tryz.f164 70 [27,29,54,61] [14,999999] fun _ _ _ _ hk=>?_;refine ar (Walk.make (id:=70) (m:=w.length*4) zbd tz3 I ol (zkk I) .none I (xam (fun z:Int=>some (AV.d (D.i z))) (by simp:((w.map Data.c).length:Int)*4=((w.length*4:Nat):Int))) (xam (fun z:Int=>some (AV.d (D.i z))) (by simp:((w.map Data.c).length:Int)*4=((w.length*4:Nat):Int))) od od oi oi oi ?_);refine evs [27,29,54,61] [] (xaA (ι:=Nat) hk (fun n=>[(4,.d (.i (n:Int)))]) [5,6,7,8,9,14,15,16,17,18,19,20,21,22,23,24,25,26,27,28,29,30,31,32,33,34,35,36,37,38,39,40,41,42,43,44,45,46,47,48,49,50,51,52,53,54,55,56,57,58,59,60,61,62,63,64,65,66,67,68] (fun n=>[(70,some (.box (tabC (w.length*4) (zbM w n))))]) (fun n=>n<=w.length*4+1) (fun n=>w.length*4+1-n) 0 og ⟨⟨_,I,xaV ?_⟩,O⟩ ⟨?_,O⟩ (fun x=>rfl) (fun n hg1=>?_));focus ((simp;done))
 focus ((show some (Res.box _)=some (Res.box _);rw[zlz];rfl))
 refine evc [27,29,54,61] [14,999999] ?_;apply sq<;>intro h1 h1p h1s<;>(try simp only[Q] at h1p);refine xaA (ι:=Nat) hk (fun s=>[(5,.d (.i (s:Int)))]) [6,7,8,9,20,21,22,23,24,25,26,27,28,29,30,31,32,33,34,35,36,37,38,39,40,41,42,43,44,45,46,47,48,49,50,51,52,53,54,55,56,57,58,59,60,61,62,63,64,65,66,67,68] (fun s=>[(70,some (.box (tabC (w.length*4) (midT w n s))))]) (fun s=>s<=w.length*4) (fun s=>w.length*4-s) 0 og ⟨⟨_,I,xaV ?_⟩,O⟩ ⟨?_,O⟩ (fun x=>rfl) (fun s hg2=>?_);focus ((simp;done))
 focus (first|rfl|(show some (Res.box _)=some (Res.box _);rw[<-zli,<-hg3,xaq]))
 refine evc [27,29,54,61] [14,999999] ?_;apply sq<;>intro h2 h2p h2s<;>(try simp only[Q] at h2p);refine xbN .none I I I od ?_;refine evs [27,29,54,61] [] (xbP .none I I I od ?_);refine bu [0,1] [_,_] st38 ?_;refine Walk.alloc (id:=3006) tz38 I .none I (by(simp only[zax,occH,occE,Res.ids,xai,List.nil_append,AV.idsL,AV.ids,zai,zah,zar,zaO,xaf,List.map_nil,upC,zbk];rfl)) (by(simp only[zax,occH,occE,Res.ids,xai,List.nil_append,AV.idsL,AV.ids,zai,zah,zar,zaO,xaf,List.map_nil,upC,zbk];rfl)) (by(simp only[zax,occH,occE,Res.ids,xai,List.nil_append,AV.idsL,AV.ids,zai,zah,zar,zaO,xaf,List.map_nil,upC,zbk];rfl)) (so ty38 ?_);apply tv;refine Walk.call (cr:=[]) zhu (zkI hw (s:=s) od) I .none I I (LeL.refl _) O I ot oi ?_;refine evs [27,29,54,61] [] (xaA (ι:=List (Int)×List (Int)) hk (fun x=>[(8,.d (.i (x.1.length:Int)))]) [9,34,35,36,37,38,39,40,41,42,43,44,45,46,47,48,49,50,51,52,53,54,55,56,57,58,59,60,61,62,63,64,65,66,67,68] (fun x=>[(70,some (.box (tabC (w.length*4) (rowT w n s x.1))))]) (fun x=>x.1++x.2=za3 w (tyS s)) (fun x=>x.2.length) ([],za3 w (tyS s)) og ⟨⟨_,I,xaV ?_⟩,O⟩ ⟨?_,O⟩ (fun x=>rfl) (fun x hg3=>?_));focus ((simp;done))
 focus (first|rfl|(show some (Res.box _)=some (Res.box _);rw[zhZ];first|(rw[zhX oh];done)|(rw[zhW oh];done)))
 obtain⟨pre,rest⟩:=x;dsimp only at hg3 ⊢;have hct:=hd.ct s od;refine evc [27,29,54,61] [14,999999] ?_;apply sq<;>intro h3 h3p h3s<;>(try simp only[Q] at h3p);rcases rest with _|⟨c,rest⟩
 ·exfalso;simp_all
 refine ixq zbd I I I (zaM hg3) I (evd [27,29,54,61] [] (Walk.call (cr:=[]) zoQ (zlI hd (f:=rowT w n s pre) (s:=s) (c:=c) od (by rw[<-hg3];simp) (znH hd od od (by have:=hd.ct s od;have hz:=xam List.length hg3;simp at hz;omega))) I .none I I (.cons (.refl _) (.cons (LeA.msn (by first|rfl|(simp;done))) (.cons (.refl _) (.cons (.refl _) .nil)))) ⟨I,O⟩ I ot oi ?_));refine evd [27,29,54,61] [] (dr (xaB (xbk 17 [(64,.d (.bool (decide ((0:Int)<(most w (rowT w n s pre) (tyS s) c:Int)/\((rowT w n s pre s:Int)=0\/(most w (rowT w n s pre) (tyS s) c:Int)<(rowT w n s pre s:Int))))))] [48,49,50,51,52,53,54,55,56,57,58,59,60,61,62,63] ?_ ?_)));refine evs [27,29,54,61] [] ?_;apply sq<;>intro h4 h4p h4s<;>(try simp only[Q] at h4p);refine xbC (i:=s) zbd (.some I I h4) I I I I od ?_;refine xbE ty3 (.some I I h4) I I I ((zkR (s:=s) od od)) ?_;refine evs [27,29,54,61] [(50,true)] ?_ ⟨⟨_,I,h4⟩,O⟩;apply sq<;>intro h5 h5p h5s<;>(try simp only[Q] at h5p);exact jnb I;refine xbC (i:=s) zbd (.some I I h5) I I I I od ?_;refine xbE ty3 (.some I I h5) I I I ((zkR (s:=s) od od)) ?_;refine evs [27,29,54,61] [(50,true),(56,false)] ?_ ⟨⟨_,I,h4⟩,⟨_,I,h5⟩,O⟩;exact jnb I;exact jnb I;refine xbj ?_;apply tv;apply sq<;>intro h6 h6p h6s<;>(try simp only[Q] at h6p);refine xbC (i:=s) zbd .none I I I I od ?_;refine Walk.store ty3 .none I I I I I I og ((zrX (s:=s) (v:=most w (rowT w n s pre) (tyS s) c) od od I)) ?_;apply tv;refine ar (xaj ((pre++[c],rest)) ⟨(by have hz:=hg3;rw[<-hz];simp),og,sx ⟨⟨_,I,xaV ?_⟩,O⟩ ⟨?_,O⟩⟩);focus ((simp;done))
 focus ((show some (Res.box _)=some (Res.box _);rw[zhZ];first|(rw[zhX oh];done)|(rw[zhW oh];done)))
 refine ar (xaj ((pre++[c],rest)) ⟨(by have hz:=hg3;rw[<-hz];simp),og,sx ⟨⟨_,I,xaV ?_⟩,O⟩ ⟨?_,O⟩⟩);focus ((simp;done))
 focus ((show some (Res.box _)=some (Res.box _);rw[zhZ];first|(rw[zhX oh];done)|(rw[zhW oh];done)))
 have hrest:rest=[]:=by
  rcases rest with _|⟨a,b⟩
  ·rfl
  ·exfalso;have hz:=xam List.length (hg3);simp only[xaa,xab,xac] at hz;omega
 subst hrest;refine ar (xaj (s+1) ⟨od,od,sx ⟨⟨_,I,xaV ?_⟩,O⟩ ⟨?_,O⟩⟩);focus ((simp;done))
 focus ((show some (Res.box _)=some (Res.box _);rw[<-zli,<-hg3,xaq]))
 refine ar (xaj (n+1) ⟨od,od,sx ⟨⟨_,I,xaV ?_⟩,O⟩ ⟨?_,O⟩⟩);focus ((simp;done))
 focus (first|(show some (Res.box _)=some (Res.box _);rw[zlz];rfl)|(have e:s=w.length*4:=od;rw[e];rfl))
 refine CWp.frz hk 2 70 _ _ I I zoW I (CWp.ret (rq ?_));rotate_left;all_goals ((have e:n=w.length*4+1:=od;rw[e];rfl))
theorem zp0 {i j:Nat} (h:j<4):tyS (i*4+j)=⟨(i:Int),(j:Int)⟩:=by
 unfold tyS;rw[show(i*4+j) / 4=i by omega,show(i*4+j) % 4=j by omega]
theorem zqL {w:List Data} (hs:WSmall w) (hv:zaL w=true):Dp w:=by
 have hw:=zcN hs hv;have hW:=(zb7 w).1 hv;refine⟨hw,fun s hs c hc u hu=>?_,hW.len,fun s hs=>?_⟩
 ·obtain⟨j,rfl,hj⟩:=zmK (d:=s / 4) (k:=((s % 4:Nat):Int)) hc;have hu':u∈zac w ⟨((s / 4:Nat):Int),((s % 4:Nat):Int)⟩ (j:Int):=hu;simp only[zac,Int.toNat_natCast,List.mem_map] at hu';obtain⟨x,hx,rfl⟩:=hu';have hco:=hW.ctor _ (zao (l:=w) (i:=s / 4) od) _ (zao hj);simp only[zbp,xad,Bool.not_eq_true',List.any_eq_false] at hco;have hax:zbc w.length x=true:=by
   have:=hco.2.2.2 x hx;cases h:zbc w.length x with
   |true=>rfl
   |false=>rw[h] at this;exact absurd I this
  have hci:=hco.2.2.1;simp only[zbc,zaf,Bool.or_eq_true,xad,xah,and_true] at hax hci;have key:∀y:Ty,(y.data = -1\/(0<=y.data/\y.data<w.length/\0<=y.index/\y.index<=3))->InS (w.length*4) y:=by
   rintro ⟨a,k⟩ h
   rcases h with h|⟨h1,h2,h3,h4⟩
   ·exact .inl h
   ·refine .inr ⟨?_, ?_⟩
    ·simp only[zdI] at *;omega
    ·obtain⟨i,rfl⟩:=Int.eq_ofNat_of_zero_le h1;obtain⟨m,rfl⟩:=Int.eq_ofNat_of_zero_le h3;simp only[zdI,Int.toNat_natCast];exact zp0 (by simp only at h4;omega)
  refine key _ ?_;unfold zcj zcg;split
  ·dsimp only;rcases hax with h|h
   ·omega
   ·right
    refine⟨by omega,by omega, ?_⟩;split<;>omega
  ·rcases hax with h|h
   ·exact .inl h.1
   ·right;omega
 ·have h1:=zeV (tyS s).index (nth w (tyS s).data.toNat).ctors 0;have h2:=(hW.data _ (zao (l:=w) (i:=s / 4) od)).2.2;show(zaV (tyS s).index 0 (nth w (tyS s).data.toNat).ctors).length<=4
  have e:(tyS s).data.toNat=s / 4:=by simp only[tyS,Int.toNat_natCast]
  rw[e] at h1 ⊢;omega
theorem zdY {n:Nat}{t:Ty} (h:InS (n*4) t):TyIn n t:=by
 rcases h with h|⟨h1,h2⟩
 ·exact .inl h
 ·refine .inr ⟨zdI t / 4, ?_,by omega⟩;have:=xam Ty.data h2;exact this.symm
theorem ziJ {w:List Data} (hd:Dp w){t:Ty}{c:Int} (ht:InS (w.length*4) t) (hc:c∈zau w t):∀u∈zac w t c,InS (w.length*4) u:=by
 rcases ht with h|⟨h1,h2⟩
 ·unfold zau at hc;rw[if_pos h] at hc;simp at hc
 ·have hx:=hd.cl _ h1;rw[h2] at hx;have:c∈za3 w t:=by
   unfold zau at hc;split at hc
   ·simp at hc
   ·exact hc
  exact hx c this
structure PKids (w:List Data) (n:Nat) (a k k':Int) (p:Pat):Prop where
 len5:p.op=5->p.kids.length=2
 len6:p.op=6->p.kids.length=1
 len4:p.op=4->p.kids.length=(zac w ⟨a,k⟩ p.ctor).length
 one:p.op=5\/p.op=6->zb0 w n ⟨a,k'⟩ (nth p.kids 0)=true
 two:p.op=5->zb0 w n ⟨a,k'⟩ (nth p.kids 1)=true
 arg:p.op=4->∀i,i<(zac w ⟨a,k⟩ p.ctor).length->zb0 w n ⟨(nth (zac w ⟨a,k⟩ p.ctor) i).data,(nth (zac w ⟨a,k'⟩ p.ctor) i).index⟩ (nth p.kids i)=true
 mem:p.op=4->p.ctor∈zau w ⟨a,k'⟩
 ops:p.op=1\/p.op=2\/(p.op=3/\a = -1)\/p.op=4\/p.op=5\/p.op=6
theorem zfS {w:List Data}{a k:Int} (h:zbm w ⟨a,k⟩=true):zaL w=true/\TyIn w.length ⟨a,k⟩/\(a≠ -1->0<=a/\a.toNat<w.length/\0<=k/\k<=3):=by
 unfold zbm at h;rw[xad] at h;obtain⟨h1,h2⟩:=h;simp only[zaR,zaf,Bool.or_eq_true,xad,xah,and_true] at h2;refine⟨h1, ?_,fun ha=>by omega⟩;rcases h2 with h|h
 ·exact .inl h.1
 ·exact .inr ⟨a.toNat,by simp only;omega,by omega⟩
structure PVal (w:List Data) (a k:Int) (p:Pat):Prop where
 dp:Dp w
 tin:TyIn w.length ⟨a,k⟩
 shape:zb0 w 10 ⟨a,k⟩ p=true
 rng:a≠ -1->0<=a/\a.toNat<w.length/\0<=k/\k<=3
theorem ziZ {w:List Data}{a b:Int} (hs:WSmall w):FnD Tryz.prog 102 [.d (zae w),.agg [.d (.i a),.d (.i b)]] [] (.d (.bool (zbm w ⟨a,b⟩))) []:=by
 rw[<-zrU];exact ziv hs
theorem zgg {xs:List Ft}{f:Nat}{caps:List AV}{hp:Hp}{p:Ft->Bool} (hs:xs.length<=1000000000000) (hcal:Callee Tryz.prog f)
  (hf:∀t∈xs,FnD Tryz.prog f ([.agg [.d (.i t.arg.data),.d (.i t.arg.index),.d (.i t.res.data),.d (.i t.res.index)]]++caps) hp (.d (.bool (p t))) []) (k1:subH hp hp) (k2:zeh hp=true) (k3:zbs hp [] (.d .nilp) []=true):
  FnD Tryz.prog 224 [.d (zaF xs),.fn f caps] hp (.d (.i (idxF p xs 0))) []:=by
 refine bd Tryz.f224 19 [] [] fun _ _ _ _ hk=>?_;refine xaA (ι:=List (Ft)×List (Ft)) hk (fun x=>[(8,.d (.i (x.1.length:Int)))]) [4,5,9,10,11,12,13,14,15,16,17,18] (fun x=>[]) (fun x=>x.1++x.2=xs/\idxF p x.2 x.1.length=idxF p xs 0) (fun x=>x.2.length) ([],xs) ⟨by simp,I⟩ ⟨⟨_,I,xaV ?_⟩,O⟩ O (fun x=>zgC hp) (fun x hg1=>?_);focus (rfl)
 obtain⟨pre,rest⟩:=x;dsimp only at hg1 ⊢;refine evc [] [] ?_;apply sq<;>intro h1 h1p h1s<;>(try simp only[Q] at h1p);rcases rest with _|⟨y,rest⟩
 ·exfalso;simp_all
 refine ixq sl35 I I I (zaM hg1.1) I (ev (xbq (cr:=[]) hcal (hf y (by rw[<-hg1.1];simp)) I .none I I I (LeL.refl _) k1 k2 (zfE k3 _) I ?_));apply tv;apply sq<;>intro h2 h2p h2s<;>(try simp only[Q] at h2p);focus (refine rn [] (r1 I) (.eqd ?_) ⟨I,I⟩ (fun _ _ h=>h) (fun _ h=>h);all_goals (rw[<-hg1.2];simp[idxF,h1s,h1p,h2s,h2p]))
 refine ar (xaj ((pre++[y],rest)) ⟨⟨(by have hz:=hg1.1;rw[<-hz];simp),(by rw[<-hg1.2];simp[idxF,h2s])⟩,og,Sub.x oj oj ⟨⟨_,I,xaV ?_⟩,O⟩ og (by simp[zdo]) O⟩);focus ((simp;done))
 have hrest:rest=[]:=by
  rcases rest with _|⟨a,b⟩
  ·rfl
  ·exfalso;have hz:=xam List.length (hg1.1);simp only[xaa,xab,xac] at hz;omega
 subst hrest;focus (refine rn [] (r1 I) (.eqd ?_) ⟨I,I⟩ (fun _ _ h=>h) (fun _ h=>h);all_goals (rw[<-hg1.2];simp[idxF,h1s,h1p]))
theorem zfd {xs:List Ft}{f:Nat}{caps:List AV}{hp:Hp}{p:Ft->Bool} (hs:xs.length<=1000000000000) (hcal:Callee Tryz.prog f)
  (hf:∀t∈xs,FnD Tryz.prog f ([.agg [.d (.i t.arg.data),.d (.i t.arg.index),.d (.i t.res.data),.d (.i t.res.index)]]++caps) hp (.d (.bool (p t))) []) (k1:subH hp hp) (k2:zeh hp=true) (k3:zbs hp [] (.d .nilp) []=true):
  FnD Tryz.prog 133 [.d (zaF xs),.fn f caps] hp (.d (.bool (xs.any p))) []:=by
 refine bd Tryz.f133 9 [] [] fun _ _ _ _ hk=>?_;refine Walk.call (cr:=[]) zsp (zgg hs hcal hf k1 k2 k3) I .none I I (LeL.refl _) k1 k2 (zfE k3 _) I (ev (rn [] (r1 I) (.eqd ?_) ⟨I,I⟩ (fun _ _ h=>h) (fun _ h=>h)));rotate_left;all_goals (exact xam D.bool (zgP p xs 0))
theorem zmu {w:List Data} (hs:w.length<=1000000000000){fd vd:D}{f:Ft}:FnD Tryz.prog 134 [.agg [.d (.i f.arg.data),.d (.i f.arg.index),.d (.i f.res.data),.d (.i f.res.index)],.ref 3001 0] [(3001,some (.box [.d (zae w),.d fd,.d vd]))] (.d (.bool (!(zaR w.length f.arg&&zaR w.length f.res)))) []:=by
 refine bd Tryz.f134 18 [] [] fun _ _ _ _ hk=>?_;refine bx 3002 ?_;refine ev (wc zi8 (zdE hs (a:=f.arg.data) (b:=f.arg.index)) I I ?_);refine ev ?_;apply sq<;>intro h1 h1p h1s<;>(try simp only[Q] at h1p);refine rn [] (r1 I) (.eqd ?_) ⟨I,I⟩ (SubH.get ⟨I,O⟩) (fun _ h=>h);rotate_left;refine Walk.call (cr:=[]) zi8 (zdE hs (a:=f.res.data) (b:=f.res.index)) I (.some I I h1) I I (LeL.refl _) O I I I (evs [] [(10,false)] ?_ ⟨⟨_,I,h1⟩,O⟩);refine rn [] (r1 I) (.eqd ?_) ⟨I,I⟩ (SubH.get ⟨I,O⟩) (fun _ h=>h);rotate_left;all_goals (refine xam D.bool ?_;simp_all)
theorem zhB {w:List Data}{funs:List Ft} (h:zbO w funs=true):∀f∈funs,zaR w.length f.arg=true/\zaR w.length f.res=true:=by
 unfold zbO at h;simp only[xad,Bool.not_eq_true',List.any_eq_false,Bool.not_eq_false',xah] at h;intro f hf;have:=h.2 f hf;simpa using this
def AZ (w:List Data):Prop:=∀t c,c∈zau w t->TyIn w.length t->∀u∈zac w t c,u.data = -1->u.index=0
theorem zc7 {w:List Data} (hv:zaL w=true):AZ w:=by
 have hW:=(zb7 w).1 hv;rintro ⟨a,k⟩ c hc ht u hu hd
 obtain⟨d,rfl,h1,j,rfl,h3⟩:=za4 ht hc;have hco:=hW.ctor _ (zao h1) _ (zao h3);simp only[zbp,xad,xah,Bool.not_eq_true',List.any_eq_false,Bool.not_eq_false'] at hco;have hall:=hco.2.2.2;simp only[zac,Int.toNat_natCast] at hu;obtain⟨x,hx,rfl⟩:=List.mem_map.1 hu;have hxo:=hall x hx;simp only[zbc,zaf,Bool.or_eq_true,xad,xah,and_true,Bool.not_eq_true',Bool.not_eq_false] at hxo;unfold zcj at hd ⊢;split at hd
 ·rename_i hi;rw[if_pos hi];dsimp only at hd ⊢;omega
 ·rename_i hi;rw[if_neg hi];omega
theorem zd7 {n:Nat}{t:Ty} (h:zaR n t=true):TyOk n t:=by
 refine⟨zp2 h,fun hd=>?_⟩;simp only[zaR,zaf,Bool.or_eq_true,xad,xah,and_true] at h;omega
theorem zcZ {w:List Data} (hw:WT w) (haz:AZ w){funs:List Ft} (hf:∀f∈funs,TyOk w.length f.arg){t:Ty} (ht:TyOk w.length t){e:Ex}:∀u∈zal w funs t e,TyOk w.length u:=by
 intro u hu;refine⟨zlw hw (fun f h=>(hf f h).1) ht.1 u hu,fun hd=>?_⟩;unfold zal at hu;split at hu
 ·split at hu
  ·rename_i h;exact haz t e.ctor h.2 ht.1 u hu hd
  ·simp at hu
 ·split at hu
  ·simp only[List.mem_cons,xau,or_false,or_self] at hu;rw[hu] at hd ⊢;exact ht.2 hd
  ·split at hu
   ·split at hu
    ·rename_i h;simp only[List.mem_cons,xau,or_false] at hu;rw[hu] at hd ⊢;exact(hf _ (zao od)).2 hd
    ·simp at hu
   ·simp at hu
theorem za6 {a b:Ty}:FnD Tryz.prog 165 [.agg [.d (.i a.data),.d (.i a.index)],.agg [.d (.i b.data),.d (.i b.index)]] [] (.d (.bool (zbX a b))) []:=by
 refine bd Tryz.f165 22 [] [] fun _ _ _ _ hk=>?_;refine bx 3002 ?_;refine bx 3003 ?_;refine ev ?_;apply sq<;>intro h1 h1p h1s;apply sq<;>intro h2 h2p h2s;refine rq ?_;rotate_left;refine rq ?_;rotate_left;refine rq ?_;rotate_left;all_goals (refine xam D.bool ?_;unfold zbX;simp_all)
def numT:Ty:=⟨-1,0⟩
def zeq (w:List Data) (funs:List Ft) (t:Ty) (e:Ex):List Ty:=
 if (e.op≠3/\e.ctor≠0)\/((e.op=3\/e.op=4)/\e.n≠0) then [] else if e.op=4 then [numT,numT] else zal w funs t e
theorem zp3 {w:List Data}{funs:List Ft}{vars:List Vt}{t:Ty} (ht:TyOk w.length t){e:Ex} (h:okE w funs vars t e=true):zeq w funs t e=zal w funs t e:=by
 have hop:e.op=1\/e.op=2\/e.op=3\/e.op=4\/e.op=5:=by
  by_cases h0:e.op≠1/\e.op≠2/\e.op≠3/\e.op≠4/\e.op≠5
  ·rw[ok_0 h0] at h;exact absurd h og
  ·omega
 unfold zeq;rcases hop with h1|h1|h1|h1|h1
 ·rw[ok_1 h1] at h;have:=xas h;rw[if_neg od,if_neg od]
 ·rw[ok_2 h1] at h;simp only[xad,xah] at h;rw[if_neg od,if_neg od]
 ·rw[ok_3 h1] at h;have:=xas h;rw[if_neg od,if_neg od]
 ·rw[ok_4 h1] at h;have:=xas h;rw[if_neg od,if_pos h1,ty_4 h1];have h2:=ht.2 this.1;have h3:t=numT:=by
   obtain⟨a,k⟩:=t;have h4:=this.1;dsimp only at h2 h4;rw[h4,h2];rfl
  rw[h3]
 ·rw[ok_5 h1] at h;simp only[xad,xah] at h;rw[if_neg od,if_neg od]
section
variable {w:List Data}{funs:List Ft}{vars:List Vt}{t:Ty}{e:Ex}
theorem ts_x (h:(e.op≠3/\e.ctor≠0)\/((e.op=3\/e.op=4)/\e.n≠0)):zeq w funs t e=[]:=by unfold zeq;rw[if_pos h]
theorem ts_4 (h:¬((e.op≠3/\e.ctor≠0)\/((e.op=3\/e.op=4)/\e.n≠0))) (h4:e.op=4):zeq w funs t e=[numT,numT]:=by unfold zeq;rw[if_neg h,if_pos h4]
theorem ts_o (h:¬((e.op≠3/\e.ctor≠0)\/((e.op=3\/e.op=4)/\e.n≠0))) (h4:e.op≠4):zeq w funs t e=zal w funs t e:=by unfold zeq;rw[if_neg h,if_neg h4]
theorem ok_x (h:(e.op≠3/\e.ctor≠0)\/((e.op=3\/e.op=4)/\e.n≠0)):okE w funs vars t e=false:=by
 unfold okE;split
 ·exact xaw od
 ·split
  ·rw[xaw (p:=e.ctor=0) od,Bool.and_false,Bool.and_false]
  ·split
   ·exact xaw od
   ·split
    ·exact xaw od
    ·split
     ·rw[xaw od,Bool.false_and]
     ·rfl
end
theorem zjY {w:List Data}{funs:List Ft}{vars:List Vt} (hw:WT w) (hfl:funs.length<=1000000000000) (hvl:vars.length<=1000000000000){t:Ty} (ht:TyOk w.length t){e:Ex}:
  FnD Tryz.prog 241 [.d (zae w),.d (zaF funs),.d (zaP vars),.agg [.d (.i t.data),.d (.i t.index)],.agg [.d (.i e.op),.d (.i e.n),.d (.i e.ctor),.d (zaE e.kids)]] [] (.tup [.d (zbH (zeq w funs t e)),.d (.bool (okE w funs vars t e))]) []:=by
 have ht':TyIn w.length ⟨t.data,t.index⟩:=ht.1;have hcl:=zer hw ht';have hlt:=fun h=>zmm (l:=vars) (n:=e.n) h;have hvt:0<=zbr vars e.n->zdV vars e.n=(nth vars (zbr vars e.n).toNat).ty:=fun h=>by unfold zdV;rw[if_pos h]
 have hte:t=numT↔(t.data = -1/\t.index=0):=by
  constructor
  ·intro h;rw[h];exact⟨rfl,rfl⟩
  ·rintro ⟨h1,h2⟩;obtain⟨a,k⟩:=t;dsimp only at h1 h2;rw[h1,h2];rfl
 have ht2:=ht.2;by_cases hx:(e.op≠3/\e.ctor≠0)\/((e.op=3\/e.op=4)/\e.n≠0)
 ·rw[ts_x hx,ok_x hx];refine bd Tryz.f241 123 [] [2] fun _ _ _ _ hk=>?_;refine bx 3008 ?_;refine bx 3009 ?_;refine ev (bu [0] [_] st38 ?_);refine ab 3012 tz38 ?_;refine so ty38 ?_;apply tv;refine xaB (xbk 23 [(37,.d (.bool (decide ((e.op≠3/\e.ctor≠0)\/((e.op=3\/e.op=4)/\e.n≠0)))))] [15,16,17,18,19,20,21,22,23,24,25,26,27,28,29,30,31,32,33,34,35,36] ?_ ?_);refine ev ?_;apply sq<;>intro h1 h1p h1s;apply sq<;>intro h2 h2p h2s;focus (exact jn I (xaU (by((rw[xat];simp_all;done)))))
  apply sq<;>intro h3 h3p h3s;refine sqT ?_;focus (exact jn I (xaU (by((rw[xat];simp_all;done)))))
  apply sq<;>intro h4 h4p h4s;focus (exact jn I (xaU (by((rw[xat];simp_all;done)))))
  focus (exact jn I (xaU (by((rw[xat];simp_all;done)))))
  refine sqF ?_;apply sq<;>intro h5 h5p h5s;refine sqT ?_;focus (exact jn I (xaU (by((rw[xat];simp_all;done)))))
  apply sq<;>intro h6 h6p h6s;focus (exact jn I (xaU (by((rw[xat];simp_all;done)))))
  focus (exact jn I (xaU (by((rw[xat];simp_all;done)))))
  refine xbj ?_;apply tv;apply sq<;>intro h7 h7p h7s;refine rn0 (r2 I I) (.tup (qne ?_ ?_));rotate_left 2;focus (exfalso;(simp_all;done))
  all_goals (rfl)
 by_cases hmem:e.ctor∈zau w t
 ·have hmem':e.ctor∈zau w ⟨t.data,t.index⟩:=hmem;have hcon:=zhd (v:=e.ctor) hcl;refine bd Tryz.f241 123 [45,81] [2] fun _ _ _ _ hk=>?_;refine bx 3008 ?_;refine bx 3009 ?_;refine evs [45,81] [] (bu [0] [_] st38 ?_);refine ab 3012 tz38 ?_;refine so ty38 ?_;apply tv;refine xaB (xbk 23 [(37,.d (.bool (decide ((e.op≠3/\e.ctor≠0)\/((e.op=3\/e.op=4)/\e.n≠0)))))] [15,16,17,18,19,20,21,22,23,24,25,26,27,28,29,30,31,32,33,34,35,36] ?_ ?_);refine evs [45,81] [] ?_;apply sq<;>intro h1 h1p h1s;apply sq<;>intro h2 h2p h2s;focus (exact jn I (xaU (by((rw[xat];simp_all;done)))))
  apply sq<;>intro h3 h3p h3s;refine sqT ?_;focus (exact jn I (xaU (by((rw[xat];simp_all;done)))))
  apply sq<;>intro h4 h4p h4s;focus (exact jn I (xaU (by((rw[xat];simp_all;done)))))
  focus (exact jn I (xaU (by((rw[xat];simp_all;done)))))
  refine sqF ?_;apply sq<;>intro h5 h5p h5s;refine sqT ?_;focus (exact jn I (xaU (by((rw[xat];simp_all;done)))))
  apply sq<;>intro h6 h6p h6s;focus (exact jn I (xaU (by((rw[xat];simp_all;done)))))
  focus (exact jn I (xaU (by((rw[xat];simp_all;done)))))
  refine xbj ?_;apply tv;apply sq<;>intro h7 h7p h7s;try simp only[Q] at h7p
  exfalso;apply hx;omega;apply sq<;>intro h8 h8p h8s<;>(try simp only[Q] at h8p);refine xbQ zaJ .none I (evd [45,81] [] (xbz eq38 .none I I I I I (evd [45,81] [] ?_)));apply sq<;>intro h9 h9p h9s<;>(try simp only[Q] at h9p);apply sq<;>intro h10 h10p h10s<;>(try simp only[Q] at h10p);refine dr (rn0 (r2 I I) (.tup (qee ?_ ?_)));rotate_left 2;refine dr (rn0 (r2 I I) (.tup (qee ?_ ?_)));rotate_left 2;refine sqF ?_;refine dr (rn0 (r2 I I) (.tup (qee ?_ ?_)));rotate_left 2;apply sq<;>intro h11 h11p h11s<;>(try simp only[Q] at h11p);refine wc zl7 (zeE hvl) I I ?_;refine evs [45,81] [] (xbQ zaJ .none I (evd [45,81] [] ?_));apply sq<;>intro h12 h12p h12s<;>(try simp only[Q] at h12p);refine xbB (i:=(zbr vars e.n).toNat) sl36 (.some I I h12) I I I (by have:=hlt od;omega) (zag (by have:=hlt od;omega)) I ?_;refine evd [45,81] [(65,true)] ?_ ⟨⟨_,I,h12⟩,O⟩;refine Walk.call (cr:=[]) zc9 (za6 (a:=(nth vars (zbr vars e.n).toNat).ty) (b:=t)) I (.some I I h12) I I (LeL.refl _) O I I I (evd [45,81] [(65,true)] ?_ ⟨⟨_,I,h12⟩,O⟩);refine dr (rn0 (r2 I I) (.tup (qee ?_ ?_)));rotate_left 2;refine dr (rn0 (r2 I I) (.tup (qee ?_ ?_)));rotate_left 2;apply sq<;>intro h13 h13p h13s<;>(try simp only[Q] at h13p);refine si [0,1] [_,_] zaJ tz38 ?_;refine evd [45,81] [] (xbz eq38 .none I I I I I (evd [45,81] [] (dr (rn0 (r2 I I) (.tup (qee ?_ ?_))))));rotate_left 2;apply sq<;>intro h14 h14p h14s<;>(try simp only[Q] at h14p);refine wc zhu (zcW hw ht') I I ?_;refine evd [45,81] [] (wc zoS hcon I I ?_);refine evd [45,81] [] (dr ?_);apply sq<;>intro h15 h15p h15s<;>(try simp only[Q] at h15p);refine rn0 (r2 I I) (.tup (qne ?_ ?_));rotate_left 2;refine wc zdm (zbW hw ht' hmem') I I ?_;refine evs [45,81] [] (rn0 (r2 I I) (.tup (qee ?_ ?_)));rotate_left 2;apply sq<;>intro h16 h16p h16s<;>(try simp only[Q] at h16p);apply sq<;>intro h17 h17p h17s<;>(try simp only[Q] at h17p);refine sqT ?_;refine rn0 (r2 I I) (.tup (qne ?_ ?_));rotate_left 2;apply sq<;>intro h19 h19p h19s<;>(try simp only[Q] at h19p);refine rn0 (r2 I I) (.tup (qne ?_ ?_));rotate_left 2;refine ixq (i:=e.n.toNat) sl35 I I od (zag od) I ?_;refine evd [45,81] [] (si [0] [_] zaJ tz38 ?_);refine evd [45,81] [] (ixq (i:=e.n.toNat) sl35 I I od (zag od) I ?_);refine evd [45,81] [] (wc zc9 (za6 (a:=(nth funs e.n.toNat).res) (b:=t)) I I ?_);refine evd [45,81] [] (dr (rn0 (r2 I I) (.tup (qee ?_ ?_))));rotate_left 2;refine rn0 (r2 I I) (.tup (qne ?_ ?_));rotate_left 2;all_goals (first|(rw[ts_4 hx od];all_goals rfl)|(rw[ts_o hx od,ty_0 od];all_goals rfl)|(rw[ts_o hx od,ty_3 od od hmem];all_goals rfl)|(rw[ts_o hx od,ziq od od];all_goals rfl)|(rw[ts_o hx od,ty_5 od od];all_goals rfl)|(refine xam D.bool ?_;rw[ok_1 od,xaw od];done)|(refine xam D.bool ?_;rw[ok_1 od];simp_all;done)|(refine xam D.bool ?_;rw[ok_2 od,xaw od,Bool.false_and];done)|(refine xam D.bool ?_;rw[ok_2 od,hvt od];simp_all;done)|(refine xam D.bool ?_;rw[ok_3 od];simp_all;done)|(refine xam D.bool ?_;rw[ok_4 od];simp_all;done)|(refine xam D.bool ?_;rw[ok_5 od];first|(rw[xax od,Bool.true_and];done)|(rw[xaw od,Bool.false_and];done))|(refine xam D.bool ?_;rw[ok_0 od];done)|(exfalso;simp_all;done))
 ·have hmem':e.ctor∉zau w ⟨t.data,t.index⟩:=hmem;have hcon:=zhd (v:=e.ctor) hcl;rw[xaw hmem'] at hcon;refine bd Tryz.f241 123 [45,81] [2] fun _ _ _ _ hk=>?_;refine bx 3008 ?_;refine bx 3009 ?_;refine evs [45,81] [] (bu [0] [_] st38 ?_);refine ab 3012 tz38 ?_;refine so ty38 ?_;apply tv;refine xaB (xbk 23 [(37,.d (.bool (decide ((e.op≠3/\e.ctor≠0)\/((e.op=3\/e.op=4)/\e.n≠0)))))] [15,16,17,18,19,20,21,22,23,24,25,26,27,28,29,30,31,32,33,34,35,36] ?_ ?_);refine evs [45,81] [] ?_;apply sq<;>intro h1 h1p h1s;apply sq<;>intro h2 h2p h2s;focus (exact jn I (xaU (by((rw[xat];simp_all;done)))))
  apply sq<;>intro h3 h3p h3s;refine sqT ?_;focus (exact jn I (xaU (by((rw[xat];simp_all;done)))))
  apply sq<;>intro h4 h4p h4s;focus (exact jn I (xaU (by((rw[xat];simp_all;done)))))
  focus (exact jn I (xaU (by((rw[xat];simp_all;done)))))
  refine sqF ?_;apply sq<;>intro h5 h5p h5s;refine sqT ?_;focus (exact jn I (xaU (by((rw[xat];simp_all;done)))))
  apply sq<;>intro h6 h6p h6s;focus (exact jn I (xaU (by((rw[xat];simp_all;done)))))
  focus (exact jn I (xaU (by((rw[xat];simp_all;done)))))
  refine xbj ?_;apply tv;apply sq<;>intro h7 h7p h7s;try simp only[Q] at h7p
  exfalso;apply hx;omega;apply sq<;>intro h8 h8p h8s<;>(try simp only[Q] at h8p);refine xbQ zaJ .none I (evd [45,81] [] (xbz eq38 .none I I I I I (evd [45,81] [] ?_)));apply sq<;>intro h9 h9p h9s<;>(try simp only[Q] at h9p);apply sq<;>intro h10 h10p h10s<;>(try simp only[Q] at h10p);refine dr (rn0 (r2 I I) (.tup (qee ?_ ?_)));rotate_left 2;refine dr (rn0 (r2 I I) (.tup (qee ?_ ?_)));rotate_left 2;refine sqF ?_;refine dr (rn0 (r2 I I) (.tup (qee ?_ ?_)));rotate_left 2;apply sq<;>intro h11 h11p h11s<;>(try simp only[Q] at h11p);refine wc zl7 (zeE hvl) I I ?_;refine evs [45,81] [] (xbQ zaJ .none I (evd [45,81] [] ?_));apply sq<;>intro h12 h12p h12s<;>(try simp only[Q] at h12p);refine xbB (i:=(zbr vars e.n).toNat) sl36 (.some I I h12) I I I (by have:=hlt od;omega) (zag (by have:=hlt od;omega)) I ?_;refine evd [45,81] [(65,true)] ?_ ⟨⟨_,I,h12⟩,O⟩;refine Walk.call (cr:=[]) zc9 (za6 (a:=(nth vars (zbr vars e.n).toNat).ty) (b:=t)) I (.some I I h12) I I (LeL.refl _) O I I I (evd [45,81] [(65,true)] ?_ ⟨⟨_,I,h12⟩,O⟩);refine dr (rn0 (r2 I I) (.tup (qee ?_ ?_)));rotate_left 2;refine dr (rn0 (r2 I I) (.tup (qee ?_ ?_)));rotate_left 2;apply sq<;>intro h13 h13p h13s<;>(try simp only[Q] at h13p);refine si [0,1] [_,_] zaJ tz38 ?_;refine evd [45,81] [] (xbz eq38 .none I I I I I (evd [45,81] [] (dr (rn0 (r2 I I) (.tup (qee ?_ ?_))))));rotate_left 2;apply sq<;>intro h14 h14p h14s<;>(try simp only[Q] at h14p);refine wc zhu (zcW hw ht') I I ?_;refine evd [45,81] [] (wc zoS hcon I I ?_);refine evd [45,81] [] (dr ?_);apply sq<;>intro h15 h15p h15s<;>(try simp only[Q] at h15p);refine rn0 (r2 I I) (.tup (qne ?_ ?_));rotate_left 2;exfalso;simp_all;apply sq<;>intro h16 h16p h16s<;>(try simp only[Q] at h16p);apply sq<;>intro h17 h17p h17s<;>(try simp only[Q] at h17p);refine sqT ?_;refine rn0 (r2 I I) (.tup (qne ?_ ?_));rotate_left 2;apply sq<;>intro h19 h19p h19s<;>(try simp only[Q] at h19p);refine rn0 (r2 I I) (.tup (qne ?_ ?_));rotate_left 2;refine ixq (i:=e.n.toNat) sl35 I I od (zag od) I ?_;refine evd [45,81] [] (si [0] [_] zaJ tz38 ?_);refine evd [45,81] [] (ixq (i:=e.n.toNat) sl35 I I od (zag od) I ?_);refine evd [45,81] [] (wc zc9 (za6 (a:=(nth funs e.n.toNat).res) (b:=t)) I I ?_);refine evd [45,81] [] (dr (rn0 (r2 I I) (.tup (qee ?_ ?_))));rotate_left 2;refine rn0 (r2 I I) (.tup (qne ?_ ?_));rotate_left 2;all_goals (first|(rw[ts_4 hx od];all_goals rfl)|(rw[ts_o hx od,ty_0 od];all_goals rfl)|(rw[ts_o hx od,zrk od hmem];all_goals rfl)|(rw[ts_o hx od,ziq od od];all_goals rfl)|(rw[ts_o hx od,ty_5 od od];all_goals rfl)|(refine xam D.bool ?_;rw[ok_1 od,xaw od];done)|(refine xam D.bool ?_;rw[ok_1 od];simp_all;done)|(refine xam D.bool ?_;rw[ok_2 od,xaw od,Bool.false_and];done)|(refine xam D.bool ?_;rw[ok_2 od,hvt od];simp_all;done)|(refine xam D.bool ?_;rw[ok_3 od];simp_all;done)|(refine xam D.bool ?_;rw[ok_4 od];simp_all;done)|(refine xam D.bool ?_;rw[ok_5 od];first|(rw[xax od,Bool.true_and];done)|(rw[xaw od,Bool.false_and];done))|(refine xam D.bool ?_;rw[ok_0 od];done))
theorem zfQ {w:List Data}{funs:List Ft}{vars:List Vt} (hw:WT w) (haz:AZ w) (hfl:funs.length<=1000000000000) (hvl:vars.length<=1000000000000) (hfa:∀f∈funs,TyOk w.length f.arg):∀(n:Nat){t:Ty}{m:Int}{e:Ex},m=n->n<=1000->TyOk w.length t->e.ok->
  FnD Tryz.prog 161 [.d (zae w),.d (zaF funs),.d (zaP vars),.agg [.d (.i t.data),.d (.i t.index)],.agg [.d (.i e.op),.d (.i e.n),.d (.i e.ctor),.d (zaE e.kids)],.d (.i m)] [] (.d (.bool (zaD w funs vars n t e))) []
 |0,t,m,e,hm,_,_,_=>by
  refine bd Tryz.f161 59 [] [] fun _ _ _ _ hk=>?_;refine bx 3009 ?_;refine bx 3010 ?_;refine ev ?_;apply sq<;>intro h1 h1p h1s;refine rq ?_;rotate_left;try simp only[Q] at h1p
  exfalso;omega;all_goals (rfl)
 |n+1,t,m,e,hm,hn,ht,hok=>by
  rw[xaL] at hok;have hkd:=zjY hw hfl hvl ht (e:=e) (funs:=funs) (vars:=vars);have htl:=zke hw ht.1 (funs:=funs) (e:=e);have hti:=zcZ hw haz hfa ht (e:=e);cases ho:okE w funs vars t e with
  |false=>
   have hsc:zaD w funs vars (n+1) t e=false:=by
    conv=>lhs;unfold zaD zce
    rw[ho];rfl
   rw[ho] at hkd;rw[hsc];refine bd Tryz.f161 59 [] [] fun _ _ _ _ hk=>?_;refine bx 3009 ?_;refine bx 3010 ?_;refine ev ?_;apply sq<;>intro h1 h1p h1s;try simp only[Q] at h1p
   exfalso;omega;refine wc zl8 hkd I I ?_;refine ev ?_;apply sq<;>intro h2 h2p h2s;refine sqT ?_;refine rq ?_;rotate_left;apply sq<;>intro h4 h4p h4s;refine rq ?_;rotate_left;exfalso;simp_all;all_goals (rfl)
  |true=>
   rw[ho,zp3 ht ho] at hkd;by_cases hlen:(zal w funs t e).length=e.kids.length
   ·have hsc:zaD w funs vars (n+1) t e=all2 (zaD w funs vars n) (zal w funs t e) e.kids:=by
     conv=>lhs;unfold zaD zce
     rw[ho,xax hlen];rfl
    rw[hsc];refine bd Tryz.f161 59 [] [] fun _ _ _ _ hk=>?_;refine bx 3009 ?_;refine bx 3010 ?_;refine ev ?_;apply sq<;>intro h1 h1p h1s;try simp only[Q,xaJ] at h1p
    exfalso;omega;refine wc zl8 hkd I I ?_;refine ev ?_;apply sq<;>intro h2 h2p h2s;refine sqT ?_;focus (exfalso;(simp_all[xaJ];done))
    apply sq<;>intro h4 h4p h4s;try simp only[Q,xaJ] at h4p
    focus (exfalso;omega)
    refine xaA (ι:=Nat) hk (fun i=>[(15,.d (.i (i:Int)))]) [12,37,38,39,40,41,42,43,44,45,46,47,48,49,50,51,52,53,54,55,56,57,58] (fun i=>[]) (fun i=>i<=(zal w funs t e).length/\∀i',i'<i->zaD w funs vars n (nth (zal w funs t e) i') (nth e.kids i')=true) (fun i=>(zal w funs t e).length-i) 0 ⟨by omega,fun _ h=>absurd h od⟩ ⟨⟨_,I,xaV ?_⟩,O⟩ O (fun x=>rfl) (fun i hg1=>?_);focus (rfl)
    refine evc [] [] ?_;apply sq<;>intro h5 h5p h5s<;>(try simp only[Q,xaJ] at h5p);refine ixq zaJ I I I (zag od) I ?_;refine evd [] [] (ixq sl39 I I I (zdL od) I ?_);refine evd [] [] (ar (wc zoJ (zfQ hw haz hfl hvl hfa n (t:=nth (zal w funs t e) i) od od (hti _ (zao od)) (xaQ hok.2 _ (zao od))) I I ?_));refine evd [] [] (dr ?_);apply sq<;>intro h6 h6p h6s;refine rq ?_;rotate_left;try simp only[Q,xaJ] at h6p
    refine ar (xaj (i+1) ⟨⟨by omega,zbq hg1.2 ox⟩,od,sx ⟨⟨_,I,xaV ?_⟩,O⟩ O⟩);focus (rfl)
    refine rq ?_;rotate_left;all_goals (refine xam D.bool ?_;first|(refine(zlA od (fun x hx=>hg1.2 x od)).symm)|(refine(zeu (i:=i) od od ?_).symm;simp_all))
   ·have hsc:zaD w funs vars (n+1) t e=false:=by
     conv=>lhs;unfold zaD zce
     rw[ho,xaw hlen];rfl
    rw[hsc];refine bd Tryz.f161 59 [] [] fun _ _ _ _ hk=>?_;refine bx 3009 ?_;refine bx 3010 ?_;refine ev ?_;apply sq<;>intro h1 h1p h1s;try simp only[Q,xaJ] at h1p
    exfalso;omega;refine wc zl8 hkd I I ?_;refine ev ?_;apply sq<;>intro h2 h2p h2s;refine sqT ?_;refine rq ?_;rotate_left;apply sq<;>intro h4 h4p h4s;refine rq ?_;rotate_left;try simp only[Q,xaJ] at h4p
    exfalso;omega;all_goals (rfl)
theorem zfM:∀(n:Nat){v:Ex}{m:Int},v.size<=n->v.size<=1000000000000->v.ok->0<=m->m<=1000000000000->FnD Tryz.prog 162 [.agg [.d (.i v.op),.d (.i v.n),.d (.i v.ctor),.d (zaE v.kids)],.d (.i m)] [] (.d (.i (cntE m v))) []
 |0,v,m,h,_,_,_,_=>by rw[xaN] at h;omega
 |n+1,v,m,h,hb,hok,m0,m1=>by
  rw[xaN] at h hb;rw[xaL] at hok;rw[zrx];refine bd Tryz.f162 31 [] [] fun _ _ _ _ hk=>?_;refine bx 3002 ?_;refine ev (xaA (ι:=Nat×Int) hk (fun x=>[(6,.d (.i (x.1:Int))),(5,.d (.i x.2))]) [7,8,9,10,11,12,13,14,15,16,17,18,19,20,21,22,23,24,25,26,27,28,29] (fun x=>[]) (fun x=>x.1<=v.kids.length/\zcC m x.2 (v.kids.drop x.1)=zcC m 1 v.kids/\1<=x.2/\x.2+Exs.size (v.kids.drop x.1)<=1+Exs.size v.kids) (fun x=>v.kids.length-x.1) (0,1) ⟨by simp,by simp,by simp,by simp⟩ ⟨⟨_,I,xaV ?_⟩,⟨⟨_,I,xaV ?_⟩,O⟩⟩ O (fun x=>rfl) (fun x hg1=>?_));iterate 2 focus (rfl)
  refine evc [] [] ?_;apply sq<;>intro h1 h1p h1s<;>(try simp only[Q,xaJ] at h1p);apply sq<;>intro h2 h2p h2s<;>(try simp only[Q,xaJ] at h2p);refine ixq sl39 I I I (zdL od) I ?_;refine ev (ar ?_ (by(constructor<;>omega)));refine wc zoK (zfM n (v:=nth v.kids x.1) (by have:=zk5 (l:=v.kids) (i:=x.1) od;omega) (by have:=zk5 (l:=v.kids) (i:=x.1) od;omega) (xaQ hok.2 _ (zao od)) od od) I I ?_;refine ev (ar ?_ (by(have hz:=zid (nth v.kids x.1) (m-x.2);have hs:=zjq (l:=v.kids) (i:=x.1) od;constructor<;>omega)));refine ar ?_ (by(constructor<;>omega));refine xaj ((x.1+1,x.2+cntE (m-x.2) (nth v.kids x.1))) ⟨(by
      obtain⟨h1,h2,h3,h4⟩:=hg1;have hz:=zid (nth v.kids x.1) (m-x.2);have hs:=zjq (l:=v.kids) (i:=x.1) od;refine⟨by dsimp only;omega, ?_,by dsimp only;omega,by dsimp only;omega⟩;rw[<-h2,zaZ (l:=v.kids) (i:=x.1) od,zcC,if_pos od]),oz,sx ⟨⟨_,rfl,xaV ?_⟩,⟨⟨_,rfl,xaV ?_⟩,trivial⟩⟩ trivial⟩
  iterate 2 focus (rfl)
  refine rq ?_;rotate_left;refine sqF ?_;refine rq ?_;rotate_left;all_goals (refine xam D.i ?_;rw[<-hg1.2.1];first|(rw[List.drop_eq_nil_of_le od];rfl)|(rw[zjk od]))
theorem zhb {w:List Data}{funs:List Ft}{vars:List Vt} (hw:WT w) (haz:AZ w) (hfl:funs.length<=1000000000000) (hvl:vars.length<=1000000000000) (hfa:∀f∈funs,TyOk w.length f.arg){t:Ty}{e:Ex} (ht:TyOk w.length t) (hok:e.ok) (hsz:e.size<=1000000000000):
  FnD Tryz.prog 82 [.d (zae w),.d (zaF funs),.d (zaP vars),.agg [.d (.i t.data),.d (.i t.index)],.agg [.d (.i e.op),.d (.i e.n),.d (.i e.ctor),.d (zaE e.kids)]] [] (.d (.bool (isE w funs vars t e))) []:=by
 have hc:=zma e 60;refine bd Tryz.f82 22 [] [] fun _ _ _ _ hk=>?_;refine bx 3008 ?_;refine bx 3009 ?_;refine ev (wc zoJ (zfQ hw haz hfl hvl hfa 10 I od ht hok) I I ?_);refine ev ?_;apply sq<;>intro h1 h1p h1s;refine Walk.call (cr:=[]) zoK (zfM _ (Nat.le_refl _) hsz hok od od) I (.some I I h1) I I (LeL.refl _) O I I I ?_;refine evs [] [(17,true)] ?_ ⟨⟨_,I,h1⟩,O⟩;refine rq ?_;rotate_left;refine rq ?_;rotate_left;all_goals (refine xam D.bool ?_;unfold isE;(simp_all;done))
theorem ziC {w:List Data}{a b:Int}:FnD Tryz.prog 142 [.d (zae w),.agg [.d (.i a),.d (.i b)]] [] (.d (.bool (zaR w.length ⟨a,b⟩))) []:=by
 have e:(zbc w.length ⟨a,b⟩&&decide (0<=b))=zaR w.length ⟨a,b⟩:=by
  rw[xat];simp only[zbc,zaR,zaf,xad,Bool.or_eq_true,xah,and_true];omega
 rw[<-e];exact zfR
theorem zjX {w:List Data}{funs:List Ft} (hs:w.length<=1000000000000) (hfl:funs.length<=1000000000000):FnD Tryz.prog 69 [.d (zae w),.d (zaF funs)] [] (.d (.bool (zbO w funs))) []:=by
 have hbad:∀i,i<funs.length->(zaR w.length (nth funs i).arg&&zaR w.length (nth funs i).res)=false->zbO w funs=false:=fun i hi h=>by
  unfold zbO;have:funs.any (fun f=> !(zaR w.length f.arg&&zaR w.length f.res))=true:=List.any_eq_true.2 ⟨nth funs i,zao hi,by rw[h];rfl⟩;rw[this];simp
 have hgood:funs.length<=4->(∀i,i<funs.length->(zaR w.length (nth funs i).arg&&zaR w.length (nth funs i).res)=true)->zbO w funs=true:=fun h4 h=>by
  unfold zbO;rw[xax od,Bool.true_and,Bool.not_eq_true',List.any_eq_false];intro f hf;obtain⟨i,hi,rfl⟩:=List.getElem_of_mem hf;have:=h i hi;simp only[nth,List.getD,xan hi,Option.getD_some] at this;simp[this]
 have hmany:4<funs.length->zbO w funs=false:=fun h=>by unfold zbO;rw[xaw od,Bool.false_and]
 refine bd Tryz.f69 37 [] [] fun _ _ _ _ hk=>?_;refine xaA (ι:=Nat) hk (fun i=>[(5,.d (.i (i:Int)))]) [4,6,7,8,9,10,11,12,13,14,15,16,17,18,19,20,21,22,23,24,25,26,27,28,29,30,31,32,33] (fun i=>[]) (fun i=>i<=funs.length/\i<=5/\∀i',i'<i->(zaR w.length (nth funs i').arg&&zaR w.length (nth funs i').res)=true) (fun i=>5-i) 0 ⟨by omega,by omega,fun _ h=>absurd h od⟩ ⟨⟨_,I,xaV ?_⟩,O⟩ O (fun x=>rfl) (fun i hg1=>?_);focus (rfl)
 refine evc [] [] ?_;apply sq<;>intro h1 h1p h1s<;>(try simp only[Q,xac] at h1p);apply sq<;>intro h2 h2p h2s<;>(try simp only[Q,xac] at h2p);refine ixq sl35 I I I (zag od) I ?_;refine ev (wc zi9 (ziC (a:=(nth funs i).arg.data) (b:=(nth funs i).arg.index)) I I ?_);refine ev ?_;apply sq<;>intro h3 h3p h3s<;>(try simp only[Q,xac] at h3p);refine sqT ?_;refine rq ?_;rotate_left;refine xbB sl35 (.some I I h3) I I I I (zag od) I ?_;refine evs [] [(24,false)] ?_ ⟨⟨_,I,h3⟩,O⟩;refine Walk.call (cr:=[]) zi9 (ziC (a:=(nth funs i).res.data) (b:=(nth funs i).res.index)) I (.some I I h3) I I (LeL.refl _) O I I I (evs [] [(24,false)] ?_ ⟨⟨_,I,h3⟩,O⟩);apply sq<;>intro h5 h5p h5s<;>(try simp only[Q,xac] at h5p);refine rq ?_;rotate_left;refine ar (xaj (i+1) ⟨⟨by omega,by omega,zbq hg1.2.2 ox⟩,od,sx ⟨⟨_,I,xaV ?_⟩,O⟩ O⟩);focus (rfl)
 refine rq ?_;rotate_left;refine sqF ?_;refine rq ?_;rotate_left;all_goals (refine xam D.bool ?_;first|(rw[hbad i od ox];done)|(by_cases h44:funs.length<=4<;>first|(rw[hgood h44 (fun x hx=>hg1.2.2 x od)];exact xax oq)|(rw[hmany od];exact xaw oq)))
theorem zlU {w:List Data}{t:Ty} (h:zbm w t=true):TyOk w.length t:=by
 unfold zbm at h;rw[xad] at h;exact zd7 h.2
def zbz (s:Str) (a:Int) (c:UInt8):Bool:=decide (0<=a)&&(decide (a<(s.length:Int))&&decide (nth s a.toNat=c))
theorem zd4 {s:Str}{a:Int}{c:UInt8} (h:zbz s a c=true):0<=a/\a<(s.length:Int):=by
 unfold zbz at h;simp only[xad,xah] at h;exact⟨h.1,h.2.1⟩
theorem zgw {s:Str}{a:Int}{c:UInt8} (hs:s.length<=1000000000000):FnD Tryz.prog 192 [.d (.str s),.d (.i a),.d (.int .u8 (c.toNat:Int))] [] (.d (.bool (zbz s a c))) []:=by
 by_cases h0:0<=a
 ·obtain⟨n,rfl⟩:=Int.eq_ofNat_of_zero_le h0;refine bd Tryz.f192 22 [] [] fun _ _ _ _ hk=>?_;apply sq<;>intro h1 h1p h1s;apply sq<;>intro h2 h2p h2s;try simp only[Q,zow] at h2p
  refine xbD un9 (.some I I h2) I I I I (za0 od) ?_;refine evs [] [(15,true)] ?_ ⟨⟨_,I,h2⟩,O⟩;refine rq ?_;rotate_left;refine rq ?_;rotate_left;refine sqF ?_;refine rq ?_;rotate_left;all_goals (refine xam D.bool ?_;unfold zbz;rw[show decide (nth s ((n:Int)).toNat=c)=decide (((nth s n).toNat:Int)=(c.toNat:Int)) from by rw[decide_eq_decide];exact zow.symm];first|(simp_all;done)|(simp_all;omega))
 ·have hv:zbz s a c=false:=by unfold zbz;rw[xaw h0];rfl
  rw[hv];refine bd Tryz.f192 22 [] [] fun _ _ _ _ hk=>?_;apply sq<;>intro h1 h1p h1s;exfalso;first|omega|(simp at h1p;omega)
  refine sqF ?_;refine rq ?_;rotate_left;all_goals (first|rfl|(simp_all;done))
def lowL:Str->Nat
 | []=>0
 |x::r=>if zaN x=true then lowL r+1 else 0
def zaz:Str->Nat
 | []=>0
 |x::r=>if zbb x=true then lowL r+1 else 0
theorem znB:∀s:Str,lowL s<=s.length
 | []=>Nat.le_refl _
 |x::r=>by
  have:=znB r;show(if zaN x=true then lowL r+1 else 0)<=_
  split<;>simp<;>omega
theorem zfC:∀s:Str,zaz s<=s.length
 | []=>Nat.le_refl _
 |x::r=>by
  have:=znB r;show(if zbb x=true then lowL r+1 else 0)<=_
  split<;>simp<;>omega
def zbF (s:Str) (n:Nat):Str:=(s.drop n).take (zaz (s.drop n))
theorem zlj {s:Str}{n e:Nat} (hn:n<=e) (he:e<s.length) (hg:(if e=n then n+zaz (s.drop n) else e+lowL (s.drop e))=n+zaz (s.drop n))
  (hc:(e=n/\zbb (nth s e)=true)\/(n<e/\zaN (nth s e)=true)):(if e+1=n then n+zaz (s.drop n) else e+1+lowL (s.drop (e+1)))=n+zaz (s.drop n):=by
 rw[if_neg od];have hd:s.drop e=nth s e::s.drop (e+1):=zaZ he;rcases hc with ⟨rfl,h⟩|⟨h1,h⟩
 ·rw[hd,zaz,if_pos h];omega
 ·rw[if_neg od,hd,lowL,if_pos h] at hg;omega
theorem zlk {s:Str}{n e:Nat} (hn:n<=e) (he:e<=s.length) (hg:(if e=n then n+zaz (s.drop n) else e+lowL (s.drop e))=n+zaz (s.drop n))
  (hc:e=s.length\/(e=n/\zbb (nth s e)=false)\/(n<e/\zaN (nth s e)=false)):e=n+zaz (s.drop n):=by
 by_cases hl:e=s.length
 ·subst hl;by_cases hen:s.length=n
  ·subst hen;rw[List.drop_length];simp[zaz]
  ·rw[if_neg hen,List.drop_length] at hg;simpa [lowL] using hg
 ·have hd:s.drop e=nth s e::s.drop (e+1):=zaZ od;rcases hc with h|⟨rfl,h⟩|⟨h1,h⟩
  ·exact absurd h hl
  ·rw[hd,zaz,if_neg (by rw[h];simp)];omega
  ·rw[if_neg od,hd,lowL,if_neg (by rw[h];simp)] at hg;omega
theorem zdJ {s:Str}{n:Nat} (hs:s.length<=1000000000000) (hn:n<=s.length):FnD Tryz.prog 170 [.d (.str s),.d (.i n)] [] (.tup [.d (.str (zbF s n)),.d (.i ((n+zaz (s.drop n):Nat):Int))]) []:=by
 have hle:=zfC (s.drop n);rw[List.length_drop] at hle;have hstop:=fun(e:Nat)=>zlk (s:=s) (n:=n) (e:=e);have hstep:=fun(e:Nat)=>zlj (s:=s) (n:=n) (e:=e);refine bd Tryz.f170 47 [] [] fun _ _ _ _ hk=>?_;refine xaA (ι:=Nat) hk (fun e=>[(6,.d (.i (e:Int)))]) [8,9,10,11,12,13,14,15,16,17,18,19,20,21,22,23,24,25,26,27,28,29,30,31,32,33,34,35,36,37,38,39,40,41] (fun e=>[]) (fun e=>n<=e/\e<=s.length/\(if e=n then n+zaz (s.drop n) else e+lowL (s.drop e))=n+zaz (s.drop n)) (fun e=>s.length-e) n ⟨Nat.le_refl _,hn,by rw[if_pos rfl]⟩ ⟨⟨_,I,xaV ?_⟩,O⟩ O (fun x=>rfl) (fun e hg1=>?_);focus (first|rfl|(simp;done)|omega)
 refine evc [] [] ?_;apply sq<;>intro h1 h1p h1s<;>(try simp only[Q,xal] at h1p);apply sq<;>intro h2 h2p h2s<;>(try simp only[Q,xal] at h2p);refine xbD un9 (.some I I h2) I I I I (za0 od) ?_;refine Walk.call (cr:=[]) zl5 (zeY (n:=((nth s e).toNat:Int))) I (.some I I h2) I I (LeL.refl _) O I I I (evs [] [(12,true),(16,true)] ?_ ⟨⟨_,I,h1⟩,⟨_,I,h2⟩,O⟩);apply sq<;>intro h3 h3p h3s;try simp only[Q,xal] at h3p
 refine sqT ?_;refine ar (xaj (e+1) ⟨⟨by omega,by omega,hstep e hg1.1 od hg1.2.2 (by exact .inl ⟨by omega,by assumption⟩)⟩,od,sx ⟨⟨_,I,xaV ?_⟩,O⟩ O⟩);focus (first|rfl|(simp;done)|omega)
 apply sq<;>intro h5 h5p h5s;try simp only[Q,xal] at h5p
 refine xbD un9 (.some I I h5) I I I I (za0 od) ?_;refine evs [] [(12,true),(22,false),(26,true)] ?_ ⟨⟨_,I,h1⟩,⟨_,I,h3⟩,⟨_,I,h5⟩,O⟩;apply sq<;>intro h6 h6p h6s;try simp only[Q,xal] at h6p
 refine xbD un9 (.some I I h6) I I I I (za0 od) ?_;refine evs [] [(12,true),(22,false),(32,true)] ?_ ⟨⟨_,I,h1⟩,⟨_,I,h3⟩,⟨_,I,h6⟩,O⟩;apply sq<;>intro h7 h7p h7s;try simp only[Q,xal] at h7p
 refine ar (xaj (e+1) ⟨⟨by omega,by omega,hstep e hg1.1 od hg1.2.2 (by exact .inr ⟨by omega,by unfold zaN;rw[xad,xah,xah];omega⟩)⟩,od,sx ⟨⟨_,I,xaV ?_⟩,O⟩ O⟩);focus (first|rfl|(simp;done)|omega)
 refine xbx un9 .none I I I I I I od od ?_;refine ev (rn0 (r2 I I) (.tup (qee ?_ ?_)));rotate_left 2;refine sqF ?_;refine xbx un9 .none I I I I I I od od ?_;refine ev (rn0 (r2 I I) (.tup (qee ?_ ?_)));rotate_left 2;refine sqF ?_;refine sqF ?_;refine xbx un9 .none I I I I I I od od ?_;refine ev (rn0 (r2 I I) (.tup (qee ?_ ?_)));rotate_left 2;refine sqF ?_;apply sq<;>intro h10 h10p h10s<;>(try simp only[Q,xal] at h10p);refine xbD un9 (.some I I h10) I I I I (za0 od) ?_;refine evs [] [(12,true),(22,false),(26,true)] ?_ ⟨⟨_,I,h1⟩,⟨_,I,I⟩,⟨_,I,h10⟩,O⟩;apply sq<;>intro h11 h11p h11s<;>(try simp only[Q,xal] at h11p);refine xbD un9 (.some I I h11) I I I I (za0 od) ?_;refine evs [] [(12,true),(22,false),(32,true)] ?_ ⟨⟨_,I,h1⟩,⟨_,I,I⟩,⟨_,I,h11⟩,O⟩;apply sq<;>intro h12 h12p h12s<;>(try simp only[Q,xal] at h12p);refine ar (xaj (e+1) ⟨⟨by omega,by omega,hstep e hg1.1 od hg1.2.2 (by exact .inr ⟨by omega,by unfold zaN;rw[xad,xah,xah];omega⟩)⟩,od,sx ⟨⟨_,I,xaV ?_⟩,O⟩ O⟩);focus (first|rfl|(simp;done)|omega)
 refine xbx un9 .none I I I I I I od od ?_;refine ev (rn0 (r2 I I) (.tup (qee ?_ ?_)));rotate_left 2;refine sqF ?_;refine xbx un9 .none I I I I I I od od ?_;refine ev (rn0 (r2 I I) (.tup (qee ?_ ?_)));rotate_left 2;refine sqF ?_;refine sqF ?_;refine xbx un9 .none I I I I I I od od ?_;refine ev (rn0 (r2 I I) (.tup (qee ?_ ?_)));rotate_left 2;refine sqF ?_;refine xbx un9 .none I I I I I I od od ?_;refine ev (rn0 (r2 I I) (.tup (qee ?_ ?_)));rotate_left 2;all_goals (have hE:=hstop e hg1.1 hg1.2.1 hg1.2.2 (by first|exact .inl od|exact .inr (.inl ⟨by omega,by assumption⟩)|exact .inr (.inr ⟨by omega,by unfold zaN;rw[Bool.and_eq_false_iff,decide_eq_false_iff_not,decide_eq_false_iff_not];omega⟩));first|(rw[<-hE];done)|(unfold zbF;rw[show e-n=zaz (s.drop n) by omega];done)|(unfold zbF;rw[<-ziN,show e-n=zaz (s.drop n) by omega];done))
mutual
theorem zoy:∀v:Val,zox v v=true
 | .mk _ _ ks=>by simp[zox,ziD ks]
theorem ziD:∀l:List Val,zkg l l=true
 | []=>rfl
 |v::r=>by simp[zkg,zoy v,ziD r]
end
theorem Val.c_len (v:Val):v.c.length=3:=by cases v;rfl
theorem Val.cs_rows {l:List Val}:∀x,x∈Val.cs l->x.length=3:=by
 intro x hx;rw[xba] at hx;obtain⟨y,_,rfl⟩:=List.mem_map.1 hx;exact y.c_len
mutual
def mVal:Val->Nat
 | .mk _ _ ks=>zjF ks
def zjF:List Val->Nat
 | []=>0
 |v::r=>1+mVal v+zjF r
end
mutual
def Val.szM:Val->Int
 | .mk _ _ ks=>2+Vals.szM ks
def Vals.szM:List Val->Int
 | []=>0
 |v::r=>v.szM+Vals.szM r
end
mutual
def Val.one (k:Int):Val->Val
 | .mk _ _ ks=> .mk k (k+1) (Vals.one (k+1+1) ks)
def Vals.one (k:Int):List Val->List Val
 | []=>[]
 |v::r=>v.one k::Vals.one (k+v.szM) r
end
theorem Vals.one_eq:∀(l:List Val) (k:Int),Vals.one k l=mkL Val.one Val.szM k l
 | [],_=>rfl
 |v::r,k=>by simp only[Vals.one,mkL,Vals.one_eq r]
mutual
theorem Val.szM_nn:∀v:Val,0<=v.szM
 | .mk _ _ ks=>by have:=xbi ks;simp only[Val.szM];omega
theorem xbi:∀l:List Val,0<=Vals.szM l
 | []=>by simp[Vals.szM]
 |v::r=>by have:=Val.szM_nn v;have:=xbi r;simp only[Vals.szM];omega
end
mutual
theorem Val.szM_le:∀v:Val,v.szM<=2+2*(mVal v:Int)
 | .mk _ _ ks=>by have:=xbh ks;simp only[Val.szM,mVal];omega
theorem xbh:∀l:List Val,Vals.szM l<=2*(zjF l:Int)
 | []=>by simp[Vals.szM,zjF]
 |v::r=>by have:=Val.szM_le v;have:=xbh r;simp only[Vals.szM,zjF];omega
end
def zq7 (w:List Data):Nat->Ty->Val->Bool
 |0,_,_=>false
 |n+1,t,v=>if t.data = -1 then decide (v.ctor = -1)&&(decide (0<=v.num)&&(decide (v.num<=9)&&decide (v.kids.length=0)))
   else if v.num=0/\v.ctor∈za3 w t then all2 (zq7 w n) (zac w t v.ctor) v.kids else false
mutual
def cntV (m:Int):Val->Int
 | .mk _ _ ks=>cntL m 1 ks
def cntL (m n:Int):List Val->Int
 | []=>n
 |k::r=>if n<=m then cntL m (n+cntV (m-n) k) r else n
end
theorem zoX {m n:Int}{l:List Val} (h:¬n<=m):cntL m n l=n:=by cases l<;>simp[cntL,h]
mutual
theorem znj:∀(v:Val) (m:Int),1<=cntV m v/\cntV m v<=v.size
 | .mk _ _ ks,m=>by
  have:=zkn ks m 1 od;simp only[cntV,Val.size];push_cast;omega
theorem zkn:∀(l:List Val) (m n:Int),1<=n->1<=cntL m n l/\cntL m n l<=n+Vals.size l
 | [],m,n,h=>by simp[cntL,Vals.size];omega
 |k::r,m,n,h=>by
  have h1:=znj k (m-n);have h2:=zkn r m (n+cntV (m-n) k) od;simp only[cntL,Vals.size];split
  ·push_cast;omega
  ·push_cast;omega
end
mutual
theorem zqf:∀(v:Val) (m:Int),(cntV m v<=m↔(v.size:Int)<=m)/\(cntV m v<=m->cntV m v=v.size)
 | .mk _ _ ks,m=>by
  have:=zmb ks m 1;simp only[cntV,Val.size];push_cast;exact this
theorem zmb:∀(l:List Val) (m n:Int),(cntL m n l<=m↔n+(Vals.size l:Int)<=m)/\(cntL m n l<=m->cntL m n l=n+Vals.size l)
 | [],m,n=>by simp[cntL,Vals.size]
 |k::r,m,n=>by
  have h1:=zqf k (m-n);have h2:=zmb r m (n+cntV (m-n) k);have h3:=zkn r m (n+cntV (m-n) k);have h4:=znj k (m-n);simp only[cntL,Vals.size];push_cast
  by_cases hn:n<=m
  ·rw[if_pos hn];by_cases h5:cntV (m-n) k<=m-n
   ·have h6:=h1.2 h5;rw[h6] at h2 ⊢;constructor
    ·rw[h2.1];constructor<;>intro h<;>omega
    ·intro h;rw[h2.2 h];omega
   ·have h7:¬(k.size:Int)<=m-n:=fun h=>h5 (h1.1.2 h);have h8:¬n+cntV (m-n) k<=m:=by omega
    rw[zoX h8];constructor
    ·constructor<;>intro h<;>omega
    ·intro h;omega
  ·rw[if_neg hn];constructor
   ·constructor<;>intro h<;>omega
   ·intro h;omega
end
structure Bd where
 var:Int
 val:Val
def Bd.c (b:Bd):List D:=[.i b.var,.i b.val.ctor,.i b.val.num,zif b.val.kids]
instance:Inhabited Bd:=⟨⟨0,default⟩⟩
def BdOk (m:Nat) (l:List Bd):Prop:=∀x∈l,x.val.ok/\x.val.size<=m
theorem BdOk.app {m:Nat}{a b:List Bd} (h1:BdOk m a) (h2:BdOk m b):BdOk m (a++b):=fun x hx=>by
 rcases List.mem_append.1 hx with h|h
 ·exact h1 x h
 ·exact h2 x h
theorem BdOk.mono {m k:Nat}{a:List Bd} (h:BdOk m a) (hk:m<=k):BdOk k a:=fun x hx=>⟨(h x hx).1,Nat.le_trans (h x hx).2 hk⟩
theorem zs2 {w:List Data}{t:Ty}{p:Pat} (h:p.op=5):zbt w t p=[t,t]:=by unfold zbt;rw[if_neg od,if_pos h]
theorem zs3 {w:List Data}{t:Ty}{p:Pat} (h:p.op=6):zbt w t p=[t]:=by unfold zbt;rw[if_neg od,if_neg od,if_pos h]
theorem zpQ {w:List Data}{n:Nat}{t:Ty}{p:Pat} (h:zb0 w (n+1) t p=true) (h5:p.op=5):p.kids.length=2/\zb0 w n t (nth p.kids 0)=true/\zb0 w n t (nth p.kids 1)=true:=by
 have hl:=(zg4 h).2;have h0:=fun i hi=>zjU h (i:=i) hi;rw[zs2 h5] at hl h0;have hl':p.kids.length=2:=hl;exact⟨hl',h0 0 od,h0 1 od⟩
theorem zpP {w:List Data}{n:Nat}{t:Ty}{p:Pat} (h:zb0 w (n+1) t p=true) (h6:p.op=6):p.kids.length=1/\zb0 w n t (nth p.kids 0)=true:=by
 have hl:=(zg4 h).2;have h0:=fun i hi=>zjU h (i:=i) hi;rw[zs3 h6] at hl h0;have hl':p.kids.length=1:=hl;exact⟨hl',h0 0 od⟩
abbrev anyQ:Pat:= .mk 1 0 0 0 0 []
mutual
def zgB:Pat->Pat
 | .mk op c n m v ks=>if op=2 then anyQ else if op=6/\ks≠[] then zjv ks else .mk op c n m v (zgA ks)
def zjv:List Pat->Pat
 | []=>anyQ
 |k::_=>zgB k
def zgA:List Pat->List Pat
 | []=>[]
 |k::r=>zgB k::zgA r
end
theorem zlZ:∀l:List Pat,zgA l=l.map zgB
 | []=>rfl
 |k::r=>by simp[zgA,zlZ r]
def ztv (out:List (List Pat)) (l:List Pat):List (List Pat):=out.flatMap fun q=>l.map fun c=>q++[c]
def ztr (ls:List (List Pat)):List (List Pat):=ls.foldl ztv [[]]
mutual
def zmV:Pat->List Pat
 | .mk op c n m v ks=>if op=5 then zs1 ks else (ztr (znM ks)).map fun l=> .mk op c n m v l
def zs1:List Pat->List Pat
 | []=>[]
 |a::r=>zmV a++zrV r
def zrV:List Pat->List Pat
 | []=>[]
 |b::_=>zmV b
def znM:List Pat->List (List Pat)
 | []=>[]
 |k::r=>zmV k::znM r
end
mutual
def cntS:Pat->Int
 | .mk op _ _ _ _ ks=>if op=5 then cntO ks 0 else cntM ks 1
def cntO:List Pat->Int->Int
 | [],n=>n
 |k::r,n=>cntO r (cap (n+cntS k))
def cntM:List Pat->Int->Int
 | [],n=>n
 |k::r,n=>cntM r (cap (n*cntS k))
end
mutual
theorem zni:∀p:Pat,0<=cntS p/\cntS p<=401
 | .mk op _ _ _ _ ks=>by
  unfold cntS;split
  ·exact zng ks 0 od od
  ·exact znf ks 1 od od
theorem zng:∀(l:List Pat) (n:Int),0<=n->n<=401->0<=cntO l n/\cntO l n<=401
 | [],n,h1,h2=>⟨h1,h2⟩
 |k::r,n,h1,h2=>by
  unfold cntO;have h3:=zni k;have h4:=zoT (x:=n+cntS k) od;exact zng r _ h4.1 h4.2
theorem znf:∀(l:List Pat) (n:Int),0<=n->n<=401->0<=cntM l n/\cntM l n<=401
 | [],n,h1,h2=>⟨h1,h2⟩
 |k::r,n,h1,h2=>by
  unfold cntM;have h3:=zni k;have h4:=zoT (x:=n*cntS k) (Int.mul_nonneg h1 h3.1);exact znf r _ h4.1 h4.2
end
mutual
theorem zne:∀p:Pat,p.ok->(zgB p).ok
 | .mk op c n m v ks,h=>by
  unfold zgB;split
  ·exact⟨by simp,trivial⟩
  ·split
   ·exact zql ks h.2
   ·exact⟨by rw[zlZ,xac];exact h.1,zl0 ks h.2⟩
theorem zql:∀l:List Pat,Pats.ok l->(zjv l).ok
 | [],_=>⟨by simp,trivial⟩
 |k::r,h=>zne k h.1
theorem zl0:∀l:List Pat,Pats.ok l->Pats.ok (zgA l)
 | [],_=>trivial
 |k::r,h=>⟨zne k h.1,zl0 r h.2⟩
end
mutual
theorem zkV:∀p:Pat,(zgB p).size<=p.size
 | .mk op c n m v ks=>by
  unfold zgB;split
  ·simp[anyQ,Pat.size,Pats.size]
  ·split
   ·have:=zn8 ks;simp only[Pat.size];omega
   ·have:=zi7 ks;simp only[Pat.size];omega
theorem zn8:∀l:List Pat,(zjv l).size<=1+Pats.size l
 | []=>by simp[zjv,anyQ,Pat.size,Pats.size]
 |k::r=>by have:=zkV k;simp only[zjv,Pats.size];omega
theorem zi7:∀l:List Pat,Pats.size (zgA l)<=Pats.size l
 | []=>Nat.le_refl _
 |k::r=>by have:=zkV k;have:=zi7 r;simp only[zgA,Pats.size];omega
end
def zfx (env:Env) (hp:Hp) (j:Nat):Bool:=
 (match getH hp j with|none=>true|some _=>false)&&(env.all fun x=>match getE env x.1 with|some v=> !zaG j v.ids|none=>true)&&(hp.all fun x=>match getH hp x.1 with|some r=> !zaG j r.ids|none=>true)
theorem zms:∀ {env:Env}{i:Nat}{v:AV},getE env i=some v->∃u,(i,u)∈env
 |(k,x)::r,i,v,h=>by
  simp only[getE] at h;cases hb:Nat.beq k i with
  |true=>obtain rfl:=xap hb;exact⟨x,by simp⟩
  |false=>
   simp only[hb,cond_false] at h;obtain⟨u,hu⟩:=zms h;exact⟨u,List.mem_cons_of_mem _ hu⟩
theorem zdM {env:Env}{hp:Hp}{j:Nat} (h:zfx env hp j=true):getH hp j=none/\zcx j ⟨env,hp⟩:=by
 simp only[zfx,xad,List.all_eq_true] at h;obtain⟨⟨h1,h2⟩,h3⟩:=h;refine⟨?_,fun i v hv hm=>?_,fun i r hr hm=>?_⟩
 ·cases hg:getH hp j with
  |none=>rfl
  |some x=>simp[hg] at h1
 ·obtain⟨u,hu⟩:=zms hv;have:=h2 _ hu;rw[show getE env (i,u).1=some v from hv] at this;change (!zaG j v.ids)=true at this
  rw[zaw.2 hm] at this;cases this
 ·obtain⟨u,hu⟩:=zgO hr;have:=h3 _ hu;rw[show getH hp (i,u).1=some r from hr] at this;change (!zaG j r.ids)=true at this
  rw[zaw.2 hm] at this;cases this
theorem R.tokMove {c:Ctx}{G:Gh}{s:St}{a:Act}{w:World} (hr:R c G s a w) (i j:Nat){n k:Nat} (m:Nat) (hi:getH s.hp i=some (.tok n k)) (h0:getH s.hp j=none) (hocc:zcx j s):
  ∃G':Gh,R c G' ⟨s.env,(j,some (.tok m k))::(i,none)::s.hp⟩ a w/\G'.F=G.F/\G'.loc j=G.loc i/\tokf ((j,some (Res.tok m k))::(i,none)::s.hp) j=some (m,k):=by
 have hji:j≠i:=fun e=>by subst e;rw[h0] at hi;cases hi
 have g1:∀x,x≠j->x≠i->getH ((j,some (Res.tok m k))::(i,none)::s.hp) x=getH s.hp x:=fun x h1 h2=>by
  rw[zaa,if_neg h1,zaa,if_neg h2]
 have gj:getH ((j,some (Res.tok m k))::(i,none)::s.hp) j=some (.tok m k):=by rw[zaa,if_pos rfl]
 have gi:getH ((j,some (Res.tok m k))::(i,none)::s.hp) i=none:=by rw[zaa,if_neg (fun e=>hji e.symm),zaa,if_pos rfl]
 have Ti:tokf s.hp i=some (n,k):=zak.2 hi;have Tj:tokf ((j,some (Res.tok m k))::(i,none)::s.hp) j=some (m,k):=zak.2 gj;have Ti':tokf ((j,some (Res.tok m k))::(i,none)::s.hp) i=none:=by unfold tokf;rw[gi]
 let G':Gh:={ G with loc:=fun x=>bif Nat.beq x j then G.loc i else G.loc x }
 have lj:G'.loc j=G.loc i:=by simp[G']
 have lo:∀x,x≠j->G'.loc x=G.loc x:=fun x h=>by simp[G',zed h]
 have hsi:(getH s.hp i).isSome:=by rw[hi];rfl
 have hT:Turn c G s w G' ((j,some (Res.tok m k))::(i,none)::s.hp) [i,j]:=by
  refine⟨fun x hx=>?_,fun x hx=>?_,fun b _=>rfl,fun b o ho=>ho,hr.top,fun x hx=>?_,fun x hx hs b hb=>?_,fun x hx y hy hxy h1 h2 b hb=>?_,fun x hx l hl=>?_⟩
  ·simp only[List.mem_cons,xau,or_false,not_or] at hx;exact g1 x hx.2 hx.1
  ·simp only[List.mem_cons,xau,or_false,not_or] at hx;exact lo x hx.2
  ·simp only[List.mem_cons,xau,or_false] at hx;rcases hx with rfl|rfl
   ·exact .inr ⟨.inl (lo _ (fun e=>hji e.symm)),fun p hp'=>by rw[Ti'] at hp';cases hp'⟩
   ·exact .inl hocc
  ·simp only[List.mem_cons,xau,or_false] at hx;rcases hx with rfl|rfl
   ·rw[gi] at hs;cases hs
   ·exact⟨i,by simp,hsi,by rw[lj] at hb;exact hb⟩
  ·simp only[List.mem_cons,xau,or_false] at hx hy;rcases hx with rfl|rfl
   ·rw[gi] at h1;cases h1
   ·rcases hy with rfl|rfl
    ·rw[gi] at h2;cases h2
    ·exact absurd I hxy
  ·have hk:=hr.kept x l hl;simp only[List.mem_cons,xau,or_false] at hx;rcases hx with rfl|rfl
   ·have:=hk.2.2;rw[Ti] at this;cases this
   ·have:=hk.2.1;rw[h0] at this;cases this
 have hR:=hT.fin hr (fun x hx r hxr=>by
  simp only[List.mem_cons,xau,or_false] at hx;rcases hx with rfl|rfl
  ·rw[gi] at hxr;cases hxr
  ·rw[gj] at hxr;cases hxr;intro b hb;rw[lj] at hb;exact hr.heap i _ hi b hb)
 exact⟨G',hR,rfl,lj,Tj⟩
section
variable {c:Ctx}{all:Array Oper}{chk:List Rec->Prop}{os:List Oper}{recs:List Rec}{env:Env}{hp:Hp}{Q:St->Prop}
variable {d ty:Nat}{pos:String}{af:Array Edge}{g:Option (Nat×Bool)}{pg:List (Nat×AV)}{t:TypeId}{x:Operand}
theorem xby {id e k yb:Nat} (j:Nat){xs:List (List D)}{o:Operand}{kd:IntKind}{n:Int}{b:Nat} (ht:SlT c.P t e k yb) (hg:GH all env g pg) (hd:Nat.blt d c.n=true)
  (hx:opd env x=some (.gv id xs)) (htok:getH hp id=some (.tok xs.length k)) (ho:opd env o=some (.d (.int kd n))) (hi:n = ↑b) (hb:b<=xs.length) (hpos:0<xs.length) (hf:zax env hp [j]=true)
  (hn:Walk c all chk os (zam (pg++(opF x (.gv id xs)++opF o (.d (.int kd n)))) [(id,.tok xs.length k)] [j] ⟨some (d,.gv j (xs.take b)),[(j,some (.tok b k)),(id,none)]⟩::recs)
   ⟨(d,.gv j (xs.take b))::env,(j,some (.tok b k))::(id,none)::hp⟩ Q):
  Walk c all chk (⟨some d,.slice t x none (some o) none,ty,pos,af,g⟩::os) recs ⟨env,hp⟩ Q:=by
 refine⟨pg++(opF x (.gv id xs)++opF o (.d (.int kd n))),[(id,.tok xs.length k)],[j],_, ?_,zat hg.facts (zat (zaU hx) (zaU ho)),hh1 htok,zbw hf,hn⟩;intro s a w hrel hp' hh hcr K Q' hK;obtain⟨G,hr⟩:=hrel;have e1:=hr.opd (zaX hx (fun p hm=>hp' p (by simp[hm])));have e2:=hr.opd (zaX ho (fun p hm=>hp' p (by simp[hm])));have htk:=hh1' hh;obtain⟨h0,hocc⟩:=hcr j og;obtain⟨⟨ad,cap0,hv0⟩,hcl⟩:=e1.gv_inv;have Ti:tokf s.hp id=some (xs.length,k):=zak.2 htk;obtain⟨hkx,htip⟩:=(hcl _ _ Ti).2 rfl;rcases htip with ⟨_,q2,_⟩|⟨bl,cap,cs,et,q1,q2,q3,q4,q5,q6,q7⟩
 ·omega
 obtain⟨G',hR,hF,lj,Tj⟩:=hr.tokMove id j b htk h0 hocc;unfold wpO;rw[if_pos (hg.gf.wanted hr (fun p hm=>hp' p (by simp[hm])))];unfold Oper.wp;have hbd:=zg3 (P:=c.P) (w:=w) true xs.length cap (lo:=none) (hi:=some (.int kd b)) (a:=0) (b:=b) (.inl ⟨rfl,rfl⟩) (.inr ⟨kd,rfl⟩) (Nat.zero_le _) od;have hrun:(execOp a.eval ⟨some d,.slice t x none (some o) none,ty,pos,af,g⟩).run c.P w = .ok (.value (.slice (some ⟨bl,0,none⟩) b cap)) w:=by
  simp only[execOp,e2.int_eq,hi,q2,Option.map_none,Option.map_some,Instr.sliceAt,Sem.run_bind,run_underlying ht.und,Result.andThen_ok,Instr.slice,hbd,ht.run_size,Sem.run_pure,Nat.zero_mul,Nat.sub_zero,zcR,Nat.zero_add,ite_self]
 rw[hrun,Oper.upon_value];have hl:(xs.take b).length=b:=by rw[List.length_take];omega
 have hA:RelA G' (tokf ((j,some (Res.tok b k))::(id,none)::s.hp)) w (.gv j (xs.take b)) (.slice (some ⟨bl,0,none⟩) b cap):=by
  refine .gv ⟨some ⟨bl,0,none⟩,cap,by rw[hl]⟩ (fun n' k' hT'=>?_);rw[Tj] at hT';cases hT'
  refine⟨by omega,fun _=>⟨fun y hy=>hkx y (List.mem_of_mem_take hy),.inr ⟨bl,cap,cs,et,by rw[lj];exact q1,I,by rw[hF];exact q3,q4,q5,by omega,fun i hi' jj hj'=>?_⟩⟩⟩;have hix:i<xs.length:=by rw[hl] at hi';omega
  have h9:=q7 i hix jj (by simpa [List.getElem_take] using hj');rw[hF];simpa [List.getElem_take] using h9
 exact hK _ _ ⟨G',hR.put hA hd⟩
end
theorem xa9 (l:List Val):Val.cs l=l.map Val.cc:=by
 rw[xba];exact List.map_congr_left (fun v _=>Val.c_eq v)
def za2 (w:List Data) (t:Ty) (k:Int):Str:=(nth (nth w t.data.toNat).ctors k.toNat).name
def isNm (w:List Data) (t:Ty) (s:Str) (k:Int):Bool:=decide (za2 w t k=s)
def nmV (w:List Data) (t:Ty) (s:Str):Int:=((zau w t).find? (isNm w t s)).getD (-1)
theorem zfo {w:List Data}{t:Ty}{s:Str} (h:¬nmV w t s<0):nmV w t s∈zau w t:=by
 unfold nmV at h ⊢;cases e:(zau w t).find? (isNm w t s) with
 |none=>rw[e] at h;simp at h
 |some k=>exact List.mem_of_find?_eq_some e
theorem zkP {w:List Data} (hw:WT w){a k:Int} (ht:TyIn w.length ⟨a,k⟩){s:Str}:
  FnD Tryz.prog 171 [.d (zae w),.agg [.d (.i a),.d (.i k)],.d (.str s)] [] (.d (.i (nmV w ⟨a,k⟩ s))) []:=by
 have hct:=zcW hw ht;have hpl:=fun(c:Int) (h:c∈zau w ⟨a,k⟩)=>za4 ht h;have hcl:=zer hw ht;have hnm:∀(d m:Nat),a=d->(za2 w ⟨a,k⟩ (m:Int))=(nth (nth w d).ctors m).name:=fun d m h=>by unfold za2;subst h;rfl
 have hdef:nmV w ⟨a,k⟩ s=((zau w ⟨a,k⟩).find? (isNm w ⟨a,k⟩ s)).getD (-1):=rfl;rw[hdef];have hisn:∀c,isNm w ⟨a,k⟩ s c=decide (za2 w ⟨a,k⟩ c=s):=fun _=>rfl;generalize zau w ⟨a,k⟩=l at *;refine bd Tryz.f171 37 [] [] fun _ _ _ _ hk=>?_;refine bx 3004 ?_;refine ev (wc zhu hct I I ?_);refine ev (xaA (ι:=List (Int)×List (Int)) hk (fun x=>[(8,.d (.i (x.1.length:Int)))]) [6,12,13,14,15,16,17,18,19,20,21,22,23,24,25,26,27,28,29,30,31,32,33,34,35,36] (fun x=>[]) (fun x=>x.1++x.2=l/\x.2.find? (isNm w ⟨a,k⟩ s)=l.find? (isNm w ⟨a,k⟩ s)) (fun x=>x.2.length) ([],l) ⟨by simp,I⟩ ⟨⟨_,I,xaV ?_⟩,O⟩ O (fun x=>rfl) (fun x hg1=>?_));focus (rfl)
 obtain⟨pre,rest⟩:=x;dsimp only at hg1 ⊢;refine evc [] [] ?_;apply sq<;>intro h1 h1p h1s<;>(try simp only[Q,xal] at h1p);rcases rest with _|⟨y,rest⟩
 ·exfalso;simp_all
 refine xbB (i:=(hpl y (by rw[<-hg1.1];simp)).choose) sl23 .none I I I (hpl y (by rw[<-hg1.1];simp)).choose_spec.1 (zag (hpl y (by rw[<-hg1.1];simp)).choose_spec.2.1) I ?_;refine evd [] [] (ixq zbd I I I (zaM hg1.1) I (evd [] [] (xbB (i:=(hpl y (by rw[<-hg1.1];simp)).choose_spec.2.2.choose) zbN .none I I I (hpl y (by rw[<-hg1.1];simp)).choose_spec.2.2.choose_spec.1 (zag (hpl y (by rw[<-hg1.1];simp)).choose_spec.2.2.choose_spec.2) I ?_)));refine evd [] [] (dr ?_);apply sq<;>intro h2 h2p h2s<;>(try simp only[Q,xal] at h2p);refine ixq zbd I I I (zaM hg1.1) I (ev (rq ?_));rotate_left;refine ar (xaj ((pre++[y],rest)) ⟨⟨(by have hz:=hg1.1;rw[<-hz];simp),(by rw[<-hg1.2,List.find?_cons_of_neg];rw[hisn,(hpl y (by rw[<-hg1.1];simp)).choose_spec.2.2.choose_spec.1,hnm _ _ (hpl y (by rw[<-hg1.1];simp)).choose_spec.1];simp_all)⟩,og,sx ⟨⟨_,I,xaV ?_⟩,O⟩ O⟩);focus ((simp;done))
 have hrest:rest=[]:=by
  rcases rest with _|⟨a,b⟩
  ·rfl
  ·exfalso;have hz:=xam List.length (hg1.1);simp only[xaa,xab,xac] at hz;omega
 subst hrest;refine rq ?_;rotate_left;all_goals ((refine xam D.i ?_;rw[<-hg1.2];first|rfl|(rw[List.find?_cons_of_pos (by rw[hisn,(hpl y (by rw[<-hg1.1];simp)).choose_spec.2.2.choose_spec.1,hnm _ _ (hpl y (by rw[<-hg1.1];simp)).choose_spec.1];simp_all)];rfl)))
def zbB (x:UInt8):Bool:=decide (48<=(x.toNat:Int))&&decide ((x.toNat:Int)<=57)
def EndIn (s:Str) (a:Int):Prop:= -1<=a/\a<=(s.length:Int)
theorem zmC {s:Str}{a:Int} (h0:0<=a) (h1:a<(s.length:Int)):EndIn s ((a.toNat+zaz (s.drop a.toNat):Nat):Int):=by
 have:=zfC (s.drop a.toNat);rw[List.length_drop] at this;exact⟨by omega,by omega⟩
set_option maxHeartbeats 4000000
theorem zaI {x:Int} (h1:97<=x) (h2:x<=122):IntKind.i64.wrap (IntKind.u8.wrap (x-97))=x-97:=by
 rw[zea,zbU od];omega
section
variable {w:List Data}{s:Str}{n m:Nat}{t:Ty}
variable (hm:m<s.length)
include hm
theorem zjO:¬((m:Int)<0\/(s.length:Int)<=(m:Int)):=by omega
omit hm in
theorem zie {x:UInt8} (h1:48<=(x.toNat:Int)) (h2:(x.toNat:Int)<=57):zbB x=true:=by unfold zbB;rw[xad,xah,xah];exact⟨h1,h2⟩
omit hm in
theorem zfU {x:UInt8} (h:¬(48<=(x.toNat:Int)/\(x.toNat:Int)<=57)):¬zbB x=true:=by unfold zbB;rw[xad,xah,xah];exact h
omit hm in
theorem zfW {x:UInt8} (h1:97<=(x.toNat:Int)) (h2:(x.toNat:Int)<=122):zaN x=true:=by unfold zaN;rw[xad,xah,xah];exact⟨h1,h2⟩
omit hm in
theorem zij {x:UInt8} (h:¬(97<=(x.toNat:Int)/\(x.toNat:Int)<=122)):¬zaN x=true:=by unfold zaN;rw[xad,xah,xah];exact h
omit hm in
theorem b_eq {x:UInt8}{k:Nat} (hk:k<256) (h:(x.toNat:Int)=(k:Int)):x=UInt8.ofNat k:=by
 rw[<-UInt8.toNat_inj,UInt8.toNat_ofNat_of_lt' hk];omega
omit hm in
theorem b_ne {x y:UInt8} (h:¬(x.toNat:Int)=(y.toNat:Int)):¬x=y:=fun e=>h (by rw[e])
end
def A3 (w:List Data):Prop:=∀t c,TyIn w.length t->c∈zau w t->(zac w t c).length<=3/\∀u∈zac w t c,TyIn w.length u
def letV (n:Int):Str:=strN [IntKind.u8.wrap (97+IntKind.u8.wrap n)]
theorem ziU (n:Int):(letV n).length=1:=rfl
def za1 {α:Type} (f:Ty->α->Str):Bool->List Ty->List α->Str
 |b,t::ts,p::ps=>((if b=true then [40] else [44])++f t p)++za1 f false ts ps
 |_,_,_=>[]
theorem zka {α:Type} [Inhabited α]{f:Ty->α->Str}:∀(i:Nat){b:Bool}{ts:List Ty}{ks:List α},i<ts.length->i<ks.length->
  za1 f b (ts.take (i+1)) (ks.take (i+1))=za1 f b (ts.take i) (ks.take i)++((if b=true/\i=0 then [40] else [44])++f (nth ts i) (nth ks i))
 |_,_,[],_,h,_=>by simp at h
 |_,_,_::_,[],_,h=>by simp at h
 |0,b,t::ts,k::ks,_,_=>by
  simp only[List.take_succ_cons,List.take_zero,za1,xaq,List.nil_append,and_true];rfl
 |i+1,b,t::ts,k::ks,h1,h2=>by
  have ih:=zka (f:=f) i (b:=false) (ts:=ts) (ks:=ks) (by simpa using h1) (by simpa using h2);rw[if_neg (fun h=>absurd h.1 og)] at ih;have e:(if b=true/\i+1=0 then ([40]:Str) else [44])=[44]:=if_neg od;rw[List.take_succ_cons,List.take_succ_cons,za1,ih,List.take_succ_cons,List.take_succ_cons,za1,e,xar ((if b=true then [40] else [44])++f t k)];rfl
theorem zfD {w:List Data} (hw:WT w) (hb:TB w){a k c:Int} (ht:TyIn w.length ⟨a,k⟩) (hc:c∈zau w ⟨a,k⟩):(za2 w ⟨a,k⟩ c).length<=5/\(zac w ⟨a,k⟩ c).length<=3:=by
 obtain⟨d,rfl,hd,j,rfl,hj⟩:=za4 ht hc;have:=hb.cn (nth w d) (zao hd) (nth (nth w d).ctors j) (zao hj);refine⟨this.1, ?_⟩;unfold zac;simp only[xac];exact this.2.1
theorem zi1 {n:Int}:FnD Tryz.prog 158 [.d (.i n)] [] (.d (.str (letV n))) []:=by
 refine bd Tryz.f158 8 [5] [] fun _ _ _ _ hk=>?_;refine xbu (by rw[un3];rfl) un5 .none I I ?_;refine Walk.addW .none I I I (si [0] [_] sl22 tz5 ?_);refine xbo sl22 un9 oj .none I I I (by first|rfl|exact zf0 _) ?_;refine evs [5] [] ?_;focus (refine rq ?_;all_goals (rfl))
set_option maxHeartbeats 2000000
set_option maxHeartbeats 4000000
def zay (w:List Data) (funs:List Ft):Nat->Ty->Ex->Str
 |0,_,_=>[]
 |n+1,t,e=>
  if e.op=1 then decV e.n
  else if e.op=2 then letV e.n
  else if e.op=4 then [43,40]++zay w funs n numT (nth e.kids 0)++[44]++zay w funs n numT (nth e.kids 1)++[41]
  else if e.op=5 then [35]++decV e.n++[40]++zay w funs n (nth funs e.n.toNat).arg (nth e.kids 0)++[41]
  else (za2 w t e.ctor++za1 (zay w funs n) true (zac w t e.ctor) e.kids)++(if 0<(zac w t e.ctor).length then [41] else [])
theorem zg5 {f:Ty->Ex->Str}:∀(b:Bool) (ts:List Ty) (ks:List Ex),(∀i,i<ts.length->i<ks.length->(f (nth ts i) (nth ks i)).length<=10*(nth ks i).size)->(za1 f b ts ks).length<=ks.length+10*Exs.size ks
 |_,[],ks,_=>by simp[za1]
 |_,_::_,[],_=>by simp[za1]
 |b,t::ts,k::ks,h=>by
  have ih:=zg5 false ts ks (fun i h1 h2=>h (i+1) (by simpa using h1) (by simpa using h2));have h0':(f t k).length<=10*k.size:=h 0 og og;have h3:(if b=true then [(40:UInt8)] else [44]).length=1:=by split<;>rfl
  rw[za1,xaa,xaa,Exs.size,h3];simp only[xab];omega
theorem zjV:∀(l:List Ex) (i:Nat),Exs.size (l.take i)<=Exs.size l
 | [],i=>by simp
 |x::r,0=>by simp[Exs.size]
 |x::r,i+1=>by
  have:=zjV r i;rw[List.take_succ_cons,Exs.size,Exs.size];omega
theorem zgo {l:List Ex}{i:Nat} (h:i<l.length):(nth l i).size<=Exs.size l:=xaS (zao h)
section
variable {w:List Data}{funs:List Ft}{vars:List Vt}{n:Nat}{t:Ty}{e:Ex}
theorem zik (h:zaD w funs vars (n+1) t e=true):(e.op=1\/e.op=2\/e.op=3\/e.op=4\/e.op=5)/\(e.op=1->0<=e.n/\e.n<=9)/\(e.op=3->e.n=0/\e.ctor∈zau w t)/\(e.op=4->t.data = -1)/\(e.op=5->0<=e.n/\e.n<(funs.length:Int)/\e.ctor=0)/\
  (zal w funs t e).length=e.kids.length/\∀i,i<e.kids.length->zaD w funs vars n (nth (zal w funs t e) i) (nth e.kids i)=true:=by
 unfold zaD at h;rw[xad] at h;obtain⟨h1,h2⟩:=h;unfold zce at h1;rw[xad,xah] at h1;obtain⟨h1,hl⟩:=h1;refine⟨?_,fun q=>?_,fun q=>?_,fun q=>?_,fun q=>?_,hl,fun i hi=>?_⟩
 ·by_cases h0:e.op≠1/\e.op≠2/\e.op≠3/\e.op≠4/\e.op≠5
  ·rw[ok_0 h0] at h1;exact absurd h1 og
  ·omega
 ·rw[ok_1 q] at h1;have:=xas h1;omega
 ·rw[ok_3 q] at h1;exact xas h1
 ·rw[ok_4 q] at h1;exact(xas h1).1
 ·rw[ok_5 q,xad] at h1;exact xas h1.1
 ·cases hs:zaD w funs vars n (nth (zal w funs t e) i) (nth e.kids i) with
  |true=>rfl
  |false=>
   have:=zeu (f:=zaD w funs vars n) (a:=zal w funs t e) (b:=e.kids) (i:=i) od hl hs;rw[this] at h2;cases h2
theorem te1 (h:e.op=1):zay w funs (n+1) t e=decV e.n:=by rw[zay];rw[if_pos h]
theorem te2 (h:e.op=2):zay w funs (n+1) t e=letV e.n:=by rw[zay];rw[if_neg od,if_pos h]
theorem te4 (h:e.op=4):zay w funs (n+1) t e=[43,40]++zay w funs n numT (nth e.kids 0)++[44]++zay w funs n numT (nth e.kids 1)++[41]:=by rw[zay];rw[if_neg od,if_neg od,if_pos h]
theorem te5 (h:e.op=5):zay w funs (n+1) t e=[35]++decV e.n++[40]++zay w funs n (nth funs e.n.toNat).arg (nth e.kids 0)++[41]:=by rw[zay];rw[if_neg od,if_neg od,if_neg od,if_pos h]
theorem te3 (h:e.op=3):zay w funs (n+1) t e=(za2 w t e.ctor++za1 (zay w funs n) true (zac w t e.ctor) e.kids)++(if 0<(zac w t e.ctor).length then [41] else []):=by rw[zay];rw[if_neg od,if_neg od,if_neg od,if_neg od]
end
theorem zdP {n:Nat}{t:Ty} (h:TyOk n t) (hd:t.data = -1):t=numT:=by
 obtain⟨a,k⟩:=t;have:=h.2 hd;simp only at this hd;subst this;subst hd;rfl
theorem zd5 {w:List Data}{funs:List Ft}{vars:List Vt} (hw:WT w) (hb:TB w) (haz:AZ w) (hfa:∀f∈funs,TyOk w.length f.arg):∀(n:Nat){t:Ty}{e:Ex},zaD w funs vars n t e=true->TyOk w.length t->(zay w funs n t e).length<=10*e.size
 |0,t,e,h,_=>by simp[zaD] at h
 |n+1,t,e,h,ht=>by
  obtain⟨o,o1,o3,o4,o5,hl,hk⟩:=zik h;have hin:=zcZ hw haz hfa ht (e:=e);have hkl:∀i,i<e.kids.length->(zay w funs n (nth (zal w funs t e) i) (nth e.kids i)).length<=10*(nth e.kids i).size:=fun i hi=>zd5 hw hb haz hfa n (hk i hi) (hin _ (zao od));rw[xaN];rcases o with h1|h2|h3|h4|h5
  ·rw[te1 h1,zdX];omega
  ·rw[te2 h2,ziU];omega
  ·obtain⟨q1,q2⟩:=o3 h3;rw[ty_3 h3 q1 q2] at hl hkl;obtain⟨a,k⟩:=t;have:=zfD hw hb ht.1 q2;have h1:=zg5 (f:=zay w funs n) true (zac w ⟨a,k⟩ e.ctor) e.kids (fun i q1 q2=>hkl i q2);have h3':(if 0<(zac w ⟨a,k⟩ e.ctor).length then [(41:UInt8)] else []).length<=1:=by split<;>simp
   rw[te3 h3];simp only[xaa];omega
  ·rw[ty_4 h4,zdP ht (o4 h4)] at hl hkl;have hl2:e.kids.length=2:=hl.symm;have k0':(zay w funs n numT (nth e.kids 0)).length<=10*(nth e.kids 0).size:=hkl 0 od;have k1':(zay w funs n numT (nth e.kids 1)).length<=10*(nth e.kids 1).size:=hkl 1 od;have hs:(nth e.kids 0).size+(nth e.kids 1).size=Exs.size e.kids:=by
    generalize e.kids=l at *;rcases l with _|⟨x,_|⟨y,_|⟨z,r⟩⟩⟩
    ·simp at hl2
    ·simp at hl2
    ·simp[Exs.size,nth]
    ·simp at hl2
   rw[te4 h4];simp only[xaa,xab,xak];omega
  ·rw[ty_5 h5 (o5 h5)] at hl hkl;have hl2:e.kids.length=1:=hl.symm;have k0':(zay w funs n (nth funs e.n.toNat).arg (nth e.kids 0)).length<=10*(nth e.kids 0).size:=hkl 0 od;have:=zgo (l:=e.kids) (i:=0) od;rw[te5 h5];simp only[xaa,zdX,xab,xak];omega
theorem zmz {w:List Data}{funs:List Ft}{vars:List Vt} (hw:WT w) (hb:TB w) (haz:AZ w) (hf9:funs.length<=9) (hfa:∀f∈funs,TyOk w.length f.arg){n:Nat}
  (ih:∀ {a k:Int}{e:Ex},zaD w funs vars n ⟨a,k⟩ e=true->TyOk w.length ⟨a,k⟩->e.ok->e.size<=10000000->FnD Tryz.prog 80 [.d (zae w),.d (zaF funs),.agg [.d (.i a),.d (.i k)],.agg [.d (.i e.op),.d (.i e.n),.d (.i e.ctor),.d (zaE e.kids)]] [] (.d (.str (zay w funs n ⟨a,k⟩ e))) [])
  {a k:Int}{e:Ex} (h:zaD w funs vars (n+1) ⟨a,k⟩ e=true) (ht:TyOk w.length ⟨a,k⟩) (hok:e.ok) (hsz:e.size<=10000000):
  FnD Tryz.prog 80 [.d (zae w),.d (zaF funs),.agg [.d (.i a),.d (.i k)],.agg [.d (.i e.op),.d (.i e.n),.d (.i e.ctor),.d (zaE e.kids)]] [] (.d (.str (zay w funs (n+1) ⟨a,k⟩ e))) []:=by
 obtain⟨o,o1,o3,o4,o5,hl,hkf⟩:=zik h;have hin:=zcZ hw haz hfa ht (e:=e);rw[xaN] at hsz;rw[xaL] at hok;have hkid:∀i,i<e.kids.length->∀t,t=nth (zal w funs ⟨a,k⟩ e) i->FnD Tryz.prog 80 [.d (zae w),.d (zaF funs),.agg [.d (.i t.data),.d (.i t.index)],.agg [.d (.i (nth e.kids i).op),.d (.i (nth e.kids i).n),.d (.i (nth e.kids i).ctor),.d (zaE (nth e.kids i).kids)]] [] (.d (.str (zay w funs n t (nth e.kids i)))) []:=fun i hi t q=>by
  subst q;exact ih (a:=(nth (zal w funs ⟨a,k⟩ e) i).data) (k:=(nth (zal w funs ⟨a,k⟩ e) i).index) (hkf i hi) (hin _ (zao od)) (xaQ hok.2 _ (zao hi)) (by have:=zgo hi;omega)
 have hlen:∀i,i<e.kids.length->∀t,t=nth (zal w funs ⟨a,k⟩ e) i->(zay w funs n t (nth e.kids i)).length<=100000000:=fun i hi t q=>by
  subst q;have:=zd5 hw hb haz hfa n (hkf i hi) (hin _ (zao od));have h2:=zgo hi;omega
 by_cases h3:e.op=3
 ·obtain⟨z1,z2⟩:=o3 h3;have hkf':=hkf;rw[ty_3 h3 z1 z2] at hl hkid hlen hkf';obtain⟨n1,n2⟩:=zfD hw hb ht.1 z2;have hag:=zbW hw ht.1 z2;obtain⟨d,rfl,hd,j,hj0,hj⟩:=za4 ht.1 z2;have hnm:za2 w ⟨(d:Int),k⟩ e.ctor=(nth (nth w d).ctors j).name:=by unfold za2;rw[hj0];rfl
  have hnx:=fun i=>zka (f:=zay w funs n) i (b:=true) (ts:=zac w ⟨(d:Int),k⟩ e.ctor) (ks:=e.kids);have htl:∀i,i<=3->(za1 (zay w funs n) true ((zac w ⟨(d:Int),k⟩ e.ctor).take i) (e.kids.take i)).length<=1000000000:=fun i hi=>by
   have h1:=zg5 (f:=zay w funs n) true ((zac w ⟨(d:Int),k⟩ e.ctor).take i) (e.kids.take i) (fun i' q1 q2=>by
    rw[List.length_take] at q1 q2;have e1:nth ((zac w ⟨(d:Int),k⟩ e.ctor).take i) i'=nth (zac w ⟨(d:Int),k⟩ e.ctor) i':=by rw[zaY (by rw[List.length_take];omega),zaY od,List.getElem_take]
    have e2:nth (e.kids.take i) i'=nth e.kids i':=by rw[zaY (by rw[List.length_take];omega),zaY od,List.getElem_take]
    rw[e1,e2];have h9:=hin (nth (zac w ⟨(d:Int),k⟩ e.ctor) i') (by rw[ty_3 h3 z1 z2];exact zao od);exact zd5 hw hb haz hfa n (hkf' i' od) h9)
   have h2:=zjV e.kids i;rw[List.length_take] at h1;omega
  rw[te3 h3,hnm];have hfin:=List.take_length (l:=zac w ⟨(d:Int),k⟩ e.ctor);have hfin2:=List.take_length (l:=e.kids);clear hkf hkf' ih;generalize zac w ⟨(d:Int),k⟩ e.ctor=ts at *;refine bd Tryz.f80 118 [95,97,111,116] [] fun _ _ _ _ hk=>?_;refine bx 3006 ?_;refine bx 3007 ?_;refine evs [95,97,111,116] [] (bu [0] [_] st38 ?_);refine ab 3009 tz38 ?_;refine so ty38 ?_;apply tv;apply sq<;>intro h1 h1p h1s;try simp only[Q,xal,xaJ,xac] at h1p
  exfalso;omega;apply sq<;>intro h2 h2p h2s;try simp only[Q,xal,xaJ,xac] at h2p
  exfalso;omega;apply sq<;>intro h3 h3p h3s;try simp only[Q,xal,xaJ,xac] at h3p
  exfalso;omega;apply sq<;>intro h4 h4p h4s;try simp only[Q,xal,xaJ,xac] at h4p
  exfalso;omega;refine ixq sl23 I I I (zag hd) I (evd [95,97,111,116] [] (ixq (i:=j) zbN I I hj0 (zag hj) I (evd [95,97,111,116] [] (dr (wc zdm hag I I ?_)))));refine evs [95,97,111,116] [] (xaA (ι:=Nat) hk (fun i=>[(12,.d (.i (i:Int))),(10,.d (.str ((nth (nth w d).ctors j).name++za1 (zay w funs n) true (ts.take i) (e.kids.take i))))]) [86,87,88,89,90,91,92,93,94,95,96,97,98,99,100,101,102,103,104,105,106,107,108,109,110,111] (fun i=>[]) (fun i=>i<=ts.length) (fun i=>ts.length-i) 0 od ⟨⟨_,I,xaV ?_⟩,⟨⟨_,I,xaW ?_⟩,O⟩⟩ O (fun x=>rfl) (fun i hg1=>?_));iterate 2 focus ((simp[za1];done))
  refine evc [95,97,111,116] [] ?_;apply sq<;>intro h5 h5p h5s<;>(try simp only[Q,xal,xaJ,xac] at h5p);apply sq<;>intro h6 h6p h6s<;>(try simp only[Q,xal,xaJ,xac] at h6p);refine xbs .none I I I (by rw[hnm] at n1;have:=htl i od;(have:=hlen i od (nth ts i) rfl;simp only[xaa,xab,xak];omega)) ?_;refine evs [95,97,111,116] [] (ixq zaJ I I I (zag od) I ?_);refine evd [95,97,111,116] [] (ixq sl39 I I I (zdL od) I ?_);refine evd [95,97,111,116] [] (wc zgE (hkid i od (nth ts i) I) I I ?_);refine xbs .none I I I (by rw[hnm] at n1;have:=htl i od;(have:=hlen i od (nth ts i) rfl;simp only[xaa,xab,xak];omega)) ?_;refine evd [95,97,111,116] [] (dr (ar (xaj (i+1) ⟨od,od,sx ⟨⟨_,I,xaV ?_⟩,⟨⟨_,I,xaW ?_⟩,O⟩⟩ O⟩)));iterate 2 focus (first|rfl|(rw[hnx i od od,if_pos ⟨rfl,by omega⟩];simp;done))
  refine xbs .none I I I (by rw[hnm] at n1;have:=htl i od;(have:=hlen i od (nth ts i) rfl;simp only[xaa,xab,xak];omega)) ?_;refine evs [95,97,111,116] [] (ixq zaJ I I I (zag od) I ?_);refine evd [95,97,111,116] [] (ixq sl39 I I I (zdL od) I ?_);refine evd [95,97,111,116] [] (wc zgE (hkid i od (nth ts i) I) I I ?_);refine xbs .none I I I (by rw[hnm] at n1;have:=htl i od;(have:=hlen i od (nth ts i) rfl;simp only[xaa,xab,xak];omega)) ?_;refine evd [95,97,111,116] [] (dr (ar (xaj (i+1) ⟨od,od,sx ⟨⟨_,I,xaV ?_⟩,⟨⟨_,I,xaW ?_⟩,O⟩⟩ O⟩)));iterate 2 focus (first|rfl|(rw[hnx i od od,if_neg od];simp;done))
  apply sq<;>intro h7 h7p h7s<;>(try simp only[Q,xal,xaJ,xac] at h7p);refine xbs .none I I I (by rw[hnm] at n1;have:=htl i od;(simp only[xaa,xab,xak];omega)) ?_;refine evs [95,97,111,116] [] (rq ?_);rotate_left;refine rq ?_;rotate_left;all_goals (have e1:i=ts.length:=od;subst e1;rw[hfin,show ts.length=e.kids.length by omega,hfin2];first|(rw[if_pos od];done)|(rw[if_neg od,xaq];done))
 ·have e4:e.op=4->e.kids.length=2:=fun q=>by rw[ty_4 q] at hl;exact hl.symm
  have e5:e.op=5->e.kids.length=1:=fun q=>by rw[ty_5 q (o5 q)] at hl;exact hl.symm
  have hk40:=fun(q:e.op=4)=>hkid 0 (by rw[e4 q];omega) numT (by rw[ty_4 q,zdP ht (o4 q)];rfl);have hk41:=fun(q:e.op=4)=>hkid 1 (by rw[e4 q];omega) numT (by rw[ty_4 q,zdP ht (o4 q)];rfl);have hk50:=fun(q:e.op=5)=>hkid 0 (by rw[e5 q];omega) (nth funs e.n.toNat).arg (by rw[ty_5 q (o5 q)];rfl);have hn40:=fun(q:e.op=4)=>hlen 0 (by rw[e4 q];omega) numT (by rw[ty_4 q,zdP ht (o4 q)];rfl);have hn41:=fun(q:e.op=4)=>hlen 1 (by rw[e4 q];omega) numT (by rw[ty_4 q,zdP ht (o4 q)];rfl);have hn50:=fun(q:e.op=5)=>hlen 0 (by rw[e5 q];omega) (nth funs e.n.toNat).arg (by rw[ty_5 q (o5 q)];rfl);have hdl:=zdX e.n;have hll:=ziU e.n;clear ih hkid hlen hkf;refine bd Tryz.f80 118 [36,37,46,47,53,54,68,69] [] fun _ _ _ _ hk=>?_;refine bx 3006 ?_;refine bx 3007 ?_;refine evs [36,37,46,47,53,54,68,69] [] (bu [0] [_] st38 ?_);refine ab 3009 tz38 ?_;refine so ty38 ?_;apply tv;apply sq<;>intro h1 h1p h1s<;>(try simp only[Q,xal,xaJ,xac] at h1p);refine wc zhq (zcV (n:=e.n) (o1 od).1 (o1 od).2) I I ?_;refine evs [36,37,46,47,53,54,68,69] [] (rq ?_);rotate_left;apply sq<;>intro h2 h2p h2s<;>(try simp only[Q,xal,xaJ,xac] at h2p);refine wc zsi (zi1 (n:=e.n)) I I ?_;refine evs [36,37,46,47,53,54,68,69] [] (rq ?_);rotate_left;apply sq<;>intro h3 h3p h3s<;>(try simp only[Q,xal,xaJ,xac] at h3p);refine ixq (i:=0) sl39 I I I (zdL (by(rw[e4 od];omega))) I ?_;refine evd [36,37,46,47,53,54,68,69] [] (wc zgE (hk40 od) I I ?_);refine xbs .none I I I (by(have:=hn40 od;have:=hn41 od;simp only[xaa,xab,xak];omega)) ?_;refine xbs .none I I I (by(have:=hn40 od;have:=hn41 od;simp only[xaa,xab,xak];omega)) ?_;refine evd [36,37,46,47,53,54,68,69] [] (ixq (i:=1) sl39 I I I (zdL (by(rw[e4 od];omega))) I ?_);refine evd [36,37,46,47,53,54,68,69] [] (wc zgE (hk41 od) I I ?_);refine xbs .none I I I (by(have:=hn40 od;have:=hn41 od;simp only[xaa,xab,xak];omega)) ?_;refine xbs .none I I I (by(have:=hn40 od;have:=hn41 od;simp only[xaa,xab,xak];omega)) ?_;refine evd [36,37,46,47,53,54,68,69] [] (dr (rq ?_));rotate_left;apply sq<;>intro h4 h4p h4s<;>(try simp only[Q,xal,xaJ,xac] at h4p);refine wc zhq (zcV (n:=e.n) (o5 od).1 (by have:=(o5 od).2.1;omega)) I I ?_;refine xbs .none I I I (by(have:=hn50 od;simp only[xaa,xab,xak,hdl];omega)) ?_;refine xbs .none I I I (by(have:=hn50 od;simp only[xaa,xab,xak,hdl];omega)) ?_;refine evd [36,37,46,47,53,54,68,69] [] (ixq (i:=e.n.toNat) sl35 I I (by have:=o5 od;omega) (zag (by have:=o5 od;omega)) I ?_);refine evd [36,37,46,47,53,54,68,69] [] (ixq (i:=0) sl39 I I I (zdL (by(rw[e5 od];omega))) I ?_);refine evd [36,37,46,47,53,54,68,69] [] (wc zgE (hk50 od) I I ?_);refine xbs .none I I I (by(have:=hn50 od;simp only[xaa,xab,xak,hdl];omega)) ?_;refine xbs .none I I I (by(have:=hn50 od;simp only[xaa,xab,xak,hdl];omega)) ?_;refine evd [36,37,46,47,53,54,68,69] [] (dr (rq ?_));rotate_left;exfalso;omega;all_goals (first|(rw[te1 od];done)|(rw[te2 od];done)|(rw[te4 od];all_goals rfl)|(rw[te5 od];all_goals rfl))
theorem zen {w:List Data}{funs:List Ft}{vars:List Vt} (hw:WT w) (hb:TB w) (haz:AZ w) (hf9:funs.length<=9) (hfa:∀f∈funs,TyOk w.length f.arg):∀(n:Nat){a k:Int}{e:Ex},zaD w funs vars n ⟨a,k⟩ e=true->TyOk w.length ⟨a,k⟩->e.ok->e.size<=10000000->
  FnD Tryz.prog 80 [.d (zae w),.d (zaF funs),.agg [.d (.i a),.d (.i k)],.agg [.d (.i e.op),.d (.i e.n),.d (.i e.ctor),.d (zaE e.kids)]] [] (.d (.str (zay w funs n ⟨a,k⟩ e))) []
 |0,a,k,e,h,_,_,_=>by simp[zaD] at h
 |n+1,a,k,e,h,ht,hok,hsz=>zmz hw hb haz hf9 hfa (fun {a k e} q1 q2 q3 q4=>zen hw hb haz hf9 hfa n q1 q2 q3 q4) h ht hok hsz
set_option maxHeartbeats 2000000
structure MatchOk (w:List Data) (n m:Nat) (t:Ty) (p:Pat) (v:Val):Prop where
 shape:zb0 w n t p=true
 fits:zq7 w m t v=true
 pok:p.ok
 vok:v.ok
 psz:p.size<=100
 vsz:v.size<=100
theorem MatchOk.two {w:List Data}{n m:Nat}{t:Ty}{p:Pat}{v:Val} (h:MatchOk w (n+1) m t p v) (h5:p.op=5):
  p.kids.length=2/\MatchOk w n m t (nth p.kids 0) v/\MatchOk w n m t (nth p.kids 1) v:=by
 obtain⟨hl,s0,s1⟩:=zpQ h.shape h5;have hpk:=(xaZ p).1 h.pok;have hps:=xa0 p;have z0:=zhS (l:=p.kids) (i:=0) od;have z1:=zhS (l:=p.kids) (i:=1) od;have hs:=h.psz;exact⟨hl,⟨s0,h.fits,xa1 hpk.2 _ (zao od),h.vok,by omega,h.vsz⟩,⟨s1,h.fits,xa1 hpk.2 _ (zao od),h.vok,by omega,h.vsz⟩⟩
theorem MatchOk.one {w:List Data}{n m:Nat}{t:Ty}{p:Pat}{v:Val} (h:MatchOk w (n+1) m t p v) (h6:p.op=6):
  p.kids.length=1/\MatchOk w n m t (nth p.kids 0) v:=by
 obtain⟨hl,s0⟩:=zpP h.shape h6;have hpk:=(xaZ p).1 h.pok;have hps:=xa0 p;have z0:=zhS (l:=p.kids) (i:=0) od;have hs:=h.psz;exact⟨hl,⟨s0,h.fits,xa1 hpk.2 _ (zao od),h.vok,by omega,h.vsz⟩⟩
structure VarsOk (l:List Bd) (vs:List Vt):Prop where
 len:l.length=vs.length
 nod:(l.map Bd.var).Nodup
 sub:∀x∈l.map Bd.var,x∈vs.map Vt.var
set_option maxHeartbeats 4000000
theorem zjB {w:List Data}{funs:List Ft}{vars:List Vt}{t:Ty}{e:Ex} (h:isE w funs vars t e=true):zaD w funs vars 10 t e=true:=by
 unfold isE at h;rw[xad] at h;exact h.1
theorem zpj {w:List Data}{funs:List Ft}{vars:List Vt}{t:Ty}{e:Ex} (h:isE w funs vars t e=true):e.size<=60:=by
 unfold isE at h;rw[xad,xah] at h;omega
end Go.Proofs.YtmkipahfpaacgaaGreatDoor
namespace Go.Proofs.YtmkipahfpaacgaaGreatDoor
open Go Go.RowKit
set_option linter.unusedSimpArgs false
set_option linter.unusedVariables false
theorem zoD {G:Gh}{w w':World} (h:Below w.heap.size w w') (ht:∀b,w.heap.size<=b->G.F b=0) (own:List Nat):Frm w G.F own w' G.F:=
 ⟨h.os,h.tape,h.output,h.size,fun b hb _=>⟨h.block b hb,rfl⟩,fun b o ho=>⟨ho,by
  by_cases hb:b<w.heap.size
  ·unfold World.cell?;simp only[h.block b hb]
  ·rw[ht b od] at ho;omega⟩⟩
theorem FnD.strOf {P:Program}{f:FuncId}{args:List AV}{s:List UInt8} (h:∀(G:Gh) (w:World) (vals:Array Value),AllR G (fun _=>none) w args vals->(∀b,w.heap.size<=b->G.F b=0)->Calls P f vals w fun e w'=>e = .returned (.string ⟨s.toArray⟩)/\Below w.heap.size w w'):
  FnD P f args [] (.d (.str s)) []:=by
 intro G w vals hok;have hTn:tokf []=fun _=>none:=by funext i;rfl
 have ha:=hok.args;rw[hTn] at ha;refine(h G w vals ha hok.top).mono ?_;rintro e w' ⟨rfl,hb⟩
 exact⟨_,_,_,G,rfl,⟨rfl,rfl⟩,.d (.str s),fun id x hx=>by simp[getH] at hx,fun id id' h1=>by simp[getH] at h1,fun id h1=>by simp[getH] at h1,
  zoD hb hok.top _,fun b hb'=>hok.top b (Nat.le_trans hb.size hb'),fun id hid=>by simp[zb8,getH] at hid⟩
theorem AllR.one {G:Gh}{T:TokF}{w:World}{x:AV}{vals:Array Value} (h:AllR G T w [x] vals):∃v,vals = #[v]/\RelA G T w x v:=by
 have hs:=h.size;obtain⟨l⟩:=vals;match l,hs with
 | [v],_=>exact⟨v,rfl,h.rel 0 og og⟩
theorem AllR.two {G:Gh}{T:TokF}{w:World}{x y:AV}{vals:Array Value} (h:AllR G T w [x,y] vals):∃v u,vals = #[v,u]/\RelA G T w x v/\RelA G T w y u:=by
 have hs:=h.size;obtain⟨l⟩:=vals;match l,hs with
 | [v,u],_=>exact⟨v,u,rfl,h.rel 0 og og,h.rel 1 og og⟩
def zcv (sep:List UInt8):List (List UInt8)->List UInt8
 | []=>[]
 | [x]=>x
 |x::y::r=>x++sep++zcv sep (y::r)
theorem zhI (sep:List UInt8):∀l,Lib.join l sep=zcv sep l
 | []=>rfl
 | [x]=>Lib.join_one x sep
 |x::y::r=>by
  have ih:=zhI sep (y::r);rw[Lib.join_cons] at ih ⊢;rw[zcv,<-ih];simp[Lib.joinTail]
theorem FnD.join {P:Program}{f:FuncId}{l:List (List UInt8)}{sep:List UInt8}
  (hnone:∀(a:Option Addr) (c:Nat) (sep:ByteArray) (w:World),Calls P f #[.slice a 0 c,.string sep] w fun e w'=>e = .returned (.string ⟨#[]⟩)/\w'=w)
  (hmany:∀(bk o c:Nat) (xs:List ByteArray) (sep:ByteArray) (w:World),(∀(j:Nat) x,xs[j]?=some x->w.cell? ⟨bk,o+j,none⟩=some (.string x))->bk<w.heap.size->xs.length<=140737488355328->xs.length<=c->
   (Lib.join (xs.map (·.data.toList)) sep.data.toList).length<=140737488355328->
   Calls P f #[.slice (some ⟨bk,o,none⟩) xs.length c,.string sep] w fun e w'=>e = .returned (.string ⟨(Lib.join (xs.map (·.data.toList)) sep.data.toList).toArray⟩)/\Below w.heap.size w w')
  (hl:l.length<=140737488355328) (hj:(zcv sep l).length<=140737488355328):FnD P f [.d (.sl (l.map fun s=>[.str s])),.d (.str sep)] [] (.d (.str (zcv sep l))) []:=by
 refine FnD.strOf (fun G w vals hv htop=>?_);obtain⟨v,u,rfl,h1,h2⟩:=hv.two;have h2':=h2.d_inv;cases h2'
 by_cases hx:l=[]
 ·subst hx;have h1':=h1.d_inv;have:∃a c,v = .slice a 0 c:=by
   cases h1' with
   |nil=>exact⟨_,_,rfl⟩
   |sl=>exact⟨_,_,rfl⟩
   |emp=>exact⟨_,_,rfl⟩
  obtain⟨a,c,rfl⟩:=this;exact(hnone a c _ w).mono (by rintro e w' ⟨rfl,rfl⟩;exact⟨rfl,Below.refl _ _⟩)
 ·have h1':=h1.d_inv;generalize hY:(l.map fun s=>[D.str s])=Y at h1';cases h1' with
  |nil=>simp at hY;exact absurd hY hx
  |emp=>simp at hY;exact absurd hY hx
  |sl xs k b off cap cf hk hcap hc hr=>
   subst hY;have hlen:(l.map fun s=>[D.str s]).length=l.length:=by simp
   have hpos:0<l.length:=List.length_pos_iff.2 hx;have k1:k=1:=by
    have:=hk [D.str (l[0])] (List.mem_map.2 ⟨l[0],xao _,rfl⟩);simpa using this.symm
   subst k1;have hcell:∀i (hi:i<l.length),w.cell? ⟨b,off+i,none⟩=some (.string ⟨l[i].toArray⟩):=fun i hi=>by
    obtain⟨_,h3⟩:=hc i (by rw[hlen];omega);rw[h3];have h4:=hr i (by rw[hlen];exact hi) 0 og;simp only[List.getElem_map,List.getElem_cons_zero,Nat.mul_one,Nat.add_zero] at h4;cases hq:cf i with
    |string s=>rw[hq] at h4;cases h4;rfl
    |_=>rw[hq] at h4;cases h4
   have hb:b<w.heap.size:=by
    obtain⟨h3,_⟩:=hc 0 (by rw[hlen];omega);by_cases hq:b<w.heap.size
    ·exact hq
    ·rw[htop b od] at h3;omega
   have e1:(l.map fun s=>(⟨s.toArray⟩:ByteArray)).map (·.data.toList)=l:=by rw[List.map_map];exact List.map_id _
   have:=hmany b off cap (l.map fun s=>⟨s.toArray⟩) ⟨sep.toArray⟩ w (fun j x hj=>by
    rw[List.getElem?_map] at hj;obtain⟨hlt,e⟩:=Option.map_eq_some_iff.1 hj;obtain⟨hq,e2⟩:=List.getElem?_eq_some_iff.1 e.1;rw[hcell j hq,e2,e.2]) hb (by rw[xac];exact hl) (by rw[xac,<-hlen];exact hcap) (by rw[e1,zhI];simpa using hj)
   rw[e1,zhI,xac] at this;rw[hlen];refine this.mono (by rintro e w' ⟨rfl,h⟩;exact⟨by simp,h⟩)
theorem FnD.itoa {P:Program}{f:FuncId}{n:Int} (h:∀(i:Nat) (_:i<100) (w:World),Calls P f #[.int .i64 i] w fun e w'=>e = .returned (.string ⟨(Lib.decDigits i).toArray⟩)/\w'=w) (h0:0<=n) (h9:n<=9):
  FnD P f [.d (.int .i64 n)] [] (.d (.str [UInt8.ofNat (48+n.toNat)])) []:=by
 refine FnD.strOf (fun G w vals hv htop=>?_);obtain⟨v,rfl,h1⟩:=hv.one;have h1':=h1.d_inv;cases h1'
 obtain⟨i,rfl⟩:=Int.eq_ofNat_of_zero_le h0;refine(h i od w).mono ?_;rintro e w' ⟨rfl,rfl⟩
 refine⟨?_,Below.refl _ _⟩;rw[Lib.decDigits,dif_pos od];rfl
end Go.Proofs.YtmkipahfpaacgaaGreatDoor
namespace Go.Proofs.YtmkipahfpaacgaaGreatDoor
open Go
set_option linter.unusedSimpArgs false
set_option linter.unusedVariables false
set_option maxRecDepth 100000
def kT {α:Type} [Inhabited α] (f:Ty->α->Str) (ts:List Ty) (ks:List α):List Str:=(List.range ks.length).map fun i=>f (nth ts i) (nth ks i)
def zc5 (l:List Str):Str:=if l=[] then [] else [40]++zcv [44] l++[41]
theorem zny {α:Type} [Inhabited α]{f:Ty->α->Str}{t:Ty}{ts:List Ty}{k:α}{ks:List α}:kT f (t::ts) (k::ks)=f t k::kT f ts ks:=by
 unfold kT;rw[xab,List.range_succ_eq_map,xaf,List.map_map];rfl
theorem zmw {α:Type} [Inhabited α]{f:Ty->α->Str}{ts:List Ty}{ks:List α}:(kT f ts ks).length=ks.length:=by simp[kT]
theorem zmx {α:Type} [Inhabited α]{f:Ty->α->Str}{ts:List Ty}{ks:List α}{i:Nat} (h:i<ks.length):nth (kT f ts ks) i=f (nth ts i) (nth ks i):=by
 rw[zaY (by rw[zmw];exact h)];simp[kT]
theorem zjD (sep x:Str) (r:List Str):zcv sep (x::r)=x++r.flatMap (sep++·):=by
 induction r generalizing x with
 |nil=>simp[zcv]
 |cons y r ih=>rw[zcv,ih,List.flatMap_cons];simp
theorem znN {α:Type} [Inhabited α]{f:Ty->α->Str}:∀ {ts:List Ty}{ks:List α},ts.length=ks.length->za1 f false ts ks=(kT f ts ks).flatMap ([44]++·)
 | [],[],_=>rfl
 |t::ts,k::ks,h=>by
  rw[za1,zny,List.flatMap_cons,znN (ts:=ts) (ks:=ks) (by simpa using h)];rfl
theorem zqI {α:Type} [Inhabited α]{f:Ty->α->Str}{ts:List Ty}{ks:List α} (h:ts.length=ks.length):za1 f true ts ks++(if 0<ts.length then [41] else [])=zc5 (kT f ts ks):=by
 cases ts with
 |nil=>
  cases ks with
  |nil=>rfl
  |cons k ks=>simp at h
 |cons t ts=>
  cases ks with
  |nil=>simp at h
  |cons k ks=>
   rw[za1,if_pos rfl,zny,znN (ts:=ts) (ks:=ks) (by simpa using h),if_pos (show 0<(t::ts).length by simp)];unfold zc5;rw[if_neg og,zjD];simp
theorem zlc {sep:Str}{l:List Str}{m:Nat} (h:∀x∈l,x.length<=m):(zcv sep l).length<=l.length*(m+sep.length):=by
 cases l with
 |nil=>simp[zcv]
 |cons x r=>
  rw[zjD];have h0:=h x og;have:∀r:List Str,(∀x∈r,x.length<=m)->(r.flatMap (sep++· : Str->Str)).length<=r.length*(m+sep.length):=by
   intro r;induction r with
   |nil=>simp
   |cons y r ih=>
    intro h;have h1:=ih (fun x hx=>h x (by simp[hx]));have h2:=h y og;simp only[List.flatMap_cons,xaa,xab,Nat.add_mul,Nat.one_mul];omega
  have h3:=this r (fun y hy=>h y (by simp[hy]));simp only[xaa,xab,Nat.add_mul,Nat.one_mul];rw[Nat.add_comm];omega
section
variable {w:List Data}{funs:List Ft}{n:Nat}{t:Ty}{e:Ex}
theorem et3 (h:e.op=3) (h1:e.n=0) (h2:e.ctor∈zau w t) (hl:(zal w funs t e).length=e.kids.length):zay w funs (n+1) t e=za2 w t e.ctor++zc5 (kT (zay w funs n) (zal w funs t e) e.kids):=by
 rw[ty_3 h h1 h2] at hl ⊢;rw[te3 h,xar,zqI hl]
theorem zqK {l:List Str} (h:l.length=2):zc5 l=[40]++nth l 0++[44]++nth l 1++[41]:=by
 rcases l with _|⟨x,_|⟨y,_|⟨z,r⟩⟩⟩
 ·simp at h
 ·simp at h
 ·unfold zc5;rw[if_neg og];simp[zcv,nth]
 ·simp at h
theorem zqy {l:List Str} (h:l.length=1):zc5 l=[40]++nth l 0++[41]:=by
 rcases l with _|⟨x,_|⟨y,r⟩⟩
 ·simp at h
 ·unfold zc5;rw[if_neg og];simp[zcv,nth]
 ·simp at h
theorem et4 (h:e.op=4) (ht:t=numT) (hl:(zal w funs t e).length=e.kids.length):zay w funs (n+1) t e=[43]++zc5 (kT (zay w funs n) (zal w funs t e) e.kids):=by
 subst ht;rw[ty_4 h] at hl ⊢;have hl2:e.kids.length=2:=hl.symm;rw[te4 h,zqK (by rw[zmw];exact hl2),zmx od,zmx od];simp[nth]
theorem et5 (h:e.op=5) (h1:0<=e.n/\e.n<(funs.length:Int)/\e.ctor=0) (hl:(zal w funs t e).length=e.kids.length):zay w funs (n+1) t e=[35]++decV e.n++zc5 (kT (zay w funs n) (zal w funs t e) e.kids):=by
 rw[ty_5 h h1] at hl ⊢;have hl2:e.kids.length=1:=hl.symm;rw[te5 h,zqy (by rw[zmw];exact hl2),zmx od];simp[nth]
end
theorem zqh {n:Int} (h0:0<=n) (h9:n<=9):[UInt8.ofNat (48+n.toNat)]=decV n:=by
 unfold decV;rw[zea,Int.emod_eq_of_lt od od];show _=[UInt8.ofNat (48+n).toNat]
 rw[show(48+n).toNat=48+n.toNat by omega]
theorem zqr {l:List Str}{m:Nat} (h:∀x∈l,x.length<=m):(zc5 l).length<=l.length*(m+1)+2:=by
 unfold zc5;split
 ·simp
 ·have h1:(zcv [44] l).length<=l.length*(m+1):=zlc (sep:=[44]) h;simp only[xaa,xab,xak];omega
def VarIn (vars:List Vt):Prop:=∀v∈vars,0<=v.var/\v.var<=25
theorem zmp {w:List Data}{funs:List Ft}{vars:List Vt}{n:Nat}{t:Ty}{e:Ex} (h:zaD w funs vars (n+1) t e=true) (hv:VarIn vars) (h2:e.op=2):0<=e.n/\e.n<=25:=by
 unfold zaD at h;rw[xad] at h;have h1:=h.1;unfold zce at h1;rw[xad,ok_2 h2,xad,xah] at h1;rcases zgL vars e.n with ⟨q,_⟩|⟨k,q1,q2,q3,_⟩
 ·have:=h1.1.1;omega
 ·have:=hv _ (zao q2);rw[q3] at this;exact this
end Go.Proofs.YtmkipahfpaacgaaGreatDoor
namespace Go.Proofs.YtmkipahfpaacgaaGreatDoor
open Go Go.Shelf
set_option linter.unusedSimpArgs false
set_option linter.unusedVariables false
def znK:Go.Shelf.Ren:=⟨fun|156=>124|165=>206|166=>207|169=>208|240=>267|241=>268|276=>298|277=>299|n=>n,fun|31=>84|9=>9|3=>3|4=>4|0=>0|20=>20|72=>264|76=>268|70=>262|37=>22|75=>267|127=>322|164=>343|5=>5|80=>270|n=>n,fun|n=>n⟩
theorem shJ:Go.Proofs.Lays.n156 Tryz.prog znK:={
 mixed:=by kernel_rfl
 f156:=Tryz.func124.trans (xam some oj)
 f165:=Tryz.func206.trans (xam some oj)
 f166:=Tryz.func207.trans (xam some oj)
 f169:=Tryz.func208.trans (xam some oj)
 f240:=Tryz.func267.trans (xam some oj)
 f241:=Tryz.func268.trans (xam some oj)
 f276:=Tryz.func298.trans (xam some oj)
 f277:=Tryz.func299.trans (xam some oj)
 t0:=Tryz.underlying0
 a0:=Tryz.isAgg0
 z0:=Tryz.sizeOf0
 v0:=Tryz.zeroValue0
 t3:=Tryz.underlying3
 a3:=Tryz.isAgg3
 z3:=Tryz.sizeOf3
 v3:=Tryz.zeroValue3
 t4:=Tryz.underlying4
 a4:=Tryz.isAgg4
 z4:=Tryz.sizeOf4
 v4:=Tryz.zeroValue4
 t9:=Tryz.underlying9
 a9:=Tryz.isAgg9
 z9:=Tryz.sizeOf9
 v9:=Tryz.zeroValue9
 t20:=Tryz.underlying20
 a20:=Tryz.isAgg20
 z20:=Tryz.sizeOf20
 v20:=Tryz.zeroValue20
 t31:=Tryz.underlying84
 a31:=Tryz.isAgg84
 z31:=Tryz.sizeOf84
 v31:=Tryz.zeroValue84
 t37:=Tryz.underlying22
 a37:=Tryz.isAgg22
 z37:=Tryz.sizeOf22
 v37:=Tryz.zeroValue22
 t70:=Tryz.underlying262
 a70:=Tryz.isAgg262
 z70:=Tryz.sizeOf262
 v70:=Tryz.zeroValue262
 t72:=Tryz.underlying264
 a72:=Tryz.isAgg264
 z72:=Tryz.sizeOf264
 v72:=Tryz.zeroValue264
 t75:=Tryz.underlying267
 a75:=Tryz.isAgg267
 z75:=Tryz.sizeOf267
 v75:=Tryz.zeroValue267
 t76:=Tryz.underlying268
 a76:=Tryz.isAgg268
 z76:=Tryz.sizeOf268
 v76:=Tryz.zeroValue268
 t127:=Tryz.underlying322
 a127:=Tryz.isAgg322
 z127:=Tryz.sizeOf322
 v127:=Tryz.zeroValue322
 t164:=Tryz.underlying343
 a164:=Tryz.isAgg343
 z164:=Tryz.sizeOf343
 v164:=Tryz.zeroValue343 }
theorem shJX:Builder.Extra Tryz.prog znK:={
 sizeBuilder:=by kernel_rfl
 liesBuilder:=by kernel_rfl
 t5:=Tryz.underlying5
 a5:=Tryz.isAgg5
 z5:=Tryz.sizeOf5
 v5:=Tryz.zeroValue5
 infoByte:=by kernel_rfl
 cellsByte:=by kernel_rfl
 sizeByte:=by kernel_rfl
 neB5:=by decide }
open Go.RowKit in
theorem zrT (a:Option Addr) (c:Nat) (sep:ByteArray) (w:World):
  Calls Tryz.prog 124 #[.slice a 0 c,.string sep] w fun e w'=>e = .returned (.string ⟨#[]⟩)/\w'=w:=Any.strings_Join_none shJ shJX a c sep w
open Go.RowKit in
theorem zs0 (bk o c:Nat) (xs:List ByteArray) (sep:ByteArray) (w:World) (hcells:∀(j:Nat) x,xs[j]?=some x->w.cell? ⟨bk,o+j,none⟩=some (.string x)) (hbk:bk<w.heap.size) (hN:xs.length<=140737488355328) (hcap:xs.length<=c) (hlen:(Lib.join (xs.map (·.data.toList)) sep.data.toList).length<=140737488355328):
  Calls Tryz.prog 124 #[.slice (some ⟨bk,o,none⟩) xs.length c,.string sep] w fun e w'=>e = .returned (.string ⟨(Lib.join (xs.map (·.data.toList)) sep.data.toList).toArray⟩)/\Below w.heap.size w w':=Any.strings_Join shJ shJX bk o c xs sep w hcells hbk hN hcap hlen
def zrS:Go.Shelf.Ren:=⟨fun|171=>154|243=>238|246=>285|283=>305|284=>306|285=>307|286=>308|129=>313|317=>312|318=>314|319=>315|320=>316|337=>317|338=>318|n=>n,fun|3=>3|9=>9|2=>2|4=>4|171=>350|0=>0|53=>351|37=>22|5=>5|173=>354|212=>364|51=>346|20=>20|213=>365|46=>327|232=>368|233=>369|n=>n,fun|17=>3|18=>4|19=>5|n=>n⟩
theorem shI:Go.Proofs.Lays.n171 Tryz.prog zrS:={
 mixed:=by kernel_rfl
 f129:=Tryz.func313.trans (xam some oj)
 f171:=Tryz.func154.trans (xam some oj)
 f243:=Tryz.func238.trans (xam some oj)
 f246:=Tryz.func285.trans (xam some oj)
 f283:=Tryz.func305.trans (xam some oj)
 f284:=Tryz.func306.trans (xam some oj)
 f285:=Tryz.func307.trans (xam some oj)
 f286:=Tryz.func308.trans (xam some oj)
 f317:=Tryz.func312.trans (xam some oj)
 f318:=Tryz.func314.trans (xam some oj)
 f319:=Tryz.func315.trans (xam some oj)
 f320:=Tryz.func316.trans (xam some oj)
 f337:=Tryz.func317.trans (xam some oj)
 f338:=Tryz.func318.trans (xam some oj)
 t0:=Tryz.underlying0
 a0:=Tryz.isAgg0
 z0:=Tryz.sizeOf0
 v0:=Tryz.zeroValue0
 t2:=Tryz.underlying2
 a2:=Tryz.isAgg2
 z2:=Tryz.sizeOf2
 v2:=Tryz.zeroValue2
 t3:=Tryz.underlying3
 a3:=Tryz.isAgg3
 z3:=Tryz.sizeOf3
 v3:=Tryz.zeroValue3
 t4:=Tryz.underlying4
 a4:=Tryz.isAgg4
 z4:=Tryz.sizeOf4
 v4:=Tryz.zeroValue4
 t5:=Tryz.underlying5
 a5:=Tryz.isAgg5
 z5:=Tryz.sizeOf5
 v5:=Tryz.zeroValue5
 t9:=Tryz.underlying9
 a9:=Tryz.isAgg9
 z9:=Tryz.sizeOf9
 v9:=Tryz.zeroValue9
 t20:=Tryz.underlying20
 a20:=Tryz.isAgg20
 z20:=Tryz.sizeOf20
 v20:=Tryz.zeroValue20
 t37:=Tryz.underlying22
 a37:=Tryz.isAgg22
 z37:=Tryz.sizeOf22
 v37:=Tryz.zeroValue22
 t46:=Tryz.underlying327
 a46:=Tryz.isAgg327
 z46:=Tryz.sizeOf327
 v46:=Tryz.zeroValue327
 t51:=Tryz.underlying346
 a51:=Tryz.isAgg346
 z51:=Tryz.sizeOf346
 v51:=Tryz.zeroValue346
 t53:=Tryz.underlying351
 a53:=Tryz.isAgg351
 z53:=Tryz.sizeOf351
 v53:=Tryz.zeroValue351
 t171:=Tryz.underlying350
 a171:=Tryz.isAgg350
 z171:=Tryz.sizeOf350
 v171:=Tryz.zeroValue350
 t173:=Tryz.underlying354
 a173:=Tryz.isAgg354
 z173:=Tryz.sizeOf354
 v173:=Tryz.zeroValue354
 t212:=Tryz.underlying364
 a212:=Tryz.isAgg364
 z212:=Tryz.sizeOf364
 v212:=Tryz.zeroValue364
 t213:=Tryz.underlying365
 a213:=Tryz.isAgg365
 z213:=Tryz.sizeOf365
 t232:=Tryz.underlying368
 a232:=Tryz.isAgg368
 z232:=Tryz.sizeOf368
 v232:=Tryz.zeroValue368
 t233:=Tryz.underlying369
 a233:=Tryz.isAgg369
 z233:=Tryz.sizeOf369
 v233:=Tryz.zeroValue369
 g17:=by kernel_rfl
 g18:=by kernel_rfl
 g19:=by kernel_rfl }
open Go.RowKit in
theorem zsZ (i:Nat) (hi:i<100) (w:World):
  Calls Tryz.prog 154 #[.int .i64 i] w fun e w'=>e = .returned (.string ⟨(Lib.decDigits i).toArray⟩)/\w'=w:=Any.strconv_Itoa_small shI i hi w
theorem zj8 {l:List Str}{sep:Str} (hl:l.length<=140737488355328) (hj:(zcv sep l).length<=140737488355328):FnD Tryz.prog 124 [.d (zcA l),.d (.str sep)] [] (.d (.str (zcv sep l))) []:=FnD.join zrT (fun bk o c xs sep w h1 h2 h3 h4 h5=>zs0 bk o c xs sep w h1 h2 h3 h4 h5) hl hj
theorem zf5 {n:Int} (h0:0<=n) (h9:n<=9):FnD Tryz.prog 154 [.d (.i n)] [] (.d (.str (decV n))) []:=by
 rw[<-zqh h0 h9];exact FnD.itoa zsZ h0 h9
end Go.Proofs.YtmkipahfpaacgaaGreatDoor
namespace Go.Proofs.YtmkipahfpaacgaaGreatDoor
open Go
set_option linter.unusedSimpArgs false
set_option linter.unusedVariables false
set_option maxRecDepth 100000
set_option maxHeartbeats 4000000
def kTn {α:Type} [Inhabited α] (f:Ty->α->Str) (ts:List Ty) (ks:List α) (n:Nat):List Str:=(List.range n).map fun i=>f (nth ts i) (nth ks i)
section
variable {α:Type} [Inhabited α]{f:Ty->α->Str}{ts:List Ty}{ks:List α}
theorem zcr {n:Nat}:(kTn f ts ks n).length=n:=by simp[kTn]
theorem zgT {n:Nat}:kTn f ts ks (n+1)=kTn f ts ks n++[f (nth ts n) (nth ks n)]:=by unfold kTn;rw[List.range_succ,xag];rfl
theorem zsV {m:Nat} (h:∀i,i<ks.length->(f (nth ts i) (nth ks i)).length<=m){n:Nat} (hn:n<=ks.length):∀x∈kTn f ts ks n,x.length<=m:=fun x hx=>by
 unfold kTn at hx;obtain⟨i,hi,rfl⟩:=List.mem_map.1 hx;exact h i (by have:=List.mem_range.1 hi;omega)
end
theorem zod {n:Int} (h0:0<=n) (h1:n<=25):strN [IntKind.u8.wrap (97+n)]=letV n:=by
 unfold letV;rw[zea (n:=n),Int.emod_eq_of_lt h0 od]
theorem zkw {n:Int} (h0:0<=n) (h1:n<=25):FnD Tryz.prog 155 [.d (.i n)] [] (.d (.str (letV n))) []:=by
 rw[<-zod h0 h1];refine bd Tryz.f155 8 [] [] fun _ _ _ _ hk=>?_;refine ar (xbu (by rw[un3];rfl) un5 .none I I ?_);refine si [0] [_] sl22 tz5 ?_;refine xbo sl22 un9 oj .none I I I (by first|rfl|exact zf0 _) ?_;refine ev (rq ?_);rotate_left;all_goals (rfl)
theorem zeB {l:List Str} (hl:l.length<=100) (hb:∀x∈l,x.length<=1000000000):FnD Tryz.prog 156 [.d (zcA l)] [] (.d (.str (zc5 l))) []:=by
 have hj:=zlc (sep:=[44]) hb;have hj2:(zcv [44] l).length<=100*1000000001:=Nat.le_trans hj (xav _ hl);have z0:l=[]->zc5 l=[]:=fun h=>by rw[h];rfl
 have z1:¬l=[]->zc5 l=[40]++zcv [44] l++[41]:=fun h=>by unfold zc5;rw[if_neg h]
 have hc:l.length=0↔l=[]:=List.length_eq_zero_iff;refine bd Tryz.f156 10 [8,9] [] fun _ _ _ _ hk=>?_;apply sq<;>intro h1 h1p h1s<;>(try simp only[Q,xal,xac] at h1p);refine rq ?_;rotate_left;refine wc zr6 (zj8 (l:=l) (sep:=[44]) od od) I I ?_;refine xbs .none I I I (by(try simp only[xaa,xab,xak]);omega) (xbs .none I I I (by(try simp only[xaa,xab,xak]);omega) (evs [8,9] [] (rq ?_)));rotate_left;all_goals (first|(rw[z0 (hc.1 od)];done)|(rw[z1 (fun h=>by have:=hc.2 h;omega)];done))
set_option maxHeartbeats 2000000
structure Rd where
 s:List UInt8
 bad:Bool
abbrev rdC (w:List Data) (r:Rd):List AV:=[.d (zae w),.d (.str r.s),.d (.bool r.bad)]
def zaB (r:Rd):UInt8:=if r.bad=true\/r.s=[] then 0 else nth r.s 0
def oneR (r:Rd):Rd:=if zaB r=0 then ⟨r.s,true⟩ else ⟨r.s.tail,r.bad⟩
def zbu (r:Rd) (b:UInt8):Rd:=⟨(oneR r).s,decide (zaB r≠b)||(oneR r).bad⟩
theorem zeC {r:Rd} (h:r.bad=true\/r.s=[]):zaB r=0:=if_pos h
theorem zkz {r:Rd} (h:¬(r.bad=true\/r.s=[])):zaB r=nth r.s 0:=if_neg h
def digR (r:Rd):Rd:=if zaB r<48\/57<zaB r then ⟨(oneR r).s,true⟩ else oneR r
def zeI (r:Rd):Int:=if zaB r<48\/57<zaB r then 0 else (((zaB r).toNat-48:Nat):Int)
theorem zbZ {w:List Data}{r:Rd}:FnD Tryz.prog 218 [.ref 901 0] [(901,some (.box (rdC w r)))] (.d (.int .u8 ((zaB r).toNat:Int))) []:=by
 have q0:=fun h=>zeC (r:=r) h;have q1:=fun h=>zkz (r:=r) h;refine bd Tryz.f218 19 [] [] fun _ _ _ _ hk=>?_;apply sq<;>intro h1 h1p h1s<;>(try simp only[Q] at h1p);refine sqT ?_;refine rn [] (r1 I) (.eqd ?_) ⟨I,I⟩ (SubH.get ⟨I,O⟩) (fun _ h=>h);rotate_left;apply sq<;>intro h3 h3p h3s<;>(try simp only[Q] at h3p);refine rn [] (r1 I) (.eqd ?_) ⟨I,I⟩ (SubH.get ⟨I,O⟩) (fun _ h=>h);rotate_left;refine xbD (i:=0) un9 .none I I I I (za0 (i:=0) (by have:r.s≠[]:=ox;exact List.length_pos_iff.2 this)) ?_;refine ev (rn [] (r1 I) (.eqd ?_) ⟨I,I⟩ (SubH.get ⟨I,O⟩) (fun _ h=>h));rotate_left;all_goals (first|(rw[q0 ox];rfl)|(rw[q1 ox];done)|(rw[q1 ox];rfl))
theorem zpB {r:Rd} (h:zaB r=0):oneR r=⟨r.s,true⟩:=if_pos h
theorem zpC {r:Rd} (h:¬zaB r=0):oneR r=⟨r.s.tail,r.bad⟩:=if_neg h
theorem u8_0 {b:UInt8}:((b.toNat:Int)=0)↔b=0:=by
 constructor
 ·intro h;have:b.toNat=0:=by omega
  exact UInt8.toNat_inj.1 this
 ·intro h;subst h;rfl
theorem zaW {w:List Data}{r:Rd}:FnD Tryz.prog 220 [.ref 901 0] [(901,some (.box (rdC w r)))] (.d (.int .u8 ((zaB r).toNat:Int))) [(901,some (.box (rdC w (oneR r))))]:=by
 have q0:=fun h=>zpB (r:=r) h;have q1:=fun h=>zpC (r:=r) h;have q2:¬zaB r=0->1<=r.s.length:=fun h=>by
  cases hs:r.s with
  |nil=>exact absurd (zeC (.inr hs)) h
  |cons x l=>simp
 refine bd Tryz.f220 20 [] [] fun _ _ _ _ hk=>?_;refine wd zhs zbZ I I ⟨I,O⟩ ?_;refine ev ?_;apply sq<;>intro h1 h1p h1s<;>(try simp only[Q,u8_0] at h1p);refine so ty4 ?_;apply tv;refine rn [(901,some (.box (rdC w (oneR r))))] (r1 I) (.eqd ?_) ⟨I,I⟩ (SubO.get ⟨.inr ?_,⟨.inl I,O⟩⟩) (zaj I);rotate_left 2;refine xbw (b:=1) un9 .none I I I I (by first|omega|(simp;omega)|(have:=q2 oh;simp;omega)) ?_;refine ev (so ty9 ?_);apply tv;refine rn [(901,some (.box (rdC w (oneR r))))] (r1 I) (.eqd ?_) ⟨I,I⟩ (SubO.get ⟨.inr ?_,⟨.inl I,O⟩⟩) (zaj I);rotate_left 2;all_goals (first|((first|rfl|(rw[show zaB r=0 by assumption];rfl));done)|(first|(rw[q0 oh];rfl)|(rw[q1 oh];simp[rdC];rfl)))
theorem zdh {w:List Data}{r:Rd}{b:UInt8}:FnD Tryz.prog 254 [.ref 901 0,.d (.int .u8 (b.toNat:Int))] [(901,some (.box (rdC w r)))] (.tup []) [(901,some (.box (rdC w (zbu r b))))]:=by
 refine bd Tryz.f254 17 [] [] fun _ _ _ _ hk=>?_;refine wd zdb zaW I I ⟨I,O⟩ ?_;refine ev ?_;apply sq<;>intro h1 h1p h1s<;>(try simp only[Q] at h1p);refine so ty4 ?_;apply tv;refine rn [(901,some (.box (rdC w (zbu r b))))] .nil (.refl _) ⟨I,I⟩ (SubO.get ⟨.inr ?_,⟨.inl I,O⟩⟩) (zaj I);rotate_left;refine so ty4 ?_;apply tv;refine rn [(901,some (.box (rdC w (zbu r b))))] .nil (.refl _) ⟨I,I⟩ (SubO.get ⟨.inr ?_,⟨.inl I,O⟩⟩) (zaj I);rotate_left;all_goals (first|((rfl);done)|(show some (Res.box [_,_,_])=some (Res.box [_,_,_]);unfold zbu;first|rfl|(simp_all;done)|(simp_all[UInt8.toNat_inj,xal];done)))
theorem rdW {n:Nat} (h:48<=n) (h2:n<2 ^ 8):IntKind.i64.wrap (IntKind.u8.wrap ((n:Int)-48))=((n-48:Nat):Int):=by
 have e:((n:Int)-48)=((n-48:Nat):Int):=by omega
 have h3:IntKind.u8.wrap ((n-48:Nat):Int)=((n-48:Nat):Int):=by
  unfold IntKind.wrap;simp only[IntKind.signed,IntKind.bits];simp;omega
 rw[e,h3,zbU ⟨by omega,by omega⟩]
theorem zo3 {r:Rd} (h:(zaB r).toNat<48\/57<(zaB r).toNat):digR r=⟨(oneR r).s,true⟩/\zeI r=0:=by
 have h':zaB r<48\/57<zaB r:=h;exact⟨if_pos h',if_pos h'⟩
theorem zo4 {r:Rd} (h:¬((zaB r).toNat<48\/57<(zaB r).toNat)):digR r=oneR r/\zeI r=(((zaB r).toNat-48:Nat):Int):=by
 have h':¬(zaB r<48\/57<zaB r):=h;exact⟨if_neg h',if_neg h'⟩
theorem zbP {w:List Data}{r:Rd}:FnD Tryz.prog 219 [.ref 901 0] [(901,some (.box (rdC w r)))] (.d (.i (zeI r))) [(901,some (.box (rdC w (digR r))))]:=by
 have q0:=fun h=>zo3 (r:=r) h;have q1:=fun h=>zo4 (r:=r) h;have q2:=(zaB r).toNat_lt;refine bd Tryz.f219 18 [16] [] fun _ _ _ _ hk=>?_;refine wd zdb zaW I I ⟨I,O⟩ ?_;refine evs [16] [] ?_;apply sq<;>intro h1 h1p h1s<;>(try simp only[Q] at h1p);refine sqT ?_;refine so ty4 ?_;apply tv;refine rn [(901,some (.box (rdC w (digR r))))] (r1 I) (.eqd ?_) ⟨I,I⟩ (SubO.get ⟨.inr ?_,⟨.inl I,O⟩⟩) (zaj I);rotate_left 2;apply sq<;>intro h3 h3p h3s<;>(try simp only[Q] at h3p);refine so ty4 ?_;apply tv;refine rn [(901,some (.box (rdC w (digR r))))] (r1 I) (.eqd ?_) ⟨I,I⟩ (SubO.get ⟨.inr ?_,⟨.inl I,O⟩⟩) (zaj I);rotate_left 2;refine xbU .none I I I (xbu oy un3 .none I I ?_);refine evs [16] [] (rn [(901,some (.box (rdC w (digR r))))] (r1 I) (.eqd ?_) ⟨I,I⟩ (SubO.get ⟨.inr ?_,⟨.inl I,O⟩⟩) (zaj I));rotate_left 2;all_goals (first|((first|(rw[(q0 od).1];rfl)|(rw[(q1 od).1];rfl)|(rw[(q0 od).2];all_goals rfl)|(rw[(q1 od).2,rdW od q2];all_goals rfl));done)|(first|(rw[(q0 od).1];rfl)|(rw[(q1 od).1];rfl)|(rw[(q0 od).2];all_goals rfl)|(rw[(q1 od).2,rdW od q2];all_goals rfl)))
def za5 (r:Rd):Rd:=⟨r.s.drop (zaz r.s),r.bad||decide (zaz r.s=0)⟩
def zcE (r:Rd):Str:=r.s.take (zaz r.s)
def zcp (w:List Data) (t:Ty) (r:Rd):Bool:= !(za5 r).bad&& !decide (nmV w t (zcE r)<0)
def zc2 (w:List Data) (t:Ty) (r:Rd):Rd:=if zcp w t r=true then za5 r else ⟨(za5 r).s,true⟩
def zcD (w:List Data) (t:Ty) (r:Rd):Int:=if zcp w t r=true then nmV w t (zcE r) else 0
def zbj {α:Type} (f:Ty->Rd->α×Rd):Bool->List Ty->Rd->List α×Rd
 |_,[],r=>([],r)
 |b,t::ts,r=>if r.bad=true then ([],r) else
  ((f t (zbu r (if b=true then 40 else 44))).1::(zbj f false ts (f t (zbu r (if b=true then 40 else 44))).2).1,(zbj f false ts (f t (zbu r (if b=true then 40 else 44))).2).2)
def zc3 (ts:List Ty) (r:Rd):Rd:=if 0<ts.length then zbu r 41 else r
theorem zeD (r:Rd):(oneR r).s.length<=r.s.length:=by unfold oneR;split<;>simp
theorem zh1 (r:Rd) (b:UInt8):(zbu r b).s.length<=r.s.length:=zeD r
theorem ziO (r:Rd):(digR r).s.length<=r.s.length:=by unfold digR;split<;>exact zeD r
theorem zpz (r:Rd):(za5 r).s.length<=r.s.length:=by unfold za5;simp
theorem zk1 (w:List Data) (t:Ty) (r:Rd):(zc2 w t r).s.length<=r.s.length:=by unfold zc2;split<;>exact zpz r
theorem zpn (ts:List Ty) (r:Rd):(zc3 ts r).s.length<=r.s.length:=by
 unfold zc3;split
 ·exact zh1 r _
 ·exact Nat.le_refl _
theorem zle {α:Type}{f:Ty->Rd->α×Rd} (hf:∀t r,(f t r).2.s.length<=r.s.length):∀(ts:List Ty) (b:Bool) (r:Rd),(zbj f b ts r).2.s.length<=r.s.length
 | [],b,r=>Nat.le_refl _
 |t::ts,b,r=>by
  rw[zbj];split
  ·exact Nat.le_refl _
  ·exact Nat.le_trans (zle hf ts false _) (Nat.le_trans (hf t _) (zh1 r _))
theorem zm5 {w:List Data}{t:Ty}{r:Rd} (h:(zc2 w t r).bad=false):zcp w t r=true/\zcD w t r=nmV w t (zcE r)/\zcD w t r∈zau w t/\zc2 w t r=za5 r:=by
 have h1:zcp w t r=true:=by
  cases e:zcp w t r with
  |true=>rfl
  |false=>unfold zc2 at h;rw[if_neg (by rw[e];simp)] at h;cases h
 have h2:zcD w t r=nmV w t (zcE r):=by unfold zcD;rw[if_pos h1]
 refine⟨h1,h2, ?_,by unfold zc2;rw[if_pos h1]⟩;rw[h2];unfold zcp at h1;simp only[xad,Bool.not_eq_true',decide_eq_false_iff_not] at h1;exact zfo h1.2
theorem ziW {r:Rd} (h:zaB r≠0):∃x l,r=⟨x::l,false⟩/\zaB r=x:=by
 obtain⟨s,b⟩:=r;cases b with
 |true=>exact absurd (zeC (.inl I)) h
 |false=>
  cases s with
  |nil=>exact absurd (zeC (.inr I)) h
  |cons x l=>exact⟨x,l,rfl,by rw[zkz og];rfl⟩
theorem zcT {x:UInt8}{l:Str}:zaB ⟨x::l,false⟩=x:=by rw[zkz og];rfl
theorem zfF {x:UInt8}{l:Str} (h:x≠0):oneR ⟨x::l,false⟩=⟨l,false⟩:=by rw[zpC (by rw[zcT];exact h)];rfl
theorem zkD {x:UInt8}{l:Str} (h:x≠0):zbu ⟨x::l,false⟩ x=⟨l,false⟩:=by
 unfold zbu;rw[zfF h,zcT];simp
theorem zmT {r:Rd}{b:UInt8} (hb:b≠0) (h:(zbu r b).bad=false):∃l,r=⟨b::l,false⟩/\zbu r b=⟨l,false⟩:=by
 have h1:zaB r=b:=by
  unfold zbu at h;simp only[Bool.or_eq_false_iff,decide_eq_false_iff_not,ne_eq,Decidable.not_not] at h;exact h.1
 obtain⟨x,l,e,hx⟩:=ziW (r:=r) (by rw[h1];exact hb);rw[hx] at h1;subst h1;exact⟨l,e,by rw[e];exact zkD hb⟩
theorem zfu {x:UInt8} (h:zbB x=true):x≠0/\48<=x.toNat/\x.toNat<=57:=by
 unfold zbB at h;rw[xad,xah,xah] at h;refine⟨fun e=>?_,by omega,by omega⟩;subst e;exact absurd h.1 ol
theorem zhN {x:UInt8} (h:zaN x=true):x≠0/\97<=x.toNat/\x.toNat<=122:=by
 unfold zaN at h;rw[xad,xah,xah] at h;refine⟨fun e=>?_,by omega,by omega⟩;subst e;exact absurd h.1 ol
theorem zjn {x:UInt8}{l:Str} (h:zbB x=true):digR ⟨x::l,false⟩=⟨l,false⟩/\zeI ⟨x::l,false⟩=(x.toNat:Int)-48:=by
 obtain⟨h0,h1,h2⟩:=zfu h;have:=zo4 (r:=⟨x::l,false⟩) (by rw[zcT];omega);rw[this.1,this.2,zfF h0,zcT];exact⟨rfl,by omega⟩
theorem zrz {r:Rd} (h:(digR r).bad=false):∃c l,zbB c=true/\r=⟨c::l,false⟩:=by
 by_cases hc:(zaB r).toNat<48\/57<(zaB r).toNat
 ·rw[(zo3 hc).1] at h;cases h
 ·obtain⟨x,l,e,hx⟩:=ziW (r:=r) (by intro e;rw[e] at hc;exact hc (.inl ol));rw[hx] at hc;exact⟨x,l,zie od od,e⟩
theorem zqv {r:Rd} (h:(za5 r).bad=false):r.bad=false/\0<zaz r.s/\za5 r=⟨r.s.drop (zaz r.s),false⟩:=by
 unfold za5 at h ⊢;simp only[Bool.or_eq_false_iff,decide_eq_false_iff_not] at h;refine⟨h.1,by omega, ?_⟩;rw[h.1,xaw h.2];rfl
theorem zqg {w:List Data}{t:Ty}{s:Str} (h0:0<zaz s) (h1:¬nmV w t (s.take (zaz s))<0):zc2 w t ⟨s,false⟩=⟨s.drop (zaz s),false⟩/\zcD w t ⟨s,false⟩=nmV w t (s.take (zaz s)):=by
 have hb:za5 ⟨s,false⟩=⟨s.drop (zaz s),false⟩:=by
  unfold za5;show Rd.mk _ (false||decide (zaz s=0))=_
  rw[xaw od];rfl
 have ho:zcp w t ⟨s,false⟩=true:=by
  unfold zcp;rw[hb];show(!false&& !decide (nmV w t (s.take (zaz s))<0))=true
  rw[xaw h1];rfl
 unfold zc2 zcD;rw[if_pos ho,if_pos ho,hb];exact⟨rfl,rfl⟩
def RdsK {α:Type} (f:Ty->Str->α->Str->Prop):Bool->List Ty->Str->List α->Str->Prop
 |_,[],s,ps,s'=>ps=[]/\s=s'
 |b,t::ts,s,ps,s'=>∃l p m qs,s=(if b=true then 40 else 44)::l/\f t l p m/\RdsK f false ts m qs s'/\ps=p::qs
theorem zhL {α:Type}{f:Ty->Rd->α×Rd}{g:Ty->Str->α->Str->Prop} (hf:∀t r,(f t r).2.bad=false->r.bad=false/\g t r.s (f t r).1 (f t r).2.s):
  ∀(ts:List Ty) (b:Bool) (r:Rd),(zbj f b ts r).2.bad=false->r.bad=false/\RdsK g b ts r.s (zbj f b ts r).1 (zbj f b ts r).2.s
 | [],b,r,h=>⟨h,rfl,rfl⟩
 |t::ts,b,r,h=>by
  rw[zbj] at h ⊢;by_cases hb:r.bad=true
  ·rw[if_pos hb,hb] at h;cases h
  ·rw[if_neg hb] at h ⊢;have hsg:(if b=true then (40:UInt8) else 44)≠0:=by split<;>decide
   obtain⟨sg,hq⟩:∃sg,(if b=true then (40:UInt8) else 44)=sg:=⟨_,rfl⟩;rw[hq] at h hsg ⊢;obtain⟨h1,h2⟩:=zhL hf ts false _ h;obtain⟨h3,h4⟩:=hf t _ h1;obtain⟨l,e,e2⟩:=zmT hsg h3;rw[e2] at h2 h4 ⊢;exact⟨by simpa using hb,l,_,_,_,by rw[e,hq],h4,h2,rfl⟩
theorem zmy {α:Type}{f:Ty->Rd->α×Rd}{g:Ty->Str->α->Str->Prop} (hf:∀t s p s',g t s p s'->f t ⟨s,false⟩=(p,⟨s',false⟩)):
  ∀(ts:List Ty) (b:Bool) (s:Str) (ps:List α) (s':Str),RdsK g b ts s ps s'->zbj f b ts ⟨s,false⟩=(ps,⟨s',false⟩)
 | [],b,s,ps,s',h=>by obtain⟨rfl,rfl⟩:=h;rfl
 |t::ts,b,s,ps,s',h=>by
  obtain⟨l,p,m,qs,rfl,h1,h2,rfl⟩:=h;rw[zbj,if_neg og,zkD (by split<;>decide),hf t _ _ _ h1,zmy hf ts false _ _ _ h2]
theorem znO {s:Str} (h:0<zaz s):∃x l,s=x::l/\zbb x=true:=by
 cases s with
 |nil=>exact absurd h ol
 |cons x l=>
  refine⟨x,l,rfl, ?_⟩;cases hu:zbb x with
  |true=>rfl
  |false=>rw[zaz,if_neg (by rw[hu];simp)] at h;omega
set_option maxHeartbeats 4000000
theorem zi5 {w:List Data} (hs:WSmall w) (hv:zaL w=true):A3 w:=fun t c ht hc=>by
 obtain⟨a,k⟩:=t;have hw:=zcN hs hv;refine⟨(zfD hw (zd0 hv) ht hc).2,fun u hu=>?_⟩;obtain⟨d,rfl,hd,hp⟩:=za4 ht hc;exact zho hw hd hp hu
set_option maxHeartbeats 2000000
theorem zps {c:UInt8} (h:zaN c=true):letV ((c.toNat:Int)-97)=[c]:=by
 obtain⟨_,h1,h2⟩:=zhN h;unfold letV strN;rw[xaf,List.map_nil];refine xam (fun x=>[x]) (UInt8.toNat_inj.1 ?_);rw[zea,zea,UInt8.toNat_ofNat_of_lt' (by show _<256;omega)];omega
theorem zjm {c:UInt8} (h:zbB c=true):decV ((c.toNat:Int)-48)=[c]:=by
 obtain⟨_,h1,h2⟩:=zfu h;unfold decV strN;rw[xaf,List.map_nil];refine xam (fun x=>[x]) (UInt8.toNat_inj.1 ?_);rw[zea,UInt8.toNat_ofNat_of_lt' (by show _<256;omega)];omega
theorem zmD {w:List Data}{t:Ty}{N:Str} (h:¬nmV w t N<0):za2 w t (nmV w t N)=N:=by
 unfold nmV at h ⊢;cases e:(zau w t).find? (isNm w t N) with
 |none=>rw[e] at h;simp at h
 |some k=>
  have:=List.find?_some e;unfold isNm at this;exact xas this
theorem zfK {s:Str}{m:Nat}{c:UInt8}{l:Str} (h:s.drop m=c::l):zbz s (m:Int) c=true/\m<s.length/\nth s m=c/\s.drop (m+1)=l:=by
 have hm:m<s.length:=by
  rcases Nat.lt_or_ge m s.length with h1|h1
  ·exact h1
  ·rw[List.drop_eq_nil_of_le h1] at h;cases h
 rw[zaZ hm] at h;have h1:nth s m=c:=(List.cons.inj h).1;refine⟨?_,hm,h1,(List.cons.inj h).2⟩;unfold zbz;rw[xax (show(0:Int)<=(m:Int) by omega),xax (show(m:Int)<(s.length:Int) by omega)];show(true&&(true&&decide (nth s m=c)))=true
 rw[xax h1];rfl
def NmOk (w:List Data):Prop:=∀t c,TyIn w.length t->c∈zau w t->(∃x l,za2 w t c=x::l/\zbb x=true/\zbQ l=true)/\nmV w t (za2 w t c)=c
theorem zjI {α β:Type}{f:α->List β}:∀ {l:List α},(l.flatMap f).Nodup->∀d∈l,(f d).Nodup
 |x::r,h,d,hd=>by
  rw[List.flatMap_cons,List.nodup_append] at h;rcases List.mem_cons.1 hd with rfl|hd
  ·exact h.1
  ·exact zjI h.2.1 d hd
theorem zqw {l:List Ctor} (h:(l.map (·.name)).Nodup){i j:Nat} (hi:i<l.length) (hj:j<l.length) (e:(nth l i).name=(nth l j).name):i=j:=by
 have key:∀i j,(hi:i<l.length)->(hj:j<l.length)->i<j->(nth l i).name≠(nth l j).name:=fun i j hi hj hij=>by
  have:=List.pairwise_iff_getElem.1 h i j (by simpa using hi) (by simpa using hj) hij;rw[zaY hi,zaY hj];simpa using this
 rcases Nat.lt_trichotomy i j with h1|h1|h1
 ·exact absurd e (key i j hi hj h1)
 ·exact h1
 ·exact absurd e.symm (key j i hj hi h1)
theorem zm0 {w:List Data} (hv:zaL w=true):NmOk w:=fun t c ht hc=>by
 obtain⟨a,k⟩:=t;have hW:=(zb7 w).1 hv;obtain⟨d,rfl,hd,j,rfl,hj⟩:=za4 ht hc;have hn:∀(i:Nat),za2 w ⟨(d:Int),k⟩ (i:Int)=(nth (nth w d).ctors i).name:=fun i=>rfl;have hnd:((nth w d).ctors.map (·.name)).Nodup:=zjI hW.cnames _ (zao hd);have hok:=hW.ctor _ (zao hd) _ (zao hj);refine⟨?_, ?_⟩
 ·rw[hn];unfold zbp at hok;simp only[xad] at hok;have h1:=hok.1;unfold zcm at h1;rw[xad] at h1;cases hN:(nth (nth w d).ctors j).name with
  |nil=>rw[hN] at h1;exact absurd h1.2 og
  |cons x l=>
   rw[hN] at h1;have h2:=h1.2;simp only[xad] at h2;exact⟨x,l,rfl,h2.1,h2.2⟩
 ·unfold nmV;have hex:∃x∈zau w ⟨(d:Int),k⟩,isNm w ⟨(d:Int),k⟩ (za2 w ⟨(d:Int),k⟩ (j:Int)) x=true:=⟨_,hc,xax rfl⟩;have hs:=List.find?_isSome.2 hex;obtain⟨k2,hk2⟩:=Option.isSome_iff_exists.1 hs;rw[hk2];have h1:=List.mem_of_find?_eq_some hk2;have h2:=List.find?_some hk2;unfold isNm at h2;replace h2:=xas h2
  obtain⟨d2,e2,hd2,j2,rfl,hj2⟩:=za4 ht h1;obtain rfl:d=d2:=by omega
  rw[hn,hn] at h2;show((j2:Nat):Int)=(j:Int)
  rw[zqw hnd hj2 hj h2]
def zf4 (s:Str):Prop:=∀x,s.head?=some x->x≠64/\x≠45/\zaN x=false
theorem zqH:zf4 []:=fun x h=>by cases h
theorem zkQ (s:Str):zf4 (41::s):=fun x h=>by cases h;decide
theorem zrW (s:Str):zf4 (44::s):=fun x h=>by cases h;decide
theorem zqs {l r:Str} (h:zbQ l=true) (hr:∀x,r.head?=some x->zaN x=false):lowL (l++r)=l.length:=by
 induction l with
 |nil=>
  cases r with
  |nil=>rfl
  |cons y r2=>show(if zaN y=true then _ else 0)=0;rw[if_neg (by rw[hr y rfl];simp)]
 |cons y l ih=>
  unfold zbQ at h ih;rw[List.all_cons,xad] at h;show(if zaN y=true then lowL (l++r)+1 else 0)=_
  rw[if_pos h.1,ih h.2];rfl
theorem zpy {x:UInt8}{l r:Str} (hx:zbb x=true) (h:zbQ l=true) (hr:∀x,r.head?=some x->zaN x=false):zaz ((x::l)++r)=(x::l).length:=by
 show(if zbb x=true then lowL (l++r)+1 else 0)=_
 rw[if_pos hx,zqs h hr];rfl
theorem zsW {v:Int} (h0:0<=v) (h1:v<=25):∃c:UInt8,zaN c=true/\v=(c.toNat:Int)-97:=by
 refine⟨UInt8.ofNat (97+v.toNat), ?_, ?_⟩
 ·exact zfW (by rw[UInt8.toNat_ofNat_of_lt' (by show _<256;omega)];omega) (by rw[UInt8.toNat_ofNat_of_lt' (by show _<256;omega)];omega)
 ·rw[UInt8.toNat_ofNat_of_lt' (by show _<256;omega)];omega
theorem zo5 {v:Int} (h0:0<=v) (h1:v<=9):∃c:UInt8,zbB c=true/\v=(c.toNat:Int)-48:=by
 refine⟨UInt8.ofNat (48+v.toNat), ?_, ?_⟩
 ·exact zie (by rw[UInt8.toNat_ofNat_of_lt' (by show _<256;omega)];omega) (by rw[UInt8.toNat_ofNat_of_lt' (by show _<256;omega)];omega)
 ·rw[UInt8.toNat_ofNat_of_lt' (by show _<256;omega)];omega
theorem zoe {s:Str}{e:Nat} (he:e<s.length) (hg:(if e=0 then zaz s else e+lowL (s.drop e))=zaz s)
  (hc:(e=0/\zbb (nth s e)=true)\/(0<e/\zaN (nth s e)=true)):(if e+1=0 then zaz s else e+1+lowL (s.drop (e+1)))=zaz s:=by
 have:=zlj (s:=s) (n:=0) (e:=e) od he (by simpa using hg) hc;simpa using this
theorem zof {s:Str}{e:Nat} (he:e<=s.length) (hg:(if e=0 then zaz s else e+lowL (s.drop e))=zaz s)
  (hc:e=s.length\/(e=0/\zbb (nth s e)=false)\/(0<e/\zaN (nth s e)=false)):e=zaz s:=by
 have:=zlk (s:=s) (n:=0) (e:=e) od he (by simpa using hg) hc;simpa using this
theorem up_y {x:UInt8} (h1:65<=(x.toNat:Int)) (h2:(x.toNat:Int)<=90):zbb x=true:=by unfold zbb;rw[xad,xah,xah];exact⟨h1,h2⟩
theorem up_f {x:UInt8} (h:¬(65<=(x.toNat:Int)/\(x.toNat:Int)<=90)):zbb x=false:=by unfold zbb;rw[Bool.and_eq_false_iff,decide_eq_false_iff_not,decide_eq_false_iff_not];omega
theorem zq9 {x:UInt8} (h:¬(97<=(x.toNat:Int)/\(x.toNat:Int)<=122)):zaN x=false:=by unfold zaN;rw[Bool.and_eq_false_iff,decide_eq_false_iff_not,decide_eq_false_iff_not];omega
theorem zhi {w:List Data}{r:Rd} (hs:r.s.length<=1000000000000):FnD Tryz.prog 278 [.ref 901 0] [(901,some (.box (rdC w r)))] (.d (.str (zcE r))) [(901,some (.box (rdC w (za5 r))))]:=by
 have hle:=zfC r.s;have hstop:=fun(e:Nat)=>zof (s:=r.s) (e:=e);have hstep:=fun(e:Nat)=>zoe (s:=r.s) (e:=e);refine bd Tryz.f278 85 [] [] fun _ _ _ _ hk=>?_;refine xaA (ι:=Nat) hk (fun e=>[(3,.d (.i (e:Int)))]) [5,6,7,8,9,10,11,12,13,14,15,16,17,18,19,20,21,22,23,24,25,26,27,28,29,30,31,32,33,34,35,36,37,38,39,40,41,42,43,44,45,46,47,48,49,50,51,52,53,54,55,56,57] (fun e=>[]) (fun e=>e<=r.s.length/\(if e=0 then zaz r.s else e+lowL (r.s.drop e))=zaz r.s) (fun e=>r.s.length-e) 0 ⟨Nat.zero_le _,if_pos I⟩ ⟨⟨_,I,xaV ?_⟩,O⟩ O (fun x=>rfl) (fun e hg1=>?_);focus (first|rfl|(simp;done)|omega)
 refine evc [] [] ?_;apply sq<;>intro h1 h1p h1s<;>(try simp only[Q,xal] at h1p);apply sq<;>intro h2 h2p h2s<;>(try simp only[Q,xal] at h2p);refine xbD un9 (.some I I h2) I I I I (za0 od) ?_;refine evs [] [(12,true),(15,true)] ?_ ⟨⟨_,I,h1⟩,⟨_,I,h2⟩,O⟩;apply sq<;>intro h3 h3p h3s<;>(try simp only[Q,xal] at h3p);refine xbD un9 (.some I I h3) I I I I (za0 od) ?_;refine evs [] [(12,true),(24,true)] ?_ ⟨⟨_,I,h1⟩,⟨_,I,h3⟩,O⟩;apply sq<;>intro h4 h4p h4s<;>(try simp only[Q,xal] at h4p);refine sqT ?_;refine ar (xaj (e+1) ⟨⟨by omega,hstep e od hg1.2 (by first|exact .inl ⟨by omega,up_y od od⟩|exact .inr ⟨by omega,zfW od od⟩)⟩,od,sx ⟨⟨_,I,xaV ?_⟩,O⟩ O⟩);focus (first|rfl|(simp;done)|omega)
 apply sq<;>intro h6 h6p h6s<;>(try simp only[Q,xal] at h6p);refine xbD un9 (.some I I h6) I I I I (za0 od) ?_;refine evs [] [(12,true),(33,false),(36,true)] ?_ ⟨⟨_,I,h1⟩,⟨_,I,h4⟩,⟨_,I,h6⟩,O⟩;apply sq<;>intro h7 h7p h7s<;>(try simp only[Q,xal] at h7p);refine xbD un9 (.some I I h7) I I I I (za0 od) ?_;refine evs [] [(12,true),(33,false),(45,true)] ?_ ⟨⟨_,I,h1⟩,⟨_,I,h4⟩,⟨_,I,h7⟩,O⟩;apply sq<;>intro h8 h8p h8s<;>(try simp only[Q,xal] at h8p);refine ar (xaj (e+1) ⟨⟨by omega,hstep e od hg1.2 (by first|exact .inl ⟨by omega,up_y od od⟩|exact .inr ⟨by omega,zfW od od⟩)⟩,od,sx ⟨⟨_,I,xaV ?_⟩,O⟩ O⟩);focus (first|rfl|(simp;done)|omega)
 refine xbv un9 .none I I I I oo ?_;refine ev (xbw un9 .none I I I I oo ?_);refine evd [] [] ?_;apply sq<;>intro h9 h9p h9s<;>(try simp only[Q,xal] at h9p);refine so ty9 ?_;refine evd [] [] (so ty4 ?_);refine dr (rn [(901,some (.box (rdC w (za5 r))))] (r1 I) (.eqd ?_) ⟨I,I⟩ (SubO.get ⟨.inr ?_,⟨.inl I,O⟩⟩) (zaj I));rotate_left 2;refine so ty9 ?_;refine evd [] [] (so ty4 ?_);refine dr (rn [(901,some (.box (rdC w (za5 r))))] (r1 I) (.eqd ?_) ⟨I,I⟩ (SubO.get ⟨.inr ?_,⟨.inl I,O⟩⟩) (zaj I));rotate_left 2;refine sqF ?_;refine xbv un9 .none I I I I oo ?_;refine ev (xbw un9 .none I I I I oo ?_);refine evd [] [] ?_;apply sq<;>intro h11 h11p h11s<;>(try simp only[Q,xal] at h11p);refine so ty9 ?_;refine evd [] [] (so ty4 ?_);refine dr (rn [(901,some (.box (rdC w (za5 r))))] (r1 I) (.eqd ?_) ⟨I,I⟩ (SubO.get ⟨.inr ?_,⟨.inl I,O⟩⟩) (zaj I));rotate_left 2;refine so ty9 ?_;refine evd [] [] (so ty4 ?_);refine dr (rn [(901,some (.box (rdC w (za5 r))))] (r1 I) (.eqd ?_) ⟨I,I⟩ (SubO.get ⟨.inr ?_,⟨.inl I,O⟩⟩) (zaj I));rotate_left 2;refine sqF ?_;refine sqF ?_;refine xbv un9 .none I I I I oo ?_;refine ev (xbw un9 .none I I I I oo ?_);refine evd [] [] ?_;apply sq<;>intro h13 h13p h13s<;>(try simp only[Q,xal] at h13p);refine so ty9 ?_;refine evd [] [] (so ty4 ?_);refine dr (rn [(901,some (.box (rdC w (za5 r))))] (r1 I) (.eqd ?_) ⟨I,I⟩ (SubO.get ⟨.inr ?_,⟨.inl I,O⟩⟩) (zaj I));rotate_left 2;refine so ty9 ?_;refine evd [] [] (so ty4 ?_);refine dr (rn [(901,some (.box (rdC w (za5 r))))] (r1 I) (.eqd ?_) ⟨I,I⟩ (SubO.get ⟨.inr ?_,⟨.inl I,O⟩⟩) (zaj I));rotate_left 2;refine sqF ?_;apply sq<;>intro h14 h14p h14s<;>(try simp only[Q,xal] at h14p);refine xbD un9 (.some I I h14) I I I I (za0 od) ?_;refine evs [] [(12,true),(33,false),(36,true)] ?_ ⟨⟨_,I,h1⟩,⟨_,I,I⟩,⟨_,I,h14⟩,O⟩;apply sq<;>intro h15 h15p h15s<;>(try simp only[Q,xal] at h15p);refine xbD un9 (.some I I h15) I I I I (za0 od) ?_;refine evs [] [(12,true),(33,false),(45,true)] ?_ ⟨⟨_,I,h1⟩,⟨_,I,I⟩,⟨_,I,h15⟩,O⟩;apply sq<;>intro h16 h16p h16s<;>(try simp only[Q,xal] at h16p);refine ar (xaj (e+1) ⟨⟨by omega,hstep e od hg1.2 (by first|exact .inl ⟨by omega,up_y od od⟩|exact .inr ⟨by omega,zfW od od⟩)⟩,od,sx ⟨⟨_,I,xaV ?_⟩,O⟩ O⟩);focus (first|rfl|(simp;done)|omega)
 refine xbv un9 .none I I I I oo ?_;refine ev (xbw un9 .none I I I I oo ?_);refine evd [] [] ?_;apply sq<;>intro h17 h17p h17s<;>(try simp only[Q,xal] at h17p);refine so ty9 ?_;refine evd [] [] (so ty4 ?_);refine dr (rn [(901,some (.box (rdC w (za5 r))))] (r1 I) (.eqd ?_) ⟨I,I⟩ (SubO.get ⟨.inr ?_,⟨.inl I,O⟩⟩) (zaj I));rotate_left 2;refine so ty9 ?_;refine evd [] [] (so ty4 ?_);refine dr (rn [(901,some (.box (rdC w (za5 r))))] (r1 I) (.eqd ?_) ⟨I,I⟩ (SubO.get ⟨.inr ?_,⟨.inl I,O⟩⟩) (zaj I));rotate_left 2;refine sqF ?_;refine xbv un9 .none I I I I oo ?_;refine ev (xbw un9 .none I I I I oo ?_);refine evd [] [] ?_;apply sq<;>intro h19 h19p h19s<;>(try simp only[Q,xal] at h19p);refine so ty9 ?_;refine evd [] [] (so ty4 ?_);refine dr (rn [(901,some (.box (rdC w (za5 r))))] (r1 I) (.eqd ?_) ⟨I,I⟩ (SubO.get ⟨.inr ?_,⟨.inl I,O⟩⟩) (zaj I));rotate_left 2;refine so ty9 ?_;refine evd [] [] (so ty4 ?_);refine dr (rn [(901,some (.box (rdC w (za5 r))))] (r1 I) (.eqd ?_) ⟨I,I⟩ (SubO.get ⟨.inr ?_,⟨.inl I,O⟩⟩) (zaj I));rotate_left 2;refine sqF ?_;refine sqF ?_;refine xbv un9 .none I I I I oo ?_;refine ev (xbw un9 .none I I I I oo ?_);refine evd [] [] ?_;apply sq<;>intro h21 h21p h21s<;>(try simp only[Q,xal] at h21p);refine so ty9 ?_;refine evd [] [] (so ty4 ?_);refine dr (rn [(901,some (.box (rdC w (za5 r))))] (r1 I) (.eqd ?_) ⟨I,I⟩ (SubO.get ⟨.inr ?_,⟨.inl I,O⟩⟩) (zaj I));rotate_left 2;refine so ty9 ?_;refine evd [] [] (so ty4 ?_);refine dr (rn [(901,some (.box (rdC w (za5 r))))] (r1 I) (.eqd ?_) ⟨I,I⟩ (SubO.get ⟨.inr ?_,⟨.inl I,O⟩⟩) (zaj I));rotate_left 2;refine sqF ?_;refine sqF ?_;apply sq<;>intro h22 h22p h22s<;>(try simp only[Q,xal] at h22p);refine xbD un9 (.some I I h22) I I I I (za0 od) ?_;refine evs [] [(12,true),(33,false),(36,true)] ?_ ⟨⟨_,I,h1⟩,⟨_,I,I⟩,⟨_,I,h22⟩,O⟩;apply sq<;>intro h23 h23p h23s<;>(try simp only[Q,xal] at h23p);refine xbD un9 (.some I I h23) I I I I (za0 od) ?_;refine evs [] [(12,true),(33,false),(45,true)] ?_ ⟨⟨_,I,h1⟩,⟨_,I,I⟩,⟨_,I,h23⟩,O⟩;apply sq<;>intro h24 h24p h24s<;>(try simp only[Q,xal] at h24p);refine ar (xaj (e+1) ⟨⟨by omega,hstep e od hg1.2 (by first|exact .inl ⟨by omega,up_y od od⟩|exact .inr ⟨by omega,zfW od od⟩)⟩,od,sx ⟨⟨_,I,xaV ?_⟩,O⟩ O⟩);focus (first|rfl|(simp;done)|omega)
 refine xbv un9 .none I I I I oo ?_;refine ev (xbw un9 .none I I I I oo ?_);refine evd [] [] ?_;apply sq<;>intro h25 h25p h25s<;>(try simp only[Q,xal] at h25p);refine so ty9 ?_;refine evd [] [] (so ty4 ?_);refine dr (rn [(901,some (.box (rdC w (za5 r))))] (r1 I) (.eqd ?_) ⟨I,I⟩ (SubO.get ⟨.inr ?_,⟨.inl I,O⟩⟩) (zaj I));rotate_left 2;refine so ty9 ?_;refine evd [] [] (so ty4 ?_);refine dr (rn [(901,some (.box (rdC w (za5 r))))] (r1 I) (.eqd ?_) ⟨I,I⟩ (SubO.get ⟨.inr ?_,⟨.inl I,O⟩⟩) (zaj I));rotate_left 2;refine sqF ?_;refine xbv un9 .none I I I I oo ?_;refine ev (xbw un9 .none I I I I oo ?_);refine evd [] [] ?_;apply sq<;>intro h27 h27p h27s<;>(try simp only[Q,xal] at h27p);refine so ty9 ?_;refine evd [] [] (so ty4 ?_);refine dr (rn [(901,some (.box (rdC w (za5 r))))] (r1 I) (.eqd ?_) ⟨I,I⟩ (SubO.get ⟨.inr ?_,⟨.inl I,O⟩⟩) (zaj I));rotate_left 2;refine so ty9 ?_;refine evd [] [] (so ty4 ?_);refine dr (rn [(901,some (.box (rdC w (za5 r))))] (r1 I) (.eqd ?_) ⟨I,I⟩ (SubO.get ⟨.inr ?_,⟨.inl I,O⟩⟩) (zaj I));rotate_left 2;refine sqF ?_;refine sqF ?_;refine xbv un9 .none I I I I oo ?_;refine ev (xbw un9 .none I I I I oo ?_);refine evd [] [] ?_;apply sq<;>intro h29 h29p h29s<;>(try simp only[Q,xal] at h29p);refine so ty9 ?_;refine evd [] [] (so ty4 ?_);refine dr (rn [(901,some (.box (rdC w (za5 r))))] (r1 I) (.eqd ?_) ⟨I,I⟩ (SubO.get ⟨.inr ?_,⟨.inl I,O⟩⟩) (zaj I));rotate_left 2;refine so ty9 ?_;refine evd [] [] (so ty4 ?_);refine dr (rn [(901,some (.box (rdC w (za5 r))))] (r1 I) (.eqd ?_) ⟨I,I⟩ (SubO.get ⟨.inr ?_,⟨.inl I,O⟩⟩) (zaj I));rotate_left 2;refine sqF ?_;refine xbv un9 .none I I I I oo ?_;refine ev (xbw un9 .none I I I I oo ?_);refine evd [] [] ?_;apply sq<;>intro h31 h31p h31s<;>(try simp only[Q,xal] at h31p);refine so ty9 ?_;refine evd [] [] (so ty4 ?_);refine dr (rn [(901,some (.box (rdC w (za5 r))))] (r1 I) (.eqd ?_) ⟨I,I⟩ (SubO.get ⟨.inr ?_,⟨.inl I,O⟩⟩) (zaj I));rotate_left 2;refine so ty9 ?_;refine evd [] [] (so ty4 ?_);refine dr (rn [(901,some (.box (rdC w (za5 r))))] (r1 I) (.eqd ?_) ⟨I,I⟩ (SubO.get ⟨.inr ?_,⟨.inl I,O⟩⟩) (zaj I));rotate_left 2;all_goals (first|((have hE:=hstop e hg1.1 hg1.2 (by first|exact .inl od|exact .inr (.inl ⟨by omega,up_f od⟩)|exact .inr (.inr ⟨by omega,zq9 od⟩));first|(show some (Res.box [_,_,_])=some (Res.box [_,_,_]);unfold za5;rw[<-hE];first|rfl|(simp[*];done)|(simp_all;done)|(simp;omega))|(unfold zcE;rw[<-hE];done)|(unfold zcE;rw[<-hE];simp;done));done)|(have hE:=hstop e hg1.1 hg1.2 (by first|exact .inl od|exact .inr (.inl ⟨by omega,up_f od⟩)|exact .inr (.inr ⟨by omega,zq9 od⟩));first|(show some (Res.box [_,_,_])=some (Res.box [_,_,_]);unfold za5;rw[<-hE];first|rfl|(simp[*];done)|(simp_all;done)|(simp;omega))|(unfold zcE;rw[<-hE];done)|(unfold zcE;rw[<-hE];simp;done)))
theorem ou{p:Prop}(h:p:=by first|assumption|(simp_all;done)):p:=h
theorem zhh {w:List Data} (hw:WT w){a k:Int} (ht:TyIn w.length ⟨a,k⟩){r:Rd} (hs:r.s.length<=1000000000000):FnD Tryz.prog 221 [.ref 901 0,.agg [.d (.i a),.d (.i k)]] [(901,some (.box (rdC w r)))] (.d (.i (zcD w ⟨a,k⟩ r))) [(901,some (.box (rdC w (zc2 w ⟨a,k⟩ r))))]:=by
 have hct:=zeA hw ht;have hnmc:=zhi (w:=w) (r:=r) hs;have hpl:=fun(c:Int) (h:c∈zau w ⟨a,k⟩)=>za4 ht h;have hcl:=zer hw ht;have hnm:∀(d m:Nat),a=d->(za2 w ⟨a,k⟩ (m:Int))=(nth (nth w d).ctors m).name:=fun d m h=>by unfold za2;subst h;rfl
 have hok:zcp w ⟨a,k⟩ r=(!(za5 r).bad&& !decide (nmV w ⟨a,k⟩ (zcE r)<0)):=rfl;have hdef:nmV w ⟨a,k⟩ (zcE r)=((zau w ⟨a,k⟩).find? (isNm w ⟨a,k⟩ (zcE r))).getD (-1):=rfl;have hR1:zcp w ⟨a,k⟩ r=true->zc2 w ⟨a,k⟩ r=za5 r/\zcD w ⟨a,k⟩ r=nmV w ⟨a,k⟩ (zcE r):=fun h=>⟨if_pos h,if_pos h⟩;have hR0:zcp w ⟨a,k⟩ r=false->zc2 w ⟨a,k⟩ r=⟨(za5 r).s,true⟩/\zcD w ⟨a,k⟩ r=0:=fun h=>⟨if_neg (by rw[h];simp),if_neg (by rw[h];simp)⟩;rw[hdef] at hok hR1;have hisn:∀c,isNm w ⟨a,k⟩ (zcE r) c=decide (za2 w ⟨a,k⟩ c=zcE r):=fun _=>rfl;have hge:∀c∈zau w ⟨a,k⟩,0<=c:=fun c h=>by obtain⟨d,_,_,j,hj,_⟩:=hpl c h;omega
 generalize zau w ⟨a,k⟩=l at *;generalize zc2 w ⟨a,k⟩ r=X at *;generalize zcD w ⟨a,k⟩ r=Y at *;generalize zcp w ⟨a,k⟩ r=Z at *;generalize za5 r=q at *;generalize zcE r=nm at *;have hfin:∀(y:Int),y∈l->q.bad=false->l.find? (isNm w ⟨a,k⟩ nm)=some y->X=q/\Y=y:=fun y hy hb hf=>by
  have hz:Z=true:=by rw[hok,hb,hf];simp;exact hge y hy
  have:=hR1 hz;rw[hf] at this;exact this
 have hfn:q.bad=true\/l.find? (isNm w ⟨a,k⟩ nm)=none->X=⟨q.s,true⟩/\Y=0:=fun h=>by
  refine hR0 ?_;rw[hok];rcases h with h|h
  ·rw[h];rfl
  ·rw[h];simp
 have hnmY:∀y (h:y∈l),za2 w ⟨a,k⟩ y=(nth (nth w (hpl y h).choose).ctors (hpl y h).choose_spec.2.2.choose).name:=fun y h=>
  (xam (za2 w ⟨a,k⟩) (hpl y h).choose_spec.2.2.choose_spec.1).trans (hnm _ _ (hpl y h).choose_spec.1)
 have hfound:∀(y:Int) (rest:List Int) (h:y∈l),((y::rest).find? (isNm w ⟨a,k⟩ nm)=l.find? (isNm w ⟨a,k⟩ nm)\/q.bad=true)->q.bad=false->(nth (nth w (hpl y h).choose).ctors (hpl y h).choose_spec.2.2.choose).name=nm->X=q/\Y=y:=fun y rest h hg hb hn=>by
  refine hfin y h hb ?_;rcases hg with hg|hg
  ·rw[<-hg,List.find?_cons_of_pos (by rw[hisn,hnmY y h];exact xax hn)]
  ·rw[hb] at hg;cases hg
 have hnext:∀(y:Int) (rest:List Int) (h:y∈l),((y::rest).find? (isNm w ⟨a,k⟩ nm)=l.find? (isNm w ⟨a,k⟩ nm)\/q.bad=true)->(q.bad=true\/¬(nth (nth w (hpl y h).choose).ctors (hpl y h).choose_spec.2.2.choose).name=nm)->(rest.find? (isNm w ⟨a,k⟩ nm)=l.find? (isNm w ⟨a,k⟩ nm)\/q.bad=true):=fun y rest h hg hn=>by
  rcases hn with hn|hn
  ·exact .inr hn
  ·rcases hg with hg|hg
   ·exact .inl (by rw[<-hg,List.find?_cons_of_neg (by rw[hisn,hnmY y h,xaw hn];simp)])
   ·exact .inr hg
 clear hok hR0 hR1 hdef;refine bd Tryz.f221 48 [] [] fun _ _ _ _ hk=>?_;refine bx 3003 ?_;refine ev (wd zsy hnmc I I ⟨I,O⟩ ?_);refine ev (wc zl6 hct I I ?_);refine evd [] [] (dr (xaA (ι:=List (Int)×List (Int)) hk (fun x=>[(17,.d (.i (x.1.length:Int)))]) [4,7,18,19,20,21,22,23,24,25,26,27,28,29,30,31,32,33,34,35,36,37,38,39,40,41,42,43,44] (fun x=>[]) (fun x=>x.1++x.2=l/\(x.2.find? (isNm w ⟨a,k⟩ nm)=l.find? (isNm w ⟨a,k⟩ nm)\/q.bad=true)) (fun x=>x.2.length) ([],l) ⟨by simp,.inl I⟩ ⟨⟨_,I,xaV ?_⟩,O⟩ O (fun x=>rfl) (fun x hg1=>?_)));focus (first|rfl|(simp;done)|(simp_all;done)|omega)
 obtain⟨pre,rest⟩:=x;dsimp only at hg1 ⊢;refine evc [] [] ?_;apply sq<;>intro h1 h1p h1s<;>(try simp only[Q,xal] at h1p);rcases rest with _|⟨y,rest⟩
 ·exfalso;simp_all
 refine ixq zbd I I I (zaM hg1.1) I (ev ?_);apply sq<;>intro h2 h2p h2s<;>(try simp only[Q,xal] at h2p);refine xbB (i:=(hpl y (by rw[<-hg1.1];simp)).choose) sl23 (.some I I h2) I I I (hpl y (by rw[<-hg1.1];simp)).choose_spec.1 (zag (hpl y (by rw[<-hg1.1];simp)).choose_spec.2.1) I ?_;refine evd [] [(26,true)] ?_ ⟨⟨_,I,h2⟩,O⟩;refine xbB (i:=(hpl y (by rw[<-hg1.1];simp)).choose_spec.2.2.choose) zbN (.some I I h2) I I I (hpl y (by rw[<-hg1.1];simp)).choose_spec.2.2.choose_spec.1 (zag (hpl y (by rw[<-hg1.1];simp)).choose_spec.2.2.choose_spec.2) I ?_;refine evd [] [(26,true)] ?_ ⟨⟨_,I,h2⟩,O⟩;refine dr ?_;apply sq<;>intro h3 h3p h3s<;>(try simp only[Q,xal] at h3p);refine rn [(901,some (.box (rdC w X)))] (r1 I) (.eqd ?_) ⟨I,I⟩ (SubO.get ⟨.inr ?_,⟨.inl I,O⟩⟩) (zaj I);rotate_left 2;refine ar (xaj ((pre++[y],rest)) ⟨⟨(by have hz:=hg1.1;rw[<-hz];simp),(hnext y _ (by rw[<-hg1.1];simp) hg1.2 (by first|exact .inr oh|exact .inl oh|exact .inl ox))⟩,og,sx ⟨⟨_,I,xaV ?_⟩,O⟩ O⟩);focus (first|rfl|(simp;done)|(simp_all;done)|omega)
 refine dr (sqF ?_);refine ar (xaj ((pre++[y],rest)) ⟨⟨(by have hz:=hg1.1;rw[<-hz];simp),(hnext y _ (by rw[<-hg1.1];simp) hg1.2 (by first|exact .inr oh|exact .inl oh|exact .inl ox))⟩,og,sx ⟨⟨_,I,xaV ?_⟩,O⟩ O⟩);focus (first|rfl|(simp;done)|(simp_all;done)|omega)
 have hrest:rest=[]:=by
  rcases rest with _|⟨a,b⟩
  ·rfl
  ·exfalso;have hz:=xam List.length (hg1.1);simp only[xaa,xab,xac] at hz;omega
 subst hrest;refine so ty4 ?_;apply tv;refine rn [(901,some (.box (rdC w X)))] (r1 I) (.eqd ?_) ⟨I,I⟩ (SubO.get ⟨.inr ?_,⟨.inl I,O⟩⟩) (zaj I);rotate_left 2;all_goals (first|((first|(obtain⟨e1,e2⟩:=hfound y rest (by rw[<-hg1.1];simp) hg1.2 ou oh;first|(rw[e1];all_goals rfl)|(rw[e2];all_goals rfl))|(obtain⟨e1,e2⟩:=hfn (by have h9:=hg1.2;simp only[List.find?_nil] at h9;exact h9.symm.imp id (fun h=>h.symm));first|(rw[e1];all_goals rfl)|(rw[e2];all_goals rfl)));done)|(first|(obtain⟨e1,e2⟩:=hfound y rest (by rw[<-hg1.1];simp) hg1.2 ou oh;first|(rw[e1];all_goals rfl)|(rw[e2];all_goals rfl))|(obtain⟨e1,e2⟩:=hfn (by have h9:=hg1.2;simp only[List.find?_nil] at h9;exact h9.symm.imp id (fun h=>h.symm));first|(rw[e1];all_goals rfl)|(rw[e2];all_goals rfl))))
theorem zpg (L:List Nat) (hp:Hp) (i:Nat):getH (L.map (fun j=>(j,(none:Option Res)))++hp) i=if i∈L then none else getH hp i:=by
 induction L with
 |nil=>simp
 |cons x r ih=>
  simp only[xaf,xai,zaa,List.mem_cons];by_cases h:i=x
  ·subst h;simp
  ·simp[h,ih]
section
variable {c:Ctx}
theorem R.drop {G:Gh}{s:St}{a:Act}{w:World} (hr:R c G s a w) (L:List Nat) (hk:∀i l,c.kept i=some l->i∉L):R c G ⟨s.env,L.map (fun j=>(j,none))++s.hp⟩ a w:=by
 have hg:=zpg L s.hp;have hT:∀i p,tokf (L.map (fun j=>(j,(none:Option Res)))++s.hp) i=some p->tokf s.hp i=some p:=fun i p h=>by
  obtain⟨n,k⟩:=p;have:=zak.1 h;rw[hg] at this;split at this
  ·cases this
  ·exact zak.2 this
 have hm:∀ {x:AV}{v:Value},RelA G (tokf s.hp) w x v->RelA G (tokf (L.map (fun j=>(j,(none:Option Res)))++s.hp)) w x v:=fun hx=>
  hx.mono (fun _ _ ho=>⟨ho,rfl⟩) (fun _ _=> .inl rfl) (fun i _ p hp=>⟨hT i p hp,fun _ _=>⟨rfl,rfl⟩⟩)
 have hs:∀i r,getH (L.map (fun j=>(j,(none:Option Res)))++s.hp) i=some r->getH s.hp i=some r:=fun i r h=>by
  rw[hg] at h;split at h
  ·cases h
  ·exact h
 have hss:∀i,(getH (L.map (fun j=>(j,(none:Option Res)))++s.hp) i).isSome->(getH s.hp i).isSome:=fun i h=>by
  obtain⟨r,hr⟩:=Option.isSome_iff_exists.1 h;rw[hs i r hr];rfl
 refine⟨hr.size,hr.defers,fun i v h=>hm (hr.slots i v h),fun i r h=>?_,fun i j h1 h2=>hr.disj i j (hss i h1) (hss j h2),fun i h=>hr.new i (hss i h),hr.frm,hr.top,fun i l hl=>?_⟩
 ·have hh:=hr.heap i r (hs i r h);cases r with
  |box cs=>
   obtain⟨b,vs,e,h1,h2,h3,h4,h5⟩:=hh;exact⟨b,vs,e,h1,h2,h3,h4,fun j hj hv=>hm (h5 j hj hv)⟩
  |tok m k=>exact hh
  |map ks=>exact hh
  |tree cs=>exact zbh hh I (fun _ _=>⟨I,I⟩) (Nat.le_refl _) (fun _ _ _=>hm)
 ·obtain⟨k1,k2,k3⟩:=hr.kept i l hl;refine⟨k1, ?_, ?_⟩
  ·show(getH (L.map (fun j=>(j,(none:Option Res)))++s.hp) i).isSome
   rw[hg,if_neg (hk i l hl)];exact k2
  ·show tokf (L.map (fun j=>(j,(none:Option Res)))++s.hp) i=none
   cases h:tokf (L.map (fun j=>(j,(none:Option Res)))++s.hp) i with
   |none=>rfl
   |some p=>rw[hT i p h] at k3;cases k3
inductive RowT (hp:Hp):List AV->List D->List (Nat×Nat×Nat)->Prop
 |nil:RowT hp [] [] []
 |sc {x cs ds js} (hs:zio x=true) (h:RowT hp cs ds js):RowT hp (.d x::cs) (x::ds) js
 |ni {cs ds js} (h:RowT hp cs ds js):RowT hp (.nils::cs) (.sl []::ds) js
 |gt {j zs n k cs ds js} (hj:getH hp j=some (.tok n k)) (hn:n=zs.length) (h:RowT hp cs ds js):RowT hp (.gt j zs::cs) (.sl zs::ds) ((j,n,k)::js)
theorem RowT.move {hp hp':Hp}{cs:List AV}{ds:List D}{js:List (Nat×Nat×Nat)} (h:RowT hp cs ds js):(∀q,q∈js->getH hp' q.1=some (.tok q.2.1 q.2.2))->RowT hp' cs ds js:=by
 induction h with
 |nil=>intro _;exact .nil
 |sc hs _ ih=>intro h;exact .sc hs (ih h)
 |ni _ ih=>intro h;exact .ni (ih h)
 |gt hj hn _ ih=>intro h;exact .gt (h (_,_,_) List.mem_cons_self) hn (ih fun q hq=>h q (List.mem_cons_of_mem _ hq))
theorem RowT.len {hp:Hp}{cs:List AV}{ds:List D}{js:List (Nat×Nat×Nat)} (h:RowT hp cs ds js):ds.length=cs.length:=by
 induction h with
 |nil=>rfl
 |sc _ _ ih=>simp[ih]
 |ni _ ih=>simp[ih]
 |gt _ _ _ ih=>simp[ih]
end
theorem RelA.gv_move {G G':Gh}{T T':TokF}{w:World}{i j n k:Nat}{xs:List (List D)}{v:Value} (h:RelA G T w (.gv i xs) v) (hT:T i=some (n,k)) (hF:G'.F=G.F) (hl:G'.loc j=G.loc i) (hT':T' j=some (n,k)):RelA G' T' w (.gv j xs) v:=by
 obtain⟨hv,ht⟩:=h.gv_inv;refine .gv hv (fun n' k' he=>?_);rw[hT'] at he;cases he
 obtain⟨h1,h2⟩:=ht _ _ hT;refine⟨h1,fun hn=>?_⟩;obtain⟨h3,h4⟩:=h2 hn;refine⟨h3, ?_⟩;rcases h4 with ⟨a1,a2,a3⟩|⟨b,cap,cs,e,a1,a2,a3,a4,a5,a6,a7⟩
 ·exact .inl ⟨hl.trans a1,a2,a3⟩
 ·exact .inr ⟨b,cap,cs,e,hl.trans a1,a2,by rw[hF];exact a3,a4,a5,a6,fun q hq r hr=>(a7 q hq r hr).mono (fun x o ho=>⟨by rw[hF];exact ho,I⟩)⟩
def zih (hpc hp0:Hp) (tk:List Nat):List Nat:=(hpc.map (·.1)++hp0.map (·.1)).filter fun x=> !zaG x tk
theorem zpk {hpc hp0:Hp}{tk:List Nat}{id:Nat}:id∈zih hpc hp0 tk↔(id∈hpc.map (·.1)\/id∈hp0.map (·.1))/\id∉tk:=by
 unfold zih;rw[List.mem_filter,List.mem_append];have:(!zaG id tk)=true↔id∉tk:=by
  rw[<-zaw];cases zaG id tk<;>simp
 rw[this]
def zjp (tk K K0:List Nat):Nat×Option Res->Bool
 |(i,some (.box cs))=>zaG i K0||subB (AV.idsL cs) K
 |(i,some (.tree cs))=>zaG i K0||subB (AV.idsL cs) K
 |(_,some (.map _))=>true
 |(i,some (.tok _ _))=>zaG i tk
 |(_,none)=>false
def zq6 (tk cr K:List Nat):Nat×Option Res->Bool
 |(_,some (.box cs))=>subB (AV.idsL cs) K
 |(_,some (.tree cs))=>subB (AV.idsL cs) K
 |(_,some (.map _))=>true
 |(i,some (.tok _ _))=>zaG i cr
 |(i,none)=>zaG i tk
def zlP:Option Res->Bool
 |some (.tok _ _)=>true
 |_=>false
def znw:Option Res->Bool
 |none=>true
 |_=>false
def tkB (hpc hp0:Hp) (i:Nat):Bool:=zlP (getH hpc i)&&(zaG i (hp0.map (·.1))&&znw (getH hp0 i))
def zil (hpc hp0:Hp) (r:AV) (tk cr:List Nat):Bool:=
 tk.all (tkB hpc hp0)&&hpc.all (zjp tk (zih hpc hp0 tk) (hp0.map (·.1)))&&hp0.all (zq6 tk cr (zih hpc hp0 tk))&&hp0.all (fun p=>zaG p.1 (hpc.map (·.1))||zaG p.1 cr)&&subB r.ids (zih hpc hp0 tk)
theorem zqJ {hpc hp0:Hp}{i:Nat} (h:tkB hpc hp0 i=true):zlP (getH hpc i)=true/\i∈hp0.map (·.1)/\getH hp0 i=none:=by
 unfold tkB at h;simp only[xad] at h;refine⟨h.1,zaw.1 h.2.1, ?_⟩;cases hg:getH hp0 i with
 |none=>rfl
 |some x=>rw[hg] at h;exact absurd h.2.2 (by simp[znw])
theorem zge {hp:Hp}{tk K K0:List Nat} (ha:hp.all (zjp tk K K0)=true){id:Nat} (h:id∈hp.map (·.1)):(getH hp id).isSome:=by
 induction hp with
 |nil=>simp at h
 |cons p t ih=>
  obtain⟨i,x⟩:=p;rw[zaa];simp only[List.all_cons,xad] at ha;by_cases hi:id=i
  ·rw[if_pos hi];cases x with
   |none=>simp[zjp] at ha
   |some r=>rfl
  ·rw[if_neg hi];refine ih ha.2 ?_;simp only[xaf,List.mem_cons] at h;exact h.resolve_left hi
theorem zm7 {hp:Hp}{tk cr K:List Nat} (ha:hp.all (zq6 tk cr K)=true){id:Nat} (hn:id∉tk) (h:id∈hp.map (·.1)):(getH hp id).isSome:=by
 induction hp with
 |nil=>simp at h
 |cons p t ih=>
  obtain⟨i,x⟩:=p;rw[zaa];simp only[List.all_cons,xad] at ha;by_cases hi:id=i
  ·rw[if_pos hi];cases x with
   |none=>subst hi;exact absurd (zaw.1 ha.1) hn
   |some r=>rfl
  ·rw[if_neg hi];refine ih ha.2 ?_;simp only[xaf,List.mem_cons] at h;exact h.resolve_left hi
section
variable {c:Ctx}
theorem zji {G:Gh}{s:St}{a:Act}{w:World} (hr:R c G s a w){f:FuncId}{avs:List AV}{hpc hp0:Hp}{r:AV}{vals:Array Value} (hf:FnD c.P f avs hpc r hp0)
  (hargs:AllR G (tokf s.hp) w avs vals) (hsub:∀id r,getH hpc id=some r->getH s.hp id=some r)
  (tk cr:List Nat) (hcr:∀id,id∈cr->getH s.hp id=none/\zcx id s) (hchk:zil hpc hp0 r tk cr=true):
  Calls c.P f vals w fun e w'=>∃v,e = .returned v/\∃G',R c G' { s with hp:=hp0++s.hp } a w'/\RelA G' (tokf (hp0++s.hp)) w' r v:=by
 simp only[zil,xad] at hchk;obtain⟨⟨⟨⟨c0,c1⟩,c2⟩,c3⟩,c4⟩:=hchk;have ctk:=fun id (h:id∈tk)=>zqJ (List.all_eq_true.1 c0 id h)

 have hok:HOK G w hpc avs vals:=by
  have hm:∀ {x:AV}{v:Value},RelA G (tokf s.hp) w x v->RelA G (tokf hpc) w x v:=fun hx=>
   hx.mono (fun _ _ ho=>⟨ho,rfl⟩) (fun _ _=> .inl rfl) (fun id _ p hp=>⟨by
    obtain⟨n,k⟩:=p;exact zak.2 (hsub _ _ (zak.1 hp)),fun _ _=>⟨I,I⟩⟩)
  have hsome:∀id,(getH hpc id).isSome->(getH s.hp id).isSome:=fun id hi=>by
   obtain⟨x,hx⟩:=Option.isSome_iff_exists.1 hi;rw[hsub _ _ hx];rfl
  refine⟨⟨hargs.size,fun i hi hv=>hm (hargs.rel i hi hv)⟩,fun id r h=>?_,fun id id' h1 h2=>hr.disj id id' (hsome _ h1) (hsome _ h2),hr.top⟩;have:=hr.heap id r (hsub id r h);cases r with
  |box cs=>
   obtain⟨b,us,e,e1,e2,e3,e4,e5⟩:=this;exact⟨b,us,e,e1,e2,e3,e4,fun i hi hv=>hm (e5 i hi hv)⟩
  |tok n k=>exact this
  |map ks=>exact this
  |tree cs=>exact zbh this I (fun _ _=>⟨I,I⟩) (Nat.le_refl _) (fun _ _ _=>hm)
 refine(hf G w vals hok).mono ?_;rintro e w' ⟨v,r',hp1,G',rfl,⟨rfl,rfl⟩,hret⟩
 refine⟨v,rfl, ?_⟩;let keys:=zih hpc hp1 tk
 have kin:∀id,id∈keys↔(id∈hpc.map (·.1)\/id∈hp1.map (·.1))/\id∉tk:=fun id=>zpk;have hkeys:∀id,id∈keys->(getH (hp1++hpc) id).isSome:=fun id hid=>by
  obtain⟨h1,h2⟩:=(kin id).1 hid;rw[zbi];split
  ·rename_i h;exact zm7 c2 h2 (zaw.1 h)
  ·rename_i h;rcases h1 with h' | h'
   ·exact zge c1 h'
   ·exact absurd (zaw.2 h') h
 have hget:∀id,id∈keys->getH (hp1++s.hp) id=getH (hp1++hpc) id:=fun id hid=>by
  obtain⟨h1,h2⟩:=(kin id).1 hid;rw[zbi,zbi];split
  ·rfl
  ·rename_i h;have h':id∈hpc.map (·.1):=h1.resolve_right (fun h'=>h (zaw.2 h'));obtain⟨x,hx⟩:=Option.isSome_iff_exists.1 (zge c1 h');rw[hx,hsub _ _ hx]
 have hgett:∀id,id∈tk->getH (hp1++s.hp) id=none:=fun id hid=>by
  obtain⟨_,h2,h3⟩:=ctk id hid;rw[zbi,if_pos (zaw.2 h2)];exact h3
 have hgetn':∀id,id∉keys->id∉tk->getH (hp1++s.hp) id=getH s.hp id:=fun id hid ht=>by
  rw[zbi];split
  ·rename_i h;exact absurd ((kin id).2 ⟨.inr (zaw.1 h),ht⟩) hid
  ·rfl
 have hgetn:∀id x,id∉keys->getH (hp1++s.hp) id=some x->getH s.hp id=some x/\id∉hpc.map (·.1):=fun id x hid hx=>by
  by_cases ht:id∈tk
  ·rw[hgett id ht] at hx;cases hx
  ·rw[hgetn' id hid ht] at hx;exact⟨hx,fun h=>hid ((kin id).2 ⟨.inl h,ht⟩)⟩
 have ht0:∀id,id∈keys->id∉cr->tokf (hp1++s.hp) id=none:=fun id hid hncr=>by
  obtain⟨q1,q2⟩:=(kin id).1 hid;cases hT:tokf (hp1++s.hp) id with
  |none=>rfl
  |some p=>
   obtain⟨n,k⟩:=p;have h1:=zak.1 hT;rw[hget id hid,zbi] at h1;split at h1
   ·have:=zb3 h1 c2;exact absurd (zaw.1 this) hncr
   ·have:=zb3 h1 c1;exact absurd (zaw.1 this) q2
 let G2:Gh:={ F:=G'.F,loc:=fun id=>bif zaG id keys then G'.loc id else G.loc id }
 have hl1:∀id,id∈keys->G2.loc id=G'.loc id:=fun id hid=>by simp[G2,zaw.2 hid]
 have hl2:∀id,id∉keys->G2.loc id=G.loc id:=fun id hid=>by
  have:zaG id keys=false:=by
   cases h:zaG id keys with
   |true=>exact absurd (zaw.1 h) hid
   |false=>rfl
  simp[G2,this]
 have hboxc:∀id,id∈hpc.map (·.1)->id∉tk->zb8 hpc id=true:=fun id hid hnt=>by
  obtain⟨x,hx⟩:=Option.isSome_iff_exists.1 (zge c1 hid);unfold zb8;rw[hx];cases x with
  |tok n k=>have:=zb3 hx c1;exact absurd (zaw.1 this) hnt
  |_=>rfl

 have hkey:∀id,id∈keys->(id∈hpc.map (·.1)/\(G'.loc id).head?=(G.loc id).head?)\/(id∉hpc.map (·.1)/\id∈cr):=fun id hid=>by
  obtain⟨q1,q2⟩:=(kin id).1 hid;by_cases h:id∈hpc.map (·.1)
  ·exact .inl ⟨h,(hret.kept id (hboxc id h q2)).1⟩
  ·right
   refine⟨h, ?_⟩;have h0:id∈hp1.map (·.1):=q1.resolve_left h;obtain⟨p,hp,rfl⟩:=List.mem_map.1 h0;have:=List.all_eq_true.1 c3 p hp;simp only[Bool.or_eq_true] at this;rcases this with h' | h'
   ·exact absurd (zaw.1 h') h
   ·exact zaw.1 h'
 have howned:∀b,b∈zdu G hpc->∃id,(getH s.hp id).isSome/\b∈G.loc id/\id∈hpc.map (·.1):=fun b hb=>by
  obtain⟨id,h1,h2⟩:=zg0.1 hb;obtain⟨x,hx⟩:=Option.isSome_iff_exists.1 h1;exact⟨id,by rw[hsub _ _ hx];rfl,h2,List.mem_map.2 ⟨_,zch hx,rfl⟩⟩
 have bound:∀i r,getH s.hp i=some r->∀b,b∈G.loc i->b<w.heap.size:=fun i r h=>(hr.heap i r h).bound;have away:∀i r,i∉hpc.map (·.1)->getH s.hp i=some r->∀b,b∈G.loc i->b∉zdu G hpc:=fun i r hi h b hb hown=>by
  obtain⟨id,h1,h2,h3⟩:=howned b hown;exact hr.disj i id (by rw[h];rfl) h1 (fun e=>hi (e ▸ h3)) b hb h2
 have hm:∀ {x:AV}{u:Value},(∀id,id∈x.ids->id∉cr)->RelA G (tokf s.hp) w x u->RelA G2 (tokf (hp1++s.hp)) w' x u:=fun hx hxx=>
  hxx.mono hret.frm.cell (fun id hid=>by
   by_cases hk:id∈keys
   ·refine .inr ⟨ht0 id hk (hx id hid), ?_⟩;rw[hl1 id hk];rcases hkey id hk with ⟨_,h⟩|⟨_,h⟩
    ·exact h
    ·exact absurd h (hx id hid)
   ·exact .inl (hl2 id hk)) (fun id hid p hp=>by
   have hk:id∉keys:=fun hk=>by rw[ht0 id hk (hx id hid)] at hp;cases hp
   obtain⟨n,k⟩:=p;obtain⟨h1,hnc⟩:=hgetn id _ hk (zak.1 hp);exact⟨zak.2 h1,fun b hb=>hret.frm.block b (bound id _ h1 b hb) (away id _ hnc h1 b hb)⟩)
 have hm2:∀ {x:AV}{u:Value},(∀id,id∈x.ids->id∈keys)->RelA G' (tokf (hp1++hpc)) w' x u->RelA G2 (tokf (hp1++s.hp)) w' x u:=fun hx hxx=>
  hxx.mono (fun _ _ ho=>⟨ho,rfl⟩) (fun id hid=> .inl (hl1 id (hx id hid))) (fun id hid p hp=>⟨by
   have hk:=hx id hid;unfold tokf at hp ⊢;rw[hget id hk] at hp;exact hp,fun _ _=>⟨I,I⟩⟩)
 have hsome:∀id,id∉keys->(getH (hp1++s.hp) id).isSome->(getH s.hp id).isSome/\id∉hpc.map (·.1):=fun id hid h=>by
  obtain⟨x,hx⟩:=Option.isSome_iff_exists.1 h;obtain⟨h1,h2⟩:=hgetn id x hid hx;exact⟨by rw[h1];rfl,h2⟩
 have hsub2:∀id x,id∈keys->getH (hp1++hpc) id=some x->∀j,j∈x.ids->j∈keys:=fun id x hk hx j hj=>by
  rw[zbi] at hx;split at hx
  ·cases x with
   |box cs=>exact zdx (zb3 hx c2) j hj
   |tree cs=>exact zdx (zb3 hx c2) j hj
   |tok n k=>simp[Res.ids] at hj
   |map ks=>simp[Res.ids] at hj
  ·rename_i hn;cases x with
   |box cs=>
    have:=zb3 hx c1;simp only[zjp,Bool.or_eq_true] at this;rcases this with h|h
    ·exact absurd h hn
    ·exact zdx h j hj
   |tree cs=>
    have:=zb3 hx c1;simp only[zjp,Bool.or_eq_true] at this;rcases this with h|h
    ·exact absurd h hn
    ·exact zdx h j hj
   |tok n k=>simp[Res.ids] at hj
   |map ks=>simp[Res.ids] at hj
 refine⟨G2,⟨hr.size,hr.defers,fun i x hx=>?_,fun id x hx=>?_,fun id id' h1 h2 hne b hb=>?_,fun id h1 b hb=>?_,hr.frm.trans hret.frm ?_,hret.top,fun id l hl=>?_⟩, ?_⟩
 ·exact hm (fun id hid hc=>(hcr id hc).2.1 i x hx hid) (hr.slots i x hx)
 ·by_cases hk:id∈keys
  ·have hx':getH (hp1++s.hp) id=some x:=hx;rw[hget id hk] at hx';have hh:=hret.heap id x hx';have hids:=hsub2 id x hk hx';cases x with
   |box cs=>
    obtain⟨b,us,e,e1,e2,e3,e4,e5⟩:=hh;exact⟨b,us,e,(hl1 id hk).trans e1,e2,e3,e4,fun i hi hv=>hm2 (fun j hj=>hids j (xay (xao hi) hj)) (e5 i hi hv)⟩
   |tok n k=>exact fun b e1=>by rw[hl1 id hk] at e1;exact hh b e1
   |map ks=>
    obtain⟨b,es,cl,e1,e2⟩:=hh;exact⟨b,es,cl,(hl1 id hk).trans e1,e2⟩
   |tree cs=>exact zbh hh (hl1 id hk) (fun _ _=>⟨I,I⟩) (Nat.le_refl _) (fun x hx v=>hm2 (fun j hj=>hids j (xay hx hj)))
  ·obtain⟨hx',hnc⟩:=hgetn id x hk hx;have hh:=hr.heap id x hx';have hblk:∀b,b∈G.loc id->w'.heap[b]?=w.heap[b]?/\G'.F b=G.F b:=fun b hb=>hret.frm.block b (bound id x hx' b hb) (away id x hnc hx' b hb);cases x with
   |box cs=>
    obtain⟨b,us,e,e1,e2,e3,e4,e5⟩:=hh;obtain⟨f1,f2⟩:=hblk b (by simp[e1]);exact⟨b,us,e,(hl2 id hk).trans e1,f1.trans e2,e3,f2.trans e4,fun i hi hv=>hm (fun j hj hc=>(hcr j hc).2.2 id _ hx' (xay (xao hi) hj)) (e5 i hi hv)⟩
   |tok n k=>exact fun b e1=>by rw[hl2 id hk] at e1;exact Nat.lt_of_lt_of_le (hh b e1) hret.frm.size
   |map ks=>
    obtain⟨b,es,cl,e1,e2,e3,e4⟩:=hh;obtain⟨f1,f2⟩:=hblk b (by simp[e1]);exact⟨b,es,cl,(hl2 id hk).trans e1,f1.trans e2,f2.trans e3,e4⟩
   |tree cs=>exact zbh hh (hl2 id hk) hblk hret.frm.size (fun x hx v=>hm (fun j hj hc=>(hcr j hc).2.2 id _ hx' (xay hx hj)))
 ·have mix:∀i j,i∈keys->j∉keys->(getH (hp1++s.hp) i).isSome->(getH s.hp j).isSome/\j∉hpc.map (·.1)->∀b,b∈G'.loc i->b∉G.loc j:=fun i j hi hj h1 h2 b hb hbj=>by
   obtain⟨x,hx⟩:=Option.isSome_iff_exists.1 h2.1;have hnc:=h2.2;rcases hret.new i (by rw[<-hget i hi];exact h1) b hb with h|h
   ·exact away j x hnc hx b hbj h
   ·have:=bound j x hx b hbj;omega
  by_cases hk:id∈keys<;>by_cases hk':id'∈keys
  ·rw[hl1 id hk] at hb;rw[hl1 id' hk'];exact hret.disj id id' (hkeys id hk) (hkeys id' hk') hne b hb
  ·rw[hl1 id hk] at hb;rw[hl2 id' hk'];exact mix id id' hk hk' h1 (hsome id' hk' h2) b hb
  ·rw[hl2 id hk] at hb;rw[hl1 id' hk'];intro hb';exact mix id' id hk' hk h2 (hsome id hk h1) b hb' hb
  ·rw[hl2 id hk] at hb;rw[hl2 id' hk'];exact hr.disj id id' (hsome id hk h1).1 (hsome id' hk' h2).1 hne b hb
 ·by_cases hk:id∈keys
  ·rw[hl1 id hk] at hb;rcases hret.new id (hkeys id hk) b hb with h|h
   ·obtain⟨j,h2,h3,_⟩:=howned b h;exact hr.new j h2 b h3
   ·right;have:=hr.frm.size;omega
  ·rw[hl2 id hk] at hb;exact hr.new id (hsome id hk h1).1 b hb
 ·intro b hb;obtain⟨j,h2,h3,_⟩:=howned b hb;exact hr.new j h2 b h3
 ·have hk0:=hr.kept id l hl;have hncr:id∉cr:=fun h=>by have:=(hcr id h).1;rw[this] at hk0;simp at hk0
  have hntk:id∉tk:=fun h=>by
   obtain⟨h1,_,_⟩:=ctk id h;cases hg:getH hpc id with
   |none=>rw[hg] at h1;exact absurd h1 (by simp[zlP])
   |some x=>
    rw[hg] at h1;cases x with
    |tok n k=>
     have:=hk0.2.2;rw[show tokf s.hp id=some (n,k) from zak.2 (hsub _ _ hg)] at this;cases this
    |_=>exact absurd h1 (by simp[zlP])
  show(G2.loc id).head?=l.head?/\(getH (hp1++s.hp) id).isSome/\tokf (hp1++s.hp) id=none
  by_cases hk:id∈keys
  ·refine⟨?_,by rw[hget id hk];exact hkeys id hk,ht0 id hk hncr⟩;rw[hl1 id hk];rcases hkey id hk with ⟨_,h⟩|⟨_,h⟩
   ·exact h.trans hk0.1
   ·exact absurd h hncr
  ·exact⟨(xam List.head? (hl2 id hk)).trans hk0.1,by rw[hgetn' id hk hntk];exact hk0.2.1,by
    have:=hk0.2.2;unfold tokf at this ⊢;rw[hgetn' id hk hntk];exact this⟩
 ·exact hm2 (fun j hj=>zdx c4 j hj) hret.res
end
section
variable {c:Ctx}{all:Array Oper}{chk:List Rec->Prop}{os:List Oper}{recs:List Rec}{env:Env}{hp:Hp}{Q:St->Prop}
variable {d ty:Nat}{pos:String}{af:Array Edge}{g:Option (Nat×Bool)}{pg:List (Nat×AV)}
theorem xbp {f:FuncId}{args:Array Operand}{ats:Array TypeId}{xs:List Operand}{vs avs:List AV}{hpc hp0:Hp}{r:AV} (tk cr:List Nat) (hc:Callee c.P f) (hf:FnD c.P f avs hpc r hp0)
  (hargs:args=xs.toArray) (hg:GH all env g pg) (hd:Nat.blt d c.n=true) (hx:opdL env xs=some vs) (hle:LeL vs avs) (hsub:subH hpc hp) (hok:zil hpc hp0 r tk cr=true)
  (hcr:(cr.all fun i=>zfx env hp i)=true)
  (hn:Walk c all chk os (zam (pg++opFL xs vs) (hpF hpc) cr ⟨some (d,r),hp0⟩::recs) ⟨(d,r)::env,hp0++hp⟩ Q):
  Walk c all chk (⟨some d,.call ⟨.value (.func f),args,ats⟩,ty,pos,af,g⟩::os) recs ⟨env,hp⟩ Q:=by
 subst hargs;refine⟨pg++opFL xs vs,hpF hpc,cr,_, ?_,zat hg.facts (zb9 hx),zeo hsub,fun id hi=>zdM (List.all_eq_true.1 hcr id hi),hn⟩;intro s a w hrel hp' hh hcr' K Q' hK;obtain⟨G,hr⟩:=hrel;have hrl:=zcJ hr (zca hx (fun p hm=>hp' p (by simp[hm])));have hle':∀ {l m:List AV},LeL l m->∀i (h1:i<l.length) (h2:i<m.length),LeA l[i] m[i]:=by
  intro l;induction l with
  |nil=>intro m _ i h1;simp at h1
  |cons x r ih=>
   intro m h i h1 h2;cases h with
   |cons h t=>
    cases i with
    |zero=>exact h
    |succ i=>exact ih t i (by simpa using h1) (by simpa using h2)
 have hall:AllR G (tokf s.hp) w avs (xs.map a.eval).toArray:=by
  refine⟨by simp[<-hle.len,hrl.1],fun i hi hv=>?_⟩;have h1:i<vs.length:=by rw[hle.len];exact hi
  have:=(hrl.2 i h1 (by rw[<-hrl.1];exact h1)).le (hle' hle i h1 hi);simpa using this
 have hcalls:=zji hr hf hall (fun id x hx=>hh (id,x) (zfl (zch hx))) tk cr hcr' hok;unfold wpO;rw[if_pos (hg.gf.wanted hr (fun p hm=>hp' p (by simp[hm])))];unfold Oper.wp;have hrun:(execOp a.eval ⟨some d,.call ⟨.value (.func f),xs.toArray,ats⟩,ty,pos,af,g⟩).run c.P w = .ok (.enter f (xs.map a.eval).toArray) w:=by
  have:=hc.run (xs.map a.eval).toArray w;simp only[execOp,resolve,Sem.run_bind,Act.eval,Deferred.ofValue,Sem.run_pure,Result.andThen_ok,invoke];simpa using this
 rw[hrun,Oper.upon_enter];refine hcalls.mono ?_;rintro e w' ⟨v,rfl,G',hR,hA⟩
 exact hK _ _ ⟨G',hR.put hA hd⟩
end
section
variable {c:Ctx}{env:Env}{hp:Hp}{K:Kt}{code:Code}{ids:List Nat}
theorem xaE (b off i j:Nat){n k:Nat}{xs:List (List D)}{cs:List AV} (hb:getH hp b=some (.box cs)) (hc:cs[off]?=some (.gv i xs)) (hi:getH hp i=some (.tok n k)) (hf:zfx env hp j=true)
  (hn:CWp c code ⟨env,(b,some (.box (cs.set off (.gv j xs))))::(j,some (.tok n k))::(i,none)::hp⟩ K):CWp c code ⟨env,hp⟩ K:=by
 rintro a w ⟨G,hr⟩
 obtain⟨h0,hocc⟩:=zdM hf;have h0':getH hp j=none:=h0;have hbi:b≠i:=fun e=>by subst e;rw[hb] at hi;cases hi
 have hbj:b≠j:=fun e=>by subst e;rw[h0'] at hb;cases hb
 have hji:j≠i:=fun e=>by subst e;rw[h0'] at hi;cases hi
 have Ti:tokf hp i=some (n,k):=zak.2 hi;let hp':Hp:=(b,some (.box (cs.set off (.gv j xs))))::(j,some (.tok n k))::(i,none)::hp
 let G':Gh:={ G with loc:=fun x=>bif Nat.beq x j then G.loc i else G.loc x }
 have lj:G'.loc j=G.loc i:=by simp[G']
 have lo:∀x,x≠j->G'.loc x=G.loc x:=fun x h=>by simp[G',zed h]
 have gb:getH hp' b=some (.box (cs.set off (.gv j xs))):=by simp[hp',zaa]
 have gj:getH hp' j=some (.tok n k):=by
  show getH ((b,_)::(j,some (.tok n k))::(i,none)::hp) j=_
  rw[zaa,if_neg (Ne.symm hbj),zaa,if_pos rfl]
 have gi:getH hp' i=none:=by
  show getH ((b,_)::(j,some (.tok n k))::(i,none)::hp) i=_
  rw[zaa,if_neg (Ne.symm hbi),zaa,if_neg (Ne.symm hji),zaa,if_pos rfl]
 have Tj:tokf hp' j=some (n,k):=zak.2 gj;have Ti':tokf hp' i=none:=by unfold tokf;rw[gi]
 have Tb:tokf hp' b=none:=by unfold tokf;rw[gb]
 have sb:(getH hp b).isSome:=by rw[hb];rfl
 have si:(getH hp i).isSome:=by rw[hi];rfl
 have hturn:Turn c G ⟨env,hp⟩ w G' hp' [b,i,j]:=by
  refine⟨fun x hx=>?_,fun x hx=>?_,fun _ _=>rfl,fun _ _ h=>h,hr.top,fun x hx=>?_,fun x hx hs y hy=>?_,fun x hx y hy hxy h1 h2 z hz=>?_,fun x hx l hl=>?_⟩
  ·simp only[List.mem_cons,xau,or_false,not_or] at hx;show getH ((b,_)::(j,some (.tok n k))::(i,none)::hp) x=_
   rw[zaa,if_neg hx.1,zaa,if_neg hx.2.2,zaa,if_neg hx.2.1]
  ·simp only[List.mem_cons,xau,or_false,not_or] at hx;exact lo x hx.2.2
  ·simp only[List.mem_cons,xau,or_false] at hx;rcases hx with rfl|rfl|rfl
   ·exact .inr ⟨.inl (lo _ hbj),fun p hp=>by rw[Tb] at hp;cases hp⟩
   ·exact .inr ⟨.inl (lo _ (Ne.symm hji)),fun p hp=>by rw[Ti'] at hp;cases hp⟩
   ·exact .inl hocc
  ·simp only[List.mem_cons,xau,or_false] at hx;rcases hx with rfl|rfl|rfl
   ·exact⟨x,by simp,sb,by rw[lo _ hbj] at hy;exact hy⟩
   ·rw[gi] at hs;cases hs
   ·exact⟨i,by simp,si,by rw[lj] at hy;exact hy⟩
  ·simp only[List.mem_cons,xau,or_false] at hx hy;rcases hx with rfl|rfl|rfl
   ·rcases hy with rfl|rfl|rfl
    ·exact absurd I hxy
    ·rw[gi] at h2;cases h2
    ·rw[lo _ hbj] at hz;rw[lj];exact hr.disj _ _ sb si hbi z hz
   ·rw[gi] at h1;cases h1
   ·rcases hy with rfl|rfl|rfl
    ·rw[lj] at hz;rw[lo _ hbj];exact hr.disj _ _ si sb (Ne.symm hbi) z hz
    ·rw[gi] at h2;cases h2
    ·exact absurd I hxy
  ·simp only[List.mem_cons,xau,or_false] at hx;have hk:=hr.kept x l hl;rcases hx with rfl|rfl|rfl
   ·exact⟨by rw[lo _ hbj];exact hk.1,by rw[gb];rfl,Tb⟩
   ·have:=hk.2.2;rw[show tokf (St.mk env hp).hp x=some (n,k) from Ti] at this;cases this
   ·have:=hk.2.1;rw[show(St.mk env hp).hp=hp from rfl,h0'] at this;cases this
 obtain⟨bl,vs,e,e1,e2,e3,e4,e5⟩:=hr.heap b _ hb;refine hn a w ⟨G',hturn.fin hr (fun x hx r hxr=>?_)⟩;simp only[List.mem_cons,xau,or_false] at hx;rcases hx with rfl|rfl|rfl
 ·rw[gb] at hxr;cases hxr
  refine⟨bl,vs,e,(lo _ hbj).trans e1,e2,by rw[List.length_set];exact e3,e4,fun q hq hv=>?_⟩;have hq':q<cs.length:=by rw[List.length_set] at hq;exact hq
  rw[List.getElem_set];by_cases eo:off=q
  ·subst eo;rw[if_pos rfl];have hx:=e5 off hq' hv;rw[xan hq'] at hc;rw[Option.some.inj hc] at hx;exact hx.gv_move Ti I lj Tj
  ·rw[if_neg eo];exact hturn.cell hr hb (xao hq') (e5 q hq' hv)
 ·rw[gi] at hxr;cases hxr
 ·rw[gj] at hxr;cases hxr;intro y hy;rw[lj] at hy;exact hr.heap i _ hi y hy
end
section
variable {c:Ctx}{env:Env}{hp:Hp}{K:Kt}{code:Code}{ids:List Nat}
theorem xaD (b off id k:Nat){cs cs':List AV} (hb:getH hp b=some (.box cs)) (h:cs[off]?=some .nils) (hput:putC cs off [.gv id []]=some cs') (hf:zfx env hp id=true)
  (hn:CWp c code ⟨env,(b,some (.box cs'))::(id,some (.tok 0 k))::hp⟩ K):CWp c code ⟨env,hp⟩ K:=by
 intro a w hrel;obtain⟨G,hr⟩:=hrel;obtain⟨h0,hocc⟩:=zdM hf;obtain⟨G',h1,h2⟩:=hr.mkTokV k h0 hocc;have hne:b≠id:=fun e=>by subst e;have h0':getH hp b=none:=h0;rw[h0'] at hb;cases hb
 have hb':getH ((id,some (Res.tok 0 k))::hp) b=some (.box cs):=by rw[zaa,if_neg hne];exact hb
 obtain⟨bl,vs,e,e1,e2,e3,e4,e5⟩:=h1.heap b _ hb';obtain⟨hlt,hv⟩:=List.getElem?_eq_some_iff.1 h;have hlv:off<vs.size:=by omega
 have hval:vs[off] = .slice none 0 0:=by
  have:=e5 off hlt hlv;rw[hv] at this;generalize vs[off]=v at *;cases this;rfl
 have hall:PreR G' (tokf ((id,some (.tok 0 k))::hp)) w cs' vs:=by
  obtain⟨p1,p2,p3⟩:=zcn hput;refine⟨by omega,fun i hi hvi=>?_⟩;have:=p3 i;rw[xan hi] at this;by_cases hio:i=off
  ·subst hio;rw[if_pos og] at this;simp only[Nat.sub_self,List.getElem?_cons_zero,xae] at this;rw[this,hval];exact h2
  ·rw[if_neg (by simp only[xab,xak];omega)] at this;have hic:i<cs.length:=by omega
   rw[xan hic] at this;rw[Option.some.inj this];exact e5 i hic hvi
 have:=h1.setBox (vs':=vs) hb' e1 e2 e4 hall;have hw:w.setRow bl vs=w:=setRow_self w bl vs e _ e2;rw[hw] at this;exact hn a w ⟨G',this⟩
theorem CWp.fixVC (b off id k:Nat){n:Nat}{xs:List (List D)}{cs:List AV} (hb:getH hp b=some (.box cs)) (hc:cs[off]?=some (.gv id xs)) (ht:getH hp id=some (.tok n k)) (hn:n=xs.length) (hx0:xs≠[])
  (hnx:CWp c code ⟨env,(b,some (.box (cs.set off (.ms id xs.length))))::(id,some (.box (xs.flatten.map .d)))::hp⟩ K):CWp c code ⟨env,hp⟩ K:=by
 rintro a w ⟨G,hr⟩
 subst hn;have hne:b≠id:=fun e=>by subst e;rw[hb] at ht;cases ht
 obtain⟨bl,vs,e,e1,e2,e3,e4,e5⟩:=hr.heap b _ hb;obtain⟨hlt,hcv⟩:=List.getElem?_eq_some_iff.1 hc;have hlv:off<vs.size:=by omega
 have h0:=e5 off hlt hlv;rw[hcv] at h0;obtain⟨hv0,hcl⟩:=h0.gv_inv;obtain⟨hkx,htip⟩:=(hcl _ _ (zak.2 ht)).2 rfl;rcases htip with ⟨_,h2,_⟩|⟨b1,cap,us,et,h1,h2,h3,h4,h5,h6,h7⟩
 ·exact absurd (List.eq_nil_of_length_eq_zero h2) hx0
 have s1:(getH hp b).isSome:=by rw[hb];rfl
 have s2:(getH hp id).isSome:=by rw[ht];rfl
 let cs':List AV:=cs.set off (.ms id xs.length)
 let bx:List AV:=xs.flatten.map .d
 have g1:getH ((b,some (Res.box cs'))::(id,some (.box bx))::hp) b=some (.box cs'):=by rw[zaa,if_pos rfl]
 have g2:getH ((b,some (Res.box cs'))::(id,some (.box bx))::hp) id=some (.box bx):=by rw[zaa,if_neg (Ne.symm hne),zaa,if_pos rfl]
 have t1:tokf ((b,some (Res.box cs'))::(id,some (.box bx))::hp) b=none:=by unfold tokf;rw[g1]
 have t2:tokf ((b,some (Res.box cs'))::(id,some (.box bx))::hp) id=none:=by unfold tokf;rw[g2]
 have hturn:Turn c G ⟨env,hp⟩ w G ((b,some (.box cs'))::(id,some (.box bx))::hp) [b,id]:=by
  refine⟨fun i hi=>?_,fun _ _=>rfl,fun _ _=>rfl,fun _ _ h=>h,hr.top,fun i hi=> .inr ⟨.inl rfl, ?_⟩,fun i hi _ x hx=>?_,fun i hi j hj hij _ _ x hx=>?_,fun i hi l hl=>?_⟩
  ·simp only[List.mem_cons,xau,or_false,not_or] at hi;rw[zaa,if_neg hi.1,zaa,if_neg hi.2]
  ·simp only[List.mem_cons,xau,or_false] at hi;rcases hi with rfl|rfl
   ·intro p hp;rw[t1] at hp;cases hp
   ·intro p hp;rw[t2] at hp;cases hp
  ·simp only[List.mem_cons,xau,or_false] at hi;rcases hi with rfl|rfl
   ·exact⟨i,by simp,s1,hx⟩
   ·exact⟨i,by simp,s2,hx⟩
  ·simp only[List.mem_cons,xau,or_false] at hi hj;rcases hi with rfl|rfl<;>rcases hj with rfl|rfl
   ·exact absurd I hij
   ·exact hr.disj _ _ s1 s2 hij x hx
   ·exact hr.disj _ _ s2 s1 hij x hx
   ·exact absurd I hij
  ·simp only[List.mem_cons,xau,or_false] at hi;have hk0:=hr.kept i l hl;rcases hi with rfl|rfl
   ·exact⟨hk0.1,by rw[g1];rfl,t1⟩
   ·have:=hk0.2.2;rw[show(⟨env,hp⟩:St).hp=hp from rfl,zak.2 ht] at this;cases this
 refine hnx a w ⟨G,hturn.fin hr (fun i hi r hri=>?_)⟩;simp only[List.mem_cons,xau,or_false] at hi;rcases hi with rfl|rfl
 ·rw[g1] at hri;cases hri
  refine⟨bl,vs,e,e1,e2,by show(cs.set off _).length<=_;rw[List.length_set];exact e3,e4,fun q hq hv=>?_⟩;have hq':q<cs.length:=by have:q<(cs.set off (AV.ms id xs.length)).length:=hq;rw[List.length_set] at this;exact this
  show RelA G _ w ((cs.set off (AV.ms id xs.length))[q]'_) _
  rw[List.getElem_set];by_cases eo:off=q
  ·subst eo;rw[if_pos rfl,h2];exact .ms (zgZ h1) t2 h6
  ·rw[if_neg eo];exact hturn.cell hr hb (xao hq') (e5 q hq' hv)
 ·rw[g2] at hri;cases hri
  have hmul:xs.length*k+(cap-xs.length)*k=cap*k:=by rw[<-Nat.add_mul];congr 1;omega
  refine⟨b1,us,et,h1,h4, ?_,h3,fun j hj hv=>?_⟩
  ·show bx.length<=_
   rw[xac,zfw hkx];omega
  ·have hi':j<xs.length*k:=by rw[<-zfw hkx,<-xac (f:=AV.d)];exact hj
   have hlt':j<(xs.flatten.map AV.d).length:=hj;show RelA G _ w ((xs.flatten.map AV.d)[j]'_) _
   have hkpos:0<k:=by
    rcases Nat.eq_zero_or_pos k with h|h
    ·subst h;simp at hi'
    ·exact h
   have hq:j / k<xs.length:=Nat.div_lt_of_lt_mul (by rw[Nat.mul_comm];exact hi');have hrm:j % k<k:=Nat.mod_lt _ hkpos;have e1:=zhA hkx hq hrm;rw[Nat.div_add_mod'] at e1;rw[xan hlt'] at e1;rw[Option.some.inj e1];have h8:=h7 (j / k) hq (j % k) (by rw[hkx _ (xao hq)];exact hrm);rw[Nat.div_add_mod'] at h8;have e2:us.getD j undef=us[j]:=by simp[Array.getD,hv]
   rw[e2] at h8;exact .d h8
theorem CWp.dropVB (b off id k:Nat){n:Nat}{xs:List (List D)}{cs:List AV} (hb:getH hp b=some (.box cs)) (hc:cs[off]?=some (.gv id xs)) (ht:getH hp id=some (.tok n k)) (hn:n=xs.length) (hx0:xs=[])
  (hnx:CWp c code ⟨env,(b,some (.box (cs.set off (.d (.sl [])))))::(id,none)::hp⟩ K):CWp c code ⟨env,hp⟩ K:=by
 rintro a w ⟨G,hr⟩
 subst hn;have hne:b≠id:=fun e=>by subst e;rw[hb] at ht;cases ht
 obtain⟨bl,vs,e,e1,e2,e3,e4,e5⟩:=hr.heap b _ hb;obtain⟨hlt,hcv⟩:=List.getElem?_eq_some_iff.1 hc;have hlv:off<vs.size:=by omega
 have h0:=e5 off hlt hlv;rw[hcv] at h0;obtain⟨hv0,hcl⟩:=h0.gv_inv;obtain⟨hkx,htip⟩:=(hcl _ _ (zak.2 ht)).2 rfl;have hval:RelD G.F w (.sl []) vs[off]:=by
  rcases htip with ⟨_,_,h2⟩|⟨b1,cap,us,et,h1,h2,h3,h4,h5,h6,h7⟩
  ·rw[h2];exact .nil
  ·rw[h2,hx0];exact .sl [] 0 b1 0 cap (fun _=>undef) og (Nat.zero_le _) og og
 have s1:(getH hp b).isSome:=by rw[hb];rfl
 have s2:(getH hp id).isSome:=by rw[ht];rfl
 let cs':List AV:=cs.set off (.d (.sl []))
 have g1:getH ((b,some (Res.box cs'))::(id,none)::hp) b=some (.box cs'):=by rw[zaa,if_pos rfl]
 have g2:getH ((b,some (Res.box cs'))::(id,none)::hp) id=none:=by rw[zaa,if_neg (Ne.symm hne),zaa,if_pos rfl]
 have t1:tokf ((b,some (Res.box cs'))::(id,none)::hp) b=none:=by unfold tokf;rw[g1]
 have t2:tokf ((b,some (Res.box cs'))::(id,none)::hp) id=none:=by unfold tokf;rw[g2]
 have hturn:Turn c G ⟨env,hp⟩ w G ((b,some (.box cs'))::(id,none)::hp) [b,id]:=by
  refine⟨fun i hi=>?_,fun _ _=>rfl,fun _ _=>rfl,fun _ _ h=>h,hr.top,fun i hi=> .inr ⟨.inl rfl, ?_⟩,fun i hi _ x hx=>?_,fun i hi j hj hij _ _ x hx=>?_,fun i hi l hl=>?_⟩
  ·simp only[List.mem_cons,xau,or_false,not_or] at hi;rw[zaa,if_neg hi.1,zaa,if_neg hi.2]
  ·simp only[List.mem_cons,xau,or_false] at hi;rcases hi with rfl|rfl
   ·intro p hp;rw[t1] at hp;cases hp
   ·intro p hp;rw[t2] at hp;cases hp
  ·simp only[List.mem_cons,xau,or_false] at hi;rcases hi with rfl|rfl
   ·exact⟨i,by simp,s1,hx⟩
   ·exact⟨i,by simp,s2,hx⟩
  ·simp only[List.mem_cons,xau,or_false] at hi hj;rcases hi with rfl|rfl<;>rcases hj with rfl|rfl
   ·exact absurd I hij
   ·exact hr.disj _ _ s1 s2 hij x hx
   ·exact hr.disj _ _ s2 s1 hij x hx
   ·exact absurd I hij
  ·simp only[List.mem_cons,xau,or_false] at hi;have hk0:=hr.kept i l hl;rcases hi with rfl|rfl
   ·exact⟨hk0.1,by rw[g1];rfl,t1⟩
   ·have:=hk0.2.2;rw[show(⟨env,hp⟩:St).hp=hp from rfl,zak.2 ht] at this;cases this
 refine hnx a w ⟨G,hturn.fin hr (fun i hi r hri=>?_)⟩;simp only[List.mem_cons,xau,or_false] at hi;rcases hi with rfl|rfl
 ·rw[g1] at hri;cases hri
  refine⟨bl,vs,e,e1,e2,by show(cs.set off _).length<=_;rw[List.length_set];exact e3,e4,fun q hq hv=>?_⟩;have hq':q<cs.length:=by have:q<(cs.set off (AV.d (.sl []))).length:=hq;rw[List.length_set] at this;exact this
  show RelA G _ w ((cs.set off (AV.d (.sl [])))[q]'_) _
  rw[List.getElem_set];by_cases eo:off=q
  ·subst eo;rw[if_pos rfl];exact .d hval
  ·rw[if_neg eo];exact hturn.cell hr hb (xao hq') (e5 q hq' hv)
 ·rw[g2] at hri;cases hri
end
structure Ext2 (P:Program) (f:FuncId) (x y v:D):Prop where
 run:∀(F:Nat->Nat) (w:World) (a b:Value),RelD F w x a->RelD F w y b->∃z,(callFunc f #[a,b]).run P w = .ok (.value z) w/\RelD F w v z
theorem Ext2.index {P:Program}{f:FuncId}{fn:Func} (hf:P.funcs[f]?=some fn) (hname:(fn.name == "runtime.NumGoroutine")=false)
  (hb:fn.body.isNone=true) (hn:Extern.findNext fn=none) (he:Extern.find fn=some Extern.BytealgIndexByte.indexByte){s:List UInt8}{b:UInt8}:
  Ext2 P f (.str s) (.int .u8 (b.toNat:Int)) (.i (Lib.indexByte s b)):=⟨fun F w x y h1 h2=>by
 cases h1;cases h2
 refine⟨_, ?_,.int _ _⟩;rw[run_callFunc_extern hf hname hb hn he,Lib.run_indexByteString];simp only[Result.andThen,Int.toNat_natCast];rw[show b.toNat.toUInt8=b from UInt8.ofNat_toNat]⟩
theorem Ext2.count {P:Program}{f:FuncId}{fn:Func} (hf:P.funcs[f]?=some fn) (hname:(fn.name == "runtime.NumGoroutine")=false)
  (hb:fn.body.isNone=true) (hn:Extern.findNext fn=none) (he:Extern.find fn=some Extern.BytealgCount.count){s:List UInt8}{b:UInt8}:
  Ext2 P f (.str s) (.int .u8 (b.toNat:Int)) (.i ((Lib.countByte s b:Nat):Int)):=⟨fun F w x y h1 h2=>by
 cases h1;cases h2
 refine⟨_, ?_,.int _ _⟩;rw[run_callFunc_extern hf hname hb hn he,Lib.run_countString];simp only[Result.andThen,Int.toNat_natCast];rw[show b.toNat.toUInt8=b from UInt8.ofNat_toNat]⟩
section
variable {c:Ctx}{all:Array Oper}{chk:List Rec->Prop}{os:List Oper}{recs:List Rec}{env:Env}{hp:Hp}{Q:St->Prop}
variable {d ty:Nat}{pos:String}{af:Array Edge}{g:Option (Nat×Bool)}{pg:List (Nat×AV)}
theorem xbr {f:FuncId}{args:Array Operand}{ats:Array TypeId}{x:Operand}{xs:List Operand}{caps vs avs:List AV}{hpc hp0:Hp}{r:AV} (tk cr:List Nat) (hc:Callee c.P f) (hf:FnD c.P f avs hpc r hp0)
  (hargs:args=xs.toArray) (hg:GH all env g pg) (hd:Nat.blt d c.n=true) (hfx:opd env x=some (.fn f caps)) (hx:opdL env xs=some vs) (hle:LeL (vs++caps) avs) (hsub:subH hpc hp) (hok:zil hpc hp0 r tk cr=true)
  (hcr:(cr.all fun i=>zfx env hp i)=true)
  (hn:Walk c all chk os (zam (pg++(opF x (.fn f caps)++opFL xs vs)) (hpF hpc) cr ⟨some (d,r),hp0⟩::recs) ⟨(d,r)::env,hp0++hp⟩ Q):
  Walk c all chk (⟨some d,.call ⟨.value x,args,ats⟩,ty,pos,af,g⟩::os) recs ⟨env,hp⟩ Q:=by
 subst hargs;refine⟨pg++(opF x (.fn f caps)++opFL xs vs),hpF hpc,cr,_, ?_,zat hg.facts (zat (zaU hfx) (zb9 hx)),zeo hsub,fun id hi=>zdM (List.all_eq_true.1 hcr id hi),hn⟩;intro s a w hrel hp' hh hcr' K Q' hK;obtain⟨G,hr⟩:=hrel;have hfr:=hr.opd (zaX hfx (fun p hm=>hp' p (by simp[hm])));obtain⟨us,hfe,hus,hur⟩:=hfr.fn_eq;have hrl:=zcJ hr (zca hx (fun p hm=>hp' p (by simp[hm])));have hall:AllR G (tokf s.hp) w avs ((xs.map a.eval).toArray++us):=by
  have hlen:=hle.len;simp only[xaa] at hlen;refine⟨by simp[<-hlen,hrl.1,hus],fun i hi hv=>?_⟩;have h1:i<(vs++caps).length:=by rw[hle.len];exact hi
  have hA:=LeL.get hle i h1 hi;by_cases hiv:i<vs.length
  ·have h2:=hrl.2 i hiv (by rw[<-hrl.1];exact hiv);have e1:(vs++caps)[i]=vs[i]:=List.getElem_append_left hiv;rw[e1] at hA;have e2:((xs.map a.eval).toArray++us)[i]=a.eval (xs[i]'(by rw[<-hrl.1];exact hiv)):=by
    rw[Array.getElem_append_left (by simp;rw[<-hrl.1];exact hiv)];simp
   rw[e2];exact h2.le hA
  ·have hic:i-vs.length<caps.length:=by simp only[xaa] at h1;omega
   have e1:(vs++caps)[i]=caps[i-vs.length]:=List.getElem_append_right od;rw[e1] at hA;have e2:((xs.map a.eval).toArray++us)[i]=us[i-vs.length]' od:=by
    rw[Array.getElem_append_right oq];simp[hrl.1]
   rw[e2];exact(hur _ hic od).le hA
 have hcalls:=zji hr hf hall (fun id x hx=>hh (id,x) (zfl (zch hx))) tk cr hcr' hok;unfold wpO;rw[if_pos (hg.gf.wanted hr (fun p hm=>hp' p (by simp[hm])))];unfold Oper.wp;have hrun:(execOp a.eval ⟨some d,.call ⟨.value x,xs.toArray,ats⟩,ty,pos,af,g⟩).run c.P w = .ok (.enter f ((xs.map a.eval).toArray++us)) w:=by
  have:=hc.run ((xs.map a.eval).toArray++us) w;simp only[execOp,resolve,Sem.run_bind,hfe,Deferred.ofValue,Sem.run_pure,Result.andThen_ok,invoke];simpa using this
 rw[hrun,Oper.upon_enter];refine hcalls.mono ?_;rintro e w' ⟨v,rfl,G',hR,hA⟩
 exact hK _ _ ⟨G',hR.put hA hd⟩
end
theorem zqm (n m:Nat):¬zaH n+1=zaH m:=by unfold zaH;omega
theorem zpi {n m:Nat} (h:zaH n=zaH m):n=m:=by unfold zaH at h;omega
section
variable {c:Ctx}{env:Env}{hp:Hp}{K:Kt}{code:Code}{ids:List Nat}
theorem R.tokMoveN {G:Gh}{a:Act}{w:World} (hr:R c G ⟨env,hp⟩ a w){i j n k:Nat} (n2 k2:Nat) (hi:getH hp i=some (.tok n k)) (h0:getH hp j=none) (hocc:zcx j ⟨env,hp⟩):
  ∃G',R c G' ⟨env,(j,some (.tok n2 k2))::(i,none)::hp⟩ a w/\G'.F=G.F/\G'.loc j=G.loc i/\∀x,x≠j->G'.loc x=G.loc x:=by
 have hji:j≠i:=fun e=>by subst e;rw[h0] at hi;cases hi
 have Ti:tokf hp i=some (n,k):=zak.2 hi;let hp':Hp:=(j,some (.tok n2 k2))::(i,none)::hp
 let G':Gh:={ G with loc:=fun x=>bif Nat.beq x j then G.loc i else G.loc x }
 have lj:G'.loc j=G.loc i:=by simp[G']
 have lo:∀x,x≠j->G'.loc x=G.loc x:=fun x h=>by simp[G',zed h]
 have gj:getH hp' j=some (.tok n2 k2):=by
  show getH ((j,some (.tok n2 k2))::(i,none)::hp) j=_
  rw[zaa,if_pos rfl]
 have gi:getH hp' i=none:=by
  show getH ((j,some (.tok n2 k2))::(i,none)::hp) i=_
  rw[zaa,if_neg (Ne.symm hji),zaa,if_pos rfl]
 have Ti':tokf hp' i=none:=by unfold tokf;rw[gi]
 have si:(getH hp i).isSome:=by rw[hi];rfl
 have hturn:Turn c G ⟨env,hp⟩ w G' hp' [i,j]:=by
  refine⟨fun x hx=>?_,fun x hx=>?_,fun _ _=>rfl,fun _ _ h=>h,hr.top,fun x hx=>?_,fun x hx hs y hy=>?_,fun x hx y hy hxy h1 h2 z hz=>?_,fun x hx l hl=>?_⟩
  ·simp only[List.mem_cons,xau,or_false,not_or] at hx;show getH ((j,_)::(i,none)::hp) x=_
   rw[zaa,if_neg hx.2,zaa,if_neg hx.1]
  ·simp only[List.mem_cons,xau,or_false,not_or] at hx;exact lo x hx.2
  ·simp only[List.mem_cons,xau,or_false] at hx;rcases hx with rfl|rfl
   ·exact .inr ⟨.inl (lo _ (Ne.symm hji)),fun p hp=>by rw[Ti'] at hp;cases hp⟩
   ·exact .inl hocc
  ·simp only[List.mem_cons,xau,or_false] at hx;rcases hx with rfl|rfl
   ·rw[gi] at hs;cases hs
   ·exact⟨i,by simp,si,by rw[lj] at hy;exact hy⟩
  ·simp only[List.mem_cons,xau,or_false] at hx hy;rcases hx with rfl|rfl
   ·rw[gi] at h1;cases h1
   ·rcases hy with rfl|rfl
    ·rw[gi] at h2;cases h2
    ·exact absurd I hxy
  ·simp only[List.mem_cons,xau,or_false] at hx;have hk:=hr.kept x l hl;rcases hx with rfl|rfl
   ·have:=hk.2.2;rw[show tokf (St.mk env hp).hp x=some (n,k) from Ti] at this;cases this
   ·have:=hk.2.1;rw[show(St.mk env hp).hp=hp from rfl,h0] at this;cases this
 refine⟨G',hturn.fin hr (fun x hx r hxr=>?_),rfl,lj,lo⟩;simp only[List.mem_cons,xau,or_false] at hx;rcases hx with rfl|rfl
 ·rw[gi] at hxr;cases hxr
 ·rw[gj] at hxr;cases hxr;intro y hy;rw[lj] at hy;exact hr.heap i _ hi y hy
theorem RelA.gh_hole {G:Gh}{T:TokF}{w:World}{id k m:Nat}{xs:List (List D)}{v:Value} (h:RelA G T w (.gh id xs) v) (hT:T id=some (m,k)) (he:m=zaH xs.length\/m=zaH xs.length+1):Hole G w id k v xs:=by
 cases h with|gh hv h=>exact h m k hT he
theorem RelA.gp_at {G:Gh}{T:TokF}{w:World}{id k n off len:Nat}{js:List Nat}{cs:List AV}{v:Value} (h:RelA G T w (.gp id n off len js cs) v) (hT:T id=some (n,k)):
  ∃b us e,v = .pointer (some ⟨b,off,none⟩)/\(G.loc id).head?=some b/\G.F b=0/\w.heap[b]?=some (.cells us e (0,0))/\off+len<=us.size/\∀i (hi:i<cs.length) (hv:off+i<us.size),RelA G T w cs[i] us[off+i]:=by
 cases h with
 |gpD hv hT'=>exact absurd (hT' n k hT) (Nat.lt_irrefl _)
 |gpL hj hT' hl hF hb hs hr=>exact⟨_,_,_,rfl,hl,hF,hb,hs,hr⟩
theorem zrE {G G':Gh}{T T':TokF}{w:World}{id id2 k m:Nat}{js:List Nat}{xs:List (List D)}{ys:List D}{v u:Value} (hk:ys.length=k) (h1:Hole G w id k v xs) (h2:RelA G T w (.gp id m (xs.length*k) k js (ys.map .d)) u) (hTi:T id=some (m,k)) (hF:G'.F=G.F) (hl:G'.loc id2=G.loc id) (hT:T' id2=some (xs.length+1,k)):
  RelA G' T' w (.gv id2 (xs++[ys])) v:=by
 obtain⟨hkx,b,cap,cs,e,p1,p2,p3,p4,p5,p6,p7⟩:=h1;obtain⟨b',us,e',_,q1,q4,q3,q5,q6⟩:=h2.gp_at hTi;rw[p1] at q1;cases q1;rw[p4] at q3;cases q3;refine .gv ⟨_,cap,by rw[p2,xaa];rfl⟩ (fun m k' hm=>?_);rw[hT] at hm;cases hm;refine⟨by simp,fun _=>⟨fun x hx=>?_,.inr ⟨b,cap,cs,e,hl.trans p1,p2,by rw[hF];exact p3,p4,p5,p6,fun i hi j hj=>?_⟩⟩⟩
 ·rcases List.mem_append.1 hx with h|h
  ·exact hkx x h
  ·rw[List.mem_singleton.1 h];exact hk
 ·rw[hF];by_cases hin:i<xs.length
  ·have e1:(xs++[ys])[i]=xs[i]:=List.getElem_append_left hin;have:=p7 i hin j (by rw[<-e1];exact hj);simp only[e1];exact this
  ·have ei:i=xs.length:=by simp at hi;omega
   subst ei;have e1:(xs++[ys])[xs.length]=ys:=by simp
   have hj':j<ys.length:=by rw[<-e1];exact hj
   have hlt:xs.length*k+j<cs.size:=by omega
   have:=(q6 j (by rw[xac];exact hj') hlt);rw[List.getElem_map] at this;simp only[e1];have e2:cs.getD (xs.length*k+j) undef=cs[xs.length*k+j]:=by simp[Array.getD,hlt]
   rw[e2];exact this.d_inv
theorem Rel.holeGv (b t0 off i j:Nat){a:Act}{w:World}{k:Nat}{js:List Nat}{xs:List (List D)} (ys:List D){cs:List AV} (hb:getH hp b=some (.box cs)) (hc:cs[off]?=some (.gh i xs)) (ht:getE env t0=some (.gp i (zaH xs.length+1) (xs.length*k) k js (ys.map .d))) (hk:ys.length=k)
  (hi:getH hp i=some (.tok (zaH xs.length+1) k)) (hf:zfx env hp j=true)
  (hrel:Rel c ⟨env,hp⟩ a w):Rel c ⟨env,(b,some (.box (cs.set off (.gv j (xs++[ys])))))::(j,some (.tok (xs.length+1) k))::(i,none)::hp⟩ a w:=by
 obtain⟨G,hr⟩:=hrel;obtain⟨h0,hocc⟩:=zdM hf;have h0':getH hp j=none:=h0;have hbi:b≠i:=fun e=>by subst e;rw[hb] at hi;cases hi
 have hbj:b≠j:=fun e=>by subst e;rw[h0'] at hb;cases hb
 have hji:j≠i:=fun e=>by subst e;rw[h0'] at hi;cases hi
 have Ti:tokf hp i=some (zaH xs.length+1,k):=zak.2 hi;let hp':Hp:=(b,some (.box (cs.set off (.gv j (xs++[ys])))))::(j,some (.tok (xs.length+1) k))::(i,none)::hp
 let G':Gh:={ G with loc:=fun x=>bif Nat.beq x j then G.loc i else G.loc x }
 have lj:G'.loc j=G.loc i:=by simp[G']
 have lo:∀x,x≠j->G'.loc x=G.loc x:=fun x h=>by simp[G',zed h]
 have gb:getH hp' b=some (.box (cs.set off (.gv j (xs++[ys])))):=by simp[hp',zaa]
 have gj:getH hp' j=some (.tok (xs.length+1) k):=by
  show getH ((b,_)::(j,some (.tok (xs.length+1) k))::(i,none)::hp) j=_
  rw[zaa,if_neg (Ne.symm hbj),zaa,if_pos rfl]
 have gi:getH hp' i=none:=by
  show getH ((b,_)::(j,some (.tok (xs.length+1) k))::(i,none)::hp) i=_
  rw[zaa,if_neg (Ne.symm hbi),zaa,if_neg (Ne.symm hji),zaa,if_pos rfl]
 have Tj:tokf hp' j=some (xs.length+1,k):=zak.2 gj;have Ti':tokf hp' i=none:=by unfold tokf;rw[gi]
 have Tb:tokf hp' b=none:=by unfold tokf;rw[gb]
 have sb:(getH hp b).isSome:=by rw[hb];rfl
 have si:(getH hp i).isSome:=by rw[hi];rfl
 have hturn:Turn c G ⟨env,hp⟩ w G' hp' [b,i,j]:=by
  refine⟨fun x hx=>?_,fun x hx=>?_,fun _ _=>rfl,fun _ _ h=>h,hr.top,fun x hx=>?_,fun x hx hs y hy=>?_,fun x hx y hy hxy h1 h2 z hz=>?_,fun x hx l hl=>?_⟩
  ·simp only[List.mem_cons,xau,or_false,not_or] at hx;show getH ((b,_)::(j,some (.tok (xs.length+1) k))::(i,none)::hp) x=_
   rw[zaa,if_neg hx.1,zaa,if_neg hx.2.2,zaa,if_neg hx.2.1]
  ·simp only[List.mem_cons,xau,or_false,not_or] at hx;exact lo x hx.2.2
  ·simp only[List.mem_cons,xau,or_false] at hx;rcases hx with rfl|rfl|rfl
   ·exact .inr ⟨.inl (lo _ hbj),fun p hp=>by rw[Tb] at hp;cases hp⟩
   ·exact .inr ⟨.inl (lo _ (Ne.symm hji)),fun p hp=>by rw[Ti'] at hp;cases hp⟩
   ·exact .inl hocc
  ·simp only[List.mem_cons,xau,or_false] at hx;rcases hx with rfl|rfl|rfl
   ·exact⟨x,by simp,sb,by rw[lo _ hbj] at hy;exact hy⟩
   ·rw[gi] at hs;cases hs
   ·exact⟨i,by simp,si,by rw[lj] at hy;exact hy⟩
  ·simp only[List.mem_cons,xau,or_false] at hx hy;rcases hx with rfl|rfl|rfl
   ·rcases hy with rfl|rfl|rfl
    ·exact absurd I hxy
    ·rw[gi] at h2;cases h2
    ·rw[lo _ hbj] at hz;rw[lj];exact hr.disj _ _ sb si hbi z hz
   ·rw[gi] at h1;cases h1
   ·rcases hy with rfl|rfl|rfl
    ·rw[lj] at hz;rw[lo _ hbj];exact hr.disj _ _ si sb (Ne.symm hbi) z hz
    ·rw[gi] at h2;cases h2
    ·exact absurd I hxy
  ·simp only[List.mem_cons,xau,or_false] at hx;have hk:=hr.kept x l hl;rcases hx with rfl|rfl|rfl
   ·exact⟨by rw[lo _ hbj];exact hk.1,by rw[gb];rfl,Tb⟩
   ·have:=hk.2.2;rw[show tokf (St.mk env hp).hp x=some (zaH xs.length+1,k) from Ti] at this;cases this
   ·have:=hk.2.1;rw[show(St.mk env hp).hp=hp from rfl,h0'] at this;cases this
 obtain⟨bl,vs,e,e1,e2,e3,e4,e5⟩:=hr.heap b _ hb;have hat:=hr.slots t0 _ ht;refine⟨G',hturn.fin hr (fun x hx r hxr=>?_)⟩;simp only[List.mem_cons,xau,or_false] at hx;rcases hx with rfl|rfl|rfl
 ·rw[gb] at hxr;cases hxr
  refine⟨bl,vs,e,(lo _ hbj).trans e1,e2,by rw[List.length_set];exact e3,e4,fun q hq hv=>?_⟩;have hq':q<cs.length:=by rw[List.length_set] at hq;exact hq
  rw[List.getElem_set];by_cases eo:off=q
  ·subst eo;rw[if_pos rfl];have hx:=e5 off hq' hv;rw[xan hq'] at hc;rw[Option.some.inj hc] at hx;exact zrE hk (hx.gh_hole Ti (.inr I)) hat Ti I lj Tj
  ·rw[if_neg eo];exact hturn.cell hr hb (xao hq') (e5 q hq' hv)
 ·rw[gi] at hxr;cases hxr
 ·rw[gj] at hxr;cases hxr;intro y hy;rw[lj] at hy;exact hr.heap i _ hi y hy
theorem CWp.thn {x:Code}{s:St} (h:CWp c x s (K.with fun s'=>∀a w,Rel c s' a w->∃s2,Rel c s2 a w/\K.n s2)):CWp c x s K:=by
 intro a w hr;refine wp_mono (h a w hr) ?_;intro e a' w' hq;cases e with
 |normal=>
  obtain⟨s',hr',hn⟩:=hq;exact hn a' w' hr'
 |exit id=>exact hq
 |ret=>exact hq
 |goto l=>exact hq.elim
 |panic ch=>exact hq.elim
 |outgrown=>exact hq.elim
end
section
variable {c:Ctx}{all:Array Oper}{chk:List Rec->Prop}{os:List Oper}{recs:List Rec}{env:Env}{hp:Hp}{Q:St->Prop}
variable {d ty:Nat}{pos:String}{af:Array Edge}{g:Option (Nat×Bool)}{pg:List (Nat×AV)}{t yt:TypeId}{x y:Operand}
theorem Walk.appendH {id k e yb:Nat}{xs:List (List D)}{z:List D}{vy:AV} (id2:Nat) (ht:SlT c.P t e k yb) (hz:ZeroT c.P e k) (hg:GH all env g pg) (hd:Nat.blt d c.n=true)
  (hx:opd env x=some (.gv id xs)) (hy:opd env y=some vy) (hyd:vy.toD=some (.sl [z])) (htok:getH hp id=some (.tok xs.length k)) (hkz:z.length=k)
  (hb:(xs.length+1)*yb<=140737488355328) (hm:xs.length+1<=9223372036854775807) (hfr:zax env hp [id2]=true) (hid2:Nat.beq id2 id=false)
  (hn:Walk c all chk os (zam (pg++(opF x (.gv id xs)++opF y vy)) [(id,.tok xs.length k)] [id2] ⟨some (d,.gh id2 xs),[(id2,some (.tok (zaH xs.length) k)),(id,none)]⟩::recs)
   ⟨(d,.gh id2 xs)::env,(id2,some (.tok (zaH xs.length) k))::(id,none)::hp⟩ Q):
  Walk c all chk (⟨some d,.call ⟨.builtin .append,#[x,y],#[t,t]⟩,ty,pos,af,g⟩::os) recs ⟨env,hp⟩ Q:=by
 refine⟨pg++(opF x (.gv id xs)++opF y vy),[(id,.tok xs.length k)],[id2],_, ?_,zat hg.facts (zat (zaU hx) (zaU hy)),hh1 htok,zbw hfr,hn⟩;intro s a w hrel hp' hh hcr K Q' hK;obtain⟨f0,focc⟩:=hcr id2 og;obtain⟨G,hr⟩:=hrel;have hne2:id2≠id:=fun e=>by subst e;simp at hid2
 have e1:=hr.opd (zaX hx (fun p hm=>hp' p (by simp[hm])));have e2:=hr.opd (zaX hy (fun p hm=>hp' p (by simp[hm])));obtain⟨i,z0,z1,z2,z3⟩:=hz.out;obtain⟨v',w',G',hrun,hR,hA⟩:=zhn hr ht ⟨i,z1,z2,z3⟩ (hh1' hh) e1 (e2.toD hyd) (by intro y hy;rw[List.mem_singleton.1 hy];exact hkz) (by simpa using hb) (by simpa using hm) ty;unfold wpO;rw[if_pos (hg.gf.wanted hr (fun p hm=>hp' p (by simp[hm])))];unfold Oper.wp;have:(execOp a.eval ⟨some d,.call ⟨.builtin .append,#[x,y],#[t,t]⟩,ty,pos,af,g⟩).run c.P w = .ok (.value v') w':=by
  simp only[execOp,resolve,invoke,builtin,Sem.run_bind,Sem.run_pure,Result.andThen_ok,List.map_toArray,xaf,List.map_nil,hrun]
 rw[this,Oper.upon_value];have hT:tokf ((id,some (Res.tok (xs.length+[z].length) k))::s.hp) id=some (xs.length+1,k):=zak.2 (by rw[zaa,if_pos rfl];rfl);obtain⟨⟨ad,cap0,hv0⟩,hcl⟩:=hA.gv_inv;obtain⟨hkx,htip⟩:=(hcl _ _ hT).2 og;obtain⟨G2,q1,q2,q3,_⟩:=hR.tokMoveN (j:=id2) (zaH xs.length) k o0 (by show getH ((id,_)::s.hp) id2=none;rw[zaa,if_neg hne2];exact f0) ⟨focc.1,fun j r hj=>by
  have hj':getH ((id,some (Res.tok (xs.length+[z].length) k))::s.hp) j=some r:=hj;rw[zaa] at hj';split at hj'
  ·cases hj';simp[Res.ids]
  ·exact focc.2 j r hj'⟩
 have hgh:RelA G2 (tokf ((id2,some (.tok (zaH xs.length) k))::(id,none)::(id,some (.tok (xs.length+[z].length) k))::s.hp)) w' (.gh id2 xs) v':=by
  refine .gh ⟨ad,cap0,by rw[hv0,xaa];rfl⟩ (fun m k' hm he=>?_);rw[show tokf ((id2,some (Res.tok (zaH xs.length) k))::(id,none)::(id,some (Res.tok (xs.length+[z].length) k))::s.hp) id2=some (zaH xs.length,k) from zak.2 o0] at hm;cases hm
  rcases htip with ⟨_,h2,_⟩|⟨b,cap,cs,et,h1,h2,h3,h4,h5,h6,h7⟩
  ·omega
  refine⟨fun x hx=>hkx x (by simp[hx]),b,cap,cs,et,q3.trans h1,h2,by rw[q2];exact h3,h4,h5,h6,fun i hi j hj=>?_⟩;have e1:(xs++[z])[i]' oq=xs[i]:=List.getElem_append_left hi;have:=h7 i oq j (by rw[e1];exact hj);simp only[e1] at this;rw[q2];exact this
 refine hK _ _ (Rel.congr ⟨G2,q1.put hgh hd⟩ (fun j=>rfl) (fun j=>?_));show getH ((id2,_)::(id,none)::s.hp) j=getH ((id2,_)::(id,none)::(id,_)::s.hp) j
 rw[zaa,zaa,zaa,zaa,zaa];by_cases h1:j=id2
 ·rw[if_pos h1,if_pos h1]
 ·rw[if_neg h1,if_neg h1];by_cases h2:j=id
  ·rw[if_pos h2,if_pos h2]
  ·rw[if_neg h2,if_neg h2,if_neg h2]
theorem Walk.idxH {id e k yb:Nat}{xs:List (List D)}{kd:IntKind}{n:Int} (ht:SlT c.P t e k yb) (hg:GH all env g pg) (hd:Nat.blt d c.n=true)
  (hx:opd env x=some (.gh id xs)) (hy:opd env y=some (.d (.int kd n))) (htok:getH hp id=some (.tok (zaH xs.length) k)) (hi:n = ↑xs.length)
  (hn:Walk c all chk os (zam (pg++(opF x (.gh id xs)++opF y (.d (.int kd n)))) [(id,.tok (zaH xs.length) k)] [] ⟨some (d,.gp id (zaH xs.length) (xs.length*k) k [] []),[]⟩::recs) ⟨(d,.gp id (zaH xs.length) (xs.length*k) k [] [])::env,hp⟩ Q):
  Walk c all chk (⟨some d,.indexAddr t x y,ty,pos,af,g⟩::os) recs ⟨env,hp⟩ Q:=by
 refine⟨pg++(opF x (.gh id xs)++opF y (.d (.int kd n))),[(id,.tok (zaH xs.length) k)],[],_, ?_,zat hg.facts (zat (zaU hx) (zaU hy)),hh1 htok,by simp,hn⟩;intro s a w hrel hp' hh _ K Q' hK;obtain⟨G,hr⟩:=hrel;have hT:tokf s.hp id=some (zaH xs.length,k):=zak.2 (hh1' hh);have e1:=hr.opd (zaX hx (fun p hm=>hp' p (by simp[hm])));have e2:=hr.opd (zaX hy (fun p hm=>hp' p (by simp[hm])));obtain⟨hkx,b,cap,cs,et,h1,h2,h3,h4,h5,h6,h7⟩:=e1.gh_hole hT (.inl rfl);unfold wpO;rw[if_pos (hg.gf.wanted hr (fun p hm=>hp' p (by simp[hm])))];unfold Oper.wp;have:(execOp a.eval ⟨some d,.indexAddr t x y,ty,pos,af,g⟩).run c.P w = .ok (.value (.pointer (some ⟨b,0+xs.length*k,none⟩))) w:=by
  simp only[execOp,h2,e2.int_eq,hi,Sem.run_bind,zdH ht (show xs.length<xs.length+1 by omega),Result.andThen_ok,Sem.run_pure]
 rw[this,Oper.upon_value];refine hK _ _ ⟨G,hr.put (v:= .gp id (zaH xs.length) (xs.length*k) k [] []) (by
  rw[Nat.zero_add];refine .gpL (by simp[AV.idsL]) hT (by rw[h1];rfl) h3 h4 ?_ (fun i hi=>by simp at hi);have h8:(xs.length+1)*k<=cap*k:=xav _ h6;rw[Nat.add_mul,Nat.one_mul] at h8;exact Nat.le_trans h8 h5) hd⟩
theorem Walk.putH {id n k t0:Nat}{b0:Bool}{v:AV}{vs:List AV} (js:List Nat) (ht:TyS c.P t k b0) (hg:GH all env g pg) (hxt:x = .tmp t0)
  (hx:opd env x=some (.gp id (zaH n) (n*k) k [] [])) (hy:opd env y=some v) (htok:getH hp id=some (.tok (zaH n) k)) (hv:zbg v=some vs) (hk:vs.length=k) (ho:zgk vs=true) (hne:vs≠[]) (hjs:(AV.idsL vs).all (zaG · js)=true)
  (hn:Walk c all chk os (zam (pg++(opF x (.gp id (zaH n) (n*k) k [] [])++opF y v)) [(id,.tok (zaH n) k)] [] ⟨some (t0,.gp id (zaH n+1) (n*k) k js vs),[(id,some (.tok (zaH n+1) k))]⟩::recs)
   ⟨(t0,.gp id (zaH n+1) (n*k) k js vs)::env,(id,some (.tok (zaH n+1) k))::hp⟩ Q):
  Walk c all chk (⟨none,.store t x y,ty,pos,af,g⟩::os) recs ⟨env,hp⟩ Q:=by
 subst hxt;refine⟨pg++(opF (.tmp t0) (.gp id (zaH n) (n*k) k [] [])++opF y v),[(id,.tok (zaH n) k)],[],_, ?_,zat hg.facts (zat (zaU hx) (zaU hy)),hh1 htok,by simp,hn⟩;intro s a w hrel hp' hh _ K Q' hK;obtain⟨G,hr⟩:=hrel;have hbx:=hh1' hh;have hT:tokf s.hp id=some (zaH n,k):=zak.2 hbx;have s0:getE s.env t0=some (.gp id (zaH n) (n*k) k [] []):=hp' (t0,_) (by simp[opF]);have e1:=hr.slots t0 _ s0;have e2:=hr.opd (zaX hy (fun p hm=>hp' p (by simp[hm])));obtain⟨b,us,e,he,h1,h4,h3,h5,_⟩:=e1.gp_at hT;have hbm:b∈G.loc id:=by
  cases hq:G.loc id with
  |nil=>rw[hq] at h1;cases h1
  |cons x r=>rw[hq] at h1;cases h1;simp
 have he':a.eval (.tmp t0) = .pointer (some ⟨b,n*k,none⟩):=he;have hvr:=ze7 e2 hv;have hsz:=hvr.size;let vl:=(a.eval y).cells.toList
 have hvl:vl.length=vs.length:=by simp only[vl,Array.length_toList];exact hsz
 have hst:=run_storeCells_at c.P b (n*k) e vl 0 us w h3 od (fun u hu=>by
  obtain⟨j,hj,rfl⟩:=List.getElem_of_mem hu;have hj':j<vs.length:=by omega
  have:=hvr.rel j hj' (by simpa [vl] using hj);simpa [vl] using this.one (zgz ho _ (xao hj')))
 simp only[Nat.add_zero] at hst;let row:Array Value:=(us.toList.take (n*k)++vl++us.toList.drop (n*k+vl.length)).toArray
 have hrs:row.size=us.size:=by
  simp only[row,List.size_toArray,xaa,List.length_take,List.length_drop,Array.length_toList];omega
 have hother:∀q,q≠b->(w.setRow b row).heap[q]?=w.heap[q]?:=fun q hq=>setRow_other w b q row hq;have hcell:∀b' o,o<G.F b'->o<G.F b'/\(w.setRow b row).cell? ⟨b',o,none⟩=w.cell? ⟨b',o,none⟩:=fun b' o ho=>by
  have hne:b'≠b:=fun e=>by subst e;rw[h4] at ho;omega
  exact⟨ho,cell_setRow_other w b row _ hne⟩
 have hnew:(w.setRow b row).heap[b]?=some (.cells row e (0,0)):=setRow_heap w b us row e _ h3;have hbound:∀i r,getH s.hp i=some r->∀b,b∈G.loc i->b<w.heap.size:=fun i r h=>(hr.heap i r h).bound;have hlow:∀q,q<n*k->row.getD q undef=us.getD q undef:=fun q hq=>by
  have h1:q<us.size:=by omega
  have h2:q<row.size:=by omega
  have e1:row.getD q undef=row[q]:=by simp[Array.getD,h2]
  have e2:us.getD q undef=us[q]:=by simp[Array.getD,h1]
  rw[e1,e2];simp only[row,List.getElem_toArray];rw[List.getElem_append_left oq,List.getElem_append_left oq,List.getElem_take,Array.getElem_toList]
 have hmid:∀j (hj2:j<vl.length) (h2:n*k+j<row.size),row[n*k+j]=vl[j]:=fun j hj2 h2=>by
  simp only[row,List.getElem_toArray];have hm:min (n*k) us.size=n*k:=by omega
  rw[List.getElem_append_left oq,List.getElem_append_right oq];simp only[List.length_take,Array.length_toList,hm,Nat.add_sub_cancel_left]
 have hT1:tokf ((id,some (Res.tok (zaH n+1) k))::s.hp) id=some (zaH n+1,k):=zak.2 o0;have hT2:∀i,i≠id->tokf ((id,some (Res.tok (zaH n+1) k))::s.hp) i=tokf s.hp i:=fun i hi=>by
  unfold tokf;rw[zaa,if_neg hi]
 have hpar:∀(m:Nat),(zaH n+1=zaH m\/zaH n+1=zaH m+1)->n=m/\zaH n=zaH m:=fun m he=>by
  rcases he with he|he
  ·exact absurd he (zqm _ _)
  ·have:zaH n=zaH m:=by omega
   exact⟨zpi this,this⟩
 have hgh:(∀xs v,RelA G (tokf s.hp) w (.gh id xs) v->RelA G (tokf ((id,some (.tok (zaH n+1) k))::s.hp)) (w.setRow b row) (.gh id xs) v)/\∀xs v,RelA G (tokf s.hp) w (.ght id xs) v->RelA G (tokf ((id,some (.tok (zaH n+1) k))::s.hp)) (w.setRow b row) (.ght id xs) v:=by
  refine⟨fun xs v hx=>?_,fun xs v hx=>?_⟩
  ·cases hx with
   |gh hv0 hgh=>
    refine .gh hv0 (fun m k' hm he=>?_);rw[hT1] at hm;cases hm;obtain⟨hxl,hxn⟩:=hpar _ he;obtain⟨r1,b2,cap,cs,e2,r2,r3,r4,r5,r6,r7,r8⟩:=hgh _ _ hT (.inl hxn);rw[r2] at h1;cases h1;rw[h3] at r5;cases r5;refine⟨r1,b,cap,row,e,r2,r3,h4,hnew,by rw[hrs];exact r6,r7,fun i hi j hj=>?_⟩;have hq:i*k+j<n*k:=by rw[hxl];exact zfk hi (by rw[<-r1 _ (xao hi)];exact hj)
    rw[hlow _ hq];exact(r8 i hi j hj).mono hcell
  ·cases hx with
   |ght hv0 hgh=>
    refine .ght hv0 (fun m k' hm he=>?_);rw[hT1] at hm;cases hm;obtain⟨hxl,hxn⟩:=hpar _ he;obtain⟨r1,b2,cap,cs,e2,Ss,extra,r2,r3,r5,r6,r7,rn,r4,r8⟩:=hgh _ _ hT (.inl hxn);have hb2:b2=b:=by rw[r2] at h1;cases h1;rfl
    subst hb2;rw[h3] at r5;cases r5;refine⟨r1,b2,cap,row,e,Ss,extra,r2,r3,hnew,by rw[hrs];exact r6,r7,rn,r4,fun i hi j hj=>?_⟩;have hjk:j<k:=by rw[<-r1 _ (xao hi)];exact hj
    have hq:i*k+j<n*k:=by rw[hxl];exact zfk hi hjk
    rw[hlow _ hq];refine(r8 i hi j hj).mono (fun b' hb'=>hother b' (fun e=>?_));subst e;rw[r2] at rn;exact(List.nodup_cons.1 rn).1 (List.mem_append_left _ (List.mem_flatMap.2 ⟨i*k+j,List.mem_range.2 (by rw[<-hxl];exact hq),hb'⟩))
 have hR:=hr.retokH (G':=G) (w':=w.setRow b row) (n':=zaH n+1) hbx od hgh hcell (fun _ _=>rfl)
  (fun b' _ hb'=>⟨hother b' (fun e=>hb' (by rw[e];exact hbm)),rfl⟩) (fun b' hb'=>by simpa using hbound id _ hbx b' hb') (fun b' hb'=> .inl hb') rfl rfl rfl og (fun b' hb'=>hr.top b' (by simpa using hb'))
 unfold wpO;rw[if_pos (hg.gf.wanted hr (fun p hm=>hp' p (by simp[hm])))];unfold Oper.wp;have hrun:(execOp a.eval ⟨none,.store t (.tmp t0) y,ty,pos,af,g⟩).run c.P w = .ok .skip (w.setRow b row):=by
  have hsz2:(a.eval y).cells.size=k:=by omega
  simp only[execOp,he',Instr.storeAt,Instr.sureAddr,Sem.run_bind,Sem.run_pure,Result.andThen_ok,storeVar,ht.run_size];simp only[hsz2,ne_eq,not_true_eq_false,if_false];have hst':=hst;simp only[vl] at hst';simp only[Result.andThen_ok,hst',vl,row]
 rw[hrun,Oper.upon_skip];have hslot:RelA G (tokf ((id,some (Res.tok (zaH n+1) k))::s.hp)) (w.setRow b row) (.gp id (zaH n+1) (n*k) k js vs) (a.tmps.getD t0 undef):=by
  have he2:a.tmps.getD t0 undef = .pointer (some ⟨b,n*k,none⟩):=he;rw[he2];refine .gpL (fun x hx=>zaw.1 (List.all_eq_true.1 hjs x hx)) hT1 h1 h4 hnew od (fun j hj hv=>?_);have hj2:j<vl.length:=by omega
  rw[hmid j hj2 hv];have h9:=hvr.rel j hj (by simpa [vl] using hj2);have h10:=h9.retok (T':=tokf ((id,some (Res.tok (zaH n+1) k))::s.hp)) (w':=w.setRow b row) hcell hT od hT1 hT2 (fun _ _=>rfl) (fun i p hi hp b' hb'=>by
   obtain⟨m,q⟩:=p;have hq:=zak.1 hp;refine⟨hother b' (fun e=>?_),rfl⟩;subst e;exact hr.disj i id (by rw[hq];rfl) (by rw[hbx];rfl) hi b' hb' hbm) hgh
  simpa [vl] using h10
 exact hK _ _ ⟨G,(hR.slot hslot).putNone⟩
end
theorem zpS {r:Rd} (h:r.bad=true){b:UInt8} (hb:b≠0):zbu r b=r:=by
 obtain⟨s,bad⟩:=r;have h':bad=true:=h;subst h';have e:=zeC (r:=⟨s,true⟩) (.inl rfl);unfold zbu;rw[zpB e];show Rd.mk s (_||true)=_
 rw[Bool.or_true]
theorem zpm {ts:List Ty}{r:Rd} (h:r.bad=true):zc3 ts r=r:=by
 unfold zc3;split
 ·exact zpS h ol
 ·rfl
def sgR (i:Nat):UInt8:=if i=0 then 40 else 44
theorem zoa {α:Type}{f:Ty->Rd->α×Rd}{ts:List Ty}{i:Nat}{r:Rd} (hi:i<ts.length) (hb:r.bad=false):
  zbj f (decide (i=0)) (ts.drop i) r=((f (nth ts i) (zbu r (sgR i))).1::(zbj f (decide (i+1=0)) (ts.drop (i+1)) (f (nth ts i) (zbu r (sgR i))).2).1,(zbj f (decide (i+1=0)) (ts.drop (i+1)) (f (nth ts i) (zbu r (sgR i))).2).2):=by
 rw[zaZ hi,zbj,if_neg (by rw[hb];simp)];have e:(if decide (i=0)=true then (40:UInt8) else 44)=sgR i:=by unfold sgR;by_cases h:i=0<;>simp[h]
 rw[e,show decide (i+1=0)=false from xaw od]
def kidG {α:Type} (f:Ty->Rd->α×Rd) (ts:List Ty) (K:List α×Rd) (i:Nat) (acc:List α) (r:Rd):Prop:=
 K=(acc++(zbj f (decide (i=0)) (ts.drop i) r).1,(zbj f (decide (i=0)) (ts.drop i) r).2)
theorem zpl {α:Type}{f:Ty->Rd->α×Rd}{ts:List Ty}{K:List α×Rd}{i:Nat}{acc:List α}{r:Rd} (h:kidG f ts K i acc r) (hi:i<ts.length) (hb:r.bad=false):
  kidG f ts K (i+1) (acc++[(f (nth ts i) (zbu r (sgR i))).1]) (f (nth ts i) (zbu r (sgR i))).2:=by
 unfold kidG at h ⊢;rw[h,zoa hi hb];simp
theorem zqn {α:Type}{f:Ty->Rd->α×Rd}{ts:List Ty}{K:List α×Rd}{i:Nat}{acc:List α}{r:Rd} (h:kidG f ts K i acc r) (hi:i<ts.length) (hb:r.bad=true):K=(acc,r):=by
 unfold kidG at h;rw[h,zaZ hi,zbj,if_pos hb];simp
theorem zqo {α:Type}{f:Ty->Rd->α×Rd}{ts:List Ty}{K:List α×Rd}{i:Nat}{acc:List α}{r:Rd} (h:kidG f ts K i acc r) (hi:ts.length<=i):K=(acc,r):=by
 unfold kidG at h;rw[h,List.drop_eq_nil_of_le hi,zbj];simp
set_option maxHeartbeats 4000000
theorem zqF {α:Type} (l:List α) (z y:α):(l++[z]).set l.length y=l++[y]:=by simp
theorem zn2 {k:Nat}{xs:List (List D)} (hk:∀x,x∈xs->x.length=k):zbY xs.length k (xs.flatten.map .d)=some xs:=by
 have h:=zeG (f:=fun x:List D=>x) (l:=xs) hk;have e:(xs.flatMap fun x=>x.map AV.d)=xs.flatten.map AV.d:=by
  clear hk h;induction xs with
  |nil=>rfl
  |cons x r ih=>rw[List.flatMap_cons,ih,List.flatten_cons,xag]
 rw[e] at h;simpa using h
section
variable {c:Ctx}{env:Env}{hp:Hp}{K:Kt}{code:Code}{ids:List Nat}
theorem xaz (hkp:KeptIn c.kept ids) (b off id k:Nat){n:Nat}{xs:List (List D)}{cs:List AV} (hb:getH hp b=some (.box cs)) (hc:cs[off]?=some (.gv id xs)) (ht:getH hp id=some (.tok n k)) (hn:n=xs.length)
  (hkx:∀x,x∈xs->x.length=k) (hid:zaG id ids=false) (hne:Nat.beq b id=false)
  (hnx:CWp c code ⟨env,(b,some (.box (cs.set off (.d (.sl xs)))))::(id,none)::hp⟩ K):CWp c code ⟨env,hp⟩ K:=by
 by_cases hx0:xs=[]
 ·exact CWp.dropVB b off id k hb hc ht hn hx0 (by rw[hx0] at hnx;exact hnx)
 ·refine CWp.fixVC b off id k hb hc ht hn hx0 ?_;obtain⟨hlt,_⟩:=List.getElem?_eq_some_iff.1 hc;have hbi:b≠id:=fun e=>by subst e;rw[Nat.beq_refl] at hne;cases hne
  refine CWp.frzC hkp b off id xs.length k (cs0':=cs.set off (.d (.sl xs))) o0 hne (by simp[hlt]) (by rw[List.set_set]) (by rw[zaa,if_neg (Ne.symm hbi),zaa,if_pos rfl]) (zn2 hkx) hid ?_;intro a w hr;refine hnx a w (hr.congr (fun _=>rfl) (fun j=>?_));show getH ((b,_)::(id,none)::hp) j=getH ((b,_)::(id,none)::(b,_)::(id,_)::hp) j
  rw[zaa,zaa,zaa,zaa,zaa,zaa];by_cases h1:j=b
  ·rw[if_pos h1,if_pos h1]
  ·rw[if_neg h1,if_neg h1];by_cases h2:j=id
   ·rw[if_pos h2,if_pos h2]
   ·rw[if_neg h2,if_neg h2,if_neg h1,if_neg h2]
end
section
variable {w:List Data}{n:Nat}{t:Ty}{r:Rd}
variable (h0:¬((zaB r).toNat:Int)=0) (h1:¬((zaB r).toNat:Int)=95) (h2:¬(97<=((zaB r).toNat:Int)/\((zaB r).toNat:Int)<=122)) (h3:¬(48<=((zaB r).toNat:Int)/\((zaB r).toNat:Int)<=57)) (h4:¬((zaB r).toNat:Int)=40)
include h0 h1 h2 h3 h4
end
def zrc (s:Str):Prop:=¬s.length=3\/((nth s 0).toNat:Int)<97\/122<((nth s 0).toNat:Int)\/((nth s 2).toNat:Int)<48\/57<((nth s 2).toNat:Int)
instance (s:Str):Decidable (zrc s):=by unfold zrc;infer_instance
set_option maxHeartbeats 2000000
set_option maxHeartbeats 4000000
set_option maxHeartbeats 2000000
def zde:List Str:=[[76,61,78,105,108,124,67,111,110,115,40,73,44,76,41],
 [66,61,84,114,117,124,70,108,115,59,84,61,76,101,97,102,124,78,111,100,101,40,84,44,66,44,84,41],
 [69,61,78,117,109,40,73,41,58,49,124,66,111,108,40,66,41,58,50,124,65,100,100,40,69,49,44,69,49,41,58,49,124,73,102,40,69,50,44,69,42,44,69,42,41,59,66,61,84,114,117,124,70,108,115],
 [79,61,78,111,110,124,83,111,109,40,73,41,59,80,61,80,97,105,114,40,79,44,79,41],
 [86,61,69,110,100,58,49,124,83,111,109,101,40,73,44,86,49,41,58,50,124,84,119,111,40,86,42,41],
 [78,61,78,101,118,101,114,40,78,41,59,66,61,84,114,117,124,70,108,115,124,77,97,121,40,78,41],
 [83,61,82,101,100,124,71,114,101,101,110,124,66,108,117,101,124,77,105,120,40,83,44,83,41],
 []]
theorem zkb:zde.length=8:=rfl
theorem zmW:∀t∈zde,t.length<=100:=by decide
theorem zot {i:Nat} (h:i<8):(nth zde i).length<=100:=zmW _ (zao h)
def za8 (b:Str) (p:Nat):List Data:=(zcU (nth zde (zan b p 7).toNat)).1
theorem zok (b:Str) (p:Nat):(zan b p 7).toNat<7:=by have:=zaK (b:=b) (p:=p) (n:=7) od;omega
theorem zj4:FnD Tryz.prog 147 [] [] (.d (zcA zde)) []:=by
 refine bd Tryz.f147 2 [] [] fun _ _ _ _ hk=>?_;refine si [0,1,2,3,4,5,6,7] [_,_,_,_,_,_,_,_] sl84 tz9 ?_;refine ev (rq ?_);rotate_left;all_goals (rfl)
theorem zj6 {b:Str}{p:Nat} (hb:b.length<=2000) (hp:p<=1000000):
  FnD Tryz.prog 242 [.ref 900 0] [(900,some (rdB b p))] (.d (zae (za8 b p))) [(900,some (rdB b (p+1)))]:=by
 have h7:=zok b p;have ht8:=zkb;have hv:=zaK (b:=b) (p:=p) (n:=7) od;have hts:=zot (i:=(zan b p 7).toNat) od;refine bd Tryz.f242 20 [] [] fun _ _ _ _ hk=>?_;refine wc zsf zj4 I I ?_;refine ev (ar (wd zbl (zaC (n:=7) hb od od) I I ⟨I,O⟩ ?_));refine ixq (i:=(zan b p 7).toNat) sl84 I I od (zag (by rw[zkb];omega)) I ?_;refine ev (wc zse (zh6 (s:=nth zde (zan b p 7).toNat) od) I I ?_);refine ev (rn [(900,some (rdB b (p+1)))] (r1 I) (.eqd ?_) ⟨I,I⟩ (SubO.get ⟨.inr ?_,⟨.inl I,O⟩⟩) (zaj I));rotate_left 2;all_goals (first|((rfl);done)|(rfl))
def Few (w:List Data):Prop:=∀t c,c∈zau w t->TyIn w.length t->(zac w t c).length<=3/\∀u∈zac w t c,TyIn w.length u
theorem zqx {l:List Int}{b:Str}{p:Nat} (h:¬l.length=0):nth l (zan b p l.length).toNat∈l:=by
 have:=zaK (b:=b) (p:=p) (n:=(l.length:Int)) od;exact zao od
theorem zp5 {w:List Data} (hs:WSmall w) (hv:zaL w=true):Few w:=by
 have hw:=zcN hs hv;have hW:=(zb7 w).1 hv;rintro ⟨a,k⟩ c hc ht
 obtain⟨d,rfl,h1,j,rfl,h3⟩:=za4 ht hc;refine⟨?_,fun u hu=>zho hw h1 ⟨j,rfl,h3⟩ hu⟩;have hco:=hW.ctor _ (zao h1) _ (zao h3);simp only[zbp,xad,xah] at hco;simp only[zac,Int.toNat_natCast,xac];omega
theorem xaX (l:List Pat):Pat.cs l=l.map Pat.cc:=by
 rw[xaY];exact List.map_congr_left (fun v _=>Pat.c_eq v)
theorem zmE {b:Str}{p:Nat}{l:List Int} (h:1<=l.length):numV b p l∈l:=by
 have:=zaK (b:=b) (p:=p) (n:=(l.length:Int)) od;exact zao od
theorem num4 (b:Str) (p:Nat):1<=numV b p [3,2,4,1]/\numV b p [3,2,4,1]<=4:=by
 have:=zmE (b:=b) (p:=p) (l:=[3,2,4,1]) og;simp only[List.mem_cons,xau,or_false] at this;omega
theorem put0 {l:List (List D)}{x:List D}{r:List (List D)}{v:List AV} (h:l=x::r) (hx:x.length=v.length):putC (l.flatten.map .d) 0 v=some (v++r.flatten.map .d):=by
 subst h;rw[List.flatten_cons,xag];have key:∀(a b:List AV),a.length=b.length->∀(c:List AV),putC (a++c) 0 b=some (b++c):=by
  intro a;induction a with
  |nil=>intro b h c;cases b with
   |nil=>cases c<;>rfl
   |cons=>simp at h
  |cons y a ih=>intro b h c;cases b with
   |nil=>simp at h
   |cons z b=>
    have:=ih b (by simpa using h) c;simp only[xai,putC,this]
 exact key _ _ (by simpa using hx) _
theorem zsE {k:Nat}{v:List AV}{vd:List D}{r:List (List D)} (hv:toDL v=some vd) (hk:v.length=k) (hr:∀x∈r,x.length=k):zbY (r.length+1) k (v++r.flatten.map .d)=some (vd::r):=by
 have h1:cutC (v++r.flatten.map .d) 0 k=some v:=zhx hk;have h2:(v++r.flatten.map AV.d).drop k=r.flatten.map .d:=by rw[<-hk];simp
 have h3:=zeG (f:=fun x:List D=>x) (k:=k) (l:=r) hr;have h4:(r.flatMap fun x=>x.map AV.d)=r.flatten.map .d:=by rw[List.map_flatten];rfl
 rw[h4,List.map_id'] at h3;simp only[zbY,h1,hv,h2,h3]
theorem Pat.cs_app (a b:List Pat):Pat.cs (a++b)=Pat.cs a++Pat.cs b:=by
 rw[xaX,xaX,xaX,xag]
structure CaseW (w:List Data):Prop where
 small:WSmall w
 valid:zaL w=true
 one:1<=w.length
 ct:∀k:Int,k=0\/k=1\/k=2->1<=(zau w ⟨0,k⟩).length
def smB (n:Nat) (w:List Data):Bool:=decide (w.length<=n)&&w.all fun d=>decide (d.name.length<=n)&&(decide (d.ctors.length<=n)&&d.ctors.all fun c=>decide (c.name.length<=n)&&decide (c.args.length<=n))
structure Sm (n:Nat) (w:List Data):Prop where
 len:w.length<=n
 data:∀d∈w,d.name.length<=n/\d.ctors.length<=n
 ctor:∀d∈w,∀c∈d.ctors,c.name.length<=n/\c.args.length<=n
theorem zpT {n:Nat}{w:List Data} (h:smB n w=true):Sm n w:=by
 simp only[smB,xad,xah,List.all_eq_true] at h;exact⟨h.1,fun d hd=>⟨(h.2 d hd).1,(h.2 d hd).2.1⟩,fun d hd c hc=>(h.2 d hd).2.2 c hc⟩
theorem Sm.small {n:Nat}{w:List Data} (h:Sm n w) (hn:n<=1000000000000):WSmall w:=
 ⟨Nat.le_trans h.len hn,fun d hd=>⟨Nat.le_trans (h.data d hd).1 hn,Nat.le_trans (h.data d hd).2 hn⟩,fun d hd c hc=>⟨Nat.le_trans (h.ctor d hd c hc).1 hn,Nat.le_trans (h.ctor d hd c hc).2 hn⟩⟩
theorem zoz:((List.range 7).all fun i=>smB 10 (zcU (nth zde i)).1&&(zaL (zcU (nth zde i)).1&&decide (1<=(zcU (nth zde i)).1.length)))=true:=by kernel_rfl
structure WorldD (w:List Data):Prop where
 sm:Sm 10 w
 small:WSmall w
 valid:zaL w=true
 one:1<=w.length
theorem zd8 (b:Str) (p:Nat):WorldD (za8 b p):=by
 have h:=List.all_eq_true.1 zoz (zan b p 7).toNat (List.mem_range.2 (zok b p));simp only[xad,xah] at h;exact⟨zpT h.1,(zpT h.1).small od,h.2.1,h.2.2⟩
theorem zkM {w:List Data} (hw:WT w){n:Nat}{f:Nat->Nat}{a k c:Int} (ht:TyIn w.length ⟨a,k⟩) (hc:c∈zau w ⟨a,k⟩) (hn:n<=100) (hb:∀s,f s<=100000) (hin:∀u∈zac w ⟨a,k⟩ c,InS n u):
  FnD Tryz.prog 244 [.d (zae w),.d (zeN n f),.agg [.d (.i a),.d (.i k)],.d (.i c)] [] (.d (.i (most w f ⟨a,k⟩ c))) []:=by
 have hl:=zhp hw ht hc;have hd:=zlN hb od;refine bd Tryz.f244 37 [] [] fun _ _ _ _ hk=>?_;refine bx 3006 ?_;refine ev (wc zdm (zbW hw ht hc) I I ?_);refine ev (xaA (ι:=List (Ty)×List (Ty)×(Nat)) hk (fun x=>[(11,.d (.i (x.1.length:Int))),(10,.d (.i (x.2.2:Int)))]) [8,12,17,18,19,20,21,22,23,24,25,26,27,28,29,30,31,32,33,34] (fun x=>[]) (fun x=>x.1++x.2.1=zac w ⟨a,k⟩ c/\x.2.2<=100000/\zbE f x.2.2 x.2.1=zbE f 0 (zac w ⟨a,k⟩ c)) (fun x=>x.2.1.length) ([],zac w ⟨a,k⟩ c,0) ⟨by simp,by simp,I⟩ ⟨⟨_,I,xaV ?_⟩,⟨⟨_,I,xaV ?_⟩,O⟩⟩ O (fun x=>rfl) (fun x hg1=>?_));iterate 2 focus (first|rfl|(simp;done)|omega|(dsimp only;omega))
 obtain⟨pre,rest,m⟩:=x;dsimp only at hg1 ⊢;refine evc [] [] ?_;apply sq<;>intro h1 h1p h1s<;>(try simp only[Q] at h1p);rcases rest with _|⟨y,rest⟩
 ·exfalso;simp_all
 have hdy:=hd y;have hye:dv f ⟨y.data,y.index⟩=dv f y:=rfl;refine ixq zaJ I I I (zaM hg1.1) I (ev (wc zeL (zbS (f:=f) (a:=y.data) (k:=y.index) (hin y (by rw[<-hg1.1];simp)) hn) I I ?_));refine ev ?_;apply sq<;>intro h2 h2p h2s<;>(try simp only[Q] at h2p);refine rq ?_;rotate_left;apply sq<;>intro h3 h3p h3s<;>(try simp only[Q] at h3p);refine ar (xaj ((pre++[y],rest,max m (dv f y))) ⟨⟨(by have hz:=hg1.1;rw[<-hz];simp),⟨(by have:=hd y;dsimp only;omega),(by rw[<-hg1.2.2];simp only[zbE];rw[if_neg (by have:=hd y;omega)])⟩⟩,og,sx ⟨⟨_,I,xaV ?_⟩,⟨⟨_,I,xaV ?_⟩,O⟩⟩ O⟩);iterate 2 focus (first|rfl|(simp;done)|omega|(dsimp only;omega))
 refine ar (xaj ((pre++[y],rest,max m (dv f y))) ⟨⟨(by have hz:=hg1.1;rw[<-hz];simp),⟨(by have:=hd y;dsimp only;omega),(by rw[<-hg1.2.2];simp only[zbE];rw[if_neg (by have:=hd y;omega)])⟩⟩,og,sx ⟨⟨_,I,xaV ?_⟩,⟨⟨_,I,xaV ?_⟩,O⟩⟩ O⟩);iterate 2 focus (first|rfl|(simp;done)|omega|(dsimp only;omega))
 have hrest:rest=[]:=by
  rcases rest with _|⟨a,b⟩
  ·rfl
  ·exfalso;have hz:=xam List.length (hg1.1);simp only[xaa,xab,xac] at hz;omega
 subst hrest;refine ar (rq ?_);rotate_left;all_goals (refine xam D.i ?_;unfold most;rw[<-hg1.2.2];first|(simp only[zbE];rw[if_pos od];rfl)|(simp only[zbE];omega))
def hdB (w:List Data):Nat->Ty->Bool
 |0,_=>false
 |d+1,t=>decide (t.data = -1)||(za3 w t).any fun c=>decide (t.data≠ -1)&&(zac w t c).all (hdB w d)
theorem zkt (w:List Data):∀(d:Nat) (t:Ty),hdB w d t=true↔Hd w d t
 |0,t=>by simp[hdB,Hd]
 |d+1,t=>by
  simp only[hdB,Hd,Bool.or_eq_true,xah,List.any_eq_true,xad,List.all_eq_true,zkt w d]
def Low (w:List Data):Prop:=∀s,zab w s<=3
theorem zsX {w:List Data} (hd:Dp w) (h:(List.range (w.length*4)).all (fun s=> !hdB w 4 (tyS s)||hdB w 3 (tyS s))=true):Low w:=by
 intro s;by_cases hs:s<w.length*4
 ·obtain⟨h1,h2⟩:=zdt hd.cl (w.length*4+1);by_cases h0:zab w s=0
  ·omega
  ·have hh:=h1 s hs (Nat.pos_of_ne_zero h0);have h3:=zhC hd.cl (d:=3) od (fun s hs hh=>by
    have:=List.all_eq_true.1 h s (List.mem_range.2 hs);rw[(zkt w 4 (tyS s)).2 hh] at this;exact(zkt w 3 _).1 (by simpa using this)) _ s hs hh
   by_cases h4:3<=w.length*4+1
   ·exact(h2 s hs 3 h4 h3).2
   ·omega
 ·have h0:=zgS (w:=w) (i:=s) od (w.length*4+1);show zbM w (w.length*4+1) s<=3
  omega
theorem zoA:((List.range 7).all fun i=>(List.range ((zcU (nth zde i)).1.length*4)).all fun s=> !hdB (zcU (nth zde i)).1 4 (tyS s)||hdB (zcU (nth zde i)).1 3 (tyS s))=true:=by kernel_rfl
structure WorldL (w:List Data):Prop where
 dp:Dp w
 low:Low w
 few:Few w
theorem zfi (b:Str) (p:Nat):WorldL (za8 b p):=by
 have ho:=zd8 b p;have hd:=zqL ho.small ho.valid;exact⟨hd,zsX hd (List.all_eq_true.1 zoA (zan b p 7).toNat (List.mem_range.2 (zok b p))),zp5 ho.small ho.valid⟩
theorem zpu {w:List Data} (hd:Dp w){t:Ty} (ht:InS (w.length*4) t) (hne:¬t.data = -1) (h:0<dv (zab w) t):∃c∈zau w t,0<most w (zab w) t c/\most w (zab w) t c=dv (zab w) t:=by
 obtain⟨h1,h2⟩:Snd w (zab w)/\Cmp w (w.length*4+1) (zab w):=zdt hd.cl (w.length*4+1);have hcmp:∀k,Cmp w k (zab w):=fun k=>by
  have h3:=(zdt hd.cl (max k (w.length*4+1))).2;rw[zrF hd.cl (Nat.le_max_right _ _)] at h3;exact fun s hs d hdk hh=>h3 s hs d od hh
 have hv:zau w t=za3 w t:=by unfold zau;rw[if_neg hne]
 have hh:Hd w (dv (zab w) t) t:=zn5 h1 ht h;rcases hd0:dv (zab w) t with _|e
 ·omega
 rw[hd0] at hh;rcases hh with hh|⟨c,hc,_,hu⟩
 ·exact absurd hh hne
 have hin:=ziJ hd ht (c:=c) (by rw[hv];exact hc);have hp:=zhO (f:=zab w) (l:=zac w t c) (m:=0) (k:=e) (Nat.zero_le _) (fun u hu'=>zmg (hcmp e) (hin u hu') (hu u hu'));refine⟨c,by rw[hv];exact hc,hp.1, ?_⟩;have hle:most w (zab w) t c<=e+1:=hp.2;have hpos:0<most w (zab w) t c:=hp.1

 have hsn:=zfX (f:=zab w) (l:=zac w t c) (m:=0) hp.1;have hH:Hd w (most w (zab w) t c) t:=by
  obtain⟨q,hq⟩:∃q,most w (zab w) t c=q+1:=⟨most w (zab w) t c-1,by omega⟩;rw[hq];refine .inr ⟨c,hc,hne,fun u hu'=>?_⟩;have hx:=hsn.2 u hu';have hlt:dv (zab w) u<most w (zab w) t c:=hx.2;exact Hd_le od (zn5 h1 (hin u hu') hx.1)
 have hge:=(zmg (hcmp _) ht hH).2;omega
def zdD (w:List Data) (f:Nat->Nat) (t:Ty) (m c:Int):Bool:=decide (0<most w f t c)&&decide ((most w f t c:Int)<=m\/most w f t c=dv f t)
def zbA (w:List Data) (f:Nat->Nat) (t:Ty) (m:Int):List Int:=(zau w t).filter (zdD w f t m)
theorem zmo {P:Int->Bool}{pre:List Int}{y:Int} (h:P y=true):((pre++[y]).filter P).map (fun n=>[D.i n])=(pre.filter P).map (fun n=>[D.i n])++[[D.i y]]:=by simp[List.filter_append,h]
theorem zrB {P:Int->Bool}{pre:List Int}{y:Int} (h:P y=false):((pre++[y]).filter P).map (fun n=>[D.i n])=(pre.filter P).map (fun n=>[D.i n]):=by simp[List.filter_append,h]
def dV (f:Ty->Nat->Val×Nat):List Ty->Nat->List Val×Nat
 | [],q=>([],q)
 |t::r,q=>((f t q).1::(dV f r (f t q).2).1,(dV f r (f t q).2).2)
def zaS (b:Str) (w:List Data) (f:Nat->Nat):Nat->Ty->Int->Nat->Val×Nat
 |0,_,_,p=>(.mk 0 0 [],p)
 |n+1,t,m,p=>
  if t.data = -1 then (.mk (-1) (zan b p 10) [],p+1)
  else (.mk (nth (zbA w f t m) (zan b p (zbA w f t m).length).toNat) 0 (dV (fun u q=>zaS b w f n u (m-1) q) (zac w t (nth (zbA w f t m) (zan b p (zbA w f t m).length).toNat)) (p+1)).1,
   (dV (fun u q=>zaS b w f n u (m-1) q) (zac w t (nth (zbA w f t m) (zan b p (zbA w f t m).length).toNat)) (p+1)).2)
abbrev dW (b:Str) (w:List Data) (n:Nat) (m:Int):Ty->Nat->Val×Nat:=fun u x=>zaS b w (zab w) n u (m-1) x
def bdV:Nat->Nat
 |0=>0
 |d+1=>1+3*bdV d
def szV:Nat->Nat
 |0=>1
 |d+1=>1+3*szV d
theorem zq3 {f:Ty->Nat->Val×Nat}{k:Nat}:∀(l:List Ty) (q:Nat),(∀t∈l,∀q,(f t q).2<=q+k)->(dV f l q).2<=q+l.length*k
 | [],q,_=>by simp[dV]
 |t::r,q,h=>by
  have h1:=h t og q;have h2:=zq3 r (f t q).2 (fun x hx=>h x (by simp[hx]));simp only[dV,xab,Nat.add_mul];omega
theorem zmf {f:Ty->Nat->Val×Nat}:∀(l:List Ty) (q:Nat),(dV f l q).1.length=l.length
 | [],q=>rfl
 |t::r,q=>by simp only[dV,xab,zmf r]
theorem zq4 {f:Ty->Nat->Val×Nat}{k:Nat}:∀(l:List Ty) (q:Nat),(∀t∈l,∀q,(f t q).1.size<=k/\(f t q).1.ok)->Vals.size (dV f l q).1<=l.length*k/\Vals.ok (dV f l q).1
 | [],q,_=>by simp[dV,Vals.size,Vals.ok]
 |t::r,q,h=>by
  have h1:=h t og q;have h2:=zq4 r (f t q).2 (fun x hx=>h x (by simp[hx]));simp only[dV,xab,Nat.add_mul,Vals.size,Vals.ok];exact⟨by omega,h1.2,h2.2⟩
theorem zeO {w:List Data}{f:Nat->Nat}{t:Ty}{m c:Int} (h:c∈zbA w f t m):c∈zau w t/\0<most w f t c/\((most w f t c:Int)<=m\/most w f t c=dv f t):=by
 have:=List.mem_filter.1 h;simpa [zdD] using this
structure Deep (w:List Data) (n:Nat) (t:Ty) (m:Int):Prop where
 ins:InS (w.length*4) t
 pos:0<dv (zab w) t
 le:dv (zab w) t<=n
 ml:m<=n
theorem zmn {w:List Data} (hd:Dp w){n:Nat}{t:Ty}{m:Int} (h:Deep w n t m) (hne:¬t.data = -1):1<=(zbA w (zab w) t m).length:=by
 obtain⟨c,hc,h1,h2⟩:=zpu hd h.ins hne h.pos;exact List.length_pos_of_mem (a:=c) (List.mem_filter.2 ⟨hc,by have:=h.pos;simp[zdD,h2,this]⟩)
theorem zgI {w:List Data} (hd:Dp w){n:Nat}{t:Ty}{m c:Int} (h:Deep w (n+1) t m) (hc:c∈zbA w (zab w) t m):∀u∈zac w t c,Deep w n u (m-1):=by
 intro u hu;obtain⟨h1,h2,h3⟩:=zeO hc;have hin:=ziJ hd h.ins h1 u hu;have hs:=(zfX (f:=zab w) (l:=zac w t c) (m:=0) h2).2 u hu;have hlt:dv (zab w) u<most w (zab w) t c:=hs.2;have:=h.le;have:=h.ml;exact⟨hin,hs.1,by rcases h3 with h3|h3<;>omega,by omega⟩
theorem zf1 {w:List Data} (hd:Dp w){n:Nat}{t:Ty}{m:Int} (h:Deep w n t m) (hne:¬t.data = -1) (b:Str) (p:Nat):nth (zbA w (zab w) t m) (zan b p (zbA w (zab w) t m).length).toNat∈zbA w (zab w) t m:=
 zqx (by have:=zmn hd h hne;omega)
theorem zct {b:Str}{w:List Data} (hd:Dp w) (hf:Few w):∀(n:Nat) (t:Ty) (m:Int) (p:Nat),Deep w n t m->(zaS b w (zab w) n t m p).2<=p+bdV n/\(zaS b w (zab w) n t m p).1.size<=szV n/\(zaS b w (zab w) n t m p).1.ok
 |0,t,m,p,h=>by have:=h.pos;have:=h.le;omega
 |n+1,t,m,p,h=>by
  simp only[zaS,bdV,szV];split
  ·refine⟨by dsimp only;omega, ?_, ?_⟩
   ·simp only[Val.size,Vals.size];omega
   ·simp[Val.ok,Vals.ok]
  ·rename_i hne;have hm:=zf1 hd h hne b p;generalize nth (zbA w (zab w) t m) (zan b p (zbA w (zab w) t m).length).toNat=c at *;have hk:=zgI hd h hm;have h3:=(hf t c (zeO hm).1 (zdY h.ins)).1;have h1:=zq3 (f:=fun u q=>zaS b w (zab w) n u (m-1) q) (k:=bdV n) (zac w t c) (p+1) (fun u hu q=>(zct hd hf n u (m-1) q (hk u hu)).1);have h2:=zq4 (f:=fun u q=>zaS b w (zab w) n u (m-1) q) (k:=szV n) (zac w t c) (p+1) (fun u hu q=>(zct hd hf n u (m-1) q (hk u hu)).2);have h4:(zac w t c).length*bdV n<=3*bdV n:=xav _ h3;have h5:(zac w t c).length*szV n<=3*szV n:=xav _ h3;have h6:=zmf (f:=fun u q=>zaS b w (zab w) n u (m-1) q) (zac w t c) (p+1);refine⟨by dsimp only;omega, ?_, ?_⟩
   ·simp only[Val.size];omega
   ·simp only[Val.ok];exact⟨by omega,h2.2⟩
section
variable {b:Str}{w:List Data}{f:Nat->Nat}{n p:Nat}{t:Ty}{m:Int}
theorem zkp (h:t.data = -1):zaS b w f (n+1) t m p=(.mk (-1) (zan b p 10) [],p+1):=by simp only[zaS];rw[if_pos h]
theorem zkq (h:¬t.data = -1){c:Int} (hc:nth (zbA w f t m) (zan b p (zbA w f t m).length).toNat=c):zaS b w f (n+1) t m p =
  (.mk c 0 (dV (fun u q=>zaS b w f n u (m-1) q) (zac w t c) (p+1)).1,(dV (fun u q=>zaS b w f n u (m-1) q) (zac w t c) (p+1)).2):=by
 simp only[zaS];rw[if_neg h,hc]
end
end Go.Proofs.YtmkipahfpaacgaaGreatDoor
