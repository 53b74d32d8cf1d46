/-
  THE ABSTRACT WALK AND THE WALKS, part 5 of 6: the parts F57, F58, F70, Val, F7, F8, Wu, F9, F71, F72, F74, F75, F76, F77, F78, F10, F73, F18, F19, F31, F32, F33, F34, F35, F36, F37, F82, F83, F38, F79, F59.
-/
import Derived.Test.YtfiihhedihkdoaaGreatT4
namespace Go.Proofs.YtfiihhedihkdoaaGreat
open Go
set_option linter.unusedSimpArgs false
set_option linter.unusedVariables false
set_option maxRecDepth 100000
set_option maxHeartbeats 2000000
theorem znw {w:List Data}{t:Ty}{p:Pat} (h:isP w t p=true):zcZ w t p=zaH w 10 t p:=by
 unfold isP at h
 simp only[Bool.and_eq_true,decide_eq_true_eq] at h
 have e:=(zfm w 10 t p 0).1
 have hw:zb0 w 10 t p 0=true:=by
  unfold zb0;rw[h.1,h.2.2,decide_eq_true (by omega)];rfl
 rw[if_pos hw] at e
 unfold zcZ;rw[e];rfl
theorem zrv {w:List Data}{t:Ty}{p:Pat} (h:isP w t p=true):zcK (zaH w 10 t p)=true:=by
 unfold isP at h
 simp only[Bool.and_eq_true] at h
 exact zg6 w 10 t p h.1 h.2.2
theorem zpc {w:List Data} (hw:WT w) (haz:AZ w):∀(n:Nat){t:Ty}{p:Pat},zar w n t p=true→TyOk w.length t→∀v∈zaH w n t p,TyOk w.length v.ty
 |0,t,p,h,_=>by simp[zar] at h
 |n+1,t,p,h,ht=>by
  obtain⟨ho,hlen⟩:=zbX h
  intro v hv
  have hto:∀u∈zac w t p,TyOk w.length u:=fun u hu=>by
   refine⟨zfN (a:=t.data) (k:=t.index) hw ht.1 ho u hu,fun hd=>?_⟩
   unfold zac at hu
   split at hu
   ·rename_i h4;exact haz t p.ctor (zcs ho h4) ht.1 u hu hd
   ·split at hu
    ·simp only[List.mem_cons,List.not_mem_nil,or_false,or_self] at hu
     rw[hu] at hd ⊢;exact ht.2 hd
    ·split at hu
     ·simp only[List.mem_cons,List.not_mem_nil,or_false] at hu
      rw[hu] at hd ⊢;exact ht.2 hd
     ·simp at hu
  simp only[zaH,List.mem_append] at hv
  rcases hv with hv|hv
  ·unfold zaA at hv
   split at hv
   ·simp only[List.mem_cons,List.not_mem_nil,or_false] at hv
    rw[hv];exact ht
   ·simp at hv
  ·have key:∀(a:List Ty) (b:List Pat),(∀i,i<a.length→i<b.length→∀v∈zaH w n (nth a i) (nth b i),TyOk w.length v.ty)→∀v∈za7 (zaH w n) a b,TyOk w.length v.ty:=by
    intro a
    induction a with
    |nil=>intro b _ v hv;simp[za7] at hv
    |cons x r ih=>
     intro b h v hv
     cases b with
     |nil=>simp[za7] at hv
     |cons y s=>
      simp only[za7,List.mem_append] at hv
      rcases hv with hv|hv
      ·exact h 0 (by simp) (by simp) v hv
      ·exact ih s (fun i h1 h2=>h (i+1) (by simpa using h1) (by simpa using h2)) v hv
   refine key (zdx w t p) p.kids (fun i h1 h2=>?_) v hv
   have hvt:i<(zac w t p).length∧nth (zdx w t p) i=nth (zac w t p) i:=by
    unfold zdx at h1 ⊢
    split at h1
    ·rename_i h5
     rw[if_pos h5]
     rw[List.length_take] at h1
     refine⟨by omega, ?_⟩
     have:i=0:=by omega
     subst this
     cases hT:zac w t p with
     |nil=>rfl
     |cons a b=>rfl
    ·rename_i h5
     rw[if_neg h5];exact⟨h1,rfl⟩
   rw[hvt.2]
   exact zpc hw haz n (zbW h (by omega)) (hto _ (zae hvt.1))
def gdS (g:Gd) (vars:List Vt):Bool:=if g.op=0 then decide (g.var=0∧g.n=0) else decide (1≤g.op∧g.op≤2∧0≤g.n∧g.n≤9)&&(decide (0≤zbk vars g.var)&&decide ((nth vars (zbk vars g.var).toNat).ty.data = -1))
theorem ztS {n:Nat}{g:Gd}{vars:List Vt} (hn:zcK vars=true) (hv:∀v∈vars,TyOk n v.ty):gdS g vars=gdOk g vars:=by
 unfold gdS gdOk
 split
 ·rfl
 ·congr 1
  have hnod:=of_decide_eq_true hn
  rw[Bool.eq_iff_iff]
  simp only[Bool.and_eq_true,decide_eq_true_eq]
  constructor
  ·rintro ⟨h1,h2⟩
   rcases zeP vars g.var with ⟨h3,_⟩|⟨k,h3,h4,h5,_⟩
   ·omega
   ·rw[h3] at h2
    simp only[Int.toNat_natCast] at h2
    have hm:=zae h4
    have ho:=(hv _ hm).2 h2
    have:nth vars k=⟨g.var,⟨-1,0⟩⟩:=by
     generalize nth vars k=z at *
     obtain⟨zv,⟨za,zk⟩⟩:=z
     dsimp only at h5 h2 ho
     rw[h5,h2,ho]
    rw[←this];exact hm
  ·intro hm
   rcases zeP vars g.var with ⟨_,h4⟩|⟨k,h3,h4,h5,_⟩
   ·exact absurd rfl (h4 _ hm)
   ·refine⟨by omega, ?_⟩
    rw[h3]
    simp only[Int.toNat_natCast]
    obtain⟨j,hj,e⟩:=List.getElem_of_mem hm
    have ej:nth vars j=⟨g.var,⟨-1,0⟩⟩:=by simp[nth,List.getD,hj,e]
    have:k=j:=zi2 hnod h4 hj (by rw[h5,ej])
    rw[this,ej]
theorem zlZ {g:Gd}{vars:List Vt} (hv:vars.length≤1000000000000):FnD Tryz.prog 105 [.agg [.d (.i g.op),.d (.i g.var),.d (.i g.n)],.d (zbP vars)] [] (.d (.bool (gdS g vars))) []:=by
 have hlt:=fun h=>zfa (l:=vars) (n:=g.var) h
 refine bd Tryz.f105 50 [] [3] fun w0 F0 own kept hk=>?_
 refine Walk.box (id:=3002) .none rfl rfl rfl rfl rfl rfl rfl ?_
 refine ev ?_
 refine sq (fun h1 h1p h1s=>?_) fun h1 h1p h1s=>?_
 try simp only[Q] at h1p
 refine sq (fun h2 h2p h2s=>?_) fun h2 h2p h2s=>?_
 try simp only[Q] at h2p
 refine rn0 (r1 rfl) (.eqd ?_)
 rotate_left
 try simp only[Q] at h2p
 refine rn0 (r1 rfl) (.eqd ?_)
 rotate_left
 try simp only[Q] at h1p
 refine CWp.regionJ ?_
 refine WRest.join 18 [(34,.d (.bool (decide (¬(1≤g.op∧g.op≤2∧0≤g.n∧g.n≤9)))))] [17,18,19,20,21,22,23,24,25,26,27,28,29,30,31,32,33] ?_ ?_
 refine ev ?_
 refine sq (fun h3 h3p h3s=>?_) fun h3 h3p h3s=>?_
 try simp only[Q] at h3p
 refine sq (fun h4 h4p h4s=>?_) fun h4 h4p h4s=>?_
 try simp only[Q] at h4p
 refine sqT ?_
 exact jn rfl (LeA.eqb (by(first|rfl|(rw[Bool.eq_iff_iff];simp_all;done)|(rw[Bool.eq_iff_iff];simp_all;omega))))
 try simp only[Q] at h4p
 refine sq (fun h5 h5p h5s=>?_) fun h5 h5p h5s=>?_
 try simp only[Q] at h5p
 exact jn rfl (LeA.eqb (by(first|rfl|(rw[Bool.eq_iff_iff];simp_all;done)|(rw[Bool.eq_iff_iff];simp_all;omega))))
 try simp only[Q] at h5p
 exact jn rfl (LeA.eqb (by(first|rfl|(rw[Bool.eq_iff_iff];simp_all;done)|(rw[Bool.eq_iff_iff];simp_all;omega))))
 try simp only[Q] at h3p
 refine sqF ?_
 refine sq (fun h6 h6p h6s=>?_) fun h6 h6p h6s=>?_
 try simp only[Q] at h6p
 exact jn rfl (LeA.eqb (by(first|rfl|(rw[Bool.eq_iff_iff];simp_all;done)|(rw[Bool.eq_iff_iff];simp_all;omega))))
 try simp only[Q] at h6p
 exact jn rfl (LeA.eqb (by(first|rfl|(rw[Bool.eq_iff_iff];simp_all;done)|(rw[Bool.eq_iff_iff];simp_all;omega))))
 refine WRest.done ?_
 refine tv ?_
 refine sq (fun h7 h7p h7s=>?_) fun h7 h7p h7s=>?_
 try simp only[Q] at h7p
 refine rn0 (r1 rfl) (.eqd ?_)
 rotate_left
 try simp only[Q] at h7p
 refine Walk.call (cr:=[]) ziH (zdv hv) rfl .none rfl rfl (LeL.refl _) trivial rfl rfl rfl ?_
 refine ev ?_
 refine sq (fun h8 h8p h8s=>?_) fun h8 h8p h8s=>?_
 try simp only[Q] at h8p
 refine Walk.idx (i:=(zbk vars g.var).toNat) zcQ (.some rfl rfl h8) rfl rfl rfl (by have:=hlt (by omega);omega) (zam (by have:=hlt (by omega);omega)) rfl ?_
 refine evs [] [(41,true)] ?_ ⟨⟨_,rfl,h8⟩,trivial⟩
 refine rn0 (r1 rfl) (.eqd ?_)
 rotate_left
 try simp only[Q] at h8p
 refine rn0 (r1 rfl) (.eqd ?_)
 rotate_left
 all_goals (refine congrArg D.bool ?_;unfold gdS;first|(rw[if_pos (by omega)];simp_all;done)|(rw[if_neg (by omega),decide_eq_false (by omega),Bool.false_and];done)|(rw[if_neg (by omega),decide_eq_true (by omega),Bool.true_and];simp_all;done)|(rw[if_neg (by omega),decide_eq_true (by omega),Bool.true_and,decide_eq_false (by omega),Bool.false_and];done)|(rw[if_neg (by omega)];simp_all;done))
theorem zoW {w:List Data} (hw:WT w) (haz:AZ w){t:Ty}{c:Cl} (ht:TyOk w.length t) (hok:c.pat.ok) (hsz:c.pat.size≤1000000000000):
  FnD Tryz.prog 57 [.d (zak w),.agg [.d (.i t.data),.d (.i t.index)],.agg [.d (.i c.pat.op),.d (.i c.pat.ctor),.d (.i c.pat.n),.d (.i c.pat.m),.d (.i c.pat.var),.d (zad c.pat.kids),.d (.i c.g.op),.d (.i c.g.var),.d (.i c.g.n)]] [] (.d (.bool (clOk w t c))) []:=by
 have ht':TyIn w.length ⟨t.data,t.index⟩:=ht.1
 have hcl:clOk w t c=(isP w t c.pat&&gdOk c.g (zcZ w t c.pat)):=rfl
 cases hp:isP w t c.pat with
 |false=>
  have hpi:=zgR hw ht' hok hsz
  have hpi':FnD Tryz.prog 104 [.d (zak w),.agg [.d (.i t.data),.d (.i t.index)],.agg [.d (.i c.pat.op),.d (.i c.pat.ctor),.d (.i c.pat.n),.d (.i c.pat.m),.d (.i c.pat.var),.d (zad c.pat.kids)]] [] (.d (.bool false)) []:=by rw[←hp];exact hpi
  rw[hcl,hp,Bool.false_and]
  refine bd Tryz.f57 22 [] [] fun w0 F0 own kept hk=>?_
  refine Walk.box (id:=3004) .none rfl rfl rfl rfl rfl rfl rfl ?_
  refine Walk.box (id:=3005) .none rfl rfl rfl rfl rfl rfl rfl ?_
  refine ev ?_
  refine Walk.call (cr:=[]) zn2 (hpi') rfl .none rfl rfl (LeL.refl _) trivial rfl rfl rfl ?_
  refine evd [] [] ?_
  refine sq (fun h1 h1p h1s=>?_) fun h1 h1p h1s=>?_
  try simp only[Q] at h1p
  exfalso;contradiction
  try simp only[Q] at h1p
  refine dr ?_
  refine rn0 (r1 rfl) (.eqd ?_)
  rotate_left
  all_goals (rfl)
 |true=>
  have hpi:=zgR hw ht' hok hsz
  have hpi':FnD Tryz.prog 104 [.d (zak w),.agg [.d (.i t.data),.d (.i t.index)],.agg [.d (.i c.pat.op),.d (.i c.pat.ctor),.d (.i c.pat.n),.d (.i c.pat.m),.d (.i c.pat.var),.d (zad c.pat.kids)]] [] (.d (.bool true)) []:=by rw[←hp];exact hpi
  have hsh:zar w 10 ⟨t.data,t.index⟩ c.pat=true:=by
   have:=hp;unfold isP at this;simp only[Bool.and_eq_true] at this;exact this.1
  have hvl:=zd8 w 10 ⟨t.data,t.index⟩ c.pat
  have hge:=ztS (g:=c.g) (zrv hp) (zpc hw haz 10 hsh ht)
  have hge':gdS c.g (zaH w 10 ⟨t.data,t.index⟩ c.pat)=gdOk c.g (zcZ w t c.pat):=by rw[znw hp];exact hge
  rw[hcl,hp,Bool.true_and,←hge']
  refine bd Tryz.f57 22 [] [] fun w0 F0 own kept hk=>?_
  refine Walk.box (id:=3004) .none rfl rfl rfl rfl rfl rfl rfl ?_
  refine Walk.box (id:=3005) .none rfl rfl rfl rfl rfl rfl rfl ?_
  refine ev ?_
  refine Walk.call (cr:=[]) zn2 (hpi') rfl .none rfl rfl (LeL.refl _) trivial rfl rfl rfl ?_
  refine evd [] [] ?_
  refine sq (fun h1 h1p h1s=>?_) fun h1 h1p h1s=>?_
  try simp only[Q] at h1p
  refine Walk.call (cr:=[]) zgy (zdf hw hsh (by omega) ht' hok hsz) rfl (.some rfl rfl h1) rfl rfl (LeL.refl _) trivial rfl rfl rfl ?_
  refine Walk.call (cr:=[]) zsY (zlZ (g:=c.g) (by omega)) rfl (.some rfl rfl h1) rfl rfl (LeL.refl _) trivial rfl rfl rfl ?_
  refine evd [] [(12,true)] ?_ ⟨⟨_,rfl,h1⟩,trivial⟩
  refine dr ?_
  refine rn0 (r1 rfl) (.eqd ?_)
  rotate_left
  try simp only[Q] at h1p
  exfalso;contradiction
  all_goals (rfl)
def ClsSz (l:List Cl):Prop:=∀c∈l,c.pat.size≤1000000000000
def FusSz (l:List Fu):Prop:=∀f∈l,ClsSz f.cls∧∀e∈f.bodies,e.size≤1000000000000
theorem zsp {w:List Data}{t:Ty} (h:zbA w t=true):TyOk w.length t:=by
 unfold zbA at h;rw[Bool.and_eq_true] at h;exact zjm h.2
theorem ztI {w:List Data}{t:Ty}{l:List Cl}{i:Nat} (hi:i<l.length) (h:clOk w t (nth l i)=false):zbe w t l=false:=by
 unfold zbe
 have:l.any (fun c=> !clOk w t c)=true:=List.any_eq_true.2 ⟨nth l i,zae hi,by rw[h];rfl⟩
 rw[this];simp
theorem zsA {w:List Data}{t:Ty}{l:List Cl} (ht:zbA w t=true) (hl:l.length≤8) (h:∀i,i<l.length→clOk w t (nth l i)=true):zbe w t l=true:=by
 unfold zbe
 rw[ht,decide_eq_true (by omega),Bool.true_and,Bool.true_and,Bool.not_eq_true',List.any_eq_false]
 intro c hc
 obtain⟨i,hi,rfl⟩:=List.getElem_of_mem hc
 have:=h i hi
 simp only[nth,List.getD,List.getElem?_eq_getElem hi,Option.getD_some] at this
 simp[this]
theorem zsB {w:List Data}{t:Ty}{l:List Cl} (h:8<l.length):zbe w t l=false:=by
 unfold zbe;rw[decide_eq_false (by omega),Bool.false_and,Bool.and_false]
theorem ztJ {w:List Data}{t:Ty}{l:List Cl} (h:zbA w t=false):zbe w t l=false:=by
 unfold zbe;rw[h,Bool.false_and]
theorem zqQ {w:List Data}{t:Ty}{l:List Cl} (h:zbe w t l=true):zbA w t=true∧l.length≤8∧∀i,i<l.length→clOk w t (nth l i)=true:=by
 unfold zbe at h
 simp only[Bool.and_eq_true,decide_eq_true_eq,Bool.not_eq_true',List.any_eq_false,Bool.not_eq_false'] at h
 refine⟨h.1,by omega,fun i hi=>?_⟩
 simpa using h.2.2 _ (zae hi)
theorem zqP {w:List Data}{t:Ty}{c:Cl} (h:clOk w t c=true):isP w t c.pat=true∧zar w 10 t c.pat=true∧zaH w 10 t c.pat=zcZ w t c.pat:=by
 unfold clOk at h
 rw[Bool.and_eq_true] at h
 refine⟨h.1, ?_,(znw h.1).symm⟩
 have:=h.1;unfold isP at this;simp only[Bool.and_eq_true] at this;exact this.1
theorem zdH {w:List Data} (hs:WSmall w){a k:Int}{l:List Cl} (hl:ClsOk l) (hz:ClsSz l):
  FnD Tryz.prog 29 [.d (zak w),.agg [.d (.i a),.d (.i k)],.d (zbO l)] [] (.d (.bool (zbe w ⟨a,k⟩ l))) []:=by
 have hll:=hl.1
 refine bd Tryz.f29 31 [] [] fun w0 F0 own kept hk=>?_
 refine Walk.box (id:=3004) .none rfl rfl rfl rfl rfl rfl rfl ?_
 refine ev ?_
 refine Walk.call (cr:=[]) zus (zkw hs) rfl .none rfl rfl (LeL.refl _) trivial rfl rfl rfl ?_
 refine ev ?_
 refine sq (fun h1 h1p h1s=>?_) fun h1 h1p h1s=>?_
 try simp only[Q,Int.natCast_inj] at h1p
 refine sqT ?_
 refine rn0 (r1 rfl) (.eqd ?_)
 rotate_left
 try simp only[Q,Int.natCast_inj] at h1p
 refine sq (fun h3 h3p h3s=>?_) fun h3 h3p h3s=>?_
 try simp only[Q,Int.natCast_inj] at h3p
 refine rn0 (r1 rfl) (.eqd ?_)
 rotate_left
 try simp only[Q,Int.natCast_inj] at h3p
 refine CWp.loopX (ι:=Nat) hk (fun i=>[(7,.d (.i (i:Int)))]) [6,17,18,19,20,21,22,23,24,25,26,27,28,29,30] (fun i=>[]) (fun i=>i≤l.length∧∀i',i'<i→clOk w ⟨a,k⟩ (nth l i')=true) (fun i=>l.length-i) 0 ⟨by omega,fun _ h=>absurd h (by omega)⟩ ⟨⟨_,rfl,(LeA.eqi (by first|rfl|(simp;done)|(simp_all;done)|omega))⟩,trivial⟩ trivial (fun x=>rfl) (fun i hg1=>?_)
 refine evc [] [] ?_
 refine sq (fun h4 h4p h4s=>?_) fun h4 h4p h4s=>?_
 try simp only[Q,Int.natCast_inj] at h4p
 refine Walk.idx sl35 .none rfl rfl rfl rfl (zam (by omega)) rfl ?_
 refine evd [] [] ?_
 refine Walk.call (cr:=[]) zut (zoW (t:=⟨a,k⟩) (c:=nth l i) (zgU hs (zdJ (by assumption)).1) (zo9 (zdJ (by assumption)).1) (zsp (by assumption)) (hl.2 _ (zae (by omega))) (hz _ (zae (by omega)))) rfl .none rfl rfl (LeL.refl _) trivial rfl rfl rfl ?_
 refine evd [] [] ?_
 refine dr ?_
 refine sq (fun h5 h5p h5s=>?_) fun h5 h5p h5s=>?_
 try simp only[Q,Int.natCast_inj] at h5p
 refine rn0 (r1 rfl) (.eqd ?_)
 rotate_left
 try simp only[Q,Int.natCast_inj] at h5p
 refine ar ?_
 refine Exists.intro (i+1) ⟨⟨by omega,zaF hg1.2 (by assumption)⟩,(by omega),Sub.x (by kernel_rfl) (by kernel_rfl) ⟨⟨_,rfl,(LeA.eqi (by first|rfl|(simp;done)|(simp_all;done)|omega))⟩,trivial⟩ (by kernel_rfl) (by kernel_rfl) trivial⟩
 try simp only[Q,Int.natCast_inj] at h4p
 refine rn0 (r1 rfl) (.eqd ?_)
 rotate_left
 all_goals (refine congrArg D.bool ?_;first|(rw[ztJ (by assumption)];done)|(rw[zsB (by omega)];done)|(rw[ztI (i:=i) (by omega) (by assumption)];done)|(rw[zsA (by assumption) (by omega) (fun x hx=>hg1.2 x (by omega))];done))
theorem znL {w:List Data} (hs:WSmall w){funs:List Ft} (hfl:funs.length≤1000000000000) (hfa:∀f∈funs,TyOk w.length f.arg){f:Fu} (hok:FuOk f) (hz:ClsSz f.cls∧∀e∈f.bodies,e.size≤1000000000000) (hres:TyOk w.length f.ty.res):
  FnD Tryz.prog 84 [.d (zak w),.d (zdt funs),.agg [.d (.i f.ty.arg.data),.d (.i f.ty.arg.index),.d (.i f.ty.res.data),.d (.i f.ty.res.index),.d (zbO f.cls),.d (zbi f.bodies)]] [] (.d (.bool (zcU w funs f))) []:=by
 have hcl:=hok.1.1
 have hbl:=hok.2.1
 cases hv:zbe w f.ty.arg f.cls with
 |false=>
  have hcv:=zdH hs (a:=f.ty.arg.data) (k:=f.ty.arg.index) hok.1 hz.1
  rw[show zbe w ⟨f.ty.arg.data,f.ty.arg.index⟩ f.cls=false from hv] at hcv
  have hfv:zcU w funs f=false:=by unfold zcU;rw[hv,Bool.false_and]
  rw[hfv]
  refine bd Tryz.f84 57 [] [] fun w0 F0 own kept hk=>?_
  refine Walk.box (id:=3005) .none rfl rfl rfl rfl rfl rfl rfl ?_
  refine ev ?_
  refine Walk.call (cr:=[]) znR (hcv) rfl .none rfl rfl (LeL.refl _) trivial rfl rfl rfl ?_
  refine ev ?_
  refine sq (fun h1 h1p h1s=>?_) fun h1 h1p h1s=>?_
  try simp only[Q,Ex.cs_len] at h1p
  refine sqT ?_
  refine rn0 (r1 rfl) (.eqd ?_)
  rotate_left
  try simp only[Q,Ex.cs_len] at h1p
  exfalso;contradiction
  all_goals (rfl)
 |true=>
  have hcv:=zdH hs (a:=f.ty.arg.data) (k:=f.ty.arg.index) hok.1 hz.1
  rw[show zbe w ⟨f.ty.arg.data,f.ty.arg.index⟩ f.cls=true from hv] at hcv
  obtain⟨htv,h8,hco⟩:=zqQ hv
  have hwv:=(zdJ (w:=w) (a:=f.ty.arg.data) (k:=f.ty.arg.index) htv).1
  have hw:=zgU hs hwv
  have haz:=zo9 hwv
  have hta:=zsp htv
  have hvl:=zie w f.ty.arg
  have hv3:∀i,i<f.cls.length→FnD Tryz.prog 106 [.nils,.d (zak w),.agg [.d (.i f.ty.arg.data),.d (.i f.ty.arg.index)],.agg [.d (.i (nth f.cls i).pat.op),.d (.i (nth f.cls i).pat.ctor),.d (.i (nth f.cls i).pat.n),.d (.i (nth f.cls i).pat.m),.d (.i (nth f.cls i).pat.var),.d (zad (nth f.cls i).pat.kids)]] [] (.d (zbP (zcZ w f.ty.arg (nth f.cls i).pat))) []:=fun i hi=>by
   have hc:=zqP (hco i hi)
   rw[←hc.2.2]
   exact zdf hw hc.2.1 (by omega) hta.1 (hok.1.2 _ (zae hi)) (hz.1 _ (zae hi))
  refine bd Tryz.f84 57 [] [] fun w0 F0 own kept hk=>?_
  refine Walk.box (id:=3005) .none rfl rfl rfl rfl rfl rfl rfl ?_
  refine ev ?_
  refine Walk.call (cr:=[]) znR (hcv) rfl .none rfl rfl (LeL.refl _) trivial rfl rfl rfl ?_
  refine ev ?_
  refine sq (fun h1 h1p h1s=>?_) fun h1 h1p h1s=>?_
  try simp only[Q,Int.natCast_inj,Ex.cs_len] at h1p
  exfalso;contradiction
  try simp only[Q,Int.natCast_inj,Ex.cs_len] at h1p
  refine sq (fun h2 h2p h2s=>?_) fun h2 h2p h2s=>?_
  try simp only[Q,Int.natCast_inj,Ex.cs_len] at h2p
  refine rn0 (r1 rfl) (.eqd ?_)
  rotate_left
  try simp only[Q,Int.natCast_inj,Ex.cs_len] at h2p
  refine CWp.loopX (ι:=Nat) hk (fun i=>[(7,.d (.i (i:Int)))]) [6,8,26,27,28,29,30,31,32,33,34,35,36,37,38,39,40,41,42,43,44,45,46,47,48,49,50,51,52,53,54,55,56] (fun i=>[]) (fun i=>i≤f.cls.length∧∀i',i'<i→isE w funs (zcZ w f.ty.arg (nth f.cls i').pat) f.ty.res (nth f.bodies i')=true) (fun i=>f.cls.length-i) 0 ⟨by omega,fun _ h=>absurd h (by omega)⟩ ⟨⟨_,rfl,(LeA.eqi (by first|rfl|(simp;done)|(simp_all;done)|omega))⟩,trivial⟩ trivial (fun x=>rfl) (fun i hg1=>?_)
  refine evc [] [] ?_
  refine sq (fun h3 h3p h3s=>?_) fun h3 h3p h3s=>?_
  try simp only[Q,Int.natCast_inj,Ex.cs_len] at h3p
  refine Walk.idx sl35 .none rfl rfl rfl rfl (zam (by omega)) rfl ?_
  refine evd [] [] ?_
  refine Walk.call (cr:=[]) zgy (hv3 i (by omega)) rfl .none rfl rfl (LeL.refl _) trivial rfl rfl rfl ?_
  refine evd [] [] ?_
  refine dr ?_
  refine Walk.idx sl58 .none rfl rfl rfl rfl (zgC (by omega)) rfl ?_
  refine evd [] [] ?_
  refine Walk.call (cr:=[]) ztf (znK (t:=f.ty.res) (e:=nth f.bodies i) hw haz hfl (by have:=hvl (nth f.cls i).pat;omega) hfa hres (Exs.ok_mem hok.2.2 _ (zae (by omega))) (hz.2 _ (zae (by omega)))) rfl .none rfl rfl (LeL.refl _) trivial rfl rfl rfl ?_
  refine evd [] [] ?_
  refine dr ?_
  refine sq (fun h4 h4p h4s=>?_) fun h4 h4p h4s=>?_
  try simp only[Q,Int.natCast_inj,Ex.cs_len] at h4p
  refine rn0 (r1 rfl) (.eqd ?_)
  rotate_left
  try simp only[Q,Int.natCast_inj,Ex.cs_len] at h4p
  refine ar ?_
  refine Exists.intro (i+1) ⟨⟨by omega,zaF hg1.2 (by assumption)⟩,(by omega),Sub.x (by kernel_rfl) (by kernel_rfl) ⟨⟨_,rfl,(LeA.eqi (by first|rfl|(simp;done)|(simp_all;done)|omega))⟩,trivial⟩ (by kernel_rfl) (by kernel_rfl) trivial⟩
  try simp only[Q,Int.natCast_inj,Ex.cs_len] at h3p
  refine rn0 (r1 rfl) (.eqd ?_)
  rotate_left
  all_goals (refine congrArg D.bool ?_;first|(rw[zkI (by omega)];done)|(rw[zmQ (i:=i) (by omega) (by omega) (by assumption)];done)|(rw[zkH hv (by omega) (fun x hx=>hg1.2 x (by omega))];done))
theorem zjP {w:List Data} (hs:WSmall w){l:List Fu} (hl:FusOk l) (hz:FusSz l):FnD Tryz.prog 46 [.d (zak w),.d (zdL l)] [] (.d (.bool (zez w l))) []:=by
 have hll:=hl.1
 have hfm:=fun(y:Fu) (hy:y∈l) (ho:zdk w (l.map Fu.ty)=true)=>zjm (zk2 ho y.ty (List.mem_map.2 ⟨y,hy,rfl⟩)).2
 have hfa:=fun(ho:zdk w (l.map Fu.ty)=true) (f:Ft) (hf:f∈l.map Fu.ty)=>zjm (zk2 ho f hf).1
 have hml:(l.map Fu.ty).length≤1000000000000:=by simp;omega
 unfold zez
 generalize hF:l.map Fu.ty=funs at *
 have hft:=zkx hl.1
 rw[hF] at hft
 have hWV:=zfL hs
 rw[zf2] at hWV
 refine bd Tryz.f46 32 [] [] fun w0 F0 own kept hk=>?_
 refine Walk.call (cr:=[]) zuL (hft) rfl .none rfl rfl (LeL.refl _) trivial rfl rfl rfl ?_
 refine ev ?_
 refine Walk.call (cr:=[]) zsb (hWV) rfl .none rfl rfl (LeL.refl _) trivial rfl rfl rfl ?_
 refine ev ?_
 refine sq (fun h1 h1p h1s=>?_) fun h1 h1p h1s=>?_
 try simp only[Q,Int.natCast_inj] at h1p
 refine sqT ?_
 refine rn0 (r1 rfl) (.eqd ?_)
 rotate_left
 try simp only[Q,Int.natCast_inj] at h1p
 refine Walk.call (cr:=[]) zuM (zlQ hs.len hml) rfl (.some rfl rfl h1) rfl rfl (LeL.refl _) trivial rfl rfl rfl ?_
 refine evs [] [(12,false)] ?_ ⟨⟨_,rfl,h1⟩,trivial⟩
 refine sq (fun h3 h3p h3s=>?_) fun h3 h3p h3s=>?_
 try simp only[Q,Int.natCast_inj] at h3p
 refine rn0 (r1 rfl) (.eqd ?_)
 rotate_left
 try simp only[Q,Int.natCast_inj] at h3p
 refine CWp.loopX (ι:=List (Fu)×List (Fu)) hk (fun x=>[(6,.d (.i (x.1.length:Int)))]) [4,18,19,20,21,22,23,24,25,26,27,28,29,30,31] (fun x=>[]) (fun x=>x.1++x.2=l∧x.1.all (zcU w funs)=true) (fun x=>x.2.length) ([],l) ⟨by simp,by simp⟩ ⟨⟨_,rfl,(LeA.eqi (by first|rfl|(simp;done)|(simp_all;done)|omega))⟩,trivial⟩ trivial (fun x=>rfl) (fun x hg1=>?_)
 obtain⟨pre,rest⟩:=x
 dsimp only at hg1 ⊢
 refine evc [] [] ?_
 refine sq (fun h4 h4p h4s=>?_) fun h4 h4p h4s=>?_
 try simp only[Q,Int.natCast_inj] at h4p
 rcases rest with _|⟨y,rest⟩
 ·exfalso;simp_all
 refine Walk.idx sl48 .none rfl rfl rfl rfl (zaG hg1.1) rfl ?_
 refine ev ?_
 refine Walk.call (cr:=[]) zuN (znL hs hml (hfa (by assumption)) (f:=y) (hl.2 y (by rw[←hg1.1];simp)) (hz y (by rw[←hg1.1];simp)) (hfm y (by rw[←hg1.1];simp) (by assumption))) rfl .none rfl rfl (LeL.refl _) trivial rfl rfl rfl ?_
 refine ev ?_
 refine sq (fun h5 h5p h5s=>?_) fun h5 h5p h5s=>?_
 try simp only[Q,Int.natCast_inj] at h5p
 refine rn0 (r1 rfl) (.eqd ?_)
 rotate_left
 try simp only[Q,Int.natCast_inj] at h5p
 refine ar ?_
 refine Exists.intro ((pre++[y],rest)) ⟨⟨by simp[hg1.1],by rw[List.all_append,hg1.2];simp only[List.all_cons,List.all_nil,Bool.and_true,Bool.true_and];assumption⟩,(by simp),Sub.x (by kernel_rfl) (by kernel_rfl) ⟨⟨_,rfl,(LeA.eqi (by first|rfl|(simp;done)|(simp_all;done)|omega))⟩,trivial⟩ (by kernel_rfl) (by kernel_rfl) trivial⟩
 try simp only[Q,Int.natCast_inj] at h4p
 have hrest:rest=[]:=by
  rcases rest with _|⟨a,b⟩
  ·rfl
  ·exfalso;have hz:=congrArg List.length (hg1.1);simp only[List.length_append,List.length_cons,List.length_map] at hz;omega
 subst hrest
 refine rn0 (r1 rfl) (.eqd ?_)
 rotate_left
 all_goals (refine congrArg D.bool ?_;first|(simp_all;done)|(rw[zqp hg1.1 (by assumption)];simp_all;done)|(rw[List.append_nil] at hg1;obtain⟨hz',hg2⟩:=hg1;subst hz';simp_all;done))
theorem zdm {a b c d e:Int}{l:List Pat}:(Pat.mk a b c d e l).op=a:=rfl
theorem zcq {a b c d e:Int}{l:List Pat}:(Pat.mk a b c d e l).ctor=b:=rfl
theorem mk_n {a b c d e:Int}{l:List Pat}:(Pat.mk a b c d e l).n=c:=rfl
theorem mk_m {a b c d e:Int}{l:List Pat}:(Pat.mk a b c d e l).m=d:=rfl
theorem zcY {a b c d e:Int}{l:List Pat}:(Pat.mk a b c d e l).var=e:=rfl
theorem zbV {a b c d e:Int}{l:List Pat}:(Pat.mk a b c d e l).kids=l:=rfl
abbrev anyQ:Pat:= .mk 1 0 0 0 0 []
abbrev zsu:Pat:= .mk 0 0 0 0 0 []
mutual
def zaM:Pat→Pat
 | .mk op c n m v ks=>if op=2 then anyQ else if op=6∧ks≠[] then zjt ks else .mk op c n m v (zg0 ks)
def zjt:List Pat→Pat
 | []=>anyQ
 |k::_=>zaM k
def zg0:List Pat→List Pat
 | []=>[]
 |k::r=>zaM k::zg0 r
end
theorem zj6:∀l:List Pat,zg0 l=l.map zaM
 | []=>rfl
 |k::r=>by simp[zg0,zj6 r]
theorem zgx (p:Pat):zaM p=if p.op=2 then anyQ else if p.op=6∧p.kids≠[] then zaM (nth p.kids 0) else .mk p.op p.ctor p.n p.m p.var (p.kids.map zaM):=by
 cases p with|mk op c n m v ks=>
 have e:zaM (.mk op c n m v ks)=if op=2 then anyQ else if op=6∧ks≠[] then zjt ks else .mk op c n m v (zg0 ks):=by conv=>lhs;unfold zaM
 rw[e,zj6]
 by_cases h2:op=2
 ·rw[if_pos h2]
  exact(if_pos (c:=(Pat.mk op c n m v ks).op=2) h2).symm
 ·rw[if_neg h2]
  refine Eq.trans ?_ (if_neg (c:=(Pat.mk op c n m v ks).op=2) h2).symm
  by_cases h6:op=6∧ks≠[]
  ·rw[if_pos h6]
   refine Eq.trans ?_ (if_pos (c:=(Pat.mk op c n m v ks).op=6∧(Pat.mk op c n m v ks).kids≠[]) h6).symm
   cases ks with
   |nil=>exact absurd rfl h6.2
   |cons k r=>rfl
  ·rw[if_neg h6]
   exact(if_neg (c:=(Pat.mk op c n m v ks).op=6∧(Pat.mk op c n m v ks).kids≠[]) h6).symm
def zbp (out:List (List Pat)) (l:List Pat):List (List Pat):=out.flatMap fun q=>l.map fun c=>q++[c]
def zev (ls:List (List Pat)):List (List Pat):=ls.foldl zbp [[]]
mutual
def zax:Pat→List Pat
 | .mk op c n m v ks=>if op=5 then ztY ks else (zev (zjA ks)).map fun l=> .mk op c n m v l
def ztY:List Pat→List Pat
 | []=>[]
 |a::r=>zax a++zsT r
def zsT:List Pat→List Pat
 | []=>[]
 |b::_=>zax b
def zjA:List Pat→List (List Pat)
 | []=>[]
 |k::r=>zax k::zjA r
end
theorem zl3:∀l:List Pat,zjA l=l.map zax
 | []=>rfl
 |k::r=>by simp[zjA,zl3 r]
theorem zeD {p:Pat} (h:p.op≠5):zax p=(zev (p.kids.map zax)).map fun l=> .mk p.op p.ctor p.n p.m p.var l:=by
 cases p with|mk op c n m v ks=>
 have h':¬op=5:=h
 conv=>lhs;unfold zax
 rw[if_neg h',zl3];rfl
theorem zgT {p:Pat} (h:p.op=5) (hk:p.kids.length=2):zax p=zax (nth p.kids 0)++zax (nth p.kids 1):=by
 cases p with|mk op c n m v ks=>
 have h':op=5:=h
 conv=>lhs;unfold zax
 rw[if_pos h']
 have hk':ks.length=2:=hk
 match ks,hk' with
 | [a,b],_=>rfl
mutual
def cntS:Pat→Int
 | .mk op _ _ _ _ ks=>if op=5 then cntO ks 0 else cntM ks 1
def cntO:List Pat→Int→Int
 | [],n=>n
 |k::r,n=>cntO r (cap (n+cntS k))
def cntM:List Pat→Int→Int
 | [],n=>n
 |k::r,n=>cntM r (cap (n*cntS k))
end
theorem zmg (p:Pat):cntS p=if p.op=5 then cntO p.kids 0 else cntM p.kids 1:=by
 cases p with|mk op c n m v ks=>
 conv=>lhs;unfold cntS
 rfl
mutual
theorem zmf:∀p:Pat,0≤cntS p∧cntS p≤401
 | .mk op _ _ _ _ ks=>by
  unfold cntS
  split
  ·exact zpA ks 0 (by omega) (by omega)
  ·exact zpy ks 1 (by omega) (by omega)
theorem zpA:∀(l:List Pat) (n:Int),0≤n→n≤401→0≤cntO l n∧cntO l n≤401
 | [],n,h1,h2=>⟨h1,h2⟩
 |k::r,n,h1,h2=>by
  unfold cntO
  have h3:=zmf k
  have h4:=zkS (x:=n+cntS k) (by omega)
  exact zpA r _ h4.1 h4.2
theorem zpy:∀(l:List Pat) (n:Int),0≤n→n≤401→0≤cntM l n∧cntM l n≤401
 | [],n,h1,h2=>⟨h1,h2⟩
 |k::r,n,h1,h2=>by
  unfold cntM
  have h3:=zmf k
  have h4:=zkS (x:=n*cntS k) (Int.mul_nonneg h1 h3.1)
  exact zpy r _ h4.1 h4.2
end
theorem zqT {l:List Pat}{i:Nat}{n:Int} (h:i<l.length):cntO (l.drop i) n=cntO (l.drop (i+1)) (cap (n+cntS (nth l i))):=by
 rw[zaP h];rfl
theorem zqS {l:List Pat}{i:Nat}{n:Int} (h:i<l.length):cntM (l.drop i) n=cntM (l.drop (i+1)) (cap (n*cntS (nth l i))):=by
 rw[zaP h];rfl
def binP:Nat→Pat→Bool
 |0,_=>false
 |n+1,p=>decide (p.op=5→p.kids.length=2)&&p.kids.all (binP n)
theorem zea {n:Nat}{p:Pat} (h:binP (n+1) p=true){i:Nat} (hi:i<p.kids.length):binP n (nth p.kids i)=true:=by
 unfold binP at h
 rw[Bool.and_eq_true,List.all_eq_true] at h
 exact h.2 _ (zae hi)
theorem zjq {n:Nat}{p:Pat} (h:binP (n+1) p=true) (h5:p.op=5):p.kids.length=2:=by
 unfold binP at h
 rw[Bool.and_eq_true] at h
 exact(of_decide_eq_true h.1) h5
theorem znZ:∀(n:Nat){p:Pat},binP n p=true→binP (n+1) p=true
 |0,p,h=>by simp[binP] at h
 |n+1,p,h=>by
  have h':=h
  unfold binP at h ⊢
  rw[Bool.and_eq_true,List.all_eq_true] at h ⊢
  exact⟨h.1,fun k hk=>znZ n (h.2 k hk)⟩
theorem zha {w:List Data}:∀(n:Nat){t:Ty}{p:Pat},zar w n t p=true→binP n (zaM p)=true
 |0,t,p,h=>by simp[zar] at h
 |n+1,t,p,h=>by
  obtain⟨ho,hlen⟩:=zbX h
  have hany:binP (n+1) anyQ=true:=by simp[binP,anyQ,Pat.op,Pat.kids]
  rw[zgx]
  by_cases h2:p.op=2
  ·rw[if_pos h2];exact hany
  rw[if_neg h2]
  by_cases h6:p.op=6
  ·obtain⟨hl,s0⟩:=zja h h6
   rw[if_pos ⟨h6,fun e=>by rw[e] at hl;simp at hl⟩]
   exact znZ n (zha n s0)
  rw[if_neg (fun h=>h6 h.1)]
  unfold binP
  rw[Bool.and_eq_true,List.all_eq_true]
  refine⟨decide_eq_true (fun h5=>?_),fun k hk=>?_⟩
  ·have:=(zjb h h5).1;simpa [Pat.kids] using this
  ·simp only[Pat.kids,List.mem_map] at hk
   obtain⟨x,hx,rfl⟩:=hk
   obtain⟨i,hi,rfl⟩:=List.getElem_of_mem hx
   have:=zha n (zbW h hi)
   have e:nth p.kids i=p.kids[i]:=za3 hi
   rw[e] at this
   exact this
theorem zfM (out:List (List Pat)) (l:List Pat):(zbp out l).length=out.length*l.length:=by
 unfold zbp
 induction out with
 |nil=>simp
 |cons q r ih=>rw[List.flatMap_cons,List.length_append,ih,List.length_map,List.length_cons,Nat.succ_mul];omega
theorem zqb (ls:List (List Pat)) (l:List Pat):zev (ls++[l])=zbp (zev ls) l:=by unfold zev;rw[List.foldl_append];rfl
theorem zsz {a b:Nat}:cap (cap (a:Int)*cap (b:Int))=cap ((a*b:Nat):Int):=by
 unfold cap
 rcases Nat.eq_zero_or_pos a with rfl|ha
 ·simp
 rcases Nat.eq_zero_or_pos b with rfl|hb
 ·simp
 have h1:a≤a*b:=Nat.le_mul_of_pos_right a hb
 have h2:b≤a*b:=Nat.le_mul_of_pos_left b ha
 have hab:((a*b:Nat):Int)=(a:Int)*(b:Int):=by push_cast;rfl
 by_cases ca:401<(a:Int)
 ·rw[if_pos ca]
  by_cases cb:401<(b:Int)
  ·rw[if_pos cb,if_pos (by omega),if_pos (by omega)]
  ·rw[if_neg cb]
   have h3:(401:Int)*1≤401*(b:Int):=Int.mul_le_mul_of_nonneg_left (by omega) (by omega)
   rw[if_pos (show 401<((a*b:Nat):Int) by omega)]
   split<;>omega
 ·rw[if_neg ca]
  by_cases cb:401<(b:Int)
  ·rw[if_pos cb]
   have h3:(1:Int)*401≤(a:Int)*401:=Int.mul_le_mul_of_nonneg_right (by omega) (by omega)
   rw[if_pos (show 401<((a*b:Nat):Int) by omega)]
   split<;>omega
  ·rw[if_neg cb,hab]
theorem zsx {a b:Nat}:cap (cap (a:Int)+cap (b:Int))=cap ((a+b:Nat):Int):=by
 unfold cap
 push_cast
 split<;>split<;>split<;>(try split)<;>omega
theorem zsy {x:Int}:cap (cap x)=cap x:=by unfold cap;split<;>(try split)<;>omega
theorem zpz:∀(l:List Pat) (out:List (List Pat)),(∀k∈l,cntS k=cap ((zax k).length:Int)∧0<(zax k).length)→cntM l (cap (out.length:Int))=cap (((l.map zax).foldl zbp out).length:Int)∧(0<out.length→0<((l.map zax).foldl zbp out).length)
 | [],out,_=>⟨rfl,fun h=>h⟩
 |k::r,out,h=>by
  have hk:=h k (by simp)
  unfold cntM
  rw[hk.1,zsz]
  have:=zpz r (zbp out (zax k)) (fun x hx=>h x (by simp[hx]))
  rw[zfM] at this
  rw[List.map_cons,List.foldl_cons]
  exact⟨this.1,fun ho=>this.2 (Nat.mul_pos ho hk.2)⟩
theorem zkW:∀(n:Nat){p:Pat},binP n p=true→cntS p=cap ((zax p).length:Int)∧0<(zax p).length
 |0,p,h=>by simp[binP] at h
 |n+1,p,h=>by
  have ih:=fun i (hi:i<p.kids.length)=>zkW n (zea h hi)
  rw[zmg]
  by_cases h5:p.op=5
  ·have hl:=zjq h h5
   rw[if_pos h5,zgT h5 hl,List.length_append]
   have k0:=ih 0 (by omega)
   have k1:=ih 1 (by omega)
   have e:p.kids=[nth p.kids 0,nth p.kids 1]:=by
    match hk:p.kids,hl with
    | [a,b],_=>rfl
   refine⟨?_,by omega⟩
   rw[e]
   simp only[cntO]
   rw[Int.zero_add,k0.1,zsy,k1.1]
   show cap (cap ((zax (nth p.kids 0)).length:Int)+cap ((zax (nth p.kids 1)).length:Int))=_
   rw[zsx];rfl
  ·rw[if_neg h5,zeD h5,List.length_map]
   have:=zpz p.kids [[]] (fun k hk=>by
    obtain⟨i,hi,rfl⟩:=List.getElem_of_mem hk
    have:=ih i hi
    simpa [nth,List.getD,hi] using this)
   exact⟨this.1,this.2 (by simp)⟩
theorem zgE:∀(ls:List (List Pat)) (out:List (List Pat)),(∀l∈ls,0<l.length)→out.length≤(ls.foldl zbp out).length
 | [],out,_=>Nat.le_refl _
 |l::r,out,h=>by
  rw[List.foldl_cons]
  have h1:=zgE r (zbp out l) (fun x hx=>h x (by simp[hx]))
  rw[zfM] at h1
  have h2:out.length≤out.length*l.length:=Nat.le_mul_of_pos_right _ (h l (by simp))
  omega
theorem zik:∀(ls:List (List Pat)) (out:List (List Pat)),(∀l∈ls,0<l.length)→0<out.length→∀l∈ls,l.length≤(ls.foldl zbp out).length
 | [],out,_,_,l,hl=>by simp at hl
 |x::r,out,h,ho,l,hl=>by
  rw[List.foldl_cons]
  have hx:=h x (by simp)
  have hp:0<(zbp out x).length:=by rw[zfM];exact Nat.mul_pos ho hx
  rcases List.mem_cons.1 hl with rfl|hl
  ·have h1:=zgE r (zbp out l) (fun y hy=>h y (by simp[hy]))
   rw[zfM] at h1
   have h2:l.length≤out.length*l.length:=Nat.le_mul_of_pos_left _ ho
   omega
  ·exact zik r (zbp out x) (fun y hy=>h y (by simp[hy])) hp l hl
theorem zhd {n:Nat}{p:Pat} (h:binP (n+1) p=true){i:Nat} (hi:i<p.kids.length):(zax (nth p.kids i)).length≤(zax p).length:=by
 by_cases h5:p.op=5
 ·have hl:=zjq h h5
  rw[zgT h5 hl,List.length_append]
  have:i=0∨i=1:=by omega
  rcases this with rfl|rfl<;>omega
 ·rw[zeD h5,List.length_map]
  refine zik _ [[]] (fun l hl=>?_) (by simp) _ (List.mem_map.2 ⟨_,zae hi,rfl⟩)
  obtain⟨k,hk,rfl⟩:=List.mem_map.1 hl
  obtain⟨j,hj,rfl⟩:=List.getElem_of_mem hk
  have:=(zkW n (zea h hj)).2
  simpa [nth,List.getD,hj] using this
theorem zpr {n:Nat}{p:Pat} (h:binP (n+1) p=true) (h5:p.op≠5) (i:Nat):(zev ((p.kids.take i).map zax)).length≤(zax p).length:=by
 rw[zeD h5,List.length_map]
 have e:p.kids.map zax=(p.kids.take i).map zax++(p.kids.drop i).map zax:=by rw[←List.map_append,List.take_append_drop]
 unfold zev
 rw[e,List.foldl_append]
 refine zgE _ _ (fun l hl=>?_)
 obtain⟨k,hk,rfl⟩:=List.mem_map.1 hl
 obtain⟨j,hj,rfl⟩:=List.getElem_of_mem (List.mem_of_mem_drop hk)
 have:=(zkW n (zea h hj)).2
 simpa [nth,List.getD,hj] using this
def zal (w:List Data):Nat→Ty→Pat→Bool
 |0,_,_=>false
 |n+1,t,p=>(ownP w t p&&decide (p.op=1∨p.op=3∨p.op=4))&&all2 (zal w n) (zac w t p) p.kids
theorem zj5 {α β:Type}{f g:α→β→Bool}:∀ {a:List α}{b:List β},(∀x∈a,∀y∈b,f x y=true→g x y=true)→all2 f a b=true→all2 g a b=true
 | [],[],_,_=>rfl
 |x::r,y::s,h,h2=>by
  simp only[all2,Bool.and_eq_true] at h2 ⊢
  exact⟨h x (by simp) y (by simp) h2.1,zj5 (fun a ha b hb=>h a (by simp[ha]) b (by simp[hb])) h2.2⟩
 | [],_::_,_,h2=>by simp[all2] at h2
 |_::_,[],_,h2=>by simp[all2] at h2
theorem zgc {w:List Data}:∀(n:Nat){t:Ty}{p:Pat},zal w n t p=true→zar w n t p=true
 |0,t,p,h=>by simp[zal] at h
 |n+1,t,p,h=>by
  unfold zal at h
  unfold zar
  simp only[Bool.and_eq_true] at h ⊢
  exact⟨h.1.1,zj5 (fun x _ y _ hh=>zgc n hh) h.2⟩
theorem zfK {w:List Data}:∀(n:Nat){t:Ty}{p:Pat},zal w n t p=true→zal w (n+1) t p=true
 |0,t,p,h=>by simp[zal] at h
 |n+1,t,p,h=>by
  unfold zal at h ⊢
  simp only[Bool.and_eq_true] at h ⊢
  exact⟨h.1,zj5 (fun x _ y _ hh=>zfK n hh) h.2⟩
theorem zcc {w:List Data}{n:Nat}{t:Ty}{p:Pat} (h:zal w n t p=true):p.op=1∨p.op=3∨p.op=4:=by
 cases n with
 |zero=>simp[zal] at h
 |succ n=>unfold zal at h;simp only[Bool.and_eq_true] at h;exact of_decide_eq_true h.1.2
theorem zgL {w:List Data}{n:Nat}{t:Ty}{p:Pat} (h:zal w n t p=true):ownP w t p=true∧p.kids.length=(zac w t p).length:=by
 cases n with
 |zero=>simp[zal] at h
 |succ n=>exact zbX (zgc _ h)
theorem zbt {w:List Data}{n:Nat}{t:Ty}{p:Pat} (h:zal w (n+1) t p=true){i:Nat} (hi:i<p.kids.length):zal w n (nth (zac w t p) i) (nth p.kids i)=true:=by
 have hl:=(zgL h).2
 unfold zal at h
 simp only[Bool.and_eq_true] at h
 exact zrz hl.symm h.2 i (by omega)
theorem zsQ {w:List Data}{t:Ty}{p:Pat}{l:List Pat}:ownP w t (.mk p.op p.ctor p.n p.m p.var l)=ownP w t p:=rfl
theorem zrt {w:List Data}{t:Ty}{p:Pat}{l:List Pat}:zac w t (.mk p.op p.ctor p.n p.m p.var l)=zac w t p:=rfl
theorem zi5:∀(ls:List (List Pat)) (out:List (List Pat)) (l:List Pat),l∈ls.foldl zbp out→∃q∈out,∃r:List Pat,l=q++r∧r.length=ls.length∧∀i,i<ls.length→nth r i∈nth ls i
 | [],out,l,h=>⟨l,h,[],by simp,rfl,fun i hi=>by simp at hi⟩
 |x::rs,out,l,h=>by
  rw[List.foldl_cons] at h
  obtain⟨q,hq,r,e,hl,hm⟩:=zi5 rs (zbp out x) l h
  unfold zbp at hq
  simp only[List.mem_flatMap,List.mem_map] at hq
  obtain⟨q0,hq0,c,hc,rfl⟩:=hq
  refine⟨q0,hq0,c::r,by rw[e];simp,by simp[hl],fun i hi=>?_⟩
  cases i with
  |zero=>exact hc
  |succ i=>exact hm i (by simpa using hi)
theorem ziB {w:List Data}{n:Nat}{t:Ty}:zal w (n+1) t anyQ=true:=by
 unfold zal
 have h1:zac w t anyQ=[]:=by unfold zac;rw[if_neg (by decide),if_neg (by decide),if_neg (by decide)]
 rw[h1]
 have h2:ownP w t anyQ=true:=by unfold ownP;exact decide_eq_true (by simp[anyQ,Pat.op,Pat.var,Pat.n,Pat.m,Pat.ctor])
 rw[h2];rfl
theorem zpS:zax anyQ=[anyQ]:=by
 rw[zeD (by decide)];rfl
theorem zqg {w:List Data}{n:Nat}{t:Ty}{p:Pat} (h:zar w (n+1) t p=true) (h4:p.op≠4) (h5:p.op≠5) (h6:p.op≠6):p.kids=[]:=by
 have hl:=(zbX h).2
 unfold zac at hl
 rw[if_neg h4,if_neg h5,if_neg h6] at hl
 exact List.eq_nil_of_length_eq_zero hl
theorem zgM {w:List Data}:∀(n:Nat){t:Ty}{p:Pat},zar w n t p=true→∀x∈zax (zaM p),zal w n t x=true
 |0,t,p,h=>by simp[zar] at h
 |n+1,t,p,h=>by
  obtain⟨ho,hlen⟩:=zbX h
  have hop:=zrU h
  intro x hx
  rw[zgx] at hx
  by_cases h2:p.op=2
  ·rw[if_pos h2,zpS,List.mem_singleton] at hx
   rw[hx];exact ziB
  rw[if_neg h2] at hx
  by_cases h6:p.op=6
  ·obtain⟨hl,s0⟩:=zja h h6
   rw[if_pos ⟨h6,fun e=>by rw[e] at hl;simp at hl⟩] at hx
   exact zfK n (zgM n s0 x hx)
  rw[if_neg (fun h=>h6 h.1)] at hx
  by_cases h5:p.op=5
  ·obtain⟨hl,s0,s1⟩:=zjb h h5
   have hl2:(p.kids.map zaM).length=2:=by rw[List.length_map];exact hl
   rw[zgT (p:= .mk p.op p.ctor p.n p.m p.var (p.kids.map zaM)) h5 hl2] at hx
   have e0:nth (p.kids.map zaM) 0=zaM (nth p.kids 0):=by
    match hk:p.kids,hl with
    | [a,b],_=>rfl
   have e1:nth (p.kids.map zaM) 1=zaM (nth p.kids 1):=by
    match hk:p.kids,hl with
    | [a,b],_=>rfl
   simp only[zbV] at hx
   rw[e0,e1] at hx
   rcases List.mem_append.1 hx with hx|hx
   ·exact zfK n (zgM n s0 x hx)
   ·exact zfK n (zgM n s1 x hx)
  rw[zeD (p:= .mk p.op p.ctor p.n p.m p.var (p.kids.map zaM)) h5] at hx
  simp only[zbV,zdm,zcq,mk_n,mk_m,zcY,List.mem_map] at hx
  obtain⟨l,hl,rfl⟩:=hx
  obtain⟨q,hq,r,e,hlr,hm⟩:=zi5 _ _ _ hl
  rw[List.mem_singleton] at hq
  rw[hq,List.nil_append] at e
  subst e
  simp only[List.map_map,List.length_map] at hlr hm
  unfold zal
  rw[zsQ,zrt,ho,decide_eq_true (show _∨_∨_ from by rw[zdm];omega),Bool.true_and,Bool.true_and]
  refine zbE (by rw[zbV];omega) (fun i hi=>?_)
  have hm':=hm i (by omega)
  have e2:nth (p.kids.map (zax ∘ zaM)) i=zax (zaM (nth p.kids i)):=by
   rw[za3 (by simp;omega)];simp[nth,List.getD,show i<p.kids.length by omega]
  rw[e2] at hm'
  exact zgM n (zbW h (by omega)) _ hm'
theorem Pats.ok_of:∀ {l:List Pat},(∀k∈l,k.ok)→Pats.ok l
 | [],_=>trivial
 |k::r,h=>⟨h k (by simp),Pats.ok_of (fun x hx=>h x (by simp[hx]))⟩
theorem Pats.size_of {m:Nat}:∀ {l:List Pat},(∀k∈l,k.size≤m)→Pats.size l≤l.length*m
 | [],_=>by simp[Pats.size]
 |k::r,h=>by
  have h1:=h k (by simp)
  have h2:=Pats.size_of (l:=r) (fun x hx=>h x (by simp[hx]))
  simp only[Pats.size,List.length_cons,Nat.succ_mul];omega
mutual
theorem zjp:∀p:Pat,p.ok→(zaM p).ok
 | .mk op c n m v ks,h=>by
  unfold zaM
  split
  ·exact⟨by simp,trivial⟩
  ·split
   ·exact zrI ks h.2
   ·exact⟨by rw[zj6,List.length_map];exact h.1,znY ks h.2⟩
theorem zrI:∀l:List Pat,Pats.ok l→(zjt l).ok
 | [],_=>⟨by simp,trivial⟩
 |k::r,h=>zjp k h.1
theorem znY:∀l:List Pat,Pats.ok l→Pats.ok (zg0 l)
 | [],_=>trivial
 |k::r,h=>⟨zjp k h.1,znY r h.2⟩
end
mutual
theorem zmP:∀p:Pat,(zaM p).size≤p.size
 | .mk op c n m v ks=>by
  unfold zaM
  split
  ·simp[anyQ,Pat.size,Pats.size]
  ·split
   ·have:=zp6 ks;simp only[Pat.size];omega
   ·have:=zkG ks;simp only[Pat.size];omega
theorem zp6:∀l:List Pat,(zjt l).size≤1+Pats.size l
 | []=>by simp[zjt,anyQ,Pat.size,Pats.size]
 |k::r=>by have:=zmP k;simp only[zjt,Pats.size];omega
theorem zkG:∀l:List Pat,Pats.size (zg0 l)≤Pats.size l
 | []=>Nat.le_refl _
 |k::r=>by have:=zmP k;have:=zkG r;simp only[zg0,Pats.size];omega
end
end Go.Proofs.YtfiihhedihkdoaaGreat
namespace Go.Proofs.YtfiihhedihkdoaaGreat
open Go
set_option linter.unusedSimpArgs false
set_option linter.unusedVariables false
def capN (n:Nat):Nat:=if 401<n then 401 else n
end Go.Proofs.YtfiihhedihkdoaaGreat
namespace Go.Proofs.YtfiihhedihkdoaaGreat
open Go
set_option linter.unusedSimpArgs false
set_option linter.unusedVariables false
set_option maxRecDepth 100000
set_option maxHeartbeats 2000000
theorem Val.cs_cc (l:List Val):Val.cs l=l.map Val.cc:=by
 rw[Val.cs_eq];exact List.map_congr_left (fun v _=>Val.c_eq v)
end Go.Proofs.YtfiihhedihkdoaaGreat
namespace Go.Proofs.YtfiihhedihkdoaaGreat
open Go
set_option linter.unusedSimpArgs false
set_option linter.unusedVariables false
theorem Vals.ok_of:∀ {l:List Val},(∀v∈l,v.ok)→Vals.ok l
 | [],_=>trivial
 |v::r,h=>⟨h v (by simp),Vals.ok_of (fun x hx=>h x (List.mem_cons_of_mem _ hx))⟩
end Go.Proofs.YtfiihhedihkdoaaGreat
namespace Go.Proofs.YtfiihhedihkdoaaGreat
open Go
set_option linter.unusedSimpArgs false
set_option linter.unusedVariables false
set_option maxRecDepth 100000
set_option maxHeartbeats 2000000
theorem Pat.cs_cd (l:List Pat):Pat.cs l=l.map Pat.cc:=by
 rw[Pat.cs_eq];exact List.map_congr_left (fun v _=>Pat.c_eq v)
theorem zbd (l:List Pat):∀x∈Pat.cs l,x.length=6:=Pat.cs_rows
theorem zbF (l:List Pat):∀x∈l.map Pat.cc,x.length=6:=fun x hx=>by
 obtain⟨y,_,rfl⟩:=List.mem_map.1 hx;rfl
theorem zpt {p:Pat} (h:p.op=2):zaM p=anyQ:=by rw[zgx,if_pos h]
theorem zpu {p:Pat} (h:p.op=6) (h2:0<p.kids.length):zaM p=zaM (nth p.kids 0):=by
 rw[zgx,if_neg (by omega),if_pos ⟨h,fun e=>by rw[e] at h2;simp at h2⟩]
theorem zpv {p:Pat} (h:p.op≠2) (h2:¬(p.op=6∧0<p.kids.length)):zaM p = .mk p.op p.ctor p.n p.m p.var (p.kids.map zaM):=by
 rw[zgx,if_neg h,if_neg (fun hh=>h2 ⟨hh.1,List.length_pos_iff.2 hh.2⟩)]
theorem zfI:∀(n:Nat){p:Pat},p.size≤n→p.ok→FnD Tryz.prog 136 [.agg [.d (.i p.op),.d (.i p.ctor),.d (.i p.n),.d (.i p.m),.d (.i p.var),.d (zad p.kids)]] [] (.agg [.d (.i p.op),.d (.i p.ctor),.d (.i p.n),.d (.i p.m),.d (.i p.var),.d (zad p.kids)]) []
 |0,p,h,_=>by rw[Pat.size_eq] at h;omega
 |n+1,p,h,hok=>by
  rw[Pat.size_eq] at h
  rw[Pat.ok_iff] at hok
  have hok1:=hok.1
  refine bd Tryz.f136 24 [] [] fun w0 F0 own kept hk=>?_
  refine Walk.box (id:=3001) .none rfl rfl rfl rfl rfl rfl rfl ?_
  refine Walk.alloc (id:=3002) tz77 rfl .none rfl rfl rfl rfl ?_
  refine tv ?_
  refine Walk.store ty28 .none rfl rfl rfl rfl rfl rfl (by simp) rfl ?_
  refine tv ?_
  refine CWp.tokB 3001 5 7 6 rfl rfl rfl rfl ?_
  refine CWp.loopX (ι:=List (Pat)×List (Pat)) hk (fun x=>[(11,.d (.i (x.1.length:Int)))]) [5,12,13,14,15,16,17,18,19,20,21,22] (fun x=>[(3001,some (.box [.d (.i p.op),.d (.i p.ctor),.d (.i p.n),.d (.i p.m),.d (.i p.var),.gl 7 (x.1.map Pat.cc)])),(7,some (.tok (x.1.map Pat.cc).length 6))]) (fun x=>x.1++x.2=p.kids) (fun x=>x.2.length) ([],p.kids) (by simp) ⟨⟨_,rfl,(LeA.eqi (by first|rfl|(simp;done)|(simp_all;done)|omega))⟩,trivial⟩ ⟨(by first|rfl|(simp[getH];done)),⟨zab (by first|rfl|(simp;done)|(simp;omega)|(first|rfl|(simp;done)|(simp_all;done)|omega)),trivial⟩⟩ (fun x=>rfl) (fun x hg1=>?_)
  obtain⟨pre,rest⟩:=x
  dsimp only at hg1 ⊢
  refine evc [] [] ?_
  refine sq (fun h1 h1p h1s=>?_) fun h1 h1p h1s=>?_
  try simp only[Q,Pat.cs_len] at h1p
  rcases rest with _|⟨y,rest⟩
  ·exfalso;simp_all
  refine Walk.idx sl28 .none rfl rfl rfl rfl (Pat.cs_at' hg1) rfl ?_
  refine ev ?_
  refine Walk.alloc (id:=3005) tz77 rfl .none rfl rfl rfl rfl ?_
  refine Walk.store ty77 .none rfl rfl rfl rfl rfl rfl (by simp) rfl ?_
  refine tv ?_
  refine Walk.call (cr:=[]) zqv (zfI n (p:=y) (by have:=Pats.size_mem (l:=p.kids) (v:=y) (by rw[←hg1];simp);omega) (Pats.ok_mem hok.2 y (by rw[←hg1];simp))) rfl .none rfl rfl (LeL.refl _) trivial rfl rfl rfl ?_
  refine Walk.sliceLit sl28 tz77 rfl (by decide) (ks:=[0]) (xs:=[_]) rfl rfl (by decide) (by decide) .none rfl rfl rfl rfl ?_
  refine Walk.append sl28 zz77 rfl .none rfl rfl rfl rfl (zaz rfl (by first|rfl|(simp;done)|(simp;omega))) (by intro x hx;first|(simp at hx;subst hx;rfl)|exact zbF _ x hx) (by have:=congrArg List.length hg1;simp at this;simp;omega) (by have:=congrArg List.length hg1;simp at this;simp;omega) ?_
  refine evd [] [] ?_
  refine Walk.store ty28 .none rfl rfl rfl rfl rfl rfl (by simp) rfl ?_
  refine dr ?_
  refine ar ?_
  refine Exists.intro ((pre++[y],rest)) ⟨(by have hz:=hg1;rw[←hz];simp),(by simp),Sub.x (by kernel_rfl) (by kernel_rfl) ⟨⟨_,rfl,(LeA.eqi (by first|rfl|(simp;done)|(simp_all;done)|omega))⟩,trivial⟩ (by kernel_rfl) (by kernel_rfl) ⟨(by first|rfl|(simp[getH];done)),⟨zab (by first|rfl|(simp;done)|(simp;omega)|(first|rfl|(simp;done)|(simp_all;done)|omega)),trivial⟩⟩⟩
  try simp only[Q,Pat.cs_len] at h1p
  have hrest:rest=[]:=by
   rcases rest with _|⟨a,b⟩
   ·rfl
   ·exfalso;have hz:=congrArg List.length (hg1);simp only[List.length_append,List.length_cons,List.length_map] at hz;omega
  subst hrest
  refine Walk.store ty77 .none rfl rfl rfl rfl rfl rfl (by simp) rfl ?_
  refine tv ?_
  refine rn0 (.cons (.cellA ty77 rfl rfl rfl) .nil) (.agg (.cons (.eqd ?_) (.cons (.eqd ?_) (.cons (.eqd ?_) (.cons (.eqd ?_) (.cons (.eqd ?_) (.cons (.gld ?_) .nil)))))))
  rotate_left 6
  all_goals (first|rfl|(rw[List.append_nil] at hg1;rw[←hg1,Pat.cs_cd];done))
theorem ziw {l:List Pat} (h:l.length≤1000000000000) (hok:∀p∈l,p.ok):FnD Tryz.prog 76 [.d (zad l)] [] (.d (zad l)) []:=by
 refine bd Tryz.f76 19 [3] [] fun w0 F0 own kept hk=>?_
 refine Walk.assignNil 1 6 .none rfl rfl ?_
 refine tv ?_
 refine CWp.loopX (ι:=List (Pat)×List (Pat)) hk (fun x=>[(8,.d (.i (x.1.length:Int))),(3,.gl 1 (x.1.map Pat.cc))]) [5,9,10,11,12,13,14,15,16,17] (fun x=>[(1,some (.tok ((x.1.map Pat.cc)).length 6))]) (fun x=>x.1++x.2=l) (fun x=>x.2.length) ([],l) (by simp) ⟨⟨_,rfl,(LeA.eqi (by first|rfl|(simp;done)|(simp_all;done)|omega))⟩,⟨⟨_,rfl,(LeA.glg (by first|rfl|(simp;done)|(simp_all;done)|omega))⟩,trivial⟩⟩ ⟨zab (by first|rfl|(simp;done)|(simp;omega)|(first|rfl|(simp;done)|(simp_all;done)|omega)),trivial⟩ (fun x=>rfl) (fun x hg1=>?_)
 obtain⟨pre,rest⟩:=x
 dsimp only at hg1 ⊢
 refine evc [3] [] ?_
 refine sq (fun h1 h1p h1s=>?_) fun h1 h1p h1s=>?_
 try simp only[Q,Pat.cs_len] at h1p
 rcases rest with _|⟨y,rest⟩
 ·exfalso;simp_all
 refine Walk.idx sl28 .none rfl rfl rfl rfl (Pat.cs_at' hg1) rfl ?_
 refine evs [3] [] ?_
 refine Walk.alloc (id:=3005) tz77 rfl .none rfl rfl rfl rfl ?_
 refine Walk.store ty77 .none rfl rfl rfl rfl rfl rfl (by simp) rfl ?_
 refine tv ?_
 refine Walk.call (cr:=[]) zqv (zfI _ (Nat.le_refl _) (hok y (by rw[←hg1];simp))) rfl .none rfl rfl (LeL.refl _) trivial rfl rfl rfl ?_
 refine Walk.sliceLit sl28 tz77 rfl (by decide) (ks:=[0]) (xs:=[_]) rfl rfl (by decide) (by decide) .none rfl rfl rfl rfl ?_
 refine Walk.append sl28 zz77 rfl .none rfl rfl rfl rfl (zaz rfl (by first|rfl|(simp;done)|(simp;omega))) (by intro x hx;simp at hx;subst hx;rfl) (by have:=congrArg List.length hg1;simp at this;simp;omega) (by have:=congrArg List.length hg1;simp at this;simp;omega) ?_
 refine asg ?_
 refine tv ?_
 refine ar ?_
 refine Exists.intro ((pre++[y],rest)) ⟨(by have hz:=hg1;rw[←hz];simp),(by simp),Sub.x (by kernel_rfl) (by kernel_rfl) ⟨⟨_,rfl,(LeA.eqi (by first|rfl|(simp;done)|(simp_all;done)|omega))⟩,⟨⟨_,rfl,(LeA.glg (by first|rfl|(simp;done)|(simp_all;done)|omega))⟩,trivial⟩⟩ (by kernel_rfl) (by kernel_rfl) ⟨zab (by first|rfl|(simp;done)|(simp;omega)|(first|rfl|(simp;done)|(simp_all;done)|omega)),trivial⟩⟩
 try simp only[Q,Pat.cs_len] at h1p
 have hrest:rest=[]:=by
  rcases rest with _|⟨a,b⟩
  ·rfl
  ·exfalso;have hz:=congrArg List.length (hg1);simp only[List.length_append,List.length_cons,List.length_map] at hz;omega
 subst hrest
 refine rn0 (r1 rfl) (.gld ?_)
 rotate_left
 all_goals (first|rfl|(rw[List.append_nil] at hg1;rw[←hg1,Pat.cs_cd];done))
theorem zd2:FnD Tryz.prog 38 [] [] (.agg [.d (.i 1),.d (.i 0),.d (.i 0),.d (.i 0),.d (.i 0),.d (.sl [])]) []:=by
 refine bd Tryz.f38 2 [] [] fun w0 F0 own kept hk=>?_
 refine Walk.alloc (id:=3000) tz77 rfl .none rfl rfl rfl rfl ?_
 refine tv ?_
 refine Walk.build st77 (ks:=[0]) (xs:=[_]) rfl rfl .none rfl rfl rfl ?_
 refine Walk.store ty77 .none rfl rfl rfl rfl rfl rfl (by simp) rfl ?_
 refine tv ?_
 focus (refine rn0 (.cons (.cellA ty77 rfl rfl rfl) .nil) (.agg (.cons (.eqd ?_) (.cons (.eqd ?_) (.cons (.eqd ?_) (.cons (.eqd ?_) (.cons (.eqd ?_) (.cons (.nild ?_) .nil)))))));all_goals (first|rfl|(simp[];done)|(simp_all;done)|(simp_all;omega)|omega))
theorem zc0:∀(n:Nat){p:Pat},p.size≤n→p.ok→FnD Tryz.prog 119 [.agg [.d (.i p.op),.d (.i p.ctor),.d (.i p.n),.d (.i p.m),.d (.i p.var),.d (zad p.kids)]] [] (.agg [.d (.i (zaM p).op),.d (.i (zaM p).ctor),.d (.i (zaM p).n),.d (.i (zaM p).m),.d (.i (zaM p).var),.d (zad (zaM p).kids)]) []
 |0,p,h,_=>by rw[Pat.size_eq] at h;omega
 |n+1,p,h,hok=>by
  rw[Pat.size_eq] at h
  rw[Pat.ok_iff] at hok
  have hok1:=hok.1
  by_cases h2:p.op=2
  ·rw[zpt h2]
   refine bd Tryz.f119 44 [] [] fun w0 F0 own kept hk=>?_
   refine Walk.box (id:=3001) .none rfl rfl rfl rfl rfl rfl rfl ?_
   refine Walk.alloc (id:=3002) tz77 rfl .none rfl rfl rfl rfl ?_
   refine tv ?_
   refine sq (fun h1 h1p h1s=>?_) fun h1 h1p h1s=>?_
   try simp only[Q] at h1p
   refine Walk.call (cr:=[]) zpW (zd2) rfl .none rfl rfl (LeL.refl _) trivial rfl rfl rfl ?_
   refine Walk.store ty77 .none rfl rfl rfl rfl rfl rfl (by simp) rfl ?_
   refine tv ?_
   refine rn0 (.cons (.cellA ty77 rfl rfl rfl) .nil) (.agg (.cons (.eqd ?_) (.cons (.eqd ?_) (.cons (.eqd ?_) (.cons (.eqd ?_) (.cons (.eqd ?_) (.cons (.eqd ?_) .nil)))))))
   rotate_left 6
   try simp only[Q] at h1p
   exfalso;omega
   all_goals (rfl)
  by_cases h6:p.op=6∧0<p.kids.length
  ·rw[zpu h6.1 h6.2]
   refine bd Tryz.f119 44 [] [] fun w0 F0 own kept hk=>?_
   refine Walk.box (id:=3001) .none rfl rfl rfl rfl rfl rfl rfl ?_
   refine Walk.alloc (id:=3002) tz77 rfl .none rfl rfl rfl rfl ?_
   refine tv ?_
   refine sq (fun h1 h1p h1s=>?_) fun h1 h1p h1s=>?_
   try simp only[Q,Pat.cs_len] at h1p
   exfalso;omega
   try simp only[Q,Pat.cs_len] at h1p
   refine sq (fun h2 h2p h2s=>?_) fun h2 h2p h2s=>?_
   try simp only[Q,Pat.cs_len] at h2p
   refine sq (fun h3 h3p h3s=>?_) fun h3 h3p h3s=>?_
   try simp only[Q,Pat.cs_len] at h3p
   refine Walk.idx (i:=0) sl28 .none rfl rfl rfl rfl (zaC h6.2) rfl ?_
   refine ev ?_
   refine Walk.call (cr:=[]) ziF (zc0 n (p:=nth p.kids 0) (by have:=Pats.size_mem (zae h6.2);omega) (Pats.ok_mem hok.2 _ (zae h6.2))) rfl .none rfl rfl (LeL.refl _) trivial rfl rfl rfl ?_
   refine Walk.store ty77 .none rfl rfl rfl rfl rfl rfl (by simp) rfl ?_
   refine tv ?_
   refine rn0 (.cons (.cellA ty77 rfl rfl rfl) .nil) (.agg (.cons (.eqd ?_) (.cons (.eqd ?_) (.cons (.eqd ?_) (.cons (.eqd ?_) (.cons (.eqd ?_) (.cons (.eqd ?_) .nil)))))))
   rotate_left 6
   try simp only[Q,Pat.cs_len] at h3p
   exfalso;first|omega|(simp_all;done)
   try simp only[Q,Pat.cs_len] at h2p
   exfalso;omega
   all_goals (rfl)
  ·rw[zpv h2 h6]
   refine bd Tryz.f119 44 [] [] fun w0 F0 own kept hk=>?_
   refine Walk.box (id:=3001) .none rfl rfl rfl rfl rfl rfl rfl ?_
   refine Walk.alloc (id:=3002) tz77 rfl .none rfl rfl rfl rfl ?_
   refine tv ?_
   refine sq (fun h1 h1p h1s=>?_) fun h1 h1p h1s=>?_
   try simp only[Q,Pat.cs_len] at h1p
   exfalso;omega
   try simp only[Q,Pat.cs_len] at h1p
   refine sq (fun h2 h2p h2s=>?_) fun h2 h2p h2s=>?_
   try simp only[Q,Pat.cs_len] at h2p
   refine sq (fun h3 h3p h3s=>?_) fun h3 h3p h3s=>?_
   try simp only[Q,Pat.cs_len] at h3p
   exfalso;apply h6;first|omega|(simp_all;done)
   try simp only[Q,Pat.cs_len] at h3p
   refine Walk.store ty28 .none rfl rfl rfl rfl rfl rfl (by simp) rfl ?_
   refine tv ?_
   refine CWp.tokB 3001 5 7 6 rfl rfl rfl rfl ?_
   refine CWp.loopX (ι:=List (Pat)×List (Pat)) hk (fun x=>[(31,.d (.i (x.1.length:Int)))]) [5,32,33,34,35,36,37,38,39,40,41,42] (fun x=>[(3001,some (.box [.d (.i p.op),.d (.i p.ctor),.d (.i p.n),.d (.i p.m),.d (.i p.var),.gl 7 ((x.1.map zaM).map Pat.cc)])),(7,some (.tok ((x.1.map zaM).map Pat.cc).length 6))]) (fun x=>x.1++x.2=p.kids) (fun x=>x.2.length) ([],p.kids) (by simp) ⟨⟨_,rfl,(LeA.eqi (by first|rfl|(simp;done)|(simp_all;done)|omega))⟩,trivial⟩ ⟨(by first|rfl|(simp[getH];done)),⟨zab (by first|rfl|(simp;done)|(simp;omega)|(first|rfl|(simp;done)|(simp_all;done)|omega)),trivial⟩⟩ (fun x=>rfl) (fun x hg1=>?_)
   obtain⟨pre,rest⟩:=x
   dsimp only at hg1 ⊢
   refine evc [] [] ?_
   refine sq (fun h4 h4p h4s=>?_) fun h4 h4p h4s=>?_
   try simp only[Q,Pat.cs_len] at h4p
   rcases rest with _|⟨y,rest⟩
   ·exfalso;simp_all
   refine Walk.idx sl28 .none rfl rfl rfl rfl (Pat.cs_at' hg1) rfl ?_
   refine ev ?_
   refine Walk.alloc (id:=3005) tz77 rfl .none rfl rfl rfl rfl ?_
   refine Walk.store ty77 .none rfl rfl rfl rfl rfl rfl (by simp) rfl ?_
   refine tv ?_
   refine Walk.call (cr:=[]) ziF (zc0 n (p:=y) (by have:=Pats.size_mem (l:=p.kids) (v:=y) (by rw[←hg1];simp);omega) (Pats.ok_mem hok.2 y (by rw[←hg1];simp))) rfl .none rfl rfl (LeL.refl _) trivial rfl rfl rfl ?_
   refine Walk.sliceLit sl28 tz77 rfl (by decide) (ks:=[0]) (xs:=[_]) rfl rfl (by decide) (by decide) .none rfl rfl rfl rfl ?_
   refine Walk.append sl28 zz77 rfl .none rfl rfl rfl rfl (zaz rfl (by first|rfl|(simp;done)|(simp;omega))) (by intro x hx;first|(simp at hx;subst hx;rfl)|exact zbF _ x hx) (by have:=congrArg List.length hg1;simp at this;simp;omega) (by have:=congrArg List.length hg1;simp at this;simp;omega) ?_
   refine evd [] [] ?_
   refine Walk.store ty28 .none rfl rfl rfl rfl rfl rfl (by simp) rfl ?_
   refine dr ?_
   refine ar ?_
   refine Exists.intro ((pre++[y],rest)) ⟨(by have hz:=hg1;rw[←hz];simp),(by simp),Sub.x (by kernel_rfl) (by kernel_rfl) ⟨⟨_,rfl,(LeA.eqi (by first|rfl|(simp;done)|(simp_all;done)|omega))⟩,trivial⟩ (by kernel_rfl) (by kernel_rfl) ⟨(by first|rfl|(simp[getH];done)),⟨zab (by first|rfl|(simp;done)|(simp;omega)|(first|rfl|(simp;done)|(simp_all;done)|omega)),trivial⟩⟩⟩
   try simp only[Q,Pat.cs_len] at h4p
   have hrest:rest=[]:=by
    rcases rest with _|⟨a,b⟩
    ·rfl
    ·exfalso;have hz:=congrArg List.length (hg1);simp only[List.length_append,List.length_cons,List.length_map] at hz;omega
   subst hrest
   refine Walk.store ty77 .none rfl rfl rfl rfl rfl rfl (by simp) rfl ?_
   refine tv ?_
   refine rn0 (.cons (.cellA ty77 rfl rfl rfl) .nil) (.agg (.cons (.eqd ?_) (.cons (.eqd ?_) (.cons (.eqd ?_) (.cons (.eqd ?_) (.cons (.eqd ?_) (.cons (.gld ?_) .nil)))))))
   rotate_left 6
   try simp only[Q,Pat.cs_len] at h2p
   refine sqF ?_
   refine Walk.store ty28 .none rfl rfl rfl rfl rfl rfl (by simp) rfl ?_
   refine tv ?_
   refine CWp.tokB 3001 5 7 6 rfl rfl rfl rfl ?_
   refine CWp.loopX (ι:=List (Pat)×List (Pat)) hk (fun x=>[(31,.d (.i (x.1.length:Int)))]) [5,32,33,34,35,36,37,38,39,40,41,42] (fun x=>[(3001,some (.box [.d (.i p.op),.d (.i p.ctor),.d (.i p.n),.d (.i p.m),.d (.i p.var),.gl 7 ((x.1.map zaM).map Pat.cc)])),(7,some (.tok ((x.1.map zaM).map Pat.cc).length 6))]) (fun x=>x.1++x.2=p.kids) (fun x=>x.2.length) ([],p.kids) (by simp) ⟨⟨_,rfl,(LeA.eqi (by first|rfl|(simp;done)|(simp_all;done)|omega))⟩,trivial⟩ ⟨(by first|rfl|(simp[getH];done)),⟨zab (by first|rfl|(simp;done)|(simp;omega)|(first|rfl|(simp;done)|(simp_all;done)|omega)),trivial⟩⟩ (fun x=>rfl) (fun x hg1=>?_)
   obtain⟨pre,rest⟩:=x
   dsimp only at hg1 ⊢
   refine evc [] [] ?_
   refine sq (fun h6 h6p h6s=>?_) fun h6 h6p h6s=>?_
   try simp only[Q,Pat.cs_len] at h6p
   rcases rest with _|⟨y,rest⟩
   ·exfalso;simp_all
   refine Walk.idx sl28 .none rfl rfl rfl rfl (Pat.cs_at' hg1) rfl ?_
   refine ev ?_
   refine Walk.alloc (id:=3005) tz77 rfl .none rfl rfl rfl rfl ?_
   refine Walk.store ty77 .none rfl rfl rfl rfl rfl rfl (by simp) rfl ?_
   refine tv ?_
   refine Walk.call (cr:=[]) ziF (zc0 n (p:=y) (by have:=Pats.size_mem (l:=p.kids) (v:=y) (by rw[←hg1];simp);omega) (Pats.ok_mem hok.2 y (by rw[←hg1];simp))) rfl .none rfl rfl (LeL.refl _) trivial rfl rfl rfl ?_
   refine Walk.sliceLit sl28 tz77 rfl (by decide) (ks:=[0]) (xs:=[_]) rfl rfl (by decide) (by decide) .none rfl rfl rfl rfl ?_
   refine Walk.append sl28 zz77 rfl .none rfl rfl rfl rfl (zaz rfl (by first|rfl|(simp;done)|(simp;omega))) (by intro x hx;first|(simp at hx;subst hx;rfl)|exact zbF _ x hx) (by have:=congrArg List.length hg1;simp at this;simp;omega) (by have:=congrArg List.length hg1;simp at this;simp;omega) ?_
   refine evd [] [] ?_
   refine Walk.store ty28 .none rfl rfl rfl rfl rfl rfl (by simp) rfl ?_
   refine dr ?_
   refine ar ?_
   refine Exists.intro ((pre++[y],rest)) ⟨(by have hz:=hg1;rw[←hz];simp),(by simp),Sub.x (by kernel_rfl) (by kernel_rfl) ⟨⟨_,rfl,(LeA.eqi (by first|rfl|(simp;done)|(simp_all;done)|omega))⟩,trivial⟩ (by kernel_rfl) (by kernel_rfl) ⟨(by first|rfl|(simp[getH];done)),⟨zab (by first|rfl|(simp;done)|(simp;omega)|(first|rfl|(simp;done)|(simp_all;done)|omega)),trivial⟩⟩⟩
   try simp only[Q,Pat.cs_len] at h6p
   have hrest:rest=[]:=by
    rcases rest with _|⟨a,b⟩
    ·rfl
    ·exfalso;have hz:=congrArg List.length (hg1);simp only[List.length_append,List.length_cons,List.length_map] at hz;omega
   subst hrest
   refine Walk.store ty77 .none rfl rfl rfl rfl rfl rfl (by simp) rfl ?_
   refine tv ?_
   refine rn0 (.cons (.cellA ty77 rfl rfl rfl) .nil) (.agg (.cons (.eqd ?_) (.cons (.eqd ?_) (.cons (.eqd ?_) (.cons (.eqd ?_) (.cons (.eqd ?_) (.cons (.gld ?_) .nil)))))))
   rotate_left 6
   all_goals (first|rfl|(rw[List.append_nil] at hg1;rw[←hg1,Pat.cs_cd];done)|(rw[List.append_nil] at hg1;subst hg1;rw[←Pat.cs_cd];all_goals rfl))
theorem zd3:∀(n:Nat){p:Pat},p.size≤n→p.ok→FnD Tryz.prog 120 [.agg [.d (.i p.op),.d (.i p.ctor),.d (.i p.n),.d (.i p.m),.d (.i p.var),.d (zad p.kids)]] [] (.d (.i (cntS p))) []
 |0,p,h,_=>by rw[Pat.size_eq] at h;omega
 |n+1,p,h,hok=>by
  rw[Pat.size_eq] at h
  rw[Pat.ok_iff] at hok
  have hok1:=hok.1
  have hbd:=fun i=>zmf (nth p.kids i)
  by_cases h5:p.op=5
  ·rw[zmg,if_pos h5]
   refine bd Tryz.f120 31 [] [] fun w0 F0 own kept hk=>?_
   refine Walk.box (id:=3001) .none rfl rfl rfl rfl rfl rfl rfl ?_
   refine ev ?_
   refine sq (fun h1 h1p h1s=>?_) fun h1 h1p h1s=>?_
   try simp only[Q,Pat.cs_len] at h1p
   refine CWp.loopX (ι:=Nat×Int) hk (fun x=>[(12,.d (.i (x.1:Int))),(3,.d (.i x.2))]) [5,13,14,15,16,17,18,19,20,21,22,23,24,25,26,27,28,29] (fun x=>[]) (fun x=>x.1≤p.kids.length∧cntO (p.kids.drop x.1) x.2=cntO p.kids 0∧0≤x.2∧x.2≤401) (fun x=>p.kids.length-x.1) (0,0) ⟨by simp,rfl,by simp,by simp⟩ ⟨⟨_,rfl,(LeA.eqi (by first|rfl|(dsimp only;omega)|(simp;done)))⟩,⟨⟨_,rfl,(LeA.eqi (by first|rfl|(dsimp only;omega)|(simp;done)))⟩,trivial⟩⟩ trivial (fun x=>rfl) (fun x hg1=>?_)
   refine evc [] [] ?_
   refine sq (fun h2 h2p h2s=>?_) fun h2 h2p h2s=>?_
   try simp only[Q,Pat.cs_len] at h2p
   refine Walk.idx sl28 .none rfl rfl rfl rfl (zaC (by omega)) rfl ?_
   refine ev ?_
   refine Walk.alloc (id:=3005) tz77 rfl .none rfl rfl rfl rfl ?_
   refine Walk.store ty77 .none rfl rfl rfl rfl rfl rfl (by simp) rfl ?_
   refine tv ?_
   refine sq (fun h3 h3p h3s=>?_) fun h3 h3p h3s=>?_
   try simp only[Q,Pat.cs_len] at h3p
   refine Walk.call (cr:=[]) zkJ (zd3 n (p:=nth p.kids x.1) (by have:=Pats.size_mem (zae (l:=p.kids) (i:=x.1) (by omega));omega) (Pats.ok_mem hok.2 _ (zae (by omega)))) rfl .none rfl rfl (LeL.refl _) trivial rfl rfl rfl ?_
   refine ev ?_
   refine ar ?_ (by first|(constructor<;>omega)|(have hb:=hbd x.1;constructor<;>omega)|(constructor<;>simp[Pat.cs_len]<;>omega))
   refine Walk.minI .none rfl rfl rfl ?_
   refine ev ?_
   refine ar ?_ (by first|(constructor<;>omega)|(have hb:=hbd x.1;constructor<;>omega)|(constructor<;>simp[Pat.cs_len]<;>omega))
   refine Exists.intro ((x.1+1,cap (x.2+cntS (nth p.kids x.1)))) ⟨(by
        have hb:=hbd x.1
        have hc:=zkS (x:=x.2+cntS (nth p.kids x.1)) (by omega)
        exact⟨by dsimp only;omega,by dsimp only;rw[←zqT (by omega)];exact hg1.2.1,hc.1,hc.2⟩),(by dsimp only;omega),Sub.x (by kernel_rfl) (by kernel_rfl) ⟨⟨_,rfl,(LeA.eqi (by first|rfl|(dsimp only;omega)|(simp;done)))⟩,⟨⟨_,rfl,(LeA.eqi (by first|rfl|(dsimp only;omega)|(simp;done)))⟩,trivial⟩⟩ (by kernel_rfl) (by kernel_rfl) trivial⟩
   try simp only[Q,Pat.cs_len] at h3p
   exfalso;omega
   try simp only[Q,Pat.cs_len] at h2p
   refine rn0 (r1 rfl) (.eqd ?_)
   rotate_left
   try simp only[Q,Pat.cs_len] at h1p
   exfalso;omega
   all_goals (refine congrArg D.i ?_;rw[←hg1.2.1,List.drop_eq_nil_of_le (by omega)];rfl)
  ·rw[zmg,if_neg h5]
   refine bd Tryz.f120 31 [] [] fun w0 F0 own kept hk=>?_
   refine Walk.box (id:=3001) .none rfl rfl rfl rfl rfl rfl rfl ?_
   refine ev ?_
   refine sq (fun h1 h1p h1s=>?_) fun h1 h1p h1s=>?_
   try simp only[Q,Pat.cs_len] at h1p
   exfalso;omega
   try simp only[Q,Pat.cs_len] at h1p
   refine CWp.loopX (ι:=Nat×Int) hk (fun x=>[(12,.d (.i (x.1:Int))),(3,.d (.i x.2))]) [5,13,14,15,16,17,18,19,20,21,22,23,24,25,26,27,28,29] (fun x=>[]) (fun x=>x.1≤p.kids.length∧cntM (p.kids.drop x.1) x.2=cntM p.kids 1∧0≤x.2∧x.2≤401) (fun x=>p.kids.length-x.1) (0,1) ⟨by simp,rfl,by simp,by simp⟩ ⟨⟨_,rfl,(LeA.eqi (by first|rfl|(dsimp only;omega)|(simp;done)))⟩,⟨⟨_,rfl,(LeA.eqi (by first|rfl|(dsimp only;omega)|(simp;done)))⟩,trivial⟩⟩ trivial (fun x=>rfl) (fun x hg1=>?_)
   refine evc [] [] ?_
   refine sq (fun h2 h2p h2s=>?_) fun h2 h2p h2s=>?_
   try simp only[Q,Pat.cs_len] at h2p
   refine Walk.idx sl28 .none rfl rfl rfl rfl (zaC (by omega)) rfl ?_
   refine ev ?_
   refine Walk.alloc (id:=3005) tz77 rfl .none rfl rfl rfl rfl ?_
   refine Walk.store ty77 .none rfl rfl rfl rfl rfl rfl (by simp) rfl ?_
   refine tv ?_
   refine sq (fun h3 h3p h3s=>?_) fun h3 h3p h3s=>?_
   try simp only[Q,Pat.cs_len] at h3p
   exfalso;omega
   try simp only[Q,Pat.cs_len] at h3p
   refine Walk.call (cr:=[]) zkJ (zd3 n (p:=nth p.kids x.1) (by have:=Pats.size_mem (zae (l:=p.kids) (i:=x.1) (by omega));omega) (Pats.ok_mem hok.2 _ (zae (by omega)))) rfl .none rfl rfl (LeL.refl _) trivial rfl rfl rfl ?_
   refine ev ?_
   refine ar ?_ (by first|(constructor<;>omega)|(have hb:=hbd x.1;have h3:=Int.mul_le_mul hg1.2.2.2 hb.2 hb.1 (by omega);have h4:=Int.mul_nonneg hg1.2.2.1 hb.1;constructor<;>omega)|(constructor<;>simp[Pat.cs_len]<;>omega))
   refine Walk.minI .none rfl rfl rfl ?_
   refine ev ?_
   refine ar ?_ (by first|(constructor<;>omega)|(have hb:=hbd x.1;have h3:=Int.mul_le_mul hg1.2.2.2 hb.2 hb.1 (by omega);have h4:=Int.mul_nonneg hg1.2.2.1 hb.1;constructor<;>omega)|(constructor<;>simp[Pat.cs_len]<;>omega))
   refine Exists.intro ((x.1+1,cap (x.2*cntS (nth p.kids x.1)))) ⟨(by
        have hb:=hbd x.1
        have hc:=zkS (x:=x.2*cntS (nth p.kids x.1)) (Int.mul_nonneg hg1.2.2.1 hb.1)
        exact⟨by dsimp only;omega,by dsimp only;rw[←zqS (by omega)];exact hg1.2.1,hc.1,hc.2⟩),(by dsimp only;omega),Sub.x (by kernel_rfl) (by kernel_rfl) ⟨⟨_,rfl,(LeA.eqi (by first|rfl|(dsimp only;omega)|(simp;done)))⟩,⟨⟨_,rfl,(LeA.eqi (by first|rfl|(dsimp only;omega)|(simp;done)))⟩,trivial⟩⟩ (by kernel_rfl) (by kernel_rfl) trivial⟩
   try simp only[Q,Pat.cs_len] at h2p
   refine rn0 (r1 rfl) (.eqd ?_)
   rotate_left
   all_goals (refine congrArg D.i ?_;rw[←hg1.2.1,List.drop_eq_nil_of_le (by omega)];rfl)
theorem ze9 {xs:List Pat} (hs:xs.length≤1000000000000):FnD Tryz.prog 126 [.d (zad xs)] [] (.gl 77 (Pat.cs xs)) [(77,some (.tok (Pat.cs xs).length 6))]:=by
 refine Fn.body (fn:=Tryz.f126) (n:=8) rfl rfl rfl rfl rfl (fun w0 F0 own kept hk=>?_)
 refine CWp.splitNil 0 rfl (fun hx0=>?_) ?_
 refine evc [2,4] [] ?_
 refine asg ?_
 refine tv ?_
 refine Walk.eqNilT sl28 .none rfl rfl ?_
 refine tv ?_
 refine sqT ?_
 refine Walk.assignNil 77 6 .none rfl rfl ?_
 refine tv ?_
 refine rn [(77,some (.tok (Pat.cs xs).length 6))] (r1 rfl) (.glg ?_) ⟨rfl,rfl⟩ (SubH.get ⟨?_,trivial⟩) (zbv rfl)
 rotate_left 2
 refine evc [2,4] [] ?_
 refine asg ?_
 refine tv ?_
 refine Walk.eqNilF sl28 .none rfl rfl ?_
 refine tv ?_
 refine sqF ?_
 refine Walk.sliceEmptyG 77 sl28 .none rfl rfl ?_
 refine evs [2,4] [] ?_
 refine Walk.append sl28 zz77 rfl .none rfl rfl rfl rfl (zaz rfl (by first|rfl|(simp;done)|(simp;omega))) (by intro y hy;rw[Pat.cs_cd] at hy;obtain⟨z,_,rfl⟩:=List.mem_map.1 hy;rfl) (by simp[Pat.cs_len];omega) (by simp[Pat.cs_len];omega) ?_
 refine asg ?_
 refine tv ?_
 refine rn [(77,some (.tok (Pat.cs xs).length 6))] (r1 rfl) (.glg ?_) ⟨rfl,rfl⟩ (SubH.get ⟨?_,trivial⟩) (zbv rfl)
 rotate_left 2
 all_goals (first|((first|rfl|exact hx0.symm|(simp;done));done)|(first|rfl|(simp[hx0];rfl)|(simp;rfl)))
def zbz (C:List Pat) (q:Pat):List Pat:=C.map fun c=> .mk q.op q.ctor q.n q.m q.var (q.kids++[c])
theorem zp5 {ls:List (List Pat)}{C:List Pat}{a b c d e:Int}:((zev ls).map (fun l=>Pat.mk a b c d e l)).flatMap (zbz C)=(zev (ls++[C])).map (fun l=>Pat.mk a b c d e l):=by
 rw[zqb]
 unfold zbp zbz
 rw[List.flatMap_map,List.map_flatMap]
 congr 1
 funext q
 simp[zdm,zcq,mk_n,mk_m,zcY,zbV]
def zca (p:Pat) (i:Nat):List Pat:=(zev ((p.kids.take i).map zax)).map fun l=>Pat.mk p.op p.ctor p.n p.m p.var l
theorem zrH (p:Pat):zca p 0=[.mk p.op p.ctor p.n p.m p.var []]:=by unfold zca;simp[zev]
theorem zpj {p:Pat}{i:Nat} (h:i<p.kids.length):(zca p i).flatMap (zbz (zax (nth p.kids i)))=zca p (i+1):=by
 unfold zca
 rw[zp5,List.take_succ_eq_append_getElem h,List.map_append,←za3 h];rfl
theorem zp3 {p:Pat}{i:Nat} (h5:p.op≠5) (h:p.kids.length≤i):zca p i=zax p:=by
 unfold zca;rw[zeD h5,List.take_of_length_le h]
theorem zp4 {n:Nat}{p:Pat} (h:binP (n+1) p=true) (h5:p.op≠5) (i:Nat):(zca p i).length≤(zax p).length:=by
 unfold zca;rw[List.length_map];exact zpr h h5 i
theorem zpi {p:Pat}{i:Nat}{q:Pat} (h:q∈zca p i):q.kids.length≤p.kids.length:=by
 unfold zca at h
 obtain⟨l,hl,rfl⟩:=List.mem_map.1 h
 obtain⟨q0,hq,r,e,hlr,_⟩:=zi5 _ _ _ hl
 rw[List.mem_singleton] at hq
 rw[hq,List.nil_append] at e
 rw[zbV,e,hlr];simp;omega
theorem zfG {α β:Type}{f:α→List β}{k:Nat} (hf:∀x,(f x).length≤k):∀l:List α,(l.flatMap f).length≤l.length*k
 | []=>by simp
 |x::r=>by
  rw[List.flatMap_cons,List.length_append,List.length_cons,Nat.succ_mul]
  have:=hf x;have:=zfG hf r;omega
theorem zet:∀(n:Nat){p:Pat},binP n p=true→p.ok→(zax p).length≤40→FnD Tryz.prog 121 [.agg [.d (.i p.op),.d (.i p.ctor),.d (.i p.n),.d (.i p.m),.d (.i p.var),.d (zad p.kids)]] [] (.gl 9 (Pat.cs (zax p))) [(9,some (.tok (Pat.cs (zax p)).length 6))]
 |0,p,h,_,_=>by simp[binP] at h
 |n+1,p,h,hok,hlen=>by
  have hok':=(Pat.ok_iff p).1 hok
  have hok1:=hok'.1
  by_cases h5:p.op=5
  ·have hl:=zjq h h5
   have e5:=zgT h5 hl
   have l0:=zhd h (i:=0) (by omega)
   have l1:=zhd h (i:=1) (by omega)
   have c0:=zet n (zea h (i:=0) (by omega)) (Pats.ok_mem hok'.2 _ (zae (by omega))) (by omega)
   have c1:=FnD.glD (zet n (zea h (i:=1) (by omega)) (Pats.ok_mem hok'.2 _ (zae (by omega))) (by omega))
   rw[e5]
   refine bd Tryz.f121 70 [] [] fun w0 F0 own kept hk=>?_
   refine Walk.box (id:=3001) .none rfl rfl rfl rfl rfl rfl rfl ?_
   refine ev ?_
   refine sq (fun h1 h1p h1s=>?_) fun h1 h1p h1s=>?_
   try simp only[Q,Pat.cs_len] at h1p
   refine Walk.idx (i:=0) sl28 .none rfl rfl rfl rfl (zaC (by omega)) rfl ?_
   refine evd [] [] ?_
   refine Walk.call (cr:=[9]) zkK (c0) rfl .none rfl rfl (LeL.refl _) trivial rfl rfl rfl ?_
   refine evd [] [] ?_
   refine Walk.idx (i:=1) sl28 .none rfl rfl rfl rfl (zaC (by omega)) rfl ?_
   refine evd [] [] ?_
   refine Walk.call (cr:=[]) zkK (c1) rfl .none rfl rfl (LeL.refl _) trivial rfl rfl rfl ?_
   refine Walk.append sl28 zz77 rfl .none rfl rfl rfl rfl (zaz rfl (by first|rfl|(simp;done)|(simp;omega))) (by intro x hx;exact zbd _ x hx) (by simp[Pat.cs_len];omega) (by simp[Pat.cs_len];omega) ?_
   refine evd [] [] ?_
   refine dr ?_
   refine rn [(9,some (.tok (Pat.cs (zax (nth p.kids 0)++zax (nth p.kids 1))).length 6))] (r1 rfl) (.glg ?_) ⟨rfl,rfl⟩ (SubH.get ⟨?_,trivial⟩) (zbv rfl)
   rotate_left 2
   try simp only[Q,Pat.cs_len] at h1p
   exfalso;omega
   all_goals (first|((first|rfl|(simp[Pat.cs_cd];done));done)|(first|rfl|(simp[Pat.cs_cd];rfl)))
  ·have hfl:=zp4 h h5
   have hfk:=fun(i:Nat) (q:Pat) (hq:q∈zca p i)=>zpi hq
   have hf0:=zrH p
   have hfe:=fun(i:Nat) (hi:p.kids.length≤i)=>zp3 h5 hi
   have hfn:=fun(i:Nat) (hi:i<p.kids.length)=>zpj hi
   have hcal:=fun(i:Nat) (hi:i<p.kids.length)=>FnD.glD (zet n (zea h hi) (Pats.ok_mem hok'.2 _ (zae hi)) (by have:=zhd h hi;omega))
   have hcl:=fun(i:Nat) (hi:i<p.kids.length)=>zhd h hi
   have hgl:=fun(C:List Pat) (q:Pat)=>show(zbz C q).length≤C.length from by unfold zbz;simp
   generalize zax p=SP at *
   refine bd Tryz.f121 70 [8] [10,23] fun w0 F0 own kept hk=>?_
   refine Walk.box (id:=3001) .none rfl rfl rfl rfl rfl rfl rfl ?_
   refine evs [8] [] ?_
   refine sq (fun h1 h1p h1s=>?_) fun h1 h1p h1s=>?_
   try simp only[Q,Pat.cs_len] at h1p
   exfalso;omega
   try simp only[Q,Pat.cs_len] at h1p
   refine Walk.store ty28 .none rfl rfl rfl rfl rfl rfl (by simp) rfl ?_
   refine tv ?_
   refine Walk.sliceLitG 9 sl28 tz77 rfl (by decide) (ks:=[0]) (xs:=[_]) rfl rfl (by decide) (by decide) .none rfl rfl rfl rfl rfl ?_
   refine evs [8] [] ?_
   refine CWp.loopX (ι:=Nat) hk (fun i=>[(35,.d (.i (i:Int))),(4,.gl 9 ((zca p i).map Pat.cc)),(32,.any)]) [6,7,8,10,12,13,36,37,38,39,40,41,42,43,44,45,46,47,48,49,50,51,52,53,54,55,56,57,58,59,60,61,62,63,64,65,66,67,68] (fun i=>[(9,some (.tok (((zca p i).map Pat.cc)).length 6))]) (fun i=>i≤p.kids.length) (fun i=>p.kids.length-i) 0 (by omega) ⟨⟨_,rfl,(LeA.eqi (by first|rfl|(rw[hf0];rfl)|(rw[←hfn i (by omega),←hg2];done)|omega|(simp;done)))⟩,⟨⟨_,rfl,(LeA.glg (by first|rfl|(rw[hf0];rfl)|(rw[←hfn i (by omega),←hg2];done)|omega|(simp;done)))⟩,⟨⟨_,rfl,LeA.any _⟩,trivial⟩⟩⟩ ⟨zab (by first|rfl|(simp;done)|(simp;omega)|(first|rfl|(rw[hf0];rfl)|(rw[←hfn i (by omega),←hg2];done)|omega|(simp;done))),trivial⟩ (fun x=>rfl) (fun i hg1=>?_)
   refine evc [8] [10,23] ?_
   refine sq (fun h2 h2p h2s=>?_) fun h2 h2p h2s=>?_
   try simp only[Q,Pat.cs_len] at h2p
   refine Walk.idx sl28 .none rfl rfl rfl rfl (zaC (by omega)) rfl ?_
   refine evs [8] [] ?_
   refine Walk.alloc (id:=3006) tz77 rfl .none rfl rfl rfl rfl ?_
   refine Walk.store ty77 .none rfl rfl rfl rfl rfl rfl (by simp) rfl ?_
   refine tv ?_
   refine Walk.call (cr:=[]) zkK (hcal i (by omega)) rfl .none rfl rfl (LeL.refl _) trivial rfl rfl rfl ?_
   refine evs [8] [] ?_
   refine CWp.tokDrop 4 9 rfl rfl ?_
   refine evc [8] [] ?_
   refine Walk.assignNil 3 6 .none rfl rfl ?_
   refine tv ?_
   refine CWp.loopX (ι:=List (Pat)×List (Pat)) hk (fun x=>[(43,.d (.i (x.1.length:Int))),(8,.gl 3 ((x.1.flatMap (zbz (zax (nth p.kids i)))).map Pat.cc))]) [10,12,13,44,45,46,47,48,49,50,51,52,53,54,55,56,57,58,59,60,61,62,63,64,65,66] (fun x=>[(3,some (.tok (((x.1.flatMap (zbz (zax (nth p.kids i)))).map Pat.cc)).length 6))]) (fun x=>x.1++x.2=zca p i) (fun x=>x.2.length) ([],zca p i) (by simp) ⟨⟨_,rfl,(LeA.eqi (by first|rfl|(simp;done)|(rw[List.append_nil] at hg3;rw[List.flatMap_append,List.map_append];simp[zbz,←hg3];done)))⟩,⟨⟨_,rfl,(LeA.glg (by first|rfl|(simp;done)|(rw[List.append_nil] at hg3;rw[List.flatMap_append,List.map_append];simp[zbz,←hg3];done)))⟩,trivial⟩⟩ ⟨zab (by first|rfl|(simp;done)|(simp;omega)|(first|rfl|(simp;done)|(rw[List.append_nil] at hg3;rw[List.flatMap_append,List.map_append];simp[zbz,←hg3];done))),trivial⟩ (fun x=>rfl) (fun x hg2=>?_)
   obtain⟨pre2,rest2⟩:=x
   dsimp only at hg2 ⊢
   refine evc [8] [10,23] ?_
   refine sq (fun h3 h3p h3s=>?_) fun h3 h3p h3s=>?_
   try simp only[Q,Pat.cs_len] at h3p
   rcases rest2 with _|⟨q,rest2⟩
   ·exfalso;simp_all
   have hqk:=hfk i q (by rw[←hg2];simp);have hl2:=congrArg List.length hg2;simp only[List.length_append,List.length_cons] at hl2;have hl2b:=hfl i
   refine Walk.idx sl28 .none rfl rfl rfl rfl (zaG hg2) rfl ?_
   refine evs [8] [] ?_
   refine Walk.alloc (id:=3010) tz77 rfl .none rfl rfl rfl rfl ?_
   refine Walk.store ty77 .none rfl rfl rfl rfl rfl rfl (by simp) rfl ?_
   refine tv ?_
   refine CWp.loopX (ι:=List (Pat)×List (Pat)) hk (fun x=>[(49,.d (.i (x.1.length:Int))),(8,.gl 3 ((pre2.flatMap (zbz (zax (nth p.kids i)))++zbz x.1 q).map Pat.cc))]) [12,13,50,51,52,53,54,55,56,57,58,59,60,61,62,63,64,65] (fun x=>[(3,some (.tok (((pre2.flatMap (zbz (zax (nth p.kids i)))++zbz x.1 q).map Pat.cc)).length 6))]) (fun x=>x.1++x.2=zax (nth p.kids i)) (fun x=>x.2.length) ([],zax (nth p.kids i)) (by simp) ⟨⟨_,rfl,(LeA.eqi (by first|rfl|(simp[zbz];done)|(simp[zbz];omega)|(simp[zbz,zdm,zcq,mk_n,mk_m,zcY,zbV,Pat.cs_cd];done)))⟩,⟨⟨_,rfl,(LeA.glg (by first|rfl|(simp[zbz];done)|(simp[zbz];omega)|(simp[zbz,zdm,zcq,mk_n,mk_m,zcY,zbV,Pat.cs_cd];done)))⟩,trivial⟩⟩ ⟨zab (by first|rfl|(simp;done)|(simp;omega)|(first|rfl|(simp[zbz];done)|(simp[zbz];omega)|(simp[zbz,zdm,zcq,mk_n,mk_m,zcY,zbV,Pat.cs_cd];done))),trivial⟩ (fun x=>rfl) (fun x hg3=>?_)
   obtain⟨pre3,rest3⟩:=x
   dsimp only at hg3 ⊢
   refine evc [8] [10,23] ?_
   refine sq (fun h4 h4p h4s=>?_) fun h4 h4p h4s=>?_
   try simp only[Q,Pat.cs_len] at h4p
   rcases rest3 with _|⟨y,rest3⟩
   ·exfalso;simp_all
   have hl3:=congrArg List.length hg3;simp only[List.length_append,List.length_cons] at hl3;have hl3b:=hcl i (by omega)
   refine Walk.idx sl28 .none rfl rfl rfl rfl (Pat.cs_at' hg3) rfl ?_
   refine evs [8] [] ?_
   refine Walk.alloc (id:=3012) tz77 rfl .none rfl rfl rfl rfl ?_
   refine Walk.store ty77 .none rfl rfl rfl rfl rfl rfl (by simp) rfl ?_
   refine tv ?_
   refine Walk.alloc (id:=3013) tz77 rfl .none rfl rfl rfl rfl ?_
   refine Walk.store ty77 .none rfl rfl rfl rfl rfl rfl (by simp) rfl ?_
   refine tv ?_
   refine Walk.call (cr:=[77]) zn6 (ze9 (xs:=q.kids) (by omega)) rfl .none rfl rfl (LeL.refl _) trivial rfl rfl rfl ?_
   refine evd [8] [] ?_
   refine Walk.sliceLit sl28 tz77 rfl (by decide) (ks:=[0]) (xs:=[_]) rfl rfl (by decide) (by decide) .none rfl rfl rfl rfl ?_
   refine Walk.append sl28 zz77 rfl .none rfl rfl rfl rfl (zaz rfl (by first|rfl|(simp;done)|(simp;omega))) (by intro x hx;first|(simp at hx;subst hx;rfl)|exact zbF _ x hx|exact zbd _ x hx) (by first|(simp;omega)|(simp only[Pat.cs_len,List.length_append,List.length_cons,List.length_nil];omega)|(have h10:=hgl pre3 q;have h8:=congrArg List.length hg2;have h9:=congrArg List.length hg3;have h7:=zfG (hgl (zax (nth p.kids i))) pre2;have h6:=hfl i;have h5:=hcl i (by omega);simp only[List.length_append,List.length_cons,List.length_map,List.length_nil] at *;have h4:pre2.length*(zax (nth p.kids i)).length≤40*40:=Nat.mul_le_mul (by omega) (by omega);omega)) (by first|(simp;omega)|(simp only[Pat.cs_len,List.length_append,List.length_cons,List.length_nil];omega)|(have h10:=hgl pre3 q;have h8:=congrArg List.length hg2;have h9:=congrArg List.length hg3;have h7:=zfG (hgl (zax (nth p.kids i))) pre2;have h6:=hfl i;have h5:=hcl i (by omega);simp only[List.length_append,List.length_cons,List.length_map,List.length_nil] at *;have h4:pre2.length*(zax (nth p.kids i)).length≤40*40:=Nat.mul_le_mul (by omega) (by omega);omega)) ?_
   refine evd [8] [] ?_
   refine Walk.store ty28 .none rfl rfl rfl rfl rfl rfl (by simp) rfl ?_
   refine dr ?_
   refine Walk.sliceLit sl28 tz77 rfl (by decide) (ks:=[0]) (xs:=[_]) rfl rfl (by decide) (by decide) .none rfl rfl rfl rfl ?_
   refine Walk.append sl28 zz77 rfl .none rfl rfl rfl rfl (zaz rfl (by first|rfl|(simp;done)|(simp;omega))) (by intro x hx;first|(simp at hx;subst hx;rfl)|exact zbF _ x hx|exact zbd _ x hx) (by first|(simp;omega)|(simp only[Pat.cs_len,List.length_append,List.length_cons,List.length_nil];omega)|(have h10:=hgl pre3 q;have h8:=congrArg List.length hg2;have h9:=congrArg List.length hg3;have h7:=zfG (hgl (zax (nth p.kids i))) pre2;have h6:=hfl i;have h5:=hcl i (by omega);simp only[List.length_append,List.length_cons,List.length_map,List.length_nil] at *;have h4:pre2.length*(zax (nth p.kids i)).length≤40*40:=Nat.mul_le_mul (by omega) (by omega);omega)) (by first|(simp;omega)|(simp only[Pat.cs_len,List.length_append,List.length_cons,List.length_nil];omega)|(have h10:=hgl pre3 q;have h8:=congrArg List.length hg2;have h9:=congrArg List.length hg3;have h7:=zfG (hgl (zax (nth p.kids i))) pre2;have h6:=hfl i;have h5:=hcl i (by omega);simp only[List.length_append,List.length_cons,List.length_map,List.length_nil] at *;have h4:pre2.length*(zax (nth p.kids i)).length≤40*40:=Nat.mul_le_mul (by omega) (by omega);omega)) ?_
   refine asg ?_
   refine tv ?_
   refine ar ?_
   refine Exists.intro ((pre3++[y],rest3)) ⟨(by have hz:=hg3;rw[←hz];simp),(by simp),Sub.x (by kernel_rfl) (by kernel_rfl) ⟨⟨_,rfl,(LeA.eqi (by first|rfl|(simp[zbz];done)|(simp[zbz];omega)|(simp[zbz,zdm,zcq,mk_n,mk_m,zcY,zbV,Pat.cs_cd];done)))⟩,⟨⟨_,rfl,(LeA.glg (by first|rfl|(simp[zbz];done)|(simp[zbz];omega)|(simp[zbz,zdm,zcq,mk_n,mk_m,zcY,zbV,Pat.cs_cd];done)))⟩,trivial⟩⟩ (by kernel_rfl) (by kernel_rfl) ⟨zab (by first|rfl|(simp;done)|(simp;omega)|(first|rfl|(simp[zbz];done)|(simp[zbz];omega)|(simp[zbz,zdm,zcq,mk_n,mk_m,zcY,zbV,Pat.cs_cd];done))),trivial⟩⟩
   try simp only[Q,Pat.cs_len] at h4p
   have hrest3:rest3=[]:=by
    rcases rest3 with _|⟨a,b⟩
    ·rfl
    ·exfalso;have hz:=congrArg List.length (hg3);simp only[List.length_append,List.length_cons,List.length_map] at hz;omega
   subst hrest3
   refine ar ?_
   refine Exists.intro ((pre2++[q],rest2)) ⟨(by have hz:=hg2;rw[←hz];simp),(by simp),Sub.x (by kernel_rfl) (by kernel_rfl) ⟨⟨_,rfl,(LeA.eqi (by first|rfl|(simp;done)|(rw[List.append_nil] at hg3;rw[List.flatMap_append,List.map_append];simp[zbz,←hg3];done)))⟩,⟨⟨_,rfl,(LeA.glg (by first|rfl|(simp;done)|(rw[List.append_nil] at hg3;rw[List.flatMap_append,List.map_append];simp[zbz,←hg3];done)))⟩,trivial⟩⟩ (by kernel_rfl) (by kernel_rfl) ⟨zab (by first|rfl|(simp;done)|(simp;omega)|(first|rfl|(simp;done)|(rw[List.append_nil] at hg3;rw[List.flatMap_append,List.map_append];simp[zbz,←hg3];done))),trivial⟩⟩
   try simp only[Q,Pat.cs_len] at h3p
   have hrest2:rest2=[]:=by
    rcases rest2 with _|⟨a,b⟩
    ·rfl
    ·exfalso;have hz:=congrArg List.length (hg2);simp only[List.length_append,List.length_cons,List.length_map] at hz;omega
   subst hrest2
   refine CWp.tokRen 4 3 9 rfl rfl (by kernel_rfl) ?_
   refine evc [8] [] ?_
   refine ar ?_
   rw[List.append_nil] at hg2
   refine Exists.intro (i+1) ⟨(by omega),(by omega),Sub.x (by kernel_rfl) (by kernel_rfl) ⟨⟨_,rfl,(LeA.eqi (by first|rfl|(rw[hf0];rfl)|(rw[←hfn i (by omega),←hg2];done)|omega|(simp;done)))⟩,⟨⟨_,rfl,(LeA.glg (by first|rfl|(rw[hf0];rfl)|(rw[←hfn i (by omega),←hg2];done)|omega|(simp;done)))⟩,⟨⟨_,rfl,LeA.any _⟩,trivial⟩⟩⟩ (by kernel_rfl) (by kernel_rfl) ⟨zab (by first|rfl|(simp;done)|(simp;omega)|(first|rfl|(rw[hf0];rfl)|(rw[←hfn i (by omega),←hg2];done)|omega|(simp;done))),trivial⟩⟩
   try simp only[Q,Pat.cs_len] at h2p
   refine rn [(9,some (.tok (Pat.cs SP).length 6))] (r1 rfl) (.glg ?_) ⟨rfl,rfl⟩ (SubH.get ⟨?_,trivial⟩) (zbv rfl)
   rotate_left 2
   all_goals (first|(((rw[←hfe i (by omega),show Pat.cs (zca p i)=(zca p i).map Pat.cc from Pat.cs_cd _];all_goals rfl));done)|((rw[←hfe i (by omega),show Pat.cs (zca p i)=(zca p i).map Pat.cc from Pat.cs_cd _];all_goals rfl)))
def zdM (p:Pat):List Pat:=if (zax (zaM p)).length≤40 then zax (zaM p) else []
def zcW (p:Pat):Bool:=decide ((zax (zaM p)).length≤40)
theorem znD {w:List Data}{n:Nat}{t:Ty}{p:Pat} (h:zar w n t p=true) (hok:p.ok):FnD Tryz.prog 69 [.agg [.d (.i p.op),.d (.i p.ctor),.d (.i p.n),.d (.i p.m),.d (.i p.var),.d (zad p.kids)]] [] (.tup [.d (zad (zdM p)),.d (.bool (zcW p))]) []:=by
 have hb:=zha n h
 have hbo:=zjp p hok
 have hce:=(zkW n hb).1
 have hbp:=zc0 _ (Nat.le_refl _) hok
 have hcs:=zd3 _ (Nat.le_refl _) hbo
 have hsp:=fun h40=>FnD.glD (zet n hb hbo h40)
 rw[hce] at hcs
 unfold zdM zcW
 generalize zaM p=b at *
 by_cases h40:(zax b).length≤40
 ·rw[if_pos h40,decide_eq_true h40]
  have hc40:cap ((zax b).length:Int)≤40:=by unfold cap;split<;>omega
  refine bd Tryz.f69 12 [] [] fun w0 F0 own kept hk=>?_
  refine Walk.box (id:=3001) .none rfl rfl rfl rfl rfl rfl rfl ?_
  refine ev ?_
  refine Walk.call (cr:=[]) ziF (hbp) rfl .none rfl rfl (LeL.refl _) trivial rfl rfl rfl ?_
  refine Walk.alloc (id:=3004) tz77 rfl .none rfl rfl rfl rfl ?_
  refine Walk.store ty77 .none rfl rfl rfl rfl rfl rfl (by simp) rfl ?_
  refine tv ?_
  refine Walk.call (cr:=[]) zkJ (hcs) rfl .none rfl rfl (LeL.refl _) trivial rfl rfl rfl ?_
  refine ev ?_
  refine sq (fun h1 h1p h1s=>?_) fun h1 h1p h1s=>?_
  try simp only[Q] at h1p
  exfalso;omega
  try simp only[Q] at h1p
  refine Walk.call (cr:=[]) zkK (hsp h40) rfl .none rfl rfl (LeL.refl _) trivial rfl rfl rfl ?_
  refine ev ?_
  refine rn0 (r2 rfl rfl) (.tup (.cons (.eqd ?_) (.cons (.eqd ?_) .nil)))
  rotate_left 2
  all_goals (rfl)
 ·rw[if_neg h40,decide_eq_false h40]
  have hc40:¬cap ((zax b).length:Int)≤40:=by unfold cap;split<;>omega
  refine bd Tryz.f69 12 [] [] fun w0 F0 own kept hk=>?_
  refine Walk.box (id:=3001) .none rfl rfl rfl rfl rfl rfl rfl ?_
  refine ev ?_
  refine Walk.call (cr:=[]) ziF (hbp) rfl .none rfl rfl (LeL.refl _) trivial rfl rfl rfl ?_
  refine Walk.alloc (id:=3004) tz77 rfl .none rfl rfl rfl rfl ?_
  refine Walk.store ty77 .none rfl rfl rfl rfl rfl rfl (by simp) rfl ?_
  refine tv ?_
  refine Walk.call (cr:=[]) zkJ (hcs) rfl .none rfl rfl (LeL.refl _) trivial rfl rfl rfl ?_
  refine ev ?_
  refine sq (fun h1 h1p h1s=>?_) fun h1 h1p h1s=>?_
  try simp only[Q] at h1p
  refine rn0 (r2 rfl rfl) (.tup (.cons (.nild ?_) (.cons (.eqd ?_) .nil)))
  rotate_left 2
  try simp only[Q] at h1p
  exfalso;omega
  all_goals (rfl)
structure Spa (w:List Data):Prop where
 dp:Dp w
 ctors:∀t,InS (w.length*4) t→(zat w t).length≤4∧(zat w t).Nodup
 args:∀t c,InS (w.length*4) t→c∈zat w t→(zag w t c).length≤3
theorem ziL (k:Int):∀(l:List Ctor) (i:Nat),(za0 k i l).Pairwise (· < ·)
 | [],_=>by simp[za0]
 |x::r,i=>by
  unfold za0
  have ih:=ziL k r (i+1)
  split
  ·refine List.pairwise_cons.2 ⟨fun y hy=>?_,ih⟩
   obtain⟨j,rfl,h1,_⟩:=zfR k r (i+1) y hy
   omega
  ·exact ih
theorem zpa {w:List Data} (hs:WSmall w) (hv:zaY w=true):Spa w:=by
 have hd:=zr1 hs hv
 have hW:=(zdy w).1 hv
 refine⟨hd,fun t ht=>?_,fun t c ht hc=>?_⟩
 ·unfold zat
  split
  ·simp
  ·rename_i he
   refine⟨?_,(ziL _ _ _).imp (fun h=>by omega)⟩
   rcases ht with h|⟨h1,h2⟩
   ·exact absurd h he
   ·have:=hd.ct _ h1;rw[h2] at this;exact this
 ·have hti:=zcI ht
  obtain⟨d,h1,h2,j,h3,h4⟩:=zch (a:=t.data) (k:=t.index) hti hc
  have hco:=hW.ctor _ (zae h2) _ (zae h4)
  simp only[zaN,Bool.and_eq_true,decide_eq_true_eq] at hco
  unfold zag
  rw[h1,h3]
  simp only[Int.toNat_natCast,List.length_map]
  omega
abbrev intQ (n m:Int):Pat:= .mk 3 0 n m 0 []
abbrev zb3 (c:Int) (l:List Pat):Pat:= .mk 4 c 0 0 0 l
def zcf (w:List Data) (t:Ty) (c:Int):Pat:=zb3 c ((zag w t c).map fun _=>anyQ)
def lowQ (p:Pat):Int:=if p.op=1 then 0 else p.n
def zdb (p:Pat):Int:=if p.op=1 then 9 else p.m
def minQ (a b:Int):Int:=if b<a then b else a
def maxQ (a b:Int):Int:=if a<b then b else a
def zcd (n m:Int):List Pat:=if n≤m then [intQ n m] else []
def zcE (f:Pat→Pat→Option Pat):List Pat→List Pat→List Pat→Option (List Pat)
 |p::r,q::s,acc=>match f p q with
  |none=>none
  |some x=>zcE f r s (acc++[x])
 |_,_,acc=>some acc
def zaT:Nat→Pat→Pat→Option Pat
 |0,_,_=>none
 |n+1,a,b=>if a.op=1 then some b else if b.op=1 then some a else if a.op=3 then (if maxQ a.n b.n≤minQ a.m b.m then some (intQ (maxQ a.n b.n) (minQ a.m b.m)) else none)
  else if a.ctor=b.ctor then (zcE (zaT n) a.kids b.kids []).map (zb3 a.ctor) else none
def zbc (f:Ty→Pat→Pat→List Pat) (c:Int):List Ty→List Pat→List Pat→List Pat→List Pat
 |u::r,x::s,y::q,front=>(f u x y).map (fun z=>zb3 c (front++[z]++s))++(match zaT 11 x y with
  |none=>[]
  |some both=>zbc f c r s q (front++[both]))
 |_,_,_,_=>[]
def zdc (f:Ty→Pat→Pat→List Pat) (w:List Data) (t:Ty) (a b:Pat):List Pat:=if a.ctor=b.ctor then zbc f a.ctor (zag w t a.ctor) a.kids b.kids [] else [a]
def zeo (a b:Pat):List Pat:=zcd (lowQ a) (minQ (zdb a) (b.n-1))++zcd (maxQ (lowQ a) (b.m+1)) (zdb a)
def zas (w:List Data):Nat→Ty→Pat→Pat→List Pat
 |0,_,_,_=>[]
 |n+1,t,a,b=>if b.op=1 then [] else if b.op=3 then zeo a b else if a.op=1 then (zat w t).flatMap fun c=>zdc (zas w n) w t (zcf w t c) b else zdc (zas w n) w t a b
section
variable {w:List Data}{n:Nat}{t:Ty}{a b:Pat}
theorem zhG (h:b.op=1):zas w (n+1) t a b=[]:=by unfold zas;rw[if_pos h]
theorem zjx (h:b.op=3):zas w (n+1) t a b=zeo a b:=by unfold zas;rw[if_neg (by omega),if_pos h]
theorem zhH (h:b.op=4) (h2:a.op=1):zas w (n+1) t a b=(zat w t).flatMap fun c=>zdc (zas w n) w t (zcf w t c) b:=by
 conv=>lhs;unfold zas
 rw[if_neg (by omega),if_neg (by omega),if_pos h2]
theorem zee (h:b.op=4) (h2:a.op=4):zas w (n+1) t a b=zdc (zas w n) w t a b:=by
 conv=>lhs;unfold zas
 rw[if_neg (by omega),if_neg (by omega),if_neg (by omega)]
theorem zlw (h:a.op=1):zaT (n+1) a b=some b:=by unfold zaT;rw[if_pos h]
theorem zlx (h:a.op≠1) (h2:b.op=1):zaT (n+1) a b=some a:=by unfold zaT;rw[if_neg h,if_pos h2]
theorem zly (h:a.op=3) (h2:b.op≠1):zaT (n+1) a b=if maxQ a.n b.n≤minQ a.m b.m then some (intQ (maxQ a.n b.n) (minQ a.m b.m)) else none:=by
 conv=>lhs;unfold zaT
 rw[if_neg (by omega),if_neg h2,if_pos h]
theorem zlz (h:a.op=4) (h2:b.op≠1) (hc:a.ctor=b.ctor):zaT (n+1) a b=(zcE (zaT n) a.kids b.kids []).map (zb3 a.ctor):=by
 conv=>lhs;unfold zaT
 rw[if_neg (by omega),if_neg h2,if_neg (by omega),if_pos hc]
theorem zjw (h:a.op=4) (h2:b.op≠1) (hc:¬a.ctor=b.ctor):zaT (n+1) a b=none:=by
 conv=>lhs;unfold zaT
 rw[if_neg (by omega),if_neg h2,if_neg (by omega),if_neg hc]
end
theorem zct {w:List Data}{n:Nat}{t:Ty}{p:Pat} (h:zal w n t p=true) (h3:p.op=3):t.data = -1∧0≤p.n∧p.n≤p.m∧p.m≤9:=by
 have ho:=(zgL h).1
 unfold ownP at ho
 have:=(of_decide_eq_true ho).2.2.2.2
 omega
theorem zba {w:List Data}{n:Nat}{t:Ty}{p:Pat} (h:zal w n t p=true) (h4:p.op=4):p.ctor∈zat w t∧t.data≠ -1∧p.kids.length=(zag w t p.ctor).length∧p=zb3 p.ctor p.kids:=by
 obtain⟨ho,hl⟩:=zgL h
 have hm:=zcs ho h4
 refine⟨hm,fun e=>by unfold zat at hm;rw[if_pos e] at hm;simp at hm,by rw[zbI h4] at hl;exact hl, ?_⟩
 unfold ownP at ho
 have hh:=of_decide_eq_true ho
 have h1:=hh.2.1 (by omega)
 have h2:=hh.2.2.1 (by omega)
 obtain⟨op,c,m,k,v,ks⟩:=p
 change op=4 at h4
 change v=0 at h1
 change m=0∧k=0 at h2
 rw[h4,h1,h2.1,h2.2];rfl
theorem zm9 {w:List Data}{n:Nat}{t:Ty}{a b:Int} (ht:t.data = -1) (h0:0≤a) (h1:a≤b) (h2:b≤9):zal w (n+1) t (intQ a b)=true:=by
 unfold zal
 have e:zac w t (intQ a b)=[]:=rfl
 rw[e]
 have ho:ownP w t (intQ a b)=true:=by
  unfold ownP
  refine decide_eq_true ⟨fun h=>?_,fun _=>rfl,fun h=>absurd rfl h,fun _=>rfl,.inr (.inr (.inr (.inr (.inl ⟨rfl,ht,h0,h1,h2⟩))))⟩
  exfalso;change (3:Int)=2∨(3:Int)=6 at h;omega
 rw[ho];rfl
theorem zhV {w:List Data}{n:Nat}{t:Ty}{c:Int}{l:List Pat} (hc:c∈zat w t) (hl:l.length=(zag w t c).length) (hk:∀i,i<l.length→zal w n (nth (zag w t c) i) (nth l i)=true):zal w (n+1) t (zb3 c l)=true:=by
 unfold zal
 have e:zac w t (zb3 c l)=zag w t c:=zbI rfl
 have ho:ownP w t (zb3 c l)=true:=by
  unfold ownP
  refine decide_eq_true ⟨fun h=>?_,fun _=>rfl,fun _=>⟨rfl,rfl⟩,fun h=>absurd rfl h,.inr (.inr (.inr (.inr (.inr ⟨rfl,hc⟩))))⟩
  exfalso;change (4:Int)=2∨(4:Int)=6 at h;omega
 rw[ho,e,zbV]
 exact zbE hl.symm (fun i hi=>hk i (by omega))
theorem zjy {w:List Data}{n m:Nat} (h:n≤m){t:Ty}{p:Pat} (hp:zal w n t p=true):zal w m t p=true:=by
 induction h with
 |refl=>exact hp
 |step _ ih=>exact zfK _ ih
theorem zdR {w:List Data}{n:Nat}{t:Ty}{c:Int} (hc:c∈zat w t):zal w (n+2) t (zcf w t c)=true:=by
 unfold zcf
 refine zhV hc (by simp) (fun i hi=>?_)
 have e:nth ((zag w t c).map fun _=>anyQ) i=anyQ:=by
  rw[za3 hi];simp
 rw[e];exact ziB
theorem zlu {f:Pat→Pat→Option Pat}{a b:List Pat}{i:Nat}{acc:List Pat} (h1:i<a.length) (h2:i<b.length) (h:f (nth a i) (nth b i)=none):zcE f (a.drop i) (b.drop i) acc=none:=by
 rw[zaP h1,zaP h2,zcE,h]
theorem zlv {f:Pat→Pat→Option Pat}{a b:List Pat}{i:Nat}{acc:List Pat}{x:Pat} (h1:i<a.length) (h2:i<b.length) (h:f (nth a i) (nth b i)=some x):zcE f (a.drop i) (b.drop i) acc=zcE f (a.drop (i+1)) (b.drop (i+1)) (acc++[x]):=by
 rw[zaP h1,zaP h2,zcE,h]
theorem zeI {f:Pat→Pat→Option Pat}{a b:List Pat}{i:Nat}{acc:List Pat} (h1:a.length≤i):zcE f (a.drop i) (b.drop i) acc=some acc:=by
 rw[List.drop_eq_nil_of_le h1];cases b.drop i<;>rfl
theorem zh5 {f:Pat→Pat→Option Pat}:∀ {a b acc l:List Pat},a.length=b.length→zcE f a b acc=some l→∃r,l=acc++r∧r.length=a.length∧∀i,i<a.length→f (nth a i) (nth b i)=some (nth r i)
 | [],[],acc,l,_,h=>by
  simp only[zcE,Option.some.injEq] at h
  exact⟨[],by simp[h],rfl,fun i hi=>by simp at hi⟩
 |p::r,q::s,acc,l,hl,h=>by
  unfold zcE at h
  cases hf:f p q with
  |none=>rw[hf] at h;cases h
  |some x=>
   rw[hf] at h
   obtain⟨z,e,hz,hm⟩:=zh5 (a:=r) (b:=s) (by simpa using hl) h
   refine⟨x::z,by rw[e];simp,by simp[hz],fun i hi=>?_⟩
   cases i with
   |zero=>exact hf
   |succ i=>exact hm i (by simpa using hi)
 | [],_::_,_,_,hl,_=>by simp at hl
 |_::_,[],_,_,hl,_=>by simp at hl
theorem zdQ {w:List Data}{n m:Nat}{t:Ty}{a b:Pat} (ha:zal w n t a=true) (hb:zal w m t b=true) (h1:a.op≠1) (h2:b.op≠1):a.op=b.op:=by
 have oa:=zcc ha
 have ob:=zcc hb
 rcases oa with h|h|h
 ·exact absurd h h1
 ·rcases ob with h' | h' | h'
  ·exact absurd h' h2
  ·omega
  ·exact absurd (zct ha h).1 (zba hb h').2.1
 ·rcases ob with h' | h' | h'
  ·exact absurd h' h2
  ·exact absurd (zct hb h').1 (zba ha h).2.1
  ·omega
theorem zsO (a b:Int):minQ a b≤a∧minQ a b≤b:=by unfold minQ;split<;>omega
theorem zsM (a b:Int):a≤maxQ a b∧b≤maxQ a b:=by unfold maxQ;split<;>omega
theorem zsP (a b:Int):minQ a b=a∨minQ a b=b:=by unfold minQ;split<;>omega
theorem zsN (a b:Int):maxQ a b=a∨maxQ a b=b:=by unfold maxQ;split<;>omega
theorem znc {w:List Data}:∀(n m:Nat){t:Ty}{a b x:Pat},zal w m t a=true→zal w m t b=true→zaT n a b=some x→zal w m t x=true
 |0,m,t,a,b,x,_,_,h=>by simp[zaT] at h
 |n+1,0,t,a,b,x,ha,_,_=>by simp[zal] at ha
 |n+1,m+1,t,a,b,x,ha,hb,h=>by
  by_cases h1:a.op=1
  ·rw[zlw h1] at h;cases h;exact hb
  by_cases h2:b.op=1
  ·rw[zlx h1 h2] at h;cases h;exact ha
  have hs:=zdQ ha hb h1 h2
  have oa:=zcc ha
  by_cases h3:a.op=3
  ·rw[zly h3 h2] at h
   split at h
   ·cases h
    have ia:=zct ha h3
    have ib:=zct hb (by omega)
    have q1:=zsP a.m b.m
    have q2:=zsN a.n b.n
    refine zm9 ia.1 (by omega) (by assumption) (by omega)
   ·cases h
  have h4:a.op=4:=by omega
  by_cases hc:a.ctor=b.ctor
  ·rw[zlz h4 h2 hc] at h
   obtain⟨m1,m2,m3,m4⟩:=zba ha h4
   obtain⟨n1,n2,n3,n4⟩:=zba hb (by omega)
   rw[←hc] at n3
   cases hl:zcE (zaT n) a.kids b.kids [] with
   |none=>rw[hl] at h;cases h
   |some l=>
    rw[hl] at h
    simp only[Option.map_some,Option.some.injEq] at h
    subst h
    obtain⟨r,e,hr,hm⟩:=zh5 (by omega) hl
    rw[List.nil_append] at e
    subst e
    refine zhV m1 (by omega) (fun i hi=>?_)
    have ka:=zbt ha (i:=i) (by omega)
    have kb:=zbt hb (i:=i) (by omega)
    rw[zbI h4] at ka
    rw[zbI (by omega),←hc] at kb
    exact znc n m ka kb (hm i (by omega))
  ·rw[zjw h4 h2 hc] at h;cases h
theorem zlM {w:List Data}{n:Nat}{t:Ty}{a b:Int} (ht:t.data = -1) (h0:0≤a) (h2:b≤9):∀x∈zcd a b,zal w (n+1) t x=true:=by
 intro x hx
 unfold zcd at hx
 split at hx
 ·rename_i h1
  rw[List.mem_singleton] at hx
  rw[hx];exact zm9 ht h0 h1 h2
 ·simp at hx
theorem zoA {w:List Data}{n:Nat}{t:Ty}{a:Pat} (ha:zal w n t a=true) (ht:t.data = -1):0≤lowQ a∧zdb a≤9∧lowQ a≤zdb a:=by
 have oa:=zcc ha
 unfold lowQ zdb
 by_cases h1:a.op=1
 ·rw[if_pos h1,if_pos h1];omega
 ·rw[if_neg h1,if_neg h1]
  by_cases h3:a.op=3
  ·have:=zct ha h3;omega
  ·exact absurd ht (zba ha (by omega)).2.1
theorem zqa (a b:Pat):(zeo a b).length≤2:=by
 have h:∀x y,(zcd x y).length≤1:=fun x y=>by unfold zcd;split<;>simp
 unfold zeo
 rw[List.length_append]
 have:=h (lowQ a) (minQ (zdb a) (b.n-1));have:=h (maxQ (lowQ a) (b.m+1)) (zdb a);omega
theorem zpm {w:List Data}{f:Ty→Pat→Pat→List Pat}{m:Nat}{t:Ty}{c:Int} (hc:c∈zat w t) (hf:∀u x y,zal w m u x=true→zal w m u y=true→∀z∈f u x y,zal w m u z=true):
  ∀(i:Nat){xs bs front:List Pat},front.length=i→xs.length+i=(zag w t c).length→bs.length=xs.length→(∀j,j<i→zal w m (nth (zag w t c) j) (nth front j)=true)→
   (∀j,j<xs.length→zal w m (nth (zag w t c) (i+j)) (nth xs j)=true∧zal w m (nth (zag w t c) (i+j)) (nth bs j)=true)→
   ∀x∈zbc f c ((zag w t c).drop i) xs bs front,zal w (m+1) t x=true:=by
 intro i xs
 induction xs generalizing i with
 |nil=>
  intro bs front _ _ _ _ _ x hx
  cases hT:(zag w t c).drop i<;>(rw[hT] at hx;simp[zbc] at hx)
 |cons a0 s ih=>
  intro bs front hfl hal hbl hfr hab x hx
  cases bs with
  |nil=>simp at hbl
  |cons b0 q=>
   have hi:i<(zag w t c).length:=by simp at hal;omega
   rw[zaP hi] at hx
   have h0:=hab 0 (by simp)
   simp only[Nat.add_zero] at h0
   have e0:nth (a0::s) 0=a0:=rfl
   have e1:nth (b0::q) 0=b0:=rfl
   rw[e0,e1] at h0
   unfold zbc at hx
   have hpiece:∀z,zal w m (nth (zag w t c) i) z=true→∀j,j<(front++[z]++s).length→zal w m (nth (zag w t c) j) (nth (front++[z]++s) j)=true:=fun z hz j hj=>by
    by_cases hj1:j<i
    ·have e:nth (front++[z]++s) j=nth front j:=by
      simp only[nth,List.getD,List.append_assoc]
      rw[List.getElem?_append_left (by omega)]
     rw[e];exact hfr j hj1
    ·by_cases hj2:j=i
     ·have e:nth (front++[z]++s) j=z:=by
       simp only[nth,List.getD,List.append_assoc]
       rw[List.getElem?_append_right (by omega),show j-front.length=0 by omega];rfl
      rw[e,hj2];exact hz
     ·obtain⟨k,rfl⟩:∃k,j=i+1+k:=⟨j-(i+1),by omega⟩
      have e:nth (front++[z]++s) (i+1+k)=nth (a0::s) (k+1):=by
       simp only[nth,List.getD,List.append_assoc]
       rw[List.getElem?_append_right (by omega),show i+1+k-front.length=k+1 by omega];rfl
      rw[e]
      have:=(hab (k+1) (by simp at hj ⊢;omega)).1
      rwa [show i+(k+1)=i+1+k by omega] at this
   rcases List.mem_append.1 hx with hx|hx
   ·obtain⟨z,hz,rfl⟩:=List.mem_map.1 hx
    refine zhV hc (by simp at hal ⊢;omega) (hpiece z (hf _ _ _ h0.1 h0.2 z hz))
   ·cases hm:zaT 11 a0 b0 with
    |none=>rw[hm] at hx;simp at hx
    |some both=>
     rw[hm] at hx
     have hbp:=znc 11 m h0.1 h0.2 hm
     refine ih (i+1) (bs:=q) (front:=front++[both]) (by simp[hfl]) (by simp at hal ⊢;omega) (by simpa using hbl) (fun j hj=>?_) (fun j hj=>?_) x hx
     ·have:=hpiece both hbp j (by simp;omega)
      have e:nth (front++[both]++s) j=nth (front++[both]) j:=by
       simp only[nth,List.getD]
       rw[List.getElem?_append_left (by simp;omega)]
      rwa [e] at this
     ·have:=hab (j+1) (by simpa using hj)
      rwa [show i+(j+1)=i+1+j by omega] at this
theorem zf9 {w:List Data}:∀(n m:Nat){t:Ty}{a b:Pat},n<m→zal w m t a=true→zal w n t b=true→∀x∈zas w n t a b,zal w m t x=true
 |0,m,t,a,b,_,_,hb=>by simp[zal] at hb
 |n+1,0,t,a,b,hn,_,_=>by omega
 |n+1,m+1,t,a,b,hn,ha,hb=>by
  have ob:=zcc hb
  have oa:=zcc ha
  have hf:∀u x y,zal w m u x=true→zal w n u y=true→∀z∈zas w n u x y,zal w m u z=true:=fun u x y hx hy=>zf9 n m (by omega) hx hy
  have hcc:∀a,zal w (m+1) t a=true→a.op=4→b.op=4→∀x∈zdc (zas w n) w t a b,zal w (m+1) t x=true:=fun a ha h4 h4b=>by
   obtain⟨m1,m2,m3,m4⟩:=zba ha h4
   obtain⟨n1,n2,n3,n4⟩:=zba hb h4b
   intro x hx
   unfold zdc at hx
   split at hx
   ·rename_i hc
    have key:=zpm (w:=w) (f:=fun u x y=>if zal w m u x=true∧zal w n u y=true then zas w n u x y else []) (m:=m) (t:=t) (c:=a.ctor) m1 (fun u x y hx hy z hz=>by
     split at hz
     ·rename_i hh;exact hf u x y hh.1 hh.2 z hz
     ·simp at hz) 0 (xs:=a.kids) (bs:=b.kids) (front:=[]) rfl (by omega) (by rw[hc] at m3;omega) (fun j hj=>by omega) (fun j hj=>by
      have ka:=zbt ha (i:=j) hj
      have kb:=zbt hb (i:=j) (by rw[hc] at m3;omega)
      rw[zbI h4] at ka
      rw[zbI h4b,←hc] at kb
      rw[Nat.zero_add]
      exact⟨ka,zjy (by omega) kb⟩) x
    refine key ?_
    have e:∀(ts:List Ty) (xs bs front:List Pat),(∀j,j<ts.length→j<xs.length→j<bs.length→zal w m (nth ts j) (nth xs j)=true∧zal w n (nth ts j) (nth bs j)=true)→
      zbc (fun u x y=>if zal w m u x=true∧zal w n u y=true then zas w n u x y else []) a.ctor ts xs bs front=zbc (zas w n) a.ctor ts xs bs front:=by
     intro ts
     induction ts with
     |nil=>intro xs bs front _;simp[zbc]
     |cons u r ih=>
      intro xs bs front h
      cases xs with
      |nil=>simp[zbc]
      |cons x s=>
       cases bs with
       |nil=>simp[zbc]
       |cons y q=>
        have h0:=h 0 (by simp) (by simp) (by simp)
        change zal w m u x=true∧zal w n u y=true at h0
        unfold zbc
        rw[if_pos h0]
        congr 1
        cases hmm:zaT 11 x y with
        |none=>rfl
        |some both=>exact ih s q (front++[both]) (fun j h1 h2 h3=>h (j+1) (by simpa using h1) (by simpa using h2) (by simpa using h3))
    rw[List.drop_zero,e _ _ _ _ (fun j h1 h2 h3=>?_)]
    ·exact hx
    ·have ka:=zbt ha (i:=j) h2
     have kb:=zbt hb (i:=j) h3
     rw[zbI h4] at ka
     rw[zbI h4b,←hc] at kb
     exact⟨ka,kb⟩
   ·rw[List.mem_singleton] at hx
    rw[hx];exact ha
  rcases ob with h1|h3|h4
  ·rw[zhG h1];simp
  ·rw[zjx h3]
   intro x hx
   have hl:=zoA ha (zct hb h3).1
   have ib:=zct hb h3
   have q1:=zsO (zdb a) (b.n-1)
   have q2:=zsM (lowQ a) (b.m+1)
   unfold zeo at hx
   rcases List.mem_append.1 hx with h|h
   ·exact zlM ib.1 (by omega) (by omega) x h
   ·exact zlM ib.1 (by omega) (by omega) x h
  ·by_cases ha1:a.op=1
   ·rw[zhH h4 ha1]
    intro x hx
    obtain⟨c,hc,hx⟩:=List.mem_flatMap.1 hx
    refine hcc _ ?_ rfl h4 x hx
    obtain⟨k,rfl⟩:∃k,m=k+1:=⟨m-1,by omega⟩
    exact zdR hc
   ·have ha4:a.op=4:=by
     have:=zdQ ha hb ha1 (by omega);omega
    rw[zee h4 ha4]
    exact hcc a ha ha4 h4
theorem zgv {w:List Data} (hs:Spa w):∀(n:Nat){t:Ty}{p:Pat},InS (w.length*4) t→zal w n t p=true→p.ok∧p.size≤4 ^ n
 |0,t,p,_,h=>by simp[zal] at h
 |n+1,t,p,ht,h=>by
  have hk:=fun i (hi:i<p.kids.length)=>zbt h hi
  have hl:=(zgL h).2
  have op:=zcc h
  have hpow:4 ^ (n+1)=4 ^ n*4:=rfl
  have hpos:0<4 ^ n:=Nat.pow_pos (by omega)
  by_cases h4:p.op=4
  ·obtain⟨m1,m2,m3,m4⟩:=zba h h4
   have h3:=hs.args t p.ctor ht m1
   rw[zbI h4] at hk
   have ih:∀k∈p.kids,k.ok∧k.size≤4 ^ n:=fun k hkm=>by
    obtain⟨i,hi,rfl⟩:=List.getElem_of_mem hkm
    have e:nth p.kids i=p.kids[i]:=za3 hi
    have:=zgv hs n (zco hs.dp ht m1 _ (zae (i:=i) (by omega))) (hk i hi)
    rwa [e] at this
   have hz:=Pats.size_of (m:=4 ^ n) (fun k hk=>(ih k hk).2)
   rw[Pat.ok_iff,Pat.size_eq]
   refine⟨⟨by omega,Pats.ok_of (fun k hk=>(ih k hk).1)⟩, ?_⟩
   have:p.kids.length*4 ^ n≤3*4 ^ n:=Nat.mul_le_mul_right _ (by omega)
   omega
  ·have hk0:p.kids=[]:=zqg (zgc _ h) h4 (by omega) (by omega)
   rw[Pat.ok_iff,Pat.size_eq,hk0]
   exact⟨⟨by simp,trivial⟩,by simp only[Pats.size];omega⟩
theorem zm2 {α:Type}{g:Int→List α}{c0:Int}{X:Nat}:∀ {cs:List Int},cs.Nodup→(∀c∈cs,c≠c0→(g c).length≤1)→(g c0).length≤X→(cs.flatMap g).length≤cs.length+X
 | [],_,_,_=>by simp
 |c::r,hn,h1,h2=>by
  obtain⟨n1,n2⟩:=List.nodup_cons.1 hn
  rw[List.flatMap_cons,List.length_append,List.length_cons]
  by_cases hc:c=c0
  ·have key:∀l:List Int,c0∉l→(∀x∈l,x≠c0→(g x).length≤1)→(l.flatMap g).length≤l.length:=by
    intro l
    induction l with
    |nil=>intro _ _;simp
    |cons y s ih=>
     intro hm hh
     rw[List.flatMap_cons,List.length_append,List.length_cons]
     have a1:=hh y (by simp) (fun e=>hm (by rw[e];simp))
     have a2:=ih (fun e=>hm (by simp[e])) (fun x hx=>hh x (by simp[hx]))
     omega
   have:=key r (by rw[←hc];exact n1) (fun x hx=>h1 x (by simp[hx]))
   rw[hc];omega
  ·have a1:=h1 c (by simp) hc
   have a2:=zm2 (X:=X) n2 (fun x hx=>h1 x (by simp[hx])) h2
   omega
theorem zlB {f:Ty→Pat→Pat→List Pat}{c:Int} (L:Pat→Nat):∀(ts:List Ty) (xs bs front:List Pat),(∀i,i<ts.length→i<xs.length→i<bs.length→(f (nth ts i) (nth xs i) (nth bs i)).length≤L (nth bs i))→(zbc f c ts xs bs front).length≤(bs.map L).sum
 | [],xs,bs,front,_=>by simp[zbc]
 |_::_,[],bs,front,_=>by simp[zbc]
 |_::_,_::_,[],front,_=>by simp[zbc]
 |u::r,x::s,y::q,front,h=>by
  have h0:=h 0 (by simp) (by simp) (by simp)
  change (f u x y).length≤L y at h0
  unfold zbc
  rw[List.length_append,List.length_map,List.map_cons,List.sum_cons]
  cases hm:zaT 11 x y with
  |none=>simp;omega
  |some both=>
   have:=zlB (c:=c) L r s q (front++[both]) (fun i h1 h2 h3=>h (i+1) (by simpa using h1) (by simpa using h2) (by simpa using h3))
   dsimp only;omega
theorem zp9 {w:List Data}{f:Ty→Pat→Pat→List Pat}{t:Ty}{a b:Pat}{L:Pat→Nat} (h:∀i,i<(zag w t a.ctor).length→i<a.kids.length→i<b.kids.length→(f (nth (zag w t a.ctor) i) (nth a.kids i) (nth b.kids i)).length≤L (nth b.kids i)):
  (zdc f w t a b).length≤if a.ctor=b.ctor then (b.kids.map L).sum else 1:=by
 unfold zdc
 split
 ·exact zlB L _ _ _ _ h
 ·simp
theorem sum4:∀l:List Pat,(l.map fun b=>4*b.size).sum=4*Pats.size l
 | []=>rfl
 |k::r=>by simp only[List.map_cons,List.sum_cons,Pats.size,sum4 r];omega
theorem znd {w:List Data} (hs:Spa w):∀(n m:Nat){t:Ty}{a b:Pat},n<m→InS (w.length*4) t→zal w m t a=true→zal w n t b=true→(zas w n t a b).length≤4*b.size
 |0,m,t,a,b,_,_,_,hb=>by simp[zal] at hb
 |n+1,0,t,a,b,hn,_,_,_=>by omega
 |n+1,m+1,t,a,b,hn,ht,ha,hb=>by
  have ob:=zcc hb
  have hz:=Pat.size_eq b
  rcases ob with h1|h3|h4
  ·rw[zhG h1];simp
  ·rw[zjx h3];have:=zqa a b;omega
  ·obtain⟨n1,n2,n3,n4⟩:=zba hb h4
   have hcc:∀a,zal w (m+1) t a=true→a.op=4→(zdc (zas w n) w t a b).length≤if a.ctor=b.ctor then 4*Pats.size b.kids else 1:=fun a ha h4a=>by
    obtain⟨m1,m2,m3,m4⟩:=zba ha h4a
    rw[←sum4]
    by_cases hc:a.ctor=b.ctor
    ·have:=zp9 (w:=w) (f:=zas w n) (t:=t) (a:=a) (b:=b) (L:=fun b=>4*b.size) (fun i h1 h2 h3=>by
      have ka:=zbt ha (i:=i) h2
      have kb:=zbt hb (i:=i) h3
      rw[zbI h4a] at ka
      rw[zbI h4,←hc] at kb
      exact znd hs n m (by omega) (zco hs.dp ht m1 _ (zae h1)) ka kb)
     exact this
    ·unfold zdc;rw[if_neg hc,if_neg hc];simp
   by_cases ha1:a.op=1
   ·rw[zhH h4 ha1]
    obtain⟨c1,c2⟩:=hs.ctors t ht
    have hw:∀c,c∈zat w t→(zdc (zas w n) w t (zcf w t c) b).length≤if c=b.ctor then 4*Pats.size b.kids else 1:=fun c hc=>by
     obtain⟨k,rfl⟩:∃k,m=k+1:=⟨m-1,by omega⟩
     exact hcc _ (zdR hc) rfl
    have:=zm2 (g:=fun c=>zdc (zas w n) w t (zcf w t c) b) (c0:=b.ctor) (X:=4*Pats.size b.kids) c2 (fun c hc hne=>by have:=hw c hc;rwa [if_neg hne] at this) (by have:=hw _ n1;rwa [if_pos rfl] at this)
    omega
   ·have ha4:a.op=4:=by have:=zdQ ha hb ha1 (by omega);omega
    rw[zee h4 ha4]
    have:=hcc a ha ha4
    split at this<;>omega
theorem zkF {α β:Type} [Inhabited α] [Inhabited β]{f:α→β→Bool}:∀ {a:List α}{b:List β},a.length=b.length→all2 f a b=false→∃i,i<a.length∧f (nth a i) (nth b i)=false
 | [],[],_,h=>by simp[all2] at h
 |x::r,y::s,hl,h=>by
  simp only[all2,Bool.and_eq_false_iff] at h
  rcases h with h|h
  ·exact⟨0,by simp,h⟩
  ·obtain⟨i,h1,h2⟩:=zkF (by simpa using hl) h
   exact⟨i+1,by simpa using h1,h2⟩
 | [],_::_,hl,_=>by simp at hl
 |_::_,[],hl,_=>by simp at hl
theorem zhy {w:List Data}{f:Nat→Nat}{n:Nat}{t:Ty}{p:Pat} (h:p.op=1):zbb w f (n+1) t p=decide (dv f t=0):=by rw[zft,if_pos (.inl h)]
theorem zmh {w:List Data}{f:Nat→Nat}{n m:Nat}{t:Ty}{p:Pat} (hp:zal w m t p=true) (h:p.op=3):zbb w f (n+1) t p=false:=by
 rw[zft,if_neg (by omega),if_neg (by omega)]
 have e:zac w t p=[]:=by unfold zac;rw[if_neg (by omega),if_neg (by omega),if_neg (by omega)]
 have hl:=(zgL hp).2
 rw[e] at hl ⊢
 rw[List.eq_nil_of_length_eq_zero hl];rfl
theorem zmi {w:List Data}{f:Nat→Nat}{n:Nat}{t:Ty}{p:Pat} (h:p.op=4):zbb w f (n+1) t p = !(all2 (fun u q=> !zbb w f n u q) (zag w t p.ctor) p.kids):=by
 rw[zft,if_neg (by omega),if_neg (by omega),zbI h]
theorem zoi {w:List Data}{f:Nat→Nat}{n m:Nat}{t:Ty}{p:Pat} (hp:zal w m t p=true) (h:p.op=4) (hd:zbb w f (n+1) t p=true):∃i,i<p.kids.length∧zbb w f n (nth (zag w t p.ctor) i) (nth p.kids i)=true:=by
 rw[zmi h] at hd
 have hl:=(zba hp h).2.2.1
 obtain⟨i,h1,h2⟩:=zkF (a:=zag w t p.ctor) (b:=p.kids) (f:=fun u q=> !zbb w f n u q) hl.symm (by simpa using hd)
 exact⟨i,by omega,by simpa using h2⟩
theorem zgI {w:List Data}{f:Nat→Nat}{n:Nat}{t:Ty}{c:Int}{l:List Pat}{i:Nat} (hi:i<l.length) (hl:l.length=(zag w t c).length) (hd:zbb w f n (nth (zag w t c) i) (nth l i)=true):zbb w f (n+1) t (zb3 c l)=true:=by
 rw[zmi rfl]
 have:=zbq (f:=fun u q=> !zbb w f n u q) (a:=zag w t c) (b:=l) (i:=i) (by omega) hl.symm (by rw[hd];rfl)
 show(!all2 (fun u q=> !zbb w f n u q) (zag w t c) l)=true
 rw[this];rfl
theorem ztU {w:List Data} (hd:Dp w){t:Ty}{c:Int} (ht:InS (w.length*4) t) (hc:c∈zat w t) (h0:dv (zaX w) t=0):∃i,i<(zag w t c).length∧dv (zaX w) (nth (zag w t c) i)=0:=by
 by_cases hx:∃i,i<(zag w t c).length∧dv (zaX w) (nth (zag w t c) i)=0
 ·exact hx
 ·exfalso
  have a:Snd w (zaX w)∧Cmp w (w.length*4+1) (zaX w):=zfg hd.cl (w.length*4+1)
  have hdt:t.data≠ -1:=fun e=>by unfold zat at hc;rw[if_pos e] at hc;simp at hc
  have hb:∀u∈zag w t c,Hd w (w.length*4+1) u:=fun u hu=>by
   obtain⟨i,hi,rfl⟩:=List.getElem_of_mem hu
   have hpos:0<dv (zaX w) (zag w t c)[i]:=by
    have e:nth (zag w t c) i=(zag w t c)[i]:=za3 hi
    rcases Nat.eq_zero_or_pos (dv (zaX w) (zag w t c)[i]) with h|h
    ·exact absurd ⟨i,hi,by rw[e];exact h⟩ hx
    ·exact h
   have hin:=zco hd ht hc _ hu
   have h1:=zsg a.1 hin hpos
   rcases hin with h2|⟨h2,h3⟩
   ·exact .inl h2
   ·rw[←h3] at h1 ⊢
    exact zoq hd.cl h2 h1
  have h2:Hd w (w.length*4+2) t:= .inr ⟨c,zrw hc,hdt,hb⟩
  rcases ht with h3|⟨h3,h4⟩
  ·exact hdt h3
  ·rw[←h4] at h2
   have h5:=zoq hd.cl h3 h2
   rw[h4] at h5
   have:=(zq0 a.2 (.inr ⟨h3,h4⟩) h5).1
   omega
section
variable {w:List Data} (hs:Spa w)
include hs
theorem ziM:∀(n:Nat){t:Ty}{p:Pat},InS (w.length*4) t→zal w n t p=true→dv (zaX w) t=0→zbb w (zaX w) n t p=true
 |0,t,p,_,h,_=>by simp[zal] at h
 |n+1,t,p,ht,h,h0=>by
  rcases zcc h with h1|h3|h4
  ·rw[zhy h1];exact decide_eq_true h0
  ·have:=(zct h h3).1
   unfold dv at h0;rw[if_pos this] at h0;omega
  ·obtain⟨m1,m2,m3,m4⟩:=zba h h4
   obtain⟨i,h5,h6⟩:=ztU hs.dp ht m1 h0
   rw[m4]
   have hk:=zbt h (i:=i) (by omega)
   rw[zbI h4] at hk
   exact zgI (by omega) m3 (ziM n (zco hs.dp ht m1 _ (zae h5)) hk h6)
theorem znb:∀(n k:Nat){t:Ty}{a b x:Pat},InS (w.length*4) t→zal w n t a=true→zal w n t b=true→zbb w (zaX w) n t a=true→zaT k a b=some x→zbb w (zaX w) n t x=true
 |0,k,t,a,b,x,_,h,_,_,_=>by simp[zal] at h
 |n+1,0,t,a,b,x,_,_,_,_,h=>by simp[zaT] at h
 |n+1,k+1,t,a,b,x,ht,ha,hb,hd,h=>by
  by_cases h1:a.op=1
  ·rw[zlw h1] at h;cases h
   rw[zhy h1] at hd
   exact ziM hs (n+1) ht hb (of_decide_eq_true hd)
  by_cases h2:b.op=1
  ·rw[zlx h1 h2] at h;cases h;exact hd
  by_cases h3:a.op=3
  ·rw[zmh ha h3] at hd;cases hd
  have h4:a.op=4:=by have:=zcc ha;omega
  have hso:=zdQ ha hb h1 h2
  by_cases hc:a.ctor=b.ctor
  ·rw[zlz h4 h2 hc] at h
   obtain⟨m1,m2,m3,m4⟩:=zba ha h4
   obtain⟨n1,n2,n3,n4⟩:=zba hb (by omega)
   rw[←hc] at n3
   cases hl:zcE (zaT k) a.kids b.kids [] with
   |none=>rw[hl] at h;cases h
   |some l=>
    rw[hl] at h
    simp only[Option.map_some,Option.some.injEq] at h
    subst h
    obtain⟨r,e,hr,hm⟩:=zh5 (by omega) hl
    rw[List.nil_append] at e
    subst e
    obtain⟨i,hi,hde⟩:=zoi ha h4 hd
    have ka:=zbt ha (i:=i) hi
    have kb:=zbt hb (i:=i) (by omega)
    rw[zbI h4] at ka
    rw[zbI (by omega),←hc] at kb
    exact zgI (i:=i) (by omega) (by omega) (znb n k (zco hs.dp ht m1 _ (zae (by omega))) ka kb hde (hm i hi))
  ·rw[zjw h4 h2 hc] at h;cases h
theorem zpl {f:Ty→Pat→Pat→List Pat}{m:Nat}{t:Ty}{c:Int} (ht:InS (w.length*4) t) (hc:c∈zat w t):
  ∀(i:Nat){xs bs front:List Pat},front.length=i→xs.length+i=(zag w t c).length→bs.length=xs.length→
   (∀j,j<xs.length→zal w m (nth (zag w t c) (i+j)) (nth xs j)=true∧zal w m (nth (zag w t c) (i+j)) (nth bs j)=true∧(zbb w (zaX w) m (nth (zag w t c) (i+j)) (nth xs j)=true→∀z∈f (nth (zag w t c) (i+j)) (nth xs j) (nth bs j),zbb w (zaX w) m (nth (zag w t c) (i+j)) z=true))→
   ((∃j,j<i∧zbb w (zaX w) m (nth (zag w t c) j) (nth front j)=true)∨∃j,j<xs.length∧zbb w (zaX w) m (nth (zag w t c) (i+j)) (nth xs j)=true)→
   ∀x∈zbc f c ((zag w t c).drop i) xs bs front,zbb w (zaX w) (m+1) t x=true:=by
 intro i xs
 induction xs generalizing i with
 |nil=>
  intro bs front _ _ _ _ _ x hx
  cases hT:(zag w t c).drop i<;>(rw[hT] at hx;simp[zbc] at hx)
 |cons a0 s ih=>
  intro bs front hfl hal hbl hab hde x hx
  cases bs with
  |nil=>simp at hbl
  |cons b0 q=>
   have hi:i<(zag w t c).length:=by simp at hal;omega
   rw[zaP hi] at hx
   have h0:=hab 0 (by simp)
   simp only[Nat.add_zero] at h0
   have e0:nth (a0::s) 0=a0:=rfl
   have e1:nth (b0::q) 0=b0:=rfl
   rw[e0,e1] at h0
   unfold zbc at hx
   have f1:∀z j,j<i→nth (front++[z]++s) j=nth front j:=fun z j hj=>by
    simp only[nth,List.getD,List.append_assoc]
    rw[List.getElem?_append_left (by omega)]
   have f2:∀z,nth (front++[z]++s) i=z:=fun z=>by
    simp only[nth,List.getD,List.append_assoc]
    rw[List.getElem?_append_right (by omega),show i-front.length=0 by omega];rfl
   have f3:∀z k,nth (front++[z]++s) (i+1+k)=nth (a0::s) (k+1):=fun z k=>by
    simp only[nth,List.getD,List.append_assoc]
    rw[List.getElem?_append_right (by omega),show i+1+k-front.length=k+1 by omega];rfl
   have hfl2:∀z,(front++[z]++s).length=(zag w t c).length:=fun z=>by simp at hal ⊢;omega
   rcases List.mem_append.1 hx with hx|hx
   ·obtain⟨z,hz,rfl⟩:=List.mem_map.1 hx
    rcases hde with ⟨j,hj,hd⟩|⟨j,hj,hd⟩
    ·exact zgI (i:=j) (by rw[hfl2];omega) (hfl2 z) (by rw[f1 z j hj];exact hd)
    ·cases j with
     |zero=>exact zgI (i:=i) (by rw[hfl2];omega) (hfl2 z) (by rw[f2 z];exact h0.2.2 hd z hz)
     |succ k=>exact zgI (i:=i+1+k) (by rw[hfl2];simp at hj;simp at hal;omega) (hfl2 z) (by rw[f3 z k,show i+1+k=i+(k+1) by omega];exact hd)
   ·cases hm:zaT 11 a0 b0 with
    |none=>rw[hm] at hx;simp at hx
    |some both=>
     rw[hm] at hx
     refine ih (i+1) (bs:=q) (front:=front++[both]) (by simp[hfl]) (by simp at hal ⊢;omega) (by simpa using hbl) (fun j hj=>?_) ?_ x hx
     ·have:=hab (j+1) (by simpa using hj)
      rwa [show i+(j+1)=i+1+j by omega] at this
     ·rcases hde with ⟨j,hj,hd⟩|⟨j,hj,hd⟩
      ·refine .inl ⟨j,by omega, ?_⟩
       have e:nth (front++[both]) j=nth front j:=by
        simp only[nth,List.getD]
        rw[List.getElem?_append_left (by omega)]
       rw[e];exact hd
      ·cases j with
       |zero=>
        refine .inl ⟨i,by omega, ?_⟩
        have e:nth (front++[both]) i=both:=by
         simp only[nth,List.getD]
         rw[List.getElem?_append_right (by omega),show i-front.length=0 by omega];rfl
        rw[e]
        exact znb hs m 11 (zco hs.dp ht hc _ (zae hi)) h0.1 h0.2.1 hd hm
       |succ k=>
        refine .inr ⟨k,by simpa using hj, ?_⟩
        rw[show i+1+k=i+(k+1) by omega];exact hd
theorem zlC:∀(n m:Nat){t:Ty}{a b:Pat},n<m→InS (w.length*4) t→zal w m t a=true→zal w n t b=true→zbb w (zaX w) m t a=true→∀x∈zas w n t a b,zbb w (zaX w) m t x=true
 |0,m,t,a,b,_,_,_,hb,_=>by simp[zal] at hb
 |n+1,0,t,a,b,hn,_,_,_,_=>by omega
 |n+1,m+1,t,a,b,hn,ht,ha,hb,hd=>by
  have hcc:∀a,zal w (m+1) t a=true→a.op=4→b.op=4→zbb w (zaX w) (m+1) t a=true→∀x∈zdc (zas w n) w t a b,zbb w (zaX w) (m+1) t x=true:=fun a ha h4 h4b hd=>by
   obtain⟨m1,m2,m3,m4⟩:=zba ha h4
   obtain⟨n1,n2,n3,n4⟩:=zba hb h4b
   intro x hx
   unfold zdc at hx
   split at hx
   ·rename_i hc
    obtain⟨j,hj,hdj⟩:=zoi ha h4 hd
    refine zpl hs ht m1 0 (xs:=a.kids) (bs:=b.kids) (front:=[]) rfl (by omega) (by rw[hc] at m3;omega) (fun j hj=>?_) (.inr ⟨j,hj,by rw[Nat.zero_add];exact hdj⟩) x hx
    have ka:=zbt ha (i:=j) hj
    have kb:=zbt hb (i:=j) (by rw[hc] at m3;omega)
    rw[zbI h4] at ka
    rw[zbI h4b,←hc] at kb
    rw[Nat.zero_add]
    exact⟨ka,zjy (by omega) kb,fun hdk z hz=>zlC n m (by omega) (zco hs.dp ht m1 _ (zae (by omega))) ka kb hdk z hz⟩
   ·rw[List.mem_singleton] at hx
    rw[hx];exact hd
  rcases zcc hb with h1|h3|h4
  ·rw[zhG h1];simp
  ·have hl:=zoA ha (zct hb h3).1
   rcases zcc ha with h|h|h
   ·rw[zhy h] at hd
    have:=of_decide_eq_true hd
    unfold dv at this;rw[if_pos (zct hb h3).1] at this;omega
   ·rw[zmh ha h] at hd;cases hd
   ·exact absurd (zct hb h3).1 (zba ha h).2.1
  ·by_cases ha1:a.op=1
   ·rw[zhH h4 ha1]
    rw[zhy ha1] at hd
    intro x hx
    obtain⟨c,hc,hx⟩:=List.mem_flatMap.1 hx
    obtain⟨k,rfl⟩:∃k,m=k+1:=⟨m-1,by omega⟩
    exact hcc _ (zdR hc) rfl h4 (ziM hs _ ht (zdR hc) (of_decide_eq_true hd)) x hx
   ·have ha4:a.op=4:=by have:=zdQ ha hb ha1 (by omega);omega
    rw[zee h4 ha4]
    exact hcc a ha ha4 h4 hd
end
def zbM (w:List Data) (t:Ty) (p:Pat):Bool:= !zbb w (zaX w) 11 t p
def zcg (w:List Data) (t:Ty) (l:List Pat) (b:Pat):List Pat:=(l.flatMap fun a=>zas w 10 t a b).filter (zbM w t)
def subL (w:List Data) (t:Ty):List Pat→List Pat→Option (List Pat)
 |l,[]=>some l
 |l,b::r=>if (zcg w t l b).length≤400 then subL w t (zcg w t l b) r else none
def zaL (w:List Data) (t:Ty) (l away:List Pat):Option (List Pat):=subL w t (l.filter (zbM w t)) away
theorem zoH {w:List Data} (hs:Spa w){t:Ty} (ht:InS (w.length*4) t){l:List Pat}{b:Pat} (hl:∀a∈l,zal w 11 t a=true) (hb:zal w 10 t b=true):zcg w t (l.filter (zbM w t)) b=zcg w t l b:=by
 unfold zcg
 induction l with
 |nil=>rfl
 |cons a r ih=>
  have ih':=ih (fun x hx=>hl x (by simp[hx]))
  rw[List.flatMap_cons,List.filter_append]
  by_cases h:zbM w t a=true
  ·rw[List.filter_cons_of_pos h,List.flatMap_cons,List.filter_append,ih']
  ·rw[List.filter_cons_of_neg h,ih']
   have hd:zbb w (zaX w) 11 t a=true:=by unfold zbM at h;simpa using h
   have:(zas w 10 t a b).filter (zbM w t)=[]:=by
    rw[List.filter_eq_nil_iff]
    intro x hx
    have:=zlC hs 10 11 (by omega) ht (hl a (by simp)) hb hd x hx
    unfold zbM;rw[this];simp
   rw[this,List.nil_append]
theorem zj1 {w:List Data}{t:Ty}{l:List Pat}{b:Pat}:(zcg w t l b).filter (zbM w t)=zcg w t l b:=by
 unfold zcg;rw[List.filter_filter];simp
theorem zl4 {w:List Data}{t:Ty}:∀(away:List Pat){l:List Pat},l.filter (zbM w t)=l→(subL w t l away).map (List.filter (zbM w t))=subL w t l away
 | [],l,h=>by simp only[subL,Option.map_some,h]
 |b::r,l,h=>by
  unfold subL
  split
  ·exact zl4 r zj1
  ·rfl
theorem zro {w:List Data} (hs:Spa w){t:Ty} (ht:InS (w.length*4) t){l away:List Pat} (hl:∀a∈l,zal w 11 t a=true) (hb:∀b∈away,zal w 10 t b=true):(subL w t l away).map (List.filter (zbM w t))=zaL w t l away:=by
 unfold zaL
 cases away with
 |nil=>rfl
 |cons b r=>
  unfold subL
  rw[zoH hs ht hl (hb b (by simp))]
  split
  ·exact zl4 r zj1
  ·rfl
theorem zga {w:List Data}{t:Ty}{l:List Pat}{b:Pat} (hl:∀a∈l,zal w 11 t a=true) (hb:zal w 10 t b=true):∀x∈zcg w t l b,zal w 11 t x=true:=fun x hx=>by
 unfold zcg at hx
 obtain⟨a,ha,hx⟩:=List.mem_flatMap.1 (List.mem_filter.1 hx).1
 exact zf9 10 11 (by omega) (hl a ha) hb x hx
theorem zkv {n:Nat} (h0:0<n) (hb:n≤1000000):FnD Tryz.prog 179 [.nils,.d (.i (n:Int))] [] (.gv 9 []) [(9,some (.tok 0 6))]:=by
 refine bd Tryz.f179 27 [12,24] [] fun w0 F0 own kept hk=>?_
 refine sq (fun h1 h1p h1s=>?_) fun h1 h1p h1s=>?_
 ·try simp only[Q] at h1p
  exfalso;omega
 ·try simp only[Q] at h1p
  refine Walk.capN sl28 .none rfl rfl ?_
  refine evs [12,24] [] ?_
  refine Walk.lenN sl28 .none rfl rfl ?_
  refine evs [12,24] [] ?_
  refine ar ?_
  refine ar ?_
  refine sq (fun h2 h2p h2s=>?_) fun h2 h2p h2s=>?_
  ·try simp only[Q] at h2p
   refine Walk.capN sl28 .none rfl rfl ?_
   refine Walk.cutN_h sl28 .none rfl rfl rfl ?_
   refine evs [12,24] [] ?_
   refine Walk.growZ (n:=n) 8 sl28 Tryz.underlying3 tz77 rfl (by decide) rfl .none rfl rfl rfl (by simp) h0 (by omega) (by omega) rfl ?_
   refine evs [12,24] [] ?_
   refine Walk.lenN sl28 .none rfl rfl ?_
   refine Walk.cutV_h 9 (b:=0) sl28 .none rfl rfl (zaz rfl (by first|rfl|(simp;done)|(simp;omega))) rfl rfl (Nat.zero_le _) (by rw[List.length_replicate];exact h0) rfl ?_
   refine evs [12,24] [] ?_
   refine rn [(9,some (.tok 0 6))] (r1 rfl) (.gvg ?_) ⟨rfl,rfl⟩ (SubH.get ⟨rfl,trivial⟩) (zbv rfl)
   all_goals (first|rfl|(simp[h1s,h1p,h2s,h2p];done)|(simp_all;done)|(simp_all;omega)|omega)
  ·try simp only[Q] at h2p
   exfalso;simp at h2;all_goals omega
abbrev zsh (ls:List (List Pat)):D:= .sl (ls.map fun l=>[zad l])
theorem zjd {ls:List (List Pat)} (hl:ls.length≤1000) (h0:0<ls.flatten.length) (hb:ls.flatten.length≤1000000):FnD Tryz.prog 133 [.d (zsh ls)] [] (.d (zad ls.flatten)) []:=by
 have key:∀ {pre rest:List (List Pat)}{y:List Pat},pre++y::rest=ls→pre.flatten.length+y.length≤ls.flatten.length:=fun h=>by
  rw[←h];simp
 refine FnD.gvD (i:=9) (k:=6) ?_
 refine bd Tryz.f133 36 [] [] fun w0 F0 own kept hk=>?_
 refine CWp.loopX (ι:=List (List Pat)×List (List Pat)) hk (fun x=>[(11,.d (.i (x.1.length:Int))),(3,.d (.i (x.1.flatten.length:Int)))]) [5,12,13,14,15,16,17,18,19,20,21,22] (fun x=>[]) (fun x=>x.1++x.2=ls) (fun x=>x.2.length) ([],ls) (by simp) ⟨⟨_,rfl,(LeA.eqi (by first|rfl|(simp[Pat.cs_len];done)|omega))⟩,⟨⟨_,rfl,(LeA.eqi (by first|rfl|(simp[Pat.cs_len];done)|omega))⟩,trivial⟩⟩ trivial (fun x=>rfl) (fun x hg1=>?_)
 obtain⟨pre,rest⟩:=x
 dsimp only at hg1 ⊢
 refine evc [] [] ?_
 refine sq (fun h1 h1p h1s=>?_) fun h1 h1p h1s=>?_
 ·try simp only[Q,Pat.cs_len] at h1p
  rcases rest with _|⟨y,rest⟩
  ·exfalso;simp_all
  refine Walk.idx zdX .none rfl rfl rfl rfl (zaG hg1) rfl ?_
  refine ev ?_
  refine ar ?_ (by first|(have h9:=key hg1;constructor<;>first|omega|(simp only[Pat.cs_len];omega))|(constructor<;>omega))
  refine sq (fun h2 h2p h2s=>?_) fun h2 h2p h2s=>?_
  ·try simp only[Q,Pat.cs_len] at h2p
   exfalso;have:=key hg1;omega
  ·try simp only[Q,Pat.cs_len] at h2p
   refine ar ?_ (by first|(have h9:=key hg1;constructor<;>first|omega|(simp only[Pat.cs_len];omega))|(constructor<;>omega))
   refine Exists.intro ((pre++[y],rest)) ⟨(by have hz:=hg1;rw[←hz];simp),(by simp),Sub.x (by kernel_rfl) (by kernel_rfl) ⟨⟨_,rfl,(LeA.eqi (by first|rfl|(simp[Pat.cs_len];done)|omega))⟩,⟨⟨_,rfl,(LeA.eqi (by first|rfl|(simp[Pat.cs_len];done)|omega))⟩,trivial⟩⟩ (by kernel_rfl) (by kernel_rfl) trivial⟩
 ·try simp only[Q,Pat.cs_len] at h1p
  have hrest:rest=[]:=by
   rcases rest with _|⟨a,b⟩
   ·rfl
   ·exfalso;have hz:=congrArg List.length (hg1);simp only[List.length_append,List.length_cons,List.length_map] at hz;omega
  subst hrest
  refine Walk.call (cr:=[9]) ztq (zkv (n:=pre.flatten.length) (by rw[List.append_nil] at hg1;rw[hg1];exact h0) (by rw[List.append_nil] at hg1;rw[hg1];exact hb)) rfl .none rfl rfl (LeL.refl _) trivial rfl rfl rfl ?_
  refine ev ?_
  refine CWp.loopX (ι:=List (List Pat)×List (List Pat)) hk (fun x=>[(27,.d (.i (x.1.length:Int))),(6,.gv 9 (Pat.cs x.1.flatten))]) [8,28,29,30,31,32,33,34] (fun x=>[(9,some (.tok (Pat.cs x.1.flatten).length 6))]) (fun x=>x.1++x.2=ls) (fun x=>x.2.length) ([],ls) (by simp) ⟨⟨_,rfl,(LeA.eqi (by first|rfl|(simp[Pat.cs_cd];done)|omega))⟩,⟨⟨_,rfl,(LeA.gvg (by first|rfl|(simp[Pat.cs_cd];done)|omega))⟩,trivial⟩⟩ ⟨zab (by first|rfl|(simp;done)|(simp;omega)|(first|rfl|(simp[Pat.cs_cd];done)|omega)),trivial⟩ (fun x=>rfl) (fun x hg2=>?_)
  obtain⟨pre,rest⟩:=x
  dsimp only at hg2 ⊢
  refine evc [] [] ?_
  refine sq (fun h3 h3p h3s=>?_) fun h3 h3p h3s=>?_
  ·try simp only[Q,Pat.cs_len] at h3p
   rcases rest with _|⟨y,rest⟩
   ·exfalso;simp_all
   refine Walk.idx zdX .none rfl rfl rfl rfl (zaG hg2) rfl ?_
   refine ev ?_
   refine Walk.appendV sl28 zz77 .none rfl rfl rfl rfl (zaz rfl (by first|rfl|(simp;done)|(simp;omega))) (by exact zbd _) (by have:=key hg2;simp only[Pat.cs_len];omega) (by have:=key hg2;simp only[Pat.cs_len];omega) ?_
   refine ev ?_
   refine ar ?_ (by first|(have h9:=key hg1;constructor<;>first|omega|(simp only[Pat.cs_len];omega))|(constructor<;>omega))
   refine Exists.intro ((pre++[y],rest)) ⟨(by have hz:=hg2;rw[←hz];simp),(by simp),Sub.x (by kernel_rfl) (by kernel_rfl) ⟨⟨_,rfl,(LeA.eqi (by first|rfl|(simp[Pat.cs_cd];done)|omega))⟩,⟨⟨_,rfl,(LeA.gvg (by first|rfl|(simp[Pat.cs_cd];done)|omega))⟩,trivial⟩⟩ (by kernel_rfl) (by kernel_rfl) ⟨zab (by first|rfl|(simp;done)|(simp;omega)|(first|rfl|(simp[Pat.cs_cd];done)|omega)),trivial⟩⟩
  ·try simp only[Q,Pat.cs_len] at h3p
   have hrest:rest=[]:=by
    rcases rest with _|⟨a,b⟩
    ·rfl
    ·exfalso;have hz:=congrArg List.length (hg2);simp only[List.length_append,List.length_cons,List.length_map] at hz;omega
   subst hrest
   refine rn [(9,some (.tok (Pat.cs ls.flatten).length 6))] (r1 rfl) (.gvg ?_) ⟨rfl,rfl⟩ (SubH.get ⟨(by rw[List.append_nil] at hg2;subst hg2;rfl),trivial⟩) (zbv rfl)
   all_goals (first|rfl|(rw[List.append_nil] at hg2;rw[hg2]))
def zbG (l:List Int):Nat→List Pat
 |0=>[]
 |n+1=>zbG l n++zcd (nth l (2*n)) (nth l (2*n+1))
theorem zgN (l:List Int):∀n,(zbG l n).length≤n
 |0=>by simp[zbG]
 |n+1=>by
  have:=zgN l n
  simp only[zbG,zcd,List.length_append]
  split<;>simp<;>omega
theorem zaD {l:List Int}{n:Nat} (h:nth l (2*n)≤nth l (2*n+1)):zbG l (n+1)=zbG l n++[intQ (nth l (2*n)) (nth l (2*n+1))]:=by simp[zbG,zcd,h]
theorem zbn {l:List Int}{n:Nat} (h:¬nth l (2*n)≤nth l (2*n+1)):zbG l (n+1)=zbG l n:=by simp only[zbG,zcd,if_neg h,List.append_nil]
theorem zoR (a b:Int):zbG [a,b] 1=zcd a b:=by simp[zbG,nth]
theorem zrP (a b c d:Int):zbG [a,b,c,d] 2=zcd a b++zcd c d:=by simp[zbG,nth]
theorem zk8 {p:Pat}:FnD Tryz.prog 129 [.agg [.d (.i p.op),.d (.i p.ctor),.d (.i p.n),.d (.i p.m),.d (.i p.var),.d (zad p.kids)]] [] (.tup [.d (.i (lowQ p)),.d (.i (zdb p))]) []:=by
 by_cases h:p.op=1
 ·have e1:lowQ p=0:=if_pos h
  have e2:zdb p=9:=if_pos h
  rw[e1,e2]
  refine bd Tryz.f129 11 [] [] fun w0 F0 own kept hk=>?_
  refine Walk.box (id:=3001) .none rfl rfl rfl rfl rfl rfl rfl ?_
  refine ev ?_
  refine sq (fun h1 h1p h1s=>?_) fun h1 h1p h1s=>?_
  ·try simp only[Q] at h1p
   refine rn0 (r2 rfl rfl) (.tup (.cons (.eqd ?_) (.cons (.eqd ?_) .nil)))
   all_goals (first|rfl|(simp[h1s,h1p];done)|(simp_all;done)|(simp_all;omega)|omega)
  ·try simp only[Q] at h1p
   exfalso;omega
 ·skip
  have e1:lowQ p=p.n:=if_neg h
  have e2:zdb p=p.m:=if_neg h
  rw[e1,e2]
  refine bd Tryz.f129 11 [] [] fun w0 F0 own kept hk=>?_
  refine Walk.box (id:=3001) .none rfl rfl rfl rfl rfl rfl rfl ?_
  refine ev ?_
  refine sq (fun h1 h1p h1s=>?_) fun h1 h1p h1s=>?_
  ·try simp only[Q] at h1p
   exfalso;omega
  ·try simp only[Q] at h1p
   refine dr ?_
   refine rn0 (r2 rfl rfl) (.tup (.cons (.eqd ?_) (.cons (.eqd ?_) .nil)))
   all_goals (first|rfl|(simp[h1s,h1p];done)|(simp_all;done)|(simp_all;omega)|omega)
theorem zfe {l:List Int}{n:Nat} (hl:l.length=2*n) (hb:n≤1000):FnD Tryz.prog 130 [.d (zcB l)] [] (.d (zad (zbG l n))) []:=by
 refine bd Tryz.f130 35 [3] [] fun w0 F0 own kept hk=>?_
 refine Walk.assignNil 9 6 .none rfl rfl ?_
 refine tv ?_
 refine CWp.loopX (ι:=Nat) hk (fun i=>[(4,.d (.i ((2*i:Nat):Int))),(3,.gl 9 (Pat.cs (zbG l i)))]) [5,6,7,8,9,10,11,12,13,14,15,16,17,18,19,20,21,22,23,24,25,26,27,28,29,30,31,32,33] (fun i=>[(9,some (.tok ((Pat.cs (zbG l i))).length 6))]) (fun i=>i≤n) (fun i=>n-i) 0 (by omega) ⟨⟨_,rfl,(LeA.eqi (by first|rfl|(simp;done)|(rw[zaD (by assumption),Pat.cs_cd,Pat.cs_cd,List.map_append];rfl)|(rw[zbn (by assumption)];done)|(rw[zbn (by omega)];done)|(rw[zaD (by assumption)];simp[Pat.cs_len];done)|(rw[zaD (by omega)];simp[Pat.cs_len];done)|omega))⟩,⟨⟨_,rfl,(LeA.glg (by first|rfl|(simp;done)|(rw[zaD (by assumption),Pat.cs_cd,Pat.cs_cd,List.map_append];rfl)|(rw[zbn (by assumption)];done)|(rw[zbn (by omega)];done)|(rw[zaD (by assumption)];simp[Pat.cs_len];done)|(rw[zaD (by omega)];simp[Pat.cs_len];done)|omega))⟩,trivial⟩⟩ ⟨zab (by first|rfl|(simp;done)|(simp;omega)|(first|rfl|(simp;done)|(rw[zaD (by assumption),Pat.cs_cd,Pat.cs_cd,List.map_append];rfl)|(rw[zbn (by assumption)];done)|(rw[zbn (by omega)];done)|(rw[zaD (by assumption)];simp[Pat.cs_len];done)|(rw[zaD (by omega)];simp[Pat.cs_len];done)|omega)),trivial⟩ (fun x=>rfl) (fun i hg1=>?_)
 refine evc [3] [] ?_
 refine sq (fun h1 h1p h1s=>?_) fun h1 h1p h1s=>?_
 ·try simp only[Q] at h1p
  refine Walk.idx (i:=2*i) zbS .none rfl rfl rfl rfl (zam (by omega)) rfl ?_
  refine evd [3] [] ?_
  refine ar ?_
  refine Walk.idx (i:=2*i+1) zbS .none rfl rfl rfl rfl (zam (by omega)) rfl ?_
  refine evd [3] [] ?_
  refine dr ?_
  refine sq (fun h2 h2p h2s=>?_) fun h2 h2p h2s=>?_
  ·try simp only[Q] at h2p
   refine Walk.idx (i:=2*i) zbS .none rfl rfl rfl rfl (zam (by omega)) rfl ?_
   refine evd [3] [] ?_
   refine ar ?_
   refine Walk.idx (i:=2*i+1) zbS .none rfl rfl rfl rfl (zam (by omega)) rfl ?_
   refine evd [3] [] ?_
   refine Walk.build st77 (ks:=[0,2,3]) (xs:=[_,_,_]) rfl rfl .none rfl rfl rfl ?_
   refine Walk.sliceLit sl28 tz77 rfl (by decide) (ks:=[0]) (xs:=[_]) rfl rfl (by decide) (by decide) .none rfl rfl rfl rfl ?_
   refine Walk.append sl28 zz77 rfl .none rfl rfl rfl rfl (zaz rfl (by first|rfl|(simp;done)|(simp;omega))) (by first|exact zbd _|(intro x hx;simp at hx;subst hx;rfl)) (by have:=zgN l i;simp[Pat.cs_len];omega) (by have:=zgN l i;simp[Pat.cs_len];omega) ?_
   refine asg ?_
   refine dr ?_
   refine ar ?_
   refine Exists.intro (i+1) ⟨(by omega),(by omega),Sub.x (by kernel_rfl) (by kernel_rfl) ⟨⟨_,rfl,(LeA.eqi (by first|rfl|(simp;done)|(rw[zaD (by assumption),Pat.cs_cd,Pat.cs_cd,List.map_append];rfl)|(rw[zbn (by assumption)];done)|(rw[zbn (by omega)];done)|(rw[zaD (by assumption)];simp[Pat.cs_len];done)|(rw[zaD (by omega)];simp[Pat.cs_len];done)|omega))⟩,⟨⟨_,rfl,(LeA.glg (by first|rfl|(simp;done)|(rw[zaD (by assumption),Pat.cs_cd,Pat.cs_cd,List.map_append];rfl)|(rw[zbn (by assumption)];done)|(rw[zbn (by omega)];done)|(rw[zaD (by assumption)];simp[Pat.cs_len];done)|(rw[zaD (by omega)];simp[Pat.cs_len];done)|omega))⟩,trivial⟩⟩ (by kernel_rfl) (by kernel_rfl) ⟨zab (by first|rfl|(simp;done)|(simp;omega)|(first|rfl|(simp;done)|(rw[zaD (by assumption),Pat.cs_cd,Pat.cs_cd,List.map_append];rfl)|(rw[zbn (by assumption)];done)|(rw[zbn (by omega)];done)|(rw[zaD (by assumption)];simp[Pat.cs_len];done)|(rw[zaD (by omega)];simp[Pat.cs_len];done)|omega)),trivial⟩⟩
  ·try simp only[Q] at h2p
   refine ar ?_
   refine Exists.intro (i+1) ⟨(by omega),(by omega),Sub.x (by kernel_rfl) (by kernel_rfl) ⟨⟨_,rfl,(LeA.eqi (by first|rfl|(simp;done)|(rw[zaD (by assumption),Pat.cs_cd,Pat.cs_cd,List.map_append];rfl)|(rw[zbn (by assumption)];done)|(rw[zbn (by omega)];done)|(rw[zaD (by assumption)];simp[Pat.cs_len];done)|(rw[zaD (by omega)];simp[Pat.cs_len];done)|omega))⟩,⟨⟨_,rfl,(LeA.glg (by first|rfl|(simp;done)|(rw[zaD (by assumption),Pat.cs_cd,Pat.cs_cd,List.map_append];rfl)|(rw[zbn (by assumption)];done)|(rw[zbn (by omega)];done)|(rw[zaD (by assumption)];simp[Pat.cs_len];done)|(rw[zaD (by omega)];simp[Pat.cs_len];done)|omega))⟩,trivial⟩⟩ (by kernel_rfl) (by kernel_rfl) ⟨zab (by first|rfl|(simp;done)|(simp;omega)|(first|rfl|(simp;done)|(rw[zaD (by assumption),Pat.cs_cd,Pat.cs_cd,List.map_append];rfl)|(rw[zbn (by assumption)];done)|(rw[zbn (by omega)];done)|(rw[zaD (by assumption)];simp[Pat.cs_len];done)|(rw[zaD (by omega)];simp[Pat.cs_len];done)|omega)),trivial⟩⟩
 ·try simp only[Q] at h1p
  refine rn0 (r1 rfl) (.gld ?_)
  all_goals (first|rfl|(have e:i=n:=(by omega);rw[e]))
theorem znE {w:List Data} (hw:WT w){f:Nat→Nat}{a k c:Int} (ht:TyIn w.length ⟨a,k⟩) (hc:c∈zat w ⟨a,k⟩) (hl:(zag w ⟨a,k⟩ c).length≤3):FnD Tryz.prog 131 [.d (sPtr w f),.agg [.d (.i a),.d (.i k)],.d (.i c)] []
  (.agg [.d (.i 4),.d (.i c),.d (.i 0),.d (.i 0),.d (.i 0),.d (zad (zcf w ⟨a,k⟩ c).kids)]) []:=by
 refine bd Tryz.f131 28 [] [] fun w0 F0 own kept hk=>?_
 refine Walk.box (id:=3004) .none rfl rfl rfl rfl rfl rfl rfl ?_
 refine Walk.alloc (id:=3006) tz77 rfl .none rfl rfl rfl rfl ?_
 refine tv ?_
 refine Walk.build st77 (ks:=[0,1]) (xs:=[_,_]) rfl rfl .none rfl rfl rfl ?_
 refine Walk.alloc (id:=3007) tz77 rfl .none rfl rfl rfl rfl ?_
 refine Walk.store ty77 .none rfl rfl rfl rfl rfl rfl (by simp) rfl ?_
 refine tv ?_
 refine Walk.call (cr:=[]) zht (zcD hw ht hc) rfl .none rfl rfl (LeL.refl _) trivial rfl rfl rfl ?_
 refine evd [] [] ?_
 refine dr ?_
 refine CWp.tokB 3007 5 9 6 rfl rfl rfl rfl ?_
 refine CWp.loopX (ι:=List (Ty)×List (Ty)) hk (fun x=>[(18,.d (.i (x.1.length:Int)))]) [19,20,21,22,23,24,25,26] (fun x=>[(3007,some (.box [.d (.i 4),.d (.i c),.d (.i 0),.d (.i 0),.d (.i 0),.gl 9 ((x.1.map fun _=>anyQ).map Pat.cc)])),(9,some (.tok ((x.1.map fun _=>anyQ).map Pat.cc).length 6))]) (fun x=>x.1++x.2=zag w ⟨a,k⟩ c) (fun x=>x.2.length) ([],zag w ⟨a,k⟩ c) (by simp) ⟨⟨_,rfl,(LeA.eqi (by first|rfl|(simp;done)|(simp;exact⟨rfl,rfl,rfl,rfl,rfl,rfl⟩)|omega))⟩,trivial⟩ ⟨(by first|rfl|(simp[getH];done)|(simp[getH];exact⟨rfl,rfl,rfl,rfl,rfl,rfl⟩)),⟨zab (by first|rfl|(simp;done)|(simp;omega)|(first|rfl|(simp;done)|(simp;exact⟨rfl,rfl,rfl,rfl,rfl,rfl⟩)|omega)),trivial⟩⟩ (fun x=>rfl) (fun x hg1=>?_)
 obtain⟨pre,rest⟩:=x
 dsimp only at hg1 ⊢
 refine evc [] [] ?_
 refine sq (fun h1 h1p h1s=>?_) fun h1 h1p h1s=>?_
 ·try simp only[Q] at h1p
  rcases rest with _|⟨y,rest⟩
  ·exfalso;simp_all
  refine Walk.call (cr:=[]) zpW (zd2) rfl .none rfl rfl (LeL.refl _) trivial rfl rfl rfl ?_
  refine Walk.sliceLit sl28 tz77 rfl (by decide) (ks:=[0]) (xs:=[_]) rfl rfl (by decide) (by decide) .none rfl rfl rfl rfl ?_
  refine Walk.append sl28 zz77 rfl .none rfl rfl rfl rfl (zaz rfl (by first|rfl|(simp;done)|(simp;omega))) (by intro x hx;first|(simp at hx;subst hx;rfl)|exact zbF _ x hx) (by have:=congrArg List.length hg1;simp at this;simp;omega) (by have:=congrArg List.length hg1;simp at this;simp;omega) ?_
  refine evd [] [] ?_
  refine Walk.store ty28 .none rfl rfl rfl rfl rfl rfl (by simp) rfl ?_
  refine dr ?_
  refine ar ?_
  refine Exists.intro ((pre++[y],rest)) ⟨(by have hz:=hg1;rw[←hz];simp),(by simp),Sub.x (by kernel_rfl) (by kernel_rfl) ⟨⟨_,rfl,(LeA.eqi (by first|rfl|(simp;done)|(simp;exact⟨rfl,rfl,rfl,rfl,rfl,rfl⟩)|omega))⟩,trivial⟩ (by kernel_rfl) (by kernel_rfl) ⟨(by first|rfl|(simp[getH];done)|(simp[getH];exact⟨rfl,rfl,rfl,rfl,rfl,rfl⟩)),⟨zab (by first|rfl|(simp;done)|(simp;omega)|(first|rfl|(simp;done)|(simp;exact⟨rfl,rfl,rfl,rfl,rfl,rfl⟩)|omega)),trivial⟩⟩⟩
 ·try simp only[Q] at h1p
  have hrest:rest=[]:=by
   rcases rest with _|⟨a,b⟩
   ·rfl
   ·exfalso;have hz:=congrArg List.length (hg1);simp only[List.length_append,List.length_cons,List.length_map] at hz;omega
  subst hrest
  refine Walk.store ty77 .none rfl rfl rfl rfl rfl rfl (by simp) rfl ?_
  refine tv ?_
  refine rn0 (.cons (.cellA ty77 rfl rfl rfl) .nil) (.agg (.cons (.eqd ?_) (.cons (.eqd ?_) (.cons (.eqd ?_) (.cons (.eqd ?_) (.cons (.eqd ?_) (.cons (.gld ?_) .nil)))))))
  all_goals (first|rfl|(rw[List.append_nil] at hg1;subst hg1;rw[←Pat.cs_cd];all_goals rfl))
def zcM (n:Nat) (a b:Pat):Pat:=(zaT n a b).getD zsu
theorem zcv {n:Nat}{a b x:Pat} (h:zaT n a b=some x):zcM n a b=x:=by unfold zcM;rw[h];rfl
theorem zeY {n:Nat}{a b:Pat} (h:zaT n a b=none):zcM n a b=zsu:=by unfold zcM;rw[h];rfl
theorem zmB {n:Nat}{a b:Pat} (h:(zaT n a b).isSome=true):zaT n a b=some (zcM n a b):=by
 unfold zcM
 cases e:zaT n a b with
 |none=>rw[e] at h;cases h
 |some x=>rfl
theorem zmC {n:Nat}{a b:Pat} (h:(zaT n a b).isSome=false):zaT n a b=none:=by
 cases e:zaT n a b with
 |none=>rfl
 |some x=>rw[e] at h;cases h
theorem ziS {w:List Data} (hs:Spa w){f:Nat→Nat}:∀(n m:Nat){ta tk:Int}{a b:Pat},m≤n→InS (w.length*4) ⟨ta,tk⟩→zal w m ⟨ta,tk⟩ a=true→zal w m ⟨ta,tk⟩ b=true→
  FnD Tryz.prog 134 [.d (sPtr w f),.agg [.d (.i ta),.d (.i tk)],.agg [.d (.i a.op),.d (.i a.ctor),.d (.i a.n),.d (.i a.m),.d (.i a.var),.d (zad a.kids)],.agg [.d (.i b.op),.d (.i b.ctor),.d (.i b.n),.d (.i b.m),.d (.i b.var),.d (zad b.kids)]] []
   (.tup [.agg [.d (.i (zcM n a b).op),.d (.i (zcM n a b).ctor),.d (.i (zcM n a b).n),.d (.i (zcM n a b).m),.d (.i (zcM n a b).var),.d (zad (zcM n a b).kids)],.d (.bool (zaT n a b).isSome)]) []
 |n,0,ta,tk,a,b,_,_,ha,_=>by simp[zal] at ha
 |0,m+1,ta,tk,a,b,h,_,_,_=>by omega
 |n+1,m+1,ta,tk,a,b,hnm,ht,ha,hb=>by
  by_cases h1:a.op=1
  ·have e:=zlw (n:=n) (b:=b) h1
   rw[zcv e,e]
   refine bd Tryz.f134 100 [] [] fun w0 F0 own kept hk=>?_
   refine Walk.box (id:=3005) .none rfl rfl rfl rfl rfl rfl rfl ?_
   refine Walk.box (id:=3006) .none rfl rfl rfl rfl rfl rfl rfl ?_
   refine Walk.box (id:=3007) .none rfl rfl rfl rfl rfl rfl rfl ?_
   refine Walk.alloc (id:=3008) tz77 rfl .none rfl rfl rfl rfl ?_
   refine ev ?_
   refine sq (fun h1 h1p h1s=>?_) fun h1 h1p h1s=>?_
   try simp only[Q] at h1p
   refine Walk.store ty77 .none rfl rfl rfl rfl rfl rfl (by simp) rfl ?_
   refine ev ?_
   refine rn0 (.cons (.cellA ty77 rfl rfl rfl) (.cons (.tmp rfl) .nil)) (.tup (.cons (.agg (.cons (.eqd ?_) (.cons (.eqd ?_) (.cons (.eqd ?_) (.cons (.eqd ?_) (.cons (.eqd ?_) (.cons (.eqd ?_) .nil))))))) (.cons (.eqd ?_) .nil)))
   rotate_left 7
   try simp only[Q] at h1p
   exfalso;omega
   all_goals (rfl)
  by_cases h2:b.op=1
  ·have e:=zlx (n:=n) h1 h2
   rw[zcv e,e]
   refine bd Tryz.f134 100 [] [] fun w0 F0 own kept hk=>?_
   refine Walk.box (id:=3005) .none rfl rfl rfl rfl rfl rfl rfl ?_
   refine Walk.box (id:=3006) .none rfl rfl rfl rfl rfl rfl rfl ?_
   refine Walk.box (id:=3007) .none rfl rfl rfl rfl rfl rfl rfl ?_
   refine Walk.alloc (id:=3008) tz77 rfl .none rfl rfl rfl rfl ?_
   refine ev ?_
   refine sq (fun h1 h1p h1s=>?_) fun h1 h1p h1s=>?_
   try simp only[Q] at h1p
   exfalso;omega
   try simp only[Q] at h1p
   refine sq (fun h2 h2p h2s=>?_) fun h2 h2p h2s=>?_
   try simp only[Q] at h2p
   refine Walk.store ty77 .none rfl rfl rfl rfl rfl rfl (by simp) rfl ?_
   refine ev ?_
   refine rn0 (.cons (.cellA ty77 rfl rfl rfl) (.cons (.tmp rfl) .nil)) (.tup (.cons (.agg (.cons (.eqd ?_) (.cons (.eqd ?_) (.cons (.eqd ?_) (.cons (.eqd ?_) (.cons (.eqd ?_) (.cons (.eqd ?_) .nil))))))) (.cons (.eqd ?_) .nil)))
   rotate_left 7
   try simp only[Q] at h2p
   exfalso;omega
   all_goals (rfl)
  by_cases h3:a.op=3
  ·have e:=zly (n:=n) h3 h2
   by_cases hr:maxQ a.n b.n≤minQ a.m b.m
   ·rw[if_pos hr] at e
    have er:zbG [maxQ a.n b.n,minQ a.m b.m] 1=[intQ (maxQ a.n b.n) (minQ a.m b.m)]:=by rw[zoR];exact if_pos hr
    have hrg:=zfe (l:=[maxQ a.n b.n,minQ a.m b.m]) (n:=1) rfl (by omega)
    rw[er] at hrg
    rw[zcv e,e]
    refine bd Tryz.f134 100 [] [] fun w0 F0 own kept hk=>?_
    refine Walk.box (id:=3005) .none rfl rfl rfl rfl rfl rfl rfl ?_
    refine Walk.box (id:=3006) .none rfl rfl rfl rfl rfl rfl rfl ?_
    refine Walk.box (id:=3007) .none rfl rfl rfl rfl rfl rfl rfl ?_
    refine Walk.alloc (id:=3008) tz77 rfl .none rfl rfl rfl rfl ?_
    refine ev ?_
    refine sq (fun h1 h1p h1s=>?_) fun h1 h1p h1s=>?_
    try simp only[Q,Pat.cs_len] at h1p
    exfalso;omega
    try simp only[Q,Pat.cs_len] at h1p
    refine sq (fun h2 h2p h2s=>?_) fun h2 h2p h2s=>?_
    try simp only[Q,Pat.cs_len] at h2p
    exfalso;omega
    try simp only[Q,Pat.cs_len] at h2p
    refine sq (fun h3 h3p h3s=>?_) fun h3 h3p h3s=>?_
    try simp only[Q,Pat.cs_len] at h3p
    refine Walk.maxI .none rfl rfl rfl ?_
    refine ev ?_
    refine Walk.minI .none rfl rfl rfl ?_
    refine Walk.sliceLit zbS tz3 rfl (by decide) (ks:=[0,1]) (xs:=[_,_]) rfl rfl (by decide) (by decide) .none rfl rfl rfl rfl ?_
    refine Walk.call (cr:=[]) zn7 (hrg) rfl .none rfl rfl (LeL.refl _) trivial rfl rfl rfl ?_
    refine ev ?_
    refine sq (fun h4 h4p h4s=>?_) fun h4 h4p h4s=>?_
    try simp only[Q,Pat.cs_len] at h4p
    exfalso;simp[Pat.cs_len] at h4
    try simp only[Q,Pat.cs_len] at h4p
    refine Walk.idx (i:=0) sl28 .none rfl rfl rfl rfl (rfl) rfl ?_
    refine ev ?_
    refine Walk.store ty77 .none rfl rfl rfl rfl rfl rfl (by simp) rfl ?_
    refine ev ?_
    refine rn0 (.cons (.cellA ty77 rfl rfl rfl) (.cons (.tmp rfl) .nil)) (.tup (.cons (.agg (.cons (.eqd ?_) (.cons (.eqd ?_) (.cons (.eqd ?_) (.cons (.eqd ?_) (.cons (.eqd ?_) (.cons (.eqd ?_) .nil))))))) (.cons (.eqd ?_) .nil)))
    rotate_left 7
    try simp only[Q,Pat.cs_len] at h3p
    exfalso;omega
    all_goals (rfl)
   ·skip
    rw[if_neg hr] at e
    have er:zbG [maxQ a.n b.n,minQ a.m b.m] 1=[]:=by rw[zoR];exact if_neg hr
    have hrg:=zfe (l:=[maxQ a.n b.n,minQ a.m b.m]) (n:=1) rfl (by omega)
    rw[er] at hrg
    rw[zeY e,e]
    refine bd Tryz.f134 100 [] [] fun w0 F0 own kept hk=>?_
    refine Walk.box (id:=3005) .none rfl rfl rfl rfl rfl rfl rfl ?_
    refine Walk.box (id:=3006) .none rfl rfl rfl rfl rfl rfl rfl ?_
    refine Walk.box (id:=3007) .none rfl rfl rfl rfl rfl rfl rfl ?_
    refine Walk.alloc (id:=3008) tz77 rfl .none rfl rfl rfl rfl ?_
    refine ev ?_
    refine sq (fun h1 h1p h1s=>?_) fun h1 h1p h1s=>?_
    try simp only[Q,Pat.cs_len] at h1p
    exfalso;omega
    try simp only[Q,Pat.cs_len] at h1p
    refine sq (fun h2 h2p h2s=>?_) fun h2 h2p h2s=>?_
    try simp only[Q,Pat.cs_len] at h2p
    exfalso;omega
    try simp only[Q,Pat.cs_len] at h2p
    refine sq (fun h3 h3p h3s=>?_) fun h3 h3p h3s=>?_
    try simp only[Q,Pat.cs_len] at h3p
    refine Walk.maxI .none rfl rfl rfl ?_
    refine ev ?_
    refine Walk.minI .none rfl rfl rfl ?_
    refine Walk.sliceLit zbS tz3 rfl (by decide) (ks:=[0,1]) (xs:=[_,_]) rfl rfl (by decide) (by decide) .none rfl rfl rfl rfl ?_
    refine Walk.call (cr:=[]) zn7 (hrg) rfl .none rfl rfl (LeL.refl _) trivial rfl rfl rfl ?_
    refine ev ?_
    refine sq (fun h4 h4p h4s=>?_) fun h4 h4p h4s=>?_
    try simp only[Q,Pat.cs_len] at h4p
    refine Walk.build st77 (ks:=[]) (xs:=[]) rfl rfl .none rfl rfl rfl ?_
    refine Walk.store ty77 .none rfl rfl rfl rfl rfl rfl (by simp) rfl ?_
    refine ev ?_
    refine rn0 (.cons (.cellA ty77 rfl rfl rfl) (.cons (.tmp rfl) .nil)) (.tup (.cons (.agg (.cons (.eqd ?_) (.cons (.eqd ?_) (.cons (.eqd ?_) (.cons (.eqd ?_) (.cons (.eqd ?_) (.cons (.nild ?_) .nil))))))) (.cons (.eqd ?_) .nil)))
    rotate_left 7
    try simp only[Q,Pat.cs_len] at h4p
    exfalso;simp[Pat.cs] at h4
    try simp only[Q,Pat.cs_len] at h3p
    exfalso;omega
    all_goals (rfl)
  have oa:=zcc ha
  have h4:a.op=4:=by omega
  have h4b:b.op=4:=by have:=zdQ ha hb h1 h2;omega
  by_cases hc:a.ctor=b.ctor
  ·obtain⟨c1,c2,c3,c4⟩:=zba ha h4
   obtain⟨d1,d2,d3,d4⟩:=zba hb h4b
   rw[←hc] at d3
   have h3l:=hs.args ⟨ta,tk⟩ a.ctor ht c1
   have ka:=fun i (hi:i<a.kids.length)=>zbt ha hi
   have kb:=fun i (hi:i<b.kids.length)=>zbt hb hi
   rw[zbI h4] at ka
   rw[zbI h4b,←hc] at kb
   have e:=zlz (n:=n) h4 h2 hc
   have hlen:a.kids.length=b.kids.length:=by omega
   have ih:=fun i (hi:i<(zag w ⟨ta,tk⟩ a.ctor).length)=>ziS hs n m (f:=f) (ta:=(nth (zag w ⟨ta,tk⟩ a.ctor) i).data) (tk:=(nth (zag w ⟨ta,tk⟩ a.ctor) i).index) (a:=nth a.kids i) (b:=nth b.kids i) (by omega) (zco hs.dp ht c1 _ (zae hi)) (ka i (by omega)) (kb i (by omega))
   refine bd Tryz.f134 100 [] [] fun w0 F0 own kept hk=>?_
   refine Walk.box (id:=3005) .none rfl rfl rfl rfl rfl rfl rfl ?_
   refine Walk.box (id:=3006) .none rfl rfl rfl rfl rfl rfl rfl ?_
   refine Walk.box (id:=3007) .none rfl rfl rfl rfl rfl rfl rfl ?_
   refine Walk.alloc (id:=3008) tz77 rfl .none rfl rfl rfl rfl ?_
   refine ev ?_
   refine sq (fun h1 h1p h1s=>?_) fun h1 h1p h1s=>?_
   try simp only[Q,Pat.cs_len] at h1p
   exfalso;omega
   try simp only[Q,Pat.cs_len] at h1p
   refine sq (fun h2 h2p h2s=>?_) fun h2 h2p h2s=>?_
   try simp only[Q,Pat.cs_len] at h2p
   exfalso;omega
   try simp only[Q,Pat.cs_len] at h2p
   refine sq (fun h3 h3p h3s=>?_) fun h3 h3p h3s=>?_
   try simp only[Q,Pat.cs_len] at h3p
   exfalso;omega
   try simp only[Q,Pat.cs_len] at h3p
   refine sq (fun h4 h4p h4s=>?_) fun h4 h4p h4s=>?_
   try simp only[Q,Pat.cs_len] at h4p
   exfalso;omega
   try simp only[Q,Pat.cs_len] at h4p
   refine Walk.build st77 (ks:=[0,1]) (xs:=[_,_]) rfl rfl .none rfl rfl rfl ?_
   refine Walk.alloc (id:=3011) tz77 rfl .none rfl rfl rfl rfl ?_
   refine Walk.store ty77 .none rfl rfl rfl rfl rfl rfl (by simp) rfl ?_
   refine tv ?_
   refine Walk.call (cr:=[]) zht (zcD hs.dp.wt (zcI ht) c1) rfl .none rfl rfl (LeL.refl _) trivial rfl rfl rfl ?_
   refine evd [] [] ?_
   refine dr ?_
   refine CWp.tokB 3011 5 9 6 rfl rfl rfl rfl ?_
   refine CWp.loopX (ι:=Nat×List Pat) hk (fun x=>[(68,.d (.i (x.1:Int)))]) [9,12,13,14,15,69,70,71,72,73,74,75,76,77,78,79,80,81,82,83,84,85,86,87,88,89,90,91,92,93,94,95,96,97,98] (fun x=>[(3011,some (.box [.d (.i 4),.d (.i a.ctor),.d (.i 0),.d (.i 0),.d (.i 0),.gl 9 (x.2.map Pat.cc)])),(9,some (.tok (x.2.map Pat.cc).length 6))]) (fun x=>x.1≤a.kids.length∧x.2.length=x.1∧zcE (zaT n) (a.kids.drop x.1) (b.kids.drop x.1) x.2=zcE (zaT n) a.kids b.kids []) (fun x=>a.kids.length-x.1) (0,[]) ⟨by simp,rfl,rfl⟩ ⟨⟨_,rfl,(LeA.eqi (by first|rfl|(simp;done)|(simp_all;done)|omega))⟩,trivial⟩ ⟨(by first|rfl|(simp[getH];done)),⟨zab (by first|rfl|(simp;done)|(simp;omega)|(first|rfl|(simp;done)|(simp_all;done)|omega)),trivial⟩⟩ (fun x=>rfl) (fun x hg1=>?_)
   refine evc [] [] ?_
   refine sq (fun h5 h5p h5s=>?_) fun h5 h5p h5s=>?_
   try simp only[Q,Pat.cs_len] at h5p
   refine Walk.idx zaS .none rfl rfl rfl rfl (zam (by omega)) rfl ?_
   refine ev ?_
   refine Walk.alloc (id:=3013) tz33 rfl .none rfl rfl rfl rfl ?_
   refine ev ?_
   refine Walk.store ty33 .none rfl rfl rfl rfl rfl rfl (by simp) rfl ?_
   refine tv ?_
   refine Walk.idx sl28 .none rfl rfl rfl rfl (zaC (by omega)) rfl ?_
   refine evd [] [] ?_
   refine Walk.idx sl28 .none rfl rfl rfl rfl (zaC (by omega)) rfl ?_
   refine evd [] [] ?_
   refine Walk.call (cr:=[]) zqu (ih x.1 (by omega)) rfl .none rfl rfl (LeL.refl _) trivial rfl rfl rfl ?_
   refine evd [] [] ?_
   refine Walk.alloc (id:=3014) tz77 rfl .none rfl rfl rfl rfl ?_
   refine Walk.store ty77 .none rfl rfl rfl rfl rfl rfl (by simp) rfl ?_
   refine evd [] [] ?_
   refine dr ?_
   refine sq (fun h6 h6p h6s=>?_) fun h6 h6p h6s=>?_
   try simp only[Q,Pat.cs_len] at h6p
   refine Walk.build st77 (ks:=[]) (xs:=[]) rfl rfl .none rfl rfl rfl ?_
   refine Walk.store ty77 .none rfl rfl rfl rfl rfl rfl (by simp) rfl ?_
   refine ev ?_
   refine rn0 (.cons (.cellA ty77 rfl rfl rfl) (.cons (.tmp rfl) .nil)) (.tup (.cons (.agg (.cons (.eqd ?_) (.cons (.eqd ?_) (.cons (.eqd ?_) (.cons (.eqd ?_) (.cons (.eqd ?_) (.cons (.nild ?_) .nil))))))) (.cons (.eqd ?_) .nil)))
   rotate_left 7
   try simp only[Q,Pat.cs_len] at h6p
   refine Walk.sliceLit sl28 tz77 rfl (by decide) (ks:=[0]) (xs:=[_]) rfl rfl (by decide) (by decide) .none rfl rfl rfl rfl ?_
   refine Walk.append sl28 zz77 rfl .none rfl rfl rfl rfl (zaz rfl (by first|rfl|(simp;done)|(simp;omega))) (by intro x hx;first|(simp at hx;subst hx;rfl)|exact zbF _ x hx) (by simp;omega) (by simp;omega) ?_
   refine ev ?_
   refine Walk.store ty28 .none rfl rfl rfl rfl rfl rfl (by simp) rfl ?_
   refine tv ?_
   refine ar ?_
   refine Exists.intro ((x.1+1,x.2++[zcM n (nth a.kids x.1) (nth b.kids x.1)])) ⟨⟨by dsimp only;omega,by dsimp only;rw[List.length_append,hg1.2.1];rfl,by dsimp only;rw[←zlv (by omega) (by omega) (zmB (by assumption))];exact hg1.2.2⟩,(by dsimp only;omega),Sub.x (by kernel_rfl) (by kernel_rfl) ⟨⟨_,rfl,(LeA.eqi (by first|rfl|(simp;done)|(simp_all;done)|omega))⟩,trivial⟩ (by kernel_rfl) (by kernel_rfl) ⟨(by first|rfl|(simp[getH];done)),⟨zab (by first|rfl|(simp;done)|(simp;omega)|(first|rfl|(simp;done)|(simp_all;done)|omega)),trivial⟩⟩⟩
   try simp only[Q,Pat.cs_len] at h5p
   refine Walk.store ty77 .none rfl rfl rfl rfl rfl rfl (by simp) rfl ?_
   refine ev ?_
   refine rn0 (.cons (.cellA ty77 rfl rfl rfl) (.cons (.tmp rfl) .nil)) (.tup (.cons (.agg (.cons (.eqd ?_) (.cons (.eqd ?_) (.cons (.eqd ?_) (.cons (.eqd ?_) (.cons (.eqd ?_) (.cons (.gld ?_) .nil))))))) (.cons (.eqd ?_) .nil)))
   rotate_left 7
   all_goals (first|(have e2:zaT (n+1) a b=none:=(by rw[e,←hg1.2.2,zlu (by omega) (by omega) (zmC (by assumption))];rfl);(first|rw[zeY e2]|rw[e2]);all_goals rfl)|(have e2:zaT (n+1) a b=some (zb3 a.ctor x.2):=(by rw[e,←hg1.2.2,zeI (by omega)];rfl);rw[zcv e2,Pat.cs_cd];all_goals rfl)|(have e2:zaT (n+1) a b=some (zb3 a.ctor x.2):=(by rw[e,←hg1.2.2,zeI (by omega)];rfl);rw[zcv e2];all_goals rfl)|(have e2:zaT (n+1) a b=some (zb3 a.ctor x.2):=(by rw[e,←hg1.2.2,zeI (by omega)];rfl);rw[e2];all_goals rfl))
  ·skip
   have e:=zjw (n:=n) h4 h2 hc
   rw[zeY e,e]
   refine bd Tryz.f134 100 [] [] fun w0 F0 own kept hk=>?_
   refine Walk.box (id:=3005) .none rfl rfl rfl rfl rfl rfl rfl ?_
   refine Walk.box (id:=3006) .none rfl rfl rfl rfl rfl rfl rfl ?_
   refine Walk.box (id:=3007) .none rfl rfl rfl rfl rfl rfl rfl ?_
   refine Walk.alloc (id:=3008) tz77 rfl .none rfl rfl rfl rfl ?_
   refine ev ?_
   refine sq (fun h1 h1p h1s=>?_) fun h1 h1p h1s=>?_
   try simp only[Q] at h1p
   exfalso;omega
   try simp only[Q] at h1p
   refine sq (fun h2 h2p h2s=>?_) fun h2 h2p h2s=>?_
   try simp only[Q] at h2p
   exfalso;omega
   try simp only[Q] at h2p
   refine sq (fun h3 h3p h3s=>?_) fun h3 h3p h3s=>?_
   try simp only[Q] at h3p
   exfalso;omega
   try simp only[Q] at h3p
   refine sq (fun h4 h4p h4s=>?_) fun h4 h4p h4s=>?_
   try simp only[Q] at h4p
   refine Walk.build st77 (ks:=[]) (xs:=[]) rfl rfl .none rfl rfl rfl ?_
   refine Walk.store ty77 .none rfl rfl rfl rfl rfl rfl (by simp) rfl ?_
   refine ev ?_
   refine rn0 (.cons (.cellA ty77 rfl rfl rfl) (.cons (.tmp rfl) .nil)) (.tup (.cons (.agg (.cons (.eqd ?_) (.cons (.eqd ?_) (.cons (.eqd ?_) (.cons (.eqd ?_) (.cons (.eqd ?_) (.cons (.nild ?_) .nil))))))) (.cons (.eqd ?_) .nil)))
   rotate_left 7
   try simp only[Q] at h4p
   exfalso;omega
   all_goals (rfl)
theorem zg7 {f:Ty→Pat→Pat→List Pat}{c:Int}{ts:List Ty}{xs bs front:List Pat}{i:Nat} (h1:i<ts.length) (h2:i<xs.length) (h3:i<bs.length):
  zbc f c (ts.drop i) (xs.drop i) (bs.drop i) front=(f (nth ts i) (nth xs i) (nth bs i)).map (fun z=>zb3 c (front++[z]++xs.drop (i+1)))++(match zaT 11 (nth xs i) (nth bs i) with
   |none=>[]
   |some both=>zbc f c (ts.drop (i+1)) (xs.drop (i+1)) (bs.drop (i+1)) (front++[both])):=by
 rw[zaP h1,zaP h2,zaP h3,zbc]
 all_goals (cases zaT 11 (nth xs i) (nth bs i)<;>rfl)
theorem zj0 {f:Ty→Pat→Pat→List Pat}{c:Int}{ts:List Ty}{xs bs front:List Pat}{i:Nat} (h1:i<ts.length) (h2:i<xs.length) (h3:i<bs.length) (h:(zaT 11 (nth xs i) (nth bs i)).isSome=true):
  zbc f c (ts.drop i) (xs.drop i) (bs.drop i) front=(f (nth ts i) (nth xs i) (nth bs i)).map (fun z=>zb3 c (front++[z]++xs.drop (i+1)))++zbc f c (ts.drop (i+1)) (xs.drop (i+1)) (bs.drop (i+1)) (front++[zcM 11 (nth xs i) (nth bs i)]):=by
 rw[zg7 h1 h2 h3,zmB h]
theorem zjZ {f:Ty→Pat→Pat→List Pat}{c:Int}{ts:List Ty}{xs bs front:List Pat}{i:Nat} (h1:i<ts.length) (h2:i<xs.length) (h3:i<bs.length) (h:(zaT 11 (nth xs i) (nth bs i)).isSome=false):
  zbc f c (ts.drop i) (xs.drop i) (bs.drop i) front=(f (nth ts i) (nth xs i) (nth bs i)).map (fun z=>zb3 c (front++[z]++xs.drop (i+1))):=by
 rw[zg7 h1 h2 h3,zmC h,List.append_nil]
theorem zlA {f:Ty→Pat→Pat→List Pat}{c:Int}{ts:List Ty}{xs bs front:List Pat}{i:Nat} (h1:ts.length≤i):zbc f c (ts.drop i) (xs.drop i) (bs.drop i) front=[]:=by
 rw[List.drop_eq_nil_of_le h1];rfl
theorem zoM {n:Nat} (h:n≤11):4 ^ n≤4194304:=Nat.le_trans (Nat.pow_le_pow_right (by omega) h) (by decide)
theorem zfk {w:List Data} (hs:Spa w){n m:Nat}{t:Ty}{a b:Pat} (h:n<m) (h10:n≤10) (ht:InS (w.length*4) t) (ha:zal w m t a=true) (hb:zal w n t b=true):(zas w n t a b).length≤20000000:=by
 have h1:=znd hs n m h ht ha hb
 have h2:=(zgv hs n ht hb).2
 have h3:=zoM (n:=n) (by omega)
 omega
theorem zsE {A B:List Pat}{y:Pat}{xs:List (List D)} (hx:xs=Pat.cs B) (hb:A.length+1+B.length≤1000):
  FnD Tryz.prog 133 [.d (.sl [[.sl (A.map Pat.cc)],[.sl [Pat.cc y]],[.sl xs]])] [] (.d (zad (A++[y]++B))) []:=by
 have h:=zjd (ls:=[A,[y],B]) (by simp) (by simp;omega) (by simp;omega)
 have e:[A,[y],B].flatten=A++[y]++B:=by simp
 rw[e] at h
 subst hx
 have e2:zsh [A,[y],B] = .sl [[.sl (A.map Pat.cc)],[.sl [Pat.cc y]],[.sl (Pat.cs B)]]:=by
  show D.sl [[.sl (Pat.cs A)],[.sl (Pat.cs [y])],[.sl (Pat.cs B)]]=_
  rw[Pat.cs_cd A,Pat.cs_cd [y]];rfl
 rw[e2] at h
 exact h
section
variable {w:List Data}{f:Nat→Nat}
abbrev MinusFn (w:List Data) (f:Nat→Nat) (n:Nat) (ta tk:Int) (a b:Pat):Prop:=
 FnD Tryz.prog 72 [.d (sPtr w f),.agg [.d (.i ta),.d (.i tk)],.agg [.d (.i a.op),.d (.i a.ctor),.d (.i a.n),.d (.i a.m),.d (.i a.var),.d (zad a.kids)],.agg [.d (.i b.op),.d (.i b.ctor),.d (.i b.n),.d (.i b.m),.d (.i b.var),.d (zad b.kids)]] [] (.d (zad (zas w n ⟨ta,tk⟩ a b))) []
theorem zou {n:Nat}{ta tk:Int}{a b:Pat} (h:b.op=1):MinusFn w f (n+1) ta tk a b:=by
 unfold MinusFn
 rw[zhG h]
 refine bd Tryz.f72 159 [] [] fun w0 F0 own kept hk=>?_
 refine Walk.box (id:=3005) .none rfl rfl rfl rfl rfl rfl rfl ?_
 refine Walk.box (id:=3006) .none rfl rfl rfl rfl rfl rfl rfl ?_
 refine Walk.box (id:=3007) .none rfl rfl rfl rfl rfl rfl rfl ?_
 refine ev ?_
 refine sq (fun h1 h1p h1s=>?_) fun h1 h1p h1s=>?_
 try simp only[Q] at h1p
 refine rn0 (r1 rfl) (.nild ?_)
 rotate_left
 try simp only[Q] at h1p
 exfalso;omega
 all_goals (rfl)
theorem zov {n:Nat}{ta tk:Int}{a b:Pat} (h:b.op=3) (hbn:0≤b.n∧b.n≤9) (hbm:0≤b.m∧b.m≤9):MinusFn w f (n+1) ta tk a b:=by
 unfold MinusFn
 rw[zjx h]
 have er:zbG [lowQ a,minQ (zdb a) (b.n-1),maxQ (lowQ a) (b.m+1),zdb a] 2=zeo a b:=zrP _ _ _ _
 have hrg:=zfe (l:=[lowQ a,minQ (zdb a) (b.n-1),maxQ (lowQ a) (b.m+1),zdb a]) (n:=2) rfl (by omega)
 rw[er] at hrg
 refine bd Tryz.f72 159 [] [] fun w0 F0 own kept hk=>?_
 refine Walk.box (id:=3005) .none rfl rfl rfl rfl rfl rfl rfl ?_
 refine Walk.box (id:=3006) .none rfl rfl rfl rfl rfl rfl rfl ?_
 refine Walk.box (id:=3007) .none rfl rfl rfl rfl rfl rfl rfl ?_
 refine ev ?_
 refine sq (fun h1 h1p h1s=>?_) fun h1 h1p h1s=>?_
 try simp only[Q] at h1p
 exfalso;omega
 try simp only[Q] at h1p
 refine sq (fun h2 h2p h2s=>?_) fun h2 h2p h2s=>?_
 try simp only[Q] at h2p
 refine Walk.call (cr:=[]) zs7 (zk8) rfl .none rfl rfl (LeL.refl _) trivial rfl rfl rfl ?_
 refine ev ?_
 refine ar ?_
 refine Walk.minI .none rfl rfl rfl ?_
 refine ev ?_
 refine ar ?_
 refine Walk.maxI .none rfl rfl rfl ?_
 refine ev ?_
 refine Walk.sliceLit zbS tz3 rfl (by decide) (ks:=[0,1,2,3]) (xs:=[_,_,_,_]) rfl rfl (by decide) (by decide) .none rfl rfl rfl rfl ?_
 refine Walk.call (cr:=[]) zn7 (hrg) rfl .none rfl rfl (LeL.refl _) trivial rfl rfl rfl ?_
 refine ev ?_
 focus (refine rn0 (r1 rfl) (.eqd ?_);all_goals (first|rfl|(simp[h1s,h1p,h2s,h2p];done)|(simp_all;done)|(simp_all;omega)|omega))
 try simp only[Q] at h2p
 exfalso;omega
theorem zoy {n:Nat}{ta tk:Int}{a b:Pat} (h4:a.op=4) (h4b:b.op=4) (hc:¬a.ctor=b.ctor):MinusFn w f (n+1) ta tk a b:=by
 unfold MinusFn
 have e:zas w (n+1) ⟨ta,tk⟩ a b=[a]:=by rw[zee h4b h4];exact if_neg hc
 rw[e]
 refine bd Tryz.f72 159 [] [] fun w0 F0 own kept hk=>?_
 refine Walk.box (id:=3005) .none rfl rfl rfl rfl rfl rfl rfl ?_
 refine Walk.box (id:=3006) .none rfl rfl rfl rfl rfl rfl rfl ?_
 refine Walk.box (id:=3007) .none rfl rfl rfl rfl rfl rfl rfl ?_
 refine ev ?_
 refine sq (fun h1 h1p h1s=>?_) fun h1 h1p h1s=>?_
 try simp only[Q] at h1p
 exfalso;omega
 try simp only[Q] at h1p
 refine sq (fun h2 h2p h2s=>?_) fun h2 h2p h2s=>?_
 try simp only[Q] at h2p
 exfalso;omega
 try simp only[Q] at h2p
 refine sq (fun h3 h3p h3s=>?_) fun h3 h3p h3s=>?_
 try simp only[Q] at h3p
 exfalso;omega
 try simp only[Q] at h3p
 refine sq (fun h4 h4p h4s=>?_) fun h4 h4p h4s=>?_
 try simp only[Q] at h4p
 refine Walk.sliceLit sl28 tz77 rfl (by decide) (ks:=[0]) (xs:=[_]) rfl rfl (by decide) (by decide) .none rfl rfl rfl rfl ?_
 refine ev ?_
 refine rn0 (r1 rfl) (.eqd ?_)
 rotate_left
 try simp only[Q] at h4p
 exfalso;omega
 all_goals (first|rfl|(cases a;rfl))
theorem zox (hs:Spa w){n m:Nat} (hn:n+1≤10) (hm:m+1≤11) (hnm:n<m)
  (ih:∀ {ta tk:Int}{a b:Pat},InS (w.length*4) ⟨ta,tk⟩→zal w m ⟨ta,tk⟩ a=true→zal w n ⟨ta,tk⟩ b=true→MinusFn w f n ta tk a b)
  {ta tk:Int}{a b:Pat} (ht:InS (w.length*4) ⟨ta,tk⟩) (ha:zal w (m+1) ⟨ta,tk⟩ a=true) (hb:zal w (n+1) ⟨ta,tk⟩ b=true) (h4:a.op=4) (h4b:b.op=4) (hc:a.ctor=b.ctor):MinusFn w f (n+1) ta tk a b:=by
 obtain⟨c1,c2,c3,-⟩:=zba ha h4
 obtain⟨d1,d2,d3,-⟩:=zba hb h4b
 rw[←hc] at d3
 have h3l:=hs.args ⟨ta,tk⟩ a.ctor ht c1
 have ka:=fun i (hi:i<a.kids.length)=>zbt ha hi
 have kb:=fun i (hi:i<b.kids.length)=>zbt hb hi
 rw[zbI h4] at ka
 rw[zbI h4b,←hc] at kb
 have hbd:=zfk hs (n:=n+1) (m:=m+1) (by omega) hn ht ha hb
 have e:zas w (n+1) ⟨ta,tk⟩ a b=zbc (zas w n) a.ctor (zag w ⟨ta,tk⟩ a.ctor) a.kids b.kids []:=by rw[zee h4b h4];exact if_pos hc
 have hins:=fun i (hi:i<(zag w ⟨ta,tk⟩ a.ctor).length)=>zco hs.dp ht c1 _ (zae hi)
 have hmi:∀i,i<(zag w ⟨ta,tk⟩ a.ctor).length→FnD Tryz.prog 72 [.d (sPtr w f),.agg [.d (.i (nth (zag w ⟨ta,tk⟩ a.ctor) i).data),.d (.i (nth (zag w ⟨ta,tk⟩ a.ctor) i).index)],.agg [.d (.i (nth a.kids i).op),.d (.i (nth a.kids i).ctor),.d (.i (nth a.kids i).n),.d (.i (nth a.kids i).m),.d (.i (nth a.kids i).var),.d (zad (nth a.kids i).kids)],.agg [.d (.i (nth b.kids i).op),.d (.i (nth b.kids i).ctor),.d (.i (nth b.kids i).n),.d (.i (nth b.kids i).m),.d (.i (nth b.kids i).var),.d (zad (nth b.kids i).kids)]] [] (.d (zad (zas w n (nth (zag w ⟨ta,tk⟩ a.ctor) i) (nth a.kids i) (nth b.kids i)))) []:=fun i hi=>ih (ta:=(nth (zag w ⟨ta,tk⟩ a.ctor) i).data) (tk:=(nth (zag w ⟨ta,tk⟩ a.ctor) i).index) (hins i hi) (ka i (by omega)) (kb i (by omega))
 have hme:=fun i (hi:i<(zag w ⟨ta,tk⟩ a.ctor).length)=>ziS hs 11 m (f:=f) (ta:=(nth (zag w ⟨ta,tk⟩ a.ctor) i).data) (tk:=(nth (zag w ⟨ta,tk⟩ a.ctor) i).index) (by omega) (hins i hi) (ka i (by omega)) (zjy (by omega) (kb i (by omega)))
 unfold MinusFn
 rw[e] at hbd ⊢
 have hT:∀i out front,i<(zag w ⟨ta,tk⟩ a.ctor).length→out++zbc (zas w n) a.ctor ((zag w ⟨ta,tk⟩ a.ctor).drop i) (a.kids.drop i) (b.kids.drop i) front=zbc (zas w n) a.ctor (zag w ⟨ta,tk⟩ a.ctor) a.kids b.kids []→
   out.length+(zas w n (nth (zag w ⟨ta,tk⟩ a.ctor) i) (nth a.kids i) (nth b.kids i)).length≤20000000:=fun i out front hi h=>by
  rw[zg7 hi (by omega) (by omega)] at h
  have:=congrArg List.length h
  simp only[List.length_append,List.length_map] at this
  omega
 refine bd Tryz.f72 159 [14,15] [] fun w0 F0 own kept hk=>?_
 refine Walk.box (id:=3005) .none rfl rfl rfl rfl rfl rfl rfl ?_
 refine Walk.box (id:=3006) .none rfl rfl rfl rfl rfl rfl rfl ?_
 refine Walk.box (id:=3007) .none rfl rfl rfl rfl rfl rfl rfl ?_
 refine evs [14,15] [] ?_
 refine sq (fun h1 h1p h1s=>?_) fun h1 h1p h1s=>?_
 try simp only[Q,Pat.cs_len] at h1p
 exfalso;omega
 try simp only[Q,Pat.cs_len] at h1p
 refine sq (fun h2 h2p h2s=>?_) fun h2 h2p h2s=>?_
 try simp only[Q,Pat.cs_len] at h2p
 exfalso;omega
 try simp only[Q,Pat.cs_len] at h2p
 refine sq (fun h3 h3p h3s=>?_) fun h3 h3p h3s=>?_
 try simp only[Q,Pat.cs_len] at h3p
 exfalso;omega
 try simp only[Q,Pat.cs_len] at h3p
 refine sq (fun h4 h4p h4s=>?_) fun h4 h4p h4s=>?_
 try simp only[Q,Pat.cs_len] at h4p
 exfalso;omega
 try simp only[Q,Pat.cs_len] at h4p
 refine Walk.assignNil 9 6 .none rfl rfl ?_
 refine Walk.assignNil 8 6 .none rfl rfl ?_
 refine tv ?_
 refine Walk.call (cr:=[]) zht (zcD hs.dp.wt (zcI ht) c1) rfl .none rfl rfl (LeL.refl _) trivial rfl rfl rfl ?_
 refine evd [14,15] [] ?_
 refine dr ?_
 refine CWp.loopX (ι:=Nat×List Pat×List Pat) hk (fun s=>[(94,.d (.i (s.1:Int))),(14,.gl 9 (s.2.1.map Pat.cc)),(15,.gl 8 (s.2.2.map Pat.cc))]) [16,17,19,20,21,22,95,96,97,98,99,100,101,102,103,104,105,106,107,108,109,110,111,112,113,114,115,116,117,118,119,120,121,122,123,124,125,126,127,128,129,130,131,132,133,134,135,136,137,138,139,140,141,142,143,144,145,146,147,148,149,150,151,152,153,154,155,156,157] (fun s=>[(9,some (.tok ((s.2.1.map Pat.cc)).length 6)),(8,some (.tok ((s.2.2.map Pat.cc)).length 6))]) (fun s=>s.1≤a.kids.length∧s.2.2.length=s.1∧s.2.1++zbc (zas w n) a.ctor ((zag w ⟨ta,tk⟩ a.ctor).drop s.1) (a.kids.drop s.1) (b.kids.drop s.1) s.2.2=zbc (zas w n) a.ctor (zag w ⟨ta,tk⟩ a.ctor) a.kids b.kids []) (fun s=>a.kids.length-s.1) (0,[],[]) ⟨by simp,rfl,rfl⟩ ⟨⟨_,rfl,(LeA.eqi (by first|rfl|(simp;done)|(simp_all;done)|omega))⟩,⟨⟨_,rfl,(LeA.glg (by first|rfl|(simp;done)|(simp_all;done)|omega))⟩,⟨⟨_,rfl,(LeA.glg (by first|rfl|(simp;done)|(simp_all;done)|omega))⟩,trivial⟩⟩⟩ ⟨zab (by first|rfl|(simp;done)|(simp;omega)|(first|rfl|(simp;done)|(simp_all;done)|omega)),⟨zab (by first|rfl|(simp;done)|(simp;omega)|(first|rfl|(simp;done)|(simp_all;done)|omega)),trivial⟩⟩ (fun x=>rfl) (fun s hg2=>?_)
 refine evc [14,15] [] ?_
 refine sq (fun h5 h5p h5s=>?_) fun h5 h5p h5s=>?_
 try simp only[Q,Pat.cs_len] at h5p
 refine Walk.idx zaS .none rfl rfl rfl rfl (zam (by omega)) rfl ?_
 refine evs [14,15] [] ?_
 refine Walk.alloc (id:=3017) tz33 rfl .none rfl rfl rfl rfl ?_
 refine evs [14,15] [] ?_
 refine Walk.store ty33 .none rfl rfl rfl rfl rfl rfl (by simp) rfl ?_
 refine tv ?_
 refine Walk.idx sl28 .none rfl rfl rfl rfl (zaC (by omega)) rfl ?_
 refine evd [14,15] [] ?_
 refine Walk.idx sl28 .none rfl rfl rfl rfl (zaC (by omega)) rfl ?_
 refine evd [14,15] [] ?_
 refine Walk.call (cr:=[]) zpX (hmi s.1 (by omega)) rfl .none rfl rfl (LeL.refl _) trivial rfl rfl rfl ?_
 refine evd [14,15] [] ?_
 refine dr ?_
 refine CWp.loopX (ι:=List (Pat)×List (Pat)) hk (fun x=>[(113,.d (.i (x.1.length:Int))),(14,.gl 9 ((s.2.1++x.1.map (fun z=>zb3 a.ctor (s.2.2++[z]++a.kids.drop (s.1+1)))).map Pat.cc))]) [19,20,114,115,116,117,118,119,120,121,122,123,124,125,126,127,128,129,130,131,132,133,134] (fun x=>[(9,some (.tok (((s.2.1++x.1.map (fun z=>zb3 a.ctor (s.2.2++[z]++a.kids.drop (s.1+1)))).map Pat.cc)).length 6))]) (fun x=>x.1++x.2=(zas w n (nth (zag w ⟨ta,tk⟩ a.ctor) s.1) (nth a.kids s.1) (nth b.kids s.1))) (fun x=>x.2.length) ([],(zas w n (nth (zag w ⟨ta,tk⟩ a.ctor) s.1) (nth a.kids s.1) (nth b.kids s.1))) (by simp) ⟨⟨_,rfl,(LeA.eqi (by first|rfl|(simp;done)|(simp only[List.map_append,List.append_assoc,List.map_cons,List.map_nil];done)|(simp only[List.map_append,List.append_assoc,List.map_cons,List.map_nil];rfl)|(rw[List.append_nil] at hg3;rw[hg3];done)|omega))⟩,⟨⟨_,rfl,(LeA.glg (by first|rfl|(simp;done)|(simp only[List.map_append,List.append_assoc,List.map_cons,List.map_nil];done)|(simp only[List.map_append,List.append_assoc,List.map_cons,List.map_nil];rfl)|(rw[List.append_nil] at hg3;rw[hg3];done)|omega))⟩,trivial⟩⟩ ⟨zab (by first|rfl|(simp;done)|(simp;omega)|(first|rfl|(simp;done)|(simp only[List.map_append,List.append_assoc,List.map_cons,List.map_nil];done)|(simp only[List.map_append,List.append_assoc,List.map_cons,List.map_nil];rfl)|(rw[List.append_nil] at hg3;rw[hg3];done)|omega)),trivial⟩ (fun x=>rfl) (fun x hg3=>?_)
 obtain⟨pre,rest⟩:=x
 dsimp only at hg3 ⊢
 refine evc [14,15] [] ?_
 refine sq (fun h6 h6p h6s=>?_) fun h6 h6p h6s=>?_
 try simp only[Q,Pat.cs_len] at h6p
 rcases rest with _|⟨y,rest⟩
 ·exfalso;simp_all
 refine Walk.idx sl28 .none rfl rfl rfl rfl (Pat.cs_at' hg3) rfl ?_
 refine evs [14,15] [] ?_
 refine Walk.alloc (id:=3019) tz77 rfl .none rfl rfl rfl rfl ?_
 refine Walk.store ty77 .none rfl rfl rfl rfl rfl rfl (by simp) rfl ?_
 refine tv ?_
 refine Walk.sliceLit sl28 tz77 rfl (by decide) (ks:=[0]) (xs:=[_]) rfl rfl (by decide) (by decide) .none rfl rfl rfl rfl ?_
 refine evd [14,15] [] ?_
 refine ar ?_ (by first|(constructor<;>omega)|(have h9:=hT s.1 s.2.1 s.2.2 (by omega) hg2.2.2;have h8:=congrArg List.length hg3;simp only[List.length_append,List.length_cons] at h8;constructor<;>omega))
 refine Walk.cut_l (b:=s.1+1) sl28 .none rfl rfl rfl (by intro x hx;first|(simp at hx;subst hx;rfl)|exact zbF _ x hx|exact zbd _ x hx) rfl rfl (by simp only[Pat.cs_len];omega) ?_
 refine Walk.sliceLit zdX tz28 rfl (by decide) (ks:=[0,1,2]) (xs:=[_,_,_]) rfl rfl (by decide) (by decide) .none rfl rfl rfl rfl ?_
 refine Walk.call (cr:=[]) zs9 (zsE (A:=s.2.2) (y:=y) (xs:=(Pat.cs a.kids).drop (s.1+1)) (B:=a.kids.drop (s.1+1)) (by rw[Pat.cs_cd,Pat.cs_cd,List.map_drop]) (by rw[List.length_drop];omega)) rfl .none rfl rfl (LeL.refl _) trivial rfl rfl rfl ?_
 refine evd [14,15] [] ?_
 refine dr ?_
 refine Walk.build st77 (ks:=[0,1,5]) (xs:=[_,_,_]) rfl rfl .none rfl rfl rfl ?_
 refine Walk.sliceLit sl28 tz77 rfl (by decide) (ks:=[0]) (xs:=[_]) rfl rfl (by decide) (by decide) .none rfl rfl rfl rfl ?_
 refine Walk.append sl28 zz77 rfl .none rfl rfl rfl rfl (zaz rfl (by first|rfl|(simp;done)|(simp;omega))) (by intro x hx;first|(simp at hx;subst hx;rfl)|exact zbF _ x hx|exact zbd _ x hx) (by first|(have h9:=hT s.1 s.2.1 s.2.2 (by omega) hg2.2.2;have h8:=congrArg List.length hg3;simp at h8 ⊢;omega)|(simp;omega)) (by first|(have h9:=hT s.1 s.2.1 s.2.2 (by omega) hg2.2.2;have h8:=congrArg List.length hg3;simp at h8 ⊢;omega)|(simp;omega)) ?_
 refine asg ?_
 refine tv ?_
 refine ar ?_ (by first|(constructor<;>omega)|(have h9:=hT s.1 s.2.1 s.2.2 (by omega) hg2.2.2;have h8:=congrArg List.length hg3;simp only[List.length_append,List.length_cons] at h8;constructor<;>omega))
 refine Exists.intro ((pre++[y],rest)) ⟨(by have hz:=hg3;rw[←hz];simp),(by simp),Sub.x (by kernel_rfl) (by kernel_rfl) ⟨⟨_,rfl,(LeA.eqi (by first|rfl|(simp;done)|(simp only[List.map_append,List.append_assoc,List.map_cons,List.map_nil];done)|(simp only[List.map_append,List.append_assoc,List.map_cons,List.map_nil];rfl)|(rw[List.append_nil] at hg3;rw[hg3];done)|omega))⟩,⟨⟨_,rfl,(LeA.glg (by first|rfl|(simp;done)|(simp only[List.map_append,List.append_assoc,List.map_cons,List.map_nil];done)|(simp only[List.map_append,List.append_assoc,List.map_cons,List.map_nil];rfl)|(rw[List.append_nil] at hg3;rw[hg3];done)|omega))⟩,trivial⟩⟩ (by kernel_rfl) (by kernel_rfl) ⟨zab (by first|rfl|(simp;done)|(simp;omega)|(first|rfl|(simp;done)|(simp only[List.map_append,List.append_assoc,List.map_cons,List.map_nil];done)|(simp only[List.map_append,List.append_assoc,List.map_cons,List.map_nil];rfl)|(rw[List.append_nil] at hg3;rw[hg3];done)|omega)),trivial⟩⟩
 try simp only[Q,Pat.cs_len] at h6p
 have hrest:rest=[]:=by
  rcases rest with _|⟨a,b⟩
  ·rfl
  ·exfalso;have hz:=congrArg List.length (hg3);simp only[List.length_append,List.length_cons,List.length_map] at hz;omega
 subst hrest
 refine Walk.idx sl28 .none rfl rfl rfl rfl (zaC (by omega)) rfl ?_
 refine evd [14,15] [] ?_
 refine Walk.idx sl28 .none rfl rfl rfl rfl (zaC (by omega)) rfl ?_
 refine evd [14,15] [] ?_
 refine Walk.call (cr:=[]) zqu (hme s.1 (by omega)) rfl .none rfl rfl (LeL.refl _) trivial rfl rfl rfl ?_
 refine evd [14,15] [] ?_
 refine Walk.alloc (id:=3021) tz77 rfl .none rfl rfl rfl rfl ?_
 refine Walk.store ty77 .none rfl rfl rfl rfl rfl rfl (by simp) rfl ?_
 refine evd [14,15] [] ?_
 refine dr ?_
 refine sq (fun h7 h7p h7s=>?_) fun h7 h7p h7s=>?_
 try simp only[Q,Pat.cs_len] at h7p
 refine rn0 (r1 rfl) (.gld ?_)
 rotate_left
 try simp only[Q,Pat.cs_len] at h7p
 refine Walk.sliceLit sl28 tz77 rfl (by decide) (ks:=[0]) (xs:=[_]) rfl rfl (by decide) (by decide) .none rfl rfl rfl rfl ?_
 refine Walk.append sl28 zz77 rfl .none rfl rfl rfl rfl (zaz rfl (by first|rfl|(simp;done)|(simp;omega))) (by intro x hx;first|(simp at hx;subst hx;rfl)|exact zbF _ x hx|exact zbd _ x hx) (by first|(have h9:=hT s.1 s.2.1 s.2.2 (by omega) hg2.2.2;have h8:=congrArg List.length hg3;simp at h8 ⊢;omega)|(simp;omega)) (by first|(have h9:=hT s.1 s.2.1 s.2.2 (by omega) hg2.2.2;have h8:=congrArg List.length hg3;simp at h8 ⊢;omega)|(simp;omega)) ?_
 refine asg ?_
 refine tv ?_
 refine ar ?_ (by first|(constructor<;>omega)|(have h9:=hT s.1 s.2.1 s.2.2 (by omega) hg2.2.2;have h8:=congrArg List.length hg3;simp only[List.length_append,List.length_cons] at h8;constructor<;>omega))
 refine Exists.intro ((s.1+1,s.2.1++(zas w n (nth (zag w ⟨ta,tk⟩ a.ctor) s.1) (nth a.kids s.1) (nth b.kids s.1)).map (fun z=>zb3 a.ctor (s.2.2++[z]++a.kids.drop (s.1+1))),s.2.2++[zcM 11 (nth a.kids s.1) (nth b.kids s.1)])) ⟨⟨by dsimp only;omega,by dsimp only;rw[List.length_append,hg2.2.1];rfl,by dsimp only;rw[List.append_assoc,←zj0 (by omega) (by omega) (by omega) (by assumption)];exact hg2.2.2⟩,(by dsimp only;omega),Sub.x (by kernel_rfl) (by kernel_rfl) ⟨⟨_,rfl,(LeA.eqi (by first|rfl|(simp;done)|(simp_all;done)|omega))⟩,⟨⟨_,rfl,(LeA.glg (by first|rfl|(simp;done)|(simp_all;done)|omega))⟩,⟨⟨_,rfl,(LeA.glg (by first|rfl|(simp;done)|(simp_all;done)|omega))⟩,trivial⟩⟩⟩ (by kernel_rfl) (by kernel_rfl) ⟨zab (by first|rfl|(simp;done)|(simp;omega)|(first|rfl|(simp;done)|(simp_all;done)|omega)),⟨zab (by first|rfl|(simp;done)|(simp;omega)|(first|rfl|(simp;done)|(simp_all;done)|omega)),trivial⟩⟩⟩
 try simp only[Q,Pat.cs_len] at h5p
 refine rn0 (r1 rfl) (.gld ?_)
 rotate_left
 all_goals (first|rfl|(rw[←hg2.2.2,zlA (by omega),List.append_nil,Pat.cs_cd];done)|(rw[List.append_nil] at hg3;rw[←hg2.2.2,zjZ (by omega) (by omega) (by omega) (by assumption),←hg3,Pat.cs_cd];all_goals rfl))
theorem zow (hs:Spa w){n:Nat}{ta tk:Int}{a b:Pat} (ht:InS (w.length*4) ⟨ta,tk⟩) (h1:a.op=1) (h4b:b.op=4) (hbd:(zas w (n+1) ⟨ta,tk⟩ a b).length≤20000000)
  (hC:∀c∈zat w ⟨ta,tk⟩,MinusFn w f (n+1) ta tk (zcf w ⟨ta,tk⟩ c) b):MinusFn w f (n+1) ta tk a b:=by
 have e:zas w (n+1) ⟨ta,tk⟩ a b=(zat w ⟨ta,tk⟩).flatMap fun c=>zas w (n+1) ⟨ta,tk⟩ (zcf w ⟨ta,tk⟩ c) b:=by
  rw[zhH h4b h1]
  exact congrArg (fun g=>(zat w ⟨ta,tk⟩).flatMap g) (funext fun c=>(zee h4b rfl).symm)
 unfold MinusFn
 rw[e] at hbd ⊢
 have hcl:=(hs.ctors _ ht).1
 have hpre:∀ {pre rest:List Int}{y:Int},pre++y::rest=zat w ⟨ta,tk⟩→(pre.flatMap fun c=>zas w (n+1) ⟨ta,tk⟩ (zcf w ⟨ta,tk⟩ c) b).length+(zas w (n+1) ⟨ta,tk⟩ (zcf w ⟨ta,tk⟩ y) b).length≤20000000:=fun h=>by
  rw[←h,List.flatMap_append,List.flatMap_cons] at hbd
  simp only[List.length_append] at hbd
  omega
 have hmem:∀ {pre rest:List Int}{y:Int},pre++y::rest=zat w ⟨ta,tk⟩→y∈zat w ⟨ta,tk⟩:=fun h=>by rw[←h];simp
 refine bd Tryz.f72 159 [11] [] fun w0 F0 own kept hk=>?_
 refine Walk.box (id:=3005) .none rfl rfl rfl rfl rfl rfl rfl ?_
 refine Walk.box (id:=3006) .none rfl rfl rfl rfl rfl rfl rfl ?_
 refine Walk.box (id:=3007) .none rfl rfl rfl rfl rfl rfl rfl ?_
 refine evs [11] [] ?_
 refine sq (fun h1 h1p h1s=>?_) fun h1 h1p h1s=>?_
 try simp only[Q,Pat.cs_len] at h1p
 exfalso;omega
 try simp only[Q,Pat.cs_len] at h1p
 refine sq (fun h2 h2p h2s=>?_) fun h2 h2p h2s=>?_
 try simp only[Q,Pat.cs_len] at h2p
 exfalso;omega
 try simp only[Q,Pat.cs_len] at h2p
 refine sq (fun h3 h3p h3s=>?_) fun h3 h3p h3s=>?_
 try simp only[Q,Pat.cs_len] at h3p
 refine Walk.assignNil 9 6 .none rfl rfl ?_
 refine tv ?_
 refine Walk.call (cr:=[]) zhs (zcV hs.dp.wt (zcI ht)) rfl .none rfl rfl (LeL.refl _) trivial rfl rfl rfl ?_
 refine evd [11] [] ?_
 refine dr ?_
 refine CWp.loopX (ι:=List (Int)×List (Int)) hk (fun x=>[(61,.d (.i (x.1.length:Int))),(11,.gl 9 (Pat.cs (x.1.flatMap fun c=>zas w (n+1) ⟨ta,tk⟩ (zcf w ⟨ta,tk⟩ c) b)))]) [13,62,63,64,65,66,67,68,69,70,71,72,73,74,75] (fun x=>[(9,some (.tok ((Pat.cs (x.1.flatMap fun c=>zas w (n+1) ⟨ta,tk⟩ (zcf w ⟨ta,tk⟩ c) b))).length 6))]) (fun x=>x.1++x.2=zat w ⟨ta,tk⟩) (fun x=>x.2.length) ([],zat w ⟨ta,tk⟩) (by simp) ⟨⟨_,rfl,(LeA.eqi (by first|rfl|(rw[List.flatMap_append,Pat.cs_cd,Pat.cs_cd,Pat.cs_cd,List.map_append];simp;done)|(simp[Pat.cs_len];done)|omega))⟩,⟨⟨_,rfl,(LeA.glg (by first|rfl|(rw[List.flatMap_append,Pat.cs_cd,Pat.cs_cd,Pat.cs_cd,List.map_append];simp;done)|(simp[Pat.cs_len];done)|omega))⟩,trivial⟩⟩ ⟨zab (by first|rfl|(simp;done)|(simp;omega)|(first|rfl|(rw[List.flatMap_append,Pat.cs_cd,Pat.cs_cd,Pat.cs_cd,List.map_append];simp;done)|(simp[Pat.cs_len];done)|omega)),trivial⟩ (fun x=>rfl) (fun x hg1=>?_)
 obtain⟨pre,rest⟩:=x
 dsimp only at hg1 ⊢
 refine evc [11] [] ?_
 refine sq (fun h4 h4p h4s=>?_) fun h4 h4p h4s=>?_
 try simp only[Q,Pat.cs_len] at h4p
 rcases rest with _|⟨y,rest⟩
 ·exfalso;simp_all
 refine Walk.idx zbS .none rfl rfl rfl rfl (zaG hg1) rfl ?_
 refine evs [11] [] ?_
 refine Walk.call (cr:=[]) zs8 (znE hs.dp.wt (f:=f) (zcI ht) (hmem hg1) (hs.args _ _ ht (hmem hg1))) rfl .none rfl rfl (LeL.refl _) trivial rfl rfl rfl ?_
 refine evd [11] [] ?_
 refine Walk.call (cr:=[]) zpX (hC y (hmem hg1)) rfl .none rfl rfl (LeL.refl _) trivial rfl rfl rfl ?_
 refine Walk.append sl28 zz77 rfl .none rfl rfl rfl rfl (zaz rfl (by first|rfl|(simp;done)|(simp;omega))) (by exact zbd _) (by have h9:=hpre hg1;simp only[Pat.cs_len];omega) (by have h9:=hpre hg1;simp only[Pat.cs_len];omega) ?_
 refine asg ?_
 refine dr ?_
 refine ar ?_
 refine Exists.intro ((pre++[y],rest)) ⟨(by have hz:=hg1;rw[←hz];simp),(by simp),Sub.x (by kernel_rfl) (by kernel_rfl) ⟨⟨_,rfl,(LeA.eqi (by first|rfl|(rw[List.flatMap_append,Pat.cs_cd,Pat.cs_cd,Pat.cs_cd,List.map_append];simp;done)|(simp[Pat.cs_len];done)|omega))⟩,⟨⟨_,rfl,(LeA.glg (by first|rfl|(rw[List.flatMap_append,Pat.cs_cd,Pat.cs_cd,Pat.cs_cd,List.map_append];simp;done)|(simp[Pat.cs_len];done)|omega))⟩,trivial⟩⟩ (by kernel_rfl) (by kernel_rfl) ⟨zab (by first|rfl|(simp;done)|(simp;omega)|(first|rfl|(rw[List.flatMap_append,Pat.cs_cd,Pat.cs_cd,Pat.cs_cd,List.map_append];simp;done)|(simp[Pat.cs_len];done)|omega)),trivial⟩⟩
 try simp only[Q,Pat.cs_len] at h4p
 have hrest:rest=[]:=by
  rcases rest with _|⟨a,b⟩
  ·rfl
  ·exfalso;have hz:=congrArg List.length (hg1);simp only[List.length_append,List.length_cons,List.length_map] at hz;omega
 subst hrest
 refine rn0 (r1 rfl) (.gld ?_)
 rotate_left
 try simp only[Q,Pat.cs_len] at h3p
 exfalso;omega
 all_goals (first|rfl|(rw[List.append_nil] at hg1;rw[hg1];done))
theorem zil (hs:Spa w):∀(n m:Nat){ta tk:Int}{a b:Pat},n<m→n≤10→m≤11→InS (w.length*4) ⟨ta,tk⟩→zal w m ⟨ta,tk⟩ a=true→zal w n ⟨ta,tk⟩ b=true→MinusFn w f n ta tk a b
 |0,m,ta,tk,a,b,_,_,_,_,_,hb=>by simp[zal] at hb
 |n+1,0,ta,tk,a,b,h,_,_,_,_,_=>by omega
 |n+1,m+1,ta,tk,a,b,h,hn,hm,ht,ha,hb=>by
  have hC:∀ {a:Pat},zal w (m+1) ⟨ta,tk⟩ a=true→a.op=4→b.op=4→MinusFn w f (n+1) ta tk a b:=fun {a} ha h4 h4b=>by
   by_cases hc:a.ctor=b.ctor
   ·exact zox hs hn hm (by omega) (fun h1 h2 h3=>zil hs n m (by omega) (by omega) (by omega) h1 h2 h3) ht ha hb h4 h4b hc
   ·exact zoy h4 h4b hc
  rcases zcc hb with h1|h3|h4b
  ·exact zou h1
  ·have:=zct hb h3
   exact zov h3 ⟨by omega,by omega⟩ ⟨by omega,by omega⟩
  ·by_cases h1:a.op=1
   ·obtain⟨m',rfl⟩:∃m',m=m'+1:=⟨m-1,by omega⟩
    exact zow hs ht h1 h4b (zfk hs h hn ht ha hb) (fun c hc=>hC (zdR hc) rfl h4b)
   ·exact hC ha (by have:=zdQ ha hb h1 (by omega);omega) h4b
end
theorem zd7 {α:Type}{N:Nat}{X Y:List α} (h:N≤X.length):(X++Y).take N=X.take N:=by
 rw[List.take_append,(by omega:N-X.length=0)];simp
theorem zgw {α β:Type} [Inhabited β]{X:List α}{l:List β}{h:β→α}{j m:Nat} (hj:j<l.length) (hl:((X++(l.take j).map h).take (m+1)).length≤m):
  (X++(l.take (j+1)).map h).take (m+1)=(X++(l.take j).map h).take (m+1)++[h (nth l j)]:=by
 have e1:l.take (j+1)=l.take j++[nth l j]:=by rw[List.take_succ_eq_append_getElem hj,za3 hj]
 rw[List.length_take] at hl
 have h2:(X++(l.take j).map h).length≤m:=by omega
 rw[e1,List.map_append,←List.append_assoc,List.take_of_length_le (by simp at h2 ⊢;omega),List.take_of_length_le (l:=X++(l.take j).map h) (by omega)]
 rfl
theorem zsU {α β:Type}{X:List α}{l:List β}{h:β→α}{j m:Nat} (hc:¬j<l.length∨¬((X++(l.take j).map h).take (m+1)).length≤m):
  (X++(l.take j).map h).take (m+1)=(X++l.map h).take (m+1):=by
 rcases hc with hc|hc
 ·rw[List.take_of_length_le (l:=l) (by omega)]
 ·rw[List.length_take] at hc
  have e:l.map h=(l.take j).map h++(l.drop j).map h:=by rw[←List.map_append,List.take_append_drop]
  rw[e,←List.append_assoc,zd7 (X:=X++(l.take j).map h) (by omega)]
theorem zed {α β:Type} [Inhabited β]{l:List β}{g:β→List α}{j:Nat} (hj:j<l.length):(l.take (j+1)).flatMap g=(l.take j).flatMap g++g (nth l j):=by
 rw[List.take_succ_eq_append_getElem hj,List.flatMap_append,za3 hj];simp
theorem zcp {α β:Type}{l:List β}{g:β→List α}{j m:Nat} (hc:¬j<l.length∨¬(((l.take j).flatMap g).take (m+1)).length≤m):
  ((l.take j).flatMap g).take (m+1)=(l.flatMap g).take (m+1):=by
 rcases hc with hc|hc
 ·rw[List.take_of_length_le (l:=l) (by omega)]
 ·rw[List.length_take] at hc
  have e:l.flatMap g=(l.take j).flatMap g++(l.drop j).flatMap g:=by rw[←List.flatMap_append,List.take_append_drop]
  rw[e,zd7 (X:=(l.take j).flatMap g) (by omega)]
abbrev zg1 (o:List Pat):List D:=[.sl (Pat.cs o)]
abbrev zhW (ls:List (List Pat)):D:= .sl (ls.map zg1)
theorem zqj {N:Nat} (acc:List (List Pat)) (l:List Pat):(zbp (acc.take N) l).take N=(zbp acc l).take N:=by
 by_cases h:acc.length≤N
 ·rw[List.take_of_length_le h]
 have e0:∀a:List (List Pat),zbp a []=[]:=fun a=>by unfold zbp;simp
 cases l with
 |nil=>rw[e0,e0]
 |cons c r=>
  have e:zbp acc (c::r)=zbp (acc.take N) (c::r)++zbp (acc.drop N) (c::r):=by
   unfold zbp;rw[←List.flatMap_append,List.take_append_drop]
  rw[e,zd7]
  rw[zfM,List.length_take,Nat.min_eq_left (by omega),List.length_cons]
  exact Nat.le_mul_of_pos_right _ (by omega)
theorem zqk {N:Nat} (acc:List (List Pat)) (l:List Pat):(zbp acc (l.take N)).take N=(zbp acc l).take N:=by
 by_cases h:l.length≤N
 ·rw[List.take_of_length_le h]
 cases acc with
 |nil=>rfl
 |cons q r=>
  have e:∀l:List Pat,zbp (q::r) l=l.map (fun c=>q++[c])++zbp r l:=fun l=>by unfold zbp;rw[List.flatMap_cons]
  rw[e,e,zd7 (by rw[List.length_map,List.length_take];omega),zd7 (by rw[List.length_map];omega),List.map_take,List.take_take,Nat.min_self]
def tupQ (m:Nat) (ls:List (List Pat)):List (List Pat):=ls.foldl (fun acc l=>(zbp acc l).take (m+1)) [[]]
theorem zbU (m:Nat) (ls:List (List Pat)) (l:List Pat):tupQ m (ls++[l])=(zbp (tupQ m ls) l).take (m+1):=by
 unfold tupQ;rw[List.foldl_append];rfl
theorem zo8 (m:Nat):∀(ls:List (List Pat)) (acc:List (List Pat)),(ls.map (List.take (m+1))).foldl (fun acc l=>(zbp acc l).take (m+1)) (acc.take (m+1))=(ls.foldl zbp acc).take (m+1)
 | [],acc=>rfl
 |l::r,acc=>by
  rw[List.map_cons,List.foldl_cons,List.foldl_cons,zqk,zqj]
  exact zo8 m r (zbp acc l)
theorem zsV (m:Nat) (ls:List (List Pat)):tupQ m (ls.map (List.take (m+1)))=(zev ls).take (m+1):=by
 have h:=zo8 m ls [[]]
 have e:([[]]:List (List Pat)).take (m+1)=[[]]:=by simp
 rw[e] at h
 exact h
theorem zo6 (m:Nat) (ls:List (List Pat)):(tupQ m ls).length≤m+1:=by
 have key:∀(ls acc:List (List Pat)),acc.length≤m+1→(ls.foldl (fun acc l=>(zbp acc l).take (m+1)) acc).length≤m+1:=by
  intro ls
  induction ls with
  |nil=>intro acc h;exact h
  |cons l r ih=>intro acc h;exact ih _ (by rw[List.length_take];omega)
 exact key ls [[]] (by simp)
theorem zo7 (m:Nat){ls:List (List Pat)}{o:List Pat} (h:o∈tupQ m ls):o.length=ls.length:=by
 have key:∀(ls acc:List (List Pat)) (n:Nat),(∀o∈acc,o.length=n)→∀o∈ls.foldl (fun acc l=>(zbp acc l).take (m+1)) acc,o.length=n+ls.length:=by
  intro ls
  induction ls with
  |nil=>intro acc n h o ho;exact h o ho
  |cons l r ih=>
   intro acc n h o ho
   have:=ih _ (n+1) (fun o' ho'=>by
    have ho':=List.mem_of_mem_take ho'
    unfold zbp at ho'
    simp only[List.mem_flatMap,List.mem_map] at ho'
    obtain⟨p,hp,q,_,rfl⟩:=ho'
    simp[h p hp]) o ho
   simp only[List.length_cons];omega
 have:=key ls [[]] 0 (by simp) o h
 simpa using this
def zjB (l:List Pat) (o:List Pat):List (List Pat):=l.map fun y=>o++[y]
theorem zcu (acc:List (List Pat)) (l:List Pat):zbp acc l=acc.flatMap (zjB l):=rfl
theorem zdI {X:List (List Pat)}{l:List Pat}{o:List Pat}{j m:Nat} (hc:¬j<l.length∨¬((X++(l.take j).map fun y=>o++[y]).take (m+1)).length≤m):
  (X++(l.take j).map fun y=>o++[y]).take (m+1)=(X++zjB l o).take (m+1):=zsU hc
theorem zrZ {α:Type}{N:Nat} (a b:List α):(a.take N++b.take N).take N=(a++b).take N:=by
 by_cases h:a.length≤N
 ·rw[List.take_of_length_le h,List.take_append,List.take_append,List.take_take,Nat.min_eq_left (by omega)]
 ·rw[zd7 (by rw[List.length_take];omega),zd7 (by omega),List.take_take,Nat.min_self]
def za6 (p:Pat):List Pat:=(zax p).take 401
theorem zrV {p:Pat} (h:p.op=5) (hk:p.kids.length=2):za6 p=(za6 (nth p.kids 0)++za6 (nth p.kids 1)).take 401:=by
 unfold za6;rw[zgT h hk,zrZ]
theorem zrW {p:Pat} (h:p.op≠5):za6 p=(tupQ 400 (p.kids.map za6)).map fun l=> .mk p.op p.ctor p.n p.m p.var l:=by
 unfold za6
 rw[zeD h,←List.map_take]
 congr 1
 have:=zsV 400 (p.kids.map zax)
 rw[List.map_map] at this
 exact this.symm
theorem zgl (p:Pat):(za6 p).length≤401:=by unfold za6;rw[List.length_take];omega
theorem zc2:∀(n:Nat){p:Pat},p.size≤n→p.ok→FnD Tryz.prog 166 [.agg [.d (.i p.op),.d (.i p.ctor),.d (.i p.n),.d (.i p.m),.d (.i p.var),.d (zad p.kids)]] [] (.agg [.d (.i (zaM p).op),.d (.i (zaM p).ctor),.d (.i (zaM p).n),.d (.i (zaM p).m),.d (.i (zaM p).var),.d (zad (zaM p).kids)]) []
 |0,p,h,_=>by rw[Pat.size_eq] at h;omega
 |n+1,p,h,hok=>by
  rw[Pat.size_eq] at h
  rw[Pat.ok_iff] at hok
  have hok1:=hok.1
  by_cases h2:p.op=2
  ·rw[zpt h2]
   refine bd Tryz.f166 42 [] [] fun w0 F0 own kept hk=>?_
   refine Walk.box (id:=3001) .none rfl rfl rfl rfl rfl rfl rfl ?_
   refine Walk.alloc (id:=3002) tz77 rfl .none rfl rfl rfl rfl ?_
   refine tv ?_
   refine sq (fun h1 h1p h1s=>?_) fun h1 h1p h1s=>?_
   try simp only[Q] at h1p
   refine Walk.build st77 (ks:=[0]) (xs:=[_]) rfl rfl .none rfl rfl rfl ?_
   refine Walk.store ty77 .none rfl rfl rfl rfl rfl rfl (by simp) rfl ?_
   refine tv ?_
   refine rn0 (.cons (.cellA ty77 rfl rfl rfl) .nil) (.agg (.cons (.eqd ?_) (.cons (.eqd ?_) (.cons (.eqd ?_) (.cons (.eqd ?_) (.cons (.eqd ?_) (.cons (.nild ?_) .nil)))))))
   rotate_left 6
   try simp only[Q] at h1p
   exfalso;omega
   all_goals (rfl)
  by_cases h6:p.op=6∧0<p.kids.length
  ·rw[zpu h6.1 h6.2]
   refine bd Tryz.f166 42 [] [] fun w0 F0 own kept hk=>?_
   refine Walk.box (id:=3001) .none rfl rfl rfl rfl rfl rfl rfl ?_
   refine Walk.alloc (id:=3002) tz77 rfl .none rfl rfl rfl rfl ?_
   refine tv ?_
   refine sq (fun h1 h1p h1s=>?_) fun h1 h1p h1s=>?_
   try simp only[Q,Pat.cs_len] at h1p
   exfalso;omega
   try simp only[Q,Pat.cs_len] at h1p
   refine sq (fun h2 h2p h2s=>?_) fun h2 h2p h2s=>?_
   try simp only[Q,Pat.cs_len] at h2p
   refine sq (fun h3 h3p h3s=>?_) fun h3 h3p h3s=>?_
   try simp only[Q,Pat.cs_len] at h3p
   refine Walk.idx (i:=0) sl28 .none rfl rfl rfl rfl (zaC h6.2) rfl ?_
   refine ev ?_
   refine Walk.call (cr:=[]) zkO (zc2 n (p:=nth p.kids 0) (by have:=Pats.size_mem (zae h6.2);omega) (Pats.ok_mem hok.2 _ (zae h6.2))) rfl .none rfl rfl (LeL.refl _) trivial rfl rfl rfl ?_
   refine Walk.store ty77 .none rfl rfl rfl rfl rfl rfl (by simp) rfl ?_
   refine tv ?_
   refine rn0 (.cons (.cellA ty77 rfl rfl rfl) .nil) (.agg (.cons (.eqd ?_) (.cons (.eqd ?_) (.cons (.eqd ?_) (.cons (.eqd ?_) (.cons (.eqd ?_) (.cons (.eqd ?_) .nil)))))))
   rotate_left 6
   try simp only[Q,Pat.cs_len] at h3p
   exfalso;omega
   try simp only[Q,Pat.cs_len] at h2p
   exfalso;omega
   all_goals (rfl)
  ·rw[zpv h2 h6]
   refine bd Tryz.f166 42 [] [] fun w0 F0 own kept hk=>?_
   refine Walk.box (id:=3001) .none rfl rfl rfl rfl rfl rfl rfl ?_
   refine Walk.alloc (id:=3002) tz77 rfl .none rfl rfl rfl rfl ?_
   refine tv ?_
   refine sq (fun h1 h1p h1s=>?_) fun h1 h1p h1s=>?_
   try simp only[Q,Pat.cs_len] at h1p
   exfalso;omega
   try simp only[Q,Pat.cs_len] at h1p
   refine sq (fun h2 h2p h2s=>?_) fun h2 h2p h2s=>?_
   try simp only[Q,Pat.cs_len] at h2p
   refine sq (fun h3 h3p h3s=>?_) fun h3 h3p h3s=>?_
   try simp only[Q,Pat.cs_len] at h3p
   exfalso;apply h6;exact⟨by omega,by omega⟩
   try simp only[Q,Pat.cs_len] at h3p
   refine Walk.alloc (id:=3003) tz77 rfl .none rfl rfl rfl rfl ?_
   refine Walk.store ty77 .none rfl rfl rfl rfl rfl rfl (by simp) rfl ?_
   refine tv ?_
   refine Walk.store ty28 .none rfl rfl rfl rfl rfl rfl (by simp) rfl ?_
   refine tv ?_
   refine CWp.tokB 3003 5 7 6 rfl rfl rfl rfl ?_
   refine CWp.loopX (ι:=List (Pat)×List (Pat)) hk (fun x=>[(4,.d (.i (x.1.length:Int)))]) [23,24,25,26,27,28,29,30,31,32,33,34,35,36,37,38,39,40] (fun x=>[(3003,some (.box [.d (.i p.op),.d (.i p.ctor),.d (.i p.n),.d (.i p.m),.d (.i p.var),.gl 7 ((x.1.map zaM).map Pat.cc)])),(7,some (.tok ((x.1.map zaM).map Pat.cc).length 6))]) (fun x=>x.1++x.2=p.kids) (fun x=>x.2.length) ([],p.kids) (by simp) ⟨⟨_,rfl,(LeA.eqi (by first|rfl|(simp;done)|(simp_all;done)|omega))⟩,trivial⟩ ⟨(by first|rfl|(simp[getH];done)),⟨zab (by first|rfl|(simp;done)|(simp;omega)|(first|rfl|(simp;done)|(simp_all;done)|omega)),trivial⟩⟩ (fun x=>rfl) (fun x hg1=>?_)
   obtain⟨pre,rest⟩:=x
   dsimp only at hg1 ⊢
   refine evc [] [] ?_
   refine sq (fun h4 h4p h4s=>?_) fun h4 h4p h4s=>?_
   try simp only[Q,Pat.cs_len] at h4p
   rcases rest with _|⟨y,rest⟩
   ·exfalso;simp_all
   refine Walk.idx sl28 .none rfl rfl rfl rfl (Pat.cs_at' hg1) rfl ?_
   refine evd [] [] ?_
   refine Walk.call (cr:=[]) zkO (zc2 n (p:=y) (by have:=Pats.size_mem (l:=p.kids) (v:=y) (by rw[←hg1];simp);omega) (Pats.ok_mem hok.2 y (by rw[←hg1];simp))) rfl .none rfl rfl (LeL.refl _) trivial rfl rfl rfl ?_
   refine Walk.sliceLit sl28 tz77 rfl (by decide) (ks:=[0]) (xs:=[_]) rfl rfl (by decide) (by decide) .none rfl rfl rfl rfl ?_
   refine Walk.append sl28 zz77 rfl .none rfl rfl rfl rfl (zaz rfl (by first|rfl|(simp;done)|(simp;omega))) (by intro x hx;first|(simp at hx;subst hx;rfl)|exact zbF _ x hx) (by have:=congrArg List.length hg1;simp at this;simp;omega) (by have:=congrArg List.length hg1;simp at this;simp;omega) ?_
   refine evd [] [] ?_
   refine Walk.store ty28 .none rfl rfl rfl rfl rfl rfl (by simp) rfl ?_
   refine dr ?_
   refine ar ?_
   refine Exists.intro ((pre++[y],rest)) ⟨(by have hz:=hg1;rw[←hz];simp),(by simp),Sub.x (by kernel_rfl) (by kernel_rfl) ⟨⟨_,rfl,(LeA.eqi (by first|rfl|(simp;done)|(simp_all;done)|omega))⟩,trivial⟩ (by kernel_rfl) (by kernel_rfl) ⟨(by first|rfl|(simp[getH];done)),⟨zab (by first|rfl|(simp;done)|(simp;omega)|(first|rfl|(simp;done)|(simp_all;done)|omega)),trivial⟩⟩⟩
   try simp only[Q,Pat.cs_len] at h4p
   have hrest:rest=[]:=by
    rcases rest with _|⟨a,b⟩
    ·rfl
    ·exfalso;have hz:=congrArg List.length (hg1);simp only[List.length_append,List.length_cons,List.length_map] at hz;omega
   subst hrest
   refine Walk.store ty77 .none rfl rfl rfl rfl rfl rfl (by simp) rfl ?_
   refine tv ?_
   refine rn0 (.cons (.cellA ty77 rfl rfl rfl) .nil) (.agg (.cons (.eqd ?_) (.cons (.eqd ?_) (.cons (.eqd ?_) (.cons (.eqd ?_) (.cons (.eqd ?_) (.cons (.gld ?_) .nil)))))))
   rotate_left 6
   try simp only[Q,Pat.cs_len] at h2p
   refine Walk.alloc (id:=3003) tz77 rfl .none rfl rfl rfl rfl ?_
   refine Walk.store ty77 .none rfl rfl rfl rfl rfl rfl (by simp) rfl ?_
   refine tv ?_
   refine Walk.store ty28 .none rfl rfl rfl rfl rfl rfl (by simp) rfl ?_
   refine tv ?_
   refine CWp.tokB 3003 5 7 6 rfl rfl rfl rfl ?_
   refine CWp.loopX (ι:=List (Pat)×List (Pat)) hk (fun x=>[(4,.d (.i (x.1.length:Int)))]) [23,24,25,26,27,28,29,30,31,32,33,34,35,36,37,38,39,40] (fun x=>[(3003,some (.box [.d (.i p.op),.d (.i p.ctor),.d (.i p.n),.d (.i p.m),.d (.i p.var),.gl 7 ((x.1.map zaM).map Pat.cc)])),(7,some (.tok ((x.1.map zaM).map Pat.cc).length 6))]) (fun x=>x.1++x.2=p.kids) (fun x=>x.2.length) ([],p.kids) (by simp) ⟨⟨_,rfl,(LeA.eqi (by first|rfl|(simp;done)|(simp_all;done)|omega))⟩,trivial⟩ ⟨(by first|rfl|(simp[getH];done)),⟨zab (by first|rfl|(simp;done)|(simp;omega)|(first|rfl|(simp;done)|(simp_all;done)|omega)),trivial⟩⟩ (fun x=>rfl) (fun x hg1=>?_)
   obtain⟨pre,rest⟩:=x
   dsimp only at hg1 ⊢
   refine evc [] [] ?_
   refine sq (fun h5 h5p h5s=>?_) fun h5 h5p h5s=>?_
   try simp only[Q,Pat.cs_len] at h5p
   rcases rest with _|⟨y,rest⟩
   ·exfalso;simp_all
   refine Walk.idx sl28 .none rfl rfl rfl rfl (Pat.cs_at' hg1) rfl ?_
   refine evd [] [] ?_
   refine Walk.call (cr:=[]) zkO (zc2 n (p:=y) (by have:=Pats.size_mem (l:=p.kids) (v:=y) (by rw[←hg1];simp);omega) (Pats.ok_mem hok.2 y (by rw[←hg1];simp))) rfl .none rfl rfl (LeL.refl _) trivial rfl rfl rfl ?_
   refine Walk.sliceLit sl28 tz77 rfl (by decide) (ks:=[0]) (xs:=[_]) rfl rfl (by decide) (by decide) .none rfl rfl rfl rfl ?_
   refine Walk.append sl28 zz77 rfl .none rfl rfl rfl rfl (zaz rfl (by first|rfl|(simp;done)|(simp;omega))) (by intro x hx;first|(simp at hx;subst hx;rfl)|exact zbF _ x hx) (by have:=congrArg List.length hg1;simp at this;simp;omega) (by have:=congrArg List.length hg1;simp at this;simp;omega) ?_
   refine evd [] [] ?_
   refine Walk.store ty28 .none rfl rfl rfl rfl rfl rfl (by simp) rfl ?_
   refine dr ?_
   refine ar ?_
   refine Exists.intro ((pre++[y],rest)) ⟨(by have hz:=hg1;rw[←hz];simp),(by simp),Sub.x (by kernel_rfl) (by kernel_rfl) ⟨⟨_,rfl,(LeA.eqi (by first|rfl|(simp;done)|(simp_all;done)|omega))⟩,trivial⟩ (by kernel_rfl) (by kernel_rfl) ⟨(by first|rfl|(simp[getH];done)),⟨zab (by first|rfl|(simp;done)|(simp;omega)|(first|rfl|(simp;done)|(simp_all;done)|omega)),trivial⟩⟩⟩
   try simp only[Q,Pat.cs_len] at h5p
   have hrest:rest=[]:=by
    rcases rest with _|⟨a,b⟩
    ·rfl
    ·exfalso;have hz:=congrArg List.length (hg1);simp only[List.length_append,List.length_cons,List.length_map] at hz;omega
   subst hrest
   refine Walk.store ty77 .none rfl rfl rfl rfl rfl rfl (by simp) rfl ?_
   refine tv ?_
   refine rn0 (.cons (.cellA ty77 rfl rfl rfl) .nil) (.agg (.cons (.eqd ?_) (.cons (.eqd ?_) (.cons (.eqd ?_) (.cons (.eqd ?_) (.cons (.eqd ?_) (.cons (.gld ?_) .nil)))))))
   rotate_left 6
   all_goals (first|rfl|(rw[List.append_nil] at hg1;rw[←hg1,Pat.cs_cd];done)|(rw[List.append_nil] at hg1;subst hg1;rw[←Pat.cs_cd];all_goals rfl))
theorem zkz {ls:List (List Pat)} (hl:ls.length≤1000000000000) (hls:∀l∈ls,l.length≤1000000000000):FnD Tryz.prog 200 [.d (zhW ls)] [] (.d (zhW (tupQ 400 ls))) []:=by
 refine bd Tryz.f200 62 [] [] fun w0 F0 own kept hk=>?_
 refine Walk.sliceEmpty sl28 .none rfl ?_
 refine Walk.sliceLit zdX tz28 rfl (by decide) (ks:=[0]) (xs:=[_]) rfl rfl (by decide) (by decide) .none rfl rfl rfl rfl ?_
 refine ev ?_
 refine CWp.loopX (ι:=List (List Pat)×List (List Pat)) hk (fun x=>[(4,.d (.i (x.1.length:Int))),(3,.d (.sl ((tupQ 400 x.1).map zg1)))]) [5,6,7,10,11,12,13,14,15,16,17,18,19,20,21,22,23,24,25,26,27,28,29,30,31,32,33,34,35,36,37,38,39,40,41,42,43,44,45,46,47,48,49,50,51,52,53,54,55,56,57,58,59,60] (fun x=>[]) (fun x=>x.1++x.2=ls) (fun x=>x.2.length) ([],ls) (by simp) ⟨⟨_,rfl,(LeA.eqi (by first|rfl|(simp;done)|(rw[zbU,zcu,zcp (by omega)])))⟩,⟨⟨_,rfl,(by first|exact LeA.refl _|exact LeA.gld (by first|rfl|(simp;done)|(rw[zbU,zcu,zcp (by omega)]))|exact LeA.nild (by first|rfl|(simp;done)|(rw[zbU,zcu,zcp (by omega)]))|exact LeA.eqsl (by first|rfl|(simp;done)|(rw[zbU,zcu,zcp (by omega)]))|exact LeA.eqd (by first|rfl|(simp;done)|(rw[zbU,zcu,zcp (by omega)])))⟩,trivial⟩⟩ trivial (fun x=>rfl) (fun x hg1=>?_)
 obtain⟨pre,rest⟩:=x
 dsimp only at hg1 ⊢
 refine evc [] [] ?_
 refine sq (fun h1 h1p h1s=>?_) fun h1 h1p h1s=>?_
 try simp only[Q,Pat.cs_len,Int.ofNat_lt,Int.ofNat_le] at h1p
 rcases rest with _|⟨l,rest⟩
 ·exfalso;simp_all
 have hll:=hls l (by rw[←hg1];simp);have htl:=zo6 400 pre
 refine Walk.sliceEmptyG 3 zdX .none rfl rfl ?_
 refine ev ?_
 refine CWp.loopX (ι:=Nat) hk (fun k=>[(6,.d (.i (k:Int))),(5,.gl 3 (((((tupQ 400 pre).take k).flatMap (zjB l)).take (400+1)).map zg1))]) [7,17,18,19,20,21,22,23,24,25,26,27,28,29,30,31,32,33,34,35,36,37,38,39,40,41,42,43,44,45,46,47,48,49,50,51,52,53,54,55,56,57,58,59] (fun k=>[(3,some (.tok ((((((tupQ 400 pre).take k).flatMap (zjB l)).take (400+1)).map zg1)).length 1))]) (fun k=>k≤(tupQ 400 pre).length) (fun k=>(tupQ 400 pre).length-k) 0 (by simp) ⟨⟨_,rfl,(LeA.eqi (by first|rfl|(simp;done)|(rw[zed (by omega),zdI (by omega)])))⟩,⟨⟨_,rfl,(LeA.glg (by first|rfl|(simp;done)|(rw[zed (by omega),zdI (by omega)])))⟩,trivial⟩⟩ ⟨zab (by first|rfl|(simp;done)|(simp;omega)|(first|rfl|(simp;done)|(rw[zed (by omega),zdI (by omega)]))),trivial⟩ (fun x=>rfl) (fun k hg2=>?_)
 refine evc [] [] ?_
 refine sq (fun h2 h2p h2s=>?_) fun h2 h2p h2s=>?_
 try simp only[Q,Pat.cs_len,Int.ofNat_lt,Int.ofNat_le] at h2p
 refine sq (fun h3 h3p h3s=>?_) fun h3 h3p h3s=>?_
 try simp only[Q,Pat.cs_len,Int.ofNat_lt,Int.ofNat_le] at h3p
 refine CWp.loopX (ι:=Nat) hk (fun j=>[(7,.d (.i (j:Int))),(5,.gl 3 (((((tupQ 400 pre).take k).flatMap (zjB l)++(l.take j).map (fun y=>nth (tupQ 400 pre) k++[y])).take (400+1)).map zg1))]) [28,29,30,31,32,33,34,35,36,37,38,39,40,41,42,43,44,45,46,47,48,49,50,51,52,53,54,55,56,57,58,59] (fun j=>[(3,some (.tok ((((((tupQ 400 pre).take k).flatMap (zjB l)++(l.take j).map (fun y=>nth (tupQ 400 pre) k++[y])).take (400+1)).map zg1)).length 1))]) (fun j=>j≤l.length) (fun j=>l.length-j) 0 (by simp) ⟨⟨_,rfl,(LeA.eqi (by first|rfl|(simp;done)|(rw[zgw (by omega) (by omega),List.map_append];simp[Pat.cs_cd];done)))⟩,⟨⟨_,rfl,(LeA.glg (by first|rfl|(simp;done)|(rw[zgw (by omega) (by omega),List.map_append];simp[Pat.cs_cd];done)))⟩,trivial⟩⟩ ⟨zab (by first|rfl|(simp;done)|(simp;omega)|(first|rfl|(simp;done)|(rw[zgw (by omega) (by omega),List.map_append];simp[Pat.cs_cd];done))),trivial⟩ (fun x=>rfl) (fun j hg3=>?_)
 have hol:=zo7 400 (zae (l:=tupQ 400 pre) (i:=k) (by omega))
 refine evc [] [] ?_
 refine Walk.idx zdX .none rfl rfl rfl rfl (by first|exact zaG hg1|exact zam (by omega)) rfl ?_
 refine ev ?_
 refine sq (fun h4 h4p h4s=>?_) fun h4 h4p h4s=>?_
 try simp only[Q,Pat.cs_len,Int.ofNat_lt,Int.ofNat_le] at h4p
 refine sq (fun h5 h5p h5s=>?_) fun h5 h5p h5s=>?_
 try simp only[Q,Pat.cs_len,Int.ofNat_lt,Int.ofNat_le] at h5p
 refine Walk.sliceEmptyG 5 sl28 .none rfl rfl ?_
 refine evd [] [] ?_
 refine Walk.idx zdX .none rfl rfl rfl rfl (by first|exact zaG hg1|exact zam (by omega)) rfl ?_
 refine evd [] [] ?_
 refine Walk.append sl28 zz77 rfl .none rfl rfl rfl rfl (zaz rfl (by first|rfl|(simp;done)|(simp;omega))) (by intro z hz;first|(rw[Pat.cs_cd] at hz;obtain⟨_,_,rfl⟩:=List.mem_map.1 hz;rfl)|(simp at hz;rw[hz];rfl)) (by first|(simp only[List.length_map,List.length_append,List.length_cons,List.length_nil,Pat.cs_len] at *;omega)) (by first|(simp only[List.length_map,List.length_append,List.length_cons,List.length_nil,Pat.cs_len] at *;omega)) ?_
 refine evd [] [] ?_
 refine Walk.idx zdX .none rfl rfl rfl rfl (by first|exact zaG hg1|exact zam (by omega)) rfl ?_
 refine evd [] [] ?_
 refine Walk.idx sl28 .none rfl rfl rfl rfl (zaC (by omega)) rfl ?_
 refine evd [] [] ?_
 refine Walk.sliceLit sl28 tz77 rfl (by decide) (ks:=[0]) (xs:=[_]) rfl rfl (by decide) (by decide) .none rfl rfl rfl rfl ?_
 refine Walk.append sl28 zz77 rfl .none rfl rfl rfl rfl (zaz rfl (by first|rfl|(simp;done)|(simp;omega))) (by intro z hz;first|(rw[Pat.cs_cd] at hz;obtain⟨_,_,rfl⟩:=List.mem_map.1 hz;rfl)|(simp at hz;rw[hz];rfl)) (by first|(simp only[List.length_map,List.length_append,List.length_cons,List.length_nil,Pat.cs_len] at *;omega)) (by first|(simp only[List.length_map,List.length_append,List.length_cons,List.length_nil,Pat.cs_len] at *;omega)) ?_
 refine Walk.sliceLit zdX tz28 rfl (by decide) (ks:=[0]) (xs:=[_]) rfl rfl (by decide) (by decide) .none rfl rfl rfl rfl ?_
 refine Walk.append zdX zz28 rfl .none rfl rfl rfl rfl (zaz rfl (by first|rfl|(simp;done)|(simp;omega))) (by intro z hz;first|(rw[Pat.cs_cd] at hz;obtain⟨_,_,rfl⟩:=List.mem_map.1 hz;rfl)|(simp at hz;rw[hz];rfl)) (by first|(simp only[List.length_map,List.length_append,List.length_cons,List.length_nil,Pat.cs_len] at *;omega)) (by first|(simp only[List.length_map,List.length_append,List.length_cons,List.length_nil,Pat.cs_len] at *;omega)) ?_
 refine evd [] [] ?_
 refine dr ?_
 refine ar ?_
 focus (refine Exists.intro (j+1) ⟨?_, ?_,Sub.x (by kernel_rfl) (by kernel_rfl) ⟨⟨_,rfl,(LeA.eqi (by first|rfl|(simp;done)|(rw[zgw (by omega) (by omega),List.map_append];simp[Pat.cs_cd];done)))⟩,⟨⟨_,rfl,(LeA.glg (by first|rfl|(simp;done)|(rw[zgw (by omega) (by omega),List.map_append];simp[Pat.cs_cd];done)))⟩,trivial⟩⟩ (by kernel_rfl) (by kernel_rfl) ⟨zab (by first|rfl|(simp;done)|(simp;omega)|(first|rfl|(simp;done)|(rw[zgw (by omega) (by omega),List.map_append];simp[Pat.cs_cd];done))),trivial⟩⟩;all_goals first|omega|(simp_all;done)|(simp_all;omega))
 try simp only[Q,Pat.cs_len,Int.ofNat_lt,Int.ofNat_le] at h5p
 refine ar ?_
 focus (refine Exists.intro (k+1) ⟨?_, ?_,Sub.x (by kernel_rfl) (by kernel_rfl) ⟨⟨_,rfl,(LeA.eqi (by first|rfl|(simp;done)|(rw[zed (by omega),zdI (by omega)])))⟩,⟨⟨_,rfl,(LeA.glg (by first|rfl|(simp;done)|(rw[zed (by omega),zdI (by omega)])))⟩,trivial⟩⟩ (by kernel_rfl) (by kernel_rfl) ⟨zab (by first|rfl|(simp;done)|(simp;omega)|(first|rfl|(simp;done)|(rw[zed (by omega),zdI (by omega)]))),trivial⟩⟩;all_goals first|omega|(simp_all;done)|(simp_all;omega))
 try simp only[Q,Pat.cs_len,Int.ofNat_lt,Int.ofNat_le] at h4p
 refine sqF ?_
 refine ar ?_
 focus (refine Exists.intro (k+1) ⟨?_, ?_,Sub.x (by kernel_rfl) (by kernel_rfl) ⟨⟨_,rfl,(LeA.eqi (by first|rfl|(simp;done)|(rw[zed (by omega),zdI (by omega)])))⟩,⟨⟨_,rfl,(LeA.glg (by first|rfl|(simp;done)|(rw[zed (by omega),zdI (by omega)])))⟩,trivial⟩⟩ (by kernel_rfl) (by kernel_rfl) ⟨zab (by first|rfl|(simp;done)|(simp;omega)|(first|rfl|(simp;done)|(rw[zed (by omega),zdI (by omega)]))),trivial⟩⟩;all_goals first|omega|(simp_all;done)|(simp_all;omega))
 try simp only[Q,Pat.cs_len,Int.ofNat_lt,Int.ofNat_le] at h3p
 refine ar ?_
 refine Exists.intro ((pre++[l],rest)) ⟨(by have hz:=hg1;rw[←hz];simp),(by simp),Sub.x (by kernel_rfl) (by kernel_rfl) ⟨⟨_,rfl,(LeA.eqi (by first|rfl|(simp;done)|(rw[zbU,zcu,zcp (by omega)])))⟩,⟨⟨_,rfl,(by first|exact LeA.refl _|exact LeA.gld (by first|rfl|(simp;done)|(rw[zbU,zcu,zcp (by omega)]))|exact LeA.nild (by first|rfl|(simp;done)|(rw[zbU,zcu,zcp (by omega)]))|exact LeA.eqsl (by first|rfl|(simp;done)|(rw[zbU,zcu,zcp (by omega)]))|exact LeA.eqd (by first|rfl|(simp;done)|(rw[zbU,zcu,zcp (by omega)])))⟩,trivial⟩⟩ (by kernel_rfl) (by kernel_rfl) trivial⟩
 try simp only[Q,Pat.cs_len,Int.ofNat_lt,Int.ofNat_le] at h2p
 refine sqF ?_
 refine ar ?_
 refine Exists.intro ((pre++[l],rest)) ⟨(by have hz:=hg1;rw[←hz];simp),(by simp),Sub.x (by kernel_rfl) (by kernel_rfl) ⟨⟨_,rfl,(LeA.eqi (by first|rfl|(simp;done)|(rw[zbU,zcu,zcp (by omega)])))⟩,⟨⟨_,rfl,(by first|exact LeA.refl _|exact LeA.gld (by first|rfl|(simp;done)|(rw[zbU,zcu,zcp (by omega)]))|exact LeA.nild (by first|rfl|(simp;done)|(rw[zbU,zcu,zcp (by omega)]))|exact LeA.eqsl (by first|rfl|(simp;done)|(rw[zbU,zcu,zcp (by omega)]))|exact LeA.eqd (by first|rfl|(simp;done)|(rw[zbU,zcu,zcp (by omega)])))⟩,trivial⟩⟩ (by kernel_rfl) (by kernel_rfl) trivial⟩
 try simp only[Q,Pat.cs_len,Int.ofNat_lt,Int.ofNat_le] at h1p
 have hrest:rest=[]:=by
  rcases rest with _|⟨a,b⟩
  ·rfl
  ·exfalso;have hz:=congrArg List.length (hg1);simp only[List.length_append,List.length_cons,List.length_map] at hz;omega
 subst hrest
 refine rn0 (r1 rfl) (.eqd ?_)
 rotate_left
 all_goals ((rw[List.append_nil] at hg1);subst hg1;rfl)
theorem zdZ:∀(n:Nat){p:Pat},binP n p=true→p.ok→FnD Tryz.prog 165 [.agg [.d (.i p.op),.d (.i p.ctor),.d (.i p.n),.d (.i p.m),.d (.i p.var),.d (zad p.kids)]] [] (.gv 9 (Pat.cs (za6 p))) [(9,some (.tok (Pat.cs (za6 p)).length 6))]
 |0,p,h,_=>by simp[binP] at h
 |n+1,p,h,hok=>by
  have hok':=(Pat.ok_iff p).1 hok
  have hok1:=hok'.1
  by_cases h5:p.op=5
  ·have hl:=zjq h h5
   have e5:=zrV h5 hl
   have l0:=zgl (nth p.kids 0)
   have l1:=zgl (nth p.kids 1)
   have c0:=zdZ n (zea h (i:=0) (by omega)) (Pats.ok_mem hok'.2 _ (zae (by omega)))
   have c1:=FnD.gvD (zdZ n (zea h (i:=1) (by omega)) (Pats.ok_mem hok'.2 _ (zae (by omega))))
   rw[e5]
   generalize za6 (nth p.kids 0)=A at *
   generalize za6 (nth p.kids 1)=C at *
   by_cases hlen:(A++C).length≤401
   ·rw[List.take_of_length_le hlen]
    rw[List.length_append] at hlen
    refine bd Tryz.f165 67 [25] [] fun w0 F0 own kept hk=>?_
    refine Walk.box (id:=3001) .none rfl rfl rfl rfl rfl rfl rfl ?_
    refine evs [25] [] ?_
    refine sq (fun h1 h1p h1s=>?_) fun h1 h1p h1s=>?_
    try simp only[Q,Pat.cs_len,List.length_append] at h1p
    refine Walk.idx (i:=0) sl28 .none rfl rfl rfl rfl (zaC (by omega)) rfl ?_
    refine evd [25] [] ?_
    refine Walk.call (cr:=[9]) zhu (c0) rfl .none rfl rfl (LeL.refl _) trivial rfl rfl rfl ?_
    refine evd [25] [] ?_
    refine Walk.idx (i:=1) sl28 .none rfl rfl rfl rfl (zaC (by omega)) rfl ?_
    refine evd [25] [] ?_
    refine Walk.call (cr:=[]) zhu (c1) rfl .none rfl rfl (LeL.refl _) trivial rfl rfl rfl ?_
    refine Walk.appendV sl28 zz77 .none rfl rfl rfl rfl (zaz rfl (by first|rfl|(simp;done)|(simp;omega))) (by intro x hx;exact zbd _ x hx) (by simp[Pat.cs_len];omega) (by simp[Pat.cs_len];omega) ?_
    refine evd [25] [] ?_
    refine dr ?_
    refine Walk.lenV sl28 .none rfl rfl ?_
    refine evs [25] [] ?_
    refine sq (fun h2 h2p h2s=>?_) fun h2 h2p h2s=>?_
    try simp only[Q,Pat.cs_len,List.length_append] at h2p
    exfalso;omega
    try simp only[Q,Pat.cs_len,List.length_append] at h2p
    refine rn [(9,some (.tok (Pat.cs (A++C)).length 6))] (r1 rfl) (.gvg ?_) ⟨rfl,rfl⟩ (SubH.get ⟨?_,trivial⟩) (zbv rfl)
    rotate_left 2
    try simp only[Q,Pat.cs_len,List.length_append] at h1p
    exfalso;omega
    all_goals (first|((first|rfl|(simp[Pat.cs_cd];done));done)|(first|rfl|(simp[Pat.cs_cd];rfl)))
   ·have c8:=FnD.gvRen 8 c0
    rw[List.length_append] at hlen
    refine bd Tryz.f165 67 [25] [] fun w0 F0 own kept hk=>?_
    refine Walk.box (id:=3001) .none rfl rfl rfl rfl rfl rfl rfl ?_
    refine evs [25] [] ?_
    refine sq (fun h1 h1p h1s=>?_) fun h1 h1p h1s=>?_
    try simp only[Q,Pat.cs_len,List.length_append] at h1p
    refine Walk.idx (i:=0) sl28 .none rfl rfl rfl rfl (zaC (by omega)) rfl ?_
    refine evd [25] [] ?_
    refine Walk.call (cr:=[8]) zhu (c8) rfl .none rfl rfl (LeL.refl _) trivial rfl rfl rfl ?_
    refine evd [25] [] ?_
    refine Walk.idx (i:=1) sl28 .none rfl rfl rfl rfl (zaC (by omega)) rfl ?_
    refine evd [25] [] ?_
    refine Walk.call (cr:=[]) zhu (c1) rfl .none rfl rfl (LeL.refl _) trivial rfl rfl rfl ?_
    refine Walk.appendV sl28 zz77 .none rfl rfl rfl rfl (zaz rfl (by first|rfl|(simp;done)|(simp;omega))) (by intro x hx;exact zbd _ x hx) (by simp[Pat.cs_len];omega) (by simp[Pat.cs_len];omega) ?_
    refine evd [25] [] ?_
    refine dr ?_
    refine Walk.lenV sl28 .none rfl rfl ?_
    refine evs [25] [] ?_
    refine sq (fun h2 h2p h2s=>?_) fun h2 h2p h2s=>?_
    try simp only[Q,Pat.cs_len,List.length_append] at h2p
    refine Walk.cutV_h 9 (b:=401) sl28 .none rfl rfl (zaz rfl (by first|rfl|(simp;done)|(simp;omega))) rfl rfl (by simp[Pat.cs_len];omega) (by simp[Pat.cs_len];omega) rfl ?_
    refine evs [25] [] ?_
    refine rn [(9,some (.tok (Pat.cs ((A++C).take 401)).length 6))] (r1 rfl) (.gvg ?_) ⟨rfl,rfl⟩ (SubH.get ⟨?_,trivial⟩) (zbv rfl)
    rotate_left 2
    try simp only[Q,Pat.cs_len,List.length_append] at h2p
    exfalso;omega
    try simp only[Q,Pat.cs_len,List.length_append] at h1p
    exfalso;omega
    all_goals (first|((first|rfl|(simp[Pat.cs_cd];done));done)|(first|rfl|(show some (Res.tok _ _)=some (Res.tok _ _);simp[Pat.cs_len];omega)))
  ·have hts:=zo6 400 (p.kids.map za6)
   have htm:=fun(i:Nat) (hi:i<(tupQ 400 (p.kids.map za6)).length)=>zo7 400 (zae hi)
   have ht3:=zkz (ls:=p.kids.map za6) (by rw[List.length_map];omega) (fun l hl=>by obtain⟨x,_,rfl⟩:=List.mem_map.1 hl;have:=zgl x;omega)
   have hcal:=fun(i:Nat) (hi:i<p.kids.length)=>FnD.gvD (zdZ n (zea h hi) (Pats.ok_mem hok'.2 _ (zae hi)))
   have hpl:=fun(y:Pat) (pre rest:List Pat) (e:pre++y::rest=p.kids)=>(show pre.length<p.kids.length∧nth p.kids pre.length=y from⟨by have:=congrArg List.length e;simp at this;omega,ztV e⟩)
   have hcal2:=fun(y:Pat) (pre rest:List Pat) (e:pre++y::rest=p.kids)=>show FnD Tryz.prog 165 [.agg [.d (.i y.op),.d (.i y.ctor),.d (.i y.n),.d (.i y.m),.d (.i y.var),.d (zad y.kids)]] [] (.d (.sl (Pat.cs (za6 y)))) [] from by
    have hq:=hcal pre.length (hpl y pre rest e).1
    rw[(hpl y pre rest e).2] at hq
    exact hq
   have ht3':=fun(pre:List Pat) (e:pre++[]=p.kids)=>show FnD Tryz.prog 200 [.d (zhW (pre.map za6))] [] (.d (zhW (tupQ 400 (p.kids.map za6)))) [] from by
    rw[List.append_nil] at e
    rw[e];exact ht3
   rw[zrW h5]
   refine bd Tryz.f165 67 [] [] fun w0 F0 own kept hk=>?_
   refine Walk.box (id:=3001) .none rfl rfl rfl rfl rfl rfl rfl ?_
   refine ev ?_
   refine sq (fun h1 h1p h1s=>?_) fun h1 h1p h1s=>?_
   try simp only[Q,Pat.cs_len] at h1p
   exfalso;omega
   try simp only[Q,Pat.cs_len] at h1p
   refine Walk.sliceEmptyG 4 zdX .none rfl rfl ?_
   refine ev ?_
   refine CWp.loopX (ι:=List (Pat)×List (Pat)) hk (fun x=>[(5,.d (.i (x.1.length:Int))),(4,.gl 4 ((x.1.map za6).map zg1))]) [31,32,33,34,35,36,37,38,39,40,41,42,43,44,45,46] (fun x=>[(4,some (.tok (((x.1.map za6).map zg1)).length 1))]) (fun x=>x.1++x.2=p.kids) (fun x=>x.2.length) ([],p.kids) (by simp) ⟨⟨_,rfl,(LeA.eqi (by first|rfl|(simp;done)))⟩,⟨⟨_,rfl,(LeA.glg (by first|rfl|(simp;done)))⟩,trivial⟩⟩ ⟨zab (by first|rfl|(simp;done)|(simp;omega)|(first|rfl|(simp;done))),trivial⟩ (fun x=>rfl) (fun x hg1=>?_)
   obtain⟨pre,rest⟩:=x
   dsimp only at hg1 ⊢
   refine evc [] [] ?_
   refine sq (fun h2 h2p h2s=>?_) fun h2 h2p h2s=>?_
   try simp only[Q,Pat.cs_len] at h2p
   rcases rest with _|⟨y,rest⟩
   ·exfalso;simp_all
   refine Walk.idx sl28 .none rfl rfl rfl rfl (Pat.cs_at' hg1) rfl ?_
   refine ev ?_
   refine Walk.call (cr:=[]) zhu (hcal2 y pre rest hg1) rfl .none rfl rfl (LeL.refl _) trivial rfl rfl rfl ?_
   refine Walk.sliceLit zdX tz28 rfl (by decide) (ks:=[0]) (xs:=[_]) rfl rfl (by decide) (by decide) .none rfl rfl rfl rfl ?_
   refine Walk.append zdX zz28 rfl .none rfl rfl rfl rfl (zaz rfl (by first|rfl|(simp;done)|(simp;omega))) (by intro x hx;first|(simp at hx;subst hx;rfl)|exact zbF _ x hx) (by first|(have:=congrArg List.length hg1;simp at this;simp;omega)|(simp;omega)) (by first|(have:=congrArg List.length hg1;simp at this;simp;omega)|(simp;omega)) ?_
   refine ev ?_
   refine ar ?_
   refine Exists.intro ((pre++[y],rest)) ⟨(by have hz:=hg1;rw[←hz];simp),(by simp),Sub.x (by kernel_rfl) (by kernel_rfl) ⟨⟨_,rfl,(LeA.eqi (by first|rfl|(simp;done)))⟩,⟨⟨_,rfl,(LeA.glg (by first|rfl|(simp;done)))⟩,trivial⟩⟩ (by kernel_rfl) (by kernel_rfl) ⟨zab (by first|rfl|(simp;done)|(simp;omega)|(first|rfl|(simp;done))),trivial⟩⟩
   try simp only[Q,Pat.cs_len] at h2p
   have hrest:rest=[]:=by
    rcases rest with _|⟨a,b⟩
    ·rfl
    ·exfalso;have hz:=congrArg List.length (hg1);simp only[List.length_append,List.length_cons,List.length_map] at hz;omega
   subst hrest
   refine Walk.call (cr:=[]) ztA (ht3' pre hg1) rfl .none rfl rfl (.cons (.gl _ _) .nil) trivial rfl rfl rfl ?_
   refine ev ?_
   refine Walk.sliceEmptyGV 9 sl28 .none rfl rfl ?_
   refine ev ?_
   refine CWp.loopX (ι:=Nat) hk (fun k=>[(8,.d (.i (k:Int))),(7,.gv 9 ((((tupQ 400 (p.kids.map za6)).take k).map fun l=>Pat.mk p.op p.ctor p.n p.m p.var l).map Pat.cc))]) [9,50,51,52,53,54,55,56,57,58,59,60,61,62,63,64,65] (fun k=>[(9,some (.tok (((((tupQ 400 (p.kids.map za6)).take k).map fun l=>Pat.mk p.op p.ctor p.n p.m p.var l).map Pat.cc)).length 6))]) (fun k=>k≤(tupQ 400 (p.kids.map za6)).length) (fun k=>(tupQ 400 (p.kids.map za6)).length-k) 0 (by omega) ⟨⟨_,rfl,(LeA.eqi (by first|rfl|(simp;done)|(rw[List.take_succ_eq_append_getElem (by omega),←za3 (by omega)];simp[zdm,zcq,mk_n,mk_m,zcY,zbV];done)|omega))⟩,⟨⟨_,rfl,(LeA.gvg (by first|rfl|(simp;done)|(rw[List.take_succ_eq_append_getElem (by omega),←za3 (by omega)];simp[zdm,zcq,mk_n,mk_m,zcY,zbV];done)|omega))⟩,trivial⟩⟩ ⟨zab (by first|rfl|(simp;done)|(simp;omega)|(first|rfl|(simp;done)|(rw[List.take_succ_eq_append_getElem (by omega),←za3 (by omega)];simp[zdm,zcq,mk_n,mk_m,zcY,zbV];done)|omega)),trivial⟩ (fun x=>rfl) (fun k hg2=>?_)
   refine evc [] [] ?_
   refine sq (fun h3 h3p h3s=>?_) fun h3 h3p h3s=>?_
   try simp only[Q,Pat.cs_len] at h3p
   refine Walk.alloc (id:=3009) tz77 rfl .none rfl rfl rfl rfl ?_
   refine Walk.store ty77 .none rfl rfl rfl rfl rfl rfl (by simp) rfl ?_
   refine tv ?_
   refine Walk.idx zdX .none rfl rfl rfl rfl (zam (by omega)) rfl ?_
   refine ev ?_
   refine Walk.store ty28 .none rfl rfl rfl rfl rfl rfl (by simp) rfl ?_
   refine tv ?_
   refine Walk.sliceLit sl28 tz77 rfl (by decide) (ks:=[0]) (xs:=[_]) rfl rfl (by decide) (by decide) .none rfl rfl rfl rfl ?_
   refine Walk.appendV sl28 zz77 .none rfl rfl rfl rfl (zaz rfl (by first|rfl|(simp;done)|(simp;omega))) (by intro x hx;first|(simp at hx;subst hx;rfl)|exact zbF _ x hx) (by first|(have:=congrArg List.length hg1;simp at this;simp;omega)|(simp;omega)) (by first|(have:=congrArg List.length hg1;simp at this;simp;omega)|(simp;omega)) ?_
   refine ev ?_
   refine ar ?_
   refine Exists.intro (k+1) ⟨(by omega),(by omega),Sub.x (by kernel_rfl) (by kernel_rfl) ⟨⟨_,rfl,(LeA.eqi (by first|rfl|(simp;done)|(rw[List.take_succ_eq_append_getElem (by omega),←za3 (by omega)];simp[zdm,zcq,mk_n,mk_m,zcY,zbV];done)|omega))⟩,⟨⟨_,rfl,(LeA.gvg (by first|rfl|(simp;done)|(rw[List.take_succ_eq_append_getElem (by omega),←za3 (by omega)];simp[zdm,zcq,mk_n,mk_m,zcY,zbV];done)|omega))⟩,trivial⟩⟩ (by kernel_rfl) (by kernel_rfl) ⟨zab (by first|rfl|(simp;done)|(simp;omega)|(first|rfl|(simp;done)|(rw[List.take_succ_eq_append_getElem (by omega),←za3 (by omega)];simp[zdm,zcq,mk_n,mk_m,zcY,zbV];done)|omega)),trivial⟩⟩
   try simp only[Q,Pat.cs_len] at h3p
   refine rn [(9,some (.tok (Pat.cs ((tupQ 400 (p.kids.map za6)).map fun l=>Pat.mk p.op p.ctor p.n p.m p.var l)).length 6))] (r1 rfl) (.gvg ?_) ⟨rfl,rfl⟩ (SubH.get ⟨?_,trivial⟩) (zbv rfl)
   rotate_left 2
   all_goals (first|((first|rfl|(obtain rfl:k=(tupQ 400 (p.kids.map za6)).length:=(by omega);rw[List.take_length,show Pat.cs ((tupQ 400 (p.kids.map za6)).map fun l=>Pat.mk p.op p.ctor p.n p.m p.var l)=((tupQ 400 (p.kids.map za6)).map fun l=>Pat.mk p.op p.ctor p.n p.m p.var l).map Pat.cc from Pat.cs_cd _];done));done)|(first|rfl|(obtain rfl:k=(tupQ 400 (p.kids.map za6)).length:=(by omega);rw[List.take_length];simp[Pat.cs_cd];rfl)|(obtain rfl:k=(tupQ 400 (p.kids.map za6)).length:=(by omega);rw[List.take_length,show Pat.cs ((tupQ 400 (p.kids.map za6)).map fun l=>Pat.mk p.op p.ctor p.n p.m p.var l)=((tupQ 400 (p.kids.map za6)).map fun l=>Pat.mk p.op p.ctor p.n p.m p.var l).map Pat.cc from Pat.cs_cd _];rfl)))
theorem zl0 {w:List Data}{n:Nat}{t:Ty}{p:Pat} (h:zar w n t p=true) (hok:p.ok):FnD Tryz.prog 107 [.agg [.d (.i p.op),.d (.i p.ctor),.d (.i p.n),.d (.i p.m),.d (.i p.var),.d (zad p.kids)]] [] (.d (zad (za6 (zaM p)))) []:=by
 have hbp:=zc2 _ (Nat.le_refl _) hok
 have hsp:=FnD.gvD (zdZ n (zha n h) (zjp p hok))
 generalize zaM p=b at *
 refine bd Tryz.f107 6 [] [] fun w0 F0 own kept hk=>?_
 refine Walk.box (id:=3001) .none rfl rfl rfl rfl rfl rfl rfl ?_
 refine ev ?_
 refine Walk.call (cr:=[]) zkO (hbp) rfl .none rfl rfl (LeL.refl _) trivial rfl rfl rfl ?_
 refine Walk.call (cr:=[]) zhu (hsp) rfl .none rfl rfl (LeL.refl _) trivial rfl rfl rfl ?_
 refine ev ?_
 refine rn0 (r1 rfl) (.eqd ?_)
 rotate_left
 all_goals (rfl)
def ztP (s:Str):Prop:=2<s.length∧nth s (s.length-2)=58
instance (s:Str):Decidable (ztP s):=inferInstanceAs (Decidable (_∧_))
structure TB (w:List Data):Prop where
 len:w.length≤4
 dn:∀d∈w,d.name.length≤1∧d.ctors.length≤4
 cn:∀d∈w,∀c∈d.ctors,c.name.length≤5∧c.args.length≤3∧0≤c.index∧c.index≤3
 ar:∀d∈w,∀c∈d.ctors,∀t∈c.args,(t.data = -1∨(0≤t.data∧t.data.toNat<w.length))∧ -1≤t.index∧t.index≤3
theorem Pat.cs_cc (l:List Pat):Pat.cs l=l.map Pat.cc:=by
 rw[Pat.cs_eq];exact List.map_congr_left (fun v _=>Pat.c_eq v)
theorem zis:FnD Tryz.prog 31 [] [] (.agg [.d (.i 1),.d (.i 0),.d (.i 0),.d (.i 0),.d (.i 0),.d (.sl [])]) []:=by
 refine bd Tryz.f31 2 [] [] fun w0 F0 own kept hk=>?_
 refine Walk.alloc (id:=3000) tz77 rfl .none rfl rfl rfl rfl ?_
 refine tv ?_
 refine Walk.build st77 (ks:=[0]) (xs:=[_]) rfl rfl .none rfl rfl rfl ?_
 refine Walk.store ty77 .none rfl rfl rfl rfl rfl rfl (by simp) rfl ?_
 refine tv ?_
 focus (refine rn0 (.cons (.cellA ty77 rfl rfl rfl) .nil) (.agg (.cons (.eqd ?_) (.cons (.eqd ?_) (.cons (.eqd ?_) (.cons (.eqd ?_) (.cons (.eqd ?_) (.cons (.nild ?_) .nil)))))));all_goals (first|rfl|(simp[];done)|(simp_all;done)|(simp_all;omega)|omega))
theorem zgS {a b:Pat} (hn:0≤b.n∧b.n≤9) (hm:0≤b.m∧b.m≤9):FnD Tryz.prog 168 [.agg [.d (.i (a).op),.d (.i (a).ctor),.d (.i (a).n),.d (.i (a).m),.d (.i (a).var),.d (zad (a).kids)],.agg [.d (.i (b).op),.d (.i (b).ctor),.d (.i (b).n),.d (.i (b).m),.d (.i (b).var),.d (zad (b).kids)]] [] (.d (zad (zcd a.n (minQ a.m (b.n-1))++zcd (maxQ a.n (b.m+1)) a.m))) []:=by
 refine bd Tryz.f168 58 [] [] fun w0 F0 own kept hk=>?_
 refine Walk.box (id:=3002) .none rfl rfl rfl rfl rfl rfl rfl ?_
 refine Walk.box (id:=3003) .none rfl rfl rfl rfl rfl rfl rfl ?_
 refine ev ?_
 refine Walk.sliceEmptyG 9 sl28 .none rfl rfl ?_
 refine ev ?_
 refine Walk.build st77 (ks:=[0,2,3]) (xs:=[_,_,_]) rfl rfl .none rfl rfl rfl ?_
 refine Walk.alloc (id:=3006) tz77 rfl .none rfl rfl rfl rfl ?_
 refine Walk.store ty77 .none rfl rfl rfl rfl rfl rfl (by simp) rfl ?_
 refine tv ?_
 refine ar ?_
 refine sq (fun h1 h1p h1s=>?_) fun h1 h1p h1s=>?_
 try simp only[Q] at h1p
 refine ar ?_
 refine Walk.store ty3 .none rfl rfl rfl rfl rfl rfl (by simp) rfl ?_
 refine tv ?_
 refine sq (fun h2 h2p h2s=>?_) fun h2 h2p h2s=>?_
 try simp only[Q] at h2p
 refine Walk.sliceLit sl28 tz77 rfl (by decide) (ks:=[0]) (xs:=[_]) rfl rfl (by decide) (by decide) .none rfl rfl rfl rfl ?_
 refine Walk.append sl28 zz77 rfl .none rfl rfl rfl rfl (zaz rfl (by first|rfl|(simp;done)|(simp;omega))) (by intro x hx;simp at hx;subst hx;rfl) (by simp) (by simp) ?_
 refine ev ?_
 refine Walk.build st77 (ks:=[0,2,3]) (xs:=[_,_,_]) rfl rfl .none rfl rfl rfl ?_
 refine Walk.alloc (id:=3007) tz77 rfl .none rfl rfl rfl rfl ?_
 refine Walk.store ty77 .none rfl rfl rfl rfl rfl rfl (by simp) rfl ?_
 refine tv ?_
 refine ar ?_
 refine sq (fun h3 h3p h3s=>?_) fun h3 h3p h3s=>?_
 try simp only[Q] at h3p
 refine ar ?_
 refine Walk.store ty3 .none rfl rfl rfl rfl rfl rfl (by simp) rfl ?_
 refine tv ?_
 refine sq (fun h4 h4p h4s=>?_) fun h4 h4p h4s=>?_
 try simp only[Q] at h4p
 refine Walk.sliceLit sl28 tz77 rfl (by decide) (ks:=[0]) (xs:=[_]) rfl rfl (by decide) (by decide) .none rfl rfl rfl rfl ?_
 refine Walk.append sl28 zz77 rfl .none rfl rfl rfl rfl (zaz rfl (by first|rfl|(simp;done)|(simp;omega))) (by intro x hx;simp at hx;subst hx;rfl) (by simp) (by simp) ?_
 refine ev ?_
 refine rn0 (r1 rfl) (.gld ?_)
 rotate_left
 try simp only[Q] at h4p
 refine rn0 (r1 rfl) (.gld ?_)
 rotate_left
 try simp only[Q] at h3p
 refine sq (fun h5 h5p h5s=>?_) fun h5 h5p h5s=>?_
 try simp only[Q] at h5p
 refine Walk.sliceLit sl28 tz77 rfl (by decide) (ks:=[0]) (xs:=[_]) rfl rfl (by decide) (by decide) .none rfl rfl rfl rfl ?_
 refine Walk.append sl28 zz77 rfl .none rfl rfl rfl rfl (zaz rfl (by first|rfl|(simp;done)|(simp;omega))) (by intro x hx;simp at hx;subst hx;rfl) (by simp) (by simp) ?_
 refine ev ?_
 refine rn0 (r1 rfl) (.gld ?_)
 rotate_left
 try simp only[Q] at h5p
 refine rn0 (r1 rfl) (.gld ?_)
 rotate_left
 try simp only[Q] at h2p
 refine Walk.build st77 (ks:=[0,2,3]) (xs:=[_,_,_]) rfl rfl .none rfl rfl rfl ?_
 refine Walk.alloc (id:=3007) tz77 rfl .none rfl rfl rfl rfl ?_
 refine Walk.store ty77 .none rfl rfl rfl rfl rfl rfl (by simp) rfl ?_
 refine tv ?_
 refine ar ?_
 refine sq (fun h6 h6p h6s=>?_) fun h6 h6p h6s=>?_
 try simp only[Q] at h6p
 refine ar ?_
 refine Walk.store ty3 .none rfl rfl rfl rfl rfl rfl (by simp) rfl ?_
 refine tv ?_
 refine sq (fun h7 h7p h7s=>?_) fun h7 h7p h7s=>?_
 try simp only[Q] at h7p
 refine Walk.sliceLit sl28 tz77 rfl (by decide) (ks:=[0]) (xs:=[_]) rfl rfl (by decide) (by decide) .none rfl rfl rfl rfl ?_
 refine Walk.append sl28 zz77 rfl .none rfl rfl rfl rfl (zaz rfl (by first|rfl|(simp;done)|(simp;omega))) (by intro x hx;simp at hx;subst hx;rfl) (by simp) (by simp) ?_
 refine ev ?_
 refine rn0 (r1 rfl) (.gld ?_)
 rotate_left
 try simp only[Q] at h7p
 refine rn0 (r1 rfl) (.gld ?_)
 rotate_left
 try simp only[Q] at h6p
 refine sq (fun h8 h8p h8s=>?_) fun h8 h8p h8s=>?_
 try simp only[Q] at h8p
 refine Walk.sliceLit sl28 tz77 rfl (by decide) (ks:=[0]) (xs:=[_]) rfl rfl (by decide) (by decide) .none rfl rfl rfl rfl ?_
 refine Walk.append sl28 zz77 rfl .none rfl rfl rfl rfl (zaz rfl (by first|rfl|(simp;done)|(simp;omega))) (by intro x hx;simp at hx;subst hx;rfl) (by simp) (by simp) ?_
 refine ev ?_
 refine rn0 (r1 rfl) (.gld ?_)
 rotate_left
 try simp only[Q] at h8p
 refine rn0 (r1 rfl) (.gld ?_)
 rotate_left
 try simp only[Q] at h1p
 refine sq (fun h9 h9p h9s=>?_) fun h9 h9p h9s=>?_
 try simp only[Q] at h9p
 refine Walk.sliceLit sl28 tz77 rfl (by decide) (ks:=[0]) (xs:=[_]) rfl rfl (by decide) (by decide) .none rfl rfl rfl rfl ?_
 refine Walk.append sl28 zz77 rfl .none rfl rfl rfl rfl (zaz rfl (by first|rfl|(simp;done)|(simp;omega))) (by intro x hx;simp at hx;subst hx;rfl) (by simp) (by simp) ?_
 refine ev ?_
 refine Walk.build st77 (ks:=[0,2,3]) (xs:=[_,_,_]) rfl rfl .none rfl rfl rfl ?_
 refine Walk.alloc (id:=3007) tz77 rfl .none rfl rfl rfl rfl ?_
 refine Walk.store ty77 .none rfl rfl rfl rfl rfl rfl (by simp) rfl ?_
 refine tv ?_
 refine ar ?_
 refine sq (fun h10 h10p h10s=>?_) fun h10 h10p h10s=>?_
 try simp only[Q] at h10p
 refine ar ?_
 refine Walk.store ty3 .none rfl rfl rfl rfl rfl rfl (by simp) rfl ?_
 refine tv ?_
 refine sq (fun h11 h11p h11s=>?_) fun h11 h11p h11s=>?_
 try simp only[Q] at h11p
 refine Walk.sliceLit sl28 tz77 rfl (by decide) (ks:=[0]) (xs:=[_]) rfl rfl (by decide) (by decide) .none rfl rfl rfl rfl ?_
 refine Walk.append sl28 zz77 rfl .none rfl rfl rfl rfl (zaz rfl (by first|rfl|(simp;done)|(simp;omega))) (by intro x hx;simp at hx;subst hx;rfl) (by simp) (by simp) ?_
 refine ev ?_
 refine rn0 (r1 rfl) (.gld ?_)
 rotate_left
 try simp only[Q] at h11p
 refine rn0 (r1 rfl) (.gld ?_)
 rotate_left
 try simp only[Q] at h10p
 refine sq (fun h12 h12p h12s=>?_) fun h12 h12p h12s=>?_
 try simp only[Q] at h12p
 refine Walk.sliceLit sl28 tz77 rfl (by decide) (ks:=[0]) (xs:=[_]) rfl rfl (by decide) (by decide) .none rfl rfl rfl rfl ?_
 refine Walk.append sl28 zz77 rfl .none rfl rfl rfl rfl (zaz rfl (by first|rfl|(simp;done)|(simp;omega))) (by intro x hx;simp at hx;subst hx;rfl) (by simp) (by simp) ?_
 refine ev ?_
 refine rn0 (r1 rfl) (.gld ?_)
 rotate_left
 try simp only[Q] at h12p
 refine rn0 (r1 rfl) (.gld ?_)
 rotate_left
 try simp only[Q] at h9p
 refine Walk.build st77 (ks:=[0,2,3]) (xs:=[_,_,_]) rfl rfl .none rfl rfl rfl ?_
 refine Walk.alloc (id:=3007) tz77 rfl .none rfl rfl rfl rfl ?_
 refine Walk.store ty77 .none rfl rfl rfl rfl rfl rfl (by simp) rfl ?_
 refine tv ?_
 refine ar ?_
 refine sq (fun h13 h13p h13s=>?_) fun h13 h13p h13s=>?_
 try simp only[Q] at h13p
 refine ar ?_
 refine Walk.store ty3 .none rfl rfl rfl rfl rfl rfl (by simp) rfl ?_
 refine tv ?_
 refine sq (fun h14 h14p h14s=>?_) fun h14 h14p h14s=>?_
 try simp only[Q] at h14p
 refine Walk.sliceLit sl28 tz77 rfl (by decide) (ks:=[0]) (xs:=[_]) rfl rfl (by decide) (by decide) .none rfl rfl rfl rfl ?_
 refine Walk.append sl28 zz77 rfl .none rfl rfl rfl rfl (zaz rfl (by first|rfl|(simp;done)|(simp;omega))) (by intro x hx;simp at hx;subst hx;rfl) (by simp) (by simp) ?_
 refine ev ?_
 refine rn0 (r1 rfl) (.gld ?_)
 rotate_left
 try simp only[Q] at h14p
 refine rn0 (r1 rfl) (.gld ?_)
 rotate_left
 try simp only[Q] at h13p
 refine sq (fun h15 h15p h15s=>?_) fun h15 h15p h15s=>?_
 try simp only[Q] at h15p
 refine Walk.sliceLit sl28 tz77 rfl (by decide) (ks:=[0]) (xs:=[_]) rfl rfl (by decide) (by decide) .none rfl rfl rfl rfl ?_
 refine Walk.append sl28 zz77 rfl .none rfl rfl rfl rfl (zaz rfl (by first|rfl|(simp;done)|(simp;omega))) (by intro x hx;simp at hx;subst hx;rfl) (by simp) (by simp) ?_
 refine ev ?_
 refine rn0 (r1 rfl) (.gld ?_)
 rotate_left
 try simp only[Q] at h15p
 refine rn0 (r1 rfl) (.gld ?_)
 rotate_left
 all_goals (unfold minQ maxQ zcd;(repeat' split)<;>first|rfl|(exfalso;omega))
theorem znO {w:List Data} (hw:WT w){a k c:Int} (ht:TyIn w.length ⟨a,k⟩) (hc:c∈zat w ⟨a,k⟩) (hl:(zag w ⟨a,k⟩ c).length≤3):FnD Tryz.prog 170 [.d (zak w),.agg [.d (.i a),.d (.i k)],.d (.i c)] []
  (.agg [.d (.i 4),.d (.i c),.d (.i 0),.d (.i 0),.d (.i 0),.d (zad (zcf w ⟨a,k⟩ c).kids)]) []:=by
 refine bd Tryz.f170 29 [] [] fun w0 F0 own kept hk=>?_
 refine Walk.box (id:=3004) .none rfl rfl rfl rfl rfl rfl rfl ?_
 refine Walk.alloc (id:=3006) tz77 rfl .none rfl rfl rfl rfl ?_
 refine tv ?_
 refine Walk.build st77 (ks:=[0,1]) (xs:=[_,_]) rfl rfl .none rfl rfl rfl ?_
 refine Walk.alloc (id:=3007) tz77 rfl .none rfl rfl rfl rfl ?_
 refine Walk.store ty77 .none rfl rfl rfl rfl rfl rfl (by simp) rfl ?_
 refine tv ?_
 refine Walk.call (cr:=[]) zhv (zc4 hw ht hc) rfl .none rfl rfl (LeL.refl _) trivial rfl rfl rfl ?_
 refine ev ?_
 refine CWp.tokB 3007 5 9 6 rfl rfl rfl rfl ?_
 refine CWp.loopX (ι:=List (Ty)×List (Ty)) hk (fun x=>[(9,.d (.i (x.1.length:Int)))]) [16,17,18,19,20,21,22,23,24,25,26,27] (fun x=>[(3007,some (.box [.d (.i 4),.d (.i c),.d (.i 0),.d (.i 0),.d (.i 0),.gl 9 ((x.1.map fun _=>anyQ).map Pat.cc)])),(9,some (.tok ((x.1.map fun _=>anyQ).map Pat.cc).length 6))]) (fun x=>x.1++x.2=zag w ⟨a,k⟩ c) (fun x=>x.2.length) ([],zag w ⟨a,k⟩ c) (by simp) ⟨⟨_,rfl,(LeA.eqi (by first|rfl|(simp;done)|(simp;exact⟨rfl,rfl,rfl,rfl,rfl,rfl⟩)|omega))⟩,trivial⟩ ⟨(by first|rfl|(simp[getH];done)|(simp[getH];exact⟨rfl,rfl,rfl,rfl,rfl,rfl⟩)),⟨zab (by first|rfl|(simp;done)|(simp;omega)|(first|rfl|(simp;done)|(simp;exact⟨rfl,rfl,rfl,rfl,rfl,rfl⟩)|omega)),trivial⟩⟩ (fun x=>rfl) (fun x hg1=>?_)
 obtain⟨pre,rest⟩:=x
 dsimp only at hg1 ⊢
 refine evc [] [] ?_
 refine sq (fun h1 h1p h1s=>?_) fun h1 h1p h1s=>?_
 try simp only[Q] at h1p
 rcases rest with _|⟨y,rest⟩
 ·exfalso;simp_all
 refine Walk.call (cr:=[]) zr3 (zis) rfl .none rfl rfl (LeL.refl _) trivial rfl rfl rfl ?_
 refine Walk.sliceLit sl28 tz77 rfl (by decide) (ks:=[0]) (xs:=[_]) rfl rfl (by decide) (by decide) .none rfl rfl rfl rfl ?_
 refine Walk.append sl28 zz77 rfl .none rfl rfl rfl rfl (zaz rfl (by first|rfl|(simp;done)|(simp;omega))) (by intro x hx;first|(simp at hx;subst hx;rfl)|exact zbF _ x hx) (by have:=congrArg List.length hg1;simp at this;simp;omega) (by have:=congrArg List.length hg1;simp at this;simp;omega) ?_
 refine evd [] [] ?_
 refine Walk.store ty28 .none rfl rfl rfl rfl rfl rfl (by simp) rfl ?_
 refine dr ?_
 refine ar ?_
 refine Exists.intro ((pre++[y],rest)) ⟨(by have hz:=hg1;rw[←hz];simp),(by simp),Sub.x (by kernel_rfl) (by kernel_rfl) ⟨⟨_,rfl,(LeA.eqi (by first|rfl|(simp;done)|(simp;exact⟨rfl,rfl,rfl,rfl,rfl,rfl⟩)|omega))⟩,trivial⟩ (by kernel_rfl) (by kernel_rfl) ⟨(by first|rfl|(simp[getH];done)|(simp[getH];exact⟨rfl,rfl,rfl,rfl,rfl,rfl⟩)),⟨zab (by first|rfl|(simp;done)|(simp;omega)|(first|rfl|(simp;done)|(simp;exact⟨rfl,rfl,rfl,rfl,rfl,rfl⟩)|omega)),trivial⟩⟩⟩
 try simp only[Q] at h1p
 have hrest:rest=[]:=by
  rcases rest with _|⟨a,b⟩
  ·rfl
  ·exfalso;have hz:=congrArg List.length (hg1);simp only[List.length_append,List.length_cons,List.length_map] at hz;omega
 subst hrest
 refine Walk.store ty77 .none rfl rfl rfl rfl rfl rfl (by simp) rfl ?_
 refine tv ?_
 refine rn0 (.cons (.cellA ty77 rfl rfl rfl) .nil) (.agg (.cons (.eqd ?_) (.cons (.eqd ?_) (.cons (.eqd ?_) (.cons (.eqd ?_) (.cons (.eqd ?_) (.cons (.gld ?_) .nil)))))))
 rotate_left 6
 all_goals (first|rfl|(rw[List.append_nil] at hg1;subst hg1;rw[←Pat.cs_cd];all_goals rfl))
def zdE (n:Nat) (a b:Pat):Pat:=if a.op=3∧b.op≠1 then intQ (maxQ a.n b.n) (minQ a.m b.m) else zcM n a b
theorem zmA {n:Nat}{a b:Pat} (h:¬(a.op=3∧b.op≠1)):zdE n a b=zcM n a b:=if_neg h
theorem zoC {n:Nat}{a b:Pat} (h:(zaT n a b).isSome=true):zdE n a b=zcM n a b:=by
 unfold zdE
 split
 ·rename_i h3
  cases n with
  |zero=>simp[zaT] at h
  |succ n=>
   have e:=zly (n:=n) h3.1 h3.2
   rw[e] at h
   split at h
   ·rename_i hr
    rw[if_pos hr] at e
    exact(zcv e).symm
   ·cases h
 ·rfl
theorem zhO {w:List Data} (hs:Spa w):∀(n m:Nat){t:Ty}{a b:Pat},m≤n→InS (w.length*4) t→zal w m t a=true→zal w m t b=true→
  FnD Tryz.prog 201 [.agg [.d (.i (a).op),.d (.i (a).ctor),.d (.i (a).n),.d (.i (a).m),.d (.i (a).var),.d (zad (a).kids)],.agg [.d (.i (b).op),.d (.i (b).ctor),.d (.i (b).n),.d (.i (b).m),.d (.i (b).var),.d (zad (b).kids)]] [] (.tup [.agg [.d (.i (zdE n a b).op),.d (.i (zdE n a b).ctor),.d (.i (zdE n a b).n),.d (.i (zdE n a b).m),.d (.i (zdE n a b).var),.d (zad (zdE n a b).kids)],.d (.bool (zaT n a b).isSome)]) []
 |n,0,t,a,b,_,_,ha,_=>by simp[zal] at ha
 |0,m+1,t,a,b,h,_,_,_=>by omega
 |n+1,m+1,t,a,b,hnm,ht,ha,hb=>by
  by_cases h1:a.op=1
  ·have e:=zlw (n:=n) (b:=b) h1
   rw[zmA (fun h=>by omega),zcv e,e]
   refine bd Tryz.f201 89 [] [] fun w0 F0 own kept hk=>?_
   refine Walk.box (id:=3002) .none rfl rfl rfl rfl rfl rfl rfl ?_
   refine Walk.box (id:=3003) .none rfl rfl rfl rfl rfl rfl rfl ?_
   refine Walk.alloc (id:=3004) tz77 rfl .none rfl rfl rfl rfl ?_
   refine ev ?_
   refine sq (fun h1 h1p h1s=>?_) fun h1 h1p h1s=>?_
   try simp only[Q] at h1p
   refine Walk.store ty77 .none rfl rfl rfl rfl rfl rfl (by simp) rfl ?_
   refine ev ?_
   refine rn0 (.cons (.cellA ty77 rfl rfl rfl) (.cons (.tmp rfl) .nil)) (.tup (.cons (.agg (.cons (.eqd ?_) (.cons (.eqd ?_) (.cons (.eqd ?_) (.cons (.eqd ?_) (.cons (.eqd ?_) (.cons (.eqd ?_) .nil))))))) (.cons (.eqd ?_) .nil)))
   rotate_left 7
   try simp only[Q] at h1p
   exfalso;omega
   all_goals (rfl)
  by_cases h2:b.op=1
  ·have e:=zlx (n:=n) h1 h2
   rw[zmA (fun h=>h.2 h2),zcv e,e]
   refine bd Tryz.f201 89 [] [] fun w0 F0 own kept hk=>?_
   refine Walk.box (id:=3002) .none rfl rfl rfl rfl rfl rfl rfl ?_
   refine Walk.box (id:=3003) .none rfl rfl rfl rfl rfl rfl rfl ?_
   refine Walk.alloc (id:=3004) tz77 rfl .none rfl rfl rfl rfl ?_
   refine ev ?_
   refine sq (fun h1 h1p h1s=>?_) fun h1 h1p h1s=>?_
   try simp only[Q] at h1p
   exfalso;omega
   try simp only[Q] at h1p
   refine sq (fun h2 h2p h2s=>?_) fun h2 h2p h2s=>?_
   try simp only[Q] at h2p
   refine Walk.store ty77 .none rfl rfl rfl rfl rfl rfl (by simp) rfl ?_
   refine ev ?_
   refine rn0 (.cons (.cellA ty77 rfl rfl rfl) (.cons (.tmp rfl) .nil)) (.tup (.cons (.agg (.cons (.eqd ?_) (.cons (.eqd ?_) (.cons (.eqd ?_) (.cons (.eqd ?_) (.cons (.eqd ?_) (.cons (.eqd ?_) .nil))))))) (.cons (.eqd ?_) .nil)))
   rotate_left 7
   try simp only[Q] at h2p
   exfalso;omega
   all_goals (rfl)
  by_cases h3:a.op=3
  ·have e:=zly (n:=n) h3 h2
   have ez:zdE (n+1) a b=intQ (maxQ a.n b.n) (minQ a.m b.m):=if_pos ⟨h3,h2⟩
   have eb:(zaT (n+1) a b).isSome=decide (maxQ a.n b.n≤minQ a.m b.m):=by
    rw[e]
    by_cases hr:maxQ a.n b.n≤minQ a.m b.m
    ·rw[if_pos hr,decide_eq_true hr];rfl
    ·rw[if_neg hr,decide_eq_false hr];rfl
   rw[ez,eb]
   refine bd Tryz.f201 89 [] [] fun w0 F0 own kept hk=>?_
   refine Walk.box (id:=3002) .none rfl rfl rfl rfl rfl rfl rfl ?_
   refine Walk.box (id:=3003) .none rfl rfl rfl rfl rfl rfl rfl ?_
   refine Walk.alloc (id:=3004) tz77 rfl .none rfl rfl rfl rfl ?_
   refine ev ?_
   refine sq (fun h1 h1p h1s=>?_) fun h1 h1p h1s=>?_
   try simp only[Q] at h1p
   exfalso;omega
   try simp only[Q] at h1p
   refine sq (fun h2 h2p h2s=>?_) fun h2 h2p h2s=>?_
   try simp only[Q] at h2p
   exfalso;omega
   try simp only[Q] at h2p
   refine sq (fun h3 h3p h3s=>?_) fun h3 h3p h3s=>?_
   try simp only[Q] at h3p
   refine sq (fun h4 h4p h4s=>?_) fun h4 h4p h4s=>?_
   try simp only[Q] at h4p
   refine sq (fun h5 h5p h5s=>?_) fun h5 h5p h5s=>?_
   try simp only[Q] at h5p
   refine Walk.build st77 (ks:=[0,2,3]) (xs:=[_,_,_]) rfl rfl .none rfl rfl rfl ?_
   refine ev ?_
   refine Walk.store ty77 .none rfl rfl rfl rfl rfl rfl (by simp) rfl ?_
   refine ev ?_
   refine rn0 (.cons (.cellA ty77 rfl rfl rfl) (.cons (.tmp rfl) .nil)) (.tup (.cons (.agg (.cons (.eqd ?_) (.cons (.eqd ?_) (.cons (.eqd ?_) (.cons (.eqd ?_) (.cons (.eqd ?_) (.cons (.nild ?_) .nil))))))) (.cons (.eqd ?_) .nil)))
   rotate_left 7
   try simp only[Q] at h5p
   refine Walk.build st77 (ks:=[0,2,3]) (xs:=[_,_,_]) rfl rfl .none rfl rfl rfl ?_
   refine ev ?_
   refine Walk.store ty77 .none rfl rfl rfl rfl rfl rfl (by simp) rfl ?_
   refine ev ?_
   refine rn0 (.cons (.cellA ty77 rfl rfl rfl) (.cons (.tmp rfl) .nil)) (.tup (.cons (.agg (.cons (.eqd ?_) (.cons (.eqd ?_) (.cons (.eqd ?_) (.cons (.eqd ?_) (.cons (.eqd ?_) (.cons (.nild ?_) .nil))))))) (.cons (.eqd ?_) .nil)))
   rotate_left 7
   try simp only[Q] at h4p
   refine sq (fun h6 h6p h6s=>?_) fun h6 h6p h6s=>?_
   try simp only[Q] at h6p
   refine Walk.build st77 (ks:=[0,2,3]) (xs:=[_,_,_]) rfl rfl .none rfl rfl rfl ?_
   refine ev ?_
   refine Walk.store ty77 .none rfl rfl rfl rfl rfl rfl (by simp) rfl ?_
   refine ev ?_
   refine rn0 (.cons (.cellA ty77 rfl rfl rfl) (.cons (.tmp rfl) .nil)) (.tup (.cons (.agg (.cons (.eqd ?_) (.cons (.eqd ?_) (.cons (.eqd ?_) (.cons (.eqd ?_) (.cons (.eqd ?_) (.cons (.nild ?_) .nil))))))) (.cons (.eqd ?_) .nil)))
   rotate_left 7
   try simp only[Q] at h6p
   refine Walk.build st77 (ks:=[0,2,3]) (xs:=[_,_,_]) rfl rfl .none rfl rfl rfl ?_
   refine ev ?_
   refine Walk.store ty77 .none rfl rfl rfl rfl rfl rfl (by simp) rfl ?_
   refine ev ?_
   refine rn0 (.cons (.cellA ty77 rfl rfl rfl) (.cons (.tmp rfl) .nil)) (.tup (.cons (.agg (.cons (.eqd ?_) (.cons (.eqd ?_) (.cons (.eqd ?_) (.cons (.eqd ?_) (.cons (.eqd ?_) (.cons (.nild ?_) .nil))))))) (.cons (.eqd ?_) .nil)))
   rotate_left 7
   try simp only[Q] at h3p
   exfalso;omega
   all_goals (first|rfl|((try simp only[zdm,zcq,mk_n,mk_m,zcY,zbV]);simp only[minQ,maxQ];(repeat' split)<;>first|rfl|(exfalso;omega)))
  have oa:=zcc ha
  have h4:a.op=4:=by omega
  have h4b:b.op=4:=by have:=zdQ ha hb h1 h2;omega
  have ez:zdE (n+1) a b=zcM (n+1) a b:=zmA (fun h=>h3 h.1)
  by_cases hc:a.ctor=b.ctor
  ·obtain⟨c1,c2,c3,-⟩:=zba ha h4
   obtain⟨d1,d2,d3,-⟩:=zba hb h4b
   rw[←hc] at d3
   have h3l:=hs.args t a.ctor ht c1
   have ka:=fun i (hi:i<a.kids.length)=>zbt ha hi
   have kb:=fun i (hi:i<b.kids.length)=>zbt hb hi
   rw[zbI h4] at ka
   rw[zbI h4b,←hc] at kb
   have e:=zlz (n:=n) h4 h2 hc
   have hlen:a.kids.length=b.kids.length:=by omega
   have ih:=fun i (hi:i<a.kids.length)=>zhO hs n m (t:=nth (zag w t a.ctor) i) (a:=nth a.kids i) (b:=nth b.kids i) (by omega) (zco hs.dp ht c1 _ (zae (by omega))) (ka i (by omega)) (kb i (by omega))
   have key:∀(i:Nat) (acc:List Pat),i<a.kids.length→(zaT n (nth a.kids i) (nth b.kids i)).isSome=true→zcE (zaT n) (a.kids.drop i) (b.kids.drop i) acc=zcE (zaT n) (a.kids.drop (i+1)) (b.kids.drop (i+1)) (acc++[zdE n (nth a.kids i) (nth b.kids i)]):=fun i acc hi h=>by
    rw[zoC h];exact zlv hi (by omega) (zmB h)
   rw[ez]
   refine bd Tryz.f201 89 [] [] fun w0 F0 own kept hk=>?_
   refine Walk.box (id:=3002) .none rfl rfl rfl rfl rfl rfl rfl ?_
   refine Walk.box (id:=3003) .none rfl rfl rfl rfl rfl rfl rfl ?_
   refine Walk.alloc (id:=3004) tz77 rfl .none rfl rfl rfl rfl ?_
   refine ev ?_
   refine sq (fun h1 h1p h1s=>?_) fun h1 h1p h1s=>?_
   try simp only[Q,Pat.cs_len] at h1p
   exfalso;omega
   try simp only[Q,Pat.cs_len] at h1p
   refine sq (fun h2 h2p h2s=>?_) fun h2 h2p h2s=>?_
   try simp only[Q,Pat.cs_len] at h2p
   exfalso;omega
   try simp only[Q,Pat.cs_len] at h2p
   refine sq (fun h3 h3p h3s=>?_) fun h3 h3p h3s=>?_
   try simp only[Q,Pat.cs_len] at h3p
   exfalso;omega
   try simp only[Q,Pat.cs_len] at h3p
   refine sq (fun h4 h4p h4s=>?_) fun h4 h4p h4s=>?_
   try simp only[Q,Pat.cs_len] at h4p
   exfalso;omega
   try simp only[Q,Pat.cs_len] at h4p
   refine Walk.build st77 (ks:=[0,1]) (xs:=[_,_]) rfl rfl .none rfl rfl rfl ?_
   refine Walk.alloc (id:=3008) tz77 rfl .none rfl rfl rfl rfl ?_
   refine Walk.store ty77 .none rfl rfl rfl rfl rfl rfl (by simp) rfl ?_
   refine tv ?_
   refine CWp.tokB 3008 5 9 6 rfl rfl rfl rfl ?_
   refine CWp.loopX (ι:=Nat×List Pat) hk (fun x=>[(9,.d (.i (x.1:Int)))]) [5,10,11,58,59,60,61,62,63,64,65,66,67,68,69,70,71,72,73,74,75,76,77,78,79,80,81,82,83,84,85,86,87] (fun x=>[(3008,some (.box [.d (.i 4),.d (.i a.ctor),.d (.i 0),.d (.i 0),.d (.i 0),.gl 9 (x.2.map Pat.cc)])),(9,some (.tok (x.2.map Pat.cc).length 6))]) (fun x=>x.1≤a.kids.length∧x.2.length=x.1∧zcE (zaT n) (a.kids.drop x.1) (b.kids.drop x.1) x.2=zcE (zaT n) a.kids b.kids []) (fun x=>a.kids.length-x.1) (0,[]) ⟨by simp,rfl,rfl⟩ ⟨⟨_,rfl,(LeA.eqi (by first|rfl|(simp;done)|(simp_all;done)|omega))⟩,trivial⟩ ⟨(by first|rfl|(simp[getH];done)),⟨zab (by first|rfl|(simp;done)|(simp;omega)|(first|rfl|(simp;done)|(simp_all;done)|omega)),trivial⟩⟩ (fun x=>rfl) (fun x hg1=>?_)
   refine evc [] [] ?_
   refine sq (fun h5 h5p h5s=>?_) fun h5 h5p h5s=>?_
   try simp only[Q,Pat.cs_len] at h5p
   refine Walk.idx sl28 .none rfl rfl rfl rfl (zaC (by omega)) rfl ?_
   refine evd [] [] ?_
   refine Walk.idx sl28 .none rfl rfl rfl rfl (zaC (by omega)) rfl ?_
   refine evd [] [] ?_
   refine Walk.call (cr:=[]) zqI (ih x.1 (by omega)) rfl .none rfl rfl (LeL.refl _) trivial rfl rfl rfl ?_
   refine evd [] [] ?_
   refine Walk.alloc (id:=3010) tz77 rfl .none rfl rfl rfl rfl ?_
   refine Walk.store ty77 .none rfl rfl rfl rfl rfl rfl (by simp) rfl ?_
   refine evd [] [] ?_
   refine dr ?_
   refine sq (fun h6 h6p h6s=>?_) fun h6 h6p h6s=>?_
   try simp only[Q,Pat.cs_len] at h6p
   refine Walk.build st77 (ks:=[]) (xs:=[]) rfl rfl .none rfl rfl rfl ?_
   refine Walk.store ty77 .none rfl rfl rfl rfl rfl rfl (by simp) rfl ?_
   refine ev ?_
   refine rn0 (.cons (.cellA ty77 rfl rfl rfl) (.cons (.tmp rfl) .nil)) (.tup (.cons (.agg (.cons (.eqd ?_) (.cons (.eqd ?_) (.cons (.eqd ?_) (.cons (.eqd ?_) (.cons (.eqd ?_) (.cons (.nild ?_) .nil))))))) (.cons (.eqd ?_) .nil)))
   rotate_left 7
   try simp only[Q,Pat.cs_len] at h6p
   refine Walk.sliceLit sl28 tz77 rfl (by decide) (ks:=[0]) (xs:=[_]) rfl rfl (by decide) (by decide) .none rfl rfl rfl rfl ?_
   refine Walk.append sl28 zz77 rfl .none rfl rfl rfl rfl (zaz rfl (by first|rfl|(simp;done)|(simp;omega))) (by intro x hx;first|(simp at hx;subst hx;rfl)|exact zbF _ x hx) (by simp;omega) (by simp;omega) ?_
   refine ev ?_
   refine Walk.store ty28 .none rfl rfl rfl rfl rfl rfl (by simp) rfl ?_
   refine tv ?_
   refine ar ?_
   refine Exists.intro ((x.1+1,x.2++[zdE n (nth a.kids x.1) (nth b.kids x.1)])) ⟨⟨by dsimp only;omega,by dsimp only;rw[List.length_append,hg1.2.1];rfl,by dsimp only;rw[←key x.1 x.2 (by omega) (by assumption)];exact hg1.2.2⟩,(by dsimp only;omega),Sub.x (by kernel_rfl) (by kernel_rfl) ⟨⟨_,rfl,(LeA.eqi (by first|rfl|(simp;done)|(simp_all;done)|omega))⟩,trivial⟩ (by kernel_rfl) (by kernel_rfl) ⟨(by first|rfl|(simp[getH];done)),⟨zab (by first|rfl|(simp;done)|(simp;omega)|(first|rfl|(simp;done)|(simp_all;done)|omega)),trivial⟩⟩⟩
   try simp only[Q,Pat.cs_len] at h5p
   refine Walk.store ty77 .none rfl rfl rfl rfl rfl rfl (by simp) rfl ?_
   refine ev ?_
   refine rn0 (.cons (.cellA ty77 rfl rfl rfl) (.cons (.tmp rfl) .nil)) (.tup (.cons (.agg (.cons (.eqd ?_) (.cons (.eqd ?_) (.cons (.eqd ?_) (.cons (.eqd ?_) (.cons (.eqd ?_) (.cons (.gld ?_) .nil))))))) (.cons (.eqd ?_) .nil)))
   rotate_left 7
   all_goals (first|(have e2:zaT (n+1) a b=none:=(by rw[e,←hg1.2.2,zlu (by omega) (by omega) (zmC (by assumption))];rfl);(first|rw[zeY e2]|rw[e2]);all_goals rfl)|(have e2:zaT (n+1) a b=some (zb3 a.ctor x.2):=(by rw[e,←hg1.2.2,zeI (by omega)];rfl);rw[zcv e2,Pat.cs_cd];all_goals rfl)|(have e2:zaT (n+1) a b=some (zb3 a.ctor x.2):=(by rw[e,←hg1.2.2,zeI (by omega)];rfl);rw[zcv e2];all_goals rfl)|(have e2:zaT (n+1) a b=some (zb3 a.ctor x.2):=(by rw[e,←hg1.2.2,zeI (by omega)];rfl);rw[e2];all_goals rfl))
  ·skip
   have e:=zjw (n:=n) h4 h2 hc
   rw[ez,zeY e,e]
   refine bd Tryz.f201 89 [] [] fun w0 F0 own kept hk=>?_
   refine Walk.box (id:=3002) .none rfl rfl rfl rfl rfl rfl rfl ?_
   refine Walk.box (id:=3003) .none rfl rfl rfl rfl rfl rfl rfl ?_
   refine Walk.alloc (id:=3004) tz77 rfl .none rfl rfl rfl rfl ?_
   refine ev ?_
   refine sq (fun h1 h1p h1s=>?_) fun h1 h1p h1s=>?_
   try simp only[Q] at h1p
   exfalso;omega
   try simp only[Q] at h1p
   refine sq (fun h2 h2p h2s=>?_) fun h2 h2p h2s=>?_
   try simp only[Q] at h2p
   exfalso;omega
   try simp only[Q] at h2p
   refine sq (fun h3 h3p h3s=>?_) fun h3 h3p h3s=>?_
   try simp only[Q] at h3p
   exfalso;omega
   try simp only[Q] at h3p
   refine sq (fun h4 h4p h4s=>?_) fun h4 h4p h4s=>?_
   try simp only[Q] at h4p
   refine Walk.build st77 (ks:=[]) (xs:=[]) rfl rfl .none rfl rfl rfl ?_
   refine Walk.store ty77 .none rfl rfl rfl rfl rfl rfl (by simp) rfl ?_
   refine ev ?_
   refine rn0 (.cons (.cellA ty77 rfl rfl rfl) (.cons (.tmp rfl) .nil)) (.tup (.cons (.agg (.cons (.eqd ?_) (.cons (.eqd ?_) (.cons (.eqd ?_) (.cons (.eqd ?_) (.cons (.eqd ?_) (.cons (.nild ?_) .nil))))))) (.cons (.eqd ?_) .nil)))
   rotate_left 7
   try simp only[Q] at h4p
   exfalso;omega
   all_goals (rfl)
theorem zoF {f:Ty→Pat→Pat→List Pat}{c:Int}{ts:List Ty}{xs bs front:List Pat}{i:Nat} (h1:i<ts.length) (h2:i<xs.length) (h3:i<bs.length) (h:(zaT 11 (nth xs i) (nth bs i)).isSome=true):
  zbc f c (ts.drop i) (xs.drop i) (bs.drop i) front=(f (nth ts i) (nth xs i) (nth bs i)).map (fun z=>zb3 c (front++[z]++xs.drop (i+1)))++zbc f c (ts.drop (i+1)) (xs.drop (i+1)) (bs.drop (i+1)) (front++[zdE 11 (nth xs i) (nth bs i)]):=by
 rw[zoC h];exact zj0 h1 h2 h3 h
theorem zcF (c:Int) (L:List Pat):Pat.cc (zb3 c L)=[D.i 4,D.i c,D.i 0,D.i 0,D.i 0,D.sl (L.map Pat.cc)]:=by
 show [D.i 4,D.i c,D.i 0,D.i 0,D.i 0,D.sl (Pat.cs L)]=_
 rw[Pat.cs_cd]
section
variable {w:List Data}
abbrev MinusSp (w:List Data) (n:Nat) (ta tk:Int) (a b:Pat):Prop:=
 FnD Tryz.prog 109 [.d (zak w),.agg [.d (.i ta),.d (.i tk)],.agg [.d (.i (a).op),.d (.i (a).ctor),.d (.i (a).n),.d (.i (a).m),.d (.i (a).var),.d (zad (a).kids)],.agg [.d (.i (b).op),.d (.i (b).ctor),.d (.i (b).n),.d (.i (b).m),.d (.i (b).var),.d (zad (b).kids)]] [] (.d (zad (zas w n ⟨ta,tk⟩ a b))) []
theorem zmM (hs:Spa w){n m:Nat} (hn:n+1≤10) (hm:m+1≤11) (hnm:n<m)
  (ih:∀ {ta tk:Int}{a b:Pat},InS (w.length*4) ⟨ta,tk⟩→zal w m ⟨ta,tk⟩ a=true→zal w n ⟨ta,tk⟩ b=true→MinusSp w n ta tk a b)
  {ta tk:Int}{a b:Pat} (ht:InS (w.length*4) ⟨ta,tk⟩) (ha:zal w (m+1) ⟨ta,tk⟩ a=true) (hb:zal w (n+1) ⟨ta,tk⟩ b=true) (h4:a.op=4) (h4b:b.op=4) (hc:a.ctor=b.ctor):
  FnD Tryz.prog 169 [.d (zak w),.agg [.d (.i ta),.d (.i tk)],.agg [.d (.i (a).op),.d (.i (a).ctor),.d (.i (a).n),.d (.i (a).m),.d (.i (a).var),.d (zad (a).kids)],.agg [.d (.i (b).op),.d (.i (b).ctor),.d (.i (b).n),.d (.i (b).m),.d (.i (b).var),.d (zad (b).kids)]] [] (.d (zad (zas w (n+1) ⟨ta,tk⟩ a b))) []:=by
 obtain⟨c1,c2,c3,-⟩:=zba ha h4
 obtain⟨d1,d2,d3,-⟩:=zba hb h4b
 rw[←hc] at d3
 have h3l:=hs.args ⟨ta,tk⟩ a.ctor ht c1
 have ka:=fun i (hi:i<a.kids.length)=>zbt ha hi
 have kb:=fun i (hi:i<b.kids.length)=>zbt hb hi
 rw[zbI h4] at ka
 rw[zbI h4b,←hc] at kb
 have hbd:=zfk hs (n:=n+1) (m:=m+1) (by omega) hn ht ha hb
 have e:zas w (n+1) ⟨ta,tk⟩ a b=zbc (zas w n) a.ctor (zag w ⟨ta,tk⟩ a.ctor) a.kids b.kids []:=by rw[zee h4b h4];exact if_pos hc
 have hins:=fun i (hi:i<(zag w ⟨ta,tk⟩ a.ctor).length)=>zco hs.dp ht c1 _ (zae hi)
 have hmi:∀i,i<(zag w ⟨ta,tk⟩ a.ctor).length→FnD Tryz.prog 109 [.d (zak w),.agg [.d (.i (nth (zag w ⟨ta,tk⟩ a.ctor) i).data),.d (.i (nth (zag w ⟨ta,tk⟩ a.ctor) i).index)],.agg [.d (.i (nth a.kids i).op),.d (.i (nth a.kids i).ctor),.d (.i (nth a.kids i).n),.d (.i (nth a.kids i).m),.d (.i (nth a.kids i).var),.d (zad (nth a.kids i).kids)],.agg [.d (.i (nth b.kids i).op),.d (.i (nth b.kids i).ctor),.d (.i (nth b.kids i).n),.d (.i (nth b.kids i).m),.d (.i (nth b.kids i).var),.d (zad (nth b.kids i).kids)]] [] (.d (zad (zas w n (nth (zag w ⟨ta,tk⟩ a.ctor) i) (nth a.kids i) (nth b.kids i)))) []:=fun i hi=>ih (ta:=(nth (zag w ⟨ta,tk⟩ a.ctor) i).data) (tk:=(nth (zag w ⟨ta,tk⟩ a.ctor) i).index) (hins i hi) (ka i (by omega)) (kb i (by omega))
 have hme:=fun i (hi:i<(zag w ⟨ta,tk⟩ a.ctor).length)=>zhO hs 11 m (t:=nth (zag w ⟨ta,tk⟩ a.ctor) i) (by omega) (hins i hi) (ka i (by omega)) (zjy (by omega) (kb i (by omega)))
 rw[e] at hbd ⊢
 have hT:∀i out front,i<(zag w ⟨ta,tk⟩ a.ctor).length→out++zbc (zas w n) a.ctor ((zag w ⟨ta,tk⟩ a.ctor).drop i) (a.kids.drop i) (b.kids.drop i) front=zbc (zas w n) a.ctor (zag w ⟨ta,tk⟩ a.ctor) a.kids b.kids []→
   out.length+(zas w n (nth (zag w ⟨ta,tk⟩ a.ctor) i) (nth a.kids i) (nth b.kids i)).length≤20000000:=fun i out front hi h=>by
  rw[zg7 hi (by omega) (by omega)] at h
  have:=congrArg List.length h
  simp only[List.length_append,List.length_map] at this
  omega
 refine bd Tryz.f169 100 [] [] fun w0 F0 own kept hk=>?_
 refine Walk.box (id:=3005) .none rfl rfl rfl rfl rfl rfl rfl ?_
 refine Walk.box (id:=3006) .none rfl rfl rfl rfl rfl rfl rfl ?_
 refine Walk.box (id:=3007) .none rfl rfl rfl rfl rfl rfl rfl ?_
 refine ev ?_
 refine Walk.sliceEmptyG 9 sl28 .none rfl rfl ?_
 refine ev ?_
 refine Walk.call (cr:=[]) zhv (zc4 hs.dp.wt (zcI ht) c1) rfl .none rfl rfl (LeL.refl _) trivial rfl rfl rfl ?_
 refine ev ?_
 refine Walk.sliceEmptyG 8 sl28 .none rfl rfl ?_
 refine ev ?_
 refine CWp.loopX (ι:=Nat×List Pat×List Pat) hk (fun s=>[(12,.d (.i (s.1:Int))),(9,.gl 9 (s.2.1.map Pat.cc)),(11,.gl 8 (s.2.2.map Pat.cc))]) [8,13,14,15,16,17,25,26,27,28,29,30,31,32,33,34,35,36,37,38,39,40,41,42,43,44,45,46,47,48,49,50,51,52,53,54,55,56,57,58,59,60,61,62,63,64,65,66,67,68,69,70,71,72,73,74,75,76,77,78,79,80,81,82,83,84,85,86,87,88,89,90,91,92,93,94,95,96,97,98] (fun s=>[(9,some (.tok ((s.2.1.map Pat.cc)).length 6)),(8,some (.tok ((s.2.2.map Pat.cc)).length 6))]) (fun s=>s.1≤a.kids.length∧s.2.2.length=s.1∧s.2.1++zbc (zas w n) a.ctor ((zag w ⟨ta,tk⟩ a.ctor).drop s.1) (a.kids.drop s.1) (b.kids.drop s.1) s.2.2=zbc (zas w n) a.ctor (zag w ⟨ta,tk⟩ a.ctor) a.kids b.kids []) (fun s=>a.kids.length-s.1) (0,[],[]) ⟨by simp,rfl,rfl⟩ ⟨⟨_,rfl,(LeA.eqi (by first|rfl|(simp;done)|(simp_all;done)|omega))⟩,⟨⟨_,rfl,(LeA.glg (by first|rfl|(simp;done)|(simp_all;done)|omega))⟩,⟨⟨_,rfl,(LeA.glg (by first|rfl|(simp;done)|(simp_all;done)|omega))⟩,trivial⟩⟩⟩ ⟨zab (by first|rfl|(simp;done)|(simp;omega)|(first|rfl|(simp;done)|(simp_all;done)|omega)),⟨zab (by first|rfl|(simp;done)|(simp;omega)|(first|rfl|(simp;done)|(simp_all;done)|omega)),trivial⟩⟩ (fun x=>rfl) (fun s hg1=>?_)
 refine evc [] [] ?_
 refine sq (fun h1 h1p h1s=>?_) fun h1 h1p h1s=>?_
 try simp only[Q,Pat.cs_len] at h1p
 refine Walk.idx zaS .none rfl rfl rfl rfl (zam (by omega)) rfl ?_
 refine evd [] [] ?_
 refine Walk.idx sl28 .none rfl rfl rfl rfl (zaC (by omega)) rfl ?_
 refine evd [] [] ?_
 refine Walk.idx sl28 .none rfl rfl rfl rfl (zaC (by omega)) rfl ?_
 refine evd [] [] ?_
 refine Walk.call (cr:=[]) zn3 (hmi s.1 (by omega)) rfl .none rfl rfl (LeL.refl _) trivial rfl rfl rfl ?_
 refine evd [] [] ?_
 refine dr ?_
 refine CWp.loopX (ι:=List (Pat)×List (Pat)) hk (fun x=>[(14,.d (.i (x.1.length:Int))),(9,.gl 9 ((s.2.1++x.1.map (fun z=>zb3 a.ctor (s.2.2++[z]++a.kids.drop (s.1+1)))).map Pat.cc))]) [15,47,48,49,50,51,52,53,54,55,56,57,58,59,60,61,62,63,64,65,66,67,68,69,70,71,72,73,74,75,76,77] (fun x=>[(9,some (.tok (((s.2.1++x.1.map (fun z=>zb3 a.ctor (s.2.2++[z]++a.kids.drop (s.1+1)))).map Pat.cc)).length 6))]) (fun x=>x.1++x.2=(zas w n (nth (zag w ⟨ta,tk⟩ a.ctor) s.1) (nth a.kids s.1) (nth b.kids s.1))) (fun x=>x.2.length) ([],(zas w n (nth (zag w ⟨ta,tk⟩ a.ctor) s.1) (nth a.kids s.1) (nth b.kids s.1))) (by simp) ⟨⟨_,rfl,(LeA.eqi (by first|rfl|(simp;done)|(simp only[List.map_append,List.append_assoc,List.map_cons,List.map_nil,zcF,Pat.cs_cd a.kids,List.map_drop,List.nil_append,List.cons_append];done)|(simp only[List.map_append,List.append_assoc,List.map_cons,List.map_nil,zcF,Pat.cs_cd a.kids,List.map_drop,List.nil_append,List.cons_append];rfl)|(rw[List.append_nil] at hg2;rw[hg2];done)|omega))⟩,⟨⟨_,rfl,(LeA.glg (by first|rfl|(simp;done)|(simp only[List.map_append,List.append_assoc,List.map_cons,List.map_nil,zcF,Pat.cs_cd a.kids,List.map_drop,List.nil_append,List.cons_append];done)|(simp only[List.map_append,List.append_assoc,List.map_cons,List.map_nil,zcF,Pat.cs_cd a.kids,List.map_drop,List.nil_append,List.cons_append];rfl)|(rw[List.append_nil] at hg2;rw[hg2];done)|omega))⟩,trivial⟩⟩ ⟨zab (by first|rfl|(simp;done)|(simp;omega)|(first|rfl|(simp;done)|(simp only[List.map_append,List.append_assoc,List.map_cons,List.map_nil,zcF,Pat.cs_cd a.kids,List.map_drop,List.nil_append,List.cons_append];done)|(simp only[List.map_append,List.append_assoc,List.map_cons,List.map_nil,zcF,Pat.cs_cd a.kids,List.map_drop,List.nil_append,List.cons_append];rfl)|(rw[List.append_nil] at hg2;rw[hg2];done)|omega)),trivial⟩ (fun x=>rfl) (fun x hg2=>?_)
 obtain⟨pre,rest⟩:=x
 dsimp only at hg2 ⊢
 refine evc [] [] ?_
 refine sq (fun h2 h2p h2s=>?_) fun h2 h2p h2s=>?_
 try simp only[Q,Pat.cs_len] at h2p
 rcases rest with _|⟨y,rest⟩
 ·exfalso;simp_all
 refine Walk.sliceEmptyG 7 sl28 .none rfl rfl ?_
 refine evd [] [] ?_
 refine Walk.append sl28 zz77 rfl .none rfl rfl rfl rfl (zaz rfl (by first|rfl|(simp;done)|(simp;omega))) (by intro x hx;first|(simp at hx;subst hx;rfl)|exact zbF _ x hx|exact zbd _ x hx|exact zbd _ x (List.mem_of_mem_drop hx)) (by first|(have h9:=hT s.1 s.2.1 s.2.2 (by omega) hg1.2.2;have h8:=congrArg List.length hg2;simp[Pat.cs_len] at h8 ⊢;omega)|(simp[Pat.cs_len];omega)) (by first|(have h9:=hT s.1 s.2.1 s.2.2 (by omega) hg1.2.2;have h8:=congrArg List.length hg2;simp[Pat.cs_len] at h8 ⊢;omega)|(simp[Pat.cs_len];omega)) ?_
 refine evd [] [] ?_
 refine Walk.idx sl28 .none rfl rfl rfl rfl (Pat.cs_at' hg2) rfl ?_
 refine evd [] [] ?_
 refine Walk.sliceLit sl28 tz77 rfl (by decide) (ks:=[0]) (xs:=[_]) rfl rfl (by decide) (by decide) .none rfl rfl rfl rfl ?_
 refine Walk.append sl28 zz77 rfl .none rfl rfl rfl rfl (zaz rfl (by first|rfl|(simp;done)|(simp;omega))) (by intro x hx;first|(simp at hx;subst hx;rfl)|exact zbF _ x hx|exact zbd _ x hx|exact zbd _ x (List.mem_of_mem_drop hx)) (by first|(have h9:=hT s.1 s.2.1 s.2.2 (by omega) hg1.2.2;have h8:=congrArg List.length hg2;simp[Pat.cs_len] at h8 ⊢;omega)|(simp[Pat.cs_len];omega)) (by first|(have h9:=hT s.1 s.2.1 s.2.2 (by omega) hg1.2.2;have h8:=congrArg List.length hg2;simp[Pat.cs_len] at h8 ⊢;omega)|(simp[Pat.cs_len];omega)) ?_
 refine Walk.build st77 (ks:=[0,1,5]) (xs:=[_,_,_]) rfl rfl .none rfl rfl rfl ?_
 refine Walk.alloc (id:=3015) tz77 rfl .none rfl rfl rfl rfl ?_
 refine Walk.store ty77 .none rfl rfl rfl rfl rfl rfl (by simp) rfl ?_
 refine dr ?_
 refine ar ?_ (by first|(constructor<;>omega)|(have h9:=hT s.1 s.2.1 s.2.2 (by omega) hg1.2.2;have h8:=congrArg List.length hg2;simp only[List.length_append,List.length_cons] at h8;constructor<;>omega))
 refine Walk.cut_l (b:=s.1+1) sl28 .none rfl rfl rfl (by intro x hx;first|(simp at hx;subst hx;rfl)|exact zbF _ x hx|exact zbd _ x hx|exact zbd _ x (List.mem_of_mem_drop hx)) rfl rfl (by simp only[Pat.cs_len];omega) ?_
 refine Walk.append sl28 zz77 rfl .none rfl rfl rfl rfl (zaz rfl (by first|rfl|(simp;done)|(simp;omega))) (by intro x hx;first|(simp at hx;subst hx;rfl)|exact zbF _ x hx|exact zbd _ x hx|exact zbd _ x (List.mem_of_mem_drop hx)) (by first|(have h9:=hT s.1 s.2.1 s.2.2 (by omega) hg1.2.2;have h8:=congrArg List.length hg2;simp[Pat.cs_len] at h8 ⊢;omega)|(simp[Pat.cs_len];omega)) (by first|(have h9:=hT s.1 s.2.1 s.2.2 (by omega) hg1.2.2;have h8:=congrArg List.length hg2;simp[Pat.cs_len] at h8 ⊢;omega)|(simp[Pat.cs_len];omega)) ?_
 refine evd [] [] ?_
 refine Walk.store ty28 .none rfl rfl rfl rfl rfl rfl (by simp) rfl ?_
 refine dr ?_
 refine Walk.sliceLit sl28 tz77 rfl (by decide) (ks:=[0]) (xs:=[_]) rfl rfl (by decide) (by decide) .none rfl rfl rfl rfl ?_
 refine Walk.append sl28 zz77 rfl .none rfl rfl rfl rfl (zaz rfl (by first|rfl|(simp;done)|(simp;omega))) (by intro x hx;first|(simp at hx;subst hx;rfl)|exact zbF _ x hx|exact zbd _ x hx|exact zbd _ x (List.mem_of_mem_drop hx)) (by first|(have h9:=hT s.1 s.2.1 s.2.2 (by omega) hg1.2.2;have h8:=congrArg List.length hg2;simp[Pat.cs_len] at h8 ⊢;omega)|(simp[Pat.cs_len];omega)) (by first|(have h9:=hT s.1 s.2.1 s.2.2 (by omega) hg1.2.2;have h8:=congrArg List.length hg2;simp[Pat.cs_len] at h8 ⊢;omega)|(simp[Pat.cs_len];omega)) ?_
 refine ev ?_
 refine ar ?_ (by first|(constructor<;>omega)|(have h9:=hT s.1 s.2.1 s.2.2 (by omega) hg1.2.2;have h8:=congrArg List.length hg2;simp only[List.length_append,List.length_cons] at h8;constructor<;>omega))
 refine Exists.intro ((pre++[y],rest)) ⟨(by have hz:=hg2;rw[←hz];simp),(by simp),Sub.x (by kernel_rfl) (by kernel_rfl) ⟨⟨_,rfl,(LeA.eqi (by first|rfl|(simp;done)|(simp only[List.map_append,List.append_assoc,List.map_cons,List.map_nil,zcF,Pat.cs_cd a.kids,List.map_drop,List.nil_append,List.cons_append];done)|(simp only[List.map_append,List.append_assoc,List.map_cons,List.map_nil,zcF,Pat.cs_cd a.kids,List.map_drop,List.nil_append,List.cons_append];rfl)|(rw[List.append_nil] at hg2;rw[hg2];done)|omega))⟩,⟨⟨_,rfl,(LeA.glg (by first|rfl|(simp;done)|(simp only[List.map_append,List.append_assoc,List.map_cons,List.map_nil,zcF,Pat.cs_cd a.kids,List.map_drop,List.nil_append,List.cons_append];done)|(simp only[List.map_append,List.append_assoc,List.map_cons,List.map_nil,zcF,Pat.cs_cd a.kids,List.map_drop,List.nil_append,List.cons_append];rfl)|(rw[List.append_nil] at hg2;rw[hg2];done)|omega))⟩,trivial⟩⟩ (by kernel_rfl) (by kernel_rfl) ⟨zab (by first|rfl|(simp;done)|(simp;omega)|(first|rfl|(simp;done)|(simp only[List.map_append,List.append_assoc,List.map_cons,List.map_nil,zcF,Pat.cs_cd a.kids,List.map_drop,List.nil_append,List.cons_append];done)|(simp only[List.map_append,List.append_assoc,List.map_cons,List.map_nil,zcF,Pat.cs_cd a.kids,List.map_drop,List.nil_append,List.cons_append];rfl)|(rw[List.append_nil] at hg2;rw[hg2];done)|omega)),trivial⟩⟩
 try simp only[Q,Pat.cs_len] at h2p
 have hrest:rest=[]:=by
  rcases rest with _|⟨a,b⟩
  ·rfl
  ·exfalso;have hz:=congrArg List.length (hg2);simp only[List.length_append,List.length_cons,List.length_map] at hz;omega
 subst hrest
 refine Walk.idx sl28 .none rfl rfl rfl rfl (zaC (by omega)) rfl ?_
 refine evd [] [] ?_
 refine Walk.idx sl28 .none rfl rfl rfl rfl (zaC (by omega)) rfl ?_
 refine evd [] [] ?_
 refine Walk.call (cr:=[]) zqI (hme s.1 (by omega)) rfl .none rfl rfl (LeL.refl _) trivial rfl rfl rfl ?_
 refine evd [] [] ?_
 refine Walk.alloc (id:=3016) tz77 rfl .none rfl rfl rfl rfl ?_
 refine Walk.store ty77 .none rfl rfl rfl rfl rfl rfl (by simp) rfl ?_
 refine evd [] [] ?_
 refine dr ?_
 refine sq (fun h3 h3p h3s=>?_) fun h3 h3p h3s=>?_
 try simp only[Q,Pat.cs_len] at h3p
 refine rn0 (r1 rfl) (.gld ?_)
 rotate_left
 try simp only[Q,Pat.cs_len] at h3p
 refine Walk.sliceLit sl28 tz77 rfl (by decide) (ks:=[0]) (xs:=[_]) rfl rfl (by decide) (by decide) .none rfl rfl rfl rfl ?_
 refine Walk.append sl28 zz77 rfl .none rfl rfl rfl rfl (zaz rfl (by first|rfl|(simp;done)|(simp;omega))) (by intro x hx;first|(simp at hx;subst hx;rfl)|exact zbF _ x hx|exact zbd _ x hx|exact zbd _ x (List.mem_of_mem_drop hx)) (by first|(have h9:=hT s.1 s.2.1 s.2.2 (by omega) hg1.2.2;have h8:=congrArg List.length hg2;simp[Pat.cs_len] at h8 ⊢;omega)|(simp[Pat.cs_len];omega)) (by first|(have h9:=hT s.1 s.2.1 s.2.2 (by omega) hg1.2.2;have h8:=congrArg List.length hg2;simp[Pat.cs_len] at h8 ⊢;omega)|(simp[Pat.cs_len];omega)) ?_
 refine ev ?_
 refine ar ?_ (by first|(constructor<;>omega)|(have h9:=hT s.1 s.2.1 s.2.2 (by omega) hg1.2.2;have h8:=congrArg List.length hg2;simp only[List.length_append,List.length_cons] at h8;constructor<;>omega))
 refine Exists.intro ((s.1+1,s.2.1++(zas w n (nth (zag w ⟨ta,tk⟩ a.ctor) s.1) (nth a.kids s.1) (nth b.kids s.1)).map (fun z=>zb3 a.ctor (s.2.2++[z]++a.kids.drop (s.1+1))),s.2.2++[zdE 11 (nth a.kids s.1) (nth b.kids s.1)])) ⟨⟨by dsimp only;omega,by dsimp only;rw[List.length_append,hg1.2.1];rfl,by dsimp only;rw[List.append_assoc,←zoF (by omega) (by omega) (by omega) (by assumption)];exact hg1.2.2⟩,(by dsimp only;omega),Sub.x (by kernel_rfl) (by kernel_rfl) ⟨⟨_,rfl,(LeA.eqi (by first|rfl|(simp;done)|(simp_all;done)|omega))⟩,⟨⟨_,rfl,(LeA.glg (by first|rfl|(simp;done)|(simp_all;done)|omega))⟩,⟨⟨_,rfl,(LeA.glg (by first|rfl|(simp;done)|(simp_all;done)|omega))⟩,trivial⟩⟩⟩ (by kernel_rfl) (by kernel_rfl) ⟨zab (by first|rfl|(simp;done)|(simp;omega)|(first|rfl|(simp;done)|(simp_all;done)|omega)),⟨zab (by first|rfl|(simp;done)|(simp;omega)|(first|rfl|(simp;done)|(simp_all;done)|omega)),trivial⟩⟩⟩
 try simp only[Q,Pat.cs_len] at h1p
 refine rn0 (r1 rfl) (.gld ?_)
 rotate_left
 all_goals (first|rfl|(rw[←hg1.2.2,zlA (by omega),List.append_nil,Pat.cs_cd];done)|(rw[List.append_nil] at hg2;rw[←hg1.2.2,zjZ (by omega) (by omega) (by omega) (by assumption),←hg2,Pat.cs_cd];all_goals rfl))
theorem zoX {n:Nat}{ta tk:Int}{a b:Pat} (h:b.op=1):MinusSp w (n+1) ta tk a b:=by
 unfold MinusSp
 rw[zhG h]
 refine bd Tryz.f109 82 [] [] fun w0 F0 own kept hk=>?_
 refine Walk.box (id:=3005) .none rfl rfl rfl rfl rfl rfl rfl ?_
 refine Walk.box (id:=3006) .none rfl rfl rfl rfl rfl rfl rfl ?_
 refine Walk.box (id:=3007) .none rfl rfl rfl rfl rfl rfl rfl ?_
 refine ev ?_
 refine sq (fun h1 h1p h1s=>?_) fun h1 h1p h1s=>?_
 try simp only[Q] at h1p
 refine Walk.sliceEmpty sl28 .none rfl ?_
 refine ev ?_
 refine rn0 (r1 rfl) (.eqd ?_)
 rotate_left
 try simp only[Q] at h1p
 exfalso;omega
 all_goals (rfl)
theorem zoY {n:Nat}{ta tk:Int}{a b:Pat} (h:b.op=3) (ha:a.op=1∨a.op=3) (hbn:0≤b.n∧b.n≤9) (hbm:0≤b.m∧b.m≤9):MinusSp w (n+1) ta tk a b:=by
 unfold MinusSp
 rw[zjx h]
 by_cases h1:a.op=1
 ·have e:zeo a b=zcd 0 (minQ 9 (b.n-1))++zcd (maxQ 0 (b.m+1)) 9:=by
   have e1:lowQ a=0:=if_pos h1
   have e2:zdb a=9:=if_pos h1
   unfold zeo;rw[e1,e2]
  have hr:=zgS (a:=intQ 0 9) hbn hbm
  rw[e]
  refine bd Tryz.f109 82 [] [] fun w0 F0 own kept hk=>?_
  refine Walk.box (id:=3005) .none rfl rfl rfl rfl rfl rfl rfl ?_
  refine Walk.box (id:=3006) .none rfl rfl rfl rfl rfl rfl rfl ?_
  refine Walk.box (id:=3007) .none rfl rfl rfl rfl rfl rfl rfl ?_
  refine ev ?_
  refine sq (fun h1 h1p h1s=>?_) fun h1 h1p h1s=>?_
  try simp only[Q] at h1p
  exfalso;omega
  try simp only[Q] at h1p
  refine sq (fun h2 h2p h2s=>?_) fun h2 h2p h2s=>?_
  try simp only[Q] at h2p
  refine sq (fun h3 h3p h3s=>?_) fun h3 h3p h3s=>?_
  try simp only[Q] at h3p
  refine Walk.build st77 (ks:=[0,3]) (xs:=[_,_]) rfl rfl .none rfl rfl rfl ?_
  refine ev ?_
  refine Walk.call (cr:=[]) zqz (hr) rfl .none rfl rfl (.cons (.agg (.cons (.refl _) (.cons (.refl _) (.cons (.refl _) (.cons (.refl _) (.cons (.refl _) (.cons .nil .nil))))))) (.cons (.refl _) .nil)) trivial rfl rfl rfl ?_
  refine ev ?_
  focus (refine rn0 (r1 rfl) (.eqd ?_);all_goals (first|rfl|(simp[h1s,h1p,h2s,h2p,h3s,h3p];done)|(simp_all;done)|(simp_all;omega)|omega))
  try simp only[Q] at h3p
  exfalso;first|omega|(simp_all;done)
  try simp only[Q] at h2p
  exfalso;omega
 ·have e:zeo a b=zcd a.n (minQ a.m (b.n-1))++zcd (maxQ a.n (b.m+1)) a.m:=by
   have e1:lowQ a=a.n:=if_neg h1
   have e2:zdb a=a.m:=if_neg h1
   unfold zeo;rw[e1,e2]
  have hr:=zgS (a:=a) hbn hbm
  rw[e]
  refine bd Tryz.f109 82 [] [] fun w0 F0 own kept hk=>?_
  refine Walk.box (id:=3005) .none rfl rfl rfl rfl rfl rfl rfl ?_
  refine Walk.box (id:=3006) .none rfl rfl rfl rfl rfl rfl rfl ?_
  refine Walk.box (id:=3007) .none rfl rfl rfl rfl rfl rfl rfl ?_
  refine ev ?_
  refine sq (fun h1 h1p h1s=>?_) fun h1 h1p h1s=>?_
  try simp only[Q] at h1p
  exfalso;omega
  try simp only[Q] at h1p
  refine sq (fun h2 h2p h2s=>?_) fun h2 h2p h2s=>?_
  try simp only[Q] at h2p
  refine sq (fun h3 h3p h3s=>?_) fun h3 h3p h3s=>?_
  try simp only[Q] at h3p
  exfalso;first|omega|(simp_all;done)
  try simp only[Q] at h3p
  refine sq (fun h4 h4p h4s=>?_) fun h4 h4p h4s=>?_
  try simp only[Q] at h4p
  refine Walk.call (cr:=[]) zqz (hr) rfl .none rfl rfl (LeL.refl _) trivial rfl rfl rfl ?_
  refine ev ?_
  focus (refine rn0 (r1 rfl) (.eqd ?_);all_goals (first|rfl|(simp[h1s,h1p,h2s,h2p,h3s,h3p,h4s,h4p];done)|(simp_all;done)|(simp_all;omega)|omega))
  try simp only[Q] at h4p
  exfalso;omega
  try simp only[Q] at h2p
  exfalso;omega
theorem zo1 {n:Nat}{ta tk:Int}{a b:Pat} (h4:a.op=4) (h4b:b.op=4) (hc:¬a.ctor=b.ctor):MinusSp w (n+1) ta tk a b:=by
 unfold MinusSp
 have e:zas w (n+1) ⟨ta,tk⟩ a b=[a]:=by rw[zee h4b h4];exact if_neg hc
 rw[e]
 refine bd Tryz.f109 82 [] [] fun w0 F0 own kept hk=>?_
 refine Walk.box (id:=3005) .none rfl rfl rfl rfl rfl rfl rfl ?_
 refine Walk.box (id:=3006) .none rfl rfl rfl rfl rfl rfl rfl ?_
 refine Walk.box (id:=3007) .none rfl rfl rfl rfl rfl rfl rfl ?_
 refine ev ?_
 refine sq (fun h1 h1p h1s=>?_) fun h1 h1p h1s=>?_
 try simp only[Q] at h1p
 exfalso;omega
 try simp only[Q] at h1p
 refine sq (fun h2 h2p h2s=>?_) fun h2 h2p h2s=>?_
 try simp only[Q] at h2p
 exfalso;omega
 try simp only[Q] at h2p
 refine sqF ?_
 refine sq (fun h4 h4p h4s=>?_) fun h4 h4p h4s=>?_
 try simp only[Q] at h4p
 exfalso;omega
 try simp only[Q] at h4p
 refine sq (fun h5 h5p h5s=>?_) fun h5 h5p h5s=>?_
 try simp only[Q] at h5p
 refine sq (fun h6 h6p h6s=>?_) fun h6 h6p h6s=>?_
 try simp only[Q] at h6p
 refine Walk.sliceLit sl28 tz77 rfl (by decide) (ks:=[0]) (xs:=[_]) rfl rfl (by decide) (by decide) .none rfl rfl rfl rfl ?_
 refine ev ?_
 refine rn0 (r1 rfl) (.eqd ?_)
 rotate_left
 try simp only[Q] at h6p
 exfalso;first|omega|(simp_all;done)
 try simp only[Q] at h5p
 exfalso;omega
 all_goals (first|rfl|(cases a;rfl))
theorem zo0 (hs:Spa w){n m:Nat} (hn:n+1≤10) (hm:m+1≤11) (hnm:n<m)
  (ih:∀ {ta tk:Int}{a b:Pat},InS (w.length*4) ⟨ta,tk⟩→zal w m ⟨ta,tk⟩ a=true→zal w n ⟨ta,tk⟩ b=true→MinusSp w n ta tk a b)
  {ta tk:Int}{a b:Pat} (ht:InS (w.length*4) ⟨ta,tk⟩) (ha:zal w (m+1) ⟨ta,tk⟩ a=true) (hb:zal w (n+1) ⟨ta,tk⟩ b=true) (h4:a.op=4) (h4b:b.op=4) (hc:a.ctor=b.ctor):MinusSp w (n+1) ta tk a b:=by
 have hki:=zmM hs hn hm hnm ih ht ha hb h4 h4b hc
 clear ih
 unfold MinusSp
 refine bd Tryz.f109 82 [] [] fun w0 F0 own kept hk=>?_
 refine Walk.box (id:=3005) .none rfl rfl rfl rfl rfl rfl rfl ?_
 refine Walk.box (id:=3006) .none rfl rfl rfl rfl rfl rfl rfl ?_
 refine Walk.box (id:=3007) .none rfl rfl rfl rfl rfl rfl rfl ?_
 refine ev ?_
 refine sq (fun h1 h1p h1s=>?_) fun h1 h1p h1s=>?_
 try simp only[Q] at h1p
 exfalso;omega
 try simp only[Q] at h1p
 refine sq (fun h2 h2p h2s=>?_) fun h2 h2p h2s=>?_
 try simp only[Q] at h2p
 exfalso;omega
 try simp only[Q] at h2p
 refine sqF ?_
 refine sq (fun h4 h4p h4s=>?_) fun h4 h4p h4s=>?_
 try simp only[Q] at h4p
 exfalso;omega
 try simp only[Q] at h4p
 refine sq (fun h5 h5p h5s=>?_) fun h5 h5p h5s=>?_
 try simp only[Q] at h5p
 refine sq (fun h6 h6p h6s=>?_) fun h6 h6p h6s=>?_
 try simp only[Q] at h6p
 exfalso;first|omega|(simp_all;done)
 try simp only[Q] at h6p
 refine sq (fun h7 h7p h7s=>?_) fun h7 h7p h7s=>?_
 try simp only[Q] at h7p
 refine Walk.call (cr:=[]) ztm (hki) rfl .none rfl rfl (LeL.refl _) trivial rfl rfl rfl ?_
 refine ev ?_
 focus (refine rn0 (r1 rfl) (.eqd ?_);all_goals (first|rfl|(simp[h1s,h1p,h2s,h2p,h4s,h4p,h5s,h5p,h6s,h6p,h7s,h7p];done)|(simp_all;done)|(simp_all;omega)|omega))
 try simp only[Q] at h7p
 exfalso;omega
 try simp only[Q] at h5p
 exfalso;omega
theorem zoZ (hs:Spa w){n:Nat}{ta tk:Int}{a b:Pat} (ht:InS (w.length*4) ⟨ta,tk⟩) (h1:a.op=1) (h4b:b.op=4) (hbd:(zas w (n+1) ⟨ta,tk⟩ a b).length≤20000000)
  (hC:∀c∈zat w ⟨ta,tk⟩,MinusSp w (n+1) ta tk (zcf w ⟨ta,tk⟩ c) b):MinusSp w (n+1) ta tk a b:=by
 have e:zas w (n+1) ⟨ta,tk⟩ a b=(zat w ⟨ta,tk⟩).flatMap fun c=>zas w (n+1) ⟨ta,tk⟩ (zcf w ⟨ta,tk⟩ c) b:=by
  rw[zhH h4b h1]
  exact congrArg (fun g=>(zat w ⟨ta,tk⟩).flatMap g) (funext fun c=>(zee h4b rfl).symm)
 unfold MinusSp
 rw[e] at hbd ⊢
 have hcl:=(hs.ctors _ ht).1
 have hpre:∀ {pre rest:List Int}{y:Int},pre++y::rest=zat w ⟨ta,tk⟩→(pre.flatMap fun c=>zas w (n+1) ⟨ta,tk⟩ (zcf w ⟨ta,tk⟩ c) b).length+(zas w (n+1) ⟨ta,tk⟩ (zcf w ⟨ta,tk⟩ y) b).length≤20000000:=fun h=>by
  rw[←h,List.flatMap_append,List.flatMap_cons] at hbd
  simp only[List.length_append] at hbd
  omega
 have hmem:∀ {pre rest:List Int}{y:Int},pre++y::rest=zat w ⟨ta,tk⟩→y∈zat w ⟨ta,tk⟩:=fun h=>by rw[←h];simp
 refine bd Tryz.f109 82 [] [] fun w0 F0 own kept hk=>?_
 refine Walk.box (id:=3005) .none rfl rfl rfl rfl rfl rfl rfl ?_
 refine Walk.box (id:=3006) .none rfl rfl rfl rfl rfl rfl rfl ?_
 refine Walk.box (id:=3007) .none rfl rfl rfl rfl rfl rfl rfl ?_
 refine ev ?_
 refine sq (fun h1 h1p h1s=>?_) fun h1 h1p h1s=>?_
 try simp only[Q,Pat.cs_len] at h1p
 exfalso;omega
 try simp only[Q,Pat.cs_len] at h1p
 refine sq (fun h2 h2p h2s=>?_) fun h2 h2p h2s=>?_
 try simp only[Q,Pat.cs_len] at h2p
 exfalso;omega
 try simp only[Q,Pat.cs_len] at h2p
 refine sqF ?_
 refine sq (fun h4 h4p h4s=>?_) fun h4 h4p h4s=>?_
 try simp only[Q,Pat.cs_len] at h4p
 exfalso;omega
 try simp only[Q,Pat.cs_len] at h4p
 refine sq (fun h5 h5p h5s=>?_) fun h5 h5p h5s=>?_
 try simp only[Q,Pat.cs_len] at h5p
 exfalso;omega
 try simp only[Q,Pat.cs_len] at h5p
 refine sqF ?_
 refine sq (fun h7 h7p h7s=>?_) fun h7 h7p h7s=>?_
 try simp only[Q,Pat.cs_len] at h7p
 exfalso;omega
 try simp only[Q,Pat.cs_len] at h7p
 refine Walk.sliceEmptyG 9 sl28 .none rfl rfl ?_
 refine ev ?_
 refine Walk.call (cr:=[]) zfE (zce hs.dp.wt (zcI ht)) rfl .none rfl rfl (LeL.refl _) trivial rfl rfl rfl ?_
 refine ev ?_
 refine CWp.loopX (ι:=List (Int)×List (Int)) hk (fun x=>[(11,.d (.i (x.1.length:Int))),(9,.gl 9 (Pat.cs (x.1.flatMap fun c=>zas w (n+1) ⟨ta,tk⟩ (zcf w ⟨ta,tk⟩ c) b)))]) [62,63,64,65,66,67,68,69,70,71,72,73,74,75,76,77,78,79,80] (fun x=>[(9,some (.tok ((Pat.cs (x.1.flatMap fun c=>zas w (n+1) ⟨ta,tk⟩ (zcf w ⟨ta,tk⟩ c) b))).length 6))]) (fun x=>x.1++x.2=zat w ⟨ta,tk⟩) (fun x=>x.2.length) ([],zat w ⟨ta,tk⟩) (by simp) ⟨⟨_,rfl,(LeA.eqi (by first|rfl|(rw[List.flatMap_append,Pat.cs_cd,Pat.cs_cd,Pat.cs_cd,List.map_append];simp;done)|(simp[Pat.cs_len];done)|omega))⟩,⟨⟨_,rfl,(LeA.glg (by first|rfl|(rw[List.flatMap_append,Pat.cs_cd,Pat.cs_cd,Pat.cs_cd,List.map_append];simp;done)|(simp[Pat.cs_len];done)|omega))⟩,trivial⟩⟩ ⟨zab (by first|rfl|(simp;done)|(simp;omega)|(first|rfl|(rw[List.flatMap_append,Pat.cs_cd,Pat.cs_cd,Pat.cs_cd,List.map_append];simp;done)|(simp[Pat.cs_len];done)|omega)),trivial⟩ (fun x=>rfl) (fun x hg1=>?_)
 obtain⟨pre,rest⟩:=x
 dsimp only at hg1 ⊢
 refine evc [] [] ?_
 refine sq (fun h8 h8p h8s=>?_) fun h8 h8p h8s=>?_
 try simp only[Q,Pat.cs_len] at h8p
 rcases rest with _|⟨y,rest⟩
 ·exfalso;simp_all
 refine Walk.idx zbS .none rfl rfl rfl rfl (zaG hg1) rfl ?_
 refine evd [] [] ?_
 refine Walk.call (cr:=[]) ztn (znO hs.dp.wt (zcI ht) (hmem hg1) (hs.args _ _ ht (hmem hg1))) rfl .none rfl rfl (LeL.refl _) trivial rfl rfl rfl ?_
 refine evd [] [] ?_
 refine Walk.call (cr:=[]) zn3 (hC y (hmem hg1)) rfl .none rfl rfl (LeL.refl _) trivial rfl rfl rfl ?_
 refine Walk.append sl28 zz77 rfl .none rfl rfl rfl rfl (zaz rfl (by first|rfl|(simp;done)|(simp;omega))) (by exact zbd _) (by have h9:=hpre hg1;simp only[Pat.cs_len];omega) (by have h9:=hpre hg1;simp only[Pat.cs_len];omega) ?_
 refine evd [] [] ?_
 refine dr ?_
 refine ar ?_
 refine Exists.intro ((pre++[y],rest)) ⟨(by have hz:=hg1;rw[←hz];simp),(by simp),Sub.x (by kernel_rfl) (by kernel_rfl) ⟨⟨_,rfl,(LeA.eqi (by first|rfl|(rw[List.flatMap_append,Pat.cs_cd,Pat.cs_cd,Pat.cs_cd,List.map_append];simp;done)|(simp[Pat.cs_len];done)|omega))⟩,⟨⟨_,rfl,(LeA.glg (by first|rfl|(rw[List.flatMap_append,Pat.cs_cd,Pat.cs_cd,Pat.cs_cd,List.map_append];simp;done)|(simp[Pat.cs_len];done)|omega))⟩,trivial⟩⟩ (by kernel_rfl) (by kernel_rfl) ⟨zab (by first|rfl|(simp;done)|(simp;omega)|(first|rfl|(rw[List.flatMap_append,Pat.cs_cd,Pat.cs_cd,Pat.cs_cd,List.map_append];simp;done)|(simp[Pat.cs_len];done)|omega)),trivial⟩⟩
 try simp only[Q,Pat.cs_len] at h8p
 have hrest:rest=[]:=by
  rcases rest with _|⟨a,b⟩
  ·rfl
  ·exfalso;have hz:=congrArg List.length (hg1);simp only[List.length_append,List.length_cons,List.length_map] at hz;omega
 subst hrest
 refine rn0 (r1 rfl) (.gld ?_)
 rotate_left
 all_goals (first|rfl|(rw[List.append_nil] at hg1;rw[hg1];done))
theorem zhc (hs:Spa w):∀(n m:Nat){ta tk:Int}{a b:Pat},n<m→n≤10→m≤11→InS (w.length*4) ⟨ta,tk⟩→zal w m ⟨ta,tk⟩ a=true→zal w n ⟨ta,tk⟩ b=true→MinusSp w n ta tk a b
 |0,m,ta,tk,a,b,_,_,_,_,_,hb=>by simp[zal] at hb
 |n+1,0,ta,tk,a,b,h,_,_,_,_,_=>by omega
 |n+1,m+1,ta,tk,a,b,h,hn,hm,ht,ha,hb=>by
  have hC:∀ {a:Pat},zal w (m+1) ⟨ta,tk⟩ a=true→a.op=4→b.op=4→MinusSp w (n+1) ta tk a b:=fun {a} ha h4 h4b=>by
   by_cases hc:a.ctor=b.ctor
   ·exact zo0 hs hn hm (by omega) (fun h1 h2 h3=>zhc hs n m (by omega) (by omega) (by omega) h1 h2 h3) ht ha hb h4 h4b hc
   ·exact zo1 h4 h4b hc
  rcases zcc hb with h1|h3|h4b
  ·exact zoX h1
  ·have:=zct hb h3
   refine zoY h3 ?_ ⟨by omega,by omega⟩ ⟨by omega,by omega⟩
   by_cases h1:a.op=1
   ·exact .inl h1
   ·exact .inr (by have:=zdQ ha hb h1 (by omega);omega)
  ·by_cases h1:a.op=1
   ·obtain⟨m',rfl⟩:∃m',m=m'+1:=⟨m-1,by omega⟩
    exact zoZ hs ht h1 h4b (zfk hs h hn ht ha hb) (fun c hc=>hC (zdR hc) rfl h4b)
   ·exact hC ha (by have:=zdQ ha hb h1 (by omega);omega) h4b
end
section
variable {c:Ctx}{all:Array Oper}{chk:List Rec→Prop}{os:List Oper}{recs:List Rec}{env:Env}{hp:Hp}{Q:St→Prop}
variable {d ty:Nat}{pos:String}{af:Array Edge}{g:Option (Nat×Bool)}{pg:List (Nat×AV)}{t yt:TypeId}{x y:Operand}
theorem Walk.appendM {id k e yb:Nat}{xs ys:List (List D)}{vy:AV}{ids:List Nat} (hkp:KeptIn c.kept ids) (hid:zaZ id ids=false) (hne:xs++ys≠[]) (ht:SlT c.P t e k yb) (hz:ZeroT c.P e k) (hg:GH all env g pg) (hd:Nat.blt d c.n=true)
  (hx:opd env x=some (.gv id xs)) (hy:opd env y=some vy) (hyd:vy.toD=some (.sl ys)) (htok:getH hp id=some (.tok xs.length k)) (hky:∀y,y∈ys→y.length=k)
  (hb:(xs.length+ys.length)*yb≤140737488355328) (hm:xs.length+ys.length≤9223372036854775807)
  (hn:Walk c all chk os (zan (pg++(opF x (.gv id xs)++opF y vy)) [(id,.tok xs.length k)] [] ⟨some (d,.ms id (xs++ys).length),[(id,some (.box ((xs++ys).flatten.map .d)))]⟩::recs)
   ⟨(d,.ms id (xs++ys).length)::env,(id,some (.box ((xs++ys).flatten.map .d)))::hp⟩ Q):
  Walk c all chk (⟨some d,.call ⟨.builtin .append,#[x,y],#[t,t]⟩,ty,pos,af,g⟩::os) recs ⟨env,hp⟩ Q:=by
 refine⟨pg++(opF x (.gv id xs)++opF y vy),[(id,.tok xs.length k)],[],_, ?_,zau hg.facts (zau (za8 hx) (za8 hy)),hh1 htok,by simp,hn⟩
 intro s a w hrel hp' hh _ K Q' hK
 obtain⟨G,hr⟩:=hrel
 have e1:=hr.opd (za9 hx (fun p hm=>hp' p (by simp[hm])))
 have e2:=hr.opd (za9 hy (fun p hm=>hp' p (by simp[hm])))
 obtain⟨i,z,z1,z2,z3⟩:=hz.out
 obtain⟨v',w',G',hrun,hR,hA⟩:=ziC hr ht ⟨i,z1,z2,z3⟩ (hh1' hh) e1 (e2.toD hyd) hky hb hm ty
 unfold wpO
 rw[if_pos (hg.gf.wanted hr (fun p hm=>hp' p (by simp[hm])))]
 unfold Oper.wp
 have:(execOp a.eval ⟨some d,.call ⟨.builtin .append,#[x,y],#[t,t]⟩,ty,pos,af,g⟩).run c.P w = .ok (.value v') w':=by
  simp only[execOp,resolve,invoke,builtin,Sem.run_bind,Sem.run_pure,Result.andThen_ok,List.map_toArray,List.map_cons,List.map_nil,hrun]
 rw[this,Oper.upon_value]
 have hV:Rel c ⟨(d,.gv id (xs++ys))::s.env,(id,some (.tok (xs.length+ys.length) k))::s.hp⟩ (a.put (some d) v') w':=⟨G',hR.put hA hd⟩
 rcases Rel.fixV hkp d id k (xs:=xs++ys) (by simp[getE]) (by rw[zah,if_pos rfl,List.length_append]) hid hV with ⟨h,_⟩|⟨_,h⟩
 ·exact absurd h hne
 ·refine hK _ _ (h.congr (fun j=>?_) (fun j=>?_))
  ·show getE ((d,_)::s.env) j=getE ((d,_)::(d,_)::s.env) j
   simp only[getE]
   cases Nat.beq d j<;>rfl
  ·show getH ((id,_)::s.hp) j=getH ((id,_)::(id,_)::s.hp) j
   rw[zah,zah,zah]
   by_cases hj:j=id
   ·rw[if_pos hj,if_pos hj]
   ·rw[if_neg hj,if_neg hj,if_neg hj]
end
theorem FnD.boxD {P:Program}{f:FuncId}{i n k:Nat}{args:List AV}{cs:List AV}{es:List (List D)} (hc:zci n k (cs.take (n*k))=some es) (h:FnD P f args [] (.ms i n) [(i,some (.box cs))]):FnD P f args [] (.d (.sl es)) []:=by
 intro G w vals hok
 refine(h G w vals hok).mono ?_
 rintro e w' ⟨v,r',hp',G',rfl,⟨rfl,rfl⟩,hret⟩
 have gi:getH ([(i,some (Res.box cs))]++[]) i=some (.box cs):=by simp[getH]
 obtain⟨b,us,et,q1,q2,q3,q4,q5⟩:=hret.heap i _ gi
 have hown:∀b,b∉zb7 G []:=fun b hb=>by simp[zb7] at hb
 have hnew:w.heap.size≤b:=(hret.new i (by rw[gi];rfl) b (by rw[q1];simp)).resolve_left (hown b)
 have hlt:b<w'.heap.size:=by
  rcases Nat.lt_or_ge b w'.heap.size with h|h
  ·exact h
  ·rw[Array.getElem?_eq_none h] at q2;cases q2
 let G2:Gh:={ G' with F:=fun x=>bif Nat.beq x b then us.size else G'.F x }
 have hin:G2.F b=us.size:=by simp[G2]
 have hout:∀x,x≠b→G2.F x=G'.F x:=fun x hx=>by
  have:Nat.beq x b=false:=by
   cases h:Nat.beq x b with
   |true=>exact absurd (Nat.eq_of_beq_eq_true h) hx
   |false=>rfl
  simp[G2,this]
 have hle:∀x o,o<G'.F x→o<G2.F x:=fun x o ho=>by
  by_cases hx:x=b
  ·subst hx;rw[q4] at ho;omega
  ·rw[hout x hx];exact ho
 refine⟨v,_,_,G2,rfl,⟨rfl,rfl⟩,zsK hret.res q1 q2 q3 q5 hin (fun y o ho=>⟨hle y o ho,rfl⟩) hc,fun id x hx=>(by cases hx),fun id id' h1=>(by cases h1),fun id h1=>(by cases h1), ?_,fun x hx=>?_,fun id hi=>(by simp[zbQ,getH] at hi)⟩
 ·have hf:=hret.frm
  exact⟨hf.os,hf.tape,hf.output,hf.size,fun x hx hn=>⟨(hf.block x hx hn).1,by rw[hout x (by omega)];exact(hf.block x hx hn).2⟩,fun x o ho=>⟨hle x o (hf.cell x o ho).1,(hf.cell x o ho).2⟩⟩
 ·rw[hout x (by omega)];exact hret.top x hx
def pd (s:List Pat):List AV:=(s.map Pat.cc).flatten.map .d
theorem zeJ (a b:List Pat):pd (a++b)=pd a++pd b:=by simp[pd]
theorem zlL (x:Pat):pd [x]=[.d (.i x.op),.d (.i x.ctor),.d (.i x.n),.d (.i x.m),.d (.i x.var),.d (zad x.kids)]:=rfl
theorem zhJ (s:List Pat):(pd s).length=s.length*6:=by
 induction s with
 |nil=>rfl
 |cons x r ih=>rw[show x::r=[x]++r from rfl,zeJ,List.length_append,ih,zlL];simp;omega
theorem zoK {s:List Pat}{i:Nat} (h:i<s.length):pd s=pd (s.take i)++(pd [nth s i]++pd (s.drop (i+1))):=by
 rw[←zeJ,←zeJ]
 congr 1
 rw[show [nth s i]++s.drop (i+1)=nth s i::s.drop (i+1) from rfl,←zaP h,List.take_append_drop]
theorem zhI (s:List Pat):AV.idsL (pd s)=[]:=by
 unfold pd
 induction (s.map Pat.cc).flatten with
 |nil=>rfl
 |cons x r ih=>rw[List.map_cons,AV.idsL,ih];rfl
theorem zrf {s:List Pat}{i:Nat} (h:i<s.length):cutC (pd s) (i*6) 6=some [.d (.i (nth s i).op),.d (.i (nth s i).ctor),.d (.i (nth s i).n),.d (.i (nth s i).m),.d (.i (nth s i).var),.d (zad (nth s i).kids)]:=by
 rw[zoK h,zqV (by rw[zhJ,List.length_take];omega) (r:=pd [nth s i])]
 ·rfl
 ·rw[zlL];first|exact zsF|(simp[cutC];done)
theorem ztW {s:List Pat}{i:Nat} (h:i<s.length){t:Pat}:putC (pd s) (i*6) [.d (.i t.op),.d (.i t.ctor),.d (.i t.n),.d (.i t.m),.d (.i t.var),.d (zad t.kids)]=some (pd (s.set i t)):=by
 rw[zoK h,znk (by rw[zhJ,List.length_take];omega) (B':=pd [t]++pd (s.drop (i+1))) (by rw[zlL,zlL];simp[putC])]
 rw[List.set_eq_take_append_cons_drop,if_pos h,←zeJ,←zeJ]
 rfl
abbrev z6:List AV:=[.d (.i 0),.d (.i 0),.d (.i 0),.d (.i 0),.d (.i 0),.nils]
theorem zsR {s:List Pat}{i n:Nat} (hn:s.length=n) (h:i≤n):putC (pd s) (i*6) (zaE (n-i) z6)=some (pd (s.take i)++zaE (n-i) z6):=by
 subst hn
 have e:pd s=pd (s.take i)++(pd (s.drop i)++[]):=by
  rw[List.append_nil,←zeJ,List.take_append_drop]
 have e2:putC (pd (s.take i)++(pd (s.drop i)++[])) (i*6) (zaE (s.length-i) z6)=some (pd (s.take i)++(zaE (s.length-i) z6++[])):=by
  rw[zoO (by rw[zhJ,List.length_take];omega) ?_]
  rw[zhJ,List.length_drop,zei];rfl
 rw[←e,List.append_nil] at e2
 exact e2
theorem zrO {s:List Pat}{tl:List AV}:zci s.length 6 ((pd s++tl).take (s.length*6))=some (s.map Pat.cc):=by
 rw[List.take_append_of_le_length (by rw[zhJ];exact Nat.le_refl _),List.take_of_length_le (by rw[zhJ];exact Nat.le_refl _)]
 have:=zen (f:=Pat.cc) (k:=6) (l:=s) (fun _ _=>rfl)
 rw[←this]
 congr 1
 unfold pd
 induction s with
 |nil=>rfl
 |cons x r ih=>
  simp only[List.map_cons,List.flatten_cons,List.map_append,List.flatMap_cons]
  exact congrArg (_++·) (ih (zen (fun _ _=>rfl)))
theorem Pat.cs_ccs (l:List Pat):Pat.cs l=l.map Pat.cc:=by
 rw[Pat.cs_eq];exact List.map_congr_left (fun v _=>Pat.c_eq v)
theorem Ex.cs_ccs (l:List Ex):Ex.cs l=l.map Ex.cc:=by
 rw[Ex.cs_eq];exact List.map_congr_left (fun v _=>Ex.c_eq v)
theorem zej {xs:List Pat}{f:Nat}{caps:List AV}{hp:Hp}{p:Pat→Bool} (hs:xs.length≤1000000000000) (hcal:Callee Tryz.prog f)
  (hf:∀t∈xs,FnD Tryz.prog f ([.agg [.d (.i t.op),.d (.i t.ctor),.d (.i t.n),.d (.i t.m),.d (.i t.var),.d (zad t.kids)]]++caps) hp (.d (.bool (p t))) []) (k1:subH hp hp) (k2:zdF hp=true) (k3:zbg hp [] (.d .nilp) []=true):
  FnD Tryz.prog 135 [.d (zad xs),.fn f caps] hp (.d (.i (idxF p xs 0))) []:=by
 rw[show zad xs=D.sl (xs.map Pat.cc) by show D.sl (Pat.cs xs)=_;rw[Pat.cs_ccs]]
 refine bd Tryz.f135 19 [] [] fun w0 F0 own kept hk=>?_
 refine CWp.loopX (ι:=List (Pat)×List (Pat)) hk (fun x=>[(8,.d (.i (x.1.length:Int)))]) [4,5,9,10,11,12,13,14,15,16,17,18] (fun x=>[]) (fun x=>x.1++x.2=xs∧idxF p x.2 x.1.length=idxF p xs 0) (fun x=>x.2.length) ([],xs) ⟨by simp,rfl⟩ ⟨⟨_,rfl,(LeA.eqi (by first|rfl|(simp;done)|(simp_all;done)|omega))⟩,trivial⟩ trivial (fun x=>zeO hp) (fun x hg1=>?_)
 obtain⟨pre,rest⟩:=x
 dsimp only at hg1 ⊢
 refine evc [] [] ?_
 refine sq (fun h1 h1p h1s=>?_) fun h1 h1p h1s=>?_
 try simp only[Q] at h1p
 rcases rest with _|⟨y,rest⟩
 ·exfalso;simp_all
 refine Walk.idx sl28 .none rfl rfl rfl rfl (zaG hg1.1) rfl ?_
 refine ev ?_
 refine Walk.callV (cr:=[]) hcal (hf y (by rw[←hg1.1];simp)) rfl .none rfl rfl rfl (LeL.refl _) k1 k2 (zcr k3 _) rfl ?_
 refine tv ?_
 refine sq (fun h2 h2p h2s=>?_) fun h2 h2p h2s=>?_
 try simp only[Q] at h2p
 focus (refine rn [] (r1 rfl) (.eqd ?_) ⟨rfl,rfl⟩ (fun _ _ h=>h) (fun _ h=>h);all_goals (rw[←hg1.2];simp[idxF,h1s,h1p,h2s,h2p]))
 try simp only[Q] at h2p
 refine ar ?_
 refine Exists.intro ((pre++[y],rest)) ⟨⟨(by have hz:=hg1.1;rw[←hz];simp),(by rw[←hg1.2];simp[idxF,h2s])⟩,(by simp),Sub.x (by kernel_rfl) (by kernel_rfl) ⟨⟨_,rfl,(LeA.eqi (by first|rfl|(simp;done)|(simp_all;done)|omega))⟩,trivial⟩ (by simp) (by simp[zds]) trivial⟩
 try simp only[Q] at h1p
 have hrest:rest=[]:=by
  rcases rest with _|⟨a,b⟩
  ·rfl
  ·exfalso;have hz:=congrArg List.length (hg1.1);simp only[List.length_append,List.length_cons,List.length_map] at hz;omega
 subst hrest
 focus (refine rn [] (r1 rfl) (.eqd ?_) ⟨rfl,rfl⟩ (fun _ _ h=>h) (fun _ h=>h);all_goals (rw[←hg1.2];simp[idxF,h1s,h1p]))
theorem zfT {xs:List Pat}{f:Nat}{caps:List AV}{hp:Hp}{p:Pat→Bool} (hs:xs.length≤1000000000000) (hcal:Callee Tryz.prog f)
  (hf:∀t∈xs,FnD Tryz.prog f ([.agg [.d (.i t.op),.d (.i t.ctor),.d (.i t.n),.d (.i t.m),.d (.i t.var),.d (zad t.kids)]]++caps) hp (.d (.bool (p t))) []) (k1:subH hp hp) (k2:zdF hp=true) (k3:zbg hp [] (.d .nilp) []=true):
  FnD Tryz.prog 73 [.d (zad xs),.fn f caps] hp (.d (.bool (xs.any p))) []:=by
 refine bd Tryz.f73 9 [] [] fun w0 F0 own kept hk=>?_
 refine Walk.call (cr:=[]) zkL (zej hs hcal hf k1 k2 k3) rfl .none rfl rfl (LeL.refl _) k1 k2 (zcr k3 _) rfl ?_
 refine ev ?_
 refine rn [] (r1 rfl) (.eqd ?_) ⟨rfl,rfl⟩ (fun _ _ h=>h) (fun _ h=>h)
 rotate_left
 all_goals (exact congrArg D.bool (zd1 p xs 0))
end Go.Proofs.YtfiihhedihkdoaaGreat
