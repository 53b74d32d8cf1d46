/-
  THE ABSTRACT WALK AND THE WALKS, part 3 of 6.
-/
import Derived.Test.YtmchfdpleibpdaaGreatE592
namespace Go.Proofs.YtmchfdpleibpdaaGreat
open Go
set_option linter.unusedSimpArgs false
set_option linter.unusedVariables false
set_option maxRecDepth 100000
set_option maxHeartbeats 2000000
def decV (n:Int):Str:=strN [IntKind.u8.wrap (48+n)]
theorem zc0 (n:Int):(decV n).length=1:=rfl
def zkz (n:Int):Str:=if n=0 then [] else if n = -1 then [42] else decV n
theorem zns (n:Int):(zkz n).length<=1:=by unfold zkz;split;simp;split;simp;rw[zc0];omega
def zej (w:List Data) (t:Ty):Str:=if t.data = -1 then [73] else (nth w t.data.toNat).name++zkz t.index
def zdP (w:List Data):Bool->List Ty->Str
 |_,[]=>[]
 |b,t::r=>((if b then [40] else [44])++zej w t)++zdP w false r
def zcA (w:List Data) (c:Ctor):Str:=
 let o:=c.name++zdP w true c.args
 let p:=if 0<c.args.length then o++[41] else o
 if 0<c.index then (p++[58])++decV c.index else p
def zck (w:List Data):Bool->List Ctor->Str
 |_,[]=>[]
 |b,c::r=>((if b then [] else [124])++zcA w c)++zck w false r
def ziV (w:List Data):Bool->List Data->Str
 |_,[]=>[]
 |b,d::r=>((if b then [] else [59])++(d.name++[61])++zck w true d.ctors)++ziV w false r
def zfH (w:List Data):Str:=ziV w true w
structure TB (w:List Data):Prop where
 len:w.length<=4
 dn:∀d∈w,d.name.length<=1/\d.ctors.length<=4
 cn:∀d∈w,∀c∈d.ctors,c.name.length<=5/\c.args.length<=3/\0<=c.index/\c.index<=3
 ar:∀d∈w,∀c∈d.ctors,∀t∈c.args,(t.data = -1\/(0<=t.data/\t.data.toNat<w.length))/\ -1<=t.index/\t.index<=3
theorem zjS {w:List Data} (hv:zaI w=true):TB w:=by
 have hW:=(zdo w).1 hv;refine⟨hW.len,fun d hd=>?_,fun d hd c hc=>?_,fun d hd c hc t ht=>?_⟩
 ·have h:=hW.data d hd;have h1:=h.1;simp only[zbv,xad,xah] at h1;omega
 ·have h:=hW.ctor d hd c hc;simp only[zbT,zdI,zan,xad,xah] at h;omega
 ·have h:=hW.ctor d hd c hc;simp only[zbT,xad,Bool.not_eq_true',List.any_eq_false] at h;have hax:zbr w.length t=true:=by
   have:=h.2.2.2 t ht;cases h:zbr w.length t with
   |true=>rfl
   |false=>rw[h] at this;exact absurd Z this
  simp only[zbr,zan,Bool.or_eq_true,xad,xah,and_true] at hax;omega
theorem ze8 {w:List Data} (hb:TB w){t:Ty} (ht:t.data = -1\/(0<=t.data/\t.data.toNat<w.length)):(zej w t).length<=2:=by
 unfold zej;split
 ·simp
 ·rename_i h;have h1:=(hb.dn _ (zaf (l:=w) (i:=t.data.toNat) od)).1;have h2:=zns t.index;simp only[xaa];omega
theorem zhA {w:List Data} (hb:TB w):∀(l:List Ty) (b:Bool),(∀t∈l,t.data = -1\/(0<=t.data/\t.data.toNat<w.length))->(zdP w b l).length<=3*l.length
 | [],_,_=>by simp[zdP]
 |t::r,b,h=>by
  have h1:=ze8 hb (h t oi);have h2:=zhA hb r false (fun x hx=>h x (by simp[hx]));simp only[zdP,xaa,xab];have h3:(if b=true then [(40:UInt8)] else [44]).length=1:=by split<;>rfl
  omega
theorem zq4 {w:List Data} (hb:TB w){c:Ctor} (h1:c.name.length<=5/\c.args.length<=3) (h2:∀t∈c.args,t.data = -1\/(0<=t.data/\t.data.toNat<w.length)):(zcA w c).length<=20:=by
 have h3:=zhA hb c.args true h2;unfold zcA;dsimp only;have h4:=zc0 c.index;split<;>split<;>simp only[xaa,xab,xak]<;>omega
theorem zlT {w:List Data}:∀(l:List Ctor) (b:Bool),(∀c∈l,(zcA w c).length<=20)->(zck w b l).length<=21*l.length
 | [],_,_=>by simp[zck]
 |c::r,b,h=>by
  have h1:=h c oi;have h2:=zlT r false (fun x hx=>h x (by simp[hx]));simp only[zck,xaa,xab];have h3:(if b=true then ([]:Str) else [124]).length<=1:=by split<;>simp
  omega
theorem zbV {n:Int} (h0:0<=n) (h9:n<=9):FnD Tryz.prog 228 [.d (.i n)] [] (.d (.str (decV n))) []:=by
 refine bd Tryz.f228 31 [30] [] fun _ _ _ _ hk=>?_;apply sq<;>intro h1 h1p h1s<;>(try simp only[Q] at h1p);exfalso;omega;apply sq<;>intro h2 h2p h2s<;>(try simp only[Q] at h2p);exfalso;omega;refine xaB (ι:=Unit) hk (fun x=>[(0,.d (.i n)),(3,.d (.str []))]) [12,13,14,15,16,17,18,19,20,21,22,23] (fun x=>[]) (fun x=>True) (fun x=>0) () O ⟨⟨_,Z,xaU ?_⟩,⟨⟨_,Z,xaV ?_⟩,O⟩⟩ O (fun x=>rfl) (fun x hg1=>?_);iterate 2 focus (first|rfl|omega)
 refine evc [30] [] ?_;apply sq<;>intro h3 h3p h3s<;>(try simp only[Q] at h3p);exfalso;omega;refine ar (xbz (by rw[un3];rfl) un5 .none Z Z ?_);refine si [0] [_] sl22 tz5 ?_;refine xbu sl22 un9 oq .none Z Z Z (by first|rfl|exact zkH _) ?_;refine evs [30] [] (xbx .none Z Z Z (by simp[strN]) ?_);refine evs [30] [] (rq ?_);rotate_left;all_goals (rfl)
theorem zn8 {n:Int} (h0 : -1<=n) (h9:n<=9):FnD Tryz.prog 262 [.d (.i n)] [] (.d (.str (zkz n))) []:=by
 refine bd Tryz.f262 10 [] [] fun _ _ _ _ hk=>?_;apply sq<;>intro h1 h1p h1s<;>(try simp only[Q] at h1p);refine rq ?_;rotate_left;apply sq<;>intro h2 h2p h2s<;>(try simp only[Q] at h2p);refine rq ?_;rotate_left;refine wc zfe (zbV od od) Z Z ?_;refine ev (rq ?_);rotate_left;all_goals (refine xam D.str ?_;unfold zkz;first|(rw[if_pos od];done)|(rw[if_neg od,if_pos od];done)|(rw[if_neg od,if_neg od];done)|(rw[if_pos od];rfl))
theorem ze6 {w:List Data} (hb:TB w){a k:Int} (ha:a = -1\/(0<=a/\a.toNat<w.length)) (hk : -1<=k/\k<=3):FnD Tryz.prog 227 [.d (zaj w),.agg [.d (.i a),.d (.i k)]] [] (.d (.str (zej w ⟨a,k⟩))) []:=by
 have hl:=zns k;have hdn:a≠ -1->(nth w a.toNat).name.length<=1:=fun h=>(hb.dn _ (zaf (l:=w) (i:=a.toNat) od)).1;refine bd Tryz.f227 18 [17] [] fun _ _ _ _ hk=>?_;refine bx 3003 ?_;refine evs [17] [] ?_;apply sq<;>intro h1 h1p h1s<;>(try simp only[Q] at h1p);refine rq ?_;rotate_left;refine ixq (i:=a.toNat) sl23 Z Z od (zah od) Z ?_;refine evd [17] [] (wc zys (zn8 od od) Z Z ?_);refine xbx .none Z Z Z (by have:=hdn h1p;omega) ?_;refine evd [17] [] (dr (rq ?_));rotate_left;all_goals (refine xam D.str ?_;unfold zej;first|(rw[if_pos ol];done)|(rw[if_neg ol];done))
theorem zdL {w:List Data} (hb:TB w){s:Str}{l:List Ty}{k:Int} (hs:s.length<=5) (hl:l.length<=3) (hk:0<=k/\k<=3)
  (hl2:∀t∈l,(t.data = -1\/(0<=t.data/\t.data.toNat<w.length))/\ -1<=t.index/\t.index<=3):
  FnD Tryz.prog 176 [.d (zaj w),.agg [.d (.str s),.d (zbZ l),.d (.i k)]] [] (.d (.str (zcA w ⟨s,l,k⟩))) []:=by
 have hall:=zhA hb l true (fun t ht=>(hl2 t ht).1);have hdl:=zc0 k;refine bd Tryz.f176 47 [19,21,30,36,41,45] [] fun _ _ _ _ hk=>?_;refine bx 3003 ?_;refine evs [19,21,30,36,41,45] [] (xaB (ι:=List (Ty)×List (Ty)×(Str)) hk (fun x=>[(6,.d (.i (x.1.length:Int))),(5,.d (.str x.2.2))]) [9,10,11,12,13,14,15,16,17,18,19,20,21,22,23,24,25,26,27,28,29,30] (fun x=>[]) (fun x=>x.1++x.2.1=l/\x.2.2.length<=5+3*x.1.length/\x.2.2++zdP w (decide (x.1.length=0)) x.2.1=s++zdP w true l) (fun x=>x.2.1.length) ([],l,s) ⟨by simp,by simp;omega,by simp⟩ ⟨⟨_,Z,xaU ?_⟩,⟨⟨_,Z,xaV ?_⟩,O⟩⟩ O (fun x=>rfl) (fun x hg1=>?_));iterate 2 focus (first|rfl|(dsimp only;rw[if_pos od,xar];done))
 obtain⟨pre,rest,o⟩:=x;dsimp only at hg1 ⊢;refine evc [19,21,30,36,41,45] [] ?_;apply sq<;>intro h1 h1p h1s<;>(try simp only[Q] at h1p);rcases rest with _|⟨y,rest⟩
 ·exfalso;simp_all
 have hq:(zej w ⟨y.data,y.index⟩).length<=2:=ze8 hb (hl2 y (by rw[<-hg1.1];simp)).1;apply sq<;>intro h2 h2p h2s<;>(try simp only[Q] at h2p);refine xbx .none Z Z Z (by have hz:=xam List.length hg1.1;simp only[xaa,xab,xak] at hz ⊢;omega) ?_;refine evs [19,21,30,36,41,45] [] (ixq zaz Z Z Z (zaA hg1.1) Z (evs [19,21,30,36,41,45] [] (wc zmY (ze6 hb (a:=y.data) (k:=y.index) (hl2 y (by rw[<-hg1.1];simp)).1 (hl2 y (by rw[<-hg1.1];simp)).2) Z Z ?_)));refine xbx .none Z Z Z (by have hz:=xam List.length hg1.1;simp only[xaa,xab,xak] at hz ⊢;omega) ?_;refine evs [19,21,30,36,41,45] [] (ar (xaj ((pre++[y],rest,o++((if pre.length=0 then [40] else [44])++zej w y))) ⟨⟨(by have hz:=hg1.1;rw[<-hz];simp),⟨(by have hq:=ze8 hb (hl2 y (by rw[<-hg1.1];simp)).1;have h3:(if pre.length=0 then [(40:UInt8)] else [44]).length=1:=(by split<;>rfl);simp only[xaa,xab,xak];omega),(by rw[<-hg1.2.2];simp[zdP])⟩⟩,oi,sx ⟨⟨_,Z,xaU ?_⟩,⟨⟨_,Z,xaV ?_⟩,O⟩⟩ O⟩));iterate 2 focus (first|(simp;done)|(dsimp only;rw[if_pos od,xar];done))
 refine xbx .none Z Z Z (by have hz:=xam List.length hg1.1;simp only[xaa,xab,xak] at hz ⊢;omega) ?_;refine evs [19,21,30,36,41,45] [] (ixq zaz Z Z Z (zaA hg1.1) Z (evs [19,21,30,36,41,45] [] (wc zmY (ze6 hb (a:=y.data) (k:=y.index) (hl2 y (by rw[<-hg1.1];simp)).1 (hl2 y (by rw[<-hg1.1];simp)).2) Z Z ?_)));refine xbx .none Z Z Z (by have hz:=xam List.length hg1.1;simp only[xaa,xab,xak] at hz ⊢;omega) ?_;refine evs [19,21,30,36,41,45] [] (ar (xaj ((pre++[y],rest,o++((if pre.length=0 then [40] else [44])++zej w y))) ⟨⟨(by have hz:=hg1.1;rw[<-hz];simp),⟨(by have hq:=ze8 hb (hl2 y (by rw[<-hg1.1];simp)).1;have h3:(if pre.length=0 then [(40:UInt8)] else [44]).length=1:=(by split<;>rfl);simp only[xaa,xab,xak];omega),(by rw[<-hg1.2.2];simp[zdP])⟩⟩,oi,sx ⟨⟨_,Z,xaU ?_⟩,⟨⟨_,Z,xaV ?_⟩,O⟩⟩ O⟩));iterate 2 focus (first|(simp;done)|(dsimp only;rw[if_pos od,xar];done)|(dsimp only;rw[if_neg od,xar];done))
 have hrest:rest=[]:=by
  rcases rest with _|⟨a,b⟩
  ·rfl
  ·exfalso;have hz:=xam List.length (hg1.1);simp only[xaa,xab,xac] at hz;omega
 subst hrest;apply sq<;>intro h3 h3p h3s<;>(try simp only[Q] at h3p);refine xbx .none Z Z Z (by have hz:=xam List.length hg1.1;simp only[xaa,xab,xak] at hz ⊢;omega) ?_;refine evs [19,21,30,36,41,45] [] ?_;apply sq<;>intro h4 h4p h4s<;>(try simp only[Q] at h4p);refine xbx .none Z Z Z (by have hz:=xam List.length hg1.1;simp only[xaa,xab,xak] at hz ⊢;omega) ?_;refine evs [19,21,30,36,41,45] [] (wc zfe (zbV od od) Z Z ?_);refine xbx .none Z Z Z (by have hz:=xam List.length hg1.1;simp only[xaa,xab,xak] at hz ⊢;omega) ?_;refine evs [19,21,30,36,41,45] [] (rq ?_);rotate_left;refine rq ?_;rotate_left;apply sq<;>intro h5 h5p h5s<;>(try simp only[Q] at h5p);refine xbx .none Z Z Z (by have hz:=xam List.length hg1.1;simp only[xaa,xab,xak] at hz ⊢;omega) ?_;refine evs [19,21,30,36,41,45] [] (wc zfe (zbV od od) Z Z ?_);refine xbx .none Z Z Z (by have hz:=xam List.length hg1.1;simp only[xaa,xab,xak] at hz ⊢;omega) ?_;refine evs [19,21,30,36,41,45] [] (rq ?_);rotate_left;refine rq ?_;rotate_left;all_goals (refine xam D.str ?_;have hfin:=hg1.2.2;simp only[zdP,xaq] at hfin;unfold zcA;dsimp only;rw[<-hfin];first|(rw[if_pos od,if_pos (by simp at *;omega)];done)|(rw[if_pos od,if_neg (by simp at *;omega)];done)|(rw[if_neg od,if_pos (by simp at *;omega)];done)|(rw[if_neg od,if_neg (by simp at *;omega)];done))
theorem zo0 {w:List Data} (hb:TB w):FnD Tryz.prog 119 [.d (zaj w)] [] (.d (.str (zfH w))) []:=by
 have hwl:=hb.len;have hct:∀d∈w,∀c∈d.ctors,(zcA w c).length<=20:=fun d hd c hc=>zq4 hb ⟨(hb.cn d hd c hc).1,(hb.cn d hd c hc).2.1⟩ (fun t ht=>(hb.ar d hd c hc t ht).1);refine bd Tryz.f119 51 [15,22,23,37,49] [] fun _ _ _ _ hk=>?_;refine xaB (ι:=List (Data)×List (Data)×(Str)) hk (fun x=>[(4,.d (.i (x.1.length:Int))),(3,.d (.str x.2.2))]) [5,6,7,8,9,10,11,12,13,14,15,16,17,18,19,20,21,22,23,24,25,26,27,28,29,30,31,32,33,34,35,36,37,38,39,40,41,42,43,44,45,46,47,48,49] (fun x=>[]) (fun x=>x.1++x.2.1=w/\x.2.2.length<=100*x.1.length/\x.2.2++ziV w (decide (x.1.length=0)) x.2.1=zfH w) (fun x=>x.2.1.length) ([],w,[]) ⟨by simp,by simp,by simp[zfH]⟩ ⟨⟨_,Z,xaU ?_⟩,⟨⟨_,Z,xaV ?_⟩,O⟩⟩ O (fun x=>rfl) (fun x hg1=>?_);iterate 2 focus (first|rfl|(rw[hfin];simp;done))
 obtain⟨pre,rest,o⟩:=x;dsimp only at hg1 ⊢;refine evc [15,22,23,37,49] [] ?_;apply sq<;>intro h1 h1p h1s<;>(try simp only[Q] at h1p);rcases rest with _|⟨y,rest⟩
 ·exfalso;simp_all
 have hym:y∈w:=(by rw[<-hg1.1];simp);have hyd:=hb.dn y hym;have hpl:pre.length<4:=od;have hcl:=zlT (w:=w) y.ctors true (hct y hym);apply sq<;>intro h2 h2p h2s<;>(try simp only[Q] at h2p);refine xbx .none Z Z Z (by(try simp only[xaa,xab,xak]);omega) (evs [15,22,23,37,49] [] (ixq sl23 Z Z Z (zaA hg1.1) Z (evs [15,22,23,37,49] [] (xbx .none Z Z Z (by(try simp only[xaa,xab,xak]);omega) (xbx .none Z Z Z (by(try simp only[xaa,xab,xak]);omega) (evs [15,22,23,37,49] [] (xaB (ι:=List (Ctor)×List (Ctor)×(Str)) hk (fun x=>[(5,.d (.i (x.1.length:Int))),(3,.d (.str x.2.2))]) [24,25,26,27,28,29,30,31,32,33,34,35,36,37,38,39,40,41,42,43,44,45,46,47,48,49] (fun x=>[]) (fun x=>x.1++x.2.1=y.ctors/\x.2.2.length<=100*pre.length+4+21*x.1.length/\x.2.2++zck w (decide (x.1.length=0)) x.2.1=(o++((if pre.length=0 then [] else [59])++(y.name++[61])))++zck w true y.ctors) (fun x=>x.2.1.length) ([],y.ctors,o++((if pre.length=0 then [] else [59])++(y.name++[61]))) ⟨by simp,(by have h3:(if pre.length=0 then ([]:Str) else [59]).length<=1:=(by split<;>simp);simp only[xaa,xab,xak];omega),by simp⟩ ⟨⟨_,Z,xaU ?_⟩,⟨⟨_,Z,xaV ?_⟩,O⟩⟩ O (fun x=>rfl) (fun x hg2=>?_))))))));iterate 2 focus (first|rfl|(rw[if_neg od];simp;done))
 obtain⟨pre2,rest2,q⟩:=x;dsimp only at hg2 ⊢;refine evc [15,22,23,37,49] [] (ixq sl23 Z Z Z (zaA hg1.1) Z (evs [15,22,23,37,49] [] ?_));apply sq<;>intro h3 h3p h3s<;>(try simp only[Q] at h3p);rcases rest2 with _|⟨c,rest2⟩
 ·exfalso;simp_all
 have hcm:=hct y hym c (by rw[<-hg2.1];simp);have hce:(zcA w ⟨c.name,c.args,c.index⟩).length<=20:=hcm;have hp2:=xam List.length hg2.1;simp only[xaa,xab] at hp2;apply sq<;>intro h4 h4p h4s<;>(try simp only[Q] at h4p);refine xbx .none Z Z Z (by(try simp only[xaa,xab,xak]);omega) (evs [15,22,23,37,49] [] (ixq sl23 Z Z Z (zaA hg1.1) Z (evs [15,22,23,37,49] [] (ixq zcw Z Z Z (zaA hg2.1) Z (evs [15,22,23,37,49] [] (wc zmT (zdL hb (s:=c.name) (l:=c.args) (k:=c.index) (hb.cn y hym c (by rw[<-hg2.1];simp)).1 (hb.cn y hym c (by rw[<-hg2.1];simp)).2.1 (hb.cn y hym c (by rw[<-hg2.1];simp)).2.2 (hb.ar y hym c (by rw[<-hg2.1];simp))) Z Z ?_))))));refine xbx .none Z Z Z (by(try simp only[xaa,xab,xak]);omega) (evs [15,22,23,37,49] [] (ar (xaj ((pre2++[c],rest2,q++((if pre2.length=0 then [] else [124])++zcA w c))) ⟨⟨(by have hz:=hg2.1;rw[<-hz];simp),⟨(by have h3:(if pre2.length=0 then ([]:Str) else [124]).length<=1:=(by split<;>simp);simp only[xaa,xab,xak];omega),(by rw[<-hg2.2.2];simp[zck])⟩⟩,oi,sx ⟨⟨_,Z,xaU ?_⟩,⟨⟨_,Z,xaV ?_⟩,O⟩⟩ O⟩)));iterate 2 focus (first|rfl|(rw[if_neg od];simp;done))
 refine ixq sl23 Z Z Z (zaA hg1.1) Z (evs [15,22,23,37,49] [] (ixq zcw Z Z Z (zaA hg2.1) Z (evs [15,22,23,37,49] [] (wc zmT (zdL hb (s:=c.name) (l:=c.args) (k:=c.index) (hb.cn y hym c (by rw[<-hg2.1];simp)).1 (hb.cn y hym c (by rw[<-hg2.1];simp)).2.1 (hb.cn y hym c (by rw[<-hg2.1];simp)).2.2 (hb.ar y hym c (by rw[<-hg2.1];simp))) Z Z ?_))));refine xbx .none Z Z Z (by(try simp only[xaa,xab,xak]);omega) (evs [15,22,23,37,49] [] (ar (xaj ((pre2++[c],rest2,q++((if pre2.length=0 then [] else [124])++zcA w c))) ⟨⟨(by have hz:=hg2.1;rw[<-hz];simp),⟨(by have h3:(if pre2.length=0 then ([]:Str) else [124]).length<=1:=(by split<;>simp);simp only[xaa,xab,xak];omega),(by rw[<-hg2.2.2];simp[zck])⟩⟩,oi,sx ⟨⟨_,Z,xaU ?_⟩,⟨⟨_,Z,xaV ?_⟩,O⟩⟩ O⟩)));iterate 2 focus (first|rfl|(rw[if_neg od];simp;done)|(rw[if_pos od];simp;done))
 have hrest2:rest2=[]:=by
  rcases rest2 with _|⟨a,b⟩
  ·rfl
  ·exfalso;have hz:=xam List.length (hg2.1);simp only[xaa,xab,xac] at hz;omega
 subst hrest2;refine ar ?_;have hfin:=hg2.2.2;simp only[zck,xaq] at hfin;refine xaj ((pre++[y],rest,o++((if pre.length=0 then [] else [59])++(y.name++[61])++zck w true y.ctors))) ⟨⟨(by have hz:=hg1.1;rw[<-hz];simp),⟨(by have h3:(if pre.length=0 then ([]:Str) else [59]).length<=1:=(by split<;>simp);simp only[xaa,xab,xak];omega),(by rw[<-hg1.2.2];simp[ziV])⟩⟩,oi,sx ⟨⟨_,Z,xaU ?_⟩,⟨⟨_,Z,xaV ?_⟩,O⟩⟩ O⟩;iterate 2 focus (first|rfl|(simp;done)|(rw[hfin];simp;done))
 refine ixq sl23 Z Z Z (zaA hg1.1) Z (evs [15,22,23,37,49] [] (xbx .none Z Z Z (by(try simp only[xaa,xab,xak]);omega) (xbx .none Z Z Z (by(try simp only[xaa,xab,xak]);omega) (evs [15,22,23,37,49] [] (xaB (ι:=List (Ctor)×List (Ctor)×(Str)) hk (fun x=>[(5,.d (.i (x.1.length:Int))),(3,.d (.str x.2.2))]) [24,25,26,27,28,29,30,31,32,33,34,35,36,37,38,39,40,41,42,43,44,45,46,47,48,49] (fun x=>[]) (fun x=>x.1++x.2.1=y.ctors/\x.2.2.length<=100*pre.length+4+21*x.1.length/\x.2.2++zck w (decide (x.1.length=0)) x.2.1=(o++((if pre.length=0 then [] else [59])++(y.name++[61])))++zck w true y.ctors) (fun x=>x.2.1.length) ([],y.ctors,o++((if pre.length=0 then [] else [59])++(y.name++[61]))) ⟨by simp,(by have h3:(if pre.length=0 then ([]:Str) else [59]).length<=1:=(by split<;>simp);simp only[xaa,xab,xak];omega),by simp⟩ ⟨⟨_,Z,xaU ?_⟩,⟨⟨_,Z,xaV ?_⟩,O⟩⟩ O (fun x=>rfl) (fun x hg2=>?_))))));iterate 2 focus (first|rfl|(rw[if_neg od];simp;done)|(rw[if_pos od];simp;done))
 obtain⟨pre2,rest2,q⟩:=x;dsimp only at hg2 ⊢;refine evc [15,22,23,37,49] [] (ixq sl23 Z Z Z (zaA hg1.1) Z (evs [15,22,23,37,49] [] ?_));apply sq<;>intro h5 h5p h5s<;>(try simp only[Q] at h5p);rcases rest2 with _|⟨c,rest2⟩
 ·exfalso;simp_all
 have hcm:=hct y hym c (by rw[<-hg2.1];simp);have hce:(zcA w ⟨c.name,c.args,c.index⟩).length<=20:=hcm;have hp2:=xam List.length hg2.1;simp only[xaa,xab] at hp2;apply sq<;>intro h6 h6p h6s<;>(try simp only[Q] at h6p);refine xbx .none Z Z Z (by(try simp only[xaa,xab,xak]);omega) (evs [15,22,23,37,49] [] (ixq sl23 Z Z Z (zaA hg1.1) Z (evs [15,22,23,37,49] [] (ixq zcw Z Z Z (zaA hg2.1) Z (evs [15,22,23,37,49] [] (wc zmT (zdL hb (s:=c.name) (l:=c.args) (k:=c.index) (hb.cn y hym c (by rw[<-hg2.1];simp)).1 (hb.cn y hym c (by rw[<-hg2.1];simp)).2.1 (hb.cn y hym c (by rw[<-hg2.1];simp)).2.2 (hb.ar y hym c (by rw[<-hg2.1];simp))) Z Z ?_))))));refine xbx .none Z Z Z (by(try simp only[xaa,xab,xak]);omega) (evs [15,22,23,37,49] [] (ar (xaj ((pre2++[c],rest2,q++((if pre2.length=0 then [] else [124])++zcA w c))) ⟨⟨(by have hz:=hg2.1;rw[<-hz];simp),⟨(by have h3:(if pre2.length=0 then ([]:Str) else [124]).length<=1:=(by split<;>simp);simp only[xaa,xab,xak];omega),(by rw[<-hg2.2.2];simp[zck])⟩⟩,oi,sx ⟨⟨_,Z,xaU ?_⟩,⟨⟨_,Z,xaV ?_⟩,O⟩⟩ O⟩)));iterate 2 focus (first|rfl|(rw[if_neg od];simp;done))
 refine ixq sl23 Z Z Z (zaA hg1.1) Z (evs [15,22,23,37,49] [] (ixq zcw Z Z Z (zaA hg2.1) Z (evs [15,22,23,37,49] [] (wc zmT (zdL hb (s:=c.name) (l:=c.args) (k:=c.index) (hb.cn y hym c (by rw[<-hg2.1];simp)).1 (hb.cn y hym c (by rw[<-hg2.1];simp)).2.1 (hb.cn y hym c (by rw[<-hg2.1];simp)).2.2 (hb.ar y hym c (by rw[<-hg2.1];simp))) Z Z ?_))));refine xbx .none Z Z Z (by(try simp only[xaa,xab,xak]);omega) (evs [15,22,23,37,49] [] (ar (xaj ((pre2++[c],rest2,q++((if pre2.length=0 then [] else [124])++zcA w c))) ⟨⟨(by have hz:=hg2.1;rw[<-hz];simp),⟨(by have h3:(if pre2.length=0 then ([]:Str) else [124]).length<=1:=(by split<;>simp);simp only[xaa,xab,xak];omega),(by rw[<-hg2.2.2];simp[zck])⟩⟩,oi,sx ⟨⟨_,Z,xaU ?_⟩,⟨⟨_,Z,xaV ?_⟩,O⟩⟩ O⟩)));iterate 2 focus (first|rfl|(rw[if_neg od];simp;done)|(rw[if_pos od];simp;done))
 have hrest2:rest2=[]:=by
  rcases rest2 with _|⟨a,b⟩
  ·rfl
  ·exfalso;have hz:=xam List.length (hg2.1);simp only[xaa,xab,xac] at hz;omega
 subst hrest2;refine ar ?_;have hfin:=hg2.2.2;simp only[zck,xaq] at hfin;refine xaj ((pre++[y],rest,o++((if pre.length=0 then [] else [59])++(y.name++[61])++zck w true y.ctors))) ⟨⟨(by have hz:=hg1.1;rw[<-hz];simp),⟨(by have h3:(if pre.length=0 then ([]:Str) else [59]).length<=1:=(by split<;>simp);simp only[xaa,xab,xak];omega),(by rw[<-hg1.2.2];simp[ziV])⟩⟩,oi,sx ⟨⟨_,Z,xaU ?_⟩,⟨⟨_,Z,xaV ?_⟩,O⟩⟩ O⟩;iterate 2 focus (first|rfl|(simp;done)|(rw[hfin];simp;done))
 have hrest:rest=[]:=by
  rcases rest with _|⟨a,b⟩
  ·rfl
  ·exfalso;have hz:=xam List.length (hg1.1);simp only[xaa,xab,xac] at hz;omega
 subst hrest;refine rq ?_;rotate_left;all_goals (refine xam D.str ?_;have hfin:=hg1.2.2;simp only[ziV,xaq] at hfin;exact hfin)
def pwL (s:Str):List Str:=cutL 59 [] s
def pwP (s:Str) (i:Nat):List Str:=cutL 61 [] (nth (pwL s) i)
def pwC (s:Str) (i:Nat):List Str:=cutL 124 [] (nth (pwP s i) 1)
def zbN (s:Str):Nat:=if s=[] then 0 else min (pwL s).length 5
def zcY (s:Str) (n:Nat):List Str:=(List.range n).map fun i=>nth (pwP s i) 0
def zkM (s:Str) (i:Nat):Data:=⟨nth (pwP s i) 0,((pwC s i).take 5).map (zcR (zcY s (zbN s)))⟩
def zdd (s:Str) (n:Nat):List Data:=(List.range n).map (zkM s)
def zgL (s:Str):Bool:=(List.range (zbN s)).all (fun i=>decide ((pwP s i).length=2))&&(zaI (zdd s (zbN s))&&decide (zfH (zdd s (zbN s))=s))
def zeL (s:Str):List Data×Bool:=if zgL s then (zdd s (zbN s),true) else ([],false)
theorem zrU (s:Str):zbN s<=(pwL s).length/\zbN s<=5:=by unfold zbN;split<;>omega
theorem zeM {s:Str}{i:Nat}:i<zbN s↔(i<(pwL s).length/\i<=4)/\s≠[]:=by
 unfold zbN;split
 ·rename_i h;simp[h]
 ·rename_i h;simp only[h,ne_eq,not_false_eq_true,and_true];omega
theorem za1 (s:Str) (n:Nat):(zcY s n).length=n:=by simp[zcY]
theorem zrV (s:Str) (n:Nat):zcY s (n+1)=zcY s n++[nth (pwP s n) 0]:=by unfold zcY;rw[List.range_succ,xag];rfl
theorem znQ (s:Str) (n:Nat):zdd s (n+1)=zdd s n++[zkM s n]:=by unfold zdd;rw[List.range_succ,xag];rfl
theorem zxi {s:Str}{n m:Nat} (h:m<n):((zcY s n).map fun n=>[D.str n])[m]?=some [D.str (nth (pwP s m) 0)]:=by
 simp[zcY,h]
theorem zs5 {s:Str}{i:Nat} (h:i<(pwL s).length):(nth (pwL s) i).length<=s.length:=zct h
theorem zlt {s:Str}{i j:Nat} (h:i<(pwL s).length) (hj:j<(pwP s i).length):(nth (pwP s i) j).length<=s.length:=Nat.le_trans (zct hj) (zs5 h)
theorem zxr {s:Str}{i k:Nat} (h:k<(pwC s i).length):(nth (pwC s i) k).length<=(nth (pwP s i) 1).length:=zct h
theorem zvn {α:Type}{l:List α}{i:Nat} (h:i=5\/(i<=5/\l.length<=i)):l.take i=l.take 5:=by
 rcases h with rfl|⟨h1,h2⟩
 ·rfl
 ·rw[List.take_of_length_le h2,List.take_of_length_le od]
theorem ztC {c:UInt8}{s:Str}:(nth (cutL c [] s) 0).length<=s.length:=zct (zgb c s [])
theorem zrE {names:List Str}{s:Str}:(zcR names s).name.length<=s.length/\(zcR names s).args.length<=4:=by
 have key:∀(ix:Int) (t:Str),(zhE names ix t).name.length<=t.length/\(zhE names ix t).args.length<=4:=by
  intro ix t;refine⟨ztC, ?_⟩;unfold zhE;dsimp only;split
  ·simp
  ·simp only[xac,List.length_take];omega
 unfold zcR;split
 ·have:=key (((nth s (s.length-1)).toNat:Int)-48) (s.take (s.length-2));rw[List.length_take] at this;omega
 ·exact key 0 s
theorem zpK {s:Str} (hs:s.length<=1000000) (h2:∀j,j<zbN s->(pwP s j).length=2):WSmall (zdd s (zbN s)):=by
 have hl:=zrU s;have hd:∀d∈zdd s (zbN s),∃i,i<zbN s/\d=zkM s i:=fun d hd=>by
  obtain⟨i,hi,rfl⟩:=List.mem_map.1 hd;exact⟨i,List.mem_range.1 hi,rfl⟩
 refine⟨by simp only[zdd,xac,List.length_range];omega,fun d hd'=>?_,fun d hd' c hc=>?_⟩
 ·obtain⟨i,hi,rfl⟩:=hd d hd';have:=zlt (s:=s) (i:=i) (j:=0) od (by rw[h2 i hi];omega);refine⟨?_, ?_⟩
  ·show(nth (pwP s i) 0).length<=_;omega
  ·simp only[zkM,xac,List.length_take];omega
 ·obtain⟨i,hi,rfl⟩:=hd d hd';obtain⟨t,ht,rfl⟩:=List.mem_map.1 hc;have h3:=zlt (s:=s) (i:=i) (j:=1) od (by rw[h2 i hi];omega);have h4:t.length<=(nth (pwP s i) 1).length:=by simpa using zjs 124 (nth (pwP s i) 1) [] t (List.mem_of_mem_take ht)
  have h5:=zrE (names:=zcY s (zbN s)) (s:=t);omega
theorem zzA {s:Str} (hs:s.length<=1000000):FnD Tryz.prog 117 [.d (.str s),.d (.int .u8 59)] [] (.d (zcC (pwL s))) []:=zbq (s:=s) (c:=59) od
theorem zwq {s:Str}{i:Nat} (hs:s.length<=1000000) (h:i<(pwL s).length):FnD Tryz.prog 117 [.d (.str (nth (pwL s) i)),.d (.int .u8 61)] [] (.d (zcC (pwP s i))) []:=zbq (s:=nth (pwL s) i) (c:=61) (by have:=zs5 h;omega)
theorem zzz {s:Str}{i:Nat} (hs:s.length<=1000000) (h:i<(pwL s).length) (h2:(pwP s i).length=2):FnD Tryz.prog 117 [.d (.str (nth (pwP s i) 1)),.d (.int .u8 124)] [] (.d (zcC (pwC s i))) []:=
 zbq (s:=nth (pwP s i) 1) (c:=124) (by have:=zlt (j:=1) h od;omega)
theorem zfd {w:List Data} (hs:WSmall w):FnD Tryz.prog 35 [.d (zaj w)] [] (.d (.bool (zaI w))) []:=by
 rw[<-zfc];exact zeQ hs
theorem zsR {s:Str} (h:zgL s=false):zeL s=([],false):=by unfold zeL;rw[if_neg (by rw[h];simp)]
theorem zvO {s:Str} (h:zgL s=true):zeL s=(zdd s (zbN s),true):=by unfold zeL;rw[if_pos h]
theorem zvN {s:Str}{i:Nat} (h:i<zbN s) (h2:¬(pwP s i).length=2):zgL s=false:=by
 unfold zgL;rw[zdB h (by simpa using h2),Bool.false_and]
theorem zpq {s:Str} (h:∀j,j<zbN s->(pwP s j).length=2):zgL s=(zaI (zdd s (zbN s))&&decide (zfH (zdd s (zbN s))=s)):=by
 unfold zgL;rw[zdY (fun i hi=>by simpa using h i hi),Bool.true_and]
theorem zk1 {s:Str} (hs:s.length<=100000):FnD Tryz.prog 56 [.d (.str s)] [] (.tup [.d (zaj (zeL s).1),.d (.bool (zeL s).2)]) []:=by
 have hl:=zrU s;have hcl:(pwL s).length<=s.length+1:=zeD 59 s [];have hccl:∀i,(pwC s i).length<=(nth (pwP s i) 1).length+1:=fun i=>zeD 124 _ [];have hnl:=za1 s;refine bd Tryz.f56 101 [] [5,17,21] fun _ _ _ _ hk=>?_;refine xb8 1 sl23 .none Z Z (ev (xb8 2 zaO .none Z Z (ev (wc zb2 (zzA (s:=s) od) Z Z ?_))));refine ev (xaB (ι:=Nat) hk (fun i=>[(7,.d (.i (i:Int))),(5,.gl 2 ((zcY s i).map fun n=>[D.str n]))]) [2,3,8,17,18,19,20,21,22,23,24,25,26,27,28,29,30,31,32,33,34,35,36,37,38,39,40,41,42,43,44,45] (fun i=>[(2,some (.tok (((zcY s i).map fun n=>[D.str n])).length 1))]) (fun i=>i<=zbN s/\∀j,j<i->(pwP s j).length=2) (fun i=>zbN s-i) 0 ⟨by omega,fun j h=>absurd h od⟩ ⟨⟨_,Z,xaU ?_⟩,⟨⟨_,Z,LeA.glg ?_⟩,O⟩⟩ ⟨zac ?_,O⟩ (fun x=>rfl) (fun i hg1=>?_));iterate 3 focus (rfl)
 refine evc [] [5,17,21] (xaC (xbn 12 [(28,.d (.bool (decide (i<zbN s))))] [17,18,19,20,21,22,23,24,25,26,27] ?_ ?_));refine ev ?_;apply sq<;>intro h1 h1p h1s<;>(try simp only[Q,za1] at h1p);apply sq<;>intro h2 h2p h2s<;>(try simp only[Q,za1] at h2p);focus (exact jn Z (xaT (by(rw[xat];simp_all[zeM];omega))))
 focus (exact jn Z (xaT (by(rw[xat];simp_all[zeM];omega))))
 refine sqF ?_;focus (exact jn Z (xaT (by(rw[xat];simp_all[zeM];omega))))
 refine xbm ?_;apply tv;apply sq<;>intro h3 h3p h3s<;>(try simp only[Q,za1] at h3p);refine ixq zaO Z Z Z (zah od) Z ?_;refine ev (wc zb2 (zwq (s:=s) (i:=i) od od) Z Z ?_);refine ev ?_;apply sq<;>intro h4 h4p h4s<;>(try simp only[Q,za1] at h4p);refine xb7 sl23 .none Z (ev (rn0 (r2 Z Z) (.tup (qee ?_ ?_))));rotate_left 2;refine ixq (i:=0) zaO Z Z Z (zah od) Z ?_;refine ev (si [0] [_] zaO tz9 ?_);refine ap zaO zz9 Z Z Z oi (by simp[za1,zdd];omega) ?_;refine ev (ar (xaj (i+1) ⟨⟨by omega,zaZ hg1.2 od⟩,od,sx ⟨⟨_,Z,xaU ?_⟩,⟨⟨_,Z,LeA.glg ?_⟩,O⟩⟩ ⟨zac ?_,O⟩⟩));iterate 3 focus (first|rfl|(rw[zrV];simp;done))
 obtain rfl:i=zbN s:=od;refine xaB (ι:=Nat) hk (fun m=>[(9,.d (.i (m:Int))),(4,.gl 1 ((zdd s m).map Data.c))]) [10,11,12,46,47,48,49,50,51,52,53,54,55,56,57,58,59,60,61,62,63,64,65,66,67,68,69,70,71,72,73,74,75,76,77,78,79,80,81,82,83,84,85,86,87,88,89] (fun m=>[(1,some (.tok (((zdd s m).map Data.c)).length 2))]) (fun m=>m<=zbN s) (fun m=>zbN s-m) 0 od ⟨⟨_,Z,xaU ?_⟩,⟨⟨_,Z,LeA.glg ?_⟩,O⟩⟩ ⟨zac ?_,O⟩ (fun x=>rfl) (fun m hg2=>?_);iterate 3 focus (rfl)
 refine evc [] [5,17,21] ?_;apply sq<;>intro h5 h5p h5s<;>(try simp only[Q,za1] at h5p);refine ixq zaO Z Z Z (zah od) Z ?_;refine ev (wc zb2 (zwq (s:=s) (i:=m) od od) Z Z ?_);refine ixq (i:=1) zaO Z Z Z (zah (by(rw[hg1.2 m od];omega))) Z ?_;refine ev (wc zb2 (zzz (s:=s) (i:=m) od od (hg1.2 m od)) Z Z ?_);refine ev (xbL zaO .none Z Z Z Z (zxi od) Z ?_);refine ev (bu [0] [_] zzO ?_);refine ab 3011 ztR ?_;refine so zwK ?_;apply tv;refine xaE 3011 1 3 3 Z Z Z Z (xaB (ι:=Nat) hk (fun k=>[(12,.d (.i (k:Int)))]) [65,66,67,68,69,70,71,72,73,74,75,76,77,78,79,80,81,82,83,84,85] (fun k=>[(3011,some (.box [.d (.str (nth (pwP s m) 0)),.gl 3 ((((pwC s m).map (zcR (zcY s (zbN s)))).take k).map Ctor.c)])),(3,some (.tok ((((pwC s m).map (zcR (zcY s (zbN s)))).take k).map Ctor.c).length 3))]) (fun k=>k<=5/\k<=(pwC s m).length) (fun k=>5-k) 0 ⟨by omega,by omega⟩ ⟨⟨_,Z,xaU ?_⟩,O⟩ ⟨?_,⟨zac ?_,O⟩⟩ (fun x=>rfl) (fun k hg3=>?_));focus (rfl)
 focus (rfl)
 focus (rfl)
 refine evc [] [5,17,21] (xaC (xbn 8 [(72,.d (.bool (decide (k<(pwC s m).length/\k<=4))))] [65,66,67,68,69,70,71] ?_ ?_));refine ev ?_;apply sq<;>intro h6 h6p h6s<;>(try simp only[Q,za1] at h6p);focus (exact jn Z (xaT (by(rw[xat];simp_all[zeM];omega))))
 focus (exact jn Z (xaT (by(rw[xat];simp_all[zeM];omega))))
 refine xbm ?_;apply tv;apply sq<;>intro h7 h7p h7s<;>(try simp only[Q,za1] at h7p);refine ixq zaO Z Z Z (zah od) Z ?_;refine evd [] [] (Walk.call (cr:=[]) zxL (zke (names:=zcY s (zbN s)) (s:=nth (pwC s m) k) (by rw[hnl];omega) (by have h1:=zlt (s:=s) (i:=m) (j:=1) od (by rw[hg1.2 m od];omega);have h2:=zxr (s:=s) (i:=m) (k:=k) od;omega)) Z .none Z Z (.cons (.gl _ _) (.cons (.refl _) .nil)) O Z Z Z ?_);refine si [0] [_] zcw zhp ?_;refine ap zcw zzU Z Z Z oi (by simp[za1,zdd];omega) ?_;refine evd [] [] (so zzQ ?_);refine dr (ar (xaj (k+1) ⟨⟨by omega,by omega⟩,od,sx ⟨⟨_,Z,xaU ?_⟩,O⟩ ⟨?_,⟨zac ?_,O⟩⟩⟩));focus (rfl)
 focus ((show some (Res.box _)=some (Res.box _);rw[zgW od];simp;done))
 focus ((simp;omega))
 refine si [0] [_] sl23 ztR ?_;refine ap sl23 zzT Z Z Z oi (by simp[za1,zdd];omega) ?_;refine ev (ar (xaj (m+1) ⟨od,od,sx ⟨⟨_,Z,xaU ?_⟩,⟨⟨_,Z,LeA.glg ?_⟩,O⟩⟩ ⟨zac ?_,O⟩⟩));iterate 3 focus (first|rfl|(rw[znQ];simp;done)|(rw[znQ,xag];simp only[xaf,List.map_nil,zkM,Data.c];rw[<-List.map_take,zvn od];done))
 obtain rfl:m=zbN s:=od;refine xaC (xbn 9 [(98,.d (.bool (!(zaI (zdd s (zbN s))&&decide (zfH (zdd s (zbN s))=s)))))] [90,91,92,93,94,95,96,97] ?_ ?_);refine ev (Walk.call (cr:=[]) zjo (zfd (zpK od hg1.2)) Z .none Z Z (.cons (.gl _ _) .nil) O Z Z Z ?_);refine ev ?_;apply sq<;>intro h8 h8p h8s<;>(try simp only[Q,za1] at h8p);focus (exact jn Z (xaT (by(rw[xat];simp_all[zeM];done))))
 refine Walk.call (cr:=[]) zxM (zo0 (zjS ol)) Z (.some Z Z h8) Z Z (.cons (.gl _ _) .nil) O Z Z Z ?_;refine evs [] [(93,false)] ?_ ⟨⟨_,Z,h8⟩,O⟩;focus (exact jn Z (xaT (by(rw[xat];simp_all[zeM];done))))
 refine xbm ?_;apply tv;apply sq<;>intro h9 h9p h9s<;>(try simp only[Q,za1] at h9p);refine xb7 sl23 .none Z (ev (rn0 (r2 Z Z) (.tup (qee ?_ ?_))));rotate_left 2;refine rn0 (r2 Z Z) (.tup (qge ?_ ?_));rotate_left 2;all_goals (first|(have hq:=zvN (s:=s) (i:=i) h3p (fun h=>h4p od);rw[zsR hq];all_goals rfl)|(have hr:=zpq hg1.2;rw[h9s] at hr;rw[zsR hr];all_goals rfl)|(have hr:=zpq hg1.2;rw[h9s] at hr;rw[zvO hr];all_goals rfl))
def zf4:List Str:=[[76,61,78,105,108,124,67,111,110,115,40,73,44,76,41],
 [66,61,84,114,117,124,70,108,115,59,84,61,76,101,97,102,124,78,111,100,101,40,84,44,66,44,84,41],
 [69,61,78,117,109,40,73,41,58,49,124,66,111,108,40,66,41,58,50,124,65,100,100,40,69,49,44,69,49,41,58,49,124,73,102,40,69,50,44,69,42,44,69,42,41,59,66,61,84,114,117,124,70,108,115],
 [79,61,78,111,110,124,83,111,109,40,73,41,59,80,61,80,97,105,114,40,79,44,79,41],
 [86,61,69,110,100,58,49,124,83,111,109,101,40,73,44,86,49,41,58,50,124,84,119,111,40,86,42,41],
 [78,61,78,101,118,101,114,40,78,41,59,66,61,84,114,117,124,70,108,115,124,77,97,121,40,78,41],
 [83,61,82,101,100,124,71,114,101,101,110,124,66,108,117,101,124,77,105,120,40,83,44,83,41],
 []]
theorem ztQ:zf4.length=8:=rfl
theorem zsb:∀t∈zf4,t.length<=100:=by decide
theorem zol {i:Nat} (h:i<8):(nth zf4 i).length<=100:=zsb _ (zaf h)
theorem zrF {s:Str} (hs:s.length<=100000):WSmall (zeL s).1:=by
 unfold zeL;split
 ·rename_i h;refine zpK od (fun j hj=>?_);unfold zgL at h;rw[xad,List.all_eq_true] at h;simpa using h.1 j (List.mem_range.2 hj)
 ·exact⟨by simp,fun d hd=>by simp at hd,fun d hd=>by simp at hd⟩
def zvz (b:Str) (p:Nat):List Data:=(zeL (nth zf4 (zax b p 7).toNat)).1
theorem zwD (b:Str) (p:Nat):(zax b p 7).toNat<7:=by have:=zhU (b:=b) (p:=p) (n:=7) od;omega
theorem zh3 {b:Str}{p:Nat}:WSmall (zvz b p):=zrF (by have h:=zwD b p;have:=zol (i:=(zax b p 7).toNat) od;omega)
theorem zoa:FnD Tryz.prog 57 [] [] (.d (zcC zf4)) []:=by
 refine bd Tryz.f57 2 [] [] fun _ _ _ _ hk=>?_;refine si [0,1,2,3,4,5,6,7] [_,_,_,_,_,_,_,_] zaO tz9 ?_;refine ev (rq ?_);rotate_left;all_goals (rfl)
theorem zuM (L:List Nat) (hp:Hp) (i:Nat):getH (L.map (fun j=>(j,(none:Option Res)))++hp) i=if i∈L then none else getH hp i:=by
 induction L with
 |nil=>simp
 |cons x r ih=>
  simp only[xaf,xai,zal,List.mem_cons];by_cases h:i=x
  ·subst h;simp
  ·simp[h,ih]
section
variable {c:Ctx}
theorem R.drop {G:Gh}{s:St}{a:Act}{w:World} (hr:R c G s a w) (L:List Nat) (hk:∀i l,c.kept i=some l->i∉L):R c G ⟨s.env,L.map (fun j=>(j,none))++s.hp⟩ a w:=by
 have hg:=zuM L s.hp;have hT:∀i p,tokf (L.map (fun j=>(j,(none:Option Res)))++s.hp) i=some p->tokf s.hp i=some p:=fun i p h=>by
  obtain⟨n,k⟩:=p;have:=zar.1 h;rw[hg] at this;split at this
  ·cases this
  ·exact zar.2 this
 have hm:∀ {x:AV}{v:Value},RelA G (tokf s.hp) w x v->RelA G (tokf (L.map (fun j=>(j,(none:Option Res)))++s.hp)) w x v:=fun hx=>
  hx.mono (fun _ _ ho=>⟨ho,rfl⟩) (fun _ _=> .inl rfl) (fun i _ p hp=>⟨hT i p hp,fun _ _=>⟨rfl,rfl⟩⟩)
 have hs:∀i r,getH (L.map (fun j=>(j,(none:Option Res)))++s.hp) i=some r->getH s.hp i=some r:=fun i r h=>by
  rw[hg] at h;split at h
  ·cases h
  ·exact h
 have hss:∀i,(getH (L.map (fun j=>(j,(none:Option Res)))++s.hp) i).isSome->(getH s.hp i).isSome:=fun i h=>by
  obtain⟨r,hr⟩:=Option.isSome_iff_exists.1 h;rw[hs i r hr];rfl
 refine⟨hr.size,hr.defers,fun i v h=>hm (hr.slots i v h),fun i r h=>?_,fun i j h1 h2=>hr.disj i j (hss i h1) (hss j h2),fun i h=>hr.new i (hss i h),hr.frm,hr.top,fun i l hl=>?_⟩
 ·have hh:=hr.heap i r (hs i r h);cases r with
  |box cs=>
   obtain⟨b,vs,e,h1,h2,h3,h4,h5⟩:=hh;exact⟨b,vs,e,h1,h2,h3,h4,fun j hj hv=>hm (h5 j hj hv)⟩
  |tok m k=>exact hh
  |map ks=>exact hh
  |tree cs=>exact zbI hh Z (fun _ _=>⟨Z,Z⟩) (Nat.le_refl _) (fun _ _ _=>hm)
 ·obtain⟨k1,k2,k3⟩:=hr.kept i l hl;refine⟨k1, ?_, ?_⟩
  ·show(getH (L.map (fun j=>(j,(none:Option Res)))++s.hp) i).isSome
   rw[hg,if_neg (hk i l hl)];exact k2
  ·show tokf (L.map (fun j=>(j,(none:Option Res)))++s.hp) i=none
   cases h:tokf (L.map (fun j=>(j,(none:Option Res)))++s.hp) i with
   |none=>rfl
   |some p=>rw[hT i p h] at k3;cases k3
inductive RowT (hp:Hp):List AV->List D->List (Nat×Nat×Nat)->Prop
 |nil:RowT hp [] [] []
 |sc {x cs ds js} (hs:zlu x=true) (h:RowT hp cs ds js):RowT hp (.d x::cs) (x::ds) js
 |ni {cs ds js} (h:RowT hp cs ds js):RowT hp (.nils::cs) (.sl []::ds) js
 |gt {j zs n k cs ds js} (hj:getH hp j=some (.tok n k)) (hn:n=zs.length) (h:RowT hp cs ds js):RowT hp (.gt j zs::cs) (.sl zs::ds) ((j,n,k)::js)
theorem RowT.move {hp hp':Hp}{cs:List AV}{ds:List D}{js:List (Nat×Nat×Nat)} (h:RowT hp cs ds js):(∀q,q∈js->getH hp' q.1=some (.tok q.2.1 q.2.2))->RowT hp' cs ds js:=by
 induction h with
 |nil=>intro _;exact .nil
 |sc hs _ ih=>intro h;exact .sc hs (ih h)
 |ni _ ih=>intro h;exact .ni (ih h)
 |gt hj hn _ ih=>intro h;exact .gt (h (_,_,_) List.mem_cons_self) hn (ih fun q hq=>h q (List.mem_cons_of_mem _ hq))
theorem RowT.len {hp:Hp}{cs:List AV}{ds:List D}{js:List (Nat×Nat×Nat)} (h:RowT hp cs ds js):ds.length=cs.length:=by
 induction h with
 |nil=>rfl
 |sc _ _ ih=>simp[ih]
 |ni _ ih=>simp[ih]
 |gt _ _ _ ih=>simp[ih]
end
section
variable {c:Ctx}{env:Env}{hp:Hp}{K:Kt}{code:Code}{ids:List Nat}
theorem zw9 {G:Gh}{w:World}{id n k:Nat}{xs:List (List D)}{v:Value} (hn:n=xs.length) (hk:∀x,x∈xs->x.length=k) (h:TipT G w id n k v xs):
  TreeD true w (.sl xs) v (G.loc id)/\(G.loc id).Nodup/\∀b,b∈G.loc id->G.F b=0:=by
 rcases h with ⟨e1,e2,e3⟩|⟨b,cap,us,e,Ss,e1,e2,e3,e4,e5,e6,e7,e8⟩
 ·have hz:xs=[]:=List.eq_nil_of_length_eq_zero od;subst hz;rw[e1,e3];exact⟨.nil,by simp,by simp⟩
 ·refine⟨?_,e6,e7⟩;subst hn;rw[e1,e2];exact TreeD.sl (m:=true) xs k b cap us e Ss hk e5 e3 e4 e8.1 (fun _ hz=>e8.2 (by rw[hz];rfl))
end
section
variable {c:Ctx}{all:Array Oper}{chk:List Rec->Prop}{os:List Oper}{recs:List Rec}{env:Env}{hp:Hp}{Q:St->Prop}
variable {d ty:Nat}{pos:String}{af:Array Edge}{g:Option (Nat×Bool)}{pg:List (Nat×AV)}
variable {t yt:TypeId}{x y:Operand}
theorem xcb {parts:Array (Nat×Operand)}{n:Nat}{ks:List Nat}{xs:List Operand}{vs zs r:List AV}{e k yb id:Nat} (ht:SlT c.P t e k yb) (hz:TyZ c.P e k zs) (hzk:zs.length=k) (hk:0<k)
  (hparts:parts=(ks.zip xs).toArray) (hlen:ks.length=xs.length) (hsmall:n*k<=16777216) (hpos:0<n) (hg:GH all env g pg) (hd:Nat.blt d c.n=true) (hx:opdL env xs=some vs)
  (hf:zgt (fun i=>some (i*k,k)) (zbd n zs) (ks.zip vs)=some r) (hid:zaT id (AV.idsL r)=false) (h0:getH hp id=none) (ho1:occE id env=false) (ho2:occH id hp=false)
  (hn:Walk c all chk os (zap (pg++opFL xs vs) [] [id] ⟨some (d,.ms id n),[(id,some (.box r))]⟩::recs) ⟨(d,.ms id n)::env,(id,some (.box r))::hp⟩ Q):
  Walk c all chk (⟨some d,.buildSlice t n parts,ty,pos,af,g⟩::os) recs ⟨env,hp⟩ Q:=by
 subst hparts;refine xbW hg hd hx h0 ho1 ho2 hid (fun a G T w h=>?_) hn;obtain⟨ie,hi1,hi2,hi3⟩:=ht.inf;obtain⟨i',z,z1,z2,z3,z4⟩:=hz.inf;rw[hi1] at z1;cases z1
 have hz0:=zcf (G:=G) (T:=T) (w:=w) z4;have hzr:=zfI (by simpa using hz0) n od;obtain⟨lv,hlv,hal⟩:=zfN (ks.zip vs) (ks.zip (xs.map a.eval)) _ r _ hf hzr (by simp[h.1]) (zqA h hlen);have hpos':¬n*ie.size=0:=by rw[hi2];exact Nat.ne_of_gt (Nat.mul_pos hpos hk)
 have hrun:=run_buildSlice (P:=c.P) w t e n ((ks.zip xs).toArray.map fun(i,x)=>(i,a.eval x)) lv ie z ht.und hi1 z3 (by rw[hi2];omega) hpos' (by
  rw[hi2,<-hlv];congr 1
  ·rw[hzk]
  ·simp[List.zip_map_right,Prod.map])
 refine⟨_,lv,e, ?_,hal,fun G' T' w' hl hT=> .ms (by rw[hl];rfl) hT (Nat.le_refl _)⟩;simp only[execOp,Sem.run_bind,hrun,Result.andThen_ok,Sem.run_pure]
end
def zzB (n:Nat):UInt8:=UInt8.ofNat (IntKind.u8.wrap (48+(n:Int) % 10)).toNat
def digs (n:Nat):Str:=if n=0 then [] else digs (n / 10)++[zzB n]
def zsY (n:Nat):Str:=109::digs n
def Ty.one (k:Int) (_:Ty):Ty:=⟨k,k+1⟩
def Ty.sz (_:Ty):Int:=2
def Ctor.one (k:Int) (x:Ctor):Ctor:=⟨zsY k.toNat,mkL Ty.one Ty.sz (k+1) x.args,k+1+szL Ty.sz x.args⟩
def Ctor.sz (x:Ctor):Int:=2+szL Ty.sz x.args
def Data.one (k:Int) (x:Data):Data:=⟨zsY k.toNat,mkL Ctor.one Ctor.sz (k+1) x.ctors⟩
def Data.sz (x:Data):Int:=1+szL Ctor.sz x.ctors
def Pat.op:Pat->Int | .mk a0 _ _ _ _ _=>a0
def Pat.ctor:Pat->Int | .mk _ a1 _ _ _ _=>a1
def Pat.n:Pat->Int | .mk _ _ a2 _ _ _=>a2
def Pat.m:Pat->Int | .mk _ _ _ a3 _ _=>a3
def Pat.var:Pat->Int | .mk _ _ _ _ a4 _=>a4
def Pat.kids:Pat->List Pat | .mk _ _ _ _ _ k=>k
abbrev Pat.cc (v:Pat):List D:=[.i v.op,.i v.ctor,.i v.n,.i v.m,.i v.var,.sl (Pat.cs v.kids)]
theorem xaY (v:Pat):v.c=v.cc:=by cases v;rfl
theorem Pat.eta (v:Pat):Pat.mk v.op v.ctor v.n v.m v.var v.kids=v:=by cases v;rfl
theorem xaZ {pre:List Pat}{x:Pat}{rest xs:List Pat} (h:pre++x::rest=xs):(Pat.cs xs)[pre.length]?=some x.cc:=by rw[xa2,<-xaY];exact zaA h
mutual
def ztD:Pat->Pat->Bool
 | .mk a0 a1 a2 a3 a4 ks,.mk b0 b1 b2 b3 b4 ls=>decide (a0=b0)&&(decide (a1=b1)&&(decide (a2=b2)&&(decide (a3=b3)&&(decide (a4=b4)&&znN ks ls))))
def znN:List Pat->List Pat->Bool
 | [],[]=>true
 |x::r,y::s=>ztD x y&&znN r s
 |_,_=>false
end
mutual
def Pat.ok:Pat->Prop
 | .mk _ _ _ _ _ ks=>ks.length<=1000000000000/\Pats.ok ks
def Pats.ok:List Pat->Prop
 | []=>True
 |v::r=>v.ok/\Pats.ok r
end
theorem xa6:∀ {l:List Pat},Pats.ok l->∀v,v∈l->v.ok
 |x::r,h,v,hv=>by
  simp only[Pats.ok] at h;rcases List.mem_cons.1 hv with rfl|hv
  ·exact h.1
  ·exact xa6 h.2 v hv
mutual
def Pat.size:Pat->Nat
 | .mk _ _ _ _ _ ks=>1+Pats.size ks
def Pats.size:List Pat->Nat
 | []=>0
 |v::r=>v.size+Pats.size r
end
theorem xa8:∀ {l:List Pat}{v:Pat},v∈l->v.size<=Pats.size l
 |x::r,v,hv=>by
  simp only[Pats.size];rcases List.mem_cons.1 hv with rfl|hv
  ·omega
  ·have:=xa8 hv;omega
theorem zaE {l:List Pat}{i:Nat} (h:i<l.length):(Pat.cs l)[i]?=some (nth l i).cc:=by
 rw[xa2,<-xaY];exact zah h
theorem xa4 (v:Pat):v.ok↔v.kids.length<=1000000000000/\Pats.ok v.kids:=by cases v;rfl
theorem xa5 (v:Pat):v.size=1+Pats.size v.kids:=by cases v;rfl
mutual
theorem ztE:∀v:Pat,ztD v v=true
 | .mk _ _ _ _ _ ks=>by simp[ztD,zl0 ks]
theorem zl0:∀l:List Pat,znN l l=true
 | []=>rfl
 |v::r=>by simp[znN,ztE v,zl0 r]
end
theorem Pat.c_len (v:Pat):v.c.length=6:=by cases v;rfl
theorem Pat.cs_rows {l:List Pat}:∀x,x∈Pat.cs l->x.length=6:=by
 intro x hx;rw[xa2] at hx;obtain⟨y,_,rfl⟩:=List.mem_map.1 hx;exact y.c_len
theorem Pat.cs_nil (l:List Pat):Pat.cs l=[]↔l=[]:=by rw[xa2];simp
mutual
def mPat:Pat->Nat
 | .mk _ _ _ _ _ ks=>znw ks
def znw:List Pat->Nat
 | []=>0
 |v::r=>1+mPat v+znw r
end
mutual
def Pat.szM:Pat->Int
 | .mk _ _ _ _ _ ks=>5+Pats.szM ks
def Pats.szM:List Pat->Int
 | []=>0
 |v::r=>v.szM+Pats.szM r
end
mutual
def Pat.one (k:Int):Pat->Pat
 | .mk _ _ _ _ _ ks=> .mk k (k+1) (k+1+1) (k+1+1+1) (k+1+1+1+1) (Pats.one (k+1+1+1+1+1) ks)
def Pats.one (k:Int):List Pat->List Pat
 | []=>[]
 |v::r=>v.one k::Pats.one (k+v.szM) r
end
mutual
theorem Pat.szM_nn:∀v:Pat,0<=v.szM
 | .mk _ _ _ _ _ ks=>by have:=xbc ks;simp only[Pat.szM];omega
theorem xbc:∀l:List Pat,0<=Pats.szM l
 | []=>by simp[Pats.szM]
 |v::r=>by have:=Pat.szM_nn v;have:=xbc r;simp only[Pats.szM];omega
end
mutual
theorem Pat.szM_le:∀v:Pat,v.szM<=5+5*(mPat v:Int)
 | .mk _ _ _ _ _ ks=>by have:=xbb ks;simp only[Pat.szM,mPat];omega
theorem xbb:∀l:List Pat,Pats.szM l<=5*(znw l:Int)
 | []=>by simp[Pats.szM,znw]
 |v::r=>by have:=Pat.szM_le v;have:=xbb r;simp only[Pats.szM,znw];omega
end
structure Vt where
 var:Int
 ty:Ty
 deriving DecidableEq,Inhabited
abbrev Vt.c (t:Vt):List D:=[.i t.var,.i t.ty.data,.i t.ty.index]
abbrev zbK (l:List Vt):D:= .sl (l.map Vt.c)
def zas (w:List Data) (t:Ty):List Int:=if t.data = -1 then [] else zbg w t
def zai (w:List Data) (t:Ty) (p:Pat):List Ty:=if p.op=4 then zae w t p.ctor else if p.op=5 then [t,t] else if p.op=6 then [t] else []
def ownP (w:List Data) (t:Ty) (p:Pat):Bool:=decide (((p.op=2\/p.op=6)->0<=p.var/\p.var<=5)/\(¬(p.op=2\/p.op=6)->p.var=0)/\(p.op≠3->p.n=0/\p.m=0)/\(p.op≠4->p.ctor=0)/\
 (p.op=1\/p.op=2\/p.op=5\/p.op=6\/(p.op=3/\t.data = -1/\0<=p.n/\p.n<=p.m/\p.m<=9)\/(p.op=4/\p.ctor∈zas w t)))
def okP (w:List Data) (t:Ty) (p:Pat):Bool:=ownP w t p&&decide (p.kids.length=(zai w t p).length)
def zc8 (w:List Data) (t:Ty) (p:Pat):List Ty:=if p.op=4/\p.ctor∉zas w t then [] else zai w t p
def zat (w:List Data):Nat->Ty->Pat->Bool
 |0,_,_=>false
 |n+1,t,p=>ownP w t p&&all2 (zat w n) (zai w t p) p.kids
def zaY (t:Ty) (p:Pat):List Vt:=if p.op=2\/p.op=6 then [⟨p.var,t⟩] else []
def zbs (f:Ty->Pat->List Vt):List Ty->List Pat->List Vt
 |a::r,b::s=>f a b++zbs f r s
 |_,_=>[]
def zd1 (w:List Data) (t:Ty) (p:Pat):List Ty:=if p.op=5 then (zai w t p).take 1 else zai w t p
def zaL (w:List Data):Nat->Ty->Pat->List Vt
 |0,_,_=>[]
 |n+1,t,p=>zaY t p++zbs (zaL w n) (zd1 w t p) p.kids
def zba (l:List Vt) (n:Int):Int:=idxF (fun v=>decide (v.var=n)) l 0
def zeg (a b:List Vt):Bool:=a.all (fun v=>decide (0<=zba b v.var/\(nth b (zba b v.var).toNat).ty=v.ty))&&decide (a.length=b.length)
def zqo (l:List Vt):Bool:=(List.range l.length).all fun(i:Nat)=>decide (zba l (nth l i).var=(i:Int))
def zeO (a b:List Vt):Bool:=decide (a.length=b.length)&& !a.any fun v=> !decide (v∈b)
def zc7 (l:List Vt):Bool:=decide (l.map Vt.var).Nodup
def linP (w:List Data):Nat->Ty->Pat->Bool
 |0,_,_=>true
 |n+1,t,p=>all2 (linP w n) (zai w t p) p.kids&&(if p.op=5 then zeg (zaL w n t (nth p.kids 0)) (zaL w n t (nth p.kids 1)) else zqo (zaL w (n+1) t p))
theorem zfO (l:List Vt) (n:Int):(zba l n = -1/\∀v∈l,v.var≠n)\/∃k:Nat,zba l n=k/\k<l.length/\(nth l k).var=n/\∀j,j<k->(nth l j).var≠n:=by
 have key:∀(l:List Vt) (i:Nat),(idxF (fun v=>decide (v.var=n)) l i = -1/\∀v∈l,v.var≠n)\/∃k:Nat,idxF (fun v=>decide (v.var=n)) l i=((i+k:Nat):Int)/\k<l.length/\(nth l k).var=n/\∀j,j<k->(nth l j).var≠n:=by
  intro l;induction l with
  |nil=>intro i;exact .inl ⟨Z,by simp⟩
  |cons x r ih=>
   intro i;unfold idxF;by_cases h:x.var=n
   ·exact .inr ⟨0,by simp[h],by simp,by simpa [nth] using h,fun j hj=>absurd hj od⟩
   ·rcases ih (i+1) with ⟨h1,h2⟩|⟨k,h1,h2,h3,h4⟩
    ·exact .inl ⟨by simpa [h] using h1,fun v hv=>by rcases List.mem_cons.1 hv with rfl|hv;exact h;exact h2 v hv⟩
    ·refine .inr ⟨k+1, ?_,by simpa using h2,by simpa [nth] using h3,fun j hj=>?_⟩
     ·simp only[h,decide_false,Bool.false_eq_true,if_false];rw[h1];congr 1;omega
     ·cases j with
      |zero=>simpa [nth] using h
      |succ j=>simpa [nth] using h4 j od
 rcases key l 0 with h|⟨k,h1,h2⟩
 ·exact .inl h
 ·exact .inr ⟨k,by unfold zba;simpa using h1,h2⟩
theorem zpF {l:List Vt}:(l.map Vt.var).Nodup↔∀i j,i<j->j<l.length->(nth l i).var≠(nth l j).var:=by
 unfold List.Nodup;rw[List.pairwise_iff_getElem];constructor
 ·intro h i j hij hj;have:=h i j ot (by simpa using hj) hij;simp only[List.getElem_map] at this;rw[zaJ od,zaJ hj];exact this
 ·intro h i j hi hj hij;simp only[xac] at hi hj;simp only[List.getElem_map];rw[<-zaJ hi,<-zaJ hj];exact h i j hij hj
theorem zkG {l:List Vt} (h:(l.map Vt.var).Nodup){i j:Nat} (hi:i<l.length) (hj:j<l.length) (he:(nth l i).var=(nth l j).var):i=j:=by
 have h1:=zpF.1 h;rcases Nat.lt_trichotomy i j with h2|h2|h2
 ·exact absurd he (h1 i j h2 hj)
 ·exact h2
 ·exact absurd he.symm (h1 j i h2 hi)
theorem zq7 (l:List Vt):zqo l=zc7 l:=by
 unfold zc7;by_cases h:(l.map Vt.var).Nodup
 ·rw[xax h];refine zdY (fun i hi=>xax ?_);rcases zfO l (nth l i).var with ⟨_,h2⟩|⟨k,h1,h2,h3,h4⟩
  ·exact absurd Z (h2 _ (zaf hi))
  ·rw[h1,zkG h h2 hi h3]
 ·rw[xaw h];cases hd:zqo l with
  |false=>rfl
  |true=>
   refine absurd ?_ h;rw[zpF];intro i j hij hj he;have h1:=List.all_eq_true.1 hd i (List.mem_range.2 od);have h2:=List.all_eq_true.1 hd j (List.mem_range.2 hj);simp only[xah] at h1 h2;rw[he,h2] at h1;omega
theorem ztc {a b:List Vt} (hb:zc7 b=true):zeg a b=zeO a b:=by
 unfold zc7 at hb;simp only[xah] at hb;unfold zeg zeO;rw[Bool.and_comm];congr 1
 rw[xat];simp only[List.all_eq_true,Bool.not_eq_true',List.any_eq_false,xah,Bool.not_eq_true,decide_eq_false_iff_not,Decidable.not_not];refine forall_congr' fun v=>forall_congr' fun hv=>?_;rcases zfO b v.var with ⟨h1,h2⟩|⟨k,h1,h2,h3,h4⟩
 ·rw[h1];exact⟨fun h=>absurd h.1 od,fun h=>absurd rfl (h2 v h)⟩
 ·rw[h1];simp only[Int.toNat_natCast];constructor
  ·rintro ⟨_,h⟩
   have:nth b k=v:=by
    have e:∀x y:Vt,x.var=y.var->x.ty=y.ty->x=y:=fun x y h1 h2=>by cases x;cases y;simp_all
    exact e _ _ h3 h
   rw[<-this];exact zaf h2
  ·intro h;refine⟨by omega, ?_⟩;obtain⟨j,hj,he⟩:=List.getElem_of_mem h;have h5:nth b j=v:=by rw[zaJ hj];exact he
   have:=zkG hb h2 hj (by rw[h3,h5]);rw[this,h5]
def zby (g:Ty->Pat->Int->Option (List Vt)×Int) (or:Bool):List Ty->List Pat->Nat->List Vt->Int->Option (List Vt)×Int
 |a::r,b::s,i,acc,c=>match (g a b c).1 with
  |none=>(none,(g a b c).2)
  |some l=>if or=true/\i=1 then (if zeO acc l=true then zby g or r s (i+1) acc (g a b c).2 else (none,(g a b c).2)) else zby g or r s (i+1) (acc++l) (g a b c).2
 |_,_,_,acc,c=>(some acc,c)
def finV (r:Option (List Vt)×Int):Option (List Vt)×Int:=match r.1 with
 |none=>r
 |some l=>if zc7 l=true then r else (none,r.2)
def zaU (w:List Data):Nat->Ty->Pat->Int->Option (List Vt)×Int
 |0,_,_,c=>(none,c+1)
 |n+1,t,p,c=>if 60<c+1 then (none,c+1) else if okP w t p=true then finV (zby (zaU w n) (decide (p.op=5)) (zai w t p) p.kids 0 (zaY t p) (c+1)) else (none,c+1)
def zb6 (w:List Data) (n:Nat) (t:Ty) (p:Pat) (c:Int):Bool:=zat w n t p&&(decide (c+(p.size:Int)<=60)&&linP w n t p)
theorem zih (w:List Data):∀(n:Nat) (t:Ty) (p:Pat),zat w n t p=true->linP w n t p=true->zc7 (zaL w n t p)=true
 |0,t,p,h,_=>by simp[zat] at h
 |n+1,t,p,h,hl=>by
  by_cases h5:p.op=5
  ·simp only[zat,linP,xad,if_pos h5] at h hl;have e1:zai w t p=[t,t]:=by unfold zai;rw[if_neg od,if_pos h5]
   rw[e1] at h hl;rcases hk:p.kids with _|⟨x,_|⟨y,_|⟨z,r⟩⟩⟩
   ·rw[hk] at h;simp[all2] at h
   ·rw[hk] at h;simp[all2] at h
   ·rw[hk] at h hl;simp only[all2,xad,and_true] at h hl;have:=zih w n t x h.2.1 hl.1.1;have e2:zaL w (n+1) t p=zaL w n t x:=by
     simp only[zaL,zaY,zd1,e1,hk,if_pos h5];rw[if_neg od];simp[zbs]
    rw[e2];exact this
   ·rw[hk] at h;simp[all2] at h
  ·simp only[linP,if_neg h5,xad] at hl;rw[<-zq7];exact hl.2
theorem zr0 {w:List Data}{n:Nat} (ih:∀t p c,((zaU w n t p c).1=if zb6 w n t p c=true then some (zaL w n t p) else none)/\(zb6 w n t p c=true->(zaU w n t p c).2=c+p.size)):
  ∀(a:List Ty) (b:List Pat) (i:Nat) (acc:List Vt) (c:Int),a.length=b.length->c<=60->
   ((zby (zaU w n) false a b i acc c).1=if (all2 (zat w n) a b&&(decide (c+(Pats.size b:Int)<=60)&&all2 (linP w n) a b))=true then some (acc++zbs (zaL w n) a b) else none)/\
   ((all2 (zat w n) a b&&(decide (c+(Pats.size b:Int)<=60)&&all2 (linP w n) a b))=true->(zby (zaU w n) false a b i acc c).2=c+Pats.size b)
 | [],[],i,acc,c,_,hc=>by simp[zby,all2,Pats.size,zbs,hc]
 |x::r,y::s,i,acc,c,hl,hc=>by
  obtain⟨h1,h2⟩:=ih x y c;have hps:Pats.size (y::s)=y.size+Pats.size s:=rfl;simp only[zby,zbs];by_cases hw:zb6 w n x y c=true
  ·have h3:=h2 hw;rw[if_pos hw] at h1;rw[h1];simp only[Bool.false_eq_true,false_and,if_false];have h4:=hw;simp only[zb6,xad,xah] at h4;obtain⟨h5,h6⟩:=zr0 ih r s (i+1) (acc++zaL w n x y) (zaU w n x y c).2 (by simpa using hl) od;have e:(all2 (zat w n) (x::r) (y::s)&&(decide (c+(Pats.size (y::s):Int)<=60)&&all2 (linP w n) (x::r) (y::s)))=(all2 (zat w n) r s&&(decide ((zaU w n x y c).2+(Pats.size s:Int)<=60)&&all2 (linP w n) r s)):=by
    rw[all2,all2,h4.1,h4.2.2,h3];simp only[Bool.true_and];congr 2
    exact decide_eq_decide.2 od
   rw[e];refine⟨?_,fun hx=>?_⟩
   ·rw[h5,xar]
   ·rw[h6 hx,h3];omega
  ·rw[if_neg hw] at h1;rw[h1];simp only;have hf:¬(all2 (zat w n) (x::r) (y::s)&&(decide (c+(Pats.size (y::s):Int)<=60)&&all2 (linP w n) (x::r) (y::s)))=true:=fun h=>by
    simp only[all2,xad,xah] at h;refine hw ?_;simp only[zb6,xad,xah];refine⟨h.1.1, ?_,h.2.2.1⟩;have:=h.2.1;omega
   rw[if_neg hf];exact⟨rfl,fun h=>absurd h hf⟩
 | [],_::_,_,_,_,hl,_=>by simp at hl
 |_::_,[],_,_,_,hl,_=>by simp at hl
theorem zgl (w:List Data):∀(n:Nat) (t:Ty) (p:Pat) (c:Int),((zaU w n t p c).1=if zb6 w n t p c=true then some (zaL w n t p) else none)/\(zb6 w n t p c=true->(zaU w n t p c).2=c+p.size)
 |0,t,p,c=>by simp[zaU,zb6,zat]
 |n+1,t,p,c=>by
  have hsz:=xa5 p;unfold zaU;by_cases h1:60<c+1
  ·have hf:¬zb6 w (n+1) t p c=true:=fun h=>by
    simp only[zb6,xad,xah] at h;omega
   rw[if_pos h1,if_neg hf];exact⟨rfl,fun h=>absurd h hf⟩
  rw[if_neg h1];by_cases h2:okP w t p=true
  ·rw[if_pos h2];have h2':=h2;simp only[okP,xad,xah] at h2';by_cases h5:p.op=5
   ·have e1:zai w t p=[t,t]:=by unfold zai;rw[if_neg od,if_pos h5]
    have e3:zaY t p=[]:=by unfold zaY;rw[if_neg od]
    rw[e1] at h2';rcases hk:p.kids with _|⟨x,_|⟨y,_|⟨z,r⟩⟩⟩
    ·rw[hk] at h2';simp at h2'
    ·rw[hk] at h2';simp at h2'
    ·have e4:zaL w (n+1) t p=zaL w n t x:=by
      simp only[zaL,zd1,e1,hk,if_pos h5,e3];simp[zbs]
     have e5:zb6 w (n+1) t p c=((zat w n t x&&zat w n t y)&&(decide (c+1+(x.size:Int)+y.size<=60)&&((linP w n t x&&linP w n t y)&&zeg (zaL w n t x) (zaL w n t y)))):=by
      simp only[zb6,zat,linP,h2'.1,e1,hk,all2,if_pos h5,Bool.and_true,Bool.true_and,nth,List.getD_cons_zero,List.getD_cons_succ];congr 2
      refine decide_eq_decide.2 ?_;rw[hsz,hk];simp only[Pats.size];push_cast;omega
     rw[e4,e5,e1,e3];obtain⟨a1,a2⟩:=zgl w n t x (c+1);simp only[zby,h5,decide_true];by_cases w1:zb6 w n t x (c+1)=true
     ·have a3:=a2 w1;rw[if_pos w1] at a1;have b1:=w1;simp only[zb6,xad,xah] at b1;obtain⟨d1,d2⟩:=zgl w n t y (zaU w n t x (c+1)).2;rw[a1];simp only[true_and,Nat.zero_ne_one,if_false,List.nil_append];by_cases w2:zb6 w n t y (zaU w n t x (c+1)).2=true
      ·have d3:=d2 w2;rw[if_pos w2] at d1;have b2:=w2;simp only[zb6,xad,xah] at b2;rw[d1];simp only[Nat.zero_add,if_true];have n1:=zih w n t x b1.1 b1.2.2;have n2:=zih w n t y b2.1 b2.2.2;have e6:((zat w n t x&&zat w n t y)&&(decide (c+1+(x.size:Int)+y.size<=60)&&((linP w n t x&&linP w n t y)&&zeg (zaL w n t x) (zaL w n t y))))=zeO (zaL w n t x) (zaL w n t y):=by
        rw[b1.1,b2.1,b1.2.2,b2.2.2,ztc n2,xax od];simp
       rw[e6];by_cases hs:zeO (zaL w n t x) (zaL w n t y)=true
       ·rw[if_pos hs,if_pos hs];simp only[finV,n1,if_true];refine⟨trivial,fun _=>?_⟩;rw[d3,a3,hsz,hk];simp only[Pats.size];push_cast;omega
       ·rw[if_neg hs,if_neg hs];simp only[finV];exact⟨trivial,fun h=>absurd h hs⟩
      ·rw[if_neg w2] at d1;rw[d1];simp only[finV];have hf:¬((zat w n t x&&zat w n t y)&&(decide (c+1+(x.size:Int)+y.size<=60)&&((linP w n t x&&linP w n t y)&&zeg (zaL w n t x) (zaL w n t y))))=true:=fun h=>by
        simp only[xad,xah] at h;refine w2 ?_;simp only[zb6,xad,xah];exact⟨h.1.2,by omega,h.2.2.1.2⟩
       rw[if_neg hf];exact⟨rfl,fun h=>absurd h hf⟩
     ·rw[if_neg w1] at a1;rw[a1];simp only[finV];have hf:¬((zat w n t x&&zat w n t y)&&(decide (c+1+(x.size:Int)+y.size<=60)&&((linP w n t x&&linP w n t y)&&zeg (zaL w n t x) (zaL w n t y))))=true:=fun h=>by
       simp only[xad,xah] at h;refine w1 ?_;simp only[zb6,xad,xah];exact⟨h.1.1,by omega,h.2.2.1.1⟩
      rw[if_neg hf];exact⟨rfl,fun h=>absurd h hf⟩
    ·rw[hk] at h2';simp at h2'
   ·have e0:(decide (p.op=5))=false:=xaw h5;rw[e0];obtain⟨a1,a2⟩:=zr0 (fun t p c=>zgl w n t p c) (zai w t p) p.kids 0 (zaY t p) (c+1) h2'.2.symm od;have e4:zaL w (n+1) t p=zaY t p++zbs (zaL w n) (zai w t p) p.kids:=by simp only[zaL,zd1,if_neg h5]
    have e5:zb6 w (n+1) t p c=((all2 (zat w n) (zai w t p) p.kids&&(decide (c+1+(Pats.size p.kids:Int)<=60)&&all2 (linP w n) (zai w t p) p.kids))&&zc7 (zaL w (n+1) t p)):=by
     have:decide (c+(p.size:Int)<=60)=decide (c+1+(Pats.size p.kids:Int)<=60):=decide_eq_decide.2 od;simp only[zb6,zat,linP,h2'.1,if_neg h5,Bool.true_and,zq7,this,Bool.and_assoc]
    rw[e5];by_cases hw:(all2 (zat w n) (zai w t p) p.kids&&(decide (c+1+(Pats.size p.kids:Int)<=60)&&all2 (linP w n) (zai w t p) p.kids))=true
    ·rw[if_pos hw,<-e4] at a1;have a3:=a2 hw;rw[hw,Bool.true_and];unfold finV;rw[a1];by_cases hn:zc7 (zaL w (n+1) t p)=true
     ·simp only[hn,if_true];exact⟨a1,fun _=>by rw[a3];omega⟩
     ·simp only[hn,Bool.false_eq_true,if_false];exact⟨trivial,fun h=>absurd h oi⟩
    ·rw[if_neg hw] at a1;have hw':(all2 (zat w n) (zai w t p) p.kids&&(decide (c+1+(Pats.size p.kids:Int)<=60)&&all2 (linP w n) (zai w t p) p.kids))=false:=by simpa using hw
     rw[hw',Bool.false_and];unfold finV;rw[a1];simp[a1]
  ·have hf:¬zb6 w (n+1) t p c=true:=fun h=>by
    simp only[zb6,zat,xad,xah] at h;refine h2 ?_;simp only[okP,xad,xah];refine⟨h.1.1, ?_⟩;by_cases hl:(zai w t p).length=p.kids.length
    ·exact hl.symm
    ·have:=zhz (f:=zat w n) hl;rw[this] at h;simp at h
   rw[if_neg h2,if_neg hf];exact⟨rfl,fun h=>absurd h hf⟩
mutual
def cntP (m:Int):Pat->Int
 | .mk _ _ _ _ _ ks=>zdD m 1 ks
def zdD (m n:Int):List Pat->Int
 | []=>n
 |k::r=>if n<=m then zdD m (n+cntP (m-n) k) r else n
end
theorem zw3 (m:Int) (v:Pat):cntP m v=zdD m 1 v.kids:=by cases v;rfl
theorem zm8 {m n:Int}{l:List Pat} (h:¬n<=m):zdD m n l=n:=by cases l<;>simp[zdD,h]
mutual
theorem zlj:∀(v:Pat) (m:Int),1<=cntP m v/\cntP m v<=v.size
 | .mk _ _ _ _ _ ks,m=>by
  have:=zl7 ks m 1 od;simp only[cntP,Pat.size];push_cast;omega
theorem zl7:∀(l:List Pat) (m n:Int),1<=n->1<=zdD m n l/\zdD m n l<=n+Pats.size l
 | [],m,n,h=>by simp[zdD,Pats.size];omega
 |k::r,m,n,h=>by
  have h1:=zlj k (m-n);have h2:=zl7 r m (n+cntP (m-n) k) od;simp only[zdD,Pats.size];split
  ·push_cast;omega
  ·push_cast;omega
end
mutual
theorem zq1:∀(v:Pat) (m:Int),(cntP m v<=m↔(v.size:Int)<=m)/\(cntP m v<=m->cntP m v=v.size)
 | .mk _ _ _ _ _ ks,m=>by
  have:=zpc ks m 1;simp only[cntP,Pat.size];push_cast;exact this
theorem zpc:∀(l:List Pat) (m n:Int),(zdD m n l<=m↔n+(Pats.size l:Int)<=m)/\(zdD m n l<=m->zdD m n l=n+Pats.size l)
 | [],m,n=>by simp[zdD,Pats.size]
 |k::r,m,n=>by
  have h1:=zq1 k (m-n);have h2:=zpc r m (n+cntP (m-n) k);have h3:=zl7 r m (n+cntP (m-n) k);have h4:=zlj k (m-n);simp only[zdD,Pats.size];push_cast
  by_cases hn:n<=m
  ·rw[if_pos hn];by_cases h5:cntP (m-n) k<=m-n
   ·have h6:=h1.2 h5;rw[h6] at h2 ⊢;constructor
    ·rw[h2.1];constructor<;>intro h<;>omega
    ·intro h;rw[h2.2 h];omega
   ·have h7:¬(k.size:Int)<=m-n:=fun h=>h5 (h1.1.2 h);have h8:¬n+cntP (m-n) k<=m:=by omega
    rw[zm8 h8];constructor
    ·constructor<;>intro h<;>omega
    ·intro h;omega
  ·rw[if_neg hn];constructor
   ·constructor<;>intro h<;>omega
   ·intro h;omega
end
theorem xba {pre rest l:List Pat}{y:Pat} (h:pre++y::rest=l):Pats.size l=Pats.size pre+y.size+Pats.size rest:=by
 subst h;induction pre with
 |nil=>simp[Pats.size]
 |cons x r ih=>simp only[xai,Pats.size,ih];omega
theorem zfF {l:List Pat}{i:Nat} (h:i<l.length):(nth l i).size<=Pats.size l:=xa8 (zaf h)
theorem znP {l:List Pat}{i:Nat} (h:i<l.length):Pats.size (l.drop i)=(nth l i).size+Pats.size (l.drop (i+1)):=by
 rw[zaF h];rfl
theorem ox{p:Prop}(h:p:=by dsimp only;omega):p:=h
theorem zf2:∀(n:Nat){v:Pat}{m:Int},v.size<=n->v.size<=1000000000000->v.ok->0<=m->m<=1000000000000->FnD Tryz.prog 244 [.agg [.d (.i v.op),.d (.i v.ctor),.d (.i v.n),.d (.i v.m),.d (.i v.var),.d (zak v.kids)],.d (.i m)] [] (.d (.i (cntP m v))) []
 |0,v,m,h,_,_,_,_=>by rw[xa5] at h;omega
 |n+1,v,m,h,hb,hok,m0,m1=>by
  rw[xa5] at h hb;rw[xa4] at hok;rw[zw3];refine bd Tryz.f244 31 [] [] fun _ _ _ _ hk=>?_;refine bx 3002 ?_;refine ev (xaB (ι:=Nat×Int) hk (fun x=>[(6,.d (.i (x.1:Int))),(5,.d (.i x.2))]) [7,8,9,10,11,12,13,14,15,16,17,18,19,20,21,22,23,24,25,26,27,28,29] (fun x=>[]) (fun x=>x.1<=v.kids.length/\zdD m x.2 (v.kids.drop x.1)=zdD m 1 v.kids/\1<=x.2/\x.2+Pats.size (v.kids.drop x.1)<=1+Pats.size v.kids) (fun x=>v.kids.length-x.1) (0,1) ⟨by simp,by simp,by simp,by simp⟩ ⟨⟨_,Z,xaU ?_⟩,⟨⟨_,Z,xaU ?_⟩,O⟩⟩ O (fun x=>rfl) (fun x hg1=>?_));iterate 2 focus (rfl)
  refine evc [] [] ?_;apply sq<;>intro h1 h1p h1s<;>(try simp only[Q,xa3] at h1p);apply sq<;>intro h2 h2p h2s<;>(try simp only[Q,xa3] at h2p);refine ixq sl72 Z Z Z (zaE od) Z ?_;refine ev (ar ?_ (by(constructor<;>omega)));refine wc zqV (zf2 n (v:=nth v.kids x.1) (by have:=zfF (l:=v.kids) (i:=x.1) od;omega) (by have:=zfF (l:=v.kids) (i:=x.1) od;omega) (xa6 hok.2 _ (zaf od)) od od) Z Z ?_;refine ev (ar ?_ (by(have hz:=zlj (nth v.kids x.1) (m-x.2);have hs:=znP (l:=v.kids) (i:=x.1) od;constructor<;>omega)));refine ar ?_ (by(constructor<;>omega));refine xaj ((x.1+1,x.2+cntP (m-x.2) (nth v.kids x.1))) ⟨(by
      have hz:=zlj (nth v.kids x.1) (m-x.2);have hs:=znP (l:=v.kids) (i:=x.1) od;refine⟨by dsimp only;omega, ?_,by dsimp only;omega,by dsimp only;omega⟩;rw[<-hg1.2.1,zaF (l:=v.kids) (i:=x.1) od,zdD,if_pos od]),ox,sx ⟨⟨_,rfl,xaU ?_⟩,⟨⟨_,rfl,xaU ?_⟩,trivial⟩⟩ trivial⟩
  iterate 2 focus (rfl)
  refine rq ?_;rotate_left;refine sqF ?_;refine rq ?_;rotate_left;all_goals (refine xam D.i ?_;rw[<-hg1.2.1];first|(rw[List.drop_eq_nil_of_le od];rfl)|(rw[zm8 od]))
set_option maxHeartbeats 4000000
theorem ziz {w:List Data}{d:Nat}{k:Int}:zas w ⟨d,k⟩=zbg w ⟨d,k⟩:=by unfold zas;rw[if_neg (by simp only;omega)]
theorem zhr {w:List Data}{k:Int}:zas w ⟨-1,k⟩=[]:=by unfold zas;rw[if_pos rfl]
theorem zf6 {w:List Data} (hw:WT w){a k:Int} (ht:TyIn w.length ⟨a,k⟩):(zas w ⟨a,k⟩).length<=1000000000000:=by
 rcases ht with ha|⟨d,hd,hlt⟩
 ·simp only at ha;subst ha;rw[zhr];exact Nat.zero_le _
 ·simp only at hd;subst hd;rw[ziz];exact zso hw
theorem zbE {w:List Data}{a k c:Int} (ht:TyIn w.length ⟨a,k⟩) (h:c∈zas w ⟨a,k⟩):∃d:Nat,a=d/\d<w.length/\PlaceIn w d c:=by
 rcases ht with ha|⟨d,hd,hlt⟩
 ·simp only at ha;subst ha;rw[zhr] at h;simp at h
 ·simp only at hd;subst hd;rw[ziz] at h;exact⟨d,rfl,hlt,zrO h⟩
theorem zeT {w:List Data} (hw:WT w){a k:Int}{p:Pat} (ht:TyIn w.length ⟨a,k⟩) (h:ownP w ⟨a,k⟩ p=true):∀t∈zai w ⟨a,k⟩ p,TyIn w.length t:=by
 intro t hm;unfold zai at hm;split at hm
 ·rename_i h4;unfold ownP at h;have h':=xas h;have hc:p.ctor∈zas w ⟨a,k⟩:=by
   rcases h'.2.2.2.2 with h|h|h|h|h|h
   ·omega
   ·omega
   ·omega
   ·omega
   ·omega
   ·exact h.2
  obtain⟨d,rfl,h1,h2⟩:=zbE ht hc;exact zkh hw h1 h2 hm
 ·split at hm
  ·simp only[List.mem_cons,xau,or_false] at hm;rcases hm with rfl|rfl<;>exact ht
  ·split at hm
   ·simp only[List.mem_cons,xau,or_false] at hm;subst hm;exact ht
   ·simp at hm
theorem zho {w:List Data} (hw:WT w){a k:Int}{p:Pat} (ht:TyIn w.length ⟨a,k⟩) (h:p.op=4->p.ctor∈zas w ⟨a,k⟩):(zai w ⟨a,k⟩ p).length<=1000000000000:=by
 unfold zai;split
 ·rename_i h4;obtain⟨d,rfl,h1,h2⟩:=zbE ht (h h4);exact zjl hw h1 h2
 ·split
  ·simp
  ·split<;>simp
def zgw (op:Int):Int:=if op=5 then 2 else if op=6 then 1 else if op=4 then -1 else 0
theorem zo1 {op:Int}:FnD Tryz.prog 190 [.d (.i op)] [] (.d (.i (zgw op))) []:=by
 refine bd Tryz.f190 10 [] [] fun _ _ _ _ hk=>?_;apply sq<;>intro h1 h1p h1s;refine rq ?_;rotate_left;apply sq<;>intro h2 h2p h2s;refine rq ?_;rotate_left;apply sq<;>intro h3 h3p h3s;refine rq ?_;rotate_left;refine rq ?_;rotate_left;all_goals (refine xam D.i ?_;simp only[zgw];simp_all)
theorem zb5 {w:List Data} (hw:WT w){a k:Int} (ht:TyIn w.length ⟨a,k⟩):FnD Tryz.prog 145 [.d (zaj w),.agg [.d (.i a),.d (.i k)]] [] (.d (zcB (zas w ⟨a,k⟩))) []:=by
 rcases ht with ha|⟨d,hd,hlt⟩
 ·simp only at ha;subst ha;rw[zhr];exact zkd
 ·simp only at hd;subst hd;rw[ziz];exact zn5 hw hlt
theorem zb4 {w:List Data} (hw:WT w){a k c:Int} (ht:TyIn w.length ⟨a,k⟩) (hc:c∈zas w ⟨a,k⟩):FnD Tryz.prog 146 [.d (zaj w),.agg [.d (.i a),.d (.i k)],.d (.i c)] [] (.d (zbZ (zae w ⟨a,k⟩ c))) []:=by
 obtain⟨d,rfl,h1,h2⟩:=zbE ht hc;exact zoT hw h1 h2
theorem zgZ {w:List Data} (hw:WT w){a k:Int}{p:Pat} (ht:TyIn w.length ⟨a,k⟩):
  FnD Tryz.prog 272 [.d (zaj w),.agg [.d (.i a),.d (.i k)],.agg [.d (.i p.op),.d (.i p.ctor),.d (.i p.n),.d (.i p.m),.d (.i p.var),.d (zak p.kids)]] [] (.d (.bool (ownP w ⟨a,k⟩ p))) []:=by
 have hcl:=zf6 hw ht;refine bd Tryz.f272 96 [] [1,2,4,13] fun _ _ _ _ hk=>?_;refine bx 3004 ?_;refine bx 3005 ?_;refine ev (xaC (xbn 8 [(15,.d (.bool (decide (p.op=2\/p.op=6))))] [8,9,10,11,12,13,14] ?_ ?_));refine ev ?_;apply sq<;>intro h1 h1p h1s;exact jnb Z;exact jnb Z;refine xbm (ev (xaC (xbn 11 [(26,.d (.bool (decide ((p.op=2\/p.op=6)/\(p.var<0\/5<p.var)))))] [16,17,18,19,20,21,22,23,24,25] ?_ ?_)));refine ev ?_;apply sq<;>intro h2 h2p h2s;apply sq<;>intro h3 h3p h3s;exact jnb Z;exact jnb Z;exact jnb Z;refine xbn 9 [(35,.d (.bool (decide ((p.op=2\/p.op=6)/\(p.var<0\/5<p.var)\/¬(p.op=2\/p.op=6)/\p.var≠0))))] [27,28,29,30,31,32,33,34] ?_ ?_;refine ev ?_;apply sq<;>intro h4 h4p h4s;exact jnb Z;apply sq<;>intro h5 h5p h5s;exact jnb Z;exact jnb Z;refine xbm ?_;apply tv;apply sq<;>intro h6 h6p h6s;refine rq ?_;rotate_left;refine xaC (xbn 13 [(48,.d (.bool (decide (p.op≠3/\(p.n≠0\/p.m≠0)))))] [36,37,38,39,40,41,42,43,44,45,46,47] ?_ ?_);refine ev ?_;apply sq<;>intro h7 h7p h7s;apply sq<;>intro h8 h8p h8s;exact jnb Z;exact jnb Z;exact jnb Z;refine xbn 10 [(58,.d (.bool (decide (p.op≠3/\(p.n≠0\/p.m≠0)\/p.op≠4/\p.ctor≠0))))] [49,50,51,52,53,54,55,56,57] ?_ ?_;refine ev ?_;apply sq<;>intro h9 h9p h9s;exact jnb Z;apply sq<;>intro h10 h10p h10s;exact jnb Z;exact jnb Z;refine xbm ?_;apply tv;apply sq<;>intro h11 h11p h11s;refine rq ?_;rotate_left;apply sq<;>intro h12 h12p h12s;apply sq<;>intro h13 h13p h13s;refine rq ?_;rotate_left;apply sq<;>intro h14 h14p h14s;refine xaC (xbn 8 [(75,.d (.bool (decide (a = -1/\0<=p.n))))] [68,69,70,71,72,73,74] ?_ ?_);refine ev ?_;apply sq<;>intro h15 h15p h15s;exact jnb Z;exact jnb Z;refine xbn 7 [(82,.d (.bool (decide (a = -1/\0<=p.n/\p.n<=p.m))))] [76,77,78,79,80,81] ?_ ?_;refine ev ?_;apply sq<;>intro h16 h16p h16s;exact jnb Z;exact jnb Z;refine xbn 5 [(87,.d (.bool (decide (a = -1/\0<=p.n/\p.n<=p.m/\p.m<=9))))] [83,84,85,86] ?_ ?_;refine ev ?_;apply sq<;>intro h17 h17p h17s;exact jnb Z;exact jnb Z;refine xbm (ev (rq ?_));rotate_left;apply sq<;>intro h18 h18p h18s;refine wc zfL (zb5 hw ht) Z Z ?_;refine evd [] [] (wc ziS (zdA hcl) Z Z ?_);refine evd [] [] (dr (rq ?_));rotate_left;refine rq ?_;rotate_left;apply sq<;>intro h19 h19p h19s;apply sq<;>intro h20 h20p h20s;refine rq ?_;rotate_left;apply sq<;>intro h21 h21p h21s;refine xaC (xbn 8 [(75,.d (.bool (decide (a = -1/\0<=p.n))))] [68,69,70,71,72,73,74] ?_ ?_);refine ev ?_;apply sq<;>intro h22 h22p h22s;exact jnb Z;exact jnb Z;refine xbn 7 [(82,.d (.bool (decide (a = -1/\0<=p.n/\p.n<=p.m))))] [76,77,78,79,80,81] ?_ ?_;refine ev ?_;apply sq<;>intro h23 h23p h23s;exact jnb Z;exact jnb Z;refine xbn 5 [(87,.d (.bool (decide (a = -1/\0<=p.n/\p.n<=p.m/\p.m<=9))))] [83,84,85,86] ?_ ?_;refine ev ?_;apply sq<;>intro h24 h24p h24s;exact jnb Z;exact jnb Z;refine xbm (ev (rq ?_));rotate_left;apply sq<;>intro h25 h25p h25s;refine wc zfL (zb5 hw ht) Z Z ?_;refine evd [] [] (wc ziS (zdA hcl) Z Z ?_);refine evd [] [] (dr (rq ?_));rotate_left;refine rq ?_;rotate_left;apply sq<;>intro h26 h26p h26s;apply sq<;>intro h27 h27p h27s;refine rq ?_;rotate_left;apply sq<;>intro h28 h28p h28s;refine xaC (xbn 8 [(75,.d (.bool (decide (a = -1/\0<=p.n))))] [68,69,70,71,72,73,74] ?_ ?_);refine ev ?_;apply sq<;>intro h29 h29p h29s;exact jnb Z;exact jnb Z;refine xbn 7 [(82,.d (.bool (decide (a = -1/\0<=p.n/\p.n<=p.m))))] [76,77,78,79,80,81] ?_ ?_;refine ev ?_;apply sq<;>intro h30 h30p h30s;exact jnb Z;exact jnb Z;refine xbn 5 [(87,.d (.bool (decide (a = -1/\0<=p.n/\p.n<=p.m/\p.m<=9))))] [83,84,85,86] ?_ ?_;refine ev ?_;apply sq<;>intro h31 h31p h31s;exact jnb Z;exact jnb Z;refine xbm (ev (rq ?_));rotate_left;apply sq<;>intro h32 h32p h32s;refine wc zfL (zb5 hw ht) Z Z ?_;refine evd [] [] (wc ziS (zdA hcl) Z Z ?_);refine evd [] [] (dr (rq ?_));rotate_left;refine rq ?_;rotate_left;apply sq<;>intro h33 h33p h33s;refine rq ?_;rotate_left;apply sq<;>intro h34 h34p h34s;refine xaC (xbn 8 [(75,.d (.bool (decide (a = -1/\0<=p.n))))] [68,69,70,71,72,73,74] ?_ ?_);refine ev ?_;apply sq<;>intro h35 h35p h35s;exact jnb Z;exact jnb Z;refine xbn 7 [(82,.d (.bool (decide (a = -1/\0<=p.n/\p.n<=p.m))))] [76,77,78,79,80,81] ?_ ?_;refine ev ?_;apply sq<;>intro h36 h36p h36s;exact jnb Z;exact jnb Z;refine xbn 5 [(87,.d (.bool (decide (a = -1/\0<=p.n/\p.n<=p.m/\p.m<=9))))] [83,84,85,86] ?_ ?_;refine ev ?_;apply sq<;>intro h37 h37p h37s;exact jnb Z;exact jnb Z;refine xbm (ev (rq ?_));rotate_left;apply sq<;>intro h38 h38p h38s;refine wc zfL (zb5 hw ht) Z Z ?_;refine evd [] [] (wc ziS (zdA hcl) Z Z ?_);refine evd [] [] (dr (rq ?_));rotate_left;refine rq ?_;rotate_left;all_goals (refine xam D.bool ?_;unfold ownP;rw[xat];by_cases hmem:p.ctor∈zas w ⟨a,k⟩<;>(simp only[hmem,and_true,and_false,or_false,xah,xad,Bool.false_eq_true,true_iff,false_iff];simp only[xah,decide_eq_false_iff_not] at *;omega))
theorem zdM {w:List Data} (hw:WT w){a k:Int}{p:Pat} (ht:TyIn w.length ⟨a,k⟩) (h:p.op=4->p.ctor∈zas w ⟨a,k⟩):
  FnD Tryz.prog 136 [.d (zaj w),.agg [.d (.i a),.d (.i k)],.agg [.d (.i p.op),.d (.i p.ctor),.d (.i p.n),.d (.i p.m),.d (.i p.var),.d (zak p.kids)]] [] (.d (zbZ (zai w ⟨a,k⟩ p))) []:=by
 by_cases h4:p.op=4
 ·have e:zai w ⟨a,k⟩ p=zae w ⟨a,k⟩ p.ctor:=by unfold zai;rw[if_pos h4]
  rw[e];refine bd Tryz.f136 30 [] [] fun _ _ _ _ hk=>?_;refine bx 3004 ?_;refine bx 3005 ?_;refine ev ?_;apply sq<;>intro h1 h1p h1s;refine wc zbX (zb4 hw ht (h h4)) Z Z ?_;refine ev (rq ?_);rotate_left;exfalso;simp_all;all_goals (rfl)
 ·have e:zai w ⟨a,k⟩ p=List.replicate (zgw p.op).toNat ⟨a,k⟩:=by
   unfold zai zgw;rw[if_neg h4];by_cases h5:p.op=5
   ·rw[if_pos h5,if_pos h5];rfl
   ·rw[if_neg h5,if_neg h5];by_cases h6:p.op=6
    ·rw[if_pos h6,if_pos h6];rfl
    ·rw[if_neg h6,if_neg h6,if_neg h4];rfl
  have hb:0<=zgw p.op/\zgw p.op<=2:=by unfold zgw;split<;>(try split)<;>(try split)<;>omega
  rw[e];refine bd Tryz.f136 30 [] [] fun _ _ _ _ hk=>?_;refine bx 3004 ?_;refine bx 3005 ?_;refine ev ?_;apply sq<;>intro h1 h1p h1s;exfalso;simp_all;refine xb8 5 zaz .none Z Z (ev (xaB (ι:=Nat) hk (fun i=>[(8,.d (.i (i:Int))),(7,.gl 5 ((List.replicate i (⟨a,k⟩:Ty)).map Ty.c))]) [18,19,20,21,22,23,24,25,26,27,28] (fun i=>[(5,some (.tok (((List.replicate i (⟨a,k⟩:Ty)).map Ty.c)).length 2))]) (fun i=>(i:Int)<=zgw p.op) (fun i=>(zgw p.op).toNat-i) 0 od ⟨⟨_,Z,xaU ?_⟩,⟨⟨_,Z,LeA.glg ?_⟩,O⟩⟩ ⟨zac ?_,O⟩ (fun x=>rfl) (fun i hg1=>?_)));iterate 3 focus (rfl)
  refine evc [] [] (wc zx7 zo1 Z Z ?_);refine ev ?_;apply sq<;>intro h2 h2p h2s<;>(try simp only[Q] at h2p);refine si [0] [_] zaz tz29 ?_;refine ap zaz zz29 Z Z Z oi ot ?_;refine ev (ar (xaj (i+1) ⟨od,od,sx ⟨⟨_,Z,xaU ?_⟩,⟨⟨_,Z,LeA.glg ?_⟩,O⟩⟩ ⟨zac ?_,O⟩⟩));iterate 3 focus ((simp[List.replicate_succ'];done))
  refine rn0 (r1 Z) (.gld ?_);rotate_left;all_goals ((obtain rfl:i=(zgw p.op).toNat:=by omega);simp)
theorem zbR {w:List Data}{n:Nat}{t:Ty}{p:Pat} (h:zat w (n+1) t p=true):ownP w t p=true/\p.kids.length=(zai w t p).length:=by
 simp only[zat,xad] at h;refine⟨h.1, ?_⟩;by_cases hl:(zai w t p).length=p.kids.length
 ·exact hl.symm
 ·rw[zhz hl] at h;simp at h
theorem zcF {w:List Data}{t:Ty}{p:Pat} (h:ownP w t p=true):p.op=4->p.ctor∈zas w t:=by
 intro h4;unfold ownP at h;have h':=(xas h).2.2.2.2;rcases h' with h|h|h|h|h|h
 ·omega
 ·omega
 ·omega
 ·omega
 ·omega
 ·exact h.2
theorem zrD {w:List Data}{t:Ty}{p:Pat} (h:ownP w t p=true):(p.op=2\/p.op=6)->0<=p.var/\p.var<=5:=by
 unfold ownP at h;exact(xas h).1
theorem zf3 {w:List Data} (hw:WT w):∀(n:Nat){a k m:Int}{p:Pat},m=n->n<=1000->TyIn w.length ⟨a,k⟩->p.ok->
  FnD Tryz.prog 243 [.d (zaj w),.agg [.d (.i a),.d (.i k)],.agg [.d (.i p.op),.d (.i p.ctor),.d (.i p.n),.d (.i p.m),.d (.i p.var),.d (zak p.kids)],.d (.i m)] [] (.d (.bool (zat w n ⟨a,k⟩ p))) []
 |0,a,k,m,p,hm,_,ht,hok=>by
  refine bd Tryz.f243 50 [] [1] fun _ _ _ _ hk=>?_;refine bx 3005 ?_;refine bx 3006 ?_;refine ev (xaC (xbn 9 [(19,.d (.bool true))] [11,12,13,14,15,16,17,18] ?_ ?_));refine ev ?_;apply sq<;>intro h1 h1p h1s;exact jnb Z;refine Walk.call (cr:=[]) zqX (zgZ hw ht) Z (.some Z Z h1) Z Z (LeL.refl _) O Z Z Z (evs [] [(13,false)] ?_ ⟨⟨_,Z,h1⟩,O⟩);exact jnb Z;refine xbm ?_;apply tv;apply sq<;>intro h2 h2p h2s;refine rq ?_;rotate_left;exact absurd h2 oi;all_goals (rfl)
 |n+1,a,k,m,p,hm,hn,ht,hok=>by
  rw[xa4] at hok;by_cases ho:ownP w ⟨a,k⟩ p=true
  ·have hin:=zeT hw ht ho;have hlen:=zho hw ht (zcF ho);refine bd Tryz.f243 50 [] [1] fun _ _ _ _ hk=>?_;refine bx 3005 ?_;refine bx 3006 ?_;refine ev (xaC (xbn 9 [(19,.d (.bool false))] [11,12,13,14,15,16,17,18] ?_ ?_));refine ev ?_;apply sq<;>intro h1 h1p h1s;exact jnb Z;refine Walk.call (cr:=[]) zqX (zgZ hw ht) Z (.some Z Z h1) Z Z (LeL.refl _) O Z Z Z (evs [] [(13,false)] ?_ ⟨⟨_,Z,h1⟩,O⟩);exact jnb Z;refine xbm ?_;apply tv;apply sq<;>intro h2 h2p h2s;exact absurd h2 oi;refine wc zkl (zdM hw ht (zcF ho)) Z Z ?_;refine ev ?_;apply sq<;>intro h3 h3p h3s;refine rq ?_;rotate_left;try simp only[Q,xa3] at h3p
   refine xaB (ι:=Nat) hk (fun i=>[(10,.d (.i (i:Int)))]) [8,30,31,32,33,34,35,36,37,38,39,40,41,42,43,44,45,46,47,48,49] (fun i=>[]) (fun i=>i<=(zai w ⟨a,k⟩ p).length/\∀i',i'<i->zat w n (nth (zai w ⟨a,k⟩ p) i') (nth p.kids i')=true) (fun i=>(zai w ⟨a,k⟩ p).length-i) 0 ⟨by omega,fun _ h=>absurd h od⟩ ⟨⟨_,Z,xaU ?_⟩,O⟩ O (fun x=>rfl) (fun i hg1=>?_);focus (first|(simp;done)|(simp_all;done))
   refine evc [] [1] ?_;apply sq<;>intro h4 h4p h4s;try simp only[Q,xa3] at h4p
   refine ixq zaz Z Z Z (zah od) Z ?_;refine evd [] [] (ixq sl72 Z Z Z (zaE od) Z ?_);refine evd [] [] (ar (wc zqU (zf3 hw n od od (hin _ (zaf od)) (xa6 hok.2 _ (zaf od))) Z Z ?_));refine evd [] [] (dr ?_);apply sq<;>intro h5 h5p h5s;refine rq ?_;rotate_left;try simp only[Q,xa3] at h5p
   refine ar (xaj (i+1) ⟨⟨by omega,zaZ hg1.2 ol⟩,od,sx ⟨⟨_,Z,xaU ?_⟩,O⟩ O⟩);focus (first|(simp;done)|(simp_all;done))
   refine rq ?_;rotate_left;all_goals (refine xam D.bool ?_;unfold zat;rw[ho,Bool.true_and];first|(rw[zhz (by simp[xa3] at *;omega)])|(rw[zci (by simp[xa3] at *;omega) (fun x hx=>hg1.2 x (by simp[xa3] at *;omega))])|(rw[zbJ (i:=i) (by simp[xa3] at *;omega) (by simp[xa3] at *;omega) ol]))
  ·have ho':ownP w ⟨a,k⟩ p=false:=by simpa using ho
   refine bd Tryz.f243 50 [] [1] fun _ _ _ _ hk=>?_;refine bx 3005 ?_;refine bx 3006 ?_;refine ev (xaC (xbn 9 [(19,.d (.bool true))] [11,12,13,14,15,16,17,18] ?_ ?_));refine ev ?_;apply sq<;>intro h1 h1p h1s;exact jnb Z;refine Walk.call (cr:=[]) zqX (zgZ hw ht) Z (.some Z Z h1) Z Z (LeL.refl _) O Z Z Z (evs [] [(13,false)] ?_ ⟨⟨_,Z,h1⟩,O⟩);exact jnb Z;refine xbm ?_;apply tv;apply sq<;>intro h2 h2p h2s;refine rq ?_;rotate_left;exact absurd h2 oi;all_goals (refine xam D.bool ?_;unfold zat;rw[ho'];rfl)
theorem zdn {l:List Vt}{n:Int} (h:l.length<=1000000000000):FnD Tryz.prog 246 [.d (zbK l),.d (.i n)] [] (.d (.i (zba l n))) []:=by
 refine bd Tryz.f246 20 [] [] fun _ _ _ _ hk=>?_;refine xaB (ι:=List (Vt)×List (Vt)) hk (fun x=>[(5,.d (.i (x.1.length:Int)))]) [4,6,7,8,9,10,11,12,13,14,15,16,17,18,19] (fun x=>[]) (fun x=>x.1++x.2=l/\idxF (fun v=>decide (v.var=n)) x.2 x.1.length=idxF (fun v=>decide (v.var=n)) l 0) (fun x=>x.2.length) ([],l) ⟨by simp,Z⟩ ⟨⟨_,Z,xaU ?_⟩,O⟩ O (fun x=>rfl) (fun x hg1=>?_);focus (rfl)
 obtain⟨pre,rest⟩:=x;dsimp only at hg1 ⊢;refine evc [] [] ?_;apply sq<;>intro h1 h1p h1s<;>(try simp only[Q] at h1p);rcases rest with _|⟨y,rest⟩
 ·exfalso;simp_all
 refine ixq sl66 Z Z Z (zaA hg1.1) Z (ev ?_);apply sq<;>intro h2 h2p h2s<;>(try simp only[Q] at h2p);focus (refine rq ?_;all_goals (refine xam D.i ?_;unfold zba;rw[<-hg1.2];simp[idxF,h1s,h1p,h2s,h2p]))
 refine ar (xaj ((pre++[y],rest)) ⟨⟨(by have hz:=hg1.1;rw[<-hz];simp),(by rw[<-hg1.2];simp_all[idxF])⟩,oi,sx ⟨⟨_,Z,xaU ?_⟩,O⟩ O⟩);focus ((simp;done))
 have hrest:rest=[]:=by
  rcases rest with _|⟨a,b⟩
  ·rfl
  ·exfalso;have hz:=xam List.length (hg1.1);simp only[xaa,xab,xac] at hz;omega
 subst hrest;focus (refine rq ?_;all_goals (refine xam D.i ?_;unfold zba;rw[<-hg1.2];simp[idxF,h1s,h1p]))
theorem zsk {a b:List Vt}{i:Nat} (h:i<a.length) (h2:¬(0<=zba b (nth a i).var/\(nth b (zba b (nth a i).var).toNat).ty=(nth a i).ty)):zeg a b=false:=by
 unfold zeg;have:(a.all fun v=>decide (0<=zba b v.var/\(nth b (zba b v.var).toNat).ty=v.ty))=false:=List.all_eq_false.2 ⟨_,zaf h,by simpa using h2⟩;rw[this,Bool.false_and]
theorem ztd {a b:List Vt} (h:∀i,i<a.length->0<=zba b (nth a i).var/\(nth b (zba b (nth a i).var).toNat).ty=(nth a i).ty):zeg a b=decide (a.length=b.length):=by
 unfold zeg;have:(a.all fun v=>decide (0<=zba b v.var/\(nth b (zba b v.var).toNat).ty=v.ty))=true:=by
  rw[List.all_eq_true];intro v hv;obtain⟨j,hj,he⟩:=List.getElem_of_mem hv;have:=h j hj;rw[zaJ hj,he] at this;exact xax this
 rw[this,Bool.true_and]
theorem zhH {l:List Vt}{n:Int} (h:0<=zba l n):(zba l n).toNat<l.length/\((zba l n).toNat:Int)=zba l n:=by
 rcases zfO l n with ⟨h1,_⟩|⟨k,h1,h2,_⟩
 ·omega
 ·rw[h1];simpa using h2
theorem zvq {t u:Ty}:t=u↔t.data=u.data/\t.index=u.index:=by
 cases t;cases u;simp
theorem zoc {x y:List Vt} (hx:x.length<=1000000000000) (hy:y.length<=1000000000000):FnD Tryz.prog 273 [.d (zbK x),.d (zbK y)] [] (.d (.bool (zeg x y))) []:=by
 refine bd Tryz.f273 40 [33] [] fun _ _ _ _ hk=>?_;refine xaB (ι:=Nat) hk (fun i=>[(5,.d (.i (i:Int)))]) [4,6,7,8,9,10,11,12,13,14,15,16,17,18,19,20,21,22,23,24,25,26,27,28,29,30,31,32,33,34] (fun i=>[]) (fun i=>i<=x.length/\∀j,j<i->0<=zba y (nth x j).var/\(nth y (zba y (nth x j).var).toNat).ty=(nth x j).ty) (fun i=>x.length-i) 0 ⟨by omega,fun _ h=>absurd h od⟩ ⟨⟨_,Z,xaU ?_⟩,O⟩ O (fun x=>rfl) (fun i hg1=>?_);focus (rfl)
 refine evc [33] [] ?_;apply sq<;>intro h1 h1p h1s<;>(try simp only[Q] at h1p);refine ixq sl66 Z Z Z (zah od) Z ?_;refine evs [33] [] (wc ziR (zdn hy) Z Z ?_);refine evs [33] [] ?_;apply sq<;>intro h2 h2p h2s<;>(try simp only[Q] at h2p);refine dr (sqT ?_);refine rq ?_;rotate_left;refine Walk.idx (i:=(zba y (nth x i).var).toNat) sl66 (.some Z Z h2) Z Z Z (zhH (l:=y) (n:=(nth x i).var) od).2.symm (zah (by exact(zhH (l:=y) (n:=(nth x i).var) od).1)) Z ?_;refine evd [33] [(22,false)] ?_ ⟨⟨_,Z,h2⟩,O⟩;refine Walk.idx sl66 (.some Z Z h2) Z Z Z Z (zah od) Z ?_;refine evd [33] [(22,false)] ?_ ⟨⟨_,Z,h2⟩,O⟩;refine Walk.neV eq29 (.some Z Z h2) Z Z Z Z Z (evd [33] [(22,false)] ?_ ⟨⟨_,Z,h2⟩,O⟩);refine dr ?_;apply sq<;>intro h4 h4p h4s<;>(try simp only[Q] at h4p);refine rq ?_;rotate_left;refine ar (xaj (i+1) ⟨⟨by omega,zaZ hg1.2 (by rw[zvq];first|omega|(simp at h4;omega))⟩,od,sx ⟨⟨_,Z,xaU ?_⟩,O⟩ O⟩);focus (rfl)
 refine rq ?_;rotate_left;all_goals (refine xam D.bool ?_;first|(refine(zsk (i:=i) od ?_).symm;simp only[zvq];first|omega|(simp at h4;omega))|(rw[ztd (fun j hj=>hg1.2 j (by simp at h1p;omega))];exact decide_eq_decide.2 ot))
theorem zla {f:Ty->Pat->List Vt} (hf:∀t p,(f t p).length<=p.size):∀(a:List Ty) (b:List Pat),(zbs f a b).length<=Pats.size b
 | [],[]=>by simp[zbs]
 | [],_::_=>by simp[zbs]
 |_::_,[]=>by simp[zbs]
 |x::r,y::s=>by
  have h1:=zla hf r s;have h2:=hf x y;simp only[zbs,xaa,Pats.size];omega
theorem zeV (w:List Data):∀(n:Nat) (t:Ty) (p:Pat),(zaL w n t p).length<=p.size
 |0,t,p=>by simp[zaL]
 |n+1,t,p=>by
  have h1:=zla (zeV w n) (zd1 w t p) p.kids;have h2:(zaY t p).length<=1:=by unfold zaY;split<;>simp
  rw[xa5];simp only[zaL,xaa];omega
theorem zjT {f:Ty->Pat->List Vt}:∀ {a:List Ty}{b:List Pat}{i:Nat},i<a.length->i<b.length->zbs f (a.take (i+1)) (b.take (i+1))=zbs f (a.take i) (b.take i)++f (nth a i) (nth b i)
 |x::r,y::s,0,_,_=>by simp[zbs,nth]
 |x::r,y::s,i+1,h1,h2=>by
  have:=zjT (f:=f) (a:=r) (b:=s) (i:=i) (by simpa using h1) (by simpa using h2);simp only[List.take_succ_cons,zbs];rw[this,xar];rfl
theorem zoq {f:Ty->Pat->List Vt}:∀ {a:List Ty}{b:List Pat}{i:Nat},zbs f (a.take i) (b.take i)=zbs f (a.take i) b
 | [],b,i=>by simp[zbs]
 |x::r,[],i=>by simp[zbs]
 |x::r,y::s,0=>by simp[zbs]
 |x::r,y::s,i+1=>by simp only[List.take_succ_cons,zbs];rw[zoq]
theorem zsi {f:Ty->Pat->List Vt} (hf:∀t p,(f t p).length<=p.size){a:List Ty}{b:List Pat}{i:Nat} (h:i<b.length):(zbs f (a.take i) (b.take i)).length+(nth b i).size<=Pats.size b:=by
 have h1:=zla hf (a.take i) (b.take i);have h2:=xba (pre:=b.take i) (y:=nth b i) (rest:=b.drop (i+1)) (l:=b) (by rw[<-zaF h,List.take_append_drop]);omega
def zd0 (w:List Data) (t:Ty) (p:Pat):Nat:=(zd1 w t p).length
theorem zlb (w:List Data) (t:Ty) (p:Pat):zd0 w t p=if p.op=5 then 1 else (zai w t p).length:=by
 unfold zd0 zd1;by_cases h5:p.op=5
 ·rw[if_pos h5,if_pos h5];have:zai w t p=[t,t]:=by unfold zai;rw[if_neg od,if_pos h5]
  rw[this];rfl
 ·rw[if_neg h5,if_neg h5]
theorem zpX {w:List Data}{f:Ty->Pat->List Vt}{t:Ty}{p:Pat} (hl:p.kids.length=(zai w t p).length){i:Nat} (h:i=zd0 w t p):zbs f ((zai w t p).take i) (p.kids.take i)=zbs f (zd1 w t p) p.kids:=by
 subst h;rw[zoq];congr 1
 rw[zlb];unfold zd1;by_cases h5:p.op=5
 ·rw[if_pos h5,if_pos h5]
 ·rw[if_neg h5,if_neg h5,List.take_length]
theorem zbC {w:List Data}{n:Nat}{t:Ty}{p:Pat} (h:zat w (n+1) t p=true){i:Nat} (hi:i<p.kids.length):zat w n (nth (zai w t p) i) (nth p.kids i)=true:=by
 have hl:=(zbR h).2;cases hs:zat w n (nth (zai w t p) i) (nth p.kids i) with
 |true=>rfl
 |false=>
  have:=zbJ (f:=zat w n) (a:=zai w t p) (b:=p.kids) (i:=i) od hl.symm hs;simp only[zat,this,Bool.and_false] at h;cases h
theorem ze7 {w:List Data} (hw:WT w):∀(n:Nat){a k:Int}{p:Pat}{xs:List Vt},zat w n ⟨a,k⟩ p=true->n<=1000->TyIn w.length ⟨a,k⟩->p.ok->xs.length+p.size<=2000000000000->
  FnD Tryz.prog 80 [.gl 5 (xs.map Vt.c),.d (zaj w),.agg [.d (.i a),.d (.i k)],.agg [.d (.i p.op),.d (.i p.ctor),.d (.i p.n),.d (.i p.m),.d (.i p.var),.d (zak p.kids)]] [(5,some (.tok (xs.map Vt.c).length 3))]
   (.gl 5 ((xs++zaL w n ⟨a,k⟩ p).map Vt.c)) [(5,some (.tok ((xs++zaL w n ⟨a,k⟩ p).map Vt.c).length 3))]
 |0,a,k,p,xs,hs,_,_,_,_=>by simp[zat] at hs
 |n+1,a,k,p,xs,hs,hn,ht,hok,hb=>by
  rw[xa4] at hok;rw[xa5] at hb;obtain⟨ho,hl⟩:=zbR hs;have hin:=zeT hw ht ho;have hlen:=zho hw ht (zcF ho);have hvc5:p.op=5->zd0 w ⟨a,k⟩ p=1:=fun h=>by rw[zlb,if_pos h]
  have hvc:¬p.op=5->zd0 w ⟨a,k⟩ p=(zai w ⟨a,k⟩ p).length:=fun h=>by rw[zlb,if_neg h]
  have hv2:zd0 w ⟨a,k⟩ p<=p.kids.length:=by
   unfold zd0 zd1;split
   ·rw[List.length_take];omega
   ·omega
  have e5:p.op=5->(zai w ⟨a,k⟩ p).length=2:=fun h5=>by unfold zai;rw[if_neg od,if_pos h5];rfl
  have hnm:(zaY ⟨a,k⟩ p).length<=1:=by unfold zaY;split<;>simp
  refine bd Tryz.f80 58 [] [1,5,6] fun _ _ _ _ hk=>?_;refine bx 3006 ?_;refine bx 3007 ?_;refine ev (xaC (xbn 8 [(18,.d (.bool (decide (p.op=2\/p.op=6))))] [11,12,13,14,15,16,17] ?_ ?_));refine ev ?_;apply sq<;>intro h1 h1p h1s;exact jnb Z;exact jnb Z;refine xbm ?_;apply tv;apply sq<;>intro h2 h2p h2s<;>(try simp only[Q,xa3] at h2p);refine bu [0,1] [_,_] ztN ?_;refine si [0] [_] sl66 zqy ?_;refine ap sl66 zqB Z Z Z oi ot ?_;refine ev (wc zkl (zdM hw ht (zcF ho)) Z Z ?_);refine ev (CWp.loopT 5 6 (ι:=Nat) hk (fun i=>[(0,.gl 5 ((xs++zaY ⟨a,k⟩ p++zbs (zaL w n) ((zai w ⟨a,k⟩ p).take i) (p.kids.take i)).map Vt.c)),(10,.d (.i (i:Int)))]) [30,31,32,33,34,35,36,37,38,39,40,41,42,43,44,45,46,47,48,49,50,51,52,53,54,55,56] (fun i=>[(5,some (.tok ((xs++zaY ⟨a,k⟩ p++zbs (zaL w n) ((zai w ⟨a,k⟩ p).take i) (p.kids.take i)).map Vt.c).length 3))]) (fun i=>i<=zd0 w ⟨a,k⟩ p) (fun i=>zd0 w ⟨a,k⟩ p-i) 0 od ⟨⟨_,Z,LeA.glg ?_⟩,⟨⟨_,Z,xaU ?_⟩,O⟩⟩ ⟨zac ?_,O⟩ (fun x=>rfl) (fun i hg1=>?_));iterate 3 focus ((simp[zbs,zaY, *];done))
  refine evc [] [1,5,6] (xaC (xbn 13 [(42,.d (.bool (decide (i<zd0 w ⟨a,k⟩ p))))] [30,31,32,33,34,35,36,37,38,39,40,41] ?_ ?_));refine ev ?_;apply sq<;>intro h3 h3p h3s;apply sq<;>intro h4 h4p h4s;exact jnb Z;exact jnb Z;exact jnb Z;refine xbm ?_;apply tv;apply sq<;>intro h5 h5p h5s<;>(try simp only[Q,xa3] at h5p);refine ixq zaz Z Z Z (zah od) Z ?_;refine evd [] [] (ixq sl72 Z Z Z (zaE od) Z ?_);refine evd [] [] (xbv 6 zg5 (ze7 hw n (a:=(nth (zai w ⟨a,k⟩ p) i).data) (k:=(nth (zai w ⟨a,k⟩ p) i).index) (p:=nth p.kids i) (xs:=xs++zaY ⟨a,k⟩ p++zbs (zaL w n) ((zai w ⟨a,k⟩ p).take i) (p.kids.take i)) (zbC hs od) od (hin _ (zaf od)) (xa6 hok.2 _ (zaf od)) (by have:=zsi (zeV w n) (a:=zai w ⟨a,k⟩ p) (b:=p.kids) (i:=i) od;simp only[xaa];omega)) Z .none Z Z (.cons (.refl _) (.cons (.refl _) (.cons (.refl _) (.cons (.refl _) .nil)))) Z o8 ?_);refine evd [] [] (dr (CWp.retok 0 6 5 Z Z Z Z Z (evc [] [] (ar (xaj (i+1) ⟨od,od,sx ⟨⟨_,Z,LeA.glg ?_⟩,⟨⟨_,Z,xaU ?_⟩,O⟩⟩ ⟨zac ?_,O⟩⟩)))));iterate 3 focus (first|rfl|(rw[zjT od od];simp[xar];done))
  refine rn [(5,some (.tok ((xs++zaL w (n+1) ⟨a,k⟩ p).map Vt.c).length 3))] (r1 Z) (.glg ?_) ⟨Z,Z⟩ (SubO.get ⟨.inr ?_,⟨.inl Z,O⟩⟩) (zaQ Z);rotate_left 2;refine wc zkl (zdM hw ht (zcF ho)) Z Z ?_;refine ev (CWp.loopT 5 6 (ι:=Nat) hk (fun i=>[(0,.gl 5 ((xs++zaY ⟨a,k⟩ p++zbs (zaL w n) ((zai w ⟨a,k⟩ p).take i) (p.kids.take i)).map Vt.c)),(10,.d (.i (i:Int)))]) [30,31,32,33,34,35,36,37,38,39,40,41,42,43,44,45,46,47,48,49,50,51,52,53,54,55,56] (fun i=>[(5,some (.tok ((xs++zaY ⟨a,k⟩ p++zbs (zaL w n) ((zai w ⟨a,k⟩ p).take i) (p.kids.take i)).map Vt.c).length 3))]) (fun i=>i<=zd0 w ⟨a,k⟩ p) (fun i=>zd0 w ⟨a,k⟩ p-i) 0 od ⟨⟨_,Z,LeA.glg ?_⟩,⟨⟨_,Z,xaU ?_⟩,O⟩⟩ ⟨zac ?_,O⟩ (fun x=>rfl) (fun i hg1=>?_));iterate 3 focus ((simp[zbs,zaY, *];done))
  refine evc [] [1,5,6] (xaC (xbn 13 [(42,.d (.bool (decide (i<zd0 w ⟨a,k⟩ p))))] [30,31,32,33,34,35,36,37,38,39,40,41] ?_ ?_));refine ev ?_;apply sq<;>intro h6 h6p h6s<;>(try simp only[Q,xa3] at h6p);apply sq<;>intro h7 h7p h7s<;>(try simp only[Q,xa3] at h7p);exact jnb Z;exact jnb Z;exact jnb Z;refine xbm ?_;apply tv;apply sq<;>intro h8 h8p h8s<;>(try simp only[Q,xa3] at h8p);refine ixq zaz Z Z Z (zah od) Z ?_;refine evd [] [] (ixq sl72 Z Z Z (zaE od) Z ?_);refine evd [] [] (xbv 6 zg5 (ze7 hw n (a:=(nth (zai w ⟨a,k⟩ p) i).data) (k:=(nth (zai w ⟨a,k⟩ p) i).index) (p:=nth p.kids i) (xs:=xs++zaY ⟨a,k⟩ p++zbs (zaL w n) ((zai w ⟨a,k⟩ p).take i) (p.kids.take i)) (zbC hs od) od (hin _ (zaf od)) (xa6 hok.2 _ (zaf od)) (by have:=zsi (zeV w n) (a:=zai w ⟨a,k⟩ p) (b:=p.kids) (i:=i) od;simp only[xaa];omega)) Z .none Z Z (.cons (.refl _) (.cons (.refl _) (.cons (.refl _) (.cons (.refl _) .nil)))) Z o8 ?_);refine evd [] [] (dr (CWp.retok 0 6 5 Z Z Z Z Z (evc [] [] (ar (xaj (i+1) ⟨od,od,sx ⟨⟨_,Z,LeA.glg ?_⟩,⟨⟨_,Z,xaU ?_⟩,O⟩⟩ ⟨zac ?_,O⟩⟩)))));iterate 3 focus (first|rfl|(rw[zjT od od];simp[xar];done))
  refine rn [(5,some (.tok ((xs++zaL w (n+1) ⟨a,k⟩ p).map Vt.c).length 3))] (r1 Z) (.glg ?_) ⟨Z,Z⟩ (SubO.get ⟨.inr ?_,⟨.inl Z,O⟩⟩) (zaQ Z);rotate_left 2;all_goals (first|((rw[zaL,<-zpX (f:=zaL w n) hl (i:=i) od];simp);done)|((show some (Res.tok _ _)=some (Res.tok _ _);congr 2;rw[zaL,<-zpX (f:=zaL w n) hl (i:=i) od];simp)))
theorem zdN {w:List Data} (hw:WT w){n:Nat}{a k:Int}{p:Pat} (hs:zat w n ⟨a,k⟩ p=true) (hn:n<=1000) (ht:TyIn w.length ⟨a,k⟩) (hok:p.ok) (hb:p.size<=1000000000000):
  FnD Tryz.prog 80 [.nils,.d (zaj w),.agg [.d (.i a),.d (.i k)],.agg [.d (.i p.op),.d (.i p.ctor),.d (.i p.n),.d (.i p.m),.d (.i p.var),.d (zak p.kids)]] [] (.d (zbK (zaL w n ⟨a,k⟩ p))) []:=by
 have h:=ze7 hw n (xs:=[]) hs hn ht hok (by simp only[xak];omega);exact FnD.nilTok (by simp[AV.idsL,AV.ids]) h
theorem zsp {l:List Vt}{i:Nat} (h:i<l.length) (h2:¬zba l (nth l i).var=i):zqo l=false:=zdB h (by simpa using h2)
theorem zfv {w:List Data} (hw:WT w):∀(n:Nat){a k:Int}{p:Pat},zat w n ⟨a,k⟩ p=true->n<=1000->TyIn w.length ⟨a,k⟩->p.ok->p.size<=1000000000000->
  FnD Tryz.prog 245 [.d (zaj w),.agg [.d (.i a),.d (.i k)],.agg [.d (.i p.op),.d (.i p.ctor),.d (.i p.n),.d (.i p.m),.d (.i p.var),.d (zak p.kids)]] [] (.d (.bool (linP w n ⟨a,k⟩ p))) []
 |0,a,k,p,hs,_,_,_,_=>by simp[zat] at hs
 |n+1,a,k,p,hs,hn,ht,hok,hb=>by
  have hok':=hok;rw[xa4] at hok;have hb':=hb;rw[xa5] at hb';obtain⟨ho,hl⟩:=zbR hs;have hin:=zeT hw ht ho;have hlen:=zho hw ht (zcF ho);have hvl:=zeV w (n+1) ⟨a,k⟩ p;have hsz:∀i,i<p.kids.length->(nth p.kids i).size<=1000000000000:=fun i hi=>by have:=zfF hi;omega
  by_cases hop5:p.op=5
  ·have e1:zai w ⟨a,k⟩ p=[⟨a,k⟩,⟨a,k⟩]:=by unfold zai;rw[if_neg od,if_pos hop5]
   have hl2:p.kids.length=2:=by rw[hl,e1];rfl
   have s0:zat w n ⟨a,k⟩ (nth p.kids 0)=true:=by have:=zbC hs (i:=0) od;rw[e1] at this;exact this
   have s1:zat w n ⟨a,k⟩ (nth p.kids 1)=true:=by have:=zbC hs (i:=1) od;rw[e1] at this;exact this
   have v0:=zeV w n ⟨a,k⟩ (nth p.kids 0);have v1:=zeV w n ⟨a,k⟩ (nth p.kids 1);have z0:=hsz 0 od;have z1:=hsz 1 od;refine bd Tryz.f245 70 [] [] fun _ _ _ _ hk=>?_;refine bx 3004 ?_;refine bx 3005 ?_;refine ev (wc zkl (zdM hw ht (zcF ho)) Z Z ?_);refine ev (xaB (ι:=Nat) hk (fun i=>[(8,.d (.i (i:Int)))]) [6,15,16,17,18,19,20,21,22,23,24,25,26,27,28,29,30,31,32] (fun i=>[]) (fun i=>i<=(zai w ⟨a,k⟩ p).length/\∀i',i'<i->linP w n (nth (zai w ⟨a,k⟩ p) i') (nth p.kids i')=true) (fun i=>(zai w ⟨a,k⟩ p).length-i) 0 ⟨by omega,fun _ h=>absurd h od⟩ ⟨⟨_,Z,xaU ?_⟩,O⟩ O (fun x=>rfl) (fun i hg1=>?_));focus (first|rfl|(simp;done))
   refine evc [] [] ?_;apply sq<;>intro h1 h1p h1s<;>(try simp only[Q,xa3] at h1p);refine ixq zaz Z Z Z (zah od) Z ?_;refine evd [] [] (ixq sl72 Z Z Z (zaE od) Z ?_);refine evd [] [] (wc zmZ (zfv hw n (zbC hs od) od (hin _ (zaf od)) (xa6 hok.2 _ (zaf od)) (hsz _ od)) Z Z ?_);refine evd [] [] (dr ?_);apply sq<;>intro h2 h2p h2s<;>(try simp only[Q,xa3] at h2p);refine rq ?_;rotate_left;refine ar (xaj (i+1) ⟨⟨by omega,zaZ hg1.2 ol⟩,od,sx ⟨⟨_,Z,xaU ?_⟩,O⟩ O⟩);focus (first|rfl|(simp;done))
   apply sq<;>intro h3 h3p h3s<;>(try simp only[Q,xa3] at h3p);refine ixq (i:=0) sl72 Z Z Z (zaE od) Z ?_;refine evd [] [] (wc zg5 (zdN hw s0 od ht (xa6 hok.2 _ (zaf od)) z0) Z Z ?_);refine evd [] [] (ixq (i:=1) sl72 Z Z Z (zaE od) Z ?_);refine evd [] [] (wc zg5 (zdN hw s1 od ht (xa6 hok.2 _ (zaf od)) z1) Z Z ?_);refine wc zyv (zoc od od) Z Z ?_;refine evd [] [] (dr (rq ?_));rotate_left;exfalso;simp_all;all_goals (refine xam D.bool ?_;unfold linP;rw[if_pos hop5];first|(rw[zci od (fun x hx=>hg1.2 x od),Bool.true_and])|(rw[zbJ (i:=i) od od ol,Bool.false_and]))
  ·skip
   refine bd Tryz.f245 70 [] [] fun _ _ _ _ hk=>?_;refine bx 3004 ?_;refine bx 3005 ?_;refine ev (wc zkl (zdM hw ht (zcF ho)) Z Z ?_);refine ev (xaB (ι:=Nat) hk (fun i=>[(8,.d (.i (i:Int)))]) [6,15,16,17,18,19,20,21,22,23,24,25,26,27,28,29,30,31,32] (fun i=>[]) (fun i=>i<=(zai w ⟨a,k⟩ p).length/\∀i',i'<i->linP w n (nth (zai w ⟨a,k⟩ p) i') (nth p.kids i')=true) (fun i=>(zai w ⟨a,k⟩ p).length-i) 0 ⟨by omega,fun _ h=>absurd h od⟩ ⟨⟨_,Z,xaU ?_⟩,O⟩ O (fun x=>rfl) (fun i hg1=>?_));focus (first|rfl|(simp;done))
   refine evc [] [] ?_;apply sq<;>intro h1 h1p h1s<;>(try simp only[Q,xa3] at h1p);refine ixq zaz Z Z Z (zah od) Z ?_;refine evd [] [] (ixq sl72 Z Z Z (zaE od) Z ?_);refine evd [] [] (wc zmZ (zfv hw n (zbC hs od) od (hin _ (zaf od)) (xa6 hok.2 _ (zaf od)) (hsz _ od)) Z Z ?_);refine evd [] [] (dr ?_);apply sq<;>intro h2 h2p h2s<;>(try simp only[Q,xa3] at h2p);refine rq ?_;rotate_left;refine ar (xaj (i+1) ⟨⟨by omega,zaZ hg1.2 ol⟩,od,sx ⟨⟨_,Z,xaU ?_⟩,O⟩ O⟩);focus (first|rfl|(simp;done))
   apply sq<;>intro h3 h3p h3s<;>(try simp only[Q,xa3] at h3p);exfalso;simp_all;refine wc zg5 (zdN hw hs hn ht hok' hb) Z Z ?_;refine ev (xaB (ι:=Nat) hk (fun j=>[(10,.d (.i (j:Int)))]) [6,55,56,57,58,59,60,61,62,63,64,65,66,67,68,69] (fun j=>[]) (fun j=>j<=(zaL w (n+1) ⟨a,k⟩ p).length/\∀j',j'<j->zba (zaL w (n+1) ⟨a,k⟩ p) (nth (zaL w (n+1) ⟨a,k⟩ p) j').var=(j':Int)) (fun j=>(zaL w (n+1) ⟨a,k⟩ p).length-j) 0 ⟨by omega,fun _ h=>absurd h od⟩ ⟨⟨_,Z,xaU ?_⟩,O⟩ O (fun x=>rfl) (fun j hg2=>?_));focus (first|rfl|(simp;done))
   refine evc [] [] ?_;apply sq<;>intro h4 h4p h4s<;>(try simp only[Q,xa3] at h4p);refine ixq sl66 Z Z Z (zah od) Z ?_;refine ev (wc ziR (zdn od) Z Z ?_);refine ev ?_;apply sq<;>intro h5 h5p h5s<;>(try simp only[Q,xa3] at h5p);refine rq ?_;rotate_left;refine ar (xaj (j+1) ⟨⟨by omega,zaZ hg2.2 od⟩,od,sx ⟨⟨_,Z,xaU ?_⟩,O⟩ O⟩);focus (first|rfl|(simp;done))
   refine rq ?_;rotate_left;all_goals (refine xam D.bool ?_;unfold linP;rw[if_neg hop5];first|(rw[zbJ (i:=i) od od ol,Bool.false_and];done)|(rw[zci od (fun x hx=>hg1.2 x od),Bool.true_and];first|(rw[zsp (i:=j) od od];done)|(symm;exact zdY (fun x hx=>xax (hg2.2 x od)))))
def isP (w:List Data) (t:Ty) (p:Pat):Bool:=zat w 10 t p&&(decide ((p.size:Int)<=60)&&linP w 10 t p)
theorem zh0 {w:List Data} (hw:WT w){a k:Int}{p:Pat} (ht:TyIn w.length ⟨a,k⟩) (hok:p.ok) (hb:p.size<=1000000000000):
  FnD Tryz.prog 188 [.d (zaj w),.agg [.d (.i a),.d (.i k)],.agg [.d (.i p.op),.d (.i p.ctor),.d (.i p.n),.d (.i p.m),.d (.i p.var),.d (zak p.kids)]] [] (.d (.bool (isP w ⟨a,k⟩ p))) []:=by
 have hc:=zq1 p 60;by_cases hs:zat w 10 ⟨a,k⟩ p=true
 ·skip
  refine bd Tryz.f188 22 [] [1] fun _ _ _ _ hk=>?_;refine bx 3004 ?_;refine bx 3005 ?_;refine ev (xaC (xbn 9 [(15,.d (.bool (decide ((p.size:Int)<=60))))] [7,8,9,10,11,12,13,14] ?_ ?_));refine ev (wc zqU (zf3 hw 10 od od ht hok) Z Z ?_);refine ev ?_;apply sq<;>intro h1 h1p h1s;refine Walk.call (cr:=[]) zqV (zf2 _ (Nat.le_refl _) hb hok od od) Z (.some Z Z h1) Z Z (LeL.refl _) O Z Z Z ?_;refine evs [] [(11,true)] ?_ ⟨⟨_,Z,h1⟩,O⟩;exact jnb Z;exact jnb Z;refine xbm (ev ?_);apply sq<;>intro h2 h2p h2s;refine Walk.call (cr:=[]) zmZ (zfv hw 10 hs od ht hok hb) Z (.some Z Z h2) Z Z (LeL.refl _) O Z Z Z ?_;refine evs [] [(16,true)] ?_ ⟨⟨_,Z,h2⟩,O⟩;refine rq ?_;rotate_left;refine rq ?_;rotate_left;all_goals (refine xam D.bool ?_;unfold isP;simp only[hs,Bool.true_and];first|(simp_all;done)|(simp_all;intro;omega))
 ·have hs':zat w 10 ⟨a,k⟩ p=false:=by simpa using hs
  refine bd Tryz.f188 22 [] [1] fun _ _ _ _ hk=>?_;refine bx 3004 ?_;refine bx 3005 ?_;refine ev (xaC (xbn 9 [(15,.d (.bool false))] [7,8,9,10,11,12,13,14] ?_ ?_));refine ev (wc zqU (zf3 hw 10 od od ht hok) Z Z ?_);refine ev ?_;apply sq<;>intro h1 h1p h1s;refine Walk.call (cr:=[]) zqV (zf2 _ (Nat.le_refl _) hb hok od od) Z (.some Z Z h1) Z Z (LeL.refl _) O Z Z Z ?_;refine evs [] [(11,true)] ?_ ⟨⟨_,Z,h1⟩,O⟩;exact jnb Z;exact jnb Z;refine xbm (ev ?_);apply sq<;>intro h2 h2p h2s;refine Walk.call (cr:=[]) zmZ (show FnD Tryz.prog 245 [.d (zaj w),.agg [.d (.i a),.d (.i k)],.agg [.d (.i p.op),.d (.i p.ctor),.d (.i p.n),.d (.i p.m),.d (.i p.var),.d (zak p.kids)]] [] (.d (.bool true)) [] from absurd (by assumption:(false:Bool)=true) oi) Z (.some Z Z h2) Z Z (LeL.refl _) O Z Z Z ?_;refine evs [] [(16,true)] ?_ ⟨⟨_,Z,h2⟩,O⟩;refine rq ?_;rotate_left;refine rq ?_;rotate_left;all_goals (refine xam D.bool ?_;unfold isP;simp_all)
def tyS (s:Nat):Ty:=⟨((s / 4:Nat):Int),((s % 4:Nat):Int)⟩
def zdf (t:Ty):Nat:=t.data.toNat*4+t.index.toNat
def dv (f:Nat->Nat) (t:Ty):Nat:=if t.data = -1 then 1 else f (zdf t)
def zce (f:Nat->Nat):Nat->List Ty->Nat
 |m,[]=>m+1
 |m,t::r=>if dv f t=0 then 0 else zce f (max m (dv f t)) r
def most (w:List Data) (f:Nat->Nat) (t:Ty) (c:Int):Nat:=zce f 0 (zae w t c)
def updF (f:Nat->Nat) (s n:Nat):Nat->Nat:=fun i=>if i=s then n else f i
def zb1 (w:List Data) (s:Nat) (f:Nat->Nat) (c:Int):Nat->Nat:=
 if 0<most w f (tyS s) c/\(f s=0\/most w f (tyS s) c<f s) then updF f s (most w f (tyS s) c) else f
def zdX (w:List Data) (f:Nat->Nat) (s:Nat):Nat->Nat:=(zbg w (tyS s)).foldl (zb1 w s) f
def zhm (w:List Data) (f:Nat->Nat):Nat->Nat:=(List.range (w.length*4)).foldl (zdX w) f
def zbl (w:List Data):Nat->Nat->Nat
 |0=>fun _=>0
 |k+1=>zhm w (zbl w k)
def zaX (w:List Data):Nat->Nat:=zbl w (w.length*4+1)
def Hd (w:List Data):Nat->Ty->Prop
 |0,_=>False
 |d+1,t=>t.data = -1\/∃c∈zbg w t,t.data≠ -1/\∀u∈zae w t c,Hd w d u
def InS (n:Nat) (u:Ty):Prop:=u.data = -1\/(zdf u<n/\tyS (zdf u)=u)
def ClosedT (w:List Data):Prop:=∀s,s<w.length*4->∀c∈zbg w (tyS s),∀u∈zae w (tyS s) c,InS (w.length*4) u
theorem zmK (s:Nat):(tyS s).data≠ -1:=by simp only[tyS];omega
theorem Hd_mono (w:List Data):∀(d:Nat) (t:Ty),Hd w d t->Hd w (d+1) t
 |0,_,h=>h.elim
 |d+1,t,h=>by
  rcases h with h|⟨c,hc,h1,h⟩
  ·exact .inl h
  ·exact .inr ⟨c,hc,h1,fun u hu=>Hd_mono w d u (h u hu)⟩
theorem Hd_le {w:List Data}{d e:Nat}{t:Ty} (h:d<=e) (hd:Hd w d t):Hd w e t:=by
 induction h with
 |refl=>exact hd
 |step _ ih=>exact Hd_mono w _ t ih
section
variable {w:List Data}
def Bet (f g:Nat->Nat):Prop:=∀s,0<f s->0<g s/\g s<=f s
def Snd (w:List Data) (f:Nat->Nat):Prop:=∀s,s<w.length*4->0<f s->Hd w (f s) (tyS s)
def Cmp (w:List Data) (k:Nat) (f:Nat->Nat):Prop:=∀s,s<w.length*4->∀d,d<=k->Hd w d (tyS s)->0<f s/\f s<=d
theorem Bet.refl (f:Nat->Nat):Bet f f:=fun s h=>⟨h,Nat.le_refl _⟩
theorem Bet.trans {f g h:Nat->Nat} (a:Bet f g) (b:Bet g h):Bet f h:=fun s hs=>⟨(b s (a s hs).1).1,Nat.le_trans (b s (a s hs).1).2 (a s hs).2⟩
theorem Cmp.bet {k:Nat}{f g:Nat->Nat} (h:Cmp w k f) (b:Bet f g):Cmp w k g:=fun s hs d hd hh=>
 ⟨(b s (h s hs d hd hh).1).1,Nat.le_trans (b s (h s hs d hd hh).1).2 (h s hs d hd hh).2⟩
theorem zpB {f:Nat->Nat}:∀ {l:List Ty}{m k:Nat},m<=k->(∀u∈l,0<dv f u/\dv f u<=k)->0<zce f m l/\zce f m l<=k+1
 | [],m,k,hm,_=>by simp only[zce];omega
 |t::r,m,k,hm,h=>by
  have h1:=h t oi;simp only[zce];rw[if_neg od];exact zpB od (fun u hu=>h u (by simp[hu]))
theorem zpC {f:Nat->Nat}:∀ {l:List Ty}{m:Nat},0<zce f m l->m<zce f m l/\∀u∈l,0<dv f u/\dv f u<zce f m l
 | [],m,_=>⟨by simp only[zce];omega,fun u hu=>by simp at hu⟩
 |t::r,m,h=>by
  simp only[zce] at h ⊢;by_cases h0:dv f t=0
  ·rw[if_pos h0] at h;omega
  ·rw[if_neg h0] at h ⊢;obtain⟨h1,h2⟩:=zpC h;refine⟨by omega,fun u hu=>?_⟩;rcases List.mem_cons.1 hu with rfl|hu
   ·omega
   ·exact h2 u hu
theorem zws {f:Nat->Nat} (hs:Snd w f){u:Ty} (hu:InS (w.length*4) u) (h:0<dv f u):Hd w (dv f u) u:=by
 unfold dv at h ⊢;split
 ·rename_i he;exact .inl he
 ·rename_i he;rw[if_neg he] at h;rcases hu with hu|⟨h1,h2⟩
  ·exact absurd hu he
  ·have:=hs _ h1 h;rwa [h2] at this
theorem zuF {k:Nat}{f:Nat->Nat} (hc:Cmp w k f){u:Ty} (hu:InS (w.length*4) u) (h:Hd w k u):0<dv f u/\dv f u<=k:=by
 unfold dv;split
 ·cases k with
  |zero=>exact h.elim
  |succ k=>omega
 ·rename_i he;rcases hu with hu|⟨h1,h2⟩
  ·exact absurd hu he
  ·exact hc _ h1 k (Nat.le_refl _) (by rw[h2];exact h)
theorem zkP {s:Nat}{f:Nat->Nat}{c:Int}:Bet f (zb1 w s f c):=by
 intro i hi;unfold zb1;split
 ·rename_i h;unfold updF;split
  ·subst i;omega
  ·omega
 ·omega
theorem zvd (hcl:ClosedT w){s:Nat}{f:Nat->Nat}{c:Int} (hs:s<w.length*4) (hc:c∈zbg w (tyS s)) (h:Snd w f):Snd w (zb1 w s f c):=by
 unfold zb1;split
 ·rename_i hn;intro i hi h0;unfold updF at h0 ⊢;by_cases he:i=s
  ·subst he;rw[if_pos rfl] at h0 ⊢;obtain⟨h1,h2⟩:=zpC (m:=0) hn.1;obtain⟨n,hn'⟩:∃n,most w f (tyS i) c=n+1:=⟨most w f (tyS i) c-1,by omega⟩;rw[hn'];refine .inr ⟨c,hc,zmK _,fun u hu=>?_⟩;have h3:=h2 u hu;have h4:zce f 0 (zae w (tyS i) c)=n+1:=hn';exact Hd_le od (zws h (hcl i hi c hc u hu) h3.1)
  ·rw[if_neg he] at h0 ⊢;exact h i hi h0
 ·exact h
theorem zvb (hcl:ClosedT w){s k:Nat}{f:Nat->Nat}{c:Int} (hs:s<w.length*4) (hc:c∈zbg w (tyS s)) (h:Cmp w k f) (hh:∀u∈zae w (tyS s) c,Hd w k u):
  0<zb1 w s f c s/\zb1 w s f c s<=k+1:=by
 have hm:=zpB (f:=f) (m:=0) (k:=k) od (fun u hu=>zuF h (hcl s hs c hc u hu) (hh u hu));have hm':0<most w f (tyS s) c/\most w f (tyS s) c<=k+1:=hm;unfold zb1;split
 ·unfold updF;rw[if_pos rfl];exact hm'
 ·rename_i hn;have:¬(f s=0\/most w f (tyS s) c<f s):=fun h2=>hn ⟨hm'.1,h2⟩;omega
theorem zs7 (hcl:ClosedT w){s k:Nat} (hs:s<w.length*4):∀(C:List Int) (f:Nat->Nat),(∀c∈C,c∈zbg w (tyS s))->Snd w f->Cmp w k f->
  Bet f (C.foldl (zb1 w s) f)/\Snd w (C.foldl (zb1 w s) f)/\∀c∈C,(∀u∈zae w (tyS s) c,Hd w k u)->0<C.foldl (zb1 w s) f s/\C.foldl (zb1 w s) f s<=k+1
 | [],f,_,h1,_=>⟨Bet.refl f,h1,fun c hc=>by simp at hc⟩
 |c::r,f,hC,h1,h2=>by
  have hc:=hC c oi;obtain⟨g1,g2,g3⟩:=zs7 hcl hs r (zb1 w s f c) (fun x hx=>hC x (by simp[hx])) (zvd hcl hs hc h1) (h2.bet zkP);refine⟨zkP.trans g1,g2,fun x hx hh=>?_⟩;rcases List.mem_cons.1 hx with rfl|hx
  ·obtain⟨q1,q2⟩:=zvb hcl hs hc h2 hh;exact⟨(g1 s q1).1,Nat.le_trans (g1 s q1).2 q2⟩
  ·exact g3 x hx hh
theorem zwc (hcl:ClosedT w){s k:Nat} (hs:s<w.length*4){f:Nat->Nat} (h1:Snd w f) (h2:Cmp w k f):
  Bet f (zdX w f s)/\Snd w (zdX w f s)/\∀d,d<=k+1->Hd w d (tyS s)->0<zdX w f s s/\zdX w f s s<=d:=by
 obtain⟨g1,g2,g3⟩:=zs7 hcl hs (zbg w (tyS s)) f (fun c hc=>hc) h1 h2;refine⟨g1,g2,fun d hd hh=>?_⟩;rcases Nat.lt_or_ge d (k+1) with h|h
 ·have:=h2 s hs d od hh;exact⟨(g1 s this.1).1,Nat.le_trans (g1 s this.1).2 this.2⟩
 ·obtain rfl:d=k+1:=by omega
  rcases hh with hh|⟨c,hc,_,hh⟩
  ·exact absurd hh (zmK s)
  ·exact g3 c hc hh
theorem zpO (hcl:ClosedT w){k:Nat}:∀(L:List Nat) (f:Nat->Nat),(∀s∈L,s<w.length*4)->Snd w f->Cmp w k f->
  Bet f (L.foldl (zdX w) f)/\Snd w (L.foldl (zdX w) f)/\∀s∈L,∀d,d<=k+1->Hd w d (tyS s)->0<L.foldl (zdX w) f s/\L.foldl (zdX w) f s<=d
 | [],f,_,h1,_=>⟨Bet.refl f,h1,fun s hs=>by simp at hs⟩
 |s::r,f,hL,h1,h2=>by
  obtain⟨p1,p2,p3⟩:=zwc hcl (hL s oi) h1 h2;obtain⟨g1,g2,g3⟩:=zpO hcl r (zdX w f s) (fun x hx=>hL x (by simp[hx])) p2 (h2.bet p1);refine⟨p1.trans g1,g2,fun x hx d hd hh=>?_⟩;rcases List.mem_cons.1 hx with rfl|hx
  ·have:=p3 d hd hh;exact⟨(g1 x this.1).1,Nat.le_trans (g1 x this.1).2 this.2⟩
  ·exact g3 x hx d hd hh
theorem zvm (hcl:ClosedT w){k:Nat}{f:Nat->Nat} (h1:Snd w f) (h2:Cmp w k f):Bet f (zhm w f)/\Snd w (zhm w f)/\Cmp w (k+1) (zhm w f):=by
 obtain⟨g1,g2,g3⟩:=zpO hcl (List.range (w.length*4)) f (fun s hs=>List.mem_range.1 hs) h1 h2;exact⟨g1,g2,fun s hs d hd hh=>g3 s (List.mem_range.2 hs) d hd hh⟩
theorem zgh (hcl:ClosedT w):∀k,Snd w (zbl w k)/\Cmp w k (zbl w k)
 |0=>⟨fun s _ h=>absurd h (by simp[zbl]),fun s _ d hd hh=>by
   obtain rfl:d=0:=by omega
   exact hh.elim⟩
 |k+1=>(zvm hcl (zgh hcl k).1 (zgh hcl k).2).2
theorem zpr (hcl:ClosedT w){d:Nat} (h1:1<=d) (h:∀s,s<w.length*4->Hd w (d+1) (tyS s)->Hd w d (tyS s)):∀e s,s<w.length*4->Hd w e (tyS s)->Hd w d (tyS s)
 |0,s,_,hh=>hh.elim
 |e+1,s,hs,hh=>by
  refine h s hs ?_;rcases hh with hh|⟨c,hc,h2,hh⟩
  ·exact .inl hh
  ·refine .inr ⟨c,hc,h2,fun u hu=>?_⟩;rcases hcl s hs c hc u hu with hi|⟨q1,q2⟩
   ·cases d with
    |zero=>omega
    |succ d=>exact .inl hi
   ·have:=zpr hcl h1 h e _ q1 (by rw[q2];exact hh u hu);rwa [q2] at this
open Classical in
noncomputable def cntH (w:List Data) (d:Nat):Nat:=(List.range (w.length*4)).countP (fun s=>decide (Hd w d (tyS s)))
theorem zpd {p q:Nat->Bool}:∀ {l:List Nat},(∀x∈l,p x=true->q x=true)->(∃x∈l,p x=false/\q x=true)->l.countP p<l.countP q
 | [],_,h=>by obtain⟨x,hx,_⟩:=h;simp at hx
 |y::r,hpq,h=>by
  have hle:r.countP p<=r.countP q:=List.countP_mono_left (fun x hx hp=>hpq x (by simp[hx]) hp);rw[List.countP_cons,List.countP_cons];obtain⟨x,hx,h1,h2⟩:=h;rcases List.mem_cons.1 hx with rfl|hx
  ·rw[h1,h2];simp only[Bool.false_eq_true,if_false,if_true];omega
  ·have:=zpd (fun x hx hp=>hpq x (by simp[hx]) hp) ⟨x,hx,h1,h2⟩;have h3:=hpq y oi;cases hp:p y with
   |false=>simp only[Bool.false_eq_true,if_false];omega
   |true=>rw[h3 hp];simp only[if_true];omega
open Classical in
theorem zyE {d:Nat} (h:¬ ∀s,s<w.length*4->Hd w (d+1) (tyS s)->Hd w d (tyS s)):cntH w d<cntH w (d+1):=by
 have h2:∃s,s<w.length*4/\Hd w (d+1) (tyS s)/\¬Hd w d (tyS s):=by
  refine Classical.byContradiction fun hn=>h fun s hs hh=>Classical.byContradiction fun hd=>hn ⟨s,hs,hh,hd⟩
 obtain⟨s,hs,h3,h4⟩:=h2;unfold cntH;exact zpd (fun x _ hx=>by rw[xah] at hx ⊢;exact Hd_mono w d _ hx) ⟨s,List.mem_range.2 hs,by simp[h4],by simp[h3]⟩
theorem zuy:∀m,(∀d,1<=d->d<=m->¬ ∀s,s<w.length*4->Hd w (d+1) (tyS s)->Hd w d (tyS s))->m<=cntH w (m+1)
 |0,_=>Nat.zero_le _
 |m+1,h=>by
  have:=zuy m (fun d h1 h2=>h d h1 od);have:=zyE (w:=w) (d:=m+1) (h (m+1) od od);omega
theorem zrf (hcl:ClosedT w){e s:Nat} (hs:s<w.length*4) (h:Hd w e (tyS s)):Hd w (w.length*4+1) (tyS s):=by
 have hex:∃d,1<=d/\d<=w.length*4+1/\∀s,s<w.length*4->Hd w (d+1) (tyS s)->Hd w d (tyS s):=by
  refine Classical.byContradiction fun hn=>?_;have h1:=zuy (w:=w) (w.length*4+1) (fun d h1 h2 h3=>hn ⟨d,h1,h2,h3⟩);have h2:cntH w (w.length*4+1+1)<=(List.range (w.length*4)).length:=List.countP_le_length;rw[List.length_range] at h2;omega
 obtain⟨d,h1,h2,h3⟩:=hex;exact Hd_le h2 (zpr hcl h1 h3 e s hs h)
theorem zvc {s i:Nat}{f:Nat->Nat}{c:Int} (h:i≠s):zb1 w s f c i=f i:=by
 unfold zb1;split
 ·unfold updF;rw[if_neg h]
 ·rfl
theorem zs8 {s i:Nat} (h:i≠s):∀(C:List Int) (f:Nat->Nat),C.foldl (zb1 w s) f i=f i
 | [],_=>rfl
 |c::r,f=>by rw[List.foldl_cons,zs8 h r,zvc h]
theorem zpQ {i:Nat}:∀(L:List Nat) (f:Nat->Nat),i∉L->L.foldl (zdX w) f i=f i
 | [],_,_=>rfl
 |s::r,f,h=>by
  simp only[List.mem_cons,not_or] at h;rw[List.foldl_cons,zpQ r _ h.2];exact zs8 h.1 _ _
theorem zmm {i:Nat} (h:w.length*4<=i):∀k,zbl w k i=0
 |0=>rfl
 |k+1=>by
  show zhm w (zbl w k) i=0
  unfold zhm;rw[zpQ _ _ ot,zmm h k]
theorem zoI (hcl:ClosedT w){k:Nat} (hk:w.length*4+1<=k):zbl w k=zaX w:=by
 have key:∀a b,w.length*4+1<=a->w.length*4+1<=b->∀s,s<w.length*4->0<zbl w a s->0<zbl w b s/\zbl w b s<=zbl w a s:=by
  intro a b ha hb s hs h0;have h1:=(zgh hcl a).1 s hs h0;have h2:=zrf hcl hs h1;have h3:=(zgh hcl a).2 s hs _ ha h2;exact(zgh hcl b).2 s hs _ od h1
 funext s
 rcases Nat.lt_or_ge s (w.length*4) with hs|hs
 ·have h1:=key k (w.length*4+1) hk (Nat.le_refl _) s hs;have h2:=key (w.length*4+1) k (Nat.le_refl _) hk s hs;show zbl w k s=zbl w (w.length*4+1) s
  omega
 ·show zbl w k s=zbl w (w.length*4+1) s
  rw[zmm hs,zmm hs]
theorem zvR (hcl:ClosedT w){k:Nat} (h:zbl w (k+1)=zbl w k):zbl w k=zaX w:=by
 have:∀j,zbl w (k+j)=zbl w k:=by
  intro j;induction j with
  |zero=>rfl
  |succ j ih=>
   show zhm w (zbl w (k+j))=zbl w k
   rw[ih];exact h
 rw[<-this (w.length*4+1)];exact zoI hcl od
def Strict (f g:Nat->Nat):Prop:=∃s,0<g s/\(f s=0\/g s<f s)
theorem Strict.bet {f g h:Nat->Nat} (a:Strict f g) (b:Bet g h):Strict f h:=by
 obtain⟨s,h1,h2⟩:=a;have:=b s h1;exact⟨s,this.1,by omega⟩
theorem Strict.ne {f g:Nat->Nat} (a:Strict f g):f≠g:=by
 rintro rfl
 obtain⟨s,h1,h2⟩:=a;omega
theorem zoR {s:Nat}:∀(C:List Int) (f:Nat->Nat),Bet f (C.foldl (zb1 w s) f)
 | [],f=>Bet.refl f
 |c::r,f=>zkP.trans (zoR r _)
theorem zpP:∀(L:List Nat) (f:Nat->Nat),Bet f (L.foldl (zdX w) f)
 | [],f=>Bet.refl f
 |s::r,f=>(zoR _ _).trans (zpP r _)
theorem zrB {f:Nat->Nat}{b:Nat} (hb:∀s,f s<=b) (h1:1<=b):∀ {l:List Ty}{m:Nat},m<=b->zce f m l<=b+1
 | [],m,hm=>by simp only[zce];omega
 |t::r,m,hm=>by
  simp only[zce];split
  ·omega
  ·refine zrB hb h1 ?_;have:dv f t<=b:=by
    unfold dv;split
    ·exact h1
    ·exact hb _
   omega
theorem zv4 {s:Nat}{f:Nat->Nat}{c:Int}{b:Nat} (hb:∀s,f s<=b) (h1:1<=b):∀i,zb1 w s f c i<=b+1:=by
 intro i;unfold zb1;split
 ·unfold updF;split
  ·exact zrB hb h1 (Nat.zero_le _)
  ·have:=hb i;omega
 ·have:=hb i;omega
theorem zrX {s:Nat}:∀(C:List Int) (f:Nat->Nat) (b:Nat),(∀s,f s<=b)->1<=b->∀i,C.foldl (zb1 w s) f i<=b+C.length
 | [],f,b,hb,_,i=>by have:=hb i;simpa using this
 |c::r,f,b,hb,h1,i=>by
  have:=zrX (s:=s) r (zb1 w s f c) (b+1) (zv4 hb h1) od i;rw[List.foldl_cons,xab];omega
theorem zmG {m:Nat}:∀(L:List Nat) (f:Nat->Nat) (b:Nat),(∀s∈L,(zbg w (tyS s)).length<=m)->(∀s,f s<=b)->1<=b->∀i,L.foldl (zdX w) f i<=b+L.length*m
 | [],f,b,_,hb,_,i=>by have:=hb i;simpa using this
 |s::r,f,b,hm,hb,h1,i=>by
  have h2:=zrX (w:=w) (s:=s) (zbg w (tyS s)) f b hb h1;have h3:=hm s oi;have:=zmG r (zdX w f s) (b+m) (fun x hx=>hm x (by simp[hx])) (fun j=>by have:=h2 j;show _<=_;unfold zdX;omega) od i;rw[List.foldl_cons,xab,Nat.add_mul];omega
theorem zsS {m:Nat} (hm:∀s,s<w.length*4->(zbg w (tyS s)).length<=m):∀k i,zbl w k i<=1+k*(w.length*4*m)
 |0,i=>by simp[zbl]
 |k+1,i=>by
  have:=zmG (w:=w) (m:=m) (List.range (w.length*4)) (zbl w k) (1+k*(w.length*4*m)) (fun s hs=>hm s (List.mem_range.1 hs)) (zsS hm k) od i;show zhm w (zbl w k) i<=_
  unfold zhm;rw[List.length_range] at this;rw[Nat.add_mul];omega
end
set_option maxHeartbeats 2000000
section
variable {c:Ctx}{all:Array Oper}{chk:List Rec->Prop}{os:List Oper}{recs:List Rec}{env:Env}{hp:Hp}{Q:St->Prop}
variable {d ty:Nat}{pos:String}{af:Array Edge}{g:Option (Nat×Bool)}{pg:List (Nat×AV)}
theorem Walk.buildZ {t n e m k:Nat}{zs:List AV} (ht:TyZ c.P t k zs) (ha:ArT c.P t n e m) (hg:GH all env g pg) (hd:Nat.blt d c.n=true)
  (hn:Walk c all chk os (zap (pg++[]) [] [] ⟨some (d,.agg zs),[]⟩::recs) ⟨(d,.agg zs)::env,hp⟩ Q):
  Walk c all chk (⟨some d,.build t #[],ty,pos,af,g⟩::os) recs ⟨env,hp⟩ Q:=by
 refine xb0 hg hd (fun a G T w=>?_) hn;obtain⟨i,z,h1,h2,h3,h4⟩:=ht.inf;obtain⟨j,h5,h6⟩:=ha.inf;have hz:=zcf (G:=G) (T:=T) (w:=w) h4;refine⟨.agg z.cells, ?_, ?_⟩
 ·have hb:c.P.built t []=some z.cells:=by
   unfold Program.built;simp only[h1,ha.und,h3,h5];rfl
  have:=run_build w t #[] z.cells hb;simp only[execOp,Sem.run_bind,Array.map_empty,this,Result.andThen_ok,Sem.run_pure]
 ·have hz':AllR G T w zs z.cells:=by simpa using hz
  exact .agg hz'.size hz'.rel
end
theorem dr2 (ids:List Nat){os:List Oper}{s:St}{rs:List Rec}{Y:Prop} (h:Y) (h2:zam s.env s.hp ids=true) (h1:(zf9 0 os&&ziU (zdK [] os) [] 0 rs)=true:=by kernel_rfl)
  (h3:rs.flatMap (·.cr)=ids:=by kernel_rfl):chkB os s rs=true/\Y:=by
 refine⟨?_,h⟩;have key:∀ {l:List Nat},zam s.env s.hp l=true->∀id∈l,(!occE id s.env&& !occH id s.hp)=true:=by
  intro l;induction l with
  |nil=>intro _ id hm;simp at hm
  |cons i r ih=>
   intro h id hm;simp only[zam,xad,Bool.not_eq_true'] at h;rcases List.mem_cons.1 hm with rfl|hm
   ·simp[h.1.1.2,h.1.2]
   ·exact ih h.2 id hm
 rw[xad] at h1;unfold chkB;rw[h1.1,h1.2,Bool.true_and,Bool.and_true,List.all_eq_true];intro r hr;rw[List.all_eq_true];intro id hid;exact key h2 id (by rw[<-h3];exact List.mem_flatMap.2 ⟨r,hr,hid⟩)
def tabC (n:Nat) (f:Nat->Nat):List AV:=(List.range n).map fun s=> .d (.i (f s:Int))
def tabD (n:Nat) (f:Nat->Nat):List D:=(List.range n).map fun s=> .i (f s:Int)
abbrev ziX (n:Nat) (f:Nat->Nat):D:= .sl ((List.range n).map fun s=>[D.i (f s:Int)])
theorem zlx {n i s:Nat}{f:Nat->Nat} (h:s<n) (e:i=s):(tabC n f)[i]?=some (.d (.i (f s:Int))):=by
 subst e;simp[tabC,h]
theorem zwd {n i s:Nat}{f:Nat->Nat} (h:s<n) (e:i=s):(tabD n f)[i]?=some (.i (f s:Int)):=by
 subst e;simp[tabD,h]
theorem zaB {n:Nat}{f:Nat->Nat}:AV.idsL (tabC n f)=[]:=by
 unfold tabC;induction List.range n with
 |nil=>rfl
 |cons x r ih=>rw[xaf,AV.idsL,ih];rfl
theorem zwf:∀ {n:Nat}{f:Nat->Nat},toDL (tabC n f)=some (tabD n f):=by
 intro n f;unfold tabC tabD;have:=zjP ((List.range n).map fun s=>D.i (f s:Int));rwa [List.map_map] at this
theorem zuu {n:Nat}{f:Nat->Nat}:zbS n 1 (tabC n f)=some ((List.range n).map fun s=>[D.i (f s:Int)]):=by
 have:=zel (f:=fun s=>[D.i (f s:Int)]) (k:=1) (l:=List.range n) (fun _ _=>rfl);rw[List.length_range] at this;rw[<-this];congr 1
 unfold tabC;induction List.range n with
 |nil=>rfl
 |cons x r ih=>rw[xaf,List.flatMap_cons,ih];rfl
theorem zi8 {v:AV}:∀ {cs:List AV}{i:Nat},i<cs.length->putC cs i [v]=some (cs.set i v)
 |x::r,0,_=>by cases r<;>rfl
 |x::r,i+1,h=>by
  have:=zi8 (v:=v) (cs:=r) (i:=i) (by simpa using h);simp only[putC,this,List.set_cons_succ]
theorem zta {n i s v:Nat}{f:Nat->Nat}{x:Int} (h:s<n) (e:i=s) (ex:x=(v:Int)):putC (tabC n f) i [.d (.i x)]=some (tabC n (updF f s v)):=by
 subst e ex;rw[zi8 (by simp[tabC,h])];congr 1
 refine List.ext_getElem (by simp[tabC]) (fun j h1 h2=>?_);simp only[tabC,xac,List.length_range] at h2;rw[List.getElem_set];simp only[tabC,List.getElem_map,List.getElem_range,updF];by_cases hj:i=j
 ·subst hj;simp
 ·rw[if_neg hj,if_neg (fun h=>hj h.symm)]
theorem InS.facts {n:Nat}{a k:Int} (h:InS n ⟨a,k⟩) (ha:¬a = -1):zdf ⟨a,k⟩<n/\a*4+k=(zdf ⟨a,k⟩:Int)/\0<=a/\0<=k/\k<=3/\a<=n:=by
 rcases h with h|⟨h1,h2⟩
 ·exact absurd h ha
 ·have e1:=xam Ty.data h2;have e2:=xam Ty.index h2;simp only[tyS] at e1 e2;omega
theorem znd {f:Nat->Nat}{a k:Int} (ha:¬a = -1):dv f ⟨a,k⟩=f (zdf ⟨a,k⟩):=by unfold dv;rw[if_neg ha]
theorem zne {f:Nat->Nat}{a k:Int} (ha:a = -1):dv f ⟨a,k⟩=1:=by unfold dv;rw[if_pos ha]
theorem zwr {f:Nat->Nat}{b:Nat} (hb:∀s,f s<=b) (h1:1<=b) (t:Ty):dv f t<=b:=by
 unfold dv;split
 ·exact h1
 ·exact hb _
theorem zjc {a k:Int} (ha:0<=a/\a<=1000) (hk:0<=k/\k<=1000):FnD Tryz.prog 283 [.agg [.d (.i a),.d (.i k)]] [] (.d (.i (a*4+k))) []:=by
 refine bd Tryz.f283 9 [] [] fun _ _ _ _ hk=>?_;refine bx 3001 ?_;refine ev (ar (ar ?_));focus (refine rq ?_;all_goals ((simp[];done)))
theorem oh{p:Prop}(h:p:=by first|rfl|(simp only[zam,occH,occE,Res.ids,xai,List.nil_append,AV.idsL,AV.ids,zab,zaa,zag,zaq,xaf,List.map_nil,upC,zaB];rfl)):p:=h
theorem ou{p:Prop}(h:p:=by first|rfl|(simp only[zaH,List.all_cons,List.all_nil,zbo,za8,AV.idsL,AV.ids,zab,zaa,xaf,List.map_nil,zaB];rfl)):p:=h
theorem zn7 {n:Nat}{f:Nat->Nat}{a k:Int} (h:InS n ⟨a,k⟩) (hn:n<=100):
  FnD Tryz.prog 280 [.ms 70 n,.agg [.d (.i a),.d (.i k)]] [(70,some (.box (tabC n f)))] (.d (.i (dv f ⟨a,k⟩))) []:=by
 have hs:=h.facts;refine bd Tryz.f280 13 [12] [] fun _ _ _ _ hk=>?_;refine Walk.box (id:=3003) .none Z Z Z oh oh oh oh ?_;refine evs [12] [] ?_;apply sq<;>intro h1 h1p h1s<;>(try simp only[Q] at h1p);refine rn [] (r1 Z) (.eqd ?_) ⟨Z,Z⟩ (SubH.get ⟨Z,O⟩) (fun _ h=>h);rotate_left;refine Walk.call (cr:=[]) zus (zjc (by have:=hs h1p;omega) (by have:=hs h1p;omega)) Z .none Z Z (LeL.refl _) O Z ou oh ?_;refine xbM (i:=zdf ⟨a,k⟩) sl37 .none Z Z Z (hs h1p).2.1 ((hs h1p).1) (xbR ty3 .none Z Z Z ((zlx (hs h1p).1 od)) ?_);refine evs [12] [] (rn [] (r1 Z) (.eqd ?_) ⟨Z,Z⟩ (SubH.get ⟨Z,O⟩) (fun _ h=>h));rotate_left;all_goals (first|(rw[zne ol];rfl)|(rw[znd ol]))
theorem zn6 {n:Nat}{f:Nat->Nat}{a k:Int} (h:InS n ⟨a,k⟩) (hn:n<=100):
  FnD Tryz.prog 280 [.d (ziX n f),.agg [.d (.i a),.d (.i k)]] [] (.d (.i (dv f ⟨a,k⟩))) []:=by
 have hs:=h.facts;refine bd Tryz.f280 13 [] [] fun _ _ _ _ hk=>?_;refine bx 3003 ?_;refine ev ?_;apply sq<;>intro h1 h1p h1s<;>(try simp only[Q] at h1p);refine rq ?_;rotate_left;refine wc zus (zjc (by have:=hs h1p;omega) (by have:=hs h1p;omega)) Z Z ?_;refine ixq (i:=zdf ⟨a,k⟩) sl37 Z Z (hs h1p).2.1 (by simp[(hs h1p).1];rfl) Z ?_;refine ev (rq ?_);rotate_left;all_goals (first|(rw[zne ol];rfl)|(rw[znd ol]))
theorem zki {w:List Data} (hw:WT w){a k c:Int} (ht:TyIn w.length ⟨a,k⟩) (hc:c∈zas w ⟨a,k⟩):(zae w ⟨a,k⟩ c).length<=1000000000000:=by
 obtain⟨d,rfl,h1,h2⟩:=zbE ht hc;exact zjl hw h1 h2
theorem ow{p:Prop}(h:p:=by first|rfl|(simp;done)):p:=h
theorem zoZ {w:List Data} (hw:WT w){n:Nat}{f:Nat->Nat}{a k c:Int} (ht:TyIn w.length ⟨a,k⟩) (hc:c∈zas w ⟨a,k⟩) (hn:n<=100) (hb:∀s,f s<=100000) (hin:∀u∈zae w ⟨a,k⟩ c,InS n u):
  FnD Tryz.prog 258 [.d (zaj w),.ms 70 n,.agg [.d (.i a),.d (.i k)],.d (.i c)] [(70,some (.box (tabC n f)))] (.d (.i (most w f ⟨a,k⟩ c))) []:=by
 have hl:=zki hw ht hc;have hd:=zwr hb od;refine bd Tryz.f258 37 [] [] fun _ _ _ _ hk=>?_;refine Walk.box (id:=3006) .none Z Z Z (by(simp only[zam,occH,occE,Res.ids,xai,List.nil_append,AV.idsL,AV.ids,zab,zaa,zag,zaq,xaf,List.map_nil,upC,zaB];rfl)) (by(simp only[zam,occH,occE,Res.ids,xai,List.nil_append,AV.idsL,AV.ids,zab,zaa,zag,zaq,xaf,List.map_nil,upC,zaB];rfl)) (by(simp only[zam,occH,occE,Res.ids,xai,List.nil_append,AV.idsL,AV.ids,zab,zaa,zag,zaq,xaf,List.map_nil,upC,zaB];rfl)) (by(simp only[zam,occH,occE,Res.ids,xai,List.nil_append,AV.idsL,AV.ids,zab,zaa,zag,zaq,xaf,List.map_nil,upC,zaB];rfl)) (ev (Walk.call (cr:=[]) zbX (zb4 hw ht hc) Z .none Z Z (LeL.refl _) O Z ou oh ?_));refine ev (xaB (ι:=List (Ty)×List (Ty)×(Nat)) hk (fun x=>[(11,.d (.i (x.1.length:Int))),(10,.d (.i (x.2.2:Int)))]) [8,12,17,18,19,20,21,22,23,24,25,26,27,28,29,30,31,32,33,34] (fun x=>[]) (fun x=>x.1++x.2.1=zae w ⟨a,k⟩ c/\x.2.2<=100000/\zce f x.2.2 x.2.1=zce f 0 (zae w ⟨a,k⟩ c)) (fun x=>x.2.1.length) ([],zae w ⟨a,k⟩ c,0) ⟨by simp,by simp,Z⟩ ⟨⟨_,Z,xaU ?_⟩,⟨⟨_,Z,xaU ?_⟩,O⟩⟩ O (fun x=>rfl) (fun x hg1=>?_));iterate 2 focus ((simp;done))
 obtain⟨pre,rest,m⟩:=x;dsimp only at hg1 ⊢;refine evc [] [] ?_;apply sq<;>intro h1 h1p h1s<;>(try simp only[Q] at h1p);rcases rest with _|⟨y,rest⟩
 ·exfalso;simp_all
 have hdy:=hd y;have hye:dv f ⟨y.data,y.index⟩=dv f y:=rfl;refine ixq zaz Z Z Z (zaA hg1.1) Z (ev (Walk.call (cr:=[]) zup (zn7 (f:=f) (a:=y.data) (k:=y.index) (hin y (by rw[<-hg1.1];simp)) hn) Z .none Z Z (.cons (xaX ow) (.cons (.refl _) .nil)) ⟨Z,O⟩ Z ou oh ?_));refine ev ?_;apply sq<;>intro h2 h2p h2s<;>(try simp only[Q] at h2p);refine rn [] (r1 Z) (.eqd ?_) ⟨Z,Z⟩ (SubH.get ⟨Z,O⟩) (fun _ h=>h);rotate_left;apply sq<;>intro h3 h3p h3s<;>(try simp only[Q] at h3p);refine ar (xaj ((pre++[y],rest,max m (dv f y))) ⟨⟨(by have hz:=hg1.1;rw[<-hz];simp),⟨(by have:=hd y;dsimp only;omega),(by rw[<-hg1.2.2];simp only[zce];rw[if_neg (by have:=hd y;omega)])⟩⟩,oi,sx ⟨⟨_,Z,xaU ?_⟩,⟨⟨_,Z,xaU ?_⟩,O⟩⟩ O⟩);iterate 2 focus (first|(simp;done)|(dsimp only;omega))
 refine ar (xaj ((pre++[y],rest,max m (dv f y))) ⟨⟨(by have hz:=hg1.1;rw[<-hz];simp),⟨(by have:=hd y;dsimp only;omega),(by rw[<-hg1.2.2];simp only[zce];rw[if_neg (by have:=hd y;omega)])⟩⟩,oi,sx ⟨⟨_,Z,xaU ?_⟩,⟨⟨_,Z,xaU ?_⟩,O⟩⟩ O⟩);iterate 2 focus (first|(simp;done)|(dsimp only;omega))
 have hrest:rest=[]:=by
  rcases rest with _|⟨a,b⟩
  ·rfl
  ·exfalso;have hz:=xam List.length (hg1.1);simp only[xaa,xab,xac] at hz;omega
 subst hrest;refine ar (rn [] (r1 Z) (.eqd ?_) ⟨Z,Z⟩ (SubH.get ⟨Z,O⟩) (fun _ h=>h));rotate_left;all_goals (refine xam D.i ?_;unfold most;rw[<-hg1.2.2];first|(simp only[zce];rw[if_pos od];rfl)|(simp only[zce];omega))
structure Dp (w:List Data):Prop where
 wt:WT w
 cl:ClosedT w
 four:w.length<=4
 ct:∀s,s<w.length*4->(zbg w (tyS s)).length<=4
def midT (w:List Data) (k s:Nat):Nat->Nat:=(List.range s).foldl (zdX w) (zbl w k)
def rowT (w:List Data) (k s:Nat) (pre:List Int):Nat->Nat:=pre.foldl (zb1 w s) (midT w k s)
theorem zii {w:List Data}{k s:Nat}:rowT w k s (zbg w (tyS s))=midT w k (s+1):=by
 unfold rowT midT;rw[List.range_succ,List.foldl_append];rfl
theorem zd5 {w:List Data}{k s:Nat}{pre:List Int}{c:Int}:rowT w k s (pre++[c])=zb1 w s (rowT w k s pre) c:=by
 unfold rowT;rw[List.foldl_append];rfl
theorem zs6 {w:List Data} (hd:Dp w){k s:Nat} (hk:k<=20) (hs:s<=w.length*4){pre:List Int} (hp:pre.length<=4) (i:Nat):rowT w k s pre i<=100000:=by
 have h4:=hd.four;have h1:=zsS (w:=w) (m:=4) hd.ct k;have h2:=zmG (w:=w) (m:=4) (List.range s) (zbl w k) _ (fun x hx=>hd.ct x (by have:=List.mem_range.1 hx;omega)) h1 od;have h3:=zrX (w:=w) (s:=s) pre (midT w k s) _ h2 od i;have e1:k*(w.length*4*4)<=20*(4*4*4):=Nat.mul_le_mul hk od;rw[List.length_range] at h3;show pre.foldl (zb1 w s) (midT w k s) i<=100000
 omega
theorem zvp {w:List Data}{s:Nat} (h:s<w.length*4):TyIn w.length (tyS s):= .inr ⟨s / 4,rfl,by omega⟩
theorem zjU {w:List Data}{s:Nat}:zas w (tyS s)=zbg w (tyS s):=by unfold zas;rw[if_neg (zmK s)]
theorem zsC (m:Nat):zbd (m+1) [.d (.i 0)]=zbd m [.d (.i 0)]++[AV.d (.i 0)]:=by
 induction m with
 |zero=>rfl
 |succ m ihm=>
  show [AV.d (.i 0)]++zbd (m+1) [.d (.i 0)]=([AV.d (.i 0)]++zbd m [.d (.i 0)])++[AV.d (.i 0)]
  rw[ihm,xar]
theorem zp2 (n:Nat):zbd n [.d (.i 0)]=tabC n (fun _=>0):=by
 unfold tabC;induction n with
 |zero=>rfl
 |succ n ih=>rw[zsC,ih,List.range_succ,xag];rfl
theorem zeN {w:List Data}{s:Nat}{f:Nat->Nat}{c:Int} (h:decide ((0:Int)<(most w f (tyS s) c:Int)/\((f s:Int)=0\/(most w f (tyS s) c:Int)<(f s:Int)))=true):zb1 w s f c=updF f s (most w f (tyS s) c):=by
 rw[xah] at h;unfold zb1;rw[if_pos od]
theorem zd4 {w:List Data}{s:Nat}{f:Nat->Nat}{c:Int} (h:decide ((0:Int)<(most w f (tyS s) c:Int)/\((f s:Int)=0\/(most w f (tyS s) c:Int)<(f s:Int)))=false):zb1 w s f c=f:=by
 rw[decide_eq_false_iff_not] at h;unfold zb1;rw[if_neg od]
theorem zoV {w:List Data} (hw:WT w){s:Nat} (hs:s<w.length*4):FnD Tryz.prog 145 [.d (zaj w),.agg [.d (.i ((s:Int) / 4)),.d (.i ((s:Int) % 4))]] [] (.d (zcB (zbg w (tyS s)))) []:=by
 rw[<-zjU];exact zb5 hw (zvp hs)
theorem zqd {w:List Data} (hd:Dp w){f:Nat->Nat}{s:Nat}{c:Int} (hs:s<w.length*4) (hc:c∈zbg w (tyS s)) (hb:∀s,f s<=100000):
  FnD Tryz.prog 258 [.d (zaj w),.ms 70 (w.length*4),.agg [.d (.i ((s:Int) / 4)),.d (.i ((s:Int) % 4))],.d (.i c)] [(70,some (.box (tabC (w.length*4) f)))] (.d (.i (most w f (tyS s) c))) []:=
 have h4:=hd.four;zoZ (a:=(tyS s).data) (k:=(tyS s).index) hd.wt (zvp hs) (by rw[<-zjU] at hc;exact hc) od hb (fun u hu=>hd.cl s hs c hc u hu)
theorem zn9 {w:List Data} (hd:Dp w):FnD Tryz.prog 211 [.d (zaj w)] [] (.d (ziX (w.length*4) (zaX w))) []:=by
 have hw:=hd.wt;have h4:=hd.four;refine bd Tryz.f211 70 [27,29,54,61] [14,999999] fun _ _ _ _ hk=>?_;refine ar (Walk.make (id:=70) (m:=w.length*4) sl37 tz3 Z om (zjV Z) .none Z (xam (fun z:Int=>some (AV.d (D.i z))) (by simp:((w.map Data.c).length:Int)*4=((w.length*4:Nat):Int))) (xam (fun z:Int=>some (AV.d (D.i z))) (by simp:((w.map Data.c).length:Int)*4=((w.length*4:Nat):Int))) od od oh oh oh ?_);refine evs [27,29,54,61] [] (xaB (ι:=Nat) hk (fun n=>[(4,.d (.i (n:Int)))]) [5,6,7,8,9,14,15,16,17,18,19,20,21,22,23,24,25,26,27,28,29,30,31,32,33,34,35,36,37,38,39,40,41,42,43,44,45,46,47,48,49,50,51,52,53,54,55,56,57,58,59,60,61,62,63,64,65,66,67,68] (fun n=>[(70,some (.box (tabC (w.length*4) (zbl w n))))]) (fun n=>n<=w.length*4+1) (fun n=>w.length*4+1-n) 0 oi ⟨⟨_,Z,xaU ?_⟩,O⟩ ⟨?_,O⟩ (fun x=>rfl) (fun n hg1=>?_));focus ((simp;done))
 focus ((show some (Res.box _)=some (Res.box _);rw[zp2];rfl))
 refine evc [27,29,54,61] [14,999999] ?_;apply sq<;>intro h1 h1p h1s<;>(try simp only[Q] at h1p);refine xaB (ι:=Nat) hk (fun s=>[(5,.d (.i (s:Int)))]) [6,7,8,9,20,21,22,23,24,25,26,27,28,29,30,31,32,33,34,35,36,37,38,39,40,41,42,43,44,45,46,47,48,49,50,51,52,53,54,55,56,57,58,59,60,61,62,63,64,65,66,67,68] (fun s=>[(70,some (.box (tabC (w.length*4) (midT w n s))))]) (fun s=>s<=w.length*4) (fun s=>w.length*4-s) 0 oi ⟨⟨_,Z,xaU ?_⟩,O⟩ ⟨?_,O⟩ (fun x=>rfl) (fun s hg2=>?_);focus ((simp;done))
 focus (first|rfl|(show some (Res.box _)=some (Res.box _);rw[<-zii,<-hg3,xaq]))
 refine evc [27,29,54,61] [14,999999] ?_;apply sq<;>intro h2 h2p h2s<;>(try simp only[Q] at h2p);refine xb4 .none Z Z Z od ?_;refine evs [27,29,54,61] [] (xb6 .none Z Z Z od ?_);refine bu [0,1] [_,_] st29 ?_;refine Walk.alloc (id:=3006) tz29 Z .none Z (by(simp only[zam,occH,occE,Res.ids,xai,List.nil_append,AV.idsL,AV.ids,zab,zaa,zag,zaq,xaf,List.map_nil,upC,zaB];rfl)) (by(simp only[zam,occH,occE,Res.ids,xai,List.nil_append,AV.idsL,AV.ids,zab,zaa,zag,zaq,xaf,List.map_nil,upC,zaB];rfl)) (by(simp only[zam,occH,occE,Res.ids,xai,List.nil_append,AV.idsL,AV.ids,zab,zaa,zag,zaq,xaf,List.map_nil,upC,zaB];rfl)) (so ty29 ?_);apply tv;refine Walk.call (cr:=[]) zfL (zoV hw (s:=s) od) Z .none Z Z (LeL.refl _) O Z ou oh ?_;refine evs [27,29,54,61] [] (xaB (ι:=List (Int)×List (Int)) hk (fun x=>[(8,.d (.i (x.1.length:Int)))]) [9,34,35,36,37,38,39,40,41,42,43,44,45,46,47,48,49,50,51,52,53,54,55,56,57,58,59,60,61,62,63,64,65,66,67,68] (fun x=>[(70,some (.box (tabC (w.length*4) (rowT w n s x.1))))]) (fun x=>x.1++x.2=zbg w (tyS s)) (fun x=>x.2.length) ([],zbg w (tyS s)) oi ⟨⟨_,Z,xaU ?_⟩,O⟩ ⟨?_,O⟩ (fun x=>rfl) (fun x hg3=>?_));focus ((simp;done))
 focus (first|rfl|(show some (Res.box _)=some (Res.box _);rw[zd5];first|(rw[zeN ol];done)|(rw[zd4 ol];done)))
 obtain⟨pre,rest⟩:=x;dsimp only at hg3 ⊢;have hct:=hd.ct s od;refine evc [27,29,54,61] [14,999999] ?_;apply sq<;>intro h3 h3p h3s<;>(try simp only[Q] at h3p);rcases rest with _|⟨c,rest⟩
 ·exfalso;simp_all
 refine ixq sl37 Z Z Z (zaA hg3) Z (evd [27,29,54,61] [] (Walk.call (cr:=[]) zyp (zqd hd (f:=rowT w n s pre) (s:=s) (c:=c) od (by rw[<-hg3];simp) (zs6 hd od od (by have:=hd.ct s od;have hz:=xam List.length hg3;simp at hz;omega))) Z .none Z Z (.cons (.refl _) (.cons (xaX ow) (.cons (.refl _) (.cons (.refl _) .nil)))) ⟨Z,O⟩ Z ou oh ?_));refine evd [27,29,54,61] [] (dr (xaC (xbn 17 [(64,.d (.bool (decide ((0:Int)<(most w (rowT w n s pre) (tyS s) c:Int)/\((rowT w n s pre s:Int)=0\/(most w (rowT w n s pre) (tyS s) c:Int)<(rowT w n s pre s:Int))))))] [48,49,50,51,52,53,54,55,56,57,58,59,60,61,62,63] ?_ ?_)));refine evs [27,29,54,61] [] ?_;apply sq<;>intro h4 h4p h4s<;>(try simp only[Q] at h4p);refine xbM (i:=s) sl37 (.some Z Z h4) Z Z Z Z od ?_;refine xbR ty3 (.some Z Z h4) Z Z Z ((zlx (s:=s) od od)) ?_;refine evs [27,29,54,61] [(50,true)] ?_ ⟨⟨_,Z,h4⟩,O⟩;apply sq<;>intro h5 h5p h5s<;>(try simp only[Q] at h5p);exact jnb Z;refine xbM (i:=s) sl37 (.some Z Z h5) Z Z Z Z od ?_;refine xbR ty3 (.some Z Z h5) Z Z Z ((zlx (s:=s) od od)) ?_;refine evs [27,29,54,61] [(50,true),(56,false)] ?_ ⟨⟨_,Z,h4⟩,⟨_,Z,h5⟩,O⟩;exact jnb Z;exact jnb Z;refine xbm ?_;apply tv;apply sq<;>intro h6 h6p h6s<;>(try simp only[Q] at h6p);refine xbM (i:=s) sl37 .none Z Z Z Z od ?_;refine Walk.store ty3 .none Z Z Z Z Z Z oi ((zta (s:=s) (v:=most w (rowT w n s pre) (tyS s) c) od od Z)) ?_;apply tv;refine ar (xaj ((pre++[c],rest)) ⟨(by have hz:=hg3;rw[<-hz];simp),oi,sx ⟨⟨_,Z,xaU ?_⟩,O⟩ ⟨?_,O⟩⟩);focus ((simp;done))
 focus ((show some (Res.box _)=some (Res.box _);rw[zd5];first|(rw[zeN ol];done)|(rw[zd4 ol];done)))
 refine ar (xaj ((pre++[c],rest)) ⟨(by have hz:=hg3;rw[<-hz];simp),oi,sx ⟨⟨_,Z,xaU ?_⟩,O⟩ ⟨?_,O⟩⟩);focus ((simp;done))
 focus ((show some (Res.box _)=some (Res.box _);rw[zd5];first|(rw[zeN ol];done)|(rw[zd4 ol];done)))
 have hrest:rest=[]:=by
  rcases rest with _|⟨a,b⟩
  ·rfl
  ·exfalso;have hz:=xam List.length (hg3);simp only[xaa,xab,xac] at hz;omega
 subst hrest;refine ar (xaj (s+1) ⟨od,od,sx ⟨⟨_,Z,xaU ?_⟩,O⟩ ⟨?_,O⟩⟩);focus ((simp;done))
 focus ((show some (Res.box _)=some (Res.box _);rw[<-zii,<-hg3,xaq]))
 refine ar (xaj (n+1) ⟨od,od,sx ⟨⟨_,Z,xaU ?_⟩,O⟩ ⟨?_,O⟩⟩);focus ((simp;done))
 focus (first|(show some (Res.box _)=some (Res.box _);rw[zp2];rfl)|(have e:s=w.length*4:=od;rw[e];rfl))
 refine xaA hk 2 70 _ _ Z Z zuu Z (CWp.ret (rq ?_));rotate_left;all_goals ((have e:n=w.length*4+1:=od;rw[e];rfl))
theorem zps {α:Type} [Inhabited α] (p:α->Bool):∀(l:List α) (i:Nat),(idxF p l i = -1/\∀x∈l,p x=false)\/∃k:Nat,idxF p l i=((i+k:Nat):Int)/\k<l.length/\(l.take (k+1)).filter (fun x=> !p x)=l.take k
 | [],i=> .inl ⟨rfl,by simp⟩
 |x::r,i=>by
  unfold idxF;cases h:p x with
  |true=>exact .inr ⟨0,by simp,by simp,by simp[h]⟩
  |false=>
   rcases zps p r (i+1) with ⟨h1,h2⟩|⟨k,h1,h2,h3⟩
   ·exact .inl ⟨by simpa using h1,fun y hy=>by rcases List.mem_cons.1 hy with rfl|hy;exact h;exact h2 y hy⟩
   ·refine .inr ⟨k+1,by simp only[Bool.false_eq_true,if_false];rw[h1];congr 1;omega,by simpa using h2, ?_⟩;simp only[List.take_succ_cons,List.filter_cons,h,Bool.not_false,if_true,List.cons.injEq,true_and];simpa using h3
theorem zj6 {α:Type} [Inhabited α]{s:List α}{i:Nat}{t:α} (h:i<s.length):(s.set i t).take (i+1)=s.take i++[t]:=by
 rw[List.set_eq_take_append_cons_drop,if_pos h,List.take_append,List.take_take];have:(s.take i).length=i:=by simp;omega
 simp[this,Nat.min_eq_right]
theorem zp3 {α:Type}{s:List α}{i j:Nat}{t:α} (h:i<=j):(s.set i t).drop (j+1)=s.drop (j+1):=by
 rw[List.drop_set,if_pos od]
theorem zhG {α:Type} [Inhabited α]{p:α->Bool}{l:List α}{j:Nat} (h:j<l.length):(l.take (j+1)).filter p=(l.take j).filter p++(if p (nth l j) then [nth l j] else []):=by
 rw[List.take_add_one,xan h,List.filter_append,zaJ h];simp[List.filter_cons]
theorem zsw {α:Type} [Inhabited α]{s l:List α}{j:Nat} (h:s.drop j=l.drop j) (hl:s.length=l.length) (hj:j<l.length):nth s j=nth l j:=by
 have h1:=zaF (l:=s) (i:=j) od;have h2:=zaF (l:=l) (i:=j) hj;rw[h1,h2] at h;exact(List.cons.inj h).1
theorem zib {α:Type}{s l:List α}{j:Nat} (h:s.drop j=l.drop j):s.drop (j+1)=l.drop (j+1):=by
 have:=xam (List.drop 1) h;simpa [List.drop_drop,Nat.add_comm] using this
theorem zds {w:List Data} (hs:WSmall w) (hv:zaI w=true):WT w:=WV.wt hs ((zdo w).1 hv)
theorem ztW {w:List Data} (hv:zaI w=true):w.length<=4:=by
 unfold zaI at hv;simp only[xad,xah] at hv;omega
set_option maxHeartbeats 4000000
theorem zfT {p:Pat}{b1 b2 b3:Bool}{k:Int}:FnD Tryz.prog 237 [.agg [.d (.i p.op),.d (.i p.ctor),.d (.i p.n),.d (.i p.m),.d (.i p.var),.d (zak p.kids)],.d (.bool b1),.d (.bool b2),.d (.bool b3),.d (.i k)] []
  (.d (.bool (decide ((b1=true\/p.ctor=0)/\(b2=true\/p.n=0/\p.m=0)/\(b3=true\/p.var=0)/\(p.kids.length:Int)=k)))) []:=by
 refine bd Tryz.f237 45 [] [1] fun _ _ _ _ hk=>?_;refine bx 3005 ?_;refine ev (xaC (xbn 6 [(16,.d (.bool (decide (b1=true\/p.ctor=0))))] [11,12,13,14,15] ?_ ?_));refine ev ?_;apply sq<;>intro h1 h1p h1s;focus (exact jn Z (xaT (by(first|rfl|(rw[xat];simp_all[xa3];done)))))
 focus (exact jn Z (xaT (by(first|rfl|(rw[xat];simp_all[xa3];done)))))
 refine xbn 13 [(29,.d (.bool (decide ((b1=true\/p.ctor=0)/\(b2=true\/p.n=0/\p.m=0)))))] [17,18,19,20,21,22,23,24,25,26,27,28] ?_ ?_;refine ev ?_;apply sq<;>intro h2 h2p h2s;apply sq<;>intro h3 h3p h3s;focus (exact jn Z (xaT (by(first|rfl|(rw[xat];simp_all[xa3];done)))))
 apply sq<;>intro h4 h4p h4s;focus (exact jn Z (xaT (by(first|rfl|(rw[xat];simp_all[xa3];done)))))
 focus (exact jn Z (xaT (by(first|rfl|(rw[xat];simp_all[xa3];done)))))
 focus (exact jn Z (xaT (by(first|rfl|(rw[xat];simp_all[xa3];done)))))
 refine xbn 8 [(37,.d (.bool (decide ((b1=true\/p.ctor=0)/\(b2=true\/p.n=0/\p.m=0)/\(b3=true\/p.var=0)))))] [30,31,32,33,34,35,36] ?_ ?_;refine ev ?_;apply sq<;>intro h5 h5p h5s;apply sq<;>intro h6 h6p h6s;focus (exact jn Z (xaT (by(first|rfl|(rw[xat];simp_all[xa3];done)))))
 focus (exact jn Z (xaT (by(first|rfl|(rw[xat];simp_all[xa3];done)))))
 focus (exact jn Z (xaT (by(first|rfl|(rw[xat];simp_all[xa3];done)))))
 refine xbn 7 [(44,.d (.bool (decide ((b1=true\/p.ctor=0)/\(b2=true\/p.n=0/\p.m=0)/\(b3=true\/p.var=0)/\(p.kids.length:Int)=k))))] [38,39,40,41,42,43] ?_ ?_;refine ev ?_;apply sq<;>intro h7 h7p h7s;focus (exact jn Z (xaT (by(first|rfl|(rw[xat];simp_all[xa3];done)))))
 focus (exact jn Z (xaT (by(first|rfl|(rw[xat];simp_all[xa3];done)))))
 refine xbm (ev (rq ?_));rotate_left;all_goals (rfl)
theorem zgu {p:Pat}{k:Int}:FnD Tryz.prog 237 [.agg [.d (.i p.op),.d (.i p.ctor),.d (.i p.n),.d (.i p.m),.d (.i p.var),.d (zak p.kids)],.d (.bool false),.d (.bool false),.d (.bool false),.d (.i k)] []
  (.d (.bool (decide (p.ctor=0/\(p.n=0/\p.m=0)/\p.var=0/\(p.kids.length:Int)=k)))) []:=by
 have:=zfT (p:=p) (b1:=false) (b2:=false) (b3:=false) (k:=k);simpa only[Bool.false_eq_true,false_or] using this
theorem zgv {p:Pat}{k:Int}:FnD Tryz.prog 237 [.agg [.d (.i p.op),.d (.i p.ctor),.d (.i p.n),.d (.i p.m),.d (.i p.var),.d (zak p.kids)],.d (.bool false),.d (.bool false),.d (.bool true),.d (.i k)] []
  (.d (.bool (decide (p.ctor=0/\(p.n=0/\p.m=0)/\(p.kids.length:Int)=k)))) []:=by
 have:=zfT (p:=p) (b1:=false) (b2:=false) (b3:=true) (k:=k);simpa only[Bool.false_eq_true,false_or,true_or,true_and] using this
theorem zlV {p:Pat}{k:Int}:FnD Tryz.prog 237 [.agg [.d (.i p.op),.d (.i p.ctor),.d (.i p.n),.d (.i p.m),.d (.i p.var),.d (zak p.kids)],.d (.bool false),.d (.bool true),.d (.bool false),.d (.i k)] []
  (.d (.bool (decide (p.ctor=0/\p.var=0/\(p.kids.length:Int)=k)))) []:=by
 have:=zfT (p:=p) (b1:=false) (b2:=true) (b3:=false) (k:=k);simpa only[Bool.false_eq_true,false_or,true_or,true_and] using this
theorem zst {p:Pat}{k:Int}:FnD Tryz.prog 237 [.agg [.d (.i p.op),.d (.i p.ctor),.d (.i p.n),.d (.i p.m),.d (.i p.var),.d (zak p.kids)],.d (.bool true),.d (.bool false),.d (.bool false),.d (.i k)] []
  (.d (.bool (decide ((p.n=0/\p.m=0)/\p.var=0/\(p.kids.length:Int)=k)))) []:=by
 have:=zfT (p:=p) (b1:=true) (b2:=false) (b3:=false) (k:=k);simpa only[Bool.false_eq_true,false_or,true_or,true_and] using this
theorem zfn {v:Int}:FnD Tryz.prog 68 [.d (.i v)] [] (.d (.bool (zan v 0 5))) []:=by
 refine bd Tryz.f68 5 [] [] fun _ _ _ _ hk=>?_;refine wc zeu zbk Z Z ?_;refine ev (rq ?_);rotate_left;all_goals (rfl)
theorem zdl {w:List Data} (hw:WT w){a k:Int} (ht:TyIn w.length ⟨a,k⟩):FnD Tryz.prog 156 [.d (zaj w),.agg [.d (.i a),.d (.i k)]] [] (.d (zcB (zas w ⟨a,k⟩))) []:=by
 rcases ht with ha|⟨d,hd,hlt⟩
 ·simp only at ha;subst ha;rw[zhr];exact zj8
 ·simp only at hd;subst hd;rw[ziz];exact znk hw hlt
theorem zcU {w:List Data} (hw:WT w){a k c:Int} (ht:TyIn w.length ⟨a,k⟩) (hc:c∈zas w ⟨a,k⟩):FnD Tryz.prog 157 [.d (zaj w),.agg [.d (.i a),.d (.i k)],.d (.i c)] [] (.d (zbZ (zae w ⟨a,k⟩ c))) []:=by
 obtain⟨d,rfl,h1,h2⟩:=zbE ht hc;exact zmd hw h1 h2
theorem zj0 {w:List Data} (hw:WT w){a k:Int}{p:Pat} (ht:TyIn w.length ⟨a,k⟩):
  FnD Tryz.prog 183 [.d (zaj w),.agg [.d (.i a),.d (.i k)],.agg [.d (.i p.op),.d (.i p.ctor),.d (.i p.n),.d (.i p.m),.d (.i p.var),.d (zak p.kids)]] [] (.tup [.d (zbZ (zc8 w ⟨a,k⟩ p)),.d (.bool (okP w ⟨a,k⟩ p))]) []:=by
 have hcl:=zf6 hw ht;have ty4:p.op=4->p.ctor∉zas w ⟨a,k⟩->zc8 w ⟨a,k⟩ p=[]:=fun h4 hm=>by unfold zc8;rw[if_pos ⟨h4,hm⟩]
 have ty4':p.op=4->p.ctor∈zas w ⟨a,k⟩->zc8 w ⟨a,k⟩ p=zae w ⟨a,k⟩ p.ctor:=fun h4 hm=>by unfold zc8 zai;rw[if_neg (fun h=>h.2 hm),if_pos h4]
 have ty5:p.op=5->zc8 w ⟨a,k⟩ p=[⟨a,k⟩,⟨a,k⟩]:=fun h5=>by unfold zc8 zai;rw[if_neg od,if_neg od,if_pos h5]
 have ty6:p.op=6->zc8 w ⟨a,k⟩ p=[⟨a,k⟩]:=fun h6=>by unfold zc8 zai;rw[if_neg od,if_neg od,if_neg od,if_pos h6]
 have ty0:¬p.op=4->¬p.op=5->¬p.op=6->zc8 w ⟨a,k⟩ p=[]:=fun h4 h5 h6=>by unfold zc8 zai;rw[if_neg (fun h=>h4 h.1),if_neg h4,if_neg h5,if_neg h6]
 have ln4:p.op=4->(zai w ⟨a,k⟩ p).length=(zae w ⟨a,k⟩ p.ctor).length:=fun h4=>by unfold zai;rw[if_pos h4]
 have ln5:p.op=5->(zai w ⟨a,k⟩ p).length=2:=fun h5=>by unfold zai;rw[if_neg od,if_pos h5];rfl
 have ln6:p.op=6->(zai w ⟨a,k⟩ p).length=1:=fun h6=>by unfold zai;rw[if_neg od,if_neg od,if_pos h6];rfl
 have ln0:¬p.op=4->¬p.op=5->¬p.op=6->(zai w ⟨a,k⟩ p).length=0:=fun h4 h5 h6=>by unfold zai;rw[if_neg h4,if_neg h5,if_neg h6];rfl
 have okI:∀b:Bool,(b=true↔((((p.op=2\/p.op=6)->0<=p.var/\p.var<=5)/\(¬(p.op=2\/p.op=6)->p.var=0)/\(p.op≠3->p.n=0/\p.m=0)/\(p.op≠4->p.ctor=0)/\
   (p.op=1\/p.op=2\/p.op=5\/p.op=6\/(p.op=3/\a = -1/\0<=p.n/\p.n<=p.m/\p.m<=9)\/(p.op=4/\p.ctor∈zas w ⟨a,k⟩)))/\p.kids.length=(zai w ⟨a,k⟩ p).length))->b=okP w ⟨a,k⟩ p:=fun b h=>by
  rw[xat,h];unfold okP ownP;simp only[xad,xah]
 by_cases hmem:p.ctor∈zas w ⟨a,k⟩
 ·have hargs:=zcU hw ht hmem;have hal:(zae w ⟨a,k⟩ p.ctor).length<=1000000000000:=by
   obtain⟨d,rfl,h1,h2⟩:=zbE ht hmem;exact zjl hw h1 h2
  simp only[hmem,and_true] at okI;refine bd Tryz.f183 87 [] [5] fun _ _ _ _ hk=>?_;refine bx 3004 ?_;refine bx 3005 ?_;refine ev ?_;apply sq<;>intro h1 h1p h1s<;>(try simp only[Q] at h1p);refine wc zeC zgu Z Z ?_;refine ev (rn0 (r2 Z Z) (.tup (qne ?_ ?_)));rotate_left 2;apply sq<;>intro h2 h2p h2s<;>(try simp only[Q] at h2p);refine xaC (xbn 7 [(23,.d (.bool (decide ((p.ctor=0/\(p.n=0/\p.m=0)/\(p.kids.length:Int)=0)/\0<=p.var/\p.var<=5))))] [17,18,19,20,21,22] ?_ ?_);refine ev (wc zeC zgv Z Z ?_);refine ev ?_;apply sq<;>intro h3 h3p h3s<;>(try simp only[Q] at h3p);refine Walk.call (cr:=[]) zqm zfn Z (.some Z Z h3) Z Z (LeL.refl _) O Z Z Z (evs [] [(19,true)] ?_ ⟨⟨_,Z,h3⟩,O⟩);exact jn Z (xaT (by(rw[xat];simp only[xah,zan,xad,Bool.false_eq_true,false_iff,true_iff];omega)));exact jn Z (xaT (by(rw[xat];simp only[xah,zan,xad,Bool.false_eq_true,false_iff,true_iff];omega)));refine xbm (ev (rn0 (r2 Z Z) (.tup (qne ?_ ?_))));rotate_left 2;apply sq<;>intro h4 h4p h4s<;>(try simp only[Q] at h4p);apply sq<;>intro h5 h5p h5s<;>(try simp only[Q] at h5p);refine Walk.call (cr:=[]) zeC zlV Z (.some Z Z h5) Z Z (LeL.refl _) O Z Z Z (evd [] [(29,true)] ?_ ⟨⟨_,Z,h5⟩,O⟩);apply sq<;>intro h6 h6p h6s<;>(try simp only[Q] at h6p);apply sq<;>intro h7 h7p h7s<;>(try simp only[Q] at h7p);apply sq<;>intro h8 h8p h8s<;>(try simp only[Q] at h8p);refine dr (rn0 (r2 Z Z) (.tup (qne ?_ ?_)));rotate_left 2;refine dr (rn0 (r2 Z Z) (.tup (qne ?_ ?_)));rotate_left 2;refine sqF ?_;refine dr (rn0 (r2 Z Z) (.tup (qne ?_ ?_)));rotate_left 2;refine sqF ?_;refine sqF ?_;refine dr (rn0 (r2 Z Z) (.tup (qne ?_ ?_)));rotate_left 2;refine sqF ?_;refine sqF ?_;refine sqF ?_;refine dr (rn0 (r2 Z Z) (.tup (qne ?_ ?_)));rotate_left 2;apply sq<;>intro h9 h9p h9s<;>(try simp only[Q] at h9p);refine wc ziO (zdl hw ht) Z Z ?_;refine evd [] [] (wc zmW (zcO hcl) Z Z ?_);refine evd [] [] (dr ?_);apply sq<;>intro h10 h10p h10s<;>(try simp only[Q] at h10p);exfalso;simp_all;refine wc ziP hargs Z Z ?_;refine ev (wc zeC zst Z Z ?_);refine ev (rn0 (r2 Z Z) (.tup (qee ?_ ?_)));rotate_left 2;apply sq<;>intro h11 h11p h11s<;>(try simp only[Q] at h11p);refine si [0,1] [_,_] zaz tz29 ?_;refine evd [] [] (wc zeC zgu Z Z ?_);refine evd [] [] (dr (rn0 (r2 Z Z) (.tup (qee ?_ ?_))));rotate_left 2;apply sq<;>intro h12 h12p h12s<;>(try simp only[Q] at h12p);refine si [0] [_] zaz tz29 ?_;refine evd [] [] (wc zeC zgv Z Z ?_);refine evd [] [] ?_;apply sq<;>intro h13 h13p h13s<;>(try simp only[Q] at h13p);refine Walk.call (cr:=[]) zqm zfn Z (.some Z Z h13) Z Z (LeL.refl _) O Z Z Z (evd [] [(82,true)] ?_ ⟨⟨_,Z,h13⟩,O⟩);refine dr (rn0 (r2 Z Z) (.tup (qee ?_ ?_)));rotate_left 2;refine dr (rn0 (r2 Z Z) (.tup (qee ?_ ?_)));rotate_left 2;refine rn0 (r2 Z Z) (.tup (qne ?_ ?_));rotate_left 2;all_goals (first|(refine xam D.bool (okI _ ?_);(try simp only[xah,Bool.false_eq_true,zan,xad,xac,true_iff,false_iff]);omega)|(rw[ty0 od od od];first|done|rfl)|(rw[ty5 od];first|done|rfl)|(rw[ty6 od];first|done|rfl)|(rw[ty4' od hmem];first|done|rfl))
 ·simp only[hmem,and_false,or_false] at okI;refine bd Tryz.f183 87 [] [5] fun _ _ _ _ hk=>?_;refine bx 3004 ?_;refine bx 3005 ?_;refine ev ?_;apply sq<;>intro h1 h1p h1s<;>(try simp only[Q] at h1p);refine wc zeC zgu Z Z ?_;refine ev (rn0 (r2 Z Z) (.tup (qne ?_ ?_)));rotate_left 2;apply sq<;>intro h2 h2p h2s<;>(try simp only[Q] at h2p);refine xaC (xbn 7 [(23,.d (.bool (decide ((p.ctor=0/\(p.n=0/\p.m=0)/\(p.kids.length:Int)=0)/\0<=p.var/\p.var<=5))))] [17,18,19,20,21,22] ?_ ?_);refine ev (wc zeC zgv Z Z ?_);refine ev ?_;apply sq<;>intro h3 h3p h3s<;>(try simp only[Q] at h3p);refine Walk.call (cr:=[]) zqm zfn Z (.some Z Z h3) Z Z (LeL.refl _) O Z Z Z (evs [] [(19,true)] ?_ ⟨⟨_,Z,h3⟩,O⟩);exact jn Z (xaT (by(rw[xat];simp only[xah,zan,xad,Bool.false_eq_true,false_iff,true_iff];omega)));exact jn Z (xaT (by(rw[xat];simp only[xah,zan,xad,Bool.false_eq_true,false_iff,true_iff];omega)));refine xbm (ev (rn0 (r2 Z Z) (.tup (qne ?_ ?_))));rotate_left 2;apply sq<;>intro h4 h4p h4s<;>(try simp only[Q] at h4p);apply sq<;>intro h5 h5p h5s<;>(try simp only[Q] at h5p);refine Walk.call (cr:=[]) zeC zlV Z (.some Z Z h5) Z Z (LeL.refl _) O Z Z Z (evd [] [(29,true)] ?_ ⟨⟨_,Z,h5⟩,O⟩);apply sq<;>intro h6 h6p h6s<;>(try simp only[Q] at h6p);apply sq<;>intro h7 h7p h7s<;>(try simp only[Q] at h7p);apply sq<;>intro h8 h8p h8s<;>(try simp only[Q] at h8p);refine dr (rn0 (r2 Z Z) (.tup (qne ?_ ?_)));rotate_left 2;refine dr (rn0 (r2 Z Z) (.tup (qne ?_ ?_)));rotate_left 2;refine sqF ?_;refine dr (rn0 (r2 Z Z) (.tup (qne ?_ ?_)));rotate_left 2;refine sqF ?_;refine sqF ?_;refine dr (rn0 (r2 Z Z) (.tup (qne ?_ ?_)));rotate_left 2;refine sqF ?_;refine sqF ?_;refine sqF ?_;refine dr (rn0 (r2 Z Z) (.tup (qne ?_ ?_)));rotate_left 2;apply sq<;>intro h9 h9p h9s<;>(try simp only[Q] at h9p);refine wc ziO (zdl hw ht) Z Z ?_;refine evd [] [] (wc zmW (zcO hcl) Z Z ?_);refine evd [] [] (dr ?_);apply sq<;>intro h10 h10p h10s<;>(try simp only[Q] at h10p);refine rn0 (r2 Z Z) (.tup (qne ?_ ?_));rotate_left 2;exfalso;simp_all;apply sq<;>intro h11 h11p h11s<;>(try simp only[Q] at h11p);refine si [0,1] [_,_] zaz tz29 ?_;refine evd [] [] (wc zeC zgu Z Z ?_);refine evd [] [] (dr (rn0 (r2 Z Z) (.tup (qee ?_ ?_))));rotate_left 2;apply sq<;>intro h12 h12p h12s<;>(try simp only[Q] at h12p);refine si [0] [_] zaz tz29 ?_;refine evd [] [] (wc zeC zgv Z Z ?_);refine evd [] [] ?_;apply sq<;>intro h13 h13p h13s<;>(try simp only[Q] at h13p);refine Walk.call (cr:=[]) zqm zfn Z (.some Z Z h13) Z Z (LeL.refl _) O Z Z Z (evd [] [(82,true)] ?_ ⟨⟨_,Z,h13⟩,O⟩);refine dr (rn0 (r2 Z Z) (.tup (qee ?_ ?_)));rotate_left 2;refine dr (rn0 (r2 Z Z) (.tup (qee ?_ ?_)));rotate_left 2;refine rn0 (r2 Z Z) (.tup (qne ?_ ?_));rotate_left 2;all_goals (first|(refine xam D.bool (okI _ ?_);(try simp only[xah,Bool.false_eq_true,zan,xad,xac,true_iff,false_iff]);omega)|(rw[ty0 od od od];first|done|rfl)|(rw[ty5 od];first|done|rfl)|(rw[ty6 od];first|done|rfl)|(rw[ty4 od hmem];first|done|rfl))
theorem zvw {t u:Vt}:t=u↔t.var=u.var/\t.ty.data=u.ty.data/\t.ty.index=u.ty.index:=by
 rcases t with ⟨a,b,c⟩;rcases u with ⟨d,e,f⟩;simp
def ztx (l:List Vt) (v:Vt):Int:=idxF (fun x=>decide (v=x)) l 0
theorem zkW {l:List Vt}{v:Vt} (h:l.length<=1000000000000):FnD Tryz.prog 236 [.d (zbK l),.agg [.d (.i v.var),.d (.i v.ty.data),.d (.i v.ty.index)]] [] (.d (.i (ztx l v))) []:=by
 refine bd Tryz.f236 19 [16] [] fun _ _ _ _ hk=>?_;refine bx 3003 ?_;refine evs [16] [] (xaB (ι:=List (Vt)×List (Vt)) hk (fun x=>[(8,.d (.i (x.1.length:Int)))]) [4,5,9,10,11,12,13,14,15,16,17,18] (fun x=>[]) (fun x=>x.1++x.2=l/\idxF (fun x=>decide (v=x)) x.2 x.1.length=idxF (fun x=>decide (v=x)) l 0) (fun x=>x.2.length) ([],l) ⟨by simp,Z⟩ ⟨⟨_,Z,xaU ?_⟩,O⟩ O (fun x=>rfl) (fun x hg1=>?_));focus (first|rfl|omega)
 obtain⟨pre,rest⟩:=x;dsimp only at hg1 ⊢;refine evc [16] [] ?_;apply sq<;>intro h1 h1p h1s<;>(try simp only[Q] at h1p);rcases rest with _|⟨y,rest⟩
 ·exfalso;simp_all
 refine ixq sl66 Z Z Z (zaA hg1.1) Z (evd [16] [] (Walk.eqV2 zzD .none Z Z Z Z Z (dr ?_)));apply sq<;>intro h2 h2p h2s<;>(try simp only[Q] at h2p);refine rq ?_;rotate_left;refine ar (xaj ((pre++[y],rest)) ⟨⟨(by have hz:=hg1.1;rw[<-hz];simp),(by rw[<-hg1.2];simp[idxF];simp_all[zvw])⟩,oi,sx ⟨⟨_,Z,xaU ?_⟩,O⟩ O⟩);focus (first|rfl|(simp;done)|omega)
 have hrest:rest=[]:=by
  rcases rest with _|⟨a,b⟩
  ·rfl
  ·exfalso;have hz:=xam List.length (hg1.1);simp only[xaa,xab,xac] at hz;omega
 subst hrest;refine rq ?_;rotate_left;all_goals (unfold ztx;rw[<-hg1.2];simp_all[idxF,zvw])
theorem zfG {l:List Vt}{v:Vt} (h:l.length<=1000000000000):FnD Tryz.prog 182 [.d (zbK l),.agg [.d (.i v.var),.d (.i v.ty.data),.d (.i v.ty.index)]] [] (.d (.bool (decide (v∈l)))) []:=by
 refine bd Tryz.f182 9 [] [] fun _ _ _ _ hk=>?_;refine bx 3003 ?_;refine ev (wc zyj (zkW h) Z Z ?_);refine ev (rq ?_);rotate_left;all_goals (refine xam D.bool ?_;rw[show ztx l v=idxF (fun x=>decide (v=x)) l 0 from rfl,zeG];simp[List.any_eq,eq_comm])
theorem zfk {xs:List Vt}{f:Nat}{caps:List AV}{hp:Hp}{p:Vt->Bool} (hs:xs.length<=1000000000000) (hcal:Callee Tryz.prog f)
  (hf:∀t∈xs,FnD Tryz.prog f ([.agg [.d (.i t.var),.d (.i t.ty.data),.d (.i t.ty.index)]]++caps) hp (.d (.bool (p t))) []) (k1:subH hp hp) (k2:zdJ hp=true) (k3:zaH hp [] (.d .nilp) []=true):
  FnD Tryz.prog 240 [.d (zbK xs),.fn f caps] hp (.d (.i (idxF p xs 0))) []:=by
 refine bd Tryz.f240 19 [] [] fun _ _ _ _ hk=>?_;refine xaB (ι:=List (Vt)×List (Vt)) hk (fun x=>[(8,.d (.i (x.1.length:Int)))]) [4,5,9,10,11,12,13,14,15,16,17,18] (fun x=>[]) (fun x=>x.1++x.2=xs/\idxF p x.2 x.1.length=idxF p xs 0) (fun x=>x.2.length) ([],xs) ⟨by simp,Z⟩ ⟨⟨_,Z,xaU ?_⟩,O⟩ O (fun x=>zfK hp) (fun x hg1=>?_);focus (first|rfl|omega)
 obtain⟨pre,rest⟩:=x;dsimp only at hg1 ⊢;refine evc [] [] ?_;apply sq<;>intro h1 h1p h1s<;>(try simp only[Q] at h1p);rcases rest with _|⟨y,rest⟩
 ·exfalso;simp_all
 refine ixq sl66 Z Z Z (zaA hg1.1) Z (ev (xbw (cr:=[]) hcal (hf y (by rw[<-hg1.1];simp)) Z .none Z Z Z (LeL.refl _) k1 k2 (zcE k3 _) Z ?_));apply tv;apply sq<;>intro h2 h2p h2s<;>(try simp only[Q] at h2p);focus (refine rn [] (r1 Z) (.eqd ?_) ⟨Z,Z⟩ (fun _ _ h=>h) (fun _ h=>h);all_goals (rw[<-hg1.2];simp[idxF,h1s,h1p,h2s,h2p]))
 refine ar (xaj ((pre++[y],rest)) ⟨⟨(by have hz:=hg1.1;rw[<-hz];simp),(by rw[<-hg1.2];simp[idxF,h2s])⟩,oi,Sub.x oq oq ⟨⟨_,Z,xaU ?_⟩,O⟩ oi (by simp[zdE]) O⟩);focus (first|rfl|(simp;done)|omega)
 have hrest:rest=[]:=by
  rcases rest with _|⟨a,b⟩
  ·rfl
  ·exfalso;have hz:=xam List.length (hg1.1);simp only[xaa,xab,xac] at hz;omega
 subst hrest;focus (refine rn [] (r1 Z) (.eqd ?_) ⟨Z,Z⟩ (fun _ _ h=>h) (fun _ h=>h);all_goals (rw[<-hg1.2];simp[idxF,h1s,h1p]))
theorem zhj {xs:List Vt}{f:Nat}{caps:List AV}{hp:Hp}{p:Vt->Bool} (hs:xs.length<=1000000000000) (hcal:Callee Tryz.prog f)
  (hf:∀t∈xs,FnD Tryz.prog f ([.agg [.d (.i t.var),.d (.i t.ty.data),.d (.i t.ty.index)]]++caps) hp (.d (.bool (p t))) []) (k1:subH hp hp) (k2:zdJ hp=true) (k3:zaH hp [] (.d .nilp) []=true):
  FnD Tryz.prog 238 [.d (zbK xs),.fn f caps] hp (.d (.bool (xs.any p))) []:=by
 refine bd Tryz.f238 9 [] [] fun _ _ _ _ hk=>?_;refine Walk.call (cr:=[]) zuk (zfk hs hcal hf k1 k2 k3) Z .none Z Z (LeL.refl _) k1 k2 (zcE k3 _) Z (ev (rn [] (r1 Z) (.eqd ?_) ⟨Z,Z⟩ (fun _ _ h=>h) (fun _ h=>h)));rotate_left;all_goals (exact xam D.bool (zeG p xs 0))
theorem zkx {b:List Vt}{v:Vt} (h:b.length<=1000000000000):FnD Tryz.prog 239 [.agg [.d (.i v.var),.d (.i v.ty.data),.d (.i v.ty.index)],.ref 3003 0] [(3003,some (.box [.d (zbK b)]))] (.d (.bool (!decide (v∈b)))) []:=by
 refine bd Tryz.f239 8 [] [] fun _ _ _ _ hk=>?_;refine bx 3001 ?_;refine ev (wc zua (zfG h) Z Z ?_);refine ev (rn [] (r1 Z) (.eqd ?_) ⟨Z,Z⟩ (SubH.get ⟨Z,O⟩) (fun _ h=>h));rotate_left;all_goals (rfl)
theorem zhL {x y:List Vt} (hx:x.length<=1000000000000) (hy:y.length<=1000000000000):FnD Tryz.prog 184 [.d (zbK x),.d (zbK y)] [] (.d (.bool (zeO x y))) []:=by
 refine bd Tryz.f184 16 [] [] fun _ _ _ _ hk=>?_;refine bx 3003 ?_;refine ev ?_;apply sq<;>intro h1 h1p h1s;refine xby (xs:=[_]) Z (.some Z Z h1) Z Z (Walk.call (cr:=[]) zyk (zhj (p:=fun v=> !decide (v∈y)) hx zyl (fun t _=>zkx hy) ⟨Z,O⟩ Z Z) Z (.some Z Z h1) Z Z (LeL.refl _) ⟨Z,O⟩ Z Z Z (evs [] [(10,true)] ?_ ⟨⟨_,Z,h1⟩,O⟩));refine rq ?_;rotate_left;refine rq ?_;rotate_left;all_goals (refine xam D.bool ?_;unfold zeO;first|(simp_all;done)|(simp_all;intro hz;omega))
def metA (s:List Int):List AV:=(List.range 6).map fun(i:Nat)=> .d (.bool (decide ((i:Int)∈s)))
theorem zry {s:List Int}{v:Int} (h0:0<=v) (h1:v<=5):(metA s)[v.toNat]?=some (.d (.bool (decide (v∈s)))):=by
 unfold metA;rw[List.getElem?_map,List.getElem?_range od];simp only[Option.map_some];rw[Int.toNat_of_nonneg h0]
theorem zrz {s:List Int}{v:Int} (h0:0<=v) (h1:v<=5):putC (metA s) v.toNat [.d (.bool true)]=some (metA (s++[v])):=by
 have e:v=0\/v=1\/v=2\/v=3\/v=4\/v=5:=by omega
 rcases e with rfl|rfl|rfl|rfl|rfl|rfl<;>simp[metA,putC,List.range_succ]
theorem zuY (t:Ty) (p:Pat):(zaY t p).length<=1:=by unfold zaY;split<;>simp
theorem zpG:∀ {a b:List Int},a.Nodup->(∀x∈a,x∈b)->a.length<=b.length
 | [],b,_,_=>by simp
 |x::r,b,hn,hs=>by
  have hn':=List.nodup_cons.1 hn;have hx:=hs x oi;have h:=zpG (a:=r) (b:=b.erase x) hn'.2 (fun y hy=>by
   have hne:y≠x:=fun e=>hn'.1 (e ▸ hy);exact(List.mem_erase_of_ne hne).2 (hs y (by simp[hy])))
  rw[List.length_erase_of_mem hx] at h;have:=List.length_pos_of_mem hx;simp only[xab];omega
def InR (l:List Vt):Prop:=∀v∈l,0<=v.var/\v.var<=5
theorem zu2 {l:List Vt} (h:InR l) (hn:zc7 l=true):l.length<=6:=by
 unfold zc7 at hn;have h1:=xas hn;have h2:∀x∈l.map Vt.var,x∈[(0:Int),1,2,3,4,5]:=fun x hx=>by
  obtain⟨v,hv,rfl⟩:=List.mem_map.1 hx;have:=h v hv;simp only[List.mem_cons,xau,or_false];omega
 have:=zpG h1 h2;simpa using this
theorem zmv {g:Ty->Pat->Int->Option (List Vt)×Int}{or:Bool} (hg:∀t p c l,(g t p c).1=some l->InR l):∀(a:List Ty) (b:List Pat) (i:Nat) (acc:List Vt) (c:Int) (l:List Vt),InR acc->(zby g or a b i acc c).1=some l->InR l
 | [],b,i,acc,c,l,ha,h=>by simp only[zby,xae] at h;subst h;exact ha
 |_::_,[],i,acc,c,l,ha,h=>by simp only[zby,xae] at h;subst h;exact ha
 |x::r,y::s,i,acc,c,l,ha,h=>by
  simp only[zby] at h;cases hh:(g x y c).1 with
  |none=>rw[hh] at h;cases h
  |some m=>
   rw[hh] at h;simp only at h;split at h
   ·split at h
    ·exact zmv hg r s (i+1) acc _ l ha h
    ·cases h
   ·refine zmv hg r s (i+1) _ _ l (fun v hv=>?_) h;rcases List.mem_append.1 hv with hv|hv
    ·exact ha v hv
    ·exact hg x y c m hh v hv
theorem zr1 (w:List Data):∀(n:Nat) (t:Ty) (p:Pat) (c:Int) (l:List Vt),(zaU w n t p c).1=some l->InR l/\zc7 l=true
 |0,t,p,c,l,h=>by simp[zaU] at h
 |n+1,t,p,c,l,h=>by
  unfold zaU at h;split at h
  ·cases h
  ·split at h
   ·rename_i h60 ho;have ho':ownP w t p=true:=by unfold okP at ho;simp only[xad] at ho;exact ho.1
    cases hk:(zby (zaU w n) (decide (p.op=5)) (zai w t p) p.kids 0 (zaY t p) (c+1)).1 with
    |none=>unfold finV at h;rw[hk] at h;simp only at h;rw[hk] at h;cases h
    |some m=>
     have hi:InR m:=zmv (fun t p c l h=>(zr1 w n t p c l h).1) _ _ _ _ _ m (fun v hv=>by
      unfold zaY at hv;split at hv
      ·rename_i hop;simp only[List.mem_cons,xau,or_false] at hv;subst hv;exact zrD ho' hop
      ·simp at hv) hk
     unfold finV at h;rw[hk] at h;simp only at h;split at h
     ·rename_i hn;rw[hk] at h;cases h
      exact⟨hi,hn⟩
     ·cases h
   ·cases h
theorem zv8 (w:List Data) (n:Nat) (t:Ty) (p:Pat) (c:Int) (h:(zaU w n t p c).1.isSome=true):c+1<=(zaU w n t p c).2/\(zaU w n t p c).2<=60:=by
 have h1:=zgl w n t p c;by_cases hw:zb6 w n t p c=true
 ·have h2:=h1.2 hw;simp only[zb6,xad,xah] at hw;have:=xa5 p;omega
 ·rw[if_neg hw] at h1;rw[h1.1] at h;cases h
def zdV (o:Option (List Vt)):List Vt:=o.getD []
theorem ztJ {g:Ty->Pat->Int->Option (List Vt)×Int}{or:Bool}{a:List Ty}{b:List Pat}{i:Nat}{acc:List Vt}{c:Int} (ha:i<a.length) (hl:b.length=a.length) (h:(g (nth a i) (nth b i) c).1.isSome=false):
  zby g or (a.drop i) (b.drop i) i acc c=(none,(g (nth a i) (nth b i) c).2):=by
 rw[zaF ha,zaF (l:=b) od,zby];cases hh:(g (nth a i) (nth b i) c).1 with
 |none=>rfl
 |some l=>rw[hh] at h;cases h
theorem zvh {g:Ty->Pat->Int->Option (List Vt)×Int}{or:Bool}{a:List Ty}{b:List Pat}{i:Nat}{acc:List Vt}{c:Int} (ha:i<a.length) (hl:b.length=a.length) (h:(g (nth a i) (nth b i) c).1.isSome=true) (ho:or=true/\i=1) (hs:zeO acc (zdV (g (nth a i) (nth b i) c).1)=false):
  zby g or (a.drop i) (b.drop i) i acc c=(none,(g (nth a i) (nth b i) c).2):=by
 rw[zaF ha,zaF (l:=b) od,zby];cases hh:(g (nth a i) (nth b i) c).1 with
 |none=>rfl
 |some l=>rw[hh] at hs;simp only[zdV,Option.getD_some] at hs;simp only[if_pos ho,hs,Bool.false_eq_true,if_false]
theorem ztI {g:Ty->Pat->Int->Option (List Vt)×Int}{or:Bool}{a:List Ty}{b:List Pat}{i:Nat}{acc:List Vt}{c:Int} (ha:i<a.length) (hl:b.length=a.length) (h:(g (nth a i) (nth b i) c).1.isSome=true) (hs:(or=true/\i=1)->zeO acc (zdV (g (nth a i) (nth b i) c).1)=true):
  zby g or (a.drop i) (b.drop i) i acc c=zby g or (a.drop (i+1)) (b.drop (i+1)) (i+1) (if or=true/\i=1 then acc else acc++zdV (g (nth a i) (nth b i) c).1) (g (nth a i) (nth b i) c).2:=by
 rw[zaF ha,zaF (l:=b) od,zby];cases hh:(g (nth a i) (nth b i) c).1 with
 |none=>rw[hh] at h;cases h
 |some l=>
  by_cases ho:or=true/\i=1
  ·have:=hs ho;rw[hh] at this;simp only[zdV,Option.getD_some] at this;simp only[if_pos ho,this,if_true]
  ·simp only[if_neg ho,zdV,Option.getD_some]
theorem zvi {g:Ty->Pat->Int->Option (List Vt)×Int}{or:Bool}{a:List Ty}{b:List Pat}{i:Nat}{acc:List Vt}{c:Int} (ha:a.length<=i):zby g or (a.drop i) (b.drop i) i acc c=(some acc,c):=by
 rw[List.drop_eq_nil_of_le ha,zby];intro a r b s h;cases h
theorem zgn (w:List Data) (n:Nat) (t:Ty) (p:Pat) (c:Int):InR (zdV (zaU w n t p c).1)/\(zdV (zaU w n t p c).1).length<=6:=by
 cases h:(zaU w n t p c).1 with
 |none=>exact⟨fun v hv=>by simp[zdV] at hv,by simp[zdV]⟩
 |some l=>
  have:=zr1 w n t p c l h;exact⟨this.1,zu2 this.1 this.2⟩
structure GoodS (w:List Data) (n:Nat) (t:Ty) (p:Pat) (c:Int) (x:Nat×List Vt×Int):Prop where
 le:x.1<=p.kids.length
 eq:zby (zaU w n) (decide (p.op=5)) ((zai w t p).drop x.1) (p.kids.drop x.1) x.1 x.2.1 x.2.2=zby (zaU w n) (decide (p.op=5)) (zai w t p) p.kids 0 (zaY t p) (c+1)
 lc:(x.1:Int)<=x.2.2
 c0:0<=x.2.2
 c1:x.2.2<=60
 len:x.2.1.length<=1+6*x.1
 inr:InR x.2.1
def zcL (w:List Data) (n:Nat) (t:Ty) (p:Pat) (x:Nat×List Vt×Int):Nat×List Vt×Int:=
 (x.1+1,if decide (p.op=5)=true/\x.1=1 then x.2.1 else x.2.1++zdV (zaU w n (nth (zai w t p) x.1) (nth p.kids x.1) x.2.2).1,(zaU w n (nth (zai w t p) x.1) (nth p.kids x.1) x.2.2).2)
theorem GoodS.next {w:List Data}{n:Nat}{t:Ty}{p:Pat}{c:Int}{x:Nat×List Vt×Int} (hl:p.kids.length=(zai w t p).length) (hg:GoodS w n t p c x) (hlt:x.1<p.kids.length)
  (hz:(zaU w n (nth (zai w t p) x.1) (nth p.kids x.1) x.2.2).1.isSome=true) (hs:(decide (p.op=5)=true/\x.1=1)->zeO x.2.1 (zdV (zaU w n (nth (zai w t p) x.1) (nth p.kids x.1) x.2.2).1)=true):
  GoodS w n t p c (zcL w n t p x):=by
 obtain⟨h1,h2,h3,h4,h5,h6,h7⟩:=hg;have hb:=zv8 w n _ _ _ hz;have ho:=zgn w n (nth (zai w t p) x.1) (nth p.kids x.1) x.2.2;refine⟨by unfold zcL;dsimp only;omega, ?_,by unfold zcL;dsimp only;omega,by unfold zcL;dsimp only;omega,by unfold zcL;dsimp only;omega, ?_, ?_⟩
 ·rw[<-h2,ztI od hl hz hs];rfl
 ·unfold zcL;dsimp only;split
  ·omega
  ·rw[xaa];omega
 ·unfold zcL;dsimp only;split
  ·exact h7
  ·intro v hv;rcases List.mem_append.1 hv with hv|hv
   ·exact h7 v hv
   ·exact ho.1 v hv
theorem GoodS.none {w:List Data}{n:Nat}{t:Ty}{p:Pat}{c:Int}{x:Nat×List Vt×Int} (hl:p.kids.length=(zai w t p).length) (hg:GoodS w n t p c x) (hlt:x.1<p.kids.length)
  (hz:(zaU w n (nth (zai w t p) x.1) (nth p.kids x.1) x.2.2).1.isSome=false):
  finV (zby (zaU w n) (decide (p.op=5)) (zai w t p) p.kids 0 (zaY t p) (c+1))=(none,(zaU w n (nth (zai w t p) x.1) (nth p.kids x.1) x.2.2).2):=by
 rw[<-hg.eq,ztJ od hl hz];rfl
theorem GoodS.bad {w:List Data}{n:Nat}{t:Ty}{p:Pat}{c:Int}{x:Nat×List Vt×Int} (hl:p.kids.length=(zai w t p).length) (hg:GoodS w n t p c x) (hlt:x.1<p.kids.length)
  (hz:(zaU w n (nth (zai w t p) x.1) (nth p.kids x.1) x.2.2).1.isSome=true) (ho:p.op=5/\x.1=1) (hs:zeO x.2.1 (zdV (zaU w n (nth (zai w t p) x.1) (nth p.kids x.1) x.2.2).1)=false):
  finV (zby (zaU w n) (decide (p.op=5)) (zai w t p) p.kids 0 (zaY t p) (c+1))=(Option.none,(zaU w n (nth (zai w t p) x.1) (nth p.kids x.1) x.2.2).2):=by
 rw[<-hg.eq,zvh od hl hz (by simpa using ho) hs];rfl
theorem GoodS.fin {w:List Data}{n:Nat}{t:Ty}{p:Pat}{c:Int}{x:Nat×List Vt×Int} (hl:p.kids.length=(zai w t p).length) (hg:GoodS w n t p c x) (hge:p.kids.length<=x.1):
  finV (zby (zaU w n) (decide (p.op=5)) (zai w t p) p.kids 0 (zaY t p) (c+1))=(if zc7 x.2.1=true then some x.2.1 else Option.none,x.2.2):=by
 rw[<-hg.eq,zvi od];unfold finV;simp only;split<;>rfl
theorem zu1 {pre rest l:List Vt}{y:Vt} (h:pre++y::rest=l) (hm:y.var∈pre.map Vt.var):zc7 l=false:=by
 unfold zc7;refine xaw (fun hn=>?_);rw[<-h,xag,xaf,List.nodup_append] at hn;exact hn.2.2 _ hm _ oi Z
theorem znK {pre:List Vt}{y:Vt} (h:(pre.map Vt.var).Nodup) (hm:y.var∉pre.map Vt.var):((pre++[y]).map Vt.var).Nodup:=by
 rw[xag,List.nodup_append];exact⟨h,by simp,fun a ha b hb=>by simp at hb;subst hb;exact fun e=>hm (e ▸ ha)⟩
def retV (r:Option (List Vt)×Int):AV:= .tup [.d (zbK (zdV r.1)),.d (.bool r.1.isSome)]
theorem zer {w:List Data} (hw:WT w):∀(n:Nat){a k d c:Int}{p:Pat},d+n=11->n<=10->TyIn w.length ⟨a,k⟩->p.ok->0<=c->c<=1000000000000->
  FnD Tryz.prog 130 [.d (zaj w),.agg [.d (.i a),.d (.i k)],.agg [.d (.i p.op),.d (.i p.ctor),.d (.i p.n),.d (.i p.m),.d (.i p.var),.d (zak p.kids)],.d (.i d),.ref 950 0] [(950,some (.box [.d (.i c)]))]
   (retV (zaU w n ⟨a,k⟩ p c)) [(950,some (.box [.d (.i (zaU w n ⟨a,k⟩ p c).2)]))]
 |0,a,k,d,c,p,hd,_,_,_,c0,c1=>by
  refine bd Tryz.f130 114 [] [2] fun _ _ _ _ hk=>?_;refine bx 3006 ?_;refine bx 3007 ?_;refine ev (ar (so ty3 ?_));apply tv;refine xaC (xbn 8 [(34,.d (.bool true))] [27,28,29,30,31,32,33] ?_ ?_);refine ev ?_;apply sq<;>intro h1 h1p h1s;exact jnb Z;exact jnb Z;refine xbm ?_;apply tv;apply sq<;>intro h2 h2p h2s;refine rn [(950,some (.box [.d (.i (zaU w 0 ⟨a,k⟩ p c).2)]))] (r2 Z Z) (.tup (qne ?_ ?_)) ⟨Z,Z⟩ (SubO.get ⟨.inr ?_,⟨.inl Z,O⟩⟩) (zaQ Z);rotate_left 3;exact absurd h2 oi;all_goals (first|((rfl);done)|(rfl))
 |n+1,a,k,d,c,p,hd,hn,ht,hok,c0,c1=>by
  by_cases h60:60<c+1
  ·have e:zaU w (n+1) ⟨a,k⟩ p c=(none,c+1):=by unfold zaU;rw[if_pos h60]
   rw[e];refine bd Tryz.f130 114 [] [2] fun _ _ _ _ hk=>?_;refine bx 3006 ?_;refine bx 3007 ?_;refine ev (ar (so ty3 ?_));apply tv;refine xaC (xbn 8 [(34,.d (.bool true))] [27,28,29,30,31,32,33] ?_ ?_);refine ev ?_;apply sq<;>intro h1 h1p h1s;exact jnb Z;exact jnb Z;refine xbm ?_;apply tv;apply sq<;>intro h2 h2p h2s;refine rn [(950,some (.box [.d (.i (c+1))]))] (r2 Z Z) (.tup (qne ?_ ?_)) ⟨Z,Z⟩ (SubO.get ⟨.inr ?_,⟨.inl Z,O⟩⟩) (zaQ Z);rotate_left 3;exact absurd h2 oi;all_goals (first|((rfl);done)|(rfl))
  have hsh:=zj0 hw (p:=p) ht;by_cases hop:okP w ⟨a,k⟩ p=true
  ·have hok':=hok;rw[xa4] at hok;have hop':=hop;unfold okP at hop';simp only[xad,xah] at hop';obtain⟨ho,hl⟩:=hop';have hin:=zeT hw ht ho;have hlen:=zho hw ht (zcF ho);have hst:zc8 w ⟨a,k⟩ p=zai w ⟨a,k⟩ p:=by unfold zc8;rw[if_neg (fun h=>h.2 (zcF ho h.1))]
   rw[hst,hop] at hsh;have e:zaU w (n+1) ⟨a,k⟩ p c=finV (zby (zaU w n) (decide (p.op=5)) (zai w ⟨a,k⟩ p) p.kids 0 (zaY ⟨a,k⟩ p) (c+1)):=by
    conv=>lhs;unfold zaU
    rw[if_neg h60,if_pos hop]
   have hnr:InR (zaY ⟨a,k⟩ p):=fun v hv=>by
    unfold zaY at hv;split at hv
    ·rename_i hop;simp only[List.mem_cons,xau,or_false] at hv;subst hv;exact zrD ho hop
    ·simp at hv
   have hnl:=zuY ⟨a,k⟩ p;rw[e];refine bd Tryz.f130 114 [14,108] [2,8,17] fun _ _ _ _ hk=>?_;refine bx 3006 ?_;refine bx 3007 ?_;refine evs [14,108] [] (ar (so ty3 ?_));apply tv;refine xaC (xbn 8 [(34,.d (.bool false))] [27,28,29,30,31,32,33] ?_ ?_);refine evs [14,108] [] ?_;apply sq<;>intro h1 h1p h1s;exact jnb Z;exact jnb Z;refine xbm ?_;apply tv;apply sq<;>intro h2 h2p h2s;exact absurd h2 oi;refine wc zqM hsh Z Z ?_;refine evs [14,108] [] ?_;apply sq<;>intro h3 h3p h3s;exact absurd h3 oi;refine xbr 5 3 .none Z Z ?_;apply tv;refine xaC (xbn 8 [(51,.d (.bool (decide (p.op=2\/p.op=6))))] [44,45,46,47,48,49,50] ?_ ?_);refine evs [14,108] [] ?_;apply sq<;>intro h4 h4p h4s;exact jnb Z;exact jnb Z;refine xbm ?_;apply tv;apply sq<;>intro h5 h5p h5s;refine bu [0,1] [_,_] ztN ?_;refine si [0] [_] sl66 zqy ?_;refine ap sl66 zqB Z Z Z oi (by(simp;done)) ?_;refine asg ?_;apply tv;refine xaB (ι:=Nat×List Vt×Int) hk (fun z=>[(62,.d (.i (z.1:Int))),(14,.gl 5 (z.2.1.map Vt.c))]) [10,11,15,16,17,18,63,64,65,66,67,68,69,70,71,72,73,74,75,76,77,78,79,80,81,82,83,84,85,86,87,88,89,90,91,92,93,94,95,96,97,98] (fun z=>[(950,some (.box [.d (.i z.2.2)])),(5,some (.tok ((z.2.1.map Vt.c)).length 3))]) (fun z=>GoodS w n ⟨a,k⟩ p c z) (fun z=>p.kids.length-z.1) (0,zaY ⟨a,k⟩ p,c+1) ⟨by simp,by simp,by dsimp only;omega,by dsimp only;omega,by dsimp only;omega,by dsimp only;omega,hnr⟩ ⟨⟨_,Z,xaU ?_⟩,⟨⟨_,Z,LeA.glg ?_⟩,O⟩⟩ ⟨?_,⟨zac ?_,O⟩⟩ (fun x=>rfl) (fun z hg1=>?_);iterate 2 focus (first|rfl|(simp_all[zaY];done))
   focus (first|rfl|(simp[getH];done))
   focus (first|rfl|(simp_all[zaY];done))
   obtain⟨s1,_,s3,s4,s5,s6,s7⟩:=id hg1;refine evc [14,108] [2,8,17] ?_;apply sq<;>intro h6 h6p h6s<;>(try simp only[Q,xa3] at h6p);refine ixq sl72 Z Z Z (zaE od) Z ?_;refine evs [14,108] [] (ab 3016 tz74 ?_);refine evs [14,108] [] (so ty74 ?_);apply tv;refine ixq zaz Z Z Z (zah od) Z ?_;refine evd [14,108] [] (ar (wd zqJ (zer hw n (a:=(nth (zai w ⟨a,k⟩ p) z.1).data) (k:=(nth (zai w ⟨a,k⟩ p) z.1).index) (c:=z.2.2) (p:=nth p.kids z.1) od od (hin _ (zaf od)) (xa6 hok.2 _ (zaf od)) od od) Z Z ⟨Z,O⟩ ?_));refine evd [14,108] [] (dr ?_);apply sq<;>intro h7 h7p h7s;refine rn [(950,some (.box [.d (.i (finV (zby (zaU w n) (decide (p.op=5)) (zai w ⟨a,k⟩ p) p.kids 0 (zaY ⟨a,k⟩ p) (c+1))).2)]))] (r2 Z Z) (.tup (qne ?_ ?_)) ⟨Z,Z⟩ (SubO.get ⟨.inr ?_,⟨.inl Z,O⟩⟩) (zaQ Z);rotate_left 3;refine xaC (xbn 7 [(93,.d (.bool (decide (p.op=5/\z.1=1))))] [87,88,89,90,91,92] ?_ ?_);refine evs [14,108] [] ?_;apply sq<;>intro h8 h8p h8s;exact jnb Z;exact jnb Z;refine xbm (evs [14,108] [] ?_);apply sq<;>intro h9 h9p h9s<;>(try simp only[Q,xa3] at h9p);refine Walk.call (cr:=[]) zub (zhL od (by have hz:=(zgn w n ⟨(nth (zai w ⟨a,k⟩ p) z.1).data,(nth (zai w ⟨a,k⟩ p) z.1).index⟩ (nth p.kids z.1) z.2.2).2;omega)) Z .none Z Z (.cons (.gl _ _) (.cons (.refl _) .nil)) O Z Z Z ?_;refine evs [14,108] [] ?_;apply sq<;>intro h10 h10p h10s<;>(try simp only[Q,xa3] at h10p);refine rn [(950,some (.box [.d (.i (finV (zby (zaU w n) (decide (p.op=5)) (zai w ⟨a,k⟩ p) p.kids 0 (zaY ⟨a,k⟩ p) (c+1))).2)]))] (r2 Z Z) (.tup (qne ?_ ?_)) ⟨Z,Z⟩ (SubO.get ⟨.inr ?_,⟨.inl Z,O⟩⟩) (zaQ Z);rotate_left 3;refine ar (xaj ((zcL w n ⟨a,k⟩ p z)) ⟨(hg1.next hl od o7 (fun ho=>by simp_all)),(by unfold zcL;dsimp only;omega),sx ⟨⟨_,Z,xaU ?_⟩,⟨⟨_,Z,LeA.glg ?_⟩,O⟩⟩ ⟨?_,⟨zac ?_,O⟩⟩⟩);iterate 2 focus (first|rfl|(simp_all[zaY];done))
   focus (first|rfl|(simp[getH];done))
   focus (first|rfl|(simp_all[zaY];done))
   refine ap sl66 zqB Z Z Z oi (by first|(simp;done)|(have hz:=(zgn w n ⟨(nth (zai w ⟨a,k⟩ p) z.1).data,(nth (zai w ⟨a,k⟩ p) z.1).index⟩ (nth p.kids z.1) z.2.2).2;simp;omega)) ?_;refine asg ?_;apply tv;refine ar (xaj ((zcL w n ⟨a,k⟩ p z)) ⟨(hg1.next hl od o7 (fun ho=>by simp_all)),(by unfold zcL;dsimp only;omega),sx ⟨⟨_,Z,xaU ?_⟩,⟨⟨_,Z,LeA.glg ?_⟩,O⟩⟩ ⟨?_,⟨zac ?_,O⟩⟩⟩);iterate 2 focus (first|rfl|(simp_all[zaY];done)|(unfold zcL;dsimp only;rw[if_neg o7];simp;done))
   focus (first|rfl|(simp[getH];done))
   focus (first|rfl|(simp_all[zaY];done)|(unfold zcL;dsimp only;rw[if_neg o7];simp;done))
   refine ab 3019 ztS ?_;apply tv;refine xaB (ι:=List (Vt)×List (Vt)) hk (fun x=>[(101,.d (.i (x.1.length:Int)))]) [10,11,21,102,103,104,105,106,107,108,109,110,111,112] (fun x=>[(3019,some (.box (metA (x.1.map Vt.var))))]) (fun x=>x.1++x.2=z.2.1/\(x.1.map Vt.var).Nodup) (fun x=>x.2.length) ([],z.2.1) ⟨by simp,by simp⟩ ⟨⟨_,Z,xaU ?_⟩,O⟩ ⟨?_,O⟩ (fun x=>rfl) (fun x hg2=>?_);focus (first|rfl|omega)
   focus (first|rfl|(simp[getH];done))
   obtain⟨pre,rest⟩:=x;dsimp only at hg2 ⊢;refine evc [14,108] [2,8,17] ?_;apply sq<;>intro h11 h11p h11s<;>(try simp only[Q,xa3] at h11p);rcases rest with _|⟨y,rest⟩
   ·exfalso;simp_all
   have hy:=s7 y (by rw[<-hg2.1];simp);refine xbL sl66 .none Z Z Z Z (zaA hg2.1) Z (evs [14,108] [] (ab 3021 zqy ?_));refine so zwM ?_;apply tv;refine xbJ (i:=y.var.toNat) zqi .none Z Z Z (Int.toNat_of_nonneg hy.1).symm od ?_;refine xbR ty4 .none Z Z Z ((by simpa using zry hy.1 hy.2)) ?_;apply tv;apply sq<;>intro h12 h12p h12s<;>(try simp only[Q,xa3] at h12p);refine rn [(950,some (.box [.d (.i (finV (zby (zaU w n) (decide (p.op=5)) (zai w ⟨a,k⟩ p) p.kids 0 (zaY ⟨a,k⟩ p) (c+1))).2)]))] (r2 Z Z) (.tup (qne ?_ ?_)) ⟨Z,Z⟩ (SubO.get ⟨.inr ?_,⟨.inl Z,O⟩⟩) (zaQ Z);rotate_left 3;refine xbJ (i:=y.var.toNat) zqi .none Z Z Z (Int.toNat_of_nonneg hy.1).symm od ?_;refine Walk.store ty4 .none Z Z Z Z Z Z oi ((by simpa using zrz hy.1 hy.2)) ?_;apply tv;refine ar (xaj ((pre++[y],rest)) ⟨⟨(by have hz:=hg2.1;rw[<-hz];simp),(znK hg2.2 o7)⟩,oi,sx ⟨⟨_,Z,xaU ?_⟩,O⟩ ⟨?_,O⟩⟩);focus (first|rfl|(simp;done)|omega)
   focus (first|rfl|(simp[getH];done))
   have hrest:rest=[]:=by
    rcases rest with _|⟨a,b⟩
    ·rfl
    ·exfalso;have hz:=xam List.length (hg2.1);simp only[xaa,xab,xac] at hz;omega
   subst hrest;refine rn [(950,some (.box [.d (.i (finV (zby (zaU w n) (decide (p.op=5)) (zai w ⟨a,k⟩ p) p.kids 0 (zaY ⟨a,k⟩ p) (c+1))).2)]))] (r2 Z Z) (.tup (qge ?_ ?_)) ⟨Z,Z⟩ (SubO.get ⟨.inr ?_,⟨.inl Z,O⟩⟩) (zaQ Z);rotate_left 3;try simp only[Q,xa3] at h5p
   refine xaB (ι:=Nat×List Vt×Int) hk (fun z=>[(62,.d (.i (z.1:Int))),(14,.gl 5 (z.2.1.map Vt.c))]) [10,11,15,16,17,18,63,64,65,66,67,68,69,70,71,72,73,74,75,76,77,78,79,80,81,82,83,84,85,86,87,88,89,90,91,92,93,94,95,96,97,98] (fun z=>[(950,some (.box [.d (.i z.2.2)])),(5,some (.tok ((z.2.1.map Vt.c)).length 3))]) (fun z=>GoodS w n ⟨a,k⟩ p c z) (fun z=>p.kids.length-z.1) (0,zaY ⟨a,k⟩ p,c+1) ⟨by simp,by simp,by dsimp only;omega,by dsimp only;omega,by dsimp only;omega,by dsimp only;omega,hnr⟩ ⟨⟨_,Z,xaU ?_⟩,⟨⟨_,Z,LeA.glg ?_⟩,O⟩⟩ ⟨?_,⟨zac ?_,O⟩⟩ (fun x=>rfl) (fun z hg1=>?_);iterate 2 focus (first|rfl|(simp_all[zaY];done))
   focus (first|rfl|(simp[getH];done))
   focus (first|rfl|(simp_all[zaY];done))
   obtain⟨s1,_,s3,s4,s5,s6,s7⟩:=id hg1;refine evc [14,108] [2,8,17] ?_;apply sq<;>intro h13 h13p h13s<;>(try simp only[Q,xa3] at h13p);refine ixq sl72 Z Z Z (zaE od) Z ?_;refine evs [14,108] [] (ab 3016 tz74 ?_);refine evs [14,108] [] (so ty74 ?_);apply tv;refine ixq zaz Z Z Z (zah od) Z ?_;refine evd [14,108] [] (ar (wd zqJ (zer hw n (a:=(nth (zai w ⟨a,k⟩ p) z.1).data) (k:=(nth (zai w ⟨a,k⟩ p) z.1).index) (c:=z.2.2) (p:=nth p.kids z.1) od od (hin _ (zaf od)) (xa6 hok.2 _ (zaf od)) od od) Z Z ⟨Z,O⟩ ?_));refine evd [14,108] [] (dr ?_);apply sq<;>intro h14 h14p h14s<;>(try simp only[Q,xa3] at h14p);refine rn [(950,some (.box [.d (.i (finV (zby (zaU w n) (decide (p.op=5)) (zai w ⟨a,k⟩ p) p.kids 0 (zaY ⟨a,k⟩ p) (c+1))).2)]))] (r2 Z Z) (.tup (qne ?_ ?_)) ⟨Z,Z⟩ (SubO.get ⟨.inr ?_,⟨.inl Z,O⟩⟩) (zaQ Z);rotate_left 3;refine xaC (xbn 7 [(93,.d (.bool (decide (p.op=5/\z.1=1))))] [87,88,89,90,91,92] ?_ ?_);refine evs [14,108] [] ?_;apply sq<;>intro h15 h15p h15s<;>(try simp only[Q,xa3] at h15p);exact jnb Z;exact jnb Z;refine xbm (evs [14,108] [] ?_);apply sq<;>intro h16 h16p h16s<;>(try simp only[Q,xa3] at h16p);refine Walk.call (cr:=[]) zub (zhL od (by have hz:=(zgn w n ⟨(nth (zai w ⟨a,k⟩ p) z.1).data,(nth (zai w ⟨a,k⟩ p) z.1).index⟩ (nth p.kids z.1) z.2.2).2;omega)) Z .none Z Z (.cons (.gl _ _) (.cons (.refl _) .nil)) O Z Z Z ?_;refine evs [14,108] [] ?_;apply sq<;>intro h17 h17p h17s<;>(try simp only[Q,xa3] at h17p);refine rn [(950,some (.box [.d (.i (finV (zby (zaU w n) (decide (p.op=5)) (zai w ⟨a,k⟩ p) p.kids 0 (zaY ⟨a,k⟩ p) (c+1))).2)]))] (r2 Z Z) (.tup (qne ?_ ?_)) ⟨Z,Z⟩ (SubO.get ⟨.inr ?_,⟨.inl Z,O⟩⟩) (zaQ Z);rotate_left 3;refine ar (xaj ((zcL w n ⟨a,k⟩ p z)) ⟨(hg1.next hl od o7 (fun ho=>by simp_all)),(by unfold zcL;dsimp only;omega),sx ⟨⟨_,Z,xaU ?_⟩,⟨⟨_,Z,LeA.glg ?_⟩,O⟩⟩ ⟨?_,⟨zac ?_,O⟩⟩⟩);iterate 2 focus (first|rfl|(simp_all[zaY];done)|(unfold zcL;dsimp only;rw[if_pos o7];done))
   focus (first|rfl|(simp[getH];done))
   focus (first|rfl|(simp_all[zaY];done)|(unfold zcL;dsimp only;rw[if_pos o7];done))
   refine ap sl66 zqB Z Z Z oi (by first|(simp;done)|(have hz:=(zgn w n ⟨(nth (zai w ⟨a,k⟩ p) z.1).data,(nth (zai w ⟨a,k⟩ p) z.1).index⟩ (nth p.kids z.1) z.2.2).2;simp;omega)) ?_;refine asg ?_;apply tv;refine ar (xaj ((zcL w n ⟨a,k⟩ p z)) ⟨(hg1.next hl od o7 (fun ho=>by simp_all)),(by unfold zcL;dsimp only;omega),sx ⟨⟨_,Z,xaU ?_⟩,⟨⟨_,Z,LeA.glg ?_⟩,O⟩⟩ ⟨?_,⟨zac ?_,O⟩⟩⟩);iterate 2 focus (first|rfl|(simp_all[zaY];done)|(unfold zcL;dsimp only;rw[if_neg o7];simp;done))
   focus (first|rfl|(simp[getH];done))
   focus (first|rfl|(simp_all[zaY];done)|(unfold zcL;dsimp only;rw[if_neg o7];simp;done))
   refine ab 3019 ztS ?_;apply tv;refine xaB (ι:=List (Vt)×List (Vt)) hk (fun x=>[(101,.d (.i (x.1.length:Int)))]) [10,11,21,102,103,104,105,106,107,108,109,110,111,112] (fun x=>[(3019,some (.box (metA (x.1.map Vt.var))))]) (fun x=>x.1++x.2=z.2.1/\(x.1.map Vt.var).Nodup) (fun x=>x.2.length) ([],z.2.1) ⟨by simp,by simp⟩ ⟨⟨_,Z,xaU ?_⟩,O⟩ ⟨?_,O⟩ (fun x=>rfl) (fun x hg2=>?_);focus (first|rfl|omega)
   focus (first|rfl|(simp[getH];done))
   obtain⟨pre,rest⟩:=x;dsimp only at hg2 ⊢;refine evc [14,108] [2,8,17] ?_;apply sq<;>intro h18 h18p h18s<;>(try simp only[Q,xa3] at h18p);rcases rest with _|⟨y,rest⟩
   ·exfalso;simp_all
   have hy:=s7 y (by rw[<-hg2.1];simp);refine xbL sl66 .none Z Z Z Z (zaA hg2.1) Z (evs [14,108] [] (ab 3021 zqy ?_));refine so zwM ?_;apply tv;refine xbJ (i:=y.var.toNat) zqi .none Z Z Z (Int.toNat_of_nonneg hy.1).symm od ?_;refine xbR ty4 .none Z Z Z ((by simpa using zry hy.1 hy.2)) ?_;apply tv;apply sq<;>intro h19 h19p h19s<;>(try simp only[Q,xa3] at h19p);refine rn [(950,some (.box [.d (.i (finV (zby (zaU w n) (decide (p.op=5)) (zai w ⟨a,k⟩ p) p.kids 0 (zaY ⟨a,k⟩ p) (c+1))).2)]))] (r2 Z Z) (.tup (qne ?_ ?_)) ⟨Z,Z⟩ (SubO.get ⟨.inr ?_,⟨.inl Z,O⟩⟩) (zaQ Z);rotate_left 3;refine xbJ (i:=y.var.toNat) zqi .none Z Z Z (Int.toNat_of_nonneg hy.1).symm od ?_;refine Walk.store ty4 .none Z Z Z Z Z Z oi ((by simpa using zrz hy.1 hy.2)) ?_;apply tv;refine ar (xaj ((pre++[y],rest)) ⟨⟨(by have hz:=hg2.1;rw[<-hz];simp),(znK hg2.2 o7)⟩,oi,sx ⟨⟨_,Z,xaU ?_⟩,O⟩ ⟨?_,O⟩⟩);focus (first|rfl|(simp;done)|omega)
   focus (first|rfl|(simp[getH];done))
   have hrest:rest=[]:=by
    rcases rest with _|⟨a,b⟩
    ·rfl
    ·exfalso;have hz:=xam List.length (hg2.1);simp only[xaa,xab,xac] at hz;omega
   subst hrest;refine rn [(950,some (.box [.d (.i (finV (zby (zaU w n) (decide (p.op=5)) (zai w ⟨a,k⟩ p) p.kids 0 (zaY ⟨a,k⟩ p) (c+1))).2)]))] (r2 Z Z) (.tup (qge ?_ ?_)) ⟨Z,Z⟩ (SubO.get ⟨.inr ?_,⟨.inl Z,O⟩⟩) (zaQ Z);rotate_left 3;all_goals (((first|(rw[hg1.none hl od ol];first|done|rfl)|(rw[hg1.bad hl od ol ol ol];first|done|rfl)|(rw[hg1.fin hl od,if_neg (by rw[zu1 hg2.1 ol];simp)];first|done|rfl)|(rw[hg1.fin hl od,if_pos (by have hz:=hg2.1;rw[xaq] at hz;rw[<-hz];exact xax hg2.2)];first|done|rfl));done))
  ·have hopf:okP w ⟨a,k⟩ p=false:=by simpa using hop
   have e:zaU w (n+1) ⟨a,k⟩ p c=(none,c+1):=by unfold zaU;rw[if_neg h60,if_neg hop]
   rw[e];rw[hopf] at hsh;refine bd Tryz.f130 114 [] [2] fun _ _ _ _ hk=>?_;refine bx 3006 ?_;refine bx 3007 ?_;refine ev (ar (so ty3 ?_));apply tv;refine xaC (xbn 8 [(34,.d (.bool false))] [27,28,29,30,31,32,33] ?_ ?_);refine ev ?_;apply sq<;>intro h1 h1p h1s;exact jnb Z;exact jnb Z;refine xbm ?_;apply tv;apply sq<;>intro h2 h2p h2s;exact absurd h2 oi;refine wc zqM hsh Z Z ?_;refine ev ?_;apply sq<;>intro h3 h3p h3s;refine rn [(950,some (.box [.d (.i (c+1))]))] (r2 Z Z) (.tup (qne ?_ ?_)) ⟨Z,Z⟩ (SubO.get ⟨.inr ?_,⟨.inl Z,O⟩⟩) (zaQ Z);rotate_left 3;exact absurd h3 oi;all_goals (first|((rfl);done)|(rfl))
set_option maxHeartbeats 2000000
abbrev dPtr (f:Nat->Nat):D:= .ptr (tabD 16 f) 0
abbrev sPtr (w:List Data) (f:Nat->Nat):D:= .ptr [zaj w,dPtr f] 0
theorem zlU {n:Nat}{f:Nat->Nat}{a k:Int} (h:InS n ⟨a,k⟩) (hn:n<=16):
  FnD Tryz.prog 215 [.ref 71 0,.agg [.d (.i a),.d (.i k)]] [(71,some (.box (tabC 16 f)))] (.d (.i (dv f ⟨a,k⟩))) []:=by
 have hs:=h.facts;refine bd Tryz.f215 17 [16] [] fun _ _ _ _ hk=>?_;refine Walk.box (id:=3003) .none Z Z Z oh oh oh oh ?_;refine evs [16] [] ?_;apply sq<;>intro h1 h1p h1s<;>(try simp only[Q] at h1p);refine rn [] (r1 Z) (.eqd ?_) ⟨Z,Z⟩ (SubH.get ⟨Z,O⟩) (fun _ h=>h);rotate_left;refine xbJ (i:=a.toNat) zqj .none Z Z Z (by have:=hs h1p;omega) (by have:=hs h1p;omega) ?_;refine xbJ (i:=k.toNat) ztf .none Z Z Z (by have:=hs h1p;omega) (by have:=hs h1p;omega) ?_;refine xbR ty3 .none Z Z Z ((zlx (s:=zdf ⟨a,k⟩) (by have:=hs h1p;omega) (by have:=hs h1p;omega))) ?_;refine evd [16] [] (dr (rn [] (r1 Z) (.eqd ?_) ⟨Z,Z⟩ (SubH.get ⟨Z,O⟩) (fun _ h=>h)));rotate_left;all_goals (first|(rw[zne ol];rfl)|(rw[znd ol]))
theorem zno {n:Nat}{f:Nat->Nat}{a k:Int} (h:InS n ⟨a,k⟩) (hn:n<=16):
  FnD Tryz.prog 215 [.d (dPtr f),.agg [.d (.i a),.d (.i k)]] [] (.d (.i (dv f ⟨a,k⟩))) []:=by
 have hs:=h.facts;refine bd Tryz.f215 17 [16] [] fun _ _ _ _ hk=>?_;refine bx 3003 ?_;refine evs [16] [] ?_;apply sq<;>intro h1 h1p h1s<;>(try simp only[Q] at h1p);refine rq ?_;rotate_left;refine xbK (i:=a.toNat) zqj .none Z Z Z (by have:=hs h1p;omega) (by have:=hs h1p;omega) ?_;refine xbK (i:=k.toNat) ztf .none Z Z Z (by have:=hs h1p;omega) (by have:=hs h1p;omega) ?_;refine xbT ty3 .none Z Z (zwd (s:=zdf ⟨a,k⟩) (by have:=hs h1p;omega) (by have:=hs h1p;omega)) ?_;refine evd [16] [] (dr (rq ?_));rotate_left;all_goals (first|(rw[zne ol];rfl)|(rw[znd ol]))
theorem znn {w:List Data} (hw:WT w){n:Nat}{f:Nat->Nat}{a k c:Int} (ht:TyIn w.length ⟨a,k⟩) (hc:c∈zas w ⟨a,k⟩) (hn:n<=16) (hb:∀s,f s<=100000) (hin:∀u∈zae w ⟨a,k⟩ c,InS n u):
  FnD Tryz.prog 214 [.ref 71 0,.d (zaj w),.agg [.d (.i a),.d (.i k)],.d (.i c)] [(71,some (.box (tabC 16 f)))] (.d (.i (most w f ⟨a,k⟩ c))) []:=by
 have hl:=zki hw ht hc;have hd:=zwr hb od;refine bd Tryz.f214 33 [] [] fun _ _ _ _ hk=>?_;refine Walk.box (id:=3006) .none Z Z Z oh oh oh oh ?_;refine ev (Walk.call (cr:=[]) ziP (zcU hw ht hc) Z .none Z Z (LeL.refl _) O Z ou oh ?_);refine ev (xaB (ι:=List (Ty)×List (Ty)×(Nat)) hk (fun x=>[(18,.d (.i (x.1.length:Int))),(9,.d (.i (x.2.2:Int)))]) [8,11,12,19,20,21,22,23,24,25,26,27,28,29,30] (fun x=>[]) (fun x=>x.1++x.2.1=zae w ⟨a,k⟩ c/\x.2.2<=100000/\zce f x.2.2 x.2.1=zce f 0 (zae w ⟨a,k⟩ c)) (fun x=>x.2.1.length) ([],zae w ⟨a,k⟩ c,0) ⟨by simp,by simp,Z⟩ ⟨⟨_,Z,xaU ?_⟩,⟨⟨_,Z,xaU ?_⟩,O⟩⟩ O (fun x=>rfl) (fun x hg1=>?_));iterate 2 focus (first|rfl|(simp;done))
 obtain⟨pre,rest,m⟩:=x;dsimp only at hg1 ⊢;refine evc [] [] ?_;apply sq<;>intro h1 h1p h1s<;>(try simp only[Q] at h1p);rcases rest with _|⟨y,rest⟩
 ·exfalso;simp_all
 have hdy:=hd y;have hye:dv f ⟨y.data,y.index⟩=dv f y:=rfl;refine ixq zaz Z Z Z (zaA hg1.1) Z (ev (Walk.alloc (id:=3011) tz29 Z .none Z oh oh oh ?_));refine so ty29 ?_;apply tv;refine Walk.call (cr:=[]) zkn (zlU (f:=f) (a:=y.data) (k:=y.index) (hin y (by rw[<-hg1.1];simp)) hn) Z .none Z Z (LeL.refl _) ⟨Z,O⟩ Z ou oh ?_;refine ev ?_;apply sq<;>intro h2 h2p h2s<;>(try simp only[Q] at h2p);refine rn [] (r1 Z) (.eqd ?_) ⟨Z,Z⟩ (SubH.get ⟨Z,O⟩) (fun _ h=>h);rotate_left;refine xbU .none Z Z Z (ev (ar (xaj ((pre++[y],rest,max m (dv f y))) ⟨⟨(by have hz:=hg1.1;rw[<-hz];simp),⟨(by have:=hd y;dsimp only;omega),(by rw[<-hg1.2.2];simp only[zce];rw[if_neg (by have:=hd y;omega)])⟩⟩,oi,sx ⟨⟨_,Z,xaU ?_⟩,⟨⟨_,Z,xaU ?_⟩,O⟩⟩ O⟩)));iterate 2 focus (first|rfl|(simp;done)|(dsimp only;omega))
 have hrest:rest=[]:=by
  rcases rest with _|⟨a,b⟩
  ·rfl
  ·exfalso;have hz:=xam List.length (hg1.1);simp only[xaa,xab,xac] at hz;omega
 subst hrest;refine ar (rn [] (r1 Z) (.eqd ?_) ⟨Z,Z⟩ (SubH.get ⟨Z,O⟩) (fun _ h=>h));rotate_left;all_goals (refine xam D.i ?_;unfold most;rw[<-hg1.2.2];first|(simp only[zce];rw[if_pos od];rfl)|(simp only[zce];omega))
theorem zji {i j:Nat} (h:j<4):tyS (i*4+j)=⟨(i:Int),(j:Int)⟩:=by
 unfold tyS;rw[show(i*4+j) / 4=i by omega,show(i*4+j) % 4=j by omega]
theorem zsH {w:List Data}{k s:Nat}{pre:List Int}:Bet (zbl w k) (rowT w k s pre):=(zpP _ _).trans (zoR _ _)
theorem zk4 {w:List Data}{g f:Nat->Nat}{s:Nat}{c:Int} (hB:Bet g f)
  (h:decide ((0:Int)<(most w f (tyS s) c:Int)/\((f s:Int)=0\/(most w f (tyS s) c:Int)<(f s:Int)))=true):Strict g (zb1 w s f c):=by
 rw[zeN h];rw[xah] at h;refine⟨s,by unfold updF;rw[if_pos rfl];omega, ?_⟩;unfold updF;rw[if_pos rfl];rcases Nat.eq_zero_or_pos (g s) with h0|h0
 ·exact .inl h0
 ·have:=hB s h0;right;omega
theorem znj {w:List Data} (hw:WT w){i j:Nat} (hi:i<w.length) (hj:j<4):FnD Tryz.prog 156 [.d (zaj w),.agg [.d (.i (i:Int)),.d (.i (j:Int))]] [] (.d (zcB (zbg w (tyS (i*4+j))))) []:=by
 rw[<-zjU,zji hj];exact zdl hw (.inr ⟨i,Z,hi⟩)
theorem znp {w:List Data}{f:Nat->Nat}{i j:Nat} (hi:i<w.length) (h4:w.length<=4) (hj:j<4):
  FnD Tryz.prog 215 [.ref 71 0,.agg [.d (.i (i:Int)),.d (.i (j:Int))]] [(71,some (.box (tabC 16 f)))] (.d (.i (f (i*4+j)))) []:=by
 have h:=zlU (n:=w.length*4) (f:=f) (a:=(i:Int)) (k:=(j:Int)) (.inr ⟨by simp only[zdf,Int.toNat_natCast];omega,by simp only[zdf,Int.toNat_natCast];exact zji hj⟩) od;have e:zdf ⟨(i:Int),(j:Int)⟩=i*4+j:=by simp only[zdf,Int.toNat_natCast]
 rwa [znd od,e] at h
theorem zoG {w:List Data} (hd:Dp w){f:Nat->Nat}{i j:Nat}{c:Int} (hi:i<w.length) (hj:j<4) (hc:c∈zbg w (tyS (i*4+j))) (hb:∀s,f s<=100000):
  FnD Tryz.prog 214 [.ref 71 0,.d (zaj w),.agg [.d (.i (i:Int)),.d (.i (j:Int))],.d (.i c)] [(71,some (.box (tabC 16 f)))] (.d (.i (most w f (tyS (i*4+j)) c))) []:=by
 have h4:=hd.four;have hcl:=hd.cl (i*4+j) od c hc;rw[<-zjU,zji hj] at hc;rw[zji hj] at hcl ⊢;exact znn hd.wt (.inr ⟨i,Z,hi⟩) hc (n:=w.length*4) od hb hcl
theorem zmh {w:List Data} (hd:Dp w):FnD Tryz.prog 168 [.d (zaj w)] [] (.d (dPtr (zaX w))) []:=by
 have hw:=hd.wt;have hw4:=hd.four;have hlw:((w.map Data.c).length:Int)=w.length:=by simp
 refine bd Tryz.f168 64 [] [16,20] fun _ _ _ _ hk=>?_;refine Walk.buildZ zzS zqj .none Z (Walk.box (id:=71) .none Z Z Z oh oh oh oh ?_);refine ev (xaB (ι:=Nat×Bool) hk (fun o=>[(4,.d (.bool o.2))]) [5,6,7,9,10,13,14,15,16,17,18,19,20,21,22,23,24,25,26,27,28,29,30,31,32,33,34,35,36,37,38,39,40,41,42,43,44,45,46,47,48,49,50,51,52,53,54,55,56,57,58,59,60,61,62] (fun o=>[(71,some (.box (tabC 16 (zbl w o.1))))]) (fun o=>(o.2=false->zbl w o.1=zaX w)/\(o.2=true->o.1<=w.length*4+1)) (fun o=>if o.2 then w.length*4+2-o.1 else 0) (0,true) ⟨by simp,by simp⟩ ⟨⟨_,Z,xaT ?_⟩,O⟩ ⟨?_,O⟩ (fun x=>rfl) (fun o hg1=>?_));focus (first|rfl|(simp;done))
 focus (first|rfl|(have e:y.1=w.length:=od;rw[e];rfl))
 refine evc [] [16,20] ?_;apply sq<;>intro h1 h1p h1s<;>(try simp only[Q] at h1p);refine xaB (ι:=Nat×Bool) hk (fun y=>[(16,.d (.i (y.1:Int))),(4,.d (.bool y.2))]) [5,6,7,9,10,17,18,19,20,21,22,23,24,25,26,27,28,29,30,31,32,33,34,35,36,37,38,39,40,41,42,43,44,45,46,47,48,49,50,51,52,53,54,55,56,57,58,59,60,61,62] (fun y=>[(71,some (.box (tabC 16 (midT w o.1 (y.1*4)))))]) (fun y=>y.1<=w.length/\(y.2=false->midT w o.1 (y.1*4)=zbl w o.1)/\(y.2=true->Strict (zbl w o.1) (midT w o.1 (y.1*4)))) (fun y=>w.length-y.1) (0,false) ⟨by simp,fun _=>rfl,by simp⟩ ⟨⟨_,Z,xaU ?_⟩,⟨⟨_,Z,xaT ?_⟩,O⟩⟩ ⟨?_,O⟩ (fun x=>rfl) (fun y hg2=>?_);iterate 2 focus (first|rfl|(simp;done))
 focus (first|rfl|(have e:z.1=4:=od;rw[e,<-Nat.succ_mul];rfl))
 have ho:=hg1.2 h1s;refine evc [] [16,20] ?_;apply sq<;>intro h2 h2p h2s<;>(try simp only[Q] at h2p);refine xaB (ι:=Nat×Bool) hk (fun z=>[(6,.d (.i (z.1:Int))),(4,.d (.bool z.2))]) [7,9,10,19,20,21,22,23,24,25,26,27,28,29,30,31,32,33,34,35,36,37,38,39,40,41,42,43,44,45,46,47,48,49,50,51,52,53,54,55,56,57,58,59,60,61] (fun z=>[(71,some (.box (tabC 16 (midT w o.1 (y.1*4+z.1)))))]) (fun z=>z.1<=4/\(z.2=false->midT w o.1 (y.1*4+z.1)=zbl w o.1)/\(z.2=true->Strict (zbl w o.1) (midT w o.1 (y.1*4+z.1)))) (fun z=>4-z.1) (0,y.2) ⟨by simp,hg2.2⟩ ⟨⟨_,Z,xaU ?_⟩,⟨⟨_,Z,xaT ?_⟩,O⟩⟩ ⟨?_,O⟩ (fun x=>rfl) (fun z hg3=>?_);iterate 2 focus (first|rfl|(simp;done))
 focus (first|rfl|(show some (Res.box _)=some (Res.box _);rw[<-hg4.1,xaq] at *;done))
 refine evc [] [16,20] ?_;apply sq<;>intro h3 h3p h3s<;>(try simp only[Q] at h3p);refine bu [0,1] [_,_] st29 ?_;refine Walk.alloc (id:=3007) tz29 Z .none Z oh oh oh ?_;refine so ty29 ?_;apply tv;refine Walk.call (cr:=[]) ziO (znj hw (i:=y.1) (j:=z.1) od od) Z .none Z Z (LeL.refl _) O Z ou oh ?_;refine ev (xaB (ι:=List (Int)×List (Int)×(Bool)) hk (fun x=>[(30,.d (.i (x.1.length:Int))),(4,.d (.bool x.2.2))]) [9,10,31,32,33,34,35,36,37,38,39,40,41,42,43,44,45,46,47,48,49,50,51,52,53,54,55,56,57,58,59,60,61] (fun x=>[(71,some (.box (tabC 16 (rowT w o.1 (y.1*4+z.1) x.1))))]) (fun x=>x.1++x.2.1=zbg w (tyS (y.1*4+z.1))/\(x.2.2=false->rowT w o.1 (y.1*4+z.1) x.1=zbl w o.1)/\(x.2.2=true->Strict (zbl w o.1) (rowT w o.1 (y.1*4+z.1) x.1))) (fun x=>x.2.1.length) ([],zbg w (tyS (y.1*4+z.1)),z.2) ⟨by simp,hg3.2⟩ ⟨⟨_,Z,xaU ?_⟩,⟨⟨_,Z,xaT ?_⟩,O⟩⟩ ⟨?_,O⟩ (fun x=>rfl) (fun x hg4=>?_));iterate 2 focus (first|rfl|(simp;done))
 focus (first|rfl|(show some (Res.box _)=some (Res.box _);rw[zd5];first|(rw[zeN ol];done)|(rw[zd4 ol];done)))
 obtain⟨pre,rest,b⟩:=x;dsimp only at hg4 ⊢;have hct:=hd.ct (y.1*4+z.1) od;refine evc [] [16,20] ?_;apply sq<;>intro h4 h4p h4s<;>(try simp only[Q] at h4p);rcases rest with _|⟨c,rest⟩
 ·exfalso;simp_all
 refine ixq sl37 Z Z Z (zaA hg4.1) Z (ev (Walk.call (cr:=[]) zyd (zoG hd (f:=rowT w o.1 (y.1*4+z.1) pre) (i:=y.1) (j:=z.1) (c:=c) od od (by rw[<-hg4.1];simp) (zs6 hd od od (by have hz:=xam List.length hg4.1;simp at hz;omega))) Z .none Z Z (LeL.refl _) ⟨Z,O⟩ Z ou oh ?_));refine ev (xaC (xbn 15 [(53,.d (.bool (decide ((0:Int)<(most w (rowT w o.1 (y.1*4+z.1) pre) (tyS (y.1*4+z.1)) c:Int)/\((rowT w o.1 (y.1*4+z.1) pre (y.1*4+z.1):Int)=0\/(most w (rowT w o.1 (y.1*4+z.1) pre) (tyS (y.1*4+z.1)) c:Int)<(rowT w o.1 (y.1*4+z.1) pre (y.1*4+z.1):Int))))))] [39,40,41,42,43,44,45,46,47,48,49,50,51,52] ?_ ?_));refine ev ?_;apply sq<;>intro h5 h5p h5s<;>(try simp only[Q] at h5p);refine Walk.call (cr:=[]) zkn (znp (w:=w) (f:=rowT w o.1 (y.1*4+z.1) pre) (i:=y.1) (j:=z.1) od hw4 od) Z (.some Z Z h5) Z Z (LeL.refl _) ⟨Z,O⟩ Z ou oh ?_;refine evs [] [(41,true)] ?_ ⟨⟨_,Z,h5⟩,O⟩;apply sq<;>intro h6 h6p h6s<;>(try simp only[Q] at h6p);exact jnb Z;refine Walk.call (cr:=[]) zkn (znp (w:=w) (f:=rowT w o.1 (y.1*4+z.1) pre) (i:=y.1) (j:=z.1) od hw4 od) Z (.some Z Z h6) Z Z (LeL.refl _) ⟨Z,O⟩ Z ou oh ?_;refine evs [] [(41,true),(46,false)] ?_ ⟨⟨_,Z,h5⟩,⟨_,Z,h6⟩,O⟩;exact jnb Z;exact jnb Z;refine xbm ?_;apply tv;apply sq<;>intro h7 h7p h7s<;>(try simp only[Q] at h7p);refine xbJ (i:=y.1) zqj .none Z Z Z Z od ?_;refine xbJ (i:=z.1) ztf .none Z Z Z Z od ?_;refine Walk.store ty3 .none Z Z Z Z Z Z oi ((zta (s:=y.1*4+z.1) (v:=most w (rowT w o.1 (y.1*4+z.1) pre) (tyS (y.1*4+z.1)) c) od od Z)) ?_;refine ev (ar ?_);refine xaj ((pre++[c],rest,(decide ((0:Int)<(most w (rowT w o.1 (y.1*4+z.1) pre) (tyS (y.1*4+z.1)) c:Int)/\((rowT w o.1 (y.1*4+z.1) pre (y.1*4+z.1):Int)=0\/(most w (rowT w o.1 (y.1*4+z.1) pre) (tyS (y.1*4+z.1)) c:Int)<(rowT w o.1 (y.1*4+z.1) pre (y.1*4+z.1):Int))))||b)) ⟨⟨(by have hz:=hg4.1;rw[<-hz];simp),(by
    dsimp only;rw[zd5];cases hq:decide ((0:Int)<(most w (rowT w o.1 (y.1*4+z.1) pre) (tyS (y.1*4+z.1)) c:Int)/\((rowT w o.1 (y.1*4+z.1) pre (y.1*4+z.1):Int)=0\/(most w (rowT w o.1 (y.1*4+z.1) pre) (tyS (y.1*4+z.1)) c:Int)<(rowT w o.1 (y.1*4+z.1) pre (y.1*4+z.1):Int))) with
    |true=>exact⟨fun h=>by simp at h,fun _=>zk4 zsH hq⟩
    |false=>rw[zd4 hq];exact hg4.2)⟩,oi,sx ⟨⟨_,rfl,xaU ?_⟩,⟨⟨_,rfl,xaT ?_⟩,trivial⟩⟩ ⟨?_,trivial⟩⟩
 iterate 2 focus (first|rfl|(simp;done)|(rw[h7];rfl))
 focus (first|rfl|(show some (Res.box _)=some (Res.box _);rw[zd5];first|(rw[zeN ol];done)|(rw[zd4 ol];done)))
 refine ar ?_;refine xaj ((pre++[c],rest,(decide ((0:Int)<(most w (rowT w o.1 (y.1*4+z.1) pre) (tyS (y.1*4+z.1)) c:Int)/\((rowT w o.1 (y.1*4+z.1) pre (y.1*4+z.1):Int)=0\/(most w (rowT w o.1 (y.1*4+z.1) pre) (tyS (y.1*4+z.1)) c:Int)<(rowT w o.1 (y.1*4+z.1) pre (y.1*4+z.1):Int))))||b)) ⟨⟨(by have hz:=hg4.1;rw[<-hz];simp),(by
    dsimp only;rw[zd5];cases hq:decide ((0:Int)<(most w (rowT w o.1 (y.1*4+z.1) pre) (tyS (y.1*4+z.1)) c:Int)/\((rowT w o.1 (y.1*4+z.1) pre (y.1*4+z.1):Int)=0\/(most w (rowT w o.1 (y.1*4+z.1) pre) (tyS (y.1*4+z.1)) c:Int)<(rowT w o.1 (y.1*4+z.1) pre (y.1*4+z.1):Int))) with
    |true=>exact⟨fun h=>by simp at h,fun _=>zk4 zsH hq⟩
    |false=>rw[zd4 hq];exact hg4.2)⟩,oi,sx ⟨⟨_,rfl,xaU ?_⟩,⟨⟨_,rfl,xaT ?_⟩,trivial⟩⟩ ⟨?_,trivial⟩⟩
 iterate 2 focus (first|rfl|(simp;done)|(rw[h7];rfl))
 focus (first|rfl|(show some (Res.box _)=some (Res.box _);rw[zd5];first|(rw[zeN ol];done)|(rw[zd4 ol];done)))
 have hrest:rest=[]:=by
  rcases rest with _|⟨a,b⟩
  ·rfl
  ·exfalso;have hz:=xam List.length (hg4.1);simp only[xaa,xab,xac] at hz;omega
 subst hrest;refine ar ?_;refine xaj ((z.1+1,b)) ⟨(by
    obtain⟨p1,p2⟩:=hg4;rw[xaq] at p1;rw[p1,zii,Nat.add_assoc] at p2;exact⟨by dsimp only;omega,p2⟩),ox,sx ⟨⟨_,rfl,xaU ?_⟩,⟨⟨_,rfl,xaT ?_⟩,trivial⟩⟩ ⟨?_,trivial⟩⟩
 iterate 2 focus (first|rfl|(simp;done))
 focus (first|rfl|(show some (Res.box _)=some (Res.box _);rw[<-hg4.1,xaq] at *;done)|(show some (Res.box _)=some (Res.box _);rw[<-Nat.add_assoc,<-zii,<-hg4.1,xaq]))
 refine ar ?_;refine xaj ((y.1+1,z.2)) ⟨(by
    have e:z.1=4:=by omega
    obtain⟨_,q1,q2⟩:=hg3;rw[e,<-Nat.succ_mul] at q1 q2;exact⟨by dsimp only;omega,q1,q2⟩),ox,sx ⟨⟨_,rfl,xaU ?_⟩,⟨⟨_,rfl,xaT ?_⟩,trivial⟩⟩ ⟨?_,trivial⟩⟩
 iterate 2 focus (first|rfl|(simp;done))
 focus (first|rfl|(have e:z.1=4:=od;rw[e,<-Nat.succ_mul];rfl))
 refine xaj ((o.1+1,y.2)) ⟨⟨(fun h=>by
    have e:y.1=w.length:=by omega
    have h1:=hg2.2.1 h;rw[e] at h1;have h2:zbl w (o.1+1)=zbl w o.1:=h1;rw[h2];exact zvR hd.cl h2),(fun h=>by
    have e:y.1=w.length:=by omega
    have h1:=hg2.2.2 h;rw[e] at h1;have h3:=hg1.2 h1s;show o.1+1<=w.length*4+1
    rcases Nat.lt_or_ge o.1 (w.length*4+1) with h4|h4
    ·omega
    ·refine absurd ?_ (Strict.ne h1);rw[zoI hd.cl h4];exact(zoI hd.cl (k:=o.1+1) od).symm)⟩,(by have h3:=hg1.2 h1s;rw[h1s];dsimp only;simp only[if_true];split<;>omega),sx ⟨⟨_,rfl,xaT ?_⟩,trivial⟩ ⟨?_,trivial⟩⟩
 focus (first|rfl|(simp;done))
 focus (first|rfl|(have e:y.1=w.length:=od;rw[e];rfl))
 refine CWp.frzB hk 3 71 0 Z Z zwf Z (evc [] [] (rq ?_));rotate_left;all_goals (rw[hg1.1 h1s])
set_option maxHeartbeats 4000000
theorem zzN (w:List Data) (t:Ty) (p:Pat):(zaU w 10 t p 0).1.isSome=isP w t p:=by
 have h:=(zgl w 10 t p 0).1;rw[h];unfold zb6 isP;rw[Int.zero_add];split
 ·rename_i hz;rw[hz];rfl
 ·rename_i hz;cases hc:(zat w 10 t p&&(decide ((p.size:Int)<=60)&&linP w 10 t p)) with
  |true=>exact absurd hc hz
  |false=>rfl
theorem zes {w:List Data} (hw:WT w){a k:Int}{p:Pat} (ht:TyIn w.length ⟨a,k⟩) (hok:p.ok):
  FnD Tryz.prog 73 [.d (zaj w),.agg [.d (.i a),.d (.i k)],.agg [.d (.i p.op),.d (.i p.ctor),.d (.i p.n),.d (.i p.m),.d (.i p.var),.d (zak p.kids)]] [] (.tup [.d (zbK (zdV (zaU w 10 ⟨a,k⟩ p 0).1)),.d (.bool (isP w ⟨a,k⟩ p))]) []:=by
 rw[<-zzN];refine bd Tryz.f73 15 [] [] fun _ _ _ _ hk=>?_;refine bx 3004 ?_;refine bx 3005 ?_;refine ev (ab 950 tz3 ?_);refine so ty3 ?_;apply tv;refine wd zqJ (zer hw 10 (c:=0) od od ht hok od od) Z Z ⟨Z,O⟩ ?_;refine ev (rn0 (r2 Z Z) (.tup (qee ?_ ?_)));rotate_left 2;all_goals (rfl)
theorem zlH {w:List Data} (hw:WT w){a k:Int}{p:Pat} (ht:TyIn w.length ⟨a,k⟩) (hok:p.ok):
  FnD Tryz.prog 173 [.d (zaj w),.agg [.d (.i a),.d (.i k)],.agg [.d (.i p.op),.d (.i p.ctor),.d (.i p.n),.d (.i p.m),.d (.i p.var),.d (zak p.kids)]] [] (.d (.bool (isP w ⟨a,k⟩ p))) []:=by
 refine bd Tryz.f173 17 [] [] fun _ _ _ _ hk=>?_;refine bx 3004 ?_;refine bx 3005 ?_;refine ev (wc ztm (zes hw ht hok) Z Z ?_);refine ev (rq ?_);rotate_left;all_goals (rfl)
set_option maxHeartbeats 2000000
theorem zwg {w:List Data} (hs:WSmall w) (hv:zaI w=true):Dp w:=by
 have hw:=zds hs hv;have hW:=(zdo w).1 hv;refine⟨hw,fun s hs c hc u hu=>?_,hW.len,fun s hs=>?_⟩
 ·obtain⟨j,rfl,hj⟩:=zrO (d:=s / 4) (k:=((s % 4:Nat):Int)) hc;have hu':u∈zae w ⟨((s / 4:Nat):Int),((s % 4:Nat):Int)⟩ (j:Int):=hu;simp only[zae,Int.toNat_natCast,List.mem_map] at hu';obtain⟨x,hx,rfl⟩:=hu';have hco:=hW.ctor _ (zaf (l:=w) (i:=s / 4) od) _ (zaf hj);simp only[zbT,xad,Bool.not_eq_true',List.any_eq_false] at hco;have hax:zbr w.length x=true:=by
   have:=hco.2.2.2 x hx;cases h:zbr w.length x with
   |true=>rfl
   |false=>rw[h] at this;exact absurd Z this
  have hci:=hco.2.2.1;simp only[zbr,zan,Bool.or_eq_true,xad,xah,and_true] at hax hci;have key:∀y:Ty,(y.data = -1\/(0<=y.data/\y.data<w.length/\0<=y.index/\y.index<=3))->InS (w.length*4) y:=by
   rintro ⟨a,k⟩ h
   rcases h with h|⟨h1,h2,h3,h4⟩
   ·exact .inl h
   ·refine .inr ⟨?_, ?_⟩
    ·simp only[zdf] at *;omega
    ·obtain⟨i,rfl⟩:=Int.eq_ofNat_of_zero_le h1;obtain⟨m,rfl⟩:=Int.eq_ofNat_of_zero_le h3;simp only[zdf,Int.toNat_natCast];exact zji (by simp only at h4;omega)
  refine key _ ?_;unfold zcJ zcZ;split
  ·dsimp only;rcases hax with h|h
   ·omega
   ·right
    refine⟨by omega,by omega, ?_⟩;split<;>omega
  ·rcases hax with h|h
   ·exact .inl h.1
   ·right;omega
 ·have h1:=zgT (tyS s).index (nth w (tyS s).data.toNat).ctors 0;have h2:=(hW.data _ (zaf (l:=w) (i:=s / 4) od)).2.2;show(za0 (tyS s).index 0 (nth w (tyS s).data.toNat).ctors).length<=4
  have e:(tyS s).data.toNat=s / 4:=by simp only[tyS,Int.toNat_natCast]
  rw[e] at h1 ⊢;omega
theorem zc2 {n:Nat}{t:Ty} (h:InS (n*4) t):TyIn n t:=by
 rcases h with h|⟨h1,h2⟩
 ·exact .inl h
 ·refine .inr ⟨zdf t / 4, ?_,by omega⟩;have:=xam Ty.data h2;exact this.symm
theorem zcz {w:List Data} (hd:Dp w){t:Ty}{c:Int} (ht:InS (w.length*4) t) (hc:c∈zas w t):∀u∈zae w t c,InS (w.length*4) u:=by
 rcases ht with h|⟨h1,h2⟩
 ·unfold zas at hc;rw[if_pos h] at hc;simp at hc
 ·have hx:=hd.cl _ h1;rw[h2] at hx;have:c∈zbg w t:=by
   unfold zas at hc;split at hc
   ·simp at hc
   ·exact hc
  exact hx c this
theorem zkj {w:List Data}{a k k' c:Int}:(zae w ⟨a,k⟩ c).length=(zae w ⟨a,k'⟩ c).length/\∀i,(nth (zae w ⟨a,k⟩ c) i).data=(nth (zae w ⟨a,k'⟩ c) i).data:=by
 have hd:∀(k:Int) (t:Ty),(zcJ k t).data=t.data:=fun k t=>by unfold zcJ;split<;>rfl
 refine⟨by simp[zae],fun i=>?_⟩;unfold zae;dsimp only;generalize nth (nth w a.toNat).ctors c.toNat=q;simp only[nth,List.getD_eq_getElem?_getD,List.getElem?_map];cases q.args[i]? with
 |none=>rfl
 |some x=>simp only[Option.map_some,Option.getD_some,hd]
structure PKids (w:List Data) (n:Nat) (a k k':Int) (p:Pat):Prop where
 len5:p.op=5->p.kids.length=2
 len6:p.op=6->p.kids.length=1
 len4:p.op=4->p.kids.length=(zae w ⟨a,k⟩ p.ctor).length
 one:p.op=5\/p.op=6->zat w n ⟨a,k'⟩ (nth p.kids 0)=true
 two:p.op=5->zat w n ⟨a,k'⟩ (nth p.kids 1)=true
 arg:p.op=4->∀i,i<(zae w ⟨a,k⟩ p.ctor).length->zat w n ⟨(nth (zae w ⟨a,k⟩ p.ctor) i).data,(nth (zae w ⟨a,k'⟩ p.ctor) i).index⟩ (nth p.kids i)=true
 mem:p.op=4->p.ctor∈zas w ⟨a,k'⟩
 ops:p.op=1\/p.op=2\/(p.op=3/\a = -1)\/p.op=4\/p.op=5\/p.op=6
theorem zzK {w:List Data}{n:Nat}{a k k':Int}{p:Pat} (h:zat w (n+1) ⟨a,k'⟩ p=true):PKids w n a k k' p:=by
 obtain⟨ho,hl⟩:=zbR h;have hk:=fun i (hi:i<p.kids.length)=>zbC h hi;have ht4:p.op=4->zai w ⟨a,k'⟩ p=zae w ⟨a,k'⟩ p.ctor:=fun h=>by unfold zai;rw[if_pos h]
 have ht5:p.op=5->zai w ⟨a,k'⟩ p=[⟨a,k'⟩,⟨a,k'⟩]:=fun h=>by unfold zai;rw[if_neg od,if_pos h]
 have ht6:p.op=6->zai w ⟨a,k'⟩ p=[⟨a,k'⟩]:=fun h=>by unfold zai;rw[if_neg od,if_neg od,if_pos h]
 have l5:p.op=5->p.kids.length=2:=fun h=>by rw[hl,ht5 h];rfl
 have l6:p.op=6->p.kids.length=1:=fun h=>by rw[hl,ht6 h];rfl
 refine⟨l5,l6,fun h=>by rw[hl,ht4 h,zkj.1],fun h=>?_,fun h=>?_,fun h i hi=>?_,zcF ho, ?_⟩
 ·rcases h with h|h
  ·have:=hk 0 (by rw[l5 h];omega);rwa [ht5 h] at this
  ·have:=hk 0 (by rw[l6 h];omega);rwa [ht6 h] at this
 ·have:=hk 1 (by rw[l5 h];omega);rwa [ht5 h] at this
 ·rw[(zkj (k':=k')).1] at hi;have:=hk i (by rw[hl,ht4 h];exact hi);rw[ht4 h] at this;rw[(zkj (k':=k')).2];exact this
 ·unfold ownP at ho;have:=xas ho;obtain⟨_,_,_,_,q⟩:=this;simp only at q;omega
def Few (w:List Data):Prop:=∀t c,c∈zas w t->TyIn w.length t->(zae w t c).length<=3/\∀u∈zae w t c,TyIn w.length u
theorem xa0 (l:List Pat):Pat.cs l=l.map Pat.cc:=by
 rw[xa2];exact List.map_congr_left (fun v _=>xaY v)
theorem zlG {w:List Data} (hd:Dp w):FnD Tryz.prog 113 [.d (zaj w)] [] (.d (sPtr w (zaX w))) []:=by
 refine bd Tryz.f113 8 [] [999999] fun _ _ _ _ hk=>?_;refine wc zxZ (zmh hd) Z Z ?_;refine bu [0,1] [_,_] zzP ?_;refine bx 3007 ?_;refine ev (CWp.frzB hk 2 3007 0 Z Z Z Z (CWp.ret ?_));focus (refine rn0 (r1 Z) (.refl _);all_goals (first|rfl|(simp[];done)|(simp_all;done)|(simp_all;omega)|omega))
theorem zcj {w:List Data}{a k:Int} (h:zbn w ⟨a,k⟩=true):zaI w=true/\TyIn w.length ⟨a,k⟩/\(a≠ -1->0<=a/\a.toNat<w.length/\0<=k/\k<=3):=by
 unfold zbn at h;rw[xad] at h;obtain⟨h1,h2⟩:=h;simp only[zbm,zan,Bool.or_eq_true,xad,xah,and_true] at h2;refine⟨h1, ?_,fun ha=>by omega⟩;rcases h2 with h|h
 ·exact .inl h.1
 ·exact .inr ⟨a.toNat,by simp only;omega,by omega⟩
theorem zuN {n d j:Nat} (hd:d<n) (hj:j<4):InS (n*4) ⟨(d:Int),(j:Int)⟩:=
 .inr ⟨by simp only[zdf,Int.toNat_natCast];omega,by simp only[zdf,Int.toNat_natCast];exact zji hj⟩
structure PVal (w:List Data) (a k:Int) (p:Pat):Prop where
 dp:Dp w
 tin:TyIn w.length ⟨a,k⟩
 shape:zat w 10 ⟨a,k⟩ p=true
 rng:a≠ -1->0<=a/\a.toNat<w.length/\0<=k/\k<=3
theorem zed {w:List Data}{a b:Int} (hs:WSmall w):FnD Tryz.prog 86 [.d (zaj w),.agg [.d (.i a),.d (.i b)]] [] (.d (.bool (zbn w ⟨a,b⟩))) []:=by
 rw[<-zxu];exact zlM hs
theorem zj5:FnD Tryz.prog 166 [] [] (.agg [.d (.i 1),.d (.i 0),.d (.i 0),.d (.i 0),.d (.i 0),.d (.sl [])]) []:=by
 refine bd Tryz.f166 2 [] [] fun _ _ _ _ hk=>?_;refine ab 3000 tz74 ?_;apply tv;refine bu [0] [_] st74 ?_;refine so ty74 ?_;apply tv;focus (refine rn0 (ra ty74) (.agg (qeeeeen ?_ ?_ ?_ ?_ ?_ ?_));all_goals (first|rfl|(simp[];done)|(simp_all;done)|(simp_all;omega)|omega))
structure Sm (n:Nat) (w:List Data):Prop where
 len:w.length<=n
 data:∀d∈w,d.name.length<=n/\d.ctors.length<=n
 ctor:∀d∈w,∀c∈d.ctors,c.name.length<=n/\c.args.length<=n
theorem Sm.small {n:Nat}{w:List Data} (h:Sm n w) (hn:n<=1000000000000):WSmall w:=
 ⟨Nat.le_trans h.len hn,fun d hd=>⟨Nat.le_trans (h.data d hd).1 hn,Nat.le_trans (h.data d hd).2 hn⟩,fun d hd c hc=>⟨Nat.le_trans (h.ctor d hd c hc).1 hn,Nat.le_trans (h.ctor d hd c hc).2 hn⟩⟩
structure WorldD (w:List Data):Prop where
 sm:Sm 10 w
 small:WSmall w
 valid:zaI w=true
 one:1<=w.length
def Low (w:List Data):Prop:=∀s,zaX w s<=3
structure WorldL (w:List Data):Prop where
 dp:Dp w
 low:Low w
 few:Few w
structure Deep (w:List Data) (n:Nat) (t:Ty) (m:Int):Prop where
 ins:InS (w.length*4) t
 pos:0<dv (zaX w) t
 le:dv (zaX w) t<=n
 ml:m<=n
section
variable {c:Ctx}{all:Array Oper}{chk:List Rec->Prop}{os:List Oper}{recs:List Rec}{env:Env}{hp:Hp}{Q:St->Prop}
variable {d ty:Nat}{pos:String}{af:Array Edge}{g:Option (Nat×Bool)}{pg:List (Nat×AV)}{t yt:TypeId}{x y:Operand}
theorem xbp {id k e yb:Nat}{xs ys:List (List D)}{vy:AV}{ids:List Nat} (hkp:KeptIn c.kept ids) (hid:zaT id ids=false) (hne:xs++ys≠[]) (ht:SlT c.P t e k yb) (hz:ZeroT c.P e k) (hg:GH all env g pg) (hd:Nat.blt d c.n=true)
  (hx:opd env x=some (.gv id xs)) (hy:opd env y=some vy) (hyd:vy.toD=some (.sl ys)) (htok:getH hp id=some (.tok xs.length k)) (hky:∀y,y∈ys->y.length=k)
  (hb:(xs.length+ys.length)*yb<=140737488355328) (hm:xs.length+ys.length<=9223372036854775807)
  (hn:Walk c all chk os (zap (pg++(opF x (.gv id xs)++opF y vy)) [(id,.tok xs.length k)] [] ⟨some (d,.ms id (xs++ys).length),[(id,some (.box ((xs++ys).flatten.map .d)))]⟩::recs)
   ⟨(d,.ms id (xs++ys).length)::env,(id,some (.box ((xs++ys).flatten.map .d)))::hp⟩ Q):
  Walk c all chk (⟨some d,.call ⟨.builtin .append,#[x,y],#[t,t]⟩,ty,pos,af,g⟩::os) recs ⟨env,hp⟩ Q:=by
 refine⟨pg++(opF x (.gv id xs)++opF y vy),[(id,.tok xs.length k)],[],_, ?_,zav hg.facts (zav (za4 hx) (za4 hy)),hh1 htok,by simp,hn⟩;intro s a w hrel hp' hh _ K Q' hK;obtain⟨G,hr⟩:=hrel;have e1:=hr.opd (za5 hx (fun p hm=>hp' p (by simp[hm])));have e2:=hr.opd (za5 hy (fun p hm=>hp' p (by simp[hm])));obtain⟨i,z,z1,z2,z3⟩:=hz.out;obtain⟨v',w',G',hrun,hR,hA⟩:=zkg hr ht ⟨i,z1,z2,z3⟩ (hh1' hh) e1 (e2.toD hyd) hky hb hm ty;unfold wpO;rw[if_pos (hg.gf.wanted hr (fun p hm=>hp' p (by simp[hm])))];unfold Oper.wp;have:(execOp a.eval ⟨some d,.call ⟨.builtin .append,#[x,y],#[t,t]⟩,ty,pos,af,g⟩).run c.P w = .ok (.value v') w':=by
  simp only[execOp,resolve,invoke,builtin,Sem.run_bind,Sem.run_pure,Result.andThen_ok,List.map_toArray,xaf,List.map_nil,hrun]
 rw[this,Oper.upon_value];have hV:Rel c ⟨(d,.gv id (xs++ys))::s.env,(id,some (.tok (xs.length+ys.length) k))::s.hp⟩ (a.put (some d) v') w':=⟨G',hR.put hA hd⟩;rcases Rel.fixV hkp d id k (xs:=xs++ys) (by simp[getE]) (by rw[zal,if_pos rfl,xaa]) hid hV with ⟨h,_⟩|⟨_,h⟩
 ·exact absurd h hne
 ·refine hK _ _ (h.congr (fun j=>?_) (fun j=>?_))
  ·show getE ((d,_)::s.env) j=getE ((d,_)::(d,_)::s.env) j
   simp only[getE];cases Nat.beq d j<;>rfl
  ·show getH ((id,_)::s.hp) j=getH ((id,_)::(id,_)::s.hp) j
   rw[zal,zal,zal];by_cases hj:j=id
   ·rw[if_pos hj,if_pos hj]
   ·rw[if_neg hj,if_neg hj,if_neg hj]
end
theorem put0 {l:List (List D)}{x:List D}{r:List (List D)}{v:List AV} (h:l=x::r) (hx:x.length=v.length):putC (l.flatten.map .d) 0 v=some (v++r.flatten.map .d):=by
 subst h;rw[List.flatten_cons,xag];have key:∀(a b:List AV),a.length=b.length->∀(c:List AV),putC (a++c) 0 b=some (b++c):=by
  intro a;induction a with
  |nil=>intro b h c;cases b with
   |nil=>cases c<;>rfl
   |cons=>simp at h
  |cons y a ih=>intro b h c;cases b with
   |nil=>simp at h
   |cons z b=>
    have:=ih b (by simpa using h) c;simp only[xai,putC,this]
 exact key _ _ (by simpa using hx) _
theorem zqY {k:Nat}{v:List AV}{vd:List D}{r:List (List D)} (hv:toDL v=some vd) (hk:v.length=k) (hr:∀x∈r,x.length=k):zbS (r.length+1) k (v++r.flatten.map .d)=some (vd::r):=by
 have h1:cutC (v++r.flatten.map .d) 0 k=some v:=zfz hk;have h2:(v++r.flatten.map AV.d).drop k=r.flatten.map .d:=by rw[<-hk];simp
 have h3:=zel (f:=fun x:List D=>x) (k:=k) (l:=r) hr;have h4:(r.flatMap fun x=>x.map AV.d)=r.flatten.map .d:=by rw[List.map_flatten];rfl
 rw[h4,List.map_id'] at h3;simp only[zbS,h1,hv,h2,h3]
theorem Pat.cs_app (a b:List Pat):Pat.cs (a++b)=Pat.cs a++Pat.cs b:=by
 rw[xa0,xa0,xa0,xag]
def capN (n:Nat):Nat:=if 401<n then 401 else n
theorem Val.cs_cc (l:List Val):Val.cs l=l.map Val.cc:=by
 rw[xbh];exact List.map_congr_left (fun v _=>Val.c_eq v)
set_option maxRecDepth 1000000
def indT (m S r h:Nat):Nat:=bif (Nat.beq (Nat.mod (Nat.add (Nat.xor S r) h) 3) 0&&(Nat.beq m 3||Nat.beq (Nat.mod (Nat.xor S r) 2) 0)) then 1 else 0
def ind (m S q:Nat):Nat:=indT m S (q % 64) ((q ^^^ (q / 64)) % 3)
def cnt (m S e:Nat):Nat->Nat->Nat
 |0,_=>0
 |n+1,q=>ind m S q+cnt m S e n (q+e)
theorem zq2 (m S e:Nat):∀n q,cnt m S e (n+1) q=cnt m S e n q+ind m S (q+n*e)
 |0,q=>by simp only[cnt,Nat.zero_mul,Nat.add_zero,Nat.zero_add]
 |n+1,q=>by
  have:=zq2 m S e n (q+e);simp only[cnt] at this ⊢;have h:q+e+n*e=q+(n+1)*e:=by rw[Nat.add_mul];omega
  rw[h] at this;omega
theorem zrp (m S q:Nat):ind m S q<=1:=by unfold ind indT;cases (Nat.beq _ _&&_)<;>simp
theorem zuz (m S e:Nat):∀n q,cnt m S e n q<=n
 |0,_=>Nat.le_refl _
 |n+1,q=>by have:=zuz m S e n (q+e);have:=zrp m S q;simp only[cnt];omega
noncomputable def lan (f:Nat->Nat) (s n:Nat):Nat:=Nat.rec (motive:=fun _=>Nat->Nat) (fun _=>0) (fun _ ih s=>Nat.add (f s) (Nat.mul 65536 (ih (Nat.succ s)))) n s
theorem zi1 (f g:Nat->Nat):∀n s,lan (fun S=>f S+g S) s n=lan f s n+lan g s n
 |0,s=>rfl
 |n+1,s=>by
  show f s+g s+65536*lan (fun S=>f S+g S) (s+1) n=f s+65536*lan f (s+1) n+(g s+65536*lan g (s+1) n)
  rw[zi1 f g n (s+1)];omega
theorem zsU {f:Nat->Nat} (h:∀s,f s<65536):∀n s,lan f s n &&& lan (fun _=>32768) s n=0->∀S,s<=S->S<s+n->f S<32768
 |0,s,_,S,h1,h2=>by omega
 |n+1,s,hz,S,h1,h2=>by
  have hz':(f s+65536*lan f (s+1) n) &&& (32768+65536*lan (fun _=>32768) (s+1) n)=0:=hz;have hf:=h s;by_cases hS:S=s
  ·subst hS;have e:=xam (fun x=>x % 2 ^ 16 / 2 ^ 15) hz';simp only[Nat.and_mod_two_pow,Nat.and_div_two_pow] at e;rw[show(f S+65536*lan f (S+1) n) % 2 ^ 16=f S by omega,show(32768+65536*lan (fun _=>32768) (S+1) n) % 2 ^ 16=32768 by omega] at e;rcases Nat.lt_or_ge (f S) 32768 with hlt|hge
   ·exact hlt
   ·rw[show f S / 2 ^ 15=1 by omega] at e;exact absurd e om
  ·have e:=xam (fun x=>x / 2 ^ 16) hz';simp only[Nat.and_div_two_pow] at e;rw[show(f s+65536*lan f (s+1) n) / 2 ^ 16=lan f (s+1) n by omega,show(32768+65536*lan (fun _=>32768) (s+1) n) / 2 ^ 16=lan (fun _=>32768) (s+1) n by omega] at e;exact zsU h n (s+1) (by rw[e]) S od od
noncomputable def laneT (m r h:Nat):Nat:=lan (fun S=>indT m S r h) 0 64
noncomputable def tre (f:Nat->Nat) (d x base:Nat):Nat:=Nat.rec (motive:=fun _=>Nat->Nat) (fun base=>f base) (fun d ih base=>Bool.rec (ih base) (ih (Nat.add base (Nat.pow 2 d))) (Nat.beq (Nat.mod (Nat.div x (Nat.pow 2 d)) 2) 1)) d base
theorem zk6 (f:Nat->Nat) (x:Nat):∀d base,tre f d x base=f (base+x % 2 ^ d)
 |0,base=>by show f base=_;rw[Nat.pow_zero,Nat.mod_one,Nat.add_zero]
 |d+1,base=>by
  have h2:x / 2 ^ d % 2<2:=Nat.mod_lt _ od;show(Bool.rec (tre f d x base) (tre f d x (base+2 ^ d)) (Nat.beq (x / 2 ^ d % 2) 1):Nat)=_
  rw[Nat.mod_pow_succ,zk6 f x d,zk6 f x d];rcases(show x / 2 ^ d % 2=0\/x / 2 ^ d % 2=1 by omega) with h|h
  ·rw[h];show f (base+x % 2 ^ d)=_;rw[Nat.mul_zero,Nat.add_zero]
  ·rw[h];show f (base+2 ^ d+x % 2 ^ d)=_;rw[Nat.mul_one,show base+2 ^ d+x % 2 ^ d=base+(x % 2 ^ d+2 ^ d) by omega]
noncomputable def lkH (m q h:Nat):Nat:=bif Nat.beq h 0 then tre (fun b=>laneT m b 0) 6 q 0 else bif Nat.beq h 1 then tre (fun b=>laneT m b 1) 6 q 0 else tre (fun b=>laneT m b 2) 6 q 0
noncomputable def lkq (m q:Nat):Nat:=lkH m q (Nat.mod (Nat.xor q (Nat.div q 64)) 3)
theorem zrv (m q:Nat):lkq m q=lan (fun S=>ind m S q) 0 64:=by
 show lkH m q ((q ^^^ (q / 64)) % 3)=laneT m (q % 64) ((q ^^^ (q / 64)) % 3)
 have h2:(q ^^^ (q / 64)) % 3<3:=Nat.mod_lt _ od;generalize (q ^^^ (q / 64)) % 3=h at *;rcases(show h=0\/h=1\/h=2 by omega) with rfl|rfl|rfl
 ·show tre (fun b=>laneT m b 0) 6 q 0=_;rw[zk6,Nat.zero_add]
 ·show tre (fun b=>laneT m b 1) 6 q 0=_;rw[zk6,Nat.zero_add]
 ·show tre (fun b=>laneT m b 2) 6 q 0=_;rw[zk6,Nat.zero_add]
noncomputable def cwL (t e n q acc:Nat):Nat:=Nat.rec (motive:=fun _=>Nat->Nat->Nat) (fun _ acc=>acc) (fun _ ih q acc=>ih (Nat.add q e) (Nat.add acc (lkq t q))) n q acc
noncomputable def slide (t e w K M k q acc:Nat):Bool:=Nat.rec (motive:=fun _=>Nat->Nat->Bool) (fun _ acc=>Nat.beq (Nat.land (Nat.add acc K) M) 0) (fun _ ih q acc=>Bool.rec false (ih (Nat.add q e) (Nat.sub (Nat.add acc (lkq t (Nat.add q w))) (lkq t q))) (Nat.beq (Nat.land (Nat.add acc K) M) 0)) k q acc
theorem ztM (t e w K M k q acc:Nat):slide t e w K M (k+1) q acc=(Nat.beq (Nat.land (Nat.add acc K) M) 0&&slide t e w K M k (Nat.add q e) (Nat.sub (Nat.add acc (lkq t (Nat.add q w))) (lkq t q))):=by
 show(Bool.rec false (slide t e w K M k (Nat.add q e) (Nat.sub (Nat.add acc (lkq t (Nat.add q w))) (lkq t q))) (Nat.beq (Nat.land (Nat.add acc K) M) 0):Bool)=_
 cases Nat.beq (Nat.land (Nat.add acc K) M) 0<;>rfl
noncomputable def chains (t e n K M k r:Nat):Bool:=Nat.rec (motive:=fun _=>Bool) true (fun q ih=>Bool.rec false ih (slide t e (Nat.mul n e) K M k q (cwL t e n q 0))) r
theorem zsn (t e n K M k q:Nat):chains t e n K M k (q+1)=(slide t e (Nat.mul n e) K M k q (cwL t e n q 0)&&chains t e n K M k q):=by
 show(Bool.rec false (chains t e n K M k q) (slide t e (Nat.mul n e) K M k q (cwL t e n q 0)):Bool)=_
 cases slide t e (Nat.mul n e) K M k q (cwL t e n q 0)<;>rfl
theorem zuD (m e:Nat):∀n q acc,cwL m e n q acc=acc+lan (fun S=>cnt m S e n q) 0 64
 |0,q,acc=>by
  have:∀n s,lan (fun S=>cnt m S e 0 q) s n=0:=by
   intro n;induction n with
   |zero=>intro s;rfl
   |succ n ih=>intro s;show 0+65536*lan (fun S=>cnt m S e 0 q) (s+1) n=0;rw[ih]
  rw[this];rfl
 |n+1,q,acc=>by
  show cwL m e n (q+e) (acc+lkq m q)=_
  rw[zuD m e n (q+e),zrv];have:=zi1 (fun S=>ind m S q) (fun S=>cnt m S e n (q+e)) 64 0;show _=acc+lan (fun S=>ind m S q+cnt m S e n (q+e)) 0 64
  omega
theorem zut {m e n c q:Nat} (hc:c<=32767) (hn:n<=32768) (h:Nat.beq (Nat.land (Nat.add (lan (fun S=>cnt m S e n q) 0 64) (lan (fun _=>32767-c) 0 64)) (lan (fun _=>32768) 0 64)) 0=true):∀S,S<64->cnt m S e n q<=c:=by
 intro S hS;have h1:=xap h;have h2:lan (fun S=>cnt m S e n q+(32767-c)) 0 64 &&& lan (fun _=>32768) 0 64=0:=by rw[zi1];exact h1
 have:=zsU (fun s=>by have:=zuz m s e n q;omega) 64 0 h2 S od od;have h3:cnt m S e n q+(32767-c)<32768:=this;omega
theorem zr2 {m e n c:Nat} (hc:c<=32767) (hn:n<=32768):∀k q,slide m e (n*e) (lan (fun _=>32767-c) 0 64) (lan (fun _=>32768) 0 64) k q (lan (fun S=>cnt m S e n q) 0 64)=true->∀i,i<=k->∀S,S<64->cnt m S e n (q+i*e)<=c
 |0,q,h,i,hi=>by
  obtain rfl:i=0:=by omega
  rw[Nat.zero_mul,Nat.add_zero];exact zut hc hn h
 |k+1,q,h,i,hi=>by
  rw[ztM,xad] at h;cases i with
  |zero=>rw[Nat.zero_mul,Nat.add_zero];exact zut hc hn h.1
  |succ i=>
   have e1:Nat.sub (Nat.add (lan (fun S=>cnt m S e n q) 0 64) (lkq m (Nat.add q (n*e)))) (lkq m q)=lan (fun S=>cnt m S e n (q+e)) 0 64:=by
    show lan (fun S=>cnt m S e n q) 0 64+lkq m (q+n*e)-lkq m q=_
    rw[zrv,zrv,<-zi1];have h1:(fun S=>cnt m S e n q+ind m S (q+n*e))=fun S=>ind m S q+cnt m S e n (q+e):=by
     funext S;rw[<-zq2];rfl
    rw[h1,zi1];omega
   have h3:=h.2;rw[e1] at h3;rw[show q+(i+1)*e=q+e+i*e by rw[Nat.add_mul];omega];exact zr2 hc hn k (q+e) h3 i od
theorem zd2 {m e n c k:Nat} (he:0<e) (hc:c<=32767) (hn:n<=32768) (h:chains m e n (lan (fun _=>32767-c) 0 64) (lan (fun _=>32768) 0 64) k e=true){S q:Nat} (hS:S<64) (hq:q<e*(k+1)):cnt m S e n q<=c:=by
 have key:∀r,chains m e n (lan (fun _=>32767-c) 0 64) (lan (fun _=>32768) 0 64) k r=true->∀q,q<r->∀i,i<=k->∀S,S<64->cnt m S e n (q+i*e)<=c:=by
  intro r;induction r with
  |zero=>intro _ q hq;omega
  |succ r ih=>
   intro h q hq i hi;rw[zsn,xad] at h;by_cases hr:q=r
   ·subst hr;have h1:=h.1;rw[zuD,Nat.zero_add] at h1;exact zr2 hc hn k q h1 i hi
   ·exact ih h.2 q od i hi
 have hd:q / e<k+1:=Nat.div_lt_of_lt_mul hq;have:=key e h (q % e) (Nat.mod_lt _ he) (q / e) od S hS;rwa [Nat.mul_comm (q / e) e,Nat.mod_add_div] at this
noncomputable def Mk:Nat:=lan (fun _=>32768) 0 64
noncomputable def K7:Nat:=lan (fun _=>32767-80) 0 64
theorem ck7:chains 6 1 192 K7 Mk 3200 1=true:=by kernel_rfl
theorem win7 {S q:Nat} (hS:S<64) (hq:q<3201):cnt 6 S 1 192 q<=80:=zd2 (m:=6) (e:=1) (n:=192) (c:=80) (k:=3200) od od od ck7 hS hq
noncomputable def K263:Nat:=lan (fun _=>32767-94) 0 64
theorem zzw:chains 3 15 192 K263 Mk 107 15=true:=by kernel_rfl
theorem zy5 {S q:Nat} (hS:S<64) (hq:q<1620):cnt 3 S 15 192 q<=94:=zd2 (m:=3) (e:=15) (n:=192) (c:=94) (k:=107) od od od zzw hS hq
noncomputable def K519:Nat:=lan (fun _=>32767-13) 0 64
theorem zzx:chains 6 59 32 K519 Mk 55 59=true:=by kernel_rfl
theorem zy6 {S q:Nat} (hS:S<64) (hq:q<3304):cnt 6 S 59 32 q<=13:=zd2 (m:=6) (e:=59) (n:=32) (c:=13) (k:=55) od od od zzx hS hq
noncomputable def K775:Nat:=lan (fun _=>32767-63) 0 64
theorem zzy:chains 3 44 128 K775 Mk 37 44=true:=by kernel_rfl
theorem zy7 {S q:Nat} (hS:S<64) (hq:q<1672):cnt 3 S 44 128 q<=63:=zd2 (m:=3) (e:=44) (n:=128) (c:=63) (k:=37) od od od zzy hS hq
noncomputable def K1031:Nat:=lan (fun _=>32767-13) 0 64
theorem zyy:chains 6 117 32 K1031 Mk 28 117=true:=by kernel_rfl
theorem zxz {S q:Nat} (hS:S<64) (hq:q<3393):cnt 6 S 117 32 q<=13:=zd2 (m:=6) (e:=117) (n:=32) (c:=13) (k:=28) od od od zyy hS hq
noncomputable def K1287:Nat:=lan (fun _=>32767-126) 0 64
theorem zyz:chains 3 73 256 K1287 Mk 22 73=true:=by kernel_rfl
theorem zxA {S q:Nat} (hS:S<64) (hq:q<1679):cnt 3 S 73 256 q<=126:=zd2 (m:=3) (e:=73) (n:=256) (c:=126) (k:=22) od od od zyz hS hq
noncomputable def K1543:Nat:=lan (fun _=>32767-14) 0 64
theorem zyA:chains 6 175 32 K1543 Mk 19 175=true:=by kernel_rfl
theorem zxB {S q:Nat} (hS:S<64) (hq:q<3500):cnt 6 S 175 32 q<=14:=zd2 (m:=6) (e:=175) (n:=32) (c:=14) (k:=19) od od od zyA hS hq
noncomputable def K1799:Nat:=lan (fun _=>32767-120) 0 64
theorem zyB:chains 3 102 256 K1799 Mk 16 102=true:=by kernel_rfl
theorem zxC {S q:Nat} (hS:S<64) (hq:q<1734):cnt 3 S 102 256 q<=120:=zd2 (m:=3) (e:=102) (n:=256) (c:=120) (k:=16) od od od zyB hS hq
set_option maxRecDepth 100000
def uv (x:Int):Int:=if x=3 then 1 else if x=0\/x=1 then 0 else -1
def sU (u:Nat->Int):Nat->Nat->Int
 |_,0=>0
 |p,n+1=>u p+sU u (p+1) n
theorem zhW (u:Nat->Int):∀m n p,sU u p (m+n)=sU u p m+sU u (p+m) n
 |0,n,p=>by simp[sU]
 |m+1,n,p=>by
  rw[show m+1+n=(m+n)+1 by omega];simp only[sU];rw[zhW u m n (p+1),show p+1+m=p+(m+1) by omega];omega
theorem zoo (x:Int) : -1<=uv x/\uv x<=1:=by unfold uv;split<;>(try split)<;>omega
theorem zwF {u:Nat->Int} (h:∀k,u k<=1):∀n p,sU u p n<=n
 |0,p=>by simp[sU]
 |n+1,p=>by have:=zwF h n (p+1);have:=h p;simp only[sU];omega
def fN (y:Nat):Nat:=(y ^^^ (y / 64)) % 24
def uN (y:Nat):Int:=uv (fN y:Int)
def wS (D:Nat):Nat->Nat->Int
 |0,_=>0
 |n+1,y=>uN y+wS D n (y+D)
theorem zlc (D:Nat):∀m n y,wS D (m+n) y=wS D m y+wS D n (y+m*D)
 |0,n,y=>by simp[wS]
 |m+1,n,y=>by
  rw[show m+1+n=(m+n)+1 by omega];simp only[wS];rw[zlc D m n (y+D),show y+D+m*D=y+(m+1)*D by rw[Nat.add_mul];omega];omega
def g8 (r:Nat):Nat:=(r % 8) ^^^ (r / 64 % 8)
theorem zyH (y:Nat):fN y % 8=g8 (y % 512):=by
 unfold fN g8;rw[Nat.mod_mod_of_dvd _ om,show(8:Nat)=2 ^ 3 from rfl,Nat.xor_mod_two_pow];congr 1
 ·omega
 ·omega
def um (r:Nat):Int:=if r=3 then 1 else if r=0\/r=1 then 0 else -1
theorem zqz (y:Nat):uN y<=um (g8 (y % 512)):=by
 rw[<-zyH];have h:fN y<24:=Nat.mod_lt _ od;unfold uN;generalize fN y=x at *;have key:∀x:Nat,x<24->uv (x:Int)<=um (x % 8):=by decide
 exact key x h
def zzM:Bool:=(List.range 512).all fun r=>[128,384].all fun E=>decide (um (g8 r)+um (g8 ((r+E) % 512))+um (g8 ((r+2*E) % 512))+um (g8 ((r+3*E) % 512))<= -1)
theorem zv2:zzM=true:=by kernel_rfl
theorem quad {E:Nat} (hE:E % 512=128\/E % 512=384) (y:Nat):uN y+uN (y+E)+uN (y+2*E)+uN (y+3*E)<= -1:=by
 have h:=List.all_eq_true.1 zv2 (y % 512) (List.mem_range.2 (Nat.mod_lt _ od));have h2:=List.all_eq_true.1 h (E % 512) (by rcases hE with e|e<;>rw[e]<;>simp);have h3:=xas h2;have a0:=zqz y;have a1:=zqz (y+E);have a2:=zqz (y+2*E);have a3:=zqz (y+3*E);rw[show(y+E) % 512=(y % 512+E % 512) % 512 by omega] at a1;rw[show(y+2*E) % 512=(y % 512+2*(E % 512)) % 512 by omega] at a2;rw[show(y+3*E) % 512=(y % 512+3*(E % 512)) % 512 by omega] at a3;omega
theorem zwE {D E:Nat} (hE:E % 512=128\/E % 512=384):∀n y,wS D n y+wS D n (y+E)+wS D n (y+2*E)+wS D n (y+3*E)<= -n
 |0,y=>by simp[wS]
 |n+1,y=>by
  have h1:=quad hE y;have h2:=zwE (D:=D) hE n (y+D);simp only[wS];rw[show y+E+D=y+D+E by omega,show y+2*E+D=y+D+2*E by omega,show y+3*E+D=y+D+3*E by omega];omega
theorem four {D h:Nat} (hE:h*D % 512=128\/h*D % 512=384) (y:Nat):wS D (h+(h+(h+h))) y<= -h:=by
 have:=zwE (D:=D) hE h y;rw[zlc,zlc,zlc,show y+h*D+h*D=y+2*(h*D) by omega,show y+2*(h*D)+h*D=y+3*(h*D) by omega];omega
theorem zwQ {S q:Nat} (hS:S<64):((S+64*q) ^^^ q) % 64=S ^^^ (q % 64)/\((S+64*q) ^^^ q) / 64=q ^^^ (q / 64):=by
 have e:(64:Nat)=2 ^ 6:=rfl;constructor
 ·have:=Nat.xor_mod_two_pow (a:=S+64*q) (b:=q) (n:=6);rw[<-e] at this;rw[this];congr 1;omega
 ·have:=Nat.xor_div_two_pow (a:=S+64*q) (b:=q) (n:=6);rw[<-e] at this;rw[this];congr 1;omega
theorem ind3 {S q:Nat} (hS:S<64) (h:ind 3 S q=0):((S+64*q) ^^^ q) % 3≠0:=by
 obtain⟨h1,h2⟩:=zwQ (q:=q) hS;intro h0;unfold ind indT at h;have e:Nat.beq (Nat.mod (Nat.add (Nat.xor S (q % 64)) ((q ^^^ q / 64) % 3)) 3) 0=true:=by
  have:((S ^^^ (q % 64))+(q ^^^ (q / 64)) % 3) % 3=0:=by rw[<-h1,<-h2];omega
  rw[show Nat.mod (Nat.add (Nat.xor S (q % 64)) ((q ^^^ q / 64) % 3)) 3=((S ^^^ (q % 64))+(q ^^^ (q / 64)) % 3) % 3 from rfl,this];rfl
 rw[e] at h;have h3:(1:Nat)=0:=h;omega
theorem ind6 {S q:Nat} (hS:S<64) (h:ind 6 S q=0):((S+64*q) ^^^ q) % 6≠0:=by
 obtain⟨h1,h2⟩:=zwQ (q:=q) hS;intro h0;unfold ind indT at h;have e:Nat.beq (Nat.mod (Nat.add (Nat.xor S (q % 64)) ((q ^^^ q / 64) % 3)) 3) 0=true:=by
  have:((S ^^^ (q % 64))+(q ^^^ (q / 64)) % 3) % 3=0:=by rw[<-h1,<-h2];omega
  rw[show Nat.mod (Nat.add (Nat.xor S (q % 64)) ((q ^^^ q / 64) % 3)) 3=((S ^^^ (q % 64))+(q ^^^ (q / 64)) % 3) % 3 from rfl,this];rfl
 have e2:Nat.beq (Nat.mod (Nat.xor S (q % 64)) 2) 0=true:=by
  have:(S ^^^ (q % 64)) % 2=0:=by rw[<-h1];omega
  rw[show Nat.mod (Nat.xor S (q % 64)) 2=(S ^^^ (q % 64)) % 2 from rfl,this];rfl
 rw[e,e2] at h;exact absurd h om
theorem zy4 {s q:Nat} (hs:s<512):uN (s+512*q)<=2*(ind 3 (s / 8) q:Int)-1:=by
 have hi:=zrp 3 (s / 8) q;by_cases h:ind 3 (s / 8) q=0
 ·have hx:=ind3 od h;rw[h];have hz:((s+512*q) ^^^ ((s+512*q) / 64)) / 8=(s / 8+64*q) ^^^ q:=by
   have:=Nat.xor_div_two_pow (a:=s+512*q) (b:=(s+512*q) / 64) (n:=3);rw[show(2:Nat) ^ 3=8 from rfl] at this;rw[this];congr 1<;>omega
  rw[<-hz] at hx;unfold uN fN;generalize (s+512*q) ^^^ ((s+512*q) / 64)=z at *;have h24:z % 24≠0/\z % 24≠1/\z % 24≠3:=by omega
  unfold uv;rw[if_neg od,if_neg od];omega
 ·have:=(zoo (fN (s+512*q):Int)).2;unfold uN;omega
theorem zy3 {s q:Nat} (hs:s<256):uN (s+256*q)<=2*(ind 6 (s / 4) q:Int)-1:=by
 have hi:=zrp 6 (s / 4) q;by_cases h:ind 6 (s / 4) q=0
 ·have hx:=ind6 od h;rw[h];have hz:((s+256*q) ^^^ ((s+256*q) / 64)) / 4=(s / 4+64*q) ^^^ q:=by
   have:=Nat.xor_div_two_pow (a:=s+256*q) (b:=(s+256*q) / 64) (n:=2);rw[show(2:Nat) ^ 2=4 from rfl] at this;rw[this];congr 1<;>omega
  rw[<-hz] at hx;unfold uN fN;generalize (s+256*q) ^^^ ((s+256*q) / 64)=z at *;have h24:z % 24≠0/\z % 24≠1/\z % 24≠3:=by omega
  unfold uv;rw[if_neg od,if_neg od];omega
 ·have:=(zoo (fN (s+256*q):Int)).2;unfold uN;omega
theorem zvy {s e:Nat} (hs:s<512):∀n q,wS (512*e) n (s+512*q)<=2*(cnt 3 (s / 8) e n q:Int)-n
 |0,q=>by simp[wS,cnt]
 |n+1,q=>by
  have h1:=zy4 (q:=q) hs;have h2:=zvy (e:=e) hs n (q+e);simp only[wS,cnt];rw[show s+512*q+512*e=s+512*(q+e) by omega];omega
theorem zvx {s e:Nat} (hs:s<256):∀n q,wS (256*e) n (s+256*q)<=2*(cnt 6 (s / 4) e n q:Int)-n
 |0,q=>by simp[wS,cnt]
 |n+1,q=>by
  have h1:=zy3 (q:=q) hs;have h2:=zvx (e:=e) hs n (q+e);simp only[wS,cnt];rw[show s+256*q+256*e=s+256*(q+e) by omega];omega
def Less (L:Nat):Prop:=∃N,1<=N/\N<=1024/\∀A,A<=818000->wS (29*L+53) N A<= -2
def zwv (L:Nat):Bool:=[1,2,4,8,16,32,64,128].any fun h=>decide (h*(29*L+53) % 512=128\/h*(29*L+53) % 512=384)
theorem zuR {L:Nat} (h:zwv L=true):Less L:=by
 obtain⟨h,hm,hd⟩:=List.any_eq_true.1 h;have hE:=xas hd;have hb:1<=h/\h<=128:=by
  simp only[List.mem_cons,xau,or_false] at hm;omega
 refine⟨(h+(h+(h+h)))+(h+(h+(h+h))),by omega,by omega,fun A _=>?_⟩;have h1:=four hE A;have h2:=four hE (A+(h+(h+(h+h)))*(29*L+53));rw[zlc];omega
theorem zjD {L e N c K:Nat} (hL:29*L+53=512*e) (hN:1<=N/\N<=1024) (hc:2*c+2<=N) (hK:1598<=K) (h:∀ {S q:Nat},S<64->q<K->cnt 3 S e N q<=c):Less L:=by
 refine⟨N,hN.1,hN.2,fun A hA=>?_⟩;have h1:=zvy (s:=A % 512) (e:=e) od N (A / 512);have h2:=h (S:=A % 512 / 8) (q:=A / 512) od od;rw[hL];rw[show A % 512+512*(A / 512)=A by omega] at h1;omega
theorem zjC {L e N c K:Nat} (hL:29*L+53=256*e) (hN:1<=N/\N<=1024) (hc:2*c+2<=N) (hK:3196<=K) (h:∀ {S q:Nat},S<64->q<K->cnt 6 S e N q<=c):Less L:=by
 refine⟨N,hN.1,hN.2,fun A hA=>?_⟩;have h1:=zvx (s:=A % 256) (e:=e) od N (A / 256);have h2:=h (S:=A % 256 / 4) (q:=A / 256) od od;rw[hL];rw[show A % 256+256*(A / 256)=A by omega] at h1;omega
theorem zxd:((List.range 2001).all fun L=>zwv L||(decide (L=7)||decide (L=263)||decide (L=519)||decide (L=775)||decide (L=1031)||decide (L=1287)||decide (L=1543)||decide (L=1799)))=true:=by kernel_rfl
theorem zvV {L:Nat} (hL:L<=2000):Less L:=by
 have h:=List.all_eq_true.1 zxd L (List.mem_range.2 od);simp only[Bool.or_eq_true,xah] at h;rcases h with h|(((((((h|h)|h)|h)|h)|h)|h)|h)
 ·exact zuR h
 ·subst h;exact zjC (e:=1) (N:=192) (c:=80) Z od od od win7
 ·subst h;exact zjD (e:=15) (N:=192) (c:=94) Z od od od zy5
 ·subst h;exact zjC (e:=59) (N:=32) (c:=13) Z od od od zy6
 ·subst h;exact zjD (e:=44) (N:=128) (c:=63) Z od od od zy7
 ·subst h;exact zjC (e:=117) (N:=32) (c:=13) Z od od od zxz
 ·subst h;exact zjD (e:=73) (N:=256) (c:=126) Z od od od zxA
 ·subst h;exact zjC (e:=175) (N:=32) (c:=14) Z od od od zxB
 ·subst h;exact zjD (e:=102) (N:=256) (c:=120) Z od od od zxC
theorem zwi {a b:Nat} (ha:a<2 ^ 62) (hb:b<2 ^ 62):xorV (a:Int) (b:Int)=((a ^^^ b:Nat):Int):=by
 have h1:(BitVec.ofInt 64 (a:Int) ^^^ BitVec.ofInt 64 (b:Int)).toNat=a ^^^ b:=by
  rw[BitVec.toNat_xor,BitVec.toNat_ofInt,BitVec.toNat_ofInt];have e1:((a:Int) % ((2 ^ 64:Nat):Int)).toNat=a:=by
   have:(a:Int) % ((2 ^ 64:Nat):Int)=a:=Int.emod_eq_of_lt od od;rw[this];simp
  have e2:((b:Int) % ((2 ^ 64:Nat):Int)).toNat=b:=by
   have:(b:Int) % ((2 ^ 64:Nat):Int)=b:=Int.emod_eq_of_lt od od;rw[this];simp
  rw[e1,e2]
 have h2:=Nat.xor_lt_two_pow (n:=62) ha hb;unfold xorV;rw[h1,zcI od]
def yN (b:Str) (k:Nat):Nat:=(nth b (k % b.length)).toNat*131+(nth b ((k*7+3) % b.length)).toNat*1117+k*29+k / b.length*53
theorem zu7 (b:Str) (k:Nat):zgA b k=(yN b k:Int):=by
 have h1:(nth b (k % b.length)).toNat<256:=(nth b (k % b.length)).toNat_lt;have h2:(nth b ((k*7+3) % b.length)).toNat<256:=(nth b ((k*7+3) % b.length)).toNat_lt;unfold zgA yN;rw[zcI od,zcI od,xac,show(k:Int)+1-1=(k:Int) by omega];simp only[Int.natCast_add,Int.natCast_mul,Int.natCast_ediv];rfl
theorem zxq {b:Str}{k:Nat} (h0:1<=b.length) (hk:b.length<=k) (hb:k<=1000000000000):zax b k 24=(fN (yN b k):Int):=by
 have h1:(nth b (k % b.length)).toNat<256:=(nth b (k % b.length)).toNat_lt;have h2:(nth b ((k*7+3) % b.length)).toNat<256:=(nth b ((k*7+3) % b.length)).toNat_lt;have h3:k / b.length<=k:=Nat.div_le_self _ _;have hy:yN b k<2 ^ 62:=by unfold yN;omega
 unfold zax;rw[if_neg od,if_neg od,zu7];rw[show((yN b k:Nat):Int) / 64=((yN b k / 64:Nat):Int) by omega,zwi hy od];unfold fN;omega
def aN (b:Str) (i:Nat):Nat:=(nth b i).toNat*131+(nth b ((7*i+3) % b.length)).toNat*1117+i*29
theorem zwj {b:Str}{j i:Nat} (hi:i<b.length):yN b (j*b.length+i)=aN b i+j*(29*b.length+53):=by
 have e1:(j*b.length+i) % b.length=i:=by rw[Nat.mul_add_mod_self_right];exact Nat.mod_eq_of_lt hi
 have e2:(j*b.length+i) / b.length=j:=by rw[Nat.mul_comm,Nat.mul_add_div od,Nat.div_eq_of_lt hi,Nat.add_zero]
 have e3:((j*b.length+i)*7+3) % b.length=(7*i+3) % b.length:=by
  rw[show(j*b.length+i)*7+3=j*7*b.length+(7*i+3) by rw[Nat.add_mul,Nat.mul_right_comm];omega,Nat.mul_add_mod_self_right]
 unfold yN aN;rw[e1,e2,e3,Nat.add_mul,Nat.mul_add,Nat.mul_assoc j b.length 29,Nat.mul_comm b.length 29];omega
theorem zy8 (b:Str) (i:Nat) (hi:i<=2000):aN b i<=376240:=by
 have h1:(nth b i).toNat<256:=(nth b i).toNat_lt;have h2:(nth b ((7*i+3) % b.length)).toNat<256:=(nth b ((7*i+3) % b.length)).toNat_lt;unfold aN;omega
def rowS (f:Nat->Nat->Int) (j:Nat):Nat->Int
 |0=>0
 |l+1=>rowS f j l+f j l
def colS (f:Nat->Nat->Int) (l:Nat):Nat->Nat->Int
 |_,0=>0
 |j,n+1=>f j l+colS f l (j+1) n
def matS (f:Nat->Nat->Int) (l:Nat):Nat->Nat->Int
 |_,0=>0
 |j,n+1=>rowS f j l+matS f l (j+1) n
theorem zpw (f:Nat->Nat->Int) (l:Nat):∀n j,matS f (l+1) j n=matS f l j n+colS f l j n
 |0,j=>rfl
 |n+1,j=>by simp only[matS,colS,rowS];rw[zpw f l n (j+1)];omega
theorem zpx (f:Nat->Nat->Int):∀n j,matS f 0 j n=0
 |0,j=>rfl
 |n+1,j=>by simp only[matS,rowS];rw[zpx f n (j+1)];omega
theorem zsZ {f:Nat->Nat->Int}{n j:Nat}{c:Int}:∀l,(∀i,i<l->colS f i j n<=c)->matS f l j n<=l*c
 |0,_=>by rw[zpx];simp
 |l+1,h=>by
  have h1:=zsZ l (fun i hi=>h i od);have h2:=h l od;rw[zpw,Int.natCast_add,Int.add_mul];omega
theorem zxt (u:Nat->Int) (p n:Nat):sU u p (n+1)=sU u p n+u (p+n):=by
 rw[zhW];simp[sU]
theorem zvg (u:Nat->Int) (L j:Nat):∀l,sU u (j*L) l=rowS (fun j i=>u (j*L+i)) j l
 |0=>rfl
 |l+1=>by rw[zxt,zvg u L j l];rfl
theorem zvf (u:Nat->Int) (L:Nat):∀n j,sU u (j*L) (n*L)=matS (fun j i=>u (j*L+i)) L j n
 |0,j=>by rw[Nat.zero_mul];rfl
 |n+1,j=>by
  rw[show(n+1)*L=L+n*L by rw[Nat.add_mul];omega,zhW,zvg,show j*L+L=(j+1)*L by rw[Nat.add_mul];omega,zvf u L n (j+1)];rfl
abbrev uP (b:Str) (k:Nat):Int:=uv (zax b k 24)
theorem zuA {b:Str} (h0:1<=b.length){i:Nat} (hi:i<b.length):∀n j,1<=j->(j+n)*b.length<=100000000->colS (fun j i=>uP b (j*b.length+i)) i j n=wS (29*b.length+53) n (aN b i+j*(29*b.length+53))
 |0,j,_,_=>rfl
 |n+1,j,hj,hb=>by
  have h1:=zuA h0 hi n (j+1) od (by rw[show j+1+n=j+(n+1) by omega];exact hb);have h2:b.length<=j*b.length:=Nat.le_mul_of_pos_left _ hj;have h3:j*b.length<=(j+(n+1))*b.length:=xav _ od;simp only[colS,wS];rw[h1,show aN b i+j*(29*b.length+53)+(29*b.length+53)=aN b i+(j+1)*(29*b.length+53) by rw[Nat.add_mul];omega];congr 1
  show uv (zax b (j*b.length+i) 24)=uN _
  rw[zxq h0 od od,zwj hi];rfl
theorem Vals.size_app:∀a b:List Val,Vals.size (a++b)=Vals.size a+Vals.size b
 | [],b=>by simp[Vals.size]
 |x::r,b=>by simp only[xai,Vals.size,Vals.size_app r b];omega
theorem Val.size_mk (a n:Int) (k:List Val):(Val.mk a n k).size=1+Vals.size k:=rfl
structure CaseW (w:List Data):Prop where
 small:WSmall w
 valid:zaI w=true
 one:1<=w.length
 ct:∀k:Int,k=0\/k=1\/k=2->1<=(zas w ⟨0,k⟩).length
mutual
theorem ztV:∀v:Val,ztU v v=true
 | .mk _ _ ks=>by simp[ztU,zl2 ks]
theorem zl2:∀l:List Val,zop l l=true
 | []=>rfl
 |v::r=>by simp[zop,ztV v,zl2 r]
end
theorem Val.c_len (v:Val):v.c.length=3:=by cases v;rfl
theorem Val.cs_rows {l:List Val}:∀x,x∈Val.cs l->x.length=3:=by
 intro x hx;rw[xbh] at hx;obtain⟨y,_,rfl⟩:=List.mem_map.1 hx;exact y.c_len
theorem Val.cs_nil (l:List Val):Val.cs l=[]↔l=[]:=by rw[xbh];simp
mutual
def mVal:Val->Nat
 | .mk _ _ ks=>znx ks
def znx:List Val->Nat
 | []=>0
 |v::r=>1+mVal v+znx r
end
mutual
def Val.szM:Val->Int
 | .mk _ _ ks=>2+Vals.szM ks
def Vals.szM:List Val->Int
 | []=>0
 |v::r=>v.szM+Vals.szM r
end
mutual
def Val.one (k:Int):Val->Val
 | .mk _ _ ks=> .mk k (k+1) (Vals.one (k+1+1) ks)
def Vals.one (k:Int):List Val->List Val
 | []=>[]
 |v::r=>v.one k::Vals.one (k+v.szM) r
end
mutual
theorem Val.szM_nn:∀v:Val,0<=v.szM
 | .mk _ _ ks=>by have:=xbl ks;simp only[Val.szM];omega
theorem xbl:∀l:List Val,0<=Vals.szM l
 | []=>by simp[Vals.szM]
 |v::r=>by have:=Val.szM_nn v;have:=xbl r;simp only[Vals.szM];omega
end
mutual
theorem Val.szM_le:∀v:Val,v.szM<=2+2*(mVal v:Int)
 | .mk _ _ ks=>by have:=xbk ks;simp only[Val.szM,mVal];omega
theorem xbk:∀l:List Val,Vals.szM l<=2*(znx l:Int)
 | []=>by simp[Vals.szM,znx]
 |v::r=>by have:=Val.szM_le v;have:=xbk r;simp only[Vals.szM,znx];omega
end
section
variable {c:Ctx}{env:Env}{hp:Hp}{K:Kt}{code:Code}{ids:List Nat}
theorem CWp.fixVB (b off id k:Nat){n:Nat}{xs:List (List D)}{cs cs':List AV} (hb:getH hp b=some (.box cs)) (hc:cs[off]?=some (.gv id xs)) (hput:putC cs off [.ms id xs.length]=some cs') (ht:getH hp id=some (.tok n k)) (hn:n=xs.length) (hx0:xs≠[])
  (hnx:CWp c code ⟨env,(b,some (.box cs'))::(id,some (.box (xs.flatten.map .d)))::hp⟩ K):CWp c code ⟨env,hp⟩ K:=by
 rintro a w ⟨G,hr⟩
 subst hn;have hne:b≠id:=fun e=>by subst e;rw[hb] at ht;cases ht
 obtain⟨bl,vs,e,e1,e2,e3,e4,e5⟩:=hr.heap b _ hb;obtain⟨hlt,hcv⟩:=List.getElem?_eq_some_iff.1 hc;have hlv:off<vs.size:=by omega
 have h0:=e5 off hlt hlv;rw[hcv] at h0;obtain⟨hv0,hcl⟩:=h0.gv_inv;obtain⟨hkx,htip⟩:=(hcl _ _ (zar.2 ht)).2 rfl;rcases htip with ⟨_,h2,_⟩|⟨b1,cap,us,et,h1,h2,h3,h4,h5,h6,h7⟩
 ·exact absurd (List.eq_nil_of_length_eq_zero h2) hx0
 obtain⟨p1,p2,p3⟩:=zdi hput;have s1:(getH hp b).isSome:=by rw[hb];rfl
 have s2:(getH hp id).isSome:=by rw[ht];rfl
 have g1:getH ((b,some (Res.box cs'))::(id,some (.box (xs.flatten.map .d)))::hp) b=some (.box cs'):=by rw[zal,if_pos rfl]
 have g2:getH ((b,some (Res.box cs'))::(id,some (.box (xs.flatten.map .d)))::hp) id=some (.box (xs.flatten.map .d)):=by rw[zal,if_neg (Ne.symm hne),zal,if_pos rfl]
 have t1:tokf ((b,some (Res.box cs'))::(id,some (.box (xs.flatten.map .d)))::hp) b=none:=by unfold tokf;rw[g1]
 have t2:tokf ((b,some (Res.box cs'))::(id,some (.box (xs.flatten.map .d)))::hp) id=none:=by unfold tokf;rw[g2]
 have hturn:Turn c G ⟨env,hp⟩ w G ((b,some (.box cs'))::(id,some (.box (xs.flatten.map .d)))::hp) [b,id]:=by
  refine⟨fun i hi=>?_,fun _ _=>rfl,fun _ _=>rfl,fun _ _ h=>h,hr.top,fun i hi=> .inr ⟨.inl rfl, ?_⟩,fun i hi _ x hx=>?_,fun i hi j hj hij _ _ x hx=>?_,fun i hi l hl=>?_⟩
  ·simp only[List.mem_cons,xau,or_false,not_or] at hi;rw[zal,if_neg hi.1,zal,if_neg hi.2]
  ·simp only[List.mem_cons,xau,or_false] at hi;rcases hi with rfl|rfl
   ·intro p hp;rw[t1] at hp;cases hp
   ·intro p hp;rw[t2] at hp;cases hp
  ·simp only[List.mem_cons,xau,or_false] at hi;rcases hi with rfl|rfl
   ·exact⟨i,by simp,s1,hx⟩
   ·exact⟨i,by simp,s2,hx⟩
  ·simp only[List.mem_cons,xau,or_false] at hi hj;rcases hi with rfl|rfl<;>rcases hj with rfl|rfl
   ·exact absurd Z hij
   ·exact hr.disj _ _ s1 s2 hij x hx
   ·exact hr.disj _ _ s2 s1 hij x hx
   ·exact absurd Z hij
  ·simp only[List.mem_cons,xau,or_false] at hi;have hk0:=hr.kept i l hl;rcases hi with rfl|rfl
   ·exact⟨hk0.1,by rw[g1];rfl,t1⟩
   ·have:=hk0.2.2;rw[show(⟨env,hp⟩:St).hp=hp from rfl,zar.2 ht] at this;cases this
 refine hnx a w ⟨G,hturn.fin hr (fun i hi r hri=>?_)⟩;simp only[List.mem_cons,xau,or_false] at hi;rcases hi with rfl|rfl
 ·rw[g1] at hri;cases hri
  refine⟨bl,vs,e,e1,e2,by omega,e4,fun j hj hjv=>?_⟩;have h8:=p3 j;rw[xan hj] at h8;by_cases hjo:j=off
  ·subst hjo;rw[if_pos oi] at h8;simp only[Nat.sub_self,List.getElem?_cons_zero,xae] at h8;rw[h8,h2];exact .ms (by rw[h1];rfl) t2 h6
  ·rw[if_neg (by simp only[xab,xak];omega)] at h8;have hjc:j<cs.length:=by omega
   rw[xan hjc] at h8;rw[Option.some.inj h8];exact hturn.cell hr hb (xao hjc) (e5 j hjc hjv)
 ·rw[g2] at hri;cases hri
  have hfl:(xs.flatten.map AV.d).length=xs.length*k:=by rw[xac,zeF hkx]
  refine⟨b1,us,et,h1,h4,by rw[hfl];exact Nat.le_trans (xav _ h6) h5,h3,fun j hj hjv=>?_⟩;rw[hfl] at hj;obtain⟨d1,d2,d3⟩:=zpf hj;have h8:=zie hkx d1 d2;rw[d3,xan (by rw[hfl];exact hj)] at h8;rw[Option.some.inj h8];have h9:=h7 _ d1 (j % k) (by rw[hkx _ (xao d1)];exact d2);rw[d3,zll hjv] at h9;exact .d h9
end
mutual
theorem Val.ok_sz:∀v:Val,v.size<=1000000000000->v.ok
 | .mk a n ks,h=>by
  have h1:1+Vals.size ks<=1000000000000:=h;exact⟨by have:=xbi ks;omega,xbj ks od⟩
theorem xbj:∀l:List Val,Vals.size l<=1000000000000->Vals.ok l
 | [],_=>trivial
 |v::r,h=>by
  have h1:v.size+Vals.size r<=1000000000000:=h;exact⟨Val.ok_sz v od,xbj r od⟩
theorem xbi:∀l:List Val,l.length<=Vals.size l
 | []=>Nat.zero_le _
 |v::r=>by
  have h1:=xbi r;have h2:=Val.size_eq v;show r.length+1<=v.size+Vals.size r
  omega
end
theorem Val.cs_app (a b:List Val):Val.cs (a++b)=Val.cs a++Val.cs b:=by rw[xbh,xbh,xbh,xag]
theorem cut0 {l:List (List D)}{x:List D}{r:List (List D)}{k:Nat} (h:l=x::r) (hx:x.length=k):cutC (l.flatten.map AV.d) 0 k=some (x.map .d):=by
 subst h;rw[List.flatten_cons,xag];exact zfz (by simpa using hx)
inductive Ex where
 |mk (op n ctor:Int) (kids:List Ex)
 deriving Inhabited
mutual
def Ex.c:Ex->List D
 | .mk op n ctor kids=>[.i op,.i n,.i ctor,.sl (Ex.cs kids)]
def Ex.cs:List Ex->List (List D)
 | []=>[]
 |v::r=>v.c::Ex.cs r
end
abbrev zbj (l:List Ex):D:= .sl (Ex.cs l)
theorem xaI:∀l:List Ex,Ex.cs l=l.map Ex.c
 | []=>rfl
 |v::r=>by simp[Ex.cs,xaI r]
theorem xaJ (l:List Ex):(Ex.cs l).length=l.length:=by simp[xaI]
def Ex.op:Ex->Int | .mk a0 _ _ _=>a0
def Ex.n:Ex->Int | .mk _ a1 _ _=>a1
def Ex.ctor:Ex->Int | .mk _ _ a2 _=>a2
def Ex.kids:Ex->List Ex | .mk _ _ _ k=>k
abbrev Ex.cc (v:Ex):List D:=[.i v.op,.i v.n,.i v.ctor,.sl (Ex.cs v.kids)]
theorem xaG (v:Ex):v.c=v.cc:=by cases v;rfl
theorem Ex.eta (v:Ex):Ex.mk v.op v.n v.ctor v.kids=v:=by cases v;rfl
theorem Ex.cs_at' {pre:List Ex}{x:Ex}{rest xs:List Ex} (h:pre++x::rest=xs):(Ex.cs xs)[pre.length]?=some x.cc:=by rw[xaI,<-xaG];exact zaA h
mutual
def exEq:Ex->Ex->Bool
 | .mk a0 a1 a2 ks,.mk b0 b1 b2 ls=>decide (a0=b0)&&(decide (a1=b1)&&(decide (a2=b2)&&zqq ks ls))
def zqq:List Ex->List Ex->Bool
 | [],[]=>true
 |x::r,y::s=>exEq x y&&zqq r s
 |_,_=>false
end
mutual
def Ex.ok:Ex->Prop
 | .mk _ _ _ ks=>ks.length<=1000000000000/\Exs.ok ks
def Exs.ok:List Ex->Prop
 | []=>True
 |v::r=>v.ok/\Exs.ok r
end
theorem xaP:∀ {l:List Ex},Exs.ok l->∀v,v∈l->v.ok
 |x::r,h,v,hv=>by
  simp only[Exs.ok] at h;rcases List.mem_cons.1 hv with rfl|hv
  ·exact h.1
  ·exact xaP h.2 v hv
mutual
def Ex.size:Ex->Nat
 | .mk _ _ _ ks=>1+Exs.size ks
def Exs.size:List Ex->Nat
 | []=>0
 |v::r=>v.size+Exs.size r
end
theorem xaR:∀ {l:List Ex}{v:Ex},v∈l->v.size<=Exs.size l
 |x::r,v,hv=>by
  simp only[Exs.size];rcases List.mem_cons.1 hv with rfl|hv
  ·omega
  ·have:=xaR hv;omega
theorem zeE {l:List Ex}{i:Nat} (h:i<l.length):(Ex.cs l)[i]?=some (nth l i).cc:=by
 rw[xaI,<-xaG];exact zah h
theorem xaL (v:Ex):v.ok↔v.kids.length<=1000000000000/\Exs.ok v.kids:=by cases v;rfl
theorem xaM (v:Ex):v.size=1+Exs.size v.kids:=by cases v;rfl
mutual
theorem zuI:∀v:Ex,exEq v v=true
 | .mk _ _ _ ks=>by simp[exEq,zng ks]
theorem zng:∀l:List Ex,zqq l l=true
 | []=>rfl
 |v::r=>by simp[zqq,zuI v,zng r]
end
theorem xaH (l:List Ex):Ex.cs l=l.map Ex.cc:=by
 rw[xaI];exact List.map_congr_left (fun v _=>xaG v)
mutual
def mEx:Ex->Nat
 | .mk _ _ _ ks=>mExs ks
def mExs:List Ex->Nat
 | []=>0
 |v::r=>1+mEx v+mExs r
end
structure Gd where
 op:Int
 var:Int
 n:Int
 deriving Inhabited
structure Cl where
 pat:Pat
 g:Gd
 deriving Inhabited
structure Ft where
 arg:Ty
 res:Ty
 deriving Inhabited
structure Fu where
 ty:Ft
 cls:List Cl
 bodies:List Ex
 deriving Inhabited
abbrev Cl.c (x:Cl):List D:=[.i x.pat.op,.i x.pat.ctor,.i x.pat.n,.i x.pat.m,.i x.pat.var,.sl (Pat.cs x.pat.kids),.i x.g.op,.i x.g.var,.i x.g.n]
abbrev zcg (l:List Cl):D:= .sl (l.map Cl.c)
abbrev Ft.c (x:Ft):List D:=[.i x.arg.data,.i x.arg.index,.i x.res.data,.i x.res.index]
abbrev zbG (l:List Ft):D:= .sl (l.map Ft.c)
abbrev Fu.c (x:Fu):List D:=[.i x.ty.arg.data,.i x.ty.arg.index,.i x.ty.res.data,.i x.ty.res.index,zcg x.cls,zbj x.bodies]
abbrev zbB (l:List Fu):D:= .sl (l.map Fu.c)
def ClsOk (l:List Cl):Prop:=l.length<=1000000000000/\∀c∈l,c.pat.ok
def FuOk (f:Fu):Prop:=ClsOk f.cls/\f.bodies.length<=1000000000000/\Exs.ok f.bodies
def FusOk (l:List Fu):Prop:=l.length<=1000000000000/\∀f∈l,FuOk f
def zid (a b:Ty):Bool:=decide (a.data=b.data)&&(decide (b.index=0)||decide (a.index=b.index))
def zaK (w:List Data) (funs:List Ft) (t:Ty) (e:Ex):List Ty:=
 if e.op=3 then (if e.n=0/\e.ctor∈zas w t then zae w t e.ctor else [])
 else if e.op=4 then [t,t]
 else if e.op=5 then (if 0<=e.n/\e.n<(funs.length:Int)/\e.ctor=0 then [(nth funs e.n.toNat).arg] else [])
 else []
def zgC (vars:List Vt) (n:Int):Ty:=if 0<=zba vars n then (nth vars (zba vars n).toNat).ty else ⟨0,0⟩
def okE (w:List Data) (funs:List Ft) (vars:List Vt) (t:Ty) (e:Ex):Bool:=
 if e.op=1 then decide (t.data = -1/\0<=e.n/\e.n<=9/\e.ctor=0)
 else if e.op=2 then decide (0<=zba vars e.n)&&(zid (zgC vars e.n) t&&decide (e.ctor=0))
 else if e.op=3 then decide (e.n=0/\e.ctor∈zas w t)
 else if e.op=4 then decide (t.data = -1/\e.n=0/\e.ctor=0)
 else if e.op=5 then decide (0<=e.n/\e.n<(funs.length:Int)/\e.ctor=0)&&zid (nth funs e.n.toNat).res t
 else false
section
variable {w:List Data}{funs:List Ft}{vars:List Vt}{t:Ty}{e:Ex}
theorem ty_0 (h:e.op≠3/\e.op≠4/\e.op≠5):zaK w funs t e=[]:=by unfold zaK;rw[if_neg h.1,if_neg h.2.1,if_neg h.2.2]
theorem ty_3 (h:e.op=3) (h2:e.n=0) (h3:e.ctor∈zas w t):zaK w funs t e=zae w t e.ctor:=by unfold zaK;rw[if_pos h,if_pos ⟨h2,h3⟩]
theorem zwO (h:e.op=3) (h2:e.n≠0):zaK w funs t e=[]:=by unfold zaK;rw[if_pos h,if_neg (fun hh=>h2 hh.1)]
theorem zwN (h:e.op=3) (h2:e.ctor∉zas w t):zaK w funs t e=[]:=by unfold zaK;rw[if_pos h,if_neg (fun hh=>h2 hh.2)]
theorem ty_4 (h:e.op=4):zaK w funs t e=[t,t]:=by unfold zaK;rw[if_neg od,if_pos h]
theorem ty_5 (h:e.op=5) (h2:0<=e.n/\e.n<(funs.length:Int)/\e.ctor=0):zaK w funs t e=[(nth funs e.n.toNat).arg]:=by unfold zaK;rw[if_neg od,if_neg od,if_pos h,if_pos h2]
theorem zly (h:e.op=5) (h2:¬(0<=e.n/\e.n<(funs.length:Int)/\e.ctor=0)):zaK w funs t e=[]:=by unfold zaK;rw[if_neg od,if_neg od,if_pos h,if_neg h2]
theorem ok_1 (h:e.op=1):okE w funs vars t e=decide (t.data = -1/\0<=e.n/\e.n<=9/\e.ctor=0):=by unfold okE;rw[if_pos h]
theorem ok_2 (h:e.op=2):okE w funs vars t e=(decide (0<=zba vars e.n)&&(zid (zgC vars e.n) t&&decide (e.ctor=0))):=by unfold okE;rw[if_neg od,if_pos h]
theorem ok_3 (h:e.op=3):okE w funs vars t e=decide (e.n=0/\e.ctor∈zas w t):=by unfold okE;rw[if_neg od,if_neg od,if_pos h]
theorem ok_4 (h:e.op=4):okE w funs vars t e=decide (t.data = -1/\e.n=0/\e.ctor=0):=by unfold okE;rw[if_neg od,if_neg od,if_neg od,if_pos h]
theorem ok_5 (h:e.op=5):okE w funs vars t e=(decide (0<=e.n/\e.n<(funs.length:Int)/\e.ctor=0)&&zid (nth funs e.n.toNat).res t):=by unfold okE;rw[if_neg od,if_neg od,if_neg od,if_neg od,if_pos h]
theorem ok_0 (h:e.op≠1/\e.op≠2/\e.op≠3/\e.op≠4/\e.op≠5):okE w funs vars t e=false:=by unfold okE;rw[if_neg h.1,if_neg h.2.1,if_neg h.2.2.1,if_neg h.2.2.2.1,if_neg h.2.2.2.2]
end
def zfp (w:List Data) (funs:List Ft) (vars:List Vt) (t:Ty) (e:Ex):Bool:=okE w funs vars t e&&decide ((zaK w funs t e).length=e.kids.length)
def zb0 (w:List Data) (funs:List Ft) (vars:List Vt):Nat->Ty->Ex->Bool
 |0,_,_=>false
 |n+1,t,e=>zfp w funs vars t e&&all2 (zb0 w funs vars n) (zaK w funs t e) e.kids
def zde (g:Ty->Ex->Int->Bool×Int):List Ty->List Ex->Int->Bool×Int
 |a::r,b::s,c=>if (g a b c).1 then zde g r s (g a b c).2 else (false,(g a b c).2)
 |_,_,c=>(true,c)
def zbx (w:List Data) (funs:List Ft) (vars:List Vt):Nat->Ty->Ex->Int->Bool×Int
 |0,_,_,c=>(false,c+1)
 |n+1,t,e,c=>if 60<c+1 then (false,c+1)
   else if zfp w funs vars t e=true then zde (zbx w funs vars n) (zaK w funs t e) e.kids (c+1) else (false,c+1)
theorem zrZ {w:List Data}{funs:List Ft}{vars:List Vt}{n:Nat} (ih:∀t e c,(zbx w funs vars n t e c).1=(zb0 w funs vars n t e&&decide (c+(e.size:Int)<=60))/\((zbx w funs vars n t e c).1=true->(zbx w funs vars n t e c).2=c+e.size)):
  ∀(a:List Ty) (b:List Ex) (c:Int),a.length=b.length->c<=60->(zde (zbx w funs vars n) a b c).1=(all2 (zb0 w funs vars n) a b&&decide (c+(Exs.size b:Int)<=60))/\((zde (zbx w funs vars n) a b c).1=true->(zde (zbx w funs vars n) a b c).2=c+Exs.size b)
 | [],[],c,_,hc=>by simp[zde,all2,Exs.size,hc]
 |x::r,y::s,c,hl,hc=>by
  obtain⟨h1,h2⟩:=ih x y c;simp only[zde,all2,Exs.size];cases hh:(zbx w funs vars n x y c).1 with
  |true=>
   have h3:=h2 hh;rw[hh] at h1;have h4:=h1.symm;simp only[xad,xah] at h4;obtain⟨h5,h6⟩:=zrZ ih r s (zbx w funs vars n x y c).2 (by simpa using hl) od;simp only[if_true];rw[h5];refine⟨?_,fun hx=>?_⟩
   ·rw[h4.1,h3,Bool.true_and];congr 1
    exact decide_eq_decide.2 (by push_cast;omega)
   ·rw[<-h5] at hx;rw[h6 hx,h3];push_cast;omega
  |false=>
   rw[hh] at h1;simp only[Bool.false_eq_true,if_false,false_implies,and_true];have h4:=h1.symm;simp only[Bool.and_eq_false_imp,decide_eq_false_iff_not] at h4;symm
   cases hf:zb0 w funs vars n x y with
   |false=>simp
   |true=>
    have:=h4 hf;have h7:¬(c+((y.size+Exs.size s:Nat):Int)<=60):=by push_cast;omega
    simp only[Bool.and_eq_false_imp];intro _;exact xaw h7
 | [],_::_,_,hl,_=>by simp at hl
 |_::_,[],_,hl,_=>by simp at hl
theorem zmu (w:List Data) (funs:List Ft) (vars:List Vt):∀(n:Nat) (t:Ty) (e:Ex) (c:Int),(zbx w funs vars n t e c).1=(zb0 w funs vars n t e&&decide (c+(e.size:Int)<=60))/\((zbx w funs vars n t e c).1=true->(zbx w funs vars n t e c).2=c+e.size)
 |0,t,e,c=>by simp[zbx,zb0]
 |n+1,t,e,c=>by
  have hsz:=xaM e;unfold zbx zb0;by_cases h1:60<c+1
  ·rw[if_pos h1];simp only[Bool.false_eq_true,false_implies,and_true];symm
   simp only[Bool.and_eq_false_imp,decide_eq_false_iff_not];intro _;omega
  ·rw[if_neg h1];by_cases h3:zfp w funs vars t e=true
   ·rw[if_pos h3,h3,Bool.true_and];have h4:(zaK w funs t e).length=e.kids.length:=by
     unfold zfp at h3;rw[xad] at h3;exact xas h3.2
    obtain⟨h5,h6⟩:=zrZ (fun t e c=>zmu w funs vars n t e c) (zaK w funs t e) e.kids (c+1) h4 od;refine⟨?_,fun hx=>?_⟩
    ·rw[h5];congr 1
     exact decide_eq_decide.2 od
    ·rw[h6 hx];omega
   ·rw[if_neg h3];simp[h3]
def isE (w:List Data) (funs:List Ft) (vars:List Vt) (t:Ty) (e:Ex):Bool:=zb0 w funs vars 10 t e&&decide ((e.size:Int)<=60)
theorem zyZ (w:List Data) (funs:List Ft) (vars:List Vt) (t:Ty) (e:Ex):(zbx w funs vars 10 t e 0).1=isE w funs vars t e:=by
 rw[(zmu w funs vars 10 t e 0).1,Int.zero_add];rfl
mutual
def cntE (m:Int):Ex->Int
 | .mk _ _ _ ks=>zdC m 1 ks
def zdC (m n:Int):List Ex->Int
 | []=>n
 |k::r=>if n<=m then zdC m (n+cntE (m-n) k) r else n
end
theorem zw2 (m:Int) (v:Ex):cntE m v=zdC m 1 v.kids:=by cases v;rfl
theorem zm7 {m n:Int}{l:List Ex} (h:¬n<=m):zdC m n l=n:=by cases l<;>simp[zdC,h]
mutual
theorem zli:∀(v:Ex) (m:Int),1<=cntE m v/\cntE m v<=v.size
 | .mk _ _ _ ks,m=>by
  have:=zl6 ks m 1 od;simp only[cntE,Ex.size];push_cast;omega
theorem zl6:∀(l:List Ex) (m n:Int),1<=n->1<=zdC m n l/\zdC m n l<=n+Exs.size l
 | [],m,n,h=>by simp[zdC,Exs.size];omega
 |k::r,m,n,h=>by
  have h1:=zli k (m-n);have h2:=zl6 r m (n+cntE (m-n) k) od;simp only[zdC,Exs.size];split
  ·push_cast;omega
  ·push_cast;omega
end
mutual
theorem zqZ:∀(v:Ex) (m:Int),(cntE m v<=m↔(v.size:Int)<=m)/\(cntE m v<=m->cntE m v=v.size)
 | .mk _ _ _ ks,m=>by
  have:=zpb ks m 1;simp only[cntE,Ex.size];push_cast;exact this
theorem zpb:∀(l:List Ex) (m n:Int),(zdC m n l<=m↔n+(Exs.size l:Int)<=m)/\(zdC m n l<=m->zdC m n l=n+Exs.size l)
 | [],m,n=>by simp[zdC,Exs.size]
 |k::r,m,n=>by
  have h1:=zqZ k (m-n);have h2:=zpb r m (n+cntE (m-n) k);have h3:=zl6 r m (n+cntE (m-n) k);have h4:=zli k (m-n);simp only[zdC,Exs.size];push_cast
  by_cases hn:n<=m
  ·rw[if_pos hn];by_cases h5:cntE (m-n) k<=m-n
   ·have h6:=h1.2 h5;rw[h6] at h2 ⊢;constructor
    ·rw[h2.1];constructor<;>intro h<;>omega
    ·intro h;rw[h2.2 h];omega
   ·have h7:¬(k.size:Int)<=m-n:=fun h=>h5 (h1.1.2 h);have h8:¬n+cntE (m-n) k<=m:=by omega
    rw[zm7 h8];constructor
    ·constructor<;>intro h<;>omega
    ·intro h;omega
  ·rw[if_neg hn];constructor
   ·constructor<;>intro h<;>omega
   ·intro h;omega
end
theorem zpg {l:List Ex}{i:Nat} (h:i<l.length):(nth l i).size<=Exs.size l:=xaR (zaf h)
theorem znf {l:List Ex}{i:Nat} (h:i<l.length):Exs.size (l.drop i)=(nth l i).size+Exs.size (l.drop (i+1)):=by
 rw[zaF h];rfl
def TyOk (n:Nat) (t:Ty):Prop:=TyIn n t/\(t.data = -1->t.index=0)
def zcc (w:List Data) (l:List Ft):Bool:=decide ((l.length:Int)<=4)&& !l.any fun f=> !(zbm w.length f.arg&&zbm w.length f.res)
def gdOk (g:Gd) (vars:List Vt):Bool:=if g.op=0 then decide (g.var=0/\g.n=0) else decide (1<=g.op/\g.op<=2/\0<=g.n/\g.n<=9)&&decide ((⟨g.var,⟨-1,0⟩⟩:Vt)∈vars)
def zbM (w:List Data) (t:Ty) (p:Pat):List Vt:=zdV (zaU w 10 t p 0).1
def clOk (w:List Data) (t:Ty) (c:Cl):Bool:=isP w t c.pat&&gdOk c.g (zbM w t c.pat)
def zaW (w:List Data) (t:Ty) (l:List Cl):Bool:=zbn w t&&(decide ((l.length:Int)<=8)&& !l.any fun c=> !clOk w t c)
def zjm (w:List Data) (funs:List Ft) (f:Fu):Bool:=all2 (fun c e=>isE w funs (zbM w f.ty.arg c.pat) f.ty.res e) f.cls f.bodies
def zcl (w:List Data) (funs:List Ft) (f:Fu):Bool:=zaW w f.ty.arg f.cls&&zjm w funs f
def zb9 (w:List Data) (l:List Fu):Bool:=zaI w&&(zcc w (l.map Fu.ty)&&l.all (zcl w (l.map Fu.ty)))
theorem zpW {w:List Data} (hw:WT w){funs:List Ft} (hf:∀f∈funs,TyIn w.length f.arg){t:Ty} (ht:TyIn w.length t){e:Ex}:∀u∈zaK w funs t e,TyIn w.length u:=by
 intro u hu;unfold zaK at hu;split at hu
 ·split at hu
  ·rename_i h;obtain⟨d,h1,h2,h3⟩:=zbE (a:=t.data) (k:=t.index) ht h.2;have:t=⟨(d:Int),t.index⟩:=by rw[<-h1]
   rw[this] at hu;exact zkh hw h2 h3 hu
  ·simp at hu
 ·split at hu
  ·simp only[List.mem_cons,xau,or_false,or_self] at hu;rw[hu];exact ht
  ·split at hu
   ·split at hu
    ·rename_i h;simp only[List.mem_cons,xau,or_false] at hu;rw[hu];exact hf _ (zaf od)
    ·simp at hu
   ·simp at hu
theorem zwV {w:List Data} (hw:WT w){t:Ty}{c:Int} (ht:TyIn w.length t) (hc:c∈zas w t):(zae w t c).length<=1000000000000:=by
 obtain⟨d,h1,h2,j,h3,h4⟩:=zbE (a:=t.data) (k:=t.index) ht hc;have:=(hw.small.ctor _ (zaf h2) _ (zaf h4)).2;unfold zae;rw[h1,h3];simpa using this
theorem zon {w:List Data} (hw:WT w){funs:List Ft}{t:Ty} (ht:TyIn w.length t){e:Ex}:(zaK w funs t e).length<=1000000000000:=by
 unfold zaK;split
 ·split
  ·rename_i h;exact zwV hw ht h.2
  ·simp
 ·split
  ·simp
  ·split
   ·split<;>simp
   ·simp
theorem zka {x:Vt}{n:Int}:FnD Tryz.prog 241 [.agg [.d (.i x.var),.d (.i x.ty.data),.d (.i x.ty.index)],.ref 3003 0] [(3003,some (.box [.d (.i n)]))] (.d (.bool (decide (x.var=n)))) []:=by
 refine bd Tryz.f241 8 [] [] fun _ _ _ _ hk=>?_;refine bx 3001 ?_;refine ev (rn [] (r1 Z) (.eqd ?_) ⟨Z,Z⟩ (SubH.get ⟨Z,O⟩) (fun _ h=>h));rotate_left;all_goals (rfl)
theorem zg1 {wdd fd:D}{vars:List Vt}{n:Int} (hv:vars.length<=1000000000000):
  FnD Tryz.prog 185 [.agg [.d wdd,.d fd,.d (zbK vars)],.d (.i n)] [] (.tup [.agg [.d (.i (zgC vars n).data),.d (.i (zgC vars n).index)],.d (.bool (decide (0<=zba vars n)))]) []:=by
 have hlt:=fun h=>zhH (l:=vars) (n:=n) h;refine bd Tryz.f185 20 [] [] fun _ _ _ _ hk=>?_;refine bx 3002 ?_;refine bx 3003 ?_;refine ab 3004 tz29 ?_;refine ev (xby (xs:=[_]) Z .none Z Z (wd zuk (zfk (p:=fun v=>decide (v.var=n)) hv zym (fun t _=>zka) ⟨Z,O⟩ Z Z) Z Z ⟨Z,O⟩ ?_));refine ev ?_;apply sq<;>intro h1 h1p h1s<;>(try simp only[Q] at h1p);refine bu [] [] st29 ?_;refine so ty29 ?_;refine ev (rn0 (rc ty29) (.tup (.cons (.agg (qee ?_ ?_)) (qe ?_))));rotate_left 3;refine ixq (i:=(zba vars n).toNat) sl66 Z Z (by have:=hlt (by show 0<=idxF _ _ _;omega);exact this.2.symm) (zah (i:=(zba vars n).toNat) (by have:=hlt (by show 0<=idxF _ _ _;omega);omega)) Z ?_;refine ev (so ty29 ?_);refine ev (rn0 (rc ty29) (.tup (.cons (.agg (qee ?_ ?_)) (qe ?_))));rotate_left 3;all_goals (first|(unfold zgC;rw[if_neg (by show ¬0<=idxF _ _ _;omega)];done)|(unfold zgC;rw[if_pos (by show 0<=idxF _ _ _;omega)];done)|(refine xam D.bool (xaw ?_).symm;show ¬0<=idxF _ _ _;omega)|(refine xam D.bool (xax ?_).symm;show 0<=idxF _ _ _;omega))
theorem zfm {a b:Ty}:FnD Tryz.prog 186 [.agg [.d (.i a.data),.d (.i a.index)],.agg [.d (.i b.data),.d (.i b.index)]] [] (.d (.bool (zid a b))) []:=by
 refine bd Tryz.f186 22 [] [] fun _ _ _ _ hk=>?_;refine bx 3002 ?_;refine bx 3003 ?_;refine ev ?_;apply sq<;>intro h1 h1p h1s<;>(try simp only[Q] at h1p);apply sq<;>intro h2 h2p h2s<;>(try simp only[Q] at h2p);refine rq ?_;rotate_left;refine rq ?_;rotate_left;refine rq ?_;rotate_left;all_goals (refine xam D.bool ?_;unfold zid;simp_all)
theorem zri {w:List Data}{funs:List Ft}{vars:List Vt} (hw:WT w) (hfl:funs.length<=1000000000000) (hvl:vars.length<=1000000000000){t:Ty} (ht:TyIn w.length t){e:Ex}:
  FnD Tryz.prog 131 [.agg [.d (zaj w),.d (zbG funs),.d (zbK vars)],.agg [.d (.i t.data),.d (.i t.index)],.agg [.d (.i e.op),.d (.i e.n),.d (.i e.ctor),.d (zbj e.kids)]] [] (.tup [.d (zbZ (zaK w funs t e)),.d (.bool (okE w funs vars t e))]) []:=by
 have ht':TyIn w.length ⟨t.data,t.index⟩:=ht;have hcl:=zf6 hw ht';have htd:t.data = -1->e.ctor∉zas w t:=fun h=>by unfold zas;rw[if_pos h];simp
 by_cases hmem:e.ctor∈zas w t
 ·have hmem':e.ctor∈zas w ⟨t.data,t.index⟩:=hmem;have hcon:=zcO (v:=e.ctor) hcl;rw[xax hmem'] at hcon;refine bd Tryz.f131 118 [] [] fun _ _ _ _ hk=>?_;refine bx 3003 ?_;refine bx 3004 ?_;refine bx 3005 ?_;refine ev ?_;apply sq<;>intro h1 h1p h1s<;>(try simp only[Q,zan] at h1p);apply sq<;>intro h2 h2p h2s<;>(try simp only[Q,zan] at h2p);refine Walk.call (cr:=[]) zeu zbk Z (.some Z Z h2) Z Z (LeL.refl _) O Z Z Z (evd [] [(17,true)] ?_ ⟨⟨_,Z,h2⟩,O⟩);apply sq<;>intro h3 h3p h3s<;>(try simp only[Q,zan] at h3p);refine dr (rn0 (r2 Z Z) (.tup (qne ?_ ?_)));rotate_left 2;refine dr (rn0 (r2 Z Z) (.tup (qne ?_ ?_)));rotate_left 2;refine sqF ?_;refine dr (rn0 (r2 Z Z) (.tup (qne ?_ ?_)));rotate_left 2;apply sq<;>intro h4 h4p h4s<;>(try simp only[Q,zan] at h4p);refine wc zuc (zg1 hvl) Z Z ?_;refine ev (ab 3008 tz29 ?_);refine so ty29 ?_;refine ev ?_;apply sq<;>intro h5 h5p h5s<;>(try simp only[Q,zan] at h5p);refine Walk.call (cr:=[]) zmV (zfm (a:=zgC vars e.n) (b:=t)) Z (.some Z Z h5) Z Z (LeL.refl _) O Z Z Z (evd [] [(37,true)] ?_ ⟨⟨_,Z,h5⟩,O⟩);apply sq<;>intro h6 h6p h6s<;>(try simp only[Q,zan] at h6p);refine dr (rn0 (r2 Z Z) (.tup (qne ?_ ?_)));rotate_left 2;refine dr (rn0 (r2 Z Z) (.tup (qne ?_ ?_)));rotate_left 2;refine sqF ?_;refine dr (rn0 (r2 Z Z) (.tup (qne ?_ ?_)));rotate_left 2;apply sq<;>intro h7 h7p h7s<;>(try simp only[Q,zan] at h7p);apply sq<;>intro h8 h8p h8s<;>(try simp only[Q,zan] at h8p);refine dr (sqT ?_);refine rn0 (r2 Z Z) (.tup (qne ?_ ?_));rotate_left 2;refine Walk.call (cr:=[]) ziO (zdl hw ht') Z (.some Z Z h8) Z Z (LeL.refl _) O Z Z Z (evd [] [(52,false)] ?_ ⟨⟨_,Z,h8⟩,O⟩);refine Walk.call (cr:=[]) zmW hcon Z (.some Z Z h8) Z Z (LeL.refl _) O Z Z Z (evd [] [(52,false)] ?_ ⟨⟨_,Z,h8⟩,O⟩);refine dr ?_;apply sq<;>intro h10 h10p h10s<;>(try simp only[Q,zan] at h10p);refine rn0 (r2 Z Z) (.tup (qne ?_ ?_));rotate_left 2;refine wc ziP (zcU hw ht' hmem') Z Z ?_;refine ev (rn0 (r2 Z Z) (.tup (qee ?_ ?_)));rotate_left 2;apply sq<;>intro h11 h11p h11s<;>(try simp only[Q,zan] at h11p);refine si [0,1] [_,_] zaz tz29 ?_;refine evd [] [] ?_;apply sq<;>intro h12 h12p h12s<;>(try simp only[Q,zan] at h12p);apply sq<;>intro h13 h13p h13s<;>(try simp only[Q,zan] at h13p);refine dr (rn0 (r2 Z Z) (.tup (qee ?_ ?_)));rotate_left 2;refine dr (rn0 (r2 Z Z) (.tup (qee ?_ ?_)));rotate_left 2;refine sqF ?_;refine dr (rn0 (r2 Z Z) (.tup (qee ?_ ?_)));rotate_left 2;apply sq<;>intro h14 h14p h14s<;>(try simp only[Q,zan] at h14p);refine ar (wc zeu zbk Z Z ?_);refine ev ?_;apply sq<;>intro h15 h15p h15s<;>(try simp only[Q,zan] at h15p);refine sqT ?_;refine rn0 (r2 Z Z) (.tup (qne ?_ ?_));rotate_left 2;apply sq<;>intro h17 h17p h17s<;>(try simp only[Q,zan] at h17p);refine rn0 (r2 Z Z) (.tup (qne ?_ ?_));rotate_left 2;refine ixq (i:=e.n.toNat) sl63 Z Z od (zah (i:=e.n.toNat) od) Z ?_;refine evd [] [] (si [0] [_] zaz tz29 ?_);refine evd [] [] (ixq (i:=e.n.toNat) sl63 Z Z od (zah (i:=e.n.toNat) od) Z ?_);refine evd [] [] (wc zmV (zfm (a:=(nth funs e.n.toNat).res) (b:=t)) Z Z ?_);refine evd [] [] (dr (rn0 (r2 Z Z) (.tup (qee ?_ ?_))));rotate_left 2;refine rn0 (r2 Z Z) (.tup (qne ?_ ?_));rotate_left 2;all_goals (first|rfl|(rw[ty_0 od];all_goals rfl)|(rw[zwO od od];all_goals rfl)|(rw[ty_3 od od hmem];all_goals rfl)|(rw[ty_4 od];all_goals rfl)|(rw[zly od od];all_goals rfl)|(rw[ty_5 od od];all_goals rfl)|(refine xam D.bool ?_;rw[ok_1 od];simp_all;done)|(refine xam D.bool ?_;rw[ok_1 od];simp_all[zan];omega)|(rw[zly od (by intro hh;simp_all[zan];omega)];all_goals rfl)|(refine xam D.bool ?_;rw[ok_5 od,xaw (by intro hh;simp_all[zan];omega),Bool.false_and];done)|(refine xam D.bool ?_;rw[ok_2 od,xaw od,Bool.false_and];done)|(refine xam D.bool ?_;rw[ok_2 od];simp_all;done)|(refine xam D.bool ?_;rw[ok_3 od];simp_all;done)|(refine xam D.bool ?_;rw[ok_4 od];simp_all;done)|(refine xam D.bool ?_;rw[ok_5 od];first|(rw[xax od,Bool.true_and];done)|(rw[xaw od,Bool.false_and];done))|(refine xam D.bool ?_;rw[ok_0 od];done)|(exfalso;simp_all;done))
 ·have hmem':e.ctor∉zas w ⟨t.data,t.index⟩:=hmem;have hcon:=zcO (v:=e.ctor) hcl;rw[xaw hmem'] at hcon;refine bd Tryz.f131 118 [] [] fun _ _ _ _ hk=>?_;refine bx 3003 ?_;refine bx 3004 ?_;refine bx 3005 ?_;refine ev ?_;apply sq<;>intro h1 h1p h1s<;>(try simp only[Q,zan] at h1p);apply sq<;>intro h2 h2p h2s<;>(try simp only[Q,zan] at h2p);refine Walk.call (cr:=[]) zeu zbk Z (.some Z Z h2) Z Z (LeL.refl _) O Z Z Z (evd [] [(17,true)] ?_ ⟨⟨_,Z,h2⟩,O⟩);apply sq<;>intro h3 h3p h3s<;>(try simp only[Q,zan] at h3p);refine dr (rn0 (r2 Z Z) (.tup (qne ?_ ?_)));rotate_left 2;refine dr (rn0 (r2 Z Z) (.tup (qne ?_ ?_)));rotate_left 2;refine sqF ?_;refine dr (rn0 (r2 Z Z) (.tup (qne ?_ ?_)));rotate_left 2;apply sq<;>intro h4 h4p h4s<;>(try simp only[Q,zan] at h4p);refine wc zuc (zg1 hvl) Z Z ?_;refine ev (ab 3008 tz29 ?_);refine so ty29 ?_;refine ev ?_;apply sq<;>intro h5 h5p h5s<;>(try simp only[Q,zan] at h5p);refine Walk.call (cr:=[]) zmV (zfm (a:=zgC vars e.n) (b:=t)) Z (.some Z Z h5) Z Z (LeL.refl _) O Z Z Z (evd [] [(37,true)] ?_ ⟨⟨_,Z,h5⟩,O⟩);apply sq<;>intro h6 h6p h6s<;>(try simp only[Q,zan] at h6p);refine dr (rn0 (r2 Z Z) (.tup (qne ?_ ?_)));rotate_left 2;refine dr (rn0 (r2 Z Z) (.tup (qne ?_ ?_)));rotate_left 2;refine sqF ?_;refine dr (rn0 (r2 Z Z) (.tup (qne ?_ ?_)));rotate_left 2;apply sq<;>intro h7 h7p h7s<;>(try simp only[Q,zan] at h7p);apply sq<;>intro h8 h8p h8s<;>(try simp only[Q,zan] at h8p);refine dr (sqT ?_);refine rn0 (r2 Z Z) (.tup (qne ?_ ?_));rotate_left 2;refine Walk.call (cr:=[]) ziO (zdl hw ht') Z (.some Z Z h8) Z Z (LeL.refl _) O Z Z Z (evd [] [(52,false)] ?_ ⟨⟨_,Z,h8⟩,O⟩);refine Walk.call (cr:=[]) zmW hcon Z (.some Z Z h8) Z Z (LeL.refl _) O Z Z Z (evd [] [(52,false)] ?_ ⟨⟨_,Z,h8⟩,O⟩);refine dr ?_;apply sq<;>intro h10 h10p h10s<;>(try simp only[Q,zan] at h10p);refine rn0 (r2 Z Z) (.tup (qne ?_ ?_));rotate_left 2;exfalso;simp_all;apply sq<;>intro h11 h11p h11s<;>(try simp only[Q,zan] at h11p);refine si [0,1] [_,_] zaz tz29 ?_;refine evd [] [] ?_;apply sq<;>intro h12 h12p h12s<;>(try simp only[Q,zan] at h12p);apply sq<;>intro h13 h13p h13s<;>(try simp only[Q,zan] at h13p);refine dr (rn0 (r2 Z Z) (.tup (qee ?_ ?_)));rotate_left 2;refine dr (rn0 (r2 Z Z) (.tup (qee ?_ ?_)));rotate_left 2;refine sqF ?_;refine dr (rn0 (r2 Z Z) (.tup (qee ?_ ?_)));rotate_left 2;apply sq<;>intro h14 h14p h14s<;>(try simp only[Q,zan] at h14p);refine ar (wc zeu zbk Z Z ?_);refine ev ?_;apply sq<;>intro h15 h15p h15s<;>(try simp only[Q,zan] at h15p);refine sqT ?_;refine rn0 (r2 Z Z) (.tup (qne ?_ ?_));rotate_left 2;apply sq<;>intro h17 h17p h17s<;>(try simp only[Q,zan] at h17p);refine rn0 (r2 Z Z) (.tup (qne ?_ ?_));rotate_left 2;refine ixq (i:=e.n.toNat) sl63 Z Z od (zah (i:=e.n.toNat) od) Z ?_;refine evd [] [] (si [0] [_] zaz tz29 ?_);refine evd [] [] (ixq (i:=e.n.toNat) sl63 Z Z od (zah (i:=e.n.toNat) od) Z ?_);refine evd [] [] (wc zmV (zfm (a:=(nth funs e.n.toNat).res) (b:=t)) Z Z ?_);refine evd [] [] (dr (rn0 (r2 Z Z) (.tup (qee ?_ ?_))));rotate_left 2;refine rn0 (r2 Z Z) (.tup (qne ?_ ?_));rotate_left 2;all_goals (first|rfl|(rw[ty_0 od];all_goals rfl)|(rw[zwO od od];all_goals rfl)|(rw[zwN od hmem];all_goals rfl)|(rw[ty_4 od];all_goals rfl)|(rw[zly od od];all_goals rfl)|(rw[ty_5 od od];all_goals rfl)|(refine xam D.bool ?_;rw[ok_1 od];simp_all;done)|(refine xam D.bool ?_;rw[ok_1 od];simp_all[zan];omega)|(rw[zly od (by intro hh;simp_all[zan];omega)];all_goals rfl)|(refine xam D.bool ?_;rw[ok_5 od,xaw (by intro hh;simp_all[zan];omega),Bool.false_and];done)|(refine xam D.bool ?_;rw[ok_2 od,xaw od,Bool.false_and];done)|(refine xam D.bool ?_;rw[ok_2 od];simp_all;done)|(refine xam D.bool ?_;rw[ok_3 od];simp_all;done)|(refine xam D.bool ?_;rw[ok_4 od];simp_all;done)|(refine xam D.bool ?_;rw[ok_5 od];first|(rw[xax od,Bool.true_and];done)|(rw[xaw od,Bool.false_and];done))|(refine xam D.bool ?_;rw[ok_0 od];done)|(exfalso;simp_all;done))
theorem znV {g:Ty->Ex->Int->Bool×Int}{a:List Ty}{b:List Ex}{i:Nat}{c:Int} (ha:i<a.length) (hl:a.length=b.length) (h:(g (nth a i) (nth b i) c).1=false):
  zde g (a.drop i) (b.drop i) c=(false,(g (nth a i) (nth b i) c).2):=by
 rw[zaF ha,zaF (l:=b) od,zde,if_neg (by rw[h];simp)]
theorem ztH {g:Ty->Ex->Int->Bool×Int}{a:List Ty}{b:List Ex}{i:Nat}{c:Int} (ha:i<a.length) (hl:a.length=b.length) (h:(g (nth a i) (nth b i) c).1=true):
  zde g (a.drop i) (b.drop i) c=zde g (a.drop (i+1)) (b.drop (i+1)) (g (nth a i) (nth b i) c).2:=by
 rw[zaF ha,zaF (l:=b) od,zde,if_pos h]
theorem zpL {g:Ty->Ex->Int->Bool×Int}{a:List Ty}{b:List Ex}{i:Nat}{c:Int} (ha:a.length<=i):zde g (a.drop i) (b.drop i) c=(true,c):=by
 rw[List.drop_eq_nil_of_le ha,zde];simp
theorem zv7 (w:List Data) (funs:List Ft) (vars:List Vt) (n:Nat) (t:Ty) (v:Ex) (c:Int) (h:(zbx w funs vars n t v c).1=true):c<=(zbx w funs vars n t v c).2/\(zbx w funs vars n t v c).2<=60:=by
 have h1:=zmu w funs vars n t v c;have h2:=h1.2 h;rw[h1.1] at h;simp only[xad,xah] at h;omega
theorem zky {w:List Data}{funs:List Ft}{vars:List Vt} (hw:WT w) (hfl:funs.length<=1000000000000) (hvl:vars.length<=1000000000000) (hfa:∀f∈funs,TyIn w.length f.arg):∀(n:Nat){t:Ty}{d c:Int}{e:Ex},d+n=11->n<=10->TyIn w.length t->e.ok->0<=c->c<=1000000000000->
  FnD Tryz.prog 74 [.agg [.d (zaj w),.d (zbG funs),.d (zbK vars)],.agg [.d (.i t.data),.d (.i t.index)],.agg [.d (.i e.op),.d (.i e.n),.d (.i e.ctor),.d (zbj e.kids)],.d (.i d),.ref 950 0] [(950,some (.box [.d (.i c)]))]
   (.d (.bool (zbx w funs vars n t e c).1)) [(950,some (.box [.d (.i (zbx w funs vars n t e c).2)]))]
 |0,t,d,c,e,hd,_,_,_,c0,c1=>by
  refine bd Tryz.f74 65 [] [] fun _ _ _ _ hk=>?_;refine bx 3005 ?_;refine bx 3006 ?_;refine bx 3007 ?_;refine ev (ar (so ty3 ?_));apply tv;apply sq<;>intro h1 h1p h1s;refine sqT ?_;refine rn [(950,some (.box [.d (.i (zbx w funs vars 0 t e c).2)]))] (r1 Z) (.eqd ?_) ⟨Z,Z⟩ (SubO.get ⟨.inr ?_,⟨.inl Z,O⟩⟩) (zaQ Z);rotate_left 2;apply sq<;>intro h3 h3p h3s;refine rn [(950,some (.box [.d (.i (zbx w funs vars 0 t e c).2)]))] (r1 Z) (.eqd ?_) ⟨Z,Z⟩ (SubO.get ⟨.inr ?_,⟨.inl Z,O⟩⟩) (zaQ Z);rotate_left 2;exfalso;simp at *;omega;all_goals (first|((rfl);done)|(rfl))
 |n+1,t,d,c,e,hd,hn,ht,hok,c0,c1=>by
  rw[xaL] at hok;by_cases h60:60<c+1
  ·skip
   refine bd Tryz.f74 65 [] [] fun _ _ _ _ hk=>?_;refine bx 3005 ?_;refine bx 3006 ?_;refine bx 3007 ?_;refine ev (ar (so ty3 ?_));apply tv;apply sq<;>intro h1 h1p h1s;refine sqT ?_;refine rn [(950,some (.box [.d (.i (zbx w funs vars (n+1) t e c).2)]))] (r1 Z) (.eqd ?_) ⟨Z,Z⟩ (SubO.get ⟨.inr ?_,⟨.inl Z,O⟩⟩) (zaQ Z);rotate_left 2;apply sq<;>intro h3 h3p h3s;refine rn [(950,some (.box [.d (.i (zbx w funs vars (n+1) t e c).2)]))] (r1 Z) (.eqd ?_) ⟨Z,Z⟩ (SubO.get ⟨.inr ?_,⟨.inl Z,O⟩⟩) (zaQ Z);rotate_left 2;exfalso;simp at *;omega;all_goals (first|((unfold zbx;rw[if_pos h60]);done)|((unfold zbx;rw[if_pos h60];rfl)))
  have hkd:=zri hw hfl hvl ht (e:=e) (funs:=funs) (vars:=vars);have htl:=zon hw ht (funs:=funs) (e:=e);have hti:=zpW hw hfa ht (e:=e);by_cases hnd:zfp w funs vars t e=true
  ·have hlen:(zaK w funs t e).length=e.kids.length:=by
    unfold zfp at hnd;rw[xad] at hnd;exact xas hnd.2
   have hok1:okE w funs vars t e=true:=by
    unfold zfp at hnd;rw[xad] at hnd;exact hnd.1
   have hsc:zbx w funs vars (n+1) t e c=zde (zbx w funs vars n) (zaK w funs t e) e.kids (c+1):=by
    conv=>lhs;unfold zbx
    rw[if_neg h60,if_pos hnd]
   rw[hsc];rw[hok1] at hkd;refine bd Tryz.f74 65 [] [] fun _ _ _ _ hk=>?_;refine bx 3005 ?_;refine bx 3006 ?_;refine bx 3007 ?_;refine ev (ar ?_ (by(constructor<;>omega)));refine so ty3 ?_;apply tv;apply sq<;>intro h1 h1p h1s;refine sqT ?_;exfalso;simp at *;omega;apply sq<;>intro h3 h3p h3s;exfalso;simp at *;omega;refine wc zt2 hkd Z Z ?_;refine ev ?_;apply sq<;>intro h4 h4p h4s;refine sqT ?_;focus (exfalso;(simp_all[xaJ];done))
   apply sq<;>intro h6 h6p h6s;try simp only[Q,xaJ] at h6p
   focus (exfalso;omega)
   refine xaB (ι:=Nat×Int) hk (fun x=>[(48,.d (.i (x.1:Int)))]) [10,13,14,49,50,51,52,53,54,55,56,57,58,59,60,61,62,63,64] (fun x=>[(950,some (.box [.d (.i x.2)]))]) (fun x=>x.1<=e.kids.length/\zde (zbx w funs vars n) ((zaK w funs t e).drop x.1) (e.kids.drop x.1) x.2=zde (zbx w funs vars n) (zaK w funs t e) e.kids (c+1)/\0<=x.2/\x.2<=60) (fun x=>e.kids.length-x.1) (0,c+1) ⟨by simp,by simp,by dsimp only;omega,by dsimp only;omega⟩ ⟨⟨_,Z,xaU ?_⟩,O⟩ ⟨?_,O⟩ (fun x=>rfl) (fun x hg1=>?_);focus (rfl)
   focus (first|rfl|(simp[getH];done))
   refine evc [] [] ?_;apply sq<;>intro h7 h7p h7s<;>(try simp only[Q,xaJ] at h7p);refine ixq sl33 Z Z Z (zeE od) Z ?_;refine ev (ab 3014 tz40 ?_);refine ev (so ty40 ?_);apply tv;refine ixq zaz Z Z Z (zah od) Z ?_;refine evd [] [] (ar ?_ (by(constructor<;>omega)));refine wd zwo (zky hw hfl hvl hfa n (t:=nth (zaK w funs t e) x.1) (c:=x.2) od od (hti _ (zaf od)) (xaP hok.2 _ (zaf od)) od od) Z Z ⟨Z,O⟩ ?_;refine evd [] [] (dr ?_);apply sq<;>intro h8 h8p h8s;refine rn [(950,some (.box [.d (.i (zde (zbx w funs vars n) (zaK w funs t e) e.kids (c+1)).2)]))] (r1 Z) (.eqd ?_) ⟨Z,Z⟩ (SubO.get ⟨.inr ?_,⟨.inl Z,O⟩⟩) (zaQ Z);rotate_left 2;try simp only[Q,xaJ] at h8p
   refine ar ?_ (by(constructor<;>omega));refine xaj ((x.1+1,(zbx w funs vars n (nth (zaK w funs t e) x.1) (nth e.kids x.1) x.2).2)) ⟨(by
        have hz:(zbx w funs vars n (nth (zaK w funs t e) x.1) (nth e.kids x.1) x.2).1=true:=by simp_all
        have hb:=zv7 w funs vars n _ _ _ hz;obtain⟨h1,h2,h3,h4⟩:=hg1;refine⟨by dsimp only;omega, ?_,by dsimp only;omega,by dsimp only;omega⟩;rw[<-h2,ztH (i:=x.1) od hlen hz]),ox,sx ⟨⟨_,rfl,xaU ?_⟩,trivial⟩ ⟨?_,trivial⟩⟩
   focus (rfl)
   focus (first|rfl|(simp[getH];done))
   refine rn [(950,some (.box [.d (.i (zde (zbx w funs vars n) (zaK w funs t e) e.kids (c+1)).2)]))] (r1 Z) (.eqd ?_) ⟨Z,Z⟩ (SubO.get ⟨.inr ?_,⟨.inl Z,O⟩⟩) (zaQ Z);rotate_left 2;all_goals (first|((refine xam D.bool ?_;first|(obtain⟨h1,h2,h3,h4⟩:=hg1;rw[<-h2,zpL od])|(obtain⟨h1,h2,h3,h4⟩:=hg1;rw[<-h2,znV od hlen o7]));done)|(first|(obtain⟨h1,h2,h3,h4⟩:=hg1;show some (Res.box _)=some (Res.box _);rw[<-h2,zpL od])|(obtain⟨h1,h2,h3,h4⟩:=hg1;show some (Res.box _)=some (Res.box _);rw[<-h2,znV od hlen o7])))
  ·have hsc:zbx w funs vars (n+1) t e c=(false,c+1):=by
    conv=>lhs;unfold zbx
    rw[if_neg h60,if_neg hnd]
   have hno:okE w funs vars t e=true->(zaK w funs t e).length≠e.kids.length:=fun h hl=>hnd (by unfold zfp;rw[h,xax hl];rfl);rw[hsc];refine bd Tryz.f74 65 [] [] fun _ _ _ _ hk=>?_;refine bx 3005 ?_;refine bx 3006 ?_;refine bx 3007 ?_;refine ev (ar (so ty3 ?_));apply tv;apply sq<;>intro h1 h1p h1s;refine sqT ?_;exfalso;simp at *;omega;apply sq<;>intro h3 h3p h3s;exfalso;simp at *;omega;refine wc zt2 hkd Z Z ?_;refine ev ?_;apply sq<;>intro h4 h4p h4s;refine sqT ?_;refine rn [(950,some (.box [.d (.i (c+1))]))] (r1 Z) (.eqd ?_) ⟨Z,Z⟩ (SubO.get ⟨.inr ?_,⟨.inl Z,O⟩⟩) (zaQ Z);rotate_left 2;apply sq<;>intro h6 h6p h6s;refine rn [(950,some (.box [.d (.i (c+1))]))] (r1 Z) (.eqd ?_) ⟨Z,Z⟩ (SubO.get ⟨.inr ?_,⟨.inl Z,O⟩⟩) (zaQ Z);rotate_left 2;try simp only[Q,xaJ] at h6p
   exfalso;have:=hno (by first|assumption|simp_all);omega;all_goals (first|((rfl);done)|(rfl))
theorem zrh {w:List Data}{funs:List Ft}{vars:List Vt} (hw:WT w) (hfl:funs.length<=1000000000000) (hvl:vars.length<=1000000000000) (hfa:∀f∈funs,TyIn w.length f.arg){t:Ty}{e:Ex} (ht:TyIn w.length t) (hok:e.ok):
  FnD Tryz.prog 33 [.agg [.d (zaj w),.d (zbG funs),.d (zbK vars)],.agg [.d (.i t.data),.d (.i t.index)],.agg [.d (.i e.op),.d (.i e.n),.d (.i e.ctor),.d (zbj e.kids)]] [] (.d (.bool (isE w funs vars t e))) []:=by
 have hz:=zyZ w funs vars t e;refine bd Tryz.f33 12 [] [] fun _ _ _ _ hk=>?_;refine bx 3003 ?_;refine bx 3004 ?_;refine bx 3005 ?_;refine ev (ab 950 tz3 ?_);refine so ty3 ?_;apply tv;refine wd zwo (zky hw hfl hvl hfa 10 (c:=0) od od ht hok od od) Z Z ⟨Z,O⟩ ?_;refine ev (rq ?_);rotate_left;all_goals (rw[hz])
theorem ziK {xs:List Ft}{f:Nat}{caps:List AV}{hp:Hp}{p:Ft->Bool} (hs:xs.length<=1000000000000) (hcal:Callee Tryz.prog f)
  (hf:∀t∈xs,FnD Tryz.prog f ([.agg [.d (.i t.arg.data),.d (.i t.arg.index),.d (.i t.res.data),.d (.i t.res.index)]]++caps) hp (.d (.bool (p t))) []) (k1:subH hp hp) (k2:zdJ hp=true) (k3:zaH hp [] (.d .nilp) []=true):
  FnD Tryz.prog 127 [.d (zbG xs),.fn f caps] hp (.d (.i (idxF p xs 0))) []:=by
 refine bd Tryz.f127 19 [] [] fun _ _ _ _ hk=>?_;refine xaB (ι:=List (Ft)×List (Ft)) hk (fun x=>[(8,.d (.i (x.1.length:Int)))]) [4,5,9,10,11,12,13,14,15,16,17,18] (fun x=>[]) (fun x=>x.1++x.2=xs/\idxF p x.2 x.1.length=idxF p xs 0) (fun x=>x.2.length) ([],xs) ⟨by simp,Z⟩ ⟨⟨_,Z,xaU ?_⟩,O⟩ O (fun x=>zfK hp) (fun x hg1=>?_);focus (rfl)
 obtain⟨pre,rest⟩:=x;dsimp only at hg1 ⊢;refine evc [] [] ?_;apply sq<;>intro h1 h1p h1s<;>(try simp only[Q] at h1p);rcases rest with _|⟨y,rest⟩
 ·exfalso;simp_all
 refine ixq sl63 Z Z Z (zaA hg1.1) Z (ev (xbw (cr:=[]) hcal (hf y (by rw[<-hg1.1];simp)) Z .none Z Z Z (LeL.refl _) k1 k2 (zcE k3 _) Z ?_));apply tv;apply sq<;>intro h2 h2p h2s<;>(try simp only[Q] at h2p);focus (refine rn [] (r1 Z) (.eqd ?_) ⟨Z,Z⟩ (fun _ _ h=>h) (fun _ h=>h);all_goals (rw[<-hg1.2];simp[idxF,h1s,h1p,h2s,h2p]))
 refine ar (xaj ((pre++[y],rest)) ⟨⟨(by have hz:=hg1.1;rw[<-hz];simp),(by rw[<-hg1.2];simp[idxF,h2s])⟩,oi,Sub.x oq oq ⟨⟨_,Z,xaU ?_⟩,O⟩ oi (by simp[zdE]) O⟩);focus ((simp;done))
 have hrest:rest=[]:=by
  rcases rest with _|⟨a,b⟩
  ·rfl
  ·exfalso;have hz:=xam List.length (hg1.1);simp only[xaa,xab,xac] at hz;omega
 subst hrest;focus (refine rn [] (r1 Z) (.eqd ?_) ⟨Z,Z⟩ (fun _ _ h=>h) (fun _ h=>h);all_goals (rw[<-hg1.2];simp[idxF,h1s,h1p]))
theorem zhh {xs:List Ft}{f:Nat}{caps:List AV}{hp:Hp}{p:Ft->Bool} (hs:xs.length<=1000000000000) (hcal:Callee Tryz.prog f)
  (hf:∀t∈xs,FnD Tryz.prog f ([.agg [.d (.i t.arg.data),.d (.i t.arg.index),.d (.i t.res.data),.d (.i t.res.index)]]++caps) hp (.d (.bool (p t))) []) (k1:subH hp hp) (k2:zdJ hp=true) (k3:zaH hp [] (.d .nilp) []=true):
  FnD Tryz.prog 65 [.d (zbG xs),.fn f caps] hp (.d (.bool (xs.any p))) []:=by
 refine bd Tryz.f65 9 [] [] fun _ _ _ _ hk=>?_;refine Walk.call (cr:=[]) zxR (ziK hs hcal hf k1 k2 k3) Z .none Z Z (LeL.refl _) k1 k2 (zcE k3 _) Z (ev (rn [] (r1 Z) (.eqd ?_) ⟨Z,Z⟩ (fun _ _ h=>h) (fun _ h=>h)));rotate_left;all_goals (exact xam D.bool (zeG p xs 0))
theorem ziJ {xs:List Cl}{f:Nat}{caps:List AV}{hp:Hp}{p:Cl->Bool} (hs:xs.length<=1000000000000) (hcal:Callee Tryz.prog f)
  (hf:∀t∈xs,FnD Tryz.prog f ([.agg [.d (.i t.pat.op),.d (.i t.pat.ctor),.d (.i t.pat.n),.d (.i t.pat.m),.d (.i t.pat.var),.d (zak t.pat.kids),.d (.i t.g.op),.d (.i t.g.var),.d (.i t.g.n)]]++caps) hp (.d (.bool (p t))) []) (k1:subH hp hp) (k2:zdJ hp=true) (k3:zaH hp [] (.d .nilp) []=true):
  FnD Tryz.prog 128 [.d (zcg xs),.fn f caps] hp (.d (.i (idxF p xs 0))) []:=by
 refine bd Tryz.f128 19 [] [] fun _ _ _ _ hk=>?_;refine xaB (ι:=List (Cl)×List (Cl)) hk (fun x=>[(8,.d (.i (x.1.length:Int)))]) [4,5,9,10,11,12,13,14,15,16,17,18] (fun x=>[]) (fun x=>x.1++x.2=xs/\idxF p x.2 x.1.length=idxF p xs 0) (fun x=>x.2.length) ([],xs) ⟨by simp,Z⟩ ⟨⟨_,Z,xaU ?_⟩,O⟩ O (fun x=>zfK hp) (fun x hg1=>?_);focus (first|rfl|(simp;done)|(simp_all;done)|omega)
 obtain⟨pre,rest⟩:=x;dsimp only at hg1 ⊢;refine evc [] [] ?_;apply sq<;>intro h1 h1p h1s<;>(try simp only[Q] at h1p);rcases rest with _|⟨y,rest⟩
 ·exfalso;simp_all
 refine ixq sl32 Z Z Z (zaA hg1.1) Z (ev (xbw (cr:=[]) hcal (hf y (by rw[<-hg1.1];simp)) Z .none Z Z Z (LeL.refl _) k1 k2 (zcE k3 _) Z ?_));apply tv;apply sq<;>intro h2 h2p h2s<;>(try simp only[Q] at h2p);focus (refine rn [] (r1 Z) (.eqd ?_) ⟨Z,Z⟩ (fun _ _ h=>h) (fun _ h=>h);all_goals (rw[<-hg1.2];simp[idxF,h1s,h1p,h2s,h2p]))
 refine ar (xaj ((pre++[y],rest)) ⟨⟨(by have hz:=hg1.1;rw[<-hz];simp),(by rw[<-hg1.2];simp[idxF,h2s])⟩,oi,Sub.x oq oq ⟨⟨_,Z,xaU ?_⟩,O⟩ oi (by simp[zdE]) O⟩);focus (first|rfl|(simp;done)|(simp_all;done)|omega)
 have hrest:rest=[]:=by
  rcases rest with _|⟨a,b⟩
  ·rfl
  ·exfalso;have hz:=xam List.length (hg1.1);simp only[xaa,xab,xac] at hz;omega
 subst hrest;focus (refine rn [] (r1 Z) (.eqd ?_) ⟨Z,Z⟩ (fun _ _ h=>h) (fun _ h=>h);all_goals (rw[<-hg1.2];simp[idxF,h1s,h1p]))
theorem zhg {xs:List Cl}{f:Nat}{caps:List AV}{hp:Hp}{p:Cl->Bool} (hs:xs.length<=1000000000000) (hcal:Callee Tryz.prog f)
  (hf:∀t∈xs,FnD Tryz.prog f ([.agg [.d (.i t.pat.op),.d (.i t.pat.ctor),.d (.i t.pat.n),.d (.i t.pat.m),.d (.i t.pat.var),.d (zak t.pat.kids),.d (.i t.g.op),.d (.i t.g.var),.d (.i t.g.n)]]++caps) hp (.d (.bool (p t))) []) (k1:subH hp hp) (k2:zdJ hp=true) (k3:zaH hp [] (.d .nilp) []=true):
  FnD Tryz.prog 70 [.d (zcg xs),.fn f caps] hp (.d (.bool (xs.any p))) []:=by
 refine bd Tryz.f70 9 [] [] fun _ _ _ _ hk=>?_;refine Walk.call (cr:=[]) zxS (ziJ hs hcal hf k1 k2 k3) Z .none Z Z (LeL.refl _) k1 k2 (zcE k3 _) Z (ev (rn [] (r1 Z) (.eqd ?_) ⟨Z,Z⟩ (fun _ _ h=>h) (fun _ h=>h)));rotate_left;all_goals (exact xam D.bool (zeG p xs 0))
theorem zro {w:List Data} (hs:w.length<=1000000000000){fd vd:D}{f:Ft}:FnD Tryz.prog 66 [.agg [.d (.i f.arg.data),.d (.i f.arg.index),.d (.i f.res.data),.d (.i f.res.index)],.ref 3001 0] [(3001,some (.box [.d (zaj w),.d fd,.d vd]))] (.d (.bool (!(zbm w.length f.arg&&zbm w.length f.res)))) []:=by
 refine bd Tryz.f66 18 [] [] fun _ _ _ _ hk=>?_;refine bx 3002 ?_;refine ev (wc ztl (zgg hs (a:=f.arg.data) (b:=f.arg.index)) Z Z ?_);refine ev ?_;apply sq<;>intro h1 h1p h1s<;>(try simp only[Q] at h1p);refine rn [] (r1 Z) (.eqd ?_) ⟨Z,Z⟩ (SubH.get ⟨Z,O⟩) (fun _ h=>h);rotate_left;refine Walk.call (cr:=[]) ztl (zgg hs (a:=f.res.data) (b:=f.res.index)) Z (.some Z Z h1) Z Z (LeL.refl _) O Z Z Z (evs [] [(10,false)] ?_ ⟨⟨_,Z,h1⟩,O⟩);refine rn [] (r1 Z) (.eqd ?_) ⟨Z,Z⟩ (SubH.get ⟨Z,O⟩) (fun _ h=>h);rotate_left;all_goals (refine xam D.bool ?_;simp_all)
theorem znq {w:List Data}{funs:List Ft} (hs:w.length<=1000000000000) (hfl:funs.length<=1000000000000):FnD Tryz.prog 30 [.agg [.d (zaj w),.d (zbG funs),.d (.sl [])]] [] (.d (.bool (zcc w funs))) []:=by
 refine bd Tryz.f30 45 [] [] fun _ _ _ _ hk=>?_;refine bx 3001 ?_;refine ev ?_;apply sq<;>intro h1 h1p h1s<;>(try simp only[Q] at h1p);refine sqT ?_;refine rq ?_;rotate_left;refine xby (xs:=[_]) Z (.some Z Z h1) Z Z (Walk.call (cr:=[]) zzn (zhh (p:=fun f=> !(zbm w.length f.arg&&zbm w.length f.res)) hfl zzo (fun t _=>zro hs) ⟨Z,O⟩ Z Z) Z (.some Z Z h1) Z Z (LeL.refl _) ⟨Z,O⟩ Z Z Z (evs [] [(10,false)] ?_ ⟨⟨_,Z,h1⟩,O⟩));apply sq<;>intro h3 h3p h3s<;>(try simp only[Q] at h3p);refine rq ?_;rotate_left;refine ab 3003 ztS ?_;apply tv;refine xaB (ι:=Unit) hk (fun u=>[(19,.d (.i 0))]) [2,5,20,21,22,23,24,25,26,27,28,29,30,31,32,33,34,35,36,37,38,39,40,41,42,43,44] (fun u=>[]) (fun u=>True) (fun u=>0) () O ⟨⟨_,Z,xaU ?_⟩,O⟩ O (fun x=>rfl) (fun u hg1=>?_);focus (first|rfl|(simp;done)|(simp_all;done)|omega)
 refine evc [] [] ?_;apply sq<;>intro h4 h4p h4s<;>(try simp only[Q] at h4p);exfalso;simp at h4;refine rq ?_;rotate_left;all_goals (refine xam D.bool ?_;unfold zcc;first|(rw[xaw od,Bool.false_and];done)|(rw[xax od,Bool.true_and];simp_all;done)|(simp_all;done)|(simp_all;omega))
theorem zmj {l:List Fu} (hl:l.length<=1000000000000):FnD Tryz.prog 28 [.d (zbB l)] [] (.d (zbG (l.map Fu.ty))) []:=by
 refine bd Tryz.f28 19 [3] [] fun _ _ _ _ hk=>?_;refine xbr 1 4 .none Z Z ?_;apply tv;refine xaB (ι:=List (Fu)×List (Fu)) hk (fun x=>[(8,.d (.i (x.1.length:Int))),(3,.gl 1 ((x.1.map Fu.ty).map Ft.c))]) [5,9,10,11,12,13,14,15,16,17] (fun x=>[(1,some (.tok (((x.1.map Fu.ty).map Ft.c)).length 4))]) (fun x=>x.1++x.2=l) (fun x=>x.2.length) ([],l) oi ⟨⟨_,Z,xaU ?_⟩,⟨⟨_,Z,LeA.glg ?_⟩,O⟩⟩ ⟨zac ?_,O⟩ (fun x=>rfl) (fun x hg1=>?_);iterate 3 focus (first|rfl|(simp;done)|(simp;omega))
 obtain⟨pre,rest⟩:=x;dsimp only at hg1 ⊢;refine evc [3] [] ?_;apply sq<;>intro h1 h1p h1s<;>(try simp only[Q] at h1p);rcases rest with _|⟨y,rest⟩
 ·exfalso;simp_all
 refine ixq sl24 Z Z Z (zaA hg1) Z (evs [3] [] (ab 3005 tz35 ?_));refine so ty35 ?_;apply tv;refine si [0] [_] sl63 tz31 ?_;refine ap sl63 zz31 Z Z Z oi (by have hz:=xam List.length hg1;simp at hz ⊢;omega) ?_;refine asg ?_;apply tv;refine ar (xaj ((pre++[y],rest)) ⟨(by have hz:=hg1;rw[<-hz];simp),oi,sx ⟨⟨_,Z,xaU ?_⟩,⟨⟨_,Z,LeA.glg ?_⟩,O⟩⟩ ⟨zac ?_,O⟩⟩);iterate 3 focus (first|rfl|(simp;done)|(simp;omega))
 have hrest:rest=[]:=by
  rcases rest with _|⟨a,b⟩
  ·rfl
  ·exfalso;have hz:=xam List.length (hg1);simp only[xaa,xab,xac] at hz;omega
 subst hrest;refine rn0 (r1 Z) (.gld ?_);rotate_left;all_goals (first|rfl|(rw[xaq] at hg1;subst hg1;simp;done))
theorem zhq (w:List Data) (t:Ty) (p:Pat):(zbM w t p).length<=6:=(zgn w 10 t p 0).2
theorem zrg {w:List Data} (hw:WT w){fd:D}{t:Ty}{c:Cl} (ht:TyIn w.length t) (hok:c.pat.ok):
  FnD Tryz.prog 32 [.d (zaj w),.d fd,.agg [.d (.i t.data),.d (.i t.index)],.agg [.d (.i c.pat.op),.d (.i c.pat.ctor),.d (.i c.pat.n),.d (.i c.pat.m),.d (.i c.pat.var),.d (zak c.pat.kids),.d (.i c.g.op),.d (.i c.g.var),.d (.i c.g.n)]] [] (.agg [.d (zaj w),.d fd,.d (zbK (zbM w t c.pat))]) []:=by
 have ht':TyIn w.length ⟨t.data,t.index⟩:=ht;refine bd Tryz.f32 23 [] [] fun _ _ _ _ hk=>?_;refine bx 3006 ?_;refine bx 3007 ?_;refine ab 3008 tz68 ?_;apply tv;refine wc ztm (zes hw ht' hok) Z Z ?_;refine ev (bu [0,1,2] [_,_,_] st68 ?_);refine so ty68 ?_;apply tv;refine rn0 (ra ty68) (.agg (qeee ?_ ?_ ?_));rotate_left 3;all_goals (rfl)
theorem znl {g:Gd}{vars:List Vt} (hv:vars.length<=1000000000000):FnD Tryz.prog 129 [.agg [.d (.i g.op),.d (.i g.var),.d (.i g.n)],.d (zbK vars)] [] (.d (.bool (gdOk g vars))) []:=by
 refine bd Tryz.f129 27 [10] [] fun _ _ _ _ hk=>?_;refine bx 3002 ?_;refine evs [10] [] ?_;apply sq<;>intro h1 h1p h1s<;>(try simp only[Q,zan] at h1p);refine bu [] [] st76 ?_;refine xbI eq76 .none Z Z Z Z Z (evs [10] [] (rq ?_));rotate_left;refine wc zeu zbk Z Z ?_;refine evs [10] [] ?_;apply sq<;>intro h2 h2p h2s<;>(try simp only[Q,zan] at h2p);refine Walk.call (cr:=[]) zeu zbk Z (.some Z Z h2) Z Z (LeL.refl _) O Z Z Z (evs [10] [(14,true)] ?_ ⟨⟨_,Z,h2⟩,O⟩);apply sq<;>intro h3 h3p h3s<;>(try simp only[Q,zan] at h3p);refine Walk.build st29 (ks:=[0]) (xs:=[_]) Z Z (.some Z Z h3) Z Z Z (Walk.build ztN (ks:=[0,1]) (xs:=[_,_]) Z Z (.some Z Z h3) Z Z Z (Walk.call (cr:=[]) zua (zfG (v:=⟨g.var,⟨-1,0⟩⟩) hv) Z (.some Z Z h3) Z Z (LeL.refl _) O Z Z Z (evs [10] [(19,true)] ?_ ⟨⟨_,Z,h3⟩,O⟩)));refine rq ?_;rotate_left;refine rq ?_;rotate_left;refine sqF ?_;refine rq ?_;rotate_left;all_goals (refine xam D.bool ?_;unfold gdOk;first|(rw[if_pos od];simp_all;done)|(rw[if_neg od];simp_all[zan];done)|(rw[if_neg od];simp_all[zan];omega))
theorem zme {w:List Data} (hw:WT w){t:Ty}{c:Cl} (ht:TyIn w.length t) (hok:c.pat.ok):
  FnD Tryz.prog 72 [.d (zaj w),.agg [.d (.i t.data),.d (.i t.index)],.agg [.d (.i c.pat.op),.d (.i c.pat.ctor),.d (.i c.pat.n),.d (.i c.pat.m),.d (.i c.pat.var),.d (zak c.pat.kids),.d (.i c.g.op),.d (.i c.g.var),.d (.i c.g.n)]] [] (.d (.bool (clOk w t c))) []:=by
 have ht':TyIn w.length ⟨t.data,t.index⟩:=ht;have hvl:=zhq w t c.pat;refine bd Tryz.f72 24 [] [] fun _ _ _ _ hk=>?_;refine bx 3004 ?_;refine bx 3005 ?_;refine ev (wc ztm (zes hw ht' hok) Z Z ?_);refine ev ?_;apply sq<;>intro h1 h1p h1s<;>(try simp only[Q] at h1p);refine Walk.call (cr:=[]) zxT (znl (g:=c.g) (vars:=zbM w t c.pat) od) Z (.some Z Z h1) Z Z (LeL.refl _) O Z Z Z ?_;refine evs [] [(18,true)] ?_ ⟨⟨_,Z,h1⟩,O⟩;refine rq ?_;rotate_left;refine rq ?_;rotate_left;all_goals (refine xam D.bool ?_;unfold clOk;have hte:(⟨t.data,t.index⟩:Ty)=t:=rfl;(simp_all;done))
theorem ziE {w:List Data} (hw:WT w){a k:Int}{c:Cl} (ht:TyIn w.length ⟨a,k⟩) (hok:c.pat.ok):
  FnD Tryz.prog 71 [.agg [.d (.i c.pat.op),.d (.i c.pat.ctor),.d (.i c.pat.n),.d (.i c.pat.m),.d (.i c.pat.var),.d (zak c.pat.kids),.d (.i c.g.op),.d (.i c.g.var),.d (.i c.g.n)],.ref 3003 0,.ref 3004 0] [(3003,some (.box [.d (zaj w)])),(3004,some (.box [.d (.i a),.d (.i k)]))] (.d (.bool (!clOk w ⟨a,k⟩ c))) []:=by
 refine bd Tryz.f71 10 [] [] fun _ _ _ _ hk=>?_;refine bx 3901 ?_;refine ev (wc zzs (zme (t:=⟨a,k⟩) (c:=c) hw ht hok) Z Z ?_);refine ev (rn [] (r1 Z) (.eqd ?_) ⟨Z,Z⟩ (SubH.get ⟨Z,⟨Z,O⟩⟩) (fun _ h=>h));rotate_left;all_goals (rfl)
theorem zfS {w:List Data} (hs:WSmall w){a k:Int}{l:List Cl} (hl:ClsOk l):
  FnD Tryz.prog 31 [.d (zaj w),.agg [.d (.i a),.d (.i k)],.d (zcg l)] [] (.d (.bool (zaW w ⟨a,k⟩ l))) []:=by
 have hll:=hl.1;refine bd Tryz.f31 21 [] [] fun _ _ _ _ hk=>?_;refine bx 3003 ?_;refine bx 3004 ?_;refine ev (wc zzp (zlF hs) Z Z ?_);refine ev ?_;apply sq<;>intro h1 h1p h1s<;>(try simp only[Q] at h1p);apply sq<;>intro h2 h2p h2s<;>(try simp only[Q] at h2p);refine xby (xs:=[_,_]) Z (.some Z Z h2) Z Z (Walk.call (cr:=[]) zzq (zhg (p:=fun c=> !clOk w ⟨a,k⟩ c) hl.1 zzr (fun t htm=>ziE (zds hs (zcj ol).1) (zcj ol).2.1 (hl.2 t htm)) ⟨Z,Z,O⟩ Z Z) Z (.some Z Z h2) Z Z (LeL.refl _) ⟨Z,Z,O⟩ Z Z Z ?_);refine evs [] [(15,true)] ?_ ⟨⟨_,Z,h2⟩,O⟩;refine rq ?_;rotate_left;refine rq ?_;rotate_left;refine sqF ?_;refine rq ?_;rotate_left;all_goals (refine xam D.bool ?_;unfold zaW;first|(simp_all;done)|(simp_all;omega))
theorem zjn {w:List Data}{funs:List Ft}{f:Fu} (h:¬f.bodies.length=f.cls.length):zcl w funs f=false:=by
 unfold zcl zjm;rw[zhz od,Bool.and_false]
theorem zkk {w:List Data}{funs:List Ft}{f:Fu}{i:Nat} (hl:f.bodies.length=f.cls.length) (hi:i<f.bodies.length) (h:isE w funs (zbM w f.ty.arg (nth f.cls i).pat) f.ty.res (nth f.bodies i)=false):zcl w funs f=false:=by
 unfold zcl zjm;rw[zbJ (i:=i) od od h,Bool.and_false]
theorem zmO {w:List Data}{funs:List Ft}{f:Fu} (hc:zaW w f.ty.arg f.cls=true) (hl:f.bodies.length=f.cls.length) (h:∀i,i<f.bodies.length->isE w funs (zbM w f.ty.arg (nth f.cls i).pat) f.ty.res (nth f.bodies i)=true):zcl w funs f=true:=by
 unfold zcl zjm;rw[hc,zci od (fun i hi=>h i od)];rfl
theorem zgG {w:List Data}{funs:List Ft} (h:zcc w funs=true):∀f∈funs,zbm w.length f.arg=true/\zbm w.length f.res=true:=by
 unfold zcc at h;simp only[xad,Bool.not_eq_true',List.any_eq_false,Bool.not_eq_false',xah] at h;intro f hf;have:=h.2 f hf;simpa using this
theorem ztY {α:Type}{p:α->Bool}{pre rest l:List α}{y:α} (h:pre++y::rest=l) (hy:p y=false):l.all p=false:=by
 subst h;simp[hy]
theorem zlC {w:List Data} (hs:WSmall w){l:List Fu} (hl:FusOk l):FnD Tryz.prog 7 [.d (zaj w),.d (zbB l)] [] (.d (.bool (zb9 w l))) []:=by
 have hll:=hl.1;have hfm:=fun(y:Fu) (hy:y∈l) (ho:zcc w (l.map Fu.ty)=true)=>zgG ho y.ty (List.mem_map.2 ⟨y,hy,rfl⟩);have hfa:=fun(ho:zcc w (l.map Fu.ty)=true) (f:Ft) (hf:f∈l.map Fu.ty)=>ziy (zgG ho f hf).1;have hml:(l.map Fu.ty).length<=1000000000000:=by simp;omega
 have hvw:=fun(h:zaI w=true)=>zds hs h;unfold zb9;generalize hF:l.map Fu.ty=funs at *;have hft:=zmj hl.1;rw[hF] at hft;refine bd Tryz.f7 72 [] [] fun _ _ _ _ hk=>?_;refine wc zzc hft Z Z ?_;refine ev (wc zwm (zgI hs) Z Z ?_);refine ev ?_;apply sq<;>intro h1 h1p h1s<;>(try simp only[Q,xal,xaJ] at h1p);refine sqT ?_;refine rq ?_;rotate_left;refine Walk.build st68 (ks:=[0,1]) (xs:=[_,_]) Z Z (.some Z Z h1) Z Z Z (Walk.call (cr:=[]) zzd (znq hs.len hml) Z (.some Z Z h1) Z Z (.cons (.agg (.cons (.refl _) (.cons (.refl _) (.cons .nil .nil)))) .nil) O Z Z Z (evs [] [(15,false)] ?_ ⟨⟨_,Z,h1⟩,O⟩));apply sq<;>intro h3 h3p h3s<;>(try simp only[Q,xal,xaJ] at h3p);refine rq ?_;rotate_left;refine xaB (ι:=List (Fu)×List (Fu)) hk (fun x=>[(24,.d (.i (x.1.length:Int)))]) [4,7,8,9,25,26,27,28,29,30,31,32,33,34,35,36,37,38,39,40,41,42,43,44,45,46,47,48,49,50,51,52,53,54,55,56,57,58,59,60,61,62,63,64,65,66,67,68,69,70,71] (fun x=>[]) (fun x=>x.1++x.2=l/\x.1.all (zcl w funs)=true) (fun x=>x.2.length) ([],l) ⟨by simp,by simp⟩ ⟨⟨_,Z,xaU ?_⟩,O⟩ O (fun x=>rfl) (fun x hg1=>?_);focus (first|rfl|(simp;done)|(simp_all;done)|omega)
 obtain⟨pre,rest⟩:=x;dsimp only at hg1 ⊢;refine evc [] [] ?_;apply sq<;>intro h4 h4p h4s<;>(try simp only[Q,xal,xaJ] at h4p);rcases rest with _|⟨y,rest⟩
 ·exfalso;simp_all
 have hyl:=(hl.2 y (by rw[<-hg1.1];simp)).2.1;refine ixq sl24 Z Z Z (zaA hg1.1) Z (ev (ab 3007 tz35 ?_));refine so ty35 ?_;apply tv;refine wc zqk (zfS hs (hl.2 y (by rw[<-hg1.1];simp)).1) Z Z ?_;refine ev ?_;apply sq<;>intro h5 h5p h5s<;>(try simp only[Q,xal,xaJ] at h5p);refine sqT ?_;refine rq ?_;rotate_left;apply sq<;>intro h7 h7p h7s<;>(try simp only[Q,xal,xaJ] at h7p);refine rq ?_;rotate_left;refine xaB (ι:=Nat) hk (fun i=>[(48,.d (.i (i:Int)))]) [4,8,9,49,50,51,52,53,54,55,56,57,58,59,60,61,62,63,64,65,66,67,68,69,70] (fun i=>[]) (fun i=>i<=y.bodies.length/\∀i',i'<i->isE w funs (zbM w y.ty.arg (nth y.cls i').pat) y.ty.res (nth y.bodies i')=true) (fun i=>y.bodies.length-i) 0 ⟨by omega,fun _ h=>absurd h od⟩ ⟨⟨_,Z,xaU ?_⟩,O⟩ O (fun x=>rfl) (fun i hg2=>?_);focus (first|rfl|(simp;done)|(simp_all;done)|omega)
 refine evc [] [] ?_;apply sq<;>intro h8 h8p h8s<;>(try simp only[Q,xal,xaJ] at h8p);refine ixq sl33 Z Z Z (zeE od) Z ?_;refine ev (ab 3009 tz40 ?_);refine ev (so ty40 ?_);apply tv;refine ixq sl32 Z Z Z (zah od) Z ?_;refine evd [] [] (wc zze (zrg (hvw ol) (t:=y.ty.arg) (c:=nth y.cls i) (ziy (hfm y (by rw[<-hg1.1];simp) ol).1) ((hl.2 y (by rw[<-hg1.1];simp)).1.2 _ (zaf od))) Z Z ?_);refine evd [] [] (wc zzf (zrh (hvw ol) hml (by have:=zhq w y.ty.arg (nth y.cls i).pat;omega) (hfa ol) (t:=y.ty.res) (e:=nth y.bodies i) (ziy (hfm y (by rw[<-hg1.1];simp) ol).2) (xaP (hl.2 y (by rw[<-hg1.1];simp)).2.2 _ (zaf od))) Z Z ?_);refine evd [] [] (dr ?_);apply sq<;>intro h9 h9p h9s<;>(try simp only[Q,xal,xaJ] at h9p);refine rq ?_;rotate_left;refine ar (xaj (i+1) ⟨⟨by omega,zaZ hg2.2 o7⟩,od,sx ⟨⟨_,Z,xaU ?_⟩,O⟩ O⟩);focus (first|rfl|(simp;done)|(simp_all;done)|omega)
 refine ar (xaj ((pre++[y],rest)) ⟨⟨(by have hz:=hg1.1;rw[<-hz];simp),(by rw[List.all_append,hg1.2];simp only[List.all_cons,List.all_nil,Bool.and_true,Bool.true_and];exact zmO o7 od (fun i' hi'=>hg2.2 i' od))⟩,oi,sx ⟨⟨_,Z,xaU ?_⟩,O⟩ O⟩);focus (first|rfl|(simp;done)|(simp_all;done)|omega)
 have hrest:rest=[]:=by
  rcases rest with _|⟨a,b⟩
  ·rfl
  ·exfalso;have hz:=xam List.length (hg1.1);simp only[xaa,xab,xac] at hz;omega
 subst hrest;refine rq ?_;rotate_left;all_goals (refine xam D.bool ?_;first|(simp_all;done)|(rw[ztY hg1.1 (by first|(unfold zcl;simp_all;done)|(exact zjn od)|(exact zkk (i:=i) od od o7))];simp_all;done)|(rw[xaq] at hg1;obtain⟨hz,hg2⟩:=hg1;subst hz;simp_all;done))
end Go.Proofs.YtmchfdpleibpdaaGreat
