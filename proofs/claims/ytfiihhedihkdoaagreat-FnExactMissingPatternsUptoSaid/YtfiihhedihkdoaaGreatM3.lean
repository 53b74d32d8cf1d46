/-
  THE ABSTRACT WALK AND THE WALKS, part 3 of 6: the parts F2, F3, F4, F5, F6, Wv, G1, F12, F13, G2, G3, G4, F15, F20, F21.
-/
import Derived.Test.YtfiihhedihkdoaaGreatM2
namespace Go.Proofs.YtfiihhedihkdoaaGreat
open Go
set_option linter.unusedSimpArgs false
set_option linter.unusedVariables false
set_option maxRecDepth 100000
set_option maxHeartbeats 2000000
def zb6 (n:Int):Bool:=decide (65≤n)&&decide (n≤90)
theorem ziE {n:Int}:FnD Tryz.prog 181 [.d (.int .u8 n)] [] (.d (.bool (zb6 n))) []:=by
 refine bd Tryz.f181 9 [] [] fun w0 F0 own kept hk=>?_
 refine sq (fun h1 h1p h1s=>?_) fun h1 h1p h1s=>?_
 try simp only[Q] at h1p
 focus (refine rn0 (r1 rfl) (.eqd ?_);all_goals (first|rfl|(simp[zb6,h1s,h1p];done)|(simp_all[zb6];done)|(simp_all[zb6];omega)|omega))
 try simp only[Q] at h1p
 focus (refine rn0 (r1 rfl) (.eqd ?_);all_goals (first|rfl|(simp[zb6,h1s,h1p];done)|(simp_all[zb6];done)|(simp_all[zb6];omega)|omega))
theorem zj1 {s:Str} (hs:s.length≤1000000000000):FnD Tryz.prog 182 [.d (.str s)] [] (.d (.bool (zcj s))) []:=by
 refine bd Tryz.f182 34 [] [] fun w0 F0 own kept hk=>?_
 refine sq (fun h1 h1p h1s=>?_) fun h1 h1p h1s=>?_
 try simp only[Q,zb6] at h1p
 refine sqT ?_
 refine sqT ?_
 focus (refine rn0 (r1 rfl) (.eqd ?_);all_goals (first|(rw[zc9 (by omega)];done)|(rw[zau (by omega)];simp[zaX];omega)|(rw[zau (by omega),←hg1.2.2,zbu (by omega)];simp[zcS];omega)|(rw[zau (by omega),←hg1.2.2,zbN (by omega)];simp[zar,zaX];omega)|(rw[zau (by omega)];simp only[zaX,h1s,h1p];simp;done)))
 try simp only[Q,zb6] at h1p
 refine sq (fun h3 h3p h3s=>?_) fun h3 h3p h3s=>?_
 try simp only[Q,zb6] at h3p
 refine sqT ?_
 focus (refine rn0 (r1 rfl) (.eqd ?_);all_goals (first|(rw[zc9 (by omega)];done)|(rw[zau (by omega)];simp[zaX];omega)|(rw[zau (by omega),←hg1.2.2,zbu (by omega)];simp[zcS];omega)|(rw[zau (by omega),←hg1.2.2,zbN (by omega)];simp[zar,zaX];omega)|(rw[zau (by omega)];simp only[zaX,h1s,h1p,h3s,h3p];simp;done)))
 try simp only[Q,zb6] at h3p
 refine Walk.idxS (i:=0) un9 (.some rfl rfl h3) rfl rfl rfl rfl (List.getElem?_eq_getElem (by omega)) ?_
 refine Walk.call (cr:=[]) zqq (ziE) rfl (.some rfl rfl h3) rfl rfl (LeL.refl _) trivial rfl rfl rfl ?_
 refine evs [] [(12,false)] ?_ ⟨⟨_,rfl,h3⟩,trivial⟩
 refine sq (fun h5 h5p h5s=>?_) fun h5 h5p h5s=>?_
 try simp only[Q,zb6] at h5p
 focus (refine rn0 (r1 rfl) (.eqd ?_);all_goals (first|(rw[zc9 (by omega)];done)|(rw[zau (by omega)];simp[zaX];omega)|(rw[zau (by omega),←hg1.2.2,zbu (by omega)];simp[zcS];omega)|(rw[zau (by omega),←hg1.2.2,zbN (by omega)];simp[zar,zaX];omega)|(rw[zau (by omega)];simp only[zaX,h1s,h1p,h3s,h3p,h5s,h5p];simp;done)))
 try simp only[Q,zb6] at h5p
 refine CWp.loopX (ι:=Nat) hk (fun i=>[(3,.d (.i (i:Int)))]) [2,18,19,20,21,22,23,24,25,26,27,28,29,30,31,32,33] (fun i=>[]) (fun i=>1≤i∧i≤s.length∧zdk (s.drop i)=zdk (s.drop 1)) (fun i=>s.length-i) 1 ⟨by omega,by omega,rfl⟩ ⟨⟨_,rfl,(LeA.eqi (by first|rfl|(simp;done)|(simp_all;done)|omega))⟩,trivial⟩ trivial (fun x=>rfl) (fun i hg1=>?_)
 refine evc [] [] ?_
 refine sq (fun h6 h6p h6s=>?_) fun h6 h6p h6s=>?_
 try simp only[Q,zb6] at h6p
 refine Walk.idxS un9 .none rfl rfl rfl rfl (List.getElem?_eq_getElem (by omega)) ?_
 refine ev ?_
 refine sq (fun h7 h7p h7s=>?_) fun h7 h7p h7s=>?_
 try simp only[Q,zb6] at h7p
 refine sqT ?_
 focus (refine rn0 (r1 rfl) (.eqd ?_);all_goals (first|(rw[zc9 (by omega)];done)|(rw[zau (by omega)];simp[zaX];omega)|(rw[zau (by omega),←hg1.2.2,zbu (by omega)];simp[zcS];omega)|(rw[zau (by omega),←hg1.2.2,zbN (by omega)];simp[zar,zaX];omega)|(rw[zau (by omega)];simp only[zaX,h1s,h1p,h3s,h3p,h5s,h5p,h6s,h6p,h7s,h7p];simp;done)))
 try simp only[Q,zb6] at h7p
 refine Walk.idxS un9 (.some rfl rfl h7) rfl rfl rfl rfl (List.getElem?_eq_getElem (by omega)) ?_
 refine evs [] [(28,false)] ?_ ⟨⟨_,rfl,h7⟩,trivial⟩
 refine sq (fun h9 h9p h9s=>?_) fun h9 h9p h9s=>?_
 try simp only[Q,zb6] at h9p
 focus (refine rn0 (r1 rfl) (.eqd ?_);all_goals (first|(rw[zc9 (by omega)];done)|(rw[zau (by omega)];simp[zaX];omega)|(rw[zau (by omega),←hg1.2.2,zbu (by omega)];simp[zcS];omega)|(rw[zau (by omega),←hg1.2.2,zbN (by omega)];simp[zar,zaX];omega)|(rw[zau (by omega)];simp only[zaX,h1s,h1p,h3s,h3p,h5s,h5p,h6s,h6p,h7s,h7p,h9s,h9p];simp;done)))
 try simp only[Q,zb6] at h9p
 refine ar ?_
 focus (refine Exists.intro (i+1) ⟨⟨by omega,by omega,by rw[←hg1.2.2,zbu (i:=i) (by omega)];simp[zcS];omega⟩, ?_,Sub.x (by kernel_rfl) (by kernel_rfl) ⟨⟨_,rfl,(LeA.eqi (by first|rfl|(simp;done)|(simp_all;done)|omega))⟩,trivial⟩ (by kernel_rfl) (by kernel_rfl) trivial⟩;all_goals first|omega|(simp_all;done)|(simp_all;omega))
 try simp only[Q,zb6] at h6p
 focus (refine rn0 (r1 rfl) (.eqd ?_);all_goals (first|(rw[zc9 (by omega)];done)|(rw[zau (by omega)];simp[zaX];omega)|(rw[zau (by omega),←hg1.2.2,zbu (by omega)];simp[zcS];omega)|(rw[zau (by omega),←hg1.2.2,zbN (by omega)];simp[zar,zaX];omega)|(rw[zau (by omega)];simp only[zaX,h1s,h1p,h3s,h3p,h5s,h5p,h6s,h6p];simp;done)))
theorem zmG {s:Str} (hs:s.length≤1000000000000):FnD Tryz.prog 139 [.d (.str s)] [] (.d (.bool (zaI s))) []:=by
 refine bd Tryz.f139 15 [] [] fun w0 F0 own kept hk=>?_
 refine sq (fun h1 h1p h1s=>?_) fun h1 h1p h1s=>?_
 try simp only[Q] at h1p
 refine Walk.idxS (i:=0) un9 (.some rfl rfl h1) rfl rfl rfl rfl (List.getElem?_eq_getElem (by omega)) ?_
 refine Walk.call (cr:=[]) zqq (ziE) rfl (.some rfl rfl h1) rfl rfl (LeL.refl _) trivial rfl rfl rfl ?_
 refine evs [] [(6,true)] ?_ ⟨⟨_,rfl,h1⟩,trivial⟩
 refine sq (fun h2 h2p h2s=>?_) fun h2 h2p h2s=>?_
 try simp only[Q] at h2p
 focus (refine rn0 (r1 rfl) (.eqd ?_);all_goals (first|(simp[zaI,h1s,h1p,h2s,h2p];done)|(simp only[zaI,zdZ (s:=s) (by omega),zaX];simp only[zb6,Bool.and_eq_true,decide_eq_true_eq] at *;simp[*];done)))
 try simp only[Q] at h2p
 focus (refine rn0 (r1 rfl) (.eqd ?_);all_goals (first|(simp[zaI,h1s,h1p,h2s,h2p];done)|(simp only[zaI,zdZ (s:=s) (by omega),zaX];simp only[zb6,Bool.and_eq_true,decide_eq_true_eq] at *;simp[*];done)))
 try simp only[Q] at h1p
 refine sqF ?_
 focus (refine rn0 (r1 rfl) (.eqd ?_);all_goals (first|(simp[zaI,h1s,h1p];done)|(simp only[zaI,zdZ (s:=s) (by omega),zaX];simp only[zb6,Bool.and_eq_true,decide_eq_true_eq] at *;simp[*];done)))
theorem ziD {n:Nat}{a b:Int}:FnD Tryz.prog 159 [.d (.i n),.agg [.d (.i a),.d (.i b)]] [] (.d (.bool (zbz n ⟨a,b⟩))) []:=by
 refine bd Tryz.f159 30 [] [] fun w0 F0 own kept hk=>?_
 refine Walk.box (id:=3003) .none rfl rfl rfl rfl rfl rfl rfl ?_
 refine ev ?_
 refine sq (fun h1 h1p h1s=>?_) fun h1 h1p h1s=>?_
 try simp only[Q] at h1p
 focus (refine rn0 (r1 rfl) (.eqd ?_);all_goals (first|(simp[zbz,zar,h1s,h1p];done)|(apply congrArg D.bool;rw[Bool.eq_iff_iff];simp[zbz,zar];omega)))
 try simp only[Q] at h1p
 refine sq (fun h2 h2p h2s=>?_) fun h2 h2p h2s=>?_
 try simp only[Q] at h2p
 refine sq (fun h3 h3p h3s=>?_) fun h3 h3p h3s=>?_
 try simp only[Q] at h3p
 refine sq (fun h4 h4p h4s=>?_) fun h4 h4p h4s=>?_
 try simp only[Q] at h4p
 focus (refine rn0 (r1 rfl) (.eqd ?_);all_goals (first|(simp[zbz,zar,h1s,h1p,h2s,h2p,h3s,h3p,h4s,h4p];done)|(apply congrArg D.bool;rw[Bool.eq_iff_iff];simp[zbz,zar];omega)))
 try simp only[Q] at h4p
 focus (refine rn0 (r1 rfl) (.eqd ?_);all_goals (first|(simp[zbz,zar,h1s,h1p,h2s,h2p,h3s,h3p,h4s,h4p];done)|(apply congrArg D.bool;rw[Bool.eq_iff_iff];simp[zbz,zar];omega)))
 try simp only[Q] at h3p
 refine sqF ?_
 focus (refine rn0 (r1 rfl) (.eqd ?_);all_goals (first|(simp[zbz,zar,h1s,h1p,h2s,h2p,h3s,h3p];done)|(apply congrArg D.bool;rw[Bool.eq_iff_iff];simp[zbz,zar];omega)))
 try simp only[Q] at h2p
 refine sqF ?_
 refine sqF ?_
 focus (refine rn0 (r1 rfl) (.eqd ?_);all_goals (first|(simp[zbz,zar,h1s,h1p,h2s,h2p];done)|(apply congrArg D.bool;rw[Bool.eq_iff_iff];simp[zbz,zar];omega)))
theorem zmE {n:Nat}{s:Str}{args:List Ty}{k:Int} (hn:s.length≤1000000000000) (ha:args.length≤1000000000000):FnD Tryz.prog 140 [.d (.i n),.agg [.d (.str s),.d (zby args),.d (.i k)]] [] (.d (.bool (zaR n ⟨s,args,k⟩))) []:=by
 refine bd Tryz.f140 41 [] [] fun w0 F0 own kept hk=>?_
 refine Walk.box (id:=3003) .none rfl rfl rfl rfl rfl rfl rfl ?_
 refine ev ?_
 refine Walk.call (cr:=[]) ztc (zj1 hn) rfl .none rfl rfl (LeL.refl _) trivial rfl rfl rfl ?_
 refine ev ?_
 refine sq (fun h1 h1p h1s=>?_) fun h1 h1p h1s=>?_
 try simp only[Q] at h1p
 refine sqT ?_
 refine sqT ?_
 refine sqT ?_
 focus (refine rn0 (r1 rfl) (.eqd ?_);all_goals (first|(simp[zaR,h1s,h1p];done)|(simp only[zaR];rw[←hg1.2];simp[zar,h1s,h1p];done)|(simp only[zaR];rw[←hg1.2];simp[zar,h1s,h1p];omega)|(apply congrArg D.bool;simp[zaR,zar];omega)))
 try simp only[Q] at h1p
 refine sq (fun h3 h3p h3s=>?_) fun h3 h3p h3s=>?_
 try simp only[Q] at h3p
 refine sqT ?_
 refine sqT ?_
 focus (refine rn0 (r1 rfl) (.eqd ?_);all_goals (first|(simp[zaR,h1s,h1p,h3s,h3p];done)|(simp only[zaR];rw[←hg1.2];simp[zar,h1s,h1p,h3s,h3p];done)|(simp only[zaR];rw[←hg1.2];simp[zar,h1s,h1p,h3s,h3p];omega)|(apply congrArg D.bool;simp[zaR,zar];omega)))
 try simp only[Q] at h3p
 refine sq (fun h5 h5p h5s=>?_) fun h5 h5p h5s=>?_
 try simp only[Q] at h5p
 refine sqT ?_
 focus (refine rn0 (r1 rfl) (.eqd ?_);all_goals (first|(simp[zaR,h1s,h1p,h3s,h3p,h5s,h5p];done)|(simp only[zaR];rw[←hg1.2];simp[zar,h1s,h1p,h3s,h3p,h5s,h5p];done)|(simp only[zaR];rw[←hg1.2];simp[zar,h1s,h1p,h3s,h3p,h5s,h5p];omega)|(apply congrArg D.bool;simp[zaR,zar];omega)))
 try simp only[Q] at h5p
 refine sq (fun h7 h7p h7s=>?_) fun h7 h7p h7s=>?_
 try simp only[Q] at h7p
 focus (refine rn0 (r1 rfl) (.eqd ?_);all_goals (first|(simp[zaR,h1s,h1p,h3s,h3p,h5s,h5p,h7s,h7p];done)|(simp only[zaR];rw[←hg1.2];simp[zar,h1s,h1p,h3s,h3p,h5s,h5p,h7s,h7p];done)|(simp only[zaR];rw[←hg1.2];simp[zar,h1s,h1p,h3s,h3p,h5s,h5p,h7s,h7p];omega)|(apply congrArg D.bool;simp[zaR,zar];omega)))
 try simp only[Q] at h7p
 refine CWp.loopX (ι:=List (Ty)×List (Ty)) hk (fun x=>[(5,.d (.i (x.1.length:Int)))]) [4,26,27,28,29,30,31,32,33,34,35,36,37,38,39,40] (fun x=>[]) (fun x=>x.1++x.2=args∧(x.2.any fun t=> !zbz n t)=args.any fun t=> !zbz n t) (fun x=>x.2.length) ([],args) ⟨by simp,rfl⟩ ⟨⟨_,rfl,(LeA.eqi (by first|rfl|(simp;done)|(simp_all;done)|omega))⟩,trivial⟩ trivial (fun x=>rfl) (fun x hg1=>?_)
 obtain⟨pre,rest⟩:=x
 dsimp only at hg1 ⊢
 refine evc [] [] ?_
 refine sq (fun h8 h8p h8s=>?_) fun h8 h8p h8s=>?_
 try simp only[Q] at h8p
 rcases rest with _|⟨y,rest⟩
 ·exfalso;simp_all
 refine Walk.idx zbf .none rfl rfl rfl rfl (za0 hg1.1) rfl ?_
 refine ev ?_
 refine Walk.call (cr:=[]) zqi (ziD) rfl .none rfl rfl (LeL.refl _) trivial rfl rfl rfl ?_
 refine ev ?_
 refine sq (fun h9 h9p h9s=>?_) fun h9 h9p h9s=>?_
 try simp only[Q] at h9p
 focus (refine rn0 (r1 rfl) (.eqd ?_);all_goals (first|(simp[zaR,h1s,h1p,h3s,h3p,h5s,h5p,h7s,h7p,h8s,h8p,h9s,h9p];done)|(simp only[zaR];rw[←hg1.2];simp[zar,h1s,h1p,h3s,h3p,h5s,h5p,h7s,h7p,h8s,h8p,h9s,h9p];done)|(simp only[zaR];rw[←hg1.2];simp[zar,h1s,h1p,h3s,h3p,h5s,h5p,h7s,h7p,h8s,h8p,h9s,h9p];omega)|(apply congrArg D.bool;simp[zaR,zar];omega)))
 try simp only[Q] at h9p
 refine ar ?_
 refine Exists.intro ((pre++[y],rest)) ⟨⟨(by have hz:=hg1.1;rw[←hz];simp),(by rw[←hg1.2];simp[Ty.eta,h1s,h1p,h3s,h3p,h5s,h5p,h7s,h7p,h8s,h8p,h9s,h9p])⟩,(by simp),Sub.x (by kernel_rfl) (by kernel_rfl) ⟨⟨_,rfl,(LeA.eqi (by first|rfl|(simp;done)|(simp_all;done)|omega))⟩,trivial⟩ (by kernel_rfl) (by kernel_rfl) trivial⟩
 try simp only[Q] at h8p
 have hrest:rest=[]:=by
  rcases rest with _|⟨a,b⟩
  ·rfl
  ·exfalso;have hz:=congrArg List.length (hg1.1);simp only[List.length_append,List.length_cons,List.length_map] at hz;omega
 subst hrest
 focus (refine rn0 (r1 rfl) (.eqd ?_);all_goals (first|(simp[zaR,h1s,h1p,h3s,h3p,h5s,h5p,h7s,h7p,h8s,h8p];done)|(simp only[zaR];rw[←hg1.2];simp[zar,h1s,h1p,h3s,h3p,h5s,h5p,h7s,h7p,h8s,h8p];done)|(simp only[zaR];rw[←hg1.2];simp[zar,h1s,h1p,h3s,h3p,h5s,h5p,h7s,h7p,h8s,h8p];omega)|(apply congrArg D.bool;simp[zaR,zar];omega)))
theorem zlT {w:List Data}{d k:Nat} (hs:WSmall w) (hd:d<w.length):FnD Tryz.prog 141 [.d (zao w),.d (.i d),.d (.i k)] [] (.d (.bool (zl2 w d k))) []:=by
 have hw:=hs.len
 refine bd Tryz.f141 79 [] [] fun w0 F0 own kept hk=>?_
 refine CWp.loopX (ι:=Nat) hk (fun i=>[(7,.d (.i (i:Int)))]) [6,8,9,10,11,12,13,14,15,16,17,18,19,20,21,22,23,24,25,26,27,28,29,30,31,32,33,34,35,36,37,38,39,40,41,42,43,44,45,46,47,48,49,50,51,52,53,54,55,56,57,58,59,60,61,62,63,64,65,66,67,68,69,70,71,72,73,74,75,76,77,78] (fun i=>[]) (fun i=>i≤d+1∧∀i',i'<i→zbL w d k i'=false) (fun i=>d+1-i) 0 ⟨by omega,fun _ h=>absurd h (by omega)⟩ ⟨⟨_,rfl,(LeA.eqi (by first|rfl|(simp;done)|(simp_all;done)|omega))⟩,trivial⟩ trivial (fun x=>rfl) (fun i hg1=>?_)
 refine evc [] [] ?_
 refine sq (fun h1 h1p h1s=>?_) fun h1 h1p h1s=>?_
 try simp only[Q,Int.ofNat_lt,Int.ofNat_le] at h1p
 refine sq (fun h2 h2p h2s=>?_) fun h2 h2p h2s=>?_
 try simp only[Q,Int.ofNat_lt,Int.ofNat_le] at h2p
 refine Walk.idx sl31 (.some rfl rfl h2) rfl rfl rfl rfl (zay (by omega)) rfl ?_
 refine evd [] [(17,true)] ?_ ⟨⟨_,rfl,h2⟩,trivial⟩
 refine Walk.idx sl31 (.some rfl rfl h2) rfl rfl rfl rfl (zay (by omega)) rfl ?_
 refine evd [] [(17,true)] ?_ ⟨⟨_,rfl,h2⟩,trivial⟩
 refine dr ?_
 refine sq (fun h3 h3p h3s=>?_) fun h3 h3p h3s=>?_
 try simp only[Q,Int.ofNat_lt,Int.ofNat_le] at h3p
 focus (refine rn0 (r1 rfl) (.eqd ?_);all_goals (first|(exfalso;omega)|(refine congrArg D.bool (zb7 (fun x hx=>hg1.2 x (Nat.lt_of_lt_of_le hx ?_))).symm;omega)|(refine congrArg D.bool (zaY (i:=i) (by omega) ?_).symm;simp[zbL,h1s,h1p,h2s,h2p,h3s,h3p];done)|(refine congrArg D.bool (zaY (i:=i) (by omega) ?_).symm;unfold zbL;rw[zaY (i:=j) (by omega) (by simp[zbE,h1s,h1p,h2s,h2p,h3s,h3p])];simp;done)))
 try simp only[Q,Int.ofNat_lt,Int.ofNat_le] at h3p
 refine CWp.loopX (ι:=Nat) hk (fun j=>[(8,.d (.i (j:Int)))]) [6,30,31,32,33,34,35,36,37,38,39,40,41,42,43,44,45,46,47,48,49,50,51,52,53,54,55,56,57,58,59,60,61,62,63,64,65,66,67,68,69,70,71,72,73,74,75,76,77,78] (fun j=>[]) (fun j=>j≤(nth w i).ctors.length∧∀j',j'<j→zbE w d k i j'=false) (fun j=>(nth w i).ctors.length-j) 0 ⟨by omega,fun _ h=>absurd h (by omega)⟩ ⟨⟨_,rfl,(LeA.eqi (by first|rfl|(simp;done)|(simp_all;done)|omega))⟩,trivial⟩ trivial (fun x=>rfl) (fun j hg2=>?_)
 have hb:=hs.ctors i
 refine evc [] [] ?_
 refine Walk.idx sl31 .none rfl rfl rfl rfl (zay (by omega)) rfl ?_
 refine ev ?_
 refine sq (fun h4 h4p h4s=>?_) fun h4 h4p h4s=>?_
 try simp only[Q,Int.ofNat_lt,Int.ofNat_le] at h4p
 refine sq (fun h5 h5p h5s=>?_) fun h5 h5p h5s=>?_
 try simp only[Q,Int.ofNat_lt,Int.ofNat_le] at h5p
 refine sqT ?_
 refine Walk.idx sl31 .none rfl rfl rfl rfl (zay (by omega)) rfl ?_
 refine evd [] [] ?_
 refine sq (fun h7 h7p h7s=>?_) fun h7 h7p h7s=>?_
 try simp only[Q,Int.ofNat_lt,Int.ofNat_le] at h7p
 refine Walk.idx sl31 (.some rfl rfl h7) rfl rfl rfl rfl (zay (by omega)) rfl ?_
 refine evd [] [(58,true)] ?_ ⟨⟨_,rfl,h7⟩,trivial⟩
 refine Walk.idx sl79 (.some rfl rfl h7) rfl rfl rfl rfl (zay (by omega)) rfl ?_
 refine evd [] [(58,true)] ?_ ⟨⟨_,rfl,h7⟩,trivial⟩
 refine Walk.idx sl31 (.some rfl rfl h7) rfl rfl rfl rfl (zay (by omega)) rfl ?_
 refine evd [] [(58,true)] ?_ ⟨⟨_,rfl,h7⟩,trivial⟩
 refine Walk.idx sl79 (.some rfl rfl h7) rfl rfl rfl rfl (zay (by omega)) rfl ?_
 refine evd [] [(58,true)] ?_ ⟨⟨_,rfl,h7⟩,trivial⟩
 refine dr ?_
 refine sq (fun h8 h8p h8s=>?_) fun h8 h8p h8s=>?_
 try simp only[Q,Int.ofNat_lt,Int.ofNat_le] at h8p
 focus (refine rn0 (r1 rfl) (.eqd ?_);all_goals (first|(exfalso;omega)|(refine congrArg D.bool (zb7 (fun x hx=>hg1.2 x (Nat.lt_of_lt_of_le hx ?_))).symm;omega)|(refine congrArg D.bool (zaY (i:=i) (by omega) ?_).symm;simp[zbL,h1s,h1p,h2s,h2p,h3s,h3p,h4s,h4p,h5s,h5p,h7s,h7p,h8s,h8p];done)|(refine congrArg D.bool (zaY (i:=i) (by omega) ?_).symm;unfold zbL;rw[zaY (i:=j) (by omega) (by simp[zbE,h1s,h1p,h2s,h2p,h3s,h3p,h4s,h4p,h5s,h5p,h7s,h7p,h8s,h8p])];simp;done)))
 try simp only[Q,Int.ofNat_lt,Int.ofNat_le] at h8p
 refine ar ?_
 refine Exists.intro (j+1) ⟨⟨by omega,za2 hg2.2 (by simp[zbE,h1s,h1p,h2s,h2p,h3s,h3p,h4s,h4p,h5s,h5p,h7s,h7p,h8s,h8p];done)⟩,(by omega),Sub.x (by kernel_rfl) (by kernel_rfl) ⟨⟨_,rfl,(LeA.eqi (by first|rfl|(simp;done)|(simp_all;done)|omega))⟩,trivial⟩ (by kernel_rfl) (by kernel_rfl) trivial⟩
 try simp only[Q,Int.ofNat_lt,Int.ofNat_le] at h7p
 refine dr ?_
 refine sqF ?_
 refine ar ?_
 refine Exists.intro (j+1) ⟨⟨by omega,za2 hg2.2 (by simp[zbE,h1s,h1p,h2s,h2p,h3s,h3p,h4s,h4p,h5s,h5p,h7s,h7p];done)⟩,(by omega),Sub.x (by kernel_rfl) (by kernel_rfl) ⟨⟨_,rfl,(LeA.eqi (by first|rfl|(simp;done)|(simp_all;done)|omega))⟩,trivial⟩ (by kernel_rfl) (by kernel_rfl) trivial⟩
 try simp only[Q,Int.ofNat_lt,Int.ofNat_le] at h5p
 refine sq (fun h10 h10p h10s=>?_) fun h10 h10p h10s=>?_
 try simp only[Q,Int.ofNat_lt,Int.ofNat_le] at h10p
 refine Walk.idx sl31 .none rfl rfl rfl rfl (zay (by omega)) rfl ?_
 refine evd [] [] ?_
 refine sq (fun h11 h11p h11s=>?_) fun h11 h11p h11s=>?_
 try simp only[Q,Int.ofNat_lt,Int.ofNat_le] at h11p
 refine Walk.idx sl31 (.some rfl rfl h11) rfl rfl rfl rfl (zay (by omega)) rfl ?_
 refine evd [] [(58,true)] ?_ ⟨⟨_,rfl,h11⟩,trivial⟩
 refine Walk.idx sl79 (.some rfl rfl h11) rfl rfl rfl rfl (zay (by omega)) rfl ?_
 refine evd [] [(58,true)] ?_ ⟨⟨_,rfl,h11⟩,trivial⟩
 refine Walk.idx sl31 (.some rfl rfl h11) rfl rfl rfl rfl (zay (by omega)) rfl ?_
 refine evd [] [(58,true)] ?_ ⟨⟨_,rfl,h11⟩,trivial⟩
 refine Walk.idx sl79 (.some rfl rfl h11) rfl rfl rfl rfl (zay (by omega)) rfl ?_
 refine evd [] [(58,true)] ?_ ⟨⟨_,rfl,h11⟩,trivial⟩
 refine dr ?_
 refine sq (fun h12 h12p h12s=>?_) fun h12 h12p h12s=>?_
 try simp only[Q,Int.ofNat_lt,Int.ofNat_le] at h12p
 focus (refine rn0 (r1 rfl) (.eqd ?_);all_goals (first|(exfalso;omega)|(refine congrArg D.bool (zb7 (fun x hx=>hg1.2 x (Nat.lt_of_lt_of_le hx ?_))).symm;omega)|(refine congrArg D.bool (zaY (i:=i) (by omega) ?_).symm;simp[zbL,h1s,h1p,h2s,h2p,h3s,h3p,h4s,h4p,h5s,h5p,h10s,h10p,h11s,h11p,h12s,h12p];done)|(refine congrArg D.bool (zaY (i:=i) (by omega) ?_).symm;unfold zbL;rw[zaY (i:=j) (by omega) (by simp[zbE,h1s,h1p,h2s,h2p,h3s,h3p,h4s,h4p,h5s,h5p,h10s,h10p,h11s,h11p,h12s,h12p])];simp;done)))
 try simp only[Q,Int.ofNat_lt,Int.ofNat_le] at h12p
 refine ar ?_
 refine Exists.intro (j+1) ⟨⟨by omega,za2 hg2.2 (by simp[zbE,h1s,h1p,h2s,h2p,h3s,h3p,h4s,h4p,h5s,h5p,h10s,h10p,h11s,h11p,h12s,h12p];done)⟩,(by omega),Sub.x (by kernel_rfl) (by kernel_rfl) ⟨⟨_,rfl,(LeA.eqi (by first|rfl|(simp;done)|(simp_all;done)|omega))⟩,trivial⟩ (by kernel_rfl) (by kernel_rfl) trivial⟩
 try simp only[Q,Int.ofNat_lt,Int.ofNat_le] at h11p
 refine dr ?_
 refine sqF ?_
 refine ar ?_
 refine Exists.intro (j+1) ⟨⟨by omega,za2 hg2.2 (by simp[zbE,h1s,h1p,h2s,h2p,h3s,h3p,h4s,h4p,h5s,h5p,h10s,h10p,h11s,h11p];done)⟩,(by omega),Sub.x (by kernel_rfl) (by kernel_rfl) ⟨⟨_,rfl,(LeA.eqi (by first|rfl|(simp;done)|(simp_all;done)|omega))⟩,trivial⟩ (by kernel_rfl) (by kernel_rfl) trivial⟩
 try simp only[Q,Int.ofNat_lt,Int.ofNat_le] at h10p
 refine ar ?_
 refine Exists.intro (i+1) ⟨⟨by omega,za2 hg1.2 (zhq (by simp[h1s,h1p,h2s,h2p,h3s,h3p,h4s,h4p,h5s,h5p,h10s,h10p]) hg2.2 (fun hj=>by omega))⟩,(by omega),Sub.x (by kernel_rfl) (by kernel_rfl) ⟨⟨_,rfl,(LeA.eqi (by first|rfl|(simp;done)|(simp_all;done)|omega))⟩,trivial⟩ (by kernel_rfl) (by kernel_rfl) trivial⟩
 try simp only[Q,Int.ofNat_lt,Int.ofNat_le] at h4p
 refine sqF ?_
 refine ar ?_
 refine Exists.intro (i+1) ⟨⟨by omega,za2 hg1.2 (zhq (by simp[h1s,h1p,h2s,h2p,h3s,h3p,h4s,h4p]) hg2.2 (fun hj=>by omega))⟩,(by omega),Sub.x (by kernel_rfl) (by kernel_rfl) ⟨⟨_,rfl,(LeA.eqi (by first|rfl|(simp;done)|(simp_all;done)|omega))⟩,trivial⟩ (by kernel_rfl) (by kernel_rfl) trivial⟩
 try simp only[Q,Int.ofNat_lt,Int.ofNat_le] at h2p
 refine dr ?_
 refine sqF ?_
 refine CWp.loopX (ι:=Nat) hk (fun j=>[(8,.d (.i (j:Int)))]) [6,30,31,32,33,34,35,36,37,38,39,40,41,42,43,44,45,46,47,48,49,50,51,52,53,54,55,56,57,58,59,60,61,62,63,64,65,66,67,68,69,70,71,72,73,74,75,76,77,78] (fun j=>[]) (fun j=>j≤(nth w i).ctors.length∧∀j',j'<j→zbE w d k i j'=false) (fun j=>(nth w i).ctors.length-j) 0 ⟨by omega,fun _ h=>absurd h (by omega)⟩ ⟨⟨_,rfl,(LeA.eqi (by first|rfl|(simp;done)|(simp_all;done)|omega))⟩,trivial⟩ trivial (fun x=>rfl) (fun j hg2=>?_)
 have hb:=hs.ctors i
 refine evc [] [] ?_
 refine Walk.idx sl31 .none rfl rfl rfl rfl (zay (by omega)) rfl ?_
 refine ev ?_
 refine sq (fun h16 h16p h16s=>?_) fun h16 h16p h16s=>?_
 try simp only[Q,Int.ofNat_lt,Int.ofNat_le] at h16p
 refine sq (fun h17 h17p h17s=>?_) fun h17 h17p h17s=>?_
 try simp only[Q,Int.ofNat_lt,Int.ofNat_le] at h17p
 refine sqT ?_
 refine Walk.idx sl31 .none rfl rfl rfl rfl (zay (by omega)) rfl ?_
 refine evd [] [] ?_
 refine sq (fun h19 h19p h19s=>?_) fun h19 h19p h19s=>?_
 try simp only[Q,Int.ofNat_lt,Int.ofNat_le] at h19p
 refine Walk.idx sl31 (.some rfl rfl h19) rfl rfl rfl rfl (zay (by omega)) rfl ?_
 refine evd [] [(58,true)] ?_ ⟨⟨_,rfl,h19⟩,trivial⟩
 refine Walk.idx sl79 (.some rfl rfl h19) rfl rfl rfl rfl (zay (by omega)) rfl ?_
 refine evd [] [(58,true)] ?_ ⟨⟨_,rfl,h19⟩,trivial⟩
 refine Walk.idx sl31 (.some rfl rfl h19) rfl rfl rfl rfl (zay (by omega)) rfl ?_
 refine evd [] [(58,true)] ?_ ⟨⟨_,rfl,h19⟩,trivial⟩
 refine Walk.idx sl79 (.some rfl rfl h19) rfl rfl rfl rfl (zay (by omega)) rfl ?_
 refine evd [] [(58,true)] ?_ ⟨⟨_,rfl,h19⟩,trivial⟩
 refine dr ?_
 refine sq (fun h20 h20p h20s=>?_) fun h20 h20p h20s=>?_
 try simp only[Q,Int.ofNat_lt,Int.ofNat_le] at h20p
 focus (refine rn0 (r1 rfl) (.eqd ?_);all_goals (first|(exfalso;omega)|(refine congrArg D.bool (zb7 (fun x hx=>hg1.2 x (Nat.lt_of_lt_of_le hx ?_))).symm;omega)|(refine congrArg D.bool (zaY (i:=i) (by omega) ?_).symm;simp[zbL,h1s,h1p,h2s,h2p,h16s,h16p,h17s,h17p,h19s,h19p,h20s,h20p];done)|(refine congrArg D.bool (zaY (i:=i) (by omega) ?_).symm;unfold zbL;rw[zaY (i:=j) (by omega) (by simp[zbE,h1s,h1p,h2s,h2p,h16s,h16p,h17s,h17p,h19s,h19p,h20s,h20p])];simp;done)))
 try simp only[Q,Int.ofNat_lt,Int.ofNat_le] at h20p
 refine ar ?_
 refine Exists.intro (j+1) ⟨⟨by omega,za2 hg2.2 (by simp[zbE,h1s,h1p,h2s,h2p,h16s,h16p,h17s,h17p,h19s,h19p,h20s,h20p];done)⟩,(by omega),Sub.x (by kernel_rfl) (by kernel_rfl) ⟨⟨_,rfl,(LeA.eqi (by first|rfl|(simp;done)|(simp_all;done)|omega))⟩,trivial⟩ (by kernel_rfl) (by kernel_rfl) trivial⟩
 try simp only[Q,Int.ofNat_lt,Int.ofNat_le] at h19p
 refine dr ?_
 refine sqF ?_
 refine ar ?_
 refine Exists.intro (j+1) ⟨⟨by omega,za2 hg2.2 (by simp[zbE,h1s,h1p,h2s,h2p,h16s,h16p,h17s,h17p,h19s,h19p];done)⟩,(by omega),Sub.x (by kernel_rfl) (by kernel_rfl) ⟨⟨_,rfl,(LeA.eqi (by first|rfl|(simp;done)|(simp_all;done)|omega))⟩,trivial⟩ (by kernel_rfl) (by kernel_rfl) trivial⟩
 try simp only[Q,Int.ofNat_lt,Int.ofNat_le] at h17p
 refine sq (fun h22 h22p h22s=>?_) fun h22 h22p h22s=>?_
 try simp only[Q,Int.ofNat_lt,Int.ofNat_le] at h22p
 refine Walk.idx sl31 .none rfl rfl rfl rfl (zay (by omega)) rfl ?_
 refine evd [] [] ?_
 refine sq (fun h23 h23p h23s=>?_) fun h23 h23p h23s=>?_
 try simp only[Q,Int.ofNat_lt,Int.ofNat_le] at h23p
 refine Walk.idx sl31 (.some rfl rfl h23) rfl rfl rfl rfl (zay (by omega)) rfl ?_
 refine evd [] [(58,true)] ?_ ⟨⟨_,rfl,h23⟩,trivial⟩
 refine Walk.idx sl79 (.some rfl rfl h23) rfl rfl rfl rfl (zay (by omega)) rfl ?_
 refine evd [] [(58,true)] ?_ ⟨⟨_,rfl,h23⟩,trivial⟩
 refine Walk.idx sl31 (.some rfl rfl h23) rfl rfl rfl rfl (zay (by omega)) rfl ?_
 refine evd [] [(58,true)] ?_ ⟨⟨_,rfl,h23⟩,trivial⟩
 refine Walk.idx sl79 (.some rfl rfl h23) rfl rfl rfl rfl (zay (by omega)) rfl ?_
 refine evd [] [(58,true)] ?_ ⟨⟨_,rfl,h23⟩,trivial⟩
 refine dr ?_
 refine sq (fun h24 h24p h24s=>?_) fun h24 h24p h24s=>?_
 try simp only[Q,Int.ofNat_lt,Int.ofNat_le] at h24p
 focus (refine rn0 (r1 rfl) (.eqd ?_);all_goals (first|(exfalso;omega)|(refine congrArg D.bool (zb7 (fun x hx=>hg1.2 x (Nat.lt_of_lt_of_le hx ?_))).symm;omega)|(refine congrArg D.bool (zaY (i:=i) (by omega) ?_).symm;simp[zbL,h1s,h1p,h2s,h2p,h16s,h16p,h17s,h17p,h22s,h22p,h23s,h23p,h24s,h24p];done)|(refine congrArg D.bool (zaY (i:=i) (by omega) ?_).symm;unfold zbL;rw[zaY (i:=j) (by omega) (by simp[zbE,h1s,h1p,h2s,h2p,h16s,h16p,h17s,h17p,h22s,h22p,h23s,h23p,h24s,h24p])];simp;done)))
 try simp only[Q,Int.ofNat_lt,Int.ofNat_le] at h24p
 refine ar ?_
 refine Exists.intro (j+1) ⟨⟨by omega,za2 hg2.2 (by simp[zbE,h1s,h1p,h2s,h2p,h16s,h16p,h17s,h17p,h22s,h22p,h23s,h23p,h24s,h24p];done)⟩,(by omega),Sub.x (by kernel_rfl) (by kernel_rfl) ⟨⟨_,rfl,(LeA.eqi (by first|rfl|(simp;done)|(simp_all;done)|omega))⟩,trivial⟩ (by kernel_rfl) (by kernel_rfl) trivial⟩
 try simp only[Q,Int.ofNat_lt,Int.ofNat_le] at h23p
 refine dr ?_
 refine sqF ?_
 refine ar ?_
 refine Exists.intro (j+1) ⟨⟨by omega,za2 hg2.2 (by simp[zbE,h1s,h1p,h2s,h2p,h16s,h16p,h17s,h17p,h22s,h22p,h23s,h23p];done)⟩,(by omega),Sub.x (by kernel_rfl) (by kernel_rfl) ⟨⟨_,rfl,(LeA.eqi (by first|rfl|(simp;done)|(simp_all;done)|omega))⟩,trivial⟩ (by kernel_rfl) (by kernel_rfl) trivial⟩
 try simp only[Q,Int.ofNat_lt,Int.ofNat_le] at h22p
 refine ar ?_
 refine Exists.intro (i+1) ⟨⟨by omega,za2 hg1.2 (zhq (by simp[h1s,h1p,h2s,h2p,h16s,h16p,h17s,h17p,h22s,h22p]) hg2.2 (fun hj=>by omega))⟩,(by omega),Sub.x (by kernel_rfl) (by kernel_rfl) ⟨⟨_,rfl,(LeA.eqi (by first|rfl|(simp;done)|(simp_all;done)|omega))⟩,trivial⟩ (by kernel_rfl) (by kernel_rfl) trivial⟩
 try simp only[Q,Int.ofNat_lt,Int.ofNat_le] at h16p
 refine sqF ?_
 refine ar ?_
 refine Exists.intro (i+1) ⟨⟨by omega,za2 hg1.2 (zhq (by simp[h1s,h1p,h2s,h2p,h16s,h16p]) hg2.2 (fun hj=>by omega))⟩,(by omega),Sub.x (by kernel_rfl) (by kernel_rfl) ⟨⟨_,rfl,(LeA.eqi (by first|rfl|(simp;done)|(simp_all;done)|omega))⟩,trivial⟩ (by kernel_rfl) (by kernel_rfl) trivial⟩
 try simp only[Q,Int.ofNat_lt,Int.ofNat_le] at h1p
 focus (refine rn0 (r1 rfl) (.eqd ?_);all_goals (first|(exfalso;omega)|(refine congrArg D.bool (zb7 (fun x hx=>hg1.2 x (Nat.lt_of_lt_of_le hx ?_))).symm;omega)|(refine congrArg D.bool (zaY (i:=i) (by omega) ?_).symm;simp[zbL,h1s,h1p];done)|(refine congrArg D.bool (zaY (i:=i) (by omega) ?_).symm;unfold zbL;rw[zaY (i:=j) (by omega) (by simp[zbE,h1s,h1p])];simp;done)))
theorem zeT {w:List Data} (h:w.length≤4) (h2:∀i,i<w.length→zaU w i=true):zbB w=true:=by
 unfold zbB;rw[zeh h2];simp[h]
theorem zfI {w:List Data} (h:4<w.length):zbB w=false:=by
 unfold zbB;rw[decide_eq_false (by omega)];rfl
theorem za6 {w:List Data}{i:Nat} (h:i<w.length) (h2:zaU w i=false):zbB w=false:=by
 unfold zbB;rw[zbQ h h2];simp
theorem znD {w:List Data}{d:Nat} (h:zaI (nth w d).name=true) (h1:1≤(nth w d).ctors.length) (h2:(nth w d).ctors.length≤4) (h3:∀k,k<(nth w d).ctors.length→zcw w d k=true):zaU w d=true:=by
 unfold zaU;rw[h,zeh h3];simp[h1,h2]
theorem zjv {w:List Data} (hs:WSmall w):FnD Tryz.prog 82 [.d (zao w)] [] (.d (.bool (zbB w))) []:=by
 have hw:=hs.len
 refine bd Tryz.f82 67 [] [] fun w0 F0 own kept hk=>?_
 refine sq (fun h1 h1p h1s=>?_) fun h1 h1p h1s=>?_
 try simp only[Q,Int.ofNat_lt,Int.ofNat_le] at h1p
 focus (refine rn0 (r1 rfl) (.eqd ?_);all_goals (first|(refine congrArg D.bool (zeT ?_ (fun x hx=>hg1.2 x (Nat.lt_of_lt_of_le hx ?_))).symm<;>omega)|(refine congrArg D.bool (zfI ?_).symm;omega)|(refine congrArg D.bool (za6 (i:=i) (by omega) ?_).symm;simp[zaU,h1s,h1p];done)|(refine congrArg D.bool (za6 (i:=i) (by omega) ?_).symm;unfold zaU;rw[decide_eq_false (p:=1≤(nth w i).ctors.length) (by omega)];simp;done)|(refine congrArg D.bool (za6 (i:=i) (by omega) ?_).symm;unfold zaU;rw[decide_eq_false (p:=(nth w i).ctors.length≤4) (by omega)];simp;done)|(refine congrArg D.bool (za6 (i:=i) (by omega) ?_).symm;unfold zaU;rw[zbQ (i:=k) (by omega) (by simp[zcw,Ctor.eta,h1s,h1p])];simp;done)))
 try simp only[Q,Int.ofNat_lt,Int.ofNat_le] at h1p
 refine CWp.loopX (ι:=Nat) hk (fun i=>[(3,.d (.i (i:Int)))]) [2,4,8,9,10,11,12,13,14,15,16,17,18,19,20,21,22,23,24,25,26,27,28,29,30,31,32,33,34,35,36,37,38,39,40,41,42,43,44,45,46,47,48,49,50,51,52,53,54,55,56,57,58,59,60,61,62,63,64,65,66] (fun i=>[]) (fun i=>i≤w.length∧∀i',i'<i→zaU w i'=true) (fun i=>w.length-i) 0 ⟨by omega,fun _ h=>absurd h (by omega)⟩ ⟨⟨_,rfl,(LeA.eqi (by first|rfl|(simp;done)|(simp_all;done)|omega))⟩,trivial⟩ trivial (fun x=>rfl) (fun i hg1=>?_)
 refine evc [] [] ?_
 refine sq (fun h2 h2p h2s=>?_) fun h2 h2p h2s=>?_
 try simp only[Q,Int.ofNat_lt,Int.ofNat_le] at h2p
 refine Walk.idx sl31 .none rfl rfl rfl rfl (zay (by omega)) rfl ?_
 refine ev ?_
 refine Walk.call (cr:=[]) zs1 (zmG (hs.data _ (zal (by omega))).1) rfl .none rfl rfl (LeL.refl _) trivial rfl rfl rfl ?_
 refine ev ?_
 refine sq (fun h3 h3p h3s=>?_) fun h3 h3p h3s=>?_
 try simp only[Q,Int.ofNat_lt,Int.ofNat_le] at h3p
 refine sqT ?_
 refine sqT ?_
 focus (refine rn0 (r1 rfl) (.eqd ?_);all_goals (first|(refine congrArg D.bool (zeT ?_ (fun x hx=>hg1.2 x (Nat.lt_of_lt_of_le hx ?_))).symm<;>omega)|(refine congrArg D.bool (zfI ?_).symm;omega)|(refine congrArg D.bool (za6 (i:=i) (by omega) ?_).symm;simp[zaU,h1s,h1p,h2s,h2p,h3s,h3p];done)|(refine congrArg D.bool (za6 (i:=i) (by omega) ?_).symm;unfold zaU;rw[decide_eq_false (p:=1≤(nth w i).ctors.length) (by omega)];simp;done)|(refine congrArg D.bool (za6 (i:=i) (by omega) ?_).symm;unfold zaU;rw[decide_eq_false (p:=(nth w i).ctors.length≤4) (by omega)];simp;done)|(refine congrArg D.bool (za6 (i:=i) (by omega) ?_).symm;unfold zaU;rw[zbQ (i:=k) (by omega) (by simp[zcw,Ctor.eta,h1s,h1p,h2s,h2p,h3s,h3p])];simp;done)))
 try simp only[Q,Int.ofNat_lt,Int.ofNat_le] at h3p
 refine Walk.idx sl31 (.some rfl rfl h3) rfl rfl rfl rfl (zay (by omega)) rfl ?_
 refine evs [] [(21,false)] ?_ ⟨⟨_,rfl,h3⟩,trivial⟩
 refine sq (fun h5 h5p h5s=>?_) fun h5 h5p h5s=>?_
 try simp only[Q,Int.ofNat_lt,Int.ofNat_le] at h5p
 refine sqT ?_
 focus (refine rn0 (r1 rfl) (.eqd ?_);all_goals (first|(refine congrArg D.bool (zeT ?_ (fun x hx=>hg1.2 x (Nat.lt_of_lt_of_le hx ?_))).symm<;>omega)|(refine congrArg D.bool (zfI ?_).symm;omega)|(refine congrArg D.bool (za6 (i:=i) (by omega) ?_).symm;simp[zaU,h1s,h1p,h2s,h2p,h3s,h3p,h5s,h5p];done)|(refine congrArg D.bool (za6 (i:=i) (by omega) ?_).symm;unfold zaU;rw[decide_eq_false (p:=1≤(nth w i).ctors.length) (by omega)];simp;done)|(refine congrArg D.bool (za6 (i:=i) (by omega) ?_).symm;unfold zaU;rw[decide_eq_false (p:=(nth w i).ctors.length≤4) (by omega)];simp;done)|(refine congrArg D.bool (za6 (i:=i) (by omega) ?_).symm;unfold zaU;rw[zbQ (i:=k) (by omega) (by simp[zcw,Ctor.eta,h1s,h1p,h2s,h2p,h3s,h3p,h5s,h5p])];simp;done)))
 try simp only[Q,Int.ofNat_lt,Int.ofNat_le] at h5p
 refine Walk.idx sl31 (.some rfl rfl h5) rfl rfl rfl rfl (zay (by omega)) rfl ?_
 refine evs [] [(30,false)] ?_ ⟨⟨_,rfl,h5⟩,trivial⟩
 refine sq (fun h7 h7p h7s=>?_) fun h7 h7p h7s=>?_
 try simp only[Q,Int.ofNat_lt,Int.ofNat_le] at h7p
 focus (refine rn0 (r1 rfl) (.eqd ?_);all_goals (first|(refine congrArg D.bool (zeT ?_ (fun x hx=>hg1.2 x (Nat.lt_of_lt_of_le hx ?_))).symm<;>omega)|(refine congrArg D.bool (zfI ?_).symm;omega)|(refine congrArg D.bool (za6 (i:=i) (by omega) ?_).symm;simp[zaU,h1s,h1p,h2s,h2p,h3s,h3p,h5s,h5p,h7s,h7p];done)|(refine congrArg D.bool (za6 (i:=i) (by omega) ?_).symm;unfold zaU;rw[decide_eq_false (p:=1≤(nth w i).ctors.length) (by omega)];simp;done)|(refine congrArg D.bool (za6 (i:=i) (by omega) ?_).symm;unfold zaU;rw[decide_eq_false (p:=(nth w i).ctors.length≤4) (by omega)];simp;done)|(refine congrArg D.bool (za6 (i:=i) (by omega) ?_).symm;unfold zaU;rw[zbQ (i:=k) (by omega) (by simp[zcw,Ctor.eta,h1s,h1p,h2s,h2p,h3s,h3p,h5s,h5p,h7s,h7p])];simp;done)))
 try simp only[Q,Int.ofNat_lt,Int.ofNat_le] at h7p
 refine CWp.loopX (ι:=Nat) hk (fun k=>[(4,.d (.i (k:Int)))]) [2,39,40,41,42,43,44,45,46,47,48,49,50,51,52,53,54,55,56,57,58,59,60,61,62,63,64,65,66] (fun k=>[]) (fun k=>k≤(nth w i).ctors.length∧∀k',k'<k→zcw w i k'=true) (fun k=>(nth w i).ctors.length-k) 0 ⟨by omega,fun _ h=>absurd h (by omega)⟩ ⟨⟨_,rfl,(LeA.eqi (by first|rfl|(simp;done)|(simp_all;done)|omega))⟩,trivial⟩ trivial (fun x=>rfl) (fun k hg2=>?_)
 have hb:=hs.ctors i
 refine evc [] [] ?_
 refine Walk.idx sl31 .none rfl rfl rfl rfl (zay (by omega)) rfl ?_
 refine ev ?_
 refine sq (fun h8 h8p h8s=>?_) fun h8 h8p h8s=>?_
 try simp only[Q,Int.ofNat_lt,Int.ofNat_le] at h8p
 refine Walk.idx sl31 .none rfl rfl rfl rfl (zay (by omega)) rfl ?_
 refine ev ?_
 refine Walk.idx sl79 .none rfl rfl rfl rfl (zay (by omega)) rfl ?_
 refine ev ?_
 refine Walk.call (cr:=[]) zs2 (zmE (hs.ctor _ (zal (i:=i) (by omega)) _ (zal (i:=k) (by omega))).1 (hs.ctor _ (zal (i:=i) (by omega)) _ (zal (i:=k) (by omega))).2) rfl .none rfl rfl (LeL.refl _) trivial rfl rfl rfl ?_
 refine ev ?_
 refine sq (fun h9 h9p h9s=>?_) fun h9 h9p h9s=>?_
 try simp only[Q,Int.ofNat_lt,Int.ofNat_le] at h9p
 refine sqT ?_
 focus (refine rn0 (r1 rfl) (.eqd ?_);all_goals (first|(refine congrArg D.bool (zeT ?_ (fun x hx=>hg1.2 x (Nat.lt_of_lt_of_le hx ?_))).symm<;>omega)|(refine congrArg D.bool (zfI ?_).symm;omega)|(refine congrArg D.bool (za6 (i:=i) (by omega) ?_).symm;simp[zaU,h1s,h1p,h2s,h2p,h3s,h3p,h5s,h5p,h7s,h7p,h8s,h8p,h9s,h9p];done)|(refine congrArg D.bool (za6 (i:=i) (by omega) ?_).symm;unfold zaU;rw[decide_eq_false (p:=1≤(nth w i).ctors.length) (by omega)];simp;done)|(refine congrArg D.bool (za6 (i:=i) (by omega) ?_).symm;unfold zaU;rw[decide_eq_false (p:=(nth w i).ctors.length≤4) (by omega)];simp;done)|(refine congrArg D.bool (za6 (i:=i) (by omega) ?_).symm;unfold zaU;rw[zbQ (i:=k) (by omega) (by simp[zcw,Ctor.eta,h1s,h1p,h2s,h2p,h3s,h3p,h5s,h5p,h7s,h7p,h8s,h8p,h9s,h9p])];simp;done)))
 try simp only[Q,Int.ofNat_lt,Int.ofNat_le] at h9p
 refine Walk.call (cr:=[]) zs3 (zlT hs (by omega)) rfl (.some rfl rfl h9) rfl rfl (LeL.refl _) trivial rfl rfl rfl ?_
 refine evs [] [(61,false)] ?_ ⟨⟨_,rfl,h9⟩,trivial⟩
 refine sq (fun h11 h11p h11s=>?_) fun h11 h11p h11s=>?_
 try simp only[Q,Int.ofNat_lt,Int.ofNat_le] at h11p
 focus (refine rn0 (r1 rfl) (.eqd ?_);all_goals (first|(refine congrArg D.bool (zeT ?_ (fun x hx=>hg1.2 x (Nat.lt_of_lt_of_le hx ?_))).symm<;>omega)|(refine congrArg D.bool (zfI ?_).symm;omega)|(refine congrArg D.bool (za6 (i:=i) (by omega) ?_).symm;simp[zaU,h1s,h1p,h2s,h2p,h3s,h3p,h5s,h5p,h7s,h7p,h8s,h8p,h9s,h9p,h11s,h11p];done)|(refine congrArg D.bool (za6 (i:=i) (by omega) ?_).symm;unfold zaU;rw[decide_eq_false (p:=1≤(nth w i).ctors.length) (by omega)];simp;done)|(refine congrArg D.bool (za6 (i:=i) (by omega) ?_).symm;unfold zaU;rw[decide_eq_false (p:=(nth w i).ctors.length≤4) (by omega)];simp;done)|(refine congrArg D.bool (za6 (i:=i) (by omega) ?_).symm;unfold zaU;rw[zbQ (i:=k) (by omega) (by simp[zcw,Ctor.eta,h1s,h1p,h2s,h2p,h3s,h3p,h5s,h5p,h7s,h7p,h8s,h8p,h9s,h9p,h11s,h11p])];simp;done)))
 try simp only[Q,Int.ofNat_lt,Int.ofNat_le] at h11p
 refine ar ?_
 refine Exists.intro (k+1) ⟨⟨by omega,za2 hg2.2 (by simp[zcw,Ctor.eta,h1s,h1p,h2s,h2p,h3s,h3p,h5s,h5p,h7s,h7p,h8s,h8p,h9s,h9p,h11s,h11p];done)⟩,(by omega),Sub.x (by kernel_rfl) (by kernel_rfl) ⟨⟨_,rfl,(LeA.eqi (by first|rfl|(simp;done)|(simp_all;done)|omega))⟩,trivial⟩ (by kernel_rfl) (by kernel_rfl) trivial⟩
 try simp only[Q,Int.ofNat_lt,Int.ofNat_le] at h8p
 refine ar ?_
 refine Exists.intro (i+1) ⟨⟨by omega,za2 hg1.2 (znD (by simp[h1s,h1p,h2s,h2p,h3s,h3p,h5s,h5p,h7s,h7p,h8s,h8p]) (by omega) (by omega) (fun x hx=>hg2.2 x (by omega)))⟩,(by omega),Sub.x (by kernel_rfl) (by kernel_rfl) ⟨⟨_,rfl,(LeA.eqi (by first|rfl|(simp;done)|(simp_all;done)|omega))⟩,trivial⟩ (by kernel_rfl) (by kernel_rfl) trivial⟩
 try simp only[Q,Int.ofNat_lt,Int.ofNat_le] at h2p
 focus (refine rn0 (r1 rfl) (.eqd ?_);all_goals (first|(refine congrArg D.bool (zeT ?_ (fun x hx=>hg1.2 x (Nat.lt_of_lt_of_le hx ?_))).symm<;>omega)|(refine congrArg D.bool (zfI ?_).symm;omega)|(refine congrArg D.bool (za6 (i:=i) (by omega) ?_).symm;simp[zaU,h1s,h1p,h2s,h2p];done)|(refine congrArg D.bool (za6 (i:=i) (by omega) ?_).symm;unfold zaU;rw[decide_eq_false (p:=1≤(nth w i).ctors.length) (by omega)];simp;done)|(refine congrArg D.bool (za6 (i:=i) (by omega) ?_).symm;unfold zaU;rw[decide_eq_false (p:=(nth w i).ctors.length≤4) (by omega)];simp;done)|(refine congrArg D.bool (za6 (i:=i) (by omega) ?_).symm;unfold zaU;rw[zbQ (i:=k) (by omega) (by simp[zcw,Ctor.eta,h1s,h1p,h2s,h2p])];simp;done)))
def szr (left:Int) (m:Nat):Int:=if left<m then -1 else left-m
theorem zbX {left:Int} (m:Nat):(left<m∧szr left m = -1)∨((m:Int)≤left∧szr left m=left-m):=by
 unfold szr;split<;>omega
def mTys (l:List Ty):Nat:=l.length
def zfh (c:Ctor):Nat:=c.name.length+mTys c.args
def zfZ (l:List Ctor):Nat:=l.length+(l.map zfh).sum
def zfi (c:Data):Nat:=c.name.length+zfZ c.ctors
def zeC (l:List Data):Nat:=l.length+(l.map zfi).sum
structure CSmall (l:List Ctor):Prop where
 len:l.length≤1000000000000
 ctor:∀c∈l,c.name.length≤1000000000000∧c.args.length≤1000000000000
theorem WSmall.cs {w:List Data} (h:WSmall w){d:Data} (hd:d∈w):CSmall d.ctors:=⟨(h.data d hd).2,h.ctor d hd⟩
theorem zlm {l:List Ty}{left:Int} (h:l.length≤1000000000000) (k0:0≤left) (k1:left≤1000000000000):FnD Tryz.prog 158 [.d (zby l),.d (.i left)] [] (.d (.i (szr left (mTys l)))) []:=by
 have z:=zbX (left:=left) (mTys l)
 refine bd Tryz.f158 12 [] [] fun w0 F0 own kept hk=>?_
 refine ar ?_
 refine sq (fun h1 h1p h1s=>?_) fun h1 h1p h1s=>?_
 try simp only[Q] at h1p
 refine rn0 (r1 rfl) (.eqd ?_)
 rotate_left
 try simp only[Q] at h1p
 refine rn0 (r1 rfl) (.eqd ?_)
 rotate_left
 all_goals (refine congrArg D.i ?_;simp only[mTys,List.length_map] at *;omega)
theorem zmr {s:Str}{args:List Ty}{k left:Int} (h:s.length≤1000000000000) (h':args.length≤1000000000000) (k0:0≤left) (k1:left≤1000000000000):FnD Tryz.prog 101 [.agg [.d (.str s),.d (zby args),.d (.i k)],.d (.i left)] [] (.d (.i (szr left (zfh ⟨s,args,k⟩)))) []:=by
 have z:=zbX (left:=left) (zfh ⟨s,args,k⟩)
 have z2:=zbX (left:=left-s.length) (mTys args)
 simp only[zfh] at z z2 ⊢
 refine bd Tryz.f101 19 [] [] fun w0 F0 own kept hk=>?_
 refine Walk.box (id:=3002) .none rfl rfl rfl rfl rfl rfl rfl ?_
 refine ev ?_
 refine ar ?_
 refine sq (fun h1 h1p h1s=>?_) fun h1 h1p h1s=>?_
 try simp only[Q] at h1p
 refine rn0 (r1 rfl) (.eqd ?_)
 rotate_left
 try simp only[Q] at h1p
 refine Walk.call (cr:=[]) zs6 (zlm h' (by omega) (by omega)) rfl .none rfl rfl (LeL.refl _) trivial rfl rfl rfl ?_
 refine ev ?_
 refine sq (fun h2 h2p h2s=>?_) fun h2 h2p h2s=>?_
 try simp only[Q] at h2p
 refine rn0 (r1 rfl) (.eqd ?_)
 rotate_left
 try simp only[Q] at h2p
 refine rn0 (r1 rfl) (.eqd ?_)
 rotate_left
 all_goals (refine congrArg D.i ?_;omega)
theorem zdH {α:Type}{f:α→Nat}{pre rest l:List α}{y:α} (h:pre++y::rest=l):(l.map f).sum=(pre.map f).sum+f y+(rest.map f).sum:=by
 subst h;simp;omega
theorem zll {l:List Ctor}{left:Int} (hs:CSmall l) (k0:0≤left) (k1:left≤1000000000000):FnD Tryz.prog 54 [.d (zcf l),.d (.i left)] [] (.d (.i (szr left (zfZ l)))) []:=by
 have h:=hs.len
 have z:=zbX (left:=left) (zfZ l)
 simp only[zfZ] at z ⊢
 refine bd Tryz.f54 27 [] [] fun w0 F0 own kept hk=>?_
 refine ar ?_
 refine sq (fun h1 h1p h1s=>?_) fun h1 h1p h1s=>?_
 try simp only[Q] at h1p
 refine rn0 (r1 rfl) (.eqd ?_)
 rotate_left
 try simp only[Q] at h1p
 refine CWp.loopX (ι:=List (Ctor)×List (Ctor)×(Int)) hk (fun x=>[(5,.d (.i (x.1.length:Int))),(1,.d (.i x.2.2))]) [4,12,13,14,15,16,17,18,19,20,21,22,23,24,25] (fun x=>[]) (fun x=>x.1++x.2.1=l∧x.2.2=left-l.length-(x.1.map zfh).sum∧0≤x.2.2) (fun x=>x.2.1.length) ([],l,left-l.length) ⟨by simp,by simp,by simp at *;omega⟩ ⟨⟨_,rfl,(LeA.eqi (by first|rfl|(simp;done)))⟩,⟨⟨_,rfl,(LeA.eqi (by first|rfl|(simp;done)))⟩,trivial⟩⟩ trivial (fun x=>rfl) (fun x hg1=>?_)
 obtain⟨pre,rest,v⟩:=x
 dsimp only at hg1 ⊢
 refine evc [] [] ?_
 refine sq (fun h2 h2p h2s=>?_) fun h2 h2p h2s=>?_
 try simp only[Q] at h2p
 rcases rest with _|⟨y,rest⟩
 ·exfalso;simp_all
 refine Walk.idx sl63 .none rfl rfl rfl rfl (za0 hg1.1) rfl ?_
 refine ev ?_
 refine Walk.call (cr:=[]) zsL (zmr (hs.ctor y (by rw[←hg1.1];simp)).1 (hs.ctor y (by rw[←hg1.1];simp)).2 (by omega) (by omega)) rfl .none rfl rfl (LeL.refl _) trivial rfl rfl rfl ?_
 refine ev ?_
 refine sq (fun h3 h3p h3s=>?_) fun h3 h3p h3s=>?_
 try simp only[Q] at h3p
 refine rn0 (r1 rfl) (.eqd ?_)
 rotate_left
 try simp only[Q] at h3p
 refine ar ?_
 refine Exists.intro ((pre++[y],rest,szr v (zfh y))) ⟨⟨(by have hz:=hg1.1;rw[←hz];simp),(by have e:=zdH (f:=zfh) hg1.1;have z3:=zbX (left:=v) (zfh y);simp only[Ctor.eta] at *;simp;omega)⟩,(by simp),Sub.x (by kernel_rfl) (by kernel_rfl) ⟨⟨_,rfl,(LeA.eqi (by first|rfl|(simp;done)))⟩,⟨⟨_,rfl,(LeA.eqi (by first|rfl|(simp;done)))⟩,trivial⟩⟩ (by kernel_rfl) (by kernel_rfl) trivial⟩
 try simp only[Q] at h2p
 have hrest:rest=[]:=by
  rcases rest with _|⟨a,b⟩
  ·rfl
  ·exfalso;have hz:=congrArg List.length (hg1.1);simp only[List.length_append,List.length_cons,List.length_map] at hz;omega
 subst hrest
 refine rn0 (r1 rfl) (.eqd ?_)
 rotate_left
 all_goals (refine congrArg D.i ?_;first|omega|(have e:=zdH (f:=zfh) hg1.1;have z3:=zbX (left:=v) (zfh y);simp only[Ctor.eta] at *;omega)|(rw[List.append_nil] at hg1;rw[hg1.1] at hg1;omega))
theorem zci {a b:Int}:FnD Tryz.prog 10 [.agg [.d (.i a),.d (.i b)]] [] (.agg [.d (.i a),.d (.i b)]) []:=by
 refine bd Tryz.f10 11 [] [] fun w0 F0 own kept hk=>?_
 refine Walk.box (id:=3001) .none rfl rfl rfl rfl rfl rfl rfl ?_
 refine Walk.alloc (id:=3002) tz33 rfl .none rfl rfl rfl rfl ?_
 refine tv ?_
 refine Walk.alloc (id:=3003) tz33 rfl .none rfl rfl rfl rfl ?_
 refine tv ?_
 refine Walk.store ty3 .none rfl rfl rfl rfl rfl rfl (by simp) rfl ?_
 refine tv ?_
 refine Walk.store ty3 .none rfl rfl rfl rfl rfl rfl (by simp) rfl ?_
 refine tv ?_
 refine Walk.store ty33 .none rfl rfl rfl rfl rfl rfl (by simp) rfl ?_
 refine tv ?_
 focus (refine rn0 (.cons (.cellA ty33 rfl rfl rfl) .nil) (.agg (.cons (.eqd ?_) (.cons (.eqd ?_) .nil)));all_goals (first|rfl|(simp[];done)|(simp_all;done)|(simp_all;omega)|omega))
theorem zlp {l:List Ty} (h:l.length≤1000000000000):FnD Tryz.prog 175 [.d (zby l)] [] (.d (zby l)) []:=by
 refine bd Tryz.f175 23 [] [999999] fun w0 F0 own kept hk=>?_
 refine Walk.make (id:=3007) zbf tz33 rfl (by decide) (zce rfl) .none rfl rfl rfl (by simp;omega) (by simp;omega) rfl rfl rfl ?_
 refine ev ?_
 refine CWp.loopX (ι:=List (Ty)×List (Ty)) hk (fun x=>[(4,.d (.i (x.1.length:Int)))]) [8,9,10,11,12,13,14,15,16,17,18,19,20,21] (fun x=>[(3007,some (.box ((x.1.flatMap fun x=>(Ty.c x).map AV.d)++zaD x.2.length [.d (.i 0),.d (.i 0)])))]) (fun x=>x.1++x.2=l) (fun x=>x.2.length) ([],l) (by simp) ⟨⟨_,rfl,(LeA.eqi (by first|rfl|(simp;done)|(simp_all;done)|omega))⟩,trivial⟩ ⟨(by first|rfl|(show some (Res.box _)=some (Res.box _);simp;done)),trivial⟩ (fun x=>rfl) (fun x hg1=>?_)
 obtain⟨pre,rest⟩:=x
 dsimp only at hg1 ⊢
 refine evc [] [999999] ?_
 refine sq (fun h1 h1p h1s=>?_) fun h1 h1p h1s=>?_
 try simp only[Q] at h1p
 rcases rest with _|⟨y,rest⟩
 ·exfalso;simp_all
 refine Walk.idx zsg .none rfl rfl rfl rfl (za0 hg1) rfl ?_
 refine ev ?_
 refine Walk.call (cr:=[]) zg8 (zci) rfl .none rfl rfl (LeL.refl _) trivial rfl rfl rfl ?_
 refine Walk.idxM zbf .none rfl rfl rfl rfl (by first|omega|(simp ;omega)) ?_
 refine Walk.store ty33 .none rfl rfl rfl rfl rfl rfl (by simp) ((zho (k:=2) (by intro x _;rfl) (by first|rfl|simp) rfl)) ?_
 refine tv ?_
 refine ar ?_
 refine Exists.intro ((pre++[y],rest)) ⟨(by have hz:=hg1;rw[←hz];simp),(by simp),Sub.x (by kernel_rfl) (by kernel_rfl) ⟨⟨_,rfl,(LeA.eqi (by first|rfl|(simp;done)|(simp_all;done)|omega))⟩,trivial⟩ (by kernel_rfl) (by kernel_rfl) ⟨(by first|rfl|(show some (Res.box _)=some (Res.box _);simp;done)),trivial⟩⟩
 try simp only[Q] at h1p
 have hrest:rest=[]:=by
  rcases rest with _|⟨a,b⟩
  ·rfl
  ·exfalso;have hz:=congrArg List.length (hg1);simp only[List.length_append,List.length_cons,List.length_map] at hz;omega
 subst hrest
 refine CWp.frz hk 2 3007 _ _ rfl rfl (zfJ (f:=Ty.c) (k:=2) hg1 (by simp) (by intro x _;rfl)) rfl ?_
 refine CWp.ret ?_
 focus (refine rn0 (r1 rfl) (.eqd ?_);all_goals (first|rfl|(simp[h1s,h1p];done)|(simp_all;done)|(simp_all;omega)|omega))
theorem zmt {s:Str}{args:List Ty}{k:Int} (h:args.length≤1000000000000):FnD Tryz.prog 113 [.agg [.d (.str s),.d (zby args),.d (.i k)]] [] (.agg [.d (.str s),.d (zby args),.d (.i k)]) []:=by
 refine bd Tryz.f113 15 [] [] fun w0 F0 own kept hk=>?_
 refine Walk.box (id:=3001) .none rfl rfl rfl rfl rfl rfl rfl ?_
 refine Walk.alloc (id:=3002) zfU rfl .none rfl rfl rfl rfl ?_
 refine tv ?_
 refine Walk.alloc (id:=3003) zfU rfl .none rfl rfl rfl rfl ?_
 refine tv ?_
 refine Walk.store ty9 .none rfl rfl rfl rfl rfl rfl (by simp) rfl ?_
 refine tv ?_
 refine Walk.call (cr:=[]) zqn (zlp h) rfl .none rfl rfl (LeL.refl _) trivial rfl rfl rfl ?_
 refine ev ?_
 refine Walk.store znP .none rfl rfl rfl rfl rfl rfl (by simp) rfl ?_
 refine tv ?_
 refine Walk.store ty3 .none rfl rfl rfl rfl rfl rfl (by simp) rfl ?_
 refine tv ?_
 refine Walk.store zfT .none rfl rfl rfl rfl rfl rfl (by simp) rfl ?_
 refine tv ?_
 focus (refine rn0 (.cons (.cellA zfT rfl rfl rfl) .nil) (.agg (.cons (.eqd ?_) (.cons (.eqd ?_) (.cons (.eqd ?_) .nil))));all_goals (first|rfl|(simp[];done)|(simp_all;done)|(simp_all;omega)|omega))
theorem zln {l:List Ctor} (hs:CSmall l):FnD Tryz.prog 62 [.d (zcf l)] [] (.d (zcf l)) []:=by
 have h:=hs.len
 refine bd Tryz.f62 23 [] [999999] fun w0 F0 own kept hk=>?_
 refine Walk.make (id:=3007) sl79 zfU rfl (by decide) (zce rfl) .none rfl rfl rfl (by simp;omega) (by simp;omega) rfl rfl rfl ?_
 refine ev ?_
 refine CWp.loopX (ι:=List (Ctor)×List (Ctor)) hk (fun x=>[(4,.d (.i (x.1.length:Int)))]) [8,9,10,11,12,13,14,15,16,17,18,19,20,21] (fun x=>[(3007,some (.box ((x.1.flatMap fun x=>(Ctor.c x).map AV.d)++zaD x.2.length [.d (.str []),.nils,.d (.i 0)])))]) (fun x=>x.1++x.2=l) (fun x=>x.2.length) ([],l) (by simp) ⟨⟨_,rfl,(LeA.eqi (by first|rfl|(simp;done)|(simp_all;done)|omega))⟩,trivial⟩ ⟨(by first|rfl|(show some (Res.box _)=some (Res.box _);simp;done)),trivial⟩ (fun x=>rfl) (fun x hg1=>?_)
 obtain⟨pre,rest⟩:=x
 dsimp only at hg1 ⊢
 refine evc [] [999999] ?_
 refine sq (fun h1 h1p h1s=>?_) fun h1 h1p h1s=>?_
 try simp only[Q] at h1p
 rcases rest with _|⟨y,rest⟩
 ·exfalso;simp_all
 refine Walk.idx sl63 .none rfl rfl rfl rfl (za0 hg1) rfl ?_
 refine ev ?_
 refine Walk.call (cr:=[]) zqd (zmt (hs.ctor y (by rw[←hg1];simp)).2) rfl .none rfl rfl (LeL.refl _) trivial rfl rfl rfl ?_
 refine Walk.idxM sl79 .none rfl rfl rfl rfl (by first|omega|(simp ;omega)) ?_
 refine Walk.store zfT .none rfl rfl rfl rfl rfl rfl (by simp) ((zho (k:=3) (by intro x _;rfl) (by first|rfl|simp) rfl)) ?_
 refine tv ?_
 refine ar ?_
 refine Exists.intro ((pre++[y],rest)) ⟨(by have hz:=hg1;rw[←hz];simp),(by simp),Sub.x (by kernel_rfl) (by kernel_rfl) ⟨⟨_,rfl,(LeA.eqi (by first|rfl|(simp;done)|(simp_all;done)|omega))⟩,trivial⟩ (by kernel_rfl) (by kernel_rfl) ⟨(by first|rfl|(show some (Res.box _)=some (Res.box _);simp;done)),trivial⟩⟩
 try simp only[Q] at h1p
 have hrest:rest=[]:=by
  rcases rest with _|⟨a,b⟩
  ·rfl
  ·exfalso;have hz:=congrArg List.length (hg1);simp only[List.length_append,List.length_cons,List.length_map] at hz;omega
 subst hrest
 refine CWp.frz hk 2 3007 _ _ rfl rfl (zfJ (f:=Ctor.c) (k:=3) hg1 (by simp) (by intro x _;rfl)) rfl ?_
 refine CWp.ret ?_
 focus (refine rn0 (r1 rfl) (.eqd ?_);all_goals (first|rfl|(simp[h1s,h1p];done)|(simp_all;done)|(simp_all;omega)|omega))
theorem zmv {s:Str}{cs:List Ctor} (h:CSmall cs):FnD Tryz.prog 32 [.agg [.d (.str s),.d (zcf cs)]] [] (.agg [.d (.str s),.d (zcf cs)]) []:=by
 refine bd Tryz.f32 12 [] [] fun w0 F0 own kept hk=>?_
 refine Walk.box (id:=3001) .none rfl rfl rfl rfl rfl rfl rfl ?_
 refine Walk.alloc (id:=3002) tz81 rfl .none rfl rfl rfl rfl ?_
 refine tv ?_
 refine Walk.alloc (id:=3003) tz81 rfl .none rfl rfl rfl rfl ?_
 refine tv ?_
 refine Walk.store ty9 .none rfl rfl rfl rfl rfl rfl (by simp) rfl ?_
 refine tv ?_
 refine Walk.call (cr:=[]) zr1 (zln h) rfl .none rfl rfl (LeL.refl _) trivial rfl rfl rfl ?_
 refine ev ?_
 refine Walk.store ty79 .none rfl rfl rfl rfl rfl rfl (by simp) rfl ?_
 refine tv ?_
 refine Walk.store ty81 .none rfl rfl rfl rfl rfl rfl (by simp) rfl ?_
 refine tv ?_
 focus (refine rn0 (.cons (.cellA ty81 rfl rfl rfl) .nil) (.agg (.cons (.eqd ?_) (.cons (.eqd ?_) .nil)));all_goals (first|rfl|(simp[];done)|(simp_all;done)|(simp_all;omega)|omega))
theorem zcM {l:List Data} (hs:WSmall l):FnD Tryz.prog 9 [.d (zao l)] [] (.d (zao l)) []:=by
 have h:=hs.len
 refine bd Tryz.f9 23 [] [999999] fun w0 F0 own kept hk=>?_
 refine Walk.make (id:=3007) sl31 tz81 rfl (by decide) (zce rfl) .none rfl rfl rfl (by simp;omega) (by simp;omega) rfl rfl rfl ?_
 refine ev ?_
 refine CWp.loopX (ι:=List (Data)×List (Data)) hk (fun x=>[(4,.d (.i (x.1.length:Int)))]) [8,9,10,11,12,13,14,15,16,17,18,19,20,21] (fun x=>[(3007,some (.box ((x.1.flatMap fun x=>(Data.c x).map AV.d)++zaD x.2.length [.d (.str []),.nils])))]) (fun x=>x.1++x.2=l) (fun x=>x.2.length) ([],l) (by simp) ⟨⟨_,rfl,(LeA.eqi (by first|rfl|(simp;done)|(simp_all;done)|omega))⟩,trivial⟩ ⟨(by first|rfl|(show some (Res.box _)=some (Res.box _);simp;done)),trivial⟩ (fun x=>rfl) (fun x hg1=>?_)
 obtain⟨pre,rest⟩:=x
 dsimp only at hg1 ⊢
 refine evc [] [999999] ?_
 refine sq (fun h1 h1p h1s=>?_) fun h1 h1p h1s=>?_
 try simp only[Q] at h1p
 rcases rest with _|⟨y,rest⟩
 ·exfalso;simp_all
 refine Walk.idx sl22 .none rfl rfl rfl rfl (za0 hg1) rfl ?_
 refine ev ?_
 refine Walk.call (cr:=[]) zrR (zmv (hs.cs (d:=y) (by rw[←hg1];simp))) rfl .none rfl rfl (LeL.refl _) trivial rfl rfl rfl ?_
 refine Walk.idxM sl31 .none rfl rfl rfl rfl (by first|omega|(simp ;omega)) ?_
 refine Walk.store ty81 .none rfl rfl rfl rfl rfl rfl (by simp) ((zho (k:=2) (by intro x _;rfl) (by first|rfl|simp) rfl)) ?_
 refine tv ?_
 refine ar ?_
 refine Exists.intro ((pre++[y],rest)) ⟨(by have hz:=hg1;rw[←hz];simp),(by simp),Sub.x (by kernel_rfl) (by kernel_rfl) ⟨⟨_,rfl,(LeA.eqi (by first|rfl|(simp;done)|(simp_all;done)|omega))⟩,trivial⟩ (by kernel_rfl) (by kernel_rfl) ⟨(by first|rfl|(show some (Res.box _)=some (Res.box _);simp;done)),trivial⟩⟩
 try simp only[Q] at h1p
 have hrest:rest=[]:=by
  rcases rest with _|⟨a,b⟩
  ·rfl
  ·exfalso;have hz:=congrArg List.length (hg1);simp only[List.length_append,List.length_cons,List.length_map] at hz;omega
 subst hrest
 refine CWp.frz hk 2 3007 _ _ rfl rfl (zfJ (f:=Data.c) (k:=2) hg1 (by simp) (by intro x _;rfl)) rfl ?_
 refine CWp.ret ?_
 focus (refine rn0 (r1 rfl) (.eqd ?_);all_goals (first|rfl|(simp[h1s,h1p];done)|(simp_all;done)|(simp_all;omega)|omega))
theorem zms {s:Str}{cs:List Ctor}{left:Int} (h:s.length≤1000000000000) (hc:CSmall cs) (k0:0≤left) (k1:left≤1000000000000):FnD Tryz.prog 27 [.agg [.d (.str s),.d (zcf cs)],.d (.i left)] [] (.d (.i (szr left (zfi ⟨s,cs⟩)))) []:=by
 have z:=zbX (left:=left) (zfi ⟨s,cs⟩)
 have z2:=zbX (left:=left-s.length) (zfZ cs)
 simp only[zfi] at z z2 ⊢
 refine bd Tryz.f27 19 [] [] fun w0 F0 own kept hk=>?_
 refine Walk.box (id:=3002) .none rfl rfl rfl rfl rfl rfl rfl ?_
 refine ev ?_
 refine ar ?_
 refine sq (fun h1 h1p h1s=>?_) fun h1 h1p h1s=>?_
 try simp only[Q] at h1p
 refine rn0 (r1 rfl) (.eqd ?_)
 rotate_left
 try simp only[Q] at h1p
 refine Walk.call (cr:=[]) ztN (zll hc (by omega) (by omega)) rfl .none rfl rfl (LeL.refl _) trivial rfl rfl rfl ?_
 refine ev ?_
 refine sq (fun h2 h2p h2s=>?_) fun h2 h2p h2s=>?_
 try simp only[Q] at h2p
 refine rn0 (r1 rfl) (.eqd ?_)
 rotate_left
 try simp only[Q] at h2p
 refine rn0 (r1 rfl) (.eqd ?_)
 rotate_left
 all_goals (refine congrArg D.i ?_;omega)
theorem zhg {l:List Data}{left:Int} (hs:WSmall l) (k0:0≤left) (k1:left≤1000000000000):FnD Tryz.prog 6 [.d (zao l),.d (.i left)] [] (.d (.i (szr left (zeC l)))) []:=by
 have h:=hs.len
 have z:=zbX (left:=left) (zeC l)
 simp only[zeC] at z ⊢
 refine bd Tryz.f6 27 [] [] fun w0 F0 own kept hk=>?_
 refine ar ?_
 refine sq (fun h1 h1p h1s=>?_) fun h1 h1p h1s=>?_
 try simp only[Q] at h1p
 refine rn0 (r1 rfl) (.eqd ?_)
 rotate_left
 try simp only[Q] at h1p
 refine CWp.loopX (ι:=List (Data)×List (Data)×(Int)) hk (fun x=>[(5,.d (.i (x.1.length:Int))),(1,.d (.i x.2.2))]) [4,12,13,14,15,16,17,18,19,20,21,22,23,24,25] (fun x=>[]) (fun x=>x.1++x.2.1=l∧x.2.2=left-l.length-(x.1.map zfi).sum∧0≤x.2.2) (fun x=>x.2.1.length) ([],l,left-l.length) ⟨by simp,by simp,by simp at *;omega⟩ ⟨⟨_,rfl,(LeA.eqi (by first|rfl|(simp;done)))⟩,⟨⟨_,rfl,(LeA.eqi (by first|rfl|(simp;done)))⟩,trivial⟩⟩ trivial (fun x=>rfl) (fun x hg1=>?_)
 obtain⟨pre,rest,v⟩:=x
 dsimp only at hg1 ⊢
 refine evc [] [] ?_
 refine sq (fun h2 h2p h2s=>?_) fun h2 h2p h2s=>?_
 try simp only[Q] at h2p
 rcases rest with _|⟨y,rest⟩
 ·exfalso;simp_all
 refine Walk.idx sl22 .none rfl rfl rfl rfl (za0 hg1.1) rfl ?_
 refine ev ?_
 refine Walk.call (cr:=[]) ztI (zms (hs.data y (by rw[←hg1.1];simp)).1 (hs.cs (d:=y) (by rw[←hg1.1];simp)) (by omega) (by omega)) rfl .none rfl rfl (LeL.refl _) trivial rfl rfl rfl ?_
 refine ev ?_
 refine sq (fun h3 h3p h3s=>?_) fun h3 h3p h3s=>?_
 try simp only[Q] at h3p
 refine rn0 (r1 rfl) (.eqd ?_)
 rotate_left
 try simp only[Q] at h3p
 refine ar ?_
 refine Exists.intro ((pre++[y],rest,szr v (zfi y))) ⟨⟨(by have hz:=hg1.1;rw[←hz];simp),(by have e:=zdH (f:=zfi) hg1.1;have z3:=zbX (left:=v) (zfi y);simp only[Data.eta] at *;simp;omega)⟩,(by simp),Sub.x (by kernel_rfl) (by kernel_rfl) ⟨⟨_,rfl,(LeA.eqi (by first|rfl|(simp;done)))⟩,⟨⟨_,rfl,(LeA.eqi (by first|rfl|(simp;done)))⟩,trivial⟩⟩ (by kernel_rfl) (by kernel_rfl) trivial⟩
 try simp only[Q] at h2p
 have hrest:rest=[]:=by
  rcases rest with _|⟨a,b⟩
  ·rfl
  ·exfalso;have hz:=congrArg List.length (hg1.1);simp only[List.length_append,List.length_cons,List.length_map] at hz;omega
 subst hrest
 refine rn0 (r1 rfl) (.eqd ?_)
 rotate_left
 all_goals (refine congrArg D.i ?_;first|omega|(have e:=zdH (f:=zfi) hg1.1;have z3:=zbX (left:=v) (zfi y);simp only[Data.eta] at *;omega)|(rw[List.append_nil] at hg1;rw[hg1.1] at hg1;omega))
theorem zmf {α:Type} [Inhabited α]{l m:List α} (h:l.length=m.length) (h2:∀i,i<l.length→nth l i=nth m i):l=m:=by
 refine List.ext_getElem h (fun i h3 h4=>?_)
 have:=h2 i h3
 simpa [nth,List.getD,h3,h4] using this
theorem zmq {a b a' b':Int}:FnD Tryz.prog 150 [.agg [.d (.i a),.d (.i b)],.agg [.d (.i a'),.d (.i b')]] [] (.d (.bool (decide ((⟨a,b⟩:Ty)=⟨a',b'⟩)))) []:=by
 refine bd Tryz.f150 15 [] [] fun w0 F0 own kept hk=>?_
 refine Walk.box (id:=3002) .none rfl rfl rfl rfl rfl rfl rfl ?_
 refine Walk.box (id:=3003) .none rfl rfl rfl rfl rfl rfl rfl ?_
 refine ev ?_
 refine sq (fun h1 h1p h1s=>?_) fun h1 h1p h1s=>?_
 try simp only[Q] at h1p
 focus (refine rn0 (r1 rfl) (.eqd ?_);all_goals (refine congrArg D.bool ?_;simp[h1s,h1p]))
 try simp only[Q] at h1p
 refine sq (fun h2 h2p h2s=>?_) fun h2 h2p h2s=>?_
 try simp only[Q] at h2p
 focus (refine rn0 (r1 rfl) (.eqd ?_);all_goals (refine congrArg D.bool ?_;simp[h1s,h1p,h2s,h2p]))
 try simp only[Q] at h2p
 focus (refine rn0 (r1 rfl) (.eqd ?_);all_goals (refine congrArg D.bool ?_;simp[h1s,h1p,h2s,h2p]))
theorem zlk {l m:List Ty} (h:l.length≤1000000000000):FnD Tryz.prog 180 [.d (zby l),.d (zby m)] [] (.d (.bool (decide (l=m)))) []:=by
 refine bd Tryz.f180 27 [] [] fun w0 F0 own kept hk=>?_
 refine sq (fun h1 h1p h1s=>?_) fun h1 h1p h1s=>?_
 try simp only[Q,Int.natCast_inj] at h1p
 refine rn0 (r1 rfl) (.eqd ?_)
 rotate_left
 try simp only[Q,Int.natCast_inj] at h1p
 refine CWp.loopX (ι:=Nat) hk (fun i=>[(5,.d (.i (i:Int)))]) [4,11,12,13,14,15,16,17,18,19,20,21,22,23,24,25,26] (fun i=>[]) (fun i=>i≤l.length∧∀i',i'<i→nth l i'=nth m i') (fun i=>l.length-i) 0 ⟨by omega,fun _ h=>absurd h (by omega)⟩ ⟨⟨_,rfl,(LeA.eqi (by first|rfl|(simp;done)|(simp_all;done)|omega))⟩,trivial⟩ trivial (fun x=>rfl) (fun i hg1=>?_)
 refine evc [] [] ?_
 refine sq (fun h2 h2p h2s=>?_) fun h2 h2p h2s=>?_
 try simp only[Q,Int.natCast_inj] at h2p
 refine Walk.idx zbf .none rfl rfl rfl rfl (zay (by omega)) rfl ?_
 refine evd [] [] ?_
 refine Walk.idx zbf .none rfl rfl rfl rfl (zay (by omega)) rfl ?_
 refine evd [] [] ?_
 refine Walk.call (cr:=[]) zs5 (zmq) rfl .none rfl rfl (LeL.refl _) trivial rfl rfl rfl ?_
 refine evd [] [] ?_
 refine dr ?_
 refine sq (fun h3 h3p h3s=>?_) fun h3 h3p h3s=>?_
 try simp only[Q,Int.natCast_inj] at h3p
 refine rn0 (r1 rfl) (.eqd ?_)
 rotate_left
 try simp only[Q,Int.natCast_inj] at h3p
 refine ar ?_
 refine Exists.intro (i+1) ⟨⟨by omega,za2 hg1.2 (by simp only[Ty.eta] at *;assumption)⟩,(by omega),Sub.x (by kernel_rfl) (by kernel_rfl) ⟨⟨_,rfl,(LeA.eqi (by first|rfl|(simp;done)|(simp_all;done)|omega))⟩,trivial⟩ (by kernel_rfl) (by kernel_rfl) trivial⟩
 try simp only[Q,Int.natCast_inj] at h2p
 refine rn0 (r1 rfl) (.eqd ?_)
 rotate_left
 all_goals (refine congrArg D.bool ?_;first|(refine(decide_eq_false (fun e=>?_)).symm;subst e;omega)|(refine(decide_eq_false (fun e=>?_)).symm;subst e;simp_all;done)|(refine(decide_eq_true (zmf (by omega) (fun x hx=>hg1.2 x (by omega)))).symm))
theorem zmo {s s':Str}{l l':List Ty}{k k':Int} (h:l.length≤1000000000000):FnD Tryz.prog 137 [.agg [.d (.str s),.d (zby l),.d (.i k)],.agg [.d (.str s'),.d (zby l'),.d (.i k')]] [] (.d (.bool (decide ((⟨s,l,k⟩:Ctor)=⟨s',l',k'⟩)))) []:=by
 refine bd Tryz.f137 21 [] [] fun w0 F0 own kept hk=>?_
 refine Walk.box (id:=3002) .none rfl rfl rfl rfl rfl rfl rfl ?_
 refine Walk.box (id:=3003) .none rfl rfl rfl rfl rfl rfl rfl ?_
 refine ev ?_
 refine sq (fun h1 h1p h1s=>?_) fun h1 h1p h1s=>?_
 try simp only[Q] at h1p
 focus (refine rn0 (r1 rfl) (.eqd ?_);all_goals (refine congrArg D.bool ?_;simp[h1s,h1p]))
 try simp only[Q] at h1p
 refine Walk.call (cr:=[]) ztb (zlk h) rfl .none rfl rfl (LeL.refl _) trivial rfl rfl rfl ?_
 refine ev ?_
 refine sq (fun h2 h2p h2s=>?_) fun h2 h2p h2s=>?_
 try simp only[Q] at h2p
 focus (refine rn0 (r1 rfl) (.eqd ?_);all_goals (refine congrArg D.bool ?_;simp[h1s,h1p,h2s,h2p]))
 try simp only[Q] at h2p
 refine sq (fun h3 h3p h3s=>?_) fun h3 h3p h3s=>?_
 try simp only[Q] at h3p
 focus (refine rn0 (r1 rfl) (.eqd ?_);all_goals (refine congrArg D.bool ?_;simp[h1s,h1p,h2s,h2p,h3s,h3p]))
 try simp only[Q] at h3p
 focus (refine rn0 (r1 rfl) (.eqd ?_);all_goals (refine congrArg D.bool ?_;simp[h1s,h1p,h2s,h2p,h3s,h3p]))
theorem zli {l m:List Ctor} (hs:CSmall l):FnD Tryz.prog 77 [.d (zcf l),.d (zcf m)] [] (.d (.bool (decide (l=m)))) []:=by
 have h:=hs.len
 refine bd Tryz.f77 27 [] [] fun w0 F0 own kept hk=>?_
 refine sq (fun h1 h1p h1s=>?_) fun h1 h1p h1s=>?_
 try simp only[Q,Int.natCast_inj] at h1p
 refine rn0 (r1 rfl) (.eqd ?_)
 rotate_left
 try simp only[Q,Int.natCast_inj] at h1p
 refine CWp.loopX (ι:=Nat) hk (fun i=>[(5,.d (.i (i:Int)))]) [4,11,12,13,14,15,16,17,18,19,20,21,22,23,24,25,26] (fun i=>[]) (fun i=>i≤l.length∧∀i',i'<i→nth l i'=nth m i') (fun i=>l.length-i) 0 ⟨by omega,fun _ h=>absurd h (by omega)⟩ ⟨⟨_,rfl,(LeA.eqi (by first|rfl|(simp;done)|(simp_all;done)|omega))⟩,trivial⟩ trivial (fun x=>rfl) (fun i hg1=>?_)
 refine evc [] [] ?_
 refine sq (fun h2 h2p h2s=>?_) fun h2 h2p h2s=>?_
 try simp only[Q,Int.natCast_inj] at h2p
 refine Walk.idx sl79 .none rfl rfl rfl rfl (zay (by omega)) rfl ?_
 refine evd [] [] ?_
 refine Walk.idx sl79 .none rfl rfl rfl rfl (zay (by omega)) rfl ?_
 refine evd [] [] ?_
 refine Walk.call (cr:=[]) zs0 (zmo (hs.ctor _ (zal (i:=i) (by omega))).2) rfl .none rfl rfl (LeL.refl _) trivial rfl rfl rfl ?_
 refine evd [] [] ?_
 refine dr ?_
 refine sq (fun h3 h3p h3s=>?_) fun h3 h3p h3s=>?_
 try simp only[Q,Int.natCast_inj] at h3p
 refine rn0 (r1 rfl) (.eqd ?_)
 rotate_left
 try simp only[Q,Int.natCast_inj] at h3p
 refine ar ?_
 refine Exists.intro (i+1) ⟨⟨by omega,za2 hg1.2 (by simp only[Ctor.eta] at *;assumption)⟩,(by omega),Sub.x (by kernel_rfl) (by kernel_rfl) ⟨⟨_,rfl,(LeA.eqi (by first|rfl|(simp;done)|(simp_all;done)|omega))⟩,trivial⟩ (by kernel_rfl) (by kernel_rfl) trivial⟩
 try simp only[Q,Int.natCast_inj] at h2p
 refine rn0 (r1 rfl) (.eqd ?_)
 rotate_left
 all_goals (refine congrArg D.bool ?_;first|(refine(decide_eq_false (fun e=>?_)).symm;subst e;omega)|(refine(decide_eq_false (fun e=>?_)).symm;subst e;simp_all;done)|(refine(decide_eq_true (zmf (by omega) (fun x hx=>hg1.2 x (by omega)))).symm))
theorem zmp {s s':Str}{l l':List Ctor} (h:CSmall l):FnD Tryz.prog 41 [.agg [.d (.str s),.d (zcf l)],.agg [.d (.str s'),.d (zcf l')]] [] (.d (.bool (decide ((⟨s,l⟩:Data)=⟨s',l'⟩)))) []:=by
 refine bd Tryz.f41 16 [] [] fun w0 F0 own kept hk=>?_
 refine Walk.box (id:=3002) .none rfl rfl rfl rfl rfl rfl rfl ?_
 refine Walk.box (id:=3003) .none rfl rfl rfl rfl rfl rfl rfl ?_
 refine ev ?_
 refine sq (fun h1 h1p h1s=>?_) fun h1 h1p h1s=>?_
 try simp only[Q] at h1p
 focus (refine rn0 (r1 rfl) (.eqd ?_);all_goals (refine congrArg D.bool ?_;simp[h1s,h1p]))
 try simp only[Q] at h1p
 refine Walk.call (cr:=[]) zt0 (zli h) rfl .none rfl rfl (LeL.refl _) trivial rfl rfl rfl ?_
 refine ev ?_
 refine sq (fun h2 h2p h2s=>?_) fun h2 h2p h2s=>?_
 try simp only[Q] at h2p
 focus (refine rn0 (r1 rfl) (.eqd ?_);all_goals (refine congrArg D.bool ?_;simp[h1s,h1p,h2s,h2p]))
 try simp only[Q] at h2p
 focus (refine rn0 (r1 rfl) (.eqd ?_);all_goals (refine congrArg D.bool ?_;simp[h1s,h1p,h2s,h2p]))
theorem zhe {l m:List Data} (hs:WSmall l):FnD Tryz.prog 14 [.d (zao l),.d (zao m)] [] (.d (.bool (decide (l=m)))) []:=by
 have h:=hs.len
 refine bd Tryz.f14 27 [] [] fun w0 F0 own kept hk=>?_
 refine sq (fun h1 h1p h1s=>?_) fun h1 h1p h1s=>?_
 try simp only[Q,Int.natCast_inj] at h1p
 refine rn0 (r1 rfl) (.eqd ?_)
 rotate_left
 try simp only[Q,Int.natCast_inj] at h1p
 refine CWp.loopX (ι:=Nat) hk (fun i=>[(5,.d (.i (i:Int)))]) [4,11,12,13,14,15,16,17,18,19,20,21,22,23,24,25,26] (fun i=>[]) (fun i=>i≤l.length∧∀i',i'<i→nth l i'=nth m i') (fun i=>l.length-i) 0 ⟨by omega,fun _ h=>absurd h (by omega)⟩ ⟨⟨_,rfl,(LeA.eqi (by first|rfl|(simp;done)|(simp_all;done)|omega))⟩,trivial⟩ trivial (fun x=>rfl) (fun i hg1=>?_)
 refine evc [] [] ?_
 refine sq (fun h2 h2p h2s=>?_) fun h2 h2p h2s=>?_
 try simp only[Q,Int.natCast_inj] at h2p
 refine Walk.idx sl31 .none rfl rfl rfl rfl (zay (by omega)) rfl ?_
 refine evd [] [] ?_
 refine Walk.idx sl31 .none rfl rfl rfl rfl (zay (by omega)) rfl ?_
 refine evd [] [] ?_
 refine Walk.call (cr:=[]) ztL (zmp (hs.cs (zal (i:=i) (by omega)))) rfl .none rfl rfl (LeL.refl _) trivial rfl rfl rfl ?_
 refine evd [] [] ?_
 refine dr ?_
 refine sq (fun h3 h3p h3s=>?_) fun h3 h3p h3s=>?_
 try simp only[Q,Int.natCast_inj] at h3p
 refine rn0 (r1 rfl) (.eqd ?_)
 rotate_left
 try simp only[Q,Int.natCast_inj] at h3p
 refine ar ?_
 refine Exists.intro (i+1) ⟨⟨by omega,za2 hg1.2 (by simp only[Data.eta] at *;assumption)⟩,(by omega),Sub.x (by kernel_rfl) (by kernel_rfl) ⟨⟨_,rfl,(LeA.eqi (by first|rfl|(simp;done)|(simp_all;done)|omega))⟩,trivial⟩ (by kernel_rfl) (by kernel_rfl) trivial⟩
 try simp only[Q,Int.natCast_inj] at h2p
 refine rn0 (r1 rfl) (.eqd ?_)
 rotate_left
 all_goals (refine congrArg D.bool ?_;first|(refine(decide_eq_false (fun e=>?_)).symm;subst e;omega)|(refine(decide_eq_false (fun e=>?_)).symm;subst e;simp_all;done)|(refine(decide_eq_true (zmf (by omega) (fun x hx=>hg1.2 x (by omega)))).symm))
def fits (c:Ctor) (k:Int):Bool:=decide (k=0)||(decide (c.index=0)||decide (c.index=k))
def za3 (k:Int):Nat→List Ctor→List Int
 |_,[]=>[]
 |i,c::r=>if fits c k then (i:Int)::za3 k (i+1) r else za3 k (i+1) r
def zbp (k:Int) (t:Ty):Ty:=if t.index = -1 then ⟨t.data,k⟩ else t
def zbF (c:Ctor) (k:Int):Int:=if c.index=0 then k else c.index
theorem zf6 (k:Int):∀(l:List Ctor) (i:Nat),(za3 k i l).length≤l.length
 | [],_=>by simp[za3]
 |c::r,i=>by
  have:=zf6 k r (i+1)
  unfold za3;split<;>simp<;>omega
theorem ziI {w:List Data}{k:Int}:FnD Tryz.prog 122 [.d (zao w),.agg [.d (.i (-1)),.d (.i k)]] [] (.d (zcL [])) []:=by
 refine bd Tryz.f122 44 [5] [] fun w0 F0 own kept hk=>?_
 refine Walk.box (id:=3003) .none rfl rfl rfl rfl rfl rfl rfl ?_
 refine evs [5] [] ?_
 refine Walk.assignNil 1 1 .none rfl rfl ?_
 refine tv ?_
 refine sq (fun h1 h1p h1s=>?_) fun h1 h1p h1s=>?_
 try simp only[Q] at h1p
 exact absurd h1 (by simp)
 try simp only[Q] at h1p

 focus (refine rn0 (r1 rfl) (.gld ?_);all_goals (first|rfl|(simp[h1s,h1p];done)|(simp_all;done)|(simp_all;omega)|omega))
theorem zk9 {w:List Data}{d:Nat}{k:Int} (hs:WSmall w) (hd:d<w.length):FnD Tryz.prog 122 [.d (zao w),.agg [.d (.i d),.d (.i k)]] [] (.d (zcL (za3 k 0 (nth w d).ctors))) []:=by
 have hb:=hs.ctors d
 refine bd Tryz.f122 44 [5] [] fun w0 F0 own kept hk=>?_
 refine Walk.box (id:=3003) .none rfl rfl rfl rfl rfl rfl rfl ?_
 refine evs [5] [] ?_
 refine Walk.assignNil 1 1 .none rfl rfl ?_
 refine tv ?_
 refine sq (fun h1 h1p h1s=>?_) fun h1 h1p h1s=>?_
 try simp only[Q] at h1p
 refine Walk.idx sl31 .none rfl rfl rfl rfl (zay hd) rfl ?_
 refine evs [5] [] ?_
 refine CWp.loopX (ι:=List (Ctor)×List (Ctor)×(List Int)) hk (fun x=>[(18,.d (.i (x.1.length:Int))),(5,.gl 1 (x.2.2.map fun n=>[D.i n]))]) [6,7,19,20,21,22,23,24,25,26,27,28,29,30,31,32,33,34,35,36,37,38,39,40,41,42] (fun x=>[(1,some (.tok ((x.2.2.map fun n=>[D.i n])).length 1))]) (fun x=>x.1++x.2.1=(nth w d).ctors∧x.2.2++za3 k x.1.length x.2.1=za3 k 0 (nth w d).ctors∧x.2.2.length≤x.1.length) (fun x=>x.2.1.length) ([],(nth w d).ctors,[]) ⟨by simp,by simp,by simp⟩ ⟨⟨_,rfl,(LeA.eqi (by first|rfl|(simp;done)|(simp[fits,hk];done)))⟩,⟨⟨_,rfl,(LeA.glg (by first|rfl|(simp;done)|(simp[fits,hk];done)))⟩,trivial⟩⟩ ⟨zae (by first|rfl|(simp;done)|(simp;omega)|(first|rfl|(simp;done)|(simp[fits,hk];done))),trivial⟩ (fun x=>rfl) (fun x hg1=>?_)
 obtain⟨pre,rest,acc⟩:=x
 dsimp only at hg1 ⊢
 refine evc [5] [] ?_
 refine sq (fun h2 h2p h2s=>?_) fun h2 h2p h2s=>?_
 try simp only[Q] at h2p
 rcases rest with _|⟨y,rest⟩
 ·exfalso;simp_all
 refine Walk.idx sl79 .none rfl rfl rfl rfl (za0 hg1.1) rfl ?_
 refine evs [5] [] ?_
 refine Walk.alloc (id:=3007) zfU rfl .none rfl rfl rfl rfl ?_
 refine evs [5] [] ?_
 refine Walk.store zfT .none rfl rfl rfl rfl rfl rfl (by simp) rfl ?_
 refine tv ?_
 refine sq (fun h3 h3p h3s=>?_) fun h3 h3p h3s=>?_
 try simp only[Q] at h3p
 refine sqT ?_
 refine sqT ?_
 refine Walk.sliceLit zbU tz3 rfl (by decide) (ks:=[0]) (xs:=[_]) rfl rfl (by decide) (by decide) .none rfl rfl rfl rfl ?_
 refine Walk.append zbU zz3 rfl .none rfl rfl rfl rfl (zaG rfl (by first|rfl|(simp;done)|(simp;omega))) (by simp) (by have hl:=hg1.2.2;simp;omega) (by have hl:=hg1.2.2;simp;omega) ?_
 refine asg ?_
 refine tv ?_
 refine ar ?_
 refine Exists.intro ((pre++[y],rest,if fits y k then acc++[(pre.length:Int)] else acc)) ⟨⟨(by have hz:=hg1.1;rw[←hz];simp),⟨by rw[←hg1.2.1];by_cases hf:fits y k=true<;>simp[za3,hf],by split<;>simp<;>omega⟩⟩,(by simp),Sub.x (by kernel_rfl) (by kernel_rfl) ⟨⟨_,rfl,(LeA.eqi (by first|rfl|(simp;done)|(simp[fits,h1s,h1p,h2s,h2p,h3s,h3p];done)))⟩,⟨⟨_,rfl,(LeA.glg (by first|rfl|(simp;done)|(simp[fits,h1s,h1p,h2s,h2p,h3s,h3p];done)))⟩,trivial⟩⟩ (by kernel_rfl) (by kernel_rfl) ⟨zae (by first|rfl|(simp;done)|(simp;omega)|(first|rfl|(simp;done)|(simp[fits,h1s,h1p,h2s,h2p,h3s,h3p];done))),trivial⟩⟩
 try simp only[Q] at h3p
 refine sq (fun h5 h5p h5s=>?_) fun h5 h5p h5s=>?_
 try simp only[Q] at h5p
 refine sqT ?_
 refine Walk.sliceLit zbU tz3 rfl (by decide) (ks:=[0]) (xs:=[_]) rfl rfl (by decide) (by decide) .none rfl rfl rfl rfl ?_
 refine Walk.append zbU zz3 rfl .none rfl rfl rfl rfl (zaG rfl (by first|rfl|(simp;done)|(simp;omega))) (by simp) (by have hl:=hg1.2.2;simp;omega) (by have hl:=hg1.2.2;simp;omega) ?_
 refine asg ?_
 refine tv ?_
 refine ar ?_
 refine Exists.intro ((pre++[y],rest,if fits y k then acc++[(pre.length:Int)] else acc)) ⟨⟨(by have hz:=hg1.1;rw[←hz];simp),⟨by rw[←hg1.2.1];by_cases hf:fits y k=true<;>simp[za3,hf],by split<;>simp<;>omega⟩⟩,(by simp),Sub.x (by kernel_rfl) (by kernel_rfl) ⟨⟨_,rfl,(LeA.eqi (by first|rfl|(simp;done)|(simp[fits,h1s,h1p,h2s,h2p,h3s,h3p,h5s,h5p];done)))⟩,⟨⟨_,rfl,(LeA.glg (by first|rfl|(simp;done)|(simp[fits,h1s,h1p,h2s,h2p,h3s,h3p,h5s,h5p];done)))⟩,trivial⟩⟩ (by kernel_rfl) (by kernel_rfl) ⟨zae (by first|rfl|(simp;done)|(simp;omega)|(first|rfl|(simp;done)|(simp[fits,h1s,h1p,h2s,h2p,h3s,h3p,h5s,h5p];done))),trivial⟩⟩
 try simp only[Q] at h5p
 refine sq (fun h7 h7p h7s=>?_) fun h7 h7p h7s=>?_
 try simp only[Q] at h7p
 refine Walk.sliceLit zbU tz3 rfl (by decide) (ks:=[0]) (xs:=[_]) rfl rfl (by decide) (by decide) .none rfl rfl rfl rfl ?_
 refine Walk.append zbU zz3 rfl .none rfl rfl rfl rfl (zaG rfl (by first|rfl|(simp;done)|(simp;omega))) (by simp) (by have hl:=hg1.2.2;simp;omega) (by have hl:=hg1.2.2;simp;omega) ?_
 refine asg ?_
 refine tv ?_
 refine ar ?_
 refine Exists.intro ((pre++[y],rest,if fits y k then acc++[(pre.length:Int)] else acc)) ⟨⟨(by have hz:=hg1.1;rw[←hz];simp),⟨by rw[←hg1.2.1];by_cases hf:fits y k=true<;>simp[za3,hf],by split<;>simp<;>omega⟩⟩,(by simp),Sub.x (by kernel_rfl) (by kernel_rfl) ⟨⟨_,rfl,(LeA.eqi (by first|rfl|(simp;done)|(simp[fits,h1s,h1p,h2s,h2p,h3s,h3p,h5s,h5p,h7s,h7p];done)))⟩,⟨⟨_,rfl,(LeA.glg (by first|rfl|(simp;done)|(simp[fits,h1s,h1p,h2s,h2p,h3s,h3p,h5s,h5p,h7s,h7p];done)))⟩,trivial⟩⟩ (by kernel_rfl) (by kernel_rfl) ⟨zae (by first|rfl|(simp;done)|(simp;omega)|(first|rfl|(simp;done)|(simp[fits,h1s,h1p,h2s,h2p,h3s,h3p,h5s,h5p,h7s,h7p];done))),trivial⟩⟩
 try simp only[Q] at h7p
 refine ar ?_
 refine Exists.intro ((pre++[y],rest,if fits y k then acc++[(pre.length:Int)] else acc)) ⟨⟨(by have hz:=hg1.1;rw[←hz];simp),⟨by rw[←hg1.2.1];by_cases hf:fits y k=true<;>simp[za3,hf],by split<;>simp<;>omega⟩⟩,(by simp),Sub.x (by kernel_rfl) (by kernel_rfl) ⟨⟨_,rfl,(LeA.eqi (by first|rfl|(simp;done)|(simp[fits,h1s,h1p,h2s,h2p,h3s,h3p,h5s,h5p,h7s,h7p];done)))⟩,⟨⟨_,rfl,(LeA.glg (by first|rfl|(simp;done)|(simp[fits,h1s,h1p,h2s,h2p,h3s,h3p,h5s,h5p,h7s,h7p];done)))⟩,trivial⟩⟩ (by kernel_rfl) (by kernel_rfl) ⟨zae (by first|rfl|(simp;done)|(simp;omega)|(first|rfl|(simp;done)|(simp[fits,h1s,h1p,h2s,h2p,h3s,h3p,h5s,h5p,h7s,h7p];done))),trivial⟩⟩
 try simp only[Q] at h2p
 have hrest:rest=[]:=by
  rcases rest with _|⟨a,b⟩
  ·rfl
  ·exfalso;have hz:=congrArg List.length (hg1.1);simp only[List.length_append,List.length_cons,List.length_map] at hz;omega
 subst hrest
 refine rn0 (r1 rfl) (.gld ?_)
 rotate_left
 try simp only[Q] at h1p
 exfalso;simp at h1<;>omega
 all_goals (have e:=hg1.2.1;simp only[za3,List.append_nil] at e;rw[e])
theorem zmH {s:Str}{l:List Ty}{i k:Int}:FnD Tryz.prog 171 [.agg [.d (.str s),.d (zby l),.d (.i i)],.d (.i k)] [] (.d (.bool (fits ⟨s,l,i⟩ k))) []:=by
 refine bd Tryz.f171 18 [] [] fun w0 F0 own kept hk=>?_
 refine Walk.box (id:=3002) .none rfl rfl rfl rfl rfl rfl rfl ?_
 refine ev ?_
 refine sq (fun h1 h1p h1s=>?_) fun h1 h1p h1s=>?_
 try simp only[Q] at h1p
 refine sqT ?_
 focus (refine rn0 (r1 rfl) (.eqd ?_);all_goals (refine congrArg D.bool ?_;simp[fits,h1s,h1p]))
 try simp only[Q] at h1p
 refine sq (fun h2 h2p h2s=>?_) fun h2 h2p h2s=>?_
 try simp only[Q] at h2p
 focus (refine rn0 (r1 rfl) (.eqd ?_);all_goals (refine congrArg D.bool ?_;simp[fits,h1s,h1p,h2s,h2p]))
 try simp only[Q] at h2p
 focus (refine rn0 (r1 rfl) (.eqd ?_);all_goals (refine congrArg D.bool ?_;simp[fits,h1s,h1p,h2s,h2p]))
theorem ziN {w:List Data}{k:Int}:FnD Tryz.prog 110 [.d (zao w),.agg [.d (.i (-1)),.d (.i k)]] [] (.d (zcL [])) []:=by
 refine bd Tryz.f110 40 [] [] fun w0 F0 own kept hk=>?_
 refine Walk.box (id:=3003) .none rfl rfl rfl rfl rfl rfl rfl ?_
 refine ev ?_
 refine Walk.sliceEmptyG 1 zbU .none rfl rfl ?_
 refine ev ?_
 refine sq (fun h1 h1p h1s=>?_) fun h1 h1p h1s=>?_
 try simp only[Q] at h1p

 focus (refine rn0 (r1 rfl) (.gld ?_);all_goals (first|rfl|(simp[h1s,h1p];done)|(simp_all;done)|(simp_all;omega)|omega))
 try simp only[Q] at h1p
 exact absurd h1 (by simp)
theorem zlO {w:List Data}{d:Nat}{k:Int} (hs:WSmall w) (hd:d<w.length):FnD Tryz.prog 110 [.d (zao w),.agg [.d (.i d),.d (.i k)]] [] (.d (zcL (za3 k 0 (nth w d).ctors))) []:=by
 have hb:=hs.ctors d
 refine bd Tryz.f110 40 [] [] fun w0 F0 own kept hk=>?_
 refine Walk.box (id:=3003) .none rfl rfl rfl rfl rfl rfl rfl ?_
 refine ev ?_
 refine Walk.sliceEmptyG 1 zbU .none rfl rfl ?_
 refine ev ?_
 refine sq (fun h1 h1p h1s=>?_) fun h1 h1p h1s=>?_
 try simp only[Q] at h1p
 exfalso;simp at h1<;>omega
 try simp only[Q] at h1p
 refine CWp.loopX (ι:=List (Ctor)×List (Ctor)×(List Int)) hk (fun x=>[(6,.d (.i (x.1.length:Int))),(5,.gl 1 (x.2.2.map fun n=>[D.i n]))]) [12,13,14,15,16,17,18,19,20,21,22,23,24,25,26,27,28,29,30,31,32,33,34,35,36,37,38] (fun x=>[(1,some (.tok ((x.2.2.map fun n=>[D.i n])).length 1))]) (fun x=>x.1++x.2.1=(nth w d).ctors∧x.2.2++za3 k x.1.length x.2.1=za3 k 0 (nth w d).ctors∧x.2.2.length≤x.1.length) (fun x=>x.2.1.length) ([],(nth w d).ctors,[]) ⟨by simp,by simp,by simp⟩ ⟨⟨_,rfl,(LeA.eqi (by first|rfl|(simp;done)|(simp[Ctor.eta,hk];done)|(simp only[Ctor.eta] at *;simp[*];done)))⟩,⟨⟨_,rfl,(LeA.glg (by first|rfl|(simp;done)|(simp[Ctor.eta,hk];done)|(simp only[Ctor.eta] at *;simp[*];done)))⟩,trivial⟩⟩ ⟨zae (by first|rfl|(simp;done)|(simp;omega)|(first|rfl|(simp;done)|(simp[Ctor.eta,hk];done)|(simp only[Ctor.eta] at *;simp[*];done))),trivial⟩ (fun x=>rfl) (fun x hg1=>?_)
 obtain⟨pre,rest,acc⟩:=x
 dsimp only at hg1 ⊢
 refine evc [] [] ?_
 refine Walk.idx sl31 .none rfl rfl rfl rfl (zay hd) rfl ?_
 refine ev ?_
 refine sq (fun h2 h2p h2s=>?_) fun h2 h2p h2s=>?_
 try simp only[Q] at h2p
 rcases rest with _|⟨y,rest⟩
 ·exfalso;simp_all
 refine Walk.idx sl31 .none rfl rfl rfl rfl (zay hd) rfl ?_
 refine evd [] [] ?_
 refine Walk.idx sl79 .none rfl rfl rfl rfl (za0 hg1.1) rfl ?_
 refine evd [] [] ?_
 refine Walk.call (cr:=[]) zs9 (zmH) rfl .none rfl rfl (LeL.refl _) trivial rfl rfl rfl ?_
 refine dr ?_
 refine sq (fun h3 h3p h3s=>?_) fun h3 h3p h3s=>?_
 try simp only[Q] at h3p
 refine Walk.sliceLit zbU tz3 rfl (by decide) (ks:=[0]) (xs:=[_]) rfl rfl (by decide) (by decide) .none rfl rfl rfl rfl ?_
 refine Walk.append zbU zz3 rfl .none rfl rfl rfl rfl (zaG rfl (by first|rfl|(simp;done)|(simp;omega))) (by simp) (by have hl:=hg1.2.2;simp;omega) (by have hl:=hg1.2.2;simp;omega) ?_
 refine ev ?_
 refine ar ?_
 refine Exists.intro ((pre++[y],rest,if fits y k then acc++[(pre.length:Int)] else acc)) ⟨⟨(by have hz:=hg1.1;rw[←hz];simp),⟨by rw[←hg1.2.1];by_cases hf:fits y k=true<;>simp[za3,hf],by split<;>simp<;>omega⟩⟩,(by simp),Sub.x (by kernel_rfl) (by kernel_rfl) ⟨⟨_,rfl,(LeA.eqi (by first|rfl|(simp;done)|(simp[Ctor.eta,h1s,h1p,h2s,h2p,h3s,h3p];done)|(simp only[Ctor.eta] at *;simp[*];done)))⟩,⟨⟨_,rfl,(LeA.glg (by first|rfl|(simp;done)|(simp[Ctor.eta,h1s,h1p,h2s,h2p,h3s,h3p];done)|(simp only[Ctor.eta] at *;simp[*];done)))⟩,trivial⟩⟩ (by kernel_rfl) (by kernel_rfl) ⟨zae (by first|rfl|(simp;done)|(simp;omega)|(first|rfl|(simp;done)|(simp[Ctor.eta,h1s,h1p,h2s,h2p,h3s,h3p];done)|(simp only[Ctor.eta] at *;simp[*];done))),trivial⟩⟩
 try simp only[Q] at h3p
 refine ar ?_
 refine Exists.intro ((pre++[y],rest,if fits y k then acc++[(pre.length:Int)] else acc)) ⟨⟨(by have hz:=hg1.1;rw[←hz];simp),⟨by rw[←hg1.2.1];by_cases hf:fits y k=true<;>simp[za3,hf],by split<;>simp<;>omega⟩⟩,(by simp),Sub.x (by kernel_rfl) (by kernel_rfl) ⟨⟨_,rfl,(LeA.eqi (by first|rfl|(simp;done)|(simp[Ctor.eta,h1s,h1p,h2s,h2p,h3s,h3p];done)|(simp only[Ctor.eta] at *;simp[*];done)))⟩,⟨⟨_,rfl,(LeA.glg (by first|rfl|(simp;done)|(simp[Ctor.eta,h1s,h1p,h2s,h2p,h3s,h3p];done)|(simp only[Ctor.eta] at *;simp[*];done)))⟩,trivial⟩⟩ (by kernel_rfl) (by kernel_rfl) ⟨zae (by first|rfl|(simp;done)|(simp;omega)|(first|rfl|(simp;done)|(simp[Ctor.eta,h1s,h1p,h2s,h2p,h3s,h3p];done)|(simp only[Ctor.eta] at *;simp[*];done))),trivial⟩⟩
 try simp only[Q] at h2p
 have hrest:rest=[]:=by
  rcases rest with _|⟨a,b⟩
  ·rfl
  ·exfalso;have hz:=congrArg List.length (hg1.1);simp only[List.length_append,List.length_cons,List.length_map] at hz;omega
 subst hrest
 refine rn0 (r1 rfl) (.gld ?_)
 rotate_left
 all_goals (have e:=hg1.2.1;simp only[za3,List.append_nil] at e;rw[e])
theorem zkF {s:Str}{l:List Ty}{i k:Int}:FnD Tryz.prog 202 [.agg [.d (.str s),.d (zby l),.d (.i i)],.d (.i k)] [] (.d (.i (zbF ⟨s,l,i⟩ k))) []:=by
 refine bd Tryz.f202 11 [] [] fun w0 F0 own kept hk=>?_
 refine Walk.box (id:=3002) .none rfl rfl rfl rfl rfl rfl rfl ?_
 refine ev ?_
 refine sq (fun h1 h1p h1s=>?_) fun h1 h1p h1s=>?_
 try simp only[Q] at h1p
 focus (refine rn0 (r1 rfl) (.eqd ?_);all_goals (refine congrArg D.i ?_;simp[zbF,h1s,h1p]))
 try simp only[Q] at h1p
 focus (refine rn0 (r1 rfl) (.eqd ?_);all_goals (refine congrArg D.i ?_;simp[zbF,h1s,h1p]))
theorem zkk {w:List Data}{d c:Nat}{k:Int} (hs:WSmall w) (hd:d<w.length) (hc:c<(nth w d).ctors.length):FnD Tryz.prog 132 [.d (zao w),.agg [.d (.i d),.d (.i k)],.d (.i c)] [] (.d (zby ((nth (nth w d).ctors c).args.map (zbp (zbF (nth (nth w d).ctors c) k))))) []:=by
 have hb:=(hs.ctor _ (zal hd) _ (zal hc)).2
 refine bd Tryz.f132 45 [9] [] fun w0 F0 own kept hk=>?_
 refine Walk.box (id:=3004) .none rfl rfl rfl rfl rfl rfl rfl ?_
 refine evs [9] [] ?_
 refine Walk.idx sl31 .none rfl rfl rfl rfl (zay hd) rfl ?_
 refine evs [9] [] ?_
 refine Walk.idx sl79 .none rfl rfl rfl rfl (zay hc) rfl ?_
 refine evs [9] [] ?_
 refine Walk.alloc (id:=3007) zfU rfl .none rfl rfl rfl rfl ?_
 refine Walk.store zfT .none rfl rfl rfl rfl rfl rfl (by simp) rfl ?_
 refine tv ?_
 refine sq (fun h1 h1p h1s=>?_) fun h1 h1p h1s=>?_
 try simp only[Q] at h1p
 refine Walk.assignNil 1 2 .none rfl rfl ?_
 refine tv ?_
 refine CWp.loopX (ι:=List (Ty)×List (Ty)) hk (fun x=>[(30,.d (.i (x.1.length:Int))),(9,.gl 1 ((x.1.map (zbp (zbF (nth (nth w d).ctors c) k))).map Ty.c))]) [11,31,32,33,34,35,36,37,38,39,40,41,42,43] (fun x=>[(1,some (.tok (((x.1.map (zbp (zbF (nth (nth w d).ctors c) k))).map Ty.c)).length 2))]) (fun x=>x.1++x.2=(nth (nth w d).ctors c).args) (fun x=>x.2.length) ([],(nth (nth w d).ctors c).args) (by simp) ⟨⟨_,rfl,(LeA.eqi (by first|rfl|(simp;done)|(simp[zbp,zbF,hk];done)))⟩,⟨⟨_,rfl,(LeA.glg (by first|rfl|(simp;done)|(simp[zbp,zbF,hk];done)))⟩,trivial⟩⟩ ⟨zae (by first|rfl|(simp;done)|(simp;omega)|(first|rfl|(simp;done)|(simp[zbp,zbF,hk];done))),trivial⟩ (fun x=>rfl) (fun x hg1=>?_)
 obtain⟨pre,rest⟩:=x
 dsimp only at hg1 ⊢
 refine evc [9] [] ?_
 refine sq (fun h2 h2p h2s=>?_) fun h2 h2p h2s=>?_
 try simp only[Q] at h2p
 rcases rest with _|⟨y,rest⟩
 ·exfalso;simp_all
 refine Walk.idx zbf .none rfl rfl rfl rfl (za0 hg1) rfl ?_
 refine evs [9] [] ?_
 refine Walk.alloc (id:=3011) tz33 rfl .none rfl rfl rfl rfl ?_
 refine Walk.store ty33 .none rfl rfl rfl rfl rfl rfl (by simp) rfl ?_
 refine tv ?_
 refine sq (fun h3 h3p h3s=>?_) fun h3 h3p h3s=>?_
 try simp only[Q] at h3p
 refine Walk.store ty3 .none rfl rfl rfl rfl rfl rfl (by simp) rfl ?_
 refine tv ?_
 refine Walk.sliceLit zbf tz33 rfl (by decide) (ks:=[0]) (xs:=[_]) rfl rfl (by decide) (by decide) .none rfl rfl rfl rfl ?_
 refine Walk.append zbf zz33 rfl .none rfl rfl rfl rfl (zaG rfl (by first|rfl|(simp;done)|(simp;omega))) (by simp) (by have hl:=congrArg List.length hg1;simp at hl;simp;omega) (by have hl:=congrArg List.length hg1;simp at hl;simp;omega) ?_
 refine asg ?_
 refine tv ?_
 refine ar ?_
 refine Exists.intro ((pre++[y],rest)) ⟨(by have hz:=hg1;rw[←hz];simp),(by simp),Sub.x (by kernel_rfl) (by kernel_rfl) ⟨⟨_,rfl,(LeA.eqi (by first|rfl|(simp;done)|(simp[zbp,zbF,h1s,h1p,h2s,h2p,h3s,h3p];done)))⟩,⟨⟨_,rfl,(LeA.glg (by first|rfl|(simp;done)|(simp[zbp,zbF,h1s,h1p,h2s,h2p,h3s,h3p];done)))⟩,trivial⟩⟩ (by kernel_rfl) (by kernel_rfl) ⟨zae (by first|rfl|(simp;done)|(simp;omega)|(first|rfl|(simp;done)|(simp[zbp,zbF,h1s,h1p,h2s,h2p,h3s,h3p];done))),trivial⟩⟩
 try simp only[Q] at h3p
 refine Walk.sliceLit zbf tz33 rfl (by decide) (ks:=[0]) (xs:=[_]) rfl rfl (by decide) (by decide) .none rfl rfl rfl rfl ?_
 refine Walk.append zbf zz33 rfl .none rfl rfl rfl rfl (zaG rfl (by first|rfl|(simp;done)|(simp;omega))) (by simp) (by have hl:=congrArg List.length hg1;simp at hl;simp;omega) (by have hl:=congrArg List.length hg1;simp at hl;simp;omega) ?_
 refine asg ?_
 refine tv ?_
 refine ar ?_
 refine Exists.intro ((pre++[y],rest)) ⟨(by have hz:=hg1;rw[←hz];simp),(by simp),Sub.x (by kernel_rfl) (by kernel_rfl) ⟨⟨_,rfl,(LeA.eqi (by first|rfl|(simp;done)|(simp[zbp,zbF,h1s,h1p,h2s,h2p,h3s,h3p];done)))⟩,⟨⟨_,rfl,(LeA.glg (by first|rfl|(simp;done)|(simp[zbp,zbF,h1s,h1p,h2s,h2p,h3s,h3p];done)))⟩,trivial⟩⟩ (by kernel_rfl) (by kernel_rfl) ⟨zae (by first|rfl|(simp;done)|(simp;omega)|(first|rfl|(simp;done)|(simp[zbp,zbF,h1s,h1p,h2s,h2p,h3s,h3p];done))),trivial⟩⟩
 try simp only[Q] at h2p
 have hrest:rest=[]:=by
  rcases rest with _|⟨a,b⟩
  ·rfl
  ·exfalso;have hz:=congrArg List.length (hg1);simp only[List.length_append,List.length_cons,List.length_map] at hz;omega
 subst hrest
 focus (refine rn0 (r1 rfl) (.gld ?_);all_goals (simp[←hg1,zbF,h1s,h1p,h2s,h2p]))
 try simp only[Q] at h1p
 refine Walk.assignNil 1 2 .none rfl rfl ?_
 refine tv ?_
 refine CWp.loopX (ι:=List (Ty)×List (Ty)) hk (fun x=>[(30,.d (.i (x.1.length:Int))),(9,.gl 1 ((x.1.map (zbp (zbF (nth (nth w d).ctors c) k))).map Ty.c))]) [11,31,32,33,34,35,36,37,38,39,40,41,42,43] (fun x=>[(1,some (.tok (((x.1.map (zbp (zbF (nth (nth w d).ctors c) k))).map Ty.c)).length 2))]) (fun x=>x.1++x.2=(nth (nth w d).ctors c).args) (fun x=>x.2.length) ([],(nth (nth w d).ctors c).args) (by simp) ⟨⟨_,rfl,(LeA.eqi (by first|rfl|(simp;done)|(simp[zbp,zbF,hk];done)))⟩,⟨⟨_,rfl,(LeA.glg (by first|rfl|(simp;done)|(simp[zbp,zbF,hk];done)))⟩,trivial⟩⟩ ⟨zae (by first|rfl|(simp;done)|(simp;omega)|(first|rfl|(simp;done)|(simp[zbp,zbF,hk];done))),trivial⟩ (fun x=>rfl) (fun x hg1=>?_)
 obtain⟨pre,rest⟩:=x
 dsimp only at hg1 ⊢
 refine evc [9] [] ?_
 refine sq (fun h4 h4p h4s=>?_) fun h4 h4p h4s=>?_
 try simp only[Q] at h4p
 rcases rest with _|⟨y,rest⟩
 ·exfalso;simp_all
 refine Walk.idx zbf .none rfl rfl rfl rfl (za0 hg1) rfl ?_
 refine evs [9] [] ?_
 refine Walk.alloc (id:=3011) tz33 rfl .none rfl rfl rfl rfl ?_
 refine Walk.store ty33 .none rfl rfl rfl rfl rfl rfl (by simp) rfl ?_
 refine tv ?_
 refine sq (fun h5 h5p h5s=>?_) fun h5 h5p h5s=>?_
 try simp only[Q] at h5p
 refine Walk.store ty3 .none rfl rfl rfl rfl rfl rfl (by simp) rfl ?_
 refine tv ?_
 refine Walk.sliceLit zbf tz33 rfl (by decide) (ks:=[0]) (xs:=[_]) rfl rfl (by decide) (by decide) .none rfl rfl rfl rfl ?_
 refine Walk.append zbf zz33 rfl .none rfl rfl rfl rfl (zaG rfl (by first|rfl|(simp;done)|(simp;omega))) (by simp) (by have hl:=congrArg List.length hg1;simp at hl;simp;omega) (by have hl:=congrArg List.length hg1;simp at hl;simp;omega) ?_
 refine asg ?_
 refine tv ?_
 refine ar ?_
 refine Exists.intro ((pre++[y],rest)) ⟨(by have hz:=hg1;rw[←hz];simp),(by simp),Sub.x (by kernel_rfl) (by kernel_rfl) ⟨⟨_,rfl,(LeA.eqi (by first|rfl|(simp;done)|(simp[zbp,zbF,h1s,h1p,h4s,h4p,h5s,h5p];done)))⟩,⟨⟨_,rfl,(LeA.glg (by first|rfl|(simp;done)|(simp[zbp,zbF,h1s,h1p,h4s,h4p,h5s,h5p];done)))⟩,trivial⟩⟩ (by kernel_rfl) (by kernel_rfl) ⟨zae (by first|rfl|(simp;done)|(simp;omega)|(first|rfl|(simp;done)|(simp[zbp,zbF,h1s,h1p,h4s,h4p,h5s,h5p];done))),trivial⟩⟩
 try simp only[Q] at h5p
 refine Walk.sliceLit zbf tz33 rfl (by decide) (ks:=[0]) (xs:=[_]) rfl rfl (by decide) (by decide) .none rfl rfl rfl rfl ?_
 refine Walk.append zbf zz33 rfl .none rfl rfl rfl rfl (zaG rfl (by first|rfl|(simp;done)|(simp;omega))) (by simp) (by have hl:=congrArg List.length hg1;simp at hl;simp;omega) (by have hl:=congrArg List.length hg1;simp at hl;simp;omega) ?_
 refine asg ?_
 refine tv ?_
 refine ar ?_
 refine Exists.intro ((pre++[y],rest)) ⟨(by have hz:=hg1;rw[←hz];simp),(by simp),Sub.x (by kernel_rfl) (by kernel_rfl) ⟨⟨_,rfl,(LeA.eqi (by first|rfl|(simp;done)|(simp[zbp,zbF,h1s,h1p,h4s,h4p,h5s,h5p];done)))⟩,⟨⟨_,rfl,(LeA.glg (by first|rfl|(simp;done)|(simp[zbp,zbF,h1s,h1p,h4s,h4p,h5s,h5p];done)))⟩,trivial⟩⟩ (by kernel_rfl) (by kernel_rfl) ⟨zae (by first|rfl|(simp;done)|(simp;omega)|(first|rfl|(simp;done)|(simp[zbp,zbF,h1s,h1p,h4s,h4p,h5s,h5p];done))),trivial⟩⟩
 try simp only[Q] at h4p
 have hrest:rest=[]:=by
  rcases rest with _|⟨a,b⟩
  ·rfl
  ·exfalso;have hz:=congrArg List.length (hg1);simp only[List.length_append,List.length_cons,List.length_map] at hz;omega
 subst hrest
 focus (refine rn0 (r1 rfl) (.gld ?_);all_goals (simp[←hg1,zbF,h1s,h1p,h4s,h4p]))
theorem zmC {w:List Data}{d c:Nat}{k:Int} (hs:WSmall w) (hd:d<w.length) (hc:c<(nth w d).ctors.length):FnD Tryz.prog 172 [.d (zao w),.agg [.d (.i d),.d (.i k)],.d (.i c)] [] (.d (zby ((nth (nth w d).ctors c).args.map (zbp (zbF (nth (nth w d).ctors c) k))))) []:=by
 have hb:=(hs.ctor _ (zal hd) _ (zal hc)).2
 refine bd Tryz.f172 46 [] [] fun w0 F0 own kept hk=>?_
 refine Walk.box (id:=3004) .none rfl rfl rfl rfl rfl rfl rfl ?_
 refine ev ?_
 refine Walk.sliceEmptyG 1 zbf .none rfl rfl ?_
 refine ev ?_
 refine Walk.idx sl31 .none rfl rfl rfl rfl (zay hd) rfl ?_
 refine ev ?_
 refine Walk.idx sl79 .none rfl rfl rfl rfl (zay hc) rfl ?_
 refine ev ?_
 refine Walk.alloc (id:=3008) zfU rfl .none rfl rfl rfl rfl ?_
 refine Walk.store zfT .none rfl rfl rfl rfl rfl rfl (by simp) rfl ?_
 refine tv ?_
 refine CWp.loopX (ι:=List (Ty)×List (Ty)) hk (fun x=>[(9,.d (.i (x.1.length:Int))),(7,.gl 1 ((x.1.map (zbp (zbF (nth (nth w d).ctors c) k))).map Ty.c))]) [10,21,22,23,24,25,26,27,28,29,30,31,32,33,34,35,36,37,38,39,40,41,42,43,44] (fun x=>[(1,some (.tok (((x.1.map (zbp (zbF (nth (nth w d).ctors c) k))).map Ty.c)).length 2))]) (fun x=>x.1++x.2=(nth (nth w d).ctors c).args) (fun x=>x.2.length) ([],(nth (nth w d).ctors c).args) (by simp) ⟨⟨_,rfl,(LeA.eqi (by first|rfl|(simp;done)|(simp[zbp,Ctor.eta,hk];done)))⟩,⟨⟨_,rfl,(LeA.glg (by first|rfl|(simp;done)|(simp[zbp,Ctor.eta,hk];done)))⟩,trivial⟩⟩ ⟨zae (by first|rfl|(simp;done)|(simp;omega)|(first|rfl|(simp;done)|(simp[zbp,Ctor.eta,hk];done))),trivial⟩ (fun x=>rfl) (fun x hg1=>?_)
 obtain⟨pre,rest⟩:=x
 dsimp only at hg1 ⊢
 refine evc [] [] ?_
 refine sq (fun h1 h1p h1s=>?_) fun h1 h1p h1s=>?_
 try simp only[Q] at h1p
 rcases rest with _|⟨y,rest⟩
 ·exfalso;simp_all
 refine Walk.idx zbf .none rfl rfl rfl rfl (za0 hg1) rfl ?_
 refine ev ?_
 refine Walk.alloc (id:=3010) tz33 rfl .none rfl rfl rfl rfl ?_
 refine Walk.store ty33 .none rfl rfl rfl rfl rfl rfl (by simp) rfl ?_
 refine tv ?_
 refine sq (fun h2 h2p h2s=>?_) fun h2 h2p h2s=>?_
 try simp only[Q] at h2p
 refine Walk.call (cr:=[]) ztk (zkF) rfl .none rfl rfl (LeL.refl _) trivial rfl rfl rfl ?_
 refine ev ?_
 refine Walk.store ty3 .none rfl rfl rfl rfl rfl rfl (by simp) rfl ?_
 refine tv ?_
 refine Walk.sliceLit zbf tz33 rfl (by decide) (ks:=[0]) (xs:=[_]) rfl rfl (by decide) (by decide) .none rfl rfl rfl rfl ?_
 refine Walk.append zbf zz33 rfl .none rfl rfl rfl rfl (zaG rfl (by first|rfl|(simp;done)|(simp;omega))) (by simp) (by have hl:=congrArg List.length hg1;simp at hl;simp;omega) (by have hl:=congrArg List.length hg1;simp at hl;simp;omega) ?_
 refine ev ?_
 refine ar ?_
 refine Exists.intro ((pre++[y],rest)) ⟨(by have hz:=hg1;rw[←hz];simp),(by simp),Sub.x (by kernel_rfl) (by kernel_rfl) ⟨⟨_,rfl,(LeA.eqi (by first|rfl|(simp;done)|(simp[zbp,Ctor.eta,h1s,h1p,h2s,h2p];done)))⟩,⟨⟨_,rfl,(LeA.glg (by first|rfl|(simp;done)|(simp[zbp,Ctor.eta,h1s,h1p,h2s,h2p];done)))⟩,trivial⟩⟩ (by kernel_rfl) (by kernel_rfl) ⟨zae (by first|rfl|(simp;done)|(simp;omega)|(first|rfl|(simp;done)|(simp[zbp,Ctor.eta,h1s,h1p,h2s,h2p];done))),trivial⟩⟩
 try simp only[Q] at h2p
 refine Walk.sliceLit zbf tz33 rfl (by decide) (ks:=[0]) (xs:=[_]) rfl rfl (by decide) (by decide) .none rfl rfl rfl rfl ?_
 refine Walk.append zbf zz33 rfl .none rfl rfl rfl rfl (zaG rfl (by first|rfl|(simp;done)|(simp;omega))) (by simp) (by have hl:=congrArg List.length hg1;simp at hl;simp;omega) (by have hl:=congrArg List.length hg1;simp at hl;simp;omega) ?_
 refine ev ?_
 refine ar ?_
 refine Exists.intro ((pre++[y],rest)) ⟨(by have hz:=hg1;rw[←hz];simp),(by simp),Sub.x (by kernel_rfl) (by kernel_rfl) ⟨⟨_,rfl,(LeA.eqi (by first|rfl|(simp;done)|(simp[zbp,Ctor.eta,h1s,h1p,h2s,h2p];done)))⟩,⟨⟨_,rfl,(LeA.glg (by first|rfl|(simp;done)|(simp[zbp,Ctor.eta,h1s,h1p,h2s,h2p];done)))⟩,trivial⟩⟩ (by kernel_rfl) (by kernel_rfl) ⟨zae (by first|rfl|(simp;done)|(simp;omega)|(first|rfl|(simp;done)|(simp[zbp,Ctor.eta,h1s,h1p,h2s,h2p];done))),trivial⟩⟩
 try simp only[Q] at h1p
 have hrest:rest=[]:=by
  rcases rest with _|⟨a,b⟩
  ·rfl
  ·exfalso;have hz:=congrArg List.length (hg1);simp only[List.length_append,List.length_cons,List.length_map] at hz;omega
 subst hrest
 focus (refine rn0 (r1 rfl) (.gld ?_);all_goals (simp[←hg1,zbF,h1s,h1p]))
mutual
def zp7:Val→Val→Bool
 | .mk a n ks,.mk b m ls=>decide (a=b)&&(decide (n=m)&&zl3 ks ls)
def zl3:List Val→List Val→Bool
 | [],[]=>true
 |x::r,y::s=>zp7 x y&&zl3 r s
 |_,_=>false
end
mutual
def Val.ok:Val→Prop
 | .mk _ _ ks=>ks.length≤1000000000000∧Vals.ok ks
def Vals.ok:List Val→Prop
 | []=>True
 |v::r=>v.ok∧Vals.ok r
end
theorem Vals.ok_mem:∀ {l:List Val},Vals.ok l→∀v,v∈l→v.ok
 |x::r,h,v,hv=>by
  simp only[Vals.ok] at h
  rcases List.mem_cons.1 hv with rfl|hv
  ·exact h.1
  ·exact Vals.ok_mem h.2 v hv
mutual
def Val.size:Val→Nat
 | .mk _ _ ks=>1+Vals.size ks
def Vals.size:List Val→Nat
 | []=>0
 |v::r=>v.size+Vals.size r
end
theorem Vals.size_mem:∀ {l:List Val}{v:Val},v∈l→v.size≤Vals.size l
 |x::r,v,hv=>by
  simp only[Vals.size]
  rcases List.mem_cons.1 hv with rfl|hv
  ·omega
  ·have:=Vals.size_mem hv;omega
theorem Val.ok_iff (v:Val):v.ok↔v.kids.length≤1000000000000∧Vals.ok v.kids:=by cases v;rfl
theorem Val.size_eq (v:Val):v.size=1+Vals.size v.kids:=by cases v;rfl
theorem zoM {w:List Data}{a b:Int}:FnD Tryz.prog 103 [.d (zao w),.agg [.d (.i a),.d (.i b)]] [] (.d (.bool (zbz w.length ⟨a,b⟩&&decide (0≤b)))) []:=by
 refine bd Tryz.f103 14 [] [] fun w0 F0 own kept hk=>?_
 refine Walk.box (id:=3003) .none rfl rfl rfl rfl rfl rfl rfl ?_
 refine ev ?_
 refine Walk.call (cr:=[]) zqi (ziD) rfl .none rfl rfl (LeL.refl _) trivial rfl rfl rfl ?_
 refine ev ?_
 refine sq (fun h1 h1p h1s=>?_) fun h1 h1p h1s=>?_
 try simp only[Q] at h1p
 focus (refine rn0 (r1 rfl) (.eqd ?_);all_goals (first|rfl|(simp[h1s,h1p];done)|(simp_all;done)|(simp_all;omega)|omega))
 try simp only[Q] at h1p
 focus (refine rn0 (r1 rfl) (.eqd ?_);all_goals (first|rfl|(simp[h1s,h1p];done)|(simp_all;done)|(simp_all;omega)|omega))
theorem zj2 {w:List Data}{a b:Int} (hs:WSmall w):FnD Tryz.prog 56 [.d (zao w),.agg [.d (.i a),.d (.i b)]] [] (.d (.bool (zbB w&&(zbz w.length ⟨a,b⟩&&decide (0≤b))))) []:=by
 refine bd Tryz.f56 12 [] [] fun w0 F0 own kept hk=>?_
 refine Walk.box (id:=3003) .none rfl rfl rfl rfl rfl rfl rfl ?_
 refine ev ?_
 refine Walk.call (cr:=[]) zt2 (zjv hs) rfl .none rfl rfl (LeL.refl _) trivial rfl rfl rfl ?_
 refine ev ?_
 refine sq (fun h1 h1p h1s=>?_) fun h1 h1p h1s=>?_
 try simp only[Q] at h1p
 refine Walk.call (cr:=[]) zsN (zoM) rfl (.some rfl rfl h1) rfl rfl (LeL.refl _) trivial rfl rfl rfl ?_
 refine evs [] [(7,true)] ?_ ⟨⟨_,rfl,h1⟩,trivial⟩
 focus (refine rn0 (r1 rfl) (.eqd ?_);all_goals (first|rfl|(simp[h1s,h1p];done)|(simp_all;done)|(simp_all;omega)|omega))
 try simp only[Q] at h1p
 focus (refine rn0 (r1 rfl) (.eqd ?_);all_goals (first|rfl|(simp[h1s,h1p];done)|(simp_all;done)|(simp_all;omega)|omega))
def TyIn (n:Nat) (t:Ty):Prop:=t.data = -1∨∃d:Nat,t.data=d∧d<n
structure WT (w:List Data):Prop where
 small:WSmall w
 arg:∀d∈w,∀c∈d.ctors,∀t∈c.args,TyIn w.length t
def zaj (w:List Data) (t:Ty) (c:Int):List Ty:=
 let x:=nth (nth w t.data.toNat).ctors c.toNat
 x.args.map (zbp (zbF x t.index))
def zbo (w:List Data) (t:Ty):List Int:=za3 t.index 0 (nth w t.data.toNat).ctors
def cap (x:Int):Int:=if 401<x then 401 else x
theorem zkZ {x:Int} (h:0≤x):0≤cap x∧cap x≤401:=by unfold cap;split<;>omega
theorem zf7 (k:Int):∀(l:List Ctor) (i:Nat) (c:Int),c∈za3 k i l→∃j:Nat,c=(j:Int)∧i≤j∧j<i+l.length
 | [],i,c,h=>by simp[za3] at h
 |x::r,i,c,h=>by
  unfold za3 at h
  have go:c∈za3 k (i+1) r→∃j:Nat,c=(j:Int)∧i≤j∧j<i+(x::r).length:=fun h=>by
   obtain⟨j,h1,h2,h3⟩:=zf7 k r (i+1) c h
   exact⟨j,h1,by omega,by simp;omega⟩
  split at h
  ·rcases List.mem_cons.1 h with h|h
   ·exact⟨i,h,by omega,by simp⟩
   ·exact go h
  ·exact go h
theorem zrh {n:Nat}{k:Int}{t:Ty} (h:TyIn n t):TyIn n (zbp k t):=by
 unfold zbp;split
 ·exact h
 ·exact h
def PlaceIn (w:List Data) (d:Nat) (c:Int):Prop:=∃j:Nat,c=j∧j<(nth w d).ctors.length
theorem zoE {w:List Data}{d:Nat}{k c:Int} (h:c∈zbo w ⟨d,k⟩):PlaceIn w d c:=by
 obtain⟨j,h1,_,h3⟩:=zf7 _ _ _ _ h
 exact⟨j,h1,by simpa using h3⟩
theorem zqb {w:List Data} (hw:WT w){d:Nat} (hd:d<w.length){k c:Int} (hc:PlaceIn w d c){t:Ty} (ht:t∈zaj w ⟨d,k⟩ c):TyIn w.length t:=by
 obtain⟨j,rfl,hj⟩:=hc
 simp only[zaj,Int.toNat_natCast,List.mem_map] at ht
 obtain⟨x,hx,rfl⟩:=ht
 exact zrh (hw.arg _ (zal hd) _ (zal hj) x hx)
theorem zh5 {w:List Data} (hw:WT w){d:Nat} (hd:d<w.length){k c:Int} (hc:PlaceIn w d c):(zaj w ⟨d,k⟩ c).length≤1000000000000:=by
 obtain⟨j,rfl,hj⟩:=hc
 simp only[zaj,Int.toNat_natCast,List.length_map]
 exact(hw.small.ctor _ (zal hd) _ (zal hj)).2
theorem zo2 {w:List Data} (hw:WT w){d:Nat}{k:Int}:(zbo w ⟨d,k⟩).length≤1000000000000:=by
 have:=zf6 k (nth w d).ctors 0
 have:=hw.small.ctors d
 simp only[zbo,Int.toNat_natCast];omega
theorem zkl {w:List Data} (hw:WT w){d:Nat} (hd:d<w.length){k c:Int} (hc:PlaceIn w d c):FnD Tryz.prog 132 [.d (zao w),.agg [.d (.i d),.d (.i k)],.d (.i c)] [] (.d (zby (zaj w ⟨d,k⟩ c))) []:=by
 obtain⟨j,rfl,hj⟩:=hc
 exact zkk hw.small hd hj
theorem zlb {w:List Data} (hw:WT w){d:Nat} (hd:d<w.length){k:Int}:FnD Tryz.prog 122 [.d (zao w),.agg [.d (.i d),.d (.i k)]] [] (.d (zcL (zbo w ⟨d,k⟩))) []:=zk9 hw.small hd
theorem zmD {w:List Data} (hw:WT w){d:Nat} (hd:d<w.length){k c:Int} (hc:PlaceIn w d c):FnD Tryz.prog 172 [.d (zao w),.agg [.d (.i d),.d (.i k)],.d (.i c)] [] (.d (zby (zaj w ⟨d,k⟩ c))) []:=by
 obtain⟨j,rfl,hj⟩:=hc
 exact zmC hw.small hd hj
theorem zlP {w:List Data} (hw:WT w){d:Nat} (hd:d<w.length){k:Int}:FnD Tryz.prog 110 [.d (zao w),.agg [.d (.i d),.d (.i k)]] [] (.d (zcL (zbo w ⟨d,k⟩))) []:=zlO hw.small hd
end Go.Proofs.YtfiihhedihkdoaaGreat
namespace Go.Proofs.YtfiihhedihkdoaaGreat
open Go
set_option linter.unusedSimpArgs false
set_option linter.unusedVariables false
def zdE (w:List Data):List Str:=w.flatMap fun d=>d.ctors.map (·.name)
structure WV (w:List Data):Prop where
 len:w.length≤4
 data:∀d∈w,zaI d.name=true∧1≤d.ctors.length∧d.ctors.length≤4
 ctor:∀d∈w,∀c∈d.ctors,zaR w.length c=true
 names:(w.map (·.name)).Nodup
 cnames:(zdE w).Nodup
theorem zhy (n:Nat):∀(l:List Ctor) (met met':List Str),zbV n met l=some met'↔met'=met++l.map (·.name)∧(∀c∈l,zaR n c=true)∧(l.map (·.name)).Nodup∧∀c∈l,c.name∉met
 | [],met,met'=>by
  unfold zbV
  simp only[Option.some.injEq,List.map_nil,List.append_nil]
  exact⟨fun h=>⟨h.symm,by simp,by simp,by simp⟩,fun h=>h.1.symm⟩
 |c::r,met,met'=>by
  unfold zbV
  by_cases h:(zaR n c&& !decide (c.name∈met))=true
  ·rw[if_pos h,zhy n r]
   simp only[Bool.and_eq_true,Bool.not_eq_true',decide_eq_false_iff_not] at h
   obtain⟨h1,h2⟩:=h
   constructor
   ·rintro ⟨rfl,q1,q2,q3⟩
    refine⟨by simp,fun x hx=>?_, ?_,fun x hx=>?_⟩
    ·rcases List.mem_cons.1 hx with rfl|hx
     ·exact h1
     ·exact q1 x hx
    ·simp only[List.map_cons,List.nodup_cons]
     refine⟨fun hm=>?_,q2⟩
     obtain⟨x,hx,he⟩:=List.mem_map.1 hm
     exact q3 x hx (by rw[he];simp)
    ·rcases List.mem_cons.1 hx with rfl|hx
     ·exact h2
     ·intro hm;exact q3 x hx (by simp[hm])
   ·rintro ⟨rfl,q1,q2,q3⟩
    simp only[List.map_cons,List.nodup_cons] at q2
    refine⟨by simp,fun x hx=>q1 x (List.mem_cons_of_mem _ hx),q2.2,fun x hx hm=>?_⟩
    simp only[List.mem_append,List.mem_singleton] at hm
    rcases hm with hm|hm
    ·exact q3 x (List.mem_cons_of_mem _ hx) hm
    ·exact q2.1 (hm ▸ List.mem_map.2 ⟨x,hx,rfl⟩)
  ·rw[if_neg h]
   constructor
   ·intro h';cases h'
   ·rintro ⟨_,q1,_,q3⟩
    exfalso;apply h
    simp[q1 c (by simp),q3 c (by simp)]
theorem zhz (n:Nat):∀(l:List Data) (met datas:List Str),zaP n met datas l=true↔
  (∀d∈l,zaI d.name=true∧1≤d.ctors.length∧d.ctors.length≤4)∧(∀d∈l,∀c∈d.ctors,zaR n c=true)∧(l.map (·.name)).Nodup∧(∀d∈l,d.name∉datas)∧
   (zdE l).Nodup∧∀s∈zdE l,s∉met
 | [],met,datas=>by simp[zaP,zdE]
 |d::r,met,datas=>by
  have hcn:zdE (d::r)=d.ctors.map (·.name)++zdE r:=rfl
  have hw:zar d.ctors.length 1 4=true↔1≤d.ctors.length∧d.ctors.length≤4:=by simp[zar];omega
  unfold zaP
  simp only[Bool.and_eq_true,Bool.not_eq_true',decide_eq_false_iff_not,hw]
  constructor
  ·rintro ⟨⟨⟨h1,h2⟩,h3⟩,h4⟩
   split at h4
   ·rename_i met' hm
    obtain⟨rfl,c1,c2,c3⟩:=(zhy n _ _ _).1 hm
    obtain⟨q1,q2,q3,q4,q5,q6⟩:=(zhz n r _ _).1 h4
    refine⟨fun x hx=>?_,fun x hx=>?_, ?_,fun x hx=>?_, ?_,fun s hs=>?_⟩
    ·rcases List.mem_cons.1 hx with rfl|hx
     ·exact⟨h1,h3⟩
     ·exact q1 x hx
    ·rcases List.mem_cons.1 hx with rfl|hx
     ·exact c1
     ·exact q2 x hx
    ·simp only[List.map_cons,List.nodup_cons]
     refine⟨fun hm=>?_,q3⟩
     obtain⟨x,hx,he⟩:=List.mem_map.1 hm
     exact q4 x hx (by rw[he];simp)
    ·rcases List.mem_cons.1 hx with rfl|hx
     ·exact h2
     ·intro hm;exact q4 x hx (by simp[hm])
    ·rw[hcn,List.nodup_append]
     refine⟨c2,q5,fun a ha b hb he=>?_⟩
     subst he
     exact q6 a hb (by simp only[List.mem_append];exact .inr ha)
    ·rw[hcn] at hs
     rcases List.mem_append.1 hs with hs|hs
     ·obtain⟨c,hc,rfl⟩:=List.mem_map.1 hs
      exact c3 c hc
     ·intro hm;exact q6 s hs (by simp[hm])
   ·cases h4
  ·rintro ⟨q1,q2,q3,q4,q5,q6⟩
   rw[hcn] at q5 q6
   rw[List.nodup_append] at q5
   simp only[List.map_cons,List.nodup_cons] at q3
   have hd:=q1 d (by simp)
   have hm:zbV n met d.ctors=some (met++d.ctors.map (·.name)):=(zhy n _ _ _).2 ⟨rfl,q2 d (by simp),q5.1,fun c hc=>q6 _ (List.mem_append.2 (.inl (List.mem_map.2 ⟨c,hc,rfl⟩)))⟩
   refine⟨⟨⟨hd.1,q4 d (by simp)⟩,hd.2⟩, ?_⟩
   rw[hm]
   refine(zhz n r _ _).2 ⟨fun x hx=>q1 x (List.mem_cons_of_mem _ hx),fun x hx=>q2 x (List.mem_cons_of_mem _ hx),q3.2,fun x hx hmem=>?_,q5.2.1,fun s hs hmem=>?_⟩
   ·simp only[List.mem_append,List.mem_singleton] at hmem
    rcases hmem with hmem|hmem
    ·exact q4 x (List.mem_cons_of_mem _ hx) hmem
    ·exact q3.1 (hmem ▸ List.mem_map.2 ⟨x,hx,rfl⟩)
   ·rcases List.mem_append.1 hmem with hmem|hmem
    ·exact q6 s (List.mem_append.2 (.inr hs)) hmem
    ·exact q5.2.2 s hmem s hs rfl
theorem zdD (w:List Data):zbb w=true↔WV w:=by
 unfold zbb
 rw[Bool.and_eq_true,zhz]
 constructor
 ·rintro ⟨h1,q1,q2,q3,_,q5,_⟩
  exact⟨by have:=of_decide_eq_true h1;omega,q1,q2,q3,q5⟩
 ·rintro ⟨h1,q1,q2,q3,q5⟩
  exact⟨decide_eq_true (by omega),q1,q2,q3,by simp,q5,by simp⟩
theorem znB {l:List Str}:l.Nodup↔∀i j,i<j→j<l.length→nth l i≠nth l j:=by
 unfold List.Nodup
 rw[List.pairwise_iff_getElem]
 constructor
 ·intro h i j hij hj
  have:=h i j (by omega) hj hij
  simpa [nth,List.getD,hj,(by omega:i<l.length)] using this
 ·intro h i j hi hj hij
  have:=h i j hij hj
  simpa [nth,List.getD,hj,hi] using this
theorem za9 {α:Type} [Inhabited α]{l:List α}{i:Nat} (h:i<l.length):nth l i=l[i]:=by simp[nth,List.getD,h]
theorem zk1 (w:List Data):(zdE w).Nodup↔(∀d,d<w.length→∀j k,j<k→k<(nth w d).ctors.length→(nth (nth w d).ctors j).name≠(nth (nth w d).ctors k).name)∧
  ∀i d,i<d→d<w.length→∀j k,j<(nth w i).ctors.length→k<(nth w d).ctors.length→(nth (nth w i).ctors j).name≠(nth (nth w d).ctors k).name:=by
 unfold zdE List.Nodup
 rw[List.pairwise_flatMap]
 constructor
 ·rintro ⟨h1,h2⟩
  refine⟨fun d hd j k hjk hk=>?_,fun i d hid hd j k hj hk=>?_⟩
  ·have:=h1 (nth w d) (zal hd)
   rw[List.pairwise_iff_getElem] at this
   have:=this j k (by simp;omega) (by simpa using hk) hjk
   simpa [za9 hk,za9 (show j<(nth w d).ctors.length by omega)] using this
  ·rw[List.pairwise_iff_getElem] at h2
   have:=h2 i d (by omega) hd hid
   rw[←za9 hd,←za9 (show i<w.length by omega)] at this
   exact this _ (List.mem_map.2 ⟨_,zal hj,rfl⟩) _ (List.mem_map.2 ⟨_,zal hk,rfl⟩)
 ·rintro ⟨h1,h2⟩
  refine⟨fun x hx=>?_, ?_⟩
  ·obtain⟨d,hd,rfl⟩:=List.getElem_of_mem hx
   rw[List.pairwise_iff_getElem]
   intro j k hj hk hjk
   have hk':k<(nth w d).ctors.length:=by rw[za9 hd];simpa using hk
   have:=h1 d hd j k hjk hk'
   rw[za9 hk',za9 (show j<(nth w d).ctors.length by omega)] at this
   simp only[za9 hd] at this
   simpa using this
  ·rw[List.pairwise_iff_getElem]
   intro i d hi hd hid x hx y hy
   obtain⟨a,ha,rfl⟩:=List.mem_map.1 hx
   obtain⟨b,hb,rfl⟩:=List.mem_map.1 hy
   obtain⟨j,hj,rfl⟩:=List.getElem_of_mem ha
   obtain⟨k,hk,rfl⟩:=List.getElem_of_mem hb
   have hj':j<(nth w i).ctors.length:=by rw[za9 hi];exact hj
   have hk':k<(nth w d).ctors.length:=by rw[za9 hd];exact hk
   have:=h2 i d hid hd j k hj' hk'
   rw[za9 hj',za9 hk'] at this
   simpa only[za9 hi,za9 hd] using this
theorem znc (w:List Data):(w.map (·.name)).Nodup↔∀i d,i<d→d<w.length→(nth w i).name≠(nth w d).name:=by
 rw[znB]
 have e:∀i,i<w.length→nth (w.map (·.name)) i=(nth w i).name:=fun i hi=>by simp[nth,List.getD,hi]
 constructor
 ·intro h i d hid hd
  have:=h i d hid (by simpa using hd)
  rwa [e i (by omega),e d hd] at this
 ·intro h i d hid hd
  have hd':d<w.length:=by simpa using hd
  rw[e i (by omega),e d hd']
  exact h i d hid hd'
theorem znr (w:List Data) (d k:Nat):zl2 w d k=false↔(∀i,i<d→(nth w i).name≠(nth w d).name)∧
  ∀i j,i≤d→j<(nth w i).ctors.length→(i<d∨j<k)→k<(nth w d).ctors.length→(nth (nth w i).ctors j).name≠(nth (nth w d).ctors k).name:=by
 unfold zl2
 rw[List.any_eq_false]
 constructor
 ·intro h
  refine⟨fun i hi he=>?_,fun i j hi hj hij hk he=>?_⟩
  ·apply h i (List.mem_range.2 (by omega))
   unfold zbL;simp[hi,he]
  ·apply h i (List.mem_range.2 (by omega))
   unfold zbL
   rw[zaY hj (by unfold zbE;simp[hk,he];omega)]
   simp
 ·rintro ⟨h1,h2⟩ i hi
  have hi':=List.mem_range.1 hi
  unfold zbL
  simp only[Bool.or_eq_true,Bool.and_eq_true,decide_eq_true_eq,not_or,not_and]
  refine⟨fun hid=>h1 i hid, ?_⟩
  rw[zb7 (fun j hj=>?_)]
  ·simp
  ·unfold zbE
   cases hc:((decide (i<d)||decide (j<k))&&(decide (k<(nth w d).ctors.length)&&decide ((nth (nth w i).ctors j).name=(nth (nth w d).ctors k).name))) with
   |false=>rfl
   |true=>
    simp only[Bool.and_eq_true,Bool.or_eq_true,decide_eq_true_eq] at hc
    exact absurd hc.2.2 (h2 i j (by omega) hj hc.1 hc.2.1)
theorem zju (w:List Data):zbB w=true↔WV w:=by
 unfold zbB
 rw[Bool.and_eq_true,decide_eq_true_eq,List.all_eq_true]
 have hs:∀d,zaU w d=true↔zaI (nth w d).name=true∧1≤(nth w d).ctors.length∧(nth w d).ctors.length≤4∧∀k,k<(nth w d).ctors.length→zaR w.length (nth (nth w d).ctors k)=true∧zl2 w d k=false:=fun d=>by
  unfold zaU
  simp only[Bool.and_eq_true,decide_eq_true_eq,List.all_eq_true,List.mem_range,zcw,Bool.not_eq_true']
 constructor
 ·rintro ⟨h1,h2⟩
  have h3:∀d,d<w.length→_:=fun d hd=>(hs d).1 (h2 d (List.mem_range.2 hd))
  have h4:∀d,d<w.length→∀k,k<(nth w d).ctors.length→_:=fun d hd k hk=>(znr w d k).1 ((h3 d hd).2.2.2 k hk).2
  refine⟨h1,fun d hd=>?_,fun d hd c hc=>?_,(znc w).2 (fun i d hid hd=>?_),(zk1 w).2 ⟨fun d hd j k hjk hk=>?_,fun i d hid hd j k hj hk=>?_⟩⟩
  ·obtain⟨i,hi,rfl⟩:=List.getElem_of_mem hd
   have:=h3 i hi
   rw[za9 hi] at this
   exact⟨this.1,this.2.1,this.2.2.1⟩
  ·obtain⟨i,hi,rfl⟩:=List.getElem_of_mem hd
   obtain⟨k,hk,rfl⟩:=List.getElem_of_mem hc
   have hk':k<(nth w i).ctors.length:=by rw[za9 hi];exact hk
   have:=((h3 i hi).2.2.2 k hk').1
   rw[za9 hk'] at this
   simpa only[za9 hi] using this
  ·exact(h4 d hd 0 (by have:=(h3 d hd).2.1;omega)).1 i hid
  ·exact(h4 d hd k hk).2 d j (Nat.le_refl _) (by omega) (.inr hjk) hk
  ·exact(h4 d hd k hk).2 i j (by omega) hj (.inl hid) hk
 ·intro h
  refine⟨h.len,fun d hd=>?_⟩
  have hd':=List.mem_range.1 hd
  have hm:=zal hd'
  have hn:=(znc w).1 h.names
  have hc:=(zk1 w).1 h.cnames
  refine(hs d).2 ⟨(h.data _ hm).1,(h.data _ hm).2.1,(h.data _ hm).2.2,fun k hk=>⟨h.ctor _ hm _ (zal hk),(znr w d k).2 ⟨fun i hi=>hn i d hi hd',fun i j hi hj hij hk'=>?_⟩⟩⟩
  by_cases hid:i<d
  ·exact hc.2 i d hid hd' j k hj hk'
  ·have:i=d:=by omega
   subst this
   exact hc.1 i hd' j k (by omega) hk'
theorem zj0 (w:List Data):zbB w=zbb w:=by
 rw[Bool.eq_iff_iff,zju,zdD]
theorem zrg {n:Nat}{t:Ty} (h:zbz n t=true):TyIn n t:=by
 unfold zbz at h
 simp only[Bool.or_eq_true,Bool.and_eq_true,decide_eq_true_eq,zar] at h
 rcases h with h|h
 ·exact .inl h.1
 ·exact .inr ⟨t.data.toNat,by omega,by omega⟩
theorem zq7 {n:Nat}{t:Ty} (h:zcK n t=true):TyIn n t:=by
 unfold zcK at h
 simp only[Bool.or_eq_true,Bool.and_eq_true,decide_eq_true_eq,zar] at h
 rcases h with h|h
 ·exact .inl h.1
 ·exact .inr ⟨t.data.toNat,by omega,by omega⟩
theorem WV.wt {w:List Data} (hs:WSmall w) (h:WV w):WT w:=⟨hs,fun d hd c hc t ht=>by
 have:=h.ctor d hd c hc
 unfold zaR at this
 simp only[Bool.and_eq_true,Bool.not_eq_true',List.any_eq_false,Bool.not_eq_true,Bool.not_eq_false] at this
 exact zrg (by have:=this.2.2.2 t ht;simpa using this)⟩
theorem zsH (w:List Data) (t:Ty):(zbB w&&(zbz w.length t&&decide (0≤t.index)))=zbH w t:=by
 rw[zj0]
 unfold zbH
 congr 1
 rw[Bool.eq_iff_iff]
 unfold zbz zcK zar
 simp
 omega
end Go.Proofs.YtfiihhedihkdoaaGreat
namespace Go.Proofs.YtfiihhedihkdoaaGreat
open Go
set_option linter.unusedSimpArgs false
set_option linter.unusedVariables false
set_option maxRecDepth 100000
set_option maxHeartbeats 2000000
theorem zbc {α:Type} [Inhabited α]{l:List α}{i:Nat} (h:i<l.length):l.drop i=nth l i::l.drop (i+1):=by
 rw[za9 h];exact List.drop_eq_getElem_cons h
def all2 {α β:Type} (f:α→β→Bool):List α→List β→Bool
 | [],[]=>true
 |a::r,b::s=>f a b&&all2 f r s
 |_,_=>false
theorem zgF {α β:Type}{f:α→β→Bool}:∀ {a:List α}{b:List β},a.length≠b.length→all2 f a b=false
 | [],[],h=>by simp at h
 | [],_::_,_=>rfl
 |_::_,[],_=>rfl
 |x::r,y::s,h=>by simp[all2,zgF (a:=r) (b:=s) (by simpa using h)]
theorem zbZ {α β:Type} [Inhabited α] [Inhabited β]{f:α→β→Bool}{a:List α}{b:List β}{i:Nat} (h:i<a.length) (hl:a.length=b.length) (h2:f (nth a i) (nth b i)=false):all2 f a b=false:=by
 induction i generalizing a b with
 |zero=>
  cases a with
  |nil=>simp at h
  |cons x r=>
   cases b with
   |nil=>simp[all2]
   |cons y s=>simp[nth] at h2;simp[all2,h2]
 |succ i ih=>
  cases a with
  |nil=>simp at h
  |cons x r=>
   cases b with
   |nil=>simp[all2]
   |cons y s=>simp only[all2];rw[ih (a:=r) (b:=s) (by simpa using h) (by simpa using hl) (by simpa [nth] using h2)];simp
theorem zcv {α β:Type} [Inhabited α] [Inhabited β]{f:α→β→Bool}{a:List α}{b:List β} (hl:a.length=b.length) (h:∀i,i<a.length→f (nth a i) (nth b i)=true):all2 f a b=true:=by
 induction a generalizing b with
 |nil=>cases b with
  |nil=>simp[all2]
  |cons y s=>simp at hl
 |cons x r ih=>cases b with
  |nil=>simp at hl
  |cons y s=>
   have h0:=h 0 (by simp)
   simp only[all2]
   rw[ih (by simpa using hl) (fun i hi=>by simpa [nth] using h (i+1) (by simpa using hi))]
   simpa [nth] using h0
def idxI (l:List Int) (v:Int):Int:=idxF (fun x=>decide (v=x)) l 0
theorem ziM {l:List Int}{v:Int} (h:l.length≤1000000000000):FnD Tryz.prog 229 [.d (zcL l),.d (.i v)] [] (.d (.i (idxI l v))) []:=by
 refine bd Tryz.f229 19 [] [] fun w0 F0 own kept hk=>?_
 refine CWp.loopX (ι:=List (Int)×List (Int)) hk (fun x=>[(8,.d (.i (x.1.length:Int)))]) [4,5,9,10,11,12,13,14,15,16,17,18] (fun x=>[]) (fun x=>x.1++x.2=l∧idxF (fun x=>decide (v=x)) x.2 x.1.length=idxF (fun x=>decide (v=x)) l 0) (fun x=>x.2.length) ([],l) ⟨by simp,rfl⟩ ⟨⟨_,rfl,(LeA.eqi (by first|rfl|(simp;done)|(simp_all;done)|omega))⟩,trivial⟩ trivial (fun x=>rfl) (fun x hg1=>?_)
 obtain⟨pre,rest⟩:=x
 dsimp only at hg1 ⊢
 refine evc [] [] ?_
 refine sq (fun h1 h1p h1s=>?_) fun h1 h1p h1s=>?_
 try simp only[Q] at h1p
 rcases rest with _|⟨y,rest⟩
 ·exfalso;simp_all
 refine Walk.idx zbU .none rfl rfl rfl rfl (za0 hg1.1) rfl ?_
 refine ev ?_
 refine sq (fun h2 h2p h2s=>?_) fun h2 h2p h2s=>?_
 try simp only[Q] at h2p
 focus (refine rn0 (r1 rfl) (.eqd ?_);all_goals (unfold idxI;rw[←hg1.2];simp[idxF,h1s,h1p,h2s,h2p]))
 try simp only[Q] at h2p
 refine ar ?_
 refine Exists.intro ((pre++[y],rest)) ⟨⟨(by have hz:=hg1.1;rw[←hz];simp),(by rw[←hg1.2];simp[idxF,h2p])⟩,(by simp),Sub.x (by kernel_rfl) (by kernel_rfl) ⟨⟨_,rfl,(LeA.eqi (by first|rfl|(simp;done)|(simp_all;done)|omega))⟩,trivial⟩ (by kernel_rfl) (by kernel_rfl) trivial⟩
 try simp only[Q] at h1p
 have hrest:rest=[]:=by
  rcases rest with _|⟨a,b⟩
  ·rfl
  ·exfalso;have hz:=congrArg List.length (hg1.1);simp only[List.length_append,List.length_cons,List.length_map] at hz;omega
 subst hrest
 focus (refine rn0 (r1 rfl) (.eqd ?_);all_goals (unfold idxI;rw[←hg1.2];simp[idxF,h1s,h1p]))
theorem zeE {l:List Int}{v:Int} (h:l.length≤1000000000000):FnD Tryz.prog 211 [.d (zcL l),.d (.i v)] [] (.d (.bool (decide (v∈l)))) []:=by
 refine bd Tryz.f211 9 [] [] fun w0 F0 own kept hk=>?_
 refine Walk.call (cr:=[]) ztq (ziM h) rfl .none rfl rfl (LeL.refl _) trivial rfl rfl rfl ?_
 refine ev ?_
 refine rn0 (r1 rfl) (.eqd ?_)
 rotate_left
 all_goals (refine congrArg D.bool ?_;rw[show idxI l v=idxF (fun x=>decide (v=x)) l 0 from rfl,zeN];simp[List.any_eq,eq_comm])
theorem zeL {l:List Int}{v:Int} (h:l.length≤1000000000000):FnD Tryz.prog 222 [.d (zcL l),.d (.i v)] [] (.d (.bool (decide (v∈l)))) []:=by
 refine bd Tryz.f222 18 [] [] fun w0 F0 own kept hk=>?_
 refine CWp.loopX (ι:=List (Int)×List (Int)) hk (fun x=>[(5,.d (.i (x.1.length:Int)))]) [4,6,7,8,9,10,11,12,13,14,15,16,17] (fun x=>[]) (fun x=>x.1++x.2=l∧v∉x.1) (fun x=>x.2.length) ([],l) ⟨by simp,by simp⟩ ⟨⟨_,rfl,(LeA.eqi (by first|rfl|(simp;done)|(simp_all;done)|omega))⟩,trivial⟩ trivial (fun x=>rfl) (fun x hg1=>?_)
 obtain⟨pre,rest⟩:=x
 dsimp only at hg1 ⊢
 refine evc [] [] ?_
 refine sq (fun h1 h1p h1s=>?_) fun h1 h1p h1s=>?_
 try simp only[Q] at h1p
 rcases rest with _|⟨y,rest⟩
 ·exfalso;simp_all
 refine Walk.idx zbU .none rfl rfl rfl rfl (za0 hg1.1) rfl ?_
 refine ev ?_
 refine sq (fun h2 h2p h2s=>?_) fun h2 h2p h2s=>?_
 try simp only[Q] at h2p
 focus (refine rn0 (r1 rfl) (.eqd ?_);all_goals (refine congrArg D.bool ?_;first|(symm;rw[decide_eq_true_eq,←hg1.1];simp[h1s,h1p,h2s,h2p];done)|(symm;rw[decide_eq_false_iff_not,←hg1.1];intro hm;simp at hm;exact absurd hm (by simpa using hg1.2))))
 try simp only[Q] at h2p
 refine ar ?_
 refine Exists.intro ((pre++[y],rest)) ⟨⟨(by have hz:=hg1.1;rw[←hz];simp),(by have:=hg1.2;simp[this,eq_comm];omega)⟩,(by simp),Sub.x (by kernel_rfl) (by kernel_rfl) ⟨⟨_,rfl,(LeA.eqi (by first|rfl|(simp;done)|(simp_all;done)|omega))⟩,trivial⟩ (by kernel_rfl) (by kernel_rfl) trivial⟩
 try simp only[Q] at h1p
 have hrest:rest=[]:=by
  rcases rest with _|⟨a,b⟩
  ·rfl
  ·exfalso;have hz:=congrArg List.length (hg1.1);simp only[List.length_append,List.length_cons,List.length_map] at hz;omega
 subst hrest
 focus (refine rn0 (r1 rfl) (.eqd ?_);all_goals (refine congrArg D.bool ?_;first|(symm;rw[decide_eq_true_eq,←hg1.1];simp[h1s,h1p];done)|(symm;rw[decide_eq_false_iff_not,←hg1.1];intro hm;simp at hm;exact absurd hm (by simpa using hg1.2))))
def zh9 (n:Nat):UInt8:=UInt8.ofNat (IntKind.u8.wrap (48+(n:Int) % 10)).toNat
def digs (n:Nat):Str:=if n=0 then [] else digs (n / 10)++[zh9 n]
theorem zmT:digs 0=[]:=by unfold digs;rfl
theorem zod {n:Nat} (h:0<n):digs n=digs (n / 10)++[zh9 n]:=by
 conv=>lhs;unfold digs
 rw[if_neg (by omega)]
theorem zoc:∀n:Nat,(digs n).length≤n
 |0=>by rw[zmT];simp
 |n+1=>by
  rw[zod (by omega)]
  have:=zoc ((n+1) / 10)
  simp only[List.length_append,List.length_cons,List.length_nil]
  omega
termination_by n=>n
decreasing_by omega
def zjJ (n:Nat):Str:=109::digs n
def Ty.one (k:Int) (_:Ty):Ty:=⟨k,k+1⟩
def Ty.sz (_:Ty):Int:=2
def Ctor.one (k:Int) (x:Ctor):Ctor:=⟨zjJ k.toNat,mkL Ty.one Ty.sz (k+1) x.args,k+1+szL Ty.sz x.args⟩
def Ctor.sz (x:Ctor):Int:=2+szL Ty.sz x.args
def Data.one (k:Int) (x:Data):Data:=⟨zjJ k.toNat,mkL Ctor.one Ctor.sz (k+1) x.ctors⟩
def Data.sz (x:Data):Int:=1+szL Ctor.sz x.ctors
theorem Ty.sz_nn (x:Ty):0≤x.sz:=by simp[Ty.sz]
theorem Ctor.sz_nn (x:Ctor):0≤x.sz:=by have:=za8 (l:=x.args) Ty.sz_nn;unfold Ctor.sz;omega
theorem Data.sz_nn (x:Data):0≤x.sz:=by have:=za8 (l:=x.ctors) Ctor.sz_nn;unfold Data.sz;omega
theorem zpD:∀l:List Ty,szL Ty.sz l=2*l.length
 | []=>rfl
 |x::r=>by simp only[szL,zpD r,Ty.sz,List.length_cons];omega
theorem ze4 {α:Type}{sz:α→Int}{pre rest l:List α}{y:α} (h:pre++y::rest=l):szL sz l=szL sz pre+sz y+szL sz rest:=by
 subst h;rw[zit];simp only[szL];omega
theorem zkt {n:Nat} (hn:0<n) (hb:(n:Int)≤1000000000000):FnD Tryz.prog 43 [.d (.i (n:Int))] [] (.d (.str (zjJ n))) []:=by
 have hl:=zoc n
 refine bd Tryz.f43 20 [9,15,17,19] [] fun w0 F0 own kept hk=>?_
 refine sq (fun h1 h1p h1s=>?_) fun h1 h1p h1s=>?_
 try simp only[Q] at h1p
 exfalso;omega
 try simp only[Q] at h1p
 refine CWp.loopX (ι:=Nat×Str) hk (fun x=>[(0,.d (.i (x.1:Int))),(3,.d (.str x.2))]) [6,7,8,9,10,11,12,13,14,15,16,17] (fun x=>[]) (fun x=>digs x.1++x.2=digs n∧x.1≤n) (fun x=>x.1) (n,[]) (by simp) ⟨⟨_,rfl,(LeA.eqi (by first|rfl|(dsimp only;omega)|(simp[strN,zh9];done)))⟩,⟨⟨_,rfl,(LeA.eqs (by first|rfl|(dsimp only;omega)|(simp[strN,zh9];done)))⟩,trivial⟩⟩ trivial (fun x=>rfl) (fun x hg1=>?_)
 refine evc [9,15,17,19] [] ?_
 refine sq (fun h2 h2p h2s=>?_) fun h2 h2p h2s=>?_
 try simp only[Q] at h2p
 refine Walk.remI .none rfl rfl rfl (by omega) ?_
 refine evs [9,15,17,19] [] ?_
 refine ar ?_
 refine Walk.conv (by rw[un3];rfl) un5 .none rfl rfl ?_
 refine Walk.sliceLit sl52 tz5 rfl (by decide) (ks:=[0]) (xs:=[_]) rfl rfl (by decide) (by decide) .none rfl rfl rfl rfl ?_
 refine Walk.bytesStr sl52 un9 (by kernel_rfl) .none rfl rfl rfl (by first|rfl|exact znh _) ?_
 refine evs [9,15,17,19] [] ?_
 refine Walk.catS .none rfl rfl rfl (by have hz:=congrArg List.length hg1.1;simp[strN] at hz ⊢;omega) ?_
 refine evs [9,15,17,19] [] ?_
 refine Walk.quoI .none rfl rfl rfl (by omega) ?_
 refine evs [9,15,17,19] [] ?_
 refine Exists.intro ((x.1 / 10,zh9 x.1::x.2)) ⟨⟨(by rw[←hg1.1,zod (n:=x.1) (by omega)];simp),(by have:=hg1.2;dsimp only;omega)⟩,(by dsimp only;omega),Sub.x (by kernel_rfl) (by kernel_rfl) ⟨⟨_,rfl,(LeA.eqi (by first|rfl|(dsimp only;omega)|(simp[strN,zh9];done)))⟩,⟨⟨_,rfl,(LeA.eqs (by first|rfl|(dsimp only;omega)|(simp[strN,zh9];done)))⟩,trivial⟩⟩ (by kernel_rfl) (by kernel_rfl) trivial⟩
 try simp only[Q] at h2p
 refine Walk.catS .none rfl rfl rfl (by have hz:=congrArg List.length hg1.1;simp[strN] at hz ⊢;omega) ?_
 refine evs [9,15,17,19] [] ?_
 refine rn0 (r1 rfl) (.eqd ?_)
 rotate_left
 all_goals (first|(exfalso;omega)|rfl|(refine congrArg D.str ?_;have hz:x.1=0:=(by omega);have hy:=hg1.1;rw[hz,zmT,List.nil_append] at hy;rw[hy];rfl))
theorem zhf {k:Int} (h0:0<k) (hb:k≤1000000000000):FnD Tryz.prog 43 [.d (.i k)] [] (.d (.str (zjJ k.toNat))) []:=by
 have hz:=zkt (n:=k.toNat) (by omega) (by omega)
 rw[show((k.toNat:Nat):Int)=k by omega] at hz
 exact hz
theorem zlq {l:List Ty} (h:l.length≤1000000000000):FnD Tryz.prog 175 [.d (zby l)] [] (.ms 61 l.length) [(61,some (.tree (zah false (l.map Ty.c))))]:=by
 refine bd Tryz.f175 23 [] [2] fun w0 F0 own kept hk=>?_
 refine Walk.make (id:=61) zbf tz33 rfl (by decide) (zce rfl) .none rfl rfl rfl (by simp;omega) (by simp;omega) rfl rfl rfl ?_
 refine ev ?_
 refine CWp.boxTree 61 false rfl rfl (zet _ _ _) ?_
 refine evc [] [] ?_
 refine CWp.loopX (ι:=List (Ty)×List (Ty)) hk (fun x=>[(4,.d (.i (x.1.length:Int)))]) [8,9,10,11,12,13,14,15,16,17,18,19,20,21] (fun x=>[(61,some (.tree (zah false (x.1.map Ty.c)++zaD x.2.length [.d (.i 0),.d (.i 0)])))]) (fun x=>x.1++x.2=l) (fun x=>x.2.length) ([],l) (by simp) ⟨⟨_,rfl,(LeA.eqi (by first|rfl|(simp;done)|(simp_all;done)|omega))⟩,trivial⟩ ⟨(by first|rfl|(show some (Res.tree _)=some (Res.tree _);rw[List.map_append,List.map_singleton,←zcs];rfl)|(show some (Res.tree _)=some (Res.tree _);simp[zbv];rfl)),trivial⟩ (fun x=>rfl) (fun x hg1=>?_)
 obtain⟨pre,rest⟩:=x
 dsimp only at hg1 ⊢
 refine evc [] [2] ?_
 refine sq (fun h1 h1p h1s=>?_) fun h1 h1p h1s=>?_
 try simp only[Q] at h1p
 rcases rest with _|⟨y,rest⟩
 ·exfalso;simp_all
 refine Walk.idx zsg .none rfl rfl rfl rfl (za0 hg1) rfl ?_
 refine ev ?_
 refine Walk.call (cr:=[]) zg8 (zci) rfl .none rfl rfl (LeL.refl _) trivial rfl (by first|rfl|(simp only[zat,List.all_cons,List.all_nil,zaE,zaz,AV.idsL,AV.ids,zab,zaa,List.map_cons,List.map_nil];rfl)) (by first|rfl|(simp only[zak,occH,occE,Res.ids,List.cons_append,List.nil_append,AV.idsL,AV.ids,zab,zaa,zac,zan,List.map_cons,List.map_nil,upC];rfl)) ?_
 refine Walk.idxM zbf .none rfl rfl rfl rfl (by first|omega|(simp ;omega)) ?_
 refine Walk.storeT ty33 .none rfl rfl rfl rfl rfl rfl (by simp) ((zf2 (zeY false (by intro x _;rfl)) rfl)) ?_
 refine tv ?_
 refine ar ?_
 refine Exists.intro ((pre++[y],rest)) ⟨(by have hz:=hg1;rw[←hz];simp),(by simp),Sub.x (by kernel_rfl) (by kernel_rfl) ⟨⟨_,rfl,(LeA.eqi (by first|rfl|(simp;done)|(simp_all;done)|omega))⟩,trivial⟩ (by kernel_rfl) (by kernel_rfl) ⟨(by first|rfl|(show some (Res.tree _)=some (Res.tree _);rw[List.map_append,List.map_singleton,←zcs];rfl)|(show some (Res.tree _)=some (Res.tree _);simp[zbv];rfl)),trivial⟩⟩
 try simp only[Q] at h1p
 have hrest:rest=[]:=by
  rcases rest with _|⟨a,b⟩
  ·rfl
  ·exfalso;have hz:=congrArg List.length (hg1);simp only[List.length_append,List.length_cons,List.length_map] at hz;omega
 subst hrest
 refine rn [(61,some (.tree (zah false (l.map Ty.c))))] (r1 rfl) (LeA.msn ?_) ⟨rfl,rfl⟩ (SubH.get ⟨?_,trivial⟩) (zbj rfl)
 rotate_left 2
 all_goals (first|((first|rfl|(simp;done));done)|(first|rfl|(rw[List.append_nil] at hg1;subst hg1;show some (Res.tree _)=some (Res.tree _);simp[zaD];done)))
theorem zmu {s:Str}{args:List Ty}{k:Int} (h:args.length≤1000000000000):FnD Tryz.prog 113 [.agg [.d (.str s),.d (zby args),.d (.i k)]] [] (.agg [.d (.str s),.ms 61 args.length,.d (.i k)]) [(61,some (.tree (zah false (args.map Ty.c))))]:=by
 refine bd Tryz.f113 15 [] [] fun w0 F0 own kept hk=>?_
 refine Walk.box (id:=3001) .none rfl rfl rfl rfl rfl rfl rfl ?_
 refine Walk.alloc (id:=3002) zfU rfl .none rfl rfl rfl rfl ?_
 refine tv ?_
 refine Walk.alloc (id:=3003) zfU rfl .none rfl rfl rfl rfl ?_
 refine tv ?_
 refine Walk.store ty9 .none rfl rfl rfl rfl rfl rfl (by simp) rfl ?_
 refine tv ?_
 refine Walk.call (cr:=[61]) zqn (zlq h) rfl .none rfl rfl (LeL.refl _) trivial rfl (by first|rfl|(simp only[zat,List.all_cons,List.all_nil,zaE,zaz,AV.idsL,AV.ids,zab,zaa,List.map_cons,List.map_nil];rfl)) (by first|rfl|(simp only[zak,occH,occE,Res.ids,List.cons_append,List.nil_append,AV.idsL,AV.ids,zab,zaa,zac,zan,List.map_cons,List.map_nil,upC];rfl)) ?_
 refine ev ?_
 refine Walk.store znP .none rfl rfl rfl rfl rfl rfl (by simp) rfl ?_
 refine tv ?_
 refine Walk.store ty3 .none rfl rfl rfl rfl rfl rfl (by simp) rfl ?_
 refine tv ?_
 refine Walk.store zfT .none rfl rfl rfl rfl rfl rfl (by simp) rfl ?_
 refine tv ?_
 focus (refine rn [(61,some (.tree (zah false (args.map Ty.c))))] (.cons (.cellA zfT rfl rfl rfl) .nil) (.agg (.cons (.eqd ?_) (.cons (LeA.msn ?_) (.cons (.eqd ?_) .nil)))) ⟨rfl,rfl⟩ (SubH.get ⟨rfl,trivial⟩) (zbj rfl);all_goals (first|rfl|(simp[];done)|(simp_all;done)|(simp_all;omega)|omega))
theorem zlo {l:List Ctor} (hs:CSmall l):FnD Tryz.prog 62 [.d (zcf l)] [] (.ms 62 l.length) [(62,some (.tree (zah false (l.map Ctor.c))))]:=by
 have h:=hs.len
 refine bd Tryz.f62 23 [] [2,4] fun w0 F0 own kept hk=>?_
 refine Walk.make (id:=62) sl79 zfU rfl (by decide) (zce rfl) .none rfl rfl rfl (by simp;omega) (by simp;omega) rfl rfl rfl ?_
 refine ev ?_
 refine CWp.boxTree 62 false rfl rfl (zet _ _ _) ?_
 refine evc [] [] ?_
 refine CWp.loopX (ι:=List (Ctor)×List (Ctor)) hk (fun x=>[(4,.d (.i (x.1.length:Int)))]) [8,9,10,11,12,13,14,15,16,17,18,19,20,21] (fun x=>[(62,some (.tree (zah false (x.1.map Ctor.c)++zaD x.2.length [.d (.str []),.own false (.sl []),.d (.i 0)])))]) (fun x=>x.1++x.2=l) (fun x=>x.2.length) ([],l) (by simp) ⟨⟨_,rfl,(LeA.eqi (by first|rfl|(simp;done)|(simp_all;done)|omega))⟩,trivial⟩ ⟨(by first|rfl|(show some (Res.tree _)=some (Res.tree _);rw[List.map_append,List.map_singleton,←zcs];rfl)|(show some (Res.tree _)=some (Res.tree _);simp[zbv];rfl)),trivial⟩ (fun x=>rfl) (fun x hg1=>?_)
 obtain⟨pre,rest⟩:=x
 dsimp only at hg1 ⊢
 refine evc [] [2,4] ?_
 refine sq (fun h1 h1p h1s=>?_) fun h1 h1p h1s=>?_
 try simp only[Q] at h1p
 rcases rest with _|⟨y,rest⟩
 ·exfalso;simp_all
 refine Walk.idx sl63 .none rfl rfl rfl rfl (za0 hg1) rfl ?_
 refine ev ?_
 refine Walk.call (cr:=[61]) zqd (zmu (hs.ctor y (by rw[←hg1];simp)).2) rfl .none rfl rfl (LeL.refl _) trivial rfl (by first|rfl|(simp only[zat,List.all_cons,List.all_nil,zaE,zaz,AV.idsL,AV.ids,zab,zaa,List.map_cons,List.map_nil];rfl)) (by first|rfl|(simp only[zak,occH,occE,Res.ids,List.cons_append,List.nil_append,AV.idsL,AV.ids,zab,zaa,zac,zan,List.map_cons,List.map_nil,upC];rfl)) ?_
 refine Walk.idxM sl79 .none rfl rfl rfl rfl (by first|omega|(simp ;omega)) ?_
 refine Walk.storeT zfT .none rfl rfl rfl rfl rfl rfl (by simp) ((zf2 (zeY (k:=3) false (by intro x _;rfl)) rfl)) ?_
 refine tv ?_
 refine CWp.merge hk 62 (pre.length*3+1) 61 2 _ rfl (zbl (zeY (k:=3) false (by intro x _;rfl)) rfl) (by simp[zas]) rfl (by first|(intro x hx;simp at hx;obtain⟨y,_,rfl⟩:=hx;rfl)|(intro x hx;obtain⟨y,_,rfl⟩:=List.mem_map.1 hx;rfl)) rfl rfl (zaH (zeY (k:=3) false (by intro x _;rfl)) (zct rfl)) ?_
 refine evc [] [] ?_
 refine ar ?_
 refine Exists.intro ((pre++[y],rest)) ⟨(by have hz:=hg1;rw[←hz];simp),(by simp),Sub.x (by kernel_rfl) (by kernel_rfl) ⟨⟨_,rfl,(LeA.eqi (by first|rfl|(simp;done)|(simp_all;done)|omega))⟩,trivial⟩ (by kernel_rfl) (by kernel_rfl) ⟨(by first|rfl|(show some (Res.tree _)=some (Res.tree _);rw[List.map_append,List.map_singleton,←zcs];rfl)|(show some (Res.tree _)=some (Res.tree _);simp[zbv];rfl)),trivial⟩⟩
 try simp only[Q] at h1p
 have hrest:rest=[]:=by
  rcases rest with _|⟨a,b⟩
  ·rfl
  ·exfalso;have hz:=congrArg List.length (hg1);simp only[List.length_append,List.length_cons,List.length_map] at hz;omega
 subst hrest
 refine rn [(62,some (.tree (zah false (l.map Ctor.c))))] (r1 rfl) (LeA.msn ?_) ⟨rfl,rfl⟩ (SubH.get ⟨?_,trivial⟩) (zbj rfl)
 rotate_left 2
 all_goals (first|((first|rfl|(simp;done));done)|(first|rfl|(rw[List.append_nil] at hg1;subst hg1;show some (Res.tree _)=some (Res.tree _);simp[zaD];done)))
theorem zmw {s:Str}{cs:List Ctor} (h:CSmall cs):FnD Tryz.prog 32 [.agg [.d (.str s),.d (zcf cs)]] [] (.agg [.d (.str s),.ms 62 cs.length]) [(62,some (.tree (zah false (cs.map Ctor.c))))]:=by
 refine bd Tryz.f32 12 [] [] fun w0 F0 own kept hk=>?_
 refine Walk.box (id:=3001) .none rfl rfl rfl rfl rfl rfl rfl ?_
 refine Walk.alloc (id:=3002) tz81 rfl .none rfl rfl rfl rfl ?_
 refine tv ?_
 refine Walk.alloc (id:=3003) tz81 rfl .none rfl rfl rfl rfl ?_
 refine tv ?_
 refine Walk.store ty9 .none rfl rfl rfl rfl rfl rfl (by simp) rfl ?_
 refine tv ?_
 refine Walk.call (cr:=[62]) zr1 (zlo h) rfl .none rfl rfl (LeL.refl _) trivial rfl (by first|rfl|(simp only[zat,List.all_cons,List.all_nil,zaE,zaz,AV.idsL,AV.ids,zab,zaa,List.map_cons,List.map_nil];rfl)) (by first|rfl|(simp only[zak,occH,occE,Res.ids,List.cons_append,List.nil_append,AV.idsL,AV.ids,zab,zaa,zac,zan,List.map_cons,List.map_nil,upC];rfl)) ?_
 refine ev ?_
 refine Walk.store ty79 .none rfl rfl rfl rfl rfl rfl (by simp) rfl ?_
 refine tv ?_
 refine Walk.store ty81 .none rfl rfl rfl rfl rfl rfl (by simp) rfl ?_
 refine tv ?_
 focus (refine rn [(62,some (.tree (zah false (cs.map Ctor.c))))] (.cons (.cellA ty81 rfl rfl rfl) .nil) (.agg (.cons (.eqd ?_) (.cons (LeA.msn ?_) .nil))) ⟨rfl,rfl⟩ (SubH.get ⟨rfl,trivial⟩) (zbj rfl);all_goals (first|rfl|(simp[];done)|(simp_all;done)|(simp_all;omega)|omega))
theorem zhh {l:List Data} (hs:WSmall l):FnD Tryz.prog 9 [.d (zao l)] [] (.ms 63 l.length) [(63,some (.tree (zah false (l.map Data.c))))]:=by
 have h:=hs.len
 refine bd Tryz.f9 23 [] [2,4] fun w0 F0 own kept hk=>?_
 refine Walk.make (id:=63) sl31 tz81 rfl (by decide) (zce rfl) .none rfl rfl rfl (by simp;omega) (by simp;omega) rfl rfl rfl ?_
 refine ev ?_
 refine CWp.boxTree 63 false rfl rfl (zet _ _ _) ?_
 refine evc [] [] ?_
 refine CWp.loopX (ι:=List (Data)×List (Data)) hk (fun x=>[(4,.d (.i (x.1.length:Int)))]) [8,9,10,11,12,13,14,15,16,17,18,19,20,21] (fun x=>[(63,some (.tree (zah false (x.1.map Data.c)++zaD x.2.length [.d (.str []),.own false (.sl [])])))]) (fun x=>x.1++x.2=l) (fun x=>x.2.length) ([],l) (by simp) ⟨⟨_,rfl,(LeA.eqi (by first|rfl|(simp;done)|(simp_all;done)|omega))⟩,trivial⟩ ⟨(by first|rfl|(show some (Res.tree _)=some (Res.tree _);rw[List.map_append,List.map_singleton,←zcs];rfl)|(show some (Res.tree _)=some (Res.tree _);simp[zbv];rfl)),trivial⟩ (fun x=>rfl) (fun x hg1=>?_)
 obtain⟨pre,rest⟩:=x
 dsimp only at hg1 ⊢
 refine evc [] [2,4] ?_
 refine sq (fun h1 h1p h1s=>?_) fun h1 h1p h1s=>?_
 try simp only[Q] at h1p
 rcases rest with _|⟨y,rest⟩
 ·exfalso;simp_all
 refine Walk.idx sl22 .none rfl rfl rfl rfl (za0 hg1) rfl ?_
 refine ev ?_
 refine Walk.call (cr:=[62]) zrR (zmw (hs.cs (d:=y) (by rw[←hg1];simp))) rfl .none rfl rfl (LeL.refl _) trivial rfl (by first|rfl|(simp only[zat,List.all_cons,List.all_nil,zaE,zaz,AV.idsL,AV.ids,zab,zaa,List.map_cons,List.map_nil];rfl)) (by first|rfl|(simp only[zak,occH,occE,Res.ids,List.cons_append,List.nil_append,AV.idsL,AV.ids,zab,zaa,zac,zan,List.map_cons,List.map_nil,upC];rfl)) ?_
 refine Walk.idxM sl31 .none rfl rfl rfl rfl (by first|omega|(simp ;omega)) ?_
 refine Walk.storeT ty81 .none rfl rfl rfl rfl rfl rfl (by simp) ((zf2 (zeY (k:=2) false (by intro x _;rfl)) rfl)) ?_
 refine tv ?_
 refine CWp.merge hk 63 (pre.length*2+1) 62 3 _ rfl (zbl (zeY (k:=2) false (by intro x _;rfl)) rfl) (by simp[zas]) rfl (by first|(intro x hx;simp at hx;obtain⟨y,_,rfl⟩:=hx;rfl)|(intro x hx;obtain⟨y,_,rfl⟩:=List.mem_map.1 hx;rfl)) rfl rfl (zaH (zeY (k:=2) false (by intro x _;rfl)) (zct rfl)) ?_
 refine evc [] [] ?_
 refine ar ?_
 refine Exists.intro ((pre++[y],rest)) ⟨(by have hz:=hg1;rw[←hz];simp),(by simp),Sub.x (by kernel_rfl) (by kernel_rfl) ⟨⟨_,rfl,(LeA.eqi (by first|rfl|(simp;done)|(simp_all;done)|omega))⟩,trivial⟩ (by kernel_rfl) (by kernel_rfl) ⟨(by first|rfl|(show some (Res.tree _)=some (Res.tree _);rw[List.map_append,List.map_singleton,←zcs];rfl)|(show some (Res.tree _)=some (Res.tree _);simp[zbv];rfl)),trivial⟩⟩
 try simp only[Q] at h1p
 have hrest:rest=[]:=by
  rcases rest with _|⟨a,b⟩
  ·rfl
  ·exfalso;have hz:=congrArg List.length (hg1);simp only[List.length_append,List.length_cons,List.length_map] at hz;omega
 subst hrest
 refine rn [(63,some (.tree (zah false (l.map Data.c))))] (r1 rfl) (LeA.msn ?_) ⟨rfl,rfl⟩ (SubH.get ⟨?_,trivial⟩) (zbj rfl)
 rotate_left 2
 all_goals (first|((first|rfl|(simp;done));done)|(first|rfl|(rw[List.append_nil] at hg1;subst hg1;show some (Res.tree _)=some (Res.tree _);simp[zaD];done)))
theorem zjY {m:Bool}{l:List Ty}{k:Int} (h0:0≤k) (h1:k+szL Ty.sz l≤1000000000000) (hl:l.length≤1000000000000):FnD Tryz.prog 79 [.ms 41 l.length,.d (.i k)] [(41,some (.tree (zah m (l.map Ty.c))))]
  (.d (.i (k+szL Ty.sz l))) [(41,some (.tree (zah m ((mkL Ty.one Ty.sz k l).map Ty.c))))]:=by
 refine bd Tryz.f79 27 [] [] fun w0 F0 own kept hk=>?_
 refine CWp.loopX (ι:=List (Ty)×List (Ty)×(Int)) hk (fun x=>[(5,.d (.i (x.1.length:Int))),(1,.d (.i x.2.2))]) [6,7,8,9,10,11,12,13,14,15,16,17,18,19,20,21,22,23,24,25] (fun x=>[(41,some (.tree (zah m ((mkL Ty.one Ty.sz k x.1).map Ty.c)++zah m (x.2.1.map Ty.c))))]) (fun x=>x.1++x.2.1=l∧x.2.2=k+szL Ty.sz x.1) (fun x=>x.2.1.length) ([],l,k) ⟨by simp,by simp[szL]⟩ ⟨⟨_,rfl,(LeA.eqi (by first|rfl|(simp;done)|omega|(refine Eq.trans (b:=v+2) ?_ rfl;omega)))⟩,⟨⟨_,rfl,(LeA.eqi (by first|rfl|(simp;done)|omega|(refine Eq.trans (b:=v+2) ?_ rfl;omega)))⟩,trivial⟩⟩ ⟨(by first|rfl|(show some (Res.tree _)=some (Res.tree _);rw[zcr,List.map_append,List.map_singleton,←zcs,hg1.2];rfl)),trivial⟩ (fun x=>rfl) (fun x hg1=>?_)
 obtain⟨pre,rest,v⟩:=x
 dsimp only at hg1 ⊢
 refine evc [] [] ?_
 refine sq (fun h1 h1p h1s=>?_) fun h1 h1p h1s=>?_
 try simp only[Q] at h1p
 rcases rest with _|⟨y,rest⟩
 ·exfalso;simp_all
 have hsp:=ze4 (sz:=Ty.sz) hg1.1;have hnn:=za8 (l:=rest) Ty.sz_nn;have hnp:=za8 (l:=pre) Ty.sz_nn;have hys:Ty.sz y=2:=rfl;have hv:=hg1.2
 refine Walk.idxM zbf .none rfl rfl rfl rfl (by first|omega|(simp ;omega)) ?_
 refine ev ?_
 refine Walk.storeT ty3 .none rfl rfl rfl rfl rfl rfl (by simp) ((zaH (zaS (kk:=2) m (by intro x;rfl)) zhX)) ?_
 refine tv ?_
 refine ar ?_
 refine Walk.idxM zbf .none rfl rfl rfl rfl (by first|omega|(simp ;omega)) ?_
 refine ev ?_
 refine Walk.storeT ty3 .none rfl rfl rfl rfl rfl rfl (by simp) ((zaH (zaS (kk:=2) m (by intro x;rfl)) zdA)) ?_
 refine tv ?_
 refine ar ?_
 refine ar ?_
 refine Exists.intro ((pre++[y],rest,v+Ty.sz y)) ⟨⟨(by have hz:=hg1.1;rw[←hz];simp),(by show v+Ty.sz y=_;rw[zdn,hg1.2];omega)⟩,(by simp),Sub.x (by kernel_rfl) (by kernel_rfl) ⟨⟨_,rfl,(LeA.eqi (by first|rfl|(simp;done)|omega|(refine Eq.trans (b:=v+2) ?_ rfl;omega)))⟩,⟨⟨_,rfl,(LeA.eqi (by first|rfl|(simp;done)|omega|(refine Eq.trans (b:=v+2) ?_ rfl;omega)))⟩,trivial⟩⟩ (by kernel_rfl) (by kernel_rfl) ⟨(by first|rfl|(show some (Res.tree _)=some (Res.tree _);rw[zcr,List.map_append,List.map_singleton,←zcs,hg1.2];rfl)),trivial⟩⟩
 try simp only[Q] at h1p
 have hrest:rest=[]:=by
  rcases rest with _|⟨a,b⟩
  ·rfl
  ·exfalso;have hz:=congrArg List.length (hg1.1);simp only[List.length_append,List.length_cons,List.length_map] at hz;omega
 subst hrest
 refine rn [(41,some (.tree (zah m ((mkL Ty.one Ty.sz k l).map Ty.c))))] (r1 rfl) (.eqd ?_) ⟨rfl,rfl⟩ (SubO.get ⟨.inr ?_,⟨.inl rfl,trivial⟩⟩) (zbj rfl)
 rotate_left 2
 all_goals (first|((first|rfl|(obtain⟨hg1,hv⟩:=hg1;rw[List.append_nil] at hg1;subst hg1;rw[hv]));done)|(first|rfl|(obtain⟨hg1,_⟩:=hg1;rw[List.append_nil] at hg1;subst hg1;show some (Res.tree _)=some (Res.tree _);simp[zbv];done)))
theorem zjd {l:List Ty}{k:Int} (hl:l=[]):FnD Tryz.prog 79 [.d (.sl []),.d (.i k)] [] (.d (.i (k+szL Ty.sz l))) []:=by
 subst hl
 refine bd Tryz.f79 27 [] [] fun w0 F0 own kept hk=>?_
 refine CWp.loopX (ι:=Unit) hk (fun x=>[(5,.d (.i 0)),(1,.d (.i k))]) [6,7,8,9,10,11,12,13,14,15,16,17,18,19,20,21,22,23,24,25] (fun x=>[]) (fun x=>True) (fun x=>0) () trivial ⟨⟨_,rfl,(LeA.eqi (by first|rfl|(simp;done)|(simp_all;done)|omega))⟩,⟨⟨_,rfl,(LeA.eqi (by first|rfl|(simp;done)|(simp_all;done)|omega))⟩,trivial⟩⟩ trivial (fun x=>rfl) (fun x hg1=>?_)
 refine evc [] [] ?_
 refine sq (fun h1 h1p h1s=>?_) fun h1 h1p h1s=>?_
 try simp only[Q] at h1p
 exfalso;revert h1;simp
 try simp only[Q] at h1p
 refine rn0 (r1 rfl) (.eqd ?_)
 rotate_left
 all_goals (first|rfl|(simp[szL];done))
def ren (i j:Nat):AV→AV
 | .ms a n=>if a=i then .ms j n else .ms a n
 |x=>x
theorem zjW {l:List Ctor}{k:Int} (h0:0<k) (h1:k+szL Ctor.sz l≤1000000000000) (hl:CSmall l):FnD Tryz.prog 44 [.ms 42 l.length,.d (.i k)] [(42,some (.tree (zah false (l.map Ctor.c))))]
  (.d (.i (k+szL Ctor.sz l))) [(42,some (.tree (zah false ((mkL Ctor.one Ctor.sz k l).map Ctor.c))))]:=by
 have hl0:=hl.len
 refine bd Tryz.f44 35 [24] [6,7,1000009] fun w0 F0 own kept hk=>?_
 refine CWp.loopX (ι:=List (Ctor)×List (Ctor)×(Int)) hk (fun x=>[(5,.d (.i (x.1.length:Int))),(1,.d (.i x.2.2))]) [6,7,8,9,10,11,12,13,14,15,16,17,18,19,20,21,22,23,24,25,26,27,28,29,30,31,32,33] (fun x=>[(42,some (.tree (zah false ((mkL Ctor.one Ctor.sz k x.1).map Ctor.c)++zah false (x.2.1.map Ctor.c))))]) (fun x=>x.1++x.2.1=l∧x.2.2=k+szL Ctor.sz x.1) (fun x=>x.2.1.length) ([],l,k) ⟨by simp,by simp[szL]⟩ ⟨⟨_,rfl,(LeA.eqi (by first|rfl|(simp;done)|omega|(refine Eq.trans (b:=v+Ctor.sz y) ?_ rfl;omega)))⟩,⟨⟨_,rfl,(LeA.eqi (by first|rfl|(simp;done)|omega|(refine Eq.trans (b:=v+Ctor.sz y) ?_ rfl;omega)))⟩,trivial⟩⟩ ⟨(by first|rfl|(show some (Res.tree _)=some (Res.tree _);rw[zcr,List.map_append,List.map_singleton,←zcs,←hg1.2];rfl)),trivial⟩ (fun x=>rfl) (fun x hg1=>?_)
 obtain⟨pre,rest,v⟩:=x
 dsimp only at hg1 ⊢
 refine evc [24] [6,7,1000009] ?_
 refine cq (fun h1 h1p h1s=>?_) fun h1 h1p h1s=>?_
 try simp only[Q] at h1p
 rcases rest with _|⟨y,rest⟩
 ·exfalso;simp_all
 have hsp:=ze4 (sz:=Ctor.sz) hg1.1;have hnn:=za8 (l:=rest) Ctor.sz_nn;have hnp:=za8 (l:=pre) Ctor.sz_nn;have hys:Ctor.sz y=2+szL Ty.sz y.args:=rfl;have hya:=za8 (l:=y.args) Ty.sz_nn;have hv:=hg1.2
 refine CWp.reTree 42 (zah false ((mkL Ctor.one Ctor.sz k pre).map Ctor.c)++(.d (.str y.name):: .own false (zby y.args):: .d (.i y.index)::zah false (rest.map Ctor.c))) rfl rfl ?_
 refine evc [24] [6,7,1000009] ?_
 refine Walk.call (cr:=[]) zrX (zhf (by omega) (by omega)) rfl .none rfl rfl (LeL.refl _) trivial rfl (by first|rfl|(simp only[zat,List.all_cons,List.all_nil,zaE,zaz,AV.idsL,AV.ids,zab,zaa,List.map_cons,List.map_nil];rfl)) (by first|rfl|(simp only[zak,occH,occE,Res.ids,List.cons_append,List.nil_append,AV.idsL,AV.ids,zab,zaa,zac,zan,List.map_cons,List.map_nil,upC];rfl)) ?_
 refine Walk.idxM sl79 .none rfl rfl rfl rfl (by first|omega|(simp ;omega)) ?_
 refine evs [24] [] ?_
 refine Walk.storeT ty9 .none rfl rfl rfl rfl rfl rfl (by simp) ((zaH (zaS (kk:=3) false (by intro x;rfl)) zhX)) ?_
 refine tv ?_
 refine ar ?_
 by_cases hs2:y.args=[]
 refine CWp.emptyCell 42 (pre.length*3+1) rfl (zbl (zaS (kk:=3) false (by intro x;rfl)) rfl) (by simp[hs2]) (zaH (zaS (kk:=3) false (by intro x;rfl)) zdA) ?_
 refine evc [24] [] ?_
 refine Walk.idxM sl79 .none rfl rfl rfl rfl (by first|omega|(simp ;omega)) ?_
 refine evs [24] [] ?_
 refine Walk.loadT znP .none rfl rfl rfl ((by rw[zbl (zaS (kk:=3) false (by intro x;rfl)) rfl];rfl)) ?_
 refine evs [24] [] ?_
 refine Walk.call (cr:=[]) zr7 (zjd hs2) rfl .none rfl rfl (LeL.refl _) trivial rfl (by first|rfl|(simp only[zat,List.all_cons,List.all_nil,zaE,zaz,AV.idsL,AV.ids,zab,zaa,List.map_cons,List.map_nil];rfl)) (by first|rfl|(simp only[zak,occH,occE,Res.ids,List.cons_append,List.nil_append,AV.idsL,AV.ids,zab,zaa,zac,zan,List.map_cons,List.map_nil,upC];rfl)) ?_
 refine evs [24] [] ?_
 refine CWp.fullCell 42 (pre.length*3+1) false rfl (xs:=(mkL Ty.one Ty.sz (v+1) y.args).map Ty.c) rfl (zbl (zaS (kk:=3) false (by intro x;rfl)) rfl) (by simp[hs2,mkL]) (zaH (zaS (kk:=3) false (by intro x;rfl)) zdA) ?_
 refine evc [24] [] ?_
 refine Walk.idxM sl79 .none rfl rfl rfl rfl (by first|omega|(simp ;omega)) ?_
 refine evs [24] [] ?_
 refine Walk.storeT ty3 .none rfl rfl rfl rfl rfl rfl (by simp) ((zaH (zaS (kk:=3) false (by intro x;rfl)) zjN)) ?_
 refine tv ?_
 refine ar ?_
 refine ar ?_
 refine Exists.intro ((pre++[y],rest,v+Ctor.sz y)) ⟨⟨(by have hz:=hg1.1;rw[←hz];simp),(by show v+Ctor.sz y=_;rw[zdn,hg1.2];omega)⟩,(by simp),Sub.x (by kernel_rfl) (by kernel_rfl) ⟨⟨_,rfl,(LeA.eqi (by first|rfl|(simp;done)|omega|(refine Eq.trans (b:=v+Ctor.sz y) ?_ rfl;omega)))⟩,⟨⟨_,rfl,(LeA.eqi (by first|rfl|(simp;done)|omega|(refine Eq.trans (b:=v+Ctor.sz y) ?_ rfl;omega)))⟩,trivial⟩⟩ (by kernel_rfl) (by kernel_rfl) ⟨(by first|rfl|(show some (Res.tree _)=some (Res.tree _);rw[zcr,List.map_append,List.map_singleton,←zcs,←hg1.2];rfl)),trivial⟩⟩
 refine CWp.split 42 (pre.length*3+1) 41 rfl (zbl (zaS (kk:=3) false (by intro x;rfl)) rfl) (by simp[hs2]) (by first|rfl|(simp only[zak,occH,occE,Res.ids,List.cons_append,List.nil_append,AV.idsL,AV.ids,zab,zaa,zac,zan,List.map_cons,List.map_nil,upC];rfl)) (zaH (zaS (kk:=3) false (by intro x;rfl)) zdA) ?_
 refine evc [24] [] ?_
 refine Walk.idxM sl79 .none rfl rfl rfl rfl (by first|omega|(simp ;omega)) ?_
 refine evs [24] [] ?_
 refine Walk.loadT znP .none rfl rfl rfl ((by rw[zbl (zaS (kk:=3) false (by intro x;rfl)) rfl];rfl)) ?_
 refine evs [24] [] ?_
 refine Walk.call (cr:=[]) zr7 (zjY (m:=false) (l:=y.args) (k:=v+1) (by omega) (by omega) (hl.ctor y (by rw[←hg1.1];simp)).2) rfl .none rfl rfl (.cons (LeA.msn (by first|rfl|(simp;done))) (.cons (.refl _) .nil)) ⟨by first|rfl|(simp;rfl),trivial⟩ rfl (by first|rfl|(simp only[zat,List.all_cons,List.all_nil,zaE,zaz,AV.idsL,AV.ids,zab,zaa,List.map_cons,List.map_nil];rfl)) (by first|rfl|(simp only[zak,occH,occE,Res.ids,List.cons_append,List.nil_append,AV.idsL,AV.ids,zab,zaa,zac,zan,List.map_cons,List.map_nil,upC];rfl)) ?_
 refine evs [24] [] ?_
 refine CWp.merge hk 42 (pre.length*3+1) 41 2 _ rfl (zbl (zaS (kk:=3) false (by intro x;rfl)) rfl) (by simp[zas]) rfl (by first|(intro x hx;simp at hx;obtain⟨y,_,rfl⟩:=hx;rfl)|(intro x hx;obtain⟨y,_,rfl⟩:=List.mem_map.1 hx;rfl)) rfl rfl (zaH (zaS (kk:=3) false (by intro x;rfl)) zdA) ?_
 refine evc [24] [] ?_
 refine Walk.idxM sl79 .none rfl rfl rfl rfl (by first|omega|(simp ;omega)) ?_
 refine evs [24] [] ?_
 refine Walk.storeT ty3 .none rfl rfl rfl rfl rfl rfl (by simp) ((zaH (zaS (kk:=3) false (by intro x;rfl)) zjN)) ?_
 refine tv ?_
 refine ar ?_
 refine ar ?_
 refine Exists.intro ((pre++[y],rest,v+Ctor.sz y)) ⟨⟨(by have hz:=hg1.1;rw[←hz];simp),(by show v+Ctor.sz y=_;rw[zdn,hg1.2];omega)⟩,(by simp),Sub.x (by kernel_rfl) (by kernel_rfl) ⟨⟨_,rfl,(LeA.eqi (by first|rfl|(simp;done)|omega|(refine Eq.trans (b:=v+Ctor.sz y) ?_ rfl;omega)))⟩,⟨⟨_,rfl,(LeA.eqi (by first|rfl|(simp;done)|omega|(refine Eq.trans (b:=v+Ctor.sz y) ?_ rfl;omega)))⟩,trivial⟩⟩ (by kernel_rfl) (by kernel_rfl) ⟨(by first|rfl|(show some (Res.tree _)=some (Res.tree _);rw[zcr,List.map_append,List.map_singleton,←zcs,←hg1.2];rfl)),trivial⟩⟩
 try simp only[Q] at h1p
 have hrest:rest=[]:=by
  rcases rest with _|⟨a,b⟩
  ·rfl
  ·exfalso;have hz:=congrArg List.length (hg1.1);simp only[List.length_append,List.length_cons,List.length_map] at hz;omega
 subst hrest
 refine evc [24] [6,7,1000009] ?_
 refine rn [(42,some (.tree (zah false ((mkL Ctor.one Ctor.sz k l).map Ctor.c))))] (r1 rfl) (.eqd ?_) ⟨rfl,rfl⟩ (SubO.get ⟨.inr ?_,⟨.inl rfl,trivial⟩⟩) (zbj rfl)
 rotate_left 2
 all_goals (first|((first|rfl|(obtain⟨hg1,hv⟩:=hg1;rw[List.append_nil] at hg1;subst hg1;rw[hv]));done)|(first|rfl|(obtain⟨hg1,_⟩:=hg1;rw[List.append_nil] at hg1;subst hg1;show some (Res.tree _)=some (Res.tree _);simp[zbv];done)))
theorem zjc {l:List Ctor}{k:Int} (hl:l=[]):FnD Tryz.prog 44 [.d (.sl []),.d (.i k)] [] (.d (.i (k+szL Ctor.sz l))) []:=by
 subst hl
 refine bd Tryz.f44 35 [] [] fun w0 F0 own kept hk=>?_
 refine CWp.loopX (ι:=Unit) hk (fun x=>[(5,.d (.i 0)),(1,.d (.i k))]) [6,7,8,9,10,11,12,13,14,15,16,17,18,19,20,21,22,23,24,25,26,27,28,29,30,31,32,33] (fun x=>[]) (fun x=>True) (fun x=>0) () trivial ⟨⟨_,rfl,(LeA.eqi (by first|rfl|(simp;done)|(simp_all;done)|omega))⟩,⟨⟨_,rfl,(LeA.eqi (by first|rfl|(simp;done)|(simp_all;done)|omega))⟩,trivial⟩⟩ trivial (fun x=>rfl) (fun x hg1=>?_)
 refine evc [] [] ?_
 refine sq (fun h1 h1p h1s=>?_) fun h1 h1p h1s=>?_
 try simp only[Q] at h1p
 exfalso;revert h1;simp
 try simp only[Q] at h1p
 refine rn0 (r1 rfl) (.eqd ?_)
 rotate_left
 all_goals (first|rfl|(simp[szL];done))
theorem zjX {l:List Data}{k:Int} (h0:0<k) (h1:k+szL Data.sz l≤1000000000000) (hl:WSmall l):FnD Tryz.prog 16 [.ms 43 l.length,.d (.i k)] [(43,some (.tree (zah false (l.map Data.c))))]
  (.d (.i (k+szL Data.sz l))) [(43,some (.tree (zah false ((mkL Data.one Data.sz k l).map Data.c))))]:=by
 have hl0:=hl.len
 refine bd Tryz.f16 28 [24] [3,6,1000009] fun w0 F0 own kept hk=>?_
 refine CWp.loopX (ι:=List (Data)×List (Data)×(Int)) hk (fun x=>[(5,.d (.i (x.1.length:Int))),(1,.d (.i x.2.2))]) [6,7,8,9,10,11,12,13,14,15,16,17,18,19,20,21,22,23,24,25,26] (fun x=>[(43,some (.tree (zah false ((mkL Data.one Data.sz k x.1).map Data.c)++zah false (x.2.1.map Data.c))))]) (fun x=>x.1++x.2.1=l∧x.2.2=k+szL Data.sz x.1) (fun x=>x.2.1.length) ([],l,k) ⟨by simp,by simp[szL]⟩ ⟨⟨_,rfl,(LeA.eqi (by first|rfl|(simp;done)|omega|(refine Eq.trans (b:=v+Data.sz y) ?_ rfl;omega)))⟩,⟨⟨_,rfl,(LeA.eqi (by first|rfl|(simp;done)|omega|(refine Eq.trans (b:=v+Data.sz y) ?_ rfl;omega)))⟩,trivial⟩⟩ ⟨(by first|rfl|(show some (Res.tree _)=some (Res.tree _);rw[zcr,List.map_append,List.map_singleton,←zcs,←hg1.2];rfl)),trivial⟩ (fun x=>rfl) (fun x hg1=>?_)
 obtain⟨pre,rest,v⟩:=x
 dsimp only at hg1 ⊢
 refine evc [24] [3,6,1000009] ?_
 refine cq (fun h1 h1p h1s=>?_) fun h1 h1p h1s=>?_
 try simp only[Q] at h1p
 rcases rest with _|⟨y,rest⟩
 ·exfalso;simp_all
 have hsp:=ze4 (sz:=Data.sz) hg1.1;have hnn:=za8 (l:=rest) Data.sz_nn;have hnp:=za8 (l:=pre) Data.sz_nn;have hys:Data.sz y=1+szL Ctor.sz y.ctors:=rfl;have hya:=za8 (l:=y.ctors) Ctor.sz_nn;have hv:=hg1.2
 refine CWp.reTree 43 (zah false ((mkL Data.one Data.sz k pre).map Data.c)++(.d (.str y.name):: .own false (zcf y.ctors)::zah false (rest.map Data.c))) rfl rfl ?_
 refine evc [24] [3,6,1000009] ?_
 refine Walk.call (cr:=[]) zrX (zhf (by omega) (by omega)) rfl .none rfl rfl (LeL.refl _) trivial rfl (by first|rfl|(simp only[zat,List.all_cons,List.all_nil,zaE,zaz,AV.idsL,AV.ids,zab,zaa,List.map_cons,List.map_nil];rfl)) (by first|rfl|(simp only[zak,occH,occE,Res.ids,List.cons_append,List.nil_append,AV.idsL,AV.ids,zab,zaa,zac,zan,List.map_cons,List.map_nil,upC];rfl)) ?_
 refine Walk.idxM sl31 .none rfl rfl rfl rfl (by first|omega|(simp ;omega)) ?_
 refine evs [24] [] ?_
 refine Walk.storeT ty9 .none rfl rfl rfl rfl rfl rfl (by simp) ((zaH (zaS (kk:=2) false (by intro x;rfl)) zhX)) ?_
 refine tv ?_
 refine ar ?_
 by_cases hs2:y.ctors=[]
 refine CWp.emptyCell 43 (pre.length*2+1) rfl (zbl (zaS (kk:=2) false (by intro x;rfl)) rfl) (by simp[hs2]) (zaH (zaS (kk:=2) false (by intro x;rfl)) zdA) ?_
 refine evc [24] [] ?_
 refine Walk.idxM sl31 .none rfl rfl rfl rfl (by first|omega|(simp ;omega)) ?_
 refine evs [24] [] ?_
 refine Walk.loadT ty79 .none rfl rfl rfl ((by rw[zbl (zaS (kk:=2) false (by intro x;rfl)) rfl];rfl)) ?_
 refine evs [24] [] ?_
 refine Walk.call (cr:=[]) zrY (zjc hs2) rfl .none rfl rfl (LeL.refl _) trivial rfl (by first|rfl|(simp only[zat,List.all_cons,List.all_nil,zaE,zaz,AV.idsL,AV.ids,zab,zaa,List.map_cons,List.map_nil];rfl)) (by first|rfl|(simp only[zak,occH,occE,Res.ids,List.cons_append,List.nil_append,AV.idsL,AV.ids,zab,zaa,zac,zan,List.map_cons,List.map_nil,upC];rfl)) ?_
 refine evs [24] [] ?_
 refine CWp.fullCell 43 (pre.length*2+1) false rfl (xs:=(mkL Ctor.one Ctor.sz (v+1) y.ctors).map Ctor.c) rfl (zbl (zaS (kk:=2) false (by intro x;rfl)) rfl) (by simp[hs2,mkL]) (zaH (zaS (kk:=2) false (by intro x;rfl)) zdA) ?_
 refine evc [24] [] ?_
 refine ar ?_
 refine Exists.intro ((pre++[y],rest,v+Data.sz y)) ⟨⟨(by have hz:=hg1.1;rw[←hz];simp),(by show v+Data.sz y=_;rw[zdn,hg1.2];omega)⟩,(by simp),Sub.x (by kernel_rfl) (by kernel_rfl) ⟨⟨_,rfl,(LeA.eqi (by first|rfl|(simp;done)|omega|(refine Eq.trans (b:=v+Data.sz y) ?_ rfl;omega)))⟩,⟨⟨_,rfl,(LeA.eqi (by first|rfl|(simp;done)|omega|(refine Eq.trans (b:=v+Data.sz y) ?_ rfl;omega)))⟩,trivial⟩⟩ (by kernel_rfl) (by kernel_rfl) ⟨(by first|rfl|(show some (Res.tree _)=some (Res.tree _);rw[zcr,List.map_append,List.map_singleton,←zcs,←hg1.2];rfl)),trivial⟩⟩
 refine CWp.split 43 (pre.length*2+1) 42 rfl (zbl (zaS (kk:=2) false (by intro x;rfl)) rfl) (by simp[hs2]) (by first|rfl|(simp only[zak,occH,occE,Res.ids,List.cons_append,List.nil_append,AV.idsL,AV.ids,zab,zaa,zac,zan,List.map_cons,List.map_nil,upC];rfl)) (zaH (zaS (kk:=2) false (by intro x;rfl)) zdA) ?_
 refine evc [24] [] ?_
 refine Walk.idxM sl31 .none rfl rfl rfl rfl (by first|omega|(simp ;omega)) ?_
 refine evs [24] [] ?_
 refine Walk.loadT ty79 .none rfl rfl rfl ((by rw[zbl (zaS (kk:=2) false (by intro x;rfl)) rfl];rfl)) ?_
 refine evs [24] [] ?_
 refine Walk.call (cr:=[]) zrY (zjW (l:=y.ctors) (k:=v+1) (by omega) (by omega) (hl.cs (d:=y) (by rw[←hg1.1];simp))) rfl .none rfl rfl (.cons (LeA.msn (by first|rfl|(simp;done))) (.cons (.refl _) .nil)) ⟨by first|rfl|(simp;rfl),trivial⟩ rfl (by first|rfl|(simp only[zat,List.all_cons,List.all_nil,zaE,zaz,AV.idsL,AV.ids,zab,zaa,List.map_cons,List.map_nil];rfl)) (by first|rfl|(simp only[zak,occH,occE,Res.ids,List.cons_append,List.nil_append,AV.idsL,AV.ids,zab,zaa,zac,zan,List.map_cons,List.map_nil,upC];rfl)) ?_
 refine evs [24] [] ?_
 refine CWp.merge hk 43 (pre.length*2+1) 42 3 _ rfl (zbl (zaS (kk:=2) false (by intro x;rfl)) rfl) (by simp[zas]) rfl (by first|(intro x hx;simp at hx;obtain⟨y,_,rfl⟩:=hx;rfl)|(intro x hx;obtain⟨y,_,rfl⟩:=List.mem_map.1 hx;rfl)) rfl rfl (zaH (zaS (kk:=2) false (by intro x;rfl)) zdA) ?_
 refine evc [24] [] ?_
 refine ar ?_
 refine Exists.intro ((pre++[y],rest,v+Data.sz y)) ⟨⟨(by have hz:=hg1.1;rw[←hz];simp),(by show v+Data.sz y=_;rw[zdn,hg1.2];omega)⟩,(by simp),Sub.x (by kernel_rfl) (by kernel_rfl) ⟨⟨_,rfl,(LeA.eqi (by first|rfl|(simp;done)|omega|(refine Eq.trans (b:=v+Data.sz y) ?_ rfl;omega)))⟩,⟨⟨_,rfl,(LeA.eqi (by first|rfl|(simp;done)|omega|(refine Eq.trans (b:=v+Data.sz y) ?_ rfl;omega)))⟩,trivial⟩⟩ (by kernel_rfl) (by kernel_rfl) ⟨(by first|rfl|(show some (Res.tree _)=some (Res.tree _);rw[zcr,List.map_append,List.map_singleton,←zcs,←hg1.2];rfl)),trivial⟩⟩
 try simp only[Q] at h1p
 have hrest:rest=[]:=by
  rcases rest with _|⟨a,b⟩
  ·rfl
  ·exfalso;have hz:=congrArg List.length (hg1.1);simp only[List.length_append,List.length_cons,List.length_map] at hz;omega
 subst hrest
 refine evc [24] [3,6,1000009] ?_
 refine rn [(43,some (.tree (zah false ((mkL Data.one Data.sz k l).map Data.c))))] (r1 rfl) (.eqd ?_) ⟨rfl,rfl⟩ (SubO.get ⟨.inr ?_,⟨.inl rfl,trivial⟩⟩) (zbj rfl)
 rotate_left 2
 all_goals (first|((first|rfl|(obtain⟨hg1,hv⟩:=hg1;rw[List.append_nil] at hg1;subst hg1;rw[hv]));done)|(first|rfl|(obtain⟨hg1,_⟩:=hg1;rw[List.append_nil] at hg1;subst hg1;show some (Res.tree _)=some (Res.tree _);simp[zbv];done)))
theorem zjy:∀l:List Ctor,szL Ctor.sz l≤2*(zfZ l:Int)
 | []=>by simp[szL,zfZ]
 |x::r=>by
  have ih:=zjy r
  simp only[szL,Ctor.sz,zpD,zfZ,zfh,mTys,List.length_cons,List.map_cons,List.sum_cons] at ih ⊢
  omega
theorem zg1:∀l:List Data,szL Data.sz l≤2*(zeC l:Int)
 | []=>by simp[szL,zeC]
 |x::r=>by
  have ih:=zg1 r
  have h2:=zjy x.ctors
  simp only[szL,Data.sz,zeC,zfi,List.length_cons,List.map_cons,List.sum_cons] at ih ⊢
  omega
theorem zm3 {α:Type} [Inhabited α] (p:α→Bool):∀(l:List α) (i:Nat),(idxF p l i = -1∧∀x∈l,p x=false)∨∃k:Nat,idxF p l i=((i+k:Nat):Int)∧k<l.length∧(l.take (k+1)).filter (fun x=> !p x)=l.take k
 | [],i=> .inl ⟨rfl,by simp⟩
 |x::r,i=>by
  unfold idxF
  cases h:p x with
  |true=>exact .inr ⟨0,by simp,by simp,by simp[h]⟩
  |false=>
   rcases zm3 p r (i+1) with ⟨h1,h2⟩|⟨k,h1,h2,h3⟩
   ·exact .inl ⟨by simpa using h1,fun y hy=>by rcases List.mem_cons.1 hy with rfl|hy;exact h;exact h2 y hy⟩
   ·refine .inr ⟨k+1,by simp only[Bool.false_eq_true,if_false];rw[h1];congr 1;omega,by simpa using h2, ?_⟩
    simp only[List.take_succ_cons,List.filter_cons,h,Bool.not_false,if_true,List.cons.injEq,true_and]
    simpa using h3
theorem ziG {α:Type} [Inhabited α]{s:List α}{i:Nat}{t:α} (h:i<s.length):(s.set i t).take (i+1)=s.take i++[t]:=by
 rw[List.set_eq_take_append_cons_drop,if_pos h,List.take_append,List.take_take]
 have:(s.take i).length=i:=by simp;omega
 simp[this,Nat.min_eq_right]
theorem ziw {α:Type}{s:List α}{i j:Nat}{t:α} (h:i≤j):(s.set i t).drop (j+1)=s.drop (j+1):=by
 rw[List.drop_set,if_pos (by omega)]
theorem zgK {α:Type} [Inhabited α]{p:α→Bool}{l:List α}{j:Nat} (h:j<l.length):(l.take (j+1)).filter p=(l.take j).filter p++(if p (nth l j) then [nth l j] else []):=by
 rw[List.take_add_one,List.getElem?_eq_getElem h,List.filter_append,za9 h]
 simp[List.filter_cons]
theorem zpa {α:Type} [Inhabited α]{s l:List α}{j:Nat} (h:s.drop j=l.drop j) (hl:s.length=l.length) (hj:j<l.length):nth s j=nth l j:=by
 have h1:=zbc (l:=s) (i:=j) (by omega)
 have h2:=zbc (l:=l) (i:=j) hj
 rw[h1,h2] at h
 exact(List.cons.inj h).1
theorem zeW {α:Type}{s l:List α}{j:Nat} (h:s.drop j=l.drop j):s.drop (j+1)=l.drop (j+1):=by
 have:=congrArg (List.drop 1) h
 simpa [List.drop_drop,Nat.add_comm] using this
theorem zkL {w:List Data} (hs:WSmall w) (hv:zbb w=true):WT w:=WV.wt hs ((zdD w).1 hv)
end Go.Proofs.YtfiihhedihkdoaaGreat
namespace Go.Proofs.YtfiihhedihkdoaaGreat
open Go
set_option linter.unusedSimpArgs false
set_option linter.unusedVariables false
section
variable {c:Ctx}{all:Array Oper}{chk:List Rec→Prop}{os:List Oper}{recs:List Rec}{env:Env}{hp:Hp}{Q:St→Prop}
variable {ty:Nat}{pos:String}{af:Array Edge}{g:Option (Nat×Bool)}{pg:List (Nat×AV)}{t:TypeId}{x:Operand}
theorem Walk.clearB {id off n k e yb:Nat}{cs cs' zs:List AV} (ht:SlT c.P t e k yb) (hz:TyZ c.P e k zs) (hzk:zs.length=k) (hk:0<k) (h1:zhG zs=true) (hg:GH all env g pg) (hx:opd env x=some (.mo id off n))
  (hb:getH hp id=some (.box cs)) (hput:putC cs off (zaD n zs)=some cs')
  (hn:Walk c all chk os (zaq (pg++opF x (.mo id off n)) [(id,.box cs)] [] ⟨none,[(id,some (.box cs'))]⟩::recs) ⟨env,(id,some (.box cs'))::hp⟩ Q):
  Walk c all chk (⟨none,.call ⟨.builtin .clear,#[x],#[t]⟩,ty,pos,af,g⟩::os) recs ⟨env,hp⟩ Q:=by
 refine⟨pg++opF x (.mo id off n),[(id,.box cs)],[],_, ?_,zax hg.facts (za4 hx),hh1 hb,by simp,hn⟩
 intro s a w hrel hp' hh _ K Q' hK
 obtain⟨G,hr⟩:=hrel
 have hbx:=hh1' hh
 have e1:=hr.opd (za5 hx (fun p hm=>hp' p (by simp[hm])))
 obtain⟨bl,o,cap,hl,he,hcap,ho⟩:=e1.mo_eq
 obtain⟨b',us,et,h2,h3,h4,h5,h6⟩:=hr.heap id _ hbx
 obtain rfl:=zcP hl.1 h2
 have hall:PreR G (tokf s.hp) w cs us:=⟨h4,h6⟩
 unfold wpO
 rw[if_pos (hg.gf.wanted hr (fun p hm=>hp' p (by simp[hm])))]
 unfold Oper.wp
 rcases Nat.eq_zero_or_pos n with hn0|hn0
 ·subst hn0
  have hcs:cs'=cs:=by
   simp only[zaD] at hput
   cases cs<;>simp only[putC,Option.some.injEq] at hput<;>exact hput.symm
  subst hcs
  have hrun:(execOp a.eval ⟨none,.call ⟨.builtin .clear,#[x],#[t]⟩,ty,pos,af,g⟩).run c.P w = .ok (.value (.tuple #[])) w:=by
   simp[execOp,resolve,invoke,builtin,he,Builtin.clear_,run_underlying ht.und]
  rw[hrun,Oper.upon_value]
  refine hK _ _ ⟨G, ?_⟩
  have hsame:∀i,getH ((id,some (Res.box cs'))::s.hp) i=getH s.hp i:=fun i=>by
   rw[zai]
   split
   ·rename_i e;subst e;exact hbx.symm
   ·rfl
  have htk:tokf ((id,some (Res.box cs'))::s.hp)=tokf s.hp:=by funext i;unfold tokf;rw[hsame]
  have:R c G ⟨s.env,(id,some (Res.box cs'))::s.hp⟩ a w:=
   ⟨hr.size,hr.defers,fun i v h=>by rw[htk];exact hr.slots i v h,fun i r h=>by rw[htk];exact hr.heap i r (by rw[←hsame];exact h),
   fun i j h1 h2=>hr.disj i j (by rw[←hsame];exact h1) (by rw[←hsame];exact h2),fun i h=>hr.new i (by rw[←hsame];exact h),hr.frm,hr.top,
   fun i l h'=>by
    show(G.loc i).head?=l.head?∧(getH ((id,some (Res.box cs'))::s.hp) i).isSome∧tokf ((id,some (Res.box cs'))::s.hp) i=none
    rw[hsame,htk];exact hr.kept i l h'⟩
  exact this.putNone
 ·obtain rfl:o=off:=ho.resolve_left (by omega)
  obtain⟨ie,z,z1,z2,z3,z4⟩:=hz.inf
  have hz0:=zca (G:=G) (T:=tokf s.hp) (w:=w) z4
  have hzr:=ze5 (by simpa using hz0) n (by omega)
  have hzs:z.cells.size=k:=by have:=hz0.size;simp at this;omega
  let vl:List Value:=(Builtin.zeroCells z.cells n).toList
  have hvl:vl.toArray=(Array.range (n*zs.length)).map (z.cells[· % z.cells.size]!):=by
   simp only[vl,Builtin.zeroCells,Array.toArray_toList]
   rw[hzs,hzk]
  have hvr:AllR G (tokf s.hp) w (zaD n zs) vl.toArray:=by rw[hvl];exact hzr
  have hne:zaD n zs≠[]:=fun h=>by
   have:=congrArg List.length h
   rw[zes] at this
   have h2:0<n*zs.length:=Nat.mul_pos hn0 (by omega)
   simp only[List.length_nil] at this
   omega
  obtain⟨p1,p2,p3⟩:=zcl hput
  have p2':=p2.resolve_left hne
  have hsz:=hvr.size
  have hsv:vl.toArray.size=vl.length:=by simp only[List.size_toArray]
  simp only[List.size_toArray] at hsz
  have hzone:∀i (hi:i<zs.length) (hv:i<z.cells.size),z.cells[i].oneCell'=true:=fun i hi hv=>by
   have:=hz0.rel i hi (by simpa using hv)
   simp only[List.getElem_toArray,Array.getElem_toList] at this
   exact this.one (zgh h1 _ (List.getElem_mem hi))
  have hst:=run_storeCells_at c.P bl o et vl 0 us w h3 (by omega) (fun u hu=>by
   simp only[vl,Builtin.zeroCells,Array.toList_map,List.mem_map] at hu
   obtain⟨i,_,rfl⟩:=hu
   have hm:i % z.cells.size<z.cells.size:=Nat.mod_lt _ (by omega)
   rw[getElem!_pos z.cells _ hm]
   exact hzone _ (by omega) hm)
  simp only[Nat.add_zero] at hst
  have hrow:PreR G (tokf s.hp) w cs' (us.toList.take o++vl++us.toList.drop (o+vl.length)).toArray:=by
   refine hall.put hvr hput ?_ (fun i=>?_)
   ·simp only[List.size_toArray,List.length_append,List.length_take,List.length_drop,Array.length_toList];omega
   ·simp only[List.getElem?_toArray]
    rw[List.append_assoc,List.getElem?_append]
    simp only[List.length_take,Array.length_toList]
    by_cases hi:i<o
    ·rw[if_pos (by omega),if_neg (by omega)]
     simp[hi]
    ·rw[if_neg (by omega),List.getElem?_append]
     have hm:min o us.size=o:=by omega
     rw[hm]
     by_cases hi2:i<o+vl.length
     ·rw[if_pos (by omega),if_pos (by omega)]
     ·rw[if_neg (by omega),if_neg (by omega)]
      rw[List.getElem?_drop,show o+vl.length+(i-o-vl.length)=i by omega]
      simp
  have hrun:(execOp a.eval ⟨none,.call ⟨.builtin .clear,#[x],#[t]⟩,ty,pos,af,g⟩).run c.P w = .ok (.value (.tuple #[])) (w.setRow bl (us.toList.take o++vl++us.toList.drop (o+vl.length)).toArray):=by
   obtain⟨m,rfl⟩:∃m,n=m+1:=⟨n-1,by omega⟩
   have hzv:(zeroValue e).run c.P w = .ok z w:=zkB z1 z3
   simp only[vl] at hst
   simp[execOp,resolve,invoke,builtin,he,Builtin.clear_,run_underlying ht.und,hzv,hst,vl]
  rw[hrun,Oper.upon_value]
  exact hK _ _ ⟨G,(hr.setBox hbx h2 h3 h5 hrow).putNone⟩
end
theorem zsy {G G':Gh}{T T':TokF}{w:World}{id n k b:Nat}{us:Array Value}{e:TypeId}{x:Value}{cs:List AV}{es:List (List D)} (hx:RelA G T w (.ms id n) x) (h1:G.loc id=[b]) (h2:w.heap[b]?=some (.cells us e (0,0))) (h3:cs.length≤us.size)
  (h5:∀i (hi:i<cs.length) (hv:i<us.size),RelA G T w cs[i] us[i]) (hFb:G'.F b=us.size) (hcell:∀y o,o<G.F y→o<G'.F y∧w.cell? ⟨y,o,none⟩=w.cell? ⟨y,o,none⟩) (hc:zcp n k (cs.take (n*k))=some es):RelA G' T' w (.d (.sl es)) x:=by
 obtain⟨c1,c2,c3,c4⟩:=zdS hc
 have c3':n*k≤cs.length:=by rw[List.length_take] at c3;omega
 obtain⟨b',cap,hl,he,hcap⟩:=hx.ms_eq
 obtain rfl:=(zcP hl.1 h1).symm
 rw[he]
 refine .d ?_
 have hn':n=es.length:=c1.symm
 rw[hn']
 refine .sl es k b 0 cap (fun x=>us.getD x undef) c2 (by omega) (fun x hx=>?_) (fun i hi j hj=>?_)
 ·have h3':x<cs.length:=by rw[←c1] at c3';omega
  have hxs:x<us.size:=Nat.lt_of_lt_of_le h3' h3
  refine⟨by rw[hFb];omega, ?_⟩
  simp[World.cell?,h2,hxs]
 ·have hjk:j<k:=by rw[←c2 _ (List.getElem_mem hi)];exact hj
  have hltn:i*k+j<n*k:=by
   rw[←c1]
   have:(i+1)*k≤es.length*k:=Nat.mul_le_mul_right _ (by omega)
   rw[Nat.add_mul] at this
   omega
  have hlt:i*k+j<cs.length:=by omega
  have hlu:i*k+j<us.size:=by omega
  have h8:=c4 i hi j hj (by rw[List.length_take];omega)
  rw[List.getElem_take] at h8
  have h6:=(h5 _ hlt hlu).toD h8
  have h7:us.getD (i*k+j) undef=us[i*k+j]:=by simp[Array.getD,hlu]
  rw[h7]
  exact h6.mono hcell
def zoi (env:Env) (hp:Hp) (j:Nat):Bool:=
 (match getH hp j with|none=>true|some _=>false)&&(env.all fun x=>match getE env x.1 with|some v=> !zaM j v.ids|none=>true)&&(hp.all fun x=>match getH hp x.1 with|some r=> !zaM j r.ids|none=>true)
theorem zoj:∀ {env:Env}{i:Nat}{v:AV},getE env i=some v→∃u,(i,u)∈env
 |(k,x)::r,i,v,h=>by
  simp only[getE] at h
  cases hb:Nat.beq k i with
  |true=>obtain rfl:=Nat.eq_of_beq_eq_true hb;exact⟨x,by simp⟩
  |false=>
   simp only[hb,cond_false] at h
   obtain⟨u,hu⟩:=zoj h
   exact⟨u,List.mem_cons_of_mem _ hu⟩
theorem zo4 {env:Env}{hp:Hp}{j:Nat} (h:zoi env hp j=true):getH hp j=none∧zcW j ⟨env,hp⟩:=by
 simp only[zoi,Bool.and_eq_true,List.all_eq_true] at h
 obtain⟨⟨h1,h2⟩,h3⟩:=h
 refine⟨?_,fun i v hv hm=>?_,fun i r hr hm=>?_⟩
 ·cases hg:getH hp j with
  |none=>rfl
  |some x=>simp[hg] at h1
 ·obtain⟨u,hu⟩:=zoj hv
  have:=h2 _ hu
  rw[show getE env (i,u).1=some v from hv] at this
  change (!zaM j v.ids)=true at this
  rw[zaF.2 hm] at this
  cases this
 ·obtain⟨u,hu⟩:=zie hr
  have:=h3 _ hu
  rw[show getH hp (i,u).1=some r from hr] at this
  change (!zaM j r.ids)=true at this
  rw[zaF.2 hm] at this
  cases this
theorem CWp.tokDrop {c:Ctx}{env:Env}{hp:Hp}{K:Kt}{code:Code} (t i:Nat){n k:Nat}{xs:List (List D)} (ht:getE env t=some (.gl i xs)) (hi:getH hp i=some (.tok n k))
  (hn:CWp c code ⟨(t,.d (.sl xs))::env,(i,none)::hp⟩ K):CWp c code ⟨env,hp⟩ K:=by
 rintro a w ⟨G,hr⟩
 have g1:∀x,x≠i→getH ((i,none)::hp) x=getH hp x:=fun x h1=>by rw[zai,if_neg h1]
 have gi:getH ((i,none)::hp) i=none:=by rw[zai,if_pos rfl]
 have Ti:tokf hp i=some (n,k):=zap.2 hi
 have Ti':tokf ((i,none)::hp) i=none:=by unfold tokf;rw[gi]
 have hT:Turn c G ⟨env,hp⟩ w G ((i,none)::hp) [i]:=by
  refine⟨fun x hx=>?_,fun x hx=>rfl,fun b _=>rfl,fun b o ho=>ho,hr.top,fun x hx=>?_,fun x hx hs b hb=>?_,fun x hx y hy hxy h1 h2 b hb=>?_,fun x hx l hl=>?_⟩
  ·simp only[List.mem_cons,List.not_mem_nil,or_false] at hx
   exact g1 x hx
  ·simp only[List.mem_cons,List.not_mem_nil,or_false] at hx
   subst hx
   exact .inr ⟨.inl rfl,fun p hp'=>by rw[Ti'] at hp';cases hp'⟩
  ·simp only[List.mem_cons,List.not_mem_nil,or_false] at hx
   subst hx
   rw[gi] at hs;cases hs
  ·simp only[List.mem_cons,List.not_mem_nil,or_false] at hx hy
   exact absurd (hx.trans hy.symm) hxy
  ·have hk:=hr.kept x l hl
   simp only[List.mem_cons,List.not_mem_nil,or_false] at hx
   subst hx
   have:=hk.2.2
   rw[show tokf (St.mk env hp).hp x=some (n,k) from Ti] at this;cases this
 have hR:=hT.fin hr (fun x hx r hxr=>by
  simp only[List.mem_cons,List.not_mem_nil,or_false] at hx
  subst hx
  rw[gi] at hxr;cases hxr)
 refine hn a w ⟨G,hR.slot ?_⟩
 have hs:=hr.slots t _ ht
 cases hs with
 |gl h h2=>exact .d h
theorem R.tokMove {c:Ctx}{G:Gh}{s:St}{a:Act}{w:World} (hr:R c G s a w) (i j:Nat){n k:Nat} (m:Nat) (hi:getH s.hp i=some (.tok n k)) (h0:getH s.hp j=none) (hocc:zcW j s):
  ∃G':Gh,R c G' ⟨s.env,(j,some (.tok m k))::(i,none)::s.hp⟩ a w∧G'.F=G.F∧G'.loc j=G.loc i∧tokf ((j,some (Res.tok m k))::(i,none)::s.hp) j=some (m,k):=by
 have hji:j≠i:=fun e=>by subst e;rw[h0] at hi;cases hi
 have g1:∀x,x≠j→x≠i→getH ((j,some (Res.tok m k))::(i,none)::s.hp) x=getH s.hp x:=fun x h1 h2=>by
  rw[zai,if_neg h1,zai,if_neg h2]
 have gj:getH ((j,some (Res.tok m k))::(i,none)::s.hp) j=some (.tok m k):=by rw[zai,if_pos rfl]
 have gi:getH ((j,some (Res.tok m k))::(i,none)::s.hp) i=none:=by rw[zai,if_neg (fun e=>hji e.symm),zai,if_pos rfl]
 have Ti:tokf s.hp i=some (n,k):=zap.2 hi
 have Tj:tokf ((j,some (Res.tok m k))::(i,none)::s.hp) j=some (m,k):=zap.2 gj
 have Ti':tokf ((j,some (Res.tok m k))::(i,none)::s.hp) i=none:=by unfold tokf;rw[gi]
 let G':Gh:={ G with loc:=fun x=>bif Nat.beq x j then G.loc i else G.loc x }
 have lj:G'.loc j=G.loc i:=by simp[G']
 have lo:∀x,x≠j→G'.loc x=G.loc x:=fun x h=>by simp[G',zda h]
 have hsi:(getH s.hp i).isSome:=by rw[hi];rfl
 have hT:Turn c G s w G' ((j,some (Res.tok m k))::(i,none)::s.hp) [i,j]:=by
  refine⟨fun x hx=>?_,fun x hx=>?_,fun b _=>rfl,fun b o ho=>ho,hr.top,fun x hx=>?_,fun x hx hs b hb=>?_,fun x hx y hy hxy h1 h2 b hb=>?_,fun x hx l hl=>?_⟩
  ·simp only[List.mem_cons,List.not_mem_nil,or_false,not_or] at hx
   exact g1 x hx.2 hx.1
  ·simp only[List.mem_cons,List.not_mem_nil,or_false,not_or] at hx
   exact lo x hx.2
  ·simp only[List.mem_cons,List.not_mem_nil,or_false] at hx
   rcases hx with rfl|rfl
   ·exact .inr ⟨.inl (lo _ (fun e=>hji e.symm)),fun p hp'=>by rw[Ti'] at hp';cases hp'⟩
   ·exact .inl hocc
  ·simp only[List.mem_cons,List.not_mem_nil,or_false] at hx
   rcases hx with rfl|rfl
   ·rw[gi] at hs;cases hs
   ·exact⟨i,by simp,hsi,by rw[lj] at hb;exact hb⟩
  ·simp only[List.mem_cons,List.not_mem_nil,or_false] at hx hy
   rcases hx with rfl|rfl
   ·rw[gi] at h1;cases h1
   ·rcases hy with rfl|rfl
    ·rw[gi] at h2;cases h2
    ·exact absurd rfl hxy
  ·have hk:=hr.kept x l hl
   simp only[List.mem_cons,List.not_mem_nil,or_false] at hx
   rcases hx with rfl|rfl
   ·have:=hk.2.2
    rw[Ti] at this;cases this
   ·have:=hk.2.1
    rw[h0] at this;cases this
 have hR:=hT.fin hr (fun x hx r hxr=>by
  simp only[List.mem_cons,List.not_mem_nil,or_false] at hx
  rcases hx with rfl|rfl
  ·rw[gi] at hxr;cases hxr
  ·rw[gj] at hxr;cases hxr
   intro b hb
   rw[lj] at hb
   exact hr.heap i _ hi b hb)
 exact⟨G',hR,rfl,lj,Tj⟩
theorem CWp.tokRen {c:Ctx}{env:Env}{hp:Hp}{K:Kt}{code:Code} (t i j:Nat){n k:Nat}{xs:List (List D)} (ht:getE env t=some (.gl i xs)) (hi:getH hp i=some (.tok n k)) (hf:zoi env hp j=true)
  (hn:CWp c code ⟨(t,.gl j xs)::env,(j,some (.tok n k))::(i,none)::hp⟩ K):CWp c code ⟨env,hp⟩ K:=by
 rintro a w ⟨G,hr⟩
 obtain⟨h0,hocc⟩:=zo4 hf
 have Ti:tokf hp i=some (n,k):=zap.2 hi
 obtain⟨G',hR,hF,lj,Tj⟩:=hr.tokMove i j n hi h0 hocc
 refine hn a w ⟨G',hR.slot ?_⟩
 have hs:=hr.slots t _ ht
 cases hs with
 |gl h h2=>
  refine .gl (by rw[hF];exact h) (fun n' k' hT'=>?_)
  have hT2:tokf ((j,some (Res.tok n k))::(i,none)::hp) j=some (n',k'):=hT'
  rw[Tj] at hT2
  cases hT2
  obtain⟨q1,q2⟩:=h2 n k Ti
  refine⟨q1,fun hn'=>⟨(q2 hn').1, ?_⟩⟩
  have:=(q2 hn').2
  unfold Tip at this ⊢
  rw[lj,hF]
  exact this
section
variable {c:Ctx}{all:Array Oper}{chk:List Rec→Prop}{os:List Oper}{recs:List Rec}{env:Env}{hp:Hp}{Q:St→Prop}
variable {d ty:Nat}{pos:String}{af:Array Edge}{g:Option (Nat×Bool)}{pg:List (Nat×AV)}{t:TypeId}{x:Operand}
theorem Walk.cutV_h {id e k yb:Nat} (j:Nat){xs:List (List D)}{o:Operand}{kd:IntKind}{n:Int}{b:Nat} (ht:SlT c.P t e k yb) (hg:GH all env g pg) (hd:Nat.blt d c.n=true)
  (hx:opd env x=some (.gv id xs)) (htok:getH hp id=some (.tok xs.length k)) (ho:opd env o=some (.d (.int kd n))) (hi:n = ↑b) (hb:b≤xs.length) (hpos:0<xs.length) (hf:zak env hp [j]=true)
  (hn:Walk c all chk os (zaq (pg++(opF x (.gv id xs)++opF o (.d (.int kd n)))) [(id,.tok xs.length k)] [j] ⟨some (d,.gv j (xs.take b)),[(j,some (.tok b k)),(id,none)]⟩::recs)
   ⟨(d,.gv j (xs.take b))::env,(j,some (.tok b k))::(id,none)::hp⟩ Q):
  Walk c all chk (⟨some d,.slice t x none (some o) none,ty,pos,af,g⟩::os) recs ⟨env,hp⟩ Q:=by
 refine⟨pg++(opF x (.gv id xs)++opF o (.d (.int kd n))),[(id,.tok xs.length k)],[j],_, ?_,zax hg.facts (zax (za4 hx) (za4 ho)),hh1 htok,zbt hf,hn⟩
 intro s a w hrel hp' hh hcr K Q' hK
 obtain⟨G,hr⟩:=hrel
 have e1:=hr.opd (za5 hx (fun p hm=>hp' p (by simp[hm])))
 have e2:=hr.opd (za5 ho (fun p hm=>hp' p (by simp[hm])))
 have htk:=hh1' hh
 obtain⟨h0,hocc⟩:=hcr j (by simp)
 obtain⟨⟨ad,cap0,hv0⟩,hcl⟩:=e1.gv_inv
 have Ti:tokf s.hp id=some (xs.length,k):=zap.2 htk
 obtain⟨hkx,htip⟩:=(hcl _ _ Ti).2 rfl
 rcases htip with ⟨_,q2,_⟩|⟨bl,cap,cs,et,q1,q2,q3,q4,q5,q6,q7⟩
 ·omega
 obtain⟨G',hR,hF,lj,Tj⟩:=hr.tokMove id j b htk h0 hocc
 unfold wpO
 rw[if_pos (hg.gf.wanted hr (fun p hm=>hp' p (by simp[hm])))]
 unfold Oper.wp
 have hbd:=zfm (P:=c.P) (w:=w) true xs.length cap (lo:=none) (hi:=some (.int kd b)) (a:=0) (b:=b) (.inl ⟨rfl,rfl⟩) (.inr ⟨kd,rfl⟩) (Nat.zero_le _) (by omega)
 have hrun:(execOp a.eval ⟨some d,.slice t x none (some o) none,ty,pos,af,g⟩).run c.P w = .ok (.value (.slice (some ⟨bl,0,none⟩) b cap)) w:=by
  simp only[execOp,e2.int_eq,hi,q2,Option.map_none,Option.map_some,Instr.sliceAt,Sem.run_bind,run_underlying ht.und,Result.andThen_ok,Instr.slice,hbd,ht.run_size,Sem.run_pure,Nat.zero_mul,Nat.sub_zero,zcy,Nat.zero_add,ite_self]
 rw[hrun,Oper.upon_value]
 have hl:(xs.take b).length=b:=by rw[List.length_take];omega
 have hA:RelA G' (tokf ((j,some (Res.tok b k))::(id,none)::s.hp)) w (.gv j (xs.take b)) (.slice (some ⟨bl,0,none⟩) b cap):=by
  refine .gv ⟨some ⟨bl,0,none⟩,cap,by rw[hl]⟩ (fun n' k' hT'=>?_)
  rw[Tj] at hT'
  cases hT'
  refine⟨by omega,fun _=>⟨fun y hy=>hkx y (List.mem_of_mem_take hy),.inr ⟨bl,cap,cs,et,by rw[lj];exact q1,rfl,by rw[hF];exact q3,q4,q5,by omega,fun i hi' jj hj'=>?_⟩⟩⟩
  have hix:i<xs.length:=by rw[hl] at hi';omega
  have h9:=q7 i hix jj (by simpa [List.getElem_take] using hj')
  rw[hF]
  simpa [List.getElem_take] using h9
 exact hK _ _ ⟨G',hR.put hA hd⟩
end
theorem FnD.glD {P:Program}{f:FuncId}{i n k:Nat}{args:List AV}{xs:List (List D)} (h:FnD P f args [] (.gl i xs) [(i,some (.tok n k))]):FnD P f args [] (.d (.sl xs)) []:=by
 intro G w vals hok
 refine(h G w vals hok).mono ?_
 rintro e w' ⟨v,r',hp',G',rfl,⟨rfl,rfl⟩,hret⟩
 refine⟨v,_,_,G',rfl,⟨rfl,rfl⟩, ?_,fun id x hx=>(by cases hx),fun id id' h1=>(by cases h1),fun id h1=>(by cases h1),hret.frm,hret.top,fun id hi=>(by simp[zbS,getH] at hi)⟩
 have:=hret.res
 cases this with
 |gl h1 h2=>exact .d h1
theorem FnD.gvRen {P:Program}{f:FuncId}{i k:Nat} (j:Nat){args:List AV}{xs:List (List D)} (h:FnD P f args [] (.gv i xs) [(i,some (.tok xs.length k))]):FnD P f args [] (.gv j xs) [(j,some (.tok xs.length k))]:=by
 intro G w vals hok
 refine(h G w vals hok).mono ?_
 rintro e w' ⟨v,r',hp',G',rfl,⟨rfl,rfl⟩,hret⟩
 have gi:getH ([(i,some (Res.tok xs.length k))]++[]) i=some (.tok xs.length k):=by simp[getH]
 have gj:∀x,(getH ([(j,some (Res.tok xs.length k))]++[]) x).isSome→x=j:=fun x hx=>by
  by_cases e:j=x
  ·exact e.symm
  ·simp[getH,zda e] at hx
 have Ti:tokf ([(i,some (Res.tok xs.length k))]++[]) i=some (xs.length,k):=zap.2 gi
 let G2:Gh:={ G' with loc:=fun x=>G'.loc i }
 refine⟨v,_,_,G2,rfl,⟨rfl,rfl⟩, ?_,fun id x hx=>?_,fun id id' h1 h2 hne=>absurd ((gj id h1).trans (gj id' h2).symm) hne,fun id h1 b hb=>hret.new i (by rw[gi];rfl) b hb,hret.frm,hret.top,fun id hi=>(by simp[zbS,getH] at hi)⟩
 ·have:=hret.res
  cases this with
  |gv hv h2=>
   refine .gv hv (fun n' k' hT'=>?_)
   have hT2:=zap.1 hT'
   have e1:Res.tok xs.length k=Res.tok n' k':=by simp[getH] at hT2;rw[hT2.1,hT2.2]
   cases e1
   obtain⟨q1,q2⟩:=h2 _ _ Ti
   refine⟨q1,fun hn'=>⟨(q2 hn').1, ?_⟩⟩
   have:=(q2 hn').2
   unfold TipV at this ⊢
   exact this
 ·have e1:=gj id (by rw[hx];rfl)
  subst e1
  have e2:x=Res.tok xs.length k:=by simp[getH] at hx;exact hx.symm
  subst e2
  intro b hb
  exact hret.heap i _ gi b hb
theorem FnD.gvD {P:Program}{f:FuncId}{i k:Nat}{args:List AV}{xs:List (List D)} (h:FnD P f args [] (.gv i xs) [(i,some (.tok xs.length k))]):FnD P f args [] (.d (.sl xs)) []:=by
 intro G w vals hok
 refine(h G w vals hok).mono ?_
 rintro e w' ⟨v,r',hp',G',rfl,⟨rfl,rfl⟩,hret⟩
 have gi:getH ([(i,some (Res.tok xs.length k))]++[]) i=some (.tok xs.length k):=by simp[getH]
 have Ti:tokf ([(i,some (Res.tok xs.length k))]++[]) i=some (xs.length,k):=zap.2 gi
 have hown:∀b,b∉zbW G []:=fun b hb=>by simp[zbW] at hb
 have hnew:∀b,b∈G'.loc i→w.heap.size≤b:=fun b hb=>(hret.new i (by rw[gi];rfl) b hb).resolve_left (hown b)
 have hlt:∀b,b∈G'.loc i→b<w'.heap.size:=hret.heap i _ gi
 have hres:=hret.res
 obtain⟨hv,hcl⟩:=hres.gv_inv
 obtain⟨hkx,htip⟩:=(hcl _ _ Ti).2 rfl
 rcases htip with ⟨_,q2,q3⟩|⟨bl,cap,cs,et,q1,q2,q3,q4,q5,q6,q7⟩
 ·have hxs:xs=[]:=List.eq_nil_of_length_eq_zero q2
  subst hxs
  refine⟨v,_,_,G',rfl,⟨rfl,rfl⟩, ?_,fun id x hx=>(by cases hx),fun id id' h1=>(by cases h1),fun id h1=>(by cases h1),hret.frm,hret.top,fun id hi=>(by simp[zbS,getH] at hi)⟩
  rw[q3];exact .d .nil
 ·let G2:Gh:={ G' with F:=fun x=>bif Nat.beq x bl then cs.size else G'.F x }
  have hin:G2.F bl=cs.size:=by simp[G2]
  have hout:∀x,x≠bl→G2.F x=G'.F x:=fun x hx=>by simp[G2,zda hx]
  have hbl:bl∈G'.loc i:=by rw[q1];simp
  have hle:∀b o,o<G'.F b→o<G2.F b:=fun x o ho=>by
   by_cases hx:x=bl
   ·subst hx;rw[q3] at ho;omega
   ·rw[hout x hx];exact ho
  refine⟨v,_,_,G2,rfl,⟨rfl,rfl⟩, ?_,fun id x hx=>(by cases hx),fun id id' h1=>(by cases h1),fun id h1=>(by cases h1), ?_,fun x hx=>?_,fun id hi=>(by simp[zbS,getH] at hi)⟩
  ·rw[q2]
   have hsz:xs.length*k≤cs.size:=Nat.le_trans (Nat.mul_le_mul_right _ q6) q5
   refine .d (.sl xs k bl 0 cap (fun n=>cs.getD n undef) hkx q6 (fun q hq=>⟨by rw[hin];omega, ?_⟩) (fun q hq jj hj=>?_))
   ·have:q<cs.size:=by omega
    simp[World.cell?,q4,this]
   ·exact(q7 q hq jj hj).mono (fun b o ho=>⟨hle b o ho,rfl⟩)
  ·have hf:=hret.frm
   exact⟨hf.os,hf.tape,hf.output,hf.size,fun x hx hn=>⟨(hf.block x hx hn).1,by
    rw[hout x (fun e=>by subst e;have:=hnew x hbl;omega)];exact(hf.block x hx hn).2⟩,fun x o ho=>⟨hle x o (hf.cell x o ho).1,(hf.cell x o ho).2⟩⟩
  ·by_cases hx':x=bl
   ·subst hx';have:=hlt x hbl;omega
   ·rw[hout x hx'];exact hret.top x hx
theorem znv {zs:List AV}:∀ {n i j:Nat},i<n→j<zs.length→(zaD n zs)[i*zs.length+j]?=zs[j]?
 |n+1,0,j,_,hj=>by
  simp only[zaD,Nat.zero_mul,Nat.zero_add]
  rw[List.getElem?_append_left hj]
 |n+1,i+1,j,hi,hj=>by
  simp only[zaD]
  rw[List.getElem?_append_right (by rw[Nat.add_mul];omega),show(i+1)*zs.length+j-zs.length=i*zs.length+j by rw[Nat.add_mul];omega]
  exact znv (by omega) hj
section
variable {c:Ctx}
theorem R.freshV {G:Gh}{s:St}{a:Act}{w:World} (hr:R c G s a w){id k nc:Nat}{es:List (List D)}{cells:Array Value}{e:TypeId} (htok:getH s.hp id=some (.tok 0 k)) (hpos:0<es.length)
  (hk:∀x,x∈es→x.length=k) (hcs:cells.size=nc*k) (hn:es.length≤nc)
  (hrow:∀i (hi:i<es.length) j (hj:j<es[i].length),RelD G.F w es[i][j] (cells.getD (i*k+j) undef)):
  ∃G',R c G' { s with hp:=(id,some (.tok es.length k))::s.hp } a (w.drew.alloc (.cells cells e))∧
   RelA G' (tokf ((id,some (.tok es.length k))::s.hp)) (w.drew.alloc (.cells cells e)) (.gv id es) (.slice (some ⟨w.heap.size,0,none⟩) es.length nc):=by
 let G':Gh:={ F:=G.F,loc:=fun j=>bif Nat.beq j id then [w.heap.size] else G.loc j }
 have hlt:∀b o,o<G.F b→b<w.heap.size:=fun b o ho=>by
  rcases Nat.lt_or_ge b w.heap.size with h|h
  ·exact h
  ·rw[hr.top b h] at ho;omega
 have hcell:∀b o,o<G.F b→o<G'.F b∧(w.drew.alloc (.cells cells e)).cell? ⟨b,o,none⟩=w.cell? ⟨b,o,none⟩:=fun b o ho=>by
  have hb:=hlt b o ho
  exact⟨ho,by rw[World.cell?_alloc_lt w.drew _ _ hb];rfl⟩
 have hlocne:∀j,j≠id→G'.loc j=G.loc j:=fun j hj=>by
  have:Nat.beq j id=false:=by
   cases h:Nat.beq j id with
   |true=>exact absurd (Nat.eq_of_beq_eq_true h) hj
   |false=>rfl
  simp[G',this]
 have hlocid:G'.loc id=[w.heap.size]:=by simp[G']
 have hT':tokf ((id,some (.tok es.length k))::s.hp) id=some (es.length,k):=zap.2 (by rw[zai,if_pos rfl])
 refine⟨G',hr.retok (G':=G') htok hpos hcell hlocne (fun b hb _=>⟨zdi (w:=w.drew) hb,rfl⟩) (fun b hb=>by rw[hlocid] at hb;simp at hb;subst hb;simp)
  (fun b hb=>by rw[hlocid] at hb;simp at hb;exact .inr (by omega)) rfl rfl rfl (by simp) (fun b hb=>?_), ?_⟩
 ·have hb':w.heap.size+1≤b:=by simpa using hb
  exact hr.top b (by omega)
 refine .gv ⟨_,_,rfl⟩ (fun n' k' hm'=>?_)
 rw[hT'] at hm'
 cases hm'
 exact⟨Nat.le_refl _,fun _=>⟨hk,.inr ⟨w.heap.size,nc,cells,e,hlocid,rfl,hr.top _ (Nat.le_refl _),zd6 (w:=w.drew),by rw[hcs];exact Nat.le_refl _,hn,fun i hi j hj=>(hrow i hi j hj).mono hcell⟩⟩⟩
end
section
variable {c:Ctx}{all:Array Oper}{chk:List Rec→Prop}{os:List Oper}{recs:List Rec}{env:Env}{hp:Hp}{Q:St→Prop}
variable {d ty:Nat}{pos:String}{af:Array Edge}{g:Option (Nat×Bool)}{pg:List (Nat×AV)}{t:TypeId}{x y:Operand}
theorem RelA.nils_eq {G:Gh}{T:TokF}{w:World}{v:Value} (h:RelA G T w .nils v):v = .slice none 0 0:=by cases h;rfl
theorem Walk.capN {at_ e k yb:Nat} (ht:SlT c.P at_ e k yb) (hg:GH all env g pg) (hd:Nat.blt d c.n=true) (hx:opd env x=some .nils)
  (hn:Walk c all chk os (zaq (pg++opF x .nils) [] [] ⟨some (d,.d (.i 0)),[]⟩::recs) ⟨(d,.d (.i 0))::env,hp⟩ Q):
  Walk c all chk (⟨some d,.call ⟨.builtin .cap,#[x],#[at_]⟩,ty,pos,af,g⟩::os) recs ⟨env,hp⟩ Q:=
 Walk.pure1 hg hd hx (fun a G T w h=>⟨.int .i64 (0:Nat),by
  simp[execOp,resolve,invoke,builtin,h.nils_eq,Builtin.cap_,run_underlying ht.und,goInt],.d (.int _ _)⟩) hn
theorem Walk.cutN_h {e k yb:Nat}{o:Operand}{kd:IntKind} (ht:SlT c.P t e k yb) (hg:GH all env g pg) (hd:Nat.blt d c.n=true)
  (hx:opd env x=some .nils) (ho:opd env o=some (.d (.int kd 0)))
  (hn:Walk c all chk os (zaq (pg++(opF x .nils++opF o (.d (.int kd 0)))) [] [] ⟨some (d,.nils),[]⟩::recs) ⟨(d,.nils)::env,hp⟩ Q):
  Walk c all chk (⟨some d,.slice t x none (some o) none,ty,pos,af,g⟩::os) recs ⟨env,hp⟩ Q:=by
 refine Walk.pure2 hg hd hx ho (fun a G T w h1 h2=>⟨.slice none 0 0, ?_,.nils⟩) hn
 have hbd:=zfm (P:=c.P) (w:=w) true 0 0 (lo:=none) (hi:=some (.int kd (0:Nat))) (a:=0) (b:=0) (.inl ⟨rfl,rfl⟩) (.inr ⟨kd,rfl⟩) (Nat.le_refl _) (Nat.le_refl _)
 have e2:a.eval o = .int kd ((0:Nat):Int):=h2.int_eq
 simp only[execOp,e2,h1.nils_eq,Option.map_none,Option.map_some,Instr.sliceAt,Sem.run_bind,run_underlying ht.und,Result.andThen_ok,Instr.slice,hbd,ht.run_size,Sem.run_pure,Nat.zero_mul,Nat.sub_zero,ite_self]
theorem Walk.growZ {e k yb n:Nat} (id:Nat){zs:List AV}{zr:List D}{tn:TypeId}{kn:IntKind}{m:Int} (ht:SlT c.P t e k yb) (htn:c.P.underlying tn=some (.int kn)) (hz:TyZ c.P e k zs) (hzk:zs.length=k) (hk:0<k) (hzr:toDL zs=some zr)
  (hg:GH all env g pg) (hd:Nat.blt d c.n=true) (hx:opd env x=some .nils) (hy:opd env y=some (.d (.i m))) (hm:m = ↑n) (hn0:0<n) (hb:n*yb≤281474976710656) (h63:(n:Int)≤9223372036854775807) (hf:zak env hp [id]=true)
  (hn:Walk c all chk os (zaq (pg++(opF x .nils++opF y (.d (.i m)))) [] [id] ⟨some (d,.gv id (List.replicate n zr)),[(id,some (.tok n k)),(id,some (.tok 0 k))]⟩::recs)
   ⟨(d,.gv id (List.replicate n zr))::env,(id,some (.tok n k))::(id,some (.tok 0 k))::hp⟩ Q):
  Walk c all chk (⟨some d,.call ⟨.builtin .append,#[x,y],#[t,tn]⟩,ty,pos,af,g⟩::os) recs ⟨env,hp⟩ Q:=by
 refine⟨pg++(opF x .nils++opF y (.d (.i m))),[],[id],_, ?_,zax hg.facts (zax (za4 hx) (za4 hy)),by simp,zbt hf,hn⟩
 intro s a w hrel hp' hh hcr K Q' hK
 obtain⟨G,hr⟩:=hrel
 have e1:=(hr.opd (za5 hx (fun p hm=>hp' p (by simp[hm])))).nils_eq
 have e2:=(hr.opd (za5 hy (fun p hm=>hp' p (by simp[hm])))).int_eq
 obtain⟨h0,hocc⟩:=hcr id (by simp)
 obtain⟨G1,hr1,_⟩:=hr.mkTokV k h0 hocc
 obtain⟨ie,hi1,hi2,hi3⟩:=ht.inf
 obtain⟨i',z,z1,z2,z3,z4⟩:=hz.inf
 rw[hi1] at z1
 cases z1
 have hrun:=Go.Lib.run_append_nil_zeros (P:=c.P) w t tn ty e ie z .i64 kn ht.und htn hi1 z3 n hn0 (by omega) h63 (by rw[hi3];exact hb)
 have hz0:=zca (G:=G1) (T:=tokf ((id,some (.tok 0 k))::s.hp)) (w:=w) z4
 have hzz:=ze5 (by simpa using hz0) n (by omega)
 obtain⟨c1,c2⟩:=zhv hzr
 have hsz:z.cells.size=k:=by have:=hz0.1;simp at this;omega
 have hle:n≤grownCap w n 0 e:=by have:=grownCap_ge w n 0 e;omega
 have ez:Builtin.zeroCells z.cells n=(Array.range (n*zs.length)).map (z.cells[· % z.cells.size]!):=by
  unfold Builtin.zeroCells;rw[hsz,hzk]
 rw[←ez] at hzz
 have hl:(List.replicate n zr).length=n:=List.length_replicate
 have hcs:(Builtin.zeroCells z.cells n++Builtin.zeroCells z.cells (grownCap w n 0 e-n)).size=grownCap w n 0 e*k:=by
  simp only[Array.size_append,size_zeroCells,hsz,←Nat.add_mul]
  congr 1;omega
 have key:∀i (hi:i<(List.replicate n zr).length) j (hj:j<(List.replicate n zr)[i].length),RelD G1.F w (List.replicate n zr)[i][j] ((Builtin.zeroCells z.cells n++Builtin.zeroCells z.cells (grownCap w n 0 e-n)).getD (i*k+j) undef):=by
  intro i hi j hj
  have hi2:i<n:=by simpa using hi
  have hj2:j<zr.length:=by simpa using hj
  have hj3:j<zs.length:=by omega
  have hlt:i*k+j<(Builtin.zeroCells z.cells n).size:=by
   rw[size_zeroCells,hsz]
   have:(i+1)*k≤n*k:=Nat.mul_le_mul_right _ (by omega)
   rw[Nat.add_mul] at this
   omega
  have hlz:i*k+j<(zaD n zs).length:=by have:=hzz.1;rw[←this];exact hlt
  have h5:=hzz.2 (i*k+j) hlz hlt
  have h6:=znv (zs:=zs) hi2 hj3
  rw[hzk,List.getElem?_eq_getElem hlz,List.getElem?_eq_getElem hj3] at h6
  rw[Option.some.inj h6] at h5
  have h7:=h5.toD (c2 j hj3 hj2)
  have e5:(Builtin.zeroCells z.cells n++Builtin.zeroCells z.cells (grownCap w n 0 e-n)).getD (i*k+j) undef=(Builtin.zeroCells z.cells n)[i*k+j]:=by
   rw[Array.getD_eq_getD_getElem?,Array.getElem?_append_left hlt,Array.getElem?_eq_getElem hlt];rfl
  rw[e5]
  simp only[List.getElem_replicate]
  exact h7
 obtain⟨G',hR,hA⟩:=hr1.freshV (nc:=grownCap w n 0 e) (e:=e) (es:=List.replicate n zr) (by rw[zai,if_pos rfl]) (by rw[hl];exact hn0) (fun y hy=>by obtain⟨_,rfl⟩:=List.mem_replicate.1 hy;omega) hcs (by rw[hl];exact hle) key
 rw[hl] at hR hA
 unfold wpO
 rw[if_pos (hg.gf.wanted hr (fun p hm=>hp' p (by simp[hm])))]
 unfold Oper.wp
 have:(execOp a.eval ⟨some d,.call ⟨.builtin .append,#[x,y],#[t,tn]⟩,ty,pos,af,g⟩).run c.P w = .ok (.value (.slice (some ⟨w.heap.size,0,none⟩) n (grownCap w n 0 e))) (w.drew.alloc (.cells (Builtin.zeroCells z.cells n++Builtin.zeroCells z.cells (grownCap w n 0 e-n)) e)):=by
  simp only[execOp,resolve,invoke,builtin,Sem.run_bind,Sem.run_pure,Result.andThen_ok,List.map_toArray,List.map_cons,List.map_nil,e1,e2,hm,hrun]
 rw[this,Oper.upon_value]
 exact hK _ _ ⟨G',hR.put hA hd⟩
end
end Go.Proofs.YtfiihhedihkdoaaGreat
namespace Go.Proofs.YtfiihhedihkdoaaGreat
open Go
set_option linter.unusedSimpArgs false
set_option linter.unusedVariables false
set_option maxRecDepth 100000
set_option maxHeartbeats 2000000
def Pat.op:Pat→Int | .mk a0 _ _ _ _ _=>a0
def Pat.ctor:Pat→Int | .mk _ a1 _ _ _ _=>a1
def Pat.n:Pat→Int | .mk _ _ a2 _ _ _=>a2
def Pat.m:Pat→Int | .mk _ _ _ a3 _ _=>a3
def Pat.var:Pat→Int | .mk _ _ _ _ a4 _=>a4
def Pat.kids:Pat→List Pat | .mk _ _ _ _ _ k=>k
abbrev Pat.cc (v:Pat):List D:=[.i v.op,.i v.ctor,.i v.n,.i v.m,.i v.var,.sl (Pat.cs v.kids)]
theorem Pat.c_eq (v:Pat):v.c=v.cc:=by cases v;rfl
theorem Pat.eta (v:Pat):Pat.mk v.op v.ctor v.n v.m v.var v.kids=v:=by cases v;rfl
theorem Pat.cs_at' {pre:List Pat}{x:Pat}{rest xs:List Pat} (h:pre++x::rest=xs):(Pat.cs xs)[pre.length]?=some x.cc:=by rw[Pat.cs_eq,←Pat.c_eq];exact za0 h
mutual
def zfS:Pat→Pat→Bool
 | .mk a0 a1 a2 a3 a4 ks,.mk b0 b1 b2 b3 b4 ls=>decide (a0=b0)&&(decide (a1=b1)&&(decide (a2=b2)&&(decide (a3=b3)&&(decide (a4=b4)&&zcx ks ls))))
def zcx:List Pat→List Pat→Bool
 | [],[]=>true
 |x::r,y::s=>zfS x y&&zcx r s
 |_,_=>false
end
mutual
def Pat.ok:Pat→Prop
 | .mk _ _ _ _ _ ks=>ks.length≤1000000000000∧Pats.ok ks
def Pats.ok:List Pat→Prop
 | []=>True
 |v::r=>v.ok∧Pats.ok r
end
theorem Pats.ok_mem:∀ {l:List Pat},Pats.ok l→∀v,v∈l→v.ok
 |x::r,h,v,hv=>by
  simp only[Pats.ok] at h
  rcases List.mem_cons.1 hv with rfl|hv
  ·exact h.1
  ·exact Pats.ok_mem h.2 v hv
mutual
def Pat.size:Pat→Nat
 | .mk _ _ _ _ _ ks=>1+Pats.size ks
def Pats.size:List Pat→Nat
 | []=>0
 |v::r=>v.size+Pats.size r
end
theorem Pats.size_mem:∀ {l:List Pat}{v:Pat},v∈l→v.size≤Pats.size l
 |x::r,v,hv=>by
  simp only[Pats.size]
  rcases List.mem_cons.1 hv with rfl|hv
  ·omega
  ·have:=Pats.size_mem hv;omega
theorem zlJ:∀ {a b:List Pat},a.length≠b.length→zcx a b=false
 | [],[],h=>by simp at h
 | [],_::_,_=>by simp[zcx]
 |_::_,[],_=>by simp[zcx]
 |x::r,y::s,h=>by simp[zcx,zlJ (a:=r) (b:=s) (by simpa using h)]
theorem zaK {l:List Pat}{i:Nat} (h:i<l.length):(Pat.cs l)[i]?=some (nth l i).cc:=by
 rw[Pat.cs_eq,←Pat.c_eq];exact zay h
theorem Pat.ok_iff (v:Pat):v.ok↔v.kids.length≤1000000000000∧Pats.ok v.kids:=by cases v;rfl
theorem Pat.size_eq (v:Pat):v.size=1+Pats.size v.kids:=by cases v;rfl
theorem zrv (v w:Pat):zfS v w=(decide (v.op=w.op)&&(decide (v.ctor=w.ctor)&&(decide (v.n=w.n)&&(decide (v.m=w.m)&&(decide (v.var=w.var)&&zcx v.kids w.kids))))):=by cases v;cases w;rfl
theorem zkz {a b:List Pat}{i:Nat} (h:i<a.length) (h2:zfS (nth a i) (nth b i)=false):zcx a b=false:=by
 induction i generalizing a b with
 |zero=>
  cases a with
  |nil=>simp at h
  |cons x r=>
   cases b with
   |nil=>simp[zcx]
   |cons y s=>simp[nth] at h2;simp[zcx,h2]
 |succ i ih=>
  cases a with
  |nil=>simp at h
  |cons x r=>
   cases b with
   |nil=>simp[zcx]
   |cons y s=>simp only[zcx];rw[ih (a:=r) (b:=s) (by simpa using h) (by simpa [nth] using h2)];simp
theorem zlK {a b:List Pat} (hl:a.length=b.length) (h:∀i,i<a.length→zfS (nth a i) (nth b i)=true):zcx a b=true:=by
 induction a generalizing b with
 |nil=>cases b with
  |nil=>simp[zcx]
  |cons y s=>simp at hl
 |cons x r ih=>cases b with
  |nil=>simp at hl
  |cons y s=>
   have h0:=h 0 (by simp)
   simp only[zcx]
   rw[ih (by simpa using hl) (fun i hi=>by simpa [nth] using h (i+1) (by simpa using hi))]
   simpa [nth] using h0
mutual
theorem zlI:∀v:Pat,zfS v v=true
 | .mk _ _ _ _ _ ks=>by simp[zfS,zdT ks]
theorem zdT:∀l:List Pat,zcx l l=true
 | []=>rfl
 |v::r=>by simp[zcx,zlI v,zdT r]
end
theorem znC (m:Bool) (y:Pat) (rest:List Pat):zah m (Pat.cs (y::rest)) = .d (.i y.op):: .d (.i y.ctor):: .d (.i y.n):: .d (.i y.m):: .d (.i y.var):: .own m (zad y.kids)::zah m (Pat.cs rest):=by
 cases y;rfl
theorem zdO (m:Bool) (l:List Pat) (y:Pat):zah m (Pat.cs (l++[y]))=zah m (Pat.cs l)++[.d (.i y.op),.d (.i y.ctor),.d (.i y.n),.d (.i y.m),.d (.i y.var),.own m (zad y.kids)]:=by
 rw[Pat.cs_eq,List.map_append,←Pat.cs_eq,zhn]
 congr 1
 cases y;rfl
theorem Pat.c_len (v:Pat):v.c.length=6:=by cases v;rfl
theorem Pat.cs_rows {l:List Pat}:∀x,x∈Pat.cs l→x.length=6:=by
 intro x hx
 rw[Pat.cs_eq] at hx
 obtain⟨y,_,rfl⟩:=List.mem_map.1 hx
 exact y.c_len
theorem Pat.cs_nil (l:List Pat):Pat.cs l=[]↔l=[]:=by rw[Pat.cs_eq];simp
theorem zbn (m:Bool) (l:List Pat):(zah m (Pat.cs l)).length=l.length*6:=by
 rw[zcc (k:=6) Pat.cs_rows,Pat.cs_len]
mutual
def mPat:Pat→Nat
 | .mk _ _ _ _ _ ks=>zfj ks
def zfj:List Pat→Nat
 | []=>0
 |v::r=>1+mPat v+zfj r
end
theorem zsA (v:Pat):mPat v=zfj v.kids:=by cases v;rfl
theorem zot:∀l:List Pat,zfj l=l.length+(l.map mPat).sum
 | []=>rfl
 |v::r=>by simp only[zfj,zot r,List.length_cons,List.map_cons,List.sum_cons];omega
theorem zje {l:List Pat}{left:Int} (h:l.length≤1000000000000) (k0:0≤left) (k1:left≤1000000000000)
  (hf:∀v∈l,∀q:Int,0≤q→q≤1000000000000→FnD Tryz.prog 55 [.agg [.d (.i v.op),.d (.i v.ctor),.d (.i v.n),.d (.i v.m),.d (.i v.var),.d (zad v.kids)],.d (.i q)] [] (.d (.i (szr q (mPat v)))) []):
  FnD Tryz.prog 102 [.d (zad l),.d (.i left)] [] (.d (.i (szr left (zfj l)))) []:=by
 have z:=zbX (left:=left) (zfj l)
 rw[zot] at z ⊢
 refine bd Tryz.f102 27 [] [] fun w0 F0 own kept hk=>?_
 refine ar ?_ (by first|(constructor<;>omega)|(constructor<;>simp[Pat.cs_len]<;>omega))
 refine sq (fun h1 h1p h1s=>?_) fun h1 h1p h1s=>?_
 try simp only[Q,Pat.cs_len] at h1p
 refine rn0 (r1 rfl) (.eqd ?_)
 rotate_left
 try simp only[Q,Pat.cs_len] at h1p
 refine CWp.loopX (ι:=List (Pat)×List (Pat)×(Int)) hk (fun x=>[(5,.d (.i (x.1.length:Int))),(1,.d (.i x.2.2))]) [4,12,13,14,15,16,17,18,19,20,21,22,23,24,25] (fun x=>[]) (fun x=>x.1++x.2.1=l∧x.2.2=left-l.length-(x.1.map mPat).sum∧0≤x.2.2) (fun x=>x.2.1.length) ([],l,left-l.length) ⟨by simp,by simp,by simp[Pat.cs_len] at *;omega⟩ ⟨⟨_,rfl,(LeA.eqi (by first|rfl|(simp;done)|(simp[Pat.cs_len];done)))⟩,⟨⟨_,rfl,(LeA.eqi (by first|rfl|(simp;done)|(simp[Pat.cs_len];done)))⟩,trivial⟩⟩ trivial (fun x=>rfl) (fun x hg1=>?_)
 obtain⟨pre,rest,v⟩:=x
 dsimp only at hg1 ⊢
 refine evc [] [] ?_
 refine sq (fun h2 h2p h2s=>?_) fun h2 h2p h2s=>?_
 try simp only[Q,Pat.cs_len] at h2p
 rcases rest with _|⟨y,rest⟩
 ·exfalso;simp_all
 refine Walk.idx sl67 .none rfl rfl rfl rfl (Pat.cs_at' hg1.1) rfl ?_
 refine ev ?_
 refine Walk.call (cr:=[]) zrZ (hf y (by rw[←hg1.1];simp) _ (by omega) (by omega)) rfl .none rfl rfl (LeL.refl _) trivial rfl rfl rfl ?_
 refine ev ?_
 refine sq (fun h3 h3p h3s=>?_) fun h3 h3p h3s=>?_
 try simp only[Q,Pat.cs_len] at h3p
 refine rn0 (r1 rfl) (.eqd ?_)
 rotate_left
 try simp only[Q,Pat.cs_len] at h3p
 refine ar ?_ (by first|(constructor<;>omega)|(constructor<;>simp[Pat.cs_len]<;>omega))
 refine Exists.intro ((pre++[y],rest,szr v (mPat y))) ⟨⟨(by have hz:=hg1.1;rw[←hz];simp),(by have e:=zdH (f:=mPat) hg1.1;have z3:=zbX (left:=v) (mPat y);simp;omega)⟩,(by simp),Sub.x (by kernel_rfl) (by kernel_rfl) ⟨⟨_,rfl,(LeA.eqi (by first|rfl|(simp;done)|(simp[Pat.cs_len];done)))⟩,⟨⟨_,rfl,(LeA.eqi (by first|rfl|(simp;done)|(simp[Pat.cs_len];done)))⟩,trivial⟩⟩ (by kernel_rfl) (by kernel_rfl) trivial⟩
 try simp only[Q,Pat.cs_len] at h2p
 have hrest:rest=[]:=by
  rcases rest with _|⟨a,b⟩
  ·rfl
  ·exfalso;have hz:=congrArg List.length (hg1.1);simp only[List.length_append,List.length_cons,List.length_map] at hz;omega
 subst hrest
 refine rn0 (r1 rfl) (.eqd ?_)
 rotate_left
 all_goals (refine congrArg D.i ?_;first|omega|(have e:=zdH (f:=mPat) hg1.1;have z3:=zbX (left:=v) (mPat y);simp only[Pat.cs_len] at *;omega)|(rw[List.append_nil] at hg1;rw[hg1.1] at hg1;simp only[Pat.cs_len] at *;omega)|(simp only[Pat.cs_len] at *;omega))
theorem zgd:∀(n:Nat){v:Pat}{left:Int},v.size≤n→v.ok→0≤left→left≤1000000000000→FnD Tryz.prog 55 [.agg [.d (.i v.op),.d (.i v.ctor),.d (.i v.n),.d (.i v.m),.d (.i v.var),.d (zad v.kids)],.d (.i left)] [] (.d (.i (szr left (mPat v)))) []
 |0,v,left,h,_,_,_=>by rw[Pat.size_eq] at h;omega
 |n+1,v,left,h,hok,k0,k1=>by
  rw[Pat.size_eq] at h
  rw[Pat.ok_iff] at hok
  rw[zsA]
  have z:=zbX (left:=left) (zfj v.kids)
  refine bd Tryz.f55 12 [] [] fun w0 F0 own kept hk=>?_
  refine Walk.box (id:=3002) .none rfl rfl rfl rfl rfl rfl rfl ?_
  refine ev ?_
  refine Walk.call (cr:=[]) zsM (zje hok.1 k0 k1 (fun x hx q q0 q1=>zgd n (by have:=Pats.size_mem hx;omega) (Pats.ok_mem hok.2 x hx) q0 q1)) rfl .none rfl rfl (LeL.refl _) trivial rfl rfl rfl ?_
  refine ev ?_
  refine sq (fun h1 h1p h1s=>?_) fun h1 h1p h1s=>?_
  try simp only[Q] at h1p
  refine rn0 (r1 rfl) (.eqd ?_)
  rotate_left
  try simp only[Q] at h1p
  refine rn0 (r1 rfl) (.eqd ?_)
  rotate_left
  all_goals (refine congrArg D.i ?_;omega)
theorem zjf {l:List Pat} (h:l.length≤1000000000000)
  (hf:∀v∈l,FnD Tryz.prog 63 [.agg [.d (.i v.op),.d (.i v.ctor),.d (.i v.n),.d (.i v.m),.d (.i v.var),.d (zad v.kids)]] [] (.agg [.d (.i v.op),.d (.i v.ctor),.d (.i v.n),.d (.i v.m),.d (.i v.var),.ms 66 v.kids.length]) [(66,some (.tree (zah false (Pat.cs v.kids))))]):
  FnD Tryz.prog 114 [.d (zad l)] [] (.ms 66 l.length) [(66,some (.tree (zah false (Pat.cs l))))]:=by
 have hf2:∀v∈l,FnD Tryz.prog 63 [.agg [.d (.i v.op),.d (.i v.ctor),.d (.i v.n),.d (.i v.m),.d (.i v.var),.d (zad v.kids)]] [] (.agg [.d (.i v.op),.d (.i v.ctor),.d (.i v.n),.d (.i v.m),.d (.i v.var),.ms 67 v.kids.length]) [(67,some (.tree (zah false (Pat.cs v.kids))))]:=fun v hv=>FnD.out_ren (zaa _ _) rfl (hf v hv) 67
 refine bd Tryz.f114 23 [] [2,4] fun w0 F0 own kept hk=>?_
 refine Walk.make (id:=66) sl28 tz77 rfl (by decide) (zce rfl) .none rfl rfl rfl (by simp[Pat.cs_len];omega) (by simp[Pat.cs_len];omega) rfl rfl rfl ?_
 refine ev ?_
 refine CWp.boxTree 66 false rfl rfl (zet _ _ _) ?_
 refine evc [] [] ?_
 refine CWp.loopX (ι:=List (Pat)×List (Pat)) hk (fun x=>[(4,.d (.i (x.1.length:Int)))]) [8,9,10,11,12,13,14,15,16,17,18,19,20,21] (fun x=>[(66,some (.tree (zah false (Pat.cs x.1)++zaD x.2.length [.d (.i 0),.d (.i 0),.d (.i 0),.d (.i 0),.d (.i 0),.own false (.sl [])])))]) (fun x=>x.1++x.2=l) (fun x=>x.2.length) ([],l) (by simp) ⟨⟨_,rfl,(LeA.eqi (by first|rfl|(simp;done)|(simp_all;done)|omega))⟩,trivial⟩ ⟨(by first|rfl|(show some (Res.tree _)=some (Res.tree _);rw[zdO,List.append_assoc];rfl)|(show some (Res.tree _)=some (Res.tree _);simp[zbv,Pat.cs_len];rfl)),trivial⟩ (fun x=>rfl) (fun x hg1=>?_)
 obtain⟨pre,rest⟩:=x
 dsimp only at hg1 ⊢
 refine evc [] [2,4] ?_
 refine sq (fun h1 h1p h1s=>?_) fun h1 h1p h1s=>?_
 try simp only[Q,Pat.cs_len] at h1p
 rcases rest with _|⟨y,rest⟩
 ·exfalso;simp_all
 refine Walk.idx sl67 .none rfl rfl rfl rfl (Pat.cs_at' hg1) rfl ?_
 refine ev ?_
 refine Walk.call (cr:=[67]) zpL (hf2 y (by rw[←hg1];simp)) rfl .none rfl rfl (LeL.refl _) trivial rfl (by first|rfl|(simp only[zat,List.all_cons,List.all_nil,zaE,zaz,AV.idsL,AV.ids,zab,zaa,List.map_cons,List.map_nil];rfl)) (by first|rfl|(simp only[zak,occH,occE,Res.ids,List.cons_append,List.nil_append,AV.idsL,AV.ids,zab,zaa,zac,zan,List.map_cons,List.map_nil,upC];rfl)) ?_
 refine Walk.idxM sl28 .none rfl rfl rfl rfl (by first|omega|(simp[Pat.cs_len];omega)) ?_
 refine Walk.storeT ty77 .none rfl rfl rfl rfl rfl rfl (by simp) ((zf2 (zbn false _) rfl)) ?_
 refine tv ?_
 refine CWp.merge hk 66 (pre.length*6+5) 67 6 _ rfl (zbl (zbn false _) rfl) (by simp[zas,Pat.cs_len]) rfl Pat.cs_rows rfl rfl (zaH (zbn false _) (zct rfl)) ?_
 refine evc [] [] ?_
 refine ar ?_
 refine Exists.intro ((pre++[y],rest)) ⟨(by have hz:=hg1;rw[←hz];simp),(by simp),Sub.x (by kernel_rfl) (by kernel_rfl) ⟨⟨_,rfl,(LeA.eqi (by first|rfl|(simp;done)|(simp_all;done)|omega))⟩,trivial⟩ (by kernel_rfl) (by kernel_rfl) ⟨(by first|rfl|(show some (Res.tree _)=some (Res.tree _);rw[zdO,List.append_assoc];rfl)|(show some (Res.tree _)=some (Res.tree _);simp[zbv,Pat.cs_len];rfl)),trivial⟩⟩
 try simp only[Q,Pat.cs_len] at h1p
 have hrest:rest=[]:=by
  rcases rest with _|⟨a,b⟩
  ·rfl
  ·exfalso;have hz:=congrArg List.length (hg1);simp only[List.length_append,List.length_cons,List.length_map] at hz;omega
 subst hrest
 refine rn [(66,some (.tree (zah false (Pat.cs l))))] (r1 rfl) (LeA.msn ?_) ⟨rfl,rfl⟩ (SubH.get ⟨?_,trivial⟩) (zbj rfl)
 rotate_left 2
 all_goals (first|((first|rfl|(simp[Pat.cs_len];done));done)|(first|rfl|(rw[List.append_nil] at hg1;subst hg1;show some (Res.tree _)=some (Res.tree _);simp[zaD];done)))
theorem zew:∀(n:Nat){v:Pat},v.size≤n→v.ok→FnD Tryz.prog 63 [.agg [.d (.i v.op),.d (.i v.ctor),.d (.i v.n),.d (.i v.m),.d (.i v.var),.d (zad v.kids)]] [] (.agg [.d (.i v.op),.d (.i v.ctor),.d (.i v.n),.d (.i v.m),.d (.i v.var),.ms 66 v.kids.length]) [(66,some (.tree (zah false (Pat.cs v.kids))))]
 |0,v,h,_=>by rw[Pat.size_eq] at h;omega
 |n+1,v,h,hok=>by
  rw[Pat.size_eq] at h
  rw[Pat.ok_iff] at hok
  refine bd Tryz.f63 24 [] [] fun w0 F0 own kept hk=>?_
  refine Walk.box (id:=3001) .none rfl rfl rfl rfl rfl rfl rfl ?_
  refine Walk.alloc (id:=3002) tz77 rfl .none rfl rfl rfl rfl ?_
  refine tv ?_
  refine Walk.alloc (id:=3003) tz77 rfl .none rfl rfl rfl rfl ?_
  refine tv ?_
  refine Walk.store ty3 .none rfl rfl rfl rfl rfl rfl (by simp) rfl ?_
  refine tv ?_
  refine Walk.store ty3 .none rfl rfl rfl rfl rfl rfl (by simp) rfl ?_
  refine tv ?_
  refine Walk.store ty3 .none rfl rfl rfl rfl rfl rfl (by simp) rfl ?_
  refine tv ?_
  refine Walk.store ty3 .none rfl rfl rfl rfl rfl rfl (by simp) rfl ?_
  refine tv ?_
  refine Walk.store ty3 .none rfl rfl rfl rfl rfl rfl (by simp) rfl ?_
  refine tv ?_
  refine Walk.call (cr:=[66]) zsS (zjf hok.1 (fun x hx=>zew n (by have:=Pats.size_mem hx;omega) (Pats.ok_mem hok.2 x hx))) rfl .none rfl rfl (LeL.refl _) trivial rfl (by first|rfl|(simp only[zat,List.all_cons,List.all_nil,zaE,zaz,AV.idsL,AV.ids,zab,zaa,List.map_cons,List.map_nil];rfl)) (by first|rfl|(simp only[zak,occH,occE,Res.ids,List.cons_append,List.nil_append,AV.idsL,AV.ids,zab,zaa,zac,zan,List.map_cons,List.map_nil,upC];rfl)) ?_
  refine ev ?_
  refine Walk.store ty28 .none rfl rfl rfl rfl rfl rfl (by simp) rfl ?_
  refine tv ?_
  refine Walk.store ty77 .none rfl rfl rfl rfl rfl rfl (by simp) rfl ?_
  refine tv ?_
  focus (refine rn [(66,some (.tree (zah false (Pat.cs v.kids))))] (.cons (.cellA ty77 rfl rfl rfl) .nil) (.agg (.cons (.eqd ?_) (.cons (.eqd ?_) (.cons (.eqd ?_) (.cons (.eqd ?_) (.cons (.eqd ?_) (.cons (LeA.msn ?_) .nil))))))) ⟨rfl,rfl⟩ (SubH.get ⟨rfl,trivial⟩) (zbj rfl);all_goals (first|rfl|(simp[];done)|(simp_all;done)|(simp_all;omega)|omega))
theorem zjZ {v:Pat} (hok:v.ok):FnD Tryz.prog 63 [.agg [.d (.i v.op),.d (.i v.ctor),.d (.i v.n),.d (.i v.m),.d (.i v.var),.d (zad v.kids)]] [] (.agg [.d (.i v.op),.d (.i v.ctor),.d (.i v.n),.d (.i v.m),.d (.i v.var),.d (zad v.kids)]) []:=
 FnD.out_frz (k:=6) Pat.cs_rows (by simp[zio,zio.soleNL,Pat.cs_len]) (zew _ (Nat.le_refl _) hok)
theorem zcJ {l m:List Pat} (h:l.length≤1000000000000)
  (hf:∀a∈l,∀b:Pat,FnD Tryz.prog 40 [.agg [.d (.i a.op),.d (.i a.ctor),.d (.i a.n),.d (.i a.m),.d (.i a.var),.d (zad a.kids)],.agg [.d (.i b.op),.d (.i b.ctor),.d (.i b.n),.d (.i b.m),.d (.i b.var),.d (zad b.kids)]] [] (.d (.bool (zfS a b))) []):
  FnD Tryz.prog 13 [.d (zad l),.d (zad m)] [] (.d (.bool (zcx l m))) []:=by
 refine bd Tryz.f13 27 [] [] fun w0 F0 own kept hk=>?_
 refine sq (fun h1 h1p h1s=>?_) fun h1 h1p h1s=>?_
 try simp only[Q,Int.natCast_inj,Pat.cs_len] at h1p
 refine rn0 (r1 rfl) (.eqd ?_)
 rotate_left
 try simp only[Q,Int.natCast_inj,Pat.cs_len] at h1p
 refine CWp.loopX (ι:=Nat) hk (fun i=>[(5,.d (.i (i:Int)))]) [4,11,12,13,14,15,16,17,18,19,20,21,22,23,24,25,26] (fun i=>[]) (fun i=>i≤l.length∧∀i',i'<i→zfS (nth l i') (nth m i')=true) (fun i=>l.length-i) 0 ⟨by omega,fun _ h=>absurd h (by omega)⟩ ⟨⟨_,rfl,(LeA.eqi (by first|rfl|(simp;done)|(simp_all;done)|omega))⟩,trivial⟩ trivial (fun x=>rfl) (fun i hg1=>?_)
 refine evc [] [] ?_
 refine sq (fun h2 h2p h2s=>?_) fun h2 h2p h2s=>?_
 try simp only[Q,Int.natCast_inj,Pat.cs_len] at h2p
 refine Walk.idx sl28 .none rfl rfl rfl rfl (zaK (by omega)) rfl ?_
 refine evd [] [] ?_
 refine Walk.idx sl28 .none rfl rfl rfl rfl (zaK (by omega)) rfl ?_
 refine evd [] [] ?_
 refine Walk.call (cr:=[]) zrW (hf _ (zal (by omega)) _) rfl .none rfl rfl (LeL.refl _) trivial rfl rfl rfl ?_
 refine evd [] [] ?_
 refine dr ?_
 refine sq (fun h3 h3p h3s=>?_) fun h3 h3p h3s=>?_
 try simp only[Q,Int.natCast_inj,Pat.cs_len] at h3p
 refine rn0 (r1 rfl) (.eqd ?_)
 rotate_left
 try simp only[Q,Int.natCast_inj,Pat.cs_len] at h3p
 refine ar ?_
 refine Exists.intro (i+1) ⟨⟨by omega,za2 hg1.2 (by assumption)⟩,(by omega),Sub.x (by kernel_rfl) (by kernel_rfl) ⟨⟨_,rfl,(LeA.eqi (by first|rfl|(simp;done)|(simp_all;done)|omega))⟩,trivial⟩ (by kernel_rfl) (by kernel_rfl) trivial⟩
 try simp only[Q,Int.natCast_inj,Pat.cs_len] at h2p
 refine rn0 (r1 rfl) (.eqd ?_)
 rotate_left
 all_goals (refine congrArg D.bool ?_;first|(refine(zlJ ?_).symm;omega)|(refine(zlK (by omega) (fun x hx=>hg1.2 x (by omega))).symm)|(refine(zkz (i:=i) (by omega) ?_).symm;assumption))
theorem zev:∀(n:Nat){a b:Pat},a.size≤n→a.ok→FnD Tryz.prog 40 [.agg [.d (.i a.op),.d (.i a.ctor),.d (.i a.n),.d (.i a.m),.d (.i a.var),.d (zad a.kids)],.agg [.d (.i b.op),.d (.i b.ctor),.d (.i b.n),.d (.i b.m),.d (.i b.var),.d (zad b.kids)]] [] (.d (.bool (zfS a b))) []
 |0,a,b,h,_=>by rw[Pat.size_eq] at h;omega
 |n+1,a,b,h,hok=>by
  rw[Pat.size_eq] at h
  rw[Pat.ok_iff] at hok
  rw[zrv]
  refine bd Tryz.f40 36 [] [] fun w0 F0 own kept hk=>?_
  refine Walk.box (id:=3002) .none rfl rfl rfl rfl rfl rfl rfl ?_
  refine Walk.box (id:=3003) .none rfl rfl rfl rfl rfl rfl rfl ?_
  refine ev ?_
  refine sq (fun h1 h1p h1s=>?_) fun h1 h1p h1s=>?_
  try simp only[Q] at h1p
  focus (refine rn0 (r1 rfl) (.eqd ?_);all_goals (refine congrArg D.bool ?_;simp[h1s,h1p]))
  try simp only[Q] at h1p
  refine sq (fun h2 h2p h2s=>?_) fun h2 h2p h2s=>?_
  try simp only[Q] at h2p
  focus (refine rn0 (r1 rfl) (.eqd ?_);all_goals (refine congrArg D.bool ?_;simp[h1s,h1p,h2s,h2p]))
  try simp only[Q] at h2p
  refine sq (fun h3 h3p h3s=>?_) fun h3 h3p h3s=>?_
  try simp only[Q] at h3p
  focus (refine rn0 (r1 rfl) (.eqd ?_);all_goals (refine congrArg D.bool ?_;simp[h1s,h1p,h2s,h2p,h3s,h3p]))
  try simp only[Q] at h3p
  refine sq (fun h4 h4p h4s=>?_) fun h4 h4p h4s=>?_
  try simp only[Q] at h4p
  focus (refine rn0 (r1 rfl) (.eqd ?_);all_goals (refine congrArg D.bool ?_;simp[h1s,h1p,h2s,h2p,h3s,h3p,h4s,h4p]))
  try simp only[Q] at h4p
  refine sq (fun h5 h5p h5s=>?_) fun h5 h5p h5s=>?_
  try simp only[Q] at h5p
  focus (refine rn0 (r1 rfl) (.eqd ?_);all_goals (refine congrArg D.bool ?_;simp[h1s,h1p,h2s,h2p,h3s,h3p,h4s,h4p,h5s,h5p]))
  try simp only[Q] at h5p
  refine Walk.call (cr:=[]) zh7 (zcJ hok.1 (fun x hx y=>zev n (by have:=Pats.size_mem hx;omega) (Pats.ok_mem hok.2 x hx))) rfl .none rfl rfl (LeL.refl _) trivial rfl rfl rfl ?_
  refine ev ?_
  refine sq (fun h6 h6p h6s=>?_) fun h6 h6p h6s=>?_
  try simp only[Q] at h6p
  focus (refine rn0 (r1 rfl) (.eqd ?_);all_goals (refine congrArg D.bool ?_;simp[h1s,h1p,h2s,h2p,h3s,h3p,h4s,h4p,h5s,h5p,h6s,h6p]))
  try simp only[Q] at h6p
  focus (refine rn0 (r1 rfl) (.eqd ?_);all_goals (refine congrArg D.bool ?_;simp[h1s,h1p,h2s,h2p,h3s,h3p,h4s,h4p,h5s,h5p,h6s,h6p]))
mutual
def Pat.szM:Pat→Int
 | .mk _ _ _ _ _ ks=>5+Pats.szM ks
def Pats.szM:List Pat→Int
 | []=>0
 |v::r=>v.szM+Pats.szM r
end
mutual
def Pat.one (k:Int):Pat→Pat
 | .mk _ _ _ _ _ ks=> .mk k (k+1) (k+1+1) (k+1+1+1) (k+1+1+1+1) (Pats.one (k+1+1+1+1+1) ks)
def Pats.one (k:Int):List Pat→List Pat
 | []=>[]
 |v::r=>v.one k::Pats.one (k+v.szM) r
end
theorem Pats.szM_eq:∀l:List Pat,Pats.szM l=szL Pat.szM l
 | []=>rfl
 |v::r=>by simp only[Pats.szM,szL,Pats.szM_eq r]
theorem Pats.one_eq:∀(l:List Pat) (k:Int),Pats.one k l=mkL Pat.one Pat.szM k l
 | [],_=>rfl
 |v::r,k=>by simp only[Pats.one,mkL,Pats.one_eq r]
theorem Pat.szM_kids (v:Pat):v.szM=5+szL Pat.szM v.kids:=by cases v;simp only[Pat.szM,Pat.kids,Pats.szM_eq]
theorem Pat.one_kids (v:Pat) (k:Int):(v.one k).kids=mkL Pat.one Pat.szM (k+1+1+1+1+1) v.kids:=by cases v;simp only[Pat.one,Pat.kids,Pats.one_eq]
theorem Pat.one_sc (v:Pat) (k:Int):(Pat.one k v).op=k∧(Pat.one k v).ctor=k+1∧(Pat.one k v).n=k+1+1∧(Pat.one k v).m=k+1+1+1∧(Pat.one k v).var=k+1+1+1+1:=by cases v;exact⟨rfl,rfl,rfl,rfl,rfl⟩
mutual
theorem Pat.szM_nn:∀v:Pat,0≤v.szM
 | .mk _ _ _ _ _ ks=>by have:=Pats.szM_nn ks;simp only[Pat.szM];omega
theorem Pats.szM_nn:∀l:List Pat,0≤Pats.szM l
 | []=>by simp[Pats.szM]
 |v::r=>by have:=Pat.szM_nn v;have:=Pats.szM_nn r;simp only[Pats.szM];omega
end
mutual
theorem Pat.szM_le:∀v:Pat,v.szM≤5+5*(mPat v:Int)
 | .mk _ _ _ _ _ ks=>by have:=Pats.szM_le ks;simp only[Pat.szM,mPat];omega
theorem Pats.szM_le:∀l:List Pat,Pats.szM l≤5*(zfj l:Int)
 | []=>by simp[Pats.szM,zfj]
 |v::r=>by have:=Pat.szM_le v;have:=Pats.szM_le r;simp only[Pats.szM,zfj];omega
end
theorem zdz {l:List Pat}{k:Int} (hl:l=[]):FnD Tryz.prog 18 [.d (.sl []),.d (.i k)] [] (.d (.i (k+szL Pat.szM l))) []:=by
 subst hl
 refine bd Tryz.f18 55 [] [] fun w0 F0 own kept hk=>?_
 refine CWp.loopX (ι:=Unit) hk (fun x=>[(5,.d (.i 0)),(1,.d (.i k))]) [6,7,8,9,10,11,12,13,14,15,16,17,18,19,20,21,22,23,24,25,26,27,28,29,30,31,32,33,34,35,36,37,38,39,40,41,42,43,44,45,46,47,48,49,50,51,52,53] (fun x=>[]) (fun x=>True) (fun x=>0) () trivial ⟨⟨_,rfl,(LeA.eqi (by first|rfl|(simp;done)|(simp_all;done)|omega))⟩,⟨⟨_,rfl,(LeA.eqi (by first|rfl|(simp;done)|(simp_all;done)|omega))⟩,trivial⟩⟩ trivial (fun x=>rfl) (fun x hg1=>?_)
 refine evc [] [] ?_
 refine sq (fun h1 h1p h1s=>?_) fun h1 h1p h1s=>?_
 try simp only[Q] at h1p
 exfalso;revert h1;simp
 try simp only[Q] at h1p
 refine rn0 (r1 rfl) (.eqd ?_)
 rotate_left
 all_goals (first|rfl|(simp[szL];done))
theorem zgT {m:Bool}{n:Nat}{k:Int}{r:D}{xs ys:List (List D)} (h:FnD Tryz.prog 18 [.ms 46 n,.d (.i k)] [(46,some (.tree (zah m xs)))] (.d r) [(46,some (.tree (zah false ys)))]):
  FnD Tryz.prog 18 [.ms 47 n,.d (.i k)] [(47,some (.tree (zah m xs)))] (.d r) [(47,some (.tree (zah false ys)))]:=FnD.ren rfl (zaa _ _) (zaa _ _) h 47
theorem zfg:∀(n:Nat){m:Bool}{l:List Pat}{k:Int},Pats.size l≤n→0<k→k+szL Pat.szM l≤1000000000000→l.length≤1000000000000→Pats.ok l→FnD Tryz.prog 18 [.ms 46 l.length,.d (.i k)] [(46,some (.tree (zah m (Pat.cs l))))]
  (.d (.i (k+szL Pat.szM l))) [(46,some (.tree (zah false (Pat.cs (mkL Pat.one Pat.szM k l)))))]:=by
 intro n
 induction n with
 |zero=>
  intro m l k h h0 h1 hl hok
  have hl0:l=[]:=by
   cases l with
   |nil=>rfl
   |cons v r=>simp only[Pats.size,Pat.size_eq] at h;omega
  subst hl0
  refine bd Tryz.f18 55 [] [] fun w0 F0 own kept hk=>?_
  refine CWp.loopX (ι:=Unit) hk (fun x=>[(5,.d (.i 0)),(1,.d (.i k))]) [6,7,8,9,10,11,12,13,14,15,16,17,18,19,20,21,22,23,24,25,26,27,28,29,30,31,32,33,34,35,36,37,38,39,40,41,42,43,44,45,46,47,48,49,50,51,52,53] (fun x=>[]) (fun x=>True) (fun x=>0) () trivial ⟨⟨_,rfl,(LeA.eqi (by first|rfl|(simp;done)|(simp_all;done)|omega))⟩,⟨⟨_,rfl,(LeA.eqi (by first|rfl|(simp;done)|(simp_all;done)|omega))⟩,trivial⟩⟩ trivial (fun x=>rfl) (fun x hg1=>?_)
  refine evc [] [] ?_
  refine sq (fun h1 h1p h1s=>?_) fun h1 h1p h1s=>?_
  try simp only[Q] at h1p
  exfalso;revert h1;simp
  try simp only[Q] at h1p
  refine rn [(46,some (.tree (zah false (Pat.cs (mkL Pat.one Pat.szM k []))))) ] (r1 rfl) (.eqd ?_) ⟨rfl,rfl⟩ (SubO.get ⟨.inr ?_,⟨.inl rfl,trivial⟩⟩) (zbj rfl)
  rotate_left 2
  all_goals (first|((first|rfl|(simp[szL];done));done)|(rfl))
 |succ n ih=>
  intro m l k h h0 h1 hl hok
  refine bd Tryz.f18 55 [51] [3,14,1000009] fun w0 F0 own kept hk=>?_
  refine CWp.loopX (ι:=List (Pat)×List (Pat)×(Int)) hk (fun x=>[(5,.d (.i (x.1.length:Int))),(1,.d (.i x.2.2))]) [6,7,8,9,10,11,12,13,14,15,16,17,18,19,20,21,22,23,24,25,26,27,28,29,30,31,32,33,34,35,36,37,38,39,40,41,42,43,44,45,46,47,48,49,50,51,52,53] (fun x=>[(46,some (.tree (zah false (Pat.cs (mkL Pat.one Pat.szM k x.1))++zah m (Pat.cs x.2.1))))]) (fun x=>x.1++x.2.1=l∧x.2.2=k+szL Pat.szM x.1) (fun x=>x.2.1.length) ([],l,k) ⟨by simp,by simp[szL]⟩ ⟨⟨_,rfl,(LeA.eqi (by first|rfl|(simp;done)|omega|(refine Eq.trans (b:=v+Pat.szM y) ?_ rfl;omega)))⟩,⟨⟨_,rfl,(LeA.eqi (by first|rfl|(simp;done)|omega|(refine Eq.trans (b:=v+Pat.szM y) ?_ rfl;omega)))⟩,trivial⟩⟩ ⟨(by first|rfl|(show some (Res.tree _)=some (Res.tree _);rw[zcr,zdO,←hg1.2,Pat.one_kids];simp only[Pat.one_sc y v,List.append_assoc,List.cons_append,List.nil_append])),trivial⟩ (fun x=>rfl) (fun x hg1=>?_)
  obtain⟨pre,rest,v⟩:=x
  dsimp only at hg1 ⊢
  refine evc [51] [3,14,1000009] ?_
  refine cq (fun h1 h1p h1s=>?_) fun h1 h1p h1s=>?_
  try simp only[Q] at h1p
  rcases rest with _|⟨y,rest⟩
  ·exfalso;simp_all
  have hsp:=ze4 (sz:=Pat.szM) hg1.1;have hnn:=za8 (l:=rest) Pat.szM_nn;have hnp:=za8 (l:=pre) Pat.szM_nn;have hys:=Pat.szM_kids y;have hya:=za8 (l:=y.kids) Pat.szM_nn;have hv:=hg1.2
  refine CWp.reTree 46 (zah false (Pat.cs (mkL Pat.one Pat.szM k pre))++(.d (.i y.op):: .d (.i y.ctor):: .d (.i y.n):: .d (.i y.m):: .d (.i y.var):: .own m (zad y.kids)::zah m (Pat.cs rest))) rfl (by rw[znC]) ?_
  refine evc [51] [3,14,1000009] ?_
  refine Walk.idxM sl28 .none rfl rfl rfl rfl (by first|omega|(simp[Pat.cs_nil,Pat.cs_len,Pat.cs];omega)) ?_
  refine evs [51] [] ?_
  refine Walk.storeT ty3 .none rfl rfl rfl rfl rfl rfl (by simp) ((zaH ((zbn false _).trans (by rw[zas])) zhX)) ?_
  refine tv ?_
  refine ar ?_
  refine Walk.idxM sl28 .none rfl rfl rfl rfl (by first|omega|(simp[Pat.cs_nil,Pat.cs_len,Pat.cs];omega)) ?_
  refine evs [51] [] ?_
  refine Walk.storeT ty3 .none rfl rfl rfl rfl rfl rfl (by simp) ((zaH ((zbn false _).trans (by rw[zas])) zdA)) ?_
  refine tv ?_
  refine ar ?_
  refine Walk.idxM sl28 .none rfl rfl rfl rfl (by first|omega|(simp[Pat.cs_nil,Pat.cs_len,Pat.cs];omega)) ?_
  refine evs [51] [] ?_
  refine Walk.storeT ty3 .none rfl rfl rfl rfl rfl rfl (by simp) ((zaH ((zbn false _).trans (by rw[zas])) zjN)) ?_
  refine tv ?_
  refine ar ?_
  refine Walk.idxM sl28 .none rfl rfl rfl rfl (by first|omega|(simp[Pat.cs_nil,Pat.cs_len,Pat.cs];omega)) ?_
  refine evs [51] [] ?_
  refine Walk.storeT ty3 .none rfl rfl rfl rfl rfl rfl (by simp) ((zaH ((zbn false _).trans (by rw[zas])) zpu)) ?_
  refine tv ?_
  refine ar ?_
  refine Walk.idxM sl28 .none rfl rfl rfl rfl (by first|omega|(simp[Pat.cs_nil,Pat.cs_len,Pat.cs];omega)) ?_
  refine evs [51] [] ?_
  refine Walk.storeT ty3 .none rfl rfl rfl rfl rfl rfl (by simp) ((zaH ((zbn false _).trans (by rw[zas])) zpv)) ?_
  refine tv ?_
  refine ar ?_
  by_cases hs2:y.kids=[]
  refine CWp.emptyCell 46 (pre.length*6+5) rfl (zbl ((zbn false _).trans (by rw[zas])) rfl) (by simp[hs2,Pat.cs_nil,Pat.cs_len,Pat.cs]) (zaH ((zbn false _).trans (by rw[zas])) ze1) ?_
  refine evc [51] [] ?_
  refine Walk.idxM sl28 .none rfl rfl rfl rfl (by first|omega|(simp[Pat.cs_nil,Pat.cs_len,Pat.cs];omega)) ?_
  refine evs [51] [] ?_
  refine Walk.loadT ty28 .none rfl rfl rfl ((by rw[zbl ((zbn false _).trans (by rw[zas])) rfl];rfl)) ?_
  refine evs [51] [] ?_
  refine Walk.call (cr:=[]) zjD (zdz hs2) rfl .none rfl rfl (LeL.refl _) trivial rfl (by first|rfl|(simp only[zat,List.all_cons,List.all_nil,zaE,zaz,AV.idsL,AV.ids,zab,zaa,List.map_cons,List.map_nil];rfl)) (by first|rfl|(simp only[zak,occH,occE,Res.ids,List.cons_append,List.nil_append,AV.idsL,AV.ids,zab,zaa,zac,zan,List.map_cons,List.map_nil,upC];rfl)) ?_
  refine evs [51] [] ?_
  refine CWp.fullCell 46 (pre.length*6+5) false rfl (xs:=Pat.cs (mkL Pat.one Pat.szM (v+1+1+1+1+1) y.kids)) rfl (zbl ((zbn false _).trans (by rw[zas])) rfl) (by simp[hs2,mkL,Pat.cs]) (zaH ((zbn false _).trans (by rw[zas])) ze1) ?_
  refine evc [51] [] ?_
  refine ar ?_
  refine Exists.intro ((pre++[y],rest,v+Pat.szM y)) ⟨⟨(by have hz:=hg1.1;rw[←hz];simp),(by show v+Pat.szM y=_;rw[zdn,hg1.2];omega)⟩,(by simp),Sub.x (by kernel_rfl) (by kernel_rfl) ⟨⟨_,rfl,(LeA.eqi (by first|rfl|(simp;done)|omega|(refine Eq.trans (b:=v+Pat.szM y) ?_ rfl;omega)))⟩,⟨⟨_,rfl,(LeA.eqi (by first|rfl|(simp;done)|omega|(refine Eq.trans (b:=v+Pat.szM y) ?_ rfl;omega)))⟩,trivial⟩⟩ (by kernel_rfl) (by kernel_rfl) ⟨(by first|rfl|(show some (Res.tree _)=some (Res.tree _);rw[zcr,zdO,←hg1.2,Pat.one_kids];simp only[Pat.one_sc y v,List.append_assoc,List.cons_append,List.nil_append])),trivial⟩⟩
  refine CWp.split 46 (pre.length*6+5) 47 rfl (zbl ((zbn false _).trans (by rw[zas])) rfl) (by simp[hs2,Pat.cs_nil,Pat.cs_len,Pat.cs]) (by first|rfl|(simp only[zak,occH,occE,Res.ids,List.cons_append,List.nil_append,AV.idsL,AV.ids,zab,zaa,zac,zan,List.map_cons,List.map_nil,upC];rfl)) (zaH ((zbn false _).trans (by rw[zas])) ze1) ?_
  refine evc [51] [] ?_
  refine Walk.idxM sl28 .none rfl rfl rfl rfl (by first|omega|(simp[Pat.cs_nil,Pat.cs_len,Pat.cs];omega)) ?_
  refine evs [51] [] ?_
  refine Walk.loadT ty28 .none rfl rfl rfl ((by rw[zbl ((zbn false _).trans (by rw[zas])) rfl];rfl)) ?_
  refine evs [51] [] ?_
  refine Walk.call (cr:=[]) zjD (zgT (ih (l:=y.kids) (k:=v+1+1+1+1+1) (by have hm:=Pats.size_mem (v:=y) (l:=l) (by rw[←hg1.1];simp);rw[Pat.size_eq] at hm;omega) (by omega) (by omega) ((Pat.ok_iff y).1 (Pats.ok_mem hok y (by rw[←hg1.1];simp))).1 ((Pat.ok_iff y).1 (Pats.ok_mem hok y (by rw[←hg1.1];simp))).2)) rfl .none rfl rfl (.cons (LeA.msn (by first|rfl|(simp[Pat.cs_nil,Pat.cs_len,Pat.cs];done))) (.cons (.refl _) .nil)) ⟨by first|rfl|(simp;rfl),trivial⟩ rfl (by first|rfl|(simp only[zat,List.all_cons,List.all_nil,zaE,zaz,AV.idsL,AV.ids,zab,zaa,List.map_cons,List.map_nil];rfl)) (by first|rfl|(simp only[zak,occH,occE,Res.ids,List.cons_append,List.nil_append,AV.idsL,AV.ids,zab,zaa,zac,zan,List.map_cons,List.map_nil,upC];rfl)) ?_
  refine evs [51] [] ?_
  refine CWp.merge hk 46 (pre.length*6+5) 47 6 _ rfl (zbl ((zbn false _).trans (by rw[zas])) rfl) (by simp[zas,Pat.cs_nil,Pat.cs_len,Pat.cs]) rfl Pat.cs_rows rfl rfl (zaH ((zbn false _).trans (by rw[zas])) ze1) ?_
  refine evc [51] [] ?_
  refine ar ?_
  refine Exists.intro ((pre++[y],rest,v+Pat.szM y)) ⟨⟨(by have hz:=hg1.1;rw[←hz];simp),(by show v+Pat.szM y=_;rw[zdn,hg1.2];omega)⟩,(by simp),Sub.x (by kernel_rfl) (by kernel_rfl) ⟨⟨_,rfl,(LeA.eqi (by first|rfl|(simp;done)|omega|(refine Eq.trans (b:=v+Pat.szM y) ?_ rfl;omega)))⟩,⟨⟨_,rfl,(LeA.eqi (by first|rfl|(simp;done)|omega|(refine Eq.trans (b:=v+Pat.szM y) ?_ rfl;omega)))⟩,trivial⟩⟩ (by kernel_rfl) (by kernel_rfl) ⟨(by first|rfl|(show some (Res.tree _)=some (Res.tree _);rw[zcr,zdO,←hg1.2,Pat.one_kids];simp only[Pat.one_sc y v,List.append_assoc,List.cons_append,List.nil_append])),trivial⟩⟩
  try simp only[Q] at h1p
  have hrest:rest=[]:=by
   rcases rest with _|⟨a,b⟩
   ·rfl
   ·exfalso;have hz:=congrArg List.length (hg1.1);simp only[List.length_append,List.length_cons,List.length_map] at hz;omega
  subst hrest
  refine evc [51] [3,14,1000009] ?_
  refine rn [(46,some (.tree (zah false (Pat.cs (mkL Pat.one Pat.szM k l)))))] (r1 rfl) (.eqd ?_) ⟨rfl,rfl⟩ (SubO.get ⟨.inr ?_,⟨.inl rfl,trivial⟩⟩) (zbj rfl)
  rotate_left 2
  all_goals (first|((first|rfl|(obtain⟨hg1,hv⟩:=hg1;rw[List.append_nil] at hg1;subst hg1;rw[hv]));done)|(first|rfl|(obtain⟨hg1,_⟩:=hg1;rw[List.append_nil] at hg1;subst hg1;show some (Res.tree _)=some (Res.tree _);simp[zbv,Pat.cs];done)))
structure Vt where
 var:Int
 ty:Ty
 deriving DecidableEq,Inhabited
abbrev Vt.c (t:Vt):List D:=[.i t.var,.i t.ty.data,.i t.ty.index]
abbrev zc3 (l:List Vt):D:= .sl (l.map Vt.c)
def zaA (w:List Data) (t:Ty):List Int:=if t.data = -1 then [] else zbo w t
def zag (w:List Data) (t:Ty) (p:Pat):List Ty:=if p.op=4 then zaj w t p.ctor else if p.op=5 then [t,t] else if p.op=6 then [t] else []
def ownP (w:List Data) (t:Ty) (p:Pat):Bool:=decide (((p.op=2∨p.op=6)→0≤p.var∧p.var≤5)∧(¬(p.op=2∨p.op=6)→p.var=0)∧(p.op≠3→p.n=0∧p.m=0)∧(p.op≠4→p.ctor=0)∧
 (p.op=1∨p.op=2∨p.op=5∨p.op=6∨(p.op=3∧t.data = -1∧0≤p.n∧p.n≤p.m∧p.m≤9)∨(p.op=4∧p.ctor∈zaA w t)))
def okP (w:List Data) (t:Ty) (p:Pat):Bool:=ownP w t p&&decide (p.kids.length=(zag w t p).length)
def zcU (w:List Data) (t:Ty) (p:Pat):List Ty:=if p.op=4∧p.ctor∉zaA w t then [] else zag w t p
def zaw (w:List Data):Nat→Ty→Pat→Bool
 |0,_,_=>false
 |n+1,t,p=>ownP w t p&&all2 (zaw w n) (zag w t p) p.kids
def zaJ (t:Ty) (p:Pat):List Vt:=if p.op=2∨p.op=6 then [⟨p.var,t⟩] else []
def zbg (f:Ty→Pat→List Vt):List Ty→List Pat→List Vt
 |a::r,b::s=>f a b++zbg f r s
 |_,_=>[]
def zdC (w:List Data) (t:Ty) (p:Pat):List Ty:=if p.op=5 then (zag w t p).take 1 else zag w t p
def zaO (w:List Data):Nat→Ty→Pat→List Vt
 |0,_,_=>[]
 |n+1,t,p=>zaJ t p++zbg (zaO w n) (zdC w t p) p.kids
def zbR (l:List Vt) (n:Int):Int:=idxF (fun v=>decide (v.var=n)) l 0
def zdM (a b:List Vt):Bool:=a.all (fun v=>decide (0≤zbR b v.var∧(nth b (zbR b v.var).toNat).ty=v.ty))&&decide (a.length=b.length)
def znM (l:List Vt):Bool:=(List.range l.length).all fun(i:Nat)=>decide (zbR l (nth l i).var=(i:Int))
def zee (a b:List Vt):Bool:=decide (a.length=b.length)&& !a.any fun v=> !decide (v∈b)
def zcT (l:List Vt):Bool:=decide (l.map Vt.var).Nodup
def linP (w:List Data):Nat→Ty→Pat→Bool
 |0,_,_=>true
 |n+1,t,p=>all2 (linP w n) (zag w t p) p.kids&&(if p.op=5 then zdM (zaO w n t (nth p.kids 0)) (zaO w n t (nth p.kids 1)) else znM (zaO w (n+1) t p))
theorem ze7 (l:List Vt) (n:Int):(zbR l n = -1∧∀v∈l,v.var≠n)∨∃k:Nat,zbR l n=k∧k<l.length∧(nth l k).var=n∧∀j,j<k→(nth l j).var≠n:=by
 have key:∀(l:List Vt) (i:Nat),(idxF (fun v=>decide (v.var=n)) l i = -1∧∀v∈l,v.var≠n)∨∃k:Nat,idxF (fun v=>decide (v.var=n)) l i=((i+k:Nat):Int)∧k<l.length∧(nth l k).var=n∧∀j,j<k→(nth l j).var≠n:=by
  intro l
  induction l with
  |nil=>intro i;exact .inl ⟨rfl,by simp⟩
  |cons x r ih=>
   intro i
   unfold idxF
   by_cases h:x.var=n
   ·exact .inr ⟨0,by simp[h],by simp,by simpa [nth] using h,fun j hj=>absurd hj (by omega)⟩
   ·rcases ih (i+1) with ⟨h1,h2⟩|⟨k,h1,h2,h3,h4⟩
    ·exact .inl ⟨by simpa [h] using h1,fun v hv=>by rcases List.mem_cons.1 hv with rfl|hv;exact h;exact h2 v hv⟩
    ·refine .inr ⟨k+1, ?_,by simpa using h2,by simpa [nth] using h3,fun j hj=>?_⟩
     ·simp only[h,decide_false,Bool.false_eq_true,if_false];rw[h1];congr 1;omega
     ·cases j with
      |zero=>simpa [nth] using h
      |succ j=>simpa [nth] using h4 j (by omega)
 rcases key l 0 with h|⟨k,h1,h2⟩
 ·exact .inl h
 ·exact .inr ⟨k,by unfold zbR;simpa using h1,h2⟩
theorem zne {l:List Vt}:(l.map Vt.var).Nodup↔∀i j,i<j→j<l.length→(nth l i).var≠(nth l j).var:=by
 unfold List.Nodup
 rw[List.pairwise_iff_getElem]
 constructor
 ·intro h i j hij hj
  have:=h i j (by simp;omega) (by simpa using hj) hij
  simp only[List.getElem_map] at this
  rw[za9 (by omega),za9 hj];exact this
 ·intro h i j hi hj hij
  simp only[List.length_map] at hi hj
  simp only[List.getElem_map]
  rw[←za9 hi,←za9 hj];exact h i j hij hj
theorem zjg {l:List Vt} (h:(l.map Vt.var).Nodup){i j:Nat} (hi:i<l.length) (hj:j<l.length) (he:(nth l i).var=(nth l j).var):i=j:=by
 have h1:=zne.1 h
 rcases Nat.lt_trichotomy i j with h2|h2|h2
 ·exact absurd he (h1 i j h2 hj)
 ·exact h2
 ·exact absurd he.symm (h1 j i h2 hi)
theorem zoe (l:List Vt):znM l=zcT l:=by
 unfold zcT
 by_cases h:(l.map Vt.var).Nodup
 ·rw[decide_eq_true h]
  refine zeh (fun i hi=>decide_eq_true ?_)
  rcases ze7 l (nth l i).var with ⟨_,h2⟩|⟨k,h1,h2,h3,h4⟩
  ·exact absurd rfl (h2 _ (zal hi))
  ·rw[h1,zjg h h2 hi h3]
 ·rw[decide_eq_false h]
  cases hd:znM l with
  |false=>rfl
  |true=>
   refine absurd ?_ h
   rw[zne]
   intro i j hij hj he
   have h1:=List.all_eq_true.1 hd i (List.mem_range.2 (by omega))
   have h2:=List.all_eq_true.1 hd j (List.mem_range.2 hj)
   simp only[decide_eq_true_eq] at h1 h2
   rw[he,h2] at h1
   omega
theorem zpF {a b:List Vt} (hb:zcT b=true):zdM a b=zee a b:=by
 unfold zcT at hb
 simp only[decide_eq_true_eq] at hb
 unfold zdM zee
 rw[Bool.and_comm]
 congr 1
 rw[Bool.eq_iff_iff]
 simp only[List.all_eq_true,Bool.not_eq_true',List.any_eq_false,decide_eq_true_eq,Bool.not_eq_true,decide_eq_false_iff_not,Decidable.not_not]
 refine forall_congr' fun v=>forall_congr' fun hv=>?_
 rcases ze7 b v.var with ⟨h1,h2⟩|⟨k,h1,h2,h3,h4⟩
 ·rw[h1]
  exact⟨fun h=>absurd h.1 (by omega),fun h=>absurd rfl (h2 v h)⟩
 ·rw[h1]
  simp only[Int.toNat_natCast]
  constructor
  ·rintro ⟨_,h⟩
   have:nth b k=v:=by
    have e:∀x y:Vt,x.var=y.var→x.ty=y.ty→x=y:=fun x y h1 h2=>by cases x;cases y;simp_all
    exact e _ _ h3 h
   rw[←this];exact zal h2
  ·intro h
   refine⟨by omega, ?_⟩
   obtain⟨j,hj,he⟩:=List.getElem_of_mem h
   have h5:nth b j=v:=by rw[za9 hj];exact he
   have:=zjg hb h2 hj (by rw[h3,h5])
   rw[this,h5]
def zbA (g:Ty→Pat→Int→Option (List Vt)×Int) (or:Bool):List Ty→List Pat→Nat→List Vt→Int→Option (List Vt)×Int
 |a::r,b::s,i,acc,c=>match (g a b c).1 with
  |none=>(none,(g a b c).2)
  |some l=>if or=true∧i=1 then (if zee acc l=true then zbA g or r s (i+1) acc (g a b c).2 else (none,(g a b c).2)) else zbA g or r s (i+1) (acc++l) (g a b c).2
 |_,_,_,acc,c=>(some acc,c)
def finV (r:Option (List Vt)×Int):Option (List Vt)×Int:=match r.1 with
 |none=>r
 |some l=>if zcT l=true then r else (none,r.2)
def zaV (w:List Data):Nat→Ty→Pat→Int→Option (List Vt)×Int
 |0,_,_,c=>(none,c+1)
 |n+1,t,p,c=>if 60<c+1 then (none,c+1) else if okP w t p=true then finV (zbA (zaV w n) (decide (p.op=5)) (zag w t p) p.kids 0 (zaJ t p) (c+1)) else (none,c+1)
def zb5 (w:List Data) (n:Nat) (t:Ty) (p:Pat) (c:Int):Bool:=zaw w n t p&&(decide (c+(p.size:Int)≤60)&&linP w n t p)
theorem zhk (w:List Data):∀(n:Nat) (t:Ty) (p:Pat),zaw w n t p=true→linP w n t p=true→zcT (zaO w n t p)=true
 |0,t,p,h,_=>by simp[zaw] at h
 |n+1,t,p,h,hl=>by
  by_cases h5:p.op=5
  ·simp only[zaw,linP,Bool.and_eq_true,if_pos h5] at h hl
   have e1:zag w t p=[t,t]:=by unfold zag;rw[if_neg (by omega),if_pos h5]
   rw[e1] at h hl
   rcases hk:p.kids with _|⟨x,_|⟨y,_|⟨z,r⟩⟩⟩
   ·rw[hk] at h;simp[all2] at h
   ·rw[hk] at h;simp[all2] at h
   ·rw[hk] at h hl
    simp only[all2,Bool.and_eq_true,and_true] at h hl
    have:=zhk w n t x h.2.1 hl.1.1
    have e2:zaO w (n+1) t p=zaO w n t x:=by
     simp only[zaO,zaJ,zdC,e1,hk,if_pos h5]
     rw[if_neg (by omega)]
     simp[zbg]
    rw[e2];exact this
   ·rw[hk] at h;simp[all2] at h
  ·simp only[linP,if_neg h5,Bool.and_eq_true] at hl
   rw[←zoe];exact hl.2
theorem zoK {w:List Data}{n:Nat} (ih:∀t p c,((zaV w n t p c).1=if zb5 w n t p c=true then some (zaO w n t p) else none)∧(zb5 w n t p c=true→(zaV w n t p c).2=c+p.size)):
  ∀(a:List Ty) (b:List Pat) (i:Nat) (acc:List Vt) (c:Int),a.length=b.length→c≤60→
   ((zbA (zaV w n) false a b i acc c).1=if (all2 (zaw w n) a b&&(decide (c+(Pats.size b:Int)≤60)&&all2 (linP w n) a b))=true then some (acc++zbg (zaO w n) a b) else none)∧
   ((all2 (zaw w n) a b&&(decide (c+(Pats.size b:Int)≤60)&&all2 (linP w n) a b))=true→(zbA (zaV w n) false a b i acc c).2=c+Pats.size b)
 | [],[],i,acc,c,_,hc=>by simp[zbA,all2,Pats.size,zbg,hc]
 |x::r,y::s,i,acc,c,hl,hc=>by
  obtain⟨h1,h2⟩:=ih x y c
  have hps:Pats.size (y::s)=y.size+Pats.size s:=rfl
  simp only[zbA,zbg]
  by_cases hw:zb5 w n x y c=true
  ·have h3:=h2 hw
   rw[if_pos hw] at h1
   rw[h1]
   simp only[Bool.false_eq_true,false_and,if_false]
   have h4:=hw
   simp only[zb5,Bool.and_eq_true,decide_eq_true_eq] at h4
   obtain⟨h5,h6⟩:=zoK ih r s (i+1) (acc++zaO w n x y) (zaV w n x y c).2 (by simpa using hl) (by omega)
   have e:(all2 (zaw w n) (x::r) (y::s)&&(decide (c+(Pats.size (y::s):Int)≤60)&&all2 (linP w n) (x::r) (y::s)))=(all2 (zaw w n) r s&&(decide ((zaV w n x y c).2+(Pats.size s:Int)≤60)&&all2 (linP w n) r s)):=by
    rw[all2,all2,h4.1,h4.2.2,h3]
    simp only[Bool.true_and]
    congr 2
    exact decide_eq_decide.2 (by omega)
   rw[e]
   refine⟨?_,fun hx=>?_⟩
   ·rw[h5,List.append_assoc]
   ·rw[h6 hx,h3];omega
  ·rw[if_neg hw] at h1
   rw[h1]
   simp only
   have hf:¬(all2 (zaw w n) (x::r) (y::s)&&(decide (c+(Pats.size (y::s):Int)≤60)&&all2 (linP w n) (x::r) (y::s)))=true:=fun h=>by
    simp only[all2,Bool.and_eq_true,decide_eq_true_eq] at h
    refine hw ?_
    simp only[zb5,Bool.and_eq_true,decide_eq_true_eq]
    refine⟨h.1.1, ?_,h.2.2.1⟩
    have:=h.2.1
    omega
   rw[if_neg hf]
   exact⟨rfl,fun h=>absurd h hf⟩
 | [],_::_,_,_,_,hl,_=>by simp at hl
 |_::_,[],_,_,_,hl,_=>by simp at hl
theorem zfE (w:List Data):∀(n:Nat) (t:Ty) (p:Pat) (c:Int),((zaV w n t p c).1=if zb5 w n t p c=true then some (zaO w n t p) else none)∧(zb5 w n t p c=true→(zaV w n t p c).2=c+p.size)
 |0,t,p,c=>by simp[zaV,zb5,zaw]
 |n+1,t,p,c=>by
  have hsz:=Pat.size_eq p
  unfold zaV
  by_cases h1:60<c+1
  ·have hf:¬zb5 w (n+1) t p c=true:=fun h=>by
    simp only[zb5,Bool.and_eq_true,decide_eq_true_eq] at h;omega
   rw[if_pos h1,if_neg hf]
   exact⟨rfl,fun h=>absurd h hf⟩
  rw[if_neg h1]
  by_cases h2:okP w t p=true
  ·rw[if_pos h2]
   have h2':=h2
   simp only[okP,Bool.and_eq_true,decide_eq_true_eq] at h2'
   by_cases h5:p.op=5
   ·have e1:zag w t p=[t,t]:=by unfold zag;rw[if_neg (by omega),if_pos h5]
    have e3:zaJ t p=[]:=by unfold zaJ;rw[if_neg (by omega)]
    rw[e1] at h2'
    rcases hk:p.kids with _|⟨x,_|⟨y,_|⟨z,r⟩⟩⟩
    ·rw[hk] at h2';simp at h2'
    ·rw[hk] at h2';simp at h2'
    ·have e4:zaO w (n+1) t p=zaO w n t x:=by
      simp only[zaO,zdC,e1,hk,if_pos h5,e3]
      simp[zbg]
     have e5:zb5 w (n+1) t p c=((zaw w n t x&&zaw w n t y)&&(decide (c+1+(x.size:Int)+y.size≤60)&&((linP w n t x&&linP w n t y)&&zdM (zaO w n t x) (zaO w n t y)))):=by
      simp only[zb5,zaw,linP,h2'.1,e1,hk,all2,if_pos h5,Bool.and_true,Bool.true_and,nth,List.getD_cons_zero,List.getD_cons_succ]
      congr 2
      refine decide_eq_decide.2 ?_
      rw[hsz,hk];simp only[Pats.size];push_cast;omega
     rw[e4,e5,e1,e3]
     obtain⟨a1,a2⟩:=zfE w n t x (c+1)
     simp only[zbA,h5,decide_true]
     by_cases w1:zb5 w n t x (c+1)=true
     ·have a3:=a2 w1
      rw[if_pos w1] at a1
      have b1:=w1
      simp only[zb5,Bool.and_eq_true,decide_eq_true_eq] at b1
      obtain⟨d1,d2⟩:=zfE w n t y (zaV w n t x (c+1)).2
      rw[a1]
      simp only[true_and,Nat.zero_ne_one,if_false,List.nil_append]
      by_cases w2:zb5 w n t y (zaV w n t x (c+1)).2=true
      ·have d3:=d2 w2
       rw[if_pos w2] at d1
       have b2:=w2
       simp only[zb5,Bool.and_eq_true,decide_eq_true_eq] at b2
       rw[d1]
       simp only[Nat.zero_add,if_true]
       have n1:=zhk w n t x b1.1 b1.2.2
       have n2:=zhk w n t y b2.1 b2.2.2
       have e6:((zaw w n t x&&zaw w n t y)&&(decide (c+1+(x.size:Int)+y.size≤60)&&((linP w n t x&&linP w n t y)&&zdM (zaO w n t x) (zaO w n t y))))=zee (zaO w n t x) (zaO w n t y):=by
        rw[b1.1,b2.1,b1.2.2,b2.2.2,zpF n2,decide_eq_true (by omega)];simp
       rw[e6]
       by_cases hs:zee (zaO w n t x) (zaO w n t y)=true
       ·rw[if_pos hs,if_pos hs]
        simp only[finV,n1,if_true]
        refine⟨trivial,fun _=>?_⟩
        rw[d3,a3,hsz,hk];simp only[Pats.size];push_cast;omega
       ·rw[if_neg hs,if_neg hs]
        simp only[finV]
        exact⟨trivial,fun h=>absurd h hs⟩
      ·rw[if_neg w2] at d1
       rw[d1]
       simp only[finV]
       have hf:¬((zaw w n t x&&zaw w n t y)&&(decide (c+1+(x.size:Int)+y.size≤60)&&((linP w n t x&&linP w n t y)&&zdM (zaO w n t x) (zaO w n t y))))=true:=fun h=>by
        simp only[Bool.and_eq_true,decide_eq_true_eq] at h
        refine w2 ?_
        simp only[zb5,Bool.and_eq_true,decide_eq_true_eq]
        exact⟨h.1.2,by omega,h.2.2.1.2⟩
       rw[if_neg hf]
       exact⟨rfl,fun h=>absurd h hf⟩
     ·rw[if_neg w1] at a1
      rw[a1]
      simp only[finV]
      have hf:¬((zaw w n t x&&zaw w n t y)&&(decide (c+1+(x.size:Int)+y.size≤60)&&((linP w n t x&&linP w n t y)&&zdM (zaO w n t x) (zaO w n t y))))=true:=fun h=>by
       simp only[Bool.and_eq_true,decide_eq_true_eq] at h
       refine w1 ?_
       simp only[zb5,Bool.and_eq_true,decide_eq_true_eq]
       exact⟨h.1.1,by omega,h.2.2.1.1⟩
      rw[if_neg hf]
      exact⟨rfl,fun h=>absurd h hf⟩
    ·rw[hk] at h2';simp at h2'
   ·have e0:(decide (p.op=5))=false:=decide_eq_false h5
    rw[e0]
    obtain⟨a1,a2⟩:=zoK (fun t p c=>zfE w n t p c) (zag w t p) p.kids 0 (zaJ t p) (c+1) h2'.2.symm (by omega)
    have e4:zaO w (n+1) t p=zaJ t p++zbg (zaO w n) (zag w t p) p.kids:=by simp only[zaO,zdC,if_neg h5]
    have e5:zb5 w (n+1) t p c=((all2 (zaw w n) (zag w t p) p.kids&&(decide (c+1+(Pats.size p.kids:Int)≤60)&&all2 (linP w n) (zag w t p) p.kids))&&zcT (zaO w (n+1) t p)):=by
     have:decide (c+(p.size:Int)≤60)=decide (c+1+(Pats.size p.kids:Int)≤60):=decide_eq_decide.2 (by omega)
     simp only[zb5,zaw,linP,h2'.1,if_neg h5,Bool.true_and,zoe,this,Bool.and_assoc]
    rw[e5]
    by_cases hw:(all2 (zaw w n) (zag w t p) p.kids&&(decide (c+1+(Pats.size p.kids:Int)≤60)&&all2 (linP w n) (zag w t p) p.kids))=true
    ·rw[if_pos hw,←e4] at a1
     have a3:=a2 hw
     rw[hw,Bool.true_and]
     unfold finV
     rw[a1]
     by_cases hn:zcT (zaO w (n+1) t p)=true
     ·simp only[hn,if_true]
      exact⟨a1,fun _=>by rw[a3];omega⟩
     ·simp only[hn,Bool.false_eq_true,if_false]
      exact⟨trivial,fun h=>absurd h (by simp)⟩
    ·rw[if_neg hw] at a1
     have hw':(all2 (zaw w n) (zag w t p) p.kids&&(decide (c+1+(Pats.size p.kids:Int)≤60)&&all2 (linP w n) (zag w t p) p.kids))=false:=by simpa using hw
     rw[hw',Bool.false_and]
     unfold finV
     rw[a1]
     simp[a1]
  ·have hf:¬zb5 w (n+1) t p c=true:=fun h=>by
    simp only[zb5,zaw,Bool.and_eq_true,decide_eq_true_eq] at h
    refine h2 ?_
    simp only[okP,Bool.and_eq_true,decide_eq_true_eq]
    refine⟨h.1.1, ?_⟩
    by_cases hl:(zag w t p).length=p.kids.length
    ·exact hl.symm
    ·have:=zgF (f:=zaw w n) hl
     rw[this] at h;simp at h
   rw[if_neg h2,if_neg hf]
   exact⟨rfl,fun h=>absurd h hf⟩
mutual
def cntP (m:Int):Pat→Int
 | .mk _ _ _ _ _ ks=>zdb m 1 ks
def zdb (m n:Int):List Pat→Int
 | []=>n
 |k::r=>if n≤m then zdb m (n+cntP (m-n) k) r else n
end
theorem zss (m:Int) (v:Pat):cntP m v=zdb m 1 v.kids:=by cases v;rfl
theorem zk2 {m n:Int}{l:List Pat} (h:¬n≤m):zdb m n l=n:=by cases l<;>simp[zdb,h]
mutual
theorem zgB:∀(v:Pat) (m:Int),1≤cntP m v∧cntP m v≤v.size
 | .mk _ _ _ _ _ ks,m=>by
  have:=zki ks m 1 (by omega)
  simp only[cntP,Pat.size];push_cast;omega
theorem zki:∀(l:List Pat) (m n:Int),1≤n→1≤zdb m n l∧zdb m n l≤n+Pats.size l
 | [],m,n,h=>by simp[zdb,Pats.size];omega
 |k::r,m,n,h=>by
  have h1:=zgB k (m-n)
  have h2:=zki r m (n+cntP (m-n) k) (by omega)
  simp only[zdb,Pats.size]
  split
  ·push_cast;omega
  ·push_cast;omega
end
mutual
theorem zoa:∀(v:Pat) (m:Int),(cntP m v≤m↔(v.size:Int)≤m)∧(cntP m v≤m→cntP m v=v.size)
 | .mk _ _ _ _ _ ks,m=>by
  have:=zmQ ks m 1
  simp only[cntP,Pat.size];push_cast;exact this
theorem zmQ:∀(l:List Pat) (m n:Int),(zdb m n l≤m↔n+(Pats.size l:Int)≤m)∧(zdb m n l≤m→zdb m n l=n+Pats.size l)
 | [],m,n=>by simp[zdb,Pats.size]
 |k::r,m,n=>by
  have h1:=zoa k (m-n)
  have h2:=zmQ r m (n+cntP (m-n) k)
  have h3:=zki r m (n+cntP (m-n) k)
  have h4:=zgB k (m-n)
  simp only[zdb,Pats.size]
  push_cast
  by_cases hn:n≤m
  ·rw[if_pos hn]
   by_cases h5:cntP (m-n) k≤m-n
   ·have h6:=h1.2 h5
    rw[h6] at h2 ⊢
    constructor
    ·rw[h2.1];constructor<;>intro h<;>omega
    ·intro h;rw[h2.2 h];omega
   ·have h7:¬(k.size:Int)≤m-n:=fun h=>h5 (h1.1.2 h)
    have h8:¬n+cntP (m-n) k≤m:=by omega
    rw[zk2 h8]
    constructor
    ·constructor<;>intro h<;>omega
    ·intro h;omega
  ·rw[if_neg hn]
   constructor
   ·constructor<;>intro h<;>omega
   ·intro h;omega
end
theorem Pats.size_split {pre rest l:List Pat}{y:Pat} (h:pre++y::rest=l):Pats.size l=Pats.size pre+y.size+Pats.size rest:=by
 subst h
 induction pre with
 |nil=>simp[Pats.size]
 |cons x r ih=>simp only[List.cons_append,Pats.size,ih];omega
theorem ze0 {l:List Pat}{i:Nat} (h:i<l.length):(nth l i).size≤Pats.size l:=Pats.size_mem (zal h)
theorem zgs {l:List Pat}{i:Nat} (h:i<l.length):Pats.size (l.drop i)=(nth l i).size+Pats.size (l.drop (i+1)):=by
 rw[zbc h];rfl
theorem zfq:∀(n:Nat){v:Pat}{m:Int},v.size≤n→v.size≤1000000000000→v.ok→0≤m→m≤1000000000000→FnD Tryz.prog 161 [.agg [.d (.i v.op),.d (.i v.ctor),.d (.i v.n),.d (.i v.m),.d (.i v.var),.d (zad v.kids)],.d (.i m)] [] (.d (.i (cntP m v))) []
 |0,v,m,h,_,_,_,_=>by rw[Pat.size_eq] at h;omega
 |n+1,v,m,h,hb,hok,m0,m1=>by
  rw[Pat.size_eq] at h hb
  rw[Pat.ok_iff] at hok
  rw[zss]
  refine bd Tryz.f161 31 [] [] fun w0 F0 own kept hk=>?_
  refine Walk.box (id:=3002) .none rfl rfl rfl rfl rfl rfl rfl ?_
  refine ev ?_
  refine CWp.loopX (ι:=Nat×Int) hk (fun x=>[(6,.d (.i (x.1:Int))),(5,.d (.i x.2))]) [7,8,9,10,11,12,13,14,15,16,17,18,19,20,21,22,23,24,25,26,27,28,29] (fun x=>[]) (fun x=>x.1≤v.kids.length∧zdb m x.2 (v.kids.drop x.1)=zdb m 1 v.kids∧1≤x.2∧x.2+Pats.size (v.kids.drop x.1)≤1+Pats.size v.kids) (fun x=>v.kids.length-x.1) (0,1) ⟨by simp,by simp,by simp,by simp⟩ ⟨⟨_,rfl,(LeA.eqi (by first|rfl|(simp;done)|(dsimp only;omega)))⟩,⟨⟨_,rfl,(LeA.eqi (by first|rfl|(simp;done)|(dsimp only;omega)))⟩,trivial⟩⟩ trivial (fun x=>rfl) (fun x hg1=>?_)
  refine evc [] [] ?_
  refine sq (fun h1 h1p h1s=>?_) fun h1 h1p h1s=>?_
  try simp only[Q,Pat.cs_len] at h1p
  refine sq (fun h2 h2p h2s=>?_) fun h2 h2p h2s=>?_
  try simp only[Q,Pat.cs_len] at h2p
  refine Walk.idx sl28 .none rfl rfl rfl rfl (zaK (by omega)) rfl ?_
  refine ev ?_
  refine ar ?_ (by first|(constructor<;>omega)|(have hz:=zgB (nth v.kids x.1) (m-x.2);have hs:=zgs (l:=v.kids) (i:=x.1) (by omega);constructor<;>omega)|(constructor<;>simp[Pat.cs_len]<;>omega))
  refine Walk.call (cr:=[]) zn4 (zfq n (v:=nth v.kids x.1) (by have:=ze0 (l:=v.kids) (i:=x.1) (by omega);omega) (by have:=ze0 (l:=v.kids) (i:=x.1) (by omega);omega) (Pats.ok_mem hok.2 _ (zal (by omega))) (by omega) (by omega)) rfl .none rfl rfl (LeL.refl _) trivial rfl rfl rfl ?_
  refine ev ?_
  refine ar ?_ (by first|(constructor<;>omega)|(have hz:=zgB (nth v.kids x.1) (m-x.2);have hs:=zgs (l:=v.kids) (i:=x.1) (by omega);constructor<;>omega)|(constructor<;>simp[Pat.cs_len]<;>omega))
  refine ar ?_ (by first|(constructor<;>omega)|(have hz:=zgB (nth v.kids x.1) (m-x.2);have hs:=zgs (l:=v.kids) (i:=x.1) (by omega);constructor<;>omega)|(constructor<;>simp[Pat.cs_len]<;>omega))
  refine Exists.intro ((x.1+1,x.2+cntP (m-x.2) (nth v.kids x.1))) ⟨(by
      have hz:=zgB (nth v.kids x.1) (m-x.2)
      have hs:=zgs (l:=v.kids) (i:=x.1) (by omega)
      refine⟨by dsimp only;omega, ?_,by dsimp only;omega,by dsimp only;omega⟩
      rw[←hg1.2.1,zbc (l:=v.kids) (i:=x.1) (by omega),zdb,if_pos (by omega)]),(by dsimp only;omega),Sub.x (by kernel_rfl) (by kernel_rfl) ⟨⟨_,rfl,(LeA.eqi (by first|rfl|(simp;done)|(dsimp only;omega)))⟩,⟨⟨_,rfl,(LeA.eqi (by first|rfl|(simp;done)|(dsimp only;omega)))⟩,trivial⟩⟩ (by kernel_rfl) (by kernel_rfl) trivial⟩
  try simp only[Q,Pat.cs_len] at h2p
  refine rn0 (r1 rfl) (.eqd ?_)
  rotate_left
  try simp only[Q,Pat.cs_len] at h1p
  refine sqF ?_
  refine rn0 (r1 rfl) (.eqd ?_)
  rotate_left
  all_goals (refine congrArg D.i ?_;rw[←hg1.2.1];first|(rw[List.drop_eq_nil_of_le (by omega)];rfl)|(rw[zk2 (by omega)]))
end Go.Proofs.YtfiihhedihkdoaaGreat
namespace Go.Proofs.YtfiihhedihkdoaaGreat
open Go
set_option linter.unusedSimpArgs false
set_option linter.unusedVariables false
set_option maxRecDepth 100000
set_option maxHeartbeats 4000000
theorem zhx {w:List Data}{d:Nat}{k:Int}:zaA w ⟨d,k⟩=zbo w ⟨d,k⟩:=by unfold zaA;rw[if_neg (by simp only;omega)]
theorem zgA {w:List Data}{k:Int}:zaA w ⟨-1,k⟩=[]:=by unfold zaA;rw[if_pos rfl]
theorem zl5 {w:List Data} (hw:WT w){a k:Int} (ht:TyIn w.length ⟨a,k⟩):(zaA w ⟨a,k⟩).length≤1000000000000:=by
 rcases ht with ha|⟨d,hd,hlt⟩
 ·simp only at ha;subst ha;rw[zgA];exact Nat.zero_le _
 ·simp only at hd;subst hd;rw[zhx];exact zo2 hw
theorem zc0 {w:List Data}{a k c:Int} (ht:TyIn w.length ⟨a,k⟩) (h:c∈zaA w ⟨a,k⟩):∃d:Nat,a=d∧d<w.length∧PlaceIn w d c:=by
 rcases ht with ha|⟨d,hd,hlt⟩
 ·simp only at ha;subst ha;rw[zgA] at h;simp at h
 ·simp only at hd;subst hd;rw[zhx] at h;exact⟨d,rfl,hlt,zoE h⟩
theorem zf4 {w:List Data} (hw:WT w){a k:Int}{p:Pat} (ht:TyIn w.length ⟨a,k⟩) (h:ownP w ⟨a,k⟩ p=true):∀t∈zag w ⟨a,k⟩ p,TyIn w.length t:=by
 intro t hm
 unfold zag at hm
 split at hm
 ·rename_i h4
  unfold ownP at h
  have h':=of_decide_eq_true h
  have hc:p.ctor∈zaA w ⟨a,k⟩:=by
   rcases h'.2.2.2.2 with h|h|h|h|h|h
   ·omega
   ·omega
   ·omega
   ·omega
   ·omega
   ·exact h.2
  obtain⟨d,rfl,h1,h2⟩:=zc0 ht hc
  exact zqb hw h1 h2 hm
 ·split at hm
  ·simp only[List.mem_cons,List.not_mem_nil,or_false] at hm
   rcases hm with rfl|rfl<;>exact ht
  ·split at hm
   ·simp only[List.mem_cons,List.not_mem_nil,or_false] at hm
    subst hm;exact ht
   ·simp at hm
theorem zgz {w:List Data} (hw:WT w){a k:Int}{p:Pat} (ht:TyIn w.length ⟨a,k⟩) (h:p.op=4→p.ctor∈zaA w ⟨a,k⟩):(zag w ⟨a,k⟩ p).length≤1000000000000:=by
 unfold zag
 split
 ·rename_i h4
  obtain⟨d,rfl,h1,h2⟩:=zc0 ht (h h4)
  exact zh5 hw h1 h2
 ·split
  ·simp
  ·split<;>simp
def zfP (op:Int):Int:=if op=5 then 2 else if op=6 then 1 else if op=4 then -1 else 0
theorem zmJ {op:Int}:FnD Tryz.prog 199 [.d (.i op)] [] (.d (.i (zfP op))) []:=by
 refine bd Tryz.f199 10 [] [] fun w0 F0 own kept hk=>?_
 refine sq (fun h1 h1p h1s=>?_) fun h1 h1p h1s=>?_
 try simp only[Q] at h1p
 refine rn0 (r1 rfl) (.eqd ?_)
 rotate_left
 try simp only[Q] at h1p
 refine sq (fun h2 h2p h2s=>?_) fun h2 h2p h2s=>?_
 try simp only[Q] at h2p
 refine rn0 (r1 rfl) (.eqd ?_)
 rotate_left
 try simp only[Q] at h2p
 refine sq (fun h3 h3p h3s=>?_) fun h3 h3p h3s=>?_
 try simp only[Q] at h3p
 refine rn0 (r1 rfl) (.eqd ?_)
 rotate_left
 try simp only[Q] at h3p
 refine rn0 (r1 rfl) (.eqd ?_)
 rotate_left
 all_goals (refine congrArg D.i ?_;simp only[zfP];simp_all)
theorem zc2 {w:List Data} (hw:WT w){a k:Int} (ht:TyIn w.length ⟨a,k⟩):FnD Tryz.prog 110 [.d (zao w),.agg [.d (.i a),.d (.i k)]] [] (.d (zcL (zaA w ⟨a,k⟩))) []:=by
 rcases ht with ha|⟨d,hd,hlt⟩
 ·simp only at ha;subst ha;rw[zgA];exact ziN
 ·simp only at hd;subst hd;rw[zhx];exact zlP hw hlt
theorem zdR {w:List Data} (hw:WT w){a k c:Int} (ht:TyIn w.length ⟨a,k⟩) (hc:c∈zaA w ⟨a,k⟩):FnD Tryz.prog 172 [.d (zao w),.agg [.d (.i a),.d (.i k)],.d (.i c)] [] (.d (zby (zaj w ⟨a,k⟩ c))) []:=by
 obtain⟨d,rfl,h1,h2⟩:=zc0 ht hc
 exact zmD hw h1 h2
theorem zf9 {w:List Data} (hw:WT w){a k:Int}{p:Pat} (ht:TyIn w.length ⟨a,k⟩):
  FnD Tryz.prog 197 [.d (zao w),.agg [.d (.i a),.d (.i k)],.agg [.d (.i p.op),.d (.i p.ctor),.d (.i p.n),.d (.i p.m),.d (.i p.var),.d (zad p.kids)]] [] (.d (.bool (ownP w ⟨a,k⟩ p))) []:=by
 have hcl:=zl5 hw ht
 refine bd Tryz.f197 96 [] [1,2,4,13] fun w0 F0 own kept hk=>?_
 refine Walk.box (id:=3004) .none rfl rfl rfl rfl rfl rfl rfl ?_
 refine Walk.box (id:=3005) .none rfl rfl rfl rfl rfl rfl rfl ?_
 refine ev ?_
 refine CWp.regionJ ?_
 refine WRest.join 8 [(15,.d (.bool (decide (p.op=2∨p.op=6))))] [8,9,10,11,12,13,14] ?_ ?_
 refine ev ?_
 refine sq (fun h1 h1p h1s=>?_) fun h1 h1p h1s=>?_
 try simp only[Q] at h1p
 exact jnb rfl
 try simp only[Q] at h1p
 exact jnb rfl
 refine WRest.done ?_
 refine ev ?_
 refine CWp.regionJ ?_
 refine WRest.join 11 [(26,.d (.bool (decide ((p.op=2∨p.op=6)∧(p.var<0∨5<p.var)))))] [16,17,18,19,20,21,22,23,24,25] ?_ ?_
 refine ev ?_
 refine sq (fun h2 h2p h2s=>?_) fun h2 h2p h2s=>?_
 try simp only[Q] at h2p
 refine sq (fun h3 h3p h3s=>?_) fun h3 h3p h3s=>?_
 try simp only[Q] at h3p
 exact jnb rfl
 try simp only[Q] at h3p
 exact jnb rfl
 try simp only[Q] at h2p
 exact jnb rfl
 refine WRest.join 9 [(35,.d (.bool (decide ((p.op=2∨p.op=6)∧(p.var<0∨5<p.var)∨¬(p.op=2∨p.op=6)∧p.var≠0))))] [27,28,29,30,31,32,33,34] ?_ ?_
 refine ev ?_
 refine sq (fun h4 h4p h4s=>?_) fun h4 h4p h4s=>?_
 try simp only[Q] at h4p
 exact jnb rfl
 try simp only[Q] at h4p
 refine sq (fun h5 h5p h5s=>?_) fun h5 h5p h5s=>?_
 try simp only[Q] at h5p
 exact jnb rfl
 try simp only[Q] at h5p
 exact jnb rfl
 refine WRest.done ?_
 refine tv ?_
 refine sq (fun h6 h6p h6s=>?_) fun h6 h6p h6s=>?_
 try simp only[Q] at h6p
 refine rn0 (r1 rfl) (.eqd ?_)
 rotate_left
 try simp only[Q] at h6p
 refine CWp.regionJ ?_
 refine WRest.join 13 [(48,.d (.bool (decide (p.op≠3∧(p.n≠0∨p.m≠0)))))] [36,37,38,39,40,41,42,43,44,45,46,47] ?_ ?_
 refine ev ?_
 refine sq (fun h7 h7p h7s=>?_) fun h7 h7p h7s=>?_
 try simp only[Q] at h7p
 refine sq (fun h8 h8p h8s=>?_) fun h8 h8p h8s=>?_
 try simp only[Q] at h8p
 exact jnb rfl
 try simp only[Q] at h8p
 exact jnb rfl
 try simp only[Q] at h7p
 exact jnb rfl
 refine WRest.join 10 [(58,.d (.bool (decide (p.op≠3∧(p.n≠0∨p.m≠0)∨p.op≠4∧p.ctor≠0))))] [49,50,51,52,53,54,55,56,57] ?_ ?_
 refine ev ?_
 refine sq (fun h9 h9p h9s=>?_) fun h9 h9p h9s=>?_
 try simp only[Q] at h9p
 exact jnb rfl
 try simp only[Q] at h9p
 refine sq (fun h10 h10p h10s=>?_) fun h10 h10p h10s=>?_
 try simp only[Q] at h10p
 exact jnb rfl
 try simp only[Q] at h10p
 exact jnb rfl
 refine WRest.done ?_
 refine tv ?_
 refine sq (fun h11 h11p h11s=>?_) fun h11 h11p h11s=>?_
 try simp only[Q] at h11p
 refine rn0 (r1 rfl) (.eqd ?_)
 rotate_left
 try simp only[Q] at h11p
 refine sq (fun h12 h12p h12s=>?_) fun h12 h12p h12s=>?_
 try simp only[Q] at h12p
 refine sq (fun h13 h13p h13s=>?_) fun h13 h13p h13s=>?_
 try simp only[Q] at h13p
 refine rn0 (r1 rfl) (.eqd ?_)
 rotate_left
 try simp only[Q] at h13p
 refine sq (fun h14 h14p h14s=>?_) fun h14 h14p h14s=>?_
 try simp only[Q] at h14p
 refine CWp.regionJ ?_
 refine WRest.join 8 [(75,.d (.bool (decide (a = -1∧0≤p.n))))] [68,69,70,71,72,73,74] ?_ ?_
 refine ev ?_
 refine sq (fun h15 h15p h15s=>?_) fun h15 h15p h15s=>?_
 try simp only[Q] at h15p
 exact jnb rfl
 try simp only[Q] at h15p
 exact jnb rfl
 refine WRest.join 7 [(82,.d (.bool (decide (a = -1∧0≤p.n∧p.n≤p.m))))] [76,77,78,79,80,81] ?_ ?_
 refine ev ?_
 refine sq (fun h16 h16p h16s=>?_) fun h16 h16p h16s=>?_
 try simp only[Q] at h16p
 exact jnb rfl
 try simp only[Q] at h16p
 exact jnb rfl
 refine WRest.join 5 [(87,.d (.bool (decide (a = -1∧0≤p.n∧p.n≤p.m∧p.m≤9))))] [83,84,85,86] ?_ ?_
 refine ev ?_
 refine sq (fun h17 h17p h17s=>?_) fun h17 h17p h17s=>?_
 try simp only[Q] at h17p
 exact jnb rfl
 try simp only[Q] at h17p
 exact jnb rfl
 refine WRest.done ?_
 refine ev ?_
 refine rn0 (r1 rfl) (.eqd ?_)
 rotate_left
 try simp only[Q] at h14p
 refine sq (fun h18 h18p h18s=>?_) fun h18 h18p h18s=>?_
 try simp only[Q] at h18p
 refine Walk.call (cr:=[]) zhI (zc2 hw ht) rfl .none rfl rfl (LeL.refl _) trivial rfl rfl rfl ?_
 refine evd [] [] ?_
 refine Walk.call (cr:=[]) zkY (zeL hcl) rfl .none rfl rfl (LeL.refl _) trivial rfl rfl rfl ?_
 refine evd [] [] ?_
 refine dr ?_
 refine rn0 (r1 rfl) (.eqd ?_)
 rotate_left
 try simp only[Q] at h18p
 refine rn0 (r1 rfl) (.eqd ?_)
 rotate_left
 try simp only[Q] at h12p
 refine sq (fun h19 h19p h19s=>?_) fun h19 h19p h19s=>?_
 try simp only[Q] at h19p
 refine sq (fun h20 h20p h20s=>?_) fun h20 h20p h20s=>?_
 try simp only[Q] at h20p
 refine rn0 (r1 rfl) (.eqd ?_)
 rotate_left
 try simp only[Q] at h20p
 refine sq (fun h21 h21p h21s=>?_) fun h21 h21p h21s=>?_
 try simp only[Q] at h21p
 refine CWp.regionJ ?_
 refine WRest.join 8 [(75,.d (.bool (decide (a = -1∧0≤p.n))))] [68,69,70,71,72,73,74] ?_ ?_
 refine ev ?_
 refine sq (fun h22 h22p h22s=>?_) fun h22 h22p h22s=>?_
 try simp only[Q] at h22p
 exact jnb rfl
 try simp only[Q] at h22p
 exact jnb rfl
 refine WRest.join 7 [(82,.d (.bool (decide (a = -1∧0≤p.n∧p.n≤p.m))))] [76,77,78,79,80,81] ?_ ?_
 refine ev ?_
 refine sq (fun h23 h23p h23s=>?_) fun h23 h23p h23s=>?_
 try simp only[Q] at h23p
 exact jnb rfl
 try simp only[Q] at h23p
 exact jnb rfl
 refine WRest.join 5 [(87,.d (.bool (decide (a = -1∧0≤p.n∧p.n≤p.m∧p.m≤9))))] [83,84,85,86] ?_ ?_
 refine ev ?_
 refine sq (fun h24 h24p h24s=>?_) fun h24 h24p h24s=>?_
 try simp only[Q] at h24p
 exact jnb rfl
 try simp only[Q] at h24p
 exact jnb rfl
 refine WRest.done ?_
 refine ev ?_
 refine rn0 (r1 rfl) (.eqd ?_)
 rotate_left
 try simp only[Q] at h21p
 refine sq (fun h25 h25p h25s=>?_) fun h25 h25p h25s=>?_
 try simp only[Q] at h25p
 refine Walk.call (cr:=[]) zhI (zc2 hw ht) rfl .none rfl rfl (LeL.refl _) trivial rfl rfl rfl ?_
 refine evd [] [] ?_
 refine Walk.call (cr:=[]) zkY (zeL hcl) rfl .none rfl rfl (LeL.refl _) trivial rfl rfl rfl ?_
 refine evd [] [] ?_
 refine dr ?_
 refine rn0 (r1 rfl) (.eqd ?_)
 rotate_left
 try simp only[Q] at h25p
 refine rn0 (r1 rfl) (.eqd ?_)
 rotate_left
 try simp only[Q] at h19p
 refine sq (fun h26 h26p h26s=>?_) fun h26 h26p h26s=>?_
 try simp only[Q] at h26p
 refine sq (fun h27 h27p h27s=>?_) fun h27 h27p h27s=>?_
 try simp only[Q] at h27p
 refine rn0 (r1 rfl) (.eqd ?_)
 rotate_left
 try simp only[Q] at h27p
 refine sq (fun h28 h28p h28s=>?_) fun h28 h28p h28s=>?_
 try simp only[Q] at h28p
 refine CWp.regionJ ?_
 refine WRest.join 8 [(75,.d (.bool (decide (a = -1∧0≤p.n))))] [68,69,70,71,72,73,74] ?_ ?_
 refine ev ?_
 refine sq (fun h29 h29p h29s=>?_) fun h29 h29p h29s=>?_
 try simp only[Q] at h29p
 exact jnb rfl
 try simp only[Q] at h29p
 exact jnb rfl
 refine WRest.join 7 [(82,.d (.bool (decide (a = -1∧0≤p.n∧p.n≤p.m))))] [76,77,78,79,80,81] ?_ ?_
 refine ev ?_
 refine sq (fun h30 h30p h30s=>?_) fun h30 h30p h30s=>?_
 try simp only[Q] at h30p
 exact jnb rfl
 try simp only[Q] at h30p
 exact jnb rfl
 refine WRest.join 5 [(87,.d (.bool (decide (a = -1∧0≤p.n∧p.n≤p.m∧p.m≤9))))] [83,84,85,86] ?_ ?_
 refine ev ?_
 refine sq (fun h31 h31p h31s=>?_) fun h31 h31p h31s=>?_
 try simp only[Q] at h31p
 exact jnb rfl
 try simp only[Q] at h31p
 exact jnb rfl
 refine WRest.done ?_
 refine ev ?_
 refine rn0 (r1 rfl) (.eqd ?_)
 rotate_left
 try simp only[Q] at h28p
 refine sq (fun h32 h32p h32s=>?_) fun h32 h32p h32s=>?_
 try simp only[Q] at h32p
 refine Walk.call (cr:=[]) zhI (zc2 hw ht) rfl .none rfl rfl (LeL.refl _) trivial rfl rfl rfl ?_
 refine evd [] [] ?_
 refine Walk.call (cr:=[]) zkY (zeL hcl) rfl .none rfl rfl (LeL.refl _) trivial rfl rfl rfl ?_
 refine evd [] [] ?_
 refine dr ?_
 refine rn0 (r1 rfl) (.eqd ?_)
 rotate_left
 try simp only[Q] at h32p
 refine rn0 (r1 rfl) (.eqd ?_)
 rotate_left
 try simp only[Q] at h26p
 refine sq (fun h33 h33p h33s=>?_) fun h33 h33p h33s=>?_
 try simp only[Q] at h33p
 refine rn0 (r1 rfl) (.eqd ?_)
 rotate_left
 try simp only[Q] at h33p
 refine sq (fun h34 h34p h34s=>?_) fun h34 h34p h34s=>?_
 try simp only[Q] at h34p
 refine CWp.regionJ ?_
 refine WRest.join 8 [(75,.d (.bool (decide (a = -1∧0≤p.n))))] [68,69,70,71,72,73,74] ?_ ?_
 refine ev ?_
 refine sq (fun h35 h35p h35s=>?_) fun h35 h35p h35s=>?_
 try simp only[Q] at h35p
 exact jnb rfl
 try simp only[Q] at h35p
 exact jnb rfl
 refine WRest.join 7 [(82,.d (.bool (decide (a = -1∧0≤p.n∧p.n≤p.m))))] [76,77,78,79,80,81] ?_ ?_
 refine ev ?_
 refine sq (fun h36 h36p h36s=>?_) fun h36 h36p h36s=>?_
 try simp only[Q] at h36p
 exact jnb rfl
 try simp only[Q] at h36p
 exact jnb rfl
 refine WRest.join 5 [(87,.d (.bool (decide (a = -1∧0≤p.n∧p.n≤p.m∧p.m≤9))))] [83,84,85,86] ?_ ?_
 refine ev ?_
 refine sq (fun h37 h37p h37s=>?_) fun h37 h37p h37s=>?_
 try simp only[Q] at h37p
 exact jnb rfl
 try simp only[Q] at h37p
 exact jnb rfl
 refine WRest.done ?_
 refine ev ?_
 refine rn0 (r1 rfl) (.eqd ?_)
 rotate_left
 try simp only[Q] at h34p
 refine sq (fun h38 h38p h38s=>?_) fun h38 h38p h38s=>?_
 try simp only[Q] at h38p
 refine Walk.call (cr:=[]) zhI (zc2 hw ht) rfl .none rfl rfl (LeL.refl _) trivial rfl rfl rfl ?_
 refine evd [] [] ?_
 refine Walk.call (cr:=[]) zkY (zeL hcl) rfl .none rfl rfl (LeL.refl _) trivial rfl rfl rfl ?_
 refine evd [] [] ?_
 refine dr ?_
 refine rn0 (r1 rfl) (.eqd ?_)
 rotate_left
 try simp only[Q] at h38p
 refine rn0 (r1 rfl) (.eqd ?_)
 rotate_left
 all_goals (refine congrArg D.bool ?_;unfold ownP;rw[Bool.eq_iff_iff];by_cases hmem:p.ctor∈zaA w ⟨a,k⟩<;>(simp only[hmem,and_true,and_false,or_false,decide_eq_true_eq,Bool.and_eq_true,Bool.false_eq_true,true_iff,false_iff];simp only[decide_eq_true_eq,decide_eq_false_iff_not] at *;omega))
theorem zdh {w:List Data} (hw:WT w){a k:Int}{p:Pat} (ht:TyIn w.length ⟨a,k⟩) (h:p.op=4→p.ctor∈zaA w ⟨a,k⟩):
  FnD Tryz.prog 164 [.d (zao w),.agg [.d (.i a),.d (.i k)],.agg [.d (.i p.op),.d (.i p.ctor),.d (.i p.n),.d (.i p.m),.d (.i p.var),.d (zad p.kids)]] [] (.d (zby (zag w ⟨a,k⟩ p))) []:=by
 by_cases h4:p.op=4
 ·have e:zag w ⟨a,k⟩ p=zaj w ⟨a,k⟩ p.ctor:=by unfold zag;rw[if_pos h4]
  rw[e]
  refine bd Tryz.f164 30 [] [] fun w0 F0 own kept hk=>?_
  refine Walk.box (id:=3004) .none rfl rfl rfl rfl rfl rfl rfl ?_
  refine Walk.box (id:=3005) .none rfl rfl rfl rfl rfl rfl rfl ?_
  refine ev ?_
  refine sq (fun h1 h1p h1s=>?_) fun h1 h1p h1s=>?_
  try simp only[Q] at h1p
  refine Walk.call (cr:=[]) ziX (zdR hw ht (h h4)) rfl .none rfl rfl (LeL.refl _) trivial rfl rfl rfl ?_
  refine ev ?_
  refine rn0 (r1 rfl) (.eqd ?_)
  rotate_left
  try simp only[Q] at h1p
  exfalso;simp_all
  all_goals (rfl)
 ·have e:zag w ⟨a,k⟩ p=List.replicate (zfP p.op).toNat ⟨a,k⟩:=by
   unfold zag zfP;rw[if_neg h4]
   by_cases h5:p.op=5
   ·rw[if_pos h5,if_pos h5];rfl
   ·rw[if_neg h5,if_neg h5]
    by_cases h6:p.op=6
    ·rw[if_pos h6,if_pos h6];rfl
    ·rw[if_neg h6,if_neg h6,if_neg h4];rfl
  have hb:0≤zfP p.op∧zfP p.op≤2:=by unfold zfP;split<;>(try split)<;>(try split)<;>omega
  rw[e]
  refine bd Tryz.f164 30 [] [] fun w0 F0 own kept hk=>?_
  refine Walk.box (id:=3004) .none rfl rfl rfl rfl rfl rfl rfl ?_
  refine Walk.box (id:=3005) .none rfl rfl rfl rfl rfl rfl rfl ?_
  refine ev ?_
  refine sq (fun h1 h1p h1s=>?_) fun h1 h1p h1s=>?_
  try simp only[Q] at h1p
  exfalso;simp_all
  try simp only[Q] at h1p
  refine Walk.sliceEmptyG 5 zbf .none rfl rfl ?_
  refine ev ?_
  refine CWp.loopX (ι:=Nat) hk (fun i=>[(8,.d (.i (i:Int))),(7,.gl 5 ((List.replicate i (⟨a,k⟩:Ty)).map Ty.c))]) [18,19,20,21,22,23,24,25,26,27,28] (fun i=>[(5,some (.tok (((List.replicate i (⟨a,k⟩:Ty)).map Ty.c)).length 2))]) (fun i=>(i:Int)≤zfP p.op) (fun i=>(zfP p.op).toNat-i) 0 (by omega) ⟨⟨_,rfl,(LeA.eqi (by first|rfl|(simp;done)|(simp[List.replicate_succ'];done)|omega))⟩,⟨⟨_,rfl,(LeA.glg (by first|rfl|(simp;done)|(simp[List.replicate_succ'];done)|omega))⟩,trivial⟩⟩ ⟨zae (by first|rfl|(simp;done)|(simp;omega)|(first|rfl|(simp;done)|(simp[List.replicate_succ'];done)|omega)),trivial⟩ (fun x=>rfl) (fun i hg1=>?_)
  refine evc [] [] ?_
  refine Walk.call (cr:=[]) zti (zmJ) rfl .none rfl rfl (LeL.refl _) trivial rfl rfl rfl ?_
  refine ev ?_
  refine sq (fun h2 h2p h2s=>?_) fun h2 h2p h2s=>?_
  try simp only[Q] at h2p
  refine Walk.sliceLit zbf tz33 rfl (by decide) (ks:=[0]) (xs:=[_]) rfl rfl (by decide) (by decide) .none rfl rfl rfl rfl ?_
  refine Walk.append zbf zz33 rfl .none rfl rfl rfl rfl (zaG rfl (by first|rfl|(simp;done)|(simp;omega))) (by simp) (by simp;omega) (by simp;omega) ?_
  refine ev ?_
  refine ar ?_
  refine Exists.intro (i+1) ⟨(by omega),(by omega),Sub.x (by kernel_rfl) (by kernel_rfl) ⟨⟨_,rfl,(LeA.eqi (by first|rfl|(simp;done)|(simp[List.replicate_succ'];done)|omega))⟩,⟨⟨_,rfl,(LeA.glg (by first|rfl|(simp;done)|(simp[List.replicate_succ'];done)|omega))⟩,trivial⟩⟩ (by kernel_rfl) (by kernel_rfl) ⟨zae (by first|rfl|(simp;done)|(simp;omega)|(first|rfl|(simp;done)|(simp[List.replicate_succ'];done)|omega)),trivial⟩⟩
  try simp only[Q] at h2p
  refine rn0 (r1 rfl) (.gld ?_)
  rotate_left
  all_goals ((obtain rfl:i=(zfP p.op).toNat:=by omega);simp)
theorem zb3 {w:List Data}{n:Nat}{t:Ty}{p:Pat} (h:zaw w (n+1) t p=true):ownP w t p=true∧p.kids.length=(zag w t p).length:=by
 simp only[zaw,Bool.and_eq_true] at h
 refine⟨h.1, ?_⟩
 by_cases hl:(zag w t p).length=p.kids.length
 ·exact hl.symm
 ·rw[zgF hl] at h;simp at h
theorem zcC {w:List Data}{t:Ty}{p:Pat} (h:ownP w t p=true):p.op=4→p.ctor∈zaA w t:=by
 intro h4
 unfold ownP at h
 have h':=(of_decide_eq_true h).2.2.2.2
 rcases h' with h|h|h|h|h|h
 ·omega
 ·omega
 ·omega
 ·omega
 ·omega
 ·exact h.2
theorem zoA {w:List Data}{t:Ty}{p:Pat} (h:ownP w t p=true):(p.op=2∨p.op=6)→0≤p.var∧p.var≤5:=by
 unfold ownP at h
 exact(of_decide_eq_true h).1
theorem zfr {w:List Data} (hw:WT w):∀(n:Nat){a k m:Int}{p:Pat},m=n→n≤1000→TyIn w.length ⟨a,k⟩→p.ok→
  FnD Tryz.prog 160 [.d (zao w),.agg [.d (.i a),.d (.i k)],.agg [.d (.i p.op),.d (.i p.ctor),.d (.i p.n),.d (.i p.m),.d (.i p.var),.d (zad p.kids)],.d (.i m)] [] (.d (.bool (zaw w n ⟨a,k⟩ p))) []
 |0,a,k,m,p,hm,_,ht,hok=>by
  refine bd Tryz.f160 50 [] [1] fun w0 F0 own kept hk=>?_
  refine Walk.box (id:=3005) .none rfl rfl rfl rfl rfl rfl rfl ?_
  refine Walk.box (id:=3006) .none rfl rfl rfl rfl rfl rfl rfl ?_
  refine ev ?_
  refine CWp.regionJ ?_
  refine WRest.join 9 [(19,.d (.bool (true)))] [11,12,13,14,15,16,17,18] ?_ ?_
  refine ev ?_
  refine sq (fun h1 h1p h1s=>?_) fun h1 h1p h1s=>?_
  try simp only[Q] at h1p
  exact jnb rfl
  try simp only[Q] at h1p
  refine Walk.call (cr:=[]) zn7 (zf9 hw ht) rfl (.some rfl rfl h1) rfl rfl (LeL.refl _) trivial rfl rfl rfl ?_
  refine evs [] [(13,false)] ?_ ⟨⟨_,rfl,h1⟩,trivial⟩
  exact jnb rfl
  refine WRest.done ?_
  refine tv ?_
  refine sq (fun h2 h2p h2s=>?_) fun h2 h2p h2s=>?_
  try simp only[Q] at h2p
  refine rn0 (r1 rfl) (.eqd ?_)
  rotate_left
  try simp only[Q] at h2p
  exact absurd h2 (by simp)
  all_goals (rfl)
 |n+1,a,k,m,p,hm,hn,ht,hok=>by
  rw[Pat.ok_iff] at hok
  by_cases ho:ownP w ⟨a,k⟩ p=true
  ·have hin:=zf4 hw ht ho
   have hlen:=zgz hw ht (zcC ho)
   refine bd Tryz.f160 50 [] [1] fun w0 F0 own kept hk=>?_
   refine Walk.box (id:=3005) .none rfl rfl rfl rfl rfl rfl rfl ?_
   refine Walk.box (id:=3006) .none rfl rfl rfl rfl rfl rfl rfl ?_
   refine ev ?_
   refine CWp.regionJ ?_
   refine WRest.join 9 [(19,.d (.bool (false)))] [11,12,13,14,15,16,17,18] ?_ ?_
   refine ev ?_
   refine sq (fun h1 h1p h1s=>?_) fun h1 h1p h1s=>?_
   try simp only[Q,Pat.cs_len] at h1p
   exact jnb rfl
   try simp only[Q,Pat.cs_len] at h1p
   refine Walk.call (cr:=[]) zn7 (zf9 hw ht) rfl (.some rfl rfl h1) rfl rfl (LeL.refl _) trivial rfl rfl rfl ?_
   refine evs [] [(13,false)] ?_ ⟨⟨_,rfl,h1⟩,trivial⟩
   exact jnb rfl
   refine WRest.done ?_
   refine tv ?_
   refine sq (fun h2 h2p h2s=>?_) fun h2 h2p h2s=>?_
   try simp only[Q,Pat.cs_len] at h2p
   exact absurd h2 (by simp)
   try simp only[Q,Pat.cs_len] at h2p
   refine Walk.call (cr:=[]) ziW (zdh hw ht (zcC ho)) rfl .none rfl rfl (LeL.refl _) trivial rfl rfl rfl ?_
   refine ev ?_
   refine sq (fun h3 h3p h3s=>?_) fun h3 h3p h3s=>?_
   try simp only[Q,Pat.cs_len] at h3p
   refine rn0 (r1 rfl) (.eqd ?_)
   rotate_left
   try simp only[Q,Pat.cs_len] at h3p
   refine CWp.loopX (ι:=Nat) hk (fun i=>[(10,.d (.i (i:Int)))]) [8,30,31,32,33,34,35,36,37,38,39,40,41,42,43,44,45,46,47,48,49] (fun i=>[]) (fun i=>i≤(zag w ⟨a,k⟩ p).length∧∀i',i'<i→zaw w n (nth (zag w ⟨a,k⟩ p) i') (nth p.kids i')=true) (fun i=>(zag w ⟨a,k⟩ p).length-i) 0 ⟨by omega,fun _ h=>absurd h (by omega)⟩ ⟨⟨_,rfl,(LeA.eqi (by first|rfl|(simp;done)|(simp_all;done)|omega))⟩,trivial⟩ trivial (fun x=>rfl) (fun i hg1=>?_)
   refine evc [] [1] ?_
   refine sq (fun h4 h4p h4s=>?_) fun h4 h4p h4s=>?_
   try simp only[Q,Pat.cs_len] at h4p
   refine Walk.idx zbf .none rfl rfl rfl rfl (zay (by omega)) rfl ?_
   refine evd [] [] ?_
   refine Walk.idx sl28 .none rfl rfl rfl rfl (zaK (by omega)) rfl ?_
   refine evd [] [] ?_
   refine ar ?_
   refine Walk.call (cr:=[]) zn3 (zfr hw n (by omega) (by omega) (hin _ (zal (by omega))) (Pats.ok_mem hok.2 _ (zal (by omega)))) rfl .none rfl rfl (LeL.refl _) trivial rfl rfl rfl ?_
   refine evd [] [] ?_
   refine dr ?_
   refine sq (fun h5 h5p h5s=>?_) fun h5 h5p h5s=>?_
   try simp only[Q,Pat.cs_len] at h5p
   refine rn0 (r1 rfl) (.eqd ?_)
   rotate_left
   try simp only[Q,Pat.cs_len] at h5p
   refine ar ?_
   refine Exists.intro (i+1) ⟨⟨by omega,za2 hg1.2 (by assumption)⟩,(by omega),Sub.x (by kernel_rfl) (by kernel_rfl) ⟨⟨_,rfl,(LeA.eqi (by first|rfl|(simp;done)|(simp_all;done)|omega))⟩,trivial⟩ (by kernel_rfl) (by kernel_rfl) trivial⟩
   try simp only[Q,Pat.cs_len] at h4p
   refine rn0 (r1 rfl) (.eqd ?_)
   rotate_left
   all_goals (refine congrArg D.bool ?_;unfold zaw;rw[ho,Bool.true_and];first|(rw[zgF (by simp[Pat.cs_len] at *;omega)])|(rw[zcv (by simp[Pat.cs_len] at *;omega) (fun x hx=>hg1.2 x (by simp[Pat.cs_len] at *;omega))])|(rw[zbZ (i:=i) (by simp[Pat.cs_len] at *;omega) (by simp[Pat.cs_len] at *;omega) (by assumption)]))
  ·have ho':ownP w ⟨a,k⟩ p=false:=by simpa using ho
   refine bd Tryz.f160 50 [] [1] fun w0 F0 own kept hk=>?_
   refine Walk.box (id:=3005) .none rfl rfl rfl rfl rfl rfl rfl ?_
   refine Walk.box (id:=3006) .none rfl rfl rfl rfl rfl rfl rfl ?_
   refine ev ?_
   refine CWp.regionJ ?_
   refine WRest.join 9 [(19,.d (.bool (true)))] [11,12,13,14,15,16,17,18] ?_ ?_
   refine ev ?_
   refine sq (fun h1 h1p h1s=>?_) fun h1 h1p h1s=>?_
   try simp only[Q] at h1p
   exact jnb rfl
   try simp only[Q] at h1p
   refine Walk.call (cr:=[]) zn7 (zf9 hw ht) rfl (.some rfl rfl h1) rfl rfl (LeL.refl _) trivial rfl rfl rfl ?_
   refine evs [] [(13,false)] ?_ ⟨⟨_,rfl,h1⟩,trivial⟩
   exact jnb rfl
   refine WRest.done ?_
   refine tv ?_
   refine sq (fun h2 h2p h2s=>?_) fun h2 h2p h2s=>?_
   try simp only[Q] at h2p
   refine rn0 (r1 rfl) (.eqd ?_)
   rotate_left
   try simp only[Q] at h2p
   exact absurd h2 (by simp)
   all_goals (refine congrArg D.bool ?_;unfold zaw;rw[ho'];rfl)
theorem zfF {l:List Vt}{n:Int} (h:l.length≤1000000000000):FnD Tryz.prog 163 [.d (zc3 l),.d (.i n)] [] (.d (.i (zbR l n))) []:=by
 refine bd Tryz.f163 20 [] [] fun w0 F0 own kept hk=>?_
 refine CWp.loopX (ι:=List (Vt)×List (Vt)) hk (fun x=>[(5,.d (.i (x.1.length:Int)))]) [4,6,7,8,9,10,11,12,13,14,15,16,17,18,19] (fun x=>[]) (fun x=>x.1++x.2=l∧idxF (fun v=>decide (v.var=n)) x.2 x.1.length=idxF (fun v=>decide (v.var=n)) l 0) (fun x=>x.2.length) ([],l) ⟨by simp,rfl⟩ ⟨⟨_,rfl,(LeA.eqi (by first|rfl|(simp;done)|(simp_all;done)|omega))⟩,trivial⟩ trivial (fun x=>rfl) (fun x hg1=>?_)
 obtain⟨pre,rest⟩:=x
 dsimp only at hg1 ⊢
 refine evc [] [] ?_
 refine sq (fun h1 h1p h1s=>?_) fun h1 h1p h1s=>?_
 try simp only[Q] at h1p
 rcases rest with _|⟨y,rest⟩
 ·exfalso;simp_all
 refine Walk.idx zdv .none rfl rfl rfl rfl (za0 hg1.1) rfl ?_
 refine ev ?_
 refine sq (fun h2 h2p h2s=>?_) fun h2 h2p h2s=>?_
 try simp only[Q] at h2p
 focus (refine rn0 (r1 rfl) (.eqd ?_);all_goals (refine congrArg D.i ?_;unfold zbR;rw[←hg1.2];simp[idxF,h1s,h1p,h2s,h2p]))
 try simp only[Q] at h2p
 refine ar ?_
 refine Exists.intro ((pre++[y],rest)) ⟨⟨(by have hz:=hg1.1;rw[←hz];simp),(by rw[←hg1.2];simp_all[idxF])⟩,(by simp),Sub.x (by kernel_rfl) (by kernel_rfl) ⟨⟨_,rfl,(LeA.eqi (by first|rfl|(simp;done)|(simp_all;done)|omega))⟩,trivial⟩ (by kernel_rfl) (by kernel_rfl) trivial⟩
 try simp only[Q] at h1p
 have hrest:rest=[]:=by
  rcases rest with _|⟨a,b⟩
  ·rfl
  ·exfalso;have hz:=congrArg List.length (hg1.1);simp only[List.length_append,List.length_cons,List.length_map] at hz;omega
 subst hrest
 focus (refine rn0 (r1 rfl) (.eqd ?_);all_goals (refine congrArg D.i ?_;unfold zbR;rw[←hg1.2];simp[idxF,h1s,h1p]))
theorem zo0 {a b:List Vt}{i:Nat} (h:i<a.length) (h2:¬(0≤zbR b (nth a i).var∧(nth b (zbR b (nth a i).var).toNat).ty=(nth a i).ty)):zdM a b=false:=by
 unfold zdM
 have:(a.all fun v=>decide (0≤zbR b v.var∧(nth b (zbR b v.var).toNat).ty=v.ty))=false:=List.all_eq_false.2 ⟨_,zal h,by simpa using h2⟩
 rw[this,Bool.false_and]
theorem zpG {a b:List Vt} (h:∀i,i<a.length→0≤zbR b (nth a i).var∧(nth b (zbR b (nth a i).var).toNat).ty=(nth a i).ty):zdM a b=decide (a.length=b.length):=by
 unfold zdM
 have:(a.all fun v=>decide (0≤zbR b v.var∧(nth b (zbR b v.var).toNat).ty=v.ty))=true:=by
  rw[List.all_eq_true]
  intro v hv
  obtain⟨j,hj,he⟩:=List.getElem_of_mem hv
  have:=h j hj
  rw[za9 hj,he] at this
  exact decide_eq_true this
 rw[this,Bool.true_and]
theorem zic {l:List Vt}{n:Int} (h:0≤zbR l n):(zbR l n).toNat<l.length∧((zbR l n).toNat:Int)=zbR l n:=by
 rcases ze7 l n with ⟨h1,_⟩|⟨k,h1,h2,_⟩
 ·omega
 ·rw[h1];simpa using h2
theorem zq6 {t u:Ty}:t=u↔t.data=u.data∧t.index=u.index:=by
 cases t;cases u;simp
theorem zlU {x y:List Vt} (hx:x.length≤1000000000000) (hy:y.length≤1000000000000):FnD Tryz.prog 198 [.d (zc3 x),.d (zc3 y)] [] (.d (.bool (zdM x y))) []:=by
 refine bd Tryz.f198 40 [33] [] fun w0 F0 own kept hk=>?_
 refine CWp.loopX (ι:=Nat) hk (fun i=>[(5,.d (.i (i:Int)))]) [4,6,7,8,9,10,11,12,13,14,15,16,17,18,19,20,21,22,23,24,25,26,27,28,29,30,31,32,33,34] (fun i=>[]) (fun i=>i≤x.length∧∀j,j<i→0≤zbR y (nth x j).var∧(nth y (zbR y (nth x j).var).toNat).ty=(nth x j).ty) (fun i=>x.length-i) 0 ⟨by omega,fun _ h=>absurd h (by omega)⟩ ⟨⟨_,rfl,(LeA.eqi (by first|rfl|(simp;done)|(simp_all;done)|omega))⟩,trivial⟩ trivial (fun x=>rfl) (fun i hg1=>?_)
 refine evc [33] [] ?_
 refine sq (fun h1 h1p h1s=>?_) fun h1 h1p h1s=>?_
 try simp only[Q] at h1p
 refine Walk.idx zdv .none rfl rfl rfl rfl (zay (by omega)) rfl ?_
 refine evs [33] [] ?_
 refine Walk.call (cr:=[]) zn5 (zfF hy) rfl .none rfl rfl (LeL.refl _) trivial rfl rfl rfl ?_
 refine evs [33] [] ?_
 refine sq (fun h2 h2p h2s=>?_) fun h2 h2p h2s=>?_
 try simp only[Q] at h2p
 refine dr ?_
 refine sqT ?_
 refine rn0 (r1 rfl) (.eqd ?_)
 rotate_left
 try simp only[Q] at h2p
 refine Walk.idx (i:=(zbR y (nth x i).var).toNat) zdv (.some rfl rfl h2) rfl rfl rfl (zic (l:=y) (n:=(nth x i).var) (by omega)).2.symm (zay (by first|omega|exact(zic (l:=y) (n:=(nth x i).var) (by omega)).1)) rfl ?_
 refine evd [33] [(22,false)] ?_ ⟨⟨_,rfl,h2⟩,trivial⟩
 refine Walk.idx zdv (.some rfl rfl h2) rfl rfl rfl rfl (zay (by first|omega|exact(zic (l:=y) (n:=(nth x i).var) (by omega)).1)) rfl ?_
 refine evd [33] [(22,false)] ?_ ⟨⟨_,rfl,h2⟩,trivial⟩
 refine Walk.neV eq33 (.some rfl rfl h2) rfl rfl rfl rfl rfl ?_
 refine evd [33] [(22,false)] ?_ ⟨⟨_,rfl,h2⟩,trivial⟩
 refine dr ?_
 refine sq (fun h4 h4p h4s=>?_) fun h4 h4p h4s=>?_
 try simp only[Q] at h4p
 refine rn0 (r1 rfl) (.eqd ?_)
 rotate_left
 try simp only[Q] at h4p
 refine ar ?_
 refine Exists.intro (i+1) ⟨⟨by omega,za2 hg1.2 (by rw[zq6];first|omega|(simp at h4;omega))⟩,(by omega),Sub.x (by kernel_rfl) (by kernel_rfl) ⟨⟨_,rfl,(LeA.eqi (by first|rfl|(simp;done)|(simp_all;done)|omega))⟩,trivial⟩ (by kernel_rfl) (by kernel_rfl) trivial⟩
 try simp only[Q] at h1p
 refine rn0 (r1 rfl) (.eqd ?_)
 rotate_left
 all_goals (refine congrArg D.bool ?_;first|(refine(zo0 (i:=i) (by omega) ?_).symm;simp only[zq6];first|omega|(simp at h4;omega))|(rw[zpG (fun j hj=>hg1.2 j (by simp at h1p;omega))];exact decide_eq_decide.2 (by simp;omega)))
theorem zjz {f:Ty→Pat→List Vt} (hf:∀t p,(f t p).length≤p.size):∀(a:List Ty) (b:List Pat),(zbg f a b).length≤Pats.size b
 | [],[]=>by simp[zbg]
 | [],_::_=>by simp[zbg]
 |_::_,[]=>by simp[zbg]
 |x::r,y::s=>by
  have h1:=zjz hf r s
  have h2:=hf x y
  simp only[zbg,List.length_append,Pats.size];omega
theorem zeg (w:List Data):∀(n:Nat) (t:Ty) (p:Pat),(zaO w n t p).length≤p.size
 |0,t,p=>by simp[zaO]
 |n+1,t,p=>by
  have h1:=zjz (zeg w n) (zdC w t p) p.kids
  have h2:(zaJ t p).length≤1:=by unfold zaJ;split<;>simp
  rw[Pat.size_eq]
  simp only[zaO,List.length_append];omega
theorem zb4 {f:Ty→Pat→List Vt}:∀ {a:List Ty}{b:List Pat}{i:Nat},i<a.length→i<b.length→zbg f (a.take (i+1)) (b.take (i+1))=zbg f (a.take i) (b.take i)++f (nth a i) (nth b i)
 |x::r,y::s,0,_,_=>by simp[zbg,nth]
 |x::r,y::s,i+1,h1,h2=>by
  have:=zb4 (f:=f) (a:=r) (b:=s) (i:=i) (by simpa using h1) (by simpa using h2)
  simp only[List.take_succ_cons,zbg]
  rw[this,List.append_assoc]
  rfl
theorem zl4 {f:Ty→Pat→List Vt}:∀ {a:List Ty}{b:List Pat}{i:Nat},zbg f (a.take i) (b.take i)=zbg f (a.take i) b
 | [],b,i=>by simp[zbg]
 |x::r,[],i=>by simp[zbg]
 |x::r,y::s,0=>by simp[zbg]
 |x::r,y::s,i+1=>by simp only[List.take_succ_cons,zbg];rw[zl4]
theorem zoY {f:Ty→Pat→List Vt} (hf:∀t p,(f t p).length≤p.size){a:List Ty}{b:List Pat}{i:Nat} (h:i<b.length):(zbg f (a.take i) (b.take i)).length+(nth b i).size≤Pats.size b:=by
 have h1:=zjz hf (a.take i) (b.take i)
 have h2:=Pats.size_split (pre:=b.take i) (y:=nth b i) (rest:=b.drop (i+1)) (l:=b) (by rw[←zbc h,List.take_append_drop])
 omega
def zdB (w:List Data) (t:Ty) (p:Pat):Nat:=(zdC w t p).length
theorem zjA (w:List Data) (t:Ty) (p:Pat):zdB w t p=if p.op=5 then 1 else (zag w t p).length:=by
 unfold zdB zdC
 by_cases h5:p.op=5
 ·rw[if_pos h5,if_pos h5]
  have:zag w t p=[t,t]:=by unfold zag;rw[if_neg (by omega),if_pos h5]
  rw[this];rfl
 ·rw[if_neg h5,if_neg h5]
theorem zns {w:List Data}{f:Ty→Pat→List Vt}{t:Ty}{p:Pat} (hl:p.kids.length=(zag w t p).length){i:Nat} (h:i=zdB w t p):zbg f ((zag w t p).take i) (p.kids.take i)=zbg f (zdC w t p) p.kids:=by
 subst h
 rw[zl4]
 congr 1
 rw[zjA]
 unfold zdC
 by_cases h5:p.op=5
 ·rw[if_pos h5,if_pos h5]
 ·rw[if_neg h5,if_neg h5,List.take_length]
theorem zb2 {w:List Data}{n:Nat}{t:Ty}{p:Pat} (h:zaw w (n+1) t p=true){i:Nat} (hi:i<p.kids.length):zaw w n (nth (zag w t p) i) (nth p.kids i)=true:=by
 have hl:=(zb3 h).2
 cases hs:zaw w n (nth (zag w t p) i) (nth p.kids i) with
 |true=>rfl
 |false=>
  have:=zbZ (f:=zaw w n) (a:=zag w t p) (b:=p.kids) (i:=i) (by omega) hl.symm hs
  simp only[zaw,this,Bool.and_false] at h
  cases h
theorem zfG {w:List Data} (hw:WT w):∀(n:Nat){a k:Int}{p:Pat}{xs:List Vt},zaw w n ⟨a,k⟩ p=true→n≤1000→TyIn w.length ⟨a,k⟩→p.ok→xs.length+p.size≤2000000000000→
  FnD Tryz.prog 106 [.gl 5 (xs.map Vt.c),.d (zao w),.agg [.d (.i a),.d (.i k)],.agg [.d (.i p.op),.d (.i p.ctor),.d (.i p.n),.d (.i p.m),.d (.i p.var),.d (zad p.kids)]] [(5,some (.tok (xs.map Vt.c).length 3))]
   (.gl 5 ((xs++zaO w n ⟨a,k⟩ p).map Vt.c)) [(5,some (.tok ((xs++zaO w n ⟨a,k⟩ p).map Vt.c).length 3))]
 |0,a,k,p,xs,hs,_,_,_,_=>by simp[zaw] at hs
 |n+1,a,k,p,xs,hs,hn,ht,hok,hb=>by
  rw[Pat.ok_iff] at hok
  rw[Pat.size_eq] at hb
  obtain⟨ho,hl⟩:=zb3 hs
  have hin:=zf4 hw ht ho
  have hlen:=zgz hw ht (zcC ho)
  have hvc5:p.op=5→zdB w ⟨a,k⟩ p=1:=fun h=>by rw[zjA,if_pos h]
  have hvc:¬p.op=5→zdB w ⟨a,k⟩ p=(zag w ⟨a,k⟩ p).length:=fun h=>by rw[zjA,if_neg h]
  have hv2:zdB w ⟨a,k⟩ p≤p.kids.length:=by
   unfold zdB zdC;split
   ·rw[List.length_take];omega
   ·omega
  have e5:p.op=5→(zag w ⟨a,k⟩ p).length=2:=fun h5=>by unfold zag;rw[if_neg (by omega),if_pos h5];rfl
  have hnm:(zaJ ⟨a,k⟩ p).length≤1:=by unfold zaJ;split<;>simp
  refine bd Tryz.f106 58 [] [1,5,6] fun w0 F0 own kept hk=>?_
  refine Walk.box (id:=3006) .none rfl rfl rfl rfl rfl rfl rfl ?_
  refine Walk.box (id:=3007) .none rfl rfl rfl rfl rfl rfl rfl ?_
  refine ev ?_
  refine CWp.regionJ ?_
  refine WRest.join 8 [(18,.d (.bool (decide (p.op=2∨p.op=6))))] [11,12,13,14,15,16,17] ?_ ?_
  refine ev ?_
  refine sq (fun h1 h1p h1s=>?_) fun h1 h1p h1s=>?_
  try simp only[Q,Pat.cs_len] at h1p
  exact jnb rfl
  try simp only[Q,Pat.cs_len] at h1p
  exact jnb rfl
  refine WRest.done ?_
  refine tv ?_
  refine sq (fun h2 h2p h2s=>?_) fun h2 h2p h2s=>?_
  try simp only[Q,Pat.cs_len] at h2p
  refine Walk.build zp4 (ks:=[0,1]) (xs:=[_,_]) rfl rfl .none rfl rfl rfl ?_
  refine Walk.sliceLit zdv znR rfl (by decide) (ks:=[0]) (xs:=[_]) rfl rfl (by decide) (by decide) .none rfl rfl rfl rfl ?_
  refine Walk.append zdv znT rfl .none rfl rfl rfl rfl (zaG rfl (by first|rfl|(simp;done)|(simp;omega))) (by simp) (by simp;omega) (by simp;omega) ?_
  refine ev ?_
  refine Walk.call (cr:=[]) ziW (zdh hw ht (zcC ho)) rfl .none rfl rfl (LeL.refl _) trivial rfl rfl rfl ?_
  refine ev ?_
  refine CWp.loopT 5 6 (ι:=Nat) hk (fun i=>[(0,.gl 5 ((xs++zaJ ⟨a,k⟩ p++zbg (zaO w n) ((zag w ⟨a,k⟩ p).take i) (p.kids.take i)).map Vt.c)),(10,.d (.i (i:Int)))]) [30,31,32,33,34,35,36,37,38,39,40,41,42,43,44,45,46,47,48,49,50,51,52,53,54,55,56] (fun i=>[(5,some (.tok ((xs++zaJ ⟨a,k⟩ p++zbg (zaO w n) ((zag w ⟨a,k⟩ p).take i) (p.kids.take i)).map Vt.c).length 3))]) (fun i=>i≤zdB w ⟨a,k⟩ p) (fun i=>zdB w ⟨a,k⟩ p-i) 0 (by omega) ⟨⟨_,rfl,(LeA.glg (by first|rfl|(simp[zbg,zaJ, *];done)|(rw[zb4 (by omega) (by omega)];simp[List.append_assoc];done)|omega))⟩,⟨⟨_,rfl,(LeA.eqi (by first|rfl|(simp[zbg,zaJ, *];done)|(rw[zb4 (by omega) (by omega)];simp[List.append_assoc];done)|omega))⟩,trivial⟩⟩ ⟨zae (by first|rfl|(simp;done)|(simp;omega)|(first|rfl|(simp[zbg,zaJ, *];done)|(rw[zb4 (by omega) (by omega)];simp[List.append_assoc];done)|omega)),trivial⟩ (fun x=>rfl) (fun i hg1=>?_)
  refine evc [] [1,5,6] ?_
  refine CWp.regionJ ?_
  refine WRest.join 13 [(42,.d (.bool (decide (i<zdB w ⟨a,k⟩ p))))] [30,31,32,33,34,35,36,37,38,39,40,41] ?_ ?_
  refine ev ?_
  refine sq (fun h3 h3p h3s=>?_) fun h3 h3p h3s=>?_
  try simp only[Q,Pat.cs_len] at h3p
  refine sq (fun h4 h4p h4s=>?_) fun h4 h4p h4s=>?_
  try simp only[Q,Pat.cs_len] at h4p
  exact jnb rfl
  try simp only[Q,Pat.cs_len] at h4p
  exact jnb rfl
  try simp only[Q,Pat.cs_len] at h3p
  exact jnb rfl
  refine WRest.done ?_
  refine tv ?_
  refine sq (fun h5 h5p h5s=>?_) fun h5 h5p h5s=>?_
  try simp only[Q,Pat.cs_len] at h5p
  refine Walk.idx zbf .none rfl rfl rfl rfl (zay (by omega)) rfl ?_
  refine evd [] [] ?_
  refine Walk.idx sl28 .none rfl rfl rfl rfl (zaK (by omega)) rfl ?_
  refine evd [] [] ?_
  refine Walk.callT 6 zhH (zfG hw n (a:=(nth (zag w ⟨a,k⟩ p) i).data) (k:=(nth (zag w ⟨a,k⟩ p) i).index) (p:=nth p.kids i) (xs:=xs++zaJ ⟨a,k⟩ p++zbg (zaO w n) ((zag w ⟨a,k⟩ p).take i) (p.kids.take i)) (zb2 hs (by omega)) (by omega) (hin _ (zal (by omega))) (Pats.ok_mem hok.2 _ (zal (by omega))) (by have:=zoY (zeg w n) (a:=zag w ⟨a,k⟩ p) (b:=p.kids) (i:=i) (by omega);simp only[List.length_append];omega)) rfl .none rfl rfl (.cons (.refl _) (.cons (.refl _) (.cons (.refl _) (.cons (.refl _) .nil)))) rfl (by first|rfl|(simp only[zak,occH,occE,Res.ids,List.cons_append,List.nil_append,AV.idsL,AV.ids,zab,zaa,zac,zan,List.map_cons,List.map_nil,upC];rfl)) ?_
  refine evd [] [] ?_
  refine dr ?_
  refine CWp.retok 0 6 5 rfl rfl rfl rfl rfl ?_
  refine evc [] [] ?_
  refine ar ?_
  refine Exists.intro (i+1) ⟨(by omega),(by omega),Sub.x (by kernel_rfl) (by kernel_rfl) ⟨⟨_,rfl,(LeA.glg (by first|rfl|(simp[zbg,zaJ, *];done)|(rw[zb4 (by omega) (by omega)];simp[List.append_assoc];done)|omega))⟩,⟨⟨_,rfl,(LeA.eqi (by first|rfl|(simp[zbg,zaJ, *];done)|(rw[zb4 (by omega) (by omega)];simp[List.append_assoc];done)|omega))⟩,trivial⟩⟩ (by kernel_rfl) (by kernel_rfl) ⟨zae (by first|rfl|(simp;done)|(simp;omega)|(first|rfl|(simp[zbg,zaJ, *];done)|(rw[zb4 (by omega) (by omega)];simp[List.append_assoc];done)|omega)),trivial⟩⟩
  try simp only[Q,Pat.cs_len] at h5p
  refine rn [(5,some (.tok ((xs++zaO w (n+1) ⟨a,k⟩ p).map Vt.c).length 3))] (r1 rfl) (.glg ?_) ⟨rfl,rfl⟩ (SubO.get ⟨.inr ?_,⟨.inl rfl,trivial⟩⟩) (zbj rfl)
  rotate_left 2
  try simp only[Q,Pat.cs_len] at h2p
  refine Walk.call (cr:=[]) ziW (zdh hw ht (zcC ho)) rfl .none rfl rfl (LeL.refl _) trivial rfl rfl rfl ?_
  refine ev ?_
  refine CWp.loopT 5 6 (ι:=Nat) hk (fun i=>[(0,.gl 5 ((xs++zaJ ⟨a,k⟩ p++zbg (zaO w n) ((zag w ⟨a,k⟩ p).take i) (p.kids.take i)).map Vt.c)),(10,.d (.i (i:Int)))]) [30,31,32,33,34,35,36,37,38,39,40,41,42,43,44,45,46,47,48,49,50,51,52,53,54,55,56] (fun i=>[(5,some (.tok ((xs++zaJ ⟨a,k⟩ p++zbg (zaO w n) ((zag w ⟨a,k⟩ p).take i) (p.kids.take i)).map Vt.c).length 3))]) (fun i=>i≤zdB w ⟨a,k⟩ p) (fun i=>zdB w ⟨a,k⟩ p-i) 0 (by omega) ⟨⟨_,rfl,(LeA.glg (by first|rfl|(simp[zbg,zaJ, *];done)|(rw[zb4 (by omega) (by omega)];simp[List.append_assoc];done)|omega))⟩,⟨⟨_,rfl,(LeA.eqi (by first|rfl|(simp[zbg,zaJ, *];done)|(rw[zb4 (by omega) (by omega)];simp[List.append_assoc];done)|omega))⟩,trivial⟩⟩ ⟨zae (by first|rfl|(simp;done)|(simp;omega)|(first|rfl|(simp[zbg,zaJ, *];done)|(rw[zb4 (by omega) (by omega)];simp[List.append_assoc];done)|omega)),trivial⟩ (fun x=>rfl) (fun i hg1=>?_)
  refine evc [] [1,5,6] ?_
  refine CWp.regionJ ?_
  refine WRest.join 13 [(42,.d (.bool (decide (i<zdB w ⟨a,k⟩ p))))] [30,31,32,33,34,35,36,37,38,39,40,41] ?_ ?_
  refine ev ?_
  refine sq (fun h6 h6p h6s=>?_) fun h6 h6p h6s=>?_
  try simp only[Q,Pat.cs_len] at h6p
  refine sq (fun h7 h7p h7s=>?_) fun h7 h7p h7s=>?_
  try simp only[Q,Pat.cs_len] at h7p
  exact jnb rfl
  try simp only[Q,Pat.cs_len] at h7p
  exact jnb rfl
  try simp only[Q,Pat.cs_len] at h6p
  exact jnb rfl
  refine WRest.done ?_
  refine tv ?_
  refine sq (fun h8 h8p h8s=>?_) fun h8 h8p h8s=>?_
  try simp only[Q,Pat.cs_len] at h8p
  refine Walk.idx zbf .none rfl rfl rfl rfl (zay (by omega)) rfl ?_
  refine evd [] [] ?_
  refine Walk.idx sl28 .none rfl rfl rfl rfl (zaK (by omega)) rfl ?_
  refine evd [] [] ?_
  refine Walk.callT 6 zhH (zfG hw n (a:=(nth (zag w ⟨a,k⟩ p) i).data) (k:=(nth (zag w ⟨a,k⟩ p) i).index) (p:=nth p.kids i) (xs:=xs++zaJ ⟨a,k⟩ p++zbg (zaO w n) ((zag w ⟨a,k⟩ p).take i) (p.kids.take i)) (zb2 hs (by omega)) (by omega) (hin _ (zal (by omega))) (Pats.ok_mem hok.2 _ (zal (by omega))) (by have:=zoY (zeg w n) (a:=zag w ⟨a,k⟩ p) (b:=p.kids) (i:=i) (by omega);simp only[List.length_append];omega)) rfl .none rfl rfl (.cons (.refl _) (.cons (.refl _) (.cons (.refl _) (.cons (.refl _) .nil)))) rfl (by first|rfl|(simp only[zak,occH,occE,Res.ids,List.cons_append,List.nil_append,AV.idsL,AV.ids,zab,zaa,zac,zan,List.map_cons,List.map_nil,upC];rfl)) ?_
  refine evd [] [] ?_
  refine dr ?_
  refine CWp.retok 0 6 5 rfl rfl rfl rfl rfl ?_
  refine evc [] [] ?_
  refine ar ?_
  refine Exists.intro (i+1) ⟨(by omega),(by omega),Sub.x (by kernel_rfl) (by kernel_rfl) ⟨⟨_,rfl,(LeA.glg (by first|rfl|(simp[zbg,zaJ, *];done)|(rw[zb4 (by omega) (by omega)];simp[List.append_assoc];done)|omega))⟩,⟨⟨_,rfl,(LeA.eqi (by first|rfl|(simp[zbg,zaJ, *];done)|(rw[zb4 (by omega) (by omega)];simp[List.append_assoc];done)|omega))⟩,trivial⟩⟩ (by kernel_rfl) (by kernel_rfl) ⟨zae (by first|rfl|(simp;done)|(simp;omega)|(first|rfl|(simp[zbg,zaJ, *];done)|(rw[zb4 (by omega) (by omega)];simp[List.append_assoc];done)|omega)),trivial⟩⟩
  try simp only[Q,Pat.cs_len] at h8p
  refine rn [(5,some (.tok ((xs++zaO w (n+1) ⟨a,k⟩ p).map Vt.c).length 3))] (r1 rfl) (.glg ?_) ⟨rfl,rfl⟩ (SubO.get ⟨.inr ?_,⟨.inl rfl,trivial⟩⟩) (zbj rfl)
  rotate_left 2
  all_goals (first|((rw[zaO,←zns (f:=zaO w n) hl (i:=i) (by omega)];simp);done)|((show some (Res.tok _ _)=some (Res.tok _ _);congr 2;rw[zaO,←zns (f:=zaO w n) hl (i:=i) (by omega)];simp)))
theorem zd5 {w:List Data} (hw:WT w){n:Nat}{a k:Int}{p:Pat} (hs:zaw w n ⟨a,k⟩ p=true) (hn:n≤1000) (ht:TyIn w.length ⟨a,k⟩) (hok:p.ok) (hb:p.size≤1000000000000):
  FnD Tryz.prog 106 [.nils,.d (zao w),.agg [.d (.i a),.d (.i k)],.agg [.d (.i p.op),.d (.i p.ctor),.d (.i p.n),.d (.i p.m),.d (.i p.var),.d (zad p.kids)]] [] (.d (zc3 (zaO w n ⟨a,k⟩ p))) []:=by
 have h:=zfG hw n (xs:=[]) hs hn ht hok (by simp only[List.length_nil];omega)
 exact FnD.nilTok (by simp[AV.idsL,AV.ids]) h
theorem zo3 {l:List Vt}{i:Nat} (h:i<l.length) (h2:¬zbR l (nth l i).var=i):znM l=false:=zbQ h (by simpa using h2)
theorem zeR {w:List Data} (hw:WT w):∀(n:Nat){a k:Int}{p:Pat},zaw w n ⟨a,k⟩ p=true→n≤1000→TyIn w.length ⟨a,k⟩→p.ok→p.size≤1000000000000→
  FnD Tryz.prog 162 [.d (zao w),.agg [.d (.i a),.d (.i k)],.agg [.d (.i p.op),.d (.i p.ctor),.d (.i p.n),.d (.i p.m),.d (.i p.var),.d (zad p.kids)]] [] (.d (.bool (linP w n ⟨a,k⟩ p))) []
 |0,a,k,p,hs,_,_,_,_=>by simp[zaw] at hs
 |n+1,a,k,p,hs,hn,ht,hok,hb=>by
  have hok':=hok
  rw[Pat.ok_iff] at hok
  have hb':=hb
  rw[Pat.size_eq] at hb'
  obtain⟨ho,hl⟩:=zb3 hs
  have hin:=zf4 hw ht ho
  have hlen:=zgz hw ht (zcC ho)
  have hvl:=zeg w (n+1) ⟨a,k⟩ p
  have hsz:∀i,i<p.kids.length→(nth p.kids i).size≤1000000000000:=fun i hi=>by have:=ze0 hi;omega
  by_cases hop5:p.op=5
  ·have e1:zag w ⟨a,k⟩ p=[⟨a,k⟩,⟨a,k⟩]:=by unfold zag;rw[if_neg (by omega),if_pos hop5]
   have hl2:p.kids.length=2:=by rw[hl,e1];rfl
   have s0:zaw w n ⟨a,k⟩ (nth p.kids 0)=true:=by have:=zb2 hs (i:=0) (by omega);rw[e1] at this;exact this
   have s1:zaw w n ⟨a,k⟩ (nth p.kids 1)=true:=by have:=zb2 hs (i:=1) (by omega);rw[e1] at this;exact this
   have v0:=zeg w n ⟨a,k⟩ (nth p.kids 0)
   have v1:=zeg w n ⟨a,k⟩ (nth p.kids 1)
   have z0:=hsz 0 (by omega)
   have z1:=hsz 1 (by omega)
   refine bd Tryz.f162 70 [] [] fun w0 F0 own kept hk=>?_
   refine Walk.box (id:=3004) .none rfl rfl rfl rfl rfl rfl rfl ?_
   refine Walk.box (id:=3005) .none rfl rfl rfl rfl rfl rfl rfl ?_
   refine ev ?_
   refine Walk.call (cr:=[]) ziW (zdh hw ht (zcC ho)) rfl .none rfl rfl (LeL.refl _) trivial rfl rfl rfl ?_
   refine ev ?_
   refine CWp.loopX (ι:=Nat) hk (fun i=>[(8,.d (.i (i:Int)))]) [6,15,16,17,18,19,20,21,22,23,24,25,26,27,28,29,30,31,32] (fun i=>[]) (fun i=>i≤(zag w ⟨a,k⟩ p).length∧∀i',i'<i→linP w n (nth (zag w ⟨a,k⟩ p) i') (nth p.kids i')=true) (fun i=>(zag w ⟨a,k⟩ p).length-i) 0 ⟨by omega,fun _ h=>absurd h (by omega)⟩ ⟨⟨_,rfl,(LeA.eqi (by first|rfl|(simp;done)|(simp_all;done)|omega))⟩,trivial⟩ trivial (fun x=>rfl) (fun i hg1=>?_)
   refine evc [] [] ?_
   refine sq (fun h1 h1p h1s=>?_) fun h1 h1p h1s=>?_
   try simp only[Q,Pat.cs_len] at h1p
   refine Walk.idx zbf .none rfl rfl rfl rfl (zay (by omega)) rfl ?_
   refine evd [] [] ?_
   refine Walk.idx sl28 .none rfl rfl rfl rfl (zaK (by omega)) rfl ?_
   refine evd [] [] ?_
   refine Walk.call (cr:=[]) zkV (zeR hw n (zb2 hs (by omega)) (by omega) (hin _ (zal (by omega))) (Pats.ok_mem hok.2 _ (zal (by omega))) (hsz _ (by omega))) rfl .none rfl rfl (LeL.refl _) trivial rfl rfl rfl ?_
   refine evd [] [] ?_
   refine dr ?_
   refine sq (fun h2 h2p h2s=>?_) fun h2 h2p h2s=>?_
   try simp only[Q,Pat.cs_len] at h2p
   refine rn0 (r1 rfl) (.eqd ?_)
   rotate_left
   try simp only[Q,Pat.cs_len] at h2p
   refine ar ?_
   refine Exists.intro (i+1) ⟨⟨by omega,za2 hg1.2 (by assumption)⟩,(by omega),Sub.x (by kernel_rfl) (by kernel_rfl) ⟨⟨_,rfl,(LeA.eqi (by first|rfl|(simp;done)|(simp_all;done)|omega))⟩,trivial⟩ (by kernel_rfl) (by kernel_rfl) trivial⟩
   try simp only[Q,Pat.cs_len] at h1p
   refine sq (fun h3 h3p h3s=>?_) fun h3 h3p h3s=>?_
   try simp only[Q,Pat.cs_len] at h3p
   refine Walk.idx (i:=0) sl28 .none rfl rfl rfl rfl (zaK (by omega)) rfl ?_
   refine evd [] [] ?_
   refine Walk.call (cr:=[]) zhH (zd5 hw s0 (by omega) ht (Pats.ok_mem hok.2 _ (zal (by omega))) z0) rfl .none rfl rfl (LeL.refl _) trivial rfl rfl rfl ?_
   refine evd [] [] ?_
   refine Walk.idx (i:=1) sl28 .none rfl rfl rfl rfl (zaK (by omega)) rfl ?_
   refine evd [] [] ?_
   refine Walk.call (cr:=[]) zhH (zd5 hw s1 (by omega) ht (Pats.ok_mem hok.2 _ (zal (by omega))) z1) rfl .none rfl rfl (LeL.refl _) trivial rfl rfl rfl ?_
   refine Walk.call (cr:=[]) zth (zlU (by omega) (by omega)) rfl .none rfl rfl (LeL.refl _) trivial rfl rfl rfl ?_
   refine evd [] [] ?_
   refine dr ?_
   refine rn0 (r1 rfl) (.eqd ?_)
   rotate_left
   try simp only[Q,Pat.cs_len] at h3p
   exfalso;simp_all
   all_goals (refine congrArg D.bool ?_;unfold linP;rw[if_pos hop5];first|(rw[zcv (by omega) (fun x hx=>hg1.2 x (by omega)),Bool.true_and])|(rw[zbZ (i:=i) (by omega) (by omega) (by assumption),Bool.false_and]))
  ·skip
   refine bd Tryz.f162 70 [] [] fun w0 F0 own kept hk=>?_
   refine Walk.box (id:=3004) .none rfl rfl rfl rfl rfl rfl rfl ?_
   refine Walk.box (id:=3005) .none rfl rfl rfl rfl rfl rfl rfl ?_
   refine ev ?_
   refine Walk.call (cr:=[]) ziW (zdh hw ht (zcC ho)) rfl .none rfl rfl (LeL.refl _) trivial rfl rfl rfl ?_
   refine ev ?_
   refine CWp.loopX (ι:=Nat) hk (fun i=>[(8,.d (.i (i:Int)))]) [6,15,16,17,18,19,20,21,22,23,24,25,26,27,28,29,30,31,32] (fun i=>[]) (fun i=>i≤(zag w ⟨a,k⟩ p).length∧∀i',i'<i→linP w n (nth (zag w ⟨a,k⟩ p) i') (nth p.kids i')=true) (fun i=>(zag w ⟨a,k⟩ p).length-i) 0 ⟨by omega,fun _ h=>absurd h (by omega)⟩ ⟨⟨_,rfl,(LeA.eqi (by first|rfl|(simp;done)|(simp_all;done)|omega))⟩,trivial⟩ trivial (fun x=>rfl) (fun i hg1=>?_)
   refine evc [] [] ?_
   refine sq (fun h1 h1p h1s=>?_) fun h1 h1p h1s=>?_
   try simp only[Q,Pat.cs_len] at h1p
   refine Walk.idx zbf .none rfl rfl rfl rfl (zay (by omega)) rfl ?_
   refine evd [] [] ?_
   refine Walk.idx sl28 .none rfl rfl rfl rfl (zaK (by omega)) rfl ?_
   refine evd [] [] ?_
   refine Walk.call (cr:=[]) zkV (zeR hw n (zb2 hs (by omega)) (by omega) (hin _ (zal (by omega))) (Pats.ok_mem hok.2 _ (zal (by omega))) (hsz _ (by omega))) rfl .none rfl rfl (LeL.refl _) trivial rfl rfl rfl ?_
   refine evd [] [] ?_
   refine dr ?_
   refine sq (fun h2 h2p h2s=>?_) fun h2 h2p h2s=>?_
   try simp only[Q,Pat.cs_len] at h2p
   refine rn0 (r1 rfl) (.eqd ?_)
   rotate_left
   try simp only[Q,Pat.cs_len] at h2p
   refine ar ?_
   refine Exists.intro (i+1) ⟨⟨by omega,za2 hg1.2 (by assumption)⟩,(by omega),Sub.x (by kernel_rfl) (by kernel_rfl) ⟨⟨_,rfl,(LeA.eqi (by first|rfl|(simp;done)|(simp_all;done)|omega))⟩,trivial⟩ (by kernel_rfl) (by kernel_rfl) trivial⟩
   try simp only[Q,Pat.cs_len] at h1p
   refine sq (fun h3 h3p h3s=>?_) fun h3 h3p h3s=>?_
   try simp only[Q,Pat.cs_len] at h3p
   exfalso;simp_all
   try simp only[Q,Pat.cs_len] at h3p
   refine Walk.call (cr:=[]) zhH (zd5 hw hs hn ht hok' hb) rfl .none rfl rfl (LeL.refl _) trivial rfl rfl rfl ?_
   refine ev ?_
   refine CWp.loopX (ι:=Nat) hk (fun j=>[(10,.d (.i (j:Int)))]) [6,55,56,57,58,59,60,61,62,63,64,65,66,67,68,69] (fun j=>[]) (fun j=>j≤(zaO w (n+1) ⟨a,k⟩ p).length∧∀j',j'<j→zbR (zaO w (n+1) ⟨a,k⟩ p) (nth (zaO w (n+1) ⟨a,k⟩ p) j').var=(j':Int)) (fun j=>(zaO w (n+1) ⟨a,k⟩ p).length-j) 0 ⟨by omega,fun _ h=>absurd h (by omega)⟩ ⟨⟨_,rfl,(LeA.eqi (by first|rfl|(simp;done)|(simp_all;done)|omega))⟩,trivial⟩ trivial (fun x=>rfl) (fun j hg2=>?_)
   refine evc [] [] ?_
   refine sq (fun h4 h4p h4s=>?_) fun h4 h4p h4s=>?_
   try simp only[Q,Pat.cs_len] at h4p
   refine Walk.idx zdv .none rfl rfl rfl rfl (zay (by omega)) rfl ?_
   refine ev ?_
   refine Walk.call (cr:=[]) zn5 (zfF (by omega)) rfl .none rfl rfl (LeL.refl _) trivial rfl rfl rfl ?_
   refine ev ?_
   refine sq (fun h5 h5p h5s=>?_) fun h5 h5p h5s=>?_
   try simp only[Q,Pat.cs_len] at h5p
   refine rn0 (r1 rfl) (.eqd ?_)
   rotate_left
   try simp only[Q,Pat.cs_len] at h5p
   refine ar ?_
   refine Exists.intro (j+1) ⟨⟨by omega,za2 hg2.2 (by omega)⟩,(by omega),Sub.x (by kernel_rfl) (by kernel_rfl) ⟨⟨_,rfl,(LeA.eqi (by first|rfl|(simp;done)|(simp_all;done)|omega))⟩,trivial⟩ (by kernel_rfl) (by kernel_rfl) trivial⟩
   try simp only[Q,Pat.cs_len] at h4p
   refine rn0 (r1 rfl) (.eqd ?_)
   rotate_left
   all_goals (refine congrArg D.bool ?_;unfold linP;rw[if_neg hop5];first|(rw[zbZ (i:=i) (by omega) (by omega) (by assumption),Bool.false_and];done)|(rw[zcv (by omega) (fun x hx=>hg1.2 x (by omega)),Bool.true_and];first|(rw[zo3 (i:=j) (by omega) (by omega)];done)|(symm;exact zeh (fun x hx=>decide_eq_true (hg2.2 x (by omega))))))
def isP (w:List Data) (t:Ty) (p:Pat):Bool:=zaw w 10 t p&&(decide ((p.size:Int)≤60)&&linP w 10 t p)
theorem zgX {w:List Data} (hw:WT w){a k:Int}{p:Pat} (ht:TyIn w.length ⟨a,k⟩) (hok:p.ok) (hb:p.size≤1000000000000):
  FnD Tryz.prog 104 [.d (zao w),.agg [.d (.i a),.d (.i k)],.agg [.d (.i p.op),.d (.i p.ctor),.d (.i p.n),.d (.i p.m),.d (.i p.var),.d (zad p.kids)]] [] (.d (.bool (isP w ⟨a,k⟩ p))) []:=by
 have hc:=zoa p 60
 by_cases hs:zaw w 10 ⟨a,k⟩ p=true
 ·skip
  refine bd Tryz.f104 22 [] [1] fun w0 F0 own kept hk=>?_
  refine Walk.box (id:=3004) .none rfl rfl rfl rfl rfl rfl rfl ?_
  refine Walk.box (id:=3005) .none rfl rfl rfl rfl rfl rfl rfl ?_
  refine ev ?_
  refine CWp.regionJ ?_
  refine WRest.join 9 [(15,.d (.bool (decide ((p.size:Int)≤60))))] [7,8,9,10,11,12,13,14] ?_ ?_
  refine ev ?_
  refine Walk.call (cr:=[]) zn3 (zfr hw 10 (by omega) (by omega) ht hok) rfl .none rfl rfl (LeL.refl _) trivial rfl rfl rfl ?_
  refine ev ?_
  refine sq (fun h1 h1p h1s=>?_) fun h1 h1p h1s=>?_
  try simp only[Q] at h1p
  refine Walk.call (cr:=[]) zn4 (zfq _ (Nat.le_refl _) hb hok (by omega) (by omega)) rfl (.some rfl rfl h1) rfl rfl (LeL.refl _) trivial rfl rfl rfl ?_
  refine evs [] [(11,true)] ?_ ⟨⟨_,rfl,h1⟩,trivial⟩
  exact jnb rfl
  try simp only[Q] at h1p
  exact jnb rfl
  refine WRest.done ?_
  refine ev ?_
  refine sq (fun h2 h2p h2s=>?_) fun h2 h2p h2s=>?_
  try simp only[Q] at h2p
  refine Walk.call (cr:=[]) zkV (zeR hw 10 hs (by omega) ht hok hb) rfl (.some rfl rfl h2) rfl rfl (LeL.refl _) trivial rfl rfl rfl ?_
  refine evs [] [(16,true)] ?_ ⟨⟨_,rfl,h2⟩,trivial⟩
  refine rn0 (r1 rfl) (.eqd ?_)
  rotate_left
  try simp only[Q] at h2p
  refine rn0 (r1 rfl) (.eqd ?_)
  rotate_left
  all_goals (refine congrArg D.bool ?_;unfold isP;simp only[hs,Bool.true_and];first|(simp_all;done)|(simp_all;intro;omega))
 ·have hs':zaw w 10 ⟨a,k⟩ p=false:=by simpa using hs
  refine bd Tryz.f104 22 [] [1] fun w0 F0 own kept hk=>?_
  refine Walk.box (id:=3004) .none rfl rfl rfl rfl rfl rfl rfl ?_
  refine Walk.box (id:=3005) .none rfl rfl rfl rfl rfl rfl rfl ?_
  refine ev ?_
  refine CWp.regionJ ?_
  refine WRest.join 9 [(15,.d (.bool (false)))] [7,8,9,10,11,12,13,14] ?_ ?_
  refine ev ?_
  refine Walk.call (cr:=[]) zn3 (zfr hw 10 (by omega) (by omega) ht hok) rfl .none rfl rfl (LeL.refl _) trivial rfl rfl rfl ?_
  refine ev ?_
  refine sq (fun h1 h1p h1s=>?_) fun h1 h1p h1s=>?_
  try simp only[Q] at h1p
  refine Walk.call (cr:=[]) zn4 (zfq _ (Nat.le_refl _) hb hok (by omega) (by omega)) rfl (.some rfl rfl h1) rfl rfl (LeL.refl _) trivial rfl rfl rfl ?_
  refine evs [] [(11,true)] ?_ ⟨⟨_,rfl,h1⟩,trivial⟩
  exact jnb rfl
  try simp only[Q] at h1p
  exact jnb rfl
  refine WRest.done ?_
  refine ev ?_
  refine sq (fun h2 h2p h2s=>?_) fun h2 h2p h2s=>?_
  try simp only[Q] at h2p
  refine Walk.call (cr:=[]) zkV (show FnD Tryz.prog 162 [.d (zao w),.agg [.d (.i a),.d (.i k)],.agg [.d (.i p.op),.d (.i p.ctor),.d (.i p.n),.d (.i p.m),.d (.i p.var),.d (zad p.kids)]] [] (.d (.bool true)) [] from absurd (by assumption:(false:Bool)=true) (by simp)) rfl (.some rfl rfl h2) rfl rfl (LeL.refl _) trivial rfl rfl rfl ?_
  refine evs [] [(16,true)] ?_ ⟨⟨_,rfl,h2⟩,trivial⟩
  refine rn0 (r1 rfl) (.eqd ?_)
  rotate_left
  try simp only[Q] at h2p
  refine rn0 (r1 rfl) (.eqd ?_)
  rotate_left
  all_goals (refine congrArg D.bool ?_;unfold isP;simp_all)
end Go.Proofs.YtfiihhedihkdoaaGreat
