/-
  THE ABSTRACT WALK AND THE WALKS, part 3 of 5: the parts F4, F5, F6, Wv, G1, F12, F13, G2, G3, G4, F15, F20, F21, F24, F25, F22.
-/
import Derived.Test.YtlfipehhbdjnjaaGreatT532
namespace Go.Proofs.YtlfipehhbdjnjaaGreat
open Go
set_option linter.unusedSimpArgs false
set_option linter.unusedVariables false
set_option maxRecDepth 100000
set_option maxHeartbeats 2000000
def fits (c:Ctor) (k:Int):Bool:=decide (k=0)||(decide (c.index=0)||decide (c.index=k))
def zaY (k:Int):Nat->List Ctor->List Int
 |_,[]=>[]
 |i,c::r=>if fits c k then (i:Int)::zaY k (i+1) r else zaY k (i+1) r
def zck (k:Int) (t:Ty):Ty:=if t.index = -1 then ⟨t.data,k⟩ else t
def zcv (c:Ctor) (k:Int):Int:=if c.index=0 then k else c.index
theorem zf4 (k:Int):∀(l:List Ctor) (i:Nat),(zaY k i l).length<=l.length
 | [],_=>by simp[zaY]
 |c::r,i=>by
  have:=zf4 k r (i+1);unfold zaY;split<;>simp<;>omega
theorem ziT {w:List Data}{k:Int}:FnD Tryz.prog 234 [.d (zam w),.agg [.d (.i (-1)),.d (.i k)]] [] (.d (zcs [])) []:=by
 refine bd Tryz.f234 44 [5] [] fun w0 F0 own kept hk=>?_;refine bx 3003 ?_;refine evs [5] [] ?_;refine xaG 1 1 .none rfl rfl ?_;refine tv ?_;refine sq ?_ ?_<;>intro h1 h1p h1s<;>(try simp only[Q] at h1p);exact absurd h1 (by simp)

 focus (refine rn0 (r1 rfl) (.gld ?_);all_goals (rfl))
theorem zlC {w:List Data}{d:Nat}{k:Int} (hs:WSmall w) (hd:d<w.length):FnD Tryz.prog 234 [.d (zam w),.agg [.d (.i d),.d (.i k)]] [] (.d (zcs (zaY k 0 (nth w d).ctors))) []:=by
 have hb:=hs.ctors d;refine bd Tryz.f234 44 [5] [] fun w0 F0 own kept hk=>?_;refine bx 3003 ?_;refine evs [5] [] ?_;refine xaG 1 1 .none rfl rfl ?_;refine tv ?_;refine sq ?_ ?_<;>intro h1 h1p h1s<;>(try simp only[Q] at h1p);refine xaS sl23 .none rfl rfl rfl rfl (zax hd) rfl ?_;refine evs [5] [] ?_;refine xam (ι:=List (Ctor)×List (Ctor)×(List Int)) hk (fun x=>[(18,.d (.i (x.1.length:Int))),(5,.gl 1 (x.2.2.map fun n=>[D.i n]))]) [6,7,19,20,21,22,23,24,25,26,27,28,29,30,31,32,33,34,35,36,37,38,39,40,41,42] (fun x=>[(1,some (.tok ((x.2.2.map fun n=>[D.i n])).length 1))]) (fun x=>x.1++x.2.1=(nth w d).ctors/\x.2.2++zaY k x.1.length x.2.1=zaY k 0 (nth w d).ctors/\x.2.2.length<=x.1.length) (fun x=>x.2.1.length) ([],(nth w d).ctors,[]) ⟨by simp,by simp,by simp⟩ ⟨⟨_,rfl,xaz ?_⟩,⟨⟨_,rfl,LeA.glg ?_⟩,trivial⟩⟩ ⟨zad ?_,trivial⟩ (fun x=>rfl) (fun x hg1=>?_);iterate 3 focus (rfl)
 obtain⟨pre,rest,acc⟩:=x;dsimp only at hg1 ⊢;refine evc [5] [] ?_;refine sq ?_ ?_<;>intro h2 h2p h2s<;>(try simp only[Q] at h2p);rcases rest with _|⟨y,rest⟩
 ·exfalso;simp_all
 refine xaS zbV .none rfl rfl rfl rfl (zaR hg1.1) rfl ?_;refine evs [5] [] ?_;refine ab 3007 zfQ ?_;refine evs [5] [] ?_;refine so zfP ?_;refine tv ?_;refine sq ?_ ?_<;>intro h3 h3p h3s<;>(try simp only[Q] at h3p);refine sqT ?_;refine sqT ?_;refine si [0] [_] sl29 tz3 ?_;refine ap sl29 zz3 rfl rfl rfl (by simp) (by have hl:=hg1.2.2;simp;omega) ?_;refine asg ?_;refine tv ?_;refine ar ?_;refine xah ((pre++[y],rest,if fits y k then acc++[(pre.length:Int)] else acc)) ⟨⟨(by have hz:=hg1.1;rw[<-hz];simp),⟨by rw[<-hg1.2.1];by_cases hf:fits y k=true<;>simp[zaY,hf],by split<;>simp<;>omega⟩⟩,(by simp),sx ⟨⟨_,rfl,xaz ?_⟩,⟨⟨_,rfl,LeA.glg ?_⟩,trivial⟩⟩ ⟨zad ?_,trivial⟩⟩;iterate 3 focus ((simp[fits,h1s,h1p,h2s,h2p,h3s,h3p];done))
 refine sq ?_ ?_<;>intro h5 h5p h5s<;>(try simp only[Q] at h5p);refine sqT ?_;refine si [0] [_] sl29 tz3 ?_;refine ap sl29 zz3 rfl rfl rfl (by simp) (by have hl:=hg1.2.2;simp;omega) ?_;refine asg ?_;refine tv ?_;refine ar ?_;refine xah ((pre++[y],rest,if fits y k then acc++[(pre.length:Int)] else acc)) ⟨⟨(by have hz:=hg1.1;rw[<-hz];simp),⟨by rw[<-hg1.2.1];by_cases hf:fits y k=true<;>simp[zaY,hf],by split<;>simp<;>omega⟩⟩,(by simp),sx ⟨⟨_,rfl,xaz ?_⟩,⟨⟨_,rfl,LeA.glg ?_⟩,trivial⟩⟩ ⟨zad ?_,trivial⟩⟩;iterate 3 focus ((simp[fits,h1s,h1p,h2s,h2p,h3s,h3p,h5s,h5p];done))
 refine sq ?_ ?_<;>intro h7 h7p h7s<;>(try simp only[Q] at h7p);refine si [0] [_] sl29 tz3 ?_;refine ap sl29 zz3 rfl rfl rfl (by simp) (by have hl:=hg1.2.2;simp;omega) ?_;refine asg ?_;refine tv ?_;refine ar ?_;refine xah ((pre++[y],rest,if fits y k then acc++[(pre.length:Int)] else acc)) ⟨⟨(by have hz:=hg1.1;rw[<-hz];simp),⟨by rw[<-hg1.2.1];by_cases hf:fits y k=true<;>simp[zaY,hf],by split<;>simp<;>omega⟩⟩,(by simp),sx ⟨⟨_,rfl,xaz ?_⟩,⟨⟨_,rfl,LeA.glg ?_⟩,trivial⟩⟩ ⟨zad ?_,trivial⟩⟩;iterate 3 focus ((simp[fits,h1s,h1p,h2s,h2p,h3s,h3p,h5s,h5p,h7s,h7p];done))
 refine ar ?_;refine xah ((pre++[y],rest,if fits y k then acc++[(pre.length:Int)] else acc)) ⟨⟨(by have hz:=hg1.1;rw[<-hz];simp),⟨by rw[<-hg1.2.1];by_cases hf:fits y k=true<;>simp[zaY,hf],by split<;>simp<;>omega⟩⟩,(by simp),sx ⟨⟨_,rfl,xaz ?_⟩,⟨⟨_,rfl,LeA.glg ?_⟩,trivial⟩⟩ ⟨zad ?_,trivial⟩⟩;iterate 3 focus ((simp[fits,h1s,h1p,h2s,h2p,h3s,h3p,h5s,h5p,h7s,h7p];done))
 have hrest:rest=[]:=by
  rcases rest with _|⟨a,b⟩
  ·rfl
  ·exfalso;have hz:=congrArg List.length (hg1.1);simp only[xaa,xab,xac] at hz;omega
 subst hrest;refine rn0 (r1 rfl) (.gld ?_);rotate_left;exfalso;simp at h1<;>omega;all_goals (have e:=hg1.2.1;simp only[zaY,List.append_nil] at e;rw[e])
theorem zm8 {s:Str}{l:List Ty}{i k:Int}:FnD Tryz.prog 300 [.agg [.d (.str s),.d (zbk l),.d (.i i)],.d (.i k)] [] (.d (.bool (fits ⟨s,l,i⟩ k))) []:=by
 refine bd Tryz.f300 18 [] [] fun w0 F0 own kept hk=>?_;refine bx 3002 ?_;refine ev ?_;refine sq ?_ ?_<;>intro h1 h1p h1s<;>(try simp only[Q] at h1p);refine sqT ?_;focus (refine rq ?_;all_goals (refine congrArg D.bool ?_;simp[fits,h1s,h1p]))
 refine sq ?_ ?_<;>intro h2 h2p h2s<;>(try simp only[Q] at h2p);focus (refine rq ?_;all_goals (refine congrArg D.bool ?_;simp[fits,h1s,h1p,h2s,h2p]))
 focus (refine rq ?_;all_goals (refine congrArg D.bool ?_;simp[fits,h1s,h1p,h2s,h2p]))
theorem ziY {w:List Data}{k:Int}:FnD Tryz.prog 226 [.d (zam w),.agg [.d (.i (-1)),.d (.i k)]] [] (.d (zcs [])) []:=by
 refine bd Tryz.f226 40 [] [] fun w0 F0 own kept hk=>?_;refine bx 3003 ?_;refine ev ?_;refine xbg 1 sl29 .none rfl rfl ?_;refine ev ?_;refine sq ?_ ?_<;>intro h1 h1p h1s<;>(try simp only[Q] at h1p)

 focus (refine rn0 (r1 rfl) (.gld ?_);all_goals (rfl))
 exact absurd h1 (by simp)
theorem zmj {w:List Data}{d:Nat}{k:Int} (hs:WSmall w) (hd:d<w.length):FnD Tryz.prog 226 [.d (zam w),.agg [.d (.i d),.d (.i k)]] [] (.d (zcs (zaY k 0 (nth w d).ctors))) []:=by
 have hb:=hs.ctors d;refine bd Tryz.f226 40 [] [] fun w0 F0 own kept hk=>?_;refine bx 3003 ?_;refine ev ?_;refine xbg 1 sl29 .none rfl rfl ?_;refine ev ?_;refine sq ?_ ?_<;>intro h1 h1p h1s<;>(try simp only[Q] at h1p);exfalso;simp at h1<;>omega;refine xam (ι:=List (Ctor)×List (Ctor)×(List Int)) hk (fun x=>[(6,.d (.i (x.1.length:Int))),(5,.gl 1 (x.2.2.map fun n=>[D.i n]))]) [12,13,14,15,16,17,18,19,20,21,22,23,24,25,26,27,28,29,30,31,32,33,34,35,36,37,38] (fun x=>[(1,some (.tok ((x.2.2.map fun n=>[D.i n])).length 1))]) (fun x=>x.1++x.2.1=(nth w d).ctors/\x.2.2++zaY k x.1.length x.2.1=zaY k 0 (nth w d).ctors/\x.2.2.length<=x.1.length) (fun x=>x.2.1.length) ([],(nth w d).ctors,[]) ⟨by simp,by simp,by simp⟩ ⟨⟨_,rfl,xaz ?_⟩,⟨⟨_,rfl,LeA.glg ?_⟩,trivial⟩⟩ ⟨zad ?_,trivial⟩ (fun x=>rfl) (fun x hg1=>?_);iterate 3 focus (rfl)
 obtain⟨pre,rest,acc⟩:=x;dsimp only at hg1 ⊢;refine evc [] [] ?_;refine xaS sl23 .none rfl rfl rfl rfl (zax hd) rfl ?_;refine ev ?_;refine sq ?_ ?_<;>intro h2 h2p h2s<;>(try simp only[Q] at h2p);rcases rest with _|⟨y,rest⟩
 ·exfalso;simp_all
 refine xaS sl23 .none rfl rfl rfl rfl (zax hd) rfl ?_;refine evd [] [] ?_;refine xaS zbV .none rfl rfl rfl rfl (zaR hg1.1) rfl ?_;refine evd [] [] ?_;refine wc zul (zm8) rfl rfl ?_;refine dr ?_;refine sq ?_ ?_<;>intro h3 h3p h3s<;>(try simp only[Q] at h3p);refine si [0] [_] sl29 tz3 ?_;refine ap sl29 zz3 rfl rfl rfl (by simp) (by have hl:=hg1.2.2;simp;omega) ?_;refine ev ?_;refine ar ?_;refine xah ((pre++[y],rest,if fits y k then acc++[(pre.length:Int)] else acc)) ⟨⟨(by have hz:=hg1.1;rw[<-hz];simp),⟨by rw[<-hg1.2.1];by_cases hf:fits y k=true<;>simp[zaY,hf],by split<;>simp<;>omega⟩⟩,(by simp),sx ⟨⟨_,rfl,xaz ?_⟩,⟨⟨_,rfl,LeA.glg ?_⟩,trivial⟩⟩ ⟨zad ?_,trivial⟩⟩;iterate 3 focus ((simp[Ctor.eta,h1s,h1p,h2s,h2p,h3s,h3p];done))
 refine ar ?_;refine xah ((pre++[y],rest,if fits y k then acc++[(pre.length:Int)] else acc)) ⟨⟨(by have hz:=hg1.1;rw[<-hz];simp),⟨by rw[<-hg1.2.1];by_cases hf:fits y k=true<;>simp[zaY,hf],by split<;>simp<;>omega⟩⟩,(by simp),sx ⟨⟨_,rfl,xaz ?_⟩,⟨⟨_,rfl,LeA.glg ?_⟩,trivial⟩⟩ ⟨zad ?_,trivial⟩⟩;iterate 3 focus ((simp[Ctor.eta,h1s,h1p,h2s,h2p,h3s,h3p];done))
 have hrest:rest=[]:=by
  rcases rest with _|⟨a,b⟩
  ·rfl
  ·exfalso;have hz:=congrArg List.length (hg1.1);simp only[xaa,xab,xac] at hz;omega
 subst hrest;refine rn0 (r1 rfl) (.gld ?_);rotate_left;all_goals (have e:=hg1.2.1;simp only[zaY,List.append_nil] at e;rw[e])
theorem zk7 {s:Str}{l:List Ty}{i k:Int}:FnD Tryz.prog 320 [.agg [.d (.str s),.d (zbk l),.d (.i i)],.d (.i k)] [] (.d (.i (zcv ⟨s,l,i⟩ k))) []:=by
 refine bd Tryz.f320 11 [] [] fun w0 F0 own kept hk=>?_;refine bx 3002 ?_;refine ev ?_;refine sq ?_ ?_<;>intro h1 h1p h1s<;>(try simp only[Q] at h1p);focus (refine rq ?_;all_goals (refine congrArg D.i ?_;simp[zcv,h1s,h1p]))
 focus (refine rq ?_;all_goals (refine congrArg D.i ?_;simp[zcv,h1s,h1p]))
theorem zkL {w:List Data}{d c:Nat}{k:Int} (hs:WSmall w) (hd:d<w.length) (hc:c<(nth w d).ctors.length):FnD Tryz.prog 144 [.d (zam w),.agg [.d (.i d),.d (.i k)],.d (.i c)] [] (.d (zbk ((nth (nth w d).ctors c).args.map (zck (zcv (nth (nth w d).ctors c) k))))) []:=by
 have hb:=(hs.ctor _ (zal hd) _ (zal hc)).2;refine bd Tryz.f144 45 [9] [] fun w0 F0 own kept hk=>?_;refine bx 3004 ?_;refine evs [9] [] ?_;refine xaS sl23 .none rfl rfl rfl rfl (zax hd) rfl ?_;refine evs [9] [] ?_;refine xaS zbV .none rfl rfl rfl rfl (zax hc) rfl ?_;refine evs [9] [] ?_;refine ab 3007 zfQ ?_;refine so zfP ?_;refine tv ?_;refine sq ?_ ?_<;>intro h1 h1p h1s<;>(try simp only[Q] at h1p);refine xaG 1 2 .none rfl rfl ?_;refine tv ?_;refine xam (ι:=List (Ty)×List (Ty)) hk (fun x=>[(30,.d (.i (x.1.length:Int))),(9,.gl 1 ((x.1.map (zck (zcv (nth (nth w d).ctors c) k))).map Ty.c))]) [11,31,32,33,34,35,36,37,38,39,40,41,42,43] (fun x=>[(1,some (.tok (((x.1.map (zck (zcv (nth (nth w d).ctors c) k))).map Ty.c)).length 2))]) (fun x=>x.1++x.2=(nth (nth w d).ctors c).args) (fun x=>x.2.length) ([],(nth (nth w d).ctors c).args) (by simp) ⟨⟨_,rfl,xaz ?_⟩,⟨⟨_,rfl,LeA.glg ?_⟩,trivial⟩⟩ ⟨zad ?_,trivial⟩ (fun x=>rfl) (fun x hg1=>?_);iterate 3 focus (rfl)
 obtain⟨pre,rest⟩:=x;dsimp only at hg1 ⊢;refine evc [9] [] ?_;refine sq ?_ ?_<;>intro h2 h2p h2s<;>(try simp only[Q] at h2p);rcases rest with _|⟨y,rest⟩
 ·exfalso;simp_all
 refine xaS za4 .none rfl rfl rfl rfl (zaR hg1) rfl ?_;refine evs [9] [] ?_;refine ab 3011 tz25 ?_;refine so ty25 ?_;refine tv ?_;refine sq ?_ ?_<;>intro h3 h3p h3s<;>(try simp only[Q] at h3p);refine so ty3 ?_;refine tv ?_;refine si [0] [_] za4 tz25 ?_;refine ap za4 zz25 rfl rfl rfl (by simp) (by have hl:=congrArg List.length hg1;simp at hl;simp;omega) ?_;refine asg ?_;refine tv ?_;refine ar ?_;refine xah ((pre++[y],rest)) ⟨(by have hz:=hg1;rw[<-hz];simp),(by simp),sx ⟨⟨_,rfl,xaz ?_⟩,⟨⟨_,rfl,LeA.glg ?_⟩,trivial⟩⟩ ⟨zad ?_,trivial⟩⟩;iterate 3 focus ((simp[zck,zcv,h1s,h1p,h2s,h2p,h3s,h3p];done))
 refine si [0] [_] za4 tz25 ?_;refine ap za4 zz25 rfl rfl rfl (by simp) (by have hl:=congrArg List.length hg1;simp at hl;simp;omega) ?_;refine asg ?_;refine tv ?_;refine ar ?_;refine xah ((pre++[y],rest)) ⟨(by have hz:=hg1;rw[<-hz];simp),(by simp),sx ⟨⟨_,rfl,xaz ?_⟩,⟨⟨_,rfl,LeA.glg ?_⟩,trivial⟩⟩ ⟨zad ?_,trivial⟩⟩;iterate 3 focus ((simp[zck,zcv,h1s,h1p,h2s,h2p,h3s,h3p];done))
 have hrest:rest=[]:=by
  rcases rest with _|⟨a,b⟩
  ·rfl
  ·exfalso;have hz:=congrArg List.length (hg1);simp only[xaa,xab,xac] at hz;omega
 subst hrest;focus (refine rn0 (r1 rfl) (.gld ?_);all_goals (simp[<-hg1,zcv,h1s,h1p,h2s,h2p]))
 refine xaG 1 2 .none rfl rfl ?_;refine tv ?_;refine xam (ι:=List (Ty)×List (Ty)) hk (fun x=>[(30,.d (.i (x.1.length:Int))),(9,.gl 1 ((x.1.map (zck (zcv (nth (nth w d).ctors c) k))).map Ty.c))]) [11,31,32,33,34,35,36,37,38,39,40,41,42,43] (fun x=>[(1,some (.tok (((x.1.map (zck (zcv (nth (nth w d).ctors c) k))).map Ty.c)).length 2))]) (fun x=>x.1++x.2=(nth (nth w d).ctors c).args) (fun x=>x.2.length) ([],(nth (nth w d).ctors c).args) (by simp) ⟨⟨_,rfl,xaz ?_⟩,⟨⟨_,rfl,LeA.glg ?_⟩,trivial⟩⟩ ⟨zad ?_,trivial⟩ (fun x=>rfl) (fun x hg1=>?_);iterate 3 focus (rfl)
 obtain⟨pre,rest⟩:=x;dsimp only at hg1 ⊢;refine evc [9] [] ?_;refine sq ?_ ?_<;>intro h4 h4p h4s<;>(try simp only[Q] at h4p);rcases rest with _|⟨y,rest⟩
 ·exfalso;simp_all
 refine xaS za4 .none rfl rfl rfl rfl (zaR hg1) rfl ?_;refine evs [9] [] ?_;refine ab 3011 tz25 ?_;refine so ty25 ?_;refine tv ?_;refine sq ?_ ?_<;>intro h5 h5p h5s<;>(try simp only[Q] at h5p);refine so ty3 ?_;refine tv ?_;refine si [0] [_] za4 tz25 ?_;refine ap za4 zz25 rfl rfl rfl (by simp) (by have hl:=congrArg List.length hg1;simp at hl;simp;omega) ?_;refine asg ?_;refine tv ?_;refine ar ?_;refine xah ((pre++[y],rest)) ⟨(by have hz:=hg1;rw[<-hz];simp),(by simp),sx ⟨⟨_,rfl,xaz ?_⟩,⟨⟨_,rfl,LeA.glg ?_⟩,trivial⟩⟩ ⟨zad ?_,trivial⟩⟩;iterate 3 focus ((simp[zck,zcv,h1s,h1p,h4s,h4p,h5s,h5p];done))
 refine si [0] [_] za4 tz25 ?_;refine ap za4 zz25 rfl rfl rfl (by simp) (by have hl:=congrArg List.length hg1;simp at hl;simp;omega) ?_;refine asg ?_;refine tv ?_;refine ar ?_;refine xah ((pre++[y],rest)) ⟨(by have hz:=hg1;rw[<-hz];simp),(by simp),sx ⟨⟨_,rfl,xaz ?_⟩,⟨⟨_,rfl,LeA.glg ?_⟩,trivial⟩⟩ ⟨zad ?_,trivial⟩⟩;iterate 3 focus ((simp[zck,zcv,h1s,h1p,h4s,h4p,h5s,h5p];done))
 have hrest:rest=[]:=by
  rcases rest with _|⟨a,b⟩
  ·rfl
  ·exfalso;have hz:=congrArg List.length (hg1);simp only[xaa,xab,xac] at hz;omega
 subst hrest;focus (refine rn0 (r1 rfl) (.gld ?_);all_goals (simp[<-hg1,zcv,h1s,h1p,h4s,h4p]))
theorem zm3 {w:List Data}{d c:Nat}{k:Int} (hs:WSmall w) (hd:d<w.length) (hc:c<(nth w d).ctors.length):FnD Tryz.prog 254 [.d (zam w),.agg [.d (.i d),.d (.i k)],.d (.i c)] [] (.d (zbk ((nth (nth w d).ctors c).args.map (zck (zcv (nth (nth w d).ctors c) k))))) []:=by
 have hb:=(hs.ctor _ (zal hd) _ (zal hc)).2;refine bd Tryz.f254 46 [] [] fun w0 F0 own kept hk=>?_;refine bx 3004 ?_;refine ev ?_;refine xbg 1 za4 .none rfl rfl ?_;refine ev ?_;refine xaS sl23 .none rfl rfl rfl rfl (zax hd) rfl ?_;refine ev ?_;refine xaS zbV .none rfl rfl rfl rfl (zax hc) rfl ?_;refine ev ?_;refine ab 3008 zfQ ?_;refine so zfP ?_;refine tv ?_;refine xam (ι:=List (Ty)×List (Ty)) hk (fun x=>[(9,.d (.i (x.1.length:Int))),(7,.gl 1 ((x.1.map (zck (zcv (nth (nth w d).ctors c) k))).map Ty.c))]) [10,21,22,23,24,25,26,27,28,29,30,31,32,33,34,35,36,37,38,39,40,41,42,43,44] (fun x=>[(1,some (.tok (((x.1.map (zck (zcv (nth (nth w d).ctors c) k))).map Ty.c)).length 2))]) (fun x=>x.1++x.2=(nth (nth w d).ctors c).args) (fun x=>x.2.length) ([],(nth (nth w d).ctors c).args) (by simp) ⟨⟨_,rfl,xaz ?_⟩,⟨⟨_,rfl,LeA.glg ?_⟩,trivial⟩⟩ ⟨zad ?_,trivial⟩ (fun x=>rfl) (fun x hg1=>?_);iterate 3 focus (rfl)
 obtain⟨pre,rest⟩:=x;dsimp only at hg1 ⊢;refine evc [] [] ?_;refine sq ?_ ?_<;>intro h1 h1p h1s<;>(try simp only[Q] at h1p);rcases rest with _|⟨y,rest⟩
 ·exfalso;simp_all
 refine xaS za4 .none rfl rfl rfl rfl (zaR hg1) rfl ?_;refine ev ?_;refine ab 3010 tz25 ?_;refine so ty25 ?_;refine tv ?_;refine sq ?_ ?_<;>intro h2 h2p h2s<;>(try simp only[Q] at h2p);refine wc zur (zk7) rfl rfl ?_;refine ev ?_;refine so ty3 ?_;refine tv ?_;refine si [0] [_] za4 tz25 ?_;refine ap za4 zz25 rfl rfl rfl (by simp) (by have hl:=congrArg List.length hg1;simp at hl;simp;omega) ?_;refine ev ?_;refine ar ?_;refine xah ((pre++[y],rest)) ⟨(by have hz:=hg1;rw[<-hz];simp),(by simp),sx ⟨⟨_,rfl,xaz ?_⟩,⟨⟨_,rfl,LeA.glg ?_⟩,trivial⟩⟩ ⟨zad ?_,trivial⟩⟩;iterate 3 focus ((simp[zck,Ctor.eta,h1s,h1p,h2s,h2p];done))
 refine si [0] [_] za4 tz25 ?_;refine ap za4 zz25 rfl rfl rfl (by simp) (by have hl:=congrArg List.length hg1;simp at hl;simp;omega) ?_;refine ev ?_;refine ar ?_;refine xah ((pre++[y],rest)) ⟨(by have hz:=hg1;rw[<-hz];simp),(by simp),sx ⟨⟨_,rfl,xaz ?_⟩,⟨⟨_,rfl,LeA.glg ?_⟩,trivial⟩⟩ ⟨zad ?_,trivial⟩⟩;iterate 3 focus ((simp[zck,Ctor.eta,h1s,h1p,h2s,h2p];done))
 have hrest:rest=[]:=by
  rcases rest with _|⟨a,b⟩
  ·rfl
  ·exfalso;have hz:=congrArg List.length (hg1);simp only[xaa,xab,xac] at hz;omega
 subst hrest;focus (refine rn0 (r1 rfl) (.gld ?_);all_goals (simp[<-hg1,zcv,h1s,h1p]))
mutual
def zqU:Val->Val->Bool
 | .mk a n ks,.mk b m ls=>decide (a=b)&&(decide (n=m)&&zmw ks ls)
def zmw:List Val->List Val->Bool
 | [],[]=>true
 |x::r,y::s=>zqU x y&&zmw r s
 |_,_=>false
end
mutual
def Val.ok:Val->Prop
 | .mk _ _ ks=>ks.length<=1000000000000/\Vals.ok ks
def Vals.ok:List Val->Prop
 | []=>True
 |v::r=>v.ok/\Vals.ok r
end
theorem Vals.ok_mem:∀ {l:List Val},Vals.ok l->∀v,v∈l->v.ok
 |x::r,h,v,hv=>by
  simp only[Vals.ok] at h;rcases List.mem_cons.1 hv with rfl|hv
  ·exact h.1
  ·exact Vals.ok_mem h.2 v hv
mutual
def Val.size:Val->Nat
 | .mk _ _ ks=>1+Vals.size ks
def Vals.size:List Val->Nat
 | []=>0
 |v::r=>v.size+Vals.size r
end
theorem Vals.size_mem:∀ {l:List Val}{v:Val},v∈l->v.size<=Vals.size l
 |x::r,v,hv=>by
  simp only[Vals.size];rcases List.mem_cons.1 hv with rfl|hv
  ·omega
  ·have:=Vals.size_mem hv;omega
theorem Val.ok_iff (v:Val):v.ok↔v.kids.length<=1000000000000/\Vals.ok v.kids:=by cases v;rfl
theorem Val.size_eq (v:Val):v.size=1+Vals.size v.kids:=by cases v;rfl
theorem zpp {w:List Data}{a b:Int}:FnD Tryz.prog 222 [.d (zam w),.agg [.d (.i a),.d (.i b)]] [] (.d (.bool (zbU w.length ⟨a,b⟩&&decide (0<=b)))) []:=by
 refine bd Tryz.f222 14 [] [] fun w0 F0 own kept hk=>?_;refine bx 3003 ?_;refine ev ?_;refine wc zrn (ziN) rfl rfl ?_;refine ev ?_;refine sq ?_ ?_<;>intro h1 h1p h1s<;>(try simp only[Q] at h1p);focus (refine rq ?_;all_goals ((simp[h1s,h1p];done)))
 focus (refine rq ?_;all_goals ((simp[h1s,h1p];done)))
theorem zkq {w:List Data}{a b:Int} (hs:WSmall w):FnD Tryz.prog 126 [.d (zam w),.agg [.d (.i a),.d (.i b)]] [] (.d (.bool (zbn w&&(zbU w.length ⟨a,b⟩&&decide (0<=b))))) []:=by
 refine bd Tryz.f126 12 [] [] fun w0 F0 own kept hk=>?_;refine bx 3003 ?_;refine ev ?_;refine wc ztY (zjR hs) rfl rfl ?_;refine ev ?_;refine sq ?_ ?_<;>intro h1 h1p h1s<;>(try simp only[Q] at h1p);refine Walk.call (cr:=[]) zt2 (zpp) rfl (.some rfl rfl h1) rfl rfl (LeL.refl _) trivial rfl rfl rfl ?_;refine evs [] [(7,true)] ?_ ⟨⟨_,rfl,h1⟩,trivial⟩;focus (refine rq ?_;all_goals ((simp[h1s,h1p];done)))
 focus (refine rq ?_;all_goals ((simp[h1s,h1p];done)))
def TyIn (n:Nat) (t:Ty):Prop:=t.data = -1\/∃d:Nat,t.data=d/\d<n
structure WT (w:List Data):Prop where
 small:WSmall w
 arg:∀d∈w,∀c∈d.ctors,∀t∈c.args,TyIn w.length t
def zak (w:List Data) (t:Ty) (c:Int):List Ty:=
 let x:=nth (nth w t.data.toNat).ctors c.toNat
 x.args.map (zck (zcv x t.index))
def zba (w:List Data) (t:Ty):List Int:=zaY t.index 0 (nth w t.data.toNat).ctors
def cap (x:Int):Int:=if 401<x then 401 else x
theorem zls {x:Int} (h:0<=x):0<=cap x/\cap x<=401:=by unfold cap;split<;>omega
theorem zf5 (k:Int):∀(l:List Ctor) (i:Nat) (c:Int),c∈zaY k i l->∃j:Nat,c=(j:Int)/\i<=j/\j<i+l.length
 | [],i,c,h=>by simp[zaY] at h
 |x::r,i,c,h=>by
  unfold zaY at h;have go:c∈zaY k (i+1) r->∃j:Nat,c=(j:Int)/\i<=j/\j<i+(x::r).length:=fun h=>by
   obtain⟨j,h1,h2,h3⟩:=zf5 k r (i+1) c h;exact⟨j,h1,by omega,by simp;omega⟩
  split at h
  ·rcases List.mem_cons.1 h with h|h
   ·exact⟨i,h,by omega,by simp⟩
   ·exact go h
  ·exact go h
theorem zsh {n:Nat}{k:Int}{t:Ty} (h:TyIn n t):TyIn n (zck k t):=by
 unfold zck;split
 ·exact h
 ·exact h
def PlaceIn (w:List Data) (d:Nat) (c:Int):Prop:=∃j:Nat,c=j/\j<(nth w d).ctors.length
theorem zpg {w:List Data}{d:Nat}{k c:Int} (h:c∈zba w ⟨d,k⟩):PlaceIn w d c:=by
 obtain⟨j,h1,_,h3⟩:=zf5 _ _ _ _ h;exact⟨j,h1,by simpa using h3⟩
theorem zqY {w:List Data} (hw:WT w){d:Nat} (hd:d<w.length){k c:Int} (hc:PlaceIn w d c){t:Ty} (ht:t∈zak w ⟨d,k⟩ c):TyIn w.length t:=by
 obtain⟨j,rfl,hj⟩:=hc;simp only[zak,Int.toNat_natCast,List.mem_map] at ht;obtain⟨x,hx,rfl⟩:=ht;exact zsh (hw.arg _ (zal hd) _ (zal hj) x hx)
theorem zh4 {w:List Data} (hw:WT w){d:Nat} (hd:d<w.length){k c:Int} (hc:PlaceIn w d c):(zak w ⟨d,k⟩ c).length<=1000000000000:=by
 obtain⟨j,rfl,hj⟩:=hc;simp only[zak,Int.toNat_natCast,xac];exact(hw.small.ctor _ (zal hd) _ (zal hj)).2
theorem zpG {w:List Data} (hw:WT w){d:Nat}{k:Int}:(zba w ⟨d,k⟩).length<=1000000000000:=by
 have:=zf4 k (nth w d).ctors 0;have:=hw.small.ctors d;simp only[zba,Int.toNat_natCast];omega
theorem zkM {w:List Data} (hw:WT w){d:Nat} (hd:d<w.length){k c:Int} (hc:PlaceIn w d c):FnD Tryz.prog 144 [.d (zam w),.agg [.d (.i d),.d (.i k)],.d (.i c)] [] (.d (zbk (zak w ⟨d,k⟩ c))) []:=by
 obtain⟨j,rfl,hj⟩:=hc;exact zkL hw.small hd hj
theorem zlE {w:List Data} (hw:WT w){d:Nat} (hd:d<w.length){k:Int}:FnD Tryz.prog 234 [.d (zam w),.agg [.d (.i d),.d (.i k)]] [] (.d (zcs (zba w ⟨d,k⟩))) []:=zlC hw.small hd
theorem zm4 {w:List Data} (hw:WT w){d:Nat} (hd:d<w.length){k c:Int} (hc:PlaceIn w d c):FnD Tryz.prog 254 [.d (zam w),.agg [.d (.i d),.d (.i k)],.d (.i c)] [] (.d (zbk (zak w ⟨d,k⟩ c))) []:=by
 obtain⟨j,rfl,hj⟩:=hc;exact zm3 hw.small hd hj
theorem zmk {w:List Data} (hw:WT w){d:Nat} (hd:d<w.length){k:Int}:FnD Tryz.prog 226 [.d (zam w),.agg [.d (.i d),.d (.i k)]] [] (.d (zcs (zba w ⟨d,k⟩))) []:=zmj hw.small hd
end Go.Proofs.YtlfipehhbdjnjaaGreat
namespace Go.Proofs.YtlfipehhbdjnjaaGreat
open Go
set_option linter.unusedSimpArgs false
set_option linter.unusedVariables false
def zdn (w:List Data):List Str:=w.flatMap fun d=>d.ctors.map (·.name)
structure WV (w:List Data):Prop where
 len:w.length<=4
 data:∀d∈w,zbo d.name=true/\1<=d.ctors.length/\d.ctors.length<=4
 ctor:∀d∈w,∀c∈d.ctors,zbC w.length c=true
 names:(w.map (·.name)).Nodup
 cnames:(zdn w).Nodup
theorem zhy (n:Nat):∀(l:List Ctor) (met met':List Str),zcU n met l=some met'↔met'=met++l.map (·.name)/\(∀c∈l,zbC n c=true)/\(l.map (·.name)).Nodup/\∀c∈l,c.name∉met
 | [],met,met'=>by
  unfold zcU;simp only[Option.some.injEq,List.map_nil,List.append_nil];exact⟨fun h=>⟨h.symm,by simp,by simp,by simp⟩,fun h=>h.1.symm⟩
 |c::r,met,met'=>by
  unfold zcU;by_cases h:(zbC n c&& !decide (c.name∈met))=true
  ·rw[if_pos h,zhy n r];simp only[xad,Bool.not_eq_true',decide_eq_false_iff_not] at h;obtain⟨h1,h2⟩:=h;constructor
   ·rintro ⟨rfl,q1,q2,q3⟩
    refine⟨by simp,fun x hx=>?_, ?_,fun x hx=>?_⟩
    ·rcases List.mem_cons.1 hx with rfl|hx
     ·exact h1
     ·exact q1 x hx
    ·simp only[xae,List.nodup_cons];refine⟨fun hm=>?_,q2⟩;obtain⟨x,hx,he⟩:=List.mem_map.1 hm;exact q3 x hx (by rw[he];simp)
    ·rcases List.mem_cons.1 hx with rfl|hx
     ·exact h2
     ·intro hm;exact q3 x hx (by simp[hm])
   ·rintro ⟨rfl,q1,q2,q3⟩
    simp only[xae,List.nodup_cons] at q2;refine⟨by simp,fun x hx=>q1 x (List.mem_cons_of_mem _ hx),q2.2,fun x hx hm=>?_⟩;simp only[List.mem_append,List.mem_singleton] at hm;rcases hm with hm|hm
    ·exact q3 x (List.mem_cons_of_mem _ hx) hm
    ·exact q2.1 (hm ▸ List.mem_map.2 ⟨x,hx,rfl⟩)
  ·rw[if_neg h];constructor
   ·intro h';cases h'
   ·rintro ⟨_,q1,_,q3⟩
    exfalso;apply h;simp[q1 c (by simp),q3 c (by simp)]
theorem zhz (n:Nat):∀(l:List Data) (met datas:List Str),zbv n met datas l=true↔
  (∀d∈l,zbo d.name=true/\1<=d.ctors.length/\d.ctors.length<=4)/\(∀d∈l,∀c∈d.ctors,zbC n c=true)/\(l.map (·.name)).Nodup/\(∀d∈l,d.name∉datas)/\
   (zdn l).Nodup/\∀s∈zdn l,s∉met
 | [],met,datas=>by simp[zbv,zdn]
 |d::r,met,datas=>by
  have hcn:zdn (d::r)=d.ctors.map (·.name)++zdn r:=rfl;have hw:zaz d.ctors.length 1 4=true↔1<=d.ctors.length/\d.ctors.length<=4:=by simp[zaz];omega
  unfold zbv;simp only[xad,Bool.not_eq_true',decide_eq_false_iff_not,hw];constructor
  ·rintro ⟨⟨⟨h1,h2⟩,h3⟩,h4⟩
   split at h4
   ·rename_i met' hm;obtain⟨rfl,c1,c2,c3⟩:=(zhy n _ _ _).1 hm;obtain⟨q1,q2,q3,q4,q5,q6⟩:=(zhz n r _ _).1 h4;refine⟨fun x hx=>?_,fun x hx=>?_, ?_,fun x hx=>?_, ?_,fun s hs=>?_⟩
    ·rcases List.mem_cons.1 hx with rfl|hx
     ·exact⟨h1,h3⟩
     ·exact q1 x hx
    ·rcases List.mem_cons.1 hx with rfl|hx
     ·exact c1
     ·exact q2 x hx
    ·simp only[xae,List.nodup_cons];refine⟨fun hm=>?_,q3⟩;obtain⟨x,hx,he⟩:=List.mem_map.1 hm;exact q4 x hx (by rw[he];simp)
    ·rcases List.mem_cons.1 hx with rfl|hx
     ·exact h2
     ·intro hm;exact q4 x hx (by simp[hm])
    ·rw[hcn,List.nodup_append];refine⟨c2,q5,fun a ha b hb he=>?_⟩;subst he;exact q6 a hb (by simp only[List.mem_append];exact .inr ha)
    ·rw[hcn] at hs;rcases List.mem_append.1 hs with hs|hs
     ·obtain⟨c,hc,rfl⟩:=List.mem_map.1 hs;exact c3 c hc
     ·intro hm;exact q6 s hs (by simp[hm])
   ·cases h4
  ·rintro ⟨q1,q2,q3,q4,q5,q6⟩
   rw[hcn] at q5 q6;rw[List.nodup_append] at q5;simp only[xae,List.nodup_cons] at q3;have hd:=q1 d (by simp);have hm:zcU n met d.ctors=some (met++d.ctors.map (·.name)):=(zhy n _ _ _).2 ⟨rfl,q2 d (by simp),q5.1,fun c hc=>q6 _ (List.mem_append.2 (.inl (List.mem_map.2 ⟨c,hc,rfl⟩)))⟩;refine⟨⟨⟨hd.1,q4 d (by simp)⟩,hd.2⟩, ?_⟩;rw[hm];refine(zhz n r _ _).2 ⟨fun x hx=>q1 x (List.mem_cons_of_mem _ hx),fun x hx=>q2 x (List.mem_cons_of_mem _ hx),q3.2,fun x hx hmem=>?_,q5.2.1,fun s hs hmem=>?_⟩
   ·simp only[List.mem_append,List.mem_singleton] at hmem;rcases hmem with hmem|hmem
    ·exact q4 x (List.mem_cons_of_mem _ hx) hmem
    ·exact q3.1 (hmem ▸ List.mem_map.2 ⟨x,hx,rfl⟩)
   ·rcases List.mem_append.1 hmem with hmem|hmem
    ·exact q6 s (List.mem_append.2 (.inr hs)) hmem
    ·exact q5.2.2 s hmem s hs rfl
theorem zdm (w:List Data):zbu w=true↔WV w:=by
 unfold zbu;rw[xad,zhz];constructor
 ·rintro ⟨h1,q1,q2,q3,_,q5,_⟩
  exact⟨by have:=of_decide_eq_true h1;omega,q1,q2,q3,q5⟩
 ·rintro ⟨h1,q1,q2,q3,q5⟩
  exact⟨decide_eq_true (by omega),q1,q2,q3,by simp,q5,by simp⟩
theorem zn4 {l:List Str}:l.Nodup↔∀i j,i<j->j<l.length->nth l i≠nth l j:=by
 unfold List.Nodup;rw[List.pairwise_iff_getElem];constructor
 ·intro h i j hij hj;have:=h i j (by omega) hj hij;simpa [nth,List.getD,hj,(by omega:i<l.length)] using this
 ·intro h i j hi hj hij;have:=h i j hij hj;simpa [nth,List.getD,hj,hi] using this
theorem za8 {α:Type} [Inhabited α]{l:List α}{i:Nat} (h:i<l.length):nth l i=l[i]:=by simp[nth,List.getD,h]
theorem zlu (w:List Data):(zdn w).Nodup↔(∀d,d<w.length->∀j k,j<k->k<(nth w d).ctors.length->(nth (nth w d).ctors j).name≠(nth (nth w d).ctors k).name)/\
  ∀i d,i<d->d<w.length->∀j k,j<(nth w i).ctors.length->k<(nth w d).ctors.length->(nth (nth w i).ctors j).name≠(nth (nth w d).ctors k).name:=by
 unfold zdn List.Nodup;rw[List.pairwise_flatMap];constructor
 ·rintro ⟨h1,h2⟩
  refine⟨fun d hd j k hjk hk=>?_,fun i d hid hd j k hj hk=>?_⟩
  ·have:=h1 (nth w d) (zal hd);rw[List.pairwise_iff_getElem] at this;have:=this j k (by simp;omega) (by simpa using hk) hjk;simpa [za8 hk,za8 (show j<(nth w d).ctors.length by omega)] using this
  ·rw[List.pairwise_iff_getElem] at h2;have:=h2 i d (by omega) hd hid;rw[<-za8 hd,<-za8 (show i<w.length by omega)] at this;exact this _ (List.mem_map.2 ⟨_,zal hj,rfl⟩) _ (List.mem_map.2 ⟨_,zal hk,rfl⟩)
 ·rintro ⟨h1,h2⟩
  refine⟨fun x hx=>?_, ?_⟩
  ·obtain⟨d,hd,rfl⟩:=List.getElem_of_mem hx;rw[List.pairwise_iff_getElem];intro j k hj hk hjk;have hk':k<(nth w d).ctors.length:=by rw[za8 hd];simpa using hk
   have:=h1 d hd j k hjk hk';rw[za8 hk',za8 (show j<(nth w d).ctors.length by omega)] at this;simp only[za8 hd] at this;simpa using this
  ·rw[List.pairwise_iff_getElem];intro i d hi hd hid x hx y hy;obtain⟨a,ha,rfl⟩:=List.mem_map.1 hx;obtain⟨b,hb,rfl⟩:=List.mem_map.1 hy;obtain⟨j,hj,rfl⟩:=List.getElem_of_mem ha;obtain⟨k,hk,rfl⟩:=List.getElem_of_mem hb;have hj':j<(nth w i).ctors.length:=by rw[za8 hi];exact hj
   have hk':k<(nth w d).ctors.length:=by rw[za8 hd];exact hk
   have:=h2 i d hid hd j k hj' hk';rw[za8 hj',za8 hk'] at this;simpa only[za8 hi,za8 hd] using this
theorem znF (w:List Data):(w.map (·.name)).Nodup↔∀i d,i<d->d<w.length->(nth w i).name≠(nth w d).name:=by
 rw[zn4];have e:∀i,i<w.length->nth (w.map (·.name)) i=(nth w i).name:=fun i hi=>by simp[nth,List.getD,hi]
 constructor
 ·intro h i d hid hd;have:=h i d hid (by simpa using hd);rwa [e i (by omega),e d hd] at this
 ·intro h i d hid hd;have hd':d<w.length:=by simpa using hd
  rw[e i (by omega),e d hd'];exact h i d hid hd'
theorem znT (w:List Data) (d k:Nat):zmv w d k=false↔(∀i,i<d->(nth w i).name≠(nth w d).name)/\
  ∀i j,i<=d->j<(nth w i).ctors.length->(i<d\/j<k)->k<(nth w d).ctors.length->(nth (nth w i).ctors j).name≠(nth (nth w d).ctors k).name:=by
 unfold zmv;rw[List.any_eq_false];constructor
 ·intro h;refine⟨fun i hi he=>?_,fun i j hi hj hij hk he=>?_⟩
  ·apply h i (List.mem_range.2 (by omega))
   unfold zc8;simp[hi,he]
  ·apply h i (List.mem_range.2 (by omega))
   unfold zc8;rw[zcJ hj (by unfold zbD;simp[hk,he];omega)];simp
 ·rintro ⟨h1,h2⟩ i hi
  have hi':=List.mem_range.1 hi;unfold zc8;simp only[Bool.or_eq_true,xad,decide_eq_true_eq,not_or,not_and];refine⟨fun hid=>h1 i hid, ?_⟩;rw[zeS (fun j hj=>?_)]
  ·simp
  ·unfold zbD;cases hc:((decide (i<d)||decide (j<k))&&(decide (k<(nth w d).ctors.length)&&decide ((nth (nth w i).ctors j).name=(nth (nth w d).ctors k).name))) with
   |false=>rfl
   |true=>
    simp only[xad,Bool.or_eq_true,decide_eq_true_eq] at hc;exact absurd hc.2.2 (h2 i j (by omega) hj hc.1 hc.2.1)
theorem zjQ (w:List Data):zbn w=true↔WV w:=by
 unfold zbn;rw[xad,decide_eq_true_eq,List.all_eq_true];have hs:∀d,zcj w d=true↔zbo (nth w d).name=true/\1<=(nth w d).ctors.length/\(nth w d).ctors.length<=4/\∀k,k<(nth w d).ctors.length->zbC w.length (nth (nth w d).ctors k)=true/\zmv w d k=false:=fun d=>by
  unfold zcj;simp only[xad,decide_eq_true_eq,List.all_eq_true,List.mem_range,zdX,Bool.not_eq_true']
 constructor
 ·rintro ⟨h1,h2⟩
  have h3:∀d,d<w.length->_:=fun d hd=>(hs d).1 (h2 d (List.mem_range.2 hd));have h4:∀d,d<w.length->∀k,k<(nth w d).ctors.length->_:=fun d hd k hk=>(znT w d k).1 ((h3 d hd).2.2.2 k hk).2;refine⟨h1,fun d hd=>?_,fun d hd c hc=>?_,(znF w).2 (fun i d hid hd=>?_),(zlu w).2 ⟨fun d hd j k hjk hk=>?_,fun i d hid hd j k hj hk=>?_⟩⟩
  ·obtain⟨i,hi,rfl⟩:=List.getElem_of_mem hd;have:=h3 i hi;rw[za8 hi] at this;exact⟨this.1,this.2.1,this.2.2.1⟩
  ·obtain⟨i,hi,rfl⟩:=List.getElem_of_mem hd;obtain⟨k,hk,rfl⟩:=List.getElem_of_mem hc;have hk':k<(nth w i).ctors.length:=by rw[za8 hi];exact hk
   have:=((h3 i hi).2.2.2 k hk').1;rw[za8 hk'] at this;simpa only[za8 hi] using this
  ·exact(h4 d hd 0 (by have:=(h3 d hd).2.1;omega)).1 i hid
  ·exact(h4 d hd k hk).2 d j (Nat.le_refl _) (by omega) (.inr hjk) hk
  ·exact(h4 d hd k hk).2 i j (by omega) hj (.inl hid) hk
 ·intro h;refine⟨h.len,fun d hd=>?_⟩;have hd':=List.mem_range.1 hd;have hm:=zal hd';have hn:=(znF w).1 h.names;have hc:=(zlu w).1 h.cnames;refine(hs d).2 ⟨(h.data _ hm).1,(h.data _ hm).2.1,(h.data _ hm).2.2,fun k hk=>⟨h.ctor _ hm _ (zal hk),(znT w d k).2 ⟨fun i hi=>hn i d hi hd',fun i j hi hj hij hk'=>?_⟩⟩⟩;by_cases hid:i<d
  ·exact hc.2 i d hid hd' j k hj hk'
  ·have:i=d:=by omega
   subst this;exact hc.1 i hd' j k (by omega) hk'
theorem zko (w:List Data):zbn w=zbu w:=by
 rw[Bool.eq_iff_iff,zjQ,zdm]
theorem zsg {n:Nat}{t:Ty} (h:zbU n t=true):TyIn n t:=by
 unfold zbU at h;simp only[Bool.or_eq_true,xad,decide_eq_true_eq,zaz] at h;rcases h with h|h
 ·exact .inl h.1
 ·exact .inr ⟨t.data.toNat,by omega,by omega⟩
theorem zr7 {n:Nat}{t:Ty} (h:zd0 n t=true):TyIn n t:=by
 unfold zd0 at h;simp only[Bool.or_eq_true,xad,decide_eq_true_eq,zaz] at h;rcases h with h|h
 ·exact .inl h.1
 ·exact .inr ⟨t.data.toNat,by omega,by omega⟩
theorem WV.wt {w:List Data} (hs:WSmall w) (h:WV w):WT w:=⟨hs,fun d hd c hc t ht=>by
 have:=h.ctor d hd c hc;unfold zbC at this;simp only[xad,Bool.not_eq_true',List.any_eq_false,Bool.not_eq_true,Bool.not_eq_false] at this;exact zsg (by have:=this.2.2.2 t ht;simpa using this)⟩
theorem ztF (w:List Data) (t:Ty):(zbn w&&(zbU w.length t&&decide (0<=t.index)))=zbr w t:=by
 rw[zko];unfold zbr;congr 1
 rw[Bool.eq_iff_iff];unfold zbU zd0 zaz;simp;omega
end Go.Proofs.YtlfipehhbdjnjaaGreat
namespace Go.Proofs.YtlfipehhbdjnjaaGreat
open Go
set_option linter.unusedSimpArgs false
set_option linter.unusedVariables false
set_option maxRecDepth 100000
set_option maxHeartbeats 2000000
theorem za2 {α:Type} [Inhabited α]{l:List α}{i:Nat} (h:i<l.length):l.drop i=nth l i::l.drop (i+1):=by
 rw[za8 h];exact List.drop_eq_getElem_cons h
def all2 {α β:Type} (f:α->β->Bool):List α->List β->Bool
 | [],[]=>true
 |a::r,b::s=>f a b&&all2 f r s
 |_,_=>false
theorem zgD {α β:Type}{f:α->β->Bool}:∀ {a:List α}{b:List β},a.length≠b.length->all2 f a b=false
 | [],[],h=>by simp at h
 | [],_::_,_=>rfl
 |_::_,[],_=>rfl
 |x::r,y::s,h=>by simp[all2,zgD (a:=r) (b:=s) (by simpa using h)]
theorem zbH {α β:Type} [Inhabited α] [Inhabited β]{f:α->β->Bool}{a:List α}{b:List β}{i:Nat} (h:i<a.length) (hl:a.length=b.length) (h2:f (nth a i) (nth b i)=false):all2 f a b=false:=by
 induction i generalizing a b with
 |zero=>
  cases a with
  |nil=>simp at h
  |cons x r=>
   cases b with
   |nil=>simp[all2]
   |cons y s=>simp[nth] at h2;simp[all2,h2]
 |succ i ih=>
  cases a with
  |nil=>simp at h
  |cons x r=>
   cases b with
   |nil=>simp[all2]
   |cons y s=>simp only[all2];rw[ih (a:=r) (b:=s) (by simpa using h) (by simpa using hl) (by simpa [nth] using h2)];simp
theorem zcb {α β:Type} [Inhabited α] [Inhabited β]{f:α->β->Bool}{a:List α}{b:List β} (hl:a.length=b.length) (h:∀i,i<a.length->f (nth a i) (nth b i)=true):all2 f a b=true:=by
 induction a generalizing b with
 |nil=>cases b with
  |nil=>simp[all2]
  |cons y s=>simp at hl
 |cons x r ih=>cases b with
  |nil=>simp at hl
  |cons y s=>
   have h0:=h 0 (by simp);simp only[all2];rw[ih (by simpa using hl) (fun i hi=>by simpa [nth] using h (i+1) (by simpa using hi))];simpa [nth] using h0
def idxI (l:List Int) (v:Int):Int:=idxF (fun x=>decide (v=x)) l 0
theorem ziV {l:List Int}{v:Int} (h:l.length<=1000000000000):FnD Tryz.prog 306 [.d (zcs l),.d (.i v)] [] (.d (.i (idxI l v))) []:=by
 refine bd Tryz.f306 19 [] [] fun w0 F0 own kept hk=>?_;refine xam (ι:=List (Int)×List (Int)) hk (fun x=>[(8,.d (.i (x.1.length:Int)))]) [4,5,9,10,11,12,13,14,15,16,17,18] (fun x=>[]) (fun x=>x.1++x.2=l/\idxF (fun x=>decide (v=x)) x.2 x.1.length=idxF (fun x=>decide (v=x)) l 0) (fun x=>x.2.length) ([],l) ⟨by simp,rfl⟩ ⟨⟨_,rfl,xaz ?_⟩,trivial⟩ trivial (fun x=>rfl) (fun x hg1=>?_);focus (first|rfl|(simp;done)|(simp_all;done)|omega)
 obtain⟨pre,rest⟩:=x;dsimp only at hg1 ⊢;refine evc [] [] ?_;refine sq ?_ ?_<;>intro h1 h1p h1s<;>(try simp only[Q] at h1p);rcases rest with _|⟨y,rest⟩
 ·exfalso;simp_all
 refine xaS sl29 .none rfl rfl rfl rfl (zaR hg1.1) rfl ?_;refine ev ?_;refine sq ?_ ?_<;>intro h2 h2p h2s<;>(try simp only[Q] at h2p);focus (refine rq ?_;all_goals (unfold idxI;rw[<-hg1.2];simp[idxF,h1s,h1p,h2s,h2p]))
 refine ar ?_;refine xah ((pre++[y],rest)) ⟨⟨(by have hz:=hg1.1;rw[<-hz];simp),(by rw[<-hg1.2];simp[idxF,h2p])⟩,(by simp),sx ⟨⟨_,rfl,xaz ?_⟩,trivial⟩ trivial⟩;focus (first|rfl|(simp;done)|(simp_all;done)|omega)
 have hrest:rest=[]:=by
  rcases rest with _|⟨a,b⟩
  ·rfl
  ·exfalso;have hz:=congrArg List.length (hg1.1);simp only[xaa,xab,xac] at hz;omega
 subst hrest;focus (refine rq ?_;all_goals (unfold idxI;rw[<-hg1.2];simp[idxF,h1s,h1p]))
theorem zes {l:List Int}{v:Int} (h:l.length<=1000000000000):FnD Tryz.prog 237 [.d (zcs l),.d (.i v)] [] (.d (.bool (decide (v∈l)))) []:=by
 refine bd Tryz.f237 9 [] [] fun w0 F0 own kept hk=>?_;refine wc zuo (ziV h) rfl rfl ?_;refine ev ?_;refine rq ?_;rotate_left;all_goals (refine congrArg D.bool ?_;rw[show idxI l v=idxF (fun x=>decide (v=x)) l 0 from rfl,zeA];simp[List.any_eq,eq_comm])
theorem zez {l:List Int}{v:Int} (h:l.length<=1000000000000):FnD Tryz.prog 277 [.d (zcs l),.d (.i v)] [] (.d (.bool (decide (v∈l)))) []:=by
 refine bd Tryz.f277 18 [] [] fun w0 F0 own kept hk=>?_;refine xam (ι:=List (Int)×List (Int)) hk (fun x=>[(5,.d (.i (x.1.length:Int)))]) [4,6,7,8,9,10,11,12,13,14,15,16,17] (fun x=>[]) (fun x=>x.1++x.2=l/\v∉x.1) (fun x=>x.2.length) ([],l) ⟨by simp,by simp⟩ ⟨⟨_,rfl,xaz ?_⟩,trivial⟩ trivial (fun x=>rfl) (fun x hg1=>?_);focus (first|rfl|(simp;done)|(simp_all;done)|omega)
 obtain⟨pre,rest⟩:=x;dsimp only at hg1 ⊢;refine evc [] [] ?_;refine sq ?_ ?_<;>intro h1 h1p h1s<;>(try simp only[Q] at h1p);rcases rest with _|⟨y,rest⟩
 ·exfalso;simp_all
 refine xaS sl29 .none rfl rfl rfl rfl (zaR hg1.1) rfl ?_;refine ev ?_;refine sq ?_ ?_<;>intro h2 h2p h2s<;>(try simp only[Q] at h2p);focus (refine rq ?_;all_goals (refine congrArg D.bool ?_;first|(symm;rw[decide_eq_true_eq,<-hg1.1];simp[h1s,h1p,h2s,h2p];done)|(symm;rw[decide_eq_false_iff_not,<-hg1.1];intro hm;simp at hm;exact absurd hm (by simpa using hg1.2))))
 refine ar ?_;refine xah ((pre++[y],rest)) ⟨⟨(by have hz:=hg1.1;rw[<-hz];simp),(by have:=hg1.2;simp[this,eq_comm];omega)⟩,(by simp),sx ⟨⟨_,rfl,xaz ?_⟩,trivial⟩ trivial⟩;focus (first|rfl|(simp;done)|(simp_all;done)|omega)
 have hrest:rest=[]:=by
  rcases rest with _|⟨a,b⟩
  ·rfl
  ·exfalso;have hz:=congrArg List.length (hg1.1);simp only[xaa,xab,xac] at hz;omega
 subst hrest;focus (refine rq ?_;all_goals (refine congrArg D.bool ?_;first|(symm;rw[decide_eq_true_eq,<-hg1.1];simp[h1s,h1p];done)|(symm;rw[decide_eq_false_iff_not,<-hg1.1];intro hm;simp at hm;exact absurd hm (by simpa using hg1.2))))
def zlx (n:Nat):UInt8:=UInt8.ofNat (IntKind.u8.wrap (48+(n:Int) % 10)).toNat
def digs (n:Nat):Str:=if n=0 then [] else digs (n / 10)++[zlx n]
theorem znn:digs 0=[]:=by unfold digs;rfl
theorem zoS {n:Nat} (h:0<n):digs n=digs (n / 10)++[zlx n]:=by
 conv=>lhs;unfold digs
 rw[if_neg (by omega)]
theorem zoR:∀n:Nat,(digs n).length<=n
 |0=>by rw[znn];simp
 |n+1=>by
  rw[zoS (by omega)];have:=zoR ((n+1) / 10);simp only[xaa,xab,xai];omega
termination_by n=>n
decreasing_by omega
def zj7 (n:Nat):Str:=109::digs n
def Ty.one (k:Int) (_:Ty):Ty:=⟨k,k+1⟩
def Ty.sz (_:Ty):Int:=2
def Ctor.one (k:Int) (x:Ctor):Ctor:=⟨zj7 k.toNat,mkL Ty.one Ty.sz (k+1) x.args,k+1+szL Ty.sz x.args⟩
def Ctor.sz (x:Ctor):Int:=2+szL Ty.sz x.args
def Data.one (k:Int) (x:Data):Data:=⟨zj7 k.toNat,mkL Ctor.one Ctor.sz (k+1) x.ctors⟩
def Data.sz (x:Data):Int:=1+szL Ctor.sz x.ctors
theorem Ty.sz_nn (x:Ty):0<=x.sz:=by simp[Ty.sz]
theorem Ctor.sz_nn (x:Ctor):0<=x.sz:=by have:=zaQ (l:=x.args) Ty.sz_nn;unfold Ctor.sz;omega
theorem Data.sz_nn (x:Data):0<=x.sz:=by have:=zaQ (l:=x.ctors) Ctor.sz_nn;unfold Data.sz;omega
theorem zqm:∀l:List Ty,szL Ty.sz l=2*l.length
 | []=>rfl
 |x::r=>by simp only[szL,zqm r,Ty.sz,xab];omega
theorem zdY {α:Type}{sz:α->Int}{pre rest l:List α}{y:α} (h:pre++y::rest=l):szL sz l=szL sz pre+sz y+szL sz rest:=by
 subst h;rw[zfk];simp only[szL];omega
theorem zkV {n:Nat} (hn:0<n) (hb:(n:Int)<=1000000000000):FnD Tryz.prog 88 [.d (.i (n:Int))] [] (.d (.str (zj7 n))) []:=by
 have hl:=zoR n;refine bd Tryz.f88 20 [9,15,17,19] [] fun w0 F0 own kept hk=>?_;refine sq ?_ ?_<;>intro h1 h1p h1s<;>(try simp only[Q] at h1p);exfalso;omega;refine xam (ι:=Nat×Str) hk (fun x=>[(0,.d (.i (x.1:Int))),(3,.d (.str x.2))]) [6,7,8,9,10,11,12,13,14,15,16,17] (fun x=>[]) (fun x=>digs x.1++x.2=digs n/\x.1<=n) (fun x=>x.1) (n,[]) (by simp) ⟨⟨_,rfl,xaz ?_⟩,⟨⟨_,rfl,LeA.eqs ?_⟩,trivial⟩⟩ trivial (fun x=>rfl) (fun x hg1=>?_);iterate 2 focus (first|rfl|(dsimp only;omega)|(simp[strN,zlx];done))
 refine evc [9,15,17,19] [] ?_;refine sq ?_ ?_<;>intro h2 h2p h2s<;>(try simp only[Q] at h2p);refine Walk.remI .none rfl rfl rfl (by omega) ?_;refine evs [9,15,17,19] [] ?_;refine ar ?_;refine Walk.conv (by rw[un3];rfl) un5 .none rfl rfl ?_;refine si [0] [_] sl22 tz5 ?_;refine Walk.bytesStr sl22 un9 (by kernel_rfl) .none rfl rfl rfl (by first|rfl|exact znK _) ?_;refine evs [9,15,17,19] [] ?_;refine Walk.catS .none rfl rfl rfl (by have hz:=congrArg List.length hg1.1;simp[strN] at hz ⊢;omega) ?_;refine evs [9,15,17,19] [] ?_;refine Walk.quoI .none rfl rfl rfl (by omega) ?_;refine evs [9,15,17,19] [] ?_;refine xah ((x.1 / 10,zlx x.1::x.2)) ⟨⟨(by rw[<-hg1.1,zoS (n:=x.1) (by omega)];simp),(by have:=hg1.2;dsimp only;omega)⟩,(by dsimp only;omega),sx ⟨⟨_,rfl,xaz ?_⟩,⟨⟨_,rfl,LeA.eqs ?_⟩,trivial⟩⟩ trivial⟩;iterate 2 focus (first|rfl|(dsimp only;omega)|(simp[strN,zlx];done))
 refine Walk.catS .none rfl rfl rfl (by have hz:=congrArg List.length hg1.1;simp[strN] at hz ⊢;omega) ?_;refine evs [9,15,17,19] [] ?_;refine rq ?_;rotate_left;all_goals (first|(exfalso;omega)|rfl|(refine congrArg D.str ?_;have hz:x.1=0:=(by omega);have hy:=hg1.1;rw[hz,znn,List.nil_append] at hy;rw[hy];rfl))
theorem zg9 {k:Int} (h0:0<k) (hb:k<=1000000000000):FnD Tryz.prog 88 [.d (.i k)] [] (.d (.str (zj7 k.toNat))) []:=by
 have hz:=zkV (n:=k.toNat) (by omega) (by omega);rw[show((k.toNat:Nat):Int)=k by omega] at hz;exact hz
theorem zlU {l:List Ty} (h:l.length<=1000000000000):FnD Tryz.prog 322 [.d (zbk l)] [] (.ms 61 l.length) [(61,some (.tree (zag false (l.map Ty.c))))]:=by
 refine bd Tryz.f322 23 [] [2] fun w0 F0 own kept hk=>?_;refine xa3 (id:=61) za4 tz25 rfl (by decide) (zbW rfl) .none rfl rfl rfl (by simp;omega) (by simp;omega) rfl rfl rfl ?_;refine ev ?_;refine CWp.boxTree 61 false rfl rfl (zej _ _ _) ?_;refine evc [] [] ?_;refine xam (ι:=List (Ty)×List (Ty)) hk (fun x=>[(4,.d (.i (x.1.length:Int)))]) [8,9,10,11,12,13,14,15,16,17,18,19,20,21] (fun x=>[(61,some (.tree (zag false (x.1.map Ty.c)++zaF x.2.length [.d (.i 0),.d (.i 0)])))]) (fun x=>x.1++x.2=l) (fun x=>x.2.length) ([],l) (by simp) ⟨⟨_,rfl,xaz ?_⟩,trivial⟩ ⟨?_,trivial⟩ (fun x=>rfl) (fun x hg1=>?_);focus (first|rfl|(simp;done)|(simp_all;done)|omega)
 focus (first|rfl|(show some (Res.tree _)=some (Res.tree _);rw[xaf,List.map_singleton,<-zb8];rfl)|(show some (Res.tree _)=some (Res.tree _);simp[zbh];rfl))
 obtain⟨pre,rest⟩:=x;dsimp only at hg1 ⊢;refine evc [] [2] ?_;refine sq ?_ ?_<;>intro h1 h1p h1s<;>(try simp only[Q] at h1p);rcases rest with _|⟨y,rest⟩
 ·exfalso;simp_all
 refine xaS ztc .none rfl rfl rfl rfl (zaR hg1) rfl ?_;refine ev ?_;refine Walk.call (cr:=[]) zg2 (zbY) rfl .none rfl rfl (LeL.refl _) trivial rfl (by first|rfl|(simp only[zas,List.all_cons,List.all_nil,zaC,zay,AV.idsL,AV.ids,zab,zaa,xae,List.map_nil];rfl)) (by first|rfl|(simp only[zaj,occH,occE,Res.ids,xag,List.nil_append,AV.idsL,AV.ids,zab,zaa,zac,zan,xae,List.map_nil,upC];rfl)) ?_;refine xaV za4 .none rfl rfl rfl rfl (by first|omega|(simp ;omega)) ?_;refine xbk ty25 .none rfl rfl rfl rfl rfl rfl (by simp) ((zfX (zeM false (by intro x _;rfl)) rfl)) ?_;refine tv ?_;refine ar ?_;refine xah ((pre++[y],rest)) ⟨(by have hz:=hg1;rw[<-hz];simp),(by simp),sx ⟨⟨_,rfl,xaz ?_⟩,trivial⟩ ⟨?_,trivial⟩⟩;focus (first|rfl|(simp;done)|(simp_all;done)|omega)
 focus (first|rfl|(show some (Res.tree _)=some (Res.tree _);rw[xaf,List.map_singleton,<-zb8];rfl)|(show some (Res.tree _)=some (Res.tree _);simp[zbh];rfl))
 have hrest:rest=[]:=by
  rcases rest with _|⟨a,b⟩
  ·rfl
  ·exfalso;have hz:=congrArg List.length (hg1);simp only[xaa,xab,xac] at hz;omega
 subst hrest;refine rn [(61,some (.tree (zag false (l.map Ty.c))))] (r1 rfl) (xaA ?_) ⟨rfl,rfl⟩ (SubH.get ⟨?_,trivial⟩) (za6 rfl);rotate_left 2;all_goals (first|((first|rfl|(simp;done));done)|(first|rfl|(rw[List.append_nil] at hg1;subst hg1;show some (Res.tree _)=some (Res.tree _);simp[zaF];done)))
theorem zmW {s:Str}{args:List Ty}{k:Int} (h:args.length<=1000000000000):FnD Tryz.prog 257 [.agg [.d (.str s),.d (zbk args),.d (.i k)]] [] (.agg [.d (.str s),.ms 61 args.length,.d (.i k)]) [(61,some (.tree (zag false (args.map Ty.c))))]:=by
 refine bd Tryz.f257 15 [] [] fun w0 F0 own kept hk=>?_;refine bx 3001 ?_;refine ab 3002 zfQ ?_;refine tv ?_;refine ab 3003 zfQ ?_;refine tv ?_;refine so ty9 ?_;refine tv ?_;refine Walk.call (cr:=[61]) zrr (zlU h) rfl .none rfl rfl (LeL.refl _) trivial rfl (by first|rfl|(simp only[zas,List.all_cons,List.all_nil,zaC,zay,AV.idsL,AV.ids,zab,zaa,xae,List.map_nil];rfl)) (by first|rfl|(simp only[zaj,occH,occE,Res.ids,xag,List.nil_append,AV.idsL,AV.ids,zab,zaa,zac,zan,xae,List.map_nil,upC];rfl)) ?_;refine ev ?_;refine so zom ?_;refine tv ?_;refine so ty3 ?_;refine tv ?_;refine so zfP ?_;refine tv ?_;focus (refine rn [(61,some (.tree (zag false (args.map Ty.c))))] (.cons (.cellA zfP rfl rfl rfl) .nil) (.agg (.cons (.eqd ?_) (.cons (xaA ?_) (.cons (.eqd ?_) .nil)))) ⟨rfl,rfl⟩ (SubH.get ⟨rfl,trivial⟩) (za6 rfl);all_goals (first|rfl|(simp[];done)|(simp_all;done)|(simp_all;omega)|omega))
theorem zlS {l:List Ctor} (hs:CSmall l):FnD Tryz.prog 163 [.d (zbX l)] [] (.ms 62 l.length) [(62,some (.tree (zag false (l.map Ctor.c))))]:=by
 have h:=hs.len;refine bd Tryz.f163 23 [] [2,4] fun w0 F0 own kept hk=>?_;refine xa3 (id:=62) zbV zfQ rfl (by decide) (zbW rfl) .none rfl rfl rfl (by simp;omega) (by simp;omega) rfl rfl rfl ?_;refine ev ?_;refine CWp.boxTree 62 false rfl rfl (zej _ _ _) ?_;refine evc [] [] ?_;refine xam (ι:=List (Ctor)×List (Ctor)) hk (fun x=>[(4,.d (.i (x.1.length:Int)))]) [8,9,10,11,12,13,14,15,16,17,18,19,20,21] (fun x=>[(62,some (.tree (zag false (x.1.map Ctor.c)++zaF x.2.length [.d (.str []),.own false (.sl []),.d (.i 0)])))]) (fun x=>x.1++x.2=l) (fun x=>x.2.length) ([],l) (by simp) ⟨⟨_,rfl,xaz ?_⟩,trivial⟩ ⟨?_,trivial⟩ (fun x=>rfl) (fun x hg1=>?_);focus (first|rfl|(simp;done)|(simp_all;done)|omega)
 focus (first|rfl|(show some (Res.tree _)=some (Res.tree _);rw[xaf,List.map_singleton,<-zb8];rfl)|(show some (Res.tree _)=some (Res.tree _);simp[zbh];rfl))
 obtain⟨pre,rest⟩:=x;dsimp only at hg1 ⊢;refine evc [] [2,4] ?_;refine sq ?_ ?_<;>intro h1 h1p h1s<;>(try simp only[Q] at h1p);rcases rest with _|⟨y,rest⟩
 ·exfalso;simp_all
 refine xaS zqP .none rfl rfl rfl rfl (zaR hg1) rfl ?_;refine ev ?_;refine Walk.call (cr:=[61]) zrl (zmW (hs.ctor y (by rw[<-hg1];simp)).2) rfl .none rfl rfl (LeL.refl _) trivial rfl (by first|rfl|(simp only[zas,List.all_cons,List.all_nil,zaC,zay,AV.idsL,AV.ids,zab,zaa,xae,List.map_nil];rfl)) (by first|rfl|(simp only[zaj,occH,occE,Res.ids,xag,List.nil_append,AV.idsL,AV.ids,zab,zaa,zac,zan,xae,List.map_nil,upC];rfl)) ?_;refine xaV zbV .none rfl rfl rfl rfl (by first|omega|(simp ;omega)) ?_;refine xbk zfP .none rfl rfl rfl rfl rfl rfl (by simp) ((zfX (zeM (k:=3) false (by intro x _;rfl)) rfl)) ?_;refine tv ?_;refine CWp.merge hk 62 (pre.length*3+1) 61 2 _ rfl (zaW (zeM (k:=3) false (by intro x _;rfl)) rfl) (by simp[zap]) rfl (by first|(intro x hx;simp at hx;obtain⟨y,_,rfl⟩:=hx;rfl)|(intro x hx;obtain⟨y,_,rfl⟩:=List.mem_map.1 hx;rfl)) rfl rfl (zaE (zeM (k:=3) false (by intro x _;rfl)) (zb9 rfl)) ?_;refine evc [] [] ?_;refine ar ?_;refine xah ((pre++[y],rest)) ⟨(by have hz:=hg1;rw[<-hz];simp),(by simp),sx ⟨⟨_,rfl,xaz ?_⟩,trivial⟩ ⟨?_,trivial⟩⟩;focus (first|rfl|(simp;done)|(simp_all;done)|omega)
 focus (first|rfl|(show some (Res.tree _)=some (Res.tree _);rw[xaf,List.map_singleton,<-zb8];rfl)|(show some (Res.tree _)=some (Res.tree _);simp[zbh];rfl))
 have hrest:rest=[]:=by
  rcases rest with _|⟨a,b⟩
  ·rfl
  ·exfalso;have hz:=congrArg List.length (hg1);simp only[xaa,xab,xac] at hz;omega
 subst hrest;refine rn [(62,some (.tree (zag false (l.map Ctor.c))))] (r1 rfl) (xaA ?_) ⟨rfl,rfl⟩ (SubH.get ⟨?_,trivial⟩) (za6 rfl);rotate_left 2;all_goals (first|((first|rfl|(simp;done));done)|(first|rfl|(rw[List.append_nil] at hg1;subst hg1;show some (Res.tree _)=some (Res.tree _);simp[zaF];done)))
theorem zmY {s:Str}{cs:List Ctor} (h:CSmall cs):FnD Tryz.prog 83 [.agg [.d (.str s),.d (zbX cs)]] [] (.agg [.d (.str s),.ms 62 cs.length]) [(62,some (.tree (zag false (cs.map Ctor.c))))]:=by
 refine bd Tryz.f83 12 [] [] fun w0 F0 own kept hk=>?_;refine bx 3001 ?_;refine ab 3002 ziC ?_;refine tv ?_;refine ab 3003 ziC ?_;refine tv ?_;refine so ty9 ?_;refine tv ?_;refine Walk.call (cr:=[62]) zra (zlS h) rfl .none rfl rfl (LeL.refl _) trivial rfl (by first|rfl|(simp only[zas,List.all_cons,List.all_nil,zaC,zay,AV.idsL,AV.ids,zab,zaa,xae,List.map_nil];rfl)) (by first|rfl|(simp only[zaj,occH,occE,Res.ids,xag,List.nil_append,AV.idsL,AV.ids,zab,zaa,zac,zan,xae,List.map_nil,upC];rfl)) ?_;refine ev ?_;refine so zol ?_;refine tv ?_;refine so ziB ?_;refine tv ?_;focus (refine rn [(62,some (.tree (zag false (cs.map Ctor.c))))] (.cons (.cellA ziB rfl rfl rfl) .nil) (.agg (.cons (.eqd ?_) (.cons (xaA ?_) .nil))) ⟨rfl,rfl⟩ (SubH.get ⟨rfl,trivial⟩) (za6 rfl);all_goals (first|rfl|(simp[];done)|(simp_all;done)|(simp_all;omega)|omega))
theorem zhb {l:List Data} (hs:WSmall l):FnD Tryz.prog 30 [.d (zam l)] [] (.ms 63 l.length) [(63,some (.tree (zag false (l.map Data.c))))]:=by
 have h:=hs.len;refine bd Tryz.f30 23 [] [2,4] fun w0 F0 own kept hk=>?_;refine xa3 (id:=63) sl23 ziC rfl (by decide) (zbW rfl) .none rfl rfl rfl (by simp;omega) (by simp;omega) rfl rfl rfl ?_;refine ev ?_;refine CWp.boxTree 63 false rfl rfl (zej _ _ _) ?_;refine evc [] [] ?_;refine xam (ι:=List (Data)×List (Data)) hk (fun x=>[(4,.d (.i (x.1.length:Int)))]) [8,9,10,11,12,13,14,15,16,17,18,19,20,21] (fun x=>[(63,some (.tree (zag false (x.1.map Data.c)++zaF x.2.length [.d (.str []),.own false (.sl [])])))]) (fun x=>x.1++x.2=l) (fun x=>x.2.length) ([],l) (by simp) ⟨⟨_,rfl,xaz ?_⟩,trivial⟩ ⟨?_,trivial⟩ (fun x=>rfl) (fun x hg1=>?_);focus (first|rfl|(simp;done)|(simp_all;done)|omega)
 focus (first|rfl|(show some (Res.tree _)=some (Res.tree _);rw[xaf,List.map_singleton,<-zb8];rfl)|(show some (Res.tree _)=some (Res.tree _);simp[zbh];rfl))
 obtain⟨pre,rest⟩:=x;dsimp only at hg1 ⊢;refine evc [] [2,4] ?_;refine sq ?_ ?_<;>intro h1 h1p h1s<;>(try simp only[Q] at h1p);rcases rest with _|⟨y,rest⟩
 ·exfalso;simp_all
 refine xaS sl60 .none rfl rfl rfl rfl (zaR hg1) rfl ?_;refine ev ?_;refine Walk.call (cr:=[62]) zsY (zmY (hs.cs (d:=y) (by rw[<-hg1];simp))) rfl .none rfl rfl (LeL.refl _) trivial rfl (by first|rfl|(simp only[zas,List.all_cons,List.all_nil,zaC,zay,AV.idsL,AV.ids,zab,zaa,xae,List.map_nil];rfl)) (by first|rfl|(simp only[zaj,occH,occE,Res.ids,xag,List.nil_append,AV.idsL,AV.ids,zab,zaa,zac,zan,xae,List.map_nil,upC];rfl)) ?_;refine xaV sl23 .none rfl rfl rfl rfl (by first|omega|(simp ;omega)) ?_;refine xbk ziB .none rfl rfl rfl rfl rfl rfl (by simp) ((zfX (zeM (k:=2) false (by intro x _;rfl)) rfl)) ?_;refine tv ?_;refine CWp.merge hk 63 (pre.length*2+1) 62 3 _ rfl (zaW (zeM (k:=2) false (by intro x _;rfl)) rfl) (by simp[zap]) rfl (by first|(intro x hx;simp at hx;obtain⟨y,_,rfl⟩:=hx;rfl)|(intro x hx;obtain⟨y,_,rfl⟩:=List.mem_map.1 hx;rfl)) rfl rfl (zaE (zeM (k:=2) false (by intro x _;rfl)) (zb9 rfl)) ?_;refine evc [] [] ?_;refine ar ?_;refine xah ((pre++[y],rest)) ⟨(by have hz:=hg1;rw[<-hz];simp),(by simp),sx ⟨⟨_,rfl,xaz ?_⟩,trivial⟩ ⟨?_,trivial⟩⟩;focus (first|rfl|(simp;done)|(simp_all;done)|omega)
 focus (first|rfl|(show some (Res.tree _)=some (Res.tree _);rw[xaf,List.map_singleton,<-zb8];rfl)|(show some (Res.tree _)=some (Res.tree _);simp[zbh];rfl))
 have hrest:rest=[]:=by
  rcases rest with _|⟨a,b⟩
  ·rfl
  ·exfalso;have hz:=congrArg List.length (hg1);simp only[xaa,xab,xac] at hz;omega
 subst hrest;refine rn [(63,some (.tree (zag false (l.map Data.c))))] (r1 rfl) (xaA ?_) ⟨rfl,rfl⟩ (SubH.get ⟨?_,trivial⟩) (za6 rfl);rotate_left 2;all_goals (first|((first|rfl|(simp;done));done)|(first|rfl|(rw[List.append_nil] at hg1;subst hg1;show some (Res.tree _)=some (Res.tree _);simp[zaF];done)))
theorem zkm {m:Bool}{l:List Ty}{k:Int} (h0:0<=k) (h1:k+szL Ty.sz l<=1000000000000) (hl:l.length<=1000000000000):FnD Tryz.prog 169 [.ms 41 l.length,.d (.i k)] [(41,some (.tree (zag m (l.map Ty.c))))]
  (.d (.i (k+szL Ty.sz l))) [(41,some (.tree (zag m ((mkL Ty.one Ty.sz k l).map Ty.c))))]:=by
 refine bd Tryz.f169 27 [] [] fun w0 F0 own kept hk=>?_;refine xam (ι:=List (Ty)×List (Ty)×(Int)) hk (fun x=>[(5,.d (.i (x.1.length:Int))),(1,.d (.i x.2.2))]) [6,7,8,9,10,11,12,13,14,15,16,17,18,19,20,21,22,23,24,25] (fun x=>[(41,some (.tree (zag m ((mkL Ty.one Ty.sz k x.1).map Ty.c)++zag m (x.2.1.map Ty.c))))]) (fun x=>x.1++x.2.1=l/\x.2.2=k+szL Ty.sz x.1) (fun x=>x.2.1.length) ([],l,k) ⟨by simp,by simp[szL]⟩ ⟨⟨_,rfl,xaz ?_⟩,⟨⟨_,rfl,xaz ?_⟩,trivial⟩⟩ ⟨?_,trivial⟩ (fun x=>rfl) (fun x hg1=>?_);iterate 2 focus (first|rfl|(simp;done)|omega|(refine Eq.trans (b:=v+2) ?_ rfl;omega))
 focus (first|rfl|(show some (Res.tree _)=some (Res.tree _);rw[zb6,xaf,List.map_singleton,<-zb8,hg1.2];rfl))
 obtain⟨pre,rest,v⟩:=x;dsimp only at hg1 ⊢;refine evc [] [] ?_;refine sq ?_ ?_<;>intro h1 h1p h1s<;>(try simp only[Q] at h1p);rcases rest with _|⟨y,rest⟩
 ·exfalso;simp_all
 have hsp:=zdY (sz:=Ty.sz) hg1.1;have hnn:=zaQ (l:=rest) Ty.sz_nn;have hnp:=zaQ (l:=pre) Ty.sz_nn;have hys:Ty.sz y=2:=rfl;have hv:=hg1.2;refine xaV za4 .none rfl rfl rfl rfl (by first|omega|(simp ;omega)) ?_;refine ev ?_;refine xbk ty3 .none rfl rfl rfl rfl rfl rfl (by simp) ((zaE (zaO (kk:=2) m (by intro x;rfl)) zhX)) ?_;refine tv ?_;refine ar ?_;refine xaV za4 .none rfl rfl rfl rfl (by first|omega|(simp ;omega)) ?_;refine ev ?_;refine xbk ty3 .none rfl rfl rfl rfl rfl rfl (by simp) ((zaE (zaO (kk:=2) m (by intro x;rfl)) zdh)) ?_;refine tv ?_;refine ar ?_;refine ar ?_;refine xah ((pre++[y],rest,v+Ty.sz y)) ⟨⟨(by have hz:=hg1.1;rw[<-hz];simp),(by show v+Ty.sz y=_;rw[zcO,hg1.2];omega)⟩,(by simp),sx ⟨⟨_,rfl,xaz ?_⟩,⟨⟨_,rfl,xaz ?_⟩,trivial⟩⟩ ⟨?_,trivial⟩⟩;iterate 2 focus (first|rfl|(simp;done)|omega|(refine Eq.trans (b:=v+2) ?_ rfl;omega))
 focus (first|rfl|(show some (Res.tree _)=some (Res.tree _);rw[zb6,xaf,List.map_singleton,<-zb8,hg1.2];rfl))
 have hrest:rest=[]:=by
  rcases rest with _|⟨a,b⟩
  ·rfl
  ·exfalso;have hz:=congrArg List.length (hg1.1);simp only[xaa,xab,xac] at hz;omega
 subst hrest;refine rn [(41,some (.tree (zag m ((mkL Ty.one Ty.sz k l).map Ty.c))))] (r1 rfl) (.eqd ?_) ⟨rfl,rfl⟩ (SubO.get ⟨.inr ?_,⟨.inl rfl,trivial⟩⟩) (za6 rfl);rotate_left 2;all_goals (first|((first|rfl|(obtain⟨hg1,hv⟩:=hg1;rw[List.append_nil] at hg1;subst hg1;rw[hv]));done)|(first|rfl|(obtain⟨hg1,_⟩:=hg1;rw[List.append_nil] at hg1;subst hg1;show some (Res.tree _)=some (Res.tree _);simp[zbh];done)))
theorem zjs {l:List Ty}{k:Int} (hl:l=[]):FnD Tryz.prog 169 [.d (.sl []),.d (.i k)] [] (.d (.i (k+szL Ty.sz l))) []:=by
 subst hl;refine bd Tryz.f169 27 [] [] fun w0 F0 own kept hk=>?_;refine xam (ι:=Unit) hk (fun x=>[(5,.d (.i 0)),(1,.d (.i k))]) [6,7,8,9,10,11,12,13,14,15,16,17,18,19,20,21,22,23,24,25] (fun x=>[]) (fun x=>True) (fun x=>0) () trivial ⟨⟨_,rfl,xaz ?_⟩,⟨⟨_,rfl,xaz ?_⟩,trivial⟩⟩ trivial (fun x=>rfl) (fun x hg1=>?_);iterate 2 focus (first|rfl|(simp;done)|(simp_all;done)|omega)
 refine evc [] [] ?_;refine sq ?_ ?_<;>intro h1 h1p h1s<;>(try simp only[Q] at h1p);exfalso;revert h1;simp;refine rq ?_;rotate_left;all_goals (first|rfl|(simp[szL];done))
def ren (i j:Nat):AV->AV
 | .ms a n=>if a=i then .ms j n else .ms a n
 |x=>x
theorem zkk {l:List Ctor}{k:Int} (h0:0<k) (h1:k+szL Ctor.sz l<=1000000000000) (hl:CSmall l):FnD Tryz.prog 89 [.ms 42 l.length,.d (.i k)] [(42,some (.tree (zag false (l.map Ctor.c))))]
  (.d (.i (k+szL Ctor.sz l))) [(42,some (.tree (zag false ((mkL Ctor.one Ctor.sz k l).map Ctor.c))))]:=by
 have hl0:=hl.len;refine bd Tryz.f89 35 [24] [6,7,1000009] fun w0 F0 own kept hk=>?_;refine xam (ι:=List (Ctor)×List (Ctor)×(Int)) hk (fun x=>[(5,.d (.i (x.1.length:Int))),(1,.d (.i x.2.2))]) [6,7,8,9,10,11,12,13,14,15,16,17,18,19,20,21,22,23,24,25,26,27,28,29,30,31,32,33] (fun x=>[(42,some (.tree (zag false ((mkL Ctor.one Ctor.sz k x.1).map Ctor.c)++zag false (x.2.1.map Ctor.c))))]) (fun x=>x.1++x.2.1=l/\x.2.2=k+szL Ctor.sz x.1) (fun x=>x.2.1.length) ([],l,k) ⟨by simp,by simp[szL]⟩ ⟨⟨_,rfl,xaz ?_⟩,⟨⟨_,rfl,xaz ?_⟩,trivial⟩⟩ ⟨?_,trivial⟩ (fun x=>rfl) (fun x hg1=>?_);iterate 2 focus (first|rfl|(simp;done)|omega|(refine Eq.trans (b:=v+Ctor.sz y) ?_ rfl;omega))
 focus (first|rfl|(show some (Res.tree _)=some (Res.tree _);rw[zb6,xaf,List.map_singleton,<-zb8,<-hg1.2];rfl))
 obtain⟨pre,rest,v⟩:=x;dsimp only at hg1 ⊢;refine evc [24] [6,7,1000009] ?_;refine cq (fun h1 h1p h1s=>?_) fun h1 h1p h1s=>?_;try simp only[Q] at h1p
 rcases rest with _|⟨y,rest⟩
 ·exfalso;simp_all
 have hsp:=zdY (sz:=Ctor.sz) hg1.1;have hnn:=zaQ (l:=rest) Ctor.sz_nn;have hnp:=zaQ (l:=pre) Ctor.sz_nn;have hys:Ctor.sz y=2+szL Ty.sz y.args:=rfl;have hya:=zaQ (l:=y.args) Ty.sz_nn;have hv:=hg1.2;refine xap 42 (zag false ((mkL Ctor.one Ctor.sz k pre).map Ctor.c)++(.d (.str y.name):: .own false (zbk y.args):: .d (.i y.index)::zag false (rest.map Ctor.c))) rfl rfl ?_;refine evc [24] [6,7,1000009] ?_;refine Walk.call (cr:=[]) zs0 (zg9 (by omega) (by omega)) rfl .none rfl rfl (LeL.refl _) trivial rfl (by first|rfl|(simp only[zas,List.all_cons,List.all_nil,zaC,zay,AV.idsL,AV.ids,zab,zaa,xae,List.map_nil];rfl)) (by first|rfl|(simp only[zaj,occH,occE,Res.ids,xag,List.nil_append,AV.idsL,AV.ids,zab,zaa,zac,zan,xae,List.map_nil,upC];rfl)) ?_;refine xaV zbV .none rfl rfl rfl rfl (by first|omega|(simp ;omega)) ?_;refine evs [24] [] ?_;refine xbk ty9 .none rfl rfl rfl rfl rfl rfl (by simp) ((zaE (zaO (kk:=3) false (by intro x;rfl)) zhX)) ?_;refine tv ?_;refine ar ?_;by_cases hs2:y.args=[]
 refine xak 42 (pre.length*3+1) rfl (zaW (zaO (kk:=3) false (by intro x;rfl)) rfl) (by simp[hs2]) (zaE (zaO (kk:=3) false (by intro x;rfl)) zdh) ?_;refine evc [24] [] ?_;refine xaV zbV .none rfl rfl rfl rfl (by first|omega|(simp ;omega)) ?_;refine evs [24] [] ?_;refine xa1 zom .none rfl rfl rfl ((by rw[zaW (zaO (kk:=3) false (by intro x;rfl)) rfl];rfl)) ?_;refine evs [24] [] ?_;refine Walk.call (cr:=[]) zrd (zjs hs2) rfl .none rfl rfl (LeL.refl _) trivial rfl (by first|rfl|(simp only[zas,List.all_cons,List.all_nil,zaC,zay,AV.idsL,AV.ids,zab,zaa,xae,List.map_nil];rfl)) (by first|rfl|(simp only[zaj,occH,occE,Res.ids,xag,List.nil_append,AV.idsL,AV.ids,zab,zaa,zac,zan,xae,List.map_nil,upC];rfl)) ?_;refine evs [24] [] ?_;refine xal 42 (pre.length*3+1) false rfl (xs:=(mkL Ty.one Ty.sz (v+1) y.args).map Ty.c) rfl (zaW (zaO (kk:=3) false (by intro x;rfl)) rfl) (by simp[hs2,mkL]) (zaE (zaO (kk:=3) false (by intro x;rfl)) zdh) ?_;refine evc [24] [] ?_;refine xaV zbV .none rfl rfl rfl rfl (by first|omega|(simp ;omega)) ?_;refine evs [24] [] ?_;refine xbk ty3 .none rfl rfl rfl rfl rfl rfl (by simp) ((zaE (zaO (kk:=3) false (by intro x;rfl)) zkb)) ?_;refine tv ?_;refine ar ?_;refine ar ?_;refine xah ((pre++[y],rest,v+Ctor.sz y)) ⟨⟨(by have hz:=hg1.1;rw[<-hz];simp),(by show v+Ctor.sz y=_;rw[zcO,hg1.2];omega)⟩,(by simp),sx ⟨⟨_,rfl,xaz ?_⟩,⟨⟨_,rfl,xaz ?_⟩,trivial⟩⟩ ⟨?_,trivial⟩⟩;iterate 2 focus (first|rfl|(simp;done)|omega|(refine Eq.trans (b:=v+Ctor.sz y) ?_ rfl;omega))
 focus (first|rfl|(show some (Res.tree _)=some (Res.tree _);rw[zb6,xaf,List.map_singleton,<-zb8,<-hg1.2];rfl))
 refine CWp.split 42 (pre.length*3+1) 41 rfl (zaW (zaO (kk:=3) false (by intro x;rfl)) rfl) (by simp[hs2]) (by first|rfl|(simp only[zaj,occH,occE,Res.ids,xag,List.nil_append,AV.idsL,AV.ids,zab,zaa,zac,zan,xae,List.map_nil,upC];rfl)) (zaE (zaO (kk:=3) false (by intro x;rfl)) zdh) ?_;refine evc [24] [] ?_;refine xaV zbV .none rfl rfl rfl rfl (by first|omega|(simp ;omega)) ?_;refine evs [24] [] ?_;refine xa1 zom .none rfl rfl rfl ((by rw[zaW (zaO (kk:=3) false (by intro x;rfl)) rfl];rfl)) ?_;refine evs [24] [] ?_;refine Walk.call (cr:=[]) zrd (zkm (m:=false) (l:=y.args) (k:=v+1) (by omega) (by omega) (hl.ctor y (by rw[<-hg1.1];simp)).2) rfl .none rfl rfl (.cons (xaA (by first|rfl|(simp;done))) (.cons (.refl _) .nil)) ⟨by first|rfl|(simp;rfl),trivial⟩ rfl (by first|rfl|(simp only[zas,List.all_cons,List.all_nil,zaC,zay,AV.idsL,AV.ids,zab,zaa,xae,List.map_nil];rfl)) (by first|rfl|(simp only[zaj,occH,occE,Res.ids,xag,List.nil_append,AV.idsL,AV.ids,zab,zaa,zac,zan,xae,List.map_nil,upC];rfl)) ?_;refine evs [24] [] ?_;refine CWp.merge hk 42 (pre.length*3+1) 41 2 _ rfl (zaW (zaO (kk:=3) false (by intro x;rfl)) rfl) (by simp[zap]) rfl (by first|(intro x hx;simp at hx;obtain⟨y,_,rfl⟩:=hx;rfl)|(intro x hx;obtain⟨y,_,rfl⟩:=List.mem_map.1 hx;rfl)) rfl rfl (zaE (zaO (kk:=3) false (by intro x;rfl)) zdh) ?_;refine evc [24] [] ?_;refine xaV zbV .none rfl rfl rfl rfl (by first|omega|(simp ;omega)) ?_;refine evs [24] [] ?_;refine xbk ty3 .none rfl rfl rfl rfl rfl rfl (by simp) ((zaE (zaO (kk:=3) false (by intro x;rfl)) zkb)) ?_;refine tv ?_;refine ar ?_;refine ar ?_;refine xah ((pre++[y],rest,v+Ctor.sz y)) ⟨⟨(by have hz:=hg1.1;rw[<-hz];simp),(by show v+Ctor.sz y=_;rw[zcO,hg1.2];omega)⟩,(by simp),sx ⟨⟨_,rfl,xaz ?_⟩,⟨⟨_,rfl,xaz ?_⟩,trivial⟩⟩ ⟨?_,trivial⟩⟩;iterate 2 focus (first|rfl|(simp;done)|omega|(refine Eq.trans (b:=v+Ctor.sz y) ?_ rfl;omega))
 focus (first|rfl|(show some (Res.tree _)=some (Res.tree _);rw[zb6,xaf,List.map_singleton,<-zb8,<-hg1.2];rfl))
 try simp only[Q] at h1p
 have hrest:rest=[]:=by
  rcases rest with _|⟨a,b⟩
  ·rfl
  ·exfalso;have hz:=congrArg List.length (hg1.1);simp only[xaa,xab,xac] at hz;omega
 subst hrest;refine evc [24] [6,7,1000009] ?_;refine rn [(42,some (.tree (zag false ((mkL Ctor.one Ctor.sz k l).map Ctor.c))))] (r1 rfl) (.eqd ?_) ⟨rfl,rfl⟩ (SubO.get ⟨.inr ?_,⟨.inl rfl,trivial⟩⟩) (za6 rfl);rotate_left 2;all_goals (first|((first|rfl|(obtain⟨hg1,hv⟩:=hg1;rw[List.append_nil] at hg1;subst hg1;rw[hv]));done)|(first|rfl|(obtain⟨hg1,_⟩:=hg1;rw[List.append_nil] at hg1;subst hg1;show some (Res.tree _)=some (Res.tree _);simp[zbh];done)))
theorem zjr {l:List Ctor}{k:Int} (hl:l=[]):FnD Tryz.prog 89 [.d (.sl []),.d (.i k)] [] (.d (.i (k+szL Ctor.sz l))) []:=by
 subst hl;refine bd Tryz.f89 35 [] [] fun w0 F0 own kept hk=>?_;refine xam (ι:=Unit) hk (fun x=>[(5,.d (.i 0)),(1,.d (.i k))]) [6,7,8,9,10,11,12,13,14,15,16,17,18,19,20,21,22,23,24,25,26,27,28,29,30,31,32,33] (fun x=>[]) (fun x=>True) (fun x=>0) () trivial ⟨⟨_,rfl,xaz ?_⟩,⟨⟨_,rfl,xaz ?_⟩,trivial⟩⟩ trivial (fun x=>rfl) (fun x hg1=>?_);iterate 2 focus (first|rfl|(simp;done)|(simp_all;done)|omega)
 refine evc [] [] ?_;refine sq ?_ ?_<;>intro h1 h1p h1s<;>(try simp only[Q] at h1p);exfalso;revert h1;simp;refine rq ?_;rotate_left;all_goals (first|rfl|(simp[szL];done))
theorem zkl {l:List Data}{k:Int} (h0:0<k) (h1:k+szL Data.sz l<=1000000000000) (hl:WSmall l):FnD Tryz.prog 36 [.ms 43 l.length,.d (.i k)] [(43,some (.tree (zag false (l.map Data.c))))]
  (.d (.i (k+szL Data.sz l))) [(43,some (.tree (zag false ((mkL Data.one Data.sz k l).map Data.c))))]:=by
 have hl0:=hl.len;refine bd Tryz.f36 28 [24] [3,6,1000009] fun w0 F0 own kept hk=>?_;refine xam (ι:=List (Data)×List (Data)×(Int)) hk (fun x=>[(5,.d (.i (x.1.length:Int))),(1,.d (.i x.2.2))]) [6,7,8,9,10,11,12,13,14,15,16,17,18,19,20,21,22,23,24,25,26] (fun x=>[(43,some (.tree (zag false ((mkL Data.one Data.sz k x.1).map Data.c)++zag false (x.2.1.map Data.c))))]) (fun x=>x.1++x.2.1=l/\x.2.2=k+szL Data.sz x.1) (fun x=>x.2.1.length) ([],l,k) ⟨by simp,by simp[szL]⟩ ⟨⟨_,rfl,xaz ?_⟩,⟨⟨_,rfl,xaz ?_⟩,trivial⟩⟩ ⟨?_,trivial⟩ (fun x=>rfl) (fun x hg1=>?_);iterate 2 focus (first|rfl|(simp;done)|omega|(refine Eq.trans (b:=v+Data.sz y) ?_ rfl;omega))
 focus (first|rfl|(show some (Res.tree _)=some (Res.tree _);rw[zb6,xaf,List.map_singleton,<-zb8,<-hg1.2];rfl))
 obtain⟨pre,rest,v⟩:=x;dsimp only at hg1 ⊢;refine evc [24] [3,6,1000009] ?_;refine cq (fun h1 h1p h1s=>?_) fun h1 h1p h1s=>?_;try simp only[Q] at h1p
 rcases rest with _|⟨y,rest⟩
 ·exfalso;simp_all
 have hsp:=zdY (sz:=Data.sz) hg1.1;have hnn:=zaQ (l:=rest) Data.sz_nn;have hnp:=zaQ (l:=pre) Data.sz_nn;have hys:Data.sz y=1+szL Ctor.sz y.ctors:=rfl;have hya:=zaQ (l:=y.ctors) Ctor.sz_nn;have hv:=hg1.2;refine xap 43 (zag false ((mkL Data.one Data.sz k pre).map Data.c)++(.d (.str y.name):: .own false (zbX y.ctors)::zag false (rest.map Data.c))) rfl rfl ?_;refine evc [24] [3,6,1000009] ?_;refine Walk.call (cr:=[]) zs0 (zg9 (by omega) (by omega)) rfl .none rfl rfl (LeL.refl _) trivial rfl (by first|rfl|(simp only[zas,List.all_cons,List.all_nil,zaC,zay,AV.idsL,AV.ids,zab,zaa,xae,List.map_nil];rfl)) (by first|rfl|(simp only[zaj,occH,occE,Res.ids,xag,List.nil_append,AV.idsL,AV.ids,zab,zaa,zac,zan,xae,List.map_nil,upC];rfl)) ?_;refine xaV sl23 .none rfl rfl rfl rfl (by first|omega|(simp ;omega)) ?_;refine evs [24] [] ?_;refine xbk ty9 .none rfl rfl rfl rfl rfl rfl (by simp) ((zaE (zaO (kk:=2) false (by intro x;rfl)) zhX)) ?_;refine tv ?_;refine ar ?_;by_cases hs2:y.ctors=[]
 refine xak 43 (pre.length*2+1) rfl (zaW (zaO (kk:=2) false (by intro x;rfl)) rfl) (by simp[hs2]) (zaE (zaO (kk:=2) false (by intro x;rfl)) zdh) ?_;refine evc [24] [] ?_;refine xaV sl23 .none rfl rfl rfl rfl (by first|omega|(simp ;omega)) ?_;refine evs [24] [] ?_;refine xa1 zol .none rfl rfl rfl ((by rw[zaW (zaO (kk:=2) false (by intro x;rfl)) rfl];rfl)) ?_;refine evs [24] [] ?_;refine Walk.call (cr:=[]) zs1 (zjr hs2) rfl .none rfl rfl (LeL.refl _) trivial rfl (by first|rfl|(simp only[zas,List.all_cons,List.all_nil,zaC,zay,AV.idsL,AV.ids,zab,zaa,xae,List.map_nil];rfl)) (by first|rfl|(simp only[zaj,occH,occE,Res.ids,xag,List.nil_append,AV.idsL,AV.ids,zab,zaa,zac,zan,xae,List.map_nil,upC];rfl)) ?_;refine evs [24] [] ?_;refine xal 43 (pre.length*2+1) false rfl (xs:=(mkL Ctor.one Ctor.sz (v+1) y.ctors).map Ctor.c) rfl (zaW (zaO (kk:=2) false (by intro x;rfl)) rfl) (by simp[hs2,mkL]) (zaE (zaO (kk:=2) false (by intro x;rfl)) zdh) ?_;refine evc [24] [] ?_;refine ar ?_;refine xah ((pre++[y],rest,v+Data.sz y)) ⟨⟨(by have hz:=hg1.1;rw[<-hz];simp),(by show v+Data.sz y=_;rw[zcO,hg1.2];omega)⟩,(by simp),sx ⟨⟨_,rfl,xaz ?_⟩,⟨⟨_,rfl,xaz ?_⟩,trivial⟩⟩ ⟨?_,trivial⟩⟩;iterate 2 focus (first|rfl|(simp;done)|omega|(refine Eq.trans (b:=v+Data.sz y) ?_ rfl;omega))
 focus (first|rfl|(show some (Res.tree _)=some (Res.tree _);rw[zb6,xaf,List.map_singleton,<-zb8,<-hg1.2];rfl))
 refine CWp.split 43 (pre.length*2+1) 42 rfl (zaW (zaO (kk:=2) false (by intro x;rfl)) rfl) (by simp[hs2]) (by first|rfl|(simp only[zaj,occH,occE,Res.ids,xag,List.nil_append,AV.idsL,AV.ids,zab,zaa,zac,zan,xae,List.map_nil,upC];rfl)) (zaE (zaO (kk:=2) false (by intro x;rfl)) zdh) ?_;refine evc [24] [] ?_;refine xaV sl23 .none rfl rfl rfl rfl (by first|omega|(simp ;omega)) ?_;refine evs [24] [] ?_;refine xa1 zol .none rfl rfl rfl ((by rw[zaW (zaO (kk:=2) false (by intro x;rfl)) rfl];rfl)) ?_;refine evs [24] [] ?_;refine Walk.call (cr:=[]) zs1 (zkk (l:=y.ctors) (k:=v+1) (by omega) (by omega) (hl.cs (d:=y) (by rw[<-hg1.1];simp))) rfl .none rfl rfl (.cons (xaA (by first|rfl|(simp;done))) (.cons (.refl _) .nil)) ⟨by first|rfl|(simp;rfl),trivial⟩ rfl (by first|rfl|(simp only[zas,List.all_cons,List.all_nil,zaC,zay,AV.idsL,AV.ids,zab,zaa,xae,List.map_nil];rfl)) (by first|rfl|(simp only[zaj,occH,occE,Res.ids,xag,List.nil_append,AV.idsL,AV.ids,zab,zaa,zac,zan,xae,List.map_nil,upC];rfl)) ?_;refine evs [24] [] ?_;refine CWp.merge hk 43 (pre.length*2+1) 42 3 _ rfl (zaW (zaO (kk:=2) false (by intro x;rfl)) rfl) (by simp[zap]) rfl (by first|(intro x hx;simp at hx;obtain⟨y,_,rfl⟩:=hx;rfl)|(intro x hx;obtain⟨y,_,rfl⟩:=List.mem_map.1 hx;rfl)) rfl rfl (zaE (zaO (kk:=2) false (by intro x;rfl)) zdh) ?_;refine evc [24] [] ?_;refine ar ?_;refine xah ((pre++[y],rest,v+Data.sz y)) ⟨⟨(by have hz:=hg1.1;rw[<-hz];simp),(by show v+Data.sz y=_;rw[zcO,hg1.2];omega)⟩,(by simp),sx ⟨⟨_,rfl,xaz ?_⟩,⟨⟨_,rfl,xaz ?_⟩,trivial⟩⟩ ⟨?_,trivial⟩⟩;iterate 2 focus (first|rfl|(simp;done)|omega|(refine Eq.trans (b:=v+Data.sz y) ?_ rfl;omega))
 focus (first|rfl|(show some (Res.tree _)=some (Res.tree _);rw[zb6,xaf,List.map_singleton,<-zb8,<-hg1.2];rfl))
 try simp only[Q] at h1p
 have hrest:rest=[]:=by
  rcases rest with _|⟨a,b⟩
  ·rfl
  ·exfalso;have hz:=congrArg List.length (hg1.1);simp only[xaa,xab,xac] at hz;omega
 subst hrest;refine evc [24] [3,6,1000009] ?_;refine rn [(43,some (.tree (zag false ((mkL Data.one Data.sz k l).map Data.c))))] (r1 rfl) (.eqd ?_) ⟨rfl,rfl⟩ (SubO.get ⟨.inr ?_,⟨.inl rfl,trivial⟩⟩) (za6 rfl);rotate_left 2;all_goals (first|((first|rfl|(obtain⟨hg1,hv⟩:=hg1;rw[List.append_nil] at hg1;subst hg1;rw[hv]));done)|(first|rfl|(obtain⟨hg1,_⟩:=hg1;rw[List.append_nil] at hg1;subst hg1;show some (Res.tree _)=some (Res.tree _);simp[zbh];done)))
theorem zjU:∀l:List Ctor,szL Ctor.sz l<=2*(zfV l:Int)
 | []=>by simp[szL,zfV]
 |x::r=>by
  have ih:=zjU r;simp only[szL,Ctor.sz,zqm,zfV,ze4,mTys,xab,xae,List.sum_cons] at ih ⊢;omega
theorem zgW:∀l:List Data,szL Data.sz l<=2*(zeq l:Int)
 | []=>by simp[szL,zeq]
 |x::r=>by
  have ih:=zgW r;have h2:=zjU x.ctors;simp only[szL,Data.sz,zeq,ze5,xab,xae,List.sum_cons] at ih ⊢;omega
theorem znx {α:Type} [Inhabited α] (p:α->Bool):∀(l:List α) (i:Nat),(idxF p l i = -1/\∀x∈l,p x=false)\/∃k:Nat,idxF p l i=((i+k:Nat):Int)/\k<l.length/\(l.take (k+1)).filter (fun x=> !p x)=l.take k
 | [],i=> .inl ⟨rfl,by simp⟩
 |x::r,i=>by
  unfold idxF;cases h:p x with
  |true=>exact .inr ⟨0,by simp,by simp,by simp[h]⟩
  |false=>
   rcases znx p r (i+1) with ⟨h1,h2⟩|⟨k,h1,h2,h3⟩
   ·exact .inl ⟨by simpa using h1,fun y hy=>by rcases List.mem_cons.1 hy with rfl|hy;exact h;exact h2 y hy⟩
   ·refine .inr ⟨k+1,by simp only[Bool.false_eq_true,if_false];rw[h1];congr 1;omega,by simpa using h2, ?_⟩;simp only[List.take_succ_cons,List.filter_cons,h,Bool.not_false,if_true,List.cons.injEq,true_and];simpa using h3
theorem ziQ {α:Type} [Inhabited α]{s:List α}{i:Nat}{t:α} (h:i<s.length):(s.set i t).take (i+1)=s.take i++[t]:=by
 rw[List.set_eq_take_append_cons_drop,if_pos h,List.take_append,List.take_take];have:(s.take i).length=i:=by simp;omega
 simp[this,Nat.min_eq_right]
theorem znZ {α:Type}{s:List α}{i j:Nat}{t:α} (h:i<=j):(s.set i t).drop (j+1)=s.drop (j+1):=by
 rw[List.drop_set,if_pos (by omega)]
theorem zgI {α:Type} [Inhabited α]{p:α->Bool}{l:List α}{j:Nat} (h:j<l.length):(l.take (j+1)).filter p=(l.take j).filter p++(if p (nth l j) then [nth l j] else []):=by
 rw[List.take_add_one,List.getElem?_eq_getElem h,List.filter_append,za8 h];simp[List.filter_cons]
theorem zpO {α:Type} [Inhabited α]{s l:List α}{j:Nat} (h:s.drop j=l.drop j) (hl:s.length=l.length) (hj:j<l.length):nth s j=nth l j:=by
 have h1:=za2 (l:=s) (i:=j) (by omega);have h2:=za2 (l:=l) (i:=j) hj;rw[h1,h2] at h;exact(List.cons.inj h).1
theorem zg5 {α:Type}{s l:List α}{j:Nat} (h:s.drop j=l.drop j):s.drop (j+1)=l.drop (j+1):=by
 have:=congrArg (List.drop 1) h;simpa [List.drop_drop,Nat.add_comm] using this
theorem zd1 {w:List Data} (hs:WSmall w) (hv:zbu w=true):WT w:=WV.wt hs ((zdm w).1 hv)
end Go.Proofs.YtlfipehhbdjnjaaGreat
namespace Go.Proofs.YtlfipehhbdjnjaaGreat
open Go
set_option linter.unusedSimpArgs false
set_option linter.unusedVariables false
section
variable {c:Ctx}{all:Array Oper}{chk:List Rec->Prop}{os:List Oper}{recs:List Rec}{env:Env}{hp:Hp}{Q:St->Prop}
variable {ty:Nat}{pos:String}{af:Array Edge}{g:Option (Nat×Bool)}{pg:List (Nat×AV)}{t:TypeId}{x:Operand}
theorem Walk.clearB {id off n k e yb:Nat}{cs cs' zs:List AV} (ht:SlT c.P t e k yb) (hz:TyZ c.P e k zs) (hzk:zs.length=k) (hk:0<k) (h1:zgE zs=true) (hg:GH all env g pg) (hx:opd env x=some (.mo id off n))
  (hb:getH hp id=some (.box cs)) (hput:putC cs off (zaF n zs)=some cs')
  (hn:Walk c all chk os (zaq (pg++opF x (.mo id off n)) [(id,.box cs)] [] ⟨none,[(id,some (.box cs'))]⟩::recs) ⟨env,(id,some (.box cs'))::hp⟩ Q):
  Walk c all chk (⟨none,.call ⟨.builtin .clear,#[x],#[t]⟩,ty,pos,af,g⟩::os) recs ⟨env,hp⟩ Q:=by
 refine⟨pg++opF x (.mo id off n),[(id,.box cs)],[],_, ?_,zav hg.facts (zaZ hx),hh1 hb,by simp,hn⟩;intro s a w hrel hp' hh _ K Q' hK;obtain⟨G,hr⟩:=hrel;have hbx:=hh1' hh;have e1:=hr.opd (za0 hx (fun p hm=>hp' p (by simp[hm])));obtain⟨bl,o,cap,hl,he,hcap,ho⟩:=e1.mo_eq;obtain⟨b',us,et,h2,h3,h4,h5,h6⟩:=hr.heap id _ hbx;obtain rfl:=zcx hl.1 h2;have hall:PreR G (tokf s.hp) w cs us:=⟨h4,h6⟩;unfold wpO;rw[if_pos (hg.gf.wanted hr (fun p hm=>hp' p (by simp[hm])))];unfold Oper.wp;rcases Nat.eq_zero_or_pos n with hn0|hn0
 ·subst hn0;have hcs:cs'=cs:=by
   simp only[zaF] at hput;cases cs<;>simp only[putC,Option.some.injEq] at hput<;>exact hput.symm
  subst hcs;have hrun:(execOp a.eval ⟨none,.call ⟨.builtin .clear,#[x],#[t]⟩,ty,pos,af,g⟩).run c.P w = .ok (.value (.tuple #[])) w:=by
   simp[execOp,resolve,invoke,builtin,he,Builtin.clear_,run_underlying ht.und]
  rw[hrun,Oper.upon_value];refine hK _ _ ⟨G, ?_⟩;have hsame:∀i,getH ((id,some (Res.box cs'))::s.hp) i=getH s.hp i:=fun i=>by
   rw[zah];split
   ·rename_i e;subst e;exact hbx.symm
   ·rfl
  have htk:tokf ((id,some (Res.box cs'))::s.hp)=tokf s.hp:=by funext i;unfold tokf;rw[hsame]
  have:R c G ⟨s.env,(id,some (Res.box cs'))::s.hp⟩ a w:=
   ⟨hr.size,hr.defers,fun i v h=>by rw[htk];exact hr.slots i v h,fun i r h=>by rw[htk];exact hr.heap i r (by rw[<-hsame];exact h),
   fun i j h1 h2=>hr.disj i j (by rw[<-hsame];exact h1) (by rw[<-hsame];exact h2),fun i h=>hr.new i (by rw[<-hsame];exact h),hr.frm,hr.top,
   fun i l h'=>by
    show(G.loc i).head?=l.head?/\(getH ((id,some (Res.box cs'))::s.hp) i).isSome/\tokf ((id,some (Res.box cs'))::s.hp) i=none
    rw[hsame,htk];exact hr.kept i l h'⟩
  exact this.putNone
 ·obtain rfl:o=off:=ho.resolve_left (by omega);obtain⟨ie,z,z1,z2,z3,z4⟩:=hz.inf;have hz0:=zbQ (G:=G) (T:=tokf s.hp) (w:=w) z4;have hzr:=zeR (by simpa using hz0) n (by omega);have hzs:z.cells.size=k:=by have:=hz0.size;simp at this;omega
  let vl:List Value:=(Builtin.zeroCells z.cells n).toList
  have hvl:vl.toArray=(Array.range (n*zs.length)).map (z.cells[· % z.cells.size]!):=by
   simp only[vl,Builtin.zeroCells,Array.toArray_toList];rw[hzs,hzk]
  have hvr:AllR G (tokf s.hp) w (zaF n zs) vl.toArray:=by rw[hvl];exact hzr
  have hne:zaF n zs≠[]:=fun h=>by
   have:=congrArg List.length h;rw[zei] at this;have h2:0<n*zs.length:=Nat.mul_pos hn0 (by omega);simp only[xai] at this;omega
  obtain⟨p1,p2,p3⟩:=zbF hput;have p2':=p2.resolve_left hne;have hsz:=hvr.size;have hsv:vl.toArray.size=vl.length:=by simp only[List.size_toArray]
  simp only[List.size_toArray] at hsz;have hzone:∀i (hi:i<zs.length) (hv:i<z.cells.size),z.cells[i].oneCell'=true:=fun i hi hv=>by
   have:=hz0.rel i hi (by simpa using hv);simp only[List.getElem_toArray,Array.getElem_toList] at this;exact this.one (zgh h1 _ (List.getElem_mem hi))
  have hst:=run_storeCells_at c.P bl o et vl 0 us w h3 (by omega) (fun u hu=>by
   simp only[vl,Builtin.zeroCells,Array.toList_map,List.mem_map] at hu;obtain⟨i,_,rfl⟩:=hu;have hm:i % z.cells.size<z.cells.size:=Nat.mod_lt _ (by omega);rw[getElem!_pos z.cells _ hm];exact hzone _ (by omega) hm)
  simp only[Nat.add_zero] at hst;have hrow:PreR G (tokf s.hp) w cs' (us.toList.take o++vl++us.toList.drop (o+vl.length)).toArray:=by
   refine hall.put hvr hput ?_ (fun i=>?_)
   ·simp only[List.size_toArray,xaa,List.length_take,List.length_drop,Array.length_toList];omega
   ·simp only[List.getElem?_toArray];rw[List.append_assoc,List.getElem?_append];simp only[List.length_take,Array.length_toList];by_cases hi:i<o
    ·rw[if_pos (by omega),if_neg (by omega)];simp[hi]
    ·rw[if_neg (by omega),List.getElem?_append];have hm:min o us.size=o:=by omega
     rw[hm];by_cases hi2:i<o+vl.length
     ·rw[if_pos (by omega),if_pos (by omega)]
     ·rw[if_neg (by omega),if_neg (by omega)];rw[List.getElem?_drop,show o+vl.length+(i-o-vl.length)=i by omega];simp
  have hrun:(execOp a.eval ⟨none,.call ⟨.builtin .clear,#[x],#[t]⟩,ty,pos,af,g⟩).run c.P w = .ok (.value (.tuple #[])) (w.setRow bl (us.toList.take o++vl++us.toList.drop (o+vl.length)).toArray):=by
   obtain⟨m,rfl⟩:∃m,n=m+1:=⟨n-1,by omega⟩;have hzv:(zeroValue e).run c.P w = .ok z w:=zk3 z1 z3;simp only[vl] at hst;simp[execOp,resolve,invoke,builtin,he,Builtin.clear_,run_underlying ht.und,hzv,hst,vl]
  rw[hrun,Oper.upon_value];exact hK _ _ ⟨G,(hr.setBox hbx h2 h3 h5 hrow).putNone⟩
end
theorem ztw {G G':Gh}{T T':TokF}{w:World}{id n k b:Nat}{us:Array Value}{e:TypeId}{x:Value}{cs:List AV}{es:List (List D)} (hx:RelA G T w (.ms id n) x) (h1:G.loc id=[b]) (h2:w.heap[b]?=some (.cells us e (0,0))) (h3:cs.length<=us.size)
  (h5:∀i (hi:i<cs.length) (hv:i<us.size),RelA G T w cs[i] us[i]) (hFb:G'.F b=us.size) (hcell:∀y o,o<G.F y->o<G'.F y/\w.cell? ⟨y,o,none⟩=w.cell? ⟨y,o,none⟩) (hc:zb5 n k (cs.take (n*k))=some es):RelA G' T' w (.d (.sl es)) x:=by
 obtain⟨c1,c2,c3,c4⟩:=zep hc;have c3':n*k<=cs.length:=by rw[List.length_take] at c3;omega
 obtain⟨b',cap,hl,he,hcap⟩:=hx.ms_eq;obtain rfl:=(zcx hl.1 h1).symm;rw[he];refine .d ?_;have hn':n=es.length:=c1.symm;rw[hn'];refine .sl es k b 0 cap (fun x=>us.getD x undef) c2 (by omega) (fun x hx=>?_) (fun i hi j hj=>?_)
 ·have h3':x<cs.length:=by rw[<-c1] at c3';omega
  have hxs:x<us.size:=Nat.lt_of_lt_of_le h3' h3;refine⟨by rw[hFb];omega, ?_⟩;simp[World.cell?,h2,hxs]
 ·have hjk:j<k:=by rw[<-c2 _ (List.getElem_mem hi)];exact hj
  have hltn:i*k+j<n*k:=by
   rw[<-c1];have:(i+1)*k<=es.length*k:=Nat.mul_le_mul_right _ (by omega);rw[Nat.add_mul] at this;omega
  have hlt:i*k+j<cs.length:=by omega
  have hlu:i*k+j<us.size:=by omega
  have h8:=c4 i hi j hj (by rw[List.length_take];omega);rw[List.getElem_take] at h8;have h6:=(h5 _ hlt hlu).toD h8;have h7:us.getD (i*k+j) undef=us[i*k+j]:=by simp[Array.getD,hlu]
  rw[h7];exact h6.mono hcell
def zoX (env:Env) (hp:Hp) (j:Nat):Bool:=
 (match getH hp j with|none=>true|some _=>false)&&(env.all fun x=>match getE env x.1 with|some v=> !zaS j v.ids|none=>true)&&(hp.all fun x=>match getH hp x.1 with|some r=> !zaS j r.ids|none=>true)
theorem zoY:∀ {env:Env}{i:Nat}{v:AV},getE env i=some v->∃u,(i,u)∈env
 |(k,x)::r,i,v,h=>by
  simp only[getE] at h;cases hb:Nat.beq k i with
  |true=>obtain rfl:=Nat.eq_of_beq_eq_true hb;exact⟨x,by simp⟩
  |false=>
   simp only[hb,cond_false] at h;obtain⟨u,hu⟩:=zoY h;exact⟨u,List.mem_cons_of_mem _ hu⟩
theorem zpI {env:Env}{hp:Hp}{j:Nat} (h:zoX env hp j=true):getH hp j=none/\zcE j ⟨env,hp⟩:=by
 simp only[zoX,xad,List.all_eq_true] at h;obtain⟨⟨h1,h2⟩,h3⟩:=h;refine⟨?_,fun i v hv hm=>?_,fun i r hr hm=>?_⟩
 ·cases hg:getH hp j with
  |none=>rfl
  |some x=>simp[hg] at h1
 ·obtain⟨u,hu⟩:=zoY hv;have:=h2 _ hu;rw[show getE env (i,u).1=some v from hv] at this;change (!zaS j v.ids)=true at this
  rw[zaJ.2 hm] at this;cases this
 ·obtain⟨u,hu⟩:=zib hr;have:=h3 _ hu;rw[show getH hp (i,u).1=some r from hr] at this;change (!zaS j r.ids)=true at this
  rw[zaJ.2 hm] at this;cases this
theorem CWp.tokDrop {c:Ctx}{env:Env}{hp:Hp}{K:Kt}{code:Code} (t i:Nat){n k:Nat}{xs:List (List D)} (ht:getE env t=some (.gl i xs)) (hi:getH hp i=some (.tok n k))
  (hn:CWp c code ⟨(t,.d (.sl xs))::env,(i,none)::hp⟩ K):CWp c code ⟨env,hp⟩ K:=by
 rintro a w ⟨G,hr⟩
 have g1:∀x,x≠i->getH ((i,none)::hp) x=getH hp x:=fun x h1=>by rw[zah,if_neg h1]
 have gi:getH ((i,none)::hp) i=none:=by rw[zah,if_pos rfl]
 have Ti:tokf hp i=some (n,k):=zar.2 hi;have Ti':tokf ((i,none)::hp) i=none:=by unfold tokf;rw[gi]
 have hT:Turn c G ⟨env,hp⟩ w G ((i,none)::hp) [i]:=by
  refine⟨fun x hx=>?_,fun x hx=>rfl,fun b _=>rfl,fun b o ho=>ho,hr.top,fun x hx=>?_,fun x hx hs b hb=>?_,fun x hx y hy hxy h1 h2 b hb=>?_,fun x hx l hl=>?_⟩
  ·simp only[List.mem_cons,List.not_mem_nil,or_false] at hx;exact g1 x hx
  ·simp only[List.mem_cons,List.not_mem_nil,or_false] at hx;subst hx;exact .inr ⟨.inl rfl,fun p hp'=>by rw[Ti'] at hp';cases hp'⟩
  ·simp only[List.mem_cons,List.not_mem_nil,or_false] at hx;subst hx;rw[gi] at hs;cases hs
  ·simp only[List.mem_cons,List.not_mem_nil,or_false] at hx hy;exact absurd (hx.trans hy.symm) hxy
  ·have hk:=hr.kept x l hl;simp only[List.mem_cons,List.not_mem_nil,or_false] at hx;subst hx;have:=hk.2.2;rw[show tokf (St.mk env hp).hp x=some (n,k) from Ti] at this;cases this
 have hR:=hT.fin hr (fun x hx r hxr=>by
  simp only[List.mem_cons,List.not_mem_nil,or_false] at hx;subst hx;rw[gi] at hxr;cases hxr)
 refine hn a w ⟨G,hR.slot ?_⟩;have hs:=hr.slots t _ ht;cases hs with
 |gl h h2=>exact .d h
theorem R.tokMove {c:Ctx}{G:Gh}{s:St}{a:Act}{w:World} (hr:R c G s a w) (i j:Nat){n k:Nat} (m:Nat) (hi:getH s.hp i=some (.tok n k)) (h0:getH s.hp j=none) (hocc:zcE j s):
  ∃G':Gh,R c G' ⟨s.env,(j,some (.tok m k))::(i,none)::s.hp⟩ a w/\G'.F=G.F/\G'.loc j=G.loc i/\tokf ((j,some (Res.tok m k))::(i,none)::s.hp) j=some (m,k):=by
 have hji:j≠i:=fun e=>by subst e;rw[h0] at hi;cases hi
 have g1:∀x,x≠j->x≠i->getH ((j,some (Res.tok m k))::(i,none)::s.hp) x=getH s.hp x:=fun x h1 h2=>by
  rw[zah,if_neg h1,zah,if_neg h2]
 have gj:getH ((j,some (Res.tok m k))::(i,none)::s.hp) j=some (.tok m k):=by rw[zah,if_pos rfl]
 have gi:getH ((j,some (Res.tok m k))::(i,none)::s.hp) i=none:=by rw[zah,if_neg (fun e=>hji e.symm),zah,if_pos rfl]
 have Ti:tokf s.hp i=some (n,k):=zar.2 hi;have Tj:tokf ((j,some (Res.tok m k))::(i,none)::s.hp) j=some (m,k):=zar.2 gj;have Ti':tokf ((j,some (Res.tok m k))::(i,none)::s.hp) i=none:=by unfold tokf;rw[gi]
 let G':Gh:={ G with loc:=fun x=>bif Nat.beq x j then G.loc i else G.loc x }
 have lj:G'.loc j=G.loc i:=by simp[G']
 have lo:∀x,x≠j->G'.loc x=G.loc x:=fun x h=>by simp[G',zcp h]
 have hsi:(getH s.hp i).isSome:=by rw[hi];rfl
 have hT:Turn c G s w G' ((j,some (Res.tok m k))::(i,none)::s.hp) [i,j]:=by
  refine⟨fun x hx=>?_,fun x hx=>?_,fun b _=>rfl,fun b o ho=>ho,hr.top,fun x hx=>?_,fun x hx hs b hb=>?_,fun x hx y hy hxy h1 h2 b hb=>?_,fun x hx l hl=>?_⟩
  ·simp only[List.mem_cons,List.not_mem_nil,or_false,not_or] at hx;exact g1 x hx.2 hx.1
  ·simp only[List.mem_cons,List.not_mem_nil,or_false,not_or] at hx;exact lo x hx.2
  ·simp only[List.mem_cons,List.not_mem_nil,or_false] at hx;rcases hx with rfl|rfl
   ·exact .inr ⟨.inl (lo _ (fun e=>hji e.symm)),fun p hp'=>by rw[Ti'] at hp';cases hp'⟩
   ·exact .inl hocc
  ·simp only[List.mem_cons,List.not_mem_nil,or_false] at hx;rcases hx with rfl|rfl
   ·rw[gi] at hs;cases hs
   ·exact⟨i,by simp,hsi,by rw[lj] at hb;exact hb⟩
  ·simp only[List.mem_cons,List.not_mem_nil,or_false] at hx hy;rcases hx with rfl|rfl
   ·rw[gi] at h1;cases h1
   ·rcases hy with rfl|rfl
    ·rw[gi] at h2;cases h2
    ·exact absurd rfl hxy
  ·have hk:=hr.kept x l hl;simp only[List.mem_cons,List.not_mem_nil,or_false] at hx;rcases hx with rfl|rfl
   ·have:=hk.2.2;rw[Ti] at this;cases this
   ·have:=hk.2.1;rw[h0] at this;cases this
 have hR:=hT.fin hr (fun x hx r hxr=>by
  simp only[List.mem_cons,List.not_mem_nil,or_false] at hx;rcases hx with rfl|rfl
  ·rw[gi] at hxr;cases hxr
  ·rw[gj] at hxr;cases hxr;intro b hb;rw[lj] at hb;exact hr.heap i _ hi b hb)
 exact⟨G',hR,rfl,lj,Tj⟩
theorem CWp.tokRen {c:Ctx}{env:Env}{hp:Hp}{K:Kt}{code:Code} (t i j:Nat){n k:Nat}{xs:List (List D)} (ht:getE env t=some (.gl i xs)) (hi:getH hp i=some (.tok n k)) (hf:zoX env hp j=true)
  (hn:CWp c code ⟨(t,.gl j xs)::env,(j,some (.tok n k))::(i,none)::hp⟩ K):CWp c code ⟨env,hp⟩ K:=by
 rintro a w ⟨G,hr⟩
 obtain⟨h0,hocc⟩:=zpI hf;have Ti:tokf hp i=some (n,k):=zar.2 hi;obtain⟨G',hR,hF,lj,Tj⟩:=hr.tokMove i j n hi h0 hocc;refine hn a w ⟨G',hR.slot ?_⟩;have hs:=hr.slots t _ ht;cases hs with
 |gl h h2=>
  refine .gl (by rw[hF];exact h) (fun n' k' hT'=>?_);have hT2:tokf ((j,some (Res.tok n k))::(i,none)::hp) j=some (n',k'):=hT';rw[Tj] at hT2;cases hT2
  obtain⟨q1,q2⟩:=h2 n k Ti;refine⟨q1,fun hn'=>⟨(q2 hn').1, ?_⟩⟩;have:=(q2 hn').2;unfold Tip at this ⊢;rw[lj,hF];exact this
section
variable {c:Ctx}{all:Array Oper}{chk:List Rec->Prop}{os:List Oper}{recs:List Rec}{env:Env}{hp:Hp}{Q:St->Prop}
variable {d ty:Nat}{pos:String}{af:Array Edge}{g:Option (Nat×Bool)}{pg:List (Nat×AV)}{t:TypeId}{x:Operand}
theorem xaM {id e k yb:Nat} (j:Nat){xs:List (List D)}{o:Operand}{kd:IntKind}{n:Int}{b:Nat} (ht:SlT c.P t e k yb) (hg:GH all env g pg) (hd:Nat.blt d c.n=true)
  (hx:opd env x=some (.gv id xs)) (htok:getH hp id=some (.tok xs.length k)) (ho:opd env o=some (.d (.int kd n))) (hi:n = ↑b) (hb:b<=xs.length) (hpos:0<xs.length) (hf:zaj env hp [j]=true)
  (hn:Walk c all chk os (zaq (pg++(opF x (.gv id xs)++opF o (.d (.int kd n)))) [(id,.tok xs.length k)] [j] ⟨some (d,.gv j (xs.take b)),[(j,some (.tok b k)),(id,none)]⟩::recs)
   ⟨(d,.gv j (xs.take b))::env,(j,some (.tok b k))::(id,none)::hp⟩ Q):
  Walk c all chk (⟨some d,.slice t x none (some o) none,ty,pos,af,g⟩::os) recs ⟨env,hp⟩ Q:=by
 refine⟨pg++(opF x (.gv id xs)++opF o (.d (.int kd n))),[(id,.tok xs.length k)],[j],_, ?_,zav hg.facts (zav (zaZ hx) (zaZ ho)),hh1 htok,zbe hf,hn⟩;intro s a w hrel hp' hh hcr K Q' hK;obtain⟨G,hr⟩:=hrel;have e1:=hr.opd (za0 hx (fun p hm=>hp' p (by simp[hm])));have e2:=hr.opd (za0 ho (fun p hm=>hp' p (by simp[hm])));have htk:=hh1' hh;obtain⟨h0,hocc⟩:=hcr j (by simp);obtain⟨⟨ad,cap0,hv0⟩,hcl⟩:=e1.gv_inv;have Ti:tokf s.hp id=some (xs.length,k):=zar.2 htk;obtain⟨hkx,htip⟩:=(hcl _ _ Ti).2 rfl;rcases htip with ⟨_,q2,_⟩|⟨bl,cap,cs,et,q1,q2,q3,q4,q5,q6,q7⟩
 ·omega
 obtain⟨G',hR,hF,lj,Tj⟩:=hr.tokMove id j b htk h0 hocc;unfold wpO;rw[if_pos (hg.gf.wanted hr (fun p hm=>hp' p (by simp[hm])))];unfold Oper.wp;have hbd:=zfa (P:=c.P) (w:=w) true xs.length cap (lo:=none) (hi:=some (.int kd b)) (a:=0) (b:=b) (.inl ⟨rfl,rfl⟩) (.inr ⟨kd,rfl⟩) (Nat.zero_le _) (by omega);have hrun:(execOp a.eval ⟨some d,.slice t x none (some o) none,ty,pos,af,g⟩).run c.P w = .ok (.value (.slice (some ⟨bl,0,none⟩) b cap)) w:=by
  simp only[execOp,e2.int_eq,hi,q2,Option.map_none,Option.map_some,Instr.sliceAt,Sem.run_bind,run_underlying ht.und,Result.andThen_ok,Instr.slice,hbd,ht.run_size,Sem.run_pure,Nat.zero_mul,Nat.sub_zero,zce,Nat.zero_add,ite_self]
 rw[hrun,Oper.upon_value];have hl:(xs.take b).length=b:=by rw[List.length_take];omega
 have hA:RelA G' (tokf ((j,some (Res.tok b k))::(id,none)::s.hp)) w (.gv j (xs.take b)) (.slice (some ⟨bl,0,none⟩) b cap):=by
  refine .gv ⟨some ⟨bl,0,none⟩,cap,by rw[hl]⟩ (fun n' k' hT'=>?_);rw[Tj] at hT';cases hT'
  refine⟨by omega,fun _=>⟨fun y hy=>hkx y (List.mem_of_mem_take hy),.inr ⟨bl,cap,cs,et,by rw[lj];exact q1,rfl,by rw[hF];exact q3,q4,q5,by omega,fun i hi' jj hj'=>?_⟩⟩⟩;have hix:i<xs.length:=by rw[hl] at hi';omega
  have h9:=q7 i hix jj (by simpa [List.getElem_take] using hj');rw[hF];simpa [List.getElem_take] using h9
 exact hK _ _ ⟨G',hR.put hA hd⟩
end
theorem FnD.glD {P:Program}{f:FuncId}{i n k:Nat}{args:List AV}{xs:List (List D)} (h:FnD P f args [] (.gl i xs) [(i,some (.tok n k))]):FnD P f args [] (.d (.sl xs)) []:=by
 intro G w vals hok;refine(h G w vals hok).mono ?_;rintro e w' ⟨v,r',hp',G',rfl,⟨rfl,rfl⟩,hret⟩
 refine⟨v,_,_,G',rfl,⟨rfl,rfl⟩, ?_,fun id x hx=>(by cases hx),fun id id' h1=>(by cases h1),fun id h1=>(by cases h1),hret.frm,hret.top,fun id hi=>(by simp[zbz,getH] at hi)⟩;have:=hret.res;cases this with
 |gl h1 h2=>exact .d h1
theorem FnD.gvRen {P:Program}{f:FuncId}{i k:Nat} (j:Nat){args:List AV}{xs:List (List D)} (h:FnD P f args [] (.gv i xs) [(i,some (.tok xs.length k))]):FnD P f args [] (.gv j xs) [(j,some (.tok xs.length k))]:=by
 intro G w vals hok;refine(h G w vals hok).mono ?_;rintro e w' ⟨v,r',hp',G',rfl,⟨rfl,rfl⟩,hret⟩
 have gi:getH ([(i,some (Res.tok xs.length k))]++[]) i=some (.tok xs.length k):=by simp[getH]
 have gj:∀x,(getH ([(j,some (Res.tok xs.length k))]++[]) x).isSome->x=j:=fun x hx=>by
  by_cases e:j=x
  ·exact e.symm
  ·simp[getH,zcp e] at hx
 have Ti:tokf ([(i,some (Res.tok xs.length k))]++[]) i=some (xs.length,k):=zar.2 gi;let G2:Gh:={ G' with loc:=fun x=>G'.loc i }
 refine⟨v,_,_,G2,rfl,⟨rfl,rfl⟩, ?_,fun id x hx=>?_,fun id id' h1 h2 hne=>absurd ((gj id h1).trans (gj id' h2).symm) hne,fun id h1 b hb=>hret.new i (by rw[gi];rfl) b hb,hret.frm,hret.top,fun id hi=>(by simp[zbz,getH] at hi)⟩
 ·have:=hret.res;cases this with
  |gv hv h2=>
   refine .gv hv (fun n' k' hT'=>?_);have hT2:=zar.1 hT';have e1:Res.tok xs.length k=Res.tok n' k':=by simp[getH] at hT2;rw[hT2.1,hT2.2]
   cases e1
   obtain⟨q1,q2⟩:=h2 _ _ Ti;refine⟨q1,fun hn'=>⟨(q2 hn').1, ?_⟩⟩;have:=(q2 hn').2;unfold TipV at this ⊢;exact this
 ·have e1:=gj id (by rw[hx];rfl);subst e1;have e2:x=Res.tok xs.length k:=by simp[getH] at hx;exact hx.symm
  subst e2;intro b hb;exact hret.heap i _ gi b hb
theorem FnD.gvD {P:Program}{f:FuncId}{i k:Nat}{args:List AV}{xs:List (List D)} (h:FnD P f args [] (.gv i xs) [(i,some (.tok xs.length k))]):FnD P f args [] (.d (.sl xs)) []:=by
 intro G w vals hok;refine(h G w vals hok).mono ?_;rintro e w' ⟨v,r',hp',G',rfl,⟨rfl,rfl⟩,hret⟩
 have gi:getH ([(i,some (Res.tok xs.length k))]++[]) i=some (.tok xs.length k):=by simp[getH]
 have Ti:tokf ([(i,some (Res.tok xs.length k))]++[]) i=some (xs.length,k):=zar.2 gi;have hown:∀b,b∉zbE G []:=fun b hb=>by simp[zbE] at hb
 have hnew:∀b,b∈G'.loc i->w.heap.size<=b:=fun b hb=>(hret.new i (by rw[gi];rfl) b hb).resolve_left (hown b);have hlt:∀b,b∈G'.loc i->b<w'.heap.size:=hret.heap i _ gi;have hres:=hret.res;obtain⟨hv,hcl⟩:=hres.gv_inv;obtain⟨hkx,htip⟩:=(hcl _ _ Ti).2 rfl;rcases htip with ⟨_,q2,q3⟩|⟨bl,cap,cs,et,q1,q2,q3,q4,q5,q6,q7⟩
 ·have hxs:xs=[]:=List.eq_nil_of_length_eq_zero q2;subst hxs;refine⟨v,_,_,G',rfl,⟨rfl,rfl⟩, ?_,fun id x hx=>(by cases hx),fun id id' h1=>(by cases h1),fun id h1=>(by cases h1),hret.frm,hret.top,fun id hi=>(by simp[zbz,getH] at hi)⟩;rw[q3];exact .d .nil
 ·let G2:Gh:={ G' with F:=fun x=>bif Nat.beq x bl then cs.size else G'.F x }
  have hin:G2.F bl=cs.size:=by simp[G2]
  have hout:∀x,x≠bl->G2.F x=G'.F x:=fun x hx=>by simp[G2,zcp hx]
  have hbl:bl∈G'.loc i:=by rw[q1];simp
  have hle:∀b o,o<G'.F b->o<G2.F b:=fun x o ho=>by
   by_cases hx:x=bl
   ·subst hx;rw[q3] at ho;omega
   ·rw[hout x hx];exact ho
  refine⟨v,_,_,G2,rfl,⟨rfl,rfl⟩, ?_,fun id x hx=>(by cases hx),fun id id' h1=>(by cases h1),fun id h1=>(by cases h1), ?_,fun x hx=>?_,fun id hi=>(by simp[zbz,getH] at hi)⟩
  ·rw[q2];have hsz:xs.length*k<=cs.size:=Nat.le_trans (Nat.mul_le_mul_right _ q6) q5;refine .d (.sl xs k bl 0 cap (fun n=>cs.getD n undef) hkx q6 (fun q hq=>⟨by rw[hin];omega, ?_⟩) (fun q hq jj hj=>?_))
   ·have:q<cs.size:=by omega
    simp[World.cell?,q4,this]
   ·exact(q7 q hq jj hj).mono (fun b o ho=>⟨hle b o ho,rfl⟩)
  ·have hf:=hret.frm;exact⟨hf.os,hf.tape,hf.output,hf.size,fun x hx hn=>⟨(hf.block x hx hn).1,by
    rw[hout x (fun e=>by subst e;have:=hnew x hbl;omega)];exact(hf.block x hx hn).2⟩,fun x o ho=>⟨hle x o (hf.cell x o ho).1,(hf.cell x o ho).2⟩⟩
  ·by_cases hx':x=bl
   ·subst hx';have:=hlt x hbl;omega
   ·rw[hout x hx'];exact hret.top x hx
theorem znX {zs:List AV}:∀ {n i j:Nat},i<n->j<zs.length->(zaF n zs)[i*zs.length+j]?=zs[j]?
 |n+1,0,j,_,hj=>by
  simp only[zaF,Nat.zero_mul,Nat.zero_add];rw[List.getElem?_append_left hj]
 |n+1,i+1,j,hi,hj=>by
  simp only[zaF];rw[List.getElem?_append_right (by rw[Nat.add_mul];omega),show(i+1)*zs.length+j-zs.length=i*zs.length+j by rw[Nat.add_mul];omega];exact znX (by omega) hj
section
variable {c:Ctx}
theorem R.freshV {G:Gh}{s:St}{a:Act}{w:World} (hr:R c G s a w){id k nc:Nat}{es:List (List D)}{cells:Array Value}{e:TypeId} (htok:getH s.hp id=some (.tok 0 k)) (hpos:0<es.length)
  (hk:∀x,x∈es->x.length=k) (hcs:cells.size=nc*k) (hn:es.length<=nc)
  (hrow:∀i (hi:i<es.length) j (hj:j<es[i].length),RelD G.F w es[i][j] (cells.getD (i*k+j) undef)):
  ∃G',R c G' { s with hp:=(id,some (.tok es.length k))::s.hp } a (w.drew.alloc (.cells cells e))/\
   RelA G' (tokf ((id,some (.tok es.length k))::s.hp)) (w.drew.alloc (.cells cells e)) (.gv id es) (.slice (some ⟨w.heap.size,0,none⟩) es.length nc):=by
 let G':Gh:={ F:=G.F,loc:=fun j=>bif Nat.beq j id then [w.heap.size] else G.loc j }
 have hlt:∀b o,o<G.F b->b<w.heap.size:=fun b o ho=>by
  rcases Nat.lt_or_ge b w.heap.size with h|h
  ·exact h
  ·rw[hr.top b h] at ho;omega
 have hcell:∀b o,o<G.F b->o<G'.F b/\(w.drew.alloc (.cells cells e)).cell? ⟨b,o,none⟩=w.cell? ⟨b,o,none⟩:=fun b o ho=>by
  have hb:=hlt b o ho;exact⟨ho,by rw[World.cell?_alloc_lt w.drew _ _ hb];rfl⟩
 have hlocne:∀j,j≠id->G'.loc j=G.loc j:=fun j hj=>by
  have:Nat.beq j id=false:=by
   cases h:Nat.beq j id with
   |true=>exact absurd (Nat.eq_of_beq_eq_true h) hj
   |false=>rfl
  simp[G',this]
 have hlocid:G'.loc id=[w.heap.size]:=by simp[G']
 have hT':tokf ((id,some (.tok es.length k))::s.hp) id=some (es.length,k):=zar.2 (by rw[zah,if_pos rfl]);refine⟨G',hr.retok (G':=G') htok hpos hcell hlocne (fun b hb _=>⟨zc4 (w:=w.drew) hb,rfl⟩) (fun b hb=>by rw[hlocid] at hb;simp at hb;subst hb;simp)
  (fun b hb=>by rw[hlocid] at hb;simp at hb;exact .inr (by omega)) rfl rfl rfl (by simp) (fun b hb=>?_), ?_⟩
 ·have hb':w.heap.size+1<=b:=by simpa using hb
  exact hr.top b (by omega)
 refine .gv ⟨_,_,rfl⟩ (fun n' k' hm'=>?_);rw[hT'] at hm';cases hm'
 exact⟨Nat.le_refl _,fun _=>⟨hk,.inr ⟨w.heap.size,nc,cells,e,hlocid,rfl,hr.top _ (Nat.le_refl _),zdM (w:=w.drew),by rw[hcs];exact Nat.le_refl _,hn,fun i hi j hj=>(hrow i hi j hj).mono hcell⟩⟩⟩
end
section
variable {c:Ctx}{all:Array Oper}{chk:List Rec->Prop}{os:List Oper}{recs:List Rec}{env:Env}{hp:Hp}{Q:St->Prop}
variable {d ty:Nat}{pos:String}{af:Array Edge}{g:Option (Nat×Bool)}{pg:List (Nat×AV)}{t:TypeId}{x y:Operand}
theorem RelA.nils_eq {G:Gh}{T:TokF}{w:World}{v:Value} (h:RelA G T w .nils v):v = .slice none 0 0:=by cases h;rfl
theorem Walk.capN {at_ e k yb:Nat} (ht:SlT c.P at_ e k yb) (hg:GH all env g pg) (hd:Nat.blt d c.n=true) (hx:opd env x=some .nils)
  (hn:Walk c all chk os (zaq (pg++opF x .nils) [] [] ⟨some (d,.d (.i 0)),[]⟩::recs) ⟨(d,.d (.i 0))::env,hp⟩ Q):
  Walk c all chk (⟨some d,.call ⟨.builtin .cap,#[x],#[at_]⟩,ty,pos,af,g⟩::os) recs ⟨env,hp⟩ Q:=
 xbb hg hd hx (fun a G T w h=>⟨.int .i64 (0:Nat),by
  simp[execOp,resolve,invoke,builtin,h.nils_eq,Builtin.cap_,run_underlying ht.und,goInt],.d (.int _ _)⟩) hn
theorem Walk.cutN_h {e k yb:Nat}{o:Operand}{kd:IntKind} (ht:SlT c.P t e k yb) (hg:GH all env g pg) (hd:Nat.blt d c.n=true)
  (hx:opd env x=some .nils) (ho:opd env o=some (.d (.int kd 0)))
  (hn:Walk c all chk os (zaq (pg++(opF x .nils++opF o (.d (.int kd 0)))) [] [] ⟨some (d,.nils),[]⟩::recs) ⟨(d,.nils)::env,hp⟩ Q):
  Walk c all chk (⟨some d,.slice t x none (some o) none,ty,pos,af,g⟩::os) recs ⟨env,hp⟩ Q:=by
 refine xbc hg hd hx ho (fun a G T w h1 h2=>⟨.slice none 0 0, ?_,.nils⟩) hn;have hbd:=zfa (P:=c.P) (w:=w) true 0 0 (lo:=none) (hi:=some (.int kd (0:Nat))) (a:=0) (b:=0) (.inl ⟨rfl,rfl⟩) (.inr ⟨kd,rfl⟩) (Nat.le_refl _) (Nat.le_refl _);have e2:a.eval o = .int kd ((0:Nat):Int):=h2.int_eq;simp only[execOp,e2,h1.nils_eq,Option.map_none,Option.map_some,Instr.sliceAt,Sem.run_bind,run_underlying ht.und,Result.andThen_ok,Instr.slice,hbd,ht.run_size,Sem.run_pure,Nat.zero_mul,Nat.sub_zero,ite_self]
theorem Walk.growZ {e k yb n:Nat} (id:Nat){zs:List AV}{zr:List D}{tn:TypeId}{kn:IntKind}{m:Int} (ht:SlT c.P t e k yb) (htn:c.P.underlying tn=some (.int kn)) (hz:TyZ c.P e k zs) (hzk:zs.length=k) (hk:0<k) (hzr:toDL zs=some zr)
  (hg:GH all env g pg) (hd:Nat.blt d c.n=true) (hx:opd env x=some .nils) (hy:opd env y=some (.d (.i m))) (hm:m = ↑n) (hn0:0<n) (hb:n*yb<=281474976710656) (h63:(n:Int)<=9223372036854775807) (hf:zaj env hp [id]=true)
  (hn:Walk c all chk os (zaq (pg++(opF x .nils++opF y (.d (.i m)))) [] [id] ⟨some (d,.gv id (List.replicate n zr)),[(id,some (.tok n k)),(id,some (.tok 0 k))]⟩::recs)
   ⟨(d,.gv id (List.replicate n zr))::env,(id,some (.tok n k))::(id,some (.tok 0 k))::hp⟩ Q):
  Walk c all chk (⟨some d,.call ⟨.builtin .append,#[x,y],#[t,tn]⟩,ty,pos,af,g⟩::os) recs ⟨env,hp⟩ Q:=by
 refine⟨pg++(opF x .nils++opF y (.d (.i m))),[],[id],_, ?_,zav hg.facts (zav (zaZ hx) (zaZ hy)),by simp,zbe hf,hn⟩;intro s a w hrel hp' hh hcr K Q' hK;obtain⟨G,hr⟩:=hrel;have e1:=(hr.opd (za0 hx (fun p hm=>hp' p (by simp[hm])))).nils_eq;have e2:=(hr.opd (za0 hy (fun p hm=>hp' p (by simp[hm])))).int_eq;obtain⟨h0,hocc⟩:=hcr id (by simp);obtain⟨G1,hr1,_⟩:=hr.mkTokV k h0 hocc;obtain⟨ie,hi1,hi2,hi3⟩:=ht.inf;obtain⟨i',z,z1,z2,z3,z4⟩:=hz.inf;rw[hi1] at z1;cases z1
 have hrun:=Go.Lib.run_append_nil_zeros (P:=c.P) w t tn ty e ie z .i64 kn ht.und htn hi1 z3 n hn0 (by omega) h63 (by rw[hi3];exact hb);have hz0:=zbQ (G:=G1) (T:=tokf ((id,some (.tok 0 k))::s.hp)) (w:=w) z4;have hzz:=zeR (by simpa using hz0) n (by omega);obtain⟨c1,c2⟩:=zhu hzr;have hsz:z.cells.size=k:=by have:=hz0.1;simp at this;omega
 have hle:n<=grownCap w n 0 e:=by have:=grownCap_ge w n 0 e;omega
 have ez:Builtin.zeroCells z.cells n=(Array.range (n*zs.length)).map (z.cells[· % z.cells.size]!):=by
  unfold Builtin.zeroCells;rw[hsz,hzk]
 rw[<-ez] at hzz;have hl:(List.replicate n zr).length=n:=List.length_replicate;have hcs:(Builtin.zeroCells z.cells n++Builtin.zeroCells z.cells (grownCap w n 0 e-n)).size=grownCap w n 0 e*k:=by
  simp only[Array.size_append,size_zeroCells,hsz,<-Nat.add_mul];congr 1;omega
 have key:∀i (hi:i<(List.replicate n zr).length) j (hj:j<(List.replicate n zr)[i].length),RelD G1.F w (List.replicate n zr)[i][j] ((Builtin.zeroCells z.cells n++Builtin.zeroCells z.cells (grownCap w n 0 e-n)).getD (i*k+j) undef):=by
  intro i hi j hj;have hi2:i<n:=by simpa using hi
  have hj2:j<zr.length:=by simpa using hj
  have hj3:j<zs.length:=by omega
  have hlt:i*k+j<(Builtin.zeroCells z.cells n).size:=by
   rw[size_zeroCells,hsz];have:(i+1)*k<=n*k:=Nat.mul_le_mul_right _ (by omega);rw[Nat.add_mul] at this;omega
  have hlz:i*k+j<(zaF n zs).length:=by have:=hzz.1;rw[<-this];exact hlt
  have h5:=hzz.2 (i*k+j) hlz hlt;have h6:=znX (zs:=zs) hi2 hj3;rw[hzk,List.getElem?_eq_getElem hlz,List.getElem?_eq_getElem hj3] at h6;rw[Option.some.inj h6] at h5;have h7:=h5.toD (c2 j hj3 hj2);have e5:(Builtin.zeroCells z.cells n++Builtin.zeroCells z.cells (grownCap w n 0 e-n)).getD (i*k+j) undef=(Builtin.zeroCells z.cells n)[i*k+j]:=by
   rw[Array.getD_eq_getD_getElem?,Array.getElem?_append_left hlt,Array.getElem?_eq_getElem hlt];rfl
  rw[e5];simp only[List.getElem_replicate];exact h7
 obtain⟨G',hR,hA⟩:=hr1.freshV (nc:=grownCap w n 0 e) (e:=e) (es:=List.replicate n zr) (by rw[zah,if_pos rfl]) (by rw[hl];exact hn0) (fun y hy=>by obtain⟨_,rfl⟩:=List.mem_replicate.1 hy;omega) hcs (by rw[hl];exact hle) key;rw[hl] at hR hA;unfold wpO;rw[if_pos (hg.gf.wanted hr (fun p hm=>hp' p (by simp[hm])))];unfold Oper.wp;have:(execOp a.eval ⟨some d,.call ⟨.builtin .append,#[x,y],#[t,tn]⟩,ty,pos,af,g⟩).run c.P w = .ok (.value (.slice (some ⟨w.heap.size,0,none⟩) n (grownCap w n 0 e))) (w.drew.alloc (.cells (Builtin.zeroCells z.cells n++Builtin.zeroCells z.cells (grownCap w n 0 e-n)) e)):=by
  simp only[execOp,resolve,invoke,builtin,Sem.run_bind,Sem.run_pure,Result.andThen_ok,List.map_toArray,xae,List.map_nil,e1,e2,hm,hrun]
 rw[this,Oper.upon_value];exact hK _ _ ⟨G',hR.put hA hd⟩
end
end Go.Proofs.YtlfipehhbdjnjaaGreat
namespace Go.Proofs.YtlfipehhbdjnjaaGreat
open Go
set_option linter.unusedSimpArgs false
set_option linter.unusedVariables false
set_option maxRecDepth 100000
set_option maxHeartbeats 2000000
def Pat.op:Pat->Int | .mk a0 _ _ _ _ _=>a0
def Pat.ctor:Pat->Int | .mk _ a1 _ _ _ _=>a1
def Pat.n:Pat->Int | .mk _ _ a2 _ _ _=>a2
def Pat.m:Pat->Int | .mk _ _ _ a3 _ _=>a3
def Pat.var:Pat->Int | .mk _ _ _ _ a4 _=>a4
def Pat.kids:Pat->List Pat | .mk _ _ _ _ _ k=>k
abbrev Pat.cc (v:Pat):List D:=[.i v.op,.i v.ctor,.i v.n,.i v.m,.i v.var,.sl (Pat.cs v.kids)]
theorem Pat.c_eq (v:Pat):v.c=v.cc:=by cases v;rfl
theorem Pat.eta (v:Pat):Pat.mk v.op v.ctor v.n v.m v.var v.kids=v:=by cases v;rfl
theorem Pat.cs_at' {pre:List Pat}{x:Pat}{rest xs:List Pat} (h:pre++x::rest=xs):(Pat.cs xs)[pre.length]?=some x.cc:=by rw[Pat.cs_eq,<-Pat.c_eq];exact zaR h
mutual
def zfO:Pat->Pat->Bool
 | .mk a0 a1 a2 a3 a4 ks,.mk b0 b1 b2 b3 b4 ls=>decide (a0=b0)&&(decide (a1=b1)&&(decide (a2=b2)&&(decide (a3=b3)&&(decide (a4=b4)&&zcd ks ls))))
def zcd:List Pat->List Pat->Bool
 | [],[]=>true
 |x::r,y::s=>zfO x y&&zcd r s
 |_,_=>false
end
mutual
def Pat.ok:Pat->Prop
 | .mk _ _ _ _ _ ks=>ks.length<=1000000000000/\Pats.ok ks
def Pats.ok:List Pat->Prop
 | []=>True
 |v::r=>v.ok/\Pats.ok r
end
theorem Pats.ok_mem:∀ {l:List Pat},Pats.ok l->∀v,v∈l->v.ok
 |x::r,h,v,hv=>by
  simp only[Pats.ok] at h;rcases List.mem_cons.1 hv with rfl|hv
  ·exact h.1
  ·exact Pats.ok_mem h.2 v hv
mutual
def Pat.size:Pat->Nat
 | .mk _ _ _ _ _ ks=>1+Pats.size ks
def Pats.size:List Pat->Nat
 | []=>0
 |v::r=>v.size+Pats.size r
end
theorem Pats.size_mem:∀ {l:List Pat}{v:Pat},v∈l->v.size<=Pats.size l
 |x::r,v,hv=>by
  simp only[Pats.size];rcases List.mem_cons.1 hv with rfl|hv
  ·omega
  ·have:=Pats.size_mem hv;omega
theorem zmd:∀ {a b:List Pat},a.length≠b.length->zcd a b=false
 | [],[],h=>by simp at h
 | [],_::_,_=>by simp[zcd]
 |_::_,[],_=>by simp[zcd]
 |x::r,y::s,h=>by simp[zcd,zmd (a:=r) (b:=s) (by simpa using h)]
theorem zaH {l:List Pat}{i:Nat} (h:i<l.length):(Pat.cs l)[i]?=some (nth l i).cc:=by
 rw[Pat.cs_eq,<-Pat.c_eq];exact zax h
theorem Pat.ok_iff (v:Pat):v.ok↔v.kids.length<=1000000000000/\Pats.ok v.kids:=by cases v;rfl
theorem Pat.size_eq (v:Pat):v.size=1+Pats.size v.kids:=by cases v;rfl
theorem zsx (v w:Pat):zfO v w=(decide (v.op=w.op)&&(decide (v.ctor=w.ctor)&&(decide (v.n=w.n)&&(decide (v.m=w.m)&&(decide (v.var=w.var)&&zcd v.kids w.kids))))):=by cases v;cases w;rfl
theorem zk1 {a b:List Pat}{i:Nat} (h:i<a.length) (h2:zfO (nth a i) (nth b i)=false):zcd a b=false:=by
 induction i generalizing a b with
 |zero=>
  cases a with
  |nil=>simp at h
  |cons x r=>
   cases b with
   |nil=>simp[zcd]
   |cons y s=>simp[nth] at h2;simp[zcd,h2]
 |succ i ih=>
  cases a with
  |nil=>simp at h
  |cons x r=>
   cases b with
   |nil=>simp[zcd]
   |cons y s=>simp only[zcd];rw[ih (a:=r) (b:=s) (by simpa using h) (by simpa [nth] using h2)];simp
theorem zme {a b:List Pat} (hl:a.length=b.length) (h:∀i,i<a.length->zfO (nth a i) (nth b i)=true):zcd a b=true:=by
 induction a generalizing b with
 |nil=>cases b with
  |nil=>simp[zcd]
  |cons y s=>simp at hl
 |cons x r ih=>cases b with
  |nil=>simp at hl
  |cons y s=>
   have h0:=h 0 (by simp);simp only[zcd];rw[ih (by simpa using hl) (fun i hi=>by simpa [nth] using h (i+1) (by simpa using hi))];simpa [nth] using h0
mutual
theorem zmc:∀v:Pat,zfO v v=true
 | .mk _ _ _ _ _ ks=>by simp[zfO,zkD ks]
theorem zkD:∀l:List Pat,zcd l l=true
 | []=>rfl
 |v::r=>by simp[zcd,zmc v,zkD r]
end
theorem zn5 (m:Bool) (y:Pat) (rest:List Pat):zag m (Pat.cs (y::rest)) = .d (.i y.op):: .d (.i y.ctor):: .d (.i y.n):: .d (.i y.m):: .d (.i y.var):: .own m (zae y.kids)::zag m (Pat.cs rest):=by
 cases y;rfl
theorem zdy (m:Bool) (l:List Pat) (y:Pat):zag m (Pat.cs (l++[y]))=zag m (Pat.cs l)++[.d (.i y.op),.d (.i y.ctor),.d (.i y.n),.d (.i y.m),.d (.i y.var),.own m (zae y.kids)]:=by
 rw[Pat.cs_eq,xaf,<-Pat.cs_eq,zhj];congr 1
 cases y;rfl
theorem Pat.c_len (v:Pat):v.c.length=6:=by cases v;rfl
theorem Pat.cs_rows {l:List Pat}:∀x,x∈Pat.cs l->x.length=6:=by
 intro x hx;rw[Pat.cs_eq] at hx;obtain⟨y,_,rfl⟩:=List.mem_map.1 hx;exact y.c_len
theorem Pat.cs_nil (l:List Pat):Pat.cs l=[]↔l=[]:=by rw[Pat.cs_eq];simp
theorem za9 (m:Bool) (l:List Pat):(zag m (Pat.cs l)).length=l.length*6:=by
 rw[zbT (k:=6) Pat.cs_rows,Pat.cs_len]
mutual
def mPat:Pat->Nat
 | .mk _ _ _ _ _ ks=>ze6 ks
def ze6:List Pat->Nat
 | []=>0
 |v::r=>1+mPat v+ze6 r
end
theorem zty (v:Pat):mPat v=ze6 v.kids:=by cases v;rfl
theorem zo7:∀l:List Pat,ze6 l=l.length+(l.map mPat).sum
 | []=>rfl
 |v::r=>by simp only[ze6,zo7 r,xab,xae,List.sum_cons];omega
theorem zjt {l:List Pat}{left:Int} (h:l.length<=1000000000000) (k0:0<=left) (k1:left<=1000000000000)
  (hf:∀v∈l,∀q:Int,0<=q->q<=1000000000000->FnD Tryz.prog 162 [.agg [.d (.i v.op),.d (.i v.ctor),.d (.i v.n),.d (.i v.m),.d (.i v.var),.d (zae v.kids)],.d (.i q)] [] (.d (.i (szr q (mPat v)))) []):
  FnD Tryz.prog 256 [.d (zae l),.d (.i left)] [] (.d (.i (szr left (ze6 l)))) []:=by
 have z:=zbG (left:=left) (ze6 l);rw[zo7] at z ⊢;refine bd Tryz.f256 27 [] [] fun w0 F0 own kept hk=>?_;refine ar ?_ (by first|(constructor<;>omega)|(constructor<;>simp[Pat.cs_len]<;>omega));refine sq ?_ ?_<;>intro h1 h1p h1s<;>(try simp only[Q,Pat.cs_len] at h1p);refine rq ?_;rotate_left;refine xam (ι:=List (Pat)×List (Pat)×(Int)) hk (fun x=>[(5,.d (.i (x.1.length:Int))),(1,.d (.i x.2.2))]) [4,12,13,14,15,16,17,18,19,20,21,22,23,24,25] (fun x=>[]) (fun x=>x.1++x.2.1=l/\x.2.2=left-l.length-(x.1.map mPat).sum/\0<=x.2.2) (fun x=>x.2.1.length) ([],l,left-l.length) ⟨by simp,by simp,by simp[Pat.cs_len] at *;omega⟩ ⟨⟨_,rfl,xaz ?_⟩,⟨⟨_,rfl,xaz ?_⟩,trivial⟩⟩ trivial (fun x=>rfl) (fun x hg1=>?_);iterate 2 focus (first|rfl|(simp;done)|(simp[Pat.cs_len];done))
 obtain⟨pre,rest,v⟩:=x;dsimp only at hg1 ⊢;refine evc [] [] ?_;refine sq ?_ ?_<;>intro h2 h2p h2s<;>(try simp only[Q,Pat.cs_len] at h2p);rcases rest with _|⟨y,rest⟩
 ·exfalso;simp_all
 refine xaS ztb .none rfl rfl rfl rfl (Pat.cs_at' hg1.1) rfl ?_;refine ev ?_;refine wc zq9 (hf y (by rw[<-hg1.1];simp) _ (by omega) (by omega)) rfl rfl ?_;refine ev ?_;refine sq ?_ ?_<;>intro h3 h3p h3s<;>(try simp only[Q,Pat.cs_len] at h3p);refine rq ?_;rotate_left;refine ar ?_ (by first|(constructor<;>omega)|(constructor<;>simp[Pat.cs_len]<;>omega));refine xah ((pre++[y],rest,szr v (mPat y))) ⟨⟨(by have hz:=hg1.1;rw[<-hz];simp),(by have e:=zdr (f:=mPat) hg1.1;have z3:=zbG (left:=v) (mPat y);simp;omega)⟩,(by simp),sx ⟨⟨_,rfl,xaz ?_⟩,⟨⟨_,rfl,xaz ?_⟩,trivial⟩⟩ trivial⟩;iterate 2 focus (first|rfl|(simp;done)|(simp[Pat.cs_len];done))
 have hrest:rest=[]:=by
  rcases rest with _|⟨a,b⟩
  ·rfl
  ·exfalso;have hz:=congrArg List.length (hg1.1);simp only[xaa,xab,xac] at hz;omega
 subst hrest;refine rq ?_;rotate_left;all_goals (refine congrArg D.i ?_;first|omega|(have e:=zdr (f:=mPat) hg1.1;have z3:=zbG (left:=v) (mPat y);simp only[Pat.cs_len] at *;omega)|(rw[List.append_nil] at hg1;rw[hg1.1] at hg1;simp only[Pat.cs_len] at *;omega)|(simp only[Pat.cs_len] at *;omega))
theorem zge:∀(n:Nat){v:Pat}{left:Int},v.size<=n->v.ok->0<=left->left<=1000000000000->FnD Tryz.prog 162 [.agg [.d (.i v.op),.d (.i v.ctor),.d (.i v.n),.d (.i v.m),.d (.i v.var),.d (zae v.kids)],.d (.i left)] [] (.d (.i (szr left (mPat v)))) []
 |0,v,left,h,_,_,_=>by rw[Pat.size_eq] at h;omega
 |n+1,v,left,h,hok,k0,k1=>by
  rw[Pat.size_eq] at h;rw[Pat.ok_iff] at hok;rw[zty];have z:=zbG (left:=left) (ze6 v.kids);refine bd Tryz.f162 12 [] [] fun w0 F0 own kept hk=>?_;refine bx 3002 ?_;refine ev ?_;refine wc zub (zjt hok.1 k0 k1 (fun x hx q q0 q1=>zge n (by have:=Pats.size_mem hx;omega) (Pats.ok_mem hok.2 x hx) q0 q1)) rfl rfl ?_;refine ev ?_;refine sq ?_ ?_<;>intro h1 h1p h1s<;>(try simp only[Q] at h1p);refine rq ?_;rotate_left;refine rq ?_;rotate_left;all_goals (refine congrArg D.i ?_;omega)
theorem zju {l:List Pat} (h:l.length<=1000000000000)
  (hf:∀v∈l,FnD Tryz.prog 164 [.agg [.d (.i v.op),.d (.i v.ctor),.d (.i v.n),.d (.i v.m),.d (.i v.var),.d (zae v.kids)]] [] (.agg [.d (.i v.op),.d (.i v.ctor),.d (.i v.n),.d (.i v.m),.d (.i v.var),.ms 66 v.kids.length]) [(66,some (.tree (zag false (Pat.cs v.kids))))]):
  FnD Tryz.prog 258 [.d (zae l)] [] (.ms 66 l.length) [(66,some (.tree (zag false (Pat.cs l))))]:=by
 have hf2:∀v∈l,FnD Tryz.prog 164 [.agg [.d (.i v.op),.d (.i v.ctor),.d (.i v.n),.d (.i v.m),.d (.i v.var),.d (zae v.kids)]] [] (.agg [.d (.i v.op),.d (.i v.ctor),.d (.i v.n),.d (.i v.m),.d (.i v.var),.ms 67 v.kids.length]) [(67,some (.tree (zag false (Pat.cs v.kids))))]:=fun v hv=>xaw (zaa _ _) rfl (hf v hv) 67;refine bd Tryz.f258 23 [] [2,4] fun w0 F0 own kept hk=>?_;refine xa3 (id:=66) sl34 tz36 rfl (by decide) (zbW rfl) .none rfl rfl rfl (by simp[Pat.cs_len];omega) (by simp[Pat.cs_len];omega) rfl rfl rfl ?_;refine ev ?_;refine CWp.boxTree 66 false rfl rfl (zej _ _ _) ?_;refine evc [] [] ?_;refine xam (ι:=List (Pat)×List (Pat)) hk (fun x=>[(4,.d (.i (x.1.length:Int)))]) [8,9,10,11,12,13,14,15,16,17,18,19,20,21] (fun x=>[(66,some (.tree (zag false (Pat.cs x.1)++zaF x.2.length [.d (.i 0),.d (.i 0),.d (.i 0),.d (.i 0),.d (.i 0),.own false (.sl [])])))]) (fun x=>x.1++x.2=l) (fun x=>x.2.length) ([],l) (by simp) ⟨⟨_,rfl,xaz ?_⟩,trivial⟩ ⟨?_,trivial⟩ (fun x=>rfl) (fun x hg1=>?_);focus (first|rfl|(simp;done)|(simp_all;done)|omega)
 focus (first|rfl|(show some (Res.tree _)=some (Res.tree _);rw[zdy,List.append_assoc];rfl)|(show some (Res.tree _)=some (Res.tree _);simp[zbh,Pat.cs_len];rfl))
 obtain⟨pre,rest⟩:=x;dsimp only at hg1 ⊢;refine evc [] [2,4] ?_;refine sq ?_ ?_<;>intro h1 h1p h1s<;>(try simp only[Q,Pat.cs_len] at h1p);rcases rest with _|⟨y,rest⟩
 ·exfalso;simp_all
 refine xaS ztb .none rfl rfl rfl rfl (Pat.cs_at' hg1) rfl ?_;refine ev ?_;refine Walk.call (cr:=[67]) zoC (hf2 y (by rw[<-hg1];simp)) rfl .none rfl rfl (LeL.refl _) trivial rfl (by first|rfl|(simp only[zas,List.all_cons,List.all_nil,zaC,zay,AV.idsL,AV.ids,zab,zaa,xae,List.map_nil];rfl)) (by first|rfl|(simp only[zaj,occH,occE,Res.ids,xag,List.nil_append,AV.idsL,AV.ids,zab,zaa,zac,zan,xae,List.map_nil,upC];rfl)) ?_;refine xaV sl34 .none rfl rfl rfl rfl (by first|omega|(simp[Pat.cs_len];omega)) ?_;refine xbk ty36 .none rfl rfl rfl rfl rfl rfl (by simp) ((zfX (za9 false _) rfl)) ?_;refine tv ?_;refine CWp.merge hk 66 (pre.length*6+5) 67 6 _ rfl (zaW (za9 false _) rfl) (by simp[zap,Pat.cs_len]) rfl Pat.cs_rows rfl rfl (zaE (za9 false _) (zb9 rfl)) ?_;refine evc [] [] ?_;refine ar ?_;refine xah ((pre++[y],rest)) ⟨(by have hz:=hg1;rw[<-hz];simp),(by simp),sx ⟨⟨_,rfl,xaz ?_⟩,trivial⟩ ⟨?_,trivial⟩⟩;focus (first|rfl|(simp;done)|(simp_all;done)|omega)
 focus (first|rfl|(show some (Res.tree _)=some (Res.tree _);rw[zdy,List.append_assoc];rfl)|(show some (Res.tree _)=some (Res.tree _);simp[zbh,Pat.cs_len];rfl))
 have hrest:rest=[]:=by
  rcases rest with _|⟨a,b⟩
  ·rfl
  ·exfalso;have hz:=congrArg List.length (hg1);simp only[xaa,xab,xac] at hz;omega
 subst hrest;refine rn [(66,some (.tree (zag false (Pat.cs l))))] (r1 rfl) (xaA ?_) ⟨rfl,rfl⟩ (SubH.get ⟨?_,trivial⟩) (za6 rfl);rotate_left 2;all_goals (first|((first|rfl|(simp[Pat.cs_len];done));done)|(first|rfl|(rw[List.append_nil] at hg1;subst hg1;show some (Res.tree _)=some (Res.tree _);simp[zaF];done)))
theorem zen:∀(n:Nat){v:Pat},v.size<=n->v.ok->FnD Tryz.prog 164 [.agg [.d (.i v.op),.d (.i v.ctor),.d (.i v.n),.d (.i v.m),.d (.i v.var),.d (zae v.kids)]] [] (.agg [.d (.i v.op),.d (.i v.ctor),.d (.i v.n),.d (.i v.m),.d (.i v.var),.ms 66 v.kids.length]) [(66,some (.tree (zag false (Pat.cs v.kids))))]
 |0,v,h,_=>by rw[Pat.size_eq] at h;omega
 |n+1,v,h,hok=>by
  rw[Pat.size_eq] at h;rw[Pat.ok_iff] at hok;refine bd Tryz.f164 24 [] [] fun w0 F0 own kept hk=>?_;refine bx 3001 ?_;refine ab 3002 tz36 ?_;refine tv ?_;refine ab 3003 tz36 ?_;refine tv ?_;refine so ty3 ?_;refine tv ?_;refine so ty3 ?_;refine tv ?_;refine so ty3 ?_;refine tv ?_;refine so ty3 ?_;refine tv ?_;refine so ty3 ?_;refine tv ?_;refine Walk.call (cr:=[66]) zuc (zju hok.1 (fun x hx=>zen n (by have:=Pats.size_mem hx;omega) (Pats.ok_mem hok.2 x hx))) rfl .none rfl rfl (LeL.refl _) trivial rfl (by first|rfl|(simp only[zas,List.all_cons,List.all_nil,zaC,zay,AV.idsL,AV.ids,zab,zaa,xae,List.map_nil];rfl)) (by first|rfl|(simp only[zaj,occH,occE,Res.ids,xag,List.nil_append,AV.idsL,AV.ids,zab,zaa,zac,zan,xae,List.map_nil,upC];rfl)) ?_;refine ev ?_;refine so ty34 ?_;refine tv ?_;refine so ty36 ?_;refine tv ?_;focus (refine rn [(66,some (.tree (zag false (Pat.cs v.kids))))] (.cons (.cellA ty36 rfl rfl rfl) .nil) (.agg (.cons (.eqd ?_) (.cons (.eqd ?_) (.cons (.eqd ?_) (.cons (.eqd ?_) (.cons (.eqd ?_) (.cons (xaA ?_) .nil))))))) ⟨rfl,rfl⟩ (SubH.get ⟨rfl,trivial⟩) (za6 rfl);all_goals (first|rfl|(simp[];done)|(simp_all;done)|(simp_all;omega)|omega))
theorem zkn {v:Pat} (hok:v.ok):FnD Tryz.prog 164 [.agg [.d (.i v.op),.d (.i v.ctor),.d (.i v.n),.d (.i v.m),.d (.i v.var),.d (zae v.kids)]] [] (.agg [.d (.i v.op),.d (.i v.ctor),.d (.i v.n),.d (.i v.m),.d (.i v.var),.d (zae v.kids)]) []:=
 xav (k:=6) Pat.cs_rows (by simp[ziu,ziu.soleNL,Pat.cs_len]) (zen _ (Nat.le_refl _) hok)
theorem zjq {l m:List Pat} (h:l.length<=1000000000000)
  (hf:∀a∈l,∀b:Pat,FnD Tryz.prog 167 [.agg [.d (.i a.op),.d (.i a.ctor),.d (.i a.n),.d (.i a.m),.d (.i a.var),.d (zae a.kids)],.agg [.d (.i b.op),.d (.i b.ctor),.d (.i b.n),.d (.i b.m),.d (.i b.var),.d (zae b.kids)]] [] (.d (.bool (zfO a b))) []):
  FnD Tryz.prog 260 [.d (zae l),.d (zae m)] [] (.d (.bool (zcd l m))) []:=by
 refine bd Tryz.f260 27 [] [] fun w0 F0 own kept hk=>?_;refine sq ?_ ?_<;>intro h1 h1p h1s<;>(try simp only[Q,Int.natCast_inj,Pat.cs_len] at h1p);refine rq ?_;rotate_left;refine xam (ι:=Nat) hk (fun i=>[(5,.d (.i (i:Int)))]) [4,11,12,13,14,15,16,17,18,19,20,21,22,23,24,25,26] (fun i=>[]) (fun i=>i<=l.length/\∀i',i'<i->zfO (nth l i') (nth m i')=true) (fun i=>l.length-i) 0 ⟨by omega,fun _ h=>absurd h (by omega)⟩ ⟨⟨_,rfl,xaz ?_⟩,trivial⟩ trivial (fun x=>rfl) (fun i hg1=>?_);focus (first|rfl|(simp;done)|(simp_all;done)|omega)
 refine evc [] [] ?_;refine sq ?_ ?_<;>intro h2 h2p h2s<;>(try simp only[Q,Int.natCast_inj,Pat.cs_len] at h2p);refine xaS sl34 .none rfl rfl rfl rfl (zaH (by omega)) rfl ?_;refine evd [] [] ?_;refine xaS sl34 .none rfl rfl rfl rfl (zaH (by omega)) rfl ?_;refine evd [] [] ?_;refine wc zrc (hf _ (zal (by omega)) _) rfl rfl ?_;refine evd [] [] ?_;refine dr ?_;refine sq ?_ ?_<;>intro h3 h3p h3s<;>(try simp only[Q,Int.natCast_inj,Pat.cs_len] at h3p);refine rq ?_;rotate_left;refine ar ?_;refine xah (i+1) ⟨⟨by omega,zaV hg1.2 (by assumption)⟩,(by omega),sx ⟨⟨_,rfl,xaz ?_⟩,trivial⟩ trivial⟩;focus (first|rfl|(simp;done)|(simp_all;done)|omega)
 refine rq ?_;rotate_left;all_goals (refine congrArg D.bool ?_;first|(refine(zmd ?_).symm;omega)|(refine(zme (by omega) (fun x hx=>hg1.2 x (by omega))).symm)|(refine(zk1 (i:=i) (by omega) ?_).symm;assumption))
theorem zgc:∀(n:Nat){a b:Pat},a.size<=n->a.ok->FnD Tryz.prog 167 [.agg [.d (.i a.op),.d (.i a.ctor),.d (.i a.n),.d (.i a.m),.d (.i a.var),.d (zae a.kids)],.agg [.d (.i b.op),.d (.i b.ctor),.d (.i b.n),.d (.i b.m),.d (.i b.var),.d (zae b.kids)]] [] (.d (.bool (zfO a b))) []
 |0,a,b,h,_=>by rw[Pat.size_eq] at h;omega
 |n+1,a,b,h,hok=>by
  rw[Pat.size_eq] at h;rw[Pat.ok_iff] at hok;rw[zsx];refine bd Tryz.f167 36 [] [] fun w0 F0 own kept hk=>?_;refine bx 3002 ?_;refine bx 3003 ?_;refine ev ?_;refine sq ?_ ?_<;>intro h1 h1p h1s<;>(try simp only[Q] at h1p);focus (refine rq ?_;all_goals (refine congrArg D.bool ?_;simp[h1s,h1p]))
  refine sq ?_ ?_<;>intro h2 h2p h2s<;>(try simp only[Q] at h2p);focus (refine rq ?_;all_goals (refine congrArg D.bool ?_;simp[h1s,h1p,h2s,h2p]))
  refine sq ?_ ?_<;>intro h3 h3p h3s<;>(try simp only[Q] at h3p);focus (refine rq ?_;all_goals (refine congrArg D.bool ?_;simp[h1s,h1p,h2s,h2p,h3s,h3p]))
  refine sq ?_ ?_<;>intro h4 h4p h4s<;>(try simp only[Q] at h4p);focus (refine rq ?_;all_goals (refine congrArg D.bool ?_;simp[h1s,h1p,h2s,h2p,h3s,h3p,h4s,h4p]))
  refine sq ?_ ?_<;>intro h5 h5p h5s<;>(try simp only[Q] at h5p);focus (refine rq ?_;all_goals (refine congrArg D.bool ?_;simp[h1s,h1p,h2s,h2p,h3s,h3p,h4s,h4p,h5s,h5p]))
  refine wc zue (zjq hok.1 (fun x hx y=>zgc n (by have:=Pats.size_mem hx;omega) (Pats.ok_mem hok.2 x hx))) rfl rfl ?_;refine ev ?_;refine sq ?_ ?_<;>intro h6 h6p h6s<;>(try simp only[Q] at h6p);focus (refine rq ?_;all_goals (refine congrArg D.bool ?_;simp[h1s,h1p,h2s,h2p,h3s,h3p,h4s,h4p,h5s,h5p,h6s,h6p]))
  focus (refine rq ?_;all_goals (refine congrArg D.bool ?_;simp[h1s,h1p,h2s,h2p,h3s,h3p,h4s,h4p,h5s,h5p,h6s,h6p]))
mutual
def Pat.szM:Pat->Int
 | .mk _ _ _ _ _ ks=>5+Pats.szM ks
def Pats.szM:List Pat->Int
 | []=>0
 |v::r=>v.szM+Pats.szM r
end
mutual
def Pat.one (k:Int):Pat->Pat
 | .mk _ _ _ _ _ ks=> .mk k (k+1) (k+1+1) (k+1+1+1) (k+1+1+1+1) (Pats.one (k+1+1+1+1+1) ks)
def Pats.one (k:Int):List Pat->List Pat
 | []=>[]
 |v::r=>v.one k::Pats.one (k+v.szM) r
end
theorem Pats.szM_eq:∀l:List Pat,Pats.szM l=szL Pat.szM l
 | []=>rfl
 |v::r=>by simp only[Pats.szM,szL,Pats.szM_eq r]
theorem Pats.one_eq:∀(l:List Pat) (k:Int),Pats.one k l=mkL Pat.one Pat.szM k l
 | [],_=>rfl
 |v::r,k=>by simp only[Pats.one,mkL,Pats.one_eq r]
theorem Pat.szM_kids (v:Pat):v.szM=5+szL Pat.szM v.kids:=by cases v;simp only[Pat.szM,Pat.kids,Pats.szM_eq]
theorem Pat.one_kids (v:Pat) (k:Int):(v.one k).kids=mkL Pat.one Pat.szM (k+1+1+1+1+1) v.kids:=by cases v;simp only[Pat.one,Pat.kids,Pats.one_eq]
theorem Pat.one_sc (v:Pat) (k:Int):(Pat.one k v).op=k/\(Pat.one k v).ctor=k+1/\(Pat.one k v).n=k+1+1/\(Pat.one k v).m=k+1+1+1/\(Pat.one k v).var=k+1+1+1+1:=by cases v;exact⟨rfl,rfl,rfl,rfl,rfl⟩
mutual
theorem Pat.szM_nn:∀v:Pat,0<=v.szM
 | .mk _ _ _ _ _ ks=>by have:=Pats.szM_nn ks;simp only[Pat.szM];omega
theorem Pats.szM_nn:∀l:List Pat,0<=Pats.szM l
 | []=>by simp[Pats.szM]
 |v::r=>by have:=Pat.szM_nn v;have:=Pats.szM_nn r;simp only[Pats.szM];omega
end
mutual
theorem Pat.szM_le:∀v:Pat,v.szM<=5+5*(mPat v:Int)
 | .mk _ _ _ _ _ ks=>by have:=Pats.szM_le ks;simp only[Pat.szM,mPat];omega
theorem Pats.szM_le:∀l:List Pat,Pats.szM l<=5*(ze6 l:Int)
 | []=>by simp[Pats.szM,ze6]
 |v::r=>by have:=Pat.szM_le v;have:=Pats.szM_le r;simp only[Pats.szM,ze6];omega
end
theorem zeJ {l:List Pat}{k:Int} (hl:l=[]):FnD Tryz.prog 90 [.d (.sl []),.d (.i k)] [] (.d (.i (k+szL Pat.szM l))) []:=by
 subst hl;refine bd Tryz.f90 55 [] [] fun w0 F0 own kept hk=>?_;refine xam (ι:=Unit) hk (fun x=>[(5,.d (.i 0)),(1,.d (.i k))]) [6,7,8,9,10,11,12,13,14,15,16,17,18,19,20,21,22,23,24,25,26,27,28,29,30,31,32,33,34,35,36,37,38,39,40,41,42,43,44,45,46,47,48,49,50,51,52,53] (fun x=>[]) (fun x=>True) (fun x=>0) () trivial ⟨⟨_,rfl,xaz ?_⟩,⟨⟨_,rfl,xaz ?_⟩,trivial⟩⟩ trivial (fun x=>rfl) (fun x hg1=>?_);iterate 2 focus (first|rfl|(simp;done)|(simp_all;done)|omega)
 refine evc [] [] ?_;refine sq ?_ ?_<;>intro h1 h1p h1s<;>(try simp only[Q] at h1p);exfalso;revert h1;simp;refine rq ?_;rotate_left;all_goals (first|rfl|(simp[szL];done))
theorem zgQ {m:Bool}{n:Nat}{k:Int}{r:D}{xs ys:List (List D)} (h:FnD Tryz.prog 90 [.ms 46 n,.d (.i k)] [(46,some (.tree (zag m xs)))] (.d r) [(46,some (.tree (zag false ys)))]):
  FnD Tryz.prog 90 [.ms 47 n,.d (.i k)] [(47,some (.tree (zag m xs)))] (.d r) [(47,some (.tree (zag false ys)))]:=FnD.ren rfl (zaa _ _) (zaa _ _) h 47
theorem zij:∀(n:Nat){m:Bool}{l:List Pat}{k:Int},Pats.size l<=n->0<k->k+szL Pat.szM l<=1000000000000->l.length<=1000000000000->Pats.ok l->FnD Tryz.prog 90 [.ms 46 l.length,.d (.i k)] [(46,some (.tree (zag m (Pat.cs l))))]
  (.d (.i (k+szL Pat.szM l))) [(46,some (.tree (zag false (Pat.cs (mkL Pat.one Pat.szM k l)))))]:=by
 intro n;induction n with
 |zero=>
  intro m l k h h0 h1 hl hok;have hl0:l=[]:=by
   cases l with
   |nil=>rfl
   |cons v r=>simp only[Pats.size,Pat.size_eq] at h;omega
  subst hl0;refine bd Tryz.f90 55 [] [] fun w0 F0 own kept hk=>?_;refine xam (ι:=Unit) hk (fun x=>[(5,.d (.i 0)),(1,.d (.i k))]) [6,7,8,9,10,11,12,13,14,15,16,17,18,19,20,21,22,23,24,25,26,27,28,29,30,31,32,33,34,35,36,37,38,39,40,41,42,43,44,45,46,47,48,49,50,51,52,53] (fun x=>[]) (fun x=>True) (fun x=>0) () trivial ⟨⟨_,rfl,xaz ?_⟩,⟨⟨_,rfl,xaz ?_⟩,trivial⟩⟩ trivial (fun x=>rfl) (fun x hg1=>?_);iterate 2 focus (first|rfl|(simp;done)|(simp_all;done)|omega)
  refine evc [] [] ?_;refine sq ?_ ?_<;>intro h1 h1p h1s<;>(try simp only[Q] at h1p);exfalso;revert h1;simp;refine rn [(46,some (.tree (zag false (Pat.cs (mkL Pat.one Pat.szM k []))))) ] (r1 rfl) (.eqd ?_) ⟨rfl,rfl⟩ (SubO.get ⟨.inr ?_,⟨.inl rfl,trivial⟩⟩) (za6 rfl);rotate_left 2;all_goals (first|((first|rfl|(simp[szL];done));done)|(rfl))
 |succ n ih=>
  intro m l k h h0 h1 hl hok;refine bd Tryz.f90 55 [51] [3,14,1000009] fun w0 F0 own kept hk=>?_;refine xam (ι:=List (Pat)×List (Pat)×(Int)) hk (fun x=>[(5,.d (.i (x.1.length:Int))),(1,.d (.i x.2.2))]) [6,7,8,9,10,11,12,13,14,15,16,17,18,19,20,21,22,23,24,25,26,27,28,29,30,31,32,33,34,35,36,37,38,39,40,41,42,43,44,45,46,47,48,49,50,51,52,53] (fun x=>[(46,some (.tree (zag false (Pat.cs (mkL Pat.one Pat.szM k x.1))++zag m (Pat.cs x.2.1))))]) (fun x=>x.1++x.2.1=l/\x.2.2=k+szL Pat.szM x.1) (fun x=>x.2.1.length) ([],l,k) ⟨by simp,by simp[szL]⟩ ⟨⟨_,rfl,xaz ?_⟩,⟨⟨_,rfl,xaz ?_⟩,trivial⟩⟩ ⟨?_,trivial⟩ (fun x=>rfl) (fun x hg1=>?_);iterate 2 focus (first|rfl|(simp;done)|omega|(refine Eq.trans (b:=v+Pat.szM y) ?_ rfl;omega))
  focus (first|rfl|(show some (Res.tree _)=some (Res.tree _);rw[zb6,zdy,<-hg1.2,Pat.one_kids];simp only[Pat.one_sc y v,List.append_assoc,xag,List.nil_append]))
  obtain⟨pre,rest,v⟩:=x;dsimp only at hg1 ⊢;refine evc [51] [3,14,1000009] ?_;refine cq (fun h1 h1p h1s=>?_) fun h1 h1p h1s=>?_;try simp only[Q] at h1p
  rcases rest with _|⟨y,rest⟩
  ·exfalso;simp_all
  have hsp:=zdY (sz:=Pat.szM) hg1.1;have hnn:=zaQ (l:=rest) Pat.szM_nn;have hnp:=zaQ (l:=pre) Pat.szM_nn;have hys:=Pat.szM_kids y;have hya:=zaQ (l:=y.kids) Pat.szM_nn;have hv:=hg1.2;refine xap 46 (zag false (Pat.cs (mkL Pat.one Pat.szM k pre))++(.d (.i y.op):: .d (.i y.ctor):: .d (.i y.n):: .d (.i y.m):: .d (.i y.var):: .own m (zae y.kids)::zag m (Pat.cs rest))) rfl (by rw[zn5]) ?_;refine evc [51] [3,14,1000009] ?_;refine xaV sl34 .none rfl rfl rfl rfl (by first|omega|(simp[Pat.cs_nil,Pat.cs_len,Pat.cs];omega)) ?_;refine evs [51] [] ?_;refine xbk ty3 .none rfl rfl rfl rfl rfl rfl (by simp) ((zaE ((za9 false _).trans (by rw[zap])) zhX)) ?_;refine tv ?_;refine ar ?_;refine xaV sl34 .none rfl rfl rfl rfl (by first|omega|(simp[Pat.cs_nil,Pat.cs_len,Pat.cs];omega)) ?_;refine evs [51] [] ?_;refine xbk ty3 .none rfl rfl rfl rfl rfl rfl (by simp) ((zaE ((za9 false _).trans (by rw[zap])) zdh)) ?_;refine tv ?_;refine ar ?_;refine xaV sl34 .none rfl rfl rfl rfl (by first|omega|(simp[Pat.cs_nil,Pat.cs_len,Pat.cs];omega)) ?_;refine evs [51] [] ?_;refine xbk ty3 .none rfl rfl rfl rfl rfl rfl (by simp) ((zaE ((za9 false _).trans (by rw[zap])) zkb)) ?_;refine tv ?_;refine ar ?_;refine xaV sl34 .none rfl rfl rfl rfl (by first|omega|(simp[Pat.cs_nil,Pat.cs_len,Pat.cs];omega)) ?_;refine evs [51] [] ?_;refine xbk ty3 .none rfl rfl rfl rfl rfl rfl (by simp) ((zaE ((za9 false _).trans (by rw[zap])) zp9)) ?_;refine tv ?_;refine ar ?_;refine xaV sl34 .none rfl rfl rfl rfl (by first|omega|(simp[Pat.cs_nil,Pat.cs_len,Pat.cs];omega)) ?_;refine evs [51] [] ?_;refine xbk ty3 .none rfl rfl rfl rfl rfl rfl (by simp) ((zaE ((za9 false _).trans (by rw[zap])) zqa)) ?_;refine tv ?_;refine ar ?_;by_cases hs2:y.kids=[]
  refine xak 46 (pre.length*6+5) rfl (zaW ((za9 false _).trans (by rw[zap])) rfl) (by simp[hs2,Pat.cs_nil,Pat.cs_len,Pat.cs]) (zaE ((za9 false _).trans (by rw[zap])) zeP) ?_;refine evc [51] [] ?_;refine xaV sl34 .none rfl rfl rfl rfl (by first|omega|(simp[Pat.cs_nil,Pat.cs_len,Pat.cs];omega)) ?_;refine evs [51] [] ?_;refine xa1 ty34 .none rfl rfl rfl ((by rw[zaW ((za9 false _).trans (by rw[zap])) rfl];rfl)) ?_;refine evs [51] [] ?_;refine Walk.call (cr:=[]) zoh (zeJ hs2) rfl .none rfl rfl (LeL.refl _) trivial rfl (by first|rfl|(simp only[zas,List.all_cons,List.all_nil,zaC,zay,AV.idsL,AV.ids,zab,zaa,xae,List.map_nil];rfl)) (by first|rfl|(simp only[zaj,occH,occE,Res.ids,xag,List.nil_append,AV.idsL,AV.ids,zab,zaa,zac,zan,xae,List.map_nil,upC];rfl)) ?_;refine evs [51] [] ?_;refine xal 46 (pre.length*6+5) false rfl (xs:=Pat.cs (mkL Pat.one Pat.szM (v+1+1+1+1+1) y.kids)) rfl (zaW ((za9 false _).trans (by rw[zap])) rfl) (by simp[hs2,mkL,Pat.cs]) (zaE ((za9 false _).trans (by rw[zap])) zeP) ?_;refine evc [51] [] ?_;refine ar ?_;refine xah ((pre++[y],rest,v+Pat.szM y)) ⟨⟨(by have hz:=hg1.1;rw[<-hz];simp),(by show v+Pat.szM y=_;rw[zcO,hg1.2];omega)⟩,(by simp),sx ⟨⟨_,rfl,xaz ?_⟩,⟨⟨_,rfl,xaz ?_⟩,trivial⟩⟩ ⟨?_,trivial⟩⟩;iterate 2 focus (first|rfl|(simp;done)|omega|(refine Eq.trans (b:=v+Pat.szM y) ?_ rfl;omega))
  focus (first|rfl|(show some (Res.tree _)=some (Res.tree _);rw[zb6,zdy,<-hg1.2,Pat.one_kids];simp only[Pat.one_sc y v,List.append_assoc,xag,List.nil_append]))
  refine CWp.split 46 (pre.length*6+5) 47 rfl (zaW ((za9 false _).trans (by rw[zap])) rfl) (by simp[hs2,Pat.cs_nil,Pat.cs_len,Pat.cs]) (by first|rfl|(simp only[zaj,occH,occE,Res.ids,xag,List.nil_append,AV.idsL,AV.ids,zab,zaa,zac,zan,xae,List.map_nil,upC];rfl)) (zaE ((za9 false _).trans (by rw[zap])) zeP) ?_;refine evc [51] [] ?_;refine xaV sl34 .none rfl rfl rfl rfl (by first|omega|(simp[Pat.cs_nil,Pat.cs_len,Pat.cs];omega)) ?_;refine evs [51] [] ?_;refine xa1 ty34 .none rfl rfl rfl ((by rw[zaW ((za9 false _).trans (by rw[zap])) rfl];rfl)) ?_;refine evs [51] [] ?_;refine Walk.call (cr:=[]) zoh (zgQ (ih (l:=y.kids) (k:=v+1+1+1+1+1) (by have hm:=Pats.size_mem (v:=y) (l:=l) (by rw[<-hg1.1];simp);rw[Pat.size_eq] at hm;omega) (by omega) (by omega) ((Pat.ok_iff y).1 (Pats.ok_mem hok y (by rw[<-hg1.1];simp))).1 ((Pat.ok_iff y).1 (Pats.ok_mem hok y (by rw[<-hg1.1];simp))).2)) rfl .none rfl rfl (.cons (xaA (by first|rfl|(simp[Pat.cs_nil,Pat.cs_len,Pat.cs];done))) (.cons (.refl _) .nil)) ⟨by first|rfl|(simp;rfl),trivial⟩ rfl (by first|rfl|(simp only[zas,List.all_cons,List.all_nil,zaC,zay,AV.idsL,AV.ids,zab,zaa,xae,List.map_nil];rfl)) (by first|rfl|(simp only[zaj,occH,occE,Res.ids,xag,List.nil_append,AV.idsL,AV.ids,zab,zaa,zac,zan,xae,List.map_nil,upC];rfl)) ?_;refine evs [51] [] ?_;refine CWp.merge hk 46 (pre.length*6+5) 47 6 _ rfl (zaW ((za9 false _).trans (by rw[zap])) rfl) (by simp[zap,Pat.cs_nil,Pat.cs_len,Pat.cs]) rfl Pat.cs_rows rfl rfl (zaE ((za9 false _).trans (by rw[zap])) zeP) ?_;refine evc [51] [] ?_;refine ar ?_;refine xah ((pre++[y],rest,v+Pat.szM y)) ⟨⟨(by have hz:=hg1.1;rw[<-hz];simp),(by show v+Pat.szM y=_;rw[zcO,hg1.2];omega)⟩,(by simp),sx ⟨⟨_,rfl,xaz ?_⟩,⟨⟨_,rfl,xaz ?_⟩,trivial⟩⟩ ⟨?_,trivial⟩⟩;iterate 2 focus (first|rfl|(simp;done)|omega|(refine Eq.trans (b:=v+Pat.szM y) ?_ rfl;omega))
  focus (first|rfl|(show some (Res.tree _)=some (Res.tree _);rw[zb6,zdy,<-hg1.2,Pat.one_kids];simp only[Pat.one_sc y v,List.append_assoc,xag,List.nil_append]))
  try simp only[Q] at h1p
  have hrest:rest=[]:=by
   rcases rest with _|⟨a,b⟩
   ·rfl
   ·exfalso;have hz:=congrArg List.length (hg1.1);simp only[xaa,xab,xac] at hz;omega
  subst hrest;refine evc [51] [3,14,1000009] ?_;refine rn [(46,some (.tree (zag false (Pat.cs (mkL Pat.one Pat.szM k l)))))] (r1 rfl) (.eqd ?_) ⟨rfl,rfl⟩ (SubO.get ⟨.inr ?_,⟨.inl rfl,trivial⟩⟩) (za6 rfl);rotate_left 2;all_goals (first|((first|rfl|(obtain⟨hg1,hv⟩:=hg1;rw[List.append_nil] at hg1;subst hg1;rw[hv]));done)|(first|rfl|(obtain⟨hg1,_⟩:=hg1;rw[List.append_nil] at hg1;subst hg1;show some (Res.tree _)=some (Res.tree _);simp[zbh,Pat.cs];done)))
structure Vt where
 var:Int
 ty:Ty
 deriving DecidableEq,Inhabited
abbrev Vt.c (t:Vt):List D:=[.i t.var,.i t.ty.data,.i t.ty.index]
abbrev zcM (l:List Vt):D:= .sl (l.map Vt.c)
def zaA (w:List Data) (t:Ty):List Int:=if t.data = -1 then [] else zba w t
def zai (w:List Data) (t:Ty) (p:Pat):List Ty:=if p.op=4 then zak w t p.ctor else if p.op=5 then [t,t] else if p.op=6 then [t] else []
def ownP (w:List Data) (t:Ty) (p:Pat):Bool:=decide (((p.op=2\/p.op=6)->0<=p.var/\p.var<=5)/\(¬(p.op=2\/p.op=6)->p.var=0)/\(p.op≠3->p.n=0/\p.m=0)/\(p.op≠4->p.ctor=0)/\
 (p.op=1\/p.op=2\/p.op=5\/p.op=6\/(p.op=3/\t.data = -1/\0<=p.n/\p.n<=p.m/\p.m<=9)\/(p.op=4/\p.ctor∈zaA w t)))
def okP (w:List Data) (t:Ty) (p:Pat):Bool:=ownP w t p&&decide (p.kids.length=(zai w t p).length)
def zcB (w:List Data) (t:Ty) (p:Pat):List Ty:=if p.op=4/\p.ctor∉zaA w t then [] else zai w t p
def zaw (w:List Data):Nat->Ty->Pat->Bool
 |0,_,_=>false
 |n+1,t,p=>ownP w t p&&all2 (zaw w n) (zai w t p) p.kids
def zaU (t:Ty) (p:Pat):List Vt:=if p.op=2\/p.op=6 then [⟨p.var,t⟩] else []
def zbg (f:Ty->Pat->List Vt):List Ty->List Pat->List Vt
 |a::r,b::s=>f a b++zbg f r s
 |_,_=>[]
def zdl (w:List Data) (t:Ty) (p:Pat):List Ty:=if p.op=5 then (zai w t p).take 1 else zai w t p
def zaM (w:List Data):Nat->Ty->Pat->List Vt
 |0,_,_=>[]
 |n+1,t,p=>zaU t p++zbg (zaM w n) (zdl w t p) p.kids
def zby (l:List Vt) (n:Int):Int:=idxF (fun v=>decide (v.var=n)) l 0
def zdx (a b:List Vt):Bool:=a.all (fun v=>decide (0<=zby b v.var/\(nth b (zby b v.var).toNat).ty=v.ty))&&decide (a.length=b.length)
def zoi (l:List Vt):Bool:=(List.range l.length).all fun(i:Nat)=>decide (zby l (nth l i).var=(i:Int))
def zdW (a b:List Vt):Bool:=decide (a.length=b.length)&& !a.any fun v=> !decide (v∈b)
def zcA (l:List Vt):Bool:=decide (l.map Vt.var).Nodup
def linP (w:List Data):Nat->Ty->Pat->Bool
 |0,_,_=>true
 |n+1,t,p=>all2 (linP w n) (zai w t p) p.kids&&(if p.op=5 then zdx (zaM w n t (nth p.kids 0)) (zaM w n t (nth p.kids 1)) else zoi (zaM w (n+1) t p))
theorem zeV (l:List Vt) (n:Int):(zby l n = -1/\∀v∈l,v.var≠n)\/∃k:Nat,zby l n=k/\k<l.length/\(nth l k).var=n/\∀j,j<k->(nth l j).var≠n:=by
 have key:∀(l:List Vt) (i:Nat),(idxF (fun v=>decide (v.var=n)) l i = -1/\∀v∈l,v.var≠n)\/∃k:Nat,idxF (fun v=>decide (v.var=n)) l i=((i+k:Nat):Int)/\k<l.length/\(nth l k).var=n/\∀j,j<k->(nth l j).var≠n:=by
  intro l;induction l with
  |nil=>intro i;exact .inl ⟨rfl,by simp⟩
  |cons x r ih=>
   intro i;unfold idxF;by_cases h:x.var=n
   ·exact .inr ⟨0,by simp[h],by simp,by simpa [nth] using h,fun j hj=>absurd hj (by omega)⟩
   ·rcases ih (i+1) with ⟨h1,h2⟩|⟨k,h1,h2,h3,h4⟩
    ·exact .inl ⟨by simpa [h] using h1,fun v hv=>by rcases List.mem_cons.1 hv with rfl|hv;exact h;exact h2 v hv⟩
    ·refine .inr ⟨k+1, ?_,by simpa using h2,by simpa [nth] using h3,fun j hj=>?_⟩
     ·simp only[h,decide_false,Bool.false_eq_true,if_false];rw[h1];congr 1;omega
     ·cases j with
      |zero=>simpa [nth] using h
      |succ j=>simpa [nth] using h4 j (by omega)
 rcases key l 0 with h|⟨k,h1,h2⟩
 ·exact .inl h
 ·exact .inr ⟨k,by unfold zby;simpa using h1,h2⟩
theorem znH {l:List Vt}:(l.map Vt.var).Nodup↔∀i j,i<j->j<l.length->(nth l i).var≠(nth l j).var:=by
 unfold List.Nodup;rw[List.pairwise_iff_getElem];constructor
 ·intro h i j hij hj;have:=h i j (by simp;omega) (by simpa using hj) hij;simp only[List.getElem_map] at this;rw[za8 (by omega),za8 hj];exact this
 ·intro h i j hi hj hij;simp only[xac] at hi hj;simp only[List.getElem_map];rw[<-za8 hi,<-za8 hj];exact h i j hij hj
theorem zjy {l:List Vt} (h:(l.map Vt.var).Nodup){i j:Nat} (hi:i<l.length) (hj:j<l.length) (he:(nth l i).var=(nth l j).var):i=j:=by
 have h1:=znH.1 h;rcases Nat.lt_trichotomy i j with h2|h2|h2
 ·exact absurd he (h1 i j h2 hj)
 ·exact h2
 ·exact absurd he.symm (h1 j i h2 hi)
theorem zoT (l:List Vt):zoi l=zcA l:=by
 unfold zcA;by_cases h:(l.map Vt.var).Nodup
 ·rw[decide_eq_true h];refine zd4 (fun i hi=>decide_eq_true ?_);rcases zeV l (nth l i).var with ⟨_,h2⟩|⟨k,h1,h2,h3,h4⟩
  ·exact absurd rfl (h2 _ (zal hi))
  ·rw[h1,zjy h h2 hi h3]
 ·rw[decide_eq_false h];cases hd:zoi l with
  |false=>rfl
  |true=>
   refine absurd ?_ h;rw[znH];intro i j hij hj he;have h1:=List.all_eq_true.1 hd i (List.mem_range.2 (by omega));have h2:=List.all_eq_true.1 hd j (List.mem_range.2 hj);simp only[decide_eq_true_eq] at h1 h2;rw[he,h2] at h1;omega
theorem zqo {a b:List Vt} (hb:zcA b=true):zdx a b=zdW a b:=by
 unfold zcA at hb;simp only[decide_eq_true_eq] at hb;unfold zdx zdW;rw[Bool.and_comm];congr 1
 rw[Bool.eq_iff_iff];simp only[List.all_eq_true,Bool.not_eq_true',List.any_eq_false,decide_eq_true_eq,Bool.not_eq_true,decide_eq_false_iff_not,Decidable.not_not];refine forall_congr' fun v=>forall_congr' fun hv=>?_;rcases zeV b v.var with ⟨h1,h2⟩|⟨k,h1,h2,h3,h4⟩
 ·rw[h1];exact⟨fun h=>absurd h.1 (by omega),fun h=>absurd rfl (h2 v h)⟩
 ·rw[h1];simp only[Int.toNat_natCast];constructor
  ·rintro ⟨_,h⟩
   have:nth b k=v:=by
    have e:∀x y:Vt,x.var=y.var->x.ty=y.ty->x=y:=fun x y h1 h2=>by cases x;cases y;simp_all
    exact e _ _ h3 h
   rw[<-this];exact zal h2
  ·intro h;refine⟨by omega, ?_⟩;obtain⟨j,hj,he⟩:=List.getElem_of_mem h;have h5:nth b j=v:=by rw[za8 hj];exact he
   have:=zjy hb h2 hj (by rw[h3,h5]);rw[this,h5]
def zbl (g:Ty->Pat->Int->Option (List Vt)×Int) (or:Bool):List Ty->List Pat->Nat->List Vt->Int->Option (List Vt)×Int
 |a::r,b::s,i,acc,c=>match (g a b c).1 with
  |none=>(none,(g a b c).2)
  |some l=>if or=true/\i=1 then (if zdW acc l=true then zbl g or r s (i+1) acc (g a b c).2 else (none,(g a b c).2)) else zbl g or r s (i+1) (acc++l) (g a b c).2
 |_,_,_,acc,c=>(some acc,c)
def finV (r:Option (List Vt)×Int):Option (List Vt)×Int:=match r.1 with
 |none=>r
 |some l=>if zcA l=true then r else (none,r.2)
def zaP (w:List Data):Nat->Ty->Pat->Int->Option (List Vt)×Int
 |0,_,_,c=>(none,c+1)
 |n+1,t,p,c=>if 60<c+1 then (none,c+1) else if okP w t p=true then finV (zbl (zaP w n) (decide (p.op=5)) (zai w t p) p.kids 0 (zaU t p) (c+1)) else (none,c+1)
def zbL (w:List Data) (n:Nat) (t:Ty) (p:Pat) (c:Int):Bool:=zaw w n t p&&(decide (c+(p.size:Int)<=60)&&linP w n t p)
theorem zhe (w:List Data):∀(n:Nat) (t:Ty) (p:Pat),zaw w n t p=true->linP w n t p=true->zcA (zaM w n t p)=true
 |0,t,p,h,_=>by simp[zaw] at h
 |n+1,t,p,h,hl=>by
  by_cases h5:p.op=5
  ·simp only[zaw,linP,xad,if_pos h5] at h hl;have e1:zai w t p=[t,t]:=by unfold zai;rw[if_neg (by omega),if_pos h5]
   rw[e1] at h hl;rcases hk:p.kids with _|⟨x,_|⟨y,_|⟨z,r⟩⟩⟩
   ·rw[hk] at h;simp[all2] at h
   ·rw[hk] at h;simp[all2] at h
   ·rw[hk] at h hl;simp only[all2,xad,and_true] at h hl;have:=zhe w n t x h.2.1 hl.1.1;have e2:zaM w (n+1) t p=zaM w n t x:=by
     simp only[zaM,zaU,zdl,e1,hk,if_pos h5];rw[if_neg (by omega)];simp[zbg]
    rw[e2];exact this
   ·rw[hk] at h;simp[all2] at h
  ·simp only[linP,if_neg h5,xad] at hl;rw[<-zoT];exact hl.2
theorem zpl {w:List Data}{n:Nat} (ih:∀t p c,((zaP w n t p c).1=if zbL w n t p c=true then some (zaM w n t p) else none)/\(zbL w n t p c=true->(zaP w n t p c).2=c+p.size)):
  ∀(a:List Ty) (b:List Pat) (i:Nat) (acc:List Vt) (c:Int),a.length=b.length->c<=60->
   ((zbl (zaP w n) false a b i acc c).1=if (all2 (zaw w n) a b&&(decide (c+(Pats.size b:Int)<=60)&&all2 (linP w n) a b))=true then some (acc++zbg (zaM w n) a b) else none)/\
   ((all2 (zaw w n) a b&&(decide (c+(Pats.size b:Int)<=60)&&all2 (linP w n) a b))=true->(zbl (zaP w n) false a b i acc c).2=c+Pats.size b)
 | [],[],i,acc,c,_,hc=>by simp[zbl,all2,Pats.size,zbg,hc]
 |x::r,y::s,i,acc,c,hl,hc=>by
  obtain⟨h1,h2⟩:=ih x y c;have hps:Pats.size (y::s)=y.size+Pats.size s:=rfl;simp only[zbl,zbg];by_cases hw:zbL w n x y c=true
  ·have h3:=h2 hw;rw[if_pos hw] at h1;rw[h1];simp only[Bool.false_eq_true,false_and,if_false];have h4:=hw;simp only[zbL,xad,decide_eq_true_eq] at h4;obtain⟨h5,h6⟩:=zpl ih r s (i+1) (acc++zaM w n x y) (zaP w n x y c).2 (by simpa using hl) (by omega);have e:(all2 (zaw w n) (x::r) (y::s)&&(decide (c+(Pats.size (y::s):Int)<=60)&&all2 (linP w n) (x::r) (y::s)))=(all2 (zaw w n) r s&&(decide ((zaP w n x y c).2+(Pats.size s:Int)<=60)&&all2 (linP w n) r s)):=by
    rw[all2,all2,h4.1,h4.2.2,h3];simp only[Bool.true_and];congr 2
    exact decide_eq_decide.2 (by omega)
   rw[e];refine⟨?_,fun hx=>?_⟩
   ·rw[h5,List.append_assoc]
   ·rw[h6 hx,h3];omega
  ·rw[if_neg hw] at h1;rw[h1];simp only;have hf:¬(all2 (zaw w n) (x::r) (y::s)&&(decide (c+(Pats.size (y::s):Int)<=60)&&all2 (linP w n) (x::r) (y::s)))=true:=fun h=>by
    simp only[all2,xad,decide_eq_true_eq] at h;refine hw ?_;simp only[zbL,xad,decide_eq_true_eq];refine⟨h.1.1, ?_,h.2.2.1⟩;have:=h.2.1;omega
   rw[if_neg hf];exact⟨rfl,fun h=>absurd h hf⟩
 | [],_::_,_,_,_,hl,_=>by simp at hl
 |_::_,[],_,_,_,hl,_=>by simp at hl
theorem zfz (w:List Data):∀(n:Nat) (t:Ty) (p:Pat) (c:Int),((zaP w n t p c).1=if zbL w n t p c=true then some (zaM w n t p) else none)/\(zbL w n t p c=true->(zaP w n t p c).2=c+p.size)
 |0,t,p,c=>by simp[zaP,zbL,zaw]
 |n+1,t,p,c=>by
  have hsz:=Pat.size_eq p;unfold zaP;by_cases h1:60<c+1
  ·have hf:¬zbL w (n+1) t p c=true:=fun h=>by
    simp only[zbL,xad,decide_eq_true_eq] at h;omega
   rw[if_pos h1,if_neg hf];exact⟨rfl,fun h=>absurd h hf⟩
  rw[if_neg h1];by_cases h2:okP w t p=true
  ·rw[if_pos h2];have h2':=h2;simp only[okP,xad,decide_eq_true_eq] at h2';by_cases h5:p.op=5
   ·have e1:zai w t p=[t,t]:=by unfold zai;rw[if_neg (by omega),if_pos h5]
    have e3:zaU t p=[]:=by unfold zaU;rw[if_neg (by omega)]
    rw[e1] at h2';rcases hk:p.kids with _|⟨x,_|⟨y,_|⟨z,r⟩⟩⟩
    ·rw[hk] at h2';simp at h2'
    ·rw[hk] at h2';simp at h2'
    ·have e4:zaM w (n+1) t p=zaM w n t x:=by
      simp only[zaM,zdl,e1,hk,if_pos h5,e3];simp[zbg]
     have e5:zbL w (n+1) t p c=((zaw w n t x&&zaw w n t y)&&(decide (c+1+(x.size:Int)+y.size<=60)&&((linP w n t x&&linP w n t y)&&zdx (zaM w n t x) (zaM w n t y)))):=by
      simp only[zbL,zaw,linP,h2'.1,e1,hk,all2,if_pos h5,Bool.and_true,Bool.true_and,nth,List.getD_cons_zero,List.getD_cons_succ];congr 2
      refine decide_eq_decide.2 ?_;rw[hsz,hk];simp only[Pats.size];push_cast;omega
     rw[e4,e5,e1,e3];obtain⟨a1,a2⟩:=zfz w n t x (c+1);simp only[zbl,h5,decide_true];by_cases w1:zbL w n t x (c+1)=true
     ·have a3:=a2 w1;rw[if_pos w1] at a1;have b1:=w1;simp only[zbL,xad,decide_eq_true_eq] at b1;obtain⟨d1,d2⟩:=zfz w n t y (zaP w n t x (c+1)).2;rw[a1];simp only[true_and,Nat.zero_ne_one,if_false,List.nil_append];by_cases w2:zbL w n t y (zaP w n t x (c+1)).2=true
      ·have d3:=d2 w2;rw[if_pos w2] at d1;have b2:=w2;simp only[zbL,xad,decide_eq_true_eq] at b2;rw[d1];simp only[Nat.zero_add,if_true];have n1:=zhe w n t x b1.1 b1.2.2;have n2:=zhe w n t y b2.1 b2.2.2;have e6:((zaw w n t x&&zaw w n t y)&&(decide (c+1+(x.size:Int)+y.size<=60)&&((linP w n t x&&linP w n t y)&&zdx (zaM w n t x) (zaM w n t y))))=zdW (zaM w n t x) (zaM w n t y):=by
        rw[b1.1,b2.1,b1.2.2,b2.2.2,zqo n2,decide_eq_true (by omega)];simp
       rw[e6];by_cases hs:zdW (zaM w n t x) (zaM w n t y)=true
       ·rw[if_pos hs,if_pos hs];simp only[finV,n1,if_true];refine⟨trivial,fun _=>?_⟩;rw[d3,a3,hsz,hk];simp only[Pats.size];push_cast;omega
       ·rw[if_neg hs,if_neg hs];simp only[finV];exact⟨trivial,fun h=>absurd h hs⟩
      ·rw[if_neg w2] at d1;rw[d1];simp only[finV];have hf:¬((zaw w n t x&&zaw w n t y)&&(decide (c+1+(x.size:Int)+y.size<=60)&&((linP w n t x&&linP w n t y)&&zdx (zaM w n t x) (zaM w n t y))))=true:=fun h=>by
        simp only[xad,decide_eq_true_eq] at h;refine w2 ?_;simp only[zbL,xad,decide_eq_true_eq];exact⟨h.1.2,by omega,h.2.2.1.2⟩
       rw[if_neg hf];exact⟨rfl,fun h=>absurd h hf⟩
     ·rw[if_neg w1] at a1;rw[a1];simp only[finV];have hf:¬((zaw w n t x&&zaw w n t y)&&(decide (c+1+(x.size:Int)+y.size<=60)&&((linP w n t x&&linP w n t y)&&zdx (zaM w n t x) (zaM w n t y))))=true:=fun h=>by
       simp only[xad,decide_eq_true_eq] at h;refine w1 ?_;simp only[zbL,xad,decide_eq_true_eq];exact⟨h.1.1,by omega,h.2.2.1.1⟩
      rw[if_neg hf];exact⟨rfl,fun h=>absurd h hf⟩
    ·rw[hk] at h2';simp at h2'
   ·have e0:(decide (p.op=5))=false:=decide_eq_false h5;rw[e0];obtain⟨a1,a2⟩:=zpl (fun t p c=>zfz w n t p c) (zai w t p) p.kids 0 (zaU t p) (c+1) h2'.2.symm (by omega);have e4:zaM w (n+1) t p=zaU t p++zbg (zaM w n) (zai w t p) p.kids:=by simp only[zaM,zdl,if_neg h5]
    have e5:zbL w (n+1) t p c=((all2 (zaw w n) (zai w t p) p.kids&&(decide (c+1+(Pats.size p.kids:Int)<=60)&&all2 (linP w n) (zai w t p) p.kids))&&zcA (zaM w (n+1) t p)):=by
     have:decide (c+(p.size:Int)<=60)=decide (c+1+(Pats.size p.kids:Int)<=60):=decide_eq_decide.2 (by omega);simp only[zbL,zaw,linP,h2'.1,if_neg h5,Bool.true_and,zoT,this,Bool.and_assoc]
    rw[e5];by_cases hw:(all2 (zaw w n) (zai w t p) p.kids&&(decide (c+1+(Pats.size p.kids:Int)<=60)&&all2 (linP w n) (zai w t p) p.kids))=true
    ·rw[if_pos hw,<-e4] at a1;have a3:=a2 hw;rw[hw,Bool.true_and];unfold finV;rw[a1];by_cases hn:zcA (zaM w (n+1) t p)=true
     ·simp only[hn,if_true];exact⟨a1,fun _=>by rw[a3];omega⟩
     ·simp only[hn,Bool.false_eq_true,if_false];exact⟨trivial,fun h=>absurd h (by simp)⟩
    ·rw[if_neg hw] at a1;have hw':(all2 (zaw w n) (zai w t p) p.kids&&(decide (c+1+(Pats.size p.kids:Int)<=60)&&all2 (linP w n) (zai w t p) p.kids))=false:=by simpa using hw
     rw[hw',Bool.false_and];unfold finV;rw[a1];simp[a1]
  ·have hf:¬zbL w (n+1) t p c=true:=fun h=>by
    simp only[zbL,zaw,xad,decide_eq_true_eq] at h;refine h2 ?_;simp only[okP,xad,decide_eq_true_eq];refine⟨h.1.1, ?_⟩;by_cases hl:(zai w t p).length=p.kids.length
    ·exact hl.symm
    ·have:=zgD (f:=zaw w n) hl;rw[this] at h;simp at h
   rw[if_neg h2,if_neg hf];exact⟨rfl,fun h=>absurd h hf⟩
mutual
def cntP (m:Int):Pat->Int
 | .mk _ _ _ _ _ ks=>zcW m 1 ks
def zcW (m n:Int):List Pat->Int
 | []=>n
 |k::r=>if n<=m then zcW m (n+cntP (m-n) k) r else n
end
theorem ztq (m:Int) (v:Pat):cntP m v=zcW m 1 v.kids:=by cases v;rfl
theorem zlv {m n:Int}{l:List Pat} (h:¬n<=m):zcW m n l=n:=by cases l<;>simp[zcW,h]
mutual
theorem zj1:∀(v:Pat) (m:Int),1<=cntP m v/\cntP m v<=v.size
 | .mk _ _ _ _ _ ks,m=>by
  have:=zkI ks m 1 (by omega);simp only[cntP,Pat.size];push_cast;omega
theorem zkI:∀(l:List Pat) (m n:Int),1<=n->1<=zcW m n l/\zcW m n l<=n+Pats.size l
 | [],m,n,h=>by simp[zcW,Pats.size];omega
 |k::r,m,n,h=>by
  have h1:=zj1 k (m-n);have h2:=zkI r m (n+cntP (m-n) k) (by omega);simp only[zcW,Pats.size];split
  ·push_cast;omega
  ·push_cast;omega
end
mutual
theorem zoP:∀(v:Pat) (m:Int),(cntP m v<=m↔(v.size:Int)<=m)/\(cntP m v<=m->cntP m v=v.size)
 | .mk _ _ _ _ _ ks,m=>by
  have:=znk ks m 1;simp only[cntP,Pat.size];push_cast;exact this
theorem znk:∀(l:List Pat) (m n:Int),(zcW m n l<=m↔n+(Pats.size l:Int)<=m)/\(zcW m n l<=m->zcW m n l=n+Pats.size l)
 | [],m,n=>by simp[zcW,Pats.size]
 |k::r,m,n=>by
  have h1:=zoP k (m-n);have h2:=znk r m (n+cntP (m-n) k);have h3:=zkI r m (n+cntP (m-n) k);have h4:=zj1 k (m-n);simp only[zcW,Pats.size];push_cast
  by_cases hn:n<=m
  ·rw[if_pos hn];by_cases h5:cntP (m-n) k<=m-n
   ·have h6:=h1.2 h5;rw[h6] at h2 ⊢;constructor
    ·rw[h2.1];constructor<;>intro h<;>omega
    ·intro h;rw[h2.2 h];omega
   ·have h7:¬(k.size:Int)<=m-n:=fun h=>h5 (h1.1.2 h);have h8:¬n+cntP (m-n) k<=m:=by omega
    rw[zlv h8];constructor
    ·constructor<;>intro h<;>omega
    ·intro h;omega
  ·rw[if_neg hn];constructor
   ·constructor<;>intro h<;>omega
   ·intro h;omega
end
theorem Pats.size_split {pre rest l:List Pat}{y:Pat} (h:pre++y::rest=l):Pats.size l=Pats.size pre+y.size+Pats.size rest:=by
 subst h;induction pre with
 |nil=>simp[Pats.size]
 |cons x r ih=>simp only[xag,Pats.size,ih];omega
theorem zeO {l:List Pat}{i:Nat} (h:i<l.length):(nth l i).size<=Pats.size l:=Pats.size_mem (zal h)
theorem zmg {l:List Pat}{i:Nat} (h:i<l.length):Pats.size (l.drop i)=(nth l i).size+Pats.size (l.drop (i+1)):=by
 rw[za2 h];rfl
theorem zfg:∀(n:Nat){v:Pat}{m:Int},v.size<=n->v.size<=1000000000000->v.ok->0<=m->m<=1000000000000->FnD Tryz.prog 297 [.agg [.d (.i v.op),.d (.i v.ctor),.d (.i v.n),.d (.i v.m),.d (.i v.var),.d (zae v.kids)],.d (.i m)] [] (.d (.i (cntP m v))) []
 |0,v,m,h,_,_,_,_=>by rw[Pat.size_eq] at h;omega
 |n+1,v,m,h,hb,hok,m0,m1=>by
  rw[Pat.size_eq] at h hb;rw[Pat.ok_iff] at hok;rw[ztq];refine bd Tryz.f297 31 [] [] fun w0 F0 own kept hk=>?_;refine bx 3002 ?_;refine ev ?_;refine xam (ι:=Nat×Int) hk (fun x=>[(6,.d (.i (x.1:Int))),(5,.d (.i x.2))]) [7,8,9,10,11,12,13,14,15,16,17,18,19,20,21,22,23,24,25,26,27,28,29] (fun x=>[]) (fun x=>x.1<=v.kids.length/\zcW m x.2 (v.kids.drop x.1)=zcW m 1 v.kids/\1<=x.2/\x.2+Pats.size (v.kids.drop x.1)<=1+Pats.size v.kids) (fun x=>v.kids.length-x.1) (0,1) ⟨by simp,by simp,by simp,by simp⟩ ⟨⟨_,rfl,xaz ?_⟩,⟨⟨_,rfl,xaz ?_⟩,trivial⟩⟩ trivial (fun x=>rfl) (fun x hg1=>?_);iterate 2 focus (rfl)
  refine evc [] [] ?_;refine sq ?_ ?_<;>intro h1 h1p h1s<;>(try simp only[Q,Pat.cs_len] at h1p);refine sq ?_ ?_<;>intro h2 h2p h2s<;>(try simp only[Q,Pat.cs_len] at h2p);refine xaS sl34 .none rfl rfl rfl rfl (zaH (by omega)) rfl ?_;refine ev ?_;refine ar ?_ (by(constructor<;>omega));refine wc zoL (zfg n (v:=nth v.kids x.1) (by have:=zeO (l:=v.kids) (i:=x.1) (by omega);omega) (by have:=zeO (l:=v.kids) (i:=x.1) (by omega);omega) (Pats.ok_mem hok.2 _ (zal (by omega))) (by omega) (by omega)) rfl rfl ?_;refine ev ?_;refine ar ?_ (by(have hz:=zj1 (nth v.kids x.1) (m-x.2);have hs:=zmg (l:=v.kids) (i:=x.1) (by omega);constructor<;>omega));refine ar ?_ (by(constructor<;>omega));refine xah ((x.1+1,x.2+cntP (m-x.2) (nth v.kids x.1))) ⟨(by
      have hz:=zj1 (nth v.kids x.1) (m-x.2);have hs:=zmg (l:=v.kids) (i:=x.1) (by omega);refine⟨by dsimp only;omega, ?_,by dsimp only;omega,by dsimp only;omega⟩;rw[<-hg1.2.1,za2 (l:=v.kids) (i:=x.1) (by omega),zcW,if_pos (by omega)]),(by dsimp only;omega),sx ⟨⟨_,rfl,xaz ?_⟩,⟨⟨_,rfl,xaz ?_⟩,trivial⟩⟩ trivial⟩
  iterate 2 focus (rfl)
  refine rq ?_;rotate_left;refine sqF ?_;refine rq ?_;rotate_left;all_goals (refine congrArg D.i ?_;rw[<-hg1.2.1];first|(rw[List.drop_eq_nil_of_le (by omega)];rfl)|(rw[zlv (by omega)]))
end Go.Proofs.YtlfipehhbdjnjaaGreat
namespace Go.Proofs.YtlfipehhbdjnjaaGreat
open Go
set_option linter.unusedSimpArgs false
set_option linter.unusedVariables false
set_option maxRecDepth 100000
set_option maxHeartbeats 4000000
theorem zhx {w:List Data}{d:Nat}{k:Int}:zaA w ⟨d,k⟩=zba w ⟨d,k⟩:=by unfold zaA;rw[if_neg (by simp only;omega)]
theorem zgy {w:List Data}{k:Int}:zaA w ⟨-1,k⟩=[]:=by unfold zaA;rw[if_pos rfl]
theorem zmy {w:List Data} (hw:WT w){a k:Int} (ht:TyIn w.length ⟨a,k⟩):(zaA w ⟨a,k⟩).length<=1000000000000:=by
 rcases ht with ha|⟨d,hd,hlt⟩
 ·simp only at ha;subst ha;rw[zgy];exact Nat.zero_le _
 ·simp only at hd;subst hd;rw[zhx];exact zpG hw
theorem zcI {w:List Data}{a k c:Int} (ht:TyIn w.length ⟨a,k⟩) (h:c∈zaA w ⟨a,k⟩):∃d:Nat,a=d/\d<w.length/\PlaceIn w d c:=by
 rcases ht with ha|⟨d,hd,hlt⟩
 ·simp only at ha;subst ha;rw[zgy] at h;simp at h
 ·simp only at hd;subst hd;rw[zhx] at h;exact⟨d,rfl,hlt,zpg h⟩
theorem zf1 {w:List Data} (hw:WT w){a k:Int}{p:Pat} (ht:TyIn w.length ⟨a,k⟩) (h:ownP w ⟨a,k⟩ p=true):∀t∈zai w ⟨a,k⟩ p,TyIn w.length t:=by
 intro t hm;unfold zai at hm;split at hm
 ·rename_i h4;unfold ownP at h;have h':=of_decide_eq_true h;have hc:p.ctor∈zaA w ⟨a,k⟩:=by
   rcases h'.2.2.2.2 with h|h|h|h|h|h
   ·omega
   ·omega
   ·omega
   ·omega
   ·omega
   ·exact h.2
  obtain⟨d,rfl,h1,h2⟩:=zcI ht hc;exact zqY hw h1 h2 hm
 ·split at hm
  ·simp only[List.mem_cons,List.not_mem_nil,or_false] at hm;rcases hm with rfl|rfl<;>exact ht
  ·split at hm
   ·simp only[List.mem_cons,List.not_mem_nil,or_false] at hm;subst hm;exact ht
   ·simp at hm
theorem zgx {w:List Data} (hw:WT w){a k:Int}{p:Pat} (ht:TyIn w.length ⟨a,k⟩) (h:p.op=4->p.ctor∈zaA w ⟨a,k⟩):(zai w ⟨a,k⟩ p).length<=1000000000000:=by
 unfold zai;split
 ·rename_i h4;obtain⟨d,rfl,h1,h2⟩:=zcI ht (h h4);exact zh4 hw h1 h2
 ·split
  ·simp
  ·split<;>simp
def zfK (op:Int):Int:=if op=5 then 2 else if op=6 then 1 else if op=4 then -1 else 0
theorem zna {op:Int}:FnD Tryz.prog 319 [.d (.i op)] [] (.d (.i (zfK op))) []:=by
 refine bd Tryz.f319 10 [] [] fun w0 F0 own kept hk=>?_;refine sq ?_ ?_<;>intro h1 h1p h1s;refine rq ?_;rotate_left;refine sq ?_ ?_<;>intro h2 h2p h2s;refine rq ?_;rotate_left;refine sq ?_ ?_<;>intro h3 h3p h3s;refine rq ?_;rotate_left;refine rq ?_;rotate_left;all_goals (refine congrArg D.i ?_;simp only[zfK];simp_all)
theorem zcL {w:List Data} (hw:WT w){a k:Int} (ht:TyIn w.length ⟨a,k⟩):FnD Tryz.prog 226 [.d (zam w),.agg [.d (.i a),.d (.i k)]] [] (.d (zcs (zaA w ⟨a,k⟩))) []:=by
 rcases ht with ha|⟨d,hd,hlt⟩
 ·simp only at ha;subst ha;rw[zgy];exact ziY
 ·simp only at hd;subst hd;rw[zhx];exact zmk hw hlt
theorem zdz {w:List Data} (hw:WT w){a k c:Int} (ht:TyIn w.length ⟨a,k⟩) (hc:c∈zaA w ⟨a,k⟩):FnD Tryz.prog 254 [.d (zam w),.agg [.d (.i a),.d (.i k)],.d (.i c)] [] (.d (zbk (zak w ⟨a,k⟩ c))) []:=by
 obtain⟨d,rfl,h1,h2⟩:=zcI ht hc;exact zm4 hw h1 h2
theorem zga {w:List Data} (hw:WT w){a k:Int}{p:Pat} (ht:TyIn w.length ⟨a,k⟩):
  FnD Tryz.prog 351 [.d (zam w),.agg [.d (.i a),.d (.i k)],.agg [.d (.i p.op),.d (.i p.ctor),.d (.i p.n),.d (.i p.m),.d (.i p.var),.d (zae p.kids)]] [] (.d (.bool (ownP w ⟨a,k⟩ p))) []:=by
 have hcl:=zmy hw ht;refine bd Tryz.f351 96 [] [1,2,4,13] fun w0 F0 own kept hk=>?_;refine bx 3004 ?_;refine bx 3005 ?_;refine ev ?_;refine xaq ?_;refine xaD 8 [(15,.d (.bool (decide (p.op=2\/p.op=6))))] [8,9,10,11,12,13,14] ?_ ?_;refine ev ?_;refine sq ?_ ?_<;>intro h1 h1p h1s;exact jnb rfl;exact jnb rfl;refine xaC ?_;refine ev ?_;refine xaq ?_;refine xaD 11 [(26,.d (.bool (decide ((p.op=2\/p.op=6)/\(p.var<0\/5<p.var)))))] [16,17,18,19,20,21,22,23,24,25] ?_ ?_;refine ev ?_;refine sq ?_ ?_<;>intro h2 h2p h2s;refine sq ?_ ?_<;>intro h3 h3p h3s;exact jnb rfl;exact jnb rfl;exact jnb rfl;refine xaD 9 [(35,.d (.bool (decide ((p.op=2\/p.op=6)/\(p.var<0\/5<p.var)\/¬(p.op=2\/p.op=6)/\p.var≠0))))] [27,28,29,30,31,32,33,34] ?_ ?_;refine ev ?_;refine sq ?_ ?_<;>intro h4 h4p h4s;exact jnb rfl;refine sq ?_ ?_<;>intro h5 h5p h5s;exact jnb rfl;exact jnb rfl;refine xaC ?_;refine tv ?_;refine sq ?_ ?_<;>intro h6 h6p h6s;refine rq ?_;rotate_left;refine xaq ?_;refine xaD 13 [(48,.d (.bool (decide (p.op≠3/\(p.n≠0\/p.m≠0)))))] [36,37,38,39,40,41,42,43,44,45,46,47] ?_ ?_;refine ev ?_;refine sq ?_ ?_<;>intro h7 h7p h7s;refine sq ?_ ?_<;>intro h8 h8p h8s;exact jnb rfl;exact jnb rfl;exact jnb rfl;refine xaD 10 [(58,.d (.bool (decide (p.op≠3/\(p.n≠0\/p.m≠0)\/p.op≠4/\p.ctor≠0))))] [49,50,51,52,53,54,55,56,57] ?_ ?_;refine ev ?_;refine sq ?_ ?_<;>intro h9 h9p h9s;exact jnb rfl;refine sq ?_ ?_<;>intro h10 h10p h10s;exact jnb rfl;exact jnb rfl;refine xaC ?_;refine tv ?_;refine sq ?_ ?_<;>intro h11 h11p h11s;refine rq ?_;rotate_left;refine sq ?_ ?_<;>intro h12 h12p h12s;refine sq ?_ ?_<;>intro h13 h13p h13s;refine rq ?_;rotate_left;refine sq ?_ ?_<;>intro h14 h14p h14s;refine xaq ?_;refine xaD 8 [(75,.d (.bool (decide (a = -1/\0<=p.n))))] [68,69,70,71,72,73,74] ?_ ?_;refine ev ?_;refine sq ?_ ?_<;>intro h15 h15p h15s;exact jnb rfl;exact jnb rfl;refine xaD 7 [(82,.d (.bool (decide (a = -1/\0<=p.n/\p.n<=p.m))))] [76,77,78,79,80,81] ?_ ?_;refine ev ?_;refine sq ?_ ?_<;>intro h16 h16p h16s;exact jnb rfl;exact jnb rfl;refine xaD 5 [(87,.d (.bool (decide (a = -1/\0<=p.n/\p.n<=p.m/\p.m<=9))))] [83,84,85,86] ?_ ?_;refine ev ?_;refine sq ?_ ?_<;>intro h17 h17p h17s;exact jnb rfl;exact jnb rfl;refine xaC ?_;refine ev ?_;refine rq ?_;rotate_left;refine sq ?_ ?_<;>intro h18 h18p h18s;refine wc zhJ (zcL hw ht) rfl rfl ?_;refine evd [] [] ?_;refine wc zlq (zez hcl) rfl rfl ?_;refine evd [] [] ?_;refine dr ?_;refine rq ?_;rotate_left;refine rq ?_;rotate_left;refine sq ?_ ?_<;>intro h19 h19p h19s;refine sq ?_ ?_<;>intro h20 h20p h20s;refine rq ?_;rotate_left;refine sq ?_ ?_<;>intro h21 h21p h21s;refine xaq ?_;refine xaD 8 [(75,.d (.bool (decide (a = -1/\0<=p.n))))] [68,69,70,71,72,73,74] ?_ ?_;refine ev ?_;refine sq ?_ ?_<;>intro h22 h22p h22s;exact jnb rfl;exact jnb rfl;refine xaD 7 [(82,.d (.bool (decide (a = -1/\0<=p.n/\p.n<=p.m))))] [76,77,78,79,80,81] ?_ ?_;refine ev ?_;refine sq ?_ ?_<;>intro h23 h23p h23s;exact jnb rfl;exact jnb rfl;refine xaD 5 [(87,.d (.bool (decide (a = -1/\0<=p.n/\p.n<=p.m/\p.m<=9))))] [83,84,85,86] ?_ ?_;refine ev ?_;refine sq ?_ ?_<;>intro h24 h24p h24s;exact jnb rfl;exact jnb rfl;refine xaC ?_;refine ev ?_;refine rq ?_;rotate_left;refine sq ?_ ?_<;>intro h25 h25p h25s;refine wc zhJ (zcL hw ht) rfl rfl ?_;refine evd [] [] ?_;refine wc zlq (zez hcl) rfl rfl ?_;refine evd [] [] ?_;refine dr ?_;refine rq ?_;rotate_left;refine rq ?_;rotate_left;refine sq ?_ ?_<;>intro h26 h26p h26s;refine sq ?_ ?_<;>intro h27 h27p h27s;refine rq ?_;rotate_left;refine sq ?_ ?_<;>intro h28 h28p h28s;refine xaq ?_;refine xaD 8 [(75,.d (.bool (decide (a = -1/\0<=p.n))))] [68,69,70,71,72,73,74] ?_ ?_;refine ev ?_;refine sq ?_ ?_<;>intro h29 h29p h29s;exact jnb rfl;exact jnb rfl;refine xaD 7 [(82,.d (.bool (decide (a = -1/\0<=p.n/\p.n<=p.m))))] [76,77,78,79,80,81] ?_ ?_;refine ev ?_;refine sq ?_ ?_<;>intro h30 h30p h30s;exact jnb rfl;exact jnb rfl;refine xaD 5 [(87,.d (.bool (decide (a = -1/\0<=p.n/\p.n<=p.m/\p.m<=9))))] [83,84,85,86] ?_ ?_;refine ev ?_;refine sq ?_ ?_<;>intro h31 h31p h31s;exact jnb rfl;exact jnb rfl;refine xaC ?_;refine ev ?_;refine rq ?_;rotate_left;refine sq ?_ ?_<;>intro h32 h32p h32s;refine wc zhJ (zcL hw ht) rfl rfl ?_;refine evd [] [] ?_;refine wc zlq (zez hcl) rfl rfl ?_;refine evd [] [] ?_;refine dr ?_;refine rq ?_;rotate_left;refine rq ?_;rotate_left;refine sq ?_ ?_<;>intro h33 h33p h33s;refine rq ?_;rotate_left;refine sq ?_ ?_<;>intro h34 h34p h34s;refine xaq ?_;refine xaD 8 [(75,.d (.bool (decide (a = -1/\0<=p.n))))] [68,69,70,71,72,73,74] ?_ ?_;refine ev ?_;refine sq ?_ ?_<;>intro h35 h35p h35s;exact jnb rfl;exact jnb rfl;refine xaD 7 [(82,.d (.bool (decide (a = -1/\0<=p.n/\p.n<=p.m))))] [76,77,78,79,80,81] ?_ ?_;refine ev ?_;refine sq ?_ ?_<;>intro h36 h36p h36s;exact jnb rfl;exact jnb rfl;refine xaD 5 [(87,.d (.bool (decide (a = -1/\0<=p.n/\p.n<=p.m/\p.m<=9))))] [83,84,85,86] ?_ ?_;refine ev ?_;refine sq ?_ ?_<;>intro h37 h37p h37s;exact jnb rfl;exact jnb rfl;refine xaC ?_;refine ev ?_;refine rq ?_;rotate_left;refine sq ?_ ?_<;>intro h38 h38p h38s;refine wc zhJ (zcL hw ht) rfl rfl ?_;refine evd [] [] ?_;refine wc zlq (zez hcl) rfl rfl ?_;refine evd [] [] ?_;refine dr ?_;refine rq ?_;rotate_left;refine rq ?_;rotate_left;all_goals (refine congrArg D.bool ?_;unfold ownP;rw[Bool.eq_iff_iff];by_cases hmem:p.ctor∈zaA w ⟨a,k⟩<;>(simp only[hmem,and_true,and_false,or_false,decide_eq_true_eq,xad,Bool.false_eq_true,true_iff,false_iff];simp only[decide_eq_true_eq,decide_eq_false_iff_not] at *;omega))
theorem zc2 {w:List Data} (hw:WT w){a k:Int}{p:Pat} (ht:TyIn w.length ⟨a,k⟩) (h:p.op=4->p.ctor∈zaA w ⟨a,k⟩):
  FnD Tryz.prog 252 [.d (zam w),.agg [.d (.i a),.d (.i k)],.agg [.d (.i p.op),.d (.i p.ctor),.d (.i p.n),.d (.i p.m),.d (.i p.var),.d (zae p.kids)]] [] (.d (zbk (zai w ⟨a,k⟩ p))) []:=by
 by_cases h4:p.op=4
 ·have e:zai w ⟨a,k⟩ p=zak w ⟨a,k⟩ p.ctor:=by unfold zai;rw[if_pos h4]
  rw[e];refine bd Tryz.f252 30 [] [] fun w0 F0 own kept hk=>?_;refine bx 3004 ?_;refine bx 3005 ?_;refine ev ?_;refine sq ?_ ?_<;>intro h1 h1p h1s;refine wc zi7 (zdz hw ht (h h4)) rfl rfl ?_;refine ev ?_;refine rq ?_;rotate_left;exfalso;simp_all;all_goals (rfl)
 ·have e:zai w ⟨a,k⟩ p=List.replicate (zfK p.op).toNat ⟨a,k⟩:=by
   unfold zai zfK;rw[if_neg h4];by_cases h5:p.op=5
   ·rw[if_pos h5,if_pos h5];rfl
   ·rw[if_neg h5,if_neg h5];by_cases h6:p.op=6
    ·rw[if_pos h6,if_pos h6];rfl
    ·rw[if_neg h6,if_neg h6,if_neg h4];rfl
  have hb:0<=zfK p.op/\zfK p.op<=2:=by unfold zfK;split<;>(try split)<;>(try split)<;>omega
  rw[e];refine bd Tryz.f252 30 [] [] fun w0 F0 own kept hk=>?_;refine bx 3004 ?_;refine bx 3005 ?_;refine ev ?_;refine sq ?_ ?_<;>intro h1 h1p h1s;exfalso;simp_all;refine xbg 5 za4 .none rfl rfl ?_;refine ev ?_;refine xam (ι:=Nat) hk (fun i=>[(8,.d (.i (i:Int))),(7,.gl 5 ((List.replicate i (⟨a,k⟩:Ty)).map Ty.c))]) [18,19,20,21,22,23,24,25,26,27,28] (fun i=>[(5,some (.tok (((List.replicate i (⟨a,k⟩:Ty)).map Ty.c)).length 2))]) (fun i=>(i:Int)<=zfK p.op) (fun i=>(zfK p.op).toNat-i) 0 (by omega) ⟨⟨_,rfl,xaz ?_⟩,⟨⟨_,rfl,LeA.glg ?_⟩,trivial⟩⟩ ⟨zad ?_,trivial⟩ (fun x=>rfl) (fun i hg1=>?_);iterate 3 focus (rfl)
  refine evc [] [] ?_;refine wc zuq (zna) rfl rfl ?_;refine ev ?_;refine sq ?_ ?_<;>intro h2 h2p h2s<;>(try simp only[Q] at h2p);refine si [0] [_] za4 tz25 ?_;refine ap za4 zz25 rfl rfl rfl (by simp) (by simp;omega) ?_;refine ev ?_;refine ar ?_;refine xah (i+1) ⟨(by omega),(by omega),sx ⟨⟨_,rfl,xaz ?_⟩,⟨⟨_,rfl,LeA.glg ?_⟩,trivial⟩⟩ ⟨zad ?_,trivial⟩⟩;iterate 3 focus ((simp[List.replicate_succ'];done))
  refine rn0 (r1 rfl) (.gld ?_);rotate_left;all_goals ((obtain rfl:i=(zfK p.op).toNat:=by omega);simp)
theorem zbK {w:List Data}{n:Nat}{t:Ty}{p:Pat} (h:zaw w (n+1) t p=true):ownP w t p=true/\p.kids.length=(zai w t p).length:=by
 simp only[zaw,xad] at h;refine⟨h.1, ?_⟩;by_cases hl:(zai w t p).length=p.kids.length
 ·exact hl.symm
 ·rw[zgD hl] at h;simp at h
theorem zcg {w:List Data}{t:Ty}{p:Pat} (h:ownP w t p=true):p.op=4->p.ctor∈zaA w t:=by
 intro h4;unfold ownP at h;have h':=(of_decide_eq_true h).2.2.2.2;rcases h' with h|h|h|h|h|h
 ·omega
 ·omega
 ·omega
 ·omega
 ·omega
 ·exact h.2
theorem zpd {w:List Data}{t:Ty}{p:Pat} (h:ownP w t p=true):(p.op=2\/p.op=6)->0<=p.var/\p.var<=5:=by
 unfold ownP at h;exact(of_decide_eq_true h).1
theorem zfi {w:List Data} (hw:WT w):∀(n:Nat){a k m:Int}{p:Pat},m=n->n<=1000->TyIn w.length ⟨a,k⟩->p.ok->
  FnD Tryz.prog 296 [.d (zam w),.agg [.d (.i a),.d (.i k)],.agg [.d (.i p.op),.d (.i p.ctor),.d (.i p.n),.d (.i p.m),.d (.i p.var),.d (zae p.kids)],.d (.i m)] [] (.d (.bool (zaw w n ⟨a,k⟩ p))) []
 |0,a,k,m,p,hm,_,ht,hok=>by
  refine bd Tryz.f296 50 [] [1] fun w0 F0 own kept hk=>?_;refine bx 3005 ?_;refine bx 3006 ?_;refine ev ?_;refine xaq ?_;refine xaD 9 [(19,.d (.bool (true)))] [11,12,13,14,15,16,17,18] ?_ ?_;refine ev ?_;refine sq ?_ ?_<;>intro h1 h1p h1s;exact jnb rfl;refine Walk.call (cr:=[]) zoN (zga hw ht) rfl (.some rfl rfl h1) rfl rfl (LeL.refl _) trivial rfl rfl rfl ?_;refine evs [] [(13,false)] ?_ ⟨⟨_,rfl,h1⟩,trivial⟩;exact jnb rfl;refine xaC ?_;refine tv ?_;refine sq ?_ ?_<;>intro h2 h2p h2s;refine rq ?_;rotate_left;exact absurd h2 (by simp);all_goals (rfl)
 |n+1,a,k,m,p,hm,hn,ht,hok=>by
  rw[Pat.ok_iff] at hok;by_cases ho:ownP w ⟨a,k⟩ p=true
  ·have hin:=zf1 hw ht ho;have hlen:=zgx hw ht (zcg ho);refine bd Tryz.f296 50 [] [1] fun w0 F0 own kept hk=>?_;refine bx 3005 ?_;refine bx 3006 ?_;refine ev ?_;refine xaq ?_;refine xaD 9 [(19,.d (.bool (false)))] [11,12,13,14,15,16,17,18] ?_ ?_;refine ev ?_;refine sq ?_ ?_<;>intro h1 h1p h1s;exact jnb rfl;refine Walk.call (cr:=[]) zoN (zga hw ht) rfl (.some rfl rfl h1) rfl rfl (LeL.refl _) trivial rfl rfl rfl ?_;refine evs [] [(13,false)] ?_ ⟨⟨_,rfl,h1⟩,trivial⟩;exact jnb rfl;refine xaC ?_;refine tv ?_;refine sq ?_ ?_<;>intro h2 h2p h2s;exact absurd h2 (by simp);refine wc zi6 (zc2 hw ht (zcg ho)) rfl rfl ?_;refine ev ?_;refine sq ?_ ?_<;>intro h3 h3p h3s;refine rq ?_;rotate_left;try simp only[Q,Pat.cs_len] at h3p
   refine xam (ι:=Nat) hk (fun i=>[(10,.d (.i (i:Int)))]) [8,30,31,32,33,34,35,36,37,38,39,40,41,42,43,44,45,46,47,48,49] (fun i=>[]) (fun i=>i<=(zai w ⟨a,k⟩ p).length/\∀i',i'<i->zaw w n (nth (zai w ⟨a,k⟩ p) i') (nth p.kids i')=true) (fun i=>(zai w ⟨a,k⟩ p).length-i) 0 ⟨by omega,fun _ h=>absurd h (by omega)⟩ ⟨⟨_,rfl,xaz ?_⟩,trivial⟩ trivial (fun x=>rfl) (fun i hg1=>?_);focus (first|(simp;done)|(simp_all;done))
   refine evc [] [1] ?_;refine sq ?_ ?_<;>intro h4 h4p h4s;try simp only[Q,Pat.cs_len] at h4p
   refine xaS za4 .none rfl rfl rfl rfl (zax (by omega)) rfl ?_;refine evd [] [] ?_;refine xaS sl34 .none rfl rfl rfl rfl (zaH (by omega)) rfl ?_;refine evd [] [] ?_;refine ar ?_;refine wc zoK (zfi hw n (by omega) (by omega) (hin _ (zal (by omega))) (Pats.ok_mem hok.2 _ (zal (by omega)))) rfl rfl ?_;refine evd [] [] ?_;refine dr ?_;refine sq ?_ ?_<;>intro h5 h5p h5s;refine rq ?_;rotate_left;try simp only[Q,Pat.cs_len] at h5p
   refine ar ?_;refine xah (i+1) ⟨⟨by omega,zaV hg1.2 (by assumption)⟩,(by omega),sx ⟨⟨_,rfl,xaz ?_⟩,trivial⟩ trivial⟩;focus (first|(simp;done)|(simp_all;done))
   refine rq ?_;rotate_left;all_goals (refine congrArg D.bool ?_;unfold zaw;rw[ho,Bool.true_and];first|(rw[zgD (by simp[Pat.cs_len] at *;omega)])|(rw[zcb (by simp[Pat.cs_len] at *;omega) (fun x hx=>hg1.2 x (by simp[Pat.cs_len] at *;omega))])|(rw[zbH (i:=i) (by simp[Pat.cs_len] at *;omega) (by simp[Pat.cs_len] at *;omega) (by assumption)]))
  ·have ho':ownP w ⟨a,k⟩ p=false:=by simpa using ho
   refine bd Tryz.f296 50 [] [1] fun w0 F0 own kept hk=>?_;refine bx 3005 ?_;refine bx 3006 ?_;refine ev ?_;refine xaq ?_;refine xaD 9 [(19,.d (.bool (true)))] [11,12,13,14,15,16,17,18] ?_ ?_;refine ev ?_;refine sq ?_ ?_<;>intro h1 h1p h1s;exact jnb rfl;refine Walk.call (cr:=[]) zoN (zga hw ht) rfl (.some rfl rfl h1) rfl rfl (LeL.refl _) trivial rfl rfl rfl ?_;refine evs [] [(13,false)] ?_ ⟨⟨_,rfl,h1⟩,trivial⟩;exact jnb rfl;refine xaC ?_;refine tv ?_;refine sq ?_ ?_<;>intro h2 h2p h2s;refine rq ?_;rotate_left;exact absurd h2 (by simp);all_goals (refine congrArg D.bool ?_;unfold zaw;rw[ho'];rfl)
theorem zfC {l:List Vt}{n:Int} (h:l.length<=1000000000000):FnD Tryz.prog 299 [.d (zcM l),.d (.i n)] [] (.d (.i (zby l n))) []:=by
 refine bd Tryz.f299 20 [] [] fun w0 F0 own kept hk=>?_;refine xam (ι:=List (Vt)×List (Vt)) hk (fun x=>[(5,.d (.i (x.1.length:Int)))]) [4,6,7,8,9,10,11,12,13,14,15,16,17,18,19] (fun x=>[]) (fun x=>x.1++x.2=l/\idxF (fun v=>decide (v.var=n)) x.2 x.1.length=idxF (fun v=>decide (v.var=n)) l 0) (fun x=>x.2.length) ([],l) ⟨by simp,rfl⟩ ⟨⟨_,rfl,xaz ?_⟩,trivial⟩ trivial (fun x=>rfl) (fun x hg1=>?_);focus (rfl)
 obtain⟨pre,rest⟩:=x;dsimp only at hg1 ⊢;refine evc [] [] ?_;refine sq ?_ ?_<;>intro h1 h1p h1s<;>(try simp only[Q] at h1p);rcases rest with _|⟨y,rest⟩
 ·exfalso;simp_all
 refine xaS zdc .none rfl rfl rfl rfl (zaR hg1.1) rfl ?_;refine ev ?_;refine sq ?_ ?_<;>intro h2 h2p h2s<;>(try simp only[Q] at h2p);focus (refine rq ?_;all_goals (refine congrArg D.i ?_;unfold zby;rw[<-hg1.2];simp[idxF,h1s,h1p,h2s,h2p]))
 refine ar ?_;refine xah ((pre++[y],rest)) ⟨⟨(by have hz:=hg1.1;rw[<-hz];simp),(by rw[<-hg1.2];simp_all[idxF])⟩,(by simp),sx ⟨⟨_,rfl,xaz ?_⟩,trivial⟩ trivial⟩;focus ((simp;done))
 have hrest:rest=[]:=by
  rcases rest with _|⟨a,b⟩
  ·rfl
  ·exfalso;have hz:=congrArg List.length (hg1.1);simp only[xaa,xab,xac] at hz;omega
 subst hrest;focus (refine rq ?_;all_goals (refine congrArg D.i ?_;unfold zby;rw[<-hg1.2];simp[idxF,h1s,h1p]))
theorem zpE {a b:List Vt}{i:Nat} (h:i<a.length) (h2:¬(0<=zby b (nth a i).var/\(nth b (zby b (nth a i).var).toNat).ty=(nth a i).ty)):zdx a b=false:=by
 unfold zdx;have:(a.all fun v=>decide (0<=zby b v.var/\(nth b (zby b v.var).toNat).ty=v.ty))=false:=List.all_eq_false.2 ⟨_,zal h,by simpa using h2⟩;rw[this,Bool.false_and]
theorem zqp {a b:List Vt} (h:∀i,i<a.length->0<=zby b (nth a i).var/\(nth b (zby b (nth a i).var).toNat).ty=(nth a i).ty):zdx a b=decide (a.length=b.length):=by
 unfold zdx;have:(a.all fun v=>decide (0<=zby b v.var/\(nth b (zby b v.var).toNat).ty=v.ty))=true:=by
  rw[List.all_eq_true];intro v hv;obtain⟨j,hj,he⟩:=List.getElem_of_mem hv;have:=h j hj;rw[za8 hj,he] at this;exact decide_eq_true this
 rw[this,Bool.true_and]
theorem zkJ {l:List Vt}{n:Int} (h:0<=zby l n):(zby l n).toNat<l.length/\((zby l n).toNat:Int)=zby l n:=by
 rcases zeV l n with ⟨h1,_⟩|⟨k,h1,h2,_⟩
 ·omega
 ·rw[h1];simpa using h2
theorem zr6 {t u:Ty}:t=u↔t.data=u.data/\t.index=u.index:=by
 cases t;cases u;simp
theorem zmo {x y:List Vt} (hx:x.length<=1000000000000) (hy:y.length<=1000000000000):FnD Tryz.prog 352 [.d (zcM x),.d (zcM y)] [] (.d (.bool (zdx x y))) []:=by
 refine bd Tryz.f352 40 [33] [] fun w0 F0 own kept hk=>?_;refine xam (ι:=Nat) hk (fun i=>[(5,.d (.i (i:Int)))]) [4,6,7,8,9,10,11,12,13,14,15,16,17,18,19,20,21,22,23,24,25,26,27,28,29,30,31,32,33,34] (fun i=>[]) (fun i=>i<=x.length/\∀j,j<i->0<=zby y (nth x j).var/\(nth y (zby y (nth x j).var).toNat).ty=(nth x j).ty) (fun i=>x.length-i) 0 ⟨by omega,fun _ h=>absurd h (by omega)⟩ ⟨⟨_,rfl,xaz ?_⟩,trivial⟩ trivial (fun x=>rfl) (fun i hg1=>?_);focus (rfl)
 refine evc [33] [] ?_;refine sq ?_ ?_<;>intro h1 h1p h1s<;>(try simp only[Q] at h1p);refine xaS zdc .none rfl rfl rfl rfl (zax (by omega)) rfl ?_;refine evs [33] [] ?_;refine wc zoM (zfC hy) rfl rfl ?_;refine evs [33] [] ?_;refine sq ?_ ?_<;>intro h2 h2p h2s<;>(try simp only[Q] at h2p);refine dr ?_;refine sqT ?_;refine rq ?_;rotate_left;refine xaS (i:=(zby y (nth x i).var).toNat) zdc (.some rfl rfl h2) rfl rfl rfl (zkJ (l:=y) (n:=(nth x i).var) (by omega)).2.symm (zax (by exact(zkJ (l:=y) (n:=(nth x i).var) (by omega)).1)) rfl ?_;refine evd [33] [(22,false)] ?_ ⟨⟨_,rfl,h2⟩,trivial⟩;refine xaS zdc (.some rfl rfl h2) rfl rfl rfl rfl (zax (by omega)) rfl ?_;refine evd [33] [(22,false)] ?_ ⟨⟨_,rfl,h2⟩,trivial⟩;refine Walk.neV eq25 (.some rfl rfl h2) rfl rfl rfl rfl rfl ?_;refine evd [33] [(22,false)] ?_ ⟨⟨_,rfl,h2⟩,trivial⟩;refine dr ?_;refine sq ?_ ?_<;>intro h4 h4p h4s<;>(try simp only[Q] at h4p);refine rq ?_;rotate_left;refine ar ?_;refine xah (i+1) ⟨⟨by omega,zaV hg1.2 (by rw[zr6];first|omega|(simp at h4;omega))⟩,(by omega),sx ⟨⟨_,rfl,xaz ?_⟩,trivial⟩ trivial⟩;focus (rfl)
 refine rq ?_;rotate_left;all_goals (refine congrArg D.bool ?_;first|(refine(zpE (i:=i) (by omega) ?_).symm;simp only[zr6];first|omega|(simp at h4;omega))|(rw[zqp (fun j hj=>hg1.2 j (by simp at h1p;omega))];exact decide_eq_decide.2 (by simp;omega)))
theorem zjW {f:Ty->Pat->List Vt} (hf:∀t p,(f t p).length<=p.size):∀(a:List Ty) (b:List Pat),(zbg f a b).length<=Pats.size b
 | [],[]=>by simp[zbg]
 | [],_::_=>by simp[zbg]
 |_::_,[]=>by simp[zbg]
 |x::r,y::s=>by
  have h1:=zjW hf r s;have h2:=hf x y;simp only[zbg,xaa,Pats.size];omega
theorem zd2 (w:List Data):∀(n:Nat) (t:Ty) (p:Pat),(zaM w n t p).length<=p.size
 |0,t,p=>by simp[zaM]
 |n+1,t,p=>by
  have h1:=zjW (zd2 w n) (zdl w t p) p.kids;have h2:(zaU t p).length<=1:=by unfold zaU;split<;>simp
  rw[Pat.size_eq];simp only[zaM,xaa];omega
theorem ziD {f:Ty->Pat->List Vt}:∀ {a:List Ty}{b:List Pat}{i:Nat},i<a.length->i<b.length->zbg f (a.take (i+1)) (b.take (i+1))=zbg f (a.take i) (b.take i)++f (nth a i) (nth b i)
 |x::r,y::s,0,_,_=>by simp[zbg,nth]
 |x::r,y::s,i+1,h1,h2=>by
  have:=ziD (f:=f) (a:=r) (b:=s) (i:=i) (by simpa using h1) (by simpa using h2);simp only[List.take_succ_cons,zbg];rw[this,List.append_assoc];rfl
theorem zmx {f:Ty->Pat->List Vt}:∀ {a:List Ty}{b:List Pat}{i:Nat},zbg f (a.take i) (b.take i)=zbg f (a.take i) b
 | [],b,i=>by simp[zbg]
 |x::r,[],i=>by simp[zbg]
 |x::r,y::s,0=>by simp[zbg]
 |x::r,y::s,i+1=>by simp only[List.take_succ_cons,zbg];rw[zmx]
theorem zpC {f:Ty->Pat->List Vt} (hf:∀t p,(f t p).length<=p.size){a:List Ty}{b:List Pat}{i:Nat} (h:i<b.length):(zbg f (a.take i) (b.take i)).length+(nth b i).size<=Pats.size b:=by
 have h1:=zjW hf (a.take i) (b.take i);have h2:=Pats.size_split (pre:=b.take i) (y:=nth b i) (rest:=b.drop (i+1)) (l:=b) (by rw[<-za2 h,List.take_append_drop]);omega
def zdk (w:List Data) (t:Ty) (p:Pat):Nat:=(zdl w t p).length
theorem zjX (w:List Data) (t:Ty) (p:Pat):zdk w t p=if p.op=5 then 1 else (zai w t p).length:=by
 unfold zdk zdl;by_cases h5:p.op=5
 ·rw[if_pos h5,if_pos h5];have:zai w t p=[t,t]:=by unfold zai;rw[if_neg (by omega),if_pos h5]
  rw[this];rfl
 ·rw[if_neg h5,if_neg h5]
theorem znU {w:List Data}{f:Ty->Pat->List Vt}{t:Ty}{p:Pat} (hl:p.kids.length=(zai w t p).length){i:Nat} (h:i=zdk w t p):zbg f ((zai w t p).take i) (p.kids.take i)=zbg f (zdl w t p) p.kids:=by
 subst h;rw[zmx];congr 1
 rw[zjX];unfold zdl;by_cases h5:p.op=5
 ·rw[if_pos h5,if_pos h5]
 ·rw[if_neg h5,if_neg h5,List.take_length]
theorem zbJ {w:List Data}{n:Nat}{t:Ty}{p:Pat} (h:zaw w (n+1) t p=true){i:Nat} (hi:i<p.kids.length):zaw w n (nth (zai w t p) i) (nth p.kids i)=true:=by
 have hl:=(zbK h).2;cases hs:zaw w n (nth (zai w t p) i) (nth p.kids i) with
 |true=>rfl
 |false=>
  have:=zbH (f:=zaw w n) (a:=zai w t p) (b:=p.kids) (i:=i) (by omega) hl.symm hs;simp only[zaw,this,Bool.and_false] at h;cases h
theorem zfD {w:List Data} (hw:WT w):∀(n:Nat){a k:Int}{p:Pat}{xs:List Vt},zaw w n ⟨a,k⟩ p=true->n<=1000->TyIn w.length ⟨a,k⟩->p.ok->xs.length+p.size<=2000000000000->
  FnD Tryz.prog 225 [.gl 5 (xs.map Vt.c),.d (zam w),.agg [.d (.i a),.d (.i k)],.agg [.d (.i p.op),.d (.i p.ctor),.d (.i p.n),.d (.i p.m),.d (.i p.var),.d (zae p.kids)]] [(5,some (.tok (xs.map Vt.c).length 3))]
   (.gl 5 ((xs++zaM w n ⟨a,k⟩ p).map Vt.c)) [(5,some (.tok ((xs++zaM w n ⟨a,k⟩ p).map Vt.c).length 3))]
 |0,a,k,p,xs,hs,_,_,_,_=>by simp[zaw] at hs
 |n+1,a,k,p,xs,hs,hn,ht,hok,hb=>by
  rw[Pat.ok_iff] at hok;rw[Pat.size_eq] at hb;obtain⟨ho,hl⟩:=zbK hs;have hin:=zf1 hw ht ho;have hlen:=zgx hw ht (zcg ho);have hvc5:p.op=5->zdk w ⟨a,k⟩ p=1:=fun h=>by rw[zjX,if_pos h]
  have hvc:¬p.op=5->zdk w ⟨a,k⟩ p=(zai w ⟨a,k⟩ p).length:=fun h=>by rw[zjX,if_neg h]
  have hv2:zdk w ⟨a,k⟩ p<=p.kids.length:=by
   unfold zdk zdl;split
   ·rw[List.length_take];omega
   ·omega
  have e5:p.op=5->(zai w ⟨a,k⟩ p).length=2:=fun h5=>by unfold zai;rw[if_neg (by omega),if_pos h5];rfl
  have hnm:(zaU ⟨a,k⟩ p).length<=1:=by unfold zaU;split<;>simp
  refine bd Tryz.f225 58 [] [1,5,6] fun w0 F0 own kept hk=>?_;refine bx 3006 ?_;refine bx 3007 ?_;refine ev ?_;refine xaq ?_;refine xaD 8 [(18,.d (.bool (decide (p.op=2\/p.op=6))))] [11,12,13,14,15,16,17] ?_ ?_;refine ev ?_;refine sq ?_ ?_<;>intro h1 h1p h1s;exact jnb rfl;exact jnb rfl;refine xaC ?_;refine tv ?_;refine sq ?_ ?_<;>intro h2 h2p h2s<;>(try simp only[Q,Pat.cs_len] at h2p);refine bu [0,1] [_,_] zqR ?_;refine si [0] [_] zdc zoo ?_;refine ap zdc zoq rfl rfl rfl (by simp) (by simp;omega) ?_;refine ev ?_;refine wc zi6 (zc2 hw ht (zcg ho)) rfl rfl ?_;refine ev ?_;refine CWp.loopT 5 6 (ι:=Nat) hk (fun i=>[(0,.gl 5 ((xs++zaU ⟨a,k⟩ p++zbg (zaM w n) ((zai w ⟨a,k⟩ p).take i) (p.kids.take i)).map Vt.c)),(10,.d (.i (i:Int)))]) [30,31,32,33,34,35,36,37,38,39,40,41,42,43,44,45,46,47,48,49,50,51,52,53,54,55,56] (fun i=>[(5,some (.tok ((xs++zaU ⟨a,k⟩ p++zbg (zaM w n) ((zai w ⟨a,k⟩ p).take i) (p.kids.take i)).map Vt.c).length 3))]) (fun i=>i<=zdk w ⟨a,k⟩ p) (fun i=>zdk w ⟨a,k⟩ p-i) 0 (by omega) ⟨⟨_,rfl,LeA.glg ?_⟩,⟨⟨_,rfl,xaz ?_⟩,trivial⟩⟩ ⟨zad ?_,trivial⟩ (fun x=>rfl) (fun i hg1=>?_);iterate 3 focus ((simp[zbg,zaU, *];done))
  refine evc [] [1,5,6] ?_;refine xaq ?_;refine xaD 13 [(42,.d (.bool (decide (i<zdk w ⟨a,k⟩ p))))] [30,31,32,33,34,35,36,37,38,39,40,41] ?_ ?_;refine ev ?_;refine sq ?_ ?_<;>intro h3 h3p h3s;refine sq ?_ ?_<;>intro h4 h4p h4s;exact jnb rfl;exact jnb rfl;exact jnb rfl;refine xaC ?_;refine tv ?_;refine sq ?_ ?_<;>intro h5 h5p h5s<;>(try simp only[Q,Pat.cs_len] at h5p);refine xaS za4 .none rfl rfl rfl rfl (zax (by omega)) rfl ?_;refine evd [] [] ?_;refine xaS sl34 .none rfl rfl rfl rfl (zaH (by omega)) rfl ?_;refine evd [] [] ?_;refine xaJ 6 zhI (zfD hw n (a:=(nth (zai w ⟨a,k⟩ p) i).data) (k:=(nth (zai w ⟨a,k⟩ p) i).index) (p:=nth p.kids i) (xs:=xs++zaU ⟨a,k⟩ p++zbg (zaM w n) ((zai w ⟨a,k⟩ p).take i) (p.kids.take i)) (zbJ hs (by omega)) (by omega) (hin _ (zal (by omega))) (Pats.ok_mem hok.2 _ (zal (by omega))) (by have:=zpC (zd2 w n) (a:=zai w ⟨a,k⟩ p) (b:=p.kids) (i:=i) (by omega);simp only[xaa];omega)) rfl .none rfl rfl (.cons (.refl _) (.cons (.refl _) (.cons (.refl _) (.cons (.refl _) .nil)))) rfl (by rfl) ?_;refine evd [] [] ?_;refine dr ?_;refine CWp.retok 0 6 5 rfl rfl rfl rfl rfl ?_;refine evc [] [] ?_;refine ar ?_;refine xah (i+1) ⟨(by omega),(by omega),sx ⟨⟨_,rfl,LeA.glg ?_⟩,⟨⟨_,rfl,xaz ?_⟩,trivial⟩⟩ ⟨zad ?_,trivial⟩⟩;iterate 3 focus (first|rfl|(rw[ziD (by omega) (by omega)];simp[List.append_assoc];done))
  refine rn [(5,some (.tok ((xs++zaM w (n+1) ⟨a,k⟩ p).map Vt.c).length 3))] (r1 rfl) (.glg ?_) ⟨rfl,rfl⟩ (SubO.get ⟨.inr ?_,⟨.inl rfl,trivial⟩⟩) (za6 rfl);rotate_left 2;refine wc zi6 (zc2 hw ht (zcg ho)) rfl rfl ?_;refine ev ?_;refine CWp.loopT 5 6 (ι:=Nat) hk (fun i=>[(0,.gl 5 ((xs++zaU ⟨a,k⟩ p++zbg (zaM w n) ((zai w ⟨a,k⟩ p).take i) (p.kids.take i)).map Vt.c)),(10,.d (.i (i:Int)))]) [30,31,32,33,34,35,36,37,38,39,40,41,42,43,44,45,46,47,48,49,50,51,52,53,54,55,56] (fun i=>[(5,some (.tok ((xs++zaU ⟨a,k⟩ p++zbg (zaM w n) ((zai w ⟨a,k⟩ p).take i) (p.kids.take i)).map Vt.c).length 3))]) (fun i=>i<=zdk w ⟨a,k⟩ p) (fun i=>zdk w ⟨a,k⟩ p-i) 0 (by omega) ⟨⟨_,rfl,LeA.glg ?_⟩,⟨⟨_,rfl,xaz ?_⟩,trivial⟩⟩ ⟨zad ?_,trivial⟩ (fun x=>rfl) (fun i hg1=>?_);iterate 3 focus ((simp[zbg,zaU, *];done))
  refine evc [] [1,5,6] ?_;refine xaq ?_;refine xaD 13 [(42,.d (.bool (decide (i<zdk w ⟨a,k⟩ p))))] [30,31,32,33,34,35,36,37,38,39,40,41] ?_ ?_;refine ev ?_;refine sq ?_ ?_<;>intro h6 h6p h6s<;>(try simp only[Q,Pat.cs_len] at h6p);refine sq ?_ ?_<;>intro h7 h7p h7s<;>(try simp only[Q,Pat.cs_len] at h7p);exact jnb rfl;exact jnb rfl;exact jnb rfl;refine xaC ?_;refine tv ?_;refine sq ?_ ?_<;>intro h8 h8p h8s<;>(try simp only[Q,Pat.cs_len] at h8p);refine xaS za4 .none rfl rfl rfl rfl (zax (by omega)) rfl ?_;refine evd [] [] ?_;refine xaS sl34 .none rfl rfl rfl rfl (zaH (by omega)) rfl ?_;refine evd [] [] ?_;refine xaJ 6 zhI (zfD hw n (a:=(nth (zai w ⟨a,k⟩ p) i).data) (k:=(nth (zai w ⟨a,k⟩ p) i).index) (p:=nth p.kids i) (xs:=xs++zaU ⟨a,k⟩ p++zbg (zaM w n) ((zai w ⟨a,k⟩ p).take i) (p.kids.take i)) (zbJ hs (by omega)) (by omega) (hin _ (zal (by omega))) (Pats.ok_mem hok.2 _ (zal (by omega))) (by have:=zpC (zd2 w n) (a:=zai w ⟨a,k⟩ p) (b:=p.kids) (i:=i) (by omega);simp only[xaa];omega)) rfl .none rfl rfl (.cons (.refl _) (.cons (.refl _) (.cons (.refl _) (.cons (.refl _) .nil)))) rfl (by rfl) ?_;refine evd [] [] ?_;refine dr ?_;refine CWp.retok 0 6 5 rfl rfl rfl rfl rfl ?_;refine evc [] [] ?_;refine ar ?_;refine xah (i+1) ⟨(by omega),(by omega),sx ⟨⟨_,rfl,LeA.glg ?_⟩,⟨⟨_,rfl,xaz ?_⟩,trivial⟩⟩ ⟨zad ?_,trivial⟩⟩;iterate 3 focus (first|rfl|(rw[ziD (by omega) (by omega)];simp[List.append_assoc];done))
  refine rn [(5,some (.tok ((xs++zaM w (n+1) ⟨a,k⟩ p).map Vt.c).length 3))] (r1 rfl) (.glg ?_) ⟨rfl,rfl⟩ (SubO.get ⟨.inr ?_,⟨.inl rfl,trivial⟩⟩) (za6 rfl);rotate_left 2;all_goals (first|((rw[zaM,<-znU (f:=zaM w n) hl (i:=i) (by omega)];simp);done)|((show some (Res.tok _ _)=some (Res.tok _ _);congr 2;rw[zaM,<-znU (f:=zaM w n) hl (i:=i) (by omega)];simp)))
theorem zdL {w:List Data} (hw:WT w){n:Nat}{a k:Int}{p:Pat} (hs:zaw w n ⟨a,k⟩ p=true) (hn:n<=1000) (ht:TyIn w.length ⟨a,k⟩) (hok:p.ok) (hb:p.size<=1000000000000):
  FnD Tryz.prog 225 [.nils,.d (zam w),.agg [.d (.i a),.d (.i k)],.agg [.d (.i p.op),.d (.i p.ctor),.d (.i p.n),.d (.i p.m),.d (.i p.var),.d (zae p.kids)]] [] (.d (zcM (zaM w n ⟨a,k⟩ p))) []:=by
 have h:=zfD hw n (xs:=[]) hs hn ht hok (by simp only[xai];omega);exact FnD.nilTok (by simp[AV.idsL,AV.ids]) h
theorem zpH {l:List Vt}{i:Nat} (h:i<l.length) (h2:¬zby l (nth l i).var=i):zoi l=false:=zdF h (by simpa using h2)
theorem zeG {w:List Data} (hw:WT w):∀(n:Nat){a k:Int}{p:Pat},zaw w n ⟨a,k⟩ p=true->n<=1000->TyIn w.length ⟨a,k⟩->p.ok->p.size<=1000000000000->
  FnD Tryz.prog 298 [.d (zam w),.agg [.d (.i a),.d (.i k)],.agg [.d (.i p.op),.d (.i p.ctor),.d (.i p.n),.d (.i p.m),.d (.i p.var),.d (zae p.kids)]] [] (.d (.bool (linP w n ⟨a,k⟩ p))) []
 |0,a,k,p,hs,_,_,_,_=>by simp[zaw] at hs
 |n+1,a,k,p,hs,hn,ht,hok,hb=>by
  have hok':=hok;rw[Pat.ok_iff] at hok;have hb':=hb;rw[Pat.size_eq] at hb';obtain⟨ho,hl⟩:=zbK hs;have hin:=zf1 hw ht ho;have hlen:=zgx hw ht (zcg ho);have hvl:=zd2 w (n+1) ⟨a,k⟩ p;have hsz:∀i,i<p.kids.length->(nth p.kids i).size<=1000000000000:=fun i hi=>by have:=zeO hi;omega
  by_cases hop5:p.op=5
  ·have e1:zai w ⟨a,k⟩ p=[⟨a,k⟩,⟨a,k⟩]:=by unfold zai;rw[if_neg (by omega),if_pos hop5]
   have hl2:p.kids.length=2:=by rw[hl,e1];rfl
   have s0:zaw w n ⟨a,k⟩ (nth p.kids 0)=true:=by have:=zbJ hs (i:=0) (by omega);rw[e1] at this;exact this
   have s1:zaw w n ⟨a,k⟩ (nth p.kids 1)=true:=by have:=zbJ hs (i:=1) (by omega);rw[e1] at this;exact this
   have v0:=zd2 w n ⟨a,k⟩ (nth p.kids 0);have v1:=zd2 w n ⟨a,k⟩ (nth p.kids 1);have z0:=hsz 0 (by omega);have z1:=hsz 1 (by omega);refine bd Tryz.f298 70 [] [] fun w0 F0 own kept hk=>?_;refine bx 3004 ?_;refine bx 3005 ?_;refine ev ?_;refine wc zi6 (zc2 hw ht (zcg ho)) rfl rfl ?_;refine ev ?_;refine xam (ι:=Nat) hk (fun i=>[(8,.d (.i (i:Int)))]) [6,15,16,17,18,19,20,21,22,23,24,25,26,27,28,29,30,31,32] (fun i=>[]) (fun i=>i<=(zai w ⟨a,k⟩ p).length/\∀i',i'<i->linP w n (nth (zai w ⟨a,k⟩ p) i') (nth p.kids i')=true) (fun i=>(zai w ⟨a,k⟩ p).length-i) 0 ⟨by omega,fun _ h=>absurd h (by omega)⟩ ⟨⟨_,rfl,xaz ?_⟩,trivial⟩ trivial (fun x=>rfl) (fun i hg1=>?_);focus (first|rfl|(simp;done))
   refine evc [] [] ?_;refine sq ?_ ?_<;>intro h1 h1p h1s<;>(try simp only[Q,Pat.cs_len] at h1p);refine xaS za4 .none rfl rfl rfl rfl (zax (by omega)) rfl ?_;refine evd [] [] ?_;refine xaS sl34 .none rfl rfl rfl rfl (zaH (by omega)) rfl ?_;refine evd [] [] ?_;refine wc zlr (zeG hw n (zbJ hs (by omega)) (by omega) (hin _ (zal (by omega))) (Pats.ok_mem hok.2 _ (zal (by omega))) (hsz _ (by omega))) rfl rfl ?_;refine evd [] [] ?_;refine dr ?_;refine sq ?_ ?_<;>intro h2 h2p h2s<;>(try simp only[Q,Pat.cs_len] at h2p);refine rq ?_;rotate_left;refine ar ?_;refine xah (i+1) ⟨⟨by omega,zaV hg1.2 (by assumption)⟩,(by omega),sx ⟨⟨_,rfl,xaz ?_⟩,trivial⟩ trivial⟩;focus (first|rfl|(simp;done))
   refine sq ?_ ?_<;>intro h3 h3p h3s<;>(try simp only[Q,Pat.cs_len] at h3p);refine xaS (i:=0) sl34 .none rfl rfl rfl rfl (zaH (by omega)) rfl ?_;refine evd [] [] ?_;refine wc zhI (zdL hw s0 (by omega) ht (Pats.ok_mem hok.2 _ (zal (by omega))) z0) rfl rfl ?_;refine evd [] [] ?_;refine xaS (i:=1) sl34 .none rfl rfl rfl rfl (zaH (by omega)) rfl ?_;refine evd [] [] ?_;refine wc zhI (zdL hw s1 (by omega) ht (Pats.ok_mem hok.2 _ (zal (by omega))) z1) rfl rfl ?_;refine wc zuA (zmo (by omega) (by omega)) rfl rfl ?_;refine evd [] [] ?_;refine dr ?_;refine rq ?_;rotate_left;exfalso;simp_all;all_goals (refine congrArg D.bool ?_;unfold linP;rw[if_pos hop5];first|(rw[zcb (by omega) (fun x hx=>hg1.2 x (by omega)),Bool.true_and])|(rw[zbH (i:=i) (by omega) (by omega) (by assumption),Bool.false_and]))
  ·skip
   refine bd Tryz.f298 70 [] [] fun w0 F0 own kept hk=>?_;refine bx 3004 ?_;refine bx 3005 ?_;refine ev ?_;refine wc zi6 (zc2 hw ht (zcg ho)) rfl rfl ?_;refine ev ?_;refine xam (ι:=Nat) hk (fun i=>[(8,.d (.i (i:Int)))]) [6,15,16,17,18,19,20,21,22,23,24,25,26,27,28,29,30,31,32] (fun i=>[]) (fun i=>i<=(zai w ⟨a,k⟩ p).length/\∀i',i'<i->linP w n (nth (zai w ⟨a,k⟩ p) i') (nth p.kids i')=true) (fun i=>(zai w ⟨a,k⟩ p).length-i) 0 ⟨by omega,fun _ h=>absurd h (by omega)⟩ ⟨⟨_,rfl,xaz ?_⟩,trivial⟩ trivial (fun x=>rfl) (fun i hg1=>?_);focus (first|rfl|(simp;done))
   refine evc [] [] ?_;refine sq ?_ ?_<;>intro h1 h1p h1s<;>(try simp only[Q,Pat.cs_len] at h1p);refine xaS za4 .none rfl rfl rfl rfl (zax (by omega)) rfl ?_;refine evd [] [] ?_;refine xaS sl34 .none rfl rfl rfl rfl (zaH (by omega)) rfl ?_;refine evd [] [] ?_;refine wc zlr (zeG hw n (zbJ hs (by omega)) (by omega) (hin _ (zal (by omega))) (Pats.ok_mem hok.2 _ (zal (by omega))) (hsz _ (by omega))) rfl rfl ?_;refine evd [] [] ?_;refine dr ?_;refine sq ?_ ?_<;>intro h2 h2p h2s<;>(try simp only[Q,Pat.cs_len] at h2p);refine rq ?_;rotate_left;refine ar ?_;refine xah (i+1) ⟨⟨by omega,zaV hg1.2 (by assumption)⟩,(by omega),sx ⟨⟨_,rfl,xaz ?_⟩,trivial⟩ trivial⟩;focus (first|rfl|(simp;done))
   refine sq ?_ ?_<;>intro h3 h3p h3s<;>(try simp only[Q,Pat.cs_len] at h3p);exfalso;simp_all;refine wc zhI (zdL hw hs hn ht hok' hb) rfl rfl ?_;refine ev ?_;refine xam (ι:=Nat) hk (fun j=>[(10,.d (.i (j:Int)))]) [6,55,56,57,58,59,60,61,62,63,64,65,66,67,68,69] (fun j=>[]) (fun j=>j<=(zaM w (n+1) ⟨a,k⟩ p).length/\∀j',j'<j->zby (zaM w (n+1) ⟨a,k⟩ p) (nth (zaM w (n+1) ⟨a,k⟩ p) j').var=(j':Int)) (fun j=>(zaM w (n+1) ⟨a,k⟩ p).length-j) 0 ⟨by omega,fun _ h=>absurd h (by omega)⟩ ⟨⟨_,rfl,xaz ?_⟩,trivial⟩ trivial (fun x=>rfl) (fun j hg2=>?_);focus (first|rfl|(simp;done))
   refine evc [] [] ?_;refine sq ?_ ?_<;>intro h4 h4p h4s<;>(try simp only[Q,Pat.cs_len] at h4p);refine xaS zdc .none rfl rfl rfl rfl (zax (by omega)) rfl ?_;refine ev ?_;refine wc zoM (zfC (by omega)) rfl rfl ?_;refine ev ?_;refine sq ?_ ?_<;>intro h5 h5p h5s<;>(try simp only[Q,Pat.cs_len] at h5p);refine rq ?_;rotate_left;refine ar ?_;refine xah (j+1) ⟨⟨by omega,zaV hg2.2 (by omega)⟩,(by omega),sx ⟨⟨_,rfl,xaz ?_⟩,trivial⟩ trivial⟩;focus (first|rfl|(simp;done))
   refine rq ?_;rotate_left;all_goals (refine congrArg D.bool ?_;unfold linP;rw[if_neg hop5];first|(rw[zbH (i:=i) (by omega) (by omega) (by assumption),Bool.false_and];done)|(rw[zcb (by omega) (fun x hx=>hg1.2 x (by omega)),Bool.true_and];first|(rw[zpH (i:=j) (by omega) (by omega)];done)|(symm;exact zd4 (fun x hx=>decide_eq_true (hg2.2 x (by omega))))))
def isP (w:List Data) (t:Ty) (p:Pat):Bool:=zaw w 10 t p&&(decide ((p.size:Int)<=60)&&linP w 10 t p)
theorem zfh {w:List Data} (hw:WT w){a k:Int}{p:Pat} (ht:TyIn w.length ⟨a,k⟩) (hok:p.ok) (hb:p.size<=1000000000000):
  FnD Tryz.prog 223 [.d (zam w),.agg [.d (.i a),.d (.i k)],.agg [.d (.i p.op),.d (.i p.ctor),.d (.i p.n),.d (.i p.m),.d (.i p.var),.d (zae p.kids)]] [] (.d (.bool (isP w ⟨a,k⟩ p))) []:=by
 have hc:=zoP p 60;by_cases hs:zaw w 10 ⟨a,k⟩ p=true
 ·skip
  refine bd Tryz.f223 22 [] [1] fun w0 F0 own kept hk=>?_;refine bx 3004 ?_;refine bx 3005 ?_;refine ev ?_;refine xaq ?_;refine xaD 9 [(15,.d (.bool (decide ((p.size:Int)<=60))))] [7,8,9,10,11,12,13,14] ?_ ?_;refine ev ?_;refine wc zoK (zfi hw 10 (by omega) (by omega) ht hok) rfl rfl ?_;refine ev ?_;refine sq ?_ ?_<;>intro h1 h1p h1s;refine Walk.call (cr:=[]) zoL (zfg _ (Nat.le_refl _) hb hok (by omega) (by omega)) rfl (.some rfl rfl h1) rfl rfl (LeL.refl _) trivial rfl rfl rfl ?_;refine evs [] [(11,true)] ?_ ⟨⟨_,rfl,h1⟩,trivial⟩;exact jnb rfl;exact jnb rfl;refine xaC ?_;refine ev ?_;refine sq ?_ ?_<;>intro h2 h2p h2s;refine Walk.call (cr:=[]) zlr (zeG hw 10 hs (by omega) ht hok hb) rfl (.some rfl rfl h2) rfl rfl (LeL.refl _) trivial rfl rfl rfl ?_;refine evs [] [(16,true)] ?_ ⟨⟨_,rfl,h2⟩,trivial⟩;refine rq ?_;rotate_left;refine rq ?_;rotate_left;all_goals (refine congrArg D.bool ?_;unfold isP;simp only[hs,Bool.true_and];first|(simp_all;done)|(simp_all;intro;omega))
 ·have hs':zaw w 10 ⟨a,k⟩ p=false:=by simpa using hs
  refine bd Tryz.f223 22 [] [1] fun w0 F0 own kept hk=>?_;refine bx 3004 ?_;refine bx 3005 ?_;refine ev ?_;refine xaq ?_;refine xaD 9 [(15,.d (.bool (false)))] [7,8,9,10,11,12,13,14] ?_ ?_;refine ev ?_;refine wc zoK (zfi hw 10 (by omega) (by omega) ht hok) rfl rfl ?_;refine ev ?_;refine sq ?_ ?_<;>intro h1 h1p h1s;refine Walk.call (cr:=[]) zoL (zfg _ (Nat.le_refl _) hb hok (by omega) (by omega)) rfl (.some rfl rfl h1) rfl rfl (LeL.refl _) trivial rfl rfl rfl ?_;refine evs [] [(11,true)] ?_ ⟨⟨_,rfl,h1⟩,trivial⟩;exact jnb rfl;exact jnb rfl;refine xaC ?_;refine ev ?_;refine sq ?_ ?_<;>intro h2 h2p h2s;refine Walk.call (cr:=[]) zlr (show FnD Tryz.prog 298 [.d (zam w),.agg [.d (.i a),.d (.i k)],.agg [.d (.i p.op),.d (.i p.ctor),.d (.i p.n),.d (.i p.m),.d (.i p.var),.d (zae p.kids)]] [] (.d (.bool true)) [] from absurd (by assumption:(false:Bool)=true) (by simp)) rfl (.some rfl rfl h2) rfl rfl (LeL.refl _) trivial rfl rfl rfl ?_;refine evs [] [(16,true)] ?_ ⟨⟨_,rfl,h2⟩,trivial⟩;refine rq ?_;rotate_left;refine rq ?_;rotate_left;all_goals (refine congrArg D.bool ?_;unfold isP;simp_all)
end Go.Proofs.YtlfipehhbdjnjaaGreat
namespace Go.Proofs.YtlfipehhbdjnjaaGreat
open Go
set_option linter.unusedSimpArgs false
set_option linter.unusedVariables false
def tyS (s:Nat):Ty:=⟨((s / 4:Nat):Int),((s % 4:Nat):Int)⟩
def zcF (t:Ty):Nat:=t.data.toNat*4+t.index.toNat
def dv (f:Nat->Nat) (t:Ty):Nat:=if t.data = -1 then 1 else f (zcF t)
def zbP (f:Nat->Nat):Nat->List Ty->Nat
 |m,[]=>m+1
 |m,t::r=>if dv f t=0 then 0 else zbP f (max m (dv f t)) r
def most (w:List Data) (f:Nat->Nat) (t:Ty) (c:Int):Nat:=zbP f 0 (zak w t c)
def updF (f:Nat->Nat) (s n:Nat):Nat->Nat:=fun i=>if i=s then n else f i
def zbA (w:List Data) (s:Nat) (f:Nat->Nat) (c:Int):Nat->Nat:=
 if 0<most w f (tyS s) c/\(f s=0\/most w f (tyS s) c<f s) then updF f s (most w f (tyS s) c) else f
def zde (w:List Data) (f:Nat->Nat) (s:Nat):Nat->Nat:=(zba w (tyS s)).foldl (zbA w s) f
def zgw (w:List Data) (f:Nat->Nat):Nat->Nat:=(List.range (w.length*4)).foldl (zde w) f
def zbb (w:List Data):Nat->Nat->Nat
 |0=>fun _=>0
 |k+1=>zgw w (zbb w k)
def zaI (w:List Data):Nat->Nat:=zbb w (w.length*4+1)
def Hd (w:List Data):Nat->Ty->Prop
 |0,_=>False
 |d+1,t=>t.data = -1\/∃c∈zba w t,t.data≠ -1/\∀u∈zak w t c,Hd w d u
def InS (n:Nat) (u:Ty):Prop:=u.data = -1\/(zcF u<n/\tyS (zcF u)=u)
def ClosedT (w:List Data):Prop:=∀s,s<w.length*4->∀c∈zba w (tyS s),∀u∈zak w (tyS s) c,InS (w.length*4) u
theorem zlb (s:Nat):(tyS s).data≠ -1:=by simp only[tyS];omega
theorem Hd_mono (w:List Data):∀(d:Nat) (t:Ty),Hd w d t->Hd w (d+1) t
 |0,_,h=>h.elim
 |d+1,t,h=>by
  rcases h with h|⟨c,hc,h1,h⟩
  ·exact .inl h
  ·exact .inr ⟨c,hc,h1,fun u hu=>Hd_mono w d u (h u hu)⟩
theorem Hd_le {w:List Data}{d e:Nat}{t:Ty} (h:d<=e) (hd:Hd w d t):Hd w e t:=by
 induction h with
 |refl=>exact hd
 |step _ ih=>exact Hd_mono w _ t ih
section
variable {w:List Data}
def Bet (f g:Nat->Nat):Prop:=∀s,0<f s->0<g s/\g s<=f s
def Snd (w:List Data) (f:Nat->Nat):Prop:=∀s,s<w.length*4->0<f s->Hd w (f s) (tyS s)
def Cmp (w:List Data) (k:Nat) (f:Nat->Nat):Prop:=∀s,s<w.length*4->∀d,d<=k->Hd w d (tyS s)->0<f s/\f s<=d
theorem Bet.refl (f:Nat->Nat):Bet f f:=fun s h=>⟨h,Nat.le_refl _⟩
theorem Bet.trans {f g h:Nat->Nat} (a:Bet f g) (b:Bet g h):Bet f h:=fun s hs=>⟨(b s (a s hs).1).1,Nat.le_trans (b s (a s hs).1).2 (a s hs).2⟩
theorem Cmp.bet {k:Nat}{f g:Nat->Nat} (h:Cmp w k f) (b:Bet f g):Cmp w k g:=fun s hs d hd hh=>
 ⟨(b s (h s hs d hd hh).1).1,Nat.le_trans (b s (h s hs d hd hh).1).2 (h s hs d hd hh).2⟩
theorem znD {f:Nat->Nat}:∀ {l:List Ty}{m k:Nat},m<=k->(∀u∈l,0<dv f u/\dv f u<=k)->0<zbP f m l/\zbP f m l<=k+1
 | [],m,k,hm,_=>by simp only[zbP];omega
 |t::r,m,k,hm,h=>by
  have h1:=h t (by simp);simp only[zbP];rw[if_neg (by omega)];exact znD (by omega) (fun u hu=>h u (by simp[hu]))
theorem znE {f:Nat->Nat}:∀ {l:List Ty}{m:Nat},0<zbP f m l->m<zbP f m l/\∀u∈l,0<dv f u/\dv f u<zbP f m l
 | [],m,_=>⟨by simp only[zbP];omega,fun u hu=>by simp at hu⟩
 |t::r,m,h=>by
  simp only[zbP] at h ⊢;by_cases h0:dv f t=0
  ·rw[if_pos h0] at h;omega
  ·rw[if_neg h0] at h ⊢;obtain⟨h1,h2⟩:=znE h;refine⟨by omega,fun u hu=>?_⟩;rcases List.mem_cons.1 hu with rfl|hu
   ·omega
   ·exact h2 u hu
theorem zs6 {f:Nat->Nat} (hs:Snd w f){u:Ty} (hu:InS (w.length*4) u) (h:0<dv f u):Hd w (dv f u) u:=by
 unfold dv at h ⊢;split
 ·rename_i he;exact .inl he
 ·rename_i he;rw[if_neg he] at h;rcases hu with hu|⟨h1,h2⟩
  ·exact absurd hu he
  ·have:=hs _ h1 h;rwa [h2] at this
theorem zrE {k:Nat}{f:Nat->Nat} (hc:Cmp w k f){u:Ty} (hu:InS (w.length*4) u) (h:Hd w k u):0<dv f u/\dv f u<=k:=by
 unfold dv;split
 ·cases k with
  |zero=>exact h.elim
  |succ k=>omega
 ·rename_i he;rcases hu with hu|⟨h1,h2⟩
  ·exact absurd hu he
  ·exact hc _ h1 k (Nat.le_refl _) (by rw[h2];exact h)
theorem zjF {s:Nat}{f:Nat->Nat}{c:Int}:Bet f (zbA w s f c):=by
 intro i hi;unfold zbA;split
 ·rename_i h;unfold updF;split
  ·subst i;omega
  ·omega
 ·omega
theorem zrY (hcl:ClosedT w){s:Nat}{f:Nat->Nat}{c:Int} (hs:s<w.length*4) (hc:c∈zba w (tyS s)) (h:Snd w f):Snd w (zbA w s f c):=by
 unfold zbA;split
 ·rename_i hn;intro i hi h0;unfold updF at h0 ⊢;by_cases he:i=s
  ·subst he;rw[if_pos rfl] at h0 ⊢;obtain⟨h1,h2⟩:=znE (m:=0) hn.1;obtain⟨n,hn'⟩:∃n,most w f (tyS i) c=n+1:=⟨most w f (tyS i) c-1,by omega⟩;rw[hn'];refine .inr ⟨c,hc,zlb _,fun u hu=>?_⟩;have h3:=h2 u hu;have h4:zbP f 0 (zak w (tyS i) c)=n+1:=hn';exact Hd_le (by omega) (zs6 h (hcl i hi c hc u hu) h3.1)
  ·rw[if_neg he] at h0 ⊢;exact h i hi h0
 ·exact h
theorem zrW (hcl:ClosedT w){s k:Nat}{f:Nat->Nat}{c:Int} (hs:s<w.length*4) (hc:c∈zba w (tyS s)) (h:Cmp w k f) (hh:∀u∈zak w (tyS s) c,Hd w k u):
  0<zbA w s f c s/\zbA w s f c s<=k+1:=by
 have hm:=znD (f:=f) (m:=0) (k:=k) (by omega) (fun u hu=>zrE h (hcl s hs c hc u hu) (hh u hu));have hm':0<most w f (tyS s) c/\most w f (tyS s) c<=k+1:=hm;unfold zbA;split
 ·unfold updF;rw[if_pos rfl];exact hm'
 ·rename_i hn;have:¬(f s=0\/most w f (tyS s) c<f s):=fun h2=>hn ⟨hm'.1,h2⟩;omega
theorem zqf (hcl:ClosedT w){s k:Nat} (hs:s<w.length*4):∀(C:List Int) (f:Nat->Nat),(∀c∈C,c∈zba w (tyS s))->Snd w f->Cmp w k f->
  Bet f (C.foldl (zbA w s) f)/\Snd w (C.foldl (zbA w s) f)/\∀c∈C,(∀u∈zak w (tyS s) c,Hd w k u)->0<C.foldl (zbA w s) f s/\C.foldl (zbA w s) f s<=k+1
 | [],f,_,h1,_=>⟨Bet.refl f,h1,fun c hc=>by simp at hc⟩
 |c::r,f,hC,h1,h2=>by
  have hc:=hC c (by simp);obtain⟨g1,g2,g3⟩:=zqf hcl hs r (zbA w s f c) (fun x hx=>hC x (by simp[hx])) (zrY hcl hs hc h1) (h2.bet zjF);refine⟨zjF.trans g1,g2,fun x hx hh=>?_⟩;rcases List.mem_cons.1 hx with rfl|hx
  ·obtain⟨q1,q2⟩:=zrW hcl hs hc h2 hh;exact⟨(g1 s q1).1,Nat.le_trans (g1 s q1).2 q2⟩
  ·exact g3 x hx hh
theorem zsG (hcl:ClosedT w){s k:Nat} (hs:s<w.length*4){f:Nat->Nat} (h1:Snd w f) (h2:Cmp w k f):
  Bet f (zde w f s)/\Snd w (zde w f s)/\∀d,d<=k+1->Hd w d (tyS s)->0<zde w f s s/\zde w f s s<=d:=by
 obtain⟨g1,g2,g3⟩:=zqf hcl hs (zba w (tyS s)) f (fun c hc=>hc) h1 h2;refine⟨g1,g2,fun d hd hh=>?_⟩;rcases Nat.lt_or_ge d (k+1) with h|h
 ·have:=h2 s hs d (by omega) hh;exact⟨(g1 s this.1).1,Nat.le_trans (g1 s this.1).2 this.2⟩
 ·obtain rfl:d=k+1:=by omega
  rcases hh with hh|⟨c,hc,_,hh⟩
  ·exact absurd hh (zlb s)
  ·exact g3 c hc hh
theorem znO (hcl:ClosedT w){k:Nat}:∀(L:List Nat) (f:Nat->Nat),(∀s∈L,s<w.length*4)->Snd w f->Cmp w k f->
  Bet f (L.foldl (zde w) f)/\Snd w (L.foldl (zde w) f)/\∀s∈L,∀d,d<=k+1->Hd w d (tyS s)->0<L.foldl (zde w) f s/\L.foldl (zde w) f s<=d
 | [],f,_,h1,_=>⟨Bet.refl f,h1,fun s hs=>by simp at hs⟩
 |s::r,f,hL,h1,h2=>by
  obtain⟨p1,p2,p3⟩:=zsG hcl (hL s (by simp)) h1 h2;obtain⟨g1,g2,g3⟩:=znO hcl r (zde w f s) (fun x hx=>hL x (by simp[hx])) p2 (h2.bet p1);refine⟨p1.trans g1,g2,fun x hx d hd hh=>?_⟩;rcases List.mem_cons.1 hx with rfl|hx
  ·have:=p3 d hd hh;exact⟨(g1 x this.1).1,Nat.le_trans (g1 x this.1).2 this.2⟩
  ·exact g3 x hx d hd hh
theorem zr4 (hcl:ClosedT w){k:Nat}{f:Nat->Nat} (h1:Snd w f) (h2:Cmp w k f):Bet f (zgw w f)/\Snd w (zgw w f)/\Cmp w (k+1) (zgw w f):=by
 obtain⟨g1,g2,g3⟩:=znO hcl (List.range (w.length*4)) f (fun s hs=>List.mem_range.1 hs) h1 h2;exact⟨g1,g2,fun s hs d hd hh=>g3 s (List.mem_range.2 hs) d hd hh⟩
theorem zfw (hcl:ClosedT w):∀k,Snd w (zbb w k)/\Cmp w k (zbb w k)
 |0=>⟨fun s _ h=>absurd h (by simp[zbb]),fun s _ d hd hh=>by
   obtain rfl:d=0:=by omega
   exact hh.elim⟩
 |k+1=>(zr4 hcl (zfw hcl k).1 (zfw hcl k).2).2
theorem znw (hcl:ClosedT w){d:Nat} (h1:1<=d) (h:∀s,s<w.length*4->Hd w (d+1) (tyS s)->Hd w d (tyS s)):∀e s,s<w.length*4->Hd w e (tyS s)->Hd w d (tyS s)
 |0,s,_,hh=>hh.elim
 |e+1,s,hs,hh=>by
  refine h s hs ?_;rcases hh with hh|⟨c,hc,h2,hh⟩
  ·exact .inl hh
  ·refine .inr ⟨c,hc,h2,fun u hu=>?_⟩;rcases hcl s hs c hc u hu with hi|⟨q1,q2⟩
   ·cases d with
    |zero=>omega
    |succ d=>exact .inl hi
   ·have:=znw hcl h1 h e _ q1 (by rw[q2];exact hh u hu);rwa [q2] at this
open Classical in
noncomputable def cntH (w:List Data) (d:Nat):Nat:=(List.range (w.length*4)).countP (fun s=>decide (Hd w d (tyS s)))
theorem znl {p q:Nat->Bool}:∀ {l:List Nat},(∀x∈l,p x=true->q x=true)->(∃x∈l,p x=false/\q x=true)->l.countP p<l.countP q
 | [],_,h=>by obtain⟨x,hx,_⟩:=h;simp at hx
 |y::r,hpq,h=>by
  have hle:r.countP p<=r.countP q:=List.countP_mono_left (fun x hx hp=>hpq x (by simp[hx]) hp);rw[List.countP_cons,List.countP_cons];obtain⟨x,hx,h1,h2⟩:=h;rcases List.mem_cons.1 hx with rfl|hx
  ·rw[h1,h2];simp only[Bool.false_eq_true,if_false,if_true];omega
  ·have:=znl (fun x hx hp=>hpq x (by simp[hx]) hp) ⟨x,hx,h1,h2⟩;have h3:=hpq y (by simp);cases hp:p y with
   |false=>simp only[Bool.false_eq_true,if_false];omega
   |true=>rw[h3 hp];simp only[if_true];omega
open Classical in
theorem zuH {d:Nat} (h:¬ ∀s,s<w.length*4->Hd w (d+1) (tyS s)->Hd w d (tyS s)):cntH w d<cntH w (d+1):=by
 have h2:∃s,s<w.length*4/\Hd w (d+1) (tyS s)/\¬Hd w d (tyS s):=by
  refine Classical.byContradiction fun hn=>h fun s hs hh=>Classical.byContradiction fun hd=>hn ⟨s,hs,hh,hd⟩
 obtain⟨s,hs,h3,h4⟩:=h2;unfold cntH;exact znl (fun x _ hx=>by rw[decide_eq_true_eq] at hx ⊢;exact Hd_mono w d _ hx) ⟨s,List.mem_range.2 hs,by simp[h4],by simp[h3]⟩
theorem zrA:∀m,(∀d,1<=d->d<=m->¬ ∀s,s<w.length*4->Hd w (d+1) (tyS s)->Hd w d (tyS s))->m<=cntH w (m+1)
 |0,_=>Nat.zero_le _
 |m+1,h=>by
  have:=zrA m (fun d h1 h2=>h d h1 (by omega));have:=zuH (w:=w) (d:=m+1) (h (m+1) (by omega) (by omega));omega
theorem zo0 (hcl:ClosedT w){e s:Nat} (hs:s<w.length*4) (h:Hd w e (tyS s)):Hd w (w.length*4+1) (tyS s):=by
 have hex:∃d,1<=d/\d<=w.length*4+1/\∀s,s<w.length*4->Hd w (d+1) (tyS s)->Hd w d (tyS s):=by
  refine Classical.byContradiction fun hn=>?_;have h1:=zrA (w:=w) (w.length*4+1) (fun d h1 h2 h3=>hn ⟨d,h1,h2,h3⟩);have h2:cntH w (w.length*4+1+1)<=(List.range (w.length*4)).length:=List.countP_le_length;rw[List.length_range] at h2;omega
 obtain⟨d,h1,h2,h3⟩:=hex;exact Hd_le h2 (znw hcl h1 h3 e s hs h)
theorem zrX {s i:Nat}{f:Nat->Nat}{c:Int} (h:i≠s):zbA w s f c i=f i:=by
 unfold zbA;split
 ·unfold updF;rw[if_neg h]
 ·rfl
theorem zqg {s i:Nat} (h:i≠s):∀(C:List Int) (f:Nat->Nat),C.foldl (zbA w s) f i=f i
 | [],_=>rfl
 |c::r,f=>by rw[List.foldl_cons,zqg h r,zrX h]
theorem znQ {i:Nat}:∀(L:List Nat) (f:Nat->Nat),i∉L->L.foldl (zde w) f i=f i
 | [],_,_=>rfl
 |s::r,f,h=>by
  simp only[List.mem_cons,not_or] at h;rw[List.foldl_cons,znQ r _ h.2];exact zqg h.1 _ _
theorem zkT {i:Nat} (h:w.length*4<=i):∀k,zbb w k i=0
 |0=>rfl
 |k+1=>by
  show zgw w (zbb w k) i=0
  unfold zgw;rw[znQ _ _ (by simp;omega),zkT h k]
theorem zmP (hcl:ClosedT w){k:Nat} (hk:w.length*4+1<=k):zbb w k=zaI w:=by
 have key:∀a b,w.length*4+1<=a->w.length*4+1<=b->∀s,s<w.length*4->0<zbb w a s->0<zbb w b s/\zbb w b s<=zbb w a s:=by
  intro a b ha hb s hs h0;have h1:=(zfw hcl a).1 s hs h0;have h2:=zo0 hcl hs h1;have h3:=(zfw hcl a).2 s hs _ ha h2;exact(zfw hcl b).2 s hs _ (by omega) h1
 funext s
 rcases Nat.lt_or_ge s (w.length*4) with hs|hs
 ·have h1:=key k (w.length*4+1) hk (Nat.le_refl _) s hs;have h2:=key (w.length*4+1) k (Nat.le_refl _) hk s hs;show zbb w k s=zbb w (w.length*4+1) s
  omega
 ·show zbb w k s=zbb w (w.length*4+1) s
  rw[zkT hs,zkT hs]
theorem zsr (hcl:ClosedT w){k:Nat} (h:zbb w (k+1)=zbb w k):zbb w k=zaI w:=by
 have:∀j,zbb w (k+j)=zbb w k:=by
  intro j;induction j with
  |zero=>rfl
  |succ j ih=>
   show zgw w (zbb w (k+j))=zbb w k
   rw[ih];exact h
 rw[<-this (w.length*4+1)];exact zmP hcl (by omega)
def Strict (f g:Nat->Nat):Prop:=∃s,0<g s/\(f s=0\/g s<f s)
theorem Strict.bet {f g h:Nat->Nat} (a:Strict f g) (b:Bet g h):Strict f h:=by
 obtain⟨s,h1,h2⟩:=a;have:=b s h1;exact⟨s,this.1,by omega⟩
theorem Strict.ne {f g:Nat->Nat} (a:Strict f g):f≠g:=by
 rintro rfl
 obtain⟨s,h1,h2⟩:=a;omega
theorem zm0 {s:Nat}:∀(C:List Int) (f:Nat->Nat),Bet f (C.foldl (zbA w s) f)
 | [],f=>Bet.refl f
 |c::r,f=>zjF.trans (zm0 r _)
theorem znP:∀(L:List Nat) (f:Nat->Nat),Bet f (L.foldl (zde w) f)
 | [],f=>Bet.refl f
 |s::r,f=>(zm0 _ _).trans (znP r _)
theorem zpb {f:Nat->Nat}{b:Nat} (hb:∀s,f s<=b) (h1:1<=b):∀ {l:List Ty}{m:Nat},m<=b->zbP f m l<=b+1
 | [],m,hm=>by simp only[zbP];omega
 |t::r,m,hm=>by
  simp only[zbP];split
  ·omega
  ·refine zpb hb h1 ?_;have:dv f t<=b:=by
    unfold dv;split
    ·exact h1
    ·exact hb _
   omega
theorem zsA {s:Nat}{f:Nat->Nat}{c:Int}{b:Nat} (hb:∀s,f s<=b) (h1:1<=b):∀i,zbA w s f c i<=b+1:=by
 intro i;unfold zbA;split
 ·unfold updF;split
  ·exact zpb hb h1 (Nat.zero_le _)
  ·have:=hb i;omega
 ·have:=hb i;omega
theorem zpk {s:Nat}:∀(C:List Int) (f:Nat->Nat) (b:Nat),(∀s,f s<=b)->1<=b->∀i,C.foldl (zbA w s) f i<=b+C.length
 | [],f,b,hb,_,i=>by have:=hb i;simpa using this
 |c::r,f,b,hb,h1,i=>by
  have:=zpk (s:=s) r (zbA w s f c) (b+1) (zsA hb h1) (by omega) i;rw[List.foldl_cons,xab];omega
theorem zk9 {m:Nat}:∀(L:List Nat) (f:Nat->Nat) (b:Nat),(∀s∈L,(zba w (tyS s)).length<=m)->(∀s,f s<=b)->1<=b->∀i,L.foldl (zde w) f i<=b+L.length*m
 | [],f,b,_,hb,_,i=>by have:=hb i;simpa using this
 |s::r,f,b,hm,hb,h1,i=>by
  have h2:=zpk (w:=w) (s:=s) (zba w (tyS s)) f b hb h1;have h3:=hm s (by simp);have:=zk9 r (zde w f s) (b+m) (fun x hx=>hm x (by simp[hx])) (fun j=>by have:=h2 j;show _<=_;unfold zde;omega) (by omega) i;rw[List.foldl_cons,xab,Nat.add_mul];omega
theorem zp5 {m:Nat} (hm:∀s,s<w.length*4->(zba w (tyS s)).length<=m):∀k i,zbb w k i<=1+k*(w.length*4*m)
 |0,i=>by simp[zbb]
 |k+1,i=>by
  have:=zk9 (w:=w) (m:=m) (List.range (w.length*4)) (zbb w k) (1+k*(w.length*4*m)) (fun s hs=>hm s (List.mem_range.1 hs)) (zp5 hm k) (by omega) i;show zgw w (zbb w k) i<=_
  unfold zgw;rw[List.length_range] at this;rw[Nat.add_mul];omega
end
end Go.Proofs.YtlfipehhbdjnjaaGreat
namespace Go.Proofs.YtlfipehhbdjnjaaGreat
open Go
set_option linter.unusedSimpArgs false
set_option linter.unusedVariables false
set_option maxRecDepth 100000
set_option maxHeartbeats 2000000
section
variable {c:Ctx}{all:Array Oper}{chk:List Rec->Prop}{os:List Oper}{recs:List Rec}{env:Env}{hp:Hp}{Q:St->Prop}
variable {d ty:Nat}{pos:String}{af:Array Edge}{g:Option (Nat×Bool)}{pg:List (Nat×AV)}
theorem Walk.buildZ {t n e m k:Nat}{zs:List AV} (ht:TyZ c.P t k zs) (ha:ArT c.P t n e m) (hg:GH all env g pg) (hd:Nat.blt d c.n=true)
  (hn:Walk c all chk os (zaq (pg++[]) [] [] ⟨some (d,.agg zs),[]⟩::recs) ⟨(d,.agg zs)::env,hp⟩ Q):
  Walk c all chk (⟨some d,.build t #[],ty,pos,af,g⟩::os) recs ⟨env,hp⟩ Q:=by
 refine xba hg hd (fun a G T w=>?_) hn;obtain⟨i,z,h1,h2,h3,h4⟩:=ht.inf;obtain⟨j,h5,h6⟩:=ha.inf;have hz:=zbQ (G:=G) (T:=T) (w:=w) h4;refine⟨.agg z.cells, ?_, ?_⟩
 ·have hb:c.P.built t []=some z.cells:=by
   unfold Program.built;simp only[h1,ha.und,h3,h5];rfl
  have:=run_build w t #[] z.cells hb;simp only[execOp,Sem.run_bind,Array.map_empty,this,Result.andThen_ok,Sem.run_pure]
 ·have hz':AllR G T w zs z.cells:=by simpa using hz
  exact .agg hz'.size hz'.rel
end
def tabC (n:Nat) (f:Nat->Nat):List AV:=(List.range n).map fun s=> .d (.i (f s:Int))
def tabD (n:Nat) (f:Nat->Nat):List D:=(List.range n).map fun s=> .i (f s:Int)
abbrev zdQ (n:Nat) (f:Nat->Nat):D:= .sl ((List.range n).map fun s=>[D.i (f s:Int)])
theorem zkg {n i s:Nat}{f:Nat->Nat} (h:s<n) (e:i=s):(tabC n f)[i]?=some (.d (.i (f s:Int))):=by
 subst e;simp[tabC,h]
theorem zsJ {n i s:Nat}{f:Nat->Nat} (h:s<n) (e:i=s):(tabD n f)[i]?=some (.i (f s:Int)):=by
 subst e;simp[tabD,h]
theorem zaD {n:Nat}{f:Nat->Nat}:AV.idsL (tabC n f)=[]:=by
 unfold tabC;induction List.range n with
 |nil=>rfl
 |cons x r ih=>rw[xae,AV.idsL,ih];rfl
theorem zsL:∀ {n:Nat}{f:Nat->Nat},toDL (tabC n f)=some (tabD n f):=by
 intro n f;unfold tabC tabD;have:=zla ((List.range n).map fun s=>D.i (f s:Int));rwa [List.map_map] at this
theorem zru {n:Nat}{f:Nat->Nat}:zb5 n 1 (tabC n f)=some ((List.range n).map fun s=>[D.i (f s:Int)]):=by
 have:=zdA (f:=fun s=>[D.i (f s:Int)]) (k:=1) (l:=List.range n) (fun _ _=>rfl);rw[List.length_range] at this;rw[<-this];congr 1
 unfold tabC;induction List.range n with
 |nil=>rfl
 |cons x r ih=>rw[xae,List.flatMap_cons,ih];rfl
theorem zp8 {v:AV}:∀ {cs:List AV}{i:Nat},i<cs.length->putC cs i [v]=some (cs.set i v)
 |x::r,0,_=>by cases r<;>rfl
 |x::r,i+1,h=>by
  have:=zp8 (v:=v) (cs:=r) (i:=i) (by simpa using h);simp only[putC,this,List.set_cons_succ]
theorem zqn {n i s v:Nat}{f:Nat->Nat}{x:Int} (h:s<n) (e:i=s) (ex:x=(v:Int)):putC (tabC n f) i [.d (.i x)]=some (tabC n (updF f s v)):=by
 subst e ex;rw[zp8 (by simp[tabC,h])];congr 1
 refine List.ext_getElem (by simp[tabC]) (fun j h1 h2=>?_);simp only[tabC,xac,List.length_range] at h2;rw[List.getElem_set];simp only[tabC,List.getElem_map,List.getElem_range,updF];by_cases hj:i=j
 ·subst hj;simp
 ·rw[if_neg hj,if_neg (fun h=>hj h.symm)]
theorem InS.facts {n:Nat}{a k:Int} (h:InS n ⟨a,k⟩) (ha:¬a = -1):zcF ⟨a,k⟩<n/\a*4+k=(zcF ⟨a,k⟩:Int)/\0<=a/\0<=k/\k<=3/\a<=n:=by
 rcases h with h|⟨h1,h2⟩
 ·exact absurd h ha
 ·have e1:=congrArg Ty.data h2;have e2:=congrArg Ty.index h2;simp only[tyS] at e1 e2;omega
theorem zly {f:Nat->Nat}{a k:Int} (ha:¬a = -1):dv f ⟨a,k⟩=f (zcF ⟨a,k⟩):=by unfold dv;rw[if_neg ha]
theorem zlz {f:Nat->Nat}{a k:Int} (ha:a = -1):dv f ⟨a,k⟩=1:=by unfold dv;rw[if_pos ha]
theorem zs5 {f:Nat->Nat}{b:Nat} (hb:∀s,f s<=b) (h1:1<=b) (t:Ty):dv f t<=b:=by
 unfold dv;split
 ·exact h1
 ·exact hb _
theorem zhZ {a k:Int} (ha:0<=a/\a<=1000) (hk:0<=k/\k<=1000):FnD Tryz.prog 318 [.agg [.d (.i a),.d (.i k)]] [] (.d (.i (a*4+k))) []:=by
 refine bd Tryz.f318 9 [] [] fun w0 F0 own kept hk=>?_;refine bx 3001 ?_;refine ev ?_;refine ar ?_;refine ar ?_;focus (refine rq ?_;all_goals ((simp[];done)))
theorem zmm {n:Nat}{f:Nat->Nat}{a k:Int} (h:InS n ⟨a,k⟩) (hn:n<=100):
  FnD Tryz.prog 251 [.ms 70 n,.agg [.d (.i a),.d (.i k)]] [(70,some (.box (tabC n f)))] (.d (.i (dv f ⟨a,k⟩))) []:=by
 have hs:=h.facts;refine bd Tryz.f251 13 [12] [] fun w0 F0 own kept hk=>?_;refine Walk.box (id:=3003) .none rfl rfl rfl (by first|rfl|(simp only[zaj,occH,occE,Res.ids,xag,List.nil_append,AV.idsL,AV.ids,zab,zaa,zac,zan,xae,List.map_nil,upC,zaD];rfl)) (by first|rfl|(simp only[zaj,occH,occE,Res.ids,xag,List.nil_append,AV.idsL,AV.ids,zab,zaa,zac,zan,xae,List.map_nil,upC,zaD];rfl)) (by first|rfl|(simp only[zaj,occH,occE,Res.ids,xag,List.nil_append,AV.idsL,AV.ids,zab,zaa,zac,zan,xae,List.map_nil,upC,zaD];rfl)) (by first|rfl|(simp only[zaj,occH,occE,Res.ids,xag,List.nil_append,AV.idsL,AV.ids,zab,zaa,zac,zan,xae,List.map_nil,upC,zaD];rfl)) ?_;refine evs [12] [] ?_;refine sq ?_ ?_<;>intro h1 h1p h1s<;>(try simp only[Q] at h1p);refine rn [] (r1 rfl) (.eqd ?_) ⟨rfl,rfl⟩ (SubH.get ⟨rfl,trivial⟩) (fun _ h=>h);rotate_left;refine Walk.call (cr:=[]) zrq (zhZ (by have:=hs h1p;omega) (by have:=hs h1p;omega)) rfl .none rfl rfl (LeL.refl _) trivial rfl (by first|rfl|(simp only[zas,List.all_cons,List.all_nil,zaC,zay,AV.idsL,AV.ids,zab,zaa,xae,List.map_nil,zaD];rfl)) (by first|rfl|(simp only[zaj,occH,occE,Res.ids,xag,List.nil_append,AV.idsL,AV.ids,zab,zaa,zac,zan,xae,List.map_nil,upC,zaD];rfl)) ?_;refine xaV (i:=zcF ⟨a,k⟩) sl29 .none rfl rfl rfl (hs h1p).2.1 ((hs h1p).1) ?_;refine xaY ty3 .none rfl rfl rfl ((zkg (hs h1p).1 (by omega))) ?_;refine evs [12] [] ?_;refine rn [] (r1 rfl) (.eqd ?_) ⟨rfl,rfl⟩ (SubH.get ⟨rfl,trivial⟩) (fun _ h=>h);rotate_left;all_goals (first|(rw[zlz (by assumption)];rfl)|(rw[zly (by assumption)]))
theorem zml {n:Nat}{f:Nat->Nat}{a k:Int} (h:InS n ⟨a,k⟩) (hn:n<=100):
  FnD Tryz.prog 251 [.d (zdQ n f),.agg [.d (.i a),.d (.i k)]] [] (.d (.i (dv f ⟨a,k⟩))) []:=by
 have hs:=h.facts;refine bd Tryz.f251 13 [] [] fun w0 F0 own kept hk=>?_;refine bx 3003 ?_;refine ev ?_;refine sq ?_ ?_<;>intro h1 h1p h1s<;>(try simp only[Q] at h1p);refine rq ?_;rotate_left;refine wc zrq (zhZ (by have:=hs h1p;omega) (by have:=hs h1p;omega)) rfl rfl ?_;refine xaS (i:=zcF ⟨a,k⟩) sl29 .none rfl rfl rfl (hs h1p).2.1 (by simp[(hs h1p).1];rfl) rfl ?_;refine ev ?_;refine rq ?_;rotate_left;all_goals (first|(rw[zlz (by assumption)];rfl)|(rw[zly (by assumption)]))
theorem zi0 {w:List Data} (hw:WT w){a k c:Int} (ht:TyIn w.length ⟨a,k⟩) (hc:c∈zaA w ⟨a,k⟩):(zak w ⟨a,k⟩ c).length<=1000000000000:=by
 obtain⟨d,rfl,h1,h2⟩:=zcI ht hc;exact zh4 hw h1 h2
theorem zm9 {w:List Data} (hw:WT w){n:Nat}{f:Nat->Nat}{a k c:Int} (ht:TyIn w.length ⟨a,k⟩) (hc:c∈zaA w ⟨a,k⟩) (hn:n<=100) (hb:∀s,f s<=100000) (hin:∀u∈zak w ⟨a,k⟩ c,InS n u):
  FnD Tryz.prog 227 [.d (zam w),.ms 70 n,.agg [.d (.i a),.d (.i k)],.d (.i c)] [(70,some (.box (tabC n f)))] (.d (.i (most w f ⟨a,k⟩ c))) []:=by
 have hl:=zi0 hw ht hc;have hd:=zs5 hb (by omega);refine bd Tryz.f227 37 [] [] fun w0 F0 own kept hk=>?_;refine Walk.box (id:=3006) .none rfl rfl rfl (by(simp only[zaj,occH,occE,Res.ids,xag,List.nil_append,AV.idsL,AV.ids,zab,zaa,zac,zan,xae,List.map_nil,upC,zaD];rfl)) (by(simp only[zaj,occH,occE,Res.ids,xag,List.nil_append,AV.idsL,AV.ids,zab,zaa,zac,zan,xae,List.map_nil,upC,zaD];rfl)) (by(simp only[zaj,occH,occE,Res.ids,xag,List.nil_append,AV.idsL,AV.ids,zab,zaa,zac,zan,xae,List.map_nil,upC,zaD];rfl)) (by(simp only[zaj,occH,occE,Res.ids,xag,List.nil_append,AV.idsL,AV.ids,zab,zaa,zac,zan,xae,List.map_nil,upC,zaD];rfl)) ?_;refine ev ?_;refine Walk.call (cr:=[]) zi7 (zdz hw ht hc) rfl .none rfl rfl (LeL.refl _) trivial rfl (by first|rfl|(simp only[zas,List.all_cons,List.all_nil,zaC,zay,AV.idsL,AV.ids,zab,zaa,xae,List.map_nil,zaD];rfl)) (by first|rfl|(simp only[zaj,occH,occE,Res.ids,xag,List.nil_append,AV.idsL,AV.ids,zab,zaa,zac,zan,xae,List.map_nil,upC,zaD];rfl)) ?_;refine ev ?_;refine xam (ι:=List (Ty)×List (Ty)×(Nat)) hk (fun x=>[(11,.d (.i (x.1.length:Int))),(10,.d (.i (x.2.2:Int)))]) [8,12,17,18,19,20,21,22,23,24,25,26,27,28,29,30,31,32,33,34] (fun x=>[]) (fun x=>x.1++x.2.1=zak w ⟨a,k⟩ c/\x.2.2<=100000/\zbP f x.2.2 x.2.1=zbP f 0 (zak w ⟨a,k⟩ c)) (fun x=>x.2.1.length) ([],zak w ⟨a,k⟩ c,0) ⟨by simp,by simp,rfl⟩ ⟨⟨_,rfl,xaz ?_⟩,⟨⟨_,rfl,xaz ?_⟩,trivial⟩⟩ trivial (fun x=>rfl) (fun x hg1=>?_);iterate 2 focus ((simp;done))
 obtain⟨pre,rest,m⟩:=x;dsimp only at hg1 ⊢;refine evc [] [] ?_;refine sq ?_ ?_<;>intro h1 h1p h1s<;>(try simp only[Q] at h1p);rcases rest with _|⟨y,rest⟩
 ·exfalso;simp_all
 have hdy:=hd y;have hye:dv f ⟨y.data,y.index⟩=dv f y:=rfl;refine xaS za4 .none rfl rfl rfl rfl (zaR hg1.1) rfl ?_;refine ev ?_;refine Walk.call (cr:=[]) zrk (zmm (f:=f) (a:=y.data) (k:=y.index) (hin y (by rw[<-hg1.1];simp)) hn) rfl .none rfl rfl (.cons (xaA (by first|rfl|(simp;done))) (.cons (.refl _) .nil)) ⟨rfl,trivial⟩ rfl (by first|rfl|(simp only[zas,List.all_cons,List.all_nil,zaC,zay,AV.idsL,AV.ids,zab,zaa,xae,List.map_nil,zaD];rfl)) (by first|rfl|(simp only[zaj,occH,occE,Res.ids,xag,List.nil_append,AV.idsL,AV.ids,zab,zaa,zac,zan,xae,List.map_nil,upC,zaD];rfl)) ?_;refine ev ?_;refine sq ?_ ?_<;>intro h2 h2p h2s<;>(try simp only[Q] at h2p);refine rn [] (r1 rfl) (.eqd ?_) ⟨rfl,rfl⟩ (SubH.get ⟨rfl,trivial⟩) (fun _ h=>h);rotate_left;refine sq ?_ ?_<;>intro h3 h3p h3s<;>(try simp only[Q] at h3p);refine ar ?_;refine xah ((pre++[y],rest,max m (dv f y))) ⟨⟨(by have hz:=hg1.1;rw[<-hz];simp),⟨(by have:=hd y;dsimp only;omega),(by rw[<-hg1.2.2];simp only[zbP];rw[if_neg (by have:=hd y;omega)])⟩⟩,(by simp),sx ⟨⟨_,rfl,xaz ?_⟩,⟨⟨_,rfl,xaz ?_⟩,trivial⟩⟩ trivial⟩;iterate 2 focus (first|(simp;done)|(dsimp only;omega))
 refine ar ?_;refine xah ((pre++[y],rest,max m (dv f y))) ⟨⟨(by have hz:=hg1.1;rw[<-hz];simp),⟨(by have:=hd y;dsimp only;omega),(by rw[<-hg1.2.2];simp only[zbP];rw[if_neg (by have:=hd y;omega)])⟩⟩,(by simp),sx ⟨⟨_,rfl,xaz ?_⟩,⟨⟨_,rfl,xaz ?_⟩,trivial⟩⟩ trivial⟩;iterate 2 focus (first|(simp;done)|(dsimp only;omega))
 have hrest:rest=[]:=by
  rcases rest with _|⟨a,b⟩
  ·rfl
  ·exfalso;have hz:=congrArg List.length (hg1.1);simp only[xaa,xab,xac] at hz;omega
 subst hrest;refine ar ?_;refine rn [] (r1 rfl) (.eqd ?_) ⟨rfl,rfl⟩ (SubH.get ⟨rfl,trivial⟩) (fun _ h=>h);rotate_left;all_goals (refine congrArg D.i ?_;unfold most;rw[<-hg1.2.2];first|(simp only[zbP];rw[if_pos (by omega)];rfl)|(simp only[zbP];omega))
structure Dp (w:List Data):Prop where
 wt:WT w
 cl:ClosedT w
 four:w.length<=4
 ct:∀s,s<w.length*4->(zba w (tyS s)).length<=4
def midT (w:List Data) (k s:Nat):Nat->Nat:=(List.range s).foldl (zde w) (zbb w k)
def rowT (w:List Data) (k s:Nat) (pre:List Int):Nat->Nat:=pre.foldl (zbA w s) (midT w k s)
theorem zhg {w:List Data}{k s:Nat}:rowT w k s (zba w (tyS s))=midT w k (s+1):=by
 unfold rowT midT;rw[List.range_succ,List.foldl_append];rfl
theorem zdq {w:List Data}{k s:Nat}{pre:List Int}{c:Int}:rowT w k s (pre++[c])=zbA w s (rowT w k s pre) c:=by
 unfold rowT;rw[List.foldl_append];rfl
theorem zqe {w:List Data} (hd:Dp w){k s:Nat} (hk:k<=20) (hs:s<=w.length*4){pre:List Int} (hp:pre.length<=4) (i:Nat):rowT w k s pre i<=100000:=by
 have h4:=hd.four;have h1:=zp5 (w:=w) (m:=4) hd.ct k;have h2:=zk9 (w:=w) (m:=4) (List.range s) (zbb w k) _ (fun x hx=>hd.ct x (by have:=List.mem_range.1 hx;omega)) h1 (by omega);have h3:=zpk (w:=w) (s:=s) pre (midT w k s) _ h2 (by omega) i;have e1:k*(w.length*4*4)<=20*(4*4*4):=Nat.mul_le_mul hk (by omega);rw[List.length_range] at h3;show pre.foldl (zbA w s) (midT w k s) i<=100000
 omega
theorem zr5 {w:List Data}{s:Nat} (h:s<w.length*4):TyIn w.length (tyS s):= .inr ⟨s / 4,rfl,by omega⟩
theorem ziE {w:List Data}{s:Nat}:zaA w (tyS s)=zba w (tyS s):=by unfold zaA;rw[if_neg (zlb s)]
theorem zpT (m:Nat):zaF (m+1) [.d (.i 0)]=zaF m [.d (.i 0)]++[AV.d (.i 0)]:=by
 induction m with
 |zero=>rfl
 |succ m ihm=>
  show [AV.d (.i 0)]++zaF (m+1) [.d (.i 0)]=([AV.d (.i 0)]++zaF m [.d (.i 0)])++[AV.d (.i 0)]
  rw[ihm,List.append_assoc]
theorem znY (n:Nat):zaF n [.d (.i 0)]=tabC n (fun _=>0):=by
 unfold tabC;induction n with
 |zero=>rfl
 |succ n ih=>rw[zpT,ih,List.range_succ,xaf];rfl
theorem zdV {w:List Data}{s:Nat}{f:Nat->Nat}{c:Int} (h:decide ((0:Int)<(most w f (tyS s) c:Int)/\((f s:Int)=0\/(most w f (tyS s) c:Int)<(f s:Int)))=true):zbA w s f c=updF f s (most w f (tyS s) c):=by
 rw[decide_eq_true_eq] at h;unfold zbA;rw[if_pos (by omega)]
theorem zdp {w:List Data}{s:Nat}{f:Nat->Nat}{c:Int} (h:decide ((0:Int)<(most w f (tyS s) c:Int)/\((f s:Int)=0\/(most w f (tyS s) c:Int)<(f s:Int)))=false):zbA w s f c=f:=by
 rw[decide_eq_false_iff_not] at h;unfold zbA;rw[if_neg (by omega)]
theorem zm6 {w:List Data} (hw:WT w){s:Nat} (hs:s<w.length*4):FnD Tryz.prog 226 [.d (zam w),.agg [.d (.i ((s:Int) / 4)),.d (.i ((s:Int) % 4))]] [] (.d (zcs (zba w (tyS s)))) []:=by
 rw[<-ziE];exact zcL hw (zr5 hs)
theorem zn7 {w:List Data} (hd:Dp w){f:Nat->Nat}{s:Nat}{c:Int} (hs:s<w.length*4) (hc:c∈zba w (tyS s)) (hb:∀s,f s<=100000):
  FnD Tryz.prog 227 [.d (zam w),.ms 70 (w.length*4),.agg [.d (.i ((s:Int) / 4)),.d (.i ((s:Int) % 4))],.d (.i c)] [(70,some (.box (tabC (w.length*4) f)))] (.d (.i (most w f (tyS s) c))) []:=
 have h4:=hd.four;zm9 (a:=(tyS s).data) (k:=(tyS s).index) hd.wt (zr5 hs) (by rw[<-ziE] at hc;exact hc) (by omega) hb (fun u hu=>hd.cl s hs c hc u hu)
theorem zho {w:List Data} (hd:Dp w):FnD Tryz.prog 130 [.d (zam w)] [] (.d (zdQ (w.length*4) (zaI w))) []:=by
 have hw:=hd.wt;have h4:=hd.four;refine bd Tryz.f130 70 [27,29,54,61] [14,999999] fun w0 F0 own kept hk=>?_;refine ar ?_;refine xa3 (id:=70) (m:=w.length*4) sl29 tz3 rfl (by decide) (zbW rfl) .none rfl (congrArg (fun z:Int=>some (AV.d (D.i z))) (by simp:((w.map Data.c).length:Int)*4=((w.length*4:Nat):Int))) (congrArg (fun z:Int=>some (AV.d (D.i z))) (by simp:((w.map Data.c).length:Int)*4=((w.length*4:Nat):Int))) (by omega) (by omega) (by first|rfl|(simp only[zaj,occH,occE,Res.ids,xag,List.nil_append,AV.idsL,AV.ids,zab,zaa,zac,zan,xae,List.map_nil,upC,zaD];rfl)) (by first|rfl|(simp only[zaj,occH,occE,Res.ids,xag,List.nil_append,AV.idsL,AV.ids,zab,zaa,zac,zan,xae,List.map_nil,upC,zaD];rfl)) (by first|rfl|(simp only[zaj,occH,occE,Res.ids,xag,List.nil_append,AV.idsL,AV.ids,zab,zaa,zac,zan,xae,List.map_nil,upC,zaD];rfl)) ?_;refine evs [27,29,54,61] [] ?_;refine xam (ι:=Nat) hk (fun n=>[(4,.d (.i (n:Int)))]) [5,6,7,8,9,14,15,16,17,18,19,20,21,22,23,24,25,26,27,28,29,30,31,32,33,34,35,36,37,38,39,40,41,42,43,44,45,46,47,48,49,50,51,52,53,54,55,56,57,58,59,60,61,62,63,64,65,66,67,68] (fun n=>[(70,some (.box (tabC (w.length*4) (zbb w n))))]) (fun n=>n<=w.length*4+1) (fun n=>w.length*4+1-n) 0 (by simp) ⟨⟨_,rfl,xaz ?_⟩,trivial⟩ ⟨?_,trivial⟩ (fun x=>rfl) (fun n hg1=>?_);focus ((simp;done))
 focus ((show some (Res.box _)=some (Res.box _);rw[znY];rfl))
 refine evc [27,29,54,61] [14,999999] ?_;refine sq ?_ ?_<;>intro h1 h1p h1s<;>(try simp only[Q] at h1p);refine xam (ι:=Nat) hk (fun s=>[(5,.d (.i (s:Int)))]) [6,7,8,9,20,21,22,23,24,25,26,27,28,29,30,31,32,33,34,35,36,37,38,39,40,41,42,43,44,45,46,47,48,49,50,51,52,53,54,55,56,57,58,59,60,61,62,63,64,65,66,67,68] (fun s=>[(70,some (.box (tabC (w.length*4) (midT w n s))))]) (fun s=>s<=w.length*4) (fun s=>w.length*4-s) 0 (by simp) ⟨⟨_,rfl,xaz ?_⟩,trivial⟩ ⟨?_,trivial⟩ (fun x=>rfl) (fun s hg2=>?_);focus ((simp;done))
 focus (first|rfl|(show some (Res.box _)=some (Res.box _);rw[<-zhg,<-hg3,List.append_nil]))
 refine evc [27,29,54,61] [14,999999] ?_;refine sq ?_ ?_<;>intro h2 h2p h2s<;>(try simp only[Q] at h2p);refine Walk.quoI .none rfl rfl rfl (by omega) ?_;refine evs [27,29,54,61] [] ?_;refine Walk.remI .none rfl rfl rfl (by omega) ?_;refine bu [0,1] [_,_] st25 ?_;refine Walk.alloc (id:=3006) tz25 rfl .none rfl (by(simp only[zaj,occH,occE,Res.ids,xag,List.nil_append,AV.idsL,AV.ids,zab,zaa,zac,zan,xae,List.map_nil,upC,zaD];rfl)) (by(simp only[zaj,occH,occE,Res.ids,xag,List.nil_append,AV.idsL,AV.ids,zab,zaa,zac,zan,xae,List.map_nil,upC,zaD];rfl)) (by(simp only[zaj,occH,occE,Res.ids,xag,List.nil_append,AV.idsL,AV.ids,zab,zaa,zac,zan,xae,List.map_nil,upC,zaD];rfl)) ?_;refine so ty25 ?_;refine tv ?_;refine Walk.call (cr:=[]) zhJ (zm6 hw (s:=s) (by omega)) rfl .none rfl rfl (LeL.refl _) trivial rfl (by first|rfl|(simp only[zas,List.all_cons,List.all_nil,zaC,zay,AV.idsL,AV.ids,zab,zaa,xae,List.map_nil,zaD];rfl)) (by first|rfl|(simp only[zaj,occH,occE,Res.ids,xag,List.nil_append,AV.idsL,AV.ids,zab,zaa,zac,zan,xae,List.map_nil,upC,zaD];rfl)) ?_;refine evs [27,29,54,61] [] ?_;refine xam (ι:=List (Int)×List (Int)) hk (fun x=>[(8,.d (.i (x.1.length:Int)))]) [9,34,35,36,37,38,39,40,41,42,43,44,45,46,47,48,49,50,51,52,53,54,55,56,57,58,59,60,61,62,63,64,65,66,67,68] (fun x=>[(70,some (.box (tabC (w.length*4) (rowT w n s x.1))))]) (fun x=>x.1++x.2=zba w (tyS s)) (fun x=>x.2.length) ([],zba w (tyS s)) (by simp) ⟨⟨_,rfl,xaz ?_⟩,trivial⟩ ⟨?_,trivial⟩ (fun x=>rfl) (fun x hg3=>?_);focus ((simp;done))
 focus (first|rfl|(show some (Res.box _)=some (Res.box _);rw[zdq];first|(rw[zdV (by assumption)];done)|(rw[zdp (by assumption)];done)))
 obtain⟨pre,rest⟩:=x;dsimp only at hg3 ⊢;have hct:=hd.ct s (by omega);refine evc [27,29,54,61] [14,999999] ?_;refine sq ?_ ?_<;>intro h3 h3p h3s<;>(try simp only[Q] at h3p);rcases rest with _|⟨c,rest⟩
 ·exfalso;simp_all
 refine xaS sl29 .none rfl rfl rfl rfl (zaR hg3) rfl ?_;refine evd [27,29,54,61] [] ?_;refine Walk.call (cr:=[]) zt4 (zn7 hd (f:=rowT w n s pre) (s:=s) (c:=c) (by omega) (by rw[<-hg3];simp) (zqe hd (by omega) (by omega) (by have:=hd.ct s (by omega);have hz:=congrArg List.length hg3;simp at hz;omega))) rfl .none rfl rfl (.cons (.refl _) (.cons (xaA (by first|rfl|(simp;done))) (.cons (.refl _) (.cons (.refl _) .nil)))) ⟨rfl,trivial⟩ rfl (by first|rfl|(simp only[zas,List.all_cons,List.all_nil,zaC,zay,AV.idsL,AV.ids,zab,zaa,xae,List.map_nil,zaD];rfl)) (by first|rfl|(simp only[zaj,occH,occE,Res.ids,xag,List.nil_append,AV.idsL,AV.ids,zab,zaa,zac,zan,xae,List.map_nil,upC,zaD];rfl)) ?_;refine evd [27,29,54,61] [] ?_;refine dr ?_;refine xaq ?_;refine xaD 17 [(64,.d (.bool (decide ((0:Int)<(most w (rowT w n s pre) (tyS s) c:Int)/\((rowT w n s pre s:Int)=0\/(most w (rowT w n s pre) (tyS s) c:Int)<(rowT w n s pre s:Int))))))] [48,49,50,51,52,53,54,55,56,57,58,59,60,61,62,63] ?_ ?_;refine evs [27,29,54,61] [] ?_;refine sq ?_ ?_<;>intro h4 h4p h4s<;>(try simp only[Q] at h4p);refine xaV (i:=s) sl29 (.some rfl rfl h4) rfl rfl rfl rfl (by omega) ?_;refine xaY ty3 (.some rfl rfl h4) rfl rfl rfl ((zkg (s:=s) (by omega) (by omega))) ?_;refine evs [27,29,54,61] [(50,true)] ?_ ⟨⟨_,rfl,h4⟩,trivial⟩;refine sq ?_ ?_<;>intro h5 h5p h5s<;>(try simp only[Q] at h5p);exact jnb rfl;refine xaV (i:=s) sl29 (.some rfl rfl h5) rfl rfl rfl rfl (by omega) ?_;refine xaY ty3 (.some rfl rfl h5) rfl rfl rfl ((zkg (s:=s) (by omega) (by omega))) ?_;refine evs [27,29,54,61] [(50,true),(56,false)] ?_ ⟨⟨_,rfl,h4⟩,⟨_,rfl,h5⟩,trivial⟩;exact jnb rfl;exact jnb rfl;refine xaC ?_;refine tv ?_;refine sq ?_ ?_<;>intro h6 h6p h6s<;>(try simp only[Q] at h6p);refine xaV (i:=s) sl29 .none rfl rfl rfl rfl (by omega) ?_;refine Walk.store ty3 .none rfl rfl rfl rfl rfl rfl (by simp) ((zqn (s:=s) (v:=most w (rowT w n s pre) (tyS s) c) (by omega) (by omega) rfl)) ?_;refine tv ?_;refine ar ?_;refine xah ((pre++[c],rest)) ⟨(by have hz:=hg3;rw[<-hz];simp),(by simp),sx ⟨⟨_,rfl,xaz ?_⟩,trivial⟩ ⟨?_,trivial⟩⟩;focus ((simp;done))
 focus ((show some (Res.box _)=some (Res.box _);rw[zdq];first|(rw[zdV (by assumption)];done)|(rw[zdp (by assumption)];done)))
 refine ar ?_;refine xah ((pre++[c],rest)) ⟨(by have hz:=hg3;rw[<-hz];simp),(by simp),sx ⟨⟨_,rfl,xaz ?_⟩,trivial⟩ ⟨?_,trivial⟩⟩;focus ((simp;done))
 focus ((show some (Res.box _)=some (Res.box _);rw[zdq];first|(rw[zdV (by assumption)];done)|(rw[zdp (by assumption)];done)))
 have hrest:rest=[]:=by
  rcases rest with _|⟨a,b⟩
  ·rfl
  ·exfalso;have hz:=congrArg List.length (hg3);simp only[xaa,xab,xac] at hz;omega
 subst hrest;refine ar ?_;refine xah (s+1) ⟨(by omega),(by omega),sx ⟨⟨_,rfl,xaz ?_⟩,trivial⟩ ⟨?_,trivial⟩⟩;focus ((simp;done))
 focus ((show some (Res.box _)=some (Res.box _);rw[<-zhg,<-hg3,List.append_nil]))
 refine ar ?_;refine xah (n+1) ⟨(by omega),(by omega),sx ⟨⟨_,rfl,xaz ?_⟩,trivial⟩ ⟨?_,trivial⟩⟩;focus ((simp;done))
 focus (first|(show some (Res.box _)=some (Res.box _);rw[znY];rfl)|(have e:s=w.length*4:=(by omega);rw[e];rfl))
 refine CWp.frz hk 2 70 _ _ rfl rfl zru rfl ?_;refine CWp.ret ?_;refine rq ?_;rotate_left;all_goals ((have e:n=w.length*4+1:=(by omega);rw[e];rfl))
end Go.Proofs.YtlfipehhbdjnjaaGreat
namespace Go.Proofs.YtlfipehhbdjnjaaGreat
open Go
set_option linter.unusedSimpArgs false
set_option linter.unusedVariables false
set_option maxRecDepth 100000
set_option maxHeartbeats 4000000
theorem ze0 {p:Pat}{b1 b2 b3:Bool}{k:Int}:FnD Tryz.prog 305 [.agg [.d (.i p.op),.d (.i p.ctor),.d (.i p.n),.d (.i p.m),.d (.i p.var),.d (zae p.kids)],.d (.bool b1),.d (.bool b2),.d (.bool b3),.d (.i k)] []
  (.d (.bool (decide ((b1=true\/p.ctor=0)/\(b2=true\/p.n=0/\p.m=0)/\(b3=true\/p.var=0)/\(p.kids.length:Int)=k)))) []:=by
 refine bd Tryz.f305 45 [] [1] fun w0 F0 own kept hk=>?_;refine bx 3005 ?_;refine ev ?_;refine xaq ?_;refine xaD 6 [(16,.d (.bool (decide (b1=true\/p.ctor=0))))] [11,12,13,14,15] ?_ ?_;refine ev ?_;refine sq ?_ ?_<;>intro h1 h1p h1s;focus (exact jn rfl (xay (by(first|rfl|(rw[Bool.eq_iff_iff];simp_all[Pat.cs_len];done)))))
 focus (exact jn rfl (xay (by(first|rfl|(rw[Bool.eq_iff_iff];simp_all[Pat.cs_len];done)))))
 refine xaD 13 [(29,.d (.bool (decide ((b1=true\/p.ctor=0)/\(b2=true\/p.n=0/\p.m=0)))))] [17,18,19,20,21,22,23,24,25,26,27,28] ?_ ?_;refine ev ?_;refine sq ?_ ?_<;>intro h2 h2p h2s;refine sq ?_ ?_<;>intro h3 h3p h3s;focus (exact jn rfl (xay (by(first|rfl|(rw[Bool.eq_iff_iff];simp_all[Pat.cs_len];done)))))
 refine sq ?_ ?_<;>intro h4 h4p h4s;focus (exact jn rfl (xay (by(first|rfl|(rw[Bool.eq_iff_iff];simp_all[Pat.cs_len];done)))))
 focus (exact jn rfl (xay (by(first|rfl|(rw[Bool.eq_iff_iff];simp_all[Pat.cs_len];done)))))
 focus (exact jn rfl (xay (by(first|rfl|(rw[Bool.eq_iff_iff];simp_all[Pat.cs_len];done)))))
 refine xaD 8 [(37,.d (.bool (decide ((b1=true\/p.ctor=0)/\(b2=true\/p.n=0/\p.m=0)/\(b3=true\/p.var=0)))))] [30,31,32,33,34,35,36] ?_ ?_;refine ev ?_;refine sq ?_ ?_<;>intro h5 h5p h5s;refine sq ?_ ?_<;>intro h6 h6p h6s;focus (exact jn rfl (xay (by(first|rfl|(rw[Bool.eq_iff_iff];simp_all[Pat.cs_len];done)))))
 focus (exact jn rfl (xay (by(first|rfl|(rw[Bool.eq_iff_iff];simp_all[Pat.cs_len];done)))))
 focus (exact jn rfl (xay (by(first|rfl|(rw[Bool.eq_iff_iff];simp_all[Pat.cs_len];done)))))
 refine xaD 7 [(44,.d (.bool (decide ((b1=true\/p.ctor=0)/\(b2=true\/p.n=0/\p.m=0)/\(b3=true\/p.var=0)/\(p.kids.length:Int)=k))))] [38,39,40,41,42,43] ?_ ?_;refine ev ?_;refine sq ?_ ?_<;>intro h7 h7p h7s;focus (exact jn rfl (xay (by(first|rfl|(rw[Bool.eq_iff_iff];simp_all[Pat.cs_len];done)))))
 focus (exact jn rfl (xay (by(first|rfl|(rw[Bool.eq_iff_iff];simp_all[Pat.cs_len];done)))))
 refine xaC ?_;refine ev ?_;refine rq ?_;rotate_left;all_goals (rfl)
theorem zfI {p:Pat}{k:Int}:FnD Tryz.prog 305 [.agg [.d (.i p.op),.d (.i p.ctor),.d (.i p.n),.d (.i p.m),.d (.i p.var),.d (zae p.kids)],.d (.bool false),.d (.bool false),.d (.bool false),.d (.i k)] []
  (.d (.bool (decide (p.ctor=0/\(p.n=0/\p.m=0)/\p.var=0/\(p.kids.length:Int)=k)))) []:=by
 have:=ze0 (p:=p) (b1:=false) (b2:=false) (b3:=false) (k:=k);simpa only[Bool.false_eq_true,false_or] using this
theorem zfJ {p:Pat}{k:Int}:FnD Tryz.prog 305 [.agg [.d (.i p.op),.d (.i p.ctor),.d (.i p.n),.d (.i p.m),.d (.i p.var),.d (zae p.kids)],.d (.bool false),.d (.bool false),.d (.bool true),.d (.i k)] []
  (.d (.bool (decide (p.ctor=0/\(p.n=0/\p.m=0)/\(p.kids.length:Int)=k)))) []:=by
 have:=ze0 (p:=p) (b1:=false) (b2:=false) (b3:=true) (k:=k);simpa only[Bool.false_eq_true,false_or,true_or,true_and] using this
theorem zkx {p:Pat}{k:Int}:FnD Tryz.prog 305 [.agg [.d (.i p.op),.d (.i p.ctor),.d (.i p.n),.d (.i p.m),.d (.i p.var),.d (zae p.kids)],.d (.bool false),.d (.bool true),.d (.bool false),.d (.i k)] []
  (.d (.bool (decide (p.ctor=0/\p.var=0/\(p.kids.length:Int)=k)))) []:=by
 have:=ze0 (p:=p) (b1:=false) (b2:=true) (b3:=false) (k:=k);simpa only[Bool.false_eq_true,false_or,true_or,true_and] using this
theorem zpL {p:Pat}{k:Int}:FnD Tryz.prog 305 [.agg [.d (.i p.op),.d (.i p.ctor),.d (.i p.n),.d (.i p.m),.d (.i p.var),.d (zae p.kids)],.d (.bool true),.d (.bool false),.d (.bool false),.d (.i k)] []
  (.d (.bool (decide ((p.n=0/\p.m=0)/\p.var=0/\(p.kids.length:Int)=k)))) []:=by
 have:=ze0 (p:=p) (b1:=true) (b2:=false) (b3:=false) (k:=k);simpa only[Bool.false_eq_true,false_or,true_or,true_and] using this
theorem zev {v:Int}:FnD Tryz.prog 270 [.d (.i v)] [] (.d (.bool (zaz v 0 5))) []:=by
 refine bd Tryz.f270 5 [] [] fun w0 F0 own kept hk=>?_;refine wc zdf (zbf) rfl rfl ?_;refine ev ?_;refine rq ?_;rotate_left;all_goals (rfl)
theorem zd9 {w:List Data} (hw:WT w){a k:Int} (ht:TyIn w.length ⟨a,k⟩):FnD Tryz.prog 234 [.d (zam w),.agg [.d (.i a),.d (.i k)]] [] (.d (zcs (zaA w ⟨a,k⟩))) []:=by
 rcases ht with ha|⟨d,hd,hlt⟩
 ·simp only at ha;subst ha;rw[zgy];exact ziT
 ·simp only at hd;subst hd;rw[zhx];exact zlE hw hlt
theorem zcY {w:List Data} (hw:WT w){a k c:Int} (ht:TyIn w.length ⟨a,k⟩) (hc:c∈zaA w ⟨a,k⟩):FnD Tryz.prog 144 [.d (zam w),.agg [.d (.i a),.d (.i k)],.d (.i c)] [] (.d (zbk (zak w ⟨a,k⟩ c))) []:=by
 obtain⟨d,rfl,h1,h2⟩:=zcI ht hc;exact zkM hw h1 h2
theorem ziK {w:List Data} (hw:WT w){a k:Int}{p:Pat} (ht:TyIn w.length ⟨a,k⟩):
  FnD Tryz.prog 236 [.d (zam w),.agg [.d (.i a),.d (.i k)],.agg [.d (.i p.op),.d (.i p.ctor),.d (.i p.n),.d (.i p.m),.d (.i p.var),.d (zae p.kids)]] [] (.tup [.d (zbk (zcB w ⟨a,k⟩ p)),.d (.bool (okP w ⟨a,k⟩ p))]) []:=by
 have hcl:=zmy hw ht;have ty4:p.op=4->p.ctor∉zaA w ⟨a,k⟩->zcB w ⟨a,k⟩ p=[]:=fun h4 hm=>by unfold zcB;rw[if_pos ⟨h4,hm⟩]
 have ty4':p.op=4->p.ctor∈zaA w ⟨a,k⟩->zcB w ⟨a,k⟩ p=zak w ⟨a,k⟩ p.ctor:=fun h4 hm=>by unfold zcB zai;rw[if_neg (fun h=>h.2 hm),if_pos h4]
 have ty5:p.op=5->zcB w ⟨a,k⟩ p=[⟨a,k⟩,⟨a,k⟩]:=fun h5=>by unfold zcB zai;rw[if_neg (by omega),if_neg (by omega),if_pos h5]
 have ty6:p.op=6->zcB w ⟨a,k⟩ p=[⟨a,k⟩]:=fun h6=>by unfold zcB zai;rw[if_neg (by omega),if_neg (by omega),if_neg (by omega),if_pos h6]
 have ty0:¬p.op=4->¬p.op=5->¬p.op=6->zcB w ⟨a,k⟩ p=[]:=fun h4 h5 h6=>by unfold zcB zai;rw[if_neg (fun h=>h4 h.1),if_neg h4,if_neg h5,if_neg h6]
 have ln4:p.op=4->(zai w ⟨a,k⟩ p).length=(zak w ⟨a,k⟩ p.ctor).length:=fun h4=>by unfold zai;rw[if_pos h4]
 have ln5:p.op=5->(zai w ⟨a,k⟩ p).length=2:=fun h5=>by unfold zai;rw[if_neg (by omega),if_pos h5];rfl
 have ln6:p.op=6->(zai w ⟨a,k⟩ p).length=1:=fun h6=>by unfold zai;rw[if_neg (by omega),if_neg (by omega),if_pos h6];rfl
 have ln0:¬p.op=4->¬p.op=5->¬p.op=6->(zai w ⟨a,k⟩ p).length=0:=fun h4 h5 h6=>by unfold zai;rw[if_neg h4,if_neg h5,if_neg h6];rfl
 have okI:∀b:Bool,(b=true↔((((p.op=2\/p.op=6)->0<=p.var/\p.var<=5)/\(¬(p.op=2\/p.op=6)->p.var=0)/\(p.op≠3->p.n=0/\p.m=0)/\(p.op≠4->p.ctor=0)/\
   (p.op=1\/p.op=2\/p.op=5\/p.op=6\/(p.op=3/\a = -1/\0<=p.n/\p.n<=p.m/\p.m<=9)\/(p.op=4/\p.ctor∈zaA w ⟨a,k⟩)))/\p.kids.length=(zai w ⟨a,k⟩ p).length))->b=okP w ⟨a,k⟩ p:=fun b h=>by
  rw[Bool.eq_iff_iff,h];unfold okP ownP;simp only[xad,decide_eq_true_eq]
 by_cases hmem:p.ctor∈zaA w ⟨a,k⟩
 ·have hargs:=zcY hw ht hmem;have hal:(zak w ⟨a,k⟩ p.ctor).length<=1000000000000:=by
   obtain⟨d,rfl,h1,h2⟩:=zcI ht hmem;exact zh4 hw h1 h2
  simp only[hmem,and_true] at okI;refine bd Tryz.f236 87 [] [5] fun w0 F0 own kept hk=>?_;refine bx 3004 ?_;refine bx 3005 ?_;refine ev ?_;refine sq ?_ ?_<;>intro h1 h1p h1s<;>(try simp only[Q] at h1p);refine wc zdN (zfI) rfl rfl ?_;refine ev ?_;refine rn0 (r2 rfl rfl) (.tup (.cons (.nild ?_) (.cons (.eqd ?_) .nil)));rotate_left 2;refine sq ?_ ?_<;>intro h2 h2p h2s<;>(try simp only[Q] at h2p);refine xaq ?_;refine xaD 7 [(23,.d (.bool (decide ((p.ctor=0/\(p.n=0/\p.m=0)/\(p.kids.length:Int)=0)/\0<=p.var/\p.var<=5))))] [17,18,19,20,21,22] ?_ ?_;refine ev ?_;refine wc zdN (zfJ) rfl rfl ?_;refine ev ?_;refine sq ?_ ?_<;>intro h3 h3p h3s<;>(try simp only[Q] at h3p);refine Walk.call (cr:=[]) zlp (zev) rfl (.some rfl rfl h3) rfl rfl (LeL.refl _) trivial rfl rfl rfl ?_;refine evs [] [(19,true)] ?_ ⟨⟨_,rfl,h3⟩,trivial⟩;exact jn rfl (xay (by(rw[Bool.eq_iff_iff];simp only[decide_eq_true_eq,zaz,xad,Bool.false_eq_true,false_iff,true_iff];omega)));exact jn rfl (xay (by(rw[Bool.eq_iff_iff];simp only[decide_eq_true_eq,zaz,xad,Bool.false_eq_true,false_iff,true_iff];omega)));refine xaC ?_;refine ev ?_;refine rn0 (r2 rfl rfl) (.tup (.cons (.nild ?_) (.cons (.eqd ?_) .nil)));rotate_left 2;refine sq ?_ ?_<;>intro h4 h4p h4s<;>(try simp only[Q] at h4p);refine sq ?_ ?_<;>intro h5 h5p h5s<;>(try simp only[Q] at h5p);refine Walk.call (cr:=[]) zdN (zkx) rfl (.some rfl rfl h5) rfl rfl (LeL.refl _) trivial rfl rfl rfl ?_;refine evd [] [(29,true)] ?_ ⟨⟨_,rfl,h5⟩,trivial⟩;refine sq ?_ ?_<;>intro h6 h6p h6s<;>(try simp only[Q] at h6p);refine sq ?_ ?_<;>intro h7 h7p h7s<;>(try simp only[Q] at h7p);refine sq ?_ ?_<;>intro h8 h8p h8s<;>(try simp only[Q] at h8p);refine dr ?_;refine rn0 (r2 rfl rfl) (.tup (.cons (.nild ?_) (.cons (.eqd ?_) .nil)));rotate_left 2;refine dr ?_;refine rn0 (r2 rfl rfl) (.tup (.cons (.nild ?_) (.cons (.eqd ?_) .nil)));rotate_left 2;refine sqF ?_;refine dr ?_;refine rn0 (r2 rfl rfl) (.tup (.cons (.nild ?_) (.cons (.eqd ?_) .nil)));rotate_left 2;refine sqF ?_;refine sqF ?_;refine dr ?_;refine rn0 (r2 rfl rfl) (.tup (.cons (.nild ?_) (.cons (.eqd ?_) .nil)));rotate_left 2;refine sqF ?_;refine sqF ?_;refine sqF ?_;refine dr ?_;refine rn0 (r2 rfl rfl) (.tup (.cons (.nild ?_) (.cons (.eqd ?_) .nil)));rotate_left 2;refine sq ?_ ?_<;>intro h9 h9p h9s<;>(try simp only[Q] at h9p);refine wc zlm (zd9 hw ht) rfl rfl ?_;refine evd [] [] ?_;refine wc zrh (zes hcl) rfl rfl ?_;refine evd [] [] ?_;refine dr ?_;refine sq ?_ ?_<;>intro h10 h10p h10s<;>(try simp only[Q] at h10p);exfalso;simp_all;refine wc zi3 (hargs) rfl rfl ?_;refine ev ?_;refine wc zdN (zpL) rfl rfl ?_;refine ev ?_;refine rn0 (r2 rfl rfl) (.tup (.cons (.eqd ?_) (.cons (.eqd ?_) .nil)));rotate_left 2;refine sq ?_ ?_<;>intro h11 h11p h11s<;>(try simp only[Q] at h11p);refine si [0,1] [_,_] za4 tz25 ?_;refine evd [] [] ?_;refine wc zdN (zfI) rfl rfl ?_;refine evd [] [] ?_;refine dr ?_;refine rn0 (r2 rfl rfl) (.tup (.cons (.eqd ?_) (.cons (.eqd ?_) .nil)));rotate_left 2;refine sq ?_ ?_<;>intro h12 h12p h12s<;>(try simp only[Q] at h12p);refine si [0] [_] za4 tz25 ?_;refine evd [] [] ?_;refine wc zdN (zfJ) rfl rfl ?_;refine evd [] [] ?_;refine sq ?_ ?_<;>intro h13 h13p h13s<;>(try simp only[Q] at h13p);refine Walk.call (cr:=[]) zlp (zev) rfl (.some rfl rfl h13) rfl rfl (LeL.refl _) trivial rfl rfl rfl ?_;refine evd [] [(82,true)] ?_ ⟨⟨_,rfl,h13⟩,trivial⟩;refine dr ?_;refine rn0 (r2 rfl rfl) (.tup (.cons (.eqd ?_) (.cons (.eqd ?_) .nil)));rotate_left 2;refine dr ?_;refine rn0 (r2 rfl rfl) (.tup (.cons (.eqd ?_) (.cons (.eqd ?_) .nil)));rotate_left 2;refine rn0 (r2 rfl rfl) (.tup (.cons (.nild ?_) (.cons (.eqd ?_) .nil)));rotate_left 2;all_goals (first|(refine congrArg D.bool (okI _ ?_);(try simp only[decide_eq_true_eq,Bool.false_eq_true,zaz,xad,xac,true_iff,false_iff]);omega)|(rw[ty0 (by omega) (by omega) (by omega)];first|done|rfl)|(rw[ty5 (by omega)];first|done|rfl)|(rw[ty6 (by omega)];first|done|rfl)|(rw[ty4' (by omega) hmem];first|done|rfl))
 ·simp only[hmem,and_false,or_false] at okI;refine bd Tryz.f236 87 [] [5] fun w0 F0 own kept hk=>?_;refine bx 3004 ?_;refine bx 3005 ?_;refine ev ?_;refine sq ?_ ?_<;>intro h1 h1p h1s<;>(try simp only[Q] at h1p);refine wc zdN (zfI) rfl rfl ?_;refine ev ?_;refine rn0 (r2 rfl rfl) (.tup (.cons (.nild ?_) (.cons (.eqd ?_) .nil)));rotate_left 2;refine sq ?_ ?_<;>intro h2 h2p h2s<;>(try simp only[Q] at h2p);refine xaq ?_;refine xaD 7 [(23,.d (.bool (decide ((p.ctor=0/\(p.n=0/\p.m=0)/\(p.kids.length:Int)=0)/\0<=p.var/\p.var<=5))))] [17,18,19,20,21,22] ?_ ?_;refine ev ?_;refine wc zdN (zfJ) rfl rfl ?_;refine ev ?_;refine sq ?_ ?_<;>intro h3 h3p h3s<;>(try simp only[Q] at h3p);refine Walk.call (cr:=[]) zlp (zev) rfl (.some rfl rfl h3) rfl rfl (LeL.refl _) trivial rfl rfl rfl ?_;refine evs [] [(19,true)] ?_ ⟨⟨_,rfl,h3⟩,trivial⟩;exact jn rfl (xay (by(rw[Bool.eq_iff_iff];simp only[decide_eq_true_eq,zaz,xad,Bool.false_eq_true,false_iff,true_iff];omega)));exact jn rfl (xay (by(rw[Bool.eq_iff_iff];simp only[decide_eq_true_eq,zaz,xad,Bool.false_eq_true,false_iff,true_iff];omega)));refine xaC ?_;refine ev ?_;refine rn0 (r2 rfl rfl) (.tup (.cons (.nild ?_) (.cons (.eqd ?_) .nil)));rotate_left 2;refine sq ?_ ?_<;>intro h4 h4p h4s<;>(try simp only[Q] at h4p);refine sq ?_ ?_<;>intro h5 h5p h5s<;>(try simp only[Q] at h5p);refine Walk.call (cr:=[]) zdN (zkx) rfl (.some rfl rfl h5) rfl rfl (LeL.refl _) trivial rfl rfl rfl ?_;refine evd [] [(29,true)] ?_ ⟨⟨_,rfl,h5⟩,trivial⟩;refine sq ?_ ?_<;>intro h6 h6p h6s<;>(try simp only[Q] at h6p);refine sq ?_ ?_<;>intro h7 h7p h7s<;>(try simp only[Q] at h7p);refine sq ?_ ?_<;>intro h8 h8p h8s<;>(try simp only[Q] at h8p);refine dr ?_;refine rn0 (r2 rfl rfl) (.tup (.cons (.nild ?_) (.cons (.eqd ?_) .nil)));rotate_left 2;refine dr ?_;refine rn0 (r2 rfl rfl) (.tup (.cons (.nild ?_) (.cons (.eqd ?_) .nil)));rotate_left 2;refine sqF ?_;refine dr ?_;refine rn0 (r2 rfl rfl) (.tup (.cons (.nild ?_) (.cons (.eqd ?_) .nil)));rotate_left 2;refine sqF ?_;refine sqF ?_;refine dr ?_;refine rn0 (r2 rfl rfl) (.tup (.cons (.nild ?_) (.cons (.eqd ?_) .nil)));rotate_left 2;refine sqF ?_;refine sqF ?_;refine sqF ?_;refine dr ?_;refine rn0 (r2 rfl rfl) (.tup (.cons (.nild ?_) (.cons (.eqd ?_) .nil)));rotate_left 2;refine sq ?_ ?_<;>intro h9 h9p h9s<;>(try simp only[Q] at h9p);refine wc zlm (zd9 hw ht) rfl rfl ?_;refine evd [] [] ?_;refine wc zrh (zes hcl) rfl rfl ?_;refine evd [] [] ?_;refine dr ?_;refine sq ?_ ?_<;>intro h10 h10p h10s<;>(try simp only[Q] at h10p);refine rn0 (r2 rfl rfl) (.tup (.cons (.nild ?_) (.cons (.eqd ?_) .nil)));rotate_left 2;exfalso;simp_all;refine sq ?_ ?_<;>intro h11 h11p h11s<;>(try simp only[Q] at h11p);refine si [0,1] [_,_] za4 tz25 ?_;refine evd [] [] ?_;refine wc zdN (zfI) rfl rfl ?_;refine evd [] [] ?_;refine dr ?_;refine rn0 (r2 rfl rfl) (.tup (.cons (.eqd ?_) (.cons (.eqd ?_) .nil)));rotate_left 2;refine sq ?_ ?_<;>intro h12 h12p h12s<;>(try simp only[Q] at h12p);refine si [0] [_] za4 tz25 ?_;refine evd [] [] ?_;refine wc zdN (zfJ) rfl rfl ?_;refine evd [] [] ?_;refine sq ?_ ?_<;>intro h13 h13p h13s<;>(try simp only[Q] at h13p);refine Walk.call (cr:=[]) zlp (zev) rfl (.some rfl rfl h13) rfl rfl (LeL.refl _) trivial rfl rfl rfl ?_;refine evd [] [(82,true)] ?_ ⟨⟨_,rfl,h13⟩,trivial⟩;refine dr ?_;refine rn0 (r2 rfl rfl) (.tup (.cons (.eqd ?_) (.cons (.eqd ?_) .nil)));rotate_left 2;refine dr ?_;refine rn0 (r2 rfl rfl) (.tup (.cons (.eqd ?_) (.cons (.eqd ?_) .nil)));rotate_left 2;refine rn0 (r2 rfl rfl) (.tup (.cons (.nild ?_) (.cons (.eqd ?_) .nil)));rotate_left 2;all_goals (first|(refine congrArg D.bool (okI _ ?_);(try simp only[decide_eq_true_eq,Bool.false_eq_true,zaz,xad,xac,true_iff,false_iff]);omega)|(rw[ty0 (by omega) (by omega) (by omega)];first|done|rfl)|(rw[ty5 (by omega)];first|done|rfl)|(rw[ty6 (by omega)];first|done|rfl)|(rw[ty4 (by omega) hmem];first|done|rfl))
theorem zsd {t u:Vt}:t=u↔t.var=u.var/\t.ty.data=u.ty.data/\t.ty.index=u.ty.index:=by
 rcases t with ⟨a,b,c⟩;rcases u with ⟨d,e,f⟩;simp
def zqG (l:List Vt) (v:Vt):Int:=idxF (fun x=>decide (v=x)) l 0
theorem zjN {l:List Vt}{v:Vt} (h:l.length<=1000000000000):FnD Tryz.prog 350 [.d (zcM l),.agg [.d (.i v.var),.d (.i v.ty.data),.d (.i v.ty.index)]] [] (.d (.i (zqG l v))) []:=by
 refine bd Tryz.f350 19 [16] [] fun w0 F0 own kept hk=>?_;refine bx 3003 ?_;refine evs [16] [] ?_;refine xam (ι:=List (Vt)×List (Vt)) hk (fun x=>[(8,.d (.i (x.1.length:Int)))]) [4,5,9,10,11,12,13,14,15,16,17,18] (fun x=>[]) (fun x=>x.1++x.2=l/\idxF (fun x=>decide (v=x)) x.2 x.1.length=idxF (fun x=>decide (v=x)) l 0) (fun x=>x.2.length) ([],l) ⟨by simp,rfl⟩ ⟨⟨_,rfl,xaz ?_⟩,trivial⟩ trivial (fun x=>rfl) (fun x hg1=>?_);focus (first|rfl|omega)
 obtain⟨pre,rest⟩:=x;dsimp only at hg1 ⊢;refine evc [16] [] ?_;refine sq ?_ ?_<;>intro h1 h1p h1s<;>(try simp only[Q] at h1p);rcases rest with _|⟨y,rest⟩
 ·exfalso;simp_all
 refine xaS zdc .none rfl rfl rfl rfl (zaR hg1.1) rfl ?_;refine evd [16] [] ?_;refine Walk.eqV2 zu4 .none rfl rfl rfl rfl rfl ?_;refine dr ?_;refine sq ?_ ?_<;>intro h2 h2p h2s<;>(try simp only[Q] at h2p);refine rq ?_;rotate_left;refine ar ?_;refine xah ((pre++[y],rest)) ⟨⟨(by have hz:=hg1.1;rw[<-hz];simp),(by rw[<-hg1.2];simp[idxF];simp_all[zsd])⟩,(by simp),sx ⟨⟨_,rfl,xaz ?_⟩,trivial⟩ trivial⟩;focus (first|rfl|(simp;done)|omega)
 have hrest:rest=[]:=by
  rcases rest with _|⟨a,b⟩
  ·rfl
  ·exfalso;have hz:=congrArg List.length (hg1.1);simp only[xaa,xab,xac] at hz;omega
 subst hrest;refine rq ?_;rotate_left;all_goals (unfold zqG;rw[<-hg1.2];simp_all[idxF,zsd])
theorem zeQ {l:List Vt}{v:Vt} (h:l.length<=1000000000000):FnD Tryz.prog 294 [.d (zcM l),.agg [.d (.i v.var),.d (.i v.ty.data),.d (.i v.ty.index)]] [] (.d (.bool (decide (v∈l)))) []:=by
 refine bd Tryz.f294 9 [] [] fun w0 F0 own kept hk=>?_;refine bx 3003 ?_;refine ev ?_;refine wc zuz (zjN h) rfl rfl ?_;refine ev ?_;refine rq ?_;rotate_left;all_goals (refine congrArg D.bool ?_;rw[show zqG l v=idxF (fun x=>decide (v=x)) l 0 from rfl,zeA];simp[List.any_eq,eq_comm])
theorem zhE {xs:List Vt}{f:Nat}{caps:List AV}{hp:Hp}{p:Vt->Bool} (hs:xs.length<=1000000000000) (hcal:Callee Tryz.prog f)
  (hf:∀t∈xs,FnD Tryz.prog f ([.agg [.d (.i t.var),.d (.i t.ty.data),.d (.i t.ty.index)]]++caps) hp (.d (.bool (p t))) []) (k1:subH hp hp) (k2:zdw hp=true) (k3:zas hp [] (.d .nilp) []=true):
  FnD Tryz.prog 388 [.d (zcM xs),.fn f caps] hp (.d (.i (idxF p xs 0))) []:=by
 refine bd Tryz.f388 19 [] [] fun w0 F0 own kept hk=>?_;refine xam (ι:=List (Vt)×List (Vt)) hk (fun x=>[(8,.d (.i (x.1.length:Int)))]) [4,5,9,10,11,12,13,14,15,16,17,18] (fun x=>[]) (fun x=>x.1++x.2=xs/\idxF p x.2 x.1.length=idxF p xs 0) (fun x=>x.2.length) ([],xs) ⟨by simp,rfl⟩ ⟨⟨_,rfl,xaz ?_⟩,trivial⟩ trivial (fun x=>zgi hp) (fun x hg1=>?_);focus (first|rfl|omega)
 obtain⟨pre,rest⟩:=x;dsimp only at hg1 ⊢;refine evc [] [] ?_;refine sq ?_ ?_<;>intro h1 h1p h1s<;>(try simp only[Q] at h1p);rcases rest with _|⟨y,rest⟩
 ·exfalso;simp_all
 refine xaS zdc .none rfl rfl rfl rfl (zaR hg1.1) rfl ?_;refine ev ?_;refine xaK (cr:=[]) hcal (hf y (by rw[<-hg1.1];simp)) rfl .none rfl rfl rfl (LeL.refl _) k1 k2 (zcN k3 _) rfl ?_;refine tv ?_;refine sq ?_ ?_<;>intro h2 h2p h2s<;>(try simp only[Q] at h2p);focus (refine rn [] (r1 rfl) (.eqd ?_) ⟨rfl,rfl⟩ (fun _ _ h=>h) (fun _ h=>h);all_goals (rw[<-hg1.2];simp[idxF,h1s,h1p,h2s,h2p]))
 refine ar ?_;refine xah ((pre++[y],rest)) ⟨⟨(by have hz:=hg1.1;rw[<-hz];simp),(by rw[<-hg1.2];simp[idxF,h2s])⟩,(by simp),Sub.x (by kernel_rfl) (by kernel_rfl) ⟨⟨_,rfl,xaz ?_⟩,trivial⟩ (by simp) (by simp[zdg]) trivial⟩;focus (first|rfl|(simp;done)|omega)
 have hrest:rest=[]:=by
  rcases rest with _|⟨a,b⟩
  ·rfl
  ·exfalso;have hz:=congrArg List.length (hg1.1);simp only[xaa,xab,xac] at hz;omega
 subst hrest;focus (refine rn [] (r1 rfl) (.eqd ?_) ⟨rfl,rfl⟩ (fun _ _ h=>h) (fun _ h=>h);all_goals (rw[<-hg1.2];simp[idxF,h1s,h1p]))
theorem zgu {xs:List Vt}{f:Nat}{caps:List AV}{hp:Hp}{p:Vt->Bool} (hs:xs.length<=1000000000000) (hcal:Callee Tryz.prog f)
  (hf:∀t∈xs,FnD Tryz.prog f ([.agg [.d (.i t.var),.d (.i t.ty.data),.d (.i t.ty.index)]]++caps) hp (.d (.bool (p t))) []) (k1:subH hp hp) (k2:zdw hp=true) (k3:zas hp [] (.d .nilp) []=true):
  FnD Tryz.prog 375 [.d (zcM xs),.fn f caps] hp (.d (.bool (xs.any p))) []:=by
 refine bd Tryz.f375 9 [] [] fun w0 F0 own kept hk=>?_;refine Walk.call (cr:=[]) zuE (zhE hs hcal hf k1 k2 k3) rfl .none rfl rfl (LeL.refl _) k1 k2 (zcN k3 _) rfl ?_;refine ev ?_;refine rn [] (r1 rfl) (.eqd ?_) ⟨rfl,rfl⟩ (fun _ _ h=>h) (fun _ h=>h);rotate_left;all_goals (exact congrArg D.bool (zeA p xs 0))
theorem zjk {b:List Vt}{v:Vt} (h:b.length<=1000000000000):FnD Tryz.prog 376 [.agg [.d (.i v.var),.d (.i v.ty.data),.d (.i v.ty.index)],.ref 3003 0] [(3003,some (.box [.d (zcM b)]))] (.d (.bool (!decide (v∈b)))) []:=by
 refine bd Tryz.f376 8 [] [] fun w0 F0 own kept hk=>?_;refine bx 3001 ?_;refine ev ?_;refine wc zrm (zeQ h) rfl rfl ?_;refine ev ?_;refine rn [] (r1 rfl) (.eqd ?_) ⟨rfl,rfl⟩ (SubH.get ⟨rfl,trivial⟩) (fun _ h=>h);rotate_left;all_goals (rfl)
theorem zgO {x y:List Vt} (hx:x.length<=1000000000000) (hy:y.length<=1000000000000):FnD Tryz.prog 349 [.d (zcM x),.d (zcM y)] [] (.d (.bool (zdW x y))) []:=by
 refine bd Tryz.f349 16 [] [] fun w0 F0 own kept hk=>?_;refine bx 3003 ?_;refine ev ?_;refine sq ?_ ?_<;>intro h1 h1p h1s;refine xaL (xs:=[_]) rfl (.some rfl rfl h1) rfl rfl ?_;refine Walk.call (cr:=[]) zuC (zgu (p:=fun v=> !decide (v∈y)) hx zuD (fun t _=>zjk hy) ⟨rfl,trivial⟩ rfl rfl) rfl (.some rfl rfl h1) rfl rfl (LeL.refl _) ⟨rfl,trivial⟩ rfl rfl rfl ?_;refine evs [] [(10,true)] ?_ ⟨⟨_,rfl,h1⟩,trivial⟩;refine rq ?_;rotate_left;refine rq ?_;rotate_left;all_goals (refine congrArg D.bool ?_;unfold zdW;first|(simp_all;done)|(simp_all;intro hz;omega))
def metA (s:List Int):List AV:=(List.range 6).map fun(i:Nat)=> .d (.bool (decide ((i:Int)∈s)))
theorem zo8 {s:List Int}{v:Int} (h0:0<=v) (h1:v<=5):(metA s)[v.toNat]?=some (.d (.bool (decide (v∈s)))):=by
 unfold metA;rw[List.getElem?_map,List.getElem?_range (by omega)];simp only[Option.map_some];rw[Int.toNat_of_nonneg h0]
theorem zo9 {s:List Int}{v:Int} (h0:0<=v) (h1:v<=5):putC (metA s) v.toNat [.d (.bool true)]=some (metA (s++[v])):=by
 have e:v=0\/v=1\/v=2\/v=3\/v=4\/v=5:=by omega
 rcases e with rfl|rfl|rfl|rfl|rfl|rfl<;>simp[metA,putC,List.range_succ]
theorem zrQ (t:Ty) (p:Pat):(zaU t p).length<=1:=by unfold zaU;split<;>simp
theorem znI:∀ {a b:List Int},a.Nodup->(∀x∈a,x∈b)->a.length<=b.length
 | [],b,_,_=>by simp
 |x::r,b,hn,hs=>by
  have hn':=List.nodup_cons.1 hn;have hx:=hs x (by simp);have h:=znI (a:=r) (b:=b.erase x) hn'.2 (fun y hy=>by
   have hne:y≠x:=fun e=>hn'.1 (e ▸ hy);exact(List.mem_erase_of_ne hne).2 (hs y (by simp[hy])))
  rw[List.length_erase_of_mem hx] at h;have:=List.length_pos_of_mem hx;simp only[xab];omega
def InR (l:List Vt):Prop:=∀v∈l,0<=v.var/\v.var<=5
theorem zrS {l:List Vt} (h:InR l) (hn:zcA l=true):l.length<=6:=by
 unfold zcA at hn;have h1:=of_decide_eq_true hn;have h2:∀x∈l.map Vt.var,x∈[(0:Int),1,2,3,4,5]:=fun x hx=>by
  obtain⟨v,hv,rfl⟩:=List.mem_map.1 hx;have:=h v hv;simp only[List.mem_cons,List.not_mem_nil,or_false];omega
 have:=znI h1 h2;simpa using this
theorem zk4 {g:Ty->Pat->Int->Option (List Vt)×Int}{or:Bool} (hg:∀t p c l,(g t p c).1=some l->InR l):∀(a:List Ty) (b:List Pat) (i:Nat) (acc:List Vt) (c:Int) (l:List Vt),InR acc->(zbl g or a b i acc c).1=some l->InR l
 | [],b,i,acc,c,l,ha,h=>by simp only[zbl,Option.some.injEq] at h;subst h;exact ha
 |_::_,[],i,acc,c,l,ha,h=>by simp only[zbl,Option.some.injEq] at h;subst h;exact ha
 |x::r,y::s,i,acc,c,l,ha,h=>by
  simp only[zbl] at h;cases hh:(g x y c).1 with
  |none=>rw[hh] at h;cases h
  |some m=>
   rw[hh] at h;simp only at h;split at h
   ·split at h
    ·exact zk4 hg r s (i+1) acc _ l ha h
    ·cases h
   ·refine zk4 hg r s (i+1) _ _ l (fun v hv=>?_) h;rcases List.mem_append.1 hv with hv|hv
    ·exact ha v hv
    ·exact hg x y c m hh v hv
theorem zpm (w:List Data):∀(n:Nat) (t:Ty) (p:Pat) (c:Int) (l:List Vt),(zaP w n t p c).1=some l->InR l/\zcA l=true
 |0,t,p,c,l,h=>by simp[zaP] at h
 |n+1,t,p,c,l,h=>by
  unfold zaP at h;split at h
  ·cases h
  ·split at h
   ·rename_i h60 ho;have ho':ownP w t p=true:=by unfold okP at ho;simp only[xad] at ho;exact ho.1
    cases hk:(zbl (zaP w n) (decide (p.op=5)) (zai w t p) p.kids 0 (zaU t p) (c+1)).1 with
    |none=>unfold finV at h;rw[hk] at h;simp only at h;rw[hk] at h;cases h
    |some m=>
     have hi:InR m:=zk4 (fun t p c l h=>(zpm w n t p c l h).1) _ _ _ _ _ m (fun v hv=>by
      unfold zaU at hv;split at hv
      ·rename_i hop;simp only[List.mem_cons,List.not_mem_nil,or_false] at hv;subst hv;exact zpd ho' hop
      ·simp at hv) hk
     unfold finV at h;rw[hk] at h;simp only at h;split at h
     ·rename_i hn;rw[hk] at h;cases h
      exact⟨hi,hn⟩
     ·cases h
   ·cases h
theorem zsC (w:List Data) (n:Nat) (t:Ty) (p:Pat) (c:Int) (h:(zaP w n t p c).1.isSome=true):c+1<=(zaP w n t p c).2/\(zaP w n t p c).2<=60:=by
 have h1:=zfz w n t p c;by_cases hw:zbL w n t p c=true
 ·have h2:=h1.2 hw;simp only[zbL,xad,decide_eq_true_eq] at hw;have:=Pat.size_eq p;omega
 ·rw[if_neg hw] at h1;rw[h1.1] at h;cases h
def zdd (o:Option (List Vt)):List Vt:=o.getD []
theorem zqN {g:Ty->Pat->Int->Option (List Vt)×Int}{or:Bool}{a:List Ty}{b:List Pat}{i:Nat}{acc:List Vt}{c:Int} (ha:i<a.length) (hl:b.length=a.length) (h:(g (nth a i) (nth b i) c).1.isSome=false):
  zbl g or (a.drop i) (b.drop i) i acc c=(none,(g (nth a i) (nth b i) c).2):=by
 rw[za2 ha,za2 (l:=b) (by omega),zbl];cases hh:(g (nth a i) (nth b i) c).1 with
 |none=>rfl
 |some l=>rw[hh] at h;cases h
theorem zrZ {g:Ty->Pat->Int->Option (List Vt)×Int}{or:Bool}{a:List Ty}{b:List Pat}{i:Nat}{acc:List Vt}{c:Int} (ha:i<a.length) (hl:b.length=a.length) (h:(g (nth a i) (nth b i) c).1.isSome=true) (ho:or=true/\i=1) (hs:zdW acc (zdd (g (nth a i) (nth b i) c).1)=false):
  zbl g or (a.drop i) (b.drop i) i acc c=(none,(g (nth a i) (nth b i) c).2):=by
 rw[za2 ha,za2 (l:=b) (by omega),zbl];cases hh:(g (nth a i) (nth b i) c).1 with
 |none=>rfl
 |some l=>rw[hh] at hs;simp only[zdd,Option.getD_some] at hs;simp only[if_pos ho,hs,Bool.false_eq_true,if_false]
theorem zqM {g:Ty->Pat->Int->Option (List Vt)×Int}{or:Bool}{a:List Ty}{b:List Pat}{i:Nat}{acc:List Vt}{c:Int} (ha:i<a.length) (hl:b.length=a.length) (h:(g (nth a i) (nth b i) c).1.isSome=true) (hs:(or=true/\i=1)->zdW acc (zdd (g (nth a i) (nth b i) c).1)=true):
  zbl g or (a.drop i) (b.drop i) i acc c=zbl g or (a.drop (i+1)) (b.drop (i+1)) (i+1) (if or=true/\i=1 then acc else acc++zdd (g (nth a i) (nth b i) c).1) (g (nth a i) (nth b i) c).2:=by
 rw[za2 ha,za2 (l:=b) (by omega),zbl];cases hh:(g (nth a i) (nth b i) c).1 with
 |none=>rw[hh] at h;cases h
 |some l=>
  by_cases ho:or=true/\i=1
  ·have:=hs ho;rw[hh] at this;simp only[zdd,Option.getD_some] at this;simp only[if_pos ho,this,if_true]
  ·simp only[if_neg ho,zdd,Option.getD_some]
theorem zr0 {g:Ty->Pat->Int->Option (List Vt)×Int}{or:Bool}{a:List Ty}{b:List Pat}{i:Nat}{acc:List Vt}{c:Int} (ha:a.length<=i):zbl g or (a.drop i) (b.drop i) i acc c=(some acc,c):=by
 rw[List.drop_eq_nil_of_le ha,zbl];intro a r b s h;cases h
theorem zfA (w:List Data) (n:Nat) (t:Ty) (p:Pat) (c:Int):InR (zdd (zaP w n t p c).1)/\(zdd (zaP w n t p c).1).length<=6:=by
 cases h:(zaP w n t p c).1 with
 |none=>exact⟨fun v hv=>by simp[zdd] at hv,by simp[zdd]⟩
 |some l=>
  have:=zpm w n t p c l h;exact⟨this.1,zrS this.1 this.2⟩
structure GoodS (w:List Data) (n:Nat) (t:Ty) (p:Pat) (c:Int) (x:Nat×List Vt×Int):Prop where
 le:x.1<=p.kids.length
 eq:zbl (zaP w n) (decide (p.op=5)) ((zai w t p).drop x.1) (p.kids.drop x.1) x.1 x.2.1 x.2.2=zbl (zaP w n) (decide (p.op=5)) (zai w t p) p.kids 0 (zaU t p) (c+1)
 lc:(x.1:Int)<=x.2.2
 c0:0<=x.2.2
 c1:x.2.2<=60
 len:x.2.1.length<=1+6*x.1
 inr:InR x.2.1
def zcm (w:List Data) (n:Nat) (t:Ty) (p:Pat) (x:Nat×List Vt×Int):Nat×List Vt×Int:=
 (x.1+1,if decide (p.op=5)=true/\x.1=1 then x.2.1 else x.2.1++zdd (zaP w n (nth (zai w t p) x.1) (nth p.kids x.1) x.2.2).1,(zaP w n (nth (zai w t p) x.1) (nth p.kids x.1) x.2.2).2)
theorem GoodS.next {w:List Data}{n:Nat}{t:Ty}{p:Pat}{c:Int}{x:Nat×List Vt×Int} (hl:p.kids.length=(zai w t p).length) (hg:GoodS w n t p c x) (hlt:x.1<p.kids.length)
  (hz:(zaP w n (nth (zai w t p) x.1) (nth p.kids x.1) x.2.2).1.isSome=true) (hs:(decide (p.op=5)=true/\x.1=1)->zdW x.2.1 (zdd (zaP w n (nth (zai w t p) x.1) (nth p.kids x.1) x.2.2).1)=true):
  GoodS w n t p c (zcm w n t p x):=by
 obtain⟨h1,h2,h3,h4,h5,h6,h7⟩:=hg;have hb:=zsC w n _ _ _ hz;have ho:=zfA w n (nth (zai w t p) x.1) (nth p.kids x.1) x.2.2;refine⟨by unfold zcm;dsimp only;omega, ?_,by unfold zcm;dsimp only;omega,by unfold zcm;dsimp only;omega,by unfold zcm;dsimp only;omega, ?_, ?_⟩
 ·rw[<-h2,zqM (by omega) hl hz hs];rfl
 ·unfold zcm;dsimp only;split
  ·omega
  ·rw[xaa];omega
 ·unfold zcm;dsimp only;split
  ·exact h7
  ·intro v hv;rcases List.mem_append.1 hv with hv|hv
   ·exact h7 v hv
   ·exact ho.1 v hv
theorem GoodS.none {w:List Data}{n:Nat}{t:Ty}{p:Pat}{c:Int}{x:Nat×List Vt×Int} (hl:p.kids.length=(zai w t p).length) (hg:GoodS w n t p c x) (hlt:x.1<p.kids.length)
  (hz:(zaP w n (nth (zai w t p) x.1) (nth p.kids x.1) x.2.2).1.isSome=false):
  finV (zbl (zaP w n) (decide (p.op=5)) (zai w t p) p.kids 0 (zaU t p) (c+1))=(none,(zaP w n (nth (zai w t p) x.1) (nth p.kids x.1) x.2.2).2):=by
 rw[<-hg.eq,zqN (by omega) hl hz];rfl
theorem GoodS.bad {w:List Data}{n:Nat}{t:Ty}{p:Pat}{c:Int}{x:Nat×List Vt×Int} (hl:p.kids.length=(zai w t p).length) (hg:GoodS w n t p c x) (hlt:x.1<p.kids.length)
  (hz:(zaP w n (nth (zai w t p) x.1) (nth p.kids x.1) x.2.2).1.isSome=true) (ho:p.op=5/\x.1=1) (hs:zdW x.2.1 (zdd (zaP w n (nth (zai w t p) x.1) (nth p.kids x.1) x.2.2).1)=false):
  finV (zbl (zaP w n) (decide (p.op=5)) (zai w t p) p.kids 0 (zaU t p) (c+1))=(Option.none,(zaP w n (nth (zai w t p) x.1) (nth p.kids x.1) x.2.2).2):=by
 rw[<-hg.eq,zrZ (by omega) hl hz (by simpa using ho) hs];rfl
theorem GoodS.fin {w:List Data}{n:Nat}{t:Ty}{p:Pat}{c:Int}{x:Nat×List Vt×Int} (hl:p.kids.length=(zai w t p).length) (hg:GoodS w n t p c x) (hge:p.kids.length<=x.1):
  finV (zbl (zaP w n) (decide (p.op=5)) (zai w t p) p.kids 0 (zaU t p) (c+1))=(if zcA x.2.1=true then some x.2.1 else Option.none,x.2.2):=by
 rw[<-hg.eq,zr0 (by omega)];unfold finV;simp only;split<;>rfl
theorem zrR {pre rest l:List Vt}{y:Vt} (h:pre++y::rest=l) (hm:y.var∈pre.map Vt.var):zcA l=false:=by
 unfold zcA;refine decide_eq_false (fun hn=>?_);rw[<-h,xaf,xae,List.nodup_append] at hn;exact hn.2.2 _ hm _ (by simp) rfl
theorem zl9 {pre:List Vt}{y:Vt} (h:(pre.map Vt.var).Nodup) (hm:y.var∉pre.map Vt.var):((pre++[y]).map Vt.var).Nodup:=by
 rw[xaf,List.nodup_append];exact⟨h,by simp,fun a ha b hb=>by simp at hb;subst hb;exact fun e=>hm (e ▸ ha)⟩
def retV (r:Option (List Vt)×Int):AV:= .tup [.d (zcM (zdd r.1)),.d (.bool r.1.isSome)]
theorem zdE {w:List Data} (hw:WT w):∀(n:Nat){a k d c:Int}{p:Pat},d+n=11->n<=10->TyIn w.length ⟨a,k⟩->p.ok->0<=c->c<=1000000000000->
  FnD Tryz.prog 293 [.d (zam w),.agg [.d (.i a),.d (.i k)],.agg [.d (.i p.op),.d (.i p.ctor),.d (.i p.n),.d (.i p.m),.d (.i p.var),.d (zae p.kids)],.d (.i d),.ref 950 0] [(950,some (.box [.d (.i c)]))]
   (retV (zaP w n ⟨a,k⟩ p c)) [(950,some (.box [.d (.i (zaP w n ⟨a,k⟩ p c).2)]))]
 |0,a,k,d,c,p,hd,_,_,_,c0,c1=>by
  refine bd Tryz.f293 114 [] [2] fun w0 F0 own kept hk=>?_;refine bx 3006 ?_;refine bx 3007 ?_;refine ev ?_;refine ar ?_;refine so ty3 ?_;refine tv ?_;refine xaq ?_;refine xaD 8 [(34,.d (.bool (true)))] [27,28,29,30,31,32,33] ?_ ?_;refine ev ?_;refine sq ?_ ?_<;>intro h1 h1p h1s;exact jnb rfl;exact jnb rfl;refine xaC ?_;refine tv ?_;refine sq ?_ ?_<;>intro h2 h2p h2s;refine rn [(950,some (.box [.d (.i (zaP w 0 ⟨a,k⟩ p c).2)]))] (r2 rfl rfl) (.tup (.cons (.nild ?_) (.cons (.eqd ?_) .nil))) ⟨rfl,rfl⟩ (SubO.get ⟨.inr ?_,⟨.inl rfl,trivial⟩⟩) (za6 rfl);rotate_left 3;exact absurd h2 (by simp);all_goals (first|((rfl);done)|(rfl))
 |n+1,a,k,d,c,p,hd,hn,ht,hok,c0,c1=>by
  by_cases h60:60<c+1
  ·have e:zaP w (n+1) ⟨a,k⟩ p c=(none,c+1):=by unfold zaP;rw[if_pos h60]
   rw[e];refine bd Tryz.f293 114 [] [2] fun w0 F0 own kept hk=>?_;refine bx 3006 ?_;refine bx 3007 ?_;refine ev ?_;refine ar ?_;refine so ty3 ?_;refine tv ?_;refine xaq ?_;refine xaD 8 [(34,.d (.bool (true)))] [27,28,29,30,31,32,33] ?_ ?_;refine ev ?_;refine sq ?_ ?_<;>intro h1 h1p h1s;exact jnb rfl;exact jnb rfl;refine xaC ?_;refine tv ?_;refine sq ?_ ?_<;>intro h2 h2p h2s;refine rn [(950,some (.box [.d (.i (c+1))]))] (r2 rfl rfl) (.tup (.cons (.nild ?_) (.cons (.eqd ?_) .nil))) ⟨rfl,rfl⟩ (SubO.get ⟨.inr ?_,⟨.inl rfl,trivial⟩⟩) (za6 rfl);rotate_left 3;exact absurd h2 (by simp);all_goals (first|((rfl);done)|(rfl))
  have hsh:=ziK hw (p:=p) ht;by_cases hop:okP w ⟨a,k⟩ p=true
  ·have hok':=hok;rw[Pat.ok_iff] at hok;have hop':=hop;unfold okP at hop';simp only[xad,decide_eq_true_eq] at hop';obtain⟨ho,hl⟩:=hop';have hin:=zf1 hw ht ho;have hlen:=zgx hw ht (zcg ho);have hst:zcB w ⟨a,k⟩ p=zai w ⟨a,k⟩ p:=by unfold zcB;rw[if_neg (fun h=>h.2 (zcg ho h.1))]
   rw[hst,hop] at hsh;have e:zaP w (n+1) ⟨a,k⟩ p c=finV (zbl (zaP w n) (decide (p.op=5)) (zai w ⟨a,k⟩ p) p.kids 0 (zaU ⟨a,k⟩ p) (c+1)):=by
    conv=>lhs;unfold zaP
    rw[if_neg h60,if_pos hop]
   have hnr:InR (zaU ⟨a,k⟩ p):=fun v hv=>by
    unfold zaU at hv;split at hv
    ·rename_i hop;simp only[List.mem_cons,List.not_mem_nil,or_false] at hv;subst hv;exact zpd ho hop
    ·simp at hv
   have hnl:=zrQ ⟨a,k⟩ p;rw[e];refine bd Tryz.f293 114 [14,108] [2,8,17] fun w0 F0 own kept hk=>?_;refine bx 3006 ?_;refine bx 3007 ?_;refine evs [14,108] [] ?_;refine ar ?_;refine so ty3 ?_;refine tv ?_;refine xaq ?_;refine xaD 8 [(34,.d (.bool (false)))] [27,28,29,30,31,32,33] ?_ ?_;refine evs [14,108] [] ?_;refine sq ?_ ?_<;>intro h1 h1p h1s;exact jnb rfl;exact jnb rfl;refine xaC ?_;refine tv ?_;refine sq ?_ ?_<;>intro h2 h2p h2s;exact absurd h2 (by simp);refine wc zoG (hsh) rfl rfl ?_;refine evs [14,108] [] ?_;refine sq ?_ ?_<;>intro h3 h3p h3s;exact absurd h3 (by simp);refine xaG 5 3 .none rfl rfl ?_;refine tv ?_;refine xaq ?_;refine xaD 8 [(51,.d (.bool (decide (p.op=2\/p.op=6))))] [44,45,46,47,48,49,50] ?_ ?_;refine evs [14,108] [] ?_;refine sq ?_ ?_<;>intro h4 h4p h4s;exact jnb rfl;exact jnb rfl;refine xaC ?_;refine tv ?_;refine sq ?_ ?_<;>intro h5 h5p h5s;refine bu [0,1] [_,_] zqR ?_;refine si [0] [_] zdc zoo ?_;refine ap zdc zoq rfl rfl rfl (by simp) (by(simp;done)) ?_;refine asg ?_;refine tv ?_;refine xam (ι:=Nat×List Vt×Int) hk (fun z=>[(62,.d (.i (z.1:Int))),(14,.gl 5 (z.2.1.map Vt.c))]) [10,11,15,16,17,18,63,64,65,66,67,68,69,70,71,72,73,74,75,76,77,78,79,80,81,82,83,84,85,86,87,88,89,90,91,92,93,94,95,96,97,98] (fun z=>[(950,some (.box [.d (.i z.2.2)])),(5,some (.tok ((z.2.1.map Vt.c)).length 3))]) (fun z=>GoodS w n ⟨a,k⟩ p c z) (fun z=>p.kids.length-z.1) (0,zaU ⟨a,k⟩ p,c+1) ⟨by simp,by simp,by dsimp only;omega,by dsimp only;omega,by dsimp only;omega,by dsimp only;omega,hnr⟩ ⟨⟨_,rfl,xaz ?_⟩,⟨⟨_,rfl,LeA.glg ?_⟩,trivial⟩⟩ ⟨?_,⟨zad ?_,trivial⟩⟩ (fun x=>rfl) (fun z hg1=>?_);iterate 2 focus (first|rfl|(simp_all[zaU];done))
   focus (first|rfl|(simp[getH];done))
   focus (first|rfl|(simp_all[zaU];done))
   obtain⟨s1,_,s3,s4,s5,s6,s7⟩:=id hg1;refine evc [14,108] [2,8,17] ?_;refine sq ?_ ?_<;>intro h6 h6p h6s<;>(try simp only[Q,Pat.cs_len] at h6p);refine xaS sl34 .none rfl rfl rfl rfl (zaH (by omega)) rfl ?_;refine evs [14,108] [] ?_;refine ab 3016 tz36 ?_;refine evs [14,108] [] ?_;refine so ty36 ?_;refine tv ?_;refine xaS za4 .none rfl rfl rfl rfl (zax (by omega)) rfl ?_;refine evd [14,108] [] ?_;refine ar ?_;refine wd zoJ (zdE hw n (a:=(nth (zai w ⟨a,k⟩ p) z.1).data) (k:=(nth (zai w ⟨a,k⟩ p) z.1).index) (c:=z.2.2) (p:=nth p.kids z.1) (by omega) (by omega) (hin _ (zal (by omega))) (Pats.ok_mem hok.2 _ (zal (by omega))) (by omega) (by omega)) rfl rfl ⟨rfl,trivial⟩ ?_;refine evd [14,108] [] ?_;refine dr ?_;refine sq ?_ ?_<;>intro h7 h7p h7s;refine rn [(950,some (.box [.d (.i (finV (zbl (zaP w n) (decide (p.op=5)) (zai w ⟨a,k⟩ p) p.kids 0 (zaU ⟨a,k⟩ p) (c+1))).2)]))] (r2 rfl rfl) (.tup (.cons (.nild ?_) (.cons (.eqd ?_) .nil))) ⟨rfl,rfl⟩ (SubO.get ⟨.inr ?_,⟨.inl rfl,trivial⟩⟩) (za6 rfl);rotate_left 3;refine xaq ?_;refine xaD 7 [(93,.d (.bool (decide (p.op=5/\z.1=1))))] [87,88,89,90,91,92] ?_ ?_;refine evs [14,108] [] ?_;refine sq ?_ ?_<;>intro h8 h8p h8s;exact jnb rfl;exact jnb rfl;refine xaC ?_;refine evs [14,108] [] ?_;refine sq ?_ ?_<;>intro h9 h9p h9s<;>(try simp only[Q,Pat.cs_len] at h9p);refine Walk.call (cr:=[]) zrt (zgO (by omega) (by have hz:=(zfA w n ⟨(nth (zai w ⟨a,k⟩ p) z.1).data,(nth (zai w ⟨a,k⟩ p) z.1).index⟩ (nth p.kids z.1) z.2.2).2;omega)) rfl .none rfl rfl (.cons (.gl _ _) (.cons (.refl _) .nil)) trivial rfl rfl rfl ?_;refine evs [14,108] [] ?_;refine sq ?_ ?_<;>intro h10 h10p h10s<;>(try simp only[Q,Pat.cs_len] at h10p);refine rn [(950,some (.box [.d (.i (finV (zbl (zaP w n) (decide (p.op=5)) (zai w ⟨a,k⟩ p) p.kids 0 (zaU ⟨a,k⟩ p) (c+1))).2)]))] (r2 rfl rfl) (.tup (.cons (.nild ?_) (.cons (.eqd ?_) .nil))) ⟨rfl,rfl⟩ (SubO.get ⟨.inr ?_,⟨.inl rfl,trivial⟩⟩) (za6 rfl);rotate_left 3;refine ar ?_;refine xah ((zcm w n ⟨a,k⟩ p z)) ⟨(hg1.next hl (by omega) (by simp_all) (fun ho=>by simp_all)),(by unfold zcm;dsimp only;omega),sx ⟨⟨_,rfl,xaz ?_⟩,⟨⟨_,rfl,LeA.glg ?_⟩,trivial⟩⟩ ⟨?_,⟨zad ?_,trivial⟩⟩⟩;iterate 2 focus (first|rfl|(simp_all[zaU];done))
   focus (first|rfl|(simp[getH];done))
   focus (first|rfl|(simp_all[zaU];done))
   refine ap zdc zoq rfl rfl rfl (by simp) (by first|(simp;done)|(have hz:=(zfA w n ⟨(nth (zai w ⟨a,k⟩ p) z.1).data,(nth (zai w ⟨a,k⟩ p) z.1).index⟩ (nth p.kids z.1) z.2.2).2;simp;omega)) ?_;refine asg ?_;refine tv ?_;refine ar ?_;refine xah ((zcm w n ⟨a,k⟩ p z)) ⟨(hg1.next hl (by omega) (by simp_all) (fun ho=>by simp_all)),(by unfold zcm;dsimp only;omega),sx ⟨⟨_,rfl,xaz ?_⟩,⟨⟨_,rfl,LeA.glg ?_⟩,trivial⟩⟩ ⟨?_,⟨zad ?_,trivial⟩⟩⟩;iterate 2 focus (first|rfl|(simp_all[zaU];done)|(unfold zcm;dsimp only;rw[if_neg (by simp_all)];simp;done))
   focus (first|rfl|(simp[getH];done))
   focus (first|rfl|(simp_all[zaU];done)|(unfold zcm;dsimp only;rw[if_neg (by simp_all)];simp;done))
   refine ab 3019 ztg ?_;refine tv ?_;refine xam (ι:=List (Vt)×List (Vt)) hk (fun x=>[(101,.d (.i (x.1.length:Int)))]) [10,11,21,102,103,104,105,106,107,108,109,110,111,112] (fun x=>[(3019,some (.box (metA (x.1.map Vt.var))))]) (fun x=>x.1++x.2=z.2.1/\(x.1.map Vt.var).Nodup) (fun x=>x.2.length) ([],z.2.1) ⟨by simp,by simp⟩ ⟨⟨_,rfl,xaz ?_⟩,trivial⟩ ⟨?_,trivial⟩ (fun x=>rfl) (fun x hg2=>?_);focus (first|rfl|omega)
   focus (first|rfl|(simp[getH];done))
   obtain⟨pre,rest⟩:=x;dsimp only at hg2 ⊢;refine evc [14,108] [2,8,17] ?_;refine sq ?_ ?_<;>intro h11 h11p h11s<;>(try simp only[Q,Pat.cs_len] at h11p);rcases rest with _|⟨y,rest⟩
   ·exfalso;simp_all
   have hy:=s7 y (by rw[<-hg2.1];simp);refine Walk.idxG zdc .none rfl rfl rfl rfl (zaR hg2.1) rfl ?_;refine evs [14,108] [] ?_;refine ab 3021 zoo ?_;refine so ztf ?_;refine tv ?_;refine xaT (i:=y.var.toNat) zoc .none rfl rfl rfl (Int.toNat_of_nonneg hy.1).symm (by omega) ?_;refine xaY ty4 .none rfl rfl rfl ((by simpa using zo8 hy.1 hy.2)) ?_;refine tv ?_;refine sq ?_ ?_<;>intro h12 h12p h12s<;>(try simp only[Q,Pat.cs_len] at h12p);refine rn [(950,some (.box [.d (.i (finV (zbl (zaP w n) (decide (p.op=5)) (zai w ⟨a,k⟩ p) p.kids 0 (zaU ⟨a,k⟩ p) (c+1))).2)]))] (r2 rfl rfl) (.tup (.cons (.nild ?_) (.cons (.eqd ?_) .nil))) ⟨rfl,rfl⟩ (SubO.get ⟨.inr ?_,⟨.inl rfl,trivial⟩⟩) (za6 rfl);rotate_left 3;refine xaT (i:=y.var.toNat) zoc .none rfl rfl rfl (Int.toNat_of_nonneg hy.1).symm (by omega) ?_;refine Walk.store ty4 .none rfl rfl rfl rfl rfl rfl (by simp) ((by simpa using zo9 hy.1 hy.2)) ?_;refine tv ?_;refine ar ?_;refine xah ((pre++[y],rest)) ⟨⟨(by have hz:=hg2.1;rw[<-hz];simp),(zl9 hg2.2 (by simp_all))⟩,(by simp),sx ⟨⟨_,rfl,xaz ?_⟩,trivial⟩ ⟨?_,trivial⟩⟩;focus (first|rfl|(simp;done)|omega)
   focus (first|rfl|(simp[getH];done))
   have hrest:rest=[]:=by
    rcases rest with _|⟨a,b⟩
    ·rfl
    ·exfalso;have hz:=congrArg List.length (hg2.1);simp only[xaa,xab,xac] at hz;omega
   subst hrest;refine rn [(950,some (.box [.d (.i (finV (zbl (zaP w n) (decide (p.op=5)) (zai w ⟨a,k⟩ p) p.kids 0 (zaU ⟨a,k⟩ p) (c+1))).2)]))] (r2 rfl rfl) (.tup (.cons (.gld ?_) (.cons (.eqd ?_) .nil))) ⟨rfl,rfl⟩ (SubO.get ⟨.inr ?_,⟨.inl rfl,trivial⟩⟩) (za6 rfl);rotate_left 3;try simp only[Q,Pat.cs_len] at h5p
   refine xam (ι:=Nat×List Vt×Int) hk (fun z=>[(62,.d (.i (z.1:Int))),(14,.gl 5 (z.2.1.map Vt.c))]) [10,11,15,16,17,18,63,64,65,66,67,68,69,70,71,72,73,74,75,76,77,78,79,80,81,82,83,84,85,86,87,88,89,90,91,92,93,94,95,96,97,98] (fun z=>[(950,some (.box [.d (.i z.2.2)])),(5,some (.tok ((z.2.1.map Vt.c)).length 3))]) (fun z=>GoodS w n ⟨a,k⟩ p c z) (fun z=>p.kids.length-z.1) (0,zaU ⟨a,k⟩ p,c+1) ⟨by simp,by simp,by dsimp only;omega,by dsimp only;omega,by dsimp only;omega,by dsimp only;omega,hnr⟩ ⟨⟨_,rfl,xaz ?_⟩,⟨⟨_,rfl,LeA.glg ?_⟩,trivial⟩⟩ ⟨?_,⟨zad ?_,trivial⟩⟩ (fun x=>rfl) (fun z hg1=>?_);iterate 2 focus (first|rfl|(simp_all[zaU];done))
   focus (first|rfl|(simp[getH];done))
   focus (first|rfl|(simp_all[zaU];done))
   obtain⟨s1,_,s3,s4,s5,s6,s7⟩:=id hg1;refine evc [14,108] [2,8,17] ?_;refine sq ?_ ?_<;>intro h13 h13p h13s<;>(try simp only[Q,Pat.cs_len] at h13p);refine xaS sl34 .none rfl rfl rfl rfl (zaH (by omega)) rfl ?_;refine evs [14,108] [] ?_;refine ab 3016 tz36 ?_;refine evs [14,108] [] ?_;refine so ty36 ?_;refine tv ?_;refine xaS za4 .none rfl rfl rfl rfl (zax (by omega)) rfl ?_;refine evd [14,108] [] ?_;refine ar ?_;refine wd zoJ (zdE hw n (a:=(nth (zai w ⟨a,k⟩ p) z.1).data) (k:=(nth (zai w ⟨a,k⟩ p) z.1).index) (c:=z.2.2) (p:=nth p.kids z.1) (by omega) (by omega) (hin _ (zal (by omega))) (Pats.ok_mem hok.2 _ (zal (by omega))) (by omega) (by omega)) rfl rfl ⟨rfl,trivial⟩ ?_;refine evd [14,108] [] ?_;refine dr ?_;refine sq ?_ ?_<;>intro h14 h14p h14s<;>(try simp only[Q,Pat.cs_len] at h14p);refine rn [(950,some (.box [.d (.i (finV (zbl (zaP w n) (decide (p.op=5)) (zai w ⟨a,k⟩ p) p.kids 0 (zaU ⟨a,k⟩ p) (c+1))).2)]))] (r2 rfl rfl) (.tup (.cons (.nild ?_) (.cons (.eqd ?_) .nil))) ⟨rfl,rfl⟩ (SubO.get ⟨.inr ?_,⟨.inl rfl,trivial⟩⟩) (za6 rfl);rotate_left 3;refine xaq ?_;refine xaD 7 [(93,.d (.bool (decide (p.op=5/\z.1=1))))] [87,88,89,90,91,92] ?_ ?_;refine evs [14,108] [] ?_;refine sq ?_ ?_<;>intro h15 h15p h15s<;>(try simp only[Q,Pat.cs_len] at h15p);exact jnb rfl;exact jnb rfl;refine xaC ?_;refine evs [14,108] [] ?_;refine sq ?_ ?_<;>intro h16 h16p h16s<;>(try simp only[Q,Pat.cs_len] at h16p);refine Walk.call (cr:=[]) zrt (zgO (by omega) (by have hz:=(zfA w n ⟨(nth (zai w ⟨a,k⟩ p) z.1).data,(nth (zai w ⟨a,k⟩ p) z.1).index⟩ (nth p.kids z.1) z.2.2).2;omega)) rfl .none rfl rfl (.cons (.gl _ _) (.cons (.refl _) .nil)) trivial rfl rfl rfl ?_;refine evs [14,108] [] ?_;refine sq ?_ ?_<;>intro h17 h17p h17s<;>(try simp only[Q,Pat.cs_len] at h17p);refine rn [(950,some (.box [.d (.i (finV (zbl (zaP w n) (decide (p.op=5)) (zai w ⟨a,k⟩ p) p.kids 0 (zaU ⟨a,k⟩ p) (c+1))).2)]))] (r2 rfl rfl) (.tup (.cons (.nild ?_) (.cons (.eqd ?_) .nil))) ⟨rfl,rfl⟩ (SubO.get ⟨.inr ?_,⟨.inl rfl,trivial⟩⟩) (za6 rfl);rotate_left 3;refine ar ?_;refine xah ((zcm w n ⟨a,k⟩ p z)) ⟨(hg1.next hl (by omega) (by simp_all) (fun ho=>by simp_all)),(by unfold zcm;dsimp only;omega),sx ⟨⟨_,rfl,xaz ?_⟩,⟨⟨_,rfl,LeA.glg ?_⟩,trivial⟩⟩ ⟨?_,⟨zad ?_,trivial⟩⟩⟩;iterate 2 focus (first|rfl|(simp_all[zaU];done)|(unfold zcm;dsimp only;rw[if_pos (by simp_all)];done))
   focus (first|rfl|(simp[getH];done))
   focus (first|rfl|(simp_all[zaU];done)|(unfold zcm;dsimp only;rw[if_pos (by simp_all)];done))
   refine ap zdc zoq rfl rfl rfl (by simp) (by first|(simp;done)|(have hz:=(zfA w n ⟨(nth (zai w ⟨a,k⟩ p) z.1).data,(nth (zai w ⟨a,k⟩ p) z.1).index⟩ (nth p.kids z.1) z.2.2).2;simp;omega)) ?_;refine asg ?_;refine tv ?_;refine ar ?_;refine xah ((zcm w n ⟨a,k⟩ p z)) ⟨(hg1.next hl (by omega) (by simp_all) (fun ho=>by simp_all)),(by unfold zcm;dsimp only;omega),sx ⟨⟨_,rfl,xaz ?_⟩,⟨⟨_,rfl,LeA.glg ?_⟩,trivial⟩⟩ ⟨?_,⟨zad ?_,trivial⟩⟩⟩;iterate 2 focus (first|rfl|(simp_all[zaU];done)|(unfold zcm;dsimp only;rw[if_neg (by simp_all)];simp;done))
   focus (first|rfl|(simp[getH];done))
   focus (first|rfl|(simp_all[zaU];done)|(unfold zcm;dsimp only;rw[if_neg (by simp_all)];simp;done))
   refine ab 3019 ztg ?_;refine tv ?_;refine xam (ι:=List (Vt)×List (Vt)) hk (fun x=>[(101,.d (.i (x.1.length:Int)))]) [10,11,21,102,103,104,105,106,107,108,109,110,111,112] (fun x=>[(3019,some (.box (metA (x.1.map Vt.var))))]) (fun x=>x.1++x.2=z.2.1/\(x.1.map Vt.var).Nodup) (fun x=>x.2.length) ([],z.2.1) ⟨by simp,by simp⟩ ⟨⟨_,rfl,xaz ?_⟩,trivial⟩ ⟨?_,trivial⟩ (fun x=>rfl) (fun x hg2=>?_);focus (first|rfl|omega)
   focus (first|rfl|(simp[getH];done))
   obtain⟨pre,rest⟩:=x;dsimp only at hg2 ⊢;refine evc [14,108] [2,8,17] ?_;refine sq ?_ ?_<;>intro h18 h18p h18s<;>(try simp only[Q,Pat.cs_len] at h18p);rcases rest with _|⟨y,rest⟩
   ·exfalso;simp_all
   have hy:=s7 y (by rw[<-hg2.1];simp);refine Walk.idxG zdc .none rfl rfl rfl rfl (zaR hg2.1) rfl ?_;refine evs [14,108] [] ?_;refine ab 3021 zoo ?_;refine so ztf ?_;refine tv ?_;refine xaT (i:=y.var.toNat) zoc .none rfl rfl rfl (Int.toNat_of_nonneg hy.1).symm (by omega) ?_;refine xaY ty4 .none rfl rfl rfl ((by simpa using zo8 hy.1 hy.2)) ?_;refine tv ?_;refine sq ?_ ?_<;>intro h19 h19p h19s<;>(try simp only[Q,Pat.cs_len] at h19p);refine rn [(950,some (.box [.d (.i (finV (zbl (zaP w n) (decide (p.op=5)) (zai w ⟨a,k⟩ p) p.kids 0 (zaU ⟨a,k⟩ p) (c+1))).2)]))] (r2 rfl rfl) (.tup (.cons (.nild ?_) (.cons (.eqd ?_) .nil))) ⟨rfl,rfl⟩ (SubO.get ⟨.inr ?_,⟨.inl rfl,trivial⟩⟩) (za6 rfl);rotate_left 3;refine xaT (i:=y.var.toNat) zoc .none rfl rfl rfl (Int.toNat_of_nonneg hy.1).symm (by omega) ?_;refine Walk.store ty4 .none rfl rfl rfl rfl rfl rfl (by simp) ((by simpa using zo9 hy.1 hy.2)) ?_;refine tv ?_;refine ar ?_;refine xah ((pre++[y],rest)) ⟨⟨(by have hz:=hg2.1;rw[<-hz];simp),(zl9 hg2.2 (by simp_all))⟩,(by simp),sx ⟨⟨_,rfl,xaz ?_⟩,trivial⟩ ⟨?_,trivial⟩⟩;focus (first|rfl|(simp;done)|omega)
   focus (first|rfl|(simp[getH];done))
   have hrest:rest=[]:=by
    rcases rest with _|⟨a,b⟩
    ·rfl
    ·exfalso;have hz:=congrArg List.length (hg2.1);simp only[xaa,xab,xac] at hz;omega
   subst hrest;refine rn [(950,some (.box [.d (.i (finV (zbl (zaP w n) (decide (p.op=5)) (zai w ⟨a,k⟩ p) p.kids 0 (zaU ⟨a,k⟩ p) (c+1))).2)]))] (r2 rfl rfl) (.tup (.cons (.gld ?_) (.cons (.eqd ?_) .nil))) ⟨rfl,rfl⟩ (SubO.get ⟨.inr ?_,⟨.inl rfl,trivial⟩⟩) (za6 rfl);rotate_left 3;all_goals (((first|(rw[hg1.none hl (by omega) (by assumption)];first|done|rfl)|(rw[hg1.bad hl (by omega) (by assumption) (by assumption) (by assumption)];first|done|rfl)|(rw[hg1.fin hl (by omega),if_neg (by rw[zrR hg2.1 (by assumption)];simp)];first|done|rfl)|(rw[hg1.fin hl (by omega),if_pos (by have hz:=hg2.1;rw[List.append_nil] at hz;rw[<-hz];exact decide_eq_true hg2.2)];first|done|rfl));done))
  ·have hopf:okP w ⟨a,k⟩ p=false:=by simpa using hop
   have e:zaP w (n+1) ⟨a,k⟩ p c=(none,c+1):=by unfold zaP;rw[if_neg h60,if_neg hop]
   rw[e];rw[hopf] at hsh;refine bd Tryz.f293 114 [] [2] fun w0 F0 own kept hk=>?_;refine bx 3006 ?_;refine bx 3007 ?_;refine ev ?_;refine ar ?_;refine so ty3 ?_;refine tv ?_;refine xaq ?_;refine xaD 8 [(34,.d (.bool (false)))] [27,28,29,30,31,32,33] ?_ ?_;refine ev ?_;refine sq ?_ ?_<;>intro h1 h1p h1s;exact jnb rfl;exact jnb rfl;refine xaC ?_;refine tv ?_;refine sq ?_ ?_<;>intro h2 h2p h2s;exact absurd h2 (by simp);refine wc zoG (hsh) rfl rfl ?_;refine ev ?_;refine sq ?_ ?_<;>intro h3 h3p h3s;refine rn [(950,some (.box [.d (.i (c+1))]))] (r2 rfl rfl) (.tup (.cons (.nild ?_) (.cons (.eqd ?_) .nil))) ⟨rfl,rfl⟩ (SubO.get ⟨.inr ?_,⟨.inl rfl,trivial⟩⟩) (za6 rfl);rotate_left 3;exact absurd h3 (by simp);all_goals (first|((rfl);done)|(rfl))
end Go.Proofs.YtlfipehhbdjnjaaGreat
