/-
  THE ABSTRACT WALK AND THE WALKS, part 3 of 5: the parts F12, F4, F5, F15, F6, Wv, G1, F20, F21, F24, F25, F13, G2, F22, F26, F23, F27, F28, F29, F40, F14, F16, F42, Val, F7, F8, Wu, F9, F10, F11, F17.
-/
import Derived.Test.YtlfipehhbdjnjaaGreatT542
namespace Go.Proofs.YtlfipehhbdjnjaaGreat
open Go
set_option linter.unusedSimpArgs false
set_option linter.unusedVariables false
set_option maxRecDepth 100000
set_option maxHeartbeats 2000000
def zjN (n:Nat):UInt8:=UInt8.ofNat (IntKind.u8.wrap (48+(n:Int) % 10)).toNat
def digs (n:Nat):Str:=if n=0 then [] else digs (n / 10)++[zjN n]
theorem zlc:digs 0=[]:=by unfold digs;rfl
theorem zmp {n:Nat} (h:0<n):digs n=digs (n / 10)++[zjN n]:=by
 conv=>lhs;unfold digs
 rw[if_neg (by omega)]
theorem zmo:∀n:Nat,(digs n).length<=n
 |0=>by rw[zlc];simp
 |n+1=>by
  rw[zmp (by omega)];have:=zmo ((n+1) / 10);simp only[xaa,xab,xai];omega
termination_by n=>n
decreasing_by omega
def ziz (n:Nat):Str:=109::digs n
def Ty.one (k:Int) (_:Ty):Ty:=⟨k,k+1⟩
def Ty.sz (_:Ty):Int:=2
def Ctor.one (k:Int) (x:Ctor):Ctor:=⟨ziz k.toNat,mkL Ty.one Ty.sz (k+1) x.args,k+1+szL Ty.sz x.args⟩
def Ctor.sz (x:Ctor):Int:=2+szL Ty.sz x.args
def Data.one (k:Int) (x:Data):Data:=⟨ziz k.toNat,mkL Ctor.one Ctor.sz (k+1) x.ctors⟩
def Data.sz (x:Data):Int:=1+szL Ctor.sz x.ctors
theorem Ty.sz_nn (x:Ty):0<=x.sz:=by simp[Ty.sz]
theorem Ctor.sz_nn (x:Ctor):0<=x.sz:=by have:=zaB (l:=x.args) Ty.sz_nn;unfold Ctor.sz;omega
theorem Data.sz_nn (x:Data):0<=x.sz:=by have:=zaB (l:=x.ctors) Ctor.sz_nn;unfold Data.sz;omega
theorem zns:∀l:List Ty,szL Ty.sz l=2*l.length
 | []=>rfl
 |x::r=>by simp only[szL,zns r,Ty.sz,xab];omega
theorem zcC {α:Type}{sz:α->Int}{pre rest l:List α}{y:α} (h:pre++y::rest=l):szL sz l=szL sz pre+sz y+szL sz rest:=by
 subst h;rw[zhi];simp only[szL];omega
theorem zji {n:Nat} (hn:0<n) (hb:(n:Int)<=1000000000000):FnD Tryz.prog 88 [.d (.i (n:Int))] [] (.d (.str (ziz n))) []:=by
 have hl:=zmo n;refine bd Tryz.f88 20 [9,15,17,19] [] fun w0 F0 own kept hk=>?_;refine sq ?_ ?_<;>intro h1 h1p h1s<;>(try simp only[Q] at h1p);exfalso;omega;refine xam (ι:=Nat×Str) hk (fun x=>[(0,.d (.i (x.1:Int))),(3,.d (.str x.2))]) [6,7,8,9,10,11,12,13,14,15,16,17] (fun x=>[]) (fun x=>digs x.1++x.2=digs n/\x.1<=n) (fun x=>x.1) (n,[]) (by simp) ⟨⟨_,rfl,xau ?_⟩,⟨⟨_,rfl,LeA.eqs ?_⟩,trivial⟩⟩ trivial (fun x=>rfl) (fun x hg1=>?_);iterate 2 focus (first|rfl|(dsimp only;omega)|(simp[strN,zjN];done))
 refine evc [9,15,17,19] [] ?_;refine sq ?_ ?_<;>intro h2 h2p h2s<;>(try simp only[Q] at h2p);refine Walk.remI .none rfl rfl rfl (by omega) ?_;refine evs [9,15,17,19] [] ?_;refine ar ?_;refine xaI (by rw[un3];rfl) un5 .none rfl rfl ?_;refine si [0] [_] sl22 tz5 ?_;refine Walk.bytesStr sl22 un9 (by kernel_rfl) .none rfl rfl rfl (by first|rfl|exact zls _) ?_;refine evs [9,15,17,19] [] ?_;refine Walk.catS .none rfl rfl rfl (by have hz:=congrArg List.length hg1.1;simp[strN] at hz ⊢;omega) ?_;refine evs [9,15,17,19] [] ?_;refine Walk.quoI .none rfl rfl rfl (by omega) ?_;refine evs [9,15,17,19] [] ?_;refine xah ((x.1 / 10,zjN x.1::x.2)) ⟨⟨(by rw[<-hg1.1,zmp (n:=x.1) (by omega)];simp),(by have:=hg1.2;dsimp only;omega)⟩,(by dsimp only;omega),sx ⟨⟨_,rfl,xau ?_⟩,⟨⟨_,rfl,LeA.eqs ?_⟩,trivial⟩⟩ trivial⟩;iterate 2 focus (first|rfl|(dsimp only;omega)|(simp[strN,zjN];done))
 refine Walk.catS .none rfl rfl rfl (by have hz:=congrArg List.length hg1.1;simp[strN] at hz ⊢;omega) ?_;refine evs [9,15,17,19] [] ?_;refine rq ?_;rotate_left;all_goals (first|(exfalso;omega)|rfl|(refine congrArg D.str ?_;have hz:x.1=0:=(by omega);have hy:=hg1.1;rw[hz,zlc,List.nil_append] at hy;rw[hy];rfl))
theorem zga {k:Int} (h0:0<k) (hb:k<=1000000000000):FnD Tryz.prog 88 [.d (.i k)] [] (.d (.str (ziz k.toNat))) []:=by
 have hz:=zji (n:=k.toNat) (by omega) (by omega);rw[show((k.toNat:Nat):Int)=k by omega] at hz;exact hz
theorem zj3 {l:List Ty} (h:l.length<=1000000000000):FnD Tryz.prog 322 [.d (za8 l)] [] (.ms 61 l.length) [(61,some (.tree (zac false (l.map Ty.c))))]:=by
 refine bd Tryz.f322 23 [] [2] fun w0 F0 own kept hk=>?_;refine xaS (id:=61) zaV tz25 rfl (by decide) (zbL rfl) .none rfl rfl rfl (by simp;omega) (by simp;omega) rfl rfl rfl ?_;refine ev ?_;refine CWp.boxTree 61 false rfl rfl (zc1 _ _ _) ?_;refine evc [] [] ?_;refine xam (ι:=List (Ty)×List (Ty)) hk (fun x=>[(4,.d (.i (x.1.length:Int)))]) [8,9,10,11,12,13,14,15,16,17,18,19,20,21] (fun x=>[(61,some (.tree (zac false (x.1.map Ty.c)++zaJ x.2.length [.d (.i 0),.d (.i 0)])))]) (fun x=>x.1++x.2=l) (fun x=>x.2.length) ([],l) (by simp) ⟨⟨_,rfl,xau ?_⟩,trivial⟩ ⟨?_,trivial⟩ (fun x=>rfl) (fun x hg1=>?_);focus (first|rfl|(simp;done)|(simp_all;done)|omega)
 focus (first|rfl|(show some (Res.tree _)=some (Res.tree _);rw[xaf,List.map_singleton,<-zbJ];rfl)|(show some (Res.tree _)=some (Res.tree _);simp[zaQ];rfl))
 obtain⟨pre,rest⟩:=x;dsimp only at hg1 ⊢;refine evc [] [2] ?_;refine sq ?_ ?_<;>intro h1 h1p h1s<;>(try simp only[Q] at h1p);rcases rest with _|⟨y,rest⟩
 ·exfalso;simp_all
 refine xaK zpK .none rfl rfl rfl rfl (zaW hg1) rfl ?_;refine ev ?_;refine Walk.call (cr:=[]) zf3 (zbE) rfl .none rfl rfl (LeL.refl _) trivial rfl (by first|rfl|(simp only[zam,List.all_cons,List.all_nil,zaz,zat,AV.idsL,AV.ids,zab,zaa,xae,List.map_nil];rfl)) (by first|rfl|(simp only[zaf,occH,occE,Res.ids,xag,List.nil_append,AV.idsL,AV.ids,zab,zaa,zad,zaj,xae,List.map_nil,upC];rfl)) ?_;refine xaM zaV .none rfl rfl rfl rfl (by first|omega|(simp ;omega)) ?_;refine xa6 ty25 .none rfl rfl rfl rfl rfl rfl (by simp) ((zea (zdI false (by intro x _;rfl)) rfl)) ?_;refine tv ?_;refine ar ?_;refine xah ((pre++[y],rest)) ⟨(by have hz:=hg1;rw[<-hz];simp),(by simp),sx ⟨⟨_,rfl,xau ?_⟩,trivial⟩ ⟨?_,trivial⟩⟩;focus (first|rfl|(simp;done)|(simp_all;done)|omega)
 focus (first|rfl|(show some (Res.tree _)=some (Res.tree _);rw[xaf,List.map_singleton,<-zbJ];rfl)|(show some (Res.tree _)=some (Res.tree _);simp[zaQ];rfl))
 have hrest:rest=[]:=by
  rcases rest with _|⟨a,b⟩
  ·rfl
  ·exfalso;have hz:=congrArg List.length (hg1);simp only[xaa,xab,xac] at hz;omega
 subst hrest;refine rn [(61,some (.tree (zac false (l.map Ty.c))))] (r1 rfl) (xav ?_) ⟨rfl,rfl⟩ (SubH.get ⟨?_,trivial⟩) (zaE rfl);rotate_left 2;all_goals (first|((first|rfl|(simp;done));done)|(first|rfl|(rw[List.append_nil] at hg1;subst hg1;show some (Res.tree _)=some (Res.tree _);simp[zaJ];done)))
theorem zkU {s:Str}{args:List Ty}{k:Int} (h:args.length<=1000000000000):FnD Tryz.prog 257 [.agg [.d (.str s),.d (za8 args),.d (.i k)]] [] (.agg [.d (.str s),.ms 61 args.length,.d (.i k)]) [(61,some (.tree (zac false (args.map Ty.c))))]:=by
 refine bd Tryz.f257 15 [] [] fun w0 F0 own kept hk=>?_;refine bx 3001 ?_;refine ab 3002 ze0 ?_;refine tv ?_;refine ab 3003 ze0 ?_;refine tv ?_;refine so ty9 ?_;refine tv ?_;refine Walk.call (cr:=[61]) zoc (zj3 h) rfl .none rfl rfl (LeL.refl _) trivial rfl (by first|rfl|(simp only[zam,List.all_cons,List.all_nil,zaz,zat,AV.idsL,AV.ids,zab,zaa,xae,List.map_nil];rfl)) (by first|rfl|(simp only[zaf,occH,occE,Res.ids,xag,List.nil_append,AV.idsL,AV.ids,zab,zaa,zad,zaj,xae,List.map_nil,upC];rfl)) ?_;refine ev ?_;refine so zl1 ?_;refine tv ?_;refine so ty3 ?_;refine tv ?_;refine so zeZ ?_;refine tv ?_;focus (refine rn [(61,some (.tree (zac false (args.map Ty.c))))] (.cons (.cellA zeZ rfl rfl rfl) .nil) (.agg (.cons (.eqd ?_) (.cons (xav ?_) (.cons (.eqd ?_) .nil)))) ⟨rfl,rfl⟩ (SubH.get ⟨rfl,trivial⟩) (zaE rfl);all_goals (first|rfl|(simp[];done)|(simp_all;done)|(simp_all;omega)|omega))
theorem zj1 {l:List Ctor} (hs:CSmall l):FnD Tryz.prog 163 [.d (zbz l)] [] (.ms 62 l.length) [(62,some (.tree (zac false (l.map Ctor.c))))]:=by
 have h:=hs.len;refine bd Tryz.f163 23 [] [2,4] fun w0 F0 own kept hk=>?_;refine xaS (id:=62) zby ze0 rfl (by decide) (zbL rfl) .none rfl rfl rfl (by simp;omega) (by simp;omega) rfl rfl rfl ?_;refine ev ?_;refine CWp.boxTree 62 false rfl rfl (zc1 _ _ _) ?_;refine evc [] [] ?_;refine xam (ι:=List (Ctor)×List (Ctor)) hk (fun x=>[(4,.d (.i (x.1.length:Int)))]) [8,9,10,11,12,13,14,15,16,17,18,19,20,21] (fun x=>[(62,some (.tree (zac false (x.1.map Ctor.c)++zaJ x.2.length [.d (.str []),.own false (.sl []),.d (.i 0)])))]) (fun x=>x.1++x.2=l) (fun x=>x.2.length) ([],l) (by simp) ⟨⟨_,rfl,xau ?_⟩,trivial⟩ ⟨?_,trivial⟩ (fun x=>rfl) (fun x hg1=>?_);focus (first|rfl|(simp;done)|(simp_all;done)|omega)
 focus (first|rfl|(show some (Res.tree _)=some (Res.tree _);rw[xaf,List.map_singleton,<-zbJ];rfl)|(show some (Res.tree _)=some (Res.tree _);simp[zaQ];rfl))
 obtain⟨pre,rest⟩:=x;dsimp only at hg1 ⊢;refine evc [] [2,4] ?_;refine sq ?_ ?_<;>intro h1 h1p h1s<;>(try simp only[Q] at h1p);rcases rest with _|⟨y,rest⟩
 ·exfalso;simp_all
 refine xaK znH .none rfl rfl rfl rfl (zaW hg1) rfl ?_;refine ev ?_;refine Walk.call (cr:=[61]) zn6 (zkU (hs.ctor y (by rw[<-hg1];simp)).2) rfl .none rfl rfl (LeL.refl _) trivial rfl (by first|rfl|(simp only[zam,List.all_cons,List.all_nil,zaz,zat,AV.idsL,AV.ids,zab,zaa,xae,List.map_nil];rfl)) (by first|rfl|(simp only[zaf,occH,occE,Res.ids,xag,List.nil_append,AV.idsL,AV.ids,zab,zaa,zad,zaj,xae,List.map_nil,upC];rfl)) ?_;refine xaM zby .none rfl rfl rfl rfl (by first|omega|(simp ;omega)) ?_;refine xa6 zeZ .none rfl rfl rfl rfl rfl rfl (by simp) ((zea (zdI (k:=3) false (by intro x _;rfl)) rfl)) ?_;refine tv ?_;refine CWp.merge hk 62 (pre.length*3+1) 61 2 _ rfl (zaC (zdI (k:=3) false (by intro x _;rfl)) rfl) (by simp[zai]) rfl (by first|(intro x hx;simp at hx;obtain⟨y,_,rfl⟩:=hx;rfl)|(intro x hx;obtain⟨y,_,rfl⟩:=List.mem_map.1 hx;rfl)) rfl rfl (zar (zdI (k:=3) false (by intro x _;rfl)) (zbA rfl)) ?_;refine evc [] [] ?_;refine ar ?_;refine xah ((pre++[y],rest)) ⟨(by have hz:=hg1;rw[<-hz];simp),(by simp),sx ⟨⟨_,rfl,xau ?_⟩,trivial⟩ ⟨?_,trivial⟩⟩;focus (first|rfl|(simp;done)|(simp_all;done)|omega)
 focus (first|rfl|(show some (Res.tree _)=some (Res.tree _);rw[xaf,List.map_singleton,<-zbJ];rfl)|(show some (Res.tree _)=some (Res.tree _);simp[zaQ];rfl))
 have hrest:rest=[]:=by
  rcases rest with _|⟨a,b⟩
  ·rfl
  ·exfalso;have hz:=congrArg List.length (hg1);simp only[xaa,xab,xac] at hz;omega
 subst hrest;refine rn [(62,some (.tree (zac false (l.map Ctor.c))))] (r1 rfl) (xav ?_) ⟨rfl,rfl⟩ (SubH.get ⟨?_,trivial⟩) (zaE rfl);rotate_left 2;all_goals (first|((first|rfl|(simp;done));done)|(first|rfl|(rw[List.append_nil] at hg1;subst hg1;show some (Res.tree _)=some (Res.tree _);simp[zaJ];done)))
theorem zkW {s:Str}{cs:List Ctor} (h:CSmall cs):FnD Tryz.prog 83 [.agg [.d (.str s),.d (zbz cs)]] [] (.agg [.d (.str s),.ms 62 cs.length]) [(62,some (.tree (zac false (cs.map Ctor.c))))]:=by
 refine bd Tryz.f83 12 [] [] fun w0 F0 own kept hk=>?_;refine bx 3001 ?_;refine ab 3002 zhk ?_;refine tv ?_;refine ab 3003 zhk ?_;refine tv ?_;refine so ty9 ?_;refine tv ?_;refine Walk.call (cr:=[62]) znT (zj1 h) rfl .none rfl rfl (LeL.refl _) trivial rfl (by first|rfl|(simp only[zam,List.all_cons,List.all_nil,zaz,zat,AV.idsL,AV.ids,zab,zaa,xae,List.map_nil];rfl)) (by first|rfl|(simp only[zaf,occH,occE,Res.ids,xag,List.nil_append,AV.idsL,AV.ids,zab,zaa,zad,zaj,xae,List.map_nil,upC];rfl)) ?_;refine ev ?_;refine so zl0 ?_;refine tv ?_;refine so zhj ?_;refine tv ?_;focus (refine rn [(62,some (.tree (zac false (cs.map Ctor.c))))] (.cons (.cellA zhj rfl rfl rfl) .nil) (.agg (.cons (.eqd ?_) (.cons (xav ?_) .nil))) ⟨rfl,rfl⟩ (SubH.get ⟨rfl,trivial⟩) (zaE rfl);all_goals (first|rfl|(simp[];done)|(simp_all;done)|(simp_all;omega)|omega))
theorem zgc {l:List Data} (hs:WSmall l):FnD Tryz.prog 30 [.d (zao l)] [] (.ms 63 l.length) [(63,some (.tree (zac false (l.map Data.c))))]:=by
 have h:=hs.len;refine bd Tryz.f30 23 [] [2,4] fun w0 F0 own kept hk=>?_;refine xaS (id:=63) sl23 zhk rfl (by decide) (zbL rfl) .none rfl rfl rfl (by simp;omega) (by simp;omega) rfl rfl rfl ?_;refine ev ?_;refine CWp.boxTree 63 false rfl rfl (zc1 _ _ _) ?_;refine evc [] [] ?_;refine xam (ι:=List (Data)×List (Data)) hk (fun x=>[(4,.d (.i (x.1.length:Int)))]) [8,9,10,11,12,13,14,15,16,17,18,19,20,21] (fun x=>[(63,some (.tree (zac false (x.1.map Data.c)++zaJ x.2.length [.d (.str []),.own false (.sl [])])))]) (fun x=>x.1++x.2=l) (fun x=>x.2.length) ([],l) (by simp) ⟨⟨_,rfl,xau ?_⟩,trivial⟩ ⟨?_,trivial⟩ (fun x=>rfl) (fun x hg1=>?_);focus (first|rfl|(simp;done)|(simp_all;done)|omega)
 focus (first|rfl|(show some (Res.tree _)=some (Res.tree _);rw[xaf,List.map_singleton,<-zbJ];rfl)|(show some (Res.tree _)=some (Res.tree _);simp[zaQ];rfl))
 obtain⟨pre,rest⟩:=x;dsimp only at hg1 ⊢;refine evc [] [2,4] ?_;refine sq ?_ ?_<;>intro h1 h1p h1s<;>(try simp only[Q] at h1p);rcases rest with _|⟨y,rest⟩
 ·exfalso;simp_all
 refine xaK sl60 .none rfl rfl rfl rfl (zaW hg1) rfl ?_;refine ev ?_;refine Walk.call (cr:=[62]) zpw (zkW (hs.cs (d:=y) (by rw[<-hg1];simp))) rfl .none rfl rfl (LeL.refl _) trivial rfl (by first|rfl|(simp only[zam,List.all_cons,List.all_nil,zaz,zat,AV.idsL,AV.ids,zab,zaa,xae,List.map_nil];rfl)) (by first|rfl|(simp only[zaf,occH,occE,Res.ids,xag,List.nil_append,AV.idsL,AV.ids,zab,zaa,zad,zaj,xae,List.map_nil,upC];rfl)) ?_;refine xaM sl23 .none rfl rfl rfl rfl (by first|omega|(simp ;omega)) ?_;refine xa6 zhj .none rfl rfl rfl rfl rfl rfl (by simp) ((zea (zdI (k:=2) false (by intro x _;rfl)) rfl)) ?_;refine tv ?_;refine CWp.merge hk 63 (pre.length*2+1) 62 3 _ rfl (zaC (zdI (k:=2) false (by intro x _;rfl)) rfl) (by simp[zai]) rfl (by first|(intro x hx;simp at hx;obtain⟨y,_,rfl⟩:=hx;rfl)|(intro x hx;obtain⟨y,_,rfl⟩:=List.mem_map.1 hx;rfl)) rfl rfl (zar (zdI (k:=2) false (by intro x _;rfl)) (zbA rfl)) ?_;refine evc [] [] ?_;refine ar ?_;refine xah ((pre++[y],rest)) ⟨(by have hz:=hg1;rw[<-hz];simp),(by simp),sx ⟨⟨_,rfl,xau ?_⟩,trivial⟩ ⟨?_,trivial⟩⟩;focus (first|rfl|(simp;done)|(simp_all;done)|omega)
 focus (first|rfl|(show some (Res.tree _)=some (Res.tree _);rw[xaf,List.map_singleton,<-zbJ];rfl)|(show some (Res.tree _)=some (Res.tree _);simp[zaQ];rfl))
 have hrest:rest=[]:=by
  rcases rest with _|⟨a,b⟩
  ·rfl
  ·exfalso;have hz:=congrArg List.length (hg1);simp only[xaa,xab,xac] at hz;omega
 subst hrest;refine rn [(63,some (.tree (zac false (l.map Data.c))))] (r1 rfl) (xav ?_) ⟨rfl,rfl⟩ (SubH.get ⟨?_,trivial⟩) (zaE rfl);rotate_left 2;all_goals (first|((first|rfl|(simp;done));done)|(first|rfl|(rw[List.append_nil] at hg1;subst hg1;show some (Res.tree _)=some (Res.tree _);simp[zaJ];done)))
theorem ziK {m:Bool}{l:List Ty}{k:Int} (h0:0<=k) (h1:k+szL Ty.sz l<=1000000000000) (hl:l.length<=1000000000000):FnD Tryz.prog 169 [.ms 41 l.length,.d (.i k)] [(41,some (.tree (zac m (l.map Ty.c))))]
  (.d (.i (k+szL Ty.sz l))) [(41,some (.tree (zac m ((mkL Ty.one Ty.sz k l).map Ty.c))))]:=by
 refine bd Tryz.f169 27 [] [] fun w0 F0 own kept hk=>?_;refine xam (ι:=List (Ty)×List (Ty)×(Int)) hk (fun x=>[(5,.d (.i (x.1.length:Int))),(1,.d (.i x.2.2))]) [6,7,8,9,10,11,12,13,14,15,16,17,18,19,20,21,22,23,24,25] (fun x=>[(41,some (.tree (zac m ((mkL Ty.one Ty.sz k x.1).map Ty.c)++zac m (x.2.1.map Ty.c))))]) (fun x=>x.1++x.2.1=l/\x.2.2=k+szL Ty.sz x.1) (fun x=>x.2.1.length) ([],l,k) ⟨by simp,by simp[szL]⟩ ⟨⟨_,rfl,xau ?_⟩,⟨⟨_,rfl,xau ?_⟩,trivial⟩⟩ ⟨?_,trivial⟩ (fun x=>rfl) (fun x hg1=>?_);iterate 2 focus (first|rfl|(simp;done)|omega|(refine Eq.trans (b:=v+2) ?_ rfl;omega))
 focus (first|rfl|(show some (Res.tree _)=some (Res.tree _);rw[zbd,xaf,List.map_singleton,<-zbJ,hg1.2];rfl))
 obtain⟨pre,rest,v⟩:=x;dsimp only at hg1 ⊢;refine evc [] [] ?_;refine sq ?_ ?_<;>intro h1 h1p h1s<;>(try simp only[Q] at h1p);rcases rest with _|⟨y,rest⟩
 ·exfalso;simp_all
 have hsp:=zcC (sz:=Ty.sz) hg1.1;have hnn:=zaB (l:=rest) Ty.sz_nn;have hnp:=zaB (l:=pre) Ty.sz_nn;have hys:Ty.sz y=2:=rfl;have hv:=hg1.2;refine xaM zaV .none rfl rfl rfl rfl (by first|omega|(simp ;omega)) ?_;refine ev ?_;refine xa6 ty3 .none rfl rfl rfl rfl rfl rfl (by simp) ((zar (zaH (kk:=2) m (by intro x;rfl)) zeI)) ?_;refine tv ?_;refine ar ?_;refine xaM zaV .none rfl rfl rfl rfl (by first|omega|(simp ;omega)) ?_;refine ev ?_;refine xa6 ty3 .none rfl rfl rfl rfl rfl rfl (by simp) ((zar (zaH (kk:=2) m (by intro x;rfl)) zcn)) ?_;refine tv ?_;refine ar ?_;refine ar ?_;refine xah ((pre++[y],rest,v+Ty.sz y)) ⟨⟨(by have hz:=hg1.1;rw[<-hz];simp),(by show v+Ty.sz y=_;rw[zbB,hg1.2];omega)⟩,(by simp),sx ⟨⟨_,rfl,xau ?_⟩,⟨⟨_,rfl,xau ?_⟩,trivial⟩⟩ ⟨?_,trivial⟩⟩;iterate 2 focus (first|rfl|(simp;done)|omega|(refine Eq.trans (b:=v+2) ?_ rfl;omega))
 focus (first|rfl|(show some (Res.tree _)=some (Res.tree _);rw[zbd,xaf,List.map_singleton,<-zbJ,hg1.2];rfl))
 have hrest:rest=[]:=by
  rcases rest with _|⟨a,b⟩
  ·rfl
  ·exfalso;have hz:=congrArg List.length (hg1.1);simp only[xaa,xab,xac] at hz;omega
 subst hrest;refine rn [(41,some (.tree (zac m ((mkL Ty.one Ty.sz k l).map Ty.c))))] (r1 rfl) (.eqd ?_) ⟨rfl,rfl⟩ (SubO.get ⟨.inr ?_,⟨.inl rfl,trivial⟩⟩) (zaE rfl);rotate_left 2;all_goals (first|((first|rfl|(obtain⟨hg1,hv⟩:=hg1;rw[List.append_nil] at hg1;subst hg1;rw[hv]));done)|(first|rfl|(obtain⟨hg1,_⟩:=hg1;rw[List.append_nil] at hg1;subst hg1;show some (Res.tree _)=some (Res.tree _);simp[zaQ];done)))
theorem zhY {l:List Ty}{k:Int} (hl:l=[]):FnD Tryz.prog 169 [.d (.sl []),.d (.i k)] [] (.d (.i (k+szL Ty.sz l))) []:=by
 subst hl;refine bd Tryz.f169 27 [] [] fun w0 F0 own kept hk=>?_;refine xam (ι:=Unit) hk (fun x=>[(5,.d (.i 0)),(1,.d (.i k))]) [6,7,8,9,10,11,12,13,14,15,16,17,18,19,20,21,22,23,24,25] (fun x=>[]) (fun x=>True) (fun x=>0) () trivial ⟨⟨_,rfl,xau ?_⟩,⟨⟨_,rfl,xau ?_⟩,trivial⟩⟩ trivial (fun x=>rfl) (fun x hg1=>?_);iterate 2 focus (first|rfl|(simp;done)|(simp_all;done)|omega)
 refine evc [] [] ?_;refine sq ?_ ?_<;>intro h1 h1p h1s<;>(try simp only[Q] at h1p);exfalso;revert h1;simp;refine rq ?_;rotate_left;all_goals (first|rfl|(simp[szL];done))
def ren (i j:Nat):AV->AV
 | .ms a n=>if a=i then .ms j n else .ms a n
 |x=>x
theorem ziI {l:List Ctor}{k:Int} (h0:0<k) (h1:k+szL Ctor.sz l<=1000000000000) (hl:CSmall l):FnD Tryz.prog 89 [.ms 42 l.length,.d (.i k)] [(42,some (.tree (zac false (l.map Ctor.c))))]
  (.d (.i (k+szL Ctor.sz l))) [(42,some (.tree (zac false ((mkL Ctor.one Ctor.sz k l).map Ctor.c))))]:=by
 have hl0:=hl.len;refine bd Tryz.f89 35 [24] [6,7,1000009] fun w0 F0 own kept hk=>?_;refine xam (ι:=List (Ctor)×List (Ctor)×(Int)) hk (fun x=>[(5,.d (.i (x.1.length:Int))),(1,.d (.i x.2.2))]) [6,7,8,9,10,11,12,13,14,15,16,17,18,19,20,21,22,23,24,25,26,27,28,29,30,31,32,33] (fun x=>[(42,some (.tree (zac false ((mkL Ctor.one Ctor.sz k x.1).map Ctor.c)++zac false (x.2.1.map Ctor.c))))]) (fun x=>x.1++x.2.1=l/\x.2.2=k+szL Ctor.sz x.1) (fun x=>x.2.1.length) ([],l,k) ⟨by simp,by simp[szL]⟩ ⟨⟨_,rfl,xau ?_⟩,⟨⟨_,rfl,xau ?_⟩,trivial⟩⟩ ⟨?_,trivial⟩ (fun x=>rfl) (fun x hg1=>?_);iterate 2 focus (first|rfl|(simp;done)|omega|(refine Eq.trans (b:=v+Ctor.sz y) ?_ rfl;omega))
 focus (first|rfl|(show some (Res.tree _)=some (Res.tree _);rw[zbd,xaf,List.map_singleton,<-zbJ,<-hg1.2];rfl))
 obtain⟨pre,rest,v⟩:=x;dsimp only at hg1 ⊢;refine evc [24] [6,7,1000009] ?_;refine cq (fun h1 h1p h1s=>?_) fun h1 h1p h1s=>?_;try simp only[Q] at h1p
 rcases rest with _|⟨y,rest⟩
 ·exfalso;simp_all
 have hsp:=zcC (sz:=Ctor.sz) hg1.1;have hnn:=zaB (l:=rest) Ctor.sz_nn;have hnp:=zaB (l:=pre) Ctor.sz_nn;have hys:Ctor.sz y=2+szL Ty.sz y.args:=rfl;have hya:=zaB (l:=y.args) Ty.sz_nn;have hv:=hg1.2;refine xao 42 (zac false ((mkL Ctor.one Ctor.sz k pre).map Ctor.c)++(.d (.str y.name):: .own false (za8 y.args):: .d (.i y.index)::zac false (rest.map Ctor.c))) rfl rfl ?_;refine evc [24] [6,7,1000009] ?_;refine Walk.call (cr:=[]) zpy (zga (by omega) (by omega)) rfl .none rfl rfl (LeL.refl _) trivial rfl (by first|rfl|(simp only[zam,List.all_cons,List.all_nil,zaz,zat,AV.idsL,AV.ids,zab,zaa,xae,List.map_nil];rfl)) (by first|rfl|(simp only[zaf,occH,occE,Res.ids,xag,List.nil_append,AV.idsL,AV.ids,zab,zaa,zad,zaj,xae,List.map_nil,upC];rfl)) ?_;refine xaM zby .none rfl rfl rfl rfl (by first|omega|(simp ;omega)) ?_;refine evs [24] [] ?_;refine xa6 ty9 .none rfl rfl rfl rfl rfl rfl (by simp) ((zar (zaH (kk:=3) false (by intro x;rfl)) zeI)) ?_;refine tv ?_;refine ar ?_;by_cases hs2:y.args=[]
 refine xak 42 (pre.length*3+1) rfl (zaC (zaH (kk:=3) false (by intro x;rfl)) rfl) (by simp[hs2]) (zar (zaH (kk:=3) false (by intro x;rfl)) zcn) ?_;refine evc [24] [] ?_;refine xaM zby .none rfl rfl rfl rfl (by first|omega|(simp ;omega)) ?_;refine evs [24] [] ?_;refine xaR zl1 .none rfl rfl rfl ((by rw[zaC (zaH (kk:=3) false (by intro x;rfl)) rfl];rfl)) ?_;refine evs [24] [] ?_;refine Walk.call (cr:=[]) znW (zhY hs2) rfl .none rfl rfl (LeL.refl _) trivial rfl (by first|rfl|(simp only[zam,List.all_cons,List.all_nil,zaz,zat,AV.idsL,AV.ids,zab,zaa,xae,List.map_nil];rfl)) (by first|rfl|(simp only[zaf,occH,occE,Res.ids,xag,List.nil_append,AV.idsL,AV.ids,zab,zaa,zad,zaj,xae,List.map_nil,upC];rfl)) ?_;refine evs [24] [] ?_;refine xal 42 (pre.length*3+1) false rfl (xs:=(mkL Ty.one Ty.sz (v+1) y.args).map Ty.c) rfl (zaC (zaH (kk:=3) false (by intro x;rfl)) rfl) (by simp[hs2,mkL]) (zar (zaH (kk:=3) false (by intro x;rfl)) zcn) ?_;refine evc [24] [] ?_;refine xaM zby .none rfl rfl rfl rfl (by first|omega|(simp ;omega)) ?_;refine evs [24] [] ?_;refine xa6 ty3 .none rfl rfl rfl rfl rfl rfl (by simp) ((zar (zaH (kk:=3) false (by intro x;rfl)) zdK)) ?_;refine tv ?_;refine ar ?_;refine ar ?_;refine xah ((pre++[y],rest,v+Ctor.sz y)) ⟨⟨(by have hz:=hg1.1;rw[<-hz];simp),(by show v+Ctor.sz y=_;rw[zbB,hg1.2];omega)⟩,(by simp),sx ⟨⟨_,rfl,xau ?_⟩,⟨⟨_,rfl,xau ?_⟩,trivial⟩⟩ ⟨?_,trivial⟩⟩;iterate 2 focus (first|rfl|(simp;done)|omega|(refine Eq.trans (b:=v+Ctor.sz y) ?_ rfl;omega))
 focus (first|rfl|(show some (Res.tree _)=some (Res.tree _);rw[zbd,xaf,List.map_singleton,<-zbJ,<-hg1.2];rfl))
 refine CWp.split 42 (pre.length*3+1) 41 rfl (zaC (zaH (kk:=3) false (by intro x;rfl)) rfl) (by simp[hs2]) (by first|rfl|(simp only[zaf,occH,occE,Res.ids,xag,List.nil_append,AV.idsL,AV.ids,zab,zaa,zad,zaj,xae,List.map_nil,upC];rfl)) (zar (zaH (kk:=3) false (by intro x;rfl)) zcn) ?_;refine evc [24] [] ?_;refine xaM zby .none rfl rfl rfl rfl (by first|omega|(simp ;omega)) ?_;refine evs [24] [] ?_;refine xaR zl1 .none rfl rfl rfl ((by rw[zaC (zaH (kk:=3) false (by intro x;rfl)) rfl];rfl)) ?_;refine evs [24] [] ?_;refine Walk.call (cr:=[]) znW (ziK (m:=false) (l:=y.args) (k:=v+1) (by omega) (by omega) (hl.ctor y (by rw[<-hg1.1];simp)).2) rfl .none rfl rfl (.cons (xav (by first|rfl|(simp;done))) (.cons (.refl _) .nil)) ⟨by first|rfl|(simp;rfl),trivial⟩ rfl (by first|rfl|(simp only[zam,List.all_cons,List.all_nil,zaz,zat,AV.idsL,AV.ids,zab,zaa,xae,List.map_nil];rfl)) (by first|rfl|(simp only[zaf,occH,occE,Res.ids,xag,List.nil_append,AV.idsL,AV.ids,zab,zaa,zad,zaj,xae,List.map_nil,upC];rfl)) ?_;refine evs [24] [] ?_;refine CWp.merge hk 42 (pre.length*3+1) 41 2 _ rfl (zaC (zaH (kk:=3) false (by intro x;rfl)) rfl) (by simp[zai]) rfl (by first|(intro x hx;simp at hx;obtain⟨y,_,rfl⟩:=hx;rfl)|(intro x hx;obtain⟨y,_,rfl⟩:=List.mem_map.1 hx;rfl)) rfl rfl (zar (zaH (kk:=3) false (by intro x;rfl)) zcn) ?_;refine evc [24] [] ?_;refine xaM zby .none rfl rfl rfl rfl (by first|omega|(simp ;omega)) ?_;refine evs [24] [] ?_;refine xa6 ty3 .none rfl rfl rfl rfl rfl rfl (by simp) ((zar (zaH (kk:=3) false (by intro x;rfl)) zdK)) ?_;refine tv ?_;refine ar ?_;refine ar ?_;refine xah ((pre++[y],rest,v+Ctor.sz y)) ⟨⟨(by have hz:=hg1.1;rw[<-hz];simp),(by show v+Ctor.sz y=_;rw[zbB,hg1.2];omega)⟩,(by simp),sx ⟨⟨_,rfl,xau ?_⟩,⟨⟨_,rfl,xau ?_⟩,trivial⟩⟩ ⟨?_,trivial⟩⟩;iterate 2 focus (first|rfl|(simp;done)|omega|(refine Eq.trans (b:=v+Ctor.sz y) ?_ rfl;omega))
 focus (first|rfl|(show some (Res.tree _)=some (Res.tree _);rw[zbd,xaf,List.map_singleton,<-zbJ,<-hg1.2];rfl))
 try simp only[Q] at h1p
 have hrest:rest=[]:=by
  rcases rest with _|⟨a,b⟩
  ·rfl
  ·exfalso;have hz:=congrArg List.length (hg1.1);simp only[xaa,xab,xac] at hz;omega
 subst hrest;refine evc [24] [6,7,1000009] ?_;refine rn [(42,some (.tree (zac false ((mkL Ctor.one Ctor.sz k l).map Ctor.c))))] (r1 rfl) (.eqd ?_) ⟨rfl,rfl⟩ (SubO.get ⟨.inr ?_,⟨.inl rfl,trivial⟩⟩) (zaE rfl);rotate_left 2;all_goals (first|((first|rfl|(obtain⟨hg1,hv⟩:=hg1;rw[List.append_nil] at hg1;subst hg1;rw[hv]));done)|(first|rfl|(obtain⟨hg1,_⟩:=hg1;rw[List.append_nil] at hg1;subst hg1;show some (Res.tree _)=some (Res.tree _);simp[zaQ];done)))
theorem zhX {l:List Ctor}{k:Int} (hl:l=[]):FnD Tryz.prog 89 [.d (.sl []),.d (.i k)] [] (.d (.i (k+szL Ctor.sz l))) []:=by
 subst hl;refine bd Tryz.f89 35 [] [] fun w0 F0 own kept hk=>?_;refine xam (ι:=Unit) hk (fun x=>[(5,.d (.i 0)),(1,.d (.i k))]) [6,7,8,9,10,11,12,13,14,15,16,17,18,19,20,21,22,23,24,25,26,27,28,29,30,31,32,33] (fun x=>[]) (fun x=>True) (fun x=>0) () trivial ⟨⟨_,rfl,xau ?_⟩,⟨⟨_,rfl,xau ?_⟩,trivial⟩⟩ trivial (fun x=>rfl) (fun x hg1=>?_);iterate 2 focus (first|rfl|(simp;done)|(simp_all;done)|omega)
 refine evc [] [] ?_;refine sq ?_ ?_<;>intro h1 h1p h1s<;>(try simp only[Q] at h1p);exfalso;revert h1;simp;refine rq ?_;rotate_left;all_goals (first|rfl|(simp[szL];done))
theorem ziJ {l:List Data}{k:Int} (h0:0<k) (h1:k+szL Data.sz l<=1000000000000) (hl:WSmall l):FnD Tryz.prog 36 [.ms 43 l.length,.d (.i k)] [(43,some (.tree (zac false (l.map Data.c))))]
  (.d (.i (k+szL Data.sz l))) [(43,some (.tree (zac false ((mkL Data.one Data.sz k l).map Data.c))))]:=by
 have hl0:=hl.len;refine bd Tryz.f36 28 [24] [3,6,1000009] fun w0 F0 own kept hk=>?_;refine xam (ι:=List (Data)×List (Data)×(Int)) hk (fun x=>[(5,.d (.i (x.1.length:Int))),(1,.d (.i x.2.2))]) [6,7,8,9,10,11,12,13,14,15,16,17,18,19,20,21,22,23,24,25,26] (fun x=>[(43,some (.tree (zac false ((mkL Data.one Data.sz k x.1).map Data.c)++zac false (x.2.1.map Data.c))))]) (fun x=>x.1++x.2.1=l/\x.2.2=k+szL Data.sz x.1) (fun x=>x.2.1.length) ([],l,k) ⟨by simp,by simp[szL]⟩ ⟨⟨_,rfl,xau ?_⟩,⟨⟨_,rfl,xau ?_⟩,trivial⟩⟩ ⟨?_,trivial⟩ (fun x=>rfl) (fun x hg1=>?_);iterate 2 focus (first|rfl|(simp;done)|omega|(refine Eq.trans (b:=v+Data.sz y) ?_ rfl;omega))
 focus (first|rfl|(show some (Res.tree _)=some (Res.tree _);rw[zbd,xaf,List.map_singleton,<-zbJ,<-hg1.2];rfl))
 obtain⟨pre,rest,v⟩:=x;dsimp only at hg1 ⊢;refine evc [24] [3,6,1000009] ?_;refine cq (fun h1 h1p h1s=>?_) fun h1 h1p h1s=>?_;try simp only[Q] at h1p
 rcases rest with _|⟨y,rest⟩
 ·exfalso;simp_all
 have hsp:=zcC (sz:=Data.sz) hg1.1;have hnn:=zaB (l:=rest) Data.sz_nn;have hnp:=zaB (l:=pre) Data.sz_nn;have hys:Data.sz y=1+szL Ctor.sz y.ctors:=rfl;have hya:=zaB (l:=y.ctors) Ctor.sz_nn;have hv:=hg1.2;refine xao 43 (zac false ((mkL Data.one Data.sz k pre).map Data.c)++(.d (.str y.name):: .own false (zbz y.ctors)::zac false (rest.map Data.c))) rfl rfl ?_;refine evc [24] [3,6,1000009] ?_;refine Walk.call (cr:=[]) zpy (zga (by omega) (by omega)) rfl .none rfl rfl (LeL.refl _) trivial rfl (by first|rfl|(simp only[zam,List.all_cons,List.all_nil,zaz,zat,AV.idsL,AV.ids,zab,zaa,xae,List.map_nil];rfl)) (by first|rfl|(simp only[zaf,occH,occE,Res.ids,xag,List.nil_append,AV.idsL,AV.ids,zab,zaa,zad,zaj,xae,List.map_nil,upC];rfl)) ?_;refine xaM sl23 .none rfl rfl rfl rfl (by first|omega|(simp ;omega)) ?_;refine evs [24] [] ?_;refine xa6 ty9 .none rfl rfl rfl rfl rfl rfl (by simp) ((zar (zaH (kk:=2) false (by intro x;rfl)) zeI)) ?_;refine tv ?_;refine ar ?_;by_cases hs2:y.ctors=[]
 refine xak 43 (pre.length*2+1) rfl (zaC (zaH (kk:=2) false (by intro x;rfl)) rfl) (by simp[hs2]) (zar (zaH (kk:=2) false (by intro x;rfl)) zcn) ?_;refine evc [24] [] ?_;refine xaM sl23 .none rfl rfl rfl rfl (by first|omega|(simp ;omega)) ?_;refine evs [24] [] ?_;refine xaR zl0 .none rfl rfl rfl ((by rw[zaC (zaH (kk:=2) false (by intro x;rfl)) rfl];rfl)) ?_;refine evs [24] [] ?_;refine Walk.call (cr:=[]) zpz (zhX hs2) rfl .none rfl rfl (LeL.refl _) trivial rfl (by first|rfl|(simp only[zam,List.all_cons,List.all_nil,zaz,zat,AV.idsL,AV.ids,zab,zaa,xae,List.map_nil];rfl)) (by first|rfl|(simp only[zaf,occH,occE,Res.ids,xag,List.nil_append,AV.idsL,AV.ids,zab,zaa,zad,zaj,xae,List.map_nil,upC];rfl)) ?_;refine evs [24] [] ?_;refine xal 43 (pre.length*2+1) false rfl (xs:=(mkL Ctor.one Ctor.sz (v+1) y.ctors).map Ctor.c) rfl (zaC (zaH (kk:=2) false (by intro x;rfl)) rfl) (by simp[hs2,mkL]) (zar (zaH (kk:=2) false (by intro x;rfl)) zcn) ?_;refine evc [24] [] ?_;refine ar ?_;refine xah ((pre++[y],rest,v+Data.sz y)) ⟨⟨(by have hz:=hg1.1;rw[<-hz];simp),(by show v+Data.sz y=_;rw[zbB,hg1.2];omega)⟩,(by simp),sx ⟨⟨_,rfl,xau ?_⟩,⟨⟨_,rfl,xau ?_⟩,trivial⟩⟩ ⟨?_,trivial⟩⟩;iterate 2 focus (first|rfl|(simp;done)|omega|(refine Eq.trans (b:=v+Data.sz y) ?_ rfl;omega))
 focus (first|rfl|(show some (Res.tree _)=some (Res.tree _);rw[zbd,xaf,List.map_singleton,<-zbJ,<-hg1.2];rfl))
 refine CWp.split 43 (pre.length*2+1) 42 rfl (zaC (zaH (kk:=2) false (by intro x;rfl)) rfl) (by simp[hs2]) (by first|rfl|(simp only[zaf,occH,occE,Res.ids,xag,List.nil_append,AV.idsL,AV.ids,zab,zaa,zad,zaj,xae,List.map_nil,upC];rfl)) (zar (zaH (kk:=2) false (by intro x;rfl)) zcn) ?_;refine evc [24] [] ?_;refine xaM sl23 .none rfl rfl rfl rfl (by first|omega|(simp ;omega)) ?_;refine evs [24] [] ?_;refine xaR zl0 .none rfl rfl rfl ((by rw[zaC (zaH (kk:=2) false (by intro x;rfl)) rfl];rfl)) ?_;refine evs [24] [] ?_;refine Walk.call (cr:=[]) zpz (ziI (l:=y.ctors) (k:=v+1) (by omega) (by omega) (hl.cs (d:=y) (by rw[<-hg1.1];simp))) rfl .none rfl rfl (.cons (xav (by first|rfl|(simp;done))) (.cons (.refl _) .nil)) ⟨by first|rfl|(simp;rfl),trivial⟩ rfl (by first|rfl|(simp only[zam,List.all_cons,List.all_nil,zaz,zat,AV.idsL,AV.ids,zab,zaa,xae,List.map_nil];rfl)) (by first|rfl|(simp only[zaf,occH,occE,Res.ids,xag,List.nil_append,AV.idsL,AV.ids,zab,zaa,zad,zaj,xae,List.map_nil,upC];rfl)) ?_;refine evs [24] [] ?_;refine CWp.merge hk 43 (pre.length*2+1) 42 3 _ rfl (zaC (zaH (kk:=2) false (by intro x;rfl)) rfl) (by simp[zai]) rfl (by first|(intro x hx;simp at hx;obtain⟨y,_,rfl⟩:=hx;rfl)|(intro x hx;obtain⟨y,_,rfl⟩:=List.mem_map.1 hx;rfl)) rfl rfl (zar (zaH (kk:=2) false (by intro x;rfl)) zcn) ?_;refine evc [24] [] ?_;refine ar ?_;refine xah ((pre++[y],rest,v+Data.sz y)) ⟨⟨(by have hz:=hg1.1;rw[<-hz];simp),(by show v+Data.sz y=_;rw[zbB,hg1.2];omega)⟩,(by simp),sx ⟨⟨_,rfl,xau ?_⟩,⟨⟨_,rfl,xau ?_⟩,trivial⟩⟩ ⟨?_,trivial⟩⟩;iterate 2 focus (first|rfl|(simp;done)|omega|(refine Eq.trans (b:=v+Data.sz y) ?_ rfl;omega))
 focus (first|rfl|(show some (Res.tree _)=some (Res.tree _);rw[zbd,xaf,List.map_singleton,<-zbJ,<-hg1.2];rfl))
 try simp only[Q] at h1p
 have hrest:rest=[]:=by
  rcases rest with _|⟨a,b⟩
  ·rfl
  ·exfalso;have hz:=congrArg List.length (hg1.1);simp only[xaa,xab,xac] at hz;omega
 subst hrest;refine evc [24] [3,6,1000009] ?_;refine rn [(43,some (.tree (zac false ((mkL Data.one Data.sz k l).map Data.c))))] (r1 rfl) (.eqd ?_) ⟨rfl,rfl⟩ (SubO.get ⟨.inr ?_,⟨.inl rfl,trivial⟩⟩) (zaE rfl);rotate_left 2;all_goals (first|((first|rfl|(obtain⟨hg1,hv⟩:=hg1;rw[List.append_nil] at hg1;subst hg1;rw[hv]));done)|(first|rfl|(obtain⟨hg1,_⟩:=hg1;rw[List.append_nil] at hg1;subst hg1;show some (Res.tree _)=some (Res.tree _);simp[zaQ];done)))
def fits (c:Ctor) (k:Int):Bool:=decide (k=0)||(decide (c.index=0)||decide (c.index=k))
def zaU (k:Int):Nat->List Ctor->List Int
 |_,[]=>[]
 |i,c::r=>if fits c k then (i:Int)::zaU k (i+1) r else zaU k (i+1) r
def zcp (k:Int) (t:Ty):Ty:=if t.index = -1 then ⟨t.data,k⟩ else t
def zcf (c:Ctor) (k:Int):Int:=if c.index=0 then k else c.index
theorem zhm (k:Int):∀(l:List Ctor) (i:Nat),(zaU k i l).length<=l.length
 | [],_=>by simp[zaU]
 |c::r,i=>by
  have:=zhm k r (i+1);unfold zaU;split<;>simp<;>omega
theorem zhw {w:List Data}{k:Int}:FnD Tryz.prog 234 [.d (zao w),.agg [.d (.i (-1)),.d (.i k)]] [] (.d (zcS [])) []:=by
 refine bd Tryz.f234 44 [5] [] fun w0 F0 own kept hk=>?_;refine bx 3003 ?_;refine evs [5] [] ?_;refine xaB 1 1 .none rfl rfl ?_;refine tv ?_;refine sq ?_ ?_<;>intro h1 h1p h1s<;>(try simp only[Q] at h1p);exact absurd h1 (by simp)

 focus (refine rn0 (r1 rfl) (.gld ?_);all_goals (rfl))
theorem zjT {w:List Data}{d:Nat}{k:Int} (hs:WSmall w) (hd:d<w.length):FnD Tryz.prog 234 [.d (zao w),.agg [.d (.i d),.d (.i k)]] [] (.d (zcS (zaU k 0 (nth w d).ctors))) []:=by
 have hb:=hs.ctors d;refine bd Tryz.f234 44 [5] [] fun w0 F0 own kept hk=>?_;refine bx 3003 ?_;refine evs [5] [] ?_;refine xaB 1 1 .none rfl rfl ?_;refine tv ?_;refine sq ?_ ?_<;>intro h1 h1p h1s<;>(try simp only[Q] at h1p);refine xaK sl23 .none rfl rfl rfl rfl (zau hd) rfl ?_;refine evs [5] [] ?_;refine xam (ι:=List (Ctor)×List (Ctor)×(List Int)) hk (fun x=>[(18,.d (.i (x.1.length:Int))),(5,.gl 1 (x.2.2.map fun n=>[D.i n]))]) [6,7,19,20,21,22,23,24,25,26,27,28,29,30,31,32,33,34,35,36,37,38,39,40,41,42] (fun x=>[(1,some (.tok ((x.2.2.map fun n=>[D.i n])).length 1))]) (fun x=>x.1++x.2.1=(nth w d).ctors/\x.2.2++zaU k x.1.length x.2.1=zaU k 0 (nth w d).ctors/\x.2.2.length<=x.1.length) (fun x=>x.2.1.length) ([],(nth w d).ctors,[]) ⟨by simp,by simp,by simp⟩ ⟨⟨_,rfl,xau ?_⟩,⟨⟨_,rfl,LeA.glg ?_⟩,trivial⟩⟩ ⟨zas ?_,trivial⟩ (fun x=>rfl) (fun x hg1=>?_);iterate 3 focus (rfl)
 obtain⟨pre,rest,acc⟩:=x;dsimp only at hg1 ⊢;refine evc [5] [] ?_;refine sq ?_ ?_<;>intro h2 h2p h2s<;>(try simp only[Q] at h2p);rcases rest with _|⟨y,rest⟩
 ·exfalso;simp_all
 refine xaK zby .none rfl rfl rfl rfl (zaW hg1.1) rfl ?_;refine evs [5] [] ?_;refine ab 3007 ze0 ?_;refine evs [5] [] ?_;refine so zeZ ?_;refine tv ?_;refine sq ?_ ?_<;>intro h3 h3p h3s<;>(try simp only[Q] at h3p);refine sqT ?_;refine sqT ?_;refine si [0] [_] sl29 tz3 ?_;refine ap sl29 zz3 rfl rfl rfl (by simp) (by have hl:=hg1.2.2;simp;omega) ?_;refine asg ?_;refine tv ?_;refine ar ?_;refine xah ((pre++[y],rest,if fits y k then acc++[(pre.length:Int)] else acc)) ⟨⟨(by have hz:=hg1.1;rw[<-hz];simp),⟨by rw[<-hg1.2.1];by_cases hf:fits y k=true<;>simp[zaU,hf],by split<;>simp<;>omega⟩⟩,(by simp),sx ⟨⟨_,rfl,xau ?_⟩,⟨⟨_,rfl,LeA.glg ?_⟩,trivial⟩⟩ ⟨zas ?_,trivial⟩⟩;iterate 3 focus ((simp[fits,h1s,h1p,h2s,h2p,h3s,h3p];done))
 refine sq ?_ ?_<;>intro h5 h5p h5s<;>(try simp only[Q] at h5p);refine sqT ?_;refine si [0] [_] sl29 tz3 ?_;refine ap sl29 zz3 rfl rfl rfl (by simp) (by have hl:=hg1.2.2;simp;omega) ?_;refine asg ?_;refine tv ?_;refine ar ?_;refine xah ((pre++[y],rest,if fits y k then acc++[(pre.length:Int)] else acc)) ⟨⟨(by have hz:=hg1.1;rw[<-hz];simp),⟨by rw[<-hg1.2.1];by_cases hf:fits y k=true<;>simp[zaU,hf],by split<;>simp<;>omega⟩⟩,(by simp),sx ⟨⟨_,rfl,xau ?_⟩,⟨⟨_,rfl,LeA.glg ?_⟩,trivial⟩⟩ ⟨zas ?_,trivial⟩⟩;iterate 3 focus ((simp[fits,h1s,h1p,h2s,h2p,h3s,h3p,h5s,h5p];done))
 refine sq ?_ ?_<;>intro h7 h7p h7s<;>(try simp only[Q] at h7p);refine si [0] [_] sl29 tz3 ?_;refine ap sl29 zz3 rfl rfl rfl (by simp) (by have hl:=hg1.2.2;simp;omega) ?_;refine asg ?_;refine tv ?_;refine ar ?_;refine xah ((pre++[y],rest,if fits y k then acc++[(pre.length:Int)] else acc)) ⟨⟨(by have hz:=hg1.1;rw[<-hz];simp),⟨by rw[<-hg1.2.1];by_cases hf:fits y k=true<;>simp[zaU,hf],by split<;>simp<;>omega⟩⟩,(by simp),sx ⟨⟨_,rfl,xau ?_⟩,⟨⟨_,rfl,LeA.glg ?_⟩,trivial⟩⟩ ⟨zas ?_,trivial⟩⟩;iterate 3 focus ((simp[fits,h1s,h1p,h2s,h2p,h3s,h3p,h5s,h5p,h7s,h7p];done))
 refine ar ?_;refine xah ((pre++[y],rest,if fits y k then acc++[(pre.length:Int)] else acc)) ⟨⟨(by have hz:=hg1.1;rw[<-hz];simp),⟨by rw[<-hg1.2.1];by_cases hf:fits y k=true<;>simp[zaU,hf],by split<;>simp<;>omega⟩⟩,(by simp),sx ⟨⟨_,rfl,xau ?_⟩,⟨⟨_,rfl,LeA.glg ?_⟩,trivial⟩⟩ ⟨zas ?_,trivial⟩⟩;iterate 3 focus ((simp[fits,h1s,h1p,h2s,h2p,h3s,h3p,h5s,h5p,h7s,h7p];done))
 have hrest:rest=[]:=by
  rcases rest with _|⟨a,b⟩
  ·rfl
  ·exfalso;have hz:=congrArg List.length (hg1.1);simp only[xaa,xab,xac] at hz;omega
 subst hrest;refine rn0 (r1 rfl) (.gld ?_);rotate_left;exfalso;simp at h1<;>omega;all_goals (have e:=hg1.2.1;simp only[zaU,List.append_nil] at e;rw[e])
theorem zk2 {s:Str}{l:List Ty}{i k:Int}:FnD Tryz.prog 300 [.agg [.d (.str s),.d (za8 l),.d (.i i)],.d (.i k)] [] (.d (.bool (fits ⟨s,l,i⟩ k))) []:=by
 refine bd Tryz.f300 18 [] [] fun w0 F0 own kept hk=>?_;refine bx 3002 ?_;refine ev ?_;refine sq ?_ ?_<;>intro h1 h1p h1s<;>(try simp only[Q] at h1p);refine sqT ?_;focus (refine rq ?_;all_goals (refine congrArg D.bool ?_;simp[fits,h1s,h1p]))
 refine sq ?_ ?_<;>intro h2 h2p h2s<;>(try simp only[Q] at h2p);focus (refine rq ?_;all_goals (refine congrArg D.bool ?_;simp[fits,h1s,h1p,h2s,h2p]))
 focus (refine rq ?_;all_goals (refine congrArg D.bool ?_;simp[fits,h1s,h1p,h2s,h2p]))
theorem zhB {w:List Data}{k:Int}:FnD Tryz.prog 226 [.d (zao w),.agg [.d (.i (-1)),.d (.i k)]] [] (.d (zcS [])) []:=by
 refine bd Tryz.f226 40 [] [] fun w0 F0 own kept hk=>?_;refine bx 3003 ?_;refine ev ?_;refine xa2 1 sl29 .none rfl rfl ?_;refine ev ?_;refine sq ?_ ?_<;>intro h1 h1p h1s<;>(try simp only[Q] at h1p)

 focus (refine rn0 (r1 rfl) (.gld ?_);all_goals (rfl))
 exact absurd h1 (by simp)
theorem zkq {w:List Data}{d:Nat}{k:Int} (hs:WSmall w) (hd:d<w.length):FnD Tryz.prog 226 [.d (zao w),.agg [.d (.i d),.d (.i k)]] [] (.d (zcS (zaU k 0 (nth w d).ctors))) []:=by
 have hb:=hs.ctors d;refine bd Tryz.f226 40 [] [] fun w0 F0 own kept hk=>?_;refine bx 3003 ?_;refine ev ?_;refine xa2 1 sl29 .none rfl rfl ?_;refine ev ?_;refine sq ?_ ?_<;>intro h1 h1p h1s<;>(try simp only[Q] at h1p);exfalso;simp at h1<;>omega;refine xam (ι:=List (Ctor)×List (Ctor)×(List Int)) hk (fun x=>[(6,.d (.i (x.1.length:Int))),(5,.gl 1 (x.2.2.map fun n=>[D.i n]))]) [12,13,14,15,16,17,18,19,20,21,22,23,24,25,26,27,28,29,30,31,32,33,34,35,36,37,38] (fun x=>[(1,some (.tok ((x.2.2.map fun n=>[D.i n])).length 1))]) (fun x=>x.1++x.2.1=(nth w d).ctors/\x.2.2++zaU k x.1.length x.2.1=zaU k 0 (nth w d).ctors/\x.2.2.length<=x.1.length) (fun x=>x.2.1.length) ([],(nth w d).ctors,[]) ⟨by simp,by simp,by simp⟩ ⟨⟨_,rfl,xau ?_⟩,⟨⟨_,rfl,LeA.glg ?_⟩,trivial⟩⟩ ⟨zas ?_,trivial⟩ (fun x=>rfl) (fun x hg1=>?_);iterate 3 focus (rfl)
 obtain⟨pre,rest,acc⟩:=x;dsimp only at hg1 ⊢;refine evc [] [] ?_;refine xaK sl23 .none rfl rfl rfl rfl (zau hd) rfl ?_;refine ev ?_;refine sq ?_ ?_<;>intro h2 h2p h2s<;>(try simp only[Q] at h2p);rcases rest with _|⟨y,rest⟩
 ·exfalso;simp_all
 refine xaK sl23 .none rfl rfl rfl rfl (zau hd) rfl ?_;refine evd [] [] ?_;refine xaK zby .none rfl rfl rfl rfl (zaW hg1.1) rfl ?_;refine evd [] [] ?_;refine wc zqF (zk2) rfl rfl ?_;refine dr ?_;refine sq ?_ ?_<;>intro h3 h3p h3s<;>(try simp only[Q] at h3p);refine si [0] [_] sl29 tz3 ?_;refine ap sl29 zz3 rfl rfl rfl (by simp) (by have hl:=hg1.2.2;simp;omega) ?_;refine ev ?_;refine ar ?_;refine xah ((pre++[y],rest,if fits y k then acc++[(pre.length:Int)] else acc)) ⟨⟨(by have hz:=hg1.1;rw[<-hz];simp),⟨by rw[<-hg1.2.1];by_cases hf:fits y k=true<;>simp[zaU,hf],by split<;>simp<;>omega⟩⟩,(by simp),sx ⟨⟨_,rfl,xau ?_⟩,⟨⟨_,rfl,LeA.glg ?_⟩,trivial⟩⟩ ⟨zas ?_,trivial⟩⟩;iterate 3 focus ((simp[Ctor.eta,h1s,h1p,h2s,h2p,h3s,h3p];done))
 refine ar ?_;refine xah ((pre++[y],rest,if fits y k then acc++[(pre.length:Int)] else acc)) ⟨⟨(by have hz:=hg1.1;rw[<-hz];simp),⟨by rw[<-hg1.2.1];by_cases hf:fits y k=true<;>simp[zaU,hf],by split<;>simp<;>omega⟩⟩,(by simp),sx ⟨⟨_,rfl,xau ?_⟩,⟨⟨_,rfl,LeA.glg ?_⟩,trivial⟩⟩ ⟨zas ?_,trivial⟩⟩;iterate 3 focus ((simp[Ctor.eta,h1s,h1p,h2s,h2p,h3s,h3p];done))
 have hrest:rest=[]:=by
  rcases rest with _|⟨a,b⟩
  ·rfl
  ·exfalso;have hz:=congrArg List.length (hg1.1);simp only[xaa,xab,xac] at hz;omega
 subst hrest;refine rn0 (r1 rfl) (.gld ?_);rotate_left;all_goals (have e:=hg1.2.1;simp only[zaU,List.append_nil] at e;rw[e])
theorem zjA {s:Str}{l:List Ty}{i k:Int}:FnD Tryz.prog 320 [.agg [.d (.str s),.d (za8 l),.d (.i i)],.d (.i k)] [] (.d (.i (zcf ⟨s,l,i⟩ k))) []:=by
 refine bd Tryz.f320 11 [] [] fun w0 F0 own kept hk=>?_;refine bx 3002 ?_;refine ev ?_;refine sq ?_ ?_<;>intro h1 h1p h1s<;>(try simp only[Q] at h1p);focus (refine rq ?_;all_goals (refine congrArg D.i ?_;simp[zcf,h1s,h1p]))
 focus (refine rq ?_;all_goals (refine congrArg D.i ?_;simp[zcf,h1s,h1p]))
theorem zjc {w:List Data}{d c:Nat}{k:Int} (hs:WSmall w) (hd:d<w.length) (hc:c<(nth w d).ctors.length):FnD Tryz.prog 144 [.d (zao w),.agg [.d (.i d),.d (.i k)],.d (.i c)] [] (.d (za8 ((nth (nth w d).ctors c).args.map (zcp (zcf (nth (nth w d).ctors c) k))))) []:=by
 have hb:=(hs.ctor _ (zap hd) _ (zap hc)).2;refine bd Tryz.f144 45 [9] [] fun w0 F0 own kept hk=>?_;refine bx 3004 ?_;refine evs [9] [] ?_;refine xaK sl23 .none rfl rfl rfl rfl (zau hd) rfl ?_;refine evs [9] [] ?_;refine xaK zby .none rfl rfl rfl rfl (zau hc) rfl ?_;refine evs [9] [] ?_;refine ab 3007 ze0 ?_;refine so zeZ ?_;refine tv ?_;refine sq ?_ ?_<;>intro h1 h1p h1s<;>(try simp only[Q] at h1p);refine xaB 1 2 .none rfl rfl ?_;refine tv ?_;refine xam (ι:=List (Ty)×List (Ty)) hk (fun x=>[(30,.d (.i (x.1.length:Int))),(9,.gl 1 ((x.1.map (zcp (zcf (nth (nth w d).ctors c) k))).map Ty.c))]) [11,31,32,33,34,35,36,37,38,39,40,41,42,43] (fun x=>[(1,some (.tok (((x.1.map (zcp (zcf (nth (nth w d).ctors c) k))).map Ty.c)).length 2))]) (fun x=>x.1++x.2=(nth (nth w d).ctors c).args) (fun x=>x.2.length) ([],(nth (nth w d).ctors c).args) (by simp) ⟨⟨_,rfl,xau ?_⟩,⟨⟨_,rfl,LeA.glg ?_⟩,trivial⟩⟩ ⟨zas ?_,trivial⟩ (fun x=>rfl) (fun x hg1=>?_);iterate 3 focus (rfl)
 obtain⟨pre,rest⟩:=x;dsimp only at hg1 ⊢;refine evc [9] [] ?_;refine sq ?_ ?_<;>intro h2 h2p h2s<;>(try simp only[Q] at h2p);rcases rest with _|⟨y,rest⟩
 ·exfalso;simp_all
 refine xaK zaV .none rfl rfl rfl rfl (zaW hg1) rfl ?_;refine evs [9] [] ?_;refine ab 3011 tz25 ?_;refine so ty25 ?_;refine tv ?_;refine sq ?_ ?_<;>intro h3 h3p h3s<;>(try simp only[Q] at h3p);refine so ty3 ?_;refine tv ?_;refine si [0] [_] zaV tz25 ?_;refine ap zaV zz25 rfl rfl rfl (by simp) (by have hl:=congrArg List.length hg1;simp at hl;simp;omega) ?_;refine asg ?_;refine tv ?_;refine ar ?_;refine xah ((pre++[y],rest)) ⟨(by have hz:=hg1;rw[<-hz];simp),(by simp),sx ⟨⟨_,rfl,xau ?_⟩,⟨⟨_,rfl,LeA.glg ?_⟩,trivial⟩⟩ ⟨zas ?_,trivial⟩⟩;iterate 3 focus ((simp[zcp,zcf,h1s,h1p,h2s,h2p,h3s,h3p];done))
 refine si [0] [_] zaV tz25 ?_;refine ap zaV zz25 rfl rfl rfl (by simp) (by have hl:=congrArg List.length hg1;simp at hl;simp;omega) ?_;refine asg ?_;refine tv ?_;refine ar ?_;refine xah ((pre++[y],rest)) ⟨(by have hz:=hg1;rw[<-hz];simp),(by simp),sx ⟨⟨_,rfl,xau ?_⟩,⟨⟨_,rfl,LeA.glg ?_⟩,trivial⟩⟩ ⟨zas ?_,trivial⟩⟩;iterate 3 focus ((simp[zcp,zcf,h1s,h1p,h2s,h2p,h3s,h3p];done))
 have hrest:rest=[]:=by
  rcases rest with _|⟨a,b⟩
  ·rfl
  ·exfalso;have hz:=congrArg List.length (hg1);simp only[xaa,xab,xac] at hz;omega
 subst hrest;focus (refine rn0 (r1 rfl) (.gld ?_);all_goals (simp[<-hg1,zcf,h1s,h1p,h2s,h2p]))
 refine xaB 1 2 .none rfl rfl ?_;refine tv ?_;refine xam (ι:=List (Ty)×List (Ty)) hk (fun x=>[(30,.d (.i (x.1.length:Int))),(9,.gl 1 ((x.1.map (zcp (zcf (nth (nth w d).ctors c) k))).map Ty.c))]) [11,31,32,33,34,35,36,37,38,39,40,41,42,43] (fun x=>[(1,some (.tok (((x.1.map (zcp (zcf (nth (nth w d).ctors c) k))).map Ty.c)).length 2))]) (fun x=>x.1++x.2=(nth (nth w d).ctors c).args) (fun x=>x.2.length) ([],(nth (nth w d).ctors c).args) (by simp) ⟨⟨_,rfl,xau ?_⟩,⟨⟨_,rfl,LeA.glg ?_⟩,trivial⟩⟩ ⟨zas ?_,trivial⟩ (fun x=>rfl) (fun x hg1=>?_);iterate 3 focus (rfl)
 obtain⟨pre,rest⟩:=x;dsimp only at hg1 ⊢;refine evc [9] [] ?_;refine sq ?_ ?_<;>intro h4 h4p h4s<;>(try simp only[Q] at h4p);rcases rest with _|⟨y,rest⟩
 ·exfalso;simp_all
 refine xaK zaV .none rfl rfl rfl rfl (zaW hg1) rfl ?_;refine evs [9] [] ?_;refine ab 3011 tz25 ?_;refine so ty25 ?_;refine tv ?_;refine sq ?_ ?_<;>intro h5 h5p h5s<;>(try simp only[Q] at h5p);refine so ty3 ?_;refine tv ?_;refine si [0] [_] zaV tz25 ?_;refine ap zaV zz25 rfl rfl rfl (by simp) (by have hl:=congrArg List.length hg1;simp at hl;simp;omega) ?_;refine asg ?_;refine tv ?_;refine ar ?_;refine xah ((pre++[y],rest)) ⟨(by have hz:=hg1;rw[<-hz];simp),(by simp),sx ⟨⟨_,rfl,xau ?_⟩,⟨⟨_,rfl,LeA.glg ?_⟩,trivial⟩⟩ ⟨zas ?_,trivial⟩⟩;iterate 3 focus ((simp[zcp,zcf,h1s,h1p,h4s,h4p,h5s,h5p];done))
 refine si [0] [_] zaV tz25 ?_;refine ap zaV zz25 rfl rfl rfl (by simp) (by have hl:=congrArg List.length hg1;simp at hl;simp;omega) ?_;refine asg ?_;refine tv ?_;refine ar ?_;refine xah ((pre++[y],rest)) ⟨(by have hz:=hg1;rw[<-hz];simp),(by simp),sx ⟨⟨_,rfl,xau ?_⟩,⟨⟨_,rfl,LeA.glg ?_⟩,trivial⟩⟩ ⟨zas ?_,trivial⟩⟩;iterate 3 focus ((simp[zcp,zcf,h1s,h1p,h4s,h4p,h5s,h5p];done))
 have hrest:rest=[]:=by
  rcases rest with _|⟨a,b⟩
  ·rfl
  ·exfalso;have hz:=congrArg List.length (hg1);simp only[xaa,xab,xac] at hz;omega
 subst hrest;focus (refine rn0 (r1 rfl) (.gld ?_);all_goals (simp[<-hg1,zcf,h1s,h1p,h4s,h4p]))
theorem zkZ {w:List Data}{d c:Nat}{k:Int} (hs:WSmall w) (hd:d<w.length) (hc:c<(nth w d).ctors.length):FnD Tryz.prog 254 [.d (zao w),.agg [.d (.i d),.d (.i k)],.d (.i c)] [] (.d (za8 ((nth (nth w d).ctors c).args.map (zcp (zcf (nth (nth w d).ctors c) k))))) []:=by
 have hb:=(hs.ctor _ (zap hd) _ (zap hc)).2;refine bd Tryz.f254 46 [] [] fun w0 F0 own kept hk=>?_;refine bx 3004 ?_;refine ev ?_;refine xa2 1 zaV .none rfl rfl ?_;refine ev ?_;refine xaK sl23 .none rfl rfl rfl rfl (zau hd) rfl ?_;refine ev ?_;refine xaK zby .none rfl rfl rfl rfl (zau hc) rfl ?_;refine ev ?_;refine ab 3008 ze0 ?_;refine so zeZ ?_;refine tv ?_;refine xam (ι:=List (Ty)×List (Ty)) hk (fun x=>[(9,.d (.i (x.1.length:Int))),(7,.gl 1 ((x.1.map (zcp (zcf (nth (nth w d).ctors c) k))).map Ty.c))]) [10,21,22,23,24,25,26,27,28,29,30,31,32,33,34,35,36,37,38,39,40,41,42,43,44] (fun x=>[(1,some (.tok (((x.1.map (zcp (zcf (nth (nth w d).ctors c) k))).map Ty.c)).length 2))]) (fun x=>x.1++x.2=(nth (nth w d).ctors c).args) (fun x=>x.2.length) ([],(nth (nth w d).ctors c).args) (by simp) ⟨⟨_,rfl,xau ?_⟩,⟨⟨_,rfl,LeA.glg ?_⟩,trivial⟩⟩ ⟨zas ?_,trivial⟩ (fun x=>rfl) (fun x hg1=>?_);iterate 3 focus (rfl)
 obtain⟨pre,rest⟩:=x;dsimp only at hg1 ⊢;refine evc [] [] ?_;refine sq ?_ ?_<;>intro h1 h1p h1s<;>(try simp only[Q] at h1p);rcases rest with _|⟨y,rest⟩
 ·exfalso;simp_all
 refine xaK zaV .none rfl rfl rfl rfl (zaW hg1) rfl ?_;refine ev ?_;refine ab 3010 tz25 ?_;refine so ty25 ?_;refine tv ?_;refine sq ?_ ?_<;>intro h2 h2p h2s<;>(try simp only[Q] at h2p);refine wc zqJ (zjA) rfl rfl ?_;refine ev ?_;refine so ty3 ?_;refine tv ?_;refine si [0] [_] zaV tz25 ?_;refine ap zaV zz25 rfl rfl rfl (by simp) (by have hl:=congrArg List.length hg1;simp at hl;simp;omega) ?_;refine ev ?_;refine ar ?_;refine xah ((pre++[y],rest)) ⟨(by have hz:=hg1;rw[<-hz];simp),(by simp),sx ⟨⟨_,rfl,xau ?_⟩,⟨⟨_,rfl,LeA.glg ?_⟩,trivial⟩⟩ ⟨zas ?_,trivial⟩⟩;iterate 3 focus ((simp[zcp,Ctor.eta,h1s,h1p,h2s,h2p];done))
 refine si [0] [_] zaV tz25 ?_;refine ap zaV zz25 rfl rfl rfl (by simp) (by have hl:=congrArg List.length hg1;simp at hl;simp;omega) ?_;refine ev ?_;refine ar ?_;refine xah ((pre++[y],rest)) ⟨(by have hz:=hg1;rw[<-hz];simp),(by simp),sx ⟨⟨_,rfl,xau ?_⟩,⟨⟨_,rfl,LeA.glg ?_⟩,trivial⟩⟩ ⟨zas ?_,trivial⟩⟩;iterate 3 focus ((simp[zcp,Ctor.eta,h1s,h1p,h2s,h2p];done))
 have hrest:rest=[]:=by
  rcases rest with _|⟨a,b⟩
  ·rfl
  ·exfalso;have hz:=congrArg List.length (hg1);simp only[xaa,xab,xac] at hz;omega
 subst hrest;focus (refine rn0 (r1 rfl) (.gld ?_);all_goals (simp[<-hg1,zcf,h1s,h1p]))
mutual
def ze1:Val->Val->Bool
 | .mk a n ks,.mk b m ls=>decide (a=b)&&(decide (n=m)&&zbS ks ls)
def zbS:List Val->List Val->Bool
 | [],[]=>true
 |x::r,y::s=>ze1 x y&&zbS r s
 |_,_=>false
end
mutual
def Val.ok:Val->Prop
 | .mk _ _ ks=>ks.length<=1000000000000/\Vals.ok ks
def Vals.ok:List Val->Prop
 | []=>True
 |v::r=>v.ok/\Vals.ok r
end
theorem Vals.ok_mem:∀ {l:List Val},Vals.ok l->∀v,v∈l->v.ok
 |x::r,h,v,hv=>by
  simp only[Vals.ok] at h;rcases List.mem_cons.1 hv with rfl|hv
  ·exact h.1
  ·exact Vals.ok_mem h.2 v hv
mutual
def Val.size:Val->Nat
 | .mk _ _ ks=>1+Vals.size ks
def Vals.size:List Val->Nat
 | []=>0
 |v::r=>v.size+Vals.size r
end
theorem Vals.size_mem:∀ {l:List Val}{v:Val},v∈l->v.size<=Vals.size l
 |x::r,v,hv=>by
  simp only[Vals.size];rcases List.mem_cons.1 hv with rfl|hv
  ·omega
  ·have:=Vals.size_mem hv;omega
theorem zkx:∀ {a b:List Val},a.length≠b.length->zbS a b=false
 | [],[],h=>by simp at h
 | [],_::_,_=>by simp[zbS]
 |_::_,[],_=>by simp[zbS]
 |x::r,y::s,h=>by simp[zbS,zkx (a:=r) (b:=s) (by simpa using h)]
theorem zed {l:List Val}{i:Nat} (h:i<l.length):(Val.cs l)[i]?=some (nth l i).cc:=by
 rw[Val.cs_eq,<-Val.c_eq];exact zau h
theorem Val.ok_iff (v:Val):v.ok↔v.kids.length<=1000000000000/\Vals.ok v.kids:=by cases v;rfl
theorem Val.size_eq (v:Val):v.size=1+Vals.size v.kids:=by cases v;rfl
theorem zph (v w:Val):ze1 v w=(decide (v.ctor=w.ctor)&&(decide (v.num=w.num)&&zbS v.kids w.kids)):=by cases v;cases w;rfl
theorem zjB {a b:List Val}{i:Nat} (h:i<a.length) (h2:ze1 (nth a i) (nth b i)=false):zbS a b=false:=by
 induction i generalizing a b with
 |zero=>
  cases a with
  |nil=>simp at h
  |cons x r=>
   cases b with
   |nil=>simp[zbS]
   |cons y s=>simp[nth] at h2;simp[zbS,h2]
 |succ i ih=>
  cases a with
  |nil=>simp at h
  |cons x r=>
   cases b with
   |nil=>simp[zbS]
   |cons y s=>simp only[zbS];rw[ih (a:=r) (b:=s) (by simpa using h) (by simpa [nth] using h2)];simp
theorem zky {a b:List Val} (hl:a.length=b.length) (h:∀i,i<a.length->ze1 (nth a i) (nth b i)=true):zbS a b=true:=by
 induction a generalizing b with
 |nil=>cases b with
  |nil=>simp[zbS]
  |cons y s=>simp at hl
 |cons x r ih=>cases b with
  |nil=>simp at hl
  |cons y s=>
   have h0:=h 0 (by simp);simp only[zbS];rw[ih (by simpa using hl) (fun i hi=>by simpa [nth] using h (i+1) (by simpa using hi))];simpa [nth] using h0
theorem zmQ {w:List Data}{a b:Int}:FnD Tryz.prog 222 [.d (zao w),.agg [.d (.i a),.d (.i b)]] [] (.d (.bool (zbO w.length ⟨a,b⟩&&decide (0<=b)))) []:=by
 refine bd Tryz.f222 14 [] [] fun w0 F0 own kept hk=>?_;refine bx 3003 ?_;refine ev ?_;refine wc zoa (zhs) rfl rfl ?_;refine ev ?_;refine sq ?_ ?_<;>intro h1 h1p h1s<;>(try simp only[Q] at h1p);focus (refine rq ?_;all_goals ((simp[h1s,h1p];done)))
 focus (refine rq ?_;all_goals ((simp[h1s,h1p];done)))
theorem ziQ {w:List Data}{a b:Int} (hs:WSmall w):FnD Tryz.prog 126 [.d (zao w),.agg [.d (.i a),.d (.i b)]] [] (.d (.bool (za6 w&&(zbO w.length ⟨a,b⟩&&decide (0<=b))))) []:=by
 refine bd Tryz.f126 12 [] [] fun w0 F0 own kept hk=>?_;refine bx 3003 ?_;refine ev ?_;refine wc zqm (zim hs) rfl rfl ?_;refine ev ?_;refine sq ?_ ?_<;>intro h1 h1p h1s<;>(try simp only[Q] at h1p);refine Walk.call (cr:=[]) zqt (zmQ) rfl (.some rfl rfl h1) rfl rfl (LeL.refl _) trivial rfl rfl rfl ?_;refine evs [] [(7,true)] ?_ ⟨⟨_,rfl,h1⟩,trivial⟩;focus (refine rq ?_;all_goals ((simp[h1s,h1p];done)))
 focus (refine rq ?_;all_goals ((simp[h1s,h1p];done)))
def Pat.op:Pat->Int | .mk a0 _ _ _ _ _=>a0
def Pat.ctor:Pat->Int | .mk _ a1 _ _ _ _=>a1
def Pat.n:Pat->Int | .mk _ _ a2 _ _ _=>a2
def Pat.m:Pat->Int | .mk _ _ _ a3 _ _=>a3
def Pat.var:Pat->Int | .mk _ _ _ _ a4 _=>a4
def Pat.kids:Pat->List Pat | .mk _ _ _ _ _ k=>k
abbrev Pat.cc (v:Pat):List D:=[.i v.op,.i v.ctor,.i v.n,.i v.m,.i v.var,.sl (Pat.cs v.kids)]
theorem Pat.c_eq (v:Pat):v.c=v.cc:=by cases v;rfl
theorem Pat.eta (v:Pat):Pat.mk v.op v.ctor v.n v.m v.var v.kids=v:=by cases v;rfl
theorem Pat.cs_at' {pre:List Pat}{x:Pat}{rest xs:List Pat} (h:pre++x::rest=xs):(Pat.cs xs)[pre.length]?=some x.cc:=by rw[Pat.cs_eq,<-Pat.c_eq];exact zaW h
mutual
def zeX:Pat->Pat->Bool
 | .mk a0 a1 a2 a3 a4 ks,.mk b0 b1 b2 b3 b4 ls=>decide (a0=b0)&&(decide (a1=b1)&&(decide (a2=b2)&&(decide (a3=b3)&&(decide (a4=b4)&&zbQ ks ls))))
def zbQ:List Pat->List Pat->Bool
 | [],[]=>true
 |x::r,y::s=>zeX x y&&zbQ r s
 |_,_=>false
end
mutual
def Pat.ok:Pat->Prop
 | .mk _ _ _ _ _ ks=>ks.length<=1000000000000/\Pats.ok ks
def Pats.ok:List Pat->Prop
 | []=>True
 |v::r=>v.ok/\Pats.ok r
end
theorem Pats.ok_mem:∀ {l:List Pat},Pats.ok l->∀v,v∈l->v.ok
 |x::r,h,v,hv=>by
  simp only[Pats.ok] at h;rcases List.mem_cons.1 hv with rfl|hv
  ·exact h.1
  ·exact Pats.ok_mem h.2 v hv
mutual
def Pat.size:Pat->Nat
 | .mk _ _ _ _ _ ks=>1+Pats.size ks
def Pats.size:List Pat->Nat
 | []=>0
 |v::r=>v.size+Pats.size r
end
theorem Pats.size_mem:∀ {l:List Pat}{v:Pat},v∈l->v.size<=Pats.size l
 |x::r,v,hv=>by
  simp only[Pats.size];rcases List.mem_cons.1 hv with rfl|hv
  ·omega
  ·have:=Pats.size_mem hv;omega
theorem zkf:∀ {a b:List Pat},a.length≠b.length->zbQ a b=false
 | [],[],h=>by simp at h
 | [],_::_,_=>by simp[zbQ]
 |_::_,[],_=>by simp[zbQ]
 |x::r,y::s,h=>by simp[zbQ,zkf (a:=r) (b:=s) (by simpa using h)]
theorem za5 {l:List Pat}{i:Nat} (h:i<l.length):(Pat.cs l)[i]?=some (nth l i).cc:=by
 rw[Pat.cs_eq,<-Pat.c_eq];exact zau h
theorem Pat.ok_iff (v:Pat):v.ok↔v.kids.length<=1000000000000/\Pats.ok v.kids:=by cases v;rfl
theorem Pat.size_eq (v:Pat):v.size=1+Pats.size v.kids:=by cases v;rfl
theorem zpa (v w:Pat):zeX v w=(decide (v.op=w.op)&&(decide (v.ctor=w.ctor)&&(decide (v.n=w.n)&&(decide (v.m=w.m)&&(decide (v.var=w.var)&&zbQ v.kids w.kids))))):=by cases v;cases w;rfl
theorem zjr {a b:List Pat}{i:Nat} (h:i<a.length) (h2:zeX (nth a i) (nth b i)=false):zbQ a b=false:=by
 induction i generalizing a b with
 |zero=>
  cases a with
  |nil=>simp at h
  |cons x r=>
   cases b with
   |nil=>simp[zbQ]
   |cons y s=>simp[nth] at h2;simp[zbQ,h2]
 |succ i ih=>
  cases a with
  |nil=>simp at h
  |cons x r=>
   cases b with
   |nil=>simp[zbQ]
   |cons y s=>simp only[zbQ];rw[ih (a:=r) (b:=s) (by simpa using h) (by simpa [nth] using h2)];simp
theorem zkg {a b:List Pat} (hl:a.length=b.length) (h:∀i,i<a.length->zeX (nth a i) (nth b i)=true):zbQ a b=true:=by
 induction a generalizing b with
 |nil=>cases b with
  |nil=>simp[zbQ]
  |cons y s=>simp at hl
 |cons x r ih=>cases b with
  |nil=>simp at hl
  |cons y s=>
   have h0:=h 0 (by simp);simp only[zbQ];rw[ih (by simpa using hl) (fun i hi=>by simpa [nth] using h (i+1) (by simpa using hi))];simpa [nth] using h0
mutual
theorem zke:∀v:Pat,zeX v v=true
 | .mk _ _ _ _ _ ks=>by simp[zeX,zi3 ks]
theorem zi3:∀l:List Pat,zbQ l l=true
 | []=>rfl
 |v::r=>by simp[zbQ,zke v,zi3 r]
end
theorem zlL (m:Bool) (y:Pat) (rest:List Pat):zac m (Pat.cs (y::rest)) = .d (.i y.op):: .d (.i y.ctor):: .d (.i y.n):: .d (.i y.m):: .d (.i y.var):: .own m (zaw y.kids)::zac m (Pat.cs rest):=by
 cases y;rfl
theorem zc5 (m:Bool) (l:List Pat) (y:Pat):zac m (Pat.cs (l++[y]))=zac m (Pat.cs l)++[.d (.i y.op),.d (.i y.ctor),.d (.i y.n),.d (.i y.m),.d (.i y.var),.own m (zaw y.kids)]:=by
 rw[Pat.cs_eq,xaf,<-Pat.cs_eq,zdg];congr 1
 cases y;rfl
theorem Pat.c_len (v:Pat):v.c.length=6:=by cases v;rfl
theorem Pat.cs_rows {l:List Pat}:∀x,x∈Pat.cs l->x.length=6:=by
 intro x hx;rw[Pat.cs_eq] at hx;obtain⟨y,_,rfl⟩:=List.mem_map.1 hx;exact y.c_len
theorem Pat.cs_nil (l:List Pat):Pat.cs l=[]↔l=[]:=by rw[Pat.cs_eq];simp
theorem zaT (m:Bool) (l:List Pat):(zac m (Pat.cs l)).length=l.length*6:=by
 rw[zbv (k:=6) Pat.cs_rows,Pat.cs_len]
mutual
def mPat:Pat->Nat
 | .mk _ _ _ _ _ ks=>zet ks
def zet:List Pat->Nat
 | []=>0
 |v::r=>1+mPat v+zet r
end
theorem zpZ (v:Pat):mPat v=zet v.kids:=by cases v;rfl
theorem zmy:∀l:List Pat,zet l=l.length+(l.map mPat).sum
 | []=>rfl
 |v::r=>by simp only[zet,zmy r,xab,xae,List.sum_cons];omega
theorem zhZ {l:List Pat}{left:Int} (h:l.length<=1000000000000) (k0:0<=left) (k1:left<=1000000000000)
  (hf:∀v∈l,∀q:Int,0<=q->q<=1000000000000->FnD Tryz.prog 162 [.agg [.d (.i v.op),.d (.i v.ctor),.d (.i v.n),.d (.i v.m),.d (.i v.var),.d (zaw v.kids)],.d (.i q)] [] (.d (.i (szr q (mPat v)))) []):
  FnD Tryz.prog 256 [.d (zaw l),.d (.i left)] [] (.d (.i (szr left (zet l)))) []:=by
 have z:=zba (left:=left) (zet l);rw[zmy] at z ⊢;refine bd Tryz.f256 27 [] [] fun w0 F0 own kept hk=>?_;refine ar ?_ (by first|(constructor<;>omega)|(constructor<;>simp[Pat.cs_len]<;>omega));refine sq ?_ ?_<;>intro h1 h1p h1s<;>(try simp only[Q,Pat.cs_len] at h1p);refine rq ?_;rotate_left;refine xam (ι:=List (Pat)×List (Pat)×(Int)) hk (fun x=>[(5,.d (.i (x.1.length:Int))),(1,.d (.i x.2.2))]) [4,12,13,14,15,16,17,18,19,20,21,22,23,24,25] (fun x=>[]) (fun x=>x.1++x.2.1=l/\x.2.2=left-l.length-(x.1.map mPat).sum/\0<=x.2.2) (fun x=>x.2.1.length) ([],l,left-l.length) ⟨by simp,by simp,by simp[Pat.cs_len] at *;omega⟩ ⟨⟨_,rfl,xau ?_⟩,⟨⟨_,rfl,xau ?_⟩,trivial⟩⟩ trivial (fun x=>rfl) (fun x hg1=>?_);iterate 2 focus (first|rfl|(simp;done)|(simp[Pat.cs_len];done))
 obtain⟨pre,rest,v⟩:=x;dsimp only at hg1 ⊢;refine evc [] [] ?_;refine sq ?_ ?_<;>intro h2 h2p h2s<;>(try simp only[Q,Pat.cs_len] at h2p);rcases rest with _|⟨y,rest⟩
 ·exfalso;simp_all
 refine xaK zpJ .none rfl rfl rfl rfl (Pat.cs_at' hg1.1) rfl ?_;refine ev ?_;refine wc znS (hf y (by rw[<-hg1.1];simp) _ (by omega) (by omega)) rfl rfl ?_;refine ev ?_;refine sq ?_ ?_<;>intro h3 h3p h3s<;>(try simp only[Q,Pat.cs_len] at h3p);refine rq ?_;rotate_left;refine ar ?_ (by first|(constructor<;>omega)|(constructor<;>simp[Pat.cs_len]<;>omega));refine xah ((pre++[y],rest,szr v (mPat y))) ⟨⟨(by have hz:=hg1.1;rw[<-hz];simp),(by have e:=zck (f:=mPat) hg1.1;have z3:=zba (left:=v) (mPat y);simp;omega)⟩,(by simp),sx ⟨⟨_,rfl,xau ?_⟩,⟨⟨_,rfl,xau ?_⟩,trivial⟩⟩ trivial⟩;iterate 2 focus (first|rfl|(simp;done)|(simp[Pat.cs_len];done))
 have hrest:rest=[]:=by
  rcases rest with _|⟨a,b⟩
  ·rfl
  ·exfalso;have hz:=congrArg List.length (hg1.1);simp only[xaa,xab,xac] at hz;omega
 subst hrest;refine rq ?_;rotate_left;all_goals (refine congrArg D.i ?_;first|omega|(have e:=zck (f:=mPat) hg1.1;have z3:=zba (left:=v) (mPat y);simp only[Pat.cs_len] at *;omega)|(rw[List.append_nil] at hg1;rw[hg1.1] at hg1;simp only[Pat.cs_len] at *;omega)|(simp only[Pat.cs_len] at *;omega))
theorem zfm:∀(n:Nat){v:Pat}{left:Int},v.size<=n->v.ok->0<=left->left<=1000000000000->FnD Tryz.prog 162 [.agg [.d (.i v.op),.d (.i v.ctor),.d (.i v.n),.d (.i v.m),.d (.i v.var),.d (zaw v.kids)],.d (.i left)] [] (.d (.i (szr left (mPat v)))) []
 |0,v,left,h,_,_,_=>by rw[Pat.size_eq] at h;omega
 |n+1,v,left,h,hok,k0,k1=>by
  rw[Pat.size_eq] at h;rw[Pat.ok_iff] at hok;rw[zpZ];have z:=zba (left:=left) (zet v.kids);refine bd Tryz.f162 12 [] [] fun w0 F0 own kept hk=>?_;refine bx 3002 ?_;refine ev ?_;refine wc zqw (zhZ hok.1 k0 k1 (fun x hx q q0 q1=>zfm n (by have:=Pats.size_mem hx;omega) (Pats.ok_mem hok.2 x hx) q0 q1)) rfl rfl ?_;refine ev ?_;refine sq ?_ ?_<;>intro h1 h1p h1s<;>(try simp only[Q] at h1p);refine rq ?_;rotate_left;refine rq ?_;rotate_left;all_goals (refine congrArg D.i ?_;omega)
theorem zh0 {l:List Pat} (h:l.length<=1000000000000)
  (hf:∀v∈l,FnD Tryz.prog 164 [.agg [.d (.i v.op),.d (.i v.ctor),.d (.i v.n),.d (.i v.m),.d (.i v.var),.d (zaw v.kids)]] [] (.agg [.d (.i v.op),.d (.i v.ctor),.d (.i v.n),.d (.i v.m),.d (.i v.var),.ms 66 v.kids.length]) [(66,some (.tree (zac false (Pat.cs v.kids))))]):
  FnD Tryz.prog 258 [.d (zaw l)] [] (.ms 66 l.length) [(66,some (.tree (zac false (Pat.cs l))))]:=by
 have hf2:∀v∈l,FnD Tryz.prog 164 [.agg [.d (.i v.op),.d (.i v.ctor),.d (.i v.n),.d (.i v.m),.d (.i v.var),.d (zaw v.kids)]] [] (.agg [.d (.i v.op),.d (.i v.ctor),.d (.i v.n),.d (.i v.m),.d (.i v.var),.ms 67 v.kids.length]) [(67,some (.tree (zac false (Pat.cs v.kids))))]:=fun v hv=>xar (zaa _ _) rfl (hf v hv) 67;refine bd Tryz.f258 23 [] [2,4] fun w0 F0 own kept hk=>?_;refine xaS (id:=66) sl34 tz36 rfl (by decide) (zbL rfl) .none rfl rfl rfl (by simp[Pat.cs_len];omega) (by simp[Pat.cs_len];omega) rfl rfl rfl ?_;refine ev ?_;refine CWp.boxTree 66 false rfl rfl (zc1 _ _ _) ?_;refine evc [] [] ?_;refine xam (ι:=List (Pat)×List (Pat)) hk (fun x=>[(4,.d (.i (x.1.length:Int)))]) [8,9,10,11,12,13,14,15,16,17,18,19,20,21] (fun x=>[(66,some (.tree (zac false (Pat.cs x.1)++zaJ x.2.length [.d (.i 0),.d (.i 0),.d (.i 0),.d (.i 0),.d (.i 0),.own false (.sl [])])))]) (fun x=>x.1++x.2=l) (fun x=>x.2.length) ([],l) (by simp) ⟨⟨_,rfl,xau ?_⟩,trivial⟩ ⟨?_,trivial⟩ (fun x=>rfl) (fun x hg1=>?_);focus (first|rfl|(simp;done)|(simp_all;done)|omega)
 focus (first|rfl|(show some (Res.tree _)=some (Res.tree _);rw[zc5,List.append_assoc];rfl)|(show some (Res.tree _)=some (Res.tree _);simp[zaQ,Pat.cs_len];rfl))
 obtain⟨pre,rest⟩:=x;dsimp only at hg1 ⊢;refine evc [] [2,4] ?_;refine sq ?_ ?_<;>intro h1 h1p h1s<;>(try simp only[Q,Pat.cs_len] at h1p);rcases rest with _|⟨y,rest⟩
 ·exfalso;simp_all
 refine xaK zpJ .none rfl rfl rfl rfl (Pat.cs_at' hg1) rfl ?_;refine ev ?_;refine Walk.call (cr:=[67]) zme (hf2 y (by rw[<-hg1];simp)) rfl .none rfl rfl (LeL.refl _) trivial rfl (by first|rfl|(simp only[zam,List.all_cons,List.all_nil,zaz,zat,AV.idsL,AV.ids,zab,zaa,xae,List.map_nil];rfl)) (by first|rfl|(simp only[zaf,occH,occE,Res.ids,xag,List.nil_append,AV.idsL,AV.ids,zab,zaa,zad,zaj,xae,List.map_nil,upC];rfl)) ?_;refine xaM sl34 .none rfl rfl rfl rfl (by first|omega|(simp[Pat.cs_len];omega)) ?_;refine xa6 ty36 .none rfl rfl rfl rfl rfl rfl (by simp) ((zea (zaT false _) rfl)) ?_;refine tv ?_;refine CWp.merge hk 66 (pre.length*6+5) 67 6 _ rfl (zaC (zaT false _) rfl) (by simp[zai,Pat.cs_len]) rfl Pat.cs_rows rfl rfl (zar (zaT false _) (zbA rfl)) ?_;refine evc [] [] ?_;refine ar ?_;refine xah ((pre++[y],rest)) ⟨(by have hz:=hg1;rw[<-hz];simp),(by simp),sx ⟨⟨_,rfl,xau ?_⟩,trivial⟩ ⟨?_,trivial⟩⟩;focus (first|rfl|(simp;done)|(simp_all;done)|omega)
 focus (first|rfl|(show some (Res.tree _)=some (Res.tree _);rw[zc5,List.append_assoc];rfl)|(show some (Res.tree _)=some (Res.tree _);simp[zaQ,Pat.cs_len];rfl))
 have hrest:rest=[]:=by
  rcases rest with _|⟨a,b⟩
  ·rfl
  ·exfalso;have hz:=congrArg List.length (hg1);simp only[xaa,xab,xac] at hz;omega
 subst hrest;refine rn [(66,some (.tree (zac false (Pat.cs l))))] (r1 rfl) (xav ?_) ⟨rfl,rfl⟩ (SubH.get ⟨?_,trivial⟩) (zaE rfl);rotate_left 2;all_goals (first|((first|rfl|(simp[Pat.cs_len];done));done)|(first|rfl|(rw[List.append_nil] at hg1;subst hg1;show some (Res.tree _)=some (Res.tree _);simp[zaJ];done)))
theorem zdQ:∀(n:Nat){v:Pat},v.size<=n->v.ok->FnD Tryz.prog 164 [.agg [.d (.i v.op),.d (.i v.ctor),.d (.i v.n),.d (.i v.m),.d (.i v.var),.d (zaw v.kids)]] [] (.agg [.d (.i v.op),.d (.i v.ctor),.d (.i v.n),.d (.i v.m),.d (.i v.var),.ms 66 v.kids.length]) [(66,some (.tree (zac false (Pat.cs v.kids))))]
 |0,v,h,_=>by rw[Pat.size_eq] at h;omega
 |n+1,v,h,hok=>by
  rw[Pat.size_eq] at h;rw[Pat.ok_iff] at hok;refine bd Tryz.f164 24 [] [] fun w0 F0 own kept hk=>?_;refine bx 3001 ?_;refine ab 3002 tz36 ?_;refine tv ?_;refine ab 3003 tz36 ?_;refine tv ?_;refine so ty3 ?_;refine tv ?_;refine so ty3 ?_;refine tv ?_;refine so ty3 ?_;refine tv ?_;refine so ty3 ?_;refine tv ?_;refine so ty3 ?_;refine tv ?_;refine Walk.call (cr:=[66]) zqx (zh0 hok.1 (fun x hx=>zdQ n (by have:=Pats.size_mem hx;omega) (Pats.ok_mem hok.2 x hx))) rfl .none rfl rfl (LeL.refl _) trivial rfl (by first|rfl|(simp only[zam,List.all_cons,List.all_nil,zaz,zat,AV.idsL,AV.ids,zab,zaa,xae,List.map_nil];rfl)) (by first|rfl|(simp only[zaf,occH,occE,Res.ids,xag,List.nil_append,AV.idsL,AV.ids,zab,zaa,zad,zaj,xae,List.map_nil,upC];rfl)) ?_;refine ev ?_;refine so ty34 ?_;refine tv ?_;refine so ty36 ?_;refine tv ?_;focus (refine rn [(66,some (.tree (zac false (Pat.cs v.kids))))] (.cons (.cellA ty36 rfl rfl rfl) .nil) (.agg (.cons (.eqd ?_) (.cons (.eqd ?_) (.cons (.eqd ?_) (.cons (.eqd ?_) (.cons (.eqd ?_) (.cons (xav ?_) .nil))))))) ⟨rfl,rfl⟩ (SubH.get ⟨rfl,trivial⟩) (zaE rfl);all_goals (first|rfl|(simp[];done)|(simp_all;done)|(simp_all;omega)|omega))
theorem ziM {v:Pat} (hok:v.ok):FnD Tryz.prog 164 [.agg [.d (.i v.op),.d (.i v.ctor),.d (.i v.n),.d (.i v.m),.d (.i v.var),.d (zaw v.kids)]] [] (.agg [.d (.i v.op),.d (.i v.ctor),.d (.i v.n),.d (.i v.m),.d (.i v.var),.d (zaw v.kids)]) []:=
 xaq (k:=6) Pat.cs_rows (by simp[zfC,zfC.soleNL,Pat.cs_len]) (zdQ _ (Nat.le_refl _) hok)
theorem zhV {l m:List Pat} (h:l.length<=1000000000000)
  (hf:∀a∈l,∀b:Pat,FnD Tryz.prog 167 [.agg [.d (.i a.op),.d (.i a.ctor),.d (.i a.n),.d (.i a.m),.d (.i a.var),.d (zaw a.kids)],.agg [.d (.i b.op),.d (.i b.ctor),.d (.i b.n),.d (.i b.m),.d (.i b.var),.d (zaw b.kids)]] [] (.d (.bool (zeX a b))) []):
  FnD Tryz.prog 260 [.d (zaw l),.d (zaw m)] [] (.d (.bool (zbQ l m))) []:=by
 refine bd Tryz.f260 27 [] [] fun w0 F0 own kept hk=>?_;refine sq ?_ ?_<;>intro h1 h1p h1s<;>(try simp only[Q,Int.natCast_inj,Pat.cs_len] at h1p);refine rq ?_;rotate_left;refine xam (ι:=Nat) hk (fun i=>[(5,.d (.i (i:Int)))]) [4,11,12,13,14,15,16,17,18,19,20,21,22,23,24,25,26] (fun i=>[]) (fun i=>i<=l.length/\∀i',i'<i->zeX (nth l i') (nth m i')=true) (fun i=>l.length-i) 0 ⟨by omega,fun _ h=>absurd h (by omega)⟩ ⟨⟨_,rfl,xau ?_⟩,trivial⟩ trivial (fun x=>rfl) (fun i hg1=>?_);focus (first|rfl|(simp;done)|(simp_all;done)|omega)
 refine evc [] [] ?_;refine sq ?_ ?_<;>intro h2 h2p h2s<;>(try simp only[Q,Int.natCast_inj,Pat.cs_len] at h2p);refine xaK sl34 .none rfl rfl rfl rfl (za5 (by omega)) rfl ?_;refine evd [] [] ?_;refine xaK sl34 .none rfl rfl rfl rfl (za5 (by omega)) rfl ?_;refine evd [] [] ?_;refine wc znV (hf _ (zap (by omega)) _) rfl rfl ?_;refine evd [] [] ?_;refine dr ?_;refine sq ?_ ?_<;>intro h3 h3p h3s<;>(try simp only[Q,Int.natCast_inj,Pat.cs_len] at h3p);refine rq ?_;rotate_left;refine ar ?_;refine xah (i+1) ⟨⟨by omega,zaL hg1.2 (by assumption)⟩,(by omega),sx ⟨⟨_,rfl,xau ?_⟩,trivial⟩ trivial⟩;focus (first|rfl|(simp;done)|(simp_all;done)|omega)
 refine rq ?_;rotate_left;all_goals (refine congrArg D.bool ?_;first|(refine(zkf ?_).symm;omega)|(refine(zkg (by omega) (fun x hx=>hg1.2 x (by omega))).symm)|(refine(zjr (i:=i) (by omega) ?_).symm;assumption))
theorem zfk:∀(n:Nat){a b:Pat},a.size<=n->a.ok->FnD Tryz.prog 167 [.agg [.d (.i a.op),.d (.i a.ctor),.d (.i a.n),.d (.i a.m),.d (.i a.var),.d (zaw a.kids)],.agg [.d (.i b.op),.d (.i b.ctor),.d (.i b.n),.d (.i b.m),.d (.i b.var),.d (zaw b.kids)]] [] (.d (.bool (zeX a b))) []
 |0,a,b,h,_=>by rw[Pat.size_eq] at h;omega
 |n+1,a,b,h,hok=>by
  rw[Pat.size_eq] at h;rw[Pat.ok_iff] at hok;rw[zpa];refine bd Tryz.f167 36 [] [] fun w0 F0 own kept hk=>?_;refine bx 3002 ?_;refine bx 3003 ?_;refine ev ?_;refine sq ?_ ?_<;>intro h1 h1p h1s<;>(try simp only[Q] at h1p);focus (refine rq ?_;all_goals (refine congrArg D.bool ?_;simp[h1s,h1p]))
  refine sq ?_ ?_<;>intro h2 h2p h2s<;>(try simp only[Q] at h2p);focus (refine rq ?_;all_goals (refine congrArg D.bool ?_;simp[h1s,h1p,h2s,h2p]))
  refine sq ?_ ?_<;>intro h3 h3p h3s<;>(try simp only[Q] at h3p);focus (refine rq ?_;all_goals (refine congrArg D.bool ?_;simp[h1s,h1p,h2s,h2p,h3s,h3p]))
  refine sq ?_ ?_<;>intro h4 h4p h4s<;>(try simp only[Q] at h4p);focus (refine rq ?_;all_goals (refine congrArg D.bool ?_;simp[h1s,h1p,h2s,h2p,h3s,h3p,h4s,h4p]))
  refine sq ?_ ?_<;>intro h5 h5p h5s<;>(try simp only[Q] at h5p);focus (refine rq ?_;all_goals (refine congrArg D.bool ?_;simp[h1s,h1p,h2s,h2p,h3s,h3p,h4s,h4p,h5s,h5p]))
  refine wc zqz (zhV hok.1 (fun x hx y=>zfk n (by have:=Pats.size_mem hx;omega) (Pats.ok_mem hok.2 x hx))) rfl rfl ?_;refine ev ?_;refine sq ?_ ?_<;>intro h6 h6p h6s<;>(try simp only[Q] at h6p);focus (refine rq ?_;all_goals (refine congrArg D.bool ?_;simp[h1s,h1p,h2s,h2p,h3s,h3p,h4s,h4p,h5s,h5p,h6s,h6p]))
  focus (refine rq ?_;all_goals (refine congrArg D.bool ?_;simp[h1s,h1p,h2s,h2p,h3s,h3p,h4s,h4p,h5s,h5p,h6s,h6p]))
mutual
def Pat.szM:Pat->Int
 | .mk _ _ _ _ _ ks=>5+Pats.szM ks
def Pats.szM:List Pat->Int
 | []=>0
 |v::r=>v.szM+Pats.szM r
end
mutual
def Pat.one (k:Int):Pat->Pat
 | .mk _ _ _ _ _ ks=> .mk k (k+1) (k+1+1) (k+1+1+1) (k+1+1+1+1) (Pats.one (k+1+1+1+1+1) ks)
def Pats.one (k:Int):List Pat->List Pat
 | []=>[]
 |v::r=>v.one k::Pats.one (k+v.szM) r
end
theorem Pats.szM_eq:∀l:List Pat,Pats.szM l=szL Pat.szM l
 | []=>rfl
 |v::r=>by simp only[Pats.szM,szL,Pats.szM_eq r]
theorem Pats.one_eq:∀(l:List Pat) (k:Int),Pats.one k l=mkL Pat.one Pat.szM k l
 | [],_=>rfl
 |v::r,k=>by simp only[Pats.one,mkL,Pats.one_eq r]
theorem Pat.szM_kids (v:Pat):v.szM=5+szL Pat.szM v.kids:=by cases v;simp only[Pat.szM,Pat.kids,Pats.szM_eq]
theorem Pat.one_kids (v:Pat) (k:Int):(v.one k).kids=mkL Pat.one Pat.szM (k+1+1+1+1+1) v.kids:=by cases v;simp only[Pat.one,Pat.kids,Pats.one_eq]
theorem Pat.one_sc (v:Pat) (k:Int):(Pat.one k v).op=k/\(Pat.one k v).ctor=k+1/\(Pat.one k v).n=k+1+1/\(Pat.one k v).m=k+1+1+1/\(Pat.one k v).var=k+1+1+1+1:=by cases v;exact⟨rfl,rfl,rfl,rfl,rfl⟩
mutual
theorem Pat.szM_nn:∀v:Pat,0<=v.szM
 | .mk _ _ _ _ _ ks=>by have:=Pats.szM_nn ks;simp only[Pat.szM];omega
theorem Pats.szM_nn:∀l:List Pat,0<=Pats.szM l
 | []=>by simp[Pats.szM]
 |v::r=>by have:=Pat.szM_nn v;have:=Pats.szM_nn r;simp only[Pats.szM];omega
end
mutual
theorem Pat.szM_le:∀v:Pat,v.szM<=5+5*(mPat v:Int)
 | .mk _ _ _ _ _ ks=>by have:=Pats.szM_le ks;simp only[Pat.szM,mPat];omega
theorem Pats.szM_le:∀l:List Pat,Pats.szM l<=5*(zet l:Int)
 | []=>by simp[Pats.szM,zet]
 |v::r=>by have:=Pat.szM_le v;have:=Pats.szM_le r;simp only[Pats.szM,zet];omega
end
theorem zd8 {l:List Pat}{k:Int} (hl:l=[]):FnD Tryz.prog 90 [.d (.sl []),.d (.i k)] [] (.d (.i (k+szL Pat.szM l))) []:=by
 subst hl;refine bd Tryz.f90 55 [] [] fun w0 F0 own kept hk=>?_;refine xam (ι:=Unit) hk (fun x=>[(5,.d (.i 0)),(1,.d (.i k))]) [6,7,8,9,10,11,12,13,14,15,16,17,18,19,20,21,22,23,24,25,26,27,28,29,30,31,32,33,34,35,36,37,38,39,40,41,42,43,44,45,46,47,48,49,50,51,52,53] (fun x=>[]) (fun x=>True) (fun x=>0) () trivial ⟨⟨_,rfl,xau ?_⟩,⟨⟨_,rfl,xau ?_⟩,trivial⟩⟩ trivial (fun x=>rfl) (fun x hg1=>?_);iterate 2 focus (first|rfl|(simp;done)|(simp_all;done)|omega)
 refine evc [] [] ?_;refine sq ?_ ?_<;>intro h1 h1p h1s<;>(try simp only[Q] at h1p);exfalso;revert h1;simp;refine rq ?_;rotate_left;all_goals (first|rfl|(simp[szL];done))
theorem zfT {m:Bool}{n:Nat}{k:Int}{r:D}{xs ys:List (List D)} (h:FnD Tryz.prog 90 [.ms 46 n,.d (.i k)] [(46,some (.tree (zac m xs)))] (.d r) [(46,some (.tree (zac false ys)))]):
  FnD Tryz.prog 90 [.ms 47 n,.d (.i k)] [(47,some (.tree (zac m xs)))] (.d r) [(47,some (.tree (zac false ys)))]:=FnD.ren rfl (zaa _ _) (zaa _ _) h 47
theorem zg2:∀(n:Nat){m:Bool}{l:List Pat}{k:Int},Pats.size l<=n->0<k->k+szL Pat.szM l<=1000000000000->l.length<=1000000000000->Pats.ok l->FnD Tryz.prog 90 [.ms 46 l.length,.d (.i k)] [(46,some (.tree (zac m (Pat.cs l))))]
  (.d (.i (k+szL Pat.szM l))) [(46,some (.tree (zac false (Pat.cs (mkL Pat.one Pat.szM k l)))))]:=by
 intro n;induction n with
 |zero=>
  intro m l k h h0 h1 hl hok;have hl0:l=[]:=by
   cases l with
   |nil=>rfl
   |cons v r=>simp only[Pats.size,Pat.size_eq] at h;omega
  subst hl0;refine bd Tryz.f90 55 [] [] fun w0 F0 own kept hk=>?_;refine xam (ι:=Unit) hk (fun x=>[(5,.d (.i 0)),(1,.d (.i k))]) [6,7,8,9,10,11,12,13,14,15,16,17,18,19,20,21,22,23,24,25,26,27,28,29,30,31,32,33,34,35,36,37,38,39,40,41,42,43,44,45,46,47,48,49,50,51,52,53] (fun x=>[]) (fun x=>True) (fun x=>0) () trivial ⟨⟨_,rfl,xau ?_⟩,⟨⟨_,rfl,xau ?_⟩,trivial⟩⟩ trivial (fun x=>rfl) (fun x hg1=>?_);iterate 2 focus (first|rfl|(simp;done)|(simp_all;done)|omega)
  refine evc [] [] ?_;refine sq ?_ ?_<;>intro h1 h1p h1s<;>(try simp only[Q] at h1p);exfalso;revert h1;simp;refine rn [(46,some (.tree (zac false (Pat.cs (mkL Pat.one Pat.szM k []))))) ] (r1 rfl) (.eqd ?_) ⟨rfl,rfl⟩ (SubO.get ⟨.inr ?_,⟨.inl rfl,trivial⟩⟩) (zaE rfl);rotate_left 2;all_goals (first|((first|rfl|(simp[szL];done));done)|(rfl))
 |succ n ih=>
  intro m l k h h0 h1 hl hok;refine bd Tryz.f90 55 [51] [3,14,1000009] fun w0 F0 own kept hk=>?_;refine xam (ι:=List (Pat)×List (Pat)×(Int)) hk (fun x=>[(5,.d (.i (x.1.length:Int))),(1,.d (.i x.2.2))]) [6,7,8,9,10,11,12,13,14,15,16,17,18,19,20,21,22,23,24,25,26,27,28,29,30,31,32,33,34,35,36,37,38,39,40,41,42,43,44,45,46,47,48,49,50,51,52,53] (fun x=>[(46,some (.tree (zac false (Pat.cs (mkL Pat.one Pat.szM k x.1))++zac m (Pat.cs x.2.1))))]) (fun x=>x.1++x.2.1=l/\x.2.2=k+szL Pat.szM x.1) (fun x=>x.2.1.length) ([],l,k) ⟨by simp,by simp[szL]⟩ ⟨⟨_,rfl,xau ?_⟩,⟨⟨_,rfl,xau ?_⟩,trivial⟩⟩ ⟨?_,trivial⟩ (fun x=>rfl) (fun x hg1=>?_);iterate 2 focus (first|rfl|(simp;done)|omega|(refine Eq.trans (b:=v+Pat.szM y) ?_ rfl;omega))
  focus (first|rfl|(show some (Res.tree _)=some (Res.tree _);rw[zbd,zc5,<-hg1.2,Pat.one_kids];simp only[Pat.one_sc y v,List.append_assoc,xag,List.nil_append]))
  obtain⟨pre,rest,v⟩:=x;dsimp only at hg1 ⊢;refine evc [51] [3,14,1000009] ?_;refine cq (fun h1 h1p h1s=>?_) fun h1 h1p h1s=>?_;try simp only[Q] at h1p
  rcases rest with _|⟨y,rest⟩
  ·exfalso;simp_all
  have hsp:=zcC (sz:=Pat.szM) hg1.1;have hnn:=zaB (l:=rest) Pat.szM_nn;have hnp:=zaB (l:=pre) Pat.szM_nn;have hys:=Pat.szM_kids y;have hya:=zaB (l:=y.kids) Pat.szM_nn;have hv:=hg1.2;refine xao 46 (zac false (Pat.cs (mkL Pat.one Pat.szM k pre))++(.d (.i y.op):: .d (.i y.ctor):: .d (.i y.n):: .d (.i y.m):: .d (.i y.var):: .own m (zaw y.kids)::zac m (Pat.cs rest))) rfl (by rw[zlL]) ?_;refine evc [51] [3,14,1000009] ?_;refine xaM sl34 .none rfl rfl rfl rfl (by first|omega|(simp[Pat.cs_nil,Pat.cs_len,Pat.cs];omega)) ?_;refine evs [51] [] ?_;refine xa6 ty3 .none rfl rfl rfl rfl rfl rfl (by simp) ((zar ((zaT false _).trans (by rw[zai])) zeI)) ?_;refine tv ?_;refine ar ?_;refine xaM sl34 .none rfl rfl rfl rfl (by first|omega|(simp[Pat.cs_nil,Pat.cs_len,Pat.cs];omega)) ?_;refine evs [51] [] ?_;refine xa6 ty3 .none rfl rfl rfl rfl rfl rfl (by simp) ((zar ((zaT false _).trans (by rw[zai])) zcn)) ?_;refine tv ?_;refine ar ?_;refine xaM sl34 .none rfl rfl rfl rfl (by first|omega|(simp[Pat.cs_nil,Pat.cs_len,Pat.cs];omega)) ?_;refine evs [51] [] ?_;refine xa6 ty3 .none rfl rfl rfl rfl rfl rfl (by simp) ((zar ((zaT false _).trans (by rw[zai])) zdK)) ?_;refine tv ?_;refine ar ?_;refine xaM sl34 .none rfl rfl rfl rfl (by first|omega|(simp[Pat.cs_nil,Pat.cs_len,Pat.cs];omega)) ?_;refine evs [51] [] ?_;refine xa6 ty3 .none rfl rfl rfl rfl rfl rfl (by simp) ((zar ((zaT false _).trans (by rw[zai])) zeJ)) ?_;refine tv ?_;refine ar ?_;refine xaM sl34 .none rfl rfl rfl rfl (by first|omega|(simp[Pat.cs_nil,Pat.cs_len,Pat.cs];omega)) ?_;refine evs [51] [] ?_;refine xa6 ty3 .none rfl rfl rfl rfl rfl rfl (by simp) ((zar ((zaT false _).trans (by rw[zai])) znl)) ?_;refine tv ?_;refine ar ?_;by_cases hs2:y.kids=[]
  refine xak 46 (pre.length*6+5) rfl (zaC ((zaT false _).trans (by rw[zai])) rfl) (by simp[hs2,Pat.cs_nil,Pat.cs_len,Pat.cs]) (zar ((zaT false _).trans (by rw[zai])) zd9) ?_;refine evc [51] [] ?_;refine xaM sl34 .none rfl rfl rfl rfl (by first|omega|(simp[Pat.cs_nil,Pat.cs_len,Pat.cs];omega)) ?_;refine evs [51] [] ?_;refine xaR ty34 .none rfl rfl rfl ((by rw[zaC ((zaT false _).trans (by rw[zai])) rfl];rfl)) ?_;refine evs [51] [] ?_;refine Walk.call (cr:=[]) zlV (zd8 hs2) rfl .none rfl rfl (LeL.refl _) trivial rfl (by first|rfl|(simp only[zam,List.all_cons,List.all_nil,zaz,zat,AV.idsL,AV.ids,zab,zaa,xae,List.map_nil];rfl)) (by first|rfl|(simp only[zaf,occH,occE,Res.ids,xag,List.nil_append,AV.idsL,AV.ids,zab,zaa,zad,zaj,xae,List.map_nil,upC];rfl)) ?_;refine evs [51] [] ?_;refine xal 46 (pre.length*6+5) false rfl (xs:=Pat.cs (mkL Pat.one Pat.szM (v+1+1+1+1+1) y.kids)) rfl (zaC ((zaT false _).trans (by rw[zai])) rfl) (by simp[hs2,mkL,Pat.cs]) (zar ((zaT false _).trans (by rw[zai])) zd9) ?_;refine evc [51] [] ?_;refine ar ?_;refine xah ((pre++[y],rest,v+Pat.szM y)) ⟨⟨(by have hz:=hg1.1;rw[<-hz];simp),(by show v+Pat.szM y=_;rw[zbB,hg1.2];omega)⟩,(by simp),sx ⟨⟨_,rfl,xau ?_⟩,⟨⟨_,rfl,xau ?_⟩,trivial⟩⟩ ⟨?_,trivial⟩⟩;iterate 2 focus (first|rfl|(simp;done)|omega|(refine Eq.trans (b:=v+Pat.szM y) ?_ rfl;omega))
  focus (first|rfl|(show some (Res.tree _)=some (Res.tree _);rw[zbd,zc5,<-hg1.2,Pat.one_kids];simp only[Pat.one_sc y v,List.append_assoc,xag,List.nil_append]))
  refine CWp.split 46 (pre.length*6+5) 47 rfl (zaC ((zaT false _).trans (by rw[zai])) rfl) (by simp[hs2,Pat.cs_nil,Pat.cs_len,Pat.cs]) (by first|rfl|(simp only[zaf,occH,occE,Res.ids,xag,List.nil_append,AV.idsL,AV.ids,zab,zaa,zad,zaj,xae,List.map_nil,upC];rfl)) (zar ((zaT false _).trans (by rw[zai])) zd9) ?_;refine evc [51] [] ?_;refine xaM sl34 .none rfl rfl rfl rfl (by first|omega|(simp[Pat.cs_nil,Pat.cs_len,Pat.cs];omega)) ?_;refine evs [51] [] ?_;refine xaR ty34 .none rfl rfl rfl ((by rw[zaC ((zaT false _).trans (by rw[zai])) rfl];rfl)) ?_;refine evs [51] [] ?_;refine Walk.call (cr:=[]) zlV (zfT (ih (l:=y.kids) (k:=v+1+1+1+1+1) (by have hm:=Pats.size_mem (v:=y) (l:=l) (by rw[<-hg1.1];simp);rw[Pat.size_eq] at hm;omega) (by omega) (by omega) ((Pat.ok_iff y).1 (Pats.ok_mem hok y (by rw[<-hg1.1];simp))).1 ((Pat.ok_iff y).1 (Pats.ok_mem hok y (by rw[<-hg1.1];simp))).2)) rfl .none rfl rfl (.cons (xav (by first|rfl|(simp[Pat.cs_nil,Pat.cs_len,Pat.cs];done))) (.cons (.refl _) .nil)) ⟨by first|rfl|(simp;rfl),trivial⟩ rfl (by first|rfl|(simp only[zam,List.all_cons,List.all_nil,zaz,zat,AV.idsL,AV.ids,zab,zaa,xae,List.map_nil];rfl)) (by first|rfl|(simp only[zaf,occH,occE,Res.ids,xag,List.nil_append,AV.idsL,AV.ids,zab,zaa,zad,zaj,xae,List.map_nil,upC];rfl)) ?_;refine evs [51] [] ?_;refine CWp.merge hk 46 (pre.length*6+5) 47 6 _ rfl (zaC ((zaT false _).trans (by rw[zai])) rfl) (by simp[zai,Pat.cs_nil,Pat.cs_len,Pat.cs]) rfl Pat.cs_rows rfl rfl (zar ((zaT false _).trans (by rw[zai])) zd9) ?_;refine evc [51] [] ?_;refine ar ?_;refine xah ((pre++[y],rest,v+Pat.szM y)) ⟨⟨(by have hz:=hg1.1;rw[<-hz];simp),(by show v+Pat.szM y=_;rw[zbB,hg1.2];omega)⟩,(by simp),sx ⟨⟨_,rfl,xau ?_⟩,⟨⟨_,rfl,xau ?_⟩,trivial⟩⟩ ⟨?_,trivial⟩⟩;iterate 2 focus (first|rfl|(simp;done)|omega|(refine Eq.trans (b:=v+Pat.szM y) ?_ rfl;omega))
  focus (first|rfl|(show some (Res.tree _)=some (Res.tree _);rw[zbd,zc5,<-hg1.2,Pat.one_kids];simp only[Pat.one_sc y v,List.append_assoc,xag,List.nil_append]))
  try simp only[Q] at h1p
  have hrest:rest=[]:=by
   rcases rest with _|⟨a,b⟩
   ·rfl
   ·exfalso;have hz:=congrArg List.length (hg1.1);simp only[xaa,xab,xac] at hz;omega
  subst hrest;refine evc [51] [3,14,1000009] ?_;refine rn [(46,some (.tree (zac false (Pat.cs (mkL Pat.one Pat.szM k l)))))] (r1 rfl) (.eqd ?_) ⟨rfl,rfl⟩ (SubO.get ⟨.inr ?_,⟨.inl rfl,trivial⟩⟩) (zaE rfl);rotate_left 2;all_goals (first|((first|rfl|(obtain⟨hg1,hv⟩:=hg1;rw[List.append_nil] at hg1;subst hg1;rw[hv]));done)|(first|rfl|(obtain⟨hg1,_⟩:=hg1;rw[List.append_nil] at hg1;subst hg1;show some (Res.tree _)=some (Res.tree _);simp[zaQ,Pat.cs];done)))
def TyIn (n:Nat) (t:Ty):Prop:=t.data = -1\/∃d:Nat,t.data=d/\d<n
structure WT (w:List Data):Prop where
 small:WSmall w
 arg:∀d∈w,∀c∈d.ctors,∀t∈c.args,TyIn w.length t
def zaN (w:List Data) (t:Ty) (c:Int):List Ty:=
 let x:=nth (nth w t.data.toNat).ctors c.toNat
 x.args.map (zcp (zcf x t.index))
def zb5 (w:List Data) (t:Ty):List Int:=zaU t.index 0 (nth w t.data.toNat).ctors
def cap (x:Int):Int:=if 401<x then 401 else x
theorem zof {x:Int} (h:0<=x):0<=cap x/\cap x<=401:=by unfold cap;split<;>omega
theorem zhn (k:Int):∀(l:List Ctor) (i:Nat) (c:Int),c∈zaU k i l->∃j:Nat,c=(j:Int)/\i<=j/\j<i+l.length
 | [],i,c,h=>by simp[zaU] at h
 |x::r,i,c,h=>by
  unfold zaU at h;have go:c∈zaU k (i+1) r->∃j:Nat,c=(j:Int)/\i<=j/\j<i+(x::r).length:=fun h=>by
   obtain⟨j,h1,h2,h3⟩:=zhn k r (i+1) c h;exact⟨j,h1,by omega,by simp;omega⟩
  split at h
  ·rcases List.mem_cons.1 h with h|h
   ·exact⟨i,h,by omega,by simp⟩
   ·exact go h
  ·exact go h
theorem zoV {n:Nat}{k:Int}{t:Ty} (h:TyIn n t):TyIn n (zcp k t):=by
 unfold zcp;split
 ·exact h
 ·exact h
def PlaceIn (w:List Data) (d:Nat) (c:Int):Prop:=∃j:Nat,c=j/\j<(nth w d).ctors.length
theorem zdt {w:List Data}{d:Nat}{k c:Int} (h:c∈zb5 w ⟨d,k⟩):PlaceIn w d c:=by
 obtain⟨j,h1,_,h3⟩:=zhn _ _ _ _ h;exact⟨j,h1,by simpa using h3⟩
theorem zhC {w:List Data} (hw:WT w){d:Nat} (hd:d<w.length){k c:Int} (hc:PlaceIn w d c){t:Ty} (ht:t∈zaN w ⟨d,k⟩ c):TyIn w.length t:=by
 obtain⟨j,rfl,hj⟩:=hc;simp only[zaN,Int.toNat_natCast,List.mem_map] at ht;obtain⟨x,hx,rfl⟩:=ht;exact zoV (hw.arg _ (zap hd) _ (zap hj) x hx)
theorem zfo {w:List Data} (hw:WT w){d:Nat} (hd:d<w.length){k c:Int} (hc:PlaceIn w d c):(zaN w ⟨d,k⟩ c).length<=1000000000000:=by
 obtain⟨j,rfl,hj⟩:=hc;simp only[zaN,Int.toNat_natCast,xac];exact(hw.small.ctor _ (zap hd) _ (zap hj)).2
theorem zgq {w:List Data} (hw:WT w){d:Nat}{k:Int}:(zb5 w ⟨d,k⟩).length<=1000000000000:=by
 have:=zhm k (nth w d).ctors 0;have:=hw.small.ctors d;simp only[zb5,Int.toNat_natCast];omega
theorem zd0 {w:List Data} (hw:WT w){d:Nat} (hd:d<w.length){k c:Int} (hc:PlaceIn w d c):FnD Tryz.prog 144 [.d (zao w),.agg [.d (.i d),.d (.i k)],.d (.i c)] [] (.d (za8 (zaN w ⟨d,k⟩ c))) []:=by
 obtain⟨j,rfl,hj⟩:=hc;exact zjc hw.small hd hj
theorem zdd {w:List Data} (hw:WT w){d:Nat} (hd:d<w.length){k:Int}:FnD Tryz.prog 234 [.d (zao w),.agg [.d (.i d),.d (.i k)]] [] (.d (zcS (zb5 w ⟨d,k⟩))) []:=zjT hw.small hd
theorem zgO {w:List Data} (hw:WT w){d:Nat} (hd:d<w.length){k c:Int} (hc:PlaceIn w d c):FnD Tryz.prog 254 [.d (zao w),.agg [.d (.i d),.d (.i k)],.d (.i c)] [] (.d (za8 (zaN w ⟨d,k⟩ c))) []:=by
 obtain⟨j,rfl,hj⟩:=hc;exact zkZ hw.small hd hj
theorem zex {w:List Data} (hw:WT w){d:Nat} (hd:d<w.length){k:Int}:FnD Tryz.prog 226 [.d (zao w),.agg [.d (.i d),.d (.i k)]] [] (.d (zcS (zb5 w ⟨d,k⟩))) []:=zkq hw.small hd
end Go.Proofs.YtlfipehhbdjnjaaGreat
namespace Go.Proofs.YtlfipehhbdjnjaaGreat
open Go
set_option linter.unusedSimpArgs false
set_option linter.unusedVariables false
def zcW (w:List Data):List Str:=w.flatMap fun d=>d.ctors.map (·.name)
structure WV (w:List Data):Prop where
 len:w.length<=4
 data:∀d∈w,za7 d.name=true/\1<=d.ctors.length/\d.ctors.length<=4
 ctor:∀d∈w,∀c∈d.ctors,zbt w.length c=true
 names:(w.map (·.name)).Nodup
 cnames:(zcW w).Nodup
theorem zgr (n:Nat):∀(l:List Ctor) (met met':List Str),zcs n met l=some met'↔met'=met++l.map (·.name)/\(∀c∈l,zbt n c=true)/\(l.map (·.name)).Nodup/\∀c∈l,c.name∉met
 | [],met,met'=>by
  unfold zcs;simp only[Option.some.injEq,List.map_nil,List.append_nil];exact⟨fun h=>⟨h.symm,by simp,by simp,by simp⟩,fun h=>h.1.symm⟩
 |c::r,met,met'=>by
  unfold zcs;by_cases h:(zbt n c&& !decide (c.name∈met))=true
  ·rw[if_pos h,zgr n r];simp only[xad,Bool.not_eq_true',decide_eq_false_iff_not] at h;obtain⟨h1,h2⟩:=h;constructor
   ·rintro ⟨rfl,q1,q2,q3⟩
    refine⟨by simp,fun x hx=>?_, ?_,fun x hx=>?_⟩
    ·rcases List.mem_cons.1 hx with rfl|hx
     ·exact h1
     ·exact q1 x hx
    ·simp only[xae,List.nodup_cons];refine⟨fun hm=>?_,q2⟩;obtain⟨x,hx,he⟩:=List.mem_map.1 hm;exact q3 x hx (by rw[he];simp)
    ·rcases List.mem_cons.1 hx with rfl|hx
     ·exact h2
     ·intro hm;exact q3 x hx (by simp[hm])
   ·rintro ⟨rfl,q1,q2,q3⟩
    simp only[xae,List.nodup_cons] at q2;refine⟨by simp,fun x hx=>q1 x (List.mem_cons_of_mem _ hx),q2.2,fun x hx hm=>?_⟩;simp only[List.mem_append,List.mem_singleton] at hm;rcases hm with hm|hm
    ·exact q3 x (List.mem_cons_of_mem _ hx) hm
    ·exact q2.1 (hm ▸ List.mem_map.2 ⟨x,hx,rfl⟩)
  ·rw[if_neg h];constructor
   ·intro h';cases h'
   ·rintro ⟨_,q1,_,q3⟩
    exfalso;apply h;simp[q1 c (by simp),q3 c (by simp)]
theorem zgs (n:Nat):∀(l:List Data) (met datas:List Str),zbl n met datas l=true↔
  (∀d∈l,za7 d.name=true/\1<=d.ctors.length/\d.ctors.length<=4)/\(∀d∈l,∀c∈d.ctors,zbt n c=true)/\(l.map (·.name)).Nodup/\(∀d∈l,d.name∉datas)/\
   (zcW l).Nodup/\∀s∈zcW l,s∉met
 | [],met,datas=>by simp[zbl,zcW]
 |d::r,met,datas=>by
  have hcn:zcW (d::r)=d.ctors.map (·.name)++zcW r:=rfl;have hw:zay d.ctors.length 1 4=true↔1<=d.ctors.length/\d.ctors.length<=4:=by simp[zay];omega
  unfold zbl;simp only[xad,Bool.not_eq_true',decide_eq_false_iff_not,hw];constructor
  ·rintro ⟨⟨⟨h1,h2⟩,h3⟩,h4⟩
   split at h4
   ·rename_i met' hm;obtain⟨rfl,c1,c2,c3⟩:=(zgr n _ _ _).1 hm;obtain⟨q1,q2,q3,q4,q5,q6⟩:=(zgs n r _ _).1 h4;refine⟨fun x hx=>?_,fun x hx=>?_, ?_,fun x hx=>?_, ?_,fun s hs=>?_⟩
    ·rcases List.mem_cons.1 hx with rfl|hx
     ·exact⟨h1,h3⟩
     ·exact q1 x hx
    ·rcases List.mem_cons.1 hx with rfl|hx
     ·exact c1
     ·exact q2 x hx
    ·simp only[xae,List.nodup_cons];refine⟨fun hm=>?_,q3⟩;obtain⟨x,hx,he⟩:=List.mem_map.1 hm;exact q4 x hx (by rw[he];simp)
    ·rcases List.mem_cons.1 hx with rfl|hx
     ·exact h2
     ·intro hm;exact q4 x hx (by simp[hm])
    ·rw[hcn,List.nodup_append];refine⟨c2,q5,fun a ha b hb he=>?_⟩;subst he;exact q6 a hb (by simp only[List.mem_append];exact .inr ha)
    ·rw[hcn] at hs;rcases List.mem_append.1 hs with hs|hs
     ·obtain⟨c,hc,rfl⟩:=List.mem_map.1 hs;exact c3 c hc
     ·intro hm;exact q6 s hs (by simp[hm])
   ·cases h4
  ·rintro ⟨q1,q2,q3,q4,q5,q6⟩
   rw[hcn] at q5 q6;rw[List.nodup_append] at q5;simp only[xae,List.nodup_cons] at q3;have hd:=q1 d (by simp);have hm:zcs n met d.ctors=some (met++d.ctors.map (·.name)):=(zgr n _ _ _).2 ⟨rfl,q2 d (by simp),q5.1,fun c hc=>q6 _ (List.mem_append.2 (.inl (List.mem_map.2 ⟨c,hc,rfl⟩)))⟩;refine⟨⟨⟨hd.1,q4 d (by simp)⟩,hd.2⟩, ?_⟩;rw[hm];refine(zgs n r _ _).2 ⟨fun x hx=>q1 x (List.mem_cons_of_mem _ hx),fun x hx=>q2 x (List.mem_cons_of_mem _ hx),q3.2,fun x hx hmem=>?_,q5.2.1,fun s hs hmem=>?_⟩
   ·simp only[List.mem_append,List.mem_singleton] at hmem;rcases hmem with hmem|hmem
    ·exact q4 x (List.mem_cons_of_mem _ hx) hmem
    ·exact q3.1 (hmem ▸ List.mem_map.2 ⟨x,hx,rfl⟩)
   ·rcases List.mem_append.1 hmem with hmem|hmem
    ·exact q6 s (List.mem_append.2 (.inr hs)) hmem
    ·exact q5.2.2 s hmem s hs rfl
theorem zeQ (w:List Data):zbp w=true↔WV w:=by
 unfold zbp;rw[xad,zgs];constructor
 ·rintro ⟨h1,q1,q2,q3,_,q5,_⟩
  exact⟨by have:=of_decide_eq_true h1;omega,q1,q2,q3,q5⟩
 ·rintro ⟨h1,q1,q2,q3,q5⟩
  exact⟨decide_eq_true (by omega),q1,q2,q3,by simp,q5,by simp⟩
theorem zlK {l:List Str}:l.Nodup↔∀i j,i<j->j<l.length->nth l i≠nth l j:=by
 unfold List.Nodup;rw[List.pairwise_iff_getElem];constructor
 ·intro h i j hij hj;have:=h i j (by omega) hj hij;simpa [nth,List.getD,hj,(by omega:i<l.length)] using this
 ·intro h i j hi hj hij;have:=h i j hij hj;simpa [nth,List.getD,hj,hi] using this
theorem za2 {α:Type} [Inhabited α]{l:List α}{i:Nat} (h:i<l.length):nth l i=l[i]:=by simp[nth,List.getD,h]
theorem zjL (w:List Data):(zcW w).Nodup↔(∀d,d<w.length->∀j k,j<k->k<(nth w d).ctors.length->(nth (nth w d).ctors j).name≠(nth (nth w d).ctors k).name)/\
  ∀i d,i<d->d<w.length->∀j k,j<(nth w i).ctors.length->k<(nth w d).ctors.length->(nth (nth w i).ctors j).name≠(nth (nth w d).ctors k).name:=by
 unfold zcW List.Nodup;rw[List.pairwise_flatMap];constructor
 ·rintro ⟨h1,h2⟩
  refine⟨fun d hd j k hjk hk=>?_,fun i d hid hd j k hj hk=>?_⟩
  ·have:=h1 (nth w d) (zap hd);rw[List.pairwise_iff_getElem] at this;have:=this j k (by simp;omega) (by simpa using hk) hjk;simpa [za2 hk,za2 (show j<(nth w d).ctors.length by omega)] using this
  ·rw[List.pairwise_iff_getElem] at h2;have:=h2 i d (by omega) hd hid;rw[<-za2 hd,<-za2 (show i<w.length by omega)] at this;exact this _ (List.mem_map.2 ⟨_,zap hj,rfl⟩) _ (List.mem_map.2 ⟨_,zap hk,rfl⟩)
 ·rintro ⟨h1,h2⟩
  refine⟨fun x hx=>?_, ?_⟩
  ·obtain⟨d,hd,rfl⟩:=List.getElem_of_mem hx;rw[List.pairwise_iff_getElem];intro j k hj hk hjk;have hk':k<(nth w d).ctors.length:=by rw[za2 hd];simpa using hk
   have:=h1 d hd j k hjk hk';rw[za2 hk',za2 (show j<(nth w d).ctors.length by omega)] at this;simp only[za2 hd] at this;simpa using this
  ·rw[List.pairwise_iff_getElem];intro i d hi hd hid x hx y hy;obtain⟨a,ha,rfl⟩:=List.mem_map.1 hx;obtain⟨b,hb,rfl⟩:=List.mem_map.1 hy;obtain⟨j,hj,rfl⟩:=List.getElem_of_mem ha;obtain⟨k,hk,rfl⟩:=List.getElem_of_mem hb;have hj':j<(nth w i).ctors.length:=by rw[za2 hi];exact hj
   have hk':k<(nth w d).ctors.length:=by rw[za2 hd];exact hk
   have:=h2 i d hid hd j k hj' hk';rw[za2 hj',za2 hk'] at this;simpa only[za2 hi,za2 hd] using this
theorem zlo (w:List Data):(w.map (·.name)).Nodup↔∀i d,i<d->d<w.length->(nth w i).name≠(nth w d).name:=by
 rw[zlK];have e:∀i,i<w.length->nth (w.map (·.name)) i=(nth w i).name:=fun i hi=>by simp[nth,List.getD,hi]
 constructor
 ·intro h i d hid hd;have:=h i d hid (by simpa using hd);rwa [e i (by omega),e d hd] at this
 ·intro h i d hid hd;have hd':d<w.length:=by simpa using hd
  rw[e i (by omega),e d hd'];exact h i d hid hd'
theorem zlB (w:List Data) (d k:Nat):zkw w d k=false↔(∀i,i<d->(nth w i).name≠(nth w d).name)/\
  ∀i j,i<=d->j<(nth w i).ctors.length->(i<d\/j<k)->k<(nth w d).ctors.length->(nth (nth w i).ctors j).name≠(nth (nth w d).ctors k).name:=by
 unfold zkw;rw[List.any_eq_false];constructor
 ·intro h;refine⟨fun i hi he=>?_,fun i j hi hj hij hk he=>?_⟩
  ·apply h i (List.mem_range.2 (by omega))
   unfold zcG;simp[hi,he]
  ·apply h i (List.mem_range.2 (by omega))
   unfold zcG;rw[zcl hj (by unfold zbo;simp[hk,he];omega)];simp
 ·rintro ⟨h1,h2⟩ i hi
  have hi':=List.mem_range.1 hi;unfold zcG;simp only[Bool.or_eq_true,xad,decide_eq_true_eq,not_or,not_and];refine⟨fun hid=>h1 i hid, ?_⟩;rw[zee (fun j hj=>?_)]
  ·simp
  ·unfold zbo;cases hc:((decide (i<d)||decide (j<k))&&(decide (k<(nth w d).ctors.length)&&decide ((nth (nth w i).ctors j).name=(nth (nth w d).ctors k).name))) with
   |false=>rfl
   |true=>
    simp only[xad,Bool.or_eq_true,decide_eq_true_eq] at hc;exact absurd hc.2.2 (h2 i j (by omega) hj hc.1 hc.2.1)
theorem zij (w:List Data):za6 w=true↔WV w:=by
 unfold za6;rw[xad,decide_eq_true_eq,List.all_eq_true];have hs:∀d,zbU w d=true↔za7 (nth w d).name=true/\1<=(nth w d).ctors.length/\(nth w d).ctors.length<=4/\∀k,k<(nth w d).ctors.length->zbt w.length (nth (nth w d).ctors k)=true/\zkw w d k=false:=fun d=>by
  unfold zbU;simp only[xad,decide_eq_true_eq,List.all_eq_true,List.mem_range,zdv,Bool.not_eq_true']
 constructor
 ·rintro ⟨h1,h2⟩
  have h3:∀d,d<w.length->_:=fun d hd=>(hs d).1 (h2 d (List.mem_range.2 hd));have h4:∀d,d<w.length->∀k,k<(nth w d).ctors.length->_:=fun d hd k hk=>(zlB w d k).1 ((h3 d hd).2.2.2 k hk).2;refine⟨h1,fun d hd=>?_,fun d hd c hc=>?_,(zlo w).2 (fun i d hid hd=>?_),(zjL w).2 ⟨fun d hd j k hjk hk=>?_,fun i d hid hd j k hj hk=>?_⟩⟩
  ·obtain⟨i,hi,rfl⟩:=List.getElem_of_mem hd;have:=h3 i hi;rw[za2 hi] at this;exact⟨this.1,this.2.1,this.2.2.1⟩
  ·obtain⟨i,hi,rfl⟩:=List.getElem_of_mem hd;obtain⟨k,hk,rfl⟩:=List.getElem_of_mem hc;have hk':k<(nth w i).ctors.length:=by rw[za2 hi];exact hk
   have:=((h3 i hi).2.2.2 k hk').1;rw[za2 hk'] at this;simpa only[za2 hi] using this
  ·exact(h4 d hd 0 (by have:=(h3 d hd).2.1;omega)).1 i hid
  ·exact(h4 d hd k hk).2 d j (Nat.le_refl _) (by omega) (.inr hjk) hk
  ·exact(h4 d hd k hk).2 i j (by omega) hj (.inl hid) hk
 ·intro h;refine⟨h.len,fun d hd=>?_⟩;have hd':=List.mem_range.1 hd;have hm:=zap hd';have hn:=(zlo w).1 h.names;have hc:=(zjL w).1 h.cnames;refine(hs d).2 ⟨(h.data _ hm).1,(h.data _ hm).2.1,(h.data _ hm).2.2,fun k hk=>⟨h.ctor _ hm _ (zap hk),(zlB w d k).2 ⟨fun i hi=>hn i d hi hd',fun i j hi hj hij hk'=>?_⟩⟩⟩;by_cases hid:i<d
  ·exact hc.2 i d hid hd' j k hj hk'
  ·have:i=d:=by omega
   subst this;exact hc.1 i hd' j k (by omega) hk'
theorem ziO (w:List Data):za6 w=zbp w:=by
 rw[Bool.eq_iff_iff,zij,zeQ]
theorem zoU {n:Nat}{t:Ty} (h:zbO n t=true):TyIn n t:=by
 unfold zbO at h;simp only[Bool.or_eq_true,xad,decide_eq_true_eq,zay] at h;rcases h with h|h
 ·exact .inl h.1
 ·exact .inr ⟨t.data.toNat,by omega,by omega⟩
theorem zoK {n:Nat}{t:Ty} (h:zdw n t=true):TyIn n t:=by
 unfold zdw at h;simp only[Bool.or_eq_true,xad,decide_eq_true_eq,zay] at h;rcases h with h|h
 ·exact .inl h.1
 ·exact .inr ⟨t.data.toNat,by omega,by omega⟩
theorem WV.wt {w:List Data} (hs:WSmall w) (h:WV w):WT w:=⟨hs,fun d hd c hc t ht=>by
 have:=h.ctor d hd c hc;unfold zbt at this;simp only[xad,Bool.not_eq_true',List.any_eq_false,Bool.not_eq_true,Bool.not_eq_false] at this;exact zoU (by have:=this.2.2.2 t ht;simpa using this)⟩
theorem zp2 (w:List Data) (t:Ty):(za6 w&&(zbO w.length t&&decide (0<=t.index)))=zbr w t:=by
 rw[ziO];unfold zbr;congr 1
 rw[Bool.eq_iff_iff];unfold zbO zdw zay;simp;omega
end Go.Proofs.YtlfipehhbdjnjaaGreat
namespace Go.Proofs.YtlfipehhbdjnjaaGreat
open Go
set_option linter.unusedSimpArgs false
set_option linter.unusedVariables false
set_option maxRecDepth 100000
set_option maxHeartbeats 2000000
theorem zaS {α:Type} [Inhabited α]{l:List α}{i:Nat} (h:i<l.length):l.drop i=nth l i::l.drop (i+1):=by
 rw[za2 h];exact List.drop_eq_getElem_cons h
def all2 {α β:Type} (f:α->β->Bool):List α->List β->Bool
 | [],[]=>true
 |a::r,b::s=>f a b&&all2 f r s
 |_,_=>false
theorem zdk {α β:Type}{f:α->β->Bool}:∀ {a:List α}{b:List β},a.length≠b.length->all2 f a b=false
 | [],[],h=>by simp at h
 | [],_::_,_=>rfl
 |_::_,[],_=>rfl
 |x::r,y::s,h=>by simp[all2,zdk (a:=r) (b:=s) (by simpa using h)]
theorem zbT {α β:Type} [Inhabited α] [Inhabited β]{f:α->β->Bool}{a:List α}{b:List β}{i:Nat} (h:i<a.length) (hl:a.length=b.length) (h2:f (nth a i) (nth b i)=false):all2 f a b=false:=by
 induction i generalizing a b with
 |zero=>
  cases a with
  |nil=>simp at h
  |cons x r=>
   cases b with
   |nil=>simp[all2]
   |cons y s=>simp[nth] at h2;simp[all2,h2]
 |succ i ih=>
  cases a with
  |nil=>simp at h
  |cons x r=>
   cases b with
   |nil=>simp[all2]
   |cons y s=>simp only[all2];rw[ih (a:=r) (b:=s) (by simpa using h) (by simpa using hl) (by simpa [nth] using h2)];simp
theorem zc2 {α β:Type} [Inhabited α] [Inhabited β]{f:α->β->Bool}{a:List α}{b:List β} (hl:a.length=b.length) (h:∀i,i<a.length->f (nth a i) (nth b i)=true):all2 f a b=true:=by
 induction a generalizing b with
 |nil=>cases b with
  |nil=>simp[all2]
  |cons y s=>simp at hl
 |cons x r ih=>cases b with
  |nil=>simp at hl
  |cons y s=>
   have h0:=h 0 (by simp);simp only[all2];rw[ih (by simpa using hl) (fun i hi=>by simpa [nth] using h (i+1) (by simpa using hi))];simpa [nth] using h0
def idxI (l:List Int) (v:Int):Int:=idxF (fun x=>decide (v=x)) l 0
theorem zhz {l:List Int}{v:Int} (h:l.length<=1000000000000):FnD Tryz.prog 306 [.d (zcS l),.d (.i v)] [] (.d (.i (idxI l v))) []:=by
 refine bd Tryz.f306 19 [] [] fun w0 F0 own kept hk=>?_;refine xam (ι:=List (Int)×List (Int)) hk (fun x=>[(8,.d (.i (x.1.length:Int)))]) [4,5,9,10,11,12,13,14,15,16,17,18] (fun x=>[]) (fun x=>x.1++x.2=l/\idxF (fun x=>decide (v=x)) x.2 x.1.length=idxF (fun x=>decide (v=x)) l 0) (fun x=>x.2.length) ([],l) ⟨by simp,rfl⟩ ⟨⟨_,rfl,xau ?_⟩,trivial⟩ trivial (fun x=>rfl) (fun x hg1=>?_);focus (first|rfl|(simp;done)|(simp_all;done)|omega)
 obtain⟨pre,rest⟩:=x;dsimp only at hg1 ⊢;refine evc [] [] ?_;refine sq ?_ ?_<;>intro h1 h1p h1s<;>(try simp only[Q] at h1p);rcases rest with _|⟨y,rest⟩
 ·exfalso;simp_all
 refine xaK sl29 .none rfl rfl rfl rfl (zaW hg1.1) rfl ?_;refine ev ?_;refine sq ?_ ?_<;>intro h2 h2p h2s<;>(try simp only[Q] at h2p);focus (refine rq ?_;all_goals (unfold idxI;rw[<-hg1.2];simp[idxF,h1s,h1p,h2s,h2p]))
 refine ar ?_;refine xah ((pre++[y],rest)) ⟨⟨(by have hz:=hg1.1;rw[<-hz];simp),(by rw[<-hg1.2];simp[idxF,h2p])⟩,(by simp),sx ⟨⟨_,rfl,xau ?_⟩,trivial⟩ trivial⟩;focus (first|rfl|(simp;done)|(simp_all;done)|omega)
 have hrest:rest=[]:=by
  rcases rest with _|⟨a,b⟩
  ·rfl
  ·exfalso;have hz:=congrArg List.length (hg1.1);simp only[xaa,xab,xac] at hz;omega
 subst hrest;focus (refine rq ?_;all_goals (unfold idxI;rw[<-hg1.2];simp[idxF,h1s,h1p]))
theorem zbw {l:List Int}{v:Int} (h:l.length<=1000000000000):FnD Tryz.prog 237 [.d (zcS l),.d (.i v)] [] (.d (.bool (decide (v∈l)))) []:=by
 refine bd Tryz.f237 9 [] [] fun w0 F0 own kept hk=>?_;refine wc zqG (zhz h) rfl rfl ?_;refine ev ?_;refine rq ?_;rotate_left;all_goals (refine congrArg D.bool ?_;rw[show idxI l v=idxF (fun x=>decide (v=x)) l 0 from rfl,zeH];simp[List.any_eq,eq_comm])
theorem zcu {l:List Int}{v:Int} (h:l.length<=1000000000000):FnD Tryz.prog 277 [.d (zcS l),.d (.i v)] [] (.d (.bool (decide (v∈l)))) []:=by
 refine bd Tryz.f277 18 [] [] fun w0 F0 own kept hk=>?_;refine xam (ι:=List (Int)×List (Int)) hk (fun x=>[(5,.d (.i (x.1.length:Int)))]) [4,6,7,8,9,10,11,12,13,14,15,16,17] (fun x=>[]) (fun x=>x.1++x.2=l/\v∉x.1) (fun x=>x.2.length) ([],l) ⟨by simp,by simp⟩ ⟨⟨_,rfl,xau ?_⟩,trivial⟩ trivial (fun x=>rfl) (fun x hg1=>?_);focus (first|rfl|(simp;done)|(simp_all;done)|omega)
 obtain⟨pre,rest⟩:=x;dsimp only at hg1 ⊢;refine evc [] [] ?_;refine sq ?_ ?_<;>intro h1 h1p h1s<;>(try simp only[Q] at h1p);rcases rest with _|⟨y,rest⟩
 ·exfalso;simp_all
 refine xaK sl29 .none rfl rfl rfl rfl (zaW hg1.1) rfl ?_;refine ev ?_;refine sq ?_ ?_<;>intro h2 h2p h2s<;>(try simp only[Q] at h2p);focus (refine rq ?_;all_goals (refine congrArg D.bool ?_;first|(symm;rw[decide_eq_true_eq,<-hg1.1];simp[h1s,h1p,h2s,h2p];done)|(symm;rw[decide_eq_false_iff_not,<-hg1.1];intro hm;simp at hm;exact absurd hm (by simpa using hg1.2))))
 refine ar ?_;refine xah ((pre++[y],rest)) ⟨⟨(by have hz:=hg1.1;rw[<-hz];simp),(by have:=hg1.2;simp[this,eq_comm];omega)⟩,(by simp),sx ⟨⟨_,rfl,xau ?_⟩,trivial⟩ trivial⟩;focus (first|rfl|(simp;done)|(simp_all;done)|omega)
 have hrest:rest=[]:=by
  rcases rest with _|⟨a,b⟩
  ·rfl
  ·exfalso;have hz:=congrArg List.length (hg1.1);simp only[xaa,xab,xac] at hz;omega
 subst hrest;focus (refine rq ?_;all_goals (refine congrArg D.bool ?_;first|(symm;rw[decide_eq_true_eq,<-hg1.1];simp[h1s,h1p];done)|(symm;rw[decide_eq_false_iff_not,<-hg1.1];intro hm;simp at hm;exact absurd hm (by simpa using hg1.2))))
structure Vt where
 var:Int
 ty:Ty
 deriving DecidableEq,Inhabited
abbrev Vt.c (t:Vt):List D:=[.i t.var,.i t.ty.data,.i t.ty.index]
abbrev zco (l:List Vt):D:= .sl (l.map Vt.c)
def zbg (w:List Data) (t:Ty):List Int:=if t.data = -1 then [] else zb5 w t
def zag (w:List Data) (t:Ty) (p:Pat):List Ty:=if p.op=4 then zaN w t p.ctor else if p.op=5 then [t,t] else if p.op=6 then [t] else []
def ownP (w:List Data) (t:Ty) (p:Pat):Bool:=decide (((p.op=2\/p.op=6)->0<=p.var/\p.var<=5)/\(¬(p.op=2\/p.op=6)->p.var=0)/\(p.op≠3->p.n=0/\p.m=0)/\(p.op≠4->p.ctor=0)/\
 (p.op=1\/p.op=2\/p.op=5\/p.op=6\/(p.op=3/\t.data = -1/\0<=p.n/\p.n<=p.m/\p.m<=9)\/(p.op=4/\p.ctor∈zbg w t)))
def okP (w:List Data) (t:Ty) (p:Pat):Bool:=ownP w t p&&decide (p.kids.length=(zag w t p).length)
def zcT (w:List Data) (t:Ty) (p:Pat):List Ty:=if p.op=4/\p.ctor∉zbg w t then [] else zag w t p
def zav (w:List Data):Nat->Ty->Pat->Bool
 |0,_,_=>false
 |n+1,t,p=>ownP w t p&&all2 (zav w n) (zag w t p) p.kids
def zaF (t:Ty) (p:Pat):List Vt:=if p.op=2\/p.op=6 then [⟨p.var,t⟩] else []
def zaR (f:Ty->Pat->List Vt):List Ty->List Pat->List Vt
 |a::r,b::s=>f a b++zaR f r s
 |_,_=>[]
def zcc (w:List Data) (t:Ty) (p:Pat):List Ty:=if p.op=5 then (zag w t p).take 1 else zag w t p
def zaA (w:List Data):Nat->Ty->Pat->List Vt
 |0,_,_=>[]
 |n+1,t,p=>zaF t p++zaR (zaA w n) (zcc w t p) p.kids
def zbn (l:List Vt) (n:Int):Int:=idxF (fun v=>decide (v.var=n)) l 0
def zcN (a b:List Vt):Bool:=a.all (fun v=>decide (0<=zbn b v.var/\(nth b (zbn b v.var).toNat).ty=v.ty))&&decide (a.length=b.length)
def zlW (l:List Vt):Bool:=(List.range l.length).all fun(i:Nat)=>decide (zbn l (nth l i).var=(i:Int))
def zc7 (a b:List Vt):Bool:=decide (a.length=b.length)&& !a.any fun v=> !decide (v∈b)
def zbI (l:List Vt):Bool:=decide (l.map Vt.var).Nodup
def linP (w:List Data):Nat->Ty->Pat->Bool
 |0,_,_=>true
 |n+1,t,p=>all2 (linP w n) (zag w t p) p.kids&&(if p.op=5 then zcN (zaA w n t (nth p.kids 0)) (zaA w n t (nth p.kids 1)) else zlW (zaA w (n+1) t p))
theorem zeh (l:List Vt) (n:Int):(zbn l n = -1/\∀v∈l,v.var≠n)\/∃k:Nat,zbn l n=k/\k<l.length/\(nth l k).var=n/\∀j,j<k->(nth l j).var≠n:=by
 have key:∀(l:List Vt) (i:Nat),(idxF (fun v=>decide (v.var=n)) l i = -1/\∀v∈l,v.var≠n)\/∃k:Nat,idxF (fun v=>decide (v.var=n)) l i=((i+k:Nat):Int)/\k<l.length/\(nth l k).var=n/\∀j,j<k->(nth l j).var≠n:=by
  intro l;induction l with
  |nil=>intro i;exact .inl ⟨rfl,by simp⟩
  |cons x r ih=>
   intro i;unfold idxF;by_cases h:x.var=n
   ·exact .inr ⟨0,by simp[h],by simp,by simpa [nth] using h,fun j hj=>absurd hj (by omega)⟩
   ·rcases ih (i+1) with ⟨h1,h2⟩|⟨k,h1,h2,h3,h4⟩
    ·exact .inl ⟨by simpa [h] using h1,fun v hv=>by rcases List.mem_cons.1 hv with rfl|hv;exact h;exact h2 v hv⟩
    ·refine .inr ⟨k+1, ?_,by simpa using h2,by simpa [nth] using h3,fun j hj=>?_⟩
     ·simp only[h,decide_false,Bool.false_eq_true,if_false];rw[h1];congr 1;omega
     ·cases j with
      |zero=>simpa [nth] using h
      |succ j=>simpa [nth] using h4 j (by omega)
 rcases key l 0 with h|⟨k,h1,h2⟩
 ·exact .inl h
 ·exact .inr ⟨k,by unfold zbn;simpa using h1,h2⟩
theorem nodup_iff {l:List Vt}:(l.map Vt.var).Nodup↔∀i j,i<j->j<l.length->(nth l i).var≠(nth l j).var:=by
 unfold List.Nodup;rw[List.pairwise_iff_getElem];constructor
 ·intro h i j hij hj;have:=h i j (by simp;omega) (by simpa using hj) hij;simp only[List.getElem_map] at this;rw[za2 (by omega),za2 hj];exact this
 ·intro h i j hi hj hij;simp only[xac] at hi hj;simp only[List.getElem_map];rw[<-za2 hi,<-za2 hj];exact h i j hij hj
theorem zh4 {l:List Vt} (h:(l.map Vt.var).Nodup){i j:Nat} (hi:i<l.length) (hj:j<l.length) (he:(nth l i).var=(nth l j).var):i=j:=by
 have h1:=nodup_iff.1 h;rcases Nat.lt_trichotomy i j with h2|h2|h2
 ·exact absurd he (h1 i j h2 hj)
 ·exact h2
 ·exact absurd he.symm (h1 j i h2 hi)
theorem zmq (l:List Vt):zlW l=zbI l:=by
 unfold zbI;by_cases h:(l.map Vt.var).Nodup
 ·rw[decide_eq_true h];refine zcO (fun i hi=>decide_eq_true ?_);rcases zeh l (nth l i).var with ⟨_,h2⟩|⟨k,h1,h2,h3,h4⟩
  ·exact absurd rfl (h2 _ (zap hi))
  ·rw[h1,zh4 h h2 hi h3]
 ·rw[decide_eq_false h];cases hd:zlW l with
  |false=>rfl
  |true=>
   refine absurd ?_ h;rw[nodup_iff];intro i j hij hj he;have h1:=List.all_eq_true.1 hd i (List.mem_range.2 (by omega));have h2:=List.all_eq_true.1 hd j (List.mem_range.2 hj);simp only[decide_eq_true_eq] at h1 h2;rw[he,h2] at h1;omega
theorem zjD {a b:List Vt} (hb:zbI b=true):zcN a b=zc7 a b:=by
 unfold zbI at hb;simp only[decide_eq_true_eq] at hb;unfold zcN zc7;rw[Bool.and_comm];congr 1
 rw[Bool.eq_iff_iff];simp only[List.all_eq_true,Bool.not_eq_true',List.any_eq_false,decide_eq_true_eq,Bool.not_eq_true,decide_eq_false_iff_not,Decidable.not_not];refine forall_congr' fun v=>forall_congr' fun hv=>?_;rcases zeh b v.var with ⟨h1,h2⟩|⟨k,h1,h2,h3,h4⟩
 ·rw[h1];exact⟨fun h=>absurd h.1 (by omega),fun h=>absurd rfl (h2 v h)⟩
 ·rw[h1];simp only[Int.toNat_natCast];constructor
  ·rintro ⟨_,h⟩
   have:nth b k=v:=by
    have e:∀x y:Vt,x.var=y.var->x.ty=y.ty->x=y:=fun x y h1 h2=>by cases x;cases y;simp_all
    exact e _ _ h3 h
   rw[<-this];exact zap h2
  ·intro h;refine⟨by omega, ?_⟩;obtain⟨j,hj,he⟩:=List.getElem_of_mem h;have h5:nth b j=v:=by rw[za2 hj];exact he
   have:=zh4 hb h2 hj (by rw[h3,h5]);rw[this,h5]
def za3 (g:Ty->Pat->Int->Option (List Vt)×Int) (or:Bool):List Ty->List Pat->Nat->List Vt->Int->Option (List Vt)×Int
 |a::r,b::s,i,acc,c=>match (g a b c).1 with
  |none=>(none,(g a b c).2)
  |some l=>if or=true/\i=1 then (if zc7 acc l=true then za3 g or r s (i+1) acc (g a b c).2 else (none,(g a b c).2)) else za3 g or r s (i+1) (acc++l) (g a b c).2
 |_,_,_,acc,c=>(some acc,c)
def finV (r:Option (List Vt)×Int):Option (List Vt)×Int:=match r.1 with
 |none=>r
 |some l=>if zbI l=true then r else (none,r.2)
def zaI (w:List Data):Nat->Ty->Pat->Int->Option (List Vt)×Int
 |0,_,_,c=>(none,c+1)
 |n+1,t,p,c=>if 60<c+1 then (none,c+1) else if okP w t p=true then finV (za3 (zaI w n) (decide (p.op=5)) (zag w t p) p.kids 0 (zaF t p) (c+1)) else (none,c+1)
def zbh (w:List Data) (n:Nat) (t:Ty) (p:Pat) (c:Int):Bool:=zav w n t p&&(decide (c+(p.size:Int)<=60)&&linP w n t p)
theorem zdq (w:List Data):∀(n:Nat) (t:Ty) (p:Pat),zav w n t p=true->linP w n t p=true->zbI (zaA w n t p)=true
 |0,t,p,h,_=>by simp[zav] at h
 |n+1,t,p,h,hl=>by
  by_cases h5:p.op=5
  ·simp only[zav,linP,xad,if_pos h5] at h hl;have e1:zag w t p=[t,t]:=by unfold zag;rw[if_neg (by omega),if_pos h5]
   rw[e1] at h hl;rcases hk:p.kids with _|⟨x,_|⟨y,_|⟨z,r⟩⟩⟩
   ·rw[hk] at h;simp[all2] at h
   ·rw[hk] at h;simp[all2] at h
   ·rw[hk] at h hl;simp only[all2,xad,and_true] at h hl;have:=zdq w n t x h.2.1 hl.1.1;have e2:zaA w (n+1) t p=zaA w n t x:=by
     simp only[zaA,zaF,zcc,e1,hk,if_pos h5];rw[if_neg (by omega)];simp[zaR]
    rw[e2];exact this
   ·rw[hk] at h;simp[all2] at h
  ·simp only[linP,if_neg h5,xad] at hl;rw[<-zmq];exact hl.2
theorem zmM {w:List Data}{n:Nat} (ih:∀t p c,((zaI w n t p c).1=if zbh w n t p c=true then some (zaA w n t p) else none)/\(zbh w n t p c=true->(zaI w n t p c).2=c+p.size)):
  ∀(a:List Ty) (b:List Pat) (i:Nat) (acc:List Vt) (c:Int),a.length=b.length->c<=60->
   ((za3 (zaI w n) false a b i acc c).1=if (all2 (zav w n) a b&&(decide (c+(Pats.size b:Int)<=60)&&all2 (linP w n) a b))=true then some (acc++zaR (zaA w n) a b) else none)/\
   ((all2 (zav w n) a b&&(decide (c+(Pats.size b:Int)<=60)&&all2 (linP w n) a b))=true->(za3 (zaI w n) false a b i acc c).2=c+Pats.size b)
 | [],[],i,acc,c,_,hc=>by simp[za3,all2,Pats.size,zaR,hc]
 |x::r,y::s,i,acc,c,hl,hc=>by
  obtain⟨h1,h2⟩:=ih x y c;have hps:Pats.size (y::s)=y.size+Pats.size s:=rfl;simp only[za3,zaR];by_cases hw:zbh w n x y c=true
  ·have h3:=h2 hw;rw[if_pos hw] at h1;rw[h1];simp only[Bool.false_eq_true,false_and,if_false];have h4:=hw;simp only[zbh,xad,decide_eq_true_eq] at h4;obtain⟨h5,h6⟩:=zmM ih r s (i+1) (acc++zaA w n x y) (zaI w n x y c).2 (by simpa using hl) (by omega);have e:(all2 (zav w n) (x::r) (y::s)&&(decide (c+(Pats.size (y::s):Int)<=60)&&all2 (linP w n) (x::r) (y::s)))=(all2 (zav w n) r s&&(decide ((zaI w n x y c).2+(Pats.size s:Int)<=60)&&all2 (linP w n) r s)):=by
    rw[all2,all2,h4.1,h4.2.2,h3];simp only[Bool.true_and];congr 2
    exact decide_eq_decide.2 (by omega)
   rw[e];refine⟨?_,fun hx=>?_⟩
   ·rw[h5,List.append_assoc]
   ·rw[h6 hx,h3];omega
  ·rw[if_neg hw] at h1;rw[h1];simp only;have hf:¬(all2 (zav w n) (x::r) (y::s)&&(decide (c+(Pats.size (y::s):Int)<=60)&&all2 (linP w n) (x::r) (y::s)))=true:=fun h=>by
    simp only[all2,xad,decide_eq_true_eq] at h;refine hw ?_;simp only[zbh,xad,decide_eq_true_eq];refine⟨h.1.1, ?_,h.2.2.1⟩;have:=h.2.1;omega
   rw[if_neg hf];exact⟨rfl,fun h=>absurd h hf⟩
 | [],_::_,_,_,_,hl,_=>by simp at hl
 |_::_,[],_,_,_,hl,_=>by simp at hl
theorem zdu (w:List Data):∀(n:Nat) (t:Ty) (p:Pat) (c:Int),((zaI w n t p c).1=if zbh w n t p c=true then some (zaA w n t p) else none)/\(zbh w n t p c=true->(zaI w n t p c).2=c+p.size)
 |0,t,p,c=>by simp[zaI,zbh,zav]
 |n+1,t,p,c=>by
  have hsz:=Pat.size_eq p;unfold zaI;by_cases h1:60<c+1
  ·have hf:¬zbh w (n+1) t p c=true:=fun h=>by
    simp only[zbh,xad,decide_eq_true_eq] at h;omega
   rw[if_pos h1,if_neg hf];exact⟨rfl,fun h=>absurd h hf⟩
  rw[if_neg h1];by_cases h2:okP w t p=true
  ·rw[if_pos h2];have h2':=h2;simp only[okP,xad,decide_eq_true_eq] at h2';by_cases h5:p.op=5
   ·have e1:zag w t p=[t,t]:=by unfold zag;rw[if_neg (by omega),if_pos h5]
    have e3:zaF t p=[]:=by unfold zaF;rw[if_neg (by omega)]
    rw[e1] at h2';rcases hk:p.kids with _|⟨x,_|⟨y,_|⟨z,r⟩⟩⟩
    ·rw[hk] at h2';simp at h2'
    ·rw[hk] at h2';simp at h2'
    ·have e4:zaA w (n+1) t p=zaA w n t x:=by
      simp only[zaA,zcc,e1,hk,if_pos h5,e3];simp[zaR]
     have e5:zbh w (n+1) t p c=((zav w n t x&&zav w n t y)&&(decide (c+1+(x.size:Int)+y.size<=60)&&((linP w n t x&&linP w n t y)&&zcN (zaA w n t x) (zaA w n t y)))):=by
      simp only[zbh,zav,linP,h2'.1,e1,hk,all2,if_pos h5,Bool.and_true,Bool.true_and,nth,List.getD_cons_zero,List.getD_cons_succ];congr 2
      refine decide_eq_decide.2 ?_;rw[hsz,hk];simp only[Pats.size];push_cast;omega
     rw[e4,e5,e1,e3];obtain⟨a1,a2⟩:=zdu w n t x (c+1);simp only[za3,h5,decide_true];by_cases w1:zbh w n t x (c+1)=true
     ·have a3:=a2 w1;rw[if_pos w1] at a1;have b1:=w1;simp only[zbh,xad,decide_eq_true_eq] at b1;obtain⟨d1,d2⟩:=zdu w n t y (zaI w n t x (c+1)).2;rw[a1];simp only[true_and,Nat.zero_ne_one,if_false,List.nil_append];by_cases w2:zbh w n t y (zaI w n t x (c+1)).2=true
      ·have d3:=d2 w2;rw[if_pos w2] at d1;have b2:=w2;simp only[zbh,xad,decide_eq_true_eq] at b2;rw[d1];simp only[Nat.zero_add,if_true];have n1:=zdq w n t x b1.1 b1.2.2;have n2:=zdq w n t y b2.1 b2.2.2;have e6:((zav w n t x&&zav w n t y)&&(decide (c+1+(x.size:Int)+y.size<=60)&&((linP w n t x&&linP w n t y)&&zcN (zaA w n t x) (zaA w n t y))))=zc7 (zaA w n t x) (zaA w n t y):=by
        rw[b1.1,b2.1,b1.2.2,b2.2.2,zjD n2,decide_eq_true (by omega)];simp
       rw[e6];by_cases hs:zc7 (zaA w n t x) (zaA w n t y)=true
       ·rw[if_pos hs,if_pos hs];simp only[finV,n1,if_true];refine⟨trivial,fun _=>?_⟩;rw[d3,a3,hsz,hk];simp only[Pats.size];push_cast;omega
       ·rw[if_neg hs,if_neg hs];simp only[finV];exact⟨trivial,fun h=>absurd h hs⟩
      ·rw[if_neg w2] at d1;rw[d1];simp only[finV];have hf:¬((zav w n t x&&zav w n t y)&&(decide (c+1+(x.size:Int)+y.size<=60)&&((linP w n t x&&linP w n t y)&&zcN (zaA w n t x) (zaA w n t y))))=true:=fun h=>by
        simp only[xad,decide_eq_true_eq] at h;refine w2 ?_;simp only[zbh,xad,decide_eq_true_eq];exact⟨h.1.2,by omega,h.2.2.1.2⟩
       rw[if_neg hf];exact⟨rfl,fun h=>absurd h hf⟩
     ·rw[if_neg w1] at a1;rw[a1];simp only[finV];have hf:¬((zav w n t x&&zav w n t y)&&(decide (c+1+(x.size:Int)+y.size<=60)&&((linP w n t x&&linP w n t y)&&zcN (zaA w n t x) (zaA w n t y))))=true:=fun h=>by
       simp only[xad,decide_eq_true_eq] at h;refine w1 ?_;simp only[zbh,xad,decide_eq_true_eq];exact⟨h.1.1,by omega,h.2.2.1.1⟩
      rw[if_neg hf];exact⟨rfl,fun h=>absurd h hf⟩
    ·rw[hk] at h2';simp at h2'
   ·have e0:(decide (p.op=5))=false:=decide_eq_false h5;rw[e0];obtain⟨a1,a2⟩:=zmM (fun t p c=>zdu w n t p c) (zag w t p) p.kids 0 (zaF t p) (c+1) h2'.2.symm (by omega);have e4:zaA w (n+1) t p=zaF t p++zaR (zaA w n) (zag w t p) p.kids:=by simp only[zaA,zcc,if_neg h5]
    have e5:zbh w (n+1) t p c=((all2 (zav w n) (zag w t p) p.kids&&(decide (c+1+(Pats.size p.kids:Int)<=60)&&all2 (linP w n) (zag w t p) p.kids))&&zbI (zaA w (n+1) t p)):=by
     have:decide (c+(p.size:Int)<=60)=decide (c+1+(Pats.size p.kids:Int)<=60):=decide_eq_decide.2 (by omega);simp only[zbh,zav,linP,h2'.1,if_neg h5,Bool.true_and,zmq,this,Bool.and_assoc]
    rw[e5];by_cases hw:(all2 (zav w n) (zag w t p) p.kids&&(decide (c+1+(Pats.size p.kids:Int)<=60)&&all2 (linP w n) (zag w t p) p.kids))=true
    ·rw[if_pos hw,<-e4] at a1;have a3:=a2 hw;rw[hw,Bool.true_and];unfold finV;rw[a1];by_cases hn:zbI (zaA w (n+1) t p)=true
     ·simp only[hn,if_true];exact⟨a1,fun _=>by rw[a3];omega⟩
     ·simp only[hn,Bool.false_eq_true,if_false];exact⟨trivial,fun h=>absurd h (by simp)⟩
    ·rw[if_neg hw] at a1;have hw':(all2 (zav w n) (zag w t p) p.kids&&(decide (c+1+(Pats.size p.kids:Int)<=60)&&all2 (linP w n) (zag w t p) p.kids))=false:=by simpa using hw
     rw[hw',Bool.false_and];unfold finV;rw[a1];simp[a1]
  ·have hf:¬zbh w (n+1) t p c=true:=fun h=>by
    simp only[zbh,zav,xad,decide_eq_true_eq] at h;refine h2 ?_;simp only[okP,xad,decide_eq_true_eq];refine⟨h.1.1, ?_⟩;by_cases hl:(zag w t p).length=p.kids.length
    ·exact hl.symm
    ·have:=zdk (f:=zav w n) hl;rw[this] at h;simp at h
   rw[if_neg h2,if_neg hf];exact⟨rfl,fun h=>absurd h hf⟩
mutual
def cntP (m:Int):Pat->Int
 | .mk _ _ _ _ _ ks=>zcw m 1 ks
def zcw (m n:Int):List Pat->Int
 | []=>n
 |k::r=>if n<=m then zcw m (n+cntP (m-n) k) r else n
end
theorem zpT (m:Int) (v:Pat):cntP m v=zcw m 1 v.kids:=by cases v;rfl
theorem zjM {m n:Int}{l:List Pat} (h:¬n<=m):zcw m n l=n:=by cases l<;>simp[zcw,h]
mutual
theorem ziu:∀(v:Pat) (m:Int),1<=cntP m v/\cntP m v<=v.size
 | .mk _ _ _ _ _ ks,m=>by
  have:=zi8 ks m 1 (by omega);simp only[cntP,Pat.size];push_cast;omega
theorem zi8:∀(l:List Pat) (m n:Int),1<=n->1<=zcw m n l/\zcw m n l<=n+Pats.size l
 | [],m,n,h=>by simp[zcw,Pats.size];omega
 |k::r,m,n,h=>by
  have h1:=ziu k (m-n);have h2:=zi8 r m (n+cntP (m-n) k) (by omega);simp only[zcw,Pats.size];split
  ·push_cast;omega
  ·push_cast;omega
end
mutual
theorem zmm:∀(v:Pat) (m:Int),(cntP m v<=m↔(v.size:Int)<=m)/\(cntP m v<=m->cntP m v=v.size)
 | .mk _ _ _ _ _ ks,m=>by
  have:=zla ks m 1;simp only[cntP,Pat.size];push_cast;exact this
theorem zla:∀(l:List Pat) (m n:Int),(zcw m n l<=m↔n+(Pats.size l:Int)<=m)/\(zcw m n l<=m->zcw m n l=n+Pats.size l)
 | [],m,n=>by simp[zcw,Pats.size]
 |k::r,m,n=>by
  have h1:=zmm k (m-n);have h2:=zla r m (n+cntP (m-n) k);have h3:=zi8 r m (n+cntP (m-n) k);have h4:=ziu k (m-n);simp only[zcw,Pats.size];push_cast
  by_cases hn:n<=m
  ·rw[if_pos hn];by_cases h5:cntP (m-n) k<=m-n
   ·have h6:=h1.2 h5;rw[h6] at h2 ⊢;constructor
    ·rw[h2.1];constructor<;>intro h<;>omega
    ·intro h;rw[h2.2 h];omega
   ·have h7:¬(k.size:Int)<=m-n:=fun h=>h5 (h1.1.2 h);have h8:¬n+cntP (m-n) k<=m:=by omega
    rw[zjM h8];constructor
    ·constructor<;>intro h<;>omega
    ·intro h;omega
  ·rw[if_neg hn];constructor
   ·constructor<;>intro h<;>omega
   ·intro h;omega
end
theorem Pats.size_split {pre rest l:List Pat}{y:Pat} (h:pre++y::rest=l):Pats.size l=Pats.size pre+y.size+Pats.size rest:=by
 subst h;induction pre with
 |nil=>simp[Pats.size]
 |cons x r ih=>simp only[xag,Pats.size,ih];omega
theorem za9 {l:List Pat}{i:Nat} (h:i<l.length):(nth l i).size<=Pats.size l:=Pats.size_mem (zap h)
theorem zce {l:List Pat}{i:Nat} (h:i<l.length):Pats.size (l.drop i)=(nth l i).size+Pats.size (l.drop (i+1)):=by
 rw[zaS h];rfl
theorem zey:∀(n:Nat){v:Pat}{m:Int},v.size<=n->v.size<=1000000000000->v.ok->0<=m->m<=1000000000000->FnD Tryz.prog 297 [.agg [.d (.i v.op),.d (.i v.ctor),.d (.i v.n),.d (.i v.m),.d (.i v.var),.d (zaw v.kids)],.d (.i m)] [] (.d (.i (cntP m v))) []
 |0,v,m,h,_,_,_,_=>by rw[Pat.size_eq] at h;omega
 |n+1,v,m,h,hb,hok,m0,m1=>by
  rw[Pat.size_eq] at h hb;rw[Pat.ok_iff] at hok;rw[zpT];refine bd Tryz.f297 31 [] [] fun w0 F0 own kept hk=>?_;refine bx 3002 ?_;refine ev ?_;refine xam (ι:=Nat×Int) hk (fun x=>[(6,.d (.i (x.1:Int))),(5,.d (.i x.2))]) [7,8,9,10,11,12,13,14,15,16,17,18,19,20,21,22,23,24,25,26,27,28,29] (fun x=>[]) (fun x=>x.1<=v.kids.length/\zcw m x.2 (v.kids.drop x.1)=zcw m 1 v.kids/\1<=x.2/\x.2+Pats.size (v.kids.drop x.1)<=1+Pats.size v.kids) (fun x=>v.kids.length-x.1) (0,1) ⟨by simp,by simp,by simp,by simp⟩ ⟨⟨_,rfl,xau ?_⟩,⟨⟨_,rfl,xau ?_⟩,trivial⟩⟩ trivial (fun x=>rfl) (fun x hg1=>?_);iterate 2 focus (rfl)
  refine evc [] [] ?_;refine sq ?_ ?_<;>intro h1 h1p h1s<;>(try simp only[Q,Pat.cs_len] at h1p);refine sq ?_ ?_<;>intro h2 h2p h2s<;>(try simp only[Q,Pat.cs_len] at h2p);refine xaK sl34 .none rfl rfl rfl rfl (za5 (by omega)) rfl ?_;refine ev ?_;refine ar ?_ (by(constructor<;>omega));refine wc zmi (zey n (v:=nth v.kids x.1) (by have:=za9 (l:=v.kids) (i:=x.1) (by omega);omega) (by have:=za9 (l:=v.kids) (i:=x.1) (by omega);omega) (Pats.ok_mem hok.2 _ (zap (by omega))) (by omega) (by omega)) rfl rfl ?_;refine ev ?_;refine ar ?_ (by(have hz:=ziu (nth v.kids x.1) (m-x.2);have hs:=zce (l:=v.kids) (i:=x.1) (by omega);constructor<;>omega));refine ar ?_ (by(constructor<;>omega));refine xah ((x.1+1,x.2+cntP (m-x.2) (nth v.kids x.1))) ⟨(by
      have hz:=ziu (nth v.kids x.1) (m-x.2);have hs:=zce (l:=v.kids) (i:=x.1) (by omega);refine⟨by dsimp only;omega, ?_,by dsimp only;omega,by dsimp only;omega⟩;rw[<-hg1.2.1,zaS (l:=v.kids) (i:=x.1) (by omega),zcw,if_pos (by omega)]),(by dsimp only;omega),sx ⟨⟨_,rfl,xau ?_⟩,⟨⟨_,rfl,xau ?_⟩,trivial⟩⟩ trivial⟩
  iterate 2 focus (rfl)
  refine rq ?_;rotate_left;refine sqF ?_;refine rq ?_;rotate_left;all_goals (refine congrArg D.i ?_;rw[<-hg1.2.1];first|(rw[List.drop_eq_nil_of_le (by omega)];rfl)|(rw[zjM (by omega)]))
end Go.Proofs.YtlfipehhbdjnjaaGreat
namespace Go.Proofs.YtlfipehhbdjnjaaGreat
open Go
set_option linter.unusedSimpArgs false
set_option linter.unusedVariables false
set_option maxRecDepth 100000
set_option maxHeartbeats 4000000
theorem zgo {w:List Data}{d:Nat}{k:Int}:zbg w ⟨d,k⟩=zb5 w ⟨d,k⟩:=by unfold zbg;rw[if_neg (by simp only;omega)]
theorem zfF {w:List Data}{k:Int}:zbg w ⟨-1,k⟩=[]:=by unfold zbg;rw[if_pos rfl]
theorem zkA {w:List Data} (hw:WT w){a k:Int} (ht:TyIn w.length ⟨a,k⟩):(zbg w ⟨a,k⟩).length<=1000000000000:=by
 rcases ht with ha|⟨d,hd,hlt⟩
 ·simp only at ha;subst ha;rw[zfF];exact Nat.zero_le _
 ·simp only at hd;subst hd;rw[zgo];exact zgq hw
theorem zda {w:List Data}{a k c:Int} (ht:TyIn w.length ⟨a,k⟩) (h:c∈zbg w ⟨a,k⟩):∃d:Nat,a=d/\d<w.length/\PlaceIn w d c:=by
 rcases ht with ha|⟨d,hd,hlt⟩
 ·simp only at ha;subst ha;rw[zfF] at h;simp at h
 ·simp only at hd;subst hd;rw[zgo] at h;exact⟨d,rfl,hlt,zdt h⟩
theorem zfb {w:List Data} (hw:WT w){a k:Int}{p:Pat} (ht:TyIn w.length ⟨a,k⟩) (h:ownP w ⟨a,k⟩ p=true):∀t∈zag w ⟨a,k⟩ p,TyIn w.length t:=by
 intro t hm;unfold zag at hm;split at hm
 ·rename_i h4;unfold ownP at h;have h':=of_decide_eq_true h;have hc:p.ctor∈zbg w ⟨a,k⟩:=by
   rcases h'.2.2.2.2 with h|h|h|h|h|h
   ·omega
   ·omega
   ·omega
   ·omega
   ·omega
   ·exact h.2
  obtain⟨d,rfl,h1,h2⟩:=zda ht hc;exact zhC hw h1 h2 hm
 ·split at hm
  ·simp only[List.mem_cons,List.not_mem_nil,or_false] at hm;rcases hm with rfl|rfl<;>exact ht
  ·split at hm
   ·simp only[List.mem_cons,List.not_mem_nil,or_false] at hm;subst hm;exact ht
   ·simp at hm
theorem zfD {w:List Data} (hw:WT w){a k:Int}{p:Pat} (ht:TyIn w.length ⟨a,k⟩) (h:p.op=4->p.ctor∈zbg w ⟨a,k⟩):(zag w ⟨a,k⟩ p).length<=1000000000000:=by
 unfold zag;split
 ·rename_i h4;obtain⟨d,rfl,h1,h2⟩:=zda ht (h h4);exact zfo hw h1 h2
 ·split
  ·simp
  ·split<;>simp
def zeU (op:Int):Int:=if op=5 then 2 else if op=6 then 1 else if op=4 then -1 else 0
theorem zk3 {op:Int}:FnD Tryz.prog 319 [.d (.i op)] [] (.d (.i (zeU op))) []:=by
 refine bd Tryz.f319 10 [] [] fun w0 F0 own kept hk=>?_;refine sq ?_ ?_<;>intro h1 h1p h1s;refine rq ?_;rotate_left;refine sq ?_ ?_<;>intro h2 h2p h2s;refine rq ?_;rotate_left;refine sq ?_ ?_<;>intro h3 h3p h3s;refine rq ?_;rotate_left;refine rq ?_;rotate_left;all_goals (refine congrArg D.i ?_;simp only[zeU];simp_all)
theorem zdN {w:List Data} (hw:WT w){a k:Int} (ht:TyIn w.length ⟨a,k⟩):FnD Tryz.prog 226 [.d (zao w),.agg [.d (.i a),.d (.i k)]] [] (.d (zcS (zbg w ⟨a,k⟩))) []:=by
 rcases ht with ha|⟨d,hd,hlt⟩
 ·simp only at ha;subst ha;rw[zfF];exact zhB
 ·simp only at hd;subst hd;rw[zgo];exact zex hw hlt
theorem zlO {w:List Data} (hw:WT w){a k c:Int} (ht:TyIn w.length ⟨a,k⟩) (hc:c∈zbg w ⟨a,k⟩):FnD Tryz.prog 254 [.d (zao w),.agg [.d (.i a),.d (.i k)],.d (.i c)] [] (.d (za8 (zaN w ⟨a,k⟩ c))) []:=by
 obtain⟨d,rfl,h1,h2⟩:=zda ht hc;exact zgO hw h1 h2
theorem zfg {w:List Data} (hw:WT w){a k:Int}{p:Pat} (ht:TyIn w.length ⟨a,k⟩):
  FnD Tryz.prog 351 [.d (zao w),.agg [.d (.i a),.d (.i k)],.agg [.d (.i p.op),.d (.i p.ctor),.d (.i p.n),.d (.i p.m),.d (.i p.var),.d (zaw p.kids)]] [] (.d (.bool (ownP w ⟨a,k⟩ p))) []:=by
 have hcl:=zkA hw ht;refine bd Tryz.f351 96 [] [1,2,4,13] fun w0 F0 own kept hk=>?_;refine bx 3004 ?_;refine bx 3005 ?_;refine ev ?_;refine xap ?_;refine xay 8 [(15,.d (.bool (decide (p.op=2\/p.op=6))))] [8,9,10,11,12,13,14] ?_ ?_;refine ev ?_;refine sq ?_ ?_<;>intro h1 h1p h1s;exact jnb rfl;exact jnb rfl;refine xax ?_;refine ev ?_;refine xap ?_;refine xay 11 [(26,.d (.bool (decide ((p.op=2\/p.op=6)/\(p.var<0\/5<p.var)))))] [16,17,18,19,20,21,22,23,24,25] ?_ ?_;refine ev ?_;refine sq ?_ ?_<;>intro h2 h2p h2s;refine sq ?_ ?_<;>intro h3 h3p h3s;exact jnb rfl;exact jnb rfl;exact jnb rfl;refine xay 9 [(35,.d (.bool (decide ((p.op=2\/p.op=6)/\(p.var<0\/5<p.var)\/¬(p.op=2\/p.op=6)/\p.var≠0))))] [27,28,29,30,31,32,33,34] ?_ ?_;refine ev ?_;refine sq ?_ ?_<;>intro h4 h4p h4s;exact jnb rfl;refine sq ?_ ?_<;>intro h5 h5p h5s;exact jnb rfl;exact jnb rfl;refine xax ?_;refine tv ?_;refine sq ?_ ?_<;>intro h6 h6p h6s;refine rq ?_;rotate_left;refine xap ?_;refine xay 13 [(48,.d (.bool (decide (p.op≠3/\(p.n≠0\/p.m≠0)))))] [36,37,38,39,40,41,42,43,44,45,46,47] ?_ ?_;refine ev ?_;refine sq ?_ ?_<;>intro h7 h7p h7s;refine sq ?_ ?_<;>intro h8 h8p h8s;exact jnb rfl;exact jnb rfl;exact jnb rfl;refine xay 10 [(58,.d (.bool (decide (p.op≠3/\(p.n≠0\/p.m≠0)\/p.op≠4/\p.ctor≠0))))] [49,50,51,52,53,54,55,56,57] ?_ ?_;refine ev ?_;refine sq ?_ ?_<;>intro h9 h9p h9s;exact jnb rfl;refine sq ?_ ?_<;>intro h10 h10p h10s;exact jnb rfl;exact jnb rfl;refine xax ?_;refine tv ?_;refine sq ?_ ?_<;>intro h11 h11p h11s;refine rq ?_;rotate_left;refine sq ?_ ?_<;>intro h12 h12p h12s;refine sq ?_ ?_<;>intro h13 h13p h13s;refine rq ?_;rotate_left;refine sq ?_ ?_<;>intro h14 h14p h14s;refine xap ?_;refine xay 8 [(75,.d (.bool (decide (a = -1/\0<=p.n))))] [68,69,70,71,72,73,74] ?_ ?_;refine ev ?_;refine sq ?_ ?_<;>intro h15 h15p h15s;exact jnb rfl;exact jnb rfl;refine xay 7 [(82,.d (.bool (decide (a = -1/\0<=p.n/\p.n<=p.m))))] [76,77,78,79,80,81] ?_ ?_;refine ev ?_;refine sq ?_ ?_<;>intro h16 h16p h16s;exact jnb rfl;exact jnb rfl;refine xay 5 [(87,.d (.bool (decide (a = -1/\0<=p.n/\p.n<=p.m/\p.m<=9))))] [83,84,85,86] ?_ ?_;refine ev ?_;refine sq ?_ ?_<;>intro h17 h17p h17s;exact jnb rfl;exact jnb rfl;refine xax ?_;refine ev ?_;refine rq ?_;rotate_left;refine sq ?_ ?_<;>intro h18 h18p h18s;refine wc zgB (zdN hw ht) rfl rfl ?_;refine evd [] [] ?_;refine wc zgC (zcu hcl) rfl rfl ?_;refine evd [] [] ?_;refine dr ?_;refine rq ?_;rotate_left;refine rq ?_;rotate_left;refine sq ?_ ?_<;>intro h19 h19p h19s;refine sq ?_ ?_<;>intro h20 h20p h20s;refine rq ?_;rotate_left;refine sq ?_ ?_<;>intro h21 h21p h21s;refine xap ?_;refine xay 8 [(75,.d (.bool (decide (a = -1/\0<=p.n))))] [68,69,70,71,72,73,74] ?_ ?_;refine ev ?_;refine sq ?_ ?_<;>intro h22 h22p h22s;exact jnb rfl;exact jnb rfl;refine xay 7 [(82,.d (.bool (decide (a = -1/\0<=p.n/\p.n<=p.m))))] [76,77,78,79,80,81] ?_ ?_;refine ev ?_;refine sq ?_ ?_<;>intro h23 h23p h23s;exact jnb rfl;exact jnb rfl;refine xay 5 [(87,.d (.bool (decide (a = -1/\0<=p.n/\p.n<=p.m/\p.m<=9))))] [83,84,85,86] ?_ ?_;refine ev ?_;refine sq ?_ ?_<;>intro h24 h24p h24s;exact jnb rfl;exact jnb rfl;refine xax ?_;refine ev ?_;refine rq ?_;rotate_left;refine sq ?_ ?_<;>intro h25 h25p h25s;refine wc zgB (zdN hw ht) rfl rfl ?_;refine evd [] [] ?_;refine wc zgC (zcu hcl) rfl rfl ?_;refine evd [] [] ?_;refine dr ?_;refine rq ?_;rotate_left;refine rq ?_;rotate_left;refine sq ?_ ?_<;>intro h26 h26p h26s;refine sq ?_ ?_<;>intro h27 h27p h27s;refine rq ?_;rotate_left;refine sq ?_ ?_<;>intro h28 h28p h28s;refine xap ?_;refine xay 8 [(75,.d (.bool (decide (a = -1/\0<=p.n))))] [68,69,70,71,72,73,74] ?_ ?_;refine ev ?_;refine sq ?_ ?_<;>intro h29 h29p h29s;exact jnb rfl;exact jnb rfl;refine xay 7 [(82,.d (.bool (decide (a = -1/\0<=p.n/\p.n<=p.m))))] [76,77,78,79,80,81] ?_ ?_;refine ev ?_;refine sq ?_ ?_<;>intro h30 h30p h30s;exact jnb rfl;exact jnb rfl;refine xay 5 [(87,.d (.bool (decide (a = -1/\0<=p.n/\p.n<=p.m/\p.m<=9))))] [83,84,85,86] ?_ ?_;refine ev ?_;refine sq ?_ ?_<;>intro h31 h31p h31s;exact jnb rfl;exact jnb rfl;refine xax ?_;refine ev ?_;refine rq ?_;rotate_left;refine sq ?_ ?_<;>intro h32 h32p h32s;refine wc zgB (zdN hw ht) rfl rfl ?_;refine evd [] [] ?_;refine wc zgC (zcu hcl) rfl rfl ?_;refine evd [] [] ?_;refine dr ?_;refine rq ?_;rotate_left;refine rq ?_;rotate_left;refine sq ?_ ?_<;>intro h33 h33p h33s;refine rq ?_;rotate_left;refine sq ?_ ?_<;>intro h34 h34p h34s;refine xap ?_;refine xay 8 [(75,.d (.bool (decide (a = -1/\0<=p.n))))] [68,69,70,71,72,73,74] ?_ ?_;refine ev ?_;refine sq ?_ ?_<;>intro h35 h35p h35s;exact jnb rfl;exact jnb rfl;refine xay 7 [(82,.d (.bool (decide (a = -1/\0<=p.n/\p.n<=p.m))))] [76,77,78,79,80,81] ?_ ?_;refine ev ?_;refine sq ?_ ?_<;>intro h36 h36p h36s;exact jnb rfl;exact jnb rfl;refine xay 5 [(87,.d (.bool (decide (a = -1/\0<=p.n/\p.n<=p.m/\p.m<=9))))] [83,84,85,86] ?_ ?_;refine ev ?_;refine sq ?_ ?_<;>intro h37 h37p h37s;exact jnb rfl;exact jnb rfl;refine xax ?_;refine ev ?_;refine rq ?_;rotate_left;refine sq ?_ ?_<;>intro h38 h38p h38s;refine wc zgB (zdN hw ht) rfl rfl ?_;refine evd [] [] ?_;refine wc zgC (zcu hcl) rfl rfl ?_;refine evd [] [] ?_;refine dr ?_;refine rq ?_;rotate_left;refine rq ?_;rotate_left;all_goals (refine congrArg D.bool ?_;unfold ownP;rw[Bool.eq_iff_iff];by_cases hmem:p.ctor∈zbg w ⟨a,k⟩<;>(simp only[hmem,and_true,and_false,or_false,decide_eq_true_eq,xad,Bool.false_eq_true,true_iff,false_iff];simp only[decide_eq_true_eq,decide_eq_false_iff_not] at *;omega))
theorem zcA {w:List Data} (hw:WT w){a k:Int}{p:Pat} (ht:TyIn w.length ⟨a,k⟩) (h:p.op=4->p.ctor∈zbg w ⟨a,k⟩):
  FnD Tryz.prog 252 [.d (zao w),.agg [.d (.i a),.d (.i k)],.agg [.d (.i p.op),.d (.i p.ctor),.d (.i p.n),.d (.i p.m),.d (.i p.var),.d (zaw p.kids)]] [] (.d (za8 (zag w ⟨a,k⟩ p))) []:=by
 by_cases h4:p.op=4
 ·have e:zag w ⟨a,k⟩ p=zaN w ⟨a,k⟩ p.ctor:=by unfold zag;rw[if_pos h4]
  rw[e];refine bd Tryz.f252 30 [] [] fun w0 F0 own kept hk=>?_;refine bx 3004 ?_;refine bx 3005 ?_;refine ev ?_;refine sq ?_ ?_<;>intro h1 h1p h1s;refine wc zn5 (zlO hw ht (h h4)) rfl rfl ?_;refine ev ?_;refine rq ?_;rotate_left;exfalso;simp_all;all_goals (rfl)
 ·have e:zag w ⟨a,k⟩ p=List.replicate (zeU p.op).toNat ⟨a,k⟩:=by
   unfold zag zeU;rw[if_neg h4];by_cases h5:p.op=5
   ·rw[if_pos h5,if_pos h5];rfl
   ·rw[if_neg h5,if_neg h5];by_cases h6:p.op=6
    ·rw[if_pos h6,if_pos h6];rfl
    ·rw[if_neg h6,if_neg h6,if_neg h4];rfl
  have hb:0<=zeU p.op/\zeU p.op<=2:=by unfold zeU;split<;>(try split)<;>(try split)<;>omega
  rw[e];refine bd Tryz.f252 30 [] [] fun w0 F0 own kept hk=>?_;refine bx 3004 ?_;refine bx 3005 ?_;refine ev ?_;refine sq ?_ ?_<;>intro h1 h1p h1s;exfalso;simp_all;refine xa2 5 zaV .none rfl rfl ?_;refine ev ?_;refine xam (ι:=Nat) hk (fun i=>[(8,.d (.i (i:Int))),(7,.gl 5 ((List.replicate i (⟨a,k⟩:Ty)).map Ty.c))]) [18,19,20,21,22,23,24,25,26,27,28] (fun i=>[(5,some (.tok (((List.replicate i (⟨a,k⟩:Ty)).map Ty.c)).length 2))]) (fun i=>(i:Int)<=zeU p.op) (fun i=>(zeU p.op).toNat-i) 0 (by omega) ⟨⟨_,rfl,xau ?_⟩,⟨⟨_,rfl,LeA.glg ?_⟩,trivial⟩⟩ ⟨zas ?_,trivial⟩ (fun x=>rfl) (fun i hg1=>?_);iterate 3 focus (rfl)
  refine evc [] [] ?_;refine wc zqI (zk3) rfl rfl ?_;refine ev ?_;refine sq ?_ ?_<;>intro h2 h2p h2s<;>(try simp only[Q] at h2p);refine si [0] [_] zaV tz25 ?_;refine ap zaV zz25 rfl rfl rfl (by simp) (by simp;omega) ?_;refine ev ?_;refine ar ?_;refine xah (i+1) ⟨(by omega),(by omega),sx ⟨⟨_,rfl,xau ?_⟩,⟨⟨_,rfl,LeA.glg ?_⟩,trivial⟩⟩ ⟨zas ?_,trivial⟩⟩;iterate 3 focus ((simp[List.replicate_succ'];done))
  refine rn0 (r1 rfl) (.gld ?_);rotate_left;all_goals ((obtain rfl:i=(zeU p.op).toNat:=by omega);simp)
theorem zch {w:List Data}{n:Nat}{t:Ty}{p:Pat} (h:zav w (n+1) t p=true):ownP w t p=true/\p.kids.length=(zag w t p).length:=by
 simp only[zav,xad] at h;refine⟨h.1, ?_⟩;by_cases hl:(zag w t p).length=p.kids.length
 ·exact hl.symm
 ·rw[zdk hl] at h;simp at h
theorem zcb {w:List Data}{t:Ty}{p:Pat} (h:ownP w t p=true):p.op=4->p.ctor∈zbg w t:=by
 intro h4;unfold ownP at h;have h':=(of_decide_eq_true h).2.2.2.2;rcases h' with h|h|h|h|h|h
 ·omega
 ·omega
 ·omega
 ·omega
 ·omega
 ·exact h.2
theorem zmE {w:List Data}{t:Ty}{p:Pat} (h:ownP w t p=true):(p.op=2\/p.op=6)->0<=p.var/\p.var<=5:=by
 unfold ownP at h;exact(of_decide_eq_true h).1
theorem zez {w:List Data} (hw:WT w):∀(n:Nat){a k m:Int}{p:Pat},m=n->n<=1000->TyIn w.length ⟨a,k⟩->p.ok->
  FnD Tryz.prog 296 [.d (zao w),.agg [.d (.i a),.d (.i k)],.agg [.d (.i p.op),.d (.i p.ctor),.d (.i p.n),.d (.i p.m),.d (.i p.var),.d (zaw p.kids)],.d (.i m)] [] (.d (.bool (zav w n ⟨a,k⟩ p))) []
 |0,a,k,m,p,hm,_,ht,hok=>by
  refine bd Tryz.f296 50 [] [1] fun w0 F0 own kept hk=>?_;refine bx 3005 ?_;refine bx 3006 ?_;refine ev ?_;refine xap ?_;refine xay 9 [(19,.d (.bool (true)))] [11,12,13,14,15,16,17,18] ?_ ?_;refine ev ?_;refine sq ?_ ?_<;>intro h1 h1p h1s;exact jnb rfl;refine Walk.call (cr:=[]) zmk (zfg hw ht) rfl (.some rfl rfl h1) rfl rfl (LeL.refl _) trivial rfl rfl rfl ?_;refine evs [] [(13,false)] ?_ ⟨⟨_,rfl,h1⟩,trivial⟩;exact jnb rfl;refine xax ?_;refine tv ?_;refine sq ?_ ?_<;>intro h2 h2p h2s;refine rq ?_;rotate_left;exact absurd h2 (by simp);all_goals (rfl)
 |n+1,a,k,m,p,hm,hn,ht,hok=>by
  rw[Pat.ok_iff] at hok;by_cases ho:ownP w ⟨a,k⟩ p=true
  ·have hin:=zfb hw ht ho;have hlen:=zfD hw ht (zcb ho);refine bd Tryz.f296 50 [] [1] fun w0 F0 own kept hk=>?_;refine bx 3005 ?_;refine bx 3006 ?_;refine ev ?_;refine xap ?_;refine xay 9 [(19,.d (.bool (false)))] [11,12,13,14,15,16,17,18] ?_ ?_;refine ev ?_;refine sq ?_ ?_<;>intro h1 h1p h1s;exact jnb rfl;refine Walk.call (cr:=[]) zmk (zfg hw ht) rfl (.some rfl rfl h1) rfl rfl (LeL.refl _) trivial rfl rfl rfl ?_;refine evs [] [(13,false)] ?_ ⟨⟨_,rfl,h1⟩,trivial⟩;exact jnb rfl;refine xax ?_;refine tv ?_;refine sq ?_ ?_<;>intro h2 h2p h2s;exact absurd h2 (by simp);refine wc zhH (zcA hw ht (zcb ho)) rfl rfl ?_;refine ev ?_;refine sq ?_ ?_<;>intro h3 h3p h3s;refine rq ?_;rotate_left;try simp only[Q,Pat.cs_len] at h3p
   refine xam (ι:=Nat) hk (fun i=>[(10,.d (.i (i:Int)))]) [8,30,31,32,33,34,35,36,37,38,39,40,41,42,43,44,45,46,47,48,49] (fun i=>[]) (fun i=>i<=(zag w ⟨a,k⟩ p).length/\∀i',i'<i->zav w n (nth (zag w ⟨a,k⟩ p) i') (nth p.kids i')=true) (fun i=>(zag w ⟨a,k⟩ p).length-i) 0 ⟨by omega,fun _ h=>absurd h (by omega)⟩ ⟨⟨_,rfl,xau ?_⟩,trivial⟩ trivial (fun x=>rfl) (fun i hg1=>?_);focus (first|(simp;done)|(simp_all;done))
   refine evc [] [1] ?_;refine sq ?_ ?_<;>intro h4 h4p h4s;try simp only[Q,Pat.cs_len] at h4p
   refine xaK zaV .none rfl rfl rfl rfl (zau (by omega)) rfl ?_;refine evd [] [] ?_;refine xaK sl34 .none rfl rfl rfl rfl (za5 (by omega)) rfl ?_;refine evd [] [] ?_;refine ar ?_;refine wc zmh (zez hw n (by omega) (by omega) (hin _ (zap (by omega))) (Pats.ok_mem hok.2 _ (zap (by omega)))) rfl rfl ?_;refine evd [] [] ?_;refine dr ?_;refine sq ?_ ?_<;>intro h5 h5p h5s;refine rq ?_;rotate_left;try simp only[Q,Pat.cs_len] at h5p
   refine ar ?_;refine xah (i+1) ⟨⟨by omega,zaL hg1.2 (by assumption)⟩,(by omega),sx ⟨⟨_,rfl,xau ?_⟩,trivial⟩ trivial⟩;focus (first|(simp;done)|(simp_all;done))
   refine rq ?_;rotate_left;all_goals (refine congrArg D.bool ?_;unfold zav;rw[ho,Bool.true_and];first|(rw[zdk (by simp[Pat.cs_len] at *;omega)])|(rw[zc2 (by simp[Pat.cs_len] at *;omega) (fun x hx=>hg1.2 x (by simp[Pat.cs_len] at *;omega))])|(rw[zbT (i:=i) (by simp[Pat.cs_len] at *;omega) (by simp[Pat.cs_len] at *;omega) (by assumption)]))
  ·have ho':ownP w ⟨a,k⟩ p=false:=by simpa using ho
   refine bd Tryz.f296 50 [] [1] fun w0 F0 own kept hk=>?_;refine bx 3005 ?_;refine bx 3006 ?_;refine ev ?_;refine xap ?_;refine xay 9 [(19,.d (.bool (true)))] [11,12,13,14,15,16,17,18] ?_ ?_;refine ev ?_;refine sq ?_ ?_<;>intro h1 h1p h1s;exact jnb rfl;refine Walk.call (cr:=[]) zmk (zfg hw ht) rfl (.some rfl rfl h1) rfl rfl (LeL.refl _) trivial rfl rfl rfl ?_;refine evs [] [(13,false)] ?_ ⟨⟨_,rfl,h1⟩,trivial⟩;exact jnb rfl;refine xax ?_;refine tv ?_;refine sq ?_ ?_<;>intro h2 h2p h2s;refine rq ?_;rotate_left;exact absurd h2 (by simp);all_goals (refine congrArg D.bool ?_;unfold zav;rw[ho'];rfl)
theorem zeN {l:List Vt}{n:Int} (h:l.length<=1000000000000):FnD Tryz.prog 299 [.d (zco l),.d (.i n)] [] (.d (.i (zbn l n))) []:=by
 refine bd Tryz.f299 20 [] [] fun w0 F0 own kept hk=>?_;refine xam (ι:=List (Vt)×List (Vt)) hk (fun x=>[(5,.d (.i (x.1.length:Int)))]) [4,6,7,8,9,10,11,12,13,14,15,16,17,18,19] (fun x=>[]) (fun x=>x.1++x.2=l/\idxF (fun v=>decide (v.var=n)) x.2 x.1.length=idxF (fun v=>decide (v.var=n)) l 0) (fun x=>x.2.length) ([],l) ⟨by simp,rfl⟩ ⟨⟨_,rfl,xau ?_⟩,trivial⟩ trivial (fun x=>rfl) (fun x hg1=>?_);focus (rfl)
 obtain⟨pre,rest⟩:=x;dsimp only at hg1 ⊢;refine evc [] [] ?_;refine sq ?_ ?_<;>intro h1 h1p h1s<;>(try simp only[Q] at h1p);rcases rest with _|⟨y,rest⟩
 ·exfalso;simp_all
 refine xaK zcK .none rfl rfl rfl rfl (zaW hg1.1) rfl ?_;refine ev ?_;refine sq ?_ ?_<;>intro h2 h2p h2s<;>(try simp only[Q] at h2p);focus (refine rq ?_;all_goals (refine congrArg D.i ?_;unfold zbn;rw[<-hg1.2];simp[idxF,h1s,h1p,h2s,h2p]))
 refine ar ?_;refine xah ((pre++[y],rest)) ⟨⟨(by have hz:=hg1.1;rw[<-hz];simp),(by rw[<-hg1.2];simp_all[idxF])⟩,(by simp),sx ⟨⟨_,rfl,xau ?_⟩,trivial⟩ trivial⟩;focus ((simp;done))
 have hrest:rest=[]:=by
  rcases rest with _|⟨a,b⟩
  ·rfl
  ·exfalso;have hz:=congrArg List.length (hg1.1);simp only[xaa,xab,xac] at hz;omega
 subst hrest;focus (refine rq ?_;all_goals (refine congrArg D.i ?_;unfold zbn;rw[<-hg1.2];simp[idxF,h1s,h1p]))
theorem zmZ {a b:List Vt}{i:Nat} (h:i<a.length) (h2:¬(0<=zbn b (nth a i).var/\(nth b (zbn b (nth a i).var).toNat).ty=(nth a i).ty)):zcN a b=false:=by
 unfold zcN;have:(a.all fun v=>decide (0<=zbn b v.var/\(nth b (zbn b v.var).toNat).ty=v.ty))=false:=List.all_eq_false.2 ⟨_,zap h,by simpa using h2⟩;rw[this,Bool.false_and]
theorem znt {a b:List Vt} (h:∀i,i<a.length->0<=zbn b (nth a i).var/\(nth b (zbn b (nth a i).var).toNat).ty=(nth a i).ty):zcN a b=decide (a.length=b.length):=by
 unfold zcN;have:(a.all fun v=>decide (0<=zbn b v.var/\(nth b (zbn b v.var).toNat).ty=v.ty))=true:=by
  rw[List.all_eq_true];intro v hv;obtain⟨j,hj,he⟩:=List.getElem_of_mem hv;have:=h j hj;rw[za2 hj,he] at this;exact decide_eq_true this
 rw[this,Bool.true_and]
theorem zi9 {l:List Vt}{n:Int} (h:0<=zbn l n):(zbn l n).toNat<l.length/\((zbn l n).toNat:Int)=zbn l n:=by
 rcases zeh l n with ⟨h1,_⟩|⟨k,h1,h2,_⟩
 ·omega
 ·rw[h1];simpa using h2
theorem zoJ {t u:Ty}:t=u↔t.data=u.data/\t.index=u.index:=by
 cases t;cases u;simp
theorem zks {x y:List Vt} (hx:x.length<=1000000000000) (hy:y.length<=1000000000000):FnD Tryz.prog 352 [.d (zco x),.d (zco y)] [] (.d (.bool (zcN x y))) []:=by
 refine bd Tryz.f352 40 [33] [] fun w0 F0 own kept hk=>?_;refine xam (ι:=Nat) hk (fun i=>[(5,.d (.i (i:Int)))]) [4,6,7,8,9,10,11,12,13,14,15,16,17,18,19,20,21,22,23,24,25,26,27,28,29,30,31,32,33,34] (fun i=>[]) (fun i=>i<=x.length/\∀j,j<i->0<=zbn y (nth x j).var/\(nth y (zbn y (nth x j).var).toNat).ty=(nth x j).ty) (fun i=>x.length-i) 0 ⟨by omega,fun _ h=>absurd h (by omega)⟩ ⟨⟨_,rfl,xau ?_⟩,trivial⟩ trivial (fun x=>rfl) (fun i hg1=>?_);focus (rfl)
 refine evc [33] [] ?_;refine sq ?_ ?_<;>intro h1 h1p h1s<;>(try simp only[Q] at h1p);refine xaK zcK .none rfl rfl rfl rfl (zau (by omega)) rfl ?_;refine evs [33] [] ?_;refine wc zmj (zeN hy) rfl rfl ?_;refine evs [33] [] ?_;refine sq ?_ ?_<;>intro h2 h2p h2s<;>(try simp only[Q] at h2p);refine dr ?_;refine sqT ?_;refine rq ?_;rotate_left;refine xaK (i:=(zbn y (nth x i).var).toNat) zcK (.some rfl rfl h2) rfl rfl rfl (zi9 (l:=y) (n:=(nth x i).var) (by omega)).2.symm (zau (by exact(zi9 (l:=y) (n:=(nth x i).var) (by omega)).1)) rfl ?_;refine evd [33] [(22,false)] ?_ ⟨⟨_,rfl,h2⟩,trivial⟩;refine xaK zcK (.some rfl rfl h2) rfl rfl rfl rfl (zau (by omega)) rfl ?_;refine evd [33] [(22,false)] ?_ ⟨⟨_,rfl,h2⟩,trivial⟩;refine Walk.neV eq25 (.some rfl rfl h2) rfl rfl rfl rfl rfl ?_;refine evd [33] [(22,false)] ?_ ⟨⟨_,rfl,h2⟩,trivial⟩;refine dr ?_;refine sq ?_ ?_<;>intro h4 h4p h4s<;>(try simp only[Q] at h4p);refine rq ?_;rotate_left;refine ar ?_;refine xah (i+1) ⟨⟨by omega,zaL hg1.2 (by rw[zoJ];first|omega|(simp at h4;omega))⟩,(by omega),sx ⟨⟨_,rfl,xau ?_⟩,trivial⟩ trivial⟩;focus (rfl)
 refine rq ?_;rotate_left;all_goals (refine congrArg D.bool ?_;first|(refine(zmZ (i:=i) (by omega) ?_).symm;simp only[zoJ];first|omega|(simp at h4;omega))|(rw[znt (fun j hj=>hg1.2 j (by simp at h1p;omega))];exact decide_eq_decide.2 (by simp;omega)))
theorem ziq {f:Ty->Pat->List Vt} (hf:∀t p,(f t p).length<=p.size):∀(a:List Ty) (b:List Pat),(zaR f a b).length<=Pats.size b
 | [],[]=>by simp[zaR]
 | [],_::_=>by simp[zaR]
 |_::_,[]=>by simp[zaR]
 |x::r,y::s=>by
  have h1:=ziq hf r s;have h2:=hf x y;simp only[zaR,xaa,Pats.size];omega
theorem zdx (w:List Data):∀(n:Nat) (t:Ty) (p:Pat),(zaA w n t p).length<=p.size
 |0,t,p=>by simp[zaA]
 |n+1,t,p=>by
  have h1:=ziq (zdx w n) (zcc w t p) p.kids;have h2:(zaF t p).length<=1:=by unfold zaF;split<;>simp
  rw[Pat.size_eq];simp only[zaA,xaa];omega
theorem zhl {f:Ty->Pat->List Vt}:∀ {a:List Ty}{b:List Pat}{i:Nat},i<a.length->i<b.length->zaR f (a.take (i+1)) (b.take (i+1))=zaR f (a.take i) (b.take i)++f (nth a i) (nth b i)
 |x::r,y::s,0,_,_=>by simp[zaR,nth]
 |x::r,y::s,i+1,h1,h2=>by
  have:=zhl (f:=f) (a:=r) (b:=s) (i:=i) (by simpa using h1) (by simpa using h2);simp only[List.take_succ_cons,zaR];rw[this,List.append_assoc];rfl
theorem zkz {f:Ty->Pat->List Vt}:∀ {a:List Ty}{b:List Pat}{i:Nat},zaR f (a.take i) (b.take i)=zaR f (a.take i) b
 | [],b,i=>by simp[zaR]
 |x::r,[],i=>by simp[zaR]
 |x::r,y::s,0=>by simp[zaR]
 |x::r,y::s,i+1=>by simp only[List.take_succ_cons,zaR];rw[zkz]
theorem zmX {f:Ty->Pat->List Vt} (hf:∀t p,(f t p).length<=p.size){a:List Ty}{b:List Pat}{i:Nat} (h:i<b.length):(zaR f (a.take i) (b.take i)).length+(nth b i).size<=Pats.size b:=by
 have h1:=ziq hf (a.take i) (b.take i);have h2:=Pats.size_split (pre:=b.take i) (y:=nth b i) (rest:=b.drop (i+1)) (l:=b) (by rw[<-zaS h,List.take_append_drop]);omega
def zcV (w:List Data) (t:Ty) (p:Pat):Nat:=(zcc w t p).length
theorem zir (w:List Data) (t:Ty) (p:Pat):zcV w t p=if p.op=5 then 1 else (zag w t p).length:=by
 unfold zcV zcc;by_cases h5:p.op=5
 ·rw[if_pos h5,if_pos h5];have:zag w t p=[t,t]:=by unfold zag;rw[if_neg (by omega),if_pos h5]
  rw[this];rfl
 ·rw[if_neg h5,if_neg h5]
theorem zlC {w:List Data}{f:Ty->Pat->List Vt}{t:Ty}{p:Pat} (hl:p.kids.length=(zag w t p).length){i:Nat} (h:i=zcV w t p):zaR f ((zag w t p).take i) (p.kids.take i)=zaR f (zcc w t p) p.kids:=by
 subst h;rw[zkz];congr 1
 rw[zir];unfold zcc;by_cases h5:p.op=5
 ·rw[if_pos h5,if_pos h5]
 ·rw[if_neg h5,if_neg h5,List.take_length]
theorem zbx {w:List Data}{n:Nat}{t:Ty}{p:Pat} (h:zav w (n+1) t p=true){i:Nat} (hi:i<p.kids.length):zav w n (nth (zag w t p) i) (nth p.kids i)=true:=by
 have hl:=(zch h).2;cases hs:zav w n (nth (zag w t p) i) (nth p.kids i) with
 |true=>rfl
 |false=>
  have:=zbT (f:=zav w n) (a:=zag w t p) (b:=p.kids) (i:=i) (by omega) hl.symm hs;simp only[zav,this,Bool.and_false] at h;cases h
theorem zeO {w:List Data} (hw:WT w):∀(n:Nat){a k:Int}{p:Pat}{xs:List Vt},zav w n ⟨a,k⟩ p=true->n<=1000->TyIn w.length ⟨a,k⟩->p.ok->xs.length+p.size<=2000000000000->
  FnD Tryz.prog 225 [.gl 5 (xs.map Vt.c),.d (zao w),.agg [.d (.i a),.d (.i k)],.agg [.d (.i p.op),.d (.i p.ctor),.d (.i p.n),.d (.i p.m),.d (.i p.var),.d (zaw p.kids)]] [(5,some (.tok (xs.map Vt.c).length 3))]
   (.gl 5 ((xs++zaA w n ⟨a,k⟩ p).map Vt.c)) [(5,some (.tok ((xs++zaA w n ⟨a,k⟩ p).map Vt.c).length 3))]
 |0,a,k,p,xs,hs,_,_,_,_=>by simp[zav] at hs
 |n+1,a,k,p,xs,hs,hn,ht,hok,hb=>by
  rw[Pat.ok_iff] at hok;rw[Pat.size_eq] at hb;obtain⟨ho,hl⟩:=zch hs;have hin:=zfb hw ht ho;have hlen:=zfD hw ht (zcb ho);have hvc5:p.op=5->zcV w ⟨a,k⟩ p=1:=fun h=>by rw[zir,if_pos h]
  have hvc:¬p.op=5->zcV w ⟨a,k⟩ p=(zag w ⟨a,k⟩ p).length:=fun h=>by rw[zir,if_neg h]
  have hv2:zcV w ⟨a,k⟩ p<=p.kids.length:=by
   unfold zcV zcc;split
   ·rw[List.length_take];omega
   ·omega
  have e5:p.op=5->(zag w ⟨a,k⟩ p).length=2:=fun h5=>by unfold zag;rw[if_neg (by omega),if_pos h5];rfl
  have hnm:(zaF ⟨a,k⟩ p).length<=1:=by unfold zaF;split<;>simp
  refine bd Tryz.f225 58 [] [1,5,6] fun w0 F0 own kept hk=>?_;refine bx 3006 ?_;refine bx 3007 ?_;refine ev ?_;refine xap ?_;refine xay 8 [(18,.d (.bool (decide (p.op=2\/p.op=6))))] [11,12,13,14,15,16,17] ?_ ?_;refine ev ?_;refine sq ?_ ?_<;>intro h1 h1p h1s;exact jnb rfl;exact jnb rfl;refine xax ?_;refine tv ?_;refine sq ?_ ?_<;>intro h2 h2p h2s<;>(try simp only[Q,Pat.cs_len] at h2p);refine bu [0,1] [_,_] znJ ?_;refine si [0] [_] zcK zl3 ?_;refine ap zcK zl4 rfl rfl rfl (by simp) (by simp;omega) ?_;refine ev ?_;refine wc zhH (zcA hw ht (zcb ho)) rfl rfl ?_;refine ev ?_;refine CWp.loopT 5 6 (ι:=Nat) hk (fun i=>[(0,.gl 5 ((xs++zaF ⟨a,k⟩ p++zaR (zaA w n) ((zag w ⟨a,k⟩ p).take i) (p.kids.take i)).map Vt.c)),(10,.d (.i (i:Int)))]) [30,31,32,33,34,35,36,37,38,39,40,41,42,43,44,45,46,47,48,49,50,51,52,53,54,55,56] (fun i=>[(5,some (.tok ((xs++zaF ⟨a,k⟩ p++zaR (zaA w n) ((zag w ⟨a,k⟩ p).take i) (p.kids.take i)).map Vt.c).length 3))]) (fun i=>i<=zcV w ⟨a,k⟩ p) (fun i=>zcV w ⟨a,k⟩ p-i) 0 (by omega) ⟨⟨_,rfl,LeA.glg ?_⟩,⟨⟨_,rfl,xau ?_⟩,trivial⟩⟩ ⟨zas ?_,trivial⟩ (fun x=>rfl) (fun i hg1=>?_);iterate 3 focus ((simp[zaR,zaF, *];done))
  refine evc [] [1,5,6] ?_;refine xap ?_;refine xay 13 [(42,.d (.bool (decide (i<zcV w ⟨a,k⟩ p))))] [30,31,32,33,34,35,36,37,38,39,40,41] ?_ ?_;refine ev ?_;refine sq ?_ ?_<;>intro h3 h3p h3s;refine sq ?_ ?_<;>intro h4 h4p h4s;exact jnb rfl;exact jnb rfl;exact jnb rfl;refine xax ?_;refine tv ?_;refine sq ?_ ?_<;>intro h5 h5p h5s<;>(try simp only[Q,Pat.cs_len] at h5p);refine xaK zaV .none rfl rfl rfl rfl (zau (by omega)) rfl ?_;refine evd [] [] ?_;refine xaK sl34 .none rfl rfl rfl rfl (za5 (by omega)) rfl ?_;refine evd [] [] ?_;refine xaF 6 zgA (zeO hw n (a:=(nth (zag w ⟨a,k⟩ p) i).data) (k:=(nth (zag w ⟨a,k⟩ p) i).index) (p:=nth p.kids i) (xs:=xs++zaF ⟨a,k⟩ p++zaR (zaA w n) ((zag w ⟨a,k⟩ p).take i) (p.kids.take i)) (zbx hs (by omega)) (by omega) (hin _ (zap (by omega))) (Pats.ok_mem hok.2 _ (zap (by omega))) (by have:=zmX (zdx w n) (a:=zag w ⟨a,k⟩ p) (b:=p.kids) (i:=i) (by omega);simp only[xaa];omega)) rfl .none rfl rfl (.cons (.refl _) (.cons (.refl _) (.cons (.refl _) (.cons (.refl _) .nil)))) rfl (by rfl) ?_;refine evd [] [] ?_;refine dr ?_;refine CWp.retok 0 6 5 rfl rfl rfl rfl rfl ?_;refine evc [] [] ?_;refine ar ?_;refine xah (i+1) ⟨(by omega),(by omega),sx ⟨⟨_,rfl,LeA.glg ?_⟩,⟨⟨_,rfl,xau ?_⟩,trivial⟩⟩ ⟨zas ?_,trivial⟩⟩;iterate 3 focus (first|rfl|(rw[zhl (by omega) (by omega)];simp[List.append_assoc];done))
  refine rn [(5,some (.tok ((xs++zaA w (n+1) ⟨a,k⟩ p).map Vt.c).length 3))] (r1 rfl) (.glg ?_) ⟨rfl,rfl⟩ (SubO.get ⟨.inr ?_,⟨.inl rfl,trivial⟩⟩) (zaE rfl);rotate_left 2;refine wc zhH (zcA hw ht (zcb ho)) rfl rfl ?_;refine ev ?_;refine CWp.loopT 5 6 (ι:=Nat) hk (fun i=>[(0,.gl 5 ((xs++zaF ⟨a,k⟩ p++zaR (zaA w n) ((zag w ⟨a,k⟩ p).take i) (p.kids.take i)).map Vt.c)),(10,.d (.i (i:Int)))]) [30,31,32,33,34,35,36,37,38,39,40,41,42,43,44,45,46,47,48,49,50,51,52,53,54,55,56] (fun i=>[(5,some (.tok ((xs++zaF ⟨a,k⟩ p++zaR (zaA w n) ((zag w ⟨a,k⟩ p).take i) (p.kids.take i)).map Vt.c).length 3))]) (fun i=>i<=zcV w ⟨a,k⟩ p) (fun i=>zcV w ⟨a,k⟩ p-i) 0 (by omega) ⟨⟨_,rfl,LeA.glg ?_⟩,⟨⟨_,rfl,xau ?_⟩,trivial⟩⟩ ⟨zas ?_,trivial⟩ (fun x=>rfl) (fun i hg1=>?_);iterate 3 focus ((simp[zaR,zaF, *];done))
  refine evc [] [1,5,6] ?_;refine xap ?_;refine xay 13 [(42,.d (.bool (decide (i<zcV w ⟨a,k⟩ p))))] [30,31,32,33,34,35,36,37,38,39,40,41] ?_ ?_;refine ev ?_;refine sq ?_ ?_<;>intro h6 h6p h6s<;>(try simp only[Q,Pat.cs_len] at h6p);refine sq ?_ ?_<;>intro h7 h7p h7s<;>(try simp only[Q,Pat.cs_len] at h7p);exact jnb rfl;exact jnb rfl;exact jnb rfl;refine xax ?_;refine tv ?_;refine sq ?_ ?_<;>intro h8 h8p h8s<;>(try simp only[Q,Pat.cs_len] at h8p);refine xaK zaV .none rfl rfl rfl rfl (zau (by omega)) rfl ?_;refine evd [] [] ?_;refine xaK sl34 .none rfl rfl rfl rfl (za5 (by omega)) rfl ?_;refine evd [] [] ?_;refine xaF 6 zgA (zeO hw n (a:=(nth (zag w ⟨a,k⟩ p) i).data) (k:=(nth (zag w ⟨a,k⟩ p) i).index) (p:=nth p.kids i) (xs:=xs++zaF ⟨a,k⟩ p++zaR (zaA w n) ((zag w ⟨a,k⟩ p).take i) (p.kids.take i)) (zbx hs (by omega)) (by omega) (hin _ (zap (by omega))) (Pats.ok_mem hok.2 _ (zap (by omega))) (by have:=zmX (zdx w n) (a:=zag w ⟨a,k⟩ p) (b:=p.kids) (i:=i) (by omega);simp only[xaa];omega)) rfl .none rfl rfl (.cons (.refl _) (.cons (.refl _) (.cons (.refl _) (.cons (.refl _) .nil)))) rfl (by rfl) ?_;refine evd [] [] ?_;refine dr ?_;refine CWp.retok 0 6 5 rfl rfl rfl rfl rfl ?_;refine evc [] [] ?_;refine ar ?_;refine xah (i+1) ⟨(by omega),(by omega),sx ⟨⟨_,rfl,LeA.glg ?_⟩,⟨⟨_,rfl,xau ?_⟩,trivial⟩⟩ ⟨zas ?_,trivial⟩⟩;iterate 3 focus (first|rfl|(rw[zhl (by omega) (by omega)];simp[List.append_assoc];done))
  refine rn [(5,some (.tok ((xs++zaA w (n+1) ⟨a,k⟩ p).map Vt.c).length 3))] (r1 rfl) (.glg ?_) ⟨rfl,rfl⟩ (SubO.get ⟨.inr ?_,⟨.inl rfl,trivial⟩⟩) (zaE rfl);rotate_left 2;all_goals (first|((rw[zaA,<-zlC (f:=zaA w n) hl (i:=i) (by omega)];simp);done)|((show some (Res.tok _ _)=some (Res.tok _ _);congr 2;rw[zaA,<-zlC (f:=zaA w n) hl (i:=i) (by omega)];simp)))
theorem zdj {w:List Data} (hw:WT w){n:Nat}{a k:Int}{p:Pat} (hs:zav w n ⟨a,k⟩ p=true) (hn:n<=1000) (ht:TyIn w.length ⟨a,k⟩) (hok:p.ok) (hb:p.size<=1000000000000):
  FnD Tryz.prog 225 [.nils,.d (zao w),.agg [.d (.i a),.d (.i k)],.agg [.d (.i p.op),.d (.i p.ctor),.d (.i p.n),.d (.i p.m),.d (.i p.var),.d (zaw p.kids)]] [] (.d (zco (zaA w n ⟨a,k⟩ p))) []:=by
 have h:=zeO hw n (xs:=[]) hs hn ht hok (by simp only[xai];omega);exact FnD.nilTok (by simp[AV.idsL,AV.ids]) h
theorem zm2 {l:List Vt}{i:Nat} (h:i<l.length) (h2:¬zbn l (nth l i).var=i):zlW l=false:=zcv h (by simpa using h2)
theorem zd6 {w:List Data} (hw:WT w):∀(n:Nat){a k:Int}{p:Pat},zav w n ⟨a,k⟩ p=true->n<=1000->TyIn w.length ⟨a,k⟩->p.ok->p.size<=1000000000000->
  FnD Tryz.prog 298 [.d (zao w),.agg [.d (.i a),.d (.i k)],.agg [.d (.i p.op),.d (.i p.ctor),.d (.i p.n),.d (.i p.m),.d (.i p.var),.d (zaw p.kids)]] [] (.d (.bool (linP w n ⟨a,k⟩ p))) []
 |0,a,k,p,hs,_,_,_,_=>by simp[zav] at hs
 |n+1,a,k,p,hs,hn,ht,hok,hb=>by
  have hok':=hok;rw[Pat.ok_iff] at hok;have hb':=hb;rw[Pat.size_eq] at hb';obtain⟨ho,hl⟩:=zch hs;have hin:=zfb hw ht ho;have hlen:=zfD hw ht (zcb ho);have hvl:=zdx w (n+1) ⟨a,k⟩ p;have hsz:∀i,i<p.kids.length->(nth p.kids i).size<=1000000000000:=fun i hi=>by have:=za9 hi;omega
  by_cases hop5:p.op=5
  ·have e1:zag w ⟨a,k⟩ p=[⟨a,k⟩,⟨a,k⟩]:=by unfold zag;rw[if_neg (by omega),if_pos hop5]
   have hl2:p.kids.length=2:=by rw[hl,e1];rfl
   have s0:zav w n ⟨a,k⟩ (nth p.kids 0)=true:=by have:=zbx hs (i:=0) (by omega);rw[e1] at this;exact this
   have s1:zav w n ⟨a,k⟩ (nth p.kids 1)=true:=by have:=zbx hs (i:=1) (by omega);rw[e1] at this;exact this
   have v0:=zdx w n ⟨a,k⟩ (nth p.kids 0);have v1:=zdx w n ⟨a,k⟩ (nth p.kids 1);have z0:=hsz 0 (by omega);have z1:=hsz 1 (by omega);refine bd Tryz.f298 70 [] [] fun w0 F0 own kept hk=>?_;refine bx 3004 ?_;refine bx 3005 ?_;refine ev ?_;refine wc zhH (zcA hw ht (zcb ho)) rfl rfl ?_;refine ev ?_;refine xam (ι:=Nat) hk (fun i=>[(8,.d (.i (i:Int)))]) [6,15,16,17,18,19,20,21,22,23,24,25,26,27,28,29,30,31,32] (fun i=>[]) (fun i=>i<=(zag w ⟨a,k⟩ p).length/\∀i',i'<i->linP w n (nth (zag w ⟨a,k⟩ p) i') (nth p.kids i')=true) (fun i=>(zag w ⟨a,k⟩ p).length-i) 0 ⟨by omega,fun _ h=>absurd h (by omega)⟩ ⟨⟨_,rfl,xau ?_⟩,trivial⟩ trivial (fun x=>rfl) (fun i hg1=>?_);focus (first|rfl|(simp;done))
   refine evc [] [] ?_;refine sq ?_ ?_<;>intro h1 h1p h1s<;>(try simp only[Q,Pat.cs_len] at h1p);refine xaK zaV .none rfl rfl rfl rfl (zau (by omega)) rfl ?_;refine evd [] [] ?_;refine xaK sl34 .none rfl rfl rfl rfl (za5 (by omega)) rfl ?_;refine evd [] [] ?_;refine wc zjI (zd6 hw n (zbx hs (by omega)) (by omega) (hin _ (zap (by omega))) (Pats.ok_mem hok.2 _ (zap (by omega))) (hsz _ (by omega))) rfl rfl ?_;refine evd [] [] ?_;refine dr ?_;refine sq ?_ ?_<;>intro h2 h2p h2s<;>(try simp only[Q,Pat.cs_len] at h2p);refine rq ?_;rotate_left;refine ar ?_;refine xah (i+1) ⟨⟨by omega,zaL hg1.2 (by assumption)⟩,(by omega),sx ⟨⟨_,rfl,xau ?_⟩,trivial⟩ trivial⟩;focus (first|rfl|(simp;done))
   refine sq ?_ ?_<;>intro h3 h3p h3s<;>(try simp only[Q,Pat.cs_len] at h3p);refine xaK (i:=0) sl34 .none rfl rfl rfl rfl (za5 (by omega)) rfl ?_;refine evd [] [] ?_;refine wc zgA (zdj hw s0 (by omega) ht (Pats.ok_mem hok.2 _ (zap (by omega))) z0) rfl rfl ?_;refine evd [] [] ?_;refine xaK (i:=1) sl34 .none rfl rfl rfl rfl (za5 (by omega)) rfl ?_;refine evd [] [] ?_;refine wc zgA (zdj hw s1 (by omega) ht (Pats.ok_mem hok.2 _ (zap (by omega))) z1) rfl rfl ?_;refine wc zqS (zks (by omega) (by omega)) rfl rfl ?_;refine evd [] [] ?_;refine dr ?_;refine rq ?_;rotate_left;exfalso;simp_all;all_goals (refine congrArg D.bool ?_;unfold linP;rw[if_pos hop5];first|(rw[zc2 (by omega) (fun x hx=>hg1.2 x (by omega)),Bool.true_and])|(rw[zbT (i:=i) (by omega) (by omega) (by assumption),Bool.false_and]))
  ·skip
   refine bd Tryz.f298 70 [] [] fun w0 F0 own kept hk=>?_;refine bx 3004 ?_;refine bx 3005 ?_;refine ev ?_;refine wc zhH (zcA hw ht (zcb ho)) rfl rfl ?_;refine ev ?_;refine xam (ι:=Nat) hk (fun i=>[(8,.d (.i (i:Int)))]) [6,15,16,17,18,19,20,21,22,23,24,25,26,27,28,29,30,31,32] (fun i=>[]) (fun i=>i<=(zag w ⟨a,k⟩ p).length/\∀i',i'<i->linP w n (nth (zag w ⟨a,k⟩ p) i') (nth p.kids i')=true) (fun i=>(zag w ⟨a,k⟩ p).length-i) 0 ⟨by omega,fun _ h=>absurd h (by omega)⟩ ⟨⟨_,rfl,xau ?_⟩,trivial⟩ trivial (fun x=>rfl) (fun i hg1=>?_);focus (first|rfl|(simp;done))
   refine evc [] [] ?_;refine sq ?_ ?_<;>intro h1 h1p h1s<;>(try simp only[Q,Pat.cs_len] at h1p);refine xaK zaV .none rfl rfl rfl rfl (zau (by omega)) rfl ?_;refine evd [] [] ?_;refine xaK sl34 .none rfl rfl rfl rfl (za5 (by omega)) rfl ?_;refine evd [] [] ?_;refine wc zjI (zd6 hw n (zbx hs (by omega)) (by omega) (hin _ (zap (by omega))) (Pats.ok_mem hok.2 _ (zap (by omega))) (hsz _ (by omega))) rfl rfl ?_;refine evd [] [] ?_;refine dr ?_;refine sq ?_ ?_<;>intro h2 h2p h2s<;>(try simp only[Q,Pat.cs_len] at h2p);refine rq ?_;rotate_left;refine ar ?_;refine xah (i+1) ⟨⟨by omega,zaL hg1.2 (by assumption)⟩,(by omega),sx ⟨⟨_,rfl,xau ?_⟩,trivial⟩ trivial⟩;focus (first|rfl|(simp;done))
   refine sq ?_ ?_<;>intro h3 h3p h3s<;>(try simp only[Q,Pat.cs_len] at h3p);exfalso;simp_all;refine wc zgA (zdj hw hs hn ht hok' hb) rfl rfl ?_;refine ev ?_;refine xam (ι:=Nat) hk (fun j=>[(10,.d (.i (j:Int)))]) [6,55,56,57,58,59,60,61,62,63,64,65,66,67,68,69] (fun j=>[]) (fun j=>j<=(zaA w (n+1) ⟨a,k⟩ p).length/\∀j',j'<j->zbn (zaA w (n+1) ⟨a,k⟩ p) (nth (zaA w (n+1) ⟨a,k⟩ p) j').var=(j':Int)) (fun j=>(zaA w (n+1) ⟨a,k⟩ p).length-j) 0 ⟨by omega,fun _ h=>absurd h (by omega)⟩ ⟨⟨_,rfl,xau ?_⟩,trivial⟩ trivial (fun x=>rfl) (fun j hg2=>?_);focus (first|rfl|(simp;done))
   refine evc [] [] ?_;refine sq ?_ ?_<;>intro h4 h4p h4s<;>(try simp only[Q,Pat.cs_len] at h4p);refine xaK zcK .none rfl rfl rfl rfl (zau (by omega)) rfl ?_;refine ev ?_;refine wc zmj (zeN (by omega)) rfl rfl ?_;refine ev ?_;refine sq ?_ ?_<;>intro h5 h5p h5s<;>(try simp only[Q,Pat.cs_len] at h5p);refine rq ?_;rotate_left;refine ar ?_;refine xah (j+1) ⟨⟨by omega,zaL hg2.2 (by omega)⟩,(by omega),sx ⟨⟨_,rfl,xau ?_⟩,trivial⟩ trivial⟩;focus (first|rfl|(simp;done))
   refine rq ?_;rotate_left;all_goals (refine congrArg D.bool ?_;unfold linP;rw[if_neg hop5];first|(rw[zbT (i:=i) (by omega) (by omega) (by assumption),Bool.false_and];done)|(rw[zc2 (by omega) (fun x hx=>hg1.2 x (by omega)),Bool.true_and];first|(rw[zm2 (i:=j) (by omega) (by omega)];done)|(symm;exact zcO (fun x hx=>decide_eq_true (hg2.2 x (by omega))))))
def isP (w:List Data) (t:Ty) (p:Pat):Bool:=zav w 10 t p&&(decide ((p.size:Int)<=60)&&linP w 10 t p)
theorem zin {w:List Data} (hw:WT w){a k:Int}{p:Pat} (ht:TyIn w.length ⟨a,k⟩) (hok:p.ok) (hb:p.size<=1000000000000):
  FnD Tryz.prog 223 [.d (zao w),.agg [.d (.i a),.d (.i k)],.agg [.d (.i p.op),.d (.i p.ctor),.d (.i p.n),.d (.i p.m),.d (.i p.var),.d (zaw p.kids)]] [] (.d (.bool (isP w ⟨a,k⟩ p))) []:=by
 have hc:=zmm p 60;by_cases hs:zav w 10 ⟨a,k⟩ p=true
 ·skip
  refine bd Tryz.f223 22 [] [1] fun w0 F0 own kept hk=>?_;refine bx 3004 ?_;refine bx 3005 ?_;refine ev ?_;refine xap ?_;refine xay 9 [(15,.d (.bool (decide ((p.size:Int)<=60))))] [7,8,9,10,11,12,13,14] ?_ ?_;refine ev ?_;refine wc zmh (zez hw 10 (by omega) (by omega) ht hok) rfl rfl ?_;refine ev ?_;refine sq ?_ ?_<;>intro h1 h1p h1s;refine Walk.call (cr:=[]) zmi (zey _ (Nat.le_refl _) hb hok (by omega) (by omega)) rfl (.some rfl rfl h1) rfl rfl (LeL.refl _) trivial rfl rfl rfl ?_;refine evs [] [(11,true)] ?_ ⟨⟨_,rfl,h1⟩,trivial⟩;exact jnb rfl;exact jnb rfl;refine xax ?_;refine ev ?_;refine sq ?_ ?_<;>intro h2 h2p h2s;refine Walk.call (cr:=[]) zjI (zd6 hw 10 hs (by omega) ht hok hb) rfl (.some rfl rfl h2) rfl rfl (LeL.refl _) trivial rfl rfl rfl ?_;refine evs [] [(16,true)] ?_ ⟨⟨_,rfl,h2⟩,trivial⟩;refine rq ?_;rotate_left;refine rq ?_;rotate_left;all_goals (refine congrArg D.bool ?_;unfold isP;simp only[hs,Bool.true_and];first|(simp_all;done)|(simp_all;intro;omega))
 ·have hs':zav w 10 ⟨a,k⟩ p=false:=by simpa using hs
  refine bd Tryz.f223 22 [] [1] fun w0 F0 own kept hk=>?_;refine bx 3004 ?_;refine bx 3005 ?_;refine ev ?_;refine xap ?_;refine xay 9 [(15,.d (.bool (false)))] [7,8,9,10,11,12,13,14] ?_ ?_;refine ev ?_;refine wc zmh (zez hw 10 (by omega) (by omega) ht hok) rfl rfl ?_;refine ev ?_;refine sq ?_ ?_<;>intro h1 h1p h1s;refine Walk.call (cr:=[]) zmi (zey _ (Nat.le_refl _) hb hok (by omega) (by omega)) rfl (.some rfl rfl h1) rfl rfl (LeL.refl _) trivial rfl rfl rfl ?_;refine evs [] [(11,true)] ?_ ⟨⟨_,rfl,h1⟩,trivial⟩;exact jnb rfl;exact jnb rfl;refine xax ?_;refine ev ?_;refine sq ?_ ?_<;>intro h2 h2p h2s;refine Walk.call (cr:=[]) zjI (show FnD Tryz.prog 298 [.d (zao w),.agg [.d (.i a),.d (.i k)],.agg [.d (.i p.op),.d (.i p.ctor),.d (.i p.n),.d (.i p.m),.d (.i p.var),.d (zaw p.kids)]] [] (.d (.bool true)) [] from absurd (by assumption:(false:Bool)=true) (by simp)) rfl (.some rfl rfl h2) rfl rfl (LeL.refl _) trivial rfl rfl rfl ?_;refine evs [] [(16,true)] ?_ ⟨⟨_,rfl,h2⟩,trivial⟩;refine rq ?_;rotate_left;refine rq ?_;rotate_left;all_goals (refine congrArg D.bool ?_;unfold isP;simp_all)
end Go.Proofs.YtlfipehhbdjnjaaGreat
namespace Go.Proofs.YtlfipehhbdjnjaaGreat
open Go
set_option linter.unusedSimpArgs false
set_option linter.unusedVariables false
def tyS (s:Nat):Ty:=⟨((s / 4:Nat):Int),((s % 4:Nat):Int)⟩
def zlZ (t:Ty):Nat:=t.data.toNat*4+t.index.toNat
def InS (n:Nat) (u:Ty):Prop:=u.data = -1\/(zlZ u<n/\tyS (zlZ u)=u)
def ClosedT (w:List Data):Prop:=∀s,s<w.length*4->∀c∈zb5 w (tyS s),∀u∈zaN w (tyS s) c,InS (w.length*4) u
section
variable {w:List Data}
def Bet (f g:Nat->Nat):Prop:=∀s,0<f s->0<g s/\g s<=f s
theorem Bet.refl (f:Nat->Nat):Bet f f:=fun s h=>⟨h,Nat.le_refl _⟩
theorem Bet.trans {f g h:Nat->Nat} (a:Bet f g) (b:Bet g h):Bet f h:=fun s hs=>⟨(b s (a s hs).1).1,Nat.le_trans (b s (a s hs).1).2 (a s hs).2⟩
end
end Go.Proofs.YtlfipehhbdjnjaaGreat
namespace Go.Proofs.YtlfipehhbdjnjaaGreat
open Go
set_option linter.unusedSimpArgs false
set_option linter.unusedVariables false
set_option maxRecDepth 100000
set_option maxHeartbeats 2000000
theorem dr2 (ids:List Nat){os:List Oper}{s:St}{rs:List Rec}{Y:Prop} (h:Y) (h2:zaf s.env s.hp ids=true) (h1:(zeD 0 os&&zgD (zcy [] os) [] 0 rs)=true:=by kernel_rfl)
  (h3:rs.flatMap (·.cr)=ids:=by kernel_rfl):chkB os s rs=true/\Y:=by
 refine⟨?_,h⟩;have key:∀ {l:List Nat},zaf s.env s.hp l=true->∀id∈l,(!occE id s.env&& !occH id s.hp)=true:=by
  intro l;induction l with
  |nil=>intro _ id hm;simp at hm
  |cons i r ih=>
   intro h id hm;simp only[zaf,xad,Bool.not_eq_true'] at h;rcases List.mem_cons.1 hm with rfl|hm
   ·simp[h.1.1.2,h.1.2]
   ·exact ih h.2 id hm
 rw[xad] at h1;unfold chkB;rw[h1.1,h1.2,Bool.true_and,Bool.and_true,List.all_eq_true];intro r hr;rw[List.all_eq_true];intro id hid;exact key h2 id (by rw[<-h3];exact List.mem_flatMap.2 ⟨r,hr,hid⟩)
theorem InS.facts {n:Nat}{a k:Int} (h:InS n ⟨a,k⟩) (ha:¬a = -1):zlZ ⟨a,k⟩<n/\a*4+k=(zlZ ⟨a,k⟩:Int)/\0<=a/\0<=k/\k<=3/\a<=n:=by
 rcases h with h|⟨h1,h2⟩
 ·exact absurd h ha
 ·have e1:=congrArg Ty.data h2;have e2:=congrArg Ty.index h2;simp only[tyS] at e1 e2;omega
structure Dp (w:List Data):Prop where
 wt:WT w
 cl:ClosedT w
 four:w.length<=4
 ct:∀s,s<w.length*4->(zb5 w (tyS s)).length<=4
theorem zio:∀l:List Ctor,szL Ctor.sz l<=2*(ze6 l:Int)
 | []=>by simp[szL,ze6]
 |x::r=>by
  have ih:=zio r;simp only[szL,Ctor.sz,zns,ze6,zer,mTys,xab,xae,List.sum_cons] at ih ⊢;omega
theorem zfW:∀l:List Data,szL Data.sz l<=2*(zc4 l:Int)
 | []=>by simp[szL,zc4]
 |x::r=>by
  have ih:=zfW r;have h2:=zio x.ctors;simp only[szL,Data.sz,zc4,zes,xab,xae,List.sum_cons] at ih ⊢;omega
theorem zfX {w:List Data} (hs:WSmall w) (hv:zbp w=true):WT w:=WV.wt hs ((zeQ w).1 hv)
end Go.Proofs.YtlfipehhbdjnjaaGreat
namespace Go.Proofs.YtlfipehhbdjnjaaGreat
open Go
set_option linter.unusedSimpArgs false
set_option linter.unusedVariables false
set_option maxRecDepth 100000
set_option maxHeartbeats 4000000
theorem zen {p:Pat}{b1 b2 b3:Bool}{k:Int}:FnD Tryz.prog 305 [.agg [.d (.i p.op),.d (.i p.ctor),.d (.i p.n),.d (.i p.m),.d (.i p.var),.d (zaw p.kids)],.d (.bool b1),.d (.bool b2),.d (.bool b3),.d (.i k)] []
  (.d (.bool (decide ((b1=true\/p.ctor=0)/\(b2=true\/p.n=0/\p.m=0)/\(b3=true\/p.var=0)/\(p.kids.length:Int)=k)))) []:=by
 refine bd Tryz.f305 45 [] [1] fun w0 F0 own kept hk=>?_;refine bx 3005 ?_;refine ev ?_;refine xap ?_;refine xay 6 [(16,.d (.bool (decide (b1=true\/p.ctor=0))))] [11,12,13,14,15] ?_ ?_;refine ev ?_;refine sq ?_ ?_<;>intro h1 h1p h1s;focus (exact jn rfl (xat (by(first|rfl|(rw[Bool.eq_iff_iff];simp_all[Pat.cs_len];done)))))
 focus (exact jn rfl (xat (by(first|rfl|(rw[Bool.eq_iff_iff];simp_all[Pat.cs_len];done)))))
 refine xay 13 [(29,.d (.bool (decide ((b1=true\/p.ctor=0)/\(b2=true\/p.n=0/\p.m=0)))))] [17,18,19,20,21,22,23,24,25,26,27,28] ?_ ?_;refine ev ?_;refine sq ?_ ?_<;>intro h2 h2p h2s;refine sq ?_ ?_<;>intro h3 h3p h3s;focus (exact jn rfl (xat (by(first|rfl|(rw[Bool.eq_iff_iff];simp_all[Pat.cs_len];done)))))
 refine sq ?_ ?_<;>intro h4 h4p h4s;focus (exact jn rfl (xat (by(first|rfl|(rw[Bool.eq_iff_iff];simp_all[Pat.cs_len];done)))))
 focus (exact jn rfl (xat (by(first|rfl|(rw[Bool.eq_iff_iff];simp_all[Pat.cs_len];done)))))
 focus (exact jn rfl (xat (by(first|rfl|(rw[Bool.eq_iff_iff];simp_all[Pat.cs_len];done)))))
 refine xay 8 [(37,.d (.bool (decide ((b1=true\/p.ctor=0)/\(b2=true\/p.n=0/\p.m=0)/\(b3=true\/p.var=0)))))] [30,31,32,33,34,35,36] ?_ ?_;refine ev ?_;refine sq ?_ ?_<;>intro h5 h5p h5s;refine sq ?_ ?_<;>intro h6 h6p h6s;focus (exact jn rfl (xat (by(first|rfl|(rw[Bool.eq_iff_iff];simp_all[Pat.cs_len];done)))))
 focus (exact jn rfl (xat (by(first|rfl|(rw[Bool.eq_iff_iff];simp_all[Pat.cs_len];done)))))
 focus (exact jn rfl (xat (by(first|rfl|(rw[Bool.eq_iff_iff];simp_all[Pat.cs_len];done)))))
 refine xay 7 [(44,.d (.bool (decide ((b1=true\/p.ctor=0)/\(b2=true\/p.n=0/\p.m=0)/\(b3=true\/p.var=0)/\(p.kids.length:Int)=k))))] [38,39,40,41,42,43] ?_ ?_;refine ev ?_;refine sq ?_ ?_<;>intro h7 h7p h7s;focus (exact jn rfl (xat (by(first|rfl|(rw[Bool.eq_iff_iff];simp_all[Pat.cs_len];done)))))
 focus (exact jn rfl (xat (by(first|rfl|(rw[Bool.eq_iff_iff];simp_all[Pat.cs_len];done)))))
 refine xax ?_;refine ev ?_;refine rq ?_;rotate_left;all_goals (rfl)
theorem zeS {p:Pat}{k:Int}:FnD Tryz.prog 305 [.agg [.d (.i p.op),.d (.i p.ctor),.d (.i p.n),.d (.i p.m),.d (.i p.var),.d (zaw p.kids)],.d (.bool false),.d (.bool false),.d (.bool false),.d (.i k)] []
  (.d (.bool (decide (p.ctor=0/\(p.n=0/\p.m=0)/\p.var=0/\(p.kids.length:Int)=k)))) []:=by
 have:=zen (p:=p) (b1:=false) (b2:=false) (b3:=false) (k:=k);simpa only[Bool.false_eq_true,false_or] using this
theorem zeT {p:Pat}{k:Int}:FnD Tryz.prog 305 [.agg [.d (.i p.op),.d (.i p.ctor),.d (.i p.n),.d (.i p.m),.d (.i p.var),.d (zaw p.kids)],.d (.bool false),.d (.bool false),.d (.bool true),.d (.i k)] []
  (.d (.bool (decide (p.ctor=0/\(p.n=0/\p.m=0)/\(p.kids.length:Int)=k)))) []:=by
 have:=zen (p:=p) (b1:=false) (b2:=false) (b3:=true) (k:=k);simpa only[Bool.false_eq_true,false_or,true_or,true_and] using this
theorem ziW {p:Pat}{k:Int}:FnD Tryz.prog 305 [.agg [.d (.i p.op),.d (.i p.ctor),.d (.i p.n),.d (.i p.m),.d (.i p.var),.d (zaw p.kids)],.d (.bool false),.d (.bool true),.d (.bool false),.d (.i k)] []
  (.d (.bool (decide (p.ctor=0/\p.var=0/\(p.kids.length:Int)=k)))) []:=by
 have:=zen (p:=p) (b1:=false) (b2:=true) (b3:=false) (k:=k);simpa only[Bool.false_eq_true,false_or,true_or,true_and] using this
theorem zm3 {p:Pat}{k:Int}:FnD Tryz.prog 305 [.agg [.d (.i p.op),.d (.i p.ctor),.d (.i p.n),.d (.i p.m),.d (.i p.var),.d (zaw p.kids)],.d (.bool true),.d (.bool false),.d (.bool false),.d (.i k)] []
  (.d (.bool (decide ((p.n=0/\p.m=0)/\p.var=0/\(p.kids.length:Int)=k)))) []:=by
 have:=zen (p:=p) (b1:=true) (b2:=false) (b3:=false) (k:=k);simpa only[Bool.false_eq_true,false_or,true_or,true_and] using this
theorem zdW {v:Int}:FnD Tryz.prog 270 [.d (.i v)] [] (.d (.bool (zay v 0 5))) []:=by
 refine bd Tryz.f270 5 [] [] fun w0 F0 own kept hk=>?_;refine wc zcP (zaZ) rfl rfl ?_;refine ev ?_;refine rq ?_;rotate_left;all_goals (rfl)
theorem zgJ {w:List Data} (hw:WT w){a k:Int} (ht:TyIn w.length ⟨a,k⟩):FnD Tryz.prog 234 [.d (zao w),.agg [.d (.i a),.d (.i k)]] [] (.d (zcS (zbg w ⟨a,k⟩))) []:=by
 rcases ht with ha|⟨d,hd,hlt⟩
 ·simp only at ha;subst ha;rw[zfF];exact zhw
 ·simp only at hd;subst hd;rw[zgo];exact zdd hw hlt
theorem zjS {w:List Data} (hw:WT w){a k c:Int} (ht:TyIn w.length ⟨a,k⟩) (hc:c∈zbg w ⟨a,k⟩):FnD Tryz.prog 144 [.d (zao w),.agg [.d (.i a),.d (.i k)],.d (.i c)] [] (.d (za8 (zaN w ⟨a,k⟩ c))) []:=by
 obtain⟨d,rfl,h1,h2⟩:=zda ht hc;exact zd0 hw h1 h2
theorem zlI {w:List Data} (hw:WT w){a k:Int}{p:Pat} (ht:TyIn w.length ⟨a,k⟩):
  FnD Tryz.prog 236 [.d (zao w),.agg [.d (.i a),.d (.i k)],.agg [.d (.i p.op),.d (.i p.ctor),.d (.i p.n),.d (.i p.m),.d (.i p.var),.d (zaw p.kids)]] [] (.tup [.d (za8 (zcT w ⟨a,k⟩ p)),.d (.bool (okP w ⟨a,k⟩ p))]) []:=by
 have hcl:=zkA hw ht;have ty4:p.op=4->p.ctor∉zbg w ⟨a,k⟩->zcT w ⟨a,k⟩ p=[]:=fun h4 hm=>by unfold zcT;rw[if_pos ⟨h4,hm⟩]
 have ty4':p.op=4->p.ctor∈zbg w ⟨a,k⟩->zcT w ⟨a,k⟩ p=zaN w ⟨a,k⟩ p.ctor:=fun h4 hm=>by unfold zcT zag;rw[if_neg (fun h=>h.2 hm),if_pos h4]
 have ty5:p.op=5->zcT w ⟨a,k⟩ p=[⟨a,k⟩,⟨a,k⟩]:=fun h5=>by unfold zcT zag;rw[if_neg (by omega),if_neg (by omega),if_pos h5]
 have ty6:p.op=6->zcT w ⟨a,k⟩ p=[⟨a,k⟩]:=fun h6=>by unfold zcT zag;rw[if_neg (by omega),if_neg (by omega),if_neg (by omega),if_pos h6]
 have ty0:¬p.op=4->¬p.op=5->¬p.op=6->zcT w ⟨a,k⟩ p=[]:=fun h4 h5 h6=>by unfold zcT zag;rw[if_neg (fun h=>h4 h.1),if_neg h4,if_neg h5,if_neg h6]
 have ln4:p.op=4->(zag w ⟨a,k⟩ p).length=(zaN w ⟨a,k⟩ p.ctor).length:=fun h4=>by unfold zag;rw[if_pos h4]
 have ln5:p.op=5->(zag w ⟨a,k⟩ p).length=2:=fun h5=>by unfold zag;rw[if_neg (by omega),if_pos h5];rfl
 have ln6:p.op=6->(zag w ⟨a,k⟩ p).length=1:=fun h6=>by unfold zag;rw[if_neg (by omega),if_neg (by omega),if_pos h6];rfl
 have ln0:¬p.op=4->¬p.op=5->¬p.op=6->(zag w ⟨a,k⟩ p).length=0:=fun h4 h5 h6=>by unfold zag;rw[if_neg h4,if_neg h5,if_neg h6];rfl
 have okI:∀b:Bool,(b=true↔((((p.op=2\/p.op=6)->0<=p.var/\p.var<=5)/\(¬(p.op=2\/p.op=6)->p.var=0)/\(p.op≠3->p.n=0/\p.m=0)/\(p.op≠4->p.ctor=0)/\
   (p.op=1\/p.op=2\/p.op=5\/p.op=6\/(p.op=3/\a = -1/\0<=p.n/\p.n<=p.m/\p.m<=9)\/(p.op=4/\p.ctor∈zbg w ⟨a,k⟩)))/\p.kids.length=(zag w ⟨a,k⟩ p).length))->b=okP w ⟨a,k⟩ p:=fun b h=>by
  rw[Bool.eq_iff_iff,h];unfold okP ownP;simp only[xad,decide_eq_true_eq]
 by_cases hmem:p.ctor∈zbg w ⟨a,k⟩
 ·have hargs:=zjS hw ht hmem;have hal:(zaN w ⟨a,k⟩ p.ctor).length<=1000000000000:=by
   obtain⟨d,rfl,h1,h2⟩:=zda ht hmem;exact zfo hw h1 h2
  simp only[hmem,and_true] at okI;refine bd Tryz.f236 87 [] [5] fun w0 F0 own kept hk=>?_;refine bx 3004 ?_;refine bx 3005 ?_;refine ev ?_;refine sq ?_ ?_<;>intro h1 h1p h1s<;>(try simp only[Q] at h1p);refine wc zdm (zeS) rfl rfl ?_;refine ev ?_;refine rn0 (r2 rfl rfl) (.tup (.cons (.nild ?_) (.cons (.eqd ?_) .nil)));rotate_left 2;refine sq ?_ ?_<;>intro h2 h2p h2s<;>(try simp only[Q] at h2p);refine xap ?_;refine xay 7 [(23,.d (.bool (decide ((p.ctor=0/\(p.n=0/\p.m=0)/\(p.kids.length:Int)=0)/\0<=p.var/\p.var<=5))))] [17,18,19,20,21,22] ?_ ?_;refine ev ?_;refine wc zdm (zeT) rfl rfl ?_;refine ev ?_;refine sq ?_ ?_<;>intro h3 h3p h3s<;>(try simp only[Q] at h3p);refine Walk.call (cr:=[]) zjH (zdW) rfl (.some rfl rfl h3) rfl rfl (LeL.refl _) trivial rfl rfl rfl ?_;refine evs [] [(19,true)] ?_ ⟨⟨_,rfl,h3⟩,trivial⟩;exact jn rfl (xat (by(rw[Bool.eq_iff_iff];simp only[decide_eq_true_eq,zay,xad,Bool.false_eq_true,false_iff,true_iff];omega)));exact jn rfl (xat (by(rw[Bool.eq_iff_iff];simp only[decide_eq_true_eq,zay,xad,Bool.false_eq_true,false_iff,true_iff];omega)));refine xax ?_;refine ev ?_;refine rn0 (r2 rfl rfl) (.tup (.cons (.nild ?_) (.cons (.eqd ?_) .nil)));rotate_left 2;refine sq ?_ ?_<;>intro h4 h4p h4s<;>(try simp only[Q] at h4p);refine sq ?_ ?_<;>intro h5 h5p h5s<;>(try simp only[Q] at h5p);refine Walk.call (cr:=[]) zdm (ziW) rfl (.some rfl rfl h5) rfl rfl (LeL.refl _) trivial rfl rfl rfl ?_;refine evd [] [(29,true)] ?_ ⟨⟨_,rfl,h5⟩,trivial⟩;refine sq ?_ ?_<;>intro h6 h6p h6s<;>(try simp only[Q] at h6p);refine sq ?_ ?_<;>intro h7 h7p h7s<;>(try simp only[Q] at h7p);refine sq ?_ ?_<;>intro h8 h8p h8s<;>(try simp only[Q] at h8p);refine dr ?_;refine rn0 (r2 rfl rfl) (.tup (.cons (.nild ?_) (.cons (.eqd ?_) .nil)));rotate_left 2;refine dr ?_;refine rn0 (r2 rfl rfl) (.tup (.cons (.nild ?_) (.cons (.eqd ?_) .nil)));rotate_left 2;refine sqF ?_;refine dr ?_;refine rn0 (r2 rfl rfl) (.tup (.cons (.nild ?_) (.cons (.eqd ?_) .nil)));rotate_left 2;refine sqF ?_;refine sqF ?_;refine dr ?_;refine rn0 (r2 rfl rfl) (.tup (.cons (.nild ?_) (.cons (.eqd ?_) .nil)));rotate_left 2;refine sqF ?_;refine sqF ?_;refine sqF ?_;refine dr ?_;refine rn0 (r2 rfl rfl) (.tup (.cons (.nild ?_) (.cons (.eqd ?_) .nil)));rotate_left 2;refine sq ?_ ?_<;>intro h9 h9p h9s<;>(try simp only[Q] at h9p);refine wc zhF (zgJ hw ht) rfl rfl ?_;refine evd [] [] ?_;refine wc zhG (zbw hcl) rfl rfl ?_;refine evd [] [] ?_;refine dr ?_;refine sq ?_ ?_<;>intro h10 h10p h10s<;>(try simp only[Q] at h10p);exfalso;simp_all;refine wc zmc (hargs) rfl rfl ?_;refine ev ?_;refine wc zdm (zm3) rfl rfl ?_;refine ev ?_;refine rn0 (r2 rfl rfl) (.tup (.cons (.eqd ?_) (.cons (.eqd ?_) .nil)));rotate_left 2;refine sq ?_ ?_<;>intro h11 h11p h11s<;>(try simp only[Q] at h11p);refine si [0,1] [_,_] zaV tz25 ?_;refine evd [] [] ?_;refine wc zdm (zeS) rfl rfl ?_;refine evd [] [] ?_;refine dr ?_;refine rn0 (r2 rfl rfl) (.tup (.cons (.eqd ?_) (.cons (.eqd ?_) .nil)));rotate_left 2;refine sq ?_ ?_<;>intro h12 h12p h12s<;>(try simp only[Q] at h12p);refine si [0] [_] zaV tz25 ?_;refine evd [] [] ?_;refine wc zdm (zeT) rfl rfl ?_;refine evd [] [] ?_;refine sq ?_ ?_<;>intro h13 h13p h13s<;>(try simp only[Q] at h13p);refine Walk.call (cr:=[]) zjH (zdW) rfl (.some rfl rfl h13) rfl rfl (LeL.refl _) trivial rfl rfl rfl ?_;refine evd [] [(82,true)] ?_ ⟨⟨_,rfl,h13⟩,trivial⟩;refine dr ?_;refine rn0 (r2 rfl rfl) (.tup (.cons (.eqd ?_) (.cons (.eqd ?_) .nil)));rotate_left 2;refine dr ?_;refine rn0 (r2 rfl rfl) (.tup (.cons (.eqd ?_) (.cons (.eqd ?_) .nil)));rotate_left 2;refine rn0 (r2 rfl rfl) (.tup (.cons (.nild ?_) (.cons (.eqd ?_) .nil)));rotate_left 2;all_goals (first|(refine congrArg D.bool (okI _ ?_);(try simp only[decide_eq_true_eq,Bool.false_eq_true,zay,xad,xac,true_iff,false_iff]);omega)|(rw[ty0 (by omega) (by omega) (by omega)];first|done|rfl)|(rw[ty5 (by omega)];first|done|rfl)|(rw[ty6 (by omega)];first|done|rfl)|(rw[ty4' (by omega) hmem];first|done|rfl))
 ·simp only[hmem,and_false,or_false] at okI;refine bd Tryz.f236 87 [] [5] fun w0 F0 own kept hk=>?_;refine bx 3004 ?_;refine bx 3005 ?_;refine ev ?_;refine sq ?_ ?_<;>intro h1 h1p h1s<;>(try simp only[Q] at h1p);refine wc zdm (zeS) rfl rfl ?_;refine ev ?_;refine rn0 (r2 rfl rfl) (.tup (.cons (.nild ?_) (.cons (.eqd ?_) .nil)));rotate_left 2;refine sq ?_ ?_<;>intro h2 h2p h2s<;>(try simp only[Q] at h2p);refine xap ?_;refine xay 7 [(23,.d (.bool (decide ((p.ctor=0/\(p.n=0/\p.m=0)/\(p.kids.length:Int)=0)/\0<=p.var/\p.var<=5))))] [17,18,19,20,21,22] ?_ ?_;refine ev ?_;refine wc zdm (zeT) rfl rfl ?_;refine ev ?_;refine sq ?_ ?_<;>intro h3 h3p h3s<;>(try simp only[Q] at h3p);refine Walk.call (cr:=[]) zjH (zdW) rfl (.some rfl rfl h3) rfl rfl (LeL.refl _) trivial rfl rfl rfl ?_;refine evs [] [(19,true)] ?_ ⟨⟨_,rfl,h3⟩,trivial⟩;exact jn rfl (xat (by(rw[Bool.eq_iff_iff];simp only[decide_eq_true_eq,zay,xad,Bool.false_eq_true,false_iff,true_iff];omega)));exact jn rfl (xat (by(rw[Bool.eq_iff_iff];simp only[decide_eq_true_eq,zay,xad,Bool.false_eq_true,false_iff,true_iff];omega)));refine xax ?_;refine ev ?_;refine rn0 (r2 rfl rfl) (.tup (.cons (.nild ?_) (.cons (.eqd ?_) .nil)));rotate_left 2;refine sq ?_ ?_<;>intro h4 h4p h4s<;>(try simp only[Q] at h4p);refine sq ?_ ?_<;>intro h5 h5p h5s<;>(try simp only[Q] at h5p);refine Walk.call (cr:=[]) zdm (ziW) rfl (.some rfl rfl h5) rfl rfl (LeL.refl _) trivial rfl rfl rfl ?_;refine evd [] [(29,true)] ?_ ⟨⟨_,rfl,h5⟩,trivial⟩;refine sq ?_ ?_<;>intro h6 h6p h6s<;>(try simp only[Q] at h6p);refine sq ?_ ?_<;>intro h7 h7p h7s<;>(try simp only[Q] at h7p);refine sq ?_ ?_<;>intro h8 h8p h8s<;>(try simp only[Q] at h8p);refine dr ?_;refine rn0 (r2 rfl rfl) (.tup (.cons (.nild ?_) (.cons (.eqd ?_) .nil)));rotate_left 2;refine dr ?_;refine rn0 (r2 rfl rfl) (.tup (.cons (.nild ?_) (.cons (.eqd ?_) .nil)));rotate_left 2;refine sqF ?_;refine dr ?_;refine rn0 (r2 rfl rfl) (.tup (.cons (.nild ?_) (.cons (.eqd ?_) .nil)));rotate_left 2;refine sqF ?_;refine sqF ?_;refine dr ?_;refine rn0 (r2 rfl rfl) (.tup (.cons (.nild ?_) (.cons (.eqd ?_) .nil)));rotate_left 2;refine sqF ?_;refine sqF ?_;refine sqF ?_;refine dr ?_;refine rn0 (r2 rfl rfl) (.tup (.cons (.nild ?_) (.cons (.eqd ?_) .nil)));rotate_left 2;refine sq ?_ ?_<;>intro h9 h9p h9s<;>(try simp only[Q] at h9p);refine wc zhF (zgJ hw ht) rfl rfl ?_;refine evd [] [] ?_;refine wc zhG (zbw hcl) rfl rfl ?_;refine evd [] [] ?_;refine dr ?_;refine sq ?_ ?_<;>intro h10 h10p h10s<;>(try simp only[Q] at h10p);refine rn0 (r2 rfl rfl) (.tup (.cons (.nild ?_) (.cons (.eqd ?_) .nil)));rotate_left 2;exfalso;simp_all;refine sq ?_ ?_<;>intro h11 h11p h11s<;>(try simp only[Q] at h11p);refine si [0,1] [_,_] zaV tz25 ?_;refine evd [] [] ?_;refine wc zdm (zeS) rfl rfl ?_;refine evd [] [] ?_;refine dr ?_;refine rn0 (r2 rfl rfl) (.tup (.cons (.eqd ?_) (.cons (.eqd ?_) .nil)));rotate_left 2;refine sq ?_ ?_<;>intro h12 h12p h12s<;>(try simp only[Q] at h12p);refine si [0] [_] zaV tz25 ?_;refine evd [] [] ?_;refine wc zdm (zeT) rfl rfl ?_;refine evd [] [] ?_;refine sq ?_ ?_<;>intro h13 h13p h13s<;>(try simp only[Q] at h13p);refine Walk.call (cr:=[]) zjH (zdW) rfl (.some rfl rfl h13) rfl rfl (LeL.refl _) trivial rfl rfl rfl ?_;refine evd [] [(82,true)] ?_ ⟨⟨_,rfl,h13⟩,trivial⟩;refine dr ?_;refine rn0 (r2 rfl rfl) (.tup (.cons (.eqd ?_) (.cons (.eqd ?_) .nil)));rotate_left 2;refine dr ?_;refine rn0 (r2 rfl rfl) (.tup (.cons (.eqd ?_) (.cons (.eqd ?_) .nil)));rotate_left 2;refine rn0 (r2 rfl rfl) (.tup (.cons (.nild ?_) (.cons (.eqd ?_) .nil)));rotate_left 2;all_goals (first|(refine congrArg D.bool (okI _ ?_);(try simp only[decide_eq_true_eq,Bool.false_eq_true,zay,xad,xac,true_iff,false_iff]);omega)|(rw[ty0 (by omega) (by omega) (by omega)];first|done|rfl)|(rw[ty5 (by omega)];first|done|rfl)|(rw[ty6 (by omega)];first|done|rfl)|(rw[ty4 (by omega) hmem];first|done|rfl))
theorem zoS {t u:Vt}:t=u↔t.var=u.var/\t.ty.data=u.ty.data/\t.ty.index=u.ty.index:=by
 rcases t with ⟨a,b,c⟩;rcases u with ⟨d,e,f⟩;simp
def znA (l:List Vt) (v:Vt):Int:=idxF (fun x=>decide (v=x)) l 0
theorem zif {l:List Vt}{v:Vt} (h:l.length<=1000000000000):FnD Tryz.prog 350 [.d (zco l),.agg [.d (.i v.var),.d (.i v.ty.data),.d (.i v.ty.index)]] [] (.d (.i (znA l v))) []:=by
 refine bd Tryz.f350 19 [16] [] fun w0 F0 own kept hk=>?_;refine bx 3003 ?_;refine evs [16] [] ?_;refine xam (ι:=List (Vt)×List (Vt)) hk (fun x=>[(8,.d (.i (x.1.length:Int)))]) [4,5,9,10,11,12,13,14,15,16,17,18] (fun x=>[]) (fun x=>x.1++x.2=l/\idxF (fun x=>decide (v=x)) x.2 x.1.length=idxF (fun x=>decide (v=x)) l 0) (fun x=>x.2.length) ([],l) ⟨by simp,rfl⟩ ⟨⟨_,rfl,xau ?_⟩,trivial⟩ trivial (fun x=>rfl) (fun x hg1=>?_);focus (first|rfl|omega)
 obtain⟨pre,rest⟩:=x;dsimp only at hg1 ⊢;refine evc [16] [] ?_;refine sq ?_ ?_<;>intro h1 h1p h1s<;>(try simp only[Q] at h1p);rcases rest with _|⟨y,rest⟩
 ·exfalso;simp_all
 refine xaK zcK .none rfl rfl rfl rfl (zaW hg1.1) rfl ?_;refine evd [16] [] ?_;refine Walk.eqV2 zri .none rfl rfl rfl rfl rfl ?_;refine dr ?_;refine sq ?_ ?_<;>intro h2 h2p h2s<;>(try simp only[Q] at h2p);refine rq ?_;rotate_left;refine ar ?_;refine xah ((pre++[y],rest)) ⟨⟨(by have hz:=hg1.1;rw[<-hz];simp),(by rw[<-hg1.2];simp[idxF];simp_all[zoS])⟩,(by simp),sx ⟨⟨_,rfl,xau ?_⟩,trivial⟩ trivial⟩;focus (first|rfl|(simp;done)|omega)
 have hrest:rest=[]:=by
  rcases rest with _|⟨a,b⟩
  ·rfl
  ·exfalso;have hz:=congrArg List.length (hg1.1);simp only[xaa,xab,xac] at hz;omega
 subst hrest;refine rq ?_;rotate_left;all_goals (unfold znA;rw[<-hg1.2];simp_all[idxF,zoS])
theorem zeb {l:List Vt}{v:Vt} (h:l.length<=1000000000000):FnD Tryz.prog 294 [.d (zco l),.agg [.d (.i v.var),.d (.i v.ty.data),.d (.i v.ty.index)]] [] (.d (.bool (decide (v∈l)))) []:=by
 refine bd Tryz.f294 9 [] [] fun w0 F0 own kept hk=>?_;refine bx 3003 ?_;refine ev ?_;refine wc zqR (zif h) rfl rfl ?_;refine ev ?_;refine rq ?_;rotate_left;all_goals (refine congrArg D.bool ?_;rw[show znA l v=idxF (fun x=>decide (v=x)) l 0 from rfl,zeH];simp[List.any_eq,eq_comm])
theorem zgx {xs:List Vt}{f:Nat}{caps:List AV}{hp:Hp}{p:Vt->Bool} (hs:xs.length<=1000000000000) (hcal:Callee Tryz.prog f)
  (hf:∀t∈xs,FnD Tryz.prog f ([.agg [.d (.i t.var),.d (.i t.ty.data),.d (.i t.ty.index)]]++caps) hp (.d (.bool (p t))) []) (k1:subH hp hp) (k2:zdG hp=true) (k3:zam hp [] (.d .nilp) []=true):
  FnD Tryz.prog 388 [.d (zco xs),.fn f caps] hp (.d (.i (idxF p xs 0))) []:=by
 refine bd Tryz.f388 19 [] [] fun w0 F0 own kept hk=>?_;refine xam (ι:=List (Vt)×List (Vt)) hk (fun x=>[(8,.d (.i (x.1.length:Int)))]) [4,5,9,10,11,12,13,14,15,16,17,18] (fun x=>[]) (fun x=>x.1++x.2=xs/\idxF p x.2 x.1.length=idxF p xs 0) (fun x=>x.2.length) ([],xs) ⟨by simp,rfl⟩ ⟨⟨_,rfl,xau ?_⟩,trivial⟩ trivial (fun x=>zfq hp) (fun x hg1=>?_);focus (first|rfl|omega)
 obtain⟨pre,rest⟩:=x;dsimp only at hg1 ⊢;refine evc [] [] ?_;refine sq ?_ ?_<;>intro h1 h1p h1s<;>(try simp only[Q] at h1p);rcases rest with _|⟨y,rest⟩
 ·exfalso;simp_all
 refine xaK zcK .none rfl rfl rfl rfl (zaW hg1.1) rfl ?_;refine ev ?_;refine xaG (cr:=[]) hcal (hf y (by rw[<-hg1.1];simp)) rfl .none rfl rfl rfl (LeL.refl _) k1 k2 (zd3 k3 _) rfl ?_;refine tv ?_;refine sq ?_ ?_<;>intro h2 h2p h2s<;>(try simp only[Q] at h2p);focus (refine rn [] (r1 rfl) (.eqd ?_) ⟨rfl,rfl⟩ (fun _ _ h=>h) (fun _ h=>h);all_goals (rw[<-hg1.2];simp[idxF,h1s,h1p,h2s,h2p]))
 refine ar ?_;refine xah ((pre++[y],rest)) ⟨⟨(by have hz:=hg1.1;rw[<-hz];simp),(by rw[<-hg1.2];simp[idxF,h2s])⟩,(by simp),Sub.x (by kernel_rfl) (by kernel_rfl) ⟨⟨_,rfl,xau ?_⟩,trivial⟩ (by simp) (by simp[zcQ]) trivial⟩;focus (first|rfl|(simp;done)|omega)
 have hrest:rest=[]:=by
  rcases rest with _|⟨a,b⟩
  ·rfl
  ·exfalso;have hz:=congrArg List.length (hg1.1);simp only[xaa,xab,xac] at hz;omega
 subst hrest;focus (refine rn [] (r1 rfl) (.eqd ?_) ⟨rfl,rfl⟩ (fun _ _ h=>h) (fun _ h=>h);all_goals (rw[<-hg1.2];simp[idxF,h1s,h1p]))
theorem zfB {xs:List Vt}{f:Nat}{caps:List AV}{hp:Hp}{p:Vt->Bool} (hs:xs.length<=1000000000000) (hcal:Callee Tryz.prog f)
  (hf:∀t∈xs,FnD Tryz.prog f ([.agg [.d (.i t.var),.d (.i t.ty.data),.d (.i t.ty.index)]]++caps) hp (.d (.bool (p t))) []) (k1:subH hp hp) (k2:zdG hp=true) (k3:zam hp [] (.d .nilp) []=true):
  FnD Tryz.prog 375 [.d (zco xs),.fn f caps] hp (.d (.bool (xs.any p))) []:=by
 refine bd Tryz.f375 9 [] [] fun w0 F0 own kept hk=>?_;refine Walk.call (cr:=[]) zqW (zgx hs hcal hf k1 k2 k3) rfl .none rfl rfl (LeL.refl _) k1 k2 (zd3 k3 _) rfl ?_;refine ev ?_;refine rn [] (r1 rfl) (.eqd ?_) ⟨rfl,rfl⟩ (fun _ _ h=>h) (fun _ h=>h);rotate_left;all_goals (exact congrArg D.bool (zeH p xs 0))
theorem zhR {b:List Vt}{v:Vt} (h:b.length<=1000000000000):FnD Tryz.prog 376 [.agg [.d (.i v.var),.d (.i v.ty.data),.d (.i v.ty.index)],.ref 3003 0] [(3003,some (.box [.d (zco b)]))] (.d (.bool (!decide (v∈b)))) []:=by
 refine bd Tryz.f376 8 [] [] fun w0 F0 own kept hk=>?_;refine bx 3001 ?_;refine ev ?_;refine wc zn9 (zeb h) rfl rfl ?_;refine ev ?_;refine rn [] (r1 rfl) (.eqd ?_) ⟨rfl,rfl⟩ (SubH.get ⟨rfl,trivial⟩) (fun _ h=>h);rotate_left;all_goals (rfl)
theorem zfS {x y:List Vt} (hx:x.length<=1000000000000) (hy:y.length<=1000000000000):FnD Tryz.prog 349 [.d (zco x),.d (zco y)] [] (.d (.bool (zc7 x y))) []:=by
 refine bd Tryz.f349 16 [] [] fun w0 F0 own kept hk=>?_;refine bx 3003 ?_;refine ev ?_;refine sq ?_ ?_<;>intro h1 h1p h1s;refine xaH (xs:=[_]) rfl (.some rfl rfl h1) rfl rfl ?_;refine Walk.call (cr:=[]) zqU (zfB (p:=fun v=> !decide (v∈y)) hx zqV (fun t _=>zhR hy) ⟨rfl,trivial⟩ rfl rfl) rfl (.some rfl rfl h1) rfl rfl (LeL.refl _) ⟨rfl,trivial⟩ rfl rfl rfl ?_;refine evs [] [(10,true)] ?_ ⟨⟨_,rfl,h1⟩,trivial⟩;refine rq ?_;rotate_left;refine rq ?_;rotate_left;all_goals (refine congrArg D.bool ?_;unfold zc7;first|(simp_all;done)|(simp_all;intro hz;omega))
def metA (s:List Int):List AV:=(List.range 6).map fun(i:Nat)=> .d (.bool (decide ((i:Int)∈s)))
theorem zmB {s:List Int}{v:Int} (h0:0<=v) (h1:v<=5):(metA s)[v.toNat]?=some (.d (.bool (decide (v∈s)))):=by
 unfold metA;rw[List.getElem?_map,List.getElem?_range (by omega)];simp only[Option.map_some];rw[Int.toNat_of_nonneg h0]
theorem zmC {s:List Int}{v:Int} (h0:0<=v) (h1:v<=5):putC (metA s) v.toNat [.d (.bool true)]=some (metA (s++[v])):=by
 have e:v=0\/v=1\/v=2\/v=3\/v=4\/v=5:=by omega
 rcases e with rfl|rfl|rfl|rfl|rfl|rfl<;>simp[metA,putC,List.range_succ]
theorem zoz (t:Ty) (p:Pat):(zaF t p).length<=1:=by unfold zaF;split<;>simp
theorem zh5:∀ {a b:List Int},a.Nodup->(∀x∈a,x∈b)->a.length<=b.length
 | [],b,_,_=>by simp
 |x::r,b,hn,hs=>by
  have hn':=List.nodup_cons.1 hn;have hx:=hs x (by simp);have h:=zh5 (a:=r) (b:=b.erase x) hn'.2 (fun y hy=>by
   have hne:y≠x:=fun e=>hn'.1 (e ▸ hy);exact(List.mem_erase_of_ne hne).2 (hs y (by simp[hy])))
  rw[List.length_erase_of_mem hx] at h;have:=List.length_pos_of_mem hx;simp only[xab];omega
def InR (l:List Vt):Prop:=∀v∈l,0<=v.var/\v.var<=5
theorem zlq {l:List Vt} (h:InR l) (hn:zbI l=true):l.length<=6:=by
 unfold zbI at hn;have h1:=of_decide_eq_true hn;have h2:∀x∈l.map Vt.var,x∈[(0:Int),1,2,3,4,5]:=fun x hx=>by
  obtain⟨v,hv,rfl⟩:=List.mem_map.1 hx;have:=h v hv;simp only[List.mem_cons,List.not_mem_nil,or_false];omega
 have:=zh5 h1 h2;simpa using this
theorem zjw {g:Ty->Pat->Int->Option (List Vt)×Int}{or:Bool} (hg:∀t p c l,(g t p c).1=some l->InR l):∀(a:List Ty) (b:List Pat) (i:Nat) (acc:List Vt) (c:Int) (l:List Vt),InR acc->(za3 g or a b i acc c).1=some l->InR l
 | [],b,i,acc,c,l,ha,h=>by simp only[za3,Option.some.injEq] at h;subst h;exact ha
 |_::_,[],i,acc,c,l,ha,h=>by simp only[za3,Option.some.injEq] at h;subst h;exact ha
 |x::r,y::s,i,acc,c,l,ha,h=>by
  simp only[za3] at h;cases hh:(g x y c).1 with
  |none=>rw[hh] at h;cases h
  |some m=>
   rw[hh] at h;simp only at h;split at h
   ·split at h
    ·exact zjw hg r s (i+1) acc _ l ha h
    ·cases h
   ·refine zjw hg r s (i+1) _ _ l (fun v hv=>?_) h;rcases List.mem_append.1 hv with hv|hv
    ·exact ha v hv
    ·exact hg x y c m hh v hv
theorem zhc (w:List Data):∀(n:Nat) (t:Ty) (p:Pat) (c:Int) (l:List Vt),(zaI w n t p c).1=some l->InR l/\zbI l=true
 |0,t,p,c,l,h=>by simp[zaI] at h
 |n+1,t,p,c,l,h=>by
  unfold zaI at h;split at h
  ·cases h
  ·split at h
   ·rename_i h60 ho;have ho':ownP w t p=true:=by unfold okP at ho;simp only[xad] at ho;exact ho.1
    cases hk:(za3 (zaI w n) (decide (p.op=5)) (zag w t p) p.kids 0 (zaF t p) (c+1)).1 with
    |none=>unfold finV at h;rw[hk] at h;simp only at h;rw[hk] at h;cases h
    |some m=>
     have hi:InR m:=zjw (fun t p c l h=>(zhc w n t p c l h).1) _ _ _ _ _ m (fun v hv=>by
      unfold zaF at hv;split at hv
      ·rename_i hop;simp only[List.mem_cons,List.not_mem_nil,or_false] at hv;subst hv;exact zmE ho' hop
      ·simp at hv) hk
     unfold finV at h;rw[hk] at h;simp only at h;split at h
     ·rename_i hn;rw[hk] at h;cases h
      exact⟨hi,hn⟩
     ·cases h
   ·cases h
theorem zpd (w:List Data) (n:Nat) (t:Ty) (p:Pat) (c:Int) (h:(zaI w n t p c).1.isSome=true):c+1<=(zaI w n t p c).2/\(zaI w n t p c).2<=60:=by
 have h1:=zdu w n t p c;by_cases hw:zbh w n t p c=true
 ·have h2:=h1.2 hw;simp only[zbh,xad,decide_eq_true_eq] at hw;have:=Pat.size_eq p;omega
 ·rw[if_neg hw] at h1;rw[h1.1] at h;cases h
def zcL (o:Option (List Vt)):List Vt:=o.getD []
theorem znF {g:Ty->Pat->Int->Option (List Vt)×Int}{or:Bool}{a:List Ty}{b:List Pat}{i:Nat}{acc:List Vt}{c:Int} (ha:i<a.length) (hl:b.length=a.length) (h:(g (nth a i) (nth b i) c).1.isSome=false):
  za3 g or (a.drop i) (b.drop i) i acc c=(none,(g (nth a i) (nth b i) c).2):=by
 rw[zaS ha,zaS (l:=b) (by omega),za3];cases hh:(g (nth a i) (nth b i) c).1 with
 |none=>rfl
 |some l=>rw[hh] at h;cases h
theorem zoF {g:Ty->Pat->Int->Option (List Vt)×Int}{or:Bool}{a:List Ty}{b:List Pat}{i:Nat}{acc:List Vt}{c:Int} (ha:i<a.length) (hl:b.length=a.length) (h:(g (nth a i) (nth b i) c).1.isSome=true) (ho:or=true/\i=1) (hs:zc7 acc (zcL (g (nth a i) (nth b i) c).1)=false):
  za3 g or (a.drop i) (b.drop i) i acc c=(none,(g (nth a i) (nth b i) c).2):=by
 rw[zaS ha,zaS (l:=b) (by omega),za3];cases hh:(g (nth a i) (nth b i) c).1 with
 |none=>rfl
 |some l=>rw[hh] at hs;simp only[zcL,Option.getD_some] at hs;simp only[if_pos ho,hs,Bool.false_eq_true,if_false]
theorem znE {g:Ty->Pat->Int->Option (List Vt)×Int}{or:Bool}{a:List Ty}{b:List Pat}{i:Nat}{acc:List Vt}{c:Int} (ha:i<a.length) (hl:b.length=a.length) (h:(g (nth a i) (nth b i) c).1.isSome=true) (hs:(or=true/\i=1)->zc7 acc (zcL (g (nth a i) (nth b i) c).1)=true):
  za3 g or (a.drop i) (b.drop i) i acc c=za3 g or (a.drop (i+1)) (b.drop (i+1)) (i+1) (if or=true/\i=1 then acc else acc++zcL (g (nth a i) (nth b i) c).1) (g (nth a i) (nth b i) c).2:=by
 rw[zaS ha,zaS (l:=b) (by omega),za3];cases hh:(g (nth a i) (nth b i) c).1 with
 |none=>rw[hh] at h;cases h
 |some l=>
  by_cases ho:or=true/\i=1
  ·have:=hs ho;rw[hh] at this;simp only[zcL,Option.getD_some] at this;simp only[if_pos ho,this,if_true]
  ·simp only[if_neg ho,zcL,Option.getD_some]
theorem zoG {g:Ty->Pat->Int->Option (List Vt)×Int}{or:Bool}{a:List Ty}{b:List Pat}{i:Nat}{acc:List Vt}{c:Int} (ha:a.length<=i):za3 g or (a.drop i) (b.drop i) i acc c=(some acc,c):=by
 rw[List.drop_eq_nil_of_le ha,za3];intro a r b s h;cases h
theorem zeM (w:List Data) (n:Nat) (t:Ty) (p:Pat) (c:Int):InR (zcL (zaI w n t p c).1)/\(zcL (zaI w n t p c).1).length<=6:=by
 cases h:(zaI w n t p c).1 with
 |none=>exact⟨fun v hv=>by simp[zcL] at hv,by simp[zcL]⟩
 |some l=>
  have:=zhc w n t p c l h;exact⟨this.1,zlq this.1 this.2⟩
structure GoodS (w:List Data) (n:Nat) (t:Ty) (p:Pat) (c:Int) (x:Nat×List Vt×Int):Prop where
 le:x.1<=p.kids.length
 eq:za3 (zaI w n) (decide (p.op=5)) ((zag w t p).drop x.1) (p.kids.drop x.1) x.1 x.2.1 x.2.2=za3 (zaI w n) (decide (p.op=5)) (zag w t p) p.kids 0 (zaF t p) (c+1)
 lc:(x.1:Int)<=x.2.2
 c0:0<=x.2.2
 c1:x.2.2<=60
 len:x.2.1.length<=1+6*x.1
 inr:InR x.2.1
def zbW (w:List Data) (n:Nat) (t:Ty) (p:Pat) (x:Nat×List Vt×Int):Nat×List Vt×Int:=
 (x.1+1,if decide (p.op=5)=true/\x.1=1 then x.2.1 else x.2.1++zcL (zaI w n (nth (zag w t p) x.1) (nth p.kids x.1) x.2.2).1,(zaI w n (nth (zag w t p) x.1) (nth p.kids x.1) x.2.2).2)
theorem GoodS.next {w:List Data}{n:Nat}{t:Ty}{p:Pat}{c:Int}{x:Nat×List Vt×Int} (hl:p.kids.length=(zag w t p).length) (hg:GoodS w n t p c x) (hlt:x.1<p.kids.length)
  (hz:(zaI w n (nth (zag w t p) x.1) (nth p.kids x.1) x.2.2).1.isSome=true) (hs:(decide (p.op=5)=true/\x.1=1)->zc7 x.2.1 (zcL (zaI w n (nth (zag w t p) x.1) (nth p.kids x.1) x.2.2).1)=true):
  GoodS w n t p c (zbW w n t p x):=by
 obtain⟨h1,h2,h3,h4,h5,h6,h7⟩:=hg;have hb:=zpd w n _ _ _ hz;have ho:=zeM w n (nth (zag w t p) x.1) (nth p.kids x.1) x.2.2;refine⟨by unfold zbW;dsimp only;omega, ?_,by unfold zbW;dsimp only;omega,by unfold zbW;dsimp only;omega,by unfold zbW;dsimp only;omega, ?_, ?_⟩
 ·rw[<-h2,znE (by omega) hl hz hs];rfl
 ·unfold zbW;dsimp only;split
  ·omega
  ·rw[xaa];omega
 ·unfold zbW;dsimp only;split
  ·exact h7
  ·intro v hv;rcases List.mem_append.1 hv with hv|hv
   ·exact h7 v hv
   ·exact ho.1 v hv
theorem GoodS.none {w:List Data}{n:Nat}{t:Ty}{p:Pat}{c:Int}{x:Nat×List Vt×Int} (hl:p.kids.length=(zag w t p).length) (hg:GoodS w n t p c x) (hlt:x.1<p.kids.length)
  (hz:(zaI w n (nth (zag w t p) x.1) (nth p.kids x.1) x.2.2).1.isSome=false):
  finV (za3 (zaI w n) (decide (p.op=5)) (zag w t p) p.kids 0 (zaF t p) (c+1))=(none,(zaI w n (nth (zag w t p) x.1) (nth p.kids x.1) x.2.2).2):=by
 rw[<-hg.eq,znF (by omega) hl hz];rfl
theorem GoodS.bad {w:List Data}{n:Nat}{t:Ty}{p:Pat}{c:Int}{x:Nat×List Vt×Int} (hl:p.kids.length=(zag w t p).length) (hg:GoodS w n t p c x) (hlt:x.1<p.kids.length)
  (hz:(zaI w n (nth (zag w t p) x.1) (nth p.kids x.1) x.2.2).1.isSome=true) (ho:p.op=5/\x.1=1) (hs:zc7 x.2.1 (zcL (zaI w n (nth (zag w t p) x.1) (nth p.kids x.1) x.2.2).1)=false):
  finV (za3 (zaI w n) (decide (p.op=5)) (zag w t p) p.kids 0 (zaF t p) (c+1))=(Option.none,(zaI w n (nth (zag w t p) x.1) (nth p.kids x.1) x.2.2).2):=by
 rw[<-hg.eq,zoF (by omega) hl hz (by simpa using ho) hs];rfl
theorem GoodS.fin {w:List Data}{n:Nat}{t:Ty}{p:Pat}{c:Int}{x:Nat×List Vt×Int} (hl:p.kids.length=(zag w t p).length) (hg:GoodS w n t p c x) (hge:p.kids.length<=x.1):
  finV (za3 (zaI w n) (decide (p.op=5)) (zag w t p) p.kids 0 (zaF t p) (c+1))=(if zbI x.2.1=true then some x.2.1 else Option.none,x.2.2):=by
 rw[<-hg.eq,zoG (by omega)];unfold finV;simp only;split<;>rfl
theorem zoA {pre rest l:List Vt}{y:Vt} (h:pre++y::rest=l) (hm:y.var∈pre.map Vt.var):zbI l=false:=by
 unfold zbI;refine decide_eq_false (fun hn=>?_);rw[<-h,xaf,xae,List.nodup_append] at hn;exact hn.2.2 _ hm _ (by simp) rfl
theorem zkb {pre:List Vt}{y:Vt} (h:(pre.map Vt.var).Nodup) (hm:y.var∉pre.map Vt.var):((pre++[y]).map Vt.var).Nodup:=by
 rw[xaf,List.nodup_append];exact⟨h,by simp,fun a ha b hb=>by simp at hb;subst hb;exact fun e=>hm (e ▸ ha)⟩
def retV (r:Option (List Vt)×Int):AV:= .tup [.d (zco (zcL r.1)),.d (.bool r.1.isSome)]
theorem zdb {w:List Data} (hw:WT w):∀(n:Nat){a k d c:Int}{p:Pat},d+n=11->n<=10->TyIn w.length ⟨a,k⟩->p.ok->0<=c->c<=1000000000000->
  FnD Tryz.prog 293 [.d (zao w),.agg [.d (.i a),.d (.i k)],.agg [.d (.i p.op),.d (.i p.ctor),.d (.i p.n),.d (.i p.m),.d (.i p.var),.d (zaw p.kids)],.d (.i d),.ref 950 0] [(950,some (.box [.d (.i c)]))]
   (retV (zaI w n ⟨a,k⟩ p c)) [(950,some (.box [.d (.i (zaI w n ⟨a,k⟩ p c).2)]))]
 |0,a,k,d,c,p,hd,_,_,_,c0,c1=>by
  refine bd Tryz.f293 114 [] [2] fun w0 F0 own kept hk=>?_;refine bx 3006 ?_;refine bx 3007 ?_;refine ev ?_;refine ar ?_;refine so ty3 ?_;refine tv ?_;refine xap ?_;refine xay 8 [(34,.d (.bool (true)))] [27,28,29,30,31,32,33] ?_ ?_;refine ev ?_;refine sq ?_ ?_<;>intro h1 h1p h1s;exact jnb rfl;exact jnb rfl;refine xax ?_;refine tv ?_;refine sq ?_ ?_<;>intro h2 h2p h2s;refine rn [(950,some (.box [.d (.i (zaI w 0 ⟨a,k⟩ p c).2)]))] (r2 rfl rfl) (.tup (.cons (.nild ?_) (.cons (.eqd ?_) .nil))) ⟨rfl,rfl⟩ (SubO.get ⟨.inr ?_,⟨.inl rfl,trivial⟩⟩) (zaE rfl);rotate_left 3;exact absurd h2 (by simp);all_goals (first|((rfl);done)|(rfl))
 |n+1,a,k,d,c,p,hd,hn,ht,hok,c0,c1=>by
  by_cases h60:60<c+1
  ·have e:zaI w (n+1) ⟨a,k⟩ p c=(none,c+1):=by unfold zaI;rw[if_pos h60]
   rw[e];refine bd Tryz.f293 114 [] [2] fun w0 F0 own kept hk=>?_;refine bx 3006 ?_;refine bx 3007 ?_;refine ev ?_;refine ar ?_;refine so ty3 ?_;refine tv ?_;refine xap ?_;refine xay 8 [(34,.d (.bool (true)))] [27,28,29,30,31,32,33] ?_ ?_;refine ev ?_;refine sq ?_ ?_<;>intro h1 h1p h1s;exact jnb rfl;exact jnb rfl;refine xax ?_;refine tv ?_;refine sq ?_ ?_<;>intro h2 h2p h2s;refine rn [(950,some (.box [.d (.i (c+1))]))] (r2 rfl rfl) (.tup (.cons (.nild ?_) (.cons (.eqd ?_) .nil))) ⟨rfl,rfl⟩ (SubO.get ⟨.inr ?_,⟨.inl rfl,trivial⟩⟩) (zaE rfl);rotate_left 3;exact absurd h2 (by simp);all_goals (first|((rfl);done)|(rfl))
  have hsh:=zlI hw (p:=p) ht;by_cases hop:okP w ⟨a,k⟩ p=true
  ·have hok':=hok;rw[Pat.ok_iff] at hok;have hop':=hop;unfold okP at hop';simp only[xad,decide_eq_true_eq] at hop';obtain⟨ho,hl⟩:=hop';have hin:=zfb hw ht ho;have hlen:=zfD hw ht (zcb ho);have hst:zcT w ⟨a,k⟩ p=zag w ⟨a,k⟩ p:=by unfold zcT;rw[if_neg (fun h=>h.2 (zcb ho h.1))]
   rw[hst,hop] at hsh;have e:zaI w (n+1) ⟨a,k⟩ p c=finV (za3 (zaI w n) (decide (p.op=5)) (zag w ⟨a,k⟩ p) p.kids 0 (zaF ⟨a,k⟩ p) (c+1)):=by
    conv=>lhs;unfold zaI
    rw[if_neg h60,if_pos hop]
   have hnr:InR (zaF ⟨a,k⟩ p):=fun v hv=>by
    unfold zaF at hv;split at hv
    ·rename_i hop;simp only[List.mem_cons,List.not_mem_nil,or_false] at hv;subst hv;exact zmE ho hop
    ·simp at hv
   have hnl:=zoz ⟨a,k⟩ p;rw[e];refine bd Tryz.f293 114 [14,108] [2,8,17] fun w0 F0 own kept hk=>?_;refine bx 3006 ?_;refine bx 3007 ?_;refine evs [14,108] [] ?_;refine ar ?_;refine so ty3 ?_;refine tv ?_;refine xap ?_;refine xay 8 [(34,.d (.bool (false)))] [27,28,29,30,31,32,33] ?_ ?_;refine evs [14,108] [] ?_;refine sq ?_ ?_<;>intro h1 h1p h1s;exact jnb rfl;exact jnb rfl;refine xax ?_;refine tv ?_;refine sq ?_ ?_<;>intro h2 h2p h2s;exact absurd h2 (by simp);refine wc zn1 (hsh) rfl rfl ?_;refine evs [14,108] [] ?_;refine sq ?_ ?_<;>intro h3 h3p h3s;exact absurd h3 (by simp);refine xaB 5 3 .none rfl rfl ?_;refine tv ?_;refine xap ?_;refine xay 8 [(51,.d (.bool (decide (p.op=2\/p.op=6))))] [44,45,46,47,48,49,50] ?_ ?_;refine evs [14,108] [] ?_;refine sq ?_ ?_<;>intro h4 h4p h4s;exact jnb rfl;exact jnb rfl;refine xax ?_;refine tv ?_;refine sq ?_ ?_<;>intro h5 h5p h5s;refine bu [0,1] [_,_] znJ ?_;refine si [0] [_] zcK zl3 ?_;refine ap zcK zl4 rfl rfl rfl (by simp) (by(simp;done)) ?_;refine asg ?_;refine tv ?_;refine xam (ι:=Nat×List Vt×Int) hk (fun z=>[(62,.d (.i (z.1:Int))),(14,.gl 5 (z.2.1.map Vt.c))]) [10,11,15,16,17,18,63,64,65,66,67,68,69,70,71,72,73,74,75,76,77,78,79,80,81,82,83,84,85,86,87,88,89,90,91,92,93,94,95,96,97,98] (fun z=>[(950,some (.box [.d (.i z.2.2)])),(5,some (.tok ((z.2.1.map Vt.c)).length 3))]) (fun z=>GoodS w n ⟨a,k⟩ p c z) (fun z=>p.kids.length-z.1) (0,zaF ⟨a,k⟩ p,c+1) ⟨by simp,by simp,by dsimp only;omega,by dsimp only;omega,by dsimp only;omega,by dsimp only;omega,hnr⟩ ⟨⟨_,rfl,xau ?_⟩,⟨⟨_,rfl,LeA.glg ?_⟩,trivial⟩⟩ ⟨?_,⟨zas ?_,trivial⟩⟩ (fun x=>rfl) (fun z hg1=>?_);iterate 2 focus (first|rfl|(simp_all[zaF];done))
   focus (first|rfl|(simp[getH];done))
   focus (first|rfl|(simp_all[zaF];done))
   obtain⟨s1,_,s3,s4,s5,s6,s7⟩:=id hg1;refine evc [14,108] [2,8,17] ?_;refine sq ?_ ?_<;>intro h6 h6p h6s<;>(try simp only[Q,Pat.cs_len] at h6p);refine xaK sl34 .none rfl rfl rfl rfl (za5 (by omega)) rfl ?_;refine evs [14,108] [] ?_;refine ab 3016 tz36 ?_;refine evs [14,108] [] ?_;refine so ty36 ?_;refine tv ?_;refine xaK zaV .none rfl rfl rfl rfl (zau (by omega)) rfl ?_;refine evd [14,108] [] ?_;refine ar ?_;refine wd zmg (zdb hw n (a:=(nth (zag w ⟨a,k⟩ p) z.1).data) (k:=(nth (zag w ⟨a,k⟩ p) z.1).index) (c:=z.2.2) (p:=nth p.kids z.1) (by omega) (by omega) (hin _ (zap (by omega))) (Pats.ok_mem hok.2 _ (zap (by omega))) (by omega) (by omega)) rfl rfl ⟨rfl,trivial⟩ ?_;refine evd [14,108] [] ?_;refine dr ?_;refine sq ?_ ?_<;>intro h7 h7p h7s;refine rn [(950,some (.box [.d (.i (finV (za3 (zaI w n) (decide (p.op=5)) (zag w ⟨a,k⟩ p) p.kids 0 (zaF ⟨a,k⟩ p) (c+1))).2)]))] (r2 rfl rfl) (.tup (.cons (.nild ?_) (.cons (.eqd ?_) .nil))) ⟨rfl,rfl⟩ (SubO.get ⟨.inr ?_,⟨.inl rfl,trivial⟩⟩) (zaE rfl);rotate_left 3;refine xap ?_;refine xay 7 [(93,.d (.bool (decide (p.op=5/\z.1=1))))] [87,88,89,90,91,92] ?_ ?_;refine evs [14,108] [] ?_;refine sq ?_ ?_<;>intro h8 h8p h8s;exact jnb rfl;exact jnb rfl;refine xax ?_;refine evs [14,108] [] ?_;refine sq ?_ ?_<;>intro h9 h9p h9s<;>(try simp only[Q,Pat.cs_len] at h9p);refine Walk.call (cr:=[]) zoe (zfS (by omega) (by have hz:=(zeM w n ⟨(nth (zag w ⟨a,k⟩ p) z.1).data,(nth (zag w ⟨a,k⟩ p) z.1).index⟩ (nth p.kids z.1) z.2.2).2;omega)) rfl .none rfl rfl (.cons (.gl _ _) (.cons (.refl _) .nil)) trivial rfl rfl rfl ?_;refine evs [14,108] [] ?_;refine sq ?_ ?_<;>intro h10 h10p h10s<;>(try simp only[Q,Pat.cs_len] at h10p);refine rn [(950,some (.box [.d (.i (finV (za3 (zaI w n) (decide (p.op=5)) (zag w ⟨a,k⟩ p) p.kids 0 (zaF ⟨a,k⟩ p) (c+1))).2)]))] (r2 rfl rfl) (.tup (.cons (.nild ?_) (.cons (.eqd ?_) .nil))) ⟨rfl,rfl⟩ (SubO.get ⟨.inr ?_,⟨.inl rfl,trivial⟩⟩) (zaE rfl);rotate_left 3;refine ar ?_;refine xah ((zbW w n ⟨a,k⟩ p z)) ⟨(hg1.next hl (by omega) (by simp_all) (fun ho=>by simp_all)),(by unfold zbW;dsimp only;omega),sx ⟨⟨_,rfl,xau ?_⟩,⟨⟨_,rfl,LeA.glg ?_⟩,trivial⟩⟩ ⟨?_,⟨zas ?_,trivial⟩⟩⟩;iterate 2 focus (first|rfl|(simp_all[zaF];done))
   focus (first|rfl|(simp[getH];done))
   focus (first|rfl|(simp_all[zaF];done))
   refine ap zcK zl4 rfl rfl rfl (by simp) (by first|(simp;done)|(have hz:=(zeM w n ⟨(nth (zag w ⟨a,k⟩ p) z.1).data,(nth (zag w ⟨a,k⟩ p) z.1).index⟩ (nth p.kids z.1) z.2.2).2;simp;omega)) ?_;refine asg ?_;refine tv ?_;refine ar ?_;refine xah ((zbW w n ⟨a,k⟩ p z)) ⟨(hg1.next hl (by omega) (by simp_all) (fun ho=>by simp_all)),(by unfold zbW;dsimp only;omega),sx ⟨⟨_,rfl,xau ?_⟩,⟨⟨_,rfl,LeA.glg ?_⟩,trivial⟩⟩ ⟨?_,⟨zas ?_,trivial⟩⟩⟩;iterate 2 focus (first|rfl|(simp_all[zaF];done)|(unfold zbW;dsimp only;rw[if_neg (by simp_all)];simp;done))
   focus (first|rfl|(simp[getH];done))
   focus (first|rfl|(simp_all[zaF];done)|(unfold zbW;dsimp only;rw[if_neg (by simp_all)];simp;done))
   refine ab 3019 zpN ?_;refine tv ?_;refine xam (ι:=List (Vt)×List (Vt)) hk (fun x=>[(101,.d (.i (x.1.length:Int)))]) [10,11,21,102,103,104,105,106,107,108,109,110,111,112] (fun x=>[(3019,some (.box (metA (x.1.map Vt.var))))]) (fun x=>x.1++x.2=z.2.1/\(x.1.map Vt.var).Nodup) (fun x=>x.2.length) ([],z.2.1) ⟨by simp,by simp⟩ ⟨⟨_,rfl,xau ?_⟩,trivial⟩ ⟨?_,trivial⟩ (fun x=>rfl) (fun x hg2=>?_);focus (first|rfl|omega)
   focus (first|rfl|(simp[getH];done))
   obtain⟨pre,rest⟩:=x;dsimp only at hg2 ⊢;refine evc [14,108] [2,8,17] ?_;refine sq ?_ ?_<;>intro h11 h11p h11s<;>(try simp only[Q,Pat.cs_len] at h11p);rcases rest with _|⟨y,rest⟩
   ·exfalso;simp_all
   have hy:=s7 y (by rw[<-hg2.1];simp);refine Walk.idxG zcK .none rfl rfl rfl rfl (zaW hg2.1) rfl ?_;refine evs [14,108] [] ?_;refine ab 3021 zl3 ?_;refine so zpM ?_;refine tv ?_;refine xaL (i:=y.var.toNat) zlQ .none rfl rfl rfl (Int.toNat_of_nonneg hy.1).symm (by omega) ?_;refine xaP ty4 .none rfl rfl rfl ((by simpa using zmB hy.1 hy.2)) ?_;refine tv ?_;refine sq ?_ ?_<;>intro h12 h12p h12s<;>(try simp only[Q,Pat.cs_len] at h12p);refine rn [(950,some (.box [.d (.i (finV (za3 (zaI w n) (decide (p.op=5)) (zag w ⟨a,k⟩ p) p.kids 0 (zaF ⟨a,k⟩ p) (c+1))).2)]))] (r2 rfl rfl) (.tup (.cons (.nild ?_) (.cons (.eqd ?_) .nil))) ⟨rfl,rfl⟩ (SubO.get ⟨.inr ?_,⟨.inl rfl,trivial⟩⟩) (zaE rfl);rotate_left 3;refine xaL (i:=y.var.toNat) zlQ .none rfl rfl rfl (Int.toNat_of_nonneg hy.1).symm (by omega) ?_;refine Walk.store ty4 .none rfl rfl rfl rfl rfl rfl (by simp) ((by simpa using zmC hy.1 hy.2)) ?_;refine tv ?_;refine ar ?_;refine xah ((pre++[y],rest)) ⟨⟨(by have hz:=hg2.1;rw[<-hz];simp),(zkb hg2.2 (by simp_all))⟩,(by simp),sx ⟨⟨_,rfl,xau ?_⟩,trivial⟩ ⟨?_,trivial⟩⟩;focus (first|rfl|(simp;done)|omega)
   focus (first|rfl|(simp[getH];done))
   have hrest:rest=[]:=by
    rcases rest with _|⟨a,b⟩
    ·rfl
    ·exfalso;have hz:=congrArg List.length (hg2.1);simp only[xaa,xab,xac] at hz;omega
   subst hrest;refine rn [(950,some (.box [.d (.i (finV (za3 (zaI w n) (decide (p.op=5)) (zag w ⟨a,k⟩ p) p.kids 0 (zaF ⟨a,k⟩ p) (c+1))).2)]))] (r2 rfl rfl) (.tup (.cons (.gld ?_) (.cons (.eqd ?_) .nil))) ⟨rfl,rfl⟩ (SubO.get ⟨.inr ?_,⟨.inl rfl,trivial⟩⟩) (zaE rfl);rotate_left 3;try simp only[Q,Pat.cs_len] at h5p
   refine xam (ι:=Nat×List Vt×Int) hk (fun z=>[(62,.d (.i (z.1:Int))),(14,.gl 5 (z.2.1.map Vt.c))]) [10,11,15,16,17,18,63,64,65,66,67,68,69,70,71,72,73,74,75,76,77,78,79,80,81,82,83,84,85,86,87,88,89,90,91,92,93,94,95,96,97,98] (fun z=>[(950,some (.box [.d (.i z.2.2)])),(5,some (.tok ((z.2.1.map Vt.c)).length 3))]) (fun z=>GoodS w n ⟨a,k⟩ p c z) (fun z=>p.kids.length-z.1) (0,zaF ⟨a,k⟩ p,c+1) ⟨by simp,by simp,by dsimp only;omega,by dsimp only;omega,by dsimp only;omega,by dsimp only;omega,hnr⟩ ⟨⟨_,rfl,xau ?_⟩,⟨⟨_,rfl,LeA.glg ?_⟩,trivial⟩⟩ ⟨?_,⟨zas ?_,trivial⟩⟩ (fun x=>rfl) (fun z hg1=>?_);iterate 2 focus (first|rfl|(simp_all[zaF];done))
   focus (first|rfl|(simp[getH];done))
   focus (first|rfl|(simp_all[zaF];done))
   obtain⟨s1,_,s3,s4,s5,s6,s7⟩:=id hg1;refine evc [14,108] [2,8,17] ?_;refine sq ?_ ?_<;>intro h13 h13p h13s<;>(try simp only[Q,Pat.cs_len] at h13p);refine xaK sl34 .none rfl rfl rfl rfl (za5 (by omega)) rfl ?_;refine evs [14,108] [] ?_;refine ab 3016 tz36 ?_;refine evs [14,108] [] ?_;refine so ty36 ?_;refine tv ?_;refine xaK zaV .none rfl rfl rfl rfl (zau (by omega)) rfl ?_;refine evd [14,108] [] ?_;refine ar ?_;refine wd zmg (zdb hw n (a:=(nth (zag w ⟨a,k⟩ p) z.1).data) (k:=(nth (zag w ⟨a,k⟩ p) z.1).index) (c:=z.2.2) (p:=nth p.kids z.1) (by omega) (by omega) (hin _ (zap (by omega))) (Pats.ok_mem hok.2 _ (zap (by omega))) (by omega) (by omega)) rfl rfl ⟨rfl,trivial⟩ ?_;refine evd [14,108] [] ?_;refine dr ?_;refine sq ?_ ?_<;>intro h14 h14p h14s<;>(try simp only[Q,Pat.cs_len] at h14p);refine rn [(950,some (.box [.d (.i (finV (za3 (zaI w n) (decide (p.op=5)) (zag w ⟨a,k⟩ p) p.kids 0 (zaF ⟨a,k⟩ p) (c+1))).2)]))] (r2 rfl rfl) (.tup (.cons (.nild ?_) (.cons (.eqd ?_) .nil))) ⟨rfl,rfl⟩ (SubO.get ⟨.inr ?_,⟨.inl rfl,trivial⟩⟩) (zaE rfl);rotate_left 3;refine xap ?_;refine xay 7 [(93,.d (.bool (decide (p.op=5/\z.1=1))))] [87,88,89,90,91,92] ?_ ?_;refine evs [14,108] [] ?_;refine sq ?_ ?_<;>intro h15 h15p h15s<;>(try simp only[Q,Pat.cs_len] at h15p);exact jnb rfl;exact jnb rfl;refine xax ?_;refine evs [14,108] [] ?_;refine sq ?_ ?_<;>intro h16 h16p h16s<;>(try simp only[Q,Pat.cs_len] at h16p);refine Walk.call (cr:=[]) zoe (zfS (by omega) (by have hz:=(zeM w n ⟨(nth (zag w ⟨a,k⟩ p) z.1).data,(nth (zag w ⟨a,k⟩ p) z.1).index⟩ (nth p.kids z.1) z.2.2).2;omega)) rfl .none rfl rfl (.cons (.gl _ _) (.cons (.refl _) .nil)) trivial rfl rfl rfl ?_;refine evs [14,108] [] ?_;refine sq ?_ ?_<;>intro h17 h17p h17s<;>(try simp only[Q,Pat.cs_len] at h17p);refine rn [(950,some (.box [.d (.i (finV (za3 (zaI w n) (decide (p.op=5)) (zag w ⟨a,k⟩ p) p.kids 0 (zaF ⟨a,k⟩ p) (c+1))).2)]))] (r2 rfl rfl) (.tup (.cons (.nild ?_) (.cons (.eqd ?_) .nil))) ⟨rfl,rfl⟩ (SubO.get ⟨.inr ?_,⟨.inl rfl,trivial⟩⟩) (zaE rfl);rotate_left 3;refine ar ?_;refine xah ((zbW w n ⟨a,k⟩ p z)) ⟨(hg1.next hl (by omega) (by simp_all) (fun ho=>by simp_all)),(by unfold zbW;dsimp only;omega),sx ⟨⟨_,rfl,xau ?_⟩,⟨⟨_,rfl,LeA.glg ?_⟩,trivial⟩⟩ ⟨?_,⟨zas ?_,trivial⟩⟩⟩;iterate 2 focus (first|rfl|(simp_all[zaF];done)|(unfold zbW;dsimp only;rw[if_pos (by simp_all)];done))
   focus (first|rfl|(simp[getH];done))
   focus (first|rfl|(simp_all[zaF];done)|(unfold zbW;dsimp only;rw[if_pos (by simp_all)];done))
   refine ap zcK zl4 rfl rfl rfl (by simp) (by first|(simp;done)|(have hz:=(zeM w n ⟨(nth (zag w ⟨a,k⟩ p) z.1).data,(nth (zag w ⟨a,k⟩ p) z.1).index⟩ (nth p.kids z.1) z.2.2).2;simp;omega)) ?_;refine asg ?_;refine tv ?_;refine ar ?_;refine xah ((zbW w n ⟨a,k⟩ p z)) ⟨(hg1.next hl (by omega) (by simp_all) (fun ho=>by simp_all)),(by unfold zbW;dsimp only;omega),sx ⟨⟨_,rfl,xau ?_⟩,⟨⟨_,rfl,LeA.glg ?_⟩,trivial⟩⟩ ⟨?_,⟨zas ?_,trivial⟩⟩⟩;iterate 2 focus (first|rfl|(simp_all[zaF];done)|(unfold zbW;dsimp only;rw[if_neg (by simp_all)];simp;done))
   focus (first|rfl|(simp[getH];done))
   focus (first|rfl|(simp_all[zaF];done)|(unfold zbW;dsimp only;rw[if_neg (by simp_all)];simp;done))
   refine ab 3019 zpN ?_;refine tv ?_;refine xam (ι:=List (Vt)×List (Vt)) hk (fun x=>[(101,.d (.i (x.1.length:Int)))]) [10,11,21,102,103,104,105,106,107,108,109,110,111,112] (fun x=>[(3019,some (.box (metA (x.1.map Vt.var))))]) (fun x=>x.1++x.2=z.2.1/\(x.1.map Vt.var).Nodup) (fun x=>x.2.length) ([],z.2.1) ⟨by simp,by simp⟩ ⟨⟨_,rfl,xau ?_⟩,trivial⟩ ⟨?_,trivial⟩ (fun x=>rfl) (fun x hg2=>?_);focus (first|rfl|omega)
   focus (first|rfl|(simp[getH];done))
   obtain⟨pre,rest⟩:=x;dsimp only at hg2 ⊢;refine evc [14,108] [2,8,17] ?_;refine sq ?_ ?_<;>intro h18 h18p h18s<;>(try simp only[Q,Pat.cs_len] at h18p);rcases rest with _|⟨y,rest⟩
   ·exfalso;simp_all
   have hy:=s7 y (by rw[<-hg2.1];simp);refine Walk.idxG zcK .none rfl rfl rfl rfl (zaW hg2.1) rfl ?_;refine evs [14,108] [] ?_;refine ab 3021 zl3 ?_;refine so zpM ?_;refine tv ?_;refine xaL (i:=y.var.toNat) zlQ .none rfl rfl rfl (Int.toNat_of_nonneg hy.1).symm (by omega) ?_;refine xaP ty4 .none rfl rfl rfl ((by simpa using zmB hy.1 hy.2)) ?_;refine tv ?_;refine sq ?_ ?_<;>intro h19 h19p h19s<;>(try simp only[Q,Pat.cs_len] at h19p);refine rn [(950,some (.box [.d (.i (finV (za3 (zaI w n) (decide (p.op=5)) (zag w ⟨a,k⟩ p) p.kids 0 (zaF ⟨a,k⟩ p) (c+1))).2)]))] (r2 rfl rfl) (.tup (.cons (.nild ?_) (.cons (.eqd ?_) .nil))) ⟨rfl,rfl⟩ (SubO.get ⟨.inr ?_,⟨.inl rfl,trivial⟩⟩) (zaE rfl);rotate_left 3;refine xaL (i:=y.var.toNat) zlQ .none rfl rfl rfl (Int.toNat_of_nonneg hy.1).symm (by omega) ?_;refine Walk.store ty4 .none rfl rfl rfl rfl rfl rfl (by simp) ((by simpa using zmC hy.1 hy.2)) ?_;refine tv ?_;refine ar ?_;refine xah ((pre++[y],rest)) ⟨⟨(by have hz:=hg2.1;rw[<-hz];simp),(zkb hg2.2 (by simp_all))⟩,(by simp),sx ⟨⟨_,rfl,xau ?_⟩,trivial⟩ ⟨?_,trivial⟩⟩;focus (first|rfl|(simp;done)|omega)
   focus (first|rfl|(simp[getH];done))
   have hrest:rest=[]:=by
    rcases rest with _|⟨a,b⟩
    ·rfl
    ·exfalso;have hz:=congrArg List.length (hg2.1);simp only[xaa,xab,xac] at hz;omega
   subst hrest;refine rn [(950,some (.box [.d (.i (finV (za3 (zaI w n) (decide (p.op=5)) (zag w ⟨a,k⟩ p) p.kids 0 (zaF ⟨a,k⟩ p) (c+1))).2)]))] (r2 rfl rfl) (.tup (.cons (.gld ?_) (.cons (.eqd ?_) .nil))) ⟨rfl,rfl⟩ (SubO.get ⟨.inr ?_,⟨.inl rfl,trivial⟩⟩) (zaE rfl);rotate_left 3;all_goals (((first|(rw[hg1.none hl (by omega) (by assumption)];first|done|rfl)|(rw[hg1.bad hl (by omega) (by assumption) (by assumption) (by assumption)];first|done|rfl)|(rw[hg1.fin hl (by omega),if_neg (by rw[zoA hg2.1 (by assumption)];simp)];first|done|rfl)|(rw[hg1.fin hl (by omega),if_pos (by have hz:=hg2.1;rw[List.append_nil] at hz;rw[<-hz];exact decide_eq_true hg2.2)];first|done|rfl));done))
  ·have hopf:okP w ⟨a,k⟩ p=false:=by simpa using hop
   have e:zaI w (n+1) ⟨a,k⟩ p c=(none,c+1):=by unfold zaI;rw[if_neg h60,if_neg hop]
   rw[e];rw[hopf] at hsh;refine bd Tryz.f293 114 [] [2] fun w0 F0 own kept hk=>?_;refine bx 3006 ?_;refine bx 3007 ?_;refine ev ?_;refine ar ?_;refine so ty3 ?_;refine tv ?_;refine xap ?_;refine xay 8 [(34,.d (.bool (false)))] [27,28,29,30,31,32,33] ?_ ?_;refine ev ?_;refine sq ?_ ?_<;>intro h1 h1p h1s;exact jnb rfl;exact jnb rfl;refine xax ?_;refine tv ?_;refine sq ?_ ?_<;>intro h2 h2p h2s;exact absurd h2 (by simp);refine wc zn1 (hsh) rfl rfl ?_;refine ev ?_;refine sq ?_ ?_<;>intro h3 h3p h3s;refine rn [(950,some (.box [.d (.i (c+1))]))] (r2 rfl rfl) (.tup (.cons (.nild ?_) (.cons (.eqd ?_) .nil))) ⟨rfl,rfl⟩ (SubO.get ⟨.inr ?_,⟨.inl rfl,trivial⟩⟩) (zaE rfl);rotate_left 3;exact absurd h3 (by simp);all_goals (first|((rfl);done)|(rfl))
end Go.Proofs.YtlfipehhbdjnjaaGreat
namespace Go.Proofs.YtlfipehhbdjnjaaGreat
open Go
set_option linter.unusedSimpArgs false
set_option linter.unusedVariables false
set_option maxRecDepth 100000
set_option maxHeartbeats 2000000
end Go.Proofs.YtlfipehhbdjnjaaGreat
namespace Go.Proofs.YtlfipehhbdjnjaaGreat
open Go
set_option linter.unusedSimpArgs false
set_option linter.unusedVariables false
set_option maxRecDepth 100000
set_option maxHeartbeats 4000000
theorem zrk (w:List Data) (t:Ty) (p:Pat):(zaI w 10 t p 0).1.isSome=isP w t p:=by
 have h:=(zdu w 10 t p 0).1;rw[h];unfold zbh isP;rw[Int.zero_add];split
 ·rename_i hz;rw[hz];rfl
 ·rename_i hz;cases hc:(zav w 10 t p&&(decide ((p.size:Int)<=60)&&linP w 10 t p)) with
  |true=>exact absurd hc hz
  |false=>rfl
theorem zhx {w:List Data} (hw:WT w){a k:Int}{p:Pat} (ht:TyIn w.length ⟨a,k⟩) (hok:p.ok):
  FnD Tryz.prog 217 [.d (zao w),.agg [.d (.i a),.d (.i k)],.agg [.d (.i p.op),.d (.i p.ctor),.d (.i p.n),.d (.i p.m),.d (.i p.var),.d (zaw p.kids)]] [] (.tup [.d (zco (zcL (zaI w 10 ⟨a,k⟩ p 0).1)),.d (.bool (isP w ⟨a,k⟩ p))]) []:=by
 rw[<-zrk];refine bd Tryz.f217 15 [] [] fun w0 F0 own kept hk=>?_;refine bx 3004 ?_;refine bx 3005 ?_;refine ev ?_;refine ab 950 tz3 ?_;refine so ty3 ?_;refine tv ?_;refine wd zmg (zdb hw 10 (c:=0) (by omega) (by omega) ht hok (by omega) (by omega)) rfl rfl ⟨rfl,trivial⟩ ?_;refine ev ?_;refine rn0 (r2 rfl rfl) (.tup (.cons (.eqd ?_) (.cons (.eqd ?_) .nil)));rotate_left 2;all_goals (rfl)
end Go.Proofs.YtlfipehhbdjnjaaGreat
namespace Go.Proofs.YtlfipehhbdjnjaaGreat
open Go
set_option linter.unusedSimpArgs false
set_option linter.unusedVariables false
set_option maxRecDepth 100000
set_option maxHeartbeats 2000000
structure PKids (w:List Data) (n:Nat) (a k k':Int) (p:Pat):Prop where
 len5:p.op=5->p.kids.length=2
 len6:p.op=6->p.kids.length=1
 len4:p.op=4->p.kids.length=(zaN w ⟨a,k⟩ p.ctor).length
 one:p.op=5\/p.op=6->zav w n ⟨a,k'⟩ (nth p.kids 0)=true
 two:p.op=5->zav w n ⟨a,k'⟩ (nth p.kids 1)=true
 arg:p.op=4->∀i,i<(zaN w ⟨a,k⟩ p.ctor).length->zav w n ⟨(nth (zaN w ⟨a,k⟩ p.ctor) i).data,(nth (zaN w ⟨a,k'⟩ p.ctor) i).index⟩ (nth p.kids i)=true
 mem:p.op=4->p.ctor∈zbg w ⟨a,k'⟩
 ops:p.op=1\/p.op=2\/(p.op=3/\a = -1)\/p.op=4\/p.op=5\/p.op=6
theorem zcH {w:List Data}{a k:Int} (h:zbr w ⟨a,k⟩=true):zbp w=true/\TyIn w.length ⟨a,k⟩/\(a≠ -1->0<=a/\a.toNat<w.length/\0<=k/\k<=3):=by
 unfold zbr at h;rw[xad] at h;obtain⟨h1,h2⟩:=h;simp only[zdw,zay,Bool.or_eq_true,xad,decide_eq_true_eq,and_true] at h2;refine⟨h1, ?_,fun ha=>by omega⟩;rcases h2 with h|h
 ·exact .inl h.1
 ·exact .inr ⟨a.toNat,by simp only;omega,by omega⟩
structure PVal (w:List Data) (a k:Int) (p:Pat):Prop where
 dp:Dp w
 tin:TyIn w.length ⟨a,k⟩
 shape:zav w 10 ⟨a,k⟩ p=true
 rng:a≠ -1->0<=a/\a.toNat<w.length/\0<=k/\k<=3
theorem zjz {w:List Data}{a b:Int} (hs:WSmall w):FnD Tryz.prog 126 [.d (zao w),.agg [.d (.i a),.d (.i b)]] [] (.d (.bool (zbr w ⟨a,b⟩))) []:=by
 rw[<-zp2];exact ziQ hs
theorem zl5 {α β:Type} [Inhabited α] [Inhabited β]{f:α->β->Bool}{a:List α}{b:List β} (hl:a.length=b.length) (h:all2 f a b=true):∀i,i<a.length->f (nth a i) (nth b i)=true:=fun i hi=>by
 cases hf:f (nth a i) (nth b i) with
 |true=>rfl
 |false=>rw[zbT hi hl hf] at h;exact absurd h (by simp)
mutual
theorem zdO:∀v:Val,ze1 v v=true
 | .mk _ _ ks=>by simp[ze1,zi6 ks]
theorem zi6:∀l:List Val,zbS l l=true
 | []=>rfl
 |v::r=>by simp[zbS,zdO v,zi6 r]
end
theorem zlM (m:Bool) (y:Val) (rest:List Val):zac m (Val.cs (y::rest)) = .d (.i y.ctor):: .d (.i y.num):: .own m (zaq y.kids)::zac m (Val.cs rest):=by
 cases y;rfl
theorem zc6 (m:Bool) (l:List Val) (y:Val):zac m (Val.cs (l++[y]))=zac m (Val.cs l)++[.d (.i y.ctor),.d (.i y.num),.own m (zaq y.kids)]:=by
 rw[Val.cs_eq,xaf,<-Val.cs_eq,zdg];congr 1
 cases y;rfl
theorem Val.c_len (v:Val):v.c.length=3:=by cases v;rfl
theorem Val.cs_rows {l:List Val}:∀x,x∈Val.cs l->x.length=3:=by
 intro x hx;rw[Val.cs_eq] at hx;obtain⟨y,_,rfl⟩:=List.mem_map.1 hx;exact y.c_len
theorem Val.cs_nil (l:List Val):Val.cs l=[]↔l=[]:=by rw[Val.cs_eq];simp
theorem za0 (m:Bool) (l:List Val):(zac m (Val.cs l)).length=l.length*3:=by
 rw[zbv (k:=3) Val.cs_rows,Val.cs_len]
mutual
def mVal:Val->Nat
 | .mk _ _ ks=>zeu ks
def zeu:List Val->Nat
 | []=>0
 |v::r=>1+mVal v+zeu r
end
theorem zkX (v:Val):mVal v=zeu v.kids:=by cases v;rfl
theorem zmz:∀l:List Val,zeu l=l.length+(l.map mVal).sum
 | []=>rfl
 |v::r=>by simp only[zeu,zmz r,xab,xae,List.sum_cons];omega
theorem zjk {l:List Val}{left:Int} (h:l.length<=1000000000000) (k0:0<=left) (k1:left<=1000000000000)
  (hf:∀v∈l,∀q:Int,0<=q->q<=1000000000000->FnD Tryz.prog 46 [.agg [.d (.i v.ctor),.d (.i v.num),.d (zaq v.kids)],.d (.i q)] [] (.d (.i (szr q (mVal v)))) []):
  FnD Tryz.prog 104 [.d (zaq l),.d (.i left)] [] (.d (.i (szr left (zeu l)))) []:=by
 have z:=zba (left:=left) (zeu l);rw[zmz] at z ⊢;refine bd Tryz.f104 27 [] [] fun w0 F0 own kept hk=>?_;refine ar ?_ (by first|(constructor<;>omega)|(constructor<;>simp[Val.cs_len]<;>omega));refine sq ?_ ?_<;>intro h1 h1p h1s<;>(try simp only[Q,Val.cs_len] at h1p);refine rq ?_;rotate_left;refine xam (ι:=List (Val)×List (Val)×(Int)) hk (fun x=>[(5,.d (.i (x.1.length:Int))),(1,.d (.i x.2.2))]) [4,12,13,14,15,16,17,18,19,20,21,22,23,24,25] (fun x=>[]) (fun x=>x.1++x.2.1=l/\x.2.2=left-l.length-(x.1.map mVal).sum/\0<=x.2.2) (fun x=>x.2.1.length) ([],l,left-l.length) ⟨by simp,by simp,by simp[Val.cs_len] at *;omega⟩ ⟨⟨_,rfl,xau ?_⟩,⟨⟨_,rfl,xau ?_⟩,trivial⟩⟩ trivial (fun x=>rfl) (fun x hg1=>?_);iterate 2 focus (first|rfl|(simp;done)|(simp[Val.cs_len];done))
 obtain⟨pre,rest,v⟩:=x;dsimp only at hg1 ⊢;refine evc [] [] ?_;refine sq ?_ ?_<;>intro h2 h2p h2s<;>(try simp only[Q,Val.cs_len] at h2p);rcases rest with _|⟨y,rest⟩
 ·exfalso;simp_all
 refine xaK sl86 .none rfl rfl rfl rfl (Val.cs_at hg1.1) rfl ?_;refine ev ?_;refine wc znu (hf y (by rw[<-hg1.1];simp) _ (by omega) (by omega)) rfl rfl ?_;refine ev ?_;refine sq ?_ ?_<;>intro h3 h3p h3s<;>(try simp only[Q,Val.cs_len] at h3p);refine rq ?_;rotate_left;refine ar ?_ (by first|(constructor<;>omega)|(constructor<;>simp[Val.cs_len]<;>omega));refine xah ((pre++[y],rest,szr v (mVal y))) ⟨⟨(by have hz:=hg1.1;rw[<-hz];simp),(by have e:=zck (f:=mVal) hg1.1;have z3:=zba (left:=v) (mVal y);simp;omega)⟩,(by simp),sx ⟨⟨_,rfl,xau ?_⟩,⟨⟨_,rfl,xau ?_⟩,trivial⟩⟩ trivial⟩;iterate 2 focus (first|rfl|(simp;done)|(simp[Val.cs_len];done))
 have hrest:rest=[]:=by
  rcases rest with _|⟨a,b⟩
  ·rfl
  ·exfalso;have hz:=congrArg List.length (hg1.1);simp only[xaa,xab,xac] at hz;omega
 subst hrest;refine rq ?_;rotate_left;all_goals (refine congrArg D.i ?_;first|omega|(have e:=zck (f:=mVal) hg1.1;have z3:=zba (left:=v) (mVal y);simp only[Val.cs_len] at *;omega)|(rw[List.append_nil] at hg1;rw[hg1.1] at hg1;simp only[Val.cs_len] at *;omega)|(simp only[Val.cs_len] at *;omega))
theorem zeq:∀(n:Nat){v:Val}{left:Int},v.size<=n->v.ok->0<=left->left<=1000000000000->FnD Tryz.prog 46 [.agg [.d (.i v.ctor),.d (.i v.num),.d (zaq v.kids)],.d (.i left)] [] (.d (.i (szr left (mVal v)))) []
 |0,v,left,h,_,_,_=>by rw[Val.size_eq] at h;omega
 |n+1,v,left,h,hok,k0,k1=>by
  rw[Val.size_eq] at h;rw[Val.ok_iff] at hok;rw[zkX];have z:=zba (left:=left) (zeu v.kids);refine bd Tryz.f46 12 [] [] fun w0 F0 own kept hk=>?_;refine bx 3002 ?_;refine ev ?_;refine wc zp6 (zjk hok.1 k0 k1 (fun x hx q q0 q1=>zeq n (by have:=Vals.size_mem hx;omega) (Vals.ok_mem hok.2 x hx) q0 q1)) rfl rfl ?_;refine ev ?_;refine sq ?_ ?_<;>intro h1 h1p h1s<;>(try simp only[Q] at h1p);refine rq ?_;rotate_left;refine rq ?_;rotate_left;all_goals (refine congrArg D.i ?_;omega)
theorem zjn {l:List Val} (h:l.length<=1000000000000)
  (hf:∀v∈l,FnD Tryz.prog 48 [.agg [.d (.i v.ctor),.d (.i v.num),.d (zaq v.kids)]] [] (.agg [.d (.i v.ctor),.d (.i v.num),.ms 64 v.kids.length]) [(64,some (.tree (zac false (Val.cs v.kids))))]):
  FnD Tryz.prog 107 [.d (zaq l)] [] (.ms 64 l.length) [(64,some (.tree (zac false (Val.cs l))))]:=by
 have hf2:∀v∈l,FnD Tryz.prog 48 [.agg [.d (.i v.ctor),.d (.i v.num),.d (zaq v.kids)]] [] (.agg [.d (.i v.ctor),.d (.i v.num),.ms 65 v.kids.length]) [(65,some (.tree (zac false (Val.cs v.kids))))]:=fun v hv=>xar (zaa _ _) rfl (hf v hv) 65;refine bd Tryz.f107 23 [] [2,4] fun w0 F0 own kept hk=>?_;refine xaS (id:=64) sl47 tz49 rfl (by decide) (zbL rfl) .none rfl rfl rfl (by simp[Val.cs_len];omega) (by simp[Val.cs_len];omega) rfl rfl rfl ?_;refine ev ?_;refine CWp.boxTree 64 false rfl rfl (zc1 _ _ _) ?_;refine evc [] [] ?_;refine xam (ι:=List (Val)×List (Val)) hk (fun x=>[(4,.d (.i (x.1.length:Int)))]) [8,9,10,11,12,13,14,15,16,17,18,19,20,21] (fun x=>[(64,some (.tree (zac false (Val.cs x.1)++zaJ x.2.length [.d (.i 0),.d (.i 0),.own false (.sl [])])))]) (fun x=>x.1++x.2=l) (fun x=>x.2.length) ([],l) (by simp) ⟨⟨_,rfl,xau ?_⟩,trivial⟩ ⟨?_,trivial⟩ (fun x=>rfl) (fun x hg1=>?_);focus (first|rfl|(simp;done)|(simp_all;done)|omega)
 focus (first|rfl|(show some (Res.tree _)=some (Res.tree _);rw[zc6,List.append_assoc];rfl)|(show some (Res.tree _)=some (Res.tree _);simp[zaQ,Val.cs_len];rfl))
 obtain⟨pre,rest⟩:=x;dsimp only at hg1 ⊢;refine evc [] [2,4] ?_;refine sq ?_ ?_<;>intro h1 h1p h1s<;>(try simp only[Q,Val.cs_len] at h1p);rcases rest with _|⟨y,rest⟩
 ·exfalso;simp_all
 refine xaK sl86 .none rfl rfl rfl rfl (Val.cs_at hg1) rfl ?_;refine ev ?_;refine Walk.call (cr:=[65]) zfr (hf2 y (by rw[<-hg1];simp)) rfl .none rfl rfl (LeL.refl _) trivial rfl (by first|rfl|(simp only[zam,List.all_cons,List.all_nil,zaz,zat,AV.idsL,AV.ids,zab,zaa,xae,List.map_nil];rfl)) (by first|rfl|(simp only[zaf,occH,occE,Res.ids,xag,List.nil_append,AV.idsL,AV.ids,zab,zaa,zad,zaj,xae,List.map_nil,upC];rfl)) ?_;refine xaM sl47 .none rfl rfl rfl rfl (by first|omega|(simp[Val.cs_len];omega)) ?_;refine xa6 ty49 .none rfl rfl rfl rfl rfl rfl (by simp) ((zea (za0 false _) rfl)) ?_;refine tv ?_;refine CWp.merge hk 64 (pre.length*3+2) 65 3 _ rfl (zaC (za0 false _) rfl) (by simp[zai,Val.cs_len]) rfl Val.cs_rows rfl rfl (zar (za0 false _) (zbA rfl)) ?_;refine evc [] [] ?_;refine ar ?_;refine xah ((pre++[y],rest)) ⟨(by have hz:=hg1;rw[<-hz];simp),(by simp),sx ⟨⟨_,rfl,xau ?_⟩,trivial⟩ ⟨?_,trivial⟩⟩;focus (first|rfl|(simp;done)|(simp_all;done)|omega)
 focus (first|rfl|(show some (Res.tree _)=some (Res.tree _);rw[zc6,List.append_assoc];rfl)|(show some (Res.tree _)=some (Res.tree _);simp[zaQ,Val.cs_len];rfl))
 have hrest:rest=[]:=by
  rcases rest with _|⟨a,b⟩
  ·rfl
  ·exfalso;have hz:=congrArg List.length (hg1);simp only[xaa,xab,xac] at hz;omega
 subst hrest;refine rn [(64,some (.tree (zac false (Val.cs l))))] (r1 rfl) (xav ?_) ⟨rfl,rfl⟩ (SubH.get ⟨?_,trivial⟩) (zaE rfl);rotate_left 2;all_goals (first|((first|rfl|(simp[Val.cs_len];done));done)|(first|rfl|(rw[List.append_nil] at hg1;subst hg1;show some (Res.tree _)=some (Res.tree _);simp[zaJ];done)))
theorem zdf:∀(n:Nat){v:Val},v.size<=n->v.ok->FnD Tryz.prog 48 [.agg [.d (.i v.ctor),.d (.i v.num),.d (zaq v.kids)]] [] (.agg [.d (.i v.ctor),.d (.i v.num),.ms 64 v.kids.length]) [(64,some (.tree (zac false (Val.cs v.kids))))]
 |0,v,h,_=>by rw[Val.size_eq] at h;omega
 |n+1,v,h,hok=>by
  rw[Val.size_eq] at h;rw[Val.ok_iff] at hok;refine bd Tryz.f48 15 [] [] fun w0 F0 own kept hk=>?_;refine bx 3001 ?_;refine ab 3002 tz49 ?_;refine tv ?_;refine ab 3003 tz49 ?_;refine tv ?_;refine so ty3 ?_;refine tv ?_;refine so ty3 ?_;refine tv ?_;refine Walk.call (cr:=[64]) zp9 (zjn hok.1 (fun x hx=>zdf n (by have:=Vals.size_mem hx;omega) (Vals.ok_mem hok.2 x hx))) rfl .none rfl rfl (LeL.refl _) trivial rfl (by first|rfl|(simp only[zam,List.all_cons,List.all_nil,zaz,zat,AV.idsL,AV.ids,zab,zaa,xae,List.map_nil];rfl)) (by first|rfl|(simp only[zaf,occH,occE,Res.ids,xag,List.nil_append,AV.idsL,AV.ids,zab,zaa,zad,zaj,xae,List.map_nil,upC];rfl)) ?_;refine ev ?_;refine so ty47 ?_;refine tv ?_;refine so ty49 ?_;refine tv ?_;focus (refine rn [(64,some (.tree (zac false (Val.cs v.kids))))] (.cons (.cellA ty49 rfl rfl rfl) .nil) (.agg (.cons (.eqd ?_) (.cons (.eqd ?_) (.cons (xav ?_) .nil)))) ⟨rfl,rfl⟩ (SubH.get ⟨rfl,trivial⟩) (zaE rfl);all_goals (first|rfl|(simp[];done)|(simp_all;done)|(simp_all;omega)|omega))
theorem zb8 {v:Val} (hok:v.ok):FnD Tryz.prog 48 [.agg [.d (.i v.ctor),.d (.i v.num),.d (zaq v.kids)]] [] (.agg [.d (.i v.ctor),.d (.i v.num),.d (zaq v.kids)]) []:=
 xaq (k:=3) Val.cs_rows (by simp[zfC,zfC.soleNL,Val.cs_len]) (zdf _ (Nat.le_refl _) hok)
theorem zjh {l m:List Val} (h:l.length<=1000000000000)
  (hf:∀a∈l,∀b:Val,FnD Tryz.prog 33 [.agg [.d (.i a.ctor),.d (.i a.num),.d (zaq a.kids)],.agg [.d (.i b.ctor),.d (.i b.num),.d (zaq b.kids)]] [] (.d (.bool (ze1 a b))) []):
  FnD Tryz.prog 85 [.d (zaq l),.d (zaq m)] [] (.d (.bool (zbS l m))) []:=by
 refine bd Tryz.f85 27 [] [] fun w0 F0 own kept hk=>?_;refine sq ?_ ?_<;>intro h1 h1p h1s<;>(try simp only[Q,Int.natCast_inj,Val.cs_len] at h1p);refine rq ?_;rotate_left;refine xam (ι:=Nat) hk (fun i=>[(5,.d (.i (i:Int)))]) [4,11,12,13,14,15,16,17,18,19,20,21,22,23,24,25,26] (fun i=>[]) (fun i=>i<=l.length/\∀i',i'<i->ze1 (nth l i') (nth m i')=true) (fun i=>l.length-i) 0 ⟨by omega,fun _ h=>absurd h (by omega)⟩ ⟨⟨_,rfl,xau ?_⟩,trivial⟩ trivial (fun x=>rfl) (fun i hg1=>?_);focus (first|rfl|(simp;done)|(simp_all;done)|omega)
 refine evc [] [] ?_;refine sq ?_ ?_<;>intro h2 h2p h2s<;>(try simp only[Q,Int.natCast_inj,Val.cs_len] at h2p);refine xaK sl47 .none rfl rfl rfl rfl (zed (by omega)) rfl ?_;refine evd [] [] ?_;refine xaK sl47 .none rfl rfl rfl rfl (zed (by omega)) rfl ?_;refine evd [] [] ?_;refine wc zlS (hf _ (zap (by omega)) _) rfl rfl ?_;refine evd [] [] ?_;refine dr ?_;refine sq ?_ ?_<;>intro h3 h3p h3s<;>(try simp only[Q,Int.natCast_inj,Val.cs_len] at h3p);refine rq ?_;rotate_left;refine ar ?_;refine xah (i+1) ⟨⟨by omega,zaL hg1.2 (by assumption)⟩,(by omega),sx ⟨⟨_,rfl,xau ?_⟩,trivial⟩ trivial⟩;focus (first|rfl|(simp;done)|(simp_all;done)|omega)
 refine rq ?_;rotate_left;all_goals (refine congrArg D.bool ?_;first|(refine(zkx ?_).symm;omega)|(refine(zky (by omega) (fun x hx=>hg1.2 x (by omega))).symm)|(refine(zjB (i:=i) (by omega) ?_).symm;assumption))
theorem zde:∀(n:Nat){a b:Val},a.size<=n->a.ok->FnD Tryz.prog 33 [.agg [.d (.i a.ctor),.d (.i a.num),.d (zaq a.kids)],.agg [.d (.i b.ctor),.d (.i b.num),.d (zaq b.kids)]] [] (.d (.bool (ze1 a b))) []
 |0,a,b,h,_=>by rw[Val.size_eq] at h;omega
 |n+1,a,b,h,hok=>by
  rw[Val.size_eq] at h;rw[Val.ok_iff] at hok;rw[zph];refine bd Tryz.f33 21 [] [] fun w0 F0 own kept hk=>?_;refine bx 3002 ?_;refine bx 3003 ?_;refine ev ?_;refine sq ?_ ?_<;>intro h1 h1p h1s<;>(try simp only[Q] at h1p);focus (refine rq ?_;all_goals (refine congrArg D.bool ?_;simp[h1s,h1p]))
  refine sq ?_ ?_<;>intro h2 h2p h2s<;>(try simp only[Q] at h2p);focus (refine rq ?_;all_goals (refine congrArg D.bool ?_;simp[h1s,h1p,h2s,h2p]))
  refine wc zrc (zjh hok.1 (fun x hx y=>zde n (by have:=Vals.size_mem hx;omega) (Vals.ok_mem hok.2 x hx))) rfl rfl ?_;refine ev ?_;refine sq ?_ ?_<;>intro h3 h3p h3s<;>(try simp only[Q] at h3p);focus (refine rq ?_;all_goals (refine congrArg D.bool ?_;simp[h1s,h1p,h2s,h2p,h3s,h3p]))
  focus (refine rq ?_;all_goals (refine congrArg D.bool ?_;simp[h1s,h1p,h2s,h2p,h3s,h3p]))
mutual
def Val.szM:Val->Int
 | .mk _ _ ks=>2+Vals.szM ks
def Vals.szM:List Val->Int
 | []=>0
 |v::r=>v.szM+Vals.szM r
end
mutual
def Val.one (k:Int):Val->Val
 | .mk _ _ ks=> .mk k (k+1) (Vals.one (k+1+1) ks)
def Vals.one (k:Int):List Val->List Val
 | []=>[]
 |v::r=>v.one k::Vals.one (k+v.szM) r
end
theorem Vals.szM_eq:∀l:List Val,Vals.szM l=szL Val.szM l
 | []=>rfl
 |v::r=>by simp only[Vals.szM,szL,Vals.szM_eq r]
theorem Vals.one_eq:∀(l:List Val) (k:Int),Vals.one k l=mkL Val.one Val.szM k l
 | [],_=>rfl
 |v::r,k=>by simp only[Vals.one,mkL,Vals.one_eq r]
theorem Val.szM_kids (v:Val):v.szM=2+szL Val.szM v.kids:=by cases v;simp only[Val.szM,Val.kids,Vals.szM_eq]
theorem Val.one_kids (v:Val) (k:Int):(v.one k).kids=mkL Val.one Val.szM (k+1+1) v.kids:=by cases v;simp only[Val.one,Val.kids,Vals.one_eq]
theorem Val.one_sc (v:Val) (k:Int):(Val.one k v).ctor=k/\(Val.one k v).num=k+1:=by cases v;exact⟨rfl,rfl⟩
mutual
theorem Val.szM_nn:∀v:Val,0<=v.szM
 | .mk _ _ ks=>by have:=Vals.szM_nn ks;simp only[Val.szM];omega
theorem Vals.szM_nn:∀l:List Val,0<=Vals.szM l
 | []=>by simp[Vals.szM]
 |v::r=>by have:=Val.szM_nn v;have:=Vals.szM_nn r;simp only[Vals.szM];omega
end
mutual
theorem Val.szM_le:∀v:Val,v.szM<=2+2*(mVal v:Int)
 | .mk _ _ ks=>by have:=Vals.szM_le ks;simp only[Val.szM,mVal];omega
theorem Vals.szM_le:∀l:List Val,Vals.szM l<=2*(zeu l:Int)
 | []=>by simp[Vals.szM,zeu]
 |v::r=>by have:=Val.szM_le v;have:=Vals.szM_le r;simp only[Vals.szM,zeu];omega
end
theorem zeB {l:List Val}{k:Int} (hl:l=[]):FnD Tryz.prog 91 [.d (.sl []),.d (.i k)] [] (.d (.i (k+szL Val.szM l))) []:=by
 subst hl;refine bd Tryz.f91 34 [] [] fun w0 F0 own kept hk=>?_;refine xam (ι:=Unit) hk (fun x=>[(5,.d (.i 0)),(1,.d (.i k))]) [6,7,8,9,10,11,12,13,14,15,16,17,18,19,20,21,22,23,24,25,26,27,28,29,30,31,32] (fun x=>[]) (fun x=>True) (fun x=>0) () trivial ⟨⟨_,rfl,xau ?_⟩,⟨⟨_,rfl,xau ?_⟩,trivial⟩⟩ trivial (fun x=>rfl) (fun x hg1=>?_);iterate 2 focus (first|rfl|(simp;done)|(simp_all;done)|omega)
 refine evc [] [] ?_;refine sq ?_ ?_<;>intro h1 h1p h1s<;>(try simp only[Q] at h1p);exfalso;revert h1;simp;refine rq ?_;rotate_left;all_goals (first|rfl|(simp[szL];done))
theorem zgK {m:Bool}{n:Nat}{k:Int}{r:D}{xs ys:List (List D)} (h:FnD Tryz.prog 91 [.ms 44 n,.d (.i k)] [(44,some (.tree (zac m xs)))] (.d r) [(44,some (.tree (zac false ys)))]):
  FnD Tryz.prog 91 [.ms 45 n,.d (.i k)] [(45,some (.tree (zac m xs)))] (.d r) [(45,some (.tree (zac false ys)))]:=FnD.ren rfl (zaa _ _) (zaa _ _) h 45
theorem ze4:∀(n:Nat){m:Bool}{l:List Val}{k:Int},Vals.size l<=n->0<k->k+szL Val.szM l<=1000000000000->l.length<=1000000000000->Vals.ok l->FnD Tryz.prog 91 [.ms 44 l.length,.d (.i k)] [(44,some (.tree (zac m (Val.cs l))))]
  (.d (.i (k+szL Val.szM l))) [(44,some (.tree (zac false (Val.cs (mkL Val.one Val.szM k l)))))]:=by
 intro n;induction n with
 |zero=>
  intro m l k h h0 h1 hl hok;have hl0:l=[]:=by
   cases l with
   |nil=>rfl
   |cons v r=>simp only[Vals.size,Val.size_eq] at h;omega
  subst hl0;refine bd Tryz.f91 34 [] [] fun w0 F0 own kept hk=>?_;refine xam (ι:=Unit) hk (fun x=>[(5,.d (.i 0)),(1,.d (.i k))]) [6,7,8,9,10,11,12,13,14,15,16,17,18,19,20,21,22,23,24,25,26,27,28,29,30,31,32] (fun x=>[]) (fun x=>True) (fun x=>0) () trivial ⟨⟨_,rfl,xau ?_⟩,⟨⟨_,rfl,xau ?_⟩,trivial⟩⟩ trivial (fun x=>rfl) (fun x hg1=>?_);iterate 2 focus (first|rfl|(simp;done)|(simp_all;done)|omega)
  refine evc [] [] ?_;refine sq ?_ ?_<;>intro h1 h1p h1s<;>(try simp only[Q] at h1p);exfalso;revert h1;simp;refine rn [(44,some (.tree (zac false (Val.cs (mkL Val.one Val.szM k []))))) ] (r1 rfl) (.eqd ?_) ⟨rfl,rfl⟩ (SubO.get ⟨.inr ?_,⟨.inl rfl,trivial⟩⟩) (zaE rfl);rotate_left 2;all_goals (first|((first|rfl|(simp[szL];done));done)|(rfl))
 |succ n ih=>
  intro m l k h h0 h1 hl hok;refine bd Tryz.f91 34 [30] [3,8,1000009] fun w0 F0 own kept hk=>?_;refine xam (ι:=List (Val)×List (Val)×(Int)) hk (fun x=>[(5,.d (.i (x.1.length:Int))),(1,.d (.i x.2.2))]) [6,7,8,9,10,11,12,13,14,15,16,17,18,19,20,21,22,23,24,25,26,27,28,29,30,31,32] (fun x=>[(44,some (.tree (zac false (Val.cs (mkL Val.one Val.szM k x.1))++zac m (Val.cs x.2.1))))]) (fun x=>x.1++x.2.1=l/\x.2.2=k+szL Val.szM x.1) (fun x=>x.2.1.length) ([],l,k) ⟨by simp,by simp[szL]⟩ ⟨⟨_,rfl,xau ?_⟩,⟨⟨_,rfl,xau ?_⟩,trivial⟩⟩ ⟨?_,trivial⟩ (fun x=>rfl) (fun x hg1=>?_);iterate 2 focus (first|rfl|(simp;done)|omega|(refine Eq.trans (b:=v+Val.szM y) ?_ rfl;omega))
  focus (first|rfl|(show some (Res.tree _)=some (Res.tree _);rw[zbd,zc6,<-hg1.2,Val.one_kids];simp only[Val.one_sc y v,List.append_assoc,xag,List.nil_append]))
  obtain⟨pre,rest,v⟩:=x;dsimp only at hg1 ⊢;refine evc [30] [3,8,1000009] ?_;refine cq (fun h1 h1p h1s=>?_) fun h1 h1p h1s=>?_;try simp only[Q] at h1p
  rcases rest with _|⟨y,rest⟩
  ·exfalso;simp_all
  have hsp:=zcC (sz:=Val.szM) hg1.1;have hnn:=zaB (l:=rest) Val.szM_nn;have hnp:=zaB (l:=pre) Val.szM_nn;have hys:=Val.szM_kids y;have hya:=zaB (l:=y.kids) Val.szM_nn;have hv:=hg1.2;refine xao 44 (zac false (Val.cs (mkL Val.one Val.szM k pre))++(.d (.i y.ctor):: .d (.i y.num):: .own m (zaq y.kids)::zac m (Val.cs rest))) rfl (by rw[zlM]) ?_;refine evc [30] [3,8,1000009] ?_;refine xaM sl47 .none rfl rfl rfl rfl (by first|omega|(simp[Val.cs_nil,Val.cs_len,Val.cs];omega)) ?_;refine evs [30] [] ?_;refine xa6 ty3 .none rfl rfl rfl rfl rfl rfl (by simp) ((zar ((za0 false _).trans (by rw[zai])) zeI)) ?_;refine tv ?_;refine ar ?_;refine xaM sl47 .none rfl rfl rfl rfl (by first|omega|(simp[Val.cs_nil,Val.cs_len,Val.cs];omega)) ?_;refine evs [30] [] ?_;refine xa6 ty3 .none rfl rfl rfl rfl rfl rfl (by simp) ((zar ((za0 false _).trans (by rw[zai])) zcn)) ?_;refine tv ?_;refine ar ?_;by_cases hs2:y.kids=[]
  refine xak 44 (pre.length*3+2) rfl (zaC ((za0 false _).trans (by rw[zai])) rfl) (by simp[hs2,Val.cs_nil,Val.cs_len,Val.cs]) (zar ((za0 false _).trans (by rw[zai])) zdK) ?_;refine evc [30] [] ?_;refine xaM sl47 .none rfl rfl rfl rfl (by first|omega|(simp[Val.cs_nil,Val.cs_len,Val.cs];omega)) ?_;refine evs [30] [] ?_;refine xaR ty47 .none rfl rfl rfl ((by rw[zaC ((za0 false _).trans (by rw[zai])) rfl];rfl)) ?_;refine evs [30] [] ?_;refine Walk.call (cr:=[]) zjJ (zeB hs2) rfl .none rfl rfl (LeL.refl _) trivial rfl (by first|rfl|(simp only[zam,List.all_cons,List.all_nil,zaz,zat,AV.idsL,AV.ids,zab,zaa,xae,List.map_nil];rfl)) (by first|rfl|(simp only[zaf,occH,occE,Res.ids,xag,List.nil_append,AV.idsL,AV.ids,zab,zaa,zad,zaj,xae,List.map_nil,upC];rfl)) ?_;refine evs [30] [] ?_;refine xal 44 (pre.length*3+2) false rfl (xs:=Val.cs (mkL Val.one Val.szM (v+1+1) y.kids)) rfl (zaC ((za0 false _).trans (by rw[zai])) rfl) (by simp[hs2,mkL,Val.cs]) (zar ((za0 false _).trans (by rw[zai])) zdK) ?_;refine evc [30] [] ?_;refine ar ?_;refine xah ((pre++[y],rest,v+Val.szM y)) ⟨⟨(by have hz:=hg1.1;rw[<-hz];simp),(by show v+Val.szM y=_;rw[zbB,hg1.2];omega)⟩,(by simp),sx ⟨⟨_,rfl,xau ?_⟩,⟨⟨_,rfl,xau ?_⟩,trivial⟩⟩ ⟨?_,trivial⟩⟩;iterate 2 focus (first|rfl|(simp;done)|omega|(refine Eq.trans (b:=v+Val.szM y) ?_ rfl;omega))
  focus (first|rfl|(show some (Res.tree _)=some (Res.tree _);rw[zbd,zc6,<-hg1.2,Val.one_kids];simp only[Val.one_sc y v,List.append_assoc,xag,List.nil_append]))
  refine CWp.split 44 (pre.length*3+2) 45 rfl (zaC ((za0 false _).trans (by rw[zai])) rfl) (by simp[hs2,Val.cs_nil,Val.cs_len,Val.cs]) (by first|rfl|(simp only[zaf,occH,occE,Res.ids,xag,List.nil_append,AV.idsL,AV.ids,zab,zaa,zad,zaj,xae,List.map_nil,upC];rfl)) (zar ((za0 false _).trans (by rw[zai])) zdK) ?_;refine evc [30] [] ?_;refine xaM sl47 .none rfl rfl rfl rfl (by first|omega|(simp[Val.cs_nil,Val.cs_len,Val.cs];omega)) ?_;refine evs [30] [] ?_;refine xaR ty47 .none rfl rfl rfl ((by rw[zaC ((za0 false _).trans (by rw[zai])) rfl];rfl)) ?_;refine evs [30] [] ?_;refine Walk.call (cr:=[]) zjJ (zgK (ih (l:=y.kids) (k:=v+1+1) (by have hm:=Vals.size_mem (v:=y) (l:=l) (by rw[<-hg1.1];simp);rw[Val.size_eq] at hm;omega) (by omega) (by omega) ((Val.ok_iff y).1 (Vals.ok_mem hok y (by rw[<-hg1.1];simp))).1 ((Val.ok_iff y).1 (Vals.ok_mem hok y (by rw[<-hg1.1];simp))).2)) rfl .none rfl rfl (.cons (xav (by first|rfl|(simp[Val.cs_nil,Val.cs_len,Val.cs];done))) (.cons (.refl _) .nil)) ⟨by first|rfl|(simp;rfl),trivial⟩ rfl (by first|rfl|(simp only[zam,List.all_cons,List.all_nil,zaz,zat,AV.idsL,AV.ids,zab,zaa,xae,List.map_nil];rfl)) (by first|rfl|(simp only[zaf,occH,occE,Res.ids,xag,List.nil_append,AV.idsL,AV.ids,zab,zaa,zad,zaj,xae,List.map_nil,upC];rfl)) ?_;refine evs [30] [] ?_;refine CWp.merge hk 44 (pre.length*3+2) 45 3 _ rfl (zaC ((za0 false _).trans (by rw[zai])) rfl) (by simp[zai,Val.cs_nil,Val.cs_len,Val.cs]) rfl Val.cs_rows rfl rfl (zar ((za0 false _).trans (by rw[zai])) zdK) ?_;refine evc [30] [] ?_;refine ar ?_;refine xah ((pre++[y],rest,v+Val.szM y)) ⟨⟨(by have hz:=hg1.1;rw[<-hz];simp),(by show v+Val.szM y=_;rw[zbB,hg1.2];omega)⟩,(by simp),sx ⟨⟨_,rfl,xau ?_⟩,⟨⟨_,rfl,xau ?_⟩,trivial⟩⟩ ⟨?_,trivial⟩⟩;iterate 2 focus (first|rfl|(simp;done)|omega|(refine Eq.trans (b:=v+Val.szM y) ?_ rfl;omega))
  focus (first|rfl|(show some (Res.tree _)=some (Res.tree _);rw[zbd,zc6,<-hg1.2,Val.one_kids];simp only[Val.one_sc y v,List.append_assoc,xag,List.nil_append]))
  try simp only[Q] at h1p
  have hrest:rest=[]:=by
   rcases rest with _|⟨a,b⟩
   ·rfl
   ·exfalso;have hz:=congrArg List.length (hg1.1);simp only[xaa,xab,xac] at hz;omega
  subst hrest;refine evc [30] [3,8,1000009] ?_;refine rn [(44,some (.tree (zac false (Val.cs (mkL Val.one Val.szM k l)))))] (r1 rfl) (.eqd ?_) ⟨rfl,rfl⟩ (SubO.get ⟨.inr ?_,⟨.inl rfl,trivial⟩⟩) (zaE rfl);rotate_left 2;all_goals (first|((first|rfl|(obtain⟨hg1,hv⟩:=hg1;rw[List.append_nil] at hg1;subst hg1;rw[hv]));done)|(first|rfl|(obtain⟨hg1,_⟩:=hg1;rw[List.append_nil] at hg1;subst hg1;show some (Res.tree _)=some (Res.tree _);simp[zaQ,Val.cs];done)))
theorem ziL {m:Bool}{v:Val}{k:Int} (h0:0<k) (h1:k+szL Val.szM v.kids<=1000000000000) (hok:v.ok):FnD Tryz.prog 38 [.agg [.d (.i v.ctor),.d (.i v.num),.ms 44 v.kids.length],.d (.i k)] [(44,some (.tree (zac m (Val.cs v.kids))))]
  (.d (.i (k+szL Val.szM v.kids))) [(44,some (.tree (zac false (Val.cs (mkL Val.one Val.szM k v.kids)))))]:=by
 rw[Val.ok_iff] at hok;refine bd Tryz.f38 10 [] [] fun w0 F0 own kept hk=>?_;refine Walk.box (id:=3002) .none rfl rfl rfl (by first|rfl|(simp only[zaf,occH,occE,Res.ids,xag,List.nil_append,AV.idsL,AV.ids,zab,zaa,zad,zaj,xae,List.map_nil,upC];rfl)) (by first|rfl|(simp only[zaf,occH,occE,Res.ids,xag,List.nil_append,AV.idsL,AV.ids,zab,zaa,zad,zaj,xae,List.map_nil,upC];rfl)) (by first|rfl|(simp only[zaf,occH,occE,Res.ids,xag,List.nil_append,AV.idsL,AV.ids,zab,zaa,zad,zaj,xae,List.map_nil,upC];rfl)) (by first|rfl|(simp only[zaf,occH,occE,Res.ids,xag,List.nil_append,AV.idsL,AV.ids,zab,zaa,zad,zaj,xae,List.map_nil,upC];rfl)) ?_;refine ev ?_;refine Walk.call (cr:=[]) zjJ (ze4 _ (Nat.le_refl _) h0 h1 hok.1 hok.2) rfl .none rfl rfl (.cons (xav (by first|rfl|(simp;done))) (.cons (.refl _) .nil)) ⟨rfl,trivial⟩ rfl (by first|rfl|(simp only[zam,List.all_cons,List.all_nil,zaz,zat,AV.idsL,AV.ids,zab,zaa,xae,List.map_nil];rfl)) (by first|rfl|(simp only[zaf,occH,occE,Res.ids,xag,List.nil_append,AV.idsL,AV.ids,zab,zaa,zad,zaj,xae,List.map_nil,upC];rfl)) ?_;refine ev ?_;focus (refine rn [(44,some (.tree (zac false (Val.cs (mkL Val.one Val.szM k v.kids)))))] (r1 rfl) (.eqd ?_) ⟨rfl,rfl⟩ (SubO.get ⟨.inr (by rfl),⟨.inl rfl,trivial⟩⟩) (zaE rfl);all_goals (first|rfl|(simp[];done)|(simp_all;done)|(simp_all;omega)|omega))
def zbV (w:List Data):Nat->Ty->Val->Bool
 |0,_,_=>false
 |n+1,t,v=>if t.data = -1 then decide (v.ctor = -1)&&(decide (0<=v.num)&&(decide (v.num<=9)&&decide (v.kids.length=0)))
   else if v.num=0/\v.ctor∈zb5 w t then all2 (zbV w n) (zaN w t v.ctor) v.kids else false
def zcg (g:Ty->Val->Int->Bool×Int):List Ty->List Val->Int->Bool×Int
 |a::r,b::s,c=>if (g a b c).1 then zcg g r s (g a b c).2 else (false,(g a b c).2)
 |_,_,c=>(true,c)
def zaM (w:List Data):Nat->Ty->Val->Int->Bool×Int
 |0,_,_,c=>(false,c+1)
 |n+1,t,v,c=>if 60<c+1 then (false,c+1)
   else if t.data = -1 then (decide (v.ctor = -1)&&(decide (0<=v.num)&&(decide (v.num<=9)&&decide (v.kids.length=0))),c+1)
   else if v.num=0/\v.ctor∈zb5 w t then (if (zaN w t v.ctor).length=v.kids.length then zcg (zaM w n) (zaN w t v.ctor) v.kids (c+1) else (false,c+1))
   else (false,c+1)
theorem zmN {w:List Data}{n:Nat} (ih:∀t v c,(zaM w n t v c).1=(zbV w n t v&&decide (c+(v.size:Int)<=60))/\((zaM w n t v c).1=true->(zaM w n t v c).2=c+v.size)):
  ∀(a:List Ty) (b:List Val) (c:Int),a.length=b.length->c<=60->(zcg (zaM w n) a b c).1=(all2 (zbV w n) a b&&decide (c+(Vals.size b:Int)<=60))/\((zcg (zaM w n) a b c).1=true->(zcg (zaM w n) a b c).2=c+Vals.size b)
 | [],[],c,_,hc=>by simp[zcg,all2,Vals.size,hc]
 |x::r,y::s,c,hl,hc=>by
  obtain⟨h1,h2⟩:=ih x y c;simp only[zcg,all2,Vals.size];cases hh:(zaM w n x y c).1 with
  |true=>
   have h3:=h2 hh;rw[hh] at h1;have h4:=h1.symm;simp only[xad,decide_eq_true_eq] at h4;obtain⟨h5,h6⟩:=zmN ih r s (zaM w n x y c).2 (by simpa using hl) (by omega);simp only[if_true];rw[h5];refine⟨?_,fun hx=>?_⟩
   ·rw[h4.1,h3,Bool.true_and];congr 1
    exact decide_eq_decide.2 (by push_cast;omega)
   ·rw[<-h5] at hx;rw[h6 hx,h3];push_cast;omega
  |false=>
   rw[hh] at h1;simp only[Bool.false_eq_true,if_false,false_implies,and_true];have h4:=h1.symm;simp only[Bool.and_eq_false_imp,decide_eq_false_iff_not] at h4;symm
   cases hf:zbV w n x y with
   |false=>simp
   |true=>
    have:=h4 hf;have h7:¬(c+((y.size+Vals.size s:Nat):Int)<=60):=by push_cast;omega
    simp only[Bool.and_eq_false_imp];intro _;exact decide_eq_false h7
 | [],_::_,_,hl,_=>by simp at hl
 |_::_,[],_,hl,_=>by simp at hl
theorem xaw {l:List Val} (h:l.length=0):Vals.size l=0:=by
 cases l with
 |nil=>rfl
 |cons x r=>simp at h
theorem zjx (w:List Data):∀(n:Nat) (t:Ty) (v:Val) (c:Int),(zaM w n t v c).1=(zbV w n t v&&decide (c+(v.size:Int)<=60))/\((zaM w n t v c).1=true->(zaM w n t v c).2=c+v.size)
 |0,t,v,c=>by simp[zaM,zbV]
 |n+1,t,v,c=>by
  have hsz:=Val.size_eq v;unfold zaM zbV;by_cases h1:60<c+1
  ·rw[if_pos h1];simp only[Bool.false_eq_true,false_implies,and_true];symm
   simp only[Bool.and_eq_false_imp,decide_eq_false_iff_not];intro _;omega
  ·rw[if_neg h1];by_cases h2:t.data = -1
   ·rw[if_pos h2,if_pos h2];refine⟨?_,fun hx=>?_⟩
    ·by_cases hk:v.kids.length=0
     ·have:=xaw hk;have h3:decide (c+(v.size:Int)<=60)=true:=decide_eq_true (by omega);rw[h3,Bool.and_true]
     ·simp[hk]
    ·simp only[xad,decide_eq_true_eq] at hx;have:=xaw hx.2.2.2;simp only;omega
   ·rw[if_neg h2,if_neg h2];by_cases h3:v.num=0/\v.ctor∈zb5 w t
    ·rw[if_pos h3,if_pos h3];by_cases h4:(zaN w t v.ctor).length=v.kids.length
     ·rw[if_pos h4];obtain⟨h5,h6⟩:=zmN (fun t v c=>zjx w n t v c) (zaN w t v.ctor) v.kids (c+1) h4 (by omega);refine⟨?_,fun hx=>?_⟩
      ·rw[h5];congr 1
       exact decide_eq_decide.2 (by omega)
      ·rw[h6 hx];omega
     ·rw[if_neg h4,zdk h4];simp
    ·rw[if_neg h3,if_neg h3];simp
mutual
def cntV (m:Int):Val->Int
 | .mk _ _ ks=>cntL m 1 ks
def cntL (m n:Int):List Val->Int
 | []=>n
 |k::r=>if n<=m then cntL m (n+cntV (m-n) k) r else n
end
theorem zpU (m:Int) (v:Val):cntV m v=cntL m 1 v.kids:=by cases v;rfl
theorem zk9 {m n:Int}{l:List Val} (h:¬n<=m):cntL m n l=n:=by cases l<;>simp[cntL,h]
mutual
theorem zfJ:∀(v:Val) (m:Int),1<=cntV m v/\cntV m v<=v.size
 | .mk _ _ ks,m=>by
  have:=zkF ks m 1 (by omega);simp only[cntV,Val.size];push_cast;omega
theorem zkF:∀(l:List Val) (m n:Int),1<=n->1<=cntL m n l/\cntL m n l<=n+Vals.size l
 | [],m,n,h=>by simp[cntL,Vals.size];omega
 |k::r,m,n,h=>by
  have h1:=zfJ k (m-n);have h2:=zkF r m (n+cntV (m-n) k) (by omega);simp only[cntL,Vals.size];split
  ·push_cast;omega
  ·push_cast;omega
end
mutual
theorem zmn:∀(v:Val) (m:Int),(cntV m v<=m↔(v.size:Int)<=m)/\(cntV m v<=m->cntV m v=v.size)
 | .mk _ _ ks,m=>by
  have:=zml ks m 1;simp only[cntV,Val.size];push_cast;exact this
theorem zml:∀(l:List Val) (m n:Int),(cntL m n l<=m↔n+(Vals.size l:Int)<=m)/\(cntL m n l<=m->cntL m n l=n+Vals.size l)
 | [],m,n=>by simp[cntL,Vals.size]
 |k::r,m,n=>by
  have h1:=zmn k (m-n);have h2:=zml r m (n+cntV (m-n) k);have h3:=zkF r m (n+cntV (m-n) k);have h4:=zfJ k (m-n);simp only[cntL,Vals.size];push_cast
  by_cases hn:n<=m
  ·rw[if_pos hn];by_cases h5:cntV (m-n) k<=m-n
   ·have h6:=h1.2 h5;rw[h6] at h2 ⊢;constructor
    ·rw[h2.1];constructor<;>intro h<;>omega
    ·intro h;rw[h2.2 h];omega
   ·have h7:¬(k.size:Int)<=m-n:=fun h=>h5 (h1.1.2 h);have h8:¬n+cntV (m-n) k<=m:=by omega
    rw[zk9 h8];constructor
    ·constructor<;>intro h<;>omega
    ·intro h;omega
  ·rw[if_neg hn];constructor
   ·constructor<;>intro h<;>omega
   ·intro h;omega
end
theorem Vals.size_split {pre rest l:List Val}{y:Val} (h:pre++y::rest=l):Vals.size l=Vals.size pre+y.size+Vals.size rest:=by
 subst h;induction pre with
 |nil=>simp[Vals.size]
 |cons x r ih=>simp only[xag,Vals.size,ih];omega
theorem zjq {l:List Val}{i:Nat} (h:i<l.length):(nth l i).size<=Vals.size l:=Vals.size_mem (zap h)
theorem zgk {l:List Val}{i:Nat} (h:i<l.length):Vals.size (l.drop i)=(nth l i).size+Vals.size (l.drop (i+1)):=by
 rw[zaS h];rfl
theorem zgl:∀(n:Nat){v:Val}{m:Int},v.size<=n->v.size<=1000000000000->v.ok->0<=m->m<=1000000000000->FnD Tryz.prog 192 [.agg [.d (.i v.ctor),.d (.i v.num),.d (zaq v.kids)],.d (.i m)] [] (.d (.i (cntV m v))) []
 |0,v,m,h,_,_,_,_=>by rw[Val.size_eq] at h;omega
 |n+1,v,m,h,hb,hok,m0,m1=>by
  rw[Val.size_eq] at h hb;rw[Val.ok_iff] at hok;rw[zpU];refine bd Tryz.f192 31 [] [] fun w0 F0 own kept hk=>?_;refine bx 3002 ?_;refine ev ?_;refine xam (ι:=Nat×Int) hk (fun x=>[(6,.d (.i (x.1:Int))),(5,.d (.i x.2))]) [7,8,9,10,11,12,13,14,15,16,17,18,19,20,21,22,23,24,25,26,27,28,29] (fun x=>[]) (fun x=>x.1<=v.kids.length/\cntL m x.2 (v.kids.drop x.1)=cntL m 1 v.kids/\1<=x.2/\x.2+Vals.size (v.kids.drop x.1)<=1+Vals.size v.kids) (fun x=>v.kids.length-x.1) (0,1) ⟨by simp,by simp,by simp,by simp⟩ ⟨⟨_,rfl,xau ?_⟩,⟨⟨_,rfl,xau ?_⟩,trivial⟩⟩ trivial (fun x=>rfl) (fun x hg1=>?_);iterate 2 focus (first|rfl|(simp;done)|(dsimp only;omega))
  refine evc [] [] ?_;refine sq ?_ ?_<;>intro h1 h1p h1s<;>(try simp only[Q,Val.cs_len] at h1p);refine sq ?_ ?_<;>intro h2 h2p h2s<;>(try simp only[Q,Val.cs_len] at h2p);refine xaK sl47 .none rfl rfl rfl rfl (zed (by omega)) rfl ?_;refine ev ?_;refine ar ?_ (by first|(constructor<;>omega)|(have hz:=zfJ (nth v.kids x.1) (m-x.2);have hs:=zgk (l:=v.kids) (i:=x.1) (by omega);constructor<;>omega)|(constructor<;>simp[Val.cs_len]<;>omega));refine wc znY (zgl n (v:=nth v.kids x.1) (by have:=zjq (l:=v.kids) (i:=x.1) (by omega);omega) (by have:=zjq (l:=v.kids) (i:=x.1) (by omega);omega) (Vals.ok_mem hok.2 _ (zap (by omega))) (by omega) (by omega)) rfl rfl ?_;refine ev ?_;refine ar ?_ (by first|(constructor<;>omega)|(have hz:=zfJ (nth v.kids x.1) (m-x.2);have hs:=zgk (l:=v.kids) (i:=x.1) (by omega);constructor<;>omega)|(constructor<;>simp[Val.cs_len]<;>omega));refine ar ?_ (by first|(constructor<;>omega)|(have hz:=zfJ (nth v.kids x.1) (m-x.2);have hs:=zgk (l:=v.kids) (i:=x.1) (by omega);constructor<;>omega)|(constructor<;>simp[Val.cs_len]<;>omega));refine xah ((x.1+1,x.2+cntV (m-x.2) (nth v.kids x.1))) ⟨(by
      have hz:=zfJ (nth v.kids x.1) (m-x.2);have hs:=zgk (l:=v.kids) (i:=x.1) (by omega);refine⟨by dsimp only;omega, ?_,by dsimp only;omega,by dsimp only;omega⟩;rw[<-hg1.2.1,zaS (l:=v.kids) (i:=x.1) (by omega),cntL,if_pos (by omega)]),(by dsimp only;omega),sx ⟨⟨_,rfl,xau ?_⟩,⟨⟨_,rfl,xau ?_⟩,trivial⟩⟩ trivial⟩
  iterate 2 focus (first|rfl|(simp;done)|(dsimp only;omega))
  refine rq ?_;rotate_left;refine sqF ?_;refine rq ?_;rotate_left;all_goals (refine congrArg D.i ?_;rw[<-hg1.2.1];first|(rw[List.drop_eq_nil_of_le (by omega)];rfl)|(rw[zk9 (by omega)]))
theorem zgQ {w:List Data} (hw:WT w):∀(n:Nat){a k m:Int}{v:Val},m=n->n<=1000->TyIn w.length ⟨a,k⟩->v.ok->
  FnD Tryz.prog 191 [.d (zao w),.agg [.d (.i a),.d (.i k)],.agg [.d (.i v.ctor),.d (.i v.num),.d (zaq v.kids)],.d (.i m)] [] (.d (.bool (zbV w n ⟨a,k⟩ v))) []
 |0,a,k,m,v,hm,_,_,_=>by
  refine bd Tryz.f191 78 [] [] fun w0 F0 own kept hk=>?_;refine bx 3005 ?_;refine bx 3006 ?_;refine ev ?_;refine sq ?_ ?_<;>intro h1 h1p h1s<;>(try simp only[Q] at h1p);refine rq ?_;rotate_left;exfalso;simp at h1;omega;all_goals (rfl)
 |n+1,a,k,m,v,hm,hn,ht,hok=>by
  rcases ht with ha|⟨d,hd,hlt⟩
  ·have ha':a = -1:=ha;subst ha';refine bd Tryz.f191 78 [] [] fun w0 F0 own kept hk=>?_;refine bx 3005 ?_;refine bx 3006 ?_;refine ev ?_;refine sq ?_ ?_<;>intro h1 h1p h1s<;>(try simp only[Q] at h1p);exfalso;simp at h1;omega;refine sq ?_ ?_<;>intro h2 h2p h2s<;>(try simp only[Q] at h2p);refine sq ?_ ?_<;>intro h3 h3p h3s<;>(try simp only[Q] at h3p);refine sq ?_ ?_<;>intro h4 h4p h4s<;>(try simp only[Q] at h4p);refine sq ?_ ?_<;>intro h5 h5p h5s<;>(try simp only[Q] at h5p);focus (refine rq ?_;all_goals (refine congrArg D.bool ?_;simp[zbV,Val.cs_len,h1s,h1p,h2s,h2p,h3s,h3p,h4s,h4p,h5s,h5p]))
   focus (refine rq ?_;all_goals (refine congrArg D.bool ?_;simp[zbV,Val.cs_len,h1s,h1p,h2s,h2p,h3s,h3p,h4s,h4p,h5s,h5p]))
   refine sqF ?_;focus (refine rq ?_;all_goals (refine congrArg D.bool ?_;simp[zbV,Val.cs_len,h1s,h1p,h2s,h2p,h3s,h3p,h4s,h4p]))
   refine sqF ?_;refine sqF ?_;focus (refine rq ?_;all_goals (refine congrArg D.bool ?_;simp[zbV,Val.cs_len,h1s,h1p,h2s,h2p,h3s,h3p]))
   exact absurd h2 (by simp)
  have hd':a=(d:Int):=hd;subst hd';have hok':=hok;rw[Val.ok_iff] at hok;have hcl:=zgq hw (d:=d) (k:=k);have hdn:¬(d:Int) = -1:=by omega
  by_cases hv:v.num=0/\v.ctor∈zb5 w ⟨d,k⟩
  ·have hal:=zfo hw hlt (k:=k) (zdt (k:=k) (c:=v.ctor) hv.2);refine bd Tryz.f191 78 [] [] fun w0 F0 own kept hk=>?_;refine bx 3005 ?_;refine bx 3006 ?_;refine ev ?_;refine sq ?_ ?_<;>intro h1 h1p h1s<;>(try simp only[Q,Val.cs_len] at h1p);exfalso;simp at h1;omega;refine sq ?_ ?_<;>intro h2 h2p h2s<;>(try simp only[Q,Val.cs_len] at h2p);exfalso;simp at h2<;>omega;refine sq ?_ ?_<;>intro h3 h3p h3s<;>(try simp only[Q,Val.cs_len] at h3p);refine dr ?_;refine sqT ?_;exfalso;have e1:=hv.1;have e2:=hv.2;simp_all;refine Walk.call (cr:=[]) zgB (zex hw hlt) rfl (.some rfl rfl h3) rfl rfl (LeL.refl _) trivial rfl rfl rfl ?_;refine evd [] [(38,false)] ?_ ⟨⟨_,rfl,h3⟩,trivial⟩;refine Walk.call (cr:=[]) zgC (zcu hcl) rfl (.some rfl rfl h3) rfl rfl (LeL.refl _) trivial rfl rfl rfl ?_;refine evd [] [(38,false)] ?_ ⟨⟨_,rfl,h3⟩,trivial⟩;refine dr ?_;refine sq ?_ ?_<;>intro h5 h5p h5s<;>(try simp only[Q,Val.cs_len] at h5p);exfalso;have e1:=hv.1;have e2:=hv.2;simp_all;refine wc zn5 (zgO hw hlt (zdt (k:=k) (c:=v.ctor) hv.2)) rfl rfl ?_;refine ev ?_;refine sq ?_ ?_<;>intro h6 h6p h6s<;>(try simp only[Q,Val.cs_len] at h6p);refine rq ?_;rotate_left;refine xam (ι:=Nat) hk (fun i=>[(10,.d (.i (i:Int)))]) [8,58,59,60,61,62,63,64,65,66,67,68,69,70,71,72,73,74,75,76,77] (fun i=>[]) (fun i=>i<=(zaN w ⟨d,k⟩ v.ctor).length/\∀i',i'<i->zbV w n (nth (zaN w ⟨d,k⟩ v.ctor) i') (nth v.kids i')=true) (fun i=>(zaN w ⟨d,k⟩ v.ctor).length-i) 0 ⟨by omega,fun _ h=>absurd h (by omega)⟩ ⟨⟨_,rfl,xau ?_⟩,trivial⟩ trivial (fun x=>rfl) (fun i hg1=>?_);focus (first|rfl|(simp;done)|(simp_all;done)|omega)
   refine evc [] [] ?_;refine sq ?_ ?_<;>intro h7 h7p h7s<;>(try simp only[Q,Val.cs_len] at h7p);refine xaK zaV .none rfl rfl rfl rfl (zau (by omega)) rfl ?_;refine evd [] [] ?_;refine xaK sl47 .none rfl rfl rfl rfl (zed (by omega)) rfl ?_;refine evd [] [] ?_;refine ar ?_ (by first|(constructor<;>omega)|(constructor<;>simp[Val.cs_len]<;>omega));refine wc znX (zgQ hw n (by omega) (by omega) (zhC hw hlt (k:=k) (zdt (k:=k) (c:=v.ctor) hv.2) (zap (by omega))) (Vals.ok_mem hok.2 _ (zap (by omega)))) rfl rfl ?_;refine evd [] [] ?_;refine dr ?_;refine sq ?_ ?_<;>intro h8 h8p h8s<;>(try simp only[Q,Val.cs_len] at h8p);refine rq ?_;rotate_left;refine ar ?_ (by first|(constructor<;>omega)|(constructor<;>simp[Val.cs_len]<;>omega));refine xah (i+1) ⟨⟨by omega,zaL hg1.2 (by assumption)⟩,(by omega),sx ⟨⟨_,rfl,xau ?_⟩,trivial⟩ trivial⟩;focus (first|rfl|(simp;done)|(simp_all;done)|omega)
   refine rq ?_;rotate_left;all_goals (refine congrArg D.bool ?_;unfold zbV;rw[if_neg hdn,if_pos hv];first|(rw[zdk (by simp[Val.cs_len] at *;omega)])|(rw[zc2 (by simp[Val.cs_len] at *;omega) (fun x hx=>hg1.2 x (by simp[Val.cs_len] at *;omega))])|(rw[zbT (i:=i) (by simp[Val.cs_len] at *;omega) (by simp[Val.cs_len] at *;omega) (by assumption)]))
  ·skip
   refine bd Tryz.f191 78 [] [] fun w0 F0 own kept hk=>?_;refine bx 3005 ?_;refine bx 3006 ?_;refine ev ?_;refine sq ?_ ?_<;>intro h1 h1p h1s<;>(try simp only[Q] at h1p);exfalso;simp at h1;omega;refine sq ?_ ?_<;>intro h2 h2p h2s<;>(try simp only[Q] at h2p);exfalso;simp at h2<;>omega;refine sq ?_ ?_<;>intro h3 h3p h3s<;>(try simp only[Q] at h3p);refine dr ?_;refine sqT ?_;refine rq ?_;rotate_left;refine Walk.call (cr:=[]) zgB (zex hw hlt) rfl (.some rfl rfl h3) rfl rfl (LeL.refl _) trivial rfl rfl rfl ?_;refine evd [] [(38,false)] ?_ ⟨⟨_,rfl,h3⟩,trivial⟩;refine Walk.call (cr:=[]) zgC (zcu hcl) rfl (.some rfl rfl h3) rfl rfl (LeL.refl _) trivial rfl rfl rfl ?_;refine evd [] [(38,false)] ?_ ⟨⟨_,rfl,h3⟩,trivial⟩;refine dr ?_;refine sq ?_ ?_<;>intro h5 h5p h5s<;>(try simp only[Q] at h5p);refine rq ?_;rotate_left;exfalso;simp_all;all_goals (refine congrArg D.bool ?_;unfold zbV;rw[if_neg hdn,if_neg hv])
def isV (w:List Data) (t:Ty) (v:Val):Bool:=zbV w 10 t v&&decide ((v.size:Int)<=60)
theorem zmR {w:List Data} (hw:WT w){a k:Int}{v:Val} (ht:TyIn w.length ⟨a,k⟩) (hok:v.ok) (hb:v.size<=1000000000000):
  FnD Tryz.prog 105 [.d (zao w),.agg [.d (.i a),.d (.i k)],.agg [.d (.i v.ctor),.d (.i v.num),.d (zaq v.kids)]] [] (.d (.bool (isV w ⟨a,k⟩ v))) []:=by
 have hc:=zmn v 60;refine bd Tryz.f105 16 [] [] fun w0 F0 own kept hk=>?_;refine bx 3004 ?_;refine bx 3005 ?_;refine ev ?_;refine wc znX (zgQ hw 10 (by omega) (by omega) ht hok) rfl rfl ?_;refine ev ?_;refine sq ?_ ?_<;>intro h1 h1p h1s<;>(try simp only[Q] at h1p);refine Walk.call (cr:=[]) znY (zgl _ (Nat.le_refl _) hb hok (by omega) (by omega)) rfl (.some rfl rfl h1) rfl rfl (LeL.refl _) trivial rfl rfl rfl ?_;refine evs [] [(11,true)] ?_ ⟨⟨_,rfl,h1⟩,trivial⟩;focus (refine rq ?_;all_goals (refine congrArg D.bool ?_;unfold isV;simp only[h1s,h1p];first|rfl|(simp only[Bool.true_and];exact decide_eq_decide.2 hc.1)|(simp;done)))
 focus (refine rq ?_;all_goals (refine congrArg D.bool ?_;unfold isV;simp only[h1s,h1p];first|rfl|(simp only[Bool.true_and];exact decide_eq_decide.2 hc.1)|(simp;done)))
theorem zkk {w:List Data}{n:Nat}{a:List Ty}{b:List Val}{i:Nat}{c:Int} (ha:i<a.length) (hl:a.length=b.length) (h:(zaM w n (nth a i) (nth b i) c).1=false):
  zcg (zaM w n) (a.drop i) (b.drop i) c=(false,(zaM w n (nth a i) (nth b i) c).2):=by
 rw[zaS ha,zaS (l:=b) (by omega),zcg,if_neg (by rw[h];simp)]
theorem znG {w:List Data}{n:Nat}{a:List Ty}{b:List Val}{i:Nat}{c:Int} (ha:i<a.length) (hl:a.length=b.length) (h:(zaM w n (nth a i) (nth b i) c).1=true):
  zcg (zaM w n) (a.drop i) (b.drop i) c=zcg (zaM w n) (a.drop (i+1)) (b.drop (i+1)) (zaM w n (nth a i) (nth b i) c).2:=by
 rw[zaS ha,zaS (l:=b) (by omega),zcg,if_pos h]
theorem zlv {w:List Data}{n:Nat}{a:List Ty}{b:List Val}{i:Nat}{c:Int} (ha:a.length<=i):zcg (zaM w n) (a.drop i) (b.drop i) c=(true,c):=by
 rw[List.drop_eq_nil_of_le ha,zcg];simp
theorem zpe (w:List Data) (n:Nat) (t:Ty) (v:Val) (c:Int) (h:(zaM w n t v c).1=true):c<=(zaM w n t v c).2/\(zaM w n t v c).2<=60:=by
 have h1:=(zjx w n t v c);have h2:=h1.2 h;rw[h1.1] at h;simp only[xad,decide_eq_true_eq] at h;omega
theorem zfi {w:List Data} (hw:WT w):∀(n:Nat){a k d c:Int}{v:Val},d+n=11->n<=10->TyIn w.length ⟨a,k⟩->v.ok->0<=c->c<=1000000000000->
  FnD Tryz.prog 145 [.d (zao w),.agg [.d (.i a),.d (.i k)],.agg [.d (.i v.ctor),.d (.i v.num),.d (zaq v.kids)],.d (.i d),.d (.bool false),.ref 950 0] [(950,some (.box [.d (.i c)]))]
   (.d (.bool (zaM w n ⟨a,k⟩ v c).1)) [(950,some (.box [.d (.i (zaM w n ⟨a,k⟩ v c).2)]))]
 |0,a,k,d,c,v,hd,_,_,_,c0,c1=>by
  refine bd Tryz.f145 108 [] [] fun w0 F0 own kept hk=>?_;refine bx 3007 ?_;refine bx 3008 ?_;refine ev ?_;refine ar ?_;refine so ty3 ?_;refine tv ?_;refine sq ?_ ?_<;>intro h1 h1p h1s<;>(try simp only[Q] at h1p);refine sqT ?_;refine rn [(950,some (.box [.d (.i (zaM w 0 ⟨a,k⟩ v c).2)]))] (r1 rfl) (.eqd ?_) ⟨rfl,rfl⟩ (SubO.get ⟨.inr ?_,⟨.inl rfl,trivial⟩⟩) (zaE rfl);rotate_left 2;refine sq ?_ ?_<;>intro h3 h3p h3s<;>(try simp only[Q] at h3p);refine rn [(950,some (.box [.d (.i (zaM w 0 ⟨a,k⟩ v c).2)]))] (r1 rfl) (.eqd ?_) ⟨rfl,rfl⟩ (SubO.get ⟨.inr ?_,⟨.inl rfl,trivial⟩⟩) (zaE rfl);rotate_left 2;exfalso;simp at *;omega;all_goals (first|((rfl);done)|(rfl))
 |n+1,a,k,d,c,v,hd,hn,ht,hok,c0,c1=>by
  by_cases h60:60<c+1
  ·skip
   refine bd Tryz.f145 108 [] [] fun w0 F0 own kept hk=>?_;refine bx 3007 ?_;refine bx 3008 ?_;refine ev ?_;refine ar ?_;refine so ty3 ?_;refine tv ?_;refine sq ?_ ?_<;>intro h1 h1p h1s<;>(try simp only[Q] at h1p);refine sqT ?_;refine rn [(950,some (.box [.d (.i (zaM w (n+1) ⟨a,k⟩ v c).2)]))] (r1 rfl) (.eqd ?_) ⟨rfl,rfl⟩ (SubO.get ⟨.inr ?_,⟨.inl rfl,trivial⟩⟩) (zaE rfl);rotate_left 2;refine sq ?_ ?_<;>intro h3 h3p h3s<;>(try simp only[Q] at h3p);refine rn [(950,some (.box [.d (.i (zaM w (n+1) ⟨a,k⟩ v c).2)]))] (r1 rfl) (.eqd ?_) ⟨rfl,rfl⟩ (SubO.get ⟨.inr ?_,⟨.inl rfl,trivial⟩⟩) (zaE rfl);rotate_left 2;exfalso;simp at *;omega;all_goals (first|((unfold zaM;rw[if_pos h60]);done)|((unfold zaM;rw[if_pos h60];rfl)))
  rcases ht with ha|⟨e,he,hlt⟩
  ·have ha':a = -1:=ha;subst ha';refine bd Tryz.f145 108 [] [] fun w0 F0 own kept hk=>?_;refine bx 3007 ?_;refine bx 3008 ?_;refine ev ?_;refine ar ?_;refine so ty3 ?_;refine tv ?_;refine sq ?_ ?_<;>intro h1 h1p h1s<;>(try simp only[Q] at h1p);refine sqT ?_;exfalso;simp at *;omega;refine sq ?_ ?_<;>intro h3 h3p h3s<;>(try simp only[Q] at h3p);exfalso;simp at *;omega;refine sqF ?_;refine sqF ?_;refine sq ?_ ?_<;>intro h5 h5p h5s<;>(try simp only[Q] at h5p);refine sq ?_ ?_<;>intro h6 h6p h6s<;>(try simp only[Q] at h6p);refine Walk.call (cr:=[]) zcP (zaZ) rfl (.some rfl rfl h6) rfl rfl (LeL.refl _) trivial rfl rfl rfl ?_;refine evs [] [(52,true)] ?_ ⟨⟨_,rfl,h6⟩,trivial⟩;refine sq ?_ ?_<;>intro h7 h7p h7s<;>(try simp only[Q] at h7p);refine rn [(950,some (.box [.d (.i (zaM w (n+1) ⟨-1,k⟩ v c).2)]))] (r1 rfl) (.eqd ?_) ⟨rfl,rfl⟩ (SubO.get ⟨.inr ?_,⟨.inl rfl,trivial⟩⟩) (zaE rfl);rotate_left 2;refine rn [(950,some (.box [.d (.i (zaM w (n+1) ⟨-1,k⟩ v c).2)]))] (r1 rfl) (.eqd ?_) ⟨rfl,rfl⟩ (SubO.get ⟨.inr ?_,⟨.inl rfl,trivial⟩⟩) (zaE rfl);rotate_left 2;refine sqF ?_;refine rn [(950,some (.box [.d (.i (zaM w (n+1) ⟨-1,k⟩ v c).2)]))] (r1 rfl) (.eqd ?_) ⟨rfl,rfl⟩ (SubO.get ⟨.inr ?_,⟨.inl rfl,trivial⟩⟩) (zaE rfl);rotate_left 2;exact absurd h5 (by simp);all_goals (first|((refine congrArg D.bool ?_;unfold zaM;rw[if_neg h60,if_pos rfl];simp only[zay] at *;first|(simp_all[Val.cs_len];done)|(simp_all[Val.cs_len];intro h1 h2;omega));done)|((unfold zaM;rw[if_neg h60,if_pos rfl];rfl)))
  have he':a=(e:Int):=he;subst he';have hok':=hok;rw[Val.ok_iff] at hok;have hcl:=zgq hw (d:=e) (k:=k);have hdn:¬(e:Int) = -1:=by omega
  by_cases hv:v.num=0/\v.ctor∈zb5 w ⟨e,k⟩
  ·have hal:=zfo hw hlt (k:=k) (zdt (k:=k) (c:=v.ctor) hv.2);by_cases hlen:(zaN w ⟨e,k⟩ v.ctor).length=v.kids.length
   ·have hsc:zaM w (n+1) ⟨e,k⟩ v c=zcg (zaM w n) (zaN w ⟨e,k⟩ v.ctor) v.kids (c+1):=by
     conv=>lhs;unfold zaM
     rw[if_neg h60,if_neg hdn,if_pos hv,if_pos hlen]
    rw[hsc];refine bd Tryz.f145 108 [] [] fun w0 F0 own kept hk=>?_;refine bx 3007 ?_;refine bx 3008 ?_;refine ev ?_;refine ar ?_ (by(constructor<;>omega));refine so ty3 ?_;refine tv ?_;refine sq ?_ ?_<;>intro h1 h1p h1s<;>(try simp only[Q,Val.cs_len,Ty.eta] at h1p);refine sqT ?_;exfalso;simp at *;omega;refine sq ?_ ?_<;>intro h3 h3p h3s<;>(try simp only[Q,Val.cs_len,Ty.eta] at h3p);exfalso;simp at *;omega;refine sqF ?_;refine sqF ?_;refine sq ?_ ?_<;>intro h5 h5p h5s<;>(try simp only[Q,Val.cs_len,Ty.eta] at h5p);exfalso;simp at * <;>omega;refine sq ?_ ?_<;>intro h6 h6p h6s<;>(try simp only[Q,Val.cs_len,Ty.eta] at h6p);refine dr ?_;refine sqT ?_;exfalso;have e1:=hv.1;have e2:=hv.2;simp_all;refine Walk.call (cr:=[]) zhF (zdd hw hlt) rfl (.some rfl rfl h6) rfl rfl (LeL.refl _) trivial rfl rfl rfl ?_;refine evd [] [(67,false)] ?_ ⟨⟨_,rfl,h6⟩,trivial⟩;refine Walk.call (cr:=[]) zhG (zbw hcl) rfl (.some rfl rfl h6) rfl rfl (LeL.refl _) trivial rfl rfl rfl ?_;refine evd [] [(67,false)] ?_ ⟨⟨_,rfl,h6⟩,trivial⟩;refine dr ?_;refine sq ?_ ?_<;>intro h8 h8p h8s<;>(try simp only[Q,Val.cs_len,Ty.eta] at h8p);exfalso;have e1:=hv.1;have e2:=hv.2;simp_all;refine wc zmc (zd0 hw hlt (zdt (k:=k) (c:=v.ctor) hv.2)) rfl rfl ?_;refine ev ?_;refine sq ?_ ?_<;>intro h9 h9p h9s<;>(try simp only[Q,Val.cs_len,Ty.eta] at h9p);exfalso;simp[Val.cs_len,hlen] at h9;refine xam (ι:=Nat×Int) hk (fun x=>[(90,.d (.i (x.1:Int)))]) [12,14,15,91,92,93,94,95,96,97,98,99,100,101,102,103,104,105,106,107] (fun x=>[(950,some (.box [.d (.i x.2)]))]) (fun x=>x.1<=v.kids.length/\zcg (zaM w n) ((zaN w ⟨e,k⟩ v.ctor).drop x.1) (v.kids.drop x.1) x.2=zcg (zaM w n) (zaN w ⟨e,k⟩ v.ctor) v.kids (c+1)/\0<=x.2/\x.2<=60) (fun x=>v.kids.length-x.1) (0,c+1) ⟨by simp,by simp,by dsimp only;omega,by dsimp only;omega⟩ ⟨⟨_,rfl,xau ?_⟩,trivial⟩ ⟨?_,trivial⟩ (fun x=>rfl) (fun x hg1=>?_);focus (rfl)
    focus (first|rfl|(simp[getH];done))
    refine evc [] [] ?_;refine sq ?_ ?_<;>intro h10 h10p h10s<;>(try simp only[Q,Val.cs_len,Ty.eta] at h10p);refine xaK sl47 .none rfl rfl rfl rfl (zed (by omega)) rfl ?_;refine ev ?_;refine ab 3015 tz49 ?_;refine ev ?_;refine so ty49 ?_;refine tv ?_;refine xaK zaV .none rfl rfl rfl rfl (zau (by omega)) rfl ?_;refine evd [] [] ?_;refine ar ?_ (by(constructor<;>omega));refine wd znQ (zfi hw n (a:=(nth (zaN w ⟨e,k⟩ v.ctor) x.1).data) (k:=(nth (zaN w ⟨e,k⟩ v.ctor) x.1).index) (c:=x.2) (by omega) (by omega) (zhC hw hlt (k:=k) (zdt (k:=k) (c:=v.ctor) hv.2) (zap (by omega))) (Vals.ok_mem hok.2 _ (zap (by omega))) (by omega) (by omega)) rfl rfl ⟨rfl,trivial⟩ ?_;refine evd [] [] ?_;refine dr ?_;refine sq ?_ ?_<;>intro h11 h11p h11s<;>(try simp only[Q,Val.cs_len,Ty.eta] at h11p);refine rn [(950,some (.box [.d (.i (zcg (zaM w n) (zaN w ⟨e,k⟩ v.ctor) v.kids (c+1)).2)]))] (r1 rfl) (.eqd ?_) ⟨rfl,rfl⟩ (SubO.get ⟨.inr ?_,⟨.inl rfl,trivial⟩⟩) (zaE rfl);rotate_left 2;refine ar ?_ (by(constructor<;>omega));refine xah ((x.1+1,(zaM w n (nth (zaN w ⟨e,k⟩ v.ctor) x.1) (nth v.kids x.1) x.2).2)) ⟨(by
          have hz:(zaM w n (nth (zaN w ⟨e,k⟩ v.ctor) x.1) (nth v.kids x.1) x.2).1=true:=by simp_all
          have hb:=zpe w n _ _ _ hz;obtain⟨h1,h2,h3,h4⟩:=hg1;refine⟨by dsimp only;omega, ?_,by dsimp only;omega,by dsimp only;omega⟩;rw[<-h2,znG (i:=x.1) (by omega) hlen hz]),(by dsimp only;omega),sx ⟨⟨_,rfl,xau ?_⟩,trivial⟩ ⟨?_,trivial⟩⟩
    focus (rfl)
    focus (first|rfl|(simp[getH];done))
    refine rn [(950,some (.box [.d (.i (zcg (zaM w n) (zaN w ⟨e,k⟩ v.ctor) v.kids (c+1)).2)]))] (r1 rfl) (.eqd ?_) ⟨rfl,rfl⟩ (SubO.get ⟨.inr ?_,⟨.inl rfl,trivial⟩⟩) (zaE rfl);rotate_left 2;all_goals (first|((refine congrArg D.bool ?_;first|(obtain⟨h1,h2,h3,h4⟩:=hg1;rw[<-h2,zlv (by simp[Val.cs_len] at *;omega)])|(obtain⟨h1,h2,h3,h4⟩:=hg1;rw[<-h2,zkk (by simp[Val.cs_len] at *;omega) hlen (by simp_all)]));done)|(first|(obtain⟨h1,h2,h3,h4⟩:=hg1;show some (Res.box _)=some (Res.box _);rw[<-h2,zlv (by simp[Val.cs_len] at *;omega)])|(obtain⟨h1,h2,h3,h4⟩:=hg1;show some (Res.box _)=some (Res.box _);rw[<-h2,zkk (by simp[Val.cs_len] at *;omega) hlen (by simp_all)])))
   ·have hsc:zaM w (n+1) ⟨e,k⟩ v c=(false,c+1):=by
     conv=>lhs;unfold zaM
     rw[if_neg h60,if_neg hdn,if_pos hv,if_neg hlen]
    rw[hsc];refine bd Tryz.f145 108 [] [] fun w0 F0 own kept hk=>?_;refine bx 3007 ?_;refine bx 3008 ?_;refine ev ?_;refine ar ?_;refine so ty3 ?_;refine tv ?_;refine sq ?_ ?_<;>intro h1 h1p h1s<;>(try simp only[Q,Val.cs_len] at h1p);refine sqT ?_;exfalso;simp at *;omega;refine sq ?_ ?_<;>intro h3 h3p h3s<;>(try simp only[Q,Val.cs_len] at h3p);exfalso;simp at *;omega;refine sqF ?_;refine sqF ?_;refine sq ?_ ?_<;>intro h5 h5p h5s<;>(try simp only[Q,Val.cs_len] at h5p);exfalso;simp at * <;>omega;refine sq ?_ ?_<;>intro h6 h6p h6s<;>(try simp only[Q,Val.cs_len] at h6p);refine dr ?_;refine sqT ?_;exfalso;have e1:=hv.1;have e2:=hv.2;simp_all;refine Walk.call (cr:=[]) zhF (zdd hw hlt) rfl (.some rfl rfl h6) rfl rfl (LeL.refl _) trivial rfl rfl rfl ?_;refine evd [] [(67,false)] ?_ ⟨⟨_,rfl,h6⟩,trivial⟩;refine Walk.call (cr:=[]) zhG (zbw hcl) rfl (.some rfl rfl h6) rfl rfl (LeL.refl _) trivial rfl rfl rfl ?_;refine evd [] [(67,false)] ?_ ⟨⟨_,rfl,h6⟩,trivial⟩;refine dr ?_;refine sq ?_ ?_<;>intro h8 h8p h8s<;>(try simp only[Q,Val.cs_len] at h8p);exfalso;have e1:=hv.1;have e2:=hv.2;simp_all;refine wc zmc (zd0 hw hlt (zdt (k:=k) (c:=v.ctor) hv.2)) rfl rfl ?_;refine ev ?_;refine sq ?_ ?_<;>intro h9 h9p h9s<;>(try simp only[Q,Val.cs_len] at h9p);refine rn [(950,some (.box [.d (.i (c+1))]))] (r1 rfl) (.eqd ?_) ⟨rfl,rfl⟩ (SubO.get ⟨.inr ?_,⟨.inl rfl,trivial⟩⟩) (zaE rfl);rotate_left 2;exfalso;simp[Val.cs_len] at h9;omega;all_goals (first|((rfl);done)|(rfl))
  ·have hsc:zaM w (n+1) ⟨e,k⟩ v c=(false,c+1):=by
    conv=>lhs;unfold zaM
    rw[if_neg h60,if_neg hdn,if_neg hv]
   rw[hsc];refine bd Tryz.f145 108 [] [] fun w0 F0 own kept hk=>?_;refine bx 3007 ?_;refine bx 3008 ?_;refine ev ?_;refine ar ?_;refine so ty3 ?_;refine tv ?_;refine sq ?_ ?_<;>intro h1 h1p h1s<;>(try simp only[Q] at h1p);refine sqT ?_;exfalso;simp at *;omega;refine sq ?_ ?_<;>intro h3 h3p h3s<;>(try simp only[Q] at h3p);exfalso;simp at *;omega;refine sqF ?_;refine sqF ?_;refine sq ?_ ?_<;>intro h5 h5p h5s<;>(try simp only[Q] at h5p);exfalso;simp at * <;>omega;refine sq ?_ ?_<;>intro h6 h6p h6s<;>(try simp only[Q] at h6p);refine dr ?_;refine sqT ?_;refine rn [(950,some (.box [.d (.i (c+1))]))] (r1 rfl) (.eqd ?_) ⟨rfl,rfl⟩ (SubO.get ⟨.inr ?_,⟨.inl rfl,trivial⟩⟩) (zaE rfl);rotate_left 2;refine Walk.call (cr:=[]) zhF (zdd hw hlt) rfl (.some rfl rfl h6) rfl rfl (LeL.refl _) trivial rfl rfl rfl ?_;refine evd [] [(67,false)] ?_ ⟨⟨_,rfl,h6⟩,trivial⟩;refine Walk.call (cr:=[]) zhG (zbw hcl) rfl (.some rfl rfl h6) rfl rfl (LeL.refl _) trivial rfl rfl rfl ?_;refine evd [] [(67,false)] ?_ ⟨⟨_,rfl,h6⟩,trivial⟩;refine dr ?_;refine sq ?_ ?_<;>intro h8 h8p h8s<;>(try simp only[Q] at h8p);refine rn [(950,some (.box [.d (.i (c+1))]))] (r1 rfl) (.eqd ?_) ⟨rfl,rfl⟩ (SubO.get ⟨.inr ?_,⟨.inl rfl,trivial⟩⟩) (zaE rfl);rotate_left 2;exfalso;simp_all;all_goals (first|((rfl);done)|(rfl))
theorem zf8 {w:List Data} (hw:WT w){a k:Int}{v:Val} (ht:TyIn w.length ⟨a,k⟩) (hok:v.ok):
  FnD Tryz.prog 71 [.d (zao w),.agg [.d (.i a),.d (.i k)],.agg [.d (.i v.ctor),.d (.i v.num),.d (zaq v.kids)]] [] (.d (.bool (isV w ⟨a,k⟩ v))) []:=by
 have hz:=(zjx w 10 ⟨a,k⟩ v 0).1;rw[Int.zero_add] at hz;refine bd Tryz.f71 12 [] [] fun w0 F0 own kept hk=>?_;refine bx 3004 ?_;refine bx 3005 ?_;refine ev ?_;refine ab 950 tz3 ?_;refine so ty3 ?_;refine tv ?_;refine wd znQ (zfi hw 10 (c:=0) (by omega) (by omega) ht hok (by omega) (by omega)) rfl rfl ⟨rfl,trivial⟩ ?_;refine ev ?_;refine rq ?_;rotate_left;all_goals (rw[hz];rfl)
theorem zm0 {α β:Type}{f:α->β->Bool}{a:List α}{b:List β} (h:all2 f a b=true):a.length=b.length:=by
 by_cases e:a.length=b.length
 ·exact e
 ·rw[zdk e] at h;exact absurd h (by simp)
structure Bd where
 var:Int
 val:Val
def Bd.c (b:Bd):List D:=[.i b.var,.i b.val.ctor,.i b.val.num,zaq b.val.kids]
abbrev zbm (l:List Bd):D:= .sl (l.map Bd.c)
instance:Inhabited Bd:=⟨⟨0,default⟩⟩
def zbb (f:Pat->Val->List Bd×Bool):List Pat->List Val->List Bd->List Bd×Bool
 |p::r,v::s,acc=>if (f p v).2=true then zbb f r s (acc++(f p v).1) else ([],false)
 |_,_,acc=>(acc,true)
def zak:Nat->Pat->Val->List Bd×Bool
 |0,_,_=>([],false)
 |n+1,p,v=>
  if p.op=1 then ([],true)
  else if p.op=2 then ([⟨p.var,v⟩],true)
  else if p.op=3 then ([],zay v.num p.n p.m)
  else if p.op=5 then (if (zak n (nth p.kids 0) v).2=true then ((zak n (nth p.kids 0) v).1,true) else zak n (nth p.kids 1) v)
  else if p.op=6 then (⟨p.var,v⟩::(zak n (nth p.kids 0) v).1,(zak n (nth p.kids 0) v).2)
  else if p.ctor=v.ctor then zbb (zak n) p.kids v.kids [] else ([],false)
section
variable {n:Nat}{p:Pat}{v:Val}
theorem zgL (h:p.op=1):zak (n+1) p v=([],true):=by unfold zak;rw[if_pos h]
theorem zgM (h:p.op=2):zak (n+1) p v=([⟨p.var,v⟩],true):=by unfold zak;rw[if_neg (by omega),if_pos h]
theorem zfM (h:p.op=3):zak (n+1) p v=([],zay v.num p.n p.m):=by unfold zak;rw[if_neg (by omega),if_neg (by omega),if_pos h]
theorem zg4 (h:p.op=5) (h2:(zak n (nth p.kids 0) v).2=true):zak (n+1) p v=((zak n (nth p.kids 0) v).1,true):=by
 conv=>lhs;unfold zak
 rw[if_neg (by omega),if_neg (by omega),if_neg (by omega),if_pos h,if_pos h2]
theorem zg5 (h:p.op=5) (h2:(zak n (nth p.kids 0) v).2=false):zak (n+1) p v=zak n (nth p.kids 1) v:=by
 conv=>lhs;unfold zak
 rw[if_neg (by omega),if_neg (by omega),if_neg (by omega),if_pos h,if_neg (by rw[h2];simp)]
theorem zfN (h:p.op=6):zak (n+1) p v=(⟨p.var,v⟩::(zak n (nth p.kids 0) v).1,(zak n (nth p.kids 0) v).2):=by
 conv=>lhs;unfold zak
 rw[if_neg (by omega),if_neg (by omega),if_neg (by omega),if_neg (by omega),if_pos h]
theorem ziA (h:p.op=4) (h2:p.ctor=v.ctor):zak (n+1) p v=zbb (zak n) p.kids v.kids []:=by
 conv=>lhs;unfold zak
 rw[if_neg (by omega),if_neg (by omega),if_neg (by omega),if_neg (by omega),if_neg (by omega),if_pos h2]
theorem zg3 (h:p.op=4) (h2:¬p.ctor=v.ctor):zak (n+1) p v=([],false):=by
 conv=>lhs;unfold zak
 rw[if_neg (by omega),if_neg (by omega),if_neg (by omega),if_neg (by omega),if_neg (by omega),if_neg h2]
end
theorem zj5 {f:Pat->Val->List Bd×Bool}:∀ {a:List Pat}{b:List Val}{acc:List Bd},(zbb f a b acc).2=true->∀i,i<a.length->i<b.length->(f (nth a i) (nth b i)).2=true
 | [],_,_,_,i,h,_=>by simp at h
 |_::_,[],_,_,i,_,h=>by simp at h
 |p::r,v::s,acc,h,i,h1,h2=>by
  unfold zbb at h;split at h
  ·rename_i hp;cases i with
   |zero=>exact hp
   |succ i=>exact zj5 h i (by simpa using h1) (by simpa using h2)
  ·exact absurd h (by simp)
theorem ziZ {f:Pat->Val->List Bd×Bool}{a:List Pat}{b:List Val}{acc:List Bd}{i:Nat} (h1:i<a.length) (h2:i<b.length) (h:(f (nth a i) (nth b i)).2=true):
  zbb f (a.drop i) (b.drop i) acc=zbb f (a.drop (i+1)) (b.drop (i+1)) (acc++(f (nth a i) (nth b i)).1):=by
 rw[zaS h1,zaS h2];conv=>lhs;unfold zbb
 rw[if_pos h]
theorem znC {f:Pat->Val->List Bd×Bool}{a:List Pat}{b:List Val}{acc:List Bd}{i:Nat} (h1:i<a.length) (h2:i<b.length) (h:(f (nth a i) (nth b i)).2=false):
  zbb f (a.drop i) (b.drop i) acc=([],false):=by
 rw[zaS h1,zaS h2];conv=>lhs;unfold zbb
 rw[if_neg (by rw[h];simp)]
theorem zj6 {f:Pat->Val->List Bd×Bool}{a:List Pat}{b:List Val}{acc:List Bd}{i:Nat} (h1:a.length<=i):zbb f (a.drop i) (b.drop i) acc=(acc,true):=by
 rw[List.drop_eq_nil_of_le h1];cases b.drop i<;>rfl
def BdOk (m:Nat) (l:List Bd):Prop:=∀x∈l,x.val.ok/\x.val.size<=m
theorem BdOk.app {m:Nat}{a b:List Bd} (h1:BdOk m a) (h2:BdOk m b):BdOk m (a++b):=fun x hx=>by
 rcases List.mem_append.1 hx with h|h
 ·exact h1 x h
 ·exact h2 x h
theorem BdOk.mono {m k:Nat}{a:List Bd} (h:BdOk m a) (hk:m<=k):BdOk k a:=fun x hx=>⟨(h x hx).1,Nat.le_trans (h x hx).2 hk⟩
theorem zln {f:Pat->Val->List Bd×Bool}{m:Nat}:∀ {a:List Pat}{b:List Val}{acc:List Bd}{k:Nat},(∀p∈a,∀v∈b,BdOk m (f p v).1/\(f p v).1.length<=p.size)->BdOk m acc->acc.length<=k->BdOk m (zbb f a b acc).1/\(zbb f a b acc).1.length<=k+Pats.size a
 | [],b,acc,k,_,h2,h3=>by cases b<;>exact⟨h2,by simp only[zbb,Pats.size];omega⟩
 |_::_,[],acc,k,_,h2,h3=>⟨h2,by simp only[zbb];omega⟩
 |p::r,v::s,acc,k,h1,h2,h3=>by
  unfold zbb;split
  ·have h4:=h1 p (by simp) v (by simp);have:=zln (f:=f) (a:=r) (b:=s) (acc:=acc++(f p v).1) (k:=k+p.size) (fun q hq u hu=>h1 q (by simp[hq]) u (by simp[hu])) (h2.app h4.1) (by rw[xaa];omega);refine⟨this.1, ?_⟩;simp only[Pats.size];omega
  ·exact⟨fun x hx=>by simp at hx,by simp⟩
theorem zoM {w:List Data}{t:Ty}{p:Pat} (h:p.op=5):zag w t p=[t,t]:=by unfold zag;rw[if_neg (by omega),if_pos h]
theorem zoN {w:List Data}{t:Ty}{p:Pat} (h:p.op=6):zag w t p=[t]:=by unfold zag;rw[if_neg (by omega),if_neg (by omega),if_pos h]
theorem zq8 {w:List Data}{t:Ty}{p:Pat} (h:p.op=4):zag w t p=zaN w t p.ctor:=by unfold zag;rw[if_pos h]
theorem zeL {w:List Data}{n:Nat}{t:Ty}{p:Pat} (h:zav w (n+1) t p=true):p.op=1\/p.op=2\/p.op=3\/p.op=4\/p.op=5\/p.op=6:=by
 have h1:=(zch h).1;unfold ownP at h1;have h2:=(of_decide_eq_true h1).2.2.2.2;omega
theorem zid {w:List Data}{n:Nat}{t:Ty}{p:Pat} (h:zav w (n+1) t p=true) (h5:p.op=5):p.kids.length=2/\zav w n t (nth p.kids 0)=true/\zav w n t (nth p.kids 1)=true:=by
 have hl:=(zch h).2;have h0:=fun i hi=>zbx h (i:=i) hi;rw[zoM h5] at hl h0;have hl':p.kids.length=2:=hl;exact⟨hl',h0 0 (by omega),h0 1 (by omega)⟩
theorem zic {w:List Data}{n:Nat}{t:Ty}{p:Pat} (h:zav w (n+1) t p=true) (h6:p.op=6):p.kids.length=1/\zav w n t (nth p.kids 0)=true:=by
 have hl:=(zch h).2;have h0:=fun i hi=>zbx h (i:=i) hi;rw[zoN h6] at hl h0;have hl':p.kids.length=1:=hl;exact⟨hl',h0 0 (by omega)⟩
theorem zb2 {w:List Data}:∀(n:Nat){t:Ty}{p:Pat}{v:Val},zav w n t p=true->v.ok->BdOk v.size (zak n p v).1/\(zak n p v).1.length<=p.size
 |0,t,p,v,h,_=>by simp[zav] at h
 |n+1,t,p,v,h,hv=>by
  have hs:=Pat.size_eq p;have hsv:=Val.size_eq v;have hv':=hv;rw[Val.ok_iff] at hv';have one:BdOk v.size [⟨p.var,v⟩]:=fun x hx=>by simp only[List.mem_singleton] at hx;subst hx;exact⟨hv,Nat.le_refl _⟩
  have nil:BdOk v.size []:=fun x hx=>by simp at hx
  by_cases h1:p.op=1
  ·rw[zgL h1];exact⟨nil,by simp⟩
  by_cases h2:p.op=2
  ·rw[zgM h2];exact⟨one,by simp only[List.length_singleton];omega⟩
  by_cases h3:p.op=3
  ·rw[zfM h3];exact⟨nil,by simp⟩
  by_cases h5:p.op=5
  ·obtain⟨hl,s0,s1⟩:=zid h h5;have k0:=zb2 n s0 hv;have k1:=zb2 n s1 hv;have z0:=za9 (l:=p.kids) (i:=0) (by omega);have z1:=za9 (l:=p.kids) (i:=1) (by omega);cases hm:(zak n (nth p.kids 0) v).2 with
   |true=>rw[zg4 h5 hm];exact⟨k0.1,by have:=k0.2;dsimp only;omega⟩
   |false=>rw[zg5 h5 hm];exact⟨k1.1,by have:=k1.2;omega⟩
  by_cases h6:p.op=6
  ·obtain⟨hl,s0⟩:=zic h h6;have k0:=zb2 n s0 hv;have z0:=za9 (l:=p.kids) (i:=0) (by omega);rw[zfN h6];exact⟨one.app k0.1,by have:=k0.2;simp only[xab];omega⟩
  have h4:p.op=4:=by have:=zeL h;omega
  by_cases hc:p.ctor=v.ctor
  ·rw[ziA h4 hc];have:=zln (f:=zak n) (m:=v.size) (a:=p.kids) (b:=v.kids) (acc:=[]) (k:=0) (fun q hq u hu=>by
    obtain⟨i,hi,rfl⟩:=List.getElem_of_mem hq;have e:p.kids[i]=nth p.kids i:=by simp[nth,List.getD,hi]
    have:=zb2 n (v:=u) (zbx h hi) (Vals.ok_mem hv'.2 u hu);rw[e];exact⟨this.1.mono (by have:=Vals.size_mem hu;omega),this.2⟩) nil (by simp)
   exact⟨this.1,by have:=this.2;omega⟩
  ·rw[zg3 h4 hc];exact⟨nil,by simp⟩
theorem zor {w:List Data}{m:Nat}{t:Ty}{v:Val} (h:zbV w (m+1) t v=true) (hd:t.data≠ -1):v.ctor∈zbg w t/\(zaN w t v.ctor).length=v.kids.length/\∀i,i<v.kids.length->zbV w m (nth (zaN w t v.ctor) i) (nth v.kids i)=true:=by
 unfold zbV at h;rw[if_neg hd] at h;split at h
 ·rename_i hc;have hl:=zm0 h;exact⟨by unfold zbg;rw[if_neg hd];exact hc.2,hl,fun i hi=>zl5 hl h i (by omega)⟩
 ·exact absurd h (by simp)
end Go.Proofs.YtlfipehhbdjnjaaGreat
namespace Go.Proofs.YtlfipehhbdjnjaaGreat
open Go
set_option linter.unusedSimpArgs false
set_option linter.unusedVariables false
end Go.Proofs.YtlfipehhbdjnjaaGreat
namespace Go.Proofs.YtlfipehhbdjnjaaGreat
open Go
set_option linter.unusedSimpArgs false
set_option linter.unusedVariables false
set_option maxRecDepth 100000
set_option maxHeartbeats 2000000
theorem Val.cs_cc (l:List Val):Val.cs l=l.map Val.cc:=by
 rw[Val.cs_eq];exact List.map_congr_left (fun v _=>Val.c_eq v)
theorem zfR:∀(n:Nat){v:Val},v.size<=n->v.ok->FnD Tryz.prog 150 [.agg [.d (.i v.ctor),.d (.i v.num),.d (zaq v.kids)]] [] (.agg [.d (.i v.ctor),.d (.i v.num),.d (zaq v.kids)]) []
 |0,v,h,_=>by rw[Val.size_eq] at h;omega
 |n+1,v,h,hok=>by
  rw[Val.size_eq] at h;rw[Val.ok_iff] at hok;have hok1:=hok.1;refine bd Tryz.f150 27 [] [] fun w0 F0 own kept hk=>?_;refine bx 3001 ?_;refine ab 3002 tz49 ?_;refine tv ?_;refine bu [0,1] [_,_] st49 ?_;refine ab 3003 tz49 ?_;refine so ty49 ?_;refine tv ?_;refine CWp.tokB 3003 2 7 3 rfl rfl rfl rfl ?_;refine xam (ι:=List (Val)×List (Val)) hk (fun x=>[(14,.d (.i (x.1.length:Int)))]) [5,15,16,17,18,19,20,21,22,23,24,25] (fun x=>[(3003,some (.box [.d (.i v.ctor),.d (.i v.num),.gl 7 (x.1.map Val.cc)])),(7,some (.tok (x.1.map Val.cc).length 3))]) (fun x=>x.1++x.2=v.kids) (fun x=>x.2.length) ([],v.kids) (by simp) ⟨⟨_,rfl,xau ?_⟩,trivial⟩ ⟨?_,⟨zas ?_,trivial⟩⟩ (fun x=>rfl) (fun x hg1=>?_);focus (rfl)
  focus (first|rfl|(simp[getH];done))
  focus (rfl)
  obtain⟨pre,rest⟩:=x;dsimp only at hg1 ⊢;refine evc [] [] ?_;refine sq ?_ ?_<;>intro h1 h1p h1s<;>(try simp only[Q,Val.cs_len] at h1p);rcases rest with _|⟨y,rest⟩
  ·exfalso;simp_all
  refine xaK sl47 .none rfl rfl rfl rfl (Val.cs_at hg1) rfl ?_;refine ev ?_;refine ab 3005 tz49 ?_;refine so ty49 ?_;refine tv ?_;refine wc zhD (zfR n (v:=y) (by have:=Vals.size_mem (l:=v.kids) (v:=y) (by rw[<-hg1];simp);omega) (Vals.ok_mem hok.2 y (by rw[<-hg1];simp))) rfl rfl ?_;refine si [0] [_] sl47 tz49 ?_;refine ap sl47 zz49 rfl rfl rfl (by simp) (by have:=congrArg List.length hg1;simp at this;simp;omega) ?_;refine evd [] [] ?_;refine so ty47 ?_;refine dr ?_;refine ar ?_;refine xah ((pre++[y],rest)) ⟨(by have hz:=hg1;rw[<-hz];simp),(by simp),sx ⟨⟨_,rfl,xau ?_⟩,trivial⟩ ⟨?_,⟨zas ?_,trivial⟩⟩⟩;focus ((simp;done))
  focus (first|rfl|(simp[getH];done))
  focus ((simp;done))
  have hrest:rest=[]:=by
   rcases rest with _|⟨a,b⟩
   ·rfl
   ·exfalso;have hz:=congrArg List.length (hg1);simp only[xaa,xab,xac] at hz;omega
  subst hrest;refine so ty49 ?_;refine tv ?_;refine rn0 (.cons (.cellA ty49 rfl rfl rfl) .nil) (.agg (.cons (.eqd ?_) (.cons (.eqd ?_) (.cons (.gld ?_) .nil))));rotate_left 3;all_goals (first|rfl|(rw[List.append_nil] at hg1;rw[<-hg1,Val.cs_cc];done))
theorem zgP:∀(n:Nat){v:Val},v.size<=n->v.ok->FnD Tryz.prog 200 [.agg [.d (.i v.ctor),.d (.i v.num),.d (zaq v.kids)]] [] (.agg [.d (.i v.ctor),.d (.i v.num),.d (zaq v.kids)]) []
 |0,v,h,_=>by rw[Val.size_eq] at h;omega
 |n+1,v,h,hok=>by
  rw[Val.size_eq] at h;rw[Val.ok_iff] at hok;have hok1:=hok.1;refine bd Tryz.f200 29 [] [] fun w0 F0 own kept hk=>?_;refine bx 3001 ?_;refine ab 3002 tz49 ?_;refine tv ?_;refine bu [0,1] [_,_] st49 ?_;refine ab 3003 tz49 ?_;refine so ty49 ?_;refine tv ?_;refine CWp.tokB 3003 2 7 3 rfl rfl rfl rfl ?_;refine xam (ι:=List (Val)×List (Val)) hk (fun x=>[(4,.d (.i (x.1.length:Int)))]) [10,11,12,13,14,15,16,17,18,19,20,21,22,23,24,25,26,27] (fun x=>[(3003,some (.box [.d (.i v.ctor),.d (.i v.num),.gl 7 (x.1.map Val.cc)])),(7,some (.tok (x.1.map Val.cc).length 3))]) (fun x=>x.1++x.2=v.kids) (fun x=>x.2.length) ([],v.kids) (by simp) ⟨⟨_,rfl,xau ?_⟩,trivial⟩ ⟨?_,⟨zas ?_,trivial⟩⟩ (fun x=>rfl) (fun x hg1=>?_);focus (first|rfl|(simp;done)|(simp_all;done)|omega|(simp;omega))
  focus (first|rfl|(simp[getH];done))
  focus (first|rfl|(simp;done)|(simp_all;done)|omega|(simp;omega))
  obtain⟨pre,rest⟩:=x;dsimp only at hg1 ⊢;refine evc [] [] ?_;refine sq ?_ ?_<;>intro h1 h1p h1s<;>(try simp only[Q,Val.cs_len] at h1p);rcases rest with _|⟨y,rest⟩
  ·exfalso;simp_all
  refine xaK sl47 .none rfl rfl rfl rfl (Val.cs_at hg1) rfl ?_;refine evd [] [] ?_;refine wc znZ (zgP n (v:=y) (by have:=Vals.size_mem (l:=v.kids) (v:=y) (by rw[<-hg1];simp);omega) (Vals.ok_mem hok.2 y (by rw[<-hg1];simp))) rfl rfl ?_;refine si [0] [_] sl47 tz49 ?_;refine ap sl47 zz49 rfl rfl rfl (by simp) (by have:=congrArg List.length hg1;simp at this;simp;omega) ?_;refine evd [] [] ?_;refine so ty47 ?_;refine dr ?_;refine ar ?_;refine xah ((pre++[y],rest)) ⟨(by have hz:=hg1;rw[<-hz];simp),(by simp),sx ⟨⟨_,rfl,xau ?_⟩,trivial⟩ ⟨?_,⟨zas ?_,trivial⟩⟩⟩;focus (first|rfl|(simp;done)|(simp_all;done)|omega|(simp;omega))
  focus (first|rfl|(simp[getH];done))
  focus (first|rfl|(simp;done)|(simp_all;done)|omega|(simp;omega))
  have hrest:rest=[]:=by
   rcases rest with _|⟨a,b⟩
   ·rfl
   ·exfalso;have hz:=congrArg List.length (hg1);simp only[xaa,xab,xac] at hz;omega
  subst hrest;refine so ty49 ?_;refine tv ?_;refine rn0 (.cons (.cellA ty49 rfl rfl rfl) .nil) (.agg (.cons (.eqd ?_) (.cons (.eqd ?_) (.cons (.gld ?_) .nil))));rotate_left 3;all_goals (first|rfl|(rw[List.append_nil] at hg1;rw[<-hg1,Val.cs_cc];done))
end Go.Proofs.YtlfipehhbdjnjaaGreat
namespace Go.Proofs.YtlfipehhbdjnjaaGreat
open Go
set_option linter.unusedSimpArgs false
set_option linter.unusedVariables false
end Go.Proofs.YtlfipehhbdjnjaaGreat
namespace Go.Proofs.YtlfipehhbdjnjaaGreat
open Go
set_option linter.unusedSimpArgs false
set_option linter.unusedVariables false
set_option maxRecDepth 100000
set_option maxHeartbeats 2000000
end Go.Proofs.YtlfipehhbdjnjaaGreat
