/-
  THE ABSTRACT WALK AND THE WALKS, part 3 of 6: the parts F4, F5, F15, F6, Wv, G1, F20, F21, F24, F25, F13, G2, F22, F26, F23, F27, F28, F29, F40, F14.
-/
import Derived.Test.YtflgpdjbgfkhoaaGreatP232
namespace Go.Proofs.YtflgpdjbgfkhoaaGreat
open Go
set_option linter.unusedSimpArgs false
set_option linter.unusedVariables false
set_option maxRecDepth 100000
set_option maxHeartbeats 2000000
def fits (c:Ctor) (k:Int):Bool:=decide (k=0)||(decide (c.index=0)||decide (c.index=k))
def ctorsFrom (k:Int):Nat→List Ctor→List Int
 |_,[]=>[]
 |i,c::r=>if fits c k then (i:Int)::ctorsFrom k (i+1) r else ctorsFrom k (i+1) r
def argTy (k:Int) (t:Ty):Ty:=if t.index = -1 then ⟨t.data,k⟩ else t
def resIx (c:Ctor) (k:Int):Int:=if c.index=0 then k else c.index
theorem ctorsFrom_len (k:Int):∀(l:List Ctor) (i:Nat),(ctorsFrom k i l).length≤l.length
 | [],_=>by simp[ctorsFrom]
 |c::r,i=>by
  have:=ctorsFrom_len k r (i+1)
  unfold ctorsFrom;split<;>simp<;>omega
theorem impl_ctorsOf_int_fn {w:List Data}{k:Int}:FnD Tryz.prog 64 [.d (encDatas w),.agg [.d (.i (-1)),.d (.i k)]] [] (.d (encInts [])) []:=by
 refine bd Tryz.f64 44 [5] [] fun w0 F0 own kept hk=>?_
 refine Walk.box (id:=3003) .none rfl rfl rfl rfl rfl rfl rfl ?_
 refine evs [5] [] ?_
 refine Walk.assignNil 1 1 .none rfl rfl ?_
 refine tv ?_
 refine sq (fun h1 h1p h1s=>?_) fun h1 h1p h1s=>?_
 ·try simp only[Q] at h1p
  exact absurd h1 (by simp)
 ·try simp only[Q] at h1p

  refine rn0 (r1 rfl) (.gld ?_)
  all_goals (first|rfl|(simp[h1s,h1p];done)|(simp_all;done)|(simp_all;omega)|omega)
theorem impl_ctorsOf_fn {w:List Data}{d:Nat}{k:Int} (hs:WSmall w) (hd:d<w.length):FnD Tryz.prog 64 [.d (encDatas w),.agg [.d (.i d),.d (.i k)]] [] (.d (encInts (ctorsFrom k 0 (nth w d).ctors))) []:=by
 have hb:=hs.ctors d
 refine bd Tryz.f64 44 [5] [] fun w0 F0 own kept hk=>?_
 refine Walk.box (id:=3003) .none rfl rfl rfl rfl rfl rfl rfl ?_
 refine evs [5] [] ?_
 refine Walk.assignNil 1 1 .none rfl rfl ?_
 refine tv ?_
 refine sq (fun h1 h1p h1s=>?_) fun h1 h1p h1s=>?_
 ·try simp only[Q] at h1p
  refine Walk.idx sl23 .none rfl rfl rfl rfl (at_nth hd) rfl ?_
  refine evs [5] [] ?_
  refine CWp.loopX (ι:=List (Ctor)×List (Ctor)×(List Int)) hk (fun x=>[(18,.d (.i (x.1.length:Int))),(5,.gl 1 (x.2.2.map fun n=>[D.i n]))]) [6,7,19,20,21,22,23,24,25,26,27,28,29,30,31,32,33,34,35,36,37,38,39,40,41,42] (fun x=>[(1,some (.tok ((x.2.2.map fun n=>[D.i n])).length 1))]) (fun x=>x.1++x.2.1=(nth w d).ctors∧x.2.2++ctorsFrom k x.1.length x.2.1=ctorsFrom k 0 (nth w d).ctors∧x.2.2.length≤x.1.length) (fun x=>x.2.1.length) ([],(nth w d).ctors,[]) ⟨by simp,by simp,by simp⟩ ⟨⟨_,rfl,(LeA.eqi (by first|rfl|(simp;done)|(simp[fits,hk];done)))⟩,⟨⟨_,rfl,(LeA.glg (by first|rfl|(simp;done)|(simp[fits,hk];done)))⟩,trivial⟩⟩ ⟨beq_nat_eq (by first|rfl|(simp;done)|(simp;omega)|(first|rfl|(simp;done)|(simp[fits,hk];done))),trivial⟩ (fun x=>rfl) (fun x hg1=>?_)
  obtain⟨pre,rest,acc⟩:=x
  dsimp only at hg1 ⊢
  refine evc [5] [] ?_
  refine sq (fun h2 h2p h2s=>?_) fun h2 h2p h2s=>?_
  ·try simp only[Q] at h2p
   rcases rest with _|⟨y,rest⟩
   ·exfalso;simp_all
   refine Walk.idx sl106 .none rfl rfl rfl rfl (zip_at hg1.1) rfl ?_
   refine evs [5] [] ?_
   refine Walk.alloc (id:=3007) tz110 rfl .none rfl rfl rfl rfl ?_
   refine evs [5] [] ?_
   refine Walk.store ty110 .none rfl rfl rfl rfl rfl rfl (by simp) rfl ?_
   refine tv ?_
   refine sq (fun h3 h3p h3s=>?_) fun h3 h3p h3s=>?_
   ·try simp only[Q] at h3p
    refine sqT ?_
    refine sqT ?_
    refine Walk.sliceLit sl75 tz3 rfl (by decide) (ks:=[0]) (xs:=[_]) rfl rfl (by decide) (by decide) .none rfl rfl rfl rfl ?_
    refine Walk.append sl75 zz3 rfl .none rfl rfl rfl rfl (htokL rfl (by first|rfl|(simp;done)|(simp;omega))) (by simp) (by have hl:=hg1.2.2;simp;omega) (by have hl:=hg1.2.2;simp;omega) ?_
    refine asg ?_
    refine tv ?_
    refine ar ?_
    refine Exists.intro ((pre++[y],rest,if fits y k then acc++[(pre.length:Int)] else acc)) ⟨⟨(by have hz:=hg1.1;rw[←hz];simp),⟨by rw[←hg1.2.1];by_cases hf:fits y k=true<;>simp[ctorsFrom,hf],by split<;>simp<;>omega⟩⟩,(by simp),Sub.x (by kernel_rfl) (by kernel_rfl) ⟨⟨_,rfl,(LeA.eqi (by first|rfl|(simp;done)|(simp[fits,h1s,h1p,h2s,h2p,h3s,h3p];done)))⟩,⟨⟨_,rfl,(LeA.glg (by first|rfl|(simp;done)|(simp[fits,h1s,h1p,h2s,h2p,h3s,h3p];done)))⟩,trivial⟩⟩ (by kernel_rfl) (by kernel_rfl) ⟨beq_nat_eq (by first|rfl|(simp;done)|(simp;omega)|(first|rfl|(simp;done)|(simp[fits,h1s,h1p,h2s,h2p,h3s,h3p];done))),trivial⟩⟩
   ·try simp only[Q] at h3p
    refine sq (fun h5 h5p h5s=>?_) fun h5 h5p h5s=>?_
    ·try simp only[Q] at h5p
     refine sqT ?_
     refine Walk.sliceLit sl75 tz3 rfl (by decide) (ks:=[0]) (xs:=[_]) rfl rfl (by decide) (by decide) .none rfl rfl rfl rfl ?_
     refine Walk.append sl75 zz3 rfl .none rfl rfl rfl rfl (htokL rfl (by first|rfl|(simp;done)|(simp;omega))) (by simp) (by have hl:=hg1.2.2;simp;omega) (by have hl:=hg1.2.2;simp;omega) ?_
     refine asg ?_
     refine tv ?_
     refine ar ?_
     refine Exists.intro ((pre++[y],rest,if fits y k then acc++[(pre.length:Int)] else acc)) ⟨⟨(by have hz:=hg1.1;rw[←hz];simp),⟨by rw[←hg1.2.1];by_cases hf:fits y k=true<;>simp[ctorsFrom,hf],by split<;>simp<;>omega⟩⟩,(by simp),Sub.x (by kernel_rfl) (by kernel_rfl) ⟨⟨_,rfl,(LeA.eqi (by first|rfl|(simp;done)|(simp[fits,h1s,h1p,h2s,h2p,h3s,h3p,h5s,h5p];done)))⟩,⟨⟨_,rfl,(LeA.glg (by first|rfl|(simp;done)|(simp[fits,h1s,h1p,h2s,h2p,h3s,h3p,h5s,h5p];done)))⟩,trivial⟩⟩ (by kernel_rfl) (by kernel_rfl) ⟨beq_nat_eq (by first|rfl|(simp;done)|(simp;omega)|(first|rfl|(simp;done)|(simp[fits,h1s,h1p,h2s,h2p,h3s,h3p,h5s,h5p];done))),trivial⟩⟩
    ·try simp only[Q] at h5p
     refine sq (fun h7 h7p h7s=>?_) fun h7 h7p h7s=>?_
     ·try simp only[Q] at h7p
      refine Walk.sliceLit sl75 tz3 rfl (by decide) (ks:=[0]) (xs:=[_]) rfl rfl (by decide) (by decide) .none rfl rfl rfl rfl ?_
      refine Walk.append sl75 zz3 rfl .none rfl rfl rfl rfl (htokL rfl (by first|rfl|(simp;done)|(simp;omega))) (by simp) (by have hl:=hg1.2.2;simp;omega) (by have hl:=hg1.2.2;simp;omega) ?_
      refine asg ?_
      refine tv ?_
      refine ar ?_
      refine Exists.intro ((pre++[y],rest,if fits y k then acc++[(pre.length:Int)] else acc)) ⟨⟨(by have hz:=hg1.1;rw[←hz];simp),⟨by rw[←hg1.2.1];by_cases hf:fits y k=true<;>simp[ctorsFrom,hf],by split<;>simp<;>omega⟩⟩,(by simp),Sub.x (by kernel_rfl) (by kernel_rfl) ⟨⟨_,rfl,(LeA.eqi (by first|rfl|(simp;done)|(simp[fits,h1s,h1p,h2s,h2p,h3s,h3p,h5s,h5p,h7s,h7p];done)))⟩,⟨⟨_,rfl,(LeA.glg (by first|rfl|(simp;done)|(simp[fits,h1s,h1p,h2s,h2p,h3s,h3p,h5s,h5p,h7s,h7p];done)))⟩,trivial⟩⟩ (by kernel_rfl) (by kernel_rfl) ⟨beq_nat_eq (by first|rfl|(simp;done)|(simp;omega)|(first|rfl|(simp;done)|(simp[fits,h1s,h1p,h2s,h2p,h3s,h3p,h5s,h5p,h7s,h7p];done))),trivial⟩⟩
     ·try simp only[Q] at h7p
      refine ar ?_
      refine Exists.intro ((pre++[y],rest,if fits y k then acc++[(pre.length:Int)] else acc)) ⟨⟨(by have hz:=hg1.1;rw[←hz];simp),⟨by rw[←hg1.2.1];by_cases hf:fits y k=true<;>simp[ctorsFrom,hf],by split<;>simp<;>omega⟩⟩,(by simp),Sub.x (by kernel_rfl) (by kernel_rfl) ⟨⟨_,rfl,(LeA.eqi (by first|rfl|(simp;done)|(simp[fits,h1s,h1p,h2s,h2p,h3s,h3p,h5s,h5p,h7s,h7p];done)))⟩,⟨⟨_,rfl,(LeA.glg (by first|rfl|(simp;done)|(simp[fits,h1s,h1p,h2s,h2p,h3s,h3p,h5s,h5p,h7s,h7p];done)))⟩,trivial⟩⟩ (by kernel_rfl) (by kernel_rfl) ⟨beq_nat_eq (by first|rfl|(simp;done)|(simp;omega)|(first|rfl|(simp;done)|(simp[fits,h1s,h1p,h2s,h2p,h3s,h3p,h5s,h5p,h7s,h7p];done))),trivial⟩⟩
  ·try simp only[Q] at h2p
   have hrest:rest=[]:=by
    rcases rest with _|⟨a,b⟩
    ·rfl
    ·exfalso;have hz:=congrArg List.length (hg1.1);simp only[List.length_append,List.length_cons,List.length_map] at hz;omega
   subst hrest
   refine rn0 (r1 rfl) (.gld ?_)
   all_goals (have e:=hg1.2.1;simp only[ctorsFrom,List.append_nil] at e;rw[e])
 ·try simp only[Q] at h1p
  exfalso;simp at h1<;>omega
theorem spec_l1Fits_fn {s:Str}{l:List Ty}{i k:Int}:FnD Tryz.prog 96 [.agg [.d (.str s),.d (encTys l),.d (.i i)],.d (.i k)] [] (.d (.bool (fits ⟨s,l,i⟩ k))) []:=by
 refine bd Tryz.f96 18 [] [] fun w0 F0 own kept hk=>?_
 refine Walk.box (id:=3002) .none rfl rfl rfl rfl rfl rfl rfl ?_
 refine ev ?_
 refine sq (fun h1 h1p h1s=>?_) fun h1 h1p h1s=>?_
 ·try simp only[Q] at h1p
  refine sqT ?_
  refine rn0 (r1 rfl) (.eqd ?_)
  all_goals (refine congrArg D.bool ?_;simp[fits,h1s,h1p])
 ·try simp only[Q] at h1p
  refine sq (fun h2 h2p h2s=>?_) fun h2 h2p h2s=>?_
  ·try simp only[Q] at h2p
   refine rn0 (r1 rfl) (.eqd ?_)
   all_goals (refine congrArg D.bool ?_;simp[fits,h1s,h1p,h2s,h2p])
  ·try simp only[Q] at h2p
   refine rn0 (r1 rfl) (.eqd ?_)
   all_goals (refine congrArg D.bool ?_;simp[fits,h1s,h1p,h2s,h2p])
theorem spec_l1Ctors_int_fn {w:List Data}{k:Int}:FnD Tryz.prog 72 [.d (encDatas w),.agg [.d (.i (-1)),.d (.i k)]] [] (.d (encInts [])) []:=by
 refine bd Tryz.f72 40 [] [] fun w0 F0 own kept hk=>?_
 refine Walk.box (id:=3003) .none rfl rfl rfl rfl rfl rfl rfl ?_
 refine ev ?_
 refine Walk.sliceEmptyG 1 sl75 .none rfl rfl ?_
 refine ev ?_
 refine sq (fun h1 h1p h1s=>?_) fun h1 h1p h1s=>?_
 ·try simp only[Q] at h1p

  refine rn0 (r1 rfl) (.gld ?_)
  all_goals (first|rfl|(simp[h1s,h1p];done)|(simp_all;done)|(simp_all;omega)|omega)
 ·try simp only[Q] at h1p
  exact absurd h1 (by simp)
theorem spec_l1Ctors_fn {w:List Data}{d:Nat}{k:Int} (hs:WSmall w) (hd:d<w.length):FnD Tryz.prog 72 [.d (encDatas w),.agg [.d (.i d),.d (.i k)]] [] (.d (encInts (ctorsFrom k 0 (nth w d).ctors))) []:=by
 have hb:=hs.ctors d
 refine bd Tryz.f72 40 [] [] fun w0 F0 own kept hk=>?_
 refine Walk.box (id:=3003) .none rfl rfl rfl rfl rfl rfl rfl ?_
 refine ev ?_
 refine Walk.sliceEmptyG 1 sl75 .none rfl rfl ?_
 refine ev ?_
 refine sq (fun h1 h1p h1s=>?_) fun h1 h1p h1s=>?_
 ·try simp only[Q] at h1p
  exfalso;simp at h1<;>omega
 ·try simp only[Q] at h1p
  refine CWp.loopX (ι:=List (Ctor)×List (Ctor)×(List Int)) hk (fun x=>[(6,.d (.i (x.1.length:Int))),(5,.gl 1 (x.2.2.map fun n=>[D.i n]))]) [12,13,14,15,16,17,18,19,20,21,22,23,24,25,26,27,28,29,30,31,32,33,34,35,36,37,38] (fun x=>[(1,some (.tok ((x.2.2.map fun n=>[D.i n])).length 1))]) (fun x=>x.1++x.2.1=(nth w d).ctors∧x.2.2++ctorsFrom k x.1.length x.2.1=ctorsFrom k 0 (nth w d).ctors∧x.2.2.length≤x.1.length) (fun x=>x.2.1.length) ([],(nth w d).ctors,[]) ⟨by simp,by simp,by simp⟩ ⟨⟨_,rfl,(LeA.eqi (by first|rfl|(simp;done)|(simp[Ctor.eta,hk];done)|(simp only[Ctor.eta] at *;simp[*];done)))⟩,⟨⟨_,rfl,(LeA.glg (by first|rfl|(simp;done)|(simp[Ctor.eta,hk];done)|(simp only[Ctor.eta] at *;simp[*];done)))⟩,trivial⟩⟩ ⟨beq_nat_eq (by first|rfl|(simp;done)|(simp;omega)|(first|rfl|(simp;done)|(simp[Ctor.eta,hk];done)|(simp only[Ctor.eta] at *;simp[*];done))),trivial⟩ (fun x=>rfl) (fun x hg1=>?_)
  obtain⟨pre,rest,acc⟩:=x
  dsimp only at hg1 ⊢
  refine evc [] [] ?_
  refine Walk.idx sl23 .none rfl rfl rfl rfl (at_nth hd) rfl ?_
  refine ev ?_
  refine sq (fun h2 h2p h2s=>?_) fun h2 h2p h2s=>?_
  ·try simp only[Q] at h2p
   rcases rest with _|⟨y,rest⟩
   ·exfalso;simp_all
   refine Walk.idx sl23 .none rfl rfl rfl rfl (at_nth hd) rfl ?_
   refine evd [] [] ?_
   refine Walk.idx sl106 .none rfl rfl rfl rfl (zip_at hg1.1) rfl ?_
   refine evd [] [] ?_
   refine Walk.call (cr:=[]) cal96 (spec_l1Fits_fn) rfl .none rfl rfl (LeL.refl _) trivial rfl rfl rfl ?_
   refine dr ?_
   refine sq (fun h3 h3p h3s=>?_) fun h3 h3p h3s=>?_
   ·try simp only[Q] at h3p
    refine Walk.sliceLit sl75 tz3 rfl (by decide) (ks:=[0]) (xs:=[_]) rfl rfl (by decide) (by decide) .none rfl rfl rfl rfl ?_
    refine Walk.append sl75 zz3 rfl .none rfl rfl rfl rfl (htokL rfl (by first|rfl|(simp;done)|(simp;omega))) (by simp) (by have hl:=hg1.2.2;simp;omega) (by have hl:=hg1.2.2;simp;omega) ?_
    refine ev ?_
    refine ar ?_
    refine Exists.intro ((pre++[y],rest,if fits y k then acc++[(pre.length:Int)] else acc)) ⟨⟨(by have hz:=hg1.1;rw[←hz];simp),⟨by rw[←hg1.2.1];by_cases hf:fits y k=true<;>simp[ctorsFrom,hf],by split<;>simp<;>omega⟩⟩,(by simp),Sub.x (by kernel_rfl) (by kernel_rfl) ⟨⟨_,rfl,(LeA.eqi (by first|rfl|(simp;done)|(simp[Ctor.eta,h1s,h1p,h2s,h2p,h3s,h3p];done)|(simp only[Ctor.eta] at *;simp[*];done)))⟩,⟨⟨_,rfl,(LeA.glg (by first|rfl|(simp;done)|(simp[Ctor.eta,h1s,h1p,h2s,h2p,h3s,h3p];done)|(simp only[Ctor.eta] at *;simp[*];done)))⟩,trivial⟩⟩ (by kernel_rfl) (by kernel_rfl) ⟨beq_nat_eq (by first|rfl|(simp;done)|(simp;omega)|(first|rfl|(simp;done)|(simp[Ctor.eta,h1s,h1p,h2s,h2p,h3s,h3p];done)|(simp only[Ctor.eta] at *;simp[*];done))),trivial⟩⟩
   ·try simp only[Q] at h3p
    refine ar ?_
    refine Exists.intro ((pre++[y],rest,if fits y k then acc++[(pre.length:Int)] else acc)) ⟨⟨(by have hz:=hg1.1;rw[←hz];simp),⟨by rw[←hg1.2.1];by_cases hf:fits y k=true<;>simp[ctorsFrom,hf],by split<;>simp<;>omega⟩⟩,(by simp),Sub.x (by kernel_rfl) (by kernel_rfl) ⟨⟨_,rfl,(LeA.eqi (by first|rfl|(simp;done)|(simp[Ctor.eta,h1s,h1p,h2s,h2p,h3s,h3p];done)|(simp only[Ctor.eta] at *;simp[*];done)))⟩,⟨⟨_,rfl,(LeA.glg (by first|rfl|(simp;done)|(simp[Ctor.eta,h1s,h1p,h2s,h2p,h3s,h3p];done)|(simp only[Ctor.eta] at *;simp[*];done)))⟩,trivial⟩⟩ (by kernel_rfl) (by kernel_rfl) ⟨beq_nat_eq (by first|rfl|(simp;done)|(simp;omega)|(first|rfl|(simp;done)|(simp[Ctor.eta,h1s,h1p,h2s,h2p,h3s,h3p];done)|(simp only[Ctor.eta] at *;simp[*];done))),trivial⟩⟩
  ·try simp only[Q] at h2p
   have hrest:rest=[]:=by
    rcases rest with _|⟨a,b⟩
    ·rfl
    ·exfalso;have hz:=congrArg List.length (hg1.1);simp only[List.length_append,List.length_cons,List.length_map] at hz;omega
   subst hrest
   refine rn0 (r1 rfl) (.gld ?_)
   all_goals (have e:=hg1.2.1;simp only[ctorsFrom,List.append_nil] at e;rw[e])
theorem spec_l1Result_fn {s:Str}{l:List Ty}{i k:Int}:FnD Tryz.prog 97 [.agg [.d (.str s),.d (encTys l),.d (.i i)],.d (.i k)] [] (.d (.i (resIx ⟨s,l,i⟩ k))) []:=by
 refine bd Tryz.f97 11 [] [] fun w0 F0 own kept hk=>?_
 refine Walk.box (id:=3002) .none rfl rfl rfl rfl rfl rfl rfl ?_
 refine ev ?_
 refine sq (fun h1 h1p h1s=>?_) fun h1 h1p h1s=>?_
 ·try simp only[Q] at h1p
  refine rn0 (r1 rfl) (.eqd ?_)
  all_goals (refine congrArg D.i ?_;simp[resIx,h1s,h1p])
 ·try simp only[Q] at h1p
  refine rn0 (r1 rfl) (.eqd ?_)
  all_goals (refine congrArg D.i ?_;simp[resIx,h1s,h1p])
theorem impl_argTypes_fn {w:List Data}{d c:Nat}{k:Int} (hs:WSmall w) (hd:d<w.length) (hc:c<(nth w d).ctors.length):FnD Tryz.prog 65 [.d (encDatas w),.agg [.d (.i d),.d (.i k)],.d (.i c)] [] (.d (encTys ((nth (nth w d).ctors c).args.map (argTy (resIx (nth (nth w d).ctors c) k))))) []:=by
 have hb:=(hs.ctor _ (nth_mem hd) _ (nth_mem hc)).2
 refine bd Tryz.f65 45 [9] [] fun w0 F0 own kept hk=>?_
 refine Walk.box (id:=3004) .none rfl rfl rfl rfl rfl rfl rfl ?_
 refine evs [9] [] ?_
 refine Walk.idx sl23 .none rfl rfl rfl rfl (at_nth hd) rfl ?_
 refine evs [9] [] ?_
 refine Walk.idx sl106 .none rfl rfl rfl rfl (at_nth hc) rfl ?_
 refine evs [9] [] ?_
 refine Walk.alloc (id:=3007) tz110 rfl .none rfl rfl rfl rfl ?_
 refine Walk.store ty110 .none rfl rfl rfl rfl rfl rfl (by simp) rfl ?_
 refine tv ?_
 refine sq (fun h1 h1p h1s=>?_) fun h1 h1p h1s=>?_
 ·try simp only[Q] at h1p
  refine Walk.assignNil 1 2 .none rfl rfl ?_
  refine tv ?_
  refine CWp.loopX (ι:=List (Ty)×List (Ty)) hk (fun x=>[(30,.d (.i (x.1.length:Int))),(9,.gl 1 ((x.1.map (argTy (resIx (nth (nth w d).ctors c) k))).map Ty.c))]) [11,31,32,33,34,35,36,37,38,39,40,41,42,43] (fun x=>[(1,some (.tok (((x.1.map (argTy (resIx (nth (nth w d).ctors c) k))).map Ty.c)).length 2))]) (fun x=>x.1++x.2=(nth (nth w d).ctors c).args) (fun x=>x.2.length) ([],(nth (nth w d).ctors c).args) (by simp) ⟨⟨_,rfl,(LeA.eqi (by first|rfl|(simp;done)|(simp[argTy,resIx,hk];done)))⟩,⟨⟨_,rfl,(LeA.glg (by first|rfl|(simp;done)|(simp[argTy,resIx,hk];done)))⟩,trivial⟩⟩ ⟨beq_nat_eq (by first|rfl|(simp;done)|(simp;omega)|(first|rfl|(simp;done)|(simp[argTy,resIx,hk];done))),trivial⟩ (fun x=>rfl) (fun x hg1=>?_)
  obtain⟨pre,rest⟩:=x
  dsimp only at hg1 ⊢
  refine evc [9] [] ?_
  refine sq (fun h2 h2p h2s=>?_) fun h2 h2p h2s=>?_
  ·try simp only[Q] at h2p
   rcases rest with _|⟨y,rest⟩
   ·exfalso;simp_all
   refine Walk.idx sl102 .none rfl rfl rfl rfl (zip_at hg1) rfl ?_
   refine evs [9] [] ?_
   refine Walk.alloc (id:=3011) tz25 rfl .none rfl rfl rfl rfl ?_
   refine Walk.store ty25 .none rfl rfl rfl rfl rfl rfl (by simp) rfl ?_
   refine tv ?_
   refine sq (fun h3 h3p h3s=>?_) fun h3 h3p h3s=>?_
   ·try simp only[Q] at h3p
    refine Walk.store ty3 .none rfl rfl rfl rfl rfl rfl (by simp) rfl ?_
    refine tv ?_
    refine Walk.sliceLit sl102 tz25 rfl (by decide) (ks:=[0]) (xs:=[_]) rfl rfl (by decide) (by decide) .none rfl rfl rfl rfl ?_
    refine Walk.append sl102 zz25 rfl .none rfl rfl rfl rfl (htokL rfl (by first|rfl|(simp;done)|(simp;omega))) (by simp) (by have hl:=congrArg List.length hg1;simp at hl;simp;omega) (by have hl:=congrArg List.length hg1;simp at hl;simp;omega) ?_
    refine asg ?_
    refine tv ?_
    refine ar ?_
    refine Exists.intro ((pre++[y],rest)) ⟨(by have hz:=hg1;rw[←hz];simp),(by simp),Sub.x (by kernel_rfl) (by kernel_rfl) ⟨⟨_,rfl,(LeA.eqi (by first|rfl|(simp;done)|(simp[argTy,resIx,h1s,h1p,h2s,h2p,h3s,h3p];done)))⟩,⟨⟨_,rfl,(LeA.glg (by first|rfl|(simp;done)|(simp[argTy,resIx,h1s,h1p,h2s,h2p,h3s,h3p];done)))⟩,trivial⟩⟩ (by kernel_rfl) (by kernel_rfl) ⟨beq_nat_eq (by first|rfl|(simp;done)|(simp;omega)|(first|rfl|(simp;done)|(simp[argTy,resIx,h1s,h1p,h2s,h2p,h3s,h3p];done))),trivial⟩⟩
   ·try simp only[Q] at h3p
    refine Walk.sliceLit sl102 tz25 rfl (by decide) (ks:=[0]) (xs:=[_]) rfl rfl (by decide) (by decide) .none rfl rfl rfl rfl ?_
    refine Walk.append sl102 zz25 rfl .none rfl rfl rfl rfl (htokL rfl (by first|rfl|(simp;done)|(simp;omega))) (by simp) (by have hl:=congrArg List.length hg1;simp at hl;simp;omega) (by have hl:=congrArg List.length hg1;simp at hl;simp;omega) ?_
    refine asg ?_
    refine tv ?_
    refine ar ?_
    refine Exists.intro ((pre++[y],rest)) ⟨(by have hz:=hg1;rw[←hz];simp),(by simp),Sub.x (by kernel_rfl) (by kernel_rfl) ⟨⟨_,rfl,(LeA.eqi (by first|rfl|(simp;done)|(simp[argTy,resIx,h1s,h1p,h2s,h2p,h3s,h3p];done)))⟩,⟨⟨_,rfl,(LeA.glg (by first|rfl|(simp;done)|(simp[argTy,resIx,h1s,h1p,h2s,h2p,h3s,h3p];done)))⟩,trivial⟩⟩ (by kernel_rfl) (by kernel_rfl) ⟨beq_nat_eq (by first|rfl|(simp;done)|(simp;omega)|(first|rfl|(simp;done)|(simp[argTy,resIx,h1s,h1p,h2s,h2p,h3s,h3p];done))),trivial⟩⟩
  ·try simp only[Q] at h2p
   have hrest:rest=[]:=by
    rcases rest with _|⟨a,b⟩
    ·rfl
    ·exfalso;have hz:=congrArg List.length (hg1);simp only[List.length_append,List.length_cons,List.length_map] at hz;omega
   subst hrest
   refine rn0 (r1 rfl) (.gld ?_)
   all_goals (simp[←hg1,resIx,h1s,h1p,h2s,h2p])
 ·try simp only[Q] at h1p
  refine Walk.assignNil 1 2 .none rfl rfl ?_
  refine tv ?_
  refine CWp.loopX (ι:=List (Ty)×List (Ty)) hk (fun x=>[(30,.d (.i (x.1.length:Int))),(9,.gl 1 ((x.1.map (argTy (resIx (nth (nth w d).ctors c) k))).map Ty.c))]) [11,31,32,33,34,35,36,37,38,39,40,41,42,43] (fun x=>[(1,some (.tok (((x.1.map (argTy (resIx (nth (nth w d).ctors c) k))).map Ty.c)).length 2))]) (fun x=>x.1++x.2=(nth (nth w d).ctors c).args) (fun x=>x.2.length) ([],(nth (nth w d).ctors c).args) (by simp) ⟨⟨_,rfl,(LeA.eqi (by first|rfl|(simp;done)|(simp[argTy,resIx,hk];done)))⟩,⟨⟨_,rfl,(LeA.glg (by first|rfl|(simp;done)|(simp[argTy,resIx,hk];done)))⟩,trivial⟩⟩ ⟨beq_nat_eq (by first|rfl|(simp;done)|(simp;omega)|(first|rfl|(simp;done)|(simp[argTy,resIx,hk];done))),trivial⟩ (fun x=>rfl) (fun x hg1=>?_)
  obtain⟨pre,rest⟩:=x
  dsimp only at hg1 ⊢
  refine evc [9] [] ?_
  refine sq (fun h4 h4p h4s=>?_) fun h4 h4p h4s=>?_
  ·try simp only[Q] at h4p
   rcases rest with _|⟨y,rest⟩
   ·exfalso;simp_all
   refine Walk.idx sl102 .none rfl rfl rfl rfl (zip_at hg1) rfl ?_
   refine evs [9] [] ?_
   refine Walk.alloc (id:=3011) tz25 rfl .none rfl rfl rfl rfl ?_
   refine Walk.store ty25 .none rfl rfl rfl rfl rfl rfl (by simp) rfl ?_
   refine tv ?_
   refine sq (fun h5 h5p h5s=>?_) fun h5 h5p h5s=>?_
   ·try simp only[Q] at h5p
    refine Walk.store ty3 .none rfl rfl rfl rfl rfl rfl (by simp) rfl ?_
    refine tv ?_
    refine Walk.sliceLit sl102 tz25 rfl (by decide) (ks:=[0]) (xs:=[_]) rfl rfl (by decide) (by decide) .none rfl rfl rfl rfl ?_
    refine Walk.append sl102 zz25 rfl .none rfl rfl rfl rfl (htokL rfl (by first|rfl|(simp;done)|(simp;omega))) (by simp) (by have hl:=congrArg List.length hg1;simp at hl;simp;omega) (by have hl:=congrArg List.length hg1;simp at hl;simp;omega) ?_
    refine asg ?_
    refine tv ?_
    refine ar ?_
    refine Exists.intro ((pre++[y],rest)) ⟨(by have hz:=hg1;rw[←hz];simp),(by simp),Sub.x (by kernel_rfl) (by kernel_rfl) ⟨⟨_,rfl,(LeA.eqi (by first|rfl|(simp;done)|(simp[argTy,resIx,h1s,h1p,h4s,h4p,h5s,h5p];done)))⟩,⟨⟨_,rfl,(LeA.glg (by first|rfl|(simp;done)|(simp[argTy,resIx,h1s,h1p,h4s,h4p,h5s,h5p];done)))⟩,trivial⟩⟩ (by kernel_rfl) (by kernel_rfl) ⟨beq_nat_eq (by first|rfl|(simp;done)|(simp;omega)|(first|rfl|(simp;done)|(simp[argTy,resIx,h1s,h1p,h4s,h4p,h5s,h5p];done))),trivial⟩⟩
   ·try simp only[Q] at h5p
    refine Walk.sliceLit sl102 tz25 rfl (by decide) (ks:=[0]) (xs:=[_]) rfl rfl (by decide) (by decide) .none rfl rfl rfl rfl ?_
    refine Walk.append sl102 zz25 rfl .none rfl rfl rfl rfl (htokL rfl (by first|rfl|(simp;done)|(simp;omega))) (by simp) (by have hl:=congrArg List.length hg1;simp at hl;simp;omega) (by have hl:=congrArg List.length hg1;simp at hl;simp;omega) ?_
    refine asg ?_
    refine tv ?_
    refine ar ?_
    refine Exists.intro ((pre++[y],rest)) ⟨(by have hz:=hg1;rw[←hz];simp),(by simp),Sub.x (by kernel_rfl) (by kernel_rfl) ⟨⟨_,rfl,(LeA.eqi (by first|rfl|(simp;done)|(simp[argTy,resIx,h1s,h1p,h4s,h4p,h5s,h5p];done)))⟩,⟨⟨_,rfl,(LeA.glg (by first|rfl|(simp;done)|(simp[argTy,resIx,h1s,h1p,h4s,h4p,h5s,h5p];done)))⟩,trivial⟩⟩ (by kernel_rfl) (by kernel_rfl) ⟨beq_nat_eq (by first|rfl|(simp;done)|(simp;omega)|(first|rfl|(simp;done)|(simp[argTy,resIx,h1s,h1p,h4s,h4p,h5s,h5p];done))),trivial⟩⟩
  ·try simp only[Q] at h4p
   have hrest:rest=[]:=by
    rcases rest with _|⟨a,b⟩
    ·rfl
    ·exfalso;have hz:=congrArg List.length (hg1);simp only[List.length_append,List.length_cons,List.length_map] at hz;omega
   subst hrest
   refine rn0 (r1 rfl) (.gld ?_)
   all_goals (simp[←hg1,resIx,h1s,h1p,h4s,h4p])
theorem spec_l1Args_fn {w:List Data}{d c:Nat}{k:Int} (hs:WSmall w) (hd:d<w.length) (hc:c<(nth w d).ctors.length):FnD Tryz.prog 73 [.d (encDatas w),.agg [.d (.i d),.d (.i k)],.d (.i c)] [] (.d (encTys ((nth (nth w d).ctors c).args.map (argTy (resIx (nth (nth w d).ctors c) k))))) []:=by
 have hb:=(hs.ctor _ (nth_mem hd) _ (nth_mem hc)).2
 refine bd Tryz.f73 46 [] [] fun w0 F0 own kept hk=>?_
 refine Walk.box (id:=3004) .none rfl rfl rfl rfl rfl rfl rfl ?_
 refine ev ?_
 refine Walk.sliceEmptyG 1 sl102 .none rfl rfl ?_
 refine ev ?_
 refine Walk.idx sl23 .none rfl rfl rfl rfl (at_nth hd) rfl ?_
 refine ev ?_
 refine Walk.idx sl106 .none rfl rfl rfl rfl (at_nth hc) rfl ?_
 refine ev ?_
 refine Walk.alloc (id:=3008) tz110 rfl .none rfl rfl rfl rfl ?_
 refine Walk.store ty110 .none rfl rfl rfl rfl rfl rfl (by simp) rfl ?_
 refine tv ?_
 refine CWp.loopX (ι:=List (Ty)×List (Ty)) hk (fun x=>[(9,.d (.i (x.1.length:Int))),(7,.gl 1 ((x.1.map (argTy (resIx (nth (nth w d).ctors c) k))).map Ty.c))]) [10,21,22,23,24,25,26,27,28,29,30,31,32,33,34,35,36,37,38,39,40,41,42,43,44] (fun x=>[(1,some (.tok (((x.1.map (argTy (resIx (nth (nth w d).ctors c) k))).map Ty.c)).length 2))]) (fun x=>x.1++x.2=(nth (nth w d).ctors c).args) (fun x=>x.2.length) ([],(nth (nth w d).ctors c).args) (by simp) ⟨⟨_,rfl,(LeA.eqi (by first|rfl|(simp;done)|(simp[argTy,Ctor.eta,hk];done)))⟩,⟨⟨_,rfl,(LeA.glg (by first|rfl|(simp;done)|(simp[argTy,Ctor.eta,hk];done)))⟩,trivial⟩⟩ ⟨beq_nat_eq (by first|rfl|(simp;done)|(simp;omega)|(first|rfl|(simp;done)|(simp[argTy,Ctor.eta,hk];done))),trivial⟩ (fun x=>rfl) (fun x hg1=>?_)
 obtain⟨pre,rest⟩:=x
 dsimp only at hg1 ⊢
 refine evc [] [] ?_
 refine sq (fun h1 h1p h1s=>?_) fun h1 h1p h1s=>?_
 ·try simp only[Q] at h1p
  rcases rest with _|⟨y,rest⟩
  ·exfalso;simp_all
  refine Walk.idx sl102 .none rfl rfl rfl rfl (zip_at hg1) rfl ?_
  refine ev ?_
  refine Walk.alloc (id:=3010) tz25 rfl .none rfl rfl rfl rfl ?_
  refine Walk.store ty25 .none rfl rfl rfl rfl rfl rfl (by simp) rfl ?_
  refine tv ?_
  refine sq (fun h2 h2p h2s=>?_) fun h2 h2p h2s=>?_
  ·try simp only[Q] at h2p
   refine Walk.call (cr:=[]) cal97 (spec_l1Result_fn) rfl .none rfl rfl (LeL.refl _) trivial rfl rfl rfl ?_
   refine ev ?_
   refine Walk.store ty3 .none rfl rfl rfl rfl rfl rfl (by simp) rfl ?_
   refine tv ?_
   refine Walk.sliceLit sl102 tz25 rfl (by decide) (ks:=[0]) (xs:=[_]) rfl rfl (by decide) (by decide) .none rfl rfl rfl rfl ?_
   refine Walk.append sl102 zz25 rfl .none rfl rfl rfl rfl (htokL rfl (by first|rfl|(simp;done)|(simp;omega))) (by simp) (by have hl:=congrArg List.length hg1;simp at hl;simp;omega) (by have hl:=congrArg List.length hg1;simp at hl;simp;omega) ?_
   refine ev ?_
   refine ar ?_
   refine Exists.intro ((pre++[y],rest)) ⟨(by have hz:=hg1;rw[←hz];simp),(by simp),Sub.x (by kernel_rfl) (by kernel_rfl) ⟨⟨_,rfl,(LeA.eqi (by first|rfl|(simp;done)|(simp[argTy,Ctor.eta,h1s,h1p,h2s,h2p];done)))⟩,⟨⟨_,rfl,(LeA.glg (by first|rfl|(simp;done)|(simp[argTy,Ctor.eta,h1s,h1p,h2s,h2p];done)))⟩,trivial⟩⟩ (by kernel_rfl) (by kernel_rfl) ⟨beq_nat_eq (by first|rfl|(simp;done)|(simp;omega)|(first|rfl|(simp;done)|(simp[argTy,Ctor.eta,h1s,h1p,h2s,h2p];done))),trivial⟩⟩
  ·try simp only[Q] at h2p
   refine Walk.sliceLit sl102 tz25 rfl (by decide) (ks:=[0]) (xs:=[_]) rfl rfl (by decide) (by decide) .none rfl rfl rfl rfl ?_
   refine Walk.append sl102 zz25 rfl .none rfl rfl rfl rfl (htokL rfl (by first|rfl|(simp;done)|(simp;omega))) (by simp) (by have hl:=congrArg List.length hg1;simp at hl;simp;omega) (by have hl:=congrArg List.length hg1;simp at hl;simp;omega) ?_
   refine ev ?_
   refine ar ?_
   refine Exists.intro ((pre++[y],rest)) ⟨(by have hz:=hg1;rw[←hz];simp),(by simp),Sub.x (by kernel_rfl) (by kernel_rfl) ⟨⟨_,rfl,(LeA.eqi (by first|rfl|(simp;done)|(simp[argTy,Ctor.eta,h1s,h1p,h2s,h2p];done)))⟩,⟨⟨_,rfl,(LeA.glg (by first|rfl|(simp;done)|(simp[argTy,Ctor.eta,h1s,h1p,h2s,h2p];done)))⟩,trivial⟩⟩ (by kernel_rfl) (by kernel_rfl) ⟨beq_nat_eq (by first|rfl|(simp;done)|(simp;omega)|(first|rfl|(simp;done)|(simp[argTy,Ctor.eta,h1s,h1p,h2s,h2p];done))),trivial⟩⟩
 ·try simp only[Q] at h1p
  have hrest:rest=[]:=by
   rcases rest with _|⟨a,b⟩
   ·rfl
   ·exfalso;have hz:=congrArg List.length (hg1);simp only[List.length_append,List.length_cons,List.length_map] at hz;omega
  subst hrest
  refine rn0 (r1 rfl) (.gld ?_)
  all_goals (simp[←hg1,resIx,h1s,h1p])
mutual
def valEq:Val→Val→Bool
 | .mk a n ks,.mk b m ls=>decide (a=b)&&(decide (n=m)&&valsEq ks ls)
def valsEq:List Val→List Val→Bool
 | [],[]=>true
 |x::r,y::s=>valEq x y&&valsEq r s
 |_,_=>false
end
mutual
def Val.ok:Val→Prop
 | .mk _ _ ks=>ks.length≤1000000000000∧Vals.ok ks
def Vals.ok:List Val→Prop
 | []=>True
 |v::r=>v.ok∧Vals.ok r
end
theorem Vals.ok_mem:∀ {l:List Val},Vals.ok l→∀v,v∈l→v.ok
 |x::r,h,v,hv=>by
  simp only[Vals.ok] at h
  rcases List.mem_cons.1 hv with rfl|hv
  ·exact h.1
  ·exact Vals.ok_mem h.2 v hv
mutual
def Val.size:Val→Nat
 | .mk _ _ ks=>1+Vals.size ks
def Vals.size:List Val→Nat
 | []=>0
 |v::r=>v.size+Vals.size r
end
theorem Vals.size_mem:∀ {l:List Val}{v:Val},v∈l→v.size≤Vals.size l
 |x::r,v,hv=>by
  simp only[Vals.size]
  rcases List.mem_cons.1 hv with rfl|hv
  ·omega
  ·have:=Vals.size_mem hv;omega
theorem valsEq_len:∀ {a b:List Val},a.length≠b.length→valsEq a b=false
 | [],[],h=>by simp at h
 | [],_::_,_=>by simp[valsEq]
 |_::_,[],_=>by simp[valsEq]
 |x::r,y::s,h=>by simp[valsEq,valsEq_len (a:=r) (b:=s) (by simpa using h)]
theorem vals_at {l:List Val}{i:Nat} (h:i<l.length):(Val.cs l)[i]?=some (nth l i).cc:=by
 rw[Val.cs_eq,←Val.c_eq];exact at_nth h
theorem Val.ok_iff (v:Val):v.ok↔v.kids.length≤1000000000000∧Vals.ok v.kids:=by cases v;rfl
theorem Val.size_eq (v:Val):v.size=1+Vals.size v.kids:=by cases v;rfl
theorem valEq_eq (v w:Val):valEq v w=(decide (v.ctor=w.ctor)&&(decide (v.num=w.num)&&valsEq v.kids w.kids)):=by cases v;cases w;rfl
theorem valsEq_nth_false {a b:List Val}{i:Nat} (h:i<a.length) (h2:valEq (nth a i) (nth b i)=false):valsEq a b=false:=by
 induction i generalizing a b with
 |zero=>
  cases a with
  |nil=>simp at h
  |cons x r=>
   cases b with
   |nil=>simp[valsEq]
   |cons y s=>simp[nth] at h2;simp[valsEq,h2]
 |succ i ih=>
  cases a with
  |nil=>simp at h
  |cons x r=>
   cases b with
   |nil=>simp[valsEq]
   |cons y s=>simp only[valsEq];rw[ih (a:=r) (b:=s) (by simpa using h) (by simpa [nth] using h2)];simp
theorem valsEq_nth_true {a b:List Val} (hl:a.length=b.length) (h:∀i,i<a.length→valEq (nth a i) (nth b i)=true):valsEq a b=true:=by
 induction a generalizing b with
 |nil=>cases b with
  |nil=>simp[valsEq]
  |cons y s=>simp at hl
 |cons x r ih=>cases b with
  |nil=>simp at hl
  |cons y s=>
   have h0:=h 0 (by simp)
   simp only[valsEq]
   rw[ih (by simpa using hl) (fun i hi=>by simpa [nth] using h (i+1) (by simpa using hi))]
   simpa [nth] using h0
theorem slices_EqualFunc_Val_fn {xs ys:List Val}{f:Nat} (hs:xs.length≤1000000000000) (hcal:Callee Tryz.prog f)
  (hf:∀x∈xs,∀y:Val,FnD Tryz.prog f [.agg [.d (.i x.ctor),.d (.i x.num),.d (encVals x.kids)],.agg [.d (.i y.ctor),.d (.i y.num),.d (encVals y.kids)]] [] (.d (.bool (valEq x y))) []):
  FnD Tryz.prog 45 [.d (encVals xs),.d (encVals ys),.fn f []] [] (.d (.bool (valsEq xs ys))) []:=by
 refine bd Tryz.f45 32 [] [] fun w0 F0 own kept hk=>?_
 refine sq (fun h1 h1p h1s=>?_) fun h1 h1p h1s=>?_
 ·try simp only[Q,Int.natCast_inj,Val.cs_len] at h1p
  refine rn0 (r1 rfl) (.eqd ?_)
  all_goals (refine congrArg D.bool ?_;first|(refine(valsEq_len ?_).symm;omega)|(refine(valsEq_nth_true (by omega) (fun x hx=>hg1.2 x (by omega))).symm)|(refine(valsEq_nth_false (i:=i) (by omega) ?_).symm;assumption))
 ·try simp only[Q,Int.natCast_inj,Val.cs_len] at h1p
  refine CWp.loopX (ι:=Nat) hk (fun i=>[(17,.d (.i (i:Int)))]) [6,7,8,9,18,19,20,21,22,23,24,25,26,27,28,29,30,31] (fun i=>[]) (fun i=>i≤xs.length∧∀i',i'<i→valEq (nth xs i') (nth ys i')=true) (fun i=>xs.length-i) 0 ⟨by omega,fun _ h=>absurd h (by omega)⟩ ⟨⟨_,rfl,(LeA.eqi (by first|rfl|(simp;done)|(simp_all;done)|omega))⟩,trivial⟩ trivial (fun x=>rfl) (fun i hg1=>?_)
  refine evc [] [] ?_
  refine sq (fun h2 h2p h2s=>?_) fun h2 h2p h2s=>?_
  ·try simp only[Q,Int.natCast_inj,Val.cs_len] at h2p
   refine Walk.idx sl27 .none rfl rfl rfl rfl (vals_at (by omega)) rfl ?_
   refine ev ?_
   refine Walk.alloc (id:=3008) tz29 rfl .none rfl rfl rfl rfl ?_
   refine ev ?_
   refine Walk.store ty29 .none rfl rfl rfl rfl rfl rfl (by simp) rfl ?_
   refine tv ?_
   refine Walk.idx sl27 .none rfl rfl rfl rfl (vals_at (by omega)) rfl ?_
   refine ev ?_
   refine Walk.alloc (id:=3009) tz29 rfl .none rfl rfl rfl rfl ?_
   refine Walk.store ty29 .none rfl rfl rfl rfl rfl rfl (by simp) rfl ?_
   refine tv ?_
   refine Walk.callV (cr:=[]) hcal (hf _ (nth_mem (by omega)) _) rfl .none rfl rfl rfl (LeL.refl _) trivial rfl rfl rfl ?_
   refine ev ?_
   refine sq (fun h3 h3p h3s=>?_) fun h3 h3p h3s=>?_
   ·try simp only[Q,Int.natCast_inj,Val.cs_len] at h3p
    refine rn0 (r1 rfl) (.eqd ?_)
    all_goals (refine congrArg D.bool ?_;first|(refine(valsEq_len ?_).symm;omega)|(refine(valsEq_nth_true (by omega) (fun x hx=>hg1.2 x (by omega))).symm)|(refine(valsEq_nth_false (i:=i) (by omega) ?_).symm;assumption))
   ·try simp only[Q,Int.natCast_inj,Val.cs_len] at h3p
    refine ar ?_
    refine Exists.intro (i+1) ⟨⟨by omega,upto_succ hg1.2 (by assumption)⟩,(by omega),Sub.x (by kernel_rfl) (by kernel_rfl) ⟨⟨_,rfl,(LeA.eqi (by first|rfl|(simp;done)|(simp_all;done)|omega))⟩,trivial⟩ (by kernel_rfl) (by kernel_rfl) trivial⟩
  ·try simp only[Q,Int.natCast_inj,Val.cs_len] at h2p
   refine rn0 (r1 rfl) (.eqd ?_)
   all_goals (refine congrArg D.bool ?_;first|(refine(valsEq_len ?_).symm;omega)|(refine(valsEq_nth_true (by omega) (fun x hx=>hg1.2 x (by omega))).symm)|(refine(valsEq_nth_false (i:=i) (by omega) ?_).symm;assumption))
theorem spec_l1Is_fn {w:List Data}{a b:Int}:FnD Tryz.prog 67 [.d (encDatas w),.agg [.d (.i a),.d (.i b)]] [] (.d (.bool (argOk w.length ⟨a,b⟩&&decide (0≤b)))) []:=by
 refine bd Tryz.f67 14 [] [] fun w0 F0 own kept hk=>?_
 refine Walk.box (id:=3003) .none rfl rfl rfl rfl rfl rfl rfl ?_
 refine ev ?_
 refine Walk.call (cr:=[]) cal90 (spec_l1Arg_fn) rfl .none rfl rfl (LeL.refl _) trivial rfl rfl rfl ?_
 refine ev ?_
 refine sq (fun h1 h1p h1s=>?_) fun h1 h1p h1s=>?_
 ·try simp only[Q] at h1p
  refine rn0 (r1 rfl) (.eqd ?_)
  all_goals (first|rfl|(simp[h1s,h1p];done)|(simp_all;done)|(simp_all;omega)|omega)
 ·try simp only[Q] at h1p
  refine rn0 (r1 rfl) (.eqd ?_)
  all_goals (first|rfl|(simp[h1s,h1p];done)|(simp_all;done)|(simp_all;omega)|omega)
theorem spec_TypeValid_fn {w:List Data}{a b:Int} (hs:WSmall w):FnD Tryz.prog 38 [.d (encDatas w),.agg [.d (.i a),.d (.i b)]] [] (.d (.bool (specWorldValid w&&(argOk w.length ⟨a,b⟩&&decide (0≤b))))) []:=by
 refine bd Tryz.f38 12 [] [] fun w0 F0 own kept hk=>?_
 refine Walk.box (id:=3003) .none rfl rfl rfl rfl rfl rfl rfl ?_
 refine ev ?_
 refine Walk.call (cr:=[]) cal66 (spec_WorldValid_fn hs) rfl .none rfl rfl (LeL.refl _) trivial rfl rfl rfl ?_
 refine ev ?_
 refine sq (fun h1 h1p h1s=>?_) fun h1 h1p h1s=>?_
 ·try simp only[Q] at h1p
  refine Walk.call (cr:=[]) cal67 (spec_l1Is_fn) rfl (.some rfl rfl h1) rfl rfl (LeL.refl _) trivial rfl rfl rfl ?_
  refine evs [] [(7,true)] ?_ ⟨⟨_,rfl,h1⟩,trivial⟩
  refine rn0 (r1 rfl) (.eqd ?_)
  all_goals (first|rfl|(simp[h1s,h1p];done)|(simp_all;done)|(simp_all;omega)|omega)
 ·try simp only[Q] at h1p
  refine rn0 (r1 rfl) (.eqd ?_)
  all_goals (first|rfl|(simp[h1s,h1p];done)|(simp_all;done)|(simp_all;omega)|omega)
theorem impl_ValueSame_fn:∀(n:Nat){a b:Val},a.size≤n→a.ok→FnD Tryz.prog 23 [.agg [.d (.i a.ctor),.d (.i a.num),.d (encVals a.kids)],.agg [.d (.i b.ctor),.d (.i b.num),.d (encVals b.kids)]] [] (.d (.bool (valEq a b))) []
 |0,a,b,h,_=>by rw[Val.size_eq] at h;omega
 |n+1,a,b,h,hok=>by
  rw[Val.size_eq] at h
  rw[Val.ok_iff] at hok
  rw[valEq_eq]
  refine bd Tryz.f23 24 [] [] fun w0 F0 own kept hk=>?_
  refine Walk.box (id:=3002) .none rfl rfl rfl rfl rfl rfl rfl ?_
  refine Walk.box (id:=3003) .none rfl rfl rfl rfl rfl rfl rfl ?_
  refine ev ?_
  refine sq (fun h1 h1p h1s=>?_) fun h1 h1p h1s=>?_
  ·try simp only[Q] at h1p
   refine sq (fun h2 h2p h2s=>?_) fun h2 h2p h2s=>?_
   ·try simp only[Q] at h2p
    refine Walk.call (cr:=[]) cal45 (slices_EqualFunc_Val_fn hok.1 cal23 (fun x hx y=>impl_ValueSame_fn n (by have:=Vals.size_mem hx;omega) (Vals.ok_mem hok.2 x hx))) rfl (.some rfl rfl h2) rfl rfl (LeL.refl _) trivial rfl rfl rfl ?_
    refine evs [] [(17,true)] ?_ ⟨⟨_,rfl,h2⟩,trivial⟩
    refine rn0 (r1 rfl) (.eqd ?_)
    all_goals (first|rfl|(simp[h1s,h1p,h2s,h2p];done)|(simp_all;done)|(simp_all;omega)|omega)
   ·try simp only[Q] at h2p
    refine rn0 (r1 rfl) (.eqd ?_)
    all_goals (first|rfl|(simp[h1s,h1p,h2s,h2p];done)|(simp_all;done)|(simp_all;omega)|omega)
  ·try simp only[Q] at h1p
   refine sqF ?_
   refine rn0 (r1 rfl) (.eqd ?_)
   all_goals (first|rfl|(simp[h1s,h1p];done)|(simp_all;done)|(simp_all;omega)|omega)
def Pat.op:Pat→Int | .mk a0 _ _ _ _ _=>a0
def Pat.ctor:Pat→Int | .mk _ a1 _ _ _ _=>a1
def Pat.n:Pat→Int | .mk _ _ a2 _ _ _=>a2
def Pat.m:Pat→Int | .mk _ _ _ a3 _ _=>a3
def Pat.var:Pat→Int | .mk _ _ _ _ a4 _=>a4
def Pat.kids:Pat→List Pat | .mk _ _ _ _ _ k=>k
abbrev Pat.cc (v:Pat):List D:=[.i v.op,.i v.ctor,.i v.n,.i v.m,.i v.var,.sl (Pat.cs v.kids)]
theorem Pat.c_eq (v:Pat):v.c=v.cc:=by cases v;rfl
theorem Pat.eta (v:Pat):Pat.mk v.op v.ctor v.n v.m v.var v.kids=v:=by cases v;rfl
theorem Pat.cs_at' {pre:List Pat}{x:Pat}{rest xs:List Pat} (h:pre++x::rest=xs):(Pat.cs xs)[pre.length]?=some x.cc:=by rw[Pat.cs_eq,←Pat.c_eq];exact zip_at h
mutual
def patEq:Pat→Pat→Bool
 | .mk a0 a1 a2 a3 a4 ks,.mk b0 b1 b2 b3 b4 ls=>decide (a0=b0)&&(decide (a1=b1)&&(decide (a2=b2)&&(decide (a3=b3)&&(decide (a4=b4)&&patsEq ks ls))))
def patsEq:List Pat→List Pat→Bool
 | [],[]=>true
 |x::r,y::s=>patEq x y&&patsEq r s
 |_,_=>false
end
mutual
def Pat.ok:Pat→Prop
 | .mk _ _ _ _ _ ks=>ks.length≤1000000000000∧Pats.ok ks
def Pats.ok:List Pat→Prop
 | []=>True
 |v::r=>v.ok∧Pats.ok r
end
theorem Pats.ok_mem:∀ {l:List Pat},Pats.ok l→∀v,v∈l→v.ok
 |x::r,h,v,hv=>by
  simp only[Pats.ok] at h
  rcases List.mem_cons.1 hv with rfl|hv
  ·exact h.1
  ·exact Pats.ok_mem h.2 v hv
mutual
def Pat.size:Pat→Nat
 | .mk _ _ _ _ _ ks=>1+Pats.size ks
def Pats.size:List Pat→Nat
 | []=>0
 |v::r=>v.size+Pats.size r
end
theorem Pats.size_mem:∀ {l:List Pat}{v:Pat},v∈l→v.size≤Pats.size l
 |x::r,v,hv=>by
  simp only[Pats.size]
  rcases List.mem_cons.1 hv with rfl|hv
  ·omega
  ·have:=Pats.size_mem hv;omega
theorem pats_at {l:List Pat}{i:Nat} (h:i<l.length):(Pat.cs l)[i]?=some (nth l i).cc:=by
 rw[Pat.cs_eq,←Pat.c_eq];exact at_nth h
theorem Pat.ok_iff (v:Pat):v.ok↔v.kids.length≤1000000000000∧Pats.ok v.kids:=by cases v;rfl
theorem Pat.size_eq (v:Pat):v.size=1+Pats.size v.kids:=by cases v;rfl
mutual
theorem patEq_refl:∀v:Pat,patEq v v=true
 | .mk _ _ _ _ _ ks=>by simp[patEq,patsEq_refl ks]
theorem patsEq_refl:∀l:List Pat,patsEq l l=true
 | []=>rfl
 |v::r=>by simp[patsEq,patEq_refl v,patsEq_refl r]
end
theorem Pat.c_len (v:Pat):v.c.length=6:=by cases v;rfl
theorem Pat.cs_rows {l:List Pat}:∀x,x∈Pat.cs l→x.length=6:=by
 intro x hx
 rw[Pat.cs_eq] at hx
 obtain⟨y,_,rfl⟩:=List.mem_map.1 hx
 exact y.c_len
theorem Pat.cs_nil (l:List Pat):Pat.cs l=[]↔l=[]:=by rw[Pat.cs_eq];simp
mutual
def mPat:Pat→Nat
 | .mk _ _ _ _ _ ks=>mPats ks
def mPats:List Pat→Nat
 | []=>0
 |v::r=>1+mPat v+mPats r
end
mutual
def Pat.szM:Pat→Int
 | .mk _ _ _ _ _ ks=>5+Pats.szM ks
def Pats.szM:List Pat→Int
 | []=>0
 |v::r=>v.szM+Pats.szM r
end
mutual
def Pat.one (k:Int):Pat→Pat
 | .mk _ _ _ _ _ ks=> .mk k (k+1) (k+1+1) (k+1+1+1) (k+1+1+1+1) (Pats.one (k+1+1+1+1+1) ks)
def Pats.one (k:Int):List Pat→List Pat
 | []=>[]
 |v::r=>v.one k::Pats.one (k+v.szM) r
end
theorem Pats.szM_eq:∀l:List Pat,Pats.szM l=szL Pat.szM l
 | []=>rfl
 |v::r=>by simp only[Pats.szM,szL,Pats.szM_eq r]
theorem Pats.one_eq:∀(l:List Pat) (k:Int),Pats.one k l=mkL Pat.one Pat.szM k l
 | [],_=>rfl
 |v::r,k=>by simp only[Pats.one,mkL,Pats.one_eq r]
theorem Pat.szM_kids (v:Pat):v.szM=5+szL Pat.szM v.kids:=by cases v;simp only[Pat.szM,Pat.kids,Pats.szM_eq]
theorem Pat.one_kids (v:Pat) (k:Int):(v.one k).kids=mkL Pat.one Pat.szM (k+1+1+1+1+1) v.kids:=by cases v;simp only[Pat.one,Pat.kids,Pats.one_eq]
theorem Pat.one_sc (v:Pat) (k:Int):(Pat.one k v).op=k∧(Pat.one k v).ctor=k+1∧(Pat.one k v).n=k+1+1∧(Pat.one k v).m=k+1+1+1∧(Pat.one k v).var=k+1+1+1+1:=by cases v;exact⟨rfl,rfl,rfl,rfl,rfl⟩
mutual
theorem Pat.szM_nn:∀v:Pat,0≤v.szM
 | .mk _ _ _ _ _ ks=>by have:=Pats.szM_nn ks;simp only[Pat.szM];omega
theorem Pats.szM_nn:∀l:List Pat,0≤Pats.szM l
 | []=>by simp[Pats.szM]
 |v::r=>by have:=Pat.szM_nn v;have:=Pats.szM_nn r;simp only[Pats.szM];omega
end
mutual
theorem Pat.szM_le:∀v:Pat,v.szM≤5+5*(mPat v:Int)
 | .mk _ _ _ _ _ ks=>by have:=Pats.szM_le ks;simp only[Pat.szM,mPat];omega
theorem Pats.szM_le:∀l:List Pat,Pats.szM l≤5*(mPats l:Int)
 | []=>by simp[Pats.szM,mPats]
 |v::r=>by have:=Pat.szM_le v;have:=Pats.szM_le r;simp only[Pats.szM,mPats];omega
end
def TyIn (n:Nat) (t:Ty):Prop:=t.data = -1∨∃d:Nat,t.data=d∧d<n
structure WT (w:List Data):Prop where
 small:WSmall w
 arg:∀d∈w,∀c∈d.ctors,∀t∈c.args,TyIn w.length t
def argsOf (w:List Data) (t:Ty) (c:Int):List Ty:=
 let x:=nth (nth w t.data.toNat).ctors c.toNat
 x.args.map (argTy (resIx x t.index))
def ctorsOf (w:List Data) (t:Ty):List Int:=ctorsFrom t.index 0 (nth w t.data.toNat).ctors
def cap (x:Int):Int:=if 401<x then 401 else x
theorem ctorsFrom_mem (k:Int):∀(l:List Ctor) (i:Nat) (c:Int),c∈ctorsFrom k i l→∃j:Nat,c=(j:Int)∧i≤j∧j<i+l.length
 | [],i,c,h=>by simp[ctorsFrom] at h
 |x::r,i,c,h=>by
  unfold ctorsFrom at h
  have go:c∈ctorsFrom k (i+1) r→∃j:Nat,c=(j:Int)∧i≤j∧j<i+(x::r).length:=fun h=>by
   obtain⟨j,h1,h2,h3⟩:=ctorsFrom_mem k r (i+1) c h
   exact⟨j,h1,by omega,by simp;omega⟩
  split at h
  ·rcases List.mem_cons.1 h with h|h
   ·exact⟨i,h,by omega,by simp⟩
   ·exact go h
  ·exact go h
theorem argTy_in {n:Nat}{k:Int}{t:Ty} (h:TyIn n t):TyIn n (argTy k t):=by
 unfold argTy;split
 ·exact h
 ·exact h
def PlaceIn (w:List Data) (d:Nat) (c:Int):Prop:=∃j:Nat,c=j∧j<(nth w d).ctors.length
theorem place_of {w:List Data}{d:Nat}{k c:Int} (h:c∈ctorsOf w ⟨d,k⟩):PlaceIn w d c:=by
 obtain⟨j,h1,_,h3⟩:=ctorsFrom_mem _ _ _ _ h
 exact⟨j,h1,by simpa using h3⟩
theorem argsOf_in {w:List Data} (hw:WT w){d:Nat} (hd:d<w.length){k c:Int} (hc:PlaceIn w d c){t:Ty} (ht:t∈argsOf w ⟨d,k⟩ c):TyIn w.length t:=by
 obtain⟨j,rfl,hj⟩:=hc
 simp only[argsOf,Int.toNat_natCast,List.mem_map] at ht
 obtain⟨x,hx,rfl⟩:=ht
 exact argTy_in (hw.arg _ (nth_mem hd) _ (nth_mem hj) x hx)
theorem argsOf_len {w:List Data} (hw:WT w){d:Nat} (hd:d<w.length){k c:Int} (hc:PlaceIn w d c):(argsOf w ⟨d,k⟩ c).length≤1000000000000:=by
 obtain⟨j,rfl,hj⟩:=hc
 simp only[argsOf,Int.toNat_natCast,List.length_map]
 exact(hw.small.ctor _ (nth_mem hd) _ (nth_mem hj)).2
theorem ctorsOf_len {w:List Data} (hw:WT w){d:Nat}{k:Int}:(ctorsOf w ⟨d,k⟩).length≤1000000000000:=by
 have:=ctorsFrom_len k (nth w d).ctors 0
 have:=hw.small.ctors d
 simp only[ctorsOf,Int.toNat_natCast];omega
theorem impl_argTypes_in {w:List Data} (hw:WT w){d:Nat} (hd:d<w.length){k c:Int} (hc:PlaceIn w d c):FnD Tryz.prog 65 [.d (encDatas w),.agg [.d (.i d),.d (.i k)],.d (.i c)] [] (.d (encTys (argsOf w ⟨d,k⟩ c))) []:=by
 obtain⟨j,rfl,hj⟩:=hc
 exact impl_argTypes_fn hw.small hd hj
theorem impl_ctorsOf_in {w:List Data} (hw:WT w){d:Nat} (hd:d<w.length){k:Int}:FnD Tryz.prog 64 [.d (encDatas w),.agg [.d (.i d),.d (.i k)]] [] (.d (encInts (ctorsOf w ⟨d,k⟩))) []:=impl_ctorsOf_fn hw.small hd
theorem spec_l1Args_in {w:List Data} (hw:WT w){d:Nat} (hd:d<w.length){k c:Int} (hc:PlaceIn w d c):FnD Tryz.prog 73 [.d (encDatas w),.agg [.d (.i d),.d (.i k)],.d (.i c)] [] (.d (encTys (argsOf w ⟨d,k⟩ c))) []:=by
 obtain⟨j,rfl,hj⟩:=hc
 exact spec_l1Args_fn hw.small hd hj
theorem spec_l1Ctors_in {w:List Data} (hw:WT w){d:Nat} (hd:d<w.length){k:Int}:FnD Tryz.prog 72 [.d (encDatas w),.agg [.d (.i d),.d (.i k)]] [] (.d (encInts (ctorsOf w ⟨d,k⟩))) []:=spec_l1Ctors_fn hw.small hd
end Go.Proofs.YtflgpdjbgfkhoaaGreat
namespace Go.Proofs.YtflgpdjbgfkhoaaGreat
open Go
set_option linter.unusedSimpArgs false
set_option linter.unusedVariables false
def ctorNames (w:List Data):List Str:=w.flatMap fun d=>d.ctors.map (·.name)
structure WV (w:List Data):Prop where
 len:w.length≤4
 data:∀d∈w,dataNameOk d.name=true∧1≤d.ctors.length∧d.ctors.length≤4
 ctor:∀d∈w,∀c∈d.ctors,ctorOk w.length c=true
 names:(w.map (·.name)).Nodup
 cnames:(ctorNames w).Nodup
theorem ctorsOk_iff (n:Nat):∀(l:List Ctor) (met met':List Str),ctorsOk n met l=some met'↔met'=met++l.map (·.name)∧(∀c∈l,ctorOk n c=true)∧(l.map (·.name)).Nodup∧∀c∈l,c.name∉met
 | [],met,met'=>by
  unfold ctorsOk
  simp only[Option.some.injEq,List.map_nil,List.append_nil]
  exact⟨fun h=>⟨h.symm,by simp,by simp,by simp⟩,fun h=>h.1.symm⟩
 |c::r,met,met'=>by
  unfold ctorsOk
  by_cases h:(ctorOk n c&& !decide (c.name∈met))=true
  ·rw[if_pos h,ctorsOk_iff n r]
   simp only[Bool.and_eq_true,Bool.not_eq_true',decide_eq_false_iff_not] at h
   obtain⟨h1,h2⟩:=h
   constructor
   ·rintro ⟨rfl,q1,q2,q3⟩
    refine⟨by simp,fun x hx=>?_, ?_,fun x hx=>?_⟩
    ·rcases List.mem_cons.1 hx with rfl|hx
     ·exact h1
     ·exact q1 x hx
    ·simp only[List.map_cons,List.nodup_cons]
     refine⟨fun hm=>?_,q2⟩
     obtain⟨x,hx,he⟩:=List.mem_map.1 hm
     exact q3 x hx (by rw[he];simp)
    ·rcases List.mem_cons.1 hx with rfl|hx
     ·exact h2
     ·intro hm;exact q3 x hx (by simp[hm])
   ·rintro ⟨rfl,q1,q2,q3⟩
    simp only[List.map_cons,List.nodup_cons] at q2
    refine⟨by simp,fun x hx=>q1 x (List.mem_cons_of_mem _ hx),q2.2,fun x hx hm=>?_⟩
    simp only[List.mem_append,List.mem_singleton] at hm
    rcases hm with hm|hm
    ·exact q3 x (List.mem_cons_of_mem _ hx) hm
    ·exact q2.1 (hm ▸ List.mem_map.2 ⟨x,hx,rfl⟩)
  ·rw[if_neg h]
   constructor
   ·intro h';cases h'
   ·rintro ⟨_,q1,_,q3⟩
    exfalso;apply h
    simp[q1 c (by simp),q3 c (by simp)]
theorem datasOk_iff (n:Nat):∀(l:List Data) (met datas:List Str),datasOk n met datas l=true↔
  (∀d∈l,dataNameOk d.name=true∧1≤d.ctors.length∧d.ctors.length≤4)∧(∀d∈l,∀c∈d.ctors,ctorOk n c=true)∧(l.map (·.name)).Nodup∧(∀d∈l,d.name∉datas)∧
   (ctorNames l).Nodup∧∀s∈ctorNames l,s∉met
 | [],met,datas=>by simp[datasOk,ctorNames]
 |d::r,met,datas=>by
  have hcn:ctorNames (d::r)=d.ctors.map (·.name)++ctorNames r:=rfl
  have hw:within d.ctors.length 1 4=true↔1≤d.ctors.length∧d.ctors.length≤4:=by simp[within];omega
  unfold datasOk
  simp only[Bool.and_eq_true,Bool.not_eq_true',decide_eq_false_iff_not,hw]
  constructor
  ·rintro ⟨⟨⟨h1,h2⟩,h3⟩,h4⟩
   split at h4
   ·rename_i met' hm
    obtain⟨rfl,c1,c2,c3⟩:=(ctorsOk_iff n _ _ _).1 hm
    obtain⟨q1,q2,q3,q4,q5,q6⟩:=(datasOk_iff n r _ _).1 h4
    refine⟨fun x hx=>?_,fun x hx=>?_, ?_,fun x hx=>?_, ?_,fun s hs=>?_⟩
    ·rcases List.mem_cons.1 hx with rfl|hx
     ·exact⟨h1,h3⟩
     ·exact q1 x hx
    ·rcases List.mem_cons.1 hx with rfl|hx
     ·exact c1
     ·exact q2 x hx
    ·simp only[List.map_cons,List.nodup_cons]
     refine⟨fun hm=>?_,q3⟩
     obtain⟨x,hx,he⟩:=List.mem_map.1 hm
     exact q4 x hx (by rw[he];simp)
    ·rcases List.mem_cons.1 hx with rfl|hx
     ·exact h2
     ·intro hm;exact q4 x hx (by simp[hm])
    ·rw[hcn,List.nodup_append]
     refine⟨c2,q5,fun a ha b hb he=>?_⟩
     subst he
     exact q6 a hb (by simp only[List.mem_append];exact .inr ha)
    ·rw[hcn] at hs
     rcases List.mem_append.1 hs with hs|hs
     ·obtain⟨c,hc,rfl⟩:=List.mem_map.1 hs
      exact c3 c hc
     ·intro hm;exact q6 s hs (by simp[hm])
   ·cases h4
  ·rintro ⟨q1,q2,q3,q4,q5,q6⟩
   rw[hcn] at q5 q6
   rw[List.nodup_append] at q5
   simp only[List.map_cons,List.nodup_cons] at q3
   have hd:=q1 d (by simp)
   have hm:ctorsOk n met d.ctors=some (met++d.ctors.map (·.name)):=(ctorsOk_iff n _ _ _).2 ⟨rfl,q2 d (by simp),q5.1,fun c hc=>q6 _ (List.mem_append.2 (.inl (List.mem_map.2 ⟨c,hc,rfl⟩)))⟩
   refine⟨⟨⟨hd.1,q4 d (by simp)⟩,hd.2⟩, ?_⟩
   rw[hm]
   refine(datasOk_iff n r _ _).2 ⟨fun x hx=>q1 x (List.mem_cons_of_mem _ hx),fun x hx=>q2 x (List.mem_cons_of_mem _ hx),q3.2,fun x hx hmem=>?_,q5.2.1,fun s hs hmem=>?_⟩
   ·simp only[List.mem_append,List.mem_singleton] at hmem
    rcases hmem with hmem|hmem
    ·exact q4 x (List.mem_cons_of_mem _ hx) hmem
    ·exact q3.1 (hmem ▸ List.mem_map.2 ⟨x,hx,rfl⟩)
   ·rcases List.mem_append.1 hmem with hmem|hmem
    ·exact q6 s (List.mem_append.2 (.inr hs)) hmem
    ·exact q5.2.2 s hmem s hs rfl
theorem worldValid_iff (w:List Data):worldValid w=true↔WV w:=by
 unfold worldValid
 rw[Bool.and_eq_true,datasOk_iff]
 constructor
 ·rintro ⟨h1,q1,q2,q3,_,q5,_⟩
  exact⟨by have:=of_decide_eq_true h1;omega,q1,q2,q3,q5⟩
 ·rintro ⟨h1,q1,q2,q3,q5⟩
  exact⟨decide_eq_true (by omega),q1,q2,q3,by simp,q5,by simp⟩
theorem nodup_iff_nth {l:List Str}:l.Nodup↔∀i j,i<j→j<l.length→nth l i≠nth l j:=by
 unfold List.Nodup
 rw[List.pairwise_iff_getElem]
 constructor
 ·intro h i j hij hj
  have:=h i j (by omega) hj hij
  simpa [nth,List.getD,hj,(by omega:i<l.length)] using this
 ·intro h i j hi hj hij
  have:=h i j hij hj
  simpa [nth,List.getD,hj,hi] using this
theorem nth_eq {α:Type} [Inhabited α]{l:List α}{i:Nat} (h:i<l.length):nth l i=l[i]:=by simp[nth,List.getD,h]
theorem cnames_iff (w:List Data):(ctorNames w).Nodup↔(∀d,d<w.length→∀j k,j<k→k<(nth w d).ctors.length→(nth (nth w d).ctors j).name≠(nth (nth w d).ctors k).name)∧
  ∀i d,i<d→d<w.length→∀j k,j<(nth w i).ctors.length→k<(nth w d).ctors.length→(nth (nth w i).ctors j).name≠(nth (nth w d).ctors k).name:=by
 unfold ctorNames List.Nodup
 rw[List.pairwise_flatMap]
 constructor
 ·rintro ⟨h1,h2⟩
  refine⟨fun d hd j k hjk hk=>?_,fun i d hid hd j k hj hk=>?_⟩
  ·have:=h1 (nth w d) (nth_mem hd)
   rw[List.pairwise_iff_getElem] at this
   have:=this j k (by simp;omega) (by simpa using hk) hjk
   simpa [nth_eq hk,nth_eq (show j<(nth w d).ctors.length by omega)] using this
  ·rw[List.pairwise_iff_getElem] at h2
   have:=h2 i d (by omega) hd hid
   rw[←nth_eq hd,←nth_eq (show i<w.length by omega)] at this
   exact this _ (List.mem_map.2 ⟨_,nth_mem hj,rfl⟩) _ (List.mem_map.2 ⟨_,nth_mem hk,rfl⟩)
 ·rintro ⟨h1,h2⟩
  refine⟨fun x hx=>?_, ?_⟩
  ·obtain⟨d,hd,rfl⟩:=List.getElem_of_mem hx
   rw[List.pairwise_iff_getElem]
   intro j k hj hk hjk
   have hk':k<(nth w d).ctors.length:=by rw[nth_eq hd];simpa using hk
   have:=h1 d hd j k hjk hk'
   rw[nth_eq hk',nth_eq (show j<(nth w d).ctors.length by omega)] at this
   simp only[nth_eq hd] at this
   simpa using this
  ·rw[List.pairwise_iff_getElem]
   intro i d hi hd hid x hx y hy
   obtain⟨a,ha,rfl⟩:=List.mem_map.1 hx
   obtain⟨b,hb,rfl⟩:=List.mem_map.1 hy
   obtain⟨j,hj,rfl⟩:=List.getElem_of_mem ha
   obtain⟨k,hk,rfl⟩:=List.getElem_of_mem hb
   have hj':j<(nth w i).ctors.length:=by rw[nth_eq hi];exact hj
   have hk':k<(nth w d).ctors.length:=by rw[nth_eq hd];exact hk
   have:=h2 i d hid hd j k hj' hk'
   rw[nth_eq hj',nth_eq hk'] at this
   simpa only[nth_eq hi,nth_eq hd] using this
theorem names_iff (w:List Data):(w.map (·.name)).Nodup↔∀i d,i<d→d<w.length→(nth w i).name≠(nth w d).name:=by
 rw[nodup_iff_nth]
 have e:∀i,i<w.length→nth (w.map (·.name)) i=(nth w i).name:=fun i hi=>by simp[nth,List.getD,hi]
 constructor
 ·intro h i d hid hd
  have:=h i d hid (by simpa using hd)
  rwa [e i (by omega),e d hd] at this
 ·intro h i d hid hd
  have hd':d<w.length:=by simpa using hd
  rw[e i (by omega),e d hd']
  exact h i d hid hd'
theorem twice_iff (w:List Data) (d k:Nat):twice w d k=false↔(∀i,i<d→(nth w i).name≠(nth w d).name)∧
  ∀i j,i≤d→j<(nth w i).ctors.length→(i<d∨j<k)→k<(nth w d).ctors.length→(nth (nth w i).ctors j).name≠(nth (nth w d).ctors k).name:=by
 unfold twice
 rw[List.any_eq_false]
 constructor
 ·intro h
  refine⟨fun i hi he=>?_,fun i j hi hj hij hk he=>?_⟩
  ·apply h i (List.mem_range.2 (by omega))
   unfold rowTwice;simp[hi,he]
  ·apply h i (List.mem_range.2 (by omega))
   unfold rowTwice
   rw[any_range_true hj (by unfold hitTwice;simp[hk,he];omega)]
   simp
 ·rintro ⟨h1,h2⟩ i hi
  have hi':=List.mem_range.1 hi
  unfold rowTwice
  simp only[Bool.or_eq_true,Bool.and_eq_true,decide_eq_true_eq,not_or,not_and]
  refine⟨fun hid=>h1 i hid, ?_⟩
  rw[any_range_false (fun j hj=>?_)]
  ·simp
  ·unfold hitTwice
   cases hc:((decide (i<d)||decide (j<k))&&(decide (k<(nth w d).ctors.length)&&decide ((nth (nth w i).ctors j).name=(nth (nth w d).ctors k).name))) with
   |false=>rfl
   |true=>
    simp only[Bool.and_eq_true,Bool.or_eq_true,decide_eq_true_eq] at hc
    exact absurd hc.2.2 (h2 i j (by omega) hj hc.1 hc.2.1)
theorem specWorldValid_iff (w:List Data):specWorldValid w=true↔WV w:=by
 unfold specWorldValid
 rw[Bool.and_eq_true,decide_eq_true_eq,List.all_eq_true]
 have hs:∀d,specData w d=true↔dataNameOk (nth w d).name=true∧1≤(nth w d).ctors.length∧(nth w d).ctors.length≤4∧∀k,k<(nth w d).ctors.length→ctorOk w.length (nth (nth w d).ctors k)=true∧twice w d k=false:=fun d=>by
  unfold specData
  simp only[Bool.and_eq_true,decide_eq_true_eq,List.all_eq_true,List.mem_range,specCtors,Bool.not_eq_true']
 constructor
 ·rintro ⟨h1,h2⟩
  have h3:∀d,d<w.length→_:=fun d hd=>(hs d).1 (h2 d (List.mem_range.2 hd))
  have h4:∀d,d<w.length→∀k,k<(nth w d).ctors.length→_:=fun d hd k hk=>(twice_iff w d k).1 ((h3 d hd).2.2.2 k hk).2
  refine⟨h1,fun d hd=>?_,fun d hd c hc=>?_,(names_iff w).2 (fun i d hid hd=>?_),(cnames_iff w).2 ⟨fun d hd j k hjk hk=>?_,fun i d hid hd j k hj hk=>?_⟩⟩
  ·obtain⟨i,hi,rfl⟩:=List.getElem_of_mem hd
   have:=h3 i hi
   rw[nth_eq hi] at this
   exact⟨this.1,this.2.1,this.2.2.1⟩
  ·obtain⟨i,hi,rfl⟩:=List.getElem_of_mem hd
   obtain⟨k,hk,rfl⟩:=List.getElem_of_mem hc
   have hk':k<(nth w i).ctors.length:=by rw[nth_eq hi];exact hk
   have:=((h3 i hi).2.2.2 k hk').1
   rw[nth_eq hk'] at this
   simpa only[nth_eq hi] using this
  ·exact(h4 d hd 0 (by have:=(h3 d hd).2.1;omega)).1 i hid
  ·exact(h4 d hd k hk).2 d j (Nat.le_refl _) (by omega) (.inr hjk) hk
  ·exact(h4 d hd k hk).2 i j (by omega) hj (.inl hid) hk
 ·intro h
  refine⟨h.len,fun d hd=>?_⟩
  have hd':=List.mem_range.1 hd
  have hm:=nth_mem hd'
  have hn:=(names_iff w).1 h.names
  have hc:=(cnames_iff w).1 h.cnames
  refine(hs d).2 ⟨(h.data _ hm).1,(h.data _ hm).2.1,(h.data _ hm).2.2,fun k hk=>⟨h.ctor _ hm _ (nth_mem hk),(twice_iff w d k).2 ⟨fun i hi=>hn i d hi hd',fun i j hi hj hij hk'=>?_⟩⟩⟩
  by_cases hid:i<d
  ·exact hc.2 i d hid hd' j k hj hk'
  ·have:i=d:=by omega
   subst this
   exact hc.1 i hd' j k (by omega) hk'
theorem specWorldValid_eq (w:List Data):specWorldValid w=worldValid w:=by
 rw[Bool.eq_iff_iff,specWorldValid_iff,worldValid_iff]
theorem argOk_in {n:Nat}{t:Ty} (h:argOk n t=true):TyIn n t:=by
 unfold argOk at h
 simp only[Bool.or_eq_true,Bool.and_eq_true,decide_eq_true_eq,within] at h
 rcases h with h|h
 ·exact .inl h.1
 ·exact .inr ⟨t.data.toNat,by omega,by omega⟩
theorem typeOk_in {n:Nat}{t:Ty} (h:typeOk n t=true):TyIn n t:=by
 unfold typeOk at h
 simp only[Bool.or_eq_true,Bool.and_eq_true,decide_eq_true_eq,within] at h
 rcases h with h|h
 ·exact .inl h.1
 ·exact .inr ⟨t.data.toNat,by omega,by omega⟩
theorem WV.wt {w:List Data} (hs:WSmall w) (h:WV w):WT w:=⟨hs,fun d hd c hc t ht=>by
 have:=h.ctor d hd c hc
 unfold ctorOk at this
 simp only[Bool.and_eq_true,Bool.not_eq_true',List.any_eq_false,Bool.not_eq_true,Bool.not_eq_false] at this
 exact argOk_in (by have:=this.2.2.2 t ht;simpa using this)⟩
theorem spec_tv (w:List Data) (t:Ty):(specWorldValid w&&(argOk w.length t&&decide (0≤t.index)))=typeValid w t:=by
 rw[specWorldValid_eq]
 unfold typeValid
 congr 1
 rw[Bool.eq_iff_iff]
 unfold argOk typeOk within
 simp
 omega
end Go.Proofs.YtflgpdjbgfkhoaaGreat
namespace Go.Proofs.YtflgpdjbgfkhoaaGreat
open Go
set_option linter.unusedSimpArgs false
set_option linter.unusedVariables false
set_option maxRecDepth 100000
set_option maxHeartbeats 2000000
theorem drop_nth {α:Type} [Inhabited α]{l:List α}{i:Nat} (h:i<l.length):l.drop i=nth l i::l.drop (i+1):=by
 rw[nth_eq h];exact List.drop_eq_getElem_cons h
def all2 {α β:Type} (f:α→β→Bool):List α→List β→Bool
 | [],[]=>true
 |a::r,b::s=>f a b&&all2 f r s
 |_,_=>false
theorem all2_len {α β:Type}{f:α→β→Bool}:∀ {a:List α}{b:List β},a.length≠b.length→all2 f a b=false
 | [],[],h=>by simp at h
 | [],_::_,_=>rfl
 |_::_,[],_=>rfl
 |x::r,y::s,h=>by simp[all2,all2_len (a:=r) (b:=s) (by simpa using h)]
theorem all2_nth_false {α β:Type} [Inhabited α] [Inhabited β]{f:α→β→Bool}{a:List α}{b:List β}{i:Nat} (h:i<a.length) (hl:a.length=b.length) (h2:f (nth a i) (nth b i)=false):all2 f a b=false:=by
 induction i generalizing a b with
 |zero=>
  cases a with
  |nil=>simp at h
  |cons x r=>
   cases b with
   |nil=>simp[all2]
   |cons y s=>simp[nth] at h2;simp[all2,h2]
 |succ i ih=>
  cases a with
  |nil=>simp at h
  |cons x r=>
   cases b with
   |nil=>simp[all2]
   |cons y s=>simp only[all2];rw[ih (a:=r) (b:=s) (by simpa using h) (by simpa using hl) (by simpa [nth] using h2)];simp
theorem all2_nth_true {α β:Type} [Inhabited α] [Inhabited β]{f:α→β→Bool}{a:List α}{b:List β} (hl:a.length=b.length) (h:∀i,i<a.length→f (nth a i) (nth b i)=true):all2 f a b=true:=by
 induction a generalizing b with
 |nil=>cases b with
  |nil=>simp[all2]
  |cons y s=>simp at hl
 |cons x r ih=>cases b with
  |nil=>simp at hl
  |cons y s=>
   have h0:=h 0 (by simp)
   simp only[all2]
   rw[ih (by simpa using hl) (fun i hi=>by simpa [nth] using h (i+1) (by simpa using hi))]
   simpa [nth] using h0
def idxI (l:List Int) (v:Int):Int:=idxF (fun x=>decide (v=x)) l 0
theorem slices_Index_int_fn {l:List Int}{v:Int} (h:l.length≤1000000000000):FnD Tryz.prog 86 [.d (encInts l),.d (.i v)] [] (.d (.i (idxI l v))) []:=by
 refine bd Tryz.f86 19 [] [] fun w0 F0 own kept hk=>?_
 refine CWp.loopX (ι:=List (Int)×List (Int)) hk (fun x=>[(8,.d (.i (x.1.length:Int)))]) [4,5,9,10,11,12,13,14,15,16,17,18] (fun x=>[]) (fun x=>x.1++x.2=l∧idxF (fun x=>decide (v=x)) x.2 x.1.length=idxF (fun x=>decide (v=x)) l 0) (fun x=>x.2.length) ([],l) ⟨by simp,rfl⟩ ⟨⟨_,rfl,(LeA.eqi (by first|rfl|(simp;done)|(simp_all;done)|omega))⟩,trivial⟩ trivial (fun x=>rfl) (fun x hg1=>?_)
 obtain⟨pre,rest⟩:=x
 dsimp only at hg1 ⊢
 refine evc [] [] ?_
 refine sq (fun h1 h1p h1s=>?_) fun h1 h1p h1s=>?_
 ·try simp only[Q] at h1p
  rcases rest with _|⟨y,rest⟩
  ·exfalso;simp_all
  refine Walk.idx sl75 .none rfl rfl rfl rfl (zip_at hg1.1) rfl ?_
  refine ev ?_
  refine sq (fun h2 h2p h2s=>?_) fun h2 h2p h2s=>?_
  ·try simp only[Q] at h2p
   refine rn0 (r1 rfl) (.eqd ?_)
   all_goals (unfold idxI;rw[←hg1.2];simp[idxF,h1s,h1p,h2s,h2p])
  ·try simp only[Q] at h2p
   refine ar ?_
   refine Exists.intro ((pre++[y],rest)) ⟨⟨(by have hz:=hg1.1;rw[←hz];simp),(by rw[←hg1.2];simp[idxF,h2p])⟩,(by simp),Sub.x (by kernel_rfl) (by kernel_rfl) ⟨⟨_,rfl,(LeA.eqi (by first|rfl|(simp;done)|(simp_all;done)|omega))⟩,trivial⟩ (by kernel_rfl) (by kernel_rfl) trivial⟩
 ·try simp only[Q] at h1p
  have hrest:rest=[]:=by
   rcases rest with _|⟨a,b⟩
   ·rfl
   ·exfalso;have hz:=congrArg List.length (hg1.1);simp only[List.length_append,List.length_cons,List.length_map] at hz;omega
  subst hrest
  refine rn0 (r1 rfl) (.eqd ?_)
  all_goals (unfold idxI;rw[←hg1.2];simp[idxF,h1s,h1p])
theorem slices_Contains_int_fn {l:List Int}{v:Int} (h:l.length≤1000000000000):FnD Tryz.prog 63 [.d (encInts l),.d (.i v)] [] (.d (.bool (decide (v∈l)))) []:=by
 refine bd Tryz.f63 9 [] [] fun w0 F0 own kept hk=>?_
 refine Walk.call (cr:=[]) cal86 (slices_Index_int_fn h) rfl .none rfl rfl (LeL.refl _) trivial rfl rfl rfl ?_
 refine ev ?_
 refine rn0 (r1 rfl) (.eqd ?_)
 all_goals (refine congrArg D.bool ?_;rw[show idxI l v=idxF (fun x=>decide (v=x)) l 0 from rfl,idxF_any];simp[List.any_eq,eq_comm])
theorem spec_l1Has_fn {l:List Int}{v:Int} (h:l.length≤1000000000000):FnD Tryz.prog 71 [.d (encInts l),.d (.i v)] [] (.d (.bool (decide (v∈l)))) []:=by
 refine bd Tryz.f71 18 [] [] fun w0 F0 own kept hk=>?_
 refine CWp.loopX (ι:=List (Int)×List (Int)) hk (fun x=>[(5,.d (.i (x.1.length:Int)))]) [4,6,7,8,9,10,11,12,13,14,15,16,17] (fun x=>[]) (fun x=>x.1++x.2=l∧v∉x.1) (fun x=>x.2.length) ([],l) ⟨by simp,by simp⟩ ⟨⟨_,rfl,(LeA.eqi (by first|rfl|(simp;done)|(simp_all;done)|omega))⟩,trivial⟩ trivial (fun x=>rfl) (fun x hg1=>?_)
 obtain⟨pre,rest⟩:=x
 dsimp only at hg1 ⊢
 refine evc [] [] ?_
 refine sq (fun h1 h1p h1s=>?_) fun h1 h1p h1s=>?_
 ·try simp only[Q] at h1p
  rcases rest with _|⟨y,rest⟩
  ·exfalso;simp_all
  refine Walk.idx sl75 .none rfl rfl rfl rfl (zip_at hg1.1) rfl ?_
  refine ev ?_
  refine sq (fun h2 h2p h2s=>?_) fun h2 h2p h2s=>?_
  ·try simp only[Q] at h2p
   refine rn0 (r1 rfl) (.eqd ?_)
   all_goals (refine congrArg D.bool ?_;first|(symm;rw[decide_eq_true_eq,←hg1.1];simp[h1s,h1p,h2s,h2p];done)|(symm;rw[decide_eq_false_iff_not,←hg1.1];intro hm;simp at hm;exact absurd hm (by simpa using hg1.2)))
  ·try simp only[Q] at h2p
   refine ar ?_
   refine Exists.intro ((pre++[y],rest)) ⟨⟨(by have hz:=hg1.1;rw[←hz];simp),(by have:=hg1.2;simp[this,eq_comm];omega)⟩,(by simp),Sub.x (by kernel_rfl) (by kernel_rfl) ⟨⟨_,rfl,(LeA.eqi (by first|rfl|(simp;done)|(simp_all;done)|omega))⟩,trivial⟩ (by kernel_rfl) (by kernel_rfl) trivial⟩
 ·try simp only[Q] at h1p
  have hrest:rest=[]:=by
   rcases rest with _|⟨a,b⟩
   ·rfl
   ·exfalso;have hz:=congrArg List.length (hg1.1);simp only[List.length_append,List.length_cons,List.length_map] at hz;omega
  subst hrest
  refine rn0 (r1 rfl) (.eqd ?_)
  all_goals (refine congrArg D.bool ?_;first|(symm;rw[decide_eq_true_eq,←hg1.1];simp[h1s,h1p];done)|(symm;rw[decide_eq_false_iff_not,←hg1.1];intro hm;simp at hm;exact absurd hm (by simpa using hg1.2)))
structure Vt where
 var:Int
 ty:Ty
 deriving DecidableEq,Inhabited
abbrev Vt.c (t:Vt):List D:=[.i t.var,.i t.ty.data,.i t.ty.index]
abbrev encVts (l:List Vt):D:= .sl (l.map Vt.c)
def vctors (w:List Data) (t:Ty):List Int:=if t.data = -1 then [] else ctorsOf w t
def typesP (w:List Data) (t:Ty) (p:Pat):List Ty:=if p.op=4 then argsOf w t p.ctor else if p.op=5 then [t,t] else if p.op=6 then [t] else []
def ownP (w:List Data) (t:Ty) (p:Pat):Bool:=decide (((p.op=2∨p.op=6)→0≤p.var∧p.var≤5)∧(¬(p.op=2∨p.op=6)→p.var=0)∧(p.op≠3→p.n=0∧p.m=0)∧(p.op≠4→p.ctor=0)∧
 (p.op=1∨p.op=2∨p.op=5∨p.op=6∨(p.op=3∧t.data = -1∧0≤p.n∧p.n≤p.m∧p.m≤9)∨(p.op=4∧p.ctor∈vctors w t)))
def okP (w:List Data) (t:Ty) (p:Pat):Bool:=ownP w t p&&decide (p.kids.length=(typesP w t p).length)
def shapeT (w:List Data) (t:Ty) (p:Pat):List Ty:=if p.op=4∧p.ctor∉vctors w t then [] else typesP w t p
def shapeP (w:List Data):Nat→Ty→Pat→Bool
 |0,_,_=>false
 |n+1,t,p=>ownP w t p&&all2 (shapeP w n) (typesP w t p) p.kids
def nameP (t:Ty) (p:Pat):List Vt:=if p.op=2∨p.op=6 then [⟨p.var,t⟩] else []
def varsL (f:Ty→Pat→List Vt):List Ty→List Pat→List Vt
 |a::r,b::s=>f a b++varsL f r s
 |_,_=>[]
def vtypes (w:List Data) (t:Ty) (p:Pat):List Ty:=if p.op=5 then (typesP w t p).take 1 else typesP w t p
def varsP (w:List Data):Nat→Ty→Pat→List Vt
 |0,_,_=>[]
 |n+1,t,p=>nameP t p++varsL (varsP w n) (vtypes w t p) p.kids
def findV (l:List Vt) (n:Int):Int:=idxF (fun v=>decide (v.var=n)) l 0
def alikeV (a b:List Vt):Bool:=a.all (fun v=>decide (0≤findV b v.var∧(nth b (findV b v.var).toNat).ty=v.ty))&&decide (a.length=b.length)
def distV (l:List Vt):Bool:=(List.range l.length).all fun(i:Nat)=>decide (findV l (nth l i).var=(i:Int))
def sameV2 (a b:List Vt):Bool:=decide (a.length=b.length)&& !a.any fun v=> !decide (v∈b)
def nodupV (l:List Vt):Bool:=decide (l.map Vt.var).Nodup
def linP (w:List Data):Nat→Ty→Pat→Bool
 |0,_,_=>true
 |n+1,t,p=>all2 (linP w n) (typesP w t p) p.kids&&(if p.op=5 then alikeV (varsP w n t (nth p.kids 0)) (varsP w n t (nth p.kids 1)) else distV (varsP w (n+1) t p))
theorem findV_spec (l:List Vt) (n:Int):(findV l n = -1∧∀v∈l,v.var≠n)∨∃k:Nat,findV l n=k∧k<l.length∧(nth l k).var=n∧∀j,j<k→(nth l j).var≠n:=by
 have key:∀(l:List Vt) (i:Nat),(idxF (fun v=>decide (v.var=n)) l i = -1∧∀v∈l,v.var≠n)∨∃k:Nat,idxF (fun v=>decide (v.var=n)) l i=((i+k:Nat):Int)∧k<l.length∧(nth l k).var=n∧∀j,j<k→(nth l j).var≠n:=by
  intro l
  induction l with
  |nil=>intro i;exact .inl ⟨rfl,by simp⟩
  |cons x r ih=>
   intro i
   unfold idxF
   by_cases h:x.var=n
   ·exact .inr ⟨0,by simp[h],by simp,by simpa [nth] using h,fun j hj=>absurd hj (by omega)⟩
   ·rcases ih (i+1) with ⟨h1,h2⟩|⟨k,h1,h2,h3,h4⟩
    ·exact .inl ⟨by simpa [h] using h1,fun v hv=>by rcases List.mem_cons.1 hv with rfl|hv;exact h;exact h2 v hv⟩
    ·refine .inr ⟨k+1, ?_,by simpa using h2,by simpa [nth] using h3,fun j hj=>?_⟩
     ·simp only[h,decide_false,Bool.false_eq_true,if_false];rw[h1];congr 1;omega
     ·cases j with
      |zero=>simpa [nth] using h
      |succ j=>simpa [nth] using h4 j (by omega)
 rcases key l 0 with h|⟨k,h1,h2⟩
 ·exact .inl h
 ·exact .inr ⟨k,by unfold findV;simpa using h1,h2⟩
theorem nodup_iff {l:List Vt}:(l.map Vt.var).Nodup↔∀i j,i<j→j<l.length→(nth l i).var≠(nth l j).var:=by
 unfold List.Nodup
 rw[List.pairwise_iff_getElem]
 constructor
 ·intro h i j hij hj
  have:=h i j (by simp;omega) (by simpa using hj) hij
  simp only[List.getElem_map] at this
  rw[nth_eq (by omega),nth_eq hj];exact this
 ·intro h i j hi hj hij
  simp only[List.length_map] at hi hj
  simp only[List.getElem_map]
  rw[←nth_eq hi,←nth_eq hj];exact h i j hij hj
theorem nodup_nth {l:List Vt} (h:(l.map Vt.var).Nodup){i j:Nat} (hi:i<l.length) (hj:j<l.length) (he:(nth l i).var=(nth l j).var):i=j:=by
 have h1:=nodup_iff.1 h
 rcases Nat.lt_trichotomy i j with h2|h2|h2
 ·exact absurd he (h1 i j h2 hj)
 ·exact h2
 ·exact absurd he.symm (h1 j i h2 hi)
theorem distV_eq (l:List Vt):distV l=nodupV l:=by
 unfold nodupV
 by_cases h:(l.map Vt.var).Nodup
 ·rw[decide_eq_true h]
  refine all_range_true (fun i hi=>decide_eq_true ?_)
  rcases findV_spec l (nth l i).var with ⟨_,h2⟩|⟨k,h1,h2,h3,h4⟩
  ·exact absurd rfl (h2 _ (nth_mem hi))
  ·rw[h1,nodup_nth h h2 hi h3]
 ·rw[decide_eq_false h]
  cases hd:distV l with
  |false=>rfl
  |true=>
   refine absurd ?_ h
   rw[nodup_iff]
   intro i j hij hj he
   have h1:=List.all_eq_true.1 hd i (List.mem_range.2 (by omega))
   have h2:=List.all_eq_true.1 hd j (List.mem_range.2 hj)
   simp only[decide_eq_true_eq] at h1 h2
   rw[he,h2] at h1
   omega
theorem alike_same {a b:List Vt} (hb:nodupV b=true):alikeV a b=sameV2 a b:=by
 unfold nodupV at hb
 simp only[decide_eq_true_eq] at hb
 unfold alikeV sameV2
 rw[Bool.and_comm]
 congr 1
 rw[Bool.eq_iff_iff]
 simp only[List.all_eq_true,Bool.not_eq_true',List.any_eq_false,decide_eq_true_eq,Bool.not_eq_true,decide_eq_false_iff_not,Decidable.not_not]
 refine forall_congr' fun v=>forall_congr' fun hv=>?_
 rcases findV_spec b v.var with ⟨h1,h2⟩|⟨k,h1,h2,h3,h4⟩
 ·rw[h1]
  exact⟨fun h=>absurd h.1 (by omega),fun h=>absurd rfl (h2 v h)⟩
 ·rw[h1]
  simp only[Int.toNat_natCast]
  constructor
  ·rintro ⟨_,h⟩
   have:nth b k=v:=by
    have e:∀x y:Vt,x.var=y.var→x.ty=y.ty→x=y:=fun x y h1 h2=>by cases x;cases y;simp_all
    exact e _ _ h3 h
   rw[←this];exact nth_mem h2
  ·intro h
   refine⟨by omega, ?_⟩
   obtain⟨j,hj,he⟩:=List.getElem_of_mem h
   have h5:nth b j=v:=by rw[nth_eq hj];exact he
   have:=nodup_nth hb h2 hj (by rw[h3,h5])
   rw[this,h5]
def scanK (g:Ty→Pat→Int→Option (List Vt)×Int) (or:Bool):List Ty→List Pat→Nat→List Vt→Int→Option (List Vt)×Int
 |a::r,b::s,i,acc,c=>match (g a b c).1 with
  |none=>(none,(g a b c).2)
  |some l=>if or=true∧i=1 then (if sameV2 acc l=true then scanK g or r s (i+1) acc (g a b c).2 else (none,(g a b c).2)) else scanK g or r s (i+1) (acc++l) (g a b c).2
 |_,_,_,acc,c=>(some acc,c)
def finV (r:Option (List Vt)×Int):Option (List Vt)×Int:=match r.1 with
 |none=>r
 |some l=>if nodupV l=true then r else (none,r.2)
def scanP (w:List Data):Nat→Ty→Pat→Int→Option (List Vt)×Int
 |0,_,_,c=>(none,c+1)
 |n+1,t,p,c=>if 60<c+1 then (none,c+1) else if okP w t p=true then finV (scanK (scanP w n) (decide (p.op=5)) (typesP w t p) p.kids 0 (nameP t p) (c+1)) else (none,c+1)
def wantP (w:List Data) (n:Nat) (t:Ty) (p:Pat) (c:Int):Bool:=shapeP w n t p&&(decide (c+(p.size:Int)≤60)&&linP w n t p)
theorem lin_nodup (w:List Data):∀(n:Nat) (t:Ty) (p:Pat),shapeP w n t p=true→linP w n t p=true→nodupV (varsP w n t p)=true
 |0,t,p,h,_=>by simp[shapeP] at h
 |n+1,t,p,h,hl=>by
  by_cases h5:p.op=5
  ·simp only[shapeP,linP,Bool.and_eq_true,if_pos h5] at h hl
   have e1:typesP w t p=[t,t]:=by unfold typesP;rw[if_neg (by omega),if_pos h5]
   rw[e1] at h hl
   rcases hk:p.kids with _|⟨x,_|⟨y,_|⟨z,r⟩⟩⟩
   ·rw[hk] at h;simp[all2] at h
   ·rw[hk] at h;simp[all2] at h
   ·rw[hk] at h hl
    simp only[all2,Bool.and_eq_true,and_true] at h hl
    have:=lin_nodup w n t x h.2.1 hl.1.1
    have e2:varsP w (n+1) t p=varsP w n t x:=by
     simp only[varsP,nameP,vtypes,e1,hk,if_pos h5]
     rw[if_neg (by omega)]
     simp[varsL]
    rw[e2];exact this
   ·rw[hk] at h;simp[all2] at h
  ·simp only[linP,if_neg h5,Bool.and_eq_true] at hl
   rw[←distV_eq];exact hl.2
theorem scanK_eq {w:List Data}{n:Nat} (ih:∀t p c,((scanP w n t p c).1=if wantP w n t p c=true then some (varsP w n t p) else none)∧(wantP w n t p c=true→(scanP w n t p c).2=c+p.size)):
  ∀(a:List Ty) (b:List Pat) (i:Nat) (acc:List Vt) (c:Int),a.length=b.length→c≤60→
   ((scanK (scanP w n) false a b i acc c).1=if (all2 (shapeP w n) a b&&(decide (c+(Pats.size b:Int)≤60)&&all2 (linP w n) a b))=true then some (acc++varsL (varsP w n) a b) else none)∧
   ((all2 (shapeP w n) a b&&(decide (c+(Pats.size b:Int)≤60)&&all2 (linP w n) a b))=true→(scanK (scanP w n) false a b i acc c).2=c+Pats.size b)
 | [],[],i,acc,c,_,hc=>by simp[scanK,all2,Pats.size,varsL,hc]
 |x::r,y::s,i,acc,c,hl,hc=>by
  obtain⟨h1,h2⟩:=ih x y c
  have hps:Pats.size (y::s)=y.size+Pats.size s:=rfl
  simp only[scanK,varsL]
  by_cases hw:wantP w n x y c=true
  ·have h3:=h2 hw
   rw[if_pos hw] at h1
   rw[h1]
   simp only[Bool.false_eq_true,false_and,if_false]
   have h4:=hw
   simp only[wantP,Bool.and_eq_true,decide_eq_true_eq] at h4
   obtain⟨h5,h6⟩:=scanK_eq ih r s (i+1) (acc++varsP w n x y) (scanP w n x y c).2 (by simpa using hl) (by omega)
   have e:(all2 (shapeP w n) (x::r) (y::s)&&(decide (c+(Pats.size (y::s):Int)≤60)&&all2 (linP w n) (x::r) (y::s)))=(all2 (shapeP w n) r s&&(decide ((scanP w n x y c).2+(Pats.size s:Int)≤60)&&all2 (linP w n) r s)):=by
    rw[all2,all2,h4.1,h4.2.2,h3]
    simp only[Bool.true_and]
    congr 2
    exact decide_eq_decide.2 (by omega)
   rw[e]
   refine⟨?_,fun hx=>?_⟩
   ·rw[h5,List.append_assoc]
   ·rw[h6 hx,h3];omega
  ·rw[if_neg hw] at h1
   rw[h1]
   simp only
   have hf:¬(all2 (shapeP w n) (x::r) (y::s)&&(decide (c+(Pats.size (y::s):Int)≤60)&&all2 (linP w n) (x::r) (y::s)))=true:=fun h=>by
    simp only[all2,Bool.and_eq_true,decide_eq_true_eq] at h
    refine hw ?_
    simp only[wantP,Bool.and_eq_true,decide_eq_true_eq]
    refine⟨h.1.1, ?_,h.2.2.1⟩
    have:=h.2.1
    omega
   rw[if_neg hf]
   exact⟨rfl,fun h=>absurd h hf⟩
 | [],_::_,_,_,_,hl,_=>by simp at hl
 |_::_,[],_,_,_,hl,_=>by simp at hl
theorem scanP_eq (w:List Data):∀(n:Nat) (t:Ty) (p:Pat) (c:Int),((scanP w n t p c).1=if wantP w n t p c=true then some (varsP w n t p) else none)∧(wantP w n t p c=true→(scanP w n t p c).2=c+p.size)
 |0,t,p,c=>by simp[scanP,wantP,shapeP]
 |n+1,t,p,c=>by
  have hsz:=Pat.size_eq p
  unfold scanP
  by_cases h1:60<c+1
  ·have hf:¬wantP w (n+1) t p c=true:=fun h=>by
    simp only[wantP,Bool.and_eq_true,decide_eq_true_eq] at h;omega
   rw[if_pos h1,if_neg hf]
   exact⟨rfl,fun h=>absurd h hf⟩
  rw[if_neg h1]
  by_cases h2:okP w t p=true
  ·rw[if_pos h2]
   have h2':=h2
   simp only[okP,Bool.and_eq_true,decide_eq_true_eq] at h2'
   by_cases h5:p.op=5
   ·have e1:typesP w t p=[t,t]:=by unfold typesP;rw[if_neg (by omega),if_pos h5]
    have e3:nameP t p=[]:=by unfold nameP;rw[if_neg (by omega)]
    rw[e1] at h2'
    rcases hk:p.kids with _|⟨x,_|⟨y,_|⟨z,r⟩⟩⟩
    ·rw[hk] at h2';simp at h2'
    ·rw[hk] at h2';simp at h2'
    ·have e4:varsP w (n+1) t p=varsP w n t x:=by
      simp only[varsP,vtypes,e1,hk,if_pos h5,e3]
      simp[varsL]
     have e5:wantP w (n+1) t p c=((shapeP w n t x&&shapeP w n t y)&&(decide (c+1+(x.size:Int)+y.size≤60)&&((linP w n t x&&linP w n t y)&&alikeV (varsP w n t x) (varsP w n t y)))):=by
      simp only[wantP,shapeP,linP,h2'.1,e1,hk,all2,if_pos h5,Bool.and_true,Bool.true_and,nth,List.getD_cons_zero,List.getD_cons_succ]
      congr 2
      refine decide_eq_decide.2 ?_
      rw[hsz,hk];simp only[Pats.size];push_cast;omega
     rw[e4,e5,e1,e3]
     obtain⟨a1,a2⟩:=scanP_eq w n t x (c+1)
     simp only[scanK,h5,decide_true]
     by_cases w1:wantP w n t x (c+1)=true
     ·have a3:=a2 w1
      rw[if_pos w1] at a1
      have b1:=w1
      simp only[wantP,Bool.and_eq_true,decide_eq_true_eq] at b1
      obtain⟨d1,d2⟩:=scanP_eq w n t y (scanP w n t x (c+1)).2
      rw[a1]
      simp only[true_and,Nat.zero_ne_one,if_false,List.nil_append]
      by_cases w2:wantP w n t y (scanP w n t x (c+1)).2=true
      ·have d3:=d2 w2
       rw[if_pos w2] at d1
       have b2:=w2
       simp only[wantP,Bool.and_eq_true,decide_eq_true_eq] at b2
       rw[d1]
       simp only[Nat.zero_add,if_true]
       have n1:=lin_nodup w n t x b1.1 b1.2.2
       have n2:=lin_nodup w n t y b2.1 b2.2.2
       have e6:((shapeP w n t x&&shapeP w n t y)&&(decide (c+1+(x.size:Int)+y.size≤60)&&((linP w n t x&&linP w n t y)&&alikeV (varsP w n t x) (varsP w n t y))))=sameV2 (varsP w n t x) (varsP w n t y):=by
        rw[b1.1,b2.1,b1.2.2,b2.2.2,alike_same n2,decide_eq_true (by omega)];simp
       rw[e6]
       by_cases hs:sameV2 (varsP w n t x) (varsP w n t y)=true
       ·rw[if_pos hs,if_pos hs]
        simp only[finV,n1,if_true]
        refine⟨trivial,fun _=>?_⟩
        rw[d3,a3,hsz,hk];simp only[Pats.size];push_cast;omega
       ·rw[if_neg hs,if_neg hs]
        simp only[finV]
        exact⟨trivial,fun h=>absurd h hs⟩
      ·rw[if_neg w2] at d1
       rw[d1]
       simp only[finV]
       have hf:¬((shapeP w n t x&&shapeP w n t y)&&(decide (c+1+(x.size:Int)+y.size≤60)&&((linP w n t x&&linP w n t y)&&alikeV (varsP w n t x) (varsP w n t y))))=true:=fun h=>by
        simp only[Bool.and_eq_true,decide_eq_true_eq] at h
        refine w2 ?_
        simp only[wantP,Bool.and_eq_true,decide_eq_true_eq]
        exact⟨h.1.2,by omega,h.2.2.1.2⟩
       rw[if_neg hf]
       exact⟨rfl,fun h=>absurd h hf⟩
     ·rw[if_neg w1] at a1
      rw[a1]
      simp only[finV]
      have hf:¬((shapeP w n t x&&shapeP w n t y)&&(decide (c+1+(x.size:Int)+y.size≤60)&&((linP w n t x&&linP w n t y)&&alikeV (varsP w n t x) (varsP w n t y))))=true:=fun h=>by
       simp only[Bool.and_eq_true,decide_eq_true_eq] at h
       refine w1 ?_
       simp only[wantP,Bool.and_eq_true,decide_eq_true_eq]
       exact⟨h.1.1,by omega,h.2.2.1.1⟩
      rw[if_neg hf]
      exact⟨rfl,fun h=>absurd h hf⟩
    ·rw[hk] at h2';simp at h2'
   ·have e0:(decide (p.op=5))=false:=decide_eq_false h5
    rw[e0]
    obtain⟨a1,a2⟩:=scanK_eq (fun t p c=>scanP_eq w n t p c) (typesP w t p) p.kids 0 (nameP t p) (c+1) h2'.2.symm (by omega)
    have e4:varsP w (n+1) t p=nameP t p++varsL (varsP w n) (typesP w t p) p.kids:=by simp only[varsP,vtypes,if_neg h5]
    have e5:wantP w (n+1) t p c=((all2 (shapeP w n) (typesP w t p) p.kids&&(decide (c+1+(Pats.size p.kids:Int)≤60)&&all2 (linP w n) (typesP w t p) p.kids))&&nodupV (varsP w (n+1) t p)):=by
     have:decide (c+(p.size:Int)≤60)=decide (c+1+(Pats.size p.kids:Int)≤60):=decide_eq_decide.2 (by omega)
     simp only[wantP,shapeP,linP,h2'.1,if_neg h5,Bool.true_and,distV_eq,this,Bool.and_assoc]
    rw[e5]
    by_cases hw:(all2 (shapeP w n) (typesP w t p) p.kids&&(decide (c+1+(Pats.size p.kids:Int)≤60)&&all2 (linP w n) (typesP w t p) p.kids))=true
    ·rw[if_pos hw,←e4] at a1
     have a3:=a2 hw
     rw[hw,Bool.true_and]
     unfold finV
     rw[a1]
     by_cases hn:nodupV (varsP w (n+1) t p)=true
     ·simp only[hn,if_true]
      exact⟨a1,fun _=>by rw[a3];omega⟩
     ·simp only[hn,Bool.false_eq_true,if_false]
      exact⟨trivial,fun h=>absurd h (by simp)⟩
    ·rw[if_neg hw] at a1
     have hw':(all2 (shapeP w n) (typesP w t p) p.kids&&(decide (c+1+(Pats.size p.kids:Int)≤60)&&all2 (linP w n) (typesP w t p) p.kids))=false:=by simpa using hw
     rw[hw',Bool.false_and]
     unfold finV
     rw[a1]
     simp[a1]
  ·have hf:¬wantP w (n+1) t p c=true:=fun h=>by
    simp only[wantP,shapeP,Bool.and_eq_true,decide_eq_true_eq] at h
    refine h2 ?_
    simp only[okP,Bool.and_eq_true,decide_eq_true_eq]
    refine⟨h.1.1, ?_⟩
    by_cases hl:(typesP w t p).length=p.kids.length
    ·exact hl.symm
    ·have:=all2_len (f:=shapeP w n) hl
     rw[this] at h;simp at h
   rw[if_neg h2,if_neg hf]
   exact⟨rfl,fun h=>absurd h hf⟩
mutual
def cntP (m:Int):Pat→Int
 | .mk _ _ _ _ _ ks=>cntPL m 1 ks
def cntPL (m n:Int):List Pat→Int
 | []=>n
 |k::r=>if n≤m then cntPL m (n+cntP (m-n) k) r else n
end
theorem cntP_eq (m:Int) (v:Pat):cntP m v=cntPL m 1 v.kids:=by cases v;rfl
theorem cntPL_stop {m n:Int}{l:List Pat} (h:¬n≤m):cntPL m n l=n:=by cases l<;>simp[cntPL,h]
mutual
theorem cntP_le:∀(v:Pat) (m:Int),1≤cntP m v∧cntP m v≤v.size
 | .mk _ _ _ _ _ ks,m=>by
  have:=cntPL_le ks m 1 (by omega)
  simp only[cntP,Pat.size];push_cast;omega
theorem cntPL_le:∀(l:List Pat) (m n:Int),1≤n→1≤cntPL m n l∧cntPL m n l≤n+Pats.size l
 | [],m,n,h=>by simp[cntPL,Pats.size];omega
 |k::r,m,n,h=>by
  have h1:=cntP_le k (m-n)
  have h2:=cntPL_le r m (n+cntP (m-n) k) (by omega)
  simp only[cntPL,Pats.size]
  split
  ·push_cast;omega
  ·push_cast;omega
end
mutual
theorem cntP_iff:∀(v:Pat) (m:Int),(cntP m v≤m↔(v.size:Int)≤m)∧(cntP m v≤m→cntP m v=v.size)
 | .mk _ _ _ _ _ ks,m=>by
  have:=cntPL_iff ks m 1
  simp only[cntP,Pat.size];push_cast;exact this
theorem cntPL_iff:∀(l:List Pat) (m n:Int),(cntPL m n l≤m↔n+(Pats.size l:Int)≤m)∧(cntPL m n l≤m→cntPL m n l=n+Pats.size l)
 | [],m,n=>by simp[cntPL,Pats.size]
 |k::r,m,n=>by
  have h1:=cntP_iff k (m-n)
  have h2:=cntPL_iff r m (n+cntP (m-n) k)
  have h3:=cntPL_le r m (n+cntP (m-n) k)
  have h4:=cntP_le k (m-n)
  simp only[cntPL,Pats.size]
  push_cast
  by_cases hn:n≤m
  ·rw[if_pos hn]
   by_cases h5:cntP (m-n) k≤m-n
   ·have h6:=h1.2 h5
    rw[h6] at h2 ⊢
    constructor
    ·rw[h2.1];constructor<;>intro h<;>omega
    ·intro h;rw[h2.2 h];omega
   ·have h7:¬(k.size:Int)≤m-n:=fun h=>h5 (h1.1.2 h)
    have h8:¬n+cntP (m-n) k≤m:=by omega
    rw[cntPL_stop h8]
    constructor
    ·constructor<;>intro h<;>omega
    ·intro h;omega
  ·rw[if_neg hn]
   constructor
   ·constructor<;>intro h<;>omega
   ·intro h;omega
end
theorem Pats.size_split {pre rest l:List Pat}{y:Pat} (h:pre++y::rest=l):Pats.size l=Pats.size pre+y.size+Pats.size rest:=by
 subst h
 induction pre with
 |nil=>simp[Pats.size]
 |cons x r ih=>simp only[List.cons_append,Pats.size,ih];omega
theorem pnth_size {l:List Pat}{i:Nat} (h:i<l.length):(nth l i).size≤Pats.size l:=Pats.size_mem (nth_mem h)
theorem psize_drop {l:List Pat}{i:Nat} (h:i<l.length):Pats.size (l.drop i)=(nth l i).size+Pats.size (l.drop (i+1)):=by
 rw[drop_nth h];rfl
theorem spec_l3Count_fn:∀(n:Nat){v:Pat}{m:Int},v.size≤n→v.size≤1000000000000→v.ok→0≤m→m≤1000000000000→FnD Tryz.prog 92 [.agg [.d (.i v.op),.d (.i v.ctor),.d (.i v.n),.d (.i v.m),.d (.i v.var),.d (encPats v.kids)],.d (.i m)] [] (.d (.i (cntP m v))) []
 |0,v,m,h,_,_,_,_=>by rw[Pat.size_eq] at h;omega
 |n+1,v,m,h,hb,hok,m0,m1=>by
  rw[Pat.size_eq] at h hb
  rw[Pat.ok_iff] at hok
  rw[cntP_eq]
  refine bd Tryz.f92 31 [] [] fun w0 F0 own kept hk=>?_
  refine Walk.box (id:=3002) .none rfl rfl rfl rfl rfl rfl rfl ?_
  refine ev ?_
  refine CWp.loopX (ι:=Nat×Int) hk (fun x=>[(6,.d (.i (x.1:Int))),(5,.d (.i x.2))]) [7,8,9,10,11,12,13,14,15,16,17,18,19,20,21,22,23,24,25,26,27,28,29] (fun x=>[]) (fun x=>x.1≤v.kids.length∧cntPL m x.2 (v.kids.drop x.1)=cntPL m 1 v.kids∧1≤x.2∧x.2+Pats.size (v.kids.drop x.1)≤1+Pats.size v.kids) (fun x=>v.kids.length-x.1) (0,1) ⟨by simp,by simp,by simp,by simp⟩ ⟨⟨_,rfl,(LeA.eqi (by first|rfl|(simp;done)|(dsimp only;omega)))⟩,⟨⟨_,rfl,(LeA.eqi (by first|rfl|(simp;done)|(dsimp only;omega)))⟩,trivial⟩⟩ trivial (fun x=>rfl) (fun x hg1=>?_)
  refine evc [] [] ?_
  refine sq (fun h1 h1p h1s=>?_) fun h1 h1p h1s=>?_
  ·try simp only[Q,Pat.cs_len] at h1p
   refine sq (fun h2 h2p h2s=>?_) fun h2 h2p h2s=>?_
   ·try simp only[Q,Pat.cs_len] at h2p
    refine Walk.idx sl35 .none rfl rfl rfl rfl (pats_at (by omega)) rfl ?_
    refine ev ?_
    refine ar ?_ (by first|(constructor<;>omega)|(have hz:=cntP_le (nth v.kids x.1) (m-x.2);have hs:=psize_drop (l:=v.kids) (i:=x.1) (by omega);constructor<;>omega)|(constructor<;>simp[Pat.cs_len]<;>omega))
    refine Walk.call (cr:=[]) cal92 (spec_l3Count_fn n (v:=nth v.kids x.1) (by have:=pnth_size (l:=v.kids) (i:=x.1) (by omega);omega) (by have:=pnth_size (l:=v.kids) (i:=x.1) (by omega);omega) (Pats.ok_mem hok.2 _ (nth_mem (by omega))) (by omega) (by omega)) rfl .none rfl rfl (LeL.refl _) trivial rfl rfl rfl ?_
    refine ev ?_
    refine ar ?_ (by first|(constructor<;>omega)|(have hz:=cntP_le (nth v.kids x.1) (m-x.2);have hs:=psize_drop (l:=v.kids) (i:=x.1) (by omega);constructor<;>omega)|(constructor<;>simp[Pat.cs_len]<;>omega))
    refine ar ?_ (by first|(constructor<;>omega)|(have hz:=cntP_le (nth v.kids x.1) (m-x.2);have hs:=psize_drop (l:=v.kids) (i:=x.1) (by omega);constructor<;>omega)|(constructor<;>simp[Pat.cs_len]<;>omega))
    refine Exists.intro ((x.1+1,x.2+cntP (m-x.2) (nth v.kids x.1))) ⟨(by
        have hz:=cntP_le (nth v.kids x.1) (m-x.2)
        have hs:=psize_drop (l:=v.kids) (i:=x.1) (by omega)
        refine⟨by dsimp only;omega, ?_,by dsimp only;omega,by dsimp only;omega⟩
        rw[←hg1.2.1,drop_nth (l:=v.kids) (i:=x.1) (by omega),cntPL,if_pos (by omega)]),(by dsimp only;omega),Sub.x (by kernel_rfl) (by kernel_rfl) ⟨⟨_,rfl,(LeA.eqi (by first|rfl|(simp;done)|(dsimp only;omega)))⟩,⟨⟨_,rfl,(LeA.eqi (by first|rfl|(simp;done)|(dsimp only;omega)))⟩,trivial⟩⟩ (by kernel_rfl) (by kernel_rfl) trivial⟩
   ·try simp only[Q,Pat.cs_len] at h2p
    refine rn0 (r1 rfl) (.eqd ?_)
    all_goals (refine congrArg D.i ?_;rw[←hg1.2.1];first|(rw[List.drop_eq_nil_of_le (by omega)];rfl)|(rw[cntPL_stop (by omega)]))
  ·try simp only[Q,Pat.cs_len] at h1p
   refine sqF ?_
   refine rn0 (r1 rfl) (.eqd ?_)
   all_goals (refine congrArg D.i ?_;rw[←hg1.2.1];first|(rw[List.drop_eq_nil_of_le (by omega)];rfl)|(rw[cntPL_stop (by omega)]))
end Go.Proofs.YtflgpdjbgfkhoaaGreat
namespace Go.Proofs.YtflgpdjbgfkhoaaGreat
open Go
set_option linter.unusedSimpArgs false
set_option linter.unusedVariables false
set_option maxRecDepth 100000
set_option maxHeartbeats 4000000
theorem vctors_in {w:List Data}{d:Nat}{k:Int}:vctors w ⟨d,k⟩=ctorsOf w ⟨d,k⟩:=by unfold vctors;rw[if_neg (by simp only;omega)]
theorem vctors_int {w:List Data}{k:Int}:vctors w ⟨-1,k⟩=[]:=by unfold vctors;rw[if_pos rfl]
theorem vctors_len {w:List Data} (hw:WT w){a k:Int} (ht:TyIn w.length ⟨a,k⟩):(vctors w ⟨a,k⟩).length≤1000000000000:=by
 rcases ht with ha|⟨d,hd,hlt⟩
 ·simp only at ha;subst ha;rw[vctors_int];exact Nat.zero_le _
 ·simp only at hd;subst hd;rw[vctors_in];exact ctorsOf_len hw
theorem vctors_data {w:List Data}{a k c:Int} (ht:TyIn w.length ⟨a,k⟩) (h:c∈vctors w ⟨a,k⟩):∃d:Nat,a=d∧d<w.length∧PlaceIn w d c:=by
 rcases ht with ha|⟨d,hd,hlt⟩
 ·simp only at ha;subst ha;rw[vctors_int] at h;simp at h
 ·simp only at hd;subst hd;rw[vctors_in] at h;exact⟨d,rfl,hlt,place_of h⟩
theorem typesP_in {w:List Data} (hw:WT w){a k:Int}{p:Pat} (ht:TyIn w.length ⟨a,k⟩) (h:ownP w ⟨a,k⟩ p=true):∀t∈typesP w ⟨a,k⟩ p,TyIn w.length t:=by
 intro t hm
 unfold typesP at hm
 split at hm
 ·rename_i h4
  unfold ownP at h
  have h':=of_decide_eq_true h
  have hc:p.ctor∈vctors w ⟨a,k⟩:=by
   rcases h'.2.2.2.2 with h|h|h|h|h|h
   ·omega
   ·omega
   ·omega
   ·omega
   ·omega
   ·exact h.2
  obtain⟨d,rfl,h1,h2⟩:=vctors_data ht hc
  exact argsOf_in hw h1 h2 hm
 ·split at hm
  ·simp only[List.mem_cons,List.not_mem_nil,or_false] at hm
   rcases hm with rfl|rfl<;>exact ht
  ·split at hm
   ·simp only[List.mem_cons,List.not_mem_nil,or_false] at hm
    subst hm;exact ht
   ·simp at hm
theorem typesP_len {w:List Data} (hw:WT w){a k:Int}{p:Pat} (ht:TyIn w.length ⟨a,k⟩) (h:p.op=4→p.ctor∈vctors w ⟨a,k⟩):(typesP w ⟨a,k⟩ p).length≤1000000000000:=by
 unfold typesP
 split
 ·rename_i h4
  obtain⟨d,rfl,h1,h2⟩:=vctors_data ht (h h4)
  exact argsOf_len hw h1 h2
 ·split
  ·simp
  ·split<;>simp
def kidsN (op:Int):Int:=if op=5 then 2 else if op=6 then 1 else if op=4 then -1 else 0
theorem spec_l3Kids_fn {op:Int}:FnD Tryz.prog 124 [.d (.i op)] [] (.d (.i (kidsN op))) []:=by
 refine bd Tryz.f124 10 [] [] fun w0 F0 own kept hk=>?_
 refine sq (fun h1 h1p h1s=>?_) fun h1 h1p h1s=>?_
 ·try simp only[Q] at h1p
  refine rn0 (r1 rfl) (.eqd ?_)
  all_goals (refine congrArg D.i ?_;simp only[kidsN];simp_all)
 ·try simp only[Q] at h1p
  refine sq (fun h2 h2p h2s=>?_) fun h2 h2p h2s=>?_
  ·try simp only[Q] at h2p
   refine rn0 (r1 rfl) (.eqd ?_)
   all_goals (refine congrArg D.i ?_;simp only[kidsN];simp_all)
  ·try simp only[Q] at h2p
   refine sq (fun h3 h3p h3s=>?_) fun h3 h3p h3s=>?_
   ·try simp only[Q] at h3p
    refine rn0 (r1 rfl) (.eqd ?_)
    all_goals (refine congrArg D.i ?_;simp only[kidsN];simp_all)
   ·try simp only[Q] at h3p
    refine rn0 (r1 rfl) (.eqd ?_)
    all_goals (refine congrArg D.i ?_;simp only[kidsN];simp_all)
theorem spec_l1Ctors_v {w:List Data} (hw:WT w){a k:Int} (ht:TyIn w.length ⟨a,k⟩):FnD Tryz.prog 72 [.d (encDatas w),.agg [.d (.i a),.d (.i k)]] [] (.d (encInts (vctors w ⟨a,k⟩))) []:=by
 rcases ht with ha|⟨d,hd,hlt⟩
 ·simp only at ha;subst ha;rw[vctors_int];exact spec_l1Ctors_int_fn
 ·simp only at hd;subst hd;rw[vctors_in];exact spec_l1Ctors_in hw hlt
theorem spec_l1Args_v {w:List Data} (hw:WT w){a k c:Int} (ht:TyIn w.length ⟨a,k⟩) (hc:c∈vctors w ⟨a,k⟩):FnD Tryz.prog 73 [.d (encDatas w),.agg [.d (.i a),.d (.i k)],.d (.i c)] [] (.d (encTys (argsOf w ⟨a,k⟩ c))) []:=by
 obtain⟨d,rfl,h1,h2⟩:=vctors_data ht hc
 exact spec_l1Args_in hw h1 h2
theorem spec_l3Own_fn {w:List Data} (hw:WT w){a k:Int}{p:Pat} (ht:TyIn w.length ⟨a,k⟩):
  FnD Tryz.prog 122 [.d (encDatas w),.agg [.d (.i a),.d (.i k)],.agg [.d (.i p.op),.d (.i p.ctor),.d (.i p.n),.d (.i p.m),.d (.i p.var),.d (encPats p.kids)]] [] (.d (.bool (ownP w ⟨a,k⟩ p))) []:=by
 have hcl:=vctors_len hw ht
 refine bd Tryz.f122 96 [] [1,2,4,13] fun w0 F0 own kept hk=>?_
 refine Walk.box (id:=3004) .none rfl rfl rfl rfl rfl rfl rfl ?_
 refine Walk.box (id:=3005) .none rfl rfl rfl rfl rfl rfl rfl ?_
 refine ev ?_
 refine CWp.regionJ ?_
 refine WRest.join 8 [(15,.d (.bool (decide (p.op=2∨p.op=6))))] [8,9,10,11,12,13,14] ?_ ?_
 ·
  refine ev ?_
  refine sq (fun h1 h1p h1s=>?_) fun h1 h1p h1s=>?_
  ·try simp only[Q] at h1p
   exact jnb rfl
  ·try simp only[Q] at h1p
   exact jnb rfl
 refine WRest.done ?_
 refine ev ?_
 refine CWp.regionJ ?_
 refine WRest.join 11 [(26,.d (.bool (decide ((p.op=2∨p.op=6)∧(p.var<0∨5<p.var)))))] [16,17,18,19,20,21,22,23,24,25] ?_ ?_
 ·
  refine ev ?_
  refine sq (fun h2 h2p h2s=>?_) fun h2 h2p h2s=>?_
  ·try simp only[Q] at h2p
   refine sq (fun h3 h3p h3s=>?_) fun h3 h3p h3s=>?_
   ·try simp only[Q] at h3p
    exact jnb rfl
   ·try simp only[Q] at h3p
    exact jnb rfl
  ·try simp only[Q] at h2p
   exact jnb rfl
 refine WRest.join 9 [(35,.d (.bool (decide ((p.op=2∨p.op=6)∧(p.var<0∨5<p.var)∨¬(p.op=2∨p.op=6)∧p.var≠0))))] [27,28,29,30,31,32,33,34] ?_ ?_
 ·
  refine ev ?_
  refine sq (fun h4 h4p h4s=>?_) fun h4 h4p h4s=>?_
  ·try simp only[Q] at h4p
   exact jnb rfl
  ·try simp only[Q] at h4p
   refine sq (fun h5 h5p h5s=>?_) fun h5 h5p h5s=>?_
   ·try simp only[Q] at h5p
    exact jnb rfl
   ·try simp only[Q] at h5p
    exact jnb rfl
 refine WRest.done ?_
 refine tv ?_
 refine sq (fun h6 h6p h6s=>?_) fun h6 h6p h6s=>?_
 ·try simp only[Q] at h6p
  refine rn0 (r1 rfl) (.eqd ?_)
  all_goals (refine congrArg D.bool ?_;unfold ownP;rw[Bool.eq_iff_iff];by_cases hmem:p.ctor∈vctors w ⟨a,k⟩<;>(simp only[hmem,and_true,and_false,or_false,decide_eq_true_eq,Bool.and_eq_true,Bool.false_eq_true,true_iff,false_iff];simp only[decide_eq_true_eq,decide_eq_false_iff_not] at *;omega))
 ·try simp only[Q] at h6p
  refine CWp.regionJ ?_
  refine WRest.join 13 [(48,.d (.bool (decide (p.op≠3∧(p.n≠0∨p.m≠0)))))] [36,37,38,39,40,41,42,43,44,45,46,47] ?_ ?_
  ·
   refine ev ?_
   refine sq (fun h7 h7p h7s=>?_) fun h7 h7p h7s=>?_
   ·try simp only[Q] at h7p
    refine sq (fun h8 h8p h8s=>?_) fun h8 h8p h8s=>?_
    ·try simp only[Q] at h8p
     exact jnb rfl
    ·try simp only[Q] at h8p
     exact jnb rfl
   ·try simp only[Q] at h7p
    exact jnb rfl
  refine WRest.join 10 [(58,.d (.bool (decide (p.op≠3∧(p.n≠0∨p.m≠0)∨p.op≠4∧p.ctor≠0))))] [49,50,51,52,53,54,55,56,57] ?_ ?_
  ·
   refine ev ?_
   refine sq (fun h9 h9p h9s=>?_) fun h9 h9p h9s=>?_
   ·try simp only[Q] at h9p
    exact jnb rfl
   ·try simp only[Q] at h9p
    refine sq (fun h10 h10p h10s=>?_) fun h10 h10p h10s=>?_
    ·try simp only[Q] at h10p
     exact jnb rfl
    ·try simp only[Q] at h10p
     exact jnb rfl
  refine WRest.done ?_
  refine tv ?_
  refine sq (fun h11 h11p h11s=>?_) fun h11 h11p h11s=>?_
  ·try simp only[Q] at h11p
   refine rn0 (r1 rfl) (.eqd ?_)
   all_goals (refine congrArg D.bool ?_;unfold ownP;rw[Bool.eq_iff_iff];by_cases hmem:p.ctor∈vctors w ⟨a,k⟩<;>(simp only[hmem,and_true,and_false,or_false,decide_eq_true_eq,Bool.and_eq_true,Bool.false_eq_true,true_iff,false_iff];simp only[decide_eq_true_eq,decide_eq_false_iff_not] at *;omega))
  ·try simp only[Q] at h11p
   refine sq (fun h12 h12p h12s=>?_) fun h12 h12p h12s=>?_
   ·try simp only[Q] at h12p
    refine sq (fun h13 h13p h13s=>?_) fun h13 h13p h13s=>?_
    ·try simp only[Q] at h13p
     refine rn0 (r1 rfl) (.eqd ?_)
     all_goals (refine congrArg D.bool ?_;unfold ownP;rw[Bool.eq_iff_iff];by_cases hmem:p.ctor∈vctors w ⟨a,k⟩<;>(simp only[hmem,and_true,and_false,or_false,decide_eq_true_eq,Bool.and_eq_true,Bool.false_eq_true,true_iff,false_iff];simp only[decide_eq_true_eq,decide_eq_false_iff_not] at *;omega))
    ·try simp only[Q] at h13p
     refine sq (fun h14 h14p h14s=>?_) fun h14 h14p h14s=>?_
     ·try simp only[Q] at h14p
      refine CWp.regionJ ?_
      refine WRest.join 8 [(75,.d (.bool (decide (a = -1∧0≤p.n))))] [68,69,70,71,72,73,74] ?_ ?_
      ·
       refine ev ?_
       refine sq (fun h15 h15p h15s=>?_) fun h15 h15p h15s=>?_
       ·try simp only[Q] at h15p
        exact jnb rfl
       ·try simp only[Q] at h15p
        exact jnb rfl
      refine WRest.join 7 [(82,.d (.bool (decide (a = -1∧0≤p.n∧p.n≤p.m))))] [76,77,78,79,80,81] ?_ ?_
      ·
       refine ev ?_
       refine sq (fun h16 h16p h16s=>?_) fun h16 h16p h16s=>?_
       ·try simp only[Q] at h16p
        exact jnb rfl
       ·try simp only[Q] at h16p
        exact jnb rfl
      refine WRest.join 5 [(87,.d (.bool (decide (a = -1∧0≤p.n∧p.n≤p.m∧p.m≤9))))] [83,84,85,86] ?_ ?_
      ·
       refine ev ?_
       refine sq (fun h17 h17p h17s=>?_) fun h17 h17p h17s=>?_
       ·try simp only[Q] at h17p
        exact jnb rfl
       ·try simp only[Q] at h17p
        exact jnb rfl
      refine WRest.done ?_
      refine ev ?_
      refine rn0 (r1 rfl) (.eqd ?_)
      all_goals (refine congrArg D.bool ?_;unfold ownP;rw[Bool.eq_iff_iff];by_cases hmem:p.ctor∈vctors w ⟨a,k⟩<;>(simp only[hmem,and_true,and_false,or_false,decide_eq_true_eq,Bool.and_eq_true,Bool.false_eq_true,true_iff,false_iff];simp only[decide_eq_true_eq,decide_eq_false_iff_not] at *;omega))
     ·try simp only[Q] at h14p
      refine sq (fun h18 h18p h18s=>?_) fun h18 h18p h18s=>?_
      ·try simp only[Q] at h18p
       refine Walk.call (cr:=[]) cal72 (spec_l1Ctors_v hw ht) rfl .none rfl rfl (LeL.refl _) trivial rfl rfl rfl ?_
       refine evd [] [] ?_
       refine Walk.call (cr:=[]) cal71 (spec_l1Has_fn hcl) rfl .none rfl rfl (LeL.refl _) trivial rfl rfl rfl ?_
       refine evd [] [] ?_
       refine dr ?_
       refine rn0 (r1 rfl) (.eqd ?_)
       all_goals (refine congrArg D.bool ?_;unfold ownP;rw[Bool.eq_iff_iff];by_cases hmem:p.ctor∈vctors w ⟨a,k⟩<;>(simp only[hmem,and_true,and_false,or_false,decide_eq_true_eq,Bool.and_eq_true,Bool.false_eq_true,true_iff,false_iff];simp only[decide_eq_true_eq,decide_eq_false_iff_not] at *;omega))
      ·try simp only[Q] at h18p
       refine rn0 (r1 rfl) (.eqd ?_)
       all_goals (refine congrArg D.bool ?_;unfold ownP;rw[Bool.eq_iff_iff];by_cases hmem:p.ctor∈vctors w ⟨a,k⟩<;>(simp only[hmem,and_true,and_false,or_false,decide_eq_true_eq,Bool.and_eq_true,Bool.false_eq_true,true_iff,false_iff];simp only[decide_eq_true_eq,decide_eq_false_iff_not] at *;omega))
   ·try simp only[Q] at h12p
    refine sq (fun h19 h19p h19s=>?_) fun h19 h19p h19s=>?_
    ·try simp only[Q] at h19p
     refine sq (fun h20 h20p h20s=>?_) fun h20 h20p h20s=>?_
     ·try simp only[Q] at h20p
      refine rn0 (r1 rfl) (.eqd ?_)
      all_goals (refine congrArg D.bool ?_;unfold ownP;rw[Bool.eq_iff_iff];by_cases hmem:p.ctor∈vctors w ⟨a,k⟩<;>(simp only[hmem,and_true,and_false,or_false,decide_eq_true_eq,Bool.and_eq_true,Bool.false_eq_true,true_iff,false_iff];simp only[decide_eq_true_eq,decide_eq_false_iff_not] at *;omega))
     ·try simp only[Q] at h20p
      refine sq (fun h21 h21p h21s=>?_) fun h21 h21p h21s=>?_
      ·try simp only[Q] at h21p
       refine CWp.regionJ ?_
       refine WRest.join 8 [(75,.d (.bool (decide (a = -1∧0≤p.n))))] [68,69,70,71,72,73,74] ?_ ?_
       ·
        refine ev ?_
        refine sq (fun h22 h22p h22s=>?_) fun h22 h22p h22s=>?_
        ·try simp only[Q] at h22p
         exact jnb rfl
        ·try simp only[Q] at h22p
         exact jnb rfl
       refine WRest.join 7 [(82,.d (.bool (decide (a = -1∧0≤p.n∧p.n≤p.m))))] [76,77,78,79,80,81] ?_ ?_
       ·
        refine ev ?_
        refine sq (fun h23 h23p h23s=>?_) fun h23 h23p h23s=>?_
        ·try simp only[Q] at h23p
         exact jnb rfl
        ·try simp only[Q] at h23p
         exact jnb rfl
       refine WRest.join 5 [(87,.d (.bool (decide (a = -1∧0≤p.n∧p.n≤p.m∧p.m≤9))))] [83,84,85,86] ?_ ?_
       ·
        refine ev ?_
        refine sq (fun h24 h24p h24s=>?_) fun h24 h24p h24s=>?_
        ·try simp only[Q] at h24p
         exact jnb rfl
        ·try simp only[Q] at h24p
         exact jnb rfl
       refine WRest.done ?_
       refine ev ?_
       refine rn0 (r1 rfl) (.eqd ?_)
       all_goals (refine congrArg D.bool ?_;unfold ownP;rw[Bool.eq_iff_iff];by_cases hmem:p.ctor∈vctors w ⟨a,k⟩<;>(simp only[hmem,and_true,and_false,or_false,decide_eq_true_eq,Bool.and_eq_true,Bool.false_eq_true,true_iff,false_iff];simp only[decide_eq_true_eq,decide_eq_false_iff_not] at *;omega))
      ·try simp only[Q] at h21p
       refine sq (fun h25 h25p h25s=>?_) fun h25 h25p h25s=>?_
       ·try simp only[Q] at h25p
        refine Walk.call (cr:=[]) cal72 (spec_l1Ctors_v hw ht) rfl .none rfl rfl (LeL.refl _) trivial rfl rfl rfl ?_
        refine evd [] [] ?_
        refine Walk.call (cr:=[]) cal71 (spec_l1Has_fn hcl) rfl .none rfl rfl (LeL.refl _) trivial rfl rfl rfl ?_
        refine evd [] [] ?_
        refine dr ?_
        refine rn0 (r1 rfl) (.eqd ?_)
        all_goals (refine congrArg D.bool ?_;unfold ownP;rw[Bool.eq_iff_iff];by_cases hmem:p.ctor∈vctors w ⟨a,k⟩<;>(simp only[hmem,and_true,and_false,or_false,decide_eq_true_eq,Bool.and_eq_true,Bool.false_eq_true,true_iff,false_iff];simp only[decide_eq_true_eq,decide_eq_false_iff_not] at *;omega))
       ·try simp only[Q] at h25p
        refine rn0 (r1 rfl) (.eqd ?_)
        all_goals (refine congrArg D.bool ?_;unfold ownP;rw[Bool.eq_iff_iff];by_cases hmem:p.ctor∈vctors w ⟨a,k⟩<;>(simp only[hmem,and_true,and_false,or_false,decide_eq_true_eq,Bool.and_eq_true,Bool.false_eq_true,true_iff,false_iff];simp only[decide_eq_true_eq,decide_eq_false_iff_not] at *;omega))
    ·try simp only[Q] at h19p
     refine sq (fun h26 h26p h26s=>?_) fun h26 h26p h26s=>?_
     ·try simp only[Q] at h26p
      refine sq (fun h27 h27p h27s=>?_) fun h27 h27p h27s=>?_
      ·try simp only[Q] at h27p
       refine rn0 (r1 rfl) (.eqd ?_)
       all_goals (refine congrArg D.bool ?_;unfold ownP;rw[Bool.eq_iff_iff];by_cases hmem:p.ctor∈vctors w ⟨a,k⟩<;>(simp only[hmem,and_true,and_false,or_false,decide_eq_true_eq,Bool.and_eq_true,Bool.false_eq_true,true_iff,false_iff];simp only[decide_eq_true_eq,decide_eq_false_iff_not] at *;omega))
      ·try simp only[Q] at h27p
       refine sq (fun h28 h28p h28s=>?_) fun h28 h28p h28s=>?_
       ·try simp only[Q] at h28p
        refine CWp.regionJ ?_
        refine WRest.join 8 [(75,.d (.bool (decide (a = -1∧0≤p.n))))] [68,69,70,71,72,73,74] ?_ ?_
        ·
         refine ev ?_
         refine sq (fun h29 h29p h29s=>?_) fun h29 h29p h29s=>?_
         ·try simp only[Q] at h29p
          exact jnb rfl
         ·try simp only[Q] at h29p
          exact jnb rfl
        refine WRest.join 7 [(82,.d (.bool (decide (a = -1∧0≤p.n∧p.n≤p.m))))] [76,77,78,79,80,81] ?_ ?_
        ·
         refine ev ?_
         refine sq (fun h30 h30p h30s=>?_) fun h30 h30p h30s=>?_
         ·try simp only[Q] at h30p
          exact jnb rfl
         ·try simp only[Q] at h30p
          exact jnb rfl
        refine WRest.join 5 [(87,.d (.bool (decide (a = -1∧0≤p.n∧p.n≤p.m∧p.m≤9))))] [83,84,85,86] ?_ ?_
        ·
         refine ev ?_
         refine sq (fun h31 h31p h31s=>?_) fun h31 h31p h31s=>?_
         ·try simp only[Q] at h31p
          exact jnb rfl
         ·try simp only[Q] at h31p
          exact jnb rfl
        refine WRest.done ?_
        refine ev ?_
        refine rn0 (r1 rfl) (.eqd ?_)
        all_goals (refine congrArg D.bool ?_;unfold ownP;rw[Bool.eq_iff_iff];by_cases hmem:p.ctor∈vctors w ⟨a,k⟩<;>(simp only[hmem,and_true,and_false,or_false,decide_eq_true_eq,Bool.and_eq_true,Bool.false_eq_true,true_iff,false_iff];simp only[decide_eq_true_eq,decide_eq_false_iff_not] at *;omega))
       ·try simp only[Q] at h28p
        refine sq (fun h32 h32p h32s=>?_) fun h32 h32p h32s=>?_
        ·try simp only[Q] at h32p
         refine Walk.call (cr:=[]) cal72 (spec_l1Ctors_v hw ht) rfl .none rfl rfl (LeL.refl _) trivial rfl rfl rfl ?_
         refine evd [] [] ?_
         refine Walk.call (cr:=[]) cal71 (spec_l1Has_fn hcl) rfl .none rfl rfl (LeL.refl _) trivial rfl rfl rfl ?_
         refine evd [] [] ?_
         refine dr ?_
         refine rn0 (r1 rfl) (.eqd ?_)
         all_goals (refine congrArg D.bool ?_;unfold ownP;rw[Bool.eq_iff_iff];by_cases hmem:p.ctor∈vctors w ⟨a,k⟩<;>(simp only[hmem,and_true,and_false,or_false,decide_eq_true_eq,Bool.and_eq_true,Bool.false_eq_true,true_iff,false_iff];simp only[decide_eq_true_eq,decide_eq_false_iff_not] at *;omega))
        ·try simp only[Q] at h32p
         refine rn0 (r1 rfl) (.eqd ?_)
         all_goals (refine congrArg D.bool ?_;unfold ownP;rw[Bool.eq_iff_iff];by_cases hmem:p.ctor∈vctors w ⟨a,k⟩<;>(simp only[hmem,and_true,and_false,or_false,decide_eq_true_eq,Bool.and_eq_true,Bool.false_eq_true,true_iff,false_iff];simp only[decide_eq_true_eq,decide_eq_false_iff_not] at *;omega))
     ·try simp only[Q] at h26p
      refine sq (fun h33 h33p h33s=>?_) fun h33 h33p h33s=>?_
      ·try simp only[Q] at h33p
       refine rn0 (r1 rfl) (.eqd ?_)
       all_goals (refine congrArg D.bool ?_;unfold ownP;rw[Bool.eq_iff_iff];by_cases hmem:p.ctor∈vctors w ⟨a,k⟩<;>(simp only[hmem,and_true,and_false,or_false,decide_eq_true_eq,Bool.and_eq_true,Bool.false_eq_true,true_iff,false_iff];simp only[decide_eq_true_eq,decide_eq_false_iff_not] at *;omega))
      ·try simp only[Q] at h33p
       refine sq (fun h34 h34p h34s=>?_) fun h34 h34p h34s=>?_
       ·try simp only[Q] at h34p
        refine CWp.regionJ ?_
        refine WRest.join 8 [(75,.d (.bool (decide (a = -1∧0≤p.n))))] [68,69,70,71,72,73,74] ?_ ?_
        ·
         refine ev ?_
         refine sq (fun h35 h35p h35s=>?_) fun h35 h35p h35s=>?_
         ·try simp only[Q] at h35p
          exact jnb rfl
         ·try simp only[Q] at h35p
          exact jnb rfl
        refine WRest.join 7 [(82,.d (.bool (decide (a = -1∧0≤p.n∧p.n≤p.m))))] [76,77,78,79,80,81] ?_ ?_
        ·
         refine ev ?_
         refine sq (fun h36 h36p h36s=>?_) fun h36 h36p h36s=>?_
         ·try simp only[Q] at h36p
          exact jnb rfl
         ·try simp only[Q] at h36p
          exact jnb rfl
        refine WRest.join 5 [(87,.d (.bool (decide (a = -1∧0≤p.n∧p.n≤p.m∧p.m≤9))))] [83,84,85,86] ?_ ?_
        ·
         refine ev ?_
         refine sq (fun h37 h37p h37s=>?_) fun h37 h37p h37s=>?_
         ·try simp only[Q] at h37p
          exact jnb rfl
         ·try simp only[Q] at h37p
          exact jnb rfl
        refine WRest.done ?_
        refine ev ?_
        refine rn0 (r1 rfl) (.eqd ?_)
        all_goals (refine congrArg D.bool ?_;unfold ownP;rw[Bool.eq_iff_iff];by_cases hmem:p.ctor∈vctors w ⟨a,k⟩<;>(simp only[hmem,and_true,and_false,or_false,decide_eq_true_eq,Bool.and_eq_true,Bool.false_eq_true,true_iff,false_iff];simp only[decide_eq_true_eq,decide_eq_false_iff_not] at *;omega))
       ·try simp only[Q] at h34p
        refine sq (fun h38 h38p h38s=>?_) fun h38 h38p h38s=>?_
        ·try simp only[Q] at h38p
         refine Walk.call (cr:=[]) cal72 (spec_l1Ctors_v hw ht) rfl .none rfl rfl (LeL.refl _) trivial rfl rfl rfl ?_
         refine evd [] [] ?_
         refine Walk.call (cr:=[]) cal71 (spec_l1Has_fn hcl) rfl .none rfl rfl (LeL.refl _) trivial rfl rfl rfl ?_
         refine evd [] [] ?_
         refine dr ?_
         refine rn0 (r1 rfl) (.eqd ?_)
         all_goals (refine congrArg D.bool ?_;unfold ownP;rw[Bool.eq_iff_iff];by_cases hmem:p.ctor∈vctors w ⟨a,k⟩<;>(simp only[hmem,and_true,and_false,or_false,decide_eq_true_eq,Bool.and_eq_true,Bool.false_eq_true,true_iff,false_iff];simp only[decide_eq_true_eq,decide_eq_false_iff_not] at *;omega))
        ·try simp only[Q] at h38p
         refine rn0 (r1 rfl) (.eqd ?_)
         all_goals (refine congrArg D.bool ?_;unfold ownP;rw[Bool.eq_iff_iff];by_cases hmem:p.ctor∈vctors w ⟨a,k⟩<;>(simp only[hmem,and_true,and_false,or_false,decide_eq_true_eq,Bool.and_eq_true,Bool.false_eq_true,true_iff,false_iff];simp only[decide_eq_true_eq,decide_eq_false_iff_not] at *;omega))
theorem spec_l3Types_fn {w:List Data} (hw:WT w){a k:Int}{p:Pat} (ht:TyIn w.length ⟨a,k⟩) (h:p.op=4→p.ctor∈vctors w ⟨a,k⟩):
  FnD Tryz.prog 95 [.d (encDatas w),.agg [.d (.i a),.d (.i k)],.agg [.d (.i p.op),.d (.i p.ctor),.d (.i p.n),.d (.i p.m),.d (.i p.var),.d (encPats p.kids)]] [] (.d (encTys (typesP w ⟨a,k⟩ p))) []:=by
 by_cases h4:p.op=4
 ·have e:typesP w ⟨a,k⟩ p=argsOf w ⟨a,k⟩ p.ctor:=by unfold typesP;rw[if_pos h4]
  rw[e]
  refine bd Tryz.f95 30 [] [] fun w0 F0 own kept hk=>?_
  refine Walk.box (id:=3004) .none rfl rfl rfl rfl rfl rfl rfl ?_
  refine Walk.box (id:=3005) .none rfl rfl rfl rfl rfl rfl rfl ?_
  refine ev ?_
  refine sq (fun h1 h1p h1s=>?_) fun h1 h1p h1s=>?_
  ·try simp only[Q] at h1p
   refine Walk.call (cr:=[]) cal73 (spec_l1Args_v hw ht (h h4)) rfl .none rfl rfl (LeL.refl _) trivial rfl rfl rfl ?_
   refine ev ?_
   refine rn0 (r1 rfl) (.eqd ?_)
   all_goals (rfl)
  ·try simp only[Q] at h1p
   exfalso;simp_all
 ·have e:typesP w ⟨a,k⟩ p=List.replicate (kidsN p.op).toNat ⟨a,k⟩:=by
   unfold typesP kidsN;rw[if_neg h4]
   by_cases h5:p.op=5
   ·rw[if_pos h5,if_pos h5];rfl
   ·rw[if_neg h5,if_neg h5]
    by_cases h6:p.op=6
    ·rw[if_pos h6,if_pos h6];rfl
    ·rw[if_neg h6,if_neg h6,if_neg h4];rfl
  have hb:0≤kidsN p.op∧kidsN p.op≤2:=by unfold kidsN;split<;>(try split)<;>(try split)<;>omega
  rw[e]
  refine bd Tryz.f95 30 [] [] fun w0 F0 own kept hk=>?_
  refine Walk.box (id:=3004) .none rfl rfl rfl rfl rfl rfl rfl ?_
  refine Walk.box (id:=3005) .none rfl rfl rfl rfl rfl rfl rfl ?_
  refine ev ?_
  refine sq (fun h1 h1p h1s=>?_) fun h1 h1p h1s=>?_
  ·try simp only[Q] at h1p
   exfalso;simp_all
  ·try simp only[Q] at h1p
   refine Walk.sliceEmptyG 5 sl102 .none rfl rfl ?_
   refine ev ?_
   refine CWp.loopX (ι:=Nat) hk (fun i=>[(8,.d (.i (i:Int))),(7,.gl 5 ((List.replicate i (⟨a,k⟩:Ty)).map Ty.c))]) [18,19,20,21,22,23,24,25,26,27,28] (fun i=>[(5,some (.tok (((List.replicate i (⟨a,k⟩:Ty)).map Ty.c)).length 2))]) (fun i=>(i:Int)≤kidsN p.op) (fun i=>(kidsN p.op).toNat-i) 0 (by omega) ⟨⟨_,rfl,(LeA.eqi (by rfl))⟩,⟨⟨_,rfl,(LeA.glg (by rfl))⟩,trivial⟩⟩ ⟨beq_nat_eq (by rfl),trivial⟩ (fun x=>rfl) (fun i hg1=>?_)
   refine evc [] [] ?_
   refine Walk.call (cr:=[]) cal124 (spec_l3Kids_fn) rfl .none rfl rfl (LeL.refl _) trivial rfl rfl rfl ?_
   refine ev ?_
   refine sq (fun h2 h2p h2s=>?_) fun h2 h2p h2s=>?_
   ·try simp only[Q] at h2p
    refine Walk.sliceLit sl102 tz25 rfl (by decide) (ks:=[0]) (xs:=[_]) rfl rfl (by decide) (by decide) .none rfl rfl rfl rfl ?_
    refine Walk.append sl102 zz25 rfl .none rfl rfl rfl rfl (htokL rfl (by first|rfl|(simp;done)|(simp;omega))) (by simp) (by simp;omega) (by simp;omega) ?_
    refine ev ?_
    refine ar ?_
    refine Exists.intro (i+1) ⟨(by omega),(by omega),Sub.x (by kernel_rfl) (by kernel_rfl) ⟨⟨_,rfl,(LeA.eqi (by rfl))⟩,⟨⟨_,rfl,(LeA.glg (by(simp[List.replicate_succ'];done)))⟩,trivial⟩⟩ (by kernel_rfl) (by kernel_rfl) ⟨beq_nat_eq (by rfl),trivial⟩⟩
   ·try simp only[Q] at h2p
    refine rn0 (r1 rfl) (.gld ?_)
    all_goals ((obtain rfl:i=(kidsN p.op).toNat:=by omega);simp)
theorem shapeP_own {w:List Data}{n:Nat}{t:Ty}{p:Pat} (h:shapeP w (n+1) t p=true):ownP w t p=true∧p.kids.length=(typesP w t p).length:=by
 simp only[shapeP,Bool.and_eq_true] at h
 refine⟨h.1, ?_⟩
 by_cases hl:(typesP w t p).length=p.kids.length
 ·exact hl.symm
 ·rw[all2_len hl] at h;simp at h
theorem ownP_mem {w:List Data}{t:Ty}{p:Pat} (h:ownP w t p=true):p.op=4→p.ctor∈vctors w t:=by
 intro h4
 unfold ownP at h
 have h':=(of_decide_eq_true h).2.2.2.2
 rcases h' with h|h|h|h|h|h
 ·omega
 ·omega
 ·omega
 ·omega
 ·omega
 ·exact h.2
theorem ownP_var {w:List Data}{t:Ty}{p:Pat} (h:ownP w t p=true):(p.op=2∨p.op=6)→0≤p.var∧p.var≤5:=by
 unfold ownP at h
 exact(of_decide_eq_true h).1
theorem spec_l3Shape_fn {w:List Data} (hw:WT w):∀(n:Nat){a k m:Int}{p:Pat},m=n→n≤1000→TyIn w.length ⟨a,k⟩→p.ok→
  FnD Tryz.prog 91 [.d (encDatas w),.agg [.d (.i a),.d (.i k)],.agg [.d (.i p.op),.d (.i p.ctor),.d (.i p.n),.d (.i p.m),.d (.i p.var),.d (encPats p.kids)],.d (.i m)] [] (.d (.bool (shapeP w n ⟨a,k⟩ p))) []
 |0,a,k,m,p,hm,_,ht,hok=>by
  refine bd Tryz.f91 50 [] [1] fun w0 F0 own kept hk=>?_
  refine Walk.box (id:=3005) .none rfl rfl rfl rfl rfl rfl rfl ?_
  refine Walk.box (id:=3006) .none rfl rfl rfl rfl rfl rfl rfl ?_
  refine ev ?_
  refine CWp.regionJ ?_
  refine WRest.join 9 [(19,.d (.bool (true)))] [11,12,13,14,15,16,17,18] ?_ ?_
  ·
   refine ev ?_
   refine sq (fun h1 h1p h1s=>?_) fun h1 h1p h1s=>?_
   ·try simp only[Q] at h1p
    exact jnb rfl
   ·try simp only[Q] at h1p
    refine Walk.call (cr:=[]) cal122 (spec_l3Own_fn hw ht) rfl (.some rfl rfl h1) rfl rfl (LeL.refl _) trivial rfl rfl rfl ?_
    refine evs [] [(13,false)] ?_ ⟨⟨_,rfl,h1⟩,trivial⟩
    exact jnb rfl
  refine WRest.done ?_
  refine tv ?_
  refine sq (fun h2 h2p h2s=>?_) fun h2 h2p h2s=>?_
  ·try simp only[Q] at h2p
   refine rn0 (r1 rfl) (.eqd ?_)
   all_goals (rfl)
  ·try simp only[Q] at h2p
   exact absurd h2 (by simp)
 |n+1,a,k,m,p,hm,hn,ht,hok=>by
  rw[Pat.ok_iff] at hok
  by_cases ho:ownP w ⟨a,k⟩ p=true
  ·have hin:=typesP_in hw ht ho
   have hlen:=typesP_len hw ht (ownP_mem ho)
   refine bd Tryz.f91 50 [] [1] fun w0 F0 own kept hk=>?_
   refine Walk.box (id:=3005) .none rfl rfl rfl rfl rfl rfl rfl ?_
   refine Walk.box (id:=3006) .none rfl rfl rfl rfl rfl rfl rfl ?_
   refine ev ?_
   refine CWp.regionJ ?_
   refine WRest.join 9 [(19,.d (.bool (false)))] [11,12,13,14,15,16,17,18] ?_ ?_
   ·
    refine ev ?_
    refine sq (fun h1 h1p h1s=>?_) fun h1 h1p h1s=>?_
    ·try simp only[Q,Pat.cs_len] at h1p
     exact jnb rfl
    ·try simp only[Q,Pat.cs_len] at h1p
     refine Walk.call (cr:=[]) cal122 (spec_l3Own_fn hw ht) rfl (.some rfl rfl h1) rfl rfl (LeL.refl _) trivial rfl rfl rfl ?_
     refine evs [] [(13,false)] ?_ ⟨⟨_,rfl,h1⟩,trivial⟩
     exact jnb rfl
   refine WRest.done ?_
   refine tv ?_
   refine sq (fun h2 h2p h2s=>?_) fun h2 h2p h2s=>?_
   ·try simp only[Q,Pat.cs_len] at h2p
    exact absurd h2 (by simp)
   ·try simp only[Q,Pat.cs_len] at h2p
    refine Walk.call (cr:=[]) cal95 (spec_l3Types_fn hw ht (ownP_mem ho)) rfl .none rfl rfl (LeL.refl _) trivial rfl rfl rfl ?_
    refine ev ?_
    refine sq (fun h3 h3p h3s=>?_) fun h3 h3p h3s=>?_
    ·try simp only[Q,Pat.cs_len] at h3p
     refine rn0 (r1 rfl) (.eqd ?_)
     all_goals (refine congrArg D.bool ?_;unfold shapeP;rw[ho,Bool.true_and];(rw[all2_len (by simp[Pat.cs_len] at *;omega)]))
    ·try simp only[Q,Pat.cs_len] at h3p
     refine CWp.loopX (ι:=Nat) hk (fun i=>[(10,.d (.i (i:Int)))]) [8,30,31,32,33,34,35,36,37,38,39,40,41,42,43,44,45,46,47,48,49] (fun i=>[]) (fun i=>i≤(typesP w ⟨a,k⟩ p).length∧∀i',i'<i→shapeP w n (nth (typesP w ⟨a,k⟩ p) i') (nth p.kids i')=true) (fun i=>(typesP w ⟨a,k⟩ p).length-i) 0 ⟨by omega,fun _ h=>absurd h (by omega)⟩ ⟨⟨_,rfl,(LeA.eqi (by first|rfl|(simp;done)|(simp_all;done)|omega))⟩,trivial⟩ trivial (fun x=>rfl) (fun i hg1=>?_)
     refine evc [] [1] ?_
     refine sq (fun h4 h4p h4s=>?_) fun h4 h4p h4s=>?_
     ·try simp only[Q,Pat.cs_len] at h4p
      refine Walk.idx sl102 .none rfl rfl rfl rfl (at_nth (by omega)) rfl ?_
      refine evd [] [] ?_
      refine Walk.idx sl35 .none rfl rfl rfl rfl (pats_at (by omega)) rfl ?_
      refine evd [] [] ?_
      refine ar ?_
      refine Walk.call (cr:=[]) cal91 (spec_l3Shape_fn hw n (by omega) (by omega) (hin _ (nth_mem (by omega))) (Pats.ok_mem hok.2 _ (nth_mem (by omega)))) rfl .none rfl rfl (LeL.refl _) trivial rfl rfl rfl ?_
      refine evd [] [] ?_
      refine dr ?_
      refine sq (fun h5 h5p h5s=>?_) fun h5 h5p h5s=>?_
      ·try simp only[Q,Pat.cs_len] at h5p
       refine rn0 (r1 rfl) (.eqd ?_)
       all_goals (refine congrArg D.bool ?_;unfold shapeP;rw[ho,Bool.true_and];(rw[all2_nth_false (i:=i) (by simp[Pat.cs_len] at *;omega) (by simp[Pat.cs_len] at *;omega) (by assumption)]))
      ·try simp only[Q,Pat.cs_len] at h5p
       refine ar ?_
       refine Exists.intro (i+1) ⟨⟨by omega,upto_succ hg1.2 (by assumption)⟩,(by omega),Sub.x (by kernel_rfl) (by kernel_rfl) ⟨⟨_,rfl,(LeA.eqi (by first|rfl|(simp;done)|(simp_all;done)|omega))⟩,trivial⟩ (by kernel_rfl) (by kernel_rfl) trivial⟩
     ·try simp only[Q,Pat.cs_len] at h4p
      refine rn0 (r1 rfl) (.eqd ?_)
      all_goals (refine congrArg D.bool ?_;unfold shapeP;rw[ho,Bool.true_and];(rw[all2_nth_true (by simp[Pat.cs_len] at *;omega) (fun x hx=>hg1.2 x (by simp[Pat.cs_len] at *;omega))]))
  ·have ho':ownP w ⟨a,k⟩ p=false:=by simpa using ho
   refine bd Tryz.f91 50 [] [1] fun w0 F0 own kept hk=>?_
   refine Walk.box (id:=3005) .none rfl rfl rfl rfl rfl rfl rfl ?_
   refine Walk.box (id:=3006) .none rfl rfl rfl rfl rfl rfl rfl ?_
   refine ev ?_
   refine CWp.regionJ ?_
   refine WRest.join 9 [(19,.d (.bool (true)))] [11,12,13,14,15,16,17,18] ?_ ?_
   ·
    refine ev ?_
    refine sq (fun h1 h1p h1s=>?_) fun h1 h1p h1s=>?_
    ·try simp only[Q] at h1p
     exact jnb rfl
    ·try simp only[Q] at h1p
     refine Walk.call (cr:=[]) cal122 (spec_l3Own_fn hw ht) rfl (.some rfl rfl h1) rfl rfl (LeL.refl _) trivial rfl rfl rfl ?_
     refine evs [] [(13,false)] ?_ ⟨⟨_,rfl,h1⟩,trivial⟩
     exact jnb rfl
   refine WRest.done ?_
   refine tv ?_
   refine sq (fun h2 h2p h2s=>?_) fun h2 h2p h2s=>?_
   ·try simp only[Q] at h2p
    refine rn0 (r1 rfl) (.eqd ?_)
    all_goals (refine congrArg D.bool ?_;unfold shapeP;rw[ho'];rfl)
   ·try simp only[Q] at h2p
    exact absurd h2 (by simp)
theorem spec_l3Find_fn {l:List Vt}{n:Int} (h:l.length≤1000000000000):FnD Tryz.prog 94 [.d (encVts l),.d (.i n)] [] (.d (.i (findV l n))) []:=by
 refine bd Tryz.f94 20 [] [] fun w0 F0 own kept hk=>?_
 refine CWp.loopX (ι:=List (Vt)×List (Vt)) hk (fun x=>[(5,.d (.i (x.1.length:Int)))]) [4,6,7,8,9,10,11,12,13,14,15,16,17,18,19] (fun x=>[]) (fun x=>x.1++x.2=l∧idxF (fun v=>decide (v.var=n)) x.2 x.1.length=idxF (fun v=>decide (v.var=n)) l 0) (fun x=>x.2.length) ([],l) ⟨by simp,rfl⟩ ⟨⟨_,rfl,(LeA.eqi (by first|rfl|(simp;done)|(simp_all;done)|omega))⟩,trivial⟩ trivial (fun x=>rfl) (fun x hg1=>?_)
 obtain⟨pre,rest⟩:=x
 dsimp only at hg1 ⊢
 refine evc [] [] ?_
 refine sq (fun h1 h1p h1s=>?_) fun h1 h1p h1s=>?_
 ·try simp only[Q] at h1p
  rcases rest with _|⟨y,rest⟩
  ·exfalso;simp_all
  refine Walk.idx sl86 .none rfl rfl rfl rfl (zip_at hg1.1) rfl ?_
  refine ev ?_
  refine sq (fun h2 h2p h2s=>?_) fun h2 h2p h2s=>?_
  ·try simp only[Q] at h2p
   refine rn0 (r1 rfl) (.eqd ?_)
   all_goals (refine congrArg D.i ?_;unfold findV;rw[←hg1.2];simp[idxF,h1s,h1p,h2s,h2p])
  ·try simp only[Q] at h2p
   refine ar ?_
   refine Exists.intro ((pre++[y],rest)) ⟨⟨(by have hz:=hg1.1;rw[←hz];simp),(by rw[←hg1.2];simp_all[idxF])⟩,(by simp),Sub.x (by kernel_rfl) (by kernel_rfl) ⟨⟨_,rfl,(LeA.eqi (by first|rfl|(simp;done)|(simp_all;done)|omega))⟩,trivial⟩ (by kernel_rfl) (by kernel_rfl) trivial⟩
 ·try simp only[Q] at h1p
  have hrest:rest=[]:=by
   rcases rest with _|⟨a,b⟩
   ·rfl
   ·exfalso;have hz:=congrArg List.length (hg1.1);simp only[List.length_append,List.length_cons,List.length_map] at hz;omega
  subst hrest
  refine rn0 (r1 rfl) (.eqd ?_)
  all_goals (refine congrArg D.i ?_;unfold findV;rw[←hg1.2];simp[idxF,h1s,h1p])
theorem alike_false {a b:List Vt}{i:Nat} (h:i<a.length) (h2:¬(0≤findV b (nth a i).var∧(nth b (findV b (nth a i).var).toNat).ty=(nth a i).ty)):alikeV a b=false:=by
 unfold alikeV
 have:(a.all fun v=>decide (0≤findV b v.var∧(nth b (findV b v.var).toNat).ty=v.ty))=false:=List.all_eq_false.2 ⟨_,nth_mem h,by simpa using h2⟩
 rw[this,Bool.false_and]
theorem alike_true {a b:List Vt} (h:∀i,i<a.length→0≤findV b (nth a i).var∧(nth b (findV b (nth a i).var).toNat).ty=(nth a i).ty):alikeV a b=decide (a.length=b.length):=by
 unfold alikeV
 have:(a.all fun v=>decide (0≤findV b v.var∧(nth b (findV b v.var).toNat).ty=v.ty))=true:=by
  rw[List.all_eq_true]
  intro v hv
  obtain⟨j,hj,he⟩:=List.getElem_of_mem hv
  have:=h j hj
  rw[nth_eq hj,he] at this
  exact decide_eq_true this
 rw[this,Bool.true_and]
theorem findV_lt {l:List Vt}{n:Int} (h:0≤findV l n):(findV l n).toNat<l.length∧((findV l n).toNat:Int)=findV l n:=by
 rcases findV_spec l n with ⟨h1,_⟩|⟨k,h1,h2,_⟩
 ·omega
 ·rw[h1];simpa using h2
theorem ty_iff {t u:Ty}:t=u↔t.data=u.data∧t.index=u.index:=by
 cases t;cases u;simp
theorem spec_l3Alike_fn {x y:List Vt} (hx:x.length≤1000000000000) (hy:y.length≤1000000000000):FnD Tryz.prog 123 [.d (encVts x),.d (encVts y)] [] (.d (.bool (alikeV x y))) []:=by
 refine bd Tryz.f123 40 [33] [] fun w0 F0 own kept hk=>?_
 refine CWp.loopX (ι:=Nat) hk (fun i=>[(5,.d (.i (i:Int)))]) [4,6,7,8,9,10,11,12,13,14,15,16,17,18,19,20,21,22,23,24,25,26,27,28,29,30,31,32,33,34] (fun i=>[]) (fun i=>i≤x.length∧∀j,j<i→0≤findV y (nth x j).var∧(nth y (findV y (nth x j).var).toNat).ty=(nth x j).ty) (fun i=>x.length-i) 0 ⟨by omega,fun _ h=>absurd h (by omega)⟩ ⟨⟨_,rfl,(LeA.eqi (by first|rfl|(simp;done)|(simp_all;done)|omega))⟩,trivial⟩ trivial (fun x=>rfl) (fun i hg1=>?_)
 refine evc [33] [] ?_
 refine sq (fun h1 h1p h1s=>?_) fun h1 h1p h1s=>?_
 ·try simp only[Q] at h1p
  refine Walk.idx sl86 .none rfl rfl rfl rfl (at_nth (by omega)) rfl ?_
  refine evs [33] [] ?_
  refine Walk.call (cr:=[]) cal94 (spec_l3Find_fn hy) rfl .none rfl rfl (LeL.refl _) trivial rfl rfl rfl ?_
  refine evs [33] [] ?_
  refine sq (fun h2 h2p h2s=>?_) fun h2 h2p h2s=>?_
  ·try simp only[Q] at h2p
   refine dr ?_
   refine sqT ?_
   refine rn0 (r1 rfl) (.eqd ?_)
   all_goals (refine congrArg D.bool ?_;(refine(alike_false (i:=i) (by omega) ?_).symm;simp only[ty_iff];first|omega|(simp at h4;omega)))
  ·try simp only[Q] at h2p
   refine Walk.idx (i:=(findV y (nth x i).var).toNat) sl86 (.some rfl rfl h2) rfl rfl rfl (findV_lt (l:=y) (n:=(nth x i).var) (by omega)).2.symm (at_nth (by exact(findV_lt (l:=y) (n:=(nth x i).var) (by omega)).1)) rfl ?_
   refine evd [33] [(22,false)] ?_ ⟨⟨_,rfl,h2⟩,trivial⟩
   refine Walk.idx sl86 (.some rfl rfl h2) rfl rfl rfl rfl (at_nth (by omega)) rfl ?_
   refine evd [33] [(22,false)] ?_ ⟨⟨_,rfl,h2⟩,trivial⟩
   refine Walk.neV eq25 (.some rfl rfl h2) rfl rfl rfl rfl rfl ?_
   refine evd [33] [(22,false)] ?_ ⟨⟨_,rfl,h2⟩,trivial⟩
   refine dr ?_
   refine sq (fun h4 h4p h4s=>?_) fun h4 h4p h4s=>?_
   ·try simp only[Q] at h4p
    refine rn0 (r1 rfl) (.eqd ?_)
    all_goals (refine congrArg D.bool ?_;(refine(alike_false (i:=i) (by omega) ?_).symm;simp only[ty_iff];first|omega|(simp at h4;omega)))
   ·try simp only[Q] at h4p
    refine ar ?_
    refine Exists.intro (i+1) ⟨⟨by omega,upto_succ hg1.2 (by rw[ty_iff];first|omega|(simp at h4;omega))⟩,(by omega),Sub.x (by kernel_rfl) (by kernel_rfl) ⟨⟨_,rfl,(LeA.eqi (by first|rfl|(simp;done)|(simp_all;done)|omega))⟩,trivial⟩ (by kernel_rfl) (by kernel_rfl) trivial⟩
 ·try simp only[Q] at h1p
  refine rn0 (r1 rfl) (.eqd ?_)
  all_goals (refine congrArg D.bool ?_;(rw[alike_true (fun j hj=>hg1.2 j (by simp at h1p;omega))];exact decide_eq_decide.2 (by simp;omega)))
theorem varsL_len {f:Ty→Pat→List Vt} (hf:∀t p,(f t p).length≤p.size):∀(a:List Ty) (b:List Pat),(varsL f a b).length≤Pats.size b
 | [],[]=>by simp[varsL]
 | [],_::_=>by simp[varsL]
 |_::_,[]=>by simp[varsL]
 |x::r,y::s=>by
  have h1:=varsL_len hf r s
  have h2:=hf x y
  simp only[varsL,List.length_append,Pats.size];omega
theorem varsP_len (w:List Data):∀(n:Nat) (t:Ty) (p:Pat),(varsP w n t p).length≤p.size
 |0,t,p=>by simp[varsP]
 |n+1,t,p=>by
  have h1:=varsL_len (varsP_len w n) (vtypes w t p) p.kids
  have h2:(nameP t p).length≤1:=by unfold nameP;split<;>simp
  rw[Pat.size_eq]
  simp only[varsP,List.length_append];omega
theorem varsL_next {f:Ty→Pat→List Vt}:∀ {a:List Ty}{b:List Pat}{i:Nat},i<a.length→i<b.length→varsL f (a.take (i+1)) (b.take (i+1))=varsL f (a.take i) (b.take i)++f (nth a i) (nth b i)
 |x::r,y::s,0,_,_=>by simp[varsL,nth]
 |x::r,y::s,i+1,h1,h2=>by
  have:=varsL_next (f:=f) (a:=r) (b:=s) (i:=i) (by simpa using h1) (by simpa using h2)
  simp only[List.take_succ_cons,varsL]
  rw[this,List.append_assoc]
  rfl
theorem varsL_take {f:Ty→Pat→List Vt}:∀ {a:List Ty}{b:List Pat}{i:Nat},varsL f (a.take i) (b.take i)=varsL f (a.take i) b
 | [],b,i=>by simp[varsL]
 |x::r,[],i=>by simp[varsL]
 |x::r,y::s,0=>by simp[varsL]
 |x::r,y::s,i+1=>by simp only[List.take_succ_cons,varsL];rw[varsL_take]
theorem varsL_le {f:Ty→Pat→List Vt} (hf:∀t p,(f t p).length≤p.size){a:List Ty}{b:List Pat}{i:Nat} (h:i<b.length):(varsL f (a.take i) (b.take i)).length+(nth b i).size≤Pats.size b:=by
 have h1:=varsL_len hf (a.take i) (b.take i)
 have h2:=Pats.size_split (pre:=b.take i) (y:=nth b i) (rest:=b.drop (i+1)) (l:=b) (by rw[←drop_nth h,List.take_append_drop])
 omega
def vcount (w:List Data) (t:Ty) (p:Pat):Nat:=(vtypes w t p).length
theorem vcount_eq (w:List Data) (t:Ty) (p:Pat):vcount w t p=if p.op=5 then 1 else (typesP w t p).length:=by
 unfold vcount vtypes
 by_cases h5:p.op=5
 ·rw[if_pos h5,if_pos h5]
  have:typesP w t p=[t,t]:=by unfold typesP;rw[if_neg (by omega),if_pos h5]
  rw[this];rfl
 ·rw[if_neg h5,if_neg h5]
theorem varsL_all {w:List Data}{f:Ty→Pat→List Vt}{t:Ty}{p:Pat} (hl:p.kids.length=(typesP w t p).length){i:Nat} (h:i=vcount w t p):varsL f ((typesP w t p).take i) (p.kids.take i)=varsL f (vtypes w t p) p.kids:=by
 subst h
 rw[varsL_take]
 congr 1
 rw[vcount_eq]
 unfold vtypes
 by_cases h5:p.op=5
 ·rw[if_pos h5,if_pos h5]
 ·rw[if_neg h5,if_neg h5,List.take_length]
theorem shapeP_kid {w:List Data}{n:Nat}{t:Ty}{p:Pat} (h:shapeP w (n+1) t p=true){i:Nat} (hi:i<p.kids.length):shapeP w n (nth (typesP w t p) i) (nth p.kids i)=true:=by
 have hl:=(shapeP_own h).2
 cases hs:shapeP w n (nth (typesP w t p) i) (nth p.kids i) with
 |true=>rfl
 |false=>
  have:=all2_nth_false (f:=shapeP w n) (a:=typesP w t p) (b:=p.kids) (i:=i) (by omega) hl.symm hs
  simp only[shapeP,this,Bool.and_false] at h
  cases h
theorem spec_l3Vars_fn {w:List Data} (hw:WT w):∀(n:Nat){a k:Int}{p:Pat}{xs:List Vt},shapeP w n ⟨a,k⟩ p=true→n≤1000→TyIn w.length ⟨a,k⟩→p.ok→xs.length+p.size≤2000000000000→
  FnD Tryz.prog 70 [.gl 5 (xs.map Vt.c),.d (encDatas w),.agg [.d (.i a),.d (.i k)],.agg [.d (.i p.op),.d (.i p.ctor),.d (.i p.n),.d (.i p.m),.d (.i p.var),.d (encPats p.kids)]] [(5,some (.tok (xs.map Vt.c).length 3))]
   (.gl 5 ((xs++varsP w n ⟨a,k⟩ p).map Vt.c)) [(5,some (.tok ((xs++varsP w n ⟨a,k⟩ p).map Vt.c).length 3))]
 |0,a,k,p,xs,hs,_,_,_,_=>by simp[shapeP] at hs
 |n+1,a,k,p,xs,hs,hn,ht,hok,hb=>by
  rw[Pat.ok_iff] at hok
  rw[Pat.size_eq] at hb
  obtain⟨ho,hl⟩:=shapeP_own hs
  have hin:=typesP_in hw ht ho
  have hlen:=typesP_len hw ht (ownP_mem ho)
  have hvc5:p.op=5→vcount w ⟨a,k⟩ p=1:=fun h=>by rw[vcount_eq,if_pos h]
  have hvc:¬p.op=5→vcount w ⟨a,k⟩ p=(typesP w ⟨a,k⟩ p).length:=fun h=>by rw[vcount_eq,if_neg h]
  have hv2:vcount w ⟨a,k⟩ p≤p.kids.length:=by
   unfold vcount vtypes;split
   ·rw[List.length_take];omega
   ·omega
  have e5:p.op=5→(typesP w ⟨a,k⟩ p).length=2:=fun h5=>by unfold typesP;rw[if_neg (by omega),if_pos h5];rfl
  have hnm:(nameP ⟨a,k⟩ p).length≤1:=by unfold nameP;split<;>simp
  refine bd Tryz.f70 58 [] [1,5,6] fun w0 F0 own kept hk=>?_
  refine Walk.box (id:=3006) .none rfl rfl rfl rfl rfl rfl rfl ?_
  refine Walk.box (id:=3007) .none rfl rfl rfl rfl rfl rfl rfl ?_
  refine ev ?_
  refine CWp.regionJ ?_
  refine WRest.join 8 [(18,.d (.bool (decide (p.op=2∨p.op=6))))] [11,12,13,14,15,16,17] ?_ ?_
  ·
   refine ev ?_
   refine sq (fun h1 h1p h1s=>?_) fun h1 h1p h1s=>?_
   ·try simp only[Q,Pat.cs_len] at h1p
    exact jnb rfl
   ·try simp only[Q,Pat.cs_len] at h1p
    exact jnb rfl
  refine WRest.done ?_
  refine tv ?_
  refine sq (fun h2 h2p h2s=>?_) fun h2 h2p h2s=>?_
  ·try simp only[Q,Pat.cs_len] at h2p
   refine Walk.build st115 (ks:=[0,1]) (xs:=[_,_]) rfl rfl .none rfl rfl rfl ?_
   refine Walk.sliceLit sl86 tz115 rfl (by decide) (ks:=[0]) (xs:=[_]) rfl rfl (by decide) (by decide) .none rfl rfl rfl rfl ?_
   refine Walk.append sl86 zz115 rfl .none rfl rfl rfl rfl (htokL rfl (by first|rfl|(simp;done)|(simp;omega))) (by simp) (by simp;omega) (by simp;omega) ?_
   refine ev ?_
   refine Walk.call (cr:=[]) cal95 (spec_l3Types_fn hw ht (ownP_mem ho)) rfl .none rfl rfl (LeL.refl _) trivial rfl rfl rfl ?_
   refine ev ?_
   refine CWp.loopT 5 6 (ι:=Nat) hk (fun i=>[(0,.gl 5 ((xs++nameP ⟨a,k⟩ p++varsL (varsP w n) ((typesP w ⟨a,k⟩ p).take i) (p.kids.take i)).map Vt.c)),(10,.d (.i (i:Int)))]) [30,31,32,33,34,35,36,37,38,39,40,41,42,43,44,45,46,47,48,49,50,51,52,53,54,55,56] (fun i=>[(5,some (.tok ((xs++nameP ⟨a,k⟩ p++varsL (varsP w n) ((typesP w ⟨a,k⟩ p).take i) (p.kids.take i)).map Vt.c).length 3))]) (fun i=>i≤vcount w ⟨a,k⟩ p) (fun i=>vcount w ⟨a,k⟩ p-i) 0 (by omega) ⟨⟨_,rfl,(LeA.glg (by(simp[varsL,nameP, *];done)))⟩,⟨⟨_,rfl,(LeA.eqi (by rfl))⟩,trivial⟩⟩ ⟨beq_nat_eq (by(first|rfl|(simp[varsL,nameP, *];done)|(rw[varsL_next (by omega) (by omega)];simp[List.append_assoc];done)|omega)),trivial⟩ (fun x=>rfl) (fun i hg1=>?_)
   refine evc [] [1,5,6] ?_
   refine CWp.regionJ ?_
   refine WRest.join 13 [(42,.d (.bool (decide (i<vcount w ⟨a,k⟩ p))))] [30,31,32,33,34,35,36,37,38,39,40,41] ?_ ?_
   ·
    refine ev ?_
    refine sq (fun h3 h3p h3s=>?_) fun h3 h3p h3s=>?_
    ·try simp only[Q,Pat.cs_len] at h3p
     refine sq (fun h4 h4p h4s=>?_) fun h4 h4p h4s=>?_
     ·try simp only[Q,Pat.cs_len] at h4p
      exact jnb rfl
     ·try simp only[Q,Pat.cs_len] at h4p
      exact jnb rfl
    ·try simp only[Q,Pat.cs_len] at h3p
     exact jnb rfl
   refine WRest.done ?_
   refine tv ?_
   refine sq (fun h5 h5p h5s=>?_) fun h5 h5p h5s=>?_
   ·try simp only[Q,Pat.cs_len] at h5p
    refine Walk.idx sl102 .none rfl rfl rfl rfl (at_nth (by omega)) rfl ?_
    refine evd [] [] ?_
    refine Walk.idx sl35 .none rfl rfl rfl rfl (pats_at (by omega)) rfl ?_
    refine evd [] [] ?_
    refine Walk.callT 6 cal70 (spec_l3Vars_fn hw n (a:=(nth (typesP w ⟨a,k⟩ p) i).data) (k:=(nth (typesP w ⟨a,k⟩ p) i).index) (p:=nth p.kids i) (xs:=xs++nameP ⟨a,k⟩ p++varsL (varsP w n) ((typesP w ⟨a,k⟩ p).take i) (p.kids.take i)) (shapeP_kid hs (by omega)) (by omega) (hin _ (nth_mem (by omega))) (Pats.ok_mem hok.2 _ (nth_mem (by omega))) (by have:=varsL_le (varsP_len w n) (a:=typesP w ⟨a,k⟩ p) (b:=p.kids) (i:=i) (by omega);simp only[List.length_append];omega)) rfl .none rfl rfl (.cons (.refl _) (.cons (.refl _) (.cons (.refl _) (.cons (.refl _) .nil)))) rfl (by rfl) ?_
    refine evd [] [] ?_
    refine dr ?_
    refine CWp.retok 0 6 5 rfl rfl rfl rfl rfl ?_
    refine evc [] [] ?_
    refine ar ?_
    refine Exists.intro (i+1) ⟨(by omega),(by omega),Sub.x (by kernel_rfl) (by kernel_rfl) ⟨⟨_,rfl,(LeA.glg (by(rw[varsL_next (by omega) (by omega)];simp[List.append_assoc];done)))⟩,⟨⟨_,rfl,(LeA.eqi (by rfl))⟩,trivial⟩⟩ (by kernel_rfl) (by kernel_rfl) ⟨beq_nat_eq (by(first|rfl|(simp[varsL,nameP, *];done)|(rw[varsL_next (by omega) (by omega)];simp[List.append_assoc];done)|omega)),trivial⟩⟩
   ·try simp only[Q,Pat.cs_len] at h5p
    refine rn [(5,some (.tok ((xs++varsP w (n+1) ⟨a,k⟩ p).map Vt.c).length 3))] (r1 rfl) (.glg ?_) ⟨rfl,rfl⟩ (SubO.get ⟨.inr (by(show some (Res.tok _ _)=some (Res.tok _ _);congr 2;rw[varsP,←varsL_all (f:=varsP w n) hl (i:=i) (by omega)];simp)),⟨.inl rfl,trivial⟩⟩) (boxOK rfl)
    all_goals (rw[varsP,←varsL_all (f:=varsP w n) hl (i:=i) (by omega)];simp)
  ·try simp only[Q,Pat.cs_len] at h2p
   refine Walk.call (cr:=[]) cal95 (spec_l3Types_fn hw ht (ownP_mem ho)) rfl .none rfl rfl (LeL.refl _) trivial rfl rfl rfl ?_
   refine ev ?_
   refine CWp.loopT 5 6 (ι:=Nat) hk (fun i=>[(0,.gl 5 ((xs++nameP ⟨a,k⟩ p++varsL (varsP w n) ((typesP w ⟨a,k⟩ p).take i) (p.kids.take i)).map Vt.c)),(10,.d (.i (i:Int)))]) [30,31,32,33,34,35,36,37,38,39,40,41,42,43,44,45,46,47,48,49,50,51,52,53,54,55,56] (fun i=>[(5,some (.tok ((xs++nameP ⟨a,k⟩ p++varsL (varsP w n) ((typesP w ⟨a,k⟩ p).take i) (p.kids.take i)).map Vt.c).length 3))]) (fun i=>i≤vcount w ⟨a,k⟩ p) (fun i=>vcount w ⟨a,k⟩ p-i) 0 (by omega) ⟨⟨_,rfl,(LeA.glg (by(simp[varsL,nameP, *];done)))⟩,⟨⟨_,rfl,(LeA.eqi (by rfl))⟩,trivial⟩⟩ ⟨beq_nat_eq (by(first|rfl|(simp[varsL,nameP, *];done)|(rw[varsL_next (by omega) (by omega)];simp[List.append_assoc];done)|omega)),trivial⟩ (fun x=>rfl) (fun i hg1=>?_)
   refine evc [] [1,5,6] ?_
   refine CWp.regionJ ?_
   refine WRest.join 13 [(42,.d (.bool (decide (i<vcount w ⟨a,k⟩ p))))] [30,31,32,33,34,35,36,37,38,39,40,41] ?_ ?_
   ·
    refine ev ?_
    refine sq (fun h6 h6p h6s=>?_) fun h6 h6p h6s=>?_
    ·try simp only[Q,Pat.cs_len] at h6p
     refine sq (fun h7 h7p h7s=>?_) fun h7 h7p h7s=>?_
     ·try simp only[Q,Pat.cs_len] at h7p
      exact jnb rfl
     ·try simp only[Q,Pat.cs_len] at h7p
      exact jnb rfl
    ·try simp only[Q,Pat.cs_len] at h6p
     exact jnb rfl
   refine WRest.done ?_
   refine tv ?_
   refine sq (fun h8 h8p h8s=>?_) fun h8 h8p h8s=>?_
   ·try simp only[Q,Pat.cs_len] at h8p
    refine Walk.idx sl102 .none rfl rfl rfl rfl (at_nth (by omega)) rfl ?_
    refine evd [] [] ?_
    refine Walk.idx sl35 .none rfl rfl rfl rfl (pats_at (by omega)) rfl ?_
    refine evd [] [] ?_
    refine Walk.callT 6 cal70 (spec_l3Vars_fn hw n (a:=(nth (typesP w ⟨a,k⟩ p) i).data) (k:=(nth (typesP w ⟨a,k⟩ p) i).index) (p:=nth p.kids i) (xs:=xs++nameP ⟨a,k⟩ p++varsL (varsP w n) ((typesP w ⟨a,k⟩ p).take i) (p.kids.take i)) (shapeP_kid hs (by omega)) (by omega) (hin _ (nth_mem (by omega))) (Pats.ok_mem hok.2 _ (nth_mem (by omega))) (by have:=varsL_le (varsP_len w n) (a:=typesP w ⟨a,k⟩ p) (b:=p.kids) (i:=i) (by omega);simp only[List.length_append];omega)) rfl .none rfl rfl (.cons (.refl _) (.cons (.refl _) (.cons (.refl _) (.cons (.refl _) .nil)))) rfl (by rfl) ?_
    refine evd [] [] ?_
    refine dr ?_
    refine CWp.retok 0 6 5 rfl rfl rfl rfl rfl ?_
    refine evc [] [] ?_
    refine ar ?_
    refine Exists.intro (i+1) ⟨(by omega),(by omega),Sub.x (by kernel_rfl) (by kernel_rfl) ⟨⟨_,rfl,(LeA.glg (by(rw[varsL_next (by omega) (by omega)];simp[List.append_assoc];done)))⟩,⟨⟨_,rfl,(LeA.eqi (by rfl))⟩,trivial⟩⟩ (by kernel_rfl) (by kernel_rfl) ⟨beq_nat_eq (by(first|rfl|(simp[varsL,nameP, *];done)|(rw[varsL_next (by omega) (by omega)];simp[List.append_assoc];done)|omega)),trivial⟩⟩
   ·try simp only[Q,Pat.cs_len] at h8p
    refine rn [(5,some (.tok ((xs++varsP w (n+1) ⟨a,k⟩ p).map Vt.c).length 3))] (r1 rfl) (.glg ?_) ⟨rfl,rfl⟩ (SubO.get ⟨.inr (by(show some (Res.tok _ _)=some (Res.tok _ _);congr 2;rw[varsP,←varsL_all (f:=varsP w n) hl (i:=i) (by omega)];simp)),⟨.inl rfl,trivial⟩⟩) (boxOK rfl)
    all_goals (rw[varsP,←varsL_all (f:=varsP w n) hl (i:=i) (by omega)];simp)
theorem spec_l3Vars_nil {w:List Data} (hw:WT w){n:Nat}{a k:Int}{p:Pat} (hs:shapeP w n ⟨a,k⟩ p=true) (hn:n≤1000) (ht:TyIn w.length ⟨a,k⟩) (hok:p.ok) (hb:p.size≤1000000000000):
  FnD Tryz.prog 70 [.nils,.d (encDatas w),.agg [.d (.i a),.d (.i k)],.agg [.d (.i p.op),.d (.i p.ctor),.d (.i p.n),.d (.i p.m),.d (.i p.var),.d (encPats p.kids)]] [] (.d (encVts (varsP w n ⟨a,k⟩ p))) []:=by
 have h:=spec_l3Vars_fn hw n (xs:=[]) hs hn ht hok (by simp only[List.length_nil];omega)
 exact FnD.nilTok (by simp[AV.idsL,AV.ids]) h
theorem distV_false {l:List Vt}{i:Nat} (h:i<l.length) (h2:¬findV l (nth l i).var=i):distV l=false:=all_range_false h (by simpa using h2)
theorem spec_l3Linear_fn {w:List Data} (hw:WT w):∀(n:Nat){a k:Int}{p:Pat},shapeP w n ⟨a,k⟩ p=true→n≤1000→TyIn w.length ⟨a,k⟩→p.ok→p.size≤1000000000000→
  FnD Tryz.prog 93 [.d (encDatas w),.agg [.d (.i a),.d (.i k)],.agg [.d (.i p.op),.d (.i p.ctor),.d (.i p.n),.d (.i p.m),.d (.i p.var),.d (encPats p.kids)]] [] (.d (.bool (linP w n ⟨a,k⟩ p))) []
 |0,a,k,p,hs,_,_,_,_=>by simp[shapeP] at hs
 |n+1,a,k,p,hs,hn,ht,hok,hb=>by
  have hok':=hok
  rw[Pat.ok_iff] at hok
  have hb':=hb
  rw[Pat.size_eq] at hb'
  obtain⟨ho,hl⟩:=shapeP_own hs
  have hin:=typesP_in hw ht ho
  have hlen:=typesP_len hw ht (ownP_mem ho)
  have hvl:=varsP_len w (n+1) ⟨a,k⟩ p
  have hsz:∀i,i<p.kids.length→(nth p.kids i).size≤1000000000000:=fun i hi=>by have:=pnth_size hi;omega
  by_cases hop5:p.op=5
  ·have e1:typesP w ⟨a,k⟩ p=[⟨a,k⟩,⟨a,k⟩]:=by unfold typesP;rw[if_neg (by omega),if_pos hop5]
   have hl2:p.kids.length=2:=by rw[hl,e1];rfl
   have s0:shapeP w n ⟨a,k⟩ (nth p.kids 0)=true:=by have:=shapeP_kid hs (i:=0) (by omega);rw[e1] at this;exact this
   have s1:shapeP w n ⟨a,k⟩ (nth p.kids 1)=true:=by have:=shapeP_kid hs (i:=1) (by omega);rw[e1] at this;exact this
   have v0:=varsP_len w n ⟨a,k⟩ (nth p.kids 0)
   have v1:=varsP_len w n ⟨a,k⟩ (nth p.kids 1)
   have z0:=hsz 0 (by omega)
   have z1:=hsz 1 (by omega)
   refine bd Tryz.f93 70 [] [] fun w0 F0 own kept hk=>?_
   refine Walk.box (id:=3004) .none rfl rfl rfl rfl rfl rfl rfl ?_
   refine Walk.box (id:=3005) .none rfl rfl rfl rfl rfl rfl rfl ?_
   refine ev ?_
   refine Walk.call (cr:=[]) cal95 (spec_l3Types_fn hw ht (ownP_mem ho)) rfl .none rfl rfl (LeL.refl _) trivial rfl rfl rfl ?_
   refine ev ?_
   refine CWp.loopX (ι:=Nat) hk (fun i=>[(8,.d (.i (i:Int)))]) [6,15,16,17,18,19,20,21,22,23,24,25,26,27,28,29,30,31,32] (fun i=>[]) (fun i=>i≤(typesP w ⟨a,k⟩ p).length∧∀i',i'<i→linP w n (nth (typesP w ⟨a,k⟩ p) i') (nth p.kids i')=true) (fun i=>(typesP w ⟨a,k⟩ p).length-i) 0 ⟨by omega,fun _ h=>absurd h (by omega)⟩ ⟨⟨_,rfl,(LeA.eqi (by first|rfl|(simp;done)|(simp_all;done)|omega))⟩,trivial⟩ trivial (fun x=>rfl) (fun i hg1=>?_)
   refine evc [] [] ?_
   refine sq (fun h1 h1p h1s=>?_) fun h1 h1p h1s=>?_
   ·try simp only[Q,Pat.cs_len] at h1p
    refine Walk.idx sl102 .none rfl rfl rfl rfl (at_nth (by omega)) rfl ?_
    refine evd [] [] ?_
    refine Walk.idx sl35 .none rfl rfl rfl rfl (pats_at (by omega)) rfl ?_
    refine evd [] [] ?_
    refine Walk.call (cr:=[]) cal93 (spec_l3Linear_fn hw n (shapeP_kid hs (by omega)) (by omega) (hin _ (nth_mem (by omega))) (Pats.ok_mem hok.2 _ (nth_mem (by omega))) (hsz _ (by omega))) rfl .none rfl rfl (LeL.refl _) trivial rfl rfl rfl ?_
    refine evd [] [] ?_
    refine dr ?_
    refine sq (fun h2 h2p h2s=>?_) fun h2 h2p h2s=>?_
    ·try simp only[Q,Pat.cs_len] at h2p
     refine rn0 (r1 rfl) (.eqd ?_)
     all_goals (refine congrArg D.bool ?_;unfold linP;rw[if_pos hop5];(rw[all2_nth_false (i:=i) (by omega) (by omega) (by assumption),Bool.false_and]))
    ·try simp only[Q,Pat.cs_len] at h2p
     refine ar ?_
     refine Exists.intro (i+1) ⟨⟨by omega,upto_succ hg1.2 (by assumption)⟩,(by omega),Sub.x (by kernel_rfl) (by kernel_rfl) ⟨⟨_,rfl,(LeA.eqi (by first|rfl|(simp;done)|(simp_all;done)|omega))⟩,trivial⟩ (by kernel_rfl) (by kernel_rfl) trivial⟩
   ·try simp only[Q,Pat.cs_len] at h1p
    refine sq (fun h3 h3p h3s=>?_) fun h3 h3p h3s=>?_
    ·try simp only[Q,Pat.cs_len] at h3p
     refine Walk.idx (i:=0) sl35 .none rfl rfl rfl rfl (pats_at (by omega)) rfl ?_
     refine evd [] [] ?_
     refine Walk.call (cr:=[]) cal70 (spec_l3Vars_nil hw s0 (by omega) ht (Pats.ok_mem hok.2 _ (nth_mem (by omega))) z0) rfl .none rfl rfl (LeL.refl _) trivial rfl rfl rfl ?_
     refine evd [] [] ?_
     refine Walk.idx (i:=1) sl35 .none rfl rfl rfl rfl (pats_at (by omega)) rfl ?_
     refine evd [] [] ?_
     refine Walk.call (cr:=[]) cal70 (spec_l3Vars_nil hw s1 (by omega) ht (Pats.ok_mem hok.2 _ (nth_mem (by omega))) z1) rfl .none rfl rfl (LeL.refl _) trivial rfl rfl rfl ?_
     refine Walk.call (cr:=[]) cal123 (spec_l3Alike_fn (by omega) (by omega)) rfl .none rfl rfl (LeL.refl _) trivial rfl rfl rfl ?_
     refine evd [] [] ?_
     refine dr ?_
     refine rn0 (r1 rfl) (.eqd ?_)
     all_goals (refine congrArg D.bool ?_;unfold linP;rw[if_pos hop5];(rw[all2_nth_true (by omega) (fun x hx=>hg1.2 x (by omega)),Bool.true_and]))
    ·try simp only[Q,Pat.cs_len] at h3p
     exfalso;simp_all
  ·skip
   refine bd Tryz.f93 70 [] [] fun w0 F0 own kept hk=>?_
   refine Walk.box (id:=3004) .none rfl rfl rfl rfl rfl rfl rfl ?_
   refine Walk.box (id:=3005) .none rfl rfl rfl rfl rfl rfl rfl ?_
   refine ev ?_
   refine Walk.call (cr:=[]) cal95 (spec_l3Types_fn hw ht (ownP_mem ho)) rfl .none rfl rfl (LeL.refl _) trivial rfl rfl rfl ?_
   refine ev ?_
   refine CWp.loopX (ι:=Nat) hk (fun i=>[(8,.d (.i (i:Int)))]) [6,15,16,17,18,19,20,21,22,23,24,25,26,27,28,29,30,31,32] (fun i=>[]) (fun i=>i≤(typesP w ⟨a,k⟩ p).length∧∀i',i'<i→linP w n (nth (typesP w ⟨a,k⟩ p) i') (nth p.kids i')=true) (fun i=>(typesP w ⟨a,k⟩ p).length-i) 0 ⟨by omega,fun _ h=>absurd h (by omega)⟩ ⟨⟨_,rfl,(LeA.eqi (by first|rfl|(simp;done)|(simp_all;done)|omega))⟩,trivial⟩ trivial (fun x=>rfl) (fun i hg1=>?_)
   refine evc [] [] ?_
   refine sq (fun h1 h1p h1s=>?_) fun h1 h1p h1s=>?_
   ·try simp only[Q,Pat.cs_len] at h1p
    refine Walk.idx sl102 .none rfl rfl rfl rfl (at_nth (by omega)) rfl ?_
    refine evd [] [] ?_
    refine Walk.idx sl35 .none rfl rfl rfl rfl (pats_at (by omega)) rfl ?_
    refine evd [] [] ?_
    refine Walk.call (cr:=[]) cal93 (spec_l3Linear_fn hw n (shapeP_kid hs (by omega)) (by omega) (hin _ (nth_mem (by omega))) (Pats.ok_mem hok.2 _ (nth_mem (by omega))) (hsz _ (by omega))) rfl .none rfl rfl (LeL.refl _) trivial rfl rfl rfl ?_
    refine evd [] [] ?_
    refine dr ?_
    refine sq (fun h2 h2p h2s=>?_) fun h2 h2p h2s=>?_
    ·try simp only[Q,Pat.cs_len] at h2p
     refine rn0 (r1 rfl) (.eqd ?_)
     all_goals (refine congrArg D.bool ?_;unfold linP;rw[if_neg hop5];(rw[all2_nth_false (i:=i) (by omega) (by omega) (by assumption),Bool.false_and];done))
    ·try simp only[Q,Pat.cs_len] at h2p
     refine ar ?_
     refine Exists.intro (i+1) ⟨⟨by omega,upto_succ hg1.2 (by assumption)⟩,(by omega),Sub.x (by kernel_rfl) (by kernel_rfl) ⟨⟨_,rfl,(LeA.eqi (by first|rfl|(simp;done)|(simp_all;done)|omega))⟩,trivial⟩ (by kernel_rfl) (by kernel_rfl) trivial⟩
   ·try simp only[Q,Pat.cs_len] at h1p
    refine sq (fun h3 h3p h3s=>?_) fun h3 h3p h3s=>?_
    ·try simp only[Q,Pat.cs_len] at h3p
     exfalso;simp_all
    ·try simp only[Q,Pat.cs_len] at h3p
     refine Walk.call (cr:=[]) cal70 (spec_l3Vars_nil hw hs hn ht hok' hb) rfl .none rfl rfl (LeL.refl _) trivial rfl rfl rfl ?_
     refine ev ?_
     refine CWp.loopX (ι:=Nat) hk (fun j=>[(10,.d (.i (j:Int)))]) [6,55,56,57,58,59,60,61,62,63,64,65,66,67,68,69] (fun j=>[]) (fun j=>j≤(varsP w (n+1) ⟨a,k⟩ p).length∧∀j',j'<j→findV (varsP w (n+1) ⟨a,k⟩ p) (nth (varsP w (n+1) ⟨a,k⟩ p) j').var=(j':Int)) (fun j=>(varsP w (n+1) ⟨a,k⟩ p).length-j) 0 ⟨by omega,fun _ h=>absurd h (by omega)⟩ ⟨⟨_,rfl,(LeA.eqi (by first|rfl|(simp;done)|(simp_all;done)|omega))⟩,trivial⟩ trivial (fun x=>rfl) (fun j hg2=>?_)
     refine evc [] [] ?_
     refine sq (fun h4 h4p h4s=>?_) fun h4 h4p h4s=>?_
     ·try simp only[Q,Pat.cs_len] at h4p
      refine Walk.idx sl86 .none rfl rfl rfl rfl (at_nth (by omega)) rfl ?_
      refine ev ?_
      refine Walk.call (cr:=[]) cal94 (spec_l3Find_fn (by omega)) rfl .none rfl rfl (LeL.refl _) trivial rfl rfl rfl ?_
      refine ev ?_
      refine sq (fun h5 h5p h5s=>?_) fun h5 h5p h5s=>?_
      ·try simp only[Q,Pat.cs_len] at h5p
       refine rn0 (r1 rfl) (.eqd ?_)
       all_goals (refine congrArg D.bool ?_;unfold linP;rw[if_neg hop5];(rw[all2_nth_true (by omega) (fun x hx=>hg1.2 x (by omega)),Bool.true_and];first|(rw[distV_false (i:=j) (by omega) (by omega)];done)|(symm;exact all_range_true (fun x hx=>decide_eq_true (hg2.2 x (by omega))))))
      ·try simp only[Q,Pat.cs_len] at h5p
       refine ar ?_
       refine Exists.intro (j+1) ⟨⟨by omega,upto_succ hg2.2 (by omega)⟩,(by omega),Sub.x (by kernel_rfl) (by kernel_rfl) ⟨⟨_,rfl,(LeA.eqi (by first|rfl|(simp;done)|(simp_all;done)|omega))⟩,trivial⟩ (by kernel_rfl) (by kernel_rfl) trivial⟩
     ·try simp only[Q,Pat.cs_len] at h4p
      refine rn0 (r1 rfl) (.eqd ?_)
      all_goals (refine congrArg D.bool ?_;unfold linP;rw[if_neg hop5];(rw[all2_nth_true (by omega) (fun x hx=>hg1.2 x (by omega)),Bool.true_and];first|(rw[distV_false (i:=j) (by omega) (by omega)];done)|(symm;exact all_range_true (fun x hx=>decide_eq_true (hg2.2 x (by omega))))))
def isP (w:List Data) (t:Ty) (p:Pat):Bool:=shapeP w 10 t p&&(decide ((p.size:Int)≤60)&&linP w 10 t p)
theorem spec_l3Is_fn {w:List Data} (hw:WT w){a k:Int}{p:Pat} (ht:TyIn w.length ⟨a,k⟩) (hok:p.ok) (hb:p.size≤1000000000000):
  FnD Tryz.prog 68 [.d (encDatas w),.agg [.d (.i a),.d (.i k)],.agg [.d (.i p.op),.d (.i p.ctor),.d (.i p.n),.d (.i p.m),.d (.i p.var),.d (encPats p.kids)]] [] (.d (.bool (isP w ⟨a,k⟩ p))) []:=by
 have hc:=cntP_iff p 60
 by_cases hs:shapeP w 10 ⟨a,k⟩ p=true
 ·skip
  refine bd Tryz.f68 22 [] [1] fun w0 F0 own kept hk=>?_
  refine Walk.box (id:=3004) .none rfl rfl rfl rfl rfl rfl rfl ?_
  refine Walk.box (id:=3005) .none rfl rfl rfl rfl rfl rfl rfl ?_
  refine ev ?_
  refine CWp.regionJ ?_
  refine WRest.join 9 [(15,.d (.bool (decide ((p.size:Int)≤60))))] [7,8,9,10,11,12,13,14] ?_ ?_
  ·
   refine ev ?_
   refine Walk.call (cr:=[]) cal91 (spec_l3Shape_fn hw 10 (by omega) (by omega) ht hok) rfl .none rfl rfl (LeL.refl _) trivial rfl rfl rfl ?_
   refine ev ?_
   refine sq (fun h1 h1p h1s=>?_) fun h1 h1p h1s=>?_
   ·try simp only[Q] at h1p
    refine Walk.call (cr:=[]) cal92 (spec_l3Count_fn _ (Nat.le_refl _) hb hok (by omega) (by omega)) rfl (.some rfl rfl h1) rfl rfl (LeL.refl _) trivial rfl rfl rfl ?_
    refine evs [] [(11,true)] ?_ ⟨⟨_,rfl,h1⟩,trivial⟩
    exact jnb rfl
   ·try simp only[Q] at h1p
    exact jnb rfl
  refine WRest.done ?_
  refine ev ?_
  refine sq (fun h2 h2p h2s=>?_) fun h2 h2p h2s=>?_
  ·try simp only[Q] at h2p
   refine Walk.call (cr:=[]) cal93 (spec_l3Linear_fn hw 10 hs (by omega) ht hok hb) rfl (.some rfl rfl h2) rfl rfl (LeL.refl _) trivial rfl rfl rfl ?_
   refine evs [] [(16,true)] ?_ ⟨⟨_,rfl,h2⟩,trivial⟩
   refine rn0 (r1 rfl) (.eqd ?_)
   all_goals (refine congrArg D.bool ?_;unfold isP;simp only[hs,Bool.true_and];first|(simp_all;done)|(simp_all;intro;omega))
  ·try simp only[Q] at h2p
   refine rn0 (r1 rfl) (.eqd ?_)
   all_goals (refine congrArg D.bool ?_;unfold isP;simp only[hs,Bool.true_and];first|(simp_all;done)|(simp_all;intro;omega))
 ·have hs':shapeP w 10 ⟨a,k⟩ p=false:=by simpa using hs
  refine bd Tryz.f68 22 [] [1] fun w0 F0 own kept hk=>?_
  refine Walk.box (id:=3004) .none rfl rfl rfl rfl rfl rfl rfl ?_
  refine Walk.box (id:=3005) .none rfl rfl rfl rfl rfl rfl rfl ?_
  refine ev ?_
  refine CWp.regionJ ?_
  refine WRest.join 9 [(15,.d (.bool (false)))] [7,8,9,10,11,12,13,14] ?_ ?_
  ·
   refine ev ?_
   refine Walk.call (cr:=[]) cal91 (spec_l3Shape_fn hw 10 (by omega) (by omega) ht hok) rfl .none rfl rfl (LeL.refl _) trivial rfl rfl rfl ?_
   refine ev ?_
   refine sq (fun h1 h1p h1s=>?_) fun h1 h1p h1s=>?_
   ·try simp only[Q] at h1p
    refine Walk.call (cr:=[]) cal92 (spec_l3Count_fn _ (Nat.le_refl _) hb hok (by omega) (by omega)) rfl (.some rfl rfl h1) rfl rfl (LeL.refl _) trivial rfl rfl rfl ?_
    refine evs [] [(11,true)] ?_ ⟨⟨_,rfl,h1⟩,trivial⟩
    exact jnb rfl
   ·try simp only[Q] at h1p
    exact jnb rfl
  refine WRest.done ?_
  refine ev ?_
  refine sq (fun h2 h2p h2s=>?_) fun h2 h2p h2s=>?_
  ·try simp only[Q] at h2p
   refine Walk.call (cr:=[]) cal93 (show FnD Tryz.prog 93 [.d (encDatas w),.agg [.d (.i a),.d (.i k)],.agg [.d (.i p.op),.d (.i p.ctor),.d (.i p.n),.d (.i p.m),.d (.i p.var),.d (encPats p.kids)]] [] (.d (.bool true)) [] from absurd (by assumption:(false:Bool)=true) (by simp)) rfl (.some rfl rfl h2) rfl rfl (LeL.refl _) trivial rfl rfl rfl ?_
   refine evs [] [(16,true)] ?_ ⟨⟨_,rfl,h2⟩,trivial⟩
   refine rn0 (r1 rfl) (.eqd ?_)
   all_goals (refine congrArg D.bool ?_;unfold isP;simp_all)
  ·try simp only[Q] at h2p
   refine rn0 (r1 rfl) (.eqd ?_)
   all_goals (refine congrArg D.bool ?_;unfold isP;simp_all)
end Go.Proofs.YtflgpdjbgfkhoaaGreat
namespace Go.Proofs.YtflgpdjbgfkhoaaGreat
open Go
set_option linter.unusedSimpArgs false
set_option linter.unusedVariables false
def tyS (s:Nat):Ty:=⟨((s / 4:Nat):Int),((s % 4:Nat):Int)⟩
def slotT (t:Ty):Nat:=t.data.toNat*4+t.index.toNat
def dv (f:Nat→Nat) (t:Ty):Nat:=if t.data = -1 then 1 else f (slotT t)
def mostL (f:Nat→Nat):Nat→List Ty→Nat
 |m,[]=>m+1
 |m,t::r=>if dv f t=0 then 0 else mostL f (max m (dv f t)) r
def most (w:List Data) (f:Nat→Nat) (t:Ty) (c:Int):Nat:=mostL f 0 (argsOf w t c)
def updF (f:Nat→Nat) (s n:Nat):Nat→Nat:=fun i=>if i=s then n else f i
def relax (w:List Data) (s:Nat) (f:Nat→Nat) (c:Int):Nat→Nat:=
 if 0<most w f (tyS s) c∧(f s=0∨most w f (tyS s) c<f s) then updF f s (most w f (tyS s) c) else f
def stepS (w:List Data) (f:Nat→Nat) (s:Nat):Nat→Nat:=(ctorsOf w (tyS s)).foldl (relax w s) f
def sweep (w:List Data) (f:Nat→Nat):Nat→Nat:=(List.range (w.length*4)).foldl (stepS w) f
def iterT (w:List Data):Nat→Nat→Nat
 |0=>fun _=>0
 |k+1=>sweep w (iterT w k)
def depthT (w:List Data):Nat→Nat:=iterT w (w.length*4+1)
def Hd (w:List Data):Nat→Ty→Prop
 |0,_=>False
 |d+1,t=>t.data = -1∨∃c∈ctorsOf w t,t.data≠ -1∧∀u∈argsOf w t c,Hd w d u
def InS (n:Nat) (u:Ty):Prop:=u.data = -1∨(slotT u<n∧tyS (slotT u)=u)
def ClosedT (w:List Data):Prop:=∀s,s<w.length*4→∀c∈ctorsOf w (tyS s),∀u∈argsOf w (tyS s) c,InS (w.length*4) u
theorem tyS_data (s:Nat):(tyS s).data≠ -1:=by simp only[tyS];omega
theorem Hd_mono (w:List Data):∀(d:Nat) (t:Ty),Hd w d t→Hd w (d+1) t
 |0,_,h=>h.elim
 |d+1,t,h=>by
  rcases h with h|⟨c,hc,h1,h⟩
  ·exact .inl h
  ·exact .inr ⟨c,hc,h1,fun u hu=>Hd_mono w d u (h u hu)⟩
theorem Hd_le {w:List Data}{d e:Nat}{t:Ty} (h:d≤e) (hd:Hd w d t):Hd w e t:=by
 induction h with
 |refl=>exact hd
 |step _ ih=>exact Hd_mono w _ t ih
section
variable {w:List Data}
def Bet (f g:Nat→Nat):Prop:=∀s,0<f s→0<g s∧g s≤f s
def Snd (w:List Data) (f:Nat→Nat):Prop:=∀s,s<w.length*4→0<f s→Hd w (f s) (tyS s)
def Cmp (w:List Data) (k:Nat) (f:Nat→Nat):Prop:=∀s,s<w.length*4→∀d,d≤k→Hd w d (tyS s)→0<f s∧f s≤d
theorem Bet.refl (f:Nat→Nat):Bet f f:=fun s h=>⟨h,Nat.le_refl _⟩
theorem Bet.trans {f g h:Nat→Nat} (a:Bet f g) (b:Bet g h):Bet f h:=fun s hs=>⟨(b s (a s hs).1).1,Nat.le_trans (b s (a s hs).1).2 (a s hs).2⟩
theorem Cmp.bet {k:Nat}{f g:Nat→Nat} (h:Cmp w k f) (b:Bet f g):Cmp w k g:=fun s hs d hd hh=>
 ⟨(b s (h s hs d hd hh).1).1,Nat.le_trans (b s (h s hs d hd hh).1).2 (h s hs d hd hh).2⟩
theorem mostL_pos {f:Nat→Nat}:∀ {l:List Ty}{m k:Nat},m≤k→(∀u∈l,0<dv f u∧dv f u≤k)→0<mostL f m l∧mostL f m l≤k+1
 | [],m,k,hm,_=>by simp only[mostL];omega
 |t::r,m,k,hm,h=>by
  have h1:=h t (by simp)
  simp only[mostL]
  rw[if_neg (by omega)]
  exact mostL_pos (by omega) (fun u hu=>h u (by simp[hu]))
theorem mostL_snd {f:Nat→Nat}:∀ {l:List Ty}{m:Nat},0<mostL f m l→m<mostL f m l∧∀u∈l,0<dv f u∧dv f u<mostL f m l
 | [],m,_=>⟨by simp only[mostL];omega,fun u hu=>by simp at hu⟩
 |t::r,m,h=>by
  simp only[mostL] at h ⊢
  by_cases h0:dv f t=0
  ·rw[if_pos h0] at h;omega
  ·rw[if_neg h0] at h ⊢
   obtain⟨h1,h2⟩:=mostL_snd h
   refine⟨by omega,fun u hu=>?_⟩
   rcases List.mem_cons.1 hu with rfl|hu
   ·omega
   ·exact h2 u hu
theorem dv_hd {f:Nat→Nat} (hs:Snd w f){u:Ty} (hu:InS (w.length*4) u) (h:0<dv f u):Hd w (dv f u) u:=by
 unfold dv at h ⊢
 split
 ·rename_i he;exact .inl he
 ·rename_i he
  rw[if_neg he] at h
  rcases hu with hu|⟨h1,h2⟩
  ·exact absurd hu he
  ·have:=hs _ h1 h
   rwa [h2] at this
theorem dv_cmp {k:Nat}{f:Nat→Nat} (hc:Cmp w k f){u:Ty} (hu:InS (w.length*4) u) (h:Hd w k u):0<dv f u∧dv f u≤k:=by
 unfold dv
 split
 ·cases k with
  |zero=>exact h.elim
  |succ k=>omega
 ·rename_i he
  rcases hu with hu|⟨h1,h2⟩
  ·exact absurd hu he
  ·exact hc _ h1 k (Nat.le_refl _) (by rw[h2];exact h)
theorem relax_bet {s:Nat}{f:Nat→Nat}{c:Int}:Bet f (relax w s f c):=by
 intro i hi
 unfold relax
 split
 ·rename_i h
  unfold updF
  split
  ·subst i;omega
  ·omega
 ·omega
theorem relax_snd (hcl:ClosedT w){s:Nat}{f:Nat→Nat}{c:Int} (hs:s<w.length*4) (hc:c∈ctorsOf w (tyS s)) (h:Snd w f):Snd w (relax w s f c):=by
 unfold relax
 split
 ·rename_i hn
  intro i hi h0
  unfold updF at h0 ⊢
  by_cases he:i=s
  ·subst he
   rw[if_pos rfl] at h0 ⊢
   obtain⟨h1,h2⟩:=mostL_snd (m:=0) hn.1
   obtain⟨n,hn'⟩:∃n,most w f (tyS i) c=n+1:=⟨most w f (tyS i) c-1,by omega⟩
   rw[hn']
   refine .inr ⟨c,hc,tyS_data _,fun u hu=>?_⟩
   have h3:=h2 u hu
   have h4:mostL f 0 (argsOf w (tyS i) c)=n+1:=hn'
   exact Hd_le (by omega) (dv_hd h (hcl i hi c hc u hu) h3.1)
  ·rw[if_neg he] at h0 ⊢
   exact h i hi h0
 ·exact h
theorem relax_cmp (hcl:ClosedT w){s k:Nat}{f:Nat→Nat}{c:Int} (hs:s<w.length*4) (hc:c∈ctorsOf w (tyS s)) (h:Cmp w k f) (hh:∀u∈argsOf w (tyS s) c,Hd w k u):
  0<relax w s f c s∧relax w s f c s≤k+1:=by
 have hm:=mostL_pos (f:=f) (m:=0) (k:=k) (by omega) (fun u hu=>dv_cmp h (hcl s hs c hc u hu) (hh u hu))
 have hm':0<most w f (tyS s) c∧most w f (tyS s) c≤k+1:=hm
 unfold relax
 split
 ·unfold updF;rw[if_pos rfl];exact hm'
 ·rename_i hn
  have:¬(f s=0∨most w f (tyS s) c<f s):=fun h2=>hn ⟨hm'.1,h2⟩
  omega
theorem row_all (hcl:ClosedT w){s k:Nat} (hs:s<w.length*4):∀(C:List Int) (f:Nat→Nat),(∀c∈C,c∈ctorsOf w (tyS s))→Snd w f→Cmp w k f→
  Bet f (C.foldl (relax w s) f)∧Snd w (C.foldl (relax w s) f)∧∀c∈C,(∀u∈argsOf w (tyS s) c,Hd w k u)→0<C.foldl (relax w s) f s∧C.foldl (relax w s) f s≤k+1
 | [],f,_,h1,_=>⟨Bet.refl f,h1,fun c hc=>by simp at hc⟩
 |c::r,f,hC,h1,h2=>by
  have hc:=hC c (by simp)
  obtain⟨g1,g2,g3⟩:=row_all hcl hs r (relax w s f c) (fun x hx=>hC x (by simp[hx])) (relax_snd hcl hs hc h1) (h2.bet relax_bet)
  refine⟨relax_bet.trans g1,g2,fun x hx hh=>?_⟩
  rcases List.mem_cons.1 hx with rfl|hx
  ·obtain⟨q1,q2⟩:=relax_cmp hcl hs hc h2 hh
   exact⟨(g1 s q1).1,Nat.le_trans (g1 s q1).2 q2⟩
  ·exact g3 x hx hh
theorem step_all (hcl:ClosedT w){s k:Nat} (hs:s<w.length*4){f:Nat→Nat} (h1:Snd w f) (h2:Cmp w k f):
  Bet f (stepS w f s)∧Snd w (stepS w f s)∧∀d,d≤k+1→Hd w d (tyS s)→0<stepS w f s s∧stepS w f s s≤d:=by
 obtain⟨g1,g2,g3⟩:=row_all hcl hs (ctorsOf w (tyS s)) f (fun c hc=>hc) h1 h2
 refine⟨g1,g2,fun d hd hh=>?_⟩
 rcases Nat.lt_or_ge d (k+1) with h|h
 ·have:=h2 s hs d (by omega) hh
  exact⟨(g1 s this.1).1,Nat.le_trans (g1 s this.1).2 this.2⟩
 ·obtain rfl:d=k+1:=by omega
  rcases hh with hh|⟨c,hc,_,hh⟩
  ·exact absurd hh (tyS_data s)
  ·exact g3 c hc hh
theorem steps_all (hcl:ClosedT w){k:Nat}:∀(L:List Nat) (f:Nat→Nat),(∀s∈L,s<w.length*4)→Snd w f→Cmp w k f→
  Bet f (L.foldl (stepS w) f)∧Snd w (L.foldl (stepS w) f)∧∀s∈L,∀d,d≤k+1→Hd w d (tyS s)→0<L.foldl (stepS w) f s∧L.foldl (stepS w) f s≤d
 | [],f,_,h1,_=>⟨Bet.refl f,h1,fun s hs=>by simp at hs⟩
 |s::r,f,hL,h1,h2=>by
  obtain⟨p1,p2,p3⟩:=step_all hcl (hL s (by simp)) h1 h2
  obtain⟨g1,g2,g3⟩:=steps_all hcl r (stepS w f s) (fun x hx=>hL x (by simp[hx])) p2 (h2.bet p1)
  refine⟨p1.trans g1,g2,fun x hx d hd hh=>?_⟩
  rcases List.mem_cons.1 hx with rfl|hx
  ·have:=p3 d hd hh
   exact⟨(g1 x this.1).1,Nat.le_trans (g1 x this.1).2 this.2⟩
  ·exact g3 x hx d hd hh
theorem sweep_all (hcl:ClosedT w){k:Nat}{f:Nat→Nat} (h1:Snd w f) (h2:Cmp w k f):Bet f (sweep w f)∧Snd w (sweep w f)∧Cmp w (k+1) (sweep w f):=by
 obtain⟨g1,g2,g3⟩:=steps_all hcl (List.range (w.length*4)) f (fun s hs=>List.mem_range.1 hs) h1 h2
 exact⟨g1,g2,fun s hs d hd hh=>g3 s (List.mem_range.2 hs) d hd hh⟩
theorem iter_all (hcl:ClosedT w):∀k,Snd w (iterT w k)∧Cmp w k (iterT w k)
 |0=>⟨fun s _ h=>absurd h (by simp[iterT]),fun s _ d hd hh=>by
   obtain rfl:d=0:=by omega
   exact hh.elim⟩
 |k+1=>(sweep_all hcl (iter_all hcl k).1 (iter_all hcl k).2).2
theorem hd_stable (hcl:ClosedT w){d:Nat} (h1:1≤d) (h:∀s,s<w.length*4→Hd w (d+1) (tyS s)→Hd w d (tyS s)):∀e s,s<w.length*4→Hd w e (tyS s)→Hd w d (tyS s)
 |0,s,_,hh=>hh.elim
 |e+1,s,hs,hh=>by
  refine h s hs ?_
  rcases hh with hh|⟨c,hc,h2,hh⟩
  ·exact .inl hh
  ·refine .inr ⟨c,hc,h2,fun u hu=>?_⟩
   rcases hcl s hs c hc u hu with hi|⟨q1,q2⟩
   ·cases d with
    |zero=>omega
    |succ d=>exact .inl hi
   ·have:=hd_stable hcl h1 h e _ q1 (by rw[q2];exact hh u hu)
    rwa [q2] at this
open Classical in
noncomputable def cntH (w:List Data) (d:Nat):Nat:=(List.range (w.length*4)).countP (fun s=>decide (Hd w d (tyS s)))
theorem countP_lt {p q:Nat→Bool}:∀ {l:List Nat},(∀x∈l,p x=true→q x=true)→(∃x∈l,p x=false∧q x=true)→l.countP p<l.countP q
 | [],_,h=>by obtain⟨x,hx,_⟩:=h;simp at hx
 |y::r,hpq,h=>by
  have hle:r.countP p≤r.countP q:=List.countP_mono_left (fun x hx hp=>hpq x (by simp[hx]) hp)
  rw[List.countP_cons,List.countP_cons]
  obtain⟨x,hx,h1,h2⟩:=h
  rcases List.mem_cons.1 hx with rfl|hx
  ·rw[h1,h2];simp only[Bool.false_eq_true,if_false,if_true];omega
  ·have:=countP_lt (fun x hx hp=>hpq x (by simp[hx]) hp) ⟨x,hx,h1,h2⟩
   have h3:=hpq y (by simp)
   cases hp:p y with
   |false=>simp only[Bool.false_eq_true,if_false];omega
   |true=>rw[h3 hp];simp only[if_true];omega
open Classical in
theorem cnt_lt {d:Nat} (h:¬ ∀s,s<w.length*4→Hd w (d+1) (tyS s)→Hd w d (tyS s)):cntH w d<cntH w (d+1):=by
 have h2:∃s,s<w.length*4∧Hd w (d+1) (tyS s)∧¬Hd w d (tyS s):=by
  refine Classical.byContradiction fun hn=>h fun s hs hh=>Classical.byContradiction fun hd=>hn ⟨s,hs,hh,hd⟩
 obtain⟨s,hs,h3,h4⟩:=h2
 unfold cntH
 exact countP_lt (fun x _ hx=>by rw[decide_eq_true_eq] at hx ⊢;exact Hd_mono w d _ hx) ⟨s,List.mem_range.2 hs,by simp[h4],by simp[h3]⟩
theorem cnt_ge:∀m,(∀d,1≤d→d≤m→¬ ∀s,s<w.length*4→Hd w (d+1) (tyS s)→Hd w d (tyS s))→m≤cntH w (m+1)
 |0,_=>Nat.zero_le _
 |m+1,h=>by
  have:=cnt_ge m (fun d h1 h2=>h d h1 (by omega))
  have:=cnt_lt (w:=w) (d:=m+1) (h (m+1) (by omega) (by omega))
  omega
theorem hd_fix (hcl:ClosedT w){e s:Nat} (hs:s<w.length*4) (h:Hd w e (tyS s)):Hd w (w.length*4+1) (tyS s):=by
 have hex:∃d,1≤d∧d≤w.length*4+1∧∀s,s<w.length*4→Hd w (d+1) (tyS s)→Hd w d (tyS s):=by
  refine Classical.byContradiction fun hn=>?_
  have h1:=cnt_ge (w:=w) (w.length*4+1) (fun d h1 h2 h3=>hn ⟨d,h1,h2,h3⟩)
  have h2:cntH w (w.length*4+1+1)≤(List.range (w.length*4)).length:=List.countP_le_length
  rw[List.length_range] at h2
  omega
 obtain⟨d,h1,h2,h3⟩:=hex
 exact Hd_le h2 (hd_stable hcl h1 h3 e s hs h)
theorem relax_out {s i:Nat}{f:Nat→Nat}{c:Int} (h:i≠s):relax w s f c i=f i:=by
 unfold relax;split
 ·unfold updF;rw[if_neg h]
 ·rfl
theorem row_out {s i:Nat} (h:i≠s):∀(C:List Int) (f:Nat→Nat),C.foldl (relax w s) f i=f i
 | [],_=>rfl
 |c::r,f=>by rw[List.foldl_cons,row_out h r,relax_out h]
theorem steps_out {i:Nat}:∀(L:List Nat) (f:Nat→Nat),i∉L→L.foldl (stepS w) f i=f i
 | [],_,_=>rfl
 |s::r,f,h=>by
  simp only[List.mem_cons,not_or] at h
  rw[List.foldl_cons,steps_out r _ h.2]
  exact row_out h.1 _ _
theorem iter_out {i:Nat} (h:w.length*4≤i):∀k,iterT w k i=0
 |0=>rfl
 |k+1=>by
  show sweep w (iterT w k) i=0
  unfold sweep
  rw[steps_out _ _ (by simp;omega),iter_out h k]
theorem iter_eq (hcl:ClosedT w){k:Nat} (hk:w.length*4+1≤k):iterT w k=depthT w:=by
 have key:∀a b,w.length*4+1≤a→w.length*4+1≤b→∀s,s<w.length*4→0<iterT w a s→0<iterT w b s∧iterT w b s≤iterT w a s:=by
  intro a b ha hb s hs h0
  have h1:=(iter_all hcl a).1 s hs h0
  have h2:=hd_fix hcl hs h1
  have h3:=(iter_all hcl a).2 s hs _ ha h2
  exact(iter_all hcl b).2 s hs _ (by omega) h1
 funext s
 rcases Nat.lt_or_ge s (w.length*4) with hs|hs
 ·have h1:=key k (w.length*4+1) hk (Nat.le_refl _) s hs
  have h2:=key (w.length*4+1) k (Nat.le_refl _) hk s hs
  show iterT w k s=iterT w (w.length*4+1) s
  omega
 ·show iterT w k s=iterT w (w.length*4+1) s
  rw[iter_out hs,iter_out hs]
def Strict (f g:Nat→Nat):Prop:=∃s,0<g s∧(f s=0∨g s<f s)
theorem Strict.bet {f g h:Nat→Nat} (a:Strict f g) (b:Bet g h):Strict f h:=by
 obtain⟨s,h1,h2⟩:=a
 have:=b s h1
 exact⟨s,this.1,by omega⟩
theorem mostL_bd {f:Nat→Nat}{b:Nat} (hb:∀s,f s≤b) (h1:1≤b):∀ {l:List Ty}{m:Nat},m≤b→mostL f m l≤b+1
 | [],m,hm=>by simp only[mostL];omega
 |t::r,m,hm=>by
  simp only[mostL]
  split
  ·omega
  ·refine mostL_bd hb h1 ?_
   have:dv f t≤b:=by
    unfold dv;split
    ·exact h1
    ·exact hb _
   omega
theorem relax_bd {s:Nat}{f:Nat→Nat}{c:Int}{b:Nat} (hb:∀s,f s≤b) (h1:1≤b):∀i,relax w s f c i≤b+1:=by
 intro i
 unfold relax
 split
 ·unfold updF
  split
  ·exact mostL_bd hb h1 (Nat.zero_le _)
  ·have:=hb i;omega
 ·have:=hb i;omega
theorem row_bd {s:Nat}:∀(C:List Int) (f:Nat→Nat) (b:Nat),(∀s,f s≤b)→1≤b→∀i,C.foldl (relax w s) f i≤b+C.length
 | [],f,b,hb,_,i=>by have:=hb i;simpa using this
 |c::r,f,b,hb,h1,i=>by
  have:=row_bd (s:=s) r (relax w s f c) (b+1) (relax_bd hb h1) (by omega) i
  rw[List.foldl_cons,List.length_cons];omega
theorem steps_bd {m:Nat}:∀(L:List Nat) (f:Nat→Nat) (b:Nat),(∀s∈L,(ctorsOf w (tyS s)).length≤m)→(∀s,f s≤b)→1≤b→∀i,L.foldl (stepS w) f i≤b+L.length*m
 | [],f,b,_,hb,_,i=>by have:=hb i;simpa using this
 |s::r,f,b,hm,hb,h1,i=>by
  have h2:=row_bd (w:=w) (s:=s) (ctorsOf w (tyS s)) f b hb h1
  have h3:=hm s (by simp)
  have:=steps_bd r (stepS w f s) (b+m) (fun x hx=>hm x (by simp[hx])) (fun j=>by have:=h2 j;show _≤_;unfold stepS;omega) (by omega) i
  rw[List.foldl_cons,List.length_cons,Nat.add_mul]
  omega
theorem iter_bd {m:Nat} (hm:∀s,s<w.length*4→(ctorsOf w (tyS s)).length≤m):∀k i,iterT w k i≤1+k*(w.length*4*m)
 |0,i=>by simp[iterT]
 |k+1,i=>by
  have:=steps_bd (w:=w) (m:=m) (List.range (w.length*4)) (iterT w k) (1+k*(w.length*4*m)) (fun s hs=>hm s (List.mem_range.1 hs)) (iter_bd hm k) (by omega) i
  show sweep w (iterT w k) i≤_
  unfold sweep
  rw[List.length_range] at this
  rw[Nat.add_mul]
  omega
end
end Go.Proofs.YtflgpdjbgfkhoaaGreat
namespace Go.Proofs.YtflgpdjbgfkhoaaGreat
open Go
set_option linter.unusedSimpArgs false
set_option linter.unusedVariables false
set_option maxRecDepth 100000
set_option maxHeartbeats 2000000
def tabC (n:Nat) (f:Nat→Nat):List AV:=(List.range n).map fun s=> .d (.i (f s:Int))
abbrev encTab (n:Nat) (f:Nat→Nat):D:= .sl ((List.range n).map fun s=>[D.i (f s:Int)])
theorem tab_get {n i s:Nat}{f:Nat→Nat} (h:s<n) (e:i=s):(tabC n f)[i]?=some (.d (.i (f s:Int))):=by
 subst e;simp[tabC,h]
theorem tab_ids {n:Nat}{f:Nat→Nat}:AV.idsL (tabC n f)=[]:=by
 unfold tabC
 induction List.range n with
 |nil=>rfl
 |cons x r ih=>rw[List.map_cons,AV.idsL,ih];rfl
theorem chunk_tab {n:Nat}{f:Nat→Nat}:chunkD n 1 (tabC n f)=some ((List.range n).map fun s=>[D.i (f s:Int)]):=by
 have:=chunkD_flat (f:=fun s=>[D.i (f s:Int)]) (k:=1) (l:=List.range n) (fun _ _=>rfl)
 rw[List.length_range] at this
 rw[←this]
 congr 1
 unfold tabC
 induction List.range n with
 |nil=>rfl
 |cons x r ih=>rw[List.map_cons,List.flatMap_cons,ih];rfl
theorem putC_at {v:AV}:∀ {cs:List AV}{i:Nat},i<cs.length→putC cs i [v]=some (cs.set i v)
 |x::r,0,_=>by cases r<;>rfl
 |x::r,i+1,h=>by
  have:=putC_at (v:=v) (cs:=r) (i:=i) (by simpa using h)
  simp only[putC,this,List.set_cons_succ]
theorem tab_put {n i s v:Nat}{f:Nat→Nat}{x:Int} (h:s<n) (e:i=s) (ex:x=(v:Int)):putC (tabC n f) i [.d (.i x)]=some (tabC n (updF f s v)):=by
 subst e ex
 rw[putC_at (by simp[tabC,h])]
 congr 1
 refine List.ext_getElem (by simp[tabC]) (fun j h1 h2=>?_)
 simp only[tabC,List.length_map,List.length_range] at h2
 rw[List.getElem_set]
 simp only[tabC,List.getElem_map,List.getElem_range,updF]
 by_cases hj:i=j
 ·subst hj;simp
 ·rw[if_neg hj,if_neg (fun h=>hj h.symm)]
theorem InS.facts {n:Nat}{a k:Int} (h:InS n ⟨a,k⟩) (ha:¬a = -1):slotT ⟨a,k⟩<n∧a*4+k=(slotT ⟨a,k⟩:Int)∧0≤a∧0≤k∧k≤3∧a≤n:=by
 rcases h with h|⟨h1,h2⟩
 ·exact absurd h ha
 ·have e1:=congrArg Ty.data h2
  have e2:=congrArg Ty.index h2
  simp only[tyS] at e1 e2
  omega
theorem dv_in {f:Nat→Nat}{a k:Int} (ha:¬a = -1):dv f ⟨a,k⟩=f (slotT ⟨a,k⟩):=by unfold dv;rw[if_neg ha]
theorem dv_int {f:Nat→Nat}{a k:Int} (ha:a = -1):dv f ⟨a,k⟩=1:=by unfold dv;rw[if_pos ha]
theorem dv_bd {f:Nat→Nat}{b:Nat} (hb:∀s,f s≤b) (h1:1≤b) (t:Ty):dv f t≤b:=by
 unfold dv;split
 ·exact h1
 ·exact hb _
theorem spec_l1Slot_fn {a k:Int} (ha:0≤a∧a≤1000) (hk:0≤k∧k≤1000):FnD Tryz.prog 84 [.agg [.d (.i a),.d (.i k)]] [] (.d (.i (a*4+k))) []:=by
 refine bd Tryz.f84 9 [] [] fun w0 F0 own kept hk=>?_
 refine Walk.box (id:=3001) .none rfl rfl rfl rfl rfl rfl rfl ?_
 refine ev ?_
 refine ar ?_
 refine ar ?_
 refine rn0 (r1 rfl) (.eqd ?_)
 all_goals (first|rfl|(simp[];done)|(simp_all;done)|(simp_all;omega)|omega)
theorem spec_l1Depth_ms {n:Nat}{f:Nat→Nat}{a k:Int} (h:InS n ⟨a,k⟩) (hn:n≤100):
  FnD Tryz.prog 59 [.ms 70 n,.agg [.d (.i a),.d (.i k)]] [(70,some (.box (tabC n f)))] (.d (.i (dv f ⟨a,k⟩))) []:=by
 have hs:=h.facts
 refine bd Tryz.f59 13 [12] [] fun w0 F0 own kept hk=>?_
 refine Walk.box (id:=3003) .none rfl rfl rfl (by first|rfl|(simp only[freshB,occH,occE,Res.ids,List.cons_append,List.nil_append,AV.idsL,AV.ids,idsL_append,ownCells_ids,zerosA_idsR,repNil,List.map_cons,List.map_nil,upC,tab_ids];rfl)) (by first|rfl|(simp only[freshB,occH,occE,Res.ids,List.cons_append,List.nil_append,AV.idsL,AV.ids,idsL_append,ownCells_ids,zerosA_idsR,repNil,List.map_cons,List.map_nil,upC,tab_ids];rfl)) (by first|rfl|(simp only[freshB,occH,occE,Res.ids,List.cons_append,List.nil_append,AV.idsL,AV.ids,idsL_append,ownCells_ids,zerosA_idsR,repNil,List.map_cons,List.map_nil,upC,tab_ids];rfl)) (by first|rfl|(simp only[freshB,occH,occE,Res.ids,List.cons_append,List.nil_append,AV.idsL,AV.ids,idsL_append,ownCells_ids,zerosA_idsR,repNil,List.map_cons,List.map_nil,upC,tab_ids];rfl)) ?_
 refine evs [12] [] ?_
 refine sq (fun h1 h1p h1s=>?_) fun h1 h1p h1s=>?_
 ·try simp only[Q] at h1p
  refine rn [] (r1 rfl) (.eqd ?_) ⟨rfl,rfl⟩ (SubH.get ⟨rfl,trivial⟩) (fun _ h=>h)
  all_goals (first|(rw[dv_int (by assumption)];rfl)|(rw[dv_in (by assumption)]))
 ·try simp only[Q] at h1p
  refine Walk.call (cr:=[]) cal84 (spec_l1Slot_fn (by have:=hs h1p;omega) (by have:=hs h1p;omega)) rfl .none rfl rfl (LeL.refl _) trivial rfl (by first|rfl|(simp only[okCall,List.all_cons,List.all_nil,entOK,entOK',AV.idsL,AV.ids,idsL_append,ownCells_ids,List.map_cons,List.map_nil,tab_ids];rfl)) (by first|rfl|(simp only[freshB,occH,occE,Res.ids,List.cons_append,List.nil_append,AV.idsL,AV.ids,idsL_append,ownCells_ids,zerosA_idsR,repNil,List.map_cons,List.map_nil,upC,tab_ids];rfl)) ?_
  refine Walk.idxM (i:=slotT ⟨a,k⟩) sl75 .none rfl rfl rfl (hs h1p).2.1 ((hs h1p).1) ?_
  refine Walk.loadB ty3 .none rfl rfl rfl ((tab_get (hs h1p).1 (by omega))) ?_
  refine evs [12] [] ?_
  refine rn [] (r1 rfl) (.eqd ?_) ⟨rfl,rfl⟩ (SubH.get ⟨rfl,trivial⟩) (fun _ h=>h)
  all_goals (first|(rw[dv_int (by assumption)];rfl)|(rw[dv_in (by assumption)]))
theorem spec_l1Depth_fn {n:Nat}{f:Nat→Nat}{a k:Int} (h:InS n ⟨a,k⟩) (hn:n≤100):
  FnD Tryz.prog 59 [.d (encTab n f),.agg [.d (.i a),.d (.i k)]] [] (.d (.i (dv f ⟨a,k⟩))) []:=by
 have hs:=h.facts
 refine bd Tryz.f59 13 [] [] fun w0 F0 own kept hk=>?_
 refine Walk.box (id:=3003) .none rfl rfl rfl rfl rfl rfl rfl ?_
 refine ev ?_
 refine sq (fun h1 h1p h1s=>?_) fun h1 h1p h1s=>?_
 ·try simp only[Q] at h1p
  refine rn0 (r1 rfl) (.eqd ?_)
  all_goals (first|(rw[dv_int (by assumption)];rfl)|(rw[dv_in (by assumption)]))
 ·try simp only[Q] at h1p
  refine Walk.call (cr:=[]) cal84 (spec_l1Slot_fn (by have:=hs h1p;omega) (by have:=hs h1p;omega)) rfl .none rfl rfl (LeL.refl _) trivial rfl rfl rfl ?_
  refine Walk.idx (i:=slotT ⟨a,k⟩) sl75 .none rfl rfl rfl (hs h1p).2.1 (by simp[(hs h1p).1];rfl) rfl ?_
  refine ev ?_
  refine rn0 (r1 rfl) (.eqd ?_)
  all_goals (first|(rw[dv_int (by assumption)];rfl)|(rw[dv_in (by assumption)]))
theorem argsOf_small {w:List Data} (hw:WT w){a k c:Int} (ht:TyIn w.length ⟨a,k⟩) (hc:c∈vctors w ⟨a,k⟩):(argsOf w ⟨a,k⟩ c).length≤1000000000000:=by
 obtain⟨d,rfl,h1,h2⟩:=vctors_data ht hc
 exact argsOf_len hw h1 h2
theorem spec_l1Most_ms {w:List Data} (hw:WT w){n:Nat}{f:Nat→Nat}{a k c:Int} (ht:TyIn w.length ⟨a,k⟩) (hc:c∈vctors w ⟨a,k⟩) (hn:n≤100) (hb:∀s,f s≤100000) (hin:∀u∈argsOf w ⟨a,k⟩ c,InS n u):
  FnD Tryz.prog 83 [.d (encDatas w),.ms 70 n,.agg [.d (.i a),.d (.i k)],.d (.i c)] [(70,some (.box (tabC n f)))] (.d (.i (most w f ⟨a,k⟩ c))) []:=by
 have hl:=argsOf_small hw ht hc
 have hd:=dv_bd hb (by omega)
 refine bd Tryz.f83 37 [] [] fun w0 F0 own kept hk=>?_
 refine Walk.box (id:=3006) .none rfl rfl rfl (by first|rfl|(simp only[freshB,occH,occE,Res.ids,List.cons_append,List.nil_append,AV.idsL,AV.ids,idsL_append,ownCells_ids,zerosA_idsR,repNil,List.map_cons,List.map_nil,upC,tab_ids];rfl)) (by first|rfl|(simp only[freshB,occH,occE,Res.ids,List.cons_append,List.nil_append,AV.idsL,AV.ids,idsL_append,ownCells_ids,zerosA_idsR,repNil,List.map_cons,List.map_nil,upC,tab_ids];rfl)) (by first|rfl|(simp only[freshB,occH,occE,Res.ids,List.cons_append,List.nil_append,AV.idsL,AV.ids,idsL_append,ownCells_ids,zerosA_idsR,repNil,List.map_cons,List.map_nil,upC,tab_ids];rfl)) (by first|rfl|(simp only[freshB,occH,occE,Res.ids,List.cons_append,List.nil_append,AV.idsL,AV.ids,idsL_append,ownCells_ids,zerosA_idsR,repNil,List.map_cons,List.map_nil,upC,tab_ids];rfl)) ?_
 refine ev ?_
 refine Walk.call (cr:=[]) cal73 (spec_l1Args_v hw ht hc) rfl .none rfl rfl (LeL.refl _) trivial rfl (by first|rfl|(simp only[okCall,List.all_cons,List.all_nil,entOK,entOK',AV.idsL,AV.ids,idsL_append,ownCells_ids,List.map_cons,List.map_nil,tab_ids];rfl)) (by first|rfl|(simp only[freshB,occH,occE,Res.ids,List.cons_append,List.nil_append,AV.idsL,AV.ids,idsL_append,ownCells_ids,zerosA_idsR,repNil,List.map_cons,List.map_nil,upC,tab_ids];rfl)) ?_
 refine ev ?_
 refine CWp.loopX (ι:=List (Ty)×List (Ty)×(Nat)) hk (fun x=>[(11,.d (.i (x.1.length:Int))),(10,.d (.i (x.2.2:Int)))]) [8,12,17,18,19,20,21,22,23,24,25,26,27,28,29,30,31,32,33,34] (fun x=>[]) (fun x=>x.1++x.2.1=argsOf w ⟨a,k⟩ c∧x.2.2≤100000∧mostL f x.2.2 x.2.1=mostL f 0 (argsOf w ⟨a,k⟩ c)) (fun x=>x.2.1.length) ([],argsOf w ⟨a,k⟩ c,0) ⟨by simp,by simp,rfl⟩ ⟨⟨_,rfl,(LeA.eqi (by first|rfl|(simp;done)|omega|(dsimp only;omega)))⟩,⟨⟨_,rfl,(LeA.eqi (by first|rfl|(simp;done)|omega|(dsimp only;omega)))⟩,trivial⟩⟩ trivial (fun x=>rfl) (fun x hg1=>?_)
 obtain⟨pre,rest,m⟩:=x
 dsimp only at hg1 ⊢
 refine evc [] [] ?_
 refine sq (fun h1 h1p h1s=>?_) fun h1 h1p h1s=>?_
 ·try simp only[Q] at h1p
  rcases rest with _|⟨y,rest⟩
  ·exfalso;simp_all
  have hdy:=hd y;have hye:dv f ⟨y.data,y.index⟩=dv f y:=rfl
  refine Walk.idx sl102 .none rfl rfl rfl rfl (zip_at hg1.1) rfl ?_
  refine ev ?_
  refine Walk.call (cr:=[]) cal59 (spec_l1Depth_ms (f:=f) (a:=y.data) (k:=y.index) (hin y (by rw[←hg1.1];simp)) hn) rfl .none rfl rfl (.cons (LeA.msn (by first|rfl|(simp;done))) (.cons (.refl _) .nil)) ⟨rfl,trivial⟩ rfl (by first|rfl|(simp only[okCall,List.all_cons,List.all_nil,entOK,entOK',AV.idsL,AV.ids,idsL_append,ownCells_ids,List.map_cons,List.map_nil,tab_ids];rfl)) (by first|rfl|(simp only[freshB,occH,occE,Res.ids,List.cons_append,List.nil_append,AV.idsL,AV.ids,idsL_append,ownCells_ids,zerosA_idsR,repNil,List.map_cons,List.map_nil,upC,tab_ids];rfl)) ?_
  refine ev ?_
  refine sq (fun h2 h2p h2s=>?_) fun h2 h2p h2s=>?_
  ·try simp only[Q] at h2p
   refine rn [] (r1 rfl) (.eqd ?_) ⟨rfl,rfl⟩ (SubH.get ⟨rfl,trivial⟩) (fun _ h=>h)
   all_goals (refine congrArg D.i ?_;unfold most;rw[←hg1.2.2];first|(simp only[mostL];rw[if_pos (by omega)];rfl)|(simp only[mostL];omega))
  ·try simp only[Q] at h2p
   refine sq (fun h3 h3p h3s=>?_) fun h3 h3p h3s=>?_
   ·try simp only[Q] at h3p
    refine ar ?_
    refine Exists.intro ((pre++[y],rest,max m (dv f y))) ⟨⟨(by have hz:=hg1.1;rw[←hz];simp),⟨(by have:=hd y;dsimp only;omega),(by rw[←hg1.2.2];simp only[mostL];rw[if_neg (by have:=hd y;omega)])⟩⟩,(by simp),Sub.x (by kernel_rfl) (by kernel_rfl) ⟨⟨_,rfl,(LeA.eqi (by first|rfl|(simp;done)|omega|(dsimp only;omega)))⟩,⟨⟨_,rfl,(LeA.eqi (by first|rfl|(simp;done)|omega|(dsimp only;omega)))⟩,trivial⟩⟩ (by kernel_rfl) (by kernel_rfl) trivial⟩
   ·try simp only[Q] at h3p
    refine ar ?_
    refine Exists.intro ((pre++[y],rest,max m (dv f y))) ⟨⟨(by have hz:=hg1.1;rw[←hz];simp),⟨(by have:=hd y;dsimp only;omega),(by rw[←hg1.2.2];simp only[mostL];rw[if_neg (by have:=hd y;omega)])⟩⟩,(by simp),Sub.x (by kernel_rfl) (by kernel_rfl) ⟨⟨_,rfl,(LeA.eqi (by first|rfl|(simp;done)|omega|(dsimp only;omega)))⟩,⟨⟨_,rfl,(LeA.eqi (by first|rfl|(simp;done)|omega|(dsimp only;omega)))⟩,trivial⟩⟩ (by kernel_rfl) (by kernel_rfl) trivial⟩
 ·try simp only[Q] at h1p
  have hrest:rest=[]:=by
   rcases rest with _|⟨a,b⟩
   ·rfl
   ·exfalso;have hz:=congrArg List.length (hg1.1);simp only[List.length_append,List.length_cons,List.length_map] at hz;omega
  subst hrest
  refine ar ?_
  refine rn [] (r1 rfl) (.eqd ?_) ⟨rfl,rfl⟩ (SubH.get ⟨rfl,trivial⟩) (fun _ h=>h)
  all_goals (refine congrArg D.i ?_;unfold most;rw[←hg1.2.2];first|(simp only[mostL];rw[if_pos (by omega)];rfl)|(simp only[mostL];omega))
structure Dp (w:List Data):Prop where
 wt:WT w
 cl:ClosedT w
 four:w.length≤4
 ct:∀s,s<w.length*4→(ctorsOf w (tyS s)).length≤4
def midT (w:List Data) (k s:Nat):Nat→Nat:=(List.range s).foldl (stepS w) (iterT w k)
def rowT (w:List Data) (k s:Nat) (pre:List Int):Nat→Nat:=pre.foldl (relax w s) (midT w k s)
theorem midT_next {w:List Data}{k s:Nat}:rowT w k s (ctorsOf w (tyS s))=midT w k (s+1):=by
 unfold rowT midT;rw[List.range_succ,List.foldl_append];rfl
theorem rowT_next {w:List Data}{k s:Nat}{pre:List Int}{c:Int}:rowT w k s (pre++[c])=relax w s (rowT w k s pre) c:=by
 unfold rowT;rw[List.foldl_append];rfl
theorem rowT_bd {w:List Data} (hd:Dp w){k s:Nat} (hk:k≤20) (hs:s≤w.length*4){pre:List Int} (hp:pre.length≤4) (i:Nat):rowT w k s pre i≤100000:=by
 have h4:=hd.four
 have h1:=iter_bd (w:=w) (m:=4) hd.ct k
 have h2:=steps_bd (w:=w) (m:=4) (List.range s) (iterT w k) _ (fun x hx=>hd.ct x (by have:=List.mem_range.1 hx;omega)) h1 (by omega)
 have h3:=row_bd (w:=w) (s:=s) pre (midT w k s) _ h2 (by omega) i
 have e1:k*(w.length*4*4)≤20*(4*4*4):=Nat.mul_le_mul hk (by omega)
 rw[List.length_range] at h3
 show pre.foldl (relax w s) (midT w k s) i≤100000
 omega
theorem tyS_in {w:List Data}{s:Nat} (h:s<w.length*4):TyIn w.length (tyS s):= .inr ⟨s / 4,rfl,by omega⟩
theorem vctors_S {w:List Data}{s:Nat}:vctors w (tyS s)=ctorsOf w (tyS s):=by unfold vctors;rw[if_neg (tyS_data s)]
theorem zerosA_snoc (m:Nat):zerosA (m+1) [.d (.i 0)]=zerosA m [.d (.i 0)]++[AV.d (.i 0)]:=by
 induction m with
 |zero=>rfl
 |succ m ihm=>
  show [AV.d (.i 0)]++zerosA (m+1) [.d (.i 0)]=([AV.d (.i 0)]++zerosA m [.d (.i 0)])++[AV.d (.i 0)]
  rw[ihm,List.append_assoc]
theorem zeros_tab (n:Nat):zerosA n [.d (.i 0)]=tabC n (fun _=>0):=by
 unfold tabC
 induction n with
 |zero=>rfl
 |succ n ih=>rw[zerosA_snoc,ih,List.range_succ,List.map_append];rfl
theorem relax_pos {w:List Data}{s:Nat}{f:Nat→Nat}{c:Int} (h:decide ((0:Int)<(most w f (tyS s) c:Int)∧((f s:Int)=0∨(most w f (tyS s) c:Int)<(f s:Int)))=true):relax w s f c=updF f s (most w f (tyS s) c):=by
 rw[decide_eq_true_eq] at h
 unfold relax;rw[if_pos (by omega)]
theorem relax_neg {w:List Data}{s:Nat}{f:Nat→Nat}{c:Int} (h:decide ((0:Int)<(most w f (tyS s) c:Int)∧((f s:Int)=0∨(most w f (tyS s) c:Int)<(f s:Int)))=false):relax w s f c=f:=by
 rw[decide_eq_false_iff_not] at h
 unfold relax;rw[if_neg (by omega)]
theorem spec_l1Ctors_s {w:List Data} (hw:WT w){s:Nat} (hs:s<w.length*4):FnD Tryz.prog 72 [.d (encDatas w),.agg [.d (.i ((s:Int) / 4)),.d (.i ((s:Int) % 4))]] [] (.d (encInts (ctorsOf w (tyS s)))) []:=by
 rw[←vctors_S];exact spec_l1Ctors_v hw (tyS_in hs)
theorem spec_l1Most_s {w:List Data} (hd:Dp w){f:Nat→Nat}{s:Nat}{c:Int} (hs:s<w.length*4) (hc:c∈ctorsOf w (tyS s)) (hb:∀s,f s≤100000):
  FnD Tryz.prog 83 [.d (encDatas w),.ms 70 (w.length*4),.agg [.d (.i ((s:Int) / 4)),.d (.i ((s:Int) % 4))],.d (.i c)] [(70,some (.box (tabC (w.length*4) f)))] (.d (.i (most w f (tyS s) c))) []:=
 have h4:=hd.four
 spec_l1Most_ms (a:=(tyS s).data) (k:=(tyS s).index) hd.wt (tyS_in hs) (by rw[←vctors_S] at hc;exact hc) (by omega) hb (fun u hu=>hd.cl s hs c hc u hu)
theorem spec_l1Table_fn {w:List Data} (hd:Dp w):FnD Tryz.prog 58 [.d (encDatas w)] [] (.d (encTab (w.length*4) (depthT w))) []:=by
 have hw:=hd.wt
 have h4:=hd.four
 refine bd Tryz.f58 70 [27,29,54,61] [14,999999] fun w0 F0 own kept hk=>?_
 refine ar ?_
 refine Walk.make (id:=70) (m:=w.length*4) sl75 tz3 rfl (by decide) (zerosA_ids rfl) .none rfl (congrArg (fun z:Int=>some (AV.d (D.i z))) (by simp:((w.map Data.c).length:Int)*4=((w.length*4:Nat):Int))) (congrArg (fun z:Int=>some (AV.d (D.i z))) (by simp:((w.map Data.c).length:Int)*4=((w.length*4:Nat):Int))) (by omega) (by omega) (by first|rfl|(simp only[freshB,occH,occE,Res.ids,List.cons_append,List.nil_append,AV.idsL,AV.ids,idsL_append,ownCells_ids,zerosA_idsR,repNil,List.map_cons,List.map_nil,upC,tab_ids];rfl)) (by first|rfl|(simp only[freshB,occH,occE,Res.ids,List.cons_append,List.nil_append,AV.idsL,AV.ids,idsL_append,ownCells_ids,zerosA_idsR,repNil,List.map_cons,List.map_nil,upC,tab_ids];rfl)) (by first|rfl|(simp only[freshB,occH,occE,Res.ids,List.cons_append,List.nil_append,AV.idsL,AV.ids,idsL_append,ownCells_ids,zerosA_idsR,repNil,List.map_cons,List.map_nil,upC,tab_ids];rfl)) ?_
 refine evs [27,29,54,61] [] ?_
 refine CWp.loopX (ι:=Nat) hk (fun n=>[(4,.d (.i (n:Int)))]) [5,6,7,8,9,14,15,16,17,18,19,20,21,22,23,24,25,26,27,28,29,30,31,32,33,34,35,36,37,38,39,40,41,42,43,44,45,46,47,48,49,50,51,52,53,54,55,56,57,58,59,60,61,62,63,64,65,66,67,68] (fun n=>[(70,some (.box (tabC (w.length*4) (iterT w n))))]) (fun n=>n≤w.length*4+1) (fun n=>w.length*4+1-n) 0 (by simp) ⟨⟨_,rfl,(LeA.eqi (by first|rfl|(simp;done)|(simp_all;done)|omega))⟩,trivial⟩ ⟨(by first|rfl|(show some (Res.box _)=some (Res.box _);rw[zeros_tab];rfl)|(have e:s=w.length*4:=(by omega);rw[e];rfl)),trivial⟩ (fun x=>rfl) (fun n hg1=>?_)
 refine evc [27,29,54,61] [14,999999] ?_
 refine sq (fun h1 h1p h1s=>?_) fun h1 h1p h1s=>?_
 ·try simp only[Q] at h1p
  refine CWp.loopX (ι:=Nat) hk (fun s=>[(5,.d (.i (s:Int)))]) [6,7,8,9,20,21,22,23,24,25,26,27,28,29,30,31,32,33,34,35,36,37,38,39,40,41,42,43,44,45,46,47,48,49,50,51,52,53,54,55,56,57,58,59,60,61,62,63,64,65,66,67,68] (fun s=>[(70,some (.box (tabC (w.length*4) (midT w n s))))]) (fun s=>s≤w.length*4) (fun s=>w.length*4-s) 0 (by simp) ⟨⟨_,rfl,(LeA.eqi (by first|rfl|(simp;done)|(simp_all;done)|omega))⟩,trivial⟩ ⟨(by first|rfl|(show some (Res.box _)=some (Res.box _);rw[←midT_next,←hg3,List.append_nil])),trivial⟩ (fun x=>rfl) (fun s hg2=>?_)
  refine evc [27,29,54,61] [14,999999] ?_
  refine sq (fun h2 h2p h2s=>?_) fun h2 h2p h2s=>?_
  ·try simp only[Q] at h2p
   refine Walk.quoI .none rfl rfl rfl (by omega) ?_
   refine evs [27,29,54,61] [] ?_
   refine Walk.remI .none rfl rfl rfl (by omega) ?_
   refine Walk.build st25 (ks:=[0,1]) (xs:=[_,_]) rfl rfl .none rfl rfl rfl ?_
   refine Walk.alloc (id:=3006) tz25 rfl .none rfl (by first|rfl|(simp only[freshB,occH,occE,Res.ids,List.cons_append,List.nil_append,AV.idsL,AV.ids,idsL_append,ownCells_ids,zerosA_idsR,repNil,List.map_cons,List.map_nil,upC,tab_ids];rfl)) (by first|rfl|(simp only[freshB,occH,occE,Res.ids,List.cons_append,List.nil_append,AV.idsL,AV.ids,idsL_append,ownCells_ids,zerosA_idsR,repNil,List.map_cons,List.map_nil,upC,tab_ids];rfl)) (by first|rfl|(simp only[freshB,occH,occE,Res.ids,List.cons_append,List.nil_append,AV.idsL,AV.ids,idsL_append,ownCells_ids,zerosA_idsR,repNil,List.map_cons,List.map_nil,upC,tab_ids];rfl)) ?_
   refine Walk.store ty25 .none rfl rfl rfl rfl rfl rfl (by simp) rfl ?_
   refine tv ?_
   refine Walk.call (cr:=[]) cal72 (spec_l1Ctors_s hw (s:=s) (by omega)) rfl .none rfl rfl (LeL.refl _) trivial rfl (by first|rfl|(simp only[okCall,List.all_cons,List.all_nil,entOK,entOK',AV.idsL,AV.ids,idsL_append,ownCells_ids,List.map_cons,List.map_nil,tab_ids];rfl)) (by first|rfl|(simp only[freshB,occH,occE,Res.ids,List.cons_append,List.nil_append,AV.idsL,AV.ids,idsL_append,ownCells_ids,zerosA_idsR,repNil,List.map_cons,List.map_nil,upC,tab_ids];rfl)) ?_
   refine evs [27,29,54,61] [] ?_
   refine CWp.loopX (ι:=List (Int)×List (Int)) hk (fun x=>[(8,.d (.i (x.1.length:Int)))]) [9,34,35,36,37,38,39,40,41,42,43,44,45,46,47,48,49,50,51,52,53,54,55,56,57,58,59,60,61,62,63,64,65,66,67,68] (fun x=>[(70,some (.box (tabC (w.length*4) (rowT w n s x.1))))]) (fun x=>x.1++x.2=ctorsOf w (tyS s)) (fun x=>x.2.length) ([],ctorsOf w (tyS s)) (by simp) ⟨⟨_,rfl,(LeA.eqi (by first|rfl|(simp;done)|(simp_all;done)|omega))⟩,trivial⟩ ⟨(by first|rfl|(show some (Res.box _)=some (Res.box _);rw[rowT_next];first|(rw[relax_pos (by assumption)];done)|(rw[relax_neg (by assumption)];done))),trivial⟩ (fun x=>rfl) (fun x hg3=>?_)
   obtain⟨pre,rest⟩:=x
   dsimp only at hg3 ⊢
   have hct:=hd.ct s (by omega)
   refine evc [27,29,54,61] [14,999999] ?_
   refine sq (fun h3 h3p h3s=>?_) fun h3 h3p h3s=>?_
   ·try simp only[Q] at h3p
    rcases rest with _|⟨c,rest⟩
    ·exfalso;simp_all
    refine Walk.idx sl75 .none rfl rfl rfl rfl (zip_at hg3) rfl ?_
    refine evd [27,29,54,61] [] ?_
    refine Walk.call (cr:=[]) cal83 (spec_l1Most_s hd (f:=rowT w n s pre) (s:=s) (c:=c) (by omega) (by rw[←hg3];simp) (rowT_bd hd (by omega) (by omega) (by have:=hd.ct s (by omega);have hz:=congrArg List.length hg3;simp at hz;omega))) rfl .none rfl rfl (.cons (.refl _) (.cons (LeA.msn (by first|rfl|(simp;done))) (.cons (.refl _) (.cons (.refl _) .nil)))) ⟨rfl,trivial⟩ rfl (by first|rfl|(simp only[okCall,List.all_cons,List.all_nil,entOK,entOK',AV.idsL,AV.ids,idsL_append,ownCells_ids,List.map_cons,List.map_nil,tab_ids];rfl)) (by first|rfl|(simp only[freshB,occH,occE,Res.ids,List.cons_append,List.nil_append,AV.idsL,AV.ids,idsL_append,ownCells_ids,zerosA_idsR,repNil,List.map_cons,List.map_nil,upC,tab_ids];rfl)) ?_
    refine evd [27,29,54,61] [] ?_
    refine dr ?_
    refine CWp.regionJ ?_
    refine WRest.join 17 [(64,.d (.bool (decide ((0:Int)<(most w (rowT w n s pre) (tyS s) c:Int)∧((rowT w n s pre s:Int)=0∨(most w (rowT w n s pre) (tyS s) c:Int)<(rowT w n s pre s:Int))))))] [48,49,50,51,52,53,54,55,56,57,58,59,60,61,62,63] ?_ ?_
    ·
     refine evs [27,29,54,61] [] ?_
     refine sq (fun h4 h4p h4s=>?_) fun h4 h4p h4s=>?_
     ·try simp only[Q] at h4p
      refine Walk.idxM (i:=s) sl75 (.some rfl rfl h4) rfl rfl rfl rfl (by omega) ?_
      refine Walk.loadB ty3 (.some rfl rfl h4) rfl rfl rfl ((tab_get (s:=s) (by omega) (by omega))) ?_
      refine evs [27,29,54,61] [(50,true)] ?_ ⟨⟨_,rfl,h4⟩,trivial⟩
      refine sq (fun h5 h5p h5s=>?_) fun h5 h5p h5s=>?_
      ·try simp only[Q] at h5p
       exact jnb rfl
      ·try simp only[Q] at h5p
       refine Walk.idxM (i:=s) sl75 (.some rfl rfl h5) rfl rfl rfl rfl (by omega) ?_
       refine Walk.loadB ty3 (.some rfl rfl h5) rfl rfl rfl ((tab_get (s:=s) (by omega) (by omega))) ?_
       refine evs [27,29,54,61] [(50,true),(56,false)] ?_ ⟨⟨_,rfl,h4⟩,⟨_,rfl,h5⟩,trivial⟩
       exact jnb rfl
     ·try simp only[Q] at h4p
      exact jnb rfl
    refine WRest.done ?_
    refine tv ?_
    refine sq (fun h6 h6p h6s=>?_) fun h6 h6p h6s=>?_
    ·try simp only[Q] at h6p
     refine Walk.idxM (i:=s) sl75 .none rfl rfl rfl rfl (by omega) ?_
     refine Walk.store ty3 .none rfl rfl rfl rfl rfl rfl (by simp) ((tab_put (s:=s) (v:=most w (rowT w n s pre) (tyS s) c) (by omega) (by omega) rfl)) ?_
     refine tv ?_
     refine ar ?_
     refine Exists.intro ((pre++[c],rest)) ⟨(by have hz:=hg3;rw[←hz];simp),(by simp),Sub.x (by kernel_rfl) (by kernel_rfl) ⟨⟨_,rfl,(LeA.eqi (by first|rfl|(simp;done)|(simp_all;done)|omega))⟩,trivial⟩ (by kernel_rfl) (by kernel_rfl) ⟨(by first|rfl|(show some (Res.box _)=some (Res.box _);rw[rowT_next];first|(rw[relax_pos (by assumption)];done)|(rw[relax_neg (by assumption)];done))),trivial⟩⟩
    ·try simp only[Q] at h6p
     refine ar ?_
     refine Exists.intro ((pre++[c],rest)) ⟨(by have hz:=hg3;rw[←hz];simp),(by simp),Sub.x (by kernel_rfl) (by kernel_rfl) ⟨⟨_,rfl,(LeA.eqi (by first|rfl|(simp;done)|(simp_all;done)|omega))⟩,trivial⟩ (by kernel_rfl) (by kernel_rfl) ⟨(by first|rfl|(show some (Res.box _)=some (Res.box _);rw[rowT_next];first|(rw[relax_pos (by assumption)];done)|(rw[relax_neg (by assumption)];done))),trivial⟩⟩
   ·try simp only[Q] at h3p
    have hrest:rest=[]:=by
     rcases rest with _|⟨a,b⟩
     ·rfl
     ·exfalso;have hz:=congrArg List.length (hg3);simp only[List.length_append,List.length_cons,List.length_map] at hz;omega
    subst hrest
    refine ar ?_
    refine Exists.intro (s+1) ⟨(by omega),(by omega),Sub.x (by kernel_rfl) (by kernel_rfl) ⟨⟨_,rfl,(LeA.eqi (by first|rfl|(simp;done)|(simp_all;done)|omega))⟩,trivial⟩ (by kernel_rfl) (by kernel_rfl) ⟨(by first|rfl|(show some (Res.box _)=some (Res.box _);rw[←midT_next,←hg3,List.append_nil])),trivial⟩⟩
  ·try simp only[Q] at h2p
   refine ar ?_
   refine Exists.intro (n+1) ⟨(by omega),(by omega),Sub.x (by kernel_rfl) (by kernel_rfl) ⟨⟨_,rfl,(LeA.eqi (by first|rfl|(simp;done)|(simp_all;done)|omega))⟩,trivial⟩ (by kernel_rfl) (by kernel_rfl) ⟨(by first|rfl|(show some (Res.box _)=some (Res.box _);rw[zeros_tab];rfl)|(have e:s=w.length*4:=(by omega);rw[e];rfl)),trivial⟩⟩
 ·try simp only[Q] at h1p
  refine CWp.frz hk 2 70 _ _ rfl rfl chunk_tab rfl ?_
  refine CWp.ret ?_
  refine rn0 (r1 rfl) (.eqd ?_)
  all_goals (first|rfl|(have e:n=w.length*4+1:=(by omega);rw[e];rfl))
theorem valid_wt {w:List Data} (hs:WSmall w) (hv:worldValid w=true):WT w:=WV.wt hs ((worldValid_iff w).1 hv)
end Go.Proofs.YtflgpdjbgfkhoaaGreat
namespace Go.Proofs.YtflgpdjbgfkhoaaGreat
open Go
set_option linter.unusedSimpArgs false
set_option linter.unusedVariables false
set_option maxRecDepth 100000
set_option maxHeartbeats 4000000
theorem impl_only_fn {p:Pat}{b1 b2 b3:Bool}{k:Int}:FnD Tryz.prog 126 [.agg [.d (.i p.op),.d (.i p.ctor),.d (.i p.n),.d (.i p.m),.d (.i p.var),.d (encPats p.kids)],.d (.bool b1),.d (.bool b2),.d (.bool b3),.d (.i k)] []
  (.d (.bool (decide ((b1=true∨p.ctor=0)∧(b2=true∨p.n=0∧p.m=0)∧(b3=true∨p.var=0)∧(p.kids.length:Int)=k)))) []:=by
 refine bd Tryz.f126 45 [] [1] fun w0 F0 own kept hk=>?_
 refine Walk.box (id:=3005) .none rfl rfl rfl rfl rfl rfl rfl ?_
 refine ev ?_
 refine CWp.regionJ ?_
 refine WRest.join 6 [(16,.d (.bool (decide (b1=true∨p.ctor=0))))] [11,12,13,14,15] ?_ ?_
 ·
  refine ev ?_
  refine sq (fun h1 h1p h1s=>?_) fun h1 h1p h1s=>?_
  ·try simp only[Q,Pat.cs_len] at h1p
   exact jn rfl (LeA.eqb (by((rw[Bool.eq_iff_iff];simp_all[Pat.cs_len];done))))
  ·try simp only[Q,Pat.cs_len] at h1p
   exact jn rfl (LeA.eqb (by((rw[Bool.eq_iff_iff];simp_all[Pat.cs_len];done))))
 refine WRest.join 13 [(29,.d (.bool (decide ((b1=true∨p.ctor=0)∧(b2=true∨p.n=0∧p.m=0)))))] [17,18,19,20,21,22,23,24,25,26,27,28] ?_ ?_
 ·
  refine ev ?_
  refine sq (fun h2 h2p h2s=>?_) fun h2 h2p h2s=>?_
  ·try simp only[Q,Pat.cs_len] at h2p
   refine sq (fun h3 h3p h3s=>?_) fun h3 h3p h3s=>?_
   ·try simp only[Q,Pat.cs_len] at h3p
    exact jn rfl (LeA.eqb (by((rw[Bool.eq_iff_iff];simp_all[Pat.cs_len];done))))
   ·try simp only[Q,Pat.cs_len] at h3p
    refine sq (fun h4 h4p h4s=>?_) fun h4 h4p h4s=>?_
    ·try simp only[Q,Pat.cs_len] at h4p
     exact jn rfl (LeA.eqb (by((rw[Bool.eq_iff_iff];simp_all[Pat.cs_len];done))))
    ·try simp only[Q,Pat.cs_len] at h4p
     exact jn rfl (LeA.eqb (by((rw[Bool.eq_iff_iff];simp_all[Pat.cs_len];done))))
  ·try simp only[Q,Pat.cs_len] at h2p
   exact jn rfl (LeA.eqb (by((rw[Bool.eq_iff_iff];simp_all[Pat.cs_len];done))))
 refine WRest.join 8 [(37,.d (.bool (decide ((b1=true∨p.ctor=0)∧(b2=true∨p.n=0∧p.m=0)∧(b3=true∨p.var=0)))))] [30,31,32,33,34,35,36] ?_ ?_
 ·
  refine ev ?_
  refine sq (fun h5 h5p h5s=>?_) fun h5 h5p h5s=>?_
  ·try simp only[Q,Pat.cs_len] at h5p
   refine sq (fun h6 h6p h6s=>?_) fun h6 h6p h6s=>?_
   ·try simp only[Q,Pat.cs_len] at h6p
    exact jn rfl (LeA.eqb (by((rw[Bool.eq_iff_iff];simp_all[Pat.cs_len];done))))
   ·try simp only[Q,Pat.cs_len] at h6p
    exact jn rfl (LeA.eqb (by((rw[Bool.eq_iff_iff];simp_all[Pat.cs_len];done))))
  ·try simp only[Q,Pat.cs_len] at h5p
   exact jn rfl (LeA.eqb (by((rw[Bool.eq_iff_iff];simp_all[Pat.cs_len];done))))
 refine WRest.join 7 [(44,.d (.bool (decide ((b1=true∨p.ctor=0)∧(b2=true∨p.n=0∧p.m=0)∧(b3=true∨p.var=0)∧(p.kids.length:Int)=k))))] [38,39,40,41,42,43] ?_ ?_
 ·
  refine ev ?_
  refine sq (fun h7 h7p h7s=>?_) fun h7 h7p h7s=>?_
  ·try simp only[Q,Pat.cs_len] at h7p
   exact jn rfl (LeA.eqb (by((rw[Bool.eq_iff_iff];simp_all[Pat.cs_len];done))))
  ·try simp only[Q,Pat.cs_len] at h7p
   exact jn rfl (LeA.eqb (by((rw[Bool.eq_iff_iff];simp_all[Pat.cs_len];done))))
 refine WRest.done ?_
 refine ev ?_
 refine rn0 (r1 rfl) (.eqd ?_)
 all_goals (rfl)
theorem impl_only_a {p:Pat}{k:Int}:FnD Tryz.prog 126 [.agg [.d (.i p.op),.d (.i p.ctor),.d (.i p.n),.d (.i p.m),.d (.i p.var),.d (encPats p.kids)],.d (.bool false),.d (.bool false),.d (.bool false),.d (.i k)] []
  (.d (.bool (decide (p.ctor=0∧(p.n=0∧p.m=0)∧p.var=0∧(p.kids.length:Int)=k)))) []:=by
 have:=impl_only_fn (p:=p) (b1:=false) (b2:=false) (b3:=false) (k:=k)
 simpa only[Bool.false_eq_true,false_or] using this
theorem impl_only_v {p:Pat}{k:Int}:FnD Tryz.prog 126 [.agg [.d (.i p.op),.d (.i p.ctor),.d (.i p.n),.d (.i p.m),.d (.i p.var),.d (encPats p.kids)],.d (.bool false),.d (.bool false),.d (.bool true),.d (.i k)] []
  (.d (.bool (decide (p.ctor=0∧(p.n=0∧p.m=0)∧(p.kids.length:Int)=k)))) []:=by
 have:=impl_only_fn (p:=p) (b1:=false) (b2:=false) (b3:=true) (k:=k)
 simpa only[Bool.false_eq_true,false_or,true_or,true_and] using this
theorem impl_only_n {p:Pat}{k:Int}:FnD Tryz.prog 126 [.agg [.d (.i p.op),.d (.i p.ctor),.d (.i p.n),.d (.i p.m),.d (.i p.var),.d (encPats p.kids)],.d (.bool false),.d (.bool true),.d (.bool false),.d (.i k)] []
  (.d (.bool (decide (p.ctor=0∧p.var=0∧(p.kids.length:Int)=k)))) []:=by
 have:=impl_only_fn (p:=p) (b1:=false) (b2:=true) (b3:=false) (k:=k)
 simpa only[Bool.false_eq_true,false_or,true_or,true_and] using this
theorem impl_only_c {p:Pat}{k:Int}:FnD Tryz.prog 126 [.agg [.d (.i p.op),.d (.i p.ctor),.d (.i p.n),.d (.i p.m),.d (.i p.var),.d (encPats p.kids)],.d (.bool true),.d (.bool false),.d (.bool false),.d (.i k)] []
  (.d (.bool (decide ((p.n=0∧p.m=0)∧p.var=0∧(p.kids.length:Int)=k)))) []:=by
 have:=impl_only_fn (p:=p) (b1:=true) (b2:=false) (b3:=false) (k:=k)
 simpa only[Bool.false_eq_true,false_or,true_or,true_and] using this
theorem impl_isVar_fn {v:Int}:FnD Tryz.prog 127 [.d (.i v)] [] (.d (.bool (within v 0 5))) []:=by
 refine bd Tryz.f127 5 [] [] fun w0 F0 own kept hk=>?_
 refine Walk.call (cr:=[]) cal62 (impl_within_fn) rfl .none rfl rfl (LeL.refl _) trivial rfl rfl rfl ?_
 refine ev ?_
 refine rn0 (r1 rfl) (.eqd ?_)
 all_goals (rfl)
theorem impl_ctorsOf_v {w:List Data} (hw:WT w){a k:Int} (ht:TyIn w.length ⟨a,k⟩):FnD Tryz.prog 64 [.d (encDatas w),.agg [.d (.i a),.d (.i k)]] [] (.d (encInts (vctors w ⟨a,k⟩))) []:=by
 rcases ht with ha|⟨d,hd,hlt⟩
 ·simp only at ha;subst ha;rw[vctors_int];exact impl_ctorsOf_int_fn
 ·simp only at hd;subst hd;rw[vctors_in];exact impl_ctorsOf_in hw hlt
theorem impl_argTypes_v {w:List Data} (hw:WT w){a k c:Int} (ht:TyIn w.length ⟨a,k⟩) (hc:c∈vctors w ⟨a,k⟩):FnD Tryz.prog 65 [.d (encDatas w),.agg [.d (.i a),.d (.i k)],.d (.i c)] [] (.d (encTys (argsOf w ⟨a,k⟩ c))) []:=by
 obtain⟨d,rfl,h1,h2⟩:=vctors_data ht hc
 exact impl_argTypes_in hw h1 h2
theorem impl_shape_fn {w:List Data} (hw:WT w){a k:Int}{p:Pat} (ht:TyIn w.length ⟨a,k⟩):
  FnD Tryz.prog 102 [.d (encDatas w),.agg [.d (.i a),.d (.i k)],.agg [.d (.i p.op),.d (.i p.ctor),.d (.i p.n),.d (.i p.m),.d (.i p.var),.d (encPats p.kids)]] [] (.tup [.d (encTys (shapeT w ⟨a,k⟩ p)),.d (.bool (okP w ⟨a,k⟩ p))]) []:=by
 have hcl:=vctors_len hw ht
 have ty4:p.op=4→p.ctor∉vctors w ⟨a,k⟩→shapeT w ⟨a,k⟩ p=[]:=fun h4 hm=>by unfold shapeT;rw[if_pos ⟨h4,hm⟩]
 have ty4':p.op=4→p.ctor∈vctors w ⟨a,k⟩→shapeT w ⟨a,k⟩ p=argsOf w ⟨a,k⟩ p.ctor:=fun h4 hm=>by unfold shapeT typesP;rw[if_neg (fun h=>h.2 hm),if_pos h4]
 have ty5:p.op=5→shapeT w ⟨a,k⟩ p=[⟨a,k⟩,⟨a,k⟩]:=fun h5=>by unfold shapeT typesP;rw[if_neg (by omega),if_neg (by omega),if_pos h5]
 have ty6:p.op=6→shapeT w ⟨a,k⟩ p=[⟨a,k⟩]:=fun h6=>by unfold shapeT typesP;rw[if_neg (by omega),if_neg (by omega),if_neg (by omega),if_pos h6]
 have ty0:¬p.op=4→¬p.op=5→¬p.op=6→shapeT w ⟨a,k⟩ p=[]:=fun h4 h5 h6=>by unfold shapeT typesP;rw[if_neg (fun h=>h4 h.1),if_neg h4,if_neg h5,if_neg h6]
 have ln4:p.op=4→(typesP w ⟨a,k⟩ p).length=(argsOf w ⟨a,k⟩ p.ctor).length:=fun h4=>by unfold typesP;rw[if_pos h4]
 have ln5:p.op=5→(typesP w ⟨a,k⟩ p).length=2:=fun h5=>by unfold typesP;rw[if_neg (by omega),if_pos h5];rfl
 have ln6:p.op=6→(typesP w ⟨a,k⟩ p).length=1:=fun h6=>by unfold typesP;rw[if_neg (by omega),if_neg (by omega),if_pos h6];rfl
 have ln0:¬p.op=4→¬p.op=5→¬p.op=6→(typesP w ⟨a,k⟩ p).length=0:=fun h4 h5 h6=>by unfold typesP;rw[if_neg h4,if_neg h5,if_neg h6];rfl
 have okI:∀b:Bool,(b=true↔((((p.op=2∨p.op=6)→0≤p.var∧p.var≤5)∧(¬(p.op=2∨p.op=6)→p.var=0)∧(p.op≠3→p.n=0∧p.m=0)∧(p.op≠4→p.ctor=0)∧
   (p.op=1∨p.op=2∨p.op=5∨p.op=6∨(p.op=3∧a = -1∧0≤p.n∧p.n≤p.m∧p.m≤9)∨(p.op=4∧p.ctor∈vctors w ⟨a,k⟩)))∧p.kids.length=(typesP w ⟨a,k⟩ p).length))→b=okP w ⟨a,k⟩ p:=fun b h=>by
  rw[Bool.eq_iff_iff,h];unfold okP ownP;simp only[Bool.and_eq_true,decide_eq_true_eq]
 by_cases hmem:p.ctor∈vctors w ⟨a,k⟩
 ·have hargs:=impl_argTypes_v hw ht hmem
  have hal:(argsOf w ⟨a,k⟩ p.ctor).length≤1000000000000:=by
   obtain⟨d,rfl,h1,h2⟩:=vctors_data ht hmem
   exact argsOf_len hw h1 h2
  simp only[hmem,and_true] at okI
  refine bd Tryz.f102 87 [] [5] fun w0 F0 own kept hk=>?_
  refine Walk.box (id:=3004) .none rfl rfl rfl rfl rfl rfl rfl ?_
  refine Walk.box (id:=3005) .none rfl rfl rfl rfl rfl rfl rfl ?_
  refine ev ?_
  refine sq (fun h1 h1p h1s=>?_) fun h1 h1p h1s=>?_
  ·try simp only[Q] at h1p
   refine Walk.call (cr:=[]) cal126 (impl_only_a) rfl .none rfl rfl (LeL.refl _) trivial rfl rfl rfl ?_
   refine ev ?_
   refine rn0 (r2 rfl rfl) (.tup (.cons (.nild ?_) (.cons (.eqd ?_) .nil)))
   all_goals (first|(refine congrArg D.bool (okI _ ?_);(try simp only[decide_eq_true_eq,Bool.false_eq_true,within,Bool.and_eq_true,List.length_map,true_iff,false_iff]);omega)|(rw[ty0 (by omega) (by omega) (by omega)];first|done|rfl)|(rw[ty5 (by omega)];first|done|rfl)|(rw[ty6 (by omega)];first|done|rfl)|(rw[ty4' (by omega) hmem];first|done|rfl))
  ·try simp only[Q] at h1p
   refine sq (fun h2 h2p h2s=>?_) fun h2 h2p h2s=>?_
   ·try simp only[Q] at h2p
    refine CWp.regionJ ?_
    refine WRest.join 7 [(23,.d (.bool (decide ((p.ctor=0∧(p.n=0∧p.m=0)∧(p.kids.length:Int)=0)∧0≤p.var∧p.var≤5))))] [17,18,19,20,21,22] ?_ ?_
    ·
     refine ev ?_
     refine Walk.call (cr:=[]) cal126 (impl_only_v) rfl .none rfl rfl (LeL.refl _) trivial rfl rfl rfl ?_
     refine ev ?_
     refine sq (fun h3 h3p h3s=>?_) fun h3 h3p h3s=>?_
     ·try simp only[Q] at h3p
      refine Walk.call (cr:=[]) cal127 (impl_isVar_fn) rfl (.some rfl rfl h3) rfl rfl (LeL.refl _) trivial rfl rfl rfl ?_
      refine evs [] [(19,true)] ?_ ⟨⟨_,rfl,h3⟩,trivial⟩
      exact jn rfl (LeA.eqb (by(rw[Bool.eq_iff_iff];simp only[decide_eq_true_eq,within,Bool.and_eq_true,Bool.false_eq_true,false_iff,true_iff];omega)))
     ·try simp only[Q] at h3p
      exact jn rfl (LeA.eqb (by(rw[Bool.eq_iff_iff];simp only[decide_eq_true_eq,within,Bool.and_eq_true,Bool.false_eq_true,false_iff,true_iff];omega)))
    refine WRest.done ?_
    refine ev ?_
    refine rn0 (r2 rfl rfl) (.tup (.cons (.nild ?_) (.cons (.eqd ?_) .nil)))
    all_goals (first|(refine congrArg D.bool (okI _ ?_);(try simp only[decide_eq_true_eq,Bool.false_eq_true,within,Bool.and_eq_true,List.length_map,true_iff,false_iff]);omega)|(rw[ty0 (by omega) (by omega) (by omega)];first|done|rfl)|(rw[ty5 (by omega)];first|done|rfl)|(rw[ty6 (by omega)];first|done|rfl)|(rw[ty4' (by omega) hmem];first|done|rfl))
   ·try simp only[Q] at h2p
    refine sq (fun h4 h4p h4s=>?_) fun h4 h4p h4s=>?_
    ·try simp only[Q] at h4p
     refine sq (fun h5 h5p h5s=>?_) fun h5 h5p h5s=>?_
     ·try simp only[Q] at h5p
      refine Walk.call (cr:=[]) cal126 (impl_only_n) rfl (.some rfl rfl h5) rfl rfl (LeL.refl _) trivial rfl rfl rfl ?_
      refine evd [] [(29,true)] ?_ ⟨⟨_,rfl,h5⟩,trivial⟩
      refine sq (fun h6 h6p h6s=>?_) fun h6 h6p h6s=>?_
      ·try simp only[Q] at h6p
       refine sq (fun h7 h7p h7s=>?_) fun h7 h7p h7s=>?_
       ·try simp only[Q] at h7p
        refine sq (fun h8 h8p h8s=>?_) fun h8 h8p h8s=>?_
        ·try simp only[Q] at h8p
         refine dr ?_
         refine rn0 (r2 rfl rfl) (.tup (.cons (.nild ?_) (.cons (.eqd ?_) .nil)))
         all_goals (first|(refine congrArg D.bool (okI _ ?_);(try simp only[decide_eq_true_eq,Bool.false_eq_true,within,Bool.and_eq_true,List.length_map,true_iff,false_iff]);omega)|(rw[ty0 (by omega) (by omega) (by omega)];first|done|rfl)|(rw[ty5 (by omega)];first|done|rfl)|(rw[ty6 (by omega)];first|done|rfl)|(rw[ty4' (by omega) hmem];first|done|rfl))
        ·try simp only[Q] at h8p
         refine dr ?_
         refine rn0 (r2 rfl rfl) (.tup (.cons (.nild ?_) (.cons (.eqd ?_) .nil)))
         all_goals (first|(refine congrArg D.bool (okI _ ?_);(try simp only[decide_eq_true_eq,Bool.false_eq_true,within,Bool.and_eq_true,List.length_map,true_iff,false_iff]);omega)|(rw[ty0 (by omega) (by omega) (by omega)];first|done|rfl)|(rw[ty5 (by omega)];first|done|rfl)|(rw[ty6 (by omega)];first|done|rfl)|(rw[ty4' (by omega) hmem];first|done|rfl))
       ·try simp only[Q] at h7p
        refine sqF ?_
        refine dr ?_
        refine rn0 (r2 rfl rfl) (.tup (.cons (.nild ?_) (.cons (.eqd ?_) .nil)))
        all_goals (first|(refine congrArg D.bool (okI _ ?_);(try simp only[decide_eq_true_eq,Bool.false_eq_true,within,Bool.and_eq_true,List.length_map,true_iff,false_iff]);omega)|(rw[ty0 (by omega) (by omega) (by omega)];first|done|rfl)|(rw[ty5 (by omega)];first|done|rfl)|(rw[ty6 (by omega)];first|done|rfl)|(rw[ty4' (by omega) hmem];first|done|rfl))
      ·try simp only[Q] at h6p
       refine sqF ?_
       refine sqF ?_
       refine dr ?_
       refine rn0 (r2 rfl rfl) (.tup (.cons (.nild ?_) (.cons (.eqd ?_) .nil)))
       all_goals (first|(refine congrArg D.bool (okI _ ?_);(try simp only[decide_eq_true_eq,Bool.false_eq_true,within,Bool.and_eq_true,List.length_map,true_iff,false_iff]);omega)|(rw[ty0 (by omega) (by omega) (by omega)];first|done|rfl)|(rw[ty5 (by omega)];first|done|rfl)|(rw[ty6 (by omega)];first|done|rfl)|(rw[ty4' (by omega) hmem];first|done|rfl))
     ·try simp only[Q] at h5p
      refine sqF ?_
      refine sqF ?_
      refine sqF ?_
      refine dr ?_
      refine rn0 (r2 rfl rfl) (.tup (.cons (.nild ?_) (.cons (.eqd ?_) .nil)))
      all_goals (first|(refine congrArg D.bool (okI _ ?_);(try simp only[decide_eq_true_eq,Bool.false_eq_true,within,Bool.and_eq_true,List.length_map,true_iff,false_iff]);omega)|(rw[ty0 (by omega) (by omega) (by omega)];first|done|rfl)|(rw[ty5 (by omega)];first|done|rfl)|(rw[ty6 (by omega)];first|done|rfl)|(rw[ty4' (by omega) hmem];first|done|rfl))
    ·try simp only[Q] at h4p
     refine sq (fun h9 h9p h9s=>?_) fun h9 h9p h9s=>?_
     ·try simp only[Q] at h9p
      refine Walk.call (cr:=[]) cal64 (impl_ctorsOf_v hw ht) rfl .none rfl rfl (LeL.refl _) trivial rfl rfl rfl ?_
      refine evd [] [] ?_
      refine Walk.call (cr:=[]) cal63 (slices_Contains_int_fn hcl) rfl .none rfl rfl (LeL.refl _) trivial rfl rfl rfl ?_
      refine evd [] [] ?_
      refine dr ?_
      refine sq (fun h10 h10p h10s=>?_) fun h10 h10p h10s=>?_
      ·try simp only[Q] at h10p
       exfalso;simp_all
      ·try simp only[Q] at h10p
       refine Walk.call (cr:=[]) cal65 (hargs) rfl .none rfl rfl (LeL.refl _) trivial rfl rfl rfl ?_
       refine ev ?_
       refine Walk.call (cr:=[]) cal126 (impl_only_c) rfl .none rfl rfl (LeL.refl _) trivial rfl rfl rfl ?_
       refine ev ?_
       refine rn0 (r2 rfl rfl) (.tup (.cons (.eqd ?_) (.cons (.eqd ?_) .nil)))
       all_goals (first|(refine congrArg D.bool (okI _ ?_);(try simp only[decide_eq_true_eq,Bool.false_eq_true,within,Bool.and_eq_true,List.length_map,true_iff,false_iff]);omega)|(rw[ty0 (by omega) (by omega) (by omega)];first|done|rfl)|(rw[ty5 (by omega)];first|done|rfl)|(rw[ty6 (by omega)];first|done|rfl)|(rw[ty4' (by omega) hmem];first|done|rfl))
     ·try simp only[Q] at h9p
      refine sq (fun h11 h11p h11s=>?_) fun h11 h11p h11s=>?_
      ·try simp only[Q] at h11p
       refine Walk.sliceLit sl102 tz25 rfl (by decide) (ks:=[0,1]) (xs:=[_,_]) rfl rfl (by decide) (by decide) .none rfl rfl rfl rfl ?_
       refine evd [] [] ?_
       refine Walk.call (cr:=[]) cal126 (impl_only_a) rfl .none rfl rfl (LeL.refl _) trivial rfl rfl rfl ?_
       refine evd [] [] ?_
       refine dr ?_
       refine rn0 (r2 rfl rfl) (.tup (.cons (.eqd ?_) (.cons (.eqd ?_) .nil)))
       all_goals (first|(refine congrArg D.bool (okI _ ?_);(try simp only[decide_eq_true_eq,Bool.false_eq_true,within,Bool.and_eq_true,List.length_map,true_iff,false_iff]);omega)|(rw[ty0 (by omega) (by omega) (by omega)];first|done|rfl)|(rw[ty5 (by omega)];first|done|rfl)|(rw[ty6 (by omega)];first|done|rfl)|(rw[ty4' (by omega) hmem];first|done|rfl))
      ·try simp only[Q] at h11p
       refine sq (fun h12 h12p h12s=>?_) fun h12 h12p h12s=>?_
       ·try simp only[Q] at h12p
        refine Walk.sliceLit sl102 tz25 rfl (by decide) (ks:=[0]) (xs:=[_]) rfl rfl (by decide) (by decide) .none rfl rfl rfl rfl ?_
        refine evd [] [] ?_
        refine Walk.call (cr:=[]) cal126 (impl_only_v) rfl .none rfl rfl (LeL.refl _) trivial rfl rfl rfl ?_
        refine evd [] [] ?_
        refine sq (fun h13 h13p h13s=>?_) fun h13 h13p h13s=>?_
        ·try simp only[Q] at h13p
         refine Walk.call (cr:=[]) cal127 (impl_isVar_fn) rfl (.some rfl rfl h13) rfl rfl (LeL.refl _) trivial rfl rfl rfl ?_
         refine evd [] [(82,true)] ?_ ⟨⟨_,rfl,h13⟩,trivial⟩
         refine dr ?_
         refine rn0 (r2 rfl rfl) (.tup (.cons (.eqd ?_) (.cons (.eqd ?_) .nil)))
         all_goals (first|(refine congrArg D.bool (okI _ ?_);(try simp only[decide_eq_true_eq,Bool.false_eq_true,within,Bool.and_eq_true,List.length_map,true_iff,false_iff]);omega)|(rw[ty0 (by omega) (by omega) (by omega)];first|done|rfl)|(rw[ty5 (by omega)];first|done|rfl)|(rw[ty6 (by omega)];first|done|rfl)|(rw[ty4' (by omega) hmem];first|done|rfl))
        ·try simp only[Q] at h13p
         refine dr ?_
         refine rn0 (r2 rfl rfl) (.tup (.cons (.eqd ?_) (.cons (.eqd ?_) .nil)))
         all_goals (first|(refine congrArg D.bool (okI _ ?_);(try simp only[decide_eq_true_eq,Bool.false_eq_true,within,Bool.and_eq_true,List.length_map,true_iff,false_iff]);omega)|(rw[ty0 (by omega) (by omega) (by omega)];first|done|rfl)|(rw[ty5 (by omega)];first|done|rfl)|(rw[ty6 (by omega)];first|done|rfl)|(rw[ty4' (by omega) hmem];first|done|rfl))
       ·try simp only[Q] at h12p
        refine rn0 (r2 rfl rfl) (.tup (.cons (.nild ?_) (.cons (.eqd ?_) .nil)))
        all_goals (first|(refine congrArg D.bool (okI _ ?_);(try simp only[decide_eq_true_eq,Bool.false_eq_true,within,Bool.and_eq_true,List.length_map,true_iff,false_iff]);omega)|(rw[ty0 (by omega) (by omega) (by omega)];first|done|rfl)|(rw[ty5 (by omega)];first|done|rfl)|(rw[ty6 (by omega)];first|done|rfl)|(rw[ty4' (by omega) hmem];first|done|rfl))
 ·simp only[hmem,and_false,or_false] at okI
  refine bd Tryz.f102 87 [] [5] fun w0 F0 own kept hk=>?_
  refine Walk.box (id:=3004) .none rfl rfl rfl rfl rfl rfl rfl ?_
  refine Walk.box (id:=3005) .none rfl rfl rfl rfl rfl rfl rfl ?_
  refine ev ?_
  refine sq (fun h1 h1p h1s=>?_) fun h1 h1p h1s=>?_
  ·try simp only[Q] at h1p
   refine Walk.call (cr:=[]) cal126 (impl_only_a) rfl .none rfl rfl (LeL.refl _) trivial rfl rfl rfl ?_
   refine ev ?_
   refine rn0 (r2 rfl rfl) (.tup (.cons (.nild ?_) (.cons (.eqd ?_) .nil)))
   all_goals (first|(refine congrArg D.bool (okI _ ?_);(try simp only[decide_eq_true_eq,Bool.false_eq_true,within,Bool.and_eq_true,List.length_map,true_iff,false_iff]);omega)|(rw[ty0 (by omega) (by omega) (by omega)];first|done|rfl)|(rw[ty5 (by omega)];first|done|rfl)|(rw[ty6 (by omega)];first|done|rfl)|(rw[ty4 (by omega) hmem];first|done|rfl))
  ·try simp only[Q] at h1p
   refine sq (fun h2 h2p h2s=>?_) fun h2 h2p h2s=>?_
   ·try simp only[Q] at h2p
    refine CWp.regionJ ?_
    refine WRest.join 7 [(23,.d (.bool (decide ((p.ctor=0∧(p.n=0∧p.m=0)∧(p.kids.length:Int)=0)∧0≤p.var∧p.var≤5))))] [17,18,19,20,21,22] ?_ ?_
    ·
     refine ev ?_
     refine Walk.call (cr:=[]) cal126 (impl_only_v) rfl .none rfl rfl (LeL.refl _) trivial rfl rfl rfl ?_
     refine ev ?_
     refine sq (fun h3 h3p h3s=>?_) fun h3 h3p h3s=>?_
     ·try simp only[Q] at h3p
      refine Walk.call (cr:=[]) cal127 (impl_isVar_fn) rfl (.some rfl rfl h3) rfl rfl (LeL.refl _) trivial rfl rfl rfl ?_
      refine evs [] [(19,true)] ?_ ⟨⟨_,rfl,h3⟩,trivial⟩
      exact jn rfl (LeA.eqb (by(rw[Bool.eq_iff_iff];simp only[decide_eq_true_eq,within,Bool.and_eq_true,Bool.false_eq_true,false_iff,true_iff];omega)))
     ·try simp only[Q] at h3p
      exact jn rfl (LeA.eqb (by(rw[Bool.eq_iff_iff];simp only[decide_eq_true_eq,within,Bool.and_eq_true,Bool.false_eq_true,false_iff,true_iff];omega)))
    refine WRest.done ?_
    refine ev ?_
    refine rn0 (r2 rfl rfl) (.tup (.cons (.nild ?_) (.cons (.eqd ?_) .nil)))
    all_goals (first|(refine congrArg D.bool (okI _ ?_);(try simp only[decide_eq_true_eq,Bool.false_eq_true,within,Bool.and_eq_true,List.length_map,true_iff,false_iff]);omega)|(rw[ty0 (by omega) (by omega) (by omega)];first|done|rfl)|(rw[ty5 (by omega)];first|done|rfl)|(rw[ty6 (by omega)];first|done|rfl)|(rw[ty4 (by omega) hmem];first|done|rfl))
   ·try simp only[Q] at h2p
    refine sq (fun h4 h4p h4s=>?_) fun h4 h4p h4s=>?_
    ·try simp only[Q] at h4p
     refine sq (fun h5 h5p h5s=>?_) fun h5 h5p h5s=>?_
     ·try simp only[Q] at h5p
      refine Walk.call (cr:=[]) cal126 (impl_only_n) rfl (.some rfl rfl h5) rfl rfl (LeL.refl _) trivial rfl rfl rfl ?_
      refine evd [] [(29,true)] ?_ ⟨⟨_,rfl,h5⟩,trivial⟩
      refine sq (fun h6 h6p h6s=>?_) fun h6 h6p h6s=>?_
      ·try simp only[Q] at h6p
       refine sq (fun h7 h7p h7s=>?_) fun h7 h7p h7s=>?_
       ·try simp only[Q] at h7p
        refine sq (fun h8 h8p h8s=>?_) fun h8 h8p h8s=>?_
        ·try simp only[Q] at h8p
         refine dr ?_
         refine rn0 (r2 rfl rfl) (.tup (.cons (.nild ?_) (.cons (.eqd ?_) .nil)))
         all_goals (first|(refine congrArg D.bool (okI _ ?_);(try simp only[decide_eq_true_eq,Bool.false_eq_true,within,Bool.and_eq_true,List.length_map,true_iff,false_iff]);omega)|(rw[ty0 (by omega) (by omega) (by omega)];first|done|rfl)|(rw[ty5 (by omega)];first|done|rfl)|(rw[ty6 (by omega)];first|done|rfl)|(rw[ty4 (by omega) hmem];first|done|rfl))
        ·try simp only[Q] at h8p
         refine dr ?_
         refine rn0 (r2 rfl rfl) (.tup (.cons (.nild ?_) (.cons (.eqd ?_) .nil)))
         all_goals (first|(refine congrArg D.bool (okI _ ?_);(try simp only[decide_eq_true_eq,Bool.false_eq_true,within,Bool.and_eq_true,List.length_map,true_iff,false_iff]);omega)|(rw[ty0 (by omega) (by omega) (by omega)];first|done|rfl)|(rw[ty5 (by omega)];first|done|rfl)|(rw[ty6 (by omega)];first|done|rfl)|(rw[ty4 (by omega) hmem];first|done|rfl))
       ·try simp only[Q] at h7p
        refine sqF ?_
        refine dr ?_
        refine rn0 (r2 rfl rfl) (.tup (.cons (.nild ?_) (.cons (.eqd ?_) .nil)))
        all_goals (first|(refine congrArg D.bool (okI _ ?_);(try simp only[decide_eq_true_eq,Bool.false_eq_true,within,Bool.and_eq_true,List.length_map,true_iff,false_iff]);omega)|(rw[ty0 (by omega) (by omega) (by omega)];first|done|rfl)|(rw[ty5 (by omega)];first|done|rfl)|(rw[ty6 (by omega)];first|done|rfl)|(rw[ty4 (by omega) hmem];first|done|rfl))
      ·try simp only[Q] at h6p
       refine sqF ?_
       refine sqF ?_
       refine dr ?_
       refine rn0 (r2 rfl rfl) (.tup (.cons (.nild ?_) (.cons (.eqd ?_) .nil)))
       all_goals (first|(refine congrArg D.bool (okI _ ?_);(try simp only[decide_eq_true_eq,Bool.false_eq_true,within,Bool.and_eq_true,List.length_map,true_iff,false_iff]);omega)|(rw[ty0 (by omega) (by omega) (by omega)];first|done|rfl)|(rw[ty5 (by omega)];first|done|rfl)|(rw[ty6 (by omega)];first|done|rfl)|(rw[ty4 (by omega) hmem];first|done|rfl))
     ·try simp only[Q] at h5p
      refine sqF ?_
      refine sqF ?_
      refine sqF ?_
      refine dr ?_
      refine rn0 (r2 rfl rfl) (.tup (.cons (.nild ?_) (.cons (.eqd ?_) .nil)))
      all_goals (first|(refine congrArg D.bool (okI _ ?_);(try simp only[decide_eq_true_eq,Bool.false_eq_true,within,Bool.and_eq_true,List.length_map,true_iff,false_iff]);omega)|(rw[ty0 (by omega) (by omega) (by omega)];first|done|rfl)|(rw[ty5 (by omega)];first|done|rfl)|(rw[ty6 (by omega)];first|done|rfl)|(rw[ty4 (by omega) hmem];first|done|rfl))
    ·try simp only[Q] at h4p
     refine sq (fun h9 h9p h9s=>?_) fun h9 h9p h9s=>?_
     ·try simp only[Q] at h9p
      refine Walk.call (cr:=[]) cal64 (impl_ctorsOf_v hw ht) rfl .none rfl rfl (LeL.refl _) trivial rfl rfl rfl ?_
      refine evd [] [] ?_
      refine Walk.call (cr:=[]) cal63 (slices_Contains_int_fn hcl) rfl .none rfl rfl (LeL.refl _) trivial rfl rfl rfl ?_
      refine evd [] [] ?_
      refine dr ?_
      refine sq (fun h10 h10p h10s=>?_) fun h10 h10p h10s=>?_
      ·try simp only[Q] at h10p
       refine rn0 (r2 rfl rfl) (.tup (.cons (.nild ?_) (.cons (.eqd ?_) .nil)))
       all_goals (first|(refine congrArg D.bool (okI _ ?_);(try simp only[decide_eq_true_eq,Bool.false_eq_true,within,Bool.and_eq_true,List.length_map,true_iff,false_iff]);omega)|(rw[ty0 (by omega) (by omega) (by omega)];first|done|rfl)|(rw[ty5 (by omega)];first|done|rfl)|(rw[ty6 (by omega)];first|done|rfl)|(rw[ty4 (by omega) hmem];first|done|rfl))
      ·try simp only[Q] at h10p
       exfalso;simp_all
     ·try simp only[Q] at h9p
      refine sq (fun h11 h11p h11s=>?_) fun h11 h11p h11s=>?_
      ·try simp only[Q] at h11p
       refine Walk.sliceLit sl102 tz25 rfl (by decide) (ks:=[0,1]) (xs:=[_,_]) rfl rfl (by decide) (by decide) .none rfl rfl rfl rfl ?_
       refine evd [] [] ?_
       refine Walk.call (cr:=[]) cal126 (impl_only_a) rfl .none rfl rfl (LeL.refl _) trivial rfl rfl rfl ?_
       refine evd [] [] ?_
       refine dr ?_
       refine rn0 (r2 rfl rfl) (.tup (.cons (.eqd ?_) (.cons (.eqd ?_) .nil)))
       all_goals (first|(refine congrArg D.bool (okI _ ?_);(try simp only[decide_eq_true_eq,Bool.false_eq_true,within,Bool.and_eq_true,List.length_map,true_iff,false_iff]);omega)|(rw[ty0 (by omega) (by omega) (by omega)];first|done|rfl)|(rw[ty5 (by omega)];first|done|rfl)|(rw[ty6 (by omega)];first|done|rfl)|(rw[ty4 (by omega) hmem];first|done|rfl))
      ·try simp only[Q] at h11p
       refine sq (fun h12 h12p h12s=>?_) fun h12 h12p h12s=>?_
       ·try simp only[Q] at h12p
        refine Walk.sliceLit sl102 tz25 rfl (by decide) (ks:=[0]) (xs:=[_]) rfl rfl (by decide) (by decide) .none rfl rfl rfl rfl ?_
        refine evd [] [] ?_
        refine Walk.call (cr:=[]) cal126 (impl_only_v) rfl .none rfl rfl (LeL.refl _) trivial rfl rfl rfl ?_
        refine evd [] [] ?_
        refine sq (fun h13 h13p h13s=>?_) fun h13 h13p h13s=>?_
        ·try simp only[Q] at h13p
         refine Walk.call (cr:=[]) cal127 (impl_isVar_fn) rfl (.some rfl rfl h13) rfl rfl (LeL.refl _) trivial rfl rfl rfl ?_
         refine evd [] [(82,true)] ?_ ⟨⟨_,rfl,h13⟩,trivial⟩
         refine dr ?_
         refine rn0 (r2 rfl rfl) (.tup (.cons (.eqd ?_) (.cons (.eqd ?_) .nil)))
         all_goals (first|(refine congrArg D.bool (okI _ ?_);(try simp only[decide_eq_true_eq,Bool.false_eq_true,within,Bool.and_eq_true,List.length_map,true_iff,false_iff]);omega)|(rw[ty0 (by omega) (by omega) (by omega)];first|done|rfl)|(rw[ty5 (by omega)];first|done|rfl)|(rw[ty6 (by omega)];first|done|rfl)|(rw[ty4 (by omega) hmem];first|done|rfl))
        ·try simp only[Q] at h13p
         refine dr ?_
         refine rn0 (r2 rfl rfl) (.tup (.cons (.eqd ?_) (.cons (.eqd ?_) .nil)))
         all_goals (first|(refine congrArg D.bool (okI _ ?_);(try simp only[decide_eq_true_eq,Bool.false_eq_true,within,Bool.and_eq_true,List.length_map,true_iff,false_iff]);omega)|(rw[ty0 (by omega) (by omega) (by omega)];first|done|rfl)|(rw[ty5 (by omega)];first|done|rfl)|(rw[ty6 (by omega)];first|done|rfl)|(rw[ty4 (by omega) hmem];first|done|rfl))
       ·try simp only[Q] at h12p
        refine rn0 (r2 rfl rfl) (.tup (.cons (.nild ?_) (.cons (.eqd ?_) .nil)))
        all_goals (first|(refine congrArg D.bool (okI _ ?_);(try simp only[decide_eq_true_eq,Bool.false_eq_true,within,Bool.and_eq_true,List.length_map,true_iff,false_iff]);omega)|(rw[ty0 (by omega) (by omega) (by omega)];first|done|rfl)|(rw[ty5 (by omega)];first|done|rfl)|(rw[ty6 (by omega)];first|done|rfl)|(rw[ty4 (by omega) hmem];first|done|rfl))
theorem vt_iff {t u:Vt}:t=u↔t.var=u.var∧t.ty.data=u.ty.data∧t.ty.index=u.ty.index:=by
 rcases t with ⟨a,b,c⟩;rcases u with ⟨d,e,f⟩;simp
def idxVt (l:List Vt) (v:Vt):Int:=idxF (fun x=>decide (v=x)) l 0
theorem slices_Index_Vt_fn {l:List Vt}{v:Vt} (h:l.length≤1000000000000):FnD Tryz.prog 104 [.d (encVts l),.agg [.d (.i v.var),.d (.i v.ty.data),.d (.i v.ty.index)]] [] (.d (.i (idxVt l v))) []:=by
 refine bd Tryz.f104 19 [16] [] fun w0 F0 own kept hk=>?_
 refine Walk.box (id:=3003) .none rfl rfl rfl rfl rfl rfl rfl ?_
 refine evs [16] [] ?_
 refine CWp.loopX (ι:=List (Vt)×List (Vt)) hk (fun x=>[(8,.d (.i (x.1.length:Int)))]) [4,5,9,10,11,12,13,14,15,16,17,18] (fun x=>[]) (fun x=>x.1++x.2=l∧idxF (fun x=>decide (v=x)) x.2 x.1.length=idxF (fun x=>decide (v=x)) l 0) (fun x=>x.2.length) ([],l) ⟨by simp,rfl⟩ ⟨⟨_,rfl,(LeA.eqi (by first|rfl|(simp;done)|(simp_all;done)|omega))⟩,trivial⟩ trivial (fun x=>rfl) (fun x hg1=>?_)
 obtain⟨pre,rest⟩:=x
 dsimp only at hg1 ⊢
 refine evc [16] [] ?_
 refine sq (fun h1 h1p h1s=>?_) fun h1 h1p h1s=>?_
 ·try simp only[Q] at h1p
  rcases rest with _|⟨y,rest⟩
  ·exfalso;simp_all
  refine Walk.idx sl86 .none rfl rfl rfl rfl (zip_at hg1.1) rfl ?_
  refine evd [16] [] ?_
  refine Walk.eqV2 eq115 .none rfl rfl rfl rfl rfl ?_
  refine dr ?_
  refine sq (fun h2 h2p h2s=>?_) fun h2 h2p h2s=>?_
  ·try simp only[Q] at h2p
   refine rn0 (r1 rfl) (.eqd ?_)
   all_goals (unfold idxVt;rw[←hg1.2];simp_all[idxF,vt_iff])
  ·try simp only[Q] at h2p
   refine ar ?_
   refine Exists.intro ((pre++[y],rest)) ⟨⟨(by have hz:=hg1.1;rw[←hz];simp),(by rw[←hg1.2];simp[idxF];simp_all[vt_iff])⟩,(by simp),Sub.x (by kernel_rfl) (by kernel_rfl) ⟨⟨_,rfl,(LeA.eqi (by first|rfl|(simp;done)|(simp_all;done)|omega))⟩,trivial⟩ (by kernel_rfl) (by kernel_rfl) trivial⟩
 ·try simp only[Q] at h1p
  have hrest:rest=[]:=by
   rcases rest with _|⟨a,b⟩
   ·rfl
   ·exfalso;have hz:=congrArg List.length (hg1.1);simp only[List.length_append,List.length_cons,List.length_map] at hz;omega
  subst hrest
  refine rn0 (r1 rfl) (.eqd ?_)
  all_goals (unfold idxVt;rw[←hg1.2];simp_all[idxF,vt_iff])
theorem slices_Contains_Vt_fn {l:List Vt}{v:Vt} (h:l.length≤1000000000000):FnD Tryz.prog 77 [.d (encVts l),.agg [.d (.i v.var),.d (.i v.ty.data),.d (.i v.ty.index)]] [] (.d (.bool (decide (v∈l)))) []:=by
 refine bd Tryz.f77 9 [] [] fun w0 F0 own kept hk=>?_
 refine Walk.box (id:=3003) .none rfl rfl rfl rfl rfl rfl rfl ?_
 refine ev ?_
 refine Walk.call (cr:=[]) cal104 (slices_Index_Vt_fn h) rfl .none rfl rfl (LeL.refl _) trivial rfl rfl rfl ?_
 refine ev ?_
 refine rn0 (r1 rfl) (.eqd ?_)
 all_goals (refine congrArg D.bool ?_;rw[show idxVt l v=idxF (fun x=>decide (v=x)) l 0 from rfl,idxF_any];simp[List.any_eq,eq_comm])
theorem slices_IndexFunc_Vt_fn {xs:List Vt}{f:Nat}{caps:List AV}{hp:Hp}{p:Vt→Bool} (hs:xs.length≤1000000000000) (hcal:Callee Tryz.prog f)
  (hf:∀t∈xs,FnD Tryz.prog f ([.agg [.d (.i t.var),.d (.i t.ty.data),.d (.i t.ty.index)]]++caps) hp (.d (.bool (p t))) []) (k1:subH hp hp) (k2:noTok hp=true) (k3:okCall hp [] (.d .nilp) []=true):
  FnD Tryz.prog 137 [.d (encVts xs),.fn f caps] hp (.d (.i (idxF p xs 0))) []:=by
 refine bd Tryz.f137 19 [] [] fun w0 F0 own kept hk=>?_
 refine CWp.loopX (ι:=List (Vt)×List (Vt)) hk (fun x=>[(8,.d (.i (x.1.length:Int)))]) [4,5,9,10,11,12,13,14,15,16,17,18] (fun x=>[]) (fun x=>x.1++x.2=xs∧idxF p x.2 x.1.length=idxF p xs 0) (fun x=>x.2.length) ([],xs) ⟨by simp,rfl⟩ ⟨⟨_,rfl,(LeA.eqi (by first|rfl|(simp;done)|(simp_all;done)|omega))⟩,trivial⟩ trivial (fun x=>boxIds_all hp) (fun x hg1=>?_)
 obtain⟨pre,rest⟩:=x
 dsimp only at hg1 ⊢
 refine evc [] [] ?_
 refine sq (fun h1 h1p h1s=>?_) fun h1 h1p h1s=>?_
 ·try simp only[Q] at h1p
  rcases rest with _|⟨y,rest⟩
  ·exfalso;simp_all
  refine Walk.idx sl86 .none rfl rfl rfl rfl (zip_at hg1.1) rfl ?_
  refine ev ?_
  refine Walk.callV (cr:=[]) hcal (hf y (by rw[←hg1.1];simp)) rfl .none rfl rfl rfl (LeL.refl _) k1 k2 (okCall_d k3 _) rfl ?_
  refine tv ?_
  refine sq (fun h2 h2p h2s=>?_) fun h2 h2p h2s=>?_
  ·try simp only[Q] at h2p
   refine rn [] (r1 rfl) (.eqd ?_) ⟨rfl,rfl⟩ (fun _ _ h=>h) (fun _ h=>h)
   all_goals (rw[←hg1.2];simp[idxF,h1s,h1p,h2s,h2p])
  ·try simp only[Q] at h2p
   refine ar ?_
   refine Exists.intro ((pre++[y],rest)) ⟨⟨(by have hz:=hg1.1;rw[←hz];simp),(by rw[←hg1.2];simp[idxF,h2s])⟩,(by simp),Sub.x (by kernel_rfl) (by kernel_rfl) ⟨⟨_,rfl,(LeA.eqi (by first|rfl|(simp;done)|(simp_all;done)|omega))⟩,trivial⟩ (by simp) (by simp[coverH]) trivial⟩
 ·try simp only[Q] at h1p
  have hrest:rest=[]:=by
   rcases rest with _|⟨a,b⟩
   ·rfl
   ·exfalso;have hz:=congrArg List.length (hg1.1);simp only[List.length_append,List.length_cons,List.length_map] at hz;omega
  subst hrest
  refine rn [] (r1 rfl) (.eqd ?_) ⟨rfl,rfl⟩ (fun _ _ h=>h) (fun _ h=>h)
  all_goals (rw[←hg1.2];simp[idxF,h1s,h1p])
theorem slices_ContainsFunc_Vt_fn {xs:List Vt}{f:Nat}{caps:List AV}{hp:Hp}{p:Vt→Bool} (hs:xs.length≤1000000000000) (hcal:Callee Tryz.prog f)
  (hf:∀t∈xs,FnD Tryz.prog f ([.agg [.d (.i t.var),.d (.i t.ty.data),.d (.i t.ty.index)]]++caps) hp (.d (.bool (p t))) []) (k1:subH hp hp) (k2:noTok hp=true) (k3:okCall hp [] (.d .nilp) []=true):
  FnD Tryz.prog 128 [.d (encVts xs),.fn f caps] hp (.d (.bool (xs.any p))) []:=by
 refine bd Tryz.f128 9 [] [] fun w0 F0 own kept hk=>?_
 refine Walk.call (cr:=[]) cal137 (slices_IndexFunc_Vt_fn hs hcal hf k1 k2 k3) rfl .none rfl rfl (LeL.refl _) k1 k2 (okCall_d k3 _) rfl ?_
 refine ev ?_
 refine rn [] (r1 rfl) (.eqd ?_) ⟨rfl,rfl⟩ (fun _ _ h=>h) (fun _ h=>h)
 all_goals (exact congrArg D.bool (idxF_any p xs 0))
theorem impl_sameVars_1_fn {b:List Vt}{v:Vt} (h:b.length≤1000000000000):FnD Tryz.prog 129 [.agg [.d (.i v.var),.d (.i v.ty.data),.d (.i v.ty.index)],.ref 3003 0] [(3003,some (.box [.d (encVts b)]))] (.d (.bool (!decide (v∈b)))) []:=by
 refine bd Tryz.f129 8 [] [] fun w0 F0 own kept hk=>?_
 refine Walk.box (id:=3001) .none rfl rfl rfl rfl rfl rfl rfl ?_
 refine ev ?_
 refine Walk.call (cr:=[]) cal77 (slices_Contains_Vt_fn h) rfl .none rfl rfl (LeL.refl _) trivial rfl rfl rfl ?_
 refine ev ?_
 refine rn [] (r1 rfl) (.eqd ?_) ⟨rfl,rfl⟩ (SubH.get ⟨rfl,trivial⟩) (fun _ h=>h)
 all_goals (rfl)
theorem impl_sameVars_fn {x y:List Vt} (hx:x.length≤1000000000000) (hy:y.length≤1000000000000):FnD Tryz.prog 103 [.d (encVts x),.d (encVts y)] [] (.d (.bool (sameV2 x y))) []:=by
 refine bd Tryz.f103 16 [] [] fun w0 F0 own kept hk=>?_
 refine Walk.box (id:=3003) .none rfl rfl rfl rfl rfl rfl rfl ?_
 refine ev ?_
 refine sq (fun h1 h1p h1s=>?_) fun h1 h1p h1s=>?_
 ·try simp only[Q] at h1p
  refine Walk.closure (xs:=[_]) rfl (.some rfl rfl h1) rfl rfl ?_
  refine Walk.call (cr:=[]) cal128 (slices_ContainsFunc_Vt_fn (p:=fun v=> !decide (v∈y)) hx cal129 (fun t _=>impl_sameVars_1_fn hy) ⟨rfl,trivial⟩ rfl rfl) rfl (.some rfl rfl h1) rfl rfl (LeL.refl _) ⟨rfl,trivial⟩ rfl rfl rfl ?_
  refine evs [] [(10,true)] ?_ ⟨⟨_,rfl,h1⟩,trivial⟩
  refine rn0 (r1 rfl) (.eqd ?_)
  all_goals (refine congrArg D.bool ?_;unfold sameV2;first|(simp_all;done)|(simp_all;intro hz;omega))
 ·try simp only[Q] at h1p
  refine rn0 (r1 rfl) (.eqd ?_)
  all_goals (refine congrArg D.bool ?_;unfold sameV2;first|(simp_all;done)|(simp_all;intro hz;omega))
def metA (s:List Int):List AV:=(List.range 6).map fun(i:Nat)=> .d (.bool (decide ((i:Int)∈s)))
theorem metA_get {s:List Int}{v:Int} (h0:0≤v) (h1:v≤5):(metA s)[v.toNat]?=some (.d (.bool (decide (v∈s)))):=by
 unfold metA
 rw[List.getElem?_map,List.getElem?_range (by omega)]
 simp only[Option.map_some]
 rw[Int.toNat_of_nonneg h0]
theorem metA_put {s:List Int}{v:Int} (h0:0≤v) (h1:v≤5):putC (metA s) v.toNat [.d (.bool true)]=some (metA (s++[v])):=by
 have e:v=0∨v=1∨v=2∨v=3∨v=4∨v=5:=by omega
 rcases e with rfl|rfl|rfl|rfl|rfl|rfl<;>simp[metA,putC,List.range_succ]
theorem nameP_len (t:Ty) (p:Pat):(nameP t p).length≤1:=by unfold nameP;split<;>simp
theorem nodup_sub:∀ {a b:List Int},a.Nodup→(∀x∈a,x∈b)→a.length≤b.length
 | [],b,_,_=>by simp
 |x::r,b,hn,hs=>by
  have hn':=List.nodup_cons.1 hn
  have hx:=hs x (by simp)
  have h:=nodup_sub (a:=r) (b:=b.erase x) hn'.2 (fun y hy=>by
   have hne:y≠x:=fun e=>hn'.1 (e ▸ hy)
   exact(List.mem_erase_of_ne hne).2 (hs y (by simp[hy])))
  rw[List.length_erase_of_mem hx] at h
  have:=List.length_pos_of_mem hx
  simp only[List.length_cons];omega
def InR (l:List Vt):Prop:=∀v∈l,0≤v.var∧v.var≤5
theorem nodup_len {l:List Vt} (h:InR l) (hn:nodupV l=true):l.length≤6:=by
 unfold nodupV at hn
 have h1:=of_decide_eq_true hn
 have h2:∀x∈l.map Vt.var,x∈[(0:Int),1,2,3,4,5]:=fun x hx=>by
  obtain⟨v,hv,rfl⟩:=List.mem_map.1 hx
  have:=h v hv
  simp only[List.mem_cons,List.not_mem_nil,or_false];omega
 have:=nodup_sub h1 h2
 simpa using this
theorem scanK_in {g:Ty→Pat→Int→Option (List Vt)×Int}{or:Bool} (hg:∀t p c l,(g t p c).1=some l→InR l):∀(a:List Ty) (b:List Pat) (i:Nat) (acc:List Vt) (c:Int) (l:List Vt),InR acc→(scanK g or a b i acc c).1=some l→InR l
 | [],b,i,acc,c,l,ha,h=>by simp only[scanK,Option.some.injEq] at h;subst h;exact ha
 |_::_,[],i,acc,c,l,ha,h=>by simp only[scanK,Option.some.injEq] at h;subst h;exact ha
 |x::r,y::s,i,acc,c,l,ha,h=>by
  simp only[scanK] at h
  cases hh:(g x y c).1 with
  |none=>rw[hh] at h;cases h
  |some m=>
   rw[hh] at h
   simp only at h
   split at h
   ·split at h
    ·exact scanK_in hg r s (i+1) acc _ l ha h
    ·cases h
   ·refine scanK_in hg r s (i+1) _ _ l (fun v hv=>?_) h
    rcases List.mem_append.1 hv with hv|hv
    ·exact ha v hv
    ·exact hg x y c m hh v hv
theorem scanP_in (w:List Data):∀(n:Nat) (t:Ty) (p:Pat) (c:Int) (l:List Vt),(scanP w n t p c).1=some l→InR l∧nodupV l=true
 |0,t,p,c,l,h=>by simp[scanP] at h
 |n+1,t,p,c,l,h=>by
  unfold scanP at h
  split at h
  ·cases h
  ·split at h
   ·rename_i h60 ho
    have ho':ownP w t p=true:=by unfold okP at ho;simp only[Bool.and_eq_true] at ho;exact ho.1
    cases hk:(scanK (scanP w n) (decide (p.op=5)) (typesP w t p) p.kids 0 (nameP t p) (c+1)).1 with
    |none=>unfold finV at h;rw[hk] at h;simp only at h;rw[hk] at h;cases h
    |some m=>
     have hi:InR m:=scanK_in (fun t p c l h=>(scanP_in w n t p c l h).1) _ _ _ _ _ m (fun v hv=>by
      unfold nameP at hv
      split at hv
      ·rename_i hop
       simp only[List.mem_cons,List.not_mem_nil,or_false] at hv
       subst hv
       exact ownP_var ho' hop
      ·simp at hv) hk
     unfold finV at h
     rw[hk] at h
     simp only at h
     split at h
     ·rename_i hn
      rw[hk] at h
      cases h
      exact⟨hi,hn⟩
     ·cases h
   ·cases h
theorem scanP_bd (w:List Data) (n:Nat) (t:Ty) (p:Pat) (c:Int) (h:(scanP w n t p c).1.isSome=true):c+1≤(scanP w n t p c).2∧(scanP w n t p c).2≤60:=by
 have h1:=scanP_eq w n t p c
 by_cases hw:wantP w n t p c=true
 ·have h2:=h1.2 hw
  simp only[wantP,Bool.and_eq_true,decide_eq_true_eq] at hw
  have:=Pat.size_eq p
  omega
 ·rw[if_neg hw] at h1;rw[h1.1] at h;cases h
def someV (o:Option (List Vt)):List Vt:=o.getD []
theorem scanK_none {g:Ty→Pat→Int→Option (List Vt)×Int}{or:Bool}{a:List Ty}{b:List Pat}{i:Nat}{acc:List Vt}{c:Int} (ha:i<a.length) (hl:b.length=a.length) (h:(g (nth a i) (nth b i) c).1.isSome=false):
  scanK g or (a.drop i) (b.drop i) i acc c=(none,(g (nth a i) (nth b i) c).2):=by
 rw[drop_nth ha,drop_nth (l:=b) (by omega),scanK]
 cases hh:(g (nth a i) (nth b i) c).1 with
 |none=>rfl
 |some l=>rw[hh] at h;cases h
theorem scanK_bad {g:Ty→Pat→Int→Option (List Vt)×Int}{or:Bool}{a:List Ty}{b:List Pat}{i:Nat}{acc:List Vt}{c:Int} (ha:i<a.length) (hl:b.length=a.length) (h:(g (nth a i) (nth b i) c).1.isSome=true) (ho:or=true∧i=1) (hs:sameV2 acc (someV (g (nth a i) (nth b i) c).1)=false):
  scanK g or (a.drop i) (b.drop i) i acc c=(none,(g (nth a i) (nth b i) c).2):=by
 rw[drop_nth ha,drop_nth (l:=b) (by omega),scanK]
 cases hh:(g (nth a i) (nth b i) c).1 with
 |none=>rfl
 |some l=>rw[hh] at hs;simp only[someV,Option.getD_some] at hs;simp only[if_pos ho,hs,Bool.false_eq_true,if_false]
theorem scanK_next {g:Ty→Pat→Int→Option (List Vt)×Int}{or:Bool}{a:List Ty}{b:List Pat}{i:Nat}{acc:List Vt}{c:Int} (ha:i<a.length) (hl:b.length=a.length) (h:(g (nth a i) (nth b i) c).1.isSome=true) (hs:(or=true∧i=1)→sameV2 acc (someV (g (nth a i) (nth b i) c).1)=true):
  scanK g or (a.drop i) (b.drop i) i acc c=scanK g or (a.drop (i+1)) (b.drop (i+1)) (i+1) (if or=true∧i=1 then acc else acc++someV (g (nth a i) (nth b i) c).1) (g (nth a i) (nth b i) c).2:=by
 rw[drop_nth ha,drop_nth (l:=b) (by omega),scanK]
 cases hh:(g (nth a i) (nth b i) c).1 with
 |none=>rw[hh] at h;cases h
 |some l=>
  by_cases ho:or=true∧i=1
  ·have:=hs ho;rw[hh] at this;simp only[someV,Option.getD_some] at this
   simp only[if_pos ho,this,if_true]
  ·simp only[if_neg ho,someV,Option.getD_some]
theorem scanK_end {g:Ty→Pat→Int→Option (List Vt)×Int}{or:Bool}{a:List Ty}{b:List Pat}{i:Nat}{acc:List Vt}{c:Int} (ha:a.length≤i):scanK g or (a.drop i) (b.drop i) i acc c=(some acc,c):=by
 rw[List.drop_eq_nil_of_le ha,scanK]
 intro a r b s h;cases h
theorem someV_ok (w:List Data) (n:Nat) (t:Ty) (p:Pat) (c:Int):InR (someV (scanP w n t p c).1)∧(someV (scanP w n t p c).1).length≤6:=by
 cases h:(scanP w n t p c).1 with
 |none=>exact⟨fun v hv=>by simp[someV] at hv,by simp[someV]⟩
 |some l=>
  have:=scanP_in w n t p c l h
  exact⟨this.1,nodup_len this.1 this.2⟩
structure GoodS (w:List Data) (n:Nat) (t:Ty) (p:Pat) (c:Int) (x:Nat×List Vt×Int):Prop where
 le:x.1≤p.kids.length
 eq:scanK (scanP w n) (decide (p.op=5)) ((typesP w t p).drop x.1) (p.kids.drop x.1) x.1 x.2.1 x.2.2=scanK (scanP w n) (decide (p.op=5)) (typesP w t p) p.kids 0 (nameP t p) (c+1)
 lc:(x.1:Int)≤x.2.2
 c0:0≤x.2.2
 c1:x.2.2≤60
 len:x.2.1.length≤1+6*x.1
 inr:InR x.2.1
def nextS (w:List Data) (n:Nat) (t:Ty) (p:Pat) (x:Nat×List Vt×Int):Nat×List Vt×Int:=
 (x.1+1,if decide (p.op=5)=true∧x.1=1 then x.2.1 else x.2.1++someV (scanP w n (nth (typesP w t p) x.1) (nth p.kids x.1) x.2.2).1,(scanP w n (nth (typesP w t p) x.1) (nth p.kids x.1) x.2.2).2)
theorem GoodS.next {w:List Data}{n:Nat}{t:Ty}{p:Pat}{c:Int}{x:Nat×List Vt×Int} (hl:p.kids.length=(typesP w t p).length) (hg:GoodS w n t p c x) (hlt:x.1<p.kids.length)
  (hz:(scanP w n (nth (typesP w t p) x.1) (nth p.kids x.1) x.2.2).1.isSome=true) (hs:(decide (p.op=5)=true∧x.1=1)→sameV2 x.2.1 (someV (scanP w n (nth (typesP w t p) x.1) (nth p.kids x.1) x.2.2).1)=true):
  GoodS w n t p c (nextS w n t p x):=by
 obtain⟨h1,h2,h3,h4,h5,h6,h7⟩:=hg
 have hb:=scanP_bd w n _ _ _ hz
 have ho:=someV_ok w n (nth (typesP w t p) x.1) (nth p.kids x.1) x.2.2
 refine⟨by unfold nextS;dsimp only;omega, ?_,by unfold nextS;dsimp only;omega,by unfold nextS;dsimp only;omega,by unfold nextS;dsimp only;omega, ?_, ?_⟩
 ·rw[←h2,scanK_next (by omega) hl hz hs];rfl
 ·unfold nextS;dsimp only
  split
  ·omega
  ·rw[List.length_append];omega
 ·unfold nextS;dsimp only
  split
  ·exact h7
  ·intro v hv
   rcases List.mem_append.1 hv with hv|hv
   ·exact h7 v hv
   ·exact ho.1 v hv
theorem GoodS.none {w:List Data}{n:Nat}{t:Ty}{p:Pat}{c:Int}{x:Nat×List Vt×Int} (hl:p.kids.length=(typesP w t p).length) (hg:GoodS w n t p c x) (hlt:x.1<p.kids.length)
  (hz:(scanP w n (nth (typesP w t p) x.1) (nth p.kids x.1) x.2.2).1.isSome=false):
  finV (scanK (scanP w n) (decide (p.op=5)) (typesP w t p) p.kids 0 (nameP t p) (c+1))=(none,(scanP w n (nth (typesP w t p) x.1) (nth p.kids x.1) x.2.2).2):=by
 rw[←hg.eq,scanK_none (by omega) hl hz];rfl
theorem GoodS.bad {w:List Data}{n:Nat}{t:Ty}{p:Pat}{c:Int}{x:Nat×List Vt×Int} (hl:p.kids.length=(typesP w t p).length) (hg:GoodS w n t p c x) (hlt:x.1<p.kids.length)
  (hz:(scanP w n (nth (typesP w t p) x.1) (nth p.kids x.1) x.2.2).1.isSome=true) (ho:p.op=5∧x.1=1) (hs:sameV2 x.2.1 (someV (scanP w n (nth (typesP w t p) x.1) (nth p.kids x.1) x.2.2).1)=false):
  finV (scanK (scanP w n) (decide (p.op=5)) (typesP w t p) p.kids 0 (nameP t p) (c+1))=(Option.none,(scanP w n (nth (typesP w t p) x.1) (nth p.kids x.1) x.2.2).2):=by
 rw[←hg.eq,scanK_bad (by omega) hl hz (by simpa using ho) hs];rfl
theorem GoodS.fin {w:List Data}{n:Nat}{t:Ty}{p:Pat}{c:Int}{x:Nat×List Vt×Int} (hl:p.kids.length=(typesP w t p).length) (hg:GoodS w n t p c x) (hge:p.kids.length≤x.1):
  finV (scanK (scanP w n) (decide (p.op=5)) (typesP w t p) p.kids 0 (nameP t p) (c+1))=(if nodupV x.2.1=true then some x.2.1 else Option.none,x.2.2):=by
 rw[←hg.eq,scanK_end (by omega)]
 unfold finV
 simp only
 split<;>rfl
theorem nodup_app {pre rest l:List Vt}{y:Vt} (h:pre++y::rest=l) (hm:y.var∈pre.map Vt.var):nodupV l=false:=by
 unfold nodupV
 refine decide_eq_false (fun hn=>?_)
 rw[←h,List.map_append,List.map_cons,List.nodup_append] at hn
 exact hn.2.2 _ hm _ (by simp) rfl
theorem nodup_snoc {pre:List Vt}{y:Vt} (h:(pre.map Vt.var).Nodup) (hm:y.var∉pre.map Vt.var):((pre++[y]).map Vt.var).Nodup:=by
 rw[List.map_append,List.nodup_append]
 exact⟨h,by simp,fun a ha b hb=>by simp at hb;subst hb;exact fun e=>hm (e ▸ ha)⟩
def retV (r:Option (List Vt)×Int):AV:= .tup [.d (encVts (someV r.1)),.d (.bool r.1.isSome)]
theorem impl_patternScan_fn {w:List Data} (hw:WT w):∀(n:Nat){a k d c:Int}{p:Pat},d+n=11→n≤10→TyIn w.length ⟨a,k⟩→p.ok→0≤c→c≤1000000000000→
  FnD Tryz.prog 76 [.d (encDatas w),.agg [.d (.i a),.d (.i k)],.agg [.d (.i p.op),.d (.i p.ctor),.d (.i p.n),.d (.i p.m),.d (.i p.var),.d (encPats p.kids)],.d (.i d),.ref 950 0] [(950,some (.box [.d (.i c)]))]
   (retV (scanP w n ⟨a,k⟩ p c)) [(950,some (.box [.d (.i (scanP w n ⟨a,k⟩ p c).2)]))]
 |0,a,k,d,c,p,hd,_,_,_,c0,c1=>by
  refine bd Tryz.f76 114 [] [2] fun w0 F0 own kept hk=>?_
  refine Walk.box (id:=3006) .none rfl rfl rfl rfl rfl rfl rfl ?_
  refine Walk.box (id:=3007) .none rfl rfl rfl rfl rfl rfl rfl ?_
  refine ev ?_
  refine ar ?_
  refine Walk.store ty3 .none rfl rfl rfl rfl rfl rfl (by simp) rfl ?_
  refine tv ?_
  refine CWp.regionJ ?_
  refine WRest.join 8 [(34,.d (.bool (true)))] [27,28,29,30,31,32,33] ?_ ?_
  ·
   refine ev ?_
   refine sq (fun h1 h1p h1s=>?_) fun h1 h1p h1s=>?_
   ·try simp only[Q] at h1p
    exact jnb rfl
   ·try simp only[Q] at h1p
    exact jnb rfl
  refine WRest.done ?_
  refine tv ?_
  refine sq (fun h2 h2p h2s=>?_) fun h2 h2p h2s=>?_
  ·try simp only[Q] at h2p
   refine rn [(950,some (.box [.d (.i (scanP w 0 ⟨a,k⟩ p c).2)]))] (r2 rfl rfl) (.tup (.cons (.nild ?_) (.cons (.eqd ?_) .nil))) ⟨rfl,rfl⟩ (SubO.get ⟨.inr (by rfl),⟨.inl rfl,trivial⟩⟩) (boxOK rfl)
   all_goals (rfl)
  ·try simp only[Q] at h2p
   exact absurd h2 (by simp)
 |n+1,a,k,d,c,p,hd,hn,ht,hok,c0,c1=>by
  by_cases h60:60<c+1
  ·have e:scanP w (n+1) ⟨a,k⟩ p c=(none,c+1):=by unfold scanP;rw[if_pos h60]
   rw[e]
   refine bd Tryz.f76 114 [] [2] fun w0 F0 own kept hk=>?_
   refine Walk.box (id:=3006) .none rfl rfl rfl rfl rfl rfl rfl ?_
   refine Walk.box (id:=3007) .none rfl rfl rfl rfl rfl rfl rfl ?_
   refine ev ?_
   refine ar ?_
   refine Walk.store ty3 .none rfl rfl rfl rfl rfl rfl (by simp) rfl ?_
   refine tv ?_
   refine CWp.regionJ ?_
   refine WRest.join 8 [(34,.d (.bool (true)))] [27,28,29,30,31,32,33] ?_ ?_
   ·
    refine ev ?_
    refine sq (fun h1 h1p h1s=>?_) fun h1 h1p h1s=>?_
    ·try simp only[Q] at h1p
     exact jnb rfl
    ·try simp only[Q] at h1p
     exact jnb rfl
   refine WRest.done ?_
   refine tv ?_
   refine sq (fun h2 h2p h2s=>?_) fun h2 h2p h2s=>?_
   ·try simp only[Q] at h2p
    refine rn [(950,some (.box [.d (.i (c+1))]))] (r2 rfl rfl) (.tup (.cons (.nild ?_) (.cons (.eqd ?_) .nil))) ⟨rfl,rfl⟩ (SubO.get ⟨.inr (by rfl),⟨.inl rfl,trivial⟩⟩) (boxOK rfl)
    all_goals (rfl)
   ·try simp only[Q] at h2p
    exact absurd h2 (by simp)
  have hsh:=impl_shape_fn hw (p:=p) ht
  by_cases hop:okP w ⟨a,k⟩ p=true
  ·have hok':=hok
   rw[Pat.ok_iff] at hok
   have hop':=hop
   unfold okP at hop'
   simp only[Bool.and_eq_true,decide_eq_true_eq] at hop'
   obtain⟨ho,hl⟩:=hop'
   have hin:=typesP_in hw ht ho
   have hlen:=typesP_len hw ht (ownP_mem ho)
   have hst:shapeT w ⟨a,k⟩ p=typesP w ⟨a,k⟩ p:=by unfold shapeT;rw[if_neg (fun h=>h.2 (ownP_mem ho h.1))]
   rw[hst,hop] at hsh
   have e:scanP w (n+1) ⟨a,k⟩ p c=finV (scanK (scanP w n) (decide (p.op=5)) (typesP w ⟨a,k⟩ p) p.kids 0 (nameP ⟨a,k⟩ p) (c+1)):=by
    conv=>lhs;unfold scanP
    rw[if_neg h60,if_pos hop]
   have hnr:InR (nameP ⟨a,k⟩ p):=fun v hv=>by
    unfold nameP at hv
    split at hv
    ·rename_i hop
     simp only[List.mem_cons,List.not_mem_nil,or_false] at hv
     subst hv
     exact ownP_var ho hop
    ·simp at hv
   have hnl:=nameP_len ⟨a,k⟩ p
   rw[e]
   refine bd Tryz.f76 114 [14,108] [2,8,17] fun w0 F0 own kept hk=>?_
   refine Walk.box (id:=3006) .none rfl rfl rfl rfl rfl rfl rfl ?_
   refine Walk.box (id:=3007) .none rfl rfl rfl rfl rfl rfl rfl ?_
   refine evs [14,108] [] ?_
   refine ar ?_
   refine Walk.store ty3 .none rfl rfl rfl rfl rfl rfl (by simp) rfl ?_
   refine tv ?_
   refine CWp.regionJ ?_
   refine WRest.join 8 [(34,.d (.bool (false)))] [27,28,29,30,31,32,33] ?_ ?_
   ·
    refine evs [14,108] [] ?_
    refine sq (fun h1 h1p h1s=>?_) fun h1 h1p h1s=>?_
    ·try simp only[Q,Pat.cs_len] at h1p
     exact jnb rfl
    ·try simp only[Q,Pat.cs_len] at h1p
     exact jnb rfl
   refine WRest.done ?_
   refine tv ?_
   refine sq (fun h2 h2p h2s=>?_) fun h2 h2p h2s=>?_
   ·try simp only[Q,Pat.cs_len] at h2p
    exact absurd h2 (by simp)
   ·try simp only[Q,Pat.cs_len] at h2p
    refine Walk.call (cr:=[]) cal102 (hsh) rfl .none rfl rfl (LeL.refl _) trivial rfl rfl rfl ?_
    refine evs [14,108] [] ?_
    refine sq (fun h3 h3p h3s=>?_) fun h3 h3p h3s=>?_
    ·try simp only[Q,Pat.cs_len] at h3p
     exact absurd h3 (by simp)
    ·try simp only[Q,Pat.cs_len] at h3p
     refine Walk.assignNil 5 3 .none rfl rfl ?_
     refine tv ?_
     refine CWp.regionJ ?_
     refine WRest.join 8 [(51,.d (.bool (decide (p.op=2∨p.op=6))))] [44,45,46,47,48,49,50] ?_ ?_
     ·
      refine evs [14,108] [] ?_
      refine sq (fun h4 h4p h4s=>?_) fun h4 h4p h4s=>?_
      ·try simp only[Q,Pat.cs_len] at h4p
       exact jnb rfl
      ·try simp only[Q,Pat.cs_len] at h4p
       exact jnb rfl
     refine WRest.done ?_
     refine tv ?_
     refine sq (fun h5 h5p h5s=>?_) fun h5 h5p h5s=>?_
     ·try simp only[Q,Pat.cs_len] at h5p
      refine Walk.build st115 (ks:=[0,1]) (xs:=[_,_]) rfl rfl .none rfl rfl rfl ?_
      refine Walk.sliceLit sl86 tz115 rfl (by decide) (ks:=[0]) (xs:=[_]) rfl rfl (by decide) (by decide) .none rfl rfl rfl rfl ?_
      refine Walk.append sl86 zz115 rfl .none rfl rfl rfl rfl (htokL rfl (by first|rfl|(simp;done)|(simp;omega))) (by simp) (by(simp;done)) (by(simp;done)) ?_
      refine asg ?_
      refine tv ?_
      refine CWp.loopX (ι:=Nat×List Vt×Int) hk (fun z=>[(62,.d (.i (z.1:Int))),(14,.gl 5 (z.2.1.map Vt.c))]) [10,11,15,16,17,18,63,64,65,66,67,68,69,70,71,72,73,74,75,76,77,78,79,80,81,82,83,84,85,86,87,88,89,90,91,92,93,94,95,96,97,98] (fun z=>[(950,some (.box [.d (.i z.2.2)])),(5,some (.tok ((z.2.1.map Vt.c)).length 3))]) (fun z=>GoodS w n ⟨a,k⟩ p c z) (fun z=>p.kids.length-z.1) (0,nameP ⟨a,k⟩ p,c+1) ⟨by simp,by simp,by dsimp only;omega,by dsimp only;omega,by dsimp only;omega,by dsimp only;omega,hnr⟩ ⟨⟨_,rfl,(LeA.eqi (by rfl))⟩,⟨⟨_,rfl,(LeA.glg (by(simp_all[nameP];done)))⟩,trivial⟩⟩ ⟨(by first|rfl|(simp[getH];done)),⟨beq_nat_eq (by(first|rfl|(simp;done)|(dsimp only;omega)|(simp_all[nameP];done)|(unfold nextS;dsimp only;rw[if_neg (by simp_all)];simp;done)|(unfold nextS;dsimp only;rw[if_pos (by simp_all)];done))),trivial⟩⟩ (fun x=>rfl) (fun z hg1=>?_)
      obtain⟨s1,_,s3,s4,s5,s6,s7⟩:=id hg1
      refine evc [14,108] [2,8,17] ?_
      refine sq (fun h6 h6p h6s=>?_) fun h6 h6p h6s=>?_
      ·try simp only[Q,Pat.cs_len] at h6p
       refine Walk.idx sl35 .none rfl rfl rfl rfl (pats_at (by omega)) rfl ?_
       refine evs [14,108] [] ?_
       refine Walk.alloc (id:=3016) tz37 rfl .none rfl rfl rfl rfl ?_
       refine evs [14,108] [] ?_
       refine Walk.store ty37 .none rfl rfl rfl rfl rfl rfl (by simp) rfl ?_
       refine tv ?_
       refine Walk.idx sl102 .none rfl rfl rfl rfl (at_nth (by omega)) rfl ?_
       refine evd [14,108] [] ?_
       refine ar ?_
       refine Walk.call (cr:=[]) cal76 (impl_patternScan_fn hw n (a:=(nth (typesP w ⟨a,k⟩ p) z.1).data) (k:=(nth (typesP w ⟨a,k⟩ p) z.1).index) (c:=z.2.2) (p:=nth p.kids z.1) (by omega) (by omega) (hin _ (nth_mem (by omega))) (Pats.ok_mem hok.2 _ (nth_mem (by omega))) (by omega) (by omega)) rfl .none rfl rfl (LeL.refl _) ⟨rfl,trivial⟩ rfl rfl rfl ?_
       refine evd [14,108] [] ?_
       refine dr ?_
       refine sq (fun h7 h7p h7s=>?_) fun h7 h7p h7s=>?_
       ·try simp only[Q,Pat.cs_len] at h7p
        refine rn [(950,some (.box [.d (.i (finV (scanK (scanP w n) (decide (p.op=5)) (typesP w ⟨a,k⟩ p) p.kids 0 (nameP ⟨a,k⟩ p) (c+1))).2)]))] (r2 rfl rfl) (.tup (.cons (.nild ?_) (.cons (.eqd ?_) .nil))) ⟨rfl,rfl⟩ (SubO.get ⟨.inr (by(show some (Res.box _)=some (Res.box _);rw[hg1.none hl (by omega) (by assumption)];done)),⟨.inl rfl,trivial⟩⟩) (boxOK rfl)
        all_goals ((rw[hg1.none hl (by omega) (by assumption)];first|done|rfl))
       ·try simp only[Q,Pat.cs_len] at h7p
        refine CWp.regionJ ?_
        refine WRest.join 7 [(93,.d (.bool (decide (p.op=5∧z.1=1))))] [87,88,89,90,91,92] ?_ ?_
        ·
         refine evs [14,108] [] ?_
         refine sq (fun h8 h8p h8s=>?_) fun h8 h8p h8s=>?_
         ·try simp only[Q,Pat.cs_len] at h8p
          exact jnb rfl
         ·try simp only[Q,Pat.cs_len] at h8p
          exact jnb rfl
        refine WRest.done ?_
        refine evs [14,108] [] ?_
        refine sq (fun h9 h9p h9s=>?_) fun h9 h9p h9s=>?_
        ·try simp only[Q,Pat.cs_len] at h9p
         refine Walk.call (cr:=[]) cal103 (impl_sameVars_fn (by omega) (by have hz:=(someV_ok w n ⟨(nth (typesP w ⟨a,k⟩ p) z.1).data,(nth (typesP w ⟨a,k⟩ p) z.1).index⟩ (nth p.kids z.1) z.2.2).2;omega)) rfl .none rfl rfl (.cons (.gl _ _) (.cons (.refl _) .nil)) trivial rfl rfl rfl ?_
         refine evs [14,108] [] ?_
         refine sq (fun h10 h10p h10s=>?_) fun h10 h10p h10s=>?_
         ·try simp only[Q,Pat.cs_len] at h10p
          refine rn [(950,some (.box [.d (.i (finV (scanK (scanP w n) (decide (p.op=5)) (typesP w ⟨a,k⟩ p) p.kids 0 (nameP ⟨a,k⟩ p) (c+1))).2)]))] (r2 rfl rfl) (.tup (.cons (.nild ?_) (.cons (.eqd ?_) .nil))) ⟨rfl,rfl⟩ (SubO.get ⟨.inr (by(show some (Res.box _)=some (Res.box _);rw[hg1.bad hl (by omega) (by assumption) (by assumption) (by assumption)];done)),⟨.inl rfl,trivial⟩⟩) (boxOK rfl)
          all_goals ((rw[hg1.bad hl (by omega) (by assumption) (by assumption) (by assumption)];first|done|rfl))
         ·try simp only[Q,Pat.cs_len] at h10p
          refine ar ?_
          refine Exists.intro ((nextS w n ⟨a,k⟩ p z)) ⟨(hg1.next hl (by omega) (by simp_all) (fun ho=>by simp_all)),(by unfold nextS;dsimp only;omega),Sub.x (by kernel_rfl) (by kernel_rfl) ⟨⟨_,rfl,(LeA.eqi (by rfl))⟩,⟨⟨_,rfl,(LeA.glg (by(simp_all[nameP];done)))⟩,trivial⟩⟩ (by kernel_rfl) (by kernel_rfl) ⟨(by first|rfl|(simp[getH];done)),⟨beq_nat_eq (by(simp;omega)),trivial⟩⟩⟩
        ·try simp only[Q,Pat.cs_len] at h9p
         refine Walk.append sl86 zz115 rfl .none rfl rfl rfl rfl (htokL rfl (by first|rfl|(simp;done)|(simp;omega))) (by simp) (by(have hz:=(someV_ok w n ⟨(nth (typesP w ⟨a,k⟩ p) z.1).data,(nth (typesP w ⟨a,k⟩ p) z.1).index⟩ (nth p.kids z.1) z.2.2).2;simp;omega)) (by(have hz:=(someV_ok w n ⟨(nth (typesP w ⟨a,k⟩ p) z.1).data,(nth (typesP w ⟨a,k⟩ p) z.1).index⟩ (nth p.kids z.1) z.2.2).2;simp;omega)) ?_
         refine asg ?_
         refine tv ?_
         refine ar ?_
         refine Exists.intro ((nextS w n ⟨a,k⟩ p z)) ⟨(hg1.next hl (by omega) (by simp_all) (fun ho=>by simp_all)),(by unfold nextS;dsimp only;omega),Sub.x (by kernel_rfl) (by kernel_rfl) ⟨⟨_,rfl,(LeA.eqi (by rfl))⟩,⟨⟨_,rfl,(LeA.glg (by(unfold nextS;dsimp only;rw[if_neg (by simp_all)];simp;done)))⟩,trivial⟩⟩ (by kernel_rfl) (by kernel_rfl) ⟨(by first|rfl|(simp[getH];done)),⟨beq_nat_eq (by(first|rfl|(simp;done)|(dsimp only;omega)|(simp_all[nameP];done)|(unfold nextS;dsimp only;rw[if_neg (by simp_all)];simp;done)|(unfold nextS;dsimp only;rw[if_pos (by simp_all)];done))),trivial⟩⟩⟩
      ·try simp only[Q,Pat.cs_len] at h6p
       refine Walk.alloc (id:=3019) tz143 rfl .none rfl rfl rfl rfl ?_
       refine tv ?_
       refine CWp.loopX (ι:=List (Vt)×List (Vt)) hk (fun x=>[(101,.d (.i (x.1.length:Int)))]) [10,11,21,102,103,104,105,106,107,108,109,110,111,112] (fun x=>[(3019,some (.box (metA (x.1.map Vt.var))))]) (fun x=>x.1++x.2=z.2.1∧(x.1.map Vt.var).Nodup) (fun x=>x.2.length) ([],z.2.1) ⟨by simp,by simp⟩ ⟨⟨_,rfl,(LeA.eqi (by first|rfl|(simp;done)|(simp_all;done)|omega))⟩,trivial⟩ ⟨(by first|rfl|(simp[getH];done)),trivial⟩ (fun x=>rfl) (fun x hg2=>?_)
       obtain⟨pre,rest⟩:=x
       dsimp only at hg2 ⊢
       refine evc [14,108] [2,8,17] ?_
       refine sq (fun h11 h11p h11s=>?_) fun h11 h11p h11s=>?_
       ·try simp only[Q,Pat.cs_len] at h11p
        rcases rest with _|⟨y,rest⟩
        ·exfalso;simp_all
        have hy:=s7 y (by rw[←hg2.1];simp)
        refine Walk.idxG sl86 .none rfl rfl rfl rfl (zip_at hg2.1) rfl ?_
        refine evs [14,108] [] ?_
        refine Walk.alloc (id:=3021) tz115 rfl .none rfl rfl rfl rfl ?_
        refine Walk.store ty115 .none rfl rfl rfl rfl rfl rfl (by simp) rfl ?_
        refine tv ?_
        refine Walk.idxA (i:=y.var.toNat) ar143 .none rfl rfl rfl (Int.toNat_of_nonneg hy.1).symm (by omega) ?_
        refine Walk.loadB ty4 .none rfl rfl rfl ((by simpa using metA_get hy.1 hy.2)) ?_
        refine tv ?_
        refine sq (fun h12 h12p h12s=>?_) fun h12 h12p h12s=>?_
        ·try simp only[Q,Pat.cs_len] at h12p
         refine rn [(950,some (.box [.d (.i (finV (scanK (scanP w n) (decide (p.op=5)) (typesP w ⟨a,k⟩ p) p.kids 0 (nameP ⟨a,k⟩ p) (c+1))).2)]))] (r2 rfl rfl) (.tup (.cons (.nild ?_) (.cons (.eqd ?_) .nil))) ⟨rfl,rfl⟩ (SubO.get ⟨.inr (by(show some (Res.box _)=some (Res.box _);rw[hg1.fin hl (by omega)];done)),⟨.inl rfl,trivial⟩⟩) (boxOK rfl)
         all_goals ((rw[hg1.fin hl (by omega),if_neg (by rw[nodup_app hg2.1 (by assumption)];simp)];first|done|rfl))
        ·try simp only[Q,Pat.cs_len] at h12p
         refine Walk.idxA (i:=y.var.toNat) ar143 .none rfl rfl rfl (Int.toNat_of_nonneg hy.1).symm (by omega) ?_
         refine Walk.store ty4 .none rfl rfl rfl rfl rfl rfl (by simp) ((by simpa using metA_put hy.1 hy.2)) ?_
         refine tv ?_
         refine ar ?_
         refine Exists.intro ((pre++[y],rest)) ⟨⟨(by have hz:=hg2.1;rw[←hz];simp),(nodup_snoc hg2.2 (by simp_all))⟩,(by simp),Sub.x (by kernel_rfl) (by kernel_rfl) ⟨⟨_,rfl,(LeA.eqi (by first|rfl|(simp;done)|(simp_all;done)|omega))⟩,trivial⟩ (by kernel_rfl) (by kernel_rfl) ⟨(by first|rfl|(simp[getH];done)),trivial⟩⟩
       ·try simp only[Q,Pat.cs_len] at h11p
        have hrest:rest=[]:=by
         rcases rest with _|⟨a,b⟩
         ·rfl
         ·exfalso;have hz:=congrArg List.length (hg2.1);simp only[List.length_append,List.length_cons,List.length_map] at hz;omega
        subst hrest
        refine rn [(950,some (.box [.d (.i (finV (scanK (scanP w n) (decide (p.op=5)) (typesP w ⟨a,k⟩ p) p.kids 0 (nameP ⟨a,k⟩ p) (c+1))).2)]))] (r2 rfl rfl) (.tup (.cons (.gld ?_) (.cons (.eqd ?_) .nil))) ⟨rfl,rfl⟩ (SubO.get ⟨.inr (by(show some (Res.box _)=some (Res.box _);rw[hg1.fin hl (by omega)];done)),⟨.inl rfl,trivial⟩⟩) (boxOK rfl)
        all_goals ((rw[hg1.fin hl (by omega),if_pos (by have hz:=hg2.1;rw[List.append_nil] at hz;rw[←hz];exact decide_eq_true hg2.2)];first|done|rfl))
     ·try simp only[Q,Pat.cs_len] at h5p
      refine CWp.loopX (ι:=Nat×List Vt×Int) hk (fun z=>[(62,.d (.i (z.1:Int))),(14,.gl 5 (z.2.1.map Vt.c))]) [10,11,15,16,17,18,63,64,65,66,67,68,69,70,71,72,73,74,75,76,77,78,79,80,81,82,83,84,85,86,87,88,89,90,91,92,93,94,95,96,97,98] (fun z=>[(950,some (.box [.d (.i z.2.2)])),(5,some (.tok ((z.2.1.map Vt.c)).length 3))]) (fun z=>GoodS w n ⟨a,k⟩ p c z) (fun z=>p.kids.length-z.1) (0,nameP ⟨a,k⟩ p,c+1) ⟨by simp,by simp,by dsimp only;omega,by dsimp only;omega,by dsimp only;omega,by dsimp only;omega,hnr⟩ ⟨⟨_,rfl,(LeA.eqi (by rfl))⟩,⟨⟨_,rfl,(LeA.glg (by(simp_all[nameP];done)))⟩,trivial⟩⟩ ⟨(by first|rfl|(simp[getH];done)),⟨beq_nat_eq (by(first|rfl|(simp;done)|(dsimp only;omega)|(simp_all[nameP];done)|(unfold nextS;dsimp only;rw[if_neg (by simp_all)];simp;done)|(unfold nextS;dsimp only;rw[if_pos (by simp_all)];done))),trivial⟩⟩ (fun x=>rfl) (fun z hg1=>?_)
      obtain⟨s1,_,s3,s4,s5,s6,s7⟩:=id hg1
      refine evc [14,108] [2,8,17] ?_
      refine sq (fun h13 h13p h13s=>?_) fun h13 h13p h13s=>?_
      ·try simp only[Q,Pat.cs_len] at h13p
       refine Walk.idx sl35 .none rfl rfl rfl rfl (pats_at (by omega)) rfl ?_
       refine evs [14,108] [] ?_
       refine Walk.alloc (id:=3016) tz37 rfl .none rfl rfl rfl rfl ?_
       refine evs [14,108] [] ?_
       refine Walk.store ty37 .none rfl rfl rfl rfl rfl rfl (by simp) rfl ?_
       refine tv ?_
       refine Walk.idx sl102 .none rfl rfl rfl rfl (at_nth (by omega)) rfl ?_
       refine evd [14,108] [] ?_
       refine ar ?_
       refine Walk.call (cr:=[]) cal76 (impl_patternScan_fn hw n (a:=(nth (typesP w ⟨a,k⟩ p) z.1).data) (k:=(nth (typesP w ⟨a,k⟩ p) z.1).index) (c:=z.2.2) (p:=nth p.kids z.1) (by omega) (by omega) (hin _ (nth_mem (by omega))) (Pats.ok_mem hok.2 _ (nth_mem (by omega))) (by omega) (by omega)) rfl .none rfl rfl (LeL.refl _) ⟨rfl,trivial⟩ rfl rfl rfl ?_
       refine evd [14,108] [] ?_
       refine dr ?_
       refine sq (fun h14 h14p h14s=>?_) fun h14 h14p h14s=>?_
       ·try simp only[Q,Pat.cs_len] at h14p
        refine rn [(950,some (.box [.d (.i (finV (scanK (scanP w n) (decide (p.op=5)) (typesP w ⟨a,k⟩ p) p.kids 0 (nameP ⟨a,k⟩ p) (c+1))).2)]))] (r2 rfl rfl) (.tup (.cons (.nild ?_) (.cons (.eqd ?_) .nil))) ⟨rfl,rfl⟩ (SubO.get ⟨.inr (by(show some (Res.box _)=some (Res.box _);rw[hg1.none hl (by omega) (by assumption)];done)),⟨.inl rfl,trivial⟩⟩) (boxOK rfl)
        all_goals ((rw[hg1.none hl (by omega) (by assumption)];first|done|rfl))
       ·try simp only[Q,Pat.cs_len] at h14p
        refine CWp.regionJ ?_
        refine WRest.join 7 [(93,.d (.bool (decide (p.op=5∧z.1=1))))] [87,88,89,90,91,92] ?_ ?_
        ·
         refine evs [14,108] [] ?_
         refine sq (fun h15 h15p h15s=>?_) fun h15 h15p h15s=>?_
         ·try simp only[Q,Pat.cs_len] at h15p
          exact jnb rfl
         ·try simp only[Q,Pat.cs_len] at h15p
          exact jnb rfl
        refine WRest.done ?_
        refine evs [14,108] [] ?_
        refine sq (fun h16 h16p h16s=>?_) fun h16 h16p h16s=>?_
        ·try simp only[Q,Pat.cs_len] at h16p
         refine Walk.call (cr:=[]) cal103 (impl_sameVars_fn (by omega) (by have hz:=(someV_ok w n ⟨(nth (typesP w ⟨a,k⟩ p) z.1).data,(nth (typesP w ⟨a,k⟩ p) z.1).index⟩ (nth p.kids z.1) z.2.2).2;omega)) rfl .none rfl rfl (.cons (.gl _ _) (.cons (.refl _) .nil)) trivial rfl rfl rfl ?_
         refine evs [14,108] [] ?_
         refine sq (fun h17 h17p h17s=>?_) fun h17 h17p h17s=>?_
         ·try simp only[Q,Pat.cs_len] at h17p
          refine rn [(950,some (.box [.d (.i (finV (scanK (scanP w n) (decide (p.op=5)) (typesP w ⟨a,k⟩ p) p.kids 0 (nameP ⟨a,k⟩ p) (c+1))).2)]))] (r2 rfl rfl) (.tup (.cons (.nild ?_) (.cons (.eqd ?_) .nil))) ⟨rfl,rfl⟩ (SubO.get ⟨.inr (by first|(show some (Res.box _)=some (Res.box _);rw[hg1.none hl (by omega) (by assumption)];done)|(show some (Res.box _)=some (Res.box _);rw[hg1.bad hl (by omega) (by assumption) (by assumption) (by assumption)];done)|(show some (Res.box _)=some (Res.box _);rw[hg1.fin hl (by omega)];done)),⟨.inl rfl,trivial⟩⟩) (boxOK rfl)
          all_goals ((rw[hg1.bad hl (by omega) (by assumption) (by assumption) (by assumption)];first|done|rfl))
         ·try simp only[Q,Pat.cs_len] at h17p
          refine ar ?_
          refine Exists.intro ((nextS w n ⟨a,k⟩ p z)) ⟨(hg1.next hl (by omega) (by simp_all) (fun ho=>by simp_all)),(by unfold nextS;dsimp only;omega),Sub.x (by kernel_rfl) (by kernel_rfl) ⟨⟨_,rfl,(LeA.eqi (by rfl))⟩,⟨⟨_,rfl,(LeA.glg (by(unfold nextS;dsimp only;rw[if_pos (by simp_all)];done)))⟩,trivial⟩⟩ (by kernel_rfl) (by kernel_rfl) ⟨(by first|rfl|(simp[getH];done)),⟨beq_nat_eq (by(first|rfl|(simp;done)|(dsimp only;omega)|(simp_all[nameP];done)|(unfold nextS;dsimp only;rw[if_neg (by simp_all)];simp;done)|(unfold nextS;dsimp only;rw[if_pos (by simp_all)];done))),trivial⟩⟩⟩
        ·try simp only[Q,Pat.cs_len] at h16p
         refine Walk.append sl86 zz115 rfl .none rfl rfl rfl rfl (htokL rfl (by first|rfl|(simp;done)|(simp;omega))) (by simp) (by(have hz:=(someV_ok w n ⟨(nth (typesP w ⟨a,k⟩ p) z.1).data,(nth (typesP w ⟨a,k⟩ p) z.1).index⟩ (nth p.kids z.1) z.2.2).2;simp;omega)) (by(have hz:=(someV_ok w n ⟨(nth (typesP w ⟨a,k⟩ p) z.1).data,(nth (typesP w ⟨a,k⟩ p) z.1).index⟩ (nth p.kids z.1) z.2.2).2;simp;omega)) ?_
         refine asg ?_
         refine tv ?_
         refine ar ?_
         refine Exists.intro ((nextS w n ⟨a,k⟩ p z)) ⟨(hg1.next hl (by omega) (by simp_all) (fun ho=>by simp_all)),(by unfold nextS;dsimp only;omega),Sub.x (by kernel_rfl) (by kernel_rfl) ⟨⟨_,rfl,(LeA.eqi (by rfl))⟩,⟨⟨_,rfl,(LeA.glg (by(unfold nextS;dsimp only;rw[if_neg (by simp_all)];simp;done)))⟩,trivial⟩⟩ (by kernel_rfl) (by kernel_rfl) ⟨(by first|rfl|(simp[getH];done)),⟨beq_nat_eq (by(first|rfl|(simp;done)|(dsimp only;omega)|(simp_all[nameP];done)|(unfold nextS;dsimp only;rw[if_neg (by simp_all)];simp;done)|(unfold nextS;dsimp only;rw[if_pos (by simp_all)];done))),trivial⟩⟩⟩
      ·try simp only[Q,Pat.cs_len] at h13p
       refine Walk.alloc (id:=3019) tz143 rfl .none rfl rfl rfl rfl ?_
       refine tv ?_
       refine CWp.loopX (ι:=List (Vt)×List (Vt)) hk (fun x=>[(101,.d (.i (x.1.length:Int)))]) [10,11,21,102,103,104,105,106,107,108,109,110,111,112] (fun x=>[(3019,some (.box (metA (x.1.map Vt.var))))]) (fun x=>x.1++x.2=z.2.1∧(x.1.map Vt.var).Nodup) (fun x=>x.2.length) ([],z.2.1) ⟨by simp,by simp⟩ ⟨⟨_,rfl,(LeA.eqi (by first|rfl|(simp;done)|(simp_all;done)|omega))⟩,trivial⟩ ⟨(by first|rfl|(simp[getH];done)),trivial⟩ (fun x=>rfl) (fun x hg2=>?_)
       obtain⟨pre,rest⟩:=x
       dsimp only at hg2 ⊢
       refine evc [14,108] [2,8,17] ?_
       refine sq (fun h18 h18p h18s=>?_) fun h18 h18p h18s=>?_
       ·try simp only[Q,Pat.cs_len] at h18p
        rcases rest with _|⟨y,rest⟩
        ·exfalso;simp_all
        have hy:=s7 y (by rw[←hg2.1];simp)
        refine Walk.idxG sl86 .none rfl rfl rfl rfl (zip_at hg2.1) rfl ?_
        refine evs [14,108] [] ?_
        refine Walk.alloc (id:=3021) tz115 rfl .none rfl rfl rfl rfl ?_
        refine Walk.store ty115 .none rfl rfl rfl rfl rfl rfl (by simp) rfl ?_
        refine tv ?_
        refine Walk.idxA (i:=y.var.toNat) ar143 .none rfl rfl rfl (Int.toNat_of_nonneg hy.1).symm (by omega) ?_
        refine Walk.loadB ty4 .none rfl rfl rfl ((by simpa using metA_get hy.1 hy.2)) ?_
        refine tv ?_
        refine sq (fun h19 h19p h19s=>?_) fun h19 h19p h19s=>?_
        ·try simp only[Q,Pat.cs_len] at h19p
         refine rn [(950,some (.box [.d (.i (finV (scanK (scanP w n) (decide (p.op=5)) (typesP w ⟨a,k⟩ p) p.kids 0 (nameP ⟨a,k⟩ p) (c+1))).2)]))] (r2 rfl rfl) (.tup (.cons (.nild ?_) (.cons (.eqd ?_) .nil))) ⟨rfl,rfl⟩ (SubO.get ⟨.inr (by(show some (Res.box _)=some (Res.box _);rw[hg1.fin hl (by omega)];done)),⟨.inl rfl,trivial⟩⟩) (boxOK rfl)
         all_goals ((rw[hg1.fin hl (by omega),if_neg (by rw[nodup_app hg2.1 (by assumption)];simp)];first|done|rfl))
        ·try simp only[Q,Pat.cs_len] at h19p
         refine Walk.idxA (i:=y.var.toNat) ar143 .none rfl rfl rfl (Int.toNat_of_nonneg hy.1).symm (by omega) ?_
         refine Walk.store ty4 .none rfl rfl rfl rfl rfl rfl (by simp) ((by simpa using metA_put hy.1 hy.2)) ?_
         refine tv ?_
         refine ar ?_
         refine Exists.intro ((pre++[y],rest)) ⟨⟨(by have hz:=hg2.1;rw[←hz];simp),(nodup_snoc hg2.2 (by simp_all))⟩,(by simp),Sub.x (by kernel_rfl) (by kernel_rfl) ⟨⟨_,rfl,(LeA.eqi (by first|rfl|(simp;done)|(simp_all;done)|omega))⟩,trivial⟩ (by kernel_rfl) (by kernel_rfl) ⟨(by first|rfl|(simp[getH];done)),trivial⟩⟩
       ·try simp only[Q,Pat.cs_len] at h18p
        have hrest:rest=[]:=by
         rcases rest with _|⟨a,b⟩
         ·rfl
         ·exfalso;have hz:=congrArg List.length (hg2.1);simp only[List.length_append,List.length_cons,List.length_map] at hz;omega
        subst hrest
        refine rn [(950,some (.box [.d (.i (finV (scanK (scanP w n) (decide (p.op=5)) (typesP w ⟨a,k⟩ p) p.kids 0 (nameP ⟨a,k⟩ p) (c+1))).2)]))] (r2 rfl rfl) (.tup (.cons (.gld ?_) (.cons (.eqd ?_) .nil))) ⟨rfl,rfl⟩ (SubO.get ⟨.inr (by(show some (Res.box _)=some (Res.box _);rw[hg1.fin hl (by omega)];done)),⟨.inl rfl,trivial⟩⟩) (boxOK rfl)
        all_goals (first|(rw[hg1.none hl (by omega) (by assumption)];first|done|rfl)|(rw[hg1.bad hl (by omega) (by assumption) (by assumption) (by assumption)];first|done|rfl)|(rw[hg1.fin hl (by omega),if_neg (by rw[nodup_app hg2.1 (by assumption)];simp)];first|done|rfl)|(rw[hg1.fin hl (by omega),if_pos (by have hz:=hg2.1;rw[List.append_nil] at hz;rw[←hz];exact decide_eq_true hg2.2)];first|done|rfl))
  ·have hopf:okP w ⟨a,k⟩ p=false:=by simpa using hop
   have e:scanP w (n+1) ⟨a,k⟩ p c=(none,c+1):=by unfold scanP;rw[if_neg h60,if_neg hop]
   rw[e]
   rw[hopf] at hsh
   refine bd Tryz.f76 114 [] [2] fun w0 F0 own kept hk=>?_
   refine Walk.box (id:=3006) .none rfl rfl rfl rfl rfl rfl rfl ?_
   refine Walk.box (id:=3007) .none rfl rfl rfl rfl rfl rfl rfl ?_
   refine ev ?_
   refine ar ?_
   refine Walk.store ty3 .none rfl rfl rfl rfl rfl rfl (by simp) rfl ?_
   refine tv ?_
   refine CWp.regionJ ?_
   refine WRest.join 8 [(34,.d (.bool (false)))] [27,28,29,30,31,32,33] ?_ ?_
   ·
    refine ev ?_
    refine sq (fun h1 h1p h1s=>?_) fun h1 h1p h1s=>?_
    ·try simp only[Q] at h1p
     exact jnb rfl
    ·try simp only[Q] at h1p
     exact jnb rfl
   refine WRest.done ?_
   refine tv ?_
   refine sq (fun h2 h2p h2s=>?_) fun h2 h2p h2s=>?_
   ·try simp only[Q] at h2p
    exact absurd h2 (by simp)
   ·try simp only[Q] at h2p
    refine Walk.call (cr:=[]) cal102 (hsh) rfl .none rfl rfl (LeL.refl _) trivial rfl rfl rfl ?_
    refine ev ?_
    refine sq (fun h3 h3p h3s=>?_) fun h3 h3p h3s=>?_
    ·try simp only[Q] at h3p
     refine rn [(950,some (.box [.d (.i (c+1))]))] (r2 rfl rfl) (.tup (.cons (.nild ?_) (.cons (.eqd ?_) .nil))) ⟨rfl,rfl⟩ (SubO.get ⟨.inr (by rfl),⟨.inl rfl,trivial⟩⟩) (boxOK rfl)
     all_goals (rfl)
    ·try simp only[Q] at h3p
     exact absurd h3 (by simp)
end Go.Proofs.YtflgpdjbgfkhoaaGreat
namespace Go.Proofs.YtflgpdjbgfkhoaaGreat
open Go
set_option linter.unusedSimpArgs false
set_option linter.unusedVariables false
set_option maxRecDepth 100000
set_option maxHeartbeats 2000000
theorem tyS_ij {i j:Nat} (h:j<4):tyS (i*4+j)=⟨(i:Int),(j:Int)⟩:=by
 unfold tyS
 rw[show(i*4+j) / 4=i by omega,show(i*4+j) % 4=j by omega]
end Go.Proofs.YtflgpdjbgfkhoaaGreat
namespace Go.Proofs.YtflgpdjbgfkhoaaGreat
open Go
set_option linter.unusedSimpArgs false
set_option linter.unusedVariables false
set_option maxRecDepth 100000
set_option maxHeartbeats 4000000
theorem scan0 (w:List Data) (t:Ty) (p:Pat):(scanP w 10 t p 0).1.isSome=isP w t p:=by
 have h:=(scanP_eq w 10 t p 0).1
 rw[h]
 unfold wantP isP
 rw[Int.zero_add]
 split
 ·rename_i hz;rw[hz];rfl
 ·rename_i hz
  cases hc:(shapeP w 10 t p&&(decide ((p.size:Int)≤60)&&linP w 10 t p)) with
  |true=>exact absurd hc hz
  |false=>rfl
theorem impl_patternVars_fn {w:List Data} (hw:WT w){a k:Int}{p:Pat} (ht:TyIn w.length ⟨a,k⟩) (hok:p.ok):
  FnD Tryz.prog 49 [.d (encDatas w),.agg [.d (.i a),.d (.i k)],.agg [.d (.i p.op),.d (.i p.ctor),.d (.i p.n),.d (.i p.m),.d (.i p.var),.d (encPats p.kids)]] [] (.tup [.d (encVts (someV (scanP w 10 ⟨a,k⟩ p 0).1)),.d (.bool (isP w ⟨a,k⟩ p))]) []:=by
 rw[←scan0]
 refine bd Tryz.f49 15 [] [] fun w0 F0 own kept hk=>?_
 refine Walk.box (id:=3004) .none rfl rfl rfl rfl rfl rfl rfl ?_
 refine Walk.box (id:=3005) .none rfl rfl rfl rfl rfl rfl rfl ?_
 refine ev ?_
 refine Walk.alloc (id:=950) tz3 rfl .none rfl rfl rfl rfl ?_
 refine Walk.store ty3 .none rfl rfl rfl rfl rfl rfl (by simp) rfl ?_
 refine tv ?_
 refine Walk.call (cr:=[]) cal76 (impl_patternScan_fn hw 10 (c:=0) (by omega) (by omega) ht hok (by omega) (by omega)) rfl .none rfl rfl (LeL.refl _) ⟨rfl,trivial⟩ rfl rfl rfl ?_
 refine ev ?_
 refine rn0 (r2 rfl rfl) (.tup (.cons (.eqd ?_) (.cons (.eqd ?_) .nil)))
 all_goals (rfl)
theorem impl_patternOk_fn {w:List Data} (hw:WT w){a k:Int}{p:Pat} (ht:TyIn w.length ⟨a,k⟩) (hok:p.ok):
  FnD Tryz.prog 51 [.d (encDatas w),.agg [.d (.i a),.d (.i k)],.agg [.d (.i p.op),.d (.i p.ctor),.d (.i p.n),.d (.i p.m),.d (.i p.var),.d (encPats p.kids)]] [] (.d (.bool (isP w ⟨a,k⟩ p))) []:=by
 refine bd Tryz.f51 17 [] [] fun w0 F0 own kept hk=>?_
 refine Walk.box (id:=3004) .none rfl rfl rfl rfl rfl rfl rfl ?_
 refine Walk.box (id:=3005) .none rfl rfl rfl rfl rfl rfl rfl ?_
 refine ev ?_
 refine Walk.call (cr:=[]) cal49 (impl_patternVars_fn hw ht hok) rfl .none rfl rfl (LeL.refl _) trivial rfl rfl rfl ?_
 refine ev ?_
 refine rn0 (r1 rfl) (.eqd ?_)
 all_goals (rfl)
end Go.Proofs.YtflgpdjbgfkhoaaGreat
namespace Go.Proofs.YtflgpdjbgfkhoaaGreat
open Go
set_option linter.unusedSimpArgs false
set_option linter.unusedVariables false
set_option maxRecDepth 100000
set_option maxHeartbeats 2000000
theorem valid_dp {w:List Data} (hs:WSmall w) (hv:worldValid w=true):Dp w:=by
 have hw:=valid_wt hs hv
 have hW:=(worldValid_iff w).1 hv
 refine⟨hw,fun s hs c hc u hu=>?_,hW.len,fun s hs=>?_⟩
 ·obtain⟨j,rfl,hj⟩:=place_of (d:=s / 4) (k:=((s % 4:Nat):Int)) hc
  have hu':u∈argsOf w ⟨((s / 4:Nat):Int),((s % 4:Nat):Int)⟩ (j:Int):=hu
  simp only[argsOf,Int.toNat_natCast,List.mem_map] at hu'
  obtain⟨x,hx,rfl⟩:=hu'
  have hco:=hW.ctor _ (nth_mem (l:=w) (i:=s / 4) (by omega)) _ (nth_mem hj)
  simp only[ctorOk,Bool.and_eq_true,Bool.not_eq_true',List.any_eq_false] at hco
  have hax:argOk w.length x=true:=by
   have:=hco.2.2.2 x hx
   cases h:argOk w.length x with
   |true=>rfl
   |false=>rw[h] at this;exact absurd rfl this
  have hci:=hco.2.2.1
  simp only[argOk,within,Bool.or_eq_true,Bool.and_eq_true,decide_eq_true_eq,and_true] at hax hci
  have key:∀y:Ty,(y.data = -1∨(0≤y.data∧y.data<w.length∧0≤y.index∧y.index≤3))→InS (w.length*4) y:=by
   rintro ⟨a,k⟩ h
   rcases h with h|⟨h1,h2,h3,h4⟩
   ·exact .inl h
   ·refine .inr ⟨?_, ?_⟩
    ·simp only[slotT] at *;omega
    ·obtain⟨i,rfl⟩:=Int.eq_ofNat_of_zero_le h1
     obtain⟨m,rfl⟩:=Int.eq_ofNat_of_zero_le h3
     simp only[slotT,Int.toNat_natCast]
     exact tyS_ij (by simp only at h4;omega)
  refine key _ ?_
  unfold argTy resIx
  split
  ·dsimp only
   rcases hax with h|h
   ·omega
   ·right
    refine⟨by omega,by omega, ?_⟩
    split<;>omega
  ·rcases hax with h|h
   ·exact .inl h.1
   ·right;omega
 ·have h1:=ctorsFrom_len (tyS s).index (nth w (tyS s).data.toNat).ctors 0
  have h2:=(hW.data _ (nth_mem (l:=w) (i:=s / 4) (by omega))).2.2
  show(ctorsFrom (tyS s).index 0 (nth w (tyS s).data.toNat).ctors).length≤4
  have e:(tyS s).data.toNat=s / 4:=by simp only[tyS,Int.toNat_natCast]
  rw[e] at h1 ⊢
  omega
theorem ins_tyin {n:Nat}{t:Ty} (h:InS (n*4) t):TyIn n t:=by
 rcases h with h|⟨h1,h2⟩
 ·exact .inl h
 ·refine .inr ⟨slotT t / 4, ?_,by omega⟩
  have:=congrArg Ty.data h2
  exact this.symm
theorem args_ins {w:List Data} (hd:Dp w){t:Ty}{c:Int} (ht:InS (w.length*4) t) (hc:c∈vctors w t):∀u∈argsOf w t c,InS (w.length*4) u:=by
 rcases ht with h|⟨h1,h2⟩
 ·unfold vctors at hc;rw[if_pos h] at hc;simp at hc
 ·have hx:=hd.cl _ h1
  rw[h2] at hx
  have:c∈ctorsOf w t:=by
   unfold vctors at hc
   split at hc
   ·simp at hc
   ·exact hc
  exact hx c this
structure PKids (w:List Data) (n:Nat) (a k k':Int) (p:Pat):Prop where
 len5:p.op=5→p.kids.length=2
 len6:p.op=6→p.kids.length=1
 len4:p.op=4→p.kids.length=(argsOf w ⟨a,k⟩ p.ctor).length
 one:p.op=5∨p.op=6→shapeP w n ⟨a,k'⟩ (nth p.kids 0)=true
 two:p.op=5→shapeP w n ⟨a,k'⟩ (nth p.kids 1)=true
 arg:p.op=4→∀i,i<(argsOf w ⟨a,k⟩ p.ctor).length→shapeP w n ⟨(nth (argsOf w ⟨a,k⟩ p.ctor) i).data,(nth (argsOf w ⟨a,k'⟩ p.ctor) i).index⟩ (nth p.kids i)=true
 mem:p.op=4→p.ctor∈vctors w ⟨a,k'⟩
 ops:p.op=1∨p.op=2∨(p.op=3∧a = -1)∨p.op=4∨p.op=5∨p.op=6
theorem tv_facts {w:List Data}{a k:Int} (h:typeValid w ⟨a,k⟩=true):worldValid w=true∧TyIn w.length ⟨a,k⟩∧(a≠ -1→0≤a∧a.toNat<w.length∧0≤k∧k≤3):=by
 unfold typeValid at h
 rw[Bool.and_eq_true] at h
 obtain⟨h1,h2⟩:=h
 simp only[typeOk,within,Bool.or_eq_true,Bool.and_eq_true,decide_eq_true_eq,and_true] at h2
 refine⟨h1, ?_,fun ha=>by omega⟩
 rcases h2 with h|h
 ·exact .inl h.1
 ·exact .inr ⟨a.toNat,by simp only;omega,by omega⟩
def patValid (w:List Data) (a k:Int) (p:Pat):Bool:=typeValid w ⟨a,k⟩&&isP w ⟨a,k⟩ p
structure PVal (w:List Data) (a k:Int) (p:Pat):Prop where
 dp:Dp w
 tin:TyIn w.length ⟨a,k⟩
 shape:shapeP w 10 ⟨a,k⟩ p=true
 rng:a≠ -1→0≤a∧a.toNat<w.length∧0≤k∧k≤3
theorem pval {w:List Data} (hs:WSmall w){a k:Int}{p:Pat} (h:patValid w a k p=true):PVal w a k p:=by
 unfold patValid at h
 rw[Bool.and_eq_true] at h
 obtain⟨h1,h2,h3⟩:=tv_facts h.1
 have h4:=h.2
 unfold isP at h4
 simp only[Bool.and_eq_true] at h4
 exact⟨valid_dp hs h1,h2,h4.1,h3⟩
theorem impl_PatternValid_fn {w:List Data} (hs:WSmall w){a k:Int}{p:Pat} (hok:p.ok):
  FnD Tryz.prog 28 [.d (encDatas w),.agg [.d (.i a),.d (.i k)],.agg [.d (.i p.op),.d (.i p.ctor),.d (.i p.n),.d (.i p.m),.d (.i p.var),.d (encPats p.kids)]] [] (.d (.bool (patValid w a k p))) []:=by
 refine bd Tryz.f28 16 [] [] fun w0 F0 own kept hk=>?_
 refine Walk.box (id:=3004) .none rfl rfl rfl rfl rfl rfl rfl ?_
 refine Walk.box (id:=3005) .none rfl rfl rfl rfl rfl rfl rfl ?_
 refine ev ?_
 refine Walk.call (cr:=[]) cal24 (impl_TypeValid_fn hs) rfl .none rfl rfl (LeL.refl _) trivial rfl rfl rfl ?_
 refine ev ?_
 refine sq (fun h1 h1p h1s=>?_) fun h1 h1p h1s=>?_
 ·try simp only[Q] at h1p
  refine Walk.call (cr:=[]) cal51 (impl_patternOk_fn (valid_wt hs (tv_facts h1s).1) (tv_facts h1s).2.1 hok) rfl (.some rfl rfl h1) rfl rfl (LeL.refl _) trivial rfl rfl rfl ?_
  refine evs [] [(10,true)] ?_ ⟨⟨_,rfl,h1⟩,trivial⟩
  refine rn0 (r1 rfl) (.eqd ?_)
  all_goals (refine congrArg D.bool ?_;unfold patValid;simp_all)
 ·try simp only[Q] at h1p
  refine rn0 (r1 rfl) (.eqd ?_)
  all_goals (refine congrArg D.bool ?_;unfold patValid;simp_all)
theorem spec_TypeValid_v {w:List Data}{a b:Int} (hs:WSmall w):FnD Tryz.prog 38 [.d (encDatas w),.agg [.d (.i a),.d (.i b)]] [] (.d (.bool (typeValid w ⟨a,b⟩))) []:=by
 rw[←spec_tv];exact spec_TypeValid_fn hs
theorem all2_mem {α β:Type} [Inhabited α] [Inhabited β]{f:α→β→Bool}{a:List α}{b:List β} (hl:a.length=b.length) (h:all2 f a b=true):∀i,i<a.length→f (nth a i) (nth b i)=true:=fun i hi=>by
 cases hf:f (nth a i) (nth b i) with
 |true=>rfl
 |false=>rw[all2_nth_false hi hl hf] at h;exact absurd h (by simp)
mutual
theorem valEq_refl:∀v:Val,valEq v v=true
 | .mk _ _ ks=>by simp[valEq,valsEq_refl ks]
theorem valsEq_refl:∀l:List Val,valsEq l l=true
 | []=>rfl
 |v::r=>by simp[valsEq,valEq_refl v,valsEq_refl r]
end
theorem Val.c_len (v:Val):v.c.length=3:=by cases v;rfl
theorem Val.cs_rows {l:List Val}:∀x,x∈Val.cs l→x.length=3:=by
 intro x hx
 rw[Val.cs_eq] at hx
 obtain⟨y,_,rfl⟩:=List.mem_map.1 hx
 exact y.c_len
theorem Val.cs_nil (l:List Val):Val.cs l=[]↔l=[]:=by rw[Val.cs_eq];simp
mutual
def mVal:Val→Nat
 | .mk _ _ ks=>mVals ks
def mVals:List Val→Nat
 | []=>0
 |v::r=>1+mVal v+mVals r
end
mutual
def Val.szM:Val→Int
 | .mk _ _ ks=>2+Vals.szM ks
def Vals.szM:List Val→Int
 | []=>0
 |v::r=>v.szM+Vals.szM r
end
mutual
def Val.one (k:Int):Val→Val
 | .mk _ _ ks=> .mk k (k+1) (Vals.one (k+1+1) ks)
def Vals.one (k:Int):List Val→List Val
 | []=>[]
 |v::r=>v.one k::Vals.one (k+v.szM) r
end
theorem Vals.szM_eq:∀l:List Val,Vals.szM l=szL Val.szM l
 | []=>rfl
 |v::r=>by simp only[Vals.szM,szL,Vals.szM_eq r]
theorem Vals.one_eq:∀(l:List Val) (k:Int),Vals.one k l=mkL Val.one Val.szM k l
 | [],_=>rfl
 |v::r,k=>by simp only[Vals.one,mkL,Vals.one_eq r]
theorem Val.szM_kids (v:Val):v.szM=2+szL Val.szM v.kids:=by cases v;simp only[Val.szM,Val.kids,Vals.szM_eq]
theorem Val.one_kids (v:Val) (k:Int):(v.one k).kids=mkL Val.one Val.szM (k+1+1) v.kids:=by cases v;simp only[Val.one,Val.kids,Vals.one_eq]
theorem Val.one_sc (v:Val) (k:Int):(Val.one k v).ctor=k∧(Val.one k v).num=k+1:=by cases v;exact⟨rfl,rfl⟩
mutual
theorem Val.szM_nn:∀v:Val,0≤v.szM
 | .mk _ _ ks=>by have:=Vals.szM_nn ks;simp only[Val.szM];omega
theorem Vals.szM_nn:∀l:List Val,0≤Vals.szM l
 | []=>by simp[Vals.szM]
 |v::r=>by have:=Val.szM_nn v;have:=Vals.szM_nn r;simp only[Vals.szM];omega
end
mutual
theorem Val.szM_le:∀v:Val,v.szM≤2+2*(mVal v:Int)
 | .mk _ _ ks=>by have:=Vals.szM_le ks;simp only[Val.szM,mVal];omega
theorem Vals.szM_le:∀l:List Val,Vals.szM l≤2*(mVals l:Int)
 | []=>by simp[Vals.szM,mVals]
 |v::r=>by have:=Val.szM_le v;have:=Vals.szM_le r;simp only[Vals.szM,mVals];omega
end
end Go.Proofs.YtflgpdjbgfkhoaaGreat
